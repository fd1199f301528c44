/-
  Texts MsgY4, MsgY6, MsgZ6, MsgQ2, MsgQ8, MsgQ7, MsgR1, MsgR2, MsgR3, MsgQ4, one behind the other. No condition beyond those stated in each.
-/
import Derived.Test.YtgfijlamhjjecaaGreatDoorMt13
import Derived.Test.YtgfijlamhjjecaaGreatDoorMt10
import Derived.Test.YtgfijlamhjjecaaGreatDoorMt6
import Derived.Test.YtgfijlamhjjecaaGreatDoorMt7
import Derived.Test.YtgfijlamhjjecaaGreatDoorMt9
import Derived.Test.YtgfijlamhjjecaaGreatDoorMt5
namespace Go.Proofs.YtgfijlamhjjecaaGreatDoor
open Go.RowKit
structure WInv (p : PD) (hh : Bool × Bool × Bool) (L0 B2 Bk : Nat) (T : Nat → Prop) (w2 : World) (seg0 : List Seg) (k : Nat) (ok : Bool) (bk : MD) (sgv : Value) (xs : List Value) (wx : World) : Prop where
  st : (ok, bk) = ((partF hh).take k).foldl (fun st q => tellsF p.m q.2 st) (decide (p.m.pl < 4), base p.m)
  segs : OGT T L0 wx sgv xs (seg0 ++ ((partF hh).take k).map fun q => partSeg q.1 (q.2.map fun f => f.get p.m))
  row : wx.heap[B2]? = some (.cells #[.int .u8 (p.fr : Int), .int .u8 (p.dst : Int), .int .u64 (p.num : Int), sgv] 41 (0, 0))
  bk : MRow [] 36 bk Bk wx
  fr : Fr [B2] w2 wx
structure IInv (m : MD) (fs : List FK) (st0 : Bool × MD) (Bk L1 : Nat) (w1 : World) (j : Nat) (ok : Bool) (bk : MD) (told : Value) (wy : World) : Prop where
  st : (ok, bk) = tellsF m (fs.take j) st0
  told : wy.ownsRow L1 9 1 told j ((fs.take j).map fun f => sv (sgnT (f.get m)))
  bk : MRow [] 36 bk Bk wy
  fr : Fr [Bk] w1 wy
set_option maxRecDepth 100000 in
set_option maxHeartbeats 16000000 in
theorem mwrap_main (p : PD) (hp : okPD p) {hh : Bool × Bool × Bool} (h : ¬ (8 ≤ p.fr ∨ 8 ≤ p.dst)) (ha : p.ack = false) (hk : hasK p.m.kind = some hh) (ht : mayT p.m.tc p.m.ts = true) (w : World) (hv : VarsOk w) : Calls Tryz.prog 13 #[.agg (pktA p).toArray] w fun e w' => WrapMQ p w e w' := by
  have HQ := Lib.hid (wrapM_main h ha hk ht)
  have hb : (decide (p.fr < 8) && decide (p.dst < 8)) = true := by simp; omega
  have HK := Lib.hid hk
  have HT := Lib.hid ht
  have HV := Lib.hid hv
  have HP := Lib.hid hp
  have hpk := hp.m.kind
  have hpp := hp.m.pl
  unfold pktA msgA
  simp only [List.cons_append, List.nil_append]
  rw [ha]
  clear h hk ht hv hp
  go_enter Tryz.func13, Tryz.ntmps13
  go_upto_region 17 with (first | (go_at_call 41; refine (carriers_any _ _ _).mono ?_; rw [hb]; rintro e w' ⟨rfl, rfl⟩) | (go_at_call 43; go_loud (refine (parts_any _ _).mono ?_; rintro e w1 ⟨v, rfl, hpp2, hbb⟩; rw [HK.out, Option.isSome_some]; have hm : w1.heap[w.heap.size + 3]? = some (.cells #[.int .u8 (p.m.kind : Int), .int .u8 (p.m.tc : Int), .int .u64 (p.m.ts : Int), .int .u8 (p.m.pl : Int), .int .u8 (p.m.c.car : Int), .int .u16 (p.m.c.fl : Int), .int .u32 (p.m.c.we : Int), .int .i64 p.m.c.va, .int .u8 (p.m.c.st : Int), .int .u32 (p.m.c.no : Int), .int .i64 p.m.am, .int .i64 p.m.co] 36 (0, 0)) := (hbb.block _ (by simp <;> omega)).trans (heap_alloc_at (by simp)); have m1 : w1.cell? ⟨w.heap.size + 3, 1, none⟩ = some (.int .u8 (p.m.tc : Int)) := cell_of_row w1 (w.heap.size + 3) 1 _ _ _ hm; have m2 : w1.cell? ⟨w.heap.size + 3, 2, none⟩ = some (.int .u64 (p.m.ts : Int)) := cell_of_row w1 (w.heap.size + 3) 2 _ _ _ hm; have HM1 := Lib.hid hm; have hr : w1.heap[w.heap.size + 1]? = some (.cells #[.int .u8 0, .int .u8 0, .int .u64 0, .slice none 0 0] 41 (0, 0)) := (hbb.block _ (by simp <;> omega)).trans ((Below.heap_alloc _ _ _ (by simp <;> omega)).trans ((Below.heap_alloc _ _ _ (by simp <;> omega)).trans (heap_alloc_at (by simp)))); have HR1 := Lib.hid hr; have hw : w1.heap[w.heap.size + 1 + 1]? = some (.cells #[.int .u8 (p.fr : Int), .int .u8 (p.dst : Int), .int .u64 (p.num : Int), .slice none 0 0] 41 (0, 0)) := (hbb.block _ (by simp <;> omega)).trans ((Below.heap_alloc _ _ _ (by simp <;> omega)).trans (heap_alloc_at (by simp))); have HW1 := Lib.hid hw; have HPA := Lib.hid (hpp2 hh HK.out); have HB1 := Lib.hid hbb; clear hbb hm hpp2 hr hw)) | (go_at_call 44; go_loud (refine (nText_ok HT.out _ (HV.out.on ((((((Below.refl _ _).alloc (Nat.le_refl _) _).alloc (by simp) _).alloc (by simp only [World.size_alloc]; omega) _).alloc (by simp only [World.size_alloc]; omega) _).trans (HB1.out.mono (by simp only [World.size_alloc]; omega))) (Nat.le_refl _))).mono ?_; rintro e w2 ⟨rfl, hb2⟩; have HB2 := Lib.hid hb2; have m3 : w2.cell? ⟨w.heap.size + 3, 3, none⟩ = some (.int .u8 (p.m.pl : Int)) := (hb2.cell (p := ⟨w.heap.size + 3, 3, none⟩) (cell_lt' m1)).trans (cell_of_row w1 (w.heap.size + 3) 3 _ _ _ HM1.out); clear hb2 m1 m2)))
  obtain ⟨B1, hB1⟩ : ∃ B1, w.heap.size + 1 = B1 := ⟨_, rfl⟩
  obtain ⟨B2, hB2⟩ : ∃ B2, B1 + 1 = B2 := ⟨_, rfl⟩
  obtain ⟨B3, hB3⟩ : ∃ B3, B2 + 1 = B3 := ⟨_, rfl⟩
  have hz1 := HB1.out.size
  simp only [World.size_alloc] at hz1
  have hz2 := HB2.out.size
  have FM : Hid (MRow [] 36 p.m B3 w2) := Lib.hid (by
    have h1 := (HB2.out.block (w.heap.size + 3) (by omega)).trans HM1.out
    rw [show w.heap.size + 3 = B3 by omega] at h1
    exact h1)
  have FR : Hid (w2.heap[B1]? = some (.cells #[.int .u8 0, .int .u8 0, .int .u64 0, .slice none 0 0] 41 (0, 0))) := Lib.hid (by
    rw [← hB1]; exact (HB2.out.block (w.heap.size + 1) (by omega)).trans HR1.out)
  have FW : Hid (w2.heap[B2]? = some (.cells #[.int .u8 (p.fr : Int), .int .u8 (p.dst : Int), .int .u64 (p.num : Int), .slice none 0 0] 41 (0, 0))) := Lib.hid (by
    rw [← hB2, ← hB1]; exact (HB2.out.block (w.heap.size + 1 + 1) (by omega)).trans HW1.out)
  have FP : Hid (PartsAt (B3 + 1) w2 v (partF hh)) := Lib.hid (by
    have h1 := HPA.out.on HB2.out (Nat.le_refl _)
    simp only [World.size_alloc] at h1
    rw [show w.heap.size + 1 + 1 + 1 + 1 = B3 + 1 by omega] at h1
    exact h1)
  have HBw : Hid (Below w.heap.size w w2) := Lib.hid ((((((Below.refl _ _).alloc (Nat.le_refl _) _).alloc (by simp) _).alloc (by simp only [World.size_alloc]; omega) _).alloc (by simp only [World.size_alloc]; omega) _).trans (HB1.out.mono (by simp only [World.size_alloc]; omega)) |>.trans (HB2.out.mono (by omega)))
  have hBB : B3 < w2.heap.size ∧ w.heap.size + 3 = B3 ∧ w.heap.size + 2 = B2 ∧ w.heap.size + 1 = B1 := by omega
  rw [hB1, hB2, hB3]
  obtain ⟨hBL, q3, q2, q1⟩ := hBB
  have Q3 := Lib.hid q3
  have Q2 := Lib.hid q2
  have Q1 := Lib.hid q1
  have HV2 : Hid (VarsOk w2) := Lib.hid (HV.out.on HBw.out (Nat.le_refl _))
  clear q1 q2 q3 hB1 hB2 hB3 hz1 hz2 m3 HM1 HR1 HW1 HPA HB1 HB2
  obtain ⟨wd, hwd⟩ : ∃ wd, w2.drew = wd := ⟨_, rfl⟩
  have hwh : wd.heap = w2.heap := by rw [← hwd]; rfl
  obtain ⟨L0, hL0⟩ : ∃ L0, w2.heap.size = L0 := ⟨_, rfl⟩
  have HL0 := Lib.hid hL0
  have HX0 : Hid (Below L0 w2 wd) := Lib.hid (by rw [← hwd, ← hL0]; exact (Below.refl _ _).drew)
  have hzd : wd.heap.size = L0 := by rw [hwh]; exact hL0
  have hBL3 : B3 < L0 := by omega
  have kc : wd.cell? ⟨B3, 0, none⟩ = some (.int .u8 (p.m.kind : Int)) := (cell_ag (by rw [hwh])).trans (cell_of_row w2 B3 0 _ _ _ FM.out)
  have pc : wd.cell? ⟨B3, 3, none⟩ = some (.int .u8 (p.m.pl : Int)) := (cell_ag (by rw [hwh])).trans (cell_of_row w2 B3 3 _ _ _ FM.out)
  have wk : IntKind.i64.wrap (p.m.kind : Int) = (p.m.kind : Int) := IntWalk.i64_in _ (by omega)
  have wp' : IntKind.i64.wrap (p.m.pl : Int) = (p.m.pl : Int) := IntWalk.i64_in _ (by omega)
  have HKC := Lib.hid kc
  have HPC := Lib.hid pc
  have HZD := Lib.hid hzd
  have SX : Hid (∀ {wx : World}, Below L0 wd wx → wx.cell? ⟨B3, 0, none⟩ = some (.int .u8 (p.m.kind : Int)) ∧ wx.cell? ⟨B3, 3, none⟩ = some (.int .u8 (p.m.pl : Int))) := Lib.hid (fun hb => ⟨(hb.cell (p := ⟨B3, 0, none⟩) hBL3).trans HKC.out, (hb.cell (p := ⟨B3, 3, none⟩) hBL3).trans HPC.out⟩)
  have VX : Hid (∀ {wx : World}, Below L0 wd wx → VarsOk wx) := Lib.hid (fun hb => HV2.out.on (HX0.out.trans hb) (by rw [HL0.out]; exact Nat.le_refl _))
  obtain ⟨sk, hsk⟩ : ∃ s : ByteArray, (⟨(sgnT (p.m.kind : Int)).toArray⟩ : ByteArray) = s := ⟨_, rfl⟩
  obtain ⟨sl, hsl⟩ : ∃ s : ByteArray, (⟨(sgnT (p.m.pl : Int)).toArray⟩ : ByteArray) = s := ⟨_, rfl⟩
  obtain ⟨TT, hTT⟩ : ∃ T, body7 p.m.tc p.m.ts ++ [digC ((p.m.tc * 10000000000 + p.m.ts) % 7)] = T := ⟨_, rfl⟩
  obtain ⟨stt, hstt⟩ : ∃ s : ByteArray, (⟨TT.toArray⟩ : ByteArray) = s := ⟨_, rfl⟩
  rw [hTT, hstt]
  have HSK := Lib.hid hsk
  have HSL := Lib.hid hsl
  have HTT := Lib.hid hTT
  have HSTT := Lib.hid hstt
  have IK : Hid (∀ wx : World, VarsOk wx → Calls Tryz.prog 45 #[.int .i64 (p.m.kind : Int)] wx (fun e w' => e = .returned (.string sk) ∧ Below wx.heap.size wx w')) := Lib.hid (fun wx hv => by rw [← HSK.out]; exact itoa_any _ (by omega) (by omega) wx hv)
  have IP : Hid (∀ wx : World, VarsOk wx → Calls Tryz.prog 45 #[.int .i64 (p.m.pl : Int)] wx (fun e w' => e = .returned (.string sl) ∧ Below wx.heap.size wx w')) := Lib.hid (fun wx hv => by rw [← HSL.out]; exact itoa_any _ (by omega) (by omega) wx hv)
  refine wp_region_plan [(0, false), (1, false), (2, false), (6, false), (7, false), (8, false), (9, false), (10, false), (3, true), (4, true), (5, true), (11, true), (12, true), (13, true), (14, true), (15, false), (16, true)] (fun w' => w'.cell? ⟨B3, 0, none⟩ = some (.int .u8 (p.m.kind : Int)) ∧ w'.cell? ⟨B3, 3, none⟩ = some (.int .u8 (p.m.pl : Int))) (by kernel_rfl) (by kernel_rfl) (by rw [hwd]; exact ⟨kc, pc⟩) ?_
  rw [hwd]
  clear hwd hwh hL0 hzd hsk hsl hTT hstt kc pc
  iterate 8 (refine' plan_val rfl rfl (fun w' hS => ?_) ?_; rotate_left; (focus (first | rfl | (obtain ⟨hS1, hS2⟩ := hS; go_simp; rfl))); simp only [Act.put, List.setIfInBounds_toArray, List.set_cons_zero, List.set_cons_succ])
  refine plan_do rfl (fun K hK => ?_)
  go_wp2_with (go_at_call 45; refine (IK.out _ (VX.out (Below.refl _ _))).mono ?_; rintro e wA ⟨rfl, hbA⟩; have HUA := Lib.hid hbA; clear hbA)
  have HXA : Hid (Below L0 wd wA) := Lib.hid (HUA.out.mono (by rw [HZD.out]; exact Nat.le_refl _))
  refine hK _ _ (SX.out HXA.out) ?_
  clear hK K
  have hzA : L0 ≤ wA.heap.size := by have h1 := HUA.out.size; rw [HZD.out] at h1; exact h1
  refine plan_do rfl (fun K hK => ?_)
  go_wp2_with fail
  obtain ⟨wB, hwB⟩ : ∃ wB, wA.alloc (.cells #[.string sk] 9) = wB := ⟨_, rfl⟩
  have HXB : Hid (Below L0 wd wB) := Lib.hid (by rw [← hwB]; exact HXA.out.alloc hzA _)
  obtain ⟨DA, hDA⟩ : ∃ DA, wA.heap.size = DA := ⟨_, rfl⟩
  have hzB : wB.heap.size = DA + 1 := by rw [← hwB, ← hDA]; simp
  have HCB : Hid (CompsAt (fun k => k = DA) wB (.slice (some ⟨DA, 0, none⟩) 1 1) [sgnT (p.m.kind : Int)]) := Lib.hid (by
    have h1 : wB.heap[DA]? = some (.cells ([sgnT (p.m.kind : Int)].map sv).toArray 9 (0, 0)) := by
      rw [← hwB, ← hDA, heap_alloc_new]
      show some (Obj.cells #[.string sk] 9 (0, 0)) = some (Obj.cells #[sv (sgnT (p.m.kind : Int))] 9 (0, 0))
      unfold sv; rw [HSK.out]
    exact row_lit (xs := [sgnT (p.m.kind : Int)].map sv) h1 rfl (by simp))
  rw [hwB, hDA]
  have HZB := Lib.hid hzB
  have hzA' : L0 ≤ DA := by omega
  refine hK _ _ (SX.out HXB.out) ?_
  clear hK K hwB hDA hzB hzA
  refine plan_do rfl (fun K hK => ?_)
  go_wp2_with (go_at_call 42; refine (msegment_any ⟨#[77, 83, 71]⟩ [sgnT (p.m.kind : Int)] _ _ HCB.out (fun k hk => by rw [HZB.out, hk]; omega) (by simp)).mono ?_; rintro e wC ⟨e1, rfl, he1, hbC⟩; rw [HZB.out] at he1 hbC; have HE1 := Lib.hid he1; have HUC := Lib.hid hbC; clear he1 hbC)
  have HXC : Hid (Below L0 wd wC) := Lib.hid (HXB.out.trans (HUC.out.mono (by omega)))
  refine hK _ _ (SX.out HXC.out) ?_
  clear hK K
  have hzC : DA + 1 ≤ wC.heap.size := by have h1 := HUC.out.size; rw [HZB.out] at h1; exact h1
  refine plan_do rfl (fun K hK => ?_)
  go_wp2_with (go_at_call 45; refine (IP.out _ (VX.out HXC.out)).mono ?_; rintro e wD ⟨rfl, hbD⟩; have HUD := Lib.hid hbD; clear hbD)
  have HXD : Hid (Below L0 wd wD) := Lib.hid (HXC.out.trans (HUD.out.mono (by omega)))
  refine hK _ _ (SX.out HXD.out) ?_
  clear hK K
  have hzD : wC.heap.size ≤ wD.heap.size := HUD.out.size
  refine plan_do rfl (fun K hK => ?_)
  go_wp2_with fail
  obtain ⟨wE, hwE⟩ : ∃ wE, wD.alloc (.cells #[.string stt, .string sl] 9) = wE := ⟨_, rfl⟩
  have HXE : Hid (Below L0 wd wE) := Lib.hid (by rw [← hwE]; exact HXD.out.alloc (by omega) _)
  have HUE : Hid (Below wC.heap.size wC wE) := Lib.hid (by rw [← hwE]; exact HUD.out.alloc (by omega) _)
  obtain ⟨DD, hDD⟩ : ∃ DD, wD.heap.size = DD := ⟨_, rfl⟩
  have hzE : wE.heap.size = DD + 1 := by rw [← hwE, ← hDD]; simp
  have HCE : Hid (CompsAt (fun k => k = DD) wE (.slice (some ⟨DD, 0, none⟩) 2 2) [TT, sgnT (p.m.pl : Int)]) := Lib.hid (by
    have h1 : wE.heap[DD]? = some (.cells ([TT, sgnT (p.m.pl : Int)].map sv).toArray 9 (0, 0)) := by
      rw [← hwE, ← hDD, heap_alloc_new]
      show some (Obj.cells #[.string stt, .string sl] 9 (0, 0)) = some (Obj.cells #[sv TT, sv (sgnT (p.m.pl : Int))] 9 (0, 0))
      unfold sv; rw [HSL.out, HSTT.out]
    exact row_lit (xs := [TT, sgnT (p.m.pl : Int)].map sv) h1 rfl (by simp))
  rw [hwE, hDD]
  have HZE := Lib.hid hzE
  have hDD2 : wC.heap.size ≤ DD := by omega
  refine hK _ _ (SX.out HXE.out) ?_
  clear hK K hwE hDD hzE hzD
  refine plan_do rfl (fun K hK => ?_)
  go_wp2_with (go_at_call 42; refine (msegment_any ⟨#[75, 69, 89]⟩ [TT, sgnT (p.m.pl : Int)] _ _ HCE.out (fun k hk => by rw [HZE.out, hk]; omega) (by simp)).mono ?_; rintro e wF ⟨e2, rfl, he2, hbF⟩; rw [HZE.out] at he2 hbF; have HE2 := Lib.hid he2; have HUF := Lib.hid hbF; clear he2 hbF)
  have HXF : Hid (Below L0 wd wF) := Lib.hid (HXE.out.trans (HUF.out.mono (by omega)))
  refine hK _ _ (SX.out HXF.out) ?_
  clear hK K
  have hzF : DD + 1 ≤ wF.heap.size := by have h1 := HUF.out.size; rw [HZE.out] at h1; exact h1
  refine plan_do rfl (fun K hK => ?_)
  go_wp2_with fail
  obtain ⟨DF, hDF⟩ : ∃ DF, wF.heap.size = DF := ⟨_, rfl⟩
  obtain ⟨wG, hwG⟩ : ∃ wG, wF.alloc (.cells #[.string ⟨#[77, 83, 71]⟩, e1, .string ⟨#[75, 69, 89]⟩, e2] 94) = wG := ⟨_, rfl⟩
  have HXG : Hid (Below L0 wd wG) := Lib.hid (by rw [← hwG]; exact HXF.out.alloc (by omega) _)
  have hzG : wG.heap.size = DF + 1 := by rw [← hwG, ← hDF]; simp
  obtain ⟨T, hT⟩ : ∃ T : Nat → Prop, (fun b => L0 ≤ b ∧ b ≠ DF + 1) = T := ⟨_, rfl⟩
  have HTD := Lib.hid hT
  have HOG : Hid (OGT T L0 wG (.slice (some ⟨DF, 0, none⟩) 2 2) [e1, e2] [partSeg tMSG [(p.m.kind : Int)], wordSeg tKEY [TT, sgnT (p.m.pl : Int)]]) := Lib.hid (by
    have h1 := ogt_two (T := T) (B := L0) (w := wF) (t := tMSG) (u := tKEY) (st := ⟨#[77, 83, 71]⟩) (su := ⟨#[75, 69, 89]⟩) rfl rfl (by omega)
      (HE1.out.cong (T := fun b => T b ∧ b < wF.heap.size) (w' := wF) (fun k hk => by rw [← hT]; exact ⟨⟨by omega, by omega⟩, by omega⟩) (fun k hk => (HUF.out.block k (by omega)).trans (HUE.out.block k hk.2)))
      (HE2.out.cong (T := fun b => T b ∧ b < wF.heap.size) (w' := wF) (fun k hk => by rw [← hT]; exact ⟨⟨by omega, by omega⟩, hk.2⟩) (fun k hk => rfl))
    rw [hwG, hDF] at h1
    exact h1)
  rw [hwG, hDF]
  have HZG := Lib.hid hzG
  have hLDF : L0 ≤ DF := by omega
  refine hK _ _ (SX.out HXG.out) ?_
  clear hK K hT hwG hDF hzG hzF hzC hDD2 hzA'
  (refine' plan_val rfl rfl (fun w' hS => ?_) ?_; rotate_left; (focus (obtain ⟨hS1, hS2⟩ := hS; go_simp; rfl)); simp only [Act.put, List.setIfInBounds_toArray, List.set_cons_zero, List.set_cons_succ])
  have hwr : wG.heap[B2]? = some (.cells #[.int .u8 (p.fr : Int), .int .u8 (p.dst : Int), .int .u64 (p.num : Int), .slice none 0 0] 41 (0, 0)) := (HXG.out.block B2 (by have := Q2.out; have := Q3.out; omega)).trans ((HX0.out.block B2 (by have := Q2.out; have := Q3.out; omega)).trans FW.out)
  obtain ⟨⟨c0, c1, c2, c3⟩, g0, g1, g2, g3⟩ := cells4 hwr
  have HWR := Lib.hid hwr
  have hB23 : B2 ≠ B3 := by have := Q2.out; have := Q3.out; omega
  clear hwr
  refine plan_do rfl (fun K hK => ?_)
  go_wp2_with fail
  refine hK _ _ (by
    have h1 := SX.out HXG.out
    exact ⟨(cell_ag (heap_setCell_other _ _ _ _ (by simpa using hB23.symm))).trans h1.1, (cell_ag (heap_setCell_other _ _ _ _ (by simpa using hB23.symm))).trans h1.2⟩) ?_
  clear hK K c0 c1 c2 c3 g0 g1 g2 g3
  refine plan_nil ?_
  obtain ⟨W0, hW0⟩ : ∃ W0, wG.setCell ⟨B2, 3, none⟩ (.slice (some ⟨DF, 0, none⟩) 2 2) = W0 := ⟨_, rfl⟩
  rw [hW0]
  have HF0 : Hid (Fr [B2] w2 W0) := Lib.hid (by
    rw [← hW0]
    exact Fr.trans (F := [B2]) (Below.fr (HX0.out.trans HXG.out) (by rw [HL0.out]; exact Nat.le_refl _) [B2]) (Fr.setCell wG (by simp) _))
  have HW0r : Hid (W0.heap[B2]? = some (.cells #[.int .u8 (p.fr : Int), .int .u8 (p.dst : Int), .int .u64 (p.num : Int), .slice (some ⟨DF, 0, none⟩) 2 2] 41 (0, 0))) := Lib.hid (by rw [← hW0]; exact heap_setCell_same _ B2 3 _ _ _ HWR.out)
  have hzW : W0.heap.size = DF + 1 := by rw [← hW0, ← HZG.out]; simp
  have HOW : Hid (OGT T L0 W0 (.slice (some ⟨DF, 0, none⟩) 2 2) [e1, e2] [partSeg tMSG [(p.m.kind : Int)], wordSeg tKEY [TT, sgnT (p.m.pl : Int)]]) := Lib.hid (by
    rw [← hW0]
    refine HOG.out.fr (F := [B2]) (Fr.setCell wG (by simp) _) (fun k hk => ?_) (fun k hk hm => ?_)
    · have e : k = B2 := by simpa using hk
      rw [← HTD.out, e]
      exact fun h => by have := h.1; have := Q3.out; have := Q2.out; omega
    · have e : k = B2 := by simpa using hm
      have e2 : DF = k := Option.some.inj hk
      have := Q3.out; have := Q2.out
      omega)
  obtain ⟨vo, hvo⟩ := FP.out.form
  subst hvo
  obtain ⟨n, hn⟩ : ∃ n, (partF hh).length = n := ⟨_, rfl⟩
  rw [hn] at FP ⊢
  have HN := Lib.hid hn
  have FM0 : Hid (MRow [] 36 p.m B3 W0) := Lib.hid ((HF0.out.block B3 (by rw [HL0.out]; exact hBL3) (by simpa using hB23.symm)).trans FM.out)
  have k0 : W0.cell? ⟨B3, 0, none⟩ = some (.int .u8 (p.m.kind : Int)) := cell_of_row W0 B3 0 _ _ _ FM0.out
  have k1 : W0.cell? ⟨B3, 1, none⟩ = some (.int .u8 (p.m.tc : Int)) := cell_of_row W0 B3 1 _ _ _ FM0.out
  have k2 : W0.cell? ⟨B3, 2, none⟩ = some (.int .u64 (p.m.ts : Int)) := cell_of_row W0 B3 2 _ _ _ FM0.out
  have k3 : W0.cell? ⟨B3, 3, none⟩ = some (.int .u8 (p.m.pl : Int)) := cell_of_row W0 B3 3 _ _ _ FM0.out
  have HZW := Lib.hid hzW
  clear hW0 hn hzW
  go_upto_region 19 with fail
  obtain ⟨Bk, hBk⟩ : ∃ Bk, DF + 1 = Bk := ⟨_, rfl⟩
  obtain ⟨W1, hW1⟩ : ∃ W1, W0.alloc (.cells #[.int .u8 (p.m.kind : Int), .int .u8 (p.m.tc : Int), .int .u64 (p.m.ts : Int), .int .u8 (p.m.pl : Int), .int .u8 0, .int .u16 0, .int .u32 0, .int .i64 0, .int .u8 0, .int .u32 0, .int .i64 0, .int .i64 0] 36) = W1 := ⟨_, rfl⟩
  obtain ⟨ok0, hok0⟩ : ∃ b, decide ((p.m.pl : Int) < 4) = b := ⟨_, rfl⟩
  have hok1 : decide (p.m.pl < 4) = ok0 := by rw [← hok0]; congr 1; apply propext; omega
  have hB4 : B2 < L0 ∧ B3 < L0 ∧ B2 < B3 ∧ L0 < Bk := by have := Q3.out; have := Q2.out; omega
  have hHz : W0.heap.size = Bk := by rw [HZW.out]; exact hBk
  obtain ⟨hb1, hb2, hb3, hb4⟩ := hB4
  have hTk : ∀ b, T b ↔ (L0 ≤ b ∧ b ≠ Bk) := fun b => by rw [← HTD.out, ← hBk]
  have HTK := Lib.hid hTk
  have hz1 : W1.heap.size = Bk + 1 := by rw [← hW1, ← hHz]; simp
  have HI0 : Hid (WInv p hh L0 B2 Bk T w2 [partSeg tMSG [(p.m.kind : Int)], wordSeg tKEY [TT, sgnT (p.m.pl : Int)]] 0 ok0 (base p.m) (.slice (some ⟨DF, 0, none⟩) 2 2) [e1, e2] W1) := Lib.hid (by
    have hbel : Below W0.heap.size W0 W1 := by rw [← hW1]; exact (Below.refl _ _).alloc (Nat.le_refl _) _
    refine ⟨by rw [List.take_zero, List.foldl_nil, hok1], ?_, (hbel.block B2 (by omega)).trans HW0r.out, ?_, ?_⟩
    · have h1 := HOW.out.below hbel
      simpa using h1
    · show W1.heap[Bk]? = _
      rw [← hW1]
      exact (heap_alloc_at hHz)
    · exact Fr.trans (F := [B2]) HF0.out (Below.fr hbel (Nat.le_refl _) [B2]))
  rw [hok0, hHz, hW1]
  have HZ1 := Lib.hid hz1
  have HBK := Lib.hid hBk
  clear k0 k1 k2 k3 hok0 hok1 hW1 hTk hHz hz1 wk wp'
  go_wp2_with fail
  obtain ⟨S0, hS0⟩ : ∃ S0, [partSeg tMSG [(p.m.kind : Int)], wordSeg tKEY [TT, sgnT (p.m.pl : Int)]] = S0 := ⟨_, rfl⟩
  rw [hS0] at HI0
  have HS0 := Lib.hid hS0
  have HNL : Hid (n ≤ 1000) := Lib.hid (by rw [← HN.out]; obtain ⟨x, y, z⟩ := hh; cases x <;> cases y <;> cases z <;> decide)
  obtain ⟨i0, hi, hzs0, hzs1, hzs2⟩ := info_parts einfo_str
  have HI := Lib.hid hi
  have HSZ0 := Lib.hid hzs0
  have HSZ1 := Lib.hid hzs1
  have HSZ2 := Lib.hid hzs2
  clear hS0 hi hzs0 hzs1 hzs2
  go_loopw [7, 92] (fun okv i wx => ∃ (k : Nat) (ok : Bool) (bk : MD) (sgv : Value) (xs : List Value), k ≤ n ∧ i = .int .i64 (k : Int) ∧ okv = .bool ok ∧ Hid (WInv p hh L0 B2 Bk T w2 S0 k ok bk sgv xs wx)) (fun _ i _ => n - (intOf i).toNat)
  case atStart => exact ⟨0, _, _, _, _, by omega, rfl, rfl, HI0⟩
  case round =>
    obtain ⟨k, ok, bk, sgv, xs, hk, rfl, rfl, HW⟩ := hrel
    have hsl5 : (S0 ++ ((partF hh).take k).map fun q => partSeg q.1 (q.2.map fun f => f.get p.m)).length = 2 + k := by rw [List.length_append, ← HS0.out, List.length_map, List.length_take, HN.out]; simp; omega
    obtain ⟨sga, sgc, rfl⟩ := own_slice HW.out.segs.row
    have HS5 := Lib.hid hsl5
    clear hsl5
    by_cases hlt : k < n
    · skip
      obtain ⟨⟨tag, fs⟩, hq⟩ : ∃ q, (partF hh)[k]? = some q := ⟨_, List.getElem?_eq_getElem (by rw [HN.out]; exact hlt)⟩
      obtain ⟨pb, fv, rfl, hpb, ct0, cf0, hF⟩ := FP.out.get hq
      obtain ⟨fb, rfl, hfb, hFx⟩ := hF
      have nB : ∀ {g : Nat}, B3 + 1 ≤ g → g ∉ [B2] := fun hg hm => by
        have e := List.mem_singleton.1 hm
        omega
      have ct := cell_fr HW.out.fr (nB hpb) ct0
      have cf := cell_fr HW.out.fr (nB hpb) cf0
      have HFX := Lib.hid hFx
      clear ct0 cf0 hFx
      obtain ⟨stg, hstg⟩ : ∃ s : ByteArray, (⟨tag.toArray⟩ : ByteArray) = s := ⟨_, rfl⟩
      unfold sv at ct
      simp only at ct cf
      rw [hstg] at ct
      obtain ⟨fl, hfl⟩ : ∃ l, fs.length = l := ⟨_, rfl⟩
      rw [hfl] at cf
      have hfl6 : fl ≤ 6 := by rw [← hfl]; exact partF_len hh _ (List.mem_of_getElem? hq)
      have HFL := Lib.hid hfl
      have HQK := Lib.hid hq
      have HSTG := Lib.hid hstg
      have a1 : (k : Int) < (n : Int) := by omega
      have a2 : (0 : Int) ≤ (k : Int) := by omega
      obtain ⟨Dx, hDx⟩ : ∃ D, wr.heap.size = D := ⟨_, rfl⟩
      obtain ⟨wx1, hwx1⟩ : ∃ w', wr.alloc (.cells #[.string stg, .slice (some ⟨fb, 0, none⟩) fl fl] 103) = w' := ⟨_, rfl⟩
      have hzx1 : wx1.heap.size = Dx + 1 := by rw [← hwx1, ← hDx]; simp
      have HBX1 : Hid (Below Dx wr wx1) := Lib.hid (by rw [← hwx1, ← hDx]; exact (Below.refl _ _).alloc (Nat.le_refl _) _)
      have HR1x : Hid (wx1.heap[Dx]? = some (.cells #[.string stg, .slice (some ⟨fb, 0, none⟩) fl fl] 103 (0, 0))) := Lib.hid (by rw [← hwx1, ← hDx]; exact heap_alloc_new _ _)
      have hBD : Bk < Dx := by rw [← hDx]; exact HW.out.bk.lt
      have HDX := Lib.hid hDx
      have HZX := Lib.hid hzx1
      have x0 : wx1.cell? ⟨Dx, 0, none⟩ = some (.string stg) := cell_of_row wx1 Dx 0 _ _ _ HR1x.out
      have x1 : wx1.cell? ⟨Dx, 1, none⟩ = some (.slice (some ⟨fb, 0, none⟩) fl fl) := cell_of_row wx1 Dx 1 _ _ _ HR1x.out
      have HWX1 := Lib.hid hwx1
      clear hstg hfl hq hDx hwx1 hzx1
      go_upto_region 22 with fail
      rw [HWX1.out, HDX.out]
      go_wp2_with fail
      have HMx1 : Hid (MRow [] 36 bk Bk wx1) := Lib.hid ((HBX1.out.block Bk hBD).trans HW.out.bk)
      have HII0 : Hid (IInv p.m fs (ok, bk) Bk (Dx + 1) wx1 0 ok bk (.slice none 0 0) wx1) := Lib.hid ⟨rfl, World.ownsRow_nil _ _ _ _, HMx1.out, Fr.trans (F := [Bk]) (Below.fr (Below.refl _ _) (Nat.le_refl _) [Bk]) (Below.fr (Below.refl _ _) (Nat.le_refl _) [Bk])⟩
      have HFRx1 : Hid (Fr [B2] w2 wx1) := Lib.hid (Fr.trans (F := [B2]) HW.out.fr (Below.fr HBX1.out (by rw [HDX.out]; exact Nat.le_refl _) [B2]))
      have HSG1 : Hid (OGT T L0 wx1 (.slice sga (2 + k) sgc) xs (S0 ++ ((partF hh).take k).map fun q => partSeg q.1 (q.2.map fun f => f.get p.m))) := Lib.hid (by
        have h1 := HW.out.segs.below (by rw [HDX.out]; exact HBX1.out)
        rw [HS5.out] at h1
        exact h1)
      have HRW1 : Hid (wx1.heap[B2]? = some (.cells #[.int .u8 (p.fr : Int), .int .u8 (p.dst : Int), .int .u64 (p.num : Int), .slice sga (2 + k) sgc] 41 (0, 0))) := Lib.hid (by
        have h1 := (HBX1.out.block B2 (by omega)).trans HW.out.row
        rw [HS5.out] at h1
        exact h1)
      have HSB : Hid ((Value.slice sga (2 + k) sgc).ownBlock ≠ some Bk) := Lib.hid (own_not HSG1.out.row HMx1.out (by decide))
      clear x0 x1 ct cf
      go_loopw [7, 13, 99] (fun okv tvv i wy => ∃ (j : Nat) (okj : Bool) (bkj : MD) (tv : Value), j ≤ fl ∧ i = .int .i64 (j : Int) ∧ okv = .bool okj ∧ tvv = tv ∧ Hid (IInv p.m fs (ok, bk) Bk (Dx + 1) wx1 j okj bkj tv wy)) (fun _ _ i _ => fl - (intOf i).toNat)
      case atStart => exact ⟨0, _, _, _, by omega, rfl, rfl, rfl, HII0⟩
      case round =>
        obtain ⟨j, okj, bkj, tv, hj, rfl, rfl, htv, HJ⟩ := hrel
        have htv' := htv.symm
        subst htv'
        by_cases hjl : j < fl
        · skip
          obtain ⟨f, hf⟩ : ∃ f, fs[j]? = some f := ⟨_, List.getElem?_eq_getElem (by rw [HFL.out]; exact hjl)⟩
          have HFJ := Lib.hid hf
          have HFy : Hid (Fr [B2] w2 wr) := Lib.hid (HFRx1.out.then_new HJ.out.fr (fun g hg => .inr (by (have e : g = Bk := by simpa using hg); rw [HL0.out]; omega)))
          obtain ⟨x, y, cx, cy, a, hab, rfl, rfl, hca⟩ := HFX.out j f hf
          have cx := cell_fr HFy.out (nB hfb) cx
          have cy := cell_fr HFy.out (nB hfb) cy
          have hca := hca.fr HFy.out (fun b hb => by (have e : b = B2 := by simpa using hb); omega)
          have b1 : (j : Int) < (fl : Int) := by omega
          have b2 : (0 : Int) ≤ (j : Int) := by omega
          obtain ⟨DY, hDY⟩ : ∃ D, wr.heap.size = D := ⟨_, rfl⟩
          obtain ⟨wy1, hwy1⟩ : ∃ w', wr.alloc (.cells #[tellV f.tellFn a, readV f.readFn a] 107) = w' := ⟨_, rfl⟩
          have HBY : Hid (Below DY wr wy1) := Lib.hid (by rw [← hwy1, ← hDY]; exact (Below.refl _ _).alloc (Nat.le_refl _) _)
          have hzy : wy1.heap.size = DY + 1 := by rw [← hwy1, ← hDY]; simp
          have hry : wy1.heap[DY]? = some (.cells #[tellV f.tellFn a, readV f.readFn a] 107 (0, 0)) := by rw [← hwy1, ← hDY]; exact heap_alloc_new _ _
          have y0 : wy1.cell? ⟨DY, 0, none⟩ = some (tellV f.tellFn a) := cell_of_row wy1 DY 0 _ _ _ hry
          have y1 : wy1.cell? ⟨DY, 1, none⟩ = some (readV f.readFn a) := cell_of_row wy1 DY 1 _ _ _ hry
          have hM3 : MRow [] 36 p.m B3 wy1 := (HBY.out.block B3 (by rw [← hDY]; have := HFy.out.size; have := HL0.out; omega)).trans ((HFy.out.block B3 (by rw [HL0.out]; exact hb2) (by simpa using hB23.symm)).trans FM.out)
          have hV1 : VarsOk wy1 := HV.out.on ((HBw.out.trans ((HFy.out.belowB (B := w.heap.size) (by have := HBw.out.size; omega) (fun b hb => by (have e : b = B2 := by simpa using hb); have := Q2.out; omega)))).trans (HBY.out.mono (by rw [← hDY]; have := HFy.out.size; have := HBw.out.size; omega))) (Nat.le_refl _)
          have HTELL := Lib.hid (tell_any f [] 36 p.m HP.out.m B3 a wy1 hV1 hM3 (hca.on HBY.out (by rw [← hDY]; exact Nat.le_refl _)))
          have HCA1 := Lib.hid (hca.on HBY.out (by rw [← hDY]; exact Nat.le_refl _))
          have HV1 := Lib.hid hV1
          have HWY1 := Lib.hid hwy1
          have HDY := Lib.hid hDY
          have HZY := Lib.hid hzy
          clear hf hwy1 hDY hzy hry hM3 hV1 hca
          have hcf := cf_tell f
          have hcr := cf_read f
          go_upto_region 26 with fail
          rw [HWY1.out, HDY.out]
          go_wp2_with fail
          refine HTELL.out.mono ?_
          rintro e wz ⟨rfl, hbz⟩
          have y1z := (hbz.cell (p := ⟨DY, 1, none⟩) (cell_lt' y1)).trans y1
          have HBZ := Lib.hid hbz
          obtain ⟨sf, hsf⟩ : ∃ s : ByteArray, (⟨(sgnT (f.get p.m)).toArray⟩ : ByteArray) = s := ⟨_, rfl⟩
          have HSF := Lib.hid hsf
          have HMZ : Hid (MRow [] 36 bkj Bk wz) := Lib.hid ((hbz.block Bk (by have h1 := HJ.out.bk.lt; have h2 := HBY.out.size; omega)).trans ((HBY.out.block Bk (by rw [← HDY.out]; exact HJ.out.bk.lt)).trans HJ.out.bk))
          have HFZ : Hid (Fr [Bk] wr wz) := Lib.hid (Fr.trans (F := [Bk]) (Below.fr HBY.out (by rw [HDY.out]; exact Nat.le_refl _) [Bk]) (Below.fr hbz (Nat.le_refl _) [Bk]))
          have HKZ : Hid (∀ b, b < wr.heap.size → wz.heap[b]? = wr.heap[b]?) := Lib.hid (fun b hb => (HBZ.out.block b (by have h2 := HBY.out.size; omega)).trans (HBY.out.block b (by rw [← HDY.out]; exact hb)))
          have HHI := Lib.hid (f.bnd64)
          rw [hsf]
          clear hbz y0 y1 cx cy hsf
          cases hin : f.inb (f.get p.m) with
          | false =>
            have HIN := Lib.hid hin
            clear hin
            cases okj with
            | false =>
              have HRW : Hid (wz.ownsRow (Dx + 1) 9 1 tv j ((fs.take j).map fun f => sv (sgnT (f.get p.m)))) := Lib.hid (own_cong HJ.out.told (fun b hb => by
                have h1 := own_lt HJ.out.told hb
                exact HKZ.out b h1.2))
              have hzw : Dx + 1 ≤ wz.heap.size := by
                have h1 := HFZ.out.size
                have h2 := HJ.out.fr.size
                have h3 := HZX.out
                omega
              clear y1z HTELL
              go_wp2_with ((with_reducible refine wpList_at (.call { callee := .builtin .append, args := #[.tmp 119, .tmp 121], argTypes := #[58, 58] }) rfl ?_); go_loud (refine wpList_append_own_at _ rfl _ _ 58 rfl (Dx + 1) 9 i0 (.string ⟨#[]⟩) 1 16 Tryz.underlying58 HI.out HSZ0.out HSZ1.out HSZ2.out rfl (by decide) _ _ _ rfl (HRW.out.alloc _) ⟨wz.heap.size, 0, none⟩ 1 1 [.string sf] rfl rfl (cell_one_new _ _ _) (by simp [Value.oneCell']) (by unfold maxLen; omega) (by omega) (by simp; omega) ?_); intro ov' wg hog hgg _ _; obtain ⟨va', vc', rfl⟩ := own_slice hog; have HOG2 := Lib.hid hog; have HGG := Lib.hid hgg; clear hog hgg)
              go_roundw
              case rel =>
                refine ⟨j + 1, false, bkj, _, by omega, by go_num, rfl, rfl, Lib.hid ⟨?_, ?_, ?_, ?_⟩⟩
                · rw [List.take_add_one, HFJ.out]
                  show _ = List.foldl (tellF p.m) (ok, bk) (fs.take j ++ [f])
                  rw [List.foldl_append]
                  have h1 : List.foldl (tellF p.m) (ok, bk) (fs.take j) = (false, bkj) := HJ.out.st.symm
                  rw [h1]
                  show _ = tellF p.m (false, bkj) f
                  unfold tellF
                  rw [HIN.out]
                  rfl
                · rw [List.take_add_one, HFJ.out, List.map_append]
                  have e : (some f).toList.map (fun f => sv (sgnT (f.get p.m))) = [.string sf] := by rw [← HSF.out]; rfl
                  rw [e]; exact HOG2.out
                · exact ((grown_alloc HGG.out).block Bk (MRow.lt HMZ.out) (fun e => by have h1 := (own_lt HRW.out e.symm).1; omega)).trans HMZ.out
                · exact Fr.then_grown (Fr.trans (F := [Bk]) HJ.out.fr HFZ.out) (grown_alloc HGG.out) (fun g hg => by have h1 := (own_lt HRW.out hg).1; rw [HZX.out]; exact h1)
              case measure => simp [intOf]; omega
            | true =>
              have HRW : Hid (wz.ownsRow (Dx + 1) 9 1 tv j ((fs.take j).map fun f => sv (sgnT (f.get p.m)))) := Lib.hid (own_cong HJ.out.told (fun b hb => by
                have h1 := own_lt HJ.out.told hb
                exact HKZ.out b h1.2))
              have hzw : Dx + 1 ≤ wz.heap.size := by
                have h1 := HFZ.out.size
                have h2 := HJ.out.fr.size
                have h3 := HZX.out
                omega
              clear y1z HTELL
              go_wp2_with ((with_reducible refine wpList_at (.call { callee := .builtin .append, args := #[.tmp 119, .tmp 121], argTypes := #[58, 58] }) rfl ?_); go_loud (refine wpList_append_own_at _ rfl _ _ 58 rfl (Dx + 1) 9 i0 (.string ⟨#[]⟩) 1 16 Tryz.underlying58 HI.out HSZ0.out HSZ1.out HSZ2.out rfl (by decide) _ _ _ rfl (HRW.out.alloc _) ⟨wz.heap.size, 0, none⟩ 1 1 [.string sf] rfl rfl (cell_one_new _ _ _) (by simp [Value.oneCell']) (by unfold maxLen; omega) (by omega) (by simp; omega) ?_); intro ov' wg hog hgg _ _; obtain ⟨va', vc', rfl⟩ := own_slice hog; have HOG2 := Lib.hid hog; have HGG := Lib.hid hgg; clear hog hgg)
              go_roundw
              case rel =>
                refine ⟨j + 1, false, bkj, _, by omega, by go_num, rfl, rfl, Lib.hid ⟨?_, ?_, ?_, ?_⟩⟩
                · rw [List.take_add_one, HFJ.out]
                  show _ = List.foldl (tellF p.m) (ok, bk) (fs.take j ++ [f])
                  rw [List.foldl_append]
                  have h1 : List.foldl (tellF p.m) (ok, bk) (fs.take j) = (true, bkj) := HJ.out.st.symm
                  rw [h1]
                  show _ = tellF p.m (true, bkj) f
                  unfold tellF
                  rw [HIN.out]
                  rfl
                · rw [List.take_add_one, HFJ.out, List.map_append]
                  have e : (some f).toList.map (fun f => sv (sgnT (f.get p.m))) = [.string sf] := by rw [← HSF.out]; rfl
                  rw [e]; exact HOG2.out
                · exact ((grown_alloc HGG.out).block Bk (MRow.lt HMZ.out) (fun e => by have h1 := (own_lt HRW.out e.symm).1; omega)).trans HMZ.out
                · exact Fr.then_grown (Fr.trans (F := [Bk]) HJ.out.fr HFZ.out) (grown_alloc HGG.out) (fun g hg => by have h1 := (own_lt HRW.out hg).1; rw [HZX.out]; exact h1)
              case measure => simp [intOf]; omega
          | true =>
            have HIN := Lib.hid hin
            have hwe : wholeE sf.data.toList f.bnd.1 f.bnd.2 = some (f.get p.m) := by
              have h1 := hin
              unfold FK.inb at h1
              rw [Bool.and_eq_true, decide_eq_true_eq, decide_eq_true_eq] at h1
              refine (whole_iff HHI.out.1 HHI.out.2).2 ⟨?_, h1⟩
              rw [← HSF.out]
            have HWE := Lib.hid hwe
            clear hin hwe
            cases okj with
            | false =>
              have HRW : Hid (wz.ownsRow (Dx + 1) 9 1 tv j ((fs.take j).map fun f => sv (sgnT (f.get p.m)))) := Lib.hid (own_cong HJ.out.told (fun b hb => by
                have h1 := own_lt HJ.out.told hb
                exact HKZ.out b h1.2))
              have hzw : Dx + 1 ≤ wz.heap.size := by
                have h1 := HFZ.out.size
                have h2 := HJ.out.fr.size
                have h3 := HZX.out
                omega
              clear y1z HTELL
              go_wp2_with ((with_reducible refine wpList_at (.call { callee := .builtin .append, args := #[.tmp 119, .tmp 121], argTypes := #[58, 58] }) rfl ?_); go_loud (refine wpList_append_own_at _ rfl _ _ 58 rfl (Dx + 1) 9 i0 (.string ⟨#[]⟩) 1 16 Tryz.underlying58 HI.out HSZ0.out HSZ1.out HSZ2.out rfl (by decide) _ _ _ rfl (HRW.out.alloc _) ⟨wz.heap.size, 0, none⟩ 1 1 [.string sf] rfl rfl (cell_one_new _ _ _) (by simp [Value.oneCell']) (by unfold maxLen; omega) (by omega) (by simp; omega) ?_); intro ov' wg hog hgg _ _; obtain ⟨va', vc', rfl⟩ := own_slice hog; have HOG2 := Lib.hid hog; have HGG := Lib.hid hgg; clear hog hgg)
              go_roundw
              case rel =>
                refine ⟨j + 1, false, bkj, _, by omega, by go_num, rfl, rfl, Lib.hid ⟨?_, ?_, ?_, ?_⟩⟩
                · rw [List.take_add_one, HFJ.out]
                  show _ = List.foldl (tellF p.m) (ok, bk) (fs.take j ++ [f])
                  rw [List.foldl_append]
                  have h1 : List.foldl (tellF p.m) (ok, bk) (fs.take j) = (false, bkj) := HJ.out.st.symm
                  rw [h1]
                  show _ = tellF p.m (false, bkj) f
                  unfold tellF
                  rw [HIN.out]
                  rfl
                · rw [List.take_add_one, HFJ.out, List.map_append]
                  have e : (some f).toList.map (fun f => sv (sgnT (f.get p.m))) = [.string sf] := by rw [← HSF.out]; rfl
                  rw [e]; exact HOG2.out
                · exact ((grown_alloc HGG.out).block Bk (MRow.lt HMZ.out) (fun e => by have h1 := (own_lt HRW.out e.symm).1; omega)).trans HMZ.out
                · exact Fr.then_grown (Fr.trans (F := [Bk]) HJ.out.fr HFZ.out) (grown_alloc HGG.out) (fun g hg => by have h1 := (own_lt HRW.out hg).1; rw [HZX.out]; exact h1)
              case measure => simp [intOf]; omega
            | true =>
              have HRD : Hid (Calls Tryz.prog f.readFn #[.pointer (some ⟨Bk, 0, none⟩), .string sf, .pointer (some ⟨a + 1, 0, none⟩), .pointer (some ⟨a + 2, 0, none⟩), .pointer (some ⟨a, 0, none⟩)] wz (fun e w' => e = .returned (.bool true) ∧ MRow [] 36 (f.set (f.get p.m) bkj) Bk w' ∧ Fr [Bk] wz w')) := Lib.hid (by
                refine (read_any f [] 36 bkj sf ?_ Bk a wz (HV1.out.on HBZ.out (Nat.le_refl _)) HMZ.out (HCA1.out.on HBZ.out (Nat.le_refl _))).mono ?_
                · have h1 : sf.size = (sgnT (f.get p.m)).length := by rw [← HSF.out]; rfl
                  have h2 := (plainW_sgn (v := f.get p.m) (by have := f.get64 HP.out.m; omega)).1
                  omega
                · rintro e w' ⟨rfl, h2, h3⟩
                  rw [HWE.out] at h2 ⊢
                  exact ⟨rfl, h2, h3⟩)
              go_wp2_with fail
              refine HRD.out.mono ?_
              rintro e wz2 ⟨rfl, hmk, hfz⟩
              have HMK := Lib.hid hmk
              have HFZ2 := Lib.hid hfz
              clear hmk hfz
              have HRW : Hid (wz2.ownsRow (Dx + 1) 9 1 tv j ((fs.take j).map fun f => sv (sgnT (f.get p.m)))) := Lib.hid (own_cong HJ.out.told (fun b hb => by
                have h1 := own_lt HJ.out.told hb
                exact (HFZ2.out.block b (by have h4 := HFZ.out.size; omega) (fun hm => by have e := List.mem_singleton.1 hm; omega)).trans (HKZ.out b h1.2)))
              have hzw : Dx + 1 ≤ wz2.heap.size := by
                have h1 := HFZ.out.size
                have h2 := HJ.out.fr.size
                have h3 := HZX.out
                have h4 := HFZ2.out.size
                omega
              clear y1z HTELL HRD
              go_wp2_with ((with_reducible refine wpList_at (.call { callee := .builtin .append, args := #[.tmp 119, .tmp 121], argTypes := #[58, 58] }) rfl ?_); go_loud (refine wpList_append_own_at _ rfl _ _ 58 rfl (Dx + 1) 9 i0 (.string ⟨#[]⟩) 1 16 Tryz.underlying58 HI.out HSZ0.out HSZ1.out HSZ2.out rfl (by decide) _ _ _ rfl (HRW.out.alloc _) ⟨wz2.heap.size, 0, none⟩ 1 1 [.string sf] rfl rfl (cell_one_new _ _ _) (by simp [Value.oneCell']) (by unfold maxLen; omega) (by omega) (by simp; omega) ?_); intro ov' wg hog hgg _ _; obtain ⟨va', vc', rfl⟩ := own_slice hog; have HOG2 := Lib.hid hog; have HGG := Lib.hid hgg; clear hog hgg)
              go_roundw
              case rel =>
                refine ⟨j + 1, true, (f.set (f.get p.m) bkj), _, by omega, by go_num, rfl, rfl, Lib.hid ⟨?_, ?_, ?_, ?_⟩⟩
                · rw [List.take_add_one, HFJ.out]
                  show _ = List.foldl (tellF p.m) (ok, bk) (fs.take j ++ [f])
                  rw [List.foldl_append]
                  have h1 : List.foldl (tellF p.m) (ok, bk) (fs.take j) = (true, bkj) := HJ.out.st.symm
                  rw [h1]
                  show _ = tellF p.m (true, bkj) f
                  unfold tellF
                  rw [HIN.out]
                  rfl
                · rw [List.take_add_one, HFJ.out, List.map_append]
                  have e : (some f).toList.map (fun f => sv (sgnT (f.get p.m))) = [.string sf] := by rw [← HSF.out]; rfl
                  rw [e]; exact HOG2.out
                · exact ((grown_alloc HGG.out).block Bk (MRow.lt HMK.out) (fun e => by have h1 := (own_lt HRW.out e.symm).1; omega)).trans HMK.out
                · exact Fr.then_grown (Fr.trans (F := [Bk]) HJ.out.fr (Fr.trans (F := [Bk]) HFZ.out HFZ2.out)) (grown_alloc HGG.out) (fun g hg => by have h1 := (own_lt HRW.out hg).1; rw [HZX.out]; exact h1)
              case measure => simp [intOf]; omega
        · skip
          obtain rfl : j = fl := by omega
          have hfs : fs.take j = fs := List.take_of_length_le (Nat.le_of_eq HFL.out)
          have hst := HJ.out.st
          have htd := HJ.out.told
          rw [hfs] at hst htd
          have HST := Lib.hid hst
          have hj6 := hfl6
          clear hst hfs
          obtain ⟨ta, tc, rfl⟩ := own_slice htd
          have HTD := Lib.hid htd
          have HTC : Hid (CompsAt (fun b => b < wr.heap.size) wr (.slice ta j tc) (fs.map fun f => sgnT (f.get p.m))) := Lib.hid (by
            have h1 : wr.ownsRow (Dx + 1) 9 1 (.slice ta j tc) ((fs.map fun f => sgnT (f.get p.m)).map sv).length ((fs.map fun f => sgnT (f.get p.m)).map sv) := by
              rw [List.map_map, List.length_map, HFL.out]; exact HTD.out
            exact own_rest h1 (fun b hb => (own_lt h1 hb).2))
          have hDB : Dx ≠ Bk := by omega
          have HRx : Hid (wr.heap[Dx]? = some (.cells #[.string stg, .slice (some ⟨fb, 0, none⟩) j j] 103 (0, 0))) := Lib.hid ((HJ.out.fr.block Dx (by rw [HZX.out]; omega) (by simpa using hDB)).trans HR1x.out)
          have hB2k : B2 ≠ Bk := by omega
          have HRW2 : Hid (wr.heap[B2]? = some (.cells #[.int .u8 (p.fr : Int), .int .u8 (p.dst : Int), .int .u64 (p.num : Int), .slice sga (2 + k) sgc] 41 (0, 0))) := Lib.hid ((HJ.out.fr.block B2 (by rw [HZX.out]; omega) (by simpa using hB2k)).trans HRW1.out)
          have HSG2 : Hid (OGT T L0 wr (.slice sga (2 + k) sgc) xs (S0 ++ ((partF hh).take k).map fun q => partSeg q.1 (q.2.map fun f => f.get p.m))) := Lib.hid (HSG1.out.fr HJ.out.fr (fun g hg => by
            have e := List.mem_singleton.1 hg
            rw [HTK.out, e]; exact fun h => h.2 rfl) (fun g hg hm => by
            have e := List.mem_singleton.1 hm
            rw [e] at hg; exact HSB.out hg))
          have HF2r : Hid (Fr [B2] w2 wr) := Lib.hid (HFRx1.out.then_new HJ.out.fr (fun g hg => .inr (by have e := List.mem_singleton.1 hg; rw [HL0.out]; omega)))
          have HZR : Hid (Dx + 1 ≤ wr.heap.size) := Lib.hid (by have := HJ.out.fr.size; have := HZX.out; omega)
          obtain ⟨we, hwe⟩ : ∃ we, wr.drew = we := ⟨_, rfl⟩
          have hwh : we.heap = wr.heap := by rw [← hwe]; rfl
          have HUE : Hid (Below wr.heap.size wr we) := Lib.hid (by rw [← hwe]; exact (Below.refl _ _).drew)
          have s0 : we.cell? ⟨Dx, 0, none⟩ = some (.string stg) := (cell_ag (by rw [hwh])).trans (cell_of_row wr Dx 0 _ _ _ HRx.out)
          have s1 : we.cell? ⟨B2, 3, none⟩ = some (.slice sga (2 + k) sgc) := (cell_ag (by rw [hwh])).trans (cell_of_row wr B2 3 _ _ _ HRW2.out)
          go_upto_region 30 with fail
          refine wp_region_planF 9 [(0, false), (1, false), (2, false), (3, false), (4, false), (5, true), (6, true), (7, true), (8, false), (9, true)]
            (fun w' => w'.cell? ⟨Dx, 0, none⟩ = some (.string stg) ∧ w'.cell? ⟨B2, 3, none⟩ = some (.slice sga (2 + k) sgc)) (by kernel_rfl) (by kernel_rfl) (by rw [hwe]; exact ⟨s0, s1⟩) ?_
          rw [hwe]
          have hze : we.heap.size = wr.heap.size := by rw [hwh]
          have HZE2 := Lib.hid hze
          have HS01 := Lib.hid (And.intro s0 s1)
          have hDxe : Dx < we.heap.size := cell_lt' s0
          have hB2e : B2 < we.heap.size := cell_lt' s1
          clear hwe hwh hze s0 s1
          iterate 5 (refine' planF_val rfl rfl (fun w' hS => ?_) ?_; rotate_left; (focus (first | rfl | (obtain ⟨hS1, hS2⟩ := hS; go_simp; rfl))); simp only [Act.put, List.setIfInBounds_toArray, List.set_cons_zero, List.set_cons_succ])
          refine planF_do rfl (fun K hK => ?_)
          go_wp2_with (go_at_call 42; refine (msegment_any stg (fs.map fun f => sgnT (f.get p.m)) _ we (HTC.out.cong (T := fun b => b < wr.heap.size) (fun _ h => h) (fun b hb' => HUE.out.block b hb')) (fun b hb' => by rw [HZE2.out]; exact hb') (by rw [List.length_map, HFL.out]; omega)).mono ?_; rintro e wS ⟨ev, rfl, hev, hbS⟩; have HEV := Lib.hid hev; have HUS := Lib.hid hbS; clear hev hbS)
          refine hK _ _ (.inr ⟨(HUS.out.cell (p := ⟨Dx, 0, none⟩) hDxe).trans HS01.out.1, (HUS.out.cell (p := ⟨B2, 3, none⟩) hB2e).trans HS01.out.2⟩) ?_
          clear hK K
          refine planF_do rfl (fun K hK => ?_)
          go_wp2_with fail
          obtain ⟨DS, hDS⟩ : ∃ D, wS.heap.size = D := ⟨_, rfl⟩
          obtain ⟨wT, hwT⟩ : ∃ w', wS.alloc (.cells #[.string stg, ev] 94) = w' := ⟨_, rfl⟩
          have hzT : wT.heap.size = DS + 1 := by rw [← hwT, ← hDS]; simp
          have hes : we.heap.size ≤ DS := by rw [← hDS]; exact HUS.out.size
          have HUT : Hid (Below we.heap.size we wT) := Lib.hid (by rw [← hwT]; exact HUS.out.alloc (by rw [hDS]; exact hes) _)
          have HSM : Hid (SegsAt (fun b => (we.heap.size ≤ b ∧ b < DS) ∨ b = DS) wT (.slice (some ⟨DS, 0, none⟩) 1 1) [partSeg tag (fs.map fun f => f.get p.m)]) := Lib.hid (by
            have h1 := segs_one (t := tag) (st := stg) (es := ones (fs.map fun f => sgnT (f.get p.m))) HSTG.out (HEV.out.cong (T := fun b => we.heap.size ≤ b ∧ b < DS) (fun b hb' => ⟨hb'.1, by rw [← hDS]; exact hb'.2⟩) (fun _ _ => rfl)) (fun b hb' => by rw [hDS]; exact hb'.2)
            rw [hwT, hDS] at h1
            have e : (⟨tag, ones (fs.map fun f => sgnT (f.get p.m))⟩ : Seg) = partSeg tag (fs.map fun f => f.get p.m) := by simp [partSeg, wordSeg, ones, Function.comp_def]
            rw [e] at h1
            exact h1)
          rw [hwT, hDS]
          have HZT := Lib.hid hzT
          clear hwT hDS hzT
          refine hK _ _ (.inr ⟨(HUT.out.cell (p := ⟨Dx, 0, none⟩) hDxe).trans HS01.out.1, (HUT.out.cell (p := ⟨B2, 3, none⟩) hB2e).trans HS01.out.2⟩) ?_
          clear hK K
          refine planF_do rfl (fun K hK => ?_)
          have HUR : Hid (Below wr.heap.size wr wT) := Lib.hid (HUE.out.trans (by have h1 := HUT.out; rw [HZE2.out] at h1; exact h1))
          have HSG3 : Hid (OGT T L0 wT (.slice sga (2 + k) sgc) xs (S0 ++ ((partF hh).take k).map fun q => partSeg q.1 (q.2.map fun f => f.get p.m))) := Lib.hid (HSG2.out.below HUR.out)
          have hzr := HZR.out
          refine wp_app_ogw _ _ rfl rfl rfl rfl HSG3.out HSM.out (fun b hb' => ⟨⟨?_, ?_⟩, fun e => ?_⟩) (by rw [HS5.out]; have := HNL.out; simp; omega) (by rw [HZT.out]; have := HZE2.out; omega) ?_
          · rw [HTK.out]; have := HZE2.out; rcases hb' with h | h <;> omega
          · rw [HZT.out]; rcases hb' with h | h <;> omega
          · have h1 := (own_lt HSG2.out.row e).2
            have := HZE2.out
            rcases hb' with h | h <;> omega
          intro v' w' xs' ho hbl hgr _
          obtain ⟨va', vc', rfl⟩ := own_slice ho.row
          have hl3 : (S0 ++ ((partF hh).take k).map (fun q => partSeg q.1 (q.2.map fun f => f.get p.m)) ++ [partSeg tag (fs.map fun f => f.get p.m)]).length = 2 + k + 1 := by rw [List.length_append, HS5.out]; rfl
          rw [hl3] at ho ⊢
          have HO3 := Lib.hid ho
          have HGR := Lib.hid hgr
          have hzw := hgr.size
          have hB2n : (Value.slice sga (2 + k) sgc).ownBlock ≠ some B2 := fun e => by have h1 := (own_lt HSG2.out.row e).1; omega
          have hrw3 : w'.heap[B2]? = some (.cells #[.int .u8 (p.fr : Int), .int .u8 (p.dst : Int), .int .u64 (p.num : Int), .slice sga (2 + k) sgc] 41 (0, 0)) := (hgr.block B2 (by rw [HZT.out]; omega) (fun e => hB2n e.symm)).trans ((HUR.out.block B2 (by have := HZE2.out; omega)).trans HRW2.out)
          have hDxn : (Value.slice sga (2 + k) sgc).ownBlock ≠ some Dx := own_not HSG2.out.row HRx.out (by decide)
          have hrx3 : w'.heap[Dx]? = some (.cells #[.string stg, .slice (some ⟨fb, 0, none⟩) j j] 103 (0, 0)) := (hgr.block Dx (by rw [HZT.out]; omega) (fun e => hDxn e.symm)).trans ((HUR.out.block Dx (by have := HZE2.out; omega)).trans HRx.out)
          obtain ⟨⟨c0, c1, c2, c3⟩, g0, g1, g2, g3⟩ := cells4 hrw3
          have HRW3 := Lib.hid hrw3
          have cx3 : w'.cell? ⟨Dx, 0, none⟩ = some (.string stg) := cell_of_row w' Dx 0 _ _ _ hrx3
          have HCX3 := Lib.hid cx3
          have HC3 := Lib.hid c3
          have HZW2 := Lib.hid hzw
          clear ho hbl hgr hl3 hrw3 hrx3 cx3 hzw hDxn hB2n htd
          go_wp2_with fail
          refine hK _ _ (.inr ⟨HCX3.out, HC3.out⟩) ?_
          clear hK K
          (refine' planF_val rfl rfl (fun w' hS => ?_) ?_; rotate_left; (focus (first | rfl | (obtain ⟨hS1, hS2⟩ := hS; go_simp; rfl))); simp only [Act.put, List.setIfInBounds_toArray, List.set_cons_zero, List.set_cons_succ])
          refine planF_do rfl (fun K hK => ?_)
          go_wp2_with fail
          refine hK _ _ (.inl trivial) ?_
          clear hK K
          refine planF_nil ?_
          obtain ⟨W5, hW5⟩ : ∃ W, w'.setCell ⟨B2, 3, none⟩ (.slice va' (2 + k + 1) vc') = W := ⟨_, rfl⟩
          rw [hW5]
          have HFs : Hid (Fr [B2] w' W5) := Lib.hid (by rw [← hW5]; exact Fr.setCell _ (by simp) _)
          have HR5 : Hid (W5.heap[B2]? = some (.cells #[.int .u8 (p.fr : Int), .int .u8 (p.dst : Int), .int .u64 (p.num : Int), .slice va' (2 + k + 1) vc'] 41 (0, 0))) := Lib.hid (by rw [← hW5]; exact heap_setCell_same _ B2 3 _ _ _ HRW3.out)
          clear hW5 c0 c1 c2 c3 g0 g1 g2 g3
          have HWN : Hid (WInv p hh L0 B2 Bk T w2 S0 (k + 1) okj bkj (.slice va' (2 + k + 1) vc') xs' W5) := Lib.hid (by
            have hBkr : Bk < wr.heap.size := HJ.out.bk.lt
            have hF3 : Fr [B2] w2 w' := Fr.then_grown (Fr.trans (F := [B2]) HF2r.out (Below.fr HUR.out (Nat.le_refl _) [B2])) HGR.out (fun g hg => by have h1 := (own_lt HSG2.out.row hg).1; rw [HL0.out]; exact h1)
            refine ⟨?_, ?_, HR5.out, ?_, Fr.trans (F := [B2]) hF3 HFs.out⟩
            · rw [List.take_add_one, HQK.out]
              show _ = List.foldl _ _ ((partF hh).take k ++ [(tag, fs)])
              rw [List.foldl_append, ← HW.out.st]
              exact HST.out
            · rw [List.take_add_one, HQK.out]
              have h1 := HO3.out.fr HFs.out (fun g hg => by
                have e := List.mem_singleton.1 hg
                rw [HTK.out, e]; exact fun h => by have := h.1; omega) (fun g hg hm => by
                have e := List.mem_singleton.1 hm
                have h2 := (own_lt HO3.out.row hg).1
                omega)
              have e : (List.take k (partF hh) ++ (some (tag, fs)).toList).map (fun q => partSeg q.1 (q.2.map fun f => f.get p.m)) = ((partF hh).take k).map (fun q => partSeg q.1 (q.2.map fun f => f.get p.m)) ++ [partSeg tag (fs.map fun f => f.get p.m)] := by rw [List.map_append]; rfl
              rw [e, ← List.append_assoc]
              exact h1
            · have h1 : w'.heap[Bk]? = wr.heap[Bk]? := (HGR.out.block Bk (by rw [HZT.out]; have := HZE2.out; omega) (fun e => HSB.out e.symm)).trans (HUR.out.block Bk hBkr)
              exact ((HFs.out.block Bk (by have h2 := HZW2.out; rw [HZT.out] at h2; have := HZE2.out; omega) (by simpa using hB2k.symm)).trans h1).trans HJ.out.bk)
          have hkb : (k : Int) ≤ 1000 := by have := HNL.out; omega
          go_wp2_with fail
          go_roundw
          case rel =>
            exact ⟨k + 1, okj, bkj, _, xs', by omega, by go_num, rfl, HWN⟩
          case measure => simp [intOf]; omega
    · skip
      obtain rfl : k = n := by omega
      have hall : (partF hh).take k = partF hh := List.take_of_length_le (Nat.le_of_eq HN.out)
      have hst := HW.out.st
      have hsg := HW.out.segs
      have hrow := HW.out.row
      rw [hall] at hst hsg hrow
      have hst2 : (ok, bk) = tellsF p.m (allF hh) (decide (p.m.pl < 4), base p.m) := by
        rw [hst]; unfold allF tellsF; rw [List.foldl_flatMap]
      have hmay := tell_may hh p.m
      rw [← hst2] at hmay
      obtain ⟨LN, hLN⟩ : ∃ l, (S0 ++ (partF hh).map fun q => partSeg q.1 (q.2.map fun f => f.get p.m)).length = l := ⟨_, rfl⟩
      rw [hLN] at hsg hrow
      have HSG := Lib.hid hsg
      have HMAY := Lib.hid hmay
      have hB1 : B1 < B2 ∧ B1 < L0 ∧ w.heap.size ≤ B1 := by have := Q1.out; have := Q2.out; omega
      obtain ⟨hB12, hB1L, hB1w⟩ := hB1
      have hres : wr.heap[B1]? = some (.cells #[.int .u8 0, .int .u8 0, .int .u64 0, .slice none 0 0] 41 (0, 0)) := (HW.out.fr.block B1 (by rw [HL0.out]; omega) (by simp; omega)).trans FR.out
      have HRES := Lib.hid hres
      have HBE : Hid (Below w.heap.size w wr) := Lib.hid (HBw.out.trans (HW.out.fr.belowB (B := w.heap.size) (by rw [HL0.out]; omega) (fun b hb' => by have e := List.mem_singleton.1 hb'; omega)))
      have HM3 : Hid (MRow [] 36 p.m B3 wr) := Lib.hid ((HW.out.fr.block B3 (by rw [HL0.out]; omega) (by simpa using hB23.symm)).trans FM.out)
      have HROW := Lib.hid hrow
      obtain ⟨⟨d0, d1, d2, d3⟩, f0, f1, f2, f3⟩ := cells4 hres
      clear hall hst hsg hst2 hmay hres hrow hLN
      cases ok with
      | false =>
        have HE : Hid (wrapM p = (wd0, 101)) := Lib.hid (by rw [HQ.out, if_neg (fun h => by have h2 := (HMAY.out.2 h).1; cases h2)])
        go_wp2_with fail
        refine bodyPost_ret (res_wrap rfl _ rfl rfl (put4_heap HRES.out _ _ _ _) rfl) rfl ?_
        exact wrapMQ_err HE.out (put4_below HBE.out hB1w _ _ _ _)
      | true =>
        have x0 : wr.cell? ⟨Bk, 0, none⟩ = some (.int .u8 (bk.kind : Int)) := cell_of_row wr Bk 0 _ _ _ HW.out.bk
        have x1 : wr.cell? ⟨Bk, 1, none⟩ = some (.int .u8 (bk.tc : Int)) := cell_of_row wr Bk 1 _ _ _ HW.out.bk
        have x2 : wr.cell? ⟨Bk, 2, none⟩ = some (.int .u64 (bk.ts : Int)) := cell_of_row wr Bk 2 _ _ _ HW.out.bk
        have x3 : wr.cell? ⟨Bk, 3, none⟩ = some (.int .u8 (bk.pl : Int)) := cell_of_row wr Bk 3 _ _ _ HW.out.bk
        have x4 : wr.cell? ⟨Bk, 4, none⟩ = some (.int .u8 (bk.c.car : Int)) := cell_of_row wr Bk 4 _ _ _ HW.out.bk
        have x5 : wr.cell? ⟨Bk, 5, none⟩ = some (.int .u16 (bk.c.fl : Int)) := cell_of_row wr Bk 5 _ _ _ HW.out.bk
        have x6 : wr.cell? ⟨Bk, 6, none⟩ = some (.int .u32 (bk.c.we : Int)) := cell_of_row wr Bk 6 _ _ _ HW.out.bk
        have x7 : wr.cell? ⟨Bk, 7, none⟩ = some (.int .i64 bk.c.va) := cell_of_row wr Bk 7 _ _ _ HW.out.bk
        have x8 : wr.cell? ⟨Bk, 8, none⟩ = some (.int .u8 (bk.c.st : Int)) := cell_of_row wr Bk 8 _ _ _ HW.out.bk
        have x9 : wr.cell? ⟨Bk, 9, none⟩ = some (.int .u32 (bk.c.no : Int)) := cell_of_row wr Bk 9 _ _ _ HW.out.bk
        have x10 : wr.cell? ⟨Bk, 10, none⟩ = some (.int .i64 bk.am) := cell_of_row wr Bk 10 _ _ _ HW.out.bk
        have x11 : wr.cell? ⟨Bk, 11, none⟩ = some (.int .i64 bk.co) := cell_of_row wr Bk 11 _ _ _ HW.out.bk
        have y0 : wr.cell? ⟨B3, 0, none⟩ = some (.int .u8 (p.m.kind : Int)) := cell_of_row wr B3 0 _ _ _ HM3.out
        have y1 : wr.cell? ⟨B3, 1, none⟩ = some (.int .u8 (p.m.tc : Int)) := cell_of_row wr B3 1 _ _ _ HM3.out
        have y2 : wr.cell? ⟨B3, 2, none⟩ = some (.int .u64 (p.m.ts : Int)) := cell_of_row wr B3 2 _ _ _ HM3.out
        have y3 : wr.cell? ⟨B3, 3, none⟩ = some (.int .u8 (p.m.pl : Int)) := cell_of_row wr B3 3 _ _ _ HM3.out
        have y4 : wr.cell? ⟨B3, 4, none⟩ = some (.int .u8 (p.m.c.car : Int)) := cell_of_row wr B3 4 _ _ _ HM3.out
        have y5 : wr.cell? ⟨B3, 5, none⟩ = some (.int .u16 (p.m.c.fl : Int)) := cell_of_row wr B3 5 _ _ _ HM3.out
        have y6 : wr.cell? ⟨B3, 6, none⟩ = some (.int .u32 (p.m.c.we : Int)) := cell_of_row wr B3 6 _ _ _ HM3.out
        have y7 : wr.cell? ⟨B3, 7, none⟩ = some (.int .i64 p.m.c.va) := cell_of_row wr B3 7 _ _ _ HM3.out
        have y8 : wr.cell? ⟨B3, 8, none⟩ = some (.int .u8 (p.m.c.st : Int)) := cell_of_row wr B3 8 _ _ _ HM3.out
        have y9 : wr.cell? ⟨B3, 9, none⟩ = some (.int .u32 (p.m.c.no : Int)) := cell_of_row wr B3 9 _ _ _ HM3.out
        have y10 : wr.cell? ⟨B3, 10, none⟩ = some (.int .i64 p.m.am) := cell_of_row wr B3 10 _ _ _ HM3.out
        have y11 : wr.cell? ⟨B3, 11, none⟩ = some (.int .i64 p.m.co) := cell_of_row wr B3 11 _ _ _ HM3.out
        have hne := fun w => neq_msg bk p.m w
        obtain ⟨EQ, hEQ⟩ : ∃ b, eqM bk p.m = b := ⟨_, rfl⟩
        rw [hEQ] at hne
        unfold msgA at hne
        have HEQ := Lib.hid hEQ
        clear hEQ
        cases EQ with
        | false =>
          have HE : Hid (wrapM p = (wd0, 101)) := Lib.hid (by
            rw [HQ.out, if_neg (fun h => ?_)]
            have h2 := (HMAY.out.2 h).2
            have h3 := eqM_iff.2 h2
            rw [HEQ.out] at h3; cases h3)
          go_wp2_with fail
          refine bodyPost_ret (res_wrap rfl _ rfl rfl (put4_heap HRES.out _ _ _ _) rfl) rfl ?_
          exact wrapMQ_err HE.out (put4_below HBE.out hB1w _ _ _ _)
        | true =>
          have HE : Hid (wrapM p = (⟨p.fr, p.dst, p.num, S0 ++ (partF hh).map fun q => partSeg q.1 (q.2.map fun f => f.get p.m)⟩, 0)) := Lib.hid (by
            rw [HQ.out, if_pos (HMAY.out.1 ⟨rfl, eqM_iff.1 HEQ.out⟩), ← HS0.out]
            have e1 : (text7 p.m.tc p.m.ts).1 = TT := by unfold text7; rw [if_pos HT.out]; exact HTT.out
            rw [e1]
            unfold msgSegs
            rw [partsB_F, valsB_F, List.zip_map', List.map_map]
            rfl)
          obtain ⟨⟨c0, c1, c2, c3⟩, g0, g1, g2, g3⟩ := cells4 HROW.out
          go_wp2_with fail
          refine bodyPost_ret (res_wrap rfl _ rfl rfl (put4_heap HRES.out _ _ _ _) rfl) rfl ?_
          unfold WrapMQ
          rw [HE.out]
          refine ⟨_, rfl, ?_, put4_below HBE.out hB1w _ _ _ _, fun _ => ⟨xs, ?_⟩⟩
          rotate_left
          · have e : (put4 wr B1 (.int .u8 (p.fr : Int)) (.int .u8 (p.dst : Int)) (.int .u64 (p.num : Int)) (.slice sga LN sgc)).heap.size = wr.heap.size := by unfold put4; simp
            exact ⟨own_low (own_cong HSG.out.row (fun b hb' => put4_other _ _ _ _ _ _ (by have := (own_lt HSG.out.row hb').1; omega))) (by omega), HSG.out.len, fun i s x h1 h2 => (HSG.out.el i s x h1 h2).cong (fun b hb' => ⟨by have := ((HTK.out b).1 hb'.1).1; omega, by show b < (put4 wr B1 (.int .u8 (p.fr : Int)) (.int .u8 (p.dst : Int)) (.int .u64 (p.num : Int)) (.slice sga LN sgc)).heap.size; have := hb'.2.1; omega, hb'.2.2⟩) (fun b hb' => put4_other _ _ _ _ _ _ (by have := ((HTK.out b).1 hb'.1).1; omega))⟩
          have e : (put4 wr B1 (.int .u8 (p.fr : Int)) (.int .u8 (p.dst : Int)) (.int .u64 (p.num : Int)) (.slice sga LN sgc)).heap.size = wr.heap.size := by unfold put4; simp
          refine SegsAt.cong (HSG.out.rest (S := fun b => L0 ≤ b ∧ b < wr.heap.size) (fun b h1 h2 => ⟨((HTK.out b).1 h1).1, h2⟩) (fun b hb' => ⟨(own_lt HSG.out.row hb').1, (own_lt HSG.out.row hb').2⟩)) (fun b hb' => ⟨by omega, by show b < (put4 wr B1 (.int .u8 (p.fr : Int)) (.int .u8 (p.dst : Int)) (.int .u64 (p.num : Int)) (.slice sga LN sgc)).heap.size; omega⟩) (fun b hb' => put4_other _ _ _ _ _ _ (by omega))
end Go.Proofs.YtgfijlamhjjecaaGreatDoor


namespace Go.Proofs.YtgfijlamhjjecaaGreatDoor
open Go.RowKit
theorem mWrapO_any (p : PD) (hp : okPD p) (w : World) (hv : VarsOk w) : Calls Tryz.prog 13 #[.agg (pktA p).toArray] w fun e w' => WrapMQ p w e w' := by
  by_cases h : 8 ≤ p.fr ∨ 8 ≤ p.dst
  · exact mwrap_car p h w
  cases ha : p.ack with
  | true =>
    by_cases hm : p.m = md0
    · exact mwrap_ack p h ha hm w
    · exact mwrap_ackno p h ha hm w
  | false =>
    cases hk : hasK p.m.kind with
    | none => exact mwrap_kind p h ha hk w
    | some hh =>
      cases ht : mayT p.m.tc p.m.ts with
      | false => exact mwrap_text p hp.m.tc hp.m.ts h ha hk ht w
      | true => exact mwrap_main p hp h ha hk ht w hv
theorem mWrap_any (p : PD) (hp : okPD p) (w : World) (hv : VarsOk w) : Calls Tryz.prog 13 #[.agg (pktA p).toArray] w fun e w' => WrapM0Q p w e w' := (mWrapO_any p hp w hv).mono fun _ _ h => h.weak
end Go.Proofs.YtgfijlamhjjecaaGreatDoor


namespace Go.Proofs.YtgfijlamhjjecaaGreatDoor
open Go.RowKit
def TextQ (p : PD) (w : World) (e : Ending) (w' : World) : Prop := e = .returned (.tuple #[sv (textM p).1, .int .i64 (textM p).2]) ∧ Below w.heap.size w w'
set_option maxRecDepth 100000 in
set_option maxHeartbeats 4000000 in
theorem mText_any (p : PD) (hp : okPD p) (w : World) (hv : VarsOk w) : Calls Tryz.prog 21 #[.agg (pktA p).toArray] w fun e w' => TextQ p w e w' := by
  obtain ⟨B, hB⟩ : ∃ B, w.heap.size = B := ⟨_, rfl⟩
  have HBQ := Lib.hid hB
  obtain ⟨w1, hw1⟩ : ∃ w1, w.alloc (.cells (pktA p).toArray 38) = w1 := ⟨_, rfl⟩
  have HB1 : Hid (Below B w w1) := Lib.hid (by rw [← hw1, ← hB]; exact (Below.refl _ _).alloc (Nat.le_refl _) _)
  have hz1 : w1.heap.size = B + 1 := by rw [← hw1, ← hB]; simp
  have HZ1 := Lib.hid hz1
  have HWR := Lib.hid (mWrap_any p hp w1 (hv.on HB1.out (by rw [hB]; exact Nat.le_refl _)))
  have HV := Lib.hid hv
  have HP := Lib.hid hp
  obtain ⟨X, hX⟩ : ∃ X, wrapM p = X := ⟨_, rfl⟩
  obtain ⟨x, k⟩ := X
  unfold WrapM0Q at HWR
  rw [hX] at HWR
  have HX := Lib.hid hX
  unfold pktA msgA at HWR hw1 ⊢
  simp only [List.cons_append, List.nil_append] at HWR hw1 ⊢
  have HW1 := Lib.hid hw1
  unfold TextQ
  rw [hB]
  clear hB hw1 hz1 hv hp hX
  go_enter Tryz.func21, Tryz.ntmps21
  go_wp2_with fail
  rw [HW1.out]
  refine HWR.out.mono ?_
  rintro e w2 ⟨v, rfl, hs, hb⟩
  unfold wv
  obtain ⟨vo, cap, rfl, hcap, hcm⟩ := hs.form
  clear hcap hcm
  obtain ⟨n, hn⟩ : ∃ n, x.segs.length = n := ⟨_, rfl⟩
  rw [hn] at hs ⊢
  clear hn
  obtain ⟨w3, hw3⟩ : ∃ w3, w2.alloc (.cells #[.int .u8 (x.fr : Int), .int .u8 (x.dst : Int), .int .u64 (x.rf : Int), .slice vo n cap] 41) = w3 := ⟨_, rfl⟩
  have hz2 := hb.size
  have HB2 : Hid (Below B w w2) := Lib.hid (HB1.out.trans (hb.mono (by rw [HZ1.out]; omega)))
  have HB3 : Hid (Below B w w3) := Lib.hid (by rw [← hw3]; exact HB2.out.alloc (by rw [HZ1.out] at hz2; omega) _)
  have HS3 : Hid (SegsAt (fun j => j < w3.heap.size) w3 (.slice vo n cap) x.segs) := Lib.hid (hs.cong (fun j hj => by rw [← hw3]; simp; omega) (fun j hj => by rw [← hw3]; exact Below.heap_alloc _ _ _ hj.2))
  have HW3 := Lib.hid hw3
  clear hs hb hz2 hw3
  by_cases hk : k = 0
  · subst hk
    obtain ⟨q1, q2, q3, q4⟩ := wrapM_plain HX.out
    have HPR := Lib.hid (wPrint_any x (.slice vo n cap) w3 (HV.out.on HB3.out (by rw [HBQ.out]; exact Nat.le_refl _)) (by omega) (by omega) (by rw [q2]; exact HP.out.num) HS3.out (fun j hj => hj) (fun _ => by have := printT_plain q4; omega))
    have HT : Hid (textM p = wrapPrintE x) := Lib.hid (by unfold textM; rw [HX.out]; rfl)
    clear q1 q2 q3 q4
    go_wp2_with fail
    rw [HW3.out]
    refine HPR.out.mono ?_
    rintro e w4 ⟨rfl, hb4⟩
    have HB4 := Lib.hid hb4
    clear hb4
    go_wp2_with fail
    go_ret2
    rw [HT.out]
    exact ⟨rfl, HB3.out.trans (HB4.out.mono HB3.out.size |> fun h => by rw [HBQ.out] at h; exact h)⟩
  · have hk1 : (k != 0) = true := by rw [bne_iff_ne]; exact hk
    have HT : Hid (textM p = ([], k)) := Lib.hid (by unfold textM; rw [HX.out]; simp only; rw [if_neg hk])
    go_wp2_with fail
    rw [HW3.out]
    go_ret2
    rw [HT.out]
    exact ⟨rfl, HB3.out⟩
end Go.Proofs.YtgfijlamhjjecaaGreatDoor


namespace Go.Proofs.YtgfijlamhjjecaaGreatDoor
open Go.RowKit
theorem mText_is {p : PD} (hp : okPD p) {w : World} (hv : VarsOk w) {t : Str} {k : Int} (h : textM p = (t, k)) : Calls Tryz.prog 21 #[.agg (pktA p).toArray] w fun e w' => WTQ t k w e w' := by
  refine (mText_any p hp w hv).mono ?_
  rintro e w' ⟨rfl, hb⟩
  rw [h]
  exact ⟨rfl, hb⟩
def MPQ (q : PD) (k : Int) (w : World) (e : Ending) (w' : World) : Prop := e = .returned (.tuple #[.agg (pktA q).toArray, .int .i64 k]) ∧ Below w.heap.size w w'
theorem mParse_is {s : ByteArray} {w : World} (hv : VarsOk w) {q : PD} {k : Int} (h : parseTM s.data.toList = (q, k)) : Calls Tryz.prog 23 #[.string s] w fun e w' => MPQ q k w e w' := by
  refine (mParse_any s w hv).mono ?_
  rintro e w' ⟨rfl, hb⟩
  rw [h]
  exact ⟨rfl, hb⟩
set_option maxRecDepth 100000 in
set_option maxHeartbeats 4000000 in
theorem tells_any (w : World) (hv : VarsOk w) : Calls Tryz.prog 16 #[] w fun e w' => WSameQ true w e w' := by
  obtain ⟨B, hB⟩ : ∃ B, w.heap.size = B := ⟨_, rfl⟩
  have HBQ := Lib.hid hB
  obtain ⟨w1, hw1⟩ : ∃ w1, w.alloc (.cells (pktA tellsP).toArray 38) = w1 := ⟨_, rfl⟩
  have HB1 : Hid (Below B w w1) := Lib.hid (by rw [← hw1, ← hB]; exact (Below.refl _ _).alloc (Nat.le_refl _) _)
  have hz1 : w1.heap.size = B + 1 := by rw [← hw1, ← hB]; simp
  have HZ1 := Lib.hid hz1
  have HC1 : Hid (w1.heap[B]? = some (.cells (pktA tellsP).toArray 38 (0, 0))) := Lib.hid (by rw [← hw1, ← hB]; exact heap_alloc_new _ _)
  have HV := Lib.hid hv
  have HT := Lib.hid (mText_is (p := tellsP) ⟨by decide, by decide, by decide, ⟨by decide, by decide, by decide, by decide, by decide, by decide, by decide, by decide, by decide, by decide, by decide, by decide⟩⟩ (hv.on HB1.out (by rw [hB]; exact Nat.le_refl _)) tells_text)
  have heq := fun w => eql_pkt tellsR tellsR w
  rw [show eqP tellsR tellsR = true from eqP_iff.2 rfl] at heq
  unfold pktA msgA tellsR md0 cd0 at heq
  unfold pktA msgA tellsP cd0 at HT hw1 HC1
  simp only [List.cons_append, List.nil_append, Int.cast_ofNat_Int] at heq HT hw1 HC1
  have HW1 := Lib.hid hw1
  unfold WSameQ
  rw [hB]
  obtain ⟨z, hz⟩ : ∃ z : ByteArray, (⟨#[85, 78, 66, 43, 49, 43, 50, 43, 55, 39, 77, 83, 71, 43, 49, 39, 75, 69, 89, 43, 48, 48, 49, 48, 48, 48, 48, 48, 48, 48, 48, 48, 49, 53, 43, 48, 39, 85, 78, 90, 43, 50, 43, 55, 39]⟩ : ByteArray) = z := ⟨_, rfl⟩
  have hz' : (⟨tellsT.toArray⟩ : ByteArray) = z := hz
  unfold WTQ sv at HT
  rw [hz'] at HT
  have sz : (z.toList == tellsT) = true := by rw [← hz, ByteArray.toList_eq]; rfl
  unfold tellsT at sz
  clear hB hw1 hz1 hv hz hz'
  go_enter Tryz.func16, Tryz.ntmps16
  go_upto_region 2 with fail
  rw [HW1.out, HBQ.out]
  have d := fun j => cell_of_row w1 B j _ _ _ HC1.out
  obtain ⟨d0, d1, d2, d3, d4, d5, d6, d7, d8, d9, d10, d11, d12, d13, d14, d15⟩ := (cells16 HC1.out).1
  go_upto_region 3 with (go_at_call 21; refine HT.out.mono ?_; rintro e w2 ⟨rfl, hb⟩; rw [HZ1.out] at hb; have HB2 : Hid (Below B w w2) := Lib.hid (HB1.out.trans (hb.mono (Nat.le_succ B))); have HZ2 : Hid (B + 1 ≤ w2.heap.size) := Lib.hid (by have h := hb.size; rw [HZ1.out] at h; exact h); clear hb)
  clear d d0 d1 d2 d3 d4 d5 d6 d7 d8 d9 d10 d11 d12 d13 d14 d15
  have HPA := Lib.hid (mParse_is (s := ⟨#[85, 78, 66, 43, 50, 43, 49, 43, 55, 39, 65, 67, 75, 39, 85, 78, 90, 43, 49, 43, 55, 39]⟩) (w := w2) (HV.out.on HB2.out (by rw [HBQ.out]; exact Nat.le_refl _)) (q := tellsR) (k := 0) tells_parse)
  unfold MPQ pktA msgA tellsR md0 cd0 at HPA
  simp only [List.cons_append, List.nil_append, Int.cast_ofNat_Int] at HPA
  go_upto_region 4 with (go_at_call 23; refine HPA.out.mono ?_; rintro e w3 ⟨rfl, hb⟩; have HB3 : Hid (Below B w w3) := Lib.hid (HB2.out.trans (hb.mono (by have h := HZ2.out; omega))); have HZ3 : Hid (B + 1 ≤ w3.heap.size) := Lib.hid (Nat.le_trans HZ2.out hb.size); clear hb)
  generalize hw4 : World.alloc w3 _ = w4
  have HB4 : Hid (Below B w w4) := Lib.hid (by rw [← hw4]; exact HB3.out.alloc (by have h := HZ3.out; omega) _)
  have HC4 : Hid (w4.heap[w3.heap.size]? = some (.cells #[.int .u8 2, .int .u8 1, .bool true, .int .u64 7, .int .u8 0, .int .u8 0, .int .u64 0, .int .u8 0, .int .u8 0, .int .u16 0, .int .u32 0, .int .i64 0, .int .u8 0, .int .u32 0, .int .i64 0, .int .i64 0] 38 (0, 0))) := Lib.hid (by rw [← hw4]; exact heap_alloc_new _ _)
  clear hw4
  obtain ⟨d0, d1, d2, d3, d4, d5, d6, d7, d8, d9, d10, d11, d12, d13, d14, d15⟩ := (cells16 HC4.out).1
  go_wp2_with fail
  go_ret
  exact ⟨rfl, HB4.out⟩
end Go.Proofs.YtgfijlamhjjecaaGreatDoor


namespace Go.Proofs.YtgfijlamhjjecaaGreatDoor
open Go.RowKit
def WMQ (x : WD) (k : Int) (w : World) (e : Ending) (w' : World) : Prop := ∃ v, e = .returned (.tuple #[wv x v, .int .i64 k]) ∧ SegsAt (fun k => w.heap.size ≤ k ∧ k < w'.heap.size) w' v x.segs ∧ Below w.heap.size w w'
end Go.Proofs.YtgfijlamhjjecaaGreatDoor


namespace Go.Proofs.YtgfijlamhjjecaaGreatDoor
open Go.RowKit
theorem sgn_nat (k : Nat) : sgnT (k : Int) = decT k := by
  unfold sgnT
  rw [if_neg (by omega)]
  rfl
end Go.Proofs.YtgfijlamhjjecaaGreatDoor


namespace Go.Proofs.YtgfijlamhjjecaaGreatDoor
open Go.RowKit
set_option maxRecDepth 100000 in
set_option maxHeartbeats 4000000 in
theorem cpn_any (c : CD) (w : World) : Calls Tryz.prog 93 #[.agg #[.int .u8 (c.car : Int), .int .u16 (c.fl : Int), .int .u32 (c.we : Int), .int .i64 c.va, .int .u8 (c.st : Int), .int .u32 (c.no : Int)]] w fun e w' => e = .returned (.bool (couponB c)) ∧ Below w.heap.size w w' := by
  have HB := Lib.hid ((Below.refl w.heap.size w).alloc (Nat.le_refl _) (.cells #[.int .u8 (c.car : Int), .int .u16 (c.fl : Int), .int .u32 (c.we : Int), .int .i64 c.va, .int .u8 (c.st : Int), .int .u32 (c.no : Int)] 33))
  by_cases h1 : c.car < 8
  · have i1 : decide ((c.car : Int) < 8) = true := by rw [decide_eq_true_eq]; omega
    cases hm : moneyB c.va with
    | false =>
      have HE : Hid (couponB c = false) := Lib.hid (by unfold couponB; rw [hm]; simp)
      go_enter Tryz.func93, Tryz.ntmps93
      go_wp2_with (go_at_call 92; refine (money_any _ _).mono ?_; rw [hm]; rintro e w' ⟨rfl, rfl⟩)
      go_ret
      rw [HE.out]
      exact ⟨rfl, HB.out⟩
    | true =>
      by_cases h3 : 1 ≤ c.st
      · have i3 : decide ((1 : Int) ≤ (c.st : Int)) = true := by rw [decide_eq_true_eq]; omega
        obtain ⟨b, hb⟩ : ∃ b, decide ((c.st : Int) ≤ 7) = b := ⟨_, rfl⟩
        have HE : Hid (couponB c = b) := Lib.hid (by unfold couponB; rw [hm, ← hb]; simp [h1, h3]; omega)
        go_enter Tryz.func93, Tryz.ntmps93
        go_wp2_with (go_at_call 92; refine (money_any _ _).mono ?_; rw [hm]; rintro e w' ⟨rfl, rfl⟩)
        go_ret
        rw [HE.out]
        exact ⟨rfl, HB.out⟩
      · have i3 : decide ((1 : Int) ≤ (c.st : Int)) = false := by rw [decide_eq_false_iff_not]; omega
        have HE : Hid (couponB c = false) := Lib.hid (by unfold couponB; simp [h3])
        go_enter Tryz.func93, Tryz.ntmps93
        go_wp2_with (go_at_call 92; refine (money_any _ _).mono ?_; rw [hm]; rintro e w' ⟨rfl, rfl⟩)
        go_ret
        rw [HE.out]
        exact ⟨rfl, HB.out⟩
  · have i1 : decide ((c.car : Int) < 8) = false := by rw [decide_eq_false_iff_not]; omega
    have HE : Hid (couponB c = false) := Lib.hid (by unfold couponB; simp [h1])
    go_enter Tryz.func93, Tryz.ntmps93
    go_wp2_with fail
    go_ret
    rw [HE.out]
    exact ⟨rfl, HB.out⟩
end Go.Proofs.YtgfijlamhjjecaaGreatDoor


namespace Go.Proofs.YtgfijlamhjjecaaGreatDoor
open Go.RowKit
set_option maxRecDepth 100000 in
set_option maxHeartbeats 4000000 in
theorem eqIn_c0 (c : CD) (w : World) (d : Nat) : (Op.equalIn (d + 4) 33 (.agg (cpnA c).toArray) (.agg #[.int .u8 0, .int .u16 0, .int .u32 0, .int .i64 0, .int .u8 0, .int .u32 0])).run Tryz.prog w = .ok (c0B c) w := by
  unfold cpnA c0B
  go_simp
  simp only [ite_chain, Bool.and_true, Bool.and_assoc]
theorem neq_c0 (c : CD) (w : World) : (binOp .neq 33 (.agg (cpnA c).toArray) (.agg #[.int .u8 0, .int .u16 0, .int .u32 0, .int .i64 0, .int .u8 0, .int .u32 0])).run Tryz.prog w = .ok (.bool (!c0B c)) w := by
  rw [run_neq_struct, eqIn_c0 c w 9996]; rfl
set_option maxRecDepth 100000 in
set_option maxHeartbeats 4000000 in
theorem may_none (m : MD) (hk : hasK m.kind = none) (w : World) : Calls Tryz.prog 48 #[.agg (msgA m).toArray] w fun e w' => e = .returned (.bool (mayR m)) ∧ Below w.heap.size w w' := by
  have HE : Hid (mayR m = false) := Lib.hid (by unfold mayR; rw [hk])
  have HB := Lib.hid ((Below.refl w.heap.size w).alloc (Nat.le_refl _) (.cells (msgA m).toArray 36))
  unfold msgA at HB ⊢
  go_enter Tryz.func48, Tryz.ntmps48
  go_wp2_with (go_at_call 46; refine (has_any _ _).mono ?_; rw [hk]; rintro e w' ⟨rfl, rfl⟩; unfold hasV)
  go_ret
  rw [HE.out]
  exact ⟨rfl, HB.out⟩
set_option maxRecDepth 100000 in
set_option maxHeartbeats 4000000 in
theorem may_out (m : MD) {a b c : Bool} (hk : hasK m.kind = some (a, b, c)) (hn : ¬ (m.pl < 4 ∧ moneyB m.am = true ∧ 0 ≤ m.co ∧ m.co ≤ 999)) (w : World) : Calls Tryz.prog 48 #[.agg (msgA m).toArray] w fun e w' => e = .returned (.bool (mayR m)) ∧ Below w.heap.size w w' := by
  have HE : Hid (mayR m = false) := Lib.hid (by
    unfold mayR; rw [hk]; simp only
    by_cases h1 : m.pl < 4
    · cases h2 : moneyB m.am with
      | false => simp
      | true =>
        by_cases h3 : 0 ≤ m.co
        · have h4 : ¬ m.co ≤ 999 := fun h => hn ⟨h1, h2, h3, h⟩
          simp [h4]
        · simp [h3]
    · simp [h1])
  have HB := Lib.hid ((Below.refl w.heap.size w).alloc (Nat.le_refl _) (.cells (msgA m).toArray 36))
  unfold msgA at HB ⊢
  by_cases h1 : m.pl < 4
  · have i1 : decide ((4 : Int) ≤ (m.pl : Int)) = false := by rw [decide_eq_false_iff_not]; omega
    cases h2 : moneyB m.am with
    | false =>
      clear hn
      go_enter Tryz.func48, Tryz.ntmps48
      go_wp2_with (first | (go_at_call 46; refine (has_any _ _).mono ?_; rw [hk]; rintro e w' ⟨rfl, rfl⟩; unfold hasV) | (go_at_call 92; refine (money_any _ _).mono ?_; rw [h2]; rintro e w' ⟨rfl, rfl⟩))
      go_ret
      rw [HE.out]
      exact ⟨rfl, HB.out⟩
    | true =>
      by_cases h3 : m.co < 0
      · have i3 : decide (m.co < 0) = true := by rw [decide_eq_true_eq]; exact h3
        clear hn
        go_enter Tryz.func48, Tryz.ntmps48
        go_wp2_with (first | (go_at_call 46; refine (has_any _ _).mono ?_; rw [hk]; rintro e w' ⟨rfl, rfl⟩; unfold hasV) | (go_at_call 92; refine (money_any _ _).mono ?_; rw [h2]; rintro e w' ⟨rfl, rfl⟩))
        go_ret
        rw [HE.out]
        exact ⟨rfl, HB.out⟩
      · have i3 : decide (m.co < 0) = false := by rw [decide_eq_false_iff_not]; exact h3
        have i4 : decide ((999 : Int) < m.co) = true := by rw [decide_eq_true_eq]; exact Int.not_le.1 (fun h => hn ⟨h1, h2, by omega, h⟩)
        clear hn
        go_enter Tryz.func48, Tryz.ntmps48
        go_wp2_with (first | (go_at_call 46; refine (has_any _ _).mono ?_; rw [hk]; rintro e w' ⟨rfl, rfl⟩; unfold hasV) | (go_at_call 92; refine (money_any _ _).mono ?_; rw [h2]; rintro e w' ⟨rfl, rfl⟩))
        go_ret
        rw [HE.out]
        exact ⟨rfl, HB.out⟩
  · have i1 : decide ((4 : Int) ≤ (m.pl : Int)) = true := by rw [decide_eq_true_eq]; omega
    clear hn
    go_enter Tryz.func48, Tryz.ntmps48
    go_wp2_with (go_at_call 46; refine (has_any _ _).mono ?_; rw [hk]; rintro e w' ⟨rfl, rfl⟩; unfold hasV)
    go_ret
    rw [HE.out]
    exact ⟨rfl, HB.out⟩
end Go.Proofs.YtgfijlamhjjecaaGreatDoor


namespace Go.Proofs.YtgfijlamhjjecaaGreatDoor
open Go.RowKit
set_option maxRecDepth 100000 in
set_option maxHeartbeats 16000000 in
theorem may_in (m : MD) {a b c : Bool} (hk : hasK m.kind = some (a, b, c)) (h1 : m.pl < 4) (h2 : moneyB m.am = true) (h3 : 0 ≤ m.co) (h4 : m.co ≤ 999) (w : World) : Calls Tryz.prog 48 #[.agg (msgA m).toArray] w fun e w' => e = .returned (.bool (mayR m)) ∧ Below w.heap.size w w' := by
  have HM : Hid (mayR m = ((if a then couponB m.c else c0B m.c) && (b || decide (m.am = 0)) && (c || decide (m.co = 0)))) := Lib.hid (by unfold mayR; rw [hk, h2]; simp [h1, h3, h4])
  obtain ⟨w1, hw1⟩ : ∃ w1, w.alloc (.cells (msgA m).toArray 36) = w1 := ⟨_, rfl⟩
  have HB := Lib.hid ((Below.refl w.heap.size w).alloc (Nat.le_refl _) (.cells (msgA m).toArray 36))
  have HC : Hid (w1.heap[w.heap.size]? = some (.cells (msgA m).toArray 36 (0, 0))) := Lib.hid (by rw [← hw1]; exact heap_alloc_new _ _)
  rw [hw1] at HB
  have HZ : Hid (w.heap.size < w1.heap.size) := Lib.hid (by rw [← hw1]; simp)
  have HW := Lib.hid hw1
  clear hw1
  unfold msgA at HC HW ⊢
  have i1 : decide ((4 : Int) ≤ (m.pl : Int)) = false := by rw [decide_eq_false_iff_not]; omega
  have i3 : decide (m.co < 0) = false := by rw [decide_eq_false_iff_not]; omega
  have i4 : decide ((999 : Int) < m.co) = false := by rw [decide_eq_false_iff_not]; omega
  have hne := fun w => neq_c0 m.c w
  unfold cpnA at hne
  clear h3 h4
  cases a with
  | true =>
    cases hcb : couponB m.c with
    | false =>
      have HE : Hid (mayR m = false) := Lib.hid (by rw [HM.out, hcb]; simp)
      go_enter Tryz.func48, Tryz.ntmps48
      go_upto_region 4 with (first | (go_at_call 46; refine (has_any _ _).mono ?_; rw [hk]; rintro e w' ⟨rfl, rfl⟩; unfold hasV) | (go_at_call 92; refine (money_any _ _).mono ?_; rw [h2]; rintro e w' ⟨rfl, rfl⟩))
      rw [HW.out]
      have d := fun j => cell_of_row w1 w.heap.size j _ _ _ HC.out
      have d4 := d 4
      have d5 := d 5
      have d6 := d 6
      have d7 := d 7
      have d8 := d 8
      have d9 := d 9
      clear d
      go_wp2_with fail
      refine (cpn_any _ _).mono ?_
      rw [hcb]
      rintro e w2 ⟨rfl, hb2⟩
      have HB2 := Lib.hid hb2
      clear hb2
      go_wp2_with fail
      go_ret
      rw [HE.out]
      exact ⟨rfl, HB.out.trans (HB2.out.mono (Nat.le_of_lt HZ.out))⟩
    | true =>
      obtain ⟨z, hz⟩ : ∃ z, (m.am == 0) = z := ⟨_, rfl⟩
      obtain ⟨y, hy⟩ : ∃ y, (m.co == 0) = y := ⟨_, rfl⟩
      have HE : Hid (mayR m = ((b || z) && (c || y))) := Lib.hid (by rw [HM.out, hcb, show decide (m.am = 0) = z from hz, show decide (m.co = 0) = y from hy]; simp)
      go_enter Tryz.func48, Tryz.ntmps48
      go_upto_region 4 with (first | (go_at_call 46; refine (has_any _ _).mono ?_; rw [hk]; rintro e w' ⟨rfl, rfl⟩; unfold hasV) | (go_at_call 92; refine (money_any _ _).mono ?_; rw [h2]; rintro e w' ⟨rfl, rfl⟩))
      rw [HW.out]
      have d := fun j => cell_of_row w1 w.heap.size j _ _ _ HC.out
      have d4 := d 4
      have d5 := d 5
      have d6 := d 6
      have d7 := d 7
      have d8 := d 8
      have d9 := d 9
      clear d
      go_wp2_with fail
      refine (cpn_any _ _).mono ?_
      rw [hcb]
      rintro e w2 ⟨rfl, hb2⟩
      have HB2 := Lib.hid hb2
      have HR2 := Lib.hid ((hb2.block _ HZ.out).trans HC.out)
      have e10 := cell_of_row w2 w.heap.size 10 _ _ _ HR2.out
      have e11 := cell_of_row w2 w.heap.size 11 _ _ _ HR2.out
      clear hb2
      cases b <;> cases c <;> cases z <;> cases y <;> (go_wp2_with fail; go_ret; rw [HE.out]; exact ⟨rfl, HB.out.trans (HB2.out.mono (Nat.le_of_lt HZ.out))⟩)
  | false =>
    cases h0 : c0B m.c with
    | false =>
      rw [h0] at hne
      simp only [Bool.not_false] at hne
      have HE : Hid (mayR m = false) := Lib.hid (by rw [HM.out, h0]; simp)
      go_enter Tryz.func48, Tryz.ntmps48
      go_wp2_with (first | (go_at_call 46; refine (has_any _ _).mono ?_; rw [hk]; rintro e w' ⟨rfl, rfl⟩; unfold hasV) | (go_at_call 92; refine (money_any _ _).mono ?_; rw [h2]; rintro e w' ⟨rfl, rfl⟩))
      go_ret
      rw [HE.out]
      exact ⟨rfl, by rw [HW.out]; exact HB.out⟩
    | true =>
      rw [h0] at hne
      simp only [Bool.not_true] at hne
      obtain ⟨z, hz⟩ : ∃ z, (m.am == 0) = z := ⟨_, rfl⟩
      obtain ⟨y, hy⟩ : ∃ y, (m.co == 0) = y := ⟨_, rfl⟩
      have HE : Hid (mayR m = ((b || z) && (c || y))) := Lib.hid (by rw [HM.out, h0, show decide (m.am = 0) = z from hz, show decide (m.co = 0) = y from hy]; simp)
      go_enter Tryz.func48, Tryz.ntmps48
      go_upto_region 6 with (first | (go_at_call 46; refine (has_any _ _).mono ?_; rw [hk]; rintro e w' ⟨rfl, rfl⟩; unfold hasV) | (go_at_call 92; refine (money_any _ _).mono ?_; rw [h2]; rintro e w' ⟨rfl, rfl⟩))
      rw [HW.out]
      have e10 := cell_of_row w1 w.heap.size 10 _ _ _ HC.out
      have e11 := cell_of_row w1 w.heap.size 11 _ _ _ HC.out
      cases b <;> cases c <;> cases z <;> cases y <;> (go_wp2_with fail; go_ret; rw [HE.out]; exact ⟨rfl, HB.out⟩)
theorem may_any (m : MD) (w : World) : Calls Tryz.prog 48 #[.agg (msgA m).toArray] w fun e w' => e = .returned (.bool (mayR m)) ∧ Below w.heap.size w w' := by
  cases hk : hasK m.kind with
  | none => exact may_none m hk w
  | some h =>
    obtain ⟨a, b, c⟩ := h
    by_cases hn : m.pl < 4 ∧ moneyB m.am = true ∧ 0 ≤ m.co ∧ m.co ≤ 999
    · exact may_in m hk hn.1 hn.2.1 hn.2.2.1 hn.2.2.2 w
    · exact may_out m hk hn w
end Go.Proofs.YtgfijlamhjjecaaGreatDoor


namespace Go.Proofs.YtgfijlamhjjecaaGreatDoor
open Go.RowKit
theorem okM_C {m : MD} (h : okM m) : okC m.c := ⟨by have := h.fl; omega, by have := h.we; omega, by have := h.no; omega⟩
theorem mayR_is {m : MD} (h : okM m) : mayR m = (match hasK m.kind with | some hh => mayM hh m | none => false) := by
  cases hk : hasK m.kind with
  | none => unfold mayR; rw [hk]
  | some hh => exact mayR_eq hk (okM_C h)
def MayQ (b : Bool) (w : World) (e : Ending) (w' : World) : Prop := e = .returned (.bool b) ∧ Below w.heap.size w w'
theorem MayQ.of {b b' : Bool} {w w' : World} (h : b' = b) (hb : Below w.heap.size w w') : MayQ b w (.returned (.bool b')) w' := ⟨by rw [h], hb⟩
end Go.Proofs.YtgfijlamhjjecaaGreatDoor

