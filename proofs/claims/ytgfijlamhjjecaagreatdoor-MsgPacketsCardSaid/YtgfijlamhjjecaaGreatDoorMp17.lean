/-
  Texts WrapN, one behind the other. No condition beyond those stated in each.
-/
import Derived.Test.YtgfijlamhjjecaaGreatDoorMp9
import Derived.Test.YtgfijlamhjjecaaGreatDoorMp16
/-
  WrapN: contract of law04's own: an interchange in memory of its own. No condition beyond those stated.
-/
namespace Go.Proofs.YtgfijlamhjjecaaGreatDoor
open Go.RowKit
theorem OO.far {B B' : Nat} {w w' : World} {ov : Value} {xs : List Value} {l : List Seg} (h : OO B' w ov xs l) (hB : B ≤ B') (hz : w.heap.size ≤ w'.heap.size) (e : ∀ k, B' ≤ k → k < w.heap.size → w'.heap[k]? = w.heap[k]?) : OO B w' ov xs l := by
  have hr := own_cong h.row (fun k hk => e k (own_lt h.row hk).1 (own_lt h.row hk).2)
  refine ⟨?_, h.len, fun i s x h1 h2 => (h.el i s x h1 h2).cong (fun k hk => ⟨by omega, by omega, hk.2.2⟩) (fun k hk => e k hk.1 hk.2.1)⟩
  obtain ⟨a, b | ⟨g, cap, cur, r, hg, hh⟩⟩ := hr
  · exact ⟨a, .inl b⟩
  · exact ⟨a, .inr ⟨g, cap, cur, r, by omega, hh⟩⟩
def WOwnQ (x : WD) (w : World) (e : Ending) (w' : World) : Prop := ∃ v' xs, e = .returned (wv x v') ∧ OO w.heap.size w' v' xs x.segs ∧ Below w.heap.size w w'
theorem res_wrap1 {fn : Func} {p : Tmp} (h : fn.results = #[.cell p 41]) (tmps : Array Value) {w : World} {g : Nat} {cs : Array Value} {t : TypeId} (hp : tmps.getD p undef = .pointer (some ⟨g, 0, none⟩))
    (hg : w.heap[g]? = some (.cells cs t (0, 0))) (hs : cs.size = 4) : (results fn tmps).run Tryz.prog w = .ok (.agg cs) w := by
  rw [results_cell1 h, hp]
  have hl : (loadVar 41 ⟨g, 0, none⟩).run Tryz.prog w = .ok (.agg cs) w := run_loadVar_row w g t 41 cs (0, 0) _ hg Tryz.underlying41 rfl (by rw [hs]; kernel_rfl)
  simp [asAddr, hl, Result.andThen]
set_option maxRecDepth 100000 in
set_option maxHeartbeats 8000000 in
theorem wown_any {S : Nat → Prop} (x : WD) (v : Value) (w : World) (h : SegsAt S w v x.segs) (hS : ∀ k, S k → k < w.heap.size) (hP : (printT x.segs).length ≤ 1048576) :
    Calls Tryz.prog 18 #[wv x v] w fun e w' => WOwnQ x w e w' := by
  obtain ⟨fr, dst, rf, l⟩ := x
  simp only at h hP
  have hb := bds_of hP
  obtain ⟨ao, cap, rfl, h1, h2⟩ := h.form
  have H := Lib.hid (h.cong (T := Low w) hS (fun _ _ => rfl))
  have hn := hb.n
  have HBD := Lib.hid hb
  obtain ⟨n, hln⟩ : ∃ n, l.length = n := ⟨_, rfl⟩
  have HLN := Lib.hid hln
  rw [hln] at h1 hn H ⊢
  clear hb hP hln h hS
  unfold maxLen at h2
  obtain ⟨B0, hB0⟩ : ∃ B, w.heap.size = B := ⟨_, rfl⟩
  have HBQ0 := Lib.hid hB0
  unfold WOwnQ wv
  simp only
  rw [hB0]
  obtain ⟨wA, hw1⟩ : ∃ wA, w.alloc (.cells #[.int .u8 (fr : Int), .int .u8 (dst : Int), .int .u64 (rf : Int), .slice ao n cap] 41) = wA := ⟨_, rfl⟩
  obtain ⟨wB, hw2⟩ : ∃ wB, wA.alloc (.cells #[.int .u8 0, .int .u8 0, .int .u64 0, .slice none 0 0] 41) = wB := ⟨_, rfl⟩
  have hz1 : wA.heap.size = B0 + 1 := by rw [← hw1]; simp [hB0]
  have HB01 : Hid (Below B0 w wA) := Lib.hid (by rw [← hw1, ← hB0]; exact (Below.refl _ _).alloc (Nat.le_refl _) _)
  have HB02 : Hid (Below (B0 + 1) wA wB) := Lib.hid (by rw [← hw2, ← hz1]; exact (Below.refl _ _).alloc (Nat.le_refl _) _)
  have hr1 : wB.heap[B0]? = some (.cells #[.int .u8 (fr : Int), .int .u8 (dst : Int), .int .u64 (rf : Int), .slice ao n cap] 41 (0, 0)) := (HB02.out.block B0 (by omega)).trans (by rw [← hw1, ← hB0]; exact heap_alloc_new _ _)
  have hr2 : wB.heap[B0 + 1]? = some (.cells #[.int .u8 0, .int .u8 0, .int .u64 0, .slice none 0 0] 41 (0, 0)) := by rw [← hw2, ← hz1]; exact heap_alloc_new _ _
  have HB00 : Hid (Below B0 w wB) := Lib.hid (HB01.out.trans (HB02.out.mono (by omega)))
  obtain ⟨B, hBd⟩ : ∃ B, B = B0 + 2 := ⟨_, rfl⟩
  have hz2 : wB.heap.size = B := by rw [← hw2, hBd]; simp [hz1]
  have HR1 := Lib.hid hr1
  have HR2 := Lib.hid hr2
  have HBD0 := Lib.hid hBd
  have HW1 := Lib.hid hw1
  have HW2 := Lib.hid hw2
  have HZ1 := Lib.hid hz1
  have HBQ := Lib.hid hz2
  have HHH := H
  have H : Hid (SegsAt (fun k => k < B0) wB (.slice ao n cap) l) := Lib.hid (HHH.out.cong (fun k hk => by rw [← hB0]; exact hk) (fun k hk => HB00.out.block k (by rw [← hB0]; exact hk)))
  clear HHH hB0 hw1 hw2 hz1 hz2 hr1 hr2 HB01 HB02
  have hB0B : B0 + 2 = B := HBD0.out.symm
  obtain ⟨i1, hi1, hz10, hz11, hz12⟩ := info_parts einfo_str
  obtain ⟨i2, hi2, hz20, hz21, hz22⟩ := info_parts einfo_strs
  obtain ⟨i3, hi3, hz30, hz31, hz32⟩ := info_parts einfo_seg
  have HI1 := Lib.hid hi1
  have HZ10 := Lib.hid hz10
  have HZ11 := Lib.hid hz11
  have HZ12 := Lib.hid hz12
  have HI2 := Lib.hid hi2
  have HZ20 := Lib.hid hz20
  have HZ21 := Lib.hid hz21
  have HZ22 := Lib.hid hz22
  have HI3 := Lib.hid hi3
  have HZ30 := Lib.hid hz30
  have HZ31 := Lib.hid hz31
  have HZ32 := Lib.hid hz32
  clear hi1 hz10 hz11 hz12 hi2 hz20 hz21 hz22 hi3 hz30 hz31 hz32
  go_enter Tryz.func18, Tryz.ntmps18
  go_upto_region 1 with fail
  rw [HW1.out, HW2.out, HBQ0.out]
  go_wp2_with fail
  go_loopw [3, 4] (fun ov i wr => ∃ (k : Nat) (xs : List Value), k ≤ n ∧ i = .int .i64 (k : Int) ∧ Hid (OO B wr ov xs (l.take k)) ∧ Hid (Below B wB wr)) (fun _ i _ => n - (intOf i).toNat)
  case atStart => exact ⟨0, [], by omega, rfl, Lib.hid (OO.start _ _), Lib.hid (Below.refl _ _)⟩
  case round =>
    obtain ⟨k, xs, hk, rfl, HO, HBE⟩ := hrel
    have q0 := (cells4 ((HBE.out.block B0 (by omega)).trans HR1.out)).1.2.2.2
    by_cases hlt : k < n
    · skip
      obtain ⟨s, hs⟩ : ∃ s, l[k]? = some s := ⟨_, List.getElem?_eq_getElem (by rw [HLN.out]; exact hlt)⟩
      obtain ⟨sb, off, x, rfl, hsb, c0, c1, hel⟩ := H.out.get hs
      obtain ⟨t, es⟩ := s
      obtain ⟨eo, ecap, rfl, he1, he2⟩ := hel.form
      have HEL := Lib.hid hel
      have hsb' : sb < B := by omega
      have d0 := (HBE.out.cell (p := ⟨sb, off + k * 2, none⟩) hsb').trans c0
      have HC1 := Lib.hid c1
      have HS := Lib.hid hs
      have hbs := HBD.out.seg ⟨t, es⟩ (List.mem_of_getElem? hs)
      have HBE1 := Lib.hid (HBD.out.el ⟨t, es⟩ (List.mem_of_getElem? hs))
      have hws := HBE.out.size
      rw [HBQ.out] at hws
      obtain ⟨hbt, hbe, hbg⟩ := hbs
      obtain ⟨st, hst⟩ : ∃ st : ByteArray, (⟨t.toArray⟩ : ByteArray) = st := ⟨_, rfl⟩
      have HST := Lib.hid hst
      obtain ⟨m0, hm0⟩ : ∃ m0, es.length = m0 := ⟨_, rfl⟩
      have HM0 := Lib.hid hm0
      simp only [sv] at d0
      rw [hst] at d0
      simp only at he1 hbe HC1
      rw [hm0] at he1 hbe HC1
      unfold maxLen at he2
      clear hs hsb c0 c1 hel hst hm0 hbt hbg
      have b1 : (0 : Int) ≤ k := by omega
      have b2 : (k : Int) < n := by omega
      go_upto_region 6 with fail
      clear q0
      obtain ⟨Hz, hHz⟩ : ∃ z, wr.heap.size = z := ⟨_, rfl⟩
      obtain ⟨w2, hw2⟩ : ∃ w2, wr.alloc (.cells #[.string st, .slice none 0 0] 94) = w2 := ⟨_, rfl⟩
      have HE0 : Hid (OE Hz Hz st w2 (.slice none 0 0) [] []) := Lib.hid (OE.start (by rw [← hw2, ← hHz]; exact heap_alloc_new _ _))
      have HB0 : Hid (Below Hz wr w2) := Lib.hid (by rw [← hw2, ← hHz]; exact (Below.refl _ _).alloc (Nat.le_refl _) _)
      have hz2 : w2.heap.size = Hz + 1 := by rw [← hw2, ← hHz]; simp
      have HZ2 := Lib.hid hz2
      have HHZ := Lib.hid hHz
      rw [hHz, hw2]
      rw [hHz] at hws
      clear hw2 hHz hz2 d0
      go_wp2_with fail
      go_loopw [6] (fun i wx => ∃ (m : Nat) (ev : Value) (ys : List Value), m ≤ m0 ∧ i = .int .i64 (m : Int) ∧ Hid (OE Hz Hz st wx ev ys (es.take m)) ∧ Hid (Below Hz wr wx) ∧ Hz < wx.heap.size) (fun i _ => m0 - (intOf i).toNat)
      case atStart => exact ⟨0, _, [], by omega, rfl, HE0, HB0, by rw [HZ2.out]; omega⟩
      case round =>
        obtain ⟨m, ev, ys, hm, rfl, HE1, HB1, hzx⟩ := hrel
        clear HE0 HB0
        have q1 := (cells4 ((HB1.out.block B0 (by omega)).trans ((HBE.out.block B0 (by omega)).trans HR1.out))).1.2.2.2
        have d1 := (HB1.out.cell (p := ⟨sb, off + k * 2 + 1, none⟩) (show sb < Hz by omega)).trans ((HBE.out.cell (p := ⟨sb, off + k * 2 + 1, none⟩) hsb').trans HC1.out)
        by_cases hml : m < m0
        · skip
          obtain ⟨e, he⟩ : ∃ e, es[m]? = some e := ⟨_, List.getElem?_eq_getElem (by rw [HM0.out]; exact hml)⟩
          obtain ⟨eb, eoff, x2, rfl, heb, e0, hco⟩ := HEL.out.get he
          obtain ⟨ea, ecap2, rfl, hc1, hc2⟩ := hco.form
          have heb' : eb < B := by omega
          have hag : ∀ b, b < B → wr.heap[b]? = wB.heap[b]? := fun b hb => (HB1.out.block b (by omega)).trans (HBE.out.block b hb)
          have e1 := (cell_ag (j := eoff + m) (hag eb heb')).trans e0
          have HCO := Lib.hid (hco.cong (T := fun b => b < B) (fun b hb => by omega) (fun b hb => hag b (by omega)))
          obtain ⟨hne1, hne2⟩ := HBE1.out e (List.mem_of_getElem? he)
          have HE := Lib.hid he
          have hlm : (es.take m).length = m := by rw [List.length_take, HM0.out]; omega
          obtain ⟨eva, evc, rfl⟩ := own_slice HE1.out.row
          rw [hlm] at HE1
          obtain ⟨f0, f1, fz⟩ := HE1.out.cells
          obtain ⟨ne, hne⟩ : ∃ ne, e.length = ne := ⟨_, rfl⟩
          have HNE := Lib.hid hne
          rw [hne] at e1 hne1 hc1 HCO
          have b3 : (0 : Int) ≤ m := by omega
          have b4 : (m : Int) < m0 := by omega
          have HLM := Lib.hid hlm
          unfold maxLen at hc2
          clear he heb e0 hco hne hag hlm f0
          go_upto_region 9 with fail
          obtain ⟨wd, hwd⟩ : ∃ wd, wr.drew = wd := ⟨_, rfl⟩
          have hwh : wd.heap = wr.heap := by rw [← hwd]; rfl
          have HE2 := Lib.hid (HE1.out.drew hwh)
          have HB2 := Lib.hid (show Below wr.heap.size wr wd by rw [← hwd]; exact (Below.refl _ _).drew)
          have f1' : wd.cell? ⟨Hz, 1, none⟩ = some (.slice eva m evc) := (cell_ag (by rw [hwh])).trans f1
          have fz' : wd.frozen? ⟨Hz, 1, none⟩ = false := (fz_ag (by rw [hwh])).trans fz
          have q1' : wd.cell? ⟨B0, 3, none⟩ = some (.slice (some ⟨sb, off, none⟩) n cap) := (cell_ag (by rw [hwh])).trans q1
          have d1' : wd.cell? ⟨sb, off + k * 2 + 1, none⟩ = some (.slice (some ⟨eb, eoff, none⟩) m0 ecap) := (cell_ag (by rw [hwh])).trans d1
          have e1' : wd.cell? ⟨eb, eoff + m, none⟩ = some (.slice ea ne ecap2) := (cell_ag (by rw [hwh])).trans e1
          have HCO2 := Lib.hid (HCO.out.cong (T := fun b => b < B) (fun b hb => hb) (w' := wd) (fun b _ => by rw [hwh]))
          have HWS := Lib.hid (show wd.heap.size = wr.heap.size by rw [hwh])
          refine wp_region_planF 16 [(0, false), (1, false), (3, false), (4, false), (5, false), (6, false), (7, false), (8, false), (9, false), (10, false), (11, false), (2, true), (12, true), (13, true), (14, true), (15, false), (16, true)]
            (fun w' => w'.cell? ⟨Hz, 1, none⟩ = some (.slice eva m evc) ∧ w'.cell? ⟨sb, off + k * 2 + 1, none⟩ = some (.slice (some ⟨eb, eoff, none⟩) m0 ecap) ∧ w'.cell? ⟨eb, eoff + m, none⟩ = some (.slice ea ne ecap2) ∧ w'.cell? ⟨B0, 3, none⟩ = some (.slice (some ⟨sb, off, none⟩) n cap)) (by kernel_rfl) (by kernel_rfl) (by rw [hwd]; exact ⟨f1', d1', e1', q1'⟩) ?_
          rw [hwd]
          have HF1 := Lib.hid f1'
          have HFZ := Lib.hid fz'
          have HD1 := Lib.hid d1'
          have HE3 := Lib.hid e1'
          have HQ1 := Lib.hid q1'
          clear hwd hwh f1 fz d1 e1 q1 HE1 HCO f1' fz' d1' e1' q1'
          iterate 11 (refine' planF_val rfl rfl (fun w' hS => ?_) ?_; rotate_left; (focus (obtain ⟨hS1, hS2, hS3, hS4⟩ := hS; go_simp; rfl)); simp only [Act.put, List.setIfInBounds_toArray, List.set_cons_zero, List.set_cons_succ])
          refine planF_do rfl (fun K hK => ?_)
          go_wp2_with fail
          have KEEP : ∀ w' : World, (∀ b, b < wd.heap.size → w'.heap[b]? = wd.heap[b]?) → (w'.cell? ⟨Hz, 1, none⟩ = some (.slice eva m evc) ∧ w'.cell? ⟨sb, off + k * 2 + 1, none⟩ = some (.slice (some ⟨eb, eoff, none⟩) m0 ecap) ∧ w'.cell? ⟨eb, eoff + m, none⟩ = some (.slice ea ne ecap2) ∧ w'.cell? ⟨B0, 3, none⟩ = some (.slice (some ⟨sb, off, none⟩) n cap)) := fun w' hw' =>
            ⟨(cell_ag (hw' _ (cell_lt' HF1.out))).trans HF1.out, (cell_ag (hw' _ (cell_lt' HD1.out))).trans HD1.out, (cell_ag (hw' _ (cell_lt' HE3.out))).trans HE3.out, (cell_ag (hw' _ (cell_lt' HQ1.out))).trans HQ1.out⟩
          have HKEEP := Lib.hid KEEP
          clear KEEP
          refine hK _ _ (.inr (HKEEP.out _ (fun b hb => Below.heap_alloc _ _ _ hb))) ?_
          clear hK K
          obtain ⟨D, hD⟩ : ∃ D, wd.heap.size = D := ⟨_, rfl⟩
          obtain ⟨we, hwe⟩ : ∃ we, wd.alloc (.cells #[] 9) = we := ⟨_, rfl⟩
          have HOe : Hid (we.ownsRow D 9 1 (.slice (some ⟨D, 0, none⟩) 0 0) 0 []) := Lib.hid (by
            rw [← hwe, ← hD]
            exact ⟨rfl, .inr ⟨wd.heap.size, 0, #[], rfl, Nat.le_refl _, heap_alloc_new _ _, Nat.le_refl _, by decide, rfl, rfl⟩⟩)
          have HBe := Lib.hid (show Below D wd we by rw [← hwe, ← hD]; exact (Below.refl _ _).alloc (Nat.le_refl _) _)
          have hze : we.heap.size = D + 1 := by rw [← hwe, ← hD]; simp
          have HZE := Lib.hid hze
          have HDD := Lib.hid hD
          have hBD : B ≤ D := by have h1 := HWS.out; rw [← hD, h1]; omega
          have HCO3 := Lib.hid (HCO2.out.cong (T := fun b => b < B) (fun b hb => hb) (w' := we) (fun b hb => HBe.out.block b (by omega)))
          rw [hD, hwe]
          clear hD hwe hze
          refine planF_do rfl (fun K hK => ?_)
          refine wp_app_row rfl _ _ rfl rfl rfl HOe.out HCO3.out (by rw [HNE.out]; omega) (by rw [HZE.out]; omega) ?_
          intro cv wf hof hgf hkf
          rw [HNE.out, Nat.zero_add, List.nil_append] at hof
          obtain ⟨cva, cvc, rfl⟩ := own_slice hof
          have hzf := hgf.size
          rw [HZE.out] at hzf
          have HBf := Lib.hid (HBe.out.grown hgf (by rw [HZE.out]; omega) (fun b hb => by cases hb; exact Nat.le_refl _))
          have HCV : Hid (CompsAt (fun b => D ≤ b ∧ b < wf.heap.size) wf (.slice cva ne cvc) e) := Lib.hid (by
            have h1 : wf.ownsRow D 9 1 (.slice cva ne cvc) (e.map sv).length (e.map sv) := by rw [List.length_map, HNE.out]; exact hof
            exact own_rest h1 (fun b hb => own_lt hof hb))
          clear hof hgf hkf
          go_wp2_with fail
          refine hK _ _ (.inr (HKEEP.out _ (fun b hb => HBf.out.block b (by rw [← HDD.out]; exact hb)))) ?_
          clear hK K
          refine planF_do rfl (fun K hK => ?_)
          go_wp2_with fail
          refine hK _ _ (.inr (HKEEP.out _ (fun b hb => (Below.heap_alloc _ _ _ (by rw [HDD.out] at hb; omega)).trans (HBf.out.block b (by rw [← HDD.out]; exact hb))))) ?_
          clear hK K
          refine planF_do rfl (fun K hK => ?_)
          have hrow : wf.ownsRow Hz 58 1 (.slice eva m evc) m ys := by
            have h1 := HE2.out.row
            rw [HLM.out] at h1
            exact own_cong h1 (fun b hb => HBf.out.block b (by rw [← HDD.out]; exact (own_lt h1 hb).2))
          have HRW := Lib.hid hrow
          have hspD : Hz < D := by have h1 := HE2.out.lt; rw [HDD.out] at h1; exact h1
          clear hrow
          refine wpList_append_own_at _ rfl _ _ 92 rfl Hz 58 i2 (.slice none 0 0) 1 24 Tryz.underlying92 HI2.out HZ20.out HZ21.out HZ22.out rfl (by decide) _ _ _ rfl (HRW.out.alloc _) ⟨wf.heap.size, 0, none⟩ 1 1 [.slice cva ne cvc] rfl rfl (cell_one_new _ _ _) (by simp [Value.oneCell']) (by unfold maxLen; omega) (by omega) (by simp; omega) ?_
          intro ev' wg hog hgg _ hkg
          obtain ⟨ev'a, ev'c, rfl⟩ := own_slice hog
          have hgg' := grown_alloc hgg
          have hzg := hgg'.size
          have hne1 : (Value.slice eva m evc).ownBlock ≠ some Hz := own_not HE2.out.row HE2.out.c (by decide)
          have cg : wg.heap[Hz]? = some (.cells #[.string st, .slice eva m evc] 94 (0, 0)) := (hgg'.block Hz (by omega) (fun e => hne1 e.symm)).trans ((HBf.out.block Hz hspD).trans HE2.out.c)
          have cg1 : wg.cell? ⟨Hz, 1, none⟩ = some (.slice eva m evc) := cell_of_row wg Hz 1 _ _ _ cg
          have fg1 : wg.frozen? ⟨Hz, 1, none⟩ = false := frozen_of_row wg Hz 1 _ _ cg
          have HSTEP : Hid (OE Hz Hz st (wg.setCell ⟨Hz, 1, none⟩ (.slice ev'a (m + 1) ev'c)) (.slice ev'a (m + 1) ev'c) (ys ++ [.slice cva ne cvc]) (es.take m ++ [e])) := Lib.hid (by
            refine OE.step HE2.out (by rw [HDD.out]; omega) (by rw [HDD.out]; exact HBf.out) (by rw [HDD.out]; exact HCV.out) hgg' (by rw [HLM.out]; exact hog) ?_
            rcases hkg with h | h
            · exact .inl h
            · exact .inr ⟨_, h, by simp⟩)
          have hbel : ∀ b, b < wd.heap.size → (Value.slice eva m evc).ownBlock ≠ some b → wg.heap[b]? = wd.heap[b]? := fun b hb hne => (hgg'.block b (by rw [HDD.out] at hb; omega) (fun e => hne e.symm)).trans (HBf.out.block b (by rw [← HDD.out]; exact hb))
          have hnb : ∀ b, b < Hz → (Value.slice eva m evc).ownBlock ≠ some b := fun b hb he => by have := (own_lt HRW.out he).1; omega
          have KS : wg.cell? ⟨Hz, 1, none⟩ = some (.slice eva m evc) ∧ wg.cell? ⟨sb, off + k * 2 + 1, none⟩ = some (.slice (some ⟨eb, eoff, none⟩) m0 ecap) ∧ wg.cell? ⟨eb, eoff + m, none⟩ = some (.slice ea ne ecap2) ∧ wg.cell? ⟨B0, 3, none⟩ = some (.slice (some ⟨sb, off, none⟩) n cap) :=
            ⟨cg1, (cell_ag (hbel sb (cell_lt' HD1.out) (hnb sb (by omega)))).trans HD1.out, (cell_ag (hbel eb (cell_lt' HE3.out) (hnb eb (by omega)))).trans HE3.out, (cell_ag (hbel B0 (cell_lt' HQ1.out) (hnb B0 (by omega)))).trans HQ1.out⟩
          have HBG : Hid (Below Hz wr wg) := Lib.hid (by
            have h1 := (HBf.out.mono (show Hz ≤ D by omega))
            have h2 := HB2.out.mono (show Hz ≤ wr.heap.size by omega)
            have h3 := h2.trans h1
            exact h3.grown hgg' (by omega) (fun b hb => (own_lt HRW.out hb).1))
          have HKS := Lib.hid KS
          clear hog hgg hkg hgg' hne1 cg hbel hnb KS
          go_wp2_with fail
          refine hK _ _ (.inr HKS.out) ?_
          clear hK K
          iterate 1 (refine' planF_val rfl rfl (fun w' hS => ?_) ?_; rotate_left; (focus (obtain ⟨hS1, hS2, hS3, hS4⟩ := hS; go_simp; rfl)); simp only [Act.put, List.setIfInBounds_toArray, List.set_cons_zero, List.set_cons_succ])
          refine planF_do rfl (fun K hK => ?_)
          go_wp2_with fail
          refine hK _ _ (.inl trivial) ?_
          clear hK K
          refine planF_nil ?_
          clear cg1 fg1
          obtain ⟨wh, hwh⟩ : ∃ wh, wg.setCell ⟨Hz, 1, none⟩ (.slice ev'a (m + 1) ev'c) = wh := ⟨_, rfl⟩
          have hzh : wh.heap.size = wg.heap.size := by rw [← hwh]; simp
          have HBH : Hid (Below Hz wr wh) := Lib.hid (by rw [← hwh]; exact HBG.out.setCell (Nat.le_refl _) _)
          rw [hwh] at HSTEP ⊢
          have HHB := Lib.hid (HB1.out.trans HBH.out)
          have hzz : Hz < wh.heap.size := by omega
          clear hwh hzh
          go_wp2_with fail
          go_roundw
          case rel =>
            exact ⟨m + 1, .slice ev'a (m + 1) ev'c, ys ++ [.slice cva ne cvc], by omega, by go_num, Lib.hid (by rw [List.take_add_one, HE.out]; exact HSTEP.out), Lib.hid HHB.out, hzz⟩
          case measure => simp [intOf]; omega
        · skip
          obtain rfl : m = m0 := by omega
          have hte : es.take m = es := List.take_of_length_le (by rw [HM0.out]; exact Nat.le_refl _)
          rw [hte] at HE1
          obtain ⟨eva, evc, rfl⟩ := own_slice HE1.out.row
          have hlo : (l.take k).length = k := by rw [List.length_take, HLN.out]; omega
          have hro := HO.out.row
          rw [hlo] at hro
          have hHB := HB1.out.size
          have hro2 : wr.ownsRow B 94 2 u3 k (segCells (l.take k) xs) := own_cong hro (fun b hb => HB1.out.block b (by rw [← HHZ.out]; exact (own_lt hro hb).2))
          obtain ⟨oa, oc, rfl⟩ := own_slice hro2
          have HRO := Lib.hid hro2
          have HLO := Lib.hid hlo
          obtain ⟨f0, f1, fz⟩ := HE1.out.cells
          rw [HM0.out] at f1
          have HB3 := Lib.hid (show Below B wB wr from HBE.out.trans (HB1.out.mono hws))
          clear hte hlo hro hro2 fz
          go_wp2_with ((with_reducible refine wpList_at (.call { callee := .builtin .append, args := #[.tmp 48, .tmp 50], argTypes := #[39, 39] }) rfl ?_); go_loud (refine wpList_append_own_at _ rfl _ _ 39 rfl B 94 i3 (.agg #[.string ⟨#[]⟩, .slice none 0 0]) 2 40 Tryz.underlying39 HI3.out HZ30.out HZ31.out HZ32.out rfl (by decide) _ _ _ rfl (HRO.out.alloc _) ⟨wr.heap.size, 0, none⟩ 1 1 [.string st, .slice eva m evc] rfl rfl (cells_two _ _ _ _) (by simp [Value.oneCell']) (by unfold maxLen; omega) (by omega) (by simp; omega) ?_); intro ov' w4 ho hg _ hk; have HO4 := Lib.hid ho; have HG4 := Lib.hid (show World.grownBy _ w4 (Value.slice oa k oc).ownBlock from hg); have HK4 : Hid (ov'.ownBlock = (Value.slice oa k oc).ownBlock ∨ ∃ b, ov'.ownBlock = some b ∧ wr.heap.size ≤ b) := Lib.hid (by rcases hk with h | h; exact .inl h; exact .inr ⟨_, h, by simp⟩); clear ho hg hk)
          go_roundw
          case rel =>
            have hg := grown_alloc HG4.out
            have hst := OO.step HO.out HST.out HHZ.out (by omega) HB1.out (by have h := HE1.out; rw [HM0.out] at h; exact h) hg (by rw [HLO.out]; exact HO4.out) HK4.out
            exact ⟨k + 1, xs ++ [.slice eva m evc], by omega, by go_num, Lib.hid (by rw [List.take_add_one, HS.out]; exact hst), Lib.hid (HB3.out.grown hg (by omega) (fun b hb => (own_lt HRO.out hb).1))⟩
          case measure => simp [intOf]; omega
    · skip
      obtain rfl : k = n := by omega
      have hte : l.take k = l := List.take_of_length_le (by rw [HLN.out]; exact Nat.le_refl _)
      rw [hte] at HO
      have hlb := HO.out.row
      rw [HLN.out] at hlb
      obtain ⟨oa, oc, rfl⟩ := own_slice hlb
      have hb0 := (HBE.out.block B0 (by omega)).trans HR1.out
      have hb1 := (HBE.out.block (B0 + 1) (by omega)).trans HR2.out
      have z0 := (cells4 hb0).2.2.2.2
      have hs0 := heap_setCell_same wr B0 3 _ _ (.slice oa k oc) hb0
      have hs1 : (wr.setCell ⟨B0, 3, none⟩ (.slice oa k oc)).heap[B0 + 1]? = _ := (heap_setCell_other wr _ _ _ (by simp)).trans hb1
      have HS1 := Lib.hid hs1
      obtain ⟨⟨t0, t1, t2, t3⟩, _⟩ := cells4 hs0
      obtain ⟨⟨r0, r1, r2, r3⟩, f0, f1, f2, f3⟩ := cells4 hs1
      have hsz : (wr.setCell ⟨B0, 3, none⟩ (.slice oa k oc)).heap.size = wr.heap.size := by simp
      have HSZ := Lib.hid hsz
      have HBS : Hid (Below B0 w (wr.setCell ⟨B0, 3, none⟩ (.slice oa k oc))) := Lib.hid ((HB00.out.trans (HBE.out.mono (by omega))).setCell (Nat.le_refl _) _)
      have HOF : Hid (∀ g, B0 + 2 ≤ g → (wr.setCell ⟨B0, 3, none⟩ (.slice oa k oc)).heap[g]? = wr.heap[g]?) := Lib.hid (fun g hg => heap_setCell_other wr _ _ _ (by simp; omega))
      clear hte hlb hb0 hb1 hs0 hs1 hsz
      go_upto_region 12 with fail
      obtain ⟨ws, hws⟩ : ∃ ws, wr.setCell ⟨B0, 3, none⟩ (.slice oa k oc) = ws := ⟨_, rfl⟩
      rw [hws] at t0 t1 t2 t3 r0 r1 r2 r3 f0 f1 f2 f3 HS1 HSZ HBS HOF ⊢
      clear hws q0 z0
      go_wp2_with fail
      refine bodyPost_ret (res_wrap1 rfl _ rfl (put4_heap HS1.out _ _ _ _) rfl) rfl ?_
      refine ⟨_, xs, rfl, HO.out.far (by omega) (Nat.le_of_eq ((put4_size ws (B0 + 1) _ _ _ _).trans HSZ.out).symm) (fun g hg _ => (put4_other _ _ _ _ _ _ (by omega)).trans (HOF.out g (by omega))), put4_below HBS.out (by omega) _ _ _ _⟩
end Go.Proofs.YtgfijlamhjjecaaGreatDoor

