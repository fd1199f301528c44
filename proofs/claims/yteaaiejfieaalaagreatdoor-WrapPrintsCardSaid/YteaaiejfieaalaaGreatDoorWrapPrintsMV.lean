/-
  WrapPrintsV: the walk of WrapPrints for every input. No condition but the laid variables.
-/
import Derived.Test.YteaaiejfieaalaaGreatDoorMg10
import Derived.Test.YteaaiejfieaalaaGreatDoorMg11
import Derived.IntWalk
namespace Go.Proofs.YteaaiejfieaalaaGreatDoor
open Go.RowKit
def PrS (D B gb o : Nat) (x : WD) (v v' : Value) (u : World) : Prop := BoxAt u D x v ∧ BoxAt u B x v' ∧ u.cell? ⟨gb, o, none⟩ = some (.string ⟨#[82, 79, 79, 77]⟩)
def roomS : Seg := ⟨[82, 79, 79, 77], []⟩
theorem room_lit {w : World} {D : Nat} (hD : w.heap.size = D) (w' : World) (hw : w.alloc (.cells #[.string ⟨#[82, 79, 79, 77]⟩, .slice none 0 0] 36) = w') : SegsAt (fun k => k = D) w' (.slice (some ⟨D, 0, none⟩) 1 1) [roomS] := by
  subst hD; subst hw
  have hc := heap_alloc_new w (.cells #[.string ⟨#[82, 79, 79, 77]⟩, .slice none 0 0] 36)
  refine ⟨_, 1, [.slice none 0 0], rfl, Nat.le_refl _, by decide, (fun e => by cases e), rfl, fun i s x h1 h2 => ?_, fun _ => ⟨w.heap.size, 0, rfl, rfl, fun i s x h1 h2 => ?_⟩⟩
  · match i, h1, h2 with
    | 0, h1, h2 => simp at h1 h2; subst h1; subst h2; exact ElemsAt.nil _ _
    | i + 1, h1, _ => simp at h1
  · match i, h1, h2 with
    | 0, h1, h2 => simp at h1 h2; subst h1; subst h2; exact ⟨cell_of_row _ _ 0 _ _ _ hc, cell_of_row _ _ 1 _ _ _ hc⟩
    | i + 1, h1, _ => simp at h1
set_option maxRecDepth 100000 in
set_option maxHeartbeats 8000000 in
theorem wrapPrints_walk {W : World} (hv : VarsOk W) (x : WD) (v : Value) (hb : x.fr < 256 ∧ x.dst < 256 ∧ x.rf < 18446744073709551616) (h : SegsAt (Low W) W v x.segs) : Calls Tryz.prog 4 #[wv x v] W fun e w' => e = .returned (.bool true) ∧ Below W.heap.size W w' := by
  obtain ⟨B, hB⟩ : ∃ B, W.heap.size = B := ⟨_, rfl⟩
  have HBQ := Lib.hid hB
  have HV := Lib.hid hv
  obtain ⟨w1, hw1⟩ : ∃ w1, W.alloc (.cells #[.int .u8 (x.fr : Int), .int .u8 (x.dst : Int), .int .u64 (x.rf : Int), v] 25) = w1 := ⟨_, rfl⟩
  have hz1 : w1.heap.size = B + 1 := by rw [← hw1]; simp [hB]
  have HB1 : Hid (Below B W w1) := Lib.hid (by rw [← hw1, ← hB]; exact (Below.refl _ _).alloc (Nat.le_refl _) _)
  have HX : Hid (BoxAt w1 B x v) := Lib.hid (by rw [← hw1, ← hB]; exact BoxAt.new _ _ _)
  have HS1 : Hid (SegsAt (fun k => k < B) w1 v x.segs) := Lib.hid (h.any HB1.out (fun k hk => ⟨by rw [← hB]; exact hk, by rw [← hB]; exact hk⟩))
  have HBD := Lib.hid hb
  have HHV := Lib.hid (wheavy_any x v w1 HS1.out (fun k hk => by rw [hz1]; omega))
  have HW1 := Lib.hid hw1
  have HZ1 := Lib.hid hz1
  obtain ⟨ao, cap, rfl, hc1, hc2⟩ := h.form
  unfold maxLen at hc2
  rw [hB]
  obtain ⟨d0, d1, d2, d3⟩ := HX.out.cells
  clear h hv hB hw1 hz1 hb
  unfold wv at HHV ⊢
  go_enter Tryz.func4, Tryz.ntmps4
  go_upto_region 1 with fail
  rw [HW1.out, HBQ.out]
  obtain ⟨n, hn⟩ : ∃ n, x.segs.length = n := ⟨_, rfl⟩
  have HN := Lib.hid hn
  rw [hn] at HHV HX HS1 d3 hc1 ⊢
  clear hn
  go_wp2_with fail
  refine HHV.out.mono ?_
  rintro e w2 ⟨⟨bv, rfl, hlt⟩, hb2⟩
  rw [HZ1.out] at hb2
  have HB2 := Lib.hid hb2
  clear hb2 d0 d1 d2 d3 HHV
  cases bv with
  | true =>
    clear hlt
    go_wp2_with fail
    go_ret
    exact ⟨rfl, HB1.out.trans (HB2.out.mono (by omega))⟩
  | false =>
    have HP := Lib.hid (hlt rfl).print2
    have HL80 := Lib.hid (hlt rfl).n
    clear hlt
    have hz2 := HB2.out.size
    rw [HZ1.out] at hz2
    obtain ⟨d0, d1, d2, d3⟩ := (HX.out.on HB2.out (by omega)).cells
    have HOWN := Lib.hid (wown_any (S := fun k => k < B) x (.slice ao n cap) w2 (HS1.out.any HB2.out (fun k hk => ⟨by omega, hk⟩)) (fun k hk => by omega) (by have := HP.out; omega))
    unfold WOwnQ wv at HOWN
    go_upto_region 4 with ((with_reducible refine HOWN.out.mono ?_); rintro e w3 ⟨v3, xs, rfl, ho, hb3⟩; obtain ⟨oa, oc, rfl⟩ := own_slice ho.row; rw [HN.out] at ho ⊢; have HO := Lib.hid ho; have HB3 := Lib.hid hb3; clear ho hb3)
    clear HOWN d0 d1 d2 d3
    obtain ⟨E, hE⟩ : ∃ E, w2.heap.size = E := ⟨_, rfl⟩
    have HEQ := Lib.hid hE
    rw [hE] at HO HB3 hz2
    have hz3 := HB3.out.size
    rw [hE] at hz3
    clear hE
    obtain ⟨D, hD⟩ : ∃ D, w3.heap.size = D := ⟨_, rfl⟩
    have HDQ := Lib.hid hD
    obtain ⟨w4, hw4⟩ : ∃ w4, w3.alloc (.cells #[.int .u8 (x.fr : Int), .int .u8 (x.dst : Int), .int .u64 (x.rf : Int), .slice oa n oc] 25) = w4 := ⟨_, rfl⟩
    have hz4 : w4.heap.size = D + 1 := by rw [← hw4, ← hD]; simp
    have HI : Hid (BoxAt w4 D x (.slice oa n oc)) := Lib.hid (by rw [← hw4, ← hD]; exact BoxAt.new _ _ _)
    have HB4 : Hid (Below D w3 w4) := Lib.hid (by rw [← hw4, ← hD]; exact (Below.refl _ _).alloc (Nat.le_refl _) _)
    have HOT : Hid (OGT (fun b => E ≤ b ∧ b < D) E w4 (.slice oa n oc) xs x.segs) := Lib.hid (by
      have h1 := HO.out.ogt.below (by rw [hD]; exact HB4.out)
      rw [hD] at h1
      exact h1)
    have HZ4 := Lib.hid hz4
    rw [hw4, hD]
    rw [hD] at hz3
    clear hw4 hD hz4
    obtain ⟨wd, hwd⟩ : ∃ wd, w4.drew = wd := ⟨_, rfl⟩
    have hwh : wd.heap = w4.heap := by rw [← hwd]; rfl
    have HBd : Hid (Below E w3 wd) := Lib.hid (by rw [← hwd]; exact (HB4.out.mono hz3).drew)
    have HId : Hid (BoxAt wd D x (.slice oa n oc)) := Lib.hid (by show wd.heap[D]? = _; rw [hwh]; exact HI.out)
    have HOTd : Hid (OGT (fun b => E ≤ b ∧ b < D) E wd (.slice oa n oc) xs x.segs) := Lib.hid (HOT.out.below (by rw [← hwd]; exact (Below.refl _ _).drew))
    have HZd : Hid (wd.heap.size = D + 1) := Lib.hid (by rw [hwh]; exact HZ4.out)
    obtain ⟨q0, q1, q2, q3⟩ := HId.out.cells
    have qf : wd.frozen? ⟨D, 3, none⟩ = false := frozen_of_row wd D 3 _ _ HId.out
    refine wp_region_planF 10 [(0, false), (1, false), (2, false), (5, false), (6, false), (7, false), (3, true), (4, true), (8, false), (9, false), (10, true)]
      (fun w' => w'.cell? ⟨D, 3, none⟩ = some (.slice oa n oc)) (by kernel_rfl) (by kernel_rfl) (by rw [hwd]; exact q3) ?_
    rw [hwd]
    have HQ3 := Lib.hid q3
    clear hwd hwh q0 q1 q2 q3 qf
    iterate 6 (refine' planF_val rfl rfl (fun w' hS => ?_) ?_; rotate_left; (focus (go_simp; rfl)); simp only [Act.put, List.setIfInBounds_toArray, List.set_cons_zero, List.set_cons_succ])
    refine planF_do rfl (fun K hK => ?_)
    go_wp2_with fail
    refine hK _ _ (.inr ((cell_ag (Below.heap_alloc _ _ _ (cell_lt' HQ3.out))).trans HQ3.out)) ?_
    clear hK K
    obtain ⟨we, hwe⟩ : ∃ we, wd.alloc (.cells #[.string ⟨#[82, 79, 79, 77]⟩, .slice none 0 0] 36) = we := ⟨_, rfl⟩
    have HBe : Hid (Below (D + 1) wd we) := Lib.hid (by rw [← hwe, ← HZd.out]; exact (Below.refl _ _).alloc (Nat.le_refl _) _)
    have HRM := Lib.hid (room_lit HZd.out we hwe)
    have hze : we.heap.size = D + 2 := by rw [← hwe]; simp [HZd.out]
    have HOTe : Hid (OGT (fun b => E ≤ b ∧ b < D) E we (.slice oa n oc) xs x.segs) := Lib.hid (HOTd.out.below (by rw [HZd.out]; exact HBe.out))
    rw [hwe, HZd.out]
    clear hwe
    refine planF_do rfl (fun K hK => ?_)
    refine wp_app_ogt _ _ rfl rfl rfl rfl HOTe.out HRM.out (by simp [roomS]) (by have := HL80.out; simp; omega) (by rw [hze]; omega) ?_
    intro v8 w8 xs8 ho8 hg8 hb8
    obtain ⟨sa, sc, rfl⟩ := own_slice ho8.row
    have hl8 : (x.segs ++ [roomS]).length = n + 1 := by rw [List.length_append, HN.out]; rfl
    rw [hl8] at ho8 ⊢
    have HO8 := Lib.hid ho8
    have HG8 := Lib.hid hg8
    have HB8 := Lib.hid hb8
    clear ho8 hg8 hb8 hl8
    have hne : (Value.slice oa n oc).ownBlock ≠ some D := own_not HOTe.out.row ((HBe.out.block D (by omega)).trans HId.out) (by decide)
    have HI8 : Hid (BoxAt w8 D x (.slice oa n oc)) := Lib.hid ((HG8.out.block D (by rw [hze]; omega) (fun e => hne e.symm)).trans ((HBe.out.block D (by omega)).trans HId.out))
    have HQ8 := Lib.hid (HI8.out.cells).2.2.2
    have hz8 := HB8.out.size
    rw [hze] at hz8
    have HBE8 : Hid (Below E w3 w8) := Lib.hid ((HBd.out.trans (HBe.out.mono (by omega))).trans HB8.out)
    have HSG8 : Hid (SegsAt (fun k => k ≠ D ∧ k < w8.heap.size) w8 (.slice sa (n + 1) sc) (x.segs ++ [roomS])) := Lib.hid (HO8.out.rest (fun k hk _ => by omega) (fun k hk => ⟨fun e => own_not HO8.out.row HI8.out (by decide) (e ▸ hk), (own_lt HO8.out.row hk).2⟩))
    have hcap := HSG8.out.cap.2
    obtain ⟨hcap1, hcap2⟩ := hcap
    unfold maxLen at hcap2
    have hcs : (n : Int) ≤ sc := by omega
    have qf8 : w8.frozen? ⟨D, 3, none⟩ = false := frozen_of_row w8 D 3 _ _ HI8.out
    clear hne hze HBe HRM HOTe HG8 HB8
    go_wp2_with fail
    refine hK _ _ (.inr HQ8.out) ?_
    clear hK K
    iterate 2 (refine' planF_val rfl rfl (fun w' hS => ?_) ?_; rotate_left; (focus (go_simp; rfl)); simp only [Act.put, List.setIfInBounds_toArray, List.set_cons_zero, List.set_cons_succ])
    refine planF_do rfl (fun K hK => ?_)
    have q8 := HQ8.out
    go_wp2_with fail
    refine hK _ _ (.inl trivial) ?_
    clear hK K
    refine planF_nil ?_
    obtain ⟨wS, hwS⟩ : ∃ wS, w8.setCell ⟨D, 3, none⟩ (.slice sa n sc) = wS := ⟨_, rfl⟩
    have HIS : Hid (BoxAt wS D x (.slice sa n sc)) := Lib.hid (by rw [← hwS]; exact heap_setCell_same w8 D 3 _ _ _ HI8.out)
    have hzS : wS.heap.size = w8.heap.size := by rw [← hwS]; simp
    have HBS : Hid (Below D w8 wS) := Lib.hid (by rw [← hwS]; exact (Below.refl D w8).setCell (show D ≤ D from Nat.le_refl _) _)
    have HSGS : Hid (SegsAt (fun k => k ≠ D ∧ k < wS.heap.size) wS (.slice sa (n + 1) sc) (x.segs ++ [roomS])) := Lib.hid (by
      rw [hzS]
      exact HSG8.out.cong (fun _ h => h) (fun k hk => by rw [← hwS]; exact heap_setCell_other _ _ _ _ hk.1))
    have HST : Hid (SegsAt (fun k => k ≠ D ∧ k < wS.heap.size) wS (.slice sa n sc) x.segs) := Lib.hid (by
      have h1 := HSGS.out
      have h2 : (x.segs ++ [roomS]).length = n + 1 := by rw [List.length_append, HN.out]; rfl
      rw [← h2] at h1
      have h3 := h1.take
      rw [HN.out] at h3
      exact h3)
    obtain ⟨gb, off, xr, rfl, hgb, hroom, _, _⟩ := HSGS.out.get (k := n) (s := roomS) (by rw [List.getElem?_append_right (by rw [HN.out]; exact Nat.le_refl _), HN.out, Nat.sub_self]; rfl)
    have HROOM := Lib.hid hroom
    have HGB := Lib.hid hgb
    rw [hwS]
    have hEB : E ≤ D := hz3
    have HBE9 : Hid (Below E w3 wS) := Lib.hid (HBE8.out.trans (HBS.out.mono (by omega)))
    have HB19 : Hid (Below (B + 1) w1 wS) := Lib.hid (HB2.out.trans ((HB3.out.trans HBE9.out).mono (by rw [← HEQ.out] at hz2 ⊢; omega)))
    have HBW9 : Hid (Below B W wS) := Lib.hid (HB1.out.trans (HB19.out.mono (by omega)))
    have HXB : Hid (BoxAt wS B x (.slice ao n cap)) := Lib.hid (HX.out.on HB19.out (by omega))
    have HVS := Lib.hid (HV.out.on HBW9.out (by rw [HBQ.out]; exact Nat.le_refl _))
    have hDS : D + 2 ≤ wS.heap.size := by omega
    clear hwS hzS hroom hgb q8 qf8 HQ8 HI8 HSG8 HO8 HBE8 HOTd HId HBd HZd HI HB4 HOT HZ4 HO HQ3
    obtain ⟨R, hR⟩ : ∃ R, wrapPrintE x = R := ⟨_, rfl⟩
    obtain ⟨rs, rn⟩ := R
    obtain ⟨ra, hra⟩ : ∃ ra : ByteArray, (⟨rs.toArray⟩ : ByteArray) = ra := ⟨_, rfl⟩
    have d1 := str_same ra
    have d2 := int_same rn
    have HPR := Lib.hid (wPrint_is HVS.out HBD.out.1 HBD.out.2.1 HBD.out.2.2 HST.out (fun k hk => hk.2) (fun _ => by have := HP.out; omega) hR)
    have HR := Lib.hid hR
    unfold WTQ wv at HPR
    simp only [sv, hra] at HPR
    have HRA := Lib.hid hra
    clear hR hra
    obtain ⟨r0, r1, r2, r3⟩ := HIS.out.cells
    obtain ⟨p0, p1, p2, p3⟩ := HXB.out.cells
    go_upto_region 6 with ((with_reducible refine HPR.out.mono ?_); rintro e w9 ⟨rfl, hb9⟩; have HB9 := Lib.hid hb9; clear hb9)
    have hz9 := HB9.out.size
    have HX9 : Hid (BoxAt w9 B x (.slice ao n cap)) := Lib.hid ((HB9.out.block B (by omega)).trans HXB.out)
    have HI9 : Hid (BoxAt w9 D x (.slice (some ⟨gb, off, none⟩) n sc)) := Lib.hid ((HB9.out.block D (by omega)).trans HIS.out)
    have HB29 : Hid (Below (B + 1) w1 w9) := Lib.hid (HB19.out.trans (HB9.out.mono (by omega)))
    have HSX9 : Hid (SegsAt (fun k => k < B) w9 (.slice ao n cap) x.segs) := Lib.hid (HS1.out.any HB29.out (fun k hk => ⟨by omega, hk⟩))
    have HRP := Lib.hid (r4Print_any x _ w9 HBD.out.1 HBD.out.2.1 HBD.out.2.2 HSX9.out (fun k hk => by omega) (by have := HP.out; omega))
    unfold WPrintQ wv at HRP
    rw [HR.out] at HRP
    simp only [sv, HRA.out] at HRP
    clear r0 r1 r2 r3 p0 p1 p2 p3 HPR
    obtain ⟨p0, p1, p2, p3⟩ := HX9.out.cells
    go_upto_region 7 with ((with_reducible refine HRP.out.mono ?_); rintro e w10 ⟨rfl, hb10⟩; have HB10 := Lib.hid hb10; clear hb10)
    have hz10 := HB10.out.size
    clear p0 p1 p2 p3 HRP
    obtain ⟨wT, hwT⟩ : ∃ wT, w10.drew = wT := ⟨_, rfl⟩
    have HBT : Hid (Below wS.heap.size wS wT) := Lib.hid (by rw [← hwT]; exact (HB9.out.trans (HB10.out.mono hz9)).drew)
    have hzT := HBT.out.size
    have HPS : Hid (PrS D B gb (off + n * 2) x (.slice (some ⟨gb, off, none⟩) n sc) (.slice ao n cap) wT) := Lib.hid ⟨(HBT.out.block D (by omega)).trans HIS.out, (HBT.out.block B (by omega)).trans HXB.out, (HBT.out.cell (p := ⟨gb, off + n * 2, none⟩) HGB.out.2).trans HROOM.out⟩
    have HKEEP : Hid (∀ u : World, Below wT.heap.size wT u → PrS D B gb (off + n * 2) x (.slice (some ⟨gb, off, none⟩) n sc) (.slice ao n cap) u) := Lib.hid (fun u hu => ⟨(hu.block D (by omega)).trans HPS.out.1, (hu.block B (by omega)).trans HPS.out.2.1, (hu.cell (p := ⟨gb, off + n * 2, none⟩) (by show gb < _; have := HGB.out.2; omega)).trans HPS.out.2.2⟩)
    have HSI : Hid (SegsAt (fun k => k < wT.heap.size) wT (.slice (some ⟨gb, off, none⟩) n sc) x.segs) := Lib.hid (HST.out.any HBT.out (fun k hk => ⟨hk.2, by omega⟩))
    have HSW : Hid (SegsAt (fun k => k < B) wT (.slice ao n cap) x.segs) := Lib.hid (HS1.out.any (HB19.out.trans (HBT.out.mono (by omega))) (fun k hk => ⟨by omega, hk⟩))
    have HSM := Lib.hid (wsame_any x x _ _ wT HSI.out HSW.out (fun k hk => hk) (fun k hk => by omega))
    rw [wsameB_self] at HSM
    unfold WSameQ wv at HSM
    have HBWT : Hid (Below B W wT) := Lib.hid (HBW9.out.trans (HBT.out.mono (by omega)))
    refine wp_region_plan [(0, false), (1, false), (2, false), (3, false), (4, false), (5, false), (6, false), (7, false), (8, false), (9, false), (10, false), (11, true), (12, false), (13, false), (14, false), (15, false), (16, false), (17, false), (18, false), (19, false), (20, false), (21, false), (22, false), (23, false), (24, false), (25, false), (26, false), (27, false), (28, false), (29, false), (30, true), (31, false), (32, false)]
      (PrS D B gb (off + n * 2) x (.slice (some ⟨gb, off, none⟩) n sc) (.slice ao n cap)) (by kernel_rfl) (by kernel_rfl) (by rw [hwT]; exact HPS.out) ?_
    rw [hwT]
    have b1 : (0 : Int) ≤ n := by omega
    have b2 : (n : Int) + 1 ≤ sc := by omega
    have b3 : (n : Int) < 1000000 := by have := HL80.out; rw [HN.out] at this; omega
    clear hwT
    iterate 11 (refine' plan_val rfl rfl (fun w' hS => ?_) ?_; rotate_left; (focus (obtain ⟨hS1, hS2, hS3⟩ := hS; obtain ⟨r0, r1, r2, r3⟩ := hS1.cells; obtain ⟨p0, p1, p2, p3⟩ := hS2.cells; go_simp; rfl)); simp only [Act.put, List.setIfInBounds_toArray, List.set_cons_zero, List.set_cons_succ])
    refine plan_do rfl (fun K hK => ?_)
    go_wp2_with fail
    refine HSM.out.mono ?_
    rintro e w11 ⟨rfl, hb11⟩
    have HB11 := Lib.hid hb11
    clear hb11
    go_wp2_with fail
    refine hK _ _ (HKEEP.out _ HB11.out) ?_
    clear hK K HSM
    have g4 : (n : Int) < (n : Int) + 1 := by omega
    have g2 : (0 : Int) ≤ (n : Int) + 1 := by omega
    have g3 : ((n : Int) + 1).toNat = n + 1 := by omega
    have g1 : IntKind.i64.wrap ((n : Int) + 1) = (n : Int) + 1 := IntWalk.i64_in _ (by omega)
    iterate 18 (refine' plan_val rfl rfl (fun w' hS => ?_) ?_; rotate_left; (focus (obtain ⟨hS1, hS2, hS3⟩ := hS; obtain ⟨r0, r1, r2, r3⟩ := hS1.cells; obtain ⟨p0, p1, p2, p3⟩ := hS2.cells; go_simp; rfl)); simp only [Act.put, List.setIfInBounds_toArray, List.set_cons_zero, List.set_cons_succ])
    clear g1 g2 g3 g4
    refine plan_do rfl (fun K hK => ?_)
    go_wp2_with fail
    have hz11 := HB11.out.size
    have hzB := HBWT.out.size
    rw [HBQ.out] at hzB
    have HBW11 := Lib.hid (HBWT.out.trans (HB11.out.mono hzB))
    refine (wraps_any _ (HV.out.on HBW11.out (by rw [HBQ.out]; exact Nat.le_refl _))).mono ?_
    rintro e w12 ⟨rfl, hb12⟩
    have HB12 := Lib.hid (HB11.out.trans (hb12.mono hz11))
    clear hb12
    go_wp2_with fail
    refine hK _ _ (HKEEP.out _ HB12.out) ?_
    clear hK K
    iterate 2 (refine' plan_val rfl rfl (fun w' hS => ?_) ?_; rotate_left; (focus (obtain ⟨hS1, hS2, hS3⟩ := hS; obtain ⟨r0, r1, r2, r3⟩ := hS1.cells; obtain ⟨p0, p1, p2, p3⟩ := hS2.cells; go_simp; rfl)); simp only [Act.put, List.setIfInBounds_toArray, List.set_cons_zero, List.set_cons_succ])
    refine plan_nil ?_
    go_wp2_with fail
    go_ret
    exact ⟨rfl, HBWT.out.trans (HB12.out.mono hzB)⟩
end Go.Proofs.YteaaiejfieaalaaGreatDoor
