/-
  WrapParsesV: the walk of WrapParses for every input. No condition but the laid variables.
-/
import Derived.Test.YteaaiejfieaalaaGreatDoorMg10
import Derived.Test.YteaaiejfieaalaaGreatDoorMg12
namespace Go.Proofs.YteaaiejfieaalaaGreatDoor
open Go.RowKit
theorem r4Parse_is {s : ByteArray} {w : World} {x : WD} {k : Int} (h : wrapParseE s.data.toList = (x, k)) : Calls Tryz.prog 10 #[.string s] w fun e w' => WPQ x k w e w' := by
  refine (r4parse_any s w).mono ?_
  rintro e w' ⟨v, rfl, h1, h2⟩
  rw [h] at h1 ⊢
  exact ⟨v, rfl, h1, h2⟩
set_option maxRecDepth 100000 in
set_option maxHeartbeats 4000000 in
theorem wrapParses_walk {W : World} (hv : VarsOk W) (ts : ByteArray) (_w0 : ts.size ≤ maxLen) : Calls Tryz.prog 3 #[.string ts] W fun e w' => e = .returned (.bool true) ∧ Below W.heap.size W w' := by
  obtain ⟨B, hB⟩ : ∃ B, W.heap.size = B := ⟨_, rfl⟩
  have HBQ := Lib.hid hB
  have HV := Lib.hid hv
  rw [hB]
  clear hv hB _w0
  by_cases hmid : 3000 < ts.size ∧ ts.size ≤ 65536
  · have d1 : decide ((3000 : Int) < (ts.size : Int)) = true := by rw [decide_eq_true_eq]; omega
    have d2 : decide ((ts.size : Int) ≤ 65536) = true := by rw [decide_eq_true_eq]; omega
    go_enter Tryz.func3, Tryz.ntmps3
    go_wp2_with fail
    go_ret
    exact ⟨rfl, Below.refl _ _⟩
  obtain ⟨R, hR⟩ : ∃ R, wrapParseE ts.data.toList = R := ⟨_, rfl⟩
  obtain ⟨y, k⟩ := R
  have HPA := Lib.hid (wParse_is (s := ts) (w := W) HV.out hR)
  have HR := Lib.hid hR
  have dk := int_same k
  clear hR
  unfold WPQ wv at HPA
  have hd : decide ((3000 : Int) < (ts.size : Int)) = false ∨ (decide ((3000 : Int) < (ts.size : Int)) = true ∧ decide ((ts.size : Int) ≤ 65536) = false) := by
    by_cases h : 3000 < ts.size
    · exact .inr ⟨by rw [decide_eq_true_eq]; omega, by rw [decide_eq_false_iff_not]; omega⟩
    · exact .inl (by rw [decide_eq_false_iff_not]; omega)
  clear hmid
  rcases hd with d1 | ⟨d1, d2⟩
  all_goals
    go_enter Tryz.func3, Tryz.ntmps3
    go_upto_region 4 with ((with_reducible refine HPA.out.mono ?_); rintro e w1 ⟨v1, rfl, hs1, hb1⟩; obtain ⟨a1, c1, rfl, _, _⟩ := hs1.form; have HS1 := Lib.hid hs1; have HB1 := Lib.hid hb1; clear hs1 hb1)
    clear d1
    try clear d2
    obtain ⟨D, hD⟩ : ∃ D, w1.heap.size = D := ⟨_, rfl⟩
    obtain ⟨w2, hw2⟩ : ∃ w2, w1.alloc (.cells #[.int .u8 (y.fr : Int), .int .u8 (y.dst : Int), .int .u64 (y.rf : Int), .slice a1 y.segs.length c1] 25) = w2 := ⟨_, rfl⟩
    have HY2 : Hid (BoxAt w2 D y (.slice a1 y.segs.length c1)) := Lib.hid (by rw [← hw2, ← hD]; exact BoxAt.new _ _ _)
    have hz1 := HB1.out.size
    have HB2 : Hid (Below B W w2) := Lib.hid (by rw [← hw2, ← HBQ.out]; exact HB1.out.alloc hz1 _)
    have HBD : Hid (Below D w1 w2) := Lib.hid (by rw [← hw2, ← hD]; exact (Below.refl _ _).alloc (Nat.le_refl _) _)
    have hz2 : w2.heap.size = D + 1 := by rw [← hw2, ← hD]; simp
    rw [HBQ.out] at HS1 hz1
    rw [hD] at HS1 hz1
    have HS2 : Hid (SegsAt (fun k => k < D) w2 (.slice a1 y.segs.length c1) y.segs) := Lib.hid (HS1.out.cong (fun k hk => hk.2) (fun k hk => HBD.out.block k hk.2))
    have HPB := Lib.hid (r4Parse_is (w := w2) HR.out)
    unfold WPQ wv at HPB
    have HW2 := Lib.hid hw2
    have HDQ := Lib.hid hD
    rw [HW2.out, HDQ.out]
    clear hw2 hD
    go_upto_region 5 with ((with_reducible refine HPB.out.mono ?_); rintro e w3 ⟨v3, rfl, hs3, hb3⟩; obtain ⟨a3, c3, rfl, _, _⟩ := hs3.form; have HS3 := Lib.hid hs3; have HB3 := Lib.hid hb3; clear hs3 hb3)
    obtain ⟨E, hE⟩ : ∃ E, w3.heap.size = E := ⟨_, rfl⟩
    obtain ⟨w4, hw4⟩ : ∃ w4, w3.alloc (.cells #[.int .u8 (y.fr : Int), .int .u8 (y.dst : Int), .int .u64 (y.rf : Int), .slice a3 y.segs.length c3] 25) = w4 := ⟨_, rfl⟩
    have HY4 : Hid (BoxAt w4 E y (.slice a3 y.segs.length c3)) := Lib.hid (by rw [← hw4, ← hE]; exact BoxAt.new _ _ _)
    have hz3 := HB3.out.size
    have HB4 : Hid (Below w2.heap.size w2 w4) := Lib.hid (by rw [← hw4]; exact HB3.out.alloc hz3 _)
    have HBE : Hid (Below E w3 w4) := Lib.hid (by rw [← hw4, ← hE]; exact (Below.refl _ _).alloc (Nat.le_refl _) _)
    have hz4 : w4.heap.size = E + 1 := by rw [← hw4, ← hE]; simp
    rw [hE] at HS3 hz3
    have HS4 : Hid (SegsAt (fun k => k < w4.heap.size) w4 (.slice a3 y.segs.length c3) y.segs) := Lib.hid (HS3.out.cong (fun k hk => by omega) (fun k hk => HBE.out.block k hk.2))
    have HS5 : Hid (SegsAt (fun k => k < w4.heap.size) w4 (.slice a1 y.segs.length c1) y.segs) := Lib.hid (HS2.out.any HB4.out (fun k hk => ⟨by omega, by omega⟩))
    have HB5 := Lib.hid (HB2.out.trans (HB4.out.mono (by omega)))
    have hz5 : B ≤ w4.heap.size := by omega
    have HY5 : Hid (BoxAt w4 D y (.slice a1 y.segs.length c1)) := Lib.hid (HY2.out.on HB4.out (by omega))
    have HSM := Lib.hid (wsame_any y y _ _ w4 HS5.out HS4.out (fun k hk => hk) (fun k hk => hk))
    rw [wsameB_self] at HSM
    unfold WSameQ wv at HSM
    have HW4 := Lib.hid hw4
    have HEQ := Lib.hid hE
    rw [HW4.out, HEQ.out]
    clear hw4 hE
    obtain ⟨p0, p1, p2, p3⟩ := HY5.out.cells
    obtain ⟨q0, q1, q2, q3⟩ := HY4.out.cells
    go_wp2_with (first
      | ((with_reducible refine HSM.out.mono ?_); rintro e w6 ⟨rfl, hb6⟩; have HB6 := Lib.hid (HB5.out.trans (hb6.mono hz5)); have HV6 := Lib.hid (HV.out.on HB6.out (by rw [HBQ.out]; exact Nat.le_refl _)); clear hb6)
      | ((with_reducible refine (wraps_any _ HV6.out).mono ?_); rintro e w7 ⟨rfl, hb7⟩; have HB7 := Lib.hid hb7; clear hb7))
    go_ret
    have h1 := HB6.out.size
    rw [HBQ.out] at h1
    exact ⟨rfl, HB6.out.trans (HB7.out.mono h1)⟩
end Go.Proofs.YteaaiejfieaalaaGreatDoor
