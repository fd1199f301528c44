/-
  WrapHeadsV: the walk of WrapHeads for every input. No condition but the laid variables.
-/
import Derived.Test.YteaaiejfieaalaaGreatDoorMg10
import Derived.Test.YteaaiejfieaalaaGreatDoorMg9
import Derived.Test.YteaaiejfieaalaaGreatDoorMg6
namespace Go.Proofs.YteaaiejfieaalaaGreatDoor
open Go.RowKit
theorem cat_data' (a b : ByteArray) : (a ++ b).data.toList = a.data.toList ++ b.data.toList := by simp [ByteArray.data_append]
def RDecQ (da : ByteArray) (w : World) (e : Ending) (w' : World) : Prop := e = .returned (.string da) ∧ Below w.heap.size w w'
theorem rdec_is {u : Nat} (hu : u < 18446744073709551616) {da : ByteArray} (hd : (⟨(decT u).toArray⟩ : ByteArray) = da) (w : World) : Calls Tryz.prog 19 #[.int .u64 (u : Int)] w fun e w' => RDecQ da w e w' := by
  refine (rdec_any u hu w).mono ?_
  rintro e w' ⟨rfl, d, rfl⟩
  exact ⟨by rw [hd], Drew.below ⟨d, rfl⟩ _⟩
theorem dec_bytes {u : Nat} (hu : u < 18446744073709551616) : ∃ da : ByteArray, (⟨(decT u).toArray⟩ : ByteArray) = da ∧ da.data.toList = decT u ∧ da.size ≤ 20 := ⟨_, rfl, rfl, by have := dec_len20 hu; simpa [ByteArray.size] using this⟩
theorem u64_nat {a : Int} (h : (Lit.int .u64 a).wf = true) : ∃ n : Nat, a = (n : Int) ∧ n < 18446744073709551616 := by
  have r : (0 : Int) ≤ a ∧ a ≤ 18446744073709551615 := (Lit.wf_int_iff _ _).1 h
  exact ⟨a.toNat, by omega, by omega⟩
set_option maxRecDepth 100000 in
set_option maxHeartbeats 4000000 in
theorem wrapHeads_walk {W : World} (hv : VarsOk W) (ia : Int) (wa : (Lit.int .u64 ia).wf = true) (ib : Int) (wb : (Lit.int .u64 ib).wf = true) (ic : Int) (wc : (Lit.int .u64 ic).wf = true) (id : Int) (wd : (Lit.int .u64 id).wf = true) (ig : Int) (wg : (Lit.int .u64 ig).wf = true)
    (x : WD) (v : Value) (hb : x.fr < 256 ∧ x.dst < 256 ∧ x.rf < 18446744073709551616) (h : SegsAt (Low W) W v x.segs) : Calls Tryz.prog 8 #[.int .u64 ia, .int .u64 ib, .int .u64 ic, .int .u64 id, .int .u64 ig, wv x v] W fun e w' => e = .returned (.bool true) ∧ Below W.heap.size W w' := by
  obtain ⟨a, rfl, ha⟩ := u64_nat wa
  obtain ⟨b, rfl, hbb⟩ := u64_nat wb
  obtain ⟨c, rfl, hc⟩ := u64_nat wc
  obtain ⟨d, rfl, hd⟩ := u64_nat wd
  obtain ⟨g, rfl, hg⟩ := u64_nat wg
  obtain ⟨da, ea, la, sa⟩ := dec_bytes ha
  obtain ⟨db, eb, lb, sb⟩ := dec_bytes hbb
  obtain ⟨dc, ec, lc, sc⟩ := dec_bytes hc
  obtain ⟨dd, ed, ld, sd⟩ := dec_bytes hd
  obtain ⟨dg, eg, lg, sg⟩ := dec_bytes hg
  have KA := Lib.hid (fun w => rdec_is ha ea w)
  have KB := Lib.hid (fun w => rdec_is hbb eb w)
  have KC := Lib.hid (fun w => rdec_is hc ec w)
  have KD := Lib.hid (fun w => rdec_is hd ed w)
  have KG := Lib.hid (fun w => rdec_is hg eg w)
  have LA := Lib.hid la
  have LB := Lib.hid lb
  have LC := Lib.hid lc
  have LD := Lib.hid ld
  have LG := Lib.hid lg
  have NA := Lib.hid ha
  have NB := Lib.hid hbb
  have NC := Lib.hid hc
  have ND := Lib.hid hd
  have NG := Lib.hid hg
  clear wa wb wc wd wg ea eb ec ed eg la lb lc ld lg ha hbb hc hd hg
  obtain ⟨B, hB⟩ : ∃ B, W.heap.size = B := ⟨_, rfl⟩
  have HBQ := Lib.hid hB
  have HV := Lib.hid hv
  obtain ⟨w1, hw1⟩ : ∃ w1, W.alloc (.cells #[.int .u8 (x.fr : Int), .int .u8 (x.dst : Int), .int .u64 (x.rf : Int), v] 25) = w1 := ⟨_, rfl⟩
  have hz1 : w1.heap.size = B + 1 := by rw [← hw1]; simp [hB]
  have HB1 : Hid (Below B W w1) := Lib.hid (by rw [← hw1, ← hB]; exact (Below.refl _ _).alloc (Nat.le_refl _) _)
  have HX : Hid (BoxAt w1 B x v) := Lib.hid (by rw [← hw1, ← hB]; exact BoxAt.new _ _ _)
  have HS1 : Hid (SegsAt (fun k => k < B) w1 v x.segs) := Lib.hid (h.any HB1.out (fun k hk => ⟨by rw [← hB]; exact hk, by rw [← hB]; exact hk⟩))
  have HBD := Lib.hid hb
  have HHV := Lib.hid (wheavy_any x v w1 HS1.out (fun k hk => by rw [hz1]; omega))
  have HW1 := Lib.hid hw1
  have HZ1 := Lib.hid hz1
  obtain ⟨ao, cap, rfl, hc1, hc2⟩ := h.form
  unfold maxLen at hc2
  rw [hB]
  obtain ⟨d0, d1, d2, d3⟩ := HX.out.cells
  clear h hv hB hw1 hz1 hb
  unfold wv at HHV ⊢
  go_enter Tryz.func8, Tryz.ntmps8
  go_upto_region 1 with fail
  rw [HW1.out, HBQ.out]
  obtain ⟨n, hn⟩ : ∃ n, x.segs.length = n := ⟨_, rfl⟩
  have HN := Lib.hid hn
  rw [hn] at HHV HX HS1 d3 hc1 ⊢
  clear hn
  by_cases h60 : 60 < n
  · have e60 : decide ((60 : Int) < (n : Int)) = true := by rw [decide_eq_true_eq]; omega
    go_wp2_with fail
    refine HHV.out.mono ?_
    rintro e w2 ⟨⟨bv, rfl, hlt⟩, hb2⟩
    rw [HZ1.out] at hb2
    have HB2 : Hid (Below B W w2) := Lib.hid (HB1.out.trans (hb2.mono (by omega)))
    have q3 := ((HX.out.on hb2 (by omega)).cells).2.2.2
    clear hlt hb2 d0 d1 d2 d3
    cases bv with
    | true =>
      go_wp2_with fail
      go_ret
      exact ⟨rfl, HB2.out⟩
    | false =>
      go_wp2_with fail
      go_ret
      exact ⟨rfl, HB2.out⟩
  have e60 : decide ((60 : Int) < (n : Int)) = false := by rw [decide_eq_false_iff_not]; omega
  go_wp2_with fail
  refine HHV.out.mono ?_
  rintro e w2 ⟨⟨bv, rfl, hlt⟩, hb2⟩
  rw [HZ1.out] at hb2
  have HB2 := Lib.hid hb2
  clear hb2 d0 d1 d2 d3 HHV
  cases bv with
  | true =>
    clear hlt
    go_wp2_with fail
    go_ret
    exact ⟨rfl, HB1.out.trans (HB2.out.mono (by omega))⟩
  | false =>
    have HP := Lib.hid (hlt rfl).print2
    clear hlt
    have hz2 := HB2.out.size
    rw [HZ1.out] at hz2
    have q3 := ((HX.out.on HB2.out (by omega)).cells).2.2.2
    obtain ⟨R, hR⟩ : ∃ R, printE x.segs = R := ⟨_, rfl⟩
    obtain ⟨rs, rn⟩ := R
    have HR := Lib.hid hR
    obtain ⟨ra, hra⟩ : ∃ ra : ByteArray, (⟨rs.toArray⟩ : ByteArray) = ra := ⟨_, rfl⟩
    have hrad : ra.data.toList = rs := by rw [← hra]
    have HRAD := Lib.hid hrad
    have HPR := Lib.hid (print_any w2 (.slice ao n cap) x.segs (HS1.out.any HB2.out (fun k hk => ⟨by omega, by omega⟩)) (by have := HP.out; omega))
    rw [hR] at HPR
    simp only [sv, hra] at HPR
    clear hra hrad hR
    go_upto_region 4 with ((with_reducible refine HPR.out.mono ?_); rintro e w3 ⟨rfl, hb3⟩; have HB3 := Lib.hid (HB2.out.trans (hb3.mono hz2)); clear hb3)
    have hz3 := HB3.out.size
    rw [HZ1.out] at hz3
    have HBW := Lib.hid (HB1.out.trans (HB3.out.mono (by omega)))
    have hz3' : B ≤ w3.heap.size := by omega
    have HV3 := Lib.hid (HV.out.on HBW.out (by rw [HBQ.out]; exact Nat.le_refl _))
    clear q3 HPR
    by_cases hrn : rn = 0
    · subst hrn
      by_cases hlen : 60000 < ra.size
      · have e6 : decide ((60000 : Int) < (ra.size : Int)) = true := by rw [decide_eq_true_eq]; omega
        go_wp2_with ((with_reducible refine (wraps_any _ HV3.out).mono ?_); rintro e w9 ⟨rfl, hb9⟩; have HB9 := Lib.hid hb9; clear hb9)
        go_ret
        exact ⟨rfl, HBW.out.trans (HB9.out.mono hz3')⟩
      · have e6 : decide ((60000 : Int) < (ra.size : Int)) = false := by rw [decide_eq_false_iff_not]; omega
        have hl6 : ra.size ≤ 60000 := by omega
        have HWH := Lib.hid (w_heads NA.out NB.out NC.out ND.out NG.out (m := x.segs) (s := rs) (by rw [HN.out]; omega) HR.out (by rw [← HRAD.out]; simp; omega))
        clear hlen
        go_upto_region 8 with (first
          | ((with_reducible refine (KA.out _).mono ?_); rintro e w4 ⟨rfl, hb4⟩; have HC1 := Lib.hid hb4; clear hb4)
          | ((with_reducible refine (KB.out _).mono ?_); rintro e w5 ⟨rfl, hb5⟩; have HC2 := Lib.hid hb5; clear hb5)
          | ((with_reducible refine (KC.out _).mono ?_); rintro e w6 ⟨rfl, hb6⟩; have HC3 := Lib.hid hb6; clear hb6)
          | ((with_reducible refine (KD.out _).mono ?_); rintro e w7 ⟨rfl, hb7⟩; have HC4 := Lib.hid hb7; clear hb7)
          | ((with_reducible refine (KG.out _).mono ?_); rintro e w8 ⟨rfl, hb8⟩; have HC5 := Lib.hid hb8; clear hb8))
        obtain ⟨X, hX⟩ : ∃ X : ByteArray, (⟨#[85, 78, 66, 43]⟩ : ByteArray) ++ da ++ (⟨#[43]⟩ : ByteArray) ++ db ++ (⟨#[43]⟩ : ByteArray) ++ dc ++ (⟨#[39]⟩ : ByteArray) ++ ra ++ (⟨#[85, 78, 90, 43]⟩ : ByteArray) ++ dd ++ (⟨#[43]⟩ : ByteArray) ++ dg ++ (⟨#[39]⟩ : ByteArray) = X := ⟨_, rfl⟩
        have hXd : X.data.toList = roundT a b c d g rs := by
          rw [← hX]
          simp only [cat_data', LA.out, LB.out, LC.out, LD.out, LG.out, HRAD.out]
          unfold roundT unb unz
          simp
        rw [hX]
        have hw8 := ((((HC1.out.trans (HC2.out.mono HC1.out.size)).trans (HC3.out.mono (Nat.le_trans HC1.out.size HC2.out.size))).trans (HC4.out.mono (Nat.le_trans (Nat.le_trans HC1.out.size HC2.out.size) HC3.out.size))).trans (HC5.out.mono (Nat.le_trans (Nat.le_trans (Nat.le_trans HC1.out.size HC2.out.size) HC3.out.size) HC4.out.size)))
        have HB8 := Lib.hid (HBW.out.trans (hw8.mono hz3'))
        have HB18 := Lib.hid (HB3.out.trans (hw8.mono hz3))
        have hz8 := HB18.out.size
        rw [HZ1.out] at hz8
        have HV8 := Lib.hid (HV.out.on HB8.out (by rw [HBQ.out]; exact Nat.le_refl _))
        obtain ⟨P, hP⟩ : ∃ P, wrapParseE (roundT a b c d g rs) = P := ⟨_, rfl⟩
        obtain ⟨y, pk⟩ := P
        have HPA := Lib.hid (wParse_is (s := X) (w := w8) HV8.out (x := y) (k := pk) (by rw [hXd]; exact hP))
        have HYK := Lib.hid (show (y, pk) = _ from hP.symm.trans HWH.out.2)
        clear hX hXd hw8 hP HC1 HC2 HC3 HC4 HC5
        unfold WPQ wv at HPA
        go_upto_region 9 with ((with_reducible refine HPA.out.mono ?_); rintro e w9 ⟨yv, rfl, hs9, hb9⟩; obtain ⟨ya, yc, rfl, _, _⟩ := hs9.form; have HS9 := Lib.hid hs9; have HB9 := Lib.hid hb9; clear hs9 hb9)
        obtain ⟨D, hD⟩ : ∃ D, w9.heap.size = D := ⟨_, rfl⟩
        have hz9 := HB9.out.size
        rw [hD] at hz9
        obtain ⟨w10, hw10⟩ : ∃ w10, w9.alloc (.cells #[.int .u8 (y.fr : Int), .int .u8 (y.dst : Int), .int .u64 (y.rf : Int), .slice ya y.segs.length yc] 25) = w10 := ⟨_, rfl⟩
        have HY : Hid (BoxAt w10 D y (.slice ya y.segs.length yc)) := Lib.hid (by rw [← hw10, ← hD]; exact BoxAt.new _ _ _)
        have HB10 : Hid (Below w8.heap.size w8 w10) := Lib.hid (by rw [← hw10]; exact HB9.out.trans ((Below.refl _ _).alloc (by omega) _))
        have hz10 : w10.heap.size = D + 1 := by rw [← hw10, ← hD]; simp
        have HSY : Hid (SegsAt (fun k => k < w10.heap.size) w10 (.slice ya y.segs.length yc) y.segs) := Lib.hid (by rw [← hw10]; exact HS9.out.any ((Below.refl _ _).alloc (Nat.le_refl _) _) (fun k hk => ⟨hk.2, by simp; omega⟩))
        have HB11 : Hid (Below B W w10) := Lib.hid (HB8.out.trans (HB10.out.mono (by omega)))
        have HB12 : Hid (Below (B + 1) w1 w10) := Lib.hid (HB18.out.trans (HB10.out.mono hz8))
        have hzB : B ≤ w10.heap.size := by omega
        have HV10 := Lib.hid (HV.out.on HB11.out (by rw [HBQ.out]; exact Nat.le_refl _))
        obtain ⟨r0, r1, r2, r3⟩ := (HX.out.on HB12.out (by omega)).cells
        have HW10 := Lib.hid hw10
        have HDD := Lib.hid hD
        have wr3 : IntKind.u64.wrap (n : Int) = (n : Int) := by rw [IntKind.wrap_u64]; omega
        clear hw10 hD HPA HS9 HB9 hc2
        rw [HW10.out, HDD.out]
        by_cases ha : 8 ≤ a
        · have hy : pk = 40 := by have h1 := HYK.out; rw [if_pos (.inl ha)] at h1; exact congrArg Prod.snd h1
          subst hy
          have f1 : decide ((8 : Int) ≤ (a : Int)) = true := by rw [decide_eq_true_eq]; omega
          go_wp2_with ((with_reducible refine (wraps_any _ HV10.out).mono ?_); rintro e w11 ⟨rfl, hb11⟩; have HB13 := Lib.hid hb11; clear hb11)
          go_ret
          exact ⟨rfl, HB11.out.trans (HB13.out.mono hzB)⟩
        have f1 : decide ((8 : Int) ≤ (a : Int)) = false := by rw [decide_eq_false_iff_not]; omega
        by_cases hbb : 8 ≤ b
        · have hy : pk = 40 := by have h1 := HYK.out; rw [if_pos (.inr hbb)] at h1; exact congrArg Prod.snd h1
          subst hy
          have f2 : decide ((8 : Int) ≤ (b : Int)) = true := by rw [decide_eq_true_eq]; omega
          go_wp2_with ((with_reducible refine (wraps_any _ HV10.out).mono ?_); rintro e w11 ⟨rfl, hb11⟩; have HB13 := Lib.hid hb11; clear hb11)
          go_ret
          exact ⟨rfl, HB11.out.trans (HB13.out.mono hzB)⟩
        have f2 : decide ((8 : Int) ≤ (b : Int)) = false := by rw [decide_eq_false_iff_not]; omega
        have HYK1 := HYK.out
        rw [if_neg (by omega), HN.out] at HYK1
        have HYK2 := Lib.hid HYK1
        clear HYK HYK1
        by_cases hdn : d = n
        · subst hdn
          have f3 : ((d : Int) != (d : Int)) = false := by simp
          have HYK3 := HYK2.out
          rw [if_neg (by simp)] at HYK3
          by_cases hcg : c = g
          · subst hcg
            rw [if_neg (by simp)] at HYK3
            obtain ⟨rfl, rfl⟩ := Prod.mk.inj HYK3
            simp only at r0 r1 r2 r3 HSY HY
            have f4 : ((c : Int) != (c : Int)) = false := by simp
            have wr1 : IntKind.u8.wrap (a : Int) = (a : Int) := by rw [IntKind.wrap_u8]; omega
            have wr2 : IntKind.u8.wrap (b : Int) = (b : Int) := by rw [IntKind.wrap_u8]; omega
            obtain ⟨s0, s1, s2, s3⟩ := HY.out.cells
            simp only at s0 s1 s2 s3
            have HSX : Hid (SegsAt (fun k => k < B) w10 (.slice ao d cap) x.segs) := Lib.hid (HS1.out.any HB12.out (fun k hk => ⟨by omega, hk⟩))
            have HSM := Lib.hid (wsame_any ⟨a, b, c, x.segs⟩ ⟨a, b, c, x.segs⟩ _ _ w10 HSY.out HSX.out (fun k hk => hk) (fun k hk => by omega))
            rw [wsameB_self] at HSM
            unfold WSameQ wv at HSM
            simp only at HSM
            clear HYK3 HYK2
            rw [HN.out] at s3 HSM
            go_wp2_with (first
              | ((with_reducible refine HSM.out.mono ?_); rintro e w11 ⟨rfl, hb11⟩; have HB13 := Lib.hid (HB11.out.trans (hb11.mono hzB)); have HV11 := Lib.hid (HV.out.on HB13.out (by rw [HBQ.out]; exact Nat.le_refl _)); clear hb11)
              | ((with_reducible refine (wraps_any _ HV11.out).mono ?_); rintro e w12 ⟨rfl, hb12⟩; have HB14 := Lib.hid hb12; clear hb12))
            go_ret
            have h1 := HB13.out.size
            rw [HBQ.out] at h1
            exact ⟨rfl, HB13.out.trans (HB14.out.mono h1)⟩
          · rw [if_pos hcg] at HYK3
            have hy : pk = 42 := congrArg Prod.snd HYK3
            subst hy
            have f4 : ((c : Int) != (g : Int)) = true := by rw [bne_iff_ne]; omega
            have f4n : ((c : Int) == (g : Int)) = false := by rw [beq_eq_false_iff_ne]; omega
            clear HYK3 hcg
            go_wp2_with ((with_reducible refine (wraps_any _ HV10.out).mono ?_); rintro e w11 ⟨rfl, hb11⟩; have HB13 := Lib.hid hb11; clear hb11)
            go_ret
            exact ⟨rfl, HB11.out.trans (HB13.out.mono hzB)⟩
        · have hy : pk = 41 := by have h1 := HYK2.out; rw [if_pos hdn] at h1; exact congrArg Prod.snd h1
          subst hy
          have f3 : ((d : Int) != (n : Int)) = true := by rw [bne_iff_ne]; omega
          clear hdn
          go_wp2_with ((with_reducible refine (wraps_any _ HV10.out).mono ?_); rintro e w11 ⟨rfl, hb11⟩; have HB13 := Lib.hid hb11; clear hb11)
          go_ret
          exact ⟨rfl, HB11.out.trans (HB13.out.mono hzB)⟩
    · have d0 : (rn != 0) = true := by rw [bne_iff_ne]; exact hrn
      clear hrn
      go_wp2_with ((with_reducible refine (wraps_any _ HV3.out).mono ?_); rintro e w9 ⟨rfl, hb9⟩; have HB9 := Lib.hid hb9; clear hb9)
      go_ret
      exact ⟨rfl, HBW.out.trans (HB9.out.mono hz3')⟩
end Go.Proofs.YteaaiejfieaalaaGreatDoor
