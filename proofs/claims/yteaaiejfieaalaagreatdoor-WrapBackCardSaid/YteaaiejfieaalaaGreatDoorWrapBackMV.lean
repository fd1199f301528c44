/-
  WrapBackV: the walk of WrapBack for every input. No condition but the laid variables.
-/
import Derived.Test.YteaaiejfieaalaaGreatDoorMg10
namespace Go.Proofs.YteaaiejfieaalaaGreatDoor
open Go.RowKit
set_option maxRecDepth 100000 in
set_option maxHeartbeats 4000000 in
theorem wrapBack_walk {W : World} (hv : VarsOk W) (x : WD) (v : Value) (hb : x.fr < 256 ∧ x.dst < 256 ∧ x.rf < 18446744073709551616) (h : SegsAt (Low W) W v x.segs) (ts : ByteArray) (_w1 : ts.size ≤ maxLen) : Calls Tryz.prog 5 #[wv x v, .string ts] W fun e w' => e = .returned (.bool true) ∧ Below W.heap.size W w' := by
  obtain ⟨B, hB⟩ : ∃ B, W.heap.size = B := ⟨_, rfl⟩
  have HBQ := Lib.hid hB
  have HV := Lib.hid hv
  obtain ⟨w1, hw1⟩ : ∃ w1, W.alloc (.cells #[.int .u8 (x.fr : Int), .int .u8 (x.dst : Int), .int .u64 (x.rf : Int), v] 25) = w1 := ⟨_, rfl⟩
  have hz1 : w1.heap.size = B + 1 := by rw [← hw1]; simp [hB]
  have HB1 : Hid (Below B W w1) := Lib.hid (by rw [← hw1, ← hB]; exact (Below.refl _ _).alloc (Nat.le_refl _) _)
  have HX : Hid (BoxAt w1 B x v) := Lib.hid (by rw [← hw1, ← hB]; exact BoxAt.new _ _ _)
  have HS1 : Hid (SegsAt (fun k => k < B) w1 v x.segs) := Lib.hid (h.any HB1.out (fun k hk => ⟨by rw [← hB]; exact hk, by rw [← hB]; exact hk⟩))
  have HBD := Lib.hid hb
  have HHV := Lib.hid (wheavy_any x v w1 HS1.out (fun k hk => by rw [hz1]; omega))
  have HW1 := Lib.hid hw1
  have HZ1 := Lib.hid hz1
  obtain ⟨ao, cap, rfl, _, _⟩ := h.form
  rw [hB]
  obtain ⟨d0, d1, d2, d3⟩ := HX.out.cells
  clear h hv hB hw1 hz1 _w1 hb
  unfold wv at HHV ⊢
  go_enter Tryz.func5, Tryz.ntmps5
  go_upto_region 1 with fail
  rw [HW1.out, HBQ.out]
  by_cases h3 : 3000 < ts.size
  · have d4 : decide ((3000 : Int) < (ts.size : Int)) = true := by rw [decide_eq_true_eq]; omega
    go_wp2_with fail
    refine HHV.out.mono ?_
    rintro e w2 ⟨⟨b, rfl, hlt⟩, hb2⟩
    rw [HZ1.out] at hb2
    have HB2 : Hid (Below B W w2) := Lib.hid (HB1.out.trans (hb2.mono (by omega)))
    clear hlt hb2 d0 d1 d2 d3
    cases b with
    | true =>
      go_wp2_with fail
      go_ret
      exact ⟨rfl, HB2.out⟩
    | false =>
      go_wp2_with fail
      go_ret
      exact ⟨rfl, HB2.out⟩
  have d4 : decide ((3000 : Int) < (ts.size : Int)) = false := by rw [decide_eq_false_iff_not]; omega
  go_wp2_with fail
  refine HHV.out.mono ?_
  rintro e w2 ⟨⟨b, rfl, hlt⟩, hb2⟩
  rw [HZ1.out] at hb2
  have HB2 := Lib.hid hb2
  clear hb2 d0 d1 d2 d3 HHV
  cases b with
  | true =>
    clear hlt
    go_wp2_with fail
    go_ret
    exact ⟨rfl, HB1.out.trans (HB2.out.mono (by omega))⟩
  | false =>
    have HP := Lib.hid (hlt rfl).print2
    clear hlt
    have HX2 : Hid (BoxAt w2 B x (.slice ao x.segs.length cap)) := Lib.hid (HX.out.on HB2.out (by omega))
    obtain ⟨d0, d1, d2, d3⟩ := HX2.out.cells
    obtain ⟨R, hR⟩ : ∃ R, wrapPrintE x = R := ⟨_, rfl⟩
    obtain ⟨rs, rn⟩ := R
    have HR := Lib.hid hR
    have hz2 := HB2.out.size
    rw [HZ1.out] at hz2
    have HV2 := Lib.hid (HV.out.on (HB1.out.trans (HB2.out.mono (by omega))) (by rw [HBQ.out]; exact Nat.le_refl _))
    have HS2 : Hid (SegsAt (fun k => k < B) w2 (.slice ao x.segs.length cap) x.segs) := Lib.hid (HS1.out.any HB2.out (fun k hk => ⟨by omega, hk⟩))
    have HPR := Lib.hid (wPrint_is HV2.out HBD.out.1 HBD.out.2.1 HBD.out.2.2 HS2.out (fun k hk => by omega) (fun _ => by have := HP.out; omega) hR)
    obtain ⟨ra, hra⟩ : ∃ ra : ByteArray, (⟨rs.toArray⟩ : ByteArray) = ra := ⟨_, rfl⟩
    have hrad : ra.data.toList = rs := by rw [← hra]
    have HRA := Lib.hid hra
    have HRAD := Lib.hid hrad
    unfold WTQ wv at HPR
    simp only [sv, hra] at HPR
    clear hra hrad hR
    obtain ⟨E0, hE0⟩ : ∃ b, (rn == 0) = b := ⟨_, rfl⟩
    go_upto_if 28 with ((with_reducible refine HPR.out.mono ?_); rintro e w3 ⟨rfl, hb3⟩; have HB3 := Lib.hid (HB2.out.trans (hb3.mono hz2)); clear hb3)
    clear d0 d1 d2 d3 HPR
    go_cut [] (fun wx => Hid (Below (B + 1) w1 wx))
    case first =>
      have HX3 : Hid (BoxAt w3 B x (.slice ao x.segs.length cap)) := Lib.hid (HX.out.on HB3.out (by omega))
      have hz3 := HB3.out.size
      rw [HZ1.out] at hz3
      have HV3 := Lib.hid (HV.out.on (HB1.out.trans (HB3.out.mono (by omega))) (by rw [HBQ.out]; exact Nat.le_refl _))
      cases E0 with
      | true =>
        obtain rfl : rn = 0 := by simpa using hE0
        clear hE0
        have hpb := (wrap_back HBD.out.2.2 HR.out).1
        have HPA := Lib.hid (wParse_is (s := ra) (w := w3) HV3.out (x := x) (k := 0) (by rw [HRAD.out]; exact hpb))
        clear hpb
        unfold WPQ wv at HPA
        go_upto_region 6 with ((with_reducible refine HPA.out.mono ?_); rintro e w4 ⟨y, rfl, hs4, hb4⟩; obtain ⟨ya, yc, rfl, _, _⟩ := hs4.form; have HS4 := Lib.hid hs4; have HB4 := Lib.hid hb4; clear hs4 hb4)
        obtain ⟨D, hD⟩ : ∃ D, w4.heap.size = D := ⟨_, rfl⟩
        have hz4 := HB4.out.size
        rw [hD] at hz4
        obtain ⟨w5, hw5⟩ : ∃ w5, w4.alloc (.cells #[.int .u8 (x.fr : Int), .int .u8 (x.dst : Int), .int .u64 (x.rf : Int), .slice ya x.segs.length yc] 25) = w5 := ⟨_, rfl⟩
        have HY5 : Hid (BoxAt w5 D x (.slice ya x.segs.length yc)) := Lib.hid (by rw [← hw5, ← hD]; exact BoxAt.new _ _ _)
        have HB5 : Hid (Below w3.heap.size w3 w5) := Lib.hid (by rw [← hw5]; exact HB4.out.trans ((Below.refl _ _).alloc (by omega) _))
        have hz5 : w5.heap.size = D + 1 := by rw [← hw5, ← hD]; simp
        have HSY : Hid (SegsAt (fun k => k < w5.heap.size) w5 (.slice ya x.segs.length yc) x.segs) := Lib.hid (by rw [← hw5]; exact HS4.out.any ((Below.refl _ _).alloc (Nat.le_refl _) _) (fun k hk => ⟨hk.2, by simp; omega⟩))
        have HB6 : Hid (Below (B + 1) w1 w5) := Lib.hid (HB3.out.trans (HB5.out.mono hz3))
        have HX5 : Hid (BoxAt w5 B x (.slice ao x.segs.length cap)) := Lib.hid (HX.out.on HB6.out (by omega))
        obtain ⟨d0, d1, d2, d3⟩ := HX5.out.cells
        obtain ⟨q0, q1, q2, q3⟩ := HY5.out.cells
        have HSX : Hid (SegsAt (fun k => k < B) w5 (.slice ao x.segs.length cap) x.segs) := Lib.hid (HS1.out.any HB6.out (fun k hk => ⟨by omega, hk⟩))
        have HSM := Lib.hid (wsame_any x x _ _ w5 HSY.out HSX.out (fun k hk => hk) (fun k hk => by omega))
        rw [wsameB_self] at HSM
        unfold WSameQ wv at HSM
        have HW5 := Lib.hid hw5
        have HDD := Lib.hid hD
        clear hw5 hD
        rw [HW5.out, HDD.out]
        go_wp2_with ((with_reducible refine HSM.out.mono ?_); rintro e w6 ⟨rfl, hd⟩; have HD := Lib.hid hd; clear hd)
        go_meet
        case rel => exact Lib.hid (HB6.out.trans (HD.out.mono (by omega)))
      | false =>
        have hrn : rn ≠ 0 := by simpa using hE0
        have hrs := wprint_err HR.out hrn
        have hnil : ra.toList = [] := by rw [ByteArray.toList_eq, HRAD.out, hrs]
        clear hE0 hrn hrs
        go_wp2_with fail
        go_meet
        case rel => exact HB3
    case rest =>
      have HC := hcut
      clear hcut hE0 HR HRA HRAD HX2 HV2 HS2 HB3 HB2 d4
      have hzc := HC.out.size
      rw [HZ1.out] at hzc
      have HVC := Lib.hid (HV.out.on (HB1.out.trans (HC.out.mono (by omega))) (by rw [HBQ.out]; exact Nat.le_refl _))
      obtain ⟨P, hP⟩ : ∃ P, wrapParseE ts.data.toList = P := ⟨_, rfl⟩
      obtain ⟨y, k⟩ := P
      have HPA := Lib.hid (wParse_is (s := ts) (w := wc) HVC.out hP)
      have hlen : ts.data.toList.length ≤ 65536 := by
        have : ts.data.toList.length = ts.size := by simp
        omega
      unfold WPQ wv at HPA
      by_cases hk : k = 0
      · subst hk
        have HTH := Lib.hid (wrap_there hlen hP)
        have HYB := Lib.hid (wparse_bd hP)
        have HYL := Lib.hid (wok_len (wok HYB.out.2.2 HTH.out))
        clear hP
        go_upto_region 13 with ((with_reducible refine HPA.out.mono ?_); rintro e w4 ⟨yv, rfl, hs4, hb4⟩; obtain ⟨ya, yc, rfl, _, _⟩ := hs4.form; have HS4 := Lib.hid hs4; have HB4 := Lib.hid hb4; clear hs4 hb4)
        obtain ⟨D, hD⟩ : ∃ D, w4.heap.size = D := ⟨_, rfl⟩
        have hz4 := HB4.out.size
        rw [hD] at hz4
        obtain ⟨w5, hw5⟩ : ∃ w5, w4.alloc (.cells #[.int .u8 (y.fr : Int), .int .u8 (y.dst : Int), .int .u64 (y.rf : Int), .slice ya y.segs.length yc] 25) = w5 := ⟨_, rfl⟩
        have HY5 : Hid (BoxAt w5 D y (.slice ya y.segs.length yc)) := Lib.hid (by rw [← hw5, ← hD]; exact BoxAt.new _ _ _)
        have HB5 : Hid (Below B W w5) := Lib.hid (by rw [← hw5]; exact (HB1.out.trans (HC.out.mono (by omega))).trans ((HB4.out.mono (by omega)).trans ((Below.refl _ _).alloc (by omega) _)))
        have hz5 : w5.heap.size = D + 1 := by rw [← hw5, ← hD]; simp
        have HSY : Hid (SegsAt (fun k => k < w5.heap.size) w5 (.slice ya y.segs.length yc) y.segs) := Lib.hid (by rw [← hw5]; exact HS4.out.any ((Below.refl _ _).alloc (Nat.le_refl _) _) (fun k hk => ⟨hk.2, by simp; omega⟩))
        have HZ5 := Lib.hid hz5
        obtain ⟨q0, q1, q2, q3⟩ := HY5.out.cells
        have HV5 := Lib.hid (HV.out.on HB5.out (by rw [HBQ.out]; exact Nat.le_refl _))
        have HPR := Lib.hid (wPrint_is HV5.out HYB.out.1 HYB.out.2.1 HYB.out.2.2 HSY.out (fun k hk => hk) (fun _ => by have := HYL.out; omega) HTH.out)
        obtain ⟨T, hT⟩ : ∃ T, ts.data.toList = T := ⟨_, rfl⟩
        have HT := Lib.hid hT
        rw [hT] at HPR
        obtain ⟨na, hna⟩ : ∃ na : ByteArray, (⟨(no10 T).toArray⟩ : ByteArray) = na := ⟨_, rfl⟩
        unfold WTQ wv at HPR
        simp only [sv, hna] at HPR
        have HNA := Lib.hid hna
        have HW5 := Lib.hid hw5
        have HDD := Lib.hid hD
        clear hT hna hlen hw5 hD hz5 HPA
        rw [HW5.out, HDD.out]
        go_upto_region 14 with ((with_reducible refine HPR.out.mono ?_); rintro e w6 ⟨rfl, hb6⟩; have HB7 := Lib.hid hb6; clear hb6)
        have HB6 : Hid (Below B W w6) := Lib.hid (HB5.out.trans (HB7.out.mono (by rw [HZ5.out]; omega)))
        clear HB7 HPR q0 q1 q2 q3
        go_wp2_with fail
        go_loopw [13, 14] (fun bv i wr => ∃ (q : Nat), q ≤ ts.size ∧ i = .int .i64 (q : Int) ∧ Hid (OwnS wr B bv (no10 (T.take q))) ∧ Hid (Below B W wr)) (fun _ i _ => ts.size - (intOf i).toNat)
        case atStart => exact ⟨0, Nat.zero_le _, rfl, Lib.hid (OwnS.nil _ _), HB6⟩
        case round =>
          obtain ⟨q, hq, rfl, HO, HB7⟩ := hrel
          clear HB6
          have hBs := HB7.out.size
          rw [HBQ.out] at hBs
          by_cases hql : q < ts.size
          · obtain ⟨c, hc⟩ : ∃ c, T[q]? = some c := ⟨_, by rw [← HT.out]; exact at_byte ts q hql⟩
            have hcq : (ts[q]'hql).toNat = c.toNat := by
              have h1 := at_byte ts q hql
              rw [HT.out, hc] at h1
              injection h1 with h1
              exact congrArg UInt8.toNat h1.symm
            have HN := Lib.hid (no10_take hc)
            have hol : (no10 (T.take q)).length ≤ 3000 := by
              have h1 := no10_le (T.take q)
              rw [List.length_take] at h1
              omega
            have b5 : (0 : Int) ≤ q := by omega
            have b6 : (q : Int) < ts.size := by omega
            clear hc
            by_cases h10 : c = 10
            · subst h10
              have hcq' : (ts[q]'hql).toNat = 10 := hcq
              clear hcq
              go_wp2_with fail
              go_roundw
              case rel => exact ⟨q + 1, by omega, by go_num, Lib.hid (by rw [HN.out, if_pos rfl, List.append_nil]; exact HO.out), HB7⟩
              case measure => simp [intOf]; omega
            · have dc : ((c.toNat : Int) == 10) = false := by
                rw [beq_eq_false_iff_ne]; intro e
                exact h10 (UInt8.toNat_inj.1 (by have : c.toNat = 10 := by omega
                                                 rw [this]; rfl))
              have dc2 : ((c.toNat : Int) != 10) = true := by
                rw [bne_iff_ne]; intro e
                exact h10 (UInt8.toNat_inj.1 (by have : c.toNat = 10 := by omega
                                                 rw [this]; rfl))
              have H10 := Lib.hid h10
              clear h10
              go_wp2_with ((with_reducible refine wpList_at (.call { callee := .builtin .append, args := #[.tmp 72, .tmp 76], argTypes := #[39, 39] }) rfl ?_); go_loud (refine wp_app1 rfl _ _ rfl c rfl rfl HO.out (by omega) hBs ?_); intro v8 w8 ho8 hg8; have HO8 := Lib.hid ho8; have HB8 := Lib.hid (below_grownO HB7.out HO.out hg8 hBs); clear ho8 hg8)
              go_roundw
              case rel => exact ⟨q + 1, by omega, by go_num, Lib.hid (by rw [HN.out, if_neg H10.out]; exact HO8.out), HB8⟩
              case measure => simp [intOf]; omega
          · obtain rfl : q = ts.size := by omega
            have e1 : T.take ts.size = T := List.take_of_length_le (by rw [← HT.out]; simp)
            have hO := HO.out
            rw [e1] at hO
            obtain ⟨ba, bc, rfl⟩ := hO.form
            have hcv : (convert 39 9 (.slice ba (no10 T).length bc)).run Tryz.prog wr = .ok (.string na) wr := by rw [← HNA.out]; exact conv_own hO
            have d1 := str_same na
            have HVR := Lib.hid (HV.out.on HB7.out (by rw [HBQ.out]; exact Nat.le_refl _))
            clear e1 hO
            go_wp2_with ((with_reducible refine (wraps_any _ HVR.out).mono ?_); rintro e w9 ⟨rfl, hb9⟩; have HB9 := Lib.hid hb9; clear hb9)
            go_ret
            exact ⟨rfl, HB7.out.trans (HB9.out.mono hBs)⟩
      · skip
        obtain rfl := wrap_err hP hk
        have dk : (k != 0) = true := by rw [bne_iff_ne]; exact hk
        clear hP hk hlen
        go_upto_region 12 with ((with_reducible refine HPA.out.mono ?_); rintro e w4 ⟨yv, rfl, hs4, hb4⟩; obtain ⟨ya, yc, rfl, _, _⟩ := hs4.form; have HS4 := Lib.hid hs4; have HB4 := Lib.hid hb4; clear hs4 hb4)
        obtain ⟨D, hD⟩ : ∃ D, w4.heap.size = D := ⟨_, rfl⟩
        have hz4 := HB4.out.size
        rw [hD] at hz4
        obtain ⟨w5, hw5⟩ : ∃ w5, w4.alloc (.cells #[.int .u8 (wd0.fr : Int), .int .u8 (wd0.dst : Int), .int .u64 (wd0.rf : Int), .slice ya wd0.segs.length yc] 25) = w5 := ⟨_, rfl⟩
        have HY5 : Hid (BoxAt w5 D wd0 (.slice ya wd0.segs.length yc)) := Lib.hid (by rw [← hw5, ← hD]; exact BoxAt.new _ _ _)
        have HB5 : Hid (Below B W w5) := Lib.hid (by rw [← hw5]; exact (HB1.out.trans (HC.out.mono (by omega))).trans ((HB4.out.mono (by omega)).trans ((Below.refl _ _).alloc (by omega) _)))
        have hz5 : w5.heap.size = D + 1 := by rw [← hw5, ← hD]; simp
        have HSY : Hid (SegsAt (fun k => k < w5.heap.size) w5 (.slice ya wd0.segs.length yc) wd0.segs) := Lib.hid (by rw [← hw5]; exact HS4.out.any ((Below.refl _ _).alloc (Nat.le_refl _) _) (fun k hk => ⟨hk.2, by simp; omega⟩))
        have HZ5 := Lib.hid hz5
        obtain ⟨q0, q1, q2, q3⟩ := HY5.out.cells
        have HSM := Lib.hid (wsame_any wd0 wd0 _ (.slice none 0 0) w5 HSY.out (segs_nil (fun _ => False) _) (fun k hk => hk) (fun k hk => hk.elim))
        rw [wsameB_self] at HSM
        unfold WSameQ wv at HSM
        have HW5 := Lib.hid hw5
        have HDD := Lib.hid hD
        clear hw5 hD hz5 HPA
        rw [HW5.out, HDD.out]
        go_wp2_with (first
          | (go_at_call 11; refine HSM.out.mono ?_; rintro e w6 ⟨rfl, hd⟩; have HB6 : Hid (Below B W w6) := Lib.hid (HB5.out.trans (hd.mono (by rw [HZ5.out]; omega))); have HV6 := Lib.hid (HV.out.on HB6.out (by rw [HBQ.out]; exact Nat.le_refl _)); clear hd)
          | (go_at_call 12; refine (wraps_any _ HV6.out).mono ?_; rintro e w9 ⟨rfl, hb9⟩; have HB9 := Lib.hid hb9; clear hb9))
        go_ret
        have hz6 := HB6.out.size
        rw [HBQ.out] at hz6
        exact ⟨rfl, HB6.out.trans (HB9.out.mono hz6)⟩
end Go.Proofs.YteaaiejfieaalaaGreatDoor
