/-
  MsgBackV: the walk of MsgBack for every input. No condition but the laid variables.
-/
import Derived.Test.YtfbiffdldfkmpaaGreatDoorMg14
import Derived.Test.YtfbiffdldfkmpaaGreatDoorMg15
namespace Go.Proofs.YtfbiffdldfkmpaaGreatDoor
open Go.RowKit
set_option maxRecDepth 100000 in
set_option maxHeartbeats 8000000 in
theorem msgBack_walk {W : World} (hv : VarsOk W) (p : PD) (hp : okPD p) (ts : ByteArray) (_w1 : ts.size ≤ maxLen) : Calls Tryz.prog 6 #[.agg (pktA p).toArray, .string ts] W fun e w' => e = .returned (.bool true) ∧ Below W.heap.size W w' := by
  obtain ⟨B, hB⟩ : ∃ B, W.heap.size = B := ⟨_, rfl⟩
  have HBQ := Lib.hid hB
  have HV := Lib.hid hv
  obtain ⟨w1, hw1⟩ : ∃ w1, W.alloc (.cells (pktA p).toArray 38) = w1 := ⟨_, rfl⟩
  have hz1 : w1.heap.size = B + 1 := by rw [← hw1]; simp [hB]
  have HB1 : Hid (Below B W w1) := Lib.hid (by rw [← hw1, ← hB]; exact (Below.refl _ _).alloc (Nat.le_refl _) _)
  have HC1 : Hid (w1.heap[B]? = some (.cells (pktA p).toArray 38 (0, 0))) := Lib.hid (by rw [← hw1, ← hB]; exact heap_alloc_new _ _)
  obtain ⟨R, hR⟩ : ∃ R, textM p = R := ⟨_, rfl⟩
  obtain ⟨rs, rn⟩ := R
  have HR := Lib.hid hR
  have HPN := Lib.hid hp.num
  have HV1 := Lib.hid (hv.on HB1.out (by rw [hB]; exact Nat.le_refl _))
  have HPR := Lib.hid (mText_is hp HV1.out hR)
  have HMY := Lib.hid (fun w => mmay_any p hp w)
  have hself := fun w => neq_pkt p p w
  rw [show eqP p p = true from eqP_iff.2 rfl] at hself
  obtain ⟨E0, hE0⟩ : ∃ b, (rn == 0) = b := ⟨_, rfl⟩
  have hmy : mayP p = E0 := by
    rw [← hE0, Bool.eq_iff_iff, ← textM_may hp.num, hR, beq_iff_eq]
  rw [hmy] at HMY
  have hEE : (E0 != E0) = false := by cases E0 <;> rfl
  unfold pktA msgA at hself HC1 hw1 HPR HMY ⊢
  simp only [List.cons_append, List.nil_append, Bool.not_true] at hself HC1 hw1 HPR HMY ⊢
  obtain ⟨ra, hra⟩ : ∃ ra : ByteArray, (⟨rs.toArray⟩ : ByteArray) = ra := ⟨_, rfl⟩
  have hrad : ra.data.toList = rs := by rw [← hra]
  have HRAD := Lib.hid hrad
  unfold WTQ sv at HPR
  rw [hra] at HPR
  unfold MayQ at HMY
  have HW1 := Lib.hid hw1
  have HZ1 := Lib.hid hz1
  rw [hB]
  obtain ⟨d0, d1, d2, d3, d4, d5, d6, d7, d8, d9, d10, d11, d12, d13, d14, d15⟩ := (cells16 HC1.out).1
  clear hv hB hw1 hz1 _w1 hR hra hrad hmy hp
  go_enter Tryz.func6, Tryz.ntmps6
  go_upto_region 1 with fail
  rw [HW1.out, HBQ.out]
  by_cases h3 : 3000 < ts.size
  · have d4 : decide ((3000 : Int) < (ts.size : Int)) = true := by rw [decide_eq_true_eq]; omega
    go_wp2_with fail
    go_ret
    exact ⟨rfl, HB1.out⟩
  have hts : decide ((3000 : Int) < (ts.size : Int)) = false := by rw [decide_eq_false_iff_not]; omega
  go_upto_region 4 with (go_at_call 19; refine HPR.out.mono ?_; rintro e w2 ⟨rfl, hb⟩; rw [HZ1.out] at hb; have HB2 := Lib.hid hb; clear hb)
  clear d0 d1 d2 d3 d4 d5 d6 d7 d8 d9 d10 d11 d12 d13 d14 d15
  obtain ⟨d0, d1, d2, d3, d4, d5, d6, d7, d8, d9, d10, d11, d12, d13, d14, d15⟩ := (cells16 ((HB2.out.block B (by omega)).trans HC1.out)).1
  have hz2 := HB2.out.size
  rw [HZ1.out] at hz2
  go_upto_if 29 with (go_at_call 23; refine (HMY.out _).mono ?_; rintro e w3 ⟨rfl, hb⟩; have HB3 := Lib.hid (HB2.out.trans (hb.mono hz2)); clear hb)
  clear d0 d1 d2 d3 d4 d5 d6 d7 d8 d9 d10 d11 d12 d13 d14 d15
  clear HPR HMY
  go_cut [] (fun wx => Hid (Below (B + 1) w1 wx))
  case first => as_aux_lemma =>
    have hz3 := HB3.out.size
    rw [HZ1.out] at hz3
    have HV3 := Lib.hid (HV.out.on (HB1.out.trans (HB3.out.mono (by omega))) (by rw [HBQ.out]; exact Nat.le_refl _))
    cases E0 with
    | true =>
      obtain rfl : rn = 0 := by simpa using hE0
      clear hE0
      have HPA := Lib.hid (mParse_is (s := ra) (w := w3) HV3.out (q := p) (k := 0) (by rw [HRAD.out]; exact (text_back HPN.out HR.out).1))
      unfold MPQ pktA msgA at HPA
      simp only [List.cons_append, List.nil_append] at HPA
      go_upto_region 8 with (go_at_call 21; refine HPA.out.mono ?_; rintro e w4 ⟨rfl, hb⟩; have HB4 := Lib.hid hb; clear hb)
      obtain ⟨D, hD⟩ : ∃ D, w4.heap.size = D := ⟨_, rfl⟩
      have hz4 := HB4.out.size
      rw [hD] at hz4
      obtain ⟨w5, hw5⟩ : ∃ w5, w4.alloc (.cells #[.int .u8 (p.fr : Int), .int .u8 (p.dst : Int), .bool p.ack, .int .u64 (p.num : Int), .int .u8 (p.m.kind : Int), .int .u8 (p.m.tc : Int), .int .u64 (p.m.ts : Int), .int .u8 (p.m.pl : Int), .int .u8 (p.m.c.car : Int), .int .u16 (p.m.c.fl : Int), .int .u32 (p.m.c.we : Int), .int .i64 p.m.c.va, .int .u8 (p.m.c.st : Int), .int .u32 (p.m.c.no : Int), .int .i64 p.m.am, .int .i64 p.m.co] 38) = w5 := ⟨_, rfl⟩
      have HC5 : Hid (w5.heap[D]? = some (.cells #[.int .u8 (p.fr : Int), .int .u8 (p.dst : Int), .bool p.ack, .int .u64 (p.num : Int), .int .u8 (p.m.kind : Int), .int .u8 (p.m.tc : Int), .int .u64 (p.m.ts : Int), .int .u8 (p.m.pl : Int), .int .u8 (p.m.c.car : Int), .int .u16 (p.m.c.fl : Int), .int .u32 (p.m.c.we : Int), .int .i64 p.m.c.va, .int .u8 (p.m.c.st : Int), .int .u32 (p.m.c.no : Int), .int .i64 p.m.am, .int .i64 p.m.co] 38 (0, 0))) := Lib.hid (by rw [← hw5, ← hD]; exact heap_alloc_new _ _)
      have HB5 : Hid (Below (B + 1) w1 w5) := Lib.hid (by rw [← hw5]; exact HB3.out.trans ((HB4.out.mono hz3).alloc (by omega) _))
      have HW5 := Lib.hid hw5
      have HDD := Lib.hid hD
      clear hw5 hD
      rw [HW5.out, HDD.out]
      obtain ⟨k0, k1, k2, k3, k4, k5, k6, k7, k8, k9, k10, k11, k12, k13, k14, k15⟩ := (cells16 HC5.out).1
      obtain ⟨d0, d1, d2, d3, d4, d5, d6, d7, d8, d9, d10, d11, d12, d13, d14, d15⟩ := (cells16 ((HB5.out.block B (by omega)).trans HC1.out)).1
      go_wp2_with fail
      go_meet
      case rel => exact HB5
    | false =>
      clear hE0
      go_wp2_with fail
      go_meet
      case rel => exact HB3
  case rest => as_aux_lemma =>
    have HC := hcut
    clear hcut hE0 HR HRAD HB3 HB2 hself hEE
    have hzc := HC.out.size
    rw [HZ1.out] at hzc
    have HBC : Hid (Below B W wc) := Lib.hid (HB1.out.trans (HC.out.mono (by omega)))
    have HVC := Lib.hid (HV.out.on HBC.out (by rw [HBQ.out]; exact Nat.le_refl _))
    obtain ⟨P, hP⟩ : ∃ P, parseTM ts.data.toList = P := ⟨_, rfl⟩
    obtain ⟨y, k⟩ := P
    have HPA := Lib.hid (mParse_is (s := ts) (w := wc) HVC.out hP)
    have hlen : ts.data.toList.length ≤ 65536 := by
      have : ts.data.toList.length = ts.size := by simp
      omega
    by_cases hk : k = 0
    · subst hk
      have HTH := Lib.hid (text_there hlen hP)
      have HOK := Lib.hid (parseTM_ok hP)
      have HMZ := Lib.hid (fun w => mmay_any y HOK.out w)
      rw [HTH.out.2] at HMZ
      clear hP
      obtain ⟨T, hT⟩ : ∃ T, ts.data.toList = T := ⟨_, rfl⟩
      have HT := Lib.hid hT
      have HPX := Lib.hid (fun w hv => mText_is HOK.out (w := w) hv HTH.out.1)
      rw [hT] at HPX
      obtain ⟨na, hna⟩ : ∃ na : ByteArray, (⟨(no10 T).toArray⟩ : ByteArray) = na := ⟨_, rfl⟩
      unfold WTQ sv at HPX
      rw [hna] at HPX
      have HNA := Lib.hid hna
      unfold MayQ at HMZ
      unfold MPQ at HPA
      unfold pktA msgA at HPA HPX HMZ
      simp only [List.cons_append, List.nil_append] at HPA HPX HMZ
      clear hT hna hlen
      go_upto_region 13 with (go_at_call 21; refine HPA.out.mono ?_; rintro e w4 ⟨rfl, hb⟩; have HB4 := Lib.hid hb; clear hb)
      obtain ⟨D, hD⟩ : ∃ D, w4.heap.size = D := ⟨_, rfl⟩
      have hz4 := HB4.out.size
      rw [hD] at hz4
      obtain ⟨w5, hw5⟩ : ∃ w5, w4.alloc (.cells #[.int .u8 (y.fr : Int), .int .u8 (y.dst : Int), .bool y.ack, .int .u64 (y.num : Int), .int .u8 (y.m.kind : Int), .int .u8 (y.m.tc : Int), .int .u64 (y.m.ts : Int), .int .u8 (y.m.pl : Int), .int .u8 (y.m.c.car : Int), .int .u16 (y.m.c.fl : Int), .int .u32 (y.m.c.we : Int), .int .i64 y.m.c.va, .int .u8 (y.m.c.st : Int), .int .u32 (y.m.c.no : Int), .int .i64 y.m.am, .int .i64 y.m.co] 38) = w5 := ⟨_, rfl⟩
      have HC5 : Hid (w5.heap[D]? = some (.cells #[.int .u8 (y.fr : Int), .int .u8 (y.dst : Int), .bool y.ack, .int .u64 (y.num : Int), .int .u8 (y.m.kind : Int), .int .u8 (y.m.tc : Int), .int .u64 (y.m.ts : Int), .int .u8 (y.m.pl : Int), .int .u8 (y.m.c.car : Int), .int .u16 (y.m.c.fl : Int), .int .u32 (y.m.c.we : Int), .int .i64 y.m.c.va, .int .u8 (y.m.c.st : Int), .int .u32 (y.m.c.no : Int), .int .i64 y.m.am, .int .i64 y.m.co] 38 (0, 0))) := Lib.hid (by rw [← hw5, ← hD]; exact heap_alloc_new _ _)
      have HB5 : Hid (Below B W w5) := Lib.hid (by rw [← hw5]; exact HBC.out.trans ((HB4.out.mono (by omega)).alloc (by omega) _))
      have hz5 : w5.heap.size = D + 1 := by rw [← hw5, ← hD]; simp
      have HZ5 := Lib.hid hz5
      have HBD : Hid (B ≤ D) := Lib.hid (by omega)
      have HW5 := Lib.hid hw5
      have HDD := Lib.hid hD
      clear hw5 hD hz4
      rw [HW5.out, HDD.out]
      obtain ⟨d0, d1, d2, d3, d4, d5, d6, d7, d8, d9, d10, d11, d12, d13, d14, d15⟩ := (cells16 HC5.out).1
      go_upto_region 14 with (go_at_call 19; refine (HPX.out _ (HV.out.on HB5.out (by rw [HBQ.out]; exact Nat.le_refl _))).mono ?_; rintro e w6 ⟨rfl, hb⟩; rw [hz5] at hb; have HB7 := Lib.hid hb; clear hb)
      have HB6 : Hid (Below (D + 1) w5 w6) := HB7
      clear HPX HPA
      clear d0 d1 d2 d3 d4 d5 d6 d7 d8 d9 d10 d11 d12 d13 d14 d15
      go_wp2_with fail
      go_loopw [13, 14] (fun bv i wr => ∃ (q : Nat), q ≤ ts.size ∧ i = .int .i64 (q : Int) ∧ Hid (OwnS wr (D + 1) bv (no10 (T.take q))) ∧ Hid (Below (D + 1) w5 wr)) (fun _ i _ => ts.size - (intOf i).toNat)
      case atStart => exact ⟨0, Nat.zero_le _, rfl, Lib.hid (OwnS.nil _ _), HB6⟩
      case round => as_aux_lemma =>
        obtain ⟨q, hq, rfl, HO, HB7⟩ := hrel
        clear HB6
        have hBs := HB7.out.size
        rw [HZ5.out] at hBs
        by_cases hql : q < ts.size
        · obtain ⟨c, hc⟩ : ∃ c, T[q]? = some c := ⟨_, by rw [← HT.out]; exact at_byte ts q hql⟩
          have hcq : (ts[q]'hql).toNat = c.toNat := by
            have h1 := at_byte ts q hql
            rw [HT.out, hc] at h1
            injection h1 with h1
            exact congrArg UInt8.toNat h1.symm
          have HN := Lib.hid (no10_take hc)
          have hol : (no10 (T.take q)).length ≤ 3000 := by
            have h1 := no10_le (T.take q)
            rw [List.length_take] at h1
            omega
          have b5 : (0 : Int) ≤ q := by omega
          have b6 : (q : Int) < ts.size := by omega
          clear hc
          by_cases h10 : c = 10
          · subst h10
            have hcq' : (ts[q]'hql).toNat = 10 := hcq
            clear hcq
            go_wp2_with fail
            go_roundw
            case rel => exact ⟨q + 1, by omega, by go_num, Lib.hid (by rw [HN.out, if_pos rfl, List.append_nil]; exact HO.out), HB7⟩
            case measure => simp [intOf]; omega
          · have dc : ((c.toNat : Int) == 10) = false := by
              rw [beq_eq_false_iff_ne]; intro e
              exact h10 (UInt8.toNat_inj.1 (by have : c.toNat = 10 := by omega
                                               rw [this]; rfl))
            have dc2 : ((c.toNat : Int) != 10) = true := by
              rw [bne_iff_ne]; intro e
              exact h10 (UInt8.toNat_inj.1 (by have : c.toNat = 10 := by omega
                                               rw [this]; rfl))
            have H10 := Lib.hid h10
            clear h10
            go_wp2_with ((with_reducible refine wpList_at (.call { callee := .builtin .append, args := #[.tmp 70, .tmp 74], argTypes := #[57, 57] }) rfl ?_); go_loud (refine wp_app1 rfl _ _ rfl c rfl rfl HO.out (by omega) hBs ?_); intro v8 w8 ho8 hg8; have HO8 := Lib.hid ho8; have HB8 := Lib.hid (below_grownO HB7.out HO.out hg8 hBs); clear ho8 hg8)
            go_roundw
            case rel => exact ⟨q + 1, by omega, by go_num, Lib.hid (by rw [HN.out, if_neg H10.out]; exact HO8.out), HB8⟩
            case measure => simp [intOf]; omega
        · obtain rfl : q = ts.size := by omega
          have e1 : T.take ts.size = T := List.take_of_length_le (by rw [← HT.out]; simp)
          have hO := HO.out
          rw [e1] at hO
          obtain ⟨ba, bc, rfl⟩ := hO.form
          have hcv : (convert 57 9 (.slice ba (no10 T).length bc)).run Tryz.prog wr = .ok (.string na) wr := by rw [← HNA.out]; exact conv_own hO
          have d1 := str_same na
          have HBR : Hid (Below B W wr) := Lib.hid (HB5.out.trans (HB7.out.mono (by have := HBD.out; omega)))
          have hBr := HBR.out.size
          rw [HBQ.out] at hBr
          obtain ⟨k0, k1, k2, k3, k4, k5, k6, k7, k8, k9, k10, k11, k12, k13, k14, k15⟩ := (cells16 ((HB7.out.block D (by omega)).trans HC5.out)).1
          clear e1 hO
          go_wp2_with (first
            | (go_at_call 23; refine (HMZ.out _).mono ?_; rintro e w8 ⟨rfl, hb⟩; have HB8 := Lib.hid (HBR.out.trans (hb.mono hBr)); have HZ8 := Lib.hid (Nat.le_trans hBr hb.size); clear hb)
            | (go_at_call 14; refine (tells_any _ (HV.out.on HB8.out (by rw [HBQ.out]; exact Nat.le_refl _))).mono ?_; rintro e w9 ⟨rfl, hb⟩; have HB9 := Lib.hid (HB8.out.trans (hb.mono HZ8.out)); clear hb))
          go_ret
          exact ⟨rfl, HB9.out⟩
    · skip
      obtain rfl := parseTM_err hP hk
      have dk : (k != 0) = true := by rw [bne_iff_ne]; exact hk
      have hself := fun w => eql_pkt pd0 pd0 w
      rw [show eqP pd0 pd0 = true from eqP_iff.2 rfl] at hself
      unfold pktA msgA pd0 md0 cd0 at hself
      unfold MPQ pktA msgA pd0 md0 cd0 at HPA
      simp only [List.cons_append, List.nil_append, Int.natCast_zero] at hself HPA
      clear hP hk hlen
      go_upto_region 12 with (go_at_call 21; refine HPA.out.mono ?_; rintro e w4 ⟨rfl, hb⟩; have HB4 := Lib.hid hb; clear hb)
      obtain ⟨D, hD⟩ : ∃ D, w4.heap.size = D := ⟨_, rfl⟩
      have hz4 := HB4.out.size
      rw [hD] at hz4
      obtain ⟨w5, hw5⟩ : ∃ w5, w4.alloc (.cells #[.int .u8 0, .int .u8 0, .bool false, .int .u64 0, .int .u8 0, .int .u8 0, .int .u64 0, .int .u8 0, .int .u8 0, .int .u16 0, .int .u32 0, .int .i64 0, .int .u8 0, .int .u32 0, .int .i64 0, .int .i64 0] 38) = w5 := ⟨_, rfl⟩
      have HC5 : Hid (w5.heap[D]? = some (.cells #[.int .u8 0, .int .u8 0, .bool false, .int .u64 0, .int .u8 0, .int .u8 0, .int .u64 0, .int .u8 0, .int .u8 0, .int .u16 0, .int .u32 0, .int .i64 0, .int .u8 0, .int .u32 0, .int .i64 0, .int .i64 0] 38 (0, 0))) := Lib.hid (by rw [← hw5, ← hD]; exact heap_alloc_new _ _)
      have HB5 : Hid (Below B W w5) := Lib.hid (by rw [← hw5]; exact HBC.out.trans ((HB4.out.mono (by omega)).alloc (by omega) _))
      have HZ5 : Hid (B ≤ w5.heap.size) := Lib.hid (by rw [← hw5]; simp; omega)
      have HW5 := Lib.hid hw5
      have HDD := Lib.hid hD
      clear hw5 hD hz4
      rw [HW5.out, HDD.out]
      obtain ⟨d0, d1, d2, d3, d4, d5, d6, d7, d8, d9, d10, d11, d12, d13, d14, d15⟩ := (cells16 HC5.out).1
      go_wp2_with (go_at_call 14; refine (tells_any _ (HV.out.on HB5.out (by rw [HBQ.out]; exact Nat.le_refl _))).mono ?_; rintro e w9 ⟨rfl, hb⟩; have HB9 := Lib.hid (HB5.out.trans (hb.mono HZ5.out)); clear hb)
      go_ret
      exact ⟨rfl, HB9.out⟩
end Go.Proofs.YtfbiffdldfkmpaaGreatDoor
