/-
  Texts MsgR2, MsgR3, MsgQ4, MsgQ5, MsgQ8, MsgQ7, one behind the other. No condition beyond those stated in each.
-/
import Derived.Test.YtfbiffdldfkmpaaGreatDoorMg14
import Derived.Test.YtfbiffdldfkmpaaGreatDoorMg11
import Derived.Test.YtfbiffdldfkmpaaGreatDoorMg12
import Derived.Test.YtfbiffdldfkmpaaGreatDoorMg6
import Derived.Test.YtfbiffdldfkmpaaGreatDoorMg5
/-
  MsgR2: the reference's May, before its coupon. No condition.
-/
namespace Go.Proofs.YtfbiffdldfkmpaaGreatDoor
open Go.RowKit
set_option maxRecDepth 100000 in
set_option maxHeartbeats 4000000 in
theorem eqIn_c0 (c : CD) (w : World) (d : Nat) : (Op.equalIn (d + 4) 33 (.agg (cpnA c).toArray) (.agg #[.int .u8 0, .int .u16 0, .int .u32 0, .int .i64 0, .int .u8 0, .int .u32 0])).run Tryz.prog w = .ok (c0B c) w := by
  unfold cpnA c0B
  go_simp
  simp only [ite_chain, Bool.and_true, Bool.and_assoc]
theorem neq_c0 (c : CD) (w : World) : (binOp .neq 33 (.agg (cpnA c).toArray) (.agg #[.int .u8 0, .int .u16 0, .int .u32 0, .int .i64 0, .int .u8 0, .int .u32 0])).run Tryz.prog w = .ok (.bool (!c0B c)) w := by
  rw [run_neq_struct, eqIn_c0 c w 9996]; rfl
set_option maxRecDepth 100000 in
set_option maxHeartbeats 4000000 in
theorem may_none (m : MD) (hk : hasK m.kind = none) (w : World) : Calls Tryz.prog 32 #[.agg (msgA m).toArray] w fun e w' => e = .returned (.bool (mayR m)) ∧ Below w.heap.size w w' := by
  have HE : Hid (mayR m = false) := Lib.hid (by unfold mayR; rw [hk])
  have HB := Lib.hid ((Below.refl w.heap.size w).alloc (Nat.le_refl _) (.cells (msgA m).toArray 36))
  unfold msgA at HB ⊢
  go_enter Tryz.func32, Tryz.ntmps32
  go_wp2_with (go_at_call 25; refine (has_any _ _).mono ?_; rw [hk]; rintro e w' ⟨rfl, rfl⟩; unfold hasV)
  go_ret
  rw [HE.out]
  exact ⟨rfl, HB.out⟩
set_option maxRecDepth 100000 in
set_option maxHeartbeats 4000000 in
theorem may_out (m : MD) {a b c : Bool} (hk : hasK m.kind = some (a, b, c)) (hn : ¬ (m.pl < 4 ∧ moneyB m.am = true ∧ 0 ≤ m.co ∧ m.co ≤ 999)) (w : World) : Calls Tryz.prog 32 #[.agg (msgA m).toArray] w fun e w' => e = .returned (.bool (mayR m)) ∧ Below w.heap.size w w' := by
  have HE : Hid (mayR m = false) := Lib.hid (by
    unfold mayR; rw [hk]; simp only
    by_cases h1 : m.pl < 4
    · cases h2 : moneyB m.am with
      | false => simp
      | true =>
        by_cases h3 : 0 ≤ m.co
        · have h4 : ¬ m.co ≤ 999 := fun h => hn ⟨h1, h2, h3, h⟩
          simp [h4]
        · simp [h3]
    · simp [h1])
  have HB := Lib.hid ((Below.refl w.heap.size w).alloc (Nat.le_refl _) (.cells (msgA m).toArray 36))
  unfold msgA at HB ⊢
  by_cases h1 : m.pl < 4
  · have i1 : decide ((4 : Int) ≤ (m.pl : Int)) = false := by rw [decide_eq_false_iff_not]; omega
    cases h2 : moneyB m.am with
    | false =>
      clear hn
      go_enter Tryz.func32, Tryz.ntmps32
      go_wp2_with (first | (go_at_call 25; refine (has_any _ _).mono ?_; rw [hk]; rintro e w' ⟨rfl, rfl⟩; unfold hasV) | (go_at_call 69; refine (money_any _ _).mono ?_; rw [h2]; rintro e w' ⟨rfl, rfl⟩))
      go_ret
      rw [HE.out]
      exact ⟨rfl, HB.out⟩
    | true =>
      by_cases h3 : m.co < 0
      · have i3 : decide (m.co < 0) = true := by rw [decide_eq_true_eq]; exact h3
        clear hn
        go_enter Tryz.func32, Tryz.ntmps32
        go_wp2_with (first | (go_at_call 25; refine (has_any _ _).mono ?_; rw [hk]; rintro e w' ⟨rfl, rfl⟩; unfold hasV) | (go_at_call 69; refine (money_any _ _).mono ?_; rw [h2]; rintro e w' ⟨rfl, rfl⟩))
        go_ret
        rw [HE.out]
        exact ⟨rfl, HB.out⟩
      · have i3 : decide (m.co < 0) = false := by rw [decide_eq_false_iff_not]; exact h3
        have i4 : decide ((999 : Int) < m.co) = true := by rw [decide_eq_true_eq]; exact Int.not_le.1 (fun h => hn ⟨h1, h2, by omega, h⟩)
        clear hn
        go_enter Tryz.func32, Tryz.ntmps32
        go_wp2_with (first | (go_at_call 25; refine (has_any _ _).mono ?_; rw [hk]; rintro e w' ⟨rfl, rfl⟩; unfold hasV) | (go_at_call 69; refine (money_any _ _).mono ?_; rw [h2]; rintro e w' ⟨rfl, rfl⟩))
        go_ret
        rw [HE.out]
        exact ⟨rfl, HB.out⟩
  · have i1 : decide ((4 : Int) ≤ (m.pl : Int)) = true := by rw [decide_eq_true_eq]; omega
    clear hn
    go_enter Tryz.func32, Tryz.ntmps32
    go_wp2_with (go_at_call 25; refine (has_any _ _).mono ?_; rw [hk]; rintro e w' ⟨rfl, rfl⟩; unfold hasV)
    go_ret
    rw [HE.out]
    exact ⟨rfl, HB.out⟩
end Go.Proofs.YtfbiffdldfkmpaaGreatDoor


/-
  MsgR3: the reference's May. No condition.
-/
namespace Go.Proofs.YtfbiffdldfkmpaaGreatDoor
open Go.RowKit
set_option maxRecDepth 100000 in
set_option maxHeartbeats 16000000 in
theorem may_in (m : MD) {a b c : Bool} (hk : hasK m.kind = some (a, b, c)) (h1 : m.pl < 4) (h2 : moneyB m.am = true) (h3 : 0 ≤ m.co) (h4 : m.co ≤ 999) (w : World) : Calls Tryz.prog 32 #[.agg (msgA m).toArray] w fun e w' => e = .returned (.bool (mayR m)) ∧ Below w.heap.size w w' := by
  have HM : Hid (mayR m = ((if a then couponB m.c else c0B m.c) && (b || decide (m.am = 0)) && (c || decide (m.co = 0)))) := Lib.hid (by unfold mayR; rw [hk, h2]; simp [h1, h3, h4])
  obtain ⟨w1, hw1⟩ : ∃ w1, w.alloc (.cells (msgA m).toArray 36) = w1 := ⟨_, rfl⟩
  have HB := Lib.hid ((Below.refl w.heap.size w).alloc (Nat.le_refl _) (.cells (msgA m).toArray 36))
  have HC : Hid (w1.heap[w.heap.size]? = some (.cells (msgA m).toArray 36 (0, 0))) := Lib.hid (by rw [← hw1]; exact heap_alloc_new _ _)
  rw [hw1] at HB
  have HZ : Hid (w.heap.size < w1.heap.size) := Lib.hid (by rw [← hw1]; simp)
  have HW := Lib.hid hw1
  clear hw1
  unfold msgA at HC HW ⊢
  have i1 : decide ((4 : Int) ≤ (m.pl : Int)) = false := by rw [decide_eq_false_iff_not]; omega
  have i3 : decide (m.co < 0) = false := by rw [decide_eq_false_iff_not]; omega
  have i4 : decide ((999 : Int) < m.co) = false := by rw [decide_eq_false_iff_not]; omega
  have hne := fun w => neq_c0 m.c w
  unfold cpnA at hne
  clear h3 h4
  cases a with
  | true =>
    cases hcb : couponB m.c with
    | false =>
      have HE : Hid (mayR m = false) := Lib.hid (by rw [HM.out, hcb]; simp)
      go_enter Tryz.func32, Tryz.ntmps32
      go_upto_region 4 with (first | (go_at_call 25; refine (has_any _ _).mono ?_; rw [hk]; rintro e w' ⟨rfl, rfl⟩; unfold hasV) | (go_at_call 69; refine (money_any _ _).mono ?_; rw [h2]; rintro e w' ⟨rfl, rfl⟩))
      rw [HW.out]
      have d := fun j => cell_of_row w1 w.heap.size j _ _ _ HC.out
      have d4 := d 4
      have d5 := d 5
      have d6 := d 6
      have d7 := d 7
      have d8 := d 8
      have d9 := d 9
      clear d
      go_wp2_with fail
      refine (cpn_any _ _).mono ?_
      rw [hcb]
      rintro e w2 ⟨rfl, hb2⟩
      have HB2 := Lib.hid hb2
      clear hb2
      go_wp2_with fail
      go_ret
      rw [HE.out]
      exact ⟨rfl, HB.out.trans (HB2.out.mono (Nat.le_of_lt HZ.out))⟩
    | true =>
      obtain ⟨z, hz⟩ : ∃ z, (m.am == 0) = z := ⟨_, rfl⟩
      obtain ⟨y, hy⟩ : ∃ y, (m.co == 0) = y := ⟨_, rfl⟩
      have HE : Hid (mayR m = ((b || z) && (c || y))) := Lib.hid (by rw [HM.out, hcb, show decide (m.am = 0) = z from hz, show decide (m.co = 0) = y from hy]; simp)
      go_enter Tryz.func32, Tryz.ntmps32
      go_upto_region 4 with (first | (go_at_call 25; refine (has_any _ _).mono ?_; rw [hk]; rintro e w' ⟨rfl, rfl⟩; unfold hasV) | (go_at_call 69; refine (money_any _ _).mono ?_; rw [h2]; rintro e w' ⟨rfl, rfl⟩))
      rw [HW.out]
      have d := fun j => cell_of_row w1 w.heap.size j _ _ _ HC.out
      have d4 := d 4
      have d5 := d 5
      have d6 := d 6
      have d7 := d 7
      have d8 := d 8
      have d9 := d 9
      clear d
      go_wp2_with fail
      refine (cpn_any _ _).mono ?_
      rw [hcb]
      rintro e w2 ⟨rfl, hb2⟩
      have HB2 := Lib.hid hb2
      have HR2 := Lib.hid ((hb2.block _ HZ.out).trans HC.out)
      have e10 := cell_of_row w2 w.heap.size 10 _ _ _ HR2.out
      have e11 := cell_of_row w2 w.heap.size 11 _ _ _ HR2.out
      clear hb2
      cases b <;> cases c <;> cases z <;> cases y <;> (go_wp2_with fail; go_ret; rw [HE.out]; exact ⟨rfl, HB.out.trans (HB2.out.mono (Nat.le_of_lt HZ.out))⟩)
  | false =>
    cases h0 : c0B m.c with
    | false =>
      rw [h0] at hne
      simp only [Bool.not_false] at hne
      have HE : Hid (mayR m = false) := Lib.hid (by rw [HM.out, h0]; simp)
      go_enter Tryz.func32, Tryz.ntmps32
      go_wp2_with (first | (go_at_call 25; refine (has_any _ _).mono ?_; rw [hk]; rintro e w' ⟨rfl, rfl⟩; unfold hasV) | (go_at_call 69; refine (money_any _ _).mono ?_; rw [h2]; rintro e w' ⟨rfl, rfl⟩))
      go_ret
      rw [HE.out]
      exact ⟨rfl, by rw [HW.out]; exact HB.out⟩
    | true =>
      rw [h0] at hne
      simp only [Bool.not_true] at hne
      obtain ⟨z, hz⟩ : ∃ z, (m.am == 0) = z := ⟨_, rfl⟩
      obtain ⟨y, hy⟩ : ∃ y, (m.co == 0) = y := ⟨_, rfl⟩
      have HE : Hid (mayR m = ((b || z) && (c || y))) := Lib.hid (by rw [HM.out, h0, show decide (m.am = 0) = z from hz, show decide (m.co = 0) = y from hy]; simp)
      go_enter Tryz.func32, Tryz.ntmps32
      go_upto_region 6 with (first | (go_at_call 25; refine (has_any _ _).mono ?_; rw [hk]; rintro e w' ⟨rfl, rfl⟩; unfold hasV) | (go_at_call 69; refine (money_any _ _).mono ?_; rw [h2]; rintro e w' ⟨rfl, rfl⟩))
      rw [HW.out]
      have e10 := cell_of_row w1 w.heap.size 10 _ _ _ HC.out
      have e11 := cell_of_row w1 w.heap.size 11 _ _ _ HC.out
      cases b <;> cases c <;> cases z <;> cases y <;> (go_wp2_with fail; go_ret; rw [HE.out]; exact ⟨rfl, HB.out⟩)
theorem may_any (m : MD) (w : World) : Calls Tryz.prog 32 #[.agg (msgA m).toArray] w fun e w' => e = .returned (.bool (mayR m)) ∧ Below w.heap.size w w' := by
  cases hk : hasK m.kind with
  | none => exact may_none m hk w
  | some h =>
    obtain ⟨a, b, c⟩ := h
    by_cases hn : m.pl < 4 ∧ moneyB m.am = true ∧ 0 ≤ m.co ∧ m.co ≤ 999
    · exact may_in m hk hn.1 hn.2.1 hn.2.2.1 hn.2.2.2 w
    · exact may_out m hk hn w
end Go.Proofs.YtfbiffdldfkmpaaGreatDoor


/-
  MsgQ4: contract of may. No condition beyond those stated.
-/
namespace Go.Proofs.YtfbiffdldfkmpaaGreatDoor
open Go.RowKit
theorem okM_C {m : MD} (h : okM m) : okC m.c := ⟨by have := h.fl; omega, by have := h.we; omega, by have := h.no; omega⟩
theorem mayR_is {m : MD} (h : okM m) : mayR m = (match hasK m.kind with | some hh => mayM hh m | none => false) := by
  cases hk : hasK m.kind with
  | none => unfold mayR; rw [hk]
  | some hh => exact mayR_eq hk (okM_C h)
theorem m0B_eq (m : MD) : m0B m = eqM m md0 := by
  rw [Bool.eq_iff_iff, m0B_iff, eqM_iff]
def MayQ (b : Bool) (w : World) (e : Ending) (w' : World) : Prop := e = .returned (.bool b) ∧ Below w.heap.size w w'
theorem MayQ.of {b b' : Bool} {w w' : World} (h : b' = b) (hb : Below w.heap.size w w') : MayQ b w (.returned (.bool b')) w' := ⟨by rw [h], hb⟩
set_option maxRecDepth 100000 in
set_option maxHeartbeats 4000000 in
theorem mmay_any (p : PD) (hp : okPD p) (w : World) : Calls Tryz.prog 23 #[.agg (pktA p).toArray] w fun e w' => MayQ (mayP p) w e w' := by
  obtain ⟨B, hB⟩ : ∃ B, w.heap.size = B := ⟨_, rfl⟩
  have HBQ := Lib.hid hB
  obtain ⟨w1, hw1⟩ : ∃ w1, w.alloc (.cells (pktA p).toArray 38) = w1 := ⟨_, rfl⟩
  have HB1 : Hid (Below w.heap.size w w1) := Lib.hid (by rw [← hw1]; exact (Below.refl _ _).alloc (Nat.le_refl _) _)
  have hz1 : w1.heap.size = B + 1 := by rw [← hw1, ← hB]; simp
  have HZ1 := Lib.hid hz1
  have HC1 : Hid (w1.heap[B]? = some (.cells (pktA p).toArray 38 (0, 0))) := Lib.hid (by rw [← hw1, ← hB]; exact heap_alloc_new _ _)
  have heq := fun w => eql_msg p.m md0 w
  rw [← m0B_eq] at heq
  have HR := Lib.hid (fun w => may_any p.m w)
  rw [mayR_is hp.m] at HR
  have HX : Hid (mayP p = (decide (p.fr < 8) && decide (p.dst < 8) && (if p.ack then m0B p.m else mayT p.m.tc p.m.ts && (match hasK p.m.kind with | some h => mayM h p.m | none => false)))) := Lib.hid rfl
  obtain ⟨r, hr⟩ : ∃ r, (match hasK p.m.kind with | some h => mayM h p.m | none => false) = r := ⟨_, rfl⟩
  rw [hr] at HR HX
  obtain ⟨z, hz⟩ : ∃ z, m0B p.m = z := ⟨_, rfl⟩
  rw [hz] at heq HX
  obtain ⟨y, hy⟩ : ∃ y, mayT p.m.tc p.m.ts = y := ⟨_, rfl⟩
  have HY := Lib.hid hy
  rw [hy] at HX
  obtain ⟨x, hx⟩ : ∃ x, mayP p = x := ⟨_, rfl⟩
  rw [hx] at HX ⊢
  unfold msgA md0 cd0 at heq
  unfold msgA at HR
  unfold pktA msgA at HC1 hw1 ⊢
  simp only [List.cons_append, List.nil_append, Int.natCast_zero] at heq HC1 hw1 ⊢
  have HW1 := Lib.hid hw1
  clear hB hw1 hz1 hr hz hy hx hp
  have d := cells16 HC1.out
  obtain ⟨d0, d1, d2, d3, d4, d5, d6, d7, d8, d9, d10, d11, d12, d13, d14, d15⟩ := d.1
  by_cases h1 : p.fr < 8
  · have i1 : decide ((8 : Int) ≤ (p.fr : Int)) = false := by rw [decide_eq_false_iff_not]; omega
    by_cases h2 : p.dst < 8
    · have i2 : decide ((8 : Int) ≤ (p.dst : Int)) = false := by rw [decide_eq_false_iff_not]; omega
      have HX1 : Hid (x = (if p.ack then z else y && r)) := Lib.hid (by rw [HX.out]; simp [h1, h2])
      clear h1 h2
      cases ha : p.ack with
      | true =>
        rw [ha] at d2 HX1 HW1
        go_enter Tryz.func23, Tryz.ntmps23
        go_upto_region 1 with fail
        rw [HW1.out, HBQ.out]
        go_wp2_with fail
        go_ret
        exact MayQ.of (by rw [HX1.out]; rfl) HB1.out
      | false =>
        rw [ha] at d2 HX1 HW1
        go_enter Tryz.func23, Tryz.ntmps23
        go_upto_region 1 with fail
        rw [HW1.out, HBQ.out]
        cases y with
        | true =>
          go_wp2_with (first | (go_at_call 47; go_loud (refine (r7May_any _ _ _).mono ?_; rw [HY.out]; rintro e w2 ⟨rfl, hb⟩; have HB2 := Lib.hid (HB1.out.trans (hb.mono HB1.out.size)); have HD := Lib.hid ((hb.block B (by rw [HZ1.out]; omega)).trans HC1.out); clear hb d0 d1 d2 d3 d4 d5 d6 d7 d8 d9 d10 d11 d12 d13 d14 d15; obtain ⟨d0, d1, d2, d3, d4, d5, d6, d7, d8, d9, d10, d11, d12, d13, d14, d15⟩ := (cells16 HD.out).1)) | (go_at_call 32; refine (HR.out _).mono ?_; rintro e w3 ⟨rfl, hb⟩; have HB3 := Lib.hid (HB2.out.trans (hb.mono HB2.out.size)); clear hb))
          go_ret
          exact MayQ.of (by rw [HX1.out]; simp) HB3.out
        | false =>
          go_wp2_with (go_at_call 47; refine (r7May_any _ _ _).mono ?_; rw [HY.out]; rintro e w2 ⟨rfl, hb⟩; have HB2 := Lib.hid (HB1.out.trans (hb.mono HB1.out.size)); clear hb)
          go_ret
          exact MayQ.of (by rw [HX1.out]; simp) HB2.out
    · have i2 : decide ((8 : Int) ≤ (p.dst : Int)) = true := by rw [decide_eq_true_eq]; omega
      have HX1 : Hid (x = false) := Lib.hid (by rw [HX.out]; simp [h2])
      clear h1 h2
      go_enter Tryz.func23, Tryz.ntmps23
      go_upto_region 1 with fail
      rw [HW1.out, HBQ.out]
      go_wp2_with fail
      go_ret
      exact MayQ.of HX1.out.symm HB1.out
  · have i1 : decide ((8 : Int) ≤ (p.fr : Int)) = true := by rw [decide_eq_true_eq]; omega
    have HX1 : Hid (x = false) := Lib.hid (by rw [HX.out]; simp [h1])
    clear h1
    go_enter Tryz.func23, Tryz.ntmps23
    go_upto_region 1 with fail
    rw [HW1.out, HBQ.out]
    go_wp2_with fail
    go_ret
    exact MayQ.of HX1.out.symm HB1.out
end Go.Proofs.YtfbiffdldfkmpaaGreatDoor


/-
  MsgQ5: what is read from a text lies within its widths. No condition.
-/
namespace Go.Proofs.YtfbiffdldfkmpaaGreatDoor
theorem mayM_ok {hh : Bool × Bool × Bool} {m : MD} (hk : hasK m.kind = some hh) (ht : mayT m.tc m.ts = true) (hm : mayM hh m = true) : okM m := by
  obtain ⟨t1, t2, t3⟩ := mayT_iff.1 ht
  obtain ⟨k1, k2⟩ := hasK_cases hk
  clear hk ht
  unfold mayM at hm
  rcases k2 with rfl | rfl | rfl | rfl | rfl
  all_goals
    simp only [partsB, valsB, if_true, if_false, Bool.false_eq_true, List.append_nil, List.nil_append, List.cons_append, inBB, cpnB, amtB, codB, inB, c0B, M50, Bool.and_eq_true, decide_eq_true_eq, Bool.and_true, Bool.true_or, Bool.false_or, and_true, true_and] at hm
    exact ⟨by omega, by omega, by omega, by omega, by omega, by omega, by omega, by omega, by omega, by omega, by omega, by omega⟩
theorem md0_ok : okM md0 := ⟨by decide, by decide, by decide, by decide, by decide, by decide, by decide, by decide, by decide, by decide, by decide, by decide⟩
theorem mayP_ok {p : PD} (hn : p.num < 18446744073709551616) (h : mayP p = true) : okPD p := by
  unfold mayP at h
  simp only [Bool.and_eq_true, decide_eq_true_eq] at h
  obtain ⟨⟨h1, h2⟩, h3⟩ := h
  refine ⟨by omega, by omega, hn, ?_⟩
  split at h3
  · rw [m0B_iff.1 h3]; exact md0_ok
  · rw [Bool.and_eq_true] at h3
    obtain ⟨h4, h5⟩ := h3
    split at h5
    · rename_i hh hk
      exact mayM_ok hk h4 h5
    · cases h5
theorem parseTM_ok {s : Str} {q : PD} (h : parseTM s = (q, 0)) : okPD q := by
  unfold parseTM at h
  split at h
  · rename_i h0
    have hx : wrapParseE s = ((wrapParseE s).1, 0) := by rw [← h0]
    have h1 := wrap_packet h
    have h2 := (wparse_bd hx).2.2
    have h3 := (wrapM_plain h1).2.1
    exact mayP_ok (by omega) ((wrapM_may q).1 (by rw [h1]))
  · rename_i h0
    exact absurd (congrArg Prod.snd h) h0
end Go.Proofs.YtfbiffdldfkmpaaGreatDoor


/-
  MsgQ8: Wrap, Packet, Text at known values. No condition beyond those stated.
-/
namespace Go.Proofs.YtfbiffdldfkmpaaGreatDoor
open Go.RowKit
theorem textM_z {p : PD} (hr : p.num < 18446744073709551616) : (textM p).2 = 0 ↔ (wrapM p).2 = 0 := (textM_may hr).trans (wrapM_may p).symm
theorem textM_k {p : PD} (hr : p.num < 18446744073709551616) {a : Str} {e : Int} (h : textM p = (a, e)) (he : e ≠ 0) : wrapM p = (wd0, e) := by
  have h1 : (wrapM p).2 ≠ 0 := fun h2 => he (by have := (textM_z hr).2 h2; rw [h] at this; exact this)
  have h3 : textM p = ([], (wrapM p).2) := by unfold textM; rw [if_neg h1]
  rw [h] at h3
  cases h3
  have h2 : wrapM p = ((wrapM p).1, (wrapM p).2) := rfl
  have h3 := wrapM_err h2 h1
  rw [h2, h3]
theorem str_dec {a b : Str} {x : Bool} (h : a = b ↔ x = true) : ((⟨a.toArray⟩ : ByteArray).toList == (⟨b.toArray⟩ : ByteArray).toList) = x := by
  rw [ByteArray.toList_eq, ByteArray.toList_eq]
  show (a == b) = x
  cases x with
  | true => rw [beq_iff_eq]; exact h.2 rfl
  | false => rw [beq_eq_false_iff_ne]; exact fun e => by cases h.1 e
def WMQ (x : WD) (k : Int) (w : World) (e : Ending) (w' : World) : Prop := ∃ v, e = .returned (.tuple #[wv x v, .int .i64 k]) ∧ SegsAt (fun k => w.heap.size ≤ k ∧ k < w'.heap.size) w' v x.segs ∧ Below w.heap.size w w'
theorem mWrap_is {p : PD} (hp : okPD p) {w : World} (hv : VarsOk w) {x : WD} {k : Int} (h : wrapM p = (x, k)) : Calls Tryz.prog 11 #[.agg (pktA p).toArray] w fun e w' => WMQ x k w e w' := by
  refine (mWrap_any p hp w hv).mono ?_
  rintro e w' ⟨v, h1, h2, h3⟩
  rw [h] at h1 h2
  exact ⟨v, h1, h2, h3⟩
theorem mPacket_is {S : Nat → Prop} {x : WD} {v : Value} {w : World} (hv : VarsOk w) (hs : SegsAt S w v x.segs) (hS : ∀ k, S k → k < w.heap.size) (hL : wordsLim x) {q : PD} {k : Int} (h : packetM x = (q, k)) : Calls Tryz.prog 17 #[wv x v] w fun e w' => MPQ q k w e w' := by
  refine (mPacket_any x v w hv hs hS hL).mono ?_
  rintro e w' ⟨rfl, hb⟩
  rw [h]
  exact ⟨rfl, hb⟩
end Go.Proofs.YtfbiffdldfkmpaaGreatDoor


/-
  MsgQ7: a segment of one's own, overwritten; how many segments a kind has. No condition beyond those stated.
-/
namespace Go.Proofs.YtfbiffdldfkmpaaGreatDoor
open Go.RowKit
def cntH (h : Bool × Bool × Bool) : Nat → Nat
  | 0 => 0
  | 1 => h.1.toNat
  | 2 => h.1.toNat + h.2.1.toNat
  | _ => h.1.toNat + h.2.1.toNat + h.2.2.toNat
theorem segs_cnt {p : PD} {x : WD} (h : wrapM p = (x, 0)) (ha : p.ack = false) : ∃ hh, hasK p.m.kind = some hh ∧ x.segs.length = 2 + cntH hh 3 := by
  obtain ⟨_, ⟨h1, _, _⟩ | ⟨hh, _, hk, _, _, rfl⟩⟩ := wrapM_msg h
  · rw [ha] at h1; cases h1
  · refine ⟨hh, hk, ?_⟩
    show (msgSegs hh p.m _).length = _
    unfold msgSegs
    obtain ⟨a, b, c⟩ := hh
    cases a <;> cases b <;> cases c <;> rfl
theorem sgn_nat (k : Nat) : sgnT (k : Int) = decT k := by
  unfold sgnT
  rw [if_neg (by omega)]
  rfl
theorem elems_lit {w : World} {d : Str} {db : ByteArray} (hd : (⟨d.toArray⟩ : ByteArray) = db) :
    ElemsAt (fun b => b = w.heap.size ∨ b = w.heap.size + 1) ((w.alloc (.cells #[.string db] 9)).alloc (.cells #[.slice (some ⟨w.heap.size, 0, none⟩) 1 1] 64)) (.slice (some ⟨w.heap.size + 1, 0, none⟩) 1 1) [[d]] := by
  have h1 : ((w.alloc (.cells #[.string db] 9)).alloc (.cells #[.slice (some ⟨w.heap.size, 0, none⟩) 1 1] 64)).heap[w.heap.size]? = some (.cells #[.string db] 9 (0, 0)) := (Below.heap_alloc _ _ _ (by simp)).trans (heap_alloc_new _ _)
  have h2 : ((w.alloc (.cells #[.string db] 9)).alloc (.cells #[.slice (some ⟨w.heap.size, 0, none⟩) 1 1] 64)).heap[w.heap.size + 1]? = some (.cells #[.slice (some ⟨w.heap.size, 0, none⟩) 1 1] 64 (0, 0)) := by
    have h3 := heap_alloc_new (w.alloc (.cells #[.string db] 9)) (.cells #[.slice (some ⟨w.heap.size, 0, none⟩) 1 1] 64)
    simpa using h3
  refine ⟨[.slice (some ⟨w.heap.size, 0, none⟩) 1 1], ⟨some ⟨w.heap.size + 1, 0, none⟩, 1, rfl, Nat.le_refl _, by decide, (fun e => by cases e), fun _ => ⟨_, _, rfl, .inr rfl, fun i x hi => ?_⟩⟩, rfl, fun i e x h3 h4 => ?_⟩
  · match i, hi with
    | 0, hi => simp at hi; subst hi; exact cell_of_row _ _ 0 _ _ _ h2
  · match i, h3, h4 with
    | 0, h3, h4 =>
      simp at h3 h4
      subst h3; subst h4
      refine ⟨some ⟨w.heap.size, 0, none⟩, 1, rfl, Nat.le_refl _, by decide, (fun e => by cases e), fun _ => ⟨_, _, rfl, .inl rfl, fun i x hi => ?_⟩⟩
      match i, hi with
      | 0, hi => simp at hi; subst hi; unfold sv; rw [hd]; exact cell_of_row _ _ 0 _ _ _ h1
/-- the first segment overwritten, in a later world -/
theorem oo_set0 {B : Nat} {w w2 : World} {v : Value} {xs : List Value} {s0 : Seg} {r : List Seg} (h : OO B w v xs (s0 :: r)) (hb : Below w.heap.size w w2) {t : Str} {st : ByteArray} (hst : (⟨t.toArray⟩ : ByteArray) = st) {ev : Value} {es : List (List Str)} (he : ElemsAt (fun b => w.heap.size ≤ b ∧ b < w2.heap.size) w2 ev es) :
    ∃ g cap cs, v = .slice (some ⟨g, 0, none⟩) (r.length + 1) cap ∧ B ≤ g ∧ g < w.heap.size ∧ w2.heap[g]? = some (.cells cs 61 (0, 0)) ∧ 2 ≤ cs.size ∧ SegsAt (fun b => b < w2.heap.size) (w2.setCells g 0 [.string st, ev]) v (⟨t, es⟩ :: r) := by
  have hrow := h.row
  obtain ⟨g, cap, cur, rfl, hg, hh, hc, hm, hs, _⟩ := own_form hrow (by simp) (by decide)
  have hgl := (Array.getElem?_eq_some_iff.1 hh).1
  have hh2 : w2.heap[g]? = some (.cells cur 61 (0, 0)) := (hb.block g hgl).trans hh
  refine ⟨g, cap, cur, rfl, hg, hgl, hh2, by simp at hc; omega, ?_⟩
  have hz := hb.size
  have r2 := own_cong hrow (w' := w2) (fun k hk => hb.block k (own_lt hrow hk).2)
  match xs, h.len with
  | x0 :: xs', hl =>
    have r3 := own_set r2 (j := 0) (by simp [segCells]) (.string st)
    have r4 := own_set r3 (j := 1) (by simp [segCells]) ev
    have e1 : ((segCells (s0 :: r) (x0 :: xs')).set 0 (.string st)).set 1 ev = segCells (⟨t, es⟩ :: r) (ev :: xs') := by
      subst hst; rfl
    rw [e1] at r4
    have hoth : ∀ b, b ≠ g → ((w2.setCell ⟨g, 0, none⟩ (.string st)).setCell ⟨g, 1, none⟩ ev).heap[b]? = w2.heap[b]? := fun b hbg => (heap_setCell_other _ _ _ _ (by simpa using hbg)).trans (heap_setCell_other _ _ _ _ (by simpa using hbg))
    show SegsAt _ ((w2.setCell ⟨g, 0, none⟩ (.string st)).setCell ⟨g, 1, none⟩ ev) _ _
    refine segs_rest (l := ⟨t, es⟩ :: r) r4 (by simpa using hl) (fun k hk => by have e : g = k := Option.some.inj hk; subst e; omega) (fun i s x h1 h2 => ?_)
    match i, h1, h2 with
    | 0, h1, h2 =>
      simp at h1 h2
      subst h1; subst h2
      exact he.cong (fun b hb' => hb'.2) (fun b hb' => hoth b (by omega))
    | i + 1, h1, h2 =>
      have h3 := h.el (i + 1) s x (by simpa using h1) (by simpa using h2)
      exact h3.cong (fun b hb' => by omega) (fun b hb' => (hoth b (fun e => hb'.2.2 (by rw [e]; rfl))).trans (hb.block b hb'.2.1))
end Go.Proofs.YtfbiffdldfkmpaaGreatDoor

