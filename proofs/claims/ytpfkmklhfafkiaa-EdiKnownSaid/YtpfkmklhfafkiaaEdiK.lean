/-
  EdiK: contracts of component, released, behind. No condition beyond those stated.
-/
import Derived.Test.YtpfkmklhfafkiaaEdiJ
import Derived.Test.YtpfkmklhfafkiaaEdiShelf
namespace Go.Proofs.Ytpfkmklhfafkiaa
open Go.RowKit
theorem ix_sign (c : UInt8) : ∃ i : Int, Lib.indexByte [43, 58, 39, 63] c = i ∧ decide (0 ≤ i) = signB c ∧ decide (i < 0) = !signB c := by
  refine ⟨_, rfl, ?_⟩
  unfold signB
  by_cases h1 : c = 43
  · subst h1; decide
  · by_cases h2 : c = 58
    · subst h2; decide
    · by_cases h3 : c = 39
      · subst h3; decide
      · by_cases h4 : c = 63
        · subst h4; decide
        · have e1 : (43 == c) = false := beq_eq_false_iff_ne.2 (Ne.symm h1)
          have e2 : (58 == c) = false := beq_eq_false_iff_ne.2 (Ne.symm h2)
          have e3 : (39 == c) = false := beq_eq_false_iff_ne.2 (Ne.symm h3)
          have e4 : (63 == c) = false := beq_eq_false_iff_ne.2 (Ne.symm h4)
          simp [Lib.indexByte, e1, e2, e3, e4, beq_eq_false_iff_ne.2 h1, beq_eq_false_iff_ne.2 h2, beq_eq_false_iff_ne.2 h3, beq_eq_false_iff_ne.2 h4]
theorem toU8 (c : UInt8) : ((c.toNat : Int)).toNat.toUInt8 = c := by simp
theorem ib_any (c : UInt8) (w : World) : ∃ i : Int, decide (0 ≤ i) = signB c ∧ decide (i < 0) = (!signB c) ∧ Calls Try.prog 72 #[.string ⟨#[43, 58, 39, 63]⟩, .int .u8 (c.toNat : Int)] w fun e w' => e = .returned (.int .i64 i) ∧ w = w' := by
  obtain ⟨i, h1, h2, h3⟩ := ix_sign c
  refine ⟨i, h2, h3, (Try.strings_IndexByte _ _ w).mono ?_⟩
  rintro e w' ⟨rfl, rfl⟩
  refine ⟨?_, rfl⟩
  rw [toU8]
  rw [← h1]
theorem nat_eq (c : UInt8) (k : UInt8) (h : c ≠ k) : ((c.toNat : Int) == (k.toNat : Int)) = false := by
  rw [beq_eq_false_iff_ne]; intro e; exact h (UInt8.toNat_inj.1 (Int.ofNat.inj e))
section
variable {w : World} {rb : Nat} {a b : Value} {R : World → Prop}
set_option maxHeartbeats 1000000 in
theorem comp_63 (rb : Nat) (w : World) : Calls Try.prog 60 #[.pointer (some ⟨rb, 0, none⟩), .int .u8 63] w fun e w' => e = .returned (.tuple #[fnV rb 71, .int .i64 0]) ∧ w = w' := by
  go_enter Try.func60, Try.ntmps60
  go_wp2_with fail
  go_ret2
  exact ⟨rfl, rfl⟩
set_option maxHeartbeats 1000000 in
theorem comp_sign (c : UInt8) (hs : signB c = true) (h63 : c ≠ 63) (h : Calls Try.prog 52 #[.pointer (some ⟨rb, 0, none⟩), .int .u8 (c.toNat : Int)] w fun e w' => e = .returned (.tuple #[a, b]) ∧ R w') : Calls Try.prog 60 #[.pointer (some ⟨rb, 0, none⟩), .int .u8 (c.toNat : Int)] w fun e w' => e = .returned (.tuple #[a, b]) ∧ R w' := by
  obtain ⟨i, i1, i2, hi⟩ := ib_any c w
  have H := Lib.hid h
  have HI := Lib.hid hi
  rw [hs] at i1
  have d1 : ((c.toNat : Int) == 63) = false := nat_eq c 63 h63
  clear h hi
  obtain ⟨n, hn⟩ : ∃ n : Int, (c.toNat : Int) = n := ⟨_, rfl⟩
  rw [hn] at H HI d1 ⊢
  clear hn
  go_enter Try.func60, Try.ntmps60
  go_wp2_with first | (go_at_call 72; refine HI.out.mono ?_; rintro e w' ⟨rfl, rfl⟩) | (go_at_call 52; refine H.out.mono ?_; rintro e w' ⟨rfl, hR⟩; have HR := Lib.hid hR; clear hR)
  go_ret2
  exact ⟨rfl, HR.out⟩
set_option maxHeartbeats 1000000 in
theorem comp_bad (rb : Nat) (w : World) (c : UInt8) (hs : signB c = false) (hb : c.toNat < 32 ∨ 126 < c.toNat) : Calls Try.prog 60 #[.pointer (some ⟨rb, 0, none⟩), .int .u8 (c.toNat : Int)] w fun e w' => e = .returned (.tuple #[.nilFunc, .int .i64 30]) ∧ w = w' := by
  obtain ⟨i, i1, i2, hi⟩ := ib_any c w
  have h63 : c ≠ 63 := by rintro rfl; exact absurd hs (by decide)
  have HI := Lib.hid hi
  rw [hs] at i1
  have d1 : ((c.toNat : Int) == 63) = false := nat_eq c 63 h63
  clear hi
  obtain ⟨n, hn⟩ : ∃ n : Nat, c.toNat = n := ⟨_, rfl⟩
  rw [hn] at HI d1 hb ⊢
  clear hn
  by_cases h32 : n < 32
  · have d2 : decide ((n : Int) < 32) = true := by rw [decide_eq_true_eq]; omega
    go_enter Try.func60, Try.ntmps60
    go_wp2_with (go_at_call 72; refine HI.out.mono ?_; rintro e w' ⟨rfl, rfl⟩)
    go_ret2
    exact ⟨rfl, rfl⟩
  · have d2 : decide ((n : Int) < 32) = false := by rw [decide_eq_false_iff_not]; omega
    have d3 : decide ((126 : Int) < (n : Int)) = true := by rw [decide_eq_true_eq]; omega
    go_enter Try.func60, Try.ntmps60
    go_wp2_with (go_at_call 72; refine HI.out.mono ?_; rintro e w' ⟨rfl, rfl⟩)
    go_ret2
    exact ⟨rfl, rfl⟩
set_option maxHeartbeats 1000000 in
theorem comp_put (c : UInt8) (hs : signB c = false) (hb : ¬ (c.toNat < 32 ∨ 126 < c.toNat)) (h : Calls Try.prog 73 #[.pointer (some ⟨rb, 0, none⟩), .int .u8 (c.toNat : Int)] w fun e w' => e = .returned (.tuple #[a, b]) ∧ R w') : Calls Try.prog 60 #[.pointer (some ⟨rb, 0, none⟩), .int .u8 (c.toNat : Int)] w fun e w' => e = .returned (.tuple #[a, b]) ∧ R w' := by
  obtain ⟨i, i1, i2, hi⟩ := ib_any c w
  have h63 : c ≠ 63 := by rintro rfl; exact absurd hs (by decide)
  have H := Lib.hid h
  have HI := Lib.hid hi
  rw [hs] at i1
  have d1 : ((c.toNat : Int) == 63) = false := nat_eq c 63 h63
  have d2 : decide ((c.toNat : Int) < 32) = false := by rw [decide_eq_false_iff_not]; omega
  have d3 : decide ((126 : Int) < (c.toNat : Int)) = false := by rw [decide_eq_false_iff_not]; omega
  clear h hi hb
  obtain ⟨n, hn⟩ : ∃ n : Int, (c.toNat : Int) = n := ⟨_, rfl⟩
  rw [hn] at H HI d1 d2 d3 ⊢
  clear hn
  go_enter Try.func60, Try.ntmps60
  go_wp2_with first | (go_at_call 72; refine HI.out.mono ?_; rintro e w' ⟨rfl, rfl⟩) | (go_at_call 73; refine H.out.mono ?_; rintro e w' ⟨rfl, hR⟩; have HR := Lib.hid hR; clear hR)
  go_ret2
  exact ⟨rfl, HR.out⟩
set_option maxHeartbeats 1000000 in
theorem rel_bad (rb : Nat) (w : World) (c : UInt8) (hs : signB c = false) : Calls Try.prog 71 #[.pointer (some ⟨rb, 0, none⟩), .int .u8 (c.toNat : Int)] w fun e w' => e = .returned (.tuple #[.nilFunc, .int .i64 30]) ∧ w = w' := by
  obtain ⟨i, i1, i2, hi⟩ := ib_any c w
  have HI := Lib.hid hi
  rw [hs] at i2
  simp only [Bool.not_false] at i2
  clear hi
  obtain ⟨n, hn⟩ : ∃ n : Int, (c.toNat : Int) = n := ⟨_, rfl⟩
  rw [hn] at HI ⊢
  clear hn
  go_enter Try.func71, Try.ntmps71
  go_wp2_with (go_at_call 72; refine HI.out.mono ?_; rintro e w' ⟨rfl, rfl⟩)
  go_ret2
  exact ⟨rfl, rfl⟩
set_option maxHeartbeats 1000000 in
theorem rel_put (c : UInt8) (hs : signB c = true) (h : Calls Try.prog 73 #[.pointer (some ⟨rb, 0, none⟩), .int .u8 (c.toNat : Int)] w fun e w' => e = .returned (.tuple #[a, b]) ∧ R w') : Calls Try.prog 71 #[.pointer (some ⟨rb, 0, none⟩), .int .u8 (c.toNat : Int)] w fun e w' => e = .returned (.tuple #[a, b]) ∧ R w' := by
  obtain ⟨i, i1, i2, hi⟩ := ib_any c w
  have H := Lib.hid h
  have HI := Lib.hid hi
  rw [hs] at i2
  simp only [Bool.not_true] at i2
  clear h hi
  obtain ⟨n, hn⟩ : ∃ n : Int, (c.toNat : Int) = n := ⟨_, rfl⟩
  rw [hn] at H HI ⊢
  clear hn
  go_enter Try.func71, Try.ntmps71
  go_wp2_with first | (go_at_call 72; refine HI.out.mono ?_; rintro e w' ⟨rfl, rfl⟩) | (go_at_call 73; refine H.out.mono ?_; rintro e w' ⟨rfl, hR⟩; have HR := Lib.hid hR; clear hR)
  go_ret2
  exact ⟨rfl, HR.out⟩
set_option maxHeartbeats 1000000 in
theorem bhd_bad (rb : Nat) (w : World) (c : UInt8) (h1 : c ≠ 43) (h2 : c ≠ 39) : Calls Try.prog 44 #[.pointer (some ⟨rb, 0, none⟩), .int .u8 (c.toNat : Int)] w fun e w' => e = .returned (.tuple #[.nilFunc, .int .i64 30]) ∧ w = w' := by
  have d1 : ((c.toNat : Int) == 43) = false := nat_eq c 43 h1
  have d2 : ((c.toNat : Int) == 39) = false := nat_eq c 39 h2
  obtain ⟨n, hn⟩ : ∃ n : Int, (c.toNat : Int) = n := ⟨_, rfl⟩
  rw [hn] at d1 d2 ⊢
  clear hn
  have d1 : (n != 43) = true := by simp [bne, d1]
  have d2 : (n != 39) = true := by simp [bne, d2]
  go_enter Try.func44, Try.ntmps44
  go_wp2_with fail
  go_ret2
  exact ⟨rfl, rfl⟩
set_option maxHeartbeats 1000000 in
theorem bhd_39 (h : Calls Try.prog 52 #[.pointer (some ⟨rb, 0, none⟩), .int .u8 39] w fun e w' => e = .returned (.tuple #[a, b]) ∧ R w') : Calls Try.prog 44 #[.pointer (some ⟨rb, 0, none⟩), .int .u8 39] w fun e w' => e = .returned (.tuple #[a, b]) ∧ R w' := by
  have H := Lib.hid h
  clear h
  go_enter Try.func44, Try.ntmps44
  go_wp2_with (go_at_call 52; refine H.out.mono ?_; rintro e w' ⟨rfl, hR⟩; have HR := Lib.hid hR; clear hR)
  go_ret2
  exact ⟨rfl, HR.out⟩
set_option maxHeartbeats 1000000 in
theorem bhd_43 (h : Calls Try.prog 52 #[.pointer (some ⟨rb, 0, none⟩), .int .u8 43] w fun e w' => e = .returned (.tuple #[a, b]) ∧ R w') : Calls Try.prog 44 #[.pointer (some ⟨rb, 0, none⟩), .int .u8 43] w fun e w' => e = .returned (.tuple #[a, b]) ∧ R w' := by
  have H := Lib.hid h
  clear h
  go_enter Try.func44, Try.ntmps44
  go_wp2_with (go_at_call 52; refine H.out.mono ?_; rintro e w' ⟨rfl, hR⟩; have HR := Lib.hid hR; clear hR)
  go_ret2
  exact ⟨rfl, HR.out⟩
end
end Go.Proofs.Ytpfkmklhfafkiaa
