/-
  Jour3: contracts of the readers of numbers, and of read. No condition beyond those stated.
-/
import Derived.Test.YtgfdbjeliojhkaaJour2
import Derived.Laws.BitsAllLaws
namespace Go.Proofs.Ytgfdbjeliojhkaa
open Go.RowKit

theorem secL_succ (k : Nat) (f : Sec) : secL (k + 1) f = secL k f ++ [f k] := by simp [secL, List.range_succ]
theorem rdL_succ (k : Nat) (f : Sec) : rdL (secL (k + 1) f) = rdL (secL k f) * 256 + (f k).toNat := by rw [secL_succ, rdL_snoc]
theorem or_step64 (x c : Nat) (hx : x < 72057594037927936) (hc : c < 256) : bits .or .u64 (IntKind.u64.wrap ((x : Int) * 256)) (c : Int) = ((x * 256 + c : Nat) : Int) := by
  have e : IntKind.u64.wrap ((x : Int) * 256) = ((x * 256 : Nat) : Int) := by
    simp only [IntKind.wrap, IntKind.bits, IntKind.signed]
    simp
    omega
  rw [e, u64_or_nat _ _ (by omega) (by omega)]
  have h := Nat.two_pow_add_eq_or_of_lt (i := 8) (b := c) (by omega) x
  rw [Nat.mul_comm x 256]
  congr 1
  exact h.symm
theorem or_step64w (x c : Nat) (hx : x < 72057594037927936) (hc : c < 256) : bits .or .u64 (IntKind.u64.wrap ((x : Int) * 256)) (IntKind.u64.wrap (c : Int)) = ((x * 256 + c : Nat) : Int) := by
  have e : IntKind.u64.wrap (c : Int) = (c : Int) := by
    simp only [IntKind.wrap, IntKind.bits, IntKind.signed]
    simp
    omega
  rw [e]; exact or_step64 x c hx hc
theorem or_step32 (x c : Nat) (hx : x < 16777216) (hc : c < 256) : bits .or .u32 (IntKind.u32.wrap ((x : Int) * 256)) (c : Int) = ((x * 256 + c : Nat) : Int) := by
  have e : IntKind.u32.wrap ((x : Int) * 256) = ((x * 256 : Nat) : Int) := by
    simp only [IntKind.wrap, IntKind.bits, IntKind.signed]
    simp
    omega
  rw [e, u32_or_nat _ _ (by omega) (by omega)]
  have h := Nat.two_pow_add_eq_or_of_lt (i := 8) (b := c) (by omega) x
  rw [Nat.mul_comm x 256]
  congr 1
  exact h.symm
theorem or_step32w (x c : Nat) (hx : x < 16777216) (hc : c < 256) : bits .or .u32 ((x : Int) * 256 % 4294967296) ((c : Int) % 4294967296) = ((x * 256 + c : Nat) : Int) := by
  rw [← or_step32 x c hx hc, wrap_u32, show (c : Int) % 4294967296 = (c : Int) by omega]
set_option maxRecDepth 100000 in
set_option maxHeartbeats 2000000 in
theorem uint64_any (b off L C : Nat) (f : Sec) (w : World) (hL : 8 ≤ L) (hC : L ≤ C) (hC2 : C ≤ maxLen) (hr : w.rangeAt b off (rowL 8 f)) :
    Calls Try.prog 48 #[.agg #[], .slice (some ⟨b, off, none⟩) L C] w fun e w' => e = .returned (.int .u64 (rdL (secL 8 f) : Int)) ∧ Fr [] w w' := by
  unfold maxLen at hC2
  have HR := Lib.hid hr
  have hlt : b < w.heap.size := rangeAt_lt hr (by omega)
  have hC8 : (8 : Int) ≤ (C : Int) := by omega
  clear hr
  go_enter Try.func48, Try.ntmps48
  go_wp2
  obtain ⟨w1, hw1⟩ : ∃ w1, w.alloc (.cells #[] 83) = w1 := ⟨_, rfl⟩
  have HR1 := Lib.hid (show w1.rangeAt b off (rowL 8 f) by rw [← hw1]; exact rangeAt_alloc' HR.out _)
  have HF1 := Lib.hid (show Fr [] w w1 by rw [← hw1]; exact Fr.alloc _ _ _)
  rw [hw1]
  clear hw1
  go_loop [5, 11] (fun n i => ∃ k : Nat, k ≤ 8 ∧ i = .int .i64 (k : Int) ∧ n = .int .u64 (rdL (secL k f) : Int)) (fun _ i => 8 - (intOf i).toNat)
  case atStart => exact ⟨0, by omega, rfl, rfl⟩
  case round =>
    obtain ⟨k, hk, rfl, rfl⟩ := hrel
    by_cases hlt : k < 8
    · have ck := HR1.out k _ (rowL_get f hlt)
      unfold bv at ck
      have hv := rdL_lt (secL k f)
      rw [secL_len] at hv
      have hp : 256 ^ k ≤ 256 ^ 7 := Nat.pow_le_pow_right (by omega) (by omega)
      have HO := Lib.hid (or_step64w (rdL (secL k f)) (f k).toNat (by omega) (f k).toNat_lt)
      clear hv hp
      go_wp2
      go_round
      case rel => exact ⟨k + 1, by omega, by go_num, by rw [HO.out, rdL_succ]⟩
      case measure => simp [intOf]; omega
    · obtain rfl : k = 8 := by omega
      go_wp2
      go_ret
      exact ⟨rfl, HF1.out⟩
set_option maxRecDepth 100000 in
set_option maxHeartbeats 2000000 in
theorem uint32_any (b off L C : Nat) (f : Sec) (w : World) (hL : 4 ≤ L) (hC : L ≤ C) (hC2 : C ≤ maxLen) (hr : w.rangeAt b off (rowL 4 f)) :
    Calls Try.prog 50 #[.agg #[], .slice (some ⟨b, off, none⟩) L C] w fun e w' => e = .returned (.int .u32 (rdL (secL 4 f) : Int)) ∧ Fr [] w w' := by
  unfold maxLen at hC2
  have HR := Lib.hid hr
  have hlt : b < w.heap.size := rangeAt_lt hr (by omega)
  have hC8 : (4 : Int) ≤ (C : Int) := by omega
  clear hr
  go_enter Try.func50, Try.ntmps50
  go_wp2
  obtain ⟨w1, hw1⟩ : ∃ w1, w.alloc (.cells #[] 83) = w1 := ⟨_, rfl⟩
  have HR1 := Lib.hid (show w1.rangeAt b off (rowL 4 f) by rw [← hw1]; exact rangeAt_alloc' HR.out _)
  have HF1 := Lib.hid (show Fr [] w w1 by rw [← hw1]; exact Fr.alloc _ _ _)
  rw [hw1]
  clear hw1
  go_loop [5, 11] (fun n i => ∃ k : Nat, k ≤ 4 ∧ i = .int .i64 (k : Int) ∧ n = .int .u32 (rdL (secL k f) : Int)) (fun _ i => 4 - (intOf i).toNat)
  case atStart => exact ⟨0, by omega, rfl, rfl⟩
  case round =>
    obtain ⟨k, hk, rfl, rfl⟩ := hrel
    by_cases hlt : k < 4
    · have ck := HR1.out k _ (rowL_get f hlt)
      unfold bv at ck
      have hv := rdL_lt (secL k f)
      rw [secL_len] at hv
      have hp : 256 ^ k ≤ 256 ^ 3 := Nat.pow_le_pow_right (by omega) (by omega)
      have HO := Lib.hid (or_step32w (rdL (secL k f)) (f k).toNat (by omega) (f k).toNat_lt)
      clear hv hp
      go_wp2
      go_round
      case rel => exact ⟨k + 1, by omega, by go_num, by rw [HO.out, rdL_succ]⟩
      case measure => simp [intOf]; omega
    · obtain rfl : k = 4 := by omega
      go_wp2
      go_ret
      exact ⟨rfl, HF1.out⟩
end Go.Proofs.Ytgfdbjeliojhkaa
