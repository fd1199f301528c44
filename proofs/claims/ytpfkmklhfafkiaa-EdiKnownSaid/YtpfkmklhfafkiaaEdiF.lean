/-
  EdiF: contracts of the reader's small functions. No condition beyond those stated.
-/
import Derived.Test.YtpfkmklhfafkiaaEdiR3
namespace Go.Proofs.Ytpfkmklhfafkiaa
open Go.RowKit
set_option maxHeartbeats 1000000 in
theorem tagged_any (c : UInt8) (w : World) : Calls Try.prog 19 #[.int .u8 (c.toNat : Int)] w fun e w' => e = .returned (.bool (tagB c)) ∧ w = w' := by
  have hE : tagB c = ((decide (65 ≤ c.toNat) && decide (c.toNat ≤ 90)) || (decide (48 ≤ c.toNat) && decide (c.toNat ≤ 57))) := rfl
  have HE := Lib.hid hE
  obtain ⟨n, hn⟩ : ∃ n : Nat, c.toNat = n := ⟨_, rfl⟩
  rw [hn] at HE ⊢
  clear hE hn
  by_cases h1 : 65 ≤ n
  · have d1 : decide ((65 : Int) ≤ (n : Int)) = true := by rw [decide_eq_true_eq]; omega
    by_cases h2 : n ≤ 90
    · have d2 : decide ((n : Int) ≤ 90) = true := by rw [decide_eq_true_eq]; omega
      go_enter Try.func19, Try.ntmps19
      go_wp2_with fail
      go_ret
      exact ⟨by rw [HE.out]; simp [h1, h2], rfl⟩
    · have d2 : decide ((n : Int) ≤ 90) = false := by rw [decide_eq_false_iff_not]; omega
      have d3 : decide ((48 : Int) ≤ (n : Int)) = true := by rw [decide_eq_true_eq]; omega
      have d4 : decide ((n : Int) ≤ 57) = false := by rw [decide_eq_false_iff_not]; omega
      go_enter Try.func19, Try.ntmps19
      go_wp2_with fail
      go_ret
      exact ⟨by rw [HE.out]; simp; omega, rfl⟩
  · have d1 : decide ((65 : Int) ≤ (n : Int)) = false := by rw [decide_eq_false_iff_not]; omega
    by_cases h3 : 48 ≤ n
    · have d3 : decide ((48 : Int) ≤ (n : Int)) = true := by rw [decide_eq_true_eq]; omega
      by_cases h4 : n ≤ 57
      · have d4 : decide ((n : Int) ≤ 57) = true := by rw [decide_eq_true_eq]; omega
        go_enter Try.func19, Try.ntmps19
        go_wp2_with fail
        go_ret
        exact ⟨by rw [HE.out]; simp [h3, h4], rfl⟩
      · have d4 : decide ((n : Int) ≤ 57) = false := by rw [decide_eq_false_iff_not]; omega
        go_enter Try.func19, Try.ntmps19
        go_wp2_with fail
        go_ret
        exact ⟨by rw [HE.out]; simp [h1, h4], rfl⟩
    · have d3 : decide ((48 : Int) ≤ (n : Int)) = false := by rw [decide_eq_false_iff_not]; omega
      go_enter Try.func19, Try.ntmps19
      go_wp2_with fail
      go_ret
      exact ⟨by rw [HE.out]; simp [h1, h3], rfl⟩
set_option maxHeartbeats 1000000 in
theorem top_any (rb g n cap : Nat) (w : World) (h : w.cell? ⟨rb, 0, none⟩ = some (.slice (some ⟨g, 0, none⟩) (n + 1) cap)) (hn : n + 1 ≤ cap) (hc : cap ≤ maxLen) : Calls Try.prog 43 #[.pointer (some ⟨rb, 0, none⟩)] w fun e w' => e = .returned (.pointer (some ⟨g, n * 2, none⟩)) ∧ w.drew = w' := by
  unfold maxLen at hc
  have hw : IntKind.i64.wrap ((n : Int) + 1 - 1) = (n : Int) := by rw [show (n : Int) + 1 - 1 = (n : Int) by omega]; exact IntWalk.i64_in _ (by omega)
  have hw2 : IntKind.i64.wrap (n : Int) = (n : Int) := IntWalk.i64_in _ (by omega)
  have h0 : (0 : Int) ≤ (n : Int) := by omega
  have h1 : (n : Int) < (n : Int) + 1 := by omega
  go_enter Try.func43, Try.ntmps43
  go_wp2_with fail
  refine wp_region_plan [(0, false), (1, false), (2, false), (3, false), (4, false), (5, false), (6, false), (7, false), (8, false), (9, false), (10, false), (11, false)] (fun w' => w'.cell? ⟨rb, 0, none⟩ = some (.slice (some ⟨g, 0, none⟩) (n + 1) cap)) (by kernel_rfl) (by kernel_rfl) h ?_
  iterate 12 (refine' plan_val rfl rfl (fun w' hS => ?_) ?_; rotate_left; (focus (go_simp; rfl)); simp only [Act.put, List.setIfInBounds_toArray, List.set_cons_zero, List.set_cons_succ])
  refine plan_nil ?_
  go_wp2_with fail
  go_ret
  exact ⟨rfl, rfl⟩
end Go.Proofs.Ytpfkmklhfafkiaa
