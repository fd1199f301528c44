/-
  JournalKeepsV: the walk of JournalKeeps for every input. No condition.
-/
import Derived.Test.YtgfdbjeliojhkaaJour24
namespace Go.Proofs.Ytgfdbjeliojhkaa
open Go.RowKit
set_option maxRecDepth 100000 in
theorem journalKeeps_quick (x : Int) (v : Value) (ls : List RunR) (w : World) (hv : RunsAt w v ls) (h : x < 4 ∨ ¬ x < 4 ∧ 60 < x) : Calls Try.prog 11 #[.int .i64 x, v] w fun e w' => e = .returned (.bool true) ∧ Fr [] w w' := by
  have HV := Lib.hid hv
  obtain ⟨ao, cap, rfl, hb1, hb2, _⟩ := hv
  unfold maxLen at hb2
  rcases h with h | ⟨h', h⟩
  all_goals
    go_enter Try.func11, Try.ntmps11
    go_wp2_with fail
    refine (heavy_any w HV.out).mono ?_
    rintro e w0 ⟨⟨bh, rfl, _⟩, rfl⟩
    cases bh
    all_goals
      go_wp2_with fail
      go_ret
      exact ⟨rfl, Fr.refl _ _⟩
theorem journalKeeps_walk {W : World} (x : Int) (_wx : (Lit.int .i64 x).wf = true) (v : Value) (ls : List RunR) (hV : RunsAt W v ls) : Calls Try.prog 11 #[.int .i64 x, v] W fun e w' => e = .returned (.bool true) ∧ Below W.heap.size W w' := by
  have key : Calls Try.prog 11 #[.int .i64 x, v] W fun e w' => e = .returned (.bool true) ∧ Fr [] W w' := by
    by_cases h1 : x < 4
    · exact journalKeeps_quick x v ls W hV (.inl h1)
    · by_cases h2 : 60 < x
      · exact journalKeeps_quick x v ls W hV (.inr ⟨h1, h2⟩)
      · obtain ⟨n, rfl⟩ := Int.eq_ofNat_of_zero_le (show 0 ≤ x by omega)
        exact journalKeeps_main n v ls W (by omega) (by omega) hV
  exact key.mono fun e w' ⟨a, b⟩ => ⟨a, b.below⟩
end Go.Proofs.Ytgfdbjeliojhkaa
