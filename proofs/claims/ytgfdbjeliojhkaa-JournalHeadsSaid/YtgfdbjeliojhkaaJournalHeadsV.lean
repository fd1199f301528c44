/-
  JournalHeadsV: the walk of JournalHeads for every input. No condition.
-/
import Derived.Test.YtgfdbjeliojhkaaJour22
namespace Go.Proofs.Ytgfdbjeliojhkaa
open Go.RowKit
set_option maxRecDepth 100000 in
theorem journalHeads_quick (x : Int) (v : Value) (ls : List (List UInt8)) (w : World) (hv : BytessAt w v ls) (h : x < 4 ∨ ¬ x < 4 ∧ (60 < x ∨ ¬ 60 < x ∧ (60 : Int) < (ls.length : Int))) : Calls Try.prog 8 #[.int .i64 x, v] w fun e w' => e = .returned (.bool true) ∧ Fr [] w w' := by
  obtain ⟨ao, cap, rfl, hb1, hb2, _⟩ := hv
  unfold maxLen at hb2
  rcases h with h | ⟨h', h | ⟨h'', h⟩⟩
  all_goals
    go_enter Try.func8, Try.ntmps8
    go_wp2_with fail
    go_ret
    exact ⟨rfl, Fr.refl _ _⟩
theorem journalHeads_walk {W : World} (x : Int) (wx : (Lit.int .i64 x).wf = true) (v : Value) (ls : List (List UInt8)) (hV : BytessAt W v ls) : Calls Try.prog 8 #[.int .i64 x, v] W fun e w' => e = .returned (.bool true) ∧ Below W.heap.size W w' := by
  have key : Calls Try.prog 8 #[.int .i64 x, v] W fun e w' => e = .returned (.bool true) ∧ Fr [] W w' := by
    by_cases h1 : x < 4
    · exact journalHeads_quick x v ls W hV (.inl h1)
    · by_cases h2 : 60 < x
      · exact journalHeads_quick x v ls W hV (.inr ⟨h1, .inl h2⟩)
      · by_cases h3 : (60 : Int) < (ls.length : Int)
        · exact journalHeads_quick x v ls W hV (.inr ⟨h1, .inr ⟨h2, h3⟩⟩)
        · obtain ⟨n, rfl⟩ := Int.eq_ofNat_of_zero_le (show 0 ≤ x by omega)
          exact journalHeads_main n v ls W (by omega) (by omega) hV (by omega)
  exact key.mono fun e w' ⟨a, b⟩ => ⟨a, b.below⟩
end Go.Proofs.Ytgfdbjeliojhkaa
