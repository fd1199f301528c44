/-
  JournalKnownV: the walk of JournalKnown. No condition.
-/
import Derived.Test.YtgfdbjeliojhkaaJour26
namespace Go.Proofs.Ytgfdbjeliojhkaa
open Go.RowKit
theorem journalKnown_walk {W : World} : Calls Try.prog 9 #[] W fun e w' => e = .returned (.bool true) ∧ Below W.heap.size W w' :=
  (journalKnown_main W).mono fun e w' ⟨a, b⟩ => ⟨a, b.below⟩
end Go.Proofs.Ytgfdbjeliojhkaa
