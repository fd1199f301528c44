/-
  DiskFuseV: the walk of DiskFuse for every input. No condition.
-/
import Derived.Test.YtgfdbjeliojhkaaDiskFuseW
namespace Go.Proofs.Ytgfdbjeliojhkaa
open Go.RowKit
set_option maxRecDepth 100000 in
set_option maxHeartbeats 1000000 in
theorem diskFuse_quick {an : Nat} {x f : Int} {av : Value} {R : Nat → ActR} {fv : Value} {fl : Nat} {fg : Nat → Int} (w : World) (hA : ActsAt w av an R) (hF : IntsAt w fv fl fg) (h : greatP an R = true ∨ greatP an R = false ∧ (x < 1 ∨ ¬ x < 1 ∧ (40 < x ∨ ¬ 40 < x ∧ 60 < (fl : Int)))) :
    Calls Try.prog 5 #[.int .i64 x, av, .int .u8 f, fv] w fun e w' => e = .returned (.bool true) ∧ Below w.heap.size w w' := by
  have hga := great_any w hA
  obtain ⟨ao, acap, rfl, ha1, ha2, _⟩ := hA
  obtain ⟨fo, fcap, rfl, hf1, hf2, _⟩ := hF
  unfold maxLen at ha2 hf2
  rcases h with hg | ⟨hg, h | ⟨h', h | ⟨h'', h⟩⟩⟩
  all_goals
    rw [hg] at hga
    have HGA := Lib.hid hga
    clear hg hga
    go_enter Try.func5, Try.ntmps5
    go_wp2_with fail
    refine HGA.out.mono ?_
    rintro e w' ⟨rfl, rfl⟩
    go_wp2_with fail
    go_ret
    exact ⟨rfl, Below.refl _ _⟩
theorem diskFuse_walk {W : World} (x : Int) (wx : (Lit.int .i64 x).wf = true) (av : Value) (an : Nat) (R : Nat → ActR) (hA : ActsAt W av an R) (fu : Int) (wfu : (Lit.int .u8 fu).wf = true) (fv : Value) (fl : Nat) (fg : Nat → Int) (hF : IntsAt W fv fl fg) :
    Calls Try.prog 5 #[.int .i64 x, av, .int .u8 fu, fv] W fun e w' => e = .returned (.bool true) ∧ Below W.heap.size W w' := by
  by_cases hg : greatP an R = true
  · exact diskFuse_quick W hA hF (.inl hg)
  · have hg' : greatP an R = false := by simpa using hg
    by_cases h1 : x < 1
    · exact diskFuse_quick W hA hF (.inr ⟨hg', .inl h1⟩)
    · by_cases h2 : 40 < x
      · exact diskFuse_quick W hA hF (.inr ⟨hg', .inr ⟨h1, .inl h2⟩⟩)
      · by_cases h3 : 60 < (fl : Int)
        · exact diskFuse_quick W hA hF (.inr ⟨hg', .inr ⟨h1, .inr ⟨h2, h3⟩⟩⟩)
        · obtain ⟨n, rfl⟩ := Int.eq_ofNat_of_zero_le (show 0 ≤ x by omega)
          have hb : 0 ≤ fu ∧ fu ≤ 255 := wf_u8 wfu
          obtain ⟨f, rfl⟩ := Int.eq_ofNat_of_zero_le hb.1
          exact diskFuse_main n an f (by omega) (by omega) (by omega) av R fv fl fg W hA hF hg' (by omega)
end Go.Proofs.Ytgfdbjeliojhkaa
