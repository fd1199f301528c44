/-
  DiskLastsV: the walk of DiskLasts for every input. No condition.
-/
import Derived.Test.YtgfdbjeliojhkaaDiskLastsW
namespace Go.Proofs.Ytgfdbjeliojhkaa
open Go.RowKit
set_option maxRecDepth 100000 in
set_option maxHeartbeats 1000000 in
theorem diskLasts_quick {an mn : Nat} {x : Int} {av mv : Value} {R R' : Nat → ActR} {fv : Value} {fl : Nat} {fg : Nat → Int} (w : World) (hA : ActsAt w av an R) (hM : ActsAt w mv mn R') (hF : IntsAt w fv fl fg) (h : greatP an R = true ∨ greatP an R = false ∧ (greatP mn R' = true ∨ greatP mn R' = false ∧ (x < 1 ∨ ¬ x < 1 ∧ (40 < x ∨ ¬ 40 < x ∧ 60 < (fl : Int))))) :
    Calls Try.prog 4 #[.int .i64 x, av, mv, fv] w fun e w' => e = .returned (.bool true) ∧ Below w.heap.size w w' := by
  have hga := great_any w hA
  have hgm := great_any w hM
  obtain ⟨ao, acap, rfl, ha1, ha2, _⟩ := hA
  obtain ⟨mo, mcap, rfl, hm1, hm2, _⟩ := hM
  obtain ⟨fo, fcap, rfl, hf1, hf2, _⟩ := hF
  unfold maxLen at ha2 hm2 hf2
  rcases h with hg | ⟨hg, hg' | ⟨hg', h | ⟨h', h | ⟨h'', h⟩⟩⟩⟩
  · rw [hg] at hga
    have HGA := Lib.hid hga
    clear hg hga hgm
    go_enter Try.func4, Try.ntmps4
    go_wp2_with fail
    refine HGA.out.mono ?_
    rintro e w' ⟨rfl, rfl⟩
    go_wp2_with fail
    go_ret
    exact ⟨rfl, Below.refl _ _⟩
  all_goals
    rw [hg] at hga
    rw [hg'] at hgm
    have HGA := Lib.hid hga
    have HGM := Lib.hid hgm
    clear hg hga hg' hgm
    go_enter Try.func4, Try.ntmps4
    go_wp2_with fail
    refine HGA.out.mono ?_
    rintro e w' ⟨rfl, rfl⟩
    go_wp2_with fail
    refine HGM.out.mono ?_
    rintro e w' ⟨rfl, rfl⟩
    go_wp2_with fail
    go_ret
    exact ⟨rfl, Below.refl _ _⟩
theorem diskLasts_walk {W : World} (x : Int) (_wx : (Lit.int .i64 x).wf = true) (av : Value) (an : Nat) (R : Nat → ActR) (hA : ActsAt W av an R) (mv : Value) (mn : Nat) (R' : Nat → ActR) (hM : ActsAt W mv mn R') (fv : Value) (fl : Nat) (fg : Nat → Int) (hF : IntsAt W fv fl fg) :
    Calls Try.prog 4 #[.int .i64 x, av, mv, fv] W fun e w' => e = .returned (.bool true) ∧ Below W.heap.size W w' := by
  by_cases hg : greatP an R = true
  · exact diskLasts_quick W hA hM hF (.inl hg)
  · have hg' : greatP an R = false := by simpa using hg
    by_cases hgm : greatP mn R' = true
    · exact diskLasts_quick W hA hM hF (.inr ⟨hg', .inl hgm⟩)
    · have hgm' : greatP mn R' = false := by simpa using hgm
      by_cases h1 : x < 1
      · exact diskLasts_quick W hA hM hF (.inr ⟨hg', .inr ⟨hgm', .inl h1⟩⟩)
      · by_cases h2 : 40 < x
        · exact diskLasts_quick W hA hM hF (.inr ⟨hg', .inr ⟨hgm', .inr ⟨h1, .inl h2⟩⟩⟩)
        · by_cases h3 : 60 < (fl : Int)
          · exact diskLasts_quick W hA hM hF (.inr ⟨hg', .inr ⟨hgm', .inr ⟨h1, .inr ⟨h2, h3⟩⟩⟩⟩)
          · obtain ⟨n, rfl⟩ := Int.eq_ofNat_of_zero_le (show 0 ≤ x by omega)
            exact diskLasts_main n an mn (by omega) (by omega) av R mv R' fv fl fg W hA hM hF hg' hgm' (by omega)
end Go.Proofs.Ytgfdbjeliojhkaa
