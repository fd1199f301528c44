/-
  EdiT: the machine of bytes: when it stands between segments; what a reader between segments reads as. No condition beyond those stated.
-/
import Derived.Test.YtpfkmklhfafkiaaEdiQ
namespace Go.Proofs.Ytpfkmklhfafkiaa
open Go.RowKit
def isBtw : EC → Bool
  | .btw _ => true
  | _ => false
def isRel : EC → Bool
  | .rel _ _ _ _ _ => true
  | _ => false
theorem tagS_form {l : List Seg} {t : Str} {c : UInt8} {s' : EC} (h : tagS l t c = .ok s') : tagB c = true ∧ isBtw s' = false ∧ isRel s' = false := by
  unfold tagS at h
  by_cases hc : tagB c = false
  · rw [if_pos hc] at h; cases h
  · rw [if_neg hc] at h
    refine ⟨by simpa using hc, ?_⟩
    by_cases h3 : t.length + 1 < 3
    · rw [if_pos h3] at h; cases h; exact ⟨rfl, rfl⟩
    · rw [if_neg h3] at h; cases h; exact ⟨rfl, rfl⟩
theorem putS_form {l : List Seg} {t : Str} {es : List (List Str)} {cs : List Str} {p : Str} {c : UInt8} {s' : EC} (h : putS l t es cs p c = .ok s') : isBtw s' = false ∧ isRel s' = false := by
  unfold putS at h
  split at h
  · cases h
  · cases h; exact ⟨rfl, rfl⟩
theorem signS_form {l : List Seg} {t : Str} {es : List (List Str)} {cs : List Str} {p : Str} {c : UInt8} {s' : EC} (h : signS l t es cs p c = .ok s') : isBtw s' = (c == 39) ∧ isRel s' = false := by
  unfold signS at h
  by_cases h39 : c = 39
  · rw [if_pos h39] at h; cases h; subst h39; exact ⟨rfl, rfl⟩
  · rw [if_neg h39] at h
    have e : (c == 39) = false := beq_eq_false_iff_ne.2 h39
    rw [e]
    split at h
    · split at h
      · cases h
      · cases h; exact ⟨rfl, rfl⟩
    · split at h
      · cases h
      · cases h; exact ⟨rfl, rfl⟩
/-- a step: where it stands behind it -/
theorem step_form {s s' : EC} {c : UInt8} (h : stepE s c = .ok s') : isBtw s' = (c == 10 || (c == 39 && !isRel s)) ∧ isRel s' = (c == 63 && !isRel s) := by
  cases s with
  | btw l =>
    simp only [stepE] at h
    by_cases hc : c = 10 ∧ l ≠ []
    · rw [if_pos hc] at h; cases h; rw [hc.1]; exact ⟨rfl, rfl⟩
    · rw [if_neg hc] at h
      split at h
      · cases h
      · obtain ⟨h1, h2, h3⟩ := tagS_form h
        rw [h2, h3]
        refine ⟨?_, ?_⟩
        · have n1 : c ≠ 10 := by rintro rfl; exact absurd h1 (by decide)
          have n2 : c ≠ 39 := by rintro rfl; exact absurd h1 (by decide)
          simp [n1, n2]
        · have n2 : c ≠ 63 := by rintro rfl; exact absurd h1 (by decide)
          simp [n2]
  | tag l t =>
    obtain ⟨h1, h2, h3⟩ := tagS_form h
    rw [h2, h3]
    refine ⟨?_, ?_⟩
    · have n1 : c ≠ 10 := by rintro rfl; exact absurd h1 (by decide)
      have n2 : c ≠ 39 := by rintro rfl; exact absurd h1 (by decide)
      simp [n1, n2]
    · have n2 : c ≠ 63 := by rintro rfl; exact absurd h1 (by decide)
      simp [n2]
  | bhd l t =>
    simp only [stepE] at h
    split at h
    · cases h; subst_vars; exact ⟨rfl, rfl⟩
    · split at h
      · cases h; subst_vars; exact ⟨rfl, rfl⟩
      · cases h
  | cmp l t es cs p =>
    simp only [stepE] at h
    split at h
    · cases h; subst_vars; exact ⟨rfl, rfl⟩
    · rename_i h63
      split at h
      · rename_i hs
        obtain ⟨h1, h2⟩ := signS_form h
        have n1 : c ≠ 10 := by rintro rfl; exact absurd hs (by decide)
        rw [h1, h2]
        simp [n1, h63, isRel]
      · rename_i hs
        split at h
        · cases h
        · rename_i hb
          obtain ⟨h1, h2⟩ := putS_form h
          have n1 : c ≠ 10 := by rintro rfl; exact hb (by decide)
          have n2 : c ≠ 39 := by rintro rfl; exact hs (by decide)
          rw [h1, h2]
          simp [n1, n2, h63]
  | rel l t es cs p =>
    simp only [stepE] at h
    split at h
    · rename_i hs
      obtain ⟨h1, h2⟩ := putS_form h
      have n1 : c ≠ 10 := by rintro rfl; exact absurd hs (by decide)
      rw [h1, h2]
      simp [n1, isRel]
    · cases h
theorem step_err {s : EC} {c : UInt8} {k : Int} (h : stepE s c = .err k) : k = 2 ∨ k = 30 := by
  have hT : ∀ l t, tagS l t c = .err k → k = 2 ∨ k = 30 := fun l t h => by
    unfold tagS at h
    split at h
    · cases h; exact .inr rfl
    · split at h <;> cases h
  have hP : ∀ l t es cs p, putS l t es cs p c = .err k → k = 2 ∨ k = 30 := fun l t es cs p h => by
    unfold putS at h
    split at h
    · cases h; exact .inl rfl
    · cases h
  have hS : ∀ l t es cs p, signS l t es cs p c = .err k → k = 2 ∨ k = 30 := fun l t es cs p h => by
    unfold signS at h
    split at h
    · cases h
    · split at h
      · split at h
        · cases h; exact .inl rfl
        · cases h
      · split at h
        · cases h; exact .inl rfl
        · cases h
  cases s with
  | btw l =>
    simp only [stepE] at h
    split at h
    · cases h
    · split at h
      · cases h; exact .inl rfl
      · exact hT _ _ h
  | tag l t => exact hT _ _ h
  | bhd l t =>
    simp only [stepE] at h
    split at h
    · cases h
    · split at h
      · cases h
      · cases h; exact .inr rfl
  | cmp l t es cs p =>
    simp only [stepE] at h
    split at h
    · cases h
    · split at h
      · exact hS _ _ _ _ _ h
      · split at h
        · cases h; exact .inr rfl
        · exact hP _ _ _ _ _ h
  | rel l t es cs p =>
    simp only [stepE] at h
    split at h
    · exact hP _ _ _ _ _ h
    · cases h; exact .inr rfl
theorem heldN_succ {t : Str} {i : Nat} {c : UInt8} (h : t[i]? = some c) : heldN t (i + 1) = if c == 63 then heldN t i + 1 else 0 := by
  have hi : i < t.length := (List.getElem?_eq_some_iff.1 h).1
  unfold heldN
  rw [List.take_add_one, h, Option.toList_some, List.reverse_append, List.reverse_singleton, List.singleton_append, List.takeWhile_cons]
  by_cases hc : (c == 63) = true
  · rw [if_pos hc, if_pos hc, List.length_cons]
  · rw [if_neg hc, if_neg hc]; rfl
theorem heldN_zero (t : Str) : heldN t 0 = 0 := by simp [heldN]
/-- the parity of ?s is the state -/
theorem held_step {t : Str} {i : Nat} {c : UInt8} {s s' : EC} (h : t[i]? = some c) (hs : stepE s c = .ok s') (hp : (heldN t i % 2 == 1) = isRel s) : (heldN t (i + 1) % 2 == 1) = isRel s' := by
  rw [heldN_succ h, (step_form hs).2, ← hp]
  by_cases hc : c = 63
  · subst hc
    simp only [beq_self_eq_true, if_pos, Bool.true_and]
    rw [Bool.eq_iff_iff, beq_iff_eq, Bool.not_eq_true', beq_eq_false_iff_ne]
    omega
  · have e : (c == 63) = false := beq_eq_false_iff_ne.2 hc
    rw [e]; rfl
section
variable {S : Nat → Prop} {w : World} {B rb : Nat} {l : List Seg} {lv pv : Value} {xs : List Value} {p : Str}
/-- a reader between segments: what it has read -/
theorem RA.segs (h : RA S w B rb l lv pv xs p) : SegsO (fun k => B ≤ k ∧ k < w.heap.size) B w lv l :=
  ⟨xs, h.hl, fun k hk => own_lt h.hl hk, h.xl, fun i s x hs hx => (h.hes i s x hs hx).cong (fun k hk => ⟨(h.s1 k hk).1, (h.s1 k hk).2.1⟩) (fun _ _ => rfl)⟩
end
end Go.Proofs.Ytpfkmklhfafkiaa
