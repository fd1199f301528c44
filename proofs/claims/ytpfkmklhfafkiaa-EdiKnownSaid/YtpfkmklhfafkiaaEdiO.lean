/-
  EdiO: one step of the reader, told by the machine of bytes. No condition beyond those stated.
-/
import Derived.Test.YtpfkmklhfafkiaaEdiN
namespace Go.Proofs.Ytpfkmklhfafkiaa
open Go.RowKit
/-- the function that takes the next byte -/
def fnE : EC → Nat
  | .btw _ => 30
  | .tag _ _ => 37
  | .bhd _ _ => 44
  | .cmp _ _ _ _ _ => 60
  | .rel _ _ _ _ _ => 71
/-- a reader in memory stands there -/
def Rd (w : World) (B rb : Nat) : EC → Prop
  | .btw l => ∃ (S : Nat → Prop) (lv pv : Value) (xs : List Value) (p : Str), RA S w B rb l lv pv xs p ∧ l.length ≤ 64
  | .tag l t => ∃ (S : Nat → Prop) (lv pv : Value) (xs0 : List Value) (p : Str), RA S w B rb (l ++ [⟨t, []⟩]) lv pv (xs0 ++ [.slice none 0 0]) p ∧ t.length < 3 ∧ l.length < 64
  | .bhd l t => ∃ (S : Nat → Prop) (lv pv : Value) (xs0 : List Value) (p : Str), RA S w B rb (l ++ [⟨t, []⟩]) lv pv (xs0 ++ [.slice none 0 0]) p ∧ l.length < 64
  | .cmp l t es cs p => ∃ (S : Nat → Prop) (lv pv ev cv : Value) (xs ys : List Value), RB S w B rb l t es cs p p lv pv ev cv xs ys ∧ l.length < 64 ∧ es.length + 1 ≤ 16 ∧ cs.length + 1 ≤ 8 ∧ p.length ≤ 256
  | .rel l t es cs p => ∃ (S : Nat → Prop) (lv pv ev cv : Value) (xs ys : List Value), RB S w B rb l t es cs p p lv pv ev cv xs ys ∧ l.length < 64 ∧ es.length + 1 ≤ 16 ∧ cs.length + 1 ≤ 8 ∧ p.length ≤ 256
/-- what a step answers -/
def StepSays (B rb : Nat) (w : World) : ER → Ending → World → Prop
  | .err k, e, w' => e = .returned (.tuple #[.nilFunc, .int .i64 k]) ∧ Below B w w'
  | .ok s, e, w' => e = .returned (.tuple #[fnV rb (fnE s), .int .i64 0]) ∧ Rd w' B rb s ∧ Below B w w'
section
variable {w : World} {B rb : Nat} {l : List Seg} {t : Str} {es : List (List Str)} {cs : List Str} {p : Str}
abbrev stepArgs (rb : Nat) (c : UInt8) : Array Value := #[.pointer (some ⟨rb, 0, none⟩), .int .u8 (c.toNat : Int)]
theorem step_tag {S : Nat → Prop} {lv pv : Value} {xs0 : List Value} {q : Str} {w0 : World} (h : RA S w B rb (l ++ [⟨t, []⟩]) lv pv (xs0 ++ [.slice none 0 0]) q) (ht : t.length < 3) (hl : l.length < 64) (hb : Below B w0 w) (hB : B ≤ w0.heap.size) (c : UInt8) :
    Calls Try.prog 37 (stepArgs rb c) w (StepSays B rb w0 (tagS l t c)) := by
  unfold tagS
  by_cases hc : tagB c = false
  · rw [if_pos hc]
    exact (tag_bad rb w c hc).mono fun e w' h => ⟨h.1, h.2 ▸ hb⟩
  · rw [if_neg hc]
    have hc' : tagB c = true := by simpa using hc
    have hB' : B ≤ w.heap.size := Nat.le_trans hB hb.size
    refine (tag_ok h hB' c hc' ht).mono fun e w' h' => ?_
    obtain ⟨h1, h2, h3⟩ := h'
    by_cases h3' : t.length + 1 < 3
    · rw [if_pos h3'] at h1 ⊢
      exact ⟨h1, ⟨S, lv, pv, xs0, q, h2, by simpa using h3', hl⟩, hb.trans h3⟩
    · rw [if_neg h3'] at h1 ⊢
      exact ⟨h1, ⟨S, lv, pv, xs0, q, h2, hl⟩, hb.trans h3⟩
theorem step_put {S : Nat → Prop} {lv pv ev cv : Value} {xs ys : List Value} (h : RB S w B rb l t es cs p p lv pv ev cv xs ys) (hl : l.length < 64) (h16 : es.length + 1 ≤ 16) (h8 : cs.length + 1 ≤ 8) (hp : p.length ≤ 256) (hB : B ≤ w.heap.size) (c : UInt8) :
    Calls Try.prog 73 (stepArgs rb c) w (StepSays B rb w (putS l t es cs p c)) := by
  unfold putS
  by_cases h256 : p.length = 256
  · rw [if_pos h256]
    exact put_full h c h256
  · rw [if_neg h256]
    refine (put_ok h c hB (by omega)).mono fun e w' h' => ?_
    obtain ⟨h1, ⟨pv', h2⟩, h3⟩ := h'
    exact ⟨h1, ⟨S, lv, pv', ev, cv, xs, ys, h2, hl, h16, h8, by simp; omega⟩, h3⟩
theorem step_sign {S : Nat → Prop} {lv pv ev cv : Value} {xs ys : List Value} (h : RB S w B rb l t es cs p p lv pv ev cv xs ys) (hl : l.length < 64) (h16 : es.length + 1 ≤ 16) (h8 : cs.length + 1 ≤ 8) (hB : B ≤ w.heap.size) (c : UInt8) (hc : signB c = true) (h63 : c ≠ 63) :
    Calls Try.prog 52 (stepArgs rb c) w (StepSays B rb w (signS l t es cs p c)) := by
  unfold signS
  by_cases h39 : c = 39
  · subst h39
    rw [if_pos rfl]
    refine (sign_B39 h hB).mono fun e w' h' => ?_
    obtain ⟨h1, h2, h3⟩ := h'
    exact ⟨h1, ⟨_, _, _, _, _, h2, by simp; omega⟩, h3⟩
  · rw [if_neg h39]
    by_cases h43 : c = 43
    · subst h43
      rw [if_pos rfl]
      by_cases he : es.length + 1 = 16
      · rw [if_pos he]
        exact sign_B43_full h hB he
      · rw [if_neg he]
        refine (sign_B43_next h hB (by omega)).mono fun e w' h' => ?_
        obtain ⟨h1, ⟨ev', cv', h2⟩, h3⟩ := h'
        exact ⟨h1, ⟨_, _, _, _, _, _, _, h2, hl, by simp; omega, by simp, by simp⟩, h3⟩
    · rw [if_neg h43]
      have h58 : c = 58 := by
        unfold signB at hc
        simpa [h39, h43, h63] using hc
      subst h58
      by_cases he : cs.length + 1 = 8
      · rw [if_pos he]
        exact sign_B58_full h hB he
      · rw [if_neg he]
        refine (sign_B58_next h hB (by omega)).mono fun e w' h' => ?_
        obtain ⟨h1, ⟨cv', h2⟩, h3⟩ := h'
        exact ⟨h1, ⟨_, _, _, _, _, _, _, h2, hl, h16, by simp; omega, by simp⟩, h3⟩
end
/-- an answer has the form that a caller hands on -/
theorem says_form {B rb : Nat} {w : World} {r : ER} {f : Nat} {args : Array Value} (h : Calls Try.prog f args w (StepSays B rb w r)) : ∃ a b, ∃ R : World → Prop, (Calls Try.prog f args w fun e w' => e = .returned (.tuple #[a, b]) ∧ R w') ∧ ∀ e w', (e = .returned (.tuple #[a, b]) ∧ R w') → StepSays B rb w r e w' := by
  cases r with
  | err k => exact ⟨.nilFunc, .int .i64 k, fun w' => Below B w w', h, fun e w' h => h⟩
  | ok s => exact ⟨fnV rb (fnE s), .int .i64 0, fun w' => Rd w' B rb s ∧ Below B w w', h, fun e w' h => h⟩
theorem rd_step {w : World} {B rb : Nat} {s : EC} (h : Rd w B rb s) (hB : B ≤ w.heap.size) (c : UInt8) : Calls Try.prog (fnE s) (stepArgs rb c) w (StepSays B rb w (stepE s c)) := by
  cases s with
  | btw l =>
    obtain ⟨S, lv, pv, xs, p, h, hl⟩ := h
    show Calls Try.prog 30 _ w (StepSays B rb w (if c = 10 ∧ l ≠ [] then .ok (.btw l) else if l.length = 64 then .err 2 else tagS l [] c))
    by_cases hc : c = 10 ∧ l ≠ []
    · rw [if_pos hc]
      obtain ⟨rfl, hl0⟩ := hc
      exact (btw_nl h hl0).mono fun e w' h' => ⟨h'.1, ⟨S, lv, pv, xs, p, h'.2 ▸ h, hl⟩, h'.2 ▸ Below.refl B w⟩
    · rw [if_neg hc]
      by_cases h64 : l.length = 64
      · rw [if_pos h64]
        have hc10 : c ≠ 10 := fun e => hc ⟨e, fun e' => by rw [e'] at h64; exact absurd h64 (by decide)⟩
        exact (btw_full h c hc10 h64).mono fun e w' h' => ⟨h'.1, h'.2 ▸ Below.refl B w⟩
      · rw [if_neg h64]
        have key : ∀ (a b : Value) (R : World → Prop), (∀ w1 lv', RA S w1 B rb (l ++ [⟨[], []⟩]) lv' pv (xs ++ [.slice none 0 0]) p → Below B w w1 → Calls Try.prog 37 (stepArgs rb c) w1 fun e w' => e = .returned (.tuple #[a, b]) ∧ R w') → Calls Try.prog 30 (stepArgs rb c) w fun e w' => e = .returned (.tuple #[a, b]) ∧ R w' :=
          fun a b R hT => btw_tag h hB c hc (by omega) hT
        cases hr : tagS l [] c with
        | err k =>
          refine (key .nilFunc (.int .i64 k) (fun w' => Below B w w') fun w1 lv' h1 hb => ?_).mono fun e w' h' => h'
          have := step_tag h1 (by simp) (by omega) hb hB c
          rw [hr] at this
          exact this
        | ok s' =>
          refine (key (fnV rb (fnE s')) (.int .i64 0) (fun w' => Rd w' B rb s' ∧ Below B w w') fun w1 lv' h1 hb => ?_).mono fun e w' h' => h'
          have := step_tag h1 (by simp) (by omega) hb hB c
          rw [hr] at this
          exact this
  | tag l t =>
    obtain ⟨S, lv, pv, xs, p, h, ht, hl⟩ := h
    exact step_tag h ht hl (Below.refl B w) hB c
  | bhd l t =>
    obtain ⟨S, lv, pv, xs, p, h, hl⟩ := h
    show Calls Try.prog 44 _ w (StepSays B rb w (if c = 39 then .ok (.btw (l ++ [⟨t, []⟩])) else if c = 43 then .ok (.cmp l t [] [] []) else .err 30))
    by_cases h39 : c = 39
    · subst h39
      rw [if_pos rfl]
      refine (bhd_39 (R := fun w' => RA S w' B rb (l ++ [⟨t, []⟩]) lv (.slice none 0 0) (xs ++ [.slice none 0 0]) [] ∧ Below B w w') (sign_A39 h hB)).mono fun e w' h' => ?_
      exact ⟨h'.1, ⟨_, _, _, _, _, h'.2.1, by simp; omega⟩, h'.2.2⟩
    · rw [if_neg h39]
      by_cases h43 : c = 43
      · subst h43
        rw [if_pos rfl]
        refine (bhd_43 (R := fun w' => (∃ ev cv, RB S w' B rb l t [] [] [] [] lv (.slice none 0 0) ev cv xs []) ∧ Below B w w') (sign_A43 h hB)).mono fun e w' h' => ?_
        obtain ⟨h1, ⟨ev, cv, h2⟩, h3⟩ := h'
        exact ⟨h1, ⟨_, _, _, _, _, _, _, h2, hl, by simp, by simp, by simp⟩, h3⟩
      · rw [if_neg h43]
        exact (bhd_bad rb w c h43 h39).mono fun e w' h' => ⟨h'.1, h'.2 ▸ Below.refl B w⟩
  | cmp l t es cs p =>
    obtain ⟨S, lv, pv, ev, cv, xs, ys, h, hl, h16, h8, hp⟩ := h
    show Calls Try.prog 60 _ w (StepSays B rb w (if c = 63 then .ok (.rel l t es cs p) else if signB c = true then signS l t es cs p c else if c.toNat < 32 ∨ 126 < c.toNat then .err 30 else putS l t es cs p c))
    by_cases h63 : c = 63
    · subst h63
      rw [if_pos rfl]
      exact (comp_63 rb w).mono fun e w' h' => ⟨h'.1, ⟨_, _, _, _, _, _, _, h'.2 ▸ h, hl, h16, h8, hp⟩, h'.2 ▸ Below.refl B w⟩
    · rw [if_neg h63]
      by_cases hs : signB c = true
      · rw [if_pos hs]
        obtain ⟨a, b, R, h1, h2⟩ := says_form (step_sign h hl h16 h8 hB c hs h63)
        exact (comp_sign c hs h63 h1).mono h2
      · rw [if_neg hs]
        have hs' : signB c = false := by simpa using hs
        by_cases hb : c.toNat < 32 ∨ 126 < c.toNat
        · rw [if_pos hb]
          exact (comp_bad rb w c hs' hb).mono fun e w' h' => ⟨h'.1, h'.2 ▸ Below.refl B w⟩
        · rw [if_neg hb]
          obtain ⟨a, b, R, h1, h2⟩ := says_form (step_put h hl h16 h8 hp hB c)
          exact (comp_put c hs' hb h1).mono h2
  | rel l t es cs p =>
    obtain ⟨S, lv, pv, ev, cv, xs, ys, h, hl, h16, h8, hp⟩ := h
    show Calls Try.prog 71 _ w (StepSays B rb w (if signB c = true then putS l t es cs p c else .err 30))
    by_cases hs : signB c = true
    · rw [if_pos hs]
      obtain ⟨a, b, R, h1, h2⟩ := says_form (step_put h hl h16 h8 hp hB c)
      exact (rel_put c hs h1).mono h2
    · rw [if_neg hs]
      have hs' : signB c = false := by simpa using hs
      exact (rel_bad rb w c hs').mono fun e w' h' => ⟨h'.1, h'.2 ▸ Below.refl B w⟩
end Go.Proofs.Ytpfkmklhfafkiaa
