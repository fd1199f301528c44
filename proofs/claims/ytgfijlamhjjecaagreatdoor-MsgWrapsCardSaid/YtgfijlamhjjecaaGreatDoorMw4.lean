/-
  Texts EdiO, EdiQ, EdiY6, EdiY7, EdiV, EdiY8, EdiZ1, EdiA2, EdiW, WrapP, WrapL, one behind the other. No condition beyond those stated in each.
-/
import Derived.Test.YtgfijlamhjjecaaGreatDoorMw3
import Derived.Deep.CutBlock
import Derived.Deep.DeepCutAuto
import Derived.Test.YtgfijlamhjjecaaGreatDoorMw2
import Derived.Lib.Walk
import Derived.Lib.AppendStr
import Derived.Lib.Join
import Derived.Lib.UnsafeStr
import Derived.Laws.Externs
import Derived.Lib.ItoaNum
import Derived.Lib.ParseIntBCases
/-
  EdiO: one step of the reader, told by the machine of bytes. No condition beyond those stated.
-/
namespace Go.Proofs.YtgfijlamhjjecaaGreatDoor
open Go.RowKit
/-- the function that takes the next byte -/
def fnE : EC → Nat
  | .btw _ => 144
  | .tag _ _ => 168
  | .bhd _ _ => 187
  | .cmp _ _ _ _ _ => 205
  | .rel _ _ _ _ _ => 216
/-- a reader in memory stands there -/
def Rd (w : World) (B rb : Nat) : EC → Prop
  | .btw l => ∃ (S : Nat → Prop) (lv pv : Value) (xs : List Value) (p : Str), RA S w B rb l lv pv xs p ∧ l.length ≤ 64
  | .tag l t => ∃ (S : Nat → Prop) (lv pv : Value) (xs0 : List Value) (p : Str), RA S w B rb (l ++ [⟨t, []⟩]) lv pv (xs0 ++ [.slice none 0 0]) p ∧ t.length < 3 ∧ l.length < 64
  | .bhd l t => ∃ (S : Nat → Prop) (lv pv : Value) (xs0 : List Value) (p : Str), RA S w B rb (l ++ [⟨t, []⟩]) lv pv (xs0 ++ [.slice none 0 0]) p ∧ l.length < 64
  | .cmp l t es cs p => ∃ (S : Nat → Prop) (lv pv ev cv : Value) (xs ys : List Value), RB S w B rb l t es cs p p lv pv ev cv xs ys ∧ l.length < 64 ∧ es.length + 1 ≤ 16 ∧ cs.length + 1 ≤ 8 ∧ p.length ≤ 256
  | .rel l t es cs p => ∃ (S : Nat → Prop) (lv pv ev cv : Value) (xs ys : List Value), RB S w B rb l t es cs p p lv pv ev cv xs ys ∧ l.length < 64 ∧ es.length + 1 ≤ 16 ∧ cs.length + 1 ≤ 8 ∧ p.length ≤ 256
/-- what a step answers -/
def StepSays (B rb : Nat) (w : World) : ER → Ending → World → Prop
  | .err k, e, w' => e = .returned (.tuple #[.nilFunc, .int .i64 k]) ∧ Below B w w'
  | .ok s, e, w' => e = .returned (.tuple #[fnV rb (fnE s), .int .i64 0]) ∧ Rd w' B rb s ∧ Below B w w'
section
variable {w : World} {B rb : Nat} {l : List Seg} {t : Str} {es : List (List Str)} {cs : List Str} {p : Str}
abbrev stepArgs (rb : Nat) (c : UInt8) : Array Value := #[.pointer (some ⟨rb, 0, none⟩), .int .u8 (c.toNat : Int)]
theorem step_tag {S : Nat → Prop} {lv pv : Value} {xs0 : List Value} {q : Str} {w0 : World} (h : RA S w B rb (l ++ [⟨t, []⟩]) lv pv (xs0 ++ [.slice none 0 0]) q) (ht : t.length < 3) (hl : l.length < 64) (hb : Below B w0 w) (hB : B ≤ w0.heap.size) (c : UInt8) :
    Calls Tryz.prog 168 (stepArgs rb c) w (StepSays B rb w0 (tagS l t c)) := by
  unfold tagS
  by_cases hc : tagB c = false
  · rw [if_pos hc]
    exact (tag_bad rb w c hc).mono fun e w' h => ⟨h.1, h.2 ▸ hb⟩
  · rw [if_neg hc]
    have hc' : tagB c = true := by simpa using hc
    have hB' : B ≤ w.heap.size := Nat.le_trans hB hb.size
    refine (tag_ok h hB' c hc' ht).mono fun e w' h' => ?_
    obtain ⟨h1, h2, h3⟩ := h'
    by_cases h3' : t.length + 1 < 3
    · rw [if_pos h3'] at h1 ⊢
      exact ⟨h1, ⟨S, lv, pv, xs0, q, h2, by simpa using h3', hl⟩, hb.trans h3⟩
    · rw [if_neg h3'] at h1 ⊢
      exact ⟨h1, ⟨S, lv, pv, xs0, q, h2, hl⟩, hb.trans h3⟩
theorem step_put {S : Nat → Prop} {lv pv ev cv : Value} {xs ys : List Value} (h : RB S w B rb l t es cs p p lv pv ev cv xs ys) (hl : l.length < 64) (h16 : es.length + 1 ≤ 16) (h8 : cs.length + 1 ≤ 8) (hp : p.length ≤ 256) (hB : B ≤ w.heap.size) (c : UInt8) :
    Calls Tryz.prog 218 (stepArgs rb c) w (StepSays B rb w (putS l t es cs p c)) := by
  unfold putS
  by_cases h256 : p.length = 256
  · rw [if_pos h256]
    exact put_full h c h256
  · rw [if_neg h256]
    refine (put_ok h c hB (by omega)).mono fun e w' h' => ?_
    obtain ⟨h1, ⟨pv', h2⟩, h3⟩ := h'
    exact ⟨h1, ⟨S, lv, pv', ev, cv, xs, ys, h2, hl, h16, h8, by simp; omega⟩, h3⟩
theorem step_sign {S : Nat → Prop} {lv pv ev cv : Value} {xs ys : List Value} (h : RB S w B rb l t es cs p p lv pv ev cv xs ys) (hl : l.length < 64) (h16 : es.length + 1 ≤ 16) (h8 : cs.length + 1 ≤ 8) (hB : B ≤ w.heap.size) (c : UInt8) (hc : signB c = true) (h63 : c ≠ 63) :
    Calls Tryz.prog 197 (stepArgs rb c) w (StepSays B rb w (signS l t es cs p c)) := by
  unfold signS
  by_cases h39 : c = 39
  · subst h39
    rw [if_pos rfl]
    refine (sign_B39 h hB).mono fun e w' h' => ?_
    obtain ⟨h1, h2, h3⟩ := h'
    exact ⟨h1, ⟨_, _, _, _, _, h2, by simp; omega⟩, h3⟩
  · rw [if_neg h39]
    by_cases h43 : c = 43
    · subst h43
      rw [if_pos rfl]
      by_cases he : es.length + 1 = 16
      · rw [if_pos he]
        exact sign_B43_full h hB he
      · rw [if_neg he]
        refine (sign_B43_next h hB (by omega)).mono fun e w' h' => ?_
        obtain ⟨h1, ⟨ev', cv', h2⟩, h3⟩ := h'
        exact ⟨h1, ⟨_, _, _, _, _, _, _, h2, hl, by simp; omega, by simp, by simp⟩, h3⟩
    · rw [if_neg h43]
      have h58 : c = 58 := by
        unfold signB at hc
        simpa [h39, h43, h63] using hc
      subst h58
      by_cases he : cs.length + 1 = 8
      · rw [if_pos he]
        exact sign_B58_full h hB he
      · rw [if_neg he]
        refine (sign_B58_next h hB (by omega)).mono fun e w' h' => ?_
        obtain ⟨h1, ⟨cv', h2⟩, h3⟩ := h'
        exact ⟨h1, ⟨_, _, _, _, _, _, _, h2, hl, h16, by simp; omega, by simp⟩, h3⟩
end
/-- an answer has the form that a caller hands on -/
theorem says_form {B rb : Nat} {w : World} {r : ER} {f : Nat} {args : Array Value} (h : Calls Tryz.prog f args w (StepSays B rb w r)) : ∃ a b, ∃ R : World → Prop, (Calls Tryz.prog f args w fun e w' => e = .returned (.tuple #[a, b]) ∧ R w') ∧ ∀ e w', (e = .returned (.tuple #[a, b]) ∧ R w') → StepSays B rb w r e w' := by
  cases r with
  | err k => exact ⟨.nilFunc, .int .i64 k, fun w' => Below B w w', h, fun e w' h => h⟩
  | ok s => exact ⟨fnV rb (fnE s), .int .i64 0, fun w' => Rd w' B rb s ∧ Below B w w', h, fun e w' h => h⟩
theorem rd_step {w : World} {B rb : Nat} {s : EC} (h : Rd w B rb s) (hB : B ≤ w.heap.size) (c : UInt8) : Calls Tryz.prog (fnE s) (stepArgs rb c) w (StepSays B rb w (stepE s c)) := by
  cases s with
  | btw l =>
    obtain ⟨S, lv, pv, xs, p, h, hl⟩ := h
    show Calls Tryz.prog 144 _ w (StepSays B rb w (if c = 10 ∧ l ≠ [] then .ok (.btw l) else if l.length = 64 then .err 2 else tagS l [] c))
    by_cases hc : c = 10 ∧ l ≠ []
    · rw [if_pos hc]
      obtain ⟨rfl, hl0⟩ := hc
      exact (btw_nl h hl0).mono fun e w' h' => ⟨h'.1, ⟨S, lv, pv, xs, p, h'.2 ▸ h, hl⟩, h'.2 ▸ Below.refl B w⟩
    · rw [if_neg hc]
      by_cases h64 : l.length = 64
      · rw [if_pos h64]
        have hc10 : c ≠ 10 := fun e => hc ⟨e, fun e' => by rw [e'] at h64; exact absurd h64 (by decide)⟩
        exact (btw_full h c hc10 h64).mono fun e w' h' => ⟨h'.1, h'.2 ▸ Below.refl B w⟩
      · rw [if_neg h64]
        have key : ∀ (a b : Value) (R : World → Prop), (∀ w1 lv', RA S w1 B rb (l ++ [⟨[], []⟩]) lv' pv (xs ++ [.slice none 0 0]) p → Below B w w1 → Calls Tryz.prog 168 (stepArgs rb c) w1 fun e w' => e = .returned (.tuple #[a, b]) ∧ R w') → Calls Tryz.prog 144 (stepArgs rb c) w fun e w' => e = .returned (.tuple #[a, b]) ∧ R w' :=
          fun a b R hT => btw_tag h hB c hc (by omega) hT
        cases hr : tagS l [] c with
        | err k =>
          refine (key .nilFunc (.int .i64 k) (fun w' => Below B w w') fun w1 lv' h1 hb => ?_).mono fun e w' h' => h'
          have := step_tag h1 (by simp) (by omega) hb hB c
          rw [hr] at this
          exact this
        | ok s' =>
          refine (key (fnV rb (fnE s')) (.int .i64 0) (fun w' => Rd w' B rb s' ∧ Below B w w') fun w1 lv' h1 hb => ?_).mono fun e w' h' => h'
          have := step_tag h1 (by simp) (by omega) hb hB c
          rw [hr] at this
          exact this
  | tag l t =>
    obtain ⟨S, lv, pv, xs, p, h, ht, hl⟩ := h
    exact step_tag h ht hl (Below.refl B w) hB c
  | bhd l t =>
    obtain ⟨S, lv, pv, xs, p, h, hl⟩ := h
    show Calls Tryz.prog 187 _ w (StepSays B rb w (if c = 39 then .ok (.btw (l ++ [⟨t, []⟩])) else if c = 43 then .ok (.cmp l t [] [] []) else .err 30))
    by_cases h39 : c = 39
    · subst h39
      rw [if_pos rfl]
      refine (bhd_39 (R := fun w' => RA S w' B rb (l ++ [⟨t, []⟩]) lv (.slice none 0 0) (xs ++ [.slice none 0 0]) [] ∧ Below B w w') (sign_A39 h hB)).mono fun e w' h' => ?_
      exact ⟨h'.1, ⟨_, _, _, _, _, h'.2.1, by simp; omega⟩, h'.2.2⟩
    · rw [if_neg h39]
      by_cases h43 : c = 43
      · subst h43
        rw [if_pos rfl]
        refine (bhd_43 (R := fun w' => (∃ ev cv, RB S w' B rb l t [] [] [] [] lv (.slice none 0 0) ev cv xs []) ∧ Below B w w') (sign_A43 h hB)).mono fun e w' h' => ?_
        obtain ⟨h1, ⟨ev, cv, h2⟩, h3⟩ := h'
        exact ⟨h1, ⟨_, _, _, _, _, _, _, h2, hl, by simp, by simp, by simp⟩, h3⟩
      · rw [if_neg h43]
        exact (bhd_bad rb w c h43 h39).mono fun e w' h' => ⟨h'.1, h'.2 ▸ Below.refl B w⟩
  | cmp l t es cs p =>
    obtain ⟨S, lv, pv, ev, cv, xs, ys, h, hl, h16, h8, hp⟩ := h
    show Calls Tryz.prog 205 _ w (StepSays B rb w (if c = 63 then .ok (.rel l t es cs p) else if signB c = true then signS l t es cs p c else if c.toNat < 32 ∨ 126 < c.toNat then .err 30 else putS l t es cs p c))
    by_cases h63 : c = 63
    · subst h63
      rw [if_pos rfl]
      exact (comp_63 rb w).mono fun e w' h' => ⟨h'.1, ⟨_, _, _, _, _, _, _, h'.2 ▸ h, hl, h16, h8, hp⟩, h'.2 ▸ Below.refl B w⟩
    · rw [if_neg h63]
      by_cases hs : signB c = true
      · rw [if_pos hs]
        obtain ⟨a, b, R, h1, h2⟩ := says_form (step_sign h hl h16 h8 hB c hs h63)
        exact (comp_sign c hs h63 h1).mono h2
      · rw [if_neg hs]
        have hs' : signB c = false := by simpa using hs
        by_cases hb : c.toNat < 32 ∨ 126 < c.toNat
        · rw [if_pos hb]
          exact (comp_bad rb w c hs' hb).mono fun e w' h' => ⟨h'.1, h'.2 ▸ Below.refl B w⟩
        · rw [if_neg hb]
          obtain ⟨a, b, R, h1, h2⟩ := says_form (step_put h hl h16 h8 hp hB c)
          exact (comp_put c hs' hb h1).mono h2
  | rel l t es cs p =>
    obtain ⟨S, lv, pv, ev, cv, xs, ys, h, hl, h16, h8, hp⟩ := h
    show Calls Tryz.prog 216 _ w (StepSays B rb w (if signB c = true then putS l t es cs p c else .err 30))
    by_cases hs : signB c = true
    · rw [if_pos hs]
      obtain ⟨a, b, R, h1, h2⟩ := says_form (step_put h hl h16 h8 hp hB c)
      exact (rel_put c hs h1).mono h2
    · rw [if_neg hs]
      have hs' : signB c = false := by simpa using hs
      exact (rel_bad rb w c hs').mono fun e w' h' => ⟨h'.1, h'.2 ▸ Below.refl B w⟩
end Go.Proofs.YtgfijlamhjjecaaGreatDoor


/-
  EdiQ: contract of held. No condition beyond those stated.
-/
namespace Go.Proofs.YtgfijlamhjjecaaGreatDoor
open Go.RowKit
/-- how many ? end the first i bytes -/
def heldN (t : Str) (i : Nat) : Nat := ((t.take i).reverse.takeWhile (· == 63)).length
theorem takeWhile_len {α : Type} (f : α → Bool) : ∀ (l : List α) (k : Nat), (∀ j, j < k → ∃ x, l[j]? = some x ∧ f x = true) → (∀ x, l[k]? = some x → f x = false) → (l.takeWhile f).length = k
  | [], k, h1, _ => by
    cases k with
    | zero => rfl
    | succ k => obtain ⟨x, hx, _⟩ := h1 0 (by omega); simp at hx
  | a :: l, k, h1, h2 => by
    cases k with
    | zero => have := h2 a rfl; simp [List.takeWhile, this]
    | succ k =>
      obtain ⟨x, hx, hf⟩ := h1 0 (by omega)
      simp at hx; subst hx
      rw [List.takeWhile_cons, if_pos hf, List.length_cons, takeWhile_len f l k (fun j hj => by simpa using h1 (j + 1) (by omega)) (fun x hx => h2 x (by simpa using hx))]
theorem rev_take {t : Str} {i j : Nat} (hi : i ≤ t.length) (hj : j < i) : (t.take i).reverse[j]? = t[i - 1 - j]? := by
  rw [List.getElem?_reverse (by simp; omega)]
  simp only [List.length_take]
  rw [Nat.min_eq_left hi, List.getElem?_take_of_lt (by omega)]
theorem heldN_of {t : Str} {i k : Nat} (hi : i ≤ t.length) (hk : k ≤ i) (h1 : ∀ j, j < k → t[i - 1 - j]? = some 63) (h2 : k = i ∨ t[i - 1 - k]? ≠ some 63) : heldN t i = k := by
  refine takeWhile_len _ _ k (fun j hj => ⟨63, ?_, rfl⟩) (fun x hx => ?_)
  · rw [rev_take hi (by omega)]; exact h1 j hj
  · rcases h2 with rfl | h2
    · rw [List.getElem?_eq_none (by simp; omega)] at hx; cases hx
    · by_cases hki : k < i
      · rw [rev_take hi hki] at hx
        rw [hx] at h2
        simpa using h2
      · rw [List.getElem?_eq_none (by simp; omega)] at hx; cases hx
theorem at_byte (s : ByteArray) (i : Nat) (h : i < s.size) : s.data.toList[i]? = some (s[i]'h) := by
  show s.data.toList[i]? = some (s.data[i]'h)
  rw [List.getElem?_eq_getElem (by simpa using h)]
  simp
set_option maxRecDepth 100000 in
set_option maxHeartbeats 2000000 in
theorem held_any (r : Value) (s : ByteArray) (i : Nat) (hi : i ≤ s.size) (hs : s.size < 9223372036854775807) (w : World) : Calls Tryz.prog 145 #[r, .string s, .int .i64 (i : Int)] w fun e w' => e = .returned (.bool (heldN s.data.toList i % 2 == 1)) ∧ w = w' := by
  have heq : ∀ k : Nat, (((k : Int) % 2) == 1) = (k % 2 == 1) := fun k => by rw [Bool.eq_iff_iff, beq_iff_eq, beq_iff_eq]; omega
  have HEQ := Lib.hid heq
  clear heq
  go_enter Tryz.func145, Tryz.ntmps145
  go_wp2
  go_loop [7] (fun n => ∃ k : Nat, k ≤ i ∧ n = .int .i64 (k : Int) ∧ Hid (∀ j, j < k → s.data.toList[i - 1 - j]? = some 63)) (fun n => i - (intOf n).toNat)
  case atStart => exact ⟨0, by omega, rfl, Lib.hid fun j hj => absurd hj (by omega)⟩
  case round =>
    obtain ⟨k, hk, rfl, HK⟩ := hrel
    by_cases hlt : k < i
    · have hw1 : IntKind.i64.wrap ((i : Int) - 1) = ((i - 1 : Nat) : Int) := by rw [show ((i - 1 : Nat) : Int) = (i : Int) - 1 by omega]; exact IntWalk.i64_in _ (by omega)
      have hw2 : IntKind.i64.wrap (((i - 1 : Nat) : Int) - (k : Int)) = ((i - 1 - k : Nat) : Int) := by rw [show ((i - 1 - k : Nat) : Int) = ((i - 1 : Nat) : Int) - (k : Int) by omega]; exact IntWalk.i64_in _ (by omega)
      have hb : i - 1 - k < s.size := by omega
      have hA := at_byte s _ hb
      by_cases hq : s[i - 1 - k]'hb = 63
      · have hd : (((s[i - 1 - k]'hb).toNat : Int) == 63) = true := by rw [hq]; decide
        go_wp2
        go_round
        case rel =>
          refine ⟨k + 1, by omega, by go_num, Lib.hid fun j hj => ?_⟩
          by_cases hjk : j < k
          · exact HK.out j hjk
          · obtain rfl : j = k := by omega
            rw [hA, hq]
        case measure => simp [intOf]; omega
      · have hd : (((s[i - 1 - k]'hb).toNat : Int) == 63) = false := nat_eq _ 63 hq
        have HH := Lib.hid (show heldN s.data.toList i = k from heldN_of (by simpa using hi) hk HK.out (.inr (by rw [hA]; exact fun e => hq (Option.some.inj e))))
        go_wp2
        go_ret
        exact ⟨by rw [HH.out, ← HEQ.out k]; rfl, rfl⟩
    · obtain rfl : k = i := by omega
      have HH := Lib.hid (show heldN s.data.toList k = k from heldN_of (by simpa using hi) hk HK.out (.inl rfl))
      go_wp2
      go_ret
      exact ⟨by rw [HH.out, ← HEQ.out k]; rfl, rfl⟩
end Go.Proofs.YtgfijlamhjjecaaGreatDoor


/-
  EdiY6: contract of (*byteStringReplacer).Replace at the four signs. No condition beyond those stated.
-/
namespace Go.Proofs.YtgfijlamhjjecaaGreatDoor
open Go.RowKit
theorem makeBytes_rowE (n : Nat) : madeCells #[.int .u8 0] n = rowA n fun _ => 0 := by
  apply Array.ext_getElem?
  intro j
  by_cases hj : j < n
  · rw [rowA_get _ hj]
    simp only [madeCells, Array.getElem?_map]
    rw [Array.getElem?_eq_getElem (by simpa using hj)]
    simp [Nat.mod_one, bv]
  · rw [Array.getElem?_eq_none (by simp [madeCells]; omega), Array.getElem?_eq_none (by rw [rowA_size]; omega)]
/-- make of bytes -/
theorem make_bytesE (n : Nat) (hn : n ≤ 140737488355328) (u : World) : (Instr.makeSlice 72 (.int .i64 (n : Int)) (.int .i64 (n : Int))).run Tryz.prog u = .ok (.slice (some ⟨u.heap.size, 0, none⟩) n n) (u.alloc (.cells (rowA n fun _ => 0) 5)) := by
  obtain ⟨i0, hi, hz0, hz1, hz2⟩ := info_parts einfo_u8
  have h := run_make (P := Tryz.prog) u 72 5 i0 _ Tryz.underlying72 hi hz0 .i64 .i64 (n : Int) (n : Int) (by omega) (Int.le_refl _) (by rw [hz2]; omega) (by omega)
  rw [h, hz1]
  simp only [Int.toNat_natCast, Value.cells, Nat.mul_one, makeBytes_rowE]
/-- what has been written when k bytes are done -/
def outF (l : Str) (k : Nat) : Sec := fun j => (compT (l.take k)).getD j 0
theorem outF_fit (l : Str) (k' : Nat) : (compT (l.take k')).length ≤ l.length + sgN l := by
  rw [compT_len]
  have := sgN_take_mono l k'
  have : (l.take k').length ≤ l.length := by rw [List.length_take]; omega
  omega
theorem outF_set (l : Str) (k j n : Nat) (c : UInt8) (hj : j = (compT (l.take k)).length) (hc : compT (l.take (k + 1)) = compT (l.take k) ++ [c]) (hn : j < n) : (rowA n (outF l k)).setIfInBounds j (.int .u8 (c.toNat : Int)) = rowA n (outF l (k + 1)) := by
  apply Array.ext_getElem?
  intro i
  by_cases hi : i < n
  · rw [rowA_get _ hi]
    by_cases e : i = j
    · subst e
      rw [Array.getElem?_setIfInBounds_self_of_lt (by rw [rowA_size]; exact hi)]
      unfold outF; rw [hc, hj]; simp [bv]
    · rw [Array.getElem?_setIfInBounds_ne (by omega), rowA_get _ hi]
      unfold outF; rw [hc]
      congr 2
      by_cases h2 : i < j
      · simp only [List.getD_eq_getElem?_getD]; rw [List.getElem?_append_left (by omega)]
      · simp only [List.getD_eq_getElem?_getD]; rw [List.getElem?_append_right (by omega), List.getElem?_eq_none (by omega), List.getElem?_eq_none (by simp; omega)]
  · rw [Array.getElem?_eq_none (by simp [rowA_size]; omega), Array.getElem?_eq_none (by rw [rowA_size]; omega)]
theorem copy2 {l : Str} {k j n : Nat} {c : UInt8} (hj : j = (compT (l.take k)).length) (hc : compT (l.take (k + 1)) = compT (l.take k) ++ [63, c]) (_hn : j + 2 ≤ n) : rowA n (splF (outF l k) j 2 (fun i => ([63, c] : Str).getD i 0)) = rowA n (outF l (k + 1)) := by
  apply rowA_congr
  intro i hi
  unfold splF outF
  rw [hc]
  simp only [List.getD_eq_getElem?_getD]
  by_cases h : j ≤ i ∧ i < j + 2
  · rw [if_pos h, List.getElem?_append_right (by omega), ← hj]
  · rw [if_neg h]
    by_cases h2 : i < j
    · rw [List.getElem?_append_left (by omega)]
    · rw [List.getElem?_append_right (by omega), List.getElem?_eq_none (by omega), List.getElem?_eq_none (by simp; omega)]
theorem row2_at (w : World) (b : Nat) (c : UInt8) (h0 : w.cell? ⟨b, 0, none⟩ = some (bv 63)) (h1 : w.cell? ⟨b, 1, none⟩ = some (bv c)) : ∀ j v, (rowL 2 (fun i => ([63, c] : Str).getD i 0))[j]? = some v → w.cell? ((⟨b, 0, none⟩ : Addr).add j) = some v := by
  intro j v hv
  rw [Addr.add_mid, Nat.zero_add]
  have hj : j < 2 := by have := (List.getElem?_eq_some_iff.1 hv).1; rwa [rowL_length] at this
  rw [rowL_get _ hj] at hv
  match j, hj with
  | 0, _ => rw [h0]; exact hv
  | 1, _ => rw [h1]; exact hv
theorem getD_mem (k : Nat) (h : k < 4) : (DE 0).getD k 0 ∈ DE 0 := by
  match k, h with
  | 0, _ => decide
  | 1, _ => decide
  | 2, _ => decide
  | 3, _ => decide
set_option maxRecDepth 100000 in
set_option maxHeartbeats 4000000 in
theorem bsr_any (w : World) (g : Nat) (s : ByteArray) (h : FullAt w g) (hs : s.size ≤ 1048576) :
    Calls Tryz.prog 257 #[.pointer (some ⟨g, 0, none⟩), .string s] w fun e w' => e = .returned (sv (compT s.data.toList)) ∧ Below w.heap.size w w' := by
  obtain ⟨l, hl⟩ : ∃ l, s.data.toList = l := ⟨_, rfl⟩
  have hll : l.length = s.size := by rw [← hl]; simp
  have HL := Lib.hid hl
  have HLL := Lib.hid hll
  have HFU := Lib.hid h
  have hnl := fun (w : World) (a : Option Addr) (n c n' c' : Nat) => run_neq_slice_nil_any (P := Tryz.prog) w 72 5 a n c n' c' Tryz.underlying72
  obtain ⟨nb, cap, k0, hc4, hcm, hnm⟩ := h.names
  have HNM := Lib.hid hnm
  have hsn := sgN_le l
  rw [hll] at hsn
  rw [hl]
  clear hl hll h hnm
  go_enter Tryz.func257, Tryz.ntmps257
  go_upto_if 26 with fail
  obtain ⟨d32, hd32⟩ : ∃ d, decide ((32 : Int) ≤ (s.size : Int)) = d := ⟨_, rfl⟩
  rw [hd32]
  clear hd32
  go_cut [5, 6] (fun ns ac wx => ns = .int .i64 ((s.size + sgN l : Nat) : Int) ∧ ac = .bool (decide (0 < sgN l)) ∧ Hid (wx.heap = w.heap) ∧ Hid (Below w.heap.size w wx))
  case first =>
    cases d32
    rotate_left
    · go_wp2_with fail
      go_loopw [5, 6, 32] (fun ns ac i wr => ∃ (k N : Nat) (a : Bool), k ≤ 4 ∧ i = .int .i64 (k : Int) ∧ ns = .int .i64 (N : Int) ∧ ac = .bool a ∧ Hid (N = s.size + cntD l k) ∧ Hid (a = decide (0 < cntD l k)) ∧ Hid (wr.heap = w.heap) ∧ Hid (Below w.heap.size w wr)) (fun _ _ i _ => 4 - (intOf i).toNat)
      case atStart => exact ⟨0, s.size, false, by omega, rfl, rfl, rfl, Lib.hid (by simp [cntD]), Lib.hid (by simp [cntD]), Lib.hid rfl, Lib.hid (Below.refl _ _)⟩
      case round =>
        obtain ⟨k, N, a, hk, rfl, rfl, rfl, HN, HA, HW, HBE⟩ := hrel
        by_cases h4 : k < 4
        · obtain ⟨c, hc⟩ : ∃ c, (DE 0).getD k 0 = c := ⟨_, rfl⟩
          have hcell : wr.cell? ⟨nb, k, none⟩ = some (.string ⟨#[c]⟩) := by
            have := HNM.out k h4
            rw [hc] at this
            exact (cell_ag (by rw [HW.out])).trans this
          have b1 : (0 : Int) ≤ k := by omega
          have b2 : (k : Int) < 4 := by omega
          have hsg : signB c = true := (mem_DE c).1 (by rw [← hc]; exact getD_mem k h4)
          obtain ⟨b, cap2, y1, y2, y3, _⟩ := HFU.out.yes hsg
          have y1' := (cell_ag (g := g) (j := c.toNat) (by rw [HW.out])).trans y1
          obtain ⟨cn, hcn⟩ : ∃ cn, c.toNat = cn := ⟨_, rfl⟩
          have hq : ((⟨#[c]⟩ : ByteArray)[0]'(Nat.zero_lt_one)).toNat = cn := hcn
          have hc256 := c.toNat_lt
          rw [hcn] at y1' hc256
          have b3 : (0 : Int) ≤ cn := by omega
          have b4 : (cn : Int) < 256 := by omega
          have HCO := Lib.hid (fun w => Tryz.strings_Count_one s c w)
          have hml : l.count c ≤ l.length := List.count_le_length
          have hcs := cntD_succ l k h4
          rw [hc] at hcs
          have HCS := Lib.hid hcs
          rw [HL.out] at HCO
          obtain ⟨m, hm⟩ : ∃ m, Lib.countByte l c = m := ⟨_, rfl⟩
          have hm' : l.count c = m := hm
          rw [HLL.out, hm'] at hml
          rw [hm] at HCO
          rw [hm'] at HCS
          have hNle : N ≤ s.size + s.size := by have h1 := HN.out; have h2 := cntD_mono l k hk; omega
          clear y1 hcn hc hm hm' hsg hcs
          by_cases hm0 : m = 0
          · subst hm0
            go_wp2_with (go_at_call 259; refine (HCO.out _).mono ?_; rintro e w' ⟨rfl, rfl⟩)
            go_roundw
            case rel =>
              have h1 := HCS.out
              rw [Nat.add_zero] at h1
              exact ⟨k + 1, N, a, by omega, by go_num, rfl, rfl, Lib.hid (by rw [h1]; exact HN.out), Lib.hid (by rw [h1]; exact HA.out), HW, HBE⟩
            case measure => simp [intOf]; omega
          · have hm1 : ((m : Int) != 0) = true := by simp; omega
            have w1 : IntKind.i64.wrap ((m : Int) * 1) = (m : Int) := by rw [Int.mul_one]; exact IntWalk.i64_in _ (by omega)
            have w2 : IntKind.i64.wrap ((N : Int) + (m : Int)) = (N : Int) + (m : Int) := IntWalk.i64_in _ (by omega)
            go_upto_region 9 with (go_at_call 259; refine (HCO.out _).mono ?_; rintro e w' ⟨rfl, rfl⟩)
            go_quiet (fail)
            go_wp2_with fail
            go_roundw
            case rel =>
              have h1 := HCS.out
              exact ⟨k + 1, N + m, true, by omega, by go_num, by go_num, rfl, Lib.hid (by rw [h1, HN.out]; omega), Lib.hid (by rw [h1]; symm; rw [decide_eq_true_eq]; omega), Lib.hid HW.out, Lib.hid (HBE.out.trans ⟨rfl, rfl, rfl, Nat.le_refl _, fun _ _ => rfl⟩)⟩
            case measure => simp [intOf]; omega
        · obtain rfl : k = 4 := by omega
          have hNe : s.size + sgN l = N := by rw [HN.out, cntD_four]
          have hAe : decide (0 < sgN l) = a := by rw [HA.out, cntD_four]
          have HNE := Lib.hid hNe
          have HAE := Lib.hid hAe
          clear hNe hAe
          go_wp2_with fail
          go_meet
          case rel => exact ⟨by rw [HNE.out], by rw [HAE.out], HW, HBE⟩
    · go_wp2_with fail
      go_loopw [5, 6, 10] (fun ns ac i wr => ∃ (k N : Nat) (a : Bool), k ≤ s.size ∧ i = .int .i64 (k : Int) ∧ ns = .int .i64 (N : Int) ∧ ac = .bool a ∧ Hid (N = s.size + sgN (l.take k)) ∧ Hid (a = decide (0 < sgN (l.take k))) ∧ wr = w) (fun _ _ i _ => s.size - (intOf i).toNat)
      case atStart => exact ⟨0, s.size, false, by omega, rfl, rfl, rfl, Lib.hid (by simp [sgN]), Lib.hid (by simp [sgN]), rfl⟩
      case round =>
        obtain ⟨k, N, a, hk, rfl, rfl, rfl, HN, HA, rfl⟩ := hrel
        by_cases hlt : k < s.size
        · obtain ⟨c, hc⟩ : ∃ c, s[k]'hlt = c := ⟨_, rfl⟩
          have hcl : l[k]? = some c := by rw [← HL.out, ← hc]; exact at_byte s _ hlt
          have hsu := sgN_take hcl
          have hle := sgN_take_le l k
          have hN := HN.out
          obtain ⟨cn, hcn⟩ : ∃ cn, c.toNat = cn := ⟨_, rfl⟩
          have hc256 := c.toNat_lt
          have hq : (s[k]'hlt).toNat = cn := by rw [hc]; exact hcn
          rw [hcn] at hc256
          have b3 : (0 : Int) ≤ cn := by omega
          have b4 : (cn : Int) < 256 := by omega
          have hNle : N ≤ s.size + s.size := by rw [HLL.out] at hle; omega
          cases hsb : signB c with
          | true =>
            obtain ⟨b, cap2, y1, y2, y3, _⟩ := HFU.out.yes hsb
            rw [hcn] at y1
            rw [hsb, if_pos rfl] at hsu
            have HSU := Lib.hid hsu
            clear hsu hN hc hcl hcn hsb
            go_wp2_with fail
            go_roundw
            case rel =>
              have h1 := HSU.out
              exact ⟨k + 1, N + 1, true, by omega, by go_num, by go_num, rfl, Lib.hid (by rw [h1, HN.out]; omega), Lib.hid (by rw [h1]; symm; rw [decide_eq_true_eq]; omega), trivial⟩
            case measure => simp [intOf]; omega
          | false =>
            have y1 := HFU.out.no hsb
            rw [hcn] at y1
            rw [hsb, if_neg (by simp), Nat.add_zero] at hsu
            have HSU := Lib.hid hsu
            clear hsu hN hc hcl hcn hsb
            go_wp2_with fail
            go_roundw
            case rel =>
              have h1 := HSU.out
              exact ⟨k + 1, N, a, by omega, by go_num, rfl, rfl, Lib.hid (by rw [h1]; exact HN.out), Lib.hid (by rw [h1]; exact HA.out), trivial⟩
            case measure => simp [intOf]; omega
        · obtain rfl : k = s.size := by omega
          have e : l.take s.size = l := List.take_of_length_le (by rw [HLL.out]; exact Nat.le_refl _)
          have hN := HN.out
          have hA := HA.out
          rw [e] at hN hA
          have HNE := Lib.hid hN
          have HAE := Lib.hid hA
          clear hN hA e
          go_wp2_with fail
          go_meet
          case rel => exact ⟨by rw [HNE.out], by rw [HAE.out], Lib.hid rfl, Lib.hid (Below.refl _ _)⟩
  case rest =>
    obtain ⟨rfl, rfl, hh, hb⟩ := hcut
    have HFU2 := Lib.hid (HFU.out.cong (w' := wc) (fun k _ => by rw [hh.out]))
    obtain ⟨n, hn⟩ : ∃ n, s.size + sgN l = n := ⟨_, rfl⟩
    have hn2 : n ≤ 2097152 := by omega
    have HNN := Lib.hid hn
    rw [hn]
    clear k0 HNM hc4 hcm hn
    obtain ⟨A, hA⟩ : ∃ A, decide (0 < sgN l) = A := ⟨_, rfl⟩
    rw [hA]
    by_cases hz : sgN l = 0
    · have hz2 : A = false := by rw [← hA, decide_eq_false_iff_not]; omega
      subst hz2
      clear hA
      have HZ := Lib.hid (compT_same hz)
      clear hz
      go_wp2_with fail
      go_ret
      exact ⟨by rw [HZ.out, ← HL.out]; rfl, hb.out⟩
    · have hz2 : A = true := by rw [← hA, decide_eq_true_eq]; omega
      subst hz2
      clear hA
      have hmk := make_bytesE n (by omega) wc
      have hws := hb.out.size
      have HSZ := Lib.hid hz
      clear hz
      go_upto_block 4 with fail
      obtain ⟨qb, hqb⟩ : ∃ qb, wc.heap.size = qb := ⟨_, rfl⟩
      obtain ⟨w1, hw1⟩ : ∃ w1, wc.alloc (.cells (rowA n fun _ => 0) 5) = w1 := ⟨_, rfl⟩
      have HR1 := Lib.hid (show w1.heap[qb]? = some (.cells (rowA n (outF l 0)) 5 (0, 0)) by rw [← hw1, ← hqb]; exact heap_alloc_new _ _)
      have HO1 := Lib.hid (show ∀ k, k < qb → w1.heap[k]? = wc.heap[k]? by rw [← hw1, ← hqb]; exact fun k hk => Below.heap_alloc _ _ _ hk)
      have HB1 := Lib.hid (show Below w.heap.size w w1 by rw [← hw1]; exact hb.out.alloc hws _)
      rw [hqb] at hws
      have HQB := Lib.hid hqb
      rw [hqb, hw1]
      clear hqb hw1 hmk
      have hgq : g < qb := by rw [← HQB.out]; exact HFU2.out.lt
      go_wp2_with fail
      go_loopw [13, 14] (fun js i wr => ∃ (k j : Nat), k ≤ s.size ∧ i = .int .i64 (k : Int) ∧ js = .int .i64 (j : Int) ∧ Hid (j = (compT (l.take k)).length) ∧ Hid (wr.heap[qb]? = some (.cells (rowA n (outF l k)) 5 (0, 0))) ∧ Hid (∀ k, k < qb → wr.heap[k]? = wc.heap[k]?) ∧ Hid (Below w.heap.size w wr)) (fun _ i _ => s.size - (intOf i).toNat)
      case atStart => exact ⟨0, 0, by omega, rfl, rfl, Lib.hid rfl, HR1, HO1, HB1⟩
      case round =>
        obtain ⟨k, j, hk, rfl, rfl, HJ, HR, HO, HBE⟩ := hrel
        clear HR1 HO1 HB1
        by_cases hlt : k < s.size
        · obtain ⟨c, hc⟩ : ∃ c, s[k]'hlt = c := ⟨_, rfl⟩
          have hcl : l[k]? = some c := by rw [← HL.out, ← hc]; exact at_byte s _ hlt
          have hct := compT_take hcl
          have hnl := outF_fit l
          rw [HLL.out, HNN.out] at hnl
          have hjn := hnl (k + 1)
          rw [hct, List.length_append, ← HJ.out] at hjn
          clear hnl
          obtain ⟨cn, hcn⟩ : ∃ cn, c.toNat = cn := ⟨_, rfl⟩
          have hc256 := c.toNat_lt
          have hq : (s[k]'hlt).toNat = cn := by rw [hc]; exact hcn
          rw [hcn] at hc256
          have b3 : (0 : Int) ≤ cn := by omega
          have b4 : (cn : Int) < 256 := by omega
          have HCT := Lib.hid hct
          cases hsb : signB c with
          | true =>
            obtain ⟨b, cap2, y0, y2, y3, y4, y5⟩ := HFU2.out.yes hsb
            have y1 := (cell_ag (HO.out g hgq)).trans y0
            rw [hcn] at y1
            have he : escB c = [63, c] := by unfold escB; rw [hsb]; rfl
            rw [he] at hjn
            have hjn' : j + 2 ≤ n := by simp at hjn; omega
            have hbq : b < qb := by rw [← HQB.out]; exact cell_lt' y4
            have y4' := (cell_ag (HO.out b hbq)).trans y4
            have y5' := (cell_ag (HO.out b hbq)).trans y5
            have b5 : (0 : Int) ≤ j := by omega
            have b6 : (j : Int) ≤ n := by omega
            have b7 : (j : Int) < n := by omega
            have b8 : ¬ n = j := by omega
            have HN := Lib.hid (copy2 (n := n) HJ.out (by rw [HCT.out, he]) hjn')
            have HJ2 := Lib.hid (show j + 2 = (compT (l.take (k + 1))).length by rw [HCT.out, he, List.length_append, ← HJ.out]; rfl)
            have HSR := Lib.hid (row2_at wr b c y4' y5')
            have w2 : IntKind.i64.wrap ((j : Int) + 2) = (j : Int) + 2 := IntWalk.i64_in _ (by omega)
            clear hct hjn hc hcl hsb he y0 y4 y5 y4' y5'
            go_upto_region 28 with fail
            refine wp_region_plan [(0, false), (1, false), (2, false), (3, false), (4, false), (5, false), (6, false), (7, false), (8, false), (9, false), (10, true), (11, false), (12, false)] (fun w' => w'.cell? ⟨g, cn, none⟩ = some (.slice (some ⟨b, 0, none⟩) 2 cap2)) (by kernel_rfl) (by kernel_rfl) y1 ?_
            iterate 10 (refine' plan_val rfl rfl (fun w' hS => ?_) ?_; rotate_left; (focus (go_simp; rfl)); simp only [Act.put, List.setIfInBounds_toArray, List.set_cons_zero, List.set_cons_succ])
            refine plan_do rfl (fun K hK => ?_)
            refine wpList_val rfl (exec_copy (xv := .slice (some ⟨qb, j, none⟩) (n - j) (n - j)) (yv := .slice (some ⟨b, 0, none⟩) 2 cap2) rfl rfl rfl (fun ty => run_copy_bytes (P := Tryz.prog) wr.drew 72 72 5 qb j (n - j) (n - j) ⟨b, 0, none⟩ 2 cap2 n 2 (outF l k) (fun i => ([63, c] : Str).getD i 0) 5 Tryz.underlying72 (by kernel_rfl) HR.out (by show 2 = min 2 (n - j); omega) HSR.out hjn' ty)) ?_
            rw [HN.out]
            have hgq2 : g ≠ qb := by omega
            have y1'' : (wr.drew.setRow qb (rowA n (outF l (k + 1)))).cell? ⟨g, cn, none⟩ = some (.slice (some ⟨b, 0, none⟩) 2 cap2) := (cell_ag (setRow_other wr.drew qb g _ hgq2)).trans y1
            refine hK _ _ y1'' ?_
            clear hK K
            iterate 2 (refine' plan_val rfl rfl (fun w' hS => ?_) ?_; rotate_left; (focus (go_simp; rfl)); simp only [Act.put, List.setIfInBounds_toArray, List.set_cons_zero, List.set_cons_succ])
            refine plan_nil ?_
            have HR2 := Lib.hid (setRow_heap wr.drew qb (rowA n (outF l k)) (rowA n (outF l (k + 1))) _ _ HR.out)
            have HO2 := Lib.hid (show ∀ x, x < qb → (wr.drew.setRow qb (rowA n (outF l (k + 1)))).heap[x]? = wc.heap[x]? from fun x hx => (setRow_other wr.drew qb x _ (by omega)).trans (HO.out x hx))
            have HB2 := Lib.hid (show Below w.heap.size w (wr.drew.setRow qb (rowA n (outF l (k + 1)))) from HBE.out.trans ⟨rfl, rfl, rfl, by simp, fun x hx => setRow_other wr.drew qb x _ (by omega)⟩)
            clear y1'' y1
            go_wp2_with fail
            go_roundw
            case rel => exact ⟨k + 1, j + 2, by omega, by go_num, by go_num, HJ2, HR2, HO2, HB2⟩
            case measure => simp [intOf]; omega
          | false =>
            have y1 := (cell_ag (HO.out g hgq)).trans (HFU2.out.no hsb)
            rw [hcn] at y1
            have he : escB c = [c] := by unfold escB; rw [hsb]; rfl
            rw [he] at hjn
            have hjn' : j < n := by simp at hjn; omega
            have b5 : (0 : Int) ≤ j := by omega
            have b6 : (j : Int) < n := by omega
            have k1 : wr.cell? ⟨qb, j, none⟩ = some (bv (outF l k j)) := by rw [cell_of_row wr qb j _ _ _ HR.out, rowA_get _ hjn']
            have z1 := frozen_of_row wr qb j _ _ HR.out
            have HN := Lib.hid (show (wr.setCell ⟨qb, j, none⟩ (.int .u8 (cn : Int))).heap[qb]? = some (.cells (rowA n (outF l (k + 1))) 5 (0, 0)) by
              rw [heap_setCell_same wr qb j _ _ _ HR.out, ← hcn, outF_set l k j n c HJ.out (by rw [HCT.out, he]) hjn'])
            have HJ2 := Lib.hid (show j + 1 = (compT (l.take (k + 1))).length by rw [HCT.out, he, List.length_append, ← HJ.out]; rfl)
            clear hct hjn hc hcl hcn hsb he HR
            go_wp2_with fail
            go_roundw
            case rel => exact ⟨k + 1, j + 1, by omega, by go_num, by go_num, HJ2, HN, Lib.hid (fun x hx => (heap_setCell_other wr _ _ _ (by simp; omega)).trans (HO.out x hx)), Lib.hid (HBE.out.setCell (by simpa using hws) _)⟩
            case measure => simp [intOf]; omega
        · obtain rfl : k = s.size := by omega
          have e : l.take s.size = l := List.take_of_length_le (by rw [HLL.out]; exact Nat.le_refl _)
          have hR := HR.out
          unfold outF at hR
          rw [e] at hR
          have hcn : (compT l).length = n := by rw [compT_len, HLL.out, HNN.out]
          have hcv : (convert 72 9 (.slice (some ⟨qb, 0, none⟩) n n)).run Tryz.prog wr = .ok (.string ⟨(compT l).toArray⟩) wr := by
            have := run_convert_bytes_back (P := Tryz.prog) wr 72 9 5 ⟨qb, 0, none⟩ n (compT l) Tryz.underlying72 Tryz.underlying5 Tryz.underlying9 (fun j hj => by
              rw [Addr.add_mid, Nat.zero_add, cell_of_row wr qb j _ _ _ hR, rowA_get _ (by omega)]
              simp [bv, hj])
            rw [hcn] at this
            exact this
          clear hR hcn e HR
          go_wp2_with fail
          go_ret
          exact ⟨rfl, HBE.out⟩
end Go.Proofs.YtgfijlamhjjecaaGreatDoor


/-
  EdiY7: contract of (*Replacer).Replace at the four signs. No condition beyond those stated.
-/
namespace Go.Proofs.YtgfijlamhjjecaaGreatDoor
open Go.RowKit
theorem TabAt.full {w : World} {B g : Nat} (h : TabAt w B g (DE 0) (DE 0)) : FullAt w g := by
  obtain ⟨C, tv, h⟩ := h; exact ⟨B, C, tv, h⟩
theorem method_repl (a : Addr) (w : World) : (method 457 296 (.pointer (some a)) "Replace").run Tryz.prog w = .ok (257, .pointer (some a)) w := by kernel_rfl
set_option maxRecDepth 100000 in
theorem replace_any (w : World) (rb ob cap : Nat) (r : Value) (s : ByteArray) (hs : s.size ≤ 1048576) (hR : RepAt w rb 0 0 r (.slice (some ⟨ob, 0, none⟩) 8 cap)) (hO : OldAt w ob) (hne : ob ≠ rb) (hcap : 8 ≤ cap) (hc2 : cap ≤ maxLen) :
    Calls Tryz.prog 139 #[.pointer (some ⟨rb, 0, none⟩), .string s] w fun e w' => e = .returned (sv (compT s.data.toList)) ∧ Fr [rb] w w' := by
  have HD := Lib.hid (do_any w rb ob cap r hR hO hne hcap hc2)
  have hm := fun w g => method_repl ⟨g, 0, none⟩ w
  clear hR hO hc2
  go_enter Tryz.func139, Tryz.ntmps139
  go_wp2_with first | (go_at_call 257; refine HS.out.mono ?_; rintro e w2 ⟨rfl, hb2⟩; have HB2 := Lib.hid hb2; clear hb2) | (go_at_call 164; refine HD.out.mono ?_; rintro e w1 ⟨rfl, ⟨g, hr, ht⟩, hf⟩; have HT := Lib.hid ht.full; have HF := Lib.hid hf; have c3 := hr.cell 3; have HS := Lib.hid (bsr_any w1 g s HT.out hs); unfold repV at *; clear hr ht hf)
  go_ret
  exact ⟨rfl, HF.out.then_below HB2.out HF.out.size⟩
end Go.Proofs.YtgfijlamhjjecaaGreatDoor


/-
  EdiV: plain laws of texts of segments: what is printed is read as it was. No condition beyond those stated.
-/
namespace Go.Proofs.YtgfijlamhjjecaaGreatDoor
/-- no byte out of range -/
def okB (c : UInt8) : Prop := 32 ≤ c.toNat ∧ c.toNat ≤ 126
def okP (p : Str) : Prop := p.length ≤ 256 ∧ ∀ c ∈ p, okB c
def okEl (e : List Str) : Prop := e ≠ [] ∧ e.length ≤ 8 ∧ ∀ p ∈ e, okP p
def okT (t : Str) : Prop := t.length = 3 ∧ ∀ c ∈ t, tagB c = true
def okS (s : Seg) : Prop := okT s.tag ∧ s.elems.length ≤ 16 ∧ ∀ e ∈ s.elems, okEl e
def okL (l : List Seg) : Prop := l.length ≤ 64 ∧ ∀ s ∈ l, okS s
theorem badB_iff (c : UInt8) : badB c = false ↔ okB c := by
  unfold badB okB; simp
theorem printE_ok {l : List Seg} : okL l → (printT l).length ≤ 65536 → printE l = (printT l, 0) := by
  intro h hl
  have h1 : argP l = false := by
    unfold argP; rw [List.any_eq_false]; intro s hs
    have := h.2 s hs
    rw [Bool.not_eq_true, Bool.or_eq_false_iff]
    refine ⟨?_, ?_⟩
    · unfold tagBad
      rw [Bool.or_eq_false_iff]
      refine ⟨by simp [this.1.1], ?_⟩
      simp only [Bool.not_eq_false', List.all_eq_true]
      exact this.1.2
    · rw [List.any_eq_false]; intro e he; have := this.2.2 e he
      cases e with
      | nil => exact absurd rfl this.1
      | cons a b => simp
  have h2 : signP l = false := by
    unfold signP; rw [List.any_eq_false]; intro s hs
    rw [Bool.not_eq_true, List.any_eq_false]; intro e he
    rw [Bool.not_eq_true, List.any_eq_false]; intro p hp
    rw [Bool.not_eq_true, List.any_eq_false]; intro c hc
    rw [Bool.not_eq_true]
    exact (badB_iff c).2 ((((h.2 s hs).2.2 e he).2.2 p hp).2 c hc)
  have h3 : longP l = false := by
    unfold longP; rw [Bool.or_eq_false_iff]; refine ⟨by have := h.1; simp; omega, ?_⟩
    rw [List.any_eq_false]; intro s hs
    rw [Bool.not_eq_true, Bool.or_eq_false_iff]; refine ⟨by have := (h.2 s hs).2.1; simp; omega, ?_⟩
    rw [List.any_eq_false]; intro e he
    rw [Bool.not_eq_true, Bool.or_eq_false_iff]; refine ⟨by have := ((h.2 s hs).2.2 e he).2.1; simp; omega, ?_⟩
    rw [List.any_eq_false]; intro p hp
    have := (((h.2 s hs).2.2 e he).2.2 p hp).1
    simp; omega
  unfold printE
  rw [h1, h2, h3]
  simp; omega
/-! ### reading what was printed -/
/-- the rest of an element: components behind the first -/
def restT (cs : List Str) : Str := cs.flatMap fun p => 58 :: compT p
theorem joinB_cons (s : UInt8) (a : Str) (l : List Str) : joinB s (a :: l) = a ++ l.flatMap (fun p => s :: p) := by
  induction l generalizing a with
  | nil => simp [joinB]
  | cons b l ih => rw [joinB, ih b]; simp
theorem elemT_cons (p : Str) (cs : List Str) : elemT (p :: cs) = compT p ++ restT cs := by
  unfold elemT restT
  rw [List.map_cons, joinB_cons, List.flatMap_map]
/-- what stands open: an element's components, the last one by itself -/
inductive Ends (cs : List Str) (p : Str) : List Str → Prop
  | mk : Ends cs p (cs ++ [p])
end Go.Proofs.YtgfijlamhjjecaaGreatDoor


/-
  EdiY8: contracts of the Builder's WriteString, and of join. No condition beyond those stated.
-/
namespace Go.Proofs.YtgfijlamhjjecaaGreatDoor
open Go.RowKit
theorem lies_bld : liesAt Tryz.prog Tryz.prog.depth 203 (2 / Tryz.prog.cellsOf 203) 0 203 1 = true := by kernel_rfl
theorem size_bld : (Tryz.prog.info? 203).map (·.size) = some 2 := by kernel_rfl
set_option maxRecDepth 100000 in
set_option maxHeartbeats 1000000 in
theorem copyCheck_used (b : Nat) (w : World) (h0 : w.cell? ⟨b, 0, none⟩ = some (.pointer (some ⟨b, 0, none⟩))) :
    Calls Tryz.prog 167 #[.pointer (some ⟨b, 0, none⟩)] w fun e w' => e = .returned (.tuple #[]) ∧ w' = w := by
  obtain ⟨j, hj, _⟩ := Option.map_eq_some_iff.1 size_bld
  go_enter Tryz.func167, Tryz.ntmps167
  go_wp2
  rw [Lib.run_neq_ptr_same w _ Tryz.underlying201 hj]
  go_wp2
  go_end0
  exact ⟨rfl, rfl⟩
set_option maxRecDepth 100000 in
set_option maxHeartbeats 1000000 in
theorem copyCheck_fresh (b : Nat) (w : World) (h0 : w.cell? ⟨b, 0, none⟩ = some (.pointer none)) (hsh : w.shape? b = some (203, 2)) (hfz : w.frozen? ⟨b, 0, none⟩ = false) :
    Calls Tryz.prog 167 #[.pointer (some ⟨b, 0, none⟩)] w fun e w' => e = .returned (.tuple #[]) ∧ w' = w.setCell ⟨b, 0, none⟩ (.pointer (some ⟨b, 0, none⟩)) := by
  obtain ⟨j, hj, hjs⟩ := Option.map_eq_some_iff.1 size_bld
  go_enter Tryz.func167, Tryz.ntmps167
  go_wp2
  rw [Lib.run_to_unsafe w ⟨b, 0, none⟩ Tryz.underlying201 Tryz.underlying275 hj (by rw [hjs]; decide) hsh (Nat.zero_lt_succ 1)]
  simp only [Result.andThen]
  rw [Oper.upon_value]
  go_wp2
  rw [run_callFunc_extern Tryz.func185 (by kernel_rfl) (by kernel_rfl) (by kernel_rfl) (e := Extern.AbiNoEscape.same) (by kernel_rfl)]
  rw [Lib.run_noEscape]
  simp only [Result.andThen]
  rw [Oper.upon_value]
  go_wp2
  rw [Lib.run_from_unsafe w ⟨b, 0, none⟩ Tryz.underlying275 Tryz.underlying201 hj hsh lies_bld]
  simp only [Result.andThen]
  rw [Oper.upon_value]
  go_wp2
  go_end0
  exact ⟨rfl, rfl⟩
/-- a Builder in memory, and what it holds -/
def BldAt (w : World) (B b : Nat) (l : Str) : Prop := Lib.IsBuilder 203 5 B b (Lib.byteCells l) w
theorem copyCheck_any (B b : Nat) (bs : List Value) (w : World) (h : Lib.IsBuilder 203 5 B b bs w) :
    Calls Tryz.prog 167 #[.pointer (some ⟨b, 0, none⟩)] w fun e w' => e = .returned (.tuple #[]) ∧ Lib.BuilderAt 203 5 B b (.pointer (some ⟨b, 0, none⟩)) bs w' ∧ Below B w w' := by
  rcases h with h | h
  · refine (copyCheck_fresh b w h.cell0 h.shape h.frozen0).mono ?_
    rintro e w' ⟨rfl, rfl⟩
    exact ⟨rfl, h.used _, (Below.refl _ _).setCell h.1 _⟩
  · refine (copyCheck_used b w h.cell0).mono ?_
    rintro e w' ⟨rfl, rfl⟩
    exact ⟨rfl, h, Below.refl _ _⟩
set_option maxRecDepth 100000 in
set_option maxHeartbeats 2000000 in
theorem writeString_any (B b : Nat) (l : Str) (s : ByteArray) (w : World) (h : BldAt w B b l) (hlen : l.length + s.size ≤ 140737488355328) (hBw : B ≤ w.heap.size) :
    Calls Tryz.prog 141 #[.pointer (some ⟨b, 0, none⟩), .string s] w fun e w' => e = .returned (.tuple #[.int .i64 s.size, .nilIface]) ∧ BldAt w' B b (l ++ s.data.toList) ∧ Below B w w' := by
  obtain ⟨i0, hi, hz0, hz1, hz2⟩ := info_parts einfo_u8
  have hbl : (Lib.byteCells l).length = l.length := Lib.byteCells_length l
  obtain ⟨bs, hbs⟩ : ∃ bs, Lib.byteCells l = bs := ⟨_, rfl⟩
  have HBS := Lib.hid hbs
  unfold BldAt at h ⊢
  rw [hbs] at h hbl
  have hlen' : bs.length + s.size ≤ 140737488355328 := by omega
  have HC := Lib.hid (copyCheck_any B b bs w h)
  clear hbs hbl h hlen
  go_enter Tryz.func141, Tryz.ntmps141
  go_wp2_with (go_at_call 167; refine HC.out.mono ?_)
  rintro e w1 ⟨rfl, h1, hb1⟩
  obtain ⟨hB, v, hbk, hown, hne⟩ := h1
  have c0 : w1.cell? ⟨b, 0, none⟩ = some (.pointer (some ⟨b, 0, none⟩)) := by rw [cell_of_row w1 b 0 _ _ _ hbk]; rfl
  have c1 : w1.cell? ⟨b, 1, none⟩ = some v := by rw [cell_of_row w1 b 1 _ _ _ hbk]; rfl
  go_wp2_with (at_builtin; refine Lib.wpList_append_own_string _ rfl _ _ 72 9 rfl B 5 i0 Tryz.underlying72 Tryz.underlying9 hi hz0 hz1 hz2 _ _ _ rfl hown s rfl ?c3 ?c4 ?c5 ?_)
  case c3 => unfold maxLen; omega
  case c4 => omega
  case c5 => have := hb1.size; omega
  intro v' w2 hown' hgrow _
  have hlt : b < w1.heap.size := (Array.getElem?_eq_some_iff.1 hbk).1
  have hb2 : w2.heap[b]? = some (.cells #[.pointer (some ⟨b, 0, none⟩), v] 203 (0, 0)) := by
    rw [hgrow.block b hlt (fun e => hne e.symm)]
    exact hbk
  have d0 : w2.cell? ⟨b, 0, none⟩ = some (.pointer (some ⟨b, 0, none⟩)) := by rw [cell_of_row w2 b 0 _ _ _ hb2]; rfl
  have d1 : w2.cell? ⟨b, 1, none⟩ = some v := by rw [cell_of_row w2 b 1 _ _ _ hb2]; rfl
  have f1 : w2.frozen? ⟨b, 1, none⟩ = false := frozen_of_row w2 b 1 _ _ hb2
  obtain ⟨ao, n', cap, rfl⟩ : ∃ ao n' cap, v' = .slice ao n' cap := by
    rcases hown'.2 with ⟨hv, _⟩ | ⟨g, cap, cur, hv, _⟩
    · exact ⟨_, _, _, hv⟩
    · exact ⟨_, _, _, hv⟩
  go_wp2
  go_ret2
  refine ⟨rfl, .inr ?_, ?_⟩
  · have hbe : Lib.byteCells (l ++ s.data.toList) = bs ++ Lib.strCells s := by rw [← HBS.out]; simp [Lib.byteCells, Lib.strCells]
    rw [hbe]
    exact Lib.BuilderAt.put (T := 203) (e := 5) hB hb2 (bs' := bs ++ Lib.strCells s) (by simpa [Lib.strCells_length] using hown') (by decide)
  · exact (hb1.grown hgrow (by have := hb1.size; omega) (fun k hk => (hown.lt k hk).1)).setCell (p := ⟨b, 1, none⟩) hB _
theorem joinB_eq (c : UInt8) (xs : List Str) : joinB c xs = Lib.join xs [c] := by
  cases xs with
  | nil => rfl
  | cons a l =>
    rw [joinB_cons, Lib.join_cons, Lib.joinTail, List.flatMap_def]
    rfl
set_option maxRecDepth 100000 in
theorem join_any {S : Nat → Prop} (w : World) (c : UInt8) (v : Value) (xs : List Str) (h : CompsAt S w v xs) (hN : xs.length ≤ 1048576) (hl : (joinB c xs).length ≤ 140737488355328) :
    Calls Tryz.prog 140 #[.string ⟨#[c]⟩, v] w fun e w' => e = .returned (sv (joinB c xs)) ∧ Below w.heap.size w w' := by
  obtain ⟨ao, cap, rfl, h1, h2, h3, h4⟩ := h
  rw [List.length_map] at h1 ⊢
  have HJ : Hid (Calls Tryz.prog 166 #[.slice ao xs.length cap, .string ⟨#[c]⟩] w fun e w' => e = .returned (sv (joinB c xs)) ∧ Below w.heap.size w w') := Lib.hid (by
    cases xs with
    | nil => exact (Tryz.strings_Join_none ao cap ⟨#[c]⟩ w).mono (fun e w' ⟨h, h'⟩ => ⟨h, h' ▸ Below.refl _ _⟩)
    | cons a l =>
      obtain ⟨b, off, rfl, _, hc⟩ := h4 (by simp)
      have hb : b < w.heap.size := cell_lt' (hc 0 (sv a) (by simp))
      have hm : (((a :: l).map fun s => (⟨s.toArray⟩ : ByteArray)).map (·.data.toList)) = a :: l := by rw [List.map_map]; exact List.map_id _
      have := Tryz.strings_Join b off cap ((a :: l).map fun s => ⟨s.toArray⟩) ⟨#[c]⟩ w (fun j x hx => by
        rw [List.getElem?_map, Option.map_eq_some_iff] at hx
        obtain ⟨y, hy, rfl⟩ := hx
        exact hc j (sv y) (by rw [List.getElem?_map, hy]; rfl)) hb (by simp at hN ⊢; omega) (by simpa using h1) (by rw [hm, ← joinB_eq]; exact hl)
      rw [hm, ← joinB_eq, List.length_map] at this
      exact this)
  obtain ⟨J, hJ⟩ : ∃ J, sv (joinB c xs) = J := ⟨_, rfl⟩
  rw [hJ] at HJ ⊢
  clear hJ h3 h4
  go_enter Tryz.func140, Tryz.ntmps140
  go_wp2_with (go_at_call 166; refine HJ.out.mono ?_; rintro e w1 ⟨rfl, hb⟩)
  go_ret
  exact ⟨rfl, hb⟩
end Go.Proofs.YtgfijlamhjjecaaGreatDoor


/-
  EdiZ1: words for the printer: flags by prefix, Clone, Builders that stay. No condition beyond those stated.
-/
namespace Go.Proofs.YtgfijlamhjjecaaGreatDoor
open Go.RowKit
def argE (es : List (List Str)) : Bool := es.any fun e => e.isEmpty
def signC (e : List Str) : Bool := e.any fun p => p.any badB
def signE (es : List (List Str)) : Bool := es.any signC
def longC (e : List Str) : Bool := e.any fun p => decide (256 < p.length)
def longE (es : List (List Str)) : Bool := es.any fun e => decide (8 < e.length) || longC e
def argS (s : Seg) : Bool := tagBad s.tag || argE s.elems
def longS (s : Seg) : Bool := decide (16 < s.elems.length) || longE s.elems
theorem argP_eq (l : List Seg) : argP l = l.any argS := rfl
theorem signP_eq (l : List Seg) : signP l = l.any fun s => signE s.elems := rfl
theorem longP_eq (l : List Seg) : longP l = (decide (64 < l.length) || l.any longS) := rfl
theorem any_take {α : Type} {l : List α} {k : Nat} {x : α} (f : α → Bool) (h : l[k]? = some x) : (l.take (k + 1)).any f = ((l.take k).any f || f x) := by
  rw [List.take_add_one, h]; simp [List.any_append]
theorem printT_take {l : List Seg} {k : Nat} {s : Seg} (h : l[k]? = some s) : printT (l.take (k + 1)) = printT (l.take k) ++ segT s := by
  rw [List.take_add_one, h]; simp [printT]
/-- the words of a segment, joined -/
theorem joinB_words (t : Str) (es : List (List Str)) : joinB 43 (t :: es.map elemT) ++ [39] = segT ⟨t, es⟩ := by
  unfold segT
  rw [joinB_cons, List.flatMap_map]
theorem map_take_succ {α β : Type} {l : List α} {k : Nat} {x : α} (f : α → β) (h : l[k]? = some x) : (l.take (k + 1)).map f = (l.take k).map f ++ [f x] := by
  rw [List.take_add_one, h]; simp
/-- parts when i of them are done -/
def partsL (e : List Str) (i : Nat) : List Str := (e.take i).map compT ++ e.drop i
theorem partsL_all (e : List Str) : partsL e e.length = e.map compT := by unfold partsL; rw [List.take_length, List.drop_length, List.append_nil]
theorem partsL_len (e : List Str) (i : Nat) : (partsL e i).length = e.length := by unfold partsL; rw [List.length_append, List.length_map, ← List.length_append, List.take_append_drop]
theorem partsL_get {e : List Str} {i : Nat} {p : Str} (h : e[i]? = some p) : (partsL e i)[i]? = some p := by
  have hi : i < e.length := (List.getElem?_eq_some_iff.1 h).1
  unfold partsL
  rw [List.getElem?_append_right (by simp; omega), List.getElem?_drop]
  simp
  rw [show i + (i - min i e.length) = i by omega]; exact h
theorem partsL_set {e : List Str} {i : Nat} {p : Str} (h : e[i]? = some p) : (partsL e i).set i (compT p) = partsL e (i + 1) := by
  have hi : i < e.length := (List.getElem?_eq_some_iff.1 h).1
  have hd : e.drop i = p :: e.drop (i + 1) := by
    obtain ⟨_, he⟩ := List.getElem?_eq_some_iff.1 h
    rw [List.drop_eq_getElem_cons hi, he]
  unfold partsL
  rw [map_take_succ compT h, List.set_append_right _ _ (by simp; omega), hd]
  simp [Nat.min_eq_left (Nat.le_of_lt hi)]
theorem BldAt.cong {w w' : World} {B b : Nat} {l : Str} (h : BldAt w B b l) (e : ∀ (k : Nat) (C : Array Value) (f : Nat × Nat) (t : TypeId), w.heap[k]? = some (.cells C t f) → t ≠ 9 → w'.heap[k]? = w.heap[k]?) : BldAt w' B b l := by
  have H : ∀ p, Lib.BuilderAt 203 5 B b p (Lib.byteCells l) w → Lib.BuilderAt 203 5 B b p (Lib.byteCells l) w' := fun p ⟨hB, v, hb, ho, hn⟩ => by
    refine ⟨hB, v, (e b _ _ _ hb (by decide)).trans hb, own_cong ho (fun k hk => ?_), hn⟩
    obtain ⟨C, hC, _⟩ := own_ty ho hk
    exact e k _ _ _ hC (by decide)
  rcases h with h | h
  · exact .inl (H _ h)
  · exact .inr (H _ h)
theorem BldAt.cong' {w w' : World} {B b : Nat} {l : Str} (h : BldAt w B b l) (e : ∀ k, k < w.heap.size → w'.heap[k]? = w.heap[k]?) : BldAt w' B b l := BldAt.cong h fun k _ _ _ hk _ => e k (Array.getElem?_eq_some_iff.1 hk).1
/-- slices.Clone of components -/
theorem clone_any {S : Nat → Prop} (w : World) (v : Value) (e : List Str) (h : CompsAt S w v e) (hn : e.length ≤ 1048576) :
    Calls Tryz.prog 135 #[v] w fun r w' => ∃ v', r = .returned v' ∧ w'.ownsRow w.heap.size 9 1 v' e.length (e.map sv) ∧ Below w.heap.size w w' := by
  obtain ⟨ao, cap, rfl, h1, h2, h3, h4⟩ := h
  rw [List.length_map] at h1 ⊢
  cases ao with
  | none =>
    have h0 : e.length = 0 := by have := h3 rfl; omega
    refine (Tryz.slices_Clone_string_nil e.length cap w).mono fun r w' ⟨h, h'⟩ => ?_
    subst h'
    rw [h0, List.length_eq_zero_iff.1 h0]
    exact ⟨_, h, World.ownsRow_nil _ _ _ _, Below.refl _ _⟩
  | some a =>
    cases he : e with
    | nil =>
      refine (Tryz.slices_Clone_string_zero a cap w).mono fun r w' ⟨v', h, ho, _, hb⟩ => ?_
      exact ⟨v', h, ho, hb⟩
    | cons p q =>
      obtain ⟨b, off, hab, _, hc⟩ := h4 (by rw [he]; simp)
      cases hab
      rw [← he]
      have := Tryz.slices_Clone_string b off e.length cap (e.map fun s => ⟨s.toArray⟩) w (by rw [List.length_map]; exact Nat.le_refl _) (by omega) (fun j hj => by
        rw [List.length_map] at hj
        have hx : e[j]? = some e[j] := List.getElem?_eq_getElem hj
        rw [hc j (sv e[j]) (by rw [List.getElem?_map, hx]; rfl), List.getD_eq_getElem?_getD, List.getElem?_map, hx]; rfl)
      refine this.mono fun r w' ⟨v', h, ho, _, hb⟩ => ⟨v', h, ?_, hb⟩
      rw [List.take_of_length_le (by rw [List.length_map]; exact Nat.le_refl _), List.map_map] at ho
      exact ho
end Go.Proofs.YtgfijlamhjjecaaGreatDoor


/-
  EdiA2: reading of segments in memory; contract of heavy. No condition beyond those stated.
-/
namespace Go.Proofs.YtgfijlamhjjecaaGreatDoor
open Go.RowKit
section
variable {S : Nat → Prop} {w : World}
theorem SegsAt.form {v : Value} {l : List Seg} (h : SegsAt S w v l) : ∃ ao cap, v = .slice ao l.length cap ∧ l.length ≤ cap ∧ cap ≤ maxLen := by
  obtain ⟨ao, cap, xs, rfl, h1, h2, _⟩ := h; exact ⟨ao, cap, rfl, h1, h2⟩
theorem SegsAt.get {ao : Option Addr} {n cap : Nat} {l : List Seg} (h : SegsAt S w (.slice ao n cap) l) {k : Nat} {s : Seg} (hk : l[k]? = some s) : ∃ b off x, ao = some ⟨b, off, none⟩ ∧ S b ∧ w.cell? ⟨b, off + k * 2, none⟩ = some (sv s.tag) ∧ w.cell? ⟨b, off + k * 2 + 1, none⟩ = some x ∧ ElemsAt S w x s.elems := by
  obtain ⟨_, _, xs, e, h1, h2, h3, h4, h5, h6⟩ := h
  cases e
  obtain ⟨b, off, rfl, hS, h7⟩ := h6 (by intro e; rw [e] at hk; simp at hk)
  have hlt : k < xs.length := by rw [h4]; exact (List.getElem?_eq_some_iff.1 hk).1
  have hx := List.getElem?_eq_getElem hlt
  obtain ⟨a1, a2⟩ := h7 k s _ hk hx
  exact ⟨b, off, _, rfl, hS, a1, a2, h5 k s _ hk hx⟩
theorem ElemsAt.form {v : Value} {l : List (List Str)} (h : ElemsAt S w v l) : ∃ ao cap, v = .slice ao l.length cap ∧ l.length ≤ cap ∧ cap ≤ maxLen := by
  obtain ⟨xs, ⟨ao, cap, rfl, h1, h2, _⟩, h3, _⟩ := h; exact ⟨ao, cap, by rw [h3], by omega, h2⟩
theorem ElemsAt.get {ao : Option Addr} {n cap : Nat} {l : List (List Str)} (h : ElemsAt S w (.slice ao n cap) l) {k : Nat} {e : List Str} (hk : l[k]? = some e) : ∃ b off x, ao = some ⟨b, off, none⟩ ∧ S b ∧ w.cell? ⟨b, off + k, none⟩ = some x ∧ CompsAt S w x e := by
  obtain ⟨xs, ⟨_, _, e, h1, h2, h3, h4⟩, h5, h6⟩ := h
  cases e
  have hlt : k < xs.length := by rw [h5]; exact (List.getElem?_eq_some_iff.1 hk).1
  have hx := List.getElem?_eq_getElem hlt
  obtain ⟨b, off, rfl, hS, h7⟩ := h4 (by rintro rfl; simp at hlt)
  exact ⟨b, off, _, rfl, hS, h7 k _ hx, h6 k e _ hk hx⟩
theorem CompsAt.form {v : Value} {l : List Str} (h : CompsAt S w v l) : ∃ ao cap, v = .slice ao l.length cap ∧ l.length ≤ cap ∧ cap ≤ maxLen := by
  obtain ⟨ao, cap, rfl, h1, h2, _⟩ := h
  rw [List.length_map] at h1
  exact ⟨ao, cap, by rw [List.length_map], h1, h2⟩
theorem CompsAt.get {ao : Option Addr} {n cap : Nat} {l : List Str} (h : CompsAt S w (.slice ao n cap) l) {k : Nat} {p : Str} (hk : l[k]? = some p) : ∃ b off, ao = some ⟨b, off, none⟩ ∧ S b ∧ w.cell? ⟨b, off + k, none⟩ = some (sv p) := by
  obtain ⟨_, _, e, h1, h2, h3, h4⟩ := h
  cases e
  obtain ⟨b, off, rfl, hS, h7⟩ := h4 (by intro e; rw [List.map_eq_nil_iff] at e; rw [e] at hk; simp at hk)
  exact ⟨b, off, rfl, hS, h7 k _ (by rw [List.getElem?_map, hk]; rfl)⟩
end
def bytesC (e : List Str) : Nat := (e.map List.length).sum
def bytesE (es : List (List Str)) : Nat := (es.map bytesC).sum
def bytesL (l : List Seg) : Nat := (l.map fun s => bytesE s.elems).sum
/-- what is not heavy -/
structure LightS (l : List Seg) : Prop where
  n : l.length ≤ 80
  seg : ∀ s ∈ l, s.tag.length ≤ 300 ∧ s.elems.length ≤ 40
  el : ∀ s ∈ l, ∀ e ∈ s.elems, e.length ≤ 40
  bytes : bytesL l ≤ 3000
theorem joinT_le (e : List Str) : (elemT e).length ≤ 2 * bytesC e + e.length := by
  have h1 : ∀ l : List Str, (l.flatMap fun p => 58 :: compT p).length ≤ 2 * bytesC l + l.length := fun l => by
    induction l with
    | nil => simp [bytesC]
    | cons a l ih =>
      have := compT_len a
      have := sgN_le a
      simp only [List.flatMap_cons, List.length_append, List.length_cons, bytesC, List.map_cons, List.sum_cons] at ih ⊢
      omega
  cases e with
  | nil => simp [elemT, joinB]
  | cons p l =>
    have h := h1 l
    have := compT_len p
    have := sgN_le p
    rw [elemT_cons, List.length_append]
    unfold restT
    simp only [bytesC, List.map_cons, List.sum_cons, List.length_cons] at h ⊢
    omega
theorem segT_le (s : Seg) (h1 : ∀ e ∈ s.elems, e.length ≤ 40) : (segT s).length ≤ s.tag.length + 1 + 41 * s.elems.length + 2 * bytesE s.elems := by
  have key : ∀ es : List (List Str), (∀ e ∈ es, e.length ≤ 40) → (es.flatMap fun e => 43 :: elemT e).length ≤ 41 * es.length + 2 * bytesE es := fun es => by
    induction es with
    | nil => intro _; simp
    | cons a l ih =>
      intro h
      have h2 := ih fun e he => h e (List.mem_cons_of_mem _ he)
      have h3 := joinT_le a
      have h4 := h a List.mem_cons_self
      simp only [List.flatMap_cons, List.length_append, List.length_cons, bytesE, List.map_cons, List.sum_cons] at h2 ⊢
      omega
  have := key s.elems h1
  unfold segT
  simp only [List.length_append, List.length_cons, List.length_nil]
  omega
theorem LightS.print {l : List Seg} (h : LightS l) : (printT l).length ≤ 1048576 := by
  have key : ∀ m : List Seg, (∀ s ∈ m, s.tag.length ≤ 300 ∧ s.elems.length ≤ 40) → (∀ s ∈ m, ∀ e ∈ s.elems, e.length ≤ 40) → (printT m).length ≤ m.length * 1941 + 2 * bytesL m := fun m => by
    induction m with
    | nil => intro _ _; simp [printT]
    | cons a r ih =>
      intro h1 h2
      have h3 := ih (fun s hs => h1 s (List.mem_cons_of_mem _ hs)) (fun s hs => h2 s (List.mem_cons_of_mem _ hs))
      have h4 := segT_le a (h2 a List.mem_cons_self)
      have h5 := h1 a List.mem_cons_self
      simp only [printT, bytesL, List.flatMap_cons, List.length_append, List.map_cons, List.sum_cons, List.length_cons] at h3 ⊢
      omega
  have := key l h.seg h.el
  have := h.n
  have := h.bytes
  omega
def HeavyS (l : List Seg) (e : Ending) : Prop := ∃ b, e = .returned (.bool b) ∧ (b = false → LightS l)
theorem HeavyS.yes (l : List Seg) : HeavyS l (.returned (.bool true)) := ⟨true, rfl, fun h => by cases h⟩
end Go.Proofs.YtgfijlamhjjecaaGreatDoor


/-
  EdiW: plain laws of texts of segments: what was read is printed as the text, texts one behind the other, cuts, lengths. No condition beyond those stated.
-/
namespace Go.Proofs.YtgfijlamhjjecaaGreatDoor
/-! ### what was read, told again -/
/-- the text that a state stands for -/
def curT (t : Str) (es : List (List Str)) (cs : List Str) (p : Str) : Str := t ++ (es ++ [cs ++ [p]]).flatMap (fun e => 43 :: elemT e)
def textE : EC → Str
  | .btw l => printT l
  | .tag l t => printT l ++ t
  | .bhd l t => printT l ++ t
  | .cmp l t es cs p => printT l ++ curT t es cs p
  | .rel l t es cs p => printT l ++ curT t es cs p ++ [63]
/-- what a state has taken is in order -/
def okE : EC → Prop
  | .btw l => okL l
  | .tag l t => okL l ∧ l.length < 64 ∧ t.length < 3 ∧ ∀ c ∈ t, tagB c = true
  | .bhd l t => okL l ∧ l.length < 64 ∧ okT t
  | .cmp l t es cs p => okL l ∧ l.length < 64 ∧ okT t ∧ es.length < 16 ∧ (∀ e ∈ es, okEl e) ∧ cs.length < 8 ∧ (∀ q ∈ cs, okP q) ∧ okP p
  | .rel l t es cs p => okL l ∧ l.length < 64 ∧ okT t ∧ es.length < 16 ∧ (∀ e ∈ es, okEl e) ∧ cs.length < 8 ∧ (∀ q ∈ cs, okP q) ∧ okP p
theorem joinB_snoc (s : UInt8) : ∀ (l : List Str) (a : Str), l ≠ [] → joinB s (l ++ [a]) = joinB s l ++ s :: a
  | [], _, h => absurd rfl h
  | [x], a, _ => by simp [joinB]
  | x :: y :: l, a, _ => by
    have ih := joinB_snoc s (y :: l) a (by simp)
    simp only [List.cons_append] at ih ⊢
    rw [joinB, ih, joinB, List.append_assoc]; rfl
theorem elemT_snoc (cs : List Str) (p : Str) (h : cs ≠ []) : elemT (cs ++ [p]) = elemT cs ++ 58 :: compT p := by
  unfold elemT
  rw [List.map_append, List.map_singleton, joinB_snoc _ _ _ (by simpa using h)]
theorem compT_snoc (p : Str) (c : UInt8) : compT (p ++ [c]) = compT p ++ escB c := by simp [compT]
theorem elemT_put (cs : List Str) (p : Str) (c : UInt8) : elemT (cs ++ [p ++ [c]]) = elemT (cs ++ [p]) ++ escB c := by
  by_cases h : cs = []
  · subst h; simp [elemT, joinB, compT_snoc]
  · rw [elemT_snoc _ _ h, elemT_snoc _ _ h, compT_snoc]; simp
theorem curT_put (t : Str) (es : List (List Str)) (cs : List Str) (p : Str) (c : UInt8) : curT t es cs (p ++ [c]) = curT t es cs p ++ escB c := by
  unfold curT
  rw [List.flatMap_append, List.flatMap_append, List.flatMap_singleton, List.flatMap_singleton, elemT_put]; simp
theorem curT_comp (t : Str) (es : List (List Str)) (cs : List Str) (p : Str) : curT t es (cs ++ [p]) [] = curT t es cs p ++ [58] := by
  unfold curT
  rw [List.flatMap_append, List.flatMap_append, List.flatMap_singleton, List.flatMap_singleton, elemT_snoc _ _ (by simp)]; simp [compT]
theorem curT_elem (t : Str) (es : List (List Str)) (cs : List Str) (p : Str) : curT t (es ++ [cs ++ [p]]) [] [] = curT t es cs p ++ [43] := by
  unfold curT
  rw [List.flatMap_append]; simp [elemT, joinB, compT]
theorem printT_snoc (l : List Seg) (s : Seg) : printT (l ++ [s]) = printT l ++ segT s := by simp [printT]
theorem okP_put {p : Str} {c : UInt8} (h : okP p) (hc : okB c) (hl : p.length ≠ 256) : okP (p ++ [c]) := by
  refine ⟨by have := h.1; simp; omega, fun x hx => ?_⟩
  rw [List.mem_append, List.mem_singleton] at hx
  rcases hx with hx | rfl
  · exact h.2 x hx
  · exact hc
theorem okL_snoc {l : List Seg} {s : Seg} (h : okL l) (hl : l.length < 64) (hs : okS s) : okL (l ++ [s]) := by
  refine ⟨by simp; omega, fun x hx => ?_⟩
  rw [List.mem_append, List.mem_singleton] at hx
  rcases hx with hx | rfl
  · exact h.2 x hx
  · exact hs
theorem mem_snoc {α : Type} {P : α → Prop} {l : List α} {a : α} (h : ∀ x ∈ l, P x) (ha : P a) : ∀ x ∈ l ++ [a], P x := fun x hx => by
  rw [List.mem_append, List.mem_singleton] at hx
  rcases hx with hx | rfl
  · exact h x hx
  · exact ha
theorem okEl_snoc {cs : List Str} {p : Str} (h1 : cs.length < 8) (h2 : ∀ q ∈ cs, okP q) (h3 : okP p) : okEl (cs ++ [p]) := ⟨by simp, by simp; omega, mem_snoc h2 h3⟩
theorem okP_nil : okP [] := ⟨by simp, by simp⟩
theorem tagS_text {l : List Seg} {t : Str} {c : UInt8} {s : EC} (h : tagS l t c = .ok s) (hl : okL l) (hn : l.length < 64) (ht : t.length < 3) (hc : ∀ x ∈ t, tagB x = true) : textE s = printT l ++ t ++ [c] ∧ okE s := by
  unfold tagS at h
  split at h
  · cases h
  · rename_i hb
    rw [Bool.not_eq_false] at hb
    split at h
    · cases h; exact ⟨by simp [textE], hl, hn, by simp; omega, mem_snoc hc hb⟩
    · cases h; exact ⟨by simp [textE], hl, hn, by simp; omega, mem_snoc hc hb⟩
theorem putS_text {l : List Seg} {t : Str} {es : List (List Str)} {cs : List Str} {p : Str} {c : UInt8} {s : EC} (h : putS l t es cs p c = .ok s) (ho : okE (.cmp l t es cs p)) (hc : okB c) : textE s = printT l ++ curT t es cs p ++ escB c ∧ okE s := by
  unfold putS at h
  obtain ⟨h1, h2, h3, h4, h5, h6, h7, h8⟩ := ho
  split at h
  · cases h
  · cases h
    exact ⟨by simp [textE, curT_put], h1, h2, h3, h4, h5, h6, h7, okP_put h8 hc (by assumption)⟩
theorem signB_ok {c : UInt8} (h : signB c = true) : okB c := by
  unfold signB at h
  simp only [Bool.or_eq_true, beq_iff_eq] at h
  unfold okB
  rcases h with ((rfl | rfl) | rfl) | rfl <;> decide
theorem signB_no {c : UInt8} (h : signB c = true) (h1 : c ≠ 63) (h2 : c ≠ 39) (h3 : c ≠ 43) : c = 58 := by
  unfold signB at h
  simp only [Bool.or_eq_true, beq_iff_eq] at h
  rcases h with ((rfl | rfl) | rfl) | rfl
  · exact absurd rfl h3
  · rfl
  · exact absurd rfl h2
  · exact absurd rfl h1
theorem step_text {s s' : EC} {c : UInt8} (h : stepE s c = .ok s') (ho : okE s) : textE s' = textE s ++ (if c = 10 then [] else [c]) ∧ okE s' := by
  cases s with
  | btw l =>
    simp only [stepE] at h
    split at h
    · rename_i h10
      cases h
      rw [if_pos h10.1]; exact ⟨by simp, ho⟩
    · split at h
      · cases h
      · have hn : l.length < 64 := by have := ho.1; omega
        have hb : c ≠ 10 := by
          rintro rfl
          unfold tagS at h
          rw [if_pos (by decide)] at h
          cases h
        obtain ⟨e1, e2⟩ := tagS_text h ho hn (by simp) (by simp)
        rw [if_neg hb]
        exact ⟨by rw [e1]; simp [textE], e2⟩
  | tag l t =>
    obtain ⟨h1, h2, h3, h4⟩ := ho
    have hb : c ≠ 10 := by
      rintro rfl
      simp only [stepE] at h
      unfold tagS at h
      rw [if_pos (by decide)] at h
      cases h
    rw [if_neg hb]
    exact tagS_text h h1 h2 h3 h4
  | bhd l t =>
    obtain ⟨h1, h2, h3⟩ := ho
    simp only [stepE] at h
    split at h
    · rename_i hc
      cases h
      subst hc
      rw [if_neg (by decide)]
      exact ⟨by simp [textE, printT_snoc, segT], okL_snoc h1 h2 ⟨h3, by simp, by simp⟩⟩
    · split at h
      · rename_i hc
        cases h
        subst hc
        rw [if_neg (by decide)]
        exact ⟨by simp [textE, curT, elemT, joinB, compT], h1, h2, h3, by simp, by simp, by simp, by simp, okP_nil⟩
      · cases h
  | cmp l t es cs p =>
    have ho' := ho
    obtain ⟨h1, h2, h3, h4, h5, h6, h7, h8⟩ := ho
    simp only [stepE] at h
    split at h
    · rename_i hc
      cases h; subst hc
      rw [if_neg (by decide)]
      exact ⟨rfl, ho'⟩
    · rename_i h63
      split at h
      · rename_i hs
        have hb : c ≠ 10 := by rintro rfl; exact absurd hs (by decide)
        rw [if_neg hb]
        unfold signS at h
        split at h
        · rename_i hc
          cases h; subst hc
          exact ⟨by simp [textE, printT_snoc, segT, curT], okL_snoc h1 h2 ⟨h3, by simp; omega, mem_snoc h5 (okEl_snoc h6 h7 h8)⟩⟩
        · rename_i h39
          split at h
          · rename_i hc
            subst hc
            split at h
            · cases h
            · cases h
              exact ⟨by simp [textE, curT_elem], h1, h2, h3, by simp; omega, mem_snoc h5 (okEl_snoc h6 h7 h8), by simp, by simp, okP_nil⟩
          · rename_i h43
            have := signB_no hs h63 h39 h43
            subst this
            split at h
            · cases h
            · cases h
              exact ⟨by simp [textE, curT_comp], h1, h2, h3, h4, h5, by simp; omega, mem_snoc h7 h8, okP_nil⟩
      · rename_i hs
        split at h
        · cases h
        · rename_i hr
          rw [Bool.not_eq_true] at hs
          have hb : c ≠ 10 := by rintro rfl; exact hr (by decide)
          rw [if_neg hb]
          obtain ⟨e1, e2⟩ := putS_text h ho' ⟨by omega, by omega⟩
          refine ⟨?_, e2⟩
          rw [e1]
          unfold escB
          rw [hs]; rfl
  | rel l t es cs p =>
    simp only [stepE] at h
    split at h
    · rename_i hs
      have hb : c ≠ 10 := by rintro rfl; exact absurd hs (by decide)
      rw [if_neg hb]
      obtain ⟨e1, e2⟩ := putS_text h ho (signB_ok hs)
      refine ⟨?_, e2⟩
      rw [e1]
      unfold escB
      rw [hs]; simp [textE]
    · cases h
def no10 (t : Str) : Str := t.filter (fun c => c != 10)
theorem run_text : ∀ (t : Str) (s s' : EC) (i : Nat), runE s i t = .ok s' → okE s → textE s' = textE s ++ no10 t ∧ okE s'
  | [], s, s', i, h, ho => by simp only [runE, EO.ok.injEq] at h; subst h; exact ⟨by simp [no10], ho⟩
  | c :: t, s, s', i, h, ho => by
    simp only [runE] at h
    cases hs : stepE s c with
    | err k => rw [hs] at h; cases h
    | ok s1 =>
      rw [hs] at h
      obtain ⟨e1, e2⟩ := step_text hs ho
      obtain ⟨e3, e4⟩ := run_text t s1 s' (i + 1) h e2
      refine ⟨?_, e4⟩
      rw [e3, e1, List.append_assoc]
      congr 1
      unfold no10
      rw [List.filter_cons]
      by_cases hc : c = 10
      · subst hc; simp
      · simp [hc]
theorem parse_ok {t : Str} {m : List Seg} {at_ : Nat} (h : parseE t = (m, at_, 0)) (h' : t.length ≤ 65536) : at_ = 0 ∧ runE (.btw []) 0 t = .ok (.btw m) := by
  unfold parseE at h
  rw [if_neg (by omega)] at h
  split at h
  · rename_i i k hr
    injection h with h1 h2; injection h2 with h2 h3
    subst h3
    exfalso
    have : ∀ (t : Str) (s : EC) (i j : Nat), runE s i t ≠ .err j 0 := by
      intro t
      induction t with
      | nil => intro s i j; simp [runE]
      | cons c t ih =>
        intro s i j h
        simp only [runE] at h
        cases hs : stepE s c with
        | ok s1 => rw [hs] at h; exact ih _ _ _ h
        | err k =>
          rw [hs] at h
          simp only [EO.err.injEq] at h
          obtain ⟨_, rfl⟩ := h
          have hT : ∀ l t, tagS l t c ≠ .err 0 := fun l t h => by
            unfold tagS at h; split at h
            · cases h
            · split at h <;> cases h
          have hP : ∀ l t es cs p, putS l t es cs p c ≠ .err 0 := fun l t es cs p h => by
            unfold putS at h; split at h <;> cases h
          cases s with
          | btw l => simp only [stepE] at hs; split at hs; cases hs; split at hs; cases hs; exact hT _ _ hs
          | tag l t => exact hT _ _ hs
          | bhd l t => simp only [stepE] at hs; split at hs; cases hs; split at hs <;> cases hs
          | cmp l t es cs p =>
            simp only [stepE, signS] at hs
            split at hs; cases hs; split at hs
            · split at hs; cases hs; split at hs
              · split at hs <;> cases hs
              · split at hs <;> cases hs
            · split at hs; cases hs; exact hP _ _ _ _ _ hs
          | rel l t es cs p => simp only [stepE] at hs; split at hs; exact hP _ _ _ _ _ hs; cases hs
    exact this _ _ _ _ hr
  · rename_i l hr
    injection h with h1 h2; injection h2 with h2 h3
    subst h1
    exact ⟨h2.symm, hr⟩
  · injection h with h1 h2; injection h2 with h2 h3; cases h3
theorem okE_start : okE (.btw []) := ⟨by simp, by simp⟩
theorem no10_le (t : Str) : (no10 t).length ≤ t.length := List.length_filter_le _ _
/-- BACK AND THERE -/
theorem print_parse {t : Str} {m : List Seg} {at_ : Nat} (h : parseE t = (m, at_, 0)) (h' : t.length ≤ 65536) : printE m = (no10 t, 0) ∧ okL m := by
  obtain ⟨_, hr⟩ := parse_ok h h'
  obtain ⟨e1, e2⟩ := run_text t _ _ 0 hr okE_start
  have e3 : printT m = no10 t := e1
  have := no10_le t
  rw [printE_ok e2 (by rw [e3]; omega), e3]
  exact ⟨rfl, e2⟩
/-! ### cuts -/
theorem runE_err_lt : ∀ (t : Str) (s : EC) (i j : Nat) (k : Int), runE s i t = .err j k → i ≤ j ∧ j < i + t.length ∧ ∃ s', runE s i (t.take (j - i)) = .ok s'
  | [], s, i, j, k, h => by simp [runE] at h
  | c :: t, s, i, j, k, h => by
    simp only [runE] at h
    cases hs : stepE s c with
    | err k' =>
      rw [hs] at h
      simp only [EO.err.injEq] at h
      obtain ⟨rfl, rfl⟩ := h
      exact ⟨Nat.le_refl _, by simp, s, by simp [runE]⟩
    | ok s1 =>
      rw [hs] at h
      obtain ⟨h1, h2, s', h3⟩ := runE_err_lt t s1 (i + 1) j k h
      refine ⟨by omega, by simp; omega, s', ?_⟩
      rw [show j - i = (j - (i + 1)) + 1 by omega, List.take_succ_cons]
      simp only [runE, hs]
      exact h3
theorem step_err31 {s : EC} {c : UInt8} {k : Int} (h : stepE s c = .err k) : k ≠ 31 ∧ k ≠ 0 := by
  have hT : ∀ l t, tagS l t c = .err k → k ≠ 31 ∧ k ≠ 0 := fun l t h => by
    unfold tagS at h; split at h
    · cases h; decide
    · split at h <;> cases h
  have hP : ∀ l t es cs p, putS l t es cs p c = .err k → k ≠ 31 ∧ k ≠ 0 := fun l t es cs p h => by
    unfold putS at h; split at h
    · cases h; decide
    · cases h
  cases s with
  | btw l =>
    simp only [stepE] at h; split at h
    · cases h
    · split at h
      · cases h; decide
      · exact hT _ _ h
  | tag l t => exact hT _ _ h
  | bhd l t =>
    simp only [stepE] at h; split at h
    · cases h
    · split at h
      · cases h
      · cases h; decide
  | cmp l t es cs p =>
    simp only [stepE, signS] at h
    split at h
    · cases h
    · split at h
      · split at h
        · cases h
        · split at h
          · split at h
            · cases h; decide
            · cases h
          · split at h
            · cases h; decide
            · cases h
      · split at h
        · cases h; decide
        · exact hP _ _ _ _ _ h
  | rel l t es cs p =>
    simp only [stepE] at h; split at h
    · exact hP _ _ _ _ _ h
    · cases h; decide
theorem runE_err31 : ∀ (t : Str) (s : EC) (i j : Nat) (k : Int), runE s i t = .err j k → k ≠ 31 ∧ k ≠ 0
  | [], s, i, j, k, h => by simp [runE] at h
  | c :: t, s, i, j, k, h => by
    simp only [runE] at h
    cases hs : stepE s c with
    | err k' =>
      rw [hs] at h
      simp only [EO.err.injEq] at h
      obtain ⟨rfl, rfl⟩ := h
      exact step_err31 hs
    | ok s1 => rw [hs] at h; exact runE_err31 t s1 (i + 1) j k h
/-- an error: its place, and what comes of the text up to it -/
theorem parse_cut {t : Str} {m : List Seg} {at_ : Nat} {k : Int} (h : parseE t = (m, at_, k)) (h' : t.length ≤ 65536) (hk : k ≠ 0) : at_ ≤ t.length ∧ (k = 31 ↔ at_ = t.length) ∧ m = [] ∧
    ((∃ m', parseE (t.take at_) = (m', 0, 0)) ∨ parseE (t.take at_) = ([], at_, 31)) := by
  have hfin : ∀ s, runE (.btw []) 0 (t.take at_) = .ok s → at_ ≤ t.length → ((∃ m', parseE (t.take at_) = (m', 0, 0)) ∨ parseE (t.take at_) = ([], at_, 31)) := fun s hs hle => by
    have hlen : (t.take at_).length = at_ := by simp; omega
    unfold parseE
    rw [if_neg (by omega), hs, hlen]
    cases s with
    | btw l => exact .inl ⟨l, rfl⟩
    | tag l t => exact .inr rfl
    | bhd l t => exact .inr rfl
    | cmp l t es cs p => exact .inr rfl
    | rel l t es cs p => exact .inr rfl
  unfold parseE at h
  rw [if_neg (by omega)] at h
  split at h
  · rename_i i k' hr
    injection h with h1 h2; injection h2 with h2 h3
    subst h2; subst h3
    obtain ⟨a1, a2, s, a3⟩ := runE_err_lt _ _ _ _ _ hr
    rw [Nat.sub_zero] at a3
    obtain ⟨b1, b2⟩ := runE_err31 _ _ _ _ _ hr
    exact ⟨by omega, ⟨fun e => absurd e b1, fun e => by omega⟩, h1.symm, hfin s a3 (by omega)⟩
  · injection h with h1 h2; injection h2 with h2 h3
    exact absurd h3.symm hk
  · rename_i s hs hr
    injection h with h1 h2; injection h2 with h2 h3
    subst h2; subst h3
    exact ⟨Nat.le_refl _, ⟨fun _ => rfl, fun _ => rfl⟩, h1.symm, hfin s (by rw [List.take_length]; exact hr) (Nat.le_refl _)⟩
/-! ### texts one behind the other -/
end Go.Proofs.YtgfijlamhjjecaaGreatDoor


/-
  WrapP: numbers in decimal, plain words and laws. No condition.
-/
namespace Go.Proofs.YtgfijlamhjjecaaGreatDoor
/-- the digits of a number -/
abbrev decT (v : Nat) : Str := Lib.decDigits v
/-- a digit -/
def digB (c : UInt8) : Bool := decide (48 ≤ c.toNat) && decide (c.toNat ≤ 57)
/-- what digits spell, behind what others have spelt; none: no digit, or too great for 64 bits -/
def valW : Nat → Str → Option Nat
  | v, [] => some v
  | v, c :: r => if digB c then (if v * 10 + (c.toNat - 48) < 18446744073709551616 then valW (v * 10 + (c.toNat - 48)) r else none) else none
/-- a number's text -/
def numW (s : Str) : Option Nat := match s with
  | [] => none
  | c :: r => if c = 48 ∧ r ≠ [] then none else valW 0 (c :: r)
theorem valW_append : ∀ (a b : Str) (v : Nat), valW v (a ++ b) = (valW v a).bind fun u => valW u b
  | [], b, v => rfl
  | c :: a, b, v => by
    simp only [List.cons_append, valW]
    split
    · split
      · exact valW_append a b _
      · rfl
    · rfl
theorem digB_of {d : Nat} (h : d < 10) : digB (UInt8.ofNat (48 + d)) = true ∧ (UInt8.ofNat (48 + d)).toNat = 48 + d := by
  have e : (UInt8.ofNat (48 + d)).toNat = 48 + d := by rw [UInt8.toNat_ofNat']; omega
  refine ⟨?_, e⟩
  unfold digB; rw [e]; simp; omega
theorem dec_small {v : Nat} (h : v < 10) : decT v = [UInt8.ofNat (48 + v)] := Lib.decDigits_one h
theorem dec_step {v : Nat} (h : ¬ v < 10) : decT v = decT (v / 10) ++ [UInt8.ofNat (48 + v % 10)] := by
  show Lib.decDigits v = _
  rw [Lib.decDigits, dif_neg h]
theorem dec_ne (v : Nat) : decT v ≠ [] := by
  by_cases h : v < 10
  · rw [dec_small h]; simp
  · rw [dec_step h]; simp
theorem dec_digs : ∀ (v : Nat), ∀ c ∈ decT v, digB c = true := fun v => by
  induction v using Nat.strongRecOn with
  | ind v ih =>
    by_cases h : v < 10
    · rw [dec_small h]; intro c hc; rw [List.mem_singleton] at hc; subst hc; exact (digB_of h).1
    · rw [dec_step h]
      intro c hc
      rcases List.mem_append.1 hc with hc | hc
      · exact ih (v / 10) (by omega) c hc
      · rw [List.mem_singleton] at hc; subst hc; exact (digB_of (Nat.mod_lt _ (by omega))).1
/-- no 0 ahead, but of 0 itself -/
theorem dec_head : ∀ (v : Nat), 0 < v → (decT v).head? ≠ some 48 := fun v => by
  induction v using Nat.strongRecOn with
  | ind v ih =>
    intro h0
    by_cases h : v < 10
    · rw [dec_small h]
      simp only [List.head?_cons, ne_eq, Option.some.injEq]
      intro e
      have := congrArg UInt8.toNat e
      rw [(digB_of h).2] at this
      have h48 : (48 : UInt8).toNat = 48 := rfl
      omega
    · rw [dec_step h]
      have := ih (v / 10) (by omega) (by omega)
      cases hd : decT (v / 10) with
      | nil => exact absurd hd (dec_ne _)
      | cons a l => rw [hd] at this; simpa using this
theorem val_dec : ∀ (v : Nat), v < 18446744073709551616 → valW 0 (decT v) = some v := fun v => by
  induction v using Nat.strongRecOn with
  | ind v ih =>
    intro hv
    by_cases h : v < 10
    · rw [dec_small h]
      obtain ⟨e1, e2⟩ := digB_of h
      simp only [valW, e1, e2, if_true]
      rw [if_pos (by omega)]
      congr 1; omega
    · rw [dec_step h, valW_append, ih (v / 10) (by omega) (by omega)]
      obtain ⟨e1, e2⟩ := digB_of (Nat.mod_lt v (by omega : 0 < 10))
      simp only [Option.bind_some, valW, e1, e2, if_true]
      rw [if_pos (by omega)]
      congr 1; omega
theorem num_dec {v : Nat} (h : v < 18446744073709551616) : numW (decT v) = some v := by
  have hv := val_dec v h
  have hh := dec_head v
  cases hd : decT v with
  | nil => exact absurd hd (dec_ne v)
  | cons c r =>
    rw [hd] at hv hh
    unfold numW
    simp only
    rw [if_neg, hv]
    rintro ⟨rfl, hr⟩
    rcases Nat.eq_zero_or_pos v with h0 | h0
    · subst h0
      rw [dec_small (by omega)] at hd
      injection hd with _ hd
      exact hr hd.symm
    · exact hh h0 (by simp)
/-- a number's text is its digits -/
theorem val_inj : ∀ (s : Str) (v u : Nat), 0 < v → valW v s = some u → decT u = decT v ++ s
  | [], v, u, _, h => by simp only [valW, Option.some.injEq] at h; subst h; simp
  | c :: r, v, u, h0, h => by
    simp only [valW] at h
    split at h
    · rename_i hd
      split at h
      · have h1 := val_inj r _ u (by omega) h
        have hc : 48 ≤ c.toNat ∧ c.toNat ≤ 57 := by simpa [digB] using hd
        have e : decT (v * 10 + (c.toNat - 48)) = decT v ++ [c] := by
          rw [dec_step (by omega), show (v * 10 + (c.toNat - 48)) / 10 = v by omega, show (v * 10 + (c.toNat - 48)) % 10 = c.toNat - 48 by omega]
          congr 2
          apply UInt8.toNat_inj.1
          rw [(digB_of (show c.toNat - 48 < 10 by omega)).2]; omega
        rw [h1, e, List.append_assoc]; rfl
      · cases h
    · cases h
theorem num_inj {s : Str} {v : Nat} (h : numW s = some v) : s = decT v := by
  cases s with
  | nil => cases h
  | cons c r =>
    simp only [numW] at h
    split at h
    · cases h
    · rename_i hn
      simp only [valW] at h
      split at h
      · rename_i hd
        have hc : 48 ≤ c.toNat ∧ c.toNat ≤ 57 := by simpa [digB] using hd
        rw [if_pos (by omega), Nat.zero_mul, Nat.zero_add] at h
        have e1 : decT (c.toNat - 48) = [c] := by
          rw [dec_small (by omega)]
          congr 1
          apply UInt8.toNat_inj.1
          rw [(digB_of (show c.toNat - 48 < 10 by omega)).2]; omega
        by_cases h0 : c = 48
        · have hr : r = [] := Classical.byContradiction fun hr => hn ⟨h0, hr⟩
          subst hr
          simp only [valW, Option.some.injEq] at h
          rw [← h, e1]
        · have h0' : 0 < c.toNat - 48 := by
            have : c.toNat ≠ 48 := fun e => h0 (UInt8.toNat_inj.1 e)
            omega
          rw [val_inj r _ v h0' h, e1]; rfl
      · cases h
theorem valW_lt : ∀ (s : Str) (v u : Nat), v < 18446744073709551616 → valW v s = some u → u < 18446744073709551616
  | [], v, u, hv, h => by simp only [valW, Option.some.injEq] at h; omega
  | c :: r, v, u, hv, h => by
    simp only [valW] at h
    split at h
    · split at h
      · rename_i hlt; exact valW_lt r _ u hlt h
      · cases h
    · cases h
theorem num_lt {s : Str} {v : Nat} (h : numW s = some v) : v < 18446744073709551616 := by
  cases s with
  | nil => cases h
  | cons c r =>
    simp only [numW] at h
    split at h
    · cases h
    · exact valW_lt _ 0 v (by omega) h
end Go.Proofs.YtgfijlamhjjecaaGreatDoor


/-
  WrapL: interchanges, read and told: plain words and laws. No condition.
-/
namespace Go.Proofs.YtgfijlamhjjecaaGreatDoor
def oneN : List Str → Option Nat
  | [s] => numW s
  | _ => none
structure WD where
  fr : Nat
  dst : Nat
  rf : Nat
  segs : List Seg
def wd0 : WD := ⟨0, 0, 0, []⟩
def unb : Str := [85, 78, 66]
def unz : Str := [85, 78, 90]
def numsL : List (List Str) → Option (List Nat)
  | [] => some []
  | e :: es => match oneN e, numsL es with
    | some v, some l => some (v :: l)
    | _, _ => none
def numsW (s : Seg) (t : Str) (n : Nat) : Option (List Nat) := if s.tag = t ∧ s.elems.length = n then numsL s.elems else none
/-- what comes of head and tail -/
def wrapHT (h z : Seg) (m : List Seg) : WD × Int :=
  match numsW h unb 3, numsW z unz 2 with
  | some [a, b, c], some [d, f] => if 8 ≤ a ∨ 8 ≤ b then (wd0, 40) else if d ≠ m.length then (wd0, 41) else if c ≠ f then (wd0, 42) else (⟨a, b, c, m⟩, 0)
  | _, _ => (wd0, 40)
def wrapOf (l : List Seg) : WD × Int :=
  match l with
  | [] => (wd0, 40)
  | h :: r => match r.getLast? with
    | none => (wd0, 40)
    | some z => wrapHT h z r.dropLast
def wrapParseE (t : Str) : WD × Int := if (parseE t).2.2 = 0 then wrapOf (parseE t).1 else (wd0, (parseE t).2.2)
def numSeg (t : Str) (l : List Nat) : Seg := ⟨t, l.map fun v => [decT v]⟩
def wrapL (a b c d f : Nat) (m : List Seg) : List Seg := numSeg unb [a, b, c] :: m ++ [numSeg unz [d, f]]
def wrapPrintE (x : WD) : Str × Int :=
  if 8 ≤ x.fr ∨ 8 ≤ x.dst then ([], 1) else if 62 < x.segs.length then ([], 2) else printE (wrapL x.fr x.dst x.rf x.segs.length x.rf x.segs)
theorem wrapOf_snoc (h z : Seg) (m : List Seg) : wrapOf (h :: (m ++ [z])) = wrapHT h z m := by
  unfold wrapOf
  simp
theorem numsL_len : ∀ {es : List (List Str)} {l : List Nat}, numsL es = some l → l.length = es.length
  | [], l, h => by simp [numsL] at h; subst h; rfl
  | e :: es, l, h => by
    simp only [numsL] at h
    split at h
    · rename_i v l' h1 h2
      cases h
      simp [numsL_len h2]
    · cases h
theorem oneN_inj {e : List Str} {v : Nat} (h : oneN e = some v) : e = [decT v] ∧ v < 18446744073709551616 := by
  unfold oneN at h
  split at h
  · rename_i s
    rw [num_inj h]
    exact ⟨rfl, num_lt h⟩
  · cases h
theorem numsL_inj : ∀ {es : List (List Str)} {l : List Nat}, numsL es = some l → es = l.map (fun v => [decT v]) ∧ ∀ v ∈ l, v < 18446744073709551616
  | [], l, h => by simp [numsL] at h; subst h; simp
  | e :: es, l, h => by
    simp only [numsL] at h
    split at h
    · rename_i v l' h1 h2
      cases h
      obtain ⟨e1, b1⟩ := oneN_inj h1
      obtain ⟨e2, b2⟩ := numsL_inj h2
      refine ⟨by rw [e1, e2]; rfl, fun u hu => ?_⟩
      rcases List.mem_cons.1 hu with rfl | hu
      · exact b1
      · exact b2 u hu
    · cases h
theorem numsW_inj {s : Seg} {t : Str} {n : Nat} {l : List Nat} (h : numsW s t n = some l) : s = numSeg t l ∧ l.length = n ∧ ∀ v ∈ l, v < 18446744073709551616 := by
  unfold numsW at h
  split at h
  · rename_i hc
    obtain ⟨e1, e2⟩ := numsL_inj h
    refine ⟨?_, by rw [numsL_len h]; exact hc.2, e2⟩
    cases s
    simp only at hc e1
    rw [hc.1, e1]; rfl
  · cases h
theorem wrapOf_ok {l : List Seg} {x : WD} (h : wrapOf l = (x, 0)) : l = wrapL x.fr x.dst x.rf x.segs.length x.rf x.segs ∧ x.fr < 8 ∧ x.dst < 8 ∧ x.rf < 18446744073709551616 := by
  unfold wrapOf at h
  split at h
  · cases h
  · rename_i hd r
    split at h
    · cases h
    · rename_i z hz
      have hr : r = r.dropLast ++ [z] := by
        have hne : r ≠ [] := by rintro rfl; cases hz
        have h1 := List.dropLast_concat_getLast hne
        rw [List.getLast?_eq_some_getLast hne] at hz
        cases hz
        exact h1.symm
      unfold wrapHT at h
      split at h
      · rename_i a b c d f h1 h2
        obtain ⟨e1, _, b1⟩ := numsW_inj h1
        obtain ⟨e2, _, b2⟩ := numsW_inj h2
        split at h
        · cases h
        · rename_i hab
          split at h
          · cases h
          · rename_i hdm
            split at h
            · cases h
            · rename_i hcf
              cases h
              have hdm' : d = r.dropLast.length := Classical.byContradiction fun e => hdm e
              have hcf' : c = f := Classical.byContradiction fun e => hcf e
              subst hcf'
              refine ⟨?_, by simp only; omega, by simp only; omega, b1 c (by simp)⟩
              unfold wrapL
              simp only
              rw [List.cons_append, ← hdm', ← e1, ← e2, ← hr]
      · cases h
theorem digB_okB {c : UInt8} (h : digB c = true) : okB c ∧ signB c = false := by
  unfold digB at h
  simp at h
  refine ⟨⟨by omega, by omega⟩, ?_⟩
  unfold signB
  have e : ∀ x : UInt8, (c == x) = decide (c.toNat = x.toNat) := fun x => by rw [Bool.eq_iff_iff, beq_iff_eq, decide_eq_true_eq]; exact UInt8.toNat_inj.symm
  rw [e, e, e, e]
  simp
  refine ⟨⟨⟨?_, ?_⟩, ?_⟩, ?_⟩ <;> omega
theorem dec_len : ∀ (n v : Nat), v < 10 ^ (n + 1) → (decT v).length ≤ n + 1
  | 0, v, h => by rw [dec_small (by omega)]; simp
  | n + 1, v, h => by
    by_cases hv : v < 10
    · rw [dec_small hv]; simp
    · rw [dec_step hv]
      have := dec_len n (v / 10) (by rw [Nat.pow_succ] at h; omega)
      simp; omega
theorem dec_len20 {v : Nat} (h : v < 18446744073709551616) : (decT v).length ≤ 20 := dec_len 19 v (by omega)
theorem compT_dec (v : Nat) : compT (decT v) = decT v := by
  have h := dec_digs v
  generalize decT v = l at h
  induction l with
  | nil => rfl
  | cons c l ih =>
    have h1 : compT (c :: l) = escB c ++ compT l := by simp [compT]
    rw [h1, ih (fun x hx => h x (by simp [hx]))]
    unfold escB
    rw [(digB_okB (h c (by simp))).2]
    rfl
theorem okL_mid {h z : Seg} {m : List Seg} (ho : okL (h :: m ++ [z])) : okL m ∧ m.length ≤ 62 ∧ okS h ∧ okS z := by
  obtain ⟨h1, h2⟩ := ho
  simp at h1
  exact ⟨⟨by omega, fun s hs => h2 s (by simp [hs])⟩, by omega, h2 h (by simp), h2 z (by simp)⟩
/-! ### telling -/
theorem elemT_dec (v : Nat) : elemT [decT v] = decT v := by
  show joinB 58 ([decT v].map compT) = _
  simp only [List.map_cons, List.map_nil, joinB]
  exact compT_dec v
theorem segT_num (t : Str) (l : List Nat) : segT (numSeg t l) = t ++ l.flatMap (fun v => 43 :: decT v) ++ [39] := by
  unfold segT numSeg
  simp only [List.flatMap_map]
  congr 2
  congr 1
  funext v
  rw [elemT_dec]
theorem printT_cons (s : Seg) (l : List Seg) : printT (s :: l) = segT s ++ printT l := by simp [printT]
theorem printT_app (l m : List Seg) : printT (l ++ m) = printT l ++ printT m := by simp [printT]
theorem printT_wrap (a b c d f : Nat) (m : List Seg) : printT (wrapL a b c d f m) = segT (numSeg unb [a, b, c]) ++ printT m ++ segT (numSeg unz [d, f]) := by
  unfold wrapL
  rw [printT_app, printT_cons, printT_cons]
  simp [printT]
theorem wrap_there {x : WD} {t : Str} (hl : t.length ≤ 65536) (h : wrapParseE t = (x, 0)) : wrapPrintE x = (no10 t, 0) := by
  unfold wrapParseE at h
  split at h
  · rename_i h0
    obtain ⟨l, i, k, hp⟩ : ∃ l i k, parseE t = (l, i, k) := ⟨_, _, _, rfl⟩
    rw [hp] at h h0
    simp only at h h0
    subst h0
    obtain ⟨e1, h1, h2, h3⟩ := wrapOf_ok h
    obtain ⟨hpr, hok⟩ := print_parse hp hl
    rw [e1] at hpr hok
    obtain ⟨hm, hn, _⟩ := okL_mid hok
    unfold wrapPrintE
    rw [if_neg (by omega), if_neg (by omega)]
    exact hpr
  · rename_i h0
    simp only [Prod.mk.injEq] at h
    exact absurd h.2 h0
/-! ### the reference's way of telling -/
/-- the text of an interchange round a text of segments -/
def roundT (a b c d f : Nat) (s : Str) : Str := unb ++ 43 :: decT a ++ 43 :: decT b ++ 43 :: decT c ++ 39 :: s ++ unz ++ 43 :: decT d ++ 43 :: decT f ++ [39]
theorem roundT_eq (a b c d f : Nat) (m : List Seg) : printT (wrapL a b c d f m) = roundT a b c d f (printT m) := by
  rw [printT_wrap, segT_num, segT_num]
  unfold roundT
  simp
end Go.Proofs.YtgfijlamhjjecaaGreatDoor

