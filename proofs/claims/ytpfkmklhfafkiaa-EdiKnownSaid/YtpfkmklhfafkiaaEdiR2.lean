/-
  EdiR2: a reader of segments in memory: what each further step of it leaves. No condition beyond those stated.
-/
import Derived.Test.YtpfkmklhfafkiaaEdiR
namespace Go.Proofs.Ytpfkmklhfafkiaa
open Go.RowKit
section
variable {S : Nat → Prop} {w w' : World} {B rb : Nat} {l : List Seg} {t : Str} {es : List (List Str)} {cs : List Str} {p q : Str} {lv pv ev cv : Value} {xs ys : List Value}
theorem set_end {α : Type} (l : List α) (a b : α) (r : List α) : (l ++ a :: r).set l.length b = l ++ b :: r := by
  induction l with
  | nil => rfl
  | cons c l ih => simp only [List.cons_append, List.length_cons, List.set_cons_succ, ih]
theorem set_end1 {α : Type} (l : List α) (x a b : α) (r : List α) : (l ++ x :: a :: r).set (l.length + 1) b = l ++ x :: b :: r := by
  simp
theorem snoc_of {α : Type} {l : List α} {n : Nat} (h : l.length = n + 1) : ∃ l0 a, l = l0 ++ [a] ∧ l0.length = n := by
  have hne : l ≠ [] := by intro e; rw [e] at h; simp at h
  exact ⟨l.dropLast, l.getLast hne, (List.dropLast_concat_getLast hne).symm, by simp; omega⟩
/-- the last segment's row -/
theorem RA.top {s : Seg} (h : RA S w B rb (l ++ [s]) lv pv xs p) : ∃ g cap x xs0, lv = .slice (some ⟨g, 0, none⟩) (l.length + 1) cap ∧ l.length + 1 ≤ cap ∧ cap ≤ maxLen ∧ xs = xs0 ++ [x] ∧ xs0.length = l.length ∧ w.cell? ⟨g, l.length * 2, none⟩ = some (sv s.tag) ∧ w.cell? ⟨g, l.length * 2 + 1, none⟩ = some x ∧ w.frozen? ⟨g, l.length * 2, none⟩ = false ∧ w.frozen? ⟨g, l.length * 2 + 1, none⟩ = false ∧ ElemsO S B w x s.elems := by
  have hl := h.hl
  rw [List.length_append, List.length_singleton] at hl
  obtain ⟨g, cap, cur, rfl, hg, hh, hc, hm, _, _⟩ := own_form hl (by omega) (by omega)
  have hx := h.xl
  rw [List.length_append, List.length_singleton] at hx
  obtain ⟨xs0, x, rfl, hdl⟩ := snoc_of hx
  have hgx : (xs0 ++ [x])[l.length]? = some x := by rw [List.getElem?_append_right (by omega), hdl]; simp
  have key := segCells_get (l ++ [s]) (xs0 ++ [x]) l.length s x (by simp) hgx
  refine ⟨g, cap, x, xs0, rfl, hc, hm, rfl, hdl, own_cell hl key.1, own_cell hl key.2, own_frozen hl _, own_frozen hl _, h.hes l.length s _ (by simp) hgx⟩
/-- the tag of the last segment is set -/
theorem RA.settag {t t' : Str} {g cap : Nat} (h : RA S w B rb (l ++ [⟨t, []⟩]) (.slice (some ⟨g, 0, none⟩) (l.length + 1) cap) pv xs p) : RA S (w.setCell ⟨g, l.length * 2, none⟩ (sv t')) B rb (l ++ [⟨t', []⟩]) (.slice (some ⟨g, 0, none⟩) (l.length + 1) cap) pv xs p := by
  have hl := h.hl
  obtain ⟨g', cap', x, xs0, he, _, _, rfl, hx0, _⟩ := h.top
  cases he
  rw [List.length_append, List.length_singleton] at hl
  have e : ∀ k, k ≠ g → (w.setCell ⟨g, l.length * 2, none⟩ (sv t')).heap[k]? = w.heap[k]? := fun k hk => heap_setCell_other w _ _ _ hk
  have ngr : rb ≠ g := fun e => own_neR h.r hl (by decide) (by rw [e]; rfl)
  have hlen := segCells_len l xs0 hx0
  have hset := own_set hl (j := l.length * 2) (by rw [segCells_app _ _ _ _ hx0, List.length_append, hlen]; simp [segCells]) (sv t')
  have hse : (segCells (l ++ [⟨t, []⟩]) (xs0 ++ [x])).set (l.length * 2) (sv t') = segCells (l ++ [⟨t', []⟩]) (xs0 ++ [x]) := by
    rw [segCells_app _ _ _ _ hx0, segCells_app _ _ _ _ hx0, ← hlen]
    exact set_end _ _ _ _
  rw [hse] at hset
  refine ⟨h.hB, (e rb ngr).trans h.r, own_cong h.hp (fun k hk => e k (fun e => own_ne h.hp hl (by decide) hk (by rw [e]; rfl))), by rw [List.length_append, List.length_singleton]; exact hset, by simp [hx0], fun i s y a b => ?_, fun k hk => ?_⟩
  · have hes : ElemsO S B w y s.elems := by
      rcases Nat.lt_or_ge i l.length with hi | hi
      · exact h.hes i s y (by rw [List.getElem?_append_left hi] at a ⊢; exact a) b
      · have h0 : i = l.length := by have := (List.getElem?_eq_some_iff.1 a).1; simp at this; omega
        subst h0
        have := h.hes l.length ⟨t, []⟩ y (by simp) b
        simp at a
        subst a
        exact this
    exact hes.cong (fun _ hk => hk) (fun k hk => e k (fun e => (h.s1 k hk).2.2.2.1 (by rw [e]; rfl)))
  · obtain ⟨a, b, c⟩ := h.s1 k hk
    exact ⟨a, by simpa using b, c⟩
/-- the open element and component lie at rest -/
theorem RB.close (h : RB S w B rb l t es cs p q lv pv ev cv xs ys) : RA (fun k => S k ∨ ev.ownBlock = some k ∨ cv.ownBlock = some k) w B rb (l ++ [⟨t, es ++ [cs ++ [p]]⟩]) lv pv (xs ++ [ev]) q := by
  refine ⟨h.hB, h.r, h.hp, by rw [List.length_append, List.length_singleton, segCells_app _ _ _ _ h.xl]; exact h.hl, by simp [h.xl], fun i s x a b => ?_, fun k hk => ?_⟩
  · rcases Nat.lt_or_ge i l.length with hi | hi
    · rw [List.getElem?_append_left hi] at a
      rw [List.getElem?_append_left (by rw [h.xl]; exact hi)] at b
      exact (h.old i s x a b).cong (fun _ hk => .inl hk) (fun _ _ => rfl)
    · have h0 : i = l.length := by have := (List.getElem?_eq_some_iff.1 a).1; simp at this; omega
      subst h0
      rw [List.getElem?_append_right (by rw [h.xl]; exact Nat.le_refl _), h.xl, Nat.sub_self] at b
      simp at a b
      subst a; subst b
      refine ⟨ys ++ [cv], (by have := h.he; rw [List.length_append, List.length_singleton]; exact this), (fun k hk => .inr (.inl hk)), by simp [h.yl], fun i e y a b => ?_⟩
      rcases Nat.lt_or_ge i es.length with hi | hi
      · rw [List.getElem?_append_left hi] at a
        rw [List.getElem?_append_left (by rw [h.yl]; exact hi)] at b
        exact (h.ye i e y a b).cong (fun _ hk => .inl hk) (fun _ _ => rfl)
      · have h0 : i = es.length := by have := (List.getElem?_eq_some_iff.1 a).1; simp at this; omega
        subst h0
        rw [List.getElem?_append_right (by rw [h.yl]; exact Nat.le_refl _), h.yl, Nat.sub_self] at b
        simp at a b
        subst a; subst b
        exact ⟨by have := h.hc; rw [List.length_append, List.length_singleton]; exact this, fun k hk => .inr (.inr hk)⟩
  · rcases hk with hk | hk | hk
    · obtain ⟨a, b, c, d, e, _⟩ := h.s1 k hk
      exact ⟨a, b, c, d, e⟩
    · obtain ⟨a, b⟩ := own_lt h.he hk
      exact ⟨a, b, fun e => own_neR h.r h.he (by decide) (e ▸ hk), own_ne h.he h.hl (by decide) hk, own_ne h.he h.hp (by decide) hk⟩
    · obtain ⟨a, b⟩ := own_lt h.hc hk
      exact ⟨a, b, fun e => own_neR h.r h.hc (by decide) (e ▸ hk), own_ne h.hc h.hl (by decide) hk, own_ne h.hc h.hp (by decide) hk⟩
/-- where the open element and component lie -/
theorem RB.tops (h : RB S w B rb l t es cs p q lv pv ev cv xs ys) : ∃ g c1 b c2 d c3, lv = .slice (some ⟨g, 0, none⟩) (l.length + 1) c1 ∧ ev = .slice (some ⟨b, 0, none⟩) (es.length + 1) c2 ∧ cv = .slice (some ⟨d, 0, none⟩) (cs.length + 1) c3 ∧
    l.length + 1 ≤ c1 ∧ c1 ≤ maxLen ∧ es.length + 1 ≤ c2 ∧ c2 ≤ maxLen ∧ cs.length + 1 ≤ c3 ∧ c3 ≤ maxLen ∧
    w.cell? ⟨g, l.length * 2, none⟩ = some (sv t) ∧ w.cell? ⟨g, l.length * 2 + 1, none⟩ = some ev ∧ w.frozen? ⟨g, l.length * 2 + 1, none⟩ = false ∧ w.cell? ⟨b, es.length, none⟩ = some cv ∧ w.frozen? ⟨b, es.length, none⟩ = false ∧ w.cell? ⟨d, cs.length, none⟩ = some (sv p) ∧ w.frozen? ⟨d, cs.length, none⟩ = false := by
  have hl := h.hl
  have he := h.he
  have hc := h.hc
  obtain ⟨g, c1, cur, rfl, _, _, a1, a2, _⟩ := own_form hl (by omega) (by omega)
  obtain ⟨b, c2, cur2, rfl, _, _, b1, b2, _⟩ := own_form he (by omega) (by omega)
  obtain ⟨d, c3, cur3, rfl, _, _, d1, d2, _⟩ := own_form hc (by omega) (by omega)
  have hlen := segCells_len l xs h.xl
  refine ⟨g, c1, b, c2, d, c3, rfl, rfl, rfl, a1, a2, b1, b2, d1, d2, own_cell hl ?_, own_cell hl ?_, own_frozen hl _, own_cell he ?_, own_frozen he _, own_cell hc ?_, own_frozen hc _⟩
  · rw [List.getElem?_append_right (by omega), hlen, Nat.sub_self]; rfl
  · rw [List.getElem?_append_right (by omega), hlen, show l.length * 2 + 1 - l.length * 2 = 1 by omega]; rfl
  · rw [List.getElem?_append_right (by rw [h.yl]; exact Nat.le_refl _), h.yl, Nat.sub_self]; rfl
  · rw [List.map_append, List.getElem?_append_right (by simp), List.length_map, Nat.sub_self]; rfl
end
end Go.Proofs.Ytpfkmklhfafkiaa
