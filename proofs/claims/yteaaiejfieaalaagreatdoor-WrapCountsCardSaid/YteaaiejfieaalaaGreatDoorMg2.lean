/-
  Texts EdiR2, EdiR3, EdiF, EdiG, EdiH, EdiI, EdiJ, one behind the other. No condition beyond those stated in each.
-/
import Derived.Test.YteaaiejfieaalaaGreatDoorMg1
import Derived.Deep.CutBlock
import Derived.Deep.CutRange
import Derived.Laws.BytesString
/-
  EdiR2: a reader of segments in memory: what each further step of it leaves. No condition beyond those stated.
-/
namespace Go.Proofs.YteaaiejfieaalaaGreatDoor
open Go.RowKit
section
variable {S : Nat → Prop} {w w' : World} {B rb : Nat} {l : List Seg} {t : Str} {es : List (List Str)} {cs : List Str} {p q : Str} {lv pv ev cv : Value} {xs ys : List Value}
theorem set_end {α : Type} (l : List α) (a b : α) (r : List α) : (l ++ a :: r).set l.length b = l ++ b :: r := by
  induction l with
  | nil => rfl
  | cons c l ih => simp only [List.cons_append, List.length_cons, List.set_cons_succ, ih]
theorem set_end1 {α : Type} (l : List α) (x a b : α) (r : List α) : (l ++ x :: a :: r).set (l.length + 1) b = l ++ x :: b :: r := by
  simp
theorem snoc_of {α : Type} {l : List α} {n : Nat} (h : l.length = n + 1) : ∃ l0 a, l = l0 ++ [a] ∧ l0.length = n := by
  have hne : l ≠ [] := by intro e; rw [e] at h; simp at h
  exact ⟨l.dropLast, l.getLast hne, (List.dropLast_concat_getLast hne).symm, by simp; omega⟩
/-- the last segment's row -/
theorem RA.top {s : Seg} (h : RA S w B rb (l ++ [s]) lv pv xs p) : ∃ g cap x xs0, lv = .slice (some ⟨g, 0, none⟩) (l.length + 1) cap ∧ l.length + 1 ≤ cap ∧ cap ≤ maxLen ∧ xs = xs0 ++ [x] ∧ xs0.length = l.length ∧ w.cell? ⟨g, l.length * 2, none⟩ = some (sv s.tag) ∧ w.cell? ⟨g, l.length * 2 + 1, none⟩ = some x ∧ w.frozen? ⟨g, l.length * 2, none⟩ = false ∧ w.frozen? ⟨g, l.length * 2 + 1, none⟩ = false ∧ ElemsO S B w x s.elems := by
  have hl := h.hl
  rw [List.length_append, List.length_singleton] at hl
  obtain ⟨g, cap, cur, rfl, hg, hh, hc, hm, _, _⟩ := own_form hl (by omega) (by omega)
  have hx := h.xl
  rw [List.length_append, List.length_singleton] at hx
  obtain ⟨xs0, x, rfl, hdl⟩ := snoc_of hx
  have hgx : (xs0 ++ [x])[l.length]? = some x := by rw [List.getElem?_append_right (by omega), hdl]; simp
  have key := segCells_get (l ++ [s]) (xs0 ++ [x]) l.length s x (by simp) hgx
  refine ⟨g, cap, x, xs0, rfl, hc, hm, rfl, hdl, own_cell hl key.1, own_cell hl key.2, own_frozen hl _, own_frozen hl _, h.hes l.length s _ (by simp) hgx⟩
/-- the tag of the last segment is set -/
theorem RA.settag {t t' : Str} {g cap : Nat} (h : RA S w B rb (l ++ [⟨t, []⟩]) (.slice (some ⟨g, 0, none⟩) (l.length + 1) cap) pv xs p) : RA S (w.setCell ⟨g, l.length * 2, none⟩ (sv t')) B rb (l ++ [⟨t', []⟩]) (.slice (some ⟨g, 0, none⟩) (l.length + 1) cap) pv xs p := by
  have hl := h.hl
  obtain ⟨g', cap', x, xs0, he, _, _, rfl, hx0, _⟩ := h.top
  cases he
  rw [List.length_append, List.length_singleton] at hl
  have e : ∀ k, k ≠ g → (w.setCell ⟨g, l.length * 2, none⟩ (sv t')).heap[k]? = w.heap[k]? := fun k hk => heap_setCell_other w _ _ _ hk
  have ngr : rb ≠ g := fun e => own_neR h.r hl (by decide) (by rw [e]; rfl)
  have hlen := segCells_len l xs0 hx0
  have hset := own_set hl (j := l.length * 2) (by rw [segCells_app _ _ _ _ hx0, List.length_append, hlen]; simp [segCells]) (sv t')
  have hse : (segCells (l ++ [⟨t, []⟩]) (xs0 ++ [x])).set (l.length * 2) (sv t') = segCells (l ++ [⟨t', []⟩]) (xs0 ++ [x]) := by
    rw [segCells_app _ _ _ _ hx0, segCells_app _ _ _ _ hx0, ← hlen]
    exact set_end _ _ _ _
  rw [hse] at hset
  refine ⟨h.hB, (e rb ngr).trans h.r, own_cong h.hp (fun k hk => e k (fun e => own_ne h.hp hl (by decide) hk (by rw [e]; rfl))), by rw [List.length_append, List.length_singleton]; exact hset, by simp [hx0], fun i s y a b => ?_, fun k hk => ?_⟩
  · have hes : ElemsO S B w y s.elems := by
      rcases Nat.lt_or_ge i l.length with hi | hi
      · exact h.hes i s y (by rw [List.getElem?_append_left hi] at a ⊢; exact a) b
      · have h0 : i = l.length := by have := (List.getElem?_eq_some_iff.1 a).1; simp at this; omega
        subst h0
        have := h.hes l.length ⟨t, []⟩ y (by simp) b
        simp at a
        subst a
        exact this
    exact hes.cong (fun _ hk => hk) (fun k hk => e k (fun e => (h.s1 k hk).2.2.2.1 (by rw [e]; rfl)))
  · obtain ⟨a, b, c⟩ := h.s1 k hk
    exact ⟨a, by simpa using b, c⟩
/-- the open element and component lie at rest -/
theorem RB.close (h : RB S w B rb l t es cs p q lv pv ev cv xs ys) : RA (fun k => S k ∨ ev.ownBlock = some k ∨ cv.ownBlock = some k) w B rb (l ++ [⟨t, es ++ [cs ++ [p]]⟩]) lv pv (xs ++ [ev]) q := by
  refine ⟨h.hB, h.r, h.hp, by rw [List.length_append, List.length_singleton, segCells_app _ _ _ _ h.xl]; exact h.hl, by simp [h.xl], fun i s x a b => ?_, fun k hk => ?_⟩
  · rcases Nat.lt_or_ge i l.length with hi | hi
    · rw [List.getElem?_append_left hi] at a
      rw [List.getElem?_append_left (by rw [h.xl]; exact hi)] at b
      exact (h.old i s x a b).cong (fun _ hk => .inl hk) (fun _ _ => rfl)
    · have h0 : i = l.length := by have := (List.getElem?_eq_some_iff.1 a).1; simp at this; omega
      subst h0
      rw [List.getElem?_append_right (by rw [h.xl]; exact Nat.le_refl _), h.xl, Nat.sub_self] at b
      simp at a b
      subst a; subst b
      refine ⟨ys ++ [cv], (by have := h.he; rw [List.length_append, List.length_singleton]; exact this), (fun k hk => .inr (.inl hk)), by simp [h.yl], fun i e y a b => ?_⟩
      rcases Nat.lt_or_ge i es.length with hi | hi
      · rw [List.getElem?_append_left hi] at a
        rw [List.getElem?_append_left (by rw [h.yl]; exact hi)] at b
        exact (h.ye i e y a b).cong (fun _ hk => .inl hk) (fun _ _ => rfl)
      · have h0 : i = es.length := by have := (List.getElem?_eq_some_iff.1 a).1; simp at this; omega
        subst h0
        rw [List.getElem?_append_right (by rw [h.yl]; exact Nat.le_refl _), h.yl, Nat.sub_self] at b
        simp at a b
        subst a; subst b
        exact ⟨by have := h.hc; rw [List.length_append, List.length_singleton]; exact this, fun k hk => .inr (.inr hk)⟩
  · rcases hk with hk | hk | hk
    · obtain ⟨a, b, c, d, e, _⟩ := h.s1 k hk
      exact ⟨a, b, c, d, e⟩
    · obtain ⟨a, b⟩ := own_lt h.he hk
      exact ⟨a, b, fun e => own_neR h.r h.he (by decide) (e ▸ hk), own_ne h.he h.hl (by decide) hk, own_ne h.he h.hp (by decide) hk⟩
    · obtain ⟨a, b⟩ := own_lt h.hc hk
      exact ⟨a, b, fun e => own_neR h.r h.hc (by decide) (e ▸ hk), own_ne h.hc h.hl (by decide) hk, own_ne h.hc h.hp (by decide) hk⟩
/-- where the open element and component lie -/
theorem RB.tops (h : RB S w B rb l t es cs p q lv pv ev cv xs ys) : ∃ g c1 b c2 d c3, lv = .slice (some ⟨g, 0, none⟩) (l.length + 1) c1 ∧ ev = .slice (some ⟨b, 0, none⟩) (es.length + 1) c2 ∧ cv = .slice (some ⟨d, 0, none⟩) (cs.length + 1) c3 ∧
    l.length + 1 ≤ c1 ∧ c1 ≤ maxLen ∧ es.length + 1 ≤ c2 ∧ c2 ≤ maxLen ∧ cs.length + 1 ≤ c3 ∧ c3 ≤ maxLen ∧
    w.cell? ⟨g, l.length * 2, none⟩ = some (sv t) ∧ w.cell? ⟨g, l.length * 2 + 1, none⟩ = some ev ∧ w.frozen? ⟨g, l.length * 2 + 1, none⟩ = false ∧ w.cell? ⟨b, es.length, none⟩ = some cv ∧ w.frozen? ⟨b, es.length, none⟩ = false ∧ w.cell? ⟨d, cs.length, none⟩ = some (sv p) ∧ w.frozen? ⟨d, cs.length, none⟩ = false := by
  have hl := h.hl
  have he := h.he
  have hc := h.hc
  obtain ⟨g, c1, cur, rfl, _, _, a1, a2, _⟩ := own_form hl (by omega) (by omega)
  obtain ⟨b, c2, cur2, rfl, _, _, b1, b2, _⟩ := own_form he (by omega) (by omega)
  obtain ⟨d, c3, cur3, rfl, _, _, d1, d2, _⟩ := own_form hc (by omega) (by omega)
  have hlen := segCells_len l xs h.xl
  refine ⟨g, c1, b, c2, d, c3, rfl, rfl, rfl, a1, a2, b1, b2, d1, d2, own_cell hl ?_, own_cell hl ?_, own_frozen hl _, own_cell he ?_, own_frozen he _, own_cell hc ?_, own_frozen hc _⟩
  · rw [List.getElem?_append_right (by omega), hlen, Nat.sub_self]; rfl
  · rw [List.getElem?_append_right (by omega), hlen, show l.length * 2 + 1 - l.length * 2 = 1 by omega]; rfl
  · rw [List.getElem?_append_right (by rw [h.yl]; exact Nat.le_refl _), h.yl, Nat.sub_self]; rfl
  · rw [List.map_append, List.getElem?_append_right (by simp), List.length_map, Nat.sub_self]; rfl
end
end Go.Proofs.YteaaiejfieaalaaGreatDoor

/-
  EdiR3: a reader of segments in memory: elements and components that are begun, bytes that are put. No condition beyond those stated.
-/
namespace Go.Proofs.YteaaiejfieaalaaGreatDoor
open Go.RowKit
theorem blk_ag {w w1 : World} {o : Obj} {row : Option Nat} (hg : (w.alloc o).grownBy w1 row) {k : Nat} (hk : k < w.heap.size) (hn : row ≠ some k) : w1.heap[k]? = w.heap[k]? :=
  (hg.block k (by simp; omega) (fun e => hn e.symm)).trans (Below.heap_alloc _ _ _ hk)
theorem blk_ag2 {w w1 : World} {o o' : Obj} {row : Option Nat} (hg : ((w.alloc o).alloc o').grownBy w1 row) {k : Nat} (hk : k < w.heap.size) (hn : row ≠ some k) : w1.heap[k]? = w.heap[k]? :=
  (hg.block k (by simp; omega) (fun e => hn e.symm)).trans ((Below.heap_alloc _ _ _ (by simp; omega)).trans (Below.heap_alloc _ _ _ hk))
section
variable {S : Nat → Prop} {w w' : World} {B rb : Nat} {l : List Seg} {t : Str} {es : List (List Str)} {cs : List Str} {p q : Str} {lv pv ev cv : Value} {xs ys : List Value}
/-- a byte more of a part -/
theorem RB.grow {w1 : World} {o : Obj} {pv' : Value} {q' : Str} (h : RB S w B rb l t es cs p q lv pv ev cv xs ys) (hg : (w.alloc o).grownBy w1 pv.ownBlock) (hp' : OwnS w1 B pv' q') (hk : pv'.ownBlock = pv.ownBlock ∨ pv'.ownBlock = some (w.heap.size + 1)) :
    RB S (w1.setCell ⟨rb, 1, none⟩ pv') B rb l t es cs p q' lv pv' ev cv xs ys := by
  have hsz := hg.size
  have hrb := h.lt
  have npr := own_neR h.r h.hp (by decide)
  have e : ∀ k, k < w.heap.size → pv.ownBlock ≠ some k → k ≠ rb → (w1.setCell ⟨rb, 1, none⟩ pv').heap[k]? = w.heap[k]? := fun k hk hn hr => (heap_setCell_other w1 _ _ _ hr).trans (blk_ag hg hk hn)
  simp at hsz
  have own : ∀ {T : TypeId} {s n : Nat} {v : Value} {zs : List Value}, w.ownsRow B T s v n zs → T ≠ 5 → T ≠ 65 → (w1.setCell ⟨rb, 1, none⟩ pv').ownsRow B T s v n zs := fun ho h1 h2 =>
    own_cong ho (fun k hk => e k (own_lt ho hk).2 (own_ne ho h.hp h1 hk) (fun e => own_neR h.r ho h2 (e ▸ hk)))
  refine ⟨h.hB, by rw [heap_setCell_same w1 rb 1 _ _ _ ((blk_ag hg hrb npr).trans h.r)]; rfl, own_cong hp' (fun k hk' => heap_setCell_other w1 _ _ _ (fun e => ?_)), own h.hl (by decide) (by decide), h.xl, fun i s x a b => (h.old i s x a b).cong (fun _ hk => hk) (fun k hk => e k (h.s1 k hk).2.1 (h.s1 k hk).2.2.2.2.1 (h.s1 k hk).2.2.1),
    own h.he (by decide) (by decide), h.yl, fun i s x a b => (h.ye i s x a b).cong (fun _ hk => hk) (fun k hk => e k (h.s1 k hk).2.1 (h.s1 k hk).2.2.2.2.1 (h.s1 k hk).2.2.1), own h.hc (by decide) (by decide), fun k hS => ?_⟩
  · subst e
    rcases hk with hk | hk
    · exact npr (hk ▸ hk')
    · rw [hk] at hk'; have := Option.some.inj hk'; omega
  · obtain ⟨a, b, c, d, f, g⟩ := h.s1 k hS
    refine ⟨a, by simp; omega, c, d, fun e => ?_, g⟩
    rcases hk with hk | hk
    · exact f (hk ▸ e)
    · rw [hk] at e; have := Option.some.inj e; omega
/-- the open component is set -/
theorem RB.setlast {d c3 : Nat} {p' : Str} (h : RB S w B rb l t es cs p q lv pv ev (.slice (some ⟨d, 0, none⟩) (cs.length + 1) c3) xs ys) : RB S (w.setCell ⟨d, cs.length, none⟩ (sv p')) B rb l t es cs p' q lv pv ev (.slice (some ⟨d, 0, none⟩) (cs.length + 1) c3) xs ys := by
  have e : ∀ k, k ≠ d → (w.setCell ⟨d, cs.length, none⟩ (sv p')).heap[k]? = w.heap[k]? := fun k hk => heap_setCell_other w _ _ _ hk
  have own : ∀ {T : TypeId} {s n : Nat} {v : Value} {zs : List Value}, w.ownsRow B T s v n zs → T ≠ 9 → (w.setCell ⟨d, cs.length, none⟩ (sv p')).ownsRow B T s v n zs := fun ho h1 =>
    own_cong ho (fun k hk => e k (fun e => own_ne ho h.hc h1 hk (by rw [e]; rfl)))
  have hset := own_set h.hc (j := cs.length) (by simp) (sv p')
  have hse : ((cs ++ [p]).map sv).set cs.length (sv p') = (cs ++ [p']).map sv := by
    rw [List.map_append, List.map_append]
    have h1 := set_end (cs.map sv) (sv p) (sv p') []
    rw [List.length_map] at h1
    exact h1
  rw [hse] at hset
  refine ⟨h.hB, (e rb (fun e => own_neR h.r h.hc (by decide) (by rw [e]; rfl))).trans h.r, own h.hp (by decide), own h.hl (by decide), h.xl, fun i s x a b => (h.old i s x a b).cong (fun _ hk => hk) (fun k hk => e k (fun e => (h.s1 k hk).2.2.2.2.2.2 (by rw [e]; rfl))),
    own h.he (by decide), h.yl, fun i s x a b => (h.ye i s x a b).cong (fun _ hk => hk) (fun k hk => e k (fun e => (h.s1 k hk).2.2.2.2.2.2 (by rw [e]; rfl))), hset, fun k hS => ?_⟩
  obtain ⟨a, b, c⟩ := h.s1 k hS
  exact ⟨a, by simpa using b, c⟩
/-- a component is begun -/
theorem RB.colon {w1 : World} {o : Obj} {b c2 : Nat} {cv' : Value} (h : RB S w B rb l t es cs p q lv pv (.slice (some ⟨b, 0, none⟩) (es.length + 1) c2) cv xs ys) (hg : (w.alloc o).grownBy w1 cv.ownBlock) (hc' : w1.ownsRow B 9 1 cv' (cs.length + 1 + 1) ((cs ++ [p]).map sv ++ [sv []])) (hk : cv'.ownBlock = cv.ownBlock ∨ cv'.ownBlock = some (w.heap.size + 1)) :
    RB S (w1.setCell ⟨b, es.length, none⟩ cv') B rb l t es (cs ++ [p]) [] q lv pv (.slice (some ⟨b, 0, none⟩) (es.length + 1) c2) cv' xs ys := by
  have hsz := hg.size
  have hrb := h.lt
  simp at hsz
  have hbl := own_lt h.he (k := b) rfl
  have ncb : cv.ownBlock ≠ some b := fun e => own_ne h.hc h.he (by decide) e rfl
  have ncr := own_neR h.r h.hc (by decide)
  have e1 : ∀ k, k < w.heap.size → cv.ownBlock ≠ some k → w1.heap[k]? = w.heap[k]? := fun k hk hn => blk_ag hg hk hn
  have e : ∀ k, k < w.heap.size → cv.ownBlock ≠ some k → k ≠ b → (w1.setCell ⟨b, es.length, none⟩ cv').heap[k]? = w.heap[k]? := fun k hk hn hr => (heap_setCell_other w1 _ _ _ hr).trans (e1 k hk hn)
  have own : ∀ {T : TypeId} {s n : Nat} {v : Value} {zs : List Value}, w.ownsRow B T s v n zs → T ≠ 9 → T ≠ 53 → (w1.setCell ⟨b, es.length, none⟩ cv').ownsRow B T s v n zs := fun ho h1 h2 =>
    own_cong ho (fun k hk => e k (own_lt ho hk).2 (own_ne ho h.hc h1 hk) (fun e => own_ne ho h.he h2 hk (by rw [e]; rfl)))
  have he1 : w1.ownsRow B 53 1 (.slice (some ⟨b, 0, none⟩) (es.length + 1) c2) (es.length + 1) (ys ++ [cv]) := own_cong h.he (fun k hk => by cases hk; exact e1 b hbl.2 ncb)
  have hset := own_set he1 (j := es.length) (by simp [h.yl]) cv'
  have hse : (ys ++ [cv]).set es.length cv' = ys ++ [cv'] := by
    have h1 := set_end ys cv cv' []
    rw [h.yl] at h1; exact h1
  rw [hse] at hset
  refine ⟨h.hB, (e rb hrb ncr (fun e => own_neR h.r h.he (by decide) (by rw [e]; rfl))).trans h.r, own h.hp (by decide) (by decide), own h.hl (by decide) (by decide), h.xl, fun i s x a b => (h.old i s x a b).cong (fun _ hk => hk) (fun k hk => e k (h.s1 k hk).2.1 (h.s1 k hk).2.2.2.2.2.2 (fun e => (h.s1 k hk).2.2.2.2.2.1 (by rw [e]; rfl))),
    hset, h.yl, fun i s x a b => (h.ye i s x a b).cong (fun _ hk => hk) (fun k hk => e k (h.s1 k hk).2.1 (h.s1 k hk).2.2.2.2.2.2 (fun e => (h.s1 k hk).2.2.2.2.2.1 (by rw [e]; rfl))), ?_, fun k hS => ?_⟩
  · rw [List.length_append, List.length_singleton, List.map_append]
    refine own_cong hc' (fun k hk' => heap_setCell_other w1 _ _ _ (fun e => ?_))
    have e' : k = b := e
    rw [e'] at hk'
    rcases hk with hk | hk
    · exact ncb (hk ▸ hk')
    · rw [hk] at hk'; have h1 := Option.some.inj hk'; omega
  · obtain ⟨a, b', c, d, f, g, i⟩ := h.s1 k hS
    refine ⟨a, by simp; omega, c, d, f, g, fun e => ?_⟩
    rcases hk with hk | hk
    · exact i (hk ▸ e)
    · rw [hk] at e; have := Option.some.inj e; omega
/-- an element is begun behind another -/
theorem RB.next {w1 : World} {g c1 : Nat} {ev' : Value} {o o' : Obj} (ho : o = .cells #[sv []] 9 (0, 0)) (_ho' : o' = .cells #[.slice (some ⟨w.heap.size, 0, none⟩) 1 1] 53 (0, 0)) (h : RB S w B rb l t es cs p q (.slice (some ⟨g, 0, none⟩) (l.length + 1) c1) pv ev cv xs ys) (hB : B ≤ w.heap.size) (hg : ((w.alloc o).alloc o').grownBy w1 ev.ownBlock)
    (he' : w1.ownsRow B 53 1 ev' (es.length + 1 + 1) (ys ++ [cv] ++ [.slice (some ⟨w.heap.size, 0, none⟩) 1 1])) (hk : ev'.ownBlock = ev.ownBlock ∨ ev'.ownBlock = some (w.heap.size + 2)) :
    RB (fun k => S k ∨ cv.ownBlock = some k) (w1.setCell ⟨g, l.length * 2 + 1, none⟩ ev') B rb l t (es ++ [cs ++ [p]]) [] [] q (.slice (some ⟨g, 0, none⟩) (l.length + 1) c1) pv ev' (.slice (some ⟨w.heap.size, 0, none⟩) 1 1) xs (ys ++ [cv]) := by
  have hsz := hg.size
  have hrb := h.lt
  simp at hsz
  have hgl := own_lt h.hl (k := g) rfl
  have neg : ev.ownBlock ≠ some g := fun e => own_ne h.he h.hl (by decide) e rfl
  have ner := own_neR h.r h.he (by decide)
  have e1 : ∀ k, k < w.heap.size → ev.ownBlock ≠ some k → w1.heap[k]? = w.heap[k]? := fun k hk hn => blk_ag2 hg hk hn
  have e : ∀ k, k < w.heap.size → ev.ownBlock ≠ some k → k ≠ g → (w1.setCell ⟨g, l.length * 2 + 1, none⟩ ev').heap[k]? = w.heap[k]? := fun k hk hn hr => (heap_setCell_other w1 _ _ _ hr).trans (e1 k hk hn)
  have own : ∀ {T : TypeId} {s n : Nat} {v : Value} {zs : List Value}, w.ownsRow B T s v n zs → T ≠ 53 → T ≠ 36 → (w1.setCell ⟨g, l.length * 2 + 1, none⟩ ev').ownsRow B T s v n zs := fun ho h1 h2 =>
    own_cong ho (fun k hk => e k (own_lt ho hk).2 (own_ne ho h.he h1 hk) (fun e => own_ne ho h.hl h2 hk (by rw [e]; rfl)))
  have hl1 := own_cong h.hl (w' := w1) (fun k hk => by cases hk; exact e1 g hgl.2 neg)
  have hlen := segCells_len l xs h.xl
  have hset := own_set hl1 (j := l.length * 2 + 1) (by rw [List.length_append, hlen]; show l.length * 2 + 1 < l.length * 2 + 2; omega) ev'
  have hse : (segCells l xs ++ [sv t, ev]).set (l.length * 2 + 1) ev' = segCells l xs ++ [sv t, ev'] := by
    have h1 := set_end1 (segCells l xs) (sv t) ev ev' []
    rw [hlen] at h1; exact h1
  rw [hse] at hset
  have hnew : (w1.setCell ⟨g, l.length * 2 + 1, none⟩ ev').heap[w.heap.size]? = some (.cells #[sv []] 9 (0, 0)) := by
    refine (heap_setCell_other w1 _ _ _ (by show w.heap.size ≠ g; omega)).trans ((hg.block w.heap.size (by simp; omega) (fun e => ?_)).trans ((Below.heap_alloc _ _ _ (by simp)).trans (by rw [ho]; exact heap_alloc_new _ _)))
    have := (own_lt h.he e.symm).2; omega
  have hcc : (w1.setCell ⟨g, l.length * 2 + 1, none⟩ ev').ownsRow B 9 1 (.slice (some ⟨w.heap.size, 0, none⟩) 1 1) 1 [sv []] :=
    ⟨rfl, .inr ⟨w.heap.size, 1, _, rfl, hB, hnew, Nat.le_refl _, by unfold maxLen; omega, rfl, rfl⟩⟩
  refine ⟨h.hB, (e rb hrb ner (fun e => own_neR h.r h.hl (by decide) (by rw [e]; rfl))).trans h.r, own h.hp (by decide) (by decide), hset, h.xl, fun i s x a b => (h.old i s x a b).cong (fun _ hk => .inl hk) (fun k hk => e k (h.s1 k hk).2.1 (h.s1 k hk).2.2.2.2.2.1 (fun e => (h.s1 k hk).2.2.2.1 (by rw [e]; rfl))),
    ?_, by simp [h.yl], fun i f y a b => ?_, hcc, fun k hS => ?_⟩
  · rw [List.length_append, List.length_singleton]
    refine own_cong he' (fun k hk' => heap_setCell_other w1 _ _ _ (fun e => ?_))
    have e' : k = g := e
    rw [e'] at hk'
    rcases hk with hk | hk
    · exact neg (hk ▸ hk')
    · rw [hk] at hk'; have h1 := Option.some.inj hk'; omega
  · rcases Nat.lt_or_ge i es.length with hi | hi
    · rw [List.getElem?_append_left hi] at a
      rw [List.getElem?_append_left (by rw [h.yl]; exact hi)] at b
      exact (h.ye i f y a b).cong (fun _ hk => .inl hk) (fun k hk => e k (h.s1 k hk).2.1 (h.s1 k hk).2.2.2.2.2.1 (fun e => (h.s1 k hk).2.2.2.1 (by rw [e]; rfl)))
    · have h0 : i = es.length := by have := (List.getElem?_eq_some_iff.1 a).1; simp at this; omega
      subst h0
      rw [List.getElem?_append_right (by rw [h.yl]; exact Nat.le_refl _), h.yl, Nat.sub_self] at b
      simp at a b
      subst a; subst b
      have hc2 := own h.hc (by decide) (by decide)
      exact ⟨by rw [List.length_append, List.length_singleton]; exact hc2, fun k hk => .inr hk⟩
  · rcases hS with hS | hS
    · obtain ⟨a, b', c, d, f, i, j⟩ := h.s1 k hS
      refine ⟨a, by simp; omega, c, d, f, fun e => ?_, fun e => ?_⟩
      · rcases hk with hk | hk
        · exact i (hk ▸ e)
        · rw [hk] at e; have := Option.some.inj e; omega
      · have h1 : w.heap.size = k := by simpa [Value.ownBlock] using e
        omega
    · obtain ⟨a, b'⟩ := own_lt h.hc hS
      refine ⟨a, by simp; omega, fun e => own_neR h.r h.hc (by decide) (e ▸ hS), own_ne h.hc h.hl (by decide) hS, own_ne h.hc h.hp (by decide) hS, fun e => ?_, fun e => ?_⟩
      · rcases hk with hk | hk
        · exact own_ne h.hc h.he (by decide) hS (hk ▸ e)
        · rw [hk] at e; have := Option.some.inj e; omega
      · have h1 : w.heap.size = k := by simpa [Value.ownBlock] using e
        omega
/-- the first element is begun -/
theorem RA.open {w1 : World} {g c1 : Nat} {ev' : Value} {o o' : Obj} {xs0 : List Value} (ho : o = .cells #[sv []] 9 (0, 0)) (_ho' : o' = .cells #[.slice (some ⟨w.heap.size, 0, none⟩) 1 1] 53 (0, 0)) (h : RA S w B rb (l ++ [⟨t, []⟩]) (.slice (some ⟨g, 0, none⟩) (l.length + 1) c1) pv (xs0 ++ [.slice none 0 0]) p) (hB : B ≤ w.heap.size) (hg : ((w.alloc o).alloc o').grownBy w1 none)
    (he' : w1.ownsRow B 53 1 ev' 1 [.slice (some ⟨w.heap.size, 0, none⟩) 1 1]) (hk : ev'.ownBlock = none ∨ ev'.ownBlock = some (w.heap.size + 2)) :
    RB S (w1.setCell ⟨g, l.length * 2 + 1, none⟩ ev') B rb l t [] [] [] p (.slice (some ⟨g, 0, none⟩) (l.length + 1) c1) pv ev' (.slice (some ⟨w.heap.size, 0, none⟩) 1 1) xs0 [] := by
  have hl := h.hl
  have hx0 : xs0.length = l.length := by have := h.xl; simpa using this
  rw [List.length_append, List.length_singleton, segCells_app _ _ _ _ hx0] at hl
  have hsz := hg.size
  have hrb := h.lt
  simp at hsz
  have hgl := own_lt hl (k := g) rfl
  have e1 : ∀ k, k < w.heap.size → w1.heap[k]? = w.heap[k]? := fun k hk => blk_ag2 hg hk (by simp)
  have e : ∀ k, k < w.heap.size → k ≠ g → (w1.setCell ⟨g, l.length * 2 + 1, none⟩ ev').heap[k]? = w.heap[k]? := fun k hk hr => (heap_setCell_other w1 _ _ _ hr).trans (e1 k hk)
  have hl1 := own_cong hl (w' := w1) (fun k hk => by cases hk; exact e1 g hgl.2)
  have hlen := segCells_len l xs0 hx0
  have hset := own_set hl1 (j := l.length * 2 + 1) (by rw [List.length_append, hlen]; show l.length * 2 + 1 < l.length * 2 + 2; omega) ev'
  have hse : (segCells l xs0 ++ segCells [⟨t, []⟩] [.slice none 0 0]).set (l.length * 2 + 1) ev' = segCells l xs0 ++ [sv t, ev'] := by
    have h1 := set_end1 (segCells l xs0) (sv t) (.slice none 0 0) ev' []
    rw [hlen] at h1; exact h1
  rw [hse] at hset
  have hnew : (w1.setCell ⟨g, l.length * 2 + 1, none⟩ ev').heap[w.heap.size]? = some (.cells #[sv []] 9 (0, 0)) :=
    (heap_setCell_other w1 _ _ _ (by show w.heap.size ≠ g; omega)).trans ((hg.block w.heap.size (by simp; omega) (by simp)).trans ((Below.heap_alloc _ _ _ (by simp)).trans (by rw [ho]; exact heap_alloc_new _ _)))
  have hcc : (w1.setCell ⟨g, l.length * 2 + 1, none⟩ ev').ownsRow B 9 1 (.slice (some ⟨w.heap.size, 0, none⟩) 1 1) 1 [sv []] :=
    ⟨rfl, .inr ⟨w.heap.size, 1, _, rfl, hB, hnew, Nat.le_refl _, by unfold maxLen; omega, rfl, rfl⟩⟩
  refine ⟨h.hB, (e rb hrb (fun e => own_neR h.r hl (by decide) (by rw [e]; rfl))).trans h.r, own_cong h.hp (fun k hk => e k (own_lt h.hp hk).2 (fun e => own_ne h.hp hl (by decide) hk (by rw [e]; rfl))), hset, hx0, fun i s x a b => ?_,
    ?_, rfl, fun i f y a b => by simp at a, hcc, fun k hS => ?_⟩
  · have hi : i < l.length := (List.getElem?_eq_some_iff.1 a).1
    have h1 := h.hes i s x (by rw [List.getElem?_append_left hi]; exact a) (by rw [List.getElem?_append_left (by omega)]; exact b)
    exact h1.cong (fun _ hk => hk) (fun k hk => e k (h.s1 k hk).2.1 (fun e => (h.s1 k hk).2.2.2.1 (by rw [e]; rfl)))
  · refine own_cong he' (fun k hk' => heap_setCell_other w1 _ _ _ (fun e => ?_))
    have e' : k = g := e
    rw [e'] at hk'
    rcases hk with hk | hk
    · rw [hk] at hk'; cases hk'
    · rw [hk] at hk'; have h1 := Option.some.inj hk'; omega
  · obtain ⟨a, b', c, d, f⟩ := h.s1 k hS
    refine ⟨a, by simp; omega, c, d, f, fun e => ?_, fun e => ?_⟩
    · rcases hk with hk | hk
      · rw [hk] at e; cases e
      · rw [hk] at e; have := Option.some.inj e; omega
    · have h1 : w.heap.size = k := by simpa [Value.ownBlock] using e
      omega
end
end Go.Proofs.YteaaiejfieaalaaGreatDoor

/-
  EdiF: contracts of the reader's small functions. No condition beyond those stated.
-/
namespace Go.Proofs.YteaaiejfieaalaaGreatDoor
open Go.RowKit
set_option maxHeartbeats 1000000 in
theorem tagged_any (c : UInt8) (w : World) : Calls Tryz.prog 33 #[.int .u8 (c.toNat : Int)] w fun e w' => e = .returned (.bool (tagB c)) ∧ w = w' := by
  have hE : tagB c = ((decide (65 ≤ c.toNat) && decide (c.toNat ≤ 90)) || (decide (48 ≤ c.toNat) && decide (c.toNat ≤ 57))) := rfl
  have HE := Lib.hid hE
  obtain ⟨n, hn⟩ : ∃ n : Nat, c.toNat = n := ⟨_, rfl⟩
  rw [hn] at HE ⊢
  clear hE hn
  by_cases h1 : 65 ≤ n
  · have d1 : decide ((65 : Int) ≤ (n : Int)) = true := by rw [decide_eq_true_eq]; omega
    by_cases h2 : n ≤ 90
    · have d2 : decide ((n : Int) ≤ 90) = true := by rw [decide_eq_true_eq]; omega
      go_enter Tryz.func33, Tryz.ntmps33
      go_wp2_with fail
      go_ret
      exact ⟨by rw [HE.out]; simp [h1, h2], rfl⟩
    · have d2 : decide ((n : Int) ≤ 90) = false := by rw [decide_eq_false_iff_not]; omega
      have d3 : decide ((48 : Int) ≤ (n : Int)) = true := by rw [decide_eq_true_eq]; omega
      have d4 : decide ((n : Int) ≤ 57) = false := by rw [decide_eq_false_iff_not]; omega
      go_enter Tryz.func33, Tryz.ntmps33
      go_wp2_with fail
      go_ret
      exact ⟨by rw [HE.out]; simp; omega, rfl⟩
  · have d1 : decide ((65 : Int) ≤ (n : Int)) = false := by rw [decide_eq_false_iff_not]; omega
    by_cases h3 : 48 ≤ n
    · have d3 : decide ((48 : Int) ≤ (n : Int)) = true := by rw [decide_eq_true_eq]; omega
      by_cases h4 : n ≤ 57
      · have d4 : decide ((n : Int) ≤ 57) = true := by rw [decide_eq_true_eq]; omega
        go_enter Tryz.func33, Tryz.ntmps33
        go_wp2_with fail
        go_ret
        exact ⟨by rw [HE.out]; simp [h3, h4], rfl⟩
      · have d4 : decide ((n : Int) ≤ 57) = false := by rw [decide_eq_false_iff_not]; omega
        go_enter Tryz.func33, Tryz.ntmps33
        go_wp2_with fail
        go_ret
        exact ⟨by rw [HE.out]; simp [h1, h4], rfl⟩
    · have d3 : decide ((48 : Int) ≤ (n : Int)) = false := by rw [decide_eq_false_iff_not]; omega
      go_enter Tryz.func33, Tryz.ntmps33
      go_wp2_with fail
      go_ret
      exact ⟨by rw [HE.out]; simp [h1, h3], rfl⟩
set_option maxHeartbeats 1000000 in
theorem top_any (rb g n cap : Nat) (w : World) (h : w.cell? ⟨rb, 0, none⟩ = some (.slice (some ⟨g, 0, none⟩) (n + 1) cap)) (hn : n + 1 ≤ cap) (hc : cap ≤ maxLen) : Calls Tryz.prog 59 #[.pointer (some ⟨rb, 0, none⟩)] w fun e w' => e = .returned (.pointer (some ⟨g, n * 2, none⟩)) ∧ w.drew = w' := by
  unfold maxLen at hc
  have hw : IntKind.i64.wrap ((n : Int) + 1 - 1) = (n : Int) := by rw [show (n : Int) + 1 - 1 = (n : Int) by omega]; exact IntWalk.i64_in _ (by omega)
  have hw2 : IntKind.i64.wrap (n : Int) = (n : Int) := IntWalk.i64_in _ (by omega)
  have h0 : (0 : Int) ≤ (n : Int) := by omega
  have h1 : (n : Int) < (n : Int) + 1 := by omega
  go_enter Tryz.func59, Tryz.ntmps59
  go_wp2_with fail
  refine wp_region_plan [(0, false), (1, false), (2, false), (3, false), (4, false), (5, false), (6, false), (7, false), (8, false), (9, false), (10, false), (11, false)] (fun w' => w'.cell? ⟨rb, 0, none⟩ = some (.slice (some ⟨g, 0, none⟩) (n + 1) cap)) (by kernel_rfl) (by kernel_rfl) h ?_
  iterate 12 (refine' plan_val rfl rfl (fun w' hS => ?_) ?_; rotate_left; (focus (go_simp; rfl)); simp only [Act.put, List.setIfInBounds_toArray, List.set_cons_zero, List.set_cons_succ])
  refine plan_nil ?_
  go_wp2_with fail
  go_ret
  exact ⟨rfl, rfl⟩
end Go.Proofs.YteaaiejfieaalaaGreatDoor

/-
  EdiG: contracts of sign. No condition beyond those stated.
-/
namespace Go.Proofs.YteaaiejfieaalaaGreatDoor
open Go.RowKit
theorem cell_one_new2 (w : World) (o : Obj) (x : Value) (t : TypeId) : ∀ (j : Nat) (u : Value), [x][j]? = some u → ((w.alloc o).alloc (.cells #[x] t)).cell? ((⟨w.heap.size + 1, 0, none⟩ : Addr).add j) = some u := by
  intro j u hj
  have h := cell_one_new (w.alloc o) x t j u hj
  rw [World.size_alloc] at h
  exact h
theorem fz_ag {w w1 : World} {g j : Nat} (e : w1.heap[g]? = w.heap[g]?) : w1.frozen? ⟨g, j, none⟩ = w.frozen? ⟨g, j, none⟩ := by simp [World.frozen?, e]
theorem cell_ag {w w1 : World} {g j : Nat} (e : w1.heap[g]? = w.heap[g]?) : w1.cell? ⟨g, j, none⟩ = w.cell? ⟨g, j, none⟩ := World.cell?_of_block (a := ⟨g, j, none⟩) e
/-- a method of the reader as a value -/
def fnV (rb f : Nat) : Value := .func (.func f) #[.pointer (some ⟨rb, 0, none⟩)] #[]
section
variable {S : Nat → Prop} {w : World} {B rb : Nat} {l : List Seg} {t : Str} {es : List (List Str)} {cs : List Str} {p q : Str} {lv pv ev cv : Value} {xs ys : List Value}
set_option maxRecDepth 100000 in
set_option maxHeartbeats 2000000 in
theorem sign_A39 {s : Seg} (h : RA S w B rb (l ++ [s]) lv pv xs p) (_hB : B ≤ w.heap.size) : Calls Tryz.prog 76 #[.pointer (some ⟨rb, 0, none⟩), .int .u8 39] w fun e w' => e = .returned (.tuple #[fnV rb 31, .int .i64 0]) ∧ RA S w' B rb (l ++ [s]) lv (.slice none 0 0) xs [] ∧ Below B w w' := by
  obtain ⟨g, cap, x, xs0, rfl, hc1, hc2, rfl, hx0, k1, k2, z1, z2, _⟩ := h.top
  have c0 := h.c0
  have c1 := h.c1
  have f1 := h.fz 1
  have H := Lib.hid h
  have hrB := h.hB
  clear h k1 k2 z1 z2
  go_enter Tryz.func76, Tryz.ntmps76
  go_wp2_with (go_at_call 59; refine (top_any rb g l.length cap _ c0 hc1 hc2).mono ?_; rintro e w' ⟨rfl, rfl⟩)
  go_ret2
  exact ⟨rfl, H.out.part.fr0 (Fr.drew _ _), (((Below.refl B w).setCell hrB _).drew)⟩
set_option maxRecDepth 100000 in
set_option maxHeartbeats 2000000 in
theorem sign_B39 (h : RB S w B rb l t es cs p q lv pv ev cv xs ys) (hB : B ≤ w.heap.size) : Calls Tryz.prog 76 #[.pointer (some ⟨rb, 0, none⟩), .int .u8 39] w fun e w' => e = .returned (.tuple #[fnV rb 31, .int .i64 0]) ∧ RA (fun k => S k ∨ ev.ownBlock = some k ∨ cv.ownBlock = some k) w' B rb (l ++ [⟨t, es ++ [cs ++ [p]]⟩]) lv (.slice none 0 0) (xs ++ [ev]) [] ∧ Below B w w' :=
  sign_A39 h.close hB
set_option maxRecDepth 100000 in
set_option maxHeartbeats 2000000 in
theorem sign_A43 {xs0 : List Value} (h : RA S w B rb (l ++ [⟨t, []⟩]) lv pv (xs0 ++ [.slice none 0 0]) p) (hB : B ≤ w.heap.size) : Calls Tryz.prog 76 #[.pointer (some ⟨rb, 0, none⟩), .int .u8 43] w fun e w' => e = .returned (.tuple #[fnV rb 92, .int .i64 0]) ∧ (∃ ev cv, RB S w' B rb l t [] [] [] [] lv (.slice none 0 0) ev cv xs0 []) ∧ Below B w w' := by
  obtain ⟨g, cap, x, xs1, rfl, hc1, hc2, hxe, hx0, k1, k2, z1, z2, _⟩ := h.top
  obtain ⟨rfl, hxx⟩ := List.append_inj hxe (by have := h.xl; simp at this; omega)
  obtain rfl : x = .slice none 0 0 := by simpa using hxx.symm
  have c0 := h.c0
  have c1 := h.c1
  have f1 := h.fz 1
  have H := Lib.hid h
  have hrB := h.hB
  clear h hxe hxx
  have ngr : g ≠ rb := fun e => own_neR H.out.r H.out.hl (by decide) (by rw [← e]; rfl)
  obtain ⟨i0, hi, hz0, hz1, hz2⟩ := info_parts einfo_strs
  have HI := Lib.hid hi
  have HZ0 := Lib.hid hz0
  have HZ1 := Lib.hid hz1
  have HZ2 := Lib.hid hz2
  clear hi hz0 hz1 hz2
  go_enter Tryz.func76, Tryz.ntmps76
  go_upto_region 13 with (go_at_call 59; refine (top_any rb g l.length cap _ c0 hc1 hc2).mono ?_; rintro e w' ⟨rfl, rfl⟩)
  obtain ⟨wq, hwq⟩ : ∃ wq, (w.setCell ⟨rb, 1, none⟩ (.slice none 0 0)).drew = wq := ⟨_, rfl⟩
  have HQ : Hid (RA S wq B rb (l ++ [⟨t, []⟩]) (.slice (some ⟨g, 0, none⟩) (l.length + 1) cap) (.slice none 0 0) (xs0 ++ [.slice none 0 0]) []) := Lib.hid (by rw [← hwq]; exact H.out.part.fr0 (Fr.drew _ _))
  have HBQ := Lib.hid (show Below B w wq by rw [← hwq]; exact ((Below.refl B w).setCell hrB _).drew)
  have hag : wq.heap[g]? = w.heap[g]? := by rw [← hwq]; exact heap_setCell_other w _ _ _ ngr
  rw [hwq]
  have sq := HBQ.out.size
  have k2 := (cell_ag hag).trans k2
  have z2 := (fz_ag hag).trans z2
  clear hwq hag c0 c1 f1 k1 z1 H
  have hgq : g < wq.heap.size := cell_lt' k2
  have hgB : B ≤ g := by have h1 := HQ.out.hl; rw [List.length_append, List.length_singleton] at h1; exact (own_lt h1 (k := g) rfl).1
  go_wp2_with ((with_reducible refine wpList_at (.call { callee := .builtin .append, args := #[.tmp 53, .tmp 55], argTypes := #[34, 34] }) rfl ?_); go_loud (refine wpList_append_own_at _ rfl _ _ 34 rfl B 53 i0 (.slice none 0 0) 1 24 Tryz.underlying34 HI.out HZ0.out HZ1.out HZ2.out rfl (by decide) _ _ _ rfl (World.ownsRow_nil _ _ _ _) ⟨wq.heap.size + 1, 0, none⟩ 1 1 [.slice (some ⟨wq.heap.size, 0, none⟩) 1 1] rfl rfl (cell_one_new2 _ _ _ _) (by simp [Value.oneCell']) (by unfold maxLen; omega) (by omega) (by simp; omega) ?_); intro ev' w1 he' hg' _ hk'; have HG1 : Hid (((wq.alloc (.cells #[sv []] 9)).alloc (.cells #[.slice (some ⟨wq.heap.size, 0, none⟩) 1 1] 53)).grownBy w1 none) := hg'; have HK1 : Hid (ev'.ownBlock = none ∨ ev'.ownBlock = some (wq.heap.size + 2)) := Lib.hid (by rcases hk' with h | h; exact .inl h; (right; rw [h]; simp)); have hea := blk_ag2 HG1.out hgq (by simp); have k2' : w1.cell? ⟨g, l.length * 2 + 1, none⟩ = some (.slice none 0 0) := (cell_ag hea).trans k2; have z2' : w1.frozen? ⟨g, l.length * 2 + 1, none⟩ = false := (fz_ag hea).trans z2; have hs1 := hg'.size; simp at hs1; have HE1 : Hid (w1.ownsRow B 53 1 ev' 1 [.slice (some ⟨wq.heap.size, 0, none⟩) 1 1]) := he'; obtain ⟨eg, ec, _, rfl, _⟩ := own_form HE1.out (by omega) (by omega); clear he' hg' hk' hea)
  go_ret2
  have hop := RA.open rfl rfl HQ.out (by omega) HG1.out HE1.out HK1.out
  refine ⟨rfl, ⟨_, _, hop⟩, ?_⟩
  exact HBQ.out.trans (((((Below.refl B wq).alloc (by omega) _).alloc (by simp; omega) _).grown HG1.out (by simp; omega) (by simp)).setCell (by omega) _)
end
end Go.Proofs.YteaaiejfieaalaaGreatDoor

/-
  EdiH: contracts of sign, within a component. No condition beyond those stated.
-/
namespace Go.Proofs.YteaaiejfieaalaaGreatDoor
open Go.RowKit
section
variable {S : Nat → Prop} {w : World} {B rb : Nat} {l : List Seg} {t : Str} {es : List (List Str)} {cs : List Str} {p q : Str} {lv pv ev cv : Value} {xs ys : List Value}
set_option maxRecDepth 100000 in
set_option maxHeartbeats 2000000 in
theorem sign_B43_full (h : RB S w B rb l t es cs p q lv pv ev cv xs ys) (_hB : B ≤ w.heap.size) (h16 : es.length + 1 = 16) : Calls Tryz.prog 76 #[.pointer (some ⟨rb, 0, none⟩), .int .u8 43] w fun e w' => e = .returned (.tuple #[.nilFunc, .int .i64 2]) ∧ Below B w w' := by
  obtain ⟨g, c1, b, c2, d, c3, rfl, rfl, rfl, a1, a2, b1, b2, _, _, _, k2, z2, _⟩ := h.tops
  have d0 := h.c0
  have d1 := h.c1
  have f1 := h.fz 1
  have hrB := h.hB
  have ngr : g ≠ rb := fun e => own_neR h.r h.hl (by decide) (by rw [← e]; rfl)
  have he : es.length = 15 := by omega
  rw [he] at k2 b1
  unfold maxLen at b2
  clear h h16 he
  go_enter Tryz.func76, Tryz.ntmps76
  go_wp2_with (go_at_call 59; refine (top_any rb g l.length c1 _ d0 a1 a2).mono ?_; rintro e w' ⟨rfl, rfl⟩)
  go_ret2
  exact ⟨rfl, (((Below.refl B w).setCell hrB _).drew)⟩
set_option maxRecDepth 100000 in
set_option maxHeartbeats 2000000 in
theorem sign_B43_next (h : RB S w B rb l t es cs p q lv pv ev cv xs ys) (hB : B ≤ w.heap.size) (h16 : es.length + 1 < 16) : Calls Tryz.prog 76 #[.pointer (some ⟨rb, 0, none⟩), .int .u8 43] w fun e w' => e = .returned (.tuple #[fnV rb 92, .int .i64 0]) ∧ (∃ ev' cv', RB (fun k => S k ∨ cv.ownBlock = some k) w' B rb l t (es ++ [cs ++ [p]]) [] [] [] lv (.slice none 0 0) ev' cv' xs (ys ++ [cv])) ∧ Below B w w' := by
  obtain ⟨g, c1, b, c2, d, c3, rfl, rfl, rfl, a1, a2, b1, b2, _, _, _, k2, z2, _⟩ := h.tops
  have d0 := h.c0
  have d1 := h.c1
  have f1 := h.fz 1
  have H := Lib.hid h
  have hrB := h.hB
  have ngr : g ≠ rb := fun e => own_neR h.r h.hl (by decide) (by rw [← e]; rfl)
  have hx16 : ((es.length : Int) + 1 == 16) = false := by rw [beq_eq_false_iff_ne]; omega
  have b2' := b2
  unfold maxLen at b2'
  clear h
  obtain ⟨i0, hi, hz0, hz1, hz2⟩ := info_parts einfo_strs
  have HI := Lib.hid hi
  have HZ0 := Lib.hid hz0
  have HZ1 := Lib.hid hz1
  have HZ2 := Lib.hid hz2
  clear hi hz0 hz1 hz2
  go_enter Tryz.func76, Tryz.ntmps76
  go_upto_region 13 with (go_at_call 59; refine (top_any rb g l.length c1 _ d0 a1 a2).mono ?_; rintro e w' ⟨rfl, rfl⟩)
  obtain ⟨wq, hwq⟩ : ∃ wq, (w.setCell ⟨rb, 1, none⟩ (.slice none 0 0)).drew = wq := ⟨_, rfl⟩
  have HQ : Hid (RB S wq B rb l t es cs p [] (.slice (some ⟨g, 0, none⟩) (l.length + 1) c1) (.slice none 0 0) (.slice (some ⟨b, 0, none⟩) (es.length + 1) c2) (.slice (some ⟨d, 0, none⟩) (cs.length + 1) c3) xs ys) := Lib.hid (by rw [← hwq]; exact H.out.part.fr0 (Fr.drew _ _))
  have HBQ := Lib.hid (show Below B w wq by rw [← hwq]; exact ((Below.refl B w).setCell hrB _).drew)
  have hag : wq.heap[g]? = w.heap[g]? := by rw [← hwq]; exact heap_setCell_other w _ _ _ ngr
  rw [hwq]
  have sq := HBQ.out.size
  have k2 := (cell_ag hag).trans k2
  have z2 := (fz_ag hag).trans z2
  clear hwq hag d0 d1 f1 H
  have hgq : g < wq.heap.size := cell_lt' k2
  have hgB : B ≤ g := (own_lt HQ.out.hl (k := g) rfl).1
  have nbg : b ≠ g := fun e => own_ne HQ.out.he HQ.out.hl (by decide) (k := g) (by rw [← e]; rfl) rfl
  have HBB := Lib.hid (own_lt HQ.out.he (k := b) rfl).1
  go_wp2_with ((with_reducible refine wpList_at (.call { callee := .builtin .append, args := #[.tmp 53, .tmp 55], argTypes := #[34, 34] }) rfl ?_); go_loud (refine wpList_append_own_at _ rfl _ _ 34 rfl B 53 i0 (.slice none 0 0) 1 24 Tryz.underlying34 HI.out HZ0.out HZ1.out HZ2.out rfl (by decide) _ _ _ rfl ((HQ.out.he.alloc _).alloc _) ⟨wq.heap.size + 1, 0, none⟩ 1 1 [.slice (some ⟨wq.heap.size, 0, none⟩) 1 1] rfl rfl (cell_one_new2 _ _ _ _) (by simp [Value.oneCell']) (by unfold maxLen; omega) (by omega) (by simp; omega) ?_); intro ev' w1 he' hg' _ hk'; have HG1 : Hid (((wq.alloc (.cells #[sv []] 9)).alloc (.cells #[.slice (some ⟨wq.heap.size, 0, none⟩) 1 1] 53)).grownBy w1 (some b)) := hg'; have HK1 : Hid (ev'.ownBlock = some b ∨ ev'.ownBlock = some (wq.heap.size + 2)) := Lib.hid (by rcases hk' with h | h; exact .inl h; (right; rw [h]; simp)); have hea := blk_ag2 HG1.out hgq (fun e => nbg (Option.some.inj e)); have k2' : w1.cell? ⟨g, l.length * 2 + 1, none⟩ = some (.slice (some ⟨b, 0, none⟩) (es.length + 1) c2) := (cell_ag hea).trans k2; have z2' : w1.frozen? ⟨g, l.length * 2 + 1, none⟩ = false := (fz_ag hea).trans z2; have hs1 := hg'.size; simp at hs1; have HE1 : Hid (w1.ownsRow B 53 1 ev' (es.length + 1 + 1) (ys ++ [.slice (some ⟨d, 0, none⟩) (cs.length + 1) c3] ++ [.slice (some ⟨wq.heap.size, 0, none⟩) 1 1])) := he'; obtain ⟨eg, ec, _, rfl, _⟩ := own_form HE1.out (by omega) (by omega); clear he' hg' hk' hea)
  go_ret2
  have hop := RB.next rfl rfl HQ.out (by omega) HG1.out HE1.out HK1.out
  refine ⟨rfl, ⟨_, _, hop⟩, ?_⟩
  exact HBQ.out.trans (((((Below.refl B wq).alloc (by omega) _).alloc (by simp; omega) _).grown HG1.out (by simp; omega) (fun k hk => by cases hk; exact HBB.out)).setCell (by omega) _)
set_option maxRecDepth 100000 in
set_option maxHeartbeats 2000000 in
theorem sign_B58_full (h : RB S w B rb l t es cs p q lv pv ev cv xs ys) (_hB : B ≤ w.heap.size) (h8 : cs.length + 1 = 8) : Calls Tryz.prog 76 #[.pointer (some ⟨rb, 0, none⟩), .int .u8 58] w fun e w' => e = .returned (.tuple #[.nilFunc, .int .i64 2]) ∧ Below B w w' := by
  obtain ⟨g, c1, b, c2, d, c3, rfl, rfl, rfl, a1, a2, b1, b2, c1', c2', _, k2, z2, k3, z3, _⟩ := h.tops
  have d0 := h.c0
  have d1 := h.c1
  have f1 := h.fz 1
  have H := Lib.hid h
  have hrB := h.hB
  have ngr : g ≠ rb := fun e => own_neR h.r h.hl (by decide) (by rw [← e]; rfl)
  have nbr : b ≠ rb := fun e => own_neR h.r h.he (by decide) (by rw [← e]; rfl)
  have hc : cs.length = 7 := by omega
  rw [hc] at k3 c1'
  unfold maxLen at b2 c2'
  have hw : IntKind.i64.wrap ((es.length : Int) + 1 - 1) = (es.length : Int) := by rw [show (es.length : Int) + 1 - 1 = (es.length : Int) by omega]; exact IntWalk.i64_in _ (by omega)
  have hw2 : IntKind.i64.wrap (es.length : Int) = (es.length : Int) := IntWalk.i64_in _ (by omega)
  have h0 : (0 : Int) ≤ (es.length : Int) := by omega
  have h1 : (es.length : Int) < (es.length : Int) + 1 := by omega
  clear h h8 hc H
  go_enter Tryz.func76, Tryz.ntmps76
  go_upto_region 4 with (go_at_call 59; refine (top_any rb g l.length c1 _ d0 a1 a2).mono ?_; rintro e w' ⟨rfl, rfl⟩)
  obtain ⟨wq, hwq⟩ : ∃ wq, (w.setCell ⟨rb, 1, none⟩ (.slice none 0 0)).drew = wq := ⟨_, rfl⟩
  have HBQ := Lib.hid (show Below B w wq by rw [← hwq]; exact ((Below.refl B w).setCell hrB _).drew)
  have hag : wq.heap[g]? = w.heap[g]? := by rw [← hwq]; exact heap_setCell_other w _ _ _ ngr
  have hab : wq.heap[b]? = w.heap[b]? := by rw [← hwq]; exact heap_setCell_other w _ _ _ nbr
  rw [hwq]
  have k2 := (cell_ag hag).trans k2
  have k3 := (cell_ag hab).trans k3
  clear hwq hag hab d0 d1 f1 z2 z3
  refine wp_region_plan [(0, false), (1, false), (2, false), (3, false), (4, false), (5, false), (6, false), (7, false), (8, false), (9, false), (10, false), (11, false)] (fun w' => w'.cell? ⟨g, l.length * 2 + 1, none⟩ = some (.slice (some ⟨b, 0, none⟩) (es.length + 1) c2)) (by kernel_rfl) (by kernel_rfl) k2 ?_
  iterate 12 (refine' plan_val rfl rfl (fun w' hS => ?_) ?_; rotate_left; (focus (go_simp; rfl)); simp only [Act.put, List.setIfInBounds_toArray, List.set_cons_zero, List.set_cons_succ])
  refine plan_nil ?_
  go_wp2_with fail
  go_ret2
  exact ⟨rfl, HBQ.out.drew⟩
end
end Go.Proofs.YteaaiejfieaalaaGreatDoor

/-
  EdiI: contracts of sign at a colon, and of put. No condition beyond those stated.
-/
namespace Go.Proofs.YteaaiejfieaalaaGreatDoor
open Go.RowKit
theorem fold_push' : ∀ (l : List UInt8) (s : ByteArray), (l.map fun b => (b.toNat : Int)).foldl (fun r n => r.push (UInt8.ofNat n.toNat)) s = ⟨s.data ++ l.toArray⟩
  | [], s => by simp
  | b :: l, s => by
    rw [List.map_cons, List.foldl_cons, fold_push' l]
    simp [ByteArray.push]
/-- owned bytes as a string -/
theorem conv_own {w : World} {B : Nat} {v : Value} {l : Str} (h : OwnS w B v l) : (convert 39 9 v).run Tryz.prog w = .ok (sv l) w := by
  have h' := h
  obtain ⟨_, ⟨rfl, h0⟩ | ⟨g, cap, cur, rfl, hg, hh, hc, hm, hs', hx⟩⟩ := h'
  · rw [run_convert_bytes_string w 39 9 5 _ 0 0 Tryz.underlying39 Tryz.underlying5 Tryz.underlying9, List.length_eq_zero_iff.1 h0]
    rfl
  · rw [run_convert_bytes_string w 39 9 5 _ l.length cap Tryz.underlying39 Tryz.underlying5 Tryz.underlying9]
    have hl := run_loadCells_list (P := Tryz.prog) w ⟨g, 0, none⟩ (l.map bv) (fun j v hv => by rw [Addr.add_mid, Nat.zero_add]; exact own_cell h hv)
    rw [List.length_map] at hl
    have e1 : l.map bv = (l.map fun b => (b.toNat : Int)).map (Value.int .u8) := by simp [bv]
    rw [e1] at hl
    rw [run_bytesToString w _ l.length cap _ hl, fold_push']
    simp [sv, ByteArray.empty, ByteArray.emptyWithCapacity]
    try rfl
section
variable {S : Nat → Prop} {w : World} {B rb : Nat} {l : List Seg} {t : Str} {es : List (List Str)} {cs : List Str} {p q : Str} {lv pv ev cv : Value} {xs ys : List Value}
set_option maxRecDepth 100000 in
set_option maxHeartbeats 2000000 in
theorem sign_B58_next (h : RB S w B rb l t es cs p q lv pv ev cv xs ys) (hB : B ≤ w.heap.size) (h8 : cs.length + 1 < 8) : Calls Tryz.prog 76 #[.pointer (some ⟨rb, 0, none⟩), .int .u8 58] w fun e w' => e = .returned (.tuple #[fnV rb 92, .int .i64 0]) ∧ (∃ cv', RB S w' B rb l t es (cs ++ [p]) [] [] lv (.slice none 0 0) ev cv' xs ys) ∧ Below B w w' := by
  obtain ⟨g, c1, b, c2, d, c3, rfl, rfl, rfl, a1, a2, b1, b2, c1', c2', _, k2, z2, k3, z3, _⟩ := h.tops
  have d0 := h.c0
  have d1 := h.c1
  have f1 := h.fz 1
  have H := Lib.hid h
  have hrB := h.hB
  have ngr : g ≠ rb := fun e => own_neR h.r h.hl (by decide) (by rw [← e]; rfl)
  have nbr : b ≠ rb := fun e => own_neR h.r h.he (by decide) (by rw [← e]; rfl)
  have hx8 : ((cs.length : Int) + 1 == 8) = false := by rw [beq_eq_false_iff_ne]; omega
  unfold maxLen at b2 c2'
  have hw : IntKind.i64.wrap ((es.length : Int) + 1 - 1) = (es.length : Int) := by rw [show (es.length : Int) + 1 - 1 = (es.length : Int) by omega]; exact IntWalk.i64_in _ (by omega)
  have hw2 : IntKind.i64.wrap (es.length : Int) = (es.length : Int) := IntWalk.i64_in _ (by omega)
  have h0 : (0 : Int) ≤ (es.length : Int) := by omega
  have h1 : (es.length : Int) < (es.length : Int) + 1 := by omega
  clear h
  obtain ⟨i0, hi, hz0, hz1, hz2⟩ := info_parts einfo_str
  have HI := Lib.hid hi
  have HZ0 := Lib.hid hz0
  have HZ1 := Lib.hid hz1
  have HZ2 := Lib.hid hz2
  clear hi hz0 hz1 hz2
  go_enter Tryz.func76, Tryz.ntmps76
  go_upto_region 4 with (go_at_call 59; refine (top_any rb g l.length c1 _ d0 a1 a2).mono ?_; rintro e w' ⟨rfl, rfl⟩)
  obtain ⟨wq, hwq⟩ : ∃ wq, (w.setCell ⟨rb, 1, none⟩ (.slice none 0 0)).drew = wq := ⟨_, rfl⟩
  have HQ0 : Hid (RB S wq B rb l t es cs p [] (.slice (some ⟨g, 0, none⟩) (l.length + 1) c1) (.slice none 0 0) (.slice (some ⟨b, 0, none⟩) (es.length + 1) c2) (.slice (some ⟨d, 0, none⟩) (cs.length + 1) c3) xs ys) := Lib.hid (by rw [← hwq]; exact H.out.part.fr0 (Fr.drew _ _))
  have HBQ0 := Lib.hid (show Below B w wq by rw [← hwq]; exact ((Below.refl B w).setCell hrB _).drew)
  have hag : wq.heap[g]? = w.heap[g]? := by rw [← hwq]; exact heap_setCell_other w _ _ _ ngr
  have hab : wq.heap[b]? = w.heap[b]? := by rw [← hwq]; exact heap_setCell_other w _ _ _ nbr
  rw [hwq]
  have k2 := (cell_ag hag).trans k2
  have k3 := (cell_ag hab).trans k3
  have z3 := (fz_ag hab).trans z3
  clear hwq hag hab d0 d1 f1 z2 H
  refine wp_region_plan [(0, false), (1, false), (2, false), (3, false), (4, false), (5, false), (6, false), (7, false), (8, false), (9, false), (10, false), (11, false)] (fun w' => w'.cell? ⟨g, l.length * 2 + 1, none⟩ = some (.slice (some ⟨b, 0, none⟩) (es.length + 1) c2)) (by kernel_rfl) (by kernel_rfl) k2 ?_
  obtain ⟨wd, hwd⟩ : ∃ wd, wq.drew = wd := ⟨_, rfl⟩
  have HQ := Lib.hid (show RB S wd B rb l t es cs p [] (.slice (some ⟨g, 0, none⟩) (l.length + 1) c1) (.slice none 0 0) (.slice (some ⟨b, 0, none⟩) (es.length + 1) c2) (.slice (some ⟨d, 0, none⟩) (cs.length + 1) c3) xs ys by rw [← hwd]; exact HQ0.out.fr0 (Fr.drew _ _))
  have HBQ := Lib.hid (show Below B w wd by rw [← hwd]; exact HBQ0.out.drew)
  have k3 : wd.cell? ⟨b, es.length, none⟩ = some (.slice (some ⟨d, 0, none⟩) (cs.length + 1) c3) := by rw [← hwd]; exact k3
  have z3 : wd.frozen? ⟨b, es.length, none⟩ = false := by rw [← hwd]; exact z3
  rw [hwd]
  have sq := HBQ.out.size
  clear hwd HQ0 HBQ0
  iterate 12 (refine' plan_val rfl rfl (fun w' hS => ?_) ?_; rotate_left; (focus (go_simp; rfl)); simp only [Act.put, List.setIfInBounds_toArray, List.set_cons_zero, List.set_cons_succ])
  refine plan_nil ?_
  clear k2 hw hw2
  have hbq : b < wd.heap.size := cell_lt' k3
  have hbB : B ≤ b := (own_lt HQ.out.he (k := b) rfl).1
  have ndb : d ≠ b := fun e => own_ne HQ.out.hc HQ.out.he (by decide) (k := b) (by rw [← e]; rfl) rfl
  have HDB := Lib.hid (own_lt HQ.out.hc (k := d) rfl).1
  go_wp2_with ((with_reducible refine wpList_at (.call { callee := .builtin .append, args := #[.tmp 33, .tmp 34], argTypes := #[53, 53] }) rfl ?_); go_loud (refine wpList_append_own_at _ rfl _ _ 53 rfl B 9 i0 (.string ⟨#[]⟩) 1 16 Tryz.underlying53 HI.out HZ0.out HZ1.out HZ2.out rfl (by decide) _ _ _ rfl (HQ.out.hc.alloc _) ⟨wd.heap.size, 0, none⟩ 1 1 [sv []] rfl rfl (cell_one_new _ _ _) (by simp [Value.oneCell', sv]) (by unfold maxLen; omega) (by omega) (by simp; omega) ?_); intro cv' w1 he' hg' _ hk'; have HG1 : Hid ((wd.alloc (.cells #[sv []] 9)).grownBy w1 (some d)) := hg'; have HK1 : Hid (cv'.ownBlock = some d ∨ cv'.ownBlock = some (wd.heap.size + 1)) := Lib.hid (by rcases hk' with h | h; exact .inl h; (right; rw [h]; simp)); have hea := blk_ag HG1.out hbq (fun e => ndb (Option.some.inj e)); have k3' : w1.cell? ⟨b, es.length, none⟩ = some (.slice (some ⟨d, 0, none⟩) (cs.length + 1) c3) := (cell_ag hea).trans k3; have z3' : w1.frozen? ⟨b, es.length, none⟩ = false := (fz_ag hea).trans z3; have hs1 := hg'.size; simp at hs1; have HE1 : Hid (w1.ownsRow B 9 1 cv' (cs.length + 1 + 1) ((cs ++ [p]).map sv ++ [sv []])) := he'; obtain ⟨eg, ec, _, rfl, _⟩ := own_form HE1.out (by omega) (by omega); clear he' hg' hk' hea)
  go_ret2
  have hop := RB.colon HQ.out HG1.out HE1.out HK1.out
  refine ⟨rfl, ⟨_, hop⟩, ?_⟩
  exact HBQ.out.trans ((((Below.refl B wd).alloc (by omega) _).grown HG1.out (by simp; omega) (fun k hk => by cases hk; exact HDB.out)).setCell (by omega) _)
theorem len_int (n : Nat) (h : n ≠ 256) : ((n : Int) == 256) = false := by rw [beq_eq_false_iff_ne]; omega
set_option maxRecDepth 100000 in
set_option maxHeartbeats 2000000 in
theorem put_full (h : RB S w B rb l t es cs p p lv pv ev cv xs ys) (c : UInt8) (h256 : p.length = 256) : Calls Tryz.prog 105 #[.pointer (some ⟨rb, 0, none⟩), .int .u8 (c.toNat : Int)] w fun e w' => e = .returned (.tuple #[.nilFunc, .int .i64 2]) ∧ Below B w w' := by
  have d1 := h.c1
  obtain ⟨pg, pc, _, hpe, _⟩ := own_form h.hp (by omega) (by omega)
  rw [hpe, h256] at d1
  clear h hpe
  go_enter Tryz.func105, Tryz.ntmps105
  go_wp2_with fail
  go_ret2
  exact ⟨rfl, Below.refl _ _⟩
end
end Go.Proofs.YteaaiejfieaalaaGreatDoor

/-
  EdiJ: contract of put. No condition beyond those stated.
-/
namespace Go.Proofs.YteaaiejfieaalaaGreatDoor
open Go.RowKit
section
variable {S : Nat → Prop} {w : World} {B rb : Nat} {l : List Seg} {t : Str} {es : List (List Str)} {cs : List Str} {p q : Str} {lv pv ev cv : Value} {xs ys : List Value}
set_option maxRecDepth 100000 in
set_option maxHeartbeats 4000000 in
theorem put_ok (h : RB S w B rb l t es cs p p lv pv ev cv xs ys) (c : UInt8) (hB : B ≤ w.heap.size) (h256 : p.length < 256) : Calls Tryz.prog 105 #[.pointer (some ⟨rb, 0, none⟩), .int .u8 (c.toNat : Int)] w fun e w' => e = .returned (.tuple #[fnV rb 92, .int .i64 0]) ∧ (∃ pv', RB S w' B rb l t es cs (p ++ [c]) (p ++ [c]) lv pv' ev cv xs ys) ∧ Below B w w' := by
  have d1 := h.c1
  have f1 := h.fz 1
  have H := Lib.hid h
  have hrB := h.hB
  obtain ⟨pa, pc, hpe⟩ : ∃ pa pc, pv = .slice pa p.length pc := by
    obtain ⟨_, ⟨h1, h2⟩ | ⟨g, cap, _, h1, _⟩⟩ := h.hp
    · exact ⟨none, 0, by rw [h1, h2]⟩
    · exact ⟨_, cap, h1⟩
  subst hpe
  have hx := len_int p.length (by omega)
  have hrw := h.lt
  have nprn : (Value.slice pa p.length pc).ownBlock ≠ some rb := own_neR h.r h.hp (by decide)
  obtain ⟨cn, hcn⟩ : ∃ n : Int, (c.toNat : Int) = n := ⟨_, rfl⟩
  have HCN := Lib.hid hcn
  rw [hcn]
  clear h hcn
  obtain ⟨i0, hi, hz0, hz1, hz2⟩ := info_parts einfo_u8
  have HI := Lib.hid hi
  have HZ0 := Lib.hid hz0
  have HZ1 := Lib.hid hz1
  have HZ2 := Lib.hid hz2
  clear hi hz0 hz1 hz2
  go_enter Tryz.func105, Tryz.ntmps105
  go_upto_region 4 with ((with_reducible refine wpList_at (.call { callee := .builtin .append, args := #[.tmp 17, .tmp 19], argTypes := #[39, 39] }) rfl ?_); go_loud (refine wpList_append_own_at _ rfl _ _ 39 rfl B 5 i0 (.int .u8 0) 1 1 Tryz.underlying39 HI.out HZ0.out HZ1.out HZ2.out rfl (by decide) _ _ _ rfl (World.ownsRow.alloc (show w.ownsRow B 5 1 (.slice pa p.length pc) p.length (p.map bv) from H.out.hp) _) ⟨w.heap.size, 0, none⟩ 1 1 [.int .u8 cn] rfl rfl (cell_one_new _ _ _) (by simp [Value.oneCell']) (by unfold maxLen; omega) (by omega) (by simp; omega) ?_); intro pv' w1 he' hg' _ hk'; have HG1 : Hid ((w.alloc (.cells #[.int .u8 cn] 5)).grownBy w1 (Value.slice pa p.length pc).ownBlock) := hg'; have HK1 : Hid (pv'.ownBlock = (Value.slice pa p.length pc).ownBlock ∨ pv'.ownBlock = some (w.heap.size + 1)) := Lib.hid (by rcases hk' with h | h; exact .inl h; (right; rw [h]; simp)); have hea := blk_ag HG1.out hrw nprn; have d1' : w1.cell? ⟨rb, 1, none⟩ = some (.slice pa p.length pc) := (cell_ag hea).trans d1; have f1' : w1.frozen? ⟨rb, 1, none⟩ = false := (fz_ag hea).trans f1; have hs1 := hg'.size; simp at hs1; have HE1 : Hid (OwnS w1 B pv' (p ++ [c])) := Lib.hid (by unfold OwnS; rw [List.length_append, List.length_singleton, List.map_append, List.map_singleton, bv, HCN.out]; exact he'); obtain ⟨pg2, pc2, _, rfl, _⟩ := own_form (show w1.ownsRow B 5 1 pv' (p.length + 1) (p.map bv ++ [.int .u8 cn]) from he') (by omega) (by omega); clear he' hg' hk' hea)
  obtain ⟨wq, hwq⟩ : ∃ wq, w1.setCell ⟨rb, 1, none⟩ (.slice (some ⟨pg2, 0, none⟩) (p.length + 1) pc2) = wq := ⟨_, rfl⟩
  have HQ : Hid (RB S wq B rb l t es cs p (p ++ [c]) lv (.slice (some ⟨pg2, 0, none⟩) (p.length + 1) pc2) ev cv xs ys) := Lib.hid (by rw [← hwq]; exact H.out.grow HG1.out HE1.out HK1.out)
  have HBQ := Lib.hid (show Below B w wq by rw [← hwq]; exact (((Below.refl B w).alloc (by omega) _).grown HG1.out (by simp; omega) (fun k hk => (own_lt H.out.hp hk).1)).setCell hrB _)
  rw [hwq]
  have sq := HBQ.out.size
  clear hwq d1 f1 H HG1 HK1 HE1 d1' f1' hs1 nprn hrw hx
  obtain ⟨g, c1, b, c2, d, c3, rfl, rfl, rfl, a1, a2, b1, b2, c1', c2', _, k2, z2, k3, z3, k4, z4⟩ := HQ.out.tops
  have d0 := HQ.out.c0
  have d1 := HQ.out.c1
  have b2' := b2
  unfold maxLen at b2' c2'
  have hw : IntKind.i64.wrap ((es.length : Int) + 1 - 1) = (es.length : Int) := by rw [show (es.length : Int) + 1 - 1 = (es.length : Int) by omega]; exact IntWalk.i64_in _ (by omega)
  have hw2 : IntKind.i64.wrap (es.length : Int) = (es.length : Int) := IntWalk.i64_in _ (by omega)
  have h0 : (0 : Int) ≤ (es.length : Int) := by omega
  have h1 : (es.length : Int) < (es.length : Int) + 1 := by omega
  clear z2 z3
  refine wp_region_plan [(0, false), (5, false), (1, true), (2, false), (3, false), (4, false), (6, true), (7, false), (8, false), (9, false), (10, false), (11, false), (12, false), (13, false), (14, false)]
    (fun w' => w'.cell? ⟨g, l.length * 2 + 1, none⟩ = some (.slice (some ⟨b, 0, none⟩) (es.length + 1) c2) ∧ w'.cell? ⟨b, es.length, none⟩ = some (.slice (some ⟨d, 0, none⟩) (cs.length + 1) c3)) (by kernel_rfl) (by kernel_rfl) ⟨k2, k3⟩ ?_
  have k2' : wq.drew.cell? ⟨g, l.length * 2 + 1, none⟩ = some (.slice (some ⟨b, 0, none⟩) (es.length + 1) c2) := k2
  have k3' : wq.drew.cell? ⟨b, es.length, none⟩ = some (.slice (some ⟨d, 0, none⟩) (cs.length + 1) c3) := k3
  iterate 2 (refine' plan_val rfl rfl (fun w' hS => ?_) ?_; rotate_left; (focus (go_simp; rfl)); simp only [Act.put, List.setIfInBounds_toArray, List.set_cons_zero, List.set_cons_succ])
  refine plan_do rfl (fun K hK => ?_)
  go_wp2_with fail
  refine (top_any rb g l.length c1 wq.drew d0 a1 a2).mono ?_
  rintro e w' ⟨rfl, rfl⟩
  go_wp2_with fail
  refine hK _ _ ⟨k2, k3⟩ ?_
  clear hK K
  iterate 3 (refine' plan_val rfl rfl (fun w' hS => ?_) ?_; rotate_left; (focus (obtain ⟨hS1, hS2⟩ := hS; go_simp; rfl)); simp only [Act.put, List.setIfInBounds_toArray, List.set_cons_zero, List.set_cons_succ])
  refine plan_do rfl (fun K hK => ?_)
  go_wp2_with fail
  refine (top_any rb g l.length c1 wq.drew.drew d0 a1 a2).mono ?_
  rintro e w' ⟨rfl, rfl⟩
  go_wp2_with fail
  refine hK _ _ ⟨k2, k3⟩ ?_
  clear hK K
  iterate 8 (refine' plan_val rfl rfl (fun w' hS => ?_) ?_; rotate_left; (focus (obtain ⟨hS1, hS2⟩ := hS; go_simp; rfl)); simp only [Act.put, List.setIfInBounds_toArray, List.set_cons_zero, List.set_cons_succ])
  refine plan_nil ?_
  obtain ⟨wd, hwd⟩ : ∃ wd, wq.drew.drew.drew = wd := ⟨_, rfl⟩
  have HQ2 := Lib.hid (show RB S wd B rb l t es cs p (p ++ [c]) (.slice (some ⟨g, 0, none⟩) (l.length + 1) c1) (.slice (some ⟨pg2, 0, none⟩) (p.length + 1) pc2) (.slice (some ⟨b, 0, none⟩) (es.length + 1) c2) (.slice (some ⟨d, 0, none⟩) (cs.length + 1) c3) xs ys by rw [← hwd]; exact ((HQ.out.fr0 (Fr.drew _ _)).fr0 (Fr.drew _ _)).fr0 (Fr.drew _ _))
  have HBQ2 := Lib.hid (show Below B w wd by rw [← hwd]; exact HBQ.out.drew.drew.drew)
  have d1 : wd.cell? ⟨rb, 1, none⟩ = some (.slice (some ⟨pg2, 0, none⟩) (p.length + 1) pc2) := by rw [← hwd]; exact d1
  have k4 : wd.cell? ⟨d, cs.length, none⟩ = some (.string ⟨p.toArray⟩) := by rw [← hwd]; exact k4
  have z4 : wd.frozen? ⟨d, cs.length, none⟩ = false := by rw [← hwd]; exact z4
  rw [hwd]
  clear hwd HQ HBQ k2 k3 k2' k3' d0 hw hw2 h0 h1
  have hw : IntKind.i64.wrap ((cs.length : Int) + 1 - 1) = (cs.length : Int) := by rw [show (cs.length : Int) + 1 - 1 = (cs.length : Int) by omega]; exact IntWalk.i64_in _ (by omega)
  have hw2 : IntKind.i64.wrap (cs.length : Int) = (cs.length : Int) := IntWalk.i64_in _ (by omega)
  have h0 : (0 : Int) ≤ (cs.length : Int) := by omega
  have h1 : (cs.length : Int) < (cs.length : Int) + 1 := by omega
  have hcv : (convert 39 9 (.slice (some ⟨pg2, 0, none⟩) (p.length + 1) pc2)).run Tryz.prog wd = .ok (.string ⟨(p ++ [c]).toArray⟩) wd := conv_own HQ2.out.hp
  have HDB := Lib.hid (own_lt HQ2.out.hc (k := d) rfl).1
  go_wp2_with fail
  go_ret2
  exact ⟨rfl, ⟨_, HQ2.out.setlast⟩, HBQ2.out.setCell HDB.out _⟩
end
end Go.Proofs.YteaaiejfieaalaaGreatDoor
