/-
  Texts EdiR2, EdiR3, EdiF, EdiX, EdiG, EdiH, EdiI, EdiY1, EdiY2, EdiY3, one behind the other. No condition beyond those stated in each.
-/
import Derived.Test.YtgfijlamhjjecaaGreatDoorMt1
import Derived.Lib.ConvBytes
import Derived.Deep.CutBlock
import Derived.Deep.CutRange
import Derived.Laws.BytesString
import Derived.Defers
import Derived.Laws.Pointers
import Derived.Laws.LoneSync
import Derived.RegionCalls
import Derived.ChangeAlike
import Derived.Lib.SliceRun
import Derived.Laws.IdiomStrings
namespace Go.Proofs.YtgfijlamhjjecaaGreatDoor
open Go.RowKit
section
variable {S : Nat → Prop} {w w' : World} {B rb : Nat} {l : List Seg} {t : Str} {es : List (List Str)} {cs : List Str} {p q : Str} {lv pv ev cv : Value} {xs ys : List Value}
theorem set_end {α : Type} (l : List α) (a b : α) (r : List α) : (l ++ a :: r).set l.length b = l ++ b :: r := by
  induction l with
  | nil => rfl
  | cons c l ih => simp only [List.cons_append, List.length_cons, List.set_cons_succ, ih]
theorem set_end1 {α : Type} (l : List α) (x a b : α) (r : List α) : (l ++ x :: a :: r).set (l.length + 1) b = l ++ x :: b :: r := by
  simp
theorem snoc_of {α : Type} {l : List α} {n : Nat} (h : l.length = n + 1) : ∃ l0 a, l = l0 ++ [a] ∧ l0.length = n := by
  have hne : l ≠ [] := by intro e; rw [e] at h; simp at h
  exact ⟨l.dropLast, l.getLast hne, (List.dropLast_concat_getLast hne).symm, by simp; omega⟩
theorem RA.top {s : Seg} (h : RA S w B rb (l ++ [s]) lv pv xs p) : ∃ g cap x xs0, lv = .slice (some ⟨g, 0, none⟩) (l.length + 1) cap ∧ l.length + 1 ≤ cap ∧ cap ≤ maxLen ∧ xs = xs0 ++ [x] ∧ xs0.length = l.length ∧ w.cell? ⟨g, l.length * 2, none⟩ = some (sv s.tag) ∧ w.cell? ⟨g, l.length * 2 + 1, none⟩ = some x ∧ w.frozen? ⟨g, l.length * 2, none⟩ = false ∧ w.frozen? ⟨g, l.length * 2 + 1, none⟩ = false ∧ ElemsO S B w x s.elems := by
  have hl := h.hl
  rw [List.length_append, List.length_singleton] at hl
  obtain ⟨g, cap, cur, rfl, hg, hh, hc, hm, _, _⟩ := own_form hl (by omega) (by omega)
  have hx := h.xl
  rw [List.length_append, List.length_singleton] at hx
  obtain ⟨xs0, x, rfl, hdl⟩ := snoc_of hx
  have hgx : (xs0 ++ [x])[l.length]? = some x := by rw [List.getElem?_append_right (by omega), hdl]; simp
  have key := segCells_get (l ++ [s]) (xs0 ++ [x]) l.length s x (by simp) hgx
  refine ⟨g, cap, x, xs0, rfl, hc, hm, rfl, hdl, own_cell hl key.1, own_cell hl key.2, own_frozen hl _, own_frozen hl _, h.hes l.length s _ (by simp) hgx⟩
theorem RA.settag {t t' : Str} {g cap : Nat} (h : RA S w B rb (l ++ [⟨t, []⟩]) (.slice (some ⟨g, 0, none⟩) (l.length + 1) cap) pv xs p) : RA S (w.setCell ⟨g, l.length * 2, none⟩ (sv t')) B rb (l ++ [⟨t', []⟩]) (.slice (some ⟨g, 0, none⟩) (l.length + 1) cap) pv xs p := by
  have hl := h.hl
  obtain ⟨g', cap', x, xs0, he, _, _, rfl, hx0, _⟩ := h.top
  cases he
  rw [List.length_append, List.length_singleton] at hl
  have e : ∀ k, k ≠ g → (w.setCell ⟨g, l.length * 2, none⟩ (sv t')).heap[k]? = w.heap[k]? := fun k hk => heap_setCell_other w _ _ _ hk
  have ngr : rb ≠ g := fun e => own_neR h.r hl (by decide) (by rw [e]; rfl)
  have hlen := segCells_len l xs0 hx0
  have hset := own_set hl (j := l.length * 2) (by rw [segCells_app _ _ _ _ hx0, List.length_append, hlen]; simp [segCells]) (sv t')
  have hse : (segCells (l ++ [⟨t, []⟩]) (xs0 ++ [x])).set (l.length * 2) (sv t') = segCells (l ++ [⟨t', []⟩]) (xs0 ++ [x]) := by
    rw [segCells_app _ _ _ _ hx0, segCells_app _ _ _ _ hx0, ← hlen]
    exact set_end _ _ _ _
  rw [hse] at hset
  refine ⟨h.hB, (e rb ngr).trans h.r, own_cong h.hp (fun k hk => e k (fun e => own_ne h.hp hl (by decide) hk (by rw [e]; rfl))), by rw [List.length_append, List.length_singleton]; exact hset, by simp [hx0], fun i s y a b => ?_, fun k hk => ?_⟩
  · have hes : ElemsO S B w y s.elems := by
      rcases Nat.lt_or_ge i l.length with hi | hi
      · exact h.hes i s y (by rw [List.getElem?_append_left hi] at a ⊢; exact a) b
      · have h0 : i = l.length := by have := (List.getElem?_eq_some_iff.1 a).1; simp at this; omega
        subst h0
        have := h.hes l.length ⟨t, []⟩ y (by simp) b
        simp at a
        subst a
        exact this
    exact hes.cong (fun _ hk => hk) (fun k hk => e k (fun e => (h.s1 k hk).2.2.2.1 (by rw [e]; rfl)))
  · obtain ⟨a, b, c⟩ := h.s1 k hk
    exact ⟨a, by simpa using b, c⟩
theorem RB.close (h : RB S w B rb l t es cs p q lv pv ev cv xs ys) : RA (fun k => S k ∨ ev.ownBlock = some k ∨ cv.ownBlock = some k) w B rb (l ++ [⟨t, es ++ [cs ++ [p]]⟩]) lv pv (xs ++ [ev]) q := by
  refine ⟨h.hB, h.r, h.hp, by rw [List.length_append, List.length_singleton, segCells_app _ _ _ _ h.xl]; exact h.hl, by simp [h.xl], fun i s x a b => ?_, fun k hk => ?_⟩
  · rcases Nat.lt_or_ge i l.length with hi | hi
    · rw [List.getElem?_append_left hi] at a
      rw [List.getElem?_append_left (by rw [h.xl]; exact hi)] at b
      exact (h.old i s x a b).cong (fun _ hk => .inl hk) (fun _ _ => rfl)
    · have h0 : i = l.length := by have := (List.getElem?_eq_some_iff.1 a).1; simp at this; omega
      subst h0
      rw [List.getElem?_append_right (by rw [h.xl]; exact Nat.le_refl _), h.xl, Nat.sub_self] at b
      simp at a b
      subst a; subst b
      refine ⟨ys ++ [cv], (by have := h.he; rw [List.length_append, List.length_singleton]; exact this), (fun k hk => .inr (.inl hk)), by simp [h.yl], fun i e y a b => ?_⟩
      rcases Nat.lt_or_ge i es.length with hi | hi
      · rw [List.getElem?_append_left hi] at a
        rw [List.getElem?_append_left (by rw [h.yl]; exact hi)] at b
        exact (h.ye i e y a b).cong (fun _ hk => .inl hk) (fun _ _ => rfl)
      · have h0 : i = es.length := by have := (List.getElem?_eq_some_iff.1 a).1; simp at this; omega
        subst h0
        rw [List.getElem?_append_right (by rw [h.yl]; exact Nat.le_refl _), h.yl, Nat.sub_self] at b
        simp at a b
        subst a; subst b
        exact ⟨by have := h.hc; rw [List.length_append, List.length_singleton]; exact this, fun k hk => .inr (.inr hk)⟩
  · rcases hk with hk | hk | hk
    · obtain ⟨a, b, c, d, e, _⟩ := h.s1 k hk
      exact ⟨a, b, c, d, e⟩
    · obtain ⟨a, b⟩ := own_lt h.he hk
      exact ⟨a, b, fun e => own_neR h.r h.he (by decide) (e ▸ hk), own_ne h.he h.hl (by decide) hk, own_ne h.he h.hp (by decide) hk⟩
    · obtain ⟨a, b⟩ := own_lt h.hc hk
      exact ⟨a, b, fun e => own_neR h.r h.hc (by decide) (e ▸ hk), own_ne h.hc h.hl (by decide) hk, own_ne h.hc h.hp (by decide) hk⟩
theorem RB.tops (h : RB S w B rb l t es cs p q lv pv ev cv xs ys) : ∃ g c1 b c2 d c3, lv = .slice (some ⟨g, 0, none⟩) (l.length + 1) c1 ∧ ev = .slice (some ⟨b, 0, none⟩) (es.length + 1) c2 ∧ cv = .slice (some ⟨d, 0, none⟩) (cs.length + 1) c3 ∧
    l.length + 1 ≤ c1 ∧ c1 ≤ maxLen ∧ es.length + 1 ≤ c2 ∧ c2 ≤ maxLen ∧ cs.length + 1 ≤ c3 ∧ c3 ≤ maxLen ∧
    w.cell? ⟨g, l.length * 2, none⟩ = some (sv t) ∧ w.cell? ⟨g, l.length * 2 + 1, none⟩ = some ev ∧ w.frozen? ⟨g, l.length * 2 + 1, none⟩ = false ∧ w.cell? ⟨b, es.length, none⟩ = some cv ∧ w.frozen? ⟨b, es.length, none⟩ = false ∧ w.cell? ⟨d, cs.length, none⟩ = some (sv p) ∧ w.frozen? ⟨d, cs.length, none⟩ = false := by
  have hl := h.hl
  have he := h.he
  have hc := h.hc
  obtain ⟨g, c1, cur, rfl, _, _, a1, a2, _⟩ := own_form hl (by omega) (by omega)
  obtain ⟨b, c2, cur2, rfl, _, _, b1, b2, _⟩ := own_form he (by omega) (by omega)
  obtain ⟨d, c3, cur3, rfl, _, _, d1, d2, _⟩ := own_form hc (by omega) (by omega)
  have hlen := segCells_len l xs h.xl
  refine ⟨g, c1, b, c2, d, c3, rfl, rfl, rfl, a1, a2, b1, b2, d1, d2, own_cell hl ?_, own_cell hl ?_, own_frozen hl _, own_cell he ?_, own_frozen he _, own_cell hc ?_, own_frozen hc _⟩
  · rw [List.getElem?_append_right (by omega), hlen, Nat.sub_self]; rfl
  · rw [List.getElem?_append_right (by omega), hlen, show l.length * 2 + 1 - l.length * 2 = 1 by omega]; rfl
  · rw [List.getElem?_append_right (by rw [h.yl]; exact Nat.le_refl _), h.yl, Nat.sub_self]; rfl
  · rw [List.map_append, List.getElem?_append_right (by simp), List.length_map, Nat.sub_self]; rfl
end
end Go.Proofs.YtgfijlamhjjecaaGreatDoor


namespace Go.Proofs.YtgfijlamhjjecaaGreatDoor
open Go.RowKit
theorem blk_ag {w w1 : World} {o : Obj} {row : Option Nat} (hg : (w.alloc o).grownBy w1 row) {k : Nat} (hk : k < w.heap.size) (hn : row ≠ some k) : w1.heap[k]? = w.heap[k]? :=
  (hg.block k (by simp; omega) (fun e => hn e.symm)).trans (Below.heap_alloc _ _ _ hk)
theorem blk_ag2 {w w1 : World} {o o' : Obj} {row : Option Nat} (hg : ((w.alloc o).alloc o').grownBy w1 row) {k : Nat} (hk : k < w.heap.size) (hn : row ≠ some k) : w1.heap[k]? = w.heap[k]? :=
  (hg.block k (by simp; omega) (fun e => hn e.symm)).trans ((Below.heap_alloc _ _ _ (by simp; omega)).trans (Below.heap_alloc _ _ _ hk))
section
variable {S : Nat → Prop} {w w' : World} {B rb : Nat} {l : List Seg} {t : Str} {es : List (List Str)} {cs : List Str} {p q : Str} {lv pv ev cv : Value} {xs ys : List Value}
theorem RB.grow {w1 : World} {o : Obj} {pv' : Value} {q' : Str} (h : RB S w B rb l t es cs p q lv pv ev cv xs ys) (hg : (w.alloc o).grownBy w1 pv.ownBlock) (hp' : OwnS w1 B pv' q') (hk : pv'.ownBlock = pv.ownBlock ∨ pv'.ownBlock = some (w.heap.size + 1)) :
    RB S (w1.setCell ⟨rb, 1, none⟩ pv') B rb l t es cs p q' lv pv' ev cv xs ys := by
  have hsz := hg.size
  have hrb := h.lt
  have npr := own_neR h.r h.hp (by decide)
  have e : ∀ k, k < w.heap.size → pv.ownBlock ≠ some k → k ≠ rb → (w1.setCell ⟨rb, 1, none⟩ pv').heap[k]? = w.heap[k]? := fun k hk hn hr => (heap_setCell_other w1 _ _ _ hr).trans (blk_ag hg hk hn)
  simp at hsz
  have own : ∀ {T : TypeId} {s n : Nat} {v : Value} {zs : List Value}, w.ownsRow B T s v n zs → T ≠ 5 → T ≠ 215 → (w1.setCell ⟨rb, 1, none⟩ pv').ownsRow B T s v n zs := fun ho h1 h2 =>
    own_cong ho (fun k hk => e k (own_lt ho hk).2 (own_ne ho h.hp h1 hk) (fun e => own_neR h.r ho h2 (e ▸ hk)))
  refine ⟨h.hB, by rw [heap_setCell_same w1 rb 1 _ _ _ ((blk_ag hg hrb npr).trans h.r)]; rfl, own_cong hp' (fun k hk' => heap_setCell_other w1 _ _ _ (fun e => ?_)), own h.hl (by decide) (by decide), h.xl, fun i s x a b => (h.old i s x a b).cong (fun _ hk => hk) (fun k hk => e k (h.s1 k hk).2.1 (h.s1 k hk).2.2.2.2.1 (h.s1 k hk).2.2.1),
    own h.he (by decide) (by decide), h.yl, fun i s x a b => (h.ye i s x a b).cong (fun _ hk => hk) (fun k hk => e k (h.s1 k hk).2.1 (h.s1 k hk).2.2.2.2.1 (h.s1 k hk).2.2.1), own h.hc (by decide) (by decide), fun k hS => ?_⟩
  · subst e
    rcases hk with hk | hk
    · exact npr (hk ▸ hk')
    · rw [hk] at hk'; have := Option.some.inj hk'; omega
  · obtain ⟨a, b, c, d, f, g⟩ := h.s1 k hS
    refine ⟨a, by simp; omega, c, d, fun e => ?_, g⟩
    rcases hk with hk | hk
    · exact f (hk ▸ e)
    · rw [hk] at e; have := Option.some.inj e; omega
theorem RB.setlast {d c3 : Nat} {p' : Str} (h : RB S w B rb l t es cs p q lv pv ev (.slice (some ⟨d, 0, none⟩) (cs.length + 1) c3) xs ys) : RB S (w.setCell ⟨d, cs.length, none⟩ (sv p')) B rb l t es cs p' q lv pv ev (.slice (some ⟨d, 0, none⟩) (cs.length + 1) c3) xs ys := by
  have e : ∀ k, k ≠ d → (w.setCell ⟨d, cs.length, none⟩ (sv p')).heap[k]? = w.heap[k]? := fun k hk => heap_setCell_other w _ _ _ hk
  have own : ∀ {T : TypeId} {s n : Nat} {v : Value} {zs : List Value}, w.ownsRow B T s v n zs → T ≠ 9 → (w.setCell ⟨d, cs.length, none⟩ (sv p')).ownsRow B T s v n zs := fun ho h1 =>
    own_cong ho (fun k hk => e k (fun e => own_ne ho h.hc h1 hk (by rw [e]; rfl)))
  have hset := own_set h.hc (j := cs.length) (by simp) (sv p')
  have hse : ((cs ++ [p]).map sv).set cs.length (sv p') = (cs ++ [p']).map sv := by
    rw [List.map_append, List.map_append]
    have h1 := set_end (cs.map sv) (sv p) (sv p') []
    rw [List.length_map] at h1
    exact h1
  rw [hse] at hset
  refine ⟨h.hB, (e rb (fun e => own_neR h.r h.hc (by decide) (by rw [e]; rfl))).trans h.r, own h.hp (by decide), own h.hl (by decide), h.xl, fun i s x a b => (h.old i s x a b).cong (fun _ hk => hk) (fun k hk => e k (fun e => (h.s1 k hk).2.2.2.2.2.2 (by rw [e]; rfl))),
    own h.he (by decide), h.yl, fun i s x a b => (h.ye i s x a b).cong (fun _ hk => hk) (fun k hk => e k (fun e => (h.s1 k hk).2.2.2.2.2.2 (by rw [e]; rfl))), hset, fun k hS => ?_⟩
  obtain ⟨a, b, c⟩ := h.s1 k hS
  exact ⟨a, by simpa using b, c⟩
theorem RB.colon {w1 : World} {o : Obj} {b c2 : Nat} {cv' : Value} (h : RB S w B rb l t es cs p q lv pv (.slice (some ⟨b, 0, none⟩) (es.length + 1) c2) cv xs ys) (hg : (w.alloc o).grownBy w1 cv.ownBlock) (hc' : w1.ownsRow B 9 1 cv' (cs.length + 1 + 1) ((cs ++ [p]).map sv ++ [sv []])) (hk : cv'.ownBlock = cv.ownBlock ∨ cv'.ownBlock = some (w.heap.size + 1)) :
    RB S (w1.setCell ⟨b, es.length, none⟩ cv') B rb l t es (cs ++ [p]) [] q lv pv (.slice (some ⟨b, 0, none⟩) (es.length + 1) c2) cv' xs ys := by
  have hsz := hg.size
  have hrb := h.lt
  simp at hsz
  have hbl := own_lt h.he (k := b) rfl
  have ncb : cv.ownBlock ≠ some b := fun e => own_ne h.hc h.he (by decide) e rfl
  have ncr := own_neR h.r h.hc (by decide)
  have e1 : ∀ k, k < w.heap.size → cv.ownBlock ≠ some k → w1.heap[k]? = w.heap[k]? := fun k hk hn => blk_ag hg hk hn
  have e : ∀ k, k < w.heap.size → cv.ownBlock ≠ some k → k ≠ b → (w1.setCell ⟨b, es.length, none⟩ cv').heap[k]? = w.heap[k]? := fun k hk hn hr => (heap_setCell_other w1 _ _ _ hr).trans (e1 k hk hn)
  have own : ∀ {T : TypeId} {s n : Nat} {v : Value} {zs : List Value}, w.ownsRow B T s v n zs → T ≠ 9 → T ≠ 58 → (w1.setCell ⟨b, es.length, none⟩ cv').ownsRow B T s v n zs := fun ho h1 h2 =>
    own_cong ho (fun k hk => e k (own_lt ho hk).2 (own_ne ho h.hc h1 hk) (fun e => own_ne ho h.he h2 hk (by rw [e]; rfl)))
  have he1 : w1.ownsRow B 58 1 (.slice (some ⟨b, 0, none⟩) (es.length + 1) c2) (es.length + 1) (ys ++ [cv]) := own_cong h.he (fun k hk => by cases hk; exact e1 b hbl.2 ncb)
  have hset := own_set he1 (j := es.length) (by simp [h.yl]) cv'
  have hse : (ys ++ [cv]).set es.length cv' = ys ++ [cv'] := by
    have h1 := set_end ys cv cv' []
    rw [h.yl] at h1; exact h1
  rw [hse] at hset
  refine ⟨h.hB, (e rb hrb ncr (fun e => own_neR h.r h.he (by decide) (by rw [e]; rfl))).trans h.r, own h.hp (by decide) (by decide), own h.hl (by decide) (by decide), h.xl, fun i s x a b => (h.old i s x a b).cong (fun _ hk => hk) (fun k hk => e k (h.s1 k hk).2.1 (h.s1 k hk).2.2.2.2.2.2 (fun e => (h.s1 k hk).2.2.2.2.2.1 (by rw [e]; rfl))),
    hset, h.yl, fun i s x a b => (h.ye i s x a b).cong (fun _ hk => hk) (fun k hk => e k (h.s1 k hk).2.1 (h.s1 k hk).2.2.2.2.2.2 (fun e => (h.s1 k hk).2.2.2.2.2.1 (by rw [e]; rfl))), ?_, fun k hS => ?_⟩
  · rw [List.length_append, List.length_singleton, List.map_append]
    refine own_cong hc' (fun k hk' => heap_setCell_other w1 _ _ _ (fun e => ?_))
    have e' : k = b := e
    rw [e'] at hk'
    rcases hk with hk | hk
    · exact ncb (hk ▸ hk')
    · rw [hk] at hk'; have h1 := Option.some.inj hk'; omega
  · obtain ⟨a, b', c, d, f, g, i⟩ := h.s1 k hS
    refine ⟨a, by simp; omega, c, d, f, g, fun e => ?_⟩
    rcases hk with hk | hk
    · exact i (hk ▸ e)
    · rw [hk] at e; have := Option.some.inj e; omega
theorem RB.next {w1 : World} {g c1 : Nat} {ev' : Value} {o o' : Obj} (ho : o = .cells #[sv []] 9 (0, 0)) (_ho' : o' = .cells #[.slice (some ⟨w.heap.size, 0, none⟩) 1 1] 58 (0, 0)) (h : RB S w B rb l t es cs p q (.slice (some ⟨g, 0, none⟩) (l.length + 1) c1) pv ev cv xs ys) (hB : B ≤ w.heap.size) (hg : ((w.alloc o).alloc o').grownBy w1 ev.ownBlock)
    (he' : w1.ownsRow B 58 1 ev' (es.length + 1 + 1) (ys ++ [cv] ++ [.slice (some ⟨w.heap.size, 0, none⟩) 1 1])) (hk : ev'.ownBlock = ev.ownBlock ∨ ev'.ownBlock = some (w.heap.size + 2)) :
    RB (fun k => S k ∨ cv.ownBlock = some k) (w1.setCell ⟨g, l.length * 2 + 1, none⟩ ev') B rb l t (es ++ [cs ++ [p]]) [] [] q (.slice (some ⟨g, 0, none⟩) (l.length + 1) c1) pv ev' (.slice (some ⟨w.heap.size, 0, none⟩) 1 1) xs (ys ++ [cv]) := by
  have hsz := hg.size
  have hrb := h.lt
  simp at hsz
  have hgl := own_lt h.hl (k := g) rfl
  have neg : ev.ownBlock ≠ some g := fun e => own_ne h.he h.hl (by decide) e rfl
  have ner := own_neR h.r h.he (by decide)
  have e1 : ∀ k, k < w.heap.size → ev.ownBlock ≠ some k → w1.heap[k]? = w.heap[k]? := fun k hk hn => blk_ag2 hg hk hn
  have e : ∀ k, k < w.heap.size → ev.ownBlock ≠ some k → k ≠ g → (w1.setCell ⟨g, l.length * 2 + 1, none⟩ ev').heap[k]? = w.heap[k]? := fun k hk hn hr => (heap_setCell_other w1 _ _ _ hr).trans (e1 k hk hn)
  have own : ∀ {T : TypeId} {s n : Nat} {v : Value} {zs : List Value}, w.ownsRow B T s v n zs → T ≠ 58 → T ≠ 94 → (w1.setCell ⟨g, l.length * 2 + 1, none⟩ ev').ownsRow B T s v n zs := fun ho h1 h2 =>
    own_cong ho (fun k hk => e k (own_lt ho hk).2 (own_ne ho h.he h1 hk) (fun e => own_ne ho h.hl h2 hk (by rw [e]; rfl)))
  have hl1 := own_cong h.hl (w' := w1) (fun k hk => by cases hk; exact e1 g hgl.2 neg)
  have hlen := segCells_len l xs h.xl
  have hset := own_set hl1 (j := l.length * 2 + 1) (by rw [List.length_append, hlen]; show l.length * 2 + 1 < l.length * 2 + 2; omega) ev'
  have hse : (segCells l xs ++ [sv t, ev]).set (l.length * 2 + 1) ev' = segCells l xs ++ [sv t, ev'] := by
    have h1 := set_end1 (segCells l xs) (sv t) ev ev' []
    rw [hlen] at h1; exact h1
  rw [hse] at hset
  have hnew : (w1.setCell ⟨g, l.length * 2 + 1, none⟩ ev').heap[w.heap.size]? = some (.cells #[sv []] 9 (0, 0)) := by
    refine (heap_setCell_other w1 _ _ _ (by show w.heap.size ≠ g; omega)).trans ((hg.block w.heap.size (by simp; omega) (fun e => ?_)).trans ((Below.heap_alloc _ _ _ (by simp)).trans (by rw [ho]; exact heap_alloc_new _ _)))
    have := (own_lt h.he e.symm).2; omega
  have hcc : (w1.setCell ⟨g, l.length * 2 + 1, none⟩ ev').ownsRow B 9 1 (.slice (some ⟨w.heap.size, 0, none⟩) 1 1) 1 [sv []] :=
    ⟨rfl, .inr ⟨w.heap.size, 1, _, rfl, hB, hnew, Nat.le_refl _, by unfold maxLen; omega, rfl, rfl⟩⟩
  refine ⟨h.hB, (e rb hrb ner (fun e => own_neR h.r h.hl (by decide) (by rw [e]; rfl))).trans h.r, own h.hp (by decide) (by decide), hset, h.xl, fun i s x a b => (h.old i s x a b).cong (fun _ hk => .inl hk) (fun k hk => e k (h.s1 k hk).2.1 (h.s1 k hk).2.2.2.2.2.1 (fun e => (h.s1 k hk).2.2.2.1 (by rw [e]; rfl))),
    ?_, by simp [h.yl], fun i f y a b => ?_, hcc, fun k hS => ?_⟩
  · rw [List.length_append, List.length_singleton]
    refine own_cong he' (fun k hk' => heap_setCell_other w1 _ _ _ (fun e => ?_))
    have e' : k = g := e
    rw [e'] at hk'
    rcases hk with hk | hk
    · exact neg (hk ▸ hk')
    · rw [hk] at hk'; have h1 := Option.some.inj hk'; omega
  · rcases Nat.lt_or_ge i es.length with hi | hi
    · rw [List.getElem?_append_left hi] at a
      rw [List.getElem?_append_left (by rw [h.yl]; exact hi)] at b
      exact (h.ye i f y a b).cong (fun _ hk => .inl hk) (fun k hk => e k (h.s1 k hk).2.1 (h.s1 k hk).2.2.2.2.2.1 (fun e => (h.s1 k hk).2.2.2.1 (by rw [e]; rfl)))
    · have h0 : i = es.length := by have := (List.getElem?_eq_some_iff.1 a).1; simp at this; omega
      subst h0
      rw [List.getElem?_append_right (by rw [h.yl]; exact Nat.le_refl _), h.yl, Nat.sub_self] at b
      simp at a b
      subst a; subst b
      have hc2 := own h.hc (by decide) (by decide)
      exact ⟨by rw [List.length_append, List.length_singleton]; exact hc2, fun k hk => .inr hk⟩
  · rcases hS with hS | hS
    · obtain ⟨a, b', c, d, f, i, j⟩ := h.s1 k hS
      refine ⟨a, by simp; omega, c, d, f, fun e => ?_, fun e => ?_⟩
      · rcases hk with hk | hk
        · exact i (hk ▸ e)
        · rw [hk] at e; have := Option.some.inj e; omega
      · have h1 : w.heap.size = k := by simpa [Value.ownBlock] using e
        omega
    · obtain ⟨a, b'⟩ := own_lt h.hc hS
      refine ⟨a, by simp; omega, fun e => own_neR h.r h.hc (by decide) (e ▸ hS), own_ne h.hc h.hl (by decide) hS, own_ne h.hc h.hp (by decide) hS, fun e => ?_, fun e => ?_⟩
      · rcases hk with hk | hk
        · exact own_ne h.hc h.he (by decide) hS (hk ▸ e)
        · rw [hk] at e; have := Option.some.inj e; omega
      · have h1 : w.heap.size = k := by simpa [Value.ownBlock] using e
        omega
theorem RA.open {w1 : World} {g c1 : Nat} {ev' : Value} {o o' : Obj} {xs0 : List Value} (ho : o = .cells #[sv []] 9 (0, 0)) (_ho' : o' = .cells #[.slice (some ⟨w.heap.size, 0, none⟩) 1 1] 58 (0, 0)) (h : RA S w B rb (l ++ [⟨t, []⟩]) (.slice (some ⟨g, 0, none⟩) (l.length + 1) c1) pv (xs0 ++ [.slice none 0 0]) p) (hB : B ≤ w.heap.size) (hg : ((w.alloc o).alloc o').grownBy w1 none)
    (he' : w1.ownsRow B 58 1 ev' 1 [.slice (some ⟨w.heap.size, 0, none⟩) 1 1]) (hk : ev'.ownBlock = none ∨ ev'.ownBlock = some (w.heap.size + 2)) :
    RB S (w1.setCell ⟨g, l.length * 2 + 1, none⟩ ev') B rb l t [] [] [] p (.slice (some ⟨g, 0, none⟩) (l.length + 1) c1) pv ev' (.slice (some ⟨w.heap.size, 0, none⟩) 1 1) xs0 [] := by
  have hl := h.hl
  have hx0 : xs0.length = l.length := by have := h.xl; simpa using this
  rw [List.length_append, List.length_singleton, segCells_app _ _ _ _ hx0] at hl
  have hsz := hg.size
  have hrb := h.lt
  simp at hsz
  have hgl := own_lt hl (k := g) rfl
  have e1 : ∀ k, k < w.heap.size → w1.heap[k]? = w.heap[k]? := fun k hk => blk_ag2 hg hk (by simp)
  have e : ∀ k, k < w.heap.size → k ≠ g → (w1.setCell ⟨g, l.length * 2 + 1, none⟩ ev').heap[k]? = w.heap[k]? := fun k hk hr => (heap_setCell_other w1 _ _ _ hr).trans (e1 k hk)
  have hl1 := own_cong hl (w' := w1) (fun k hk => by cases hk; exact e1 g hgl.2)
  have hlen := segCells_len l xs0 hx0
  have hset := own_set hl1 (j := l.length * 2 + 1) (by rw [List.length_append, hlen]; show l.length * 2 + 1 < l.length * 2 + 2; omega) ev'
  have hse : (segCells l xs0 ++ segCells [⟨t, []⟩] [.slice none 0 0]).set (l.length * 2 + 1) ev' = segCells l xs0 ++ [sv t, ev'] := by
    have h1 := set_end1 (segCells l xs0) (sv t) (.slice none 0 0) ev' []
    rw [hlen] at h1; exact h1
  rw [hse] at hset
  have hnew : (w1.setCell ⟨g, l.length * 2 + 1, none⟩ ev').heap[w.heap.size]? = some (.cells #[sv []] 9 (0, 0)) :=
    (heap_setCell_other w1 _ _ _ (by show w.heap.size ≠ g; omega)).trans ((hg.block w.heap.size (by simp; omega) (by simp)).trans ((Below.heap_alloc _ _ _ (by simp)).trans (by rw [ho]; exact heap_alloc_new _ _)))
  have hcc : (w1.setCell ⟨g, l.length * 2 + 1, none⟩ ev').ownsRow B 9 1 (.slice (some ⟨w.heap.size, 0, none⟩) 1 1) 1 [sv []] :=
    ⟨rfl, .inr ⟨w.heap.size, 1, _, rfl, hB, hnew, Nat.le_refl _, by unfold maxLen; omega, rfl, rfl⟩⟩
  refine ⟨h.hB, (e rb hrb (fun e => own_neR h.r hl (by decide) (by rw [e]; rfl))).trans h.r, own_cong h.hp (fun k hk => e k (own_lt h.hp hk).2 (fun e => own_ne h.hp hl (by decide) hk (by rw [e]; rfl))), hset, hx0, fun i s x a b => ?_,
    ?_, rfl, fun i f y a b => by simp at a, hcc, fun k hS => ?_⟩
  · have hi : i < l.length := (List.getElem?_eq_some_iff.1 a).1
    have h1 := h.hes i s x (by rw [List.getElem?_append_left hi]; exact a) (by rw [List.getElem?_append_left (by omega)]; exact b)
    exact h1.cong (fun _ hk => hk) (fun k hk => e k (h.s1 k hk).2.1 (fun e => (h.s1 k hk).2.2.2.1 (by rw [e]; rfl)))
  · refine own_cong he' (fun k hk' => heap_setCell_other w1 _ _ _ (fun e => ?_))
    have e' : k = g := e
    rw [e'] at hk'
    rcases hk with hk | hk
    · rw [hk] at hk'; cases hk'
    · rw [hk] at hk'; have h1 := Option.some.inj hk'; omega
  · obtain ⟨a, b', c, d, f⟩ := h.s1 k hS
    refine ⟨a, by simp; omega, c, d, f, fun e => ?_, fun e => ?_⟩
    · rcases hk with hk | hk
      · rw [hk] at e; cases e
      · rw [hk] at e; have := Option.some.inj e; omega
    · have h1 : w.heap.size = k := by simpa [Value.ownBlock] using e
      omega
end
end Go.Proofs.YtgfijlamhjjecaaGreatDoor


namespace Go.Proofs.YtgfijlamhjjecaaGreatDoor
open Go.RowKit
set_option maxHeartbeats 1000000 in
theorem tagged_any (c : UInt8) (w : World) : Calls Tryz.prog 134 #[.int .u8 (c.toNat : Int)] w fun e w' => e = .returned (.bool (tagB c)) ∧ w = w' := by
  have hE : tagB c = ((decide (65 ≤ c.toNat) && decide (c.toNat ≤ 90)) || (decide (48 ≤ c.toNat) && decide (c.toNat ≤ 57))) := rfl
  have HE := Lib.hid hE
  obtain ⟨n, hn⟩ : ∃ n : Nat, c.toNat = n := ⟨_, rfl⟩
  rw [hn] at HE ⊢
  clear hE hn
  by_cases h1 : 65 ≤ n
  · have d1 : decide ((65 : Int) ≤ (n : Int)) = true := by rw [decide_eq_true_eq]; omega
    by_cases h2 : n ≤ 90
    · have d2 : decide ((n : Int) ≤ 90) = true := by rw [decide_eq_true_eq]; omega
      go_enter Tryz.func134, Tryz.ntmps134
      go_wp2_with fail
      go_ret
      exact ⟨by rw [HE.out]; simp [h1, h2], rfl⟩
    · have d2 : decide ((n : Int) ≤ 90) = false := by rw [decide_eq_false_iff_not]; omega
      have d3 : decide ((48 : Int) ≤ (n : Int)) = true := by rw [decide_eq_true_eq]; omega
      have d4 : decide ((n : Int) ≤ 57) = false := by rw [decide_eq_false_iff_not]; omega
      go_enter Tryz.func134, Tryz.ntmps134
      go_wp2_with fail
      go_ret
      exact ⟨by rw [HE.out]; simp; omega, rfl⟩
  · have d1 : decide ((65 : Int) ≤ (n : Int)) = false := by rw [decide_eq_false_iff_not]; omega
    by_cases h3 : 48 ≤ n
    · have d3 : decide ((48 : Int) ≤ (n : Int)) = true := by rw [decide_eq_true_eq]; omega
      by_cases h4 : n ≤ 57
      · have d4 : decide ((n : Int) ≤ 57) = true := by rw [decide_eq_true_eq]; omega
        go_enter Tryz.func134, Tryz.ntmps134
        go_wp2_with fail
        go_ret
        exact ⟨by rw [HE.out]; simp [h3, h4], rfl⟩
      · have d4 : decide ((n : Int) ≤ 57) = false := by rw [decide_eq_false_iff_not]; omega
        go_enter Tryz.func134, Tryz.ntmps134
        go_wp2_with fail
        go_ret
        exact ⟨by rw [HE.out]; simp [h1, h4], rfl⟩
    · have d3 : decide ((48 : Int) ≤ (n : Int)) = false := by rw [decide_eq_false_iff_not]; omega
      go_enter Tryz.func134, Tryz.ntmps134
      go_wp2_with fail
      go_ret
      exact ⟨by rw [HE.out]; simp [h1, h3], rfl⟩
set_option maxHeartbeats 1000000 in
theorem top_any (rb g n cap : Nat) (w : World) (h : w.cell? ⟨rb, 0, none⟩ = some (.slice (some ⟨g, 0, none⟩) (n + 1) cap)) (hn : n + 1 ≤ cap) (hc : cap ≤ maxLen) : Calls Tryz.prog 186 #[.pointer (some ⟨rb, 0, none⟩)] w fun e w' => e = .returned (.pointer (some ⟨g, n * 2, none⟩)) ∧ w.drew = w' := by
  unfold maxLen at hc
  have hw : IntKind.i64.wrap ((n : Int) + 1 - 1) = (n : Int) := by rw [show (n : Int) + 1 - 1 = (n : Int) by omega]; exact IntWalk.i64_in _ (by omega)
  have hw2 : IntKind.i64.wrap (n : Int) = (n : Int) := IntWalk.i64_in _ (by omega)
  have h0 : (0 : Int) ≤ (n : Int) := by omega
  have h1 : (n : Int) < (n : Int) + 1 := by omega
  go_enter Tryz.func186, Tryz.ntmps186
  go_wp2_with fail
  refine wp_region_plan [(0, false), (1, false), (2, false), (3, false), (4, false), (5, false), (6, false), (7, false), (8, false), (9, false), (10, false), (11, false)] (fun w' => w'.cell? ⟨rb, 0, none⟩ = some (.slice (some ⟨g, 0, none⟩) (n + 1) cap)) (by kernel_rfl) (by kernel_rfl) h ?_
  iterate 12 (refine' plan_val rfl rfl (fun w' hS => ?_) ?_; rotate_left; (focus (go_simp; rfl)); simp only [Act.put, List.setIfInBounds_toArray, List.set_cons_zero, List.set_cons_succ])
  refine plan_nil ?_
  go_wp2_with fail
  go_ret
  exact ⟨rfl, rfl⟩
end Go.Proofs.YtgfijlamhjjecaaGreatDoor


namespace Go.Proofs.YtgfijlamhjjecaaGreatDoor
open Go.RowKit
def BytesL (w : World) (b : Nat) (l : Str) : Prop := ∀ (j : Nat) (c : UInt8), l[j]? = some c → w.cell? ⟨b, j, none⟩ = some (bv c)
def badV : Value := .func (.func 137) #[] #[]
set_option maxHeartbeats 1000000 in
theorem bad_any (c : UInt8) (w : World) : Calls Tryz.prog 137 #[.int .u8 (c.toNat : Int)] w fun e w' => e = .returned (.bool (badB c)) ∧ w = w' := by
  have hE : badB c = (decide (c.toNat < 32) || decide (126 < c.toNat)) := rfl
  have HE := Lib.hid hE
  obtain ⟨n, hn⟩ : ∃ n : Nat, c.toNat = n := ⟨_, rfl⟩
  rw [hn] at HE ⊢
  clear hE hn
  by_cases h1 : n < 32
  · have d1 : decide ((n : Int) < 32) = true := by rw [decide_eq_true_eq]; omega
    go_enter Tryz.func137, Tryz.ntmps137
    go_wp2_with fail
    go_ret
    exact ⟨by rw [HE.out]; simp [h1], rfl⟩
  · have d1 : decide ((n : Int) < 32) = false := by rw [decide_eq_false_iff_not]; omega
    by_cases h2 : 126 < n
    · have d2 : decide ((126 : Int) < (n : Int)) = true := by rw [decide_eq_true_eq]; omega
      go_enter Tryz.func137, Tryz.ntmps137
      go_wp2_with fail
      go_ret
      exact ⟨by rw [HE.out]; simp [h2], rfl⟩
    · have d2 : decide ((126 : Int) < (n : Int)) = false := by rw [decide_eq_false_iff_not]; omega
      go_enter Tryz.func137, Tryz.ntmps137
      go_wp2_with fail
      go_ret
      exact ⟨by rw [HE.out]; simp [h1, h2], rfl⟩
theorem any_take_false {l : Str} {k : Nat} (h : (l.take k).any badB = false) {c : UInt8} (hc : l[k]? = some c) (hb : badB c = false) : (l.take (k + 1)).any badB = false := by
  rw [List.take_add_one, hc, List.any_append, h]; simp [hb]
set_option maxHeartbeats 2000000 in
theorem index_any (w : World) (b cap : Nat) (l : Str) (hl : l.length ≤ 4294967281) (h : BytesL w b l) : Calls Tryz.prog 163 #[.slice (some ⟨b, 0, none⟩) l.length cap, badV] w fun e w' => (∃ k : Int, e = .returned (.int .i64 k) ∧ (0 ≤ k ↔ l.any badB = true)) ∧ w = w' := by
  have HL := Lib.hid h
  clear h
  obtain ⟨N, hN⟩ : ∃ N, l.length = N := ⟨_, rfl⟩
  have HN := Lib.hid hN
  rw [hN] at hl ⊢
  clear hN
  unfold badV
  go_enter Tryz.func163, Tryz.ntmps163
  go_wp2_with fail
  go_loop [8] (fun i => ∃ k : Nat, k ≤ N ∧ i = .int .i64 k ∧ Hid ((l.take k).any badB = false)) (fun i => N - (intOf i).toNat)
  case atStart => exact ⟨0, Nat.zero_le _, rfl, Lib.hid (by simp)⟩
  case round =>
    obtain ⟨k, hk, rfl, hd⟩ := hrel
    by_cases hlt : k < N
    · obtain ⟨c, hc⟩ : ∃ c, l[k]? = some c := ⟨_, List.getElem?_eq_getElem (by rw [HN.out]; exact hlt)⟩
      have hcell := HL.out k c hc
      unfold bv at hcell
      have HC := Lib.hid hc
      clear hc
      cases hb : badB c with
      | true =>
        have HB := Lib.hid hb
        clear hb
        have hcall := fun w => (bad_any c w)
        rw [HB.out] at hcall
        have HCA := Lib.hid hcall
        clear hcall
        go_wp2_with (go_at_call 137; refine (HCA.out _).mono ?_; rintro e w' ⟨rfl, rfl⟩)
        go_ret
        refine ⟨⟨_, rfl, ?_⟩, rfl⟩
        refine ⟨fun _ => List.any_eq_true.2 ⟨c, List.mem_of_getElem? HC.out, HB.out⟩, fun _ => by omega⟩
      | false =>
        have HB := Lib.hid hb
        clear hb
        have hcall := fun w => (bad_any c w)
        rw [HB.out] at hcall
        have HCA := Lib.hid hcall
        clear hcall
        go_wp2_with (go_at_call 137; refine (HCA.out _).mono ?_; rintro e w' ⟨rfl, rfl⟩)
        go_round
        case rel => exact ⟨k + 1, by omega, by go_num, Lib.hid (any_take_false hd.out HC.out HB.out)⟩
        case measure => simp [intOf]; omega
    · go_wp2_with fail
      go_ret
      have e : l.take k = l := List.take_of_length_le (by rw [HN.out]; omega)
      have hd' := hd.out
      rw [e] at hd'
      rw [List.any_eq_false] at hd'
      exact ⟨⟨-1, rfl, ⟨fun h => by omega, fun h => by obtain ⟨x, hx, hb⟩ := List.any_eq_true.1 (by simpa using h); exact absurd hb (hd' x hx)⟩⟩, rfl⟩
set_option maxHeartbeats 1000000 in
theorem contains_any (w : World) (b cap : Nat) (l : Str) (hl : l.length ≤ 4294967281) (h : BytesL w b l) : Calls Tryz.prog 136 #[.slice (some ⟨b, 0, none⟩) l.length cap, badV] w fun e w' => e = .returned (.bool (l.any badB)) ∧ w = w' := by
  obtain ⟨N, hN⟩ : ∃ N, l.length = N := ⟨_, rfl⟩
  have HI := Lib.hid (index_any w b cap l hl h)
  rw [hN] at HI ⊢
  obtain ⟨A, hA⟩ : ∃ A, l.any badB = A := ⟨_, rfl⟩
  rw [hA] at HI ⊢
  clear h hN hA
  unfold badV at *
  go_enter Tryz.func136, Tryz.ntmps136
  go_wp2_with (go_at_call 163; refine HI.out.mono ?_; rintro e w' ⟨⟨k, rfl, hk⟩, rfl⟩; have HK := Lib.hid hk; clear hk)
  go_ret
  have e : decide (0 ≤ k) = A := by rw [Bool.eq_iff_iff, decide_eq_true_eq]; exact HK.out
  exact ⟨congrArg (fun b => Ending.returned (Value.bool b)) e, rfl⟩
end Go.Proofs.YtgfijlamhjjecaaGreatDoor


namespace Go.Proofs.YtgfijlamhjjecaaGreatDoor
open Go.RowKit
theorem cell_one_new2 (w : World) (o : Obj) (x : Value) (t : TypeId) : ∀ (j : Nat) (u : Value), [x][j]? = some u → ((w.alloc o).alloc (.cells #[x] t)).cell? ((⟨w.heap.size + 1, 0, none⟩ : Addr).add j) = some u := by
  intro j u hj
  have h := cell_one_new (w.alloc o) x t j u hj
  rw [World.size_alloc] at h
  exact h
theorem fz_ag {w w1 : World} {g j : Nat} (e : w1.heap[g]? = w.heap[g]?) : w1.frozen? ⟨g, j, none⟩ = w.frozen? ⟨g, j, none⟩ := by simp [World.frozen?, e]
theorem cell_ag {w w1 : World} {g j : Nat} (e : w1.heap[g]? = w.heap[g]?) : w1.cell? ⟨g, j, none⟩ = w.cell? ⟨g, j, none⟩ := World.cell?_of_block (a := ⟨g, j, none⟩) e
def fnV (rb f : Nat) : Value := .func (.func f) #[.pointer (some ⟨rb, 0, none⟩)] #[]
section
variable {S : Nat → Prop} {w : World} {B rb : Nat} {l : List Seg} {t : Str} {es : List (List Str)} {cs : List Str} {p q : Str} {lv pv ev cv : Value} {xs ys : List Value}
set_option maxRecDepth 100000 in
set_option maxHeartbeats 2000000 in
theorem sign_A39 {s : Seg} (h : RA S w B rb (l ++ [s]) lv pv xs p) (_hB : B ≤ w.heap.size) : Calls Tryz.prog 197 #[.pointer (some ⟨rb, 0, none⟩), .int .u8 39] w fun e w' => e = .returned (.tuple #[fnV rb 144, .int .i64 0]) ∧ RA S w' B rb (l ++ [s]) lv (.slice none 0 0) xs [] ∧ Below B w w' := by
  obtain ⟨g, cap, x, xs0, rfl, hc1, hc2, rfl, hx0, k1, k2, z1, z2, _⟩ := h.top
  have c0 := h.c0
  have c1 := h.c1
  have f1 := h.fz 1
  have H := Lib.hid h
  have hrB := h.hB
  clear h k1 k2 z1 z2
  go_enter Tryz.func197, Tryz.ntmps197
  go_wp2_with (go_at_call 186; refine (top_any rb g l.length cap _ c0 hc1 hc2).mono ?_; rintro e w' ⟨rfl, rfl⟩)
  go_ret2
  exact ⟨rfl, H.out.part.fr0 (Fr.drew _ _), (((Below.refl B w).setCell hrB _).drew)⟩
set_option maxRecDepth 100000 in
set_option maxHeartbeats 2000000 in
theorem sign_B39 (h : RB S w B rb l t es cs p q lv pv ev cv xs ys) (hB : B ≤ w.heap.size) : Calls Tryz.prog 197 #[.pointer (some ⟨rb, 0, none⟩), .int .u8 39] w fun e w' => e = .returned (.tuple #[fnV rb 144, .int .i64 0]) ∧ RA (fun k => S k ∨ ev.ownBlock = some k ∨ cv.ownBlock = some k) w' B rb (l ++ [⟨t, es ++ [cs ++ [p]]⟩]) lv (.slice none 0 0) (xs ++ [ev]) [] ∧ Below B w w' :=
  sign_A39 h.close hB
set_option maxRecDepth 100000 in
set_option maxHeartbeats 2000000 in
theorem sign_A43 {xs0 : List Value} (h : RA S w B rb (l ++ [⟨t, []⟩]) lv pv (xs0 ++ [.slice none 0 0]) p) (hB : B ≤ w.heap.size) : Calls Tryz.prog 197 #[.pointer (some ⟨rb, 0, none⟩), .int .u8 43] w fun e w' => e = .returned (.tuple #[fnV rb 205, .int .i64 0]) ∧ (∃ ev cv, RB S w' B rb l t [] [] [] [] lv (.slice none 0 0) ev cv xs0 []) ∧ Below B w w' := by
  obtain ⟨g, cap, x, xs1, rfl, hc1, hc2, hxe, hx0, k1, k2, z1, z2, _⟩ := h.top
  obtain ⟨rfl, hxx⟩ := List.append_inj hxe (by have := h.xl; simp at this; omega)
  obtain rfl : x = .slice none 0 0 := by simpa using hxx.symm
  have c0 := h.c0
  have c1 := h.c1
  have f1 := h.fz 1
  have H := Lib.hid h
  have hrB := h.hB
  clear h hxe hxx
  have ngr : g ≠ rb := fun e => own_neR H.out.r H.out.hl (by decide) (by rw [← e]; rfl)
  obtain ⟨i0, hi, hz0, hz1, hz2⟩ := info_parts einfo_strs
  have HI := Lib.hid hi
  have HZ0 := Lib.hid hz0
  have HZ1 := Lib.hid hz1
  have HZ2 := Lib.hid hz2
  clear hi hz0 hz1 hz2
  go_enter Tryz.func197, Tryz.ntmps197
  go_upto_region 13 with (go_at_call 186; refine (top_any rb g l.length cap _ c0 hc1 hc2).mono ?_; rintro e w' ⟨rfl, rfl⟩)
  obtain ⟨wq, hwq⟩ : ∃ wq, (w.setCell ⟨rb, 1, none⟩ (.slice none 0 0)).drew = wq := ⟨_, rfl⟩
  have HQ : Hid (RA S wq B rb (l ++ [⟨t, []⟩]) (.slice (some ⟨g, 0, none⟩) (l.length + 1) cap) (.slice none 0 0) (xs0 ++ [.slice none 0 0]) []) := Lib.hid (by rw [← hwq]; exact H.out.part.fr0 (Fr.drew _ _))
  have HBQ := Lib.hid (show Below B w wq by rw [← hwq]; exact ((Below.refl B w).setCell hrB _).drew)
  have hag : wq.heap[g]? = w.heap[g]? := by rw [← hwq]; exact heap_setCell_other w _ _ _ ngr
  rw [hwq]
  have sq := HBQ.out.size
  have k2 := (cell_ag hag).trans k2
  have z2 := (fz_ag hag).trans z2
  clear hwq hag c0 c1 f1 k1 z1 H
  have hgq : g < wq.heap.size := cell_lt' k2
  have hgB : B ≤ g := by have h1 := HQ.out.hl; rw [List.length_append, List.length_singleton] at h1; exact (own_lt h1 (k := g) rfl).1
  go_wp2_with ((with_reducible refine wpList_at (.call { callee := .builtin .append, args := #[.tmp 53, .tmp 55], argTypes := #[92, 92] }) rfl ?_); go_loud (refine wpList_append_own_at _ rfl _ _ 92 rfl B 58 i0 (.slice none 0 0) 1 24 Tryz.underlying92 HI.out HZ0.out HZ1.out HZ2.out rfl (by decide) _ _ _ rfl (World.ownsRow_nil _ _ _ _) ⟨wq.heap.size + 1, 0, none⟩ 1 1 [.slice (some ⟨wq.heap.size, 0, none⟩) 1 1] rfl rfl (cell_one_new2 _ _ _ _) (by simp [Value.oneCell']) (by unfold maxLen; omega) (by omega) (by simp; omega) ?_); intro ev' w1 he' hg' _ hk'; have HG1 : Hid (((wq.alloc (.cells #[sv []] 9)).alloc (.cells #[.slice (some ⟨wq.heap.size, 0, none⟩) 1 1] 58)).grownBy w1 none) := hg'; have HK1 : Hid (ev'.ownBlock = none ∨ ev'.ownBlock = some (wq.heap.size + 2)) := Lib.hid (by rcases hk' with h | h; exact .inl h; (right; rw [h]; simp)); have hea := blk_ag2 HG1.out hgq (by simp); have k2' : w1.cell? ⟨g, l.length * 2 + 1, none⟩ = some (.slice none 0 0) := (cell_ag hea).trans k2; have z2' : w1.frozen? ⟨g, l.length * 2 + 1, none⟩ = false := (fz_ag hea).trans z2; have hs1 := hg'.size; simp at hs1; have HE1 : Hid (w1.ownsRow B 58 1 ev' 1 [.slice (some ⟨wq.heap.size, 0, none⟩) 1 1]) := he'; obtain ⟨eg, ec, _, rfl, _⟩ := own_form HE1.out (by omega) (by omega); clear he' hg' hk' hea)
  go_ret2
  have hop := RA.open rfl rfl HQ.out (by omega) HG1.out HE1.out HK1.out
  refine ⟨rfl, ⟨_, _, hop⟩, ?_⟩
  exact HBQ.out.trans (((((Below.refl B wq).alloc (by omega) _).alloc (by simp; omega) _).grown HG1.out (by simp; omega) (by simp)).setCell (by omega) _)
end
end Go.Proofs.YtgfijlamhjjecaaGreatDoor


namespace Go.Proofs.YtgfijlamhjjecaaGreatDoor
open Go.RowKit
section
variable {S : Nat → Prop} {w : World} {B rb : Nat} {l : List Seg} {t : Str} {es : List (List Str)} {cs : List Str} {p q : Str} {lv pv ev cv : Value} {xs ys : List Value}
set_option maxRecDepth 100000 in
set_option maxHeartbeats 2000000 in
theorem sign_B43_full (h : RB S w B rb l t es cs p q lv pv ev cv xs ys) (_hB : B ≤ w.heap.size) (h16 : es.length + 1 = 16) : Calls Tryz.prog 197 #[.pointer (some ⟨rb, 0, none⟩), .int .u8 43] w fun e w' => e = .returned (.tuple #[.nilFunc, .int .i64 2]) ∧ Below B w w' := by
  obtain ⟨g, c1, b, c2, d, c3, rfl, rfl, rfl, a1, a2, b1, b2, _, _, _, k2, z2, _⟩ := h.tops
  have d0 := h.c0
  have d1 := h.c1
  have f1 := h.fz 1
  have hrB := h.hB
  have ngr : g ≠ rb := fun e => own_neR h.r h.hl (by decide) (by rw [← e]; rfl)
  have he : es.length = 15 := by omega
  rw [he] at k2 b1
  unfold maxLen at b2
  clear h h16 he
  go_enter Tryz.func197, Tryz.ntmps197
  go_wp2_with (go_at_call 186; refine (top_any rb g l.length c1 _ d0 a1 a2).mono ?_; rintro e w' ⟨rfl, rfl⟩)
  go_ret2
  exact ⟨rfl, (((Below.refl B w).setCell hrB _).drew)⟩
set_option maxRecDepth 100000 in
set_option maxHeartbeats 2000000 in
theorem sign_B43_next (h : RB S w B rb l t es cs p q lv pv ev cv xs ys) (hB : B ≤ w.heap.size) (h16 : es.length + 1 < 16) : Calls Tryz.prog 197 #[.pointer (some ⟨rb, 0, none⟩), .int .u8 43] w fun e w' => e = .returned (.tuple #[fnV rb 205, .int .i64 0]) ∧ (∃ ev' cv', RB (fun k => S k ∨ cv.ownBlock = some k) w' B rb l t (es ++ [cs ++ [p]]) [] [] [] lv (.slice none 0 0) ev' cv' xs (ys ++ [cv])) ∧ Below B w w' := by
  obtain ⟨g, c1, b, c2, d, c3, rfl, rfl, rfl, a1, a2, b1, b2, _, _, _, k2, z2, _⟩ := h.tops
  have d0 := h.c0
  have d1 := h.c1
  have f1 := h.fz 1
  have H := Lib.hid h
  have hrB := h.hB
  have ngr : g ≠ rb := fun e => own_neR h.r h.hl (by decide) (by rw [← e]; rfl)
  have hx16 : ((es.length : Int) + 1 == 16) = false := by rw [beq_eq_false_iff_ne]; omega
  have b2' := b2
  unfold maxLen at b2'
  clear h
  obtain ⟨i0, hi, hz0, hz1, hz2⟩ := info_parts einfo_strs
  have HI := Lib.hid hi
  have HZ0 := Lib.hid hz0
  have HZ1 := Lib.hid hz1
  have HZ2 := Lib.hid hz2
  clear hi hz0 hz1 hz2
  go_enter Tryz.func197, Tryz.ntmps197
  go_upto_region 13 with (go_at_call 186; refine (top_any rb g l.length c1 _ d0 a1 a2).mono ?_; rintro e w' ⟨rfl, rfl⟩)
  obtain ⟨wq, hwq⟩ : ∃ wq, (w.setCell ⟨rb, 1, none⟩ (.slice none 0 0)).drew = wq := ⟨_, rfl⟩
  have HQ : Hid (RB S wq B rb l t es cs p [] (.slice (some ⟨g, 0, none⟩) (l.length + 1) c1) (.slice none 0 0) (.slice (some ⟨b, 0, none⟩) (es.length + 1) c2) (.slice (some ⟨d, 0, none⟩) (cs.length + 1) c3) xs ys) := Lib.hid (by rw [← hwq]; exact H.out.part.fr0 (Fr.drew _ _))
  have HBQ := Lib.hid (show Below B w wq by rw [← hwq]; exact ((Below.refl B w).setCell hrB _).drew)
  have hag : wq.heap[g]? = w.heap[g]? := by rw [← hwq]; exact heap_setCell_other w _ _ _ ngr
  rw [hwq]
  have sq := HBQ.out.size
  have k2 := (cell_ag hag).trans k2
  have z2 := (fz_ag hag).trans z2
  clear hwq hag d0 d1 f1 H
  have hgq : g < wq.heap.size := cell_lt' k2
  have hgB : B ≤ g := (own_lt HQ.out.hl (k := g) rfl).1
  have nbg : b ≠ g := fun e => own_ne HQ.out.he HQ.out.hl (by decide) (k := g) (by rw [← e]; rfl) rfl
  have HBB := Lib.hid (own_lt HQ.out.he (k := b) rfl).1
  go_wp2_with ((with_reducible refine wpList_at (.call { callee := .builtin .append, args := #[.tmp 53, .tmp 55], argTypes := #[92, 92] }) rfl ?_); go_loud (refine wpList_append_own_at _ rfl _ _ 92 rfl B 58 i0 (.slice none 0 0) 1 24 Tryz.underlying92 HI.out HZ0.out HZ1.out HZ2.out rfl (by decide) _ _ _ rfl ((HQ.out.he.alloc _).alloc _) ⟨wq.heap.size + 1, 0, none⟩ 1 1 [.slice (some ⟨wq.heap.size, 0, none⟩) 1 1] rfl rfl (cell_one_new2 _ _ _ _) (by simp [Value.oneCell']) (by unfold maxLen; omega) (by omega) (by simp; omega) ?_); intro ev' w1 he' hg' _ hk'; have HG1 : Hid (((wq.alloc (.cells #[sv []] 9)).alloc (.cells #[.slice (some ⟨wq.heap.size, 0, none⟩) 1 1] 58)).grownBy w1 (some b)) := hg'; have HK1 : Hid (ev'.ownBlock = some b ∨ ev'.ownBlock = some (wq.heap.size + 2)) := Lib.hid (by rcases hk' with h | h; exact .inl h; (right; rw [h]; simp)); have hea := blk_ag2 HG1.out hgq (fun e => nbg (Option.some.inj e)); have k2' : w1.cell? ⟨g, l.length * 2 + 1, none⟩ = some (.slice (some ⟨b, 0, none⟩) (es.length + 1) c2) := (cell_ag hea).trans k2; have z2' : w1.frozen? ⟨g, l.length * 2 + 1, none⟩ = false := (fz_ag hea).trans z2; have hs1 := hg'.size; simp at hs1; have HE1 : Hid (w1.ownsRow B 58 1 ev' (es.length + 1 + 1) (ys ++ [.slice (some ⟨d, 0, none⟩) (cs.length + 1) c3] ++ [.slice (some ⟨wq.heap.size, 0, none⟩) 1 1])) := he'; obtain ⟨eg, ec, _, rfl, _⟩ := own_form HE1.out (by omega) (by omega); clear he' hg' hk' hea)
  go_ret2
  have hop := RB.next rfl rfl HQ.out (by omega) HG1.out HE1.out HK1.out
  refine ⟨rfl, ⟨_, _, hop⟩, ?_⟩
  exact HBQ.out.trans (((((Below.refl B wq).alloc (by omega) _).alloc (by simp; omega) _).grown HG1.out (by simp; omega) (fun k hk => by cases hk; exact HBB.out)).setCell (by omega) _)
set_option maxRecDepth 100000 in
set_option maxHeartbeats 2000000 in
theorem sign_B58_full (h : RB S w B rb l t es cs p q lv pv ev cv xs ys) (_hB : B ≤ w.heap.size) (h8 : cs.length + 1 = 8) : Calls Tryz.prog 197 #[.pointer (some ⟨rb, 0, none⟩), .int .u8 58] w fun e w' => e = .returned (.tuple #[.nilFunc, .int .i64 2]) ∧ Below B w w' := by
  obtain ⟨g, c1, b, c2, d, c3, rfl, rfl, rfl, a1, a2, b1, b2, c1', c2', _, k2, z2, k3, z3, _⟩ := h.tops
  have d0 := h.c0
  have d1 := h.c1
  have f1 := h.fz 1
  have H := Lib.hid h
  have hrB := h.hB
  have ngr : g ≠ rb := fun e => own_neR h.r h.hl (by decide) (by rw [← e]; rfl)
  have nbr : b ≠ rb := fun e => own_neR h.r h.he (by decide) (by rw [← e]; rfl)
  have hc : cs.length = 7 := by omega
  rw [hc] at k3 c1'
  unfold maxLen at b2 c2'
  have hw : IntKind.i64.wrap ((es.length : Int) + 1 - 1) = (es.length : Int) := by rw [show (es.length : Int) + 1 - 1 = (es.length : Int) by omega]; exact IntWalk.i64_in _ (by omega)
  have hw2 : IntKind.i64.wrap (es.length : Int) = (es.length : Int) := IntWalk.i64_in _ (by omega)
  have h0 : (0 : Int) ≤ (es.length : Int) := by omega
  have h1 : (es.length : Int) < (es.length : Int) + 1 := by omega
  clear h h8 hc H
  go_enter Tryz.func197, Tryz.ntmps197
  go_upto_region 4 with (go_at_call 186; refine (top_any rb g l.length c1 _ d0 a1 a2).mono ?_; rintro e w' ⟨rfl, rfl⟩)
  obtain ⟨wq, hwq⟩ : ∃ wq, (w.setCell ⟨rb, 1, none⟩ (.slice none 0 0)).drew = wq := ⟨_, rfl⟩
  have HBQ := Lib.hid (show Below B w wq by rw [← hwq]; exact ((Below.refl B w).setCell hrB _).drew)
  have hag : wq.heap[g]? = w.heap[g]? := by rw [← hwq]; exact heap_setCell_other w _ _ _ ngr
  have hab : wq.heap[b]? = w.heap[b]? := by rw [← hwq]; exact heap_setCell_other w _ _ _ nbr
  rw [hwq]
  have k2 := (cell_ag hag).trans k2
  have k3 := (cell_ag hab).trans k3
  clear hwq hag hab d0 d1 f1 z2 z3
  refine wp_region_plan [(0, false), (1, false), (2, false), (3, false), (4, false), (5, false), (6, false), (7, false), (8, false), (9, false), (10, false), (11, false)] (fun w' => w'.cell? ⟨g, l.length * 2 + 1, none⟩ = some (.slice (some ⟨b, 0, none⟩) (es.length + 1) c2)) (by kernel_rfl) (by kernel_rfl) k2 ?_
  iterate 12 (refine' plan_val rfl rfl (fun w' hS => ?_) ?_; rotate_left; (focus (go_simp; rfl)); simp only [Act.put, List.setIfInBounds_toArray, List.set_cons_zero, List.set_cons_succ])
  refine plan_nil ?_
  go_wp2_with fail
  go_ret2
  exact ⟨rfl, HBQ.out.drew⟩
end
end Go.Proofs.YtgfijlamhjjecaaGreatDoor


namespace Go.Proofs.YtgfijlamhjjecaaGreatDoor
open Go.RowKit
theorem fold_push' : ∀ (l : List UInt8) (s : ByteArray), (l.map fun b => (b.toNat : Int)).foldl (fun r n => r.push (UInt8.ofNat n.toNat)) s = ⟨s.data ++ l.toArray⟩
  | [], s => by simp
  | b :: l, s => by
    rw [List.map_cons, List.foldl_cons, fold_push' l]
    simp [ByteArray.push]
theorem conv_own {w : World} {B : Nat} {v : Value} {l : Str} (h : OwnS w B v l) : (convert 72 9 v).run Tryz.prog w = .ok (sv l) w := by
  have h' := h
  obtain ⟨_, ⟨rfl, h0⟩ | ⟨g, cap, cur, rfl, hg, hh, hc, hm, hs', hx⟩⟩ := h'
  · rw [run_convert_bytes_string w 72 9 5 _ 0 0 Tryz.underlying72 Tryz.underlying5 Tryz.underlying9, List.length_eq_zero_iff.1 h0]
    rfl
  · rw [run_convert_bytes_string w 72 9 5 _ l.length cap Tryz.underlying72 Tryz.underlying5 Tryz.underlying9]
    have hl := run_loadCells_list (P := Tryz.prog) w ⟨g, 0, none⟩ (l.map bv) (fun j v hv => by rw [Addr.add_mid, Nat.zero_add]; exact own_cell h hv)
    rw [List.length_map] at hl
    have e1 : l.map bv = (l.map fun b => (b.toNat : Int)).map (Value.int .u8) := by simp [bv]
    rw [e1] at hl
    rw [run_bytesToString w _ l.length cap _ hl, fold_push']
    simp [sv, ByteArray.empty, ByteArray.emptyWithCapacity]
    try rfl
section
variable {S : Nat → Prop} {w : World} {B rb : Nat} {l : List Seg} {t : Str} {es : List (List Str)} {cs : List Str} {p q : Str} {lv pv ev cv : Value} {xs ys : List Value}
set_option maxRecDepth 100000 in
set_option maxHeartbeats 2000000 in
theorem sign_B58_next (h : RB S w B rb l t es cs p q lv pv ev cv xs ys) (hB : B ≤ w.heap.size) (h8 : cs.length + 1 < 8) : Calls Tryz.prog 197 #[.pointer (some ⟨rb, 0, none⟩), .int .u8 58] w fun e w' => e = .returned (.tuple #[fnV rb 205, .int .i64 0]) ∧ (∃ cv', RB S w' B rb l t es (cs ++ [p]) [] [] lv (.slice none 0 0) ev cv' xs ys) ∧ Below B w w' := by
  obtain ⟨g, c1, b, c2, d, c3, rfl, rfl, rfl, a1, a2, b1, b2, c1', c2', _, k2, z2, k3, z3, _⟩ := h.tops
  have d0 := h.c0
  have d1 := h.c1
  have f1 := h.fz 1
  have H := Lib.hid h
  have hrB := h.hB
  have ngr : g ≠ rb := fun e => own_neR h.r h.hl (by decide) (by rw [← e]; rfl)
  have nbr : b ≠ rb := fun e => own_neR h.r h.he (by decide) (by rw [← e]; rfl)
  have hx8 : ((cs.length : Int) + 1 == 8) = false := by rw [beq_eq_false_iff_ne]; omega
  unfold maxLen at b2 c2'
  have hw : IntKind.i64.wrap ((es.length : Int) + 1 - 1) = (es.length : Int) := by rw [show (es.length : Int) + 1 - 1 = (es.length : Int) by omega]; exact IntWalk.i64_in _ (by omega)
  have hw2 : IntKind.i64.wrap (es.length : Int) = (es.length : Int) := IntWalk.i64_in _ (by omega)
  have h0 : (0 : Int) ≤ (es.length : Int) := by omega
  have h1 : (es.length : Int) < (es.length : Int) + 1 := by omega
  clear h
  obtain ⟨i0, hi, hz0, hz1, hz2⟩ := info_parts einfo_str
  have HI := Lib.hid hi
  have HZ0 := Lib.hid hz0
  have HZ1 := Lib.hid hz1
  have HZ2 := Lib.hid hz2
  clear hi hz0 hz1 hz2
  go_enter Tryz.func197, Tryz.ntmps197
  go_upto_region 4 with (go_at_call 186; refine (top_any rb g l.length c1 _ d0 a1 a2).mono ?_; rintro e w' ⟨rfl, rfl⟩)
  obtain ⟨wq, hwq⟩ : ∃ wq, (w.setCell ⟨rb, 1, none⟩ (.slice none 0 0)).drew = wq := ⟨_, rfl⟩
  have HQ0 : Hid (RB S wq B rb l t es cs p [] (.slice (some ⟨g, 0, none⟩) (l.length + 1) c1) (.slice none 0 0) (.slice (some ⟨b, 0, none⟩) (es.length + 1) c2) (.slice (some ⟨d, 0, none⟩) (cs.length + 1) c3) xs ys) := Lib.hid (by rw [← hwq]; exact H.out.part.fr0 (Fr.drew _ _))
  have HBQ0 := Lib.hid (show Below B w wq by rw [← hwq]; exact ((Below.refl B w).setCell hrB _).drew)
  have hag : wq.heap[g]? = w.heap[g]? := by rw [← hwq]; exact heap_setCell_other w _ _ _ ngr
  have hab : wq.heap[b]? = w.heap[b]? := by rw [← hwq]; exact heap_setCell_other w _ _ _ nbr
  rw [hwq]
  have k2 := (cell_ag hag).trans k2
  have k3 := (cell_ag hab).trans k3
  have z3 := (fz_ag hab).trans z3
  clear hwq hag hab d0 d1 f1 z2 H
  refine wp_region_plan [(0, false), (1, false), (2, false), (3, false), (4, false), (5, false), (6, false), (7, false), (8, false), (9, false), (10, false), (11, false)] (fun w' => w'.cell? ⟨g, l.length * 2 + 1, none⟩ = some (.slice (some ⟨b, 0, none⟩) (es.length + 1) c2)) (by kernel_rfl) (by kernel_rfl) k2 ?_
  obtain ⟨wd, hwd⟩ : ∃ wd, wq.drew = wd := ⟨_, rfl⟩
  have HQ := Lib.hid (show RB S wd B rb l t es cs p [] (.slice (some ⟨g, 0, none⟩) (l.length + 1) c1) (.slice none 0 0) (.slice (some ⟨b, 0, none⟩) (es.length + 1) c2) (.slice (some ⟨d, 0, none⟩) (cs.length + 1) c3) xs ys by rw [← hwd]; exact HQ0.out.fr0 (Fr.drew _ _))
  have HBQ := Lib.hid (show Below B w wd by rw [← hwd]; exact HBQ0.out.drew)
  have k3 : wd.cell? ⟨b, es.length, none⟩ = some (.slice (some ⟨d, 0, none⟩) (cs.length + 1) c3) := by rw [← hwd]; exact k3
  have z3 : wd.frozen? ⟨b, es.length, none⟩ = false := by rw [← hwd]; exact z3
  rw [hwd]
  have sq := HBQ.out.size
  clear hwd HQ0 HBQ0
  iterate 12 (refine' plan_val rfl rfl (fun w' hS => ?_) ?_; rotate_left; (focus (go_simp; rfl)); simp only [Act.put, List.setIfInBounds_toArray, List.set_cons_zero, List.set_cons_succ])
  refine plan_nil ?_
  clear k2 hw hw2
  have hbq : b < wd.heap.size := cell_lt' k3
  have hbB : B ≤ b := (own_lt HQ.out.he (k := b) rfl).1
  have ndb : d ≠ b := fun e => own_ne HQ.out.hc HQ.out.he (by decide) (k := b) (by rw [← e]; rfl) rfl
  have HDB := Lib.hid (own_lt HQ.out.hc (k := d) rfl).1
  go_wp2_with ((with_reducible refine wpList_at (.call { callee := .builtin .append, args := #[.tmp 33, .tmp 34], argTypes := #[58, 58] }) rfl ?_); go_loud (refine wpList_append_own_at _ rfl _ _ 58 rfl B 9 i0 (.string ⟨#[]⟩) 1 16 Tryz.underlying58 HI.out HZ0.out HZ1.out HZ2.out rfl (by decide) _ _ _ rfl (HQ.out.hc.alloc _) ⟨wd.heap.size, 0, none⟩ 1 1 [sv []] rfl rfl (cell_one_new _ _ _) (by simp [Value.oneCell', sv]) (by unfold maxLen; omega) (by omega) (by simp; omega) ?_); intro cv' w1 he' hg' _ hk'; have HG1 : Hid ((wd.alloc (.cells #[sv []] 9)).grownBy w1 (some d)) := hg'; have HK1 : Hid (cv'.ownBlock = some d ∨ cv'.ownBlock = some (wd.heap.size + 1)) := Lib.hid (by rcases hk' with h | h; exact .inl h; (right; rw [h]; simp)); have hea := blk_ag HG1.out hbq (fun e => ndb (Option.some.inj e)); have k3' : w1.cell? ⟨b, es.length, none⟩ = some (.slice (some ⟨d, 0, none⟩) (cs.length + 1) c3) := (cell_ag hea).trans k3; have z3' : w1.frozen? ⟨b, es.length, none⟩ = false := (fz_ag hea).trans z3; have hs1 := hg'.size; simp at hs1; have HE1 : Hid (w1.ownsRow B 9 1 cv' (cs.length + 1 + 1) ((cs ++ [p]).map sv ++ [sv []])) := he'; obtain ⟨eg, ec, _, rfl, _⟩ := own_form HE1.out (by omega) (by omega); clear he' hg' hk' hea)
  go_ret2
  have hop := RB.colon HQ.out HG1.out HE1.out HK1.out
  refine ⟨rfl, ⟨_, hop⟩, ?_⟩
  exact HBQ.out.trans ((((Below.refl B wd).alloc (by omega) _).grown HG1.out (by simp; omega) (fun k hk => by cases hk; exact HDB.out)).setCell (by omega) _)
theorem len_int (n : Nat) (h : n ≠ 256) : ((n : Int) == 256) = false := by rw [beq_eq_false_iff_ne]; omega
set_option maxRecDepth 100000 in
set_option maxHeartbeats 2000000 in
theorem put_full (h : RB S w B rb l t es cs p p lv pv ev cv xs ys) (c : UInt8) (h256 : p.length = 256) : Calls Tryz.prog 218 #[.pointer (some ⟨rb, 0, none⟩), .int .u8 (c.toNat : Int)] w fun e w' => e = .returned (.tuple #[.nilFunc, .int .i64 2]) ∧ Below B w w' := by
  have d1 := h.c1
  obtain ⟨pg, pc, _, hpe, _⟩ := own_form h.hp (by omega) (by omega)
  rw [hpe, h256] at d1
  clear h hpe
  go_enter Tryz.func218, Tryz.ntmps218
  go_wp2_with fail
  go_ret2
  exact ⟨rfl, Below.refl _ _⟩
end
end Go.Proofs.YtgfijlamhjjecaaGreatDoor


namespace Go.Proofs.YtgfijlamhjjecaaGreatDoor
open Go.RowKit
theorem race_dis (w : World) : (callFunc 206 #[]).run Tryz.prog w = .ok (.value (.tuple #[])) w := run_call_mark0 Tryz.func206 (by kernel_rfl) (by kernel_rfl) (by kernel_rfl) .disable (by kernel_rfl) w
theorem race_en (w : World) : (callFunc 208 #[]).run Tryz.prog w = .ok (.value (.tuple #[])) w := run_call_mark0 Tryz.func208 (by kernel_rfl) (by kernel_rfl) (by kernel_rfl) .enable (by kernel_rfl) w
theorem race_acq (a : Addr) (w : World) : (callFunc 209 #[.pointer (some a)]).run Tryz.prog w = .ok (.value (.tuple #[])) w := run_call_marked Tryz.func209 (by kernel_rfl) (by kernel_rfl) (by kernel_rfl) .acquire (by kernel_rfl) a w
theorem race_rel (a : Addr) (w : World) : (callFunc 211 #[.pointer (some a)]).run Tryz.prog w = .ok (.value (.tuple #[])) w := run_call_marked Tryz.func211 (by kernel_rfl) (by kernel_rfl) (by kernel_rfl) .releaseMerge (by kernel_rfl) a w
theorem store_deferred (a : Addr) (x : Value) (u : FrameMode) (w : World) (hc : w.cell? a = some x) (hz : w.frozen? a = false) :
    CallsD Tryz.prog 193 #[.pointer (some a), .bool true] u w fun e u' w' => u' = u ∧ (e = .returned (.tuple #[]) ∧ w' = w.drew.setCell a (.int .u32 1)) := by
  have hc' : w.drew.cell? a = some x := by go_simp
  have hz' : w.drew.frozen? a = false := by go_simp
  have hst := run_call_store (P := Tryz.prog) Tryz.func200 (by kernel_rfl) (by kernel_rfl) (by kernel_rfl) (by kernel_rfl) (k := .u32) (y := 1) hc' hz'
  go_enter_d Tryz.func193, Tryz.ntmps193
  go_wp2
  go_region_calls
  all_goals (go_end0; exact ⟨rfl, rfl⟩)
set_option maxRecDepth 100000 in
theorem iunlock (a : Addr) (w : World) (hc : w.cell? a = some (.int .i32 1)) (hz : w.frozen? a = false) :
    Calls Tryz.prog 199 #[.pointer (some a)] w fun e w' => e = .returned (.tuple #[]) ∧ w' = w.setCell a (.int .i32 0) := by
  have hd := race_dis
  have he := race_en
  have hr := race_rel
  have hadd := run_call_add (P := Tryz.prog) Tryz.func212 (by kernel_rfl) (by kernel_rfl) (by kernel_rfl) .i32 (by kernel_rfl) (y := -1) (s := 0) hc hz (by simp [go_sem]; rfl)
  have hcv := run_convert_to_unsafe (P := Tryz.prog) (src := 314) (dst := 275) Tryz.underlying314 Tryz.underlying275 (by kernel_rfl) hc
  go_enter Tryz.func199, Tryz.ntmps199
  go_wp2
  first | go_end0 | (simp only [Exit.inBlock, Exit.then]; refine bodyPost_ret (results_none rfl _ _ _) rfl ?_) | refine bodyPost_ret (results_none rfl _ _ _) rfl ?_
  all_goals exact ⟨rfl, rfl⟩
theorem unlock_deferred (a : Addr) (u : FrameMode) (w : World) (hc : w.cell? a = some (.int .i32 1)) (hz : w.frozen? a = false) :
    CallsD Tryz.prog 192 #[.pointer (some a)] u w fun e u' w' => u' = u ∧ (e = .returned (.tuple #[]) ∧ w' = w.setCell a (.int .i32 0)) := by
  go_enter_d Tryz.func192, Tryz.ntmps192
  go_wp2_with (go_at_call 199; refine (iunlock a _ hc hz).mono ?_; rintro e w' ⟨rfl, rfl⟩)
  go_end0
  exact ⟨rfl, rfl⟩
set_option maxRecDepth 100000 in
theorem ilock (a : Addr) (w : World) (hc : w.cell? a = some (.int .i32 0)) (hz : w.frozen? a = false) :
    Calls Tryz.prog 198 #[.pointer (some a)] w fun e w' => e = .returned (.tuple #[]) ∧ w' = w.setCell a (.int .i32 1) := by
  have hd := race_dis
  have he := race_en
  have ha := race_acq
  have hcas := run_call_cas_hit (P := Tryz.prog) Tryz.func207 (by kernel_rfl) (by kernel_rfl) (by kernel_rfl) .i32 (by kernel_rfl) (y := 1) hc hz
  have hc' : (w.setCell a (.int .i32 1)).cell? a = some (.int .i32 1) := World.cell?_setCell_same w a _ hc
  have hcv := run_convert_to_unsafe (P := Tryz.prog) (src := 314) (dst := 275) Tryz.underlying314 Tryz.underlying275 (by kernel_rfl) hc'
  go_enter Tryz.func198, Tryz.ntmps198
  go_wp2
  first | go_end0 | (simp only [Exit.inBlock, Exit.then]; refine bodyPost_ret (results_none rfl _ _ _) rfl ?_) | refine bodyPost_ret (results_none rfl _ _ _) rfl ?_
  all_goals exact ⟨rfl, rfl⟩
theorem lock_free (a : Addr) (w : World) (hc : w.cell? a = some (.int .i32 0)) (hz : w.frozen? a = false) :
    Calls Tryz.prog 191 #[.pointer (some a)] w fun e w' => e = .returned (.tuple #[]) ∧ w' = w.setCell a (.int .i32 1) := by
  go_enter Tryz.func191, Tryz.ntmps191
  go_wp2_with (go_at_call 198; refine (ilock a _ hc hz).mono ?_; rintro e w' ⟨rfl, rfl⟩)
  go_end0
  exact ⟨rfl, rfl⟩
theorem aload (a : Addr) (d : Int) (w : World) (h0 : w.cell? a = some (.int .u32 d)) :
    Calls Tryz.prog 181 #[.pointer (some a)] w fun e w' => e = .returned (.bool (d != 0)) ∧ w = w' := by
  have hl := run_call_load (P := Tryz.prog) Tryz.func190 (by kernel_rfl) (by kernel_rfl) (by kernel_rfl) .u32 (by kernel_rfl) h0
  go_enter Tryz.func181, Tryz.ntmps181
  go_wp2
  go_ret
  exact ⟨rfl, rfl⟩
end Go.Proofs.YtgfijlamhjjecaaGreatDoor


namespace Go.Proofs.YtgfijlamhjjecaaGreatDoor
open Go.RowKit
section
variable {P : Program} {ops : Array Oper} {rest : List Oper} {o : Oper} {a : Act} {w : World} {Q : Exit → Act → World → Prop}
theorem wpList_allocZ (hgd : o.guard = none) (ty : TypeId) (ho : o.op = .alloc ty) (Z : Array Value) (hz : ∀ w, (zeroValue ty).run P w = .ok (.agg Z) w)
    (h : wpList P ops Q rest (a.put o.dst (.pointer (some ⟨w.heap.size, 0, none⟩))) (w.alloc (.cells Z ty))) : wpList P ops Q (o :: rest) a w := by
  refine wpList_val (v := .pointer (some ⟨w.heap.size, 0, none⟩)) (w' := w.alloc (.cells Z ty)) hgd ?_ h
  unfold execOp
  simp only [ho, Instr.alloc, Sem.run_bind, hz, Result.andThen_ok, newVar, newRow, newObj, Sem.run, Value.cells, Sem.run_pure]
  rfl
theorem wpList_storeZ (hgd : o.guard = none) (ty : TypeId) (x y : Operand) (ho : o.op = .store ty x y) (Z C : Array Value) (H : Nat) (hH : w.heap.size = H)
    (hx : a.eval x = .pointer (some ⟨H, 0, none⟩)) (hy : a.eval y = .agg C) (hi : (P.info? ty).map (·.size) = some C.size) (hs : Z.size = C.size) (h1 : C.all (·.oneCell') = true)
    (h : wpList P ops Q rest (a.put o.dst undef) (w.alloc (.cells C ty))) : wpList P ops Q (o :: rest) a (w.alloc (.cells Z ty)) :=
  wpList_plain hgd fun _ hK => by
    subst hH
    unfold Oper.wp execOp
    simp only [ho, hx, hy, Sem.run_bind, run_storeAt_new w ty Z C hi hs h1, Result.andThen_ok, Sem.run_pure]
    exact hK _ _ h
theorem wpList_buildZ (hgd : o.guard = none) (ty : TypeId) (i : Nat) (x : Operand) (ho : o.op = .build ty #[(i, x)]) (v : Value) (C : Array Value) (hx : a.eval x = v) (hb : ∀ w, (Instr.build ty #[(i, v)]).run P w = .ok (.agg C) w)
    (h : wpList P ops Q rest (a.put o.dst (.agg C)) w) : wpList P ops Q (o :: rest) a w := by
  refine wpList_val (v := .agg C) hgd ?_ h
  unfold execOp
  simp only [ho, hx, Array.map, List.mapM_toArray, List.mapM_cons, List.mapM_nil]
  simp [hb]
end
def nilsA (n : Nat) : Array Value := (List.replicate n (Value.slice none 0 0)).toArray
def tabZ : Array Value := nilsA 257
def tabC (v : Value) : Array Value := (List.replicate 256 (Value.slice none 0 0) ++ [v]).toArray
theorem zero_bsr (w : World) : (zeroValue 295).run Tryz.prog w = .ok (.agg tabZ) w := by kernel_rfl
theorem build_bsr (b n c : Nat) (w : World) : (Instr.build 295 #[(1, .slice (some ⟨b, 0, none⟩) n c)]).run Tryz.prog w = .ok (.agg (tabC (.slice (some ⟨b, 0, none⟩) n c))) w := by kernel_rfl
theorem info_bsr : (Tryz.prog.info? 295).map (·.size) = some 257 := by kernel_rfl
theorem tabC_size (v : Value) : (tabC v).size = 257 := by unfold tabC; rw [List.size_toArray, List.length_append, List.length_replicate]; rfl
theorem tabZ_size : tabZ.size = 257 := by unfold tabZ nilsA; rw [List.size_toArray, List.length_replicate]
theorem tabC_one (b n c : Nat) : (tabC (.slice (some ⟨b, 0, none⟩) n c)).all (·.oneCell') = true := by
  unfold tabC
  refine all_oneCell_toArray fun v hv => ?_
  rw [List.mem_append] at hv
  rcases hv with hv | hv
  · rw [(List.mem_replicate.1 hv).2]; rfl
  · rw [List.mem_singleton.1 hv]; rfl
structure TabX (w : World) (B g : Nat) (D E : List UInt8) (C : Array Value) (tv : Value) : Prop where
  hg : w.heap[g]? = some (.cells C 295 (0, 0))
  hB : B ≤ g
  sz : C.size = 257
  at_ : C[256]? = some tv
  own : w.ownsRow B 9 1 tv E.length (E.map fun c => sv [c])
  no : ∀ c : UInt8, c ∉ D → C[c.toNat]? = some (.slice none 0 0)
  yes : ∀ c : UInt8, c ∈ D → ∃ b cap, C[c.toNat]? = some (.slice (some ⟨b, 0, none⟩) 2 cap) ∧ 2 ≤ cap ∧ cap ≤ maxLen ∧ B ≤ b ∧ b ≠ g ∧ tv.ownBlock ≠ some b ∧ w.cell? ⟨b, 0, none⟩ = some (bv 63) ∧ w.cell? ⟨b, 1, none⟩ = some (bv c)
def TabAt (w : World) (B g : Nat) (D E : List UInt8) : Prop := ∃ C tv, TabX w B g D E C tv
theorem TabX.cong {w w' : World} {B g : Nat} {D E : List UInt8} {C : Array Value} {tv : Value} (h : TabX w B g D E C tv) (e : ∀ k, B ≤ k → k < w.heap.size → w'.heap[k]? = w.heap[k]?) : TabX w' B g D E C tv := by
  have hg : g < w.heap.size := (Array.getElem?_eq_some_iff.1 h.hg).1
  refine ⟨(e g h.hB hg).trans h.hg, h.hB, h.sz, h.at_, own_cong h.own (fun k hk => e k (own_lt h.own hk).1 (own_lt h.own hk).2), h.no, fun c hc => ?_⟩
  obtain ⟨b, cap, a1, a2, a2', a3, a4, a5, a6, a7⟩ := h.yes c hc
  have hb := cell_lt' a6
  exact ⟨b, cap, a1, a2, a2', a3, a4, a5, (cell_ag (e b a3 hb)).trans a6, (cell_ag (e b a3 hb)).trans a7⟩
theorem TabX.neg {w : World} {B g : Nat} {D E : List UInt8} {C : Array Value} {tv : Value} (h : TabX w B g D E C tv) : tv.ownBlock ≠ some g := fun hk => by
  obtain ⟨X, hx, _⟩ := own_ty h.own hk
  exact ty_ne hx h.hg (by decide) rfl
theorem TabX.lt {w : World} {B g : Nat} {D E : List UInt8} {C : Array Value} {tv : Value} (h : TabX w B g D E C tv) : g < w.heap.size := (Array.getElem?_eq_some_iff.1 h.hg).1
theorem TabX.cell {w : World} {B g : Nat} {D E : List UInt8} {C : Array Value} {tv : Value} (h : TabX w B g D E C tv) (j : Nat) : w.cell? ⟨g, j, none⟩ = C[j]? := cell_of_row w g j _ _ _ h.hg
theorem TabX.fz {w : World} {B g : Nat} {D E : List UInt8} {C : Array Value} {tv : Value} (h : TabX w B g D E C tv) (j : Nat) : w.frozen? ⟨g, j, none⟩ = false := frozen_of_row w g j _ _ h.hg
theorem TabX.app {w w1 : World} {B g : Nat} {D E : List UInt8} {C : Array Value} {tv tv' : Value} {c : UInt8} (h : TabX w B g D E C tv) (_hs : w.heap.size ≤ w1.heap.size) (hb : ∀ k, k < w.heap.size → tv.ownBlock ≠ some k → w1.heap[k]? = w.heap[k]?)
    (ho : w1.ownsRow B 9 1 tv' (E.length + 1) (E.map (fun c => sv [c]) ++ [sv [c]])) (hk : tv'.ownBlock = tv.ownBlock ∨ ∃ H, tv'.ownBlock = some H ∧ w.heap.size ≤ H) :
    TabX (w1.setCell ⟨g, 256, none⟩ tv') B g D (E ++ [c]) (C.setIfInBounds 256 tv') tv' := by
  have h1 : w1.heap[g]? = some (.cells C 295 (0, 0)) := (hb g h.lt h.neg).trans h.hg
  have ng : tv'.ownBlock ≠ some g := by
    rcases hk with hk | ⟨H, hk, hH⟩
    · rw [hk]; exact h.neg
    · rw [hk]; intro e; have := Option.some.inj e; have := h.lt; omega
  refine ⟨heap_setCell_same w1 g 256 _ _ _ h1, h.hB, by rw [Array.size_setIfInBounds]; exact h.sz, by rw [Array.getElem?_setIfInBounds_self_of_lt (by rw [h.sz]; decide)], ?_, fun x hx => ?_, fun x hx => ?_⟩
  · rw [List.length_append, List.length_singleton, List.map_append, List.map_singleton]
    exact own_cong ho (fun k hk' => heap_setCell_other w1 _ _ _ (fun e => ng (by rw [hk']; exact congrArg some e)))
  · have := x.toNat_lt
    rw [Array.getElem?_setIfInBounds_ne (by omega)]; exact h.no x hx
  · obtain ⟨b, cap, a1, a2, a2', a3, a4, a5, a6, a7⟩ := h.yes x hx
    have hbl := cell_lt' a6
    have := x.toNat_lt
    have e : (w1.setCell ⟨g, 256, none⟩ tv').heap[b]? = w.heap[b]? := (heap_setCell_other w1 _ _ _ a4).trans (hb b hbl a5)
    refine ⟨b, cap, by rw [Array.getElem?_setIfInBounds_ne (by omega)]; exact a1, a2, a2', a3, a4, ?_, (cell_ag e).trans a6, (cell_ag e).trans a7⟩
    rcases hk with hk | ⟨H, hk, hH⟩
    · rw [hk]; exact a5
    · rw [hk]; intro e; have := Option.some.inj e; omega
theorem TabX.put {w w1 : World} {B g nb cap : Nat} {D E : List UInt8} {C : Array Value} {tv : Value} {c : UInt8} (h : TabX w B g D E C tv) (hb : ∀ k, k < w.heap.size → w1.heap[k]? = w.heap[k]?) (hnb : nb = w.heap.size) (hBw : B ≤ w.heap.size)
    (hc0 : w1.cell? ⟨nb, 0, none⟩ = some (bv 63)) (hc1 : w1.cell? ⟨nb, 1, none⟩ = some (bv c)) (h2 : 2 ≤ cap) (hm : cap ≤ maxLen) :
    TabX (w1.setCell ⟨g, c.toNat, none⟩ (.slice (some ⟨nb, 0, none⟩) 2 cap)) B g (D ++ [c]) E (C.setIfInBounds c.toNat (.slice (some ⟨nb, 0, none⟩) 2 cap)) tv := by
  have hcl := c.toNat_lt
  have hgl := h.lt
  have h1 : w1.heap[g]? = some (.cells C 295 (0, 0)) := (hb g hgl).trans h.hg
  have hne : nb ≠ g := by omega
  have en : (w1.setCell ⟨g, c.toNat, none⟩ (.slice (some ⟨nb, 0, none⟩) 2 cap)).heap[nb]? = w1.heap[nb]? := heap_setCell_other w1 _ _ _ hne
  have ht : ∀ k, tv.ownBlock = some k → k < w.heap.size ∧ k ≠ g := fun k hk => ⟨(own_lt h.own hk).2, fun e => h.neg (e ▸ hk)⟩
  refine ⟨heap_setCell_same w1 g _ _ _ _ h1, h.hB, by rw [Array.size_setIfInBounds]; exact h.sz, by rw [Array.getElem?_setIfInBounds_ne (by omega)]; exact h.at_, own_cong h.own (fun k hk => (heap_setCell_other w1 _ _ _ (ht k hk).2).trans (hb k (ht k hk).1)), fun x hx => ?_, fun x hx => ?_⟩
  · rw [List.mem_append, List.mem_singleton, not_or] at hx
    have hn : c.toNat ≠ x.toNat := fun e => hx.2 (UInt8.toNat_inj.1 e.symm)
    rw [Array.getElem?_setIfInBounds_ne hn]; exact h.no x hx.1
  · by_cases hxc : x = c
    · subst hxc
      exact ⟨nb, cap, by rw [Array.getElem?_setIfInBounds_self_of_lt (by rw [h.sz]; omega)], h2, hm, by omega, hne, fun e => by have := (ht nb e).1; omega, (cell_ag en).trans hc0, (cell_ag en).trans hc1⟩
    · have hx' : x ∈ D := by
        rw [List.mem_append, List.mem_singleton] at hx
        exact hx.resolve_right hxc
      have hn : c.toNat ≠ x.toNat := fun e => hxc (UInt8.toNat_inj.1 e.symm)
      obtain ⟨b, cap', a1, a2, a2', a3, a4, a5, a6, a7⟩ := h.yes x hx'
      have e := (heap_setCell_other w1 ⟨g, c.toNat, none⟩ b (.slice (some ⟨nb, 0, none⟩) 2 cap) a4).trans (hb b (cell_lt' a6))
      exact ⟨b, cap', by rw [Array.getElem?_setIfInBounds_ne hn]; exact a1, a2, a2', a3, a4, a5, (cell_ag e).trans a6, (cell_ag e).trans a7⟩
end Go.Proofs.YtgfijlamhjjecaaGreatDoor


namespace Go.Proofs.YtgfijlamhjjecaaGreatDoor
open Go.RowKit
def sg (j : Nat) : UInt8 := [43, 58, 39, 63].getD j 0
def OldAt (w : World) (ob : Nat) : Prop := ∀ j, j < 4 → w.cell? ⟨ob, 2 * j, none⟩ = some (sv [sg j]) ∧ w.cell? ⟨ob, 2 * j + 1, none⟩ = some (sv [63, sg j])
theorem made4 (w : World) : (Instr.makeSlice 58 (.int .i64 0) (.int .i64 4)).run Tryz.prog w = .ok (.slice (some ⟨w.heap.size, 0, none⟩) 0 4) (w.alloc (.cells #[.string ⟨#[]⟩, .string ⟨#[]⟩, .string ⟨#[]⟩, .string ⟨#[]⟩] 9)) := by kernel_rfl
def RepAt (w : World) (rb : Nat) (d s : Int) (r o : Value) : Prop := w.heap[rb]? = some (.cells #[.int .u32 d, .int .i32 s, .int .u32 0, r, o] 256 (0, 0))
def DE (j : Nat) : List UInt8 := [63, 39, 58, 43].take (4 - j)
theorem tab_new (w : World) (B : Nat) (hB : w.heap.size = B) : TabAt ((w.alloc (.cells #[.string ⟨#[]⟩, .string ⟨#[]⟩, .string ⟨#[]⟩, .string ⟨#[]⟩] 9)).alloc (.cells (tabC (.slice (some ⟨B, 0, none⟩) 0 4)) 295)) B (B + 1) [] [] := by
  subst hB
  have h0 : ((w.alloc (.cells #[.string ⟨#[]⟩, .string ⟨#[]⟩, .string ⟨#[]⟩, .string ⟨#[]⟩] 9)).alloc (.cells (tabC (.slice (some ⟨w.heap.size, 0, none⟩) 0 4)) 295)).heap[w.heap.size]? = some (.cells #[.string ⟨#[]⟩, .string ⟨#[]⟩, .string ⟨#[]⟩, .string ⟨#[]⟩] 9 (0, 0)) := by
    rw [Below.heap_alloc _ _ _ (by rw [World.size_alloc]; omega)]; exact heap_alloc_new w _
  have h1 : ((w.alloc (.cells #[.string ⟨#[]⟩, .string ⟨#[]⟩, .string ⟨#[]⟩, .string ⟨#[]⟩] 9)).alloc (.cells (tabC (.slice (some ⟨w.heap.size, 0, none⟩) 0 4)) 295)).heap[w.heap.size + 1]? = some (.cells (tabC (.slice (some ⟨w.heap.size, 0, none⟩) 0 4)) 295 (0, 0)) := by
    have := heap_alloc_new (w.alloc (.cells #[.string ⟨#[]⟩, .string ⟨#[]⟩, .string ⟨#[]⟩, .string ⟨#[]⟩] 9)) (.cells (tabC (.slice (some ⟨w.heap.size, 0, none⟩) 0 4)) 295)
    rw [World.size_alloc] at this
    exact this
  refine ⟨_, .slice (some ⟨w.heap.size, 0, none⟩) 0 4, h1, by omega, tabC_size _, ?_, ⟨rfl, .inr ⟨w.heap.size, 4, _, rfl, Nat.le_refl _, h0, by decide, by decide, rfl, rfl⟩⟩, fun c _ => ?_, fun c h => by simp at h⟩
  · unfold tabC; rw [List.getElem?_toArray, List.getElem?_append_right (by rw [List.length_replicate]; omega), List.length_replicate]; rfl
  · have hc := c.toNat_lt
    unfold tabC; rw [List.getElem?_toArray, List.getElem?_append_left (by rw [List.length_replicate]; omega), List.getElem?_replicate, if_pos (by omega)]
theorem conv_oneR (w : World) (c : UInt8) (cn : Nat) (h : c.toNat = cn) : (convert 72 9 (.slice (some ⟨w.heap.size, 0, none⟩) 1 1)).run Tryz.prog (w.alloc (.cells #[.int .u8 cn] 5)) = .ok (.string ⟨#[c]⟩) (w.alloc (.cells #[.int .u8 cn] 5)) := by
  subst h
  exact run_convert_bytes_back (P := Tryz.prog) _ 72 9 5 ⟨w.heap.size, 0, none⟩ 1 [c] Tryz.underlying72 Tryz.underlying5 Tryz.underlying9 (fun j hj => by
    have : j = 0 := by simpa using hj
    subst this
    exact cell_one_new w (.int .u8 (c.toNat : Int)) 5 0 _ rfl)
theorem DE_len (j : Nat) (h : j ≤ 4) : (DE j).length ≤ 4 := by unfold DE; rw [List.length_take]; omega
theorem DE_pred (j : Nat) (h : j ≠ 0) (h4 : j ≤ 4) : DE (j - 1) = DE j ++ [sg (j - 1)] := by
  match j, h, h4 with
  | 1, _, _ => rfl
  | 2, _, _ => rfl
  | 3, _, _ => rfl
  | 4, _, _ => rfl
theorem sg_notin (j : Nat) (h : j ≠ 0) (h4 : j ≤ 4) : sg (j - 1) ∉ DE j := by
  match j, h, h4 with
  | 1, _, _ => decide
  | 2, _, _ => decide
  | 3, _, _ => decide
  | 4, _, _ => decide
set_option maxRecDepth 100000 in
set_option maxHeartbeats 4000000 in
theorem build_any (w : World) (rb ob cap : Nat) (d s : Int) (r : Value) (hR : RepAt w rb d s r (.slice (some ⟨ob, 0, none⟩) 8 cap)) (hO : OldAt w ob) (_hcap : 8 ≤ cap) (_hc2 : cap ≤ maxLen) :
    Calls Tryz.prog 183 #[.pointer (some ⟨rb, 0, none⟩)] w fun e w' => ∃ g, e = .returned (.iface 296 (.pointer (some ⟨g, 0, none⟩))) ∧ TabAt w' w.heap.size g (DE 0) (DE 0) ∧ Below w.heap.size w w' := by
  unfold maxLen at _hc2
  have HR := Lib.hid hR
  have hmk := made4
  have hnl := fun (w : World) (a : Option Addr) (n c n' c' : Nat) => Lib.run_eql_slice_nil (P := Tryz.prog) w 72 5 a n c n' c' Tryz.underlying72
  obtain ⟨i0, hi, hz0, hz1, hz2⟩ := info_parts einfo_str
  have HI := Lib.hid hi
  have HZ0 := Lib.hid hz0
  have HZ1 := Lib.hid hz1
  have HZ2 := Lib.hid hz2
  clear hi hz0 hz1 hz2
  have HO := Lib.hid hO
  have cr : w.cell? ⟨rb, 4, none⟩ = some (.slice (some ⟨ob, 0, none⟩) 8 cap) := by rw [cell_of_row w rb 4 _ _ _ hR]; rfl
  clear hR hO
  go_enter Tryz.func183, Tryz.ntmps183
  go_wp2_with fail
  go_loop [5, 4] (fun i al => ∃ m k : Nat, k ≤ 4 ∧ i = .int .i64 (m : Int) ∧ Hid (m = 2 * k) ∧ al = .bool (decide (k = 0))) (fun i _ => 8 - (intOf i).toNat)
  case atStart => exact ⟨0, 0, by omega, rfl, Lib.hid rfl, rfl⟩
  case round =>
    obtain ⟨m, k, hk, rfl, hm, rfl⟩ := hrel
    by_cases h4 : k < 4
    · have hm8 : m < 8 := by have := hm.out; omega
      obtain ⟨c1, c2⟩ := HO.out k h4
      rw [← hm.out] at c1 c2
      unfold sv at c1 c2
      have b1 : (0 : Int) ≤ m := by omega
      have b2 : (m : Int) < 8 := by omega
      have b3 : (m : Int) + 1 < 8 := by have := hm.out; omega
      go_wp2_with fail
      go_round
      case rel => exact ⟨m + 2, k + 1, by omega, by go_num, Lib.hid (by have := hm.out; omega), by simp⟩
      case measure => simp [intOf]; omega
    · obtain rfl : k = 4 := by omega
      obtain rfl : m = 8 := by have := hm.out; omega
      go_upto_region 26 with fail
      go_wp2_with first
        | ((with_reducible refine wpList_at (.build 295 #[(1, .tmp 94)]) rfl ?_); go_loud (refine wpList_buildZ rfl 295 1 (.tmp 94) rfl _ _ rfl (build_bsr _ _ _) ?_))
        | ((with_reducible refine wpList_at (.alloc 295) rfl ?_); go_loud (refine wpList_allocZ rfl 295 rfl tabZ zero_bsr ?_))
        | ((with_reducible refine wpList_at (.store 295 (.tmp 11) (.tmp 95)) rfl ?_); go_loud (refine wpList_storeZ rfl 295 _ _ rfl tabZ (tabC (.slice (some ⟨w.heap.size, 0, none⟩) 0 4)) _ rfl rfl rfl (by rw [tabC_size]; exact info_bsr) (by rw [tabZ_size, tabC_size]) (tabC_one _ _ _) ?_))
      obtain ⟨B, hB⟩ : ∃ B, w.heap.size = B := ⟨_, rfl⟩
      rw [hB]
      obtain ⟨w1, hw1⟩ : ∃ w1, ((w.alloc (.cells #[.string ⟨#[]⟩, .string ⟨#[]⟩, .string ⟨#[]⟩, .string ⟨#[]⟩] 9)).alloc (.cells (tabC (.slice (some ⟨B, 0, none⟩) 0 4)) 295)) = w1 := ⟨_, rfl⟩
      rw [hw1]
      have HT := Lib.hid (show TabAt w1 B (B + 1) [] [] by rw [← hw1]; exact tab_new w B hB)
      have HF := Lib.hid (show Below B w w1 by rw [← hw1, ← hB]; exact ((Below.refl _ w).alloc (Nat.le_refl _) _).alloc (by simp) _)
      clear hw1
      go_loopw [12] (fun i wr => ∃ (n : Int) (j : Nat), j ≤ 4 ∧ i = .int .i64 n ∧ Hid (n = 2 * (j : Int) - 2) ∧ Hid (TabAt wr B (B + 1) (DE j) (DE j)) ∧ Hid (Below B w wr)) (fun i _ => (intOf i + 2).toNat)
      case atStart => exact ⟨6, 4, by omega, rfl, Lib.hid rfl, HT, HF⟩
      case round =>
        obtain ⟨n, j, hj, rfl, hn, HT', HF'⟩ := hrel
        by_cases h0 : j = 0
        · subst h0
          have hn' : n = -2 := by rw [hn.out]; rfl
          subst hn'
          go_wp2_with fail
          go_ret
          exact ⟨_, rfl, by rw [hB]; exact HT'.out, by rw [hB]; exact HF'.out⟩
        · obtain ⟨m, hm⟩ : ∃ m : Nat, n = (m : Int) := ⟨(n.toNat), by have := hn.out; omega⟩
          subst hm
          have hmj : m = 2 * (j - 1) := by have := hn.out; omega
          obtain ⟨c, hc⟩ : ∃ c, sg (j - 1) = c := ⟨_, rfl⟩
          obtain ⟨c1, c2⟩ := HO.out (j - 1) (by omega)
          rw [← hmj, hc] at c1 c2
          have hob : ob < B := by rw [← hB]; exact cell_lt' c1
          have e1 := (HF'.out.cell (p := ⟨ob, m, none⟩) hob).trans c1
          have e2 := (HF'.out.cell (p := ⟨ob, m + 1, none⟩) hob).trans c2
          unfold sv at e1 e2
          clear c1 c2
          have b1 : (0 : Int) ≤ m := by omega
          have b2 : (m : Int) < 8 := by omega
          have b3 : (m : Int) + 1 < 8 := by omega
          have hcd : c ∉ DE j := by rw [← hc]; exact sg_notin j (by omega) hj
          have hcn := c.toNat_lt
          obtain ⟨C, tv, hX⟩ := HT'.out
          have k1 := (hX.cell c.toNat).trans (hX.no c hcd)
          have z1 := hX.fz c.toNat
          have k2 := (hX.cell 256).trans hX.at_
          have z2 := hX.fz 256
          obtain ⟨cn, hcn'⟩ : ∃ cn, c.toNat = cn := ⟨_, rfl⟩
          have HCN := Lib.hid hcn'
          rw [hcn'] at k1 z1 hcn
          have hq : ((⟨#[c]⟩ : ByteArray)[0]'(Nat.zero_lt_one)).toNat = cn := hcn'
          have b4 : (0 : Int) ≤ cn := by omega
          have b5 : (cn : Int) < 256 := by omega
          have HX := Lib.hid hX
          have HC := Lib.hid hc
          have HMJ := Lib.hid hmj
          clear hX hc hcd hmj hcn'
          have hgl := HX.out.lt
          have hBw : B ≤ wr.heap.size := by omega
          have hcv : (convert 72 9 (.slice (some ⟨wr.heap.size, 0, none⟩) 1 1)).run Tryz.prog (wr.alloc (.cells #[.int .u8 cn] 5)) = .ok (.string ⟨#[c]⟩) (wr.alloc (.cells #[.int .u8 cn] 5)) := conv_oneR wr c cn HCN.out
          have hown := HX.out.own
          have hng := HX.out.neg
          have HOWN := Lib.hid hown
          have HNG := Lib.hid hng
          have HEL := Lib.hid (DE_len j hj)
          clear hown hng
          go_upto_region 34 with ((with_reducible refine wpList_at (.call { callee := .builtin .append, args := #[.tmp 119, .tmp 123], argTypes := #[58, 58] }) rfl ?_); go_loud (refine wpList_append_own_at _ rfl _ _ 58 rfl B 9 i0 (.string ⟨#[]⟩) 1 16 Tryz.underlying58 HI.out HZ0.out HZ1.out HZ2.out rfl (by decide) _ _ _ rfl ((HOWN.out.alloc _).alloc _) ⟨wr.heap.size + 1, 0, none⟩ 1 1 [.string ⟨#[c]⟩] rfl rfl (cell_one_new2 _ _ _ _) (by simp [Value.oneCell']) (by have := HEL.out; unfold maxLen; omega) (by have := HEL.out; omega) (by simp; omega) ?_); intro tv' w1 ho' hg' _ hk'; have HG1 : Hid (((wr.alloc (.cells #[.int .u8 cn] 5)).alloc (.cells #[.string ⟨#[c]⟩] 9)).grownBy w1 tv.ownBlock) := hg'; have HK1 : Hid (tv'.ownBlock = tv.ownBlock ∨ tv'.ownBlock = some (wr.heap.size + 2)) := Lib.hid (by rcases hk' with h | h; exact .inl h; (right; rw [h]; simp)); have hea := blk_ag2 HG1.out hgl HNG.out; have k2' := (cell_ag hea).trans k2; have z2' := (fz_ag hea).trans z2; have hs1 := hg'.size; simp at hs1; have HO1 := Lib.hid ho'; obtain ⟨tg, tc, _, rfl, _⟩ := own_form ho' (by omega) (by omega); clear ho' hg' hk' hea)
          obtain ⟨wq, hwq⟩ : ∃ wq, w1.setCell ⟨B + 1, 256, none⟩ (.slice (some ⟨tg, 0, none⟩) ((DE j).length + 1) tc) = wq := ⟨_, rfl⟩
          have HXQ := Lib.hid (show TabX wq B (B + 1) (DE j) (DE j ++ [c]) _ _ by rw [← hwq]; exact HX.out.app (by omega) (fun k hk hn => blk_ag2 HG1.out hk hn) HO1.out (by rcases HK1.out with h | h; exact .inl h; exact .inr ⟨_, h, by omega⟩))
          have HFQ := Lib.hid (show Below B wr wq by rw [← hwq]; exact ((((Below.refl B wr).alloc hBw _).alloc (by simp; omega) _).grown HG1.out (by simp; omega) (fun k hk => (own_lt HOWN.out hk).1)).setCell (by simp) _)
          have HF2 := Lib.hid (HF'.out.trans HFQ.out)
          rw [hwq]
          have hsq := HFQ.out.size
          clear k1 z1 k2 z2 k2' z2' e1 e2 hcv hwq HG1 HK1 HO1 hs1
          have hgq := HXQ.out.lt
          have hcl := (HXQ.out.cell c.toNat).trans (HXQ.out.no c (by rw [← HC.out]; exact sg_notin j (by omega) hj))
          have hzl := HXQ.out.fz c.toNat
          rw [HCN.out] at hcl hzl
          obtain ⟨wb, hwb⟩ : ∃ wb, Lib.bytesWorld wq 5 ⟨#[63, c]⟩ = wb := ⟨_, rfl⟩
          have hcb := Lib.run_convert_string_bytes (P := Tryz.prog) wq 9 72 5 ⟨#[63, c]⟩ Tryz.underlying9 Tryz.underlying72 Tryz.underlying5
          have hs2 : (⟨#[63, c]⟩ : ByteArray).size = 2 := rfl
          have hca := grownCap_ge wq 2 0 5
          have hcm := grownCap_le_maxLen wq 2 0 5 (by unfold maxLen; omega)
          rw [hwb, hs2] at hcb
          obtain ⟨cp, hcp⟩ : ∃ cp, grownCap wq 2 0 5 = cp := ⟨_, rfl⟩
          rw [hcp] at hcb hca hcm
          have hol : ∀ k, k < wq.heap.size → wb.heap[k]? = wq.heap[k]? := fun k hk => by rw [← hwb]; exact Lib.bytesWorld_at_old _ _ _ _ hk
          have hwbs : wb.heap.size = wq.heap.size + 1 := by rw [← hwb]; exact Lib.bytesWorld_size _ _ _
          have k3 := (cell_ag (hol (B + 1) hgq)).trans hcl
          have z3 := (fz_ag (hol (B + 1) hgq)).trans hzl
          have HFB := Lib.hid (show Below B wq wb from ⟨by rw [← hwb]; rfl, by rw [← hwb]; rfl, by rw [← hwb]; rfl, by omega, fun k hk => hol k (by omega)⟩)
          have HB0 := Lib.hid (show wb.cell? ⟨wq.heap.size, 0, none⟩ = some (bv 63) by rw [← hwb]; exact Lib.bytesWorld_cell wq 5 ⟨#[63, c]⟩ 0 (Nat.zero_lt_succ _))
          have HB1 := Lib.hid (show wb.cell? ⟨wq.heap.size, 1, none⟩ = some (bv c) by rw [← hwb]; exact Lib.bytesWorld_cell wq 5 ⟨#[63, c]⟩ 1 (Nat.lt_succ_self _))
          have HOL := Lib.hid hol
          have HWBS := Lib.hid hwbs
          clear hwb hcp hol hcl hzl hs2
          go_wp2_with fail
          go_roundw
          case rel =>
            have hmj := HMJ.out
            have e := DE_pred j h0 hj
            rw [HC.out] at e
            have hp := HXQ.out.put (c := c) HOL.out rfl (by omega) HB0.out HB1.out hca hcm
            rw [HCN.out, ← e] at hp
            exact ⟨(m : Int) - 2, j - 1, by omega, rfl, Lib.hid (by omega), Lib.hid ⟨_, _, hp⟩, Lib.hid ((HF2.out.trans HFB.out).setCell (by simp) _)⟩
          case measure => simp only [intOf]; omega
end Go.Proofs.YtgfijlamhjjecaaGreatDoor

