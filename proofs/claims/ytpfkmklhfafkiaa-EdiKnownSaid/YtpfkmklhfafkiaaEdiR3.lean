/-
  EdiR3: a reader of segments in memory: elements and components that are begun, bytes that are put. No condition beyond those stated.
-/
import Derived.Test.YtpfkmklhfafkiaaEdiR2
namespace Go.Proofs.Ytpfkmklhfafkiaa
open Go.RowKit
theorem blk_ag {w w1 : World} {o : Obj} {row : Option Nat} (hg : (w.alloc o).grownBy w1 row) {k : Nat} (hk : k < w.heap.size) (hn : row ≠ some k) : w1.heap[k]? = w.heap[k]? :=
  (hg.block k (by simp; omega) (fun e => hn e.symm)).trans (Below.heap_alloc _ _ _ hk)
theorem blk_ag2 {w w1 : World} {o o' : Obj} {row : Option Nat} (hg : ((w.alloc o).alloc o').grownBy w1 row) {k : Nat} (hk : k < w.heap.size) (hn : row ≠ some k) : w1.heap[k]? = w.heap[k]? :=
  (hg.block k (by simp; omega) (fun e => hn e.symm)).trans ((Below.heap_alloc _ _ _ (by simp; omega)).trans (Below.heap_alloc _ _ _ hk))
section
variable {S : Nat → Prop} {w w' : World} {B rb : Nat} {l : List Seg} {t : Str} {es : List (List Str)} {cs : List Str} {p q : Str} {lv pv ev cv : Value} {xs ys : List Value}
/-- a byte more of a part -/
theorem RB.grow {w1 : World} {o : Obj} {pv' : Value} {q' : Str} (h : RB S w B rb l t es cs p q lv pv ev cv xs ys) (hg : (w.alloc o).grownBy w1 pv.ownBlock) (hp' : OwnS w1 B pv' q') (hk : pv'.ownBlock = pv.ownBlock ∨ pv'.ownBlock = some (w.heap.size + 1)) :
    RB S (w1.setCell ⟨rb, 1, none⟩ pv') B rb l t es cs p q' lv pv' ev cv xs ys := by
  have hsz := hg.size
  have hrb := h.lt
  have npr := own_neR h.r h.hp (by decide)
  have e : ∀ k, k < w.heap.size → pv.ownBlock ≠ some k → k ≠ rb → (w1.setCell ⟨rb, 1, none⟩ pv').heap[k]? = w.heap[k]? := fun k hk hn hr => (heap_setCell_other w1 _ _ _ hr).trans (blk_ag hg hk hn)
  simp at hsz
  have own : ∀ {T : TypeId} {s n : Nat} {v : Value} {zs : List Value}, w.ownsRow B T s v n zs → T ≠ 5 → T ≠ 63 → (w1.setCell ⟨rb, 1, none⟩ pv').ownsRow B T s v n zs := fun ho h1 h2 =>
    own_cong ho (fun k hk => e k (own_lt ho hk).2 (own_ne ho h.hp h1 hk) (fun e => own_neR h.r ho h2 (e ▸ hk)))
  refine ⟨h.hB, by rw [heap_setCell_same w1 rb 1 _ _ _ ((blk_ag hg hrb npr).trans h.r)]; rfl, own_cong hp' (fun k hk' => heap_setCell_other w1 _ _ _ (fun e => ?_)), own h.hl (by decide) (by decide), h.xl, fun i s x a b => (h.old i s x a b).cong (fun _ hk => hk) (fun k hk => e k (h.s1 k hk).2.1 (h.s1 k hk).2.2.2.2.1 (h.s1 k hk).2.2.1),
    own h.he (by decide) (by decide), h.yl, fun i s x a b => (h.ye i s x a b).cong (fun _ hk => hk) (fun k hk => e k (h.s1 k hk).2.1 (h.s1 k hk).2.2.2.2.1 (h.s1 k hk).2.2.1), own h.hc (by decide) (by decide), fun k hS => ?_⟩
  · subst e
    rcases hk with hk | hk
    · exact npr (hk ▸ hk')
    · rw [hk] at hk'; have := Option.some.inj hk'; omega
  · obtain ⟨a, b, c, d, f, g⟩ := h.s1 k hS
    refine ⟨a, by simp; omega, c, d, fun e => ?_, g⟩
    rcases hk with hk | hk
    · exact f (hk ▸ e)
    · rw [hk] at e; have := Option.some.inj e; omega
/-- the open component is set -/
theorem RB.setlast {d c3 : Nat} {p' : Str} (h : RB S w B rb l t es cs p q lv pv ev (.slice (some ⟨d, 0, none⟩) (cs.length + 1) c3) xs ys) : RB S (w.setCell ⟨d, cs.length, none⟩ (sv p')) B rb l t es cs p' q lv pv ev (.slice (some ⟨d, 0, none⟩) (cs.length + 1) c3) xs ys := by
  have e : ∀ k, k ≠ d → (w.setCell ⟨d, cs.length, none⟩ (sv p')).heap[k]? = w.heap[k]? := fun k hk => heap_setCell_other w _ _ _ hk
  have own : ∀ {T : TypeId} {s n : Nat} {v : Value} {zs : List Value}, w.ownsRow B T s v n zs → T ≠ 9 → (w.setCell ⟨d, cs.length, none⟩ (sv p')).ownsRow B T s v n zs := fun ho h1 =>
    own_cong ho (fun k hk => e k (fun e => own_ne ho h.hc h1 hk (by rw [e]; rfl)))
  have hset := own_set h.hc (j := cs.length) (by simp) (sv p')
  have hse : ((cs ++ [p]).map sv).set cs.length (sv p') = (cs ++ [p']).map sv := by
    rw [List.map_append, List.map_append]
    have h1 := set_end (cs.map sv) (sv p) (sv p') []
    rw [List.length_map] at h1
    exact h1
  rw [hse] at hset
  refine ⟨h.hB, (e rb (fun e => own_neR h.r h.hc (by decide) (by rw [e]; rfl))).trans h.r, own h.hp (by decide), own h.hl (by decide), h.xl, fun i s x a b => (h.old i s x a b).cong (fun _ hk => hk) (fun k hk => e k (fun e => (h.s1 k hk).2.2.2.2.2.2 (by rw [e]; rfl))),
    own h.he (by decide), h.yl, fun i s x a b => (h.ye i s x a b).cong (fun _ hk => hk) (fun k hk => e k (fun e => (h.s1 k hk).2.2.2.2.2.2 (by rw [e]; rfl))), hset, fun k hS => ?_⟩
  obtain ⟨a, b, c⟩ := h.s1 k hS
  exact ⟨a, by simpa using b, c⟩
/-- a component is begun -/
theorem RB.colon {w1 : World} {o : Obj} {b c2 : Nat} {cv' : Value} (h : RB S w B rb l t es cs p q lv pv (.slice (some ⟨b, 0, none⟩) (es.length + 1) c2) cv xs ys) (hg : (w.alloc o).grownBy w1 cv.ownBlock) (hc' : w1.ownsRow B 9 1 cv' (cs.length + 1 + 1) ((cs ++ [p]).map sv ++ [sv []])) (hk : cv'.ownBlock = cv.ownBlock ∨ cv'.ownBlock = some (w.heap.size + 1)) :
    RB S (w1.setCell ⟨b, es.length, none⟩ cv') B rb l t es (cs ++ [p]) [] q lv pv (.slice (some ⟨b, 0, none⟩) (es.length + 1) c2) cv' xs ys := by
  have hsz := hg.size
  have hrb := h.lt
  simp at hsz
  have hbl := own_lt h.he (k := b) rfl
  have ncb : cv.ownBlock ≠ some b := fun e => own_ne h.hc h.he (by decide) e rfl
  have ncr := own_neR h.r h.hc (by decide)
  have e1 : ∀ k, k < w.heap.size → cv.ownBlock ≠ some k → w1.heap[k]? = w.heap[k]? := fun k hk hn => blk_ag hg hk hn
  have e : ∀ k, k < w.heap.size → cv.ownBlock ≠ some k → k ≠ b → (w1.setCell ⟨b, es.length, none⟩ cv').heap[k]? = w.heap[k]? := fun k hk hn hr => (heap_setCell_other w1 _ _ _ hr).trans (e1 k hk hn)
  have own : ∀ {T : TypeId} {s n : Nat} {v : Value} {zs : List Value}, w.ownsRow B T s v n zs → T ≠ 9 → T ≠ 38 → (w1.setCell ⟨b, es.length, none⟩ cv').ownsRow B T s v n zs := fun ho h1 h2 =>
    own_cong ho (fun k hk => e k (own_lt ho hk).2 (own_ne ho h.hc h1 hk) (fun e => own_ne ho h.he h2 hk (by rw [e]; rfl)))
  have he1 : w1.ownsRow B 38 1 (.slice (some ⟨b, 0, none⟩) (es.length + 1) c2) (es.length + 1) (ys ++ [cv]) := own_cong h.he (fun k hk => by cases hk; exact e1 b hbl.2 ncb)
  have hset := own_set he1 (j := es.length) (by simp [h.yl]) cv'
  have hse : (ys ++ [cv]).set es.length cv' = ys ++ [cv'] := by
    have h1 := set_end ys cv cv' []
    rw [h.yl] at h1; exact h1
  rw [hse] at hset
  refine ⟨h.hB, (e rb hrb ncr (fun e => own_neR h.r h.he (by decide) (by rw [e]; rfl))).trans h.r, own h.hp (by decide) (by decide), own h.hl (by decide) (by decide), h.xl, fun i s x a b => (h.old i s x a b).cong (fun _ hk => hk) (fun k hk => e k (h.s1 k hk).2.1 (h.s1 k hk).2.2.2.2.2.2 (fun e => (h.s1 k hk).2.2.2.2.2.1 (by rw [e]; rfl))),
    hset, h.yl, fun i s x a b => (h.ye i s x a b).cong (fun _ hk => hk) (fun k hk => e k (h.s1 k hk).2.1 (h.s1 k hk).2.2.2.2.2.2 (fun e => (h.s1 k hk).2.2.2.2.2.1 (by rw [e]; rfl))), ?_, fun k hS => ?_⟩
  · rw [List.length_append, List.length_singleton, List.map_append]
    refine own_cong hc' (fun k hk' => heap_setCell_other w1 _ _ _ (fun e => ?_))
    have e' : k = b := e
    rw [e'] at hk'
    rcases hk with hk | hk
    · exact ncb (hk ▸ hk')
    · rw [hk] at hk'; have h1 := Option.some.inj hk'; omega
  · obtain ⟨a, b', c, d, f, g, i⟩ := h.s1 k hS
    refine ⟨a, by simp; omega, c, d, f, g, fun e => ?_⟩
    rcases hk with hk | hk
    · exact i (hk ▸ e)
    · rw [hk] at e; have := Option.some.inj e; omega
/-- an element is begun behind another -/
theorem RB.next {w1 : World} {g c1 : Nat} {ev' : Value} {o o' : Obj} (ho : o = .cells #[sv []] 9 (0, 0)) (_ho' : o' = .cells #[.slice (some ⟨w.heap.size, 0, none⟩) 1 1] 38 (0, 0)) (h : RB S w B rb l t es cs p q (.slice (some ⟨g, 0, none⟩) (l.length + 1) c1) pv ev cv xs ys) (hB : B ≤ w.heap.size) (hg : ((w.alloc o).alloc o').grownBy w1 ev.ownBlock)
    (he' : w1.ownsRow B 38 1 ev' (es.length + 1 + 1) (ys ++ [cv] ++ [.slice (some ⟨w.heap.size, 0, none⟩) 1 1])) (hk : ev'.ownBlock = ev.ownBlock ∨ ev'.ownBlock = some (w.heap.size + 2)) :
    RB (fun k => S k ∨ cv.ownBlock = some k) (w1.setCell ⟨g, l.length * 2 + 1, none⟩ ev') B rb l t (es ++ [cs ++ [p]]) [] [] q (.slice (some ⟨g, 0, none⟩) (l.length + 1) c1) pv ev' (.slice (some ⟨w.heap.size, 0, none⟩) 1 1) xs (ys ++ [cv]) := by
  have hsz := hg.size
  have hrb := h.lt
  simp at hsz
  have hgl := own_lt h.hl (k := g) rfl
  have neg : ev.ownBlock ≠ some g := fun e => own_ne h.he h.hl (by decide) e rfl
  have ner := own_neR h.r h.he (by decide)
  have e1 : ∀ k, k < w.heap.size → ev.ownBlock ≠ some k → w1.heap[k]? = w.heap[k]? := fun k hk hn => blk_ag2 hg hk hn
  have e : ∀ k, k < w.heap.size → ev.ownBlock ≠ some k → k ≠ g → (w1.setCell ⟨g, l.length * 2 + 1, none⟩ ev').heap[k]? = w.heap[k]? := fun k hk hn hr => (heap_setCell_other w1 _ _ _ hr).trans (e1 k hk hn)
  have own : ∀ {T : TypeId} {s n : Nat} {v : Value} {zs : List Value}, w.ownsRow B T s v n zs → T ≠ 38 → T ≠ 37 → (w1.setCell ⟨g, l.length * 2 + 1, none⟩ ev').ownsRow B T s v n zs := fun ho h1 h2 =>
    own_cong ho (fun k hk => e k (own_lt ho hk).2 (own_ne ho h.he h1 hk) (fun e => own_ne ho h.hl h2 hk (by rw [e]; rfl)))
  have hl1 := own_cong h.hl (w' := w1) (fun k hk => by cases hk; exact e1 g hgl.2 neg)
  have hlen := segCells_len l xs h.xl
  have hset := own_set hl1 (j := l.length * 2 + 1) (by rw [List.length_append, hlen]; show l.length * 2 + 1 < l.length * 2 + 2; omega) ev'
  have hse : (segCells l xs ++ [sv t, ev]).set (l.length * 2 + 1) ev' = segCells l xs ++ [sv t, ev'] := by
    have h1 := set_end1 (segCells l xs) (sv t) ev ev' []
    rw [hlen] at h1; exact h1
  rw [hse] at hset
  have hnew : (w1.setCell ⟨g, l.length * 2 + 1, none⟩ ev').heap[w.heap.size]? = some (.cells #[sv []] 9 (0, 0)) := by
    refine (heap_setCell_other w1 _ _ _ (by show w.heap.size ≠ g; omega)).trans ((hg.block w.heap.size (by simp; omega) (fun e => ?_)).trans ((Below.heap_alloc _ _ _ (by simp)).trans (by rw [ho]; exact heap_alloc_new _ _)))
    have := (own_lt h.he e.symm).2; omega
  have hcc : (w1.setCell ⟨g, l.length * 2 + 1, none⟩ ev').ownsRow B 9 1 (.slice (some ⟨w.heap.size, 0, none⟩) 1 1) 1 [sv []] :=
    ⟨rfl, .inr ⟨w.heap.size, 1, _, rfl, hB, hnew, Nat.le_refl _, by unfold maxLen; omega, rfl, rfl⟩⟩
  refine ⟨h.hB, (e rb hrb ner (fun e => own_neR h.r h.hl (by decide) (by rw [e]; rfl))).trans h.r, own h.hp (by decide) (by decide), hset, h.xl, fun i s x a b => (h.old i s x a b).cong (fun _ hk => .inl hk) (fun k hk => e k (h.s1 k hk).2.1 (h.s1 k hk).2.2.2.2.2.1 (fun e => (h.s1 k hk).2.2.2.1 (by rw [e]; rfl))),
    ?_, by simp [h.yl], fun i f y a b => ?_, hcc, fun k hS => ?_⟩
  · rw [List.length_append, List.length_singleton]
    refine own_cong he' (fun k hk' => heap_setCell_other w1 _ _ _ (fun e => ?_))
    have e' : k = g := e
    rw [e'] at hk'
    rcases hk with hk | hk
    · exact neg (hk ▸ hk')
    · rw [hk] at hk'; have h1 := Option.some.inj hk'; omega
  · rcases Nat.lt_or_ge i es.length with hi | hi
    · rw [List.getElem?_append_left hi] at a
      rw [List.getElem?_append_left (by rw [h.yl]; exact hi)] at b
      exact (h.ye i f y a b).cong (fun _ hk => .inl hk) (fun k hk => e k (h.s1 k hk).2.1 (h.s1 k hk).2.2.2.2.2.1 (fun e => (h.s1 k hk).2.2.2.1 (by rw [e]; rfl)))
    · have h0 : i = es.length := by have := (List.getElem?_eq_some_iff.1 a).1; simp at this; omega
      subst h0
      rw [List.getElem?_append_right (by rw [h.yl]; exact Nat.le_refl _), h.yl, Nat.sub_self] at b
      simp at a b
      subst a; subst b
      have hc2 := own h.hc (by decide) (by decide)
      exact ⟨by rw [List.length_append, List.length_singleton]; exact hc2, fun k hk => .inr hk⟩
  · rcases hS with hS | hS
    · obtain ⟨a, b', c, d, f, i, j⟩ := h.s1 k hS
      refine ⟨a, by simp; omega, c, d, f, fun e => ?_, fun e => ?_⟩
      · rcases hk with hk | hk
        · exact i (hk ▸ e)
        · rw [hk] at e; have := Option.some.inj e; omega
      · have h1 : w.heap.size = k := by simpa [Value.ownBlock] using e
        omega
    · obtain ⟨a, b'⟩ := own_lt h.hc hS
      refine ⟨a, by simp; omega, fun e => own_neR h.r h.hc (by decide) (e ▸ hS), own_ne h.hc h.hl (by decide) hS, own_ne h.hc h.hp (by decide) hS, fun e => ?_, fun e => ?_⟩
      · rcases hk with hk | hk
        · exact own_ne h.hc h.he (by decide) hS (hk ▸ e)
        · rw [hk] at e; have := Option.some.inj e; omega
      · have h1 : w.heap.size = k := by simpa [Value.ownBlock] using e
        omega
/-- the first element is begun -/
theorem RA.open {w1 : World} {g c1 : Nat} {ev' : Value} {o o' : Obj} {xs0 : List Value} (ho : o = .cells #[sv []] 9 (0, 0)) (_ho' : o' = .cells #[.slice (some ⟨w.heap.size, 0, none⟩) 1 1] 38 (0, 0)) (h : RA S w B rb (l ++ [⟨t, []⟩]) (.slice (some ⟨g, 0, none⟩) (l.length + 1) c1) pv (xs0 ++ [.slice none 0 0]) p) (hB : B ≤ w.heap.size) (hg : ((w.alloc o).alloc o').grownBy w1 none)
    (he' : w1.ownsRow B 38 1 ev' 1 [.slice (some ⟨w.heap.size, 0, none⟩) 1 1]) (hk : ev'.ownBlock = none ∨ ev'.ownBlock = some (w.heap.size + 2)) :
    RB S (w1.setCell ⟨g, l.length * 2 + 1, none⟩ ev') B rb l t [] [] [] p (.slice (some ⟨g, 0, none⟩) (l.length + 1) c1) pv ev' (.slice (some ⟨w.heap.size, 0, none⟩) 1 1) xs0 [] := by
  have hl := h.hl
  have hx0 : xs0.length = l.length := by have := h.xl; simpa using this
  rw [List.length_append, List.length_singleton, segCells_app _ _ _ _ hx0] at hl
  have hsz := hg.size
  have hrb := h.lt
  simp at hsz
  have hgl := own_lt hl (k := g) rfl
  have e1 : ∀ k, k < w.heap.size → w1.heap[k]? = w.heap[k]? := fun k hk => blk_ag2 hg hk (by simp)
  have e : ∀ k, k < w.heap.size → k ≠ g → (w1.setCell ⟨g, l.length * 2 + 1, none⟩ ev').heap[k]? = w.heap[k]? := fun k hk hr => (heap_setCell_other w1 _ _ _ hr).trans (e1 k hk)
  have hl1 := own_cong hl (w' := w1) (fun k hk => by cases hk; exact e1 g hgl.2)
  have hlen := segCells_len l xs0 hx0
  have hset := own_set hl1 (j := l.length * 2 + 1) (by rw [List.length_append, hlen]; show l.length * 2 + 1 < l.length * 2 + 2; omega) ev'
  have hse : (segCells l xs0 ++ segCells [⟨t, []⟩] [.slice none 0 0]).set (l.length * 2 + 1) ev' = segCells l xs0 ++ [sv t, ev'] := by
    have h1 := set_end1 (segCells l xs0) (sv t) (.slice none 0 0) ev' []
    rw [hlen] at h1; exact h1
  rw [hse] at hset
  have hnew : (w1.setCell ⟨g, l.length * 2 + 1, none⟩ ev').heap[w.heap.size]? = some (.cells #[sv []] 9 (0, 0)) :=
    (heap_setCell_other w1 _ _ _ (by show w.heap.size ≠ g; omega)).trans ((hg.block w.heap.size (by simp; omega) (by simp)).trans ((Below.heap_alloc _ _ _ (by simp)).trans (by rw [ho]; exact heap_alloc_new _ _)))
  have hcc : (w1.setCell ⟨g, l.length * 2 + 1, none⟩ ev').ownsRow B 9 1 (.slice (some ⟨w.heap.size, 0, none⟩) 1 1) 1 [sv []] :=
    ⟨rfl, .inr ⟨w.heap.size, 1, _, rfl, hB, hnew, Nat.le_refl _, by unfold maxLen; omega, rfl, rfl⟩⟩
  refine ⟨h.hB, (e rb hrb (fun e => own_neR h.r hl (by decide) (by rw [e]; rfl))).trans h.r, own_cong h.hp (fun k hk => e k (own_lt h.hp hk).2 (fun e => own_ne h.hp hl (by decide) hk (by rw [e]; rfl))), hset, hx0, fun i s x a b => ?_,
    ?_, rfl, fun i f y a b => by simp at a, hcc, fun k hS => ?_⟩
  · have hi : i < l.length := (List.getElem?_eq_some_iff.1 a).1
    have h1 := h.hes i s x (by rw [List.getElem?_append_left hi]; exact a) (by rw [List.getElem?_append_left (by omega)]; exact b)
    exact h1.cong (fun _ hk => hk) (fun k hk => e k (h.s1 k hk).2.1 (fun e => (h.s1 k hk).2.2.2.1 (by rw [e]; rfl)))
  · refine own_cong he' (fun k hk' => heap_setCell_other w1 _ _ _ (fun e => ?_))
    have e' : k = g := e
    rw [e'] at hk'
    rcases hk with hk | hk
    · rw [hk] at hk'; cases hk'
    · rw [hk] at hk'; have h1 := Option.some.inj hk'; omega
  · obtain ⟨a, b', c, d, f⟩ := h.s1 k hS
    refine ⟨a, by simp; omega, c, d, f, fun e => ?_, fun e => ?_⟩
    · rcases hk with hk | hk
      · rw [hk] at e; cases e
      · rw [hk] at e; have := Option.some.inj e; omega
    · have h1 : w.heap.size = k := by simpa [Value.ownBlock] using e
      omega
end
end Go.Proofs.Ytpfkmklhfafkiaa
