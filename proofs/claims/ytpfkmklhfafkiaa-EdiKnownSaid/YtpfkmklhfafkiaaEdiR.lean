/-
  EdiR: a reader of segments in memory: what each step of it leaves. No condition beyond those stated.
-/
import Derived.Test.YtpfkmklhfafkiaaEdiM
namespace Go.Proofs.Ytpfkmklhfafkiaa
open Go.RowKit
theorem ty_ne {w : World} {b c : Nat} {C D : Array Value} {t u : TypeId} {f g : Nat × Nat} (h1 : w.heap[b]? = some (.cells C t f)) (h2 : w.heap[c]? = some (.cells D u g)) (h : t ≠ u) : b ≠ c := by
  intro e; subst e; rw [h1] at h2; have h3 := Option.some.inj h2; injection h3 with _ h4; exact h h4
theorem own_ne {w : World} {B B' : Nat} {e e' : TypeId} {s s' n n' : Nat} {v v' : Value} {xs xs' : List Value} (h : w.ownsRow B e s v n xs) (h' : w.ownsRow B' e' s' v' n' xs') (he : e ≠ e') {k : Nat} (hk : v.ownBlock = some k) : v'.ownBlock ≠ some k := fun hk' => by
  obtain ⟨C, h1, _⟩ := own_ty h hk
  obtain ⟨D, h2, _⟩ := own_ty h' hk'
  exact ty_ne h1 h2 he rfl
theorem own_lt {w : World} {B : Nat} {e : TypeId} {s n : Nat} {v : Value} {xs : List Value} (h : w.ownsRow B e s v n xs) {k : Nat} (hk : v.ownBlock = some k) : B ≤ k ∧ k < w.heap.size := by
  obtain ⟨_, _, a, b⟩ := own_ty h hk; exact ⟨a, b⟩
/-- the reader between segments, or within a tag -/
structure RA (S : Nat → Prop) (w : World) (B rb : Nat) (l : List Seg) (lv pv : Value) (xs : List Value) (p : Str) : Prop where
  hB : B ≤ rb
  r : w.heap[rb]? = some (.cells #[lv, pv] 63 (0, 0))
  hp : OwnS w B pv p
  hl : w.ownsRow B 37 2 lv l.length (segCells l xs)
  xl : xs.length = l.length
  hes : ∀ (i : Nat) (s : Seg) (x : Value), l[i]? = some s → xs[i]? = some x → ElemsO S B w x s.elems
  s1 : ∀ k, S k → B ≤ k ∧ k < w.heap.size ∧ k ≠ rb ∧ lv.ownBlock ≠ some k ∧ pv.ownBlock ≠ some k
/-- the reader within a component -/
structure RB (S : Nat → Prop) (w : World) (B rb : Nat) (l : List Seg) (t : Str) (es : List (List Str)) (cs : List Str) (p q : Str) (lv pv ev cv : Value) (xs ys : List Value) : Prop where
  hB : B ≤ rb
  r : w.heap[rb]? = some (.cells #[lv, pv] 63 (0, 0))
  hp : OwnS w B pv q
  hl : w.ownsRow B 37 2 lv (l.length + 1) (segCells l xs ++ [sv t, ev])
  xl : xs.length = l.length
  old : ∀ (i : Nat) (s : Seg) (x : Value), l[i]? = some s → xs[i]? = some x → ElemsO S B w x s.elems
  he : w.ownsRow B 38 1 ev (es.length + 1) (ys ++ [cv])
  yl : ys.length = es.length
  ye : ∀ (i : Nat) (e : List Str) (y : Value), es[i]? = some e → ys[i]? = some y → CompsO S B w y e
  hc : w.ownsRow B 9 1 cv (cs.length + 1) ((cs ++ [p]).map sv)
  s1 : ∀ k, S k → B ≤ k ∧ k < w.heap.size ∧ k ≠ rb ∧ lv.ownBlock ≠ some k ∧ pv.ownBlock ≠ some k ∧ ev.ownBlock ≠ some k ∧ cv.ownBlock ≠ some k
section
variable {S : Nat → Prop} {w w' : World} {B rb : Nat} {l : List Seg} {t : Str} {es : List (List Str)} {cs : List Str} {p q : Str} {lv pv ev cv : Value} {xs ys : List Value}
theorem RA.lt (h : RA S w B rb l lv pv xs p) : rb < w.heap.size := (Array.getElem?_eq_some_iff.1 h.r).1
theorem RB.lt (h : RB S w B rb l t es cs p q lv pv ev cv xs ys) : rb < w.heap.size := (Array.getElem?_eq_some_iff.1 h.r).1
theorem RA.c0 (h : RA S w B rb l lv pv xs p) : w.cell? ⟨rb, 0, none⟩ = some lv := by rw [cell_of_row w rb 0 _ _ _ h.r]; rfl
theorem RA.c1 (h : RA S w B rb l lv pv xs p) : w.cell? ⟨rb, 1, none⟩ = some pv := by rw [cell_of_row w rb 1 _ _ _ h.r]; rfl
theorem RA.fz (h : RA S w B rb l lv pv xs p) (j : Nat) : w.frozen? ⟨rb, j, none⟩ = false := frozen_of_row w rb j _ _ h.r
theorem RB.c0 (h : RB S w B rb l t es cs p q lv pv ev cv xs ys) : w.cell? ⟨rb, 0, none⟩ = some lv := by rw [cell_of_row w rb 0 _ _ _ h.r]; rfl
theorem RB.c1 (h : RB S w B rb l t es cs p q lv pv ev cv xs ys) : w.cell? ⟨rb, 1, none⟩ = some pv := by rw [cell_of_row w rb 1 _ _ _ h.r]; rfl
theorem RB.fz (h : RB S w B rb l t es cs p q lv pv ev cv xs ys) (j : Nat) : w.frozen? ⟨rb, j, none⟩ = false := frozen_of_row w rb j _ _ h.r
theorem own_neR {rb : Nat} {C : Array Value} {f : Nat × Nat} {e : TypeId} {s n : Nat} {v : Value} {zs : List Value} (hr : w.heap[rb]? = some (.cells C 63 f)) (h : w.ownsRow B e s v n zs) (he : e ≠ 63) : v.ownBlock ≠ some rb := fun hk => by
  obtain ⟨D, h1, _⟩ := own_ty h hk
  exact ty_ne h1 hr he rfl
/-- nothing of it has turned -/
theorem RA.keep (h : RA S w B rb l lv pv xs p) (hs : w.heap.size ≤ w'.heap.size) (e : ∀ k, k < w.heap.size → B ≤ k → w'.heap[k]? = w.heap[k]?) : RA S w' B rb l lv pv xs p := by
  refine ⟨h.hB, (e rb h.lt h.hB).trans h.r, own_cong h.hp (fun k hk => e k (own_lt h.hp hk).2 (own_lt h.hp hk).1), own_cong h.hl (fun k hk => e k (own_lt h.hl hk).2 (own_lt h.hl hk).1), h.xl, fun i s x a b => (h.hes i s x a b).cong (fun _ hk => hk) (fun k hk => e k (h.s1 k hk).2.1 (h.s1 k hk).1), fun k hk => ?_⟩
  obtain ⟨a, b, c⟩ := h.s1 k hk
  exact ⟨a, by omega, c⟩
theorem RB.keep (h : RB S w B rb l t es cs p q lv pv ev cv xs ys) (hs : w.heap.size ≤ w'.heap.size) (e : ∀ k, k < w.heap.size → B ≤ k → w'.heap[k]? = w.heap[k]?) : RB S w' B rb l t es cs p q lv pv ev cv xs ys := by
  refine ⟨h.hB, (e rb h.lt h.hB).trans h.r, own_cong h.hp (fun k hk => e k (own_lt h.hp hk).2 (own_lt h.hp hk).1), own_cong h.hl (fun k hk => e k (own_lt h.hl hk).2 (own_lt h.hl hk).1), h.xl, fun i s x a b => (h.old i s x a b).cong (fun _ hk => hk) (fun k hk => e k (h.s1 k hk).2.1 (h.s1 k hk).1),
    own_cong h.he (fun k hk => e k (own_lt h.he hk).2 (own_lt h.he hk).1), h.yl, fun i s x a b => (h.ye i s x a b).cong (fun _ hk => hk) (fun k hk => e k (h.s1 k hk).2.1 (h.s1 k hk).1), own_cong h.hc (fun k hk => e k (own_lt h.hc hk).2 (own_lt h.hc hk).1), fun k hk => ?_⟩
  obtain ⟨a, b, c⟩ := h.s1 k hk
  exact ⟨a, by omega, c⟩
theorem RA.fr0 (h : RA S w B rb l lv pv xs p) (hf : Fr [] w w') : RA S w' B rb l lv pv xs p := h.keep hf.size (fun k hk _ => hf.block k hk (by simp))
theorem RB.fr0 (h : RB S w B rb l t es cs p q lv pv ev cv xs ys) (hf : Fr [] w w') : RB S w' B rb l t es cs p q lv pv ev cv xs ys := h.keep hf.size (fun k hk _ => hf.block k hk (by simp))
/-- part is emptied -/
theorem RA.part (h : RA S w B rb l lv pv xs p) : RA S (w.setCell ⟨rb, 1, none⟩ (.slice none 0 0)) B rb l lv (.slice none 0 0) xs [] := by
  have e : ∀ k, k ≠ rb → (w.setCell ⟨rb, 1, none⟩ (.slice none 0 0)).heap[k]? = w.heap[k]? := fun k hk => heap_setCell_other w _ _ _ hk
  refine ⟨h.hB, by rw [heap_setCell_same w rb 1 _ _ _ h.r]; rfl, World.ownsRow_nil _ _ _ _, own_cong h.hl (fun k hk => e k (fun e => own_neR h.r h.hl (by decide) (e ▸ hk))), h.xl, fun i s x a b => (h.hes i s x a b).cong (fun _ hk => hk) (fun k hk => e k (h.s1 k hk).2.2.1), fun k hk => ?_⟩
  obtain ⟨a, b, c, d, _⟩ := h.s1 k hk
  exact ⟨a, by simpa using b, c, d, by simp [Value.ownBlock]⟩
theorem RB.part (h : RB S w B rb l t es cs p q lv pv ev cv xs ys) : RB S (w.setCell ⟨rb, 1, none⟩ (.slice none 0 0)) B rb l t es cs p [] lv (.slice none 0 0) ev cv xs ys := by
  have e : ∀ k, k ≠ rb → (w.setCell ⟨rb, 1, none⟩ (.slice none 0 0)).heap[k]? = w.heap[k]? := fun k hk => heap_setCell_other w _ _ _ hk
  refine ⟨h.hB, by rw [heap_setCell_same w rb 1 _ _ _ h.r]; rfl, World.ownsRow_nil _ _ _ _, own_cong h.hl (fun k hk => e k (fun e => own_neR h.r h.hl (by decide) (e ▸ hk))), h.xl, fun i s x a b => (h.old i s x a b).cong (fun _ hk => hk) (fun k hk => e k (h.s1 k hk).2.2.1),
    own_cong h.he (fun k hk => e k (fun e => own_neR h.r h.he (by decide) (e ▸ hk))), h.yl, fun i s x a b => (h.ye i s x a b).cong (fun _ hk => hk) (fun k hk => e k (h.s1 k hk).2.2.1), own_cong h.hc (fun k hk => e k (fun e => own_neR h.r h.hc (by decide) (e ▸ hk))), fun k hk => ?_⟩
  obtain ⟨a, b, c, d, _, f⟩ := h.s1 k hk
  exact ⟨a, by simpa using b, c, d, by simp [Value.ownBlock], f⟩
/-- a segment more -/
theorem RA.newseg {w1 : World} {o : Obj} {lv' : Value} (h : RA S w B rb l lv pv xs p) (hg : (w.alloc o).grownBy w1 lv.ownBlock) (hl : w1.ownsRow B 37 2 lv' (l.length + 1) (segCells l xs ++ [sv [], .slice none 0 0])) (hk : lv'.ownBlock = lv.ownBlock ∨ lv'.ownBlock = some (w.alloc o).heap.size) :
    RA S (w1.setCell ⟨rb, 0, none⟩ lv') B rb (l ++ [⟨[], []⟩]) lv' pv (xs ++ [.slice none 0 0]) p := by
  have hsz := hg.size
  have hrb := h.lt
  have e1 : ∀ k, k < w.heap.size → lv.ownBlock ≠ some k → w1.heap[k]? = w.heap[k]? := fun k hk hn => (hg.block k (by simp; omega) (fun e => hn e.symm)).trans (Below.heap_alloc _ _ _ hk)
  have e : ∀ k, k < w.heap.size → lv.ownBlock ≠ some k → k ≠ rb → (w1.setCell ⟨rb, 0, none⟩ lv').heap[k]? = w.heap[k]? := fun k hk hn hr => (heap_setCell_other w1 _ _ _ hr).trans (e1 k hk hn)
  have nlr := own_neR h.r h.hl (by decide)
  have npr := own_neR h.r h.hp (by decide)
  simp at hsz hk
  refine ⟨h.hB, by rw [heap_setCell_same w1 rb 0 _ _ _ ((e1 rb hrb nlr).trans h.r)]; rfl, own_cong h.hp (fun k hk => e k (own_lt h.hp hk).2 (own_ne h.hp h.hl (by decide) hk) (fun e => npr (e ▸ hk))), ?_, by simp [h.xl], fun i s x a b => ?_, fun k hS => ?_⟩
  · rw [List.length_append, List.length_singleton, segCells_app _ _ _ _ h.xl]
    refine own_cong hl (fun k hk' => heap_setCell_other w1 _ _ _ (fun e => ?_))
    subst e
    rcases hk with hk | hk
    · exact nlr (hk ▸ hk')
    · rw [hk] at hk'; have := Option.some.inj hk'; omega
  · rcases Nat.lt_or_ge i l.length with hi | hi
    · rw [List.getElem?_append_left hi] at a
      rw [List.getElem?_append_left (by rw [h.xl]; exact hi)] at b
      exact (h.hes i s x a b).cong (fun _ hk => hk) (fun k hk => e k (h.s1 k hk).2.1 (h.s1 k hk).2.2.2.1 (h.s1 k hk).2.2.1)
    · rw [List.getElem?_append_right hi] at a
      rw [List.getElem?_append_right (by rw [h.xl]; exact hi), h.xl] at b
      have h0 : i - l.length = 0 := by have := (List.getElem?_eq_some_iff.1 a).1; simp at this; omega
      rw [h0] at a b
      simp at a b
      subst a; subst b
      exact ElemsO.nil _ _ _
  · obtain ⟨a, b, c, d, f⟩ := h.s1 k hS
    refine ⟨a, by simp; omega, c, fun e => ?_, f⟩
    rcases hk with hk | hk
    · exact d (hk ▸ e)
    · rw [hk] at e; have := Option.some.inj e; omega
theorem RA.fr_newseg {w1 : World} {o : Obj} {lv' : Value} (h : RA S w B rb l lv pv xs p) (hg : (w.alloc o).grownBy w1 lv.ownBlock) (hB : B ≤ w.heap.size) : Below B w (w1.setCell ⟨rb, 0, none⟩ lv') := by
  have hh := h.hB
  exact ((((Below.refl B w).alloc hB o).grown hg (by simp; omega) (fun k hk => (own_lt h.hl hk).1))).setCell hh lv'
end
end Go.Proofs.Ytpfkmklhfafkiaa
