/-
  EdiA6: segments that are made anew, element by element: how they lie. No condition beyond those stated.
-/
import Derived.Test.YtpfkmklhfafkiaaEdiA4
import Derived.Test.YtpfkmklhfafkiaaPlan2
namespace Go.Proofs.Ytpfkmklhfafkiaa
open Go.RowKit
/-- elements that are being made, held by a segment in block sp -/
structure OE (H sp : Nat) (st : ByteArray) (w : World) (ev : Value) (ys : List Value) (es : List (List Str)) : Prop where
  row : w.ownsRow H 38 1 ev es.length ys
  len : ys.length = es.length
  c : w.heap[sp]? = some (.cells #[.string st, ev] 37 (0, 0))
  el : ∀ (i : Nat) (e : List Str) (x : Value), es[i]? = some e → ys[i]? = some x → CompsAt (fun b => H ≤ b ∧ b < w.heap.size ∧ ev.ownBlock ≠ some b ∧ b ≠ sp) w x e
theorem OE.start {H sp : Nat} {st : ByteArray} {w : World} (hc : w.heap[sp]? = some (.cells #[.string st, .slice none 0 0] 37 (0, 0))) : OE H sp st w (.slice none 0 0) [] [] :=
  ⟨World.ownsRow_nil _ _ _ _, rfl, hc, fun i e x h => by simp at h⟩
theorem OE.cells {H sp : Nat} {st : ByteArray} {w : World} {ev : Value} {ys : List Value} {es : List (List Str)} (h : OE H sp st w ev ys es) : w.cell? ⟨sp, 0, none⟩ = some (.string st) ∧ w.cell? ⟨sp, 1, none⟩ = some ev ∧ w.frozen? ⟨sp, 1, none⟩ = false :=
  ⟨cell_of_row w sp 0 _ _ _ h.c, cell_of_row w sp 1 _ _ _ h.c, frozen_of_row w sp 1 _ _ h.c⟩
theorem OE.lt {H sp : Nat} {st : ByteArray} {w : World} {ev : Value} {ys : List Value} {es : List (List Str)} (h : OE H sp st w ev ys es) : sp < w.heap.size := (Array.getElem?_eq_some_iff.1 h.c).1
theorem OE.drew {H sp : Nat} {st : ByteArray} {w w' : World} {ev : Value} {ys : List Value} {es : List (List Str)} (h : OE H sp st w ev ys es) (e : w'.heap = w.heap) : OE H sp st w' ev ys es :=
  ⟨own_cong h.row (fun k _ => by rw [e]), h.len, by rw [e]; exact h.c, fun i e' x h1 h2 => (h.el i e' x h1 h2).cong (fun k hk => by rw [e]; exact hk) (fun k _ => by rw [e])⟩
theorem row_snoc {α : Type} {l : List α} {a : α} {i : Nat} {x : α} (h : (l ++ [a])[i]? = some x) : l[i]? = some x ∨ (i = l.length ∧ x = a) := by
  rcases Nat.lt_or_ge i l.length with hi | hi
  · rw [List.getElem?_append_left hi] at h; exact .inl h
  · rw [List.getElem?_append_right hi] at h
    obtain ⟨hlt, h2⟩ := List.getElem?_eq_some_iff.1 h
    simp at hlt
    exact .inr ⟨by omega, by rw [← h2]; simp⟩
theorem own_not {w : World} {B : Nat} {e t : TypeId} {s n k : Nat} {v : Value} {xs : List Value} {C : Array Value} (h : w.ownsRow B e s v n xs) (hc : w.heap[k]? = some (.cells C t (0, 0))) (hne : t ≠ e) : v.ownBlock ≠ some k := fun hk => by
  obtain ⟨C', hC, _⟩ := own_ty h hk
  rw [hc] at hC
  cases hC; exact hne rfl
theorem OE.step {H sp : Nat} {st : ByteArray} {w w2 w3 : World} {ev ev' cv : Value} {ys : List Value} {es : List (List Str)} {e : List Str} (h : OE H sp st w ev ys es) (hH : H ≤ w.heap.size) (hb : Below w.heap.size w w2)
    (hco : CompsAt (fun b => w.heap.size ≤ b ∧ b < w2.heap.size) w2 cv e) (hg : w2.grownBy w3 ev.ownBlock) (ho : w3.ownsRow H 38 1 ev' (es.length + 1) (ys ++ [cv])) (hk : ev'.ownBlock = ev.ownBlock ∨ ∃ k, ev'.ownBlock = some k ∧ w2.heap.size ≤ k) :
    OE H sp st (w3.setCell ⟨sp, 1, none⟩ ev') ev' (ys ++ [cv]) (es ++ [e]) := by
  have hsp := h.lt
  have hz := hb.size
  have hz3 := hg.size
  have hesp : ev.ownBlock ≠ some sp := own_not h.row h.c (by decide)
  have c3 : w3.heap[sp]? = some (.cells #[.string st, ev] 37 (0, 0)) := (hg.block sp (by omega) (fun e => hesp e.symm)).trans ((hb.block sp hsp).trans h.c)
  have hesp' : ev'.ownBlock ≠ some sp := own_not ho c3 (by decide)
  have far : ∀ k, k ≠ sp → (w3.setCell ⟨sp, 1, none⟩ ev').heap[k]? = w3.heap[k]? := fun k hk => heap_setCell_other w3 _ _ _ (by simpa using hk)
  have hsz : (w3.setCell ⟨sp, 1, none⟩ ev').heap.size = w3.heap.size := by simp
  have hcond : ∀ b, b < w2.heap.size → ev.ownBlock ≠ some b → ev'.ownBlock ≠ some b := fun b hb2 hne he => by
    rcases hk with hk | ⟨k, hk, hk2⟩
    · exact hne (hk ▸ he)
    · rw [hk] at he; cases he; omega
  refine ⟨?_, by simp [h.len], heap_setCell_same w3 sp 1 _ _ _ c3, fun i a x h1 h2 => ?_⟩
  · rw [List.length_append]; exact own_cong ho (fun k hk => far k (fun e => hesp' (e ▸ hk)))
  · rcases row_snoc h1 with h1 | ⟨rfl, rfl⟩
    · have hil := (List.getElem?_eq_some_iff.1 h1).1
      rw [List.getElem?_append_left (by rw [h.len]; exact hil)] at h2
      have h3 := h.el i a x h1 h2
      refine h3.cong (fun b hb' => ⟨hb'.1, by omega, hcond b (by omega) hb'.2.2.1, hb'.2.2.2⟩) (fun b hb' => ?_)
      exact (far b hb'.2.2.2).trans ((hg.block b (by omega) (fun e => hb'.2.2.1 e.symm)).trans (hb.block b (by omega)))
    · rw [← h.len, List.getElem?_append_right (Nat.le_refl _), Nat.sub_self] at h2
      cases h2
      have hne : ∀ b, w.heap.size ≤ b → ev.ownBlock ≠ some b := fun b hb' he => by have := (own_lt h.row he).2; omega
      refine hco.cong (fun b hb' => ⟨by omega, by omega, hcond b hb'.2 (hne b hb'.1), by omega⟩) (fun b hb' => ?_)
      exact (far b (by omega)).trans (hg.block b hb'.2 (fun e => hne b hb'.1 e.symm))
/-- segments that are being made -/
structure OO (B : Nat) (w : World) (ov : Value) (xs : List Value) (l : List Seg) : Prop where
  row : w.ownsRow B 37 2 ov l.length (segCells l xs)
  len : xs.length = l.length
  el : ∀ (i : Nat) (s : Seg) (x : Value), l[i]? = some s → xs[i]? = some x → ElemsAt (fun b => B ≤ b ∧ b < w.heap.size ∧ ov.ownBlock ≠ some b) w x s.elems
theorem OO.start (B : Nat) (w : World) : OO B w (.slice none 0 0) [] [] := ⟨World.ownsRow_nil _ _ _ _, rfl, fun i s x h => by simp at h⟩
theorem OO.step {B H sp : Nat} {st : ByteArray} {t : Str} {w wr w4 : World} {ov ov' ev : Value} {xs ys : List Value} {l : List Seg} {es : List (List Str)} (h : OO B w ov xs l) (hst : (⟨t.toArray⟩ : ByteArray) = st) (hH : w.heap.size = H) (hB : B ≤ H) (hb : Below H w wr) (he : OE H sp st wr ev ys es)
    (hg : wr.grownBy w4 ov.ownBlock) (ho : w4.ownsRow B 37 2 ov' (l.length + 1) (segCells l xs ++ [.string st, ev])) (hk : ov'.ownBlock = ov.ownBlock ∨ ∃ k, ov'.ownBlock = some k ∧ wr.heap.size ≤ k) :
    OO B w4 ov' (xs ++ [ev]) (l ++ [⟨t, es⟩]) := by
  have hz := hb.size
  have hz4 := hg.size
  have hcond : ∀ b, b < wr.heap.size → ov.ownBlock ≠ some b → ov'.ownBlock ≠ some b := fun b hb2 hne he => by
    rcases hk with hk | ⟨k, hk, hk2⟩
    · exact hne (hk ▸ he)
    · rw [hk] at he; cases he; omega
  have hov : ∀ k, ov.ownBlock = some k → k < H := fun k hk => by rw [← hH]; exact (own_lt h.row hk).2
  refine ⟨?_, by simp [h.len], fun i s x h1 h2 => ?_⟩
  · rw [List.length_append, segCells_app l [⟨t, es⟩] xs [ev] h.len]
    have : segCells [⟨t, es⟩] [ev] = [.string st, ev] := by rw [← hst]; rfl
    rw [this]; exact ho
  · rcases row_snoc h1 with h1 | ⟨rfl, rfl⟩
    · have hil := (List.getElem?_eq_some_iff.1 h1).1
      rw [List.getElem?_append_left (by rw [h.len]; exact hil)] at h2
      refine (h.el i s x h1 h2).cong (fun b hb' => ⟨hb'.1, by omega, hcond b (by omega) hb'.2.2⟩) (fun b hb' => ?_)
      exact (hg.block b (by omega) (fun e => hb'.2.2 e.symm)).trans (hb.block b (by omega))
    · rw [← h.len, List.getElem?_append_right (Nat.le_refl _), Nat.sub_self] at h2
      cases h2
      have hne : ∀ b, H ≤ b → ov.ownBlock ≠ some b := fun b hb' he => by have := hov b he; omega
      have hr : wr.ownsRow H 38 1 ev ys.length ys := by rw [he.len]; exact he.row
      have h5 : RowAt (fun b => H ≤ b ∧ b < wr.heap.size) wr ev ys := own_rest hr (fun k hk => own_lt he.row hk)
      refine ⟨ys, h5.cong (fun b hb' => ⟨by omega, by omega, hcond b hb'.2 (hne b hb'.1)⟩) (fun b hb' => hg.block b hb'.2 (fun e => hne b hb'.1 e.symm)), he.len, fun i e x h6 h7 => ?_⟩
      exact (he.el i e x h6 h7).cong (fun b hb' => ⟨by omega, by omega, hcond b hb'.2.1 (hne b hb'.1)⟩) (fun b hb' => hg.block b hb'.2.1 (fun e => hne b hb'.1 e.symm))
theorem OO.rest {B : Nat} {w : World} {ov : Value} {xs : List Value} {l : List Seg} (h : OO B w ov xs l) : SegsAt (fun b => B ≤ b ∧ b < w.heap.size) w ov l :=
  segs_rest h.row h.len (fun _ hk => own_lt h.row hk) (fun i s x h1 h2 => (h.el i s x h1 h2).cong (fun _ hb => ⟨hb.1, hb.2.1⟩) (fun _ _ => rfl))
end Go.Proofs.Ytpfkmklhfafkiaa
