/-
  Jour12B: what Add's four steps need of memory, kept by a step. No condition beyond those stated.
-/
import Derived.Test.YtgfdbjeliojhkaaJour12
namespace Go.Proofs.Ytgfdbjeliojhkaa
open Go.RowKit
theorem OwnB.slice {w : World} {B : Nat} {v : Value} {l : List UInt8} (h : OwnB w B v l) (hl : l ≠ []) : ∃ g cap, v = .slice (some ⟨g, 0, none⟩) l.length cap ∧ B ≤ g ∧ g < w.heap.size ∧ l.length ≤ cap ∧ cap ≤ maxLen ∧ w.rangeAt g 0 (rowL l.length (lsec l)) ∧ ∃ C, w.heap[g]? = some (.cells C 5 (0, 0)) := by
  have hb := h.bytes.1
  obtain ⟨_, ⟨rfl, h0⟩ | ⟨g, cap, cur, rfl, hg, hh, hc, hm, hs, hx⟩⟩ := h
  · exact absurd (List.length_eq_zero_iff.1 h0) hl
  · obtain ⟨ao, cap', e, h1, h2, h3, h4⟩ := hb
    have hp : 0 < l.length := List.length_pos_iff.2 hl
    obtain ⟨b, off, rfl, hr⟩ := h4 hp
    cases e
    exact ⟨g, cap, rfl, hg, (Array.getElem?_eq_some_iff.1 hh).1, hc, hm, hr, cur, hh⟩
theorem JAt.cells {w : World} {jb db N : Nat} {d : List UInt8} {dd : Bool} (h : JAt w jb db N d dd) : w.cell? ⟨jb, 0, none⟩ = some (.pointer (some ⟨db, 0, none⟩)) ∧ w.cell? ⟨jb, 1, none⟩ = some (.int .u64 (N : Int)) ∧ w.cell? ⟨jb, 3, none⟩ = some (.bool dd) ∧ ∀ j, w.frozen? ⟨jb, j, none⟩ = false := by
  obtain ⟨ao, cap, h1, _⟩ := h.ex
  exact ⟨by rw [cell_of_row w jb 0 _ _ _ h1]; rfl, by rw [cell_of_row w jb 1 _ _ _ h1]; rfl, by rw [cell_of_row w jb 3 _ _ _ h1]; rfl, fun j => frozen_of_row w jb j _ _ h1⟩
def Keep (w w' : World) : Prop := ∀ (k : Nat) (C : Array Value) (t : TypeId), w.heap[k]? = some (.cells C t (0, 0)) → t ≠ 66 → t ≠ 69 → w'.heap[k]? = w.heap[k]?
theorem Keep.fr {w w' : World} {db lb mb : Nat} {D : DK} (h : DiskAt w db lb mb D) (hf : Fr [db, lb, mb] w w') : Keep w w' := by
  intro k C t hk h1 h2
  obtain ⟨n1, n2, n3⟩ := Add1At.ne h hk h1 h2
  exact hf.block k (Array.getElem?_eq_some_iff.1 hk).1 (by simp [n1, n2, n3])
theorem JAt.keep {w w' : World} {jb db N : Nat} {d : List UInt8} {dd : Bool} (h : JAt w jb db N d dd) (hk : Keep w w') : JAt w' jb db N d dd := by
  refine h.cong ?_ (fun k C t h1 _ h2 h3 => hk k C t h1 h2 h3)
  obtain ⟨ao, cap, h1, _⟩ := h.ex
  exact hk jb _ _ h1 (by decide) (by decide)
structure AddF (w : World) (x2 x6 x7 x8 xs g5 jb first m : Nat) (nd : List UInt8) (g : Sec) (F : Array Value) : Prop where
  b2 : w.heap[x2]? = some (.cells #[.pointer (some ⟨jb, 0, none⟩)] 47 (0, 0))
  b6 : w.heap[x6]? = some (.cells #[.int .i64 (first : Int)] 3 (0, 0))
  b7 : ∃ b cap, w.heap[x7]? = some (.cells #[.slice (some ⟨b, 0, none⟩) (64 * (first + m)) cap] 31 (0, 0)) ∧ 64 * (first + m) ≤ cap ∧ cap ≤ maxLen ∧ w.rangeAt b 0 (rowL (64 * (first + m)) (lsec nd)) ∧ ∃ C, w.heap[b]? = some (.cells C 5 (0, 0))
  b8 : w.heap[x8]? = some (.cells (rowA 64 g) 88 (0, 0))
  bs : w.heap[xs]? = some (.cells F 40 (0, 0))
  r5 : w.rangeAt g5 0 (rowL nd.length (lsec nd))
  b5 : ∃ C, w.heap[g5]? = some (.cells C 5 (0, 0))
namespace AddF
variable {w w' : World} {x2 x6 x7 x8 xs g5 jb first m : Nat} {nd : List UInt8} {g : Sec} {F : Array Value}
theorem keep (h : AddF w x2 x6 x7 x8 xs g5 jb first m nd g F) (hk : Keep w w') : AddF w' x2 x6 x7 x8 xs g5 jb first m nd g F := by
  obtain ⟨b2, b6, ⟨b, cap, b7, h1, h2, h3, C, h4⟩, b8, bs, r5, C5, b5⟩ := h
  refine ⟨(hk _ _ _ b2 (by decide) (by decide)).trans b2, (hk _ _ _ b6 (by decide) (by decide)).trans b6, ⟨b, cap, (hk _ _ _ b7 (by decide) (by decide)).trans b7, h1, h2, ?_, C, ?_⟩, (hk _ _ _ b8 (by decide) (by decide)).trans b8, (hk _ _ _ bs (by decide) (by decide)).trans bs, ?_, C5, ?_⟩
  · exact rangeAt_congr h3 (hk _ _ _ h4 (by decide) (by decide))
  · exact (hk _ _ _ h4 (by decide) (by decide)).trans h4
  · exact rangeAt_congr r5 (hk _ _ _ b5 (by decide) (by decide))
  · exact (hk _ _ _ b5 (by decide) (by decide)).trans b5
theorem c2 (h : AddF w x2 x6 x7 x8 xs g5 jb first m nd g F) : w.cell? ⟨x2, 0, none⟩ = some (.pointer (some ⟨jb, 0, none⟩)) := by rw [cell_of_row w x2 0 _ _ _ h.b2]; rfl
theorem add1 {db N : Nat} {d : List UInt8} {dd : Bool} (h : AddF w x2 x6 x7 x8 xs g5 jb first m nd g F) (hj : JAt w jb db N d dd) : Add1At w x2 x6 x7 jb db first m (lsec nd) := by
  obtain ⟨b2, b6, ⟨b, cap, b7, h1, h2, h3, C, h4⟩, b8, bs, _⟩ := h
  exact ⟨by rw [cell_of_row w x2 0 _ _ _ b2]; rfl, hj.cells.1, by rw [cell_of_row w x6 0 _ _ _ b6]; rfl, b, cap, by rw [cell_of_row w x7 0 _ _ _ b7]; rfl, h1, h2, h3, C, _, h4, by decide, by decide⟩
end AddF
/-- the state ahead of a step -/
structure AddS (w : World) (x2 x6 x7 x8 xs g5 jb db lb mb N first m : Nat) (d nd : List UInt8) (g : Sec) (F : Array Value) (D : DK) : Prop where
  a : AddF w x2 x6 x7 x8 xs g5 jb first m nd g F
  j : JAt w jb db N d false
  k : DiskAt w db lb mb D
section
variable {w w' : World} {x2 x6 x7 x8 xs g5 jb db lb mb N first m : Nat} {d nd : List UInt8} {g : Sec} {F : Array Value} {D D' : DK}
theorem AddS.fr (h : AddS w x2 x6 x7 x8 xs g5 jb db lb mb N first m d nd g F D) (hf : Fr [db, lb, mb] w w') (hk : DiskAt w' db lb mb D') : AddS w' x2 x6 x7 x8 xs g5 jb db lb mb N first m d nd g F D' :=
  ⟨h.a.keep (Keep.fr h.k hf), h.j.keep (Keep.fr h.k hf), hk⟩
theorem AddS.cell (h : AddS w x2 x6 x7 x8 xs g5 jb db lb mb N first m d nd g F D) (k : Nat) {v : Value} (hv : F[k]? = some v) : w.cell? ⟨xs, k, none⟩ = some v := by
  rw [cell_of_row w xs k _ _ _ h.a.bs]; exact hv
/-- the journal marked dead -/
theorem JAt.setDead {dd : Bool} (h : JAt w jb db N d dd) : JAt (w.setCell ⟨jb, 3, none⟩ (.bool true)) jb db N d true := by
  obtain ⟨ao, cap, h1, h2, h3⟩ := h.ex
  have hne : ∀ k, (Value.slice ao d.length cap).ownBlock = some k → k ≠ jb := by
    intro k hk e
    obtain ⟨C, t, h4, h5, _, _⟩ := h3 k hk
    rw [e, h1] at h4
    have h6 := Option.some.inj h4
    injection h6 with _ h7
    exact h5 h7.symm
  refine ⟨ao, cap, by rw [heap_setCell_same w jb 3 _ _ _ h1]; rfl, h2.cong (fun k _ hok => heap_setCell_other w _ _ _ (hne k hok)), fun k hk => ?_⟩
  obtain ⟨C, t, h4, h5⟩ := h3 k hk
  exact ⟨C, t, by rw [heap_setCell_other w _ _ _ (hne k hk)]; exact h4, h5⟩
theorem DiskAt.setJ (h : DiskAt w db lb mb D) (hne : jb ≠ db ∧ jb ≠ lb ∧ jb ≠ mb) (k : Nat) (v : Value) : DiskAt (w.setCell ⟨jb, k, none⟩ v) db lb mb D :=
  h.cong (heap_setCell_other w _ _ _ hne.1.symm) (heap_setCell_other w _ _ _ hne.2.1.symm) (heap_setCell_other w _ _ _ hne.2.2.symm)
theorem jat_cell2 {dd : Bool} (h : JAt w jb db N d dd) (v u : Value) : ((w.setCell ⟨jb, 1, none⟩ v).setCell ⟨jb, 2, none⟩ u).cell? ⟨jb, 2, none⟩ = some u := by
  obtain ⟨ao, cap0, hj, _⟩ := h.ex
  have h1 := heap_setCell_same (w.setCell ⟨jb, 1, none⟩ v) jb 2 _ _ u (heap_setCell_same w jb 1 _ _ v hj)
  rw [cell_of_row _ jb 2 _ _ _ h1]; rfl
theorem JAt.setNew {dd : Bool} {cap : Nat} (h : JAt w jb db N d dd) (hr : w.rangeAt g5 0 (rowL nd.length (lsec nd))) {C : Array Value} (hb : w.heap[g5]? = some (.cells C 5 (0, 0))) (h1 : nd.length ≤ cap) (h2 : cap ≤ maxLen) :
    JAt ((w.setCell ⟨jb, 1, none⟩ (.int .u64 ((N + 1 : Nat) : Int))).setCell ⟨jb, 2, none⟩ (.slice (some ⟨g5, 0, none⟩) nd.length cap)) jb db (N + 1) nd dd := by
  obtain ⟨ao, cap0, hj, _⟩ := h.ex
  have hne : g5 ≠ jb := by
    intro e
    rw [e, hj] at hb
    have h6 := Option.some.inj hb
    injection h6 with _ h7
    exact absurd h7 (by decide)
  have e1 : ((w.setCell ⟨jb, 1, none⟩ (.int .u64 ((N + 1 : Nat) : Int))).setCell ⟨jb, 2, none⟩ (.slice (some ⟨g5, 0, none⟩) nd.length cap)).heap[g5]? = w.heap[g5]? :=
    (heap_setCell_other _ _ _ _ hne).trans (heap_setCell_other w _ _ _ hne)
  refine ⟨some ⟨g5, 0, none⟩, cap, ?_, ⟨_, cap, rfl, h1, h2, (fun e => by cases e), fun _ => ⟨g5, 0, rfl, rangeAt_congr hr e1⟩⟩, fun k hk => ?_⟩
  · rw [heap_setCell_same _ jb 2 _ _ _ (heap_setCell_same w jb 1 _ _ _ hj)]; rfl
  · cases hk
    exact ⟨C, _, e1.trans hb, by decide, by decide, by decide, rfl⟩
end
end Go.Proofs.Ytgfdbjeliojhkaa
