/-
  Trod2: a slice of slices of bytes that came in. No condition beyond those stated.
-/
import Derived.Test.YtgfdbjeliojhkaaJour9
import Derived.Test.YtgfdbjeliojhkaaDisk8
namespace Go.Proofs.Ytgfdbjeliojhkaa
open Go.RowKit Go.ChangeShapes Go.WideShapes Go.Deep
theorem cells_at1 {w : World} {base i : Nat} {a : Addr} {cs : List Value} (h : w.cells? base (a.add (i * 1)) 1 = some cs) : (i = 0 → some (⟨a.block, a.off, none⟩ : Addr) = some a) ∧ ∀ v, cs[0]? = some v → w.cell? ⟨a.block, a.off + i, none⟩ = some v := by
  obtain ⟨_, hl, hc⟩ := World.cells?_some h
  refine ⟨fun h0 => ?_, fun v hv => ?_⟩
  · subst h0
    have h1 := hc 0 (by omega)
    rw [List.getElem?_eq_getElem (by omega)] at h1
    simp only [Nat.zero_mul, Addr.add, if_true] at h1
    rw [addr_of_cell h1]
  · have h1 := (hc 0 (by omega)).trans hv
    rw [Deep.add_add] at h1
    have := cell_add h1
    simpa using this
theorem bytess_of_trod {H : Type} {enc : TypeId × Value → H} {w : World} {base : Nat} {spare : Nat → Bool} {held : Bool} {fuel : Nat} {v : Value} {x : DataW H × List MemPlace} (h : DataW.trod enc Try.prog w base spare held fuel 29 [v] = some x) : ∃ l, BytessAt w v l := by
  rcases open_slice Try.underlying29 h with ⟨hcs, _⟩ | ⟨a, len, cap, m, q, D, Pl, hcs, _, hl, hm, hmm, _, hel⟩
  · simp at hcs; subst hcs
    exact ⟨[], none, 0, rfl, Nat.le_refl _, Nat.zero_le _, fun h => absurd rfl h⟩
  · simp at hcs; subst hcs
    have hlm : len ≤ m := by rw [hmm]; split <;> omega
    have hcells : Try.prog.cellsOf 31 = 1 := by kernel_rfl
    rw [hcells] at hel
    have e1 : Try.prog.cellsOf 5 = 1 := by kernel_rfl
    have key : ∀ i, i < len → ∃ r : List UInt8, ∃ u, w.cell? ⟨a.block, a.off + i, none⟩ = some u ∧ BytesAt w u r.length (lsec r) := fun i hi => by
      obtain ⟨cs, hcs, htr⟩ := hel i (by omega)
      obtain ⟨_, hl1, _⟩ := World.cells?_some hcs
      obtain ⟨u, rfl⟩ : ∃ u, cs = [u] := by
        rcases cs with _ | ⟨u, _ | ⟨u2, r⟩⟩ <;> simp at hl1
        exact ⟨u, rfl⟩
      obtain ⟨bl, bf, hbb⟩ := bytes_of_trod Try.underlying31 Try.underlying5 e1 htr
      exact ⟨secL bl bf, u, (cells_at1 hcs).2 u rfl, by rw [secL_len]; exact hbb.congr (fun j hj => (lsec_secL bf hj).symm)⟩
    obtain ⟨R, hR⟩ := choose_lt key
    refine ⟨(List.range len).map R, some a, cap, by simp, by simpa using hl, hm, fun h0 => ⟨a.block, a.off, ?_, fun i r hi => ?_⟩⟩
    · have hp : 0 < len := by
        rcases Nat.eq_zero_or_pos len with e | e
        · subst e; exact absurd rfl h0
        · exact e
      obtain ⟨cs, hcs, _⟩ := hel 0 (by omega)
      exact ((cells_at1 (i := 0) hcs).1 rfl).symm
    · have hlt : i < len := by have := (List.getElem?_eq_some_iff.1 hi).1; simpa using this
      have e : r = R i := by
        rw [List.getElem?_map, List.getElem?_range hlt] at hi
        exact (Option.some.inj hi).symm
      rw [e]; exact hR i hlt
end Go.Proofs.Ytgfdbjeliojhkaa
