/-
  EdiA1: slices of components, elements, segments that came in. No condition beyond those stated.
-/
import Derived.Test.YtpfkmklhfafkiaaEdiM
import Derived.Deep.Slices
import Derived.SliceStrings
import Derived.OpenShut
import Derived.ChangeSame
namespace Go.Proofs.Ytpfkmklhfafkiaa
open Go.RowKit Go.ChangeShapes Go.WideShapes Go.Deep
theorem spot_cell' {w : World} {a : Addr} {v : Value} (h : w.cell? a = some v) : a = ⟨a.block, a.off, none⟩ := by
  have : a.spot = none := by
    unfold World.cell? at h
    split at h
    · cases hs : a.spot with
      | none => rfl
      | some s => simp [hs] at h
    · simp at h
  cases a; simp_all
theorem cell_add' {w : World} {a : Addr} {n : Nat} {v : Value} (h : w.cell? (a.add n) = some v) : w.cell? ⟨a.block, a.off + n, none⟩ = some v := by
  unfold Addr.add at h
  split at h
  · rename_i h0
    subst h0
    rw [spot_cell' h] at h; exact h
  · exact h
theorem cells_atk {w : World} {base i k : Nat} {a : Addr} {cs : List Value} (hk : 0 < k) (h : w.cells? base (a.add (i * k)) k = some cs) : (i = 0 → some (⟨a.block, a.off, none⟩ : Addr) = some a) ∧ ∀ j v, cs[j]? = some v → w.cell? ⟨a.block, a.off + i * k + j, none⟩ = some v := by
  obtain ⟨_, hl, hc⟩ := World.cells?_some h
  refine ⟨fun h0 => ?_, fun j v hv => ?_⟩
  · subst h0
    have h1 := hc 0 hk
    rw [List.getElem?_eq_getElem (by omega)] at h1
    simp only [Nat.zero_mul, Addr.add, if_true] at h1
    rw [← spot_cell' h1]
  · have hj : j < k := by have := (List.getElem?_eq_some_iff.1 hv).1; omega
    have h1 := (hc j hj).trans hv
    rw [Deep.add_add] at h1
    have := cell_add' h1
    rw [← Nat.add_assoc] at this; exact this
abbrev Low (w : World) (k : Nat) : Prop := k < w.heap.size
section
variable {H : Type} {enc : TypeId × Value → H} {w : World} {base : Nat} {spare : Nat → Bool} {held : Bool}
theorem comps_of_trod {fuel : Nat} {v : Value} {x : DataW H × List MemPlace} (h : DataW.trod enc Try.prog w base spare held fuel 38 [v] = some x) : ∃ e, CompsAt (Low w) w v e := by
  rcases open_strings Try.underlying38 Try.underlying9 (by kernel_rfl) h with ⟨hcs, _⟩ | ⟨a, len, cap, ss, hcs, _, hl, hm, hss, _, hc, _⟩
  · simp at hcs; subst hcs; exact ⟨[], RowAt.nil _ _⟩
  · simp at hcs; subst hcs
    have hls : len ≤ ss.length := by rw [hss]; split <;> omega
    refine ⟨(ss.take len).map (·.data.toList), ?_⟩
    have e : ((ss.take len).map (·.data.toList)).map sv = (ss.take len).map Value.string := by rw [List.map_map]; rfl
    unfold CompsAt; rw [e]
    have hn : ((ss.take len).map Value.string).length = len := by rw [List.length_map, List.length_take]; omega
    have key : ∀ (i : Nat) (y : Value), ((ss.take len).map Value.string)[i]? = some y → w.cell? (a.add i) = some y := fun i y hy => by
      have hi : i < len := by have := (List.getElem?_eq_some_iff.1 hy).1; omega
      rw [List.getElem?_map, List.getElem?_take_of_lt hi, List.getElem?_eq_getElem (show i < ss.length by omega)] at hy
      cases hy
      rw [hc i (by omega), List.getD_eq_getElem?_getD, List.getElem?_eq_getElem (show i < ss.length by omega)]; rfl
    refine ⟨some a, cap, by rw [hn], by omega, hm, (fun h => by cases h), fun hne => ?_⟩
    have h0 : 0 < len := by
      rcases Nat.eq_zero_or_pos len with e0 | e0
      · exact absurd (List.length_eq_zero_iff.1 (by rw [hn]; exact e0)) hne
      · exact e0
    obtain ⟨y0, hy0⟩ : ∃ y, ((ss.take len).map Value.string)[0]? = some y := ⟨_, List.getElem?_eq_getElem (by omega)⟩
    have ha : a = ⟨a.block, a.off, none⟩ := by
      have := key 0 y0 hy0
      simp only [Addr.add, if_true] at this
      exact spot_cell' this
    exact ⟨a.block, a.off, congrArg some ha, cell_lt' (cell_add' (key 0 y0 hy0)), fun i y hy => cell_add' (key i y hy)⟩
theorem elems_of_trod {fuel : Nat} {v : Value} {x : DataW H × List MemPlace} (h : DataW.trod enc Try.prog w base spare held fuel 35 [v] = some x) : ∃ es, ElemsAt (Low w) w v es := by
  rcases open_slice1 Try.underlying35 (show Try.prog.cellsOf 38 = 1 by kernel_rfl) h with ⟨hcs, _⟩ | ⟨a, len, cap, m, q, V, D, Pl, hcs, _, hl, hm, hmm, _, hel⟩
  · simp at hcs; subst hcs; exact ⟨[], ElemsAt.nil _ _⟩
  · simp at hcs; subst hcs
    have hlm : len ≤ m := by rw [hmm]; split <;> omega
    obtain ⟨R, hR⟩ := choose_lt (p := fun i e => CompsAt (Low w) w (V i) e) (n := len) (fun i hi => comps_of_trod (hel i (by omega)).2)
    refine ⟨(List.range len).map R, (List.range len).map V, ⟨some a, cap, by simp, by simpa using hl, hm, (fun h => by cases h), fun hne => ?_⟩, by simp, fun i e y he hy => ?_⟩
    · have h0 : 0 < len := by
        rcases Nat.eq_zero_or_pos len with e0 | e0
        · subst e0; exact absurd rfl hne
        · exact e0
      have c0 := (hel 0 (by omega)).1
      have ha : a = ⟨a.block, a.off, none⟩ := by
        simp only [Addr.add, if_true] at c0
        exact spot_cell' c0
      refine ⟨a.block, a.off, congrArg some ha, cell_lt' (cell_add' c0), fun i y hy => ?_⟩
      have hi : i < len := by have := (List.getElem?_eq_some_iff.1 hy).1; simpa using this
      rw [List.getElem?_map, List.getElem?_range hi] at hy
      cases hy
      exact cell_add' (hel i (by omega)).1
    · have hi : i < len := by have := (List.getElem?_eq_some_iff.1 hy).1; simpa using this
      rw [List.getElem?_map, List.getElem?_range hi] at hy he
      cases hy; cases he
      exact hR i hi
instance : Inhabited Seg := ⟨⟨[], []⟩⟩
theorem segs_of_trod {fuel : Nat} {v : Value} {x : DataW H × List MemPlace} (h : DataW.trod enc Try.prog w base spare held fuel 22 [v] = some x) : ∃ l, SegsAt (Low w) w v l := by
  rcases open_slice Try.underlying22 h with ⟨hcs, _⟩ | ⟨a, len, cap, m, q, D, Pl, hcs, _, hl, hm, hmm, _, hel⟩
  · simp at hcs; subst hcs; exact ⟨[], SegsAt.nil _ _⟩
  · simp at hcs; subst hcs
    have hlm : len ≤ m := by rw [hmm]; split <;> omega
    have hcells : Try.prog.cellsOf 37 = 2 := by kernel_rfl
    rw [hcells] at hel
    have key : ∀ i, i < len → ∃ r : Seg × Value, w.cell? ⟨a.block, a.off + i * 2, none⟩ = some (sv r.1.tag) ∧ w.cell? ⟨a.block, a.off + i * 2 + 1, none⟩ = some r.2 ∧ ElemsAt (Low w) w r.2 r.1.elems := fun i hi => by
      obtain ⟨cs, hcs, htr⟩ := hel i (by omega)
      obtain ⟨_, hce⟩ := cells_atk (k := 2) (by omega) hcs
      obtain ⟨y0, y1, n, _, hl2, f0, f1⟩ := trod_struct2 Try.underlying37 htr
      rw [hcells] at hl2
      obtain ⟨c0, c1, rfl⟩ : ∃ c0 c1, cs = [c0, c1] := by
        rcases cs with _ | ⟨c0, _ | ⟨c1, _ | ⟨_, _⟩⟩⟩ <;> simp at hl2
        exact ⟨c0, c1, rfl⟩
      have e0 : Try.prog.cellsOf 9 = 1 := by kernel_rfl
      have e1 : Try.prog.cellsOf 35 = 1 := by kernel_rfl
      change DataW.trod enc Try.prog w base spare held n 9 (List.take (Try.prog.cellsOf 9) (List.drop 0 [c0, c1])) = _ at f0
      rw [e0] at f0
      change DataW.trod enc Try.prog w base spare held n 35 (List.take (Try.prog.cellsOf 35) (List.drop 1 [c0, c1])) = _ at f1
      rw [e1] at f1
      obtain ⟨s, hs, _, _⟩ := DataW.trod_string Try.underlying9 f0
      obtain ⟨es, hes⟩ := elems_of_trod (v := c1) f1
      have hs' : c0 = .string s := (List.cons.inj hs).1
      exact ⟨(⟨s.data.toList, es⟩, c1), (hce 0 c0 rfl).trans (congrArg some hs'), hce 1 c1 rfl, hes⟩
    obtain ⟨R, hR⟩ := choose_lt key
    refine ⟨(List.range len).map fun i => (R i).1, some a, cap, (List.range len).map fun i => (R i).2, by simp, by simpa using hl, hm, (fun h => by cases h), by simp, fun i s y hs hy => ?_, fun hne => ?_⟩
    · have hi : i < len := by have := (List.getElem?_eq_some_iff.1 hy).1; simpa using this
      rw [List.getElem?_map, List.getElem?_range hi] at hy hs
      cases hy; cases hs
      exact (hR i hi).2.2
    · have h0 : 0 < len := by
        rcases Nat.eq_zero_or_pos len with e0 | e0
        · subst e0; exact absurd rfl hne
        · exact e0
      obtain ⟨cs, hcs, _⟩ := hel 0 (by omega)
      refine ⟨a.block, a.off, ((cells_atk (k := 2) (i := 0) (by omega) hcs).1 rfl).symm, cell_lt' (hR 0 h0).1, fun i s y hs hy => ?_⟩
      have hi : i < len := by have := (List.getElem?_eq_some_iff.1 hy).1; simpa using this
      rw [List.getElem?_map, List.getElem?_range hi] at hy hs
      cases hy; cases hs
      exact ⟨(hR i hi).1, (hR i hi).2.1⟩
end
end Go.Proofs.Ytpfkmklhfafkiaa
