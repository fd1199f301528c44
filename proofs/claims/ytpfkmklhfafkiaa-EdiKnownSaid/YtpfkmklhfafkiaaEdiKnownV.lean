/-
  EdiKnownV: the walk of EdiKnown. No condition.
-/
import Derived.Test.YtpfkmklhfafkiaaEdiKnownP
import Derived.Test.YtpfkmklhfafkiaaEdiOwnV
import Derived.Test.YtpfkmklhfafkiaaEdiA8
namespace Go.Proofs.Ytpfkmklhfafkiaa
open Go.RowKit
/-- a table of texts, errors, places, in memory -/
structure TRow where
  t : ByteArray
  e : Int
  p : Nat
def cellsT : List TRow → List Value
  | [] => []
  | r :: l => .string r.t :: .int .i64 r.e :: .int .i64 (r.p : Int) :: cellsT l
theorem cellsT_get : ∀ (l : List TRow) (i : Nat) (r : TRow), l[i]? = some r → (cellsT l)[i * 3]? = some (.string r.t) ∧ (cellsT l)[i * 3 + 1]? = some (.int .i64 r.e) ∧ (cellsT l)[i * 3 + 2]? = some (.int .i64 (r.p : Int))
  | [], i, r, h => by simp at h
  | a :: l, 0, r, h => by simp at h; subst h; exact ⟨rfl, rfl, rfl⟩
  | a :: l, i + 1, r, h => by
    have h' := cellsT_get l i r (by simpa using h)
    rw [show (i + 1) * 3 = i * 3 + 1 + 1 + 1 by omega]
    exact h'
/-- what Parse says of a row -/
def FitT (r : TRow) : Prop := (r.t.size ≤ 65536 ∧ (parseE r.t.data.toList).2 = (r.p, r.e) ∧ (r.e ≠ 0 → (parseE r.t.data.toList).1 = [])) ∨ (65536 < r.t.size ∧ r.p = 0 ∧ r.e = 2)
def ParsedT (r : TRow) (w : World) (e : Ending) (w' : World) : Prop := ∃ a n c, e = .returned (.tuple #[.slice a n c, .int .i64 (r.p : Int), .int .i64 r.e]) ∧ (r.e ≠ 0 → n = 0) ∧ n ≤ 4611686018427387904 ∧ Below w.heap.size w w'
theorem parse_row {r : TRow} (h : FitT r) (w : World) : Calls Try.prog 16 #[.string r.t] w (ParsedT r w) := by
  rcases h with ⟨h1, h2, h3⟩ | ⟨h1, h2, h3⟩
  · refine (parse_any r.t h1 w).mono fun e w' ⟨v, he, hs, hb⟩ => ?_
    obtain ⟨a, c, rfl, hc1, hc2⟩ := hs.form
    rw [h2] at he
    have h64 : (parseE r.t.data.toList).1.length ≤ 64 := (parse_lim (l := (parseE r.t.data.toList).1) (at_ := (parseE r.t.data.toList).2.1) (k := (parseE r.t.data.toList).2.2) rfl (by rw [data_len]; exact h1)).1
    exact ⟨a, _, c, he, fun hne => by rw [h3 hne]; rfl, by omega, hb⟩
  · refine (parse_big r.t h1 w).mono fun e w' ⟨he, hw⟩ => ?_
    subst hw
    exact ⟨none, 0, 0, by rw [he, h2, h3]; rfl, fun _ => rfl, by omega, Below.refl _ _⟩
theorem segsLit {S : Nat → Prop} {w : World} {b i n cap : Nat} {l m : List Seg} {xs ys : List Value} (hb : w.heap[b]? = some (.cells (segCells l xs).toArray 37 (0, 0))) (hS : S b) (hm : m = (l.drop i).take n) (hy : ys = (xs.drop i).take n) (hn : m.length = n) (hyl : ys.length = n) (hc : n ≤ cap) (hcm : cap ≤ 1048576)
    (he : ∀ (i : Nat) (s : Seg) (x : Value), l[i]? = some s → xs[i]? = some x → ElemsAt S w x s.elems) : SegsAt S w (.slice (some ⟨b, i * 2, none⟩) n cap) m := by
  have g1 : ∀ j s, m[j]? = some s → l[i + j]? = some s := fun j s h => by
    rw [hm, List.getElem?_take] at h
    split at h
    · rwa [List.getElem?_drop] at h
    · cases h
  have g2 : ∀ j x, ys[j]? = some x → xs[i + j]? = some x := fun j s h => by
    rw [hy, List.getElem?_take] at h
    split at h
    · rwa [List.getElem?_drop] at h
    · cases h
  refine ⟨_, cap, ys, by rw [hn], by omega, by unfold maxLen; omega, (fun e => by cases e), by omega, fun j s x h1 h2 => he _ s x (g1 j s h1) (g2 j x h2), fun _ => ⟨b, i * 2, rfl, hS, fun j s x h1 h2 => ?_⟩⟩
  obtain ⟨k1, k2⟩ := segCells_get l xs _ s x (g1 j s h1) (g2 j x h2)
  refine ⟨?_, ?_⟩
  · rw [cell_of_row w b _ _ _ _ hb, List.getElem?_toArray, show i * 2 + j * 2 = (i + j) * 2 by omega]; exact k1
  · rw [cell_of_row w b _ _ _ _ hb, List.getElem?_toArray, show i * 2 + j * 2 + 1 = (i + j) * 2 + 1 by omega]; exact k2
/-- a segment of one element, as a literal -/
theorem lit_el {S : Nat → Prop} {w : World} {b0 b1 : Nat} {e : List Str} {cs : List Value} (h0 : w.heap[b0]? = some (.cells cs.toArray 9 (0, 0))) (hcs : cs = e.map sv) (h1 : w.heap[b1]? = some (.cells #[.slice (some ⟨b0, 0, none⟩) e.length e.length] 38 (0, 0))) (hS0 : S b0) (hS1 : S b1) (hl : e.length ≤ 1048576) : ElemsAt S w (.slice (some ⟨b1, 0, none⟩) 1 1) [e] := by
  subst hcs
  refine ⟨[.slice (some ⟨b0, 0, none⟩) e.length e.length], RowAt.lit (xs := [.slice (some ⟨b0, 0, none⟩) e.length e.length]) h1 hS1 (by simp), rfl, fun i e' x h2 h3 => ?_⟩
  match i, h2, h3 with
  | 0, h2, h3 =>
    simp at h2 h3; subst h2; subst h3
    have := RowAt.lit (S := S) h0 hS0 (by simpa using hl)
    rw [List.length_map] at this
    exact this
  | i + 1, h2, _ => simp at h2
theorem lit_segs {w : World} {t : Str} {e : List Str} {cs : List Value} (more : List Str) (hcs : cs = e.map sv) (hl : e.length ≤ 1048576) (hm : more.length ≤ 1000) (w' : World)
    (hw : ((w.alloc (.cells cs.toArray 9)).alloc (.cells #[.slice (some ⟨w.heap.size, 0, none⟩) e.length e.length] 38)).alloc (.cells (segCells (⟨t, [e]⟩ :: more.map fun m => ⟨m, []⟩) (.slice (some ⟨w.heap.size + 1, 0, none⟩) 1 1 :: more.map fun _ => .slice none 0 0)).toArray 37) = w') : SegsAt (Low w') w' (.slice (some ⟨w.heap.size + 2, 0, none⟩) (more.length + 1) (more.length + 1)) (⟨t, [e]⟩ :: more.map fun m => ⟨m, []⟩) ∧ Below w.heap.size w w' := by
  have hz : w'.heap.size = w.heap.size + 3 := by rw [← hw]; simp
  have h0 : w'.heap[w.heap.size]? = some (.cells cs.toArray 9 (0, 0)) := by
    rw [← hw, Below.heap_alloc _ _ _ (by simp; omega), Below.heap_alloc _ _ _ (by simp)]; exact heap_alloc_new w _
  have h1 : w'.heap[w.heap.size + 1]? = some (.cells #[.slice (some ⟨w.heap.size, 0, none⟩) e.length e.length] 38 (0, 0)) := by
    rw [← hw, Below.heap_alloc _ _ _ (by simp)]
    have := heap_alloc_new (w.alloc (.cells cs.toArray 9)) (.cells #[.slice (some ⟨w.heap.size, 0, none⟩) e.length e.length] 38)
    rw [World.size_alloc] at this; exact this
  have h2 : w'.heap[w.heap.size + 2]? = some (.cells (segCells (⟨t, [e]⟩ :: more.map fun m => ⟨m, []⟩) (.slice (some ⟨w.heap.size + 1, 0, none⟩) 1 1 :: more.map fun _ => .slice none 0 0)).toArray 37 (0, 0)) := by
    rw [← hw]
    have h3 : ∀ (w : World) (o : Obj) (n : Nat), w.heap.size = n → (w.alloc o).heap[n]? = (w.alloc o).heap[w.heap.size]? := fun w o n h => by rw [h]
    rw [h3 _ _ _ (by simp), heap_alloc_new]
  refine ⟨?_, ?_⟩
  · have := segsLit (S := Low w') (i := 0) (n := more.length + 1) (cap := more.length + 1) (m := ⟨t, [e]⟩ :: more.map fun m => ⟨m, []⟩) (ys := .slice (some ⟨w.heap.size + 1, 0, none⟩) 1 1 :: more.map fun _ => .slice none 0 0) h2 (by show _ < _; omega) (by rw [List.drop_zero, List.take_of_length_le (by simp)]) (by rw [List.drop_zero, List.take_of_length_le (by simp)]) (by simp) (by simp) (Nat.le_refl _) (by omega) (fun i s x hs hx => ?_)
    · exact this
    · match i, hs, hx with
      | 0, hs, hx => simp at hs hx; subst hs; subst hx; exact lit_el h0 hcs h1 (by show _ < _; omega) (by show _ < _; omega) hl
      | i + 1, hs, hx =>
        simp at hs hx
        obtain ⟨m, _, rfl⟩ := hs
        obtain ⟨_, rfl⟩ := hx
        exact ElemsAt.nil _ _
  · rw [← hw]; exact (((Below.refl _ _).alloc (Nat.le_refl _) _).alloc (by simp) _).alloc (by simp; omega) _
theorem sv_data (r : ByteArray) : sv r.data.toList = .string r := by cases r; rfl
theorem pr1 : printE [⟨[65, 66, 67], [[[10]]]⟩] = ([], 30) := by decide +kernel
theorem pr2 : printE [⟨[65, 66, 67], [[repS 257 [97]]]⟩] = ([], 2) := by decide +kernel
theorem pr3 : printE [⟨[65, 66, 67], [[repS 257 [97], [127]]]⟩, ⟨[97, 98, 99], []⟩] = ([], 1) := by decide +kernel
theorem pr4 : printE [⟨[65, 66, 67], [[[97, 63, 98, 58, 99, 39, 100, 43, 101]]]⟩] = ([65, 66, 67, 43, 97, 63, 63, 98, 63, 58, 99, 63, 39, 100, 63, 43, 101, 39], 0) := by decide +kernel
theorem pl2 : (printT [⟨[65, 66, 67], [[repS 257 [97]]]⟩]).length ≤ 1048576 := by decide +kernel
theorem pl3 : (printT [⟨[65, 66, 67], [[repS 257 [97], [127]]]⟩, ⟨[97, 98, 99], []⟩]).length ≤ 1048576 := by decide +kernel

def rows1 : List TRow := [⟨⟨#[65, 66, 67, 43, 97, 58, 98, 43, 63, 43, 39, 32, 68, 49, 50, 39]⟩, 30, 11⟩, ⟨⟨#[65, 66, 43, 39]⟩, 30, 2⟩, ⟨⟨#[65, 66, 67]⟩, 31, 3⟩, ⟨⟨#[65, 66, 67, 43, 63, 97, 39]⟩, 30, 5⟩, ⟨⟨#[]⟩, 0, 0⟩, ⟨⟨#[10, 65, 66, 67, 39]⟩, 30, 0⟩, ⟨⟨#[65, 66, 67, 39, 10, 10, 68, 69, 70, 39, 10]⟩, 0, 0⟩, ⟨⟨#[65, 66, 67, 58, 97, 39]⟩, 30, 3⟩, ⟨⟨#[65, 66, 67, 68, 39]⟩, 30, 3⟩, ⟨⟨#[97, 98, 99, 39]⟩, 30, 0⟩, ⟨⟨#[65, 66, 67, 43, 97, 10, 39]⟩, 30, 5⟩, ⟨⟨#[65, 66, 67, 43, 127, 39]⟩, 30, 4⟩, ⟨⟨#[65, 66, 67, 43, 97]⟩, 31, 5⟩, ⟨⟨#[65, 66, 67, 43, 63]⟩, 31, 5⟩, ⟨⟨#[65, 66, 67, 43, 63, 39]⟩, 31, 6⟩, ⟨⟨#[65, 66, 67, 43, 63, 63, 39]⟩, 0, 0⟩, ⟨⟨#[65]⟩, 31, 1⟩, ⟨⟨#[65, 66, 67, 43, 63, 63, 63, 39, 39]⟩, 0, 0⟩, ⟨⟨#[65, 66, 67, 39, 65]⟩, 31, 5⟩]
theorem rows1_fit : ∀ r ∈ rows1, FitT r := by
  intro r hr
  refine .inl ?_
  have h : ∀ r ∈ rows1, r.t.size ≤ 65536 ∧ (parseE r.t.data.toList).2 = (r.p, r.e) ∧ (r.e ≠ 0 → (parseE r.t.data.toList).1 = []) := by decide +kernel
  exact h r hr
theorem lim0 : (repS 64 [65, 66, 67, 39]).length ≤ 65536 ∧ (parseE (repS 64 [65, 66, 67, 39])).2 = (0, 0) ∧ ((0 : Int) ≠ 0 → (parseE (repS 64 [65, 66, 67, 39])).1 = []) := by decide +kernel
theorem lim1 : (repS 65 [65, 66, 67, 39]).length ≤ 65536 ∧ (parseE (repS 65 [65, 66, 67, 39])).2 = (256, 2) ∧ ((2 : Int) ≠ 0 → (parseE (repS 65 [65, 66, 67, 39])).1 = []) := by decide +kernel
theorem lim2 : (repS 64 [65, 66, 67, 39] ++ [10]).length ≤ 65536 ∧ (parseE (repS 64 [65, 66, 67, 39] ++ [10])).2 = (0, 0) ∧ ((0 : Int) ≠ 0 → (parseE (repS 64 [65, 66, 67, 39] ++ [10])).1 = []) := by decide +kernel
theorem lim3 : ([65, 66, 67] ++ repS 16 [43] ++ [39]).length ≤ 65536 ∧ (parseE ([65, 66, 67] ++ repS 16 [43] ++ [39])).2 = (0, 0) ∧ ((0 : Int) ≠ 0 → (parseE ([65, 66, 67] ++ repS 16 [43] ++ [39])).1 = []) := by decide +kernel
theorem lim4 : ([65, 66, 67] ++ repS 17 [43] ++ [39]).length ≤ 65536 ∧ (parseE ([65, 66, 67] ++ repS 17 [43] ++ [39])).2 = (19, 2) ∧ ((2 : Int) ≠ 0 → (parseE ([65, 66, 67] ++ repS 17 [43] ++ [39])).1 = []) := by decide +kernel
theorem lim5 : ([65, 66, 67, 43] ++ repS 7 [58] ++ [39]).length ≤ 65536 ∧ (parseE ([65, 66, 67, 43] ++ repS 7 [58] ++ [39])).2 = (0, 0) ∧ ((0 : Int) ≠ 0 → (parseE ([65, 66, 67, 43] ++ repS 7 [58] ++ [39])).1 = []) := by decide +kernel
theorem lim6 : ([65, 66, 67, 43] ++ repS 8 [58] ++ [39]).length ≤ 65536 ∧ (parseE ([65, 66, 67, 43] ++ repS 8 [58] ++ [39])).2 = (11, 2) ∧ ((2 : Int) ≠ 0 → (parseE ([65, 66, 67, 43] ++ repS 8 [58] ++ [39])).1 = []) := by decide +kernel
theorem lim7 : ([65, 66, 67, 43] ++ repS 256 [97] ++ [39]).length ≤ 65536 ∧ (parseE ([65, 66, 67, 43] ++ repS 256 [97] ++ [39])).2 = (0, 0) ∧ ((0 : Int) ≠ 0 → (parseE ([65, 66, 67, 43] ++ repS 256 [97] ++ [39])).1 = []) := by decide +kernel
theorem lim8 : ([65, 66, 67, 43] ++ repS 257 [97] ++ [39]).length ≤ 65536 ∧ (parseE ([65, 66, 67, 43] ++ repS 257 [97] ++ [39])).2 = (260, 2) ∧ ((2 : Int) ≠ 0 → (parseE ([65, 66, 67, 43] ++ repS 257 [97] ++ [39])).1 = []) := by decide +kernel
theorem lim9 : ([65, 66, 67, 43] ++ repS 257 [63, 58] ++ [39]).length ≤ 65536 ∧ (parseE ([65, 66, 67, 43] ++ repS 257 [63, 58] ++ [39])).2 = (517, 2) ∧ ((2 : Int) ≠ 0 → (parseE ([65, 66, 67, 43] ++ repS 257 [63, 58] ++ [39])).1 = []) := by decide +kernel
theorem lim11 : (repS 65536 [65]).length ≤ 65536 ∧ (parseE (repS 65536 [65])).2 = (3, 30) ∧ ((30 : Int) ≠ 0 → (parseE (repS 65536 [65])).1 = []) := by
  have hl : (repS 65536 [65]).length = 65536 := by rw [repS_len]; rfl
  have hp : parseE (repS 65536 [65]) = ([], 3, 30) := by
    rw [parseE_ok (by omega), show (65536 : Nat) = 65532 + 1 + 1 + 1 + 1 from rfl, repS_succ, repS_succ, repS_succ, repS_succ]
    rfl
  rw [hp]
  exact ⟨by omega, rfl, fun _ => rfl⟩
theorem fit_of {r : TRow} {l : Str} {p : Nat} {e : Int} (hd : r.t.data.toList = l) (hp : r.p = p) (he : r.e = e) (h : l.length ≤ 65536 ∧ (parseE l).2 = (p, e) ∧ (e ≠ 0 → (parseE l).1 = [])) : FitT r := by
  refine .inl ⟨by rw [← data_len, hd]; exact h.1, by rw [hd, hp, he]; exact h.2.1, by rw [hd, he]; exact h.2.2⟩
def badL : List Seg := [⟨[], []⟩, ⟨[65, 66], []⟩, ⟨[97, 98, 99], []⟩, ⟨[65, 66, 67], [[]]⟩, ⟨[65, 66, 67, 68], []⟩]
theorem badL_print : ∀ s ∈ badL, printE [s] = ([], 1) := by decide +kernel

set_option maxRecDepth 100000 in
set_option maxHeartbeats 8000000 in
theorem ediKnown_walk {W : World} : Calls Try.prog 8 #[] W fun e w' => e = .returned (.bool true) ∧ Below W.heap.size W w' := by
  obtain ⟨B, hB⟩ : ∃ B, W.heap.size = B := ⟨_, rfl⟩
  have HBQ := Lib.hid hB
  rw [hB]
  clear hB
  go_enter Try.func8, Try.ntmps8
  go_wp2_with fail
  generalize hw1 : World.alloc W _ = w1
  have HT1 : Hid (w1.heap[B]? = some (.cells (cellsT rows1).toArray 42 (0, 0))) := Lib.hid (by rw [← hw1, ← HBQ.out]; exact heap_alloc_new W _)
  have HB1 : Hid (Below B W w1) := Lib.hid (by rw [← hw1, ← HBQ.out]; exact (Below.refl _ _).alloc (Nat.le_refl _) _)
  have hBB := HBQ.out
  rw [hBB]
  have hz1 : B < w1.heap.size := by rw [← hw1]; simp; omega
  clear hw1 hBB
  go_loopw [2] (fun i wr => ∃ (k : Nat), k ≤ 19 ∧ i = .int .i64 (k : Int) ∧ Hid (wr.heap[B]? = some (.cells (cellsT rows1).toArray 42 (0, 0))) ∧ Hid (Below B W wr) ∧ B < wr.heap.size) (fun i _ => 19 - (intOf i).toNat)
  case atStart => exact ⟨0, by omega, rfl, HT1, HB1, hz1⟩
  case round =>
    obtain ⟨k, hk, rfl, HT, HB2, hz2⟩ := hrel
    clear HT1 HB1
    by_cases hlt : k < 19
    · skip
      obtain ⟨r, hr⟩ : ∃ r, rows1[k]? = some r := ⟨_, List.getElem?_eq_getElem (by exact hlt)⟩
      have hfit := rows1_fit r (List.mem_of_getElem? hr)
      obtain ⟨g1, g2, g3⟩ := cellsT_get rows1 k r hr
      have c0 : wr.cell? ⟨B, k * 3, none⟩ = some (.string r.t) := by rw [cell_of_row wr B _ _ _ _ HT.out, List.getElem?_toArray]; exact g1
      have HC1 := Lib.hid (show wr.cell? ⟨B, k * 3 + 1, none⟩ = some (.int .i64 r.e) by rw [cell_of_row wr B _ _ _ _ HT.out, List.getElem?_toArray]; exact g2)
      have HC2 := Lib.hid (show wr.cell? ⟨B, k * 3 + 2, none⟩ = some (.int .i64 (r.p : Int)) by rw [cell_of_row wr B _ _ _ _ HT.out, List.getElem?_toArray]; exact g3)
      obtain ⟨rt, re, rp⟩ := r
      simp only at c0 HC1 HC2
      have HPR := Lib.hid (parse_row hfit wr)
      have b1 : (0 : Int) ≤ k := by omega
      have b2 : (k : Int) < 19 := by omega
      clear hr hfit g1 g2 g3
      go_upto_region 6 with ((with_reducible refine HPR.out.mono ?_); rintro e w2 ⟨pa, pn, pc, rfl, hn, hn2, hb⟩; simp only at hn; have HN := Lib.hid hn; have HB3 := Lib.hid hb; clear hn hb)
      have c1 := (HB3.out.cell (p := ⟨B, k * 3 + 1, none⟩) hz2).trans HC1.out
      have c2 := (HB3.out.cell (p := ⟨B, k * 3 + 2, none⟩) hz2).trans HC2.out
      have hz3 := HB3.out.size
      have HT3 : Hid (w2.heap[B]? = some (.cells (cellsT rows1).toArray 42 (0, 0))) := Lib.hid ((HB3.out.block B hz2).trans HT.out)
      have HB4 := Lib.hid (HB2.out.trans (HB3.out.mono (Nat.le_of_lt hz2)))
      clear c0
      by_cases he0 : re = 0
      · subst he0
        go_wp2_with fail
        go_roundw
        case rel => exact ⟨k + 1, by omega, by go_num, HT3, HB4, by omega⟩
        case measure => simp [intOf]; omega
      · have d0 : (re != 0) = true := by rw [bne_iff_ne]; exact he0
        obtain rfl : pn = 0 := HN.out he0
        clear he0
        go_wp2_with fail
        go_roundw
        case rel => exact ⟨k + 1, by omega, by go_num, HT3, HB4, by omega⟩
        case measure => simp [intOf]; omega
    · obtain rfl : k = 19 := by omega
      have hz2' : B ≤ wr.heap.size := Nat.le_of_lt hz2
      clear HT
      go_wp2_with fail
      refine (many_any _ 64 (by decide) (by omega) _).mono ?_
      rintro e w' ⟨⟨r0, rfl, hr0⟩, rfl⟩
      have HR0 := Lib.hid hr0
      clear hr0
      go_wp2_with fail
      refine (many_any _ 65 (by decide) (by omega) _).mono ?_
      rintro e w' ⟨⟨r1, rfl, hr1⟩, rfl⟩
      have HR1 := Lib.hid hr1
      clear hr1
      go_wp2_with fail
      refine (many_any _ 64 (by decide) (by omega) _).mono ?_
      rintro e w' ⟨⟨r2, rfl, hr2⟩, rfl⟩
      have HR2 := Lib.hid hr2
      have hs2 : r2.size ≤ 70000 := by rw [← data_len, hr2, repS_len]; decide
      clear hr2
      go_wp2_with fail
      refine (many_any _ 16 (by decide) (by omega) _).mono ?_
      rintro e w' ⟨⟨r3, rfl, hr3⟩, rfl⟩
      have HR3 := Lib.hid hr3
      have hs3 : r3.size ≤ 70000 := by rw [← data_len, hr3, repS_len]; decide
      clear hr3
      go_wp2_with fail
      refine (many_any _ 17 (by decide) (by omega) _).mono ?_
      rintro e w' ⟨⟨r4, rfl, hr4⟩, rfl⟩
      have HR4 := Lib.hid hr4
      have hs4 : r4.size ≤ 70000 := by rw [← data_len, hr4, repS_len]; decide
      clear hr4
      go_wp2_with fail
      refine (many_any _ 7 (by decide) (by omega) _).mono ?_
      rintro e w' ⟨⟨r5, rfl, hr5⟩, rfl⟩
      have HR5 := Lib.hid hr5
      have hs5 : r5.size ≤ 70000 := by rw [← data_len, hr5, repS_len]; decide
      clear hr5
      go_wp2_with fail
      refine (many_any _ 8 (by decide) (by omega) _).mono ?_
      rintro e w' ⟨⟨r6, rfl, hr6⟩, rfl⟩
      have HR6 := Lib.hid hr6
      have hs6 : r6.size ≤ 70000 := by rw [← data_len, hr6, repS_len]; decide
      clear hr6
      go_wp2_with fail
      refine (many_any _ 256 (by decide) (by omega) _).mono ?_
      rintro e w' ⟨⟨r7, rfl, hr7⟩, rfl⟩
      have HR7 := Lib.hid hr7
      have hs7 : r7.size ≤ 70000 := by rw [← data_len, hr7, repS_len]; decide
      clear hr7
      go_wp2_with fail
      refine (many_any _ 257 (by decide) (by omega) _).mono ?_
      rintro e w' ⟨⟨r8, rfl, hr8⟩, rfl⟩
      have HR8 := Lib.hid hr8
      have hs8 : r8.size ≤ 70000 := by rw [← data_len, hr8, repS_len]; decide
      clear hr8
      go_wp2_with fail
      refine (many_any _ 257 (by decide) (by omega) _).mono ?_
      rintro e w' ⟨⟨r9, rfl, hr9⟩, rfl⟩
      have HR9 := Lib.hid hr9
      have hs9 : r9.size ≤ 70000 := by rw [← data_len, hr9, repS_len]; decide
      clear hr9
      go_wp2_with fail
      refine (many_any _ 65537 (by decide) (by omega) _).mono ?_
      rintro e w' ⟨⟨r10, rfl, hr10⟩, rfl⟩
      have HR10 := Lib.hid hr10
      clear hr10
      go_wp2_with fail
      refine (many_any _ 65536 (by decide) (by omega) _).mono ?_
      rintro e w' ⟨⟨r11, rfl, hr11⟩, rfl⟩
      have HR11 := Lib.hid hr11
      clear hr11
      obtain ⟨rows2, hrows2⟩ : ∃ rows2 : List TRow, rows2 = [⟨r0, 0, 0⟩, ⟨r1, 2, 256⟩, ⟨r2 ++ (⟨#[10]⟩ : ByteArray), 0, 0⟩, ⟨(⟨#[65, 66, 67]⟩ : ByteArray) ++ r3 ++ (⟨#[39]⟩ : ByteArray), 0, 0⟩, ⟨(⟨#[65, 66, 67]⟩ : ByteArray) ++ r4 ++ (⟨#[39]⟩ : ByteArray), 2, 19⟩, ⟨(⟨#[65, 66, 67, 43]⟩ : ByteArray) ++ r5 ++ (⟨#[39]⟩ : ByteArray), 0, 0⟩, ⟨(⟨#[65, 66, 67, 43]⟩ : ByteArray) ++ r6 ++ (⟨#[39]⟩ : ByteArray), 2, 11⟩, ⟨(⟨#[65, 66, 67, 43]⟩ : ByteArray) ++ r7 ++ (⟨#[39]⟩ : ByteArray), 0, 0⟩, ⟨(⟨#[65, 66, 67, 43]⟩ : ByteArray) ++ r8 ++ (⟨#[39]⟩ : ByteArray), 2, 260⟩, ⟨(⟨#[65, 66, 67, 43]⟩ : ByteArray) ++ r9 ++ (⟨#[39]⟩ : ByteArray), 2, 517⟩, ⟨r10, 2, 0⟩, ⟨r11, 30, 3⟩] := ⟨_, rfl⟩
      have HFT : Hid (∀ r ∈ rows2, FitT r) := Lib.hid (by
        rw [hrows2]
        intro r hr
        simp only [List.mem_cons, List.not_mem_nil, or_false] at hr
        rcases hr with rfl | rfl | rfl | rfl | rfl | rfl | rfl | rfl | rfl | rfl | rfl | rfl
        · exact fit_of (HR0.out) rfl rfl lim0
        · exact fit_of (HR1.out) rfl rfl lim1
        · exact fit_of (by show (r2 ++ (⟨#[10]⟩ : ByteArray)).data.toList = _; simp only [cat_data, HR2.out]) rfl rfl lim2
        · exact fit_of (by show ((⟨#[65, 66, 67]⟩ : ByteArray) ++ r3 ++ (⟨#[39]⟩ : ByteArray)).data.toList = _; simp only [cat_data, HR3.out]) rfl rfl lim3
        · exact fit_of (by show ((⟨#[65, 66, 67]⟩ : ByteArray) ++ r4 ++ (⟨#[39]⟩ : ByteArray)).data.toList = _; simp only [cat_data, HR4.out]) rfl rfl lim4
        · exact fit_of (by show ((⟨#[65, 66, 67, 43]⟩ : ByteArray) ++ r5 ++ (⟨#[39]⟩ : ByteArray)).data.toList = _; simp only [cat_data, HR5.out]) rfl rfl lim5
        · exact fit_of (by show ((⟨#[65, 66, 67, 43]⟩ : ByteArray) ++ r6 ++ (⟨#[39]⟩ : ByteArray)).data.toList = _; simp only [cat_data, HR6.out]) rfl rfl lim6
        · exact fit_of (by show ((⟨#[65, 66, 67, 43]⟩ : ByteArray) ++ r7 ++ (⟨#[39]⟩ : ByteArray)).data.toList = _; simp only [cat_data, HR7.out]) rfl rfl lim7
        · exact fit_of (by show ((⟨#[65, 66, 67, 43]⟩ : ByteArray) ++ r8 ++ (⟨#[39]⟩ : ByteArray)).data.toList = _; simp only [cat_data, HR8.out]) rfl rfl lim8
        · exact fit_of (by show ((⟨#[65, 66, 67, 43]⟩ : ByteArray) ++ r9 ++ (⟨#[39]⟩ : ByteArray)).data.toList = _; simp only [cat_data, HR9.out]) rfl rfl lim9
        · exact .inr ⟨by show 65536 < r10.size; rw [← data_len, HR10.out, repS_len]; decide, rfl, rfl⟩
        · exact fit_of (HR11.out) rfl rfl lim11)
      have HRL := Lib.hid (show rows2.length = 12 by rw [hrows2]; rfl)
      go_wp2_with fail
      generalize hw3 : World.alloc wr _ = w3
      obtain ⟨D, hD⟩ : ∃ D, wr.heap.size = D := ⟨_, rfl⟩
      have HT1 : Hid (w3.heap[D]? = some (.cells (cellsT rows2).toArray 42 (0, 0))) := Lib.hid (by rw [← hw3, ← hD, hrows2]; exact heap_alloc_new wr _)
      have HB3 : Hid (Below B W w3) := Lib.hid (by rw [← hw3]; exact HB2.out.alloc hz2' _)
      have hz3 : D < w3.heap.size := by rw [← hw3, ← hD]; simp
      have hBD : B ≤ D := by omega
      rw [hD]
      clear hw3 hD hrows2
      go_loopw [7] (fun i wr => ∃ (k : Nat), k ≤ 12 ∧ i = .int .i64 (k : Int) ∧ Hid (wr.heap[D]? = some (.cells (cellsT rows2).toArray 42 (0, 0))) ∧ Hid (Below B W wr) ∧ D < wr.heap.size) (fun i _ => 12 - (intOf i).toNat)
      case atStart => exact ⟨0, by omega, rfl, HT1, HB3, hz3⟩
      case round =>
        obtain ⟨k, hk, rfl, HT, HB4, hz4⟩ := hrel
        clear HT1 HB3
        by_cases hlt : k < 12
        · skip
          obtain ⟨r, hr⟩ : ∃ r, rows2[k]? = some r := ⟨_, List.getElem?_eq_getElem (by rw [HRL.out]; exact hlt)⟩
          have hfit := HFT.out r (List.mem_of_getElem? hr)
          obtain ⟨g1, g2, g3⟩ := cellsT_get rows2 k r hr
          have c0 : wr.cell? ⟨D, k * 3, none⟩ = some (.string r.t) := by rw [cell_of_row wr D _ _ _ _ HT.out, List.getElem?_toArray]; exact g1
          have HC1 := Lib.hid (show wr.cell? ⟨D, k * 3 + 1, none⟩ = some (.int .i64 r.e) by rw [cell_of_row wr D _ _ _ _ HT.out, List.getElem?_toArray]; exact g2)
          have HC2 := Lib.hid (show wr.cell? ⟨D, k * 3 + 2, none⟩ = some (.int .i64 (r.p : Int)) by rw [cell_of_row wr D _ _ _ _ HT.out, List.getElem?_toArray]; exact g3)
          obtain ⟨rt, re, rp⟩ := r
          simp only at c0 HC1 HC2
          have HPR := Lib.hid (parse_row hfit wr)
          have b1 : (0 : Int) ≤ k := by omega
          have b2 : (k : Int) < 12 := by omega
          clear hr hfit g1 g2 g3
          go_upto_region 13 with ((with_reducible refine HPR.out.mono ?_); rintro e w2 ⟨pa, pn, pc, rfl, hn, hn2, hb⟩; have HB5 := Lib.hid hb; clear hn hb)
          have c1 := (HB5.out.cell (p := ⟨D, k * 3 + 1, none⟩) hz4).trans HC1.out
          have c2 := (HB5.out.cell (p := ⟨D, k * 3 + 2, none⟩) hz4).trans HC2.out
          have hz5 := HB5.out.size
          have HT3 : Hid (w2.heap[D]? = some (.cells (cellsT rows2).toArray 42 (0, 0))) := Lib.hid ((HB5.out.block D hz4).trans HT.out)
          have HB6 := Lib.hid (HB4.out.trans (HB5.out.mono (by omega)))
          clear c0
          go_wp2_with fail
          go_roundw
          case rel => exact ⟨k + 1, by omega, by go_num, HT3, HB6, by omega⟩
          case measure => simp [intOf]; omega
        · skip
          obtain rfl : k = 12 := by omega
          clear HT HFT HRL
          have hz4' : B ≤ wr.heap.size := by omega
          go_wp2_with fail
          obtain ⟨E, hE⟩ : ∃ E, wr.heap.size = E := ⟨_, rfl⟩
          generalize hw5 : World.alloc (World.alloc (World.alloc wr _) _) _ = w5
          have HSL : Hid (∀ (i : Nat) (s : Seg), badL[i]? = some s → SegsAt (Low w5) w5 (.slice (some ⟨E + 2, i * 2, none⟩) 1 (5 - i)) [s]) := Lib.hid (by
            have hz : w5.heap.size = E + 3 := by rw [← hw5, ← hE]; simp
            have h0 : w5.heap[E]? = some (.cells ([] : List Value).toArray 9 (0, 0)) := by
              rw [← hw5, ← hE, Below.heap_alloc _ _ _ (by simp; omega), Below.heap_alloc _ _ _ (by simp)]; exact heap_alloc_new wr _
            have h1 : w5.heap[E + 1]? = some (.cells #[.slice (some ⟨E, 0, none⟩) 0 0] 38 (0, 0)) := by
              rw [← hw5, ← hE, Below.heap_alloc _ _ _ (by simp)]
              have := heap_alloc_new (wr.alloc (.cells #[] 9)) (.cells #[.slice (some ⟨wr.heap.size, 0, none⟩) 0 0] 38)
              rw [World.size_alloc] at this; exact this
            have h2 : w5.heap[E + 2]? = some (.cells (segCells badL [.slice none 0 0, .slice none 0 0, .slice none 0 0, .slice (some ⟨E + 1, 0, none⟩) 1 1, .slice none 0 0]).toArray 37 (0, 0)) := by
              rw [← hw5, ← hE]
              have h3 : ∀ (w : World) (o : Obj) (n : Nat), w.heap.size = n → (w.alloc o).heap[n]? = (w.alloc o).heap[w.heap.size]? := fun w o n h => by rw [h]
              rw [h3 _ _ _ (by simp), heap_alloc_new]; rfl
            intro i s hs
            have hi : i < 5 := (List.getElem?_eq_some_iff.1 hs).1
            have he : ∀ (i : Nat) (s : Seg) (x : Value), badL[i]? = some s → ([.slice none 0 0, .slice none 0 0, .slice none 0 0, .slice (some ⟨E + 1, 0, none⟩) 1 1, .slice none 0 0] : List Value)[i]? = some x → ElemsAt (Low w5) w5 x s.elems := fun i s x h4 h5 => by
              match i, h4, h5 with
              | 0, h4, h5 => simp [badL] at h4 h5; subst h4; subst h5; exact ElemsAt.nil _ _
              | 1, h4, h5 => simp [badL] at h4 h5; subst h4; subst h5; exact ElemsAt.nil _ _
              | 2, h4, h5 => simp [badL] at h4 h5; subst h4; subst h5; exact ElemsAt.nil _ _
              | 3, h4, h5 => simp [badL] at h4 h5; subst h4; subst h5; exact lit_el (e := []) h0 rfl h1 (by show _ < _; omega) (by show _ < _; omega) (by simp)
              | 4, h4, h5 => simp [badL] at h4 h5; subst h4; subst h5; exact ElemsAt.nil _ _
              | i + 5, h4, _ => simp [badL] at h4
            have hm : [s] = (badL.drop i).take 1 := by
              obtain ⟨hl, hx⟩ := List.getElem?_eq_some_iff.1 hs
              rw [List.drop_eq_getElem_cons hl, hx]; rfl
            exact segsLit (i := i) (n := 1) h2 (by show _ < _; omega) hm rfl rfl (by rw [List.length_take, List.length_drop]; show min 1 (5 - i) = 1; omega) (by omega) (by omega) he)
          have HB5 : Hid (Below B W w5) := Lib.hid (by rw [← hw5]; exact ((HB4.out.alloc hz4' _).alloc (by simp; omega) _).alloc (by simp; omega) _)
          have hz5 : B ≤ w5.heap.size := by rw [← hw5]; simp; omega
          have hE2 : E + 2 < w5.heap.size := by rw [← hw5, ← hE]; simp
          have hbs : ∀ s ∈ badL, (printT [s]).length ≤ 1048576 := by decide
          have HBS := Lib.hid hbs
          rw [hE]
          clear hw5 hE hbs
          have h12 : ((12 : Nat) : Int) = 12 := rfl
          rw [h12]
          clear h12
          go_loopw [12] (fun i wr => ∃ (k : Nat), k ≤ 5 ∧ i = .int .i64 (k : Int) ∧ Hid (Below w5.heap.size w5 wr)) (fun i _ => 5 - (intOf i).toNat)
          case atStart => exact ⟨0, by omega, rfl, Lib.hid (Below.refl _ _)⟩
          case round =>
            obtain ⟨k, hk, rfl, HB6⟩ := hrel
            have HB7 := Lib.hid (HB5.out.trans (HB6.out.mono hz5))
            by_cases hlt : k < 5
            · skip
              obtain ⟨s, hs⟩ : ∃ s, badL[k]? = some s := ⟨_, List.getElem?_eq_getElem (by exact hlt)⟩
              have HPR := Lib.hid (print_any wr _ [s] ((HSL.out k s hs).cong (T := Low wr) (fun b hb => Nat.lt_of_lt_of_le hb HB6.out.size) (fun b hb => HB6.out.block b hb)) (HBS.out s (List.mem_of_getElem? hs)))
              rw [badL_print s (List.mem_of_getElem? hs)] at HPR
              have b1 : (0 : Int) ≤ k := by omega
              have b2 : (k : Int) < 5 := by omega
              clear hs
              go_wp2_with fail
              refine HPR.out.mono ?_
              rintro e w6 ⟨rfl, hb6⟩
              have HB8 := Lib.hid (HB6.out.trans (hb6.mono HB6.out.size))
              clear hb6
              unfold sv
              go_wp2_with fail
              go_roundw
              case rel => exact ⟨k + 1, by omega, by go_num, HB8⟩
              case measure => simp [intOf]; omega
            · skip
              obtain rfl : k = 5 := by omega
              have hzw := HB7.out.size
              rw [HBQ.out] at hzw
              go_wp2_with fail
              generalize hg1 : World.alloc (World.alloc (World.alloc wr _) _) _ = g1
              obtain ⟨k1, j1⟩ := lit_segs (w := wr) (t := [65, 66, 67]) (e := [[10]]) (cs := [.string ⟨#[10]⟩]) [] rfl (by simp) (by simp) g1 hg1
              have hp1 := print_any g1 _ _ k1 (by decide)
              rw [show ((⟨[65, 66, 67], [[[10]]]⟩ : Seg) :: List.map (fun m => (⟨m, []⟩ : Seg)) []) = [⟨[65, 66, 67], [[[10]]]⟩] from rfl, pr1] at hp1
              refine hp1.mono ?_
              rintro e v1 ⟨rfl, hv1⟩
              have HV1 := Lib.hid (HB7.out.trans ((j1.trans (hv1.mono j1.size)).mono hzw))
              have hzv1 := HV1.out.size
              rw [HBQ.out] at hzv1
              clear hg1 k1 j1 hp1 hv1
              unfold sv
              go_wp2_with fail
              refine (many_any _ 257 (by decide) (by decide) _).mono ?_
              rintro e w' ⟨⟨ra, rfl, hra⟩, rfl⟩
              go_wp2_with fail
              generalize hg2 : World.alloc (World.alloc (World.alloc v1 _) _) _ = g2
              obtain ⟨k2, j2⟩ := lit_segs (w := v1) (t := [65, 66, 67]) (e := [ra.data.toList]) (cs := [.string ra]) [] (by rw [List.map_singleton, sv_data]) (by simp) (by simp) g2 hg2
              rw [show ((⟨[65, 66, 67], [[ra.data.toList]]⟩ : Seg) :: List.map (fun m => (⟨m, []⟩ : Seg)) []) = [⟨[65, 66, 67], [[ra.data.toList]]⟩] from rfl, hra] at k2
              have hp2 := print_any g2 _ _ k2 pl2
              rw [show repS 257 (⟨#[97]⟩ : ByteArray).data.toList = repS 257 [97] from rfl, pr2] at hp2
              refine hp2.mono ?_
              rintro e v2 ⟨rfl, hv2⟩
              have HV2 := Lib.hid (HV1.out.trans ((j2.trans (hv2.mono j2.size)).mono hzv1))
              have hzv2 := HV2.out.size
              rw [HBQ.out] at hzv2
              clear hg2 k2 j2 hp2 hv2 hra
              unfold sv
              go_wp2_with fail
              refine (many_any _ 257 (by decide) (by decide) _).mono ?_
              rintro e w' ⟨⟨rb, rfl, hrb⟩, rfl⟩
              go_wp2_with fail
              generalize hg3 : World.alloc (World.alloc (World.alloc v2 _) _) _ = g3
              obtain ⟨k3, j3⟩ := lit_segs (w := v2) (t := [65, 66, 67]) (e := [rb.data.toList, [127]]) (cs := [.string rb, .string ⟨#[127]⟩]) [[97, 98, 99]] (by rw [List.map_cons, sv_data]; rfl) (by simp) (by simp) g3 hg3
              rw [show ((⟨[65, 66, 67], [[rb.data.toList, [127]]]⟩ : Seg) :: List.map (fun m => (⟨m, []⟩ : Seg)) [[97, 98, 99]]) = [⟨[65, 66, 67], [[rb.data.toList, [127]]]⟩, ⟨[97, 98, 99], []⟩] from rfl, hrb] at k3
              have hp3 := print_any g3 _ _ k3 pl3
              rw [show repS 257 (⟨#[97]⟩ : ByteArray).data.toList = repS 257 [97] from rfl, pr3] at hp3
              refine hp3.mono ?_
              rintro e v3 ⟨rfl, hv3⟩
              have HV3 := Lib.hid (HV2.out.trans ((j3.trans (hv3.mono j3.size)).mono hzv2))
              have hzv3 := HV3.out.size
              rw [HBQ.out] at hzv3
              clear hg3 k3 j3 hp3 hv3 hrb
              unfold sv
              go_wp2_with fail
              generalize hg4 : World.alloc (World.alloc (World.alloc v3 _) _) _ = g4
              obtain ⟨k4, j4⟩ := lit_segs (w := v3) (t := [65, 66, 67]) (e := [[97, 63, 98, 58, 99, 39, 100, 43, 101]]) (cs := [.string ⟨#[97, 63, 98, 58, 99, 39, 100, 43, 101]⟩]) [] rfl (by simp) (by simp) g4 hg4
              have hp4 := print_any g4 _ _ k4 (by decide)
              rw [show ((⟨[65, 66, 67], [[[97, 63, 98, 58, 99, 39, 100, 43, 101]]]⟩ : Seg) :: List.map (fun m => (⟨m, []⟩ : Seg)) []) = [⟨[65, 66, 67], [[[97, 63, 98, 58, 99, 39, 100, 43, 101]]]⟩] from rfl, pr4] at hp4
              refine hp4.mono ?_
              rintro e v4 ⟨rfl, hv4⟩
              have HV4 := Lib.hid (HV3.out.trans ((j4.trans (hv4.mono j4.size)).mono hzv3))
              have hzv4 := HV4.out.size
              rw [HBQ.out] at hzv4
              clear hg4 k4 j4 hp4 hv4
              unfold sv
              go_wp2_with ((with_reducible refine (reads_any _).mono ?_); rintro e w7 ⟨rfl, hb7⟩; have HB9 := Lib.hid hb7; clear hb7)
              go_ret
              exact ⟨rfl, HV4.out.trans (HB9.out.mono hzv4)⟩
end Go.Proofs.Ytpfkmklhfafkiaa
