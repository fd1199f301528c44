/-
  Texts EdiM, EdiR, EdiR2, EdiR3, EdiF, EdiX, EdiG, EdiH, EdiI, EdiY1, one behind the other. No condition beyond those stated in each.
-/
import Derived.Test.YtgfijlamhjjecaaGreatDoorProg
import Derived.Test.YtgfijlamhjjecaaGreatDoorMp1
import Derived.Maps.AppendAt
import Derived.Laws.AppendOwnNone
import Derived.BigQuiet
import Derived.Deep.QuietTactic
import Derived.Lib.ConvBytes
import Derived.Deep.CutBlock
import Derived.Deep.CutRange
import Derived.Laws.BytesString
import Derived.Defers
import Derived.Laws.Pointers
import Derived.Laws.LoneSync
import Derived.RegionCalls
import Derived.ChangeAlike
/-
  EdiM: how segments, and a reader of them, lie in memory. No condition beyond those stated.
-/
namespace Go.Proofs.YtgfijlamhjjecaaGreatDoor
open Go.RowKit
theorem einfo_u8 : (Tryz.prog.info? 5).map (fun i => (i.zero, i.size, i.bytes)) = some (some (.int .u8 0), 1, 1) := by kernel_rfl
theorem einfo_str : (Tryz.prog.info? 9).map (fun i => (i.zero, i.size, i.bytes)) = some (some (.string ⟨#[]⟩), 1, 16) := by kernel_rfl
theorem einfo_strs : (Tryz.prog.info? 58).map (fun i => (i.zero, i.size, i.bytes)) = some (some (.slice none 0 0), 1, 24) := by kernel_rfl
theorem einfo_seg : (Tryz.prog.info? 94).map (fun i => (i.zero, i.size, i.bytes)) = some (some (.agg #[.string ⟨#[]⟩, .slice none 0 0]), 2, 40) := by kernel_rfl
/-- a string as a cell -/
def sv (s : Str) : Value := .string ⟨s.toArray⟩
theorem cell_lt' {w : World} {b o : Nat} {v : Value} (h : w.cell? ⟨b, o, none⟩ = some v) : b < w.heap.size := World.block_lt_of_cell? w _ h
/-- a slice that reads as these values, one cell each, in a block of S -/
def RowAt (S : Nat → Prop) (w : World) (v : Value) (xs : List Value) : Prop :=
  ∃ ao cap, v = .slice ao xs.length cap ∧ xs.length ≤ cap ∧ cap ≤ maxLen ∧ (ao = none → cap = 0) ∧ (xs ≠ [] → ∃ b off, ao = some ⟨b, off, none⟩ ∧ S b ∧ ∀ (i : Nat) (x : Value), xs[i]? = some x → w.cell? ⟨b, off + i, none⟩ = some x)
def CompsAt (S : Nat → Prop) (w : World) (v : Value) (cs : List Str) : Prop := RowAt S w v (cs.map sv)
def ElemsAt (S : Nat → Prop) (w : World) (v : Value) (es : List (List Str)) : Prop :=
  ∃ xs : List Value, RowAt S w v xs ∧ xs.length = es.length ∧ ∀ (i : Nat) (e : List Str) (x : Value), es[i]? = some e → xs[i]? = some x → CompsAt S w x e
def SegsAt (S : Nat → Prop) (w : World) (v : Value) (l : List Seg) : Prop :=
  ∃ (ao : Option Addr) (cap : Nat) (xs : List Value), v = .slice ao l.length cap ∧ l.length ≤ cap ∧ cap ≤ maxLen ∧ (ao = none → cap = 0) ∧ xs.length = l.length ∧ (∀ (i : Nat) (s : Seg) (x : Value), l[i]? = some s → xs[i]? = some x → ElemsAt S w x s.elems) ∧
    (l ≠ [] → ∃ b off, ao = some ⟨b, off, none⟩ ∧ S b ∧ ∀ (i : Nat) (s : Seg) (x : Value), l[i]? = some s → xs[i]? = some x → w.cell? ⟨b, off + i * 2, none⟩ = some (sv s.tag) ∧ w.cell? ⟨b, off + i * 2 + 1, none⟩ = some x)
section
variable {S T : Nat → Prop} {w w' : World} {v : Value}
theorem RowAt.cong {xs : List Value} (h : RowAt S w v xs) (hT : ∀ k, S k → T k) (e : ∀ k, S k → w'.heap[k]? = w.heap[k]?) : RowAt T w' v xs := by
  obtain ⟨ao, cap, rfl, h1, h2, h3, h4⟩ := h
  refine ⟨ao, cap, rfl, h1, h2, h3, fun hx => ?_⟩
  obtain ⟨b, off, rfl, hS, hc⟩ := h4 hx
  exact ⟨b, off, rfl, hT b hS, fun i x hi => (World.cell?_of_block (a := ⟨b, off + i, none⟩) (e b hS)).trans (hc i x hi)⟩
theorem CompsAt.cong {cs : List Str} (h : CompsAt S w v cs) (hT : ∀ k, S k → T k) (e : ∀ k, S k → w'.heap[k]? = w.heap[k]?) : CompsAt T w' v cs := RowAt.cong h hT e
theorem ElemsAt.cong {es : List (List Str)} (h : ElemsAt S w v es) (hT : ∀ k, S k → T k) (e : ∀ k, S k → w'.heap[k]? = w.heap[k]?) : ElemsAt T w' v es := by
  obtain ⟨xs, h1, h2, h3⟩ := h
  exact ⟨xs, h1.cong hT e, h2, fun i a x ha hx => (h3 i a x ha hx).cong hT e⟩
theorem SegsAt.cong {l : List Seg} (h : SegsAt S w v l) (hT : ∀ k, S k → T k) (e : ∀ k, S k → w'.heap[k]? = w.heap[k]?) : SegsAt T w' v l := by
  obtain ⟨ao, cap, xs, rfl, h1, h2, h3, h4, h5, h6⟩ := h
  refine ⟨ao, cap, xs, rfl, h1, h2, h3, h4, fun i s x hs hx => (h5 i s x hs hx).cong hT e, fun h0 => ?_⟩
  obtain ⟨b, off, rfl, hS, hc⟩ := h6 h0
  refine ⟨b, off, rfl, hT b hS, fun i s x hs hx => ?_⟩
  obtain ⟨a1, a2⟩ := hc i s x hs hx
  exact ⟨(World.cell?_of_block (a := ⟨b, off + i * 2, none⟩) (e b hS)).trans a1, (World.cell?_of_block (a := ⟨b, off + i * 2 + 1, none⟩) (e b hS)).trans a2⟩
theorem RowAt.nil (S : Nat → Prop) (w : World) : RowAt S w (.slice none 0 0) [] := ⟨none, 0, rfl, Nat.le_refl _, Nat.zero_le _, fun _ => rfl, fun h => absurd rfl h⟩
theorem ElemsAt.nil (S : Nat → Prop) (w : World) : ElemsAt S w (.slice none 0 0) [] := ⟨[], RowAt.nil S w, rfl, fun i e x h => by simp at h⟩
theorem SegsAt.nil (S : Nat → Prop) (w : World) : SegsAt S w (.slice none 0 0) [] := ⟨none, 0, [], rfl, Nat.le_refl _, Nat.zero_le _, fun _ => rfl, rfl, (fun i s x h => by simp at h), fun h => absurd rfl h⟩
end
theorem own_cong {w w' : World} {B : Nat} {e : TypeId} {s n : Nat} {v : Value} {xs : List Value} (h : w.ownsRow B e s v n xs) (he : ∀ k, v.ownBlock = some k → w'.heap[k]? = w.heap[k]?) : w'.ownsRow B e s v n xs := by
  obtain ⟨h1, h2 | ⟨g, cap, cur, rfl, hg, hh, hr⟩⟩ := h
  · exact ⟨h1, .inl h2⟩
  · exact ⟨h1, .inr ⟨g, cap, cur, rfl, hg, (he g rfl).trans hh, hr⟩⟩
/-- the block of an owned row: its type -/
theorem own_ty {w : World} {B : Nat} {e : TypeId} {s n k : Nat} {v : Value} {xs : List Value} (h : w.ownsRow B e s v n xs) (hk : v.ownBlock = some k) : ∃ C, w.heap[k]? = some (.cells C e (0, 0)) ∧ B ≤ k ∧ k < w.heap.size := by
  obtain ⟨_, ⟨rfl, _⟩ | ⟨g, cap, cur, rfl, hg, hh, _⟩⟩ := h
  · simp [Value.ownBlock] at hk
  · cases hk; exact ⟨cur, hh, hg, (Array.getElem?_eq_some_iff.1 hh).1⟩
theorem own_form {w : World} {B : Nat} {e : TypeId} {s n : Nat} {v : Value} {xs : List Value} (h : w.ownsRow B e s v n xs) (hn : 0 < n) (_hs : 0 < s) : ∃ g cap cur, v = .slice (some ⟨g, 0, none⟩) n cap ∧ B ≤ g ∧ w.heap[g]? = some (.cells cur e (0, 0)) ∧ n ≤ cap ∧ cap ≤ maxLen ∧ cur.size = cap * s ∧ ∀ j, j < n * s → cur[j]? = xs[j]? := by
  obtain ⟨h1, ⟨rfl, h0⟩ | ⟨g, cap, cur, rfl, hg, hh, hc, hm, hs', hx⟩⟩ := h
  · omega
  · refine ⟨g, cap, cur, rfl, hg, hh, hc, hm, hs', fun j hj => ?_⟩
    rw [← hx, List.getElem?_take_of_lt hj]; simp
theorem own_cell {w : World} {B : Nat} {e : TypeId} {s n g cap : Nat} {xs : List Value} (h : w.ownsRow B e s (.slice (some ⟨g, 0, none⟩) n cap) n xs) {j : Nat} {x : Value} (hj : xs[j]? = some x) : w.cell? ⟨g, j, none⟩ = some x := by
  obtain ⟨h1, ⟨h2, _⟩ | ⟨g', cap', cur, h2, hg, hh, hc, hm, hs', hx⟩⟩ := h
  · cases h2
  · cases h2
    have hlt : j < n * s := by rw [← h1]; exact (List.getElem?_eq_some_iff.1 hj).1
    rw [cell_of_row w g j _ _ _ hh]
    rw [← hx, List.getElem?_take_of_lt hlt] at hj
    simpa using hj
theorem own_frozen {w : World} {B : Nat} {e : TypeId} {s n g cap : Nat} {xs : List Value} (h : w.ownsRow B e s (.slice (some ⟨g, 0, none⟩) n cap) n xs) (j : Nat) : w.frozen? ⟨g, j, none⟩ = false := by
  obtain ⟨h1, ⟨h2, _⟩ | ⟨g', cap', cur, h2, hg, hh, hr⟩⟩ := h
  · cases h2
  · cases h2; exact frozen_of_row w g j _ _ hh
/-- a store into an owned row -/
theorem own_set {w : World} {B : Nat} {e : TypeId} {s n g cap : Nat} {xs : List Value} (h : w.ownsRow B e s (.slice (some ⟨g, 0, none⟩) n cap) n xs) {j : Nat} (_hj : j < xs.length) (x : Value) : (w.setCell ⟨g, j, none⟩ x).ownsRow B e s (.slice (some ⟨g, 0, none⟩) n cap) n (xs.set j x) := by
  obtain ⟨h1, ⟨h2, _⟩ | ⟨g', cap', cur, h2, hg, hh, hc, hm, hs', hx⟩⟩ := h
  · cases h2
  · cases h2
    refine ⟨by rw [List.length_set]; exact h1, .inr ⟨g, cap, cur.setIfInBounds j x, rfl, hg, heap_setCell_same w g j _ _ _ hh, hc, hm, by simpa using hs', ?_⟩⟩
    rw [Array.toList_setIfInBounds, ← hx, List.take_set]
/-- an owned row at rest -/
theorem own_rest {w : World} {B : Nat} {e : TypeId} {v : Value} {xs : List Value} (h : w.ownsRow B e 1 v xs.length xs) {S : Nat → Prop} (hS : ∀ k, v.ownBlock = some k → S k) : RowAt S w v xs := by
  have h' := h
  obtain ⟨_, ⟨rfl, h0⟩ | ⟨g, cap, cur, rfl, hg, hh, hc, hm, hs', hx⟩⟩ := h
  · exact ⟨none, 0, by rw [h0], by omega, Nat.zero_le _, fun _ => rfl, fun hne => absurd (List.length_eq_zero_iff.1 h0) hne⟩
  · exact ⟨some ⟨g, 0, none⟩, cap, rfl, hc, hm, (fun e => by cases e), fun _ => ⟨g, 0, rfl, hS g rfl, fun i x hi => by rw [Nat.zero_add]; exact own_cell h' hi⟩⟩
/-- an owned row of bytes -/
def OwnS (w : World) (B : Nat) (v : Value) (l : Str) : Prop := w.ownsRow B 5 1 v l.length (l.map bv)
def segCells : List Seg → List Value → List Value
  | s :: l, x :: xs => sv s.tag :: x :: segCells l xs
  | _, _ => []
theorem segCells_len : ∀ (l : List Seg) (xs : List Value), xs.length = l.length → (segCells l xs).length = l.length * 2
  | [], xs, h => by cases xs <;> simp [segCells]
  | s :: l, [], h => by simp at h
  | s :: l, x :: xs, h => by simp only [segCells, List.length_cons]; rw [segCells_len l xs (by simpa using h)]; omega
theorem segCells_app : ∀ (l m : List Seg) (xs ys : List Value), xs.length = l.length → segCells (l ++ m) (xs ++ ys) = segCells l xs ++ segCells m ys
  | [], m, xs, ys, h => by cases xs <;> simp [segCells] at h ⊢
  | s :: l, m, [], ys, h => by simp at h
  | s :: l, m, x :: xs, ys, h => by simp only [List.cons_append, segCells]; rw [segCells_app l m xs ys (by simpa using h)]
theorem segCells_get : ∀ (l : List Seg) (xs : List Value) (i : Nat) (s : Seg) (x : Value), l[i]? = some s → xs[i]? = some x → (segCells l xs)[i * 2]? = some (sv s.tag) ∧ (segCells l xs)[i * 2 + 1]? = some x
  | [], xs, i, s, x, h, _ => by simp at h
  | _ :: _, [], i, s, x, _, h => by simp at h
  | a :: l, y :: xs, 0, s, x, h1, h2 => by simp at h1 h2; subst h1; subst h2; exact ⟨rfl, rfl⟩
  | a :: l, y :: xs, i + 1, s, x, h1, h2 => by
    have h := segCells_get l xs i s x (by simpa using h1) (by simpa using h2)
    rw [show (i + 1) * 2 = i * 2 + 1 + 1 by omega]
    exact h
/-- an owned row of segments at rest -/
theorem segs_rest {w : World} {B : Nat} {v : Value} {l : List Seg} {xs : List Value} {S : Nat → Prop} (h : w.ownsRow B 94 2 v l.length (segCells l xs)) (hx : xs.length = l.length) (hS : ∀ k, v.ownBlock = some k → S k) (he : ∀ (i : Nat) (s : Seg) (x : Value), l[i]? = some s → xs[i]? = some x → ElemsAt S w x s.elems) : SegsAt S w v l := by
  have h' := h
  obtain ⟨_, ⟨rfl, h0⟩ | ⟨g, cap, cur, rfl, hg, hh, hc, hm, hs', _⟩⟩ := h
  · exact ⟨none, 0, xs, by rw [h0], by omega, Nat.zero_le _, fun _ => rfl, hx, he, fun hne => absurd (List.length_eq_zero_iff.1 h0) hne⟩
  · refine ⟨some ⟨g, 0, none⟩, cap, xs, rfl, hc, hm, (fun e => by cases e), hx, he, fun _ => ⟨g, 0, rfl, hS g rfl, fun i s x hs hxi => ?_⟩⟩
    obtain ⟨a1, a2⟩ := segCells_get l xs i s x hs hxi
    rw [Nat.zero_add]
    exact ⟨own_cell h' a1, own_cell h' a2⟩
/-! ### what lies in blocks of its own kind -/
def CompsO (S : Nat → Prop) (B : Nat) (w : World) (v : Value) (cs : List Str) : Prop := w.ownsRow B 9 1 v cs.length (cs.map sv) ∧ ∀ k, v.ownBlock = some k → S k
def ElemsO (S : Nat → Prop) (B : Nat) (w : World) (v : Value) (es : List (List Str)) : Prop :=
  ∃ ys : List Value, w.ownsRow B 58 1 v es.length ys ∧ (∀ k, v.ownBlock = some k → S k) ∧ ys.length = es.length ∧ ∀ (i : Nat) (e : List Str) (y : Value), es[i]? = some e → ys[i]? = some y → CompsO S B w y e
def SegsO (S : Nat → Prop) (B : Nat) (w : World) (v : Value) (l : List Seg) : Prop :=
  ∃ xs : List Value, w.ownsRow B 94 2 v l.length (segCells l xs) ∧ (∀ k, v.ownBlock = some k → S k) ∧ xs.length = l.length ∧ ∀ (i : Nat) (s : Seg) (x : Value), l[i]? = some s → xs[i]? = some x → ElemsO S B w x s.elems
section
variable {S T : Nat → Prop} {w w' : World} {B : Nat} {v : Value}
theorem CompsO.cong {cs : List Str} (h : CompsO S B w v cs) (hT : ∀ k, S k → T k) (e : ∀ k, S k → w'.heap[k]? = w.heap[k]?) : CompsO T B w' v cs :=
  ⟨own_cong h.1 (fun k hk => e k (h.2 k hk)), fun k hk => hT k (h.2 k hk)⟩
theorem ElemsO.cong {es : List (List Str)} (h : ElemsO S B w v es) (hT : ∀ k, S k → T k) (e : ∀ k, S k → w'.heap[k]? = w.heap[k]?) : ElemsO T B w' v es := by
  obtain ⟨ys, h1, h2, h3, h4⟩ := h
  exact ⟨ys, own_cong h1 (fun k hk => e k (h2 k hk)), fun k hk => hT k (h2 k hk), h3, fun i a x ha hx => (h4 i a x ha hx).cong hT e⟩
theorem ElemsO.nil (S : Nat → Prop) (B : Nat) (w : World) : ElemsO S B w (.slice none 0 0) [] := ⟨[], World.ownsRow_nil _ _ _ _, (fun _ hk => by simp [Value.ownBlock] at hk), rfl, fun i e x h => by simp at h⟩
theorem SegsO.nil (S : Nat → Prop) (B : Nat) (w : World) : SegsO S B w (.slice none 0 0) [] := ⟨[], World.ownsRow_nil _ _ _ _, (fun _ hk => by simp [Value.ownBlock] at hk), rfl, fun i e x h => by simp at h⟩
theorem CompsO.lies {cs : List Str} (h : CompsO S B w v cs) : CompsAt S w v cs := own_rest (by rw [List.length_map]; exact h.1) h.2
theorem ElemsO.lies {es : List (List Str)} (h : ElemsO S B w v es) : ElemsAt S w v es := by
  obtain ⟨ys, h1, h2, h3, h4⟩ := h
  exact ⟨ys, own_rest (by rw [h3]; exact h1) h2, h3, fun i e x ha hx => (h4 i e x ha hx).lies⟩
theorem SegsO.lies {l : List Seg} (h : SegsO S B w v l) : SegsAt S w v l := by
  obtain ⟨xs, h1, h2, h3, h4⟩ := h
  exact segs_rest h1 h3 h2 (fun i s x ha hx => (h4 i s x ha hx).lies)
end
end Go.Proofs.YtgfijlamhjjecaaGreatDoor


/-
  EdiR: a reader of segments in memory: what each step of it leaves. No condition beyond those stated.
-/
namespace Go.Proofs.YtgfijlamhjjecaaGreatDoor
open Go.RowKit
theorem ty_ne {w : World} {b c : Nat} {C D : Array Value} {t u : TypeId} {f g : Nat × Nat} (h1 : w.heap[b]? = some (.cells C t f)) (h2 : w.heap[c]? = some (.cells D u g)) (h : t ≠ u) : b ≠ c := by
  intro e; subst e; rw [h1] at h2; have h3 := Option.some.inj h2; injection h3 with _ h4; exact h h4
theorem own_ne {w : World} {B B' : Nat} {e e' : TypeId} {s s' n n' : Nat} {v v' : Value} {xs xs' : List Value} (h : w.ownsRow B e s v n xs) (h' : w.ownsRow B' e' s' v' n' xs') (he : e ≠ e') {k : Nat} (hk : v.ownBlock = some k) : v'.ownBlock ≠ some k := fun hk' => by
  obtain ⟨C, h1, _⟩ := own_ty h hk
  obtain ⟨D, h2, _⟩ := own_ty h' hk'
  exact ty_ne h1 h2 he rfl
theorem own_lt {w : World} {B : Nat} {e : TypeId} {s n : Nat} {v : Value} {xs : List Value} (h : w.ownsRow B e s v n xs) {k : Nat} (hk : v.ownBlock = some k) : B ≤ k ∧ k < w.heap.size := by
  obtain ⟨_, _, a, b⟩ := own_ty h hk; exact ⟨a, b⟩
/-- the reader between segments, or within a tag -/
structure RA (S : Nat → Prop) (w : World) (B rb : Nat) (l : List Seg) (lv pv : Value) (xs : List Value) (p : Str) : Prop where
  hB : B ≤ rb
  r : w.heap[rb]? = some (.cells #[lv, pv] 215 (0, 0))
  hp : OwnS w B pv p
  hl : w.ownsRow B 94 2 lv l.length (segCells l xs)
  xl : xs.length = l.length
  hes : ∀ (i : Nat) (s : Seg) (x : Value), l[i]? = some s → xs[i]? = some x → ElemsO S B w x s.elems
  s1 : ∀ k, S k → B ≤ k ∧ k < w.heap.size ∧ k ≠ rb ∧ lv.ownBlock ≠ some k ∧ pv.ownBlock ≠ some k
/-- the reader within a component -/
structure RB (S : Nat → Prop) (w : World) (B rb : Nat) (l : List Seg) (t : Str) (es : List (List Str)) (cs : List Str) (p q : Str) (lv pv ev cv : Value) (xs ys : List Value) : Prop where
  hB : B ≤ rb
  r : w.heap[rb]? = some (.cells #[lv, pv] 215 (0, 0))
  hp : OwnS w B pv q
  hl : w.ownsRow B 94 2 lv (l.length + 1) (segCells l xs ++ [sv t, ev])
  xl : xs.length = l.length
  old : ∀ (i : Nat) (s : Seg) (x : Value), l[i]? = some s → xs[i]? = some x → ElemsO S B w x s.elems
  he : w.ownsRow B 58 1 ev (es.length + 1) (ys ++ [cv])
  yl : ys.length = es.length
  ye : ∀ (i : Nat) (e : List Str) (y : Value), es[i]? = some e → ys[i]? = some y → CompsO S B w y e
  hc : w.ownsRow B 9 1 cv (cs.length + 1) ((cs ++ [p]).map sv)
  s1 : ∀ k, S k → B ≤ k ∧ k < w.heap.size ∧ k ≠ rb ∧ lv.ownBlock ≠ some k ∧ pv.ownBlock ≠ some k ∧ ev.ownBlock ≠ some k ∧ cv.ownBlock ≠ some k
section
variable {S : Nat → Prop} {w w' : World} {B rb : Nat} {l : List Seg} {t : Str} {es : List (List Str)} {cs : List Str} {p q : Str} {lv pv ev cv : Value} {xs ys : List Value}
theorem RA.lt (h : RA S w B rb l lv pv xs p) : rb < w.heap.size := (Array.getElem?_eq_some_iff.1 h.r).1
theorem RB.lt (h : RB S w B rb l t es cs p q lv pv ev cv xs ys) : rb < w.heap.size := (Array.getElem?_eq_some_iff.1 h.r).1
theorem RA.c0 (h : RA S w B rb l lv pv xs p) : w.cell? ⟨rb, 0, none⟩ = some lv := by rw [cell_of_row w rb 0 _ _ _ h.r]; rfl
theorem RA.c1 (h : RA S w B rb l lv pv xs p) : w.cell? ⟨rb, 1, none⟩ = some pv := by rw [cell_of_row w rb 1 _ _ _ h.r]; rfl
theorem RA.fz (h : RA S w B rb l lv pv xs p) (j : Nat) : w.frozen? ⟨rb, j, none⟩ = false := frozen_of_row w rb j _ _ h.r
theorem RB.c0 (h : RB S w B rb l t es cs p q lv pv ev cv xs ys) : w.cell? ⟨rb, 0, none⟩ = some lv := by rw [cell_of_row w rb 0 _ _ _ h.r]; rfl
theorem RB.c1 (h : RB S w B rb l t es cs p q lv pv ev cv xs ys) : w.cell? ⟨rb, 1, none⟩ = some pv := by rw [cell_of_row w rb 1 _ _ _ h.r]; rfl
theorem RB.fz (h : RB S w B rb l t es cs p q lv pv ev cv xs ys) (j : Nat) : w.frozen? ⟨rb, j, none⟩ = false := frozen_of_row w rb j _ _ h.r
theorem own_neR {rb : Nat} {C : Array Value} {f : Nat × Nat} {e : TypeId} {s n : Nat} {v : Value} {zs : List Value} (hr : w.heap[rb]? = some (.cells C 215 f)) (h : w.ownsRow B e s v n zs) (he : e ≠ 215) : v.ownBlock ≠ some rb := fun hk => by
  obtain ⟨D, h1, _⟩ := own_ty h hk
  exact ty_ne h1 hr he rfl
/-- nothing of it has turned -/
theorem RA.keep (h : RA S w B rb l lv pv xs p) (hs : w.heap.size ≤ w'.heap.size) (e : ∀ k, k < w.heap.size → B ≤ k → w'.heap[k]? = w.heap[k]?) : RA S w' B rb l lv pv xs p := by
  refine ⟨h.hB, (e rb h.lt h.hB).trans h.r, own_cong h.hp (fun k hk => e k (own_lt h.hp hk).2 (own_lt h.hp hk).1), own_cong h.hl (fun k hk => e k (own_lt h.hl hk).2 (own_lt h.hl hk).1), h.xl, fun i s x a b => (h.hes i s x a b).cong (fun _ hk => hk) (fun k hk => e k (h.s1 k hk).2.1 (h.s1 k hk).1), fun k hk => ?_⟩
  obtain ⟨a, b, c⟩ := h.s1 k hk
  exact ⟨a, by omega, c⟩
theorem RB.keep (h : RB S w B rb l t es cs p q lv pv ev cv xs ys) (hs : w.heap.size ≤ w'.heap.size) (e : ∀ k, k < w.heap.size → B ≤ k → w'.heap[k]? = w.heap[k]?) : RB S w' B rb l t es cs p q lv pv ev cv xs ys := by
  refine ⟨h.hB, (e rb h.lt h.hB).trans h.r, own_cong h.hp (fun k hk => e k (own_lt h.hp hk).2 (own_lt h.hp hk).1), own_cong h.hl (fun k hk => e k (own_lt h.hl hk).2 (own_lt h.hl hk).1), h.xl, fun i s x a b => (h.old i s x a b).cong (fun _ hk => hk) (fun k hk => e k (h.s1 k hk).2.1 (h.s1 k hk).1),
    own_cong h.he (fun k hk => e k (own_lt h.he hk).2 (own_lt h.he hk).1), h.yl, fun i s x a b => (h.ye i s x a b).cong (fun _ hk => hk) (fun k hk => e k (h.s1 k hk).2.1 (h.s1 k hk).1), own_cong h.hc (fun k hk => e k (own_lt h.hc hk).2 (own_lt h.hc hk).1), fun k hk => ?_⟩
  obtain ⟨a, b, c⟩ := h.s1 k hk
  exact ⟨a, by omega, c⟩
theorem RA.fr0 (h : RA S w B rb l lv pv xs p) (hf : Fr [] w w') : RA S w' B rb l lv pv xs p := h.keep hf.size (fun k hk _ => hf.block k hk (by simp))
theorem RB.fr0 (h : RB S w B rb l t es cs p q lv pv ev cv xs ys) (hf : Fr [] w w') : RB S w' B rb l t es cs p q lv pv ev cv xs ys := h.keep hf.size (fun k hk _ => hf.block k hk (by simp))
/-- part is emptied -/
theorem RA.part (h : RA S w B rb l lv pv xs p) : RA S (w.setCell ⟨rb, 1, none⟩ (.slice none 0 0)) B rb l lv (.slice none 0 0) xs [] := by
  have e : ∀ k, k ≠ rb → (w.setCell ⟨rb, 1, none⟩ (.slice none 0 0)).heap[k]? = w.heap[k]? := fun k hk => heap_setCell_other w _ _ _ hk
  refine ⟨h.hB, by rw [heap_setCell_same w rb 1 _ _ _ h.r]; rfl, World.ownsRow_nil _ _ _ _, own_cong h.hl (fun k hk => e k (fun e => own_neR h.r h.hl (by decide) (e ▸ hk))), h.xl, fun i s x a b => (h.hes i s x a b).cong (fun _ hk => hk) (fun k hk => e k (h.s1 k hk).2.2.1), fun k hk => ?_⟩
  obtain ⟨a, b, c, d, _⟩ := h.s1 k hk
  exact ⟨a, by simpa using b, c, d, by simp [Value.ownBlock]⟩
theorem RB.part (h : RB S w B rb l t es cs p q lv pv ev cv xs ys) : RB S (w.setCell ⟨rb, 1, none⟩ (.slice none 0 0)) B rb l t es cs p [] lv (.slice none 0 0) ev cv xs ys := by
  have e : ∀ k, k ≠ rb → (w.setCell ⟨rb, 1, none⟩ (.slice none 0 0)).heap[k]? = w.heap[k]? := fun k hk => heap_setCell_other w _ _ _ hk
  refine ⟨h.hB, by rw [heap_setCell_same w rb 1 _ _ _ h.r]; rfl, World.ownsRow_nil _ _ _ _, own_cong h.hl (fun k hk => e k (fun e => own_neR h.r h.hl (by decide) (e ▸ hk))), h.xl, fun i s x a b => (h.old i s x a b).cong (fun _ hk => hk) (fun k hk => e k (h.s1 k hk).2.2.1),
    own_cong h.he (fun k hk => e k (fun e => own_neR h.r h.he (by decide) (e ▸ hk))), h.yl, fun i s x a b => (h.ye i s x a b).cong (fun _ hk => hk) (fun k hk => e k (h.s1 k hk).2.2.1), own_cong h.hc (fun k hk => e k (fun e => own_neR h.r h.hc (by decide) (e ▸ hk))), fun k hk => ?_⟩
  obtain ⟨a, b, c, d, _, f⟩ := h.s1 k hk
  exact ⟨a, by simpa using b, c, d, by simp [Value.ownBlock], f⟩
/-- a segment more -/
theorem RA.newseg {w1 : World} {o : Obj} {lv' : Value} (h : RA S w B rb l lv pv xs p) (hg : (w.alloc o).grownBy w1 lv.ownBlock) (hl : w1.ownsRow B 94 2 lv' (l.length + 1) (segCells l xs ++ [sv [], .slice none 0 0])) (hk : lv'.ownBlock = lv.ownBlock ∨ lv'.ownBlock = some (w.alloc o).heap.size) :
    RA S (w1.setCell ⟨rb, 0, none⟩ lv') B rb (l ++ [⟨[], []⟩]) lv' pv (xs ++ [.slice none 0 0]) p := by
  have hsz := hg.size
  have hrb := h.lt
  have e1 : ∀ k, k < w.heap.size → lv.ownBlock ≠ some k → w1.heap[k]? = w.heap[k]? := fun k hk hn => (hg.block k (by simp; omega) (fun e => hn e.symm)).trans (Below.heap_alloc _ _ _ hk)
  have e : ∀ k, k < w.heap.size → lv.ownBlock ≠ some k → k ≠ rb → (w1.setCell ⟨rb, 0, none⟩ lv').heap[k]? = w.heap[k]? := fun k hk hn hr => (heap_setCell_other w1 _ _ _ hr).trans (e1 k hk hn)
  have nlr := own_neR h.r h.hl (by decide)
  have npr := own_neR h.r h.hp (by decide)
  simp at hsz hk
  refine ⟨h.hB, by rw [heap_setCell_same w1 rb 0 _ _ _ ((e1 rb hrb nlr).trans h.r)]; rfl, own_cong h.hp (fun k hk => e k (own_lt h.hp hk).2 (own_ne h.hp h.hl (by decide) hk) (fun e => npr (e ▸ hk))), ?_, by simp [h.xl], fun i s x a b => ?_, fun k hS => ?_⟩
  · rw [List.length_append, List.length_singleton, segCells_app _ _ _ _ h.xl]
    refine own_cong hl (fun k hk' => heap_setCell_other w1 _ _ _ (fun e => ?_))
    subst e
    rcases hk with hk | hk
    · exact nlr (hk ▸ hk')
    · rw [hk] at hk'; have := Option.some.inj hk'; omega
  · rcases Nat.lt_or_ge i l.length with hi | hi
    · rw [List.getElem?_append_left hi] at a
      rw [List.getElem?_append_left (by rw [h.xl]; exact hi)] at b
      exact (h.hes i s x a b).cong (fun _ hk => hk) (fun k hk => e k (h.s1 k hk).2.1 (h.s1 k hk).2.2.2.1 (h.s1 k hk).2.2.1)
    · rw [List.getElem?_append_right hi] at a
      rw [List.getElem?_append_right (by rw [h.xl]; exact hi), h.xl] at b
      have h0 : i - l.length = 0 := by have := (List.getElem?_eq_some_iff.1 a).1; simp at this; omega
      rw [h0] at a b
      simp at a b
      subst a; subst b
      exact ElemsO.nil _ _ _
  · obtain ⟨a, b, c, d, f⟩ := h.s1 k hS
    refine ⟨a, by simp; omega, c, fun e => ?_, f⟩
    rcases hk with hk | hk
    · exact d (hk ▸ e)
    · rw [hk] at e; have := Option.some.inj e; omega
theorem RA.fr_newseg {w1 : World} {o : Obj} {lv' : Value} (h : RA S w B rb l lv pv xs p) (hg : (w.alloc o).grownBy w1 lv.ownBlock) (hB : B ≤ w.heap.size) : Below B w (w1.setCell ⟨rb, 0, none⟩ lv') := by
  have hh := h.hB
  exact ((((Below.refl B w).alloc hB o).grown hg (by simp; omega) (fun k hk => (own_lt h.hl hk).1))).setCell hh lv'
end
end Go.Proofs.YtgfijlamhjjecaaGreatDoor


/-
  EdiR2: a reader of segments in memory: what each further step of it leaves. No condition beyond those stated.
-/
namespace Go.Proofs.YtgfijlamhjjecaaGreatDoor
open Go.RowKit
section
variable {S : Nat → Prop} {w w' : World} {B rb : Nat} {l : List Seg} {t : Str} {es : List (List Str)} {cs : List Str} {p q : Str} {lv pv ev cv : Value} {xs ys : List Value}
theorem set_end {α : Type} (l : List α) (a b : α) (r : List α) : (l ++ a :: r).set l.length b = l ++ b :: r := by
  induction l with
  | nil => rfl
  | cons c l ih => simp only [List.cons_append, List.length_cons, List.set_cons_succ, ih]
theorem set_end1 {α : Type} (l : List α) (x a b : α) (r : List α) : (l ++ x :: a :: r).set (l.length + 1) b = l ++ x :: b :: r := by
  simp
theorem snoc_of {α : Type} {l : List α} {n : Nat} (h : l.length = n + 1) : ∃ l0 a, l = l0 ++ [a] ∧ l0.length = n := by
  have hne : l ≠ [] := by intro e; rw [e] at h; simp at h
  exact ⟨l.dropLast, l.getLast hne, (List.dropLast_concat_getLast hne).symm, by simp; omega⟩
/-- the last segment's row -/
theorem RA.top {s : Seg} (h : RA S w B rb (l ++ [s]) lv pv xs p) : ∃ g cap x xs0, lv = .slice (some ⟨g, 0, none⟩) (l.length + 1) cap ∧ l.length + 1 ≤ cap ∧ cap ≤ maxLen ∧ xs = xs0 ++ [x] ∧ xs0.length = l.length ∧ w.cell? ⟨g, l.length * 2, none⟩ = some (sv s.tag) ∧ w.cell? ⟨g, l.length * 2 + 1, none⟩ = some x ∧ w.frozen? ⟨g, l.length * 2, none⟩ = false ∧ w.frozen? ⟨g, l.length * 2 + 1, none⟩ = false ∧ ElemsO S B w x s.elems := by
  have hl := h.hl
  rw [List.length_append, List.length_singleton] at hl
  obtain ⟨g, cap, cur, rfl, hg, hh, hc, hm, _, _⟩ := own_form hl (by omega) (by omega)
  have hx := h.xl
  rw [List.length_append, List.length_singleton] at hx
  obtain ⟨xs0, x, rfl, hdl⟩ := snoc_of hx
  have hgx : (xs0 ++ [x])[l.length]? = some x := by rw [List.getElem?_append_right (by omega), hdl]; simp
  have key := segCells_get (l ++ [s]) (xs0 ++ [x]) l.length s x (by simp) hgx
  refine ⟨g, cap, x, xs0, rfl, hc, hm, rfl, hdl, own_cell hl key.1, own_cell hl key.2, own_frozen hl _, own_frozen hl _, h.hes l.length s _ (by simp) hgx⟩
/-- the tag of the last segment is set -/
theorem RA.settag {t t' : Str} {g cap : Nat} (h : RA S w B rb (l ++ [⟨t, []⟩]) (.slice (some ⟨g, 0, none⟩) (l.length + 1) cap) pv xs p) : RA S (w.setCell ⟨g, l.length * 2, none⟩ (sv t')) B rb (l ++ [⟨t', []⟩]) (.slice (some ⟨g, 0, none⟩) (l.length + 1) cap) pv xs p := by
  have hl := h.hl
  obtain ⟨g', cap', x, xs0, he, _, _, rfl, hx0, _⟩ := h.top
  cases he
  rw [List.length_append, List.length_singleton] at hl
  have e : ∀ k, k ≠ g → (w.setCell ⟨g, l.length * 2, none⟩ (sv t')).heap[k]? = w.heap[k]? := fun k hk => heap_setCell_other w _ _ _ hk
  have ngr : rb ≠ g := fun e => own_neR h.r hl (by decide) (by rw [e]; rfl)
  have hlen := segCells_len l xs0 hx0
  have hset := own_set hl (j := l.length * 2) (by rw [segCells_app _ _ _ _ hx0, List.length_append, hlen]; simp [segCells]) (sv t')
  have hse : (segCells (l ++ [⟨t, []⟩]) (xs0 ++ [x])).set (l.length * 2) (sv t') = segCells (l ++ [⟨t', []⟩]) (xs0 ++ [x]) := by
    rw [segCells_app _ _ _ _ hx0, segCells_app _ _ _ _ hx0, ← hlen]
    exact set_end _ _ _ _
  rw [hse] at hset
  refine ⟨h.hB, (e rb ngr).trans h.r, own_cong h.hp (fun k hk => e k (fun e => own_ne h.hp hl (by decide) hk (by rw [e]; rfl))), by rw [List.length_append, List.length_singleton]; exact hset, by simp [hx0], fun i s y a b => ?_, fun k hk => ?_⟩
  · have hes : ElemsO S B w y s.elems := by
      rcases Nat.lt_or_ge i l.length with hi | hi
      · exact h.hes i s y (by rw [List.getElem?_append_left hi] at a ⊢; exact a) b
      · have h0 : i = l.length := by have := (List.getElem?_eq_some_iff.1 a).1; simp at this; omega
        subst h0
        have := h.hes l.length ⟨t, []⟩ y (by simp) b
        simp at a
        subst a
        exact this
    exact hes.cong (fun _ hk => hk) (fun k hk => e k (fun e => (h.s1 k hk).2.2.2.1 (by rw [e]; rfl)))
  · obtain ⟨a, b, c⟩ := h.s1 k hk
    exact ⟨a, by simpa using b, c⟩
/-- the open element and component lie at rest -/
theorem RB.close (h : RB S w B rb l t es cs p q lv pv ev cv xs ys) : RA (fun k => S k ∨ ev.ownBlock = some k ∨ cv.ownBlock = some k) w B rb (l ++ [⟨t, es ++ [cs ++ [p]]⟩]) lv pv (xs ++ [ev]) q := by
  refine ⟨h.hB, h.r, h.hp, by rw [List.length_append, List.length_singleton, segCells_app _ _ _ _ h.xl]; exact h.hl, by simp [h.xl], fun i s x a b => ?_, fun k hk => ?_⟩
  · rcases Nat.lt_or_ge i l.length with hi | hi
    · rw [List.getElem?_append_left hi] at a
      rw [List.getElem?_append_left (by rw [h.xl]; exact hi)] at b
      exact (h.old i s x a b).cong (fun _ hk => .inl hk) (fun _ _ => rfl)
    · have h0 : i = l.length := by have := (List.getElem?_eq_some_iff.1 a).1; simp at this; omega
      subst h0
      rw [List.getElem?_append_right (by rw [h.xl]; exact Nat.le_refl _), h.xl, Nat.sub_self] at b
      simp at a b
      subst a; subst b
      refine ⟨ys ++ [cv], (by have := h.he; rw [List.length_append, List.length_singleton]; exact this), (fun k hk => .inr (.inl hk)), by simp [h.yl], fun i e y a b => ?_⟩
      rcases Nat.lt_or_ge i es.length with hi | hi
      · rw [List.getElem?_append_left hi] at a
        rw [List.getElem?_append_left (by rw [h.yl]; exact hi)] at b
        exact (h.ye i e y a b).cong (fun _ hk => .inl hk) (fun _ _ => rfl)
      · have h0 : i = es.length := by have := (List.getElem?_eq_some_iff.1 a).1; simp at this; omega
        subst h0
        rw [List.getElem?_append_right (by rw [h.yl]; exact Nat.le_refl _), h.yl, Nat.sub_self] at b
        simp at a b
        subst a; subst b
        exact ⟨by have := h.hc; rw [List.length_append, List.length_singleton]; exact this, fun k hk => .inr (.inr hk)⟩
  · rcases hk with hk | hk | hk
    · obtain ⟨a, b, c, d, e, _⟩ := h.s1 k hk
      exact ⟨a, b, c, d, e⟩
    · obtain ⟨a, b⟩ := own_lt h.he hk
      exact ⟨a, b, fun e => own_neR h.r h.he (by decide) (e ▸ hk), own_ne h.he h.hl (by decide) hk, own_ne h.he h.hp (by decide) hk⟩
    · obtain ⟨a, b⟩ := own_lt h.hc hk
      exact ⟨a, b, fun e => own_neR h.r h.hc (by decide) (e ▸ hk), own_ne h.hc h.hl (by decide) hk, own_ne h.hc h.hp (by decide) hk⟩
/-- where the open element and component lie -/
theorem RB.tops (h : RB S w B rb l t es cs p q lv pv ev cv xs ys) : ∃ g c1 b c2 d c3, lv = .slice (some ⟨g, 0, none⟩) (l.length + 1) c1 ∧ ev = .slice (some ⟨b, 0, none⟩) (es.length + 1) c2 ∧ cv = .slice (some ⟨d, 0, none⟩) (cs.length + 1) c3 ∧
    l.length + 1 ≤ c1 ∧ c1 ≤ maxLen ∧ es.length + 1 ≤ c2 ∧ c2 ≤ maxLen ∧ cs.length + 1 ≤ c3 ∧ c3 ≤ maxLen ∧
    w.cell? ⟨g, l.length * 2, none⟩ = some (sv t) ∧ w.cell? ⟨g, l.length * 2 + 1, none⟩ = some ev ∧ w.frozen? ⟨g, l.length * 2 + 1, none⟩ = false ∧ w.cell? ⟨b, es.length, none⟩ = some cv ∧ w.frozen? ⟨b, es.length, none⟩ = false ∧ w.cell? ⟨d, cs.length, none⟩ = some (sv p) ∧ w.frozen? ⟨d, cs.length, none⟩ = false := by
  have hl := h.hl
  have he := h.he
  have hc := h.hc
  obtain ⟨g, c1, cur, rfl, _, _, a1, a2, _⟩ := own_form hl (by omega) (by omega)
  obtain ⟨b, c2, cur2, rfl, _, _, b1, b2, _⟩ := own_form he (by omega) (by omega)
  obtain ⟨d, c3, cur3, rfl, _, _, d1, d2, _⟩ := own_form hc (by omega) (by omega)
  have hlen := segCells_len l xs h.xl
  refine ⟨g, c1, b, c2, d, c3, rfl, rfl, rfl, a1, a2, b1, b2, d1, d2, own_cell hl ?_, own_cell hl ?_, own_frozen hl _, own_cell he ?_, own_frozen he _, own_cell hc ?_, own_frozen hc _⟩
  · rw [List.getElem?_append_right (by omega), hlen, Nat.sub_self]; rfl
  · rw [List.getElem?_append_right (by omega), hlen, show l.length * 2 + 1 - l.length * 2 = 1 by omega]; rfl
  · rw [List.getElem?_append_right (by rw [h.yl]; exact Nat.le_refl _), h.yl, Nat.sub_self]; rfl
  · rw [List.map_append, List.getElem?_append_right (by simp), List.length_map, Nat.sub_self]; rfl
end
end Go.Proofs.YtgfijlamhjjecaaGreatDoor


/-
  EdiR3: a reader of segments in memory: elements and components that are begun, bytes that are put. No condition beyond those stated.
-/
namespace Go.Proofs.YtgfijlamhjjecaaGreatDoor
open Go.RowKit
theorem blk_ag {w w1 : World} {o : Obj} {row : Option Nat} (hg : (w.alloc o).grownBy w1 row) {k : Nat} (hk : k < w.heap.size) (hn : row ≠ some k) : w1.heap[k]? = w.heap[k]? :=
  (hg.block k (by simp; omega) (fun e => hn e.symm)).trans (Below.heap_alloc _ _ _ hk)
theorem blk_ag2 {w w1 : World} {o o' : Obj} {row : Option Nat} (hg : ((w.alloc o).alloc o').grownBy w1 row) {k : Nat} (hk : k < w.heap.size) (hn : row ≠ some k) : w1.heap[k]? = w.heap[k]? :=
  (hg.block k (by simp; omega) (fun e => hn e.symm)).trans ((Below.heap_alloc _ _ _ (by simp; omega)).trans (Below.heap_alloc _ _ _ hk))
section
variable {S : Nat → Prop} {w w' : World} {B rb : Nat} {l : List Seg} {t : Str} {es : List (List Str)} {cs : List Str} {p q : Str} {lv pv ev cv : Value} {xs ys : List Value}
/-- a byte more of a part -/
theorem RB.grow {w1 : World} {o : Obj} {pv' : Value} {q' : Str} (h : RB S w B rb l t es cs p q lv pv ev cv xs ys) (hg : (w.alloc o).grownBy w1 pv.ownBlock) (hp' : OwnS w1 B pv' q') (hk : pv'.ownBlock = pv.ownBlock ∨ pv'.ownBlock = some (w.heap.size + 1)) :
    RB S (w1.setCell ⟨rb, 1, none⟩ pv') B rb l t es cs p q' lv pv' ev cv xs ys := by
  have hsz := hg.size
  have hrb := h.lt
  have npr := own_neR h.r h.hp (by decide)
  have e : ∀ k, k < w.heap.size → pv.ownBlock ≠ some k → k ≠ rb → (w1.setCell ⟨rb, 1, none⟩ pv').heap[k]? = w.heap[k]? := fun k hk hn hr => (heap_setCell_other w1 _ _ _ hr).trans (blk_ag hg hk hn)
  simp at hsz
  have own : ∀ {T : TypeId} {s n : Nat} {v : Value} {zs : List Value}, w.ownsRow B T s v n zs → T ≠ 5 → T ≠ 215 → (w1.setCell ⟨rb, 1, none⟩ pv').ownsRow B T s v n zs := fun ho h1 h2 =>
    own_cong ho (fun k hk => e k (own_lt ho hk).2 (own_ne ho h.hp h1 hk) (fun e => own_neR h.r ho h2 (e ▸ hk)))
  refine ⟨h.hB, by rw [heap_setCell_same w1 rb 1 _ _ _ ((blk_ag hg hrb npr).trans h.r)]; rfl, own_cong hp' (fun k hk' => heap_setCell_other w1 _ _ _ (fun e => ?_)), own h.hl (by decide) (by decide), h.xl, fun i s x a b => (h.old i s x a b).cong (fun _ hk => hk) (fun k hk => e k (h.s1 k hk).2.1 (h.s1 k hk).2.2.2.2.1 (h.s1 k hk).2.2.1),
    own h.he (by decide) (by decide), h.yl, fun i s x a b => (h.ye i s x a b).cong (fun _ hk => hk) (fun k hk => e k (h.s1 k hk).2.1 (h.s1 k hk).2.2.2.2.1 (h.s1 k hk).2.2.1), own h.hc (by decide) (by decide), fun k hS => ?_⟩
  · subst e
    rcases hk with hk | hk
    · exact npr (hk ▸ hk')
    · rw [hk] at hk'; have := Option.some.inj hk'; omega
  · obtain ⟨a, b, c, d, f, g⟩ := h.s1 k hS
    refine ⟨a, by simp; omega, c, d, fun e => ?_, g⟩
    rcases hk with hk | hk
    · exact f (hk ▸ e)
    · rw [hk] at e; have := Option.some.inj e; omega
/-- the open component is set -/
theorem RB.setlast {d c3 : Nat} {p' : Str} (h : RB S w B rb l t es cs p q lv pv ev (.slice (some ⟨d, 0, none⟩) (cs.length + 1) c3) xs ys) : RB S (w.setCell ⟨d, cs.length, none⟩ (sv p')) B rb l t es cs p' q lv pv ev (.slice (some ⟨d, 0, none⟩) (cs.length + 1) c3) xs ys := by
  have e : ∀ k, k ≠ d → (w.setCell ⟨d, cs.length, none⟩ (sv p')).heap[k]? = w.heap[k]? := fun k hk => heap_setCell_other w _ _ _ hk
  have own : ∀ {T : TypeId} {s n : Nat} {v : Value} {zs : List Value}, w.ownsRow B T s v n zs → T ≠ 9 → (w.setCell ⟨d, cs.length, none⟩ (sv p')).ownsRow B T s v n zs := fun ho h1 =>
    own_cong ho (fun k hk => e k (fun e => own_ne ho h.hc h1 hk (by rw [e]; rfl)))
  have hset := own_set h.hc (j := cs.length) (by simp) (sv p')
  have hse : ((cs ++ [p]).map sv).set cs.length (sv p') = (cs ++ [p']).map sv := by
    rw [List.map_append, List.map_append]
    have h1 := set_end (cs.map sv) (sv p) (sv p') []
    rw [List.length_map] at h1
    exact h1
  rw [hse] at hset
  refine ⟨h.hB, (e rb (fun e => own_neR h.r h.hc (by decide) (by rw [e]; rfl))).trans h.r, own h.hp (by decide), own h.hl (by decide), h.xl, fun i s x a b => (h.old i s x a b).cong (fun _ hk => hk) (fun k hk => e k (fun e => (h.s1 k hk).2.2.2.2.2.2 (by rw [e]; rfl))),
    own h.he (by decide), h.yl, fun i s x a b => (h.ye i s x a b).cong (fun _ hk => hk) (fun k hk => e k (fun e => (h.s1 k hk).2.2.2.2.2.2 (by rw [e]; rfl))), hset, fun k hS => ?_⟩
  obtain ⟨a, b, c⟩ := h.s1 k hS
  exact ⟨a, by simpa using b, c⟩
/-- a component is begun -/
theorem RB.colon {w1 : World} {o : Obj} {b c2 : Nat} {cv' : Value} (h : RB S w B rb l t es cs p q lv pv (.slice (some ⟨b, 0, none⟩) (es.length + 1) c2) cv xs ys) (hg : (w.alloc o).grownBy w1 cv.ownBlock) (hc' : w1.ownsRow B 9 1 cv' (cs.length + 1 + 1) ((cs ++ [p]).map sv ++ [sv []])) (hk : cv'.ownBlock = cv.ownBlock ∨ cv'.ownBlock = some (w.heap.size + 1)) :
    RB S (w1.setCell ⟨b, es.length, none⟩ cv') B rb l t es (cs ++ [p]) [] q lv pv (.slice (some ⟨b, 0, none⟩) (es.length + 1) c2) cv' xs ys := by
  have hsz := hg.size
  have hrb := h.lt
  simp at hsz
  have hbl := own_lt h.he (k := b) rfl
  have ncb : cv.ownBlock ≠ some b := fun e => own_ne h.hc h.he (by decide) e rfl
  have ncr := own_neR h.r h.hc (by decide)
  have e1 : ∀ k, k < w.heap.size → cv.ownBlock ≠ some k → w1.heap[k]? = w.heap[k]? := fun k hk hn => blk_ag hg hk hn
  have e : ∀ k, k < w.heap.size → cv.ownBlock ≠ some k → k ≠ b → (w1.setCell ⟨b, es.length, none⟩ cv').heap[k]? = w.heap[k]? := fun k hk hn hr => (heap_setCell_other w1 _ _ _ hr).trans (e1 k hk hn)
  have own : ∀ {T : TypeId} {s n : Nat} {v : Value} {zs : List Value}, w.ownsRow B T s v n zs → T ≠ 9 → T ≠ 58 → (w1.setCell ⟨b, es.length, none⟩ cv').ownsRow B T s v n zs := fun ho h1 h2 =>
    own_cong ho (fun k hk => e k (own_lt ho hk).2 (own_ne ho h.hc h1 hk) (fun e => own_ne ho h.he h2 hk (by rw [e]; rfl)))
  have he1 : w1.ownsRow B 58 1 (.slice (some ⟨b, 0, none⟩) (es.length + 1) c2) (es.length + 1) (ys ++ [cv]) := own_cong h.he (fun k hk => by cases hk; exact e1 b hbl.2 ncb)
  have hset := own_set he1 (j := es.length) (by simp [h.yl]) cv'
  have hse : (ys ++ [cv]).set es.length cv' = ys ++ [cv'] := by
    have h1 := set_end ys cv cv' []
    rw [h.yl] at h1; exact h1
  rw [hse] at hset
  refine ⟨h.hB, (e rb hrb ncr (fun e => own_neR h.r h.he (by decide) (by rw [e]; rfl))).trans h.r, own h.hp (by decide) (by decide), own h.hl (by decide) (by decide), h.xl, fun i s x a b => (h.old i s x a b).cong (fun _ hk => hk) (fun k hk => e k (h.s1 k hk).2.1 (h.s1 k hk).2.2.2.2.2.2 (fun e => (h.s1 k hk).2.2.2.2.2.1 (by rw [e]; rfl))),
    hset, h.yl, fun i s x a b => (h.ye i s x a b).cong (fun _ hk => hk) (fun k hk => e k (h.s1 k hk).2.1 (h.s1 k hk).2.2.2.2.2.2 (fun e => (h.s1 k hk).2.2.2.2.2.1 (by rw [e]; rfl))), ?_, fun k hS => ?_⟩
  · rw [List.length_append, List.length_singleton, List.map_append]
    refine own_cong hc' (fun k hk' => heap_setCell_other w1 _ _ _ (fun e => ?_))
    have e' : k = b := e
    rw [e'] at hk'
    rcases hk with hk | hk
    · exact ncb (hk ▸ hk')
    · rw [hk] at hk'; have h1 := Option.some.inj hk'; omega
  · obtain ⟨a, b', c, d, f, g, i⟩ := h.s1 k hS
    refine ⟨a, by simp; omega, c, d, f, g, fun e => ?_⟩
    rcases hk with hk | hk
    · exact i (hk ▸ e)
    · rw [hk] at e; have := Option.some.inj e; omega
/-- an element is begun behind another -/
theorem RB.next {w1 : World} {g c1 : Nat} {ev' : Value} {o o' : Obj} (ho : o = .cells #[sv []] 9 (0, 0)) (_ho' : o' = .cells #[.slice (some ⟨w.heap.size, 0, none⟩) 1 1] 58 (0, 0)) (h : RB S w B rb l t es cs p q (.slice (some ⟨g, 0, none⟩) (l.length + 1) c1) pv ev cv xs ys) (hB : B ≤ w.heap.size) (hg : ((w.alloc o).alloc o').grownBy w1 ev.ownBlock)
    (he' : w1.ownsRow B 58 1 ev' (es.length + 1 + 1) (ys ++ [cv] ++ [.slice (some ⟨w.heap.size, 0, none⟩) 1 1])) (hk : ev'.ownBlock = ev.ownBlock ∨ ev'.ownBlock = some (w.heap.size + 2)) :
    RB (fun k => S k ∨ cv.ownBlock = some k) (w1.setCell ⟨g, l.length * 2 + 1, none⟩ ev') B rb l t (es ++ [cs ++ [p]]) [] [] q (.slice (some ⟨g, 0, none⟩) (l.length + 1) c1) pv ev' (.slice (some ⟨w.heap.size, 0, none⟩) 1 1) xs (ys ++ [cv]) := by
  have hsz := hg.size
  have hrb := h.lt
  simp at hsz
  have hgl := own_lt h.hl (k := g) rfl
  have neg : ev.ownBlock ≠ some g := fun e => own_ne h.he h.hl (by decide) e rfl
  have ner := own_neR h.r h.he (by decide)
  have e1 : ∀ k, k < w.heap.size → ev.ownBlock ≠ some k → w1.heap[k]? = w.heap[k]? := fun k hk hn => blk_ag2 hg hk hn
  have e : ∀ k, k < w.heap.size → ev.ownBlock ≠ some k → k ≠ g → (w1.setCell ⟨g, l.length * 2 + 1, none⟩ ev').heap[k]? = w.heap[k]? := fun k hk hn hr => (heap_setCell_other w1 _ _ _ hr).trans (e1 k hk hn)
  have own : ∀ {T : TypeId} {s n : Nat} {v : Value} {zs : List Value}, w.ownsRow B T s v n zs → T ≠ 58 → T ≠ 94 → (w1.setCell ⟨g, l.length * 2 + 1, none⟩ ev').ownsRow B T s v n zs := fun ho h1 h2 =>
    own_cong ho (fun k hk => e k (own_lt ho hk).2 (own_ne ho h.he h1 hk) (fun e => own_ne ho h.hl h2 hk (by rw [e]; rfl)))
  have hl1 := own_cong h.hl (w' := w1) (fun k hk => by cases hk; exact e1 g hgl.2 neg)
  have hlen := segCells_len l xs h.xl
  have hset := own_set hl1 (j := l.length * 2 + 1) (by rw [List.length_append, hlen]; show l.length * 2 + 1 < l.length * 2 + 2; omega) ev'
  have hse : (segCells l xs ++ [sv t, ev]).set (l.length * 2 + 1) ev' = segCells l xs ++ [sv t, ev'] := by
    have h1 := set_end1 (segCells l xs) (sv t) ev ev' []
    rw [hlen] at h1; exact h1
  rw [hse] at hset
  have hnew : (w1.setCell ⟨g, l.length * 2 + 1, none⟩ ev').heap[w.heap.size]? = some (.cells #[sv []] 9 (0, 0)) := by
    refine (heap_setCell_other w1 _ _ _ (by show w.heap.size ≠ g; omega)).trans ((hg.block w.heap.size (by simp; omega) (fun e => ?_)).trans ((Below.heap_alloc _ _ _ (by simp)).trans (by rw [ho]; exact heap_alloc_new _ _)))
    have := (own_lt h.he e.symm).2; omega
  have hcc : (w1.setCell ⟨g, l.length * 2 + 1, none⟩ ev').ownsRow B 9 1 (.slice (some ⟨w.heap.size, 0, none⟩) 1 1) 1 [sv []] :=
    ⟨rfl, .inr ⟨w.heap.size, 1, _, rfl, hB, hnew, Nat.le_refl _, by unfold maxLen; omega, rfl, rfl⟩⟩
  refine ⟨h.hB, (e rb hrb ner (fun e => own_neR h.r h.hl (by decide) (by rw [e]; rfl))).trans h.r, own h.hp (by decide) (by decide), hset, h.xl, fun i s x a b => (h.old i s x a b).cong (fun _ hk => .inl hk) (fun k hk => e k (h.s1 k hk).2.1 (h.s1 k hk).2.2.2.2.2.1 (fun e => (h.s1 k hk).2.2.2.1 (by rw [e]; rfl))),
    ?_, by simp [h.yl], fun i f y a b => ?_, hcc, fun k hS => ?_⟩
  · rw [List.length_append, List.length_singleton]
    refine own_cong he' (fun k hk' => heap_setCell_other w1 _ _ _ (fun e => ?_))
    have e' : k = g := e
    rw [e'] at hk'
    rcases hk with hk | hk
    · exact neg (hk ▸ hk')
    · rw [hk] at hk'; have h1 := Option.some.inj hk'; omega
  · rcases Nat.lt_or_ge i es.length with hi | hi
    · rw [List.getElem?_append_left hi] at a
      rw [List.getElem?_append_left (by rw [h.yl]; exact hi)] at b
      exact (h.ye i f y a b).cong (fun _ hk => .inl hk) (fun k hk => e k (h.s1 k hk).2.1 (h.s1 k hk).2.2.2.2.2.1 (fun e => (h.s1 k hk).2.2.2.1 (by rw [e]; rfl)))
    · have h0 : i = es.length := by have := (List.getElem?_eq_some_iff.1 a).1; simp at this; omega
      subst h0
      rw [List.getElem?_append_right (by rw [h.yl]; exact Nat.le_refl _), h.yl, Nat.sub_self] at b
      simp at a b
      subst a; subst b
      have hc2 := own h.hc (by decide) (by decide)
      exact ⟨by rw [List.length_append, List.length_singleton]; exact hc2, fun k hk => .inr hk⟩
  · rcases hS with hS | hS
    · obtain ⟨a, b', c, d, f, i, j⟩ := h.s1 k hS
      refine ⟨a, by simp; omega, c, d, f, fun e => ?_, fun e => ?_⟩
      · rcases hk with hk | hk
        · exact i (hk ▸ e)
        · rw [hk] at e; have := Option.some.inj e; omega
      · have h1 : w.heap.size = k := by simpa [Value.ownBlock] using e
        omega
    · obtain ⟨a, b'⟩ := own_lt h.hc hS
      refine ⟨a, by simp; omega, fun e => own_neR h.r h.hc (by decide) (e ▸ hS), own_ne h.hc h.hl (by decide) hS, own_ne h.hc h.hp (by decide) hS, fun e => ?_, fun e => ?_⟩
      · rcases hk with hk | hk
        · exact own_ne h.hc h.he (by decide) hS (hk ▸ e)
        · rw [hk] at e; have := Option.some.inj e; omega
      · have h1 : w.heap.size = k := by simpa [Value.ownBlock] using e
        omega
/-- the first element is begun -/
theorem RA.open {w1 : World} {g c1 : Nat} {ev' : Value} {o o' : Obj} {xs0 : List Value} (ho : o = .cells #[sv []] 9 (0, 0)) (_ho' : o' = .cells #[.slice (some ⟨w.heap.size, 0, none⟩) 1 1] 58 (0, 0)) (h : RA S w B rb (l ++ [⟨t, []⟩]) (.slice (some ⟨g, 0, none⟩) (l.length + 1) c1) pv (xs0 ++ [.slice none 0 0]) p) (hB : B ≤ w.heap.size) (hg : ((w.alloc o).alloc o').grownBy w1 none)
    (he' : w1.ownsRow B 58 1 ev' 1 [.slice (some ⟨w.heap.size, 0, none⟩) 1 1]) (hk : ev'.ownBlock = none ∨ ev'.ownBlock = some (w.heap.size + 2)) :
    RB S (w1.setCell ⟨g, l.length * 2 + 1, none⟩ ev') B rb l t [] [] [] p (.slice (some ⟨g, 0, none⟩) (l.length + 1) c1) pv ev' (.slice (some ⟨w.heap.size, 0, none⟩) 1 1) xs0 [] := by
  have hl := h.hl
  have hx0 : xs0.length = l.length := by have := h.xl; simpa using this
  rw [List.length_append, List.length_singleton, segCells_app _ _ _ _ hx0] at hl
  have hsz := hg.size
  have hrb := h.lt
  simp at hsz
  have hgl := own_lt hl (k := g) rfl
  have e1 : ∀ k, k < w.heap.size → w1.heap[k]? = w.heap[k]? := fun k hk => blk_ag2 hg hk (by simp)
  have e : ∀ k, k < w.heap.size → k ≠ g → (w1.setCell ⟨g, l.length * 2 + 1, none⟩ ev').heap[k]? = w.heap[k]? := fun k hk hr => (heap_setCell_other w1 _ _ _ hr).trans (e1 k hk)
  have hl1 := own_cong hl (w' := w1) (fun k hk => by cases hk; exact e1 g hgl.2)
  have hlen := segCells_len l xs0 hx0
  have hset := own_set hl1 (j := l.length * 2 + 1) (by rw [List.length_append, hlen]; show l.length * 2 + 1 < l.length * 2 + 2; omega) ev'
  have hse : (segCells l xs0 ++ segCells [⟨t, []⟩] [.slice none 0 0]).set (l.length * 2 + 1) ev' = segCells l xs0 ++ [sv t, ev'] := by
    have h1 := set_end1 (segCells l xs0) (sv t) (.slice none 0 0) ev' []
    rw [hlen] at h1; exact h1
  rw [hse] at hset
  have hnew : (w1.setCell ⟨g, l.length * 2 + 1, none⟩ ev').heap[w.heap.size]? = some (.cells #[sv []] 9 (0, 0)) :=
    (heap_setCell_other w1 _ _ _ (by show w.heap.size ≠ g; omega)).trans ((hg.block w.heap.size (by simp; omega) (by simp)).trans ((Below.heap_alloc _ _ _ (by simp)).trans (by rw [ho]; exact heap_alloc_new _ _)))
  have hcc : (w1.setCell ⟨g, l.length * 2 + 1, none⟩ ev').ownsRow B 9 1 (.slice (some ⟨w.heap.size, 0, none⟩) 1 1) 1 [sv []] :=
    ⟨rfl, .inr ⟨w.heap.size, 1, _, rfl, hB, hnew, Nat.le_refl _, by unfold maxLen; omega, rfl, rfl⟩⟩
  refine ⟨h.hB, (e rb hrb (fun e => own_neR h.r hl (by decide) (by rw [e]; rfl))).trans h.r, own_cong h.hp (fun k hk => e k (own_lt h.hp hk).2 (fun e => own_ne h.hp hl (by decide) hk (by rw [e]; rfl))), hset, hx0, fun i s x a b => ?_,
    ?_, rfl, fun i f y a b => by simp at a, hcc, fun k hS => ?_⟩
  · have hi : i < l.length := (List.getElem?_eq_some_iff.1 a).1
    have h1 := h.hes i s x (by rw [List.getElem?_append_left hi]; exact a) (by rw [List.getElem?_append_left (by omega)]; exact b)
    exact h1.cong (fun _ hk => hk) (fun k hk => e k (h.s1 k hk).2.1 (fun e => (h.s1 k hk).2.2.2.1 (by rw [e]; rfl)))
  · refine own_cong he' (fun k hk' => heap_setCell_other w1 _ _ _ (fun e => ?_))
    have e' : k = g := e
    rw [e'] at hk'
    rcases hk with hk | hk
    · rw [hk] at hk'; cases hk'
    · rw [hk] at hk'; have h1 := Option.some.inj hk'; omega
  · obtain ⟨a, b', c, d, f⟩ := h.s1 k hS
    refine ⟨a, by simp; omega, c, d, f, fun e => ?_, fun e => ?_⟩
    · rcases hk with hk | hk
      · rw [hk] at e; cases e
      · rw [hk] at e; have := Option.some.inj e; omega
    · have h1 : w.heap.size = k := by simpa [Value.ownBlock] using e
      omega
end
end Go.Proofs.YtgfijlamhjjecaaGreatDoor


/-
  EdiF: contracts of the reader's small functions. No condition beyond those stated.
-/
namespace Go.Proofs.YtgfijlamhjjecaaGreatDoor
open Go.RowKit
set_option maxHeartbeats 1000000 in
theorem tagged_any (c : UInt8) (w : World) : Calls Tryz.prog 134 #[.int .u8 (c.toNat : Int)] w fun e w' => e = .returned (.bool (tagB c)) ∧ w = w' := by
  have hE : tagB c = ((decide (65 ≤ c.toNat) && decide (c.toNat ≤ 90)) || (decide (48 ≤ c.toNat) && decide (c.toNat ≤ 57))) := rfl
  have HE := Lib.hid hE
  obtain ⟨n, hn⟩ : ∃ n : Nat, c.toNat = n := ⟨_, rfl⟩
  rw [hn] at HE ⊢
  clear hE hn
  by_cases h1 : 65 ≤ n
  · have d1 : decide ((65 : Int) ≤ (n : Int)) = true := by rw [decide_eq_true_eq]; omega
    by_cases h2 : n ≤ 90
    · have d2 : decide ((n : Int) ≤ 90) = true := by rw [decide_eq_true_eq]; omega
      go_enter Tryz.func134, Tryz.ntmps134
      go_wp2_with fail
      go_ret
      exact ⟨by rw [HE.out]; simp [h1, h2], rfl⟩
    · have d2 : decide ((n : Int) ≤ 90) = false := by rw [decide_eq_false_iff_not]; omega
      have d3 : decide ((48 : Int) ≤ (n : Int)) = true := by rw [decide_eq_true_eq]; omega
      have d4 : decide ((n : Int) ≤ 57) = false := by rw [decide_eq_false_iff_not]; omega
      go_enter Tryz.func134, Tryz.ntmps134
      go_wp2_with fail
      go_ret
      exact ⟨by rw [HE.out]; simp; omega, rfl⟩
  · have d1 : decide ((65 : Int) ≤ (n : Int)) = false := by rw [decide_eq_false_iff_not]; omega
    by_cases h3 : 48 ≤ n
    · have d3 : decide ((48 : Int) ≤ (n : Int)) = true := by rw [decide_eq_true_eq]; omega
      by_cases h4 : n ≤ 57
      · have d4 : decide ((n : Int) ≤ 57) = true := by rw [decide_eq_true_eq]; omega
        go_enter Tryz.func134, Tryz.ntmps134
        go_wp2_with fail
        go_ret
        exact ⟨by rw [HE.out]; simp [h3, h4], rfl⟩
      · have d4 : decide ((n : Int) ≤ 57) = false := by rw [decide_eq_false_iff_not]; omega
        go_enter Tryz.func134, Tryz.ntmps134
        go_wp2_with fail
        go_ret
        exact ⟨by rw [HE.out]; simp [h1, h4], rfl⟩
    · have d3 : decide ((48 : Int) ≤ (n : Int)) = false := by rw [decide_eq_false_iff_not]; omega
      go_enter Tryz.func134, Tryz.ntmps134
      go_wp2_with fail
      go_ret
      exact ⟨by rw [HE.out]; simp [h1, h3], rfl⟩
set_option maxHeartbeats 1000000 in
theorem top_any (rb g n cap : Nat) (w : World) (h : w.cell? ⟨rb, 0, none⟩ = some (.slice (some ⟨g, 0, none⟩) (n + 1) cap)) (hn : n + 1 ≤ cap) (hc : cap ≤ maxLen) : Calls Tryz.prog 186 #[.pointer (some ⟨rb, 0, none⟩)] w fun e w' => e = .returned (.pointer (some ⟨g, n * 2, none⟩)) ∧ w.drew = w' := by
  unfold maxLen at hc
  have hw : IntKind.i64.wrap ((n : Int) + 1 - 1) = (n : Int) := by rw [show (n : Int) + 1 - 1 = (n : Int) by omega]; exact IntWalk.i64_in _ (by omega)
  have hw2 : IntKind.i64.wrap (n : Int) = (n : Int) := IntWalk.i64_in _ (by omega)
  have h0 : (0 : Int) ≤ (n : Int) := by omega
  have h1 : (n : Int) < (n : Int) + 1 := by omega
  go_enter Tryz.func186, Tryz.ntmps186
  go_wp2_with fail
  refine wp_region_plan [(0, false), (1, false), (2, false), (3, false), (4, false), (5, false), (6, false), (7, false), (8, false), (9, false), (10, false), (11, false)] (fun w' => w'.cell? ⟨rb, 0, none⟩ = some (.slice (some ⟨g, 0, none⟩) (n + 1) cap)) (by kernel_rfl) (by kernel_rfl) h ?_
  iterate 12 (refine' plan_val rfl rfl (fun w' hS => ?_) ?_; rotate_left; (focus (go_simp; rfl)); simp only [Act.put, List.setIfInBounds_toArray, List.set_cons_zero, List.set_cons_succ])
  refine plan_nil ?_
  go_wp2_with fail
  go_ret
  exact ⟨rfl, rfl⟩
end Go.Proofs.YtgfijlamhjjecaaGreatDoor


/-
  EdiX: contracts of ContainsFunc at the printer's closure. No condition beyond those stated.
-/
namespace Go.Proofs.YtgfijlamhjjecaaGreatDoor
open Go.RowKit
/-- bytes in a row of cells -/
def BytesL (w : World) (b : Nat) (l : Str) : Prop := ∀ (j : Nat) (c : UInt8), l[j]? = some c → w.cell? ⟨b, j, none⟩ = some (bv c)
def badV : Value := .func (.func 137) #[] #[]
set_option maxHeartbeats 1000000 in
theorem bad_any (c : UInt8) (w : World) : Calls Tryz.prog 137 #[.int .u8 (c.toNat : Int)] w fun e w' => e = .returned (.bool (badB c)) ∧ w = w' := by
  have hE : badB c = (decide (c.toNat < 32) || decide (126 < c.toNat)) := rfl
  have HE := Lib.hid hE
  obtain ⟨n, hn⟩ : ∃ n : Nat, c.toNat = n := ⟨_, rfl⟩
  rw [hn] at HE ⊢
  clear hE hn
  by_cases h1 : n < 32
  · have d1 : decide ((n : Int) < 32) = true := by rw [decide_eq_true_eq]; omega
    go_enter Tryz.func137, Tryz.ntmps137
    go_wp2_with fail
    go_ret
    exact ⟨by rw [HE.out]; simp [h1], rfl⟩
  · have d1 : decide ((n : Int) < 32) = false := by rw [decide_eq_false_iff_not]; omega
    by_cases h2 : 126 < n
    · have d2 : decide ((126 : Int) < (n : Int)) = true := by rw [decide_eq_true_eq]; omega
      go_enter Tryz.func137, Tryz.ntmps137
      go_wp2_with fail
      go_ret
      exact ⟨by rw [HE.out]; simp [h2], rfl⟩
    · have d2 : decide ((126 : Int) < (n : Int)) = false := by rw [decide_eq_false_iff_not]; omega
      go_enter Tryz.func137, Tryz.ntmps137
      go_wp2_with fail
      go_ret
      exact ⟨by rw [HE.out]; simp [h1, h2], rfl⟩
theorem any_take_false {l : Str} {k : Nat} (h : (l.take k).any badB = false) {c : UInt8} (hc : l[k]? = some c) (hb : badB c = false) : (l.take (k + 1)).any badB = false := by
  rw [List.take_add_one, hc, List.any_append, h]; simp [hb]
set_option maxHeartbeats 2000000 in
theorem index_any (w : World) (b cap : Nat) (l : Str) (hl : l.length ≤ 4294967281) (h : BytesL w b l) : Calls Tryz.prog 163 #[.slice (some ⟨b, 0, none⟩) l.length cap, badV] w fun e w' => (∃ k : Int, e = .returned (.int .i64 k) ∧ (0 ≤ k ↔ l.any badB = true)) ∧ w = w' := by
  have HL := Lib.hid h
  clear h
  obtain ⟨N, hN⟩ : ∃ N, l.length = N := ⟨_, rfl⟩
  have HN := Lib.hid hN
  rw [hN] at hl ⊢
  clear hN
  unfold badV
  go_enter Tryz.func163, Tryz.ntmps163
  go_wp2_with fail
  go_loop [8] (fun i => ∃ k : Nat, k ≤ N ∧ i = .int .i64 k ∧ Hid ((l.take k).any badB = false)) (fun i => N - (intOf i).toNat)
  case atStart => exact ⟨0, Nat.zero_le _, rfl, Lib.hid (by simp)⟩
  case round =>
    obtain ⟨k, hk, rfl, hd⟩ := hrel
    by_cases hlt : k < N
    · obtain ⟨c, hc⟩ : ∃ c, l[k]? = some c := ⟨_, List.getElem?_eq_getElem (by rw [HN.out]; exact hlt)⟩
      have hcell := HL.out k c hc
      unfold bv at hcell
      have HC := Lib.hid hc
      clear hc
      cases hb : badB c with
      | true =>
        have HB := Lib.hid hb
        clear hb
        have hcall := fun w => (bad_any c w)
        rw [HB.out] at hcall
        have HCA := Lib.hid hcall
        clear hcall
        go_wp2_with (go_at_call 137; refine (HCA.out _).mono ?_; rintro e w' ⟨rfl, rfl⟩)
        go_ret
        refine ⟨⟨_, rfl, ?_⟩, rfl⟩
        refine ⟨fun _ => List.any_eq_true.2 ⟨c, List.mem_of_getElem? HC.out, HB.out⟩, fun _ => by omega⟩
      | false =>
        have HB := Lib.hid hb
        clear hb
        have hcall := fun w => (bad_any c w)
        rw [HB.out] at hcall
        have HCA := Lib.hid hcall
        clear hcall
        go_wp2_with (go_at_call 137; refine (HCA.out _).mono ?_; rintro e w' ⟨rfl, rfl⟩)
        go_round
        case rel => exact ⟨k + 1, by omega, by go_num, Lib.hid (any_take_false hd.out HC.out HB.out)⟩
        case measure => simp [intOf]; omega
    · go_wp2_with fail
      go_ret
      have e : l.take k = l := List.take_of_length_le (by rw [HN.out]; omega)
      have hd' := hd.out
      rw [e] at hd'
      rw [List.any_eq_false] at hd'
      exact ⟨⟨-1, rfl, ⟨fun h => by omega, fun h => by obtain ⟨x, hx, hb⟩ := List.any_eq_true.1 (by simpa using h); exact absurd hb (hd' x hx)⟩⟩, rfl⟩
set_option maxHeartbeats 1000000 in
theorem contains_any (w : World) (b cap : Nat) (l : Str) (hl : l.length ≤ 4294967281) (h : BytesL w b l) : Calls Tryz.prog 136 #[.slice (some ⟨b, 0, none⟩) l.length cap, badV] w fun e w' => e = .returned (.bool (l.any badB)) ∧ w = w' := by
  obtain ⟨N, hN⟩ : ∃ N, l.length = N := ⟨_, rfl⟩
  have HI := Lib.hid (index_any w b cap l hl h)
  rw [hN] at HI ⊢
  obtain ⟨A, hA⟩ : ∃ A, l.any badB = A := ⟨_, rfl⟩
  rw [hA] at HI ⊢
  clear h hN hA
  unfold badV at *
  go_enter Tryz.func136, Tryz.ntmps136
  go_wp2_with (go_at_call 163; refine HI.out.mono ?_; rintro e w' ⟨⟨k, rfl, hk⟩, rfl⟩; have HK := Lib.hid hk; clear hk)
  go_ret
  have e : decide (0 ≤ k) = A := by rw [Bool.eq_iff_iff, decide_eq_true_eq]; exact HK.out
  exact ⟨congrArg (fun b => Ending.returned (Value.bool b)) e, rfl⟩
end Go.Proofs.YtgfijlamhjjecaaGreatDoor


/-
  EdiG: contracts of sign. No condition beyond those stated.
-/
namespace Go.Proofs.YtgfijlamhjjecaaGreatDoor
open Go.RowKit
theorem cell_one_new2 (w : World) (o : Obj) (x : Value) (t : TypeId) : ∀ (j : Nat) (u : Value), [x][j]? = some u → ((w.alloc o).alloc (.cells #[x] t)).cell? ((⟨w.heap.size + 1, 0, none⟩ : Addr).add j) = some u := by
  intro j u hj
  have h := cell_one_new (w.alloc o) x t j u hj
  rw [World.size_alloc] at h
  exact h
theorem fz_ag {w w1 : World} {g j : Nat} (e : w1.heap[g]? = w.heap[g]?) : w1.frozen? ⟨g, j, none⟩ = w.frozen? ⟨g, j, none⟩ := by simp [World.frozen?, e]
theorem cell_ag {w w1 : World} {g j : Nat} (e : w1.heap[g]? = w.heap[g]?) : w1.cell? ⟨g, j, none⟩ = w.cell? ⟨g, j, none⟩ := World.cell?_of_block (a := ⟨g, j, none⟩) e
/-- a method of the reader as a value -/
def fnV (rb f : Nat) : Value := .func (.func f) #[.pointer (some ⟨rb, 0, none⟩)] #[]
section
variable {S : Nat → Prop} {w : World} {B rb : Nat} {l : List Seg} {t : Str} {es : List (List Str)} {cs : List Str} {p q : Str} {lv pv ev cv : Value} {xs ys : List Value}
set_option maxRecDepth 100000 in
set_option maxHeartbeats 2000000 in
theorem sign_A39 {s : Seg} (h : RA S w B rb (l ++ [s]) lv pv xs p) (_hB : B ≤ w.heap.size) : Calls Tryz.prog 197 #[.pointer (some ⟨rb, 0, none⟩), .int .u8 39] w fun e w' => e = .returned (.tuple #[fnV rb 144, .int .i64 0]) ∧ RA S w' B rb (l ++ [s]) lv (.slice none 0 0) xs [] ∧ Below B w w' := by
  obtain ⟨g, cap, x, xs0, rfl, hc1, hc2, rfl, hx0, k1, k2, z1, z2, _⟩ := h.top
  have c0 := h.c0
  have c1 := h.c1
  have f1 := h.fz 1
  have H := Lib.hid h
  have hrB := h.hB
  clear h k1 k2 z1 z2
  go_enter Tryz.func197, Tryz.ntmps197
  go_wp2_with (go_at_call 186; refine (top_any rb g l.length cap _ c0 hc1 hc2).mono ?_; rintro e w' ⟨rfl, rfl⟩)
  go_ret2
  exact ⟨rfl, H.out.part.fr0 (Fr.drew _ _), (((Below.refl B w).setCell hrB _).drew)⟩
set_option maxRecDepth 100000 in
set_option maxHeartbeats 2000000 in
theorem sign_B39 (h : RB S w B rb l t es cs p q lv pv ev cv xs ys) (hB : B ≤ w.heap.size) : Calls Tryz.prog 197 #[.pointer (some ⟨rb, 0, none⟩), .int .u8 39] w fun e w' => e = .returned (.tuple #[fnV rb 144, .int .i64 0]) ∧ RA (fun k => S k ∨ ev.ownBlock = some k ∨ cv.ownBlock = some k) w' B rb (l ++ [⟨t, es ++ [cs ++ [p]]⟩]) lv (.slice none 0 0) (xs ++ [ev]) [] ∧ Below B w w' :=
  sign_A39 h.close hB
set_option maxRecDepth 100000 in
set_option maxHeartbeats 2000000 in
theorem sign_A43 {xs0 : List Value} (h : RA S w B rb (l ++ [⟨t, []⟩]) lv pv (xs0 ++ [.slice none 0 0]) p) (hB : B ≤ w.heap.size) : Calls Tryz.prog 197 #[.pointer (some ⟨rb, 0, none⟩), .int .u8 43] w fun e w' => e = .returned (.tuple #[fnV rb 205, .int .i64 0]) ∧ (∃ ev cv, RB S w' B rb l t [] [] [] [] lv (.slice none 0 0) ev cv xs0 []) ∧ Below B w w' := by
  obtain ⟨g, cap, x, xs1, rfl, hc1, hc2, hxe, hx0, k1, k2, z1, z2, _⟩ := h.top
  obtain ⟨rfl, hxx⟩ := List.append_inj hxe (by have := h.xl; simp at this; omega)
  obtain rfl : x = .slice none 0 0 := by simpa using hxx.symm
  have c0 := h.c0
  have c1 := h.c1
  have f1 := h.fz 1
  have H := Lib.hid h
  have hrB := h.hB
  clear h hxe hxx
  have ngr : g ≠ rb := fun e => own_neR H.out.r H.out.hl (by decide) (by rw [← e]; rfl)
  obtain ⟨i0, hi, hz0, hz1, hz2⟩ := info_parts einfo_strs
  have HI := Lib.hid hi
  have HZ0 := Lib.hid hz0
  have HZ1 := Lib.hid hz1
  have HZ2 := Lib.hid hz2
  clear hi hz0 hz1 hz2
  go_enter Tryz.func197, Tryz.ntmps197
  go_upto_region 13 with (go_at_call 186; refine (top_any rb g l.length cap _ c0 hc1 hc2).mono ?_; rintro e w' ⟨rfl, rfl⟩)
  obtain ⟨wq, hwq⟩ : ∃ wq, (w.setCell ⟨rb, 1, none⟩ (.slice none 0 0)).drew = wq := ⟨_, rfl⟩
  have HQ : Hid (RA S wq B rb (l ++ [⟨t, []⟩]) (.slice (some ⟨g, 0, none⟩) (l.length + 1) cap) (.slice none 0 0) (xs0 ++ [.slice none 0 0]) []) := Lib.hid (by rw [← hwq]; exact H.out.part.fr0 (Fr.drew _ _))
  have HBQ := Lib.hid (show Below B w wq by rw [← hwq]; exact ((Below.refl B w).setCell hrB _).drew)
  have hag : wq.heap[g]? = w.heap[g]? := by rw [← hwq]; exact heap_setCell_other w _ _ _ ngr
  rw [hwq]
  have sq := HBQ.out.size
  have k2 := (cell_ag hag).trans k2
  have z2 := (fz_ag hag).trans z2
  clear hwq hag c0 c1 f1 k1 z1 H
  have hgq : g < wq.heap.size := cell_lt' k2
  have hgB : B ≤ g := by have h1 := HQ.out.hl; rw [List.length_append, List.length_singleton] at h1; exact (own_lt h1 (k := g) rfl).1
  go_wp2_with ((with_reducible refine wpList_at (.call { callee := .builtin .append, args := #[.tmp 53, .tmp 55], argTypes := #[92, 92] }) rfl ?_); go_loud (refine wpList_append_own_at _ rfl _ _ 92 rfl B 58 i0 (.slice none 0 0) 1 24 Tryz.underlying92 HI.out HZ0.out HZ1.out HZ2.out rfl (by decide) _ _ _ rfl (World.ownsRow_nil _ _ _ _) ⟨wq.heap.size + 1, 0, none⟩ 1 1 [.slice (some ⟨wq.heap.size, 0, none⟩) 1 1] rfl rfl (cell_one_new2 _ _ _ _) (by simp [Value.oneCell']) (by unfold maxLen; omega) (by omega) (by simp; omega) ?_); intro ev' w1 he' hg' _ hk'; have HG1 : Hid (((wq.alloc (.cells #[sv []] 9)).alloc (.cells #[.slice (some ⟨wq.heap.size, 0, none⟩) 1 1] 58)).grownBy w1 none) := hg'; have HK1 : Hid (ev'.ownBlock = none ∨ ev'.ownBlock = some (wq.heap.size + 2)) := Lib.hid (by rcases hk' with h | h; exact .inl h; (right; rw [h]; simp)); have hea := blk_ag2 HG1.out hgq (by simp); have k2' : w1.cell? ⟨g, l.length * 2 + 1, none⟩ = some (.slice none 0 0) := (cell_ag hea).trans k2; have z2' : w1.frozen? ⟨g, l.length * 2 + 1, none⟩ = false := (fz_ag hea).trans z2; have hs1 := hg'.size; simp at hs1; have HE1 : Hid (w1.ownsRow B 58 1 ev' 1 [.slice (some ⟨wq.heap.size, 0, none⟩) 1 1]) := he'; obtain ⟨eg, ec, _, rfl, _⟩ := own_form HE1.out (by omega) (by omega); clear he' hg' hk' hea)
  go_ret2
  have hop := RA.open rfl rfl HQ.out (by omega) HG1.out HE1.out HK1.out
  refine ⟨rfl, ⟨_, _, hop⟩, ?_⟩
  exact HBQ.out.trans (((((Below.refl B wq).alloc (by omega) _).alloc (by simp; omega) _).grown HG1.out (by simp; omega) (by simp)).setCell (by omega) _)
end
end Go.Proofs.YtgfijlamhjjecaaGreatDoor


/-
  EdiH: contracts of sign, within a component. No condition beyond those stated.
-/
namespace Go.Proofs.YtgfijlamhjjecaaGreatDoor
open Go.RowKit
section
variable {S : Nat → Prop} {w : World} {B rb : Nat} {l : List Seg} {t : Str} {es : List (List Str)} {cs : List Str} {p q : Str} {lv pv ev cv : Value} {xs ys : List Value}
set_option maxRecDepth 100000 in
set_option maxHeartbeats 2000000 in
theorem sign_B43_full (h : RB S w B rb l t es cs p q lv pv ev cv xs ys) (_hB : B ≤ w.heap.size) (h16 : es.length + 1 = 16) : Calls Tryz.prog 197 #[.pointer (some ⟨rb, 0, none⟩), .int .u8 43] w fun e w' => e = .returned (.tuple #[.nilFunc, .int .i64 2]) ∧ Below B w w' := by
  obtain ⟨g, c1, b, c2, d, c3, rfl, rfl, rfl, a1, a2, b1, b2, _, _, _, k2, z2, _⟩ := h.tops
  have d0 := h.c0
  have d1 := h.c1
  have f1 := h.fz 1
  have hrB := h.hB
  have ngr : g ≠ rb := fun e => own_neR h.r h.hl (by decide) (by rw [← e]; rfl)
  have he : es.length = 15 := by omega
  rw [he] at k2 b1
  unfold maxLen at b2
  clear h h16 he
  go_enter Tryz.func197, Tryz.ntmps197
  go_wp2_with (go_at_call 186; refine (top_any rb g l.length c1 _ d0 a1 a2).mono ?_; rintro e w' ⟨rfl, rfl⟩)
  go_ret2
  exact ⟨rfl, (((Below.refl B w).setCell hrB _).drew)⟩
set_option maxRecDepth 100000 in
set_option maxHeartbeats 2000000 in
theorem sign_B43_next (h : RB S w B rb l t es cs p q lv pv ev cv xs ys) (hB : B ≤ w.heap.size) (h16 : es.length + 1 < 16) : Calls Tryz.prog 197 #[.pointer (some ⟨rb, 0, none⟩), .int .u8 43] w fun e w' => e = .returned (.tuple #[fnV rb 205, .int .i64 0]) ∧ (∃ ev' cv', RB (fun k => S k ∨ cv.ownBlock = some k) w' B rb l t (es ++ [cs ++ [p]]) [] [] [] lv (.slice none 0 0) ev' cv' xs (ys ++ [cv])) ∧ Below B w w' := by
  obtain ⟨g, c1, b, c2, d, c3, rfl, rfl, rfl, a1, a2, b1, b2, _, _, _, k2, z2, _⟩ := h.tops
  have d0 := h.c0
  have d1 := h.c1
  have f1 := h.fz 1
  have H := Lib.hid h
  have hrB := h.hB
  have ngr : g ≠ rb := fun e => own_neR h.r h.hl (by decide) (by rw [← e]; rfl)
  have hx16 : ((es.length : Int) + 1 == 16) = false := by rw [beq_eq_false_iff_ne]; omega
  have b2' := b2
  unfold maxLen at b2'
  clear h
  obtain ⟨i0, hi, hz0, hz1, hz2⟩ := info_parts einfo_strs
  have HI := Lib.hid hi
  have HZ0 := Lib.hid hz0
  have HZ1 := Lib.hid hz1
  have HZ2 := Lib.hid hz2
  clear hi hz0 hz1 hz2
  go_enter Tryz.func197, Tryz.ntmps197
  go_upto_region 13 with (go_at_call 186; refine (top_any rb g l.length c1 _ d0 a1 a2).mono ?_; rintro e w' ⟨rfl, rfl⟩)
  obtain ⟨wq, hwq⟩ : ∃ wq, (w.setCell ⟨rb, 1, none⟩ (.slice none 0 0)).drew = wq := ⟨_, rfl⟩
  have HQ : Hid (RB S wq B rb l t es cs p [] (.slice (some ⟨g, 0, none⟩) (l.length + 1) c1) (.slice none 0 0) (.slice (some ⟨b, 0, none⟩) (es.length + 1) c2) (.slice (some ⟨d, 0, none⟩) (cs.length + 1) c3) xs ys) := Lib.hid (by rw [← hwq]; exact H.out.part.fr0 (Fr.drew _ _))
  have HBQ := Lib.hid (show Below B w wq by rw [← hwq]; exact ((Below.refl B w).setCell hrB _).drew)
  have hag : wq.heap[g]? = w.heap[g]? := by rw [← hwq]; exact heap_setCell_other w _ _ _ ngr
  rw [hwq]
  have sq := HBQ.out.size
  have k2 := (cell_ag hag).trans k2
  have z2 := (fz_ag hag).trans z2
  clear hwq hag d0 d1 f1 H
  have hgq : g < wq.heap.size := cell_lt' k2
  have hgB : B ≤ g := (own_lt HQ.out.hl (k := g) rfl).1
  have nbg : b ≠ g := fun e => own_ne HQ.out.he HQ.out.hl (by decide) (k := g) (by rw [← e]; rfl) rfl
  have HBB := Lib.hid (own_lt HQ.out.he (k := b) rfl).1
  go_wp2_with ((with_reducible refine wpList_at (.call { callee := .builtin .append, args := #[.tmp 53, .tmp 55], argTypes := #[92, 92] }) rfl ?_); go_loud (refine wpList_append_own_at _ rfl _ _ 92 rfl B 58 i0 (.slice none 0 0) 1 24 Tryz.underlying92 HI.out HZ0.out HZ1.out HZ2.out rfl (by decide) _ _ _ rfl ((HQ.out.he.alloc _).alloc _) ⟨wq.heap.size + 1, 0, none⟩ 1 1 [.slice (some ⟨wq.heap.size, 0, none⟩) 1 1] rfl rfl (cell_one_new2 _ _ _ _) (by simp [Value.oneCell']) (by unfold maxLen; omega) (by omega) (by simp; omega) ?_); intro ev' w1 he' hg' _ hk'; have HG1 : Hid (((wq.alloc (.cells #[sv []] 9)).alloc (.cells #[.slice (some ⟨wq.heap.size, 0, none⟩) 1 1] 58)).grownBy w1 (some b)) := hg'; have HK1 : Hid (ev'.ownBlock = some b ∨ ev'.ownBlock = some (wq.heap.size + 2)) := Lib.hid (by rcases hk' with h | h; exact .inl h; (right; rw [h]; simp)); have hea := blk_ag2 HG1.out hgq (fun e => nbg (Option.some.inj e)); have k2' : w1.cell? ⟨g, l.length * 2 + 1, none⟩ = some (.slice (some ⟨b, 0, none⟩) (es.length + 1) c2) := (cell_ag hea).trans k2; have z2' : w1.frozen? ⟨g, l.length * 2 + 1, none⟩ = false := (fz_ag hea).trans z2; have hs1 := hg'.size; simp at hs1; have HE1 : Hid (w1.ownsRow B 58 1 ev' (es.length + 1 + 1) (ys ++ [.slice (some ⟨d, 0, none⟩) (cs.length + 1) c3] ++ [.slice (some ⟨wq.heap.size, 0, none⟩) 1 1])) := he'; obtain ⟨eg, ec, _, rfl, _⟩ := own_form HE1.out (by omega) (by omega); clear he' hg' hk' hea)
  go_ret2
  have hop := RB.next rfl rfl HQ.out (by omega) HG1.out HE1.out HK1.out
  refine ⟨rfl, ⟨_, _, hop⟩, ?_⟩
  exact HBQ.out.trans (((((Below.refl B wq).alloc (by omega) _).alloc (by simp; omega) _).grown HG1.out (by simp; omega) (fun k hk => by cases hk; exact HBB.out)).setCell (by omega) _)
set_option maxRecDepth 100000 in
set_option maxHeartbeats 2000000 in
theorem sign_B58_full (h : RB S w B rb l t es cs p q lv pv ev cv xs ys) (_hB : B ≤ w.heap.size) (h8 : cs.length + 1 = 8) : Calls Tryz.prog 197 #[.pointer (some ⟨rb, 0, none⟩), .int .u8 58] w fun e w' => e = .returned (.tuple #[.nilFunc, .int .i64 2]) ∧ Below B w w' := by
  obtain ⟨g, c1, b, c2, d, c3, rfl, rfl, rfl, a1, a2, b1, b2, c1', c2', _, k2, z2, k3, z3, _⟩ := h.tops
  have d0 := h.c0
  have d1 := h.c1
  have f1 := h.fz 1
  have H := Lib.hid h
  have hrB := h.hB
  have ngr : g ≠ rb := fun e => own_neR h.r h.hl (by decide) (by rw [← e]; rfl)
  have nbr : b ≠ rb := fun e => own_neR h.r h.he (by decide) (by rw [← e]; rfl)
  have hc : cs.length = 7 := by omega
  rw [hc] at k3 c1'
  unfold maxLen at b2 c2'
  have hw : IntKind.i64.wrap ((es.length : Int) + 1 - 1) = (es.length : Int) := by rw [show (es.length : Int) + 1 - 1 = (es.length : Int) by omega]; exact IntWalk.i64_in _ (by omega)
  have hw2 : IntKind.i64.wrap (es.length : Int) = (es.length : Int) := IntWalk.i64_in _ (by omega)
  have h0 : (0 : Int) ≤ (es.length : Int) := by omega
  have h1 : (es.length : Int) < (es.length : Int) + 1 := by omega
  clear h h8 hc H
  go_enter Tryz.func197, Tryz.ntmps197
  go_upto_region 4 with (go_at_call 186; refine (top_any rb g l.length c1 _ d0 a1 a2).mono ?_; rintro e w' ⟨rfl, rfl⟩)
  obtain ⟨wq, hwq⟩ : ∃ wq, (w.setCell ⟨rb, 1, none⟩ (.slice none 0 0)).drew = wq := ⟨_, rfl⟩
  have HBQ := Lib.hid (show Below B w wq by rw [← hwq]; exact ((Below.refl B w).setCell hrB _).drew)
  have hag : wq.heap[g]? = w.heap[g]? := by rw [← hwq]; exact heap_setCell_other w _ _ _ ngr
  have hab : wq.heap[b]? = w.heap[b]? := by rw [← hwq]; exact heap_setCell_other w _ _ _ nbr
  rw [hwq]
  have k2 := (cell_ag hag).trans k2
  have k3 := (cell_ag hab).trans k3
  clear hwq hag hab d0 d1 f1 z2 z3
  refine wp_region_plan [(0, false), (1, false), (2, false), (3, false), (4, false), (5, false), (6, false), (7, false), (8, false), (9, false), (10, false), (11, false)] (fun w' => w'.cell? ⟨g, l.length * 2 + 1, none⟩ = some (.slice (some ⟨b, 0, none⟩) (es.length + 1) c2)) (by kernel_rfl) (by kernel_rfl) k2 ?_
  iterate 12 (refine' plan_val rfl rfl (fun w' hS => ?_) ?_; rotate_left; (focus (go_simp; rfl)); simp only [Act.put, List.setIfInBounds_toArray, List.set_cons_zero, List.set_cons_succ])
  refine plan_nil ?_
  go_wp2_with fail
  go_ret2
  exact ⟨rfl, HBQ.out.drew⟩
end
end Go.Proofs.YtgfijlamhjjecaaGreatDoor


/-
  EdiI: contracts of sign at a colon, and of put. No condition beyond those stated.
-/
namespace Go.Proofs.YtgfijlamhjjecaaGreatDoor
open Go.RowKit
theorem fold_push' : ∀ (l : List UInt8) (s : ByteArray), (l.map fun b => (b.toNat : Int)).foldl (fun r n => r.push (UInt8.ofNat n.toNat)) s = ⟨s.data ++ l.toArray⟩
  | [], s => by simp
  | b :: l, s => by
    rw [List.map_cons, List.foldl_cons, fold_push' l]
    simp [ByteArray.push]
/-- owned bytes as a string -/
theorem conv_own {w : World} {B : Nat} {v : Value} {l : Str} (h : OwnS w B v l) : (convert 72 9 v).run Tryz.prog w = .ok (sv l) w := by
  have h' := h
  obtain ⟨_, ⟨rfl, h0⟩ | ⟨g, cap, cur, rfl, hg, hh, hc, hm, hs', hx⟩⟩ := h'
  · rw [run_convert_bytes_string w 72 9 5 _ 0 0 Tryz.underlying72 Tryz.underlying5 Tryz.underlying9, List.length_eq_zero_iff.1 h0]
    rfl
  · rw [run_convert_bytes_string w 72 9 5 _ l.length cap Tryz.underlying72 Tryz.underlying5 Tryz.underlying9]
    have hl := run_loadCells_list (P := Tryz.prog) w ⟨g, 0, none⟩ (l.map bv) (fun j v hv => by rw [Addr.add_mid, Nat.zero_add]; exact own_cell h hv)
    rw [List.length_map] at hl
    have e1 : l.map bv = (l.map fun b => (b.toNat : Int)).map (Value.int .u8) := by simp [bv]
    rw [e1] at hl
    rw [run_bytesToString w _ l.length cap _ hl, fold_push']
    simp [sv, ByteArray.empty, ByteArray.emptyWithCapacity]
    try rfl
section
variable {S : Nat → Prop} {w : World} {B rb : Nat} {l : List Seg} {t : Str} {es : List (List Str)} {cs : List Str} {p q : Str} {lv pv ev cv : Value} {xs ys : List Value}
set_option maxRecDepth 100000 in
set_option maxHeartbeats 2000000 in
theorem sign_B58_next (h : RB S w B rb l t es cs p q lv pv ev cv xs ys) (hB : B ≤ w.heap.size) (h8 : cs.length + 1 < 8) : Calls Tryz.prog 197 #[.pointer (some ⟨rb, 0, none⟩), .int .u8 58] w fun e w' => e = .returned (.tuple #[fnV rb 205, .int .i64 0]) ∧ (∃ cv', RB S w' B rb l t es (cs ++ [p]) [] [] lv (.slice none 0 0) ev cv' xs ys) ∧ Below B w w' := by
  obtain ⟨g, c1, b, c2, d, c3, rfl, rfl, rfl, a1, a2, b1, b2, c1', c2', _, k2, z2, k3, z3, _⟩ := h.tops
  have d0 := h.c0
  have d1 := h.c1
  have f1 := h.fz 1
  have H := Lib.hid h
  have hrB := h.hB
  have ngr : g ≠ rb := fun e => own_neR h.r h.hl (by decide) (by rw [← e]; rfl)
  have nbr : b ≠ rb := fun e => own_neR h.r h.he (by decide) (by rw [← e]; rfl)
  have hx8 : ((cs.length : Int) + 1 == 8) = false := by rw [beq_eq_false_iff_ne]; omega
  unfold maxLen at b2 c2'
  have hw : IntKind.i64.wrap ((es.length : Int) + 1 - 1) = (es.length : Int) := by rw [show (es.length : Int) + 1 - 1 = (es.length : Int) by omega]; exact IntWalk.i64_in _ (by omega)
  have hw2 : IntKind.i64.wrap (es.length : Int) = (es.length : Int) := IntWalk.i64_in _ (by omega)
  have h0 : (0 : Int) ≤ (es.length : Int) := by omega
  have h1 : (es.length : Int) < (es.length : Int) + 1 := by omega
  clear h
  obtain ⟨i0, hi, hz0, hz1, hz2⟩ := info_parts einfo_str
  have HI := Lib.hid hi
  have HZ0 := Lib.hid hz0
  have HZ1 := Lib.hid hz1
  have HZ2 := Lib.hid hz2
  clear hi hz0 hz1 hz2
  go_enter Tryz.func197, Tryz.ntmps197
  go_upto_region 4 with (go_at_call 186; refine (top_any rb g l.length c1 _ d0 a1 a2).mono ?_; rintro e w' ⟨rfl, rfl⟩)
  obtain ⟨wq, hwq⟩ : ∃ wq, (w.setCell ⟨rb, 1, none⟩ (.slice none 0 0)).drew = wq := ⟨_, rfl⟩
  have HQ0 : Hid (RB S wq B rb l t es cs p [] (.slice (some ⟨g, 0, none⟩) (l.length + 1) c1) (.slice none 0 0) (.slice (some ⟨b, 0, none⟩) (es.length + 1) c2) (.slice (some ⟨d, 0, none⟩) (cs.length + 1) c3) xs ys) := Lib.hid (by rw [← hwq]; exact H.out.part.fr0 (Fr.drew _ _))
  have HBQ0 := Lib.hid (show Below B w wq by rw [← hwq]; exact ((Below.refl B w).setCell hrB _).drew)
  have hag : wq.heap[g]? = w.heap[g]? := by rw [← hwq]; exact heap_setCell_other w _ _ _ ngr
  have hab : wq.heap[b]? = w.heap[b]? := by rw [← hwq]; exact heap_setCell_other w _ _ _ nbr
  rw [hwq]
  have k2 := (cell_ag hag).trans k2
  have k3 := (cell_ag hab).trans k3
  have z3 := (fz_ag hab).trans z3
  clear hwq hag hab d0 d1 f1 z2 H
  refine wp_region_plan [(0, false), (1, false), (2, false), (3, false), (4, false), (5, false), (6, false), (7, false), (8, false), (9, false), (10, false), (11, false)] (fun w' => w'.cell? ⟨g, l.length * 2 + 1, none⟩ = some (.slice (some ⟨b, 0, none⟩) (es.length + 1) c2)) (by kernel_rfl) (by kernel_rfl) k2 ?_
  obtain ⟨wd, hwd⟩ : ∃ wd, wq.drew = wd := ⟨_, rfl⟩
  have HQ := Lib.hid (show RB S wd B rb l t es cs p [] (.slice (some ⟨g, 0, none⟩) (l.length + 1) c1) (.slice none 0 0) (.slice (some ⟨b, 0, none⟩) (es.length + 1) c2) (.slice (some ⟨d, 0, none⟩) (cs.length + 1) c3) xs ys by rw [← hwd]; exact HQ0.out.fr0 (Fr.drew _ _))
  have HBQ := Lib.hid (show Below B w wd by rw [← hwd]; exact HBQ0.out.drew)
  have k3 : wd.cell? ⟨b, es.length, none⟩ = some (.slice (some ⟨d, 0, none⟩) (cs.length + 1) c3) := by rw [← hwd]; exact k3
  have z3 : wd.frozen? ⟨b, es.length, none⟩ = false := by rw [← hwd]; exact z3
  rw [hwd]
  have sq := HBQ.out.size
  clear hwd HQ0 HBQ0
  iterate 12 (refine' plan_val rfl rfl (fun w' hS => ?_) ?_; rotate_left; (focus (go_simp; rfl)); simp only [Act.put, List.setIfInBounds_toArray, List.set_cons_zero, List.set_cons_succ])
  refine plan_nil ?_
  clear k2 hw hw2
  have hbq : b < wd.heap.size := cell_lt' k3
  have hbB : B ≤ b := (own_lt HQ.out.he (k := b) rfl).1
  have ndb : d ≠ b := fun e => own_ne HQ.out.hc HQ.out.he (by decide) (k := b) (by rw [← e]; rfl) rfl
  have HDB := Lib.hid (own_lt HQ.out.hc (k := d) rfl).1
  go_wp2_with ((with_reducible refine wpList_at (.call { callee := .builtin .append, args := #[.tmp 33, .tmp 34], argTypes := #[58, 58] }) rfl ?_); go_loud (refine wpList_append_own_at _ rfl _ _ 58 rfl B 9 i0 (.string ⟨#[]⟩) 1 16 Tryz.underlying58 HI.out HZ0.out HZ1.out HZ2.out rfl (by decide) _ _ _ rfl (HQ.out.hc.alloc _) ⟨wd.heap.size, 0, none⟩ 1 1 [sv []] rfl rfl (cell_one_new _ _ _) (by simp [Value.oneCell', sv]) (by unfold maxLen; omega) (by omega) (by simp; omega) ?_); intro cv' w1 he' hg' _ hk'; have HG1 : Hid ((wd.alloc (.cells #[sv []] 9)).grownBy w1 (some d)) := hg'; have HK1 : Hid (cv'.ownBlock = some d ∨ cv'.ownBlock = some (wd.heap.size + 1)) := Lib.hid (by rcases hk' with h | h; exact .inl h; (right; rw [h]; simp)); have hea := blk_ag HG1.out hbq (fun e => ndb (Option.some.inj e)); have k3' : w1.cell? ⟨b, es.length, none⟩ = some (.slice (some ⟨d, 0, none⟩) (cs.length + 1) c3) := (cell_ag hea).trans k3; have z3' : w1.frozen? ⟨b, es.length, none⟩ = false := (fz_ag hea).trans z3; have hs1 := hg'.size; simp at hs1; have HE1 : Hid (w1.ownsRow B 9 1 cv' (cs.length + 1 + 1) ((cs ++ [p]).map sv ++ [sv []])) := he'; obtain ⟨eg, ec, _, rfl, _⟩ := own_form HE1.out (by omega) (by omega); clear he' hg' hk' hea)
  go_ret2
  have hop := RB.colon HQ.out HG1.out HE1.out HK1.out
  refine ⟨rfl, ⟨_, hop⟩, ?_⟩
  exact HBQ.out.trans ((((Below.refl B wd).alloc (by omega) _).grown HG1.out (by simp; omega) (fun k hk => by cases hk; exact HDB.out)).setCell (by omega) _)
theorem len_int (n : Nat) (h : n ≠ 256) : ((n : Int) == 256) = false := by rw [beq_eq_false_iff_ne]; omega
set_option maxRecDepth 100000 in
set_option maxHeartbeats 2000000 in
theorem put_full (h : RB S w B rb l t es cs p p lv pv ev cv xs ys) (c : UInt8) (h256 : p.length = 256) : Calls Tryz.prog 218 #[.pointer (some ⟨rb, 0, none⟩), .int .u8 (c.toNat : Int)] w fun e w' => e = .returned (.tuple #[.nilFunc, .int .i64 2]) ∧ Below B w w' := by
  have d1 := h.c1
  obtain ⟨pg, pc, _, hpe, _⟩ := own_form h.hp (by omega) (by omega)
  rw [hpe, h256] at d1
  clear h hpe
  go_enter Tryz.func218, Tryz.ntmps218
  go_wp2_with fail
  go_ret2
  exact ⟨rfl, Below.refl _ _⟩
end
end Go.Proofs.YtgfijlamhjjecaaGreatDoor


/-
  EdiY1: contracts of sync.Once's parts at a Replacer. No condition beyond those stated.
-/
namespace Go.Proofs.YtgfijlamhjjecaaGreatDoor
open Go.RowKit
theorem race_dis (w : World) : (callFunc 206 #[]).run Tryz.prog w = .ok (.value (.tuple #[])) w := run_call_mark0 Tryz.func206 (by kernel_rfl) (by kernel_rfl) (by kernel_rfl) .disable (by kernel_rfl) w
theorem race_en (w : World) : (callFunc 208 #[]).run Tryz.prog w = .ok (.value (.tuple #[])) w := run_call_mark0 Tryz.func208 (by kernel_rfl) (by kernel_rfl) (by kernel_rfl) .enable (by kernel_rfl) w
theorem race_acq (a : Addr) (w : World) : (callFunc 209 #[.pointer (some a)]).run Tryz.prog w = .ok (.value (.tuple #[])) w := run_call_marked Tryz.func209 (by kernel_rfl) (by kernel_rfl) (by kernel_rfl) .acquire (by kernel_rfl) a w
theorem race_rel (a : Addr) (w : World) : (callFunc 211 #[.pointer (some a)]).run Tryz.prog w = .ok (.value (.tuple #[])) w := run_call_marked Tryz.func211 (by kernel_rfl) (by kernel_rfl) (by kernel_rfl) .releaseMerge (by kernel_rfl) a w
/-- Store(true), entered as a deferred call -/
theorem store_deferred (a : Addr) (x : Value) (u : FrameMode) (w : World) (hc : w.cell? a = some x) (hz : w.frozen? a = false) :
    CallsD Tryz.prog 193 #[.pointer (some a), .bool true] u w fun e u' w' => u' = u ∧ (e = .returned (.tuple #[]) ∧ w' = w.drew.setCell a (.int .u32 1)) := by
  have hc' : w.drew.cell? a = some x := by go_simp
  have hz' : w.drew.frozen? a = false := by go_simp
  have hst := run_call_store (P := Tryz.prog) Tryz.func200 (by kernel_rfl) (by kernel_rfl) (by kernel_rfl) (by kernel_rfl) (k := .u32) (y := 1) hc' hz'
  go_enter_d Tryz.func193, Tryz.ntmps193
  go_wp2
  go_region_calls
  all_goals (go_end0; exact ⟨rfl, rfl⟩)
set_option maxRecDepth 100000 in
theorem iunlock (a : Addr) (w : World) (hc : w.cell? a = some (.int .i32 1)) (hz : w.frozen? a = false) :
    Calls Tryz.prog 199 #[.pointer (some a)] w fun e w' => e = .returned (.tuple #[]) ∧ w' = w.setCell a (.int .i32 0) := by
  have hd := race_dis
  have he := race_en
  have hr := race_rel
  have hadd := run_call_add (P := Tryz.prog) Tryz.func212 (by kernel_rfl) (by kernel_rfl) (by kernel_rfl) .i32 (by kernel_rfl) (y := -1) (s := 0) hc hz (by simp [go_sem]; rfl)
  have hcv := run_convert_to_unsafe (P := Tryz.prog) (src := 314) (dst := 275) Tryz.underlying314 Tryz.underlying275 (by kernel_rfl) hc
  go_enter Tryz.func199, Tryz.ntmps199
  go_wp2
  first | go_end0 | (simp only [Exit.inBlock, Exit.then]; refine bodyPost_ret (results_none rfl _ _ _) rfl ?_) | refine bodyPost_ret (results_none rfl _ _ _) rfl ?_
  all_goals exact ⟨rfl, rfl⟩
/-- Unlock, entered as a deferred call -/
theorem unlock_deferred (a : Addr) (u : FrameMode) (w : World) (hc : w.cell? a = some (.int .i32 1)) (hz : w.frozen? a = false) :
    CallsD Tryz.prog 192 #[.pointer (some a)] u w fun e u' w' => u' = u ∧ (e = .returned (.tuple #[]) ∧ w' = w.setCell a (.int .i32 0)) := by
  go_enter_d Tryz.func192, Tryz.ntmps192
  go_wp2_with (go_at_call 199; refine (iunlock a _ hc hz).mono ?_; rintro e w' ⟨rfl, rfl⟩)
  go_end0
  exact ⟨rfl, rfl⟩
set_option maxRecDepth 100000 in
theorem ilock (a : Addr) (w : World) (hc : w.cell? a = some (.int .i32 0)) (hz : w.frozen? a = false) :
    Calls Tryz.prog 198 #[.pointer (some a)] w fun e w' => e = .returned (.tuple #[]) ∧ w' = w.setCell a (.int .i32 1) := by
  have hd := race_dis
  have he := race_en
  have ha := race_acq
  have hcas := run_call_cas_hit (P := Tryz.prog) Tryz.func207 (by kernel_rfl) (by kernel_rfl) (by kernel_rfl) .i32 (by kernel_rfl) (y := 1) hc hz
  have hc' : (w.setCell a (.int .i32 1)).cell? a = some (.int .i32 1) := World.cell?_setCell_same w a _ hc
  have hcv := run_convert_to_unsafe (P := Tryz.prog) (src := 314) (dst := 275) Tryz.underlying314 Tryz.underlying275 (by kernel_rfl) hc'
  go_enter Tryz.func198, Tryz.ntmps198
  go_wp2
  first | go_end0 | (simp only [Exit.inBlock, Exit.then]; refine bodyPost_ret (results_none rfl _ _ _) rfl ?_) | refine bodyPost_ret (results_none rfl _ _ _) rfl ?_
  all_goals exact ⟨rfl, rfl⟩
theorem lock_free (a : Addr) (w : World) (hc : w.cell? a = some (.int .i32 0)) (hz : w.frozen? a = false) :
    Calls Tryz.prog 191 #[.pointer (some a)] w fun e w' => e = .returned (.tuple #[]) ∧ w' = w.setCell a (.int .i32 1) := by
  go_enter Tryz.func191, Tryz.ntmps191
  go_wp2_with (go_at_call 198; refine (ilock a _ hc hz).mono ?_; rintro e w' ⟨rfl, rfl⟩)
  go_end0
  exact ⟨rfl, rfl⟩
theorem aload (a : Addr) (d : Int) (w : World) (h0 : w.cell? a = some (.int .u32 d)) :
    Calls Tryz.prog 181 #[.pointer (some a)] w fun e w' => e = .returned (.bool (d != 0)) ∧ w = w' := by
  have hl := run_call_load (P := Tryz.prog) Tryz.func190 (by kernel_rfl) (by kernel_rfl) (by kernel_rfl) .u32 (by kernel_rfl) h0
  go_enter Tryz.func181, Tryz.ntmps181
  go_wp2
  go_ret
  exact ⟨rfl, rfl⟩
end Go.Proofs.YtgfijlamhjjecaaGreatDoor

