/-
  EdiWholeP: plain laws for EdiWhole. No condition beyond those stated.
-/
import Derived.Test.YtpfkmklhfafkiaaEdiBackV
import Derived.Test.YtpfkmklhfafkiaaEdiA7
namespace Go.Proofs.Ytpfkmklhfafkiaa
open Go.RowKit
def mb (c : UInt8) : UInt8 := 32 + c % 95
theorem mb_nat (c : UInt8) : (mb c).toNat = 32 + c.toNat % 95 := by
  unfold mb
  rw [UInt8.toNat_add, UInt8.toNat_mod]
  have : c.toNat % 95 < 95 := Nat.mod_lt _ (by omega)
  show (32 + c.toNat % 95) % 256 = _
  omega
def firstB : Str := [102, 105, 114, 115, 116]
def whC (e : List Str) : List Str := firstB :: (e.take 7).map (·.map mb)
def whS (l : List (List Str)) : Seg := ⟨[88, 57, 90], l.map whC⟩
/-- what EdiWhole looks at -/
structure WholeOk (l : List (List Str)) : Prop where
  n : l.length ≤ 16
  el : ∀ e ∈ l, e.length ≤ 8
  co : ∀ e ∈ l, ∀ p ∈ e.take 7, p.length ≤ 256
  bytes : (l.map fun e => bytesC (e.take 7)).sum ≤ 2000
theorem okB_mb (c : UInt8) : okB (mb c) := by
  have h := mb_nat c
  have : c.toNat % 95 < 95 := Nat.mod_lt _ (by omega)
  unfold okB; omega
theorem wh_ok {l : List (List Str)} (h : WholeOk l) : okS (whS l) := by
  refine ⟨⟨rfl, fun c hc => (show ∀ c ∈ ([88, 57, 90] : Str), tagB c = true by decide) c hc⟩, by simpa [whS] using h.n, fun e he => ?_⟩
  obtain ⟨a, ha, rfl⟩ := List.mem_map.1 he
  refine ⟨by simp [whC], ?_, fun p hp => ?_⟩
  · unfold whC; rw [List.length_cons, List.length_map, List.length_take]; omega
  · rcases List.mem_cons.1 hp with rfl | hp
    · exact ⟨by decide, fun c hc => (badB_iff c).1 ((show ∀ c ∈ firstB, badB c = false by decide) c hc)⟩
    · obtain ⟨q, hq, rfl⟩ := List.mem_map.1 hp
      refine ⟨by rw [List.length_map]; exact h.co a ha q hq, fun c hc => ?_⟩
      obtain ⟨x, _, rfl⟩ := List.mem_map.1 hc
      exact okB_mb x
theorem wh_bytes (l : List (List Str)) : bytesE (l.map whC) = 5 * l.length + (l.map fun e => bytesC (e.take 7)).sum := by
  have h1 : ∀ e : List Str, bytesC (whC e) = 5 + bytesC (e.take 7) := fun e => by
    unfold whC bytesC
    rw [List.map_cons, List.sum_cons, List.map_map]
    congr 1
    congr 1
    exact List.map_congr_left fun p _ => by simp
  induction l with
  | nil => rfl
  | cons a l ih =>
    simp only [bytesE, List.map_cons, List.sum_cons, List.length_cons, h1] at ih ⊢
    omega
theorem wh_len {l : List (List Str)} (h : WholeOk l) : (segT (whS l)).length ≤ 10000 := by
  have h1 := segT_le (whS l) (fun e he => by have := ((wh_ok h).2.2 e he).2.1; omega)
  have h2 := wh_bytes l
  have h3 := h.bytes
  have h4 := h.n
  have h5 : (whS l).elems.length = l.length := by simp [whS]
  have h6 : bytesE (whS l).elems = bytesE (l.map whC) := rfl
  have h7 : (whS l).tag.length = 3 := rfl
  rw [h6, h2, h5, h7] at h1
  omega
theorem whole_print {s : Seg} (h : okS s) (hl : (segT s).length ≤ 10000) : printE [s, s] = (segT s ++ segT s, 0) := by
  have e : printT [s, s] = segT s ++ segT s := by simp [printT]
  have := printE_ok (l := [s, s]) ⟨by simp, fun x hx => by simp at hx; subst hx; exact h⟩ (by rw [e, List.length_append]; omega)
  rw [e] at this; exact this
theorem whole_parse {s : Seg} (h : okS s) (hl : (segT s).length ≤ 10000) : parseE (segT s ++ [10, 10] ++ segT s ++ [10]) = ([s, s], 0, 0) := by
  have hr : runE (.btw []) 0 (segT s ++ [10, 10] ++ segT s ++ [10]) = .ok (.btw [s, s]) := by
    rw [List.append_assoc, List.append_assoc, runE_seg h (by simp)]
    show runE (.btw [s]) _ (10 :: 10 :: (segT s ++ [10])) = _
    have h10 : ∀ l : List Seg, l ≠ [] → stepE (.btw l) 10 = .ok (.btw l) := fun l hl => by simp [stepE, hl]
    rw [runE, h10 _ (by simp)]
    simp only []
    rw [runE, h10 _ (by simp)]
    simp only []
    rw [runE_seg h (by simp)]
    show runE (.btw [s, s]) _ [10] = _
    rw [runE, h10 _ (by simp)]
    rfl
  unfold parseE
  rw [if_neg (by simp only [List.length_append, List.length_cons, List.length_nil]; omega), hr]
theorem OE.keep {H sp : Nat} {st : ByteArray} {w w' : World} {ev : Value} {ys : List Value} {es : List (List Str)} (h : OE H sp st w ev ys es) (hb : Below w.heap.size w w') : OE H sp st w' ev ys es :=
  ⟨own_cong h.row (fun k hk => hb.block k (own_lt h.row hk).2), h.len, (hb.block sp h.lt).trans h.c, fun i e' x h1 h2 => (h.el i e' x h1 h2).cong (fun k hk => ⟨hk.1, Nat.lt_of_lt_of_le hk.2.1 hb.size, hk.2.2⟩) (fun _ hk => hb.block _ hk.2.1)⟩
/-- two of one segment, as a literal -/
theorem OE.two {H sp : Nat} {st : ByteArray} {t : Str} {w : World} {ev : Value} {ys : List Value} {es : List (List Str)} (h : OE H sp st w ev ys es) (hst : (⟨t.toArray⟩ : ByteArray) = st) :
    SegsAt (fun b => b < w.heap.size + 1) (w.alloc (.cells #[.string st, ev, .string st, ev] 37)) (.slice (some ⟨w.heap.size, 0, none⟩) 2 2) [⟨t, es⟩, ⟨t, es⟩] := by
  have hb := heap_alloc_new w (.cells #[.string st, ev, .string st, ev] 37)
  have hE : ElemsAt (fun b => b < w.heap.size + 1) (w.alloc (.cells #[.string st, ev, .string st, ev] 37)) ev es := by
    have hr : w.ownsRow H 38 1 ev ys.length ys := by rw [h.len]; exact h.row
    have h5 : RowAt (fun b => H ≤ b ∧ b < w.heap.size) w ev ys := own_rest hr (fun k hk => own_lt h.row hk)
    refine ⟨ys, h5.cong (fun b hb' => by omega) (fun b hb' => Below.heap_alloc _ _ _ hb'.2), h.len, fun i e x h6 h7 => ?_⟩
    exact (h.el i e x h6 h7).cong (fun b hb' => by omega) (fun b hb' => Below.heap_alloc _ _ _ hb'.2.1)
  refine ⟨_, 2, [ev, ev], rfl, Nat.le_refl _, by decide, (fun e => by cases e), rfl, fun i s x h1 h2 => ?_, fun _ => ⟨w.heap.size, 0, rfl, by omega, fun i s x h1 h2 => ?_⟩⟩
  · match i, h1, h2 with
    | 0, h1, h2 => simp at h1 h2; subst h1; subst h2; exact hE
    | 1, h1, h2 => simp at h1 h2; subst h1; subst h2; exact hE
    | i + 2, h1, _ => simp at h1
  · match i, h1, h2 with
    | 0, h1, h2 => simp at h1 h2; subst h1; subst h2; exact ⟨by rw [cell_of_row _ _ 0 _ _ _ hb, ← hst]; rfl, cell_of_row _ _ 1 _ _ _ hb⟩
    | 1, h1, h2 => simp at h1 h2; subst h1; subst h2; exact ⟨by rw [cell_of_row _ _ 2 _ _ _ hb, ← hst]; rfl, cell_of_row _ _ 3 _ _ _ hb⟩
    | i + 2, h1, _ => simp at h1
end Go.Proofs.Ytpfkmklhfafkiaa
