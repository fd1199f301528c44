/-
  EdiY5: plain words for a byteStringReplacer's Replace, and its table's cells. No condition beyond those stated.
-/
import Derived.Test.YtpfkmklhfafkiaaEdiY4
import Derived.Test.YtpfkmklhfafkiaaEdiShelf
namespace Go.Proofs.Ytpfkmklhfafkiaa
open Go.RowKit
def sgN (l : Str) : Nat := l.countP signB
theorem compT_len (l : Str) : (compT l).length = l.length + sgN l := by
  induction l with
  | nil => rfl
  | cons c l ih =>
    have e : compT (c :: l) = escB c ++ compT l := by simp [compT]
    unfold sgN at *
    rw [e, List.length_append, ih, List.countP_cons, List.length_cons]
    unfold escB
    by_cases h : signB c = true
    · rw [if_pos h, if_pos h]; simp; omega
    · rw [if_neg h, if_neg h]; simp; omega
theorem compT_same {l : Str} (h : sgN l = 0) : compT l = l := by
  induction l with
  | nil => rfl
  | cons c l ih =>
    have e : compT (c :: l) = escB c ++ compT l := by simp [compT]
    unfold sgN at *
    rw [List.countP_cons] at h
    have hc : signB c = false := by
      cases hs : signB c with
      | true => rw [hs] at h; simp at h
      | false => rfl
    rw [e, ih (by omega)]
    unfold escB; rw [hc]; rfl
theorem compT_take {l : Str} {k : Nat} {c : UInt8} (h : l[k]? = some c) : compT (l.take (k + 1)) = compT (l.take k) ++ escB c := by
  rw [List.take_add_one, h]; simp [compT]
theorem sgN_take {l : Str} {k : Nat} {c : UInt8} (h : l[k]? = some c) : sgN (l.take (k + 1)) = sgN (l.take k) + if signB c then 1 else 0 := by
  unfold sgN
  rw [List.take_add_one, h]; simp [List.countP_append]
theorem sgN_le (l : Str) : sgN l ≤ l.length := List.countP_le_length
theorem sgN_take_le (l : Str) (k : Nat) : sgN (l.take k) ≤ l.length := Nat.le_trans (sgN_le _) (by rw [List.length_take]; omega)
theorem sgN_take_mono (l : Str) (k : Nat) : sgN (l.take k) ≤ sgN l := by
  have h : sgN (l.take k ++ l.drop k) = sgN l := by rw [List.take_append_drop]
  unfold sgN at *
  rw [List.countP_append] at h; omega
/-- so many of the first k names lie in a text -/
def cntD (l : Str) (k : Nat) : Nat := (((DE 0).take k).map fun c => l.count c).sum
theorem cntD_four (l : Str) : cntD l 4 = sgN l := by
  unfold cntD sgN DE
  show [l.count 63, l.count 39, l.count 58, l.count 43].sum = _
  induction l with
  | nil => rfl
  | cons c l ih =>
    rw [List.countP_cons, ← ih]
    simp only [List.count_cons, List.sum_cons, List.sum_nil]
    by_cases h : signB c = true
    · have h' := h
      unfold signB at h'
      simp only [Bool.or_eq_true, beq_iff_eq] at h'
      rcases h' with ((rfl | rfl) | rfl) | rfl <;> simp [signB] <;> omega
    · rw [if_neg h]
      rw [Bool.not_eq_true] at h
      unfold signB at h
      simp only [Bool.or_eq_false_iff] at h
      obtain ⟨⟨⟨h1, h2⟩, h3⟩, h4⟩ := h
      rw [h1, h2, h3, h4]
      simp
theorem cntD_succ (l : Str) (k : Nat) (h : k < 4) : cntD l (k + 1) = cntD l k + l.count ((DE 0).getD k 0) := by
  match k, h with
  | 0, _ => simp [cntD, DE]
  | 1, _ => simp [cntD, DE]
  | 2, _ => simp [cntD, DE]; omega
  | 3, _ => simp [cntD, DE]; omega
theorem cntD_mono (l : Str) (k : Nat) (h : k ≤ 4) : cntD l k ≤ sgN l := by
  rw [← cntD_four]
  match k, h with
  | 0, _ => simp [cntD]
  | 1, _ => simp [cntD, DE]
  | 2, _ => simp [cntD, DE]
  | 3, _ => simp [cntD, DE]
  | 4, _ => exact Nat.le_refl _
theorem mem_DE (c : UInt8) : c ∈ DE 0 ↔ signB c = true := by
  unfold DE signB
  simp only [List.take, Nat.sub_zero, List.mem_cons, List.not_mem_nil, or_false, Bool.or_eq_true, beq_iff_eq]
  constructor
  · rintro (h | h | h | h) <;> simp [h]
  · rintro (((h | h) | h) | h) <;> simp [h]
/-- a table is full -/
def FullAt (w : World) (g : Nat) : Prop := ∃ B C tv, TabX w B g (DE 0) (DE 0) C tv
theorem FullAt.cong {w w' : World} {g : Nat} (h : FullAt w g) (e : ∀ k, k < w.heap.size → w'.heap[k]? = w.heap[k]?) : FullAt w' g := by
  obtain ⟨B, C, tv, h⟩ := h; exact ⟨B, C, tv, h.cong fun k _ hk => e k hk⟩
theorem FullAt.lt {w : World} {g : Nat} (h : FullAt w g) : g < w.heap.size := by
  obtain ⟨B, C, tv, h⟩ := h; exact h.lt
theorem FullAt.no {w : World} {g : Nat} (h : FullAt w g) {c : UInt8} (hc : signB c = false) : w.cell? ⟨g, c.toNat, none⟩ = some (.slice none 0 0) := by
  obtain ⟨B, C, tv, h⟩ := h
  exact (h.cell _).trans (h.no c (fun hm => by rw [mem_DE, hc] at hm; cases hm))
theorem FullAt.yes {w : World} {g : Nat} (h : FullAt w g) {c : UInt8} (hc : signB c = true) : ∃ b cap, w.cell? ⟨g, c.toNat, none⟩ = some (.slice (some ⟨b, 0, none⟩) 2 cap) ∧ 2 ≤ cap ∧ cap ≤ maxLen ∧ w.cell? ⟨b, 0, none⟩ = some (bv 63) ∧ w.cell? ⟨b, 1, none⟩ = some (bv c) := by
  obtain ⟨B, C, tv, h⟩ := h
  obtain ⟨b, cap, a1, a2, a3, a4, a5, a6, a7, a8⟩ := h.yes c ((mem_DE c).2 hc)
  exact ⟨b, cap, (h.cell _).trans a1, a2, a3, a7, a8⟩
theorem FullAt.names {w : World} {g : Nat} (h : FullAt w g) : ∃ nb cap, w.cell? ⟨g, 256, none⟩ = some (.slice (some ⟨nb, 0, none⟩) 4 cap) ∧ 4 ≤ cap ∧ cap ≤ maxLen ∧ ∀ k, k < 4 → w.cell? ⟨nb, k, none⟩ = some (.string ⟨#[(DE 0).getD k 0]⟩) := by
  obtain ⟨B, C, tv, h⟩ := h
  have ho : w.ownsRow B 9 1 tv 4 [sv [63], sv [39], sv [58], sv [43]] := h.own
  obtain ⟨nb, cap, cur, rfl, _, hh, h1, h2, h3, _⟩ := own_form ho (by omega) (by omega)
  refine ⟨nb, cap, (h.cell 256).trans h.at_, h1, h2, fun k hk => ?_⟩
  match k, hk with
  | 0, _ => exact own_cell ho rfl
  | 1, _ => exact own_cell ho rfl
  | 2, _ => exact own_cell ho rfl
  | 3, _ => exact own_cell ho rfl
end Go.Proofs.Ytpfkmklhfafkiaa
