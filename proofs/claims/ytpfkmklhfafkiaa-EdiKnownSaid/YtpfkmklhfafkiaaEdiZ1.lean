/-
  EdiZ1: words for the printer: flags by prefix, Clone, Builders that stay. No condition beyond those stated.
-/
import Derived.Test.YtpfkmklhfafkiaaEdiY8
namespace Go.Proofs.Ytpfkmklhfafkiaa
open Go.RowKit
def argE (es : List (List Str)) : Bool := es.any fun e => e.isEmpty
def signC (e : List Str) : Bool := e.any fun p => p.any badB
def signE (es : List (List Str)) : Bool := es.any signC
def longC (e : List Str) : Bool := e.any fun p => decide (256 < p.length)
def longE (es : List (List Str)) : Bool := es.any fun e => decide (8 < e.length) || longC e
def argS (s : Seg) : Bool := tagBad s.tag || argE s.elems
def longS (s : Seg) : Bool := decide (16 < s.elems.length) || longE s.elems
theorem argP_eq (l : List Seg) : argP l = l.any argS := rfl
theorem signP_eq (l : List Seg) : signP l = l.any fun s => signE s.elems := rfl
theorem longP_eq (l : List Seg) : longP l = (decide (64 < l.length) || l.any longS) := rfl
theorem any_take {α : Type} {l : List α} {k : Nat} {x : α} (f : α → Bool) (h : l[k]? = some x) : (l.take (k + 1)).any f = ((l.take k).any f || f x) := by
  rw [List.take_add_one, h]; simp [List.any_append]
theorem printT_take {l : List Seg} {k : Nat} {s : Seg} (h : l[k]? = some s) : printT (l.take (k + 1)) = printT (l.take k) ++ segT s := by
  rw [List.take_add_one, h]; simp [printT]
/-- the words of a segment, joined -/
theorem joinB_words (t : Str) (es : List (List Str)) : joinB 43 (t :: es.map elemT) ++ [39] = segT ⟨t, es⟩ := by
  unfold segT
  rw [joinB_cons, List.flatMap_map]
theorem map_take_succ {α β : Type} {l : List α} {k : Nat} {x : α} (f : α → β) (h : l[k]? = some x) : (l.take (k + 1)).map f = (l.take k).map f ++ [f x] := by
  rw [List.take_add_one, h]; simp
/-- parts when i of them are done -/
def partsL (e : List Str) (i : Nat) : List Str := (e.take i).map compT ++ e.drop i
theorem partsL_zero (e : List Str) : partsL e 0 = e := rfl
theorem partsL_all (e : List Str) : partsL e e.length = e.map compT := by unfold partsL; rw [List.take_length, List.drop_length, List.append_nil]
theorem partsL_len (e : List Str) (i : Nat) : (partsL e i).length = e.length := by unfold partsL; rw [List.length_append, List.length_map, ← List.length_append, List.take_append_drop]
theorem partsL_get {e : List Str} {i : Nat} {p : Str} (h : e[i]? = some p) : (partsL e i)[i]? = some p := by
  have hi : i < e.length := (List.getElem?_eq_some_iff.1 h).1
  unfold partsL
  rw [List.getElem?_append_right (by simp; omega), List.getElem?_drop]
  simp
  rw [show i + (i - min i e.length) = i by omega]; exact h
theorem partsL_set {e : List Str} {i : Nat} {p : Str} (h : e[i]? = some p) : (partsL e i).set i (compT p) = partsL e (i + 1) := by
  have hi : i < e.length := (List.getElem?_eq_some_iff.1 h).1
  have hd : e.drop i = p :: e.drop (i + 1) := by
    obtain ⟨_, he⟩ := List.getElem?_eq_some_iff.1 h
    rw [List.drop_eq_getElem_cons hi, he]
  unfold partsL
  rw [map_take_succ compT h, List.set_append_right _ _ (by simp; omega), hd]
  simp [Nat.min_eq_left (Nat.le_of_lt hi)]
theorem BldAt.cong {w w' : World} {B b : Nat} {l : Str} (h : BldAt w B b l) (e : ∀ (k : Nat) (C : Array Value) (f : Nat × Nat) (t : TypeId), w.heap[k]? = some (.cells C t f) → t ≠ 9 → w'.heap[k]? = w.heap[k]?) : BldAt w' B b l := by
  have H : ∀ p, Lib.BuilderAt 48 5 B b p (Lib.byteCells l) w → Lib.BuilderAt 48 5 B b p (Lib.byteCells l) w' := fun p ⟨hB, v, hb, ho, hn⟩ => by
    refine ⟨hB, v, (e b _ _ _ hb (by decide)).trans hb, own_cong ho (fun k hk => ?_), hn⟩
    obtain ⟨C, hC, _⟩ := own_ty ho hk
    exact e k _ _ _ hC (by decide)
  rcases h with h | h
  · exact .inl (H _ h)
  · exact .inr (H _ h)
theorem BldAt.cong' {w w' : World} {B b : Nat} {l : Str} (h : BldAt w B b l) (e : ∀ k, k < w.heap.size → w'.heap[k]? = w.heap[k]?) : BldAt w' B b l := BldAt.cong h fun k _ _ _ hk _ => e k (Array.getElem?_eq_some_iff.1 hk).1
theorem own_le {w : World} {B B' : Nat} {e : TypeId} {s n : Nat} {v : Value} {xs : List Value} (h : w.ownsRow B e s v n xs) (hB : B' ≤ B) : w.ownsRow B' e s v n xs := by
  obtain ⟨h1, h2 | ⟨g, cap, cur, hv, hg, hr⟩⟩ := h
  · exact ⟨h1, .inl h2⟩
  · exact ⟨h1, .inr ⟨g, cap, cur, hv, by omega, hr⟩⟩
/-- slices.Clone of components -/
theorem clone_any {S : Nat → Prop} (w : World) (v : Value) (e : List Str) (h : CompsAt S w v e) (hn : e.length ≤ 1048576) :
    Calls Try.prog 20 #[v] w fun r w' => ∃ v', r = .returned v' ∧ w'.ownsRow w.heap.size 9 1 v' e.length (e.map sv) ∧ Below w.heap.size w w' := by
  obtain ⟨ao, cap, rfl, h1, h2, h3, h4⟩ := h
  rw [List.length_map] at h1 ⊢
  cases ao with
  | none =>
    have h0 : e.length = 0 := by have := h3 rfl; omega
    refine (Try.slices_Clone_string_nil e.length cap w).mono fun r w' ⟨h, h'⟩ => ?_
    subst h'
    rw [h0, List.length_eq_zero_iff.1 h0]
    exact ⟨_, h, World.ownsRow_nil _ _ _ _, Below.refl _ _⟩
  | some a =>
    cases he : e with
    | nil =>
      refine (Try.slices_Clone_string_zero a cap w).mono fun r w' ⟨v', h, ho, _, hb⟩ => ?_
      exact ⟨v', h, ho, hb⟩
    | cons p q =>
      obtain ⟨b, off, hab, _, hc⟩ := h4 (by rw [he]; simp)
      cases hab
      rw [← he]
      have := Try.slices_Clone_string b off e.length cap (e.map fun s => ⟨s.toArray⟩) w (by rw [List.length_map]; exact Nat.le_refl _) (by omega) (fun j hj => by
        rw [List.length_map] at hj
        have hx : e[j]? = some e[j] := List.getElem?_eq_getElem hj
        rw [hc j (sv e[j]) (by rw [List.getElem?_map, hx]; rfl), List.getD_eq_getElem?_getD, List.getElem?_map, hx]; rfl)
      refine this.mono fun r w' ⟨v', h, ho, _, hb⟩ => ⟨v', h, ?_, hb⟩
      rw [List.take_of_length_le (by rw [List.length_map]; exact Nat.le_refl _), List.map_map] at ho
      exact ho
end Go.Proofs.Ytpfkmklhfafkiaa
