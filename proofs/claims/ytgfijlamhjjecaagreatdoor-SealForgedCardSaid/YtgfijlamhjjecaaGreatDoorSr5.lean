/-
  Texts EdiY8, EdiZ1, EdiA2, EdiA3, EdiA4, ShaP, ShaA, ShaB, Plan2, ShaC, one behind the other. No condition beyond those stated in each.
-/
import Derived.Test.YtgfijlamhjjecaaGreatDoorSr4
import Derived.Lib.Walk
import Derived.Lib.AppendStr
import Derived.Lib.Join
import Derived.Lib.UnsafeStr
import Derived.Laws.Externs
import Derived.Test.YtgfijlamhjjecaaGreatDoorSr1
import Derived.IntWalk
import Derived.BigQuiet
import Derived.Deep.QuietTactic
import Derived.StillTailTactics
import Derived.Deep.CutBlock
/-
  EdiY8: contracts of the Builder's WriteString, and of join. No condition beyond those stated.
-/
namespace Go.Proofs.YtgfijlamhjjecaaGreatDoor
open Go.RowKit
theorem lies_bld : liesAt Tryz.prog Tryz.prog.depth 203 (2 / Tryz.prog.cellsOf 203) 0 203 1 = true := by kernel_rfl
theorem size_bld : (Tryz.prog.info? 203).map (·.size) = some 2 := by kernel_rfl
set_option maxRecDepth 100000 in
set_option maxHeartbeats 1000000 in
theorem copyCheck_used (b : Nat) (w : World) (h0 : w.cell? ⟨b, 0, none⟩ = some (.pointer (some ⟨b, 0, none⟩))) :
    Calls Tryz.prog 167 #[.pointer (some ⟨b, 0, none⟩)] w fun e w' => e = .returned (.tuple #[]) ∧ w' = w := by
  obtain ⟨j, hj, _⟩ := Option.map_eq_some_iff.1 size_bld
  go_enter Tryz.func167, Tryz.ntmps167
  go_wp2
  rw [Lib.run_neq_ptr_same w _ Tryz.underlying201 hj]
  go_wp2
  go_end0
  exact ⟨rfl, rfl⟩
set_option maxRecDepth 100000 in
set_option maxHeartbeats 1000000 in
theorem copyCheck_fresh (b : Nat) (w : World) (h0 : w.cell? ⟨b, 0, none⟩ = some (.pointer none)) (hsh : w.shape? b = some (203, 2)) (hfz : w.frozen? ⟨b, 0, none⟩ = false) :
    Calls Tryz.prog 167 #[.pointer (some ⟨b, 0, none⟩)] w fun e w' => e = .returned (.tuple #[]) ∧ w' = w.setCell ⟨b, 0, none⟩ (.pointer (some ⟨b, 0, none⟩)) := by
  obtain ⟨j, hj, hjs⟩ := Option.map_eq_some_iff.1 size_bld
  go_enter Tryz.func167, Tryz.ntmps167
  go_wp2
  rw [Lib.run_to_unsafe w ⟨b, 0, none⟩ Tryz.underlying201 Tryz.underlying275 hj (by rw [hjs]; decide) hsh (Nat.zero_lt_succ 1)]
  simp only [Result.andThen]
  rw [Oper.upon_value]
  go_wp2
  rw [run_callFunc_extern Tryz.func185 (by kernel_rfl) (by kernel_rfl) (by kernel_rfl) (e := Extern.AbiNoEscape.same) (by kernel_rfl)]
  rw [Lib.run_noEscape]
  simp only [Result.andThen]
  rw [Oper.upon_value]
  go_wp2
  rw [Lib.run_from_unsafe w ⟨b, 0, none⟩ Tryz.underlying275 Tryz.underlying201 hj hsh lies_bld]
  simp only [Result.andThen]
  rw [Oper.upon_value]
  go_wp2
  go_end0
  exact ⟨rfl, rfl⟩
/-- a Builder in memory, and what it holds -/
def BldAt (w : World) (B b : Nat) (l : Str) : Prop := Lib.IsBuilder 203 5 B b (Lib.byteCells l) w
theorem copyCheck_any (B b : Nat) (bs : List Value) (w : World) (h : Lib.IsBuilder 203 5 B b bs w) :
    Calls Tryz.prog 167 #[.pointer (some ⟨b, 0, none⟩)] w fun e w' => e = .returned (.tuple #[]) ∧ Lib.BuilderAt 203 5 B b (.pointer (some ⟨b, 0, none⟩)) bs w' ∧ Below B w w' := by
  rcases h with h | h
  · refine (copyCheck_fresh b w h.cell0 h.shape h.frozen0).mono ?_
    rintro e w' ⟨rfl, rfl⟩
    exact ⟨rfl, h.used _, (Below.refl _ _).setCell h.1 _⟩
  · refine (copyCheck_used b w h.cell0).mono ?_
    rintro e w' ⟨rfl, rfl⟩
    exact ⟨rfl, h, Below.refl _ _⟩
set_option maxRecDepth 100000 in
set_option maxHeartbeats 2000000 in
theorem writeString_any (B b : Nat) (l : Str) (s : ByteArray) (w : World) (h : BldAt w B b l) (hlen : l.length + s.size ≤ 140737488355328) (hBw : B ≤ w.heap.size) :
    Calls Tryz.prog 141 #[.pointer (some ⟨b, 0, none⟩), .string s] w fun e w' => e = .returned (.tuple #[.int .i64 s.size, .nilIface]) ∧ BldAt w' B b (l ++ s.data.toList) ∧ Below B w w' := by
  obtain ⟨i0, hi, hz0, hz1, hz2⟩ := info_parts einfo_u8
  have hbl : (Lib.byteCells l).length = l.length := Lib.byteCells_length l
  obtain ⟨bs, hbs⟩ : ∃ bs, Lib.byteCells l = bs := ⟨_, rfl⟩
  have HBS := Lib.hid hbs
  unfold BldAt at h ⊢
  rw [hbs] at h hbl
  have hlen' : bs.length + s.size ≤ 140737488355328 := by omega
  have HC := Lib.hid (copyCheck_any B b bs w h)
  clear hbs hbl h hlen
  go_enter Tryz.func141, Tryz.ntmps141
  go_wp2_with (go_at_call 167; refine HC.out.mono ?_)
  rintro e w1 ⟨rfl, h1, hb1⟩
  obtain ⟨hB, v, hbk, hown, hne⟩ := h1
  have c0 : w1.cell? ⟨b, 0, none⟩ = some (.pointer (some ⟨b, 0, none⟩)) := by rw [cell_of_row w1 b 0 _ _ _ hbk]; rfl
  have c1 : w1.cell? ⟨b, 1, none⟩ = some v := by rw [cell_of_row w1 b 1 _ _ _ hbk]; rfl
  go_wp2_with (at_builtin; refine Lib.wpList_append_own_string _ rfl _ _ 72 9 rfl B 5 i0 Tryz.underlying72 Tryz.underlying9 hi hz0 hz1 hz2 _ _ _ rfl hown s rfl ?c3 ?c4 ?c5 ?_)
  case c3 => unfold maxLen; omega
  case c4 => omega
  case c5 => have := hb1.size; omega
  intro v' w2 hown' hgrow _
  have hlt : b < w1.heap.size := (Array.getElem?_eq_some_iff.1 hbk).1
  have hb2 : w2.heap[b]? = some (.cells #[.pointer (some ⟨b, 0, none⟩), v] 203 (0, 0)) := by
    rw [hgrow.block b hlt (fun e => hne e.symm)]
    exact hbk
  have d0 : w2.cell? ⟨b, 0, none⟩ = some (.pointer (some ⟨b, 0, none⟩)) := by rw [cell_of_row w2 b 0 _ _ _ hb2]; rfl
  have d1 : w2.cell? ⟨b, 1, none⟩ = some v := by rw [cell_of_row w2 b 1 _ _ _ hb2]; rfl
  have f1 : w2.frozen? ⟨b, 1, none⟩ = false := frozen_of_row w2 b 1 _ _ hb2
  obtain ⟨ao, n', cap, rfl⟩ : ∃ ao n' cap, v' = .slice ao n' cap := by
    rcases hown'.2 with ⟨hv, _⟩ | ⟨g, cap, cur, hv, _⟩
    · exact ⟨_, _, _, hv⟩
    · exact ⟨_, _, _, hv⟩
  go_wp2
  go_ret2
  refine ⟨rfl, .inr ?_, ?_⟩
  · have hbe : Lib.byteCells (l ++ s.data.toList) = bs ++ Lib.strCells s := by rw [← HBS.out]; simp [Lib.byteCells, Lib.strCells]
    rw [hbe]
    exact Lib.BuilderAt.put (T := 203) (e := 5) hB hb2 (bs' := bs ++ Lib.strCells s) (by simpa [Lib.strCells_length] using hown') (by decide)
  · exact (hb1.grown hgrow (by have := hb1.size; omega) (fun k hk => (hown.lt k hk).1)).setCell (p := ⟨b, 1, none⟩) hB _
theorem joinB_eq (c : UInt8) (xs : List Str) : joinB c xs = Lib.join xs [c] := by
  cases xs with
  | nil => rfl
  | cons a l =>
    rw [joinB_cons, Lib.join_cons, Lib.joinTail, List.flatMap_def]
    rfl
set_option maxRecDepth 100000 in
theorem join_any {S : Nat → Prop} (w : World) (c : UInt8) (v : Value) (xs : List Str) (h : CompsAt S w v xs) (hN : xs.length ≤ 1048576) (hl : (joinB c xs).length ≤ 140737488355328) :
    Calls Tryz.prog 140 #[.string ⟨#[c]⟩, v] w fun e w' => e = .returned (sv (joinB c xs)) ∧ Below w.heap.size w w' := by
  obtain ⟨ao, cap, rfl, h1, h2, h3, h4⟩ := h
  rw [List.length_map] at h1 ⊢
  have HJ : Hid (Calls Tryz.prog 166 #[.slice ao xs.length cap, .string ⟨#[c]⟩] w fun e w' => e = .returned (sv (joinB c xs)) ∧ Below w.heap.size w w') := Lib.hid (by
    cases xs with
    | nil => exact (Tryz.strings_Join_none ao cap ⟨#[c]⟩ w).mono (fun e w' ⟨h, h'⟩ => ⟨h, h' ▸ Below.refl _ _⟩)
    | cons a l =>
      obtain ⟨b, off, rfl, _, hc⟩ := h4 (by simp)
      have hb : b < w.heap.size := cell_lt' (hc 0 (sv a) (by simp))
      have hm : (((a :: l).map fun s => (⟨s.toArray⟩ : ByteArray)).map (·.data.toList)) = a :: l := by rw [List.map_map]; exact List.map_id _
      have := Tryz.strings_Join b off cap ((a :: l).map fun s => ⟨s.toArray⟩) ⟨#[c]⟩ w (fun j x hx => by
        rw [List.getElem?_map, Option.map_eq_some_iff] at hx
        obtain ⟨y, hy, rfl⟩ := hx
        exact hc j (sv y) (by rw [List.getElem?_map, hy]; rfl)) hb (by simp at hN ⊢; omega) (by simpa using h1) (by rw [hm, ← joinB_eq]; exact hl)
      rw [hm, ← joinB_eq, List.length_map] at this
      exact this)
  obtain ⟨J, hJ⟩ : ∃ J, sv (joinB c xs) = J := ⟨_, rfl⟩
  rw [hJ] at HJ ⊢
  clear hJ h3 h4
  go_enter Tryz.func140, Tryz.ntmps140
  go_wp2_with (go_at_call 166; refine HJ.out.mono ?_; rintro e w1 ⟨rfl, hb⟩)
  go_ret
  exact ⟨rfl, hb⟩
end Go.Proofs.YtgfijlamhjjecaaGreatDoor


/-
  EdiZ1: words for the printer: flags by prefix, Clone, Builders that stay. No condition beyond those stated.
-/
namespace Go.Proofs.YtgfijlamhjjecaaGreatDoor
open Go.RowKit
def argE (es : List (List Str)) : Bool := es.any fun e => e.isEmpty
def signC (e : List Str) : Bool := e.any fun p => p.any badB
def signE (es : List (List Str)) : Bool := es.any signC
def longC (e : List Str) : Bool := e.any fun p => decide (256 < p.length)
def longE (es : List (List Str)) : Bool := es.any fun e => decide (8 < e.length) || longC e
def argS (s : Seg) : Bool := tagBad s.tag || argE s.elems
def longS (s : Seg) : Bool := decide (16 < s.elems.length) || longE s.elems
theorem argP_eq (l : List Seg) : argP l = l.any argS := rfl
theorem signP_eq (l : List Seg) : signP l = l.any fun s => signE s.elems := rfl
theorem longP_eq (l : List Seg) : longP l = (decide (64 < l.length) || l.any longS) := rfl
theorem any_take {α : Type} {l : List α} {k : Nat} {x : α} (f : α → Bool) (h : l[k]? = some x) : (l.take (k + 1)).any f = ((l.take k).any f || f x) := by
  rw [List.take_add_one, h]; simp [List.any_append]
theorem printT_take {l : List Seg} {k : Nat} {s : Seg} (h : l[k]? = some s) : printT (l.take (k + 1)) = printT (l.take k) ++ segT s := by
  rw [List.take_add_one, h]; simp [printT]
/-- the words of a segment, joined -/
theorem joinB_words (t : Str) (es : List (List Str)) : joinB 43 (t :: es.map elemT) ++ [39] = segT ⟨t, es⟩ := by
  unfold segT
  rw [joinB_cons, List.flatMap_map]
theorem map_take_succ {α β : Type} {l : List α} {k : Nat} {x : α} (f : α → β) (h : l[k]? = some x) : (l.take (k + 1)).map f = (l.take k).map f ++ [f x] := by
  rw [List.take_add_one, h]; simp
/-- parts when i of them are done -/
def partsL (e : List Str) (i : Nat) : List Str := (e.take i).map compT ++ e.drop i
theorem partsL_all (e : List Str) : partsL e e.length = e.map compT := by unfold partsL; rw [List.take_length, List.drop_length, List.append_nil]
theorem partsL_len (e : List Str) (i : Nat) : (partsL e i).length = e.length := by unfold partsL; rw [List.length_append, List.length_map, ← List.length_append, List.take_append_drop]
theorem partsL_get {e : List Str} {i : Nat} {p : Str} (h : e[i]? = some p) : (partsL e i)[i]? = some p := by
  have hi : i < e.length := (List.getElem?_eq_some_iff.1 h).1
  unfold partsL
  rw [List.getElem?_append_right (by simp; omega), List.getElem?_drop]
  simp
  rw [show i + (i - min i e.length) = i by omega]; exact h
theorem partsL_set {e : List Str} {i : Nat} {p : Str} (h : e[i]? = some p) : (partsL e i).set i (compT p) = partsL e (i + 1) := by
  have hi : i < e.length := (List.getElem?_eq_some_iff.1 h).1
  have hd : e.drop i = p :: e.drop (i + 1) := by
    obtain ⟨_, he⟩ := List.getElem?_eq_some_iff.1 h
    rw [List.drop_eq_getElem_cons hi, he]
  unfold partsL
  rw [map_take_succ compT h, List.set_append_right _ _ (by simp; omega), hd]
  simp [Nat.min_eq_left (Nat.le_of_lt hi)]
theorem BldAt.cong {w w' : World} {B b : Nat} {l : Str} (h : BldAt w B b l) (e : ∀ (k : Nat) (C : Array Value) (f : Nat × Nat) (t : TypeId), w.heap[k]? = some (.cells C t f) → t ≠ 9 → w'.heap[k]? = w.heap[k]?) : BldAt w' B b l := by
  have H : ∀ p, Lib.BuilderAt 203 5 B b p (Lib.byteCells l) w → Lib.BuilderAt 203 5 B b p (Lib.byteCells l) w' := fun p ⟨hB, v, hb, ho, hn⟩ => by
    refine ⟨hB, v, (e b _ _ _ hb (by decide)).trans hb, own_cong ho (fun k hk => ?_), hn⟩
    obtain ⟨C, hC, _⟩ := own_ty ho hk
    exact e k _ _ _ hC (by decide)
  rcases h with h | h
  · exact .inl (H _ h)
  · exact .inr (H _ h)
theorem BldAt.cong' {w w' : World} {B b : Nat} {l : Str} (h : BldAt w B b l) (e : ∀ k, k < w.heap.size → w'.heap[k]? = w.heap[k]?) : BldAt w' B b l := BldAt.cong h fun k _ _ _ hk _ => e k (Array.getElem?_eq_some_iff.1 hk).1
theorem own_le {w : World} {B B' : Nat} {e : TypeId} {s n : Nat} {v : Value} {xs : List Value} (h : w.ownsRow B e s v n xs) (hB : B' ≤ B) : w.ownsRow B' e s v n xs := by
  obtain ⟨h1, h2 | ⟨g, cap, cur, hv, hg, hr⟩⟩ := h
  · exact ⟨h1, .inl h2⟩
  · exact ⟨h1, .inr ⟨g, cap, cur, hv, by omega, hr⟩⟩
/-- slices.Clone of components -/
theorem clone_any {S : Nat → Prop} (w : World) (v : Value) (e : List Str) (h : CompsAt S w v e) (hn : e.length ≤ 1048576) :
    Calls Tryz.prog 135 #[v] w fun r w' => ∃ v', r = .returned v' ∧ w'.ownsRow w.heap.size 9 1 v' e.length (e.map sv) ∧ Below w.heap.size w w' := by
  obtain ⟨ao, cap, rfl, h1, h2, h3, h4⟩ := h
  rw [List.length_map] at h1 ⊢
  cases ao with
  | none =>
    have h0 : e.length = 0 := by have := h3 rfl; omega
    refine (Tryz.slices_Clone_string_nil e.length cap w).mono fun r w' ⟨h, h'⟩ => ?_
    subst h'
    rw [h0, List.length_eq_zero_iff.1 h0]
    exact ⟨_, h, World.ownsRow_nil _ _ _ _, Below.refl _ _⟩
  | some a =>
    cases he : e with
    | nil =>
      refine (Tryz.slices_Clone_string_zero a cap w).mono fun r w' ⟨v', h, ho, _, hb⟩ => ?_
      exact ⟨v', h, ho, hb⟩
    | cons p q =>
      obtain ⟨b, off, hab, _, hc⟩ := h4 (by rw [he]; simp)
      cases hab
      rw [← he]
      have := Tryz.slices_Clone_string b off e.length cap (e.map fun s => ⟨s.toArray⟩) w (by rw [List.length_map]; exact Nat.le_refl _) (by omega) (fun j hj => by
        rw [List.length_map] at hj
        have hx : e[j]? = some e[j] := List.getElem?_eq_getElem hj
        rw [hc j (sv e[j]) (by rw [List.getElem?_map, hx]; rfl), List.getD_eq_getElem?_getD, List.getElem?_map, hx]; rfl)
      refine this.mono fun r w' ⟨v', h, ho, _, hb⟩ => ⟨v', h, ?_, hb⟩
      rw [List.take_of_length_le (by rw [List.length_map]; exact Nat.le_refl _), List.map_map] at ho
      exact ho
end Go.Proofs.YtgfijlamhjjecaaGreatDoor


/-
  EdiA2: reading of segments in memory; contract of heavy. No condition beyond those stated.
-/
namespace Go.Proofs.YtgfijlamhjjecaaGreatDoor
open Go.RowKit
section
variable {S : Nat → Prop} {w : World}
theorem SegsAt.form {v : Value} {l : List Seg} (h : SegsAt S w v l) : ∃ ao cap, v = .slice ao l.length cap ∧ l.length ≤ cap ∧ cap ≤ maxLen := by
  obtain ⟨ao, cap, xs, rfl, h1, h2, _⟩ := h; exact ⟨ao, cap, rfl, h1, h2⟩
theorem SegsAt.get {ao : Option Addr} {n cap : Nat} {l : List Seg} (h : SegsAt S w (.slice ao n cap) l) {k : Nat} {s : Seg} (hk : l[k]? = some s) : ∃ b off x, ao = some ⟨b, off, none⟩ ∧ S b ∧ w.cell? ⟨b, off + k * 2, none⟩ = some (sv s.tag) ∧ w.cell? ⟨b, off + k * 2 + 1, none⟩ = some x ∧ ElemsAt S w x s.elems := by
  obtain ⟨_, _, xs, e, h1, h2, h3, h4, h5, h6⟩ := h
  cases e
  obtain ⟨b, off, rfl, hS, h7⟩ := h6 (by intro e; rw [e] at hk; simp at hk)
  have hlt : k < xs.length := by rw [h4]; exact (List.getElem?_eq_some_iff.1 hk).1
  have hx := List.getElem?_eq_getElem hlt
  obtain ⟨a1, a2⟩ := h7 k s _ hk hx
  exact ⟨b, off, _, rfl, hS, a1, a2, h5 k s _ hk hx⟩
theorem ElemsAt.form {v : Value} {l : List (List Str)} (h : ElemsAt S w v l) : ∃ ao cap, v = .slice ao l.length cap ∧ l.length ≤ cap ∧ cap ≤ maxLen := by
  obtain ⟨xs, ⟨ao, cap, rfl, h1, h2, _⟩, h3, _⟩ := h; exact ⟨ao, cap, by rw [h3], by omega, h2⟩
theorem ElemsAt.get {ao : Option Addr} {n cap : Nat} {l : List (List Str)} (h : ElemsAt S w (.slice ao n cap) l) {k : Nat} {e : List Str} (hk : l[k]? = some e) : ∃ b off x, ao = some ⟨b, off, none⟩ ∧ S b ∧ w.cell? ⟨b, off + k, none⟩ = some x ∧ CompsAt S w x e := by
  obtain ⟨xs, ⟨_, _, e, h1, h2, h3, h4⟩, h5, h6⟩ := h
  cases e
  have hlt : k < xs.length := by rw [h5]; exact (List.getElem?_eq_some_iff.1 hk).1
  have hx := List.getElem?_eq_getElem hlt
  obtain ⟨b, off, rfl, hS, h7⟩ := h4 (by rintro rfl; simp at hlt)
  exact ⟨b, off, _, rfl, hS, h7 k _ hx, h6 k e _ hk hx⟩
theorem CompsAt.form {v : Value} {l : List Str} (h : CompsAt S w v l) : ∃ ao cap, v = .slice ao l.length cap ∧ l.length ≤ cap ∧ cap ≤ maxLen := by
  obtain ⟨ao, cap, rfl, h1, h2, _⟩ := h
  rw [List.length_map] at h1
  exact ⟨ao, cap, by rw [List.length_map], h1, h2⟩
theorem CompsAt.get {ao : Option Addr} {n cap : Nat} {l : List Str} (h : CompsAt S w (.slice ao n cap) l) {k : Nat} {p : Str} (hk : l[k]? = some p) : ∃ b off, ao = some ⟨b, off, none⟩ ∧ S b ∧ w.cell? ⟨b, off + k, none⟩ = some (sv p) := by
  obtain ⟨_, _, e, h1, h2, h3, h4⟩ := h
  cases e
  obtain ⟨b, off, rfl, hS, h7⟩ := h4 (by intro e; rw [List.map_eq_nil_iff] at e; rw [e] at hk; simp at hk)
  exact ⟨b, off, rfl, hS, h7 k _ (by rw [List.getElem?_map, hk]; rfl)⟩
end
def bytesC (e : List Str) : Nat := (e.map List.length).sum
def bytesE (es : List (List Str)) : Nat := (es.map bytesC).sum
def bytesL (l : List Seg) : Nat := (l.map fun s => bytesE s.elems).sum
/-- what is not heavy -/
structure LightS (l : List Seg) : Prop where
  n : l.length ≤ 80
  seg : ∀ s ∈ l, s.tag.length ≤ 300 ∧ s.elems.length ≤ 40
  el : ∀ s ∈ l, ∀ e ∈ s.elems, e.length ≤ 40
  bytes : bytesL l ≤ 3000
theorem joinT_le (e : List Str) : (elemT e).length ≤ 2 * bytesC e + e.length := by
  have h1 : ∀ l : List Str, (l.flatMap fun p => 58 :: compT p).length ≤ 2 * bytesC l + l.length := fun l => by
    induction l with
    | nil => simp [bytesC]
    | cons a l ih =>
      have := compT_len a
      have := sgN_le a
      simp only [List.flatMap_cons, List.length_append, List.length_cons, bytesC, List.map_cons, List.sum_cons] at ih ⊢
      omega
  cases e with
  | nil => simp [elemT, joinB]
  | cons p l =>
    have h := h1 l
    have := compT_len p
    have := sgN_le p
    rw [elemT_cons, List.length_append]
    unfold restT
    simp only [bytesC, List.map_cons, List.sum_cons, List.length_cons] at h ⊢
    omega
theorem segT_le (s : Seg) (h1 : ∀ e ∈ s.elems, e.length ≤ 40) : (segT s).length ≤ s.tag.length + 1 + 41 * s.elems.length + 2 * bytesE s.elems := by
  have key : ∀ es : List (List Str), (∀ e ∈ es, e.length ≤ 40) → (es.flatMap fun e => 43 :: elemT e).length ≤ 41 * es.length + 2 * bytesE es := fun es => by
    induction es with
    | nil => intro _; simp
    | cons a l ih =>
      intro h
      have h2 := ih fun e he => h e (List.mem_cons_of_mem _ he)
      have h3 := joinT_le a
      have h4 := h a List.mem_cons_self
      simp only [List.flatMap_cons, List.length_append, List.length_cons, bytesE, List.map_cons, List.sum_cons] at h2 ⊢
      omega
  have := key s.elems h1
  unfold segT
  simp only [List.length_append, List.length_cons, List.length_nil]
  omega
theorem LightS.print {l : List Seg} (h : LightS l) : (printT l).length ≤ 1048576 := by
  have key : ∀ m : List Seg, (∀ s ∈ m, s.tag.length ≤ 300 ∧ s.elems.length ≤ 40) → (∀ s ∈ m, ∀ e ∈ s.elems, e.length ≤ 40) → (printT m).length ≤ m.length * 1941 + 2 * bytesL m := fun m => by
    induction m with
    | nil => intro _ _; simp [printT]
    | cons a r ih =>
      intro h1 h2
      have h3 := ih (fun s hs => h1 s (List.mem_cons_of_mem _ hs)) (fun s hs => h2 s (List.mem_cons_of_mem _ hs))
      have h4 := segT_le a (h2 a List.mem_cons_self)
      have h5 := h1 a List.mem_cons_self
      simp only [printT, bytesL, List.flatMap_cons, List.length_append, List.map_cons, List.sum_cons, List.length_cons] at h3 ⊢
      omega
  have := key l h.seg h.el
  have := h.n
  have := h.bytes
  omega
def HeavyS (l : List Seg) (e : Ending) : Prop := ∃ b, e = .returned (.bool b) ∧ (b = false → LightS l)
theorem HeavyS.yes (l : List Seg) : HeavyS l (.returned (.bool true)) := ⟨true, rfl, fun h => by cases h⟩
end Go.Proofs.YtgfijlamhjjecaaGreatDoor


/-
  EdiA3: contract of Same: two lists of segments in memory. No condition beyond those stated.
-/
namespace Go.Proofs.YtgfijlamhjjecaaGreatDoor
open Go.RowKit
instance : DecidableEq Seg := fun a b => if h : a.tag = b.tag ∧ a.elems = b.elems then isTrue (by cases a; cases b; simp_all) else isFalse (by rintro rfl; exact h ⟨rfl, rfl⟩)
def sameB (l m : List Seg) : Bool := decide (l = m)
def Drew (w w' : World) : Prop := ∃ d, w' = w.drewN d
theorem Drew.below {w w' : World} (h : Drew w w') (B : Nat) : Below B w w' := by
  obtain ⟨d, rfl⟩ := h; exact below_drewN (Below.refl _ _) d
theorem Drew.heap {w w' : World} (h : Drew w w') : w'.heap = w.heap := by obtain ⟨d, rfl⟩ := h; rfl
theorem ret_bool {a b : Bool} (h : a = b) : Ending.returned (.bool a) = .returned (.bool b) := by rw [h]
theorem str_same (s : ByteArray) : (s.toList == s.toList) = true := by simp
theorem str_ne {s t : ByteArray} (h : s ≠ t) : (s.toList == t.toList) = false := by
  rw [beq_eq_false_iff_ne, ByteArray.toList_eq, ByteArray.toList_eq]
  intro e
  apply h
  cases s; cases t
  exact congrArg ByteArray.mk (Array.toList_inj.1 e)
end Go.Proofs.YtgfijlamhjjecaaGreatDoor


/-
  EdiA4: contracts of the reference's Tag and Sign; appends to owned bytes. No condition beyond those stated.
-/
namespace Go.Proofs.YtgfijlamhjjecaaGreatDoor
open Go.RowKit
theorem grown_alloc {w w' : World} {o : Obj} {row : Option Nat} (h : (w.alloc o).grownBy w' row) : w.grownBy w' row :=
  ⟨h.os, h.tape, h.output, by have := h.size; rw [World.size_alloc] at this; omega, fun k hk hne => (h.block k (by rw [World.size_alloc]; omega) hne).trans (Below.heap_alloc _ _ _ hk)⟩
/-- one byte more -/
theorem wp_app1 {ops : Array Oper} {rest : List Oper} {o : Oper} {a : Act} {Q : Exit → Act → World → Prop} (hgd : o.guard = none) (s x : Operand)
    (ho : o.op = .call { callee := .builtin .append, args := #[s, x], argTypes := #[72, 72] })
    {w : World} {B : Nat} {v : Value} {l : Str} (c : UInt8) (hs : a.eval s = v) (hx : a.eval x = .slice (some ⟨w.heap.size, 0, none⟩) 1 1) (hown : OwnS w B v l) (hl : l.length + 1 ≤ 140737488355328) (hB : B ≤ w.heap.size)
    (h : ∀ v' w', OwnS w' B v' (l ++ [c]) → w.grownBy w' v.ownBlock → wpList Tryz.prog ops Q rest (a.put o.dst v') w') :
    wpList Tryz.prog ops Q (o :: rest) a (w.alloc (.cells #[bv c] 5)) := by
  obtain ⟨i0, hi, hz0, hz1, hz2⟩ := info_parts einfo_u8
  refine wpList_append_own_at _ hgd s x 72 ho B 5 i0 (.int .u8 0) 1 1 Tryz.underlying72 hi hz0 hz1 hz2 rfl (by decide) v l.length (l.map bv) hs (World.ownsRow.alloc hown _) ⟨w.heap.size, 0, none⟩ 1 1 [bv c] hx rfl (cell_one_new _ _ _) (by simp [Value.oneCell', bv]) (by unfold maxLen; omega) (by omega) (by simp; omega) ?_
  intro v' w' h1 h2 _ _
  refine h v' w' ?_ (grown_alloc h2)
  unfold OwnS
  rw [List.length_append, List.map_append]
  exact h1
theorem OwnS.nil (w : World) (B : Nat) : OwnS w B (.slice none 0 0) [] := World.ownsRow_nil _ _ _ _
theorem OwnS.form {w : World} {B : Nat} {v : Value} {l : Str} (h : OwnS w B v l) : ∃ a c, v = .slice a l.length c := by
  obtain ⟨_, ⟨h1, h2⟩ | ⟨g, cap, _, h1, _⟩⟩ := h
  · exact ⟨none, 0, by rw [h1, h2]⟩
  · exact ⟨_, cap, h1⟩
theorem OwnS.cong {w w' : World} {B : Nat} {v : Value} {l : Str} (h : OwnS w B v l) (e : ∀ k, k < w.heap.size → w'.heap[k]? = w.heap[k]?) : OwnS w' B v l := own_cong h fun k hk => e k (own_lt h hk).2
theorem below_grownO {w0 w w' : World} {B : Nat} {v : Value} {l : Str} (h : Below B w0 w) (ho : OwnS w B v l) (hg : w.grownBy w' v.ownBlock) (hB : B ≤ w.heap.size) : Below B w0 w' := h.grown hg hB (fun _ hk => (own_lt ho hk).1)
end Go.Proofs.YtgfijlamhjjecaaGreatDoor


/-
  ShaP: SHA-256 and HMAC in plain words: a digest block by block, and of the whole. No condition beyond those stated.
-/
namespace Go.Proofs.YtgfijlamhjjecaaGreatDoor
def add32 (a b : Nat) : Nat := (a + b) % 4294967296
def rotN (x n : Nat) : Nat := x / 2 ^ n ||| (x * 2 ^ (32 - n)) % 4294967296
def bigS0 (x : Nat) : Nat := rotN x 2 ^^^ rotN x 13 ^^^ rotN x 22
def bigS1 (x : Nat) : Nat := rotN x 6 ^^^ rotN x 11 ^^^ rotN x 25
def smlS0 (x : Nat) : Nat := rotN x 7 ^^^ rotN x 18 ^^^ x / 8
def smlS1 (x : Nat) : Nat := rotN x 17 ^^^ rotN x 19 ^^^ x / 1024
def chN (e f g : Nat) : Nat := (e &&& f) ^^^ ((4294967295 - e) &&& g)
def majN (a b c : Nat) : Nat := (a &&& b) ^^^ (a &&& c) ^^^ (b &&& c)
/-- a list of words -/
def Wds (l : List Nat) : Prop := ∀ x ∈ l, x < 4294967296
theorem add32_lt (a b : Nat) : add32 a b < 4294967296 := Nat.mod_lt _ (by decide)
theorem or_lt32 {a b : Nat} (ha : a < 4294967296) (hb : b < 4294967296) : a ||| b < 4294967296 := Nat.or_lt_two_pow (n := 32) ha hb
theorem xor_lt32 {a b : Nat} (ha : a < 4294967296) (hb : b < 4294967296) : a ^^^ b < 4294967296 := Nat.xor_lt_two_pow (n := 32) ha hb
theorem and_lt32 {a b : Nat} (ha : a < 4294967296) : a &&& b < 4294967296 := Nat.lt_of_le_of_lt Nat.and_le_left ha
theorem rotN_lt {x n : Nat} (h : x < 4294967296) : rotN x n < 4294967296 :=
  or_lt32 (Nat.lt_of_le_of_lt (Nat.div_le_self _ _) h) (Nat.mod_lt _ (by decide))
/-- the words of the rounds -/
def shaK : List Nat := [0x428a2f98, 0x71374491, 0xb5c0fbcf, 0xe9b5dba5, 0x3956c25b, 0x59f111f1, 0x923f82a4, 0xab1c5ed5,
  0xd807aa98, 0x12835b01, 0x243185be, 0x550c7dc3, 0x72be5d74, 0x80deb1fe, 0x9bdc06a7, 0xc19bf174,
  0xe49b69c1, 0xefbe4786, 0x0fc19dc6, 0x240ca1cc, 0x2de92c6f, 0x4a7484aa, 0x5cb0a9dc, 0x76f988da,
  0x983e5152, 0xa831c66d, 0xb00327c8, 0xbf597fc7, 0xc6e00bf3, 0xd5a79147, 0x06ca6351, 0x14292967,
  0x27b70a85, 0x2e1b2138, 0x4d2c6dfc, 0x53380d13, 0x650a7354, 0x766a0abb, 0x81c2c92e, 0x92722c85,
  0xa2bfe8a1, 0xa81a664b, 0xc24b8b70, 0xc76c51a3, 0xd192e819, 0xd6990624, 0xf40e3585, 0x106aa070,
  0x19a4c116, 0x1e376c08, 0x2748774c, 0x34b0bcb5, 0x391c0cb3, 0x4ed8aa4a, 0x5b9cca4f, 0x682e6ff3,
  0x748f82ee, 0x78a5636f, 0x84c87814, 0x8cc70208, 0x90befffa, 0xa4506ceb, 0xbef9a3f7, 0xc67178f2]
/-- four bytes, a word -/
def word4 (b : Str) (i : Nat) : Nat := (b.getD (4 * i) 0).toNat * 16777216 + (b.getD (4 * i + 1) 0).toNat * 65536 + (b.getD (4 * i + 2) 0).toNat * 256 + (b.getD (4 * i + 3) 0).toNat
theorem word4_lt (b : Str) (i : Nat) : word4 b i < 4294967296 := by
  have h0 := (b.getD (4 * i) 0).toNat_lt
  have h1 := (b.getD (4 * i + 1) 0).toNat_lt
  have h2 := (b.getD (4 * i + 2) 0).toNat_lt
  have h3 := (b.getD (4 * i + 3) 0).toNat_lt
  unfold word4; omega
def words16 (b : Str) : List Nat := (List.range 16).map (word4 b)
/-- a word more, behind sixteen and more -/
def wnext (l : List Nat) (i : Nat) : Nat := add32 (add32 (add32 (l.getD (i - 16) 0) (l.getD (i - 7) 0)) (smlS0 (l.getD (i - 15) 0))) (smlS1 (l.getD (i - 2) 0))
def wext (l : List Nat) : Nat → List Nat
  | 0 => l
  | n + 1 => wext l n ++ [wnext (wext l n) (16 + n)]
theorem wext_len {l : List Nat} (h : l.length = 16) : ∀ n, (wext l n).length = 16 + n
  | 0 => h
  | n + 1 => by unfold wext; rw [List.length_append, wext_len h n]; rfl
theorem wext_wds {l : List Nat} (h : Wds l) : ∀ n, Wds (wext l n)
  | 0 => h
  | n + 1 => by
    unfold wext
    intro x hx
    rcases List.mem_append.1 hx with hx | hx
    · exact wext_wds h n x hx
    · rw [List.mem_singleton.1 hx]; exact add32_lt _ _
theorem words16_len (b : Str) : (words16 b).length = 16 := by simp [words16]
theorem words16_wds (b : Str) : Wds (words16 b) := by
  intro x hx
  obtain ⟨i, _, rfl⟩ := List.mem_map.1 hx
  exact word4_lt b i
theorem getD_lt {l : List Nat} (h : Wds l) (i : Nat) : l.getD i 0 < 4294967296 := by
  rw [List.getD_eq_getElem?_getD]
  by_cases hi : i < l.length
  · rw [List.getElem?_eq_getElem hi]; exact h _ (List.getElem_mem hi)
  · rw [List.getElem?_eq_none (by omega)]; decide
/-- eight words, and a round -/
structure V8 where
  a : Nat
  b : Nat
  c : Nat
  d : Nat
  e : Nat
  f : Nat
  g : Nat
  h : Nat
def V8.l (v : V8) : List Nat := [v.a, v.b, v.c, v.d, v.e, v.f, v.g, v.h]
def V8.ok (v : V8) : Prop := v.a < 4294967296 ∧ v.b < 4294967296 ∧ v.c < 4294967296 ∧ v.d < 4294967296 ∧ v.e < 4294967296 ∧ v.f < 4294967296 ∧ v.g < 4294967296 ∧ v.h < 4294967296
def tN (v : V8) (k w : Nat) : Nat := add32 (add32 (add32 (add32 v.h (bigS1 v.e)) (chN v.e v.f v.g)) k) w
def uN (v : V8) : Nat := add32 (bigS0 v.a) (majN v.a v.b v.c)
def rnd (v : V8) (k w : Nat) : V8 := ⟨add32 (tN v k w) (uN v), v.a, v.b, v.c, add32 v.d (tN v k w), v.e, v.f, v.g⟩
theorem rnd_ok {v : V8} (h : v.ok) (k w : Nat) : (rnd v k w).ok := by
  obtain ⟨h1, h2, h3, h4, h5, h6, h7, h8⟩ := h
  exact ⟨add32_lt _ _, h1, h2, h3, add32_lt _ _, h5, h6, h7⟩
def rnds (v : V8) (ws : List Nat) : Nat → V8
  | 0 => v
  | n + 1 => rnd (rnds v ws n) (shaK.getD n 0) (ws.getD n 0)
theorem rnds_ok {v : V8} (h : v.ok) (ws : List Nat) : ∀ n, (rnds v ws n).ok
  | 0 => h
  | n + 1 => rnd_ok (rnds_ok h ws n) _ _
def plus8 (s v : V8) : V8 := ⟨add32 s.a v.a, add32 s.b v.b, add32 s.c v.c, add32 s.d v.d, add32 s.e v.e, add32 s.f v.f, add32 s.g v.g, add32 s.h v.h⟩
theorem plus8_ok (s v : V8) : (plus8 s v).ok := ⟨add32_lt _ _, add32_lt _ _, add32_lt _ _, add32_lt _ _, add32_lt _ _, add32_lt _ _, add32_lt _ _, add32_lt _ _⟩
def mixN (s : V8) (b : Str) : V8 := plus8 s (rnds s (wext (words16 b) 48) 64)
def V8i : V8 := ⟨0x6a09e667, 0xbb67ae85, 0x3c6ef372, 0xa54ff53a, 0x510e527f, 0x9b05688c, 0x1f83d9ab, 0x5be0cd19⟩
theorem V8i_ok : V8i.ok := by unfold V8.ok V8i; decide
/-- block by block: so many blocks -/
def mixB (s : V8) (b : Str) : Nat → V8
  | 0 => s
  | n + 1 => mixN (mixB s b n) ((b.drop (64 * n)).take 64)
theorem mixB_ok {s : V8} (h : s.ok) (b : Str) : ∀ n, (mixB s b n).ok
  | 0 => h
  | _ + 1 => plus8_ok _ _
/-- of what was written, the blocks; what is left -/
def shaW (b : Str) : V8 := mixB V8i b (b.length / 64)
def shaL (b : Str) : Str := b.drop (64 * (b.length / 64))
theorem shaL_len (b : Str) : (shaL b).length = b.length % 64 := by unfold shaL; rw [List.length_drop]; omega
theorem mixB_app (s : V8) (a b : Str) : ∀ n, 64 * n ≤ a.length → mixB s (a ++ b) n = mixB s a n
  | 0, _ => rfl
  | n + 1, h => by
    unfold mixB
    rw [mixB_app s a b n (by omega), List.drop_append_of_le_length (by omega), List.take_append_of_le_length (by rw [List.length_drop]; omega)]
theorem mixB_more (s : V8) (b : Str) (m : Nat) : ∀ n, 64 * m ≤ b.length → mixB s b (m + n) = mixB (mixB s b m) (b.drop (64 * m)) n
  | 0, _ => rfl
  | n + 1, h => by
    show mixN (mixB s b (m + n)) ((b.drop (64 * (m + n))).take 64) = mixN (mixB (mixB s b m) (b.drop (64 * m)) n) (((b.drop (64 * m)).drop (64 * n)).take 64)
    rw [mixB_more s b m n h, List.drop_drop, show 64 * (m + n) = 64 * m + 64 * n by omega]
theorem shaW_app (a b : Str) : shaW (a ++ b) = mixB (shaW a) (shaL a ++ b) ((shaL a ++ b).length / 64) := by
  unfold shaW shaL
  have e : (a ++ b).length / 64 = a.length / 64 + (a.drop (64 * (a.length / 64)) ++ b).length / 64 := by
    rw [List.length_append, List.length_append, List.length_drop]; omega
  rw [e, mixB_more _ _ _ _ (by rw [List.length_append]; omega), mixB_app _ a b _ (by omega), List.drop_append_of_le_length (by omega)]
theorem shaL_app (a b : Str) : shaL (a ++ b) = (shaL a ++ b).drop (64 * ((shaL a ++ b).length / 64)) := by
  unfold shaL
  have e : 64 * ((a ++ b).length / 64) = 64 * (a.length / 64) + 64 * ((a.drop (64 * (a.length / 64)) ++ b).length / 64) := by
    rw [List.length_append, List.length_append, List.length_drop]; omega
  rw [e, ← List.drop_drop, List.drop_append_of_le_length (by omega)]
/-- a number's eight bytes, the greatest ahead -/
def be8 (n : Nat) : Str := (List.range 8).map fun i => UInt8.ofNat (n / 2 ^ (56 - 8 * i))
def padZ (n : Nat) : Nat := (119 - n % 64) % 64
def shaT (n : Nat) : Str := 128 :: List.replicate (padZ n) 0 ++ be8 (n * 8)
def filled (b : Str) : Str := b ++ shaT b.length
theorem be8_len (n : Nat) : (be8 n).length = 8 := by simp [be8]
def dig (v : V8) : Str := (List.range 32).map fun i => UInt8.ofNat (v.l.getD (i / 4) 0 / 2 ^ (24 - i % 4 * 8))
theorem dig_len (v : V8) : (dig v).length = 32 := by simp [dig]
def shaM (b : Str) : Str := dig (shaW (filled b))
theorem shaM_len (b : Str) : (shaM b).length = 32 := dig_len _
/-- the block of a key -/
def keyB (key : Str) : Str := if 64 < key.length then shaM key else key
def blkM (key : Str) (by_ : UInt8) : Str := (List.range 64).map fun i => (keyB key).getD i 0 ^^^ by_
theorem blkM_len (key : Str) (c : UInt8) : (blkM key c).length = 64 := by simp [blkM]
theorem keyB_len (key : Str) : (keyB key).length ≤ 64 := by
  unfold keyB; split
  · rw [shaM_len]; omega
  · omega
def macM (key b : Str) : Str := shaM (blkM key 92 ++ shaM (blkM key 54 ++ b))
theorem macM_len (key b : Str) : (macM key b).length = 32 := shaM_len _
end Go.Proofs.YtgfijlamhjjecaaGreatDoor


/-
  ShaA: contracts of sha's turn and three, and of the reference's turned. No condition beyond those stated.
-/
namespace Go.Proofs.YtgfijlamhjjecaaGreatDoor
open Go.RowKit
theorem rot_bits {x m : Nat} (hx : x < 4294967296) : bits .or .u32 ((x : Int) / 2 ^ m) ((x : Int) * 2 ^ (32 - m) % 4294967296) = ((rotN x m : Nat) : Int) := by
  have e1 : (x : Int) / 2 ^ m = ((x / 2 ^ m : Nat) : Int) := by rw [Int.natCast_ediv, Int.natCast_pow]; rfl
  have e2 : (x : Int) * 2 ^ (32 - m) % 4294967296 = ((x * 2 ^ (32 - m) % 4294967296 : Nat) : Int) := by rw [Int.natCast_emod, Int.natCast_mul, Int.natCast_pow]; rfl
  rw [e1, e2, u32_or_nat _ _ (Nat.lt_of_le_of_lt (Nat.div_le_self _ _) hx) (Nat.mod_lt _ (by decide))]
  rfl
theorem xor_bits {x y : Nat} (hx : x < 4294967296) (hy : y < 4294967296) : bits .xor .u32 (x : Int) (y : Int) = ((x ^^^ y : Nat) : Int) := u32_xor_nat x y hx hy
set_option maxHeartbeats 2000000 in
theorem turn_any (x : Nat) (n : Int) (m : Nat) (hm : n = (m : Int)) (h1 : m < 32) (hx : x < 4294967296) (w : World) :
    Calls Tryz.prog 169 #[.int .u32 (x : Int), .int .i64 n] w fun e w' => e = .returned (.int .u32 ((rotN x m : Nat) : Int)) ∧ ∃ d, w' = w.drewN d := by
  subst hm
  have hm0 : (0 : Int) ≤ 32 - (m : Int) := by omega
  have g1 : IntKind.i64.wrap (32 - (m : Int)) = 32 - (m : Int) := IntWalk.i64_in _ (by omega)
  have HR := Lib.hid (rot_bits (m := m) hx)
  go_enter Tryz.func169, Tryz.ntmps169
  go_wp2_with fail
  go_quiet (fail)
  go_wp2_with fail
  go_ret
  exact ⟨by rw [← HR.out]; rfl, _, rfl⟩
def RetW (v : Nat) (w : World) (e : Ending) (w' : World) : Prop := e = .returned (.int .u32 (v : Int)) ∧ ∃ d, w' = w.drewN d
set_option maxHeartbeats 2000000 in
theorem three_any (x : Nat) (a' b' c' : Int) (a b c : Nat) (ha : a' = (a : Int)) (hb : b' = (b : Int)) (hc : c' = (c : Int)) (h1 : a < 32) (h2 : b < 32) (h3 : c < 32) (hx : x < 4294967296) (w : World) :
    Calls Tryz.prog 171 #[.int .u32 (x : Int), .int .i64 a', .int .i64 b', .int .i64 c'] w fun e w' => RetW (rotN x a ^^^ rotN x b ^^^ rotN x c) w e w' := by
  subst ha hb hc
  obtain ⟨p, hp⟩ : ∃ p, rotN x a = p := ⟨_, rfl⟩
  obtain ⟨q, hq⟩ : ∃ q, rotN x b = q := ⟨_, rfl⟩
  obtain ⟨r, hr⟩ : ∃ r, rotN x c = r := ⟨_, rfl⟩
  have e1 := fun w => turn_any x a a rfl h1 hx w
  have e2 := fun w => turn_any x b b rfl h2 hx w
  have e3 := fun w => turn_any x c c rfl h3 hx w
  have hpl := rotN_lt (n := a) hx
  have hql := rotN_lt (n := b) hx
  have hrl := rotN_lt (n := c) hx
  rw [hp] at e1 hpl ⊢
  rw [hq] at e2 hql ⊢
  rw [hr] at e3 hrl ⊢
  have E1 := Lib.hid e1
  have E2 := Lib.hid e2
  have E3 := Lib.hid e3
  have x1 := xor_bits hpl hql
  have x2 := xor_bits (xor_lt32 hpl hql) hrl
  clear hp hq hr e1 e2 e3
  go_enter Tryz.func171, Tryz.ntmps171
  go_wp2_with (first | (go_at_call 169; (with_reducible refine (E1.out _).mono ?_); rintro e w1 ⟨rfl, n1, rfl⟩) | (go_at_call 169; (with_reducible refine (E2.out _).mono ?_); rintro e w2 ⟨rfl, n2, rfl⟩) | (go_at_call 169; (with_reducible refine (E3.out _).mono ?_); rintro e w3 ⟨rfl, n3, rfl⟩))
  go_ret
  exact ⟨rfl, _, rfl⟩
end Go.Proofs.YtgfijlamhjjecaaGreatDoor


/-
  ShaB: contract of a round of sha's mix (the closure). No condition beyond those stated.
-/
namespace Go.Proofs.YtgfijlamhjjecaaGreatDoor
open Go.RowKit
def uv (x : Nat) : Value := .int .u32 (x : Int)
def W8c (v : V8) : List Value := v.l.map uv
theorem cells_w8 {w : World} {b : Nat} {v : V8} {t : TypeId} (h : w.heap[b]? = some (.cells (W8c v).toArray t (0, 0))) :
    (w.cell? ⟨b, 0, none⟩ = some (.int .u32 (v.a : Int)) ∧ w.cell? ⟨b, 1, none⟩ = some (.int .u32 (v.b : Int)) ∧ w.cell? ⟨b, 2, none⟩ = some (.int .u32 (v.c : Int)) ∧ w.cell? ⟨b, 3, none⟩ = some (.int .u32 (v.d : Int)) ∧ w.cell? ⟨b, 4, none⟩ = some (.int .u32 (v.e : Int)) ∧ w.cell? ⟨b, 5, none⟩ = some (.int .u32 (v.f : Int)) ∧ w.cell? ⟨b, 6, none⟩ = some (.int .u32 (v.g : Int)) ∧ w.cell? ⟨b, 7, none⟩ = some (.int .u32 (v.h : Int))) ∧
    (∀ j, w.frozen? ⟨b, j, none⟩ = false) :=
  ⟨⟨cell_of_row w b 0 _ _ _ h, cell_of_row w b 1 _ _ _ h, cell_of_row w b 2 _ _ _ h, cell_of_row w b 3 _ _ _ h, cell_of_row w b 4 _ _ _ h, cell_of_row w b 5 _ _ _ h, cell_of_row w b 6 _ _ _ h, cell_of_row w b 7 _ _ _ h⟩, fun j => frozen_of_row w b j _ _ h⟩
theorem and_bits {x y : Nat} (hx : x < 4294967296) (hy : y < 4294967296) : bits .and .u32 (x : Int) (y : Int) = ((x &&& y : Nat) : Int) := u32_and_nat x y hx hy
theorem not_bits {x : Nat} (hx : x < 4294967296) : bits .xor .u32 (if IntKind.u32.signed = true then -1 else IntKind.u32.max) (x : Int) = ((4294967295 - x : Nat) : Int) := by
  have e : (if IntKind.u32.signed = true then -1 else IntKind.u32.max) = ((4294967295 : Nat) : Int) := by decide
  rw [e, u32_xor_nat _ _ (by decide) hx]
  congr 1
  apply Nat.eq_of_testBit_eq
  intro i
  rw [Nat.testBit_xor, show 4294967295 = 2 ^ 32 - 1 by decide, Nat.testBit_two_pow_sub_one, show 2 ^ 32 - 1 - x = 2 ^ 32 - (x + 1) by omega, Nat.testBit_two_pow_sub_succ (by omega)]
  by_cases h : i < 32
  · simp [h]
  · have : x.testBit i = false := Nat.testBit_lt_two_pow (Nat.lt_of_lt_of_le hx (by
      have : 2 ^ 32 ≤ 2 ^ i := Nat.pow_le_pow_right (by omega) (by omega)
      simpa using this))
    simp [h, this]
theorem add_bits (x y : Nat) : ((x : Int) + (y : Int)) % 4294967296 = ((add32 x y : Nat) : Int) := by unfold add32; omega
set_option maxRecDepth 100000 in
set_option maxHeartbeats 4000000 in
theorem round_any (v : V8) (hv : v.ok) (k x i : Nat) (hi : i < 64) (vb wb : Nat) (w : World) (hV : w.heap[vb]? = some (.cells (W8c v).toArray 189 (0, 0)))
    (hK : w.cell? ⟨0, i, none⟩ = some (.int .u32 (k : Int))) (hW : w.cell? ⟨wb, i, none⟩ = some (.int .u32 (x : Int))) :
    Calls Tryz.prog 170 #[.int .i64 (i : Int), .pointer (some ⟨vb, 0, none⟩), .pointer (some ⟨wb, 0, none⟩)] w fun e w' => e = .returned (.tuple #[]) ∧ w'.heap[vb]? = some (.cells (W8c (rnd v k x)).toArray 189 (0, 0)) ∧ Fr [vb] w w' := by
  obtain ⟨⟨c0, c1, c2, c3, c4, c5, c6, c7⟩, f0⟩ := cells_w8 hV
  have HOK := Lib.hid hv
  obtain ⟨h1, h2, h3, h4, h5, h6, h7, h8⟩ := hv
  have b1 : (0 : Int) ≤ i := by omega
  have b2 : (i : Int) < 64 := by omega
  have HV := Lib.hid hV
  have t1 := fun w => three_any v.e 6 11 25 6 11 25 rfl rfl rfl (by decide) (by decide) (by decide) h5 w
  have t2 := fun w => three_any v.a 2 13 22 2 13 22 rfl rfl rfl (by decide) (by decide) (by decide) h1 w
  obtain ⟨p, hp⟩ : ∃ p, rotN v.e 6 ^^^ rotN v.e 11 ^^^ rotN v.e 25 = p := ⟨_, rfl⟩
  obtain ⟨q, hq⟩ : ∃ q, rotN v.a 2 ^^^ rotN v.a 13 ^^^ rotN v.a 22 = q := ⟨_, rfl⟩
  rw [hp] at t1
  rw [hq] at t2
  have T1 := Lib.hid t1
  have T2 := Lib.hid t2
  -- the sums of t
  have a1 := and_bits h5 h6
  have a1l := and_lt32 (b := v.f) h5
  obtain ⟨x1, hx1⟩ : ∃ u, v.e &&& v.f = u := ⟨_, rfl⟩
  rw [hx1] at a1 a1l
  have a2 := not_bits h5
  obtain ⟨x2, hx2⟩ : ∃ u, 4294967295 - v.e = u := ⟨_, rfl⟩
  have a2l : x2 < 4294967296 := by omega
  rw [hx2] at a2
  have a3 := and_bits a2l h7
  have a3l := and_lt32 (b := v.g) a2l
  obtain ⟨x3, hx3⟩ : ∃ u, x2 &&& v.g = u := ⟨_, rfl⟩
  rw [hx3] at a3 a3l
  have a4 := xor_bits a1l a3l
  obtain ⟨x4, hx4⟩ : ∃ u, x1 ^^^ x3 = u := ⟨_, rfl⟩
  rw [hx4] at a4
  have s1 := add_bits v.h p
  obtain ⟨y1, hy1⟩ : ∃ u, add32 v.h p = u := ⟨_, rfl⟩
  rw [hy1] at s1
  have s2 := add_bits y1 x4
  obtain ⟨y2, hy2⟩ : ∃ u, add32 y1 x4 = u := ⟨_, rfl⟩
  rw [hy2] at s2
  have s3 := add_bits y2 k
  obtain ⟨y3, hy3⟩ : ∃ u, add32 y2 k = u := ⟨_, rfl⟩
  rw [hy3] at s3
  have s4 := add_bits y3 x
  obtain ⟨y4, hy4⟩ : ∃ u, add32 y3 x = u := ⟨_, rfl⟩
  rw [hy4] at s4
  have HT : Hid (tN v k x = y4) := Lib.hid (by unfold tN bigS1 chN; rw [hp, hy1, hx1, hx2, hx3, hx4, hy2, hy3, hy4])
  clear hx1 hx2 hx3 hx4 hy1 hy2 hy3 hy4 t1 t2 hV hp a1l a2l a3l
  -- the sums of u
  have d1 := and_bits h1 h2
  have d1l := and_lt32 (b := v.b) h1
  obtain ⟨z1, hz1⟩ : ∃ u, v.a &&& v.b = u := ⟨_, rfl⟩
  rw [hz1] at d1 d1l
  have d2 := and_bits h1 h3
  have d2l := and_lt32 (b := v.c) h1
  obtain ⟨z2, hz2⟩ : ∃ u, v.a &&& v.c = u := ⟨_, rfl⟩
  rw [hz2] at d2 d2l
  have d3 := and_bits h2 h3
  have d3l := and_lt32 (b := v.c) h2
  obtain ⟨z3, hz3⟩ : ∃ u, v.b &&& v.c = u := ⟨_, rfl⟩
  rw [hz3] at d3 d3l
  have d4 := xor_bits d1l d2l
  have d4l := xor_lt32 d1l d2l
  obtain ⟨z4, hz4⟩ : ∃ u, z1 ^^^ z2 = u := ⟨_, rfl⟩
  rw [hz4] at d4 d4l
  have d5 := xor_bits d4l d3l
  obtain ⟨z5, hz5⟩ : ∃ u, z4 ^^^ z3 = u := ⟨_, rfl⟩
  rw [hz5] at d5
  have d6 := add_bits q z5
  obtain ⟨z6, hz6⟩ : ∃ u, add32 q z5 = u := ⟨_, rfl⟩
  rw [hz6] at d6
  have HU : Hid (uN v = z6) := Lib.hid (by unfold uN bigS0 majN; rw [hq, hz1, hz2, hz3, hz4, hz5, hz6])
  have r1 := add_bits v.d y4
  have r2 := add_bits y4 z6
  obtain ⟨o1, ho1⟩ : ∃ u, add32 v.d y4 = u := ⟨_, rfl⟩
  obtain ⟨o2, ho2⟩ : ∃ u, add32 y4 z6 = u := ⟨_, rfl⟩
  rw [ho1] at r1
  rw [ho2] at r2
  have HR : Hid (rnd v k x = ⟨o2, v.a, v.b, v.c, o1, v.e, v.f, v.g⟩) := Lib.hid (by unfold rnd; rw [HT.out, HU.out, ho1, ho2])
  clear hz1 hz2 hz3 hz4 hz5 hz6 hq d1l d2l d3l d4l HT HU ho1 ho2
  go_enter Tryz.func170, Tryz.ntmps170
  go_upto_region 1 with fail
  go_quiet ((go_at_call 171; exact Calls.quiet_of (T1.out _)))
  clear a1 a2 a3 a4 s1 s2 s3
  generalize hw1 : w.drewN _ = w1
  have HV1 : Hid (w1.heap[vb]? = some (.cells (W8c v).toArray 189 (0, 0))) := Lib.hid (by rw [← hw1]; exact HV.out)
  have HF1 : Hid (Fr [vb] w w1) := Lib.hid (by rw [← hw1]; exact Fr.drewN _ _ _)
  clear c0 c1 c2 c3 c4 c5 c6 c7 hK hW hw1 f0
  obtain ⟨⟨c0, c1, c2, c3, c4, c5, c6, c7⟩, f0⟩ := cells_w8 HV1.out
  clear f0
  go_wp2_with fail
  go_quiet ((go_at_call 171; exact Calls.quiet_of (T2.out _)))
  generalize hw2 : w1.drewN _ = w2
  have HV2 : Hid (w2.heap[vb]? = some (.cells (W8c v).toArray 189 (0, 0))) := Lib.hid (by rw [← hw2]; exact HV1.out)
  have HF2 : Hid (Fr [vb] w w2) := Lib.hid (by rw [← hw2]; exact HF1.out.trans (Fr.drewN _ _ _))
  clear d1 d2 d3 d4 d5 c0 c1 c2 c3 c4 c5 c6 c7 hw2
  go_wp2_with fail
  go_still_tail 2, (by kernel_rfl)
  refine wpList_val rfl (exec_copy rfl rfl rfl (fun ty => run_copy_row (P := Tryz.prog) w2.drew 260 260 ty 28 vb 1 7 7 ⟨vb, 0, none⟩ 7 8 (W8c v).toArray 189 [uv v.a, uv v.b, uv v.c, uv v.d, uv v.e, uv v.f, uv v.g] Tryz.underlying260 (by kernel_rfl) HV2.out rfl (fun j u hu => ?c1) (by show 1 + 7 ≤ 8; decide) (fun u hu => ?c2))) ?_
  case c1 =>
    rw [Addr.add_mid, Nat.zero_add, cell_of_row w2.drew vb j _ _ _ HV2.out, List.getElem?_toArray]
    match j, hu with
    | 0, hu | 1, hu | 2, hu | 3, hu | 4, hu | 5, hu | 6, hu => exact hu
  case c2 =>
    simp only [List.mem_cons, List.not_mem_nil, or_false] at hu
    rcases hu with rfl | rfl | rfl | rfl | rfl | rfl | rfl <;> rfl
  refine wpList_nil ?_
  have hV3 : (w2.drew.setRow vb ((W8c v).toArray.toList.take 1 ++ [uv v.a, uv v.b, uv v.c, uv v.d, uv v.e, uv v.f, uv v.g] ++ (W8c v).toArray.toList.drop (1 + [uv v.a, uv v.b, uv v.c, uv v.d, uv v.e, uv v.f, uv v.g].length)).toArray).heap[vb]? = some (.cells (W8c ⟨v.a, v.a, v.b, v.c, v.d, v.e, v.f, v.g⟩).toArray 189 (0, 0)) := setRow_heap w2.drew vb _ _ _ _ HV2.out
  have hF3 : Fr [vb] w (w2.drew.setRow vb ((W8c v).toArray.toList.take 1 ++ [uv v.a, uv v.b, uv v.c, uv v.d, uv v.e, uv v.f, uv v.g] ++ (W8c v).toArray.toList.drop (1 + [uv v.a, uv v.b, uv v.c, uv v.d, uv v.e, uv v.f, uv v.g].length)).toArray) := (HF2.out.trans (Fr.drew _ _)).trans (Fr.setRow _ (by simp) _)
  generalize w2.drew.setRow vb _ = w3 at hV3 hF3 ⊢
  have HV3 := Lib.hid hV3
  have HF3 := Lib.hid hF3
  clear hV3 hF3
  obtain ⟨⟨c0, c1, c2, c3, c4, c5, c6, c7⟩, f0⟩ := cells_w8 HV3.out
  have f4 := f0 4
  have f00 := f0 0
  clear f0
  go_upto_region 4 with fail
  obtain ⟨w4, hw4⟩ : ∃ u, w3.setCell ⟨vb, 4, none⟩ (.int .u32 (o1 : Int)) = u := ⟨_, rfl⟩
  rw [hw4]
  have HV4 : Hid (w4.heap[vb]? = some (.cells (W8c ⟨v.a, v.a, v.b, v.c, o1, v.e, v.f, v.g⟩).toArray 189 (0, 0))) := Lib.hid (by rw [← hw4]; exact heap_setCell_same w3 vb 4 _ _ _ HV3.out)
  have HF4 : Hid (Fr [vb] w w4) := Lib.hid (by rw [← hw4]; exact HF3.out.trans (Fr.setCell _ (by simp) _))
  clear hw4 c0 c1 c2 c3 c4 c5 c6 c7 f4 f00 r1
  obtain ⟨⟨c0, c1, c2, c3, c4, c5, c6, c7⟩, f0⟩ := cells_w8 HV4.out
  have f00 := f0 0
  clear f0
  go_wp2_with fail
  go_end0
  refine ⟨rfl, ?_, HF4.out.trans (Fr.setCell _ (by simp) _)⟩
  rw [HR.out]
  exact heap_setCell_same w4 vb 0 _ _ _ HV4.out
end Go.Proofs.YtgfijlamhjjecaaGreatDoor


/-
  Plan2: as Plan, for a region whose LAST operation (number f) breaks the condition S: a store to a cell that the region loads. All operations that read under S lie on f's way. No condition beyond those stated.
-/
namespace Go.Proofs.YtgfijlamhjjecaaGreatDoor
open Go.RowKit
section
variable {P : Program} {ops : Array Oper} {Q : Exit → Act → World → Prop} {md : Region.Mode} {S : World → Prop} {f : Nat}
/-- what is listed has what it waits for listed -/
def Down (md : Region.Mode) (ops : Array Oper) (L : Array Bool) : Prop := ∀ j o, ops[j]? = some o → L.getD j false = true → ∀ e ∈ o.after, Region.binds md e = true → L.getD e.on false = true
theorem Down.set {L : Array Bool} {i : Nat} (h : Down md ops L) (hr : i ∈ Region.ready md ops L) : Down md ops (L.setIfInBounds i true) := by
  intro j o ho hl e he hb
  by_cases hji : i = j
  · subst hji
    obtain ⟨_, o', ho', hall⟩ := mem_ready.1 hr
    rw [ho] at ho'; cases ho'
    exact getD_set_true (hall e he hb)
  · rw [getD_set_ne false hji] at hl
    exact getD_set_true (h j o ho hl e he hb)
def reachB (md : Region.Mode) (ops : Array Oper) : Nat → Nat → Nat → Bool
  | 0, g, i => g == i
  | n + 1, g, i => g == i || (match ops[g]? with | none => false | some o => o.after.any fun e => Region.binds md e && reachB md ops n e.on i)
theorem reach_listed {L : Array Bool} (h : Down md ops L) : ∀ (n g i : Nat), reachB md ops n g i = true → L.getD g false = true → L.getD i false = true
  | 0, g, i, hr, hg => by simp only [reachB, beq_iff_eq] at hr; subst hr; exact hg
  | n + 1, g, i, hr, hg => by
    simp only [reachB, Bool.or_eq_true, beq_iff_eq] at hr
    rcases hr with hr | hr
    · subst hr; exact hg
    · cases ho : ops[g]? with
      | none => rw [ho] at hr; cases hr
      | some o =>
        rw [ho] at hr
        obtain ⟨e, he, hb⟩ := Array.any_eq_true'.1 hr
        rw [Bool.and_eq_true] at hb
        exact reach_listed h n e.on i hb.2 (h g o ho hg e he hb.1)
def CF (f : Nat) (S : World → Prop) (L : Array Bool) (w : World) : Prop := L.getD f false = true ∨ S w
def wpAnyF (P : Program) (md : Region.Mode) (ops : Array Oper) (Q : Exit → Act → World → Prop) (S : World → Prop) (f : Nat) : Nat → Array Bool → Act → World → Prop
  | 0, listed, a, w => Region.ready md ops listed = [] ∧ Q .normal a w
  | fuel + 1, listed, a, w =>
    (Region.ready md ops listed = [] → Q .normal a w) ∧
    ∀ i ∈ Region.ready md ops listed, wpOp P ops Q i (fun a' w' => CF f S (listed.setIfInBounds i true) w' ∧ wpAnyF P md ops Q S f fuel (listed.setIfInBounds i true) a' w') a w
theorem wpAny_of_F : ∀ (fuel : Nat) (listed : Array Bool) (a : Act) (w : World), wpAnyF P md ops Q S f fuel listed a w → wpAny P md ops Q fuel listed a w
  | 0, _, _, _, h => h
  | fuel + 1, _, _, _, h => ⟨h.1, fun i hi => wpOp_mono (fun a' w' h' => wpAny_of_F fuel _ a' w' h'.2) (h.2 i hi)⟩
theorem listed_true {L : Array Bool} {i : Nat} (h : L.getD i true = false) : L.getD i false = false := by
  rw [Array.getD_eq_getD_getElem?] at h ⊢
  cases hi : L[i]? with
  | none => rfl
  | some b => rw [hi] at h; exact h
theorem wpAnyF_first {i : Nat} {oi : Oper} {v : Value} (hi : ops[i]? = some oi) (hsel : ∀ (j : Nat) (o : Oper) cs b, ops[j]? = some o → o.op ≠ .select cs b)
    (hQ : ∀ c a w, Q (.panic c) (a.put oi.dst v) w → Q (.panic c) a w) (hfi : f ≠ i) (hdep : ∀ L, Down md ops L → L.getD f false = true → L.getD i false = true) :
    ∀ (fuel : Nat) (listed : Array Bool) (a : Act) (w : World),
      (∀ j oj, ops[j]? = some oj → j ≠ i → listed.getD j true = false → (∀ e ∈ oj.after, Region.binds md e = true → e.on ≠ i) → oi.apart ops oj = true) →
      i ∈ Region.ready md ops listed → YieldsIf P ops S oi v a → Down md ops listed → CF f S listed w →
      wpAnyF P md ops Q S f fuel (listed.setIfInBounds i true) (a.put oi.dst v) w → wpAnyF P md ops Q S f (fuel + 1) listed a w := by
  have hSw : ∀ (listed : Array Bool) (w : World), i ∈ Region.ready md ops listed → Down md ops listed → CF f S listed w → S w := fun listed w hr hd hc => by
    rcases hc with hc | hc
    · have h1 := hdep listed hd hc
      have h2 := listed_true (mem_ready.1 hr).1
      rw [h1] at h2; cases h2
    · exact hc
  have hset : ∀ (listed : Array Bool) (w : World), CF f S (listed.setIfInBounds i true) w ↔ CF f S listed w := fun listed w => by
    unfold CF; rw [getD_set_ne false (Ne.symm hfi)]
  intro fuel
  induction fuel with
  | zero =>
    intro listed a w _ hr hy hd hc H
    refine ⟨fun h => (by rw [h] at hr; cases hr), fun j hj => ?_⟩
    by_cases hji : j = i
    · subst hji; exact hy.wpOp hi (hSw _ _ hr hd hc) ⟨(hset _ _).2 hc, H⟩
    · have := ready_mono hj hji
      rw [H.1] at this
      cases this
  | succ fuel ih =>
    intro listed a w hfree hr hy hd hc H
    refine ⟨fun h => (by rw [h] at hr; cases hr), fun j hj => ?_⟩
    by_cases hji : j = i
    · subst hji; exact hy.wpOp hi (hSw _ _ hr hd hc) ⟨(hset _ _).2 hc, H⟩
    · have h1 := H.2 j (ready_mono hj hji)
      obtain ⟨hjun, oj, hoj, hall⟩ := mem_ready.1 hj
      have hnot : ∀ e ∈ oj.after, Region.binds md e = true → e.on ≠ i := fun e he hb heq => by
        have h1 := hall e he hb
        have h0 := listed_true (mem_ready.1 hr).1
        rw [heq, h0] at h1
        cases h1
      have h2 := wpOp_putIf hoj (hfree j oj hoj hji hjun hnot) (fun cs b => hsel i oi cs b hi) (fun cs b => hsel j oj cs b hoj) hQ hy h1
      have hfree' : ∀ k ok, ops[k]? = some ok → k ≠ i → (listed.setIfInBounds j true).getD k true = false →
          (∀ e ∈ ok.after, Region.binds md e = true → e.on ≠ i) → oi.apart ops ok = true := fun k ok hk hki hun hno => by
        refine hfree k ok hk hki ?_ hno
        by_cases hjk : j = k
        · subst hjk; exact hjun
        · rw [getD_set_ne true hjk] at hun; exact hun
      refine wpOp_mono (fun a' w' h3 => ?_) h2
      rw [Array.setIfInBounds_comm _ _ (Ne.symm hji)] at h3
      have hc' := (hset _ _).1 h3.2.1
      exact ⟨hc', ih (listed.setIfInBounds j true) a' w' hfree' (ready_mono hr (Ne.symm hji)) h3.1 (hd.set hj) hc' h3.2.2⟩
def planBF (md : Region.Mode) (ops : Array Oper) (f : Nat) : List (Nat × Bool) → Array Bool → Bool
  | [], listed => (Region.ready md ops listed).isEmpty
  | (i, false) :: r, listed => (Region.ready md ops listed).contains i && Region.free md ops listed i && !(f == i) && reachB md ops 16 f i && planBF md ops f r (listed.setIfInBounds i true)
  | (i, true) :: r, listed => decide (Region.ready md ops listed = [i]) && planBF md ops f r (listed.setIfInBounds i true)
def planOKF (md : Region.Mode) (ops : Array Oper) (f : Nat) (plan : List (Nat × Bool)) : Bool :=
  Region.noSelect ops && decide (plan.length = ops.size) && planBF md ops f plan (Array.replicate ops.size false)
def wpPlanF (P : Program) (ops : Array Oper) (S : World → Prop) (f : Nat) (Q : Exit → Act → World → Prop) : List (Nat × Bool) → Act → World → Prop
  | [], a, w => Q .normal a w
  | (i, false) :: r, a, w => ∃ o v, ops[i]? = some o ∧ YieldsIf P ops S o v a ∧ wpPlanF P ops S f Q r (a.put o.dst v) w
  | (i, true) :: r, a, w => wpOp P ops Q i (fun a' w' => (i = f ∨ S w') ∧ wpPlanF P ops S f Q r a' w') a w
theorem wpPlanF_held (hs : Region.noSelect ops = true) (hQ : ∀ c a d v w, Q (.panic c) (a.put d v) w → Q (.panic c) a w) (hf : f < ops.size) :
    ∀ (plan : List (Nat × Bool)) (listed : Array Bool) (a : Act) (w : World), listed.size = ops.size → planBF md ops f plan listed = true → Down md ops listed → CF f S listed w → wpPlanF P ops S f Q plan a w → wpAnyF P md ops Q S f plan.length listed a w
  | [], listed, a, w, _, hB, _, _, h => ⟨by simpa [planBF] using hB, h⟩
  | (i, false) :: r, listed, a, w, hz, hB, hd, hc, h => by
    simp only [planBF, Bool.and_eq_true, Bool.not_eq_true', beq_eq_false_iff_ne] at hB
    obtain ⟨o, v, hi, hy, h⟩ := h
    have hr : i ∈ Region.ready md ops listed := by simpa using hB.1.1.1.1
    exact wpAnyF_first hi (Region.noSelect_spec hs) (fun c a w => hQ c a _ _ w) hB.1.1.2 (fun L hL hf => reach_listed hL 16 f i hB.1.2 hf) _ listed a w (Region.free_spec hi hB.1.1.1.2) hr hy hd hc
      (wpPlanF_held hs hQ hf r _ _ _ (by simpa using hz) hB.2 (hd.set hr) (by unfold CF at hc ⊢; rw [getD_set_ne false (Ne.symm hB.1.1.2)]; exact hc) h)
  | (i, true) :: r, listed, a, w, hz, hB, hd, hc, h => by
    simp only [planBF, Bool.and_eq_true, decide_eq_true_eq] at hB
    show wpAnyF P md ops Q S f (r.length + 1) listed a w
    refine ⟨fun h0 => (by rw [hB.1] at h0; cases h0), fun j hj => ?_⟩
    have hj' := hj
    rw [hB.1] at hj
    have e : j = i := by simpa using hj
    subst e
    refine wpOp_mono (fun a' w' h' => ?_) h
    have hc' : CF f S (listed.setIfInBounds j true) w' := by
      rcases h'.1 with h1 | h1
      · subst h1
        left
        rw [Array.getD_eq_getD_getElem?, Array.getElem?_setIfInBounds_self_of_lt (by omega)]; rfl
      · exact .inr h1
    exact ⟨hc', wpPlanF_held hs hQ hf r _ _ _ (by simpa using hz) hB.2 (hd.set hj') hc' h'.2⟩
theorem down_start (n : Nat) : Down md ops (Array.replicate n false) := by
  intro j o _ hl
  rw [Array.getD_eq_getD_getElem?, Array.getElem?_replicate] at hl
  split at hl <;> simp at hl
/-- the beginning -/
theorem wp_region_planF {id : Nat} {a : Act} {w : World} {l : List Oper} (f : Nat) (plan : List (Nat × Bool)) (S : World → Prop) (hm : P.follows .mixedOrders = true) (hB : (planOKF .any l.toArray f plan && decide (f < l.length)) = true) (hS : S w.drew)
    (h : wpPlanF P l.toArray S f (NoPanic Q) plan a w.drew) : (Code.region id l.toArray true).wp P Q a w := by
  simp only [planOKF, Bool.and_eq_true, decide_eq_true_eq] at hB
  refine wp_region_noPanic (wp_region_any hm (wpAny_of_F (S := S) (f := f) _ _ _ _ ?_))
  have := wpPlanF_held (md := .any) (f := f) (S := S) hB.1.1.1 (Q := NoPanic Q) (fun c a d v w h => h) (by simpa using hB.2) plan _ a w.drew (by simp) hB.1.2 (down_start _) (.inr hS) h
  rw [hB.1.1.2] at this
  exact this
theorem planF_val {l : List Oper} {i : Nat} {o : Oper} {v : Value} {r : List (Nat × Bool)} {a : Act} {w : World} (hi : nthO l i = some o) (hw : Region.wanted o (yielded l.toArray a.tmps) = true)
    (hrun : ∀ w', S w' → (execOp a.eval o).run P w' = .ok (.value v) w') (h : wpPlanF P l.toArray S f Q r (a.put o.dst v) w) : wpPlanF P l.toArray S f Q ((i, false) :: r) a w :=
  ⟨o, v, by rw [List.getElem?_toArray, ← nthO_eq]; exact hi, .inl ⟨hw, hrun⟩, h⟩
theorem planF_nil {a : Act} {w : World} (h : Q .normal a w) : wpPlanF P ops S f (NoPanic Q) [] a w := h
theorem planF_do {l : List Oper} {i : Nat} {o : Oper} {r : List (Nat × Bool)} {a : Act} {w : World} (hi' : nthO l i = some o)
    (h : ∀ K : Act → World → Prop, (∀ a' w', (i = f ∨ S w') → wpPlanF P l.toArray S f Q r a' w' → K a' w') → wpList P l.toArray (Exit.then K Q) [o] a w) : wpPlanF P l.toArray S f Q ((i, true) :: r) a w := by
  have hi : l.toArray[i]? = some o := by rw [List.getElem?_toArray, ← nthO_eq]; exact hi'
  have h0 := h _ (fun a' w' h1 h2 => (⟨h1, h2⟩ : (i = f ∨ S w') ∧ wpPlanF P l.toArray S f Q r a' w'))
  show wpOp P l.toArray Q i _ a w
  unfold wpOp
  rw [hi]
  simp only [wpList] at h0 ⊢
  split
  · rename_i hw
    rw [if_pos hw] at h0
    rcases h0 with h0 | ⟨h0, a1, w1, h1⟩
    · exact .inl (Oper.wp_post (fun _ _ _ h => h) (fun ⟨a, w, h⟩ => ⟨a, w, h⟩) h0)
    · exact .inr ⟨h0, a1, w1, h1⟩
  · rename_i hw
    rw [if_neg hw] at h0
    exact h0
end
end Go.Proofs.YtgfijlamhjjecaaGreatDoor


/-
  ShaC: contract of sha's mix. No condition beyond those stated.
-/
namespace Go.Proofs.YtgfijlamhjjecaaGreatDoor
open Go.RowKit
/-- the constants as they are laid -/
structure VarsK (w : World) : Prop where
  c : ∀ i k : Nat, shaK[i]? = some k → w.cell? ⟨0, i, none⟩ = some (.int .u32 (k : Int))
theorem VarsK.fr {F : List Nat} {w w' : World} (h : VarsK w) (hf : Fr F w w') (hF : 0 ∉ F) : VarsK w' :=
  ⟨fun i k hk => by
    have h1 := h.c i k hk
    exact (World.cell?_of_block (a := ⟨0, i, none⟩) (hf.block _ (cell_lt' h1) hF)).trans h1⟩
theorem wpList_alloc_cells {P : Program} {ops : Array Oper} {rest : List Oper} {o : Oper} {a : Act} {w : World} {Q : Exit → Act → World → Prop} (hgd : o.guard = none) (ty : TypeId) (ho : o.op = .alloc ty) (cs : Array Value) (hz : ∀ w, (zeroValue ty).run P w = .ok (.agg cs) w)
    (h : wpList P ops Q rest (a.put o.dst (.pointer (some ⟨w.heap.size, 0, none⟩))) (w.alloc (.cells cs ty))) : wpList P ops Q (o :: rest) a w := by
  refine wpList_val (v := .pointer (some ⟨w.heap.size, 0, none⟩)) (w' := w.alloc (.cells cs ty)) hgd ?_ h
  unfold execOp
  simp only [ho, Instr.alloc, Sem.run_bind, hz, Result.andThen_ok, newVar, newRow, newObj, Sem.run, Value.cells, Sem.run_pure]
  rfl
def pad64 (l : List Nat) : List Value := (l ++ List.replicate (64 - l.length) 0).map uv
theorem pad64_set {l : List Nat} (h : l.length < 64) (x : Nat) : (pad64 l).set l.length (uv x) = pad64 (l ++ [x]) := by
  unfold pad64
  rw [← List.map_set, List.set_append_right _ _ (Nat.le_refl _), Nat.sub_self, List.length_append, List.length_singleton, show 64 - l.length = (64 - (l.length + 1)) + 1 by omega, List.replicate_succ, List.set_cons_zero, List.append_assoc]
  rfl
theorem pad64_get {l : List Nat} {j x : Nat} (h : l[j]? = some x) : (pad64 l)[j]? = some (uv x) := by
  unfold pad64
  rw [List.getElem?_map, List.getElem?_append_left (List.getElem?_eq_some_iff.1 h).1, h]; rfl
theorem pad64_cell {l : List Nat} {w : World} {b j x : Nat} {t : TypeId} (hb : w.heap[b]? = some (.cells (pad64 l).toArray t (0, 0))) (h : l[j]? = some x) : w.cell? ⟨b, j, none⟩ = some (.int .u32 (x : Int)) := by
  rw [cell_of_row w b j _ _ _ hb, List.getElem?_toArray]; exact pad64_get h
theorem pad64_store {w : World} {B k : Nat} {l : List Nat} {t : TypeId} (h : w.heap[B]? = some (.cells (pad64 l).toArray t (0, 0))) (hl : l.length = k) (hk : k < 64) (x : Nat) : (w.setCell ⟨B, k, none⟩ (.int .u32 (x : Int))).heap[B]? = some (.cells (pad64 (l ++ [x])).toArray t (0, 0)) := by
  rw [heap_setCell_same w B k _ _ _ h, List.setIfInBounds_toArray]
  subst hl
  rw [show (Value.int .u32 (x : Int)) = uv x from rfl, pad64_set hk]
theorem pad64_zero {w : World} {B k : Nat} {l : List Nat} {t : TypeId} (h : w.heap[B]? = some (.cells (pad64 l).toArray t (0, 0))) (hl : l.length = k) (hk : k < 64) : w.cell? ⟨B, k, none⟩ = some (.int .u32 0) := by
  rw [cell_of_row w B k _ _ _ h, List.getElem?_toArray]
  unfold pad64
  rw [List.getElem?_map, List.getElem?_append_right (by rw [hl]; exact Nat.le_refl _), hl, Nat.sub_self, List.getElem?_replicate, if_pos (by omega)]; rfl
def plusL (s v : V8) (j : Nat) : List Nat := (List.range 8).map fun i => if i < j then add32 (s.l.getD i 0) (v.l.getD i 0) else s.l.getD i 0
theorem plusL_set (s v : V8) (lv nv : Value) {j : Nat} (hj : j < 8) : ((plusL s v j).map uv ++ [lv, nv]).set j (uv (add32 (s.l.getD j 0) (v.l.getD j 0))) = (plusL s v (j + 1)).map uv ++ [lv, nv] := by
  have h : j = 0 ∨ j = 1 ∨ j = 2 ∨ j = 3 ∨ j = 4 ∨ j = 5 ∨ j = 6 ∨ j = 7 := by omega
  rcases h with rfl | rfl | rfl | rfl | rfl | rfl | rfl | rfl <;> rfl
theorem plusL_get (s v : V8) (lv nv : Value) {j : Nat} (hj : j < 8) : ((plusL s v j).map uv ++ [lv, nv])[j]? = some (uv (s.l.getD j 0)) := by
  have h : j = 0 ∨ j = 1 ∨ j = 2 ∨ j = 3 ∨ j = 4 ∨ j = 5 ∨ j = 6 ∨ j = 7 := by omega
  rcases h with rfl | rfl | rfl | rfl | rfl | rfl | rfl | rfl <;> rfl
theorem w8_get (v : V8) {j : Nat} (hj : j < 8) : (W8c v)[j]? = some (uv (v.l.getD j 0)) := by
  have h : j = 0 ∨ j = 1 ∨ j = 2 ∨ j = 3 ∨ j = 4 ∨ j = 5 ∨ j = 6 ∨ j = 7 := by omega
  rcases h with rfl | rfl | rfl | rfl | rfl | rfl | rfl | rfl <;> rfl
theorem shaK_get {k : Nat} (h : k < 64) : shaK[k]? = some (shaK.getD k 0) := by
  rw [List.getD_eq_getElem?_getD, List.getElem?_eq_getElem (by show k < 64; exact h)]; rfl
theorem zero64 : ∀ w, (zeroValue 224).run Tryz.prog w = .ok (.agg (pad64 []).toArray) w := fun _ => by kernel_rfl
set_option maxRecDepth 100000 in
set_option maxHeartbeats 4000000 in
theorem mix_any (s : V8) (hs : s.ok) (blk : Str) (hl : blk.length = 64) (hb bb bo cap : Nat) (lv nv : Value) (w : World) (hH : w.heap[hb]? = some (.cells (W8c s ++ [lv, nv]).toArray 229 (0, 0)))
    (hB : ∀ i c, blk[i]? = some c → w.cell? ⟨bb, bo + i, none⟩ = some (bv c)) (hK : VarsK w) :
    Calls Tryz.prog 150 #[.pointer (some ⟨hb, 0, none⟩), .slice (some ⟨bb, bo, none⟩) 64 cap] w fun e w' => e = .returned (.tuple #[]) ∧ w'.heap[hb]? = some (.cells (W8c (mixN s blk) ++ [lv, nv]).toArray 229 (0, 0)) ∧ Fr [hb] w w' := by
  obtain ⟨B, hB0⟩ : ∃ B, w.heap.size = B := ⟨_, rfl⟩
  have HBQ := Lib.hid hB0
  have HH := Lib.hid hH
  have HBY := Lib.hid hB
  have HK := Lib.hid hK
  have HS := Lib.hid hs
  have HL := Lib.hid hl
  clear hB0 hH hB hK hs hl
  go_enter Tryz.func150, Tryz.ntmps150
  go_upto_region 1 with ((with_reducible refine wpList_at (.alloc 224) rfl ?_); refine wpList_alloc_cells rfl _ rfl _ zero64 ?_)
  obtain ⟨w1, hw1⟩ : ∃ u, w.alloc (.cells (pad64 []).toArray 224) = u := ⟨_, rfl⟩
  rw [hw1, HBQ.out]
  have HW1 : Hid (w1.heap[B]? = some (.cells (pad64 []).toArray 224 (0, 0))) := Lib.hid (by rw [← hw1, ← HBQ.out]; exact heap_alloc_new _ _)
  have HB1 : Hid (Below B w w1) := Lib.hid (by rw [← hw1, ← HBQ.out]; exact (Below.refl _ _).alloc (Nat.le_refl _) _)
  have HZ1 : Hid (w1.heap.size = B + 1) := Lib.hid (by rw [← hw1, ← HBQ.out]; simp)
  clear hw1
  go_upto_block 0 with fail
  go_cut [] from 13 to 51 (fun wr => Hid (wr.heap[B]? = some (.cells (pad64 (words16 blk)).toArray 224 (0, 0))) ∧ Hid (Below B w wr) ∧ Hid (wr.heap.size = B + 1))
  case first => as_aux_lemma =>
    go_wp2_with fail
    go_loopw [13] (fun i wr => ∃ k : Nat, k ≤ 16 ∧ i = .int .i64 (k : Int) ∧ Hid (wr.heap[B]? = some (.cells (pad64 ((words16 blk).take k)).toArray 224 (0, 0))) ∧ Hid (Below B w wr) ∧ Hid (wr.heap.size = B + 1)) (fun i _ => 16 - (intOf i).toNat)
    case atStart => exact ⟨0, Nat.zero_le _, rfl, HW1, HB1, HZ1⟩
    case round =>
      obtain ⟨k, hk, rfl, HWR, HBR, HZR⟩ := hrel
      by_cases hlt : k < 16
      · have b1 : (0 : Int) ≤ k := by omega
        have b2 : (k : Int) < 16 := by omega
        have b3 : (k : Int) < 64 := by omega
        have g1 : IntKind.i64.wrap (4 * (k : Int)) = 4 * (k : Int) := IntWalk.i64_in _ (by omega)
        have g2 : IntKind.i64.wrap (4 * (k : Int) + 1) = 4 * (k : Int) + 1 := IntWalk.i64_in _ (by omega)
        have g3 : IntKind.i64.wrap (4 * (k : Int) + 2) = 4 * (k : Int) + 2 := IntWalk.i64_in _ (by omega)
        have g4 : IntKind.i64.wrap (4 * (k : Int) + 3) = 4 * (k : Int) + 3 := IntWalk.i64_in _ (by omega)
        obtain ⟨x0, h0⟩ : ∃ c, blk[4 * k]? = some c := ⟨_, List.getElem?_eq_getElem (by rw [HL.out]; omega)⟩
        obtain ⟨x1, h1⟩ : ∃ c, blk[4 * k + 1]? = some c := ⟨_, List.getElem?_eq_getElem (by rw [HL.out]; omega)⟩
        obtain ⟨x2, h2⟩ : ∃ c, blk[4 * k + 2]? = some c := ⟨_, List.getElem?_eq_getElem (by rw [HL.out]; omega)⟩
        obtain ⟨x3, h3⟩ : ∃ c, blk[4 * k + 3]? = some c := ⟨_, List.getElem?_eq_getElem (by rw [HL.out]; omega)⟩
        have c0 : wr.cell? ⟨bb, bo + 4 * k, none⟩ = some (.int .u8 (x0.toNat : Int)) := by
          have := HBY.out _ _ h0
          exact (HBR.out.cell (p := ⟨bb, bo + 4 * k, none⟩) (by rw [← HBQ.out]; exact cell_lt' this)).trans this
        obtain ⟨y0, hy0⟩ : ∃ u, x0.toNat = u := ⟨_, rfl⟩
        have yl0 : y0 < 256 := by rw [← hy0]; exact x0.toNat_lt
        rw [hy0] at c0
        have w0 : IntKind.u32.wrap (y0 : Int) = (y0 : Int) := IntWalk.u32_in _ (by omega)
        have c1 : wr.cell? ⟨bb, bo + (4 * k + 1), none⟩ = some (.int .u8 (x1.toNat : Int)) := by
          have := HBY.out _ _ h1
          exact (HBR.out.cell (p := ⟨bb, bo + (4 * k + 1), none⟩) (by rw [← HBQ.out]; exact cell_lt' this)).trans this
        obtain ⟨y1, hy1⟩ : ∃ u, x1.toNat = u := ⟨_, rfl⟩
        have yl1 : y1 < 256 := by rw [← hy1]; exact x1.toNat_lt
        rw [hy1] at c1
        have w1 : IntKind.u32.wrap (y1 : Int) = (y1 : Int) := IntWalk.u32_in _ (by omega)
        have c2 : wr.cell? ⟨bb, bo + (4 * k + 2), none⟩ = some (.int .u8 (x2.toNat : Int)) := by
          have := HBY.out _ _ h2
          exact (HBR.out.cell (p := ⟨bb, bo + (4 * k + 2), none⟩) (by rw [← HBQ.out]; exact cell_lt' this)).trans this
        obtain ⟨y2, hy2⟩ : ∃ u, x2.toNat = u := ⟨_, rfl⟩
        have yl2 : y2 < 256 := by rw [← hy2]; exact x2.toNat_lt
        rw [hy2] at c2
        have w2 : IntKind.u32.wrap (y2 : Int) = (y2 : Int) := IntWalk.u32_in _ (by omega)
        have c3 : wr.cell? ⟨bb, bo + (4 * k + 3), none⟩ = some (.int .u8 (x3.toNat : Int)) := by
          have := HBY.out _ _ h3
          exact (HBR.out.cell (p := ⟨bb, bo + (4 * k + 3), none⟩) (by rw [← HBQ.out]; exact cell_lt' this)).trans this
        obtain ⟨y3, hy3⟩ : ∃ u, x3.toNat = u := ⟨_, rfl⟩
        have yl3 : y3 < 256 := by rw [← hy3]; exact x3.toNat_lt
        rw [hy3] at c3
        have w3 : IntKind.u32.wrap (y3 : Int) = (y3 : Int) := IntWalk.u32_in _ (by omega)
        have n0 : (4 * (k : Int)).toNat = 4 * k := by omega
        have n1 : (4 * (k : Int) + 1).toNat = 4 * k + 1 := by omega
        have n2 : (4 * (k : Int) + 2).toNat = 4 * k + 2 := by omega
        have n3 : (4 * (k : Int) + 3).toNat = 4 * k + 3 := by omega
        have l0 : 4 * (k : Int) < 64 := by omega
        have l1 : 4 * (k : Int) + 1 < 64 := by omega
        have l2 : 4 * (k : Int) + 2 < 64 := by omega
        have l3 : 4 * (k : Int) + 3 < 64 := by omega
        have m0 : (0 : Int) ≤ 4 * (k : Int) := by omega
        have m1 : (0 : Int) ≤ 4 * (k : Int) + 1 := by omega
        have m2 : (0 : Int) ≤ 4 * (k : Int) + 2 := by omega
        have m3 : (0 : Int) ≤ 4 * (k : Int) + 3 := by omega
        obtain ⟨z0, hz0⟩ : ∃ u, y0 * 16777216 = u := ⟨_, rfl⟩
        obtain ⟨z1, hz1⟩ : ∃ u, y1 * 65536 = u := ⟨_, rfl⟩
        obtain ⟨z2, hz2⟩ : ∃ u, y2 * 256 = u := ⟨_, rfl⟩
        have s0 : IntKind.u32.wrap ((y0 : Int) * 16777216) = (z0 : Int) := by rw [IntWalk.u32_in _ (by omega)]; omega
        have s1 : IntKind.u32.wrap ((y1 : Int) * 65536) = (z1 : Int) := by rw [IntWalk.u32_in _ (by omega)]; omega
        have s2 : IntKind.u32.wrap ((y2 : Int) * 256) = (z2 : Int) := by rw [IntWalk.u32_in _ (by omega)]; omega
        have o1 : bits .or .u32 (z0 : Int) (z1 : Int) = ((z0 + z1 : Nat) : Int) := by rw [u32_or_nat _ _ (by omega) (by omega), nat_join 24 z0 z1 (by omega) (by omega)]
        obtain ⟨q1, hq1⟩ : ∃ u, z0 + z1 = u := ⟨_, rfl⟩
        rw [hq1] at o1
        have o2 : bits .or .u32 (q1 : Int) (z2 : Int) = ((q1 + z2 : Nat) : Int) := by rw [u32_or_nat _ _ (by omega) (by omega), nat_join 16 q1 z2 (by omega) (by omega)]
        obtain ⟨q2, hq2⟩ : ∃ u, q1 + z2 = u := ⟨_, rfl⟩
        rw [hq2] at o2
        have o3 : bits .or .u32 (q2 : Int) (y3 : Int) = ((q2 + y3 : Nat) : Int) := by rw [u32_or_nat _ _ (by omega) (by omega), nat_join 8 q2 y3 (by omega) (by omega)]
        obtain ⟨q3, hq3⟩ : ∃ u, q2 + y3 = u := ⟨_, rfl⟩
        rw [hq3] at o3
        have HQ3 : Hid (word4 blk k = q3) := Lib.hid (by
          unfold word4
          simp only [List.getD_eq_getElem?_getD, h0, h1, h2, h3, Option.getD_some]
          rw [hy0, hy1, hy2, hy3, hz0, hz1, hz2, hq1, hq2, hq3])
        have HTK : Hid ((words16 blk).take k ++ [q3] = (words16 blk).take (k + 1)) := Lib.hid (by
          have e : (words16 blk)[k]? = some q3 := by simp [words16, hlt, HQ3.out]
          rw [List.take_add_one, e]; rfl)
        have hlen : ((words16 blk).take k).length = k := by rw [List.length_take, words16_len]; omega
        have HLN := Lib.hid hlen
        have hfz : wr.frozen? ⟨B, k, none⟩ = false := frozen_of_row wr B k _ _ HWR.out
        have hcz : wr.cell? ⟨B, k, none⟩ = some (.int .u32 0) := pad64_zero HWR.out hlen (by omega)
        clear h0 h1 h2 h3 hy0 hy1 hy2 hy3 hz0 hz1 hz2 hq1 hq2 hq3 hlen yl0 yl1 yl2 yl3
        go_upto_region 4 with fail
        go_still_tail 35, (by kernel_rfl)
        go_wp2_with fail
        go_roundw
        case rel => exact ⟨k + 1, by omega, by go_num, Lib.hid (by rw [← HTK.out]; exact pad64_store HWR.out HLN.out (by omega) q3), Lib.hid (HBR.out.setCell (Nat.le_refl _) _).drew, Lib.hid (by simp [HZR.out])⟩
        case measure => simp [intOf]; omega
      · obtain rfl : k = 16 := by omega
        go_wp2_with fail
        go_meet
        case rel => exact ⟨by rw [List.take_of_length_le (by rw [words16_len]; omega)] at HWR; exact HWR, HBR, HZR⟩
  case rest =>
    obtain ⟨HW2, HB2, HZ2⟩ := hcut
    obtain ⟨w2, hw2⟩ : ∃ u, u = wc := ⟨_, rfl⟩
    rw [← hw2] at HW2 HB2 HZ2 ⊢
    clear hw2 HW1 HB1 HZ1
    go_upto_block 2 with fail
    go_cut [] from 52 to 92 (fun wr => Hid (wr.heap[B]? = some (.cells (pad64 (wext (words16 blk) 48)).toArray 224 (0, 0))) ∧ Hid (Below B w wr) ∧ Hid (wr.heap.size = B + 1))
    case first => as_aux_lemma =>
      go_wp2_with fail
      go_loopw [6] (fun i wr => ∃ n : Nat, 16 ≤ n ∧ n ≤ 64 ∧ i = .int .i64 (n : Int) ∧ Hid (wr.heap[B]? = some (.cells (pad64 (wext (words16 blk) (n - 16))).toArray 224 (0, 0))) ∧ Hid (Below B w wr) ∧ Hid (wr.heap.size = B + 1)) (fun i _ => 64 - (intOf i).toNat)
      case atStart => exact ⟨16, Nat.le_refl _, by omega, rfl, HW2, HB2, HZ2⟩
      case round =>
        obtain ⟨n, hn0, hn, rfl, HWR, HBR, HZR⟩ := hrel
        by_cases hlt : n < 64
        · have b1 : (0 : Int) ≤ n := by omega
          have b2 : (n : Int) < 64 := by omega
          obtain ⟨m16, h16⟩ : ∃ m, n - 16 = m := ⟨_, rfl⟩
          obtain ⟨m15, h15⟩ : ∃ m, n - 15 = m := ⟨_, rfl⟩
          obtain ⟨m7, h7⟩ : ∃ m, n - 7 = m := ⟨_, rfl⟩
          obtain ⟨m2, h2⟩ : ∃ m, n - 2 = m := ⟨_, rfl⟩
          have g16 : IntKind.i64.wrap ((n : Int) - 16) = (m16 : Int) := by rw [IntWalk.i64_in _ (by omega)]; omega
          have g15 : IntKind.i64.wrap ((n : Int) - 15) = (m15 : Int) := by rw [IntWalk.i64_in _ (by omega)]; omega
          have g7 : IntKind.i64.wrap ((n : Int) - 7) = (m7 : Int) := by rw [IntWalk.i64_in _ (by omega)]; omega
          have g2 : IntKind.i64.wrap ((n : Int) - 2) = (m2 : Int) := by rw [IntWalk.i64_in _ (by omega)]; omega
          have l16 : (m16 : Int) < 64 := by omega
          have l15 : (m15 : Int) < 64 := by omega
          have l7 : (m7 : Int) < 64 := by omega
          have l2 : (m2 : Int) < 64 := by omega
          obtain ⟨l, hl⟩ : ∃ l, wext (words16 blk) (n - 16) = l := ⟨_, rfl⟩
          have hlen : l.length = n := by rw [← hl, wext_len (words16_len blk)]; omega
          have hwd : Wds l := by rw [← hl]; exact wext_wds (words16_wds blk) _
          have hnx : l ++ [wnext l n] = wext (words16 blk) (n + 1 - 16) := by
            rw [show n + 1 - 16 = (n - 16) + 1 by omega]
            unfold wext
            rw [hl, show 16 + (n - 16) = n by omega]
          rw [hl] at HWR
          obtain ⟨xa, ha⟩ : ∃ c, l[m16]? = some c := ⟨_, List.getElem?_eq_getElem (by omega)⟩
          obtain ⟨xb, hb'⟩ : ∃ c, l[m15]? = some c := ⟨_, List.getElem?_eq_getElem (by omega)⟩
          obtain ⟨xc, hc⟩ : ∃ c, l[m7]? = some c := ⟨_, List.getElem?_eq_getElem (by omega)⟩
          obtain ⟨xd, hd⟩ : ∃ c, l[m2]? = some c := ⟨_, List.getElem?_eq_getElem (by omega)⟩
          have lb : xb < 4294967296 := hwd _ (List.mem_of_getElem? hb')
          have ld : xd < 4294967296 := hwd _ (List.mem_of_getElem? hd)
          have HNX : Hid (add32 (add32 (add32 xa xc) (smlS0 xb)) (smlS1 xd) = wnext l n) := Lib.hid (by
            unfold wnext
            rw [h16, h15, h7, h2]
            simp only [List.getD_eq_getElem?_getD, ha, hb', hc, hd, Option.getD_some])
          have HCA : Hid (∀ u : World, u.heap[B]? = some (.cells (pad64 l).toArray 224 (0, 0)) → u.cell? ⟨B, m16, none⟩ = some (.int .u32 (xa : Int)) ∧ u.cell? ⟨B, m7, none⟩ = some (.int .u32 (xc : Int))) := Lib.hid (fun u hu => ⟨pad64_cell hu ha, pad64_cell hu hc⟩)
          have c15 := pad64_cell HWR.out hb'
          have c2 := pad64_cell HWR.out hd
          have t1 := fun w => turn_any xb 7 7 rfl (by decide) lb w
          have t2 := fun w => turn_any xb 18 18 rfl (by decide) lb w
          have t3 := fun w => turn_any xd 17 17 rfl (by decide) ld w
          have t4 := fun w => turn_any xd 19 19 rfl (by decide) ld w
          have r1 := rotN_lt (n := 7) lb
          have r2 := rotN_lt (n := 18) lb
          have r3 := rotN_lt (n := 17) ld
          have r4 := rotN_lt (n := 19) ld
          obtain ⟨p1, hp1⟩ : ∃ u, rotN xb 7 = u := ⟨_, rfl⟩
          obtain ⟨p2, hp2⟩ : ∃ u, rotN xb 18 = u := ⟨_, rfl⟩
          obtain ⟨p3, hp3⟩ : ∃ u, rotN xd 17 = u := ⟨_, rfl⟩
          obtain ⟨p4, hp4⟩ : ∃ u, rotN xd 19 = u := ⟨_, rfl⟩
          rw [hp1] at t1 r1
          rw [hp2] at t2 r2
          rw [hp3] at t3 r3
          rw [hp4] at t4 r4
          have T1 := Lib.hid t1
          have T2 := Lib.hid t2
          have T3 := Lib.hid t3
          have T4 := Lib.hid t4
          have s1 := xor_bits r1 r2
          have s1l := xor_lt32 r1 r2
          obtain ⟨q1, hq1⟩ : ∃ u, p1 ^^^ p2 = u := ⟨_, rfl⟩
          rw [hq1] at s1 s1l
          obtain ⟨v1, hv1⟩ : ∃ u, xb / 8 = u := ⟨_, rfl⟩
          have e1 : (xb : Int) / 8 = (v1 : Int) := by omega
          have s2 := xor_bits s1l (show v1 < 4294967296 by omega)
          obtain ⟨q2, hq2⟩ : ∃ u, q1 ^^^ v1 = u := ⟨_, rfl⟩
          rw [hq2] at s2
          have s3 := xor_bits r3 r4
          have s3l := xor_lt32 r3 r4
          obtain ⟨q3, hq3⟩ : ∃ u, p3 ^^^ p4 = u := ⟨_, rfl⟩
          rw [hq3] at s3 s3l
          obtain ⟨v2, hv2⟩ : ∃ u, xd / 1024 = u := ⟨_, rfl⟩
          have e2 : (xd : Int) / 1024 = (v2 : Int) := by omega
          have s4 := xor_bits s3l (show v2 < 4294967296 by omega)
          obtain ⟨q4, hq4⟩ : ∃ u, q3 ^^^ v2 = u := ⟨_, rfl⟩
          rw [hq4] at s4
          have a1 := add_bits xa xc
          obtain ⟨y1, hy1⟩ : ∃ u, add32 xa xc = u := ⟨_, rfl⟩
          rw [hy1] at a1
          have a2 := add_bits y1 q2
          obtain ⟨y2, hy2⟩ : ∃ u, add32 y1 q2 = u := ⟨_, rfl⟩
          rw [hy2] at a2
          have a3 := add_bits y2 q4
          obtain ⟨y3, hy3⟩ : ∃ u, add32 y2 q4 = u := ⟨_, rfl⟩
          rw [hy3] at a3
          have HY : Hid (l ++ [y3] = wext (words16 blk) (n + 1 - 16)) := Lib.hid (by
            rw [← hnx, ← HNX.out]
            unfold smlS0 smlS1
            rw [hp1, hp2, hq1, hv1, hq2, hp3, hp4, hq3, hv2, hq4, hy1, hy2, hy3])
          have HLE := Lib.hid hlen
          clear t1 t2 t3 t4 r1 r2 r3 r4 hp1 hp2 hp3 hp4 hq1 hq2 hq3 hq4 hv1 hv2 hy1 hy2 hy3 s1l s3l ha hb' hc hd hl hlen hwd hnx h16 h15 h7 h2 lb ld
          go_upto_region 9 with fail
          go_quiet (fail)
          generalize hw3 : wr.drewN _ = w3
          have HW3 : Hid (w3.heap[B]? = some (.cells (pad64 l).toArray 224 (0, 0))) := Lib.hid (by rw [← hw3]; exact HWR.out)
          have HB3 : Hid (Below B w w3) := Lib.hid (by rw [← hw3]; exact below_drewN HBR.out _)
          have HZ3 : Hid (w3.heap.size = B + 1) := Lib.hid (by rw [← hw3]; exact HZR.out)
          clear hw3 c15 c2
          go_upto_region 10 with fail
          refine wp_region_planF 29 [(0, false), (1, false), (2, false), (3, false), (4, false), (5, false), (6, false), (7, false), (8, false), (9, false), (10, false), (12, false), (15, false), (16, false), (19, false), (21, false), (24, false), (25, false), (11, true), (13, true), (14, false), (17, false), (18, false), (20, true), (22, true), (23, false), (26, false), (27, false), (28, false), (29, true)] (fun u => u.cell? ⟨B, m16, none⟩ = some (.int .u32 (xa : Int)) ∧ u.cell? ⟨B, m7, none⟩ = some (.int .u32 (xc : Int))) (by kernel_rfl) (by kernel_rfl) (HCA.out _ HW3.out) ?_
          iterate 18 (refine' planF_val rfl rfl (fun w' hS => ?_) ?_; rotate_left; (focus (first | (obtain ⟨hS1, hS2⟩ := hS; go_simp; rfl) | (obtain ⟨hS1, hS2⟩ := hS; go_simp; done) | rfl)); simp only [Act.put, List.setIfInBounds_toArray, List.set_cons_zero, List.set_cons_succ])
          refine planF_do rfl (fun K hK => ?_)
          go_wp2_with (go_at_call 169; refine (T1.out _).mono ?_; rintro e wa1 ⟨rfl, dr, hdr⟩; have HA1 : Hid (wa1.heap = w3.heap) := Lib.hid (by rw [hdr]; rfl); have HX1 : Hid (Below B w wa1) := Lib.hid (by rw [hdr]; exact below_drewN HB3.out.drew dr); clear hdr)
          refine hK _ _ (.inr (HCA.out _ (by rw [HA1.out]; exact HW3.out))) ?_
          clear hK K
          refine planF_do rfl (fun K hK => ?_)
          go_wp2_with (go_at_call 169; refine (T2.out _).mono ?_; rintro e wa2 ⟨rfl, dr, hdr⟩; have HA2 : Hid (wa2.heap = w3.heap) := Lib.hid (by rw [hdr]; exact HA1.out); have HX2 : Hid (Below B w wa2) := Lib.hid (by rw [hdr]; exact below_drewN HX1.out dr); clear hdr)
          refine hK _ _ (.inr (HCA.out _ (by rw [HA2.out]; exact HW3.out))) ?_
          clear hK K
          iterate 3 (refine' planF_val rfl rfl (fun w' hS => ?_) ?_; rotate_left; (focus (first | (obtain ⟨hS1, hS2⟩ := hS; go_simp; rfl) | (obtain ⟨hS1, hS2⟩ := hS; go_simp; done) | rfl)); simp only [Act.put, List.setIfInBounds_toArray, List.set_cons_zero, List.set_cons_succ])
          refine planF_do rfl (fun K hK => ?_)
          go_wp2_with (go_at_call 169; refine (T3.out _).mono ?_; rintro e wa3 ⟨rfl, dr, hdr⟩; have HA3 : Hid (wa3.heap = w3.heap) := Lib.hid (by rw [hdr]; exact HA2.out); have HX3 : Hid (Below B w wa3) := Lib.hid (by rw [hdr]; exact below_drewN HX2.out dr); clear hdr)
          refine hK _ _ (.inr (HCA.out _ (by rw [HA3.out]; exact HW3.out))) ?_
          clear hK K
          refine planF_do rfl (fun K hK => ?_)
          go_wp2_with (go_at_call 169; refine (T4.out _).mono ?_; rintro e wa4 ⟨rfl, dr, hdr⟩; have HA4 : Hid (wa4.heap = w3.heap) := Lib.hid (by rw [hdr]; exact HA3.out); have HX4 : Hid (Below B w wa4) := Lib.hid (by rw [hdr]; exact below_drewN HX3.out dr); clear hdr)
          refine hK _ _ (.inr (HCA.out _ (by rw [HA4.out]; exact HW3.out))) ?_
          clear hK K
          iterate 4 (refine' planF_val rfl rfl (fun w' hS => ?_) ?_; rotate_left; (focus (first | (obtain ⟨hS1, hS2⟩ := hS; go_simp; rfl) | (obtain ⟨hS1, hS2⟩ := hS; go_simp; done) | rfl)); simp only [Act.put, List.setIfInBounds_toArray, List.set_cons_zero, List.set_cons_succ])
          have HW4 : Hid (wa4.heap[B]? = some (.cells (pad64 l).toArray 224 (0, 0))) := Lib.hid (by rw [HA4.out]; exact HW3.out)
          have hfz : wa4.frozen? ⟨B, n, none⟩ = false := frozen_of_row wa4 B n _ _ HW4.out
          have hcz : wa4.cell? ⟨B, n, none⟩ = some (.int .u32 0) := pad64_zero HW4.out HLE.out (by omega)
          refine planF_do rfl (fun K hK => ?_)
          go_wp2_with fail
          refine hK _ _ (.inl trivial) ?_
          clear hK K
          refine planF_nil ?_
          go_wp2_with fail
          go_roundw
          case rel => exact ⟨n + 1, by omega, by omega, by go_num, Lib.hid (by rw [← HY.out]; exact pad64_store HW4.out HLE.out (by omega) y3), Lib.hid (HX4.out.setCell (Nat.le_refl _) _), Lib.hid (by simp [HA4.out, HZ3.out])⟩
          case measure => simp [intOf]; omega
        · obtain rfl : n = 64 := by omega
          go_wp2_with fail
          go_meet
          case rel => exact ⟨HWR, HBR, HZR⟩
    case rest =>
      obtain ⟨HW3, HB3, HZ3⟩ := hcut
      obtain ⟨w3, hw3⟩ : ∃ u, u = wc := ⟨_, rfl⟩
      rw [← hw3] at HW3 HB3 HZ3 ⊢
      clear hw3 HW2 HB2 HZ2
      have hlt : hb < B := by rw [← HBQ.out]; exact (Array.getElem?_eq_some_iff.1 HH.out).1
      have HHB := Lib.hid hlt
      have HH3 : Hid (w3.heap[hb]? = some (.cells (W8c s ++ [lv, nv]).toArray 229 (0, 0))) := Lib.hid ((HB3.out.block hb hlt).trans HH.out)
      have HKB : Hid (0 < B) := Lib.hid (by rw [← HBQ.out]; exact cell_lt' (HK.out.c 0 _ rfl))
      clear hlt
      obtain ⟨c0, c1, c2, c3, c4, c5, c6, c7⟩ : w3.cell? ⟨hb, 0, none⟩ = some (.int .u32 (s.a : Int)) ∧ w3.cell? ⟨hb, 1, none⟩ = some (.int .u32 (s.b : Int)) ∧ w3.cell? ⟨hb, 2, none⟩ = some (.int .u32 (s.c : Int)) ∧ w3.cell? ⟨hb, 3, none⟩ = some (.int .u32 (s.d : Int)) ∧ w3.cell? ⟨hb, 4, none⟩ = some (.int .u32 (s.e : Int)) ∧ w3.cell? ⟨hb, 5, none⟩ = some (.int .u32 (s.f : Int)) ∧ w3.cell? ⟨hb, 6, none⟩ = some (.int .u32 (s.g : Int)) ∧ w3.cell? ⟨hb, 7, none⟩ = some (.int .u32 (s.h : Int)) :=
        ⟨cell_of_row w3 hb 0 _ _ _ HH3.out, cell_of_row w3 hb 1 _ _ _ HH3.out, cell_of_row w3 hb 2 _ _ _ HH3.out, cell_of_row w3 hb 3 _ _ _ HH3.out, cell_of_row w3 hb 4 _ _ _ HH3.out, cell_of_row w3 hb 5 _ _ _ HH3.out, cell_of_row w3 hb 6 _ _ _ HH3.out, cell_of_row w3 hb 7 _ _ _ HH3.out⟩
      go_upto_region 13 with fail
      rw [HZ3.out]
      obtain ⟨w4, hw4⟩ : ∃ u, w3.alloc (.cells #[.int .u32 (s.a : Int), .int .u32 (s.b : Int), .int .u32 (s.c : Int), .int .u32 (s.d : Int), .int .u32 (s.e : Int), .int .u32 (s.f : Int), .int .u32 (s.g : Int), .int .u32 (s.h : Int)] 189) = u := ⟨_, rfl⟩
      rw [hw4]
      have HV4 : Hid (w4.heap[B + 1]? = some (.cells (W8c s).toArray 189 (0, 0))) := Lib.hid (by rw [← hw4, ← HZ3.out]; exact heap_alloc_new _ _)
      have HU4 : Hid (Below (B + 1) w3 w4) := Lib.hid (by rw [← hw4, ← HZ3.out]; exact (Below.refl _ _).alloc (Nat.le_refl _) _)
      have HW4 : Hid (w4.heap[B]? = some (.cells (pad64 (wext (words16 blk) 48)).toArray 224 (0, 0))) := Lib.hid ((HU4.out.block B (Nat.lt_succ_self B)).trans HW3.out)
      have HB4 : Hid (Below B w w4) := Lib.hid (HB3.out.trans (HU4.out.mono (Nat.le_succ B)))
      have HH4 : Hid (w4.heap[hb]? = some (.cells (W8c s ++ [lv, nv]).toArray 229 (0, 0))) := Lib.hid ((HU4.out.block hb (Nat.lt_succ_of_lt HHB.out)).trans HH3.out)
      have HZ4 : Hid (w4.heap.size = B + 2) := Lib.hid (by rw [← hw4]; simp [HZ3.out])
      clear hw4 c0 c1 c2 c3 c4 c5 c6 c7 HW3 HB3 HZ3 HH3
      go_upto_block 4 with fail
      go_cut [] from 98 to 104 (fun wr => Hid (wr.heap[B + 1]? = some (.cells (W8c (rnds s (wext (words16 blk) 48) 64)).toArray 189 (0, 0))) ∧ Hid (Fr [B + 1] w4 wr))
      case first => as_aux_lemma =>
        go_wp2_with fail
        go_loopw [98] (fun i wr => ∃ k : Nat, k ≤ 64 ∧ i = .int .i64 (k : Int) ∧ Hid (wr.heap[B + 1]? = some (.cells (W8c (rnds s (wext (words16 blk) 48) k)).toArray 189 (0, 0))) ∧ Hid (Fr [B + 1] w4 wr)) (fun i _ => 64 - (intOf i).toNat)
        case atStart => exact ⟨0, Nat.zero_le _, rfl, HV4, Lib.hid (Fr.refl _ _)⟩
        case round =>
          obtain ⟨k, hk, rfl, HVR, HFR⟩ := hrel
          by_cases hlt : k < 64
          · have b1 : (0 : Int) ≤ k := by omega
            have b2 : (k : Int) < 64 := by omega
            obtain ⟨x, hx⟩ : ∃ x, (wext (words16 blk) 48)[k]? = some x := ⟨_, List.getElem?_eq_getElem (by rw [wext_len (words16_len blk)]; omega)⟩
            have hxd : (wext (words16 blk) 48).getD k 0 = x := by rw [List.getD_eq_getElem?_getD, hx]; rfl
            have HWR : wr.cell? ⟨B, k, none⟩ = some (.int .u32 (x : Int)) := pad64_cell ((HFR.out.block B (by rw [HZ4.out]; omega) (by simp)).trans HW4.out) hx
            have HKR : wr.cell? ⟨0, k, none⟩ = some (.int .u32 ((shaK.getD k 0 : Nat) : Int)) := by
              have h1 := HK.out.c k _ (shaK_get hlt)
              have h2 := (HB4.out.cell (p := ⟨0, k, none⟩) HKB.out).trans h1
              exact (World.cell?_of_block (a := ⟨0, k, none⟩) (HFR.out.block 0 (by rw [HZ4.out]; have := HKB.out; omega) (by have := HKB.out; rw [List.mem_singleton]; omega))).trans h2
            have HRD := Lib.hid (round_any (rnds s (wext (words16 blk) 48) k) (rnds_ok HS.out _ k) (shaK.getD k 0) x k hlt (B + 1) B wr HVR.out HKR HWR)
            have HNX : Hid (rnd (rnds s (wext (words16 blk) 48) k) (shaK.getD k 0) x = rnds s (wext (words16 blk) 48) (k + 1)) := Lib.hid (by rw [← hxd]; rfl)
            clear hx hxd HWR HKR
            go_wp2_with (go_at_call 170; refine HRD.out.mono ?_; rintro e w6 ⟨rfl, hV, hF⟩; have HV6 : Hid (w6.heap[B + 1]? = some (.cells (W8c (rnds s (wext (words16 blk) 48) (k + 1))).toArray 189 (0, 0))) := Lib.hid (by rw [← HNX.out]; exact hV); have HF6 : Hid (Fr [B + 1] w4 w6) := Lib.hid (HFR.out.trans hF); clear hV hF)
            go_roundw
            case rel => exact ⟨k + 1, by omega, by go_num, HV6, HF6⟩
            case measure => simp [intOf]; omega
          · obtain rfl : k = 64 := by omega
            go_wp2_with fail
            go_meet
            case rel => exact ⟨HVR, HFR⟩
      case rest =>
        obtain ⟨HV5, HF5⟩ := hcut
        obtain ⟨w5, hw5⟩ : ∃ u, u = wc := ⟨_, rfl⟩
        rw [← hw5] at HV5 HF5 ⊢
        clear hw5
        obtain ⟨v, hv⟩ : ∃ v, rnds s (wext (words16 blk) 48) 64 = v := ⟨_, rfl⟩
        rw [hv] at HV5
        have HMX : Hid (plus8 s v = mixN s blk) := Lib.hid (by rw [← hv]; rfl)
        have HH5 : Hid (w5.heap[hb]? = some (.cells ((plusL s v 0).map uv ++ [lv, nv]).toArray 229 (0, 0))) := Lib.hid ((HF5.out.block hb (by rw [HZ4.out]; have := HHB.out; omega) (by have := HHB.out; simp; omega)).trans HH4.out)
        have HFW : Hid (Fr [hb] w w5) := Lib.hid (by
          have h1 : Fr [hb] w w4 := Below.fr HB4.out (by rw [HBQ.out]; exact Nat.le_refl _) _
          exact h1.then_new HF5.out (fun g hg => .inr (by rw [List.mem_singleton] at hg; rw [HBQ.out]; omega)))
        have HZ5 : Hid (B + 1 < w5.heap.size) := Lib.hid (Array.getElem?_eq_some_iff.1 HV5.out).1
        clear hv HW4 HB4 HH4 HV4 HF5 HZ4 HU4
        go_wp2_with fail
        go_loopw [105] (fun i wr => ∃ j : Nat, j ≤ 8 ∧ i = .int .i64 (j : Int) ∧ Hid (wr.heap[hb]? = some (.cells ((plusL s v j).map uv ++ [lv, nv]).toArray 229 (0, 0))) ∧ Hid (Fr [hb] w5 wr)) (fun i _ => 8 - (intOf i).toNat)
        case atStart => exact ⟨0, Nat.zero_le _, rfl, HH5, Lib.hid (Fr.refl _ _)⟩
        case round =>
          obtain ⟨j, hj, rfl, HHR, HFR⟩ := hrel
          by_cases hlt : j < 8
          · have b1 : (0 : Int) ≤ j := by omega
            have b2 : (j : Int) < 8 := by omega
            obtain ⟨x, hx⟩ : ∃ x, s.l.getD j 0 = x := ⟨_, rfl⟩
            obtain ⟨y, hy⟩ : ∃ y, v.l.getD j 0 = y := ⟨_, rfl⟩
            have c1 : wr.cell? ⟨hb, j, none⟩ = some (.int .u32 (x : Int)) := by
              rw [cell_of_row wr hb j _ _ _ HHR.out, List.getElem?_toArray, plusL_get s v lv nv hlt, hx]; rfl
            have c2 : wr.cell? ⟨B + 1, j, none⟩ = some (.int .u32 (y : Int)) := by
              rw [cell_of_row wr (B + 1) j _ _ _ ((HFR.out.block (B + 1) HZ5.out (by have := HHB.out; rw [List.mem_singleton]; omega)).trans HV5.out), List.getElem?_toArray, w8_get v hlt, hy]; rfl
            have f1 : wr.frozen? ⟨hb, j, none⟩ = false := frozen_of_row wr hb j _ _ HHR.out
            have s1 := add_bits x y
            obtain ⟨z, hz⟩ : ∃ z, add32 x y = z := ⟨_, rfl⟩
            rw [hz] at s1
            have HST : Hid (∀ u : World, u.heap[hb]? = some (.cells ((plusL s v j).map uv ++ [lv, nv]).toArray 229 (0, 0)) → (u.setCell ⟨hb, j, none⟩ (.int .u32 (z : Int))).heap[hb]? = some (.cells ((plusL s v (j + 1)).map uv ++ [lv, nv]).toArray 229 (0, 0))) := Lib.hid (fun u hu => by
              rw [heap_setCell_same u hb j _ _ _ hu, List.setIfInBounds_toArray, ← plusL_set s v lv nv hlt, hx, hy, hz]; rfl)
            clear hx hy hz
            go_upto_region 21 with fail
            go_still_tail 13, (by kernel_rfl)
            go_wp2_with fail
            go_roundw
            case rel => exact ⟨j + 1, by omega, by go_num, Lib.hid (HST.out _ HHR.out), Lib.hid (HFR.out.trans ((Fr.setCell _ (by simp) _).trans (Fr.drew _ _)))⟩
            case measure => simp [intOf]; omega
          · obtain rfl : j = 8 := by omega
            go_wp2_with fail
            go_end0
            refine ⟨rfl, ?_, HFW.out.trans HFR.out⟩
            rw [← HMX.out]
            exact HHR.out
end Go.Proofs.YtgfijlamhjjecaaGreatDoor

