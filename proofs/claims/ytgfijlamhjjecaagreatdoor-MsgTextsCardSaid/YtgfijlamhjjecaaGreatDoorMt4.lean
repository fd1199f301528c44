/-
  Texts EdiY8, EdiZ1, EdiA2, EdiW, WrapP, WrapL, WrapQ, WrapV, EdiA3, WrapW, WrapX0, EdiT, one behind the other. No condition beyond those stated in each.
-/
import Derived.Test.YtgfijlamhjjecaaGreatDoorMt3
import Derived.Lib.Walk
import Derived.Lib.AppendStr
import Derived.Lib.Join
import Derived.Lib.UnsafeStr
import Derived.Laws.Externs
import Derived.Lib.ItoaNum
import Derived.Lib.ParseIntBCases
import Derived.Test.YtgfijlamhjjecaaGreatDoorMt1
import Derived.Lib.AppendIntMem
import Derived.Lib.LaidTab
import Derived.Lib.AtoiErrMem
import Derived.LoopN
import Derived.Laws.EntriesVeiled
namespace Go.Proofs.YtgfijlamhjjecaaGreatDoor
open Go.RowKit
theorem lies_bld : liesAt Tryz.prog Tryz.prog.depth 203 (2 / Tryz.prog.cellsOf 203) 0 203 1 = true := by kernel_rfl
theorem size_bld : (Tryz.prog.info? 203).map (·.size) = some 2 := by kernel_rfl
set_option maxRecDepth 100000 in
set_option maxHeartbeats 1000000 in
theorem copyCheck_used (b : Nat) (w : World) (h0 : w.cell? ⟨b, 0, none⟩ = some (.pointer (some ⟨b, 0, none⟩))) :
    Calls Tryz.prog 167 #[.pointer (some ⟨b, 0, none⟩)] w fun e w' => e = .returned (.tuple #[]) ∧ w' = w := by
  obtain ⟨j, hj, _⟩ := Option.map_eq_some_iff.1 size_bld
  go_enter Tryz.func167, Tryz.ntmps167
  go_wp2
  rw [Lib.run_neq_ptr_same w _ Tryz.underlying201 hj]
  go_wp2
  go_end0
  exact ⟨rfl, rfl⟩
set_option maxRecDepth 100000 in
set_option maxHeartbeats 1000000 in
theorem copyCheck_fresh (b : Nat) (w : World) (h0 : w.cell? ⟨b, 0, none⟩ = some (.pointer none)) (hsh : w.shape? b = some (203, 2)) (hfz : w.frozen? ⟨b, 0, none⟩ = false) :
    Calls Tryz.prog 167 #[.pointer (some ⟨b, 0, none⟩)] w fun e w' => e = .returned (.tuple #[]) ∧ w' = w.setCell ⟨b, 0, none⟩ (.pointer (some ⟨b, 0, none⟩)) := by
  obtain ⟨j, hj, hjs⟩ := Option.map_eq_some_iff.1 size_bld
  go_enter Tryz.func167, Tryz.ntmps167
  go_wp2
  rw [Lib.run_to_unsafe w ⟨b, 0, none⟩ Tryz.underlying201 Tryz.underlying275 hj (by rw [hjs]; decide) hsh (Nat.zero_lt_succ 1)]
  simp only [Result.andThen]
  rw [Oper.upon_value]
  go_wp2
  rw [run_callFunc_extern Tryz.func185 (by kernel_rfl) (by kernel_rfl) (by kernel_rfl) (e := Extern.AbiNoEscape.same) (by kernel_rfl)]
  rw [Lib.run_noEscape]
  simp only [Result.andThen]
  rw [Oper.upon_value]
  go_wp2
  rw [Lib.run_from_unsafe w ⟨b, 0, none⟩ Tryz.underlying275 Tryz.underlying201 hj hsh lies_bld]
  simp only [Result.andThen]
  rw [Oper.upon_value]
  go_wp2
  go_end0
  exact ⟨rfl, rfl⟩
def BldAt (w : World) (B b : Nat) (l : Str) : Prop := Lib.IsBuilder 203 5 B b (Lib.byteCells l) w
theorem copyCheck_any (B b : Nat) (bs : List Value) (w : World) (h : Lib.IsBuilder 203 5 B b bs w) :
    Calls Tryz.prog 167 #[.pointer (some ⟨b, 0, none⟩)] w fun e w' => e = .returned (.tuple #[]) ∧ Lib.BuilderAt 203 5 B b (.pointer (some ⟨b, 0, none⟩)) bs w' ∧ Below B w w' := by
  rcases h with h | h
  · refine (copyCheck_fresh b w h.cell0 h.shape h.frozen0).mono ?_
    rintro e w' ⟨rfl, rfl⟩
    exact ⟨rfl, h.used _, (Below.refl _ _).setCell h.1 _⟩
  · refine (copyCheck_used b w h.cell0).mono ?_
    rintro e w' ⟨rfl, rfl⟩
    exact ⟨rfl, h, Below.refl _ _⟩
set_option maxRecDepth 100000 in
set_option maxHeartbeats 2000000 in
theorem writeString_any (B b : Nat) (l : Str) (s : ByteArray) (w : World) (h : BldAt w B b l) (hlen : l.length + s.size ≤ 140737488355328) (hBw : B ≤ w.heap.size) :
    Calls Tryz.prog 141 #[.pointer (some ⟨b, 0, none⟩), .string s] w fun e w' => e = .returned (.tuple #[.int .i64 s.size, .nilIface]) ∧ BldAt w' B b (l ++ s.data.toList) ∧ Below B w w' := by
  obtain ⟨i0, hi, hz0, hz1, hz2⟩ := info_parts einfo_u8
  have hbl : (Lib.byteCells l).length = l.length := Lib.byteCells_length l
  obtain ⟨bs, hbs⟩ : ∃ bs, Lib.byteCells l = bs := ⟨_, rfl⟩
  have HBS := Lib.hid hbs
  unfold BldAt at h ⊢
  rw [hbs] at h hbl
  have hlen' : bs.length + s.size ≤ 140737488355328 := by omega
  have HC := Lib.hid (copyCheck_any B b bs w h)
  clear hbs hbl h hlen
  go_enter Tryz.func141, Tryz.ntmps141
  go_wp2_with (go_at_call 167; refine HC.out.mono ?_)
  rintro e w1 ⟨rfl, h1, hb1⟩
  obtain ⟨hB, v, hbk, hown, hne⟩ := h1
  have c0 : w1.cell? ⟨b, 0, none⟩ = some (.pointer (some ⟨b, 0, none⟩)) := by rw [cell_of_row w1 b 0 _ _ _ hbk]; rfl
  have c1 : w1.cell? ⟨b, 1, none⟩ = some v := by rw [cell_of_row w1 b 1 _ _ _ hbk]; rfl
  go_wp2_with (at_builtin; refine Lib.wpList_append_own_string _ rfl _ _ 72 9 rfl B 5 i0 Tryz.underlying72 Tryz.underlying9 hi hz0 hz1 hz2 _ _ _ rfl hown s rfl ?c3 ?c4 ?c5 ?_)
  case c3 => unfold maxLen; omega
  case c4 => omega
  case c5 => have := hb1.size; omega
  intro v' w2 hown' hgrow _
  have hlt : b < w1.heap.size := (Array.getElem?_eq_some_iff.1 hbk).1
  have hb2 : w2.heap[b]? = some (.cells #[.pointer (some ⟨b, 0, none⟩), v] 203 (0, 0)) := by
    rw [hgrow.block b hlt (fun e => hne e.symm)]
    exact hbk
  have d0 : w2.cell? ⟨b, 0, none⟩ = some (.pointer (some ⟨b, 0, none⟩)) := by rw [cell_of_row w2 b 0 _ _ _ hb2]; rfl
  have d1 : w2.cell? ⟨b, 1, none⟩ = some v := by rw [cell_of_row w2 b 1 _ _ _ hb2]; rfl
  have f1 : w2.frozen? ⟨b, 1, none⟩ = false := frozen_of_row w2 b 1 _ _ hb2
  obtain ⟨ao, n', cap, rfl⟩ : ∃ ao n' cap, v' = .slice ao n' cap := by
    rcases hown'.2 with ⟨hv, _⟩ | ⟨g, cap, cur, hv, _⟩
    · exact ⟨_, _, _, hv⟩
    · exact ⟨_, _, _, hv⟩
  go_wp2
  go_ret2
  refine ⟨rfl, .inr ?_, ?_⟩
  · have hbe : Lib.byteCells (l ++ s.data.toList) = bs ++ Lib.strCells s := by rw [← HBS.out]; simp [Lib.byteCells, Lib.strCells]
    rw [hbe]
    exact Lib.BuilderAt.put (T := 203) (e := 5) hB hb2 (bs' := bs ++ Lib.strCells s) (by simpa [Lib.strCells_length] using hown') (by decide)
  · exact (hb1.grown hgrow (by have := hb1.size; omega) (fun k hk => (hown.lt k hk).1)).setCell (p := ⟨b, 1, none⟩) hB _
theorem joinB_eq (c : UInt8) (xs : List Str) : joinB c xs = Lib.join xs [c] := by
  cases xs with
  | nil => rfl
  | cons a l =>
    rw [joinB_cons, Lib.join_cons, Lib.joinTail, List.flatMap_def]
    rfl
set_option maxRecDepth 100000 in
theorem join_any {S : Nat → Prop} (w : World) (c : UInt8) (v : Value) (xs : List Str) (h : CompsAt S w v xs) (hN : xs.length ≤ 1048576) (hl : (joinB c xs).length ≤ 140737488355328) :
    Calls Tryz.prog 140 #[.string ⟨#[c]⟩, v] w fun e w' => e = .returned (sv (joinB c xs)) ∧ Below w.heap.size w w' := by
  obtain ⟨ao, cap, rfl, h1, h2, h3, h4⟩ := h
  rw [List.length_map] at h1 ⊢
  have HJ : Hid (Calls Tryz.prog 166 #[.slice ao xs.length cap, .string ⟨#[c]⟩] w fun e w' => e = .returned (sv (joinB c xs)) ∧ Below w.heap.size w w') := Lib.hid (by
    cases xs with
    | nil => exact (Tryz.strings_Join_none ao cap ⟨#[c]⟩ w).mono (fun e w' ⟨h, h'⟩ => ⟨h, h' ▸ Below.refl _ _⟩)
    | cons a l =>
      obtain ⟨b, off, rfl, _, hc⟩ := h4 (by simp)
      have hb : b < w.heap.size := cell_lt' (hc 0 (sv a) (by simp))
      have hm : (((a :: l).map fun s => (⟨s.toArray⟩ : ByteArray)).map (·.data.toList)) = a :: l := by rw [List.map_map]; exact List.map_id _
      have := Tryz.strings_Join b off cap ((a :: l).map fun s => ⟨s.toArray⟩) ⟨#[c]⟩ w (fun j x hx => by
        rw [List.getElem?_map, Option.map_eq_some_iff] at hx
        obtain ⟨y, hy, rfl⟩ := hx
        exact hc j (sv y) (by rw [List.getElem?_map, hy]; rfl)) hb (by simp at hN ⊢; omega) (by simpa using h1) (by rw [hm, ← joinB_eq]; exact hl)
      rw [hm, ← joinB_eq, List.length_map] at this
      exact this)
  obtain ⟨J, hJ⟩ : ∃ J, sv (joinB c xs) = J := ⟨_, rfl⟩
  rw [hJ] at HJ ⊢
  clear hJ h3 h4
  go_enter Tryz.func140, Tryz.ntmps140
  go_wp2_with (go_at_call 166; refine HJ.out.mono ?_; rintro e w1 ⟨rfl, hb⟩)
  go_ret
  exact ⟨rfl, hb⟩
end Go.Proofs.YtgfijlamhjjecaaGreatDoor


namespace Go.Proofs.YtgfijlamhjjecaaGreatDoor
open Go.RowKit
def argE (es : List (List Str)) : Bool := es.any fun e => e.isEmpty
def signC (e : List Str) : Bool := e.any fun p => p.any badB
def signE (es : List (List Str)) : Bool := es.any signC
def longC (e : List Str) : Bool := e.any fun p => decide (256 < p.length)
def longE (es : List (List Str)) : Bool := es.any fun e => decide (8 < e.length) || longC e
def argS (s : Seg) : Bool := tagBad s.tag || argE s.elems
def longS (s : Seg) : Bool := decide (16 < s.elems.length) || longE s.elems
theorem argP_eq (l : List Seg) : argP l = l.any argS := rfl
theorem signP_eq (l : List Seg) : signP l = l.any fun s => signE s.elems := rfl
theorem longP_eq (l : List Seg) : longP l = (decide (64 < l.length) || l.any longS) := rfl
theorem any_take {α : Type} {l : List α} {k : Nat} {x : α} (f : α → Bool) (h : l[k]? = some x) : (l.take (k + 1)).any f = ((l.take k).any f || f x) := by
  rw [List.take_add_one, h]; simp [List.any_append]
theorem printT_take {l : List Seg} {k : Nat} {s : Seg} (h : l[k]? = some s) : printT (l.take (k + 1)) = printT (l.take k) ++ segT s := by
  rw [List.take_add_one, h]; simp [printT]
theorem joinB_words (t : Str) (es : List (List Str)) : joinB 43 (t :: es.map elemT) ++ [39] = segT ⟨t, es⟩ := by
  unfold segT
  rw [joinB_cons, List.flatMap_map]
theorem map_take_succ {α β : Type} {l : List α} {k : Nat} {x : α} (f : α → β) (h : l[k]? = some x) : (l.take (k + 1)).map f = (l.take k).map f ++ [f x] := by
  rw [List.take_add_one, h]; simp
def partsL (e : List Str) (i : Nat) : List Str := (e.take i).map compT ++ e.drop i
theorem partsL_all (e : List Str) : partsL e e.length = e.map compT := by unfold partsL; rw [List.take_length, List.drop_length, List.append_nil]
theorem partsL_len (e : List Str) (i : Nat) : (partsL e i).length = e.length := by unfold partsL; rw [List.length_append, List.length_map, ← List.length_append, List.take_append_drop]
theorem partsL_get {e : List Str} {i : Nat} {p : Str} (h : e[i]? = some p) : (partsL e i)[i]? = some p := by
  have hi : i < e.length := (List.getElem?_eq_some_iff.1 h).1
  unfold partsL
  rw [List.getElem?_append_right (by simp; omega), List.getElem?_drop]
  simp
  rw [show i + (i - min i e.length) = i by omega]; exact h
theorem partsL_set {e : List Str} {i : Nat} {p : Str} (h : e[i]? = some p) : (partsL e i).set i (compT p) = partsL e (i + 1) := by
  have hi : i < e.length := (List.getElem?_eq_some_iff.1 h).1
  have hd : e.drop i = p :: e.drop (i + 1) := by
    obtain ⟨_, he⟩ := List.getElem?_eq_some_iff.1 h
    rw [List.drop_eq_getElem_cons hi, he]
  unfold partsL
  rw [map_take_succ compT h, List.set_append_right _ _ (by simp; omega), hd]
  simp [Nat.min_eq_left (Nat.le_of_lt hi)]
theorem BldAt.cong {w w' : World} {B b : Nat} {l : Str} (h : BldAt w B b l) (e : ∀ (k : Nat) (C : Array Value) (f : Nat × Nat) (t : TypeId), w.heap[k]? = some (.cells C t f) → t ≠ 9 → w'.heap[k]? = w.heap[k]?) : BldAt w' B b l := by
  have H : ∀ p, Lib.BuilderAt 203 5 B b p (Lib.byteCells l) w → Lib.BuilderAt 203 5 B b p (Lib.byteCells l) w' := fun p ⟨hB, v, hb, ho, hn⟩ => by
    refine ⟨hB, v, (e b _ _ _ hb (by decide)).trans hb, own_cong ho (fun k hk => ?_), hn⟩
    obtain ⟨C, hC, _⟩ := own_ty ho hk
    exact e k _ _ _ hC (by decide)
  rcases h with h | h
  · exact .inl (H _ h)
  · exact .inr (H _ h)
theorem BldAt.cong' {w w' : World} {B b : Nat} {l : Str} (h : BldAt w B b l) (e : ∀ k, k < w.heap.size → w'.heap[k]? = w.heap[k]?) : BldAt w' B b l := BldAt.cong h fun k _ _ _ hk _ => e k (Array.getElem?_eq_some_iff.1 hk).1
theorem clone_any {S : Nat → Prop} (w : World) (v : Value) (e : List Str) (h : CompsAt S w v e) (hn : e.length ≤ 1048576) :
    Calls Tryz.prog 135 #[v] w fun r w' => ∃ v', r = .returned v' ∧ w'.ownsRow w.heap.size 9 1 v' e.length (e.map sv) ∧ Below w.heap.size w w' := by
  obtain ⟨ao, cap, rfl, h1, h2, h3, h4⟩ := h
  rw [List.length_map] at h1 ⊢
  cases ao with
  | none =>
    have h0 : e.length = 0 := by have := h3 rfl; omega
    refine (Tryz.slices_Clone_string_nil e.length cap w).mono fun r w' ⟨h, h'⟩ => ?_
    subst h'
    rw [h0, List.length_eq_zero_iff.1 h0]
    exact ⟨_, h, World.ownsRow_nil _ _ _ _, Below.refl _ _⟩
  | some a =>
    cases he : e with
    | nil =>
      refine (Tryz.slices_Clone_string_zero a cap w).mono fun r w' ⟨v', h, ho, _, hb⟩ => ?_
      exact ⟨v', h, ho, hb⟩
    | cons p q =>
      obtain ⟨b, off, hab, _, hc⟩ := h4 (by rw [he]; simp)
      cases hab
      rw [← he]
      have := Tryz.slices_Clone_string b off e.length cap (e.map fun s => ⟨s.toArray⟩) w (by rw [List.length_map]; exact Nat.le_refl _) (by omega) (fun j hj => by
        rw [List.length_map] at hj
        have hx : e[j]? = some e[j] := List.getElem?_eq_getElem hj
        rw [hc j (sv e[j]) (by rw [List.getElem?_map, hx]; rfl), List.getD_eq_getElem?_getD, List.getElem?_map, hx]; rfl)
      refine this.mono fun r w' ⟨v', h, ho, _, hb⟩ => ⟨v', h, ?_, hb⟩
      rw [List.take_of_length_le (by rw [List.length_map]; exact Nat.le_refl _), List.map_map] at ho
      exact ho
end Go.Proofs.YtgfijlamhjjecaaGreatDoor


namespace Go.Proofs.YtgfijlamhjjecaaGreatDoor
open Go.RowKit
section
variable {S : Nat → Prop} {w : World}
theorem SegsAt.form {v : Value} {l : List Seg} (h : SegsAt S w v l) : ∃ ao cap, v = .slice ao l.length cap ∧ l.length ≤ cap ∧ cap ≤ maxLen := by
  obtain ⟨ao, cap, xs, rfl, h1, h2, _⟩ := h; exact ⟨ao, cap, rfl, h1, h2⟩
theorem SegsAt.get {ao : Option Addr} {n cap : Nat} {l : List Seg} (h : SegsAt S w (.slice ao n cap) l) {k : Nat} {s : Seg} (hk : l[k]? = some s) : ∃ b off x, ao = some ⟨b, off, none⟩ ∧ S b ∧ w.cell? ⟨b, off + k * 2, none⟩ = some (sv s.tag) ∧ w.cell? ⟨b, off + k * 2 + 1, none⟩ = some x ∧ ElemsAt S w x s.elems := by
  obtain ⟨_, _, xs, e, h1, h2, h3, h4, h5, h6⟩ := h
  cases e
  obtain ⟨b, off, rfl, hS, h7⟩ := h6 (by intro e; rw [e] at hk; simp at hk)
  have hlt : k < xs.length := by rw [h4]; exact (List.getElem?_eq_some_iff.1 hk).1
  have hx := List.getElem?_eq_getElem hlt
  obtain ⟨a1, a2⟩ := h7 k s _ hk hx
  exact ⟨b, off, _, rfl, hS, a1, a2, h5 k s _ hk hx⟩
theorem ElemsAt.form {v : Value} {l : List (List Str)} (h : ElemsAt S w v l) : ∃ ao cap, v = .slice ao l.length cap ∧ l.length ≤ cap ∧ cap ≤ maxLen := by
  obtain ⟨xs, ⟨ao, cap, rfl, h1, h2, _⟩, h3, _⟩ := h; exact ⟨ao, cap, by rw [h3], by omega, h2⟩
theorem ElemsAt.get {ao : Option Addr} {n cap : Nat} {l : List (List Str)} (h : ElemsAt S w (.slice ao n cap) l) {k : Nat} {e : List Str} (hk : l[k]? = some e) : ∃ b off x, ao = some ⟨b, off, none⟩ ∧ S b ∧ w.cell? ⟨b, off + k, none⟩ = some x ∧ CompsAt S w x e := by
  obtain ⟨xs, ⟨_, _, e, h1, h2, h3, h4⟩, h5, h6⟩ := h
  cases e
  have hlt : k < xs.length := by rw [h5]; exact (List.getElem?_eq_some_iff.1 hk).1
  have hx := List.getElem?_eq_getElem hlt
  obtain ⟨b, off, rfl, hS, h7⟩ := h4 (by rintro rfl; simp at hlt)
  exact ⟨b, off, _, rfl, hS, h7 k _ hx, h6 k e _ hk hx⟩
theorem CompsAt.form {v : Value} {l : List Str} (h : CompsAt S w v l) : ∃ ao cap, v = .slice ao l.length cap ∧ l.length ≤ cap ∧ cap ≤ maxLen := by
  obtain ⟨ao, cap, rfl, h1, h2, _⟩ := h
  rw [List.length_map] at h1
  exact ⟨ao, cap, by rw [List.length_map], h1, h2⟩
theorem CompsAt.get {ao : Option Addr} {n cap : Nat} {l : List Str} (h : CompsAt S w (.slice ao n cap) l) {k : Nat} {p : Str} (hk : l[k]? = some p) : ∃ b off, ao = some ⟨b, off, none⟩ ∧ S b ∧ w.cell? ⟨b, off + k, none⟩ = some (sv p) := by
  obtain ⟨_, _, e, h1, h2, h3, h4⟩ := h
  cases e
  obtain ⟨b, off, rfl, hS, h7⟩ := h4 (by intro e; rw [List.map_eq_nil_iff] at e; rw [e] at hk; simp at hk)
  exact ⟨b, off, rfl, hS, h7 k _ (by rw [List.getElem?_map, hk]; rfl)⟩
end
def bytesC (e : List Str) : Nat := (e.map List.length).sum
def bytesE (es : List (List Str)) : Nat := (es.map bytesC).sum
def bytesL (l : List Seg) : Nat := (l.map fun s => bytesE s.elems).sum
structure LightS (l : List Seg) : Prop where
  n : l.length ≤ 80
  seg : ∀ s ∈ l, s.tag.length ≤ 300 ∧ s.elems.length ≤ 40
  el : ∀ s ∈ l, ∀ e ∈ s.elems, e.length ≤ 40
  bytes : bytesL l ≤ 3000
theorem joinT_le (e : List Str) : (elemT e).length ≤ 2 * bytesC e + e.length := by
  have h1 : ∀ l : List Str, (l.flatMap fun p => 58 :: compT p).length ≤ 2 * bytesC l + l.length := fun l => by
    induction l with
    | nil => simp [bytesC]
    | cons a l ih =>
      have := compT_len a
      have := sgN_le a
      simp only [List.flatMap_cons, List.length_append, List.length_cons, bytesC, List.map_cons, List.sum_cons] at ih ⊢
      omega
  cases e with
  | nil => simp [elemT, joinB]
  | cons p l =>
    have h := h1 l
    have := compT_len p
    have := sgN_le p
    rw [elemT_cons, List.length_append]
    unfold restT
    simp only [bytesC, List.map_cons, List.sum_cons, List.length_cons] at h ⊢
    omega
theorem segT_le (s : Seg) (h1 : ∀ e ∈ s.elems, e.length ≤ 40) : (segT s).length ≤ s.tag.length + 1 + 41 * s.elems.length + 2 * bytesE s.elems := by
  have key : ∀ es : List (List Str), (∀ e ∈ es, e.length ≤ 40) → (es.flatMap fun e => 43 :: elemT e).length ≤ 41 * es.length + 2 * bytesE es := fun es => by
    induction es with
    | nil => intro _; simp
    | cons a l ih =>
      intro h
      have h2 := ih fun e he => h e (List.mem_cons_of_mem _ he)
      have h3 := joinT_le a
      have h4 := h a List.mem_cons_self
      simp only [List.flatMap_cons, List.length_append, List.length_cons, bytesE, List.map_cons, List.sum_cons] at h2 ⊢
      omega
  have := key s.elems h1
  unfold segT
  simp only [List.length_append, List.length_cons, List.length_nil]
  omega
theorem LightS.print {l : List Seg} (h : LightS l) : (printT l).length ≤ 1048576 := by
  have key : ∀ m : List Seg, (∀ s ∈ m, s.tag.length ≤ 300 ∧ s.elems.length ≤ 40) → (∀ s ∈ m, ∀ e ∈ s.elems, e.length ≤ 40) → (printT m).length ≤ m.length * 1941 + 2 * bytesL m := fun m => by
    induction m with
    | nil => intro _ _; simp [printT]
    | cons a r ih =>
      intro h1 h2
      have h3 := ih (fun s hs => h1 s (List.mem_cons_of_mem _ hs)) (fun s hs => h2 s (List.mem_cons_of_mem _ hs))
      have h4 := segT_le a (h2 a List.mem_cons_self)
      have h5 := h1 a List.mem_cons_self
      simp only [printT, bytesL, List.flatMap_cons, List.length_append, List.map_cons, List.sum_cons, List.length_cons] at h3 ⊢
      omega
  have := key l h.seg h.el
  have := h.n
  have := h.bytes
  omega
def HeavyS (l : List Seg) (e : Ending) : Prop := ∃ b, e = .returned (.bool b) ∧ (b = false → LightS l)
theorem HeavyS.yes (l : List Seg) : HeavyS l (.returned (.bool true)) := ⟨true, rfl, fun h => by cases h⟩
end Go.Proofs.YtgfijlamhjjecaaGreatDoor


namespace Go.Proofs.YtgfijlamhjjecaaGreatDoor
def curT (t : Str) (es : List (List Str)) (cs : List Str) (p : Str) : Str := t ++ (es ++ [cs ++ [p]]).flatMap (fun e => 43 :: elemT e)
def textE : EC → Str
  | .btw l => printT l
  | .tag l t => printT l ++ t
  | .bhd l t => printT l ++ t
  | .cmp l t es cs p => printT l ++ curT t es cs p
  | .rel l t es cs p => printT l ++ curT t es cs p ++ [63]
def okE : EC → Prop
  | .btw l => okL l
  | .tag l t => okL l ∧ l.length < 64 ∧ t.length < 3 ∧ ∀ c ∈ t, tagB c = true
  | .bhd l t => okL l ∧ l.length < 64 ∧ okT t
  | .cmp l t es cs p => okL l ∧ l.length < 64 ∧ okT t ∧ es.length < 16 ∧ (∀ e ∈ es, okEl e) ∧ cs.length < 8 ∧ (∀ q ∈ cs, okP q) ∧ okP p
  | .rel l t es cs p => okL l ∧ l.length < 64 ∧ okT t ∧ es.length < 16 ∧ (∀ e ∈ es, okEl e) ∧ cs.length < 8 ∧ (∀ q ∈ cs, okP q) ∧ okP p
theorem joinB_snoc (s : UInt8) : ∀ (l : List Str) (a : Str), l ≠ [] → joinB s (l ++ [a]) = joinB s l ++ s :: a
  | [], _, h => absurd rfl h
  | [x], a, _ => by simp [joinB]
  | x :: y :: l, a, _ => by
    have ih := joinB_snoc s (y :: l) a (by simp)
    simp only [List.cons_append] at ih ⊢
    rw [joinB, ih, joinB, List.append_assoc]; rfl
theorem elemT_snoc (cs : List Str) (p : Str) (h : cs ≠ []) : elemT (cs ++ [p]) = elemT cs ++ 58 :: compT p := by
  unfold elemT
  rw [List.map_append, List.map_singleton, joinB_snoc _ _ _ (by simpa using h)]
theorem compT_snoc (p : Str) (c : UInt8) : compT (p ++ [c]) = compT p ++ escB c := by simp [compT]
theorem elemT_put (cs : List Str) (p : Str) (c : UInt8) : elemT (cs ++ [p ++ [c]]) = elemT (cs ++ [p]) ++ escB c := by
  by_cases h : cs = []
  · subst h; simp [elemT, joinB, compT_snoc]
  · rw [elemT_snoc _ _ h, elemT_snoc _ _ h, compT_snoc]; simp
theorem curT_put (t : Str) (es : List (List Str)) (cs : List Str) (p : Str) (c : UInt8) : curT t es cs (p ++ [c]) = curT t es cs p ++ escB c := by
  unfold curT
  rw [List.flatMap_append, List.flatMap_append, List.flatMap_singleton, List.flatMap_singleton, elemT_put]; simp
theorem curT_comp (t : Str) (es : List (List Str)) (cs : List Str) (p : Str) : curT t es (cs ++ [p]) [] = curT t es cs p ++ [58] := by
  unfold curT
  rw [List.flatMap_append, List.flatMap_append, List.flatMap_singleton, List.flatMap_singleton, elemT_snoc _ _ (by simp)]; simp [compT]
theorem curT_elem (t : Str) (es : List (List Str)) (cs : List Str) (p : Str) : curT t (es ++ [cs ++ [p]]) [] [] = curT t es cs p ++ [43] := by
  unfold curT
  rw [List.flatMap_append]; simp [elemT, joinB, compT]
theorem printT_snoc (l : List Seg) (s : Seg) : printT (l ++ [s]) = printT l ++ segT s := by simp [printT]
theorem okP_put {p : Str} {c : UInt8} (h : okP p) (hc : okB c) (hl : p.length ≠ 256) : okP (p ++ [c]) := by
  refine ⟨by have := h.1; simp; omega, fun x hx => ?_⟩
  rw [List.mem_append, List.mem_singleton] at hx
  rcases hx with hx | rfl
  · exact h.2 x hx
  · exact hc
theorem okL_snoc {l : List Seg} {s : Seg} (h : okL l) (hl : l.length < 64) (hs : okS s) : okL (l ++ [s]) := by
  refine ⟨by simp; omega, fun x hx => ?_⟩
  rw [List.mem_append, List.mem_singleton] at hx
  rcases hx with hx | rfl
  · exact h.2 x hx
  · exact hs
theorem mem_snoc {α : Type} {P : α → Prop} {l : List α} {a : α} (h : ∀ x ∈ l, P x) (ha : P a) : ∀ x ∈ l ++ [a], P x := fun x hx => by
  rw [List.mem_append, List.mem_singleton] at hx
  rcases hx with hx | rfl
  · exact h x hx
  · exact ha
theorem okEl_snoc {cs : List Str} {p : Str} (h1 : cs.length < 8) (h2 : ∀ q ∈ cs, okP q) (h3 : okP p) : okEl (cs ++ [p]) := ⟨by simp, by simp; omega, mem_snoc h2 h3⟩
theorem okP_nil : okP [] := ⟨by simp, by simp⟩
theorem tagS_text {l : List Seg} {t : Str} {c : UInt8} {s : EC} (h : tagS l t c = .ok s) (hl : okL l) (hn : l.length < 64) (ht : t.length < 3) (hc : ∀ x ∈ t, tagB x = true) : textE s = printT l ++ t ++ [c] ∧ okE s := by
  unfold tagS at h
  split at h
  · cases h
  · rename_i hb
    rw [Bool.not_eq_false] at hb
    split at h
    · cases h; exact ⟨by simp [textE], hl, hn, by simp; omega, mem_snoc hc hb⟩
    · cases h; exact ⟨by simp [textE], hl, hn, by simp; omega, mem_snoc hc hb⟩
theorem putS_text {l : List Seg} {t : Str} {es : List (List Str)} {cs : List Str} {p : Str} {c : UInt8} {s : EC} (h : putS l t es cs p c = .ok s) (ho : okE (.cmp l t es cs p)) (hc : okB c) : textE s = printT l ++ curT t es cs p ++ escB c ∧ okE s := by
  unfold putS at h
  obtain ⟨h1, h2, h3, h4, h5, h6, h7, h8⟩ := ho
  split at h
  · cases h
  · cases h
    exact ⟨by simp [textE, curT_put], h1, h2, h3, h4, h5, h6, h7, okP_put h8 hc (by assumption)⟩
theorem signB_ok {c : UInt8} (h : signB c = true) : okB c := by
  unfold signB at h
  simp only [Bool.or_eq_true, beq_iff_eq] at h
  unfold okB
  rcases h with ((rfl | rfl) | rfl) | rfl <;> decide
theorem signB_no {c : UInt8} (h : signB c = true) (h1 : c ≠ 63) (h2 : c ≠ 39) (h3 : c ≠ 43) : c = 58 := by
  unfold signB at h
  simp only [Bool.or_eq_true, beq_iff_eq] at h
  rcases h with ((rfl | rfl) | rfl) | rfl
  · exact absurd rfl h3
  · rfl
  · exact absurd rfl h2
  · exact absurd rfl h1
theorem step_text {s s' : EC} {c : UInt8} (h : stepE s c = .ok s') (ho : okE s) : textE s' = textE s ++ (if c = 10 then [] else [c]) ∧ okE s' := by
  cases s with
  | btw l =>
    simp only [stepE] at h
    split at h
    · rename_i h10
      cases h
      rw [if_pos h10.1]; exact ⟨by simp, ho⟩
    · split at h
      · cases h
      · have hn : l.length < 64 := by have := ho.1; omega
        have hb : c ≠ 10 := by
          rintro rfl
          unfold tagS at h
          rw [if_pos (by decide)] at h
          cases h
        obtain ⟨e1, e2⟩ := tagS_text h ho hn (by simp) (by simp)
        rw [if_neg hb]
        exact ⟨by rw [e1]; simp [textE], e2⟩
  | tag l t =>
    obtain ⟨h1, h2, h3, h4⟩ := ho
    have hb : c ≠ 10 := by
      rintro rfl
      simp only [stepE] at h
      unfold tagS at h
      rw [if_pos (by decide)] at h
      cases h
    rw [if_neg hb]
    exact tagS_text h h1 h2 h3 h4
  | bhd l t =>
    obtain ⟨h1, h2, h3⟩ := ho
    simp only [stepE] at h
    split at h
    · rename_i hc
      cases h
      subst hc
      rw [if_neg (by decide)]
      exact ⟨by simp [textE, printT_snoc, segT], okL_snoc h1 h2 ⟨h3, by simp, by simp⟩⟩
    · split at h
      · rename_i hc
        cases h
        subst hc
        rw [if_neg (by decide)]
        exact ⟨by simp [textE, curT, elemT, joinB, compT], h1, h2, h3, by simp, by simp, by simp, by simp, okP_nil⟩
      · cases h
  | cmp l t es cs p =>
    have ho' := ho
    obtain ⟨h1, h2, h3, h4, h5, h6, h7, h8⟩ := ho
    simp only [stepE] at h
    split at h
    · rename_i hc
      cases h; subst hc
      rw [if_neg (by decide)]
      exact ⟨rfl, ho'⟩
    · rename_i h63
      split at h
      · rename_i hs
        have hb : c ≠ 10 := by rintro rfl; exact absurd hs (by decide)
        rw [if_neg hb]
        unfold signS at h
        split at h
        · rename_i hc
          cases h; subst hc
          exact ⟨by simp [textE, printT_snoc, segT, curT], okL_snoc h1 h2 ⟨h3, by simp; omega, mem_snoc h5 (okEl_snoc h6 h7 h8)⟩⟩
        · rename_i h39
          split at h
          · rename_i hc
            subst hc
            split at h
            · cases h
            · cases h
              exact ⟨by simp [textE, curT_elem], h1, h2, h3, by simp; omega, mem_snoc h5 (okEl_snoc h6 h7 h8), by simp, by simp, okP_nil⟩
          · rename_i h43
            have := signB_no hs h63 h39 h43
            subst this
            split at h
            · cases h
            · cases h
              exact ⟨by simp [textE, curT_comp], h1, h2, h3, h4, h5, by simp; omega, mem_snoc h7 h8, okP_nil⟩
      · rename_i hs
        split at h
        · cases h
        · rename_i hr
          rw [Bool.not_eq_true] at hs
          have hb : c ≠ 10 := by rintro rfl; exact hr (by decide)
          rw [if_neg hb]
          obtain ⟨e1, e2⟩ := putS_text h ho' ⟨by omega, by omega⟩
          refine ⟨?_, e2⟩
          rw [e1]
          unfold escB
          rw [hs]; rfl
  | rel l t es cs p =>
    simp only [stepE] at h
    split at h
    · rename_i hs
      have hb : c ≠ 10 := by rintro rfl; exact absurd hs (by decide)
      rw [if_neg hb]
      obtain ⟨e1, e2⟩ := putS_text h ho (signB_ok hs)
      refine ⟨?_, e2⟩
      rw [e1]
      unfold escB
      rw [hs]; simp [textE]
    · cases h
def no10 (t : Str) : Str := t.filter (fun c => c != 10)
theorem run_text : ∀ (t : Str) (s s' : EC) (i : Nat), runE s i t = .ok s' → okE s → textE s' = textE s ++ no10 t ∧ okE s'
  | [], s, s', i, h, ho => by simp only [runE, EO.ok.injEq] at h; subst h; exact ⟨by simp [no10], ho⟩
  | c :: t, s, s', i, h, ho => by
    simp only [runE] at h
    cases hs : stepE s c with
    | err k => rw [hs] at h; cases h
    | ok s1 =>
      rw [hs] at h
      obtain ⟨e1, e2⟩ := step_text hs ho
      obtain ⟨e3, e4⟩ := run_text t s1 s' (i + 1) h e2
      refine ⟨?_, e4⟩
      rw [e3, e1, List.append_assoc]
      congr 1
      unfold no10
      rw [List.filter_cons]
      by_cases hc : c = 10
      · subst hc; simp
      · simp [hc]
theorem parse_ok {t : Str} {m : List Seg} {at_ : Nat} (h : parseE t = (m, at_, 0)) (h' : t.length ≤ 65536) : at_ = 0 ∧ runE (.btw []) 0 t = .ok (.btw m) := by
  unfold parseE at h
  rw [if_neg (by omega)] at h
  split at h
  · rename_i i k hr
    injection h with h1 h2; injection h2 with h2 h3
    subst h3
    exfalso
    have : ∀ (t : Str) (s : EC) (i j : Nat), runE s i t ≠ .err j 0 := by
      intro t
      induction t with
      | nil => intro s i j; simp [runE]
      | cons c t ih =>
        intro s i j h
        simp only [runE] at h
        cases hs : stepE s c with
        | ok s1 => rw [hs] at h; exact ih _ _ _ h
        | err k =>
          rw [hs] at h
          simp only [EO.err.injEq] at h
          obtain ⟨_, rfl⟩ := h
          have hT : ∀ l t, tagS l t c ≠ .err 0 := fun l t h => by
            unfold tagS at h; split at h
            · cases h
            · split at h <;> cases h
          have hP : ∀ l t es cs p, putS l t es cs p c ≠ .err 0 := fun l t es cs p h => by
            unfold putS at h; split at h <;> cases h
          cases s with
          | btw l => simp only [stepE] at hs; split at hs; cases hs; split at hs; cases hs; exact hT _ _ hs
          | tag l t => exact hT _ _ hs
          | bhd l t => simp only [stepE] at hs; split at hs; cases hs; split at hs <;> cases hs
          | cmp l t es cs p =>
            simp only [stepE, signS] at hs
            split at hs; cases hs; split at hs
            · split at hs; cases hs; split at hs
              · split at hs <;> cases hs
              · split at hs <;> cases hs
            · split at hs; cases hs; exact hP _ _ _ _ _ hs
          | rel l t es cs p => simp only [stepE] at hs; split at hs; exact hP _ _ _ _ _ hs; cases hs
    exact this _ _ _ _ hr
  · rename_i l hr
    injection h with h1 h2; injection h2 with h2 h3
    subst h1
    exact ⟨h2.symm, hr⟩
  · injection h with h1 h2; injection h2 with h2 h3; cases h3
theorem okE_start : okE (.btw []) := ⟨by simp, by simp⟩
theorem no10_le (t : Str) : (no10 t).length ≤ t.length := List.length_filter_le _ _
theorem print_parse {t : Str} {m : List Seg} {at_ : Nat} (h : parseE t = (m, at_, 0)) (h' : t.length ≤ 65536) : printE m = (no10 t, 0) ∧ okL m := by
  obtain ⟨_, hr⟩ := parse_ok h h'
  obtain ⟨e1, e2⟩ := run_text t _ _ 0 hr okE_start
  have e3 : printT m = no10 t := e1
  have := no10_le t
  rw [printE_ok e2 (by rw [e3]; omega), e3]
  exact ⟨rfl, e2⟩
theorem runE_err_lt : ∀ (t : Str) (s : EC) (i j : Nat) (k : Int), runE s i t = .err j k → i ≤ j ∧ j < i + t.length ∧ ∃ s', runE s i (t.take (j - i)) = .ok s'
  | [], s, i, j, k, h => by simp [runE] at h
  | c :: t, s, i, j, k, h => by
    simp only [runE] at h
    cases hs : stepE s c with
    | err k' =>
      rw [hs] at h
      simp only [EO.err.injEq] at h
      obtain ⟨rfl, rfl⟩ := h
      exact ⟨Nat.le_refl _, by simp, s, by simp [runE]⟩
    | ok s1 =>
      rw [hs] at h
      obtain ⟨h1, h2, s', h3⟩ := runE_err_lt t s1 (i + 1) j k h
      refine ⟨by omega, by simp; omega, s', ?_⟩
      rw [show j - i = (j - (i + 1)) + 1 by omega, List.take_succ_cons]
      simp only [runE, hs]
      exact h3
theorem step_err31 {s : EC} {c : UInt8} {k : Int} (h : stepE s c = .err k) : k ≠ 31 ∧ k ≠ 0 := by
  have hT : ∀ l t, tagS l t c = .err k → k ≠ 31 ∧ k ≠ 0 := fun l t h => by
    unfold tagS at h; split at h
    · cases h; decide
    · split at h <;> cases h
  have hP : ∀ l t es cs p, putS l t es cs p c = .err k → k ≠ 31 ∧ k ≠ 0 := fun l t es cs p h => by
    unfold putS at h; split at h
    · cases h; decide
    · cases h
  cases s with
  | btw l =>
    simp only [stepE] at h; split at h
    · cases h
    · split at h
      · cases h; decide
      · exact hT _ _ h
  | tag l t => exact hT _ _ h
  | bhd l t =>
    simp only [stepE] at h; split at h
    · cases h
    · split at h
      · cases h
      · cases h; decide
  | cmp l t es cs p =>
    simp only [stepE, signS] at h
    split at h
    · cases h
    · split at h
      · split at h
        · cases h
        · split at h
          · split at h
            · cases h; decide
            · cases h
          · split at h
            · cases h; decide
            · cases h
      · split at h
        · cases h; decide
        · exact hP _ _ _ _ _ h
  | rel l t es cs p =>
    simp only [stepE] at h; split at h
    · exact hP _ _ _ _ _ h
    · cases h; decide
theorem runE_err31 : ∀ (t : Str) (s : EC) (i j : Nat) (k : Int), runE s i t = .err j k → k ≠ 31 ∧ k ≠ 0
  | [], s, i, j, k, h => by simp [runE] at h
  | c :: t, s, i, j, k, h => by
    simp only [runE] at h
    cases hs : stepE s c with
    | err k' =>
      rw [hs] at h
      simp only [EO.err.injEq] at h
      obtain ⟨rfl, rfl⟩ := h
      exact step_err31 hs
    | ok s1 => rw [hs] at h; exact runE_err31 t s1 (i + 1) j k h
theorem parse_cut {t : Str} {m : List Seg} {at_ : Nat} {k : Int} (h : parseE t = (m, at_, k)) (h' : t.length ≤ 65536) (hk : k ≠ 0) : at_ ≤ t.length ∧ (k = 31 ↔ at_ = t.length) ∧ m = [] ∧
    ((∃ m', parseE (t.take at_) = (m', 0, 0)) ∨ parseE (t.take at_) = ([], at_, 31)) := by
  have hfin : ∀ s, runE (.btw []) 0 (t.take at_) = .ok s → at_ ≤ t.length → ((∃ m', parseE (t.take at_) = (m', 0, 0)) ∨ parseE (t.take at_) = ([], at_, 31)) := fun s hs hle => by
    have hlen : (t.take at_).length = at_ := by simp; omega
    unfold parseE
    rw [if_neg (by omega), hs, hlen]
    cases s with
    | btw l => exact .inl ⟨l, rfl⟩
    | tag l t => exact .inr rfl
    | bhd l t => exact .inr rfl
    | cmp l t es cs p => exact .inr rfl
    | rel l t es cs p => exact .inr rfl
  unfold parseE at h
  rw [if_neg (by omega)] at h
  split at h
  · rename_i i k' hr
    injection h with h1 h2; injection h2 with h2 h3
    subst h2; subst h3
    obtain ⟨a1, a2, s, a3⟩ := runE_err_lt _ _ _ _ _ hr
    rw [Nat.sub_zero] at a3
    obtain ⟨b1, b2⟩ := runE_err31 _ _ _ _ _ hr
    exact ⟨by omega, ⟨fun e => absurd e b1, fun e => by omega⟩, h1.symm, hfin s a3 (by omega)⟩
  · injection h with h1 h2; injection h2 with h2 h3
    exact absurd h3.symm hk
  · rename_i s hs hr
    injection h with h1 h2; injection h2 with h2 h3
    subst h2; subst h3
    exact ⟨Nat.le_refl _, ⟨fun _ => rfl, fun _ => rfl⟩, h1.symm, hfin s (by rw [List.take_length]; exact hr) (Nat.le_refl _)⟩
end Go.Proofs.YtgfijlamhjjecaaGreatDoor


namespace Go.Proofs.YtgfijlamhjjecaaGreatDoor
abbrev decT (v : Nat) : Str := Lib.decDigits v
def digB (c : UInt8) : Bool := decide (48 ≤ c.toNat) && decide (c.toNat ≤ 57)
def valW : Nat → Str → Option Nat
  | v, [] => some v
  | v, c :: r => if digB c then (if v * 10 + (c.toNat - 48) < 18446744073709551616 then valW (v * 10 + (c.toNat - 48)) r else none) else none
def numW (s : Str) : Option Nat := match s with
  | [] => none
  | c :: r => if c = 48 ∧ r ≠ [] then none else valW 0 (c :: r)
theorem valW_append : ∀ (a b : Str) (v : Nat), valW v (a ++ b) = (valW v a).bind fun u => valW u b
  | [], b, v => rfl
  | c :: a, b, v => by
    simp only [List.cons_append, valW]
    split
    · split
      · exact valW_append a b _
      · rfl
    · rfl
theorem digB_of {d : Nat} (h : d < 10) : digB (UInt8.ofNat (48 + d)) = true ∧ (UInt8.ofNat (48 + d)).toNat = 48 + d := by
  have e : (UInt8.ofNat (48 + d)).toNat = 48 + d := by rw [UInt8.toNat_ofNat']; omega
  refine ⟨?_, e⟩
  unfold digB; rw [e]; simp; omega
theorem dec_small {v : Nat} (h : v < 10) : decT v = [UInt8.ofNat (48 + v)] := Lib.decDigits_one h
theorem dec_step {v : Nat} (h : ¬ v < 10) : decT v = decT (v / 10) ++ [UInt8.ofNat (48 + v % 10)] := by
  show Lib.decDigits v = _
  rw [Lib.decDigits, dif_neg h]
theorem dec_ne (v : Nat) : decT v ≠ [] := by
  by_cases h : v < 10
  · rw [dec_small h]; simp
  · rw [dec_step h]; simp
theorem dec_digs : ∀ (v : Nat), ∀ c ∈ decT v, digB c = true := fun v => by
  induction v using Nat.strongRecOn with
  | ind v ih =>
    by_cases h : v < 10
    · rw [dec_small h]; intro c hc; rw [List.mem_singleton] at hc; subst hc; exact (digB_of h).1
    · rw [dec_step h]
      intro c hc
      rcases List.mem_append.1 hc with hc | hc
      · exact ih (v / 10) (by omega) c hc
      · rw [List.mem_singleton] at hc; subst hc; exact (digB_of (Nat.mod_lt _ (by omega))).1
theorem dec_head : ∀ (v : Nat), 0 < v → (decT v).head? ≠ some 48 := fun v => by
  induction v using Nat.strongRecOn with
  | ind v ih =>
    intro h0
    by_cases h : v < 10
    · rw [dec_small h]
      simp only [List.head?_cons, ne_eq, Option.some.injEq]
      intro e
      have := congrArg UInt8.toNat e
      rw [(digB_of h).2] at this
      have h48 : (48 : UInt8).toNat = 48 := rfl
      omega
    · rw [dec_step h]
      have := ih (v / 10) (by omega) (by omega)
      cases hd : decT (v / 10) with
      | nil => exact absurd hd (dec_ne _)
      | cons a l => rw [hd] at this; simpa using this
theorem val_dec : ∀ (v : Nat), v < 18446744073709551616 → valW 0 (decT v) = some v := fun v => by
  induction v using Nat.strongRecOn with
  | ind v ih =>
    intro hv
    by_cases h : v < 10
    · rw [dec_small h]
      obtain ⟨e1, e2⟩ := digB_of h
      simp only [valW, e1, e2, if_true]
      rw [if_pos (by omega)]
      congr 1; omega
    · rw [dec_step h, valW_append, ih (v / 10) (by omega) (by omega)]
      obtain ⟨e1, e2⟩ := digB_of (Nat.mod_lt v (by omega : 0 < 10))
      simp only [Option.bind_some, valW, e1, e2, if_true]
      rw [if_pos (by omega)]
      congr 1; omega
theorem num_dec {v : Nat} (h : v < 18446744073709551616) : numW (decT v) = some v := by
  have hv := val_dec v h
  have hh := dec_head v
  cases hd : decT v with
  | nil => exact absurd hd (dec_ne v)
  | cons c r =>
    rw [hd] at hv hh
    unfold numW
    simp only
    rw [if_neg, hv]
    rintro ⟨rfl, hr⟩
    rcases Nat.eq_zero_or_pos v with h0 | h0
    · subst h0
      rw [dec_small (by omega)] at hd
      injection hd with _ hd
      exact hr hd.symm
    · exact hh h0 (by simp)
theorem val_inj : ∀ (s : Str) (v u : Nat), 0 < v → valW v s = some u → decT u = decT v ++ s
  | [], v, u, _, h => by simp only [valW, Option.some.injEq] at h; subst h; simp
  | c :: r, v, u, h0, h => by
    simp only [valW] at h
    split at h
    · rename_i hd
      split at h
      · have h1 := val_inj r _ u (by omega) h
        have hc : 48 ≤ c.toNat ∧ c.toNat ≤ 57 := by simpa [digB] using hd
        have e : decT (v * 10 + (c.toNat - 48)) = decT v ++ [c] := by
          rw [dec_step (by omega), show (v * 10 + (c.toNat - 48)) / 10 = v by omega, show (v * 10 + (c.toNat - 48)) % 10 = c.toNat - 48 by omega]
          congr 2
          apply UInt8.toNat_inj.1
          rw [(digB_of (show c.toNat - 48 < 10 by omega)).2]; omega
        rw [h1, e, List.append_assoc]; rfl
      · cases h
    · cases h
theorem num_inj {s : Str} {v : Nat} (h : numW s = some v) : s = decT v := by
  cases s with
  | nil => cases h
  | cons c r =>
    simp only [numW] at h
    split at h
    · cases h
    · rename_i hn
      simp only [valW] at h
      split at h
      · rename_i hd
        have hc : 48 ≤ c.toNat ∧ c.toNat ≤ 57 := by simpa [digB] using hd
        rw [if_pos (by omega), Nat.zero_mul, Nat.zero_add] at h
        have e1 : decT (c.toNat - 48) = [c] := by
          rw [dec_small (by omega)]
          congr 1
          apply UInt8.toNat_inj.1
          rw [(digB_of (show c.toNat - 48 < 10 by omega)).2]; omega
        by_cases h0 : c = 48
        · have hr : r = [] := Classical.byContradiction fun hr => hn ⟨h0, hr⟩
          subst hr
          simp only [valW, Option.some.injEq] at h
          rw [← h, e1]
        · have h0' : 0 < c.toNat - 48 := by
            have : c.toNat ≠ 48 := fun e => h0 (UInt8.toNat_inj.1 e)
            omega
          rw [val_inj r _ v h0' h, e1]; rfl
      · cases h
theorem valW_lt : ∀ (s : Str) (v u : Nat), v < 18446744073709551616 → valW v s = some u → u < 18446744073709551616
  | [], v, u, hv, h => by simp only [valW, Option.some.injEq] at h; omega
  | c :: r, v, u, hv, h => by
    simp only [valW] at h
    split at h
    · split at h
      · rename_i hlt; exact valW_lt r _ u hlt h
      · cases h
    · cases h
theorem num_lt {s : Str} {v : Nat} (h : numW s = some v) : v < 18446744073709551616 := by
  cases s with
  | nil => cases h
  | cons c r =>
    simp only [numW] at h
    split at h
    · cases h
    · exact valW_lt _ 0 v (by omega) h
end Go.Proofs.YtgfijlamhjjecaaGreatDoor


namespace Go.Proofs.YtgfijlamhjjecaaGreatDoor
def oneN : List Str → Option Nat
  | [s] => numW s
  | _ => none
structure WD where
  fr : Nat
  dst : Nat
  rf : Nat
  segs : List Seg
def wd0 : WD := ⟨0, 0, 0, []⟩
def unb : Str := [85, 78, 66]
def unz : Str := [85, 78, 90]
def numsL : List (List Str) → Option (List Nat)
  | [] => some []
  | e :: es => match oneN e, numsL es with
    | some v, some l => some (v :: l)
    | _, _ => none
def numsW (s : Seg) (t : Str) (n : Nat) : Option (List Nat) := if s.tag = t ∧ s.elems.length = n then numsL s.elems else none
def wrapHT (h z : Seg) (m : List Seg) : WD × Int :=
  match numsW h unb 3, numsW z unz 2 with
  | some [a, b, c], some [d, f] => if 8 ≤ a ∨ 8 ≤ b then (wd0, 40) else if d ≠ m.length then (wd0, 41) else if c ≠ f then (wd0, 42) else (⟨a, b, c, m⟩, 0)
  | _, _ => (wd0, 40)
def wrapOf (l : List Seg) : WD × Int :=
  match l with
  | [] => (wd0, 40)
  | h :: r => match r.getLast? with
    | none => (wd0, 40)
    | some z => wrapHT h z r.dropLast
def wrapParseE (t : Str) : WD × Int := if (parseE t).2.2 = 0 then wrapOf (parseE t).1 else (wd0, (parseE t).2.2)
def numSeg (t : Str) (l : List Nat) : Seg := ⟨t, l.map fun v => [decT v]⟩
def wrapL (a b c d f : Nat) (m : List Seg) : List Seg := numSeg unb [a, b, c] :: m ++ [numSeg unz [d, f]]
def wrapPrintE (x : WD) : Str × Int :=
  if 8 ≤ x.fr ∨ 8 ≤ x.dst then ([], 1) else if 62 < x.segs.length then ([], 2) else printE (wrapL x.fr x.dst x.rf x.segs.length x.rf x.segs)
theorem wrapOf_snoc (h z : Seg) (m : List Seg) : wrapOf (h :: (m ++ [z])) = wrapHT h z m := by
  unfold wrapOf
  simp
theorem numsL_len : ∀ {es : List (List Str)} {l : List Nat}, numsL es = some l → l.length = es.length
  | [], l, h => by simp [numsL] at h; subst h; rfl
  | e :: es, l, h => by
    simp only [numsL] at h
    split at h
    · rename_i v l' h1 h2
      cases h
      simp [numsL_len h2]
    · cases h
theorem oneN_inj {e : List Str} {v : Nat} (h : oneN e = some v) : e = [decT v] ∧ v < 18446744073709551616 := by
  unfold oneN at h
  split at h
  · rename_i s
    rw [num_inj h]
    exact ⟨rfl, num_lt h⟩
  · cases h
theorem numsL_inj : ∀ {es : List (List Str)} {l : List Nat}, numsL es = some l → es = l.map (fun v => [decT v]) ∧ ∀ v ∈ l, v < 18446744073709551616
  | [], l, h => by simp [numsL] at h; subst h; simp
  | e :: es, l, h => by
    simp only [numsL] at h
    split at h
    · rename_i v l' h1 h2
      cases h
      obtain ⟨e1, b1⟩ := oneN_inj h1
      obtain ⟨e2, b2⟩ := numsL_inj h2
      refine ⟨by rw [e1, e2]; rfl, fun u hu => ?_⟩
      rcases List.mem_cons.1 hu with rfl | hu
      · exact b1
      · exact b2 u hu
    · cases h
theorem numsW_inj {s : Seg} {t : Str} {n : Nat} {l : List Nat} (h : numsW s t n = some l) : s = numSeg t l ∧ l.length = n ∧ ∀ v ∈ l, v < 18446744073709551616 := by
  unfold numsW at h
  split at h
  · rename_i hc
    obtain ⟨e1, e2⟩ := numsL_inj h
    refine ⟨?_, by rw [numsL_len h]; exact hc.2, e2⟩
    cases s
    simp only at hc e1
    rw [hc.1, e1]; rfl
  · cases h
theorem wrapOf_ok {l : List Seg} {x : WD} (h : wrapOf l = (x, 0)) : l = wrapL x.fr x.dst x.rf x.segs.length x.rf x.segs ∧ x.fr < 8 ∧ x.dst < 8 ∧ x.rf < 18446744073709551616 := by
  unfold wrapOf at h
  split at h
  · cases h
  · rename_i hd r
    split at h
    · cases h
    · rename_i z hz
      have hr : r = r.dropLast ++ [z] := by
        have hne : r ≠ [] := by rintro rfl; cases hz
        have h1 := List.dropLast_concat_getLast hne
        rw [List.getLast?_eq_some_getLast hne] at hz
        cases hz
        exact h1.symm
      unfold wrapHT at h
      split at h
      · rename_i a b c d f h1 h2
        obtain ⟨e1, _, b1⟩ := numsW_inj h1
        obtain ⟨e2, _, b2⟩ := numsW_inj h2
        split at h
        · cases h
        · rename_i hab
          split at h
          · cases h
          · rename_i hdm
            split at h
            · cases h
            · rename_i hcf
              cases h
              have hdm' : d = r.dropLast.length := Classical.byContradiction fun e => hdm e
              have hcf' : c = f := Classical.byContradiction fun e => hcf e
              subst hcf'
              refine ⟨?_, by simp only; omega, by simp only; omega, b1 c (by simp)⟩
              unfold wrapL
              simp only
              rw [List.cons_append, ← hdm', ← e1, ← e2, ← hr]
      · cases h
theorem digB_okB {c : UInt8} (h : digB c = true) : okB c ∧ signB c = false := by
  unfold digB at h
  simp at h
  refine ⟨⟨by omega, by omega⟩, ?_⟩
  unfold signB
  have e : ∀ x : UInt8, (c == x) = decide (c.toNat = x.toNat) := fun x => by rw [Bool.eq_iff_iff, beq_iff_eq, decide_eq_true_eq]; exact UInt8.toNat_inj.symm
  rw [e, e, e, e]
  simp
  refine ⟨⟨⟨?_, ?_⟩, ?_⟩, ?_⟩ <;> omega
theorem dec_len : ∀ (n v : Nat), v < 10 ^ (n + 1) → (decT v).length ≤ n + 1
  | 0, v, h => by rw [dec_small (by omega)]; simp
  | n + 1, v, h => by
    by_cases hv : v < 10
    · rw [dec_small hv]; simp
    · rw [dec_step hv]
      have := dec_len n (v / 10) (by rw [Nat.pow_succ] at h; omega)
      simp; omega
theorem dec_len20 {v : Nat} (h : v < 18446744073709551616) : (decT v).length ≤ 20 := dec_len 19 v (by omega)
theorem okP_dec {v : Nat} (h : v < 18446744073709551616) : okP (decT v) := ⟨by have := dec_len20 h; omega, fun c hc => (digB_okB (dec_digs v c hc)).1⟩
theorem compT_dec (v : Nat) : compT (decT v) = decT v := by
  have h := dec_digs v
  generalize decT v = l at h
  induction l with
  | nil => rfl
  | cons c l ih =>
    have h1 : compT (c :: l) = escB c ++ compT l := by simp [compT]
    rw [h1, ih (fun x hx => h x (by simp [hx]))]
    unfold escB
    rw [(digB_okB (h c (by simp))).2]
    rfl
theorem okS_num {t : Str} {l : List Nat} (ht : okT t) (hn : l.length ≤ 16) (h : ∀ v ∈ l, v < 18446744073709551616) : okS (numSeg t l) := by
  refine ⟨ht, by simpa [numSeg] using hn, fun e he => ?_⟩
  simp only [numSeg, List.mem_map] at he
  obtain ⟨v, hv, rfl⟩ := he
  exact ⟨by simp, by simp, fun p hp => by simp at hp; subst hp; exact okP_dec (h v hv)⟩
theorem okT_unb : okT unb := ⟨rfl, by decide⟩
theorem okT_unz : okT unz := ⟨rfl, by decide⟩
theorem okL_mid {h z : Seg} {m : List Seg} (ho : okL (h :: m ++ [z])) : okL m ∧ m.length ≤ 62 ∧ okS h ∧ okS z := by
  obtain ⟨h1, h2⟩ := ho
  simp at h1
  exact ⟨⟨by omega, fun s hs => h2 s (by simp [hs])⟩, by omega, h2 h (by simp), h2 z (by simp)⟩
theorem elemT_dec (v : Nat) : elemT [decT v] = decT v := by
  show joinB 58 ([decT v].map compT) = _
  simp only [List.map_cons, List.map_nil, joinB]
  exact compT_dec v
theorem segT_num (t : Str) (l : List Nat) : segT (numSeg t l) = t ++ l.flatMap (fun v => 43 :: decT v) ++ [39] := by
  unfold segT numSeg
  simp only [List.flatMap_map]
  congr 2
  congr 1
  funext v
  rw [elemT_dec]
theorem printT_cons (s : Seg) (l : List Seg) : printT (s :: l) = segT s ++ printT l := by simp [printT]
theorem printT_app (l m : List Seg) : printT (l ++ m) = printT l ++ printT m := by simp [printT]
theorem printT_wrap (a b c d f : Nat) (m : List Seg) : printT (wrapL a b c d f m) = segT (numSeg unb [a, b, c]) ++ printT m ++ segT (numSeg unz [d, f]) := by
  unfold wrapL
  rw [printT_app, printT_cons, printT_cons]
  simp [printT]
theorem wrap_there {x : WD} {t : Str} (hl : t.length ≤ 65536) (h : wrapParseE t = (x, 0)) : wrapPrintE x = (no10 t, 0) := by
  unfold wrapParseE at h
  split at h
  · rename_i h0
    obtain ⟨l, i, k, hp⟩ : ∃ l i k, parseE t = (l, i, k) := ⟨_, _, _, rfl⟩
    rw [hp] at h h0
    simp only at h h0
    subst h0
    obtain ⟨e1, h1, h2, h3⟩ := wrapOf_ok h
    obtain ⟨hpr, hok⟩ := print_parse hp hl
    rw [e1] at hpr hok
    obtain ⟨hm, hn, _⟩ := okL_mid hok
    unfold wrapPrintE
    rw [if_neg (by omega), if_neg (by omega)]
    exact hpr
  · rename_i h0
    simp only [Prod.mk.injEq] at h
    exact absurd h.2 h0
theorem any_wrap (f : Seg → Bool) (a b c d g : Nat) (m : List Seg) (h1 : f (numSeg unb [a, b, c]) = false) (h2 : f (numSeg unz [d, g]) = false) : (wrapL a b c d g m).any f = m.any f := by
  unfold wrapL
  rw [List.any_append, List.any_cons, h1, List.any_cons, h2]
  simp
theorem okS_flags {s : Seg} (h : okS s) : (tagBad s.tag || s.elems.any fun e => e.isEmpty) = false ∧ (s.elems.any fun e => e.any fun p => p.any badB) = false ∧ (decide (16 < s.elems.length) || s.elems.any fun e => decide (8 < e.length) || e.any fun p => decide (256 < p.length)) = false := by
  refine ⟨?_, ?_, ?_⟩
  · rw [Bool.or_eq_false_iff]
    refine ⟨?_, ?_⟩
    · unfold tagBad
      rw [Bool.or_eq_false_iff]
      refine ⟨by simp [h.1.1], ?_⟩
      simp only [Bool.not_eq_false', List.all_eq_true]
      exact h.1.2
    · rw [List.any_eq_false]; intro e he; have := h.2.2 e he
      cases e with
      | nil => exact absurd rfl this.1
      | cons a b => simp
  · rw [List.any_eq_false]; intro e he
    rw [Bool.not_eq_true, List.any_eq_false]; intro p hp
    rw [Bool.not_eq_true, List.any_eq_false]; intro c hc
    rw [Bool.not_eq_true]
    exact (badB_iff c).2 (((h.2.2 e he).2.2 p hp).2 c hc)
  · rw [Bool.or_eq_false_iff]; refine ⟨by have := h.2.1; simp; omega, ?_⟩
    rw [List.any_eq_false]; intro e he
    rw [Bool.not_eq_true, Bool.or_eq_false_iff]; refine ⟨by have := (h.2.2 e he).2.1; simp; omega, ?_⟩
    rw [List.any_eq_false]; intro p hp
    have := ((h.2.2 e he).2.2 p hp).1
    simp; omega
def roundT (a b c d f : Nat) (s : Str) : Str := unb ++ 43 :: decT a ++ 43 :: decT b ++ 43 :: decT c ++ 39 :: s ++ unz ++ 43 :: decT d ++ 43 :: decT f ++ [39]
theorem roundT_eq (a b c d f : Nat) (m : List Seg) : printT (wrapL a b c d f m) = roundT a b c d f (printT m) := by
  rw [printT_wrap, segT_num, segT_num]
  unfold roundT
  simp
theorem wrapPrintE_ref (x : WD) (hr : x.rf < 18446744073709551616) (h1 : ¬ (8 ≤ x.fr ∨ 8 ≤ x.dst)) (h2 : ¬ 62 < x.segs.length) :
    wrapPrintE x = if (printE x.segs).2 ≠ 0 then ([], (printE x.segs).2) else
      if 65536 < (roundT x.fr x.dst x.rf x.segs.length x.rf (printE x.segs).1).length then ([], 2) else (roundT x.fr x.dst x.rf x.segs.length x.rf (printE x.segs).1, 0) := by
  unfold wrapPrintE
  rw [if_neg h1, if_neg h2]
  have o1 : okS (numSeg unb [x.fr, x.dst, x.rf]) := okS_num okT_unb (by simp) (by simp [hr]; omega)
  have o2 : okS (numSeg unz [x.segs.length, x.rf]) := okS_num okT_unz (by simp) (by simp [hr]; omega)
  obtain ⟨a1, s1, l1⟩ := okS_flags o1
  obtain ⟨a2, s2, l2⟩ := okS_flags o2
  have eA : argP (wrapL x.fr x.dst x.rf x.segs.length x.rf x.segs) = argP x.segs := any_wrap _ _ _ _ _ _ _ a1 a2
  have eS : signP (wrapL x.fr x.dst x.rf x.segs.length x.rf x.segs) = signP x.segs := any_wrap _ _ _ _ _ _ _ s1 s2
  have eL : longP (wrapL x.fr x.dst x.rf x.segs.length x.rf x.segs) = longP x.segs := by
    unfold longP
    rw [any_wrap _ _ _ _ _ _ _ l1 l2]
    have e1 : decide (64 < (wrapL x.fr x.dst x.rf x.segs.length x.rf x.segs).length) = false := by simp [wrapL]; omega
    have e2 : decide (64 < x.segs.length) = false := by simp; omega
    rw [e1, e2]
  unfold printE
  rw [eA, eS, eL, roundT_eq]
  by_cases ha : argP x.segs = true
  · simp [ha]
  · rw [Bool.not_eq_true] at ha
    by_cases hs : signP x.segs = true
    · simp [ha, hs]
    · rw [Bool.not_eq_true] at hs
      by_cases hl : longP x.segs = true
      · simp [ha, hs, hl]
      · rw [Bool.not_eq_true] at hl
        rw [ha, hs, hl]
        simp only [Bool.false_or, Bool.false_eq_true, if_false, decide_eq_true_eq]
        by_cases hp : 65536 < (printT x.segs).length
        · rw [if_pos hp]
          have : 65536 < (roundT x.fr x.dst x.rf x.segs.length x.rf (printT x.segs)).length := by
            unfold roundT; simp only [List.length_append, List.length_cons]; omega
          rw [if_pos this]
          simp
        · rw [if_neg hp]
          simp
end Go.Proofs.YtgfijlamhjjecaaGreatDoor


namespace Go.Proofs.YtgfijlamhjjecaaGreatDoor
def numEnd : Lib.NumEnd Nat → Option Nat
  | .ok u => some u
  | _ => none
theorem parseM_val : ∀ (l : Str) (acc : Nat), acc < 18446744073709551616 → numEnd (Lib.parseUintM 18446744073709551615 acc l) = valW acc l
  | [], acc, _ => rfl
  | c :: r, acc, h => by
    have hD : digB c = true ↔ (48 ≤ c.toNat ∧ c.toNat ≤ 57) := by unfold digB; simp
    rw [Lib.parseUintM, valW]
    by_cases hd : 48 ≤ c.toNat ∧ c.toNat ≤ 57
    · rw [if_pos hd, if_pos (hD.2 hd)]
      by_cases h1 : 1844674407370955162 ≤ acc
      · rw [if_pos h1, if_neg (by omega)]; rfl
      · rw [if_neg h1]
        by_cases h2 : 18446744073709551615 < acc * 10 + (c.toNat - 48)
        · rw [if_pos h2, if_neg (by omega)]; rfl
        · rw [if_neg h2, if_pos (by omega)]
          exact parseM_val r _ (by omega)
    · rw [if_neg hd, if_neg (fun h => hd (hD.1 h))]; rfl
theorem num_pu {s : Str} (h0 : s ≠ []) (h1 : ¬ (s.head? = some 48 ∧ 1 < s.length)) : numEnd (Lib.parseUintB 64 s) = numW s := by
  cases s with
  | nil => exact absurd rfl h0
  | cons c r =>
    unfold Lib.parseUintB numW
    rw [if_neg (by simp)]
    have hn : ¬ (c = 48 ∧ r ≠ []) := fun ⟨a, b⟩ => h1 ⟨by simp [a], by
      have := List.length_pos_iff.2 b
      simp; omega⟩
    simp only
    rw [if_neg hn]
    exact parseM_val _ 0 (by omega)
theorem num_zero {s : Str} (h1 : s.head? = some 48 ∧ 1 < s.length) : numW s = none := by
  cases s with
  | nil => rfl
  | cons c r =>
    obtain ⟨h, hl⟩ := h1
    simp only [List.head?_cons, Option.some.injEq] at h
    unfold numW
    simp only
    rw [if_pos ⟨h, by rintro rfl; simp at hl⟩]
theorem num_plus {s : Str} (h1 : s.head? = some 43) : numW s = none := by
  cases s with
  | nil => rfl
  | cons c r =>
    simp only [List.head?_cons, Option.some.injEq] at h1
    subst h1
    unfold numW
    simp only
    rw [if_neg (fun h => absurd h.1 (by decide))]
    rfl
theorem num_long {s : Str} (h : 20 < s.length) : numW s = none := by
  cases hn : numW s with
  | none => rfl
  | some v =>
    have e := num_inj hn
    have := dec_len20 (num_lt hn)
    rw [← e] at this
    omega
theorem val_step {s : Str} {i v : Nat} {c : UInt8} (h : valW 0 (s.take i) = some v) (hc : s[i]? = some c) : valW 0 (s.take (i + 1)) = valW v [c] := by
  rw [List.take_add_one, hc]
  show valW 0 (s.take i ++ [c]) = _
  rw [valW_append, h]; rfl
theorem val_stop {s : Str} {i v : Nat} {c : UInt8} (h : valW 0 (s.take i) = some v) (hc : s[i]? = some c) (hs : valW v [c] = none) : valW 0 s = none := by
  have h1 := val_step h hc
  rw [hs] at h1
  rw [← List.take_append_drop (i + 1) s, valW_append, h1]; rfl
theorem val_num {s : Str} (h0 : s ≠ []) (h1 : ¬ (s.head? = some 48 ∧ 1 < s.length)) : numW s = valW 0 s := by
  cases s with
  | nil => exact absurd rfl h0
  | cons c r =>
    unfold numW
    simp only
    rw [if_neg]
    exact fun ⟨a, b⟩ => h1 ⟨by simp [a], by
      have := List.length_pos_iff.2 b
      simp; omega⟩
end Go.Proofs.YtgfijlamhjjecaaGreatDoor


namespace Go.Proofs.YtgfijlamhjjecaaGreatDoor
open Go.RowKit
structure VarsOk (w : World) : Prop where
  tab : Lib.TabIs Tryz.prog w "internal/strconv.uint64pow10" .u64 Lib.pow10Tab
  syn : ∃ te pe, w.cell? ⟨2, 0, none⟩ = some (.iface te pe)
  rng : ∃ te pe, w.cell? ⟨3, 0, none⟩ = some (.iface te pe)
theorem VarsOk.on {w w' : World} {B : Nat} (h : VarsOk w) (hb : Below B w w') (hB : w.heap.size ≤ B) : VarsOk w' := by
  obtain ⟨h1, ⟨a, b, h2⟩, ⟨c, d, h3⟩⟩ := h
  exact ⟨Lib.tabBelow_of_tabIs h1 w' (hb.mono hB), ⟨a, b, (hb.cell (Nat.lt_of_lt_of_le (cell_lt' h2) hB)).trans h2⟩, ⟨c, d, (hb.cell (Nat.lt_of_lt_of_le (cell_lt' h3) hB)).trans h3⟩⟩
def PuQ (s : Str) (u : Nat) (ev : Value) : Prop := (numEnd (Lib.parseUintB 64 s) = some u ∧ ev = .nilIface) ∨ (numEnd (Lib.parseUintB 64 s) = none ∧ ∃ te pe, ev = .iface te pe)
theorem pu_any (s : ByteArray) (hl : s.size ≤ 1048576) (w : World) (hv : VarsOk w) : Calls Tryz.prog 146 #[.string s, .int .i64 10, .int .i64 64] w fun e w' => ∃ (u : Nat) (ev : Value), e = .returned (.tuple #[.int .u64 (u : Int), ev]) ∧ PuQ s.data.toList u ev ∧ Below w.heap.size w w' := by
  by_cases h1 : ∃ u, Lib.parseUintB 64 s.data.toList = .ok u
  · obtain ⟨u, h⟩ := h1
    refine (Tryz.strconv_ParseUint_10_at64_ok s (by omega) u h w).mono ?_
    rintro e w' ⟨rfl, hw⟩
    refine ⟨u, _, rfl, .inl ⟨by rw [h]; rfl, rfl⟩, ?_⟩
    rcases hw with rfl | rfl
    · exact Below.refl _ _
    · exact Lib.bytesWorld_below _ _ _
  by_cases h2 : Lib.parseUintB 64 s.data.toList = .range
  · obtain ⟨te, pe, hc⟩ := hv.rng
    refine (Tryz.strconv_ParseUint_10_at64_range s (by omega) h2 _ w hc (.inr ⟨te, pe, rfl⟩)).mono ?_
    rintro e w' ⟨N, rfl, _, _, hb⟩
    exact ⟨18446744073709551615, _, rfl, .inr ⟨by rw [h2]; rfl, _, _, rfl⟩, hb⟩
  · have hn : numEnd (Lib.parseUintB 64 s.data.toList) = none := by
      cases hx : Lib.parseUintB 64 s.data.toList <;> first | rfl | exact absurd ⟨_, hx⟩ h1
    obtain ⟨te, pe, hc⟩ := hv.syn
    refine (Tryz.strconv_ParseUint_10_at64_syntax s (by omega) ⟨fun u e => h1 ⟨u, e⟩, h2⟩ _ w hc (.inr ⟨te, pe, rfl⟩)).mono ?_
    rintro e w' ⟨N, rfl, _, _, hb⟩
    exact ⟨0, _, rfl, .inr ⟨hn, _, _, rfl⟩, hb⟩
end Go.Proofs.YtgfijlamhjjecaaGreatDoor


namespace Go.Proofs.YtgfijlamhjjecaaGreatDoor
open Go.RowKit
instance : DecidableEq Seg := fun a b => if h : a.tag = b.tag ∧ a.elems = b.elems then isTrue (by cases a; cases b; simp_all) else isFalse (by rintro rfl; exact h ⟨rfl, rfl⟩)
def sameB (l m : List Seg) : Bool := decide (l = m)
def Drew (w w' : World) : Prop := ∃ d, w' = w.drewN d
theorem Drew.below {w w' : World} (h : Drew w w') (B : Nat) : Below B w w' := by
  obtain ⟨d, rfl⟩ := h; exact below_drewN (Below.refl _ _) d
theorem Drew.heap {w w' : World} (h : Drew w w') : w'.heap = w.heap := by obtain ⟨d, rfl⟩ := h; rfl
theorem ret_bool {a b : Bool} (h : a = b) : Ending.returned (.bool a) = .returned (.bool b) := by rw [h]
theorem str_same (s : ByteArray) : (s.toList == s.toList) = true := by simp
theorem str_ne {s t : ByteArray} (h : s ≠ t) : (s.toList == t.toList) = false := by
  rw [beq_eq_false_iff_ne, ByteArray.toList_eq, ByteArray.toList_eq]
  intro e
  apply h
  cases s; cases t
  exact congrArg ByteArray.mk (Array.toList_inj.1 e)
end Go.Proofs.YtgfijlamhjjecaaGreatDoor


namespace Go.Proofs.YtgfijlamhjjecaaGreatDoor
open Go.RowKit
def NumQ (bound : Nat) (cs : List Str) (r : Int) (b : Bool) : Prop := (b = true ∧ ∃ u : Nat, oneN cs = some u ∧ (bound = 0 ∨ u < bound) ∧ r = (u : Int)) ∨ (b = false ∧ ∀ u, oneN cs = some u → ¬ (bound = 0 ∨ u < bound))
def NumR (k : IntKind) (bound : Nat) (cs : List Str) (w : World) (e : Ending) (w' : World) : Prop := ∃ (r : Int) (b : Bool), e = .returned (.tuple #[.int k r, .bool b]) ∧ NumQ bound cs r b ∧ Below w.heap.size w w'
theorem NumQ.no {bound : Nat} {cs : List Str} {r : Int} (h : oneN cs = none) : NumQ bound cs r false := .inr ⟨rfl, fun u hu => by rw [h] at hu; cases hu⟩
set_option maxRecDepth 100000 in
set_option maxHeartbeats 4000000 in
theorem num8_any {S : Nat → Prop} (w : World) (v : Value) (cs : List Str) (h : CompsAt S w v cs) (hl : ∀ p ∈ cs, p.length ≤ 1048576) (hv : VarsOk w) :
    Calls Tryz.prog 102 #[v, .int .u64 8] w fun e w' => NumR .u8 8 cs w e w' := by
  obtain ⟨ao, cap, rfl, h1, h2⟩ := h.form
  unfold maxLen at h2
  match cs, h, hl, h1 with
  | [], h, hl, h1 =>
    simp only [List.length_nil]
    go_enter Tryz.func102, Tryz.ntmps102
    go_wp2_with fail
    go_ret2
    exact ⟨0, false, rfl, .no rfl, Below.refl _ _⟩
  | a :: b :: cs, h, hl, h1 =>
    obtain ⟨n, hn⟩ : ∃ n, (a :: b :: cs).length = n := ⟨_, rfl⟩
    have d0 : ((n : Int) != 1) = true := by rw [bne_iff_ne, ← hn]; simp; omega
    have hO : oneN (a :: b :: cs) = none := rfl
    rw [hn]
    clear hn
    go_enter Tryz.func102, Tryz.ntmps102
    go_wp2_with fail
    go_ret2
    exact ⟨0, false, rfl, .no hO, Below.refl _ _⟩
  | [p], h, hl, h1 =>
    obtain ⟨b, off, rfl, _, hc⟩ := h.get (k := 0) (p := p) rfl
    simp only [List.length_cons, List.length_nil, Nat.zero_add, Nat.add_zero] at h1 hc ⊢
    obtain ⟨s, hs⟩ : ∃ s : ByteArray, (⟨p.toArray⟩ : ByteArray) = s := ⟨_, rfl⟩
    have hsz : s.size = p.length := by rw [← hs]; rfl
    have hsl : s.data.toList = p := by rw [← hs]
    have hpl := hl p (by simp)
    unfold sv at hc
    rw [hs] at hc
    clear hl h hs
    cases p with
    | nil =>
      have e0 : s = ⟨#[]⟩ := by
        cases s with | mk d => cases d with | mk l => simp at hsl; rw [hsl]
      subst e0
      go_enter Tryz.func102, Tryz.ntmps102
      go_wp2_with fail
      go_ret2
      exact ⟨0, false, rfl, .no rfl, Below.refl _ _⟩
    | cons c p =>
      have hs0 : 0 < s.size := by rw [hsz]; simp
      have hA : s[0]'hs0 = c := by
        have h1 := at_byte s 0 hs0
        rw [hsl] at h1
        simpa using h1.symm
      have ne0 : s.toList.isEmpty = false := by
        have h1 := str_ne (s := s) (t := ⟨#[]⟩) (fun h => by rw [h] at hs0; exact absurd hs0 (by decide))
        cases h2 : s.toList with
        | nil => rw [h2] at h1; simp at h1
        | cons a l => rfl
      have i0 : (0 : Int) < (s.size : Int) := by omega
      have HSZ := Lib.hid hsz
      have HSL := Lib.hid hsl
      clear hsz hsl
      by_cases h43 : c = 43
      · subst h43
        go_enter Tryz.func102, Tryz.ntmps102
        go_wp2_with fail
        go_ret2
        exact ⟨0, false, rfl, .no (num_plus (s := 43 :: p) rfl : numW (43 :: p) = none), Below.refl _ _⟩
      · have n43 : ((c.toNat : Int) == 43) = false := nat_eq c 43 h43
        by_cases h48 : 1 < s.size ∧ c = 48
        · obtain ⟨hl1, rfl⟩ := h48
          have i1 : (1 : Int) < (s.size : Int) := by omega
          go_enter Tryz.func102, Tryz.ntmps102
          go_wp2_with fail
          go_ret2
          exact ⟨0, false, rfl, .no (num_zero (s := 48 :: p) ⟨rfl, by rw [← HSZ.out]; exact hl1⟩ : numW (48 :: p) = none), Below.refl _ _⟩
        · have HPU := Lib.hid (pu_any s (by rw [HSZ.out]; exact hpl) w hv)
          have HN := Lib.hid (num_pu (s := c :: p) (by simp) (fun h => h48 ⟨by rw [HSZ.out]; exact h.2, by simpa using h.1⟩))
          rw [HSL.out] at HPU
          by_cases hl1 : 1 < s.size
          · have i1 : (1 : Int) < (s.size : Int) := by omega
            have n48 : ((c.toNat : Int) == 48) = false := nat_eq c 48 (fun h => h48 ⟨hl1, h⟩)
            go_enter Tryz.func102, Tryz.ntmps102
            go_wp2_with (go_at_call 146; refine HPU.out.mono ?_; rintro e w' ⟨u, ev, rfl, hq, hb⟩; have HQ := Lib.hid hq; have HB := Lib.hid hb; clear hq hb)
            have hn : oneN [c :: p] = numEnd (Lib.parseUintB 64 (c :: p)) := HN.out.symm
            have HNN := Lib.hid hn
            clear hn
            rcases HQ.out with ⟨hq, rfl⟩ | ⟨hq, te, pe, rfl⟩
            · have HE := Lib.hid (HNN.out.trans hq)
              clear hq
              by_cases hu : u < 8
              · have u8 : decide ((u : Int) < 8) = true := by rw [decide_eq_true_eq]; omega
                go_simp
                go_wp2_with fail
                go_ret2
                exact ⟨_, true, rfl, .inl ⟨rfl, u, HE.out, .inr hu, by omega⟩, HB.out⟩
              · have u8 : decide ((u : Int) < 8) = false := by rw [decide_eq_false_iff_not]; omega
                go_simp
                go_wp2_with fail
                go_ret2
                exact ⟨_, false, rfl, .inr ⟨rfl, fun x hx => by rw [HE.out] at hx; cases hx; omega⟩, HB.out⟩
            · have HE := Lib.hid (HNN.out.trans hq)
              clear hq
              go_simp
              go_wp2_with fail
              go_ret2
              exact ⟨_, false, rfl, .no HE.out, HB.out⟩
          · have i1 : ¬ (1 : Int) < (s.size : Int) := by omega
            go_enter Tryz.func102, Tryz.ntmps102
            go_wp2_with (go_at_call 146; refine HPU.out.mono ?_; rintro e w' ⟨u, ev, rfl, hq, hb⟩; have HQ := Lib.hid hq; have HB := Lib.hid hb; clear hq hb)
            have hn : oneN [c :: p] = numEnd (Lib.parseUintB 64 (c :: p)) := HN.out.symm
            have HNN := Lib.hid hn
            clear hn
            rcases HQ.out with ⟨hq, rfl⟩ | ⟨hq, te, pe, rfl⟩
            · have HE := Lib.hid (HNN.out.trans hq)
              clear hq
              by_cases hu : u < 8
              · have u8 : decide ((u : Int) < 8) = true := by rw [decide_eq_true_eq]; omega
                go_simp
                go_wp2_with fail
                go_ret2
                exact ⟨_, true, rfl, .inl ⟨rfl, u, HE.out, .inr hu, by omega⟩, HB.out⟩
              · have u8 : decide ((u : Int) < 8) = false := by rw [decide_eq_false_iff_not]; omega
                go_simp
                go_wp2_with fail
                go_ret2
                exact ⟨_, false, rfl, .inr ⟨rfl, fun x hx => by rw [HE.out] at hx; cases hx; omega⟩, HB.out⟩
            · have HE := Lib.hid (HNN.out.trans hq)
              clear hq
              go_simp
              go_wp2_with fail
              go_ret2
              exact ⟨_, false, rfl, .no HE.out, HB.out⟩
set_option maxRecDepth 100000 in
set_option maxHeartbeats 4000000 in
theorem num64_any {S : Nat → Prop} (w : World) (v : Value) (cs : List Str) (h : CompsAt S w v cs) (hl : ∀ p ∈ cs, p.length ≤ 1048576) (hv : VarsOk w) :
    Calls Tryz.prog 103 #[v, .int .u64 0] w fun e w' => NumR .u64 0 cs w e w' := by
  obtain ⟨ao, cap, rfl, h1, h2⟩ := h.form
  unfold maxLen at h2
  match cs, h, hl, h1 with
  | [], h, hl, h1 =>
    simp only [List.length_nil]
    go_enter Tryz.func103, Tryz.ntmps103
    go_wp2_with fail
    go_ret2
    exact ⟨0, false, rfl, .no rfl, Below.refl _ _⟩
  | a :: b :: cs, h, hl, h1 =>
    obtain ⟨n, hn⟩ : ∃ n, (a :: b :: cs).length = n := ⟨_, rfl⟩
    have d0 : ((n : Int) != 1) = true := by rw [bne_iff_ne, ← hn]; simp; omega
    have hO : oneN (a :: b :: cs) = none := rfl
    rw [hn]
    clear hn
    go_enter Tryz.func103, Tryz.ntmps103
    go_wp2_with fail
    go_ret2
    exact ⟨0, false, rfl, .no hO, Below.refl _ _⟩
  | [p], h, hl, h1 =>
    obtain ⟨b, off, rfl, _, hc⟩ := h.get (k := 0) (p := p) rfl
    simp only [List.length_cons, List.length_nil, Nat.zero_add, Nat.add_zero] at h1 hc ⊢
    obtain ⟨s, hs⟩ : ∃ s : ByteArray, (⟨p.toArray⟩ : ByteArray) = s := ⟨_, rfl⟩
    have hsz : s.size = p.length := by rw [← hs]; rfl
    have hsl : s.data.toList = p := by rw [← hs]
    have hpl := hl p (by simp)
    unfold sv at hc
    rw [hs] at hc
    clear hl h hs
    cases p with
    | nil =>
      have e0 : s = ⟨#[]⟩ := by
        cases s with | mk d => cases d with | mk l => simp at hsl; rw [hsl]
      subst e0
      go_enter Tryz.func103, Tryz.ntmps103
      go_wp2_with fail
      go_ret2
      exact ⟨0, false, rfl, .no rfl, Below.refl _ _⟩
    | cons c p =>
      have hs0 : 0 < s.size := by rw [hsz]; simp
      have hA : s[0]'hs0 = c := by
        have h1 := at_byte s 0 hs0
        rw [hsl] at h1
        simpa using h1.symm
      have ne0 : s.toList.isEmpty = false := by
        have h1 := str_ne (s := s) (t := ⟨#[]⟩) (fun h => by rw [h] at hs0; exact absurd hs0 (by decide))
        cases h2 : s.toList with
        | nil => rw [h2] at h1; simp at h1
        | cons a l => rfl
      have i0 : (0 : Int) < (s.size : Int) := by omega
      have HSZ := Lib.hid hsz
      have HSL := Lib.hid hsl
      clear hsz hsl
      by_cases h43 : c = 43
      · subst h43
        go_enter Tryz.func103, Tryz.ntmps103
        go_wp2_with fail
        go_ret2
        exact ⟨0, false, rfl, .no (num_plus (s := 43 :: p) rfl : numW (43 :: p) = none), Below.refl _ _⟩
      · have n43 : ((c.toNat : Int) == 43) = false := nat_eq c 43 h43
        by_cases h48 : 1 < s.size ∧ c = 48
        · obtain ⟨hl1, rfl⟩ := h48
          have i1 : (1 : Int) < (s.size : Int) := by omega
          go_enter Tryz.func103, Tryz.ntmps103
          go_wp2_with fail
          go_ret2
          exact ⟨0, false, rfl, .no (num_zero (s := 48 :: p) ⟨rfl, by rw [← HSZ.out]; exact hl1⟩ : numW (48 :: p) = none), Below.refl _ _⟩
        · have HPU := Lib.hid (pu_any s (by rw [HSZ.out]; exact hpl) w hv)
          have HN := Lib.hid (num_pu (s := c :: p) (by simp) (fun h => h48 ⟨by rw [HSZ.out]; exact h.2, by simpa using h.1⟩))
          rw [HSL.out] at HPU
          by_cases hl1 : 1 < s.size
          · have i1 : (1 : Int) < (s.size : Int) := by omega
            have n48 : ((c.toNat : Int) == 48) = false := nat_eq c 48 (fun h => h48 ⟨hl1, h⟩)
            go_enter Tryz.func103, Tryz.ntmps103
            go_wp2_with (go_at_call 146; refine HPU.out.mono ?_; rintro e w' ⟨u, ev, rfl, hq, hb⟩; have HQ := Lib.hid hq; have HB := Lib.hid hb; clear hq hb)
            have hn : oneN [c :: p] = numEnd (Lib.parseUintB 64 (c :: p)) := HN.out.symm
            have HNN := Lib.hid hn
            clear hn
            rcases HQ.out with ⟨hq, rfl⟩ | ⟨hq, te, pe, rfl⟩
            · have HE := Lib.hid (HNN.out.trans hq)
              clear hq
              go_simp
              go_wp2_with fail
              go_ret2
              exact ⟨_, true, rfl, .inl ⟨rfl, u, HE.out, .inl rfl, rfl⟩, HB.out⟩
            · have HE := Lib.hid (HNN.out.trans hq)
              clear hq
              go_simp
              go_wp2_with fail
              go_ret2
              exact ⟨_, false, rfl, .no HE.out, HB.out⟩
          · have i1 : ¬ (1 : Int) < (s.size : Int) := by omega
            go_enter Tryz.func103, Tryz.ntmps103
            go_wp2_with (go_at_call 146; refine HPU.out.mono ?_; rintro e w' ⟨u, ev, rfl, hq, hb⟩; have HQ := Lib.hid hq; have HB := Lib.hid hb; clear hq hb)
            have hn : oneN [c :: p] = numEnd (Lib.parseUintB 64 (c :: p)) := HN.out.symm
            have HNN := Lib.hid hn
            clear hn
            rcases HQ.out with ⟨hq, rfl⟩ | ⟨hq, te, pe, rfl⟩
            · have HE := Lib.hid (HNN.out.trans hq)
              clear hq
              go_simp
              go_wp2_with fail
              go_ret2
              exact ⟨_, true, rfl, .inl ⟨rfl, u, HE.out, .inl rfl, rfl⟩, HB.out⟩
            · have HE := Lib.hid (HNN.out.trans hq)
              clear hq
              go_simp
              go_wp2_with fail
              go_ret2
              exact ⟨_, false, rfl, .no HE.out, HB.out⟩
set_option maxRecDepth 100000 in
set_option maxHeartbeats 4000000 in
/-- is a segment of a tag, and so many elements? -/
theorem is_any {S : Nat → Prop} (w : World) (t : Str) (ev : Value) (es : List (List Str)) (h : ElemsAt S w ev es) (tag : ByteArray) (n : Nat) :
    Calls Tryz.prog 101 #[.agg #[sv t, ev], .string tag, .int .i64 (n : Int)] w fun e w' => e = .returned (.bool (decide (t = tag.data.toList ∧ es.length = n))) ∧ Below w.heap.size w w' := by
  obtain ⟨ao, cap, rfl, h1, h2⟩ := h.form
  unfold sv
  obtain ⟨st, hst⟩ : ∃ st : ByteArray, (⟨t.toArray⟩ : ByteArray) = st := ⟨_, rfl⟩
  obtain ⟨m, hm⟩ : ∃ m, es.length = m := ⟨_, rfl⟩
  rw [hst, hm]
  have hte : t = st.data.toList := by rw [← hst]
  by_cases ht : st = tag
  · subst ht
    have s1 := str_same st
    by_cases hn : m = n
    · have d1 : ((m : Int) == (n : Int)) = true := by rw [beq_iff_eq]; omega
      have hd : decide (t = st.data.toList ∧ m = n) = true := by rw [decide_eq_true_eq]; exact ⟨hte, hn⟩
      rw [hd]
      clear hd hte hst hm hn
      go_enter Tryz.func101, Tryz.ntmps101
      go_wp2_with fail
      go_ret
      exact ⟨rfl, (Below.refl _ _).alloc (Nat.le_refl _) _⟩
    · have d1 : ((m : Int) == (n : Int)) = false := by rw [beq_eq_false_iff_ne]; omega
      have hd : decide (t = st.data.toList ∧ m = n) = false := by rw [decide_eq_false_iff_not]; exact fun h => hn h.2
      rw [hd]
      clear hd hte hst hm hn
      go_enter Tryz.func101, Tryz.ntmps101
      go_wp2_with fail
      go_ret
      exact ⟨rfl, (Below.refl _ _).alloc (Nat.le_refl _) _⟩
  · have s1 := str_ne ht
    have hd : decide (t = tag.data.toList ∧ m = n) = false := by
      rw [decide_eq_false_iff_not]; rintro ⟨h, _⟩
      apply ht
      rw [hte] at h
      cases st; cases tag
      simp only [ByteArray.mk.injEq]
      exact Array.toList_inj.1 h
    rw [hd]
    clear hd hte hst hm
    go_enter Tryz.func101, Tryz.ntmps101
    go_wp2_with fail
    go_ret
    exact ⟨rfl, (Below.refl _ _).alloc (Nat.le_refl _) _⟩
end Go.Proofs.YtgfijlamhjjecaaGreatDoor


namespace Go.Proofs.YtgfijlamhjjecaaGreatDoor
open Go.RowKit
set_option maxRecDepth 100000 in
set_option maxHeartbeats 2000000 in
theorem p1_any {p0 p1 p2 p3 p4 : Nat} (w : World) {b0 b1 b2 b3 b4 : Bool} (h0 : w.cell? ⟨p0, 0, none⟩ = some (.bool b0)) (h1 : w.cell? ⟨p1, 0, none⟩ = some (.bool b1)) (h2 : w.cell? ⟨p2, 0, none⟩ = some (.bool b2)) (h3 : w.cell? ⟨p3, 0, none⟩ = some (.bool b3)) (h4 : w.cell? ⟨p4, 0, none⟩ = some (.bool b4)) :
    Calls Tryz.prog 104 #[.pointer (some ⟨p0, 0, none⟩), .pointer (some ⟨p1, 0, none⟩), .pointer (some ⟨p2, 0, none⟩), .pointer (some ⟨p3, 0, none⟩), .pointer (some ⟨p4, 0, none⟩)] w fun e w' => e = .returned (.bool (b0 && b1 && b2 && b3 && b4)) ∧ w = w' := by
  cases b0
  · go_enter Tryz.func104, Tryz.ntmps104
    go_wp2_with fail
    go_ret
    exact ⟨rfl, rfl⟩
  cases b1
  · go_enter Tryz.func104, Tryz.ntmps104
    go_wp2_with fail
    go_ret
    exact ⟨rfl, rfl⟩
  cases b2
  · go_enter Tryz.func104, Tryz.ntmps104
    go_wp2_with fail
    go_ret
    exact ⟨rfl, rfl⟩
  cases b3
  · go_enter Tryz.func104, Tryz.ntmps104
    go_wp2_with fail
    go_ret
    exact ⟨rfl, rfl⟩
  · go_enter Tryz.func104, Tryz.ntmps104
    go_wp2_with fail
    go_ret
    exact ⟨rfl, rfl⟩
set_option maxRecDepth 100000 in
theorem p2_any {p0 p1 : Nat} (w : World) {r : Int} {n : Nat} (hn : 2 ≤ n) (hn2 : n ≤ 64) (h0 : w.cell? ⟨p0, 0, none⟩ = some (.int .u64 r)) (h1 : w.cell? ⟨p1, 0, none⟩ = some (.int .i64 (n : Int))) :
    Calls Tryz.prog 105 #[.pointer (some ⟨p0, 0, none⟩), .pointer (some ⟨p1, 0, none⟩)] w fun e w' => e = .returned (.bool (r == ((n - 2 : Nat) : Int))) ∧ w = w' := by
  have en : (n : Int) - 2 = ((n - 2 : Nat) : Int) := by omega
  have hc : IntKind.u64.wrap ((n - 2 : Nat) : Int) = ((n - 2 : Nat) : Int) := by rw [IntKind.wrap_u64]; omega
  go_enter Tryz.func105, Tryz.ntmps105
  go_wp2_with fail
  go_ret
  exact ⟨rfl, rfl⟩
set_option maxRecDepth 100000 in
theorem p3_any {p0 p1 : Nat} (w : World) {r s : Int} (h0 : w.cell? ⟨p0, 0, none⟩ = some (.int .u64 r)) (h1 : w.cell? ⟨p1, 0, none⟩ = some (.int .u64 s)) :
    Calls Tryz.prog 106 #[.pointer (some ⟨p0, 0, none⟩), .pointer (some ⟨p1, 0, none⟩)] w fun e w' => e = .returned (.bool (r == s)) ∧ w = w' := by
  go_enter Tryz.func106, Tryz.ntmps106
  go_wp2_with fail
  go_ret
  exact ⟨rfl, rfl⟩
theorem wrapHT_num {e0 e1 e2 g0 g1 : List Str} {m : List Seg} {r0 r1 r2 r3 r4 : Int} {b0 b1 b2 b3 b4 : Bool} (q0 : NumQ 8 e0 r0 b0) (q1 : NumQ 8 e1 r1 b1) (q2 : NumQ 0 e2 r2 b2) (q3 : NumQ 0 g0 r3 b3) (q4 : NumQ 0 g1 r4 b4) :
    ((b0 && b1 && b2 && b3 && b4) = false → wrapHT ⟨unb, [e0, e1, e2]⟩ ⟨unz, [g0, g1]⟩ m = (wd0, 40)) ∧
    ((b0 && b1 && b2 && b3 && b4) = true → ∃ u0 u1 u2 u3 u4 : Nat, (r0 = u0 ∧ r1 = u1 ∧ r2 = u2 ∧ r3 = u3 ∧ r4 = u4) ∧ wrapHT ⟨unb, [e0, e1, e2]⟩ ⟨unz, [g0, g1]⟩ m = if u3 ≠ m.length then (wd0, 41) else if u2 ≠ u4 then (wd0, 42) else (⟨u0, u1, u2, m⟩, 0)) := by
  have eh : numsW ⟨unb, [e0, e1, e2]⟩ unb 3 = numsL [e0, e1, e2] := by unfold numsW; rw [if_pos ⟨rfl, rfl⟩]
  have ez : numsW ⟨unz, [g0, g1]⟩ unz 2 = numsL [g0, g1] := by unfold numsW; rw [if_pos ⟨rfl, rfl⟩]
  unfold wrapHT
  rw [eh, ez]
  simp only [numsL]
  refine ⟨fun h => ?_, fun h => ?_⟩
  · cases o0 : oneN e0 with
    | none => rfl
    | some v0 =>
    cases o1 : oneN e1 with
    | none => rfl
    | some v1 =>
    cases o2 : oneN e2 with
    | none => rfl
    | some v2 =>
    cases o3 : oneN g0 with
    | none => rfl
    | some v3 =>
    cases o4 : oneN g1 with
    | none => rfl
    | some v4 =>
    simp only
    have hb2 : b2 = true := by rcases q2 with ⟨h, _⟩ | ⟨_, h⟩; exact h; exact absurd (.inl rfl) (h _ o2)
    have hb3 : b3 = true := by rcases q3 with ⟨h, _⟩ | ⟨_, h⟩; exact h; exact absurd (.inl rfl) (h _ o3)
    have hb4 : b4 = true := by rcases q4 with ⟨h, _⟩ | ⟨_, h⟩; exact h; exact absurd (.inl rfl) (h _ o4)
    rw [if_pos]
    subst hb2; subst hb3; subst hb4
    rcases q0 with ⟨h0, _⟩ | ⟨_, h0⟩
    · rcases q1 with ⟨h1, _⟩ | ⟨_, h1⟩
      · subst h0; subst h1; exact absurd h (by decide)
      · have := h1 _ o1; right; omega
    · have := h0 _ o0; left; omega
  · simp only [Bool.and_eq_true] at h
    obtain ⟨⟨⟨⟨h0, h1⟩, h2⟩, h3⟩, h4⟩ := h
    rcases q0 with ⟨_, u0, o0, k0, s0⟩ | ⟨h, _⟩
    · rcases q1 with ⟨_, u1, o1, k1, s1⟩ | ⟨h, _⟩
      · rcases q2 with ⟨_, u2, o2, k2, s2⟩ | ⟨h, _⟩
        · rcases q3 with ⟨_, u3, o3, k3, s3⟩ | ⟨h, _⟩
          · rcases q4 with ⟨_, u4, o4, k4, s4⟩ | ⟨h, _⟩
            · rw [o0, o1, o2, o3, o4]
              simp only
              exact ⟨u0, u1, u2, u3, u4, ⟨s0, s1, s2, s3, s4⟩, by rw [if_neg (by omega)]⟩
            · rw [h] at h4; cases h4
          · rw [h] at h3; cases h3
        · rw [h] at h2; cases h2
      · rw [h] at h1; cases h1
    · rw [h] at h0; cases h0
end Go.Proofs.YtgfijlamhjjecaaGreatDoor


namespace Go.Proofs.YtgfijlamhjjecaaGreatDoor
open Go.RowKit
def isBtw : EC → Bool
  | .btw _ => true
  | _ => false
def isRel : EC → Bool
  | .rel _ _ _ _ _ => true
  | _ => false
theorem tagS_form {l : List Seg} {t : Str} {c : UInt8} {s' : EC} (h : tagS l t c = .ok s') : tagB c = true ∧ isBtw s' = false ∧ isRel s' = false := by
  unfold tagS at h
  by_cases hc : tagB c = false
  · rw [if_pos hc] at h; cases h
  · rw [if_neg hc] at h
    refine ⟨by simpa using hc, ?_⟩
    by_cases h3 : t.length + 1 < 3
    · rw [if_pos h3] at h; cases h; exact ⟨rfl, rfl⟩
    · rw [if_neg h3] at h; cases h; exact ⟨rfl, rfl⟩
theorem putS_form {l : List Seg} {t : Str} {es : List (List Str)} {cs : List Str} {p : Str} {c : UInt8} {s' : EC} (h : putS l t es cs p c = .ok s') : isBtw s' = false ∧ isRel s' = false := by
  unfold putS at h
  split at h
  · cases h
  · cases h; exact ⟨rfl, rfl⟩
theorem signS_form {l : List Seg} {t : Str} {es : List (List Str)} {cs : List Str} {p : Str} {c : UInt8} {s' : EC} (h : signS l t es cs p c = .ok s') : isBtw s' = (c == 39) ∧ isRel s' = false := by
  unfold signS at h
  by_cases h39 : c = 39
  · rw [if_pos h39] at h; cases h; subst h39; exact ⟨rfl, rfl⟩
  · rw [if_neg h39] at h
    have e : (c == 39) = false := beq_eq_false_iff_ne.2 h39
    rw [e]
    split at h
    · split at h
      · cases h
      · cases h; exact ⟨rfl, rfl⟩
    · split at h
      · cases h
      · cases h; exact ⟨rfl, rfl⟩
theorem step_form {s s' : EC} {c : UInt8} (h : stepE s c = .ok s') : isBtw s' = (c == 10 || (c == 39 && !isRel s)) ∧ isRel s' = (c == 63 && !isRel s) := by
  cases s with
  | btw l =>
    simp only [stepE] at h
    by_cases hc : c = 10 ∧ l ≠ []
    · rw [if_pos hc] at h; cases h; rw [hc.1]; exact ⟨rfl, rfl⟩
    · rw [if_neg hc] at h
      split at h
      · cases h
      · obtain ⟨h1, h2, h3⟩ := tagS_form h
        rw [h2, h3]
        refine ⟨?_, ?_⟩
        · have n1 : c ≠ 10 := by rintro rfl; exact absurd h1 (by decide)
          have n2 : c ≠ 39 := by rintro rfl; exact absurd h1 (by decide)
          simp [n1, n2]
        · have n2 : c ≠ 63 := by rintro rfl; exact absurd h1 (by decide)
          simp [n2]
  | tag l t =>
    obtain ⟨h1, h2, h3⟩ := tagS_form h
    rw [h2, h3]
    refine ⟨?_, ?_⟩
    · have n1 : c ≠ 10 := by rintro rfl; exact absurd h1 (by decide)
      have n2 : c ≠ 39 := by rintro rfl; exact absurd h1 (by decide)
      simp [n1, n2]
    · have n2 : c ≠ 63 := by rintro rfl; exact absurd h1 (by decide)
      simp [n2]
  | bhd l t =>
    simp only [stepE] at h
    split at h
    · cases h; subst_vars; exact ⟨rfl, rfl⟩
    · split at h
      · cases h; subst_vars; exact ⟨rfl, rfl⟩
      · cases h
  | cmp l t es cs p =>
    simp only [stepE] at h
    split at h
    · cases h; subst_vars; exact ⟨rfl, rfl⟩
    · rename_i h63
      split at h
      · rename_i hs
        obtain ⟨h1, h2⟩ := signS_form h
        have n1 : c ≠ 10 := by rintro rfl; exact absurd hs (by decide)
        rw [h1, h2]
        simp [n1, h63, isRel]
      · rename_i hs
        split at h
        · cases h
        · rename_i hb
          obtain ⟨h1, h2⟩ := putS_form h
          have n1 : c ≠ 10 := by rintro rfl; exact hb (by decide)
          have n2 : c ≠ 39 := by rintro rfl; exact hs (by decide)
          rw [h1, h2]
          simp [n1, n2, h63]
  | rel l t es cs p =>
    simp only [stepE] at h
    split at h
    · rename_i hs
      obtain ⟨h1, h2⟩ := putS_form h
      have n1 : c ≠ 10 := by rintro rfl; exact absurd hs (by decide)
      rw [h1, h2]
      simp [n1, isRel]
    · cases h
theorem step_err {s : EC} {c : UInt8} {k : Int} (h : stepE s c = .err k) : k = 2 ∨ k = 30 := by
  have hT : ∀ l t, tagS l t c = .err k → k = 2 ∨ k = 30 := fun l t h => by
    unfold tagS at h
    split at h
    · cases h; exact .inr rfl
    · split at h <;> cases h
  have hP : ∀ l t es cs p, putS l t es cs p c = .err k → k = 2 ∨ k = 30 := fun l t es cs p h => by
    unfold putS at h
    split at h
    · cases h; exact .inl rfl
    · cases h
  have hS : ∀ l t es cs p, signS l t es cs p c = .err k → k = 2 ∨ k = 30 := fun l t es cs p h => by
    unfold signS at h
    split at h
    · cases h
    · split at h
      · split at h
        · cases h; exact .inl rfl
        · cases h
      · split at h
        · cases h; exact .inl rfl
        · cases h
  cases s with
  | btw l =>
    simp only [stepE] at h
    split at h
    · cases h
    · split at h
      · cases h; exact .inl rfl
      · exact hT _ _ h
  | tag l t => exact hT _ _ h
  | bhd l t =>
    simp only [stepE] at h
    split at h
    · cases h
    · split at h
      · cases h
      · cases h; exact .inr rfl
  | cmp l t es cs p =>
    simp only [stepE] at h
    split at h
    · cases h
    · split at h
      · exact hS _ _ _ _ _ h
      · split at h
        · cases h; exact .inr rfl
        · exact hP _ _ _ _ _ h
  | rel l t es cs p =>
    simp only [stepE] at h
    split at h
    · exact hP _ _ _ _ _ h
    · cases h; exact .inr rfl
theorem heldN_succ {t : Str} {i : Nat} {c : UInt8} (h : t[i]? = some c) : heldN t (i + 1) = if c == 63 then heldN t i + 1 else 0 := by
  have hi : i < t.length := (List.getElem?_eq_some_iff.1 h).1
  unfold heldN
  rw [List.take_add_one, h, Option.toList_some, List.reverse_append, List.reverse_singleton, List.singleton_append, List.takeWhile_cons]
  by_cases hc : (c == 63) = true
  · rw [if_pos hc, if_pos hc, List.length_cons]
  · rw [if_neg hc, if_neg hc]; rfl
theorem heldN_zero (t : Str) : heldN t 0 = 0 := by simp [heldN]
theorem held_step {t : Str} {i : Nat} {c : UInt8} {s s' : EC} (h : t[i]? = some c) (hs : stepE s c = .ok s') (hp : (heldN t i % 2 == 1) = isRel s) : (heldN t (i + 1) % 2 == 1) = isRel s' := by
  rw [heldN_succ h, (step_form hs).2, ← hp]
  by_cases hc : c = 63
  · subst hc
    simp only [beq_self_eq_true, if_pos, Bool.true_and]
    rw [Bool.eq_iff_iff, beq_iff_eq, Bool.not_eq_true', beq_eq_false_iff_ne]
    omega
  · have e : (c == 63) = false := beq_eq_false_iff_ne.2 hc
    rw [e]; rfl
section
variable {S : Nat → Prop} {w : World} {B rb : Nat} {l : List Seg} {lv pv : Value} {xs : List Value} {p : Str}
theorem RA.segs (h : RA S w B rb l lv pv xs p) : SegsO (fun k => B ≤ k ∧ k < w.heap.size) B w lv l :=
  ⟨xs, h.hl, fun _ hk => own_lt h.hl hk, h.xl, fun i s x hs hx => (h.hes i s x hs hx).cong (fun k hk => ⟨(h.s1 k hk).1, (h.s1 k hk).2.1⟩) (fun _ _ => rfl)⟩
end
end Go.Proofs.YtgfijlamhjjecaaGreatDoor

