/-
  EdiY8: contracts of the Builder's WriteString, and of join. No condition beyond those stated.
-/
import Derived.Test.YtpfkmklhfafkiaaEdiY7
import Derived.Test.YtpfkmklhfafkiaaEdiV
import Derived.Lib.Walk
import Derived.Lib.AppendStr
import Derived.Lib.Join
import Derived.Lib.UnsafeStr
import Derived.Laws.Externs
namespace Go.Proofs.Ytpfkmklhfafkiaa
open Go.RowKit
theorem lies_bld : liesAt Try.prog Try.prog.depth 48 (2 / Try.prog.cellsOf 48) 0 48 1 = true := by kernel_rfl
theorem size_bld : (Try.prog.info? 48).map (·.size) = some 2 := by kernel_rfl
set_option maxRecDepth 100000 in
set_option maxHeartbeats 1000000 in
theorem copyCheck_used (b : Nat) (w : World) (h0 : w.cell? ⟨b, 0, none⟩ = some (.pointer (some ⟨b, 0, none⟩))) :
    Calls Try.prog 36 #[.pointer (some ⟨b, 0, none⟩)] w fun e w' => e = .returned (.tuple #[]) ∧ w' = w := by
  obtain ⟨j, hj, _⟩ := Option.map_eq_some_iff.1 size_bld
  go_enter Try.func36, Try.ntmps36
  go_wp2
  rw [Lib.run_neq_ptr_same w _ Try.underlying46 hj]
  go_wp2
  go_end0
  exact ⟨rfl, rfl⟩
set_option maxRecDepth 100000 in
set_option maxHeartbeats 1000000 in
theorem copyCheck_fresh (b : Nat) (w : World) (h0 : w.cell? ⟨b, 0, none⟩ = some (.pointer none)) (hsh : w.shape? b = some (48, 2)) (hfz : w.frozen? ⟨b, 0, none⟩ = false) :
    Calls Try.prog 36 #[.pointer (some ⟨b, 0, none⟩)] w fun e w' => e = .returned (.tuple #[]) ∧ w' = w.setCell ⟨b, 0, none⟩ (.pointer (some ⟨b, 0, none⟩)) := by
  obtain ⟨j, hj, hjs⟩ := Option.map_eq_some_iff.1 size_bld
  go_enter Try.func36, Try.ntmps36
  go_wp2
  rw [Lib.run_to_unsafe w ⟨b, 0, none⟩ Try.underlying46 Try.underlying91 hj (by rw [hjs]; decide) hsh (Nat.zero_lt_succ 1)]
  simp only [Result.andThen]
  rw [Oper.upon_value]
  go_wp2
  rw [run_callFunc_extern Try.func42 (by kernel_rfl) (by kernel_rfl) (by kernel_rfl) (e := Extern.AbiNoEscape.same) (by kernel_rfl)]
  rw [Lib.run_noEscape]
  simp only [Result.andThen]
  rw [Oper.upon_value]
  go_wp2
  rw [Lib.run_from_unsafe w ⟨b, 0, none⟩ Try.underlying91 Try.underlying46 hj hsh lies_bld]
  simp only [Result.andThen]
  rw [Oper.upon_value]
  go_wp2
  go_end0
  exact ⟨rfl, rfl⟩
/-- a Builder in memory, and what it holds -/
def BldAt (w : World) (B b : Nat) (l : Str) : Prop := Lib.IsBuilder 48 5 B b (Lib.byteCells l) w
theorem copyCheck_any (B b : Nat) (bs : List Value) (w : World) (h : Lib.IsBuilder 48 5 B b bs w) :
    Calls Try.prog 36 #[.pointer (some ⟨b, 0, none⟩)] w fun e w' => e = .returned (.tuple #[]) ∧ Lib.BuilderAt 48 5 B b (.pointer (some ⟨b, 0, none⟩)) bs w' ∧ Below B w w' := by
  rcases h with h | h
  · refine (copyCheck_fresh b w h.cell0 h.shape h.frozen0).mono ?_
    rintro e w' ⟨rfl, rfl⟩
    exact ⟨rfl, h.used _, (Below.refl _ _).setCell h.1 _⟩
  · refine (copyCheck_used b w h.cell0).mono ?_
    rintro e w' ⟨rfl, rfl⟩
    exact ⟨rfl, h, Below.refl _ _⟩
set_option maxRecDepth 100000 in
set_option maxHeartbeats 2000000 in
theorem writeString_any (B b : Nat) (l : Str) (s : ByteArray) (w : World) (h : BldAt w B b l) (hlen : l.length + s.size ≤ 140737488355328) (hBw : B ≤ w.heap.size) :
    Calls Try.prog 26 #[.pointer (some ⟨b, 0, none⟩), .string s] w fun e w' => e = .returned (.tuple #[.int .i64 s.size, .nilIface]) ∧ BldAt w' B b (l ++ s.data.toList) ∧ Below B w w' := by
  obtain ⟨i0, hi, hz0, hz1, hz2⟩ := info_parts einfo_u8
  have hbl : (Lib.byteCells l).length = l.length := Lib.byteCells_length l
  obtain ⟨bs, hbs⟩ : ∃ bs, Lib.byteCells l = bs := ⟨_, rfl⟩
  have HBS := Lib.hid hbs
  unfold BldAt at h ⊢
  rw [hbs] at h hbl
  have hlen' : bs.length + s.size ≤ 140737488355328 := by omega
  have HC := Lib.hid (copyCheck_any B b bs w h)
  clear hbs hbl h hlen
  go_enter Try.func26, Try.ntmps26
  go_wp2_with (go_at_call 36; refine HC.out.mono ?_)
  rintro e w1 ⟨rfl, h1, hb1⟩
  obtain ⟨hB, v, hbk, hown, hne⟩ := h1
  have c0 : w1.cell? ⟨b, 0, none⟩ = some (.pointer (some ⟨b, 0, none⟩)) := by rw [cell_of_row w1 b 0 _ _ _ hbk]; rfl
  have c1 : w1.cell? ⟨b, 1, none⟩ = some v := by rw [cell_of_row w1 b 1 _ _ _ hbk]; rfl
  go_wp2_with (at_builtin; refine Lib.wpList_append_own_string _ rfl _ _ 32 9 rfl B 5 i0 Try.underlying32 Try.underlying9 hi hz0 hz1 hz2 _ _ _ rfl hown s rfl ?c3 ?c4 ?c5 ?_)
  case c3 => unfold maxLen; omega
  case c4 => omega
  case c5 => have := hb1.size; omega
  intro v' w2 hown' hgrow _
  have hlt : b < w1.heap.size := (Array.getElem?_eq_some_iff.1 hbk).1
  have hb2 : w2.heap[b]? = some (.cells #[.pointer (some ⟨b, 0, none⟩), v] 48 (0, 0)) := by
    rw [hgrow.block b hlt (fun e => hne e.symm)]
    exact hbk
  have d0 : w2.cell? ⟨b, 0, none⟩ = some (.pointer (some ⟨b, 0, none⟩)) := by rw [cell_of_row w2 b 0 _ _ _ hb2]; rfl
  have d1 : w2.cell? ⟨b, 1, none⟩ = some v := by rw [cell_of_row w2 b 1 _ _ _ hb2]; rfl
  have f1 : w2.frozen? ⟨b, 1, none⟩ = false := frozen_of_row w2 b 1 _ _ hb2
  obtain ⟨ao, n', cap, rfl⟩ : ∃ ao n' cap, v' = .slice ao n' cap := by
    rcases hown'.2 with ⟨hv, _⟩ | ⟨g, cap, cur, hv, _⟩
    · exact ⟨_, _, _, hv⟩
    · exact ⟨_, _, _, hv⟩
  go_wp2
  go_ret2
  refine ⟨rfl, .inr ?_, ?_⟩
  · have hbe : Lib.byteCells (l ++ s.data.toList) = bs ++ Lib.strCells s := by rw [← HBS.out]; simp [Lib.byteCells, Lib.strCells]
    rw [hbe]
    exact Lib.BuilderAt.put (T := 48) (e := 5) hB hb2 (bs' := bs ++ Lib.strCells s) (by simpa [Lib.strCells_length] using hown') (by decide)
  · exact (hb1.grown hgrow (by have := hb1.size; omega) (fun k hk => (hown.lt k hk).1)).setCell (p := ⟨b, 1, none⟩) hB _
theorem joinB_eq (c : UInt8) (xs : List Str) : joinB c xs = Lib.join xs [c] := by
  cases xs with
  | nil => rfl
  | cons a l =>
    rw [joinB_cons, Lib.join_cons, Lib.joinTail, List.flatMap_def]
    rfl
theorem sv_bytes (s : Str) : (⟨s.toArray⟩ : ByteArray).data.toList = s := rfl
set_option maxRecDepth 100000 in
theorem join_any {S : Nat → Prop} (w : World) (c : UInt8) (v : Value) (xs : List Str) (h : CompsAt S w v xs) (hN : xs.length ≤ 1048576) (hl : (joinB c xs).length ≤ 140737488355328) :
    Calls Try.prog 25 #[.string ⟨#[c]⟩, v] w fun e w' => e = .returned (sv (joinB c xs)) ∧ Below w.heap.size w w' := by
  obtain ⟨ao, cap, rfl, h1, h2, h3, h4⟩ := h
  rw [List.length_map] at h1 ⊢
  have HJ : Hid (Calls Try.prog 35 #[.slice ao xs.length cap, .string ⟨#[c]⟩] w fun e w' => e = .returned (sv (joinB c xs)) ∧ Below w.heap.size w w') := Lib.hid (by
    cases xs with
    | nil => exact (Try.strings_Join_none ao cap ⟨#[c]⟩ w).mono (fun e w' ⟨h, h'⟩ => ⟨h, h' ▸ Below.refl _ _⟩)
    | cons a l =>
      obtain ⟨b, off, rfl, _, hc⟩ := h4 (by simp)
      have hb : b < w.heap.size := cell_lt' (hc 0 (sv a) (by simp))
      have hm : (((a :: l).map fun s => (⟨s.toArray⟩ : ByteArray)).map (·.data.toList)) = a :: l := by rw [List.map_map]; exact List.map_id _
      have := Try.strings_Join b off cap ((a :: l).map fun s => ⟨s.toArray⟩) ⟨#[c]⟩ w (fun j x hx => by
        rw [List.getElem?_map, Option.map_eq_some_iff] at hx
        obtain ⟨y, hy, rfl⟩ := hx
        exact hc j (sv y) (by rw [List.getElem?_map, hy]; rfl)) hb (by simp at hN ⊢; omega) (by simpa using h1) (by rw [hm, ← joinB_eq]; exact hl)
      rw [hm, ← joinB_eq, List.length_map] at this
      exact this)
  obtain ⟨J, hJ⟩ : ∃ J, sv (joinB c xs) = J := ⟨_, rfl⟩
  rw [hJ] at HJ ⊢
  clear hJ h3 h4
  go_enter Try.func25, Try.ntmps25
  go_wp2_with (go_at_call 35; refine HJ.out.mono ?_; rintro e w1 ⟨rfl, hb⟩)
  go_ret
  exact ⟨rfl, hb⟩
end Go.Proofs.Ytpfkmklhfafkiaa
