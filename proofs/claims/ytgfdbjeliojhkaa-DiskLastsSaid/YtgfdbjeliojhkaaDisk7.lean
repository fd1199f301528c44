/-
  Disk7: bytes as strings; contracts of full and keeps. No condition.
-/
import Derived.Test.YtgfdbjeliojhkaaDisk6
import Derived.Laws.BytesString
namespace Go.Proofs.Ytgfdbjeliojhkaa
open Go.RowKit

/-- m bytes as a string -/
def strOf (m : Nat) (f : Sec) : ByteArray := ⟨((List.range m).map f).toArray⟩
theorem strOf_congr {m : Nat} {f g : Sec} (h : ∀ j, j < m → f j = g j) : strOf m f = strOf m g := by
  unfold strOf; congr 2; apply List.map_congr_left; intro j hj; exact h j (by simpa using hj)
theorem strOf_size (m : Nat) (f : Sec) : (strOf m f).size = m := by simp [strOf, ByteArray.size]
theorem strOf_inj {m n : Nat} {f g : Sec} (h : strOf m f = strOf n g) : m = n ∧ ∀ j, j < m → f j = g j := by
  have h1 := congrArg ByteArray.size h
  rw [strOf_size, strOf_size] at h1
  subst h1
  refine ⟨rfl, fun j hj => ?_⟩
  have h2 : ((List.range m).map f).toArray = ((List.range m).map g).toArray := congrArg ByteArray.data h
  have h3 : (List.range m).map f = (List.range m).map g := by simpa using congrArg Array.toList h2
  have h4 := congrArg (fun l => l[j]?) h3
  simpa [hj] using h4
theorem fold_push : ∀ (l : List UInt8) (s : ByteArray), (l.map fun b => (b.toNat : Int)).foldl (fun r n => r.push (UInt8.ofNat n.toNat)) s = ⟨s.data ++ l.toArray⟩
  | [], s => by simp
  | b :: l, s => by
    rw [List.map_cons, List.foldl_cons, fold_push l]
    simp [ByteArray.push]
theorem run_bytes_string {P : Program} (w : World) (src dst e : TypeId) (b off m cap : Nat) (f : Sec) (hs : P.underlying src = some (.slice e)) (he : P.underlying e = some (.int .u8)) (hd : P.underlying dst = some .string) (hr : w.rangeAt b off (rowL m f)) :
    (convert src dst (.slice (some ⟨b, off, none⟩) m cap)).run P w = .ok (.string (strOf m f)) w := by
  rw [run_convert_bytes_string w src dst e _ m cap hs he hd]
  have hl := run_loadCells_list (P := P) w ⟨b, off, none⟩ (rowL m f) (fun j v hv => by rw [Addr.add_mid]; exact hr j v hv)
  rw [rowL_length] at hl
  have e1 : rowL m f = (((List.range m).map f).map fun b => (b.toNat : Int)).map (Value.int .u8) := by simp [rowL, bv]
  rw [e1] at hl
  rw [run_bytesToString w _ m cap _ hl, fold_push]
  simp [strOf, ByteArray.empty, ByteArray.emptyWithCapacity]
  try rfl
theorem run_nil_string {P : Program} (w : World) (src dst e : TypeId) (hs : P.underlying src = some (.slice e)) (he : P.underlying e = some (.int .u8)) (hd : P.underlying dst = some .string) (l c : Nat) :
    (convert src dst (.slice none l c)).run P w = .ok (.string (strOf 0 fun _ => 0)) w := by
  rw [run_convert_bytes_string w src dst e _ l c hs he hd]
  rfl

/-- an owned row of bytes reads as these bytes -/
theorem owns_bytes {w : World} {B n : Nat} {v : Value} {f : Sec} (h : w.ownsRow B 5 1 v n (rowL n f)) : BytesAt w v n f ∧ ∀ k, v.ownBlock = some k → B ≤ k := by
  obtain ⟨h1, h2 | ⟨g, cap, cur, rfl, hg, hh, hc, hm, hs, hx⟩⟩ := h
  · obtain ⟨rfl, rfl⟩ := h2
    exact ⟨⟨none, 0, rfl, Nat.le_refl _, Nat.zero_le _, fun _ => ⟨rfl, rfl⟩, fun h => absurd h (by omega)⟩, fun k e => by cases e⟩
  · refine ⟨⟨some ⟨g, 0, none⟩, cap, rfl, hc, hm, (fun e => by cases e), fun _ => ⟨g, 0, rfl, fun j v hv => ?_⟩⟩, fun k e => (by cases e; exact hg)⟩
    rw [cell_of_row w g (0 + j) _ _ _ hh, Nat.zero_add]
    rw [← hx, Nat.mul_one] at hv
    have hj : j < n := by
      have := (List.getElem?_eq_some_iff.1 hv).1
      simp at this; omega
    rw [List.getElem?_take_of_lt hj] at hv
    simpa using hv

theorem makeBytes_row (n : Nat) : madeCells #[.int .u8 0] n = rowA n fun _ => 0 := by
  apply Array.ext_getElem?
  intro j
  by_cases hj : j < n
  · rw [rowA_get _ hj]
    simp only [madeCells, Array.getElem?_map]
    rw [Array.getElem?_eq_getElem (by simpa using hj)]
    simp [Nat.mod_one, bv]
  · rw [Array.getElem?_eq_none (by simp [madeCells]; omega), Array.getElem?_eq_none (by rw [rowA_size]; omega)]
theorem set_row (n k : Nat) (f : Sec) (c : UInt8) : (rowA n f).setIfInBounds k (.int .u8 (c.toNat : Int)) = rowA n (fun j => if j = k then c else f j) := by
  apply Array.ext_getElem?
  intro j
  by_cases hj : j < n
  · rw [rowA_get _ hj]
    by_cases e : j = k
    · subst e; rw [Array.getElem?_setIfInBounds_self_of_lt (by rw [rowA_size]; exact hj)]; simp [bv]
    · rw [Array.getElem?_setIfInBounds_ne (by omega), rowA_get _ hj]; simp [e]
  · rw [Array.getElem?_eq_none (by simp [rowA_size]; omega), Array.getElem?_eq_none (by rw [rowA_size]; omega)]

/-- make of bytes -/
theorem run_make_bytes (n : Nat) (hn : n ≤ 140737488355328) (u : World) : (Instr.makeSlice 31 (.int .i64 (n : Int)) (.int .i64 (n : Int))).run Try.prog u = .ok (.slice (some ⟨u.heap.size, 0, none⟩) n n) (u.alloc (.cells (rowA n fun _ => 0) 5)) := by
  obtain ⟨i0, hi, hz0, hz1, hz2⟩ := info_parts info_u8
  have h := run_make (P := Try.prog) u 31 5 i0 _ Try.underlying31 hi hz0 .i64 .i64 (n : Int) (n : Int) (by omega) (Int.le_refl _) (by rw [hz2]; omega) (by omega)
  rw [h, hz1]
  simp only [Int.toNat_natCast, Value.cells, Nat.mul_one, makeBytes_row]

set_option maxHeartbeats 1000000 in
theorem full_any (c : UInt8) (n : Nat) (hn : n ≤ 1048576) (w : World) :
    Calls Try.prog 21 #[.int .u8 (c.toNat : Int), .int .i64 (n : Int)] w fun e w' => e = .returned (.slice (some ⟨w.heap.size, 0, none⟩) n n) ∧ w'.heap[w.heap.size]? = some (.cells (rowA n fun _ => c) 5 (0, 0)) ∧ Fr [] w w' := by
  have hmk := run_make_bytes n (by omega)
  go_enter Try.func21, Try.ntmps21
  go_wp2
  obtain ⟨w1, hw1⟩ : ∃ w1, w.alloc (.cells (rowA n fun _ => 0) 5) = w1 := ⟨_, rfl⟩
  have h0 : w1.heap[w.heap.size]? = some (.cells (rowA n fun _ => 0) 5 (0, 0)) := by rw [← hw1]; exact heap_alloc_new _ _
  have f0 : Fr [] w w1 := by rw [← hw1]; exact Fr.alloc _ _ _
  rw [hw1]
  have H0 := Lib.hid h0
  have F0 := Lib.hid f0
  clear hw1 hmk h0 f0
  go_loopw [6] (fun i wr => ∃ k : Nat, k ≤ n ∧ i = .int .i64 (k : Int) ∧ wr.heap[w.heap.size]? = some (.cells (rowA n fun j => if j < k then c else 0) 5 (0, 0)) ∧ Fr [w.heap.size] w1 wr) (fun i _ => n - (intOf i).toNat)
  case atStart => exact ⟨0, Nat.zero_le _, rfl, by simpa using H0.out, Fr.refl _ _⟩
  case round =>
    obtain ⟨k, hk, rfl, hr, hf⟩ := hrel
    have HR := Lib.hid hr
    have HF := Lib.hid hf
    clear hr hf
    by_cases hlt : k < n
    · have ck : wr.cell? ⟨w.heap.size, k, none⟩ = some (bv (if k < k then c else 0)) := by rw [cell_of_row wr _ k _ _ _ HR.out, rowA_get _ hlt]
      have fk := frozen_of_row wr w.heap.size k _ _ HR.out
      go_wp2
      go_roundw
      case rel =>
        refine ⟨k + 1, by omega, by go_num, ?_, HF.out.trans (Fr.setCell _ (by simp) _)⟩
        rw [heap_setCell_same wr w.heap.size k _ _ _ HR.out, set_row]
        have e : (fun j => if j = k then c else if j < k then c else 0) = (fun j => if j < k + 1 then c else (0 : UInt8)) := by
          funext j
          by_cases h1 : j = k
          · rw [if_pos h1, if_pos (by omega)]
          · rw [if_neg h1]
            by_cases h2 : j < k
            · rw [if_pos h2, if_pos (by omega)]
            · rw [if_neg h2, if_neg (by omega)]
        rw [e]
      case measure => simp [intOf]; omega
    · obtain rfl : k = n := by omega
      go_wp2
      go_ret
      refine ⟨rfl, ?_, ((F0.out.mono (G := [w.heap.size]) (by simp)).trans HF.out).mono (by simp)⟩
      rw [HR.out, rowA_congr (n := k) (f := fun j => if j < k then c else 0) (g := fun _ => c) (fun j hj => if_pos hj)]

theorem full_bytes (c : UInt8) (n : Nat) (hn : n ≤ 1048576) (w : World) :
    Calls Try.prog 21 #[.int .u8 (c.toNat : Int), .int .i64 (n : Int)] w fun e w' => ∃ v, e = .returned v ∧ BytesAt w' v n (fun _ => c) ∧ (∀ k, v.ownBlock = some k → w.heap.size ≤ k) ∧ Fr [] w w' :=
  (full_any c n hn w).mono fun e w' ⟨he, hb, hf⟩ => ⟨_, he, ⟨_, n, rfl, Nat.le_refl _, by unfold maxLen; omega, (fun e => by cases e), fun _ => ⟨_, 0, rfl, rangeAt_row0 hb⟩⟩, fun k e => (by cases e; exact Nat.le_refl _), hf⟩

theorem ints_one (w : World) (x : Int) (h1 : -9223372036854775808 ≤ x) (h2 : x ≤ 9223372036854775807) : IntsAt (w.alloc (.cells #[.int .i64 x] 3)) (.slice (some ⟨w.heap.size, 0, none⟩) 1 1) 1 (fun _ => x) := by
  refine ⟨_, 1, rfl, Nat.le_refl _, by unfold maxLen; omega, fun _ => ⟨h1, h2⟩, fun _ => ⟨_, 0, rfl, fun j hj => ?_⟩⟩
  obtain rfl : j = 0 := by omega
  simp
/-- the disk that keeps asks -/
def D1 : DK := (DK.fresh 2).burn.write 0 1 fun _ => 97
def D2 : DK := D1.restart (fateN 1 fun _ => 3)
theorem D1_wl : wl D1 2 = [⟨0, by decide, by simp [D1, DK.write]⟩] := by
  simp [wl, D1, DK.write, DK.fresh, DK.burn]
  rfl
theorem D2_now (j : Nat) : D2.now j = if j < 3 then 97 else 0 := by
  have hw : wl D1 D1.n = [⟨0, by decide, by simp [D1, DK.write]⟩] := D1_wl
  simp only [DK.now, D2, DK.restart]
  rw [hw]
  simp [restK, stepR, splF, secW, fateN, D1, DK.write, DK.fresh, DK.burn]
set_option maxRecDepth 100000 in
set_option maxHeartbeats 1000000 in
theorem keeps12_any (w : World) : Calls Try.prog 18 #[] w fun e w' => e = .returned (.bool true) ∧ Fr [] w w' := by
  go_enter Try.func18, Try.ntmps18
  go_wp2_with fail
  refine (new_ok 2 w (by omega) (by omega)).mono ?_
  rintro e w1 ⟨rfl, hd1, hf1, hs1⟩
  have HD1 := Lib.hid hd1
  have HF1 := Lib.hid hf1
  clear hd1 hf1
  go_wp2_with fail
  refine (full_bytes 97 64 (by omega) w1).mono ?_
  rintro e w2 ⟨v, rfl, hb2, hk2, hf2⟩
  have HD2 := Lib.hid (HD1.out.fr0 hf2)
  have HF2 := Lib.hid (HF1.out.trans hf2)
  have HB2 := Lib.hid hb2
  have HK2 := Lib.hid (fun k e => (⟨by have := hk2 k e; omega, by have := hk2 k e; omega⟩ : k ≠ w.heap.size + 2 ∧ k ≠ w.heap.size + 1))
  have hs2 := hf2.size
  clear hb2 hk2 hf2
  go_wp2_with fail
  refine (write_ok 0 1 v (fun _ => 97) w2 HD2.out HB2.out (fun _ => HK2.out) rfl (by decide) (by decide)).mono ?_
  rintro e w3 ⟨rfl, hd3, hf3⟩
  have HD3 := Lib.hid (show DiskAt w3 _ _ _ D1 from hd3)
  have HF3 := Lib.hid ((HF2.out.mono (G := [w.heap.size + 2, w.heap.size + 1]) (by simp)).trans hf3)
  have hs3 := hf3.size
  clear hd3 hf3
  go_wp2_with fail
  refine (waiting_some _ HD3.out).mono ?_
  rintro e w3' ⟨rfl, rfl⟩
  rw [show cntM D1.M D1.n = 1 by decide]
  go_wp2_with fail
  have hi3 := ints_one w3 3 (by omega) (by omega)
  refine (restart_some _ (HD3.out.fr0 (Fr.alloc _ _ _)) _ 1 (fun _ => 3) hi3 (fun _ k e => by have := HD3.out.lb_lt; cases e; simp; omega)).mono ?_
  rintro e w4 ⟨rfl, hd4, hf4⟩
  have HD4 := Lib.hid (show DiskAt w4 _ _ _ D2 from hd4)
  have HF4 := Lib.hid (((HF3.out.mono (G := [w.heap.size + 2, w.heap.size, w.heap.size + 1]) (by simp)).trans (Fr.alloc _ _ _)).trans hf4)
  have hs4 := hf4.size
  simp only [World.size_alloc] at hs4
  clear hd4 hf4 hi3
  go_wp2_with fail
  refine (read_ok 0 1 _ HD4.out rfl (by decide)).mono ?_
  rintro e w5 ⟨v5, rfl, ho5, hf5⟩
  have hb5 := (owns_bytes ho5).1
  obtain ⟨ao, cap, rfl, hl1, hl2, hl3, hl4⟩ := hb5
  obtain ⟨b5, off5, rfl, hr5⟩ := hl4 (by omega)
  have HD5 := Lib.hid (HD4.out.fr0 hf5)
  have HF5 := Lib.hid (HF4.out.trans (hf5.mono (by simp)))
  have hst : strOf 4 (fun j => D2.now (64 * 0 + j)) = ⟨#[97, 97, 97, 0]⟩ := by
    rw [strOf_congr (g := fun j => if j < 3 then 97 else 0) (fun j _ => by rw [Nat.mul_zero, Nat.zero_add]; exact D2_now j)]
    rfl
  have hcv := fun c => run_bytes_string (P := Try.prog) w5 31 9 5 b5 off5 4 c _ Try.underlying31 Try.underlying5 Try.underlying9 (rangeAt_pre hr5 (by omega))
  rw [hst] at hcv
  have hc4 : ¬ cap = 0 := by omega
  have hc5 : (4 : Int) ≤ (cap : Int) := by omega
  clear hl1 hl3 hl4 hr5 hst ho5 hf5
  unfold maxLen at hl2
  go_wp2_with fail
  refine (size_some _ HD5.out).mono ?_
  rintro e w6 ⟨rfl, rfl⟩
  rw [show D2.n = 2 from rfl]
  go_wp2_with fail
  go_ret
  exact ⟨rfl, HF5.out.mono (by simp)⟩
end Go.Proofs.Ytgfdbjeliojhkaa
