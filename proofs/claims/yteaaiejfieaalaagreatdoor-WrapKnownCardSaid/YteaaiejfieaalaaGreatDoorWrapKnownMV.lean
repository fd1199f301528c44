/-
  WrapKnownV: the walk of WrapKnown. No condition but the laid variables.
-/
import Derived.Test.YteaaiejfieaalaaGreatDoorMg10
namespace Go.Proofs.YteaaiejfieaalaaGreatDoor
open Go.RowKit
/-- a table of texts and errors in memory -/
structure KRow where
  t : ByteArray
  e : Int
def cellsK : List KRow → List Value
  | [] => []
  | r :: l => .string r.t :: .int .i64 r.e :: cellsK l
theorem cellsK_get : ∀ (l : List KRow) (i : Nat) (r : KRow), l[i]? = some r → (cellsK l)[i * 2]? = some (.string r.t) ∧ (cellsK l)[i * 2 + 1]? = some (.int .i64 r.e)
  | [], i, r, h => by simp at h
  | a :: l, 0, r, h => by simp at h; subst h; exact ⟨rfl, rfl⟩
  | a :: l, i + 1, r, h => by
    have h' := cellsK_get l i r (by simpa using h)
    rw [show (i + 1) * 2 = i * 2 + 1 + 1 by omega]
    exact h'

def krows : List KRow := [⟨⟨#[85, 78, 66, 43, 49, 43, 50, 43, 55, 39, 85, 78, 90, 43, 49, 43, 55, 39]⟩, 41⟩, ⟨⟨#[85, 78, 66, 43, 49, 43, 50, 43, 55, 39, 85, 78, 90, 43, 48, 43, 56, 39]⟩, 42⟩, ⟨⟨#[85, 78, 66, 43, 49, 43, 50, 43, 55, 39, 85, 78, 90, 43, 48, 43, 48, 55, 39]⟩, 40⟩, ⟨⟨#[85, 78, 66, 43, 56, 43, 50, 43, 55, 39, 85, 78, 90, 43, 48, 43, 55, 39]⟩, 40⟩, ⟨⟨#[85, 78, 66, 43, 55, 43, 55, 43, 48, 39, 10, 85, 78, 90, 43, 48, 43, 48, 39, 10]⟩, 0⟩, ⟨⟨#[85, 78, 66, 43, 49, 43, 56, 43, 55, 39, 85, 78, 90, 43, 48, 43, 55, 39]⟩, 40⟩, ⟨⟨#[85, 78, 66, 43, 49, 43, 50, 39, 85, 78, 90, 43, 48, 43, 55, 39]⟩, 40⟩, ⟨⟨#[85, 78, 66, 43, 49, 43, 50, 43, 55, 43, 56, 39, 85, 78, 90, 43, 48, 43, 55, 39]⟩, 40⟩, ⟨⟨#[85, 78, 66, 43, 49, 43, 50, 43, 55, 58, 56, 39, 85, 78, 90, 43, 48, 43, 55, 39]⟩, 40⟩, ⟨⟨#[85, 78, 66, 43, 49, 43, 50, 43, 39, 85, 78, 90, 43, 48, 43, 39]⟩, 40⟩, ⟨⟨#[85, 78, 66, 43, 49, 43, 50, 43, 63, 43, 55, 39, 85, 78, 90, 43, 48, 43, 55, 39]⟩, 40⟩, ⟨⟨#[85, 78, 66, 43, 49, 43, 50, 43, 49, 56, 52, 52, 54, 55, 52, 52, 48, 55, 51, 55, 48, 57, 53, 53, 49, 54, 49, 53, 39, 85, 78, 90, 43, 48, 43, 49, 56, 52, 52, 54, 55, 52, 52, 48, 55, 51, 55, 48, 57, 53, 53, 49, 54, 49, 53, 39]⟩, 0⟩, ⟨⟨#[85, 78, 66, 43, 49, 43, 50, 43, 49, 56, 52, 52, 54, 55, 52, 52, 48, 55, 51, 55, 48, 57, 53, 53, 49, 54, 49, 54, 39, 85, 78, 90, 43, 48, 43, 49, 56, 52, 52, 54, 55, 52, 52, 48, 55, 51, 55, 48, 57, 53, 53, 49, 54, 49, 54, 39]⟩, 40⟩, ⟨⟨#[85, 78, 66, 43, 49, 43, 50, 43, 45, 49, 39, 85, 78, 90, 43, 48, 43, 45, 49, 39]⟩, 40⟩, ⟨⟨#[]⟩, 40⟩, ⟨⟨#[85, 78, 66, 43, 49, 43, 50, 43, 55, 39]⟩, 40⟩, ⟨⟨#[85, 78, 90, 43, 48, 43, 55, 39, 85, 78, 66, 43, 49, 43, 50, 43, 55, 39]⟩, 40⟩, ⟨⟨#[85, 78, 66, 43, 49, 43, 50, 43, 55, 39, 85, 78, 66, 43, 49, 43, 50, 43, 55, 39, 85, 78, 90, 43, 49, 43, 55, 39]⟩, 0⟩, ⟨⟨#[85, 78, 66, 43, 50, 53, 55, 43, 50, 43, 55, 39, 85, 78, 90, 43, 48, 43, 55, 39]⟩, 40⟩, ⟨⟨#[85, 78, 66, 43, 49, 43, 50, 43, 55, 39, 85, 78, 90, 43, 48, 48, 43, 55, 39]⟩, 40⟩, ⟨⟨#[85, 78, 66, 43, 49, 43, 50, 43, 55, 39, 85, 78, 90, 43, 50, 43, 56, 39]⟩, 41⟩, ⟨⟨#[85, 78, 66, 43, 49, 43, 50, 43, 55, 39, 85, 78, 90, 43, 48, 43, 55]⟩, 31⟩, ⟨⟨#[117, 110, 98, 39]⟩, 30⟩]
theorem krows_fit : ∀ r ∈ krows, (wrapParseE r.t.data.toList).2 = r.e := by decide +kernel
def abcS : Seg := ⟨[65, 66, 67], []⟩
theorem abc_lit {w : World} {D : Nat} (hD : w.heap.size = D) : SegsAt (fun k => k = D) (w.alloc (.cells #[.string ⟨#[65, 66, 67]⟩, .slice none 0 0] 36)) (.slice (some ⟨D, 0, none⟩) 1 1) [abcS] := by
  subst hD
  have hc := heap_alloc_new w (.cells #[.string ⟨#[65, 66, 67]⟩, .slice none 0 0] 36)
  refine ⟨_, 1, [.slice none 0 0], rfl, Nat.le_refl _, by decide, (fun e => by cases e), rfl, fun i s x h1 h2 => ?_, fun _ => ⟨w.heap.size, 0, rfl, rfl, fun i s x h1 h2 => ?_⟩⟩
  · match i, h1, h2 with
    | 0, h1, h2 => simp at h1 h2; subst h1; subst h2; exact ElemsAt.nil _ _
    | i + 1, h1, _ => simp at h1
  · match i, h1, h2 with
    | 0, h1, h2 => simp at h1 h2; subst h1; subst h2; exact ⟨cell_of_row _ _ 0 _ _ _ hc, cell_of_row _ _ 1 _ _ _ hc⟩
    | i + 1, h1, _ => simp at h1
theorem dec62 : decT 62 = [54, 50] := by rw [dec_step (by decide), dec_small (by decide)]; rfl
theorem kp8 : wrapPrintE ⟨8, 0, 0, []⟩ = ([], 1) := rfl
theorem kp255 : wrapPrintE ⟨0, 255, 0, []⟩ = ([], 1) := rfl
theorem kp63 : wrapPrintE ⟨0, 0, 0, List.replicate 63 ⟨[], []⟩⟩ = ([], 2) := rfl
theorem kp62 : wrapPrintE ⟨0, 0, 0, List.replicate 62 ⟨[], []⟩⟩ = ([], 1) := by
  show printE (⟨unb, [[decT 0], [decT 0], [decT 0]]⟩ :: List.replicate 62 ⟨[], []⟩ ++ [⟨unz, [[decT 62], [decT 0]]⟩]) = _
  rw [dec0, dec62]; decide +kernel
theorem kpabc : ∃ s, wrapPrintE ⟨0, 0, 0, List.replicate 62 abcS⟩ = (s, 0) := by
  refine ⟨(wrapPrintE ⟨0, 0, 0, List.replicate 62 abcS⟩).1, ?_⟩
  have h : (wrapPrintE ⟨0, 0, 0, List.replicate 62 abcS⟩).2 = 0 := by
    show (printE (⟨unb, [[decT 0], [decT 0], [decT 0]]⟩ :: List.replicate 62 abcS ++ [⟨unz, [[decT 62], [decT 0]]⟩])).2 = _
    rw [dec0, dec62]; decide +kernel
  rw [← h]
def zerosK (n : Nat) : Array Value := (segCells (List.replicate n ⟨[], []⟩) (List.replicate n (.slice none 0 0))).toArray
theorem made63 (w : World) : (Instr.makeSlice 23 (.int .i64 63) (.int .i64 63)).run Tryz.prog w = .ok (.slice (some ⟨w.heap.size, 0, none⟩) 63 63) (w.alloc (.cells (zerosK 63) 36)) := by kernel_rfl
theorem made62 (w : World) : (Instr.makeSlice 23 (.int .i64 62) (.int .i64 62)).run Tryz.prog w = .ok (.slice (some ⟨w.heap.size, 0, none⟩) 62 62) (w.alloc (.cells (zerosK 62) 36)) := by kernel_rfl
theorem zeros_at {w : World} {B n : Nat} (hn : 0 < n) (hn2 : n ≤ 1000) {cs : Array Value} (hc : cs = (segCells (List.replicate n ⟨[], []⟩) (List.replicate n (.slice none 0 0))).toArray) (hb : w.heap[B]? = some (.cells cs 36 (0, 0))) : SegsAt (fun k => k = B) w (.slice (some ⟨B, 0, none⟩) n n) (List.replicate n ⟨[], []⟩) := by
  subst hc
  refine ⟨_, n, List.replicate n (.slice none 0 0), by simp, by simp, by unfold maxLen; omega, (fun e => by cases e), by simp, fun i s x h1 h2 => ?_, fun _ => ⟨B, 0, rfl, rfl, fun i s x h1 h2 => ?_⟩⟩
  · obtain rfl := List.eq_of_mem_replicate (List.mem_of_getElem? h1)
    obtain rfl := List.eq_of_mem_replicate (List.mem_of_getElem? h2)
    exact ElemsAt.nil _ _
  · obtain ⟨k1, k2⟩ := segCells_get _ _ i s x h1 h2
    rw [Nat.zero_add]
    exact ⟨by rw [cell_of_row w B _ _ _ _ hb, List.getElem?_toArray]; exact k1, by rw [cell_of_row w B _ _ _ _ hb, List.getElem?_toArray]; exact k2⟩
set_option maxRecDepth 100000 in
set_option maxHeartbeats 8000000 in
theorem wrapKnown_walk {W : World} (hv : VarsOk W) : Calls Tryz.prog 7 #[] W fun e w' => e = .returned (.bool true) ∧ Below W.heap.size W w' := by
  obtain ⟨B, hB⟩ : ∃ B, W.heap.size = B := ⟨_, rfl⟩
  have HBQ := Lib.hid hB
  have HV := Lib.hid hv
  rw [hB]
  clear hB hv
  go_enter Tryz.func7, Tryz.ntmps7
  go_wp2_with fail
  generalize hw1 : World.alloc W _ = w1
  have HT1 : Hid (w1.heap[B]? = some (.cells (cellsK krows).toArray 46 (0, 0))) := Lib.hid (by rw [← hw1, ← HBQ.out]; exact heap_alloc_new W _)
  have HB1 : Hid (Below B W w1) := Lib.hid (by rw [← hw1, ← HBQ.out]; exact (Below.refl _ _).alloc (Nat.le_refl _) _)
  have hBB := HBQ.out
  rw [hBB]
  have hz1 : B < w1.heap.size := by rw [← hw1]; simp; omega
  clear hw1 hBB
  go_loopw [2] (fun i wr => ∃ (k : Nat), k ≤ 23 ∧ i = .int .i64 (k : Int) ∧ Hid (wr.heap[B]? = some (.cells (cellsK krows).toArray 46 (0, 0))) ∧ Hid (Below B W wr) ∧ B < wr.heap.size) (fun i _ => 23 - (intOf i).toNat)
  case atStart => exact ⟨0, by omega, rfl, HT1, HB1, hz1⟩
  case round =>
    obtain ⟨k, hk, rfl, HT, HB2, hz2⟩ := hrel
    clear HT1 HB1
    by_cases hlt : k < 23
    · skip
      obtain ⟨r, hr⟩ : ∃ r, krows[k]? = some r := ⟨_, List.getElem?_eq_getElem (by exact hlt)⟩
      have hfit := krows_fit r (List.mem_of_getElem? hr)
      obtain ⟨g1, g2⟩ := cellsK_get krows k r hr
      have c0 : wr.cell? ⟨B, k * 2, none⟩ = some (.string r.t) := by rw [cell_of_row wr B _ _ _ _ HT.out, List.getElem?_toArray]; exact g1
      have HC1 := Lib.hid (show wr.cell? ⟨B, k * 2 + 1, none⟩ = some (.int .i64 r.e) by rw [cell_of_row wr B _ _ _ _ HT.out, List.getElem?_toArray]; exact g2)
      obtain ⟨rt, re⟩ := r
      simp only at c0 HC1 hfit
      obtain ⟨P, hP⟩ : ∃ P, wrapParseE rt.data.toList = P := ⟨_, rfl⟩
      obtain ⟨y, pe⟩ := P
      rw [hP] at hfit
      obtain rfl : pe = re := hfit
      have HVR := Lib.hid (HV.out.on HB2.out (by rw [HBQ.out]; exact Nat.le_refl _))
      have HPR := Lib.hid (wParse_is (s := rt) (w := wr) HVR.out hP)
      have HER := Lib.hid (fun h => wrap_err hP h)
      unfold WPQ wv at HPR
      have b1 : (0 : Int) ≤ k := by omega
      have b2 : (k : Int) < 23 := by omega
      clear hr g1 g2 hP
      go_upto_region 6 with ((with_reducible refine HPR.out.mono ?_); rintro e w2 ⟨yv, rfl, hs2, hb2⟩; obtain ⟨ya, yc, rfl, _, _⟩ := hs2.form; have HS2 := Lib.hid hs2; have HB3 := Lib.hid hb2; clear hs2 hb2)
      obtain ⟨D, hD⟩ : ∃ D, w2.heap.size = D := ⟨_, rfl⟩
      have hz3 := HB3.out.size
      rw [hD] at hz3
      obtain ⟨w3, hw3⟩ : ∃ w3, w2.alloc (.cells #[.int .u8 (y.fr : Int), .int .u8 (y.dst : Int), .int .u64 (y.rf : Int), .slice ya y.segs.length yc] 25) = w3 := ⟨_, rfl⟩
      have HY : Hid (BoxAt w3 D y (.slice ya y.segs.length yc)) := Lib.hid (by rw [← hw3, ← hD]; exact BoxAt.new _ _ _)
      have HB4 : Hid (Below wr.heap.size wr w3) := Lib.hid (by rw [← hw3]; exact HB3.out.trans ((Below.refl _ _).alloc (by omega) _))
      have hz4 : w3.heap.size = D + 1 := by rw [← hw3, ← hD]; simp
      have HSY : Hid (SegsAt (fun k => k < w3.heap.size) w3 (.slice ya y.segs.length yc) y.segs) := Lib.hid (by rw [← hw3]; exact HS2.out.any ((Below.refl _ _).alloc (Nat.le_refl _) _) (fun k hk => ⟨hk.2, by simp; omega⟩))
      have c1 := (HB4.out.cell (p := ⟨B, k * 2 + 1, none⟩) hz2).trans HC1.out
      have HT3 : Hid (w3.heap[B]? = some (.cells (cellsK krows).toArray 46 (0, 0))) := Lib.hid ((HB4.out.block B hz2).trans HT.out)
      have HB5 := Lib.hid (HB2.out.trans (HB4.out.mono (Nat.le_of_lt hz2)))
      have HW3 := Lib.hid hw3
      have HDD := Lib.hid hD
      obtain ⟨q0, q1, q2, q3⟩ := HY.out.cells
      clear hw3 hD c0 HPR
      rw [HW3.out, HDD.out]
      have dk0 := int_same pe
      have dk0n : (pe != pe) = false := by simp
      by_cases he0 : pe = 0
      · subst he0
        go_wp2_with fail
        go_roundw
        case rel => exact ⟨k + 1, by omega, by go_num, HT3, HB5, by omega⟩
        case measure => simp [intOf]; omega
      · have d0 : (pe != 0) = true := by rw [bne_iff_ne]; exact he0
        obtain rfl : y = wd0 := HER.out he0
        have HSM := Lib.hid (wsame_any wd0 wd0 _ (.slice none 0 0) w3 HSY.out (segs_nil (fun _ => False) _) (fun k hk => hk) (fun k hk => hk.elim))
        rw [wsameB_self] at HSM
        unfold WSameQ wv at HSM
        clear he0 HER
        go_wp2_with (go_at_call 11; refine HSM.out.mono ?_; rintro e w4 ⟨rfl, hb4⟩; have HB6 := Lib.hid hb4; clear hb4)
        have hz6 := HB6.out.size
        go_roundw
        case rel => exact ⟨k + 1, by omega, by go_num, Lib.hid ((HB6.out.block B (by omega)).trans HT3.out), Lib.hid (HB5.out.trans (HB6.out.mono (by omega))), by omega⟩
        case measure => simp [intOf]; omega
    · skip
      obtain rfl : k = 23 := by omega
      have hz2' : B ≤ wr.heap.size := Nat.le_of_lt hz2
      have HVR := Lib.hid (HV.out.on HB2.out (by rw [HBQ.out]; exact Nat.le_refl _))
      clear HT
      have HP1 := Lib.hid (fun (w : World) (hv : VarsOk w) => wPrint_is (x := ⟨8, 0, 0, []⟩) hv (by decide) (by decide) (by decide) (segs_nil (fun _ => False) w) (fun k hk => hk.elim) (fun _ => by decide) kp8)
      have HP2 := Lib.hid (fun (w : World) (hv : VarsOk w) => wPrint_is (x := ⟨0, 255, 0, []⟩) hv (by decide) (by decide) (by decide) (segs_nil (fun _ => False) w) (fun k hk => hk.elim) (fun _ => by decide) kp255)
      unfold WTQ wv sv at HP1 HP2
      go_wp2_with fail
      refine (HP1.out _ HVR.out).mono ?_
      rintro e w2 ⟨rfl, hb2⟩
      have HB3 := Lib.hid (HB2.out.trans (hb2.mono hz2'))
      have hz3 := HB3.out.size
      rw [HBQ.out] at hz3
      have HV3 := Lib.hid (HV.out.on HB3.out (by rw [HBQ.out]; exact Nat.le_refl _))
      clear hb2 HP1
      go_wp2_with fail
      refine (HP2.out _ HV3.out).mono ?_
      rintro e w3 ⟨rfl, hb3⟩
      have HB4 := Lib.hid (HB3.out.trans (hb3.mono hz3))
      have hz4 := HB4.out.size
      rw [HBQ.out] at hz4
      clear hb3 HP2
      have hmk := made63 w3
      go_wp2_with fail
      clear hmk
      obtain ⟨w4, hw4⟩ : ∃ w4, w3.alloc (.cells (zerosK 63) 36) = w4 := ⟨_, rfl⟩
      have HZ4 : Hid (SegsAt (fun k => k = w3.heap.size) w4 (.slice (some ⟨w3.heap.size, 0, none⟩) 63 63) (List.replicate 63 ⟨[], []⟩)) := Lib.hid (by rw [← hw4]; exact zeros_at (by decide) (by decide) rfl (heap_alloc_new _ _))
      have HB5 : Hid (Below B W w4) := Lib.hid (by rw [← hw4]; exact HB4.out.alloc hz4 _)
      have hz5 : w4.heap.size = w3.heap.size + 1 := by rw [← hw4]; simp
      have hz5' : B ≤ w4.heap.size := by omega
      have HP3 := Lib.hid (wPrint_is (x := ⟨0, 0, 0, List.replicate 63 ⟨[], []⟩⟩) (HV.out.on HB5.out (by rw [HBQ.out]; exact Nat.le_refl _)) (by decide) (by decide) (by decide) HZ4.out (fun k hk => by omega) (fun h => absurd h (by decide)) kp63)
      unfold WTQ wv sv at HP3
      rw [hw4]
      clear hw4 hz5
      refine HP3.out.mono ?_
      rintro e w5 ⟨rfl, hb5⟩
      have HB6 := Lib.hid (HB5.out.trans (hb5.mono hz5'))
      have hz6 := HB6.out.size
      rw [HBQ.out] at hz6
      clear hb5 HP3
      have hmk := made62 w5
      go_wp2_with fail
      clear hmk
      obtain ⟨w6, hw6⟩ : ∃ w6, w5.alloc (.cells (zerosK 62) 36) = w6 := ⟨_, rfl⟩
      have HZ6 : Hid (SegsAt (fun k => k = w5.heap.size) w6 (.slice (some ⟨w5.heap.size, 0, none⟩) 62 62) (List.replicate 62 ⟨[], []⟩)) := Lib.hid (by rw [← hw6]; exact zeros_at (by decide) (by decide) rfl (heap_alloc_new _ _))
      have HB7 : Hid (Below B W w6) := Lib.hid (by rw [← hw6]; exact HB6.out.alloc hz6 _)
      have hz7 : w6.heap.size = w5.heap.size + 1 := by rw [← hw6]; simp
      have hz7' : B ≤ w6.heap.size := by omega
      have HP4 := Lib.hid (wPrint_is (x := ⟨0, 0, 0, List.replicate 62 ⟨[], []⟩⟩) (HV.out.on HB7.out (by rw [HBQ.out]; exact Nat.le_refl _)) (by decide) (by decide) (by decide) HZ6.out (fun k hk => by omega) (fun h => by decide) kp62)
      unfold WTQ wv sv at HP4
      rw [hw6]
      clear hw6 hz7
      refine HP4.out.mono ?_
      rintro e w7 ⟨rfl, hb7⟩
      have HB8 := Lib.hid (HB7.out.trans (hb7.mono hz7'))
      have hz8 := HB8.out.size
      rw [HBQ.out] at hz8
      clear hb7 HP4
      obtain ⟨C, hC⟩ : ∃ C, w7.heap.size = C := ⟨_, rfl⟩
      have HCQ := Lib.hid hC
      rw [hC] at hz8
      clear hC
      go_wp2_with fail
      go_loopw [13, 14] (fun ov i wr => ∃ (k : Nat) (xs : List Value), k ≤ 62 ∧ i = .int .i64 (k : Int) ∧ Hid (OG C wr ov xs (List.replicate k abcS)) ∧ Hid (Below C w7 wr)) (fun _ i _ => 62 - (intOf i).toNat)
      case atStart => exact ⟨0, [], by omega, rfl, Lib.hid (OG.nil _ _), Lib.hid (by rw [← HCQ.out]; exact Below.refl _ _)⟩
      case round =>
        obtain ⟨k, xs, hk, rfl, HO, HB9⟩ := hrel
        have hz9 := HB9.out.size
        rw [HCQ.out] at hz9
        by_cases hlt : k < 62
        · have b1 : (0 : Int) ≤ k := by omega
          have b2 : (k : Int) < 62 := by omega
          obtain ⟨oa, oc, rfl⟩ := own_slice HO.out.row
          rw [List.length_replicate] at HO ⊢
          obtain ⟨E, hE⟩ : ∃ E, wr.heap.size = E := ⟨_, rfl⟩
          have HL := Lib.hid (abc_lit hE)
          have HOA := Lib.hid (HO.out.below ((Below.refl _ _).alloc (Nat.le_refl _) (.cells #[.string ⟨#[65, 66, 67]⟩, .slice none 0 0] 36)))
          have HEQ := Lib.hid hE
          clear hE
          go_wp2_with ((with_reducible refine wpList_at (.call { callee := .builtin .append, args := #[.tmp 101, .tmp 103], argTypes := #[23, 23] }) rfl ?_); rw [HEQ.out]; go_loud (refine wp_app_og _ _ rfl rfl rfl rfl HOA.out HL.out (fun k hk => ⟨by simp [HEQ.out]; omega, fun e => by have h1 := (own_lt HO.out.row e).2; rw [HEQ.out] at h1; omega⟩) (by simp; omega) (by simp; omega) ?_); intro v8 w8 xs8 ho8 hb8; have HO8 := Lib.hid ho8; have HB10 := Lib.hid (HB9.out.trans (((Below.refl _ _).alloc (by omega) _).trans hb8)); clear ho8 hb8)
          go_roundw
          case rel => exact ⟨k + 1, xs8, by omega, by go_num, Lib.hid (by have h := HO8.out; rwa [show List.replicate k abcS ++ [abcS] = List.replicate (k + 1) abcS from by rw [List.replicate_succ']] at h), HB10⟩
          case measure => simp [intOf]; omega
        · obtain rfl : k = 62 := by omega
          obtain ⟨oa, oc, rfl⟩ := own_slice HO.out.row
          rw [List.length_replicate] at HO ⊢
          have HB10 := Lib.hid (HB8.out.trans (HB9.out.mono hz8))
          have hz10 := HB10.out.size
          rw [HBQ.out] at hz10
          obtain ⟨s, hs⟩ := kpabc
          obtain ⟨sa, hsa⟩ : ∃ sa : ByteArray, (⟨s.toArray⟩ : ByteArray) = sa := ⟨_, rfl⟩
          have HSA := Lib.hid (show sa.data.toList = s by rw [← hsa])
          have HP5 := Lib.hid (wPrint_is (x := ⟨0, 0, 0, List.replicate 62 abcS⟩) (HV.out.on HB10.out (by rw [HBQ.out]; exact Nat.le_refl _)) (by decide) (by decide) (by decide) HO.out.rest (fun k hk => hk) (fun h => by decide) hs)
          have HBK := Lib.hid (wrap_back (x := ⟨0, 0, 0, List.replicate 62 abcS⟩) (by decide) hs).1
          unfold WTQ wv at HP5
          simp only [sv, hsa] at HP5
          clear hs hsa
          go_wp2_with fail
          refine HP5.out.mono ?_
          rintro e w10 ⟨rfl, hb10⟩
          have HB11 := Lib.hid (HB10.out.trans (hb10.mono hz10))
          have hz11 := HB11.out.size
          rw [HBQ.out] at hz11
          clear hb10 HP5
          have HPA := Lib.hid (wParse_is (s := sa) (w := w10) (HV.out.on HB11.out (by rw [HBQ.out]; exact Nat.le_refl _)) (x := ⟨0, 0, 0, List.replicate 62 abcS⟩) (k := 0) (by rw [HSA.out]; exact HBK.out))
          unfold WPQ wv at HPA
          go_wp2_with fail
          refine HPA.out.mono ?_
          rintro e w11 ⟨yv, rfl, hs11, hb11⟩
          obtain ⟨ya, yc, rfl, _, _⟩ := hs11.form
          have HB12 := Lib.hid (HB11.out.trans (hb11.mono hz11))
          have hz12 := HB12.out.size
          rw [HBQ.out] at hz12
          have HB13 := Lib.hid (fun o => HB12.out.alloc hz12 o)
          rw [List.length_replicate]
          clear hs11 hb11 HPA
          have HVW := Lib.hid (fun o => HV.out.on (HB13.out o) (by rw [HBQ.out]; exact Nat.le_refl _))
          go_wp2_with ((with_reducible refine (wraps_any _ (HVW.out _)).mono ?_); rintro e w12 ⟨rfl, hb12⟩; have HB14 := Lib.hid hb12; clear hb12)
          go_ret
          exact ⟨rfl, (HB13.out _).trans (HB14.out.mono (by simp; omega))⟩
end Go.Proofs.YteaaiejfieaalaaGreatDoor
