/-
  Texts MsgR7, MsgR4, one behind the other. No condition beyond those stated in each.
-/
import Derived.Test.YtgfijlamhjjecaaGreatDoorMt15
import Derived.Test.YtgfijlamhjjecaaGreatDoorMt13
import Derived.Test.YtgfijlamhjjecaaGreatDoorMt6
import Derived.Test.YtgfijlamhjjecaaGreatDoorMt12
namespace Go.Proofs.YtgfijlamhjjecaaGreatDoor
open Go.RowKit
set_option maxRecDepth 100000 in
set_option maxHeartbeats 16000000 in
theorem rWrap_any (p : PD) (hp : okPD p) (w : World) : Calls Tryz.prog 14 #[.agg (pktA p).toArray] w fun e w' => WrapM0Q p w e w' := by
  obtain ⟨B, hB⟩ : ∃ B, w.heap.size = B := ⟨_, rfl⟩
  have HBQ := Lib.hid hB
  have HOK := Lib.hid hp.m
  obtain ⟨w1, hw1⟩ : ∃ u, w.alloc (.cells (pktA p).toArray 38) = u := ⟨_, rfl⟩
  obtain ⟨w2, hw2⟩ : ∃ u, w1.alloc (.cells #[.int .u8 0, .int .u8 0, .int .u64 0, .slice none 0 0] 41) = u := ⟨_, rfl⟩
  obtain ⟨w3, hw3⟩ : ∃ u, w2.alloc (.cells #[.int .u8 (p.fr : Int), .int .u8 (p.dst : Int), .int .u64 (p.num : Int), .slice none 0 0] 41) = u := ⟨_, rfl⟩
  obtain ⟨w4, hw4⟩ : ∃ u, w3.alloc (.cells (msgA p.m).toArray 36) = u := ⟨_, rfl⟩
  obtain ⟨B1, hB1⟩ : ∃ u, w1.heap.size = u := ⟨_, rfl⟩
  obtain ⟨B2, hB2⟩ : ∃ u, w2.heap.size = u := ⟨_, rfl⟩
  obtain ⟨B3, hB3⟩ : ∃ u, w3.heap.size = u := ⟨_, rfl⟩
  have q1 : B1 = B + 1 := by rw [← hB1, ← hw1, ← hB]; simp
  have q2 : B2 = B1 + 1 := by rw [← hB2, ← hw2, ← hB1]; simp
  have q3 : B3 = B2 + 1 := by rw [← hB3, ← hw3, ← hB2]; simp
  have HZ4 : Hid (w4.heap.size = B3 + 1) := Lib.hid (by rw [← hw4, ← hB3]; simp)
  have HQ1 : Hid (B + 1 = B1) := Lib.hid q1.symm
  have HBB1 : Hid (w.heap.size ≤ B1) := Lib.hid (by omega)
  have HB12 : Hid (B1 < B2) := Lib.hid (by omega)
  have HB23 : Hid (B2 ≠ B3) := Lib.hid (by omega)
  have HB34 : Hid (B2 < B3) := Lib.hid (by omega)
  have HC1 : Hid (w1.heap[B]? = some (.cells #[.int .u8 (p.fr : Int), .int .u8 (p.dst : Int), .bool p.ack, .int .u64 (p.num : Int), .int .u8 (p.m.kind : Int), .int .u8 (p.m.tc : Int), .int .u64 (p.m.ts : Int), .int .u8 (p.m.pl : Int), .int .u8 (p.m.c.car : Int), .int .u16 (p.m.c.fl : Int), .int .u32 (p.m.c.we : Int), .int .i64 p.m.c.va, .int .u8 (p.m.c.st : Int), .int .u32 (p.m.c.no : Int), .int .i64 p.m.am, .int .i64 p.m.co] 38 (0, 0))) := Lib.hid (by rw [← hw1, ← hB]; exact heap_alloc_new _ _)
  have HBW1 : Hid (Below w.heap.size w w1) := Lib.hid (by rw [← hw1]; exact (Below.refl _ _).alloc (Nat.le_refl _) _)
  have HU2 : Hid (Below B1 w1 w2) := Lib.hid (by rw [← hw2, ← hB1]; exact (Below.refl _ _).alloc (Nat.le_refl _) _)
  have HU3 : Hid (Below B2 w2 w3) := Lib.hid (by rw [← hw3, ← hB2]; exact (Below.refl _ _).alloc (Nat.le_refl _) _)
  have HU4 : Hid (Below B3 w3 w4) := Lib.hid (by rw [← hw4, ← hB3]; exact (Below.refl _ _).alloc (Nat.le_refl _) _)
  have HC2 : Hid (w2.heap[B]? = some (.cells #[.int .u8 (p.fr : Int), .int .u8 (p.dst : Int), .bool p.ack, .int .u64 (p.num : Int), .int .u8 (p.m.kind : Int), .int .u8 (p.m.tc : Int), .int .u64 (p.m.ts : Int), .int .u8 (p.m.pl : Int), .int .u8 (p.m.c.car : Int), .int .u16 (p.m.c.fl : Int), .int .u32 (p.m.c.we : Int), .int .i64 p.m.c.va, .int .u8 (p.m.c.st : Int), .int .u32 (p.m.c.no : Int), .int .i64 p.m.am, .int .i64 p.m.co] 38 (0, 0))) := Lib.hid ((HU2.out.block B (by omega)).trans HC1.out)
  have HR2 : Hid (w2.heap[B1]? = some (.cells #[.int .u8 0, .int .u8 0, .int .u64 0, .slice none 0 0] 41 (0, 0))) := Lib.hid (by rw [← hw2, ← hB1]; exact heap_alloc_new _ _)
  have HR3 : Hid (w3.heap[B1]? = some (.cells #[.int .u8 0, .int .u8 0, .int .u64 0, .slice none 0 0] 41 (0, 0))) := Lib.hid ((HU3.out.block B1 (by omega)).trans HR2.out)
  have HR4 : Hid (w4.heap[B1]? = some (.cells #[.int .u8 0, .int .u8 0, .int .u64 0, .slice none 0 0] 41 (0, 0))) := Lib.hid ((HU4.out.block B1 (by omega)).trans HR3.out)
  have HC3 : Hid (w3.heap[B]? = some (.cells #[.int .u8 (p.fr : Int), .int .u8 (p.dst : Int), .bool p.ack, .int .u64 (p.num : Int), .int .u8 (p.m.kind : Int), .int .u8 (p.m.tc : Int), .int .u64 (p.m.ts : Int), .int .u8 (p.m.pl : Int), .int .u8 (p.m.c.car : Int), .int .u16 (p.m.c.fl : Int), .int .u32 (p.m.c.we : Int), .int .i64 p.m.c.va, .int .u8 (p.m.c.st : Int), .int .u32 (p.m.c.no : Int), .int .i64 p.m.am, .int .i64 p.m.co] 38 (0, 0))) := Lib.hid ((HU3.out.block B (by omega)).trans HC2.out)
  have HC4 : Hid (w4.heap[B]? = some (.cells #[.int .u8 (p.fr : Int), .int .u8 (p.dst : Int), .bool p.ack, .int .u64 (p.num : Int), .int .u8 (p.m.kind : Int), .int .u8 (p.m.tc : Int), .int .u64 (p.m.ts : Int), .int .u8 (p.m.pl : Int), .int .u8 (p.m.c.car : Int), .int .u16 (p.m.c.fl : Int), .int .u32 (p.m.c.we : Int), .int .i64 p.m.c.va, .int .u8 (p.m.c.st : Int), .int .u32 (p.m.c.no : Int), .int .i64 p.m.am, .int .i64 p.m.co] 38 (0, 0))) := Lib.hid ((HU4.out.block B (by omega)).trans HC3.out)
  have HX3 : Hid (w3.heap[B2]? = some (.cells #[.int .u8 (p.fr : Int), .int .u8 (p.dst : Int), .int .u64 (p.num : Int), .slice none 0 0] 41 (0, 0))) := Lib.hid (by rw [← hw3, ← hB2]; exact heap_alloc_new _ _)
  have HX4 : Hid (w4.heap[B2]? = some (.cells #[.int .u8 (p.fr : Int), .int .u8 (p.dst : Int), .int .u64 (p.num : Int), .slice none 0 0] 41 (0, 0))) := Lib.hid ((HU4.out.block B2 (by omega)).trans HX3.out)
  have HM4 : Hid (w4.heap[B3]? = some (.cells #[.int .u8 (p.m.kind : Int), .int .u8 (p.m.tc : Int), .int .u64 (p.m.ts : Int), .int .u8 (p.m.pl : Int), .int .u8 (p.m.c.car : Int), .int .u16 (p.m.c.fl : Int), .int .u32 (p.m.c.we : Int), .int .i64 p.m.c.va, .int .u8 (p.m.c.st : Int), .int .u32 (p.m.c.no : Int), .int .i64 p.m.am, .int .i64 p.m.co] 36 (0, 0))) := Lib.hid (by rw [← hw4, ← hB3]; exact heap_alloc_new _ _)
  have HBW2 : Hid (Below w.heap.size w w2) := Lib.hid (HBW1.out.trans (HU2.out.mono HBB1.out))
  have HBW4 : Hid (Below w.heap.size w w4) := Lib.hid (HBW2.out.trans ((HU3.out.mono (by omega)).trans (HU4.out.mono (by omega))))
  have HZ2 := Lib.hid hB2
  have HZ3 := Lib.hid hB3
  unfold pktA msgA at hw1
  unfold msgA at hw4
  unfold pktA msgA
  simp only [List.cons_append, List.nil_append] at hw1 ⊢
  have HW1 := Lib.hid hw1
  have HW2 := Lib.hid hw2
  have HW3 := Lib.hid hw3
  have HW4 := Lib.hid hw4
  clear hB hp hw1 hw2 hw3 hw4 hB1 hB2 hB3 q1 q2 q3
  obtain ⟨d0, d1, d2, d3, d4, d5, d6, d7, d8, d9, d10, d11, d12, d13, d14, d15⟩ := (cells16 HC2.out).1
  go_enter Tryz.func14, Tryz.ntmps14
  go_upto_region 1 with fail
  rw [HW1.out, HW2.out, HBQ.out, HQ1.out]
  by_cases hcar : 8 ≤ p.fr ∨ 8 ≤ p.dst
  · have HQ := Lib.hid (wrapM_car hcar)
    by_cases hfr : 8 ≤ p.fr
    · have i1 : decide ((8 : Int) ≤ (p.fr : Int)) = true := by rw [decide_eq_true_eq]; omega
      clear hcar hfr
      obtain ⟨⟨e0, e1, e2, e3⟩, g0, g1, g2, g3⟩ := cells4 HR2.out
      go_wp2_with fail
      refine bodyPost_ret (res_wrap rfl _ rfl rfl (put4_heap HR2.out _ _ _ _) rfl) rfl ?_
      exact (wrapMQ_err HQ.out (put4_below HBW2.out HBB1.out _ _ _ _)).weak
    · have i1 : decide ((8 : Int) ≤ (p.fr : Int)) = false := by rw [decide_eq_false_iff_not]; omega
      have i2 : decide ((8 : Int) ≤ (p.dst : Int)) = true := by rw [decide_eq_true_eq]; omega
      clear hcar hfr
      obtain ⟨⟨e0, e1, e2, e3⟩, g0, g1, g2, g3⟩ := cells4 HR2.out
      go_wp2_with fail
      refine bodyPost_ret (res_wrap rfl _ rfl rfl (put4_heap HR2.out _ _ _ _) rfl) rfl ?_
      exact (wrapMQ_err HQ.out (put4_below HBW2.out HBB1.out _ _ _ _)).weak
  · have i1 : decide ((8 : Int) ≤ (p.fr : Int)) = false := by rw [decide_eq_false_iff_not]; omega
    have i2 : decide ((8 : Int) ≤ (p.dst : Int)) = false := by rw [decide_eq_false_iff_not]; omega
    have HCAR := Lib.hid hcar
    clear hcar
    go_upto_region 4 with fail
    rw [HW3.out, HZ2.out]
    clear d0 d1 d2 d3 d4 d5 d6 d7 d8 d9 d10 d11 d12 d13 d14 d15
    obtain ⟨d0, d1, d2, d3, d4, d5, d6, d7, d8, d9, d10, d11, d12, d13, d14, d15⟩ := (cells16 HC3.out).1
    go_upto_region 5 with fail
    rw [HW4.out, HZ3.out]
    clear d0 d1 d2 d3 d4 d5 d6 d7 d8 d9 d10 d11 d12 d13 d14 d15
    obtain ⟨d0, d1, d2, d3, d4, d5, d6, d7, d8, d9, d10, d11, d12, d13, d14, d15⟩ := (cells16 HC4.out).1
    have m0 : w4.cell? ⟨B3, 0, none⟩ = some (.int .u8 (p.m.kind : Int)) := cell_of_row w4 B3 0 _ _ _ HM4.out
    have m1 : w4.cell? ⟨B3, 1, none⟩ = some (.int .u8 (p.m.tc : Int)) := cell_of_row w4 B3 1 _ _ _ HM4.out
    have m2 : w4.cell? ⟨B3, 2, none⟩ = some (.int .u64 (p.m.ts : Int)) := cell_of_row w4 B3 2 _ _ _ HM4.out
    have m3 : w4.cell? ⟨B3, 3, none⟩ = some (.int .u8 (p.m.pl : Int)) := cell_of_row w4 B3 3 _ _ _ HM4.out
    have m4 : w4.cell? ⟨B3, 4, none⟩ = some (.int .u8 (p.m.c.car : Int)) := cell_of_row w4 B3 4 _ _ _ HM4.out
    have m5 : w4.cell? ⟨B3, 5, none⟩ = some (.int .u16 (p.m.c.fl : Int)) := cell_of_row w4 B3 5 _ _ _ HM4.out
    have m6 : w4.cell? ⟨B3, 6, none⟩ = some (.int .u32 (p.m.c.we : Int)) := cell_of_row w4 B3 6 _ _ _ HM4.out
    have m7 : w4.cell? ⟨B3, 7, none⟩ = some (.int .i64 p.m.c.va) := cell_of_row w4 B3 7 _ _ _ HM4.out
    have m8 : w4.cell? ⟨B3, 8, none⟩ = some (.int .u8 (p.m.c.st : Int)) := cell_of_row w4 B3 8 _ _ _ HM4.out
    have m9 : w4.cell? ⟨B3, 9, none⟩ = some (.int .u32 (p.m.c.no : Int)) := cell_of_row w4 B3 9 _ _ _ HM4.out
    have m10 : w4.cell? ⟨B3, 10, none⟩ = some (.int .i64 p.m.am) := cell_of_row w4 B3 10 _ _ _ HM4.out
    have m11 : w4.cell? ⟨B3, 11, none⟩ = some (.int .i64 p.m.co) := cell_of_row w4 B3 11 _ _ _ HM4.out
    cases ha : p.ack with
    | true => as_aux_lemma =>
      rw [ha] at d2
      have hne := fun w => neq_msg p.m md0 w
      obtain ⟨z, hz⟩ : ∃ z, eqM p.m md0 = z := ⟨_, rfl⟩
      rw [hz] at hne
      unfold msgA md0 cd0 at hne
      simp only [Int.natCast_zero] at hne
      cases z with
      | false =>
        have HQ := Lib.hid (wrapM_ackno HCAR.out ha (fun e => by rw [eqM_iff.2 e] at hz; cases hz))
        clear hz ha
        obtain ⟨⟨e0, e1, e2, e3⟩, g0, g1, g2, g3⟩ := cells4 HR4.out
        go_wp2_with fail
        refine bodyPost_ret (res_wrap rfl _ rfl rfl (put4_heap HR4.out _ _ _ _) rfl) rfl ?_
        exact (wrapMQ_err HQ.out (put4_below HBW4.out HBB1.out _ _ _ _)).weak
      | true =>
        have HQ := Lib.hid (wrapM_ack HCAR.out ha (eqM_iff.1 hz))
        clear hz ha
        obtain ⟨⟨x0, x1, x2, x3⟩, y0, y1, y2, y3⟩ := cells4 HX4.out
        obtain ⟨⟨e0, e1, e2, e3⟩, g0, g1, g2, g3⟩ := cells4 HR4.out
        have hlt2 : B2 < w4.heap.size := by rw [HZ4.out]; have := HB34.out; omega
        go_upto_region 9 with fail
        obtain ⟨D, hD⟩ : ∃ D, w4.heap.size = D := ⟨_, rfl⟩
        have HD : Hid (D = B3 + 1) := Lib.hid (hD.symm.trans HZ4.out)
        obtain ⟨w5, hw5⟩ : ∃ u, w4.setCell ⟨B2, 3, none⟩ (.slice (some ⟨D, 0, none⟩) 1 1) = u := ⟨_, rfl⟩
        have hz5 : w5.heap.size = D := by rw [← hw5, ← hD]; simp
        obtain ⟨w6, hw6⟩ : ∃ u, w5.alloc (.cells #[.string ⟨#[65, 67, 75]⟩, .slice none 0 0] 94) = u := ⟨_, rfl⟩
        have HX5 : Hid (w5.heap[B2]? = some (.cells #[.int .u8 (p.fr : Int), .int .u8 (p.dst : Int), .int .u64 (p.num : Int), .slice (some ⟨D, 0, none⟩) 1 1] 41 (0, 0))) := Lib.hid (by rw [← hw5]; exact heap_setCell_same w4 B2 3 _ _ _ HX4.out)
        have HR5 : Hid (w5.heap[B1]? = some (.cells #[.int .u8 0, .int .u8 0, .int .u64 0, .slice none 0 0] 41 (0, 0))) := Lib.hid (by rw [← hw5]; exact (heap_setCell_other _ _ _ _ (by have := HB12.out; simp; omega)).trans HR4.out)
        have HB5 : Hid (Below w.heap.size w w5) := Lib.hid (by rw [← hw5]; exact HBW4.out.setCell (by have := HB12.out; have := HBB1.out; show w.heap.size ≤ B2; omega) _)
        have HU6 : Hid (Below D w5 w6) := Lib.hid (by rw [← hw6, ← hz5]; exact (Below.refl _ _).alloc (Nat.le_refl _) _)
        have HX6 : Hid (w6.heap[B2]? = some (.cells #[.int .u8 (p.fr : Int), .int .u8 (p.dst : Int), .int .u64 (p.num : Int), .slice (some ⟨D, 0, none⟩) 1 1] 41 (0, 0))) := Lib.hid ((HU6.out.block B2 (by have := HD.out; have := HB34.out; omega)).trans HX5.out)
        have HR6 : Hid (w6.heap[B1]? = some (.cells #[.int .u8 0, .int .u8 0, .int .u64 0, .slice none 0 0] 41 (0, 0))) := Lib.hid ((HU6.out.block B1 (by have := HD.out; have := HB34.out; have := HB12.out; omega)).trans HR5.out)
        have HB6 : Hid (Below w.heap.size w w6) := Lib.hid (HB5.out.trans (HU6.out.mono (by have := HD.out; have := HB34.out; have := HB12.out; have := HBB1.out; omega)))
        have HSG6 : Hid (SegsAt (fun b => b = D) w6 (.slice (some ⟨D, 0, none⟩) 1 1) [wordSeg tACK []]) := Lib.hid (by
          have h1 := segs_one (S := fun _ => False) (w := w5) (t := tACK) (st := ⟨#[65, 67, 75]⟩) (es := []) rfl (ElemsAt.nil _ _) (fun k hk => hk.elim)
          rw [hw6, hz5] at h1
          exact h1.cong (fun b hb => by rcases hb with h | h; exact h.elim; exact h) (fun _ _ => rfl))
        have HZ6 : Hid (w6.heap.size = D + 1) := Lib.hid (by rw [← hw6, ← hz5]; simp)
        rw [hD, hw5, hw6]
        clear hw5 hw6 hz5 hD hlt2 x0 x1 x2 x3 y0 y1 y2 y3 e0 e1 e2 e3 g0 g1 g2 g3
        obtain ⟨⟨x0, x1, x2, x3⟩, _⟩ := cells4 HX6.out
        obtain ⟨⟨e0, e1, e2, e3⟩, g0, g1, g2, g3⟩ := cells4 HR6.out
        go_wp2_with fail
        refine bodyPost_ret (res_wrap rfl _ rfl rfl (put4_heap HR6.out _ _ _ _) rfl) rfl ?_
        unfold WrapM0Q
        rw [HQ.out]
        refine ⟨.slice (some ⟨D, 0, none⟩) 1 1, rfl, ?_, put4_below HB6.out HBB1.out _ _ _ _⟩
        have e : (put4 w6 B1 (.int .u8 (p.fr : Int)) (.int .u8 (p.dst : Int)) (.int .u64 (p.num : Int)) (.slice (some ⟨D, 0, none⟩) 1 1)).heap.size = w6.heap.size := by unfold put4; simp
        refine SegsAt.cong HSG6.out (fun b hb' => ⟨by have := HD.out; have := HB34.out; have := HB12.out; have := HBB1.out; omega, by show b < (put4 w6 B1 (.int .u8 (p.fr : Int)) (.int .u8 (p.dst : Int)) (.int .u64 (p.num : Int)) (.slice (some ⟨D, 0, none⟩) 1 1)).heap.size; have := HZ6.out; omega⟩) (fun b hb' => put4_other _ _ _ _ _ _ (by have := HD.out; have := HB34.out; have := HB12.out; omega))
    | false => as_aux_lemma =>
      rw [ha] at d2
      have HAK := Lib.hid ha
      cases hk : hasK p.m.kind with
      | none =>
        have HQ := Lib.hid (wrapM_kind HCAR.out ha hk)
        have HK := Lib.hid hk
        clear hk ha
        obtain ⟨⟨e0, e1, e2, e3⟩, g0, g1, g2, g3⟩ := cells4 HR4.out
        go_wp2_with (go_at_call 46; refine (has_any _ _).mono ?_; rw [HK.out]; rintro e w' ⟨rfl, hww⟩; rw [hww]; clear hww w'; unfold hasV)
        refine bodyPost_ret (res_wrap rfl _ rfl rfl (put4_heap HR4.out _ _ _ _) rfl) rfl ?_
        exact (wrapMQ_err HQ.out (put4_below HBW4.out HBB1.out _ _ _ _)).weak
      | some hh =>
        obtain ⟨a, b, c⟩ := hh
        have HK := Lib.hid hk
        clear ha
        cases ht : mayT p.m.tc p.m.ts with
        | false =>
          have HQ := Lib.hid (wrapM_text HCAR.out HAK.out hk ht)
          have HT := Lib.hid ht
          clear hk ht
          go_upto_region 14 with (first | (go_at_call 46; refine (has_any _ _).mono ?_; rw [HK.out]; rintro e w' ⟨rfl, hww⟩; rw [hww]; clear hww w'; unfold hasV) | (go_at_call 47; refine (r7Text_no HT.out _).mono ?_; rintro e w5 ⟨rfl, hb⟩; have HU5 : Hid (Below (B3 + 1) w4 w5) := Lib.hid (by rw [← HZ4.out]; exact hb); clear hb))
          have HR5 : Hid (w5.heap[B1]? = some (.cells #[.int .u8 0, .int .u8 0, .int .u64 0, .slice none 0 0] 41 (0, 0))) := Lib.hid ((HU5.out.block B1 (by have := HB34.out; have := HB12.out; omega)).trans HR4.out)
          have HB5 : Hid (Below w.heap.size w w5) := Lib.hid (HBW4.out.trans (HU5.out.mono (by have := HB34.out; have := HB12.out; have := HBB1.out; omega)))
          clear d0 d1 d2 d3 d4 d5 d6 d7 d8 d9 d10 d11 d12 d13 d14 d15 m0 m1 m2 m3 m4 m5 m6 m7 m8 m9 m10 m11
          obtain ⟨⟨e0, e1, e2, e3⟩, g0, g1, g2, g3⟩ := cells4 HR5.out
          go_wp2_with fail
          refine bodyPost_ret (res_wrap rfl _ rfl rfl (put4_heap HR5.out _ _ _ _) rfl) rfl ?_
          exact (wrapMQ_err HQ.out (put4_below HB5.out HBB1.out _ _ _ _)).weak
        | true =>
          have HMN := Lib.hid (wrapM_main HCAR.out HAK.out hk ht)
          have HT := Lib.hid ht
          obtain ⟨TT, hTT⟩ : ∃ T, body7 p.m.tc p.m.ts ++ [digC ((p.m.tc * 10000000000 + p.m.ts) % 7)] = T := ⟨_, rfl⟩
          obtain ⟨stt, hstt⟩ : ∃ s : ByteArray, (⟨TT.toArray⟩ : ByteArray) = s := ⟨_, rfl⟩
          have HTX := Lib.hid (fun w => r7Text_ok ht w)
          rw [hTT, hstt] at HTX
          have HTE : Hid ((text7 p.m.tc p.m.ts).1 = TT) := Lib.hid (by unfold text7; rw [if_pos ht]; exact hTT)
          have HSTT := Lib.hid hstt
          clear hk ht hTT hstt
          go_upto_region 14 with (first | (go_at_call 46; refine (has_any _ _).mono ?_; rw [HK.out]; rintro e w' ⟨rfl, hww⟩; rw [hww]; clear hww w'; unfold hasV) | (go_at_call 47; refine (HTX.out _).mono ?_; rintro e w5 ⟨rfl, hb⟩; have HU5 : Hid (Below (B3 + 1) w4 w5) := Lib.hid (by rw [← HZ4.out]; exact hb); clear hb))
          clear d0 d1 d2 d3 d4 d5 d6 d7 d8 d9 d10 d11 d12 d13 d14 d15 m0 m1 m2 m3 m4 m5 m6 m7 m8 m9 m10 m11
          have HM5 : Hid (w5.heap[B3]? = some (.cells #[.int .u8 (p.m.kind : Int), .int .u8 (p.m.tc : Int), .int .u64 (p.m.ts : Int), .int .u8 (p.m.pl : Int), .int .u8 (p.m.c.car : Int), .int .u16 (p.m.c.fl : Int), .int .u32 (p.m.c.we : Int), .int .i64 p.m.c.va, .int .u8 (p.m.c.st : Int), .int .u32 (p.m.c.no : Int), .int .i64 p.m.am, .int .i64 p.m.co] 36 (0, 0))) := Lib.hid ((HU5.out.block B3 (Nat.lt_succ_self B3)).trans HM4.out)
          have m0 : w5.cell? ⟨B3, 0, none⟩ = some (.int .u8 (p.m.kind : Int)) := cell_of_row w5 B3 0 _ _ _ HM5.out
          have m1 : w5.cell? ⟨B3, 1, none⟩ = some (.int .u8 (p.m.tc : Int)) := cell_of_row w5 B3 1 _ _ _ HM5.out
          have m2 : w5.cell? ⟨B3, 2, none⟩ = some (.int .u64 (p.m.ts : Int)) := cell_of_row w5 B3 2 _ _ _ HM5.out
          have m3 : w5.cell? ⟨B3, 3, none⟩ = some (.int .u8 (p.m.pl : Int)) := cell_of_row w5 B3 3 _ _ _ HM5.out
          have m4 : w5.cell? ⟨B3, 4, none⟩ = some (.int .u8 (p.m.c.car : Int)) := cell_of_row w5 B3 4 _ _ _ HM5.out
          have m5 : w5.cell? ⟨B3, 5, none⟩ = some (.int .u16 (p.m.c.fl : Int)) := cell_of_row w5 B3 5 _ _ _ HM5.out
          have m6 : w5.cell? ⟨B3, 6, none⟩ = some (.int .u32 (p.m.c.we : Int)) := cell_of_row w5 B3 6 _ _ _ HM5.out
          have m7 : w5.cell? ⟨B3, 7, none⟩ = some (.int .i64 p.m.c.va) := cell_of_row w5 B3 7 _ _ _ HM5.out
          have m8 : w5.cell? ⟨B3, 8, none⟩ = some (.int .u8 (p.m.c.st : Int)) := cell_of_row w5 B3 8 _ _ _ HM5.out
          have m9 : w5.cell? ⟨B3, 9, none⟩ = some (.int .u32 (p.m.c.no : Int)) := cell_of_row w5 B3 9 _ _ _ HM5.out
          have m10 : w5.cell? ⟨B3, 10, none⟩ = some (.int .i64 p.m.am) := cell_of_row w5 B3 10 _ _ _ HM5.out
          have m11 : w5.cell? ⟨B3, 11, none⟩ = some (.int .i64 p.m.co) := cell_of_row w5 B3 11 _ _ _ HM5.out
          have HMR0 := Lib.hid (fun w => may_any p.m w)
          rw [mayR_is HOK.out, HK.out] at HMR0
          unfold msgA at HMR0
          obtain ⟨my, hmy⟩ : ∃ q, mayM (a, b, c) p.m = q := ⟨_, rfl⟩
          simp only [hmy] at HMR0
          have HMY := Lib.hid hmy
          clear hmy
          cases my with
          | false => as_aux_lemma =>
            have HQ : Hid (wrapM p = (wd0, 101)) := Lib.hid (by rw [HMN.out, if_neg (by rw [HMY.out]; simp)])
            go_upto_if 65 with (go_at_call 48; refine (HMR0.out _).mono ?_; rintro e w6 ⟨rfl, hb⟩; have HU6 : Hid (Below (B3 + 1) w4 w6) := Lib.hid (HU5.out.trans (hb.mono (by have h1 := HU5.out.size; rw [HZ4.out] at h1; exact h1))); clear hb)
            have HR6 : Hid (w6.heap[B1]? = some (.cells #[.int .u8 0, .int .u8 0, .int .u64 0, .slice none 0 0] 41 (0, 0))) := Lib.hid ((HU6.out.block B1 (by have := HB34.out; have := HB12.out; omega)).trans HR4.out)
            have HB6 : Hid (Below w.heap.size w w6) := Lib.hid (HBW4.out.trans (HU6.out.mono (by have := HB34.out; have := HB12.out; have := HBB1.out; omega)))
            clear m0 m1 m2 m3 m4 m5 m6 m7 m8 m9 m10 m11
            obtain ⟨⟨e0, e1, e2, e3⟩, g0, g1, g2, g3⟩ := cells4 HR6.out
            go_wp2_with fail
            refine bodyPost_ret (res_wrap rfl _ rfl rfl (put4_heap HR6.out _ _ _ _) rfl) rfl ?_
            exact (wrapMQ_err HQ.out (put4_below HB6.out HBB1.out _ _ _ _)).weak
          | true => as_aux_lemma =>
            have HE : Hid (wrapM p = (⟨p.fr, p.dst, p.num, msgSegs (a, b, c) p.m TT⟩, 0)) := Lib.hid (by rw [HMN.out, if_pos HMY.out, HTE.out])
            have HMB := Lib.hid (may_bounds HMY.out)
            go_upto_region 18 with (go_at_call 48; refine (HMR0.out _).mono ?_; rintro e w0 ⟨rfl, hb⟩; have HU6 : Hid (Below (B3 + 1) w4 w0) := Lib.hid (HU5.out.trans (hb.mono (by have h1 := HU5.out.size; rw [HZ4.out] at h1; exact h1))); clear hb)
            have HR0 : Hid (w0.heap[B1]? = some (.cells #[.int .u8 0, .int .u8 0, .int .u64 0, .slice none 0 0] 41 (0, 0))) := Lib.hid ((HU6.out.block B1 (by have := HB34.out; have := HB12.out; omega)).trans HR4.out)
            have HRW0 : Hid (w0.heap[B2]? = some (.cells #[.int .u8 (p.fr : Int), .int .u8 (p.dst : Int), .int .u64 (p.num : Int), .slice none 0 0] 41 (0, 0))) := Lib.hid ((HU6.out.block B2 (by have := HB34.out; omega)).trans HX4.out)
            have HM0 : Hid (w0.heap[B3]? = some (.cells #[.int .u8 (p.m.kind : Int), .int .u8 (p.m.tc : Int), .int .u64 (p.m.ts : Int), .int .u8 (p.m.pl : Int), .int .u8 (p.m.c.car : Int), .int .u16 (p.m.c.fl : Int), .int .u32 (p.m.c.we : Int), .int .i64 p.m.c.va, .int .u8 (p.m.c.st : Int), .int .u32 (p.m.c.no : Int), .int .i64 p.m.am, .int .i64 p.m.co] 36 (0, 0))) := Lib.hid ((HU6.out.block B3 (Nat.lt_succ_self B3)).trans HM4.out)
            have HBW0 : Hid (Below w.heap.size w w0) := Lib.hid (HBW4.out.trans (HU6.out.mono (by have := HB34.out; have := HB12.out; have := HBB1.out; omega)))
            obtain ⟨L0, hL0⟩ : ∃ L, w0.heap.size = L := ⟨_, rfl⟩
            have HW0 := Lib.hid hL0
            have HB3L : Hid (B3 < L0) := Lib.hid (by have h1 := HU6.out.size; rw [HZ4.out] at h1; omega)
            have HB2L : Hid (B2 < L0) := Lib.hid (by have := HB3L.out; have := HB34.out; omega)
            clear hL0 m0 m1 m2 m3 m4 m5 m6 m7 m8 m9 m10 m11
            have m0 : w0.cell? ⟨B3, 0, none⟩ = some (.int .u8 (p.m.kind : Int)) := cell_of_row w0 B3 0 _ _ _ HM0.out
            have m1 : w0.cell? ⟨B3, 1, none⟩ = some (.int .u8 (p.m.tc : Int)) := cell_of_row w0 B3 1 _ _ _ HM0.out
            have m2 : w0.cell? ⟨B3, 2, none⟩ = some (.int .u64 (p.m.ts : Int)) := cell_of_row w0 B3 2 _ _ _ HM0.out
            have m3 : w0.cell? ⟨B3, 3, none⟩ = some (.int .u8 (p.m.pl : Int)) := cell_of_row w0 B3 3 _ _ _ HM0.out
            have m4 : w0.cell? ⟨B3, 4, none⟩ = some (.int .u8 (p.m.c.car : Int)) := cell_of_row w0 B3 4 _ _ _ HM0.out
            have m5 : w0.cell? ⟨B3, 5, none⟩ = some (.int .u16 (p.m.c.fl : Int)) := cell_of_row w0 B3 5 _ _ _ HM0.out
            have m6 : w0.cell? ⟨B3, 6, none⟩ = some (.int .u32 (p.m.c.we : Int)) := cell_of_row w0 B3 6 _ _ _ HM0.out
            have m7 : w0.cell? ⟨B3, 7, none⟩ = some (.int .i64 p.m.c.va) := cell_of_row w0 B3 7 _ _ _ HM0.out
            have m8 : w0.cell? ⟨B3, 8, none⟩ = some (.int .u8 (p.m.c.st : Int)) := cell_of_row w0 B3 8 _ _ _ HM0.out
            have m9 : w0.cell? ⟨B3, 9, none⟩ = some (.int .u32 (p.m.c.no : Int)) := cell_of_row w0 B3 9 _ _ _ HM0.out
            have m10 : w0.cell? ⟨B3, 10, none⟩ = some (.int .i64 p.m.am) := cell_of_row w0 B3 10 _ _ _ HM0.out
            have m11 : w0.cell? ⟨B3, 11, none⟩ = some (.int .i64 p.m.co) := cell_of_row w0 B3 11 _ _ _ HM0.out
            go_cut [] (fun wr => ∃ va vc n xs, n ≤ 2 ∧ Hid (([partSeg tMSG [(p.m.kind : Int)], wordSeg tKEY [TT, sgnT (p.m.pl : Int)]]).length = n) ∧ Hid (RInv p L0 B2 w0 ([partSeg tMSG [(p.m.kind : Int)], wordSeg tKEY [TT, sgnT (p.m.pl : Int)]]) (.slice va n vc) xs wr))
            case first => as_aux_lemma =>
              obtain ⟨we, hwe⟩ : ∃ we, w0.drew = we := ⟨_, rfl⟩
              have HUE : Hid (Below L0 w0 we) := Lib.hid (by rw [← hwe]; exact (Below.refl _ _).drew)
              have HSX : Hid (∀ u, Below L0 w0 u → (u.cell? ⟨B3, 0, none⟩ = some (.int .u8 (p.m.kind : Int)) ∧ u.cell? ⟨B3, 3, none⟩ = some (.int .u8 (p.m.pl : Int)))) := Lib.hid (fun u hb => ⟨(hb.cell (p := ⟨B3, 0, none⟩) HB3L.out).trans m0, (hb.cell (p := ⟨B3, 3, none⟩) HB3L.out).trans m3⟩)
              have hSd := HSX.out we HUE.out
              have gk0 : IntKind.u64.wrap (p.m.kind : Int) = (p.m.kind : Int) := IntWalk.u64_in _ (by have := HOK.out.kind; omega)
              have gk1 : IntKind.u64.wrap (p.m.pl : Int) = (p.m.pl : Int) := IntWalk.u64_in _ (by have := HOK.out.pl; omega)
              obtain ⟨s0, hs0⟩ : ∃ s : ByteArray, (⟨(sgnT (p.m.kind : Int)).toArray⟩ : ByteArray) = s := ⟨_, rfl⟩
              have ID0 := Lib.hid (fun w => sgn_call (k := p.m.kind) (by have := HOK.out.kind; omega) hs0 w)
              have HS0 := Lib.hid hs0
              obtain ⟨s1, hs1⟩ : ∃ s : ByteArray, (⟨(sgnT (p.m.pl : Int)).toArray⟩ : ByteArray) = s := ⟨_, rfl⟩
              have ID1 := Lib.hid (fun w => sgn_call (k := p.m.pl) (by have := HOK.out.pl; omega) hs1 w)
              have HS1 := Lib.hid hs1
              refine wp_region_planT (.val 0 (.val 1 (.val 2 (.val 6 (.val 7 (.val 8 (.val 9 (.val 10 (.one 3 (.one 4 (.one 5 (.one 11 (.one 12 (.one 13 (.one 14 (.val 15 (.one 16 .nil))))))))))))))))) (fun u => u.cell? ⟨B3, 0, none⟩ = some (.int .u8 (p.m.kind : Int)) ∧ u.cell? ⟨B3, 3, none⟩ = some (.int .u8 (p.m.pl : Int))) (by kernel_rfl) (by kernel_rfl) (by rw [hwe]; exact hSd) ?_
              rw [hwe]
              clear hwe hSd hs0 hs1 m0 m1 m2 m3 m4 m5 m6 m7 m8 m9 m10 m11
              iterate 8 (refine' planT_val rfl rfl (fun w' hS => ?_) ?_; rotate_left; (focus (first | rfl | (obtain ⟨hS1, hS2⟩ := hS; go_simp; rfl) | (obtain ⟨hS1, hS2⟩ := hS; go_simp; done))); simp only [Act.put, List.setIfInBounds_toArray, List.set_cons_zero, List.set_cons_succ])
              refine planT_do rfl (fun K hK => ?_)
              go_wp2_with (go_at_call 25; refine (ID0.out _).mono ?_; rintro e wA ⟨rfl, dr, hdr⟩; have HUA : Hid (Below L0 w0 wA) := Lib.hid (by rw [hdr]; exact below_drewN HUE.out dr); clear hdr)
              have hzA : L0 ≤ wA.heap.size := by have h1 := HUA.out.size; rw [HW0.out] at h1; exact h1
              refine hK _ _ (HSX.out _ HUA.out) ?_
              clear hK K
              refine planT_do rfl (fun K hK => ?_)
              go_wp2_with fail
              obtain ⟨DA, hDA⟩ : ∃ D, wA.heap.size = D := ⟨_, rfl⟩
              obtain ⟨wB, hwB⟩ : ∃ u, wA.alloc (.cells #[.string s0] 9) = u := ⟨_, rfl⟩
              have HUB : Hid (Below L0 w0 wB) := Lib.hid (by rw [← hwB]; exact HUA.out.alloc hzA _)
              have HCB : Hid (CompsAt (fun b => b = DA) wB (.slice (some ⟨DA, 0, none⟩) 1 1) [sgnT (p.m.kind : Int)]) := Lib.hid (comps_lit (by rw [← hwB, ← hDA]; exact heap_alloc_new _ _) (by rw [← HS0.out]; rfl) rfl (by decide))
              have HZB : Hid (wB.heap.size = DA + 1) := Lib.hid (by rw [← hwB, ← hDA]; simp)
              have HDA : Hid (L0 ≤ DA) := Lib.hid (by rw [← hDA]; exact hzA)
              rw [hwB, hDA]
              clear hwB hDA hzA
              refine hK _ _ (HSX.out _ HUB.out) ?_
              clear hK K
              refine planT_do rfl (fun K hK => ?_)
              go_wp2_with (go_at_call 49; refine (r10segment_any ⟨#[77, 83, 71]⟩ [sgnT (p.m.kind : Int)] _ _ HCB.out (fun b hb => by rw [HZB.out, hb]; omega) (by simp)).mono ?_; rintro e wC ⟨ev1, rfl, hev, hb⟩; rw [HZB.out] at hev hb; have HE1 := Lib.hid hev; have HUC : Hid (Below (DA + 1) wB wC) := Lib.hid hb; clear hev hb)
              have HXC : Hid (Below L0 w0 wC) := Lib.hid (HUB.out.trans (HUC.out.mono (by have := HDA.out; omega)))
              refine hK _ _ (HSX.out _ HXC.out) ?_
              clear hK K
              refine planT_do rfl (fun K hK => ?_)
              go_wp2_with (go_at_call 25; refine (ID1.out _).mono ?_; rintro e wD ⟨rfl, dr, hdr⟩; have HUD : Hid (Below wC.heap.size wC wD) := Lib.hid (by rw [hdr]; exact below_drewN (Below.refl _ _) dr); clear hdr)
              have HXD : Hid (Below L0 w0 wD) := Lib.hid (HXC.out.trans (HUD.out.mono (by have h1 := HXC.out.size; rw [HW0.out] at h1; exact h1)))
              refine hK _ _ (HSX.out _ HXD.out) ?_
              clear hK K
              have hzD : L0 ≤ wD.heap.size := by have h1 := HXD.out.size; rw [HW0.out] at h1; exact h1
              refine planT_do rfl (fun K hK => ?_)
              go_wp2_with fail
              obtain ⟨DD, hDD⟩ : ∃ D, wD.heap.size = D := ⟨_, rfl⟩
              obtain ⟨wE, hwE⟩ : ∃ u, wD.alloc (.cells #[.string stt, .string s1] 9) = u := ⟨_, rfl⟩
              have HXE : Hid (Below L0 w0 wE) := Lib.hid (by rw [← hwE]; exact HXD.out.alloc hzD _)
              have HUE2 : Hid (Below wC.heap.size wC wE) := Lib.hid (by rw [← hwE]; exact HUD.out.alloc HUD.out.size _)
              have HCE : Hid (CompsAt (fun b => b = DD) wE (.slice (some ⟨DD, 0, none⟩) 2 2) [TT, sgnT (p.m.pl : Int)]) := Lib.hid (comps_lit (by rw [← hwE, ← hDD]; exact heap_alloc_new _ _) (by rw [← HS1.out, ← HSTT.out]; rfl) rfl (by decide))
              have HZE : Hid (wE.heap.size = DD + 1) := Lib.hid (by rw [← hwE, ← hDD]; simp)
              have HDD : Hid (wC.heap.size ≤ DD) := Lib.hid (by rw [← hDD]; exact HUD.out.size)
              rw [hwE, hDD]
              clear hwE hDD hzD
              refine hK _ _ (HSX.out _ HXE.out) ?_
              clear hK K
              refine planT_do rfl (fun K hK => ?_)
              go_wp2_with (go_at_call 49; refine (r10segment_any ⟨#[75, 69, 89]⟩ [TT, sgnT (p.m.pl : Int)] _ _ HCE.out (fun b hb => by rw [HZE.out, hb]; omega) (by simp)).mono ?_; rintro e wF ⟨ev2, rfl, hev, hb⟩; rw [HZE.out] at hev hb; have HE2 := Lib.hid hev; have HUF : Hid (Below (DD + 1) wE wF) := Lib.hid hb; clear hev hb)
              have hLDD : L0 ≤ DD := by have h1 := HXC.out.size; rw [HW0.out] at h1; have := HDD.out; omega
              have HXF : Hid (Below L0 w0 wF) := Lib.hid (HXE.out.trans (HUF.out.mono (by omega)))
              refine hK _ _ (HSX.out _ HXF.out) ?_
              clear hK K
              have hzF : DD + 1 ≤ wF.heap.size := by have h1 := HUF.out.size; rw [HZE.out] at h1; exact h1
              refine planT_do rfl (fun K hK => ?_)
              go_wp2_with fail
              obtain ⟨DF, hDF⟩ : ∃ D, wF.heap.size = D := ⟨_, rfl⟩
              obtain ⟨wG, hwG⟩ : ∃ u, wF.alloc (.cells #[.string ⟨#[77, 83, 71]⟩, ev1, .string ⟨#[75, 69, 89]⟩, ev2] 94) = u := ⟨_, rfl⟩
              have HXG : Hid (Below L0 w0 wG) := Lib.hid (by rw [← hwG]; exact HXF.out.alloc (by omega) _)
              have HZC : Hid (DA + 1 ≤ wC.heap.size) := Lib.hid (by have h1 := HUC.out.size; rw [HZB.out] at h1; exact h1)
              have HOG : Hid (OGT (fun b => L0 ≤ b) L0 wG (.slice (some ⟨DF, 0, none⟩) 2 2) [ev1, ev2] [partSeg tMSG [(p.m.kind : Int)], wordSeg tKEY [TT, sgnT (p.m.pl : Int)]]) := Lib.hid (by
                have h1 := ogt_two (T := fun b => L0 ≤ b) (B := L0) (w := wF) (t := tMSG) (u := tKEY) (st := ⟨#[77, 83, 71]⟩) (su := ⟨#[75, 69, 89]⟩) rfl rfl (by omega)
                  (HE1.out.cong (T := fun b => L0 ≤ b ∧ b < wF.heap.size) (w' := wF) (fun k hk => ⟨by have := HDA.out; omega, by have := HDD.out; omega⟩) (fun k hk => (HUF.out.block k (by have := HDD.out; omega)).trans (HUE2.out.block k hk.2)))
                  (HE2.out.cong (T := fun b => L0 ≤ b ∧ b < wF.heap.size) (w' := wF) (fun k hk => ⟨by omega, hk.2⟩) (fun k hk => rfl))
                rw [hwG, hDF] at h1
                exact h1)
              have HZG : Hid (wG.heap.size = DF + 1) := Lib.hid (by rw [← hwG, ← hDF]; simp)
              have hLDF : L0 ≤ DF := by omega
              rw [hwG, hDF]
              clear hwG hDF hzF hLDD
              refine hK _ _ (HSX.out _ HXG.out) ?_
              clear hK K
              iterate 1 (refine' planT_val rfl rfl (fun w' hS => ?_) ?_; rotate_left; (focus (first | rfl | (obtain ⟨hS1, hS2⟩ := hS; go_simp; rfl) | (obtain ⟨hS1, hS2⟩ := hS; go_simp; done))); simp only [Act.put, List.setIfInBounds_toArray, List.set_cons_zero, List.set_cons_succ])
              have HWRX : Hid (wG.heap[B2]? = some (.cells #[.int .u8 (p.fr : Int), .int .u8 (p.dst : Int), .int .u64 (p.num : Int), .slice none 0 0] 41 (0, 0))) := Lib.hid ((HXG.out.block B2 HB2L.out).trans HRW0.out)
              obtain ⟨⟨c0, c1, c2, c3⟩, g0, g1, g2, g3⟩ := cells4 HWRX.out
              refine planT_do rfl (fun K hK => ?_)
              go_wp2_with fail
              refine hK _ _ (by
                have h1 := HSX.out _ HXG.out
                exact ⟨(cell_ag (heap_setCell_other _ _ _ _ (by simpa using HB23.out.symm))).trans h1.1, (cell_ag (heap_setCell_other _ _ _ _ (by simpa using HB23.out.symm))).trans h1.2⟩) ?_
              clear hK K c0 c1 c2 c3 g0 g1 g2 g3
              refine planT_nil ?_
              go_wp2_with fail
              go_meet
              case rel =>
                refine ⟨some ⟨DF, 0, none⟩, 2, 2, [ev1, ev2], by omega, Lib.hid rfl, Lib.hid ⟨HOG.out.fr (Fr.setCell _ (by simp) _ : Fr [B2] wG _) (fun g hg => by have e := List.mem_singleton.1 hg; rw [e]; have := HB2L.out; omega) (fun g hg hm => by have e := List.mem_singleton.1 hm; have h2 : DF = g := Option.some.inj hg; have := HB2L.out; omega), heap_setCell_same wG B2 3 _ _ _ HWRX.out, Fr.trans (F := [B2]) (Below.fr (by rw [HW0.out]; exact HXG.out) (Nat.le_refl _) [B2]) (Fr.setCell _ (by simp) _)⟩⟩
            case rest => as_aux_lemma =>
              obtain ⟨va, vc, n, xs, hn10, HLN, HI⟩ := hcut
              obtain ⟨wr, hwr⟩ : ∃ u, u = wc := ⟨_, rfl⟩
              rw [← hwr] at HI ⊢
              clear hwr
              have HN10 := Lib.hid hn10
              clear hn10
              have HLR : Hid (L0 ≤ wr.heap.size) := Lib.hid (by have h1 := HI.out.fr.size; rw [HW0.out] at h1; exact h1)
              have HMR : Hid (wr.heap[B3]? = some (.cells #[.int .u8 (p.m.kind : Int), .int .u8 (p.m.tc : Int), .int .u64 (p.m.ts : Int), .int .u8 (p.m.pl : Int), .int .u8 (p.m.c.car : Int), .int .u16 (p.m.c.fl : Int), .int .u32 (p.m.c.we : Int), .int .i64 p.m.c.va, .int .u8 (p.m.c.st : Int), .int .u32 (p.m.c.no : Int), .int .i64 p.m.am, .int .i64 p.m.co] 36 (0, 0))) := Lib.hid ((HI.out.fr.block B3 (by rw [HW0.out]; exact HB3L.out) (by simpa using HB23.out.symm)).trans HM0.out)
              obtain ⟨LS, hLS⟩ : ∃ l, [partSeg tMSG [(p.m.kind : Int)], wordSeg tKEY [TT, sgnT (p.m.pl : Int)]] = l := ⟨_, rfl⟩
              rw [hLS] at HLN HI
              have HLSQ1 := Lib.hid hLS
              clear hLS
              go_upto_if 83 with fail
              go_cut [] (fun wr => ∃ va vc n xs, n ≤ 3 ∧ Hid ((LS ++ (if a then [partSeg tCPN [(p.m.c.car : Int), p.m.c.fl, p.m.c.we, p.m.c.va, p.m.c.st, p.m.c.no]] else [])).length = n) ∧ Hid (RInv p L0 B2 w0 (LS ++ (if a then [partSeg tCPN [(p.m.c.car : Int), p.m.c.fl, p.m.c.we, p.m.c.va, p.m.c.st, p.m.c.no]] else [])) (.slice va n vc) xs wr))
              case first => as_aux_lemma =>
                cases a with
                | false =>
                  go_wp2_with fail
                  go_meet
                  case rel => exact ⟨va, vc, n, xs, by have := HN10.out; omega, Lib.hid (by simp only [Bool.false_eq_true, if_false, List.append_nil]; exact HLN.out), Lib.hid (by simp only [Bool.false_eq_true, if_false, List.append_nil]; exact HI.out)⟩
                | true =>
                  have m0 : wr.cell? ⟨B3, 4, none⟩ = some (.int .u8 (p.m.c.car : Int)) := cell_of_row wr B3 4 _ _ _ HMR.out
                  have m1 : wr.cell? ⟨B3, 5, none⟩ = some (.int .u16 (p.m.c.fl : Int)) := cell_of_row wr B3 5 _ _ _ HMR.out
                  have m2 : wr.cell? ⟨B3, 6, none⟩ = some (.int .u32 (p.m.c.we : Int)) := cell_of_row wr B3 6 _ _ _ HMR.out
                  have m3 : wr.cell? ⟨B3, 7, none⟩ = some (.int .i64 p.m.c.va) := cell_of_row wr B3 7 _ _ _ HMR.out
                  have m4 : wr.cell? ⟨B3, 8, none⟩ = some (.int .u8 (p.m.c.st : Int)) := cell_of_row wr B3 8 _ _ _ HMR.out
                  have m5 : wr.cell? ⟨B3, 9, none⟩ = some (.int .u32 (p.m.c.no : Int)) := cell_of_row wr B3 9 _ _ _ HMR.out
                  go_upto_region 21 with fail
                  obtain ⟨wq, hwq⟩ : ∃ u, wr.alloc (.cells #[.int .u8 (p.m.c.car : Int), .int .u16 (p.m.c.fl : Int), .int .u32 (p.m.c.we : Int), .int .i64 p.m.c.va, .int .u8 (p.m.c.st : Int), .int .u32 (p.m.c.no : Int)] 33) = u := ⟨_, rfl⟩
                  obtain ⟨B4, hB4⟩ : ∃ u, wr.heap.size = u := ⟨_, rfl⟩
                  have HCR : Hid (wq.heap[B4]? = some (.cells #[.int .u8 (p.m.c.car : Int), .int .u16 (p.m.c.fl : Int), .int .u32 (p.m.c.we : Int), .int .i64 p.m.c.va, .int .u8 (p.m.c.st : Int), .int .u32 (p.m.c.no : Int)] 33 (0, 0))) := Lib.hid (by rw [← hwq, ← hB4]; exact heap_alloc_new _ _)
                  have HUQ : Hid (Below wr.heap.size wr wq) := Lib.hid (by rw [← hwq]; exact (Below.refl _ _).alloc (Nat.le_refl _) _)
                  have HIQ : Hid (RInv p L0 B2 w0 LS (.slice va n vc) xs wq) := Lib.hid ⟨HI.out.segs.below HUQ.out, (HUQ.out.block B2 (by have := HLR.out; have := HB2L.out; omega)).trans HI.out.row, HI.out.fr.trans (Below.fr HUQ.out (Nat.le_refl _) [B2])⟩
                  have HLQ : Hid (L0 ≤ wq.heap.size) := Lib.hid (by have h1 := HIQ.out.fr.size; rw [HW0.out] at h1; exact h1)
                  rw [hwq, hB4]
                  clear hwq hB4 m0 m1 m2 m3 m4 m5 HI HLR HUQ
                  obtain ⟨wr, hwr⟩ : ∃ u, u = wq := ⟨_, rfl⟩
                  rw [← hwr] at HCR HIQ HLQ ⊢
                  clear hwr
                  have HI := HIQ
                  have HLR := HLQ
                  obtain ⟨⟨d0, d1, d2, d3⟩, _⟩ := cells4 HI.out.row
                  have m0 : wr.cell? ⟨B4, 0, none⟩ = some (.int .u8 (p.m.c.car : Int)) := cell_of_row wr B4 0 _ _ _ HCR.out
                  have m1 : wr.cell? ⟨B4, 1, none⟩ = some (.int .u16 (p.m.c.fl : Int)) := cell_of_row wr B4 1 _ _ _ HCR.out
                  have m2 : wr.cell? ⟨B4, 2, none⟩ = some (.int .u32 (p.m.c.we : Int)) := cell_of_row wr B4 2 _ _ _ HCR.out
                  have m3 : wr.cell? ⟨B4, 3, none⟩ = some (.int .i64 p.m.c.va) := cell_of_row wr B4 3 _ _ _ HCR.out
                  have m4 : wr.cell? ⟨B4, 4, none⟩ = some (.int .u8 (p.m.c.st : Int)) := cell_of_row wr B4 4 _ _ _ HCR.out
                  have m5 : wr.cell? ⟨B4, 5, none⟩ = some (.int .u32 (p.m.c.no : Int)) := cell_of_row wr B4 5 _ _ _ HCR.out
                  have gk0 : IntKind.u64.wrap (p.m.c.car : Int) = (p.m.c.car : Int) := IntWalk.u64_in _ (by have := HOK.out.car; omega)
                  have gk1 : IntKind.u64.wrap (p.m.c.fl : Int) = (p.m.c.fl : Int) := IntWalk.u64_in _ (by have := HOK.out.fl; omega)
                  have gk2 : IntKind.u64.wrap (p.m.c.we : Int) = (p.m.c.we : Int) := IntWalk.u64_in _ (by have := HOK.out.we; omega)
                  have gk4 : IntKind.u64.wrap (p.m.c.st : Int) = (p.m.c.st : Int) := IntWalk.u64_in _ (by have := HOK.out.st; omega)
                  have gk5 : IntKind.u64.wrap (p.m.c.no : Int) = (p.m.c.no : Int) := IntWalk.u64_in _ (by have := HOK.out.no; omega)
                  obtain ⟨s0, hs0⟩ : ∃ s : ByteArray, (⟨(sgnT (p.m.c.car : Int)).toArray⟩ : ByteArray) = s := ⟨_, rfl⟩
                  have ID0 := Lib.hid (fun w => sgn_call (k := p.m.c.car) (by have := HOK.out.car; omega) hs0 w)
                  have HS0 := Lib.hid hs0
                  clear hs0
                  obtain ⟨s1, hs1⟩ : ∃ s : ByteArray, (⟨(sgnT (p.m.c.fl : Int)).toArray⟩ : ByteArray) = s := ⟨_, rfl⟩
                  have ID1 := Lib.hid (fun w => sgn_call (k := p.m.c.fl) (by have := HOK.out.fl; omega) hs1 w)
                  have HS1 := Lib.hid hs1
                  clear hs1
                  obtain ⟨s2, hs2⟩ : ∃ s : ByteArray, (⟨(sgnT (p.m.c.we : Int)).toArray⟩ : ByteArray) = s := ⟨_, rfl⟩
                  have ID2 := Lib.hid (fun w => sgn_call (k := p.m.c.we) (by have := HOK.out.we; omega) hs2 w)
                  have HS2 := Lib.hid hs2
                  clear hs2
                  obtain ⟨s3, hs3⟩ : ∃ s : ByteArray, (⟨(sgnT p.m.c.va).toArray⟩ : ByteArray) = s := ⟨_, rfl⟩
                  have ID3 := Lib.hid (fun w => sgd_call (v := p.m.c.va) (by have := (HMB.out.1 rfl).1; omega) (by have := (HMB.out.1 rfl).2; omega) hs3 w)
                  have HS3 := Lib.hid hs3
                  clear hs3
                  obtain ⟨s4, hs4⟩ : ∃ s : ByteArray, (⟨(sgnT (p.m.c.st : Int)).toArray⟩ : ByteArray) = s := ⟨_, rfl⟩
                  have ID4 := Lib.hid (fun w => sgn_call (k := p.m.c.st) (by have := HOK.out.st; omega) hs4 w)
                  have HS4 := Lib.hid hs4
                  clear hs4
                  obtain ⟨s5, hs5⟩ : ∃ s : ByteArray, (⟨(sgnT (p.m.c.no : Int)).toArray⟩ : ByteArray) = s := ⟨_, rfl⟩
                  have ID5 := Lib.hid (fun w => sgn_call (k := p.m.c.no) (by have := HOK.out.no; omega) hs5 w)
                  have HS5 := Lib.hid hs5
                  clear hs5
                  obtain ⟨we, hwe⟩ : ∃ we, wr.drew = we := ⟨_, rfl⟩
                  have HUE : Hid (Below wr.heap.size wr we) := Lib.hid (by rw [← hwe]; exact (Below.refl _ _).drew)
                  have HSX : Hid (∀ u, Below wr.heap.size wr u → (u.cell? ⟨B2, 3, none⟩ = some (.slice va n vc) ∧ u.cell? ⟨B4, 0, none⟩ = some (.int .u8 (p.m.c.car : Int)) ∧ u.cell? ⟨B4, 1, none⟩ = some (.int .u16 (p.m.c.fl : Int)) ∧ u.cell? ⟨B4, 2, none⟩ = some (.int .u32 (p.m.c.we : Int)) ∧ u.cell? ⟨B4, 3, none⟩ = some (.int .i64 p.m.c.va) ∧ u.cell? ⟨B4, 4, none⟩ = some (.int .u8 (p.m.c.st : Int)) ∧ u.cell? ⟨B4, 5, none⟩ = some (.int .u32 (p.m.c.no : Int)))) := Lib.hid (fun u hb => ⟨(hb.cell (p := ⟨B2, 3, none⟩) (cell_lt' d3)).trans d3, (hb.cell (p := ⟨B4, 0, none⟩) (cell_lt' m0)).trans m0, (hb.cell (p := ⟨B4, 1, none⟩) (cell_lt' m1)).trans m1, (hb.cell (p := ⟨B4, 2, none⟩) (cell_lt' m2)).trans m2, (hb.cell (p := ⟨B4, 3, none⟩) (cell_lt' m3)).trans m3, (hb.cell (p := ⟨B4, 4, none⟩) (cell_lt' m4)).trans m4, (hb.cell (p := ⟨B4, 5, none⟩) (cell_lt' m5)).trans m5⟩)
                  have hSd := HSX.out we HUE.out
                  refine wp_region_planF 33 [(0, false), (1, false), (2, false), (3, false), (4, false), (5, false), (7, false), (8, false), (9, false), (10, false), (12, false), (13, false), (14, false), (15, false), (17, false), (18, false), (20, false), (21, false), (22, false), (24, false), (25, false), (26, false), (6, true), (11, true), (16, true), (19, true), (23, true), (27, true), (28, true), (29, true), (30, true), (31, true), (32, false), (33, true)] (fun u => u.cell? ⟨B2, 3, none⟩ = some (.slice va n vc) ∧ u.cell? ⟨B4, 0, none⟩ = some (.int .u8 (p.m.c.car : Int)) ∧ u.cell? ⟨B4, 1, none⟩ = some (.int .u16 (p.m.c.fl : Int)) ∧ u.cell? ⟨B4, 2, none⟩ = some (.int .u32 (p.m.c.we : Int)) ∧ u.cell? ⟨B4, 3, none⟩ = some (.int .i64 p.m.c.va) ∧ u.cell? ⟨B4, 4, none⟩ = some (.int .u8 (p.m.c.st : Int)) ∧ u.cell? ⟨B4, 5, none⟩ = some (.int .u32 (p.m.c.no : Int))) (by kernel_rfl) (by kernel_rfl) (by rw [hwe]; exact hSd) ?_
                  rw [hwe]
                  clear hwe hSd d0 d1 d2 d3 m0 m1 m2 m3 m4 m5
                  iterate 22 (refine' planF_val rfl rfl (fun w' hS => ?_) ?_; rotate_left; (focus (first | rfl | (obtain ⟨hS1, hS2, hS3, hS4, hS5, hS6, hS7⟩ := hS; go_simp; rfl) | (obtain ⟨hS1, hS2, hS3, hS4, hS5, hS6, hS7⟩ := hS; go_simp; done))); simp only [Act.put, List.setIfInBounds_toArray, List.set_cons_zero, List.set_cons_succ])
                  refine planF_do rfl (fun K hK => ?_)
                  go_wp2_with (go_at_call 25; refine (ID0.out _).mono ?_; rintro e wa0 ⟨rfl, dr, hdr⟩; have HU0 : Hid (Below wr.heap.size wr wa0) := Lib.hid (by rw [hdr]; exact below_drewN HUE.out dr); clear hdr)
                  refine hK _ _ (.inr (HSX.out _ HU0.out)) ?_
                  clear hK K
                  refine planF_do rfl (fun K hK => ?_)
                  go_wp2_with (go_at_call 25; refine (ID1.out _).mono ?_; rintro e wa1 ⟨rfl, dr, hdr⟩; have HU1 : Hid (Below wr.heap.size wr wa1) := Lib.hid (by rw [hdr]; exact below_drewN HU0.out dr); clear hdr)
                  refine hK _ _ (.inr (HSX.out _ HU1.out)) ?_
                  clear hK K
                  refine planF_do rfl (fun K hK => ?_)
                  go_wp2_with (go_at_call 25; refine (ID2.out _).mono ?_; rintro e wa2 ⟨rfl, dr, hdr⟩; have HU2 : Hid (Below wr.heap.size wr wa2) := Lib.hid (by rw [hdr]; exact below_drewN HU1.out dr); clear hdr)
                  refine hK _ _ (.inr (HSX.out _ HU2.out)) ?_
                  clear hK K
                  refine planF_do rfl (fun K hK => ?_)
                  go_wp2_with (go_at_call 50; refine (ID3.out _).mono ?_; rintro e wa3 ⟨rfl, dr, hdr⟩; have HU3 : Hid (Below wr.heap.size wr wa3) := Lib.hid (by rw [hdr]; exact below_drewN HU2.out dr); clear hdr)
                  refine hK _ _ (.inr (HSX.out _ HU3.out)) ?_
                  clear hK K
                  refine planF_do rfl (fun K hK => ?_)
                  go_wp2_with (go_at_call 25; refine (ID4.out _).mono ?_; rintro e wa4 ⟨rfl, dr, hdr⟩; have HU4 : Hid (Below wr.heap.size wr wa4) := Lib.hid (by rw [hdr]; exact below_drewN HU3.out dr); clear hdr)
                  refine hK _ _ (.inr (HSX.out _ HU4.out)) ?_
                  clear hK K
                  refine planF_do rfl (fun K hK => ?_)
                  go_wp2_with (go_at_call 25; refine (ID5.out _).mono ?_; rintro e wa5 ⟨rfl, dr, hdr⟩; have HU5 : Hid (Below wr.heap.size wr wa5) := Lib.hid (by rw [hdr]; exact below_drewN HU4.out dr); clear hdr)
                  refine hK _ _ (.inr (HSX.out _ HU5.out)) ?_
                  clear hK K
                  have HZL := Lib.hid HU5.out.size
                  refine planF_do rfl (fun K hK => ?_)
                  refine wpList_strs rfl 6 _ rfl [s0, s1, s2, s3, s4, s5] #[.string s0, .string s1, .string s2, .string s3, .string s4, .string s5] rfl rfl (by decide) (by decide) (by rw [Array.toList_map]; rfl) ?_
                  go_wp2_with fail
                  obtain ⟨DA, hDA⟩ : ∃ D, wa5.heap.size = D := ⟨_, rfl⟩
                  obtain ⟨wb, hwb⟩ : ∃ u, wa5.alloc (.cells #[.string s0, .string s1, .string s2, .string s3, .string s4, .string s5] 9) = u := ⟨_, rfl⟩
                  have HUB : Hid (Below wr.heap.size wr wb) := Lib.hid (by rw [← hwb]; exact HU5.out.alloc HZL.out _)
                  have HCB : Hid (CompsAt (fun b => b = DA) wb (.slice (some ⟨DA, 0, none⟩) 6 6) [sgnT (p.m.c.car : Int), sgnT (p.m.c.fl : Int), sgnT (p.m.c.we : Int), sgnT p.m.c.va, sgnT (p.m.c.st : Int), sgnT (p.m.c.no : Int)]) := Lib.hid (comps_lit (by rw [← hwb, ← hDA]; exact heap_alloc_new _ _) (by rw [← HS0.out, ← HS1.out, ← HS2.out, ← HS3.out, ← HS4.out, ← HS5.out]; rfl) rfl (by decide))
                  have HZB : Hid (wb.heap.size = DA + 1) := Lib.hid (by rw [← hwb, ← hDA]; simp)
                  have HDA : Hid (wr.heap.size ≤ DA) := Lib.hid (by rw [← hDA]; exact HZL.out)
                  rw [hwb, hDA]
                  clear hwb hDA
                  refine hK _ _ (.inr (HSX.out _ HUB.out)) ?_
                  clear hK K
                  refine planF_do rfl (fun K hK => ?_)
                  go_wp2_with (go_at_call 49; refine (r10segment_any ⟨#[67, 80, 78]⟩ [sgnT (p.m.c.car : Int), sgnT (p.m.c.fl : Int), sgnT (p.m.c.we : Int), sgnT p.m.c.va, sgnT (p.m.c.st : Int), sgnT (p.m.c.no : Int)] _ _ HCB.out (fun b hb => by rw [HZB.out, hb]; omega) (by simp)).mono ?_; rintro e wc ⟨ev, rfl, hev, hb⟩; have HEV := Lib.hid hev; have HUC : Hid (Below wr.heap.size wr wc) := Lib.hid (HUB.out.trans (hb.mono HUB.out.size)); clear hev hb)
                  refine hK _ _ (.inr (HSX.out _ HUC.out)) ?_
                  clear hK K
                  refine planF_do rfl (fun K hK => ?_)
                  go_wp2_with fail
                  obtain ⟨DS, hDS⟩ : ∃ D, wc.heap.size = D := ⟨_, rfl⟩
                  obtain ⟨wT, hwT⟩ : ∃ u, wc.alloc (.cells #[.string ⟨#[67, 80, 78]⟩, ev] 94) = u := ⟨_, rfl⟩
                  have HUT : Hid (Below wr.heap.size wr wT) := Lib.hid (by rw [← hwT]; exact HUC.out.alloc HUC.out.size _)
                  have HZT : Hid (wT.heap.size = DS + 1) := Lib.hid (by rw [← hwT, ← hDS]; simp)
                  have HDS : Hid (wr.heap.size ≤ DS) := Lib.hid (by rw [← hDS]; exact HUC.out.size)
                  have HSM : Hid (SegsAt (fun b => (wr.heap.size ≤ b ∧ b < DS) ∨ b = DS) wT (.slice (some ⟨DS, 0, none⟩) 1 1) [partSeg tCPN [(p.m.c.car : Int), (p.m.c.fl : Int), (p.m.c.we : Int), p.m.c.va, (p.m.c.st : Int), (p.m.c.no : Int)]]) := Lib.hid (by
                    have h1 := segs_one (t := tCPN) (st := ⟨#[67, 80, 78]⟩) (es := ones [sgnT (p.m.c.car : Int), sgnT (p.m.c.fl : Int), sgnT (p.m.c.we : Int), sgnT p.m.c.va, sgnT (p.m.c.st : Int), sgnT (p.m.c.no : Int)]) rfl (HEV.out.cong (T := fun b => wr.heap.size ≤ b ∧ b < DS) (fun b hb' => ⟨by have := hb'.1; have := HUB.out.size; omega, by rw [← hDS]; exact hb'.2⟩) (fun _ _ => rfl)) (fun b hb' => by rw [hDS]; exact hb'.2)
                    rw [hwT, hDS] at h1
                    exact h1)
                  rw [hwT, hDS]
                  clear hwT hDS
                  refine hK _ _ (.inr (HSX.out _ HUT.out)) ?_
                  clear hK K
                  refine planF_do rfl (fun K hK => ?_)
                  have HSG3 : Hid (OGT (fun b => L0 ≤ b) L0 wT (.slice va n vc) xs LS) := Lib.hid (HI.out.segs.below HUT.out)
                  refine wp_app_ogw _ _ rfl rfl rfl rfl HSG3.out HSM.out (fun b hb' => ⟨⟨by have := HDS.out; have := HLR.out; show L0 ≤ b; rcases hb' with h | h <;> omega, by rw [HZT.out]; rcases hb' with h | h <;> omega⟩, fun e => by have h1 := (own_lt HI.out.segs.row e).2; have := HDS.out; rcases hb' with h | h <;> omega⟩) (by rw [HLN.out]; show n + 1 ≤ 1048576; have := HN10.out; omega) (by have := HZT.out; have := HDS.out; have := HLR.out; omega) ?_
                  intro v' w' xs' ho _ hgr _
                  have HPU := Lib.hid (HI.out.push HB2L.out HW0.out HUT.out hgr ho)
                  have hbx := HI.out.box HB2L.out HW0.out HUT.out hgr
                  obtain ⟨va', vc', rfl⟩ := own_slice ho.row
                  have hl3 : (LS ++ [partSeg tCPN [(p.m.c.car : Int), (p.m.c.fl : Int), (p.m.c.we : Int), p.m.c.va, (p.m.c.st : Int), (p.m.c.no : Int)]]).length = n + 1 := by rw [List.length_append, HLN.out]; rfl
                  rw [hl3] at HPU ⊢
                  have hmx := HI.out.old HUT.out hgr HCR.out (by decide)
                  have m0 : w'.cell? ⟨B4, 0, none⟩ = some (.int .u8 (p.m.c.car : Int)) := cell_of_row w' B4 0 _ _ _ hmx
                  have m1 : w'.cell? ⟨B4, 1, none⟩ = some (.int .u16 (p.m.c.fl : Int)) := cell_of_row w' B4 1 _ _ _ hmx
                  have m2 : w'.cell? ⟨B4, 2, none⟩ = some (.int .u32 (p.m.c.we : Int)) := cell_of_row w' B4 2 _ _ _ hmx
                  have m3 : w'.cell? ⟨B4, 3, none⟩ = some (.int .i64 p.m.c.va) := cell_of_row w' B4 3 _ _ _ hmx
                  have m4 : w'.cell? ⟨B4, 4, none⟩ = some (.int .u8 (p.m.c.st : Int)) := cell_of_row w' B4 4 _ _ _ hmx
                  have m5 : w'.cell? ⟨B4, 5, none⟩ = some (.int .u32 (p.m.c.no : Int)) := cell_of_row w' B4 5 _ _ _ hmx
                  obtain ⟨⟨d0, d1, d2, d3⟩, g0, g1, g2, g3⟩ := cells4 hbx
                  clear ho hgr hl3 hbx hmx
                  go_wp2_with fail
                  refine hK _ _ (.inr ⟨d3, m0, m1, m2, m3, m4, m5⟩) ?_
                  clear hK K m0 m1 m2 m3 m4 m5
                  (refine' planF_val rfl rfl (fun w' hS => ?_) ?_; rotate_left; (focus (first | rfl | (obtain ⟨hS1, hS2, hS3, hS4, hS5, hS6, hS7⟩ := hS; go_simp; rfl) | (obtain ⟨hS1, hS2, hS3, hS4, hS5, hS6, hS7⟩ := hS; go_simp; done))); simp only [Act.put, List.setIfInBounds_toArray, List.set_cons_zero, List.set_cons_succ])
                  refine planF_do rfl (fun K hK => ?_)
                  go_wp2_with fail
                  refine hK _ _ (.inl trivial) ?_
                  clear hK K d0 d1 d2 d3 g0 g1 g2 g3
                  refine planF_nil ?_
                  go_wp2_with fail
                  go_meet
                  case rel => exact ⟨va', vc', n + 1, xs', by have := HN10.out; omega, Lib.hid (by rw [List.length_append, HLN.out]; rfl), HPU⟩
              case rest => as_aux_lemma =>
                obtain ⟨va, vc, n, xs, hn10, HLN, HI⟩ := hcut
                obtain ⟨wr, hwr⟩ : ∃ u, u = wc := ⟨_, rfl⟩
                rw [← hwr] at HI ⊢
                clear hwr
                have HN10 := Lib.hid hn10
                clear hn10
                have HLR : Hid (L0 ≤ wr.heap.size) := Lib.hid (by have h1 := HI.out.fr.size; rw [HW0.out] at h1; exact h1)
                have HMR : Hid (wr.heap[B3]? = some (.cells #[.int .u8 (p.m.kind : Int), .int .u8 (p.m.tc : Int), .int .u64 (p.m.ts : Int), .int .u8 (p.m.pl : Int), .int .u8 (p.m.c.car : Int), .int .u16 (p.m.c.fl : Int), .int .u32 (p.m.c.we : Int), .int .i64 p.m.c.va, .int .u8 (p.m.c.st : Int), .int .u32 (p.m.c.no : Int), .int .i64 p.m.am, .int .i64 p.m.co] 36 (0, 0))) := Lib.hid ((HI.out.fr.block B3 (by rw [HW0.out]; exact HB3L.out) (by simpa using HB23.out.symm)).trans HM0.out)
                obtain ⟨LS, hLS⟩ : ∃ l, LS ++ (if a then [partSeg tCPN [(p.m.c.car : Int), p.m.c.fl, p.m.c.we, p.m.c.va, p.m.c.st, p.m.c.no]] else []) = l := ⟨_, rfl⟩
                rw [hLS] at HLN HI
                have HLSQ2 := Lib.hid hLS
                clear hLS
                go_upto_if 119 with fail
                go_cut [] (fun wr => ∃ va vc n xs, n ≤ 4 ∧ Hid ((LS ++ (if b then [partSeg tAMT [p.m.am]] else [])).length = n) ∧ Hid (RInv p L0 B2 w0 (LS ++ (if b then [partSeg tAMT [p.m.am]] else [])) (.slice va n vc) xs wr))
                case first => as_aux_lemma =>
                  cases b with
                  | false =>
                    go_wp2_with fail
                    go_meet
                    case rel => exact ⟨va, vc, n, xs, by have := HN10.out; omega, Lib.hid (by simp only [Bool.false_eq_true, if_false, List.append_nil]; exact HLN.out), Lib.hid (by simp only [Bool.false_eq_true, if_false, List.append_nil]; exact HI.out)⟩
                  | true =>
                    obtain ⟨⟨d0, d1, d2, d3⟩, _⟩ := cells4 HI.out.row
                    have m0 : wr.cell? ⟨B3, 10, none⟩ = some (.int .i64 p.m.am) := cell_of_row wr B3 10 _ _ _ HMR.out
                    obtain ⟨s0, hs0⟩ : ∃ s : ByteArray, (⟨(sgnT p.m.am).toArray⟩ : ByteArray) = s := ⟨_, rfl⟩
                    have ID0 := Lib.hid (fun w => sgd_call (v := p.m.am) (by have := (HMB.out.2.1 rfl).1; omega) (by have := (HMB.out.2.1 rfl).2; omega) hs0 w)
                    have HS0 := Lib.hid hs0
                    clear hs0
                    go_upto_region 23 with fail
                    obtain ⟨we, hwe⟩ : ∃ we, wr.drew = we := ⟨_, rfl⟩
                    have HUE : Hid (Below wr.heap.size wr we) := Lib.hid (by rw [← hwe]; exact (Below.refl _ _).drew)
                    have HSX : Hid (∀ u, Below wr.heap.size wr u → (u.cell? ⟨B2, 3, none⟩ = some (.slice va n vc) ∧ u.cell? ⟨B3, 10, none⟩ = some (.int .i64 p.m.am))) := Lib.hid (fun u hb => ⟨(hb.cell (p := ⟨B2, 3, none⟩) (cell_lt' d3)).trans d3, (hb.cell (p := ⟨B3, 10, none⟩) (cell_lt' m0)).trans m0⟩)
                    have hSd := HSX.out we HUE.out
                    refine wp_region_planF 10 [(0, false), (1, false), (2, false), (3, false), (4, true), (5, true), (6, true), (7, true), (8, true), (9, false), (10, true)] (fun u => u.cell? ⟨B2, 3, none⟩ = some (.slice va n vc) ∧ u.cell? ⟨B3, 10, none⟩ = some (.int .i64 p.m.am)) (by kernel_rfl) (by kernel_rfl) (by rw [hwe]; exact hSd) ?_
                    rw [hwe]
                    clear hwe hSd d0 d1 d2 d3 m0
                    iterate 4 (refine' planF_val rfl rfl (fun w' hS => ?_) ?_; rotate_left; (focus (first | rfl | (obtain ⟨hS1, hS2⟩ := hS; go_simp; rfl) | (obtain ⟨hS1, hS2⟩ := hS; go_simp; done))); simp only [Act.put, List.setIfInBounds_toArray, List.set_cons_zero, List.set_cons_succ])
                    refine planF_do rfl (fun K hK => ?_)
                    go_wp2_with (go_at_call 50; refine (ID0.out _).mono ?_; rintro e wa0 ⟨rfl, dr, hdr⟩; have HU0 : Hid (Below wr.heap.size wr wa0) := Lib.hid (by rw [hdr]; exact below_drewN HUE.out dr); clear hdr)
                    refine hK _ _ (.inr (HSX.out _ HU0.out)) ?_
                    clear hK K
                    have HZL := Lib.hid HU0.out.size
                    refine planF_do rfl (fun K hK => ?_)
                    go_wp2_with fail
                    obtain ⟨DA, hDA⟩ : ∃ D, wa0.heap.size = D := ⟨_, rfl⟩
                    obtain ⟨wb, hwb⟩ : ∃ u, wa0.alloc (.cells #[.string s0] 9) = u := ⟨_, rfl⟩
                    have HUB : Hid (Below wr.heap.size wr wb) := Lib.hid (by rw [← hwb]; exact HU0.out.alloc HZL.out _)
                    have HCB : Hid (CompsAt (fun b => b = DA) wb (.slice (some ⟨DA, 0, none⟩) 1 1) [sgnT p.m.am]) := Lib.hid (comps_lit (by rw [← hwb, ← hDA]; exact heap_alloc_new _ _) (by rw [← HS0.out]; rfl) rfl (by decide))
                    have HZB : Hid (wb.heap.size = DA + 1) := Lib.hid (by rw [← hwb, ← hDA]; simp)
                    have HDA : Hid (wr.heap.size ≤ DA) := Lib.hid (by rw [← hDA]; exact HZL.out)
                    rw [hwb, hDA]
                    clear hwb hDA
                    refine hK _ _ (.inr (HSX.out _ HUB.out)) ?_
                    clear hK K
                    refine planF_do rfl (fun K hK => ?_)
                    go_wp2_with (go_at_call 49; refine (r10segment_any ⟨#[65, 77, 84]⟩ [sgnT p.m.am] _ _ HCB.out (fun b hb => by rw [HZB.out, hb]; omega) (by simp)).mono ?_; rintro e wc ⟨ev, rfl, hev, hb⟩; have HEV := Lib.hid hev; have HUC : Hid (Below wr.heap.size wr wc) := Lib.hid (HUB.out.trans (hb.mono HUB.out.size)); clear hev hb)
                    refine hK _ _ (.inr (HSX.out _ HUC.out)) ?_
                    clear hK K
                    refine planF_do rfl (fun K hK => ?_)
                    go_wp2_with fail
                    obtain ⟨DS, hDS⟩ : ∃ D, wc.heap.size = D := ⟨_, rfl⟩
                    obtain ⟨wT, hwT⟩ : ∃ u, wc.alloc (.cells #[.string ⟨#[65, 77, 84]⟩, ev] 94) = u := ⟨_, rfl⟩
                    have HUT : Hid (Below wr.heap.size wr wT) := Lib.hid (by rw [← hwT]; exact HUC.out.alloc HUC.out.size _)
                    have HZT : Hid (wT.heap.size = DS + 1) := Lib.hid (by rw [← hwT, ← hDS]; simp)
                    have HDS : Hid (wr.heap.size ≤ DS) := Lib.hid (by rw [← hDS]; exact HUC.out.size)
                    have HSM : Hid (SegsAt (fun b => (wr.heap.size ≤ b ∧ b < DS) ∨ b = DS) wT (.slice (some ⟨DS, 0, none⟩) 1 1) [partSeg tAMT [p.m.am]]) := Lib.hid (by
                      have h1 := segs_one (t := tAMT) (st := ⟨#[65, 77, 84]⟩) (es := ones [sgnT p.m.am]) rfl (HEV.out.cong (T := fun b => wr.heap.size ≤ b ∧ b < DS) (fun b hb' => ⟨by have := hb'.1; have := HUB.out.size; omega, by rw [← hDS]; exact hb'.2⟩) (fun _ _ => rfl)) (fun b hb' => by rw [hDS]; exact hb'.2)
                      rw [hwT, hDS] at h1
                      exact h1)
                    rw [hwT, hDS]
                    clear hwT hDS
                    refine hK _ _ (.inr (HSX.out _ HUT.out)) ?_
                    clear hK K
                    refine planF_do rfl (fun K hK => ?_)
                    have HSG3 : Hid (OGT (fun b => L0 ≤ b) L0 wT (.slice va n vc) xs LS) := Lib.hid (HI.out.segs.below HUT.out)
                    refine wp_app_ogw _ _ rfl rfl rfl rfl HSG3.out HSM.out (fun b hb' => ⟨⟨by have := HDS.out; have := HLR.out; show L0 ≤ b; rcases hb' with h | h <;> omega, by rw [HZT.out]; rcases hb' with h | h <;> omega⟩, fun e => by have h1 := (own_lt HI.out.segs.row e).2; have := HDS.out; rcases hb' with h | h <;> omega⟩) (by rw [HLN.out]; show n + 1 ≤ 1048576; have := HN10.out; omega) (by have := HZT.out; have := HDS.out; have := HLR.out; omega) ?_
                    intro v' w' xs' ho _ hgr _
                    have HPU := Lib.hid (HI.out.push HB2L.out HW0.out HUT.out hgr ho)
                    have hbx := HI.out.box HB2L.out HW0.out HUT.out hgr
                    obtain ⟨va', vc', rfl⟩ := own_slice ho.row
                    have hl3 : (LS ++ [partSeg tAMT [p.m.am]]).length = n + 1 := by rw [List.length_append, HLN.out]; rfl
                    rw [hl3] at HPU ⊢
                    have hmx := HI.out.old HUT.out hgr HMR.out (by decide)
                    have m0 : w'.cell? ⟨B3, 10, none⟩ = some (.int .i64 p.m.am) := cell_of_row w' B3 10 _ _ _ hmx
                    obtain ⟨⟨d0, d1, d2, d3⟩, g0, g1, g2, g3⟩ := cells4 hbx
                    clear ho hgr hl3 hbx hmx
                    go_wp2_with fail
                    refine hK _ _ (.inr ⟨d3, m0⟩) ?_
                    clear hK K m0
                    (refine' planF_val rfl rfl (fun w' hS => ?_) ?_; rotate_left; (focus (first | rfl | (obtain ⟨hS1, hS2⟩ := hS; go_simp; rfl) | (obtain ⟨hS1, hS2⟩ := hS; go_simp; done))); simp only [Act.put, List.setIfInBounds_toArray, List.set_cons_zero, List.set_cons_succ])
                    refine planF_do rfl (fun K hK => ?_)
                    go_wp2_with fail
                    refine hK _ _ (.inl trivial) ?_
                    clear hK K d0 d1 d2 d3 g0 g1 g2 g3
                    refine planF_nil ?_
                    go_wp2_with fail
                    go_meet
                    case rel => exact ⟨va', vc', n + 1, xs', by have := HN10.out; omega, Lib.hid (by rw [List.length_append, HLN.out]; rfl), HPU⟩
                case rest => as_aux_lemma =>
                  obtain ⟨va, vc, n, xs, hn10, HLN, HI⟩ := hcut
                  obtain ⟨wr, hwr⟩ : ∃ u, u = wc := ⟨_, rfl⟩
                  rw [← hwr] at HI ⊢
                  clear hwr
                  have HN10 := Lib.hid hn10
                  clear hn10
                  have HLR : Hid (L0 ≤ wr.heap.size) := Lib.hid (by have h1 := HI.out.fr.size; rw [HW0.out] at h1; exact h1)
                  have HMR : Hid (wr.heap[B3]? = some (.cells #[.int .u8 (p.m.kind : Int), .int .u8 (p.m.tc : Int), .int .u64 (p.m.ts : Int), .int .u8 (p.m.pl : Int), .int .u8 (p.m.c.car : Int), .int .u16 (p.m.c.fl : Int), .int .u32 (p.m.c.we : Int), .int .i64 p.m.c.va, .int .u8 (p.m.c.st : Int), .int .u32 (p.m.c.no : Int), .int .i64 p.m.am, .int .i64 p.m.co] 36 (0, 0))) := Lib.hid ((HI.out.fr.block B3 (by rw [HW0.out]; exact HB3L.out) (by simpa using HB23.out.symm)).trans HM0.out)
                  obtain ⟨LS, hLS⟩ : ∃ l, LS ++ (if b then [partSeg tAMT [p.m.am]] else []) = l := ⟨_, rfl⟩
                  rw [hLS] at HLN HI
                  have HLSQ3 := Lib.hid hLS
                  clear hLS
                  go_upto_if 130 with fail
                  go_cut [] (fun wr => ∃ va vc n xs, n ≤ 5 ∧ Hid ((LS ++ (if c then [partSeg tCOD [p.m.co]] else [])).length = n) ∧ Hid (RInv p L0 B2 w0 (LS ++ (if c then [partSeg tCOD [p.m.co]] else [])) (.slice va n vc) xs wr))
                  case first => as_aux_lemma =>
                    cases c with
                    | false =>
                      go_wp2_with fail
                      go_meet
                      case rel => exact ⟨va, vc, n, xs, by have := HN10.out; omega, Lib.hid (by simp only [Bool.false_eq_true, if_false, List.append_nil]; exact HLN.out), Lib.hid (by simp only [Bool.false_eq_true, if_false, List.append_nil]; exact HI.out)⟩
                    | true =>
                      obtain ⟨⟨d0, d1, d2, d3⟩, _⟩ := cells4 HI.out.row
                      have m0 : wr.cell? ⟨B3, 11, none⟩ = some (.int .i64 p.m.co) := cell_of_row wr B3 11 _ _ _ HMR.out
                      have gk0 : IntKind.u64.wrap p.m.co = p.m.co := IntWalk.u64_in _ (by have := HMB.out.2.2 rfl; omega)
                      obtain ⟨s0, hs0⟩ : ∃ s : ByteArray, (⟨(sgnT p.m.co).toArray⟩ : ByteArray) = s := ⟨_, rfl⟩
                      have ID0 := Lib.hid (fun w => co_call (HMB.out.2.2 rfl).1 (HMB.out.2.2 rfl).2 hs0 w)
                      have HS0 := Lib.hid hs0
                      clear hs0
                      go_upto_region 25 with fail
                      obtain ⟨we, hwe⟩ : ∃ we, wr.drew = we := ⟨_, rfl⟩
                      have HUE : Hid (Below wr.heap.size wr we) := Lib.hid (by rw [← hwe]; exact (Below.refl _ _).drew)
                      have HSX : Hid (∀ u, Below wr.heap.size wr u → (u.cell? ⟨B2, 3, none⟩ = some (.slice va n vc) ∧ u.cell? ⟨B3, 11, none⟩ = some (.int .i64 p.m.co))) := Lib.hid (fun u hb => ⟨(hb.cell (p := ⟨B2, 3, none⟩) (cell_lt' d3)).trans d3, (hb.cell (p := ⟨B3, 11, none⟩) (cell_lt' m0)).trans m0⟩)
                      have hSd := HSX.out we HUE.out
                      refine wp_region_planF 11 [(0, false), (1, false), (2, false), (3, false), (4, false), (5, true), (6, true), (7, true), (8, true), (9, true), (10, false), (11, true)] (fun u => u.cell? ⟨B2, 3, none⟩ = some (.slice va n vc) ∧ u.cell? ⟨B3, 11, none⟩ = some (.int .i64 p.m.co)) (by kernel_rfl) (by kernel_rfl) (by rw [hwe]; exact hSd) ?_
                      rw [hwe]
                      clear hwe hSd d0 d1 d2 d3 m0
                      iterate 5 (refine' planF_val rfl rfl (fun w' hS => ?_) ?_; rotate_left; (focus (first | rfl | (obtain ⟨hS1, hS2⟩ := hS; go_simp; rfl) | (obtain ⟨hS1, hS2⟩ := hS; go_simp; done))); simp only [Act.put, List.setIfInBounds_toArray, List.set_cons_zero, List.set_cons_succ])
                      refine planF_do rfl (fun K hK => ?_)
                      go_wp2_with (go_at_call 25; refine (ID0.out _).mono ?_; rintro e wa0 ⟨rfl, dr, hdr⟩; have HU0 : Hid (Below wr.heap.size wr wa0) := Lib.hid (by rw [hdr]; exact below_drewN HUE.out dr); clear hdr)
                      refine hK _ _ (.inr (HSX.out _ HU0.out)) ?_
                      clear hK K
                      have HZL := Lib.hid HU0.out.size
                      refine planF_do rfl (fun K hK => ?_)
                      go_wp2_with fail
                      obtain ⟨DA, hDA⟩ : ∃ D, wa0.heap.size = D := ⟨_, rfl⟩
                      obtain ⟨wb, hwb⟩ : ∃ u, wa0.alloc (.cells #[.string s0] 9) = u := ⟨_, rfl⟩
                      have HUB : Hid (Below wr.heap.size wr wb) := Lib.hid (by rw [← hwb]; exact HU0.out.alloc HZL.out _)
                      have HCB : Hid (CompsAt (fun b => b = DA) wb (.slice (some ⟨DA, 0, none⟩) 1 1) [sgnT p.m.co]) := Lib.hid (comps_lit (by rw [← hwb, ← hDA]; exact heap_alloc_new _ _) (by rw [← HS0.out]; rfl) rfl (by decide))
                      have HZB : Hid (wb.heap.size = DA + 1) := Lib.hid (by rw [← hwb, ← hDA]; simp)
                      have HDA : Hid (wr.heap.size ≤ DA) := Lib.hid (by rw [← hDA]; exact HZL.out)
                      rw [hwb, hDA]
                      clear hwb hDA
                      refine hK _ _ (.inr (HSX.out _ HUB.out)) ?_
                      clear hK K
                      refine planF_do rfl (fun K hK => ?_)
                      go_wp2_with (go_at_call 49; refine (r10segment_any ⟨#[67, 79, 68]⟩ [sgnT p.m.co] _ _ HCB.out (fun b hb => by rw [HZB.out, hb]; omega) (by simp)).mono ?_; rintro e wc ⟨ev, rfl, hev, hb⟩; have HEV := Lib.hid hev; have HUC : Hid (Below wr.heap.size wr wc) := Lib.hid (HUB.out.trans (hb.mono HUB.out.size)); clear hev hb)
                      refine hK _ _ (.inr (HSX.out _ HUC.out)) ?_
                      clear hK K
                      refine planF_do rfl (fun K hK => ?_)
                      go_wp2_with fail
                      obtain ⟨DS, hDS⟩ : ∃ D, wc.heap.size = D := ⟨_, rfl⟩
                      obtain ⟨wT, hwT⟩ : ∃ u, wc.alloc (.cells #[.string ⟨#[67, 79, 68]⟩, ev] 94) = u := ⟨_, rfl⟩
                      have HUT : Hid (Below wr.heap.size wr wT) := Lib.hid (by rw [← hwT]; exact HUC.out.alloc HUC.out.size _)
                      have HZT : Hid (wT.heap.size = DS + 1) := Lib.hid (by rw [← hwT, ← hDS]; simp)
                      have HDS : Hid (wr.heap.size ≤ DS) := Lib.hid (by rw [← hDS]; exact HUC.out.size)
                      have HSM : Hid (SegsAt (fun b => (wr.heap.size ≤ b ∧ b < DS) ∨ b = DS) wT (.slice (some ⟨DS, 0, none⟩) 1 1) [partSeg tCOD [p.m.co]]) := Lib.hid (by
                        have h1 := segs_one (t := tCOD) (st := ⟨#[67, 79, 68]⟩) (es := ones [sgnT p.m.co]) rfl (HEV.out.cong (T := fun b => wr.heap.size ≤ b ∧ b < DS) (fun b hb' => ⟨by have := hb'.1; have := HUB.out.size; omega, by rw [← hDS]; exact hb'.2⟩) (fun _ _ => rfl)) (fun b hb' => by rw [hDS]; exact hb'.2)
                        rw [hwT, hDS] at h1
                        exact h1)
                      rw [hwT, hDS]
                      clear hwT hDS
                      refine hK _ _ (.inr (HSX.out _ HUT.out)) ?_
                      clear hK K
                      refine planF_do rfl (fun K hK => ?_)
                      have HSG3 : Hid (OGT (fun b => L0 ≤ b) L0 wT (.slice va n vc) xs LS) := Lib.hid (HI.out.segs.below HUT.out)
                      refine wp_app_ogw _ _ rfl rfl rfl rfl HSG3.out HSM.out (fun b hb' => ⟨⟨by have := HDS.out; have := HLR.out; show L0 ≤ b; rcases hb' with h | h <;> omega, by rw [HZT.out]; rcases hb' with h | h <;> omega⟩, fun e => by have h1 := (own_lt HI.out.segs.row e).2; have := HDS.out; rcases hb' with h | h <;> omega⟩) (by rw [HLN.out]; show n + 1 ≤ 1048576; have := HN10.out; omega) (by have := HZT.out; have := HDS.out; have := HLR.out; omega) ?_
                      intro v' w' xs' ho _ hgr _
                      have HPU := Lib.hid (HI.out.push HB2L.out HW0.out HUT.out hgr ho)
                      have hbx := HI.out.box HB2L.out HW0.out HUT.out hgr
                      obtain ⟨va', vc', rfl⟩ := own_slice ho.row
                      have hl3 : (LS ++ [partSeg tCOD [p.m.co]]).length = n + 1 := by rw [List.length_append, HLN.out]; rfl
                      rw [hl3] at HPU ⊢
                      have hmx := HI.out.old HUT.out hgr HMR.out (by decide)
                      have m0 : w'.cell? ⟨B3, 11, none⟩ = some (.int .i64 p.m.co) := cell_of_row w' B3 11 _ _ _ hmx
                      obtain ⟨⟨d0, d1, d2, d3⟩, g0, g1, g2, g3⟩ := cells4 hbx
                      clear ho hgr hl3 hbx hmx
                      go_wp2_with fail
                      refine hK _ _ (.inr ⟨d3, m0⟩) ?_
                      clear hK K m0
                      (refine' planF_val rfl rfl (fun w' hS => ?_) ?_; rotate_left; (focus (first | rfl | (obtain ⟨hS1, hS2⟩ := hS; go_simp; rfl) | (obtain ⟨hS1, hS2⟩ := hS; go_simp; done))); simp only [Act.put, List.setIfInBounds_toArray, List.set_cons_zero, List.set_cons_succ])
                      refine planF_do rfl (fun K hK => ?_)
                      go_wp2_with fail
                      refine hK _ _ (.inl trivial) ?_
                      clear hK K d0 d1 d2 d3 g0 g1 g2 g3
                      refine planF_nil ?_
                      go_wp2_with fail
                      go_meet
                      case rel => exact ⟨va', vc', n + 1, xs', by have := HN10.out; omega, Lib.hid (by rw [List.length_append, HLN.out]; rfl), HPU⟩
                  case rest => as_aux_lemma =>
                    obtain ⟨va, vc, n, xs, hn10, HLN, HI⟩ := hcut
                    obtain ⟨wr, hwr⟩ : ∃ u, u = wc := ⟨_, rfl⟩
                    rw [← hwr] at HI ⊢
                    clear hwr hn10
                    rw [← HLSQ3.out, ← HLSQ2.out, ← HLSQ1.out, ← segs_parts] at HLN HI
                    have HRR : Hid (wr.heap[B1]? = some (.cells #[.int .u8 0, .int .u8 0, .int .u64 0, .slice none 0 0] 41 (0, 0))) := Lib.hid ((HI.out.fr.block B1 (by rw [HW0.out]; have := HB12.out; have := HB2L.out; omega) (by simpa using (by have := HB12.out; omega : B1 ≠ B2))).trans HR0.out)
                    obtain ⟨⟨d0, d1, d2, d3⟩, _⟩ := cells4 HI.out.row
                    obtain ⟨⟨e0, e1, e2, e3⟩, g0, g1, g2, g3⟩ := cells4 HRR.out
                    have HBE : Hid (Below w.heap.size w wr) := Lib.hid (HBW0.out.trans (HI.out.fr.belowB (B := w.heap.size) (by rw [HW0.out]; have := HBB1.out; have := HB12.out; have := HB2L.out; omega) (fun b hb' => by have e := List.mem_singleton.1 hb'; have := HBB1.out; have := HB12.out; omega)))
                    go_wp2_with fail
                    refine bodyPost_ret (res_wrap rfl _ rfl rfl (put4_heap HRR.out _ _ _ _) rfl) rfl ?_
                    unfold WrapM0Q
                    rw [HE.out]
                    refine ⟨.slice va n vc, rfl, ?_, put4_below HBE.out HBB1.out _ _ _ _⟩
                    have e : (put4 wr B1 (.int .u8 (p.fr : Int)) (.int .u8 (p.dst : Int)) (.int .u64 (p.num : Int)) (.slice va n vc)).heap.size = wr.heap.size := by unfold put4; simp
                    refine SegsAt.cong (HI.out.segs.rest (S := fun b => L0 ≤ b ∧ b < wr.heap.size) (fun b h1 h2 => ⟨h1, h2⟩) (fun b hb' => ⟨(own_lt HI.out.segs.row hb').1, (own_lt HI.out.segs.row hb').2⟩)) (fun b hb' => ⟨by have := HBB1.out; have := HB12.out; have := HB2L.out; omega, by show b < (put4 wr B1 (.int .u8 (p.fr : Int)) (.int .u8 (p.dst : Int)) (.int .u64 (p.num : Int)) (.slice va n vc)).heap.size; omega⟩) (fun b hb' => put4_other _ _ _ _ _ _ (by have := HB12.out; have := HB2L.out; omega))
end Go.Proofs.YtgfijlamhjjecaaGreatDoor


namespace Go.Proofs.YtgfijlamhjjecaaGreatDoor
open Go.RowKit
theorem numsR_step : ∀ {gs : List Bool} {es : List (List Str)} {k : Nat} {g : Bool} {e : List Str} {ls : List Int} {v : Int}, numsR (gs.take k) (es.take k) = some ls → gs[k]? = some g → es[k]? = some e → (oneW e).bind (numR g) = some v → numsR (gs.take (k + 1)) (es.take (k + 1)) = some (ls ++ [v])
  | [], _, _, _, _, _, _, _, hg, _, _ => by simp at hg
  | _ :: _, [], _, _, _, _, _, _, _, he, _ => by simp at he
  | g0 :: gs, e0 :: es, 0, g, e, ls, v, h, hg, he, hv => by
    simp at hg he
    subst hg; subst he
    simp [numsR] at h
    subst h
    simp [numsR, hv]
  | g0 :: gs, e0 :: es, k + 1, g, e, ls, v, h, hg, he, hv => by
    simp only [List.take_succ_cons, numsR] at h
    simp only [List.getElem?_cons_succ] at hg he
    split at h
    · rename_i v' l' h1 h2
      cases h
      rw [List.take_succ_cons, List.take_succ_cons]
      simp only [numsR]
      rw [h1, numsR_step h2 hg he hv]
      rfl
    · cases h
theorem numsR_none : ∀ {gs : List Bool} {es : List (List Str)} {k : Nat} {g : Bool} {e : List Str}, gs[k]? = some g → es[k]? = some e → (oneW e).bind (numR g) = none → numsR gs es = none
  | [], _, _, _, _, hg, _, _ => by simp at hg
  | _ :: _, [], _, _, _, _, he, _ => by simp at he
  | g0 :: gs, e0 :: es, 0, g, e, hg, he, hv => by
    simp at hg he
    subst hg; subst he
    simp [numsR, hv]
  | g0 :: gs, e0 :: es, k + 1, g, e, hg, he, hv => by
    simp only [List.getElem?_cons_succ] at hg he
    simp only [numsR]
    rw [numsR_none hg he hv]
    cases (oneW e0).bind (numR g0) <;> rfl
theorem oneW_len {e : List Str} (h : e.length ≠ 1) : oneW e = none := by
  match e, h with
  | [], _ => rfl
  | [_], h => simp at h
  | _ :: _ :: _, _ => rfl
theorem einfo_i64 : (Tryz.prog.info? 2).map (fun i => (i.zero, i.size, i.bytes)) = some (some (.int .i64 0), 1, 8) := by kernel_rfl
def iv64 (v : Int) : Value := .int .i64 v
def I64s (w : World) (B : Nat) (v : Value) (ls : List Int) : Prop := w.ownsRow B 2 1 v ls.length (ls.map iv64)
def BoolsAt (w : World) (v : Value) (gs : List Bool) : Prop := ∃ b, v = .slice (some ⟨b, 0, none⟩) gs.length gs.length ∧ b < w.heap.size ∧ ∀ (i : Nat) (g : Bool), gs[i]? = some g → w.cell? ⟨b, i, none⟩ = some (.bool g)
def NumsTQ (o : Option Seg) (t : Str) (gs : List Bool) (w : World) (e : Ending) (w' : World) : Prop :=
  ((∃ ls v, segR t gs o = some ls ∧ e = .returned (.tuple #[v, .bool true]) ∧ I64s w' w.heap.size v ls) ∨ (segR t gs o = none ∧ e = .returned (.tuple #[.slice none 0 0, .bool false]))) ∧ Below w.heap.size w w'
theorem numsT_no {o : Option Seg} {t : Str} {gs : List Bool} {w w' : World} (h : segR t gs o = none) (hb : Below w.heap.size w w') : NumsTQ o t gs w (.returned (.tuple #[.slice none 0 0, .bool false])) w' := ⟨.inr ⟨h, rfl⟩, hb⟩
end Go.Proofs.YtgfijlamhjjecaaGreatDoor

