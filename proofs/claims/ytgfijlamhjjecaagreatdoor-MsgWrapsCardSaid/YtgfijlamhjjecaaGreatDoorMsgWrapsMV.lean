/-
  MsgWrapsV: the walk of MsgWraps for every input. No condition but the laid variables.
-/
import Derived.Test.YtgfijlamhjjecaaGreatDoorMw8
import Derived.Test.YtgfijlamhjjecaaGreatDoorMw14
import Derived.Test.YtgfijlamhjjecaaGreatDoorMw16
namespace Go.Proofs.YtgfijlamhjjecaaGreatDoor
open Go.RowKit
theorem rWrap_is {p : PD} (hp : okPD p) {w : World} {x : WD} {k : Int} (h : wrapM p = (x, k)) : Calls Tryz.prog 14 #[.agg (pktA p).toArray] w fun e w' => WMQ x k w e w' := by
  refine (rWrap_any p hp w).mono ?_
  rintro e w' ⟨v, h1, h2, h3⟩
  rw [h] at h1 h2
  exact ⟨v, h1, h2, h3⟩
set_option maxRecDepth 100000 in
set_option maxHeartbeats 8000000 in
theorem msgWraps_walk {W : World} (hv : VarsOk W) (p : PD) (hp : okPD p) : Calls Tryz.prog 3 #[.agg (pktA p).toArray] W fun e w' => e = .returned (.bool true) ∧ Below W.heap.size W w' := by
  obtain ⟨B, hB⟩ : ∃ B, W.heap.size = B := ⟨_, rfl⟩
  have HBQ := Lib.hid hB
  have HV := Lib.hid hv
  obtain ⟨w1, hw1⟩ : ∃ w1, W.alloc (.cells (pktA p).toArray 38) = w1 := ⟨_, rfl⟩
  have hz1 : w1.heap.size = B + 1 := by rw [← hw1]; simp [hB]
  have HB1 : Hid (Below B W w1) := Lib.hid (by rw [← hw1, ← hB]; exact (Below.refl _ _).alloc (Nat.le_refl _) _)
  have HC1 : Hid (w1.heap[B]? = some (.cells (pktA p).toArray 38 (0, 0))) := Lib.hid (by rw [← hw1, ← hB]; exact heap_alloc_new _ _)
  obtain ⟨X, hX⟩ : ∃ X, wrapM p = X := ⟨_, rfl⟩
  obtain ⟨x, k⟩ := X
  have HWR := Lib.hid (mWrap_is hp (hv.on HB1.out (by rw [hB]; exact Nat.le_refl _)) hX)
  have HRW := Lib.hid (fun w => rWrap_is hp (w := w) hX)
  have hkk := int_same k
  unfold pktA msgA at HC1 hw1 HWR HRW ⊢
  simp only [List.cons_append, List.nil_append] at HC1 hw1 HWR HRW ⊢
  have HW1 := Lib.hid hw1
  have HZ1 := Lib.hid hz1
  rw [hB]
  obtain ⟨d0, d1, d2, d3, d4, d5, d6, d7, d8, d9, d10, d11, d12, d13, d14, d15⟩ := (cells16 HC1.out).1
  clear hv hB hw1 hz1 hX hp
  go_enter Tryz.func3, Tryz.ntmps3
  go_upto_region 1 with fail
  rw [HW1.out, HBQ.out]
  go_upto_region 2 with (go_at_call 13; refine HWR.out.mono ?_; rintro e w2 ⟨v, rfl, hs, hb⟩; rw [HZ1.out] at hs hb; have HB2 := Lib.hid hb; have HS2 := Lib.hid hs; obtain ⟨vo, lc, rfl, _, _⟩ := hs.form; clear hb hs; unfold wv)
  clear d0 d1 d2 d3 d4 d5 d6 d7 d8 d9 d10 d11 d12 d13 d14 d15
  obtain ⟨n, hn⟩ : ∃ n, x.segs.length = n := ⟨_, rfl⟩
  rw [hn] at HS2 ⊢
  have HN := Lib.hid hn
  obtain ⟨D, hD⟩ : ∃ D, w2.heap.size = D := ⟨_, rfl⟩
  obtain ⟨w3, hw3⟩ : ∃ w3, w2.alloc (.cells #[.int .u8 (x.fr : Int), .int .u8 (x.dst : Int), .int .u64 (x.rf : Int), .slice vo n lc] 41) = w3 := ⟨_, rfl⟩
  have HX3 : Hid (w3.heap[D]? = some (.cells #[.int .u8 (x.fr : Int), .int .u8 (x.dst : Int), .int .u64 (x.rf : Int), .slice vo n lc] 41 (0, 0))) := Lib.hid (by rw [← hw3, ← hD]; exact heap_alloc_new _ _)
  have hz2 := HB2.out.size
  rw [HZ1.out, hD] at hz2
  have HU3 : Hid (Below (B + 1) w1 w3) := Lib.hid (by rw [← hw3]; exact HB2.out.alloc (by omega) _)
  have HS3 : Hid (SegsAt (fun b => b < D) w3 (.slice vo n lc) x.segs) := Lib.hid (HS2.out.cong (fun j hj => by omega) (fun j hj => by rw [← hw3]; exact Below.heap_alloc _ _ _ hj.2))
  have HZ3 : Hid (w3.heap.size = D + 1) := Lib.hid (by rw [← hw3, ← hD]; simp)
  have HBD : Hid (B < D) := Lib.hid (by omega)
  have HDQ := Lib.hid hD
  have HW3 := Lib.hid hw3
  clear hw3 hn hD hz2
  rw [HW3.out, HDQ.out]
  obtain ⟨d0, d1, d2, d3, d4, d5, d6, d7, d8, d9, d10, d11, d12, d13, d14, d15⟩ := (cells16 ((HU3.out.block B (Nat.lt_succ_self B)).trans HC1.out)).1
  go_upto_region 3 with (go_at_call 14; refine (HRW.out _).mono ?_; rintro e w4 ⟨v, rfl, hs, hb⟩; rw [HZ3.out] at hs hb; have HB4 := Lib.hid hb; have HS4 := Lib.hid hs; obtain ⟨vo', lc', rfl, _, _⟩ := hs.form; clear hb hs; unfold wv)
  clear d0 d1 d2 d3 d4 d5 d6 d7 d8 d9 d10 d11 d12 d13 d14 d15
  rw [HN.out] at HS4 ⊢
  obtain ⟨E, hE⟩ : ∃ E, w4.heap.size = E := ⟨_, rfl⟩
  obtain ⟨w5, hw5⟩ : ∃ w5, w4.alloc (.cells #[.int .u8 (x.fr : Int), .int .u8 (x.dst : Int), .int .u64 (x.rf : Int), .slice vo' n lc'] 41) = w5 := ⟨_, rfl⟩
  have HX5 : Hid (w5.heap[E]? = some (.cells #[.int .u8 (x.fr : Int), .int .u8 (x.dst : Int), .int .u64 (x.rf : Int), .slice vo' n lc'] 41 (0, 0))) := Lib.hid (by rw [← hw5, ← hE]; exact heap_alloc_new _ _)
  have hz4 := HB4.out.size
  rw [HZ3.out, hE] at hz4
  have HU5 : Hid (Below (D + 1) w3 w5) := Lib.hid (by rw [← hw5]; exact HB4.out.alloc (by omega) _)
  have HS5 : Hid (SegsAt (fun b => b < E) w5 (.slice vo' n lc') x.segs) := Lib.hid (HS4.out.cong (fun j hj => by omega) (fun j hj => by rw [← hw5]; exact Below.heap_alloc _ _ _ hj.2))
  have HZ5 : Hid (w5.heap.size = E + 1) := Lib.hid (by rw [← hw5, ← hE]; simp)
  have HX5D : Hid (w5.heap[D]? = some (.cells #[.int .u8 (x.fr : Int), .int .u8 (x.dst : Int), .int .u64 (x.rf : Int), .slice vo n lc] 41 (0, 0))) := Lib.hid ((HU5.out.block D (Nat.lt_succ_self D)).trans HX3.out)
  have HS5D : Hid (SegsAt (fun b => b < D) w5 (.slice vo n lc) x.segs) := Lib.hid (HS3.out.cong (fun _ h => h) (fun b hb => HU5.out.block b (by omega)))
  have HBW : Hid (Below B W w5) := Lib.hid (HB1.out.trans ((HU3.out.trans (HU5.out.mono (by have := HBD.out; omega))).mono (Nat.le_succ B)))
  have HSM := Lib.hid (wsame_any x x (.slice vo n lc) (.slice vo' n lc') w5 HS5D.out HS5.out (fun b hb => by rw [HZ5.out]; omega) (fun b hb => by rw [HZ5.out]; omega))
  rw [wsameB_self] at HSM
  unfold WSameQ wv at HSM
  have HZB : Hid (B ≤ w5.heap.size) := Lib.hid (by rw [HZ5.out]; have := HBD.out; omega)
  have HEQ := Lib.hid hE
  have HW5 := Lib.hid hw5
  clear hw5 hE hz4
  rw [HW5.out, HEQ.out]
  obtain ⟨⟨x0, x1, x2, x3⟩, _⟩ := cells4 HX5D.out
  obtain ⟨⟨y0, y1, y2, y3⟩, _⟩ := cells4 HX5.out
  go_wp2_with (first | (go_at_call 15; refine HSM.out.mono ?_; rintro e w7 ⟨rfl, hb⟩; have HB7 := Lib.hid (HBW.out.trans (hb.mono HZB.out)); have HZ7 := Lib.hid (Nat.le_trans HZB.out hb.size); clear hb) | (go_at_call 16; refine (tells_any _ (HV.out.on HB7.out (by rw [HBQ.out]; exact Nat.le_refl _))).mono ?_; rintro e w8 ⟨rfl, hb⟩; have HB8 := Lib.hid (HB7.out.trans (hb.mono HZ7.out)); clear hb))
  go_ret
  exact ⟨rfl, HB8.out⟩
end Go.Proofs.YtgfijlamhjjecaaGreatDoor
