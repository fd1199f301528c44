/-
  SealNilV: the walk of SealNil for every input. No condition but the laid variables.
-/
import Derived.Test.YtgfijlamhjjecaaGreatDoorSn16
import Derived.Test.YtgfijlamhjjecaaGreatDoorSn17
namespace Go.Proofs.YtgfijlamhjjecaaGreatDoor
open Go.RowKit
theorem pd0L : pktA pd0 = [.int .u8 0, .int .u8 0, .bool false, .int .u64 0, .int .u8 0, .int .u8 0, .int .u64 0, .int .u8 0, .int .u8 0, .int .u16 0, .int .u32 0, .int .i64 0, .int .u8 0, .int .u32 0, .int .i64 0, .int .i64 0] := rfl
set_option maxRecDepth 100000 in
set_option maxHeartbeats 8000000 in
theorem sealNil_walk {W : World} (hv : VarsOk W) (hK : VarsK W) (p : PD) (_hp : okPD p) (ia : Int) (_wa : (Lit.int .u8 ia).wf = true) (bs : Str) (src : Value) (_hs : RowAt (Low W) W src (bs.map bv)) : Calls Tryz.prog 9 #[.agg (pktA p).toArray, .int .u8 ia, src] W fun e w' => e = .returned (.bool true) ∧ Below W.heap.size W w' := by
  obtain ⟨C, hC⟩ : ∃ B, W.heap.size = B := ⟨_, rfl⟩
  have HCQ := Lib.hid hC
  have HV := Lib.hid hv
  have HK := Lib.hid hK
  obtain ⟨w1, hw1⟩ : ∃ w1, W.alloc (.cells (pktA p).toArray 38) = w1 := ⟨_, rfl⟩
  have HB1 : Hid (Below C W w1) := Lib.hid (by rw [← hw1, ← hC]; exact (Below.refl _ _).alloc (Nat.le_refl _) _)
  have HC1 : Hid (w1.heap[C]? = some (.cells (pktA p).toArray 38 (0, 0))) := Lib.hid (by rw [← hw1, ← hC]; exact heap_alloc_new _ _)
  have HW1 := Lib.hid hw1
  have HSN := Lib.hid (gseal_nil p w1)
  rw [hC]
  clear hv hK hC hw1
  unfold pktA msgA at HW1 ⊢
  simp only [List.cons_append, List.nil_append] at HW1 ⊢
  go_enter Tryz.func9, Tryz.ntmps9
  go_upto_region 2 with fail
  rw [HW1.out, HCQ.out]
  go_upto_region 3 with (first
    | ((with_reducible refine wpList_at (.load 38 (.tmp 3)) rfl ?_); go_loud (refine wpList_load_mid rfl 38 _ rfl C 0 rfl (pktA p) _ (range_row HC1.out) Tryz.underlying38 rfl (by kernel_rfl) ?_))
    | (go_at_call 32; go_loud (refine HSN.out.mono ?_); rintro e w2 ⟨rfl, hb⟩; have HB2 : Hid (Below C W w2) := Lib.hid (HB1.out.trans (hb.mono (below_le HCQ HB1.out))); clear hb))
  have HON := Lib.hid (gopen_nil ia src w2)
  unfold OpenQ at HON
  go_upto_region 4 with (first
    | ((with_reducible refine wpList_at (.store 38 (.tmp 10) _) rfl ?_); go_loud (refine wpList_store_agg rfl _ _ _ rfl w3.heap.size 0 (pktA pd0) rfl rfl (there_of (heap_alloc_new w3 (.cells pkz.toArray 38)) 16 (by decide)) (by kernel_rfl) rfl ?_))
    | (go_at_call 36; go_loud (refine HON.out.mono ?_); rintro e w3 ⟨rfl, hb⟩; have HB3 : Hid (Below C W w3) := Lib.hid (HB2.out.trans (hb.mono (below_le HCQ HB2.out))); clear hb))
  obtain ⟨G, hG⟩ : ∃ D, w3.heap.size = D := ⟨_, rfl⟩
  obtain ⟨w4, hw4⟩ : ∃ u, w3.alloc (.cells pkz.toArray 38) = u := ⟨_, rfl⟩
  obtain ⟨w5, hw5⟩ : ∃ u, w4.setCells G 0 (pktA pd0) = u := ⟨_, rfl⟩
  obtain ⟨q1, q2, _⟩ := pkt_new w3 pd0 G hG w4 w5 hw4 hw5
  have HB5 : Hid (Below C W w5) := Lib.hid (HB3.out.trans (q2.mono (by rw [← hG]; exact below_le HCQ HB3.out)))
  rw [show (w3.alloc (.cells #[.int .u8 0, .int .u8 0, .bool false, .int .u64 0, .int .u8 0, .int .u8 0, .int .u64 0, .int .u8 0, .int .u8 0, .int .u16 0, .int .u32 0, .int .i64 0, .int .u8 0, .int .u32 0, .int .i64 0, .int .i64 0] 38)) = w4 from hw4, hG, hw5]
  rw [pd0L] at q1
  clear hG hw4 hw5 q2
  obtain ⟨d0, d1, d2, d3, d4, d5, d6, d7, d8, d9, d10, d11, d12, d13, d14, d15⟩ := (cells16 q1).1
  clear q1
  have hself := fun u => eql_pkt pd0 pd0 u
  rw [show eqP pd0 pd0 = true from eqP_iff.2 rfl, pd0L] at hself
  have HWK := Lib.hid (lwakes_any w5 (HV.out.on HB5.out (by rw [HCQ.out]; exact Nat.le_refl _)) (HK.out.on (by rw [HCQ.out]; exact HB5.out)))
  unfold WakesQ at HWK
  go_wp2_with (first
    | (go_at_call 31; go_loud (refine (gcarriers_nil w5).mono ?_); rintro e u ⟨rfl, rfl⟩)
    | (go_at_call 27; go_loud (refine HWK.out.mono ?_); rintro e w6 ⟨rfl, hb⟩; have HB6 : Hid (Below C W w6) := Lib.hid (HB5.out.trans (hb.mono (below_le HCQ HB5.out))); clear hb))
  go_ret
  exact ⟨rfl, HB6.out⟩
end Go.Proofs.YtgfijlamhjjecaaGreatDoor
