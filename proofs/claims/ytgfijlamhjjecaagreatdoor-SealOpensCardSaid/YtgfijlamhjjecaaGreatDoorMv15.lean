/-
  Texts MsgZ3, MsgZ4, MsgZ5, RefP, RefA, RefB, RefC, RefD, WrapO, RefE, RefF, MsgZ7, MsgZ8, MsgQ0, WrapM, MsgQ6, MsgQ2, MsgQ8, SealF, SealG, one behind the other. No condition beyond those stated in each.
-/
import Derived.Test.YtgfijlamhjjecaaGreatDoorMv11
import Derived.Test.YtgfijlamhjjecaaGreatDoorMv10
import Derived.Test.YtgfijlamhjjecaaGreatDoorMv1
import Derived.Test.YtgfijlamhjjecaaGreatDoorMv7
import Derived.Test.YtgfijlamhjjecaaGreatDoorMv4
import Derived.Test.YtgfijlamhjjecaaGreatDoorMv8
import Derived.Test.YtgfijlamhjjecaaGreatDoorMv9
import Derived.IntWalk
import Derived.Test.YtgfijlamhjjecaaGreatDoorMv13
import Derived.Test.YtgfijlamhjjecaaGreatDoorMv6
import Derived.BigQuiet
import Derived.Test.YtgfijlamhjjecaaGreatDoorMv14
namespace Go.Proofs.YtgfijlamhjjecaaGreatDoor
open Go.RowKit
structure PInv (x : WD) (hh : Bool × Bool × Bool) (st0 : Bool × MD) (pre : List Value) (B2 : Nat) (w1 : World) (i : Nat) (ok : Bool) (md : MD) (wx : World) : Prop where
 st : (ok, md) = readN x hh i st0
 row : MRow pre 38 md B2 wx
 fr : Fr [B2] w1 wx
structure QInv (fs : List FK) (l : List Str) (st1 : Bool × MD) (pre : List Value) (B2 : Nat) (w1 : World) (j : Nat) (ok : Bool) (md : MD) (wy : World) : Prop where
 st : (ok, md) = ((fs.zip l).take j).foldl readF st1
 row : MRow pre 38 md B2 wy
 fr : Fr [B2] w1 wy
def wordsLim (x : WD) : Prop := ∀ s ∈ x.segs, ∀ e ∈ s.elems, ∀ c ∈ e, c.length ≤ 1048576
set_option maxRecDepth 100000 in
set_option maxHeartbeats 16000000 in
theorem mpacket_main {S : Nat → Prop} (x : WD) (v : Value) (h : ¬ (8 ≤ x.fr ∨ 8 ≤ x.dst)) (w : World) (hv : VarsOk w) (hs : SegsAt S w v x.segs) (hS : ∀ k, S k → k < w.heap.size) (hL : wordsLim x) : Calls Tryz.prog 19 #[wv x v] w fun e w' => PacketQ x w e w' := by
 have HH := Lib.hid h
 have hb : (decide (x.fr < 8) && decide (x.dst < 8)) = true := by simp; omega
 obtain ⟨vo, cap, rfl, hcap, hcm⟩ := hs.form
 unfold maxLen at hcm
 obtain ⟨n, hn⟩ : ∃ n, x.segs.length = n := ⟨_, rfl⟩
 have HN := Lib.hid hn
 have HSG := Lib.hid hs
 have HS := Lib.hid hS
 have HL := Lib.hid hL
 have HV := Lib.hid hv
 rw [hn] at hcap HSG ⊢
 unfold wv
 clear h hs hS hL hn hv
 go_enter Tryz.func19, Tryz.ntmps19
 go_upto_region 4 with (go_at_call 41; refine (carriers_any _ _ _).mono ?_; rw [hb]; rintro e w' ⟨rfl, rfl⟩)
 obtain ⟨B1, hB1⟩ : ∃ B1, w.heap.size + 1 = B1 := ⟨_, rfl⟩
 obtain ⟨B2, hB2⟩ : ∃ B2, B1 + 1 = B2 := ⟨_, rfl⟩
 obtain ⟨w0, hw0⟩ : ∃ w0, ((w.alloc (.cells #[.int .u8 (x.fr : Int), .int .u8 (x.dst : Int), .int .u64 (x.rf : Int), .slice vo n cap] 41)).alloc (.cells #[.int .u8 0, .int .u8 0, .bool false, .int .u64 0, .int .u8 0, .int .u8 0, .int .u64 0, .int .u8 0, .int .u8 0, .int .u16 0, .int .u32 0, .int .i64 0, .int .u8 0, .int .u32 0, .int .i64 0, .int .i64 0] 38)).alloc (.cells #[.int .u8 (x.fr : Int), .int .u8 (x.dst : Int), .bool false, .int .u64 (x.rf : Int), .int .u8 0, .int .u8 0, .int .u64 0, .int .u8 0, .int .u8 0, .int .u16 0, .int .u32 0, .int .i64 0, .int .u8 0, .int .u32 0, .int .i64 0, .int .i64 0] 38) = w0 := ⟨_, rfl⟩
 have HBw0 : Hid (Below w.heap.size w w0) := Lib.hid (by rw [← hw0]; exact (((Below.refl _ _).alloc (Nat.le_refl _) _).alloc (by simp) _).alloc (by simp only [World.size_alloc]; omega) _)
 have hz0 : w0.heap.size = B2 + 1 := by rw [← hw0]; simp; omega
 have hb0 : w0.heap[w.heap.size]? = some (.cells #[.int .u8 (x.fr : Int), .int .u8 (x.dst : Int), .int .u64 (x.rf : Int), .slice vo n cap] 41 (0, 0)) := by rw [← hw0]; exact (Below.heap_alloc _ _ _ (by simp <;> omega)).trans ((Below.heap_alloc _ _ _ (by simp)).trans (heap_alloc_new _ _))
 have HR0 : Hid (w0.heap[B1]? = some (.cells pkz.toArray 38 (0, 0))) := Lib.hid (by rw [← hw0, ← hB1]; exact (Below.heap_alloc _ _ _ (by simp <;> omega)).trans (heap_alloc_at (by simp)))
 have hp0 : w0.heap[B2]? = some (.cells #[.int .u8 (x.fr : Int), .int .u8 (x.dst : Int), .bool false, .int .u64 (x.rf : Int), .int .u8 0, .int .u8 0, .int .u64 0, .int .u8 0, .int .u8 0, .int .u16 0, .int .u32 0, .int .i64 0, .int .u8 0, .int .u32 0, .int .i64 0, .int .i64 0] 38 (0, 0)) := by rw [← hw0, ← hB2, ← hB1]; exact heap_alloc_at (by simp)
 have hwB1 : w.heap.size ≤ B1 := by omega
 have hB12 : B1 < B2 := by omega
 rw [hB1, hB2, hw0]
 have HSG0 : Hid (SegsAt S w0 (.slice vo n cap) x.segs) := Lib.hid (HSG.out.cong (fun _ hk => hk) (fun k hk => HBw0.out.block k (HS.out k hk)))
 have HB0 := Lib.hid hb0
 have HP0 := Lib.hid hp0
 have s3 : w0.cell? ⟨w.heap.size, 3, none⟩ = some (.slice vo n cap) := cell_of_row w0 w.heap.size 3 _ _ _ hb0
 have HZ0 := Lib.hid hz0
 have HS0 : Hid (∀ k, S k → k < w0.heap.size) := Lib.hid (fun k hk => by have := HS.out k hk; rw [HZ0.out]; omega)
 have HQ1 := Lib.hid hB1
 clear hw0 hb0 hp0 hz0 hB1 hB2
 go_wp2_with fail
 refine (words_any x.segs _ w0 HSG0.out HS0.out 0 0 tACK ⟨#[65, 67, 75]⟩ rfl (by omega) (by omega)).mono ?_
 rintro e w1 ⟨v1, b1, rfl, hb1, hor⟩
 have HB1 := Lib.hid hb1
 have HO1 := Lib.hid hor
 clear hb1 hor s3
 have hp1 : w1.heap[B2]? = some (.cells #[.int .u8 (x.fr : Int), .int .u8 (x.dst : Int), .bool false, .int .u64 (x.rf : Int), .int .u8 0, .int .u8 0, .int .u64 0, .int .u8 0, .int .u8 0, .int .u16 0, .int .u32 0, .int .i64 0, .int .u8 0, .int .u32 0, .int .i64 0, .int .i64 0] 38 (0, 0)) := (HB1.out.block B2 (by rw [HZ0.out]; omega)).trans HP0.out
 have p2 : w1.cell? ⟨B2, 2, none⟩ = some (.bool false) := cell_of_row w1 B2 2 _ _ _ hp1
 have q2 := frozen_of_row w1 B2 2 _ _ hp1
 obtain ⟨w2, hw2⟩ : ∃ w2, w1.setCell ⟨B2, 2, none⟩ (.bool b1) = w2 := ⟨_, rfl⟩
 have HP2 : Hid (w2.heap[B2]? = some (.cells #[.int .u8 (x.fr : Int), .int .u8 (x.dst : Int), .bool b1, .int .u64 (x.rf : Int), .int .u8 0, .int .u8 0, .int .u64 0, .int .u8 0, .int .u8 0, .int .u16 0, .int .u32 0, .int .i64 0, .int .u8 0, .int .u32 0, .int .i64 0, .int .i64 0] 38 (0, 0))) := Lib.hid (by rw [← hw2]; exact heap_setCell_same _ B2 2 _ _ _ hp1)
 have HF2 : Hid (Fr [B2] w0 w2) := Lib.hid (by rw [← hw2]; exact Fr.trans (F := [B2]) (Below.fr HB1.out (Nat.le_refl _) [B2]) (Fr.setCell w1 (by simp) _))
 have HW2 := Lib.hid hw2
 have HWB : Hid (w.heap.size ≠ B2) := Lib.hid (by omega)
 clear hp1 hw2
 go_upto_region 5 with fail
 rw [HW2.out]
 have s3 : w2.cell? ⟨w.heap.size, 3, none⟩ = some (.slice vo n cap) := cell_fr HF2.out (by simpa using HWB.out) (cell_of_row w0 w.heap.size 3 _ _ _ HB0.out)
 have p2 : w2.cell? ⟨B2, 2, none⟩ = some (.bool b1) := cell_of_row w2 B2 2 _ _ _ HP2.out
 clear q2
 rcases HO1.out with ⟨ws, hws, rfl, _⟩ | ⟨hno, rfl, rfl⟩
 · have HA := Lib.hid (show segO x 0 tACK 0 = some ws from hws)
   clear hws
   by_cases hn1 : 1 < n
   · have HQ := Lib.hid (pm_ack2 HH.out HA.out (by rw [HN.out]; exact hn1))
     have i1 : decide ((1 : Int) < (n : Int)) = true := by rw [decide_eq_true_eq]; omega
     have hr := (HF2.out.block B1 (by rw [HZ0.out]; omega) (by simp; omega)).trans HR0.out
     have HR := Lib.hid hr
     clear hr
     go_wp2_with ((with_reducible refine wpList_at (.store 38 (.tmp 2) _) rfl ?_); go_loud (refine wpList_store_agg rfl _ _ _ rfl B1 0 pkz rfl rfl (there_of HR.out 16 (by decide)) (by kernel_rfl) rfl ?_))
     refine bodyPost_ret (res_pkt rfl _ rfl rfl (putL_heap (cs := pkz) HR.out pkz rfl) rfl) rfl ?_
     exact pq_err HQ.out (putL_below hwB1 _ _ _ (HBw0.out.trans (HF2.out.belowB (by rw [HZ0.out]; omega) (fun b hb' => by have e := List.mem_singleton.1 hb'; omega))))
   · have HQ := Lib.hid (pm_ack HH.out HA.out (by rw [HN.out]; exact hn1))
     have i1 : decide ((1 : Int) < (n : Int)) = false := by rw [decide_eq_false_iff_not]; omega
     have hr := (HF2.out.block B1 (by rw [HZ0.out]; omega) (by simp; omega)).trans HR0.out
     have HR := Lib.hid hr
     clear hr
     go_wp2_with (first | ((with_reducible refine wpList_at (.load 38 (.tmp 4)) rfl ?_); go_loud (refine wpList_load_row rfl _ _ rfl B2 rfl 38 _ (0, 0) _ HP2.out Tryz.underlying38 rfl (by kernel_rfl) ?_)) | ((with_reducible refine wpList_at (.store 38 (.tmp 2) _) rfl ?_); go_loud (refine wpList_store_agg rfl _ _ _ rfl B1 0 [.int .u8 (x.fr : Int), .int .u8 (x.dst : Int), .bool true, .int .u64 (x.rf : Int), .int .u8 0, .int .u8 0, .int .u64 0, .int .u8 0, .int .u8 0, .int .u16 0, .int .u32 0, .int .i64 0, .int .u8 0, .int .u32 0, .int .i64 0, .int .i64 0] rfl rfl (there_of HR.out 16 (by decide)) (by kernel_rfl) rfl ?_)))
     refine bodyPost_ret (res_pkt rfl _ rfl rfl (putL_heap (cs := pkz) HR.out [.int .u8 (x.fr : Int), .int .u8 (x.dst : Int), .bool true, .int .u64 (x.rf : Int), .int .u8 0, .int .u8 0, .int .u64 0, .int .u8 0, .int .u8 0, .int .u16 0, .int .u32 0, .int .i64 0, .int .u8 0, .int .u32 0, .int .i64 0, .int .i64 0] rfl) rfl) rfl ?_
     unfold PacketQ
     rw [HQ.out]
     exact ⟨rfl, putL_below hwB1 _ _ _ (HBw0.out.trans (HF2.out.belowB (by rw [HZ0.out]; omega) (fun b hb' => by have e := List.mem_singleton.1 hb'; omega)))⟩
 · have HA := Lib.hid (show segO x 0 tACK 0 = none from hno)
   clear hno
   have HSG2 : Hid (SegsAt S w2 (.slice vo n cap) x.segs) := Lib.hid (HSG0.out.cong (fun _ hk => hk) (fun k hk => HF2.out.block k (HS0.out k hk) (by have := HS.out k hk; simp; omega)))
   have HS2 : Hid (∀ k, S k → k < w2.heap.size) := Lib.hid (fun k hk => Nat.lt_of_lt_of_le (HS0.out k hk) HF2.out.size)
   go_wp2_with fail
   refine (words_any x.segs _ w2 HSG2.out HS2.out 0 1 tMSG ⟨#[77, 83, 71]⟩ rfl (by omega) (by omega)).mono ?_
   rintro e w3 ⟨v3, b3, rfl, hb3, hor⟩
   have HB3 := Lib.hid hb3
   have HO3 := Lib.hid hor
   have HF3 : Hid (Fr [B2] w0 w3) := Lib.hid (Fr.trans (F := [B2]) HF2.out (Below.fr hb3 (Nat.le_refl _) [B2]))
   clear hb3 hor s3 p2
   rcases HO3.out with ⟨ws, hws, rfl, hc3⟩ | ⟨hno, rfl, rfl⟩
   · obtain ⟨u, rfl⟩ := List.length_eq_one_iff.1 (segO_len (x := x) (i := 0) (t := tMSG) hws)
     have HM := Lib.hid (show segO x 0 tMSG 1 = some [u] from hws)
     clear hws
     obtain ⟨ao3, c3, rfl, hc31, hc32⟩ := hc3.form
     obtain ⟨b3, off3, rfl, hS3, hu3⟩ := hc3.get (k := 0) (p := u) rfl
     rw [Nat.add_zero] at hu3
     obtain ⟨su, hsu⟩ : ∃ s : ByteArray, (⟨u.toArray⟩ : ByteArray) = s := ⟨_, rfl⟩
     unfold sv at hu3
     rw [hsu] at hu3
     unfold maxLen at hc32
     simp only [List.length_cons, List.length_nil, Nat.zero_add] at hc31 ⊢
     have HBX3 : Hid (Below w.heap.size w w3) := Lib.hid (HBw0.out.trans (HF3.out.belowB (by rw [HZ0.out]; omega) (fun b hb' => by have e := List.mem_singleton.1 hb'; omega)))
     have hulen : su.size ≤ 1048576 := by
      have e : su.size = u.length := by rw [← hsu]; rfl
      rw [e]
      have h1 := HM.out
      unfold segO at h1
      obtain ⟨s, h2, h3⟩ := bind_some h1
      have h4 := (wordsS_inj h3).1
      refine HL.out s (List.mem_of_getElem? h2) [u] ?_ u (by simp)
      rw [h4]; unfold wordSeg; simp
     have HWH := Lib.hid (whole_any su hulen 0 255 (by decide) (by decide) w3 (HV.out.on HBX3.out (Nat.le_refl _)))
     have hsl : su.data.toList = u := by rw [← hsu]
     obtain ⟨K, hK⟩ : ∃ K, (wholeE u 0 255).getD 0 = K := ⟨_, rfl⟩
     have hKb : 0 ≤ K ∧ K ≤ 255 := by
      rw [← hK]
      cases hw : wholeE u 0 255 with
      | none => simp
      | some v => exact wholeE_lo hw
     obtain ⟨kn, rfl⟩ : ∃ kn : Nat, K = (kn : Int) := ⟨K.toNat, by omega⟩
     have hwr : IntKind.u8.wrap (kn : Int) = (kn : Int) := by simp [IntKind.wrap, IntKind.bits, IntKind.signed]; omega
     rw [hsl] at HWH
     unfold WholeQ at HWH
     rw [hK] at HWH
     have HK := Lib.hid hK
     clear hsu hsl hK hc3 hulen
     go_wp2_with fail
     refine HWH.out.mono ?_
     rintro e w4 ⟨rfl, hb4⟩
     have HF4 : Hid (Fr [B2] w0 w4) := Lib.hid (Fr.trans (F := [B2]) HF3.out (Below.fr hb4 (Nat.le_refl _) [B2]))
     have HB4 := Lib.hid hb4
     clear hb4
     go_wp2_with fail
     refine (parts_any kn w4).mono ?_
     rintro e w5 ⟨pv, rfl, hpp, hb5⟩
     have HF5 : Hid (Fr [B2] w0 w5) := Lib.hid (Fr.trans (F := [B2]) HF4.out (Below.fr hb5 (Nat.le_refl _) [B2]))
     have HPP := Lib.hid hpp
     have HB5 := Lib.hid hb5
     clear hb5 hpp hu3 hwr
     cases hkk : hasK kn with
     | none =>
       have HQ : Hid (packetM x = (pd0, 100)) := Lib.hid (by
        cases hw : wholeE u 0 255 with
        | none => exact pm_num HH.out HA.out HM.out hw
        | some v =>
          refine pm_kind HH.out HA.out HM.out hw ?_
          have h1 := HK.out
          rw [hw] at h1
          have h2 : v = (kn : Int) := h1
          rw [h2]; exact hkk)
       clear hkk
       rw [Option.isSome_none]
       have hr := (HF5.out.block B1 (by rw [HZ0.out]; omega) (by simp; omega)).trans HR0.out
       have HR := Lib.hid hr
       clear hr
       go_wp2_with ((with_reducible refine wpList_at (.store 38 (.tmp 2) _) rfl ?_); go_loud (refine wpList_store_agg rfl _ _ _ rfl B1 0 pkz rfl rfl (there_of HR.out 16 (by decide)) (by kernel_rfl) rfl ?_))
       refine bodyPost_ret (res_pkt rfl _ rfl rfl (putL_heap (cs := pkz) HR.out pkz rfl) rfl) rfl ?_
       exact pq_err HQ.out (putL_below hwB1 _ _ _ (HBw0.out.trans (HF5.out.belowB (by rw [HZ0.out]; omega) (fun b hb' => by have e := List.mem_singleton.1 hb'; omega))))
     | some hh =>
       have HKK := Lib.hid hkk
       have hwu : wholeE u 0 255 = some (kn : Int) := by
        cases hw : wholeE u 0 255 with
        | none =>
          have h1 := HK.out
          rw [hw] at h1
          have h2 : (0 : Int) = (kn : Int) := h1
          have h3 : kn = 0 := by omega
          rw [h3] at hkk; cases hkk
        | some v =>
          have h1 := HK.out
          rw [hw] at h1
          have h2 : v = (kn : Int) := h1
          rw [h2]
       have HWU := Lib.hid hwu
       rw [Option.isSome_some]
       clear hkk hwu
       have hp5 : w5.heap[B2]? = some (.cells #[.int .u8 (x.fr : Int), .int .u8 (x.dst : Int), .bool false, .int .u64 (x.rf : Int), .int .u8 0, .int .u8 0, .int .u64 0, .int .u8 0, .int .u8 0, .int .u16 0, .int .u32 0, .int .i64 0, .int .u8 0, .int .u32 0, .int .i64 0, .int .i64 0] 38 (0, 0)) := (HB5.out.block B2 (by have h1 := HF4.out.size; rw [HZ0.out] at h1; omega)).trans ((HB4.out.block B2 (by have h1 := HF3.out.size; rw [HZ0.out] at h1; omega)).trans ((HB3.out.block B2 (by have h1 := HF2.out.size; rw [HZ0.out] at h1; omega)).trans HP2.out))
       have k4 : w5.cell? ⟨B2, 4, none⟩ = some (.int .u8 0) := cell_of_row w5 B2 4 _ _ _ hp5
       have z4 := frozen_of_row w5 B2 4 _ _ hp5
       obtain ⟨w6, hw6⟩ : ∃ w6, w5.setCell ⟨B2, 4, none⟩ (.int .u8 (kn : Int)) = w6 := ⟨_, rfl⟩
       have HP6 : Hid (w6.heap[B2]? = some (.cells #[.int .u8 (x.fr : Int), .int .u8 (x.dst : Int), .bool false, .int .u64 (x.rf : Int), .int .u8 (kn : Int), .int .u8 0, .int .u64 0, .int .u8 0, .int .u8 0, .int .u16 0, .int .u32 0, .int .i64 0, .int .u8 0, .int .u32 0, .int .i64 0, .int .i64 0] 38 (0, 0))) := Lib.hid (by rw [← hw6]; exact heap_setCell_same _ B2 4 _ _ _ hp5)
       have HF6 : Hid (Fr [B2] w0 w6) := Lib.hid (by rw [← hw6]; exact Fr.trans (F := [B2]) HF5.out (Fr.setCell w5 (by simp) _))
       have HPV : Hid (PartsAt w4.heap.size w6 pv (partF hh)) := Lib.hid (by
        rw [← hw6]
        exact (HPP.out hh HKK.out).fr (F := [B2]) (Fr.setCell w5 (by simp) _) (fun j hj => by have e := List.mem_singleton.1 hj; have h1 := HF4.out.size; rw [HZ0.out] at h1; omega))
       have HW6 := Lib.hid hw6
       clear hp5 hw6
       go_upto_region 18 with fail
       rw [HW6.out]
       have s3 : w6.cell? ⟨w.heap.size, 3, none⟩ = some (.slice vo n cap) := cell_fr HF6.out (by simpa using HWB.out) (cell_of_row w0 w.heap.size 3 _ _ _ HB0.out)
       have HSG6 : Hid (SegsAt S w6 (.slice vo n cap) x.segs) := Lib.hid (HSG0.out.cong (fun _ hk => hk) (fun k hk => HF6.out.block k (HS0.out k hk) (by have := HS.out k hk; simp; omega)))
       have HS6 : Hid (∀ k, S k → k < w6.heap.size) := Lib.hid (fun k hk => Nat.lt_of_lt_of_le (HS0.out k hk) HF6.out.size)
       clear k4 z4
       go_wp2_with fail
       refine (words_any x.segs _ w6 HSG6.out HS6.out 1 2 tKEY ⟨#[75, 69, 89]⟩ rfl (by omega) (by omega)).mono ?_
       rintro e w7 ⟨v7, b7, rfl, hb7, hor⟩
       have HB7 := Lib.hid hb7
       have HO7 := Lib.hid hor
       have HF7 : Hid (Fr [B2] w0 w7) := Lib.hid (Fr.trans (F := [B2]) HF6.out (Below.fr hb7 (Nat.le_refl _) [B2]))
       clear hb7 hor s3
       rcases HO7.out with ⟨ws, hws, rfl, hc7⟩ | ⟨hno, rfl, rfl⟩
       · have hl2 := segO_len (x := x) (i := 1) (t := tKEY) hws
         obtain ⟨tt, u2, rfl⟩ : ∃ a b, ws = [a, b] := by
          match ws, hl2 with
          | [a, b], _ => exact ⟨a, b, rfl⟩
         have HY := Lib.hid (show segO x 1 tKEY 2 = some [tt, u2] from hws)
         have hlim : tt.length ≤ 1048576 ∧ u2.length ≤ 1048576 := by
          have h1 := hws
          obtain ⟨s, h2, h3⟩ := bind_some h1
          have h4 := (wordsS_inj h3).1
          have h5 := HL.out s (List.mem_of_getElem? h2)
          rw [h4] at h5
          unfold wordSeg at h5
          exact ⟨h5 [tt] (by simp) tt (by simp), h5 [u2] (by simp) u2 (by simp)⟩
         clear hws hl2
         obtain ⟨ao7, c7, rfl, hc71, hc72⟩ := hc7.form
         obtain ⟨b7, off7, rfl, hS7, ht7⟩ := hc7.get (k := 0) (p := tt) rfl
         obtain ⟨b7', off7', hbb7, _, hu7⟩ := hc7.get (k := 1) (p := u2) rfl
         cases hbb7
         rw [Nat.add_zero] at ht7
         obtain ⟨st7, hst7⟩ : ∃ s : ByteArray, (⟨tt.toArray⟩ : ByteArray) = s := ⟨_, rfl⟩
         obtain ⟨su7, hsu7⟩ : ∃ s : ByteArray, (⟨u2.toArray⟩ : ByteArray) = s := ⟨_, rfl⟩
         unfold sv at ht7 hu7
         rw [hst7] at ht7
         rw [hsu7] at hu7
         unfold maxLen at hc72
         simp only [List.length_cons, List.length_nil, Nat.zero_add] at hc71 ⊢
         have HNP := Lib.hid (nParse_any st7 w7)
         have e7 : st7.data.toList = tt := by rw [← hst7]
         rw [e7] at HNP
         unfold Parse7Q tkv at HNP
         obtain ⟨PK, hPK⟩ : ∃ P, parse7 tt = P := ⟨_, rfl⟩
         obtain ⟨⟨pc, ps⟩, pe⟩ := PK
         rw [hPK] at HNP
         simp only at HNP
         have HPK := Lib.hid hPK
         have HU7 := Lib.hid hu7
         have hsz7 : su7.size ≤ 1048576 := by
          have e : su7.size = u2.length := by rw [← hsu7]; rfl
          rw [e]; exact hlim.2
         have hsl7 : su7.data.toList = u2 := by rw [← hsu7]
         have HSL7 := Lib.hid hsl7
         have HSZ7 := Lib.hid hsz7
         clear hPK e7 hst7 hsu7 hsl7 hsz7 hlim hc7 hu7
         go_upto_region 22 with (go_at_call 54; go_loud (refine HNP.out.mono ?_; rintro e w8 ⟨rfl, hb8⟩; have HB8 := Lib.hid hb8; clear hb8))
         obtain ⟨DT, hDT⟩ : ∃ D, w8.heap.size = D := ⟨_, rfl⟩
         obtain ⟨w9, hw9⟩ : ∃ w', w8.alloc (.cells #[.int .u8 (pc : Int), .int .u64 (ps : Int)] 24) = w' := ⟨_, rfl⟩
         have HU9 : Hid (Below w7.heap.size w7 w9) := Lib.hid (by rw [← hw9]; exact HB8.out.alloc HB8.out.size _)
         have HF9 : Hid (Fr [B2] w0 w9) := Lib.hid (Fr.trans (F := [B2]) HF7.out (Below.fr HU9.out (Nat.le_refl _) [B2]))
         have HT9 : Hid (w9.heap[DT]? = some (.cells #[.int .u8 (pc : Int), .int .u64 (ps : Int)] 24 (0, 0))) := Lib.hid (by rw [← hw9, ← hDT]; exact heap_alloc_new _ _)
         have hDTB : B2 < DT := by rw [← hDT]; have h1 := HF7.out.size; have h2 := HB8.out.size; rw [HZ0.out] at h1; omega
         rw [hw9, hDT]
         clear hw9 hDT ht7
         by_cases hpe : pe = 0
         · subst hpe
           have u9 : w9.cell? ⟨b7, off7 + 1, none⟩ = some (.string su7) := (HU9.out.cell (p := ⟨b7, off7 + 1, none⟩) (cell_lt' HU7.out)).trans HU7.out
           have HBX9 : Hid (Below w.heap.size w w9) := Lib.hid (HBw0.out.trans (HF9.out.belowB (by rw [HZ0.out]; omega) (fun b hb' => by have e := List.mem_singleton.1 hb'; omega)))
           have HWH2 := Lib.hid (whole_any su7 HSZ7.out 0 3 (by decide) (by decide) w9 (HV.out.on HBX9.out (Nat.le_refl _)))
           rw [HSL7.out] at HWH2
           unfold WholeQ at HWH2
           obtain ⟨A, hA⟩ : ∃ A, (wholeE u2 0 3).getD 0 = A := ⟨_, rfl⟩
           obtain ⟨ab, hab⟩ : ∃ b, (wholeE u2 0 3).isSome = b := ⟨_, rfl⟩
           have hAb : 0 ≤ A ∧ A ≤ 3 := by
            rw [← hA]
            cases hw : wholeE u2 0 3 with
            | none => simp
            | some v => exact wholeE_lo hw
           obtain ⟨an, rfl⟩ : ∃ an : Nat, A = (an : Int) := ⟨A.toNat, by omega⟩
           have hwa : IntKind.u8.wrap (an : Int) = (an : Int) := by simp [IntKind.wrap, IntKind.bits, IntKind.signed]; omega
           rw [hA, hab] at HWH2
           have HAN := Lib.hid hA
           have HAB := Lib.hid hab
           clear hA hab
           go_wp2_with fail
           refine HWH2.out.mono ?_
           rintro e w10 ⟨rfl, hb10⟩
           have HU10 : Hid (Below w7.heap.size w7 w10) := Lib.hid (HU9.out.trans (hb10.mono HU9.out.size))
           have HF10 : Hid (Fr [B2] w0 w10) := Lib.hid (Fr.trans (F := [B2]) HF7.out (Below.fr HU10.out (Nat.le_refl _) [B2]))
           have hT10 := (hb10.block DT (Array.getElem?_eq_some_iff.1 HT9.out).1).trans HT9.out
           have hp10 : w10.heap[B2]? = some (.cells #[.int .u8 (x.fr : Int), .int .u8 (x.dst : Int), .bool false, .int .u64 (x.rf : Int), .int .u8 (kn : Int), .int .u8 0, .int .u64 0, .int .u8 0, .int .u8 0, .int .u16 0, .int .u32 0, .int .i64 0, .int .u8 0, .int .u32 0, .int .i64 0, .int .i64 0] 38 (0, 0)) := (HU10.out.block B2 (by have h1 := HF7.out.size; rw [HZ0.out] at h1; omega)).trans ((HB7.out.block B2 (by have h1 := HF6.out.size; rw [HZ0.out] at h1; omega)).trans HP6.out)
           have t0 : w10.cell? ⟨DT, 0, none⟩ = some (.int .u8 (pc : Int)) := cell_of_row w10 DT 0 _ _ _ hT10
           have t1 : w10.cell? ⟨DT, 1, none⟩ = some (.int .u64 (ps : Int)) := cell_of_row w10 DT 1 _ _ _ hT10
           have k5 : w10.cell? ⟨B2, 5, none⟩ = some (.int .u8 0) := cell_of_row w10 B2 5 _ _ _ hp10
           have k6 : w10.cell? ⟨B2, 6, none⟩ = some (.int .u64 0) := cell_of_row w10 B2 6 _ _ _ hp10
           have k7 : w10.cell? ⟨B2, 7, none⟩ = some (.int .u8 0) := cell_of_row w10 B2 7 _ _ _ hp10
           have z5 := frozen_of_row w10 B2 5 _ _ hp10
           have z6 := frozen_of_row w10 B2 6 _ _ hp10
           have z7 := frozen_of_row w10 B2 7 _ _ hp10
           obtain ⟨w11, hw11⟩ : ∃ w', ((w10.setCell ⟨B2, 5, none⟩ (.int .u8 (pc : Int))).setCell ⟨B2, 6, none⟩ (.int .u64 (ps : Int))).setCell ⟨B2, 7, none⟩ (.int .u8 (an : Int)) = w' := ⟨_, rfl⟩
           have HP11 : Hid (w11.heap[B2]? = some (.cells #[.int .u8 (x.fr : Int), .int .u8 (x.dst : Int), .bool false, .int .u64 (x.rf : Int), .int .u8 (kn : Int), .int .u8 (pc : Int), .int .u64 (ps : Int), .int .u8 (an : Int), .int .u8 0, .int .u16 0, .int .u32 0, .int .i64 0, .int .u8 0, .int .u32 0, .int .i64 0, .int .i64 0] 38 (0, 0))) := Lib.hid (by rw [← hw11]; exact heap_setCell_same _ B2 7 _ _ _ (heap_setCell_same _ B2 6 _ _ _ (heap_setCell_same _ B2 5 _ _ _ hp10)))
           have HF11 : Hid (Fr [B2] w0 w11) := Lib.hid (by rw [← hw11]; exact Fr.trans (F := [B2]) HF10.out (Fr.trans (F := [B2]) (Fr.setCell _ (by simp) _) (Fr.trans (F := [B2]) (Fr.setCell _ (by simp) _) (Fr.setCell _ (by simp) _))))
           have HPV11 : Hid (PartsAt w4.heap.size w11 pv (partF hh)) := Lib.hid (by
            have h1 : Fr [B2] w6 w11 := by
             rw [← hw11]
             exact Fr.trans (F := [B2]) (Fr.trans (F := [B2]) (Below.fr HB7.out (Nat.le_refl _) [B2]) (Below.fr HU10.out (Nat.le_refl _) [B2])) (Fr.trans (F := [B2]) (Fr.setCell _ (by simp) _) (Fr.trans (F := [B2]) (Fr.setCell _ (by simp) _) (Fr.setCell _ (by simp) _)))
            exact HPV.out.fr h1 (fun j hj => by have e := List.mem_singleton.1 hj; have h1 := HF4.out.size; rw [HZ0.out] at h1; omega))
           have HW11 := Lib.hid hw11
           clear hb10 hT10 hp10 hw11 u9
           go_upto_region 26 with fail
           rw [HW11.out]
           obtain ⟨pvo, hpvo⟩ := HPV11.out.form
           subst hpvo
           obtain ⟨np, hnp⟩ : ∃ l, (partF hh).length = l := ⟨_, rfl⟩
           rw [hnp] at HPV11 ⊢
           have HNPP := Lib.hid hnp
           have hnp3 : np ≤ 1000 := by rw [← hnp]; obtain ⟨x', y', z'⟩ := hh; cases x' <;> cases y' <;> cases z' <;> decide
           have s3 : w11.cell? ⟨w.heap.size, 3, none⟩ = some (.slice vo n cap) := cell_fr HF11.out (by simpa using HWB.out) (cell_of_row w0 w.heap.size 3 _ _ _ HB0.out)
           have wnp : IntKind.i64.wrap (2 + (np : Int)) = 2 + (np : Int) := IntWalk.i64_in _ (by omega)
           obtain ⟨dn, hdn⟩ : ∃ b, ((n : Int) == 2 + (np : Int)) = b := ⟨_, rfl⟩
           have hdn2 : decide (n = 2 + np) = dn := by rw [← hdn, Bool.eq_iff_iff, beq_iff_eq, decide_eq_true_eq]; omega
           have HDN := Lib.hid hdn2
           clear hnp hdn2 t0 t1 k5 k6 k7 z5 z6 z7 hwa
           have HOK0 : Hid (∀ b, b = (ab && dn) → b = ((wholeE u2 0 3).isSome && decide (x.segs.length = 2 + (partF hh).length))) := Lib.hid (fun b hb => by rw [hb, HAB.out, HN.out, HNPP.out, HDN.out])
           obtain ⟨m0, hm0⟩ : ∃ m : MD, (⟨kn, pc, ps, an, cd0, 0, 0⟩ : MD) = m := ⟨_, rfl⟩
           obtain ⟨pre, hpre⟩ : ∃ l : List Value, [.int .u8 (x.fr : Int), .int .u8 (x.dst : Int), .bool false, .int .u64 (x.rf : Int)] = l := ⟨_, rfl⟩
           have HRM : Hid (MRow pre 38 m0 B2 w11) := Lib.hid (by unfold MRow; rw [← hm0, ← hpre]; exact HP11.out)
           have hpl : pre.length = 4 := by rw [← hpre]; rfl
           have HPL := Lib.hid hpl
           have HPRE := Lib.hid hpre
           have HM0 := Lib.hid hm0
           have HMAIN : Hid (∀ st : Bool × MD, st = readN x hh np ((wholeE u2 0 3).isSome && decide (x.segs.length = 2 + (partF hh).length), m0) → packetM x = if st.1 = true then (⟨x.fr, x.dst, false, x.rf, st.2⟩, 0) else (pd0, 101)) := Lib.hid (fun st hst => by
            refine pm_main HH.out HA.out HM.out HWU.out (hh := hh) (by simpa using HKK.out) HY.out (by rw [HPK.out]) ?_
            rw [HPK.out, HAN.out, hst, ← HM0.out, HNPP.out]
            rfl)
           clear hm0 hpre hpl
           cases ab
           all_goals
            go_upto_region 27 with fail
            go_wp2_with fail
            go_loopw [6, 127] (fun okv iv wx => ∃ (i : Nat) (ok : Bool) (md : MD), i ≤ np ∧ iv = .int .i64 (i : Int) ∧ okv = .bool ok ∧ Hid (PInv x hh ((wholeE u2 0 3).isSome && decide (x.segs.length = 2 + (partF hh).length), m0) pre B2 w11 i ok md wx)) (fun _ iv _ => np - (intOf iv).toNat)
            case atStart => exact ⟨0, _, _, by omega, rfl, rfl, Lib.hid ⟨by rw [← HOK0.out _ rfl]; rfl, HRM.out, Fr.trans (F := [B2]) (Below.fr (Below.refl _ _) (Nat.le_refl _) [B2]) (Below.fr (Below.refl _ _) (Nat.le_refl _) [B2])⟩⟩
            case round =>
             obtain ⟨i, ok, md, hi, rfl, rfl, HW⟩ := hrel
             by_cases hlt : i < np
             · skip
               obtain ⟨⟨tag, fs⟩, hq⟩ : ∃ q, (partF hh)[i]? = some q := ⟨_, List.getElem?_eq_getElem (by rw [HNPP.out]; exact hlt)⟩
               obtain ⟨pb, fv, rfl, hpb, ct, cf, hF⟩ := HPV11.out.get hq
               obtain ⟨fb, rfl, hfb, hFx⟩ := hF
               have hw4 : B2 < w4.heap.size := by have h1 := HF4.out.size; rw [HZ0.out] at h1; omega
               have nB : ∀ {g : Nat}, w4.heap.size ≤ g → g ∉ [B2] := fun hg hm => by
                have e := List.mem_singleton.1 hm
                omega
               have ct := cell_fr HW.out.fr (nB hpb) ct
               have cf := cell_fr HW.out.fr (nB hpb) cf
               have HFX := Lib.hid hFx
               obtain ⟨stg, hstg⟩ : ∃ s : ByteArray, (⟨tag.toArray⟩ : ByteArray) = s := ⟨_, rfl⟩
               unfold sv at ct
               simp only at ct cf
               rw [hstg] at ct
               obtain ⟨fl, hfl⟩ : ∃ l, fs.length = l := ⟨_, rfl⟩
               rw [hfl] at cf
               have hfl6 : fl ≤ 6 := by rw [← hfl]; exact partF_len hh _ (List.mem_of_getElem? hq)
               have HFL := Lib.hid hfl
               have HQK := Lib.hid hq
               have HSTG := Lib.hid hstg
               have a1 : (i : Int) < (np : Int) := by omega
               have a2 : (0 : Int) ≤ (i : Int) := by omega
               obtain ⟨Dx, hDx⟩ : ∃ D, wr.heap.size = D := ⟨_, rfl⟩
               obtain ⟨wx1, hwx1⟩ : ∃ w', wr.alloc (.cells #[.string stg, .slice (some ⟨fb, 0, none⟩) fl fl] 103) = w' := ⟨_, rfl⟩
               have hzx1 : wx1.heap.size = Dx + 1 := by rw [← hwx1, ← hDx]; simp
               have HBX1 : Hid (Below Dx wr wx1) := Lib.hid (by rw [← hwx1, ← hDx]; exact (Below.refl _ _).alloc (Nat.le_refl _) _)
               have hrx : wx1.heap[Dx]? = some (.cells #[.string stg, .slice (some ⟨fb, 0, none⟩) fl fl] 103 (0, 0)) := by rw [← hwx1, ← hDx]; exact heap_alloc_new _ _
               have HR1x := Lib.hid hrx
               have x0 : wx1.cell? ⟨Dx, 0, none⟩ = some (.string stg) := cell_of_row wx1 Dx 0 _ _ _ hrx
               have x1 : wx1.cell? ⟨Dx, 1, none⟩ = some (.slice (some ⟨fb, 0, none⟩) fl fl) := cell_of_row wx1 Dx 1 _ _ _ hrx
               have hBD : B2 < Dx := by rw [← hDx]; exact HW.out.row.lt
               have HDX := Lib.hid hDx
               have HZX := Lib.hid hzx1
               have HWX1 := Lib.hid hwx1
               have HF1x : Hid (Fr [B2] w0 wx1) := Lib.hid (Fr.trans (F := [B2]) HF11.out (Fr.trans (F := [B2]) HW.out.fr (Below.fr HBX1.out (by rw [HDX.out]; exact Nat.le_refl _) [B2])))
               have HF11x : Hid (Fr [B2] w11 wx1) := Lib.hid (Fr.trans (F := [B2]) HW.out.fr (Below.fr HBX1.out (by rw [HDX.out]; exact Nat.le_refl _) [B2]))
               have s4 : wx1.cell? ⟨w.heap.size, 3, none⟩ = some (.slice vo n cap) := cell_fr HF1x.out (by simpa using HWB.out) (cell_of_row w0 w.heap.size 3 _ _ _ HB0.out)
               have HMx1 : Hid (MRow pre 38 md B2 wx1) := Lib.hid ((HBX1.out.block B2 hBD).trans HW.out.row)
               have HSGx : Hid (SegsAt S wx1 (.slice vo n cap) x.segs) := Lib.hid (HSG0.out.cong (fun _ hk => hk) (fun k hk => HF1x.out.block k (HS0.out k hk) (by have := HS.out k hk; simp; omega)))
               have HSx : Hid (∀ k, S k → k < wx1.heap.size) := Lib.hid (fun k hk => Nat.lt_of_lt_of_le (HS0.out k hk) HF1x.out.size)
               have HWD : Hid (Calls Tryz.prog 52 #[.slice vo n cap, .int .i64 (2 + (i : Int)), .string stg, .int .i64 (fl : Int)] wx1 fun e w' => WordsQ (segO x (2 + i) tag fl) wx1 e w') := Lib.hid (by
                have h1 := words_any x.segs _ wx1 HSGx.out HSx.out (2 + i) fl tag stg HSTG.out (by omega) (by omega)
                rw [show ((2 + i : Nat) : Int) = 2 + (i : Int) by omega] at h1
                exact h1)
               have wi2 : IntKind.i64.wrap (2 + (i : Int)) = 2 + (i : Int) := IntWalk.i64_in _ (by omega)
               clear hstg hfl hq hDx hwx1 hzx1 hrx hFx s3
               go_upto_region 30 with fail
               rw [HWX1.out, HDX.out]
               go_wp2_with fail
               refine HWD.out.mono ?_
               rintro e wy ⟨lv, bb, rfl, hby, hor⟩
               have HBY := Lib.hid hby
               have HOR := Lib.hid hor
               clear hby hor x0 ct cf wi2 s4
               obtain ⟨l, HLL⟩ : ∃ l : List Str, Hid (CompsAt (fun b => wx1.heap.size ≤ b ∧ b < wy.heap.size) wy lv l ∧ l.length ≤ fl ∧ (∀ st : Bool × MD, readP st ((tag, fs), x.segs[2 + i]?) = (fs.zip l).foldl readF (st.1 && bb, st.2)) ∧ ∀ c ∈ l, c.length ≤ 1048576) := by
                rcases HOR.out with ⟨ws, hws, rfl, hc⟩ | ⟨hno, rfl, rfl⟩
                · refine ⟨ws, Lib.hid ⟨hc, Nat.le_of_eq (segO_len hws), fun st => ?_, ?_⟩⟩
                  · unfold readP
                    have h1 : (x.segs[2 + i]?).bind (fun s => wordsS s tag fs.length) = some ws := by rw [HFL.out]; exact hws
                    simp only [h1, Bool.and_true]
                  · have h1 := hws
                    unfold segO at h1
                    obtain ⟨s, h2, h3⟩ := bind_some h1
                    have h4 := (wordsS_inj h3).1
                    have h5 := HL.out s (List.mem_of_getElem? h2)
                    rw [h4] at h5
                    unfold wordSeg at h5
                    exact fun c hc' => h5 [c] (List.mem_map.2 ⟨c, hc', rfl⟩) c (by simp)
                · refine ⟨[], Lib.hid ⟨RowAt.nil _ _, Nat.zero_le _, fun st => ?_, fun c hc' => by cases hc'⟩⟩
                  unfold readP
                  have h1 : (x.segs[2 + i]?).bind (fun s => wordsS s tag fs.length) = none := by rw [HFL.out]; exact hno
                  simp only [h1, Bool.and_false, List.zip_nil_right, List.foldl_nil]
               obtain ⟨lo, lc, hlv, hl1, hl2⟩ := HLL.out.1.form
               subst hlv
               obtain ⟨ln, hln⟩ : ∃ m, l.length = m := ⟨_, rfl⟩
               have HLN := Lib.hid hln
               rw [hln] at hl1 HLL ⊢
               unfold maxLen at hl2
               have hln6 : ln ≤ fl := HLL.out.2.1
               have HFy : Hid (Fr [B2] w0 wy) := Lib.hid (Fr.trans (F := [B2]) HF1x.out (Below.fr HBY.out (Nat.le_refl _) [B2]))
               have HMy : Hid (MRow pre 38 md B2 wy) := Lib.hid ((HBY.out.block B2 HMx1.out.lt).trans HMx1.out)
               have HF11y : Hid (Fr [B2] w11 wy) := Lib.hid (Fr.trans (F := [B2]) HF11x.out (Below.fr HBY.out (Nat.le_refl _) [B2]))
               have HX1 : Hid (wy.cell? ⟨Dx, 1, none⟩ = some (.slice (some ⟨fb, 0, none⟩) fl fl)) := Lib.hid ((HBY.out.cell (p := ⟨Dx, 1, none⟩) (cell_lt' x1)).trans x1)
               clear hln x1
               obtain ⟨o1, ho1⟩ : ∃ b, (ok && bb) = b := ⟨_, rfl⟩
               have HO1 := Lib.hid ho1
               have HSTEP : Hid (∀ q : Bool × MD, q = (fs.zip l).foldl readF (o1, md) → q = readN x hh (i + 1) ((wholeE u2 0 3).isSome && decide (x.segs.length = 2 + (partF hh).length), m0)) := Lib.hid (fun q hq' => by
                have h1 := HLL.out.2.2.1 (ok, md)
                rw [readN_succ, ← HW.out.st, HQK.out]
                rw [hq', ← ho1]
                exact h1.symm)
               clear ho1
               cases ok
               all_goals
                go_wp2_with fail
                go_loopw [6, 151] (fun okv jv wz => ∃ (j : Nat) (okj : Bool) (mdj : MD), j ≤ ln ∧ jv = .int .i64 (j : Int) ∧ okv = .bool okj ∧ Hid (QInv fs l (o1, md) pre B2 wy j okj mdj wz)) (fun _ jv _ => ln - (intOf jv).toNat)
                case atStart => exact ⟨0, _, _, by omega, rfl, rfl, Lib.hid ⟨by rw [← HO1.out]; rfl, HMy.out, Fr.trans (F := [B2]) (Below.fr (Below.refl _ _) (Nat.le_refl _) [B2]) (Below.fr (Below.refl _ _) (Nat.le_refl _) [B2])⟩⟩
                case round =>
                 obtain ⟨j, okj, mdj, hj, rfl, rfl, HJ⟩ := hrel
                 by_cases hjl : j < ln
                 · skip
                   obtain ⟨f, hf⟩ : ∃ f, fs[j]? = some f := ⟨_, List.getElem?_eq_getElem (by rw [HFL.out]; omega)⟩
                   obtain ⟨sw, hsw⟩ : ∃ s, l[j]? = some s := ⟨_, List.getElem?_eq_getElem (by rw [HLN.out]; exact hjl)⟩
                   obtain ⟨lb, lof, rfl, hlb, hcl⟩ := HLL.out.1.get hsw
                   have hlbB : lb ∉ [B2] := fun hm => by
                    have e := List.mem_singleton.1 hm
                    have h1 := hlb.1
                    rw [HZX.out] at h1
                    omega
                   have hDxB : Dx ∉ [B2] := fun hm => by
                    have e := List.mem_singleton.1 hm
                    omega
                   have cl := cell_fr HJ.out.fr hlbB hcl
                   have cd := cell_fr HJ.out.fr hDxB HX1.out
                   have HF11r : Hid (Fr [B2] w11 wr) := Lib.hid (Fr.trans (F := [B2]) HF11y.out HJ.out.fr)
                   obtain ⟨xv, yv, _, cy, a, hab, rfl, rfl, hca⟩ := HFX.out j f hf
                   have cy := cell_fr HF11r.out (nB hfb) cy
                   have hca := hca.fr HF11r.out (fun b hb' => by (have e := List.mem_singleton.1 hb'); omega)
                   obtain ⟨sj, hsj⟩ : ∃ s : ByteArray, (⟨sw.toArray⟩ : ByteArray) = s := ⟨_, rfl⟩
                   unfold sv at cl
                   rw [hsj] at cl
                   have hsl : sj.data.toList = sw := by rw [← hsj]
                   have hsz : sj.size ≤ 1048576 := by
                    have e : sj.size = sw.length := by rw [← hsj]; rfl
                    rw [e]; exact HLL.out.2.2.2 sw (List.mem_of_getElem? hsw)
                   have HFr0 : Hid (Fr [B2] w0 wr) := Lib.hid (Fr.trans (F := [B2]) HFy.out HJ.out.fr)
                   have hVr : VarsOk wr := HV.out.on (HBw0.out.trans (HFr0.out.belowB (by rw [HZ0.out]; omega) (fun b hb' => by (have e := List.mem_singleton.1 hb'); omega))) (Nat.le_refl _)
                   have hrd := read_any f pre 38 mdj sj hsz B2 a wr hVr HJ.out.row hca
                   rw [HPL.out, hsl] at hrd
                   have HRD := Lib.hid hrd
                   have HFJ := Lib.hid hf
                   have HSJ := Lib.hid hsw
                   have b1 : (j : Int) < (ln : Int) := by omega
                   have b1' : (j : Int) < (fl : Int) := by omega
                   have b2 : (0 : Int) ≤ (j : Int) := by omega
                   have hcr := cf_read f
                   clear hrd hf hsw hcl hca hsj hsl hsz hVr
                   go_wp2_with fail
                   refine HRD.out.mono ?_
                   rintro e wz ⟨rfl, hmz, hfz⟩
                   have HMZ := Lib.hid hmz
                   have HFZ := Lib.hid hfz
                   clear hmz hfz cl cd cy
                   have hzip : (fs.zip l).take (j + 1) = (fs.zip l).take j ++ [(f, sw)] := by
                    have hz : (fs.zip l)[j]? = some (f, sw) := List.getElem?_zip_eq_some.2 ⟨HFJ.out, HSJ.out⟩
                    rw [List.take_add_one, hz]
                    rfl
                   have HZIP := Lib.hid hzip
                   clear hzip
                   cases hw : wholeE sw f.bnd.1 f.bnd.2 with
                   | none =>
                     have HWN := Lib.hid hw
                     rw [Option.isSome_none]
                     clear hw
                     go_wp2_with fail
                     go_roundw
                     case rel =>
                      refine ⟨j + 1, false, f.set 0 mdj, by omega, by go_num, rfl, Lib.hid ⟨?_, ?_, Fr.trans (F := [B2]) HJ.out.fr HFZ.out⟩⟩
                      · rw [HZIP.out, List.foldl_append, ← HJ.out.st]
                        show _ = readF (okj, mdj) (f, sw)
                        unfold readF
                        simp only [HWN.out]
                      · have h1 := HMZ.out
                        rw [HWN.out] at h1
                        exact h1
                     case measure => simp [intOf]; omega
                   | some vv =>
                     have HWN := Lib.hid hw
                     rw [Option.isSome_some]
                     clear hw
                     go_wp2_with fail
                     go_roundw
                     case rel =>
                      refine ⟨j + 1, okj, f.set vv mdj, by omega, by go_num, rfl, Lib.hid ⟨?_, ?_, Fr.trans (F := [B2]) HJ.out.fr HFZ.out⟩⟩
                      · rw [HZIP.out, List.foldl_append, ← HJ.out.st]
                        show _ = readF (okj, mdj) (f, sw)
                        unfold readF
                        simp only [HWN.out]
                      · have h1 := HMZ.out
                        rw [HWN.out] at h1
                        exact h1
                     case measure => simp [intOf]; omega
                 · skip
                   obtain rfl : j = ln := by omega
                   have hzl : (fs.zip l).take j = fs.zip l := List.take_of_length_le (by rw [List.length_zip, HLN.out]; omega)
                   have hst := HJ.out.st
                   rw [hzl] at hst
                   have HWN : Hid (PInv x hh ((wholeE u2 0 3).isSome && decide (x.segs.length = 2 + (partF hh).length), m0) pre B2 w11 (i + 1) okj mdj wr) := Lib.hid (by
                    exact ⟨HSTEP.out _ hst, HJ.out.row, Fr.trans (F := [B2]) HF11y.out HJ.out.fr⟩)
                   have hib : (i : Int) ≤ 1000 := by omega
                   clear hst hzl
                   go_wp2_with fail
                   go_roundw
                   case rel => exact ⟨i + 1, okj, mdj, by omega, by go_num, rfl, HWN⟩
                   case measure => simp [intOf]; omega
             · skip
               obtain rfl : i = np := by omega
               have HST := Lib.hid (HMAIN.out _ HW.out.st)
               have HFW : Hid (Fr [B2] w0 wr) := Lib.hid (Fr.trans (F := [B2]) HF11.out HW.out.fr)
               have HRW := HW.out.row
               cases ok with
               | false =>
                 have HQ : Hid (packetM x = (pd0, 101)) := Lib.hid (by rw [HST.out]; rfl)
                 have hr := (HFW.out.block B1 (by rw [HZ0.out]; omega) (by simp; omega)).trans HR0.out
                 have HR := Lib.hid hr
                 clear hr
                 go_wp2_with ((with_reducible refine wpList_at (.store 38 (.tmp 2) _) rfl ?_); go_loud (refine wpList_store_agg rfl _ _ _ rfl B1 0 pkz rfl rfl (there_of HR.out 16 (by decide)) (by kernel_rfl) rfl ?_))
                 refine bodyPost_ret (res_pkt rfl _ rfl rfl (putL_heap (cs := pkz) HR.out pkz rfl) rfl) rfl ?_
                 exact pq_err HQ.out (putL_below hwB1 _ _ _ (HBw0.out.trans (HFW.out.belowB (by rw [HZ0.out]; omega) (fun b hb' => by have e := List.mem_singleton.1 hb'; omega))))
               | true =>
                 have hr := (HFW.out.block B1 (by rw [HZ0.out]; omega) (by simp; omega)).trans HR0.out
                 have HR := Lib.hid hr
                 have hrp : wr.heap[B2]? = some (.cells (pktA ⟨x.fr, x.dst, false, x.rf, md⟩).toArray 38 (0, 0)) := by
                  have h1 := HRW
                  unfold MRow at h1
                  rw [← HPRE.out] at h1
                  exact h1
                 have HRP := Lib.hid hrp
                 clear hr hrp
                 go_wp2_with (first | ((with_reducible refine wpList_at (.load 38 (.tmp 4)) rfl ?_); go_loud (refine wpList_load_row rfl _ _ rfl B2 rfl 38 _ (0, 0) _ HRP.out Tryz.underlying38 rfl (by kernel_rfl) ?_)) | ((with_reducible refine wpList_at (.store 38 (.tmp 2) _) rfl ?_); go_loud (refine wpList_store_agg rfl _ _ _ rfl B1 0 (pktA ⟨x.fr, x.dst, false, x.rf, md⟩) rfl rfl (there_of HR.out 16 (by decide)) (by kernel_rfl) rfl ?_)))
                 refine bodyPost_ret (res_pkt rfl _ rfl rfl (putL_heap (cs := pkz) HR.out (pktA ⟨x.fr, x.dst, false, x.rf, md⟩) rfl) rfl) rfl ?_
                 unfold PacketQ
                 rw [HST.out]
                 exact ⟨rfl, putL_below hwB1 _ _ _ (HBw0.out.trans (HFW.out.belowB (by rw [HZ0.out]; omega) (fun b hb' => by have e := List.mem_singleton.1 hb'; omega)))⟩
         · have hpe1 : (pe != 0) = true := by rw [bne_iff_ne]; exact hpe
           have HQ : Hid (packetM x = (pd0, pe)) := Lib.hid (by
            have h1 := pm_tick HH.out HA.out HM.out HWU.out (hh := hh) (by simpa using HKK.out) HY.out (by rw [HPK.out]; exact hpe)
            rw [HPK.out] at h1; exact h1)
           have hr := (HF9.out.block B1 (by rw [HZ0.out]; omega) (by simp; omega)).trans HR0.out
           have HR := Lib.hid hr
           clear hr
           go_wp2_with ((with_reducible refine wpList_at (.store 38 (.tmp 2) _) rfl ?_); go_loud (refine wpList_store_agg rfl _ _ _ rfl B1 0 pkz rfl rfl (there_of HR.out 16 (by decide)) (by kernel_rfl) rfl ?_))
           refine bodyPost_ret (res_pkt rfl _ rfl rfl (putL_heap (cs := pkz) HR.out pkz rfl) rfl) rfl ?_
           exact pq_err HQ.out (putL_below hwB1 _ _ _ (HBw0.out.trans (HF9.out.belowB (by rw [HZ0.out]; omega) (fun b hb' => by have e := List.mem_singleton.1 hb'; omega))))
       · have HQ := Lib.hid (pm_key HH.out HA.out HM.out HWU.out (hh := hh) (by simpa using HKK.out) hno)
         clear hno
         have hr := (HF7.out.block B1 (by rw [HZ0.out]; omega) (by simp; omega)).trans HR0.out
         have HR := Lib.hid hr
         clear hr
         go_wp2_with ((with_reducible refine wpList_at (.store 38 (.tmp 2) _) rfl ?_); go_loud (refine wpList_store_agg rfl _ _ _ rfl B1 0 pkz rfl rfl (there_of HR.out 16 (by decide)) (by kernel_rfl) rfl ?_))
         refine bodyPost_ret (res_pkt rfl _ rfl rfl (putL_heap (cs := pkz) HR.out pkz rfl) rfl) rfl ?_
         exact pq_err HQ.out (putL_below hwB1 _ _ _ (HBw0.out.trans (HF7.out.belowB (by rw [HZ0.out]; omega) (fun b hb' => by have e := List.mem_singleton.1 hb'; omega))))
   · have HQ := Lib.hid (pm_msg HH.out HA.out hno)
     clear hno
     have hr := (HF3.out.block B1 (by rw [HZ0.out]; omega) (by simp; omega)).trans HR0.out
     have HR := Lib.hid hr
     clear hr
     go_wp2_with ((with_reducible refine wpList_at (.store 38 (.tmp 2) _) rfl ?_); go_loud (refine wpList_store_agg rfl _ _ _ rfl B1 0 pkz rfl rfl (there_of HR.out 16 (by decide)) (by kernel_rfl) rfl ?_))
     refine bodyPost_ret (res_pkt rfl _ rfl rfl (putL_heap (cs := pkz) HR.out pkz rfl) rfl) rfl ?_
     exact pq_err HQ.out (putL_below hwB1 _ _ _ (HBw0.out.trans (HF3.out.belowB (by rw [HZ0.out]; omega) (fun b hb' => by have e := List.mem_singleton.1 hb'; omega))))
set_option maxRecDepth 100000 in
set_option maxHeartbeats 4000000 in
theorem mpacket_car (x : WD) (v : Value) (h : 8 ≤ x.fr ∨ 8 ≤ x.dst) (w : World) : Calls Tryz.prog 19 #[wv x v] w fun e w' => PacketQ x w e w' := by
 have HQ := Lib.hid (pm_car h)
 have hb : (decide (x.fr < 8) && decide (x.dst < 8)) = false := by simp; omega
 unfold wv
 clear h
 go_enter Tryz.func19, Tryz.ntmps19
 go_wp2_with (go_at_call 41; refine (carriers_any _ _ _).mono ?_; rw [hb]; rintro e w' ⟨rfl, rfl⟩)
 refine bodyPost_ret (res_pkt rfl _ rfl rfl ((Below.heap_alloc _ _ _ (by simp)).trans (heap_alloc_at (by simp))) rfl) rfl ?_
 exact pq_err HQ.out ((((Below.refl _ _).alloc (Nat.le_refl _) _).alloc (by simp) _).alloc (by simp only [World.size_alloc]; omega) _)
theorem mPacket_any {S : Nat → Prop} (x : WD) (v : Value) (w : World) (hv : VarsOk w) (hs : SegsAt S w v x.segs) (hS : ∀ k, S k → k < w.heap.size) (hL : wordsLim x) : Calls Tryz.prog 19 #[wv x v] w fun e w' => PacketQ x w e w' := by
 by_cases h : 8 ≤ x.fr ∨ 8 ≤ x.dst
 · exact mpacket_car x v h w
 · exact mpacket_main x v h w hv hs hS hL
end Go.Proofs.YtgfijlamhjjecaaGreatDoor
namespace Go.Proofs.YtgfijlamhjjecaaGreatDoor
def AtR (T : Str) (c : EC) (k : Nat) : Prop := runE (.btw []) 0 T = runE c k (T.drop k)
theorem AtR.start (T : Str) : AtR T (.btw []) 0 := rfl
theorem drop_at {T : Str} {k : Nat} {b : UInt8} (h : T[k]? = some b) : T.drop k = b :: T.drop (k + 1) := by
 obtain ⟨hl, he⟩ := List.getElem?_eq_some_iff.1 h
 rw [List.drop_eq_getElem_cons hl, he]
theorem AtR.step {T : Str} {c c' : EC} {k : Nat} {b : UInt8} (h : AtR T c k) (hb : T[k]? = some b) (hs : stepE c b = .ok c') : AtR T c' (k + 1) := by
 unfold AtR at h ⊢
 rw [h, drop_at hb]
 simp only [runE, hs]
theorem AtR.err {T : Str} {c : EC} {k : Nat} {b : UInt8} {e : Int} (h : AtR T c k) (hl : T.length ≤ 65536) (hb : T[k]? = some b) (hs : stepE c b = .err e) : parseE T = ([], k, e) := by
 unfold AtR at h
 rw [parseE_ok hl, h, drop_at hb]
 simp only [runE, hs]
theorem AtR.ends {T : Str} {c : EC} (h : AtR T c T.length) (hl : T.length ≤ 65536) (ho : isBtw c = false) : parseE T = ([], T.length, 31) := by
 unfold AtR at h
 rw [parseE_ok hl, h, List.drop_length]
 cases c <;> simp [isBtw, runE] at ho ⊢
theorem AtR.done {T : Str} {l : List Seg} (h : AtR T (.btw l) T.length) (hl : T.length ≤ 65536) : parseE T = (l, 0, 0) := by
 unfold AtR at h
 rw [parseE_ok hl, h, List.drop_length]
 rfl
theorem st_58 {l : List Seg} {t : Str} {es : List (List Str)} {cs : List Str} {p : Str} (h : cs.length + 1 ≠ 8) : stepE (.cmp l t es cs p) 58 = .ok (.cmp l t es (cs ++ [p]) []) := by simp [stepE, signB, signS, h]
theorem st_58l {l : List Seg} {t : Str} {es : List (List Str)} {cs : List Str} {p : Str} (h : cs.length + 1 = 8) : stepE (.cmp l t es cs p) 58 = .err 2 := by simp [stepE, signB, signS, h]
end Go.Proofs.YtgfijlamhjjecaaGreatDoor
namespace Go.Proofs.YtgfijlamhjjecaaGreatDoor
open Go.RowKit
structure SG (H sp : Nat) (st : ByteArray) (w : World) (ev cv : Value) (ys : List Value) (es : List (List Str)) (cs : List Str) : Prop where
 row : w.ownsRow H 58 1 ev (es.length + 1) (ys ++ [cv])
 len : ys.length = es.length
 c : w.heap[sp]? = some (.cells #[.string st, ev] 94 (0, 0))
 co : w.ownsRow H 9 1 cv cs.length (cs.map sv)
 el : ∀ (i : Nat) (e : List Str) (x : Value), es[i]? = some e → ys[i]? = some x → CompsAt (fun b => H ≤ b ∧ b < w.heap.size ∧ ev.ownBlock ≠ some b ∧ cv.ownBlock ≠ some b ∧ b ≠ sp) w x e
section
variable {H sp : Nat} {st : ByteArray} {w w' : World} {ev cv : Value} {ys : List Value} {es : List (List Str)} {cs : List Str}
theorem SG.close (h : SG H sp st w ev cv ys es cs) : OE H sp st w ev (ys ++ [cv]) (es ++ [cs]) := by
 refine ⟨by rw [List.length_append]; exact h.row, by simp [h.len], h.c, fun i e x h1 h2 => ?_⟩
 rcases row_snoc h1 with h1 | ⟨rfl, rfl⟩
 · have hil := (List.getElem?_eq_some_iff.1 h1).1
   rw [List.getElem?_append_left (by rw [h.len]; exact hil)] at h2
   exact (h.el i e x h1 h2).cong (fun b hb => ⟨hb.1, hb.2.1, hb.2.2.1, hb.2.2.2.2⟩) (fun _ _ => rfl)
 · rw [← h.len, List.getElem?_append_right (Nat.le_refl _), Nat.sub_self] at h2
   cases h2
   have hco : w.ownsRow H 9 1 cv (e.map sv).length (e.map sv) := by rw [List.length_map]; exact h.co
   exact own_rest hco (fun k hk => ⟨(own_lt h.co hk).1, (own_lt h.co hk).2, own_ne h.co h.row (by decide) hk, fun e => own_not h.co h.c (by decide) (e ▸ hk)⟩)
theorem SG.of (h : OE H sp st w ev (ys ++ [.slice none 0 0]) (es ++ [[]])) (hl : ys.length = es.length) : SG H sp st w ev (.slice none 0 0) ys es [] := by
 refine ⟨by have := h.row; rw [List.length_append] at this; exact this, hl, h.c, World.ownsRow_nil _ _ _ _, fun i e x h1 h2 => ?_⟩
 have hil := (List.getElem?_eq_some_iff.1 h1).1
 have h3 := h.el i e x (by rw [List.getElem?_append_left hil]; exact h1) (by rw [List.getElem?_append_left (by rw [hl]; exact hil)]; exact h2)
 exact h3.cong (fun b hb => ⟨hb.1, hb.2.1, hb.2.2.1, by simp [Value.ownBlock], hb.2.2.2⟩) (fun _ _ => rfl)
theorem SG.drew (h : SG H sp st w ev cv ys es cs) (e : w'.heap = w.heap) : SG H sp st w' ev cv ys es cs :=
 ⟨own_cong h.row (fun k _ => by rw [e]), h.len, by rw [e]; exact h.c, own_cong h.co (fun k _ => by rw [e]), fun i e' x h1 h2 => (h.el i e' x h1 h2).cong (fun k hk => by rw [e]; exact hk) (fun k _ => by rw [e])⟩
theorem SG.below (h : SG H sp st w ev cv ys es cs) (hb : Below w.heap.size w w') : SG H sp st w' ev cv ys es cs :=
 ⟨own_cong h.row (fun k hk => hb.block k (own_lt h.row hk).2), h.len, (hb.block sp (Array.getElem?_eq_some_iff.1 h.c).1).trans h.c, own_cong h.co (fun k hk => hb.block k (own_lt h.co hk).2), fun i e' x h1 h2 => (h.el i e' x h1 h2).cong (fun k hk => ⟨hk.1, by have := hb.size; omega, hk.2.2⟩) (fun k hk => hb.block k hk.2.1)⟩
theorem OE.below (h : OE H sp st w ev ys es) (hb : Below w.heap.size w w') : OE H sp st w' ev ys es :=
 ⟨own_cong h.row (fun k hk => hb.block k (own_lt h.row hk).2), h.len, (hb.block sp h.lt).trans h.c, fun i e' x h1 h2 => (h.el i e' x h1 h2).cong (fun k hk => ⟨hk.1, by have := hb.size; omega, hk.2.2⟩) (fun k hk => hb.block k hk.2.1)⟩
theorem SG.form (h : SG H sp st w ev cv ys es cs) : ∃ g cap ca cc, ev = .slice (some ⟨g, 0, none⟩) (es.length + 1) cap ∧ es.length + 1 ≤ cap ∧ cap ≤ maxLen ∧ cv = .slice ca cs.length cc ∧ w.cell? ⟨g, es.length, none⟩ = some cv ∧ w.frozen? ⟨g, es.length, none⟩ = false ∧ H ≤ g ∧ g < w.heap.size ∧ g ≠ sp := by
 have hr := h.row
 obtain ⟨g, cap, cur, rfl, hg, hh, hc, hm, _⟩ := own_form hr (by omega) (by omega)
 obtain ⟨ca, cc, rfl⟩ := own_slice h.co
 refine ⟨g, cap, ca, cc, rfl, hc, hm, rfl, own_cell hr (by rw [← h.len, List.getElem?_append_right (Nat.le_refl _), Nat.sub_self]; rfl), own_frozen hr _, hg, (Array.getElem?_eq_some_iff.1 hh).1, fun e => by subst e; exact own_not hr h.c (by decide) rfl⟩
end
theorem OE.rest {H sp : Nat} {st : ByteArray} {w : World} {ev : Value} {ys : List Value} {es : List (List Str)} (h : OE H sp st w ev ys es) : ElemsAt (fun b => H ≤ b ∧ b < w.heap.size) w ev es :=
 ⟨ys, own_rest (by rw [h.len]; exact h.row) (fun _ hk => own_lt h.row hk), h.len, fun i e x h1 h2 => (h.el i e x h1 h2).cong (fun _ hb => ⟨hb.1, hb.2.1⟩) (fun _ _ => rfl)⟩
def SBox (w : World) (b : Nat) (tb : ByteArray) (ev : Value) : Prop := w.heap[b]? = some (.cells #[.string tb, ev] 94 (0, 0))
def RHead (T : Str) (l : List Seg) (H sp : Nat) (tb : ByteArray) (w : World) (q : Nat) (c : UInt8) : Prop :=
 (SBox w sp tb (.slice none 0 0) ∧ AtR T (.bhd l tb.data.toList) q ∧ (c = 43 ∨ c = 39)) ∨
 (∃ es cs p ev cv ys, SG H sp tb w ev cv ys es (cs ++ [p]) ∧ es.length ≤ 15 ∧ cs.length ≤ 7 ∧ AtR T (.cmp l tb.data.toList es cs p) q ∧ (c = 43 ∨ c = 58 ∨ c = 39))
theorem RHead.colon {T : Str} {l : List Seg} {H sp : Nat} {tb : ByteArray} {w : World} {q : Nat} (h : RHead T l H sp tb w q 58) (hc : T[q]? = some 58) (hl : T.length ≤ 65536) : ∃ es cs ev cv ys, SG H sp tb w ev cv ys es cs ∧ es.length ≤ 15 ∧ cs.length ≤ 8 ∧ (cs.length = 8 → parseE T = ([], q, 2)) ∧ (cs.length ≠ 8 → AtR T (.cmp l tb.data.toList es cs []) (q + 1)) := by
 rcases h with ⟨h1, h2, h3⟩ | ⟨es, cs, p, ev, cv, ys, h1, h3, h4, h2, _⟩
 · rcases h3 with h3 | h3 <;> exact absurd h3 (by decide)
 · refine ⟨es, cs ++ [p], ev, cv, ys, h1, h3, by simp; omega, fun h => ?_, fun h => ?_⟩
   · exact h2.err hl hc (st_58l (by simpa using h))
   · exact h2.step hc (st_58 (by simpa using h))
def uv64 (v : Nat) : Value := .int .u64 (v : Int)
def U64s (w : World) (B : Nat) (v : Value) (ls : List Nat) : Prop := w.ownsRow B 22 1 v ls.length (ls.map uv64)
theorem U64s.cells {w : World} {B : Nat} {v : Value} {ls : List Nat} (h : U64s w B v ls) (hl : 0 < ls.length) : ∃ g cap, v = .slice (some ⟨g, 0, none⟩) ls.length cap ∧ ls.length ≤ cap ∧ cap ≤ maxLen ∧ B ≤ g ∧ g < w.heap.size ∧ ∀ (i u : Nat), ls[i]? = some u → w.cell? ⟨g, i, none⟩ = some (.int .u64 (u : Int)) := by
 obtain ⟨g, cap, cur, rfl, hg, hh, hc, hm, _⟩ := own_form h hl (by omega)
 exact ⟨g, cap, rfl, hc, hm, hg, (Array.getElem?_eq_some_iff.1 hh).1, fun i u hi => own_cell h (by rw [List.getElem?_map, hi]; rfl)⟩
theorem U64s.below {w w' : World} {B : Nat} {v : Value} {ls : List Nat} (h : U64s w B v ls) (hb : Below w.heap.size w w') : U64s w' B v ls := own_cong h (fun k hk => hb.block k (own_lt h hk).2)
theorem parse_lim' {t : Str} {l : List Seg} {at_ : Nat} {k : Int} (h : parseE t = (l, at_, k)) (h' : t.length ≤ 65536) : okL l := by
 by_cases hk : k = 0
 · subst hk; exact (print_parse h h').2
 · obtain ⟨_, _, rfl, _⟩ := parse_cut h h' hk
   exact ⟨by simp, fun s hs => by simp at hs⟩
theorem wrapOf_mem {l : List Seg} {s : Seg} (h : s ∈ (wrapOf l).1.segs) : s ∈ l := by
 unfold wrapOf at h
 cases l with
 | nil => simp [wd0] at h
 | cons a r =>
   simp only at h
   split at h
   · simp [wd0] at h
   · unfold wrapHT at h
     split at h
     · split at h
       · simp [wd0] at h
       · split at h
         · simp [wd0] at h
         · split at h
           · simp [wd0] at h
           · exact List.mem_cons_of_mem _ (List.dropLast_subset _ h)
     · simp [wd0] at h
theorem words_lim (t : Str) : wordsLim (wrapParseE t).1 := by
 intro s hs e he c hc
 unfold wrapParseE at hs
 split at hs
 · rename_i h0
   by_cases hb : t.length ≤ 65536
   · have hok := parse_lim' (t := t) (l := (parseE t).1) (at_ := (parseE t).2.1) (k := (parseE t).2.2) rfl hb
     have hm := wrapOf_mem hs
     have hp := ((hok.2 s hm).2.2 e he).2.2 c hc
     unfold okP at hp
     omega
   · have h1 : parseE t = ([], 0, 2) := by unfold parseE; rw [if_pos (by omega)]
     rw [h1] at h0
     exact absurd h0 (by decide)
 · simp [wd0] at hs
def ParseMQ (t : Str) (w : World) (e : Ending) (w' : World) : Prop := e = .returned (.tuple #[.agg (pktA (parseTM t).1).toArray, .int .i64 (parseTM t).2]) ∧ Below w.heap.size w w'
set_option maxRecDepth 100000 in
set_option maxHeartbeats 4000000 in
theorem mParse_any (s : ByteArray) (w : World) (hv : VarsOk w) : Calls Tryz.prog 23 #[.string s] w fun e w' => ParseMQ s.data.toList w e w' := by
 obtain ⟨B, hB⟩ : ∃ B, w.heap.size = B := ⟨_, rfl⟩
 have HBQ := Lib.hid hB
 obtain ⟨w1, hw1⟩ : ∃ w1, w.alloc (.cells #[.int .u8 0, .int .u8 0, .bool false, .int .u64 0, .int .u8 0, .int .u8 0, .int .u64 0, .int .u8 0, .int .u8 0, .int .u16 0, .int .u32 0, .int .i64 0, .int .u8 0, .int .u32 0, .int .i64 0, .int .i64 0] 38) = w1 := ⟨_, rfl⟩
 have HB1 : Hid (Below B w w1) := Lib.hid (by rw [← hw1, ← hB]; exact (Below.refl _ _).alloc (Nat.le_refl _) _)
 have hz1 : w1.heap.size = B + 1 := by rw [← hw1, ← hB]; simp
 have HZ1 := Lib.hid hz1
 have HR1 : Hid (w1.heap[B]? = some (.cells #[.int .u8 0, .int .u8 0, .bool false, .int .u64 0, .int .u8 0, .int .u8 0, .int .u64 0, .int .u8 0, .int .u8 0, .int .u16 0, .int .u32 0, .int .i64 0, .int .u8 0, .int .u32 0, .int .i64 0, .int .i64 0] 38 (0, 0))) := Lib.hid (by rw [← hw1, ← hB]; exact heap_alloc_new _ _)
 have HWR := Lib.hid (wParse_any s w1 (hv.on HB1.out (by rw [hB]; exact Nat.le_refl _)))
 have HV := Lib.hid hv
 have HL := Lib.hid (words_lim s.data.toList)
 obtain ⟨X, hX⟩ : ∃ X, wrapParseE s.data.toList = X := ⟨_, rfl⟩
 obtain ⟨x, k⟩ := X
 unfold WParseQ at HWR
 rw [hX] at HWR HL
 have HX := Lib.hid hX
 have HW1 := Lib.hid hw1
 unfold ParseMQ
 rw [hB]
 clear hB hw1 hz1 hv hX
 go_enter Tryz.func23, Tryz.ntmps23
 go_wp2_with fail
 rw [HW1.out]
 refine HWR.out.mono ?_
 rintro e w2 ⟨v, rfl, hs, hb⟩
 unfold wv
 obtain ⟨vo, cap, rfl, hcap, hcm⟩ := hs.form
 clear hcap hcm
 obtain ⟨n, hn⟩ : ∃ n, x.segs.length = n := ⟨_, rfl⟩
 rw [hn] at hs ⊢
 clear hn
 obtain ⟨w3, hw3⟩ : ∃ w3, w2.alloc (.cells #[.int .u8 (x.fr : Int), .int .u8 (x.dst : Int), .int .u64 (x.rf : Int), .slice vo n cap] 41) = w3 := ⟨_, rfl⟩
 have hz2 := hb.size
 have HB2 : Hid (Below B w w2) := Lib.hid (HB1.out.trans (hb.mono (by rw [HZ1.out]; omega)))
 have HB3 : Hid (Below B w w3) := Lib.hid (by rw [← hw3]; exact HB2.out.alloc (by rw [HZ1.out] at hz2; omega) _)
 have HS3 : Hid (SegsAt (fun j => j < w3.heap.size) w3 (.slice vo n cap) x.segs) := Lib.hid (hs.cong (fun j hj => by rw [← hw3]; simp; omega) (fun j hj => by rw [← hw3]; exact Below.heap_alloc _ _ _ hj.2))
 have HR3 : Hid (w3.heap[B]? = some (.cells #[.int .u8 0, .int .u8 0, .bool false, .int .u64 0, .int .u8 0, .int .u8 0, .int .u64 0, .int .u8 0, .int .u8 0, .int .u16 0, .int .u32 0, .int .i64 0, .int .u8 0, .int .u32 0, .int .i64 0, .int .i64 0] 38 (0, 0))) := Lib.hid (by rw [← hw3]; exact (Below.heap_alloc _ _ _ (by rw [HZ1.out] at hz2; omega)).trans ((hb.block B (by rw [HZ1.out]; omega)).trans HR1.out))
 have HZ3 : Hid (B < w3.heap.size) := Lib.hid (by rw [← hw3]; rw [HZ1.out] at hz2; simp; omega)
 have HW3 := Lib.hid hw3
 clear hs hb hz2 hw3
 by_cases hk : k = 0
 · subst hk
   have HPK := Lib.hid (mPacket_any (S := fun j => j < w3.heap.size) x (.slice vo n cap) w3 (HV.out.on HB3.out (by rw [HBQ.out]; exact Nat.le_refl _)) HS3.out (fun j hj => hj) HL.out)
   have HT : Hid (parseTM s.data.toList = packetM x) := Lib.hid (by unfold parseTM; rw [HX.out]; rfl)
   unfold wv at HPK
   go_wp2_with fail
   rw [HW3.out]
   refine HPK.out.mono ?_
   rintro e w4 ⟨rfl, hb4⟩
   have HB4 := Lib.hid hb4
   have HR4 := Lib.hid ((hb4.block B HZ3.out).trans HR3.out)
   clear hb4
   rw [HBQ.out]
   go_wp2_with ((with_reducible refine wpList_at (.store 38 (.tmp 2) _) rfl ?_); go_loud (refine wpList_store_agg rfl _ _ _ rfl B 0 (pktA (packetM x).1) rfl rfl (there_of HR4.out 16 (by decide)) (by kernel_rfl) rfl ?_))
   refine bodyPost_ret (res_pkt rfl _ rfl rfl (putL_heap (cs := pkz) HR4.out (pktA (packetM x).1) rfl) rfl) rfl ?_
   rw [HT.out]
   exact ⟨rfl, putL_below (Nat.le_refl _) _ _ _ (HB3.out.trans (HB4.out.mono (Nat.le_of_lt HZ3.out)))⟩
 · have hk1 : (k != 0) = true := by rw [bne_iff_ne]; exact hk
   have HT : Hid (parseTM s.data.toList = (pd0, k)) := Lib.hid (by unfold parseTM; rw [HX.out]; simp only; rw [if_neg hk])
   go_upto_region 2 with fail
   rw [HW3.out, HBQ.out]
   go_wp2_with ((with_reducible refine wpList_at (.store 38 (.tmp 2) _) rfl ?_); go_loud (refine wpList_store_agg rfl _ _ _ rfl B 0 pkz rfl rfl (there_of HR3.out 16 (by decide)) (by kernel_rfl) rfl ?_))
   refine bodyPost_ret (res_pkt rfl _ rfl rfl (putL_heap (cs := pkz) HR3.out pkz rfl) rfl) rfl ?_
   rw [HT.out]
   exact ⟨rfl, putL_below (Nat.le_refl _) _ _ _ HB3.out⟩
def wsameB (a b : WD) : Bool := decide (a.fr = b.fr) && (decide (a.dst = b.dst) && (decide (a.rf = b.rf) && sameB a.segs b.segs))
theorem wsame_iff {a b : WD} : wsameB a b = true ↔ a = b := by
 obtain ⟨a1, a2, a3, a4⟩ := a
 obtain ⟨b1, b2, b3, b4⟩ := b
 unfold wsameB sameB
 simp
def WSameQ (b : Bool) (w : World) (e : Ending) (w' : World) : Prop := e = .returned (.bool b) ∧ Below w.heap.size w w'
theorem WSameQ.no {a b : WD} {w w' : World} (h : a ≠ b) (hb : Below w.heap.size w w') : WSameQ (wsameB a b) w (.returned (.bool false)) w' :=
 ⟨ret_bool (by cases hc : wsameB a b with
   | true => exact absurd (wsame_iff.1 hc) h
   | false => rfl), hb⟩
theorem wparse_bd {t : Str} {x : WD} (h : wrapParseE t = (x, 0)) : x.fr < 256 ∧ x.dst < 256 ∧ x.rf < 18446744073709551616 := by
 unfold wrapParseE at h
 split at h
 · obtain ⟨_, h1, h2, h3⟩ := wrapOf_ok h
   exact ⟨by omega, by omega, h3⟩
 · rename_i h0
   simp only [Prod.mk.injEq] at h
   exact absurd h.2 h0
def MPQ (q : PD) (k : Int) (w : World) (e : Ending) (w' : World) : Prop := e = .returned (.tuple #[.agg (pktA q).toArray, .int .i64 k]) ∧ Below w.heap.size w w'
theorem mParse_is {s : ByteArray} {w : World} (hv : VarsOk w) {q : PD} {k : Int} (h : parseTM s.data.toList = (q, k)) : Calls Tryz.prog 23 #[.string s] w fun e w' => MPQ q k w e w' := by
 refine (mParse_any s w hv).mono ?_
 rintro e w' ⟨rfl, hb⟩
 rw [h]
 exact ⟨rfl, hb⟩
def mayS (M : List (List Str)) (p : PD) : Prop := p.fr < M.length ∧ p.dst < M.length ∧ p.fr ≠ p.dst
instance (M : List (List Str)) (p : PD) : Decidable (mayS M p) := by unfold mayS; infer_instance
def sealM (M : List (List Str)) (p : PD) : Str × Int :=
 if mayS M p then (if (textM p).2 = 0 then ((textM p).1 ++ macM (keyAt M p.fr p.dst) (textM p).1, 0) else ([], (textM p).2)) else ([], 1)
def SealQ (r : Str × Int) (w : World) (e : Ending) (w' : World) : Prop := ∃ v', e = .returned (.tuple #[v', .int .i64 r.2]) ∧ RowAt (fun k => w.heap.size ≤ k ∧ k < w'.heap.size) w' v' (r.1.map bv) ∧ Below w.heap.size w w'
theorem row_nilB (S : Nat → Prop) (w : World) : RowAt S w (.slice none 0 0) (([] : Str).map bv) := ⟨none, 0, rfl, Nat.le_refl _, by unfold maxLen; omega, fun _ => rfl, fun h => absurd rfl h⟩
theorem RingAt.look {w : World} {B rb : Nat} {K : List (List Str)} (h : RingAt w B rb K) : ∃ mb, w.cell? ⟨rb, 0, none⟩ = some (.int .i64 (K.length : Int)) ∧ w.cell? ⟨rb, 1, none⟩ = some (.map (some mb)) ∧ (∀ (i k : Nat), ∃ v is, (∀ u : World, u.heap = w.heap → (Instr.lookup 134 (.map (some mb)) (.agg #[.int .u8 (i : Int), .int .u8 (k : Int)]) true).run Tryz.prog u = .ok (.tuple #[v, .bool is]) u) ∧
    (is = true ↔ (i < K.length ∧ k < K.length ∧ i ≠ k)) ∧ (is = true → RowAt (fun b => B ≤ b ∧ b < w.heap.size) w v ((keyAt K i k).map bv))) := by
  obtain ⟨mb, l, c, h1, h2, h3, h4, h5, h6⟩ := h.ex
  refine ⟨mb, cell_of_row w rb 0 _ _ _ h1, cell_of_row w rb 1 _ _ _ h1, fun i k => ⟨(findG l (i, k)).getD (.slice none 0 0), (findG l (i, k)).isSome, fun u hu => ?_, ?_, fun his => ?_⟩⟩
  · exact run_lookupG (w := u) lawP Tryz.underlying134 zeroY (by rw [hu]; exact h2) (i, k)
  · constructor
    · intro his
      obtain ⟨v, hv⟩ := Option.isSome_iff_exists.1 his
      obtain ⟨a, b, d, _⟩ := h6 i k v hv
      exact ⟨a, b, d⟩
    · rintro ⟨a, b, d⟩; exact h5 i k a b d
  · obtain ⟨v, hv⟩ := Option.isSome_iff_exists.1 his
    rw [hv]
    exact (h6 i k v hv).2.2.2
set_option maxRecDepth 100000 in
set_option maxHeartbeats 16000000 in
theorem gseal_any (B rb : Nat) (M : List (List Str)) (p : PD) (hp : okPD p) (w : World) (h : RingAt w B rb M) (hv : VarsOk w) (hK : VarsK w) (hM : ∀ i k, (keyAt M i k).length ≤ 17592186044416) :
  Calls Tryz.prog 32 #[.pointer (some ⟨rb, 0, none⟩), .agg (pktA p).toArray] w fun e w' => SealQ (sealM M p) w e w' := by
 obtain ⟨C, hC⟩ : ∃ C, w.heap.size = C := ⟨_, rfl⟩
 have HCQ := Lib.hid hC
 obtain ⟨w1, hw1⟩ : ∃ u, w.alloc (.cells (pktA p).toArray 38) = u := ⟨_, rfl⟩
 have HR1 : Hid (w1.heap[C]? = some (.cells (pktA p).toArray 38 (0, 0))) := Lib.hid (by rw [← hw1, ← hC]; exact heap_alloc_new _ _)
 have HB1 : Hid (Below C w w1) := Lib.hid (by rw [← hw1, ← hC]; exact (Below.refl _ _).alloc (Nat.le_refl _) _)
 have HZ1 : Hid (w1.heap.size = C + 1) := Lib.hid (by rw [← hw1, ← hC]; simp)
 have HG1 : Hid (RingAt w1 B rb M) := Lib.hid (h.on (by rw [hC]; exact HB1.out))
 have HV1 : Hid (VarsOk w1) := Lib.hid (hv.on HB1.out (by rw [hC]; exact Nat.le_refl _))
 have HK := Lib.hid hK
 have HW1 := Lib.hid hw1
 have HOK := Lib.hid hp
 have HLM := Lib.hid hM
 obtain ⟨mb, c0, c1, hlk⟩ := HG1.out.look
 obtain ⟨kv, is, hl1, hl2, hl3⟩ := hlk p.fr p.dst
 have HLK := Lib.hid hl1
 have HIS := Lib.hid hl2
 have HKV := Lib.hid hl3
 have HC1 := Lib.hid c1
 clear hC hw1 h hv hK hp hM hlk hl1 hl2 hl3 c0 c1
 unfold pktA msgA at HR1 HW1 ⊢
 simp only [List.cons_append, List.nil_append] at HR1 HW1 ⊢
 have HPC : Hid (∀ u : World, u.heap = w1.heap → u.cell? ⟨rb, 1, none⟩ = some (.map (some mb)) ∧ u.cell? ⟨C, 0, none⟩ = some (.int .u8 (p.fr : Int)) ∧ u.cell? ⟨C, 1, none⟩ = some (.int .u8 (p.dst : Int))) := Lib.hid (fun u hu => ⟨(World.cell?_of_block (a := ⟨rb, 1, none⟩) (by rw [hu])).trans HC1.out, by rw [cell_of_row u C 0 _ _ _ (by rw [hu]; exact HR1.out)]; rfl, by rw [cell_of_row u C 1 _ _ _ (by rw [hu]; exact HR1.out)]; rfl⟩)
 go_enter Tryz.func32, Tryz.ntmps32
 go_upto_region 3 with fail
 rw [HW1.out, HCQ.out]
 refine wp_region_plan [(0, false), (1, false), (2, false), (3, false), (4, false), (5, false), (6, false), (7, false), (8, false), (9, false), (10, false), (11, false), (12, false), (13, false), (14, false)] (fun u => u.heap = w1.heap) (by kernel_rfl) (by kernel_rfl) rfl ?_
 iterate 9 (refine' plan_val rfl rfl (fun w' hS => ?_) ?_; rotate_left; (focus (obtain ⟨h0, h1, h2⟩ := HPC.out w' hS; first | (go_simp; rfl) | (go_simp; done))); simp only [Act.put, List.setIfInBounds_toArray, List.set_cons_zero, List.set_cons_succ])
 (refine' plan_val rfl rfl (fun w' hS => exec_lookup rfl rfl rfl (HLK.out w' hS)) ?_; simp only [Act.put, List.setIfInBounds_toArray, List.set_cons_zero, List.set_cons_succ])
 iterate 5 (refine' plan_val rfl rfl (fun w' hS => ?_) ?_; rotate_left; (focus (first | (go_simp; rfl) | (go_simp; done))); simp only [Act.put, List.setIfInBounds_toArray, List.set_cons_zero, List.set_cons_succ])
 refine plan_nil ?_
 obtain ⟨w2, hw2⟩ : ∃ u, w1.drew = u := ⟨_, rfl⟩
 rw [hw2]
 have HH2 : Hid (w2.heap = w1.heap) := Lib.hid (by rw [← hw2]; rfl)
 have HB2 : Hid (Below C w w2) := Lib.hid (by rw [← hw2]; exact HB1.out.drew)
 have HV2 : Hid (VarsOk w2) := Lib.hid (HV1.out.on (B := w1.heap.size) (by rw [← hw2]; exact (Below.refl _ _).drew) (Nat.le_refl _))
 have HR2 : Hid (w2.heap[C]? = some (.cells (pktA p).toArray 38 (0, 0))) := Lib.hid (by rw [HH2.out]; exact HR1.out)
 clear hw2 HR1 HB1 HV1 HLK HPC HC1
 have HMS : Hid (is = true ↔ mayS M p) := HIS
 cases is with
 | false =>
   have HSM : Hid (sealM M p = ([], 1)) := Lib.hid (by unfold sealM; rw [if_neg (fun h => by have := HMS.out.2 h; cases this)])
   go_wp2_with fail
   go_ret2
   refine ⟨_, by rw [HSM.out]; rfl, by rw [HSM.out]; exact row_nilB _ _, by rw [HCQ.out]; exact HB2.out⟩
 | true =>
   have HKR : Hid (RowAt (fun b => B ≤ b ∧ b < w1.heap.size) w1 kv ((keyAt M p.fr p.dst).map bv)) := Lib.hid (HKV.out rfl)
   have HTX := Lib.hid (mText_any p HOK.out w2 HV2.out)
   obtain ⟨R, hR⟩ : ∃ R, textM p = R := ⟨_, rfl⟩
   obtain ⟨s, k⟩ := R
   obtain ⟨sb, hsb⟩ : ∃ sb : ByteArray, (⟨s.toArray⟩ : ByteArray) = sb := ⟨_, rfl⟩
   have hsd : sb.data.toList = s := by rw [← hsb]
   unfold TextQ sv at HTX
   rw [hR] at HTX
   simp only at HTX
   rw [hsb] at HTX
   have HR := Lib.hid hR
   have HSD := Lib.hid hsd
   have HSB := Lib.hid hsb
   clear hR hsd hsb HIS
   go_upto_region 7 with (first | ((with_reducible refine wpList_at (.load 38 (.tmp 3)) rfl ?_); go_loud (refine wpList_load_mid rfl 38 _ rfl C 0 rfl (pktA p) _ (range_row HR2.out) Tryz.underlying38 rfl (by kernel_rfl) ?_)) | (go_at_call 21; go_loud (refine HTX.out.mono ?_); rintro e w3 ⟨rfl, hb⟩; have HU3 := Lib.hid hb; clear hb))
   have HB3 : Hid (Below C w w3) := Lib.hid (HB2.out.trans (HU3.out.mono (by rw [HH2.out, HZ1.out]; omega)))
   by_cases hk : k = 0
   · subst hk
     have j0 : ((0 : Int) != 0) = false := by simp
     have hsl : s.length ≤ 65536 := (text_back HOK.out.num HR.out).2
     have hbs : sb.size ≤ 65536 := by rw [← HSB.out]; exact hsl
     have HSM : Hid (sealM M p = (s ++ macM (keyAt M p.fr p.dst) s, 0)) := Lib.hid (by unfold sealM; rw [if_pos (HMS.out.1 (by trivial)), HR.out, if_pos rfl])
     have HZ3 : Hid (C < w3.heap.size ∧ w1.heap.size ≤ w3.heap.size) := Lib.hid (by have := HU3.out.size; rw [HH2.out, HZ1.out] at this; rw [HZ1.out]; exact ⟨by omega, this⟩)
     obtain ⟨cap4, w4, hcv4, hrm4, hb4, hz4⟩ := conv_str sb w3 (by omega)
     obtain ⟨E, hE⟩ : ∃ E, w3.heap.size = E := ⟨_, rfl⟩
     obtain ⟨n, hn⟩ : ∃ n, sb.size = n := ⟨_, rfl⟩
     rw [hE, hn] at hcv4
     rw [hE, hn, HSD.out] at hrm4
     rw [hE] at hb4 hz4
     have HEQ := Lib.hid hE
     have HN := Lib.hid hn
     have HRM4 := Lib.hid hrm4
     have HU4 := Lib.hid hb4
     have HZ4 := Lib.hid hz4
     have HB4 : Hid (Below C w w4) := Lib.hid (HB3.out.trans (HU4.out.mono (by have := HZ3.out.1; omega)))
     have hkr4 : RowAt (fun b => B ≤ b ∧ b < w1.heap.size) w4 kv ((keyAt M p.fr p.dst).map bv) := HKR.out.cong (fun _ h => h) (fun j hj => (HU4.out.block j (by have := HZ3.out.2; omega)).trans ((HU3.out.block j (by rw [HH2.out]; exact hj.2)).trans (by rw [HH2.out])))
     have HMC := Lib.hid (macof_any (keyAt M p.fr p.dst) s kv (.slice (some ⟨E, 0, none⟩) n cap4) w4 hkr4 (fun j hj => by have := HZ3.out.2; rw [HZ4.out]; omega) hrm4.row (fun j hj => by rw [HZ4.out]; omega) (HK.out.on (by rw [HCQ.out]; exact HB4.out)) (HLM.out _ _) (by omega))
     obtain ⟨md, hmd⟩ : ∃ m, macM (keyAt M p.fr p.dst) s = m := ⟨_, rfl⟩
     have hml : md.length = 32 := by rw [← hmd, macM_len]
     obtain ⟨cs, hcs⟩ : ∃ cs, md.map bv = cs := ⟨_, rfl⟩
     have HMD := Lib.hid hmd
     have HML := Lib.hid hml
     have HCS := Lib.hid hcs
     have HCL : Hid (cs.length = 32) := Lib.hid (by rw [← hcs, List.length_map, hml])
     have HCO : Hid (cs.all (·.oneCell') = true) := Lib.hid (by rw [← hcs]; exact bytes_one _)
     clear hrm4 hb4 hz4 hE hn hkr4 hmd hml hcs hsl
     go_upto_region 10 with (first | (go_at_call 40; refine HMC.out.mono ?_; unfold DigQ; rw [HMD.out, HCS.out]; rintro e w5 ⟨rfl, hb⟩; have HU5 := Lib.hid hb; obtain ⟨D, hD⟩ : ∃ D, w5.heap.size = D := ⟨_, rfl⟩; have HDQ := Lib.hid hD; clear hb hD) | ((with_reducible refine wpList_at (.alloc 78) rfl ?_); go_loud (refine wpList_alloc_cells rfl _ rfl _ zero32 ?_); rw [HDQ.out]; obtain ⟨w6, hw6⟩ : ∃ u, w5.alloc (.cells (pad32 []).toArray 78) = u := ⟨_, rfl⟩; rw [hw6]; have HD6 : Hid (w6.heap[D]? = some (.cells (pad32 []).toArray 78 (0, 0))) := Lib.hid (by rw [← hw6, ← HDQ.out]; exact heap_alloc_new _ _); have HU6 : Hid (Below D w5 w6) := Lib.hid (by rw [← hw6, ← HDQ.out]; exact (Below.refl _ _).alloc (Nat.le_refl _) _); clear hw6) | ((with_reducible refine wpList_at (.store 78 (.tmp 10) (.tmp 39)) rfl ?_); go_loud (refine wpList_store_agg rfl _ _ _ rfl D 0 cs rfl rfl (by rw [HCL.out]; exact there_of HD6.out 32 (by decide)) (by rw [HCL.out]; kernel_rfl) HCO.out ?_)))
     obtain ⟨w7, hw7⟩ : ∃ u, w6.setCells D 0 cs = u := ⟨_, rfl⟩
     rw [hw7]
     have HBD : Hid (C < D) := Lib.hid (by have h1 := HU5.out.size; rw [HDQ.out, HZ4.out] at h1; have := HZ3.out.1; have := HEQ.out; omega)
     have HD7 : Hid (w7.heap[D]? = some (.cells (md.map bv).toArray 78 (0, 0))) := Lib.hid (by rw [HCS.out, ← hw7]; exact putL_heap (cs := pad32 []) HD6.out cs (by rw [HCL.out]; rfl))
     have HB7 : Hid (Below C w w7) := Lib.hid (by rw [← hw7]; exact putL_below (Nat.le_of_lt HBD.out) _ _ _ ((HB4.out.trans (HU5.out.mono (by rw [HZ4.out]; have := HZ3.out.1; have := HEQ.out; omega))).trans (HU6.out.mono (Nat.le_of_lt HBD.out))))
     clear hw7 hcv4
     obtain ⟨cap8, w8, hcv8, hrm8, hb8, hz8⟩ := conv_str sb w7 (by omega)
     obtain ⟨G, hG⟩ : ∃ G, w7.heap.size = G := ⟨_, rfl⟩
     rw [hG, HN.out] at hcv8
     rw [hG, HN.out, HSD.out] at hrm8
     rw [hG] at hb8 hz8
     have HGD : Hid (D < G) := Lib.hid (by rw [← hG]; exact (Array.getElem?_eq_some_iff.1 HD7.out).1)
     have HD8 : Hid (w8.heap[D]? = some (.cells (md.map bv).toArray 78 (0, 0))) := Lib.hid ((hb8.block D HGD.out).trans HD7.out)
     obtain ⟨xv, w9, hr9, hrow9, hb9⟩ := run_app_mark (B := C) hrm8 ⟨D, 0, none⟩ 32 32 HML.out (fun j u hu => by rw [Addr.add_mid, Nat.zero_add, cell_of_row w8 D j _ _ _ HD8.out, List.getElem?_toArray]; exact hu) (by have := HN.out; omega) (by have := HBD.out; have := HGD.out; omega)
     have HR9 := Lib.hid hr9
     have HW9 := Lib.hid hrow9
     have HB9 : Hid (Below C w w9) := Lib.hid ((HB7.out.trans (hb8.mono (by have := HBD.out; have := HGD.out; omega))).trans hb9)
     clear hrm8 hb8 hz8 hG hr9 hrow9 hb9
     go_wp2_with (at_builtin; go_loud (refine wpList_val rfl (exec_append rfl rfl rfl HR9.out) ?_))
     obtain ⟨xo, xcap, rfl, x1, x2⟩ := HW9.out.form
     go_ret2
     refine ⟨_, by rw [HSM.out]; rfl, ?_, by rw [HCQ.out]; exact HB9.out⟩
     rw [HSM.out, HMD.out, HCQ.out]
     exact HW9.out
   · have j0 : (k != 0) = true := by rw [bne_iff_ne]; exact hk
     have HSM : Hid (sealM M p = ([], k)) := Lib.hid (by unfold sealM; rw [if_pos (HMS.out.1 (by trivial)), HR.out, if_neg hk])
     go_wp2_with fail
     go_ret2
     refine ⟨_, by rw [HSM.out]; rfl, by rw [HSM.out]; exact row_nilB _ _, by rw [HCQ.out]; exact HB3.out⟩
def rightM (M : List (List Str)) (fr to_ : Nat) (text d : Str) : Bool := decide (fr < M.length ∧ to_ < M.length ∧ fr ≠ to_) && decide (macM (keyAt M fr to_) text = d)
theorem exec_load_mid {P : Program} {w : World} {o : Oper} {a : Act} (ty : TypeId) (x : Operand) (ho : o.op = .load ty x) (b off : Nat) (hx : a.eval x = .pointer (some ⟨b, off, none⟩)) (cs : List Value) (d : TypeDesc)
  (hc : w.rangeAt b off cs) (hu : P.underlying ty = some d) (hd : d.isRow = true) (hi : (P.info? ty).map (·.size) = some cs.length) : (execOp a.eval o).run P w = .ok (.value (.agg cs.toArray)) w := by
 unfold execOp
 simp only [ho, hx, run_loadAt_mid w b off ty cs d hc hu hd hi, Sem.run_bind, Result.andThen_ok, Sem.run_pure]
structure OpenAt (w : World) (B rb rB tB xB dB : Nat) (M : List (List Str)) (to_ : Nat) (text dg : Str) : Prop where
 ring : RingAt w B rb M
 r : w.cell? ⟨rB, 0, none⟩ = some (.pointer (some ⟨rb, 0, none⟩))
 t : w.cell? ⟨tB, 0, none⟩ = some (.int .u8 (to_ : Int))
 x : ∃ (S : Nat → Prop) (tv : Value), w.cell? ⟨xB, 0, none⟩ = some tv ∧ RowAt S w tv (text.map bv) ∧ ∀ k, S k → k < w.heap.size
 dc : w.heap[dB]? = some (.cells (dg.map bv).toArray 78 (0, 0))
 dl : dg.length = 32
 vk : VarsK w
theorem OpenAt.on {w w' : World} {B rb rB tB xB dB : Nat} {M : List (List Str)} {to_ : Nat} {text d : Str} (h : OpenAt w B rb rB tB xB dB M to_ text d) (hb : Below w.heap.size w w') : OpenAt w' B rb rB tB xB dB M to_ text d := by
 obtain ⟨h1, h2, h3, ⟨S, tv, h4, h5, h6⟩, h7, h8, h9⟩ := h
 exact ⟨h1.on hb, (hb.cell (p := ⟨rB, 0, none⟩) (cell_lt' h2)).trans h2, (hb.cell (p := ⟨tB, 0, none⟩) (cell_lt' h3)).trans h3, ⟨S, tv, (hb.cell (p := ⟨xB, 0, none⟩) (cell_lt' h4)).trans h4, h5.any h6 hb, fun k hk => Nat.lt_of_lt_of_le (h6 k hk) hb.size⟩, (hb.block dB (Array.getElem?_eq_some_iff.1 h7).1).trans h7, h8, h9.on hb⟩
set_option maxRecDepth 100000 in
set_option maxHeartbeats 16000000 in
theorem right_any (B rb rB tB xB dB : Nat) (M : List (List Str)) (fr to_ : Nat) (text d : Str) (w : World) (h : OpenAt w B rb rB tB xB dB M to_ text d) (hM : ∀ i k, (keyAt M i k).length ≤ 17592186044416) (ht : text.length ≤ 17592186044416) :
  Calls Tryz.prog 66 #[.int .u8 (fr : Int), .pointer (some ⟨rB, 0, none⟩), .pointer (some ⟨tB, 0, none⟩), .pointer (some ⟨xB, 0, none⟩), .pointer (some ⟨dB, 0, none⟩)] w fun e w' => e = .returned (.bool (rightM M fr to_ text d)) ∧ Below w.heap.size w w' := by
 obtain ⟨h1, h2, h3, ⟨S, tv, h4, h5, h6⟩, h7, h8, h9⟩ := h
 obtain ⟨mb, c0, c1, hlk⟩ := h1.look
 obtain ⟨kv, is, hl1, hl2, hl3⟩ := hlk fr to_
 have HLK := Lib.hid hl1
 have HIS := Lib.hid hl2
 have HKV := Lib.hid hl3
 have HPC : Hid (∀ u : World, u.heap = w.heap → u.cell? ⟨rb, 1, none⟩ = some (.map (some mb)) ∧ u.cell? ⟨rB, 0, none⟩ = some (.pointer (some ⟨rb, 0, none⟩)) ∧ u.cell? ⟨tB, 0, none⟩ = some (.int .u8 (to_ : Int))) := Lib.hid (fun u hu => ⟨(World.cell?_of_block (a := ⟨rb, 1, none⟩) (by rw [hu])).trans c1, (World.cell?_of_block (a := ⟨rB, 0, none⟩) (by rw [hu])).trans h2, (World.cell?_of_block (a := ⟨tB, 0, none⟩) (by rw [hu])).trans h3⟩)
 have HX := Lib.hid h4
 have HT := Lib.hid h5
 have HS := Lib.hid h6
 have HD := Lib.hid h7
 have HDL := Lib.hid h8
 have HK := Lib.hid h9
 have HLM := Lib.hid hM
 clear h1 h2 h3 h4 h5 h6 h7 h8 h9 hlk hl1 hl2 hl3 c0 c1 hM
 go_enter Tryz.func66, Tryz.ntmps66
 go_upto_region 1 with fail
 refine wp_region_plan [(0, false), (1, false), (2, false), (3, false), (4, false), (5, false), (6, false), (7, false), (8, false), (9, false), (10, false), (11, false), (12, false)] (fun u => u.heap = w.heap) (by kernel_rfl) (by kernel_rfl) rfl ?_
 iterate 7 (refine' plan_val rfl rfl (fun w' hS => ?_) ?_; rotate_left; (focus (obtain ⟨h0, h1, h2⟩ := HPC.out w' hS; first | (go_simp; rfl) | (go_simp; done))); simp only [Act.put, List.setIfInBounds_toArray, List.set_cons_zero, List.set_cons_succ])
 (refine' plan_val rfl rfl (fun w' hS => exec_lookup rfl rfl rfl (HLK.out w' hS)) ?_; simp only [Act.put, List.setIfInBounds_toArray, List.set_cons_zero, List.set_cons_succ])
 iterate 5 (refine' plan_val rfl rfl (fun w' hS => ?_) ?_; rotate_left; (focus (first | (go_simp; rfl) | (go_simp; done))); simp only [Act.put, List.setIfInBounds_toArray, List.set_cons_zero, List.set_cons_succ])
 refine plan_nil ?_
 obtain ⟨w2, hw2⟩ : ∃ u, w.drew = u := ⟨_, rfl⟩
 rw [hw2]
 have HH2 : Hid (w2.heap = w.heap) := Lib.hid (by rw [← hw2]; rfl)
 have HB2 : Hid (Below w.heap.size w w2) := Lib.hid (by rw [← hw2]; exact (Below.refl _ _).drew)
 clear hw2
 go_upto_region 2 with fail
 cases is with
 | false =>
   have HRM : Hid (rightM M fr to_ text d = false) := Lib.hid (by unfold rightM; rw [decide_eq_false (fun h => by have := HIS.out.2 h; cases this)]; rfl)
   refine wp_region_plan [(0, false), (1, false), (2, false), (3, false), (4, false), (5, false), (6, false), (7, false), (8, false)] (fun u => u.heap = w2.heap) (by kernel_rfl) (by kernel_rfl) rfl ?_
   iterate 2 (refine' plan_val rfl rfl (fun w' hS => ?_) ?_; rotate_left; (focus (first | (go_simp; rfl) | (go_simp; done))); simp only [Act.put, List.setIfInBounds_toArray, List.set_cons_zero, List.set_cons_succ])
   iterate 5 (refine plan_skip rfl rfl ?_; simp only [Act.put, List.setIfInBounds_toArray, List.set_cons_zero, List.set_cons_succ])
   iterate 2 (refine' plan_val rfl rfl (fun w' hS => ?_) ?_; rotate_left; (focus (first | (go_simp; rfl) | (go_simp; done))); simp only [Act.put, List.setIfInBounds_toArray, List.set_cons_zero, List.set_cons_succ])
   refine plan_nil ?_
   go_wp2_with fail
   go_ret
   exact ⟨by rw [HRM.out]; rfl, HB2.out.drew⟩
 | true =>
   have hkr : RowAt (fun b => B ≤ b ∧ b < w.heap.size) w kv ((keyAt M fr to_).map bv) := HKV.out (by trivial)
   have HMX := Lib.hid (macof_any (keyAt M fr to_) text kv tv w2.drew (hkr.cong (w' := w2.drew) (fun _ h => h) (fun j _ => by show w2.heap[j]? = _; rw [HH2.out])) (fun j hj => by show j < w2.heap.size; rw [HH2.out]; exact hj.2) (HT.out.cong (w' := w2.drew) (fun _ h => h) (fun j _ => by show w2.heap[j]? = _; rw [HH2.out])) (fun j hj => by show j < w2.heap.size; rw [HH2.out]; exact HS.out j hj) (HK.out.on (HB2.out.drew)) (HLM.out _ _) ht)
   obtain ⟨md, hmd⟩ : ∃ m, macM (keyAt M fr to_) text = m := ⟨_, rfl⟩
   have hml : md.length = 32 := by rw [← hmd, macM_len]
   have HRM : Hid (rightM M fr to_ text d = decide (md = d)) := Lib.hid (by unfold rightM; rw [decide_eq_true (HIS.out.1 (by trivial)), hmd]; rfl)
   rw [hmd] at HMX
   have HML := Lib.hid hml
   clear hmd hml hkr
   refine wp_region_plan [(0, false), (1, false), (2, false), (3, false), (5, false), (4, true), (6, true), (7, false), (8, false)] (fun u => Below w.heap.size w u) (by kernel_rfl) (by kernel_rfl) HB2.out.drew ?_
   iterate 3 (refine' plan_val rfl rfl (fun w' hS => ?_) ?_; rotate_left; (focus (first | (go_simp; rfl) | (go_simp; done))); simp only [Act.put, List.setIfInBounds_toArray, List.set_cons_zero, List.set_cons_succ])
   iterate 1 (refine' plan_val rfl rfl (fun w' hS => ?_) ?_; rotate_left; (focus (have hx := (hS.cell (p := ⟨xB, 0, none⟩) (cell_lt' HX.out)).trans HX.out; first | (go_simp; rfl) | (go_simp; done))); simp only [Act.put, List.setIfInBounds_toArray, List.set_cons_zero, List.set_cons_succ])
   (refine' plan_val rfl rfl (fun w' hS => exec_load_mid 78 _ rfl dB 0 rfl (d.map bv) _ (range_row ((hS.block dB (Array.getElem?_eq_some_iff.1 HD.out).1).trans HD.out)) Tryz.underlying78 rfl (by rw [List.length_map, HDL.out]; kernel_rfl)) ?_; simp only [Act.put, List.setIfInBounds_toArray, List.set_cons_zero, List.set_cons_succ])
   refine plan_do rfl (fun K hK => ?_)
   go_wp2_with (go_at_call 40; go_loud (refine HMX.out.mono ?_); unfold DigQ; rintro e w3 ⟨rfl, hb⟩; have HB3 : Hid (Below w.heap.size w w3) := Lib.hid (HB2.out.trans (Below.mono ((Below.refl _ _).drew.trans hb) (by show w.heap.size ≤ w2.heap.size; rw [HH2.out]; exact Nat.le_refl _))); clear hb)
   refine hK _ _ HB3.out ?_
   clear hK K
   refine plan_do rfl (fun K hK => ?_)
   go_wp2_with (go_at_call 39; go_loud (refine (macsame_any md d HML.out HDL.out _).mono ?_); rintro e w4 ⟨rfl, hb⟩; have HB4 : Hid (Below w.heap.size w w4) := Lib.hid (HB3.out.trans (hb.mono HB3.out.size)); clear hb)
   refine hK _ _ HB4.out ?_
   clear hK K
   iterate 2 (refine' plan_val rfl rfl (fun w' hS => ?_) ?_; rotate_left; (focus (first | (go_simp; rfl) | (go_simp; done))); simp only [Act.put, List.setIfInBounds_toArray, List.set_cons_zero, List.set_cons_succ])
   refine plan_nil ?_
   go_wp2_with fail
   go_ret
   exact ⟨by rw [HRM.out]; rfl, HB4.out⟩
end Go.Proofs.YtgfijlamhjjecaaGreatDoor
