/-
  Texts MsgZ3, MsgZ4, MsgZ5, RefP, RefA, RefB, one behind the other. No condition beyond those stated in each.
-/
import Derived.Test.YtgfijlamhjjecaaGreatDoorMt10
import Derived.Test.YtgfijlamhjjecaaGreatDoorMt9
import Derived.Test.YtgfijlamhjjecaaGreatDoorMt1
import Derived.Test.YtgfijlamhjjecaaGreatDoorMt5
import Derived.Test.YtgfijlamhjjecaaGreatDoorMt6
import Derived.Test.YtgfijlamhjjecaaGreatDoorMt7
import Derived.Test.YtgfijlamhjjecaaGreatDoorMt2
namespace Go.Proofs.YtgfijlamhjjecaaGreatDoor
open Go.RowKit
structure PInv (x : WD) (hh : Bool × Bool × Bool) (st0 : Bool × MD) (pre : List Value) (B2 : Nat) (w1 : World) (i : Nat) (ok : Bool) (md : MD) (wx : World) : Prop where
  st : (ok, md) = readN x hh i st0
  row : MRow pre 38 md B2 wx
  fr : Fr [B2] w1 wx
structure QInv (fs : List FK) (l : List Str) (st1 : Bool × MD) (pre : List Value) (B2 : Nat) (w1 : World) (j : Nat) (ok : Bool) (md : MD) (wy : World) : Prop where
  st : (ok, md) = ((fs.zip l).take j).foldl readF st1
  row : MRow pre 38 md B2 wy
  fr : Fr [B2] w1 wy
def wordsLim (x : WD) : Prop := ∀ s ∈ x.segs, ∀ e ∈ s.elems, ∀ c ∈ e, c.length ≤ 1048576
set_option maxRecDepth 100000 in
set_option maxHeartbeats 16000000 in
theorem mpacket_main {S : Nat → Prop} (x : WD) (v : Value) (h : ¬ (8 ≤ x.fr ∨ 8 ≤ x.dst)) (w : World) (hv : VarsOk w) (hs : SegsAt S w v x.segs) (hS : ∀ k, S k → k < w.heap.size) (hL : wordsLim x) : Calls Tryz.prog 19 #[wv x v] w fun e w' => PacketQ x w e w' := by
  have HH := Lib.hid h
  have hb : (decide (x.fr < 8) && decide (x.dst < 8)) = true := by simp; omega
  obtain ⟨vo, cap, rfl, hcap, hcm⟩ := hs.form
  unfold maxLen at hcm
  obtain ⟨n, hn⟩ : ∃ n, x.segs.length = n := ⟨_, rfl⟩
  have HN := Lib.hid hn
  have HSG := Lib.hid hs
  have HS := Lib.hid hS
  have HL := Lib.hid hL
  have HV := Lib.hid hv
  rw [hn] at hcap HSG ⊢
  unfold wv
  clear h hs hS hL hn hv
  go_enter Tryz.func19, Tryz.ntmps19
  go_upto_region 4 with (go_at_call 41; refine (carriers_any _ _ _).mono ?_; rw [hb]; rintro e w' ⟨rfl, rfl⟩)
  obtain ⟨B1, hB1⟩ : ∃ B1, w.heap.size + 1 = B1 := ⟨_, rfl⟩
  obtain ⟨B2, hB2⟩ : ∃ B2, B1 + 1 = B2 := ⟨_, rfl⟩
  obtain ⟨w0, hw0⟩ : ∃ w0, ((w.alloc (.cells #[.int .u8 (x.fr : Int), .int .u8 (x.dst : Int), .int .u64 (x.rf : Int), .slice vo n cap] 41)).alloc (.cells #[.int .u8 0, .int .u8 0, .bool false, .int .u64 0, .int .u8 0, .int .u8 0, .int .u64 0, .int .u8 0, .int .u8 0, .int .u16 0, .int .u32 0, .int .i64 0, .int .u8 0, .int .u32 0, .int .i64 0, .int .i64 0] 38)).alloc (.cells #[.int .u8 (x.fr : Int), .int .u8 (x.dst : Int), .bool false, .int .u64 (x.rf : Int), .int .u8 0, .int .u8 0, .int .u64 0, .int .u8 0, .int .u8 0, .int .u16 0, .int .u32 0, .int .i64 0, .int .u8 0, .int .u32 0, .int .i64 0, .int .i64 0] 38) = w0 := ⟨_, rfl⟩
  have HBw0 : Hid (Below w.heap.size w w0) := Lib.hid (by rw [← hw0]; exact (((Below.refl _ _).alloc (Nat.le_refl _) _).alloc (by simp) _).alloc (by simp only [World.size_alloc]; omega) _)
  have hz0 : w0.heap.size = B2 + 1 := by rw [← hw0]; simp; omega
  have hb0 : w0.heap[w.heap.size]? = some (.cells #[.int .u8 (x.fr : Int), .int .u8 (x.dst : Int), .int .u64 (x.rf : Int), .slice vo n cap] 41 (0, 0)) := by rw [← hw0]; exact (Below.heap_alloc _ _ _ (by simp <;> omega)).trans ((Below.heap_alloc _ _ _ (by simp)).trans (heap_alloc_new _ _))
  have HR0 : Hid (w0.heap[B1]? = some (.cells pkz.toArray 38 (0, 0))) := Lib.hid (by rw [← hw0, ← hB1]; exact (Below.heap_alloc _ _ _ (by simp <;> omega)).trans (heap_alloc_at (by simp)))
  have hp0 : w0.heap[B2]? = some (.cells #[.int .u8 (x.fr : Int), .int .u8 (x.dst : Int), .bool false, .int .u64 (x.rf : Int), .int .u8 0, .int .u8 0, .int .u64 0, .int .u8 0, .int .u8 0, .int .u16 0, .int .u32 0, .int .i64 0, .int .u8 0, .int .u32 0, .int .i64 0, .int .i64 0] 38 (0, 0)) := by rw [← hw0, ← hB2, ← hB1]; exact heap_alloc_at (by simp)
  have hwB1 : w.heap.size ≤ B1 := by omega
  have hB12 : B1 < B2 := by omega
  rw [hB1, hB2, hw0]
  have HSG0 : Hid (SegsAt S w0 (.slice vo n cap) x.segs) := Lib.hid (HSG.out.cong (fun _ hk => hk) (fun k hk => HBw0.out.block k (HS.out k hk)))
  have HB0 := Lib.hid hb0
  have HP0 := Lib.hid hp0
  have s3 : w0.cell? ⟨w.heap.size, 3, none⟩ = some (.slice vo n cap) := cell_of_row w0 w.heap.size 3 _ _ _ hb0
  have HZ0 := Lib.hid hz0
  have HS0 : Hid (∀ k, S k → k < w0.heap.size) := Lib.hid (fun k hk => by have := HS.out k hk; rw [HZ0.out]; omega)
  have HQ1 := Lib.hid hB1
  clear hw0 hb0 hp0 hz0 hB1 hB2
  go_wp2_with fail
  refine (words_any x.segs _ w0 HSG0.out HS0.out 0 0 tACK ⟨#[65, 67, 75]⟩ rfl (by omega) (by omega)).mono ?_
  rintro e w1 ⟨v1, b1, rfl, hb1, hor⟩
  have HB1 := Lib.hid hb1
  have HO1 := Lib.hid hor
  clear hb1 hor s3
  have hp1 : w1.heap[B2]? = some (.cells #[.int .u8 (x.fr : Int), .int .u8 (x.dst : Int), .bool false, .int .u64 (x.rf : Int), .int .u8 0, .int .u8 0, .int .u64 0, .int .u8 0, .int .u8 0, .int .u16 0, .int .u32 0, .int .i64 0, .int .u8 0, .int .u32 0, .int .i64 0, .int .i64 0] 38 (0, 0)) := (HB1.out.block B2 (by rw [HZ0.out]; omega)).trans HP0.out
  have p2 : w1.cell? ⟨B2, 2, none⟩ = some (.bool false) := cell_of_row w1 B2 2 _ _ _ hp1
  have q2 := frozen_of_row w1 B2 2 _ _ hp1
  obtain ⟨w2, hw2⟩ : ∃ w2, w1.setCell ⟨B2, 2, none⟩ (.bool b1) = w2 := ⟨_, rfl⟩
  have HP2 : Hid (w2.heap[B2]? = some (.cells #[.int .u8 (x.fr : Int), .int .u8 (x.dst : Int), .bool b1, .int .u64 (x.rf : Int), .int .u8 0, .int .u8 0, .int .u64 0, .int .u8 0, .int .u8 0, .int .u16 0, .int .u32 0, .int .i64 0, .int .u8 0, .int .u32 0, .int .i64 0, .int .i64 0] 38 (0, 0))) := Lib.hid (by rw [← hw2]; exact heap_setCell_same _ B2 2 _ _ _ hp1)
  have HF2 : Hid (Fr [B2] w0 w2) := Lib.hid (by rw [← hw2]; exact Fr.trans (F := [B2]) (Below.fr HB1.out (Nat.le_refl _) [B2]) (Fr.setCell w1 (by simp) _))
  have HW2 := Lib.hid hw2
  have HWB : Hid (w.heap.size ≠ B2) := Lib.hid (by omega)
  clear hp1 hw2
  go_upto_region 5 with fail
  rw [HW2.out]
  have s3 : w2.cell? ⟨w.heap.size, 3, none⟩ = some (.slice vo n cap) := cell_fr HF2.out (by simpa using HWB.out) (cell_of_row w0 w.heap.size 3 _ _ _ HB0.out)
  have p2 : w2.cell? ⟨B2, 2, none⟩ = some (.bool b1) := cell_of_row w2 B2 2 _ _ _ HP2.out
  clear q2
  rcases HO1.out with ⟨ws, hws, rfl, _⟩ | ⟨hno, rfl, rfl⟩
  · have HA := Lib.hid (show segO x 0 tACK 0 = some ws from hws)
    clear hws
    by_cases hn1 : 1 < n
    · have HQ := Lib.hid (pm_ack2 HH.out HA.out (by rw [HN.out]; exact hn1))
      have i1 : decide ((1 : Int) < (n : Int)) = true := by rw [decide_eq_true_eq]; omega
      have hr := (HF2.out.block B1 (by rw [HZ0.out]; omega) (by simp; omega)).trans HR0.out
      have HR := Lib.hid hr
      clear hr
      go_wp2_with ((with_reducible refine wpList_at (.store 38 (.tmp 2) _) rfl ?_); go_loud (refine wpList_store_agg rfl _ _ _ rfl B1 0 pkz rfl rfl (there_of HR.out 16 (by decide)) (by kernel_rfl) rfl ?_))
      refine bodyPost_ret (res_pkt rfl _ rfl rfl (putL_heap (cs := pkz) HR.out pkz rfl) rfl) rfl ?_
      exact pq_err HQ.out (putL_below hwB1 _ _ _ (HBw0.out.trans (HF2.out.belowB (by rw [HZ0.out]; omega) (fun b hb' => by have e := List.mem_singleton.1 hb'; omega))))
    · have HQ := Lib.hid (pm_ack HH.out HA.out (by rw [HN.out]; exact hn1))
      have i1 : decide ((1 : Int) < (n : Int)) = false := by rw [decide_eq_false_iff_not]; omega
      have hr := (HF2.out.block B1 (by rw [HZ0.out]; omega) (by simp; omega)).trans HR0.out
      have HR := Lib.hid hr
      clear hr
      go_wp2_with (first | ((with_reducible refine wpList_at (.load 38 (.tmp 4)) rfl ?_); go_loud (refine wpList_load_row rfl _ _ rfl B2 rfl 38 _ (0, 0) _ HP2.out Tryz.underlying38 rfl (by kernel_rfl) ?_)) | ((with_reducible refine wpList_at (.store 38 (.tmp 2) _) rfl ?_); go_loud (refine wpList_store_agg rfl _ _ _ rfl B1 0 [.int .u8 (x.fr : Int), .int .u8 (x.dst : Int), .bool true, .int .u64 (x.rf : Int), .int .u8 0, .int .u8 0, .int .u64 0, .int .u8 0, .int .u8 0, .int .u16 0, .int .u32 0, .int .i64 0, .int .u8 0, .int .u32 0, .int .i64 0, .int .i64 0] rfl rfl (there_of HR.out 16 (by decide)) (by kernel_rfl) rfl ?_)))
      refine bodyPost_ret (res_pkt rfl _ rfl rfl (putL_heap (cs := pkz) HR.out [.int .u8 (x.fr : Int), .int .u8 (x.dst : Int), .bool true, .int .u64 (x.rf : Int), .int .u8 0, .int .u8 0, .int .u64 0, .int .u8 0, .int .u8 0, .int .u16 0, .int .u32 0, .int .i64 0, .int .u8 0, .int .u32 0, .int .i64 0, .int .i64 0] rfl) rfl) rfl ?_
      unfold PacketQ
      rw [HQ.out]
      exact ⟨rfl, putL_below hwB1 _ _ _ (HBw0.out.trans (HF2.out.belowB (by rw [HZ0.out]; omega) (fun b hb' => by have e := List.mem_singleton.1 hb'; omega)))⟩
  · have HA := Lib.hid (show segO x 0 tACK 0 = none from hno)
    clear hno
    have HSG2 : Hid (SegsAt S w2 (.slice vo n cap) x.segs) := Lib.hid (HSG0.out.cong (fun _ hk => hk) (fun k hk => HF2.out.block k (HS0.out k hk) (by have := HS.out k hk; simp; omega)))
    have HS2 : Hid (∀ k, S k → k < w2.heap.size) := Lib.hid (fun k hk => Nat.lt_of_lt_of_le (HS0.out k hk) HF2.out.size)
    go_wp2_with fail
    refine (words_any x.segs _ w2 HSG2.out HS2.out 0 1 tMSG ⟨#[77, 83, 71]⟩ rfl (by omega) (by omega)).mono ?_
    rintro e w3 ⟨v3, b3, rfl, hb3, hor⟩
    have HB3 := Lib.hid hb3
    have HO3 := Lib.hid hor
    have HF3 : Hid (Fr [B2] w0 w3) := Lib.hid (Fr.trans (F := [B2]) HF2.out (Below.fr hb3 (Nat.le_refl _) [B2]))
    clear hb3 hor s3 p2
    rcases HO3.out with ⟨ws, hws, rfl, hc3⟩ | ⟨hno, rfl, rfl⟩
    · obtain ⟨u, rfl⟩ := List.length_eq_one_iff.1 (segO_len (x := x) (i := 0) (t := tMSG) hws)
      have HM := Lib.hid (show segO x 0 tMSG 1 = some [u] from hws)
      clear hws
      obtain ⟨ao3, c3, rfl, hc31, hc32⟩ := hc3.form
      obtain ⟨b3, off3, rfl, hS3, hu3⟩ := hc3.get (k := 0) (p := u) rfl
      rw [Nat.add_zero] at hu3
      obtain ⟨su, hsu⟩ : ∃ s : ByteArray, (⟨u.toArray⟩ : ByteArray) = s := ⟨_, rfl⟩
      unfold sv at hu3
      rw [hsu] at hu3
      unfold maxLen at hc32
      simp only [List.length_cons, List.length_nil, Nat.zero_add] at hc31 ⊢
      have HBX3 : Hid (Below w.heap.size w w3) := Lib.hid (HBw0.out.trans (HF3.out.belowB (by rw [HZ0.out]; omega) (fun b hb' => by have e := List.mem_singleton.1 hb'; omega)))
      have hulen : su.size ≤ 1048576 := by
        have e : su.size = u.length := by rw [← hsu]; rfl
        rw [e]
        have h1 := HM.out
        unfold segO at h1
        obtain ⟨s, h2, h3⟩ := bind_some h1
        have h4 := (wordsS_inj h3).1
        refine HL.out s (List.mem_of_getElem? h2) [u] ?_ u (by simp)
        rw [h4]; unfold wordSeg; simp
      have HWH := Lib.hid (whole_any su hulen 0 255 (by decide) (by decide) w3 (HV.out.on HBX3.out (Nat.le_refl _)))
      have hsl : su.data.toList = u := by rw [← hsu]
      obtain ⟨K, hK⟩ : ∃ K, (wholeE u 0 255).getD 0 = K := ⟨_, rfl⟩
      have hKb : 0 ≤ K ∧ K ≤ 255 := by
        rw [← hK]
        cases hw : wholeE u 0 255 with
        | none => simp
        | some v => exact wholeE_lo hw
      obtain ⟨kn, rfl⟩ : ∃ kn : Nat, K = (kn : Int) := ⟨K.toNat, by omega⟩
      have hwr : IntKind.u8.wrap (kn : Int) = (kn : Int) := by simp [IntKind.wrap, IntKind.bits, IntKind.signed]; omega
      rw [hsl] at HWH
      unfold WholeQ at HWH
      rw [hK] at HWH
      have HK := Lib.hid hK
      clear hsu hsl hK hc3 hulen
      go_wp2_with fail
      refine HWH.out.mono ?_
      rintro e w4 ⟨rfl, hb4⟩
      have HF4 : Hid (Fr [B2] w0 w4) := Lib.hid (Fr.trans (F := [B2]) HF3.out (Below.fr hb4 (Nat.le_refl _) [B2]))
      have HB4 := Lib.hid hb4
      clear hb4
      go_wp2_with fail
      refine (parts_any kn w4).mono ?_
      rintro e w5 ⟨pv, rfl, hpp, hb5⟩
      have HF5 : Hid (Fr [B2] w0 w5) := Lib.hid (Fr.trans (F := [B2]) HF4.out (Below.fr hb5 (Nat.le_refl _) [B2]))
      have HPP := Lib.hid hpp
      have HB5 := Lib.hid hb5
      clear hb5 hpp hu3 hwr
      cases hkk : hasK kn with
      | none =>
        have HQ : Hid (packetM x = (pd0, 100)) := Lib.hid (by
          cases hw : wholeE u 0 255 with
          | none => exact pm_num HH.out HA.out HM.out hw
          | some v =>
            refine pm_kind HH.out HA.out HM.out hw ?_
            have h1 := HK.out
            rw [hw] at h1
            have h2 : v = (kn : Int) := h1
            rw [h2]; exact hkk)
        clear hkk
        rw [Option.isSome_none]
        have hr := (HF5.out.block B1 (by rw [HZ0.out]; omega) (by simp; omega)).trans HR0.out
        have HR := Lib.hid hr
        clear hr
        go_wp2_with ((with_reducible refine wpList_at (.store 38 (.tmp 2) _) rfl ?_); go_loud (refine wpList_store_agg rfl _ _ _ rfl B1 0 pkz rfl rfl (there_of HR.out 16 (by decide)) (by kernel_rfl) rfl ?_))
        refine bodyPost_ret (res_pkt rfl _ rfl rfl (putL_heap (cs := pkz) HR.out pkz rfl) rfl) rfl ?_
        exact pq_err HQ.out (putL_below hwB1 _ _ _ (HBw0.out.trans (HF5.out.belowB (by rw [HZ0.out]; omega) (fun b hb' => by have e := List.mem_singleton.1 hb'; omega))))
      | some hh =>
        have HKK := Lib.hid hkk
        have hwu : wholeE u 0 255 = some (kn : Int) := by
          cases hw : wholeE u 0 255 with
          | none =>
            have h1 := HK.out
            rw [hw] at h1
            have h2 : (0 : Int) = (kn : Int) := h1
            have h3 : kn = 0 := by omega
            rw [h3] at hkk; cases hkk
          | some v =>
            have h1 := HK.out
            rw [hw] at h1
            have h2 : v = (kn : Int) := h1
            rw [h2]
        have HWU := Lib.hid hwu
        rw [Option.isSome_some]
        clear hkk hwu
        have hp5 : w5.heap[B2]? = some (.cells #[.int .u8 (x.fr : Int), .int .u8 (x.dst : Int), .bool false, .int .u64 (x.rf : Int), .int .u8 0, .int .u8 0, .int .u64 0, .int .u8 0, .int .u8 0, .int .u16 0, .int .u32 0, .int .i64 0, .int .u8 0, .int .u32 0, .int .i64 0, .int .i64 0] 38 (0, 0)) := (HB5.out.block B2 (by have h1 := HF4.out.size; rw [HZ0.out] at h1; omega)).trans ((HB4.out.block B2 (by have h1 := HF3.out.size; rw [HZ0.out] at h1; omega)).trans ((HB3.out.block B2 (by have h1 := HF2.out.size; rw [HZ0.out] at h1; omega)).trans HP2.out))
        have k4 : w5.cell? ⟨B2, 4, none⟩ = some (.int .u8 0) := cell_of_row w5 B2 4 _ _ _ hp5
        have z4 := frozen_of_row w5 B2 4 _ _ hp5
        obtain ⟨w6, hw6⟩ : ∃ w6, w5.setCell ⟨B2, 4, none⟩ (.int .u8 (kn : Int)) = w6 := ⟨_, rfl⟩
        have HP6 : Hid (w6.heap[B2]? = some (.cells #[.int .u8 (x.fr : Int), .int .u8 (x.dst : Int), .bool false, .int .u64 (x.rf : Int), .int .u8 (kn : Int), .int .u8 0, .int .u64 0, .int .u8 0, .int .u8 0, .int .u16 0, .int .u32 0, .int .i64 0, .int .u8 0, .int .u32 0, .int .i64 0, .int .i64 0] 38 (0, 0))) := Lib.hid (by rw [← hw6]; exact heap_setCell_same _ B2 4 _ _ _ hp5)
        have HF6 : Hid (Fr [B2] w0 w6) := Lib.hid (by rw [← hw6]; exact Fr.trans (F := [B2]) HF5.out (Fr.setCell w5 (by simp) _))
        have HPV : Hid (PartsAt w4.heap.size w6 pv (partF hh)) := Lib.hid (by
          rw [← hw6]
          exact (HPP.out hh HKK.out).fr (F := [B2]) (Fr.setCell w5 (by simp) _) (fun j hj => by have e := List.mem_singleton.1 hj; have h1 := HF4.out.size; rw [HZ0.out] at h1; omega))
        have HW6 := Lib.hid hw6
        clear hp5 hw6
        go_upto_region 18 with fail
        rw [HW6.out]
        have s3 : w6.cell? ⟨w.heap.size, 3, none⟩ = some (.slice vo n cap) := cell_fr HF6.out (by simpa using HWB.out) (cell_of_row w0 w.heap.size 3 _ _ _ HB0.out)
        have HSG6 : Hid (SegsAt S w6 (.slice vo n cap) x.segs) := Lib.hid (HSG0.out.cong (fun _ hk => hk) (fun k hk => HF6.out.block k (HS0.out k hk) (by have := HS.out k hk; simp; omega)))
        have HS6 : Hid (∀ k, S k → k < w6.heap.size) := Lib.hid (fun k hk => Nat.lt_of_lt_of_le (HS0.out k hk) HF6.out.size)
        clear k4 z4
        go_wp2_with fail
        refine (words_any x.segs _ w6 HSG6.out HS6.out 1 2 tKEY ⟨#[75, 69, 89]⟩ rfl (by omega) (by omega)).mono ?_
        rintro e w7 ⟨v7, b7, rfl, hb7, hor⟩
        have HB7 := Lib.hid hb7
        have HO7 := Lib.hid hor
        have HF7 : Hid (Fr [B2] w0 w7) := Lib.hid (Fr.trans (F := [B2]) HF6.out (Below.fr hb7 (Nat.le_refl _) [B2]))
        clear hb7 hor s3
        rcases HO7.out with ⟨ws, hws, rfl, hc7⟩ | ⟨hno, rfl, rfl⟩
        · have hl2 := segO_len (x := x) (i := 1) (t := tKEY) hws
          obtain ⟨tt, u2, rfl⟩ : ∃ a b, ws = [a, b] := by
            match ws, hl2 with
            | [a, b], _ => exact ⟨a, b, rfl⟩
          have HY := Lib.hid (show segO x 1 tKEY 2 = some [tt, u2] from hws)
          have hlim : tt.length ≤ 1048576 ∧ u2.length ≤ 1048576 := by
            have h1 := hws
            obtain ⟨s, h2, h3⟩ := bind_some h1
            have h4 := (wordsS_inj h3).1
            have h5 := HL.out s (List.mem_of_getElem? h2)
            rw [h4] at h5
            unfold wordSeg at h5
            exact ⟨h5 [tt] (by simp) tt (by simp), h5 [u2] (by simp) u2 (by simp)⟩
          clear hws hl2
          obtain ⟨ao7, c7, rfl, hc71, hc72⟩ := hc7.form
          obtain ⟨b7, off7, rfl, hS7, ht7⟩ := hc7.get (k := 0) (p := tt) rfl
          obtain ⟨b7', off7', hbb7, _, hu7⟩ := hc7.get (k := 1) (p := u2) rfl
          cases hbb7
          rw [Nat.add_zero] at ht7
          obtain ⟨st7, hst7⟩ : ∃ s : ByteArray, (⟨tt.toArray⟩ : ByteArray) = s := ⟨_, rfl⟩
          obtain ⟨su7, hsu7⟩ : ∃ s : ByteArray, (⟨u2.toArray⟩ : ByteArray) = s := ⟨_, rfl⟩
          unfold sv at ht7 hu7
          rw [hst7] at ht7
          rw [hsu7] at hu7
          unfold maxLen at hc72
          simp only [List.length_cons, List.length_nil, Nat.zero_add] at hc71 ⊢
          have HNP := Lib.hid (nParse_any st7 w7)
          have e7 : st7.data.toList = tt := by rw [← hst7]
          rw [e7] at HNP
          unfold Parse7Q tkv at HNP
          obtain ⟨PK, hPK⟩ : ∃ P, parse7 tt = P := ⟨_, rfl⟩
          obtain ⟨⟨pc, ps⟩, pe⟩ := PK
          rw [hPK] at HNP
          simp only at HNP
          have HPK := Lib.hid hPK
          have HU7 := Lib.hid hu7
          have hsz7 : su7.size ≤ 1048576 := by
            have e : su7.size = u2.length := by rw [← hsu7]; rfl
            rw [e]; exact hlim.2
          have hsl7 : su7.data.toList = u2 := by rw [← hsu7]
          have HSL7 := Lib.hid hsl7
          have HSZ7 := Lib.hid hsz7
          clear hPK e7 hst7 hsu7 hsl7 hsz7 hlim hc7 hu7
          go_upto_region 22 with (go_at_call 54; go_loud (refine HNP.out.mono ?_; rintro e w8 ⟨rfl, hb8⟩; have HB8 := Lib.hid hb8; clear hb8))
          obtain ⟨DT, hDT⟩ : ∃ D, w8.heap.size = D := ⟨_, rfl⟩
          obtain ⟨w9, hw9⟩ : ∃ w', w8.alloc (.cells #[.int .u8 (pc : Int), .int .u64 (ps : Int)] 24) = w' := ⟨_, rfl⟩
          have HU9 : Hid (Below w7.heap.size w7 w9) := Lib.hid (by rw [← hw9]; exact HB8.out.alloc HB8.out.size _)
          have HF9 : Hid (Fr [B2] w0 w9) := Lib.hid (Fr.trans (F := [B2]) HF7.out (Below.fr HU9.out (Nat.le_refl _) [B2]))
          have HT9 : Hid (w9.heap[DT]? = some (.cells #[.int .u8 (pc : Int), .int .u64 (ps : Int)] 24 (0, 0))) := Lib.hid (by rw [← hw9, ← hDT]; exact heap_alloc_new _ _)
          have hDTB : B2 < DT := by rw [← hDT]; have h1 := HF7.out.size; have h2 := HB8.out.size; rw [HZ0.out] at h1; omega
          rw [hw9, hDT]
          clear hw9 hDT ht7
          by_cases hpe : pe = 0
          · subst hpe
            have u9 : w9.cell? ⟨b7, off7 + 1, none⟩ = some (.string su7) := (HU9.out.cell (p := ⟨b7, off7 + 1, none⟩) (cell_lt' HU7.out)).trans HU7.out
            have HBX9 : Hid (Below w.heap.size w w9) := Lib.hid (HBw0.out.trans (HF9.out.belowB (by rw [HZ0.out]; omega) (fun b hb' => by have e := List.mem_singleton.1 hb'; omega)))
            have HWH2 := Lib.hid (whole_any su7 HSZ7.out 0 3 (by decide) (by decide) w9 (HV.out.on HBX9.out (Nat.le_refl _)))
            rw [HSL7.out] at HWH2
            unfold WholeQ at HWH2
            obtain ⟨A, hA⟩ : ∃ A, (wholeE u2 0 3).getD 0 = A := ⟨_, rfl⟩
            obtain ⟨ab, hab⟩ : ∃ b, (wholeE u2 0 3).isSome = b := ⟨_, rfl⟩
            have hAb : 0 ≤ A ∧ A ≤ 3 := by
              rw [← hA]
              cases hw : wholeE u2 0 3 with
              | none => simp
              | some v => exact wholeE_lo hw
            obtain ⟨an, rfl⟩ : ∃ an : Nat, A = (an : Int) := ⟨A.toNat, by omega⟩
            have hwa : IntKind.u8.wrap (an : Int) = (an : Int) := by simp [IntKind.wrap, IntKind.bits, IntKind.signed]; omega
            rw [hA, hab] at HWH2
            have HAN := Lib.hid hA
            have HAB := Lib.hid hab
            clear hA hab
            go_wp2_with fail
            refine HWH2.out.mono ?_
            rintro e w10 ⟨rfl, hb10⟩
            have HU10 : Hid (Below w7.heap.size w7 w10) := Lib.hid (HU9.out.trans (hb10.mono HU9.out.size))
            have HF10 : Hid (Fr [B2] w0 w10) := Lib.hid (Fr.trans (F := [B2]) HF7.out (Below.fr HU10.out (Nat.le_refl _) [B2]))
            have hT10 := (hb10.block DT (Array.getElem?_eq_some_iff.1 HT9.out).1).trans HT9.out
            have hp10 : w10.heap[B2]? = some (.cells #[.int .u8 (x.fr : Int), .int .u8 (x.dst : Int), .bool false, .int .u64 (x.rf : Int), .int .u8 (kn : Int), .int .u8 0, .int .u64 0, .int .u8 0, .int .u8 0, .int .u16 0, .int .u32 0, .int .i64 0, .int .u8 0, .int .u32 0, .int .i64 0, .int .i64 0] 38 (0, 0)) := (HU10.out.block B2 (by have h1 := HF7.out.size; rw [HZ0.out] at h1; omega)).trans ((HB7.out.block B2 (by have h1 := HF6.out.size; rw [HZ0.out] at h1; omega)).trans HP6.out)
            have t0 : w10.cell? ⟨DT, 0, none⟩ = some (.int .u8 (pc : Int)) := cell_of_row w10 DT 0 _ _ _ hT10
            have t1 : w10.cell? ⟨DT, 1, none⟩ = some (.int .u64 (ps : Int)) := cell_of_row w10 DT 1 _ _ _ hT10
            have k5 : w10.cell? ⟨B2, 5, none⟩ = some (.int .u8 0) := cell_of_row w10 B2 5 _ _ _ hp10
            have k6 : w10.cell? ⟨B2, 6, none⟩ = some (.int .u64 0) := cell_of_row w10 B2 6 _ _ _ hp10
            have k7 : w10.cell? ⟨B2, 7, none⟩ = some (.int .u8 0) := cell_of_row w10 B2 7 _ _ _ hp10
            have z5 := frozen_of_row w10 B2 5 _ _ hp10
            have z6 := frozen_of_row w10 B2 6 _ _ hp10
            have z7 := frozen_of_row w10 B2 7 _ _ hp10
            obtain ⟨w11, hw11⟩ : ∃ w', ((w10.setCell ⟨B2, 5, none⟩ (.int .u8 (pc : Int))).setCell ⟨B2, 6, none⟩ (.int .u64 (ps : Int))).setCell ⟨B2, 7, none⟩ (.int .u8 (an : Int)) = w' := ⟨_, rfl⟩
            have HP11 : Hid (w11.heap[B2]? = some (.cells #[.int .u8 (x.fr : Int), .int .u8 (x.dst : Int), .bool false, .int .u64 (x.rf : Int), .int .u8 (kn : Int), .int .u8 (pc : Int), .int .u64 (ps : Int), .int .u8 (an : Int), .int .u8 0, .int .u16 0, .int .u32 0, .int .i64 0, .int .u8 0, .int .u32 0, .int .i64 0, .int .i64 0] 38 (0, 0))) := Lib.hid (by rw [← hw11]; exact heap_setCell_same _ B2 7 _ _ _ (heap_setCell_same _ B2 6 _ _ _ (heap_setCell_same _ B2 5 _ _ _ hp10)))
            have HF11 : Hid (Fr [B2] w0 w11) := Lib.hid (by rw [← hw11]; exact Fr.trans (F := [B2]) HF10.out (Fr.trans (F := [B2]) (Fr.setCell _ (by simp) _) (Fr.trans (F := [B2]) (Fr.setCell _ (by simp) _) (Fr.setCell _ (by simp) _))))
            have HPV11 : Hid (PartsAt w4.heap.size w11 pv (partF hh)) := Lib.hid (by
              have h1 : Fr [B2] w6 w11 := by
                rw [← hw11]
                exact Fr.trans (F := [B2]) (Fr.trans (F := [B2]) (Below.fr HB7.out (Nat.le_refl _) [B2]) (Below.fr HU10.out (Nat.le_refl _) [B2])) (Fr.trans (F := [B2]) (Fr.setCell _ (by simp) _) (Fr.trans (F := [B2]) (Fr.setCell _ (by simp) _) (Fr.setCell _ (by simp) _)))
              exact HPV.out.fr h1 (fun j hj => by have e := List.mem_singleton.1 hj; have h1 := HF4.out.size; rw [HZ0.out] at h1; omega))
            have HW11 := Lib.hid hw11
            clear hb10 hT10 hp10 hw11 u9
            go_upto_region 26 with fail
            rw [HW11.out]
            obtain ⟨pvo, hpvo⟩ := HPV11.out.form
            subst hpvo
            obtain ⟨np, hnp⟩ : ∃ l, (partF hh).length = l := ⟨_, rfl⟩
            rw [hnp] at HPV11 ⊢
            have HNPP := Lib.hid hnp
            have hnp3 : np ≤ 1000 := by rw [← hnp]; obtain ⟨x', y', z'⟩ := hh; cases x' <;> cases y' <;> cases z' <;> decide
            have s3 : w11.cell? ⟨w.heap.size, 3, none⟩ = some (.slice vo n cap) := cell_fr HF11.out (by simpa using HWB.out) (cell_of_row w0 w.heap.size 3 _ _ _ HB0.out)
            have wnp : IntKind.i64.wrap (2 + (np : Int)) = 2 + (np : Int) := IntWalk.i64_in _ (by omega)
            obtain ⟨dn, hdn⟩ : ∃ b, ((n : Int) == 2 + (np : Int)) = b := ⟨_, rfl⟩
            have hdn2 : decide (n = 2 + np) = dn := by rw [← hdn, Bool.eq_iff_iff, beq_iff_eq, decide_eq_true_eq]; omega
            have HDN := Lib.hid hdn2
            clear hnp hdn2 t0 t1 k5 k6 k7 z5 z6 z7 hwa
            have HOK0 : Hid (∀ b, b = (ab && dn) → b = ((wholeE u2 0 3).isSome && decide (x.segs.length = 2 + (partF hh).length))) := Lib.hid (fun b hb => by rw [hb, HAB.out, HN.out, HNPP.out, HDN.out])
            obtain ⟨m0, hm0⟩ : ∃ m : MD, (⟨kn, pc, ps, an, cd0, 0, 0⟩ : MD) = m := ⟨_, rfl⟩
            obtain ⟨pre, hpre⟩ : ∃ l : List Value, [.int .u8 (x.fr : Int), .int .u8 (x.dst : Int), .bool false, .int .u64 (x.rf : Int)] = l := ⟨_, rfl⟩
            have HRM : Hid (MRow pre 38 m0 B2 w11) := Lib.hid (by unfold MRow; rw [← hm0, ← hpre]; exact HP11.out)
            have hpl : pre.length = 4 := by rw [← hpre]; rfl
            have HPL := Lib.hid hpl
            have HPRE := Lib.hid hpre
            have HM0 := Lib.hid hm0
            have HMAIN : Hid (∀ st : Bool × MD, st = readN x hh np ((wholeE u2 0 3).isSome && decide (x.segs.length = 2 + (partF hh).length), m0) → packetM x = if st.1 = true then (⟨x.fr, x.dst, false, x.rf, st.2⟩, 0) else (pd0, 101)) := Lib.hid (fun st hst => by
              refine pm_main HH.out HA.out HM.out HWU.out (hh := hh) (by simpa using HKK.out) HY.out (by rw [HPK.out]) ?_
              rw [HPK.out, HAN.out, hst, ← HM0.out, HNPP.out]
              rfl)
            clear hm0 hpre hpl
            cases ab
            all_goals
              go_upto_region 27 with fail
              go_wp2_with fail
              go_loopw [6, 127] (fun okv iv wx => ∃ (i : Nat) (ok : Bool) (md : MD), i ≤ np ∧ iv = .int .i64 (i : Int) ∧ okv = .bool ok ∧ Hid (PInv x hh ((wholeE u2 0 3).isSome && decide (x.segs.length = 2 + (partF hh).length), m0) pre B2 w11 i ok md wx)) (fun _ iv _ => np - (intOf iv).toNat)
              case atStart => exact ⟨0, _, _, by omega, rfl, rfl, Lib.hid ⟨by rw [← HOK0.out _ rfl]; rfl, HRM.out, Fr.trans (F := [B2]) (Below.fr (Below.refl _ _) (Nat.le_refl _) [B2]) (Below.fr (Below.refl _ _) (Nat.le_refl _) [B2])⟩⟩
              case round =>
                obtain ⟨i, ok, md, hi, rfl, rfl, HW⟩ := hrel
                by_cases hlt : i < np
                · skip
                  obtain ⟨⟨tag, fs⟩, hq⟩ : ∃ q, (partF hh)[i]? = some q := ⟨_, List.getElem?_eq_getElem (by rw [HNPP.out]; exact hlt)⟩
                  obtain ⟨pb, fv, rfl, hpb, ct, cf, hF⟩ := HPV11.out.get hq
                  obtain ⟨fb, rfl, hfb, hFx⟩ := hF
                  have hw4 : B2 < w4.heap.size := by have h1 := HF4.out.size; rw [HZ0.out] at h1; omega
                  have nB : ∀ {g : Nat}, w4.heap.size ≤ g → g ∉ [B2] := fun hg hm => by
                    have e := List.mem_singleton.1 hm
                    omega
                  have ct := cell_fr HW.out.fr (nB hpb) ct
                  have cf := cell_fr HW.out.fr (nB hpb) cf
                  have HFX := Lib.hid hFx
                  obtain ⟨stg, hstg⟩ : ∃ s : ByteArray, (⟨tag.toArray⟩ : ByteArray) = s := ⟨_, rfl⟩
                  unfold sv at ct
                  simp only at ct cf
                  rw [hstg] at ct
                  obtain ⟨fl, hfl⟩ : ∃ l, fs.length = l := ⟨_, rfl⟩
                  rw [hfl] at cf
                  have hfl6 : fl ≤ 6 := by rw [← hfl]; exact partF_len hh _ (List.mem_of_getElem? hq)
                  have HFL := Lib.hid hfl
                  have HQK := Lib.hid hq
                  have HSTG := Lib.hid hstg
                  have a1 : (i : Int) < (np : Int) := by omega
                  have a2 : (0 : Int) ≤ (i : Int) := by omega
                  obtain ⟨Dx, hDx⟩ : ∃ D, wr.heap.size = D := ⟨_, rfl⟩
                  obtain ⟨wx1, hwx1⟩ : ∃ w', wr.alloc (.cells #[.string stg, .slice (some ⟨fb, 0, none⟩) fl fl] 103) = w' := ⟨_, rfl⟩
                  have hzx1 : wx1.heap.size = Dx + 1 := by rw [← hwx1, ← hDx]; simp
                  have HBX1 : Hid (Below Dx wr wx1) := Lib.hid (by rw [← hwx1, ← hDx]; exact (Below.refl _ _).alloc (Nat.le_refl _) _)
                  have hrx : wx1.heap[Dx]? = some (.cells #[.string stg, .slice (some ⟨fb, 0, none⟩) fl fl] 103 (0, 0)) := by rw [← hwx1, ← hDx]; exact heap_alloc_new _ _
                  have HR1x := Lib.hid hrx
                  have x0 : wx1.cell? ⟨Dx, 0, none⟩ = some (.string stg) := cell_of_row wx1 Dx 0 _ _ _ hrx
                  have x1 : wx1.cell? ⟨Dx, 1, none⟩ = some (.slice (some ⟨fb, 0, none⟩) fl fl) := cell_of_row wx1 Dx 1 _ _ _ hrx
                  have hBD : B2 < Dx := by rw [← hDx]; exact HW.out.row.lt
                  have HDX := Lib.hid hDx
                  have HZX := Lib.hid hzx1
                  have HWX1 := Lib.hid hwx1
                  have HF1x : Hid (Fr [B2] w0 wx1) := Lib.hid (Fr.trans (F := [B2]) HF11.out (Fr.trans (F := [B2]) HW.out.fr (Below.fr HBX1.out (by rw [HDX.out]; exact Nat.le_refl _) [B2])))
                  have HF11x : Hid (Fr [B2] w11 wx1) := Lib.hid (Fr.trans (F := [B2]) HW.out.fr (Below.fr HBX1.out (by rw [HDX.out]; exact Nat.le_refl _) [B2]))
                  have s4 : wx1.cell? ⟨w.heap.size, 3, none⟩ = some (.slice vo n cap) := cell_fr HF1x.out (by simpa using HWB.out) (cell_of_row w0 w.heap.size 3 _ _ _ HB0.out)
                  have HMx1 : Hid (MRow pre 38 md B2 wx1) := Lib.hid ((HBX1.out.block B2 hBD).trans HW.out.row)
                  have HSGx : Hid (SegsAt S wx1 (.slice vo n cap) x.segs) := Lib.hid (HSG0.out.cong (fun _ hk => hk) (fun k hk => HF1x.out.block k (HS0.out k hk) (by have := HS.out k hk; simp; omega)))
                  have HSx : Hid (∀ k, S k → k < wx1.heap.size) := Lib.hid (fun k hk => Nat.lt_of_lt_of_le (HS0.out k hk) HF1x.out.size)
                  have HWD : Hid (Calls Tryz.prog 52 #[.slice vo n cap, .int .i64 (2 + (i : Int)), .string stg, .int .i64 (fl : Int)] wx1 fun e w' => WordsQ (segO x (2 + i) tag fl) wx1 e w') := Lib.hid (by
                    have h1 := words_any x.segs _ wx1 HSGx.out HSx.out (2 + i) fl tag stg HSTG.out (by omega) (by omega)
                    rw [show ((2 + i : Nat) : Int) = 2 + (i : Int) by omega] at h1
                    exact h1)
                  have wi2 : IntKind.i64.wrap (2 + (i : Int)) = 2 + (i : Int) := IntWalk.i64_in _ (by omega)
                  clear hstg hfl hq hDx hwx1 hzx1 hrx hFx s3
                  go_upto_region 30 with fail
                  rw [HWX1.out, HDX.out]
                  go_wp2_with fail
                  refine HWD.out.mono ?_
                  rintro e wy ⟨lv, bb, rfl, hby, hor⟩
                  have HBY := Lib.hid hby
                  have HOR := Lib.hid hor
                  clear hby hor x0 ct cf wi2 s4
                  obtain ⟨l, HLL⟩ : ∃ l : List Str, Hid (CompsAt (fun b => wx1.heap.size ≤ b ∧ b < wy.heap.size) wy lv l ∧ l.length ≤ fl ∧ (∀ st : Bool × MD, readP st ((tag, fs), x.segs[2 + i]?) = (fs.zip l).foldl readF (st.1 && bb, st.2)) ∧ ∀ c ∈ l, c.length ≤ 1048576) := by
                    rcases HOR.out with ⟨ws, hws, rfl, hc⟩ | ⟨hno, rfl, rfl⟩
                    · refine ⟨ws, Lib.hid ⟨hc, Nat.le_of_eq (segO_len hws), fun st => ?_, ?_⟩⟩
                      · unfold readP
                        have h1 : (x.segs[2 + i]?).bind (fun s => wordsS s tag fs.length) = some ws := by rw [HFL.out]; exact hws
                        simp only [h1, Bool.and_true]
                      · have h1 := hws
                        unfold segO at h1
                        obtain ⟨s, h2, h3⟩ := bind_some h1
                        have h4 := (wordsS_inj h3).1
                        have h5 := HL.out s (List.mem_of_getElem? h2)
                        rw [h4] at h5
                        unfold wordSeg at h5
                        exact fun c hc' => h5 [c] (List.mem_map.2 ⟨c, hc', rfl⟩) c (by simp)
                    · refine ⟨[], Lib.hid ⟨RowAt.nil _ _, Nat.zero_le _, fun st => ?_, fun c hc' => by cases hc'⟩⟩
                      unfold readP
                      have h1 : (x.segs[2 + i]?).bind (fun s => wordsS s tag fs.length) = none := by rw [HFL.out]; exact hno
                      simp only [h1, Bool.and_false, List.zip_nil_right, List.foldl_nil]
                  obtain ⟨lo, lc, hlv, hl1, hl2⟩ := HLL.out.1.form
                  subst hlv
                  obtain ⟨ln, hln⟩ : ∃ m, l.length = m := ⟨_, rfl⟩
                  have HLN := Lib.hid hln
                  rw [hln] at hl1 HLL ⊢
                  unfold maxLen at hl2
                  have hln6 : ln ≤ fl := HLL.out.2.1
                  have HFy : Hid (Fr [B2] w0 wy) := Lib.hid (Fr.trans (F := [B2]) HF1x.out (Below.fr HBY.out (Nat.le_refl _) [B2]))
                  have HMy : Hid (MRow pre 38 md B2 wy) := Lib.hid ((HBY.out.block B2 HMx1.out.lt).trans HMx1.out)
                  have HF11y : Hid (Fr [B2] w11 wy) := Lib.hid (Fr.trans (F := [B2]) HF11x.out (Below.fr HBY.out (Nat.le_refl _) [B2]))
                  have HX1 : Hid (wy.cell? ⟨Dx, 1, none⟩ = some (.slice (some ⟨fb, 0, none⟩) fl fl)) := Lib.hid ((HBY.out.cell (p := ⟨Dx, 1, none⟩) (cell_lt' x1)).trans x1)
                  clear hln x1
                  obtain ⟨o1, ho1⟩ : ∃ b, (ok && bb) = b := ⟨_, rfl⟩
                  have HO1 := Lib.hid ho1
                  have HSTEP : Hid (∀ q : Bool × MD, q = (fs.zip l).foldl readF (o1, md) → q = readN x hh (i + 1) ((wholeE u2 0 3).isSome && decide (x.segs.length = 2 + (partF hh).length), m0)) := Lib.hid (fun q hq' => by
                    have h1 := HLL.out.2.2.1 (ok, md)
                    rw [readN_succ, ← HW.out.st, HQK.out]
                    rw [hq', ← ho1]
                    exact h1.symm)
                  clear ho1
                  cases ok
                  all_goals
                    go_wp2_with fail
                    go_loopw [6, 151] (fun okv jv wz => ∃ (j : Nat) (okj : Bool) (mdj : MD), j ≤ ln ∧ jv = .int .i64 (j : Int) ∧ okv = .bool okj ∧ Hid (QInv fs l (o1, md) pre B2 wy j okj mdj wz)) (fun _ jv _ => ln - (intOf jv).toNat)
                    case atStart => exact ⟨0, _, _, by omega, rfl, rfl, Lib.hid ⟨by rw [← HO1.out]; rfl, HMy.out, Fr.trans (F := [B2]) (Below.fr (Below.refl _ _) (Nat.le_refl _) [B2]) (Below.fr (Below.refl _ _) (Nat.le_refl _) [B2])⟩⟩
                    case round =>
                      obtain ⟨j, okj, mdj, hj, rfl, rfl, HJ⟩ := hrel
                      by_cases hjl : j < ln
                      · skip
                        obtain ⟨f, hf⟩ : ∃ f, fs[j]? = some f := ⟨_, List.getElem?_eq_getElem (by rw [HFL.out]; omega)⟩
                        obtain ⟨sw, hsw⟩ : ∃ s, l[j]? = some s := ⟨_, List.getElem?_eq_getElem (by rw [HLN.out]; exact hjl)⟩
                        obtain ⟨lb, lof, rfl, hlb, hcl⟩ := HLL.out.1.get hsw
                        have hlbB : lb ∉ [B2] := fun hm => by
                          have e := List.mem_singleton.1 hm
                          have h1 := hlb.1
                          rw [HZX.out] at h1
                          omega
                        have hDxB : Dx ∉ [B2] := fun hm => by
                          have e := List.mem_singleton.1 hm
                          omega
                        have cl := cell_fr HJ.out.fr hlbB hcl
                        have cd := cell_fr HJ.out.fr hDxB HX1.out
                        have HF11r : Hid (Fr [B2] w11 wr) := Lib.hid (Fr.trans (F := [B2]) HF11y.out HJ.out.fr)
                        obtain ⟨xv, yv, _, cy, a, hab, rfl, rfl, hca⟩ := HFX.out j f hf
                        have cy := cell_fr HF11r.out (nB hfb) cy
                        have hca := hca.fr HF11r.out (fun b hb' => by (have e := List.mem_singleton.1 hb'); omega)
                        obtain ⟨sj, hsj⟩ : ∃ s : ByteArray, (⟨sw.toArray⟩ : ByteArray) = s := ⟨_, rfl⟩
                        unfold sv at cl
                        rw [hsj] at cl
                        have hsl : sj.data.toList = sw := by rw [← hsj]
                        have hsz : sj.size ≤ 1048576 := by
                          have e : sj.size = sw.length := by rw [← hsj]; rfl
                          rw [e]; exact HLL.out.2.2.2 sw (List.mem_of_getElem? hsw)
                        have HFr0 : Hid (Fr [B2] w0 wr) := Lib.hid (Fr.trans (F := [B2]) HFy.out HJ.out.fr)
                        have hVr : VarsOk wr := HV.out.on (HBw0.out.trans (HFr0.out.belowB (by rw [HZ0.out]; omega) (fun b hb' => by (have e := List.mem_singleton.1 hb'); omega))) (Nat.le_refl _)
                        have hrd := read_any f pre 38 mdj sj hsz B2 a wr hVr HJ.out.row hca
                        rw [HPL.out, hsl] at hrd
                        have HRD := Lib.hid hrd
                        have HFJ := Lib.hid hf
                        have HSJ := Lib.hid hsw
                        have b1 : (j : Int) < (ln : Int) := by omega
                        have b1' : (j : Int) < (fl : Int) := by omega
                        have b2 : (0 : Int) ≤ (j : Int) := by omega
                        have hcr := cf_read f
                        clear hrd hf hsw hcl hca hsj hsl hsz hVr
                        go_wp2_with fail
                        refine HRD.out.mono ?_
                        rintro e wz ⟨rfl, hmz, hfz⟩
                        have HMZ := Lib.hid hmz
                        have HFZ := Lib.hid hfz
                        clear hmz hfz cl cd cy
                        have hzip : (fs.zip l).take (j + 1) = (fs.zip l).take j ++ [(f, sw)] := by
                          have hz : (fs.zip l)[j]? = some (f, sw) := List.getElem?_zip_eq_some.2 ⟨HFJ.out, HSJ.out⟩
                          rw [List.take_add_one, hz]
                          rfl
                        have HZIP := Lib.hid hzip
                        clear hzip
                        cases hw : wholeE sw f.bnd.1 f.bnd.2 with
                        | none =>
                          have HWN := Lib.hid hw
                          rw [Option.isSome_none]
                          clear hw
                          go_wp2_with fail
                          go_roundw
                          case rel =>
                            refine ⟨j + 1, false, f.set 0 mdj, by omega, by go_num, rfl, Lib.hid ⟨?_, ?_, Fr.trans (F := [B2]) HJ.out.fr HFZ.out⟩⟩
                            · rw [HZIP.out, List.foldl_append, ← HJ.out.st]
                              show _ = readF (okj, mdj) (f, sw)
                              unfold readF
                              simp only [HWN.out]
                            · have h1 := HMZ.out
                              rw [HWN.out] at h1
                              exact h1
                          case measure => simp [intOf]; omega
                        | some vv =>
                          have HWN := Lib.hid hw
                          rw [Option.isSome_some]
                          clear hw
                          go_wp2_with fail
                          go_roundw
                          case rel =>
                            refine ⟨j + 1, okj, f.set vv mdj, by omega, by go_num, rfl, Lib.hid ⟨?_, ?_, Fr.trans (F := [B2]) HJ.out.fr HFZ.out⟩⟩
                            · rw [HZIP.out, List.foldl_append, ← HJ.out.st]
                              show _ = readF (okj, mdj) (f, sw)
                              unfold readF
                              simp only [HWN.out]
                            · have h1 := HMZ.out
                              rw [HWN.out] at h1
                              exact h1
                          case measure => simp [intOf]; omega
                      · skip
                        obtain rfl : j = ln := by omega
                        have hzl : (fs.zip l).take j = fs.zip l := List.take_of_length_le (by rw [List.length_zip, HLN.out]; omega)
                        have hst := HJ.out.st
                        rw [hzl] at hst
                        have HWN : Hid (PInv x hh ((wholeE u2 0 3).isSome && decide (x.segs.length = 2 + (partF hh).length), m0) pre B2 w11 (i + 1) okj mdj wr) := Lib.hid (by
                          exact ⟨HSTEP.out _ hst, HJ.out.row, Fr.trans (F := [B2]) HF11y.out HJ.out.fr⟩)
                        have hib : (i : Int) ≤ 1000 := by omega
                        clear hst hzl
                        go_wp2_with fail
                        go_roundw
                        case rel => exact ⟨i + 1, okj, mdj, by omega, by go_num, rfl, HWN⟩
                        case measure => simp [intOf]; omega
                · skip
                  obtain rfl : i = np := by omega
                  have HST := Lib.hid (HMAIN.out _ HW.out.st)
                  have HFW : Hid (Fr [B2] w0 wr) := Lib.hid (Fr.trans (F := [B2]) HF11.out HW.out.fr)
                  have HRW := HW.out.row
                  cases ok with
                  | false =>
                    have HQ : Hid (packetM x = (pd0, 101)) := Lib.hid (by rw [HST.out]; rfl)
                    have hr := (HFW.out.block B1 (by rw [HZ0.out]; omega) (by simp; omega)).trans HR0.out
                    have HR := Lib.hid hr
                    clear hr
                    go_wp2_with ((with_reducible refine wpList_at (.store 38 (.tmp 2) _) rfl ?_); go_loud (refine wpList_store_agg rfl _ _ _ rfl B1 0 pkz rfl rfl (there_of HR.out 16 (by decide)) (by kernel_rfl) rfl ?_))
                    refine bodyPost_ret (res_pkt rfl _ rfl rfl (putL_heap (cs := pkz) HR.out pkz rfl) rfl) rfl ?_
                    exact pq_err HQ.out (putL_below hwB1 _ _ _ (HBw0.out.trans (HFW.out.belowB (by rw [HZ0.out]; omega) (fun b hb' => by have e := List.mem_singleton.1 hb'; omega))))
                  | true =>
                    have hr := (HFW.out.block B1 (by rw [HZ0.out]; omega) (by simp; omega)).trans HR0.out
                    have HR := Lib.hid hr
                    have hrp : wr.heap[B2]? = some (.cells (pktA ⟨x.fr, x.dst, false, x.rf, md⟩).toArray 38 (0, 0)) := by
                      have h1 := HRW
                      unfold MRow at h1
                      rw [← HPRE.out] at h1
                      exact h1
                    have HRP := Lib.hid hrp
                    clear hr hrp
                    go_wp2_with (first | ((with_reducible refine wpList_at (.load 38 (.tmp 4)) rfl ?_); go_loud (refine wpList_load_row rfl _ _ rfl B2 rfl 38 _ (0, 0) _ HRP.out Tryz.underlying38 rfl (by kernel_rfl) ?_)) | ((with_reducible refine wpList_at (.store 38 (.tmp 2) _) rfl ?_); go_loud (refine wpList_store_agg rfl _ _ _ rfl B1 0 (pktA ⟨x.fr, x.dst, false, x.rf, md⟩) rfl rfl (there_of HR.out 16 (by decide)) (by kernel_rfl) rfl ?_)))
                    refine bodyPost_ret (res_pkt rfl _ rfl rfl (putL_heap (cs := pkz) HR.out (pktA ⟨x.fr, x.dst, false, x.rf, md⟩) rfl) rfl) rfl ?_
                    unfold PacketQ
                    rw [HST.out]
                    exact ⟨rfl, putL_below hwB1 _ _ _ (HBw0.out.trans (HFW.out.belowB (by rw [HZ0.out]; omega) (fun b hb' => by have e := List.mem_singleton.1 hb'; omega)))⟩
          · have hpe1 : (pe != 0) = true := by rw [bne_iff_ne]; exact hpe
            have HQ : Hid (packetM x = (pd0, pe)) := Lib.hid (by
              have h1 := pm_tick HH.out HA.out HM.out HWU.out (hh := hh) (by simpa using HKK.out) HY.out (by rw [HPK.out]; exact hpe)
              rw [HPK.out] at h1; exact h1)
            have hr := (HF9.out.block B1 (by rw [HZ0.out]; omega) (by simp; omega)).trans HR0.out
            have HR := Lib.hid hr
            clear hr
            go_wp2_with ((with_reducible refine wpList_at (.store 38 (.tmp 2) _) rfl ?_); go_loud (refine wpList_store_agg rfl _ _ _ rfl B1 0 pkz rfl rfl (there_of HR.out 16 (by decide)) (by kernel_rfl) rfl ?_))
            refine bodyPost_ret (res_pkt rfl _ rfl rfl (putL_heap (cs := pkz) HR.out pkz rfl) rfl) rfl ?_
            exact pq_err HQ.out (putL_below hwB1 _ _ _ (HBw0.out.trans (HF9.out.belowB (by rw [HZ0.out]; omega) (fun b hb' => by have e := List.mem_singleton.1 hb'; omega))))
        · have HQ := Lib.hid (pm_key HH.out HA.out HM.out HWU.out (hh := hh) (by simpa using HKK.out) hno)
          clear hno
          have hr := (HF7.out.block B1 (by rw [HZ0.out]; omega) (by simp; omega)).trans HR0.out
          have HR := Lib.hid hr
          clear hr
          go_wp2_with ((with_reducible refine wpList_at (.store 38 (.tmp 2) _) rfl ?_); go_loud (refine wpList_store_agg rfl _ _ _ rfl B1 0 pkz rfl rfl (there_of HR.out 16 (by decide)) (by kernel_rfl) rfl ?_))
          refine bodyPost_ret (res_pkt rfl _ rfl rfl (putL_heap (cs := pkz) HR.out pkz rfl) rfl) rfl ?_
          exact pq_err HQ.out (putL_below hwB1 _ _ _ (HBw0.out.trans (HF7.out.belowB (by rw [HZ0.out]; omega) (fun b hb' => by have e := List.mem_singleton.1 hb'; omega))))
    · have HQ := Lib.hid (pm_msg HH.out HA.out hno)
      clear hno
      have hr := (HF3.out.block B1 (by rw [HZ0.out]; omega) (by simp; omega)).trans HR0.out
      have HR := Lib.hid hr
      clear hr
      go_wp2_with ((with_reducible refine wpList_at (.store 38 (.tmp 2) _) rfl ?_); go_loud (refine wpList_store_agg rfl _ _ _ rfl B1 0 pkz rfl rfl (there_of HR.out 16 (by decide)) (by kernel_rfl) rfl ?_))
      refine bodyPost_ret (res_pkt rfl _ rfl rfl (putL_heap (cs := pkz) HR.out pkz rfl) rfl) rfl ?_
      exact pq_err HQ.out (putL_below hwB1 _ _ _ (HBw0.out.trans (HF3.out.belowB (by rw [HZ0.out]; omega) (fun b hb' => by have e := List.mem_singleton.1 hb'; omega))))
end Go.Proofs.YtgfijlamhjjecaaGreatDoor


namespace Go.Proofs.YtgfijlamhjjecaaGreatDoor
open Go.RowKit
set_option maxRecDepth 100000 in
set_option maxHeartbeats 4000000 in
theorem mpacket_car (x : WD) (v : Value) (h : 8 ≤ x.fr ∨ 8 ≤ x.dst) (w : World) : Calls Tryz.prog 19 #[wv x v] w fun e w' => PacketQ x w e w' := by
  have HQ := Lib.hid (pm_car h)
  have hb : (decide (x.fr < 8) && decide (x.dst < 8)) = false := by simp; omega
  unfold wv
  clear h
  go_enter Tryz.func19, Tryz.ntmps19
  go_wp2_with (go_at_call 41; refine (carriers_any _ _ _).mono ?_; rw [hb]; rintro e w' ⟨rfl, rfl⟩)
  refine bodyPost_ret (res_pkt rfl _ rfl rfl ((Below.heap_alloc _ _ _ (by simp)).trans (heap_alloc_at (by simp))) rfl) rfl ?_
  exact pq_err HQ.out ((((Below.refl _ _).alloc (Nat.le_refl _) _).alloc (by simp) _).alloc (by simp only [World.size_alloc]; omega) _)
end Go.Proofs.YtgfijlamhjjecaaGreatDoor


namespace Go.Proofs.YtgfijlamhjjecaaGreatDoor
open Go.RowKit
theorem mPacket_any {S : Nat → Prop} (x : WD) (v : Value) (w : World) (hv : VarsOk w) (hs : SegsAt S w v x.segs) (hS : ∀ k, S k → k < w.heap.size) (hL : wordsLim x) : Calls Tryz.prog 19 #[wv x v] w fun e w' => PacketQ x w e w' := by
  by_cases h : 8 ≤ x.fr ∨ 8 ≤ x.dst
  · exact mpacket_car x v h w
  · exact mpacket_main x v h w hv hs hS hL
end Go.Proofs.YtgfijlamhjjecaaGreatDoor


namespace Go.Proofs.YtgfijlamhjjecaaGreatDoor
def AtR (T : Str) (c : EC) (k : Nat) : Prop := runE (.btw []) 0 T = runE c k (T.drop k)
theorem AtR.start (T : Str) : AtR T (.btw []) 0 := rfl
theorem drop_at {T : Str} {k : Nat} {b : UInt8} (h : T[k]? = some b) : T.drop k = b :: T.drop (k + 1) := by
  obtain ⟨hl, he⟩ := List.getElem?_eq_some_iff.1 h
  rw [List.drop_eq_getElem_cons hl, he]
theorem AtR.step {T : Str} {c c' : EC} {k : Nat} {b : UInt8} (h : AtR T c k) (hb : T[k]? = some b) (hs : stepE c b = .ok c') : AtR T c' (k + 1) := by
  unfold AtR at h ⊢
  rw [h, drop_at hb]
  simp only [runE, hs]
theorem AtR.err {T : Str} {c : EC} {k : Nat} {b : UInt8} {e : Int} (h : AtR T c k) (hl : T.length ≤ 65536) (hb : T[k]? = some b) (hs : stepE c b = .err e) : parseE T = ([], k, e) := by
  unfold AtR at h
  rw [parseE_ok hl, h, drop_at hb]
  simp only [runE, hs]
theorem AtR.ends {T : Str} {c : EC} (h : AtR T c T.length) (hl : T.length ≤ 65536) (ho : isBtw c = false) : parseE T = ([], T.length, 31) := by
  unfold AtR at h
  rw [parseE_ok hl, h, List.drop_length]
  cases c <;> simp [isBtw, runE] at ho ⊢
theorem AtR.done {T : Str} {l : List Seg} (h : AtR T (.btw l) T.length) (hl : T.length ≤ 65536) : parseE T = (l, 0, 0) := by
  unfold AtR at h
  rw [parseE_ok hl, h, List.drop_length]
  rfl
theorem st_rel (l : List Seg) (t : Str) (es : List (List Str)) (cs : List Str) (p : Str) : stepE (.cmp l t es cs p) 63 = .ok (.rel l t es cs p) := rfl
theorem st_relbad {l : List Seg} {t : Str} {es : List (List Str)} {cs : List Str} {p : Str} {c : UInt8} (h : signB c = false) : stepE (.rel l t es cs p) c = .err 30 := by simp [stepE, h]
theorem st_relput {l : List Seg} {t : Str} {es : List (List Str)} {cs : List Str} {p : Str} {c : UInt8} (h : signB c = true) (hl : p.length ≠ 256) : stepE (.rel l t es cs p) c = .ok (.cmp l t es cs (p ++ [c])) := by simp [stepE, h, putS, hl]
theorem st_rellong {l : List Seg} {t : Str} {es : List (List Str)} {cs : List Str} {p : Str} {c : UInt8} (h : signB c = true) (hl : p.length = 256) : stepE (.rel l t es cs p) c = .err 2 := by simp [stepE, h, putS, hl]
theorem st_bad {l : List Seg} {t : Str} {es : List (List Str)} {cs : List Str} {p : Str} {c : UInt8} (h : signB c = false) (hb : c.toNat < 32 ∨ 126 < c.toNat) : stepE (.cmp l t es cs p) c = .err 30 := by
  have h63 : c ≠ 63 := by rintro rfl; exact absurd h (by decide)
  simp [stepE, h, h63, hb]
theorem st_put {l : List Seg} {t : Str} {es : List (List Str)} {cs : List Str} {p : Str} {c : UInt8} (h : signB c = false) (hb : ¬ (c.toNat < 32 ∨ 126 < c.toNat)) (hl : p.length ≠ 256) : stepE (.cmp l t es cs p) c = .ok (.cmp l t es cs (p ++ [c])) := by
  have h63 : c ≠ 63 := by rintro rfl; exact absurd h (by decide)
  simp [stepE, h, h63, hb, putS, hl]
theorem st_long {l : List Seg} {t : Str} {es : List (List Str)} {cs : List Str} {p : Str} {c : UInt8} (h : signB c = false) (hb : ¬ (c.toNat < 32 ∨ 126 < c.toNat)) (hl : p.length = 256) : stepE (.cmp l t es cs p) c = .err 2 := by
  have h63 : c ≠ 63 := by rintro rfl; exact absurd h (by decide)
  simp [stepE, h, h63, hb, putS, hl]
theorem st_39 (l : List Seg) (t : Str) (es : List (List Str)) (cs : List Str) (p : Str) : stepE (.cmp l t es cs p) 39 = .ok (.btw (l ++ [⟨t, es ++ [cs ++ [p]]⟩])) := rfl
theorem st_43 {l : List Seg} {t : Str} {es : List (List Str)} {cs : List Str} {p : Str} (h : es.length + 1 ≠ 16) : stepE (.cmp l t es cs p) 43 = .ok (.cmp l t (es ++ [cs ++ [p]]) [] []) := by simp [stepE, signB, signS, h]
theorem st_43l {l : List Seg} {t : Str} {es : List (List Str)} {cs : List Str} {p : Str} (h : es.length + 1 = 16) : stepE (.cmp l t es cs p) 43 = .err 2 := by simp [stepE, signB, signS, h]
theorem st_58 {l : List Seg} {t : Str} {es : List (List Str)} {cs : List Str} {p : Str} (h : cs.length + 1 ≠ 8) : stepE (.cmp l t es cs p) 58 = .ok (.cmp l t es (cs ++ [p]) []) := by simp [stepE, signB, signS, h]
theorem st_58l {l : List Seg} {t : Str} {es : List (List Str)} {cs : List Str} {p : Str} (h : cs.length + 1 = 8) : stepE (.cmp l t es cs p) 58 = .err 2 := by simp [stepE, signB, signS, h]
theorem st_tagbad {l : List Seg} {t : Str} {c : UInt8} (h : tagB c = false) : stepE (.tag l t) c = .err 30 := by simp [stepE, tagS, h]
theorem st_tag {l : List Seg} {t : Str} {c : UInt8} (h : tagB c = true) (ht : t.length + 1 < 3) : stepE (.tag l t) c = .ok (.tag l (t ++ [c])) := by simp [stepE, tagS, h, ht]
theorem st_tag3 {l : List Seg} {t : Str} {c : UInt8} (h : tagB c = true) (ht : t.length + 1 = 3) : stepE (.tag l t) c = .ok (.bhd l (t ++ [c])) := by simp [stepE, tagS, h, ht]
theorem st_btw10 {l : List Seg} (h : l ≠ []) : stepE (.btw l) 10 = .ok (.btw l) := by simp [stepE, h]
theorem st_full {l : List Seg} {c : UInt8} (h : ¬ (c = 10 ∧ l ≠ [])) (hl : l.length = 64) : stepE (.btw l) c = .err 2 := by simp only [stepE]; rw [if_neg h, if_pos hl]
theorem st_btw {l : List Seg} {c : UInt8} (h : ¬ (c = 10 ∧ l ≠ [])) (hl : l.length ≠ 64) : stepE (.btw l) c = stepE (.tag l []) c := by simp only [stepE]; rw [if_neg h, if_neg hl]
theorem st_bhdbad {l : List Seg} {t : Str} {c : UInt8} (h1 : c ≠ 39) (h2 : c ≠ 43) : stepE (.bhd l t) c = .err 30 := by simp [stepE, h1, h2]
theorem st_bhd39 (l : List Seg) (t : Str) : stepE (.bhd l t) 39 = .ok (.btw (l ++ [⟨t, []⟩])) := rfl
theorem st_bhd43 (l : List Seg) (t : Str) : stepE (.bhd l t) 43 = .ok (.cmp l t [] [] []) := rfl
end Go.Proofs.YtgfijlamhjjecaaGreatDoor


namespace Go.Proofs.YtgfijlamhjjecaaGreatDoor
open Go.RowKit
def PartQ (T : Str) (k : Nat) (l : List Seg) (t : Str) (es : List (List Str)) (cs : List Str) (e : Ending) : Prop :=
  (∃ (p : Str) (k' : Nat) (c : UInt8), e = .returned (.tuple #[sv p, .int .i64 (k' : Int), .int .i64 0]) ∧ AtR T (.cmp l t es cs p) k' ∧ T[k']? = some c ∧ (c = 43 ∨ c = 58 ∨ c = 39) ∧ p.length ≤ 256 ∧ k ≤ k') ∨
  (∃ (k' : Nat) (n : Int), e = .returned (.tuple #[sv [], .int .i64 (k' : Int), .int .i64 n]) ∧ n ≠ 0 ∧ parseE T = ([], k', n))
def PartW (T : Str) (k : Nat) (l : List Seg) (t : Str) (es : List (List Str)) (cs : List Str) (w : World) (e : Ending) (w' : World) : Prop := PartQ T k l t es cs e ∧ Below w.heap.size w w'
theorem signB_cases {c : UInt8} (h : signB c = true) : (c = 43 ∨ c = 58 ∨ c = 39) ∨ c = 63 := by
  unfold signB at h
  simp only [Bool.or_eq_true, beq_iff_eq] at h
  rcases h with ((h | h) | h) | h
  · exact .inl (.inl h)
  · exact .inl (.inr (.inl h))
  · exact .inl (.inr (.inr h))
  · exact .inr h
set_option maxRecDepth 100000 in
set_option maxHeartbeats 4000000 in
theorem part_any (s : ByteArray) (hs : s.size ≤ 65536) (k : Nat) (hk : k ≤ s.size) (l : List Seg) (t : Str) (es : List (List Str)) (cs : List Str) (h : AtR s.data.toList (.cmp l t es cs []) k) (w : World) :
    Calls Tryz.prog 147 #[.string s, .int .i64 (k : Int)] w fun e w' => PartW s.data.toList k l t es cs w e w' := by
  obtain ⟨T, hT⟩ : ∃ T, s.data.toList = T := ⟨_, rfl⟩
  have HT := Lib.hid hT
  rw [hT] at h
  have hl0 : T.length = s.size := by rw [← hT]; simp
  have HL := Lib.hid hl0
  have HL6 : Hid (T.length ≤ 65536) := Lib.hid (by omega)
  have HA0 := Lib.hid h
  rw [hT]
  obtain ⟨B, hB⟩ : ∃ B, w.heap.size = B := ⟨_, rfl⟩
  have HBQ := Lib.hid hB
  unfold PartW
  rw [hB]
  clear hT h hl0 hB
  go_enter Tryz.func147, Tryz.ntmps147
  go_wp2_with fail
  go_loopw [1, 7] (fun at_ bv wr => ∃ (q : Nat) (p : Str), q ≤ s.size ∧ k ≤ q ∧ p.length ≤ 256 ∧ at_ = .int .i64 (q : Int) ∧ Hid (AtR T (.cmp l t es cs p) q) ∧ Hid (OwnS wr B bv p) ∧ Hid (Below B w wr)) (fun at_ _ _ => s.size - (intOf at_).toNat)
  case atStart => exact ⟨k, [], hk, Nat.le_refl _, by simp, rfl, HA0, Lib.hid (OwnS.nil _ _), Lib.hid (by rw [← HBQ.out]; exact Below.refl _ _)⟩
  case round =>
    obtain ⟨q, p, hq, hkq, hp, rfl, HA, HO, HB⟩ := hrel
    clear HA0
    have hBs := HB.out.size
    rw [HBQ.out] at hBs
    by_cases hql : q < s.size
    · obtain ⟨c, hc⟩ : ∃ c, T[q]? = some c := ⟨_, by rw [← HT.out]; exact at_byte s q hql⟩
      have hcq : (s[q]'hql).toNat = c.toNat := by
        have h1 := at_byte s q hql
        rw [HT.out, hc] at h1
        injection h1 with h1
        exact congrArg UInt8.toNat h1.symm
      have HC := Lib.hid hc
      have b5 : (0 : Int) ≤ q := by omega
      have b6 : (q : Int) < s.size := by omega
      clear hc
      obtain ⟨ba, bc, rfl⟩ := HO.out.form
      by_cases h63 : c = 63
      · skip
        subst h63
        have hcq' : (s[q]'hql).toNat = 63 := hcq
        clear hcq
        have HA1 := Lib.hid (HA.out.step HC.out (st_rel l t es cs p))
        by_cases hq1 : q + 1 < s.size
        · obtain ⟨c, hc⟩ : ∃ c, T[q + 1]? = some c := ⟨_, by rw [← HT.out]; exact at_byte s (q + 1) hq1⟩
          have hcr : (s[q + 1]'hq1).toNat = c.toNat := by
            have h1 := at_byte s (q + 1) hq1
            rw [HT.out, hc] at h1
            injection h1 with h1
            exact congrArg UInt8.toNat h1.symm
          have HC1 := Lib.hid hc
          have e1 : ((q : Int) + 1 == (s.size : Int)) = false := by rw [beq_eq_false_iff_ne]; omega
          have b7 : (q : Int) + 1 < s.size := by omega
          clear hc
          have HSG := Lib.hid (fun w => rSign_any c w)
          cases hsg : signB c with
          | false =>
            have HE := Lib.hid (HA1.out.err HL6.out HC1.out (st_relbad (l := l) (t := t) (es := es) (cs := cs) (p := p) hsg))
            rw [hsg] at HSG
            clear hsg
            go_wp2_with ((with_reducible refine (HSG.out _).mono ?_); rintro e w' ⟨rfl, rfl⟩)
            go_ret3
            exact ⟨.inr ⟨q + 1, 30, by unfold sv; go_num, by decide, HE.out⟩, HB.out⟩
          | true =>
            have hcc := signB_cases hsg
            have hge : ¬ c.toNat < 32 ∧ ¬ 126 < c.toNat := by rcases hcc with (rfl | rfl | rfl) | rfl <;> decide
            obtain ⟨hg1, hg2⟩ := hge
            have e2 : decide ((c.toNat : Int) < 32) = false := by rw [decide_eq_false_iff_not]; omega
            have e3 : decide ((126 : Int) < (c.toNat : Int)) = false := by rw [decide_eq_false_iff_not]; omega
            have HSB := Lib.hid hsg
            rw [hsg] at HSG
            clear hsg hcc
            by_cases h256 : p.length = 256
            · have HE := Lib.hid (HA1.out.err HL6.out HC1.out (st_rellong (l := l) (t := t) (es := es) (cs := cs) (p := p) HSB.out h256))
              have e4 : ((p.length : Int) == 256) = true := by rw [beq_iff_eq]; omega
              have e4n : (p.length == 256) = true := by rw [beq_iff_eq]; exact h256
              clear h256
              go_wp2_with ((with_reducible refine (HSG.out _).mono ?_); rintro e w' ⟨rfl, rfl⟩)
              go_ret3
              exact ⟨.inr ⟨q + 1, 2, by unfold sv; go_num, by decide, HE.out⟩, HB.out⟩
            · have HA2 := Lib.hid (HA1.out.step HC1.out (st_relput (l := l) (t := t) (es := es) (cs := cs) (p := p) HSB.out h256))
              have e4 : ((p.length : Int) == 256) = false := by rw [beq_eq_false_iff_ne]; omega
              have e4n : (p.length == 256) = false := by rw [beq_eq_false_iff_ne]; exact h256
              have hp2 : p.length < 256 := by omega
              clear h256
              go_wp2_with (first
                | ((with_reducible refine (HSG.out _).mono ?_); rintro e w' ⟨rfl, rfl⟩)
                | ((with_reducible refine wpList_at (.call { callee := .builtin .append, args := #[.tmp 54, .tmp 56], argTypes := #[72, 72] }) rfl ?_); go_loud (refine wp_app1 rfl _ _ rfl c rfl rfl HO.out (by omega) hBs ?_); intro v8 w8 ho8 hg8; have HO8 := Lib.hid ho8; have HB8 := Lib.hid (below_grownO HB.out HO.out hg8 hBs); clear ho8 hg8))
              go_roundw
              case rel => exact ⟨q + 1 + 1, p ++ [c], by omega, by omega, by simp; omega, by go_num, HA2, HO8, HB8⟩
              case measure => simp [intOf]; omega
        · have hsz : s.size = q + 1 := by omega
          have HE := Lib.hid ((show AtR T (.rel l t es cs p) T.length by rw [HL.out, hsz]; exact HA1.out).ends HL6.out rfl)
          have e1 : ((q : Int) + 1 == (s.size : Int)) = true := by rw [beq_iff_eq]; omega
          have HSZ := Lib.hid hsz
          clear hq1 hsz
          go_wp2_with fail
          go_ret3
          exact ⟨.inr ⟨q + 1, 31, by unfold sv; go_num, by decide, by rw [HE.out, HL.out, HSZ.out]⟩, HB.out⟩
      · skip
        have e0 : ((c.toNat : Int) == 63) = false := by
          rw [beq_eq_false_iff_ne]; intro e
          exact h63 (UInt8.toNat_inj.1 (by have : c.toNat = 63 := by omega
                                           rw [this]; rfl))
        have H63 := Lib.hid h63
        clear h63
        have HSG := Lib.hid (fun w => rSign_any c w)
        cases hsg : signB c with
        | true =>
          have HCC : Hid (c = 43 ∨ c = 58 ∨ c = 39) := Lib.hid (by
            rcases signB_cases hsg with h | h
            · exact h
            · exact absurd h H63.out)
          have hcv : (convert 72 9 (.slice ba p.length bc)).run Tryz.prog wr = .ok (sv p) wr := conv_own HO.out
          rw [hsg] at HSG
          clear hsg
          go_wp2_with ((with_reducible refine (HSG.out _).mono ?_); rintro e w' ⟨rfl, rfl⟩)
          go_ret3
          exact ⟨.inl ⟨p, q, c, rfl, HA.out, HC.out, HCC.out, hp, hkq⟩, HB.out⟩
        | false =>
          have HSB := Lib.hid hsg
          rw [hsg] at HSG
          clear hsg
          by_cases h32 : c.toNat < 32
          · have e2 : decide ((c.toNat : Int) < 32) = true := by rw [decide_eq_true_eq]; omega
            have HE := Lib.hid (HA.out.err HL6.out HC.out (st_bad (l := l) (t := t) (es := es) (cs := cs) (p := p) HSB.out (.inl h32)))
            go_wp2_with ((with_reducible refine (HSG.out _).mono ?_); rintro e w' ⟨rfl, rfl⟩)
            go_ret3
            exact ⟨.inr ⟨q, 30, rfl, by decide, HE.out⟩, HB.out⟩
          have e2 : decide ((c.toNat : Int) < 32) = false := by rw [decide_eq_false_iff_not]; omega
          by_cases h126 : 126 < c.toNat
          · have e3 : decide ((126 : Int) < (c.toNat : Int)) = true := by rw [decide_eq_true_eq]; omega
            have HE := Lib.hid (HA.out.err HL6.out HC.out (st_bad (l := l) (t := t) (es := es) (cs := cs) (p := p) HSB.out (.inr h126)))
            go_wp2_with ((with_reducible refine (HSG.out _).mono ?_); rintro e w' ⟨rfl, rfl⟩)
            go_ret3
            exact ⟨.inr ⟨q, 30, rfl, by decide, HE.out⟩, HB.out⟩
          have e3 : decide ((126 : Int) < (c.toNat : Int)) = false := by rw [decide_eq_false_iff_not]; omega
          have hnb : ¬ (c.toNat < 32 ∨ 126 < c.toNat) := by omega
          by_cases h256 : p.length = 256
          · have HE := Lib.hid (HA.out.err HL6.out HC.out (st_long (l := l) (t := t) (es := es) (cs := cs) (p := p) HSB.out hnb h256))
            have e4 : ((p.length : Int) == 256) = true := by rw [beq_iff_eq]; omega
            have e4n : (p.length == 256) = true := by rw [beq_iff_eq]; exact h256
            clear h256 hnb
            go_wp2_with ((with_reducible refine (HSG.out _).mono ?_); rintro e w' ⟨rfl, rfl⟩)
            go_ret3
            exact ⟨.inr ⟨q, 2, rfl, by decide, HE.out⟩, HB.out⟩
          · have HA2 := Lib.hid (HA.out.step HC.out (st_put (l := l) (t := t) (es := es) (cs := cs) (p := p) HSB.out hnb h256))
            have e4 : ((p.length : Int) == 256) = false := by rw [beq_eq_false_iff_ne]; omega
            have e4n : (p.length == 256) = false := by rw [beq_eq_false_iff_ne]; exact h256
            have hp2 : p.length < 256 := by omega
            clear h256 hnb
            go_wp2_with (first
              | ((with_reducible refine (HSG.out _).mono ?_); rintro e w' ⟨rfl, rfl⟩)
              | ((with_reducible refine wpList_at (.call { callee := .builtin .append, args := #[.tmp 54, .tmp 56], argTypes := #[72, 72] }) rfl ?_); go_loud (refine wp_app1 rfl _ _ rfl c rfl rfl HO.out (by omega) hBs ?_); intro v8 w8 ho8 hg8; have HO8 := Lib.hid ho8; have HB8 := Lib.hid (below_grownO HB.out HO.out hg8 hBs); clear ho8 hg8))
            go_roundw
            case rel => exact ⟨q + 1, p ++ [c], by omega, by omega, by simp; omega, by go_num, HA2, HO8, HB8⟩
            case measure => simp [intOf]; omega
    · skip
      obtain rfl : q = s.size := by omega
      have HE := Lib.hid ((show AtR T (.cmp l t es cs p) T.length by rw [HL.out]; exact HA.out).ends HL6.out rfl)
      go_wp2_with fail
      go_ret3
      exact ⟨.inr ⟨s.size, 31, rfl, by decide, by rw [← HL.out]; exact HE.out⟩, HB.out⟩
end Go.Proofs.YtgfijlamhjjecaaGreatDoor


namespace Go.Proofs.YtgfijlamhjjecaaGreatDoor
open Go.RowKit
structure SG (H sp : Nat) (st : ByteArray) (w : World) (ev cv : Value) (ys : List Value) (es : List (List Str)) (cs : List Str) : Prop where
  row : w.ownsRow H 58 1 ev (es.length + 1) (ys ++ [cv])
  len : ys.length = es.length
  c : w.heap[sp]? = some (.cells #[.string st, ev] 94 (0, 0))
  co : w.ownsRow H 9 1 cv cs.length (cs.map sv)
  el : ∀ (i : Nat) (e : List Str) (x : Value), es[i]? = some e → ys[i]? = some x → CompsAt (fun b => H ≤ b ∧ b < w.heap.size ∧ ev.ownBlock ≠ some b ∧ cv.ownBlock ≠ some b ∧ b ≠ sp) w x e
section
variable {H sp : Nat} {st : ByteArray} {w w' : World} {ev cv : Value} {ys : List Value} {es : List (List Str)} {cs : List Str}
theorem SG.close (h : SG H sp st w ev cv ys es cs) : OE H sp st w ev (ys ++ [cv]) (es ++ [cs]) := by
  refine ⟨by rw [List.length_append]; exact h.row, by simp [h.len], h.c, fun i e x h1 h2 => ?_⟩
  rcases row_snoc h1 with h1 | ⟨rfl, rfl⟩
  · have hil := (List.getElem?_eq_some_iff.1 h1).1
    rw [List.getElem?_append_left (by rw [h.len]; exact hil)] at h2
    exact (h.el i e x h1 h2).cong (fun b hb => ⟨hb.1, hb.2.1, hb.2.2.1, hb.2.2.2.2⟩) (fun _ _ => rfl)
  · rw [← h.len, List.getElem?_append_right (Nat.le_refl _), Nat.sub_self] at h2
    cases h2
    have hco : w.ownsRow H 9 1 cv (e.map sv).length (e.map sv) := by rw [List.length_map]; exact h.co
    exact own_rest hco (fun k hk => ⟨(own_lt h.co hk).1, (own_lt h.co hk).2, own_ne h.co h.row (by decide) hk, fun e => own_not h.co h.c (by decide) (e ▸ hk)⟩)
theorem SG.of (h : OE H sp st w ev (ys ++ [.slice none 0 0]) (es ++ [[]])) (hl : ys.length = es.length) : SG H sp st w ev (.slice none 0 0) ys es [] := by
  refine ⟨by have := h.row; rw [List.length_append] at this; exact this, hl, h.c, World.ownsRow_nil _ _ _ _, fun i e x h1 h2 => ?_⟩
  have hil := (List.getElem?_eq_some_iff.1 h1).1
  have h3 := h.el i e x (by rw [List.getElem?_append_left hil]; exact h1) (by rw [List.getElem?_append_left (by rw [hl]; exact hil)]; exact h2)
  exact h3.cong (fun b hb => ⟨hb.1, hb.2.1, hb.2.2.1, by simp [Value.ownBlock], hb.2.2.2⟩) (fun _ _ => rfl)
theorem SG.drew (h : SG H sp st w ev cv ys es cs) (e : w'.heap = w.heap) : SG H sp st w' ev cv ys es cs :=
  ⟨own_cong h.row (fun k _ => by rw [e]), h.len, by rw [e]; exact h.c, own_cong h.co (fun k _ => by rw [e]), fun i e' x h1 h2 => (h.el i e' x h1 h2).cong (fun k hk => by rw [e]; exact hk) (fun k _ => by rw [e])⟩
theorem SG.below (h : SG H sp st w ev cv ys es cs) (hb : Below w.heap.size w w') : SG H sp st w' ev cv ys es cs :=
  ⟨own_cong h.row (fun k hk => hb.block k (own_lt h.row hk).2), h.len, (hb.block sp (Array.getElem?_eq_some_iff.1 h.c).1).trans h.c, own_cong h.co (fun k hk => hb.block k (own_lt h.co hk).2), fun i e' x h1 h2 => (h.el i e' x h1 h2).cong (fun k hk => ⟨hk.1, by have := hb.size; omega, hk.2.2⟩) (fun k hk => hb.block k hk.2.1)⟩
theorem OE.below (h : OE H sp st w ev ys es) (hb : Below w.heap.size w w') : OE H sp st w' ev ys es :=
  ⟨own_cong h.row (fun k hk => hb.block k (own_lt h.row hk).2), h.len, (hb.block sp h.lt).trans h.c, fun i e' x h1 h2 => (h.el i e' x h1 h2).cong (fun k hk => ⟨hk.1, by have := hb.size; omega, hk.2.2⟩) (fun k hk => hb.block k hk.2.1)⟩
theorem SG.form (h : SG H sp st w ev cv ys es cs) : ∃ g cap ca cc, ev = .slice (some ⟨g, 0, none⟩) (es.length + 1) cap ∧ es.length + 1 ≤ cap ∧ cap ≤ maxLen ∧ cv = .slice ca cs.length cc ∧ w.cell? ⟨g, es.length, none⟩ = some cv ∧ w.frozen? ⟨g, es.length, none⟩ = false ∧ H ≤ g ∧ g < w.heap.size ∧ g ≠ sp := by
  have hr := h.row
  obtain ⟨g, cap, cur, rfl, hg, hh, hc, hm, _⟩ := own_form hr (by omega) (by omega)
  obtain ⟨ca, cc, rfl⟩ := own_slice h.co
  refine ⟨g, cap, ca, cc, rfl, hc, hm, rfl, own_cell hr (by rw [← h.len, List.getElem?_append_right (Nat.le_refl _), Nat.sub_self]; rfl), own_frozen hr _, hg, (Array.getElem?_eq_some_iff.1 hh).1, fun e => by subst e; exact own_not hr h.c (by decide) rfl⟩
theorem SG.comp {g cap : Nat} {o : Obj} {w3 : World} {cv' : Value} {c : Str} (h : SG H sp st w (.slice (some ⟨g, 0, none⟩) (es.length + 1) cap) cv ys es cs) (hg : (w.alloc o).grownBy w3 cv.ownBlock) (ho : w3.ownsRow H 9 1 cv' (cs.length + 1) (cs.map sv ++ [sv c])) (hk : cv'.ownBlock = cv.ownBlock ∨ ∃ k, cv'.ownBlock = some k ∧ w.heap.size ≤ k) :
    SG H sp st (w3.setCell ⟨g, es.length, none⟩ cv') (.slice (some ⟨g, 0, none⟩) (es.length + 1) cap) cv' ys es (cs ++ [c]) := by
  have hgb : g < w.heap.size := (own_lt h.row rfl).2
  have hg' := grown_alloc hg
  have hz3 := hg'.size
  have hsp : sp < w.heap.size := (Array.getElem?_eq_some_iff.1 h.c).1
  have hcg : cv.ownBlock ≠ some g := fun e => own_ne h.row h.co (by decide) (k := g) rfl e
  have hcs : cv.ownBlock ≠ some sp := own_not h.co h.c (by decide)
  have hgs : g ≠ sp := fun e => by subst e; exact own_not h.row h.c (by decide) rfl
  have r3 : w3.ownsRow H 58 1 (.slice (some ⟨g, 0, none⟩) (es.length + 1) cap) (es.length + 1) (ys ++ [cv]) := own_cong h.row (fun k hk => by cases hk; exact hg'.block g hgb (fun e => hcg e.symm))
  have hcg' : cv'.ownBlock ≠ some g := fun e => own_ne r3 ho (by decide) (k := g) rfl e
  have far : ∀ k, k ≠ g → (w3.setCell ⟨g, es.length, none⟩ cv').heap[k]? = w3.heap[k]? := fun k hk => heap_setCell_other w3 _ _ _ (by simpa using hk)
  have hsz : (w3.setCell ⟨g, es.length, none⟩ cv').heap.size = w3.heap.size := by simp
  refine ⟨?_, h.len, (far sp (fun e => hgs e.symm)).trans ((hg'.block sp hsp (fun e => hcs e.symm)).trans h.c), ?_, fun i e x h1 h2 => ?_⟩
  · have h4 := own_set r3 (j := es.length) (by simp [h.len]) cv'
    rw [← h.len, set_end] at h4
    rw [← h.len]
    exact h4
  · rw [List.length_append, List.map_append]
    exact own_cong ho (fun k hk => far k (fun e => hcg' (e ▸ hk)))
  · refine (h.el i e x h1 h2).cong (fun b hb => ⟨hb.1, by omega, hb.2.2.1, fun e => ?_, hb.2.2.2.2⟩) (fun b hb => ?_)
    · rcases hk with hk | ⟨k, hk, hk2⟩
      · exact hb.2.2.2.1 (hk ▸ e)
      · rw [hk] at e; cases e; omega
    · exact (far b (fun e => hb.2.2.1 (by rw [e]; rfl))).trans (hg'.block b hb.2.1 (fun e => hb.2.2.2.1 e.symm))
end
theorem OE.rest {H sp : Nat} {st : ByteArray} {w : World} {ev : Value} {ys : List Value} {es : List (List Str)} (h : OE H sp st w ev ys es) : ElemsAt (fun b => H ≤ b ∧ b < w.heap.size) w ev es :=
  ⟨ys, own_rest (by rw [h.len]; exact h.row) (fun _ hk => own_lt h.row hk), h.len, fun i e x h1 h2 => (h.el i e x h1 h2).cong (fun _ hb => ⟨hb.1, hb.2.1⟩) (fun _ _ => rfl)⟩
end Go.Proofs.YtgfijlamhjjecaaGreatDoor

