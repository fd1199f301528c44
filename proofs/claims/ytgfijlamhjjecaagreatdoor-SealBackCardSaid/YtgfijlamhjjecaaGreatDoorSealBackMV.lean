/-
  SealBackV: the walk of SealBack for every input. No condition but the laid variables.
-/
import Derived.Test.YtgfijlamhjjecaaGreatDoorSb16
namespace Go.Proofs.YtgfijlamhjjecaaGreatDoor
open Go.RowKit
theorem sealM_err {M : List (List Str)} {p : PD} {l : Str} {k : Int} (h : sealM M p = (l, k)) (hk : k ≠ 0) : l = [] := by
  unfold sealM at h
  split at h
  · split at h
    · cases h; exact absurd rfl hk
    · cases h; rfl
  · cases h; rfl
theorem sealM_ok {M : List (List Str)} {p : PD} {l : Str} (h : sealM M p = (l, 0)) : ∃ t, mayS M p ∧ textM p = (t, 0) ∧ l = t ++ macM (keyAt M p.fr p.dst) t := by
  unfold sealM at h
  split at h
  · rename_i hm
    split at h
    · rename_i ht
      cases h
      exact ⟨_, hm, Prod.ext rfl ht, rfl⟩
    · rename_i ht
      exact absurd (congrArg Prod.snd h) ht
  · cases h
theorem sealM_le {M : List (List Str)} {p : PD} (hp : okPD p) {l : Str} {k : Int} (h : sealM M p = (l, k)) : l.length ≤ 65568 := by
  by_cases hk : k = 0
  · subst hk
    obtain ⟨t, _, ht, rfl⟩ := sealM_ok h
    have := (text_back hp.num ht).2
    rw [List.length_append, macM_len]; omega
  · rw [sealM_err h hk]; simp
set_option maxRecDepth 100000 in
set_option maxHeartbeats 16000000 in
theorem sealBack_walk {W : World} (hv : VarsOk W) (hK : VarsK W) (ia : Int) (wa : (Lit.int .i64 ia).wf = true) (more : Str) (mv : Value) (hm : RowAt (Low W) W mv (more.map bv)) (p : PD) (hp : okPD p) : Calls Tryz.prog 10 #[.int .i64 ia, mv, .agg (pktA p).toArray] W fun e w' => e = .returned (.bool true) ∧ Below W.heap.size W w' := by
  obtain ⟨C, hC⟩ : ∃ B, W.heap.size = B := ⟨_, rfl⟩
  have HCQ := Lib.hid hC
  have HV := Lib.hid hv
  have HK := Lib.hid hK
  obtain ⟨w1, hw1⟩ : ∃ w1, W.alloc (.cells (pktA p).toArray 38) = w1 := ⟨_, rfl⟩
  have HB1 : Hid (Below C W w1) := Lib.hid (by rw [← hw1, ← hC]; exact (Below.refl _ _).alloc (Nat.le_refl _) _)
  have HC1 : Hid (w1.heap[C]? = some (.cells (pktA p).toArray 38 (0, 0))) := Lib.hid (by rw [← hw1, ← hC]; exact heap_alloc_new _ _)
  have HZ1 : Hid (w1.heap.size = C + 1) := Lib.hid (by rw [← hw1, ← hC]; simp)
  have HW1 := Lib.hid hw1
  have HVX : Hid (∀ u, Below C W u → VarsOk u ∧ VarsK u) := Lib.hid (fun u hu => ⟨hv.on hu (by rw [hC]; exact Nat.le_refl _), hK.on (by rw [hC]; exact hu)⟩)
  have HWK : Hid (∀ u, Below C W u → Calls Tryz.prog 27 #[] u fun e w' => WakesQ u e w') := Lib.hid (fun u hu => lwakes_any u (HVX.out u hu).1 (HVX.out u hu).2)
  have HM1 : Hid (RowAt (Low W) w1 mv (more.map bv)) := Lib.hid (hm.any (fun k hk => hk) (by rw [hC]; exact HB1.out))
  have HPP := Lib.hid hp
  have HI : Hid (-9223372036854775808 ≤ ia ∧ ia ≤ 9223372036854775807) := Lib.hid ((Lit.wf_int_iff _ _).1 wa)
  obtain ⟨mo, mc, rfl, m1, m2⟩ := hm.form
  rw [List.length_map] at m1 HM1 ⊢
  unfold maxLen at m2
  obtain ⟨ml, hml⟩ : ∃ m, more.length = m := ⟨_, rfl⟩
  rw [hml] at m1 HM1 ⊢
  have HML := Lib.hid hml
  rw [hC]
  clear hv hK hC hw1 wa hm hml hp
  unfold pktA msgA at HW1 ⊢
  simp only [List.cons_append, List.nil_append] at HW1 ⊢
  go_enter Tryz.func10, Tryz.ntmps10
  go_upto_region 1 with fail
  rw [HW1.out, HCQ.out]
  by_cases hbad : ia < 2 ∨ 8 < ia ∨ 60 < ml
  · have HWK1 := Lib.hid (HWK.out w1 HB1.out)
    unfold WakesQ at HWK1
    by_cases h2 : ia < 2
    · clear hbad
      go_wp2_with (go_at_call 27; go_loud (refine HWK1.out.mono ?_); rintro e u ⟨rfl, hb⟩; have HBU : Hid (Below C W u) := Lib.hid (HB1.out.trans (hb.mono (below_le HCQ HB1.out))); clear hb)
      go_ret
      exact ⟨rfl, HBU.out⟩
    by_cases h8 : 8 < ia
    · clear hbad
      go_wp2_with (go_at_call 27; go_loud (refine HWK1.out.mono ?_); rintro e u ⟨rfl, hb⟩; have HBU : Hid (Below C W u) := Lib.hid (HB1.out.trans (hb.mono (below_le HCQ HB1.out))); clear hb)
      go_ret
      exact ⟨rfl, HBU.out⟩
    have h6 : (60 : Int) < (ml : Int) := by omega
    clear hbad
    go_wp2_with (go_at_call 27; go_loud (refine HWK1.out.mono ?_); rintro e u ⟨rfl, hb⟩; have HBU : Hid (Below C W u) := Lib.hid (HB1.out.trans (hb.mono (below_le HCQ HB1.out))); clear hb)
    go_ret
    exact ⟨rfl, HBU.out⟩
  · obtain ⟨n, rfl⟩ : ∃ n : Nat, ia = (n : Int) := ⟨ia.toNat, by omega⟩
    have g2 : ¬ (n : Int) < 2 := by omega
    have g8 : ¬ (8 : Int) < (n : Int) := by omega
    have g6 : ¬ (60 : Int) < (ml : Int) := by omega
    clear hbad
    have HNN : Hid (2 ≤ n ∧ n ≤ 8 ∧ ml ≤ 60) := Lib.hid (by omega)
    have HKY := Lib.hid (lkeys_any (T := Low W) n HNN.out.2.1 more _ w1 HM1.out (fun k hk => Nat.lt_of_lt_of_le hk HB1.out.size) (by rw [HML.out]; exact HNN.out.2.2))
    have HKM : Hid (∀ i k, (keyAt (keysM n more) i k).length ≤ 17592186044416) := Lib.hid (fun i k => Nat.le_trans (keyAt_le (by rw [HML.out]; exact HNN.out.2.2) i k) (by decide))
    have HGB : Hid (goodB (keysM n more) = true) := Lib.hid (goodB_keysM HNN.out.1 HNN.out.2.1 (by rw [HML.out]; exact HNN.out.2.2))
    have HKL : Hid ((keysM n more).length = n) := Lib.hid (keysM_len _ _)
    obtain ⟨M, hM⟩ : ∃ M, keysM n more = M := ⟨_, rfl⟩
    rw [hM] at HKY HKM HGB HKL
    unfold KeysQ at HKY
    clear hM
    go_upto_region 6 with (first
      | (go_at_call 35; go_loud (refine HKY.out.mono ?_); rintro e w2 ⟨kv, rfl, hko, hb⟩; have HB2 : Hid (Below C W w2) := Lib.hid (HB1.out.trans (hb.mono (below_le HCQ HB1.out))); have HU2 := Lib.hid hb; have HKO := Lib.hid hko; clear hko hb)
      | (go_at_call 29; go_loud (refine (gnew_any M kv w2 HKO.out.bsss (fun k hk => hk.2)).mono ?_); rintro e w3 ⟨hg, _, hb⟩; obtain ⟨rb, rfl, hr⟩ := hg HGB.out; have HR3 := Lib.hid hr; have HU3 := Lib.hid (HU2.out.trans (hb.mono HU2.out.size)); have HB3 : Hid (Below C W w3) := Lib.hid (HB2.out.trans (hb.mono (below_le HCQ HB2.out))); clear hg hr hb))
    have HP3 : Hid (w3.heap[C]? = some (.cells (pktA p).toArray 38 (0, 0))) := Lib.hid ((HU3.out.block C (by rw [HZ1.out]; omega)).trans HC1.out)
    have HCZ3 : Hid (C < w3.heap.size) := Lib.hid (Array.getElem?_eq_some_iff.1 HP3.out).1
    obtain ⟨R, hR⟩ : ∃ R, sealM M p = R := ⟨_, rfl⟩
    obtain ⟨l, k⟩ := R
    have HSR := Lib.hid hR
    have HLL := Lib.hid (sealM_le HPP.out hR)
    obtain ⟨ll, hll⟩ : ∃ n, l.length = n := ⟨_, rfl⟩
    have HLN := Lib.hid hll
    clear hR hll
    have HS1 := Lib.hid (gseal_any w2.heap.size rb M p HPP.out w3 HR3.out (HVX.out _ HB3.out).1 (HVX.out _ HB3.out).2 HKM.out)
    unfold SealQ at HS1
    rw [HSR.out] at HS1
    go_upto_region 7 with (first
      | ((with_reducible refine wpList_at (.load 38 (.tmp 5)) rfl ?_); go_loud (refine wpList_load_mid rfl 38 _ rfl C 0 rfl (pktA p) _ (range_row HP3.out) Tryz.underlying38 rfl (by kernel_rfl) ?_))
      | (go_at_call 32; go_loud (refine HS1.out.mono ?_); rintro e w4 ⟨v1, rfl, hrow, hb⟩; have HV1 := Lib.hid hrow; have HU4 := Lib.hid hb; clear hrow hb))
    have HB4 : Hid (Below C W w4) := Lib.hid (HB3.out.trans (HU4.out.mono (below_le HCQ HB3.out)))
    have HP4 : Hid (w4.heap[C]? = some (.cells (pktA p).toArray 38 (0, 0))) := Lib.hid ((HU4.out.block C HCZ3.out).trans HP3.out)
    have HR4 : Hid (RingAt w4 w2.heap.size rb M) := Lib.hid (HR3.out.on HU4.out)
    have HS2 := Lib.hid (gseal_any w2.heap.size rb M p HPP.out w4 HR4.out (HVX.out _ HB4.out).1 (HVX.out _ HB4.out).2 HKM.out)
    unfold SealQ at HS2
    rw [HSR.out] at HS2
    go_upto_region 8 with (first
      | ((with_reducible refine wpList_at (.load 38 (.tmp 5)) rfl ?_); go_loud (refine wpList_load_mid rfl 38 _ rfl C 0 rfl (pktA p) _ (range_row HP4.out) Tryz.underlying38 rfl (by kernel_rfl) ?_))
      | (go_at_call 32; go_loud (refine HS2.out.mono ?_); rintro e w5 ⟨v2, rfl, hrow, hb⟩; have HV2 := Lib.hid hrow; have HU5 := Lib.hid hb; clear hrow hb))
    have HB5 : Hid (Below C W w5) := Lib.hid (HB4.out.trans (HU5.out.mono (below_le HCQ HB4.out)))
    have HU35 : Hid (Below w3.heap.size w3 w5) := Lib.hid (HU4.out.trans (HU5.out.mono HU4.out.size))
    have HP5 : Hid (w5.heap[C]? = some (.cells (pktA p).toArray 38 (0, 0))) := Lib.hid ((HU5.out.block C (Nat.lt_of_lt_of_le HCZ3.out HU4.out.size)).trans HP4.out)
    have HR5 : Hid (RingAt w5 w2.heap.size rb M) := Lib.hid (HR4.out.on HU5.out)
    have HV15 : Hid (RowAt (fun b => b < w5.heap.size) w5 v1 (l.map bv)) := Lib.hid ((HV1.out.any (fun b hb => hb.2) HU5.out).cong (fun b hb => Nat.lt_of_lt_of_le hb.2 HU5.out.size) (fun _ _ => rfl))
    obtain ⟨a1, c1, rfl, s1, s2⟩ := HV1.out.form
    obtain ⟨a2, c2, rfl, s3, s4⟩ := HV2.out.form
    rw [List.length_map, HLN.out] at HV15 HV2 ⊢
    clear HV1
    obtain ⟨sb, hsb⟩ : ∃ sb : ByteArray, (⟨l.toArray⟩ : ByteArray) = sb := ⟨_, rfl⟩
    have hcv1 := conv_row HV15.out
    have hcv2 := conv_row HV2.out
    rw [hsb] at hcv1 hcv2
    have d1 := str_same sb
    have dk : (k != k) = false := by simp
    clear hsb s1 s2 s3 s4
    go_upto_region 10 with fail
    clear hcv1 hcv2 d1 dk
    have HWK5 := Lib.hid (HWK.out w5 HB5.out)
    unfold WakesQ at HWK5
    by_cases hk : k = 0
    · subst hk
      have j0 : ((0 : Int) != 0) = false := by simp
      have j1 : ((0 : Int) == 0) = true := by simp
      obtain ⟨t, hms, htx, hlt⟩ := sealM_ok HSR.out
      have HMS := Lib.hid hms
      have HTX := Lib.hid htx
      have HLT := Lib.hid hlt
      have HDN : Hid (p.dst < n) := Lib.hid (by have := hms.2.1; rw [HKL.out] at this; exact this)
      have HOP : Hid (openM M p.dst l = (p, 0)) := Lib.hid (by rw [hlt]; exact open_seal HPP.out hms htx)
      have HOE : Hid (∀ i, i < n → i ≠ p.dst → (openM M i l).1 = pd0 ∧ (openM M i l).2 ≠ 0) := Lib.hid (fun i hi hne => by rw [hlt]; exact open_else HPP.out htx _ (macM_len _ _) hne (by rw [HKL.out]; exact hi))
      clear hms htx hlt
      have cd5 : w5.cell? ⟨C, 1, none⟩ = some (.int .u8 (p.dst : Int)) := (cell_of_row w5 C 1 _ _ _ HP5.out).trans rfl
      have HO1 := Lib.hid (gopen_any w2.heap.size rb M (by rw [HKL.out]; exact HNN.out.2.1) p.dst HPP.out.dst l _ w5 HR5.out HV15.out (fun k hk => hk) (HVX.out _ HB5.out).1 (HVX.out _ HB5.out).2 HKM.out (by have := HLL.out; omega))
      unfold OpenQ at HO1
      rw [HOP.out] at HO1
      go_upto_region 13 with (first
        | ((with_reducible refine wpList_at (.store 38 (.tmp 13) _) rfl ?_); go_loud (refine wpList_store_agg rfl _ _ _ rfl w6.heap.size 0 (pktA p) rfl rfl (there_of (heap_alloc_new w6 (.cells pkz.toArray 38)) 16 (by decide)) (by kernel_rfl) rfl ?_))
        | (go_at_call 36; go_loud (refine HO1.out.mono ?_); rintro e w6 ⟨rfl, hb⟩; have HU6 := Lib.hid hb; clear hb))
      clear cd5
      obtain ⟨G, hG⟩ : ∃ D, w6.heap.size = D := ⟨_, rfl⟩
      obtain ⟨w7, hw7⟩ : ∃ u, w6.alloc (.cells pkz.toArray 38) = u := ⟨_, rfl⟩
      obtain ⟨w8, hw8⟩ : ∃ u, w7.setCells G 0 (pktA p) = u := ⟨_, rfl⟩
      obtain ⟨q1, q2, q3⟩ := pkt_new w6 p G hG w7 w8 hw7 hw8
      have HG8 := Lib.hid q1
      have HU8 : Hid (Below w6.heap.size w6 w8) := Lib.hid (by rw [hG]; exact q2)
      have HB6 : Hid (Below C W w6) := Lib.hid (HB5.out.trans (HU6.out.mono (below_le HCQ HB5.out)))
      have HGE : Hid (w6.heap.size = G) := Lib.hid hG
      have HC6 : Hid (C < w6.heap.size) := Lib.hid (Nat.lt_of_lt_of_le HCZ3.out (Nat.le_trans HU35.out.size HU6.out.size))
      have HPU : Hid (∀ u, Below w6.heap.size w6 u → u.heap[C]? = some (.cells (pktA p).toArray 38 (0, 0))) := Lib.hid (fun u hu => (hu.block C HC6.out).trans ((HU6.out.block C (Nat.lt_of_lt_of_le HCZ3.out HU35.out.size)).trans HP5.out))
      rw [show (w6.alloc (.cells #[.int .u8 0, .int .u8 0, .bool false, .int .u64 0, .int .u8 0, .int .u8 0, .int .u64 0, .int .u8 0, .int .u8 0, .int .u16 0, .int .u32 0, .int .i64 0, .int .u8 0, .int .u32 0, .int .i64 0, .int .i64 0] 38)) = w7 from hw7, hG, hw8]
      clear hG hw7 hw8 q1 q2 q3
      have hp8 := HPU.out w8 HU8.out
      have hg8 := HG8.out
      have hself := fun u => neq_pkt p p u
      rw [show eqP p p = true from eqP_iff.2 rfl] at hself
      unfold pktA msgA at hself hp8 hg8
      simp only [List.cons_append, List.nil_append, Bool.not_true] at hself hp8 hg8
      obtain ⟨d0, d1, d2, d3, d4, d5, d6, d7, d8, d9, d10, d11, d12, d13, d14, d15⟩ := (cells16 hp8).1
      obtain ⟨e0, e1, e2, e3, e4, e5, e6, e7, e8, e9, e10, e11, e12, e13, e14, e15⟩ := (cells16 hg8).1
      clear hp8 hg8
      go_upto_region 15 with fail
      clear d0 d1 d2 d3 d4 d5 d6 d7 d8 d9 d10 d11 d12 d13 d14 d15 e0 e1 e2 e3 e4 e5 e6 e7 e8 e9 e10 e11 e12 e13 e14 e15 hself
      go_wp2_with fail
      go_loopw [15] (fun iv wr => ∃ (i : Nat) (q : PD), i ≤ n ∧ iv = .int .i64 (i : Int) ∧ Hid (wr.heap[G]? = some (.cells (pktA q).toArray 38 (0, 0))) ∧ Hid (Below w6.heap.size w6 wr)) (fun iv _ => n - (intOf iv).toNat)
      case atStart => exact ⟨0, p, Nat.zero_le _, rfl, HG8, HU8⟩
      case round =>
        obtain ⟨i, q, hi, rfl, HGQ, HBR⟩ := hrel
        have HBW : Hid (Below C W wr) := Lib.hid (HB6.out.trans (HBR.out.mono (below_le HCQ HB6.out)))
        by_cases hlt : i < n
        · have b3 : (0 : Int) ≤ i := by omega
          have b4 : (i : Int) < n := by omega
          have b5 : (i : Int) < 256 := by omega
          have cd := (cell_of_row wr C 1 _ _ _ (HPU.out wr HBR.out)).trans (show (pktA p).toArray[1]? = some (.int .u8 (p.dst : Int)) from rfl)
          have b6 : (p.dst : Int) < 256 := by have := HPP.out.dst; omega
          by_cases hid : i = p.dst
          · have b7 : ((i : Int) == (p.dst : Int)) = true := by rw [beq_iff_eq]; omega
            go_wp2_with fail
            go_roundw
            case rel => exact ⟨i + 1, q, by omega, by go_num, HGQ, HBR⟩
            case measure => simp [intOf]; omega
          · have b7 : ((i : Int) == (p.dst : Int)) = false := by rw [beq_eq_false_iff_ne]; omega
            have HO2 := Lib.hid (gopen_any w2.heap.size rb M (by rw [HKL.out]; exact HNN.out.2.1) i (by omega) l _ wr (HR5.out.on (HU6.out.trans (HBR.out.mono HU6.out.size))) (HV15.out.any (fun k hk => hk) (HU6.out.trans (HBR.out.mono HU6.out.size))) (fun k hk => Nat.lt_of_lt_of_le hk (Nat.le_trans HU6.out.size HBR.out.size)) (HVX.out _ HBW.out).1 (HVX.out _ HBW.out).2 HKM.out (by have := HLL.out; omega))
            obtain ⟨z1, z2⟩ := HOE.out i hlt hid
            unfold OpenQ at HO2
            rw [z1] at HO2
            obtain ⟨ek, hek⟩ : ∃ ek, (openM M i l).2 = ek := ⟨_, rfl⟩
            rw [hek] at HO2 z2
            have b8 : (ek == 0) = false := by rw [beq_eq_false_iff_ne]; exact z2
            clear z1 z2 hek hid
            go_upto_region 20 with (first
              | ((with_reducible refine wpList_at (.store 38 (.tmp 13) _) rfl ?_); go_loud (refine wpList_store_agg rfl _ _ _ rfl G 0 (pktA pd0) rfl rfl (there_of HGY.out 16 (Nat.le_refl 16)) (by kernel_rfl) rfl ?_))
              | (go_at_call 36; go_loud (refine HO2.out.mono ?_); rintro e wy ⟨rfl, hb⟩; have HBY : Hid (Below w6.heap.size w6 wy) := Lib.hid (HBR.out.trans (hb.mono HBR.out.size)); have HGY : Hid (wy.heap[G]? = some (.cells (pktA q).toArray 38 (0, 0))) := Lib.hid ((hb.block G (Array.getElem?_eq_some_iff.1 HGQ.out).1).trans HGQ.out); clear hb))
            obtain ⟨wz, hwz⟩ : ∃ u, wy.setCells G 0 (pktA pd0) = u := ⟨_, rfl⟩
            have hgz : wz.heap[G]? = some (.cells (pktA pd0).toArray 38 (0, 0)) := by rw [← hwz]; exact putL_heap (cs := pktA q) HGY.out (pktA pd0) rfl
            have HGZ := Lib.hid hgz
            have HBZ : Hid (Below w6.heap.size w6 wz) := Lib.hid (by rw [← hwz]; exact putL_below (by rw [HGE.out]; exact Nat.le_refl _) _ _ _ HBY.out)
            rw [hwz]
            clear hwz cd
            have hself := fun u => neq_pkt pd0 pd0 u
            rw [show eqP pd0 pd0 = true from eqP_iff.2 rfl, pd0L] at hself
            rw [pd0L] at hgz
            simp only [Bool.not_true] at hself
            obtain ⟨d0, d1, d2, d3, d4, d5, d6, d7, d8, d9, d10, d11, d12, d13, d14, d15⟩ := (cells16 hgz).1
            clear hgz
            go_wp2_with fail
            go_roundw
            case rel => exact ⟨i + 1, pd0, by omega, by go_num, HGZ, HBZ⟩
            case measure => simp [intOf]; omega
        · obtain rfl : i = n := by omega
          have b4 : ¬ (i : Int) < (i : Int) := by omega
          have HWR := Lib.hid (HWK.out wr HBW.out)
          unfold WakesQ at HWR
          go_wp2_with (go_at_call 27; go_loud (refine HWR.out.mono ?_); rintro e u ⟨rfl, hb⟩; have HBU : Hid (Below C W u) := Lib.hid (HBW.out.trans (hb.mono (below_le HCQ HBW.out))); clear hb)
          go_ret
          exact ⟨rfl, HBU.out⟩
    · have j0 : (k != 0) = true := by rw [bne_iff_ne]; exact hk
      obtain rfl := sealM_err HSR.out hk
      obtain rfl : ll = 0 := HLN.out.symm
      go_wp2_with (go_at_call 27; go_loud (refine HWK5.out.mono ?_); rintro e u ⟨rfl, hb⟩; have HBU : Hid (Below C W u) := Lib.hid (HB5.out.trans (hb.mono (below_le HCQ HB5.out))); clear hb)
      go_ret
      exact ⟨rfl, HBU.out⟩
end Go.Proofs.YtgfijlamhjjecaaGreatDoor
