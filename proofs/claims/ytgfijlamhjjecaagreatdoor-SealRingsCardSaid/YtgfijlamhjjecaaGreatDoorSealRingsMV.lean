/-
  SealRingsV: the walk of SealRings for every input. No condition but the laid variables.
-/
import Derived.Test.YtgfijlamhjjecaaGreatDoorSr17
namespace Go.Proofs.YtgfijlamhjjecaaGreatDoor
open Go.RowKit
set_option maxRecDepth 100000 in
set_option maxHeartbeats 16000000 in
theorem sealRings_walk {W : World} (hv : VarsOk W) (hK : VarsK W) (ia : Int) (wa : (Lit.int .i64 ia).wf = true) (more : Str) (mv : Value) (hm : RowAt (Low W) W mv (more.map bv)) (self : Str) (sv2 : Value) (hs : RowAt (Low W) W sv2 (self.map bv)) (p : PD) (hp : okPD p) : Calls Tryz.prog 12 #[.int .i64 ia, mv, sv2, .agg (pktA p).toArray] W fun e w' => e = .returned (.bool true) ∧ Below W.heap.size W w' := by
  obtain ⟨C, hC⟩ : ∃ B, W.heap.size = B := ⟨_, rfl⟩
  have HCQ := Lib.hid hC
  have HV := Lib.hid hv
  have HK := Lib.hid hK
  obtain ⟨w1, hw1⟩ : ∃ w1, W.alloc (.cells (pktA p).toArray 38) = w1 := ⟨_, rfl⟩
  have HB1 : Hid (Below C W w1) := Lib.hid (by rw [← hw1, ← hC]; exact (Below.refl _ _).alloc (Nat.le_refl _) _)
  have HC1 : Hid (w1.heap[C]? = some (.cells (pktA p).toArray 38 (0, 0))) := Lib.hid (by rw [← hw1, ← hC]; exact heap_alloc_new _ _)
  have HZ1 : Hid (w1.heap.size = C + 1) := Lib.hid (by rw [← hw1, ← hC]; simp)
  have HW1 := Lib.hid hw1
  have HVX : Hid (∀ u, Below C W u → VarsOk u ∧ VarsK u) := Lib.hid (fun u hu => ⟨hv.on hu (by rw [hC]; exact Nat.le_refl _), hK.on (by rw [hC]; exact hu)⟩)
  have HWK : Hid (∀ u, Below C W u → Calls Tryz.prog 27 #[] u fun e w' => WakesQ u e w') := Lib.hid (fun u hu => lwakes_any u (HVX.out u hu).1 (HVX.out u hu).2)
  have HM1 : Hid (RowAt (Low W) w1 mv (more.map bv)) := Lib.hid (hm.any (fun k hk => hk) (by rw [hC]; exact HB1.out))
  have HPP := Lib.hid hp
  have HS1' : Hid (RowAt (Low W) W sv2 (self.map bv)) := Lib.hid hs
  obtain ⟨so, sc, rfl, s1, s2⟩ := hs.form
  rw [List.length_map] at s1 HS1' ⊢
  unfold maxLen at s2
  obtain ⟨sl, hsl⟩ : ∃ m, self.length = m := ⟨_, rfl⟩
  rw [hsl] at s1 HS1' ⊢
  have HSL := Lib.hid hsl
  have HI : Hid (-9223372036854775808 ≤ ia ∧ ia ≤ 9223372036854775807) := Lib.hid ((Lit.wf_int_iff _ _).1 wa)
  obtain ⟨mo, mc, rfl, m1, m2⟩ := hm.form
  rw [List.length_map] at m1 HM1 ⊢
  unfold maxLen at m2
  obtain ⟨ml, hml⟩ : ∃ m, more.length = m := ⟨_, rfl⟩
  rw [hml] at m1 HM1 ⊢
  have HML := Lib.hid hml
  rw [hC]
  clear hv hK hC hw1 wa hm hml hp hs hsl
  unfold pktA msgA at HW1 ⊢
  simp only [List.cons_append, List.nil_append] at HW1 ⊢
  go_enter Tryz.func12, Tryz.ntmps12
  go_upto_region 1 with fail
  rw [HW1.out, HCQ.out]
  by_cases hbad : ia < 2 ∨ 8 < ia ∨ 60 < ml ∨ 2000 < sl
  · have HWK1 := Lib.hid (HWK.out w1 HB1.out)
    unfold WakesQ at HWK1
    by_cases h2 : ia < 2
    · clear hbad
      go_wp2_with (go_at_call 27; go_loud (refine HWK1.out.mono ?_); rintro e u ⟨rfl, hb⟩; have HBU : Hid (Below C W u) := Lib.hid (HB1.out.trans (hb.mono (below_le HCQ HB1.out))); clear hb)
      go_ret
      exact ⟨rfl, HBU.out⟩
    by_cases h8 : 8 < ia
    · clear hbad
      go_wp2_with (go_at_call 27; go_loud (refine HWK1.out.mono ?_); rintro e u ⟨rfl, hb⟩; have HBU : Hid (Below C W u) := Lib.hid (HB1.out.trans (hb.mono (below_le HCQ HB1.out))); clear hb)
      go_ret
      exact ⟨rfl, HBU.out⟩
    by_cases h6' : 60 < ml
    · have h6 : (60 : Int) < (ml : Int) := by omega
      clear hbad
      go_wp2_with (go_at_call 27; go_loud (refine HWK1.out.mono ?_); rintro e u ⟨rfl, hb⟩; have HBU : Hid (Below C W u) := Lib.hid (HB1.out.trans (hb.mono (below_le HCQ HB1.out))); clear hb)
      go_ret
      exact ⟨rfl, HBU.out⟩
    have h6 : ¬ (60 : Int) < (ml : Int) := by omega
    have h7 : (2000 : Int) < (sl : Int) := by omega
    clear hbad
    go_wp2_with (go_at_call 27; go_loud (refine HWK1.out.mono ?_); rintro e u ⟨rfl, hb⟩; have HBU : Hid (Below C W u) := Lib.hid (HB1.out.trans (hb.mono (below_le HCQ HB1.out))); clear hb)
    go_ret
    exact ⟨rfl, HBU.out⟩
  · obtain ⟨n, rfl⟩ : ∃ n : Nat, ia = (n : Int) := ⟨ia.toNat, by omega⟩
    have g2 : ¬ (n : Int) < 2 := by omega
    have g8 : ¬ (8 : Int) < (n : Int) := by omega
    have g6 : ¬ (60 : Int) < (ml : Int) := by omega
    have g7 : ¬ (2000 : Int) < (sl : Int) := by omega
    have HSL2 : Hid (sl ≤ 2000) := Lib.hid (by omega)
    clear hbad
    have HNN : Hid (2 ≤ n ∧ n ≤ 8 ∧ ml ≤ 60) := Lib.hid (by omega)
    have HKY := Lib.hid (lkeys_any (T := Low W) n HNN.out.2.1 more _ w1 HM1.out (fun k hk => Nat.lt_of_lt_of_le hk HB1.out.size) (by rw [HML.out]; exact HNN.out.2.2))
    have HKM : Hid (∀ i k, (keyAt (keysM n more) i k).length ≤ 17592186044416) := Lib.hid (fun i k => Nat.le_trans (keyAt_le (by rw [HML.out]; exact HNN.out.2.2) i k) (by decide))
    have HGB : Hid (goodB (keysM n more) = true) := Lib.hid (goodB_keysM HNN.out.1 HNN.out.2.1 (by rw [HML.out]; exact HNN.out.2.2))
    have HKL : Hid ((keysM n more).length = n) := Lib.hid (keysM_len _ _)
    obtain ⟨M, hM⟩ : ∃ M, keysM n more = M := ⟨_, rfl⟩
    rw [hM] at HKY HKM HGB HKL
    have HM := Lib.hid hM
    unfold KeysQ at HKY
    clear hM
    go_upto_region 4 with (first
      | (go_at_call 35; go_loud (refine HKY.out.mono ?_); rintro e w2 ⟨kv, rfl, hko, hb⟩; have HB2 : Hid (Below C W w2) := Lib.hid (HB1.out.trans (hb.mono (below_le HCQ HB1.out))); have HU2 := Lib.hid hb; have HKO := Lib.hid hko; clear hko hb)
      | (go_at_call 29; go_loud (refine (gnew_any M kv w2 HKO.out.bsss (fun k hk => hk.2)).mono ?_); rintro e w3 ⟨hg, _, hb⟩; obtain ⟨rb, rfl, hr⟩ := hg HGB.out; have HR3 := Lib.hid hr; have HU3 := Lib.hid (HU2.out.trans (hb.mono HU2.out.size)); have HB3 : Hid (Below C W w3) := Lib.hid (HB2.out.trans (hb.mono (below_le HCQ HB2.out))); clear hg hr hb))
    have HP3 : Hid (w3.heap[C]? = some (.cells (pktA p).toArray 38 (0, 0))) := Lib.hid ((HU3.out.block C (by rw [HZ1.out]; omega)).trans HC1.out)
    have HCZ3 : Hid (C < w3.heap.size) := Lib.hid (Array.getElem?_eq_some_iff.1 HP3.out).1
    have HKY2 := Lib.hid (lkeys_any (T := Low W) n HNN.out.2.1 more _ w3 (HM1.out.any (fun k hk => Nat.lt_of_lt_of_le hk HB1.out.size) HU3.out) (fun k hk => Nat.lt_of_lt_of_le hk (Nat.le_trans HB1.out.size HU3.out.size)) (by rw [HML.out]; exact HNN.out.2.2))
    rw [HM.out] at HKY2
    unfold KeysQ at HKY2
    go_upto_region 5 with (go_at_call 35; go_loud (refine HKY2.out.mono ?_); rintro e w4 ⟨kv2, rfl, hko, hb⟩; have HU4 := Lib.hid hb; have HKO4 := Lib.hid hko; clear hko hb)
    have HB4 : Hid (Below C W w4) := Lib.hid (HB3.out.trans (HU4.out.mono (below_le HCQ HB3.out)))
    have HKS4 : Hid (KeysO w4 w3.heap.size kv2 (selfM n more self 0)) := Lib.hid (by rw [selfM_zero, HM.out]; exact HKO4.out)
    obtain ⟨vb, vc, rfl⟩ : ∃ vb vc, kv2 = .slice (some ⟨vb, 0, none⟩) n vc := by
      obtain ⟨xs, x1, _⟩ := HKO4.out.ex
      rw [HKL.out] at x1
      obtain ⟨g, cap, cur, e, _⟩ := own_form x1 (by have := HNN.out.1; omega) (by decide)
      exact ⟨g, cap, e⟩
    go_wp2_with fail
    go_loopw [12] (fun iv wr => ∃ i : Nat, i ≤ n ∧ iv = .int .i64 (i : Int) ∧ Hid (KeysO wr w3.heap.size (.slice (some ⟨vb, 0, none⟩) n vc) (selfM n more self i)) ∧ Hid (Below w3.heap.size w3 wr)) (fun iv _ => n - (intOf iv).toNat)
    case atStart => exact ⟨0, Nat.zero_le _, rfl, HKS4, HU4⟩
    case round =>
      obtain ⟨i, hi, rfl, HKR, HBR⟩ := hrel
      by_cases hlt : i < n
      · have b3 : (0 : Int) ≤ i := by omega
        have b4 : (i : Int) < n := by omega
        obtain ⟨xs, x1, x2, x3, x4⟩ := HKR.out.ex
        have hlen := selfM_len n i more self
        rw [hlen] at x1 x2
        have hrow := selfM_get (n := n) (m := i) (more := more) (self := self) hlt
        rw [if_neg (Nat.lt_irrefl i)] at hrow
        obtain ⟨x, hx⟩ : ∃ x, xs[i]? = some x := ⟨_, List.getElem?_eq_getElem (by omega)⟩
        obtain ⟨ys, y1, y2, y3⟩ := (x4 i _ x hrow hx).ex
        rw [keysRow_len] at y1 y2
        obtain ⟨g, cap, cur, rfl, _, _, hcap, hcm, _⟩ := own_form y1 (by omega) (by decide)
        have cvb := own_cell x1 hx
        have hgv : g ≠ vb := fun e => own_ne y1 x1 (by decide) (k := g) rfl (by rw [e]; rfl)
        obtain ⟨y0, hy0⟩ : ∃ y, ys[i]? = some y := ⟨_, List.getElem?_eq_getElem (by omega)⟩
        have cgi := own_cell y1 hy0
        have fgi := own_frozen y1 i
        have hwv : vb < wr.heap.size := cell_lt' cvb
        have hwg : g < wr.heap.size := cell_lt' cgi
        have HX1 := Lib.hid x1
        have HX2 := Lib.hid x2
        have HX3 := Lib.hid x3
        have HX4 := Lib.hid x4
        have HROW := Lib.hid hrow
        have HXI := Lib.hid hx
        have HGV := Lib.hid hgv
        have HCV := Lib.hid cvb
        have HCG := Lib.hid cgi
        have HFG := Lib.hid fgi
        have HWV := Lib.hid hwv
        have HWG := Lib.hid hwg
        clear x1 x2 x3 x4 y1 y2 y3 hy0 hx hrow hlen cvb cgi fgi hgv hwv hwg hcm
        go_upto_region 8 with fail
        refine wp_region_plan [(0, false), (1, false), (2, false), (3, false), (4, false), (5, false), (6, true), (7, false), (8, true)] (fun u => u.cell? ⟨vb, i, none⟩ = some (.slice (some ⟨g, 0, none⟩) n cap)) (by kernel_rfl) (by kernel_rfl) HCV.out ?_
        iterate 6 (refine' plan_val rfl rfl (fun w' hS => ?_) ?_; rotate_left; (focus (go_simp; rfl)); simp only [Act.put, List.setIfInBounds_toArray, List.set_cons_zero, List.set_cons_succ])
        refine plan_do rfl (fun K hK => ?_)
        obtain ⟨wd, hwd⟩ : ∃ u, wr.drew = u := ⟨_, rfl⟩
        have HH : Hid (wd.heap = wr.heap) := Lib.hid (by rw [← hwd]; rfl)
        have HBD : Hid (Below wr.heap.size wr wd) := Lib.hid (by rw [← hwd]; exact (Below.refl _ _).drew)
        rw [hwd]
        clear hwd
        have HSD : Hid (RowAt (Low W) wd (.slice so sl sc) (self.map bv)) := Lib.hid (((HS1'.out.any (fun k hk => hk) (by rw [HCQ.out]; exact HB1.out)).any (fun k hk => Nat.lt_of_lt_of_le hk HB1.out.size) (HU3.out.trans (HBR.out.mono HU3.out.size))).cong (fun _ h => h) (fun j _ => by rw [HH.out]))
        have hz3 : w3.heap.size ≤ wd.heap.size := by rw [HH.out]; exact HBR.out.size
        refine wp_app_bytes (v := .slice none 0 0) (src := .slice so sl sc) rfl _ _ rfl rfl rfl (OwnS.nil wd w3.heap.size) HSD.out (by rw [HSL.out]; have := HSL2.out; simp; omega) hz3 ?_
        intro yv we hO hgr _
        have HU : Hid (Below wr.heap.size wr we) := Lib.hid (by
          have h0 : Below wd.heap.size wd we := (Below.refl _ wd).grown hgr (Nat.le_refl _) (fun b hb => by cases hb)
          exact HBD.out.trans (h0.mono (by rw [HH.out]; exact Nat.le_refl _)))
        have HOY : Hid (OwnS we w3.heap.size yv self) := Lib.hid hO
        clear hO hgr hz3
        go_wp2_with fail
        refine hK _ _ ((HU.out.cell (p := ⟨vb, i, none⟩) HWV.out).trans HCV.out) ?_
        clear hK K
        iterate 1 (refine' plan_val rfl rfl (fun w' hS => ?_) ?_; rotate_left; (focus (go_simp; rfl)); simp only [Act.put, List.setIfInBounds_toArray, List.set_cons_zero, List.set_cons_succ])
        refine plan_do rfl (fun K hK => ?_)
        have cge := (HU.out.cell (p := ⟨g, i, none⟩) HWG.out).trans HCG.out
        have fge : we.frozen? ⟨g, i, none⟩ = false := (World.frozen?_of_block (a := ⟨g, i, none⟩) (HU.out.block g HWG.out)).trans HFG.out
        obtain ⟨ya, yc, rfl⟩ := HOY.out.form
        go_wp2_with fail
        refine hK _ _ ?_ ?_
        · exact (cell_ag (heap_setCell_other we _ _ _ (fun e => HGV.out e.symm))).trans ((HU.out.cell (p := ⟨vb, i, none⟩) HWV.out).trans HCV.out)
        clear hK K
        refine plan_nil ?_
        clear cge fge
        obtain ⟨wf, hwf⟩ : ∃ u, we.setCell ⟨g, i, none⟩ (.slice ya self.length yc) = u := ⟨_, rfl⟩
        have HKF : Hid (KeysO wf w3.heap.size (.slice (some ⟨vb, 0, none⟩) n vc) (selfM n more self (i + 1))) := Lib.hid (by
          rw [← hwf, ← selfM_step hlt]
          have hag : ∀ k, w3.heap.size ≤ k → k < wr.heap.size → we.heap[k]? = wr.heap[k]? := fun k _ hk => HU.out.block k hk
          refine KeysO.set (xs := xs) (c := cap) (r := keysRow n i more) ?_ (by rw [selfM_len]; exact HX2.out) HX3.out (fun i' r' x' hr hx => (HX4.out i' r' x' hr hx).ag hag) HROW.out (by rw [keysRow_len]; exact HXI.out) (by rw [keysRow_len]; exact hlt) HOY.out
          rw [selfM_len]
          exact own_cong HX1.out (fun k hk => HU.out.block k (own_lt HX1.out hk).2))
        have HBF : Hid (Below w3.heap.size w3 wf) := Lib.hid (by
          rw [← hwf]
          exact (HBR.out.trans (HU.out.mono HBR.out.size)).setCell (by
            obtain ⟨ys, y1, _⟩ := (HX4.out i _ _ HROW.out HXI.out).ex
            exact (own_lt y1 (k := g) rfl).1) _)
        rw [hwf]
        clear hwf
        go_wp2_with fail
        go_roundw
        case rel => exact ⟨i + 1, by omega, by go_num, HKF, HBF⟩
        case measure => simp [intOf]; omega
      · obtain rfl : i = n := by omega
        have b4 : ¬ (i : Int) < (i : Int) := by omega
        have HGS : Hid (goodB (selfM i more self i) = true) := Lib.hid (goodB_selfM HNN.out.1 HNN.out.2.1 (by rw [HML.out]; exact HNN.out.2.2))
        have HKM2 : Hid (∀ a b, (keyAt (selfM i more self i) a b).length ≤ 17592186044416) := Lib.hid (fun a b => Nat.le_trans (keyAt_selfle HNN.out.2.1 (by rw [HML.out]; exact HNN.out.2.2) (by rw [HSL.out]; exact HSL2.out) a b) (by decide))
        have HSE : Hid (sealM (selfM i more self i) p = sealM M p) := Lib.hid (by rw [← HM.out]; exact sealM_same p)
        have HL2 : Hid ((selfM i more self i).length = i) := Lib.hid (selfM_len _ _ _ _)
        obtain ⟨M2, hM2⟩ : ∃ M, selfM i more self i = M := ⟨_, rfl⟩
        rw [hM2] at HKR HGS HKM2 HSE HL2
        clear hM2
        have HBW : Hid (Below C W wr) := Lib.hid (HB3.out.trans (HBR.out.mono (below_le HCQ HB3.out)))
        go_upto_region 12 with (go_at_call 29; go_loud (refine (gnew_any M2 _ wr HKR.out.bsss (fun k hk => hk.2)).mono ?_); rintro e w5 ⟨hg, _, hb⟩; obtain ⟨rb2, rfl, hr⟩ := hg HGS.out; have HR25 := Lib.hid hr; have HU5 : Hid (Below w3.heap.size w3 w5) := Lib.hid (HBR.out.trans (hb.mono HBR.out.size)); have HB5 : Hid (Below C W w5) := Lib.hid (HBW.out.trans (hb.mono (below_le HCQ HBW.out))); clear hg hr hb)
        have HP5 : Hid (w5.heap[C]? = some (.cells (pktA p).toArray 38 (0, 0))) := Lib.hid ((HU5.out.block C HCZ3.out).trans HP3.out)
        have HZ5 : Hid (C < w5.heap.size) := Lib.hid (Array.getElem?_eq_some_iff.1 HP5.out).1
        have HR15 : Hid (RingAt w5 w2.heap.size rb M) := Lib.hid (HR3.out.on HU5.out)
        obtain ⟨R, hR⟩ : ∃ R, sealM M p = R := ⟨_, rfl⟩
        obtain ⟨l, k⟩ := R
        have HSR := Lib.hid hR
        have HSR2 : Hid (sealM M2 p = (l, k)) := Lib.hid (by rw [HSE.out]; exact hR)
        have HLL := Lib.hid (sealM_le HPP.out hR)
        obtain ⟨ll, hll⟩ : ∃ n, l.length = n := ⟨_, rfl⟩
        have HLN := Lib.hid hll
        clear hR hll
        have HS5 := Lib.hid (gseal_any w2.heap.size rb M p HPP.out w5 HR15.out (HVX.out _ HB5.out).1 (HVX.out _ HB5.out).2 HKM.out)
        unfold SealQ at HS5
        rw [HSR.out] at HS5
        go_upto_region 13 with (first
          | ((with_reducible refine wpList_at (.load 38 (.tmp 7)) rfl ?_); go_loud (refine wpList_load_mid rfl 38 _ rfl C 0 rfl (pktA p) _ (range_row HP5.out) Tryz.underlying38 rfl (by kernel_rfl) ?_))
          | (go_at_call 32; go_loud (refine HS5.out.mono ?_); rintro e w6 ⟨v1, rfl, hrow, hb⟩; have HV1 := Lib.hid hrow; have HU6 := Lib.hid hb; clear hrow hb))
        have HB6 : Hid (Below C W w6) := Lib.hid (HB5.out.trans (HU6.out.mono (below_le HCQ HB5.out)))
        have HP6 : Hid (w6.heap[C]? = some (.cells (pktA p).toArray 38 (0, 0))) := Lib.hid ((HU6.out.block C HZ5.out).trans HP5.out)
        have HS6 := Lib.hid (gseal_any wr.heap.size rb2 M2 p HPP.out w6 (HR25.out.on HU6.out) (HVX.out _ HB6.out).1 (HVX.out _ HB6.out).2 HKM2.out)
        unfold SealQ at HS6
        rw [HSR2.out] at HS6
        go_upto_region 14 with (first
          | ((with_reducible refine wpList_at (.load 38 (.tmp 7)) rfl ?_); go_loud (refine wpList_load_mid rfl 38 _ rfl C 0 rfl (pktA p) _ (range_row HP6.out) Tryz.underlying38 rfl (by kernel_rfl) ?_))
          | (go_at_call 32; go_loud (refine HS6.out.mono ?_); rintro e w7 ⟨v2, rfl, hrow, hb⟩; have HV2 := Lib.hid hrow; have HU7 := Lib.hid hb; clear hrow hb))
        have HB7 : Hid (Below C W w7) := Lib.hid (HB6.out.trans (HU7.out.mono (below_le HCQ HB6.out)))
        have HU57 : Hid (Below w5.heap.size w5 w7) := Lib.hid (HU6.out.trans (HU7.out.mono HU6.out.size))
        have HP7 : Hid (w7.heap[C]? = some (.cells (pktA p).toArray 38 (0, 0))) := Lib.hid ((HU7.out.block C (Nat.lt_of_lt_of_le HZ5.out HU6.out.size)).trans HP6.out)
        have HV17 : Hid (RowAt (fun b => b < w7.heap.size) w7 v1 (l.map bv)) := Lib.hid ((HV1.out.any (fun b hb => hb.2) HU7.out).cong (fun b hb => Nat.lt_of_lt_of_le hb.2 HU7.out.size) (fun _ _ => rfl))
        obtain ⟨a1, c1, rfl, s3, s4⟩ := HV1.out.form
        obtain ⟨a2, c2, rfl, s5, s6⟩ := HV2.out.form
        rw [List.length_map, HLN.out] at HV17 HV2 ⊢
        clear HV1
        obtain ⟨sb, hsb⟩ : ∃ sb : ByteArray, (⟨l.toArray⟩ : ByteArray) = sb := ⟨_, rfl⟩
        have hcv1 := conv_row HV17.out
        have hcv2 := conv_row HV2.out
        rw [hsb] at hcv1 hcv2
        have d1 := str_same sb
        have dk : (k != k) = false := by simp
        clear hsb s3 s4 s5 s6
        go_upto_region 16 with fail
        clear hcv1 hcv2 d1 dk
        by_cases hk : k = 0
        · subst hk
          have j0 : ((0 : Int) != 0) = false := by simp
          have j1 : ((0 : Int) == 0) = true := by simp
          obtain ⟨t, hms, htx, hlt⟩ := sealM_ok HSR2.out
          have HOP : Hid (openM M2 p.dst l = (p, 0)) := Lib.hid (by rw [hlt]; exact open_seal HPP.out hms htx)
          clear hms htx hlt
          have cd7 : w7.cell? ⟨C, 1, none⟩ = some (.int .u8 (p.dst : Int)) := (cell_of_row w7 C 1 _ _ _ HP7.out).trans rfl
          have HO1 := Lib.hid (gopen_any wr.heap.size rb2 M2 (by rw [HL2.out]; exact HNN.out.2.1) p.dst HPP.out.dst l _ w7 (HR25.out.on HU57.out) HV17.out (fun k hk => hk) (HVX.out _ HB7.out).1 (HVX.out _ HB7.out).2 HKM2.out (by have := HLL.out; omega))
          unfold OpenQ at HO1
          rw [HOP.out] at HO1
          go_upto_region 19 with (first
            | ((with_reducible refine wpList_at (.store 38 (.tmp 19) _) rfl ?_); go_loud (refine wpList_store_agg rfl _ _ _ rfl w8.heap.size 0 (pktA p) rfl rfl (there_of (heap_alloc_new w8 (.cells pkz.toArray 38)) 16 (by decide)) (by kernel_rfl) rfl ?_))
            | (go_at_call 36; go_loud (refine HO1.out.mono ?_); rintro e w8 ⟨rfl, hb⟩; have HU8 := Lib.hid hb; clear hb))
          clear cd7
          obtain ⟨G, hG⟩ : ∃ D, w8.heap.size = D := ⟨_, rfl⟩
          obtain ⟨w9, hw9⟩ : ∃ u, w8.alloc (.cells pkz.toArray 38) = u := ⟨_, rfl⟩
          obtain ⟨w10, hw10⟩ : ∃ u, w9.setCells G 0 (pktA p) = u := ⟨_, rfl⟩
          obtain ⟨q1, q2, q3⟩ := pkt_new w8 p G hG w9 w10 hw9 hw10
          have HU10 : Hid (Below w8.heap.size w8 w10) := Lib.hid (by rw [hG]; exact q2)
          have HB8 : Hid (Below C W w8) := Lib.hid (HB7.out.trans (HU8.out.mono (below_le HCQ HB7.out)))
          have HB10 : Hid (Below C W w10) := Lib.hid (HB8.out.trans (HU10.out.mono (below_le HCQ HB8.out)))
          have z7 : C < w7.heap.size := Nat.lt_of_lt_of_le HZ5.out HU57.out.size
          have hp10 : w10.heap[C]? = some (.cells (pktA p).toArray 38 (0, 0)) := (HU10.out.block C (Nat.lt_of_lt_of_le z7 HU8.out.size)).trans ((HU8.out.block C z7).trans HP7.out)
          have HR1X : Hid (RingAt w10 w2.heap.size rb M) := Lib.hid (HR15.out.on (HU57.out.trans ((HU8.out.mono HU57.out.size).trans (HU10.out.mono (Nat.le_trans HU57.out.size HU8.out.size)))))
          rw [show (w8.alloc (.cells #[.int .u8 0, .int .u8 0, .bool false, .int .u64 0, .int .u8 0, .int .u8 0, .int .u64 0, .int .u8 0, .int .u8 0, .int .u16 0, .int .u32 0, .int .i64 0, .int .u8 0, .int .u32 0, .int .i64 0, .int .i64 0] 38)) = w9 from hw9, hG, hw10]
          clear hG hw9 hw10 q2 q3 z7
          have hself := fun u => eql_pkt p p u
          rw [show eqP p p = true from eqP_iff.2 rfl] at hself
          unfold pktA msgA at hself hp10 q1
          simp only [List.cons_append, List.nil_append] at hself hp10 q1
          obtain ⟨d0, d1, d2, d3, d4, d5, d6, d7, d8, d9, d10, d11, d12, d13, d14, d15⟩ := (cells16 hp10).1
          obtain ⟨e0, e1, e2, e3, e4, e5, e6, e7, e8, e9, e10, e11, e12, e13, e14, e15⟩ := (cells16 q1).1
          clear hp10 q1
          have HWX := Lib.hid (HWK.out w10 HB10.out)
          unfold WakesQ at HWX
          have n1 : ((i : Int) == (i : Int)) = true := by simp
          go_wp2_with (first
            | (go_at_call 31; go_loud (refine (gcarriers_any _ rb M w10 HR1X.out).mono ?_); rintro e u ⟨rfl, rfl⟩; rw [HKL.out])
            | (go_at_call 27; go_loud (refine HWX.out.mono ?_); rintro e u ⟨rfl, hb⟩; have HBU : Hid (Below C W u) := Lib.hid (HB10.out.trans (hb.mono (below_le HCQ HB10.out))); clear hb))
          go_ret
          exact ⟨rfl, HBU.out⟩
        · have j0 : (k != 0) = true := by rw [bne_iff_ne]; exact hk
          have HWX := Lib.hid (HWK.out w7 HB7.out)
          unfold WakesQ at HWX
          go_wp2_with (go_at_call 27; go_loud (refine HWX.out.mono ?_); rintro e u ⟨rfl, hb⟩; have HBU : Hid (Below C W u) := Lib.hid (HB7.out.trans (hb.mono (below_le HCQ HB7.out))); clear hb)
          go_ret
          exact ⟨rfl, HBU.out⟩
end Go.Proofs.YtgfijlamhjjecaaGreatDoor
