/-
  SealForgedV: the walk of SealForged for every input. No condition but the laid variables.
-/
import Derived.Test.YtgfijlamhjjecaaGreatDoorSr17
import Derived.Test.YtgfijlamhjjecaaGreatDoorSr16
import Derived.Test.YtgfijlamhjjecaaGreatDoorSr5
namespace Go.Proofs.YtgfijlamhjjecaaGreatDoor
open Go.RowKit
set_option maxRecDepth 100000 in
set_option maxHeartbeats 16000000 in
theorem sealForged_walk {W : World} (hv : VarsOk W) (hK : VarsK W) (ia : Int) (wa : (Lit.int .i64 ia).wf = true) (more : Str) (mv : Value) (hm : RowAt (Low W) W mv (more.map bv)) (bs : Str) (sv2 : Value) (hs : RowAt (Low W) W sv2 (bs.map bv)) (ib : Int) (wb : (Lit.int .u8 ib).wf = true) : Calls Tryz.prog 11 #[.int .i64 ia, mv, sv2, .int .u8 ib] W fun e w' => e = .returned (.bool true) ∧ Below W.heap.size W w' := by
  obtain ⟨C, hC⟩ : ∃ B, W.heap.size = B := ⟨_, rfl⟩
  have HCQ := Lib.hid hC
  have HVX : Hid (∀ u, Below C W u → VarsOk u ∧ VarsK u) := Lib.hid (fun u hu => ⟨hv.on hu (by rw [hC]; exact Nat.le_refl _), hK.on (by rw [hC]; exact hu)⟩)
  have HWK : Hid (∀ u, Below C W u → Calls Tryz.prog 27 #[] u fun e w' => WakesQ u e w') := Lib.hid (fun u hu => lwakes_any u (HVX.out u hu).1 (HVX.out u hu).2)
  have HM1 : Hid (RowAt (Low W) W mv (more.map bv)) := Lib.hid hm
  have HS1 : Hid (RowAt (Low W) W sv2 (bs.map bv)) := Lib.hid hs
  have HI : Hid (-9223372036854775808 ≤ ia ∧ ia ≤ 9223372036854775807) := Lib.hid ((Lit.wf_int_iff _ _).1 wa)
  have hib : (0 : Int) ≤ ib ∧ ib ≤ 255 := (Lit.wf_int_iff _ _).1 wb
  obtain ⟨to_, rfl⟩ : ∃ n : Nat, ib = (n : Int) := ⟨ib.toNat, by omega⟩
  have hto : to_ < 256 := by omega
  have HTO := Lib.hid hto
  obtain ⟨mo, mc, rfl, m1, m2⟩ := hm.form
  rw [List.length_map] at m1 HM1 ⊢
  unfold maxLen at m2
  obtain ⟨ml, hml⟩ : ∃ m, more.length = m := ⟨_, rfl⟩
  rw [hml] at m1 HM1 ⊢
  have HML := Lib.hid hml
  obtain ⟨so, sc, rfl, s1, s2⟩ := hs.form
  rw [List.length_map] at s1 HS1 ⊢
  unfold maxLen at s2
  obtain ⟨bl, hsl⟩ : ∃ m, bs.length = m := ⟨_, rfl⟩
  rw [hsl] at s1 HS1 ⊢
  have HBL := Lib.hid hsl
  have HB0 : Hid (Below C W W) := Lib.hid (Below.refl _ _)
  have HWK0 := Lib.hid (HWK.out W HB0.out)
  unfold WakesQ at HWK0
  rw [hC]
  clear hv hK hC wa hm hml hs hsl hib wb
  go_enter Tryz.func11, Tryz.ntmps11
  go_upto_region 1 with fail
  by_cases hbad : ia < 2 ∨ 8 < ia ∨ 60 < ml ∨ 2000 < bl
  · by_cases h2 : ia < 2
    · clear hbad
      go_wp2_with (go_at_call 27; go_loud (refine HWK0.out.mono ?_); rintro e u ⟨rfl, hb⟩; have HBU : Hid (Below C W u) := Lib.hid (by rw [← HCQ.out]; exact hb); clear hb)
      go_ret
      exact ⟨rfl, HBU.out⟩
    by_cases h8 : 8 < ia
    · clear hbad
      go_wp2_with (go_at_call 27; go_loud (refine HWK0.out.mono ?_); rintro e u ⟨rfl, hb⟩; have HBU : Hid (Below C W u) := Lib.hid (by rw [← HCQ.out]; exact hb); clear hb)
      go_ret
      exact ⟨rfl, HBU.out⟩
    by_cases h6' : 60 < ml
    · have h6 : (60 : Int) < (ml : Int) := by omega
      clear hbad
      go_wp2_with (go_at_call 27; go_loud (refine HWK0.out.mono ?_); rintro e u ⟨rfl, hb⟩; have HBU : Hid (Below C W u) := Lib.hid (by rw [← HCQ.out]; exact hb); clear hb)
      go_ret
      exact ⟨rfl, HBU.out⟩
    have h6 : ¬ (60 : Int) < (ml : Int) := by omega
    have h7 : (2000 : Int) < (bl : Int) := by omega
    clear hbad
    go_wp2_with (go_at_call 27; go_loud (refine HWK0.out.mono ?_); rintro e u ⟨rfl, hb⟩; have HBU : Hid (Below C W u) := Lib.hid (by rw [← HCQ.out]; exact hb); clear hb)
    go_ret
    exact ⟨rfl, HBU.out⟩
  · obtain ⟨n, rfl⟩ : ∃ n : Nat, ia = (n : Int) := ⟨ia.toNat, by omega⟩
    have g2 : ¬ (n : Int) < 2 := by omega
    have g8 : ¬ (8 : Int) < (n : Int) := by omega
    have g6 : ¬ (60 : Int) < (ml : Int) := by omega
    have g7 : ¬ (2000 : Int) < (bl : Int) := by omega
    have HBL2 : Hid (bl ≤ 2000) := Lib.hid (by omega)
    clear hbad
    have HNN : Hid (2 ≤ n ∧ n ≤ 8 ∧ ml ≤ 60) := Lib.hid (by omega)
    have HKY : Hid (∀ u, Below C W u → Calls Tryz.prog 35 #[.int .i64 (n : Int), .slice mo ml mc] u fun e w' => KeysQ (keysM n more) u e w') := Lib.hid (fun u hu => lkeys_any (T := Low W) n HNN.out.2.1 more _ u (HM1.out.any (fun k hk => hk) (by rw [HCQ.out]; exact hu)) (fun k hk => Nat.lt_of_lt_of_le hk (by rw [HCQ.out]; exact below_le HCQ hu)) (by rw [HML.out]; exact HNN.out.2.2))
    have HKM : Hid (∀ i k, (keyAt (keysM n more) i k).length ≤ 17592186044416) := Lib.hid (fun i k => Nat.le_trans (keyAt_le (by rw [HML.out]; exact HNN.out.2.2) i k) (by decide))
    have HGB : Hid (goodB (keysM n more) = true) := Lib.hid (goodB_keysM HNN.out.1 HNN.out.2.1 (by rw [HML.out]; exact HNN.out.2.2))
    have HKL : Hid ((keysM n more).length = n) := Lib.hid (keysM_len _ _)
    have HKG : Hid (∀ i, i < n → (keysM n more)[i]? = some (keysRow n i more)) := Lib.hid (fun i hi => by have := selfM_get (m := 0) (more := more) (self := []) hi; rw [selfM_zero, if_neg (Nat.not_lt_zero i)] at this; exact this)
    obtain ⟨M, hM⟩ : ∃ M, keysM n more = M := ⟨_, rfl⟩
    rw [hM] at HKY HKM HGB HKL HKG
    unfold KeysQ at HKY
    clear hM
    have HKY0 := Lib.hid (HKY.out W HB0.out)
    go_upto_region 6 with (first
      | (go_at_call 35; go_loud (refine HKY0.out.mono ?_); rintro e w2 ⟨kv, rfl, hko, hb⟩; have HB2 : Hid (Below C W w2) := Lib.hid (by rw [← HCQ.out]; exact hb); have HKO := Lib.hid hko; clear hko hb)
      | (go_at_call 29; go_loud (refine (gnew_any M kv w2 HKO.out.bsss (fun k hk => hk.2)).mono ?_); rintro e w3 ⟨hg, _, hb⟩; obtain ⟨rb, rfl, hr⟩ := hg HGB.out; have HR3 := Lib.hid hr; have HB3 : Hid (Below C W w3) := Lib.hid (HB2.out.trans (hb.mono (below_le HCQ HB2.out))); clear hg hr hb))
    have HS3 : Hid (RowAt (Low W) w3 (.slice so bl sc) (bs.map bv)) := Lib.hid (HS1.out.any (fun k hk => hk) (by rw [HCQ.out]; exact HB3.out))
    obtain ⟨Q, hQ⟩ : ∃ Q, openM M to_ bs = Q := ⟨_, rfl⟩
    obtain ⟨q, ek⟩ := Q
    have HQ := Lib.hid hQ
    clear hQ
    go_upto_region 7 with (first
      | ((with_reducible refine wpList_at (.call { callee := .builtin .append, args := #[.const (.slice none 0 0), .tmp 47], argTypes := #[72, 72] }) rfl ?_); refine wp_app_bytes (v := .slice none 0 0) (src := .slice so bl sc) rfl _ _ rfl rfl rfl (OwnS.nil w3 w3.heap.size) HS3.out (by rw [HBL.out]; have := HBL2.out; simp; omega) (Nat.le_refl _) ?_; intro bv2 w4 hO hgr _; have HO4 : Hid (OwnS w4 w3.heap.size bv2 bs) := Lib.hid hO; have HU4 : Hid (Below w3.heap.size w3 w4) := Lib.hid ((Below.refl _ w3).grown hgr (Nat.le_refl _) (fun b hb => by cases hb)); have HB4 : Hid (Below C W w4) := Lib.hid (HB3.out.trans (HU4.out.mono (below_le HCQ HB3.out))); clear hO hgr)
      | ((with_reducible refine wpList_at (.store 38 (.tmp 11) _) rfl ?_); go_loud (refine wpList_store_agg rfl _ _ _ rfl w5.heap.size 0 (pktA q) rfl rfl (there_of (heap_alloc_new w5 (.cells pkz.toArray 38)) 16 (by decide)) (by kernel_rfl) rfl ?_))
      | (go_at_call 36; go_loud (refine (gopen_any w2.heap.size rb M (by rw [HKL.out]; exact HNN.out.2.1) to_ HTO.out bs bv2 w4 (HR3.out.on HU4.out) HO4.out.rowAt (fun k hk => hk.2) (HVX.out _ HB4.out).1 (HVX.out _ HB4.out).2 HKM.out (by rw [HBL.out]; have := HBL2.out; omega)).mono ?_); unfold OpenQ; rw [HQ.out]; rintro e w5 ⟨rfl, hb⟩; have HB5 : Hid (Below C W w5) := Lib.hid (HB4.out.trans (hb.mono (below_le HCQ HB4.out))); clear hb))
    obtain ⟨G, hG⟩ : ∃ D, w5.heap.size = D := ⟨_, rfl⟩
    obtain ⟨w6, hw6⟩ : ∃ u, w5.alloc (.cells pkz.toArray 38) = u := ⟨_, rfl⟩
    obtain ⟨w7, hw7⟩ : ∃ u, w6.setCells G 0 (pktA q) = u := ⟨_, rfl⟩
    obtain ⟨q1, q2, q3⟩ := pkt_new w5 q G hG w6 w7 hw6 hw7
    have HG7 := Lib.hid q1
    have HB7 : Hid (Below C W w7) := Lib.hid (HB5.out.trans (q2.mono (by rw [← hG]; exact below_le HCQ HB5.out)))
    rw [show (w5.alloc (.cells #[.int .u8 0, .int .u8 0, .bool false, .int .u64 0, .int .u8 0, .int .u8 0, .int .u64 0, .int .u8 0, .int .u8 0, .int .u16 0, .int .u32 0, .int .i64 0, .int .u8 0, .int .u32 0, .int .i64 0, .int .i64 0] 38)) = w6 from hw6, hG, hw7]
    clear hG hw6 hw7 q1 q2 q3
    have HGU : Hid (∀ u, Below w7.heap.size w7 u → u.heap[G]? = some (.cells (pktA q).toArray 38 (0, 0))) := Lib.hid (fun u hu => (hu.block G (Array.getElem?_eq_some_iff.1 HG7.out).1).trans HG7.out)
    have g9 : (to_ : Int) < 256 := by have := HTO.out; omega
    by_cases hcar : n ≤ to_
    · have j0 : (n : Int) ≤ (to_ : Int) := by omega
      have hQ : (pd0, (1 : Int)) = (q, ek) := by rw [← HQ.out]; unfold openM; rw [if_pos (by rw [HKL.out]; exact hcar)]
      cases hQ
      have q1 := HG7.out
      rw [pd0L] at q1
      obtain ⟨d0, d1, d2, d3, d4, d5, d6, d7, d8, d9, d10, d11, d12, d13, d14, d15⟩ := (cells16 q1).1
      have hself := fun u => eql_pkt pd0 pd0 u
      rw [show eqP pd0 pd0 = true from eqP_iff.2 rfl, pd0L] at hself
      clear q1 hcar
      have HWX := Lib.hid (HWK.out w7 HB7.out)
      unfold WakesQ at HWX
      go_wp2_with (go_at_call 27; go_loud (refine HWX.out.mono ?_); rintro e u ⟨rfl, hb⟩; have HBU : Hid (Below C W u) := Lib.hid (HB7.out.trans (hb.mono (below_le HCQ HB7.out))); clear hb)
      go_ret
      exact ⟨rfl, HBU.out⟩
    · have j0 : ¬ (n : Int) ≤ (to_ : Int) := by omega
      have HTN : Hid (to_ < n) := Lib.hid (by omega)
      clear hcar
      have HKY7 := Lib.hid (HKY.out w7 HB7.out)
      go_upto_region 11 with (go_at_call 35; go_loud (refine HKY7.out.mono ?_); rintro e w8 ⟨kv8, rfl, hko, hb⟩; have HU8 := Lib.hid hb; have HKO8 := Lib.hid hko.bsss; clear hko hb)
      have HB8 : Hid (Below C W w8) := Lib.hid (HB7.out.trans (HU8.out.mono (below_le HCQ HB7.out)))
      obtain ⟨ko, kc, rfl, k1, k2⟩ := HKO8.out.form
      rw [HKL.out] at HKO8 k1 ⊢
      unfold maxLen at k2
      have H110 : Hid (ek = 110 ↔ (bl < 32 ∨ someR M to_ (cutT bs) (cutD bs) n = false)) := Lib.hid (by
        have := openM_110 M bs (to_ := to_) (by rw [HKL.out]; exact HTN.out)
        rw [HQ.out, HBL.out, HKL.out] at this
        exact this)
      have HER : Hid (ek ≠ 0 → q = pd0) := Lib.hid (fun h => by have := openM_err (M := M) (to_ := to_) (bs := bs) (by rw [HQ.out]; exact h); rw [HQ.out] at this; exact this)
      obtain ⟨X, hX⟩ : ∃ t, cutT bs = t := ⟨_, rfl⟩
      obtain ⟨D, hD⟩ : ∃ t, cutD bs = t := ⟨_, rfl⟩
      rw [hX, hD] at H110
      have HX := Lib.hid hX
      have HD := Lib.hid hD
      clear hX hD
      go_wp2_with fail
      go_loopw [13, 15] (fun rv iv wr => ∃ i : Nat, i ≤ n ∧ iv = .int .i64 (i : Int) ∧ rv = .bool (someR M to_ X D i) ∧ Hid (bl < 32 → i = 0) ∧ Hid (Below w8.heap.size w8 wr)) (fun _ iv _ => n - (intOf iv).toNat)
      case atStart => exact ⟨0, Nat.zero_le _, rfl, rfl, Lib.hid (fun _ => rfl), Lib.hid (Below.refl _ _)⟩
      case round =>
        obtain ⟨i, hi, rfl, rfl, HI0, HBR⟩ := hrel
        obtain ⟨wo, hwo⟩ : ∃ wo : World, wo = wr := ⟨_, rfl⟩
        rw [← hwo] at HBR ⊢
        clear hwo wr
        obtain ⟨r, hr⟩ : ∃ b, someR M to_ X D i = b := ⟨_, rfl⟩
        rw [hr]
        have HRR := Lib.hid hr
        clear hr
        have HBW : Hid (Below C W wo) := Lib.hid (HB8.out.trans (HBR.out.mono (below_le HCQ HB8.out)))
        by_cases hgo : i < n ∧ 32 ≤ bl
        · obtain ⟨hlt, hl32⟩ := hgo
          have b3 : (0 : Int) ≤ i := by omega
          have b4 : (i : Int) < n := by omega
          have b5 : (32 : Int) ≤ (bl : Int) := by omega
          obtain ⟨cu, hcu⟩ : ∃ c, bl - 32 = c := ⟨_, rfl⟩
          have g1 : IntKind.i64.wrap ((bl : Int) - 32) = (cu : Int) := by rw [IntWalk.i64_in _ (by omega)]; omega
          have g2' : (bl : Int) - 32 = (cu : Int) := by omega
          have g3 : cu ≤ bl := by omega
          have hbq : bs.length = bl := HBL.out
          have HDL : Hid (D.length = 32) := Lib.hid (by rw [← HD.out]; unfold cutD; rw [List.length_drop]; omega)
          obtain ⟨gb, gof, rfl, hgb, _⟩ := HS1.out.get (k := 0) (x := bv (bs.getD 0 0)) (by rw [List.getElem?_map, List.getD_eq_getElem?_getD, List.getElem?_eq_getElem (by omega)]; rfl)
          have HGB' : Hid (gb < C) := Lib.hid (by rw [← HCQ.out]; exact hgb)
          have HDC : Hid (∀ u, Below C W u → ∀ j x, D[j]? = some x → u.cell? ⟨gb, gof + (cu + j), none⟩ = some (bv x)) := Lib.hid (by
            intro u hu j x hj
            rw [← HD.out] at hj
            unfold cutD at hj
            rw [hbq, hcu, List.getElem?_drop] at hj
            obtain ⟨b, off, e, _, hc⟩ := HS1.out.get (k := cu + j) (x := bv x) (by rw [List.getElem?_map, hj]; rfl)
            cases e
            exact (hu.cell (p := ⟨gb, gof + (cu + j), none⟩) HGB'.out).trans hc)
          have HXT : Hid (RowAt (Low W) W (.slice (some ⟨gb, gof, none⟩) cu sc) (X.map bv)) := Lib.hid (by
            have := HS1.out.take cu g3
            rw [← List.map_take] at this
            rw [← HX.out]; unfold cutT; rw [hbq, hcu]; exact this)
          have HCU : Hid (cu ≤ 2000) := Lib.hid (by have := HBL2.out; omega)
          have HXL : Hid (X.length ≤ 17592186044416) := Lib.hid (by rw [← HX.out, cutT_len hbq hcu]; have := HCU.out; omega)
          clear hl32 hcu hbq hgb
          go_upto_block 2 with ((with_reducible refine wpList_at (.alloc 78) rfl ?_); go_loud (refine wpList_alloc_cells rfl _ rfl _ zero32 ?_))
          obtain ⟨F, hF⟩ : ∃ F, wo.heap.size = F := ⟨_, rfl⟩
          obtain ⟨wa, hwa⟩ : ∃ u, wo.alloc (.cells (pad32 []).toArray 78) = u := ⟨_, rfl⟩
          have HFA : Hid (wa.heap[F]? = some (.cells (pad32 (D.take 0)).toArray 78 (0, 0))) := Lib.hid (by rw [← hwa, ← hF]; exact heap_alloc_new _ _)
          have HUA : Hid (Below F wo wa) := Lib.hid (by rw [← hwa, ← hF]; exact (Below.refl _ _).alloc (Nat.le_refl _) _)
          have HFE : Hid (wo.heap.size = F) := Lib.hid hF
          have HCF : Hid (C ≤ F) := Lib.hid (by rw [← hF]; exact below_le HCQ HBW.out)
          rw [hwa, hF]
          clear hwa hF
          go_wp2_with fail
          go_loopw [17] (fun jv wx => ∃ j : Nat, j ≤ 32 ∧ jv = .int .i64 (j : Int) ∧ Hid (wx.heap[F]? = some (.cells (pad32 (D.take j)).toArray 78 (0, 0))) ∧ Hid (Below F wo wx)) (fun jv _ => 32 - (intOf jv).toNat)
          case atStart => exact ⟨0, by omega, rfl, HFA, HUA⟩
          case round =>
            obtain ⟨j, hj, rfl, HFJ, HBX⟩ := hrel
            have HBXC : Hid (Below C W wr) := Lib.hid (HBW.out.trans (HBX.out.mono HCF.out))
            by_cases hjl : j < 32
            · have e1 : (0 : Int) ≤ j := by omega
              have e2 : (j : Int) < 32 := by omega
              have e3 : (0 : Int) ≤ (cu : Int) + (j : Int) := by omega
              have e4 : (cu : Int) + (j : Int) < (bl : Int) := by omega
              obtain ⟨x, hx⟩ : ∃ x, D[j]? = some x := ⟨_, List.getElem?_eq_getElem (by rw [HDL.out]; exact hjl)⟩
              have hlj : (D.take j).length = j := by rw [List.length_take, HDL.out]; omega
              have cx := HDC.out _ HBXC.out j x hx
              unfold bv at cx
              have cz := pad32_zero HFJ.out hlj hjl
              have fz := frozen_of_row _ F j _ _ HFJ.out
              have HFN := Lib.hid (pad32_store HFJ.out hlj hjl x)
              rw [show D.take j ++ [x] = D.take (j + 1) from by rw [List.take_add_one, hx]; rfl] at HFN
              unfold bv at HFN
              clear hx hlj
              go_wp2_with fail
              go_roundw
              case rel => exact ⟨j + 1, by omega, by go_num, HFN, Lib.hid (HBX.out.setCell (Nat.le_refl F) _)⟩
              case measure => simp [intOf]; omega
            · obtain rfl : j = 32 := by omega
              have e2 : ¬ (32 : Int) < 32 := by omega
              rw [List.take_of_length_le (by rw [HDL.out]; exact Nat.le_refl _), pad32_full HDL.out] at HFJ
              have HN1 : Hid (someR M to_ X D (i + 1) = (rightM M i to_ X D || r)) := Lib.hid (by rw [someR_more, HRR.out])
              have HBX8 : Hid (Below w8.heap.size w8 wr) := Lib.hid (HBR.out.trans (HBX.out.mono (by rw [← HFE.out]; exact HBR.out.size)))
              go_upto_region 19 with fail
              have gw8 : IntKind.i64.wrap (to_ : Int) = (to_ : Int) := IntWalk.i64_in _ (by omega)
              cases r with
              | true =>
                refine wp_region_plan [(0, false), (1, false), (2, false), (3, false), (4, false), (5, false), (6, false), (7, false), (8, false), (9, false), (10, false), (11, false), (12, false), (13, false), (14, false), (15, false), (16, false), (17, false), (18, false), (19, false), (20, false), (21, false), (22, false), (23, false), (24, false)] (fun u => True) (by kernel_rfl) (by kernel_rfl) trivial ?_
                iterate 2 (refine' plan_val rfl rfl (fun w' hS => ?_) ?_; rotate_left; (focus (first | (go_simp; rfl) | (go_simp; done))); simp only [Act.put, List.setIfInBounds_toArray, List.set_cons_zero, List.set_cons_succ])
                iterate 21 (refine plan_skip rfl rfl ?_; simp only [Act.put, List.setIfInBounds_toArray, List.set_cons_zero, List.set_cons_succ])
                iterate 2 (refine' plan_val rfl rfl (fun w' hS => ?_) ?_; rotate_left; (focus (first | (go_simp; rfl) | (go_simp; done))); simp only [Act.put, List.setIfInBounds_toArray, List.set_cons_zero, List.set_cons_succ])
                refine plan_nil ?_
                go_wp2_with fail
                go_roundw
                case rel => exact ⟨i + 1, by omega, by go_num, by rw [HN1.out, Bool.or_true], Lib.hid (fun h => by omega), Lib.hid (HBX8.out.drew)⟩
                case measure => simp [intOf]; omega
              | false =>
                by_cases hit : i = to_
                · have n1 : ((i : Int) != (to_ : Int)) = false := by rw [hit]; simp
                  have HRF : Hid (rightM M i to_ X D = false) := Lib.hid (by unfold rightM; rw [decide_eq_false (fun h => h.2.2 hit)]; rfl)
                  clear hit
                  refine wp_region_plan [(0, false), (1, false), (2, false), (3, false), (4, false), (5, false), (6, false), (7, false), (8, false), (9, false), (10, false), (11, false), (12, false), (13, false), (14, false), (15, false), (16, false), (17, false), (18, false), (19, false), (20, false), (21, false), (22, false), (23, false), (24, false)] (fun u => True) (by kernel_rfl) (by kernel_rfl) trivial ?_
                  iterate 5 (refine' plan_val rfl rfl (fun w' hS => ?_) ?_; rotate_left; (focus (first | (go_simp; rfl) | (go_simp; done))); simp only [Act.put, List.setIfInBounds_toArray, List.set_cons_zero, List.set_cons_succ])
                  try rw [gw8]
                  iterate 1 (refine' plan_val rfl rfl (fun w' hS => ?_) ?_; rotate_left; (focus (first | (go_simp; rfl) | (go_simp; done))); simp only [Act.put, List.setIfInBounds_toArray, List.set_cons_zero, List.set_cons_succ])
                  try rw [n1]
                  iterate 1 (refine' plan_val rfl rfl (fun w' hS => ?_) ?_; rotate_left; (focus (first | (go_simp; rfl) | (go_simp; done))); simp only [Act.put, List.setIfInBounds_toArray, List.set_cons_zero, List.set_cons_succ])
                  iterate 15 (refine plan_skip rfl rfl ?_; simp only [Act.put, List.setIfInBounds_toArray, List.set_cons_zero, List.set_cons_succ])
                  iterate 3 (refine' plan_val rfl rfl (fun w' hS => ?_) ?_; rotate_left; (focus (first | (go_simp; rfl) | (go_simp; done))); simp only [Act.put, List.setIfInBounds_toArray, List.set_cons_zero, List.set_cons_succ])
                  refine plan_nil ?_
                  go_wp2_with fail
                  go_roundw
                  case rel => exact ⟨i + 1, by omega, by go_num, by rw [HN1.out, HRF.out]; rfl, Lib.hid (fun h => by omega), Lib.hid (HBX8.out.drew)⟩
                  case measure => simp [intOf]; omega
                · have n1 : ((i : Int) != (to_ : Int)) = true := by rw [bne_iff_ne]; omega
                  obtain ⟨vb, voff, xv, rfl, hvb, cvb, hrow⟩ := HKO8.out.get (HKG.out i hlt)
                  obtain ⟨xo, xcap, rfl, x1, x2⟩ := hrow.form
                  rw [keysRow_len] at hrow x1 cvb
                  unfold maxLen at x2
                  have hkk : (keysRow n i more)[to_]? = some (keyC i to_ :: more) := by unfold keysRow; rw [List.getElem?_map, List.getElem?_range HTN.out]; rfl
                  obtain ⟨ub, uoff, kv9, rfl, hub, cub, hkey⟩ := hrow.get hkk
                  have hka : keyAt M i to_ = keyC i to_ :: more := by unfold keyAt; rw [List.getD_eq_getElem?_getD, List.getD_eq_getElem?_getD, HKG.out i hlt, Option.getD_some, hkk]; rfl
                  obtain ⟨md, hmd⟩ : ∃ m, macM (keyC i to_ :: more) X = m := ⟨_, rfl⟩
                  have HRM : Hid (rightM M i to_ X D = decide (md = D)) := Lib.hid (by unfold rightM; rw [decide_eq_true (show i < M.length ∧ to_ < M.length ∧ i ≠ to_ from ⟨by rw [HKL.out]; exact hlt, by rw [HKL.out]; exact HTN.out, hit⟩), hka, hmd]; rfl)
                  have HMLN : Hid (md.length = 32) := Lib.hid (by rw [← hmd, macM_len])
                  have HVB : Hid (∀ u, Below w8.heap.size w8 u → u.cell? ⟨vb, voff + i, none⟩ = some (.slice (some ⟨ub, uoff, none⟩) n xcap) ∧ u.cell? ⟨ub, uoff + to_, none⟩ = some kv9) := Lib.hid (fun u hu => ⟨(hu.cell (p := ⟨vb, voff + i, none⟩) hvb.2).trans cvb, (hu.cell (p := ⟨ub, uoff + to_, none⟩) hub.2).trans cub⟩)
                  have HCX : Hid (Below C W wr) := HBXC
                  have hz8 : w8.heap.size ≤ wr.heap.size := HBX8.out.size
                  have HMC := Lib.hid (macof_any (keyC i to_ :: more) X kv9 (.slice (some ⟨gb, gof, none⟩) cu sc) wr.drew ((hkey.any (fun k hk => hk.2) HBX8.out).cong (w' := wr.drew) (fun _ h => h) (fun _ _ => rfl)) (fun k hk => Nat.lt_of_lt_of_le hk.2 hz8) (HXT.out.any (w' := wr.drew) (fun k hk => hk) (by rw [HCQ.out]; exact HCX.out.drew)) (fun k hk => Nat.lt_of_lt_of_le hk (by rw [HCQ.out]; exact below_le HCQ HCX.out.drew)) (HVX.out _ HCX.out.drew).2 (by rw [List.length_cons, HML.out]; have := HNN.out.2.2; omega) HXL.out)
                  rw [hmd] at HMC
                  have b6 : (0 : Int) ≤ (to_ : Int) := by omega
                  have gcw : IntKind.i64.wrap (cu : Int) = (cu : Int) := IntWalk.i64_in _ (by have := HCU.out; omega)
                  have gc0 : (0 : Int) ≤ (cu : Int) := by omega
                  have gc1 : (cu : Int) ≤ (sc : Int) := by omega
                  have b7 : (to_ : Int) < (n : Int) := by have := HTN.out; omega
                  have HFB : Hid (∀ u, Below wr.heap.size wr u → u.heap[F]? = some (.cells (D.map bv).toArray 78 (0, 0))) := Lib.hid (fun u hu => (hu.block F (Array.getElem?_eq_some_iff.1 HFJ.out).1).trans HFJ.out)
                  have HU8' : Hid (∀ u, Below wr.heap.size wr u → Below w8.heap.size w8 u) := Lib.hid (fun u hu => HBX8.out.trans (hu.mono HBX8.out.size))
                  clear hvb cvb hrow hkk hub cub hkey hka hmd hit hz8 x1
                  refine wp_region_plan [(0, false), (1, false), (2, false), (3, false), (4, false), (5, false), (6, false), (7, false), (8, false), (9, false), (10, false), (11, false), (12, false), (13, false), (14, false), (15, false), (16, false), (17, false), (18, false), (20, false), (19, true), (21, true), (22, false), (23, false), (24, false)] (fun u => Below wr.heap.size wr u) (by kernel_rfl) (by kernel_rfl) (Below.refl _ _).drew ?_
                  iterate 5 (refine' plan_val rfl rfl (fun w' hS => ?_) ?_; rotate_left; (focus (first | (go_simp; rfl) | (go_simp; done))); simp only [Act.put, List.setIfInBounds_toArray, List.set_cons_zero, List.set_cons_succ])
                  try rw [gw8]
                  iterate 1 (refine' plan_val rfl rfl (fun w' hS => ?_) ?_; rotate_left; (focus (first | (go_simp; rfl) | (go_simp; done))); simp only [Act.put, List.setIfInBounds_toArray, List.set_cons_zero, List.set_cons_succ])
                  try rw [n1]
                  iterate 4 (refine' plan_val rfl rfl (fun w' hS => ?_) ?_; rotate_left; (focus (first | (go_simp; rfl) | (go_simp; done))); simp only [Act.put, List.setIfInBounds_toArray, List.set_cons_zero, List.set_cons_succ])
                  iterate 1 (refine' plan_val rfl rfl (fun w' hS => ?_) ?_; rotate_left; (focus (have hx := (HVB.out w' (HU8'.out w' hS)).1; first | (go_simp; rfl) | (go_simp; done))); simp only [Act.put, List.setIfInBounds_toArray, List.set_cons_zero, List.set_cons_succ])
                  iterate 2 (refine' plan_val rfl rfl (fun w' hS => ?_) ?_; rotate_left; (focus (first | (go_simp; rfl) | (go_simp; done))); simp only [Act.put, List.setIfInBounds_toArray, List.set_cons_zero, List.set_cons_succ])
                  iterate 1 (refine' plan_val rfl rfl (fun w' hS => ?_) ?_; rotate_left; (focus (have hx := (HVB.out w' (HU8'.out w' hS)).2; first | (go_simp; rfl) | (go_simp; done))); simp only [Act.put, List.setIfInBounds_toArray, List.set_cons_zero, List.set_cons_succ])
                  iterate 5 (refine' plan_val rfl rfl (fun w' hS => ?_) ?_; rotate_left; (focus (first | (go_simp; rfl) | (go_simp; done))); simp only [Act.put, List.setIfInBounds_toArray, List.set_cons_zero, List.set_cons_succ])
                  (refine' plan_val rfl rfl (fun w' hS => exec_load_mid 78 _ rfl F 0 rfl (D.map bv) _ (range_row (HFB.out w' hS)) Tryz.underlying78 rfl (by rw [List.length_map, HDL.out]; kernel_rfl)) ?_; simp only [Act.put, List.setIfInBounds_toArray, List.set_cons_zero, List.set_cons_succ])
                  refine plan_do rfl (fun K hK => ?_)
                  go_wp2_with (go_at_call 40; go_loud (refine HMC.out.mono ?_); unfold DigQ; rintro e wy ⟨rfl, hb⟩; have HBY : Hid (Below wr.heap.size wr wy) := Lib.hid ((Below.refl _ _).drew.trans hb); clear hb)
                  refine hK _ _ HBY.out ?_
                  clear hK K
                  refine plan_do rfl (fun K hK => ?_)
                  go_wp2_with (go_at_call 39; go_loud (refine (macsame_any md D HMLN.out HDL.out _).mono ?_); rintro e wz ⟨rfl, hb⟩; have HBZ : Hid (Below wr.heap.size wr wz) := Lib.hid (HBY.out.trans (hb.mono HBY.out.size)); clear hb)
                  refine hK _ _ HBZ.out ?_
                  clear hK K
                  iterate 3 (refine' plan_val rfl rfl (fun w' hS => ?_) ?_; rotate_left; (focus (first | (go_simp; rfl) | (go_simp; done))); simp only [Act.put, List.setIfInBounds_toArray, List.set_cons_zero, List.set_cons_succ])
                  refine plan_nil ?_
                  go_wp2_with fail
                  go_roundw
                  case rel => exact ⟨i + 1, by omega, by go_num, by rw [HN1.out, HRM.out, Bool.or_false], Lib.hid (fun h => by omega), Lib.hid (HU8'.out wz HBZ.out)⟩
                  case measure => simp [intOf]; omega
        · obtain hend : (i = n ∨ bl < 32) := by omega
          have HWX := Lib.hid (HWK.out wo HBW.out)
          unfold WakesQ at HWX
          have HGW := HGU.out wo (HU8.out.trans (HBR.out.mono HU8.out.size))
          have HRE : Hid (ek = 110 ↔ r = false) := Lib.hid (by
            rcases hend with rfl | h
            · rw [H110.out, HRR.out]
              constructor
              · rintro (h | h)
                · have := HI0.out h; have := HNN.out.1; omega
                · exact h
              · exact .inr
            · have h0 := HI0.out h
              have hr := HRR.out
              subst h0
              constructor
              · intro _; rw [← hr]; rfl
              · intro _; exact H110.out.2 (.inl h))
          have hcond : ¬ ((i : Int) < (n : Int) ∧ (32 : Int) ≤ (bl : Int)) := by omega
          have HHE : Hid (i = n ∨ bl < 32) := Lib.hid hend
          clear hcond hend hgo
          by_cases hlt : i < n
          · have b4 : (i : Int) < n := by omega
            have b5 : ¬ (32 : Int) ≤ (bl : Int) := by have := HHE.out; omega
            clear hlt
            cases r with
            | false =>
              obtain rfl := HRE.out.2 rfl
              obtain rfl := HER.out (by decide)
              rw [pd0L] at HGW
              obtain ⟨d0, d1, d2, d3, d4, d5, d6, d7, d8, d9, d10, d11, d12, d13, d14, d15⟩ := (cells16 HGW).1
              have hself := fun u => eql_pkt pd0 pd0 u
              rw [show eqP pd0 pd0 = true from eqP_iff.2 rfl, pd0L] at hself
              clear HGW
              go_wp2_with (go_at_call 27; go_loud (refine HWX.out.mono ?_); rintro e u ⟨rfl, hb⟩; have HBU : Hid (Below C W u) := Lib.hid (HBW.out.trans (hb.mono (below_le HCQ HBW.out))); clear hb)
              go_ret
              exact ⟨rfl, HBU.out⟩
            | true =>
              have n1 : (ek == 110) = false := by rw [beq_eq_false_iff_ne]; intro h; have := HRE.out.1 h; cases this
              by_cases h0 : ek = 0
              · subst h0
                clear HGW
                go_wp2_with (go_at_call 27; go_loud (refine HWX.out.mono ?_); rintro e u ⟨rfl, hb⟩; have HBU : Hid (Below C W u) := Lib.hid (HBW.out.trans (hb.mono (below_le HCQ HBW.out))); clear hb)
                go_ret
                exact ⟨rfl, HBU.out⟩
              · have n2 : (ek == 0) = false := by rw [beq_eq_false_iff_ne]; exact h0
                obtain rfl := HER.out h0
                rw [pd0L] at HGW
                obtain ⟨d0, d1, d2, d3, d4, d5, d6, d7, d8, d9, d10, d11, d12, d13, d14, d15⟩ := (cells16 HGW).1
                have hself := fun u => eql_pkt pd0 pd0 u
                rw [show eqP pd0 pd0 = true from eqP_iff.2 rfl, pd0L] at hself
                clear HGW
                go_wp2_with (go_at_call 27; go_loud (refine HWX.out.mono ?_); rintro e u ⟨rfl, hb⟩; have HBU : Hid (Below C W u) := Lib.hid (HBW.out.trans (hb.mono (below_le HCQ HBW.out))); clear hb)
                go_ret
                exact ⟨rfl, HBU.out⟩
          · have b4 : ¬ (i : Int) < n := by omega
            clear hlt
            cases r with
            | false =>
              obtain rfl := HRE.out.2 rfl
              obtain rfl := HER.out (by decide)
              rw [pd0L] at HGW
              obtain ⟨d0, d1, d2, d3, d4, d5, d6, d7, d8, d9, d10, d11, d12, d13, d14, d15⟩ := (cells16 HGW).1
              have hself := fun u => eql_pkt pd0 pd0 u
              rw [show eqP pd0 pd0 = true from eqP_iff.2 rfl, pd0L] at hself
              clear HGW
              go_wp2_with (go_at_call 27; go_loud (refine HWX.out.mono ?_); rintro e u ⟨rfl, hb⟩; have HBU : Hid (Below C W u) := Lib.hid (HBW.out.trans (hb.mono (below_le HCQ HBW.out))); clear hb)
              go_ret
              exact ⟨rfl, HBU.out⟩
            | true =>
              have n1 : (ek == 110) = false := by rw [beq_eq_false_iff_ne]; intro h; have := HRE.out.1 h; cases this
              by_cases h0 : ek = 0
              · subst h0
                clear HGW
                go_wp2_with (go_at_call 27; go_loud (refine HWX.out.mono ?_); rintro e u ⟨rfl, hb⟩; have HBU : Hid (Below C W u) := Lib.hid (HBW.out.trans (hb.mono (below_le HCQ HBW.out))); clear hb)
                go_ret
                exact ⟨rfl, HBU.out⟩
              · have n2 : (ek == 0) = false := by rw [beq_eq_false_iff_ne]; exact h0
                obtain rfl := HER.out h0
                rw [pd0L] at HGW
                obtain ⟨d0, d1, d2, d3, d4, d5, d6, d7, d8, d9, d10, d11, d12, d13, d14, d15⟩ := (cells16 HGW).1
                have hself := fun u => eql_pkt pd0 pd0 u
                rw [show eqP pd0 pd0 = true from eqP_iff.2 rfl, pd0L] at hself
                clear HGW
                go_wp2_with (go_at_call 27; go_loud (refine HWX.out.mono ?_); rintro e u ⟨rfl, hb⟩; have HBU : Hid (Below C W u) := Lib.hid (HBW.out.trans (hb.mono (below_le HCQ HBW.out))); clear hb)
                go_ret
                exact ⟨rfl, HBU.out⟩
end Go.Proofs.YtgfijlamhjjecaaGreatDoor
