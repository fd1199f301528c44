/-
  SealOpensV: the walk of SealOpens for every input. No condition but the laid variables.
-/
import Derived.Test.YtgfijlamhjjecaaGreatDoorMv16
import Derived.Test.YtgfijlamhjjecaaGreatDoorMv18
import Derived.Test.YtgfijlamhjjecaaGreatDoorMv5
import Derived.Test.YtgfijlamhjjecaaGreatDoorMv15
namespace Go.Proofs.YtgfijlamhjjecaaGreatDoor
open Go.RowKit
/-- what comes in: bytes, and a mac behind them -/
def insO (M : List (List Str)) (q : Bool) (f t : Nat) (bs : Str) : Str := if q then bs ++ macM (keyAt M f t) bs else bs
theorem insO_len (M : List (List Str)) (q : Bool) (f t : Nat) (bs : Str) : (insO M q f t bs).length ≤ bs.length + 32 := by
  unfold insO
  split
  · rw [List.length_append, macM_len]; omega
  · omega
set_option maxRecDepth 100000 in
set_option maxHeartbeats 16000000 in
theorem sealOpens_walk {W : World} (hv : VarsOk W) (hK : VarsK W) (ia : Int) (wa : (Lit.int .i64 ia).wf = true) (more : Str) (mv : Value) (hm : RowAt (Low W) W mv (more.map bv)) (bs : Str) (sv2 : Value) (hs : RowAt (Low W) W sv2 (bs.map bv)) (sl : Bool) (ib : Int) (wb : (Lit.int .u8 ib).wf = true) (ic : Int) (wc : (Lit.int .u8 ic).wf = true) (id : Int) (wd : (Lit.int .u8 id).wf = true) : Calls Tryz.prog 8 #[.int .i64 ia, mv, sv2, .bool sl, .int .u8 ib, .int .u8 ic, .int .u8 id] W fun e w' => e = .returned (.bool true) ∧ Below W.heap.size W w' := by
  obtain ⟨C, hC⟩ : ∃ B, W.heap.size = B := ⟨_, rfl⟩
  have HCQ := Lib.hid hC
  have HVX : Hid (∀ u, Below C W u → VarsOk u ∧ VarsK u) := Lib.hid (fun u hu => ⟨hv.on hu (by rw [hC]; exact Nat.le_refl _), hK.on (by rw [hC]; exact hu)⟩)
  have HWX : Hid (∀ u, Below C W u → Calls Tryz.prog 27 #[] u fun e w' => e = .returned (.bool true) ∧ Below C W w') := Lib.hid (fun u hu => (lwakes_any u (HVX.out u hu).1 (HVX.out u hu).2).mono (fun e w' h => ⟨h.1, hu.trans (h.2.mono (below_le HCQ hu))⟩))
  have HM1 : Hid (RowAt (Low W) W mv (more.map bv)) := Lib.hid hm
  have HS1 : Hid (RowAt (Low W) W sv2 (bs.map bv)) := Lib.hid hs
  have HI : Hid (-9223372036854775808 ≤ ia ∧ ia ≤ 9223372036854775807) := Lib.hid ((Lit.wf_int_iff _ _).1 wa)
  have hib : (0 : Int) ≤ ib ∧ ib ≤ 255 := (Lit.wf_int_iff _ _).1 wb
  obtain ⟨fr_, rfl⟩ : ∃ n : Nat, ib = (n : Int) := ⟨ib.toNat, by omega⟩
  have hic : (0 : Int) ≤ ic ∧ ic ≤ 255 := (Lit.wf_int_iff _ _).1 wc
  obtain ⟨to_, rfl⟩ : ∃ n : Nat, ic = (n : Int) := ⟨ic.toNat, by omega⟩
  have hid' : (0 : Int) ≤ id ∧ id ≤ 255 := (Lit.wf_int_iff _ _).1 wd
  obtain ⟨who, rfl⟩ : ∃ n : Nat, id = (n : Int) := ⟨id.toNat, by omega⟩
  have HFTW : Hid (fr_ < 256 ∧ to_ < 256 ∧ who < 256) := Lib.hid ⟨by omega, by omega, by omega⟩
  obtain ⟨mo, mc, rfl, m1, m2⟩ := hm.form
  rw [List.length_map] at m1 HM1 ⊢
  unfold maxLen at m2
  obtain ⟨ml, hml⟩ : ∃ m, more.length = m := ⟨_, rfl⟩
  rw [hml] at m1 HM1 ⊢
  have HML := Lib.hid hml
  obtain ⟨so, sc, rfl, s1, s2⟩ := hs.form
  rw [List.length_map] at s1 HS1 ⊢
  unfold maxLen at s2
  obtain ⟨bl, hsl⟩ : ∃ m, bs.length = m := ⟨_, rfl⟩
  rw [hsl] at s1 HS1 ⊢
  have HBL := Lib.hid hsl
  have HB0 : Hid (Below C W W) := Lib.hid (Below.refl _ _)
  rw [hC]
  clear hv hK hC wa hm hml hs hsl hib wb hic wc hid' wd
  go_enter Tryz.func8, Tryz.ntmps8
  go_upto_region 1 with fail
  by_cases hbad : ia < 2 ∨ 8 < ia ∨ 60 < ml ∨ 2000 < bl
  · by_cases h2 : ia < 2
    · clear hbad
      go_wp2_with (go_at_call 27; go_loud (refine (HWX.out _ HB0.out).mono ?_); rintro e u ⟨rfl, hb⟩; have HBU := Lib.hid hb; clear hb)
      go_ret
      exact ⟨rfl, HBU.out⟩
    by_cases h8 : 8 < ia
    · clear hbad
      go_wp2_with (go_at_call 27; go_loud (refine (HWX.out _ HB0.out).mono ?_); rintro e u ⟨rfl, hb⟩; have HBU := Lib.hid hb; clear hb)
      go_ret
      exact ⟨rfl, HBU.out⟩
    by_cases h6' : 60 < ml
    · have h6 : (60 : Int) < (ml : Int) := by omega
      clear hbad
      go_wp2_with (go_at_call 27; go_loud (refine (HWX.out _ HB0.out).mono ?_); rintro e u ⟨rfl, hb⟩; have HBU := Lib.hid hb; clear hb)
      go_ret
      exact ⟨rfl, HBU.out⟩
    have h6 : ¬ (60 : Int) < (ml : Int) := by omega
    have h7 : (2000 : Int) < (bl : Int) := by omega
    clear hbad
    go_wp2_with (go_at_call 27; go_loud (refine (HWX.out _ HB0.out).mono ?_); rintro e u ⟨rfl, hb⟩; have HBU := Lib.hid hb; clear hb)
    go_ret
    exact ⟨rfl, HBU.out⟩
  · obtain ⟨n, rfl⟩ : ∃ n : Nat, ia = (n : Int) := ⟨ia.toNat, by omega⟩
    have g2 : ¬ (n : Int) < 2 := by omega
    have g8 : ¬ (8 : Int) < (n : Int) := by omega
    have g6 : ¬ (60 : Int) < (ml : Int) := by omega
    have g7 : ¬ (2000 : Int) < (bl : Int) := by omega
    have HBL2 : Hid (bl ≤ 2000) := Lib.hid (by omega)
    clear hbad
    have HNN : Hid (2 ≤ n ∧ n ≤ 8 ∧ ml ≤ 60) := Lib.hid (by omega)
    have HKY0 : Hid (Calls Tryz.prog 35 #[.int .i64 (n : Int), .slice mo ml mc] W fun e w' => KeysQ (keysM n more) W e w') := Lib.hid (lkeys_any (T := Low W) n HNN.out.2.1 more _ W HM1.out (fun k hk => hk) (by rw [HML.out]; exact HNN.out.2.2))
    have HKM : Hid (∀ i k, (keyAt (keysM n more) i k).length ≤ 1000) := Lib.hid (fun i k => Nat.le_trans (keyAt_le (by rw [HML.out]; exact HNN.out.2.2) i k) (by decide))
    have HGB : Hid (goodB (keysM n more) = true) := Lib.hid (goodB_keysM HNN.out.1 HNN.out.2.1 (by rw [HML.out]; exact HNN.out.2.2))
    have HKL : Hid ((keysM n more).length = n) := Lib.hid (keysM_len _ _)
    obtain ⟨M, hM⟩ : ∃ M, keysM n more = M := ⟨_, rfl⟩
    rw [hM] at HKY0 HKM HGB HKL
    unfold KeysQ at HKY0
    clear hM
    have HLR : Hid (∀ r ∈ M, r.length = n) := Lib.hid (fun r hr => by
      have h1 := HGB.out
      unfold goodB at h1
      simp only [Bool.and_eq_true, List.all_eq_true, decide_eq_true_eq] at h1
      rw [← HKL.out]; exact h1.1.2 r hr)
    go_upto_region 4 with (go_at_call 35; go_loud (refine HKY0.out.mono ?_); rintro e w2 ⟨kv, rfl, hko, hb⟩; have HB2 : Hid (Below C W w2) := Lib.hid (by rw [← HCQ.out]; exact hb); have HKB := Lib.hid hko.bsss; clear hko hb)
    obtain ⟨ka, kc, rfl, k1, k2⟩ := HKB.out.form
    rw [HKL.out] at HKB k1 ⊢
    unfold maxLen at k2
    have HNW := Lib.hid (gnew_any M (.slice ka n kc) w2 HKB.out (fun k hk => hk.2))
    go_upto_region 5 with (go_at_call 29; go_loud (refine HNW.out.mono ?_); rintro e w3 ⟨hg, _, hb⟩; obtain ⟨rb, rfl, hr⟩ := hg HGB.out; have HR3 := Lib.hid hr; have HU3 := Lib.hid hb; clear hg hr hb)
    have HB3 : Hid (Below C W w3) := Lib.hid (HB2.out.trans (HU3.out.mono (below_le HCQ HB2.out)))
    have HRN := Lib.hid (r11New_any M (.slice ka n kc) w3 (HKB.out.any (fun k hk => hk.2) HU3.out) (fun k hk => Nat.lt_of_lt_of_le hk.2 HU3.out.size))
    unfold RNewQ at HRN
    rw [HGB.out] at HRN
    go_upto_region 6 with (go_at_call 30; go_loud (refine HRN.out.mono ?_); rintro e w4 ⟨hq, hb⟩; obtain ⟨_, rb2, rfl, hr2, hrz⟩ | ⟨h1, _⟩ := hq; rotate_left; (focus cases h1); have HU4 := Lib.hid hb; have HR2 := Lib.hid hr2; clear hb hr2 hrz)
    have HB4 : Hid (Below C W w4) := Lib.hid (HB3.out.trans (HU4.out.mono (below_le HCQ HB3.out)))
    have HR4 : Hid (RingAt w4 w2.heap.size rb M) := Lib.hid (HR3.out.on HU4.out)
    have HK4 : Hid (BsssAt (fun k => k < w4.heap.size) w4 (.slice ka n kc) M) := Lib.hid ((HKB.out.any (fun k hk => hk.2) (HU3.out.trans (HU4.out.mono HU3.out.size))).cong (fun k hk => Nat.lt_of_lt_of_le hk.2 (Nat.le_trans HU3.out.size HU4.out.size)) (fun _ _ => rfl))
    have HS4 : Hid (RowAt (Low W) w4 (.slice so bl sc) (bs.map bv)) := Lib.hid (HS1.out.any (fun k hk => hk) (by rw [HCQ.out]; exact HB4.out))
    have HC4 : Hid (C ≤ w4.heap.size) := Lib.hid (below_le HCQ HB4.out)
    clear HKB HNW HRN HR3 HU3 HU4 HKY0 HB2 HB3 HGB
    go_upto_region 9 with ((with_reducible refine wpList_at (.call { callee := .builtin .append, args := #[.const (.slice none 0 0), .tmp 59], argTypes := #[72, 72] }) rfl ?_); refine wp_app_bytes (v := .slice none 0 0) (src := .slice so bl sc) rfl _ _ rfl rfl rfl (OwnS.nil w4 w4.heap.size) HS4.out (by rw [HBL.out]; have := HBL2.out; simp; omega) (Nat.le_refl _) ?_; intro iv w5 hO hgr _; have HO5 : Hid (OwnS w5 w4.heap.size iv bs) := Lib.hid hO; have HU5 : Hid (Below w4.heap.size w4 w5) := Lib.hid ((Below.refl _ w4).grown hgr (Nat.le_refl _) (fun b hb => by cases hb)); clear hO hgr)
    have HR5 : Hid (w5.heap[rb2]? = some (.cells #[.slice ka n kc] 141 (0, 0))) := Lib.hid ((HU5.out.block rb2 (Array.getElem?_eq_some_iff.1 HR2.out).1).trans HR2.out)
    have HRZ : Hid (rb2 < w4.heap.size) := Lib.hid (Array.getElem?_eq_some_iff.1 HR2.out).1
    have HCA : Hid (∀ (u : World) (c : Nat) (b : Bool), Below w4.heap.size w4 u → c < 256 → decide (c < n) = b → Calls Tryz.prog 33 #[.pointer (some ⟨rb2, 0, none⟩), .int .u8 (c : Int)] u fun e w' => e = .returned (.bool b) ∧ Below u.heap.size u w') := Lib.hid (fun u c b hu hc hd => (r11Carrier_any rb2 ka n kc c u ((hu.block rb2 HRZ.out).trans HR2.out) hc).mono (fun e w' h => ⟨by rw [h.1, hd], h.2⟩))
    obtain ⟨q, hq⟩ : ∃ q, (sl && (decide (fr_ < n) && decide (to_ < n))) = q := ⟨_, rfl⟩
    have HQQ := Lib.hid hq
    clear hq
    go_cut [71] (fun v71 wr => v71 = .bool q ∧ Hid (Below w5.heap.size w5 wr))
    case first => as_aux_lemma =>
      cases sl with
      | false =>
        go_wp2_with fail
        go_meet
        case rel => exact ⟨by rw [← HQQ.out]; rfl, Lib.hid (Below.refl _ _)⟩
      | true =>
        by_cases c1 : fr_ < n
        · have HCF := Lib.hid (HCA.out w5 fr_ true HU5.out HFTW.out.1 (decide_eq_true c1))
          have HDD := Lib.hid (decide_eq_true c1)
          go_wp2_with fail
          refine HCF.out.mono ?_
          rintro e w6 ⟨rfl, hb⟩
          have HB6 := Lib.hid hb
          have HCD := Lib.hid (HCA.out w6 to_ _ (HU5.out.trans (hb.mono HU5.out.size)) HFTW.out.2.1 rfl)
          clear hb c1
          obtain ⟨d, hd⟩ : ∃ d, decide (to_ < n) = d := ⟨_, rfl⟩
          rw [hd] at HCD
          have HDE := Lib.hid hd
          clear hd
          go_wp2_with fail
          refine HCD.out.mono ?_
          rintro e w7 ⟨rfl, hb⟩
          have HB7 : Hid (Below w5.heap.size w5 w7) := Lib.hid (HB6.out.trans (hb.mono HB6.out.size))
          clear hb
          go_wp2_with fail
          go_meet
          case rel => exact ⟨by rw [← HQQ.out, HDD.out, HDE.out]; rfl, HB7⟩
        · have HCF := Lib.hid (HCA.out w5 fr_ false HU5.out HFTW.out.1 (decide_eq_false c1))
          have HDD := Lib.hid (decide_eq_false c1)
          clear c1
          go_wp2_with fail
          refine HCF.out.mono ?_
          rintro e w6 ⟨rfl, hb⟩
          have HB6 := Lib.hid hb
          clear hb
          go_wp2_with fail
          go_meet
          case rel => exact ⟨by rw [← HQQ.out, HDD.out]; rfl, HB6⟩
    case rest => as_aux_lemma =>
      obtain ⟨rfl, HB6⟩ := hcut
      have HU6 : Hid (Below w4.heap.size w4 wc) := Lib.hid (HU5.out.trans (HB6.out.mono HU5.out.size))
      have HO6 : Hid (OwnS wc w4.heap.size iv bs) := Lib.hid (HO5.out.cong (fun k hk => HB6.out.block k hk))
      go_upto_if 71 with fail
      go_cut [19] (fun v19 wr => Hid (RowAt (fun b => b < wr.heap.size) wr v19 ((insO M q fr_ to_ bs).map bv)) ∧ Hid (Below w4.heap.size w4 wr))
      case first => as_aux_lemma =>
        cases q with
        | false =>
          go_wp2_with fail
          go_meet
          case rel => exact ⟨Lib.hid (HO6.out.rowAt.cong (fun k hk => hk.2) (fun _ _ => rfl)), HU6⟩
        | true =>
          obtain ⟨hf, ht⟩ : fr_ < n ∧ to_ < n := by
            have h := HQQ.out
            simp only [Bool.and_eq_true, decide_eq_true_eq] at h
            exact h.2
          have HBC : Hid (Below C W wc) := Lib.hid (HB4.out.trans (HU6.out.mono HC4.out))
          obtain ⟨r, hr⟩ : ∃ r, M[fr_]? = some r := ⟨_, List.getElem?_eq_getElem (by rw [HKL.out]; exact hf)⟩
          have hrl := HLR.out r (List.mem_of_getElem? hr)
          have htk := keyAt_get hr (show to_ < r.length by rw [hrl]; exact ht)
          have hks := HK4.out.any (fun k hk => hk) HU6.out
          obtain ⟨b1, o1, x1, rfl, hb1, cc1, hB1⟩ := hks.get hr
          obtain ⟨xa, xc, rfl, k3, k4⟩ := hB1.form
          rw [hrl] at hB1 cc1 k3
          unfold maxLen at k4
          obtain ⟨b2, o2, x2, rfl, hb2, cc2, hB2⟩ := hB1.get htk
          obtain ⟨key, hkey⟩ : ∃ key, keyAt M fr_ to_ = key := ⟨_, rfl⟩
          have hkl := HKM.out fr_ to_
          rw [hkey] at hB2 hkl
          obtain ⟨md, hmd⟩ : ∃ m, macM key bs = m := ⟨_, rfl⟩
          obtain ⟨cs, hcs⟩ : ∃ cs, md.map bv = cs := ⟨_, rfl⟩
          have HIN : Hid (insO M true fr_ to_ bs = bs ++ md) := Lib.hid (by unfold insO; rw [if_pos rfl, hkey, hmd])
          have HCS := Lib.hid hcs
          have HMLN : Hid (md.length = 32) := Lib.hid (by rw [← hmd, macM_len])
          have HCL : Hid (cs.length = 32) := Lib.hid (by rw [← hcs, List.length_map]; exact HMLN.out)
          have HCO : Hid (cs.all (·.oneCell') = true) := Lib.hid (by rw [← hcs]; exact bytes_one _)
          have hz6 := HU6.out.size
          have HSC : Hid (RowAt (Low W) wc (.slice so bl sc) (bs.map bv)) := Lib.hid (HS1.out.any (fun k hk => hk) (by rw [HCQ.out]; exact HBC.out))
          have HOF := Lib.hid (r2Of_any key bs x2 (.slice so bl sc) wc hB2 (fun k hk => by omega) HSC.out (fun k hk => Nat.lt_of_lt_of_le hk (by rw [HCQ.out]; exact below_le HCQ HBC.out)) (by omega) (by rw [HBL.out]; have := HBL2.out; omega))
          unfold DigQ at HOF
          rw [hmd, hcs] at HOF
          have i1 : (0 : Int) ≤ (fr_ : Int) := by omega
          have i2 : (fr_ : Int) < (n : Int) := by omega
          have i3 : (0 : Int) ≤ (to_ : Int) := by omega
          have i4 : (to_ : Int) < (n : Int) := by omega
          clear hr hrl htk hks hb1 hB1 hb2 hB2 hkey hkl hmd hcs hf ht
          go_upto_region 11 with (first
            | ((with_reducible refine wpList_at (.alloc 78) rfl ?_); go_loud (refine wpList_alloc_cells rfl _ rfl _ zero32 ?_))
            | ((with_reducible refine wpList_at (.store 78 (.tmp 20) (.tmp 80)) rfl ?_); go_loud (refine wpList_store_agg rfl _ _ _ rfl w7.heap.size 0 cs rfl rfl (by rw [HCL.out]; exact there_of (heap_alloc_new w7 (.cells (pad32 []).toArray 78)) 32 (by decide)) (by rw [HCL.out]; kernel_rfl) HCO.out ?_))
            | (go_at_call 34; go_loud (refine HOF.out.mono ?_); rintro e w7 ⟨rfl, hb⟩; have HB7 := Lib.hid hb; clear hb))
          obtain ⟨D, hD⟩ : ∃ D, w7.heap.size = D := ⟨_, rfl⟩
          obtain ⟨w8, hw8⟩ : ∃ u, w7.alloc (.cells (pad32 []).toArray 78) = u := ⟨_, rfl⟩
          obtain ⟨w9, hw9⟩ : ∃ u, w8.setCells D 0 cs = u := ⟨_, rfl⟩
          have hd8 : w8.heap[D]? = some (.cells (pad32 []).toArray 78 (0, 0)) := by rw [← hw8, ← hD]; exact heap_alloc_new _ _
          have hz7 := HB7.out.size
          obtain ⟨r1, r2⟩ := dig_put (B := wc.heap.size) (w := wc) HCL.out hd8 (by rw [← hw8]; exact HB7.out.alloc hz7 _) (by rw [← hD]; exact hz7) hw9
          have HO9 : Hid (OwnS w9 w4.heap.size iv bs) := Lib.hid (HO6.out.cong (fun k hk => r2.block k hk))
          have HU9 : Hid (Below w4.heap.size w4 w9) := Lib.hid (HU6.out.trans (r2.mono hz6))
          have HD9 : Hid (RowAt (fun k => k = D) w9 (.slice (some ⟨D, 0, none⟩) 32 32) (md.map bv)) := Lib.hid (by
            have h := row_lit (S := fun k => k = D) r1 rfl (by rw [HCL.out]; decide)
            rw [HCL.out, ← HCS.out] at h
            exact h)
          rw [hw8, hD, hw9]
          clear hD hw8 hw9 hd8 hz7 r1 r2 hz6 cc1 cc2 i1 i2 i3 i4 HOF HB7
          go_wp2_with ((with_reducible refine wpList_at (.call { callee := .builtin .append, args := #[.tmp 81, .tmp 82], argTypes := #[72, 72] }) rfl ?_); refine wp_app_bytes (v := iv) (src := .slice (some ⟨D, 0, none⟩) 32 32) rfl _ _ rfl rfl rfl HO9.out HD9.out (by rw [HBL.out, HMLN.out]; have := HBL2.out; omega) HU9.out.size ?_; intro v' w10 hO hgr _; have HO10 := Lib.hid hO; have HU10 : Hid (Below w4.heap.size w4 w10) := Lib.hid (below_grownO HU9.out HO9.out hgr HU9.out.size); clear hO hgr)
          go_meet
          case rel => exact ⟨Lib.hid (by rw [HIN.out]; exact HO10.out.rowAt.cong (fun k hk => hk.2) (fun _ _ => rfl)), HU10⟩
      case rest => as_aux_lemma =>
        obtain ⟨HV, HU7⟩ := hcut
        obtain ⟨ins, hins⟩ : ∃ l, insO M q fr_ to_ bs = l := ⟨_, rfl⟩
        have hil := insO_len M q fr_ to_ bs
        rw [hins] at HV hil
        obtain ⟨na, nc, rfl, n1, n2⟩ := HV.out.form
        obtain ⟨il, hie⟩ : ∃ m, ins.length = m := ⟨_, rfl⟩
        rw [List.length_map, hie] at n1 HV ⊢
        unfold maxLen at n2
        have HIE := Lib.hid hie
        have HIL : Hid (il ≤ 2032) := Lib.hid (by have := HBL2.out; rw [HBL.out] at hil; omega)
        have HBC : Hid (Below C W wc) := Lib.hid (HB4.out.trans (HU7.out.mono HC4.out))
        obtain ⟨wa, hwa⟩ : ∃ b : ByteArray, (⟨ins.toArray⟩ : ByteArray) = b := ⟨_, rfl⟩
        have hcv := conv_row HV.out
        rw [hwa] at hcv
        have HWA := Lib.hid hwa
        obtain ⟨Q, hQ⟩ : ∃ Q, openM M who ins = Q := ⟨_, rfl⟩
        obtain ⟨oq, oe⟩ := Q
        have HOQ := Lib.hid hQ
        have HOP := Lib.hid (gopen_any w2.heap.size rb M (by rw [HKL.out]; exact HNN.out.2.1) who HFTW.out.2.2 ins (.slice na il nc) wc (HR4.out.on HU7.out) HV.out (fun k hk => hk) (HVX.out _ HBC.out).1 (HVX.out _ HBC.out).2 (fun i k => Nat.le_trans (HKM.out i k) (by decide)) (by rw [hie]; have := HIL.out; omega))
        unfold OpenQ at HOP
        rw [hQ] at HOP
        clear hins hil hie hwa hQ HQQ HB6 HO6 HO5 HU6 HU5
        go_upto_region 14 with (first
          | ((with_reducible refine wpList_at (.store 38 (.tmp 22) _) rfl ?_); go_loud (refine wpList_store_agg rfl _ _ _ rfl w6.heap.size 0 (pktA oq) rfl rfl (there_of (heap_alloc_new w6 (.cells pkz.toArray 38)) 16 (by decide)) (by kernel_rfl) rfl ?_))
          | (go_at_call 36; go_loud (refine HOP.out.mono ?_); rintro e w6 ⟨rfl, hb⟩; have HB6 := Lib.hid hb; clear hb))
        obtain ⟨G, hG⟩ : ∃ D, w6.heap.size = D := ⟨_, rfl⟩
        obtain ⟨w7, hw7⟩ : ∃ u, w6.alloc (.cells pkz.toArray 38) = u := ⟨_, rfl⟩
        obtain ⟨w8, hw8⟩ : ∃ u, w7.setCells G 0 (pktA oq) = u := ⟨_, rfl⟩
        obtain ⟨q1, q2, q3⟩ := pkt_new w6 oq G hG w7 w8 hw7 hw8
        have HG8 := Lib.hid q1
        have HGZ := Lib.hid q3
        have HB8 : Hid (Below wc.heap.size wc w8) := Lib.hid (HB6.out.trans (q2.mono (by rw [← hG]; exact HB6.out.size)))
        have HU8 : Hid (Below w4.heap.size w4 w8) := Lib.hid (HU7.out.trans (HB8.out.mono HU7.out.size))
        have HV8 : Hid (RowAt (fun b => b < w8.heap.size) w8 (.slice na il nc) (ins.map bv)) := Lib.hid ((HV.out.any (fun k hk => hk) HB8.out).cong (fun k hk => Nat.lt_of_lt_of_le hk HB8.out.size) (fun _ _ => rfl))
        have hcv8 := conv_row HV8.out
        rw [HWA.out] at hcv8
        have d1 := str_same wa
        rw [show (w6.alloc (.cells #[.int .u8 0, .int .u8 0, .bool false, .int .u64 0, .int .u8 0, .int .u8 0, .int .u64 0, .int .u8 0, .int .u8 0, .int .u16 0, .int .u32 0, .int .i64 0, .int .u8 0, .int .u32 0, .int .i64 0, .int .i64 0] 38)) = w7 from hw7, hG, hw8]
        clear hG hw7 hw8 q1 q2 q3 hcv HB6 HOP HV HU7
        go_upto_region 17 with fail
        clear hcv8 d1
        go_upto_region 18 with fail
        obtain ⟨E, hE⟩ : ∃ D, w8.heap.size = D := ⟨_, rfl⟩
        obtain ⟨w9, hw9⟩ : ∃ u, w8.alloc (.cells pkz.toArray 38) = u := ⟨_, rfl⟩
        have HQ9 : Hid (w9.heap[E]? = some (.cells pkz.toArray 38 (0, 0))) := Lib.hid (by rw [← hw9, ← hE]; exact heap_alloc_new _ _)
        have HB9 : Hid (Below E w8 w9) := Lib.hid (by rw [← hw9, ← hE]; exact (Below.refl _ _).alloc (Nat.le_refl _) _)
        have HEQ := Lib.hid hE
        rw [show (w8.alloc (.cells #[.int .u8 0, .int .u8 0, .bool false, .int .u64 0, .int .u8 0, .int .u8 0, .int .u64 0, .int .u8 0, .int .u8 0, .int .u16 0, .int .u32 0, .int .i64 0, .int .u8 0, .int .u32 0, .int .i64 0, .int .i64 0] 38)) = w9 from hw9, hE]
        have HE4 : Hid (w4.heap.size ≤ E) := Lib.hid (by rw [← hE]; exact HU8.out.size)
        have HUX : Hid (∀ u, Below E w8 u → Below w4.heap.size w4 u ∧ Below C W u) := Lib.hid (fun u hu => by
          have h1 := HU8.out.trans (hu.mono HE4.out)
          exact ⟨h1, HB4.out.trans (h1.mono HC4.out)⟩)
        have HVX8 : Hid (∀ u, Below E w8 u → RowAt (fun b => b < E) u (.slice na il nc) (ins.map bv)) := Lib.hid (fun u hu => HV8.out.cong (fun k hk => by rw [← hE]; exact hk) (fun k hk => hu.block k (by rw [← hE]; exact hk)))
        clear hw9 hE
        obtain ⟨cw, hcw⟩ : ∃ b, decide (who < n) = b := ⟨_, rfl⟩
        have HCW := Lib.hid hcw
        have HCW9 := Lib.hid (HCA.out w9 who cw (HUX.out w9 HB9.out).1 HFTW.out.2.2 hcw)
        have HEZ : Hid (E < w9.heap.size) := Lib.hid (Array.getElem?_eq_some_iff.1 HQ9.out).1
        clear hcw
        go_upto_if 100 with (go_at_call 33; go_loud (refine HCW9.out.mono ?_); rintro e w10 ⟨rfl, hb⟩; have HB10 : Hid (Below E w8 w10) := Lib.hid (HB9.out.trans (hb.mono (Nat.le_of_lt HEZ.out))); have HQ10 : Hid (w10.heap[E]? = some (.cells pkz.toArray 38 (0, 0))) := Lib.hid ((hb.block E HEZ.out).trans HQ9.out); clear hb)
        go_cut [24] (fun v24 wx => v24 = .int .i64 oe ∧ Hid (wx.heap[E]? = some (.cells (pktA oq).toArray 38 (0, 0))) ∧ Hid (Below E w8 wx))
        case first => as_aux_lemma =>
          cases cw with
          | false =>
            have hq : (pd0, (1 : Int)) = (oq, oe) := by rw [← HOQ.out]; unfold openM; rw [if_pos (by rw [HKL.out]; exact Nat.not_lt.1 (of_decide_eq_false HCW.out))]
            injection hq with h1 h2
            subst h1 h2
            go_wp2_with fail
            go_meet
            case rel => exact ⟨rfl, HQ10, HB10⟩
          | true =>
            have HWN : Hid (who < n) := Lib.hid (of_decide_eq_true HCW.out)
            go_upto_region 20 with fail
            by_cases h32 : il < 32
            · have b1 : (il : Int) < 32 := by omega
              have hq : (pd0, (110 : Int)) = (oq, oe) := by rw [← HOQ.out]; unfold openM; rw [if_neg (by rw [HKL.out]; have := HWN.out; omega), if_pos (by rw [HIE.out]; exact h32)]
              injection hq with h1 h2
              subst h1 h2
              refine wp_region_plan [(0, false), (1, false), (2, false), (3, false), (4, false), (5, false), (6, false), (7, false), (8, false), (9, false), (10, false), (11, false), (12, false), (13, false), (14, false), (15, false), (16, false), (17, false), (18, false)] (fun u => True) (by kernel_rfl) (by kernel_rfl) trivial ?_
              iterate 4 (refine' plan_val rfl rfl (fun w' hS => ?_) ?_; rotate_left; (focus (first | (go_simp; rfl) | (go_simp; done))); simp only [Act.put, List.setIfInBounds_toArray, List.set_cons_zero, List.set_cons_succ])
              iterate 14 (refine plan_skip rfl rfl ?_; simp only [Act.put, List.setIfInBounds_toArray, List.set_cons_zero, List.set_cons_succ])
              iterate 1 (refine' plan_val rfl rfl (fun w' hS => ?_) ?_; rotate_left; (focus (first | (go_simp; rfl) | (go_simp; done))); simp only [Act.put, List.setIfInBounds_toArray, List.set_cons_zero, List.set_cons_succ])
              refine plan_nil ?_
              go_wp2_with fail
              go_meet
              case rel => exact ⟨rfl, HQ10, Lib.hid HB10.out.drew⟩
            · have b1 : ¬ (il : Int) < 32 := by omega
              obtain ⟨cu, hcu⟩ : ∃ c, il - 32 = c := ⟨_, rfl⟩
              have g1 : IntKind.i64.wrap ((il : Int) - 32) = (cu : Int) := by have := HIL.out; rw [IntWalk.i64_in _ (by omega)]; omega
              have g2' : (il : Int) - 32 = (cu : Int) := by omega
              have g3 : cu ≤ il := by omega
              have g4 : wa.size = il := by rw [← HWA.out, ← HIE.out]; rfl
              obtain ⟨gb, gof, rfl, hgb, _⟩ := HV8.out.get (k := 0) (x := bv (ins.getD 0 0)) (by rw [List.getElem?_map, List.getD_eq_getElem?_getD, List.getElem?_eq_getElem (by rw [HIE.out]; omega)]; rfl)
              have HXT : Hid ((wa.extract 0 cu).data.toList = cutT ins) := Lib.hid (by
                have h1 : wa.data.toList = ins := by rw [← HWA.out]
                rw [ByteArray.data_extract, Array.toList_extract, h1, List.extract_eq_take_drop]
                unfold cutT
                rw [HIE.out, hcu]
                simp)
              have hts : (wa.extract 0 cu).size ≤ 2032 := by have := HIL.out; rw [ByteArray.size_extract]; omega
              obtain ⟨tx, htx⟩ : ∃ b, wa.extract 0 cu = b := ⟨_, rfl⟩
              rw [htx] at HXT hts
              have g5 : il - cu = 32 := by omega
              have HDR : Hid (∀ u, Below E w8 u → RowAt (fun b => b < E) u (.slice (some ⟨gb, gof + cu, none⟩) 32 (nc - cu)) ((cutD ins).map bv)) := Lib.hid (fun u hu => by
                have h1 := (HVX8.out u hu).dropAt g3
                rw [g5, ← List.map_drop] at h1
                unfold cutD
                rw [HIE.out, hcu]
                exact h1)
              obtain ⟨r, hr⟩ : ∃ r, someR M who (cutT ins) (cutD ins) n = r := ⟨_, rfl⟩
              have HAN : Hid (∀ u, Below E w8 u → Calls Tryz.prog 37 #[.pointer (some ⟨rb2, 0, none⟩), .int .u8 (who : Int), .string tx, .slice (some ⟨gb, gof + cu, none⟩) 32 (nc - cu)] u fun e w' => e = .returned (.bool r) ∧ Below u.heap.size u w') := Lib.hid (fun u hu => by
                have h4 := (HUX.out u hu).1
                have h := r11Any_any M (.slice ka n kc) rb2 who tx (.slice (some ⟨gb, gof + cu, none⟩) 32 (nc - cu)) (cutD ins) u ((h4.block rb2 HRZ.out).trans HR2.out) (HK4.out.any (fun k hk => hk) h4) (fun k hk => Nat.lt_of_lt_of_le hk h4.size) (HDR.out u hu) (fun k hk => Nat.lt_of_lt_of_le hk (by rw [← HEQ.out]; exact hu.size)) (fun r hr => by rw [HKL.out]; exact HLR.out r hr) (by rw [HKL.out]; exact HNN.out.2.1) (fun i _ _ => HKM.out i who) (by rw [HKL.out]; exact HWN.out) (by omega)
                rw [HXT.out, HKL.out, hr] at h
                exact h)
              have HRR := Lib.hid hr
              have b3 : (32 : Int) ≤ (il : Int) := by omega
              have gw : IntKind.i64.wrap (cu : Int) = (cu : Int) := IntWalk.i64_in _ (by have := HIL.out; omega)
              have b4 : (0 : Int) ≤ (cu : Int) := by omega
              have b5 : (cu : Int) ≤ (il : Int) := by omega
              have HTS : Hid (tx.size ≤ 1000000000) := Lib.hid (by omega)
              clear hr hcu hts hgb
              go_cut [119] (fun v wx => v = .bool (!r) ∧ Hid (wx.heap[E]? = some (.cells pkz.toArray 38 (0, 0))) ∧ Hid (Below E w8 wx))
              case first => as_aux_lemma =>
                refine wp_region_plan [(0, false), (1, false), (2, false), (3, false), (4, false), (5, false), (6, false), (7, false), (8, false), (9, false), (10, false), (11, false), (12, false), (13, false), (14, false), (15, false), (16, true), (17, false), (18, false)] (fun u => Below E w8 u ∧ u.heap[E]? = some (.cells pkz.toArray 38 (0, 0))) (by kernel_rfl) (by kernel_rfl) ⟨HB10.out.drew, HQ10.out⟩ ?_
                iterate 16 (refine' plan_val rfl rfl (fun w' hS => ?_) ?_; rotate_left; (focus (first | (go_simp; rfl) | (go_simp; done))); simp only [Act.put, List.setIfInBounds_toArray, List.set_cons_zero, List.set_cons_succ])
                refine plan_do rfl (fun K hK => ?_)
                go_wp2_with (go_at_call 37; go_loud (refine (HAN.out _ HB10.out.drew).mono ?_); rintro e wy ⟨rfl, hb⟩; have HBY := Lib.hid hb; clear hb)
                have HB11 : Hid (Below E w8 wy) := Lib.hid (HB10.out.drew.trans (HBY.out.mono (by rw [← HEQ.out]; exact HB10.out.size)))
                have HQ11 : Hid (wy.heap[E]? = some (.cells pkz.toArray 38 (0, 0))) := Lib.hid ((HBY.out.block E (Array.getElem?_eq_some_iff.1 HQ10.out).1).trans HQ10.out)
                refine hK _ _ ⟨HB11.out, HQ11.out⟩ ?_
                clear hK K
                iterate 2 (refine' plan_val rfl rfl (fun w' hS => ?_) ?_; rotate_left; (focus (first | (go_simp; rfl) | (go_simp; done))); simp only [Act.put, List.setIfInBounds_toArray, List.set_cons_zero, List.set_cons_succ])
                refine plan_nil ?_
                go_wp2_with fail
                go_meet
                case rel => exact ⟨rfl, HQ11, HB11⟩
              case rest => as_aux_lemma =>
                obtain ⟨rfl, HQ12, HB12⟩ := hcut
                cases r with
                | false =>
                  have hq : (pd0, (110 : Int)) = (oq, oe) := by rw [← HOQ.out]; unfold openM; rw [if_neg (by rw [HKL.out]; have := HWN.out; omega), if_neg (by rw [HIE.out]; exact h32), HKL.out, if_pos HRR.out]
                  injection hq with h1 h2
                  subst h1 h2
                  go_wp2_with fail
                  go_meet
                  case rel => exact ⟨rfl, HQ12, HB12⟩
                | true =>
                  obtain ⟨T, hT⟩ : ∃ T, parseTM (cutT ins) = T := ⟨_, rfl⟩
                  obtain ⟨y, g⟩ := T
                  have HPT := Lib.hid hT
                  have HPM := Lib.hid (mParse_is (s := tx) (w := wc) (q := y) (k := g) (HVX.out _ (HUX.out _ HB12.out).2).1 (by rw [HXT.out]; exact hT))
                  unfold MPQ at HPM
                  clear hT HQ10 HB10 HQ9 HB9
                  go_upto_region 23 with (first
                    | ((with_reducible refine wpList_at (.store 38 (.tmp 25) _) rfl ?_); go_loud (refine wpList_store_agg rfl _ _ _ rfl E 0 (pktA y) rfl rfl (there_of HQ13.out 16 (by decide)) (by kernel_rfl) rfl ?_))
                    | (go_at_call 23; go_loud (refine HPM.out.mono ?_); rintro e w13 ⟨rfl, hb⟩; have HB13 : Hid (Below E w8 w13) := Lib.hid (HB12.out.trans (hb.mono (Nat.le_of_lt (Array.getElem?_eq_some_iff.1 HQ12.out).1))); have HQ13 : Hid (w13.heap[E]? = some (.cells pkz.toArray 38 (0, 0))) := Lib.hid ((hb.block E (Array.getElem?_eq_some_iff.1 HQ12.out).1).trans HQ12.out); clear hb))
                  obtain ⟨w14, hw14⟩ : ∃ u, w13.setCells E 0 (pktA y) = u := ⟨_, rfl⟩
                  have HQ14 : Hid (w14.heap[E]? = some (.cells (pktA y).toArray 38 (0, 0))) := Lib.hid (by rw [← hw14]; exact putL_heap (cs := pkz) HQ13.out (pktA y) rfl)
                  have HB14 : Hid (Below E w8 w14) := Lib.hid (by rw [← hw14]; exact putL_below (Nat.le_refl _) _ _ _ HB13.out)
                  rw [hw14]
                  clear hw14 HPM HQ13 HB13 HQ12 HB12
                  have HQU : Hid (∀ u : World, u.heap[E]? = some (.cells (pktA y).toArray 38 (0, 0)) → u.cell? ⟨E, 0, none⟩ = some (.int .u8 (y.fr : Int)) ∧ u.cell? ⟨E, 1, none⟩ = some (.int .u8 (y.dst : Int))) := Lib.hid (fun u h1 => ⟨(cell_of_row u E 0 _ _ _ h1).trans rfl, (cell_of_row u E 1 _ _ _ h1).trans rfl⟩)
                  obtain ⟨c, hc⟩ : ∃ c, (decide (g = 0) && (decide (y.dst ≠ who) || !(rightM M y.fr who (cutT ins) (cutD ins)))) = c := ⟨_, rfl⟩
                  have HCC := Lib.hid hc
                  clear hc
                  go_cut [167] (fun v wx => v = .bool c ∧ Hid (wx.heap[E]? = some (.cells (pktA y).toArray 38 (0, 0))) ∧ Hid (Below E w8 wx))
                  case first => as_aux_lemma =>
                    by_cases hg : g = 0
                    · subst hg
                      have HOK := Lib.hid (parseTM_ok HPT.out)
                      by_cases h1 : y.dst = who
                      · have n1 : ((y.dst : Int) != (who : Int)) = false := by rw [h1]; simp
                        have HCX : Hid (∀ b, decide (y.fr < n) = b → Calls Tryz.prog 33 #[.pointer (some ⟨rb2, 0, none⟩), .int .u8 (y.fr : Int)] w14.drew fun e w' => e = .returned (.bool b) ∧ Below w14.heap.size w14 w') := Lib.hid (fun b hb => (HCA.out w14.drew y.fr b (HUX.out _ HB14.out.drew).1 HOK.out.fr hb).mono (fun e w' h => ⟨h.1, (Below.refl _ _).drew.trans h.2⟩))
                        have HEZ14 : Hid (E < w14.heap.size) := Lib.hid (Array.getElem?_eq_some_iff.1 HQ14.out).1
                        by_cases h2 : y.fr < n
                        · have HCY := Lib.hid (HCX.out true (decide_eq_true h2))
                          by_cases h3 : y.fr = who
                          · have n2 : ((y.fr : Int) == (who : Int)) = true := by rw [h3]; simp
                            have HCF : Hid (c = true) := Lib.hid (by rw [← HCC.out]; unfold rightM; rw [decide_eq_false (show ¬ (y.fr < M.length ∧ who < M.length ∧ y.fr ≠ who) from fun h => h.2.2 h3)]; simp)
                            clear h1 h2 h3 HCX
                            refine wp_region_plan [(0, false), (1, false), (2, false), (3, false), (4, false), (5, false), (6, false), (7, false), (8, false), (9, false), (10, false), (11, true), (12, false), (13, false), (14, false), (15, false), (16, false), (17, false), (18, false), (19, false), (20, false), (21, false), (22, false), (23, false), (24, false), (25, false), (26, false), (27, false), (28, false), (29, false), (30, false), (31, false), (32, false), (33, false), (34, false), (35, false), (36, false), (37, false), (38, false)] (fun u => Below E w8 u ∧ u.heap[E]? = some (.cells (pktA y).toArray 38 (0, 0))) (by kernel_rfl) (by kernel_rfl) ⟨HB14.out.drew, HQ14.out⟩ ?_
                            iterate 11 (refine' plan_val rfl rfl (fun w' hS => ?_) ?_; rotate_left; (focus (obtain ⟨e0, e1⟩ := HQU.out w' hS.2; first | (go_simp; rfl) | (go_simp; done))); simp only [Act.put, List.setIfInBounds_toArray, List.set_cons_zero, List.set_cons_succ])
                            refine plan_do rfl (fun K hK => ?_)
                            go_wp2_with (go_at_call 33; go_loud (refine HCY.out.mono ?_); rintro e wy ⟨rfl, hb⟩; have HB15 : Hid (Below E w8 wy) := Lib.hid (HB14.out.trans (hb.mono (Nat.le_of_lt HEZ14.out))); have HQ15 : Hid (wy.heap[E]? = some (.cells (pktA y).toArray 38 (0, 0))) := Lib.hid ((hb.block E HEZ14.out).trans HQ14.out); clear hb)
                            refine hK _ _ ⟨HB15.out, HQ15.out⟩ ?_
                            clear hK K
                            iterate 9 (refine' plan_val rfl rfl (fun w' hS => ?_) ?_; rotate_left; (focus (obtain ⟨e0, e1⟩ := HQU.out w' hS.2; first | (go_simp; rfl) | (go_simp; done))); simp only [Act.put, List.setIfInBounds_toArray, List.set_cons_zero, List.set_cons_succ])
                            iterate 16 (refine plan_skip rfl rfl ?_; simp only [Act.put, List.setIfInBounds_toArray, List.set_cons_zero, List.set_cons_succ])
                            iterate 2 (refine' plan_val rfl rfl (fun w' hS => ?_) ?_; rotate_left; (focus (obtain ⟨e0, e1⟩ := HQU.out w' hS.2; first | (go_simp; rfl) | (go_simp; done))); simp only [Act.put, List.setIfInBounds_toArray, List.set_cons_zero, List.set_cons_succ])
                            refine plan_nil ?_
                            go_wp2_with fail
                            go_meet
                            case rel => exact ⟨by rw [HCF.out], HQ15, HB15⟩
                          · have n2 : ((y.fr : Int) == (who : Int)) = false := by rw [beq_eq_false_iff_ne]; omega
                            obtain ⟨q3, hq3⟩ : ∃ q, decide (macM (keyAt M y.fr who) (cutT ins) = cutD ins) = q := ⟨_, rfl⟩
                            have HCF : Hid (c = !q3) := Lib.hid (by rw [← HCC.out]; unfold rightM; rw [decide_eq_true (show y.fr < M.length ∧ who < M.length ∧ y.fr ≠ who from ⟨by rw [HKL.out]; exact h2, by rw [HKL.out]; exact HWN.out, h3⟩), hq3, decide_eq_false (show ¬ (y.dst ≠ who) from fun h => h h1)]; simp)
                            obtain ⟨rr, hrr⟩ : ∃ r, M[y.fr]? = some r := ⟨_, List.getElem?_eq_getElem (by rw [HKL.out]; exact h2)⟩
                            have htk := keyAt_get hrr (show who < rr.length by rw [HLR.out rr (List.mem_of_getElem? hrr)]; exact HWN.out)
                            have HRT : Hid (∀ u, Below E w8 u → Calls Tryz.prog 38 #[.pointer (some ⟨rb2, 0, none⟩), .int .u8 (y.fr : Int), .int .u8 (who : Int), .string tx, .slice (some ⟨gb, gof + cu, none⟩) 32 (nc - cu)] u fun e w' => e = .returned (.bool q3) ∧ Below u.heap.size u w') := Lib.hid (fun u hu => by
                              have h4 := (HUX.out u hu).1
                              have h := r11Right_any M (.slice ka n kc) rb2 y.fr who rr (keyAt M y.fr who) tx (.slice (some ⟨gb, gof + cu, none⟩) 32 (nc - cu)) (cutD ins) u ((h4.block rb2 HRZ.out).trans HR2.out) (HK4.out.any (fun k hk => hk) h4) (fun k hk => Nat.lt_of_lt_of_le hk h4.size) (HDR.out u hu) (fun k hk => Nat.lt_of_lt_of_le hk (by rw [← HEQ.out]; exact hu.size)) hrr htk HOK.out.fr HFTW.out.2.2 (HKM.out _ _) HTS.out
                              rw [HXT.out, hq3] at h
                              exact h)
                            clear h1 h2 h3 HCX hrr htk hq3
                            refine wp_region_plan [(0, false), (1, false), (2, false), (3, false), (4, false), (5, false), (6, false), (7, false), (8, false), (9, false), (10, false), (11, true), (12, false), (13, false), (14, false), (15, false), (16, false), (17, false), (18, false), (19, false), (20, false), (21, false), (22, false), (23, false), (24, false), (25, false), (26, false), (27, false), (28, false), (29, false), (30, false), (31, false), (32, false), (33, false), (34, false), (35, true), (36, false), (37, false), (38, false)] (fun u => Below E w8 u ∧ u.heap[E]? = some (.cells (pktA y).toArray 38 (0, 0))) (by kernel_rfl) (by kernel_rfl) ⟨HB14.out.drew, HQ14.out⟩ ?_
                            iterate 11 (refine' plan_val rfl rfl (fun w' hS => ?_) ?_; rotate_left; (focus (obtain ⟨e0, e1⟩ := HQU.out w' hS.2; first | (go_simp; rfl) | (go_simp; done))); simp only [Act.put, List.setIfInBounds_toArray, List.set_cons_zero, List.set_cons_succ])
                            refine plan_do rfl (fun K hK => ?_)
                            go_wp2_with (go_at_call 33; go_loud (refine HCY.out.mono ?_); rintro e wy ⟨rfl, hb⟩; have HB15 : Hid (Below E w8 wy) := Lib.hid (HB14.out.trans (hb.mono (Nat.le_of_lt HEZ14.out))); have HQ15 : Hid (wy.heap[E]? = some (.cells (pktA y).toArray 38 (0, 0))) := Lib.hid ((hb.block E HEZ14.out).trans HQ14.out); clear hb)
                            refine hK _ _ ⟨HB15.out, HQ15.out⟩ ?_
                            clear hK K
                            iterate 23 (refine' plan_val rfl rfl (fun w' hS => ?_) ?_; rotate_left; (focus (obtain ⟨e0, e1⟩ := HQU.out w' hS.2; first | (go_simp; rfl) | (go_simp; done))); simp only [Act.put, List.setIfInBounds_toArray, List.set_cons_zero, List.set_cons_succ])
                            refine plan_do rfl (fun K hK => ?_)
                            go_wp2_with (go_at_call 38; go_loud (refine (HRT.out _ HB15.out).mono ?_); rintro e wz ⟨rfl, hb⟩; have HB16 : Hid (Below E w8 wz) := Lib.hid (HB15.out.trans (hb.mono (Nat.le_of_lt (Array.getElem?_eq_some_iff.1 HQ15.out).1))); have HQ16 : Hid (wz.heap[E]? = some (.cells (pktA y).toArray 38 (0, 0))) := Lib.hid ((hb.block E (Array.getElem?_eq_some_iff.1 HQ15.out).1).trans HQ15.out); clear hb)
                            refine hK _ _ ⟨HB16.out, HQ16.out⟩ ?_
                            clear hK K
                            iterate 3 (refine' plan_val rfl rfl (fun w' hS => ?_) ?_; rotate_left; (focus (obtain ⟨e0, e1⟩ := HQU.out w' hS.2; first | (go_simp; rfl) | (go_simp; done))); simp only [Act.put, List.setIfInBounds_toArray, List.set_cons_zero, List.set_cons_succ])
                            refine plan_nil ?_
                            go_wp2_with fail
                            go_meet
                            case rel => exact ⟨by rw [HCF.out], HQ16, HB16⟩
                        · have HCY := Lib.hid (HCX.out false (decide_eq_false h2))
                          have HCF : Hid (c = true) := Lib.hid (by rw [← HCC.out]; unfold rightM; rw [decide_eq_false (show ¬ (y.fr < M.length ∧ who < M.length ∧ y.fr ≠ who) from fun h => h2 (by rw [← HKL.out]; exact h.1))]; simp)
                          clear h1 h2 HCX
                          refine wp_region_plan [(0, false), (1, false), (2, false), (3, false), (4, false), (5, false), (6, false), (7, false), (8, false), (9, false), (10, false), (11, true), (12, false), (13, false), (14, false), (15, false), (16, false), (17, false), (18, false), (19, false), (20, false), (21, false), (22, false), (23, false), (24, false), (25, false), (26, false), (27, false), (28, false), (29, false), (30, false), (31, false), (32, false), (33, false), (34, false), (35, false), (36, false), (37, false), (38, false)] (fun u => Below E w8 u ∧ u.heap[E]? = some (.cells (pktA y).toArray 38 (0, 0))) (by kernel_rfl) (by kernel_rfl) ⟨HB14.out.drew, HQ14.out⟩ ?_
                          iterate 11 (refine' plan_val rfl rfl (fun w' hS => ?_) ?_; rotate_left; (focus (obtain ⟨e0, e1⟩ := HQU.out w' hS.2; first | (go_simp; rfl) | (go_simp; done))); simp only [Act.put, List.setIfInBounds_toArray, List.set_cons_zero, List.set_cons_succ])
                          refine plan_do rfl (fun K hK => ?_)
                          go_wp2_with (go_at_call 33; go_loud (refine HCY.out.mono ?_); rintro e wy ⟨rfl, hb⟩; have HB15 : Hid (Below E w8 wy) := Lib.hid (HB14.out.trans (hb.mono (Nat.le_of_lt HEZ14.out))); have HQ15 : Hid (wy.heap[E]? = some (.cells (pktA y).toArray 38 (0, 0))) := Lib.hid ((hb.block E HEZ14.out).trans HQ14.out); clear hb)
                          refine hK _ _ ⟨HB15.out, HQ15.out⟩ ?_
                          clear hK K
                          iterate 3 (refine' plan_val rfl rfl (fun w' hS => ?_) ?_; rotate_left; (focus (obtain ⟨e0, e1⟩ := HQU.out w' hS.2; first | (go_simp; rfl) | (go_simp; done))); simp only [Act.put, List.setIfInBounds_toArray, List.set_cons_zero, List.set_cons_succ])
                          iterate 4 (refine plan_skip rfl rfl ?_; simp only [Act.put, List.setIfInBounds_toArray, List.set_cons_zero, List.set_cons_succ])
                          iterate 2 (refine' plan_val rfl rfl (fun w' hS => ?_) ?_; rotate_left; (focus (obtain ⟨e0, e1⟩ := HQU.out w' hS.2; first | (go_simp; rfl) | (go_simp; done))); simp only [Act.put, List.setIfInBounds_toArray, List.set_cons_zero, List.set_cons_succ])
                          iterate 16 (refine plan_skip rfl rfl ?_; simp only [Act.put, List.setIfInBounds_toArray, List.set_cons_zero, List.set_cons_succ])
                          iterate 2 (refine' plan_val rfl rfl (fun w' hS => ?_) ?_; rotate_left; (focus (obtain ⟨e0, e1⟩ := HQU.out w' hS.2; first | (go_simp; rfl) | (go_simp; done))); simp only [Act.put, List.setIfInBounds_toArray, List.set_cons_zero, List.set_cons_succ])
                          refine plan_nil ?_
                          go_wp2_with fail
                          go_meet
                          case rel => exact ⟨by rw [HCF.out], HQ15, HB15⟩
                      · have n1 : ((y.dst : Int) != (who : Int)) = true := by rw [bne_iff_ne]; omega
                        have HCF : Hid (c = true) := Lib.hid (by rw [← HCC.out, decide_eq_true h1]; simp)
                        clear h1
                        refine wp_region_plan [(0, false), (1, false), (2, false), (3, false), (4, false), (5, false), (6, false), (7, false), (8, false), (9, false), (10, false), (11, false), (12, false), (13, false), (14, false), (15, false), (16, false), (17, false), (18, false), (19, false), (20, false), (21, false), (22, false), (23, false), (24, false), (25, false), (26, false), (27, false), (28, false), (29, false), (30, false), (31, false), (32, false), (33, false), (34, false), (35, false), (36, false), (37, false), (38, false)] (fun u => Below E w8 u ∧ u.heap[E]? = some (.cells (pktA y).toArray 38 (0, 0))) (by kernel_rfl) (by kernel_rfl) ⟨HB14.out.drew, HQ14.out⟩ ?_
                        iterate 8 (refine' plan_val rfl rfl (fun w' hS => ?_) ?_; rotate_left; (focus (obtain ⟨e0, e1⟩ := HQU.out w' hS.2; first | (go_simp; rfl) | (go_simp; done))); simp only [Act.put, List.setIfInBounds_toArray, List.set_cons_zero, List.set_cons_succ])
                        iterate 5 (refine plan_skip rfl rfl ?_; simp only [Act.put, List.setIfInBounds_toArray, List.set_cons_zero, List.set_cons_succ])
                        iterate 2 (refine' plan_val rfl rfl (fun w' hS => ?_) ?_; rotate_left; (focus (obtain ⟨e0, e1⟩ := HQU.out w' hS.2; first | (go_simp; rfl) | (go_simp; done))); simp only [Act.put, List.setIfInBounds_toArray, List.set_cons_zero, List.set_cons_succ])
                        iterate 4 (refine plan_skip rfl rfl ?_; simp only [Act.put, List.setIfInBounds_toArray, List.set_cons_zero, List.set_cons_succ])
                        iterate 2 (refine' plan_val rfl rfl (fun w' hS => ?_) ?_; rotate_left; (focus (obtain ⟨e0, e1⟩ := HQU.out w' hS.2; first | (go_simp; rfl) | (go_simp; done))); simp only [Act.put, List.setIfInBounds_toArray, List.set_cons_zero, List.set_cons_succ])
                        iterate 16 (refine plan_skip rfl rfl ?_; simp only [Act.put, List.setIfInBounds_toArray, List.set_cons_zero, List.set_cons_succ])
                        iterate 2 (refine' plan_val rfl rfl (fun w' hS => ?_) ?_; rotate_left; (focus (obtain ⟨e0, e1⟩ := HQU.out w' hS.2; first | (go_simp; rfl) | (go_simp; done))); simp only [Act.put, List.setIfInBounds_toArray, List.set_cons_zero, List.set_cons_succ])
                        refine plan_nil ?_
                        go_wp2_with fail
                        go_meet
                        case rel => exact ⟨by rw [HCF.out], HQ14, Lib.hid HB14.out.drew⟩
                    · have n0 : (g == 0) = false := by rw [beq_eq_false_iff_ne]; exact hg
                      have HCF : Hid (c = false) := Lib.hid (by rw [← HCC.out, decide_eq_false hg]; rfl)
                      clear hg
                      refine wp_region_plan [(0, false), (1, false), (2, false), (3, false), (4, false), (5, false), (6, false), (7, false), (8, false), (9, false), (10, false), (11, false), (12, false), (13, false), (14, false), (15, false), (16, false), (17, false), (18, false), (19, false), (20, false), (21, false), (22, false), (23, false), (24, false), (25, false), (26, false), (27, false), (28, false), (29, false), (30, false), (31, false), (32, false), (33, false), (34, false), (35, false), (36, false), (37, false), (38, false)] (fun u => Below E w8 u ∧ u.heap[E]? = some (.cells (pktA y).toArray 38 (0, 0))) (by kernel_rfl) (by kernel_rfl) ⟨HB14.out.drew, HQ14.out⟩ ?_
                      iterate 3 (refine' plan_val rfl rfl (fun w' hS => ?_) ?_; rotate_left; (focus (obtain ⟨e0, e1⟩ := HQU.out w' hS.2; first | (go_simp; rfl) | (go_simp; done))); simp only [Act.put, List.setIfInBounds_toArray, List.set_cons_zero, List.set_cons_succ])
                      iterate 35 (refine plan_skip rfl rfl ?_; simp only [Act.put, List.setIfInBounds_toArray, List.set_cons_zero, List.set_cons_succ])
                      iterate 1 (refine' plan_val rfl rfl (fun w' hS => ?_) ?_; rotate_left; (focus (obtain ⟨e0, e1⟩ := HQU.out w' hS.2; first | (go_simp; rfl) | (go_simp; done))); simp only [Act.put, List.setIfInBounds_toArray, List.set_cons_zero, List.set_cons_succ])
                      refine plan_nil ?_
                      go_wp2_with fail
                      go_meet
                      case rel => exact ⟨by rw [HCF.out], HQ14, Lib.hid HB14.out.drew⟩
                  case rest => as_aux_lemma =>
                    obtain ⟨rfl, HQ17, HB17⟩ := hcut
                    have hoq : openM M who ins = (if g ≠ 0 then (pd0, g) else if y.dst ≠ who ∨ rightM M y.fr who (cutT ins) (cutD ins) = false then (pd0, 101) else (y, 0)) := by
                      unfold openM
                      rw [if_neg (by rw [HKL.out]; have := HWN.out; omega), if_neg (by rw [HIE.out]; exact h32), HKL.out, if_neg (by rw [HRR.out]; decide), HPT.out]
                    rw [HOQ.out] at hoq
                    cases c with
                    | false =>
                      by_cases hg : g = 0
                      · have h := HCC.out
                        rw [decide_eq_true hg, Bool.true_and, Bool.or_eq_false_iff, decide_eq_false_iff_not, Bool.not_eq_false'] at h
                        rw [if_neg (fun h => h hg), if_neg (fun hx => hx.elim h.1 (fun hy => by rw [h.2] at hy; cases hy))] at hoq
                        injection hoq with h1 h2
                        subst h1 h2 hg
                        clear h
                        go_wp2_with fail
                        go_meet
                        case rel => exact ⟨rfl, HQ17, HB17⟩
                      · rw [if_pos hg] at hoq
                        injection hoq with h1 h2
                        subst h1 h2
                        have n1 : (oe != 0) = true := by rw [bne_iff_ne]; exact hg
                        clear hg
                        go_wp2_with ((with_reducible refine wpList_at (.store 38 (.tmp 25) _) rfl ?_); go_loud (refine wpList_store_agg rfl _ _ _ rfl E 0 pkz rfl rfl (there_of HQ17.out 16 (by exact Nat.le_refl 16)) (by kernel_rfl) rfl ?_))
                        go_meet
                        case rel => exact ⟨rfl, Lib.hid (putL_heap (cs := pktA y) HQ17.out pkz rfl), Lib.hid (putL_below (Nat.le_refl _) _ _ _ HB17.out)⟩
                    | true =>
                      have h := HCC.out
                      simp only [Bool.and_eq_true, Bool.or_eq_true, decide_eq_true_eq, Bool.not_eq_true'] at h
                      rw [if_neg (fun hx => hx h.1), if_pos h.2] at hoq
                      injection hoq with h1 h2
                      subst h1 h2
                      clear h
                      go_wp2_with ((with_reducible refine wpList_at (.store 38 (.tmp 25) _) rfl ?_); go_loud (refine wpList_store_agg rfl _ _ _ rfl E 0 pkz rfl rfl (there_of HQ17.out 16 (by exact Nat.le_refl 16)) (by kernel_rfl) rfl ?_))
                      go_meet
                      case rel => exact ⟨rfl, Lib.hid (putL_heap (cs := pktA y) HQ17.out pkz rfl), Lib.hid (putL_below (Nat.le_refl _) _ _ _ HB17.out)⟩
        case rest => as_aux_lemma =>
          obtain ⟨rfl, HQC, HBC9⟩ := hcut
          have HGC : Hid (wc.heap[G]? = some (.cells (pktA oq).toArray 38 (0, 0))) := Lib.hid ((HBC9.out.block G (by rw [← HEQ.out]; exact HGZ.out)).trans HG8.out)
          have hself := fun u => eql_pkt oq oq u
          rw [show eqP oq oq = true from eqP_iff.2 rfl] at hself
          have hgg : (oe == oe) = true := by simp
          have HWC := Lib.hid (HWX.out wc (HUX.out wc HBC9.out).2)
          go_wp2_with (first
            | ((with_reducible refine wpList_at (.load 38 (.tmp 22)) rfl ?_); go_loud (refine wpList_load_mid rfl 38 _ rfl G 0 rfl (pktA oq) _ (range_row HGC.out) Tryz.underlying38 rfl (by kernel_rfl) ?_))
            | ((with_reducible refine wpList_at (.load 38 (.tmp 25)) rfl ?_); go_loud (refine wpList_load_mid rfl 38 _ rfl E 0 rfl (pktA oq) _ (range_row HQC.out) Tryz.underlying38 rfl (by kernel_rfl) ?_))
            | (go_at_call 27; go_loud (refine HWC.out.mono ?_); rintro e u ⟨rfl, hb⟩; have HBU := Lib.hid hb; clear hb))
          go_ret
          exact ⟨rfl, HBU.out⟩
end Go.Proofs.YtgfijlamhjjecaaGreatDoor
