/-
  SealMakesV: the walk of SealMakes for every input. No condition but the laid variables.
-/
import Derived.Test.YtgfijlamhjjecaaGreatDoorMu17
import Derived.Test.YtgfijlamhjjecaaGreatDoorMu19
import Derived.Test.YtgfijlamhjjecaaGreatDoorMu15
namespace Go.Proofs.YtgfijlamhjjecaaGreatDoor
open Go.RowKit
set_option maxRecDepth 100000 in
set_option maxHeartbeats 16000000 in
theorem sealMakes_walk {W : World} (hv : VarsOk W) (hK : VarsK W) (L : List (List Str)) (v : Value) (hb : BsssAt (Low W) W v L) (p : PD) (hp : okPD p) :
    Calls Tryz.prog 7 #[v, .agg (pktA p).toArray] W fun e w' => e = .returned (.bool true) ∧ Below W.heap.size W w' := by
  obtain ⟨C, hC⟩ : ∃ B, W.heap.size = B := ⟨_, rfl⟩
  have HCQ := Lib.hid hC
  obtain ⟨w1, hw1⟩ : ∃ w1, W.alloc (.cells (pktA p).toArray 38) = w1 := ⟨_, rfl⟩
  have HB1 : Hid (Below C W w1) := Lib.hid (by rw [← hw1, ← hC]; exact (Below.refl _ _).alloc (Nat.le_refl _) _)
  have HC1 : Hid (w1.heap[C]? = some (.cells (pktA p).toArray 38 (0, 0))) := Lib.hid (by rw [← hw1, ← hC]; exact heap_alloc_new _ _)
  have HZ1 : Hid (w1.heap.size = C + 1) := Lib.hid (by rw [← hw1, ← hC]; simp)
  have HW1 := Lib.hid hw1
  have HVX : Hid (∀ u, Below C W u → VarsOk u ∧ VarsK u) := Lib.hid (fun u hu => ⟨hv.on hu (by rw [hC]; exact Nat.le_refl _), hK.on (by rw [hC]; exact hu)⟩)
  have HWK : Hid (∀ u, Below C W u → Calls Tryz.prog 27 #[] u fun e w' => WakesQ u e w') := Lib.hid (fun u hu => lwakes_any u (HVX.out u hu).1 (HVX.out u hu).2)
  obtain ⟨ka, kc, rfl, k1, k2⟩ := hb.form
  obtain ⟨n, hn⟩ : ∃ n, L.length = n := ⟨_, rfl⟩
  have HN := Lib.hid hn
  rw [hn] at k1 hb ⊢
  unfold maxLen at k2
  have HKS : Hid (∀ u, Below C W u → BsssAt (fun k => k < C) u (.slice ka n kc) L) := Lib.hid (fun u hu => hb.cong (fun k h => by rw [← hC]; exact h) (fun k h => hu.block k (by rw [← hC]; exact h)))
  have HPP := Lib.hid hp
  have HGR := Lib.hid (lgreat_any (T := fun k => k < C) L (.slice ka n kc) none 0 0 w1 (HKS.out w1 HB1.out))
  rw [hC]
  clear hv hK hC hw1 hn hb hp
  unfold pktA msgA at HW1 ⊢
  simp only [List.cons_append, List.nil_append] at HW1 ⊢
  go_enter Tryz.func7, Tryz.ntmps7
  go_upto_region 1 with fail
  rw [HW1.out, HCQ.out]
  go_wp2_with fail
  refine HGR.out.mono ?_
  rintro e u1 ⟨rfl, hu⟩
  rw [← hu]
  clear hu u1 HGR
  cases hg : greatL L 0 with
  | true =>
    have HWK1 := Lib.hid (HWK.out w1 HB1.out)
    unfold WakesQ at HWK1
    clear hg
    go_wp2_with (go_at_call 27; go_loud (refine HWK1.out.mono ?_); rintro e u ⟨rfl, hb⟩; have HBU : Hid (Below C W u) := Lib.hid (HB1.out.trans (hb.mono (below_le HCQ HB1.out))); clear hb)
    go_ret
    exact ⟨rfl, HBU.out⟩
  | false =>
    have HGL := Lib.hid (greatL_no hg)
    clear hg
    have HOWN := Lib.hid (lown_any L (.slice ka n kc) w1 (HKS.out w1 HB1.out) (fun k hk => by rw [HZ1.out]; omega) ⟨HGL.out.1, HGL.out.2.2⟩)
    go_wp2_with fail
    refine HOWN.out.mono ?_
    rintro e w2 ⟨iv, rfl, hko, hb2⟩
    rw [HZ1.out] at hko hb2
    have HKO := Lib.hid hko
    have HU2 := Lib.hid hb2
    have HB2 : Hid (Below C W w2) := Lib.hid (HB1.out.trans (hb2.mono (by omega)))
    have HZ2 : Hid (C + 1 ≤ w2.heap.size) := Lib.hid (by have := hb2.size; rw [HZ1.out] at this; exact this)
    have HNW := Lib.hid (gnew_any L iv w2 hko.bsss (fun k hk => hk.2))
    clear hko hb2 HOWN
    go_wp2_with fail
    refine HNW.out.mono ?_
    rintro e w3 ⟨hgood, hnot, hb3⟩
    have HU3 : Hid (Below w2.heap.size w2 w3) := Lib.hid hb3
    have HB3 : Hid (Below C W w3) := Lib.hid (HB2.out.trans (hb3.mono (by have := HZ2.out; omega)))
    have HRN := Lib.hid (r11New_any L (.slice ka n kc) w3 (HKS.out w3 HB3.out) (fun k hk => by have h1 := HB3.out.size; rw [HCQ.out] at h1; omega))
    unfold RNewQ at HRN
    clear HNW hb3
    cases hG : goodB L with
    | false =>
      obtain rfl := hnot hG
      clear hgood hnot
      rw [hG] at HRN
      have HWX : Hid (∀ u, Below C W u → Calls Tryz.prog 27 #[] u fun e w' => e = .returned (.bool true) ∧ Below C W w') := Lib.hid (fun u hu => (HWK.out u hu).mono (fun e w' h => ⟨h.1, hu.trans (h.2.mono (below_le HCQ hu))⟩))
      clear hG
      go_wp2_with fail
      refine HRN.out.mono ?_
      rintro e w4 ⟨hq, hb4⟩
      have HB4 : Hid (Below C W w4) := Lib.hid (HB3.out.trans (hb4.mono (below_le HCQ HB3.out)))
      obtain ⟨h1, _⟩ | ⟨_, rfl⟩ := hq
      · cases h1
      clear hb4 HRN
      go_wp2_with (first
        | (go_at_call 31; refine (gcarriers_nil _).mono ?_; rintro e u ⟨rfl, hu⟩; rw [← hu]; clear hu)
        | (go_at_call 27; refine (HWX.out _ HB4.out).mono ?_; rintro e u ⟨rfl, hb⟩; have HBU := Lib.hid hb; clear hb))
      go_ret
      exact ⟨rfl, HBU.out⟩
    | true =>
      obtain ⟨rb, rfl, hring⟩ := hgood hG
      clear hnot hgood
      rw [hG] at HRN
      have HG := Lib.hid hG
      have HRG3 := Lib.hid hring
      clear hG hring
      go_wp2_with fail
      refine HRN.out.mono ?_
      rintro e w4 ⟨hq, hb4⟩
      have HB4 : Hid (Below C W w4) := Lib.hid (HB3.out.trans (hb4.mono (below_le HCQ HB3.out)))
      have HU4 : Hid (Below w2.heap.size w2 w4) := Lib.hid (HU3.out.trans (hb4.mono HU3.out.size))
      have HRG4 : Hid (RingAt w4 w2.heap.size rb L) := Lib.hid (HRG3.out.fr (Below.fr hb4 (Nat.le_refl _) []) (fun k hk => by cases hk))
      obtain ⟨_, rb2, rfl, hr2, hrz⟩ | ⟨h1, _⟩ := hq
      case inr => cases h1
      have HR2 := Lib.hid hr2
      have HZR : Hid (w2.heap.size ≤ rb2) := Lib.hid (Nat.le_trans HU3.out.size hrz)
      have HCR := Lib.hid (gcarriers_any w2.heap.size rb L w4 HRG4.out)
      rw [HN.out] at HCR
      clear hb4 hr2 hrz HRN
      go_upto_region 10 with (go_at_call 31; refine HCR.out.mono ?_; rintro e u ⟨rfl, hu⟩; rw [← hu]; clear hu)
      have hlr : ∀ r ∈ L, r.length = n := fun r hr => by
        have h1 := HG.out
        unfold goodB at h1
        simp only [Bool.and_eq_true, List.all_eq_true, decide_eq_true_eq] at h1
        rw [← HN.out]; exact h1.1.2 r hr
      have HLR := Lib.hid hlr
      clear hlr HCR
      obtain ⟨ia, ic, hiv⟩ : ∃ ia ic, iv = .slice ia n ic := by
        obtain ⟨xs, h1, _⟩ := HKO.out.ex
        obtain ⟨_, ⟨rfl, h2⟩ | ⟨g, cap, cur, rfl, _⟩⟩ := h1
        · exact ⟨none, 0, by rw [← HN.out, h2]⟩
        · exact ⟨_, _, by rw [← HN.out]⟩
      subst hiv
      go_upto_block 0 with fail
      go_cut [] from 9 to 90 (fun wr => Hid (RW (C + 1) w2.heap.size w4 wr))
      case first => as_aux_lemma =>
        go_wp2_with fail
        go_loopw [9] (fun jv wr => ∃ i : Nat, i ≤ n ∧ jv = .int .i64 (i : Int) ∧ Hid (RW (C + 1) w2.heap.size w4 wr)) (fun jv _ => n - (intOf jv).toNat)
        case atStart => exact ⟨0, Nat.zero_le _, rfl, Lib.hid (RW.refl _ _ _)⟩
        case round =>
          obtain ⟨i, hi, rfl, HW⟩ := hrel
          obtain ⟨w5, hw5⟩ : ∃ u, u = wr := ⟨_, rfl⟩
          rw [← hw5] at HW ⊢
          clear hw5 wr
          by_cases hlt : i < n
          · have b0 : (0 : Int) ≤ (i : Int) := by omega
            have b1 : (i : Int) < (n : Int) := by omega
            obtain ⟨r, hr⟩ : ∃ r, L[i]? = some r := ⟨_, List.getElem?_eq_getElem (by rw [HN.out]; exact hlt)⟩
            have hrl := HLR.out r (List.mem_of_getElem? hr)
            have HRR := Lib.hid hr
            have HRL := Lib.hid hrl
            clear hr hrl
            go_wp2_with fail
            go_loopw [10] (fun jv wr => ∃ k : Nat, k ≤ n ∧ jv = .int .i64 (k : Int) ∧ Hid (RW (C + 1) w2.heap.size w4 wr)) (fun jv _ => n - (intOf jv).toNat)
            case atStart => exact ⟨0, Nat.zero_le _, rfl, HW⟩
            case round =>
              obtain ⟨k, hk, rfl, HW6⟩ := hrel
              obtain ⟨w6, hw6⟩ : ∃ u, u = wr := ⟨_, rfl⟩
              rw [← hw6] at HW6 ⊢
              clear hw6 wr
              by_cases hkn : k < n
              · have b2 : (0 : Int) ≤ (k : Int) := by omega
                have b3 : (k : Int) < (n : Int) := by omega
                obtain ⟨s, hs⟩ : ∃ s, r[k]? = some s := ⟨_, List.getElem?_eq_getElem (by rw [HRL.out]; exact hkn)⟩
                obtain ⟨g, cap, g2, c2, yo, yc, hv, hcells, hbytes⟩ := keys_at (P := C + 1) (Q := w2.heap.size) HKO.out HU4.out HRR.out hs
                rw [HN.out, HRL.out] at *
                obtain ⟨rfl, rfl⟩ : ia = some ⟨g, 0, none⟩ ∧ ic = cap := by injection hv with h1 h2 h3; exact ⟨h1, h3⟩
                obtain ⟨m, hm⟩ : ∃ m, s.length = m := ⟨_, rfl⟩
                have hm100 : m ≤ 100 := by rw [← hm]; exact (HGL.out.2.2 r (List.mem_of_getElem? HRR.out)).2 s (List.mem_of_getElem? hs)
                rw [hm] at hcells hbytes
                have HCE := Lib.hid hcells
                have HBY := Lib.hid hbytes
                clear hcells hbytes hv hs hm
                go_wp2_with fail
                go_loopw [11] (fun jv wr => ∃ j : Nat, j ≤ m ∧ jv = .int .i64 (j : Int) ∧ Hid (RW (C + 1) w2.heap.size w4 wr)) (fun jv _ => m - (intOf jv).toNat)
                case atStart => exact ⟨0, Nat.zero_le _, rfl, HW6⟩
                case round =>
                  obtain ⟨j, hj, rfl, HW7⟩ := hrel
                  obtain ⟨e1, e2⟩ := HCE.out wr HW7.out
                  by_cases hjm : j < m
                  · have b4 : (0 : Int) ≤ (j : Int) := by omega
                    have b5 : (j : Int) < (m : Int) := by omega
                    obtain ⟨g3, cs, rfl, h1, h2, h3, h4⟩ := HBY.out (by omega)
                    obtain ⟨cs', h5, h6⟩ := HW7.out.bytes h3
                    have f1 : wr.frozen? ⟨g3, j, none⟩ = false := frozen_of_row wr g3 j _ _ h5
                    obtain ⟨x, hx⟩ : ∃ x, wr.cell? ⟨g3, j, none⟩ = some x := ⟨_, by rw [cell_of_row wr g3 j _ _ _ h5]; exact Array.getElem?_eq_getElem (by omega)⟩
                    have HW8 : Hid (RW (C + 1) w2.heap.size w4 (wr.setCell ⟨g3, j, none⟩ (.int .u8 9))) := Lib.hid (HW7.out.store h5 h1 h2 _)
                    clear h1 h2 h3 h4 h5 h6
                    go_wp2_with fail
                    go_roundw
                    case rel => exact ⟨j + 1, by omega, by go_num, HW8⟩
                    case measure => simp [intOf]; omega
                  · obtain rfl : j = m := by omega
                    have b5 : ¬ (j : Int) < (j : Int) := by omega
                    go_wp2_with fail
                    go_roundw
                    case rel => exact ⟨k + 1, by omega, by go_num, HW7⟩
                    case measure => simp [intOf]; omega
              · obtain rfl : k = n := by omega
                have b2 : ¬ (k : Int) < (k : Int) := by omega
                go_wp2_with fail
                go_roundw
                case rel => exact ⟨i + 1, by omega, by go_num, HW6⟩
                case measure => simp [intOf]; omega
          · obtain rfl : i = n := by omega
            have b2 : ¬ (i : Int) < (i : Int) := by omega
            go_wp2_with fail
            go_meet
            case rel => exact HW
      case rest =>
        have HW := hcut
        clear hcut HKO
        have HBC : Hid (Below C W wc) := Lib.hid (HB4.out.trans (HW.out.below.mono (Nat.le_succ C)))
        have HB14 : Hid (Below (C + 1) w1 w4) := Lib.hid (HU2.out.trans (HU4.out.mono HZ2.out))
        have HRG : Hid (RingAt wc w2.heap.size rb L) := Lib.hid (HRG4.out.fr HW.out.fr (fun k hk => .inl (by simpa using hk)))
        have HCC : Hid (wc.heap[C]? = some (.cells (pktA p).toArray 38 (0, 0))) := Lib.hid ((HW.out.out C (.inl (Nat.lt_succ_self C))).trans ((HB14.out.block C (Nat.lt_succ_self C)).trans HC1.out))
        have HRC : Hid (wc.heap[rb2]? = some (.cells #[.slice ka n kc] 141 (0, 0))) := Lib.hid ((HW.out.out rb2 (.inr HZR.out)).trans HR2.out)
        have HLM : Hid (∀ i k, (keyAt L i k).length ≤ 100) := Lib.hid (fun i k => keyAt_le100 (fun r hr => (HGL.out.2.2 r hr).2) i k)
        have HCZ : Hid (C < wc.heap.size ∧ rb2 < wc.heap.size) := Lib.hid ⟨(Array.getElem?_eq_some_iff.1 HCC.out).1, (Array.getElem?_eq_some_iff.1 HRC.out).1⟩
        clear HRG3 HRG4 HR2 HU2 HU3 HU4 HW HB1 HB2 HB3 HB4 HB14 HC1 HZ1 HZ2 HW1
        obtain ⟨R, hR⟩ : ∃ R, sealM L p = R := ⟨_, rfl⟩
        obtain ⟨l, k⟩ := R
        have HSR := Lib.hid hR
        have HS := Lib.hid (gseal_any w2.heap.size rb L p HPP.out wc HRG.out (HVX.out _ HBC.out).1 (HVX.out _ HBC.out).2 (fun i k => Nat.le_trans (HLM.out i k) (by decide)))
        unfold SealQ at HS
        rw [hR] at HS
        clear hR
        go_upto_region 21 with (first
          | ((with_reducible refine wpList_at (.load 38 (.tmp 3)) rfl ?_); go_loud (refine wpList_load_mid rfl 38 _ rfl C 0 rfl (pktA p) _ (range_row HCC.out) Tryz.underlying38 rfl (by kernel_rfl) ?_))
          | (go_at_call 32; go_loud (refine HS.out.mono ?_); rintro e w5 ⟨v1, rfl, hrow, hb⟩; have HV1 := Lib.hid hrow; have HU5 := Lib.hid hb; clear hrow hb))
        have HB5 : Hid (Below C W w5) := Lib.hid (HBC.out.trans (HU5.out.mono (below_le HCQ HBC.out)))
        have HP5 : Hid (w5.heap[C]? = some (.cells (pktA p).toArray 38 (0, 0))) := Lib.hid ((HU5.out.block C HCZ.out.1).trans HCC.out)
        have HR5 : Hid (w5.heap[rb2]? = some (.cells #[.slice ka n kc] 141 (0, 0))) := Lib.hid ((HU5.out.block rb2 HCZ.out.2).trans HRC.out)
        have HZ5 : Hid (C < w5.heap.size ∧ rb2 < w5.heap.size) := Lib.hid ⟨(Array.getElem?_eq_some_iff.1 HP5.out).1, (Array.getElem?_eq_some_iff.1 HR5.out).1⟩
        obtain ⟨a1, c1, rfl, s1, s2⟩ := HV1.out.form
        obtain ⟨ll, hll⟩ : ∃ m, l.length = m := ⟨_, rfl⟩
        rw [List.length_map, hll] at HV1 ⊢
        have HLL := Lib.hid hll
        clear s1 s2 HS HRG HCC HRC hll HU5
        have HPU : Hid (∀ u, Below w5.heap.size w5 u → u.cell? ⟨C, 0, none⟩ = some (.int .u8 (p.fr : Int)) ∧ u.cell? ⟨C, 1, none⟩ = some (.int .u8 (p.dst : Int))) := Lib.hid (fun u hu => by
          have h1 := (hu.block C HZ5.out.1).trans HP5.out
          exact ⟨(cell_of_row u C 0 _ _ _ h1).trans rfl, (cell_of_row u C 1 _ _ _ h1).trans rfl⟩)
        go_cut [115] (fun bv5 wr => bv5 = .bool (!decide (mayS L p)) ∧ Hid (Below w5.heap.size w5 wr))
        case first =>
          have HCA : Hid (∀ (u : World) (c : Nat) (b : Bool), Below w5.heap.size w5 u → c < 256 → decide (c < n) = b → Calls Tryz.prog 33 #[.pointer (some ⟨rb2, 0, none⟩), .int .u8 (c : Int)] u fun e w' => e = .returned (.bool b) ∧ Below w5.heap.size w5 w') := Lib.hid (fun u c b hu hc hd => (r11Carrier_any rb2 ka n kc c u ((hu.block rb2 HZ5.out.2).trans HR5.out) hc).mono (fun e w' h => ⟨by rw [h.1, hd], hu.trans (h.2.mono hu.size)⟩))
          obtain ⟨x0, x1⟩ := HPU.out w5 (Below.refl _ _)
          by_cases c1 : p.fr < n
          · have HCF := Lib.hid (HCA.out w5 p.fr true (Below.refl _ _) HPP.out.fr (decide_eq_true c1))
            by_cases c2 : p.dst < n
            · have HCD := Lib.hid (fun u hu => HCA.out u p.dst true hu HPP.out.dst (decide_eq_true c2))
              by_cases c3 : p.fr = p.dst
              · have HM : Hid (decide (mayS L p) = false) := Lib.hid (decide_eq_false (fun h => h.2.2 c3))
                have n1 : ((p.fr : Int) == (p.dst : Int)) = true := by rw [c3]; simp
                clear c1 c2 c3 HCA
                go_wp2_with fail
                refine HCF.out.mono ?_
                rintro e w6 ⟨rfl, hb⟩
                obtain ⟨x0, x1⟩ := HPU.out w6 hb
                have HB6 := Lib.hid hb
                clear hb
                go_wp2_with fail
                refine (HCD.out w6 HB6.out).mono ?_
                rintro e w7 ⟨rfl, hb⟩
                obtain ⟨x0, x1⟩ := HPU.out w7 hb
                have HB7 := Lib.hid hb
                clear hb
                go_wp2_with fail
                go_meet
                case rel => exact ⟨by rw [HM.out]; rfl, HB7⟩
              · have HM : Hid (decide (mayS L p) = true) := Lib.hid (decide_eq_true ⟨by rw [HN.out]; exact c1, by rw [HN.out]; exact c2, c3⟩)
                have n1 : ((p.fr : Int) == (p.dst : Int)) = false := by rw [beq_eq_false_iff_ne]; omega
                clear c1 c2 c3 HCA
                go_wp2_with fail
                refine HCF.out.mono ?_
                rintro e w6 ⟨rfl, hb⟩
                obtain ⟨x0, x1⟩ := HPU.out w6 hb
                have HB6 := Lib.hid hb
                clear hb
                go_wp2_with fail
                refine (HCD.out w6 HB6.out).mono ?_
                rintro e w7 ⟨rfl, hb⟩
                obtain ⟨x0, x1⟩ := HPU.out w7 hb
                have HB7 := Lib.hid hb
                clear hb
                go_wp2_with fail
                go_meet
                case rel => exact ⟨by rw [HM.out]; rfl, HB7⟩
            · have HCD := Lib.hid (fun u hu => HCA.out u p.dst false hu HPP.out.dst (decide_eq_false c2))
              have HM : Hid (decide (mayS L p) = false) := Lib.hid (decide_eq_false (fun h => c2 (by rw [← HN.out]; exact h.2.1)))
              clear c1 c2 HCA
              go_wp2_with fail
              refine HCF.out.mono ?_
              rintro e w6 ⟨rfl, hb⟩
              obtain ⟨x0, x1⟩ := HPU.out w6 hb
              have HB6 := Lib.hid hb
              clear hb
              go_wp2_with fail
              refine (HCD.out w6 HB6.out).mono ?_
              rintro e w7 ⟨rfl, hb⟩
              have HB7 := Lib.hid hb
              clear hb
              go_wp2_with fail
              go_meet
              case rel => exact ⟨by rw [HM.out]; rfl, HB7⟩
          · have HCF := Lib.hid (HCA.out w5 p.fr false (Below.refl _ _) HPP.out.fr (decide_eq_false c1))
            have HM : Hid (decide (mayS L p) = false) := Lib.hid (decide_eq_false (fun h => c1 (by rw [← HN.out]; exact h.1)))
            clear c1 HCA
            go_wp2_with fail
            refine HCF.out.mono ?_
            rintro e w6 ⟨rfl, hb⟩
            have HB6 := Lib.hid hb
            clear hb
            go_wp2_with fail
            go_meet
            case rel => exact ⟨by rw [HM.out]; rfl, HB6⟩
        case rest =>
          obtain ⟨rfl, HBR⟩ := hcut
          have HBX : Hid (Below C W wc) := Lib.hid (HB5.out.trans (HBR.out.mono (Nat.le_of_lt HZ5.out.1)))
          have HWX : Hid (∀ u, Below C W u → Calls Tryz.prog 27 #[] u fun e w' => e = .returned (.bool true) ∧ Below C W w') := Lib.hid (fun u hu => (HWK.out u hu).mono (fun e w' h => ⟨h.1, hu.trans (h.2.mono (below_le HCQ hu))⟩))
          have HPC : Hid (wc.heap[C]? = some (.cells (pktA p).toArray 38 (0, 0))) := Lib.hid ((HBR.out.block C HZ5.out.1).trans HP5.out)
          have HV1C : Hid (RowAt (fun b => b < w5.heap.size) wc (.slice a1 ll c1) (l.map bv)) := Lib.hid ((HV1.out.any (fun b hb => hb.2) HBR.out).cong (fun b hb => hb.2) (fun _ _ => rfl))
          clear HV1 HWK HPU
          by_cases hm : mayS L p
          · rw [decide_eq_true hm]
            obtain ⟨T, hT⟩ : ∃ T, textM p = T := ⟨_, rfl⟩
            obtain ⟨t, g⟩ := T
            have HTM := Lib.hid (mText_is HPP.out (HVX.out _ HBX.out).1 hT)
            unfold WTQ sv at HTM
            obtain ⟨ta, hta⟩ : ∃ ta : ByteArray, (⟨t.toArray⟩ : ByteArray) = ta := ⟨_, rfl⟩
            rw [hta] at HTM
            have HTA := Lib.hid hta
            clear hta
            by_cases hg : g = 0
            · subst hg
              have HQE : Hid (l = t ++ macM (keyAt L p.fr p.dst) t ∧ k = 0) := Lib.hid (by
                have hq : sealM L p = (t ++ macM (keyAt L p.fr p.dst) t, 0) := by unfold sealM; rw [if_pos hm, hT]; rfl
                have hr := hq.symm.trans HSR.out
                injection hr with h1 h2
                exact ⟨h1.symm, h2.symm⟩)
              have HTL : Hid (t.length ≤ 65536) := Lib.hid (text_back HPP.out.num hT).2
              have HMS := Lib.hid hm
              clear hT hm
              have j0 : ((0 : Int) != 0) = false := by simp
              go_upto_region 26 with (first
                | ((with_reducible refine wpList_at (.load 38 (.tmp 3)) rfl ?_); go_loud (refine wpList_load_mid rfl 38 _ rfl C 0 rfl (pktA p) _ (range_row HPC.out) Tryz.underlying38 rfl (by kernel_rfl) ?_))
                | (go_at_call 21; go_loud (refine HTM.out.mono ?_); rintro e w6 ⟨rfl, hb⟩; have HU6 := Lib.hid hb; clear hb))
              have HB6 : Hid (Below C W w6) := Lib.hid (HBX.out.trans (HU6.out.mono (below_le HCQ HBX.out)))
              have HB56 : Hid (Below w5.heap.size w5 w6) := Lib.hid (HBR.out.trans (HU6.out.mono HBR.out.size))
              have HZ6 : Hid (C < w6.heap.size) := Lib.hid (Nat.lt_of_lt_of_le HZ5.out.1 HB56.out.size)
              have HV6 : Hid (RowAt (fun b => b < w6.heap.size) w6 (.slice a1 ll c1) (l.map bv)) := Lib.hid (HV1C.out.cong (fun b hb => Nat.lt_of_lt_of_le hb HB56.out.size) (fun b hb => HU6.out.block b (Nat.lt_of_lt_of_le hb HBR.out.size)))
              have HP6 : Hid (w6.heap[C]? = some (.cells (pktA p).toArray 38 (0, 0))) := Lib.hid ((HB56.out.block C HZ5.out.1).trans HP5.out)
              have HPU6 : Hid (∀ u, Below w6.heap.size w6 u → u.cell? ⟨C, 0, none⟩ = some (.int .u8 (p.fr : Int)) ∧ u.cell? ⟨C, 1, none⟩ = some (.int .u8 (p.dst : Int))) := Lib.hid (fun u hu => by
                have h1 := (hu.block C HZ6.out).trans HP6.out
                exact ⟨(cell_of_row u C 0 _ _ _ h1).trans rfl, (cell_of_row u C 1 _ _ _ h1).trans rfl⟩)
              obtain ⟨r, hr⟩ : ∃ r, L[p.fr]? = some r := ⟨_, List.getElem?_eq_getElem HMS.out.1⟩
              have hrl := HLR.out r (List.mem_of_getElem? hr)
              have htk := keyAt_get hr (show p.dst < r.length by rw [hrl, ← HN.out]; exact HMS.out.2.1)
              have hks := HKS.out w6 HB6.out
              obtain ⟨b1, o1, x1, rfl, hb1, cc1, hB1⟩ := hks.get hr
              obtain ⟨xa, xc, rfl, k3, k4⟩ := hB1.form
              rw [hrl] at hB1 cc1 k3
              unfold maxLen at k4
              obtain ⟨b2, o2, x2, rfl, hb2, cc2, hB2⟩ := hB1.get htk
              have hc6 := HZ6.out
              have HKC : Hid (∀ u, Below w6.heap.size w6 u → u.cell? ⟨b1, o1 + p.fr, none⟩ = some (.slice (some ⟨b2, o2, none⟩) n xc) ∧ u.cell? ⟨b2, o2 + p.dst, none⟩ = some x2) := Lib.hid (fun u hu => ⟨(hu.cell (p := ⟨b1, o1 + p.fr, none⟩) (show b1 < w6.heap.size by omega)).trans cc1, (hu.cell (p := ⟨b2, o2 + p.dst, none⟩) (show b2 < w6.heap.size by omega)).trans cc2⟩)
              obtain ⟨key, hkey⟩ : ∃ key, keyAt L p.fr p.dst = key := ⟨_, rfl⟩
              have hkl := HLM.out p.fr p.dst
              rw [hkey] at hB2 hkl HQE
              have HKR : Hid (∀ u, Below w6.heap.size w6 u → RowAt (fun k => k < C) u x2 (key.map bv)) := Lib.hid (fun u hu => hB2.cong (fun _ h => h) (fun k hk => hu.block k (by omega)))
              have htd : ta.data.toList = t := by rw [← HTA.out]
              have hts : ta.size ≤ 65536 := by have h1 := HTL.out; rw [← htd, Array.length_toList] at h1; exact h1
              obtain ⟨md, hmd⟩ : ∃ m, macM key t = m := ⟨_, rfl⟩
              rw [hmd] at HQE
              obtain ⟨cs, hcs⟩ : ∃ cs, md.map bv = cs := ⟨_, rfl⟩
              have HCS := Lib.hid hcs
              have HMLN : Hid (md.length = 32) := Lib.hid (by rw [← hmd, macM_len])
              have HCL : Hid (cs.length = 32) := Lib.hid (by rw [← hcs, List.length_map]; exact HMLN.out)
              have HCO : Hid (cs.all (·.oneCell') = true) := Lib.hid (by rw [← hcs]; exact bytes_one _)
              have HOF : Hid (∀ (u : World) (gg cap : Nat), Below w6.heap.size w6 u → RoomB u gg ta.size cap t → Calls Tryz.prog 34 #[x2, .slice (some ⟨gg, 0, none⟩) ta.size cap] u fun e w' => e = .returned (.agg cs.toArray) ∧ Below w6.heap.size w6 w' ∧ Below u.heap.size u w') := Lib.hid (fun u gg cap hu hrm => by
                have h1 := hu.size
                refine (r2Of_any key t x2 (.slice (some ⟨gg, 0, none⟩) ta.size cap) u (HKR.out u hu) (fun k hk => by omega) hrm.row (fun k hk => by rw [hk]; exact hrm.lt) (by omega) (by have := HTL.out; omega)).mono ?_
                unfold DigQ
                rintro e w' ⟨rfl, h2⟩
                exact ⟨by rw [hmd, hcs], hu.trans (h2.mono hu.size), h2⟩)
              have HCV : Hid (∀ u : World, ∃ cap u', (convert 9 72 (.string ta)).run Tryz.prog u = .ok (.slice (some ⟨u.heap.size, 0, none⟩) ta.size cap) u' ∧ RoomB u' u.heap.size ta.size cap t ∧ Below u.heap.size u u' ∧ u'.heap.size = u.heap.size + 1) := Lib.hid (fun u => by
                have h := conv_str ta u (by omega)
                rw [htd] at h
                exact h)
              have i1 : (0 : Int) ≤ (p.fr : Int) := by omega
              have i2 : (p.fr : Int) < (n : Int) := by have := HMS.out.1; rw [HN.out] at this; omega
              have i3 : (0 : Int) ≤ (p.dst : Int) := by omega
              have i4 : (p.dst : Int) < (n : Int) := by have := HMS.out.2.1; rw [HN.out] at this; omega
              clear hr hrl htk hks hb1 cc1 hB1 hb2 cc2 hB2 hc6 hkey hkl htd hts hmd hcs j0
              go_cut [16] (fun p16 wx => ∃ D, p16 = .pointer (some ⟨D, 0, none⟩) ∧ Hid (wx.heap[D]? = some (.cells cs.toArray 78 (0, 0))) ∧ Hid (Below w6.heap.size w6 wx))
              case first =>
                refine wp_region_planT (.val 0 (.val 1 (.val 2 (.val 3 (.val 4 (.val 5 (.val 6 (.val 7 (.val 8 (.val 9 (.two 10 (.two 11 (.one 12 (.one 13 .nil)) 12 (.one 11 (.one 13 .nil))) 12 (.one 10 (.one 11 (.one 13 .nil)))))))))))))) (fun u => Below w6.heap.size w6 u) (by kernel_rfl) (by kernel_rfl) (Below.refl _ _).drew ?_
                iterate 10 (refine' planT_val rfl rfl (fun w' hS => ?_) ?_; rotate_left; (focus (obtain ⟨hx1, hx2⟩ := HPU6.out w' hS; obtain ⟨hx3, hx4⟩ := HKC.out w' hS; first | (go_simp; rfl) | (go_simp; done))); simp only [Act.put, List.setIfInBounds_toArray, List.set_cons_zero, List.set_cons_succ])
                obtain ⟨w7, hw7⟩ : ∃ u, w6.drew = u := ⟨_, rfl⟩
                have HB7 : Hid (Below w6.heap.size w6 w7) := Lib.hid (by rw [← hw7]; exact (Below.refl _ _).drew)
                rw [hw7]
                clear hw7
                refine planT_two ?_ ?_
                · obtain ⟨cap, u1, hcv, hrm, hbc, hzc⟩ := HCV.out w7
                  have HU1 : Hid (Below w6.heap.size w6 u1) := Lib.hid (HB7.out.trans (hbc.mono HB7.out.size))
                  have HRM := Lib.hid hrm
                  clear hrm hbc hzc
                  refine planT_op rfl (fun K hK => ?_)
                  go_wp2_with fail
                  refine hK _ _ HU1.out ?_
                  clear hK K hcv
                  refine planT_two ?_ ?_
                  · refine planT_op rfl (fun K hK => ?_)
                    go_wp2_with (go_at_call 34; go_loud (refine (HOF.out u1 _ _ HU1.out HRM.out).mono ?_); rintro e u2 ⟨rfl, hb, hbu⟩; have HU2 := Lib.hid hb; have HUU := Lib.hid hbu; clear hb hbu)
                    refine hK _ _ HU2.out ?_
                    clear hK K HUU
                    refine planT_do rfl (fun K hK => ?_)
                    go_wp2_with ((with_reducible refine wpList_at (.alloc 78) rfl ?_); go_loud (refine wpList_alloc_cells rfl _ rfl _ zero32 ?_))
                    obtain ⟨D, hD⟩ : ∃ D, u2.heap.size = D := ⟨_, rfl⟩
                    obtain ⟨u3, hu⟩ : ∃ u, u2.alloc (.cells (pad32 []).toArray 78) = u := ⟨_, rfl⟩
                    have HD3 : Hid (u3.heap[D]? = some (.cells (pad32 []).toArray 78 (0, 0))) := Lib.hid (by rw [← hu, ← hD]; exact heap_alloc_new _ _)
                    have HU3 : Hid (Below w6.heap.size w6 u3) := Lib.hid (by rw [← hu]; exact HU2.out.alloc HU2.out.size _)
                    have HDZ : Hid (w6.heap.size ≤ D) := Lib.hid (by rw [← hD]; exact HU2.out.size)
                    rw [hu]
                    try rw [hD]
                    clear hu hD
                    refine hK _ _ HU3.out ?_
                    clear hK K
                    refine planT_do rfl (fun K hK => ?_)
                    go_wp2_with ((with_reducible refine wpList_at (.store 78 (.tmp 16) (.tmp 155)) rfl ?_); go_loud (refine wpList_store_agg rfl _ _ _ rfl D 0 cs rfl rfl (by rw [HCL.out]; exact there_of HD3.out 32 (by decide)) (by rw [HCL.out]; kernel_rfl) HCO.out ?_))
                    obtain ⟨u4, hu⟩ : ∃ u, u3.setCells D 0 cs = u := ⟨_, rfl⟩
                    obtain ⟨r1, r2⟩ := dig_put HCL.out HD3.out HU3.out HDZ.out hu
                    have HF := Lib.hid r1
                    have HU4 := Lib.hid r2
                    rw [hu]
                    clear hu r1 r2
                    refine hK _ _ HU4.out ?_
                    clear hK K
                    refine planT_nil ?_
                    go_wp2_with fail
                    go_meet
                    case rel => exact ⟨D, rfl, HF, HU4⟩
                  · refine planT_op rfl (fun K hK => ?_)
                    go_wp2_with ((with_reducible refine wpList_at (.alloc 78) rfl ?_); go_loud (refine wpList_alloc_cells rfl _ rfl _ zero32 ?_))
                    obtain ⟨D, hD⟩ : ∃ D, u1.heap.size = D := ⟨_, rfl⟩
                    obtain ⟨u2, hu⟩ : ∃ u, u1.alloc (.cells (pad32 []).toArray 78) = u := ⟨_, rfl⟩
                    have HD2 : Hid (u2.heap[D]? = some (.cells (pad32 []).toArray 78 (0, 0))) := Lib.hid (by rw [← hu, ← hD]; exact heap_alloc_new _ _)
                    have HU2 : Hid (Below w6.heap.size w6 u2) := Lib.hid (by rw [← hu]; exact HU1.out.alloc HU1.out.size _)
                    have HDZ : Hid (w6.heap.size ≤ D) := Lib.hid (by rw [← hD]; exact HU1.out.size)
                    have HRM : Hid (RoomB u2 _ ta.size cap t) := Lib.hid (HRM.out.on (by rw [← hu]; exact Below.heap_alloc _ _ _ HRM.out.lt))
                    rw [hu]
                    try rw [hD]
                    clear hu hD
                    refine hK _ _ HU2.out ?_
                    clear hK K
                    refine planT_do rfl (fun K hK => ?_)
                    go_wp2_with (go_at_call 34; go_loud (refine (HOF.out u2 _ _ HU2.out HRM.out).mono ?_); rintro e u3 ⟨rfl, hb, hbu⟩; have HU3 := Lib.hid hb; have HUU := Lib.hid hbu; clear hb hbu)
                    have HD3 : Hid (u3.heap[D]? = some (.cells (pad32 []).toArray 78 (0, 0))) := Lib.hid ((HUU.out.block D (Array.getElem?_eq_some_iff.1 HD2.out).1).trans HD2.out)
                    refine hK _ _ HU3.out ?_
                    clear hK K HUU
                    refine planT_do rfl (fun K hK => ?_)
                    go_wp2_with ((with_reducible refine wpList_at (.store 78 (.tmp 16) (.tmp 155)) rfl ?_); go_loud (refine wpList_store_agg rfl _ _ _ rfl D 0 cs rfl rfl (by rw [HCL.out]; exact there_of HD3.out 32 (by decide)) (by rw [HCL.out]; kernel_rfl) HCO.out ?_))
                    obtain ⟨u4, hu⟩ : ∃ u, u3.setCells D 0 cs = u := ⟨_, rfl⟩
                    obtain ⟨r1, r2⟩ := dig_put HCL.out HD3.out HU3.out HDZ.out hu
                    have HF := Lib.hid r1
                    have HU4 := Lib.hid r2
                    rw [hu]
                    clear hu r1 r2
                    refine hK _ _ HU4.out ?_
                    clear hK K
                    refine planT_nil ?_
                    go_wp2_with fail
                    go_meet
                    case rel => exact ⟨D, rfl, HF, HU4⟩
                · refine planT_op rfl (fun K hK => ?_)
                  go_wp2_with ((with_reducible refine wpList_at (.alloc 78) rfl ?_); go_loud (refine wpList_alloc_cells rfl _ rfl _ zero32 ?_))
                  obtain ⟨D, hD⟩ : ∃ D, w7.heap.size = D := ⟨_, rfl⟩
                  obtain ⟨u1, hu⟩ : ∃ u, w7.alloc (.cells (pad32 []).toArray 78) = u := ⟨_, rfl⟩
                  have HD1 : Hid (u1.heap[D]? = some (.cells (pad32 []).toArray 78 (0, 0))) := Lib.hid (by rw [← hu, ← hD]; exact heap_alloc_new _ _)
                  have HU1 : Hid (Below w6.heap.size w6 u1) := Lib.hid (by rw [← hu]; exact HB7.out.alloc HB7.out.size _)
                  have HDZ : Hid (w6.heap.size ≤ D) := Lib.hid (by rw [← hD]; exact HB7.out.size)
                  rw [hu]
                  try rw [hD]
                  clear hu hD
                  refine hK _ _ HU1.out ?_
                  clear hK K
                  obtain ⟨cap, u2, hcv, hrm, hbc, hzc⟩ := HCV.out u1
                  have HU2 : Hid (Below w6.heap.size w6 u2) := Lib.hid (HU1.out.trans (hbc.mono HU1.out.size))
                  have HRM := Lib.hid hrm
                  have HD2 : Hid (u2.heap[D]? = some (.cells (pad32 []).toArray 78 (0, 0))) := Lib.hid ((hbc.block D (Array.getElem?_eq_some_iff.1 HD1.out).1).trans HD1.out)
                  clear hrm hbc hzc
                  refine planT_do rfl (fun K hK => ?_)
                  go_wp2_with fail
                  refine hK _ _ HU2.out ?_
                  clear hK K hcv
                  refine planT_do rfl (fun K hK => ?_)
                  go_wp2_with (go_at_call 34; go_loud (refine (HOF.out u2 _ _ HU2.out HRM.out).mono ?_); rintro e u3 ⟨rfl, hb, hbu⟩; have HU3 := Lib.hid hb; have HUU := Lib.hid hbu; clear hb hbu)
                  have HD3 : Hid (u3.heap[D]? = some (.cells (pad32 []).toArray 78 (0, 0))) := Lib.hid ((HUU.out.block D (Array.getElem?_eq_some_iff.1 HD2.out).1).trans HD2.out)
                  refine hK _ _ HU3.out ?_
                  clear hK K HUU
                  refine planT_do rfl (fun K hK => ?_)
                  go_wp2_with ((with_reducible refine wpList_at (.store 78 (.tmp 16) (.tmp 155)) rfl ?_); go_loud (refine wpList_store_agg rfl _ _ _ rfl D 0 cs rfl rfl (by rw [HCL.out]; exact there_of HD3.out 32 (by decide)) (by rw [HCL.out]; kernel_rfl) HCO.out ?_))
                  obtain ⟨u4, hu⟩ : ∃ u, u3.setCells D 0 cs = u := ⟨_, rfl⟩
                  obtain ⟨r1, r2⟩ := dig_put HCL.out HD3.out HU3.out HDZ.out hu
                  have HF := Lib.hid r1
                  have HU4 := Lib.hid r2
                  rw [hu]
                  clear hu r1 r2
                  refine hK _ _ HU4.out ?_
                  clear hK K
                  refine planT_nil ?_
                  go_wp2_with fail
                  go_meet
                  case rel => exact ⟨D, rfl, HF, HU4⟩
              case rest =>
                obtain ⟨D, rfl, HDC, HBY⟩ := hcut
                obtain ⟨hl, rfl⟩ := HQE.out
                have HBZ : Hid (Below C W wc) := Lib.hid (HB6.out.trans (HBY.out.mono (Nat.le_of_lt HZ6.out)))
                obtain ⟨la, hla⟩ : ∃ b : ByteArray, (⟨l.toArray⟩ : ByteArray) = b := ⟨_, rfl⟩
                obtain ⟨ma, hma⟩ : ∃ b : ByteArray, (⟨md.toArray⟩ : ByteArray) = b := ⟨_, rfl⟩
                have HCV1 : Hid (∀ u : World, Below wc.heap.size wc u → (convert 72 9 (.slice a1 ll c1)).run Tryz.prog u = .ok (.string la) u) := Lib.hid (fun u hu => by
                  rw [← hla]
                  have h1 := HBY.out.trans (hu.mono HBY.out.size)
                  exact conv_row (HV6.out.any (fun b hb => hb) h1))
                have HCV2 : Hid (∀ u : World, Below wc.heap.size wc u → (convert 72 9 (.slice (some ⟨D, 0, none⟩) 32 32)).run Tryz.prog u = .ok (.string ma) u) := Lib.hid (fun u hu => by
                  rw [← hma]
                  have h1 := (hu.block D (Array.getElem?_eq_some_iff.1 HDC.out).1).trans HDC.out
                  have h := row_lit (S := fun k => k = D) h1 rfl (by rw [HCL.out]; decide)
                  rw [HCL.out, ← HCS.out] at h
                  exact conv_row h)
                have hcat : ta ++ ma = la := by
                  rw [← hla, ← hma, ← HTA.out, hl]
                  apply ByteArray.ext
                  simp [ByteArray.data_append]
                have hts : ta.size ≤ 65536 := by
                  have h1 := HTL.out
                  rw [← HTA.out]
                  simpa [ByteArray.size] using h1
                have hms : ma.size = 32 := by
                  rw [← hma]
                  have h1 := HMLN.out
                  simpa [ByteArray.size] using h1
                have z1 : ¬ 9223372036854775807 < ta.size + 32 := by omega
                have d1 := str_same la
                have HWY : Hid (∀ u, Below wc.heap.size wc u → Calls Tryz.prog 27 #[] u fun e w' => e = .returned (.bool true) ∧ Below wc.heap.size wc w') := Lib.hid (fun u hu => by
                  have h1 := HVX.out u (HBZ.out.trans (hu.mono (below_le HCQ HBZ.out)))
                  exact (lwakes_any u h1.1 h1.2).mono (fun e w' h => ⟨h.1, hu.trans (h.2.mono hu.size)⟩))
                clear hl hla hma hts
                go_upto_region 27 with fail
                refine wp_region_plan [(0, false), (1, false), (2, false), (3, false), (4, false), (5, false), (6, false), (7, false), (8, false), (9, false), (10, false), (11, false), (12, true), (13, false), (14, false)] (fun u => Below wc.heap.size wc u) (by kernel_rfl) (by kernel_rfl) (Below.refl _ _).drew ?_
                iterate 12 (refine' plan_val rfl rfl (fun w' hS => ?_) ?_; rotate_left; (focus (have hx1 := HCV1.out w' hS; have hx2 := HCV2.out w' hS; first | (go_simp; rfl) | (go_simp; done))); simp only [Act.put, List.setIfInBounds_toArray, List.set_cons_zero, List.set_cons_succ])
                refine plan_do rfl (fun K hK => ?_)
                go_wp2_with (go_at_call 27; go_loud (refine (HWY.out _ (Below.refl _ _).drew).mono ?_); rintro e wy ⟨rfl, hb⟩; have HBE := Lib.hid hb; clear hb)
                refine hK _ _ HBE.out ?_
                clear hK K
                iterate 2 (refine' plan_val rfl rfl (fun w' hS => ?_) ?_; rotate_left; (focus (have hx1 := HCV1.out w' hS; have hx2 := HCV2.out w' hS; first | (go_simp; rfl) | (go_simp; done))); simp only [Act.put, List.setIfInBounds_toArray, List.set_cons_zero, List.set_cons_succ])
                refine plan_nil ?_
                go_wp2_with fail
                go_ret
                exact ⟨rfl, HBZ.out.trans (HBE.out.mono (below_le HCQ HBZ.out))⟩
            · have HQE : Hid (l = [] ∧ k = g) := Lib.hid (by
                have hq : sealM L p = ([], g) := by unfold sealM; rw [if_pos hm, hT, if_neg hg]
                have hr := hq.symm.trans HSR.out
                injection hr with h1 h2
                exact ⟨h1.symm, h2.symm⟩)
              obtain ⟨rfl, rfl⟩ := HQE.out
              obtain rfl : ll = 0 := by rw [← HLL.out]; rfl
              have n1 : (k != 0) = true := by rw [bne_iff_ne]; exact hg
              have n2 := int_same k
              clear hT hm hg
              go_upto_region 24 with (first
                | ((with_reducible refine wpList_at (.load 38 (.tmp 3)) rfl ?_); go_loud (refine wpList_load_mid rfl 38 _ rfl C 0 rfl (pktA p) _ (range_row HPC.out) Tryz.underlying38 rfl (by kernel_rfl) ?_))
                | (go_at_call 21; go_loud (refine HTM.out.mono ?_); rintro e w6 ⟨rfl, hb⟩; have HU6 := Lib.hid hb; clear hb))
              have HB6 : Hid (Below C W w6) := Lib.hid (HBX.out.trans (HU6.out.mono (below_le HCQ HBX.out)))
              go_wp2_with (go_at_call 27; refine (HWX.out _ HB6.out).mono ?_; rintro e u ⟨rfl, hb⟩; have HBU := Lib.hid hb; clear hb)
              go_ret
              exact ⟨rfl, HBU.out⟩
          · rw [decide_eq_false hm]
            have HQE : Hid (l = [] ∧ k = 1) := Lib.hid (by
              have hq : sealM L p = ([], 1) := by unfold sealM; rw [if_neg hm]
              have hr := hq.symm.trans HSR.out
              injection hr with h1 h2
              exact ⟨h1.symm, h2.symm⟩)
            obtain ⟨rfl, rfl⟩ := HQE.out
            obtain rfl : ll = 0 := by rw [← HLL.out]; rfl
            clear hm
            go_wp2_with (go_at_call 27; refine (HWX.out _ HBX.out).mono ?_; rintro e u ⟨rfl, hb⟩; have HBU := Lib.hid hb; clear hb)
            go_ret
            exact ⟨rfl, HBU.out⟩
end Go.Proofs.YtgfijlamhjjecaaGreatDoor
