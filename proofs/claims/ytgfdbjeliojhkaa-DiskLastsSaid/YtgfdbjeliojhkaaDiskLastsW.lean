/-
  DiskLastsW: the walk of DiskLasts. No condition beyond those stated.
-/
import Derived.Test.YtgfdbjeliojhkaaDiskLastsQ
import Derived.WalkHide
namespace Go.Proofs.Ytgfdbjeliojhkaa
open Go.RowKit

set_option maxRecDepth 100000 in
set_option maxHeartbeats 8000000 in
theorem diskLasts_main (n an mn : Nat) (hn1 : 1 ≤ n) (hn2 : n ≤ 40) (av : Value) (R : Nat → ActR) (mv : Value) (R' : Nat → ActR) (fv : Value) (fl : Nat) (fg : Nat → Int) (w : World) (hA : ActsAt w av an R) (hM : ActsAt w mv mn R') (hF : IntsAt w fv fl fg) (hg : greatP an R = false) (hgm : greatP mn R' = false) (hfl : fl ≤ 60) :
    Calls Try.prog 4 #[.int .i64 (n : Int), av, mv, fv] w fun e w' => e = .returned (.bool true) ∧ Below w.heap.size w w' := by
  have HA := Lib.hid hA
  have HM' := Lib.hid hM
  have HF := Lib.hid hF
  have HG := Lib.hid (greatP_false hg)
  have HGM := Lib.hid (greatP_false hgm)
  have han := HG.out.1
  have hmn := HGM.out.1
  have hfl' : (fl : Int) ≤ 60 := by omega
  obtain ⟨ao, acap, rfl, ha1, ha2, _⟩ := hA
  obtain ⟨mo, mcap, rfl, hm1, hm2, _⟩ := hM
  obtain ⟨fo, fcap, rfl, hf1, hf2, _⟩ := hF
  unfold maxLen at ha2 hf2 hm2
  have hga := great_any w HA.out
  have hgb := great_any w HM'.out
  rw [hg] at hga
  rw [hgm] at hgb
  have HGA := Lib.hid hga
  have HGB := Lib.hid hgb
  clear hg hga hgm hgb
  go_enter Try.func4, Try.ntmps4
  go_wp2_with fail
  refine HGA.out.mono ?_
  rintro e w' ⟨rfl, rfl⟩
  go_wp2_with fail
  refine HGB.out.mono ?_
  rintro e w' ⟨rfl, rfl⟩
  go_wp2_with fail
  refine (new_ok n w hn1 (by omega)).mono ?_
  rintro e w1 ⟨rfl, hd1, hf1, hs1⟩
  have HX1 := Lib.hid (show DiskAt w1 (w.heap.size + 2) w.heap.size (w.heap.size + 1) (dk n (fun _ => 0) fun _ => none) from hd1)
  have HB1 := Lib.hid hf1.below
  clear hd1 hf1
  go_wp2_with fail
  go_loopw [11] (fun i wr => ∃ (k : Nat) (L : Sec) (M : Nat → Option Sec), k ≤ an ∧ i = .int .i64 (k : Int) ∧ DiskAt wr (w.heap.size + 2) w.heap.size (w.heap.size + 1) (dk n L M) ∧ Below w.heap.size w wr)
    (fun i _ => an - (intOf i).toNat)
  case atStart => exact ⟨0, _, _, Nat.zero_le _, rfl, HX1.out, HB1.out⟩
  case round =>
    obtain ⟨k, L, M, hk, rfl, hx, hbw⟩ := hrel
    have HX := Lib.hid hx
    have HBW := Lib.hid hbw
    have hszr := hx.db_lt
    clear hx hbw
    by_cases hlt : k < an
    · obtain ⟨ao', acap', he, _, _, hR⟩ := HA.out
      obtain ⟨ab, aoff, rfl, hR2⟩ := hR (by omega)
      obtain ⟨rfl, rfl⟩ : ao = some ⟨ab, aoff, none⟩ ∧ acap = acap' := by simpa using he
      have hact := hR2 k hlt
      have hactW := hact.below HBW.out
      have hg := HG.out.2 k hlt
      have c0 := hactW.c0
      have c1 := hactW.c1
      have c3 := hactW.c3
      have c4 := hactW.c4
      obtain ⟨bo, bc, hbv, hb1, hb2, hb3, hb4⟩ := hact.hb
      rw [hbv] at c3
      have hbB := hact.hb
      rw [hbv] at hbB
      have HBB := Lib.hid hbB
      have HFF := Lib.hid hact.hf
      unfold maxLen at hb2
      have hkn : (k : Int) < (an : Int) := by omega
      have hd1 := hact.d1
      have hd2 := hact.d2
      have hact1 := hact.a1
      have hact2 := hact.a2
      clear hact hactW he hR hR2 hg hbv hbB hb3 hb4
      by_cases hk0 : (R k).d % 6 = 0
      · have t0 : ((R k).d % 6 == 0) = true := by simp [hk0]
        clear hk0
        by_cases hE : mayE (dk n L M) (R k).at_ (secs (R k).bl) = 0
        · skip
          obtain ⟨a, m, ha, hm, ham⟩ := mayE_ok (D := dk n L M) rfl hE
          rw [ha] at c1
          have HM := Lib.hid hm
          have HAM := Lib.hid ham
          clear hE hm ha ham
          go_wp2_with fail
          refine wp_region_still_tail 11 (by kernel_rfl) (by kernel_rfl) ?_
          simp only [List.take_succ_cons, List.take_zero, List.drop_succ_cons, List.drop_zero]
          iterate 11 still_step
          refine wpStill_nil ?_
          change wpList _ _ _ _ _ wr.drew
          go_wp2_with fail
          refine (write_ok (D := dk n L M) a m _ (R k).bf wr.drew (HX.out.cong rfl rfl rfl) (by rw [← HM.out]; exact HBB.out.below HBW.out.drew) (fun h0 b hb => by have := HBB.out.lt (by rw [HM.out]; omega) b hb; omega) rfl HAM.out (by show (-1 : Int) ≠ 0; decide)).mono ?_
          rintro e w4 ⟨rfl, hd4, hf4⟩
          rw [dk_burn] at hd4
          have HX4 := Lib.hid (show DiskAt w4 (w.heap.size + 2) w.heap.size (w.heap.size + 1) (dk n L ((dk n L M).write a m (R k).bf).M) from hd4)
          have HB4 := Lib.hid (HBW.out.drew.trans (hf4.belowB (B := w.heap.size) (by show w.heap.size ≤ wr.heap.size; omega) (by simp only [List.mem_cons, List.not_mem_nil, or_false]; omega)))
          clear hd4 hf4 c0 c1 c3 c4
          go_wp2_with fail
          go_roundw
          case rel => exact ⟨k + 1, _, _, by omega, by go_num, HX4.out, HB4.out⟩
          case measure => simp [intOf] <;> omega
        · skip
          have HE := Lib.hid hE
          clear hE
          go_wp2_with fail
          refine wp_region_still_tail 11 (by kernel_rfl) (by kernel_rfl) ?_
          simp only [List.take_succ_cons, List.take_zero, List.drop_succ_cons, List.drop_zero]
          iterate 11 still_step
          refine wpStill_nil ?_
          change wpList _ _ _ _ _ wr.drew
          go_wp2_with fail
          refine (write_err (D := dk n L M) _ _ _ _ (by unfold maxLen; omega) wr.drew (HX.out.cong rfl rfl rfl) hact1 hact2 HE.out).mono ?_
          rintro e w' ⟨rfl, rfl⟩
          go_wp2_with fail
          go_roundw
          case rel => exact ⟨k + 1, L, M, by omega, by go_num, HX.out.cong rfl rfl rfl, HBW.out.drew⟩
          case measure => simp [intOf] <;> omega
      · have t0 : ((R k).d % 6 == 0) = false := by simp [hk0]
        by_cases hk2 : (R k).d % 6 = 2
        · have t2 : ((R k).d % 6 == 2) = true := by simp [hk2]
          clear hk0 hk2
          go_wp2_with fail
          refine (sync_ok wr HX.out rfl (by show (-1 : Int) ≠ 0; decide)).mono ?_
          rintro e w4 ⟨rfl, hd4, hf4⟩
          rw [dk_burn] at hd4
          have HX4 := Lib.hid (show DiskAt w4 (w.heap.size + 2) w.heap.size (w.heap.size + 1) (dk n (dk n L M).now fun _ => none) from hd4)
          have HB4 := Lib.hid (HBW.out.trans (hf4.belowB (B := w.heap.size) (by omega) (by simp only [List.mem_cons, List.not_mem_nil, or_false]; omega)))
          clear hd4 hf4 c0 c1 c3 c4
          go_wp2_with fail
          go_roundw
          case rel => exact ⟨k + 1, _, _, by omega, by go_num, HX4.out, HB4.out⟩
          case measure => simp [intOf] <;> omega
        · have t2 : ((R k).d % 6 == 2) = false := by simp [hk2]
          by_cases hk5 : (R k).d % 6 = 5
          · have t5 : ((R k).d % 6 == 5) = true := by simp [hk5]
            clear hk0 hk2 hk5
            obtain ⟨fo2, fc2, hfv, _, _, _, _⟩ := HFF.out
            rw [hfv] at c4
            have hff := HFF.out
            rw [hfv] at hff
            have HFV := Lib.hid hff
            clear hfv hff
            go_wp2_with fail
            refine (restart_some (D := dk n L M) wr HX.out _ (R k).fl (R k).fg (HFV.out.below HBW.out) (fun h0 b hb => by have := HFV.out.lt h0 b hb; omega)).mono ?_
            rintro e w4 ⟨rfl, hd4, hf4⟩
            have HX4 := Lib.hid (show DiskAt w4 (w.heap.size + 2) w.heap.size (w.heap.size + 1) (dk n ((dk n L M).restart (fateN (R k).fl (R k).fg)).L fun _ => none) from hd4)
            have HB4 := Lib.hid (HBW.out.trans (hf4.belowB (B := w.heap.size) (by omega) (by simp only [List.mem_cons, List.not_mem_nil, or_false]; omega)))
            clear hd4 hf4 c0 c1 c3 c4
            go_wp2_with fail
            go_roundw
            case rel => exact ⟨k + 1, _, _, by omega, by go_num, HX4.out, HB4.out⟩
            case measure => simp [intOf] <;> omega
          · have t5 : ((R k).d % 6 == 5) = false := by simp [hk5]
            clear hk0 hk2 hk5
            go_wp2_with fail
            go_roundw
            case rel => exact ⟨k + 1, L, M, by omega, by go_num, HX.out, HBW.out⟩
            case measure => simp [intOf] <;> omega
    · obtain rfl : k = an := by omega
      have hkk : ¬ (k : Int) < (k : Int) := by omega
      go_wp2_with fail
      refine (sync_ok wr HX.out rfl (by show (-1 : Int) ≠ 0; decide)).mono ?_
      rintro e w4 ⟨rfl, hd4, hf4⟩
      rw [dk_burn] at hd4
      obtain ⟨L1, hL1⟩ : ∃ L1, (dk n L M).now = L1 := ⟨_, rfl⟩
      rw [hL1] at hd4
      have HX4 := Lib.hid (show DiskAt w4 (w.heap.size + 2) w.heap.size (w.heap.size + 1) (dk n L1 fun _ => none) from hd4)
      have HB4 := Lib.hid (HBW.out.trans (hf4.belowB (B := w.heap.size) (by omega) (by simp only [List.mem_cons, List.not_mem_nil, or_false]; omega)))
      have hz4 := hf4.size
      clear hd4 hf4 hL1 HX HBW
      go_wp2_with fail
      refine (waiting_some _ HX4.out).mono ?_
      rintro e w' ⟨rfl, rfl⟩
      rw [show cntM (dk n L1 fun _ => none).M (dk n L1 fun _ => none).n = 0 from cnt_none n]
      go_wp2_with fail
      refine (read_all n _ HX4.out rfl rfl hn1).mono ?_
      rintro e w5 ⟨sb, soff, sc, rfl, hs1, hs2, hsr, hs3, hs4, hf5⟩
      rw [show (dk n L1 fun _ => none).now = L1 from rfl] at hsr
      have HX5 := Lib.hid (HX4.out.fr0 hf5)
      have HB5 := Lib.hid (HB4.out.trans (hf5.belowB (B := w.heap.size) (by omega) (by simp)))
      have HSR := Lib.hid hsr
      have hz5 := hf5.size
      have hmk := run_make_bools n (by omega)
      clear hsr hf5 HX4 HB4
      go_wp2_with fail
      obtain ⟨w6, hw6⟩ : ∃ w6, w5.alloc (.cells (valA n fun _ => .bool false) 4) = w6 := ⟨_, rfl⟩
      have HX6 := Lib.hid (show DiskAt w6 _ _ _ _ by rw [← hw6]; exact HX5.out.fr0 (Fr.alloc _ _ _))
      have HS6 := Lib.hid (show w6.rangeAt sb soff (rowL (64 * n) L1) by rw [← hw6]; exact rangeAt_alloc' HSR.out _)
      have HW6 := Lib.hid (show w6.heap[w5.heap.size]? = some (.cells (valA n fun j => .bool ((fun _ => false) j)) 4 (0, 0)) by
        rw [← hw6]; exact heap_alloc_new _ _)
      have HB6 := Lib.hid (show Below w.heap.size w w6 by rw [← hw6]; exact HB5.out.trans ((Fr.alloc [] w5 _).belowB (B := w.heap.size) (by omega) (by simp)))
      have hz6 : w6.heap.size = w5.heap.size + 1 := by rw [← hw6]; simp
      rw [hw6]
      obtain ⟨wb, hwb⟩ : ∃ wb, w5.heap.size = wb := ⟨_, rfl⟩
      rw [hwb] at HW6 hz6 hs4 hz5 ⊢
      clear hw6 hmk HX5 HSR HB5 hwb
      go_loopw [15] (fun i wr => ∃ (k : Nat) (M : Nat → Option Sec) (S : Nat → Bool), k ≤ mn ∧ i = .int .i64 (k : Int) ∧ DiskAt wr (w.heap.size + 2) w.heap.size (w.heap.size + 1) (dk n L1 M) ∧
          wr.heap[wb]? = some (.cells (valA n fun j => .bool (S j)) 4 (0, 0)) ∧ WOk n M S ∧ wr.rangeAt sb soff (rowL (64 * n) L1) ∧ Below w.heap.size w wr)
        (fun i _ => mn - (intOf i).toNat)
      case atStart => exact ⟨0, _, _, Nat.zero_le _, rfl, HX6.out, HW6.out, (fun _ _ _ => rfl), HS6.out, HB6.out⟩
      case round =>
        obtain ⟨k', M', S, hk', rfl, hx, hw, hok, hs, hbw⟩ := hrel
        have HX := Lib.hid hx
        have HBW := Lib.hid hbw
        have HW := Lib.hid hw
        have HOK := Lib.hid hok
        have HS := Lib.hid hs
        have hszr := hx.db_lt
        have hszw := (Array.getElem?_eq_some_iff.1 hw).1
        clear hx hw hok hs hbw HX6 HS6 HW6 HB6
        by_cases hlt' : k' < mn
        · obtain ⟨mo', mcap', he, _, _, hR⟩ := HM'.out
          obtain ⟨ab, aoff, rfl, hR2⟩ := hR (by omega)
          obtain ⟨rfl, rfl⟩ : mo = some ⟨ab, aoff, none⟩ ∧ mcap = mcap' := by simpa using he
          have hact := hR2 k' hlt'
          have hactW := hact.below HBW.out
          have hg := HGM.out.2 k' hlt'
          have c0 := hactW.c0
          have c1 := hactW.c1
          have c3 := hactW.c3
          obtain ⟨bo, bc, hbv, hb1, hb2, hb3, hb4⟩ := hact.hb
          have hbv2 := hbv
          rw [hbv] at c3
          have hbB := hact.hb
          rw [hbv] at hbB
          have HBB := Lib.hid hbB
          have HACT := Lib.hid hact
          have HBV := Lib.hid hbv2
          unfold maxLen at hb2
          have hkn' : (k' : Int) < (mn : Int) := by omega
          have hd1 := hact.d1
          have hd2 := hact.d2
          have hact1 := hact.a1
          have hact2 := hact.a2
          clear hact hactW he hR hR2 hbv hbv2 hbB hb3 hb4
          by_cases hk0 : (R' k').d % 6 = 0
          · have t0 : ((R' k').d % 6 == 0) = true := by simp [hk0]
            have tm : (R' k').d.tmod 6 = 0 := by rw [Int.tmod_eq_emod_of_nonneg hd1]; exact hk0
            clear hk0
            by_cases hE : mayE (dk n L1 M') (R' k').at_ (secs (R' k').bl) = 0
            · skip
              obtain ⟨a, m, ha, hm, ham⟩ := mayE_ok (D := dk n L1 M') rfl hE
              have ham : a + m ≤ n := ham
              have ha2' := ha
              rw [ha] at c1
              have HM := Lib.hid hm
              have HAM := Lib.hid ham
              have HA2 := Lib.hid ha2'
              have hq64 : ((R' k').bl : Int) / 64 = (m : Int) := by omega
              have hq65 : ((R' k').bl : Int).tdiv 64 = (m : Int) := by rw [Int.tdiv_eq_ediv_of_nonneg (by omega)]; omega
              clear hE hm ha ham ha2'
              go_wp2_with fail
              refine wp_region_still_tail 19 (by kernel_rfl) (by kernel_rfl) ?_
              simp only [List.take_succ_cons, List.take_zero, List.drop_succ_cons, List.drop_zero]
              iterate 19 still_step
              refine wpStill_nil ?_
              change wpList _ _ _ _ _ wr.drew
              go_wp2_with fail
              refine (write_ok (D := dk n L1 M') a m _ (R' k').bf wr.drew (HX.out.cong rfl rfl rfl) (by rw [← HM.out]; exact HBB.out.below HBW.out.drew) (fun h0 b hb => by have := HBB.out.lt (by rw [HM.out]; omega) b hb; omega) rfl HAM.out (by show (-1 : Int) ≠ 0; decide)).mono ?_
              rintro e w7 ⟨rfl, hd7, hf7⟩
              rw [dk_burn] at hd7
              obtain ⟨M7, hM7⟩ : ∃ M7, ((dk n L1 M').write a m (R' k').bf).M = M7 := ⟨_, rfl⟩
              have hX7 : DiskAt w7 (w.heap.size + 2) w.heap.size (w.heap.size + 1) (dk n L1 M7) := by rw [← hM7]; exact hd7
              have HX7 := Lib.hid hX7
              have HK7 := Lib.hid (show WOk n M7 (SS S a m) by rw [← hM7]; exact HOK.out.write (L := L1) a m (R' k').bf)
              have HB7 := Lib.hid (HBW.out.drew.trans (hf7.belowB (B := w.heap.size) (by show w.heap.size ≤ wr.heap.size; omega) (by simp only [List.mem_cons, List.not_mem_nil, or_false]; omega)))
              have HW7 := Lib.hid ((hf7.block wb (by show wb < wr.heap.size; omega) (by simp only [List.mem_cons, List.not_mem_nil, or_false]; omega)).trans (show wr.drew.heap[wb]? = _ from HW.out))
              have HS7 := Lib.hid (rangeAt_congr (show wr.drew.rangeAt sb soff (rowL (64 * n) L1) from HS.out) (hf7.block sb (by show sb < wr.heap.size; omega) (by simp only [List.mem_cons, List.not_mem_nil, or_false]; omega)))
              have hz7 : wr.heap.size ≤ w7.heap.size := hf7.size
              clear hd7 hf7 hM7 hX7 c0 c1 c3 HX HW HOK HS
              go_wp2_with fail
              go_loopw [16] (fun i wq => ∃ q : Nat, q ≤ m ∧ i = .int .i64 (q : Int) ∧ wq.heap[wb]? = some (.cells (valA n fun j => .bool (SS S a q j)) 4 (0, 0)) ∧ Fr [wb] w7 wq) (fun i _ => m - (intOf i).toNat)
              case atStart => exact ⟨0, Nat.zero_le _, rfl, by rw [SS_zero]; exact HW7.out, Fr.refl _ _⟩
              case round =>
                obtain ⟨q, hq, rfl, hwq, hfq⟩ := hrel
                have HWQ := Lib.hid hwq
                have HFQ := Lib.hid hfq
                have hBq : Below w.heap.size w wr := HB7.out.trans (hfq.belowB (B := w.heap.size) (by omega) (by simp only [List.mem_singleton]; omega))
                have HBq := Lib.hid hBq
                have hactq := HACT.out.below hBq
                have c1q := hactq.c1
                have c3q := hactq.c3
                rw [HBV.out] at c3q
                rw [HA2.out] at c1q
                clear hwq hfq hBq hactq
                by_cases hqm : q < m
                · have hhm := HAM.out
                  have hx6 : 0 ≤ (a : Int) + (q : Int) := by omega
                  have hx7 : (a : Int) + (q : Int) < (n : Int) := by omega
                  have hx8 : (q : Int) < (m : Int) := by omega
                  have cst : wr.cell? ⟨wb, a + q, none⟩ = some (.bool (SS S a q (a + q))) := by
                    rw [cell_of_row wr _ (a + q) _ _ _ HWQ.out, valA_get _ (by omega)]
                  have fst := frozen_of_row wr wb (a + q) _ _ HWQ.out
                  have hw2 : IntKind.i64.wrap ((a : Int) + (q : Int)) = (a : Int) + (q : Int) := IntWalk.i64_in _ (by omega)
                  have hn4 : ((a : Int) + (q : Int)).toNat = a + q := by omega
                  clear hhm
                  go_wp2
                  go_roundw
                  case rel =>
                    refine ⟨q + 1, by omega, by go_num, ?_, HFQ.out.trans (Fr.setCell wr (by simp) _)⟩
                    have e := heap_setCell_same wr wb (a + q) _ _ (.bool true) HWQ.out
                    rw [valA_set, SS_succ] at e
                    exact e
                  case measure => simp [intOf]; omega
                · obtain rfl : q = m := by omega
                  have hqq : ¬ (q : Int) < (q : Int) := by omega
                  go_wp2
                  go_roundw
                  case rel =>
                    exact ⟨k' + 1, M7, SS S a q, by omega, by go_num, HX7.out.fr HFQ.out (by simp only [List.mem_singleton]; omega) (by simp only [List.mem_singleton]; omega) (by simp only [List.mem_singleton]; omega), HWQ.out, HK7.out, rangeAt_congr HS7.out (HFQ.out.block sb (by omega) (by simp only [List.mem_singleton]; omega)), HBq.out⟩
                  case measure => simp [intOf]; omega
            · skip
              have HE := Lib.hid hE
              have tE : (mayE (dk n L1 M') (R' k').at_ (secs (R' k').bl) == 0) = false := by simpa using hE
              clear hE
              go_wp2_with fail
              refine wp_region_still_tail 19 (by kernel_rfl) (by kernel_rfl) ?_
              simp only [List.take_succ_cons, List.take_zero, List.drop_succ_cons, List.drop_zero]
              iterate 19 still_step
              refine wpStill_nil ?_
              change wpList _ _ _ _ _ wr.drew
              go_wp2_with fail
              refine (write_err (D := dk n L1 M') _ _ _ _ (by unfold maxLen; omega) wr.drew (HX.out.cong rfl rfl rfl) hact1 hact2 HE.out).mono ?_
              rintro e w' ⟨rfl, rfl⟩
              go_wp2_with fail
              go_roundw
              case rel => exact ⟨k' + 1, M', S, by omega, by go_num, HX.out.cong rfl rfl rfl, HW.out, HOK.out, HS.out, HBW.out.drew⟩
              case measure => simp [intOf] <;> omega
          · have t0 : ((R' k').d % 6 == 0) = false := by simp [hk0]
            have tm : ¬ (R' k').d.tmod 6 = 0 := by rw [Int.tmod_eq_emod_of_nonneg hd1]; exact hk0
            clear hk0
            go_wp2_with fail
            refine wp_region_still_tail 19 (by kernel_rfl) (by kernel_rfl) ?_
            simp only [List.take_succ_cons, List.take_zero, List.drop_succ_cons, List.drop_zero]
            iterate 19 still_step
            refine wpStill_nil ?_
            change wpList _ _ _ _ _ wr.drew
            go_wp2_with fail
            go_roundw
            case rel => exact ⟨k' + 1, M', S, by omega, by go_num, HX.out.cong rfl rfl rfl, HW.out, HOK.out, HS.out, HBW.out.drew⟩
            case measure => simp [intOf] <;> omega
        · obtain rfl : k' = mn := by omega
          have hkk' : ¬ (k' : Int) < (k' : Int) := by omega
          obtain ⟨NW, hNW⟩ : ∃ NW, (dk n L1 M').now = NW := ⟨_, rfl⟩
          have hlaw0 : ∀ i, i < n → S i = false → ∀ j, j < 64 → NW (i * 64 + j) = L1 (i * 64 + j) := by
            intro i hi hs j hj
            rw [← hNW]
            exact now_none (HOK.out i hi hs) (by omega)
          have hlaw1 : ∀ i, i < n → ∃ c, c ≤ 64 ∧ ∀ j, j < 64 → (({ dk n L1 M' with dead := true } : DK).restart (fateN fl fg)).L (i * 64 + j) = if j < c then NW (i * 64 + j) else L1 (i * 64 + j) := by
            intro i hi
            rw [← hNW]
            exact restart_at ({ dk n L1 M' with dead := true } : DK) (fateN fl fg) (fateN_le fl fg) hi
          obtain ⟨LR, hLR⟩ : ∃ LR, (({ dk n L1 M' with dead := true } : DK).restart (fateN fl fg)).L = LR := ⟨_, rfl⟩
          rw [hLR] at hlaw1
          have HL0 := Lib.hid hlaw0
          have HL1 := Lib.hid hlaw1
          have HLR := Lib.hid hLR
          have HNW := Lib.hid hNW
          clear hlaw0 hlaw1 hLR hNW HOK
          have hzs : sb < wr.heap.size := by omega
          go_wp2_with fail
          refine (read_all n _ HX.out rfl rfl hn1).mono ?_
          rintro e w7 ⟨nb, noff, nc, rfl, hq1, hq2, hqr, hq3, hq4, hf7⟩
          rw [HNW.out] at hqr
          have HX7 := Lib.hid (HX.out.fr0 hf7)
          have HB7 := Lib.hid (HBW.out.trans (hf7.belowB (B := w.heap.size) (by omega) (by simp)))
          have HN7 := Lib.hid hqr
          have HS7 := Lib.hid (rangeAt_congr HS.out (hf7.block sb (by omega) (by simp)))
          have HW7 := Lib.hid ((hf7.block wb hszw (by simp)).trans HW.out)
          have hz7 := hf7.size
          clear hqr hf7 HX HW HS HBW
          go_wp2_with fail
          refine (kill_some _ HX7.out).mono ?_
          rintro e w8 ⟨rfl, hd8, hf8⟩
          have HX8 := Lib.hid hd8
          have HB8 := Lib.hid (HB7.out.trans (hf8.belowB (B := w.heap.size) (by omega) (by simp only [List.mem_cons, List.not_mem_nil, or_false]; omega)))
          have HN8 := Lib.hid (rangeAt_congr HN7.out (hf8.block nb (by omega) (by simp only [List.mem_cons, List.not_mem_nil, or_false]; omega)))
          have HS8 := Lib.hid (rangeAt_congr HS7.out (hf8.block sb (by omega) (by simp only [List.mem_cons, List.not_mem_nil, or_false]; omega)))
          have HW8 := Lib.hid ((hf8.block wb (by omega) (by simp only [List.mem_cons, List.not_mem_nil, or_false]; omega)).trans HW7.out)
          have hz8 := hf8.size
          clear hd8 hf8 HX7 HN7 HS7 HW7 HB7
          go_wp2_with fail
          have hme : ∀ a b, mayE ({ dk n L1 M' with dead := true } : DK) a b = 120 := fun a b => by simp [mayE]
          have HME := Lib.hid hme
          clear hme
          refine (read_err 0 1 _ HX8.out (by omega) (by omega) (by rw [HME.out]; decide)).mono ?_
          rw [HME.out]
          rintro e w' ⟨rfl, rfl⟩
          go_wp2_with fail
          refine (full_any 120 64 (by omega) _).mono ?_
          rintro e w9 ⟨rfl, _, hf9⟩
          have HX9 := Lib.hid (HX8.out.fr0 hf9)
          have HB9 := Lib.hid (HB8.out.trans (hf9.belowB (B := w.heap.size) (by omega) (by simp)))
          have HN9 := Lib.hid (rangeAt_congr HN8.out (hf9.block nb (by omega) (by simp)))
          have HS9 := Lib.hid (rangeAt_congr HS8.out (hf9.block sb (by omega) (by simp)))
          have HW9 := Lib.hid ((hf9.block wb (by omega) (by simp)).trans HW8.out)
          have hz9 := hf9.size
          clear hf9 HX8 HN8 HS8 HW8 HB8
          go_wp2_with fail
          refine (write_err 0 _ 64 64 (by unfold maxLen; omega) _ HX9.out (by omega) (by omega) (by rw [HME.out]; decide)).mono ?_
          rw [HME.out]
          rintro e w' ⟨rfl, rfl⟩
          go_wp2_with fail
          refine (sync_dead _ HX9.out rfl).mono ?_
          rintro e wa ⟨rfl, hfa⟩
          have HXa := Lib.hid (HX9.out.fr0 hfa)
          have HBa := Lib.hid (HB9.out.trans (hfa.belowB (B := w.heap.size) (by omega) (by simp)))
          have HNa := Lib.hid (rangeAt_congr HN9.out (hfa.block nb (by omega) (by simp)))
          have HSa := Lib.hid (rangeAt_congr HS9.out (hfa.block sb (by omega) (by simp)))
          have HWa := Lib.hid ((hfa.block wb (by omega) (by simp)).trans HW9.out)
          have hza := hfa.size
          clear hfa HX9 HN9 HS9 HW9 HB9
          go_wp2_with fail
          refine (restart_some _ HXa.out _ fl fg (HF.out.below HBa.out) (fun h0 b hb => by have := HF.out.lt h0 b hb; omega)).mono ?_
          rintro e wc ⟨rfl, hdc, hfc⟩
          have hdc : DiskAt wc (w.heap.size + 2) w.heap.size (w.heap.size + 1) (dk n LR fun _ => none) := by rw [← HLR.out]; exact hdc
          have HXc := Lib.hid hdc
          have HBc := Lib.hid (HBa.out.trans (hfc.belowB (B := w.heap.size) (by omega) (by simp only [List.mem_cons, List.not_mem_nil, or_false]; omega)))
          have HNc := Lib.hid (rangeAt_congr HNa.out (hfc.block nb (by omega) (by simp only [List.mem_cons, List.not_mem_nil, or_false]; omega)))
          have HSc := Lib.hid (rangeAt_congr HSa.out (hfc.block sb (by omega) (by simp only [List.mem_cons, List.not_mem_nil, or_false]; omega)))
          have HWc := Lib.hid ((hfc.block wb (by omega) (by simp only [List.mem_cons, List.not_mem_nil, or_false]; omega)).trans HWa.out)
          have hzc := hfc.size
          clear hdc hfc HXa HNa HSa HWa HBa
          go_wp2_with fail
          refine (read_all n _ HXc.out rfl rfl hn1).mono ?_
          rintro e we ⟨xb, xoff, xc, rfl, hx1, hx2, hxr, hx3, hx4, hfe⟩
          rw [show (dk n LR fun _ => none).now = LR from rfl] at hxr
          have HXe := Lib.hid (HXc.out.fr0 hfe)
          have HBe := Lib.hid (HBc.out.trans (hfe.belowB (B := w.heap.size) (by omega) (by simp)))
          have HRe := Lib.hid hxr
          have HNe := Lib.hid (rangeAt_congr HNc.out (hfe.block nb (by omega) (by simp)))
          have HSe := Lib.hid (rangeAt_congr HSc.out (hfe.block sb (by omega) (by simp)))
          have HWe := Lib.hid ((hfe.block wb (by omega) (by simp)).trans HWc.out)
          have hze := hfe.size
          have hlen : (64 * (n : Int) == (n : Int) * 64) = true := by simp; omega
          have hlen2 : (64 * (n : Int) != (n : Int) * 64) = false := by simp; omega
          clear hxr hfe HXc HNc HSc HWc HBc
          go_wp2_with fail
          refine (waiting_some _ HXe.out).mono ?_
          rintro e w' ⟨rfl, rfl⟩
          rw [show cntM (dk n LR fun _ => none).M (dk n LR fun _ => none).n = 0 from cnt_none n]
          go_wp2_with fail
          refine (dead_some _ HXe.out).mono ?_
          rintro e w' ⟨rfl, rfl⟩
          rw [show (dk n LR fun _ => none).dead = false from rfl]
          go_wp2_with fail
          have hz1 : wb < we.heap.size := by omega
          have hz2 : sb < we.heap.size := by omega
          have hz3 : nb < we.heap.size := by omega
          have hz0 : w.heap.size ≤ we.heap.size := by omega
          clear hlen hlen2 HME HLR HNW HXe hza hzc hze hz7 hz8 hz9 hzs hz4 hz5 hz6 hszw
          go_loopw [23] (fun i wr => ∃ (i' : Nat), i' ≤ n ∧ i = .int .i64 (i' : Int) ∧ Fr [] we wr) (fun i _ => n - (intOf i).toNat)
          case atStart => exact ⟨0, Nat.zero_le _, rfl, Fr.refl _ _⟩
          case round =>
            go_hideQ
            obtain ⟨i, hi, rfl, hfi⟩ := hrel
            have HFI := Lib.hid hfi
            clear hfi
            by_cases hin : i < n
            · have hR := rangeAt_congr HRe.out (HFI.out.block xb (by omega) (by simp))
              have hN := rangeAt_congr HNe.out (HFI.out.block nb (by omega) (by simp))
              have hS := rangeAt_congr HSe.out (HFI.out.block sb (by omega) (by simp))
              have hW := (HFI.out.block wb (by omega) (by simp)).trans HWe.out
              have HR := Lib.hid hR
              have HN := Lib.hid hN
              have HS := Lib.hid hS
              have HW := Lib.hid hW
              have hnn : (i : Int) < (n : Int) := by omega
              clear hR hN hS hW
              have hx2' : xc ≤ 9223372036854775807 := by unfold maxLen at hx2; omega
              have hq2' : nc ≤ 9223372036854775807 := by unfold maxLen at hq2; omega
              have hs2' : sc ≤ 9223372036854775807 := by unfold maxLen at hs2; omega
              have hw1 : IntKind.i64.wrap ((i : Int) * 64) = (i : Int) * 64 := IntWalk.i64_in _ (by omega)
              have hw3 : IntKind.i64.wrap ((i : Int) + 1) = (i : Int) + 1 := IntWalk.i64_in _ (by omega)
              have hw4 : IntKind.i64.wrap (((i : Int) + 1) * 64) = ((i : Int) + 1) * 64 := IntWalk.i64_in _ (by omega)
              have hn1' : ((i : Int) * 64).toNat = i * 64 := by omega
              have hn2' : (((i : Int) + 1) * 64).toNat - i * 64 = 64 := by omega
              have HN1 := Lib.hid hn1'
              have HN2 := Lib.hid hn2'
              clear hn1' hn2'
              go_wp2_with fail
              refine wp_region_plan [(0, false), (1, false), (2, false), (3, false), (4, false), (5, false), (6, false), (7, false), (8, false), (9, false), (10, false), (11, false), (12, false), (13, false), (14, false), (15, false), (16, false), (17, false), (18, false), (19, false), (20, false), (21, false), (22, false), (23, false)] (fun _ => True) (by kernel_rfl) (by kernel_rfl) trivial ?_
              iterate 6 (refine' plan_val rfl rfl (fun w' hS => ?_) ?_; rotate_left; (focus (go_simp; rfl)); simp only [Act.put, List.setIfInBounds_toArray, List.set_cons_zero, List.set_cons_succ])
              refine plan_val rfl rfl (fun w' _ => exec_sl_lh (t := 31) (x := .tmp 223) (lo := .tmp 225) (hi := .tmp 228) rfl rfl rfl rfl (by omega) (by omega) (by omega) Try.underlying31 isz_u8) ?_
              simp only [Act.put, List.setIfInBounds_toArray, List.set_cons_zero, List.set_cons_succ]
              rw [HN1.out, HN2.out, slQ_in (show i * 64 < xc by omega)]
              iterate 6 (refine' plan_val rfl rfl (fun w' hS => ?_) ?_; rotate_left; (focus (go_simp; rfl)); simp only [Act.put, List.setIfInBounds_toArray, List.set_cons_zero, List.set_cons_succ])
              refine plan_val rfl rfl (fun w' _ => exec_sl_lh (t := 31) (x := .tmp 230) (lo := .tmp 232) (hi := .tmp 235) rfl rfl rfl rfl (by omega) (by omega) (by omega) Try.underlying31 isz_u8) ?_
              simp only [Act.put, List.setIfInBounds_toArray, List.set_cons_zero, List.set_cons_succ]
              rw [HN1.out, HN2.out, slQ_in (show i * 64 < sc by omega)]
              iterate 6 (refine' plan_val rfl rfl (fun w' hS => ?_) ?_; rotate_left; (focus (go_simp; rfl)); simp only [Act.put, List.setIfInBounds_toArray, List.set_cons_zero, List.set_cons_succ])
              refine plan_val rfl rfl (fun w' _ => exec_sl_lh (t := 31) (x := .tmp 237) (lo := .tmp 239) (hi := .tmp 242) rfl rfl rfl rfl (by omega) (by omega) (by omega) Try.underlying31 isz_u8) ?_
              simp only [Act.put, List.setIfInBounds_toArray, List.set_cons_zero, List.set_cons_succ]
              rw [HN1.out, HN2.out, slQ_in (show i * 64 < nc by omega)]
              iterate 3 (refine' plan_val rfl rfl (fun w' hS => ?_) ?_; rotate_left; (focus (go_simp; rfl)); simp only [Act.put, List.setIfInBounds_toArray, List.set_cons_zero, List.set_cons_succ])
              refine plan_nil ?_
              obtain ⟨wi, hwi⟩ : ∃ wi, wr.drew = wi := ⟨_, rfl⟩
              have HFW := Lib.hid (show Fr [] wr wi by rw [← hwi]; exact Fr.drew _ _)
              rw [hwi]
              clear hwi hw1 hw3 hw4
              go_wp2_with fail
              go_hideQ
              go_loopw [27] (fun i5 wq => ∃ c : Nat, c ≤ 64 ∧ i5 = .int .i64 (c : Int) ∧ Hid (∀ j, j < c → LR (i * 64 + j) = NW (i * 64 + j)) ∧ Hid (Fr [] wi wq)) (fun i5 _ => 64 - (intOf i5).toNat)
              case atStart => exact ⟨0, Nat.zero_le _, rfl, Lib.hid (fun j hj => absurd hj (by omega)), Lib.hid (Fr.refl _ _)⟩
              case round =>
                go_hideQ
                obtain ⟨c, hc, rfl, HSM, HFV⟩ := hrel
                have HFC := Lib.hid (HFW.out.trans HFV.out)
                have hRw := rangeAt_congr HR.out (HFC.out.block xb (by have := HFI.out.size; omega) (by simp))
                have hNw := rangeAt_congr HN.out (HFC.out.block nb (by have := HFI.out.size; omega) (by simp))
                have hSw := rangeAt_congr HS.out (HFC.out.block sb (by have := HFI.out.size; omega) (by simp))
                have hWw := (HFC.out.block wb (by have := HFI.out.size; omega) (by simp)).trans HW.out
                have HRw := Lib.hid hRw
                have HNw := Lib.hid hNw
                have HSw := Lib.hid hSw
                have HWw := Lib.hid hWw
                clear hRw hNw hSw hWw
                have HFX := Lib.hid (HFI.out.trans HFC.out)
                by_cases hc64 : c < 64
                · have cx := HRw.out (i * 64 + c) _ (rowL_get _ (by omega))
                  have cy := HNw.out (i * 64 + c) _ (rowL_get _ (by omega))
                  rw [← Nat.add_assoc] at cx cy
                  unfold bv at cx cy
                  have hcc : (c : Int) < 64 := by omega
                  have hcc2 : 0 ≤ (c : Int) := by omega
                  by_cases hxy : LR (i * 64 + c) = NW (i * 64 + c)
                  · rw [hxy] at cx
                    have HXY := Lib.hid hxy
                    obtain ⟨x, hx⟩ : ∃ x : Int, ((NW (i * 64 + c)).toNat : Int) = x := ⟨_, rfl⟩
                    rw [hx] at cx cy
                    have CX := Lib.hid cx
                    have CY := Lib.hid cy
                    clear hx hxy cx cy
                    go_wp2_with fail
                    refine wp_region_plan [(0, false), (1, false), (2, false), (3, false), (4, false), (5, false), (6, false), (7, false), (8, false), (9, false), (10, false), (11, false), (12, false)] (fun w' => w'.cell? ⟨xb, xoff + i * 64 + c, none⟩ = some (.int .u8 x) ∧ w'.cell? ⟨nb, noff + i * 64 + c, none⟩ = some (.int .u8 x)) (by kernel_rfl) (by kernel_rfl) ⟨CX.out, CY.out⟩ ?_
                    iterate 13 (refine' plan_val rfl rfl (fun w' hS => ?_) ?_; rotate_left; (focus (obtain ⟨hS1, hS2⟩ := hS; go_simp; rfl)); simp only [Act.put, List.setIfInBounds_toArray, List.set_cons_zero, List.set_cons_succ])
                    refine plan_nil ?_
                    go_wp2_with fail
                    go_roundw
                    case rel =>
                      exact ⟨c + 1, by omega, by go_num, Lib.hid (fun j hj => by
                        by_cases e : j = c
                        · subst e; exact HXY.out
                        · exact HSM.out j (by omega)), Lib.hid (HFV.out.trans (Fr.drew _ _))⟩
                    case measure => simp [intOf] <;> omega
                  · have hxy' : ¬ ((LR (i * 64 + c)).toNat : Int) = ((NW (i * 64 + c)).toNat : Int) := by
                      intro h; exact hxy (UInt8.toNat_inj.1 (by omega))
                    have HL := Lib.hid (show c = 64 ∨ ¬ LR (i * 64 + c) = NW (i * 64 + c) from .inr hxy)
                    obtain ⟨x, hx⟩ : ∃ x : Int, ((LR (i * 64 + c)).toNat : Int) = x := ⟨_, rfl⟩
                    obtain ⟨y, hy⟩ : ∃ y : Int, ((NW (i * 64 + c)).toNat : Int) = y := ⟨_, rfl⟩
                    rw [hx] at cx hxy'
                    rw [hy] at cy hxy'
                    have txy : (x == y) = false := by simpa using hxy'
                    have CX := Lib.hid cx
                    have CY := Lib.hid cy
                    clear hx hy hxy cx cy
                    go_wp2_with fail
                    refine wp_region_plan [(0, false), (1, false), (2, false), (3, false), (4, false), (5, false), (6, false), (7, false), (8, false), (9, false), (10, false), (11, false), (12, false)] (fun w' => w'.cell? ⟨xb, xoff + i * 64 + c, none⟩ = some (.int .u8 x) ∧ w'.cell? ⟨nb, noff + i * 64 + c, none⟩ = some (.int .u8 y)) (by kernel_rfl) (by kernel_rfl) ⟨CX.out, CY.out⟩ ?_
                    iterate 13 (refine' plan_val rfl rfl (fun w' hS => ?_) ?_; rotate_left; (focus (obtain ⟨hS1, hS2⟩ := hS; go_simp; rfl)); simp only [Act.put, List.setIfInBounds_toArray, List.set_cons_zero, List.set_cons_succ])
                    refine plan_nil ?_
                    clear txy hxy' CX CY
                    obtain ⟨wj, hwj⟩ : ∃ wj, wr.drew = wj := ⟨_, rfl⟩
                    have HFJ := Lib.hid (show Fr [] wr wj by rw [← hwj]; exact Fr.drew _ _)
                    rw [hwj]
                    clear hwj
                    go_wp2_with fail
                    have hszx := HFX.out.size
                    have hS0 : Hid (wj.drew.rangeAt xb (xoff + i * 64) (rowL 64 fun j => LR (i * 64 + j)) ∧ wj.drew.rangeAt sb (soff + i * 64) (rowL 64 fun j => L1 (i * 64 + j)) ∧ wj.drew.cell? ⟨wb, i, none⟩ = some (.bool (S i))) := Lib.hid (by
                      have hf : Fr [] wr wj.drew := HFJ.out.trans (Fr.drew _ _)
                      refine ⟨rangeAt_sub (rangeAt_congr HRw.out (hf.block xb (by omega) (by simp))) (i * 64) 64 (by omega), rangeAt_sub (rangeAt_congr HSw.out (hf.block sb (by omega) (by simp))) (i * 64) 64 (by omega), ?_⟩
                      rw [cell_of_row wj.drew wb i _ _ _ ((hf.block wb (by omega) (by simp)).trans HWw.out), valA_get _ hin])
                    have HE1 := Lib.hid (tail_eq hc (HL1.out i hin) HL.out)
                    have HE2 := Lib.hid (fun h : S i = false => whole_eq (HL1.out i hin) (HL0.out i hin h))
                    have hS0' : wj.drew.rangeAt xb (xoff + i * 64) (rowL 64 fun j => LR (i * 64 + j)) ∧ wj.drew.rangeAt sb (soff + i * 64) (rowL 64 fun j => L1 (i * 64 + j)) ∧ wj.drew.cell? ⟨wb, i, none⟩ = some (.bool (S i)) := hS0.out
                    refine wp_region_plan [(0, false), (1, false), (2, false), (3, false), (4, false), (5, false), (6, false), (7, false), (8, false), (9, false), (10, false), (11, false), (12, false), (13, false), (14, false), (15, false), (16, false), (17, false), (18, false), (19, false), (20, false), (21, false), (22, false)]
                      (fun w' => Hid (w'.rangeAt xb (xoff + i * 64) (rowL 64 fun j => LR (i * 64 + j)) ∧ w'.rangeAt sb (soff + i * 64) (rowL 64 fun j => L1 (i * 64 + j)) ∧ w'.cell? ⟨wb, i, none⟩ = some (.bool (S i)))) (by kernel_rfl) (by kernel_rfl) hS0 ?_
                    clear hS0'
                    iterate 2 (refine' plan_val rfl rfl (fun w' hS => ?_) ?_; rotate_left; (focus (go_simp; rfl)); simp only [Act.put, List.setIfInBounds_toArray, List.set_cons_zero, List.set_cons_succ])
                    refine plan_val rfl rfl (fun w' _ => exec_sl_l (t := 31) (x := .tmp 259) (lo := .tmp 260) (k := c) rfl rfl rfl hc Try.underlying31 isz_u8) ?_
                    simp only [Act.put, List.setIfInBounds_toArray, List.set_cons_zero, List.set_cons_succ]
                    refine plan_val rfl rfl (fun w' hS => exec_convert (src := 31) (dst := 9) (x := .tmp 261) rfl rfl (conv_slQ hS.out.1 c hc (by omega) _)) ?_
                    simp only [Act.put, List.setIfInBounds_toArray, List.set_cons_zero, List.set_cons_succ]
                    iterate 2 (refine' plan_val rfl rfl (fun w' hS => ?_) ?_; rotate_left; (focus (go_simp; rfl)); simp only [Act.put, List.setIfInBounds_toArray, List.set_cons_zero, List.set_cons_succ])
                    refine plan_val rfl rfl (fun w' _ => exec_sl_l (t := 31) (x := .tmp 263) (lo := .tmp 264) (k := c) rfl rfl rfl hc Try.underlying31 isz_u8) ?_
                    simp only [Act.put, List.setIfInBounds_toArray, List.set_cons_zero, List.set_cons_succ]
                    refine plan_val rfl rfl (fun w' hS => exec_convert (src := 31) (dst := 9) (x := .tmp 265) rfl rfl (conv_slQ hS.out.2.1 c hc (by omega) _)) ?_
                    simp only [Act.put, List.setIfInBounds_toArray, List.set_cons_zero, List.set_cons_succ]
                    have hE1 := HE1.out
                    simp only [Nat.add_assoc] at hE1
                    rw [hE1]
                    obtain ⟨SX, hSX⟩ : ∃ SX, strOf (64 - c) (fun j => L1 (i * 64 + (c + j))) = SX := ⟨_, rfl⟩
                    rw [hSX]
                    clear hE1 hSX
                    iterate 4 (refine' plan_val rfl rfl (fun w' hS => ?_) ?_; rotate_left; (focus (go_simp; rfl)); simp only [Act.put, List.setIfInBounds_toArray, List.set_cons_zero, List.set_cons_succ])
                    have hnni : (i : Int) < (n : Int) := by omega
                    (refine' plan_val rfl rfl (fun w' hS => ?_) ?_; rotate_left; (focus (go_simp; rfl)); simp only [Act.put, List.setIfInBounds_toArray, List.set_cons_zero, List.set_cons_succ])
                    cases hSi : S i with
                    | true =>
                      have HSi := Lib.hid hSi
                      clear hSi
                      (refine' plan_val rfl rfl (fun w' hS => ?_) ?_; rotate_left; (focus (have hS1 := hS.out.2.2; go_simp; rfl)); simp only [Act.put, List.setIfInBounds_toArray, List.set_cons_zero, List.set_cons_succ])
                      iterate 2 (refine' plan_val rfl rfl (fun w' hS => ?_) ?_; rotate_left; (focus (go_simp; rfl)); simp only [Act.put, List.setIfInBounds_toArray, List.set_cons_zero, List.set_cons_succ])
                      iterate 5 (refine plan_skip rfl rfl ?_; simp only [Act.put, List.setIfInBounds_toArray, List.set_cons_zero, List.set_cons_succ])
                      iterate 2 (refine' plan_val rfl rfl (fun w' hS => ?_) ?_; rotate_left; (focus (go_simp; rfl)); simp only [Act.put, List.setIfInBounds_toArray, List.set_cons_zero, List.set_cons_succ])
                      refine plan_nil ?_
                      go_wp2_with fail
                      go_roundw
                      case rel => exact ⟨i + 1, by omega, by go_num, HFX.out.trans (HFJ.out.trans (Fr.drew _ _))⟩
                      case measure => simp [intOf] <;> omega
                    | false =>
                      have HSi := Lib.hid hSi
                      clear hSi
                      (refine' plan_val rfl rfl (fun w' hS => ?_) ?_; rotate_left; (focus (have hS1 := hS.out.2.2; go_simp; rfl)); simp only [Act.put, List.setIfInBounds_toArray, List.set_cons_zero, List.set_cons_succ])
                      iterate 3 (refine' plan_val rfl rfl (fun w' hS => ?_) ?_; rotate_left; (focus (go_simp; rfl)); simp only [Act.put, List.setIfInBounds_toArray, List.set_cons_zero, List.set_cons_succ])
                      refine plan_val rfl rfl (fun w' hS => exec_convert (src := 31) (dst := 9) (x := .tmp 275) rfl rfl (run_bytes_string (P := Try.prog) w' 31 9 5 xb (xoff + i * 64) 64 _ _ Try.underlying31 Try.underlying5 Try.underlying9 hS.out.1)) ?_
                      simp only [Act.put, List.setIfInBounds_toArray, List.set_cons_zero, List.set_cons_succ]
                      (refine' plan_val rfl rfl (fun w' hS => ?_) ?_; rotate_left; (focus (go_simp; rfl)); simp only [Act.put, List.setIfInBounds_toArray, List.set_cons_zero, List.set_cons_succ])
                      refine plan_val rfl rfl (fun w' hS => exec_convert (src := 31) (dst := 9) (x := .tmp 277) rfl rfl (run_bytes_string (P := Try.prog) w' 31 9 5 sb (soff + i * 64) 64 _ _ Try.underlying31 Try.underlying5 Try.underlying9 hS.out.2.1)) ?_
                      simp only [Act.put, List.setIfInBounds_toArray, List.set_cons_zero, List.set_cons_succ]
                      rw [HE2.out HSi.out]
                      obtain ⟨SY, hSY⟩ : ∃ SY, strOf 64 (fun j => L1 (i * 64 + j)) = SY := ⟨_, rfl⟩
                      rw [hSY]
                      clear hSY
                      iterate 3 (refine' plan_val rfl rfl (fun w' hS => ?_) ?_; rotate_left; (focus (go_simp; rfl)); simp only [Act.put, List.setIfInBounds_toArray, List.set_cons_zero, List.set_cons_succ])
                      refine plan_nil ?_
                      go_wp2_with fail
                      go_roundw
                      case rel => exact ⟨i + 1, by omega, by go_num, HFX.out.trans (HFJ.out.trans (Fr.drew _ _))⟩
                      case measure => simp [intOf] <;> omega
                · have HL := Lib.hid (show c = 64 ∨ ¬ LR (i * 64 + c) = NW (i * 64 + c) from .inl (by omega))
                  have hcc : ¬ (c : Int) < 64 := by omega
                  have hccd : decide ((c : Int) < 64) = false := by rw [decide_eq_false_iff_not]; exact hcc
                  go_wp2_with fail
                  refine wp_region_plan [(0, false), (1, false), (2, false), (3, false), (4, false), (5, false), (6, false), (7, false), (8, false), (9, false), (10, false), (11, false), (12, false)] (fun _ => True) (by kernel_rfl) (by kernel_rfl) trivial ?_
                  iterate 3 (refine' plan_val rfl rfl (fun w' hS => ?_) ?_; rotate_left; (focus (go_simp; rfl)); simp only [Act.put, List.setIfInBounds_toArray, List.set_cons_zero, List.set_cons_succ])
                  iterate 9 (refine plan_skip rfl rfl ?_; simp only [Act.put, List.setIfInBounds_toArray, List.set_cons_zero, List.set_cons_succ])
                  (refine' plan_val rfl rfl (fun w' hS => ?_) ?_; rotate_left; (focus (go_simp; rfl)); simp only [Act.put, List.setIfInBounds_toArray, List.set_cons_zero, List.set_cons_succ])
                  refine plan_nil ?_
                  clear hcc hccd
                  obtain ⟨wj, hwj⟩ : ∃ wj, wr.drew = wj := ⟨_, rfl⟩
                  have HFJ := Lib.hid (show Fr [] wr wj by rw [← hwj]; exact Fr.drew _ _)
                  rw [hwj]
                  clear hwj
                  go_wp2_with fail
                  have hszx := HFX.out.size
                  have hS0 : Hid (wj.drew.rangeAt xb (xoff + i * 64) (rowL 64 fun j => LR (i * 64 + j)) ∧ wj.drew.rangeAt sb (soff + i * 64) (rowL 64 fun j => L1 (i * 64 + j)) ∧ wj.drew.cell? ⟨wb, i, none⟩ = some (.bool (S i))) := Lib.hid (by
                    have hf : Fr [] wr wj.drew := HFJ.out.trans (Fr.drew _ _)
                    refine ⟨rangeAt_sub (rangeAt_congr HRw.out (hf.block xb (by omega) (by simp))) (i * 64) 64 (by omega), rangeAt_sub (rangeAt_congr HSw.out (hf.block sb (by omega) (by simp))) (i * 64) 64 (by omega), ?_⟩
                    rw [cell_of_row wj.drew wb i _ _ _ ((hf.block wb (by omega) (by simp)).trans HWw.out), valA_get _ hin])
                  have HE1 := Lib.hid (tail_eq hc (HL1.out i hin) HL.out)
                  have HE2 := Lib.hid (fun h : S i = false => whole_eq (HL1.out i hin) (HL0.out i hin h))
                  have hS0' : wj.drew.rangeAt xb (xoff + i * 64) (rowL 64 fun j => LR (i * 64 + j)) ∧ wj.drew.rangeAt sb (soff + i * 64) (rowL 64 fun j => L1 (i * 64 + j)) ∧ wj.drew.cell? ⟨wb, i, none⟩ = some (.bool (S i)) := hS0.out
                  refine wp_region_plan [(0, false), (1, false), (2, false), (3, false), (4, false), (5, false), (6, false), (7, false), (8, false), (9, false), (10, false), (11, false), (12, false), (13, false), (14, false), (15, false), (16, false), (17, false), (18, false), (19, false), (20, false), (21, false), (22, false)]
                    (fun w' => Hid (w'.rangeAt xb (xoff + i * 64) (rowL 64 fun j => LR (i * 64 + j)) ∧ w'.rangeAt sb (soff + i * 64) (rowL 64 fun j => L1 (i * 64 + j)) ∧ w'.cell? ⟨wb, i, none⟩ = some (.bool (S i)))) (by kernel_rfl) (by kernel_rfl) hS0 ?_
                  clear hS0'
                  iterate 2 (refine' plan_val rfl rfl (fun w' hS => ?_) ?_; rotate_left; (focus (go_simp; rfl)); simp only [Act.put, List.setIfInBounds_toArray, List.set_cons_zero, List.set_cons_succ])
                  refine plan_val rfl rfl (fun w' _ => exec_sl_l (t := 31) (x := .tmp 259) (lo := .tmp 260) (k := c) rfl rfl rfl hc Try.underlying31 isz_u8) ?_
                  simp only [Act.put, List.setIfInBounds_toArray, List.set_cons_zero, List.set_cons_succ]
                  refine plan_val rfl rfl (fun w' hS => exec_convert (src := 31) (dst := 9) (x := .tmp 261) rfl rfl (conv_slQ hS.out.1 c hc (by omega) _)) ?_
                  simp only [Act.put, List.setIfInBounds_toArray, List.set_cons_zero, List.set_cons_succ]
                  iterate 2 (refine' plan_val rfl rfl (fun w' hS => ?_) ?_; rotate_left; (focus (go_simp; rfl)); simp only [Act.put, List.setIfInBounds_toArray, List.set_cons_zero, List.set_cons_succ])
                  refine plan_val rfl rfl (fun w' _ => exec_sl_l (t := 31) (x := .tmp 263) (lo := .tmp 264) (k := c) rfl rfl rfl hc Try.underlying31 isz_u8) ?_
                  simp only [Act.put, List.setIfInBounds_toArray, List.set_cons_zero, List.set_cons_succ]
                  refine plan_val rfl rfl (fun w' hS => exec_convert (src := 31) (dst := 9) (x := .tmp 265) rfl rfl (conv_slQ hS.out.2.1 c hc (by omega) _)) ?_
                  simp only [Act.put, List.setIfInBounds_toArray, List.set_cons_zero, List.set_cons_succ]
                  have hE1 := HE1.out
                  simp only [Nat.add_assoc] at hE1
                  rw [hE1]
                  obtain ⟨SX, hSX⟩ : ∃ SX, strOf (64 - c) (fun j => L1 (i * 64 + (c + j))) = SX := ⟨_, rfl⟩
                  rw [hSX]
                  clear hE1 hSX
                  iterate 4 (refine' plan_val rfl rfl (fun w' hS => ?_) ?_; rotate_left; (focus (go_simp; rfl)); simp only [Act.put, List.setIfInBounds_toArray, List.set_cons_zero, List.set_cons_succ])
                  have hnni : (i : Int) < (n : Int) := by omega
                  (refine' plan_val rfl rfl (fun w' hS => ?_) ?_; rotate_left; (focus (go_simp; rfl)); simp only [Act.put, List.setIfInBounds_toArray, List.set_cons_zero, List.set_cons_succ])
                  cases hSi : S i with
                  | true =>
                    have HSi := Lib.hid hSi
                    clear hSi
                    (refine' plan_val rfl rfl (fun w' hS => ?_) ?_; rotate_left; (focus (have hS1 := hS.out.2.2; go_simp; rfl)); simp only [Act.put, List.setIfInBounds_toArray, List.set_cons_zero, List.set_cons_succ])
                    iterate 2 (refine' plan_val rfl rfl (fun w' hS => ?_) ?_; rotate_left; (focus (go_simp; rfl)); simp only [Act.put, List.setIfInBounds_toArray, List.set_cons_zero, List.set_cons_succ])
                    iterate 5 (refine plan_skip rfl rfl ?_; simp only [Act.put, List.setIfInBounds_toArray, List.set_cons_zero, List.set_cons_succ])
                    iterate 2 (refine' plan_val rfl rfl (fun w' hS => ?_) ?_; rotate_left; (focus (go_simp; rfl)); simp only [Act.put, List.setIfInBounds_toArray, List.set_cons_zero, List.set_cons_succ])
                    refine plan_nil ?_
                    go_wp2_with fail
                    go_roundw
                    case rel => exact ⟨i + 1, by omega, by go_num, HFX.out.trans (HFJ.out.trans (Fr.drew _ _))⟩
                    case measure => simp [intOf] <;> omega
                  | false =>
                    have HSi := Lib.hid hSi
                    clear hSi
                    (refine' plan_val rfl rfl (fun w' hS => ?_) ?_; rotate_left; (focus (have hS1 := hS.out.2.2; go_simp; rfl)); simp only [Act.put, List.setIfInBounds_toArray, List.set_cons_zero, List.set_cons_succ])
                    iterate 3 (refine' plan_val rfl rfl (fun w' hS => ?_) ?_; rotate_left; (focus (go_simp; rfl)); simp only [Act.put, List.setIfInBounds_toArray, List.set_cons_zero, List.set_cons_succ])
                    refine plan_val rfl rfl (fun w' hS => exec_convert (src := 31) (dst := 9) (x := .tmp 275) rfl rfl (run_bytes_string (P := Try.prog) w' 31 9 5 xb (xoff + i * 64) 64 _ _ Try.underlying31 Try.underlying5 Try.underlying9 hS.out.1)) ?_
                    simp only [Act.put, List.setIfInBounds_toArray, List.set_cons_zero, List.set_cons_succ]
                    (refine' plan_val rfl rfl (fun w' hS => ?_) ?_; rotate_left; (focus (go_simp; rfl)); simp only [Act.put, List.setIfInBounds_toArray, List.set_cons_zero, List.set_cons_succ])
                    refine plan_val rfl rfl (fun w' hS => exec_convert (src := 31) (dst := 9) (x := .tmp 277) rfl rfl (run_bytes_string (P := Try.prog) w' 31 9 5 sb (soff + i * 64) 64 _ _ Try.underlying31 Try.underlying5 Try.underlying9 hS.out.2.1)) ?_
                    simp only [Act.put, List.setIfInBounds_toArray, List.set_cons_zero, List.set_cons_succ]
                    rw [HE2.out HSi.out]
                    obtain ⟨SY, hSY⟩ : ∃ SY, strOf 64 (fun j => L1 (i * 64 + j)) = SY := ⟨_, rfl⟩
                    rw [hSY]
                    clear hSY
                    iterate 3 (refine' plan_val rfl rfl (fun w' hS => ?_) ?_; rotate_left; (focus (go_simp; rfl)); simp only [Act.put, List.setIfInBounds_toArray, List.set_cons_zero, List.set_cons_succ])
                    refine plan_nil ?_
                    go_wp2_with fail
                    go_roundw
                    case rel => exact ⟨i + 1, by omega, by go_num, HFX.out.trans (HFJ.out.trans (Fr.drew _ _))⟩
                    case measure => simp [intOf] <;> omega
            · obtain rfl : i = n := by omega
              have hii : ¬ (i : Int) < (i : Int) := by omega
              go_wp2_with fail
              refine (keeps12_any _).mono ?_
              rintro e wf ⟨rfl, hff⟩
              have HBF := Lib.hid ((HBe.out.trans (HFI.out.belowB (B := w.heap.size) (by omega) (by simp))).trans (hff.belowB (B := w.heap.size) (Nat.le_trans hz0 HFI.out.size) (by simp)))
              clear hff
              go_wp2_with fail
              go_ret
              exact ⟨rfl, HBF.out⟩
end Go.Proofs.Ytgfdbjeliojhkaa
