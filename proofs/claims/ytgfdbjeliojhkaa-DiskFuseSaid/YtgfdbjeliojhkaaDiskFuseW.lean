/-
  DiskFuseW: the walk of DiskFuse. No condition beyond those stated.
-/
import Derived.Test.YtgfdbjeliojhkaaDiskLastW
import Derived.Deep.RegionHeld3
namespace Go.Proofs.Ytgfdbjeliojhkaa
open Go.RowKit

/-- a guard: the call has these arguments -/
theorem calls_at {P : Program} {f : FuncId} {args : Array Value} {w : World} {Q : Ending → World → Prop} (a0 : Array Value) (_ : args = a0) (h : Calls P f args w Q) : Calls P f args w Q := h
theorem mayE_two {D : DK} (hd : D.dead = false) (a b : Int) : mayE D a b = 0 ∨ mayE D a b = 1 := by
  simp only [mayE, hd]
  rw [if_neg (by simp)]
  split <;> simp

theorem burn_fuse {Y : DK} (h1 : Y.fuse = -1) : Y.burn = Y := by
  unfold DK.burn; rw [h1]; rfl
theorem burn_less (Y : DK) {x : Int} (h : 0 < x) : ({ Y with fuse := x } : DK).burn = { Y with fuse := x - 1 } := by
  unfold DK.burn
  have h0 : ¬ x = 0 := by omega
  simp [h0, h]
theorem restart_same (Y : DK) (d : Bool) (z : Int) (fate : Nat → Nat) : ({ Y with dead := d, fuse := z } : DK).restart fate = Y.restart fate := by
  have hw : ∀ k, wl ({ Y with dead := d, fuse := z } : DK) k = wl Y k := by
    intro k
    induction k with
    | zero => rfl
    | succ k ih => simp only [wl]; rw [ih]
  unfold DK.restart
  have : (restK ({ Y with dead := d, fuse := z } : DK) fate (wl ({ Y with dead := d, fuse := z } : DK) Y.n)).2 = (restK Y fate (wl Y Y.n)).2 := by
    rw [hw]; rfl
  simp only [this]

set_option maxRecDepth 100000 in
set_option maxHeartbeats 8000000 in
theorem diskFuse_main (n an f : Nat) (hn1 : 1 ≤ n) (hn2 : n ≤ 40) (hf : f ≤ 255) (av : Value) (R : Nat → ActR) (fv : Value) (fl : Nat) (fg : Nat → Int) (w : World) (hA : ActsAt w av an R) (hF : IntsAt w fv fl fg) (hg : greatP an R = false) (hfl : fl ≤ 60) :
    Calls Try.prog 5 #[.int .i64 (n : Int), av, .int .u8 (f : Int), fv] w fun e w' => e = .returned (.bool true) ∧ Below w.heap.size w w' := by
  have HA := Lib.hid hA
  have HF := Lib.hid hF
  have HG := Lib.hid (greatP_false hg)
  have han := HG.out.1
  have hfl' : (fl : Int) ≤ 60 := by omega
  obtain ⟨ao, acap, rfl, ha1, ha2, _⟩ := hA
  obtain ⟨fo, fcap, rfl, hf1, hf2, _⟩ := hF
  unfold maxLen at ha2 hf2
  have hga := great_any w HA.out
  rw [hg] at hga
  have HGA := Lib.hid hga
  clear hg hga
  go_enter Try.func5, Try.ntmps5
  go_wp2_with fail
  refine HGA.out.mono ?_
  rintro e w' ⟨rfl, rfl⟩
  go_wp2_with fail
  refine (new_ok n w hn1 (by omega)).mono ?_
  rintro e w1 ⟨rfl, hd1, hf1, hs1⟩
  have HX1 := Lib.hid hd1
  have HF1 := Lib.hid hf1
  clear hd1 hf1
  go_wp2_with fail
  refine (new_ok n w1 hn1 (by omega)).mono ?_
  rintro e w2 ⟨rfl, hd2, hf2, hs2⟩
  have HX2 := Lib.hid (HX1.out.fr0 hf2)
  have HY2 := Lib.hid hd2
  have HF2 := Lib.hid (HF1.out.trans hf2)
  rw [hs1] at HY2
  clear hd2 hf2
  go_wp2_with fail
  refine (fuse_some (f : Int) (by omega) w2 HX2.out).mono ?_
  rintro e w3 ⟨rfl, hd3, hf3⟩
  have hX3 : DiskAt w3 (w.heap.size + 2) w.heap.size (w.heap.size + 1) { DK.fresh n with fuse := (f : Int) } := by
    have e : (DK.fresh n).setFuse (f : Int) = { DK.fresh n with fuse := (f : Int) } := by
      have h1 : ¬ (f : Int) < -1 := by omega
      unfold DK.setFuse DK.fresh
      simp [h1]
    rw [← e]; exact hd3
  have HX3 := Lib.hid hX3
  have HY3 := Lib.hid (HY2.out.fr hf3 (by simp only [List.mem_cons, List.not_mem_nil, or_false]; omega) (by simp only [List.mem_cons, List.not_mem_nil, or_false]; omega) (by simp only [List.mem_cons, List.not_mem_nil, or_false]; omega))
  have HB3 := Lib.hid ((HF2.out.below).trans (hf3.belowB (B := w.heap.size) (by have := HF2.out.size; omega) (by simp only [List.mem_cons, List.not_mem_nil, or_false]; omega)))
  clear hd3 hf3 hX3
  go_wp2_with fail
  go_loopw [13, 14] (fun d i wr => ∃ (k dn : Nat) (Y : DK), k ≤ an ∧ dn ≤ k ∧ dn ≤ f ∧ i = .int .i64 (k : Int) ∧ d = .int .i64 (dn : Int) ∧ Y.n = n ∧ Hid (Y.dead = false) ∧ Hid (Y.fuse = -1) ∧
      DiskAt wr (w.heap.size + 2) w.heap.size (w.heap.size + 1) { Y with fuse := (f : Int) - (dn : Int) } ∧ DiskAt wr (w.heap.size + 3 + 2) (w.heap.size + 3) (w.heap.size + 3 + 1) Y ∧ Below w.heap.size w wr)
    (fun _ i _ => an - (intOf i).toNat)
  case atStart => exact ⟨0, 0, DK.fresh n, Nat.zero_le _, Nat.le_refl _, Nat.zero_le _, rfl, rfl, rfl, rfl, rfl, by simpa using HX3.out, HY3.out, HB3.out⟩
  case round =>
    obtain ⟨k, dn, Y, hk, hdk, hdf, rfl, rfl, hYn, HYd, HYf, hx, hy, hbw⟩ := hrel
    have HX := Lib.hid hx
    have HY := Lib.hid hy
    have HYN := Lib.hid hYn
    have HBW := Lib.hid hbw
    have hszr := hx.db_lt
    have hszy := hy.db_lt
    have hszy2 := hy.lb_lt
    have hszy3 := hy.mb_lt
    clear hx hy hbw hYn
    by_cases hlt : k < an
    · obtain ⟨ao', acap', he, _, _, hR⟩ := HA.out
      obtain ⟨ab, aoff, rfl, hR2⟩ := hR (by omega)
      obtain ⟨rfl, rfl⟩ : ao = some ⟨ab, aoff, none⟩ ∧ acap = acap' := by simpa using he
      have hact := hR2 k hlt
      have hactW := hact.below HBW.out
      have habl : ab < w.heap.size := World.block_lt_of_cell? w _ hact.c0
      have hg := HG.out.2 k hlt
      have c0 := hactW.c0
      have c1 := hactW.c1
      have c3 := hactW.c3
      obtain ⟨bo, bc, hbv, hb1, hb2, hb3, hb4⟩ := hact.hb
      rw [hbv] at c3
      have hbB := hact.hb
      rw [hbv] at hbB
      have HBB := Lib.hid hbB
      unfold maxLen at hb2
      have HACT := Lib.hid hact
      have hkn : (k : Int) < (an : Int) := by omega
      have hd1 := hact.d1
      have hd2 := hact.d2
      have hact1 := hact.a1
      have hact2 := hact.a2
      clear hact hactW he hR hR2 hg hbv hbB hb3 hb4
      by_cases hk0 : (R k).d % 6 = 0
      · have t0 : ((R k).d % 6 == 0) = true := by simp [hk0]
        have t0' : ((R k).d % 6 != 0) = false := by simp [hk0]
        have HK0 := Lib.hid hk0
        clear hk0
        by_cases hfin : dn = f
        · subst hfin
          have hz : (dn : Int) - (dn : Int) = 0 := by omega
          rw [hz] at HX
          clear hz
          by_cases hE : mayE Y (R k).at_ (secs (R k).bl) = 0
          · skip
            obtain ⟨a, m, ha, hm, ham⟩ := mayE_ok HYd.out hE
            rw [ha] at c1
            have HM := Lib.hid hm
            have HAM := Lib.hid ham
            clear hE hm ha
            go_wp2_with fail
            refine wp_region_still_tail 11 (by kernel_rfl) (by kernel_rfl) ?_
            simp only [List.take_succ_cons, List.take_zero, List.drop_succ_cons, List.drop_zero]
            iterate 11 still_step
            refine wpStill_nil ?_
            change wpList _ _ _ _ _ wr.drew
            go_wp2_with fail
            refine (write_dead (D := ({ Y with fuse := 0 } : DK)) a m _ (R k).bl _ (by unfold maxLen; omega) wr.drew (HX.out.cong rfl rfl rfl) HM.out HYd.out HAM.out rfl).mono ?_
            rintro e w4 ⟨rfl, hx4, hf4⟩
            have HX4 := Lib.hid hx4
            have HY4 := Lib.hid ((show DiskAt wr.drew _ _ _ Y from HY.out.cong rfl rfl rfl).fr hf4 (by simp only [List.mem_cons, List.not_mem_nil, or_false]; omega) (by simp only [List.mem_cons, List.not_mem_nil, or_false]; omega) (by simp only [List.mem_cons, List.not_mem_nil, or_false]; omega))
            have HB4 := Lib.hid (HBW.out.drew.trans (hf4.belowB (B := w.heap.size) (by show w.heap.size ≤ wr.heap.size; omega) (by simp only [List.mem_cons, List.not_mem_nil, or_false]; omega)))
            have hs4 : wr.heap.size ≤ w4.heap.size := hf4.size
            clear hx4 hf4 c0 c1 c3
            go_wp2_with fail
            refine (dead_some _ HX4.out).mono ?_
            rintro e w' ⟨rfl, rfl⟩
            go_wp2_with fail
            have HXF := HX4
            have HYF := HY4
            have HBF := HB4
            have HEQ := Lib.hid (restart_same Y true 0 (fateN fl fg))
            have hz1 := HYF.out.db_lt
            refine (restart_some _ HXF.out _ fl fg (HF.out.below HBF.out) (fun h0 b hb => by have := HF.out.lt h0 b hb; omega)).mono ?_
            rintro e wa ⟨rfl, hxa, hfa⟩
            have HXA := Lib.hid hxa
            have HYA := Lib.hid (HYF.out.fr hfa (by simp only [List.mem_cons, List.not_mem_nil, or_false]; omega) (by simp only [List.mem_cons, List.not_mem_nil, or_false]; omega) (by simp only [List.mem_cons, List.not_mem_nil, or_false]; omega))
            have HBA := Lib.hid (HBF.out.trans (hfa.belowB (B := w.heap.size) (by omega) (by simp only [List.mem_cons, List.not_mem_nil, or_false]; omega)))
            have hsa := hfa.size
            clear hxa hfa
            go_wp2_with fail
            refine (restart_some _ HYA.out _ fl fg (HF.out.below HBA.out) (fun h0 b hb => by have := HF.out.lt h0 b hb; omega)).mono ?_
            rintro e wb ⟨rfl, hyb, hfb⟩
            have HYB := Lib.hid hyb
            have HXB := Lib.hid (HXA.out.fr hfb (by simp only [List.mem_cons, List.not_mem_nil, or_false]; omega) (by simp only [List.mem_cons, List.not_mem_nil, or_false]; omega) (by simp only [List.mem_cons, List.not_mem_nil, or_false]; omega))
            have HBB := Lib.hid (HBA.out.trans (hfb.belowB (B := w.heap.size) (by omega) (by simp only [List.mem_cons, List.not_mem_nil, or_false]; omega)))
            have hsb := hfb.size
            clear hyb hfb
            rw [HEQ.out] at HXB
            obtain ⟨D, hD⟩ : ∃ D : DK, Y.restart (fateN fl fg) = D := ⟨_, rfl⟩
            have hDn : D.n = n := by rw [← hD]; exact HYN.out
            have hDd : D.dead = false := by rw [← hD]; rfl
            rw [hD] at HYB HXB
            have HDN := Lib.hid hDn
            have HDD := Lib.hid hDd
            clear hD hDn hDd HXA HYA HXF HYF HBF
            go_wp2_with fail
            refine (read_ok 0 n _ HXB.out HDD.out (by rw [HDN.out]; omega)).mono ?_
            rintro e wc ⟨vx, rfl, hox, hfc⟩
            have hbx := (owns_bytes hox).1
            have HYC := Lib.hid (HYB.out.fr0 hfc)
            have HBC := Lib.hid (HBB.out.trans (hfc.belowB (B := w.heap.size) (by omega) (by simp)))
            have hsc := hfc.size
            obtain ⟨xo, xc, rfl, hx1, hx2, hx3, hx4⟩ := hbx
            obtain ⟨xb, xoff, rfl, hxr⟩ := hx4 (by omega)
            have HXR := Lib.hid hxr
            clear hox hfc hx1 hx2 hx3 hx4 hxr
            go_wp2_with fail
            refine (read_ok 0 n _ HYC.out HDD.out (by rw [HDN.out]; omega)).mono ?_
            rintro e wd ⟨vy, rfl, hoy, hfd⟩
            have hby := (owns_bytes hoy).1
            have HXRd := Lib.hid (rangeAt_congr HXR.out (hfd.block xb (rangeAt_lt HXR.out (by omega)) (by simp)))
            have HBD := Lib.hid (HBC.out.trans (hfd.belowB (B := w.heap.size) (by omega) (by simp)))
            have hsd := hfd.size
            obtain ⟨yo, yc, rfl, hy1, hy2, hy3, hy4⟩ := hby
            obtain ⟨yb, yoff, rfl, hyr⟩ := hy4 (by omega)
            have hcx := run_bytes_string (P := Try.prog) wd 31 9 5 xb xoff (64 * n) xc _ Try.underlying31 Try.underlying5 Try.underlying9 HXRd.out
            have hcy := run_bytes_string (P := Try.prog) wd 31 9 5 yb yoff (64 * n) yc _ Try.underlying31 Try.underlying5 Try.underlying9 hyr
            have hlen : (64 * (n : Int) == (n : Int) * 64) = true := by simp; omega
            clear hoy hfd hy1 hy2 hy3 hy4 hyr HXR
            go_wp2_with fail
            refine (keeps12_any _).mono ?_
            rintro e we ⟨rfl, hfe⟩
            have HBE := Lib.hid (HBD.out.trans (hfe.belowB (B := w.heap.size) (by omega) (by simp)))
            clear hfe
            go_wp2_with fail
            go_ret
            exact ⟨rfl, HBE.out⟩
          · skip
            have h1 : mayE Y (R k).at_ (secs (R k).bl) = 1 := (mayE_two HYd.out _ _).resolve_left hE
            have hE' : mayE ({ Y with fuse := 0 } : DK) (R k).at_ (secs (R k).bl) = 1 := h1
            have HE' := Lib.hid hE'
            clear hE h1 hE'
            go_wp2_with fail
            refine wp_region_still_tail 11 (by kernel_rfl) (by kernel_rfl) ?_
            simp only [List.take_succ_cons, List.take_zero, List.drop_succ_cons, List.drop_zero]
            iterate 11 still_step
            refine wpStill_nil ?_
            change wpList _ _ _ _ _ wr.drew
            go_wp2_with fail
            refine (write_err (D := ({ Y with fuse := 0 } : DK)) _ _ _ _ (by unfold maxLen; omega) wr.drew (HX.out.cong rfl rfl rfl) hact1 hact2 (by rw [HE'.out]; decide)).mono ?_
            rw [HE'.out]
            rintro e w' ⟨rfl, rfl⟩
            go_wp2_with fail
            refine (dead_some (D := ({ Y with fuse := 0 } : DK)) wr.drew (HX.out.cong rfl rfl rfl)).mono ?_
            rintro e w' ⟨rfl, rfl⟩
            rw [show ({ Y with fuse := 0 } : DK).dead = false from HYd.out]
            go_wp2_with fail
            go_roundw
            case rel => exact ⟨k + 1, dn, Y, by omega, by omega, Nat.le_refl _, by go_num, rfl, HYN.out, HYd, HYf, by rw [show (dn : Int) - (dn : Int) = 0 by omega]; exact HX.out.cong rfl rfl rfl, HY.out.cong rfl rfl rfl, HBW.out.drew⟩
            case measure => simp [intOf] <;> omega
        · have tf : ((dn : Int) == (f : Int)) = false := by simp; omega
          by_cases hE : mayE Y (R k).at_ (secs (R k).bl) = 0
          · skip
            obtain ⟨a, m, ha, hm, ham⟩ := mayE_ok HYd.out hE
            rw [ha] at c1
            have HM := Lib.hid hm
            have HAM := Lib.hid ham
            have h0X : ¬ ((f : Int) - (dn : Int) = 0) := by omega
            have H0X := Lib.hid h0X
            clear hE hm ha h0X
            go_wp2_with fail
            have wx := fun W (hW : DiskAt W (w.heap.size + 2) w.heap.size (w.heap.size + 1) { Y with fuse := (f : Int) - (dn : Int) }) (hb : Below w.heap.size w W) =>
              write_ok (D := { Y with fuse := (f : Int) - (dn : Int) }) a m (.slice bo (R k).bl bc) (R k).bf W hW (by rw [← HM.out]; exact HBB.out.below hb) (fun h0 b hb => by have := HBB.out.lt (by rw [HM.out]; omega) b hb; omega) HYd.out HAM.out H0X.out
            have wy := fun W (hW : DiskAt W (w.heap.size + 3 + 2) (w.heap.size + 3) (w.heap.size + 3 + 1) Y) (hb : Below w.heap.size w W) =>
              write_ok (D := Y) a m (.slice bo (R k).bl bc) (R k).bf W hW (by rw [← HM.out]; exact HBB.out.below hb) (fun h0 b hb => by have := HBB.out.lt (by rw [HM.out]; omega) b hb; omega) HYd.out HAM.out (by rw [HYf.out]; decide)
            have WX := Lib.hid wx
            have WY := Lib.hid wy
            clear wx wy
            go_region_held3 (fun w' => w'.cell? ⟨ab, aoff + k * 5 + 1, none⟩ = some (.int .i64 (a : Int)) ∧ w'.cell? ⟨ab, aoff + k * 5 + 3, none⟩ = some (.slice bo (R k).bl bc)) (first | exact ⟨c1, c3⟩ | exact ⟨d1, d3⟩ | exact ⟨e1, e3⟩)
              (first
                | (go_at_call 14; (with_reducible refine calls_at #[.pointer (some ⟨w.heap.size + 2, 0, none⟩), _, _] rfl ?_); refine (WX.out wr.drew (HX.out.cong rfl rfl rfl) HBW.out.drew).mono ?_; rintro e w4 ⟨rfl, hx4, hf4⟩; have d1 := (World.cell?_of_block (a := ⟨ab, aoff + k * 5 + 1, none⟩) (hf4.block ab (by show ab < wr.heap.size; omega) (by simp only [List.mem_cons, List.not_mem_nil, or_false]; omega))).trans c1; have d3 := (World.cell?_of_block (a := ⟨ab, aoff + k * 5 + 3, none⟩) (hf4.block ab (by show ab < wr.heap.size; omega) (by simp only [List.mem_cons, List.not_mem_nil, or_false]; omega))).trans c3)
                | (go_at_call 14; (with_reducible refine calls_at #[.pointer (some ⟨w.heap.size + 3 + 2, 0, none⟩), _, _] rfl ?_); refine (WY.out w4 ((show DiskAt wr.drew _ _ _ Y from HY.out.cong rfl rfl rfl).fr hf4 (by simp only [List.mem_cons, List.not_mem_nil, or_false]; omega) (by simp only [List.mem_cons, List.not_mem_nil, or_false]; omega) (by simp only [List.mem_cons, List.not_mem_nil, or_false]; omega)) (HBW.out.drew.trans (hf4.belowB (B := w.heap.size) (by show w.heap.size ≤ wr.heap.size; omega) (by simp only [List.mem_cons, List.not_mem_nil, or_false]; omega)))).mono ?_; rintro e w5 ⟨rfl, hy5, hf5⟩; have e1 := (World.cell?_of_block (a := ⟨ab, aoff + k * 5 + 1, none⟩) (hf5.block ab (Nat.lt_of_lt_of_le (show ab < wr.heap.size by omega) hf4.size) (by simp only [List.mem_cons, List.not_mem_nil, or_false]; omega))).trans d1; have e3 := (World.cell?_of_block (a := ⟨ab, aoff + k * 5 + 3, none⟩) (hf5.block ab (Nat.lt_of_lt_of_le (show ab < wr.heap.size by omega) hf4.size) (by simp only [List.mem_cons, List.not_mem_nil, or_false]; omega))).trans d3))
            have hX5 : DiskAt w5 (w.heap.size + 2) w.heap.size (w.heap.size + 1) { (Y.burn.write a m (R k).bf) with fuse := (f : Int) - ((dn + 1 : Nat) : Int) } := by
              have h := hx4.fr hf5 (by simp only [List.mem_cons, List.not_mem_nil, or_false]; omega) (by simp only [List.mem_cons, List.not_mem_nil, or_false]; omega) (by simp only [List.mem_cons, List.not_mem_nil, or_false]; omega)
              rw [burn_less Y (show (0 : Int) < (f : Int) - (dn : Int) by omega)] at h
              rw [burn_fuse HYf.out, show (f : Int) - ((dn + 1 : Nat) : Int) = (f : Int) - (dn : Int) - 1 by omega]
              exact h
            have HX5 := Lib.hid hX5
            have HY5 := Lib.hid hy5
            have hB5 : Below w.heap.size w w5 := (HBW.out.drew.trans (hf4.belowB (B := w.heap.size) (by show w.heap.size ≤ wr.heap.size; omega) (by simp only [List.mem_cons, List.not_mem_nil, or_false]; omega))).trans (hf5.belowB (B := w.heap.size) (Nat.le_trans (show w.heap.size ≤ wr.heap.size by omega) hf4.size) (by simp only [List.mem_cons, List.not_mem_nil, or_false]; omega))
            have HB5 := Lib.hid hB5
            have HYn5 : (Y.burn.write a m (R k).bf).n = n := by rw [burn_fuse HYf.out]; exact HYN.out
            have HYN5 := Lib.hid HYn5
            have HYd5 : Hid ((Y.burn.write a m (R k).bf).dead = false) := by rw [burn_fuse HYf.out]; exact HYd
            have HYf5 : Hid ((Y.burn.write a m (R k).bf).fuse = -1) := by rw [burn_fuse HYf.out]; exact HYf
            clear hx4 hf4 hy5 hf5 d1 d3 e1 e3 hX5 hB5 HYn5 c0 c1 c3
            go_wp2_with fail
            refine (dead_some _ HX5.out).mono ?_
            rintro e w' ⟨rfl, rfl⟩
            rw [show ({ (Y.burn.write a m (R k).bf) with fuse := (f : Int) - ((dn + 1 : Nat) : Int) } : DK).dead = false from HYd5.out]
            go_wp2_with fail
            go_roundw
            case rel => exact ⟨k + 1, dn + 1, Y.burn.write a m (R k).bf, by omega, by omega, by omega, by go_num, by go_num, HYN5.out, HYd5, HYf5, HX5.out, HY5.out, HB5.out⟩
            case measure => simp [intOf] <;> omega
          · skip
            have h1 : mayE Y (R k).at_ (secs (R k).bl) = 1 := (mayE_two HYd.out _ _).resolve_left hE
            have hE' : mayE ({ Y with fuse := (f : Int) - (dn : Int) } : DK) (R k).at_ (secs (R k).bl) = 1 := h1
            have HE := Lib.hid h1
            have HE' := Lib.hid hE'
            have wx := write_err (D := ({ Y with fuse := (f : Int) - (dn : Int) } : DK)) (R k).at_ bo (R k).bl bc (by unfold maxLen; omega) wr.drew (HX.out.cong rfl rfl rfl) hact1 hact2 (by rw [HE'.out]; decide)
            have wy := write_err (D := Y) (R k).at_ bo (R k).bl bc (by unfold maxLen; omega) wr.drew (HY.out.cong rfl rfl rfl) hact1 hact2 (by rw [HE.out]; decide)
            rw [HE'.out] at wx
            rw [HE.out] at wy
            have WX := Lib.hid wx
            have WY := Lib.hid wy
            clear hE h1 hE' wx wy
            go_wp2_with fail
            go_region_held3 (fun w' => w'.cell? ⟨ab, aoff + k * 5 + 1, none⟩ = some (.int .i64 (R k).at_) ∧ w'.cell? ⟨ab, aoff + k * 5 + 3, none⟩ = some (.slice bo (R k).bl bc)) (exact ⟨c1, c3⟩)
              (first
                | (go_at_call 14; (with_reducible refine calls_at #[.pointer (some ⟨w.heap.size + 2, 0, none⟩), _, _] rfl ?_); refine WX.out.mono ?_; rintro e w4 ⟨rfl, rfl⟩)
                | (go_at_call 14; (with_reducible refine calls_at #[.pointer (some ⟨w.heap.size + 3 + 2, 0, none⟩), _, _] rfl ?_); refine WY.out.mono ?_; rintro e w4 ⟨rfl, rfl⟩))
            go_wp2_with fail
            refine (dead_some (D := ({ Y with fuse := (f : Int) - (dn : Int) } : DK)) wr.drew (HX.out.cong rfl rfl rfl)).mono ?_
            rintro e w' ⟨rfl, rfl⟩
            rw [show ({ Y with fuse := (f : Int) - (dn : Int) } : DK).dead = false from HYd.out]
            go_wp2_with fail
            go_roundw
            case rel => exact ⟨k + 1, dn, Y, by omega, by omega, hdf, by go_num, rfl, HYN.out, HYd, HYf, HX.out.cong rfl rfl rfl, HY.out.cong rfl rfl rfl, HBW.out.drew⟩
            case measure => simp [intOf] <;> omega
      · by_cases hk2 : (R k).d % 6 = 2
        · have t0 : ((R k).d % 6 == 0) = false := by simp [hk0]
          have t0' : ((R k).d % 6 != 0) = true := by simp [hk0]
          have t2 : ((R k).d % 6 != 2) = false := by simp [hk2]
          clear hk0 hk2
          by_cases hfin : dn = f
          · subst hfin
            have hz : (dn : Int) - (dn : Int) = 0 := by omega
            rw [hz] at HX
            clear hz
            go_wp2_with fail
            refine (sync_burnt wr HX.out HYd.out rfl).mono ?_
            rintro e w4 ⟨rfl, hx4, hf4⟩
            have HX4 := Lib.hid hx4
            have HY4 := Lib.hid (HY.out.fr hf4 (by simp only [List.mem_cons, List.not_mem_nil, or_false]; omega) (by simp only [List.mem_cons, List.not_mem_nil, or_false]; omega) (by simp only [List.mem_cons, List.not_mem_nil, or_false]; omega))
            have HB4 := Lib.hid (HBW.out.trans (hf4.belowB (B := w.heap.size) (by omega) (by simp only [List.mem_cons, List.not_mem_nil, or_false]; omega)))
            have hs4 := hf4.size
            clear hx4 hf4 c0 c1 c3
            go_wp2_with fail
            refine (dead_some _ HX4.out).mono ?_
            rintro e w' ⟨rfl, rfl⟩
            go_wp2_with fail
            have HXF := HX4
            have HYF := HY4
            have HBF := HB4
            have HEQ := Lib.hid (restart_same Y true 0 (fateN fl fg))
            have hz1 := HYF.out.db_lt
            refine (restart_some _ HXF.out _ fl fg (HF.out.below HBF.out) (fun h0 b hb => by have := HF.out.lt h0 b hb; omega)).mono ?_
            rintro e wa ⟨rfl, hxa, hfa⟩
            have HXA := Lib.hid hxa
            have HYA := Lib.hid (HYF.out.fr hfa (by simp only [List.mem_cons, List.not_mem_nil, or_false]; omega) (by simp only [List.mem_cons, List.not_mem_nil, or_false]; omega) (by simp only [List.mem_cons, List.not_mem_nil, or_false]; omega))
            have HBA := Lib.hid (HBF.out.trans (hfa.belowB (B := w.heap.size) (by omega) (by simp only [List.mem_cons, List.not_mem_nil, or_false]; omega)))
            have hsa := hfa.size
            clear hxa hfa
            go_wp2_with fail
            refine (restart_some _ HYA.out _ fl fg (HF.out.below HBA.out) (fun h0 b hb => by have := HF.out.lt h0 b hb; omega)).mono ?_
            rintro e wb ⟨rfl, hyb, hfb⟩
            have HYB := Lib.hid hyb
            have HXB := Lib.hid (HXA.out.fr hfb (by simp only [List.mem_cons, List.not_mem_nil, or_false]; omega) (by simp only [List.mem_cons, List.not_mem_nil, or_false]; omega) (by simp only [List.mem_cons, List.not_mem_nil, or_false]; omega))
            have HBB := Lib.hid (HBA.out.trans (hfb.belowB (B := w.heap.size) (by omega) (by simp only [List.mem_cons, List.not_mem_nil, or_false]; omega)))
            have hsb := hfb.size
            clear hyb hfb
            rw [HEQ.out] at HXB
            obtain ⟨D, hD⟩ : ∃ D : DK, Y.restart (fateN fl fg) = D := ⟨_, rfl⟩
            have hDn : D.n = n := by rw [← hD]; exact HYN.out
            have hDd : D.dead = false := by rw [← hD]; rfl
            rw [hD] at HYB HXB
            have HDN := Lib.hid hDn
            have HDD := Lib.hid hDd
            clear hD hDn hDd HXA HYA HXF HYF HBF
            go_wp2_with fail
            refine (read_ok 0 n _ HXB.out HDD.out (by rw [HDN.out]; omega)).mono ?_
            rintro e wc ⟨vx, rfl, hox, hfc⟩
            have hbx := (owns_bytes hox).1
            have HYC := Lib.hid (HYB.out.fr0 hfc)
            have HBC := Lib.hid (HBB.out.trans (hfc.belowB (B := w.heap.size) (by omega) (by simp)))
            have hsc := hfc.size
            obtain ⟨xo, xc, rfl, hx1, hx2, hx3, hx4⟩ := hbx
            obtain ⟨xb, xoff, rfl, hxr⟩ := hx4 (by omega)
            have HXR := Lib.hid hxr
            clear hox hfc hx1 hx2 hx3 hx4 hxr
            go_wp2_with fail
            refine (read_ok 0 n _ HYC.out HDD.out (by rw [HDN.out]; omega)).mono ?_
            rintro e wd ⟨vy, rfl, hoy, hfd⟩
            have hby := (owns_bytes hoy).1
            have HXRd := Lib.hid (rangeAt_congr HXR.out (hfd.block xb (rangeAt_lt HXR.out (by omega)) (by simp)))
            have HBD := Lib.hid (HBC.out.trans (hfd.belowB (B := w.heap.size) (by omega) (by simp)))
            have hsd := hfd.size
            obtain ⟨yo, yc, rfl, hy1, hy2, hy3, hy4⟩ := hby
            obtain ⟨yb, yoff, rfl, hyr⟩ := hy4 (by omega)
            have hcx := run_bytes_string (P := Try.prog) wd 31 9 5 xb xoff (64 * n) xc _ Try.underlying31 Try.underlying5 Try.underlying9 HXRd.out
            have hcy := run_bytes_string (P := Try.prog) wd 31 9 5 yb yoff (64 * n) yc _ Try.underlying31 Try.underlying5 Try.underlying9 hyr
            have hlen : (64 * (n : Int) == (n : Int) * 64) = true := by simp; omega
            clear hoy hfd hy1 hy2 hy3 hy4 hyr HXR
            go_wp2_with fail
            refine (keeps12_any _).mono ?_
            rintro e we ⟨rfl, hfe⟩
            have HBE := Lib.hid (HBD.out.trans (hfe.belowB (B := w.heap.size) (by omega) (by simp)))
            clear hfe
            go_wp2_with fail
            go_ret
            exact ⟨rfl, HBE.out⟩
          · have tf : ((dn : Int) == (f : Int)) = false := by simp; omega
            have h0X : ¬ ((f : Int) - (dn : Int) = 0) := by omega
            have H0X := Lib.hid h0X
            clear h0X
            go_wp2_with fail
            refine (sync_ok wr HX.out HYd.out H0X.out).mono ?_
            rintro e w4 ⟨rfl, hx4, hf4⟩
            have HX4 := Lib.hid hx4
            have HY4 := Lib.hid (HY.out.fr hf4 (by simp only [List.mem_cons, List.not_mem_nil, or_false]; omega) (by simp only [List.mem_cons, List.not_mem_nil, or_false]; omega) (by simp only [List.mem_cons, List.not_mem_nil, or_false]; omega))
            have HB4 := Lib.hid (HBW.out.trans (hf4.belowB (B := w.heap.size) (by omega) (by simp only [List.mem_cons, List.not_mem_nil, or_false]; omega)))
            have hs4 := hf4.size
            clear hx4 hf4 c0 c1 c3
            go_wp2_with fail
            refine (sync_ok w4 HY4.out HYd.out (by rw [HYf.out]; decide)).mono ?_
            rintro e w5 ⟨rfl, hy5, hf5⟩
            have hX5 : DiskAt w5 (w.heap.size + 2) w.heap.size (w.heap.size + 1) { ({ Y.burn with L := Y.now, M := fun _ => none } : DK) with fuse := (f : Int) - ((dn + 1 : Nat) : Int) } := by
              have h := HX4.out.fr hf5 (by simp only [List.mem_cons, List.not_mem_nil, or_false]; omega) (by simp only [List.mem_cons, List.not_mem_nil, or_false]; omega) (by simp only [List.mem_cons, List.not_mem_nil, or_false]; omega)
              rw [burn_less Y (show (0 : Int) < (f : Int) - (dn : Int) by omega)] at h
              rw [burn_fuse HYf.out, show (f : Int) - ((dn + 1 : Nat) : Int) = (f : Int) - (dn : Int) - 1 by omega]
              exact h
            have HX5 := Lib.hid hX5
            have HY5 := Lib.hid hy5
            have HB5 := Lib.hid (HB4.out.trans (hf5.belowB (B := w.heap.size) (by omega) (by simp only [List.mem_cons, List.not_mem_nil, or_false]; omega)))
            have HYn5 : ({ Y.burn with L := Y.now, M := fun _ => none } : DK).n = n := by rw [burn_fuse HYf.out]; exact HYN.out
            have HYN5 := Lib.hid HYn5
            have HYd5 : Hid (({ Y.burn with L := Y.now, M := fun _ => none } : DK).dead = false) := by rw [burn_fuse HYf.out]; exact HYd
            have HYf5 : Hid (({ Y.burn with L := Y.now, M := fun _ => none } : DK).fuse = -1) := by rw [burn_fuse HYf.out]; exact HYf
            clear hy5 hf5 hX5 HYn5
            go_wp2_with fail
            refine (dead_some _ HX5.out).mono ?_
            rintro e w' ⟨rfl, rfl⟩
            rw [show ({ ({ Y.burn with L := Y.now, M := fun _ => none } : DK) with fuse := (f : Int) - ((dn + 1 : Nat) : Int) } : DK).dead = false from HYd5.out]
            go_wp2_with fail
            go_roundw
            case rel => exact ⟨k + 1, dn + 1, ({ Y.burn with L := Y.now, M := fun _ => none } : DK), by omega, by omega, by omega, by go_num, by go_num, HYN5.out, HYd5, HYf5, HX5.out, HY5.out, HB5.out⟩
            case measure => simp [intOf] <;> omega
        · have t0 : ((R k).d % 6 == 0) = false := by simp [hk0]
          have t0' : ((R k).d % 6 != 0) = true := by simp [hk0]
          have t2 : ((R k).d % 6 != 2) = true := by simp [hk2]
          clear hk0 hk2
          go_wp2_with fail
          go_roundw
          case rel => exact ⟨k + 1, dn, Y, by omega, by omega, hdf, by go_num, rfl, HYN.out, HYd, HYf, HX.out, HY.out, HBW.out⟩
          case measure => simp [intOf] <;> omega
    · obtain rfl : k = an := by omega
      have hkk : ¬ (k : Int) < (k : Int) := by omega
      go_wp2_with fail
      have HXF := HX
      have HYF := HY
      have HBF := HBW
      have HEQ := Lib.hid (restart_same Y Y.dead ((f : Int) - (dn : Int)) (fateN fl fg))
      have hz1 := HYF.out.db_lt
      refine (restart_some _ HXF.out _ fl fg (HF.out.below HBF.out) (fun h0 b hb => by have := HF.out.lt h0 b hb; omega)).mono ?_
      rintro e wa ⟨rfl, hxa, hfa⟩
      have HXA := Lib.hid hxa
      have HYA := Lib.hid (HYF.out.fr hfa (by simp only [List.mem_cons, List.not_mem_nil, or_false]; omega) (by simp only [List.mem_cons, List.not_mem_nil, or_false]; omega) (by simp only [List.mem_cons, List.not_mem_nil, or_false]; omega))
      have HBA := Lib.hid (HBF.out.trans (hfa.belowB (B := w.heap.size) (by omega) (by simp only [List.mem_cons, List.not_mem_nil, or_false]; omega)))
      have hsa := hfa.size
      clear hxa hfa
      go_wp2_with fail
      refine (restart_some _ HYA.out _ fl fg (HF.out.below HBA.out) (fun h0 b hb => by have := HF.out.lt h0 b hb; omega)).mono ?_
      rintro e wb ⟨rfl, hyb, hfb⟩
      have HYB := Lib.hid hyb
      have HXB := Lib.hid (HXA.out.fr hfb (by simp only [List.mem_cons, List.not_mem_nil, or_false]; omega) (by simp only [List.mem_cons, List.not_mem_nil, or_false]; omega) (by simp only [List.mem_cons, List.not_mem_nil, or_false]; omega))
      have HBB := Lib.hid (HBA.out.trans (hfb.belowB (B := w.heap.size) (by omega) (by simp only [List.mem_cons, List.not_mem_nil, or_false]; omega)))
      have hsb := hfb.size
      clear hyb hfb
      rw [HEQ.out] at HXB
      obtain ⟨D, hD⟩ : ∃ D : DK, Y.restart (fateN fl fg) = D := ⟨_, rfl⟩
      have hDn : D.n = n := by rw [← hD]; exact HYN.out
      have hDd : D.dead = false := by rw [← hD]; rfl
      rw [hD] at HYB HXB
      have HDN := Lib.hid hDn
      have HDD := Lib.hid hDd
      clear hD hDn hDd HXA HYA HXF HYF HBF
      go_wp2_with fail
      refine (read_ok 0 n _ HXB.out HDD.out (by rw [HDN.out]; omega)).mono ?_
      rintro e wc ⟨vx, rfl, hox, hfc⟩
      have hbx := (owns_bytes hox).1
      have HYC := Lib.hid (HYB.out.fr0 hfc)
      have HBC := Lib.hid (HBB.out.trans (hfc.belowB (B := w.heap.size) (by omega) (by simp)))
      have hsc := hfc.size
      obtain ⟨xo, xc, rfl, hx1, hx2, hx3, hx4⟩ := hbx
      obtain ⟨xb, xoff, rfl, hxr⟩ := hx4 (by omega)
      have HXR := Lib.hid hxr
      clear hox hfc hx1 hx2 hx3 hx4 hxr
      go_wp2_with fail
      refine (read_ok 0 n _ HYC.out HDD.out (by rw [HDN.out]; omega)).mono ?_
      rintro e wd ⟨vy, rfl, hoy, hfd⟩
      have hby := (owns_bytes hoy).1
      have HXRd := Lib.hid (rangeAt_congr HXR.out (hfd.block xb (rangeAt_lt HXR.out (by omega)) (by simp)))
      have HBD := Lib.hid (HBC.out.trans (hfd.belowB (B := w.heap.size) (by omega) (by simp)))
      have hsd := hfd.size
      obtain ⟨yo, yc, rfl, hy1, hy2, hy3, hy4⟩ := hby
      obtain ⟨yb, yoff, rfl, hyr⟩ := hy4 (by omega)
      have hcx := run_bytes_string (P := Try.prog) wd 31 9 5 xb xoff (64 * n) xc _ Try.underlying31 Try.underlying5 Try.underlying9 HXRd.out
      have hcy := run_bytes_string (P := Try.prog) wd 31 9 5 yb yoff (64 * n) yc _ Try.underlying31 Try.underlying5 Try.underlying9 hyr
      have hlen : (64 * (n : Int) == (n : Int) * 64) = true := by simp; omega
      clear hoy hfd hy1 hy2 hy3 hy4 hyr HXR
      go_wp2_with fail
      refine (keeps12_any _).mono ?_
      rintro e we ⟨rfl, hfe⟩
      have HBE := Lib.hid (HBD.out.trans (hfe.belowB (B := w.heap.size) (by omega) (by simp)))
      clear hfe
      go_wp2_with fail
      go_ret
      exact ⟨rfl, HBE.out⟩
end Go.Proofs.Ytgfdbjeliojhkaa
