/-
  DiskLastW: the walk of DiskLast. No condition beyond those stated.
-/
import Derived.Test.YtgfdbjeliojhkaaDisk8
namespace Go.Proofs.Ytgfdbjeliojhkaa
open Go.RowKit

theorem ob_ne {b off len cap k x y : Nat} (h : (Value.slice (some ⟨b, off, none⟩) len cap).ownBlock = some k) (h1 : b ≠ x) (h2 : b ≠ y) : k ≠ x ∧ k ≠ y := by
  have : b = k := by simpa [Value.ownBlock] using h
  omega
/-- a row of values -/
def valA (n : Nat) (V : Nat → Value) : Array Value := ((List.range n).map V).toArray
theorem valA_size (n : Nat) (V : Nat → Value) : (valA n V).size = n := by simp [valA]
theorem valA_get {n : Nat} (V : Nat → Value) {j : Nat} (h : j < n) : (valA n V)[j]? = some (V j) := by simp [valA, h]
theorem valA_congr {n : Nat} {V U : Nat → Value} (h : ∀ j, j < n → V j = U j) : valA n V = valA n U := by
  unfold valA; congr 1; apply List.map_congr_left; intro j hj; exact h j (by simpa using hj)
theorem valA_set (n k : Nat) (V : Nat → Value) (v : Value) : (valA n V).setIfInBounds k v = valA n (fun j => if j = k then v else V j) := by
  apply Array.ext_getElem?
  intro j
  by_cases hj : j < n
  · rw [valA_get _ hj]
    by_cases e : j = k
    · subst e; rw [Array.getElem?_setIfInBounds_self_of_lt (by rw [valA_size]; exact hj)]; simp
    · rw [Array.getElem?_setIfInBounds_ne (by omega), valA_get _ hj]; simp [e]
  · rw [Array.getElem?_eq_none (by simp [valA_size]; omega), Array.getElem?_eq_none (by rw [valA_size]; omega)]
theorem made_val (n : Nat) (v : Value) : madeCells #[v] n = valA n fun _ => v := by
  apply Array.ext_getElem?
  intro j
  by_cases hj : j < n
  · rw [valA_get _ hj]
    simp only [madeCells, Array.getElem?_map]
    rw [Array.getElem?_eq_getElem (by simpa using hj)]
    simp [Nat.mod_one]
  · rw [Array.getElem?_eq_none (by simp [madeCells]; omega), Array.getElem?_eq_none (by rw [valA_size]; omega)]

theorem info_bytes : (Try.prog.info? 31).map (fun i => (i.zero, i.size, i.bytes)) = some (some (.slice none 0 0), 1, 24) := by kernel_rfl
theorem run_make_bytess (n : Nat) (hn : n ≤ 100) (u : World) : (Instr.makeSlice 29 (.int .i64 (n : Int)) (.int .i64 (n : Int))).run Try.prog u = .ok (.slice (some ⟨u.heap.size, 0, none⟩) n n) (u.alloc (.cells (valA n fun _ => .slice none 0 0) 31)) := by
  obtain ⟨i0, hi, hz0, hz1, hz2⟩ := info_parts info_bytes
  have h := run_make (P := Try.prog) u 29 31 i0 _ Try.underlying29 hi hz0 .i64 .i64 (n : Int) (n : Int) (by omega) (Int.le_refl _) (by rw [hz2]; omega) (by omega)
  rw [h, hz1]
  simp only [Int.toNat_natCast, Value.cells, Nat.mul_one, made_val]

/-- what was written last, sector by sector: the slice, and its bytes -/
abbrev LastT := Nat → Option (Value × Sec)
def lastV (T : LastT) (j : Nat) : Value := match T j with | none => .slice none 0 0 | some p => p.1
def lastM (T : LastT) : Nat → Option Sec := fun j => (T j).map (·.2)
/-- each is a slice of 64 bytes -/
def LastOk (w : World) (n : Nat) (T : LastT) : Prop := (∀ j p, T j = some p → j < n ∧ ∃ b off cap, p.1 = .slice (some ⟨b, off, none⟩) 64 cap ∧ 64 ≤ cap ∧ cap ≤ maxLen ∧ w.rangeAt b off (rowL 64 p.2))

theorem mayE_ok {D : DK} (hd : D.dead = false) {x : Int} {len : Nat} (h : mayE D x (secs len) = 0) : ∃ a m : Nat, x = (a : Int) ∧ len = 64 * m ∧ a + m ≤ D.n := by
  simp only [mayE, hd] at h
  rw [if_neg (by simp)] at h
  split at h
  · simp at h
  · rename_i hc
    unfold secs at hc
    by_cases h64 : len % 64 = 0
    · rw [if_pos h64] at hc
      exact ⟨x.toNat, len / 64, by omega, by omega, by omega⟩
    · rw [if_neg h64] at hc; omega
def SV (bo : Option Addr) (bc q : Nat) : Value := .slice (bo.map fun x => ⟨x.block, x.off + q * 64, none⟩) 64 (bc - q * 64)
def TT (T : LastT) (a q : Nat) (bo : Option Addr) (bc : Nat) (f : Sec) : LastT := fun j => if a ≤ j ∧ j < a + q then some (SV bo bc (j - a), fun t => f (64 * (j - a) + t)) else T j
theorem TT_zero (T : LastT) (a : Nat) (bo : Option Addr) (bc : Nat) (f : Sec) : TT T a 0 bo bc f = T := by
  funext j; simp only [TT]; rw [if_neg (by omega)]
theorem TT_M (T : LastT) (a m n : Nat) (bo : Option Addr) (bc : Nat) (f : Sec) : (DK.write { DK.fresh n with M := lastM T } a m f) = { DK.fresh n with M := lastM (TT T a m bo bc f) } := by
  have : (fun i => if a ≤ i ∧ i < a + m then some (fun j => f (64 * (i - a) + j)) else lastM T i) = lastM (TT T a m bo bc f) := by
    funext i
    simp only [lastM, TT]
    by_cases h : a ≤ i ∧ i < a + m
    · rw [if_pos h, if_pos h]; rfl
    · rw [if_neg h, if_neg h]
  simp only [DK.write, this]
theorem TT_V (T : LastT) (a q : Nat) (bo : Option Addr) (bc : Nat) (f : Sec) : (fun j => if j = a + q then SV bo bc q else lastV (TT T a q bo bc f) j) = lastV (TT T a (q + 1) bo bc f) := by
  funext j
  simp only [lastV, TT]
  by_cases h : j = a + q
  · subst h
    rw [if_pos rfl, if_pos (by omega)]
    rw [show a + q - a = q by omega]
  · rw [if_neg h]
    by_cases h2 : a ≤ j ∧ j < a + q
    · rw [if_pos h2, if_pos (by omega)]
    · rw [if_neg h2, if_neg (by omega)]
theorem TT_ok {w : World} {n : Nat} {T : LastT} (h : LastOk w n T) {a m : Nat} {bo : Option Addr} {len bc : Nat} {f : Sec} (hlen : len = 64 * m) (hB : BytesAt w (.slice bo len bc) len f) (ham : a + m ≤ n) : LastOk w n (TT T a m bo bc f) := by
  intro j p hp
  simp only [TT] at hp
  by_cases hj : a ≤ j ∧ j < a + m
  · rw [if_pos hj] at hp
    cases hp
    obtain ⟨bo', bc', he, h1, h2, h3, h4⟩ := hB
    obtain ⟨b, off, hbo, hr⟩ := h4 (by omega)
    obtain ⟨rfl, rfl⟩ : bo = bo' ∧ bc = bc' := by simpa using he
    subst hbo
    refine ⟨by omega, b, off + (j - a) * 64, bc - (j - a) * 64, rfl, by omega, by omega, ?_⟩
    have := rangeAt_sub hr ((j - a) * 64) 64 (by omega)
    rw [show (fun t => f (64 * (j - a) + t)) = fun t => f ((j - a) * 64 + t) by funext t; rw [Nat.mul_comm]]
    exact this
  · rw [if_neg hj] at hp
    exact h j p hp

set_option maxRecDepth 100000 in
set_option maxHeartbeats 4000000 in
theorem diskLast_main (n an : Nat) (hn1 : 1 ≤ n) (hn2 : n ≤ 40) (av : Value) (R : Nat → ActR) (fv : Value) (fl : Nat) (fg : Nat → Int) (w : World) (hA : ActsAt w av an R) (hF : IntsAt w fv fl fg) (hg : greatP an R = false) (hfl : fl ≤ 60) :
    Calls Try.prog 3 #[.int .i64 (n : Int), av, fv] w fun e w' => e = .returned (.bool true) ∧ Below w.heap.size w w' := by
  have HA := Lib.hid hA
  have HF := Lib.hid hF
  have HG := Lib.hid (greatP_false hg)
  have han := HG.out.1
  have hmk := run_make_bytess n (by omega)
  have hfl' : (fl : Int) ≤ 60 := by omega
  obtain ⟨ao, acap, rfl, ha1, ha2, _⟩ := hA
  obtain ⟨fo, fcap, rfl, hf1, hf2, _⟩ := hF
  unfold maxLen at ha2 hf2
  have hga := great_any w HA.out
  rw [hg] at hga
  have HGA := Lib.hid hga
  clear hg hga
  go_enter Try.func3, Try.ntmps3
  go_wp2_with fail
  refine HGA.out.mono ?_
  rintro e w' ⟨rfl, rfl⟩
  go_wp2_with fail
  refine (new_ok n w hn1 (by omega)).mono ?_
  rintro e w1 ⟨rfl, hd1, hf1, hs1⟩
  have HX1 := Lib.hid hd1
  have HF1 := Lib.hid hf1
  clear hd1 hf1
  go_wp2_with fail
  refine (new_ok n w1 hn1 (by omega)).mono ?_
  rintro e w2 ⟨rfl, hd2, hf2, hs2⟩
  have HX2 := Lib.hid (HX1.out.fr0 hf2)
  have HY2 := Lib.hid hd2
  have HF2 := Lib.hid (HF1.out.trans hf2)
  clear hd2 hf2
  go_wp2_with fail
  obtain ⟨w3, hw3⟩ : ∃ w3, w2.alloc (.cells (valA n fun _ => .slice none 0 0) 31) = w3 := ⟨_, rfl⟩
  have HX3 := Lib.hid (show DiskAt w3 _ _ _ _ by rw [← hw3]; exact HX2.out.fr0 (Fr.alloc _ _ _))
  have HY3 := Lib.hid (show DiskAt w3 _ _ _ _ by rw [← hw3]; exact HY2.out.fr0 (Fr.alloc _ _ _))
  have HL3 := Lib.hid (show w3.heap[w.heap.size + 3 + 3]? = some (.cells (valA n (lastV fun _ => none)) 31 (0, 0)) by
    rw [← hw3, ← hs1, ← hs2]; exact heap_alloc_new _ _)
  have HF3 := Lib.hid (show Fr [] w w3 by rw [← hw3]; exact HF2.out.trans (Fr.alloc _ _ _))
  have hs3 : w3.heap.size = w2.heap.size + 1 := by rw [← hw3]; simp
  rw [hs1] at HY3
  rw [hw3]
  clear hw3 hmk
  go_loopw [12] (fun i wr => ∃ (k : Nat) (T : LastT), k ≤ an ∧ i = .int .i64 (k : Int) ∧ DiskAt wr (w.heap.size + 2) w.heap.size (w.heap.size + 1) { DK.fresh n with M := lastM T } ∧
      DiskAt wr (w.heap.size + 3 + 2) (w.heap.size + 3) (w.heap.size + 3 + 1) (DK.fresh n) ∧ wr.heap[w.heap.size + 3 + 3]? = some (.cells (valA n (lastV T)) 31 (0, 0)) ∧ LastOk w n T ∧ Below w.heap.size w wr)
    (fun i _ => an - (intOf i).toNat)
  case atStart => exact ⟨0, fun _ => none, Nat.zero_le _, rfl, HX3.out, HY3.out, HL3.out, (fun j p h => by cases h), HF3.out.below⟩
  case round =>
    obtain ⟨k, T, hk, rfl, hx, hy, hl, hok, hbw⟩ := hrel
    have HX := Lib.hid hx
    have HY := Lib.hid hy
    have HL := Lib.hid hl
    have HOK := Lib.hid hok
    have HBW := Lib.hid hbw
    have hszr := hx.db_lt
    have hszl := (Array.getElem?_eq_some_iff.1 hl).1
    clear hx hy hl hok hbw
    by_cases hlt : k < an
    · obtain ⟨ao', acap', he, _, _, hR⟩ := HA.out
      obtain ⟨ab, aoff, rfl, hR2⟩ := hR (by omega)
      obtain ⟨rfl, rfl⟩ : ao = some ⟨ab, aoff, none⟩ ∧ acap = acap' := by simpa using he
      have hact := hR2 k hlt
      have hactW := hact.below HBW.out
      have hg := HG.out.2 k hlt
      have c1 := hactW.c1
      have c3 := hactW.c3
      obtain ⟨bo, bc, hbv, hb1, hb2, hb3, hb4⟩ := hact.hb
      rw [hbv] at c3
      have hbB := hact.hb
      rw [hbv] at hbB
      have HBB := Lib.hid hbB
      unfold maxLen at hb2
      have HACT := Lib.hid hact
      have hkn : (k : Int) < (an : Int) := by omega
      by_cases hE : mayE { DK.fresh n with M := lastM T } (R k).at_ (secs (R k).bl) = 0
      · obtain ⟨a, m, ha, hm, ham⟩ := mayE_ok (D := { DK.fresh n with M := lastM T }) rfl hE
        have ham : a + m ≤ n := ham
        have hbv2 := hbv
        have ha2' := ha
        rw [ha] at c1
        have hN : 64 * m ≤ 1000 := by omega
        have HM := Lib.hid hm
        have HAM := Lib.hid ham
        have hq64 : ((R k).bl : Int) / 64 = (m : Int) := by omega
        have hbc : ((R k).bl : Int) ≤ (bc : Int) := by omega
        have hbl0 : ((R k).bl : Int) ≤ 1000 := by omega
        clear hact hactW he hR hR2 hg hbv hbB hb3 hb4 hE hm ha
        have HBV := Lib.hid hbv2
        have HA2 := Lib.hid ha2'
        clear hbv2 ha2'
        go_wp2_with fail
        refine wp_region_still_tail 11 (by kernel_rfl) (by kernel_rfl) ?_
        simp only [List.take_succ_cons, List.take_zero, List.drop_succ_cons, List.drop_zero]
        iterate 11 still_step
        refine wpStill_nil ?_
        change wpList _ _ _ _ _ wr.drew
        go_wp2_with fail
        refine (write_ok (D := { DK.fresh n with M := lastM T }) a m _ (R k).bf wr.drew (HX.out.cong rfl rfl rfl) (by rw [← HM.out]; exact HBB.out.below HBW.out.drew) (fun h0 b hb => by have := HBB.out.lt (by rw [HM.out]; omega) b hb; omega) rfl HAM.out (by show (-1 : Int) ≠ 0; decide)).mono ?_
        rintro e w4 ⟨rfl, hd4, hf4⟩
        have hd4' : DiskAt w4 (w.heap.size + 2) w.heap.size (w.heap.size + 1) { DK.fresh n with M := lastM (TT T a m bo bc (R k).bf) } := by
          rw [← TT_M]; exact hd4
        have HX4 := Lib.hid hd4'
        have HF4 := Lib.hid ((Fr.drew [w.heap.size + 2, w.heap.size + 1] wr).trans hf4)
        have HY4 := Lib.hid (HY.out.fr HF4.out (by simp) (by simp) (by simp))
        have hl4 := (HF4.out.block (w.heap.size + 3 + 3) hszl (by simp)).trans HL.out
        have HL4 := Lib.hid hl4
        have HB4 := Lib.hid (HBW.out.trans (HF4.out.belowB (B := w.heap.size) (by omega) (by simp)))
        have hsz4 := HF4.out.size
        clear hd4 hf4 hd4' hl4
        go_wp2_with fail
        go_loopw [13] (fun i wq => ∃ q : Nat, q ≤ m ∧ i = .int .i64 (q : Int) ∧ wq.heap[w.heap.size + 3 + 3]? = some (.cells (valA n (lastV (TT T a q bo bc (R k).bf))) 31 (0, 0)) ∧ Fr [w.heap.size + 3 + 3] w4 wq) (fun i _ => m - (intOf i).toNat)
        case atStart => exact ⟨0, Nat.zero_le _, rfl, by rw [TT_zero]; exact HL4.out, Fr.refl _ _⟩
        case round =>
          obtain ⟨q, hq, rfl, hlq, hfq⟩ := hrel
          have HLQ := Lib.hid hlq
          have HFQ := Lib.hid hfq
          have hBq : Below w.heap.size w wr := HB4.out.trans (hfq.belowB (B := w.heap.size) (by omega) (by simp; omega))
          have HBq := Lib.hid hBq
          have hactq := HACT.out.below hBq
          have c1q := hactq.c1
          have c3q := hactq.c3
          rw [HBV.out] at c3q
          rw [HA2.out] at c1q
          clear hlq hfq hBq hactq c1 c3
          by_cases hqm : q < m
          · obtain ⟨bo', bc', he', _, _, _, h4'⟩ := HBB.out
            obtain ⟨bb, boff, rfl, hrb⟩ := h4' (by rw [HM.out]; omega)
            obtain ⟨rfl, rfl⟩ : bo = some ⟨bb, boff, none⟩ ∧ bc = bc' := by simpa using he'
            have hml := HM.out
            have hhm := HAM.out
            have hne : ¬ bc = q * 64 := by omega
            have hx1 : (q : Int) * 64 ≤ ((q : Int) + 1) * 64 := by omega
            have hx2 : ((q : Int) + 1) * 64 ≤ (bc : Int) := by omega
            have hx3 : 0 ≤ (q : Int) * 64 := by omega
            have hx4 : 0 ≤ ((q : Int) + 1) * 64 := by omega
            have hx5 : (q : Int) ≤ (q : Int) + 1 := by omega
            have hx6 : 0 ≤ (a : Int) + (q : Int) := by omega
            have hx7 : (a : Int) + (q : Int) < (n : Int) := by omega
            have hx8 : (q : Int) < (m : Int) := by omega
            have cst : wr.cell? ⟨w.heap.size + 3 + 3, a + q, none⟩ = some (lastV (TT T a q (some ⟨bb, boff, none⟩) bc (R k).bf) (a + q)) := by
              rw [cell_of_row wr _ (a + q) _ _ _ HLQ.out, valA_get _ (by omega)]
            have fst := frozen_of_row wr (w.heap.size + 3 + 3) (a + q) _ _ HLQ.out
            have hw1 : IntKind.i64.wrap ((q : Int) * 64) = (q : Int) * 64 := IntWalk.i64_in _ (by omega)
            have hw2 : IntKind.i64.wrap ((a : Int) + (q : Int)) = (a : Int) + (q : Int) := IntWalk.i64_in _ (by omega)
            have hw3 : IntKind.i64.wrap ((q : Int) + 1) = (q : Int) + 1 := IntWalk.i64_in _ (by omega)
            have hw4 : IntKind.i64.wrap (((q : Int) + 1) * 64) = ((q : Int) + 1) * 64 := IntWalk.i64_in _ (by omega)
            have hn1 : ((q : Int) * 64).toNat = q * 64 := by omega
            have hn2 : (((q : Int) + 1) * 64).toNat = (q + 1) * 64 := by omega
            have hn3 : (q + 1) * 64 - q * 64 = 64 := by omega
            have hn4 : ((a : Int) + (q : Int)).toNat = a + q := by omega
            clear hml hhm he' h4' hrb
            go_wp2_with fail
            refine wp_region_still_tail 20 (by kernel_rfl) (by kernel_rfl) ?_
            simp only [List.take_succ_cons, List.take_zero, List.drop_succ_cons, List.drop_zero]
            iterate 20 still_step
            refine wpStill_nil ?_
            change wpList _ _ _ _ _ wr.drew
            clear hw1 hw2 hw4 hn1 hn2 hn3 hn4 hx1 hx2 hx3 hx4 hx5 hx6 hx7 hne
            go_wp2
            go_roundw
            case rel =>
              refine ⟨q + 1, by omega, by go_num, ?_, HFQ.out.trans ((Fr.setCell wr (by simp) _).trans (Fr.drew _ _))⟩
              have e := heap_setCell_same wr (w.heap.size + 3 + 3) (a + q) _ _ (SV (some ⟨bb, boff, none⟩) bc q) HLQ.out
              rw [valA_set, TT_V] at e
              exact e
            case measure => simp [intOf]; omega
          · obtain rfl : q = m := by omega
            have hqq : ¬ (q : Int) < (q : Int) := by omega
            go_wp2
            go_roundw
            case rel =>
              refine ⟨k + 1, TT T a q bo bc (R k).bf, by omega, by go_num, HX4.out.fr HFQ.out (by simp only [List.mem_singleton]; omega) (by simp only [List.mem_singleton]; omega) (by simp only [List.mem_singleton]; omega), HY4.out.fr HFQ.out (by simp only [List.mem_singleton]; omega) (by simp only [List.mem_singleton]; omega) (by simp only [List.mem_singleton]; omega), HLQ.out, TT_ok HOK.out HM.out HBB.out HAM.out, HBq.out⟩
            case measure => simp [intOf]; omega
      · have hact1 := hact.a1
        have hact2 := hact.a2
        clear hact hactW he hR hR2 hg hbv hbB hb3 hb4
        have hEb : (mayE { DK.fresh n with M := lastM T } (R k).at_ (secs (R k).bl) != 0) = true := by simpa using hE
        have HE := Lib.hid hE
        clear hE
        go_wp2_with fail
        refine wp_region_still_tail 11 (by kernel_rfl) (by kernel_rfl) ?_
        simp only [List.take_succ_cons, List.take_zero, List.drop_succ_cons, List.drop_zero]
        iterate 11 still_step
        refine wpStill_nil ?_
        change wpList _ _ _ _ _ wr.drew
        go_wp2_with fail
        refine (write_err (D := { DK.fresh n with M := lastM T }) _ _ _ _ (by unfold maxLen; omega) wr.drew (HX.out.cong rfl rfl rfl) hact1 hact2 HE.out).mono ?_
        rintro e w' ⟨rfl, rfl⟩
        go_wp2_with fail
        go_roundw
        case rel => exact ⟨k + 1, T, by omega, by go_num, HX.out.cong rfl rfl rfl, HY.out.cong rfl rfl rfl, HL.out, HOK.out, HBW.out.drew⟩
        case measure => simp [intOf]; omega
    · obtain rfl : k = an := by omega
      have hkk : ¬ (k : Int) < (k : Int) := by omega
      go_wp2_with fail
      go_loopw [14] (fun i wq => ∃ j : Nat, j ≤ n ∧ i = .int .i64 ((j : Int) - 1) ∧ DiskAt wq (w.heap.size + 3 + 2) (w.heap.size + 3) (w.heap.size + 3 + 1) { DK.fresh n with M := fun i => if j ≤ i then lastM T i else none } ∧ Fr [w.heap.size + 3 + 2, w.heap.size + 3 + 1] wr wq) (fun i _ => (intOf i + 1).toNat)
      case atStart =>
        refine ⟨n, Nat.le_refl _, rfl, ?_, Fr.refl _ _⟩
        have e : (fun i => if n ≤ i then lastM T i else none) = (DK.fresh n).M := by
          funext i
          by_cases h : n ≤ i
          · rw [if_pos h]
            show (T i).map (·.2) = none
            cases hT : T i with
            | none => rfl
            | some p => have := (HOK.out i p hT).1; omega
          · rw [if_neg h]; rfl
        rw [e]; exact HY.out
      case round =>
        obtain ⟨j, hj, rfl, hyq, hfq⟩ := hrel
        have HYQ := Lib.hid hyq
        have HFQ := Lib.hid hfq
        clear hyq hfq
        rcases j with _ | p
        · rw [show (((0 : Nat) : Int) - 1) = -1 by omega]
          go_wp2_with fail
          have e : { DK.fresh n with M := fun i => if 0 ≤ i then lastM T i else none } = ({ DK.fresh n with M := lastM T } : DK) := by
            have : (fun i => if 0 ≤ i then lastM T i else none) = lastM T := by funext i; rw [if_pos (Nat.zero_le _)]
            rw [this]
          have HYF := HYQ.out
          rw [e] at HYF
          have HYF := Lib.hid HYF
          have HXF := Lib.hid (HX.out.fr HFQ.out (by simp only [List.mem_cons, List.not_mem_nil, or_false]; omega) (by simp only [List.mem_cons, List.not_mem_nil, or_false]; omega) (by simp only [List.mem_cons, List.not_mem_nil, or_false]; omega))
          have HBF := Lib.hid (HBW.out.trans (HFQ.out.belowB (B := w.heap.size) (by omega) (by simp only [List.mem_cons, List.not_mem_nil, or_false]; omega)))
          clear e
          refine (waiting_some _ HXF.out).mono ?_
          rintro e w' ⟨rfl, rfl⟩
          go_wp2_with fail
          refine (waiting_some _ HYF.out).mono ?_
          rintro e w' ⟨rfl, rfl⟩
          go_wp2_with fail
          obtain ⟨wz, hwz⟩ : ∃ wz, wr = wz := ⟨_, rfl⟩
          rw [hwz] at HXF HYF HBF ⊢
          clear hwz HYQ HFQ
          have hz1 := HYF.out.db_lt
          refine (restart_some _ HXF.out _ fl fg (HF.out.below HBF.out) (fun h0 b hb => by have := HF.out.lt h0 b hb; omega)).mono ?_
          rintro e wa ⟨rfl, hxa, hfa⟩
          have HXA := Lib.hid hxa
          have HYA := Lib.hid (HYF.out.fr hfa (by simp only [List.mem_cons, List.not_mem_nil, or_false]; omega) (by simp only [List.mem_cons, List.not_mem_nil, or_false]; omega) (by simp only [List.mem_cons, List.not_mem_nil, or_false]; omega))
          have HBA := Lib.hid (HBF.out.trans (hfa.belowB (B := w.heap.size) (by omega) (by simp only [List.mem_cons, List.not_mem_nil, or_false]; omega)))
          have hsa := hfa.size
          clear hxa hfa
          go_wp2_with fail
          refine (restart_some _ HYA.out _ fl fg (HF.out.below HBA.out) (fun h0 b hb => by have := HF.out.lt h0 b hb; omega)).mono ?_
          rintro e wb ⟨rfl, hyb, hfb⟩
          have HYB := Lib.hid hyb
          have HXB := Lib.hid (HXA.out.fr hfb (by simp only [List.mem_cons, List.not_mem_nil, or_false]; omega) (by simp only [List.mem_cons, List.not_mem_nil, or_false]; omega) (by simp only [List.mem_cons, List.not_mem_nil, or_false]; omega))
          have HBB := Lib.hid (HBA.out.trans (hfb.belowB (B := w.heap.size) (by omega) (by simp only [List.mem_cons, List.not_mem_nil, or_false]; omega)))
          have hsb := hfb.size
          clear hyb hfb
          obtain ⟨D, hD⟩ : ∃ D : DK, ({ DK.fresh n with M := lastM T } : DK).restart (fateN fl fg) = D := ⟨_, rfl⟩
          have hDn : D.n = n := by rw [← hD]; rfl
          have hDd : D.dead = false := by rw [← hD]; rfl
          rw [hD] at HYB HXB
          have HDN := Lib.hid hDn
          have HDD := Lib.hid hDd
          clear hD hDn hDd HXA HYA HXF HYF HBF
          go_wp2_with fail
          refine (read_ok 0 n _ HXB.out HDD.out (by rw [HDN.out]; omega)).mono ?_
          rintro e wc ⟨vx, rfl, hox, hfc⟩
          have hbx := (owns_bytes hox).1
          have HYC := Lib.hid (HYB.out.fr0 hfc)
          have HBC := Lib.hid (HBB.out.trans (hfc.belowB (B := w.heap.size) (by omega) (by simp)))
          have hsc := hfc.size
          obtain ⟨xo, xc, rfl, hx1, hx2, hx3, hx4⟩ := hbx
          obtain ⟨xb, xoff, rfl, hxr⟩ := hx4 (by omega)
          have HXR := Lib.hid hxr
          clear hox hfc hx1 hx2 hx3 hx4 hxr
          go_wp2_with fail
          refine (read_ok 0 n _ HYC.out HDD.out (by rw [HDN.out]; omega)).mono ?_
          rintro e wd ⟨vy, rfl, hoy, hfd⟩
          have hby := (owns_bytes hoy).1
          have HXRd := Lib.hid (rangeAt_congr HXR.out (hfd.block xb (rangeAt_lt HXR.out (by omega)) (by simp)))
          have HBD := Lib.hid (HBC.out.trans (hfd.belowB (B := w.heap.size) (by omega) (by simp)))
          have hsd := hfd.size
          obtain ⟨yo, yc, rfl, hy1, hy2, hy3, hy4⟩ := hby
          obtain ⟨yb, yoff, rfl, hyr⟩ := hy4 (by omega)
          have hcx := run_bytes_string (P := Try.prog) wd 31 9 5 xb xoff (64 * n) xc _ Try.underlying31 Try.underlying5 Try.underlying9 HXRd.out
          have hcy := run_bytes_string (P := Try.prog) wd 31 9 5 yb yoff (64 * n) yc _ Try.underlying31 Try.underlying5 Try.underlying9 hyr
          clear hoy hfd hy1 hy2 hy3 hy4 hyr HXR
          go_wp2_with fail
          refine (keeps12_any _).mono ?_
          rintro e we ⟨rfl, hfe⟩
          have HBE := Lib.hid (HBD.out.trans (hfe.belowB (B := w.heap.size) (by omega) (by simp)))
          clear hfe
          go_wp2_with fail
          go_ret
          exact ⟨rfl, HBE.out⟩
        · rw [show (((p + 1 : Nat) : Int) - 1) = (p : Int) by omega]
          have hLq := (HFQ.out.block (w.heap.size + 3 + 3) hszl (by simp only [List.mem_cons, List.not_mem_nil, or_false]; omega)).trans HL.out
          have cl : wr.cell? ⟨w.heap.size + 3 + 3, p, none⟩ = some (lastV T p) := by rw [cell_of_row wr _ p _ _ _ hLq, valA_get _ (by omega)]
          have hp0 : 0 ≤ (p : Int) := by omega
          have hpn : (p : Int) < (n : Int) := by omega
          have hfq := HFQ.out.size
          clear hLq
          cases hT : T p with
          | none =>
            rw [show lastV T p = .slice none 0 0 by simp [lastV, hT]] at cl
            have e : (fun i => if p + 1 ≤ i then lastM T i else none) = (fun i => if p ≤ i then lastM T i else none) := by
              funext i
              by_cases h : i = p
              · subst h; rw [if_neg (by omega), if_pos (Nat.le_refl _)]; simp [lastM, hT]
              · by_cases h2 : p + 1 ≤ i
                · rw [if_pos h2, if_pos (by omega)]
                · rw [if_neg h2, if_neg (by omega)]
            have E := Lib.hid e
            clear e hT
            go_wp2
            go_roundw
            case rel => exact ⟨p, by omega, by go_num, by rw [← E.out]; exact HYQ.out, HFQ.out⟩
            case measure => simp [intOf] <;> omega
          | some pr =>
            obtain ⟨_, b, off, cap, hv, hc1, hc2, hr⟩ := HOK.out p pr hT
            rw [show lastV T p = .slice (some ⟨b, off, none⟩) 64 cap by simp [lastV, hT, hv]] at cl
            have hB : BytesAt w (.slice (some ⟨b, off, none⟩) 64 cap) 64 pr.2 := ⟨_, cap, rfl, hc1, hc2, (fun e => by cases e), fun _ => ⟨b, off, rfl, hr⟩⟩
            have HB := Lib.hid hB
            have e : (fun i => if p ≤ i ∧ i < p + 1 then some (fun j => pr.2 (64 * (i - p) + j)) else if p + 1 ≤ i then lastM T i else none) = (fun i => if p ≤ i then lastM T i else none) := by
              funext i
              by_cases h : i = p
              · subst h
                rw [if_pos (by omega), if_pos (Nat.le_refl _)]
                simp [lastM, hT]
              · by_cases h2 : p + 1 ≤ i
                · rw [if_neg (by omega), if_pos h2, if_pos (by omega)]
                · rw [if_neg (by omega), if_neg h2, if_neg (by omega)]
            have E := Lib.hid e
            have hBwr := HBW.out.trans (HFQ.out.belowB (B := w.heap.size) (by omega) (by simp only [List.mem_cons, List.not_mem_nil, or_false]; omega))
            have HBWR := Lib.hid hBwr
            have hlt := rangeAt_lt hr (by omega)
            clear e hT hv hc1 hc2 hr hB hBwr
            go_wp2_with fail
            refine (write_ok p 1 _ pr.2 wr HYQ.out (HB.out.below HBWR.out) (fun _ k' hk' => ob_ne hk' (by omega) (by omega)) rfl (by show p + 1 ≤ n; omega) (by show (-1 : Int) ≠ 0; decide)).mono ?_
            rintro e w4 ⟨rfl, hd4, hf4⟩
            have hd4' : DiskAt w4 (w.heap.size + 3 + 2) (w.heap.size + 3) (w.heap.size + 3 + 1) { DK.fresh n with M := fun i => if p ≤ i then lastM T i else none } := by
              rw [← E.out]; exact hd4
            have HD4 := Lib.hid hd4'
            have HF4 := Lib.hid hf4
            clear hd4 hd4' hf4
            go_wp2
            go_roundw
            case rel => exact ⟨p, by omega, by go_num, HD4.out, HFQ.out.trans HF4.out⟩
            case measure => simp [intOf] <;> omega

end Go.Proofs.Ytgfdbjeliojhkaa
