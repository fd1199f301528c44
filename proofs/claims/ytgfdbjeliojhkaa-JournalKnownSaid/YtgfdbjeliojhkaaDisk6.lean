/-
  Disk6: contract of Restart. No condition.
-/
import Derived.Test.YtgfdbjeliojhkaaDisk5
namespace Go.Proofs.Ytgfdbjeliojhkaa
open Go.RowKit Go.Shelf

attribute [local go_sem] Oper.semAt_some

/-- a slice value that reads as len ints -/
def IntsAt (w : World) (v : Value) (len : Nat) (g : Nat → Int) : Prop :=
  ∃ ao cap, v = .slice ao len cap ∧ len ≤ cap ∧ cap ≤ maxLen ∧ (∀ j, -9223372036854775808 ≤ g j ∧ g j ≤ 9223372036854775807) ∧ (0 < len → ∃ b off, ao = some ⟨b, off, none⟩ ∧ ∀ j, j < len → w.cell? ⟨b, off + j, none⟩ = some (.int .i64 (g j)))
theorem IntsAt.fr {w w' : World} {v : Value} {m : Nat} {g : Nat → Int} {F : List Nat} (h : IntsAt w v m g) (hf : Fr F w w') (hF : ∀ k, v.ownBlock = some k → k ∉ F) : IntsAt w' v m g := by
  obtain ⟨ao, cap, rfl, h1, h2, h3, h4⟩ := h
  refine ⟨ao, cap, rfl, h1, h2, h3, fun hm => ?_⟩
  obtain ⟨b, off, rfl, hr⟩ := h4 hm
  exact ⟨b, off, rfl, fun j hj => (World.cell?_of_block (a := ⟨b, off + j, none⟩) (hf.block b (World.block_lt_of_cell? w _ (hr 0 hm)) (hF b rfl))).trans (hr j hj)⟩

theorem tmod_bd (x : Int) : -64 ≤ x.tmod 65 ∧ x.tmod 65 ≤ 64 := by
  rcases Int.le_total 0 x with h | h
  · rw [Int.tmod_eq_emod_of_nonneg h]; omega
  · have e : x = -(-x) := by omega
    rw [e, Int.neg_tmod, Int.tmod_eq_emod_of_nonneg (by omega)]; omega
/-- how many bytes come of the k-th sector -/
def fateN (len : Nat) (g : Nat → Int) (k : Nat) : Nat := if k < len then (((g k).tmod 65 + 64 + 1) % 65).toNat else 0
theorem fateN_le (len : Nat) (g : Nat → Int) (k : Nat) : fateN len g k ≤ 64 := by unfold fateN; split <;> omega
def stepR (D : DK) (fate : Nat → Nat) (kL : Nat × Sec) (x : WI D) : Nat × Sec := (kL.1 + 1, splF kL.2 (x.1 * 64) (fate kL.1) (secW D x))
def restK (D : DK) (fate : Nat → Nat) (pre : List (WI D)) : Nat × Sec := pre.foldl (stepR D fate) (0, D.L)
theorem restK_len (D : DK) (fate : Nat → Nat) (pre : List (WI D)) : (restK D fate pre).1 = pre.length := by
  unfold restK
  have : ∀ (pre : List (WI D)) (kL : Nat × Sec), (pre.foldl (stepR D fate) kL).1 = kL.1 + pre.length := by
    intro pre
    induction pre with
    | nil => intro kL; simp
    | cons x r ih => intro kL; rw [List.foldl_cons, ih]; simp [stepR]; omega
  rw [this]; simp
theorem restK_snoc (D : DK) (fate : Nat → Nat) (pre : List (WI D)) (x : WI D) : (restK D fate (pre ++ [x])).2 = splF (restK D fate pre).2 (x.1 * 64) (fate pre.length) (secW D x) := by
  have h := restK_len D fate pre
  unfold restK at h ⊢
  rw [List.foldl_append, List.foldl_cons, List.foldl_nil, stepR, h]
def DK.restart (D : DK) (fate : Nat → Nat) : DK := { n := D.n, L := (restK D fate (wl D D.n)).2, M := fun _ => none, dead := false, fuse := -1 }

theorem restart_nil (ao : Option Addr) (len cap : Nat) (w : World) : Calls Try.prog 16 #[.pointer none, .slice ao len cap] w fun e w' => e = .returned (.tuple #[]) ∧ Fr [] w w' := by
  go_enter Try.func16, Try.ntmps16
  go_wp2
  refine bodyPost_ret (results_none rfl _ _ _) rfl ?_
  exact ⟨rfl, (Fr.alloc _ _ _).trans (Fr.alloc _ _ _)⟩

set_option maxRecDepth 100000 in
set_option maxHeartbeats 2000000 in
theorem restart_some {db lb mb : Nat} {D : DK} (w : World) (h : DiskAt w db lb mb D) (fv : Value) (len : Nat) (g : Nat → Int) (hF : IntsAt w fv len g) (hblk : 0 < len → ∀ k, fv.ownBlock = some k → k ≠ lb) :
    Calls Try.prog 16 #[.pointer (some ⟨db, 0, none⟩), fv] w fun e w' => e = .returned (.tuple #[]) ∧ DiskAt w' db lb mb (D.restart (fateN len g)) ∧ Fr [db, lb, mb] w w' := by
  have hF' := hF
  obtain ⟨ao, cap, rfl, hl1, hl2, hl3, hl4⟩ := hF'
  unfold maxLen at hl2
  have hsz := h.db_lt
  have hsz2 := h.lb_lt
  have hsz3 := h.mb_lt
  have HF := Lib.hid hF
  have HB := Lib.hid hblk
  have H := Lib.hid h
  clear h hF hl3 hl4 hblk
  refine (callsIn_wide (n := 10)).1 ?_
  refine callsIn_of_wp_marks Try.func16 rfl trivial ?_ rfl
  simp only [Try.ntmps16, List.size_toArray, List.length_cons, List.length_nil, Nat.reduceAdd, Nat.reduceSub, Array.replicate_succ, Array.replicate_zero, List.push_toArray, List.append_toArray, List.nil_append, List.cons_append]
  have hfn : ∀ f, Fence.wide.fn f := fun _ => trivial
  gi_wp2_with (gi_at_call 36; refine (sectors_in _ db _).mono ?_; rintro e w2 ⟨rfl, rfl⟩)
  have hIt0 : ItAt ((((w.alloc (.cells #[.pointer (some ⟨db, 0, none⟩)] 25)).alloc (.cells #[.slice ao len cap] 23)).alloc (.cells #[.int .i64 0] 3)).alloc (.cells #[.pointer (some ⟨db, 0, none⟩)] 25)) (w.heap.size + 1 + 1 + 1) db lb mb D :=
    ⟨H.out.n2, by have := heap_alloc_new (((w.alloc (.cells #[.pointer (some ⟨db, 0, none⟩)] 25)).alloc (.cells #[.slice ao len cap] 23)).alloc (.cells #[.int .i64 0] 3)) (.cells #[.pointer (some ⟨db, 0, none⟩)] 25); simpa using this,
      (Below.heap_alloc _ _ _ (by simp; omega)).trans ((Below.heap_alloc _ _ _ (by simp; omega)).trans ((Below.heap_alloc _ _ _ (by simp; omega)).trans ((Below.heap_alloc _ _ _ hsz).trans H.out.d))),
      H.out.m.congrB ((Below.heap_alloc _ _ _ (by simp; omega)).trans ((Below.heap_alloc _ _ _ (by simp; omega)).trans ((Below.heap_alloc _ _ _ (by simp; omega)).trans (Below.heap_alloc _ _ _ hsz3))))⟩
  have hb0 := (Below.heap_alloc (((w.alloc (.cells #[.pointer (some ⟨db, 0, none⟩)] 25)).alloc (.cells #[.slice ao len cap] 23)).alloc (.cells #[.int .i64 0] 3)) (.cells #[.pointer (some ⟨db, 0, none⟩)] 25) w.heap.size (by simp; omega)).trans (heap3_0 w (.cells #[.pointer (some ⟨db, 0, none⟩)] 25) (.cells #[.slice ao len cap] 23) (.cells #[.int .i64 0] 3))
  have hb1 := (Below.heap_alloc (((w.alloc (.cells #[.pointer (some ⟨db, 0, none⟩)] 25)).alloc (.cells #[.slice ao len cap] 23)).alloc (.cells #[.int .i64 0] 3)) (.cells #[.pointer (some ⟨db, 0, none⟩)] 25) (w.heap.size + 1) (by simp)).trans (heap3_1 w (.cells #[.pointer (some ⟨db, 0, none⟩)] 25) (.cells #[.slice ao len cap] 23) (.cells #[.int .i64 0] 3))
  have hb2 := (Below.heap_alloc (((w.alloc (.cells #[.pointer (some ⟨db, 0, none⟩)] 25)).alloc (.cells #[.slice ao len cap] 23)).alloc (.cells #[.int .i64 0] 3)) (.cells #[.pointer (some ⟨db, 0, none⟩)] 25) (w.heap.size + 2) (by simp)).trans (heap3_2 w (.cells #[.pointer (some ⟨db, 0, none⟩)] 25) (.cells #[.slice ao len cap] 23) (.cells #[.int .i64 0] 3))
  have hfr0 : Fr [] w ((((w.alloc (.cells #[.pointer (some ⟨db, 0, none⟩)] 25)).alloc (.cells #[.slice ao len cap] 23)).alloc (.cells #[.int .i64 0] 3)).alloc (.cells #[.pointer (some ⟨db, 0, none⟩)] 25)) :=
    (((Fr.alloc [] w _).trans (Fr.alloc _ _ _)).trans (Fr.alloc _ _ _)).trans (Fr.alloc _ _ _)
  have hs2 : ((((w.alloc (.cells #[.pointer (some ⟨db, 0, none⟩)] 25)).alloc (.cells #[.slice ao len cap] 23)).alloc (.cells #[.int .i64 0] 3)).alloc (.cells #[.pointer (some ⟨db, 0, none⟩)] 25)).heap.size = w.heap.size + 4 := by simp
  obtain ⟨w2, hw2⟩ : ∃ w2, ((((w.alloc (.cells #[.pointer (some ⟨db, 0, none⟩)] 25)).alloc (.cells #[.slice ao len cap] 23)).alloc (.cells #[.int .i64 0] 3)).alloc (.cells #[.pointer (some ⟨db, 0, none⟩)] 25)) = w2 := ⟨_, rfl⟩
  rw [hw2] at hIt0 hb0 hb1 hb2 hfr0 hs2 ⊢
  clear hw2
  have n1 := H.out.ne1
  have n2 := H.out.ne2
  have n3 := H.out.ne3
  have hd2 := H.out.fr0 hfr0
  have HF2 := Lib.hid (HF.out.fr hfr0 (by simp))
  refine wpIn_rangeFunc_ownH rfl (by omega) (gf := 47) (lb := #[.pointer (some ⟨w.heap.size + 1 + 1 + 1, 0, none⟩)]) rfl trivial (enters_of Try.func47 (by kernel_rfl) rfl)
    (sectors1_stops (10 - 1) (by omega) (w.heap.size + 1 + 1 + 1) db lb mb D w2 hIt0) (fun h k => h.trans k) (fun W l o o' hl ho _ _ => ?kb) (Below.refl _ _) (fun _ => rfl)
    (fun pre W => (W.heap[lb]? = some (.cells (rowA (64 * D.n) (restK D (fateN len g) pre).2) 69 (0, 0)) ∧ W.heap[w.heap.size + 2]? = some (.cells #[.int .i64 (pre.length : Int)] 3 (0, 0))) ∧ Fr [lb, w.heap.size + 2] w2 W) (fun _ _ _ => False)
    (OwnFrom.and (OwnFrom.and (ownFrom_cells (fun pre => Obj.cells (rowA (64 * D.n) (restK D (fateN len g) pre).2) 69 (0, 0)) (by omega)) (ownFrom_cells (fun pre : List (WI D) => Obj.cells #[.int .i64 (pre.length : Int)] 3 (0, 0)) (by omega))) (ownFrom_fr (Nat.le_refl _))) (fun _ _ _ _ _ hs _ _ => hs)
    ⟨⟨hd2.l, hb2⟩, Fr.refl _ _⟩
    (fun x a' W => ∃ Bx, w2.heap.size ≤ Bx ∧ W.heap[Bx]? = some (.cells (rowA 64 (secW D x)) 69 (0, 0)) ∧ a' = { tmps := #[.pointer (some ⟨db, 0, none⟩), .slice ao len cap, .pointer (some ⟨w.heap.size, 0, none⟩), .pointer (some ⟨w.heap.size + 1, 0, none⟩), .pointer (some ⟨w.heap.size + 1 + 1, 0, none⟩), .int .i64 (x.1 : Int), .pointer (some ⟨Bx, 0, none⟩), undef,
          .pointer (some ⟨db, 0, none⟩), .bool false, .pointer (some ⟨db, 0, none⟩), .func (.func 47) #[] #[.pointer (some ⟨w.heap.size + 1 + 1 + 1, 0, none⟩)], .int .i64 (x.1 : Int), .agg (rowA 64 (secW D x)), undef, undef, undef, undef, undef, undef, undef, undef, undef, undef, undef, undef, undef, undef, undef, undef, undef, undef, undef, undef, undef, undef, undef, undef, undef, undef, undef, undef, undef, undef, undef, undef, undef, undef], defers := [] })
    (fun x a' _ X Y row hs hg hr => ?ax) ?assign ?body ?done ?stop
  case kb => exact ⟨putObj_other (by omega) _, putObj_other (by omega) _, putObj_other (by omega) _, by rw [putObj_size]; exact Nat.le_refl _⟩
  case ax =>
    obtain ⟨Bx, h1, h2, h3⟩ := hs
    refine ⟨Bx, h1, (hg.block Bx (Array.getElem?_eq_some_iff.1 h2).1 (fun e => ?_)).trans h2, h3⟩
    obtain ⟨_, o, ho, hc⟩ := hr Bx e.symm
    rw [h2] at ho; cases ho; cases hc
  case assign =>
    rintro l pre x W K ⟨⟨hl, hkb⟩, hfr⟩ hK
    have HL := Lib.hid hl
    have HK2 := Lib.hid hkb
    have HFr := Lib.hid hfr
    have HK := Lib.hid hK
    clear hl hfr hK hkb
    simp only [encW]
    gi_wp2_with (first
      | ((with_reducible refine wpListIn_at (.alloc 69) rfl ?_); refine wpListIn_valG (fun _ => trivial) rfl (nd_of rfl (fun c h => by cases h)) (exec_alloc_arr 69 rfl 64 (fun _ => 0) zero_sector) ?_)
      | ((with_reducible refine wpListIn_at (.store 69 (.tmp 6) (.tmp 13)) rfl ?_); refine wpListIn_skipG (fun _ => trivial) rfl (nd_of rfl (fun c h => by cases h)) (exec_store_new 69 _ _ rfl 64 (fun _ => 0) _ rfl rfl isz_sector) ?_))
    have hsW := HFr.out.size
    have hal := Fr.alloc [] W (.cells (rowA 64 (secW D x)) 69)
    refine HK.out _ _ (hal.keepsFrom (by simp)) (hal.kp3 (by omega) (by omega) (by omega) (by simp) (by simp) (by simp)) ⟨⟨(Below.heap_alloc _ _ _ (by omega)).trans HL.out, (Below.heap_alloc _ _ _ (by omega)).trans HK2.out⟩, HFr.out.trans (Fr.alloc _ _ _)⟩ ⟨W.heap.size, hsW, heap_alloc_new _ _, rfl⟩
  case body =>
    rintro l pre x a' W hl _ ⟨⟨hlb, hkb⟩, hfr⟩ ⟨Bx, hBx, hX, rfl⟩ hpl
    have HX := Lib.hid hX
    have HL := Lib.hid hlb
    have HFr := Lib.hid hfr
    have HKB := Lib.hid hkb
    have hsW := hfr.size
    have cb : W.cell? ⟨w.heap.size, 0, none⟩ = some (.pointer (some ⟨db, 0, none⟩)) := by rw [cell_of_row W w.heap.size 0 _ _ _ ((hfr.block _ (by omega) (by simp; omega)).trans hb0)]; rfl
    have cf : W.cell? ⟨w.heap.size + 1, 0, none⟩ = some (.slice ao len cap) := by rw [cell_of_row W (w.heap.size + 1) 0 _ _ _ ((hfr.block _ (by omega) (by simp; omega)).trans hb1)]; rfl
    have ck : W.cell? ⟨w.heap.size + 1 + 1, 0, none⟩ = some (.int .i64 (pre.length : Int)) := by rw [cell_of_row W (w.heap.size + 1 + 1) 0 _ _ _ hkb]; rfl
    have fk : W.frozen? ⟨w.heap.size + 1 + 1, 0, none⟩ = false := frozen_of_row W (w.heap.size + 1 + 1) 0 _ _ hkb
    have c0 : W.cell? ⟨db, 0, none⟩ = some (.slice (some ⟨lb, 0, none⟩) D.n D.n) := by rw [cell_of_row W db 0 _ _ _ ((hfr.block _ (by omega) (by simp; omega)).trans hd2.d)]; rfl
    have hx := x.2.1
    have hn2 := hd2.n2
    clear hX hlb hfr hkb
    have FIN := Lib.hid (fun (W3 : World) (h1 : W3.heap[lb]? = some (.cells (rowA (64 * D.n) (restK D (fateN len g) (pre ++ [x])).2) 69 (0, 0))) (h2 : W3.heap[w.heap.size + 2]? = some (.cells #[.int .i64 (pre.length : Int)] 3 (0, 0))) (h3 : Fr [lb, w.heap.size + 2] W W3) =>
      show KeepsFrom w2.heap.size W (W3.setCell ⟨w.heap.size + 1 + 1, 0, none⟩ (.int .i64 ((pre.length : Int) + 1))) ∧ Kp3 (w.heap.size + 1 + 1 + 1) db mb W (W3.setCell ⟨w.heap.size + 1 + 1, 0, none⟩ (.int .i64 ((pre.length : Int) + 1))) ∧
        ((W3.setCell ⟨w.heap.size + 1 + 1, 0, none⟩ (.int .i64 ((pre.length : Int) + 1))).heap[lb]? = some (.cells (rowA (64 * D.n) (restK D (fateN len g) (pre ++ [x])).2) 69 (0, 0)) ∧ (W3.setCell ⟨w.heap.size + 1 + 1, 0, none⟩ (.int .i64 ((pre.length : Int) + 1))).heap[w.heap.size + 2]? = some (.cells #[.int .i64 ((pre ++ [x]).length : Int)] 3 (0, 0))) ∧ Fr [lb, w.heap.size + 2] w2 (W3.setCell ⟨w.heap.size + 1 + 1, 0, none⟩ (.int .i64 ((pre.length : Int) + 1)))
      from by
        have f1 : Fr [lb, w.heap.size + 2] W (W3.setCell ⟨w.heap.size + 1 + 1, 0, none⟩ (.int .i64 ((pre.length : Int) + 1))) := h3.trans (Fr.setCell W3 (by simp) _)
        refine ⟨f1.keepsFrom (by simp; omega), f1.kp3 (by omega) (by omega) (by omega) (by simp; omega) (by simp; omega) (by simp; omega), ⟨(heap_setCell_other W3 _ _ _ (by simp; omega)).trans h1, ?_⟩, HFr.out.trans f1⟩
        rw [show w.heap.size + 2 = w.heap.size + 1 + 1 from rfl] at h2 ⊢
        rw [heap_setCell_same W3 (w.heap.size + 1 + 1) 0 _ _ _ h2]
        simp)
    by_cases hk : pre.length < len
    · obtain ⟨ao', cap', hv, _, _, hgb, hcell⟩ := HF.out
      have hv' : ao = ao' ∧ cap = cap' := by simpa using hv
      obtain ⟨fb, fo, hao, hc⟩ := hcell (by omega)
      have hao' : ao = some ⟨fb, fo, none⟩ := by rw [hv'.1, hao]
      have cf' : W.cell? ⟨w.heap.size + 1, 0, none⟩ = some (.slice (some ⟨fb, fo, none⟩) len cap) := by rw [cf, hao']
      have cg : W.cell? ⟨fb, fo + pre.length, none⟩ = some (.int .i64 (g pre.length)) := by
        have hlt := World.block_lt_of_cell? w _ (hc 0 (by omega))
        have hnb : fb ∉ [lb, w.heap.size + 2] := by
          have := HB.out (by omega) fb (by rw [hao']; rfl)
          simp at hlt ⊢
          exact ⟨this, by omega⟩
        have hlt' : fb < w.heap.size := hlt
        exact ((World.cell?_of_block (a := ⟨fb, fo + pre.length, none⟩) (HFr.out.block fb (by omega) hnb)).trans (World.cell?_of_block (a := ⟨fb, fo + pre.length, none⟩) (hfr0.block fb hlt' (by simp)))).trans (hc pre.length hk)
      have hg1 := (hgb pre.length).1
      have hg2 := (hgb pre.length).2
      clear cf hv hv' hao hao' hc hcell hgb
      obtain ⟨N, hN⟩ : ∃ N, N = fateN len g pre.length := ⟨_, rfl⟩
      have hN2 : N ≤ 64 := by rw [hN]; exact fateN_le _ _ _
      have hN3 : N = (((g pre.length).tmod 65 + 64 + 1) % 65).toNat := by rw [hN]; unfold fateN; rw [if_pos hk]
      have ht1 := (tmod_bd (g pre.length)).1
      have ht2 := (tmod_bd (g pre.length)).2
      have HN := Lib.hid hN
      have hq1 : 0 ≤ ((g pre.length).tmod 65 + 64 + 1) % 65 := by omega
      have hq2 : ((g pre.length).tmod 65 + 64 + 1) % 65 ≤ 64 := by omega
      have hq3 : (((g pre.length).tmod 65 + 64 + 1) % 65).toNat = N := hN3.symm
      have HQ := Lib.hid hq3
      clear hN hN3 hq3
      gi_wp2_with fail
      have hw1 : ((x.1 : Int) * 64).toNat = x.1 * 64 := by omega
      have hq3 := HQ.out
      refine wpIn_region_tail 9 (by kernel_rfl) (by kernel_rfl) (by kernel_rfl) (by rintro ⟨_, _, h⟩; exact h) ?_
      simp only [List.take_succ_cons, List.take_zero, List.drop_succ_cons, List.drop_zero]
      iterate 9 still_step
      refine wpStill_nil ?_
      refine wpList_val rfl (exec_copy rfl rfl rfl (fun ty => run_copy_bytes (P := Try.prog) W.drew 31 31 5 lb (x.1 * 64) N 64 ⟨Bx, 0, none⟩ 64 64 (64 * D.n) N _ (secW D x) 69 Try.underlying31 isz_u8 HL.out (show N = min 64 N by omega) (row_at HX.out hN2) (by omega) ty)) ?_
      refine wpList_nil ?_
      have hlb := H.out.lb_lt
      have hR : (W.drew.setRow lb (rowA (64 * D.n) (splF (restK D (fateN len g) pre).2 (x.1 * 64) N (secW D x)))).heap[lb]? = _ := setRow_heap W.drew lb _ _ _ _ HL.out
      have hR2 : (W.drew.setRow lb (rowA (64 * D.n) (splF (restK D (fateN len g) pre).2 (x.1 * 64) N (secW D x)))).heap[w.heap.size + 2]? = _ := (setRow_other W.drew lb _ _ (by omega)).trans HKB.out
      have hF3 : Fr [lb, w.heap.size + 2] W (W.drew.setRow lb (rowA (64 * D.n) (splF (restK D (fateN len g) pre).2 (x.1 * 64) N (secW D x)))) := (Fr.drew _ W).trans (Fr.setRow _ (by simp) _)
      rw [HN.out, ← restK_snoc] at hR hR2 hF3
      rw [HN.out, ← restK_snoc]
      obtain ⟨W3, hW3⟩ : ∃ W3, (W.drew.setRow lb (rowA (64 * D.n) (restK D (fateN len g) (pre ++ [x])).2)) = W3 := ⟨_, rfl⟩
      rw [hW3] at hR hR2 hF3 ⊢
      clear hW3 cb cg ck fk c0 hq3 hw1
      have HR := Lib.hid hR
      have HR2 := Lib.hid hR2
      have HF3 := Lib.hid hF3
      have ck : W3.cell? ⟨w.heap.size + 1 + 1, 0, none⟩ = some (.int .i64 (pre.length : Int)) := by rw [cell_of_row W3 (w.heap.size + 1 + 1) 0 _ _ _ hR2]; rfl
      have fk : W3.frozen? ⟨w.heap.size + 1 + 1, 0, none⟩ = false := frozen_of_row W3 (w.heap.size + 1 + 1) 0 _ _ hR2
      clear hR hR2 hF3
      gi_wp2
      exact FIN.out W3 HR.out HR2.out HF3.out
    · have hN : fateN len g pre.length = 0 := by unfold fateN; rw [if_neg hk]
      have HN := Lib.hid hN
      have hkn : (len : Int) ≤ (pre.length : Int) := by omega
      clear hN hk cf
      have cf : W.cell? ⟨w.heap.size + 1, 0, none⟩ = some (.slice ao len cap) := by rw [cell_of_row W (w.heap.size + 1) 0 _ _ _ ((HFr.out.block _ (by omega) (by simp; omega)).trans hb1)]; rfl
      gi_wp2_with fail
      have hw1 : ((x.1 : Int) * 64).toNat = x.1 * 64 := by omega
      refine wpIn_region_tail 9 (by kernel_rfl) (by kernel_rfl) (by kernel_rfl) (by rintro ⟨_, _, h⟩; exact h) ?_
      simp only [List.take_succ_cons, List.take_zero, List.drop_succ_cons, List.drop_zero]
      iterate 9 still_step
      refine wpStill_nil ?_
      refine wpList_val rfl (exec_copy rfl rfl rfl (fun ty => run_copy_bytes (P := Try.prog) W.drew 31 31 5 lb (x.1 * 64) 0 64 ⟨Bx, 0, none⟩ 64 64 (64 * D.n) 0 _ (secW D x) 69 Try.underlying31 isz_u8 HL.out rfl (row_at HX.out (by omega)) (by omega) ty)) ?_
      refine wpList_nil ?_
      have hlb := H.out.lb_lt
      have hR : (W.drew.setRow lb (rowA (64 * D.n) (splF (restK D (fateN len g) pre).2 (x.1 * 64) 0 (secW D x)))).heap[lb]? = _ := setRow_heap W.drew lb _ _ _ _ HL.out
      have hR2 : (W.drew.setRow lb (rowA (64 * D.n) (splF (restK D (fateN len g) pre).2 (x.1 * 64) 0 (secW D x)))).heap[w.heap.size + 2]? = _ := (setRow_other W.drew lb _ _ (by omega)).trans HKB.out
      have hF3 : Fr [lb, w.heap.size + 2] W (W.drew.setRow lb (rowA (64 * D.n) (splF (restK D (fateN len g) pre).2 (x.1 * 64) 0 (secW D x)))) := (Fr.drew _ W).trans (Fr.setRow _ (by simp) _)
      have e0 : splF (restK D (fateN len g) pre).2 (x.1 * 64) 0 (secW D x) = (restK D (fateN len g) (pre ++ [x])).2 := by rw [restK_snoc, HN.out]
      rw [e0] at hR hR2 hF3
      rw [e0]
      obtain ⟨W3, hW3⟩ : ∃ W3, (W.drew.setRow lb (rowA (64 * D.n) (restK D (fateN len g) (pre ++ [x])).2)) = W3 := ⟨_, rfl⟩
      rw [hW3] at hR hR2 hF3 ⊢
      clear e0
      clear hW3 cb ck fk c0 hw1 cf
      have HR := Lib.hid hR
      have HR2 := Lib.hid hR2
      have HF3 := Lib.hid hF3
      have ck : W3.cell? ⟨w.heap.size + 1 + 1, 0, none⟩ = some (.int .i64 (pre.length : Int)) := by rw [cell_of_row W3 (w.heap.size + 1 + 1) 0 _ _ _ hR2]; rfl
      have fk : W3.frozen? ⟨w.heap.size + 1 + 1, 0, none⟩ = false := frozen_of_row W3 (w.heap.size + 1 + 1) 0 _ _ hR2
      clear hR hR2 hF3
      gi_wp2
      exact FIN.out W3 HR.out HR2.out HF3.out
  case done =>
    rintro E xs W hE rfl ⟨⟨hlb, _⟩, hfr⟩ hK
    have HL := Lib.hid hlb
    have HFr := Lib.hid hfr
    have hsW := hfr.size
    have cb : W.cell? ⟨w.heap.size, 0, none⟩ = some (.pointer (some ⟨db, 0, none⟩)) := by rw [cell_of_row W w.heap.size 0 _ _ _ ((hfr.block _ (by omega) (by simp; omega)).trans hb0)]; rfl
    have hdW := (hfr.block _ (by omega) (by simp; omega)).trans hd2.d
    have c1 : W.cell? ⟨db, 1, none⟩ = some (.map (some mb)) := by rw [cell_of_row W db 1 _ _ _ hdW]; rfl
    obtain ⟨o, hcl, hmr⟩ := run_clear_waits (P := Try.prog) (w := W) Try.underlying64 (hd2.m.congrB (hfr.block _ (by omega) (by simp; omega)))
    have HC := Lib.hid hcl
    have HMR := Lib.hid hmr
    have HDW := Lib.hid hdW
    have HKD := Lib.hid ((putObj_other (w := W) (g := mb) (k := E) (by omega) o).trans hK)
    clear hlb hfr hcl hmr hdW hK
    gi_wp2_with ((with_reducible refine wpListIn_at (.call { callee := .builtin .clear, args := #[.tmp 41], argTypes := #[64] }) rfl ?_); refine wpListIn_valG (fun _ => trivial) rfl (nd_of rfl (fun c h => by cases h)) (exec_clear rfl rfl HC.out) ?_)
    have hdX := (putObj_other (w := W) n2 o).trans HDW.out
    have HDX := Lib.hid hdX
    have hfX : Fr [lb, mb, w.heap.size + 2] w2 (W.putObj mb o) := (HFr.out.mono (by simp)).trans (Fr.putObj _ (by simp) _)
    have HFX := Lib.hid hfX
    have hlX := (putObj_other (w := W) n3 o).trans HL.out
    have HLX := Lib.hid hlX
    have cbX := (World.cell?_of_block (a := ⟨w.heap.size, 0, none⟩) (putObj_other (w := W) (g := mb) (k := w.heap.size) (by omega) o)).trans cb
    obtain ⟨X, hX⟩ : ∃ X, W.putObj mb o = X := ⟨_, rfl⟩
    clear hdX hfX hlX
    rw [hX] at HKD HDX HFX HLX HMR cbX ⊢
    clear hX cb c1
    have cX2 : X.cell? ⟨db, 2, none⟩ = some (.bool D.dead) := by rw [cell_of_row X db 2 _ _ _ HDX.out]; rfl
    have cX3 : X.cell? ⟨db, 3, none⟩ = some (.int .i64 D.fuse) := by rw [cell_of_row X db 3 _ _ _ HDX.out]; rfl
    have fX2 : X.frozen? ⟨db, 2, none⟩ = false := frozen_of_row X db 2 _ _ HDX.out
    have fX3 : X.frozen? ⟨db, 3, none⟩ = false := frozen_of_row X db 3 _ _ HDX.out
    refine wpIn_wide.2 (Code.wp_mono (Q := fun e a' w' => e = .normal ∧ a'.defers = [{ target := .collected E, args := #[] }] ∧ w' = ((X.setCell ⟨db, 2, none⟩ (.bool false)).setCell ⟨db, 3, none⟩ (.int .i64 (-1))).drew) ?mono ?reg)
    case reg =>
      go_region
      all_goals exact ⟨rfl, rfl, rfl⟩
    case mono =>
      rintro e ⟨tm, df⟩ w' ⟨rfl, hdf, rfl⟩
      simp only at hdf
      subst hdf
      gi_wp2
      have e1 : ∀ k, k ≠ db → ((X.setCell ⟨db, 2, none⟩ (.bool false)).setCell ⟨db, 3, none⟩ (.int .i64 (-1))).drew.heap[k]? = X.heap[k]? := fun k hk =>
        (heap_setCell_other _ _ _ _ hk).trans (heap_setCell_other _ _ _ _ hk)
      have e2 : ((X.setCell ⟨db, 2, none⟩ (.bool false)).setCell ⟨db, 3, none⟩ (.int .i64 (-1))).drew.heap[db]? = some (.cells #[.slice (some ⟨lb, 0, none⟩) D.n D.n, .map (some mb), .bool false, .int .i64 (-1)] 66 (0, 0)) := by
        have h1 := heap_setCell_same X db 2 _ _ (.bool false) HDX.out
        have h2 := heap_setCell_same (X.setCell ⟨db, 2, none⟩ (.bool false)) db 3 _ _ (.int .i64 (-1)) h1
        exact h2
      have g1 : Fr [db, lb, mb, w.heap.size + 2] X ((X.setCell ⟨db, 2, none⟩ (.bool false)).setCell ⟨db, 3, none⟩ (.int .i64 (-1))).drew := ((Fr.setCell X (by simp) _).trans (Fr.setCell _ (by simp) _)).trans (Fr.drew _ _)
      refine ⟨by simp, .inl ⟨_, _, rfl, run_takeDeferred ((e1 E (by omega)).trans HKD.out), ?_⟩⟩
      refine ⟨_, results_none rfl _ _ _, rfl, ⟨hd2.n1, hd2.n2, by simp [DK.restart], by simp [DK.restart], ?_, ?_, ?_⟩, ?_⟩
      · exact (putObj_other (by omega) _).trans e2
      · exact (putObj_other (by omega) _).trans ((e1 lb (fun e => n1 e.symm)).trans HLX.out)
      · exact (HMR.out.congrB (e1 mb (fun e => n2 e.symm))).congrB (putObj_other (by omega) _)
      · refine Fr.putNew ?_ (by omega) _
        have g0 : Fr [db, lb, mb, w.heap.size + 2] w _ := ((hfr0.mono (by simp)).trans (HFX.out.mono (by simp))).trans g1
        exact g0.mono (by simp)
  case stop =>
    rintro D c pre W _ _ h _
    exact h.elim
end Go.Proofs.Ytgfdbjeliojhkaa
