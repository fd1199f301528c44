/-
  Jour5: contract of read (a head in a sector). No condition beyond those stated.
-/
import Derived.Test.YtgfdbjeliojhkaaJour4
namespace Go.Proofs.Ytgfdbjeliojhkaa
open Go.RowKit
theorem exec_eql_arr {P : Program} {o : Oper} {a : Act} {w : World} {t u e : TypeId} {x y : Operand} {n : Nat} {f g : Sec} (ho : o.op = .binOp .eql t x y u) (hx : a.eval x = .agg (rowA n f)) (hy : a.eval y = .agg (rowA n g)) (hg : P.eqGuardType P.depth t = false)
    (ht : P.underlying t = some (.array n e)) (he : P.underlying e = some (.int .u8)) (hs : (P.info? e).map (·.size) = some 1) (w' : World) (_ : w = w') : (execOp a.eval o).run P w = .ok (.value (.bool (decide (secL n f = secL n g)))) w := by
  unfold execOp
  simp only [ho, hx, hy, eqGuard, Sem.run_bind]
  simp [hg, run_eql_arr ht he hs]
def hN (f : Sec) : Nat := rdL (secL 8 f)
def hL (f : Sec) : Nat := rdL (secL 8 fun j => f (8 + j))
theorem hN_lt (f : Sec) : hN f < 2 ^ 64 := by have := rdL_lt (secL 8 f); rw [secL_len] at this; exact this
theorem hL_lt (f : Sec) : hL f < 2 ^ 64 := by have := rdL_lt (secL 8 fun j => f (8 + j)); rw [secL_len] at this; exact this
def okH (f : Sec) (room : Nat) : Bool := decide (secL 64 f = headL (hN f) (hL f)) && decide (hL f ≤ room)
theorem secL_take (m k : Nat) (f : Sec) (h : k ≤ m) : (secL m f).take k = secL k f := by
  unfold secL; rw [← List.map_take, List.take_range, Nat.min_eq_left h]
theorem secL_drop (m k : Nat) (f : Sec) : (secL (k + m) f).drop k = secL m fun j => f (k + j) := by
  apply List.ext_getElem?
  intro i
  rw [List.getElem?_drop]
  by_cases h : i < m
  · simp [secL, h]
  · rw [List.getElem?_eq_none (by rw [secL_len]; omega), List.getElem?_eq_none (by rw [secL_len]; omega)]
theorem readS_okH (f : Sec) (room : Nat) : readS (secL 64 f) room = if okH f room then some (hN f, hL f) else none := by
  have h1 : (secL 64 f).take 8 = secL 8 f := secL_take 64 8 f (by omega)
  have h2 : ((secL 64 f).drop 8).take 8 = secL 8 fun j => f (8 + j) := by rw [show 64 = 8 + 56 from rfl, secL_drop, secL_take 56 8 _ (by omega)]
  unfold readS okH
  rw [h1, h2]
  simp only [hN, hL]
  by_cases a : secL 64 f = headL (rdL (secL 8 f)) (rdL (secL 8 fun j => f (8 + j))) <;> by_cases b : rdL (secL 8 fun j => f (8 + j)) ≤ room <;> simp [a, b]
set_option maxRecDepth 100000 in
set_option maxHeartbeats 2000000 in
theorem read_any (b off cap room : Nat) (f : Sec) (w : World) (hc1 : 64 ≤ cap) (hc2 : cap ≤ maxLen) (hroom : room ≤ 1099511627776) (hr : w.rangeAt b off (rowL 64 f)) :
    Calls Try.prog 37 #[.slice (some ⟨b, off, none⟩) 64 cap, .int .i64 (room : Int)] w fun e w' => e = .returned (.tuple #[.int .u64 (hN f : Int), .int .u64 (hL f : Int), .bool (okH f room)]) ∧ Fr [] w w' := by
  unfold maxLen at hc2
  have HR := Lib.hid hr
  have hlt : b < w.heap.size := rangeAt_lt hr (by omega)
  have harr := fun ao c u => run_arrayAt (P := Try.prog) Try.underlying88 ao 64 c (Nat.le_refl _) u
  clear hr
  go_enter Try.func37, Try.ntmps37
  go_wp2_with (first
    | ((with_reducible refine wpList_at (.load 88 (.tmp 11)) rfl ?_); refine wpList_load_arr rfl 88 _ rfl b off rfl 64 _ _ (by exact HR.out) Try.underlying88 rfl isz_head ?_)
    | ((with_reducible refine wpList_at (.alloc 88) rfl ?_); refine wpList_alloc_arr rfl 88 rfl 64 (fun _ => 0) zero_head ?_)
    | ((with_reducible refine wpList_at (.store 88 (.tmp 7) (.tmp 12)) rfl ?_); refine wpList_store_new rfl 88 _ _ rfl 64 (fun _ => 0) _ rfl rfl isz_head ?_))
  clear harr
  obtain ⟨w1, hw1⟩ : ∃ w1, w.alloc (.cells (rowA 64 f) 88) = w1 := ⟨_, rfl⟩
  have HH1 := Lib.hid (show w1.heap[w.heap.size]? = some (.cells (rowA 64 f) 88 (0, 0)) by rw [← hw1]; exact heap_alloc_new _ _)
  have HF1 := Lib.hid (show Fr [] w w1 by rw [← hw1]; exact Fr.alloc _ _ _)
  have hs1 : w1.heap.size = w.heap.size + 1 := by rw [← hw1]; simp
  rw [hw1]
  clear hw1
  refine wp_region_plan [(0, false), (1, false), (3, false), (4, false), (2, true), (5, true), (6, false), (7, false)] (fun _ => True) (by kernel_rfl) (by kernel_rfl) trivial ?_
  iterate 4 (refine' plan_val rfl rfl (fun w' hS => ?_) ?_; rotate_left; (focus (go_simp; rfl)); simp only [Act.put, List.setIfInBounds_toArray, List.set_cons_zero, List.set_cons_succ])
  refine plan_do rfl (fun K hK => ?_)
  go_wp2_with fail
  refine (uint64_any w.heap.size 0 64 64 f w1.drew (by omega) (by omega) (by unfold maxLen; omega) (rangeAt_pre (rangeAt_row0 (w := w1.drew) HH1.out) (by omega))).mono ?_
  rintro e w2 ⟨rfl, hf2⟩
  have HH2 := Lib.hid ((hf2.block w.heap.size (by show w.heap.size < w1.heap.size; omega) (by simp)).trans (show w1.drew.heap[w.heap.size]? = _ from HH1.out))
  have HF2 := Lib.hid ((HF1.out.trans (Fr.drew _ _)).trans hf2)
  have hs2 : w.heap.size + 1 ≤ w2.heap.size := by have h := hf2.size; rw [show w1.drew.heap.size = w1.heap.size from rfl] at h; omega
  clear hf2
  go_wp2_with fail
  refine hK _ _ trivial ?_
  clear hK K
  refine plan_do rfl (fun K hK => ?_)
  go_wp2_with fail
  refine (uint64_any w.heap.size 8 56 56 (fun j => f (8 + j)) w2 (by omega) (by omega) (by unfold maxLen; omega) (by have h := rangeAt_row HH2.out 8 8 (by omega); exact h)).mono ?_
  rintro e w3 ⟨rfl, hf3⟩
  have HH3 := Lib.hid ((hf3.block w.heap.size (by omega) (by simp)).trans HH2.out)
  have HF3 := Lib.hid (HF2.out.trans hf3)
  have hs3 := hf3.size
  clear hf3
  go_wp2_with fail
  refine hK _ _ trivial ?_
  clear hK K
  rw [show rdL (secL 8 f) = hN f from rfl, show rdL (secL 8 fun j => f (8 + j)) = hL f from rfl]
  have hn0 := hN_lt f
  have hl0 := hL_lt f
  have HE := Lib.hid (show okH f room = (decide (secL 64 f = headL (hN f) (hL f)) && decide (hL f ≤ room)) from rfl)
  have HS := Lib.hid (secL_lsec (headL (hN f) (hL f)))
  obtain ⟨n, hn⟩ : ∃ n, hN f = n := ⟨_, rfl⟩
  obtain ⟨l, hl⟩ : ∃ l, hL f = l := ⟨_, rfl⟩
  rw [hn] at hn0 HE HS ⊢
  rw [hl] at hl0 HE HS ⊢
  have HNN := Lib.hid hn
  have HLL := Lib.hid hl
  clear hn hl
  iterate 2 (refine' plan_val rfl rfl (fun w' hS => ?_) ?_; rotate_left; (focus (go_simp; rfl)); simp only [Act.put, List.setIfInBounds_toArray, List.set_cons_zero, List.set_cons_succ])
  refine plan_nil ?_
  go_wp2_with fail
  have hwr : IntKind.u64.wrap (room : Int) = (room : Int) := by simp [IntKind.wrap, IntKind.bits, IntKind.signed]; omega
  have hS0 : Hid (w3.drew.rangeAt w.heap.size 0 (rowL 64 f)) := rangeAt_row0 (w := w3.drew) HH3.out
  refine wp_region_plan [(0, false), (1, false), (2, false), (3, false), (4, false), (5, true), (6, false), (7, false), (8, false), (9, false), (10, false), (11, false), (12, false), (13, false), (14, false), (15, false)] (fun w' => Hid (w'.rangeAt w.heap.size 0 (rowL 64 f))) (by kernel_rfl) (by kernel_rfl) hS0 ?_
  iterate 2 (refine' plan_val rfl rfl (fun w' hS => ?_) ?_; rotate_left; (focus (go_simp; rfl)); simp only [Act.put, List.setIfInBounds_toArray, List.set_cons_zero, List.set_cons_succ])
  refine plan_val rfl rfl (fun w' hS => exec_load_arr 88 _ rfl w.heap.size 0 rfl 64 _ _ hS.out Try.underlying88 rfl isz_head) ?_
  simp only [Act.put, List.setIfInBounds_toArray, List.set_cons_zero, List.set_cons_succ]
  iterate 2 (refine' plan_val rfl rfl (fun w' hS => ?_) ?_; rotate_left; (focus (go_simp; rfl)); simp only [Act.put, List.setIfInBounds_toArray, List.set_cons_zero, List.set_cons_succ])
  refine plan_do rfl (fun K hK => ?_)
  go_wp2_with fail
  refine (made_any n l hn0 hl0 w3.drew).mono ?_
  rintro e w4 ⟨rfl, hf4⟩
  have HF4 := Lib.hid ((HF3.out.trans (Fr.drew _ _)).trans hf4)
  have HS4 := Lib.hid (rangeAt_congr hS0.out (hf4.block w.heap.size (by show w.heap.size < w3.heap.size; omega) (by simp)))
  clear hf4 hS0
  go_wp2_with fail
  refine hK _ _ HS4 ?_
  clear hK K
  refine plan_val rfl rfl (fun w' hS => exec_eql_arr rfl rfl rfl (by kernel_rfl) Try.underlying88 Try.underlying5 isz_u8 w' rfl) ?_
  simp only [Act.put, List.setIfInBounds_toArray, List.set_cons_zero, List.set_cons_succ]
  have e1 : secL 64 (lsec (headL n l)) = headL n l := by have h := HS.out; rw [headL_len] at h; exact h
  rw [e1]
  by_cases hA : secL 64 f = headL n l
  · have e2 : decide (secL 64 f = headL n l) = true := by simpa using hA
    have HA := Lib.hid e2
    rw [e2]
    clear hA e1 e2
    iterate 9 (refine' plan_val rfl rfl (fun w' hS => ?_) ?_; rotate_left; (focus (go_simp; rfl)); simp only [Act.put, List.setIfInBounds_toArray, List.set_cons_zero, List.set_cons_succ])
    refine plan_nil ?_
    go_wp2_with fail
    go_ret3
    refine ⟨?_, HF4.out⟩
    rw [HE.out, HA.out, Bool.true_and, HNN.out, HLL.out]; rfl
  · have e2 : decide (secL 64 f = headL n l) = false := by simpa using hA
    have HA := Lib.hid e2
    rw [e2]
    clear hA e1 e2
    (refine' plan_val rfl rfl (fun w' hS => ?_) ?_; rotate_left; (focus (go_simp; rfl)); simp only [Act.put, List.setIfInBounds_toArray, List.set_cons_zero, List.set_cons_succ])
    iterate 4 (refine plan_skip rfl rfl ?_; simp only [Act.put, List.setIfInBounds_toArray, List.set_cons_zero, List.set_cons_succ])
    iterate 4 (refine' plan_val rfl rfl (fun w' hS => ?_) ?_; rotate_left; (focus (go_simp; rfl)); simp only [Act.put, List.setIfInBounds_toArray, List.set_cons_zero, List.set_cons_succ])
    refine plan_nil ?_
    go_wp2_with fail
    go_ret3
    refine ⟨?_, HF4.out⟩
    rw [HE.out, HA.out, Bool.false_and, HNN.out, HLL.out]; rfl
end Go.Proofs.Ytgfdbjeliojhkaa
