/-
  Jour2: contracts of made and of the readers of numbers. No condition beyond those stated.
-/
import Derived.Test.YtgfdbjeliojhkaaJour1
import Derived.Carry
namespace Go.Proofs.Ytgfdbjeliojhkaa
open Go.RowKit

theorem info_head : (Try.prog.info? 88).map (fun i => (i.zero, i.size, i.bytes)) = some (some (.agg (rowA 64 fun _ => 0)), 64, 64) := by kernel_rfl
theorem isz_head : (Try.prog.info? 88).map (·.size) = some 64 := by kernel_rfl
theorem zero_head (w : World) : (zeroValue 88).run Try.prog w = .ok (.agg (rowA 64 fun _ => 0)) w := by
  obtain ⟨i0, hi, hz0, hz1, hz2⟩ := info_parts info_head
  simp [zeroValue, typeInfo, hi, hz0]
theorem lsec_append_lt {a b : List UInt8} {j : Nat} (h : j < a.length) : lsec (a ++ b) j = lsec a j := by simp [lsec, List.getElem?_append_left h]
theorem lsec_append_ge {a b : List UInt8} {j : Nat} (h : a.length ≤ j) : lsec (a ++ b) j = lsec b (j - a.length) := by simp [lsec, List.getElem?_append_right h]
theorem lsec_rep (n j : Nat) : lsec (List.replicate n 0) j = 0 := by
  unfold lsec
  rw [List.getD_eq_getElem?_getD]
  by_cases h : j < n
  · simp [h]
  · rw [List.getElem?_eq_none (by simp; omega)]; rfl
theorem head_row (N L : Nat) : rowA 64 (splF (splF (splF (fun _ => 0) 0 8 (lsec (be 8 N))) 8 8 (lsec (be 8 L))) 56 8 (lsec (be 8 N))) = rowA 64 (lsec (headL N L)) := by
  apply rowA_congr
  intro j hj
  have l8 : ∀ n, (be 8 n).length = 8 := be_len 8
  simp only [splF, headL]
  by_cases h3 : 56 ≤ j
  · rw [if_pos (by omega), lsec_append_ge (by simp [be_len]; omega)]
    simp [be_len]
  · rw [if_neg (by omega), lsec_append_lt (by simp [be_len]; omega)]
    by_cases h1 : j < 8
    · rw [if_neg (by omega), if_pos (by omega), lsec_append_lt (by simp [be_len]; omega), lsec_append_lt (by rw [l8]; omega), Nat.sub_zero]
    · by_cases h2 : j < 16
      · rw [if_pos (by omega), lsec_append_lt (by simp [be_len]; omega), lsec_append_ge (by rw [l8]; omega), l8]
      · rw [if_neg (by omega), if_neg (by omega), lsec_append_ge (by simp [be_len]; omega), lsec_rep]
set_option maxRecDepth 100000 in
set_option maxHeartbeats 2000000 in
theorem made_any (N L : Nat) (hN : N < 2 ^ 64) (hL : L < 2 ^ 64) (w : World) :
    Calls Try.prog 44 #[.int .u64 (N : Int), .int .u64 (L : Int)] w fun e w' => e = .returned (.agg (rowA 64 (lsec (headL N L)))) ∧ Fr [] w w' := by
  have HN := Lib.hid hN
  have HL := Lib.hid hL
  clear hN hL
  go_enter Try.func44, Try.ntmps44
  go_wp2_with (first
    | ((with_reducible refine wpList_at (.alloc 88) rfl ?_); refine wpList_alloc_arr rfl 88 rfl 64 (fun _ => 0) zero_head ?_))
  have k0 : ((w.alloc (.cells (rowA 64 fun _ => 0) 88)).alloc (.cells (rowA 64 fun _ => 0) 88)).heap[w.heap.size]? = some (.cells (rowA 64 fun _ => 0) 88 (0, 0)) := (Below.heap_alloc _ _ _ (by simp)).trans (heap_alloc_new _ _)
  have k1 : ((w.alloc (.cells (rowA 64 fun _ => 0) 88)).alloc (.cells (rowA 64 fun _ => 0) 88)).heap[w.heap.size + 1]? = some (.cells (rowA 64 fun _ => 0) 88 (0, 0)) := by
    have := heap_alloc_new (w.alloc (.cells (rowA 64 fun _ => 0) 88)) (.cells (rowA 64 fun _ => 0) 88)
    simpa using this
  have f0 : Fr [] w ((w.alloc (.cells (rowA 64 fun _ => 0) 88)).alloc (.cells (rowA 64 fun _ => 0) 88)) := (Fr.alloc _ _ _).trans (Fr.alloc _ _ _)
  have s0 : ((w.alloc (.cells (rowA 64 fun _ => 0) 88)).alloc (.cells (rowA 64 fun _ => 0) 88)).heap.size = w.heap.size + 2 := by simp
  obtain ⟨w0, hw0⟩ : ∃ w0, (w.alloc (.cells (rowA 64 fun _ => 0) 88)).alloc (.cells (rowA 64 fun _ => 0) 88) = w0 := ⟨_, rfl⟩
  rw [hw0] at k0 k1 f0 s0 ⊢
  have K0 := Lib.hid k0
  have K1 := Lib.hid k1
  have F0 := Lib.hid f0
  clear hw0 k0 k1 f0
  refine (put64 N HN.out (w.heap.size + 1) 0 64 64 _ _ w0 (by omega) (by omega) (by omega) (by omega) K1.out).mono ?_
  rintro e w1 ⟨rfl, hg1, hf1⟩
  have H1 := Lib.hid hg1
  have Z1 := Lib.hid ((hf1.block w.heap.size (by omega) (by simp)).trans K0.out)
  have F1 := Lib.hid (F0.out.then_new hf1 (by simp))
  have s1 := hf1.size
  clear hg1 hf1 K0 K1 F0
  go_wp2_with fail
  refine (put64 L HL.out (w.heap.size + 1) 8 56 56 _ _ w1 (by omega) (by omega) (by omega) (by omega) H1.out).mono ?_
  rintro e w2 ⟨rfl, hg2, hf2⟩
  have H2 := Lib.hid hg2
  have Z2 := Lib.hid ((hf2.block w.heap.size (by omega) (by simp)).trans Z1.out)
  have F2 := Lib.hid (F1.out.then_new hf2 (by simp))
  have s2 := hf2.size
  clear hg2 hf2 H1 Z1 F1
  go_wp2_with fail
  refine (put64 N HN.out (w.heap.size + 1) 56 8 8 _ _ w2 (by omega) (by omega) (by omega) (by omega) H2.out).mono ?_
  rintro e w3 ⟨rfl, hg3, hf3⟩
  rw [head_row] at hg3
  have H3 := Lib.hid hg3
  have Z3 := Lib.hid ((hf3.block w.heap.size (by omega) (by simp)).trans Z2.out)
  have F3 := Lib.hid (F2.out.then_new hf3 (by simp))
  have s3 := hf3.size
  clear hg3 hf3 H2 Z2 F2
  go_wp2_with (first
    | ((with_reducible refine wpList_at (.load 88 (.tmp 5)) rfl ?_); refine wpList_load_arr rfl 88 _ rfl (w.heap.size + 1) 0 rfl 64 _ _ (by exact rangeAt_row0 H3.out) Try.underlying88 rfl isz_head ?_)
    | ((with_reducible refine wpList_at (.store 88 (.tmp 4) (.tmp 18)) rfl ?_); refine wpList_skipv rfl (exec_store_arr 88 _ _ rfl w.heap.size 0 64 _ rfl rfl (by exact there_row Z3.out _ _ (by omega)) isz_head) ?_))
  have hR : (w3.setCells w.heap.size 0 (rowL 64 (lsec (headL N L)))).heap[w.heap.size]? = _ := setCells_row w3 w.heap.size 64 _ 88 0 64 _ Z3.out (by omega)
  refine bodyPost_ret (results_cell rfl _ rfl (run_loadVar_mid (P := Try.prog) _ w.heap.size 0 88 (rowL 64 (lsec (headL N L))) _ ?_ Try.underlying88 rfl (by rw [rowL_length]; exact isz_head))) rfl ⟨?_, F3.out.then_new (setCells_fr (F := [w.heap.size]) (by simp) _ _ _) (by simp)⟩
  · have e : rowL 64 (lsec (headL N L)) = rowL 64 (splF (fun _ => 0) 0 64 (lsec (headL N L))) := rowL_congr (fun j hj => by simp only [splF]; rw [if_pos (by omega), Nat.sub_zero])
    have hr := rangeAt_row0 hR
    rw [← e] at hr
    exact hr
  · rfl
end Go.Proofs.Ytgfdbjeliojhkaa
