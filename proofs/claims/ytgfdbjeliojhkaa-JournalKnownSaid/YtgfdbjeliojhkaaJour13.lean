/-
  Jour13: contract of Add: a record that there is room for. No condition beyond those stated.
-/
import Derived.Test.YtgfdbjeliojhkaaJour12C
namespace Go.Proofs.Ytgfdbjeliojhkaa
open Go.RowKit
set_option maxRecDepth 100000 in
set_option maxHeartbeats 4000000 in
theorem jadd_main {jb db lb mb N : Nat} {d bl : List UInt8} {D : DK} (ao : Option Addr) (c : Nat) (w : World) (hj : JAt w jb db N d false) (h : DiskAt w db lb mb D) (hlen : d.length ≤ 1000000) (hb : BytesAt w (.slice ao bl.length c) bl.length (lsec bl)) (hm : bl.length ≤ 65536)
    (hf : (bl.length : Int) ≤ ((D.n : Int) - 2) * 64 - (d.length : Int) - 4) (hN : N + 1 < 2 ^ 64) (hdead : D.dead = false) :
    Calls Try.prog 28 #[.pointer (some ⟨jb, 0, none⟩), .slice ao bl.length c] w fun e w' => Fr [jb, db, lb, mb] w w' ∧
      (((D.fuse ≠ 0 ∧ (st1 D d (d ++ encR bl)).fuse ≠ 0 ∧ (st2 D d (d ++ encR bl)).fuse ≠ 0 ∧ (st3 D N d (d ++ encR bl)).fuse ≠ 0) ∧ e = .returned (.int .i64 0) ∧ DiskAt w' db lb mb (st4 D N d (d ++ encR bl)) ∧ JAt w' jb db (N + 1) (d ++ encR bl) false ∧ (∃ g cap, w'.cell? ⟨jb, 2, none⟩ = some (.slice (some ⟨g, 0, none⟩) (d ++ encR bl).length cap) ∧ w.heap.size ≤ g)) ∨
       (∃ k, k < 4 ∧ (∀ i, i < k → (stg D N d (d ++ encR bl) i).fuse ≠ 0) ∧ (stg D N d (d ++ encR bl) k).fuse = 0 ∧ e = .returned (.int .i64 120) ∧ DiskAt w' db lb mb { stg D N d (d ++ encR bl) k with dead := true } ∧ JAt w' jb db N d true)) := by
  have hmi : ¬ (65536 : Int) < (bl.length : Int) := by omega
  have hff : ¬ ((D.n : Int) - 2) * 64 - (d.length : Int) - 4 < (bl.length : Int) := by omega
  have n2 := h.n2
  have f1 : Fr [] w (w.alloc (.cells #[.pointer (some ⟨jb, 0, none⟩)] 47)).drew := (Fr.alloc _ _ _).trans (Fr.drew _ _)
  have b1 : (w.alloc (.cells #[.pointer (some ⟨jb, 0, none⟩)] 47)).drew.heap[w.heap.size]? = some (.cells #[.pointer (some ⟨jb, 0, none⟩)] 47 (0, 0)) := heap_alloc_new _ _
  have s1 : w.heap.size + 1 ≤ (w.alloc (.cells #[.pointer (some ⟨jb, 0, none⟩)] 47)).drew.heap.size := by show _ ≤ (w.alloc _).heap.size; simp
  have s1' : (w.alloc (.cells #[.pointer (some ⟨jb, 0, none⟩)] 47)).drew.heap.size ≤ w.heap.size + 1 := by show (w.alloc _).heap.size ≤ _; simp
  have HX := Lib.hid (h.fr0 (Fr.alloc [] w (.cells #[.pointer (some ⟨jb, 0, none⟩)] 47)))
  have HJX := Lib.hid (hj.fr0 (Fr.alloc [] w (.cells #[.pointer (some ⟨jb, 0, none⟩)] 47)))
  have H := Lib.hid h
  have HJ := Lib.hid hj
  have HB := Lib.hid hb
  have HN := Lib.hid hN
  have HDEAD := Lib.hid hdead
  have c3 := hj.cells.2.2.1
  obtain ⟨ao', cap', hj1, _⟩ := hj.ex
  have HJR := Lib.hid hj1
  have c2 : w.cell? ⟨jb, 2, none⟩ = some (.slice ao' d.length cap') := by rw [cell_of_row w jb 2 _ _ _ hj1]; rfl
  have hjl := hj.lt
  have hbc : c ≤ 9223372036854775807 := by obtain ⟨_, _, e, _, h2, _⟩ := hb; cases e; unfold maxLen at h2; omega
  have hnd : (d ++ encR bl).length = d.length + 4 + bl.length := by rw [List.length_append, encR_len]; omega
  have HND := Lib.hid hnd
  obtain ⟨nd, hndd⟩ : ∃ nd, d ++ encR bl = nd := ⟨_, rfl⟩
  have HNDD := Lib.hid hndd
  rw [hndd] at HND ⊢
  clear h hj hb hN hdead hj1 hndd hnd
  go_enter Try.func28, Try.ntmps28
  go_wp2_with (go_at_call 40; refine (left_any _ HJX.out HX.out hlen).mono ?_; rintro e w' ⟨rfl, rfl⟩)
  obtain ⟨w1, hw1⟩ : ∃ w1, (w.alloc (.cells #[.pointer (some ⟨jb, 0, none⟩)] 47)).drew = w1 := ⟨_, rfl⟩
  rw [hw1] at f1 b1 s1 s1' ⊢
  have HF1 := Lib.hid f1
  have HB1 := Lib.hid b1
  have hby1 : BytesAt w1 (.slice ao' d.length cap') d.length (lsec d) := by
    obtain ⟨ao2, cap2, h1, h2, _⟩ := HJ.out.ex
    have e : w.cell? ⟨jb, 2, none⟩ = some (.slice ao2 d.length cap2) := by rw [cell_of_row w jb 2 _ _ _ h1]; rfl
    rw [c2] at e
    cases e
    exact h2.fr f1 (by simp)
  clear hw1 c2 c3 f1 b1
  refine (clone_any _ d.length (lsec d) w1 hby1 (by omega)).mono ?_
  rintro e w2 ⟨v2, rfl, ho2, hb2⟩
  rw [secL_lsec] at ho2
  have HO2 := Lib.hid ho2
  have HG2 := Lib.hid (Below.fr hb2 (Nat.le_refl _) [])
  have s2 := hb2.size
  clear ho2 hb2 hby1
  go_wp2_with fail
  refine (app32i w1.heap.size (bl.length : Int) (by omega) (by omega) v2 d w2 HO2.out s2 (by omega)).mono ?_
  rintro e w3 ⟨v3, rfl, ho3, hb3⟩
  rw [Int.toNat_natCast] at ho3
  have HO3 := Lib.hid ho3
  have HG3 := Lib.hid (HG2.out.then_below hb3 (Nat.le_refl _))
  have HBY3 := Lib.hid (HB.out.fr (HF1.out.trans HG3.out) (by simp))
  have s3 := hb3.size
  clear ho3 hb3
  obtain ⟨P, hPd⟩ : ∃ P, (64 - nd.length % 64) % 64 = P := ⟨_, rfl⟩
  have hP : -((nd.length : Int) % 64) % 64 = (P : Int) := by omega
  have hP63 : P ≤ 63 := by omega
  have HPD := Lib.hid hPd
  have hmk := run_make_bytes P (by omega)
  clear hPd
  go_wp2_with ((with_reducible refine wpList_at (.call { callee := .builtin .append, args := #[.tmp 40, .tmp 41], argTypes := #[31, 31] }) rfl ?_); refine wpList_append_B rfl _ _ rfl w1.heap.size rfl HO3.out rfl HBY3.out (by omega) (by rw [List.length_append, be_len]; omega) ?_; intro v4 w4 ho4 hb4; rw [secL_lsec, List.append_assoc] at ho4; have ho4' : OwnB w4 w1.heap.size v4 nd := (by rw [← HNDD.out]; exact ho4); have hne4 : nd ≠ [] := (by intro e; have h1 := HND.out; rw [e] at h1; simp at h1; omega); obtain ⟨g4, cap4, rfl, hg4, hl4, hc4, hc4', hr4, C4, hC4⟩ := ho4'.slice hne4; have HG4 := Lib.hid (HG3.out.then_below hb4 (Nat.le_refl _)); have s4 := hb4.size; have HC4 := Lib.hid hC4; have HR4 := Lib.hid hr4; have hr4' := (HG4.out.block jb (by omega) (by simp)).trans ((HF1.out.block jb hjl (by simp)).trans HJR.out); have hx4' := (HG4.out.block w.heap.size (by omega) (by simp)).trans HB1.out; have c0 : w4.cell? ⟨jb, 0, none⟩ = some (.pointer (some ⟨db, 0, none⟩)) := (by rw [cell_of_row w4 jb 0 _ _ _ hr4']; rfl); have c1 : w4.cell? ⟨jb, 1, none⟩ = some (.int .u64 (N : Int)) := (by rw [cell_of_row w4 jb 1 _ _ _ hr4']; rfl); have c2 : w4.cell? ⟨jb, 2, none⟩ = some (.slice ao' d.length cap') := (by rw [cell_of_row w4 jb 2 _ _ _ hr4']; rfl); have cx : w4.cell? ⟨w.heap.size, 0, none⟩ = some (.pointer (some ⟨jb, 0, none⟩)) := (by rw [cell_of_row w4 w.heap.size 0 _ _ _ hx4']; rfl); have HRW4 := Lib.hid hr4'; have HX4 := Lib.hid hx4'; clear hb4 ho4 ho4' hne4 hr4 hC4 hr4' hx4')
  clear hmk hP
  have q0 := heap3_0 w4 (.cells #[.int .i64 ((d.length : Int) / 64)] 3) (.cells (rowA P fun _ => 0) 5) (.cells #[.slice (some ⟨g4, 0, none⟩) nd.length cap4, .slice (some ⟨w4.heap.size + 1, 0, none⟩) P P] 31)
  have q1 := heap3_1 w4 (.cells #[.int .i64 ((d.length : Int) / 64)] 3) (.cells (rowA P fun _ => 0) 5) (.cells #[.slice (some ⟨g4, 0, none⟩) nd.length cap4, .slice (some ⟨w4.heap.size + 1, 0, none⟩) P P] 31)
  have q2 := heap3_2 w4 (.cells #[.int .i64 ((d.length : Int) / 64)] 3) (.cells (rowA P fun _ => 0) 5) (.cells #[.slice (some ⟨g4, 0, none⟩) nd.length cap4, .slice (some ⟨w4.heap.size + 1, 0, none⟩) P P] 31)
  have q3 : Fr [] w4 (((w4.alloc (.cells #[.int .i64 ((d.length : Int) / 64)] 3)).alloc (.cells (rowA P fun _ => 0) 5)).alloc (.cells #[.slice (some ⟨g4, 0, none⟩) nd.length cap4, .slice (some ⟨w4.heap.size + 1, 0, none⟩) P P] 31)) := ((Fr.alloc _ _ _).trans (Fr.alloc _ _ _)).trans (Fr.alloc _ _ _)
  have q4 : w4.heap.size + 3 ≤ (((w4.alloc (.cells #[.int .i64 ((d.length : Int) / 64)] 3)).alloc (.cells (rowA P fun _ => 0) 5)).alloc (.cells #[.slice (some ⟨g4, 0, none⟩) nd.length cap4, .slice (some ⟨w4.heap.size + 1, 0, none⟩) P P] 31)).heap.size := by simp
  obtain ⟨wA, hwA⟩ : ∃ wA, (((w4.alloc (.cells #[.int .i64 ((d.length : Int) / 64)] 3)).alloc (.cells (rowA P fun _ => 0) 5)).alloc (.cells #[.slice (some ⟨g4, 0, none⟩) nd.length cap4, .slice (some ⟨w4.heap.size + 1, 0, none⟩) P P] 31)) = wA := ⟨_, rfl⟩
  rw [hwA] at q0 q1 q2 q3 q4 ⊢
  have HQ0 := Lib.hid q0
  have HGA := Lib.hid (HG4.out.trans q3)
  have hndl := HND.out
  have HRA := Lib.hid (rangeAt_congr HR4.out (q3.block g4 hl4 (by simp)))
  have HCA := Lib.hid ((q3.block g4 hl4 (by simp)).trans HC4.out)
  have c0A : wA.cell? ⟨jb, 1, none⟩ = some (.int .u64 (N : Int)) := (World.cell?_of_block (a := ⟨jb, 1, none⟩) (q3.block jb (by omega) (by simp))).trans c1
  refine (concat2 (w4.heap.size + 1 + 1) g4 0 nd.length cap4 (w4.heap.size + 1) 0 P P (lsec nd) (fun _ => 0) wA q2 HRA.out (rangeAt_row0 q1) (by omega) (by omega) (by omega) ⟨hc4, hc4'⟩ ⟨Nat.le_refl _, by unfold maxLen; omega⟩ (by omega)).mono ?_
  rintro e w6 ⟨v6, rfl, ho6, hb6⟩
  rw [secL_lsec] at ho6
  have hne6 : nd ++ secL P (fun _ => 0) ≠ [] := by intro e; have h1 := congrArg List.length e; rw [List.length_append, hndl, List.length_nil] at h1; omega
  have hlen6 : (nd ++ secL P (fun _ => 0)).length = 64 * (d.length / 64 + (secsUp nd.length - d.length / 64)) := by
    rw [List.length_append, secL_len]; unfold secsUp; have := HPD.out; omega
  obtain ⟨g6, cap6, rfl, hg6, hl6, hc6, hc6', hr6, C6, hC6⟩ := ho6.slice hne6
  rw [hlen6] at hc6 hr6
  have HG6 := Lib.hid (HGA.out.then_below hb6 (by omega))
  have HG46 := Lib.hid (q3.then_below hb6 (by omega))
  have HR6 := Lib.hid hr6
  have HC6 := Lib.hid hC6
  have s6 := hb6.size
  have HQ6 := Lib.hid ((hb6.block w4.heap.size (by omega)).trans q0)
  have c0B : w6.cell? ⟨jb, 1, none⟩ = some (.int .u64 (N : Int)) := (World.cell?_of_block (a := ⟨jb, 1, none⟩) (hb6.block jb (by omega))).trans c0A
  have cxB : w6.cell? ⟨w.heap.size, 0, none⟩ = some (.pointer (some ⟨jb, 0, none⟩)) := (World.cell?_of_block (a := ⟨w.heap.size, 0, none⟩) (HG6.out.block w.heap.size (by omega) (by simp))).trans (by rw [cell_of_row w1 w.heap.size 0 _ _ _ HB1.out]; rfl)
  rw [hlen6]
  have HLEN6 := Lib.hid hlen6
  clear hwA q0 q1 q2 q3 ho6 hb6 hr6 hC6 hne6 hlen6 c0 c1 c2 cx c0A hndl
  have hNw : IntKind.u64.wrap ((N : Int) + 1) = ((N + 1 : Nat) : Int) := by have := HN.out; simp [IntKind.wrap, IntKind.bits, IntKind.signed]; omega
  have hLw : IntKind.u64.wrap (nd.length : Int) = (nd.length : Int) := by have := HND.out; simp [IntKind.wrap, IntKind.bits, IntKind.signed]; omega
  have l6 : w.heap.size < w6.heap.size := by omega
  have lj6 : jb < w6.heap.size := by omega
  have ndl6 : (nd.length : Int) < 2 ^ 63 := by have := HND.out; omega
  go_wp2_with fail
  refine (made_any (N + 1) nd.length HN.out (by omega) _).mono ?_
  rintro e w7 ⟨rfl, hf7⟩
  have fr7 : Fr [] w6 w7 := (Fr.alloc [] _ _).trans hf7
  have s7 := fr7.size
  have HG7 := Lib.hid (HG6.out.trans fr7)
  have HG78 := Lib.hid (HG46.out.trans fr7)
  have l7 : w6.heap.size < w7.heap.size := by have := hf7.size; simp at this; omega
  have q71 := hf7.block (w6.heap.size) (by simp) (by simp)
  rw [heap_alloc_new] at q71
  have HQ7 := Lib.hid q71
  clear hf7 q71
  have k0 : (w7.alloc (.cells (rowA 64 fun _ => 0) 88)).heap[w7.heap.size]? = some (.cells (rowA 64 fun _ => 0) 88 (0, 0)) := heap_alloc_new _ _
  have K0 := Lib.hid k0
  clear k0
  go_wp2_with (first
    | ((with_reducible refine wpList_at (.alloc 88) rfl ?_); refine wpList_alloc_arr rfl 88 rfl 64 (fun _ => 0) zero_head ?_)
    | ((with_reducible refine wpList_at (.store 88 (.tmp 8) (.tmp 66)) rfl ?_); refine wpList_skipv rfl (exec_store_arr 88 _ _ rfl w7.heap.size 0 64 _ rfl rfl (by exact there_row K0.out _ _ (by omega)) isz_head) ?_))
  have hf8 : Fr [] w7 ((w7.alloc (.cells (rowA 64 fun _ => 0) 88)).setCells w7.heap.size 0 (rowL 64 (lsec (headL (N + 1) nd.length)))) := (Fr.alloc _ _ _).then_new (setCells_fr (F := [w7.heap.size]) (by simp) _ _ _) (by simp)
  have hR : ((w7.alloc (.cells (rowA 64 fun _ => 0) 88)).setCells w7.heap.size 0 (rowL 64 (lsec (headL (N + 1) nd.length)))).heap[w7.heap.size]? = _ := setCells_row (w7.alloc (.cells (rowA 64 fun _ => 0) 88)) w7.heap.size 64 _ 88 0 64 _ K0.out (by omega)
  have eR : rowA 64 (splF (fun _ => 0) 0 64 (lsec (headL (N + 1) nd.length))) = rowA 64 (lsec (headL (N + 1) nd.length)) := rowA_congr (fun j hj => by simp only [splF]; rw [if_pos (by omega), Nat.sub_zero])
  rw [eR] at hR
  clear eR
  obtain ⟨w8, hw8⟩ : ∃ w8, ((w7.alloc (.cells (rowA 64 fun _ => 0) 88)).setCells w7.heap.size 0 (rowL 64 (lsec (headL (N + 1) nd.length)))) = w8 := ⟨_, rfl⟩
  rw [hw8] at hf8 hR ⊢
  clear hw8 K0
  have s8 := hf8.size
  have HR8 := Lib.hid hR
  have F18 := HF1.out.trans (HG7.out.trans hf8)
  have F68 := fr7.trans hf8
  have J8 := HJ.out.fr0 F18
  have D8 := H.out.fr0 F18
  have l8 := (Array.getElem?_eq_some_iff.1 hR).1
  have B7 : ∃ b cap, w8.heap[w6.heap.size]? = some (.cells #[.slice (some ⟨b, 0, none⟩) (64 * (d.length / 64 + (secsUp nd.length - d.length / 64))) cap] 31 (0, 0)) ∧ 64 * (d.length / 64 + (secsUp nd.length - d.length / 64)) ≤ cap ∧ cap ≤ maxLen ∧ w8.rangeAt b 0 (rowL (64 * (d.length / 64 + (secsUp nd.length - d.length / 64))) (lsec nd)) ∧ ∃ C, w8.heap[b]? = some (.cells C 5 (0, 0)) := by
    refine ⟨g6, cap6, (hf8.block _ l7 (by simp)).trans HQ7.out, hc6, hc6', ?_, C6, (F68.block g6 hl6 (by simp)).trans HC6.out⟩
    have e : rowL (64 * (d.length / 64 + (secsUp nd.length - d.length / 64))) (lsec (nd ++ secL P fun _ => 0)) = rowL (64 * (d.length / 64 + (secsUp nd.length - d.length / 64))) (lsec nd) := rowL_congr (fun j hj => by
      by_cases h1 : j < nd.length
      · exact lsec_append_lt h1
      · rw [lsec_append_ge (by omega), lsec_secL _ (by have := HLEN6.out; rw [List.length_append, secL_len] at this; omega)]; simp [lsec, List.getElem?_eq_none (Nat.le_of_not_lt h1)])
    rw [← e]
    exact rangeAt_congr HR6.out (F68.block g6 hl6 (by simp))
  have B2 : w8.heap[w.heap.size]? = some (.cells #[.pointer (some ⟨jb, 0, none⟩)] 47 (0, 0)) := ((HG7.out.trans hf8).block w.heap.size (by omega) (by simp)).trans HB1.out
  have B6 : w8.heap[w4.heap.size]? = some (.cells #[.int .i64 ((d.length / 64 : Nat) : Int)] 3 (0, 0)) := by
    rw [Int.natCast_ediv]; exact (F68.block w4.heap.size (by omega) (by simp)).trans HQ6.out
  have l48 : g4 < w8.heap.size := by omega
  have HR48 := Lib.hid (rangeAt_congr HR4.out ((HG78.out.trans hf8).block g4 hl4 (by simp)))
  have HC48 := Lib.hid (((HG78.out.trans hf8).block g4 hl4 (by simp)).trans HC4.out)
  have HJ8 := Lib.hid J8
  have HD8 := Lib.hid D8
  have HF8 := Lib.hid F18
  have HB7 := Lib.hid B7
  have HB2 := Lib.hid B2
  have HB6 := Lib.hid B6
  have cx8 : w8.cell? ⟨w.heap.size, 0, none⟩ = some (.pointer (some ⟨jb, 0, none⟩)) := by rw [cell_of_row w8 w.heap.size 0 _ _ _ B2]; rfl
  have cj8 := J8.cells.1
  clear hf8 hR F18 F68 J8 D8 B7 B2 B6 HR6 HC6 HQ6 HQ7 HLEN6 fr7 c0B cxB HG7 HG6 HRA HCA HGA HQ0 HX4 HR4 HRW4 HC4 HG4 HB1 HF1 HO2 HG2 HO3 HG3 HBY3
  simp only [Act.put, List.setIfInBounds_toArray, List.set_cons_zero, List.set_cons_succ]
  refine wp_region_plan [(0, false), (1, false), (2, false), (3, false), (4, false), (5, false), (6, false), (7, false), (8, false), (9, false), (10, false), (11, false), (14, false), (12, true), (13, false)] (fun u => u.cell? ⟨w.heap.size, 0, none⟩ = some (.pointer (some ⟨jb, 0, none⟩)) ∧ u.cell? ⟨jb, 0, none⟩ = some (.pointer (some ⟨db, 0, none⟩))) (by kernel_rfl) (by kernel_rfl) ⟨cx8, cj8⟩ ?_
  have hmf : ∀ fn first cap (u : World), (Instr.makeFunc fn first cap).run Try.prog u = .ok (.func fn first cap) u := fun _ _ _ _ => rfl
  iterate 13 (refine' plan_val rfl rfl (fun w' hS => ?_) ?_; rotate_left; (focus (obtain ⟨hS1, hS2⟩ := hS; go_simp; rfl)); simp only [Act.put, List.setIfInBounds_toArray, List.set_cons_zero, List.set_cons_succ])
  refine plan_do rfl (fun K hK => ?_)
  clear hmf
  go_wp2_with fail
  obtain ⟨FS, hFS⟩ : ∃ FS : Array Value, FS = #[.func (.func 45) #[] #[.pointer (some ⟨w.heap.size, 0, none⟩), .pointer (some ⟨w4.heap.size, 0, none⟩), .pointer (some ⟨w6.heap.size, 0, none⟩)], .func (.func 19) #[.pointer (some ⟨db, 0, none⟩)] #[], .func (.func 46) #[] #[.pointer (some ⟨w.heap.size, 0, none⟩), .pointer (some ⟨w7.heap.size, 0, none⟩)], .func (.func 19) #[.pointer (some ⟨db, 0, none⟩)] #[]] := ⟨_, rfl⟩
  rw [← hFS]
  have fr9 : Fr [] w8 (w8.alloc (.cells FS 40)).drew := (Fr.alloc _ _ _).trans (Fr.drew _ _)
  have bs9 : (w8.alloc (.cells FS 40)).drew.heap[w8.heap.size]? = some (.cells FS 40 (0, 0)) := heap_alloc_new _ _
  have hS9 : ASt (w8.alloc (.cells FS 40)).drew w.heap.size w4.heap.size w6.heap.size w7.heap.size w8.heap.size g4 jb db lb mb N d nd FS D := by
    refine ⟨⟨(fr9.block _ (by omega) (by simp)).trans HB2.out, (fr9.block _ (by omega) (by simp)).trans HB6.out, ?_, (fr9.block _ (by omega) (by simp)).trans HR8.out, bs9, ?_, ?_⟩, HJ8.out.fr0 fr9, HD8.out.fr0 fr9⟩
    · obtain ⟨b, cap, h1, h2, h3, h4, C, h5⟩ := HB7.out
      exact ⟨b, cap, (fr9.block _ (by omega) (by simp)).trans h1, h2, h3, rangeAt_congr h4 (fr9.block _ (Array.getElem?_eq_some_iff.1 h5).1 (by simp)), C, (fr9.block _ (Array.getElem?_eq_some_iff.1 h5).1 (by simp)).trans h5⟩
    · exact rangeAt_congr HR48.out (fr9.block _ (by omega) (by simp))
    · exact ⟨C4, (fr9.block _ (by omega) (by simp)).trans HC48.out⟩
  have cx9 : (w8.alloc (.cells FS 40)).drew.cell? ⟨w.heap.size, 0, none⟩ = some (.pointer (some ⟨jb, 0, none⟩)) := hS9.a.c2
  have cj9 := hS9.j.cells.1
  refine hK _ _ ⟨cx9, cj9⟩ ?_
  clear hK K
  have HF9 := Lib.hid (HF8.out.trans fr9)
  have HS9 := Lib.hid hS9
  obtain ⟨w9, hw9⟩ : ∃ w9, (w8.alloc (.cells FS 40)).drew = w9 := ⟨_, rfl⟩
  rw [hw9] at HF9 HS9 ⊢
  clear hw9 cx9 cj9 hS9 bs9 fr9 HB2 HB6 HB7 HR8 HJ8 HD8 HF8 HR48 HC48 cx8 cj8 HX HJX
  iterate 1 (refine' plan_val rfl rfl (fun w' hS => ?_) ?_; rotate_left; (focus (go_simp; rfl)); simp only [Act.put, List.setIfInBounds_toArray, List.set_cons_zero, List.set_cons_succ])
  refine plan_nil ?_
  go_wp2_with fail
  have HS0 : Hid (ASt w9 w.heap.size w4.heap.size w6.heap.size w7.heap.size w8.heap.size g4 jb db lb mb N d nd FS D) := HS9
  have HF0 := Lib.hid (HF9.out.mono (G := [jb, db, lb, mb]) (by simp))
  have HD0 := HDEAD
  have HN2 : Hid (2 ≤ D.n) := Lib.hid (by omega)
  have HNN : Hid (2 + d.length / 64 + (secsUp nd.length - d.length / 64) ≤ D.n) := Lib.hid (by have := HND.out; unfold secsUp; omega)
  clear HS9 HF9 HDEAD
  refine wp_loop_rounds 5 ?_
  have cf0 := HS0.out.cell 0 (by rw [hFS]; rfl)
  rw [rounds_succ]
  go_wp2_with fail
  clear cf0
  by_cases h0 : D.fuse = 0
  · refine (step0_dead HS0.out HD0.out HNN.out h0).mono ?_
    rintro e wd ⟨rfl, hS', hf'⟩
    have HS' := Lib.hid hS'
    have HF' := Lib.hid hf'
    have cx := hS'.a.c2
    have cd := hS'.j.cells.2.2.1
    have cz := hS'.j.cells.2.2.2 3
    have sz := hS'.j.lt
    clear hS' hf'
    go_wp2_with fail
    go_ret
    exact ⟨(HF0.out.trans (HF'.out.mono (by simp))).trans (Fr.setCell _ (by simp) _), Or.inr ⟨0, by omega, (fun i hi => absurd hi (Nat.not_lt_zero _)), h0, rfl, HS'.out.k.setJ (HS'.out.j.ne_disk HS'.out.k) 3 _, HS'.out.j.setDead⟩⟩
  refine (step0_ok HS0.out HD0.out HNN.out h0).mono ?_
  rintro e w0b ⟨rfl, hS', hf'⟩
  have HZ0 := Lib.hid h0
  have HD1 := Lib.hid (show (st1 D d nd).dead = false from st1_dead h0 HD0.out)
  have HS1 : Hid (ASt w0b w.heap.size w4.heap.size w6.heap.size w7.heap.size w8.heap.size g4 jb db lb mb N d nd FS (st1 D d nd)) := Lib.hid hS'
  have HF1 := Lib.hid (HF0.out.trans (hf'.mono (G := [jb, db, lb, mb]) (by simp)))
  clear hS' hf' h0 HS0 HF0
  go_wp2_with fail
  have cf1 := HS1.out.cell 1 (by rw [hFS]; rfl)
  rw [rounds_succ]
  go_wp2_with fail
  clear cf1
  by_cases h0 : (st1 D d nd).fuse = 0
  · refine (step1_dead HS1.out HD1.out h0).mono ?_
    rintro e wd ⟨rfl, hS', hf'⟩
    have HS' := Lib.hid hS'
    have HF' := Lib.hid hf'
    have cx := hS'.a.c2
    have cd := hS'.j.cells.2.2.1
    have cz := hS'.j.cells.2.2.2 3
    have sz := hS'.j.lt
    clear hS' hf'
    go_wp2_with fail
    go_ret
    exact ⟨(HF1.out.trans (HF'.out.mono (by simp))).trans (Fr.setCell _ (by simp) _), Or.inr ⟨1, by omega, (fun i hi => by rcases (by omega : i = 0) with rfl <;> first | exact HZ0.out), h0, rfl, HS'.out.k.setJ (HS'.out.j.ne_disk HS'.out.k) 3 _, HS'.out.j.setDead⟩⟩
  refine (step1_ok HS1.out HD1.out h0).mono ?_
  rintro e w1b ⟨rfl, hS', hf'⟩
  have HZ1 := Lib.hid h0
  have HD2 := Lib.hid (show (st2 D d nd).dead = false from st2_dead h0 HD1.out)
  have HS2 : Hid (ASt w1b w.heap.size w4.heap.size w6.heap.size w7.heap.size w8.heap.size g4 jb db lb mb N d nd FS (st2 D d nd)) := Lib.hid hS'
  have HF2 := Lib.hid (HF1.out.trans (hf'.mono (G := [jb, db, lb, mb]) (by simp)))
  clear hS' hf' h0 HS1 HF1
  go_wp2_with fail
  have cf2 := HS2.out.cell 2 (by rw [hFS]; rfl)
  rw [rounds_succ]
  go_wp2_with fail
  clear cf2
  by_cases h0 : (st2 D d nd).fuse = 0
  · refine (step2_dead HS2.out HN.out HD2.out (by rw [st2_n]; exact HN2.out) h0).mono ?_
    rintro e wd ⟨rfl, hS', hf'⟩
    have HS' := Lib.hid hS'
    have HF' := Lib.hid hf'
    have cx := hS'.a.c2
    have cd := hS'.j.cells.2.2.1
    have cz := hS'.j.cells.2.2.2 3
    have sz := hS'.j.lt
    clear hS' hf'
    go_wp2_with fail
    go_ret
    exact ⟨(HF2.out.trans (HF'.out.mono (by simp))).trans (Fr.setCell _ (by simp) _), Or.inr ⟨2, by omega, (fun i hi => by rcases (by omega : i = 0 ∨ i = 1) with rfl | rfl <;> first | exact HZ0.out | exact HZ1.out), h0, rfl, HS'.out.k.setJ (HS'.out.j.ne_disk HS'.out.k) 3 _, HS'.out.j.setDead⟩⟩
  refine (step2_ok HS2.out HN.out HD2.out (by rw [st2_n]; exact HN2.out) h0).mono ?_
  rintro e w2b ⟨rfl, hS', hf'⟩
  have HZ2 := Lib.hid h0
  have HD3 := Lib.hid (show (st3 D N d nd).dead = false from st3_dead h0 HD2.out)
  have HS3 : Hid (ASt w2b w.heap.size w4.heap.size w6.heap.size w7.heap.size w8.heap.size g4 jb db lb mb N d nd FS (st3 D N d nd)) := Lib.hid hS'
  have HF3 := Lib.hid (HF2.out.trans (hf'.mono (G := [jb, db, lb, mb]) (by simp)))
  clear hS' hf' h0 HS2 HF2
  go_wp2_with fail
  have cf3 := HS3.out.cell 3 (by rw [hFS]; rfl)
  rw [rounds_succ]
  go_wp2_with fail
  clear cf3
  by_cases h0 : (st3 D N d nd).fuse = 0
  · refine (step1_dead HS3.out HD3.out h0).mono ?_
    rintro e wd ⟨rfl, hS', hf'⟩
    have HS' := Lib.hid hS'
    have HF' := Lib.hid hf'
    have cx := hS'.a.c2
    have cd := hS'.j.cells.2.2.1
    have cz := hS'.j.cells.2.2.2 3
    have sz := hS'.j.lt
    clear hS' hf'
    go_wp2_with fail
    go_ret
    exact ⟨(HF3.out.trans (HF'.out.mono (by simp))).trans (Fr.setCell _ (by simp) _), Or.inr ⟨3, by omega, (fun i hi => by rcases (by omega : i = 0 ∨ i = 1 ∨ i = 2) with rfl | rfl | rfl <;> first | exact HZ0.out | exact HZ1.out | exact HZ2.out), h0, rfl, HS'.out.k.setJ (HS'.out.j.ne_disk HS'.out.k) 3 _, HS'.out.j.setDead⟩⟩
  refine (step1_ok HS3.out HD3.out h0).mono ?_
  rintro e w3b ⟨rfl, hS', hf'⟩
  have HZ3 := Lib.hid h0
  have HD4 := Lib.hid (show (st4 D N d nd).dead = false from st4_dead h0 HD3.out)
  have HS4 : Hid (ASt w3b w.heap.size w4.heap.size w6.heap.size w7.heap.size w8.heap.size g4 jb db lb mb N d nd FS (st4 D N d nd)) := Lib.hid hS'
  have HF4 := Lib.hid (HF3.out.trans (hf'.mono (G := [jb, db, lb, mb]) (by simp)))
  clear hS' hf' h0 HS3 HF3
  go_wp2_with fail
  rw [rounds_succ]
  have cx := HS4.out.a.c2
  have cd := HS4.out.j.cells.2.1
  have cz := HS4.out.j.cells.2.2.2 1
  have cz2 := HS4.out.j.cells.2.2.2 2
  have sz := HS4.out.j.lt
  have HNW := Lib.hid hNw
  clear hNw hLw cz cz2 ndl6
  have cz : w3b.frozen? ⟨jb, 1, none⟩ = false := HS4.out.j.cells.2.2.2 1
  have cz2 : w3b.frozen? ⟨jb, 2, none⟩ = false := HS4.out.j.cells.2.2.2 2
  obtain ⟨aoX, capX, hX, _⟩ := HS4.out.j.ex
  have cX : w3b.cell? ⟨jb, 2, none⟩ = some (.slice aoX d.length capX) := by rw [cell_of_row w3b jb 2 _ _ _ hX]; rfl
  clear hX
  go_wp2_with fail
  rw [HNW.out]
  go_ret
  have fr2 : Fr [jb, db, lb, mb] w3b ((w3b.setCell ⟨jb, 1, none⟩ (.int .u64 ((N + 1 : Nat) : Int))).setCell ⟨jb, 2, none⟩ (.slice (some ⟨g4, 0, none⟩) nd.length cap4)) := (Fr.setCell _ (by simp) _).trans (Fr.setCell _ (by simp) _)
  obtain ⟨C5, h5⟩ := HS4.out.a.b5
  exact ⟨HF4.out.trans fr2, Or.inl ⟨⟨HZ0.out, HZ1.out, HZ2.out, HZ3.out⟩, rfl, (HS4.out.k.setJ (HS4.out.j.ne_disk HS4.out.k) 1 _).setJ (HS4.out.j.ne_disk HS4.out.k) 2 _, HS4.out.j.setNew HS4.out.a.r5 h5 hc4 hc4', g4, cap4, jat_cell2 HS4.out.j _ _, by omega⟩⟩
end Go.Proofs.Ytgfdbjeliojhkaa
