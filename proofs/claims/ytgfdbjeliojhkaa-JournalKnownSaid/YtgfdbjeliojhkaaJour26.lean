/-
  Jour26: JournalKnown, its walk. No condition.
-/
import Derived.Test.YtgfdbjeliojhkaaJour25
namespace Go.Proofs.Ytgfdbjeliojhkaa
open Go.RowKit
set_option maxRecDepth 100000 in
set_option maxHeartbeats 8000000 in
theorem journalKnown_main (w : World) : Calls Try.prog 9 #[] w fun e w' => e = .returned (.bool true) ∧ Fr [] w w' := by
  go_enter Try.func9, Try.ntmps9
  go_wp2_with fail
  refine (new_ok 3 w (by omega) (by omega)).mono ?_
  rintro e w1 ⟨rfl, hd1, hf1, _⟩
  have HD1 := Lib.hid hd1
  have HF1 := Lib.hid hf1
  have s1 := hf1.size
  clear hd1 hf1
  go_wp2_with fail
  refine (open_small w1 HD1.out rfl (by decide)).mono ?_
  rintro e w2 ⟨rfl, hf2⟩
  have HF2 := Lib.hid (HF1.out.trans hf2)
  have s2 := hf2.size
  clear hf2 HD1 HF1
  go_wp2_with fail
  refine (new_held 4 w2 (by omega) (by omega)).mono ?_
  rintro e w3 ⟨rfl, hd3, hf3, hs3⟩
  have HD3 := Lib.hid hd3
  have HF3 := Lib.hid (HF2.out.trans hf3)
  have s3 : w2.heap.size + 3 ≤ w3.heap.size := by omega
  clear hd3 hf3 hs3 HF2
  go_wp2_with fail
  refine (open_held w3 HD3.out).mono ?_
  rintro e w4 ⟨jb, rfl, hj4, hjb, hf4⟩
  have HD4 := Lib.hid (HD3.out.fr0 hf4)
  have HF4 := Lib.hid (HF3.out.trans hf4)
  have HJ4 := Lib.hid hj4
  have s4 := hf4.size
  clear hj4 hf4 HD3 HF3
  have hcv   := Lib.run_convert_bytes_const (P := Try.prog) w4 31 5 #[.int .u8 97, .int .u8 98, .int .u8 99] 3 3 Try.underlying31 Try.underlying5
  simp only [List.size_toArray, List.length_cons, List.length_nil, Nat.reduceAdd] at hcv
  have hmk1 := make_z 118 118 rfl (by omega)
  have hmk2 := make_z 65537 65537 rfl (by omega)
  have hmk3 := make_z 117 117 rfl (by omega)
  go_wp2_with fail
  clear hcv
  have q0 := heap_alloc_new w4 (.cells #[.int .u8 97, .int .u8 98, .int .u8 99] 5 (3, 4))
  have q1 : Fr [] w4 (w4.alloc (.cells #[.int .u8 97, .int .u8 98, .int .u8 99] 5 (3, 4))) := Fr.alloc _ _ _
  obtain ⟨w5, hw5⟩ : ∃ w5, w4.alloc (.cells #[.int .u8 97, .int .u8 98, .int .u8 99] 5 (3, 4)) = w5 := ⟨_, rfl⟩
  rw [hw5] at q0 q1 ⊢
  have HD5 := Lib.hid (HD4.out.fr0 q1)
  have HF5 := Lib.hid (HF4.out.trans q1)
  have HJ5 := Lib.hid (HJ4.out.fr0 q1)
  have s5 := q1.size
  have HB5 : Hid (BytesAt w5 (.slice (some ⟨w4.heap.size, 0, none⟩) 3 3) 3 (lsec [97, 98, 99])) := Lib.hid
    ⟨_, 3, rfl, Nat.le_refl _, by unfold maxLen; omega, (fun e => by cases e), fun _ => ⟨_, 0, rfl, rangeAt_row0 (n := 3) (f := lsec [97, 98, 99]) q0⟩⟩
  clear hw5 q0 q1 HD4 HF4 HJ4
  refine (add_heldN (r := [97, 98, 99]) (m := 3) (some ⟨w4.heap.size, 0, none⟩) 3 w5 rfl HJ5.out HD5.out (JS.fresh 4) HB5.out (by omega) (by decide)).mono ?_
  rintro e w6 ⟨rfl, ⟨D6, hd6, hs6, hn6⟩, hj6, hf6⟩
  have HF6 := Lib.hid (HF5.out.then_new hf6 (by simp; omega))
  have HD6 := Lib.hid hd6
  have HS6 := Lib.hid hs6
  have HN6 := Lib.hid (show D6.n = 4 from hn6)
  have HJ6 := Lib.hid hj6
  have s6 := hf6.size
  clear hd6 hs6 hn6 hj6 hf6 HD5 HF5 HJ5 HB5
  go_wp2_with fail
  have q1 : Fr [] w6 (w6.alloc (.cells (rowA 118 fun _ => 0) 5)) := Fr.alloc _ _ _
  obtain ⟨w7, hw7⟩ : ∃ w7, w6.alloc (.cells (rowA 118 fun _ => 0) 5) = w7 := ⟨_, rfl⟩
  rw [hw7] at q1 ⊢
  have HD7 := Lib.hid (HD6.out.fr0 q1)
  have HF7 := Lib.hid (HF6.out.trans q1)
  have HJ7 := Lib.hid (HJ6.out.fr0 q1)
  have s7 := q1.size
  clear hw7 q1 HD6 HF6 HJ6
  refine (add_full_held (some ⟨w6.heap.size, 0, none⟩) 118 118 w7 HJ7.out HD7.out (by omega) (by rw [HN6.out]; decide)).mono ?_
  rintro e w8 ⟨rfl, hf8⟩
  have HD8 := Lib.hid (HD7.out.fr0 hf8)
  have HF8 := Lib.hid (HF7.out.trans hf8)
  have HJ8 := Lib.hid (HJ7.out.fr0 hf8)
  have s8 := hf8.size
  clear hf8 HD7 HF7 HJ7
  go_wp2_with fail
  have q1 : Fr [] w8 (w8.alloc (.cells (rowA 65537 fun _ => 0) 5)) := Fr.alloc _ _ _
  obtain ⟨w9, hw9⟩ : ∃ w9, w8.alloc (.cells (rowA 65537 fun _ => 0) 5) = w9 := ⟨_, rfl⟩
  rw [hw9] at q1 ⊢
  have HD9 := Lib.hid (HD8.out.fr0 q1)
  have HF9 := Lib.hid (HF8.out.trans q1)
  have HJ9 := Lib.hid (HJ8.out.fr0 q1)
  have s9 := q1.size
  clear hw9 q1 HD8 HF8 HJ8
  refine (jadd_long jb (some ⟨w8.heap.size, 0, none⟩) 65537 65537 (by omega) w9).mono ?_
  rintro e w10 ⟨rfl, hf10⟩
  have HD10 := Lib.hid (HD9.out.fr0 hf10)
  have HF10 := Lib.hid (HF9.out.trans hf10)
  have HJ10 := Lib.hid (HJ9.out.fr0 hf10)
  have s10 := hf10.size
  clear hf10 HD9 HF9 HJ9
  go_wp2_with fail
  have q0 := heap_alloc_new w10 (.cells (rowA 117 fun _ => 0) 5)
  have q1 : Fr [] w10 (w10.alloc (.cells (rowA 117 fun _ => 0) 5)) := Fr.alloc _ _ _
  obtain ⟨w11, hw11⟩ : ∃ w11, w10.alloc (.cells (rowA 117 fun _ => 0) 5) = w11 := ⟨_, rfl⟩
  rw [hw11] at q0 q1 ⊢
  have HD11 := Lib.hid (HD10.out.fr0 q1)
  have HF11 := Lib.hid (HF10.out.trans q1)
  have HJ11 := Lib.hid (HJ10.out.fr0 q1)
  have s11 := q1.size
  have HB11 : Hid (BytesAt w11 (.slice (some ⟨w10.heap.size, 0, none⟩) 117 117) 117 (lsec (List.replicate 117 0))) := Lib.hid
    ⟨_, 117, rfl, Nat.le_refl _, by unfold maxLen; omega, (fun e => by cases e), fun _ => ⟨_, 0, rfl, by
      rw [rowL_congr (f := lsec (List.replicate 117 0)) (g := fun _ => 0) (fun j _ => lsec_rep 117 j)]; exact rangeAt_row0 q0⟩⟩
  clear hw11 q0 q1 HD10 HF10 HJ10 hmk1 hmk2 hmk3
  refine (add_heldN (r := List.replicate 117 0) (m := 117) (some ⟨w10.heap.size, 0, none⟩) 117 w11 (by simp) HJ11.out HD11.out HS6.out HB11.out (by omega) (by rw [HN6.out]; decide)).mono ?_
  rintro e w12 ⟨rfl, ⟨D12, hd12, hs12, hn12⟩, hj12, hf12⟩
  have HF12 := Lib.hid (HF11.out.then_new hf12 (by simp; omega))
  have HD12 := Lib.hid hd12
  have HS12 := Lib.hid hs12
  have HN12 := Lib.hid (hn12.trans HN6.out)
  have HJ12 := Lib.hid hj12
  have s12 := hf12.size
  clear hd12 hs12 hn12 hj12 hf12 HD11 HF11 HJ11 HB11 HS6 HN6
  go_wp2_with fail
  refine (room_held w12 HJ12.out HD12.out).mono ?_
  rintro e w13 ⟨rfl, hf13⟩
  have HF13 := Lib.hid (HF12.out.trans hf13)
  have HD13 := Lib.hid (HD12.out.fr0 hf13)
  have HJ13 := Lib.hid (HJ12.out.fr0 hf13)
  have s13 := hf13.size
  have er : roomI D12.n (encAll ([] ++ [[97, 98, 99]] ++ [List.replicate 117 0] : List (List UInt8))).length = 0 := by rw [HN12.out]; decide +kernel
  rw [er]
  clear hf13 HD12 HF12 HJ12 er
  go_wp2_with fail
  refine (add_full_held none 0 0 w13 HJ13.out HD13.out (by omega) (by rw [HN12.out]; decide +kernel)).mono ?_
  rintro e w14 ⟨rfl, hf14⟩
  have HF14 := Lib.hid (HF13.out.trans hf14)
  have HD14 := Lib.hid (HD13.out.fr0 hf14)
  have HW14 := Lib.hid (WD.of HD14.out HS12.out HN12.out rfl)
  have s14 := hf14.size
  clear hf14 HD13 HF13 HJ13 HS12 HN12
  go_wp2_with fail
  obtain ⟨Dk, hdk, hsk⟩ := HW14.out
  refine (read_int 0 1 w14 hdk hsk.dead (by omega) (by omega) (by rw [hsk.n]; omega)).mono ?_
  rintro e w15 ⟨vh, rfl, hbh, hf15⟩
  have HBH : Hid (BytesAt w15 vh 64 (lsec (headL 2 128))) := Lib.hid (hbh.congr (fun j hj => hsk.s0 j hj))
  have HW15 := Lib.hid (HW14.out.fr0 hf15)
  have HF15 := Lib.hid (HF14.out.trans hf15)
  have s15 := hf15.size
  clear hbh hf15 hdk hsk HW14 HF14 HD14
  go_wp2_with fail
  obtain ⟨Dk, hdk, hsk⟩ := HW15.out
  refine (read_int 1 1 w15 hdk hsk.dead (by omega) (by omega) (by rw [hsk.n]; omega)).mono ?_
  rintro e w16 ⟨vi, rfl, hbi, hf16⟩
  have HBI : Hid (BytesAt w16 vi 64 (lsec (headL 1 7))) := Lib.hid (hbi.congr (fun j hj => hsk.s1 j hj))
  have HBH16 := Lib.hid (HBH.out.fr hf16 (by simp))
  have HW16 := Lib.hid (HW15.out.fr0 hf16)
  have HF16 := Lib.hid (HF15.out.trans hf16)
  have s16 := hf16.size
  clear hbi hf16 hdk hsk HW15 HF15 HBH
  go_wp2_with fail
  have hS0 : Hid (BytesAt w16.drew vh 64 (lsec (headL 2 128)) ∧ BytesAt w16.drew vi 64 (lsec (headL 1 7))) := Lib.hid ⟨HBH16.out, HBI.out⟩
  refine wp_region_plan [(0, false), (1, false), (2, true), (3, true), (4, false), (5, false), (6, false), (7, false), (8, true), (9, true), (10, false), (11, false)]
    (fun u => Hid (BytesAt u vh 64 (lsec (headL 2 128)) ∧ BytesAt u vi 64 (lsec (headL 1 7)))) (by kernel_rfl) (by kernel_rfl) hS0 ?_
  (refine' plan_val rfl rfl (fun w' hS => ?_) ?_; rotate_left; (focus (go_simp; rfl)); simp only [Act.put, List.setIfInBounds_toArray, List.set_cons_zero, List.set_cons_succ])
  refine plan_val rfl rfl (fun w' hS => exec_convert (src := 31) (dst := 9) (x := .tmp 106) rfl rfl (conv_listN (headL_len 2 128) hS.out.1)) ?_
  simp only [Act.put, List.setIfInBounds_toArray, List.set_cons_zero, List.set_cons_succ]
  refine plan_do rfl (fun K hK => ?_)
  go_wp2_with fail
  refine (head_any 2 128 (by omega) (by omega) w16.drew).mono ?_
  rintro e w17 ⟨u2, rfl, ho2, hf17⟩
  have HS17 : Hid (BytesAt w17 vh 64 (lsec (headL 2 128)) ∧ BytesAt w17 vi 64 (lsec (headL 1 7))) := Lib.hid ⟨hS0.out.1.fr hf17 (by simp), hS0.out.2.fr hf17 (by simp)⟩
  have HBU : Hid (BytesAt w17 u2 64 (lsec (headL 2 128))) := Lib.hid (by have h := ho2.bytes.1; rw [headL_len] at h; exact h)
  have HW17 : Hid (WD w17 (w2.heap.size + 2) w2.heap.size (w2.heap.size + 1) (headL 2 128) (headL 1 7) exD) := Lib.hid (HW16.out.fr0 ((Fr.drew _ _).trans hf17))
  have HF17 : Hid (Fr [] w w17) := Lib.hid (HF16.out.trans ((Fr.drew _ _).trans hf17))
  have s17 : w16.heap.size ≤ w17.heap.size := hf17.size
  clear ho2 hf17 hS0 HBH16 HBI HW16 HF16
  go_wp2_with fail
  refine hK _ _ HS17 ?_
  clear hK K
  refine plan_do rfl (fun K hK => ?_)
  refine wpList_valG rfl (exec_convert (src := 31) (dst := 9) (x := .tmp 108) rfl rfl (conv_listN (headL_len 2 128) HBU.out)) ?_
  refine wpList_nil ?_
  refine hK _ _ HS17 ?_
  clear hK K HBU
  obtain ⟨sA, hsA⟩ : ∃ s : ByteArray, (⟨(headL 2 128).toArray⟩ : ByteArray) = s := ⟨_, rfl⟩
  rw [hsA]
  clear hsA
  iterate 3 (refine' plan_val rfl rfl (fun w' hS => ?_) ?_; rotate_left; (focus (go_simp; rfl)); simp only [Act.put, List.setIfInBounds_toArray, List.set_cons_zero, List.set_cons_succ])
  refine plan_val rfl rfl (fun w' hS => exec_convert (src := 31) (dst := 9) (x := .tmp 112) rfl rfl (conv_listN (headL_len 1 7) hS.out.2)) ?_
  simp only [Act.put, List.setIfInBounds_toArray, List.set_cons_zero, List.set_cons_succ]
  refine plan_do rfl (fun K hK => ?_)
  go_wp2_with fail
  refine (head_any 1 7 (by omega) (by omega) w17).mono ?_
  rintro e w18 ⟨u3, rfl, ho3, hf18⟩
  have HS18 : Hid (BytesAt w18 vh 64 (lsec (headL 2 128)) ∧ BytesAt w18 vi 64 (lsec (headL 1 7))) := Lib.hid ⟨HS17.out.1.fr hf18 (by simp), HS17.out.2.fr hf18 (by simp)⟩
  have HBU : Hid (BytesAt w18 u3 64 (lsec (headL 1 7))) := Lib.hid (by have h := ho3.bytes.1; rw [headL_len] at h; exact h)
  have HW18 := Lib.hid (HW17.out.fr0 hf18)
  have HF18 := Lib.hid (HF17.out.trans hf18)
  have s18 := hf18.size
  clear ho3 hf18 HS17 HW17 HF17
  go_wp2_with fail
  refine hK _ _ HS18 ?_
  clear hK K
  refine plan_do rfl (fun K hK => ?_)
  refine wpList_valG rfl (exec_convert (src := 31) (dst := 9) (x := .tmp 114) rfl rfl (conv_listN (headL_len 1 7) HBU.out)) ?_
  refine wpList_nil ?_
  refine hK _ _ HS18 ?_
  clear hK K HBU HS18
  obtain ⟨sB, hsB⟩ : ∃ s : ByteArray, (⟨(headL 1 7).toArray⟩ : ByteArray) = s := ⟨_, rfl⟩
  rw [hsB]
  clear hsB
  iterate 2 (refine' plan_val rfl rfl (fun w' hS => ?_) ?_; rotate_left; (focus (go_simp; rfl)); simp only [Act.put, List.setIfInBounds_toArray, List.set_cons_zero, List.set_cons_succ])
  refine plan_nil ?_
  go_wp2_with fail
  refine (head_any 0 0 (by omega) (by omega) w18).mono ?_
  rintro e w19 ⟨u19, rfl, ho19, hf19⟩
  have HO19 := Lib.hid ho19
  have HW19 := Lib.hid (HW18.out.fr0 hf19)
  have HF19 := Lib.hid (HF18.out.trans hf19)
  have s19 := hf19.size
  clear ho19 hf19
  clear HW18 HF18
  go_wp2_with fail
  refine (write0_wd w19 HW19.out (headL_len _ _) HO19.out ⟨by omega, by omega⟩).mono ?_
  rintro e w20 ⟨rfl, hw20, hf20⟩
  have HW20 := Lib.hid hw20
  have HF20 := Lib.hid (HF19.out.then_new hf20 (by simp; omega))
  have s20 := hf20.size
  clear hw20 hf20 HO19
  clear HW19 HF19
  go_wp2_with fail
  refine (open_wd w20 HW20.out ex1).mono ?_
  rintro e w21 ⟨hf21, jone, rfl, hj21, _⟩
  have HJjone21 := Lib.hid hj21
  have HW21 := Lib.hid (HW20.out.fr0 hf21)
  have HF21 := Lib.hid (HF20.out.trans hf21)
  have s21 := hf21.size
  clear hf21 hj21
  clear HW20 HF20
  go_wp2_with fail
  refine (head_any 1 7 (by omega) (by omega) w21).mono ?_
  rintro e w22 ⟨u22, rfl, ho22, hf22⟩
  have HQ22 := Lib.hid hf22
  have s22 := hf22.size
  obtain ⟨g22, c22, rfl, hc1, hc2, hgB⟩ := ho22.formP (by rw [headL_len]; omega)
  have HP22 := Lib.hid (show OwnB w22 w21.heap.size (.slice (some ⟨g22, 0, none⟩) 63 c22) ((headL 1 7).take 63) from ho22.pre (by rw [headL_len]; omega))
  have HT := Lib.hid (show ((headL 1 7).take 63).length = 63 from by rw [List.length_take, headL_len]; rfl)
  rw [headL_len] at hc1 ⊢
  unfold maxLen at hc2
  obtain ⟨i0, hi, hz0, hz1, hz2⟩ := info_parts info_u8
  have HI := Lib.hid hi
  have HZ0 := Lib.hid hz0
  have HZ1 := Lib.hid hz1
  have HZ2 := Lib.hid hz2
  have HGB := Lib.hid hgB
  clear ho22 hf22 hi hz0 hz1 hz2 hgB
  go_wp2_with ((with_reducible refine wpList_at (.call { callee := .builtin .append, args := #[.tmp 128, .tmp 129], argTypes := #[31, 31] }) rfl ?_); refine wpList_append_own _ rfl _ _ 31 rfl w21.heap.size 5 i0 (.int .u8 0) 1 1 Try.underlying31 HI.out HZ0.out HZ1.out HZ2.out rfl (by decide) _ _ _ rfl (by have h := World.ownsRow.alloc HP22.out (.cells #[.int .u8 9] 5); exact h) ⟨w22.heap.size, 0, none⟩ 1 1 [.int .u8 9] rfl rfl (cell_one_new _ _ _) (by simp [Value.oneCell']) (by rw [HT.out]; unfold maxLen; omega) (by rw [HT.out]; omega) (by simp; omega) ?_; intro u23 w23 ho23 hg23 _; have HG23 : Hid ((w22.alloc (.cells #[.int .u8 9] 5)).grownBy w23 (some g22)) := hg23; have HO23 : Hid (OwnB w23 w21.heap.size u23 exT) := (by unfold OwnB exT; rw [List.length_append, List.map_append]; exact ho23); clear ho23 hg23)
  have hf23 : Fr [] w21 w23 := HQ22.out.then_new (grown_fr HG23.out) (by have := HGB.out; simp; omega)
  have HW23 := Lib.hid (HW21.out.fr0 hf23)
  have HF23 := Lib.hid (HF21.out.trans hf23)
  have s23 := hf23.size
  have HJjone23 := Lib.hid (HJjone21.out.fr0 hf23)
  clear hf23 HG23 HQ22 HP22 HT HGB
  clear HW21 HF21 HJjone21
  refine (write1_wd w23 HW23.out (by unfold exT; rw [List.length_append, List.length_take, headL_len]; rfl) HO23.out ⟨by omega, by omega⟩).mono ?_
  rintro e w24 ⟨rfl, hw24, hf24⟩
  have HW24 := Lib.hid hw24
  have HF24 := Lib.hid (HF23.out.then_new hf24 (by simp; omega))
  have s24 := hf24.size
  have HJjone24 := Lib.hid (by obtain ⟨Dk, hdk, _⟩ := HW23.out; exact HJjone23.out.frD hdk hf24 (by simp))
  clear hw24 hf24 HO23
  clear HW23 HF23 HJjone23
  go_wp2_with fail
  refine (open_wd w24 HW24.out ex2).mono ?_
  rintro e w25 ⟨hf25, jnone, rfl, hj25, _⟩
  have HJjnone25 := Lib.hid hj25
  have HW25 := Lib.hid (HW24.out.fr0 hf25)
  have HF25 := Lib.hid (HF24.out.trans hf25)
  have s25 := hf25.size
  have HJjone25 := Lib.hid (HJjone24.out.fr0 hf25)
  clear hf25 hj25
  clear HW24 HF24 HJjone24
  go_wp2_with fail
  refine wp_region_plan [(0, false), (1, true), (2, false), (3, true), (4, false), (5, true), (6, true)] (fun _ => True) (by kernel_rfl) (by kernel_rfl) trivial ?_
  obtain ⟨wz, hwz⟩ : ∃ wz, w25.drew = wz := ⟨_, rfl⟩
  have hfz : Fr [] w25 wz := by rw [← hwz]; exact Fr.drew _ _
  rw [hwz]
  have HWz := Lib.hid (HW25.out.fr0 hfz)
  have HFz := Lib.hid (HF25.out.trans hfz)
  have sz := hfz.size
  have HJjonez := Lib.hid (HJjone25.out.fr0 hfz)
  have HJjnonez := Lib.hid (HJjnone25.out.fr0 hfz)
  clear hwz hfz HW25 HF25 HJjone25 HJjnone25
  (refine' plan_val rfl rfl (fun w' hS => ?_) ?_; rotate_left; (focus (go_simp; rfl)); simp only [Act.put, List.setIfInBounds_toArray, List.set_cons_zero, List.set_cons_succ])
  refine plan_do rfl (fun K hK => ?_)
  go_wp2_with fail
  refine (head_any 9 7 (by omega) (by omega) wz).mono ?_
  rintro e w26 ⟨u26, rfl, ho26, hf26⟩
  have HQ26 := Lib.hid hf26
  have s26 := hf26.size
  obtain ⟨g26, c26, rfl, hc1, hc2, hgB⟩ := ho26.formP (by rw [headL_len]; omega)
  have HP26 := Lib.hid (show OwnB w26 wz.heap.size (.slice (some ⟨g26, 0, none⟩) 20 c26) ((headL 9 7).take 20) from ho26.pre (by rw [headL_len]; omega))
  rw [headL_len] at hc1 ⊢
  unfold maxLen at hc2
  have hci : (20 : Int) ≤ (c26 : Int) := by omega
  have HGB := Lib.hid hgB
  clear ho26 hf26 hgB
  go_wp2_with fail
  refine hK _ _ trivial ?_
  clear hK K
  (refine' plan_val rfl rfl (fun w' hS => ?_) ?_; rotate_left; (focus (go_simp; rfl)); simp only [Act.put, List.setIfInBounds_toArray, List.set_cons_zero, List.set_cons_succ])
  refine plan_do rfl (fun K hK => ?_)
  go_wp2_with fail
  refine (head_any 9 7 (by omega) (by omega) w26).mono ?_
  rintro e w27 ⟨u27, rfl, ho27, hf27⟩
  have HQ27 := Lib.hid (HQ26.out.trans hf27)
  have HP27 := Lib.hid (HP26.out.fr0 hf27)
  have s27 := hf27.size
  obtain ⟨g27, c27, rfl, hd1, hd2, _⟩ := ho27.formP (by rw [headL_len]; omega)
  have hp27 := (show OwnB w27 w26.heap.size (.slice (some ⟨g27, 0, none⟩) 44 c27) ((headL 9 7).take 44) from ho27.pre (by rw [headL_len]; omega)).bytes.1
  have h44 : ((headL 9 7).take 44).length = 44 := by rw [List.length_take, headL_len]; rfl
  have h20 : ((headL 9 7).take 20).length = 20 := by rw [List.length_take, headL_len]; rfl
  rw [h44] at hp27
  have HR27 := Lib.hid hp27
  have H44 := Lib.hid h44
  have H20 := Lib.hid h20
  rw [headL_len] at hd1 ⊢
  unfold maxLen at hd2
  have hdi : (44 : Int) ≤ (c27 : Int) := by omega
  clear ho27 hf27 hp27 h44 h20 HQ26 HP26
  go_wp2_with fail
  refine hK _ _ trivial ?_
  clear hK K
  (refine' plan_val rfl rfl (fun w' hS => ?_) ?_; rotate_left; (focus (go_simp; rfl)); simp only [Act.put, List.setIfInBounds_toArray, List.set_cons_zero, List.set_cons_succ])
  refine plan_do rfl (fun K hK => ?_)
  refine wpList_append_G rfl _ _ rfl wz.heap.size rfl HP27.out rfl HR27.out (by omega) (by rw [H20.out]; omega) (fun u28 w28 ho28 hg28 _ => ?_)
  have HO28 : Hid (OwnB w28 wz.heap.size u28 exU) := Lib.hid (by
    have e : secL 44 (lsec ((headL 9 7).take 44)) = (headL 9 7).take 44 := by have := secL_lsec ((headL 9 7).take 44); rw [H44.out] at this; exact this
    rw [e] at ho28; exact ho28)
  have hg28' : w27.grownBy w28 (some g26) := hg28
  have hf28 : Fr [] wz w28 := HQ27.out.then_new (grownBy.fr hg28' [g26] (fun k hk => .inl (by cases hk; simp))) (by have := HGB.out; simp; omega)
  have HW28 := Lib.hid (HWz.out.fr0 hf28)
  have HF28 := Lib.hid (HFz.out.trans hf28)
  have s28 := hf28.size
  have HJjone28 := Lib.hid (HJjonez.out.fr0 hf28)
  have HJjnone28 := Lib.hid (HJjnonez.out.fr0 hf28)
  clear ho28 hg28 hg28' hf28 HWz HFz HQ27 HP27 HR27 H44 H20 HGB HJjonez HJjnonez
  refine wpList_nil ?_
  refine hK _ _ trivial ?_
  clear hK K
  refine plan_do rfl (fun K hK => ?_)
  go_wp2_with fail
  refine (write0_wd w28 HW28.out (by unfold exU; rw [List.length_append, List.length_take, List.length_take, headL_len]; rfl) HO28.out ⟨by omega, by omega⟩).mono ?_
  rintro e w29 ⟨rfl, hw29, hf29⟩
  have HW29 := Lib.hid hw29
  have HF29 := Lib.hid (HF28.out.then_new hf29 (by simp; omega))
  have s29 := hf29.size
  have HJjone29 := Lib.hid (by obtain ⟨Dk, hdk, _⟩ := HW28.out; exact HJjone28.out.frD hdk hf29 (by simp))
  have HJjnone29 := Lib.hid (by obtain ⟨Dk, hdk, _⟩ := HW28.out; exact HJjnone28.out.frD hdk hf29 (by simp))
  clear hw29 hf29 HO28
  clear HW28 HF28 HJjone28 HJjnone28
  go_wp2_with fail
  refine hK _ _ trivial ?_
  clear hK K
  refine plan_nil ?_
  go_wp2_with fail
  refine (open_wd w29 HW29.out ex3).mono ?_
  rintro e w30 ⟨hf30, hn30⟩
  obtain rfl : e = _ := hn30
  have HW30 := Lib.hid (HW29.out.fr0 hf30)
  have HF30 := Lib.hid (HF29.out.trans hf30)
  have s30 := hf30.size
  have HJjone30 := Lib.hid (HJjone29.out.fr0 hf30)
  have HJjnone30 := Lib.hid (HJjnone29.out.fr0 hf30)
  clear hf30
  clear HW29 HF29 HJjone29 HJjnone29
  go_wp2_with fail
  refine (head_any 9 129 (by omega) (by omega) w30).mono ?_
  rintro e w31 ⟨u31, rfl, ho31, hf31⟩
  have HO31 := Lib.hid ho31
  have HW31 := Lib.hid (HW30.out.fr0 hf31)
  have HF31 := Lib.hid (HF30.out.trans hf31)
  have s31 := hf31.size
  have HJjone31 := Lib.hid (HJjone30.out.fr0 hf31)
  have HJjnone31 := Lib.hid (HJjnone30.out.fr0 hf31)
  clear ho31 hf31
  clear HW30 HF30 HJjone30 HJjnone30
  go_wp2_with fail
  refine (write0_wd w31 HW31.out (headL_len _ _) HO31.out ⟨by omega, by omega⟩).mono ?_
  rintro e w32 ⟨rfl, hw32, hf32⟩
  have HW32 := Lib.hid hw32
  have HF32 := Lib.hid (HF31.out.then_new hf32 (by simp; omega))
  have s32 := hf32.size
  have HJjone32 := Lib.hid (by obtain ⟨Dk, hdk, _⟩ := HW31.out; exact HJjone31.out.frD hdk hf32 (by simp))
  have HJjnone32 := Lib.hid (by obtain ⟨Dk, hdk, _⟩ := HW31.out; exact HJjnone31.out.frD hdk hf32 (by simp))
  clear hw32 hf32 HO31
  clear HW31 HF31 HJjone31 HJjnone31
  go_wp2_with fail
  refine (open_wd w32 HW32.out ex4).mono ?_
  rintro e w33 ⟨hf33, hn33⟩
  obtain rfl : e = _ := hn33
  have HW33 := Lib.hid (HW32.out.fr0 hf33)
  have HF33 := Lib.hid (HF32.out.trans hf33)
  have s33 := hf33.size
  have HJjone33 := Lib.hid (HJjone32.out.fr0 hf33)
  have HJjnone33 := Lib.hid (HJjnone32.out.fr0 hf33)
  clear hf33
  clear HW32 HF32 HJjone32 HJjnone32
  go_wp2_with fail
  refine (head_any 9 6 (by omega) (by omega) w33).mono ?_
  rintro e w34 ⟨u34, rfl, ho34, hf34⟩
  have HO34 := Lib.hid ho34
  have HW34 := Lib.hid (HW33.out.fr0 hf34)
  have HF34 := Lib.hid (HF33.out.trans hf34)
  have s34 := hf34.size
  have HJjone34 := Lib.hid (HJjone33.out.fr0 hf34)
  have HJjnone34 := Lib.hid (HJjnone33.out.fr0 hf34)
  clear ho34 hf34
  clear HW33 HF33 HJjone33 HJjnone33
  go_wp2_with fail
  refine (write0_wd w34 HW34.out (headL_len _ _) HO34.out ⟨by omega, by omega⟩).mono ?_
  rintro e w35 ⟨rfl, hw35, hf35⟩
  have HW35 := Lib.hid hw35
  have HF35 := Lib.hid (HF34.out.then_new hf35 (by simp; omega))
  have s35 := hf35.size
  have HJjone35 := Lib.hid (by obtain ⟨Dk, hdk, _⟩ := HW34.out; exact HJjone34.out.frD hdk hf35 (by simp))
  have HJjnone35 := Lib.hid (by obtain ⟨Dk, hdk, _⟩ := HW34.out; exact HJjnone34.out.frD hdk hf35 (by simp))
  clear hw35 hf35 HO34
  clear HW34 HF34 HJjone34 HJjnone34
  go_wp2_with fail
  refine (open_wd w35 HW35.out ex5).mono ?_
  rintro e w36 ⟨hf36, hn36⟩
  obtain rfl : e = _ := hn36
  have HW36 := Lib.hid (HW35.out.fr0 hf36)
  have HF36 := Lib.hid (HF35.out.trans hf36)
  have s36 := hf36.size
  have HJjone36 := Lib.hid (HJjone35.out.fr0 hf36)
  have HJjnone36 := Lib.hid (HJjnone35.out.fr0 hf36)
  clear hf36
  clear HW35 HF35 HJjone35 HJjnone35
  go_wp2_with fail
  refine (head_any 9 8 (by omega) (by omega) w36).mono ?_
  rintro e w37 ⟨u37, rfl, ho37, hf37⟩
  have HO37 := Lib.hid ho37
  have HW37 := Lib.hid (HW36.out.fr0 hf37)
  have HF37 := Lib.hid (HF36.out.trans hf37)
  have s37 := hf37.size
  have HJjone37 := Lib.hid (HJjone36.out.fr0 hf37)
  have HJjnone37 := Lib.hid (HJjnone36.out.fr0 hf37)
  clear ho37 hf37
  clear HW36 HF36 HJjone36 HJjnone36
  go_wp2_with fail
  refine (write0_wd w37 HW37.out (headL_len _ _) HO37.out ⟨by omega, by omega⟩).mono ?_
  rintro e w38 ⟨rfl, hw38, hf38⟩
  have HW38 := Lib.hid hw38
  have HF38 := Lib.hid (HF37.out.then_new hf38 (by simp; omega))
  have s38 := hf38.size
  have HJjone38 := Lib.hid (by obtain ⟨Dk, hdk, _⟩ := HW37.out; exact HJjone37.out.frD hdk hf38 (by simp))
  have HJjnone38 := Lib.hid (by obtain ⟨Dk, hdk, _⟩ := HW37.out; exact HJjnone37.out.frD hdk hf38 (by simp))
  clear hw38 hf38 HO37
  clear HW37 HF37 HJjone37 HJjnone37
  go_wp2_with fail
  refine (open_wd w38 HW38.out ex6).mono ?_
  rintro e w39 ⟨hf39, hn39⟩
  obtain rfl : e = _ := hn39
  have HW39 := Lib.hid (HW38.out.fr0 hf39)
  have HF39 := Lib.hid (HF38.out.trans hf39)
  have s39 := hf39.size
  have HJjone39 := Lib.hid (HJjone38.out.fr0 hf39)
  have HJjnone39 := Lib.hid (HJjnone38.out.fr0 hf39)
  clear hf39
  clear HW38 HF38 HJjone38 HJjnone38
  go_wp2_with fail
  clear HW39
  refine (recs_held (rs := [[97, 98, 99]]) w39 HJjone39.out (by decide) (by decide)).mono ?_
  rintro e w40 ⟨v40, rfl, hb40, hf40⟩
  obtain ⟨a40, c40, rfl, hl140, hl240, hl340⟩ := hb40.at
  unfold maxLen at hl240
  have HF40 := Lib.hid (HF39.out.trans hf40)
  have s40 := hf40.size
  have HJjone40 := Lib.hid (HJjone39.out.fr0 hf40)
  have HJjnone40 := Lib.hid (HJjnone39.out.fr0 hf40)
  clear hb40 hf40 hl340 HF39 HJjone39 HJjnone39
  go_wp2_with fail
  refine (recs_held (rs := []) w40 HJjnone40.out (by decide) (by decide)).mono ?_
  rintro e w41 ⟨v41, rfl, hb41, hf41⟩
  obtain ⟨a41, c41, rfl, hl141, hl241, hl341⟩ := hb41.at
  unfold maxLen at hl241
  have HF41 := Lib.hid (HF40.out.trans hf41)
  have s41 := hf41.size
  have HJjone41 := Lib.hid (HJjone40.out.fr0 hf41)
  have HJjnone41 := Lib.hid (HJjnone40.out.fr0 hf41)
  clear hb41 hf41 hl341 HF40 HJjone40 HJjnone40
  go_wp2_with fail
  clear HJjone41 HJjnone41
  refine (new_kd 4 w41 (by omega) (by omega)).mono ?_
  rintro e w42 ⟨rfl, hd42, hf42, hs42⟩
  have HD42 := Lib.hid hd42
  have HF42 := Lib.hid (HF41.out.trans hf42)
  have s42 : w41.heap.size + 3 ≤ w42.heap.size := by omega
  clear hd42 hf42 hs42 HF41
  go_wp2_with fail
  refine (open_kd w42 HD42.out).mono ?_
  rintro e w43 ⟨jy, rfl, hj43, hjy, hf43⟩
  have HD43 := Lib.hid (HD42.out.fr0 hf43)
  have HF43 := Lib.hid (HF42.out.trans hf43)
  have HJ43 : Hid (JAt w43 jy (w41.heap.size + 2) 0 [] false) := Lib.hid hj43
  have s43 := hf43.size
  clear hj43 hf43 HD42 HF42
  go_wp2_with fail
  refine (fuse_some 1 (by omega) w43 HD43.out.k).mono ?_
  rintro e w44 ⟨rfl, hd44, hf44⟩
  have HK44 : Hid (DiskAt w44 (w41.heap.size + 2) w41.heap.size (w41.heap.size + 1) { DK.fresh 4 with fuse := 1 }) := Lib.hid hd44
  have HF44 := Lib.hid (HF43.out.then_new hf44 (by simp; omega))
  have HJ44 := Lib.hid (HJ43.out.frD HD43.out.k hf44 (by simp))
  have s44 := hf44.size
  clear hd44 hf44 HD43 HF43 HJ43
  have hcv := Lib.run_convert_bytes_const (P := Try.prog) w44 31 5 #[.int .u8 120] 1 1 Try.underlying31 Try.underlying5
  simp only [List.size_toArray, List.length_cons, List.length_nil, Nat.reduceAdd] at hcv
  go_wp2_with fail
  clear hcv
  have q0 := heap_alloc_new w44 (.cells #[.int .u8 120] 5 (1, 2))
  have q1 : Fr [] w44 (w44.alloc (.cells #[.int .u8 120] 5 (1, 2))) := Fr.alloc _ _ _
  obtain ⟨w45, hw45⟩ : ∃ w45, w44.alloc (.cells #[.int .u8 120] 5 (1, 2)) = w45 := ⟨_, rfl⟩
  rw [hw45] at q0 q1 ⊢
  have HB45 : Hid (BytesAt w45 (.slice (some ⟨w44.heap.size, 0, none⟩) 1 1) 1 (lsec [120])) := Lib.hid
    ⟨_, 1, rfl, Nat.le_refl _, by unfold maxLen; omega, (fun e => by cases e), fun _ => ⟨_, 0, rfl, rangeAt_row0 (n := 1) (f := lsec [120]) q0⟩⟩
  have HF45 := Lib.hid (HF44.out.trans q1)
  have s45 := q1.size
  have HK45 := Lib.hid (HK44.out.fr0 q1)
  have HJ45 := Lib.hid (HJ44.out.fr0 q1)
  clear hw45 q0 q1 HF44 HK44 HJ44
  refine (add_fuse1 (r := [120]) (m := 1) (some ⟨w44.heap.size, 0, none⟩) 1 w45 rfl HJ45.out HK45.out (JK.fresh (n := 4) (by omega) (by omega)) rfl rfl rfl HB45.out (by omega) (by decide)).mono ?_
  rintro e w46 ⟨rfl, ⟨Da, hd46, hn46, hs46⟩, hj46, hf46⟩
  have HK46 := Lib.hid hd46
  have HN46 := Lib.hid (show Da.n = 4 from hn46)
  have HS46 := Lib.hid hs46
  have HJ46 := Lib.hid hj46
  have HF46 := Lib.hid (HF45.out.then_new hf46 (by simp; omega))
  have s46 := hf46.size
  clear hd46 hn46 hs46 hj46 hf46 HK45 HJ45 HF45 HB45
  have hcv := Lib.run_convert_bytes_const (P := Try.prog) w46 31 5 #[.int .u8 121] 1 1 Try.underlying31 Try.underlying5
  simp only [List.size_toArray, List.length_cons, List.length_nil, Nat.reduceAdd] at hcv
  go_wp2_with fail
  clear hcv
  have q0 := heap_alloc_new w46 (.cells #[.int .u8 121] 5 (1, 2))
  have q1 : Fr [] w46 (w46.alloc (.cells #[.int .u8 121] 5 (1, 2))) := Fr.alloc _ _ _
  obtain ⟨w47, hw47⟩ : ∃ w47, w46.alloc (.cells #[.int .u8 121] 5 (1, 2)) = w47 := ⟨_, rfl⟩
  rw [hw47] at q0 q1 ⊢
  have HB47 : Hid (BytesAt w47 (.slice (some ⟨w46.heap.size, 0, none⟩) 1 1) 1 (lsec [121])) := Lib.hid
    ⟨_, 1, rfl, Nat.le_refl _, by unfold maxLen; omega, (fun e => by cases e), fun _ => ⟨_, 0, rfl, rangeAt_row0 (n := 1) (f := lsec [121]) q0⟩⟩
  have HF47 := Lib.hid (HF46.out.trans q1)
  have s47 := q1.size
  have HK47 := Lib.hid (HK46.out.fr0 q1)
  have HJ47 := Lib.hid (HJ46.out.fr0 q1)
  clear hw47 q0 q1 HF46 HK46 HJ46
  refine (jadd_deadJ (some ⟨w46.heap.size, 0, none⟩) 1 1 w47 HJ47.out HK47.out (by simp) (by omega) (by rw [HN46.out]; decide)).mono ?_
  rintro e w48 ⟨rfl, hf48⟩
  have HK48 := Lib.hid (HK47.out.fr0 hf48)
  have HF48 := Lib.hid (HF47.out.trans hf48)
  have s48 := hf48.size
  clear hf48 HK47 HJ47 HF47 HB47
  go_wp2_with fail
  refine (restart_some w48 HK48.out (.slice none 0 0) 0 (fun _ => 0) ⟨none, 0, rfl, Nat.le_refl _, Nat.zero_le _, (fun _ => by simp), fun hm => absurd hm (Nat.lt_irrefl 0)⟩ (fun hm => absurd hm (Nat.lt_irrefl 0))).mono ?_
  rintro e w49 ⟨rfl, hd49, hf49⟩
  have HD49 : Hid (KD w49 (w41.heap.size + 2) w41.heap.size (w41.heap.size + 1) (Da.restart (fateN 0 fun _ => 0)) []) := Lib.hid ⟨hd49, HS46.out _ (fateN_le _ _), rfl, rfl⟩
  have HN49 := Lib.hid (show (Da.restart (fateN 0 fun _ => 0)).n = 4 from HN46.out)
  have HF49 := Lib.hid (HF48.out.then_new hf49 (by simp; omega))
  have s49 := hf49.size
  obtain ⟨Db, hDb⟩ : ∃ Db, Da.restart (fateN 0 fun _ => 0) = Db := ⟨_, rfl⟩
  rw [hDb] at HD49 HN49
  clear hd49 hf49 hDb HK48 HF48 HS46 HN46
  go_wp2_with fail
  refine (open_kd w49 HD49.out).mono ?_
  rintro e w50 ⟨jz, rfl, hj50, hjz, hf50⟩
  have HD50 := Lib.hid (HD49.out.fr0 hf50)
  have HF50 := Lib.hid (HF49.out.trans hf50)
  have HJ50 : Hid (JAt w50 jz (w41.heap.size + 2) 0 [] false) := Lib.hid hj50
  have s50 := hf50.size
  clear hj50 hf50 HD49 HF49
  go_wp2_with fail
  refine (fuse_some 3 (by omega) w50 HD50.out.k).mono ?_
  rintro e w51 ⟨rfl, hd51, hf51⟩
  have HJK := Lib.hid HD50.out.c
  have hsf : Db.setFuse 3 = { Db with fuse := 3 } := by unfold DK.setFuse; rw [HD50.out.dead]; rfl
  rw [hsf] at hd51
  have HK51 : Hid (DiskAt w51 (w41.heap.size + 2) w41.heap.size (w41.heap.size + 1) { Db with fuse := 3 }) := Lib.hid hd51
  have HDD := Lib.hid HD50.out.dead
  have HF51 := Lib.hid (HF50.out.then_new hf51 (by simp; omega))
  have HJ51 := Lib.hid (HJ50.out.frD HD50.out.k hf51 (by simp))
  have s51 := hf51.size
  clear hd51 hf51 hsf HD50 HF50 HJ50
  have hcv := Lib.run_convert_bytes_const (P := Try.prog) w51 31 5 #[.int .u8 120] 1 1 Try.underlying31 Try.underlying5
  simp only [List.size_toArray, List.length_cons, List.length_nil, Nat.reduceAdd] at hcv
  go_wp2_with fail
  clear hcv
  have q0 := heap_alloc_new w51 (.cells #[.int .u8 120] 5 (1, 2))
  have q1 : Fr [] w51 (w51.alloc (.cells #[.int .u8 120] 5 (1, 2))) := Fr.alloc _ _ _
  obtain ⟨w52, hw52⟩ : ∃ w52, w51.alloc (.cells #[.int .u8 120] 5 (1, 2)) = w52 := ⟨_, rfl⟩
  rw [hw52] at q0 q1 ⊢
  have HB52 : Hid (BytesAt w52 (.slice (some ⟨w51.heap.size, 0, none⟩) 1 1) 1 (lsec [120])) := Lib.hid
    ⟨_, 1, rfl, Nat.le_refl _, by unfold maxLen; omega, (fun e => by cases e), fun _ => ⟨_, 0, rfl, rangeAt_row0 (n := 1) (f := lsec [120]) q0⟩⟩
  have HF52 := Lib.hid (HF51.out.trans q1)
  have s52 := q1.size
  have HK52 := Lib.hid (HK51.out.fr0 q1)
  have HJ52 := Lib.hid (HJ51.out.fr0 q1)
  clear hw52 q0 q1 HF51 HK51 HJ51
  refine (add_fuse3 (D := { Db with fuse := 3 }) (r := [120]) (m := 1) (some ⟨w51.heap.size, 0, none⟩) 1 w52 rfl HJ52.out HK52.out HJK.out HDD.out rfl HB52.out (by omega) (by show 4 + 1 ≤ (Db.n - 2) * 64; rw [HN49.out]; decide)).mono ?_
  rintro e w53 ⟨rfl, ⟨Dc, hd53, hn53, hs53⟩, hj53, hf53⟩
  have HK53 := Lib.hid hd53
  have HS53 := Lib.hid hs53
  have HJ53 := Lib.hid hj53
  have HF53 := Lib.hid (HF52.out.then_new hf53 (by simp; omega))
  have s53 := hf53.size
  clear hd53 hn53 hs53 hj53 hf53 HK52 HJ52 HF52 HB52 HJK HDD HN49
  go_wp2_with fail
  have q0 := heap_alloc_new w53 (.cells #[.int .i64 64] 3)
  have q1 : Fr [] w53 (w53.alloc (.cells #[.int .i64 64] 3)) := Fr.alloc _ _ _
  obtain ⟨w54, hw54⟩ : ∃ w54, w53.alloc (.cells #[.int .i64 64] 3) = w54 := ⟨_, rfl⟩
  rw [hw54] at q0 q1 ⊢
  have HI54 : Hid (IntsAt w54 (.slice (some ⟨w53.heap.size, 0, none⟩) 1 1) 1 (fun _ => 64)) := Lib.hid
    ⟨_, 1, rfl, Nat.le_refl _, by unfold maxLen; omega, (fun _ => by simp), fun _ => ⟨_, 0, rfl, fun j hj => by
      obtain rfl : j = 0 := by omega
      rw [cell_of_row w54 _ _ _ _ _ q0]; rfl⟩⟩
  have HF54 := Lib.hid (HF53.out.trans q1)
  have HK54 := Lib.hid (HK53.out.fr0 q1)
  have HJ54 := Lib.hid (HJ53.out.fr0 q1)
  have s54 := q1.size
  clear hw54 q0 q1 HF53 HK53 HJ53
  refine (restart_some w54 HK54.out _ 1 (fun _ => 64) HI54.out (fun _ k hk => by cases hk; show w53.heap.size ≠ w41.heap.size; omega)).mono ?_
  rintro e w55 ⟨rfl, hd55, hf55⟩
  have HD55 : Hid (KD w55 (w41.heap.size + 2) w41.heap.size (w41.heap.size + 1) (Dc.restart (fateN 1 fun _ => 64)) [[120]]) := Lib.hid ⟨hd55, HS53.out _ (fateN_le _ _) (by decide), rfl, rfl⟩
  have HF55 := Lib.hid (HF54.out.then_new hf55 (by simp; omega))
  have HJ55 := Lib.hid (HJ54.out.frD HK54.out hf55 (by simp))
  have s55 := hf55.size
  clear hd55 hf55 HK54 HF54 HJ54 HI54 HS53
  go_wp2_with fail
  refine (open_kd w55 HD55.out).mono ?_
  rintro e w56 ⟨jw, rfl, hj56, hjw, hf56⟩
  have HF56 := Lib.hid (HF55.out.trans hf56)
  have HJ56 := Lib.hid (HJ55.out.fr0 hf56)
  have HJW56 := Lib.hid hj56
  have s56 := hf56.size
  clear hj56 hf56 HD55 HF55 HJ55
  go_wp2_with fail
  refine (recs_held w56 HJW56.out (by decide) (by decide)).mono ?_
  rintro e w57 ⟨v57, rfl, hb57, hf57⟩
  have HF57 := Lib.hid (HF56.out.trans hf57)
  have HJ57 := Lib.hid (HJ56.out.fr0 hf57)
  have HB57 := Lib.hid hb57.at
  have s57 := hf57.size
  obtain ⟨ar, cr, rfl, _, _, h83⟩ := hb57.at
  obtain ⟨br, or, rfl, _⟩ := h83 (by simp)
  clear hb57 hf57 HF56 HJ56 HJW56 h83
  go_wp2_with fail
  refine (recs_held (rs := []) w57 HJ57.out (by decide) (by decide)).mono ?_
  rintro e w58 ⟨v58, rfl, hb58, hf58⟩
  have HF58 := Lib.hid (HF57.out.trans hf58)
  have s58 := hf58.size
  obtain ⟨az, cz, rfl, hz1, hz2, _⟩ := hb58.at
  unfold maxLen at hz2
  have hrr := HB57.out.fr0 hf58
  have hrr2 := hrr
  obtain ⟨_, _, hre, hr1, hr2, _⟩ := hrr2
  obtain ⟨b1, o1, u1, hab, c1, y1⟩ := hrr.get (k := 0) (r := [120]) rfl
  cases hab
  cases hre
  unfold maxLen at hr2
  have hcv : (convert 31 9 u1).run Try.prog w58 = .ok (.string ⟨#[120]⟩) w58 := conv_list y1
  have c1' : w58.cell? ⟨br, or, none⟩ = some u1 := c1
  clear hb58 hf58 HF57 HJ57 HB57 c1 y1
  go_wp2_with fail
  refine (keeps13_true w58).mono ?_
  rintro e w59 ⟨rfl, hf59⟩
  go_wp2_with fail
  go_ret
  exact ⟨rfl, HF58.out.trans hf59⟩
end Go.Proofs.Ytgfdbjeliojhkaa
