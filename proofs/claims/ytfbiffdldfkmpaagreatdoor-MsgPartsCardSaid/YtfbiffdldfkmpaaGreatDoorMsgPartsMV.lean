/-
  MsgPartsV: the walk of MsgParts for every input. No condition but the laid variables.
-/
import Derived.Test.YtfbiffdldfkmpaaGreatDoorMg14
import Derived.Test.YtfbiffdldfkmpaaGreatDoorMg15
import Derived.Test.YtfbiffdldfkmpaaGreatDoorMg13
import Derived.IntWalk
namespace Go.Proofs.YtfbiffdldfkmpaaGreatDoor
open Go.RowKit
theorem OGT.erow {T : Nat → Prop} {w : World} {C : Nat} (hC : C ≤ w.heap.size) : OGT T C (w.alloc (.cells #[] 61)) (.slice (some ⟨w.heap.size, 0, none⟩) 0 0) [] [] :=
  ⟨(OG.erow hC).row, rfl, fun i s x h => by simp at h⟩
theorem wrapM_pos {p : PD} {x : WD} (h : wrapM p = (x, 0)) : 0 < x.segs.length := by
  obtain ⟨_, ⟨_, _, rfl⟩ | ⟨hh, _, _, _, _, rfl⟩⟩ := wrapM_msg h
  · simp
  · show 0 < (msgSegs hh p.m _).length
    unfold msgSegs; simp
theorem lim_mem {x y : WD} (h : wordsLim x) (hs : ∀ s ∈ y.segs, s ∈ x.segs) : wordsLim y := fun s hm => h s (hs s hm)
set_option maxRecDepth 100000 in
set_option maxHeartbeats 8000000 in
theorem msgParts_walk {W : World} (hv : VarsOk W) (p : PD) (hp : okPD p) (ia : Int) (wa : (Lit.int .i64 ia).wf = true) : Calls Tryz.prog 8 #[.agg (pktA p).toArray, .int .i64 ia] W fun e w' => e = .returned (.bool true) ∧ Below W.heap.size W w' := by
  have hia : (-9223372036854775808 : Int) ≤ ia ∧ ia ≤ 9223372036854775807 := (Lit.wf_int_iff _ _).1 wa
  obtain ⟨B, hB⟩ : ∃ B, W.heap.size = B := ⟨_, rfl⟩
  have HBQ := Lib.hid hB
  have HV := Lib.hid hv
  obtain ⟨w1, hw1⟩ : ∃ w1, W.alloc (.cells (pktA p).toArray 38) = w1 := ⟨_, rfl⟩
  have hz1 : w1.heap.size = B + 1 := by rw [← hw1]; simp [hB]
  have HB1 : Hid (Below B W w1) := Lib.hid (by rw [← hw1, ← hB]; exact (Below.refl _ _).alloc (Nat.le_refl _) _)
  have HC1 : Hid (w1.heap[B]? = some (.cells (pktA p).toArray 38 (0, 0))) := Lib.hid (by rw [← hw1, ← hB]; exact heap_alloc_new _ _)
  obtain ⟨X, hX⟩ : ∃ X, wrapM p = X := ⟨_, rfl⟩
  obtain ⟨xw, kw⟩ := X
  have HX := Lib.hid hX
  have HWR := Lib.hid (mWrap_is hp (hv.on HB1.out (by rw [hB]; exact Nat.le_refl _)) hX)
  unfold pktA msgA at HC1 hw1 HWR ⊢
  simp only [List.cons_append, List.nil_append] at HC1 hw1 HWR ⊢
  have HW1 := Lib.hid hw1
  have HZ1 := Lib.hid hz1
  rw [hB]
  obtain ⟨d0, d1, d2, d3, d4, d5, d6, d7, d8, d9, d10, d11, d12, d13, d14, d15⟩ := (cells16 HC1.out).1
  clear hv hB hw1 hz1 wa hX hp HC1
  go_enter Tryz.func8, Tryz.ntmps8
  go_upto_region 1 with fail
  rw [HW1.out, HBQ.out]
  go_upto_region 2 with (go_at_call 11; refine HWR.out.mono ?_; rintro e w2 ⟨v, rfl, hs, hb⟩; rw [HZ1.out] at hs hb; have HB2 := Lib.hid hb; have HS2 := Lib.hid hs; obtain ⟨vo, lc, rfl, hc1, hc2⟩ := hs.form; clear hb hs; unfold wv)
  clear d0 d1 d2 d3 d4 d5 d6 d7 d8 d9 d10 d11 d12 d13 d14 d15
  unfold maxLen at hc2
  obtain ⟨n, hn⟩ : ∃ n, xw.segs.length = n := ⟨_, rfl⟩
  rw [hn] at HS2 hc1 ⊢
  have HLN := Lib.hid hn
  obtain ⟨D, hD⟩ : ∃ D, w2.heap.size = D := ⟨_, rfl⟩
  obtain ⟨w3, hw3⟩ : ∃ w3, w2.alloc (.cells #[.int .u8 (xw.fr : Int), .int .u8 (xw.dst : Int), .int .u64 (xw.rf : Int), .slice vo n lc] 41) = w3 := ⟨_, rfl⟩
  have HBX3 : Hid (w3.heap[D]? = some (.cells #[.int .u8 (xw.fr : Int), .int .u8 (xw.dst : Int), .int .u64 (xw.rf : Int), .slice vo n lc] 41 (0, 0))) := Lib.hid (by rw [← hw3, ← hD]; exact heap_alloc_new _ _)
  have hz2 := HB2.out.size
  rw [HZ1.out, hD] at hz2
  have HB3 : Hid (Below B W w3) := Lib.hid (by rw [← hw3]; exact (HB1.out.trans (HB2.out.mono (by omega))).alloc (by omega) _)
  have HS3 : Hid (SegsAt (fun b => b < D) w3 (.slice vo n lc) xw.segs) := Lib.hid (HS2.out.cong (fun j hj => by omega) (fun j hj => by rw [← hw3]; exact Below.heap_alloc _ _ _ hj.2))
  have hz3 : w3.heap.size = D + 1 := by rw [← hw3, ← hD]; simp
  have HW3 := Lib.hid hw3
  have HDQ := Lib.hid hD
  clear hw3 hn hD HS2
  rw [HW3.out, HDQ.out]
  obtain ⟨⟨d0, d1, d2, d3⟩, _⟩ := cells4 HBX3.out
  by_cases hk : kw = 0
  · subst hk
    have hn0 := wrapM_pos HX.out
    have hn1 := (wrapM_plain HX.out).2.2.1
    rw [HLN.out] at hn0 hn1
    have i0 : ((n : Int) == 0) = false := by rw [beq_eq_false_iff_ne]; omega
    have i1 : ¬ ((n : Int) = 0) := by omega
    go_upto_region 8 with fail
    obtain ⟨tt, htt⟩ : ∃ tt, ia.tmod (n : Int) = tt := ⟨_, rfl⟩
    have hab : tt.natAbs < n := by
      have h1 := Int.natAbs_tmod ia (n : Int)
      rw [htt] at h1
      rw [h1]
      have h2 : (n : Int).natAbs = n := by omega
      rw [h2]
      exact Nat.mod_lt _ (by omega)
    rw [htt]
    have t1 : -(n : Int) < tt := by omega
    have t2 : tt < (n : Int) := by omega
    clear htt hab hia i0 i1
    go_upto_if 32 with fail
    go_cut [8] (fun kv wr => ∃ k : Nat, k < n ∧ kv = .int .i64 (k : Int) ∧ Hid (wr = w3))
    case first =>
      by_cases ht0 : tt < 0
      · have e0 : decide (tt < 0) = true := by rw [decide_eq_true_eq]; exact ht0
        go_wp2_with fail
        go_meet
        case rel => exact ⟨(tt + n).toNat, by omega, by rw [Int.toNat_of_nonneg (by omega)], Lib.hid rfl⟩
      · have e0 : decide (tt < 0) = false := by rw [decide_eq_false_iff_not]; exact ht0
        go_wp2_with fail
        go_meet
        case rel => exact ⟨tt.toNat, by omega, by rw [Int.toNat_of_nonneg (by omega)], Lib.hid rfl⟩
    case rest => as_aux_lemma =>
      obtain ⟨k, hkn, rfl, hw⟩ := hcut
      rw [hw.out]
      clear t1 t2 hw
      obtain ⟨⟨zt, ze⟩, hzl⟩ : ∃ s0, xw.segs[k]? = some s0 := ⟨_, List.getElem?_eq_getElem (by rw [HLN.out]; exact hkn)⟩
      have HZL := Lib.hid hzl
      obtain ⟨lb, lo, zx, hA, hlb, c0, c1, hze⟩ := HS3.out.get hzl
      obtain rfl : vo = some ⟨lb, lo, none⟩ := hA
      obtain ⟨za, zc, rfl, _, _⟩ := hze.form
      obtain ⟨zm, hzm⟩ : ∃ zm, ze.length = zm := ⟨_, rfl⟩
      obtain ⟨ztb, hztb⟩ : ∃ ztb : ByteArray, (⟨zt.toArray⟩ : ByteArray) = ztb := ⟨_, rfl⟩
      have HZTB := Lib.hid hztb
      simp only at c0 c1 hze
      rw [hzm] at c1 hze
      rw [show sv zt = .string ztb from by unfold sv; rw [hztb]] at c0
      have HLX0 : Hid (∀ wx, Below (D + 1) w3 wx → SegsAt (fun b => b < D) wx (.slice (some ⟨lb, lo, none⟩) n lc) xw.segs) := Lib.hid (fun wx hb => HS3.out.cong (fun b hb => hb) (fun b hb' => hb.block b (by omega)))
      have HZE0 : Hid (∀ wx, Below (D + 1) w3 wx → ElemsAt (fun b => b < D) wx (.slice za zm zc) ze) := Lib.hid (fun wx hb => hze.cong (fun _ h => h) (fun b h => hb.block b (by omega)))
      have hclt := cell_lt' c0
      have HSK0 : Hid (∀ wx, Below (D + 1) w3 wx → (wx.cell? ⟨D, 3, none⟩ = some (.slice (some ⟨lb, lo, none⟩) n lc) ∧ wx.cell? ⟨lb, lo + k * 2, none⟩ = some (.string ztb) ∧ wx.cell? ⟨lb, lo + k * 2 + 1, none⟩ = some (.slice za zm zc))) := Lib.hid (fun wx hb => ⟨(hb.cell (p := ⟨D, 3, none⟩) (Nat.lt_succ_self D)).trans d3, (hb.cell (p := ⟨lb, lo + k * 2, none⟩) (by rw [← hz3]; exact hclt)).trans c0, (hb.cell (p := ⟨lb, lo + k * 2 + 1, none⟩) (by rw [← hz3]; exact hclt)).trans c1⟩)
      have HBX0 : Hid (∀ wx, Below (D + 1) w3 wx → wx.heap[D]? = some (.cells #[.int .u8 (xw.fr : Int), .int .u8 (xw.dst : Int), .int .u64 (xw.rf : Int), .slice (some ⟨lb, lo, none⟩) n lc] 41 (0, 0))) := Lib.hid (fun wx hb => (hb.block D (Nat.lt_succ_self D)).trans HBX3.out)
      clear hzl hlb c0 c1 hze hzm hztb hclt HS3 HBX3
      go_upto_region 11 with fail
      try rw [hz3]
      obtain ⟨C, hC⟩ : ∃ C, D + 1 = C := ⟨_, rfl⟩
      have HCQ := Lib.hid hC
      obtain ⟨w4, hw4⟩ : ∃ w4, w3.alloc (.cells #[.int .u8 (xw.fr : Int), .int .u8 (xw.dst : Int), .int .u64 (xw.rf : Int), .slice (some ⟨lb, lo, none⟩) n lc] 41) = w4 := ⟨_, rfl⟩
      have HBX4 : Hid (w4.heap[C]? = some (.cells #[.int .u8 (xw.fr : Int), .int .u8 (xw.dst : Int), .int .u64 (xw.rf : Int), .slice (some ⟨lb, lo, none⟩) n lc] 41 (0, 0))) := Lib.hid (by rw [← hw4, ← hC, ← hz3]; exact heap_alloc_new _ _)
      have HB34 : Hid (Below C w3 w4) := Lib.hid (by rw [← hw4, ← hC, ← hz3]; exact (Below.refl _ _).alloc (Nat.le_refl _) _)
      have hz4 : w4.heap.size = C + 1 := by rw [← hw4]; simp [hz3, hC]
      have HW4 := Lib.hid hw4
      rw [hC] at HLX0 HZE0 HSK0 HBX0 ⊢
      rw [HW4.out]
      have hDC : D < C := by omega
      clear hw4 hC d0 d1 d2 d3
      go_cut [] (fun wr => ∃ ve vf, Hid (Below C w3 wr ∧ wr.heap[C]? = some (.cells #[.int .u8 (xw.fr : Int), .int .u8 (xw.dst : Int), .int .u64 (xw.rf : Int), .slice ve (n - 1) vf] 41 (0, 0)) ∧ C + 1 ≤ wr.heap.size ∧ SegsAt (fun b => b < wr.heap.size) wr (.slice ve (n - 1) vf) (xw.segs.take k ++ xw.segs.drop (k + 1))))
      case first => as_aux_lemma =>
        obtain ⟨wd, hwd⟩ : ∃ wd, w4.drew = wd := ⟨_, rfl⟩
        have HBDR : Hid (Below C w3 wd) := Lib.hid (by rw [← hwd]; exact HB34.out.drew)
        have hzd1 : wd.heap.size ≤ C + 1 := by rw [← hwd]; exact Nat.le_of_eq hz4
        have hzd2 : C + 1 ≤ wd.heap.size := by rw [← hwd]; exact Nat.le_of_eq hz4.symm
        clear hz4 hz3
        have HBXd : Hid (wd.heap[C]? = some (.cells #[.int .u8 (xw.fr : Int), .int .u8 (xw.dst : Int), .int .u64 (xw.rf : Int), .slice (some ⟨lb, lo, none⟩) n lc] 41 (0, 0))) := Lib.hid (by rw [← hwd]; exact HBX4.out)
        have HSK1 : Hid (∀ wx, Below C wd wx → wx.cell? ⟨D, 3, none⟩ = some (.slice (some ⟨lb, lo, none⟩) n lc)) := Lib.hid (fun wx hb => (HSK0.out wx (HBDR.out.trans hb)).1)
        have HLX : Hid (∀ wx, Below (C + 1) wd wx → SegsAt (fun b => b < D) wx (.slice (some ⟨lb, lo, none⟩) n lc) xw.segs) := Lib.hid (fun wx hb => HLX0.out wx (HBDR.out.trans (hb.mono (Nat.le_succ C))))
        have hSd := HSK1.out wd (Below.refl _ _)
        have HBwd : Hid (Below (C + 1) wd wd) := Lib.hid (Below.refl _ _)
        have g1 : IntKind.i64.wrap ((k : Int) + 1) = (k : Int) + 1 := IntWalk.i64_in _ (by omega)
        have g2 : (0 : Int) ≤ (k : Int) + 1 := by omega
        have g3 : ((k : Int) + 1).toNat = k + 1 := by omega
        have g4 : (k : Int) ≤ (lc : Int) := by omega
        have g5 : (k : Int) + 1 ≤ (n : Int) := by omega
        have g6 : (0 : Int) ≤ (k : Int) := by omega
        refine wp_region_planT (.val 1 (.val 2 (.val 3 (.val 4 (.val 6 (.val 7 (.val 8 (.val 9 (.val 10 (.one 0 (.one 5 (.one 11 (.val 12 (.one 13 .nil)))))))))))))) (fun u => u.cell? ⟨D, 3, none⟩ = some (.slice (some ⟨lb, lo, none⟩) n lc)) (by kernel_rfl) (by kernel_rfl) (by rw [hwd]; exact hSd) ?_
        rw [hwd]
        clear hwd hSd
        iterate 3 (refine' planT_val rfl rfl (fun w' hS => ?_) ?_; rotate_left; (focus (first | (go_simp; rfl) | (simp only at hS; go_simp; rfl))); simp only [Act.put, List.setIfInBounds_toArray, List.set_cons_zero, List.set_cons_succ])
        refine planT_val (v := .slice (some ⟨lb, lo, none⟩) k lc) rfl rfl (fun w' hS => by go_simp) ?_
        simp only [Act.put, List.setIfInBounds_toArray, List.set_cons_zero, List.set_cons_succ]
        iterate 4 (refine' planT_val rfl rfl (fun w' hS => ?_) ?_; rotate_left; (focus (first | (go_simp; rfl) | (simp only at hS; go_simp; rfl))); simp only [Act.put, List.setIfInBounds_toArray, List.set_cons_zero, List.set_cons_succ])
        obtain ⟨tp, htp⟩ : ∃ tp : Option Addr, (if lc = k + 1 then some (⟨lb, lo, none⟩ : Addr) else some ⟨lb, lo + (k + 1) * 2, none⟩) = tp := ⟨_, rfl⟩
        have HTP := Lib.hid htp
        refine planT_val (v := .slice tp (n - (k + 1)) (lc - (k + 1))) rfl rfl (fun w' hS => by go_simp) ?_
        simp only [Act.put, List.setIfInBounds_toArray, List.set_cons_zero, List.set_cons_succ]
        clear htp g1 g2 g3 g4 g5 g6
        refine planT_do rfl (fun K hK => ?_)
        go_wp2_with fail
        refine hK _ _ (HSK1.out _ ((Below.refl _ _).alloc (by omega) _)) ?_
        clear hK K
        obtain ⟨De, hDe⟩ : ∃ De, wd.heap.size = De := ⟨_, rfl⟩
        obtain ⟨w5, hw5⟩ : ∃ w5, wd.alloc (.cells #[] 61) = w5 := ⟨_, rfl⟩
        have hz5 : w5.heap.size ≤ De + 1 ∧ De + 1 ≤ w5.heap.size := by rw [← hw5, ← hDe]; simp
        obtain ⟨hz5a, hz5b⟩ := hz5
        have hDeC : C + 1 ≤ De := by omega
        have HB5 : Hid (Below (C + 1) wd w5) := Lib.hid (by rw [← hw5]; exact (Below.refl _ _).alloc (by omega) _)
        have HE5 : Hid (OGT (fun b => b ≠ C) (C + 1) w5 (.slice (some ⟨De, 0, none⟩) 0 0) [] []) := Lib.hid (by rw [← hw5, ← hDe]; exact OGT.erow (by omega))
        rw [hw5, hDe]
        have HDDe := Lib.hid hDe
        clear hw5 hDe
        refine planT_do rfl (fun K hK => ?_)
        have HSP : Hid (SegsAt (fun b => b < D) w5 (.slice (some ⟨lb, lo, none⟩) k lc) (xw.segs.take k)) := Lib.hid ((HLX.out w5 HB5.out).head (by rw [HLN.out]; omega) (by omega) (by unfold maxLen; omega))
        refine wp_app_ogw _ _ rfl rfl rfl rfl HE5.out HSP.out (fun b hb => ⟨⟨by omega, by omega⟩, fun e => by have e1 : De = b := Option.some.inj e; omega⟩) (by rw [List.length_take, HLN.out]; simp; omega) (by omega) ?_
        intro v1 w6 xs1 ho1 hb1 _ _
        have hz6 := hb1.size
        have HB6 : Hid (Below (C + 1) wd w6) := Lib.hid (HB5.out.trans hb1)
        have HO6 : Hid (OGT (fun b => b ≠ C) (C + 1) w6 v1 xs1 (xw.segs.take k)) := Lib.hid (by have h1 := ho1; rw [List.nil_append] at h1; exact h1)
        obtain ⟨va, vc, rfl⟩ := own_slice ho1.row
        have hl1 : ([] ++ (xw.segs.take k) : List Seg).length = k := by rw [List.nil_append, List.length_take, HLN.out]; omega
        rw [hl1] at HO6 ⊢
        clear ho1 hb1 hl1
        go_wp2_with fail
        refine hK _ _ (HSK1.out _ (HB6.out.mono (Nat.le_succ C))) ?_
        clear hK K
        refine planT_do rfl (fun K hK => ?_)
        have HSP2 : Hid (SegsAt (fun b => b < D) w6 (.slice tp (n - (k + 1)) (lc - (k + 1))) (xw.segs.drop (k + 1))) := Lib.hid (by
          have h1 := (HLX.out w6 HB6.out).tail HLN.out (lo := k + 1) (by omega) (by omega) (by unfold maxLen; omega)
          have h2 := HTP.out
          by_cases h3 : lc = k + 1
          · rw [if_pos h3] at h2
            subst h2
            have h4 : n - (k + 1) = 0 := by omega
            have h5 : xw.segs.drop (k + 1) = [] := List.drop_eq_nil_of_le (by rw [HLN.out]; omega)
            rw [h4, h5]
            exact ⟨_, _, [], rfl, by simp, by unfold maxLen; omega, (fun e => by cases e), rfl, (fun i s x h => by simp at h), fun h => absurd rfl h⟩
          · rw [if_neg h3] at h2
            subst h2
            exact h1)
        refine wp_app_ogw _ _ rfl rfl rfl rfl HO6.out HSP2.out (fun b hb => ⟨⟨by omega, by omega⟩, fun e => by have h1 := (own_lt HO6.out.row e).1; omega⟩) (by rw [List.length_take, List.length_drop, HLN.out]; omega) (by omega) ?_
        intro v3 w7 xs3 ho3 hb3 _ _
        obtain ⟨ve, vf, rfl⟩ := own_slice ho3.row
        have hl3 : (xw.segs.take k ++ xw.segs.drop (k + 1) : List Seg).length = n - 1 := by rw [List.length_append, List.length_take, List.length_drop, HLN.out]; omega
        rw [hl3] at ho3 ⊢
        have HO7 := Lib.hid ho3
        have HB7 := Lib.hid (HB6.out.trans hb3)
        have hz7 := hb3.size
        clear ho3 hb3 hl3
        go_wp2_with fail
        refine hK _ _ (HSK1.out _ (HB7.out.mono (Nat.le_succ C))) ?_
        clear hK K
        iterate 1 (refine' planT_val rfl rfl (fun w' hS => ?_) ?_; rotate_left; (focus (first | (go_simp; rfl) | (simp only at hS; go_simp; rfl))); simp only [Act.put, List.setIfInBounds_toArray, List.set_cons_zero, List.set_cons_succ])
        have HBX7 : Hid (w7.heap[C]? = some (.cells #[.int .u8 (xw.fr : Int), .int .u8 (xw.dst : Int), .int .u64 (xw.rf : Int), .slice (some ⟨lb, lo, none⟩) n lc] 41 (0, 0))) := Lib.hid ((HB7.out.block C (by omega)).trans HBXd.out)
        obtain ⟨⟨e0, e1, e2, e3⟩, f0, f1, f2, f3⟩ := cells4 HBX7.out
        refine planT_do rfl (fun K hK => ?_)
        go_wp2_with fail
        refine hK _ _ (HSK1.out _ ((HB7.out.mono (Nat.le_succ C)).setCell (Nat.le_refl C) _)) ?_
        clear hK K
        refine planT_nil ?_
        go_wp2_with fail
        go_meet
        case rel => exact ⟨ve, vf, Lib.hid ⟨HBDR.out.trans ((HB7.out.mono (Nat.le_succ C)).setCell (Nat.le_refl C) _), heap_setCell_same w7 C 3 _ _ _ HBX7.out, by simp only [World.size_setCell]; omega, (HO7.out.rest (S := fun b => b ≠ C ∧ b < w7.heap.size) (fun b h1 h2 => ⟨h1, h2⟩) (fun b hb => ⟨by have := (own_lt HO7.out.row hb).1; omega, (own_lt HO7.out.row hb).2⟩)).cong (fun b hb => by simp only [World.size_setCell]; exact hb.2) (fun b hb => heap_setCell_other _ _ _ _ (by simpa using hb.1))⟩⟩
      case rest => as_aux_lemma =>
        obtain ⟨ve, vf, hcc⟩ := hcut
        obtain ⟨wl, hwl⟩ : ∃ wl, wl = wc := ⟨_, rfl⟩
        rw [← hwl] at hcc ⊢
        clear hwl
        obtain ⟨HB8', HLB8', hz8, HLS8'⟩ := hcc.out
        have HB8 := Lib.hid HB8'
        have HLB8 := Lib.hid HLB8'
        have HLS8 := Lib.hid HLS8'
        clear hcc HB8' HLB8' HLS8' HB34 HBX4 hz4
        obtain ⟨⟨d0, d1, d2, d3⟩, _⟩ := cells4 (HBX0.out wl HB8.out)
        go_upto_region 13 with fail
        obtain ⟨E, hE⟩ : ∃ E, wl.heap.size = E := ⟨_, rfl⟩
        obtain ⟨w9, hw9⟩ : ∃ w9, wl.alloc (.cells #[.int .u8 (xw.fr : Int), .int .u8 (xw.dst : Int), .int .u64 (xw.rf : Int), .slice (some ⟨lb, lo, none⟩) n lc] 41) = w9 := ⟨_, rfl⟩
        have HBX9 : Hid (w9.heap[E]? = some (.cells #[.int .u8 (xw.fr : Int), .int .u8 (xw.dst : Int), .int .u64 (xw.rf : Int), .slice (some ⟨lb, lo, none⟩) n lc] 41 (0, 0))) := Lib.hid (by rw [← hw9, ← hE]; exact heap_alloc_new _ _)
        have HB9 : Hid (Below E wl w9) := Lib.hid (by rw [← hw9, ← hE]; exact (Below.refl _ _).alloc (Nat.le_refl _) _)
        have hz9 : w9.heap.size = E + 1 := by rw [← hw9, ← hE]; simp
        have HW9 := Lib.hid hw9
        have HEQ := Lib.hid hE
        have hCE : C + 1 ≤ E := by omega
        clear hw9 hE d0 d1 d2 d3
        rw [HW9.out, HEQ.out]
        rw [HEQ.out] at HLS8
        go_cut [] (fun wr => ∃ vg vh, Hid (Below E wl wr ∧ wr.heap[E]? = some (.cells #[.int .u8 (xw.fr : Int), .int .u8 (xw.dst : Int), .int .u64 (xw.rf : Int), .slice vg (n + 1) vh] 41 (0, 0)) ∧ E + 1 ≤ wr.heap.size ∧ SegsAt (fun b => b < wr.heap.size) wr (.slice vg (n + 1) vh) (xw.segs.take k ++ [⟨zt, ze⟩] ++ xw.segs.drop k)))
        case first => as_aux_lemma =>
          obtain ⟨wd, hwd⟩ : ∃ wd, w9.drew = wd := ⟨_, rfl⟩
          have HBDR : Hid (Below E wl wd) := Lib.hid (by rw [← hwd]; exact HB9.out.drew)
          have HBCD : Hid (Below C w3 wd) := Lib.hid (HB8.out.trans (HBDR.out.mono (by omega)))
          have hzwd : wd.heap.size ≤ E + 1 := by rw [← hwd]; exact Nat.le_of_eq hz9
          have hywd : E + 1 ≤ wd.heap.size := by rw [← hwd]; exact Nat.le_of_eq hz9.symm
          have HBXd : Hid (wd.heap[E]? = some (.cells #[.int .u8 (xw.fr : Int), .int .u8 (xw.dst : Int), .int .u64 (xw.rf : Int), .slice (some ⟨lb, lo, none⟩) n lc] 41 (0, 0))) := Lib.hid (by rw [← hwd]; exact HBX9.out)
          have HSK1 : Hid (∀ wx, Below E wd wx → (wx.cell? ⟨D, 3, none⟩ = some (.slice (some ⟨lb, lo, none⟩) n lc) ∧ wx.cell? ⟨lb, lo + k * 2, none⟩ = some (.string ztb) ∧ wx.cell? ⟨lb, lo + k * 2 + 1, none⟩ = some (.slice za zm zc))) := Lib.hid (fun wx hb => HSK0.out wx (HBCD.out.trans (hb.mono (by omega))))
          have HSK : Hid (∀ wx, Below (E + 1) wd wx → (wx.cell? ⟨D, 3, none⟩ = some (.slice (some ⟨lb, lo, none⟩) n lc) ∧ wx.cell? ⟨lb, lo + k * 2, none⟩ = some (.string ztb) ∧ wx.cell? ⟨lb, lo + k * 2 + 1, none⟩ = some (.slice za zm zc))) := Lib.hid (fun wx hb => HSK1.out wx (hb.mono (Nat.le_succ E)))
          have HLX : Hid (∀ wx, Below (E + 1) wd wx → SegsAt (fun b => b < D) wx (.slice (some ⟨lb, lo, none⟩) n lc) xw.segs) := Lib.hid (fun wx hb => HLX0.out wx (HBCD.out.trans (hb.mono (by omega))))
          have HZE : Hid (∀ wx, Below (E + 1) wd wx → ElemsAt (fun b => b < D) wx (.slice za zm zc) ze) := Lib.hid (fun wx hb => HZE0.out wx (HBCD.out.trans (hb.mono (by omega))))
          have hSd := HSK.out wd (Below.refl _ _)
          have HBwd : Hid (Below (E + 1) wd wd) := Lib.hid (Below.refl _ _)
          have g4 : (k : Int) ≤ (lc : Int) := by omega
          have g5 : (k : Int) ≤ (n : Int) := by omega
          have g6 : (0 : Int) ≤ (k : Int) := by omega
          have g7 : (k : Int) < (n : Int) := by omega
          have g8 : ¬ lc = k := by omega
          refine wp_region_planT (.val 1 (.val 2 (.val 3 (.val 4 (.val 6 (.val 7 (.val 8 (.val 9 (.val 10 (.val 13 (.val 14 (.val 15 (.val 16 (.two 0 (.two 5 (.one 11 (.one 12 (.one 17 (.val 18 (.one 19 .nil))))) 11 (.one 5 (.one 12 (.one 17 (.val 18 (.one 19 .nil)))))) 11 (.one 0 (.one 5 (.one 12 (.one 17 (.val 18 (.one 19 .nil)))))))))))))))))))) (fun u => u.cell? ⟨D, 3, none⟩ = some (.slice (some ⟨lb, lo, none⟩) n lc) ∧ u.cell? ⟨lb, lo + k * 2, none⟩ = some (.string ztb) ∧ u.cell? ⟨lb, lo + k * 2 + 1, none⟩ = some (.slice za zm zc)) (by kernel_rfl) (by kernel_rfl) (by rw [hwd]; exact hSd) ?_
          rw [hwd]
          clear hwd hSd
          iterate 3 (refine' planT_val rfl rfl (fun w' hS => ?_) ?_; rotate_left; (focus (first | rfl | (obtain ⟨hS1, hS2, hS3⟩ := hS; go_simp; rfl) | (obtain ⟨hS1, hS2, hS3⟩ := hS; go_simp; done))); simp only [Act.put, List.setIfInBounds_toArray, List.set_cons_zero, List.set_cons_succ])
          refine planT_val (v := .slice (some ⟨lb, lo, none⟩) k lc) rfl rfl (fun w' hS => by go_simp) ?_
          simp only [Act.put, List.setIfInBounds_toArray, List.set_cons_zero, List.set_cons_succ]
          iterate 8 (refine' planT_val rfl rfl (fun w' hS => ?_) ?_; rotate_left; (focus (first | rfl | (obtain ⟨hS1, hS2, hS3⟩ := hS; go_simp; rfl) | (obtain ⟨hS1, hS2, hS3⟩ := hS; go_simp; done))); simp only [Act.put, List.setIfInBounds_toArray, List.set_cons_zero, List.set_cons_succ])
          refine planT_val (v := .slice (some ⟨lb, lo + k * 2, none⟩) (n - k) (lc - k)) rfl rfl (fun w' hS => by go_simp) ?_
          simp only [Act.put, List.setIfInBounds_toArray, List.set_cons_zero, List.set_cons_succ]
          clear g4 g5 g6 g7 g8
          refine planT_two ?_ ?_
          · refine planT_op rfl (fun K hK => ?_)
            go_wp2_with fail
            refine hK _ _ (HSK.out _ (HBwd.out.alloc (by omega) _)) ?_
            clear hK K
            obtain ⟨De, hDe⟩ : ∃ De, wd.heap.size = De := ⟨_, rfl⟩
            obtain ⟨w5, hw5⟩ : ∃ w5, wd.alloc (.cells #[] 61) = w5 := ⟨_, rfl⟩
            have hzw5 : w5.heap.size ≤ De + 1 ∧ De + 1 ≤ w5.heap.size := by rw [← hw5, ← hDe]; simp
            obtain ⟨hzw5, hyw5⟩ := hzw5
            have hcDe : E + 1 ≤ De := by omega
            have HUw5 : Hid (Below De wd w5) := Lib.hid (by rw [← hw5, ← hDe]; exact (Below.refl _ _).alloc (Nat.le_refl _) _)
            have HBw5 : Hid (Below (E + 1) wd w5) := Lib.hid (HBwd.out.trans (HUw5.out.mono (by omega)))
            have HEw5 : Hid (OGT (fun b => b ≠ E) (E + 1) w5 (.slice (some ⟨De, 0, none⟩) 0 0) [] []) := Lib.hid (by rw [← hw5, ← hDe]; exact OGT.erow (by omega))
            rw [hw5, hDe]
            have HDDe := Lib.hid hDe
            clear hw5 hDe
            refine planT_two ?_ ?_
            · refine planT_op rfl (fun K hK => ?_)
              have HSP : Hid (SegsAt (fun b => b < D) w5 (.slice (some ⟨lb, lo, none⟩) k lc) (xw.segs.take k)) := Lib.hid ((HLX.out w5 HBw5.out).head (by rw [HLN.out]; omega) (by omega) (by unfold maxLen; omega))
              refine wp_app_ogw _ _ rfl rfl rfl rfl HEw5.out HSP.out (fun b hb => ⟨⟨by omega, by omega⟩, fun e => by have e1 : De = b := Option.some.inj e; omega⟩) (by rw [List.length_take, HLN.out]; simp; omega) (by omega) ?_
              intro v1 w6 xs1 ho1 hb1 hg1 hk1
              have hzw6 := hg1.size
              have HBw6 : Hid (Below (E + 1) wd w6) := Lib.hid (HBw5.out.trans hb1)
              have HOw6 : Hid (OGT (fun b => b ≠ E) (E + 1) w6 v1 xs1 (xw.segs.take k)) := Lib.hid (by have h1 := ho1; rw [List.nil_append] at h1; exact h1)
              obtain ⟨va, vc, rfl⟩ := own_slice ho1.row
              have hl1 : ([] ++ (xw.segs.take k) : List Seg).length = k := by rw [List.nil_append, List.length_take, HLN.out]; omega
              rw [hl1] at HOw6 ⊢
              clear ho1 hb1 hg1 hk1 hl1
              go_wp2_with fail
              refine hK _ _ (HSK.out _ HBw6.out) ?_
              clear hK K
              refine planT_do rfl (fun K hK => ?_)
              go_wp2_with fail
              refine hK _ _ (HSK.out _ (HBw6.out.alloc (by omega) _)) ?_
              clear hK K
              have HEL : Hid (ElemsAt (fun b => b < D) w6 (.slice za zm zc) ze) := Lib.hid (HZE.out w6 HBw6.out)
              obtain ⟨Dn, hDn⟩ : ∃ Dn, w6.heap.size = Dn := ⟨_, rfl⟩
              obtain ⟨wT, hwT⟩ : ∃ wT, w6.alloc (.cells #[.string ztb, .slice za zm zc] 61) = wT := ⟨_, rfl⟩
              have hzwT : wT.heap.size ≤ Dn + 1 ∧ Dn + 1 ≤ wT.heap.size := by rw [← hwT, ← hDn]; simp
              obtain ⟨hzwT, hywT⟩ := hzwT
              have hcDn : E + 1 ≤ Dn := by omega
              have hden : De < Dn := by omega
              have HUwT : Hid (Below Dn w6 wT) := Lib.hid (by rw [← hwT, ← hDn]; exact (Below.refl _ _).alloc (Nat.le_refl _) _)
              have HBwT : Hid (Below (E + 1) wd wT) := Lib.hid (HBw6.out.trans (HUwT.out.mono (by omega)))
              have HNwT : Hid (SegsAt (fun b => b < D ∨ b = Dn) wT (.slice (some ⟨Dn, 0, none⟩) 1 1) [⟨zt, ze⟩]) := Lib.hid (by rw [← hwT]; exact seg_lit hDn HZTB.out HEL.out (by omega))
              have HOwT : Hid (OGT (fun b => b ≠ E) (E + 1) wT (.slice va k vc) xs1 (xw.segs.take k)) := Lib.hid (HOw6.out.below (by rw [hDn]; exact HUwT.out))
              have hne : (Value.slice va k vc).ownBlock ≠ some Dn := fun e => by have h1 := (own_lt HOw6.out.row e).2; omega
              rw [hwT, hDn]
              have HDDn := Lib.hid hDn
              clear hwT hDn
              refine planT_do rfl (fun K hK => ?_)
              refine wp_app_ogw _ _ rfl rfl rfl rfl HOwT.out HNwT.out (fun b hb => ⟨⟨by rcases hb with hb | hb <;> omega, by rcases hb with hb | hb <;> omega⟩, fun e => by rcases hb with hb | hb; (have h1 := (own_lt HOwT.out.row e).1; omega); exact hne (hb ▸ e)⟩) (by rw [List.length_take, HLN.out]; simp; omega) (by omega) ?_
              intro v2 w7 xs2 ho2 hb2 _ _
              obtain ⟨vb, vd, rfl⟩ := own_slice ho2.row
              have hl2 : (xw.segs.take k ++ [⟨zt, ze⟩] : List Seg).length = k + 1 := by rw [List.length_append, List.length_take, HLN.out]; simp; omega
              rw [hl2] at ho2 ⊢
              have HO7 := Lib.hid ho2
              have HB7 := Lib.hid (HBwT.out.trans hb2)
              have hz7 := hb2.size
              clear ho2 hb2 hl2
              go_wp2_with fail
              refine hK _ _ (HSK.out _ HB7.out) ?_
              clear hK K
              refine planT_do rfl (fun K hK => ?_)
              have HSP2 : Hid (SegsAt (fun b => b < D) w7 (.slice (some ⟨lb, lo + k * 2, none⟩) (n - k) (lc - k)) (xw.segs.drop k)) := Lib.hid ((HLX.out w7 HB7.out).tail HLN.out (by omega) (by omega) (by unfold maxLen; omega))
              refine wp_app_ogw _ _ rfl rfl rfl rfl HO7.out HSP2.out (fun b hb => ⟨⟨by omega, by omega⟩, fun e => by have h1 := (own_lt HO7.out.row e).1; omega⟩) (by rw [List.length_append, List.length_take, List.length_drop, HLN.out]; simp; omega) (by omega) ?_
              intro v3 w8 xs3 ho3 hb3 _ _
              obtain ⟨ve, vf, rfl⟩ := own_slice ho3.row
              have hl3 : (xw.segs.take k ++ [⟨zt, ze⟩] ++ xw.segs.drop k : List Seg).length = n + 1 := by simp [HLN.out]; omega
              rw [hl3] at ho3 ⊢
              have HO8 := Lib.hid ho3
              have HB8 := Lib.hid (HB7.out.trans hb3)
              have hz8 := hb3.size
              clear ho3 hb3 hl3
              go_wp2_with fail
              refine hK _ _ (HSK.out _ HB8.out) ?_
              clear hK K
              iterate 1 (refine' planT_val rfl rfl (fun w' hS => ?_) ?_; rotate_left; (focus (first | rfl | (obtain ⟨hS1, hS2, hS3⟩ := hS; go_simp; rfl) | (obtain ⟨hS1, hS2, hS3⟩ := hS; go_simp; done))); simp only [Act.put, List.setIfInBounds_toArray, List.set_cons_zero, List.set_cons_succ])
              have HBX8 : Hid (w8.heap[E]? = some (.cells #[.int .u8 (xw.fr : Int), .int .u8 (xw.dst : Int), .int .u64 (xw.rf : Int), .slice (some ⟨lb, lo, none⟩) n lc] 41 (0, 0))) := Lib.hid ((HB8.out.block E (by omega)).trans HBXd.out)
              obtain ⟨⟨e0, e1, e2, e3⟩, f0, f1, f2, f3⟩ := cells4 HBX8.out
              refine planT_do rfl (fun K hK => ?_)
              go_wp2_with fail
              refine hK _ _ (HSK1.out _ ((HB8.out.mono (Nat.le_succ E)).setCell (Nat.le_refl E) _)) ?_
              clear hK K
              refine planT_nil ?_
              go_wp2_with fail
              go_meet
              case rel => exact ⟨ve, vf, Lib.hid ⟨HBDR.out.trans ((HB8.out.mono (Nat.le_succ E)).setCell (Nat.le_refl E) _), heap_setCell_same w8 E 3 _ _ _ HBX8.out, by simp only [World.size_setCell]; omega, (HO8.out.rest (S := fun b => b ≠ E ∧ b < w8.heap.size) (fun b h1 h2 => ⟨h1, h2⟩) (fun b hb => ⟨by have := (own_lt HO8.out.row hb).1; omega, (own_lt HO8.out.row hb).2⟩)).cong (fun b hb => by simp only [World.size_setCell]; exact hb.2) (fun b hb => heap_setCell_other _ _ _ _ (by simpa using hb.1))⟩⟩
            · refine planT_op rfl (fun K hK => ?_)
              go_wp2_with fail
              refine hK _ _ (HSK.out _ (HBw5.out.alloc (by omega) _)) ?_
              clear hK K
              have HEL : Hid (ElemsAt (fun b => b < D) w5 (.slice za zm zc) ze) := Lib.hid (HZE.out w5 HBw5.out)
              obtain ⟨Dn, hDn⟩ : ∃ Dn, w5.heap.size = Dn := ⟨_, rfl⟩
              obtain ⟨w6, hw6⟩ : ∃ w6, w5.alloc (.cells #[.string ztb, .slice za zm zc] 61) = w6 := ⟨_, rfl⟩
              have hzw6 : w6.heap.size ≤ Dn + 1 ∧ Dn + 1 ≤ w6.heap.size := by rw [← hw6, ← hDn]; simp
              obtain ⟨hzw6, hyw6⟩ := hzw6
              have hcDn : E + 1 ≤ Dn := by omega
              have hden : De < Dn := by omega
              have HUw6 : Hid (Below Dn w5 w6) := Lib.hid (by rw [← hw6, ← hDn]; exact (Below.refl _ _).alloc (Nat.le_refl _) _)
              have HBw6 : Hid (Below (E + 1) wd w6) := Lib.hid (HBw5.out.trans (HUw6.out.mono (by omega)))
              have HNw6 : Hid (SegsAt (fun b => b < D ∨ b = Dn) w6 (.slice (some ⟨Dn, 0, none⟩) 1 1) [⟨zt, ze⟩]) := Lib.hid (by rw [← hw6]; exact seg_lit hDn HZTB.out HEL.out (by omega))
              have HEw6 : Hid (OGT (fun b => b ≠ E) (E + 1) w6 (.slice (some ⟨De, 0, none⟩) 0 0) [] []) := Lib.hid (HEw5.out.below (by rw [hDn]; exact HUw6.out))
              rw [hw6, hDn]
              have HDDn := Lib.hid hDn
              clear hw6 hDn
              refine planT_do rfl (fun K hK => ?_)
              have HSP : Hid (SegsAt (fun b => b < D) w6 (.slice (some ⟨lb, lo, none⟩) k lc) (xw.segs.take k)) := Lib.hid ((HLX.out w6 HBw6.out).head (by rw [HLN.out]; omega) (by omega) (by unfold maxLen; omega))
              refine wp_app_ogw _ _ rfl rfl rfl rfl HEw6.out HSP.out (fun b hb => ⟨⟨by omega, by omega⟩, fun e => by have e1 : De = b := Option.some.inj e; omega⟩) (by rw [List.length_take, HLN.out]; simp; omega) (by omega) ?_
              intro v1 wT xs1 ho1 hb1 hg1 hk1
              have hzwT := hg1.size
              have HBwT : Hid (Below (E + 1) wd wT) := Lib.hid (HBw6.out.trans hb1)
              have HOwT : Hid (OGT (fun b => b ≠ E) (E + 1) wT v1 xs1 (xw.segs.take k)) := Lib.hid (by have h1 := ho1; rw [List.nil_append] at h1; exact h1)
              have HNwT : Hid (SegsAt (fun b => b < D ∨ b = Dn) wT (.slice (some ⟨Dn, 0, none⟩) 1 1) [⟨zt, ze⟩]) := Lib.hid (HNw6.out.cong (fun _ h => h) (fun b hb => hg1.block b (by omega) (fun e => by have e1 : De = b := Option.some.inj e.symm; omega)))
              have hne : v1.ownBlock ≠ some Dn := fun e => by
                rcases hk1 with h | h
                · have e1 : De = Dn := Option.some.inj (h.symm.trans e)
                  omega
                · have e1 : w6.heap.size = Dn := Option.some.inj (h.symm.trans e)
                  omega
              obtain ⟨va, vc, rfl⟩ := own_slice ho1.row
              have hl1 : ([] ++ (xw.segs.take k) : List Seg).length = k := by rw [List.nil_append, List.length_take, HLN.out]; omega
              rw [hl1] at HOwT ⊢
              rw [hl1] at hne
              clear ho1 hb1 hg1 hk1 hl1
              go_wp2_with fail
              refine hK _ _ (HSK.out _ HBwT.out) ?_
              clear hK K
              refine planT_do rfl (fun K hK => ?_)
              refine wp_app_ogw _ _ rfl rfl rfl rfl HOwT.out HNwT.out (fun b hb => ⟨⟨by rcases hb with hb | hb <;> omega, by rcases hb with hb | hb <;> omega⟩, fun e => by rcases hb with hb | hb; (have h1 := (own_lt HOwT.out.row e).1; omega); exact hne (hb ▸ e)⟩) (by rw [List.length_take, HLN.out]; simp; omega) (by omega) ?_
              intro v2 w7 xs2 ho2 hb2 _ _
              obtain ⟨vb, vd, rfl⟩ := own_slice ho2.row
              have hl2 : (xw.segs.take k ++ [⟨zt, ze⟩] : List Seg).length = k + 1 := by rw [List.length_append, List.length_take, HLN.out]; simp; omega
              rw [hl2] at ho2 ⊢
              have HO7 := Lib.hid ho2
              have HB7 := Lib.hid (HBwT.out.trans hb2)
              have hz7 := hb2.size
              clear ho2 hb2 hl2
              go_wp2_with fail
              refine hK _ _ (HSK.out _ HB7.out) ?_
              clear hK K
              refine planT_do rfl (fun K hK => ?_)
              have HSP2 : Hid (SegsAt (fun b => b < D) w7 (.slice (some ⟨lb, lo + k * 2, none⟩) (n - k) (lc - k)) (xw.segs.drop k)) := Lib.hid ((HLX.out w7 HB7.out).tail HLN.out (by omega) (by omega) (by unfold maxLen; omega))
              refine wp_app_ogw _ _ rfl rfl rfl rfl HO7.out HSP2.out (fun b hb => ⟨⟨by omega, by omega⟩, fun e => by have h1 := (own_lt HO7.out.row e).1; omega⟩) (by rw [List.length_append, List.length_take, List.length_drop, HLN.out]; simp; omega) (by omega) ?_
              intro v3 w8 xs3 ho3 hb3 _ _
              obtain ⟨ve, vf, rfl⟩ := own_slice ho3.row
              have hl3 : (xw.segs.take k ++ [⟨zt, ze⟩] ++ xw.segs.drop k : List Seg).length = n + 1 := by simp [HLN.out]; omega
              rw [hl3] at ho3 ⊢
              have HO8 := Lib.hid ho3
              have HB8 := Lib.hid (HB7.out.trans hb3)
              have hz8 := hb3.size
              clear ho3 hb3 hl3
              go_wp2_with fail
              refine hK _ _ (HSK.out _ HB8.out) ?_
              clear hK K
              iterate 1 (refine' planT_val rfl rfl (fun w' hS => ?_) ?_; rotate_left; (focus (first | rfl | (obtain ⟨hS1, hS2, hS3⟩ := hS; go_simp; rfl) | (obtain ⟨hS1, hS2, hS3⟩ := hS; go_simp; done))); simp only [Act.put, List.setIfInBounds_toArray, List.set_cons_zero, List.set_cons_succ])
              have HBX8 : Hid (w8.heap[E]? = some (.cells #[.int .u8 (xw.fr : Int), .int .u8 (xw.dst : Int), .int .u64 (xw.rf : Int), .slice (some ⟨lb, lo, none⟩) n lc] 41 (0, 0))) := Lib.hid ((HB8.out.block E (by omega)).trans HBXd.out)
              obtain ⟨⟨e0, e1, e2, e3⟩, f0, f1, f2, f3⟩ := cells4 HBX8.out
              refine planT_do rfl (fun K hK => ?_)
              go_wp2_with fail
              refine hK _ _ (HSK1.out _ ((HB8.out.mono (Nat.le_succ E)).setCell (Nat.le_refl E) _)) ?_
              clear hK K
              refine planT_nil ?_
              go_wp2_with fail
              go_meet
              case rel => exact ⟨ve, vf, Lib.hid ⟨HBDR.out.trans ((HB8.out.mono (Nat.le_succ E)).setCell (Nat.le_refl E) _), heap_setCell_same w8 E 3 _ _ _ HBX8.out, by simp only [World.size_setCell]; omega, (HO8.out.rest (S := fun b => b ≠ E ∧ b < w8.heap.size) (fun b h1 h2 => ⟨h1, h2⟩) (fun b hb => ⟨by have := (own_lt HO8.out.row hb).1; omega, (own_lt HO8.out.row hb).2⟩)).cong (fun b hb => by simp only [World.size_setCell]; exact hb.2) (fun b hb => heap_setCell_other _ _ _ _ (by simpa using hb.1))⟩⟩
          · refine planT_op rfl (fun K hK => ?_)
            go_wp2_with fail
            refine hK _ _ (HSK.out _ (HBwd.out.alloc (by omega) _)) ?_
            clear hK K
            have HEL : Hid (ElemsAt (fun b => b < D) wd (.slice za zm zc) ze) := Lib.hid (HZE.out wd HBwd.out)
            obtain ⟨Dn, hDn⟩ : ∃ Dn, wd.heap.size = Dn := ⟨_, rfl⟩
            obtain ⟨w5, hw5⟩ : ∃ w5, wd.alloc (.cells #[.string ztb, .slice za zm zc] 61) = w5 := ⟨_, rfl⟩
            have hzw5 : w5.heap.size ≤ Dn + 1 ∧ Dn + 1 ≤ w5.heap.size := by rw [← hw5, ← hDn]; simp
            obtain ⟨hzw5, hyw5⟩ := hzw5
            have hcDn : E + 1 ≤ Dn := by omega
            have HUw5 : Hid (Below Dn wd w5) := Lib.hid (by rw [← hw5, ← hDn]; exact (Below.refl _ _).alloc (Nat.le_refl _) _)
            have HBw5 : Hid (Below (E + 1) wd w5) := Lib.hid (HBwd.out.trans (HUw5.out.mono (by omega)))
            have HNw5 : Hid (SegsAt (fun b => b < D ∨ b = Dn) w5 (.slice (some ⟨Dn, 0, none⟩) 1 1) [⟨zt, ze⟩]) := Lib.hid (by rw [← hw5]; exact seg_lit hDn HZTB.out HEL.out (by omega))
            rw [hw5, hDn]
            have HDDn := Lib.hid hDn
            clear hw5 hDn
            refine planT_do rfl (fun K hK => ?_)
            go_wp2_with fail
            refine hK _ _ (HSK.out _ (HBw5.out.alloc (by omega) _)) ?_
            clear hK K
            obtain ⟨De, hDe⟩ : ∃ De, w5.heap.size = De := ⟨_, rfl⟩
            obtain ⟨w6, hw6⟩ : ∃ w6, w5.alloc (.cells #[] 61) = w6 := ⟨_, rfl⟩
            have hzw6 : w6.heap.size ≤ De + 1 ∧ De + 1 ≤ w6.heap.size := by rw [← hw6, ← hDe]; simp
            obtain ⟨hzw6, hyw6⟩ := hzw6
            have hcDe : E + 1 ≤ De := by omega
            have hden : Dn < De := by omega
            have HUw6 : Hid (Below De w5 w6) := Lib.hid (by rw [← hw6, ← hDe]; exact (Below.refl _ _).alloc (Nat.le_refl _) _)
            have HBw6 : Hid (Below (E + 1) wd w6) := Lib.hid (HBw5.out.trans (HUw6.out.mono (by omega)))
            have HEw6 : Hid (OGT (fun b => b ≠ E) (E + 1) w6 (.slice (some ⟨De, 0, none⟩) 0 0) [] []) := Lib.hid (by rw [← hw6, ← hDe]; exact OGT.erow (by omega))
            have HNw6 : Hid (SegsAt (fun b => b < D ∨ b = Dn) w6 (.slice (some ⟨Dn, 0, none⟩) 1 1) [⟨zt, ze⟩]) := Lib.hid (HNw5.out.cong (fun _ h => h) (fun b hb => HUw6.out.block b (by omega)))
            rw [hw6, hDe]
            have HDDe := Lib.hid hDe
            clear hw6 hDe
            refine planT_do rfl (fun K hK => ?_)
            have HSP : Hid (SegsAt (fun b => b < D) w6 (.slice (some ⟨lb, lo, none⟩) k lc) (xw.segs.take k)) := Lib.hid ((HLX.out w6 HBw6.out).head (by rw [HLN.out]; omega) (by omega) (by unfold maxLen; omega))
            refine wp_app_ogw _ _ rfl rfl rfl rfl HEw6.out HSP.out (fun b hb => ⟨⟨by omega, by omega⟩, fun e => by have e1 : De = b := Option.some.inj e; omega⟩) (by rw [List.length_take, HLN.out]; simp; omega) (by omega) ?_
            intro v1 wT xs1 ho1 hb1 hg1 hk1
            have hzwT := hg1.size
            have HBwT : Hid (Below (E + 1) wd wT) := Lib.hid (HBw6.out.trans hb1)
            have HOwT : Hid (OGT (fun b => b ≠ E) (E + 1) wT v1 xs1 (xw.segs.take k)) := Lib.hid (by have h1 := ho1; rw [List.nil_append] at h1; exact h1)
            have HNwT : Hid (SegsAt (fun b => b < D ∨ b = Dn) wT (.slice (some ⟨Dn, 0, none⟩) 1 1) [⟨zt, ze⟩]) := Lib.hid (HNw6.out.cong (fun _ h => h) (fun b hb => hg1.block b (by omega) (fun e => by have e1 : De = b := Option.some.inj e.symm; omega)))
            have hne : v1.ownBlock ≠ some Dn := fun e => by
              rcases hk1 with h | h
              · have e1 : De = Dn := Option.some.inj (h.symm.trans e)
                omega
              · have e1 : w6.heap.size = Dn := Option.some.inj (h.symm.trans e)
                omega
            obtain ⟨va, vc, rfl⟩ := own_slice ho1.row
            have hl1 : ([] ++ (xw.segs.take k) : List Seg).length = k := by rw [List.nil_append, List.length_take, HLN.out]; omega
            rw [hl1] at HOwT ⊢
            rw [hl1] at hne
            clear ho1 hb1 hg1 hk1 hl1
            go_wp2_with fail
            refine hK _ _ (HSK.out _ HBwT.out) ?_
            clear hK K
            refine planT_do rfl (fun K hK => ?_)
            refine wp_app_ogw _ _ rfl rfl rfl rfl HOwT.out HNwT.out (fun b hb => ⟨⟨by rcases hb with hb | hb <;> omega, by rcases hb with hb | hb <;> omega⟩, fun e => by rcases hb with hb | hb; (have h1 := (own_lt HOwT.out.row e).1; omega); exact hne (hb ▸ e)⟩) (by rw [List.length_take, HLN.out]; simp; omega) (by omega) ?_
            intro v2 w7 xs2 ho2 hb2 _ _
            obtain ⟨vb, vd, rfl⟩ := own_slice ho2.row
            have hl2 : (xw.segs.take k ++ [⟨zt, ze⟩] : List Seg).length = k + 1 := by rw [List.length_append, List.length_take, HLN.out]; simp; omega
            rw [hl2] at ho2 ⊢
            have HO7 := Lib.hid ho2
            have HB7 := Lib.hid (HBwT.out.trans hb2)
            have hz7 := hb2.size
            clear ho2 hb2 hl2
            go_wp2_with fail
            refine hK _ _ (HSK.out _ HB7.out) ?_
            clear hK K
            refine planT_do rfl (fun K hK => ?_)
            have HSP2 : Hid (SegsAt (fun b => b < D) w7 (.slice (some ⟨lb, lo + k * 2, none⟩) (n - k) (lc - k)) (xw.segs.drop k)) := Lib.hid ((HLX.out w7 HB7.out).tail HLN.out (by omega) (by omega) (by unfold maxLen; omega))
            refine wp_app_ogw _ _ rfl rfl rfl rfl HO7.out HSP2.out (fun b hb => ⟨⟨by omega, by omega⟩, fun e => by have h1 := (own_lt HO7.out.row e).1; omega⟩) (by rw [List.length_append, List.length_take, List.length_drop, HLN.out]; simp; omega) (by omega) ?_
            intro v3 w8 xs3 ho3 hb3 _ _
            obtain ⟨ve, vf, rfl⟩ := own_slice ho3.row
            have hl3 : (xw.segs.take k ++ [⟨zt, ze⟩] ++ xw.segs.drop k : List Seg).length = n + 1 := by simp [HLN.out]; omega
            rw [hl3] at ho3 ⊢
            have HO8 := Lib.hid ho3
            have HB8 := Lib.hid (HB7.out.trans hb3)
            have hz8 := hb3.size
            clear ho3 hb3 hl3
            go_wp2_with fail
            refine hK _ _ (HSK.out _ HB8.out) ?_
            clear hK K
            iterate 1 (refine' planT_val rfl rfl (fun w' hS => ?_) ?_; rotate_left; (focus (first | rfl | (obtain ⟨hS1, hS2, hS3⟩ := hS; go_simp; rfl) | (obtain ⟨hS1, hS2, hS3⟩ := hS; go_simp; done))); simp only [Act.put, List.setIfInBounds_toArray, List.set_cons_zero, List.set_cons_succ])
            have HBX8 : Hid (w8.heap[E]? = some (.cells #[.int .u8 (xw.fr : Int), .int .u8 (xw.dst : Int), .int .u64 (xw.rf : Int), .slice (some ⟨lb, lo, none⟩) n lc] 41 (0, 0))) := Lib.hid ((HB8.out.block E (by omega)).trans HBXd.out)
            obtain ⟨⟨e0, e1, e2, e3⟩, f0, f1, f2, f3⟩ := cells4 HBX8.out
            refine planT_do rfl (fun K hK => ?_)
            go_wp2_with fail
            refine hK _ _ (HSK1.out _ ((HB8.out.mono (Nat.le_succ E)).setCell (Nat.le_refl E) _)) ?_
            clear hK K
            refine planT_nil ?_
            go_wp2_with fail
            go_meet
            case rel => exact ⟨ve, vf, Lib.hid ⟨HBDR.out.trans ((HB8.out.mono (Nat.le_succ E)).setCell (Nat.le_refl E) _), heap_setCell_same w8 E 3 _ _ _ HBX8.out, by simp only [World.size_setCell]; omega, (HO8.out.rest (S := fun b => b ≠ E ∧ b < w8.heap.size) (fun b h1 h2 => ⟨h1, h2⟩) (fun b hb => ⟨by have := (own_lt HO8.out.row hb).1; omega, (own_lt HO8.out.row hb).2⟩)).cong (fun b hb => by simp only [World.size_setCell]; exact hb.2) (fun b hb => heap_setCell_other _ _ _ _ (by simpa using hb.1))⟩⟩
        case rest => as_aux_lemma =>
          obtain ⟨vg, vh, hcc⟩ := hcut
          obtain ⟨wm, hwm⟩ : ∃ wm, wm = wc := ⟨_, rfl⟩
          rw [← hwm] at hcc ⊢
          clear hwm
          obtain ⟨HB10', HMB10', hz10, HMS10'⟩ := hcc.out
          have HB10 := Lib.hid HB10'
          have HMB10 := Lib.hid HMB10'
          have HMS10 := Lib.hid HMS10'
          have HLS10 : Hid (SegsAt (fun b => b < E) wm (.slice ve (n - 1) vf) (xw.segs.take k ++ xw.segs.drop (k + 1))) := Lib.hid (HLS8.out.cong (fun _ h => h) (fun b hb => HB10.out.block b hb))
          have HLB10 : Hid (wm.heap[C]? = some (.cells #[.int .u8 (xw.fr : Int), .int .u8 (xw.dst : Int), .int .u64 (xw.rf : Int), .slice ve (n - 1) vf] 41 (0, 0))) := Lib.hid ((HB10.out.block C (by omega)).trans HLB8.out)
          clear hcc HB10' HMB10' HMS10'
          have HBW : Hid (Below B W wm) := Lib.hid (HB3.out.trans ((HB8.out.trans (HB10.out.mono (by omega))).mono (by omega)))
          have hlim := wrapM_lim HX.out
          obtain ⟨P1, hP1⟩ : ∃ P1, packetM ⟨xw.fr, xw.dst, xw.rf, xw.segs.take k ++ xw.segs.drop (k + 1)⟩ = P1 := ⟨_, rfl⟩
          obtain ⟨q1, f1⟩ := P1
          have hf1 := msg_less HX.out (k := k) (by rw [HLN.out]; exact hkn)
          rw [hP1] at hf1
          obtain ⟨P2, hP2⟩ : ∃ P2, packetM ⟨xw.fr, xw.dst, xw.rf, xw.segs.take k ++ [⟨zt, ze⟩] ++ xw.segs.drop k⟩ = P2 := ⟨_, rfl⟩
          obtain ⟨q2, f2⟩ := P2
          have hf2 : f2 = 101 := by have h1 := msg_more HX.out HZL.out; rw [hP2] at h1; exact h1
          subst hf2
          simp only at hf1
          have HP1 := Lib.hid (mPacket_is (x := ⟨xw.fr, xw.dst, xw.rf, xw.segs.take k ++ xw.segs.drop (k + 1)⟩) (HV.out.on HBW.out (by rw [HBQ.out]; exact Nat.le_refl _)) HLS10.out (fun b hb => by omega) (lim_mem hlim (fun s hs => by rcases List.mem_append.1 hs with h | h; exact List.mem_of_mem_take h; exact List.mem_of_mem_drop h)) hP1)
          have HP2 := Lib.hid (fun wx (hb : Below (E + 1) wm wx) (hs : SegsAt (fun b => b < wx.heap.size) wx (.slice vg (n + 1) vh) (xw.segs.take k ++ [⟨zt, ze⟩] ++ xw.segs.drop k)) => mPacket_is (w := wx) (x := ⟨xw.fr, xw.dst, xw.rf, xw.segs.take k ++ [⟨zt, ze⟩] ++ xw.segs.drop k⟩) (HV.out.on (HBW.out.trans (hb.mono (by omega))) (by rw [HBQ.out]; exact Nat.le_refl _)) hs (fun b hb => hb) (lim_mem hlim (fun s hs => by rcases List.mem_append.1 hs with h | h; (rcases List.mem_append.1 h with h | h; exact List.mem_of_mem_take h; rw [List.mem_singleton.1 h]; exact List.mem_of_getElem? HZL.out); exact List.mem_of_mem_drop h)) hP2)
          unfold MPQ wv pktA msgA at HP1 HP2
          simp only [List.cons_append, List.nil_append] at HP1 HP2
          clear hlim hP1 hP2 HZL
          obtain ⟨⟨d0, d1, d2, d3⟩, _⟩ := cells4 HLB10.out
          go_upto_region 15 with (go_at_call 17; refine HP1.out.mono ?_; rintro e w11 ⟨rfl, hb⟩; have HB11 := Lib.hid hb; clear hb)
          generalize hw12 : World.alloc w11 _ = w12
          have hz11 := HB11.out.size
          have HB12 : Hid (Below wm.heap.size wm w12) := Lib.hid (by rw [← hw12]; exact HB11.out.alloc hz11 _)
          clear hw12 d0 d1 d2 d3 HP1
          have HP3 := Lib.hid (HP2.out w12 (HB12.out.mono hz10) (HMS10.out.cong (fun b hb => by have := HB12.out.size; omega) (fun b hb => HB12.out.block b hb)))
          obtain ⟨⟨d0, d1, d2, d3⟩, _⟩ := cells4 ((HB12.out.block E (by omega)).trans HMB10.out)
          go_upto_region 16 with (go_at_call 17; refine HP3.out.mono ?_; rintro e w13 ⟨rfl, hb⟩; have HB13 := Lib.hid hb; clear hb)
          generalize hw14 : World.alloc w13 _ = w14
          have hz12 := HB12.out.size
          have hz13 := HB13.out.size
          have HB14 : Hid (Below B W w14) := Lib.hid (by rw [← hw14]; exact HBW.out.trans ((HB12.out.mono (by omega)).trans ((HB13.out.mono (by omega)).alloc (by omega) _)))
          have HZ14 : Hid (B ≤ w14.heap.size) := Lib.hid (by rw [← hw14]; simp; omega)
          clear hw14
          rcases hf1 with rfl | rfl
          all_goals
            go_wp2_with (go_at_call 14; refine (tells_any _ (HV.out.on HB14.out (by rw [HBQ.out]; exact Nat.le_refl _))).mono ?_; rintro e w15 ⟨rfl, hb⟩; have HB15 := Lib.hid (HB14.out.trans (hb.mono HZ14.out)); clear hb)
            go_ret
            exact ⟨rfl, HB15.out⟩
  · skip
    have i0 : (kw != 0) = true := by rw [bne_iff_ne]; exact hk
    go_wp2_with (go_at_call 14; refine (tells_any _ (HV.out.on HB3.out (by rw [HBQ.out]; exact Nat.le_refl _))).mono ?_; rintro e w15 ⟨rfl, hb⟩; have HB15 := Lib.hid (HB3.out.trans (hb.mono (by omega))); clear hb)
    go_ret
    exact ⟨rfl, HB15.out⟩
end Go.Proofs.YtfbiffdldfkmpaaGreatDoor
