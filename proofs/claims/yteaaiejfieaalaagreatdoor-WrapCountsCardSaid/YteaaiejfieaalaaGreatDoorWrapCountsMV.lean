/-
  WrapCountsV: the walk of WrapCounts for every input. No condition but the laid variables.
-/
import Derived.Test.YteaaiejfieaalaaGreatDoorMg10
import Derived.Test.YteaaiejfieaalaaGreatDoorMg4
import Derived.Test.YteaaiejfieaalaaGreatDoorMg11
import Derived.IntWalk
namespace Go.Proofs.YteaaiejfieaalaaGreatDoor
open Go.RowKit
set_option maxRecDepth 100000 in
set_option maxHeartbeats 8000000 in
theorem wrapCounts_walk {W : World} (hv : VarsOk W) (x : WD) (v : Value) (hb : x.fr < 256 ∧ x.dst < 256 ∧ x.rf < 18446744073709551616) (h : SegsAt (Low W) W v x.segs) (ia : Int) (wa : (Lit.int .i64 ia).wf = true) (ib : Int) (wb : (Lit.int .u64 ib).wf = true) :
    Calls Tryz.prog 6 #[wv x v, .int .i64 ia, .int .u64 ib] W fun e w' => e = .returned (.bool true) ∧ Below W.heap.size W w' := by
  obtain ⟨rf, rfl, hrf⟩ : ∃ n : Nat, ib = (n : Int) ∧ n < 18446744073709551616 := by
    have r : (0 : Int) ≤ ib ∧ ib ≤ 18446744073709551615 := (Lit.wf_int_iff _ _).1 wb
    exact ⟨ib.toNat, by omega, by omega⟩
  have hia : (-9223372036854775808 : Int) ≤ ia ∧ ia ≤ 9223372036854775807 := (Lit.wf_int_iff _ _).1 wa
  have HRF := Lib.hid hrf
  obtain ⟨B, hB⟩ : ∃ B, W.heap.size = B := ⟨_, rfl⟩
  have HBQ := Lib.hid hB
  have HV := Lib.hid hv
  obtain ⟨w1, hw1⟩ : ∃ w1, W.alloc (.cells #[.int .u8 (x.fr : Int), .int .u8 (x.dst : Int), .int .u64 (x.rf : Int), v] 25) = w1 := ⟨_, rfl⟩
  have hz1 : w1.heap.size = B + 1 := by rw [← hw1]; simp [hB]
  have HB1 : Hid (Below B W w1) := Lib.hid (by rw [← hw1, ← hB]; exact (Below.refl _ _).alloc (Nat.le_refl _) _)
  have HX : Hid (BoxAt w1 B x v) := Lib.hid (by rw [← hw1, ← hB]; exact BoxAt.new _ _ _)
  have HS1 : Hid (SegsAt (fun k => k < B) w1 v x.segs) := Lib.hid (h.any HB1.out (fun k hk => ⟨by rw [← hB]; exact hk, by rw [← hB]; exact hk⟩))
  have HBD := Lib.hid hb
  have HHV := Lib.hid (wheavy_any x v w1 HS1.out (fun k hk => by rw [hz1]; omega))
  have HW1 := Lib.hid hw1
  have HZ1 := Lib.hid hz1
  obtain ⟨ao, cap, rfl, hc1, hc2⟩ := h.form
  unfold maxLen at hc2
  rw [hB]
  obtain ⟨d0, d1, d2, d3⟩ := HX.out.cells
  clear h hv hB hw1 hz1 hb wa wb hrf
  unfold wv at HHV ⊢
  go_enter Tryz.func6, Tryz.ntmps6
  go_upto_region 1 with fail
  rw [HW1.out, HBQ.out]
  obtain ⟨n, hn⟩ : ∃ n, x.segs.length = n := ⟨_, rfl⟩
  have HN := Lib.hid hn
  rw [hn] at HHV HX HS1 d3 hc1 ⊢
  clear hn
  by_cases h60 : 60 < n
  · skip
    have e60 : decide ((60 : Int) < (n : Int)) = true := by rw [decide_eq_true_eq]; omega
    go_wp2_with fail
    refine HHV.out.mono ?_
    rintro e w2 ⟨⟨bv, rfl, hlt⟩, hb2⟩
    rw [HZ1.out] at hb2
    have HB2 : Hid (Below B W w2) := Lib.hid (HB1.out.trans (hb2.mono (by omega)))
    have q3 := ((HX.out.on hb2 (by omega)).cells).2.2.2
    clear hlt hb2 d0 d1 d2 d3
    cases bv with
    | true =>
      go_wp2_with fail
      go_ret
      exact ⟨rfl, HB2.out⟩
    | false =>
      go_wp2_with fail
      go_ret
      exact ⟨rfl, HB2.out⟩
  have e60 : decide ((60 : Int) < (n : Int)) = false := by rw [decide_eq_false_iff_not]; omega
  go_wp2_with fail
  refine HHV.out.mono ?_
  rintro e w2 ⟨⟨bv, rfl, hlt⟩, hb2⟩
  rw [HZ1.out] at hb2
  have HB2 := Lib.hid hb2
  clear hb2 d0 d1 d2 d3 HHV
  cases bv with
  | true =>
    clear hlt
    go_wp2_with fail
    go_ret
    exact ⟨rfl, HB1.out.trans (HB2.out.mono (by omega))⟩
  | false =>
    have HP := Lib.hid (hlt rfl).print2
    clear hlt e60
    have hn60 : n ≤ 60 := by omega
    clear h60
    have HX2 : Hid (BoxAt w2 B x (.slice ao n cap)) := Lib.hid (HX.out.on HB2.out (by omega))
    obtain ⟨d0, d1, d2, d3⟩ := HX2.out.cells
    have hz2 := HB2.out.size
    rw [HZ1.out] at hz2
    obtain ⟨R, hR⟩ : ∃ R, wrapPrintE x = R := ⟨_, rfl⟩
    obtain ⟨rs, rn⟩ := R
    have HV2 := Lib.hid (HV.out.on (HB1.out.trans (HB2.out.mono (by omega))) (by rw [HBQ.out]; exact Nat.le_refl _))
    have HS2 : Hid (SegsAt (fun k => k < B) w2 (.slice ao n cap) x.segs) := Lib.hid (HS1.out.any HB2.out (fun k hk => ⟨by omega, hk⟩))
    have HPR := Lib.hid (wPrint_is HV2.out HBD.out.1 HBD.out.2.1 HBD.out.2.2 HS2.out (fun k hk => by omega) (fun _ => by have := HP.out; omega) hR)
    have HR := Lib.hid hR
    obtain ⟨ra, hra⟩ : ∃ ra : ByteArray, (⟨rs.toArray⟩ : ByteArray) = ra := ⟨_, rfl⟩
    have HRAD := Lib.hid (show ra.data.toList = rs by rw [← hra])
    unfold WTQ wv at HPR
    simp only [sv, hra] at HPR
    clear hra hR
    go_upto_region 4 with ((with_reducible refine HPR.out.mono ?_); rintro e w3 ⟨rfl, hb3⟩; have HB3 := Lib.hid (HB2.out.trans (hb3.mono hz2)); clear hb3)
    have hz3 := HB3.out.size
    rw [HZ1.out] at hz3
    have HBW3 := Lib.hid (HB1.out.trans (HB3.out.mono (by omega)))
    have HV3 := Lib.hid (HV.out.on HBW3.out (by rw [HBQ.out]; exact Nat.le_refl _))
    have hz3' : B ≤ w3.heap.size := by omega
    clear d0 d1 d2 d3 HPR HV2 HS2
    by_cases hrn : rn = 0
    · subst hrn
      have HOK := Lib.hid (wok HBD.out.2.2 HR.out)
      have hrs := HOK.out.len
      rw [← HRAD.out] at hrs
      have hrs' : ra.size ≤ 65536 := by simpa using hrs
      obtain ⟨L, hL⟩ : ∃ L, wrapL x.fr x.dst x.rf x.segs.length x.rf x.segs = L := ⟨_, rfl⟩
      have hpe : parseE ra.data.toList = (L, 0, 0) := by rw [HRAD.out, ← hL]; exact (wrap_back HBD.out.2.2 HR.out).2.1
      have hLn : L.length = n + 2 := by rw [← hL, ← HN.out]; simp [wrapL]
      rw [hL] at HOK
      have HLN := Lib.hid hLn
      have HPA := Lib.hid (parse_any ra hrs' w3)
      rw [hpe] at HPA
      simp only at HPA
      have HX3 : Hid (BoxAt w3 B x (.slice ao n cap)) := Lib.hid (HX.out.on HB3.out (by omega))
      obtain ⟨d0, d1, d2, d3⟩ := HX3.out.cells
      clear hL hpe hrs hrs' hLn
      go_upto_region 7 with ((with_reducible refine HPA.out.mono ?_); rintro e w4 ⟨lv, rfl, hs4, hb4⟩; obtain ⟨la, lc, rfl, hlc1, hlc2⟩ := hs4.form; rw [HLN.out] at hlc1 ⊢; have HS4 := Lib.hid hs4; have HB4 := Lib.hid hb4; clear hs4 hb4)
      rw [HLN.out] at HS4
      unfold maxLen at hlc2
      have HB5 := Lib.hid (HB3.out.trans (HB4.out.mono hz3))
      have HX4 : Hid (BoxAt w4 B x (.slice ao n cap)) := Lib.hid (HX.out.on HB5.out (by omega))
      have hz4 := HB4.out.size
      clear d0 d1 d2 d3 HPA
      obtain ⟨d0, d1, d2, d3⟩ := HX4.out.cells
      go_upto_region 10 with fail
      obtain ⟨tt, htt⟩ : ∃ tt, ia.tmod ((n : Int) + 1) = tt := ⟨_, rfl⟩
      have hab : tt.natAbs < n + 1 := by
        have h1 := Int.natAbs_tmod ia ((n : Int) + 1)
        rw [htt] at h1
        rw [h1]
        have h2 : ((n : Int) + 1).natAbs = n + 1 := by omega
        rw [h2]
        exact Nat.mod_lt _ (by omega)
      rw [htt]
      have t1 : -(n : Int) ≤ tt := by omega
      have t2 : tt ≤ (n : Int) := by omega
      clear htt hab hia
      go_upto_if 80 with fail
      go_cut [12] (fun kv wr => ∃ k : Nat, k ≤ n ∧ kv = .int .i64 (k : Int) ∧ Hid (wr = w4))
      case first => as_aux_lemma =>
        by_cases ht0 : tt < 0
        · have e0 : decide (tt < 0) = true := by rw [decide_eq_true_eq]; exact ht0
          go_wp2_with fail
          go_meet
          case rel => exact ⟨(tt + n + 1).toNat, by omega, by rw [Int.toNat_of_nonneg (by omega)], Lib.hid rfl⟩
        · have e0 : decide (tt < 0) = false := by rw [decide_eq_false_iff_not]; exact ht0
          go_wp2_with fail
          go_meet
          case rel => exact ⟨tt.toNat, by omega, by rw [Int.toNat_of_nonneg (by omega)], Lib.hid rfl⟩
      case rest => as_aux_lemma =>
        obtain ⟨k, hk, rfl, hw⟩ := hcut
        rw [hw.out]
        clear t1 t2 hw
        obtain ⟨s0, hs0⟩ : ∃ s0, L[0]? = some s0 := ⟨_, List.getElem?_eq_getElem (by rw [HLN.out]; omega)⟩
        obtain ⟨lb, lo, _, rfl, hlb, _, _, _⟩ := HS4.out.get hs0
        obtain ⟨C, hC⟩ : ∃ C, w4.heap.size = C := ⟨_, rfl⟩
        have HCQ := Lib.hid hC
        have hBC : B < C := by omega
        have HBW := Lib.hid (HB1.out.trans (HB5.out.mono (Nat.le_succ B)))
        have HLX : Hid (∀ wx, Below C w4 wx → SegsAt (fun b => b < C) wx (.slice (some ⟨lb, lo, none⟩) (n + 2) lc) L) := Lib.hid (fun wx hb => HS4.out.any hb (fun b hb => ⟨by omega, by omega⟩))
        have HSX : Hid (∀ wx, Below C w4 wx → SegsAt (fun b => b < B) wx (.slice ao n cap) x.segs) := Lib.hid (fun wx hb => HS1.out.any (HB5.out.trans (hb.mono (by omega))) (fun b hb => ⟨by omega, hb⟩))
        have HXX : Hid (∀ wx, Below C w4 wx → BoxAt wx B x (.slice ao n cap)) := Lib.hid (fun wx hb => HX4.out.on hb hBC)
        have HBX : Hid (∀ wx, Below C w4 wx → Below B W wx) := Lib.hid (fun wx hb => HBW.out.trans (hb.mono (by omega)))
        have HVX : Hid (∀ wx, Below C w4 wx → VarsOk wx) := Lib.hid (fun wx hb => HV.out.on (HBX.out wx hb) (by rw [HBQ.out]; exact Nat.le_refl _))
        clear hs0 hlb hC d0 d1 d2 d3 HS4 HX4 HS1 HX HB2 HB3 HB4 HB5 hz2 hz3 hz4 hz3' HX3 HX2 HV3 HBW3
        have HXW := Lib.hid (HXX.out w4 (Below.refl _ _))
        go_upto_region 12 with fail
        go_cut [13] (fun mv wr => ∃ va vc, mv = .slice va (n + 3) vc ∧ Hid (Below C w4 wr ∧ SegsAt (fun b => b < wr.heap.size) wr (.slice va (n + 3) vc) (L.take (1 + k) ++ [⟨[78, 69, 87], []⟩] ++ L.drop (1 + k))))
        case first => as_aux_lemma =>
          obtain ⟨wd, hwd⟩ : ∃ wd, w4.drew = wd := ⟨_, rfl⟩
          have hzwd : wd.heap.size ≤ C := by rw [← hwd]; exact Nat.le_of_eq HCQ.out
          have hywd : C ≤ wd.heap.size := by rw [← hwd]; exact Nat.le_of_eq HCQ.out.symm
          have HBDR : Hid (Below C w4 wd) := Lib.hid (by rw [← hwd]; exact (Below.refl _ _).drew)
          have HBwd : Hid (Below C wd wd) := Lib.hid (Below.refl _ _)
          have HLX0 := HLX
          have HLX : Hid (∀ wx, Below C wd wx → SegsAt (fun b => b < C) wx (.slice (some ⟨lb, lo, none⟩) (n + 2) lc) L) := Lib.hid (fun wx hb => HLX0.out wx (HBDR.out.trans hb))
          have g1 : IntKind.i64.wrap (1 + (k : Int)) = 1 + (k : Int) := IntWalk.i64_in _ (by omega)
          have g2 : (0 : Int) ≤ 1 + (k : Int) := by omega
          have g3 : (1 + (k : Int)).toNat = 1 + k := by omega
          have g4 : 1 + (k : Int) ≤ (lc : Int) := by omega
          have g5 : 1 + (k : Int) ≤ (n : Int) + 2 := by omega
          have g6 : ¬ lc = 1 + k := by omega
          refine wp_region_planT (.val 1 (.val 2 (.val 3 (.val 4 (.val 6 (.val 9 (.val 10 (.val 11 (.val 12 (.two 0 (.two 5 (.one 7 (.one 8 (.one 13 (.val 14 .nil)))) 7 (.one 5 (.one 8 (.one 13 (.val 14 .nil))))) 7 (.one 0 (.one 5 (.one 8 (.one 13 (.val 14 .nil))))))))))))))) (fun _ => True) (by kernel_rfl) (by kernel_rfl) trivial ?_
          rw [hwd]
          clear hwd
          iterate 3 (refine' planT_val rfl rfl (fun w' hS => ?_) ?_; rotate_left; (focus (go_simp; rfl)); simp only [Act.put, List.setIfInBounds_toArray, List.set_cons_zero, List.set_cons_succ])
          refine planT_val (v := .slice (some ⟨lb, lo, none⟩) (1 + k) lc) rfl rfl (fun w' hS => by go_simp) ?_
          simp only [Act.put, List.setIfInBounds_toArray, List.set_cons_zero, List.set_cons_succ]
          iterate 4 (refine' planT_val rfl rfl (fun w' hS => ?_) ?_; rotate_left; (focus (go_simp; rfl)); simp only [Act.put, List.setIfInBounds_toArray, List.set_cons_zero, List.set_cons_succ])
          refine planT_val (v := .slice (some ⟨lb, lo + (1 + k) * 2, none⟩) (n + 2 - (1 + k)) (lc - (1 + k))) rfl rfl (fun w' hS => by go_simp) ?_
          simp only [Act.put, List.setIfInBounds_toArray, List.set_cons_zero, List.set_cons_succ]
          clear g1 g2 g3 g4 g5 g6 HLX0
          refine planT_two ?_ ?_
          · refine planT_op rfl (fun K hK => ?_)
            go_wp2_with fail
            refine hK _ _ (trivial) ?_
            clear hK K
            obtain ⟨De, hDe⟩ : ∃ De, wd.heap.size = De := ⟨_, rfl⟩
            obtain ⟨w5, hw5⟩ : ∃ w5, wd.alloc (.cells #[] 36) = w5 := ⟨_, rfl⟩
            have hzw5 : w5.heap.size ≤ De + 1 ∧ De + 1 ≤ w5.heap.size := by rw [← hw5, ← hDe]; simp
            obtain ⟨hzw5, hyw5⟩ := hzw5
            have hcDe : C ≤ De := by omega
            have HUw5 : Hid (Below De wd w5) := Lib.hid (by rw [← hw5, ← hDe]; exact (Below.refl _ _).alloc (Nat.le_refl _) _)
            have HBw5 : Hid (Below C wd w5) := Lib.hid (HBwd.out.trans (HUw5.out.mono (by omega)))
            have HEw5 : Hid (OG C w5 (.slice (some ⟨De, 0, none⟩) 0 0) [] []) := Lib.hid (by rw [← hw5, ← hDe]; exact OG.erow (by omega))
            rw [hw5, hDe]
            have HDDe := Lib.hid hDe
            clear hw5 hDe
            refine planT_two ?_ ?_
            · refine planT_op rfl (fun K hK => ?_)
              have HSP : Hid (SegsAt (fun b => b < C) w5 (.slice (some ⟨lb, lo, none⟩) (1 + k) lc) (L.take (1 + k))) := Lib.hid ((HLX.out w5 HBw5.out).head (by rw [HLN.out]; omega) (by omega) (by unfold maxLen; omega))
              refine wp_app_ogy _ _ rfl rfl rfl rfl HEw5.out HSP.out (fun b hb => ⟨by omega, fun e => by have e1 : De = b := Option.some.inj e; omega⟩) (by rw [List.length_take, HLN.out]; simp; omega) (by omega) ?_
              intro v1 w6 xs1 ho1 hb1 hg1 hk1
              have hzw6 := hg1.size
              have HBw6 : Hid (Below C wd w6) := Lib.hid (HBw5.out.trans hb1)
              have HOw6 : Hid (OG C w6 v1 xs1 (L.take (1 + k))) := Lib.hid (by have h1 := ho1; rw [List.nil_append] at h1; exact h1)
              obtain ⟨va, vc, rfl⟩ := own_slice ho1.row
              have hl1 : ([] ++ (L.take (1 + k)) : List Seg).length = 1 + k := by rw [List.nil_append, List.length_take, HLN.out]; omega
              rw [hl1] at HOw6 ⊢
              clear ho1 hb1 hg1 hk1 hl1
              go_wp2_with fail
              refine hK _ _ (trivial) ?_
              clear hK K
              refine planT_do rfl (fun K hK => ?_)
              go_wp2_with fail
              refine hK _ _ (trivial) ?_
              clear hK K
              have HEL : Hid (ElemsAt (fun b => b < C) w6 (.slice none 0 0) []) := Lib.hid (ElemsAt.nil _ _)
              obtain ⟨Dn, hDn⟩ : ∃ Dn, w6.heap.size = Dn := ⟨_, rfl⟩
              obtain ⟨wT, hwT⟩ : ∃ wT, w6.alloc (.cells #[.string ⟨#[78, 69, 87]⟩, .slice none 0 0] 36) = wT := ⟨_, rfl⟩
              have hzwT : wT.heap.size ≤ Dn + 1 ∧ Dn + 1 ≤ wT.heap.size := by rw [← hwT, ← hDn]; simp
              obtain ⟨hzwT, hywT⟩ := hzwT
              have hcDn : C ≤ Dn := by omega
              have hden : De < Dn := by omega
              have HUwT : Hid (Below Dn w6 wT) := Lib.hid (by rw [← hwT, ← hDn]; exact (Below.refl _ _).alloc (Nat.le_refl _) _)
              have HBwT : Hid (Below C wd wT) := Lib.hid (HBw6.out.trans (HUwT.out.mono (by omega)))
              have HNwT : Hid (SegsAt (fun b => b < C ∨ b = Dn) wT (.slice (some ⟨Dn, 0, none⟩) 1 1) [⟨[78, 69, 87], []⟩]) := Lib.hid (by rw [← hwT]; exact seg_lit hDn rfl HEL.out (by omega))
              have HOwT : Hid (OG C wT (.slice va (1 + k) vc) xs1 (L.take (1 + k))) := Lib.hid (HOw6.out.below (by rw [hDn]; exact HUwT.out))
              have hne : (Value.slice va (1 + k) vc).ownBlock ≠ some Dn := fun e => by have h1 := (own_lt HOw6.out.row e).2; omega
              rw [hwT, hDn]
              have HDDn := Lib.hid hDn
              clear hwT hDn
              obtain ⟨D1, hD1⟩ : ∃ D1, wT.heap.size = D1 := ⟨_, rfl⟩
              refine planT_do rfl (fun K hK => ?_)
              refine wp_app_ogy _ _ rfl rfl rfl rfl HOwT.out HNwT.out (fun b hb => ⟨by omega, fun e => by rcases hb with hb | hb; (have h1 := (own_lt HOwT.out.row e).1; omega); exact hne (hb ▸ e)⟩) (by rw [List.length_take, HLN.out]; simp; omega) (by omega) ?_
              intro v2 w7 xs2 ho2 hb2 _ _
              obtain ⟨vb, vd, rfl⟩ := own_slice ho2.row
              have hl2 : (L.take (1 + k) ++ [⟨[78, 69, 87], []⟩] : List Seg).length = 1 + k + 1 := by rw [List.length_append, List.length_take, HLN.out]; simp; omega
              rw [hl2] at ho2 ⊢
              have HO7 := Lib.hid ho2
              have HB7 := Lib.hid (HBwT.out.trans hb2)
              have hz7 := hb2.size
              clear ho2 hb2 hl2
              go_wp2_with fail
              refine hK _ _ trivial ?_
              clear hK K
              refine planT_do rfl (fun K hK => ?_)
              have HSP2 : Hid (SegsAt (fun b => b < C) w7 (.slice (some ⟨lb, lo + (1 + k) * 2, none⟩) (n + 2 - (1 + k)) (lc - (1 + k))) (L.drop (1 + k))) := Lib.hid ((HLX.out w7 HB7.out).tail HLN.out (by omega) (by omega) (by unfold maxLen; omega))
              refine wp_app_ogy _ _ rfl rfl rfl rfl HO7.out HSP2.out (fun b hb => ⟨by omega, fun e => by have h1 := (own_lt HO7.out.row e).1; omega⟩) (by rw [List.length_append, List.length_take, List.length_drop, HLN.out]; simp; omega) (by omega) ?_
              intro v3 w8 xs3 ho3 hb3 _ _
              obtain ⟨ve, vf, rfl⟩ := own_slice ho3.row
              have hl3 : (L.take (1 + k) ++ [⟨[78, 69, 87], []⟩] ++ L.drop (1 + k) : List Seg).length = n + 3 := by simp [HLN.out]; omega
              rw [hl3] at ho3 ⊢
              have HO8 := Lib.hid ho3
              have HB8 := Lib.hid (HB7.out.trans hb3)
              clear ho3 hb3 hl3
              go_wp2_with fail
              refine hK _ _ trivial ?_
              clear hK K
              refine planT_val (v := .slice ve (n + 3) vf) rfl rfl (fun w' hS => by first | rfl | (go_simp; done)) ?_
              simp only [Act.put, List.setIfInBounds_toArray, List.set_cons_zero, List.set_cons_succ]
              refine planT_nil ?_
              go_wp2_with fail
              go_meet
              case rel => exact ⟨ve, vf, rfl, Lib.hid ⟨HBDR.out.trans HB8.out, HO8.out.rest⟩⟩
            · refine planT_op rfl (fun K hK => ?_)
              go_wp2_with fail
              refine hK _ _ (trivial) ?_
              clear hK K
              have HEL : Hid (ElemsAt (fun b => b < C) w5 (.slice none 0 0) []) := Lib.hid (ElemsAt.nil _ _)
              obtain ⟨Dn, hDn⟩ : ∃ Dn, w5.heap.size = Dn := ⟨_, rfl⟩
              obtain ⟨w6, hw6⟩ : ∃ w6, w5.alloc (.cells #[.string ⟨#[78, 69, 87]⟩, .slice none 0 0] 36) = w6 := ⟨_, rfl⟩
              have hzw6 : w6.heap.size ≤ Dn + 1 ∧ Dn + 1 ≤ w6.heap.size := by rw [← hw6, ← hDn]; simp
              obtain ⟨hzw6, hyw6⟩ := hzw6
              have hcDn : C ≤ Dn := by omega
              have hden : De < Dn := by omega
              have HUw6 : Hid (Below Dn w5 w6) := Lib.hid (by rw [← hw6, ← hDn]; exact (Below.refl _ _).alloc (Nat.le_refl _) _)
              have HBw6 : Hid (Below C wd w6) := Lib.hid (HBw5.out.trans (HUw6.out.mono (by omega)))
              have HNw6 : Hid (SegsAt (fun b => b < C ∨ b = Dn) w6 (.slice (some ⟨Dn, 0, none⟩) 1 1) [⟨[78, 69, 87], []⟩]) := Lib.hid (by rw [← hw6]; exact seg_lit hDn rfl HEL.out (by omega))
              have HEw6 : Hid (OG C w6 (.slice (some ⟨De, 0, none⟩) 0 0) [] []) := Lib.hid (HEw5.out.below (by rw [hDn]; exact HUw6.out))
              rw [hw6, hDn]
              have HDDn := Lib.hid hDn
              clear hw6 hDn
              refine planT_do rfl (fun K hK => ?_)
              have HSP : Hid (SegsAt (fun b => b < C) w6 (.slice (some ⟨lb, lo, none⟩) (1 + k) lc) (L.take (1 + k))) := Lib.hid ((HLX.out w6 HBw6.out).head (by rw [HLN.out]; omega) (by omega) (by unfold maxLen; omega))
              refine wp_app_ogy _ _ rfl rfl rfl rfl HEw6.out HSP.out (fun b hb => ⟨by omega, fun e => by have e1 : De = b := Option.some.inj e; omega⟩) (by rw [List.length_take, HLN.out]; simp; omega) (by omega) ?_
              intro v1 wT xs1 ho1 hb1 hg1 hk1
              have hzwT := hg1.size
              have HBwT : Hid (Below C wd wT) := Lib.hid (HBw6.out.trans hb1)
              have HOwT : Hid (OG C wT v1 xs1 (L.take (1 + k))) := Lib.hid (by have h1 := ho1; rw [List.nil_append] at h1; exact h1)
              have HNwT : Hid (SegsAt (fun b => b < C ∨ b = Dn) wT (.slice (some ⟨Dn, 0, none⟩) 1 1) [⟨[78, 69, 87], []⟩]) := Lib.hid (HNw6.out.cong (fun _ h => h) (fun b hb => hg1.block b (by omega) (fun e => by have e1 : De = b := Option.some.inj e.symm; omega)))
              have hne : v1.ownBlock ≠ some Dn := fun e => by
                rcases hk1 with h | h
                · have e1 : De = Dn := Option.some.inj (h.symm.trans e)
                  omega
                · have e1 : w6.heap.size = Dn := Option.some.inj (h.symm.trans e)
                  omega
              obtain ⟨va, vc, rfl⟩ := own_slice ho1.row
              have hl1 : ([] ++ (L.take (1 + k)) : List Seg).length = 1 + k := by rw [List.nil_append, List.length_take, HLN.out]; omega
              rw [hl1] at HOwT ⊢
              rw [hl1] at hne
              clear ho1 hb1 hg1 hk1 hl1
              go_wp2_with fail
              refine hK _ _ (trivial) ?_
              clear hK K
              obtain ⟨D1, hD1⟩ : ∃ D1, wT.heap.size = D1 := ⟨_, rfl⟩
              refine planT_do rfl (fun K hK => ?_)
              refine wp_app_ogy _ _ rfl rfl rfl rfl HOwT.out HNwT.out (fun b hb => ⟨by omega, fun e => by rcases hb with hb | hb; (have h1 := (own_lt HOwT.out.row e).1; omega); exact hne (hb ▸ e)⟩) (by rw [List.length_take, HLN.out]; simp; omega) (by omega) ?_
              intro v2 w7 xs2 ho2 hb2 _ _
              obtain ⟨vb, vd, rfl⟩ := own_slice ho2.row
              have hl2 : (L.take (1 + k) ++ [⟨[78, 69, 87], []⟩] : List Seg).length = 1 + k + 1 := by rw [List.length_append, List.length_take, HLN.out]; simp; omega
              rw [hl2] at ho2 ⊢
              have HO7 := Lib.hid ho2
              have HB7 := Lib.hid (HBwT.out.trans hb2)
              have hz7 := hb2.size
              clear ho2 hb2 hl2
              go_wp2_with fail
              refine hK _ _ trivial ?_
              clear hK K
              refine planT_do rfl (fun K hK => ?_)
              have HSP2 : Hid (SegsAt (fun b => b < C) w7 (.slice (some ⟨lb, lo + (1 + k) * 2, none⟩) (n + 2 - (1 + k)) (lc - (1 + k))) (L.drop (1 + k))) := Lib.hid ((HLX.out w7 HB7.out).tail HLN.out (by omega) (by omega) (by unfold maxLen; omega))
              refine wp_app_ogy _ _ rfl rfl rfl rfl HO7.out HSP2.out (fun b hb => ⟨by omega, fun e => by have h1 := (own_lt HO7.out.row e).1; omega⟩) (by rw [List.length_append, List.length_take, List.length_drop, HLN.out]; simp; omega) (by omega) ?_
              intro v3 w8 xs3 ho3 hb3 _ _
              obtain ⟨ve, vf, rfl⟩ := own_slice ho3.row
              have hl3 : (L.take (1 + k) ++ [⟨[78, 69, 87], []⟩] ++ L.drop (1 + k) : List Seg).length = n + 3 := by simp [HLN.out]; omega
              rw [hl3] at ho3 ⊢
              have HO8 := Lib.hid ho3
              have HB8 := Lib.hid (HB7.out.trans hb3)
              clear ho3 hb3 hl3
              go_wp2_with fail
              refine hK _ _ trivial ?_
              clear hK K
              refine planT_val (v := .slice ve (n + 3) vf) rfl rfl (fun w' hS => by first | rfl | (go_simp; done)) ?_
              simp only [Act.put, List.setIfInBounds_toArray, List.set_cons_zero, List.set_cons_succ]
              refine planT_nil ?_
              go_wp2_with fail
              go_meet
              case rel => exact ⟨ve, vf, rfl, Lib.hid ⟨HBDR.out.trans HB8.out, HO8.out.rest⟩⟩
          · refine planT_op rfl (fun K hK => ?_)
            go_wp2_with fail
            refine hK _ _ (trivial) ?_
            clear hK K
            have HEL : Hid (ElemsAt (fun b => b < C) wd (.slice none 0 0) []) := Lib.hid (ElemsAt.nil _ _)
            obtain ⟨Dn, hDn⟩ : ∃ Dn, wd.heap.size = Dn := ⟨_, rfl⟩
            obtain ⟨w5, hw5⟩ : ∃ w5, wd.alloc (.cells #[.string ⟨#[78, 69, 87]⟩, .slice none 0 0] 36) = w5 := ⟨_, rfl⟩
            have hzw5 : w5.heap.size ≤ Dn + 1 ∧ Dn + 1 ≤ w5.heap.size := by rw [← hw5, ← hDn]; simp
            obtain ⟨hzw5, hyw5⟩ := hzw5
            have hcDn : C ≤ Dn := by omega
            have HUw5 : Hid (Below Dn wd w5) := Lib.hid (by rw [← hw5, ← hDn]; exact (Below.refl _ _).alloc (Nat.le_refl _) _)
            have HBw5 : Hid (Below C wd w5) := Lib.hid (HBwd.out.trans (HUw5.out.mono (by omega)))
            have HNw5 : Hid (SegsAt (fun b => b < C ∨ b = Dn) w5 (.slice (some ⟨Dn, 0, none⟩) 1 1) [⟨[78, 69, 87], []⟩]) := Lib.hid (by rw [← hw5]; exact seg_lit hDn rfl HEL.out (by omega))
            rw [hw5, hDn]
            have HDDn := Lib.hid hDn
            clear hw5 hDn
            refine planT_do rfl (fun K hK => ?_)
            go_wp2_with fail
            refine hK _ _ (trivial) ?_
            clear hK K
            obtain ⟨De, hDe⟩ : ∃ De, w5.heap.size = De := ⟨_, rfl⟩
            obtain ⟨w6, hw6⟩ : ∃ w6, w5.alloc (.cells #[] 36) = w6 := ⟨_, rfl⟩
            have hzw6 : w6.heap.size ≤ De + 1 ∧ De + 1 ≤ w6.heap.size := by rw [← hw6, ← hDe]; simp
            obtain ⟨hzw6, hyw6⟩ := hzw6
            have hcDe : C ≤ De := by omega
            have hden : Dn < De := by omega
            have HUw6 : Hid (Below De w5 w6) := Lib.hid (by rw [← hw6, ← hDe]; exact (Below.refl _ _).alloc (Nat.le_refl _) _)
            have HBw6 : Hid (Below C wd w6) := Lib.hid (HBw5.out.trans (HUw6.out.mono (by omega)))
            have HEw6 : Hid (OG C w6 (.slice (some ⟨De, 0, none⟩) 0 0) [] []) := Lib.hid (by rw [← hw6, ← hDe]; exact OG.erow (by omega))
            have HNw6 : Hid (SegsAt (fun b => b < C ∨ b = Dn) w6 (.slice (some ⟨Dn, 0, none⟩) 1 1) [⟨[78, 69, 87], []⟩]) := Lib.hid (HNw5.out.cong (fun _ h => h) (fun b hb => HUw6.out.block b (by omega)))
            rw [hw6, hDe]
            have HDDe := Lib.hid hDe
            clear hw6 hDe
            refine planT_do rfl (fun K hK => ?_)
            have HSP : Hid (SegsAt (fun b => b < C) w6 (.slice (some ⟨lb, lo, none⟩) (1 + k) lc) (L.take (1 + k))) := Lib.hid ((HLX.out w6 HBw6.out).head (by rw [HLN.out]; omega) (by omega) (by unfold maxLen; omega))
            refine wp_app_ogy _ _ rfl rfl rfl rfl HEw6.out HSP.out (fun b hb => ⟨by omega, fun e => by have e1 : De = b := Option.some.inj e; omega⟩) (by rw [List.length_take, HLN.out]; simp; omega) (by omega) ?_
            intro v1 wT xs1 ho1 hb1 hg1 hk1
            have hzwT := hg1.size
            have HBwT : Hid (Below C wd wT) := Lib.hid (HBw6.out.trans hb1)
            have HOwT : Hid (OG C wT v1 xs1 (L.take (1 + k))) := Lib.hid (by have h1 := ho1; rw [List.nil_append] at h1; exact h1)
            have HNwT : Hid (SegsAt (fun b => b < C ∨ b = Dn) wT (.slice (some ⟨Dn, 0, none⟩) 1 1) [⟨[78, 69, 87], []⟩]) := Lib.hid (HNw6.out.cong (fun _ h => h) (fun b hb => hg1.block b (by omega) (fun e => by have e1 : De = b := Option.some.inj e.symm; omega)))
            have hne : v1.ownBlock ≠ some Dn := fun e => by
              rcases hk1 with h | h
              · have e1 : De = Dn := Option.some.inj (h.symm.trans e)
                omega
              · have e1 : w6.heap.size = Dn := Option.some.inj (h.symm.trans e)
                omega
            obtain ⟨va, vc, rfl⟩ := own_slice ho1.row
            have hl1 : ([] ++ (L.take (1 + k)) : List Seg).length = 1 + k := by rw [List.nil_append, List.length_take, HLN.out]; omega
            rw [hl1] at HOwT ⊢
            rw [hl1] at hne
            clear ho1 hb1 hg1 hk1 hl1
            go_wp2_with fail
            refine hK _ _ (trivial) ?_
            clear hK K
            obtain ⟨D1, hD1⟩ : ∃ D1, wT.heap.size = D1 := ⟨_, rfl⟩
            refine planT_do rfl (fun K hK => ?_)
            refine wp_app_ogy _ _ rfl rfl rfl rfl HOwT.out HNwT.out (fun b hb => ⟨by omega, fun e => by rcases hb with hb | hb; (have h1 := (own_lt HOwT.out.row e).1; omega); exact hne (hb ▸ e)⟩) (by rw [List.length_take, HLN.out]; simp; omega) (by omega) ?_
            intro v2 w7 xs2 ho2 hb2 _ _
            obtain ⟨vb, vd, rfl⟩ := own_slice ho2.row
            have hl2 : (L.take (1 + k) ++ [⟨[78, 69, 87], []⟩] : List Seg).length = 1 + k + 1 := by rw [List.length_append, List.length_take, HLN.out]; simp; omega
            rw [hl2] at ho2 ⊢
            have HO7 := Lib.hid ho2
            have HB7 := Lib.hid (HBwT.out.trans hb2)
            have hz7 := hb2.size
            clear ho2 hb2 hl2
            go_wp2_with fail
            refine hK _ _ trivial ?_
            clear hK K
            refine planT_do rfl (fun K hK => ?_)
            have HSP2 : Hid (SegsAt (fun b => b < C) w7 (.slice (some ⟨lb, lo + (1 + k) * 2, none⟩) (n + 2 - (1 + k)) (lc - (1 + k))) (L.drop (1 + k))) := Lib.hid ((HLX.out w7 HB7.out).tail HLN.out (by omega) (by omega) (by unfold maxLen; omega))
            refine wp_app_ogy _ _ rfl rfl rfl rfl HO7.out HSP2.out (fun b hb => ⟨by omega, fun e => by have h1 := (own_lt HO7.out.row e).1; omega⟩) (by rw [List.length_append, List.length_take, List.length_drop, HLN.out]; simp; omega) (by omega) ?_
            intro v3 w8 xs3 ho3 hb3 _ _
            obtain ⟨ve, vf, rfl⟩ := own_slice ho3.row
            have hl3 : (L.take (1 + k) ++ [⟨[78, 69, 87], []⟩] ++ L.drop (1 + k) : List Seg).length = n + 3 := by simp [HLN.out]; omega
            rw [hl3] at ho3 ⊢
            have HO8 := Lib.hid ho3
            have HB8 := Lib.hid (HB7.out.trans hb3)
            clear ho3 hb3 hl3
            go_wp2_with fail
            refine hK _ _ trivial ?_
            clear hK K
            refine planT_val (v := .slice ve (n + 3) vf) rfl rfl (fun w' hS => by first | rfl | (go_simp; done)) ?_
            simp only [Act.put, List.setIfInBounds_toArray, List.set_cons_zero, List.set_cons_succ]
            refine planT_nil ?_
            go_wp2_with fail
            go_meet
            case rel => exact ⟨ve, vf, rfl, Lib.hid ⟨HBDR.out.trans HB8.out, HO8.out.rest⟩⟩
        case rest => as_aux_lemma =>
          obtain ⟨va, vc, rfl, hm⟩ := hcut
          have HB6 := Lib.hid hm.out.1
          have HPL : Hid ((printT (L.take (1 + k) ++ [⟨[78, 69, 87], []⟩] ++ L.drop (1 + k))).length ≤ 1048576) := Lib.hid (by
            have h1 := HOK.out.len
            rw [HOK.out.t, ← List.take_append_drop (1 + k) L, printT_app] at h1
            rw [printT_app, printT_app]
            simp only [List.length_append] at h1 ⊢
            have h2 : (printT [(⟨[78, 69, 87], []⟩ : Seg)]).length = 4 := rfl
            omega)
          obtain ⟨RA, hRA⟩ : ∃ RA, printE (L.take (1 + k) ++ [⟨[78, 69, 87], []⟩] ++ L.drop (1 + k)) = RA := ⟨_, rfl⟩
          obtain ⟨al, ak⟩ := RA
          obtain ⟨aa, haa⟩ : ∃ aa : ByteArray, (⟨al.toArray⟩ : ByteArray) = aa := ⟨_, rfl⟩
          have HAAD := Lib.hid (show aa.data.toList = al by rw [← haa])
          have HPM := Lib.hid (print_any wc _ _ hm.out.2 HPL.out)
          rw [hRA] at HPM
          have HRA := Lib.hid hRA
          simp only [sv, haa] at HPM
          have hzc := HB6.out.size
          rw [HCQ.out] at hzc
          obtain ⟨E0, hE0⟩ : ∃ b, (ak == 0) = b := ⟨_, rfl⟩
          clear hm hRA haa HXW
          go_upto_if 107 with ((with_reducible refine HPM.out.mono ?_); rintro e w5 ⟨rfl, hb5⟩; have HB7 := Lib.hid (HB6.out.trans (hb5.mono hzc)); clear hb5)
          clear HPM
          go_cut [] (fun wx => Hid (Below C w4 wx))
          case first => as_aux_lemma =>
            cases E0 with
            | true =>
              obtain rfl : ak = 0 := by simpa using hE0
              clear hE0
              obtain ⟨q, hq⟩ : ∃ q, wrapParseE aa.data.toList = q := ⟨_, rfl⟩
              obtain ⟨y, pk⟩ := q
              have hpk : pk = 41 := by
                have h1 := (w_more HOK.out (by rw [HN.out]; exact hk) HRA.out).1
                rw [← HAAD.out, hq] at h1
                exact h1
              subst hpk
              have HPA2 := Lib.hid (wParse_is (s := aa) (w := w5) (HVX.out w5 HB7.out) hq)
              have hz5 := HB7.out.size
              rw [HCQ.out] at hz5
              unfold WPQ wv at HPA2
              clear hq
              go_wp2_with ((with_reducible refine HPA2.out.mono ?_); rintro e w6 ⟨yv, rfl, hs6, hb6⟩; obtain ⟨ya, yc, rfl, _, _⟩ := hs6.form; have HB8 := Lib.hid ((HB7.out.trans (hb6.mono hz5))); clear hs6 hb6)
              go_meet
              case rel => exact Lib.hid (HB8.out.alloc (by have := HB8.out.size; rw [HCQ.out] at this; exact this) _)
            | false =>
              clear hE0
              go_wp2_with fail
              go_meet
              case rel => exact HB7
          case rest => as_aux_lemma =>
            have HB8 := hcut
            clear hcut hE0 HRA HAAD HPL HB7 HB6
            obtain ⟨w8, hw8⟩ : ∃ w8, w8 = wc := ⟨_, rfl⟩
            rw [← hw8] at HB8 ⊢
            clear hw8 hzc
            obtain ⟨q0, q1, q2, q3⟩ := (HXX.out w8 HB8.out).cells
            go_upto_if 118 with fail
            clear q0 q1 q2 q3
            go_cut [] (fun wx => Hid (Below C w4 wx))
            case first => as_aux_lemma =>
              obtain ⟨q0, q1, q2, q3⟩ := (HXX.out w8 HB8.out).cells
              by_cases hn0 : n = 0
              · have e0 : decide (0 < n) = false := by rw [decide_eq_false_iff_not]; omega
                go_wp2_with fail
                go_meet
                case rel => exact HB8
              · have e0 : decide (0 < n) = true := by rw [decide_eq_true_eq]; omega
                have tm : (k : Int).tmod (n : Int) = ((k % n : Nat) : Int) := by rw [Int.tmod_eq_emod_of_nonneg (by omega)]; omega
                have tm2 : (k : Int) % (n : Int) = ((k % n : Nat) : Int) := by omega
                obtain ⟨kk, hkk⟩ : ∃ kk, k % n = kk := ⟨_, rfl⟩
                have hkn : kk < n := by rw [← hkk]; exact Nat.mod_lt _ (by omega)
                rw [hkk] at tm tm2
                clear hkk hn0
                go_upto_region 20 with fail
                obtain ⟨wd, hwd⟩ : ∃ wd, w8.drew = wd := ⟨_, rfl⟩
                have HBDR : Hid (Below C w4 wd) := Lib.hid (by rw [← hwd]; exact HB8.out.drew)
                have hywd : C ≤ wd.heap.size := by have h1 := HBDR.out.size; rw [HCQ.out] at h1; exact h1
                have HBwd : Hid (Below C wd wd) := Lib.hid (Below.refl _ _)
                have HLX0 := HLX
                have HLX : Hid (∀ wx, Below C wd wx → SegsAt (fun b => b < C) wx (.slice (some ⟨lb, lo, none⟩) (n + 2) lc) L) := Lib.hid (fun wx hb => HLX0.out wx (HBDR.out.trans hb))
                obtain ⟨bs, hbs, hb41, hbl⟩ := w_less HOK.out (k := kk) (by rw [HN.out]; exact hkn)
                have hbT := (w_sub HOK.out (show 1 + kk ≤ 2 + kk by omega)).2
                have HBS := Lib.hid hbs
                have HB41 := Lib.hid hb41
                have HBT := Lib.hid hbT
                have hlc3 : 2 + kk ≤ lc := by omega
                have g1 : IntKind.i64.wrap (1 + (kk : Int)) = 1 + (kk : Int) := IntWalk.i64_in _ (by omega)
                have g1b : IntKind.i64.wrap (2 + (kk : Int)) = 2 + (kk : Int) := IntWalk.i64_in _ (by omega)
                have g2 : (0 : Int) ≤ 1 + (kk : Int) := by omega
                have g2b : (0 : Int) ≤ 2 + (kk : Int) := by omega
                have g3 : (1 + (kk : Int)).toNat = 1 + kk := by omega
                have g3b : (2 + (kk : Int)).toNat = 2 + kk := by omega
                have g4 : 1 + (kk : Int) ≤ (lc : Int) := by omega
                have g5 : 2 + (kk : Int) ≤ (n : Int) + 2 := by omega
                have g6 : ∀ (P : Option Addr), (if lc = 2 + kk then P else some (⟨lb, lo + (2 + kk) * 2, none⟩ : Addr)) = if lc = 2 + kk then P else some ⟨lb, lo + (2 + kk) * 2, none⟩ := fun _ => rfl
                clear hbs hb41 hbT hbl tm tm2 e0 q0 q1 q2 q3 g6
                refine wp_region_planT (.val 1 (.val 2 (.val 3 (.val 4 (.val 6 (.val 7 (.val 8 (.val 9 (.one 0 (.one 5 (.one 10 (.one 11 (.val 12 (.val 13 (.val 14 (.val 15 (.val 16 .nil))))))))))))))))) (fun _ => True) (by kernel_rfl) (by kernel_rfl) trivial ?_
                rw [hwd]
                clear hwd
                iterate 3 (refine' planT_val rfl rfl (fun w' hS => ?_) ?_; rotate_left; (focus (go_simp; rfl)); simp only [Act.put, List.setIfInBounds_toArray, List.set_cons_zero, List.set_cons_succ])
                refine planT_val (v := .slice (some ⟨lb, lo, none⟩) (1 + kk) lc) rfl rfl (fun w' hS => by go_simp) ?_
                simp only [Act.put, List.setIfInBounds_toArray, List.set_cons_zero, List.set_cons_succ]
                iterate 3 (refine' planT_val rfl rfl (fun w' hS => ?_) ?_; rotate_left; (focus (go_simp; rfl)); simp only [Act.put, List.setIfInBounds_toArray, List.set_cons_zero, List.set_cons_succ])
                obtain ⟨tp, htp⟩ : ∃ tp : Option Addr, (if lc = 2 + kk then some (⟨lb, lo, none⟩ : Addr) else some ⟨lb, lo + (2 + kk) * 2, none⟩) = tp := ⟨_, rfl⟩
                have HTP := Lib.hid htp
                refine planT_val (v := .slice tp (n + 2 - (2 + kk)) (lc - (2 + kk))) rfl rfl (fun w' hS => by go_simp) ?_
                simp only [Act.put, List.setIfInBounds_toArray, List.set_cons_zero, List.set_cons_succ]
                clear htp g1 g1b g2 g2b g3 g3b g4 g5
                refine planT_do rfl (fun K hK => ?_)
                go_wp2_with fail
                refine hK _ _ (trivial) ?_
                clear hK K
                obtain ⟨De, hDe⟩ : ∃ De, wd.heap.size = De := ⟨_, rfl⟩
                obtain ⟨w5, hw5⟩ : ∃ w5, wd.alloc (.cells #[] 36) = w5 := ⟨_, rfl⟩
                have hzw5 : w5.heap.size ≤ De + 1 ∧ De + 1 ≤ w5.heap.size := by rw [← hw5, ← hDe]; simp
                obtain ⟨hzw5, hyw5⟩ := hzw5
                have hcDe : C ≤ De := by omega
                have HUw5 : Hid (Below De wd w5) := Lib.hid (by rw [← hw5, ← hDe]; exact (Below.refl _ _).alloc (Nat.le_refl _) _)
                have HBw5 : Hid (Below C wd w5) := Lib.hid (HBwd.out.trans (HUw5.out.mono (by omega)))
                have HEw5 : Hid (OG C w5 (.slice (some ⟨De, 0, none⟩) 0 0) [] []) := Lib.hid (by rw [← hw5, ← hDe]; exact OG.erow (by omega))
                rw [hw5, hDe]
                have HDDe := Lib.hid hDe
                clear hw5 hDe
                refine planT_do rfl (fun K hK => ?_)
                have HSP : Hid (SegsAt (fun b => b < C) w5 (.slice (some ⟨lb, lo, none⟩) (1 + kk) lc) (L.take (1 + kk))) := Lib.hid ((HLX.out w5 HBw5.out).head (by rw [HLN.out]; omega) (by omega) (by unfold maxLen; omega))
                refine wp_app_ogy _ _ rfl rfl rfl rfl HEw5.out HSP.out (fun b hb => ⟨by omega, fun e => by have e1 : De = b := Option.some.inj e; omega⟩) (by rw [List.length_take, HLN.out]; simp; omega) (by omega) ?_
                intro v1 w6 xs1 ho1 hb1 hg1 hk1
                have hzw6 := hg1.size
                have HBw6 : Hid (Below C wd w6) := Lib.hid (HBw5.out.trans hb1)
                have HOw6 : Hid (OG C w6 v1 xs1 (L.take (1 + kk))) := Lib.hid (by have h1 := ho1; rw [List.nil_append] at h1; exact h1)
                obtain ⟨va, vc, rfl⟩ := own_slice ho1.row
                have hl1 : ([] ++ (L.take (1 + kk)) : List Seg).length = 1 + kk := by rw [List.nil_append, List.length_take, HLN.out]; omega
                rw [hl1] at HOw6 ⊢
                clear ho1 hb1 hg1 hk1 hl1
                go_wp2_with fail
                refine hK _ _ (trivial) ?_
                clear hK K
                refine planT_do rfl (fun K hK => ?_)
                have HSP2 : Hid (SegsAt (fun b => b < C) w6 (.slice tp (n + 2 - (2 + kk)) (lc - (2 + kk))) (L.drop (2 + kk))) := Lib.hid (by
                  have h1 := (HLX.out w6 HBw6.out).tail HLN.out (lo := 2 + kk) (by omega) (by omega) (by unfold maxLen; omega)
                  have h2 := HTP.out
                  by_cases h3 : lc = 2 + kk
                  · rw [if_pos h3] at h2
                    subst h2
                    have h4 : n + 2 - (2 + kk) = 0 := by omega
                    have h5 : L.drop (2 + kk) = [] := List.drop_eq_nil_of_le (by rw [HLN.out]; omega)
                    rw [h4, h5]
                    exact ⟨_, _, [], rfl, by simp, by unfold maxLen; omega, (fun e => by cases e), rfl, (fun i s x h => by simp at h), fun h => absurd rfl h⟩
                  · rw [if_neg h3] at h2
                    subst h2
                    exact h1)
                refine wp_app_ogy _ _ rfl rfl rfl rfl HOw6.out HSP2.out (fun b hb => ⟨by omega, fun e => by have h1 := (own_lt HOw6.out.row e).1; omega⟩) (by rw [List.length_take, List.length_drop, HLN.out]; omega) (by omega) ?_
                intro v3 w7 xs3 ho3 hb3 _ _
                obtain ⟨ve, vf, rfl⟩ := own_slice ho3.row
                have hl3 : (L.take (1 + kk) ++ L.drop (2 + kk) : List Seg).length = n + 1 := by rw [List.length_append, List.length_take, List.length_drop, HLN.out]; omega
                have HRS := ho3.rest
                rw [hl3] at HRS ⊢
                have HBw7 := Lib.hid (HBw6.out.trans hb3)
                have HPR := Lib.hid (print_any w7 _ _ HRS (by have := HBT.out; omega))
                rw [HBS.out] at HPR
                obtain ⟨ba, hba⟩ : ∃ ba : ByteArray, (⟨bs.toArray⟩ : ByteArray) = ba := ⟨_, rfl⟩
                have HBAD := Lib.hid (show ba.data.toList = bs by rw [← hba])
                simp only [sv, hba] at HPR
                clear ho3 hb3 hba hl3 HRS
                go_wp2_with fail
                refine hK _ _ trivial ?_
                clear hK K
                refine planT_do rfl (fun K hK => ?_)
                go_wp2_with fail
                refine HPR.out.mono ?_
                rintro e w9 ⟨rfl, hb9⟩
                have hz7 := HBw7.out.size
                have HB9 : Hid (Below C w4 w9) := Lib.hid (HBDR.out.trans (HBw7.out.trans (hb9.mono (by omega))))
                clear hb9 HPR
                go_wp2_with fail
                refine hK _ _ trivial ?_
                clear hK K
                iterate 5 (refine' planT_val rfl rfl (fun w' hS => ?_) ?_; rotate_left; (focus (go_simp; rfl)); simp only [Act.put, List.setIfInBounds_toArray, List.set_cons_zero, List.set_cons_succ])
                refine planT_nil ?_
                obtain ⟨q, hq⟩ : ∃ q, wrapParseE ba.data.toList = q := ⟨_, rfl⟩
                obtain ⟨y, pk⟩ := q
                have hpk : pk = 41 := by
                  have h1 := HB41.out
                  rw [← HBAD.out, hq] at h1
                  exact h1
                subst hpk
                have HPA2 := Lib.hid (wParse_is (s := ba) (w := w9) (HVX.out w9 HB9.out) hq)
                have hz9 := HB9.out.size
                rw [HCQ.out] at hz9
                unfold WPQ wv at HPA2
                clear hq
                go_wp2_with ((with_reducible refine HPA2.out.mono ?_); rintro e w10 ⟨yv, rfl, hs10, hb10⟩; obtain ⟨ya, yc, rfl, _, _⟩ := hs10.form; have HB10 := Lib.hid ((HB9.out.trans (hb10.mono hz9))); clear hs10 hb10)
                go_meet
                case rel => exact Lib.hid (HB10.out.alloc (by have := HB10.out.size; rw [HCQ.out] at this; exact this) _)
            case rest => as_aux_lemma =>
              have HB10 := hcut
              clear hcut HB8
              obtain ⟨w10, hw10⟩ : ∃ w10, w10 = wc := ⟨_, rfl⟩
              rw [← hw10] at HB10 ⊢
              clear hw10 w8
              obtain ⟨cs, hcs, hcl, hcz⟩ := w_nohead HOK.out
              obtain ⟨ds, hds, hdl, hdn, hdz⟩ := w_notail HOK.out
              rw [HN.out] at hds hdn hdz
              obtain ⟨ca, hca⟩ : ∃ ca : ByteArray, (⟨cs.toArray⟩ : ByteArray) = ca := ⟨_, rfl⟩
              obtain ⟨da, hda⟩ : ∃ da : ByteArray, (⟨ds.toArray⟩ : ByteArray) = da := ⟨_, rfl⟩
              have HCAD := Lib.hid (show ca.data.toList = cs by rw [← hca])
              have HDAD := Lib.hid (show da.data.toList = ds by rw [← hda])
              have hcT := (w_sub HOK.out (show 0 ≤ 1 by omega)).2
              have hdT := (w_sub HOK.out (show n + 1 ≤ n + 2 by omega)).2
              rw [List.take_zero, List.nil_append] at hcT
              rw [List.drop_eq_nil_of_le (show L.length ≤ n + 2 by rw [HLN.out]; exact Nat.le_refl _), List.append_nil] at hdT
              have hz10 := HB10.out.size
              rw [HCQ.out] at hz10
              have HP1 := Lib.hid (print_any w10 (.slice (some ⟨lb, lo + 2, none⟩) (n + 1) (lc - 1)) (L.drop 1) (((HLX.out w10 HB10.out).tail HLN.out (lo := 1) (by omega) (by omega) (by unfold maxLen; omega)).cong (fun b hb => by omega) (fun _ _ => rfl)) (by omega))
              rw [hcs] at HP1
              simp only [sv, hca] at HP1
              have hlc4 : ¬ lc = 1 := by omega
              have hlc5 : (1 : Int) ≤ (lc : Int) := by omega
              have hlc6 : (1 : Int) ≤ (n : Int) + 2 := by omega
              have HCZ := Lib.hid hcz
              have HDN := Lib.hid hdn
              have HDZ := Lib.hid hdz
              have HDS := Lib.hid hds
              have HDT := Lib.hid hdT
              have HDA := Lib.hid hda
              clear hcs hca hda hds hcT hdT hcz hdz hdn hcl hdl
              go_wp2_with fail
              refine HP1.out.mono ?_
              rintro e w11 ⟨rfl, hb11⟩
              have HB11 : Hid (Below C w4 w11) := Lib.hid (HB10.out.trans (hb11.mono hz10))
              have hz11 := HB11.out.size
              rw [HCQ.out] at hz11
              have HP2 := Lib.hid (print_any w11 (.slice (some ⟨lb, lo, none⟩) (n + 1) lc) (L.take (n + 1)) (((HLX.out w11 HB11.out).head (hi := n + 1) (by rw [HLN.out]; omega) (by omega) (by unfold maxLen; omega)).cong (fun b hb => by omega) (fun _ _ => rfl)) (by have := HDT.out; omega))
              rw [HDS.out] at HP2
              simp only [sv, HDA.out] at HP2
              clear hb11 HP1 hlc4 hlc5 hlc6 HDA
              go_wp2_with fail
              refine HP2.out.mono ?_
              rintro e w12 ⟨rfl, hb12⟩
              have HB12 : Hid (Below C w4 w12) := Lib.hid (HB11.out.trans (hb12.mono hz11))
              have hz12 := HB12.out.size
              rw [HCQ.out] at hz12
              obtain ⟨q1, hq1⟩ : ∃ q, wrapParseE ca.data.toList = q := ⟨_, rfl⟩
              obtain ⟨y1, p1⟩ := q1
              obtain ⟨q2, hq2⟩ : ∃ q, wrapParseE da.data.toList = q := ⟨_, rfl⟩
              obtain ⟨y2, p2⟩ := q2
              have HPC := Lib.hid (fun w hv => wParse_is (s := ca) (w := w) hv hq1)
              have HPD := Lib.hid (fun w hv => wParse_is (s := da) (w := w) hv hq2)
              unfold WPQ wv at HPC HPD
              have HQ1 := Lib.hid (show (wrapParseE cs).2 = p1 by rw [← HCAD.out, hq1])
              have HQ2 := Lib.hid (show (wrapParseE ds).2 = p2 by rw [← HDAD.out, hq2])
              clear hb12 HP2 hq1 hq2
              go_wp2_with fail
              refine (HPC.out _ (HVX.out _ HB12.out)).mono ?_
              rintro e w13 ⟨yv, rfl, hs13, hb13⟩
              obtain ⟨ya, yc, rfl, _, _⟩ := hs13.form
              have HB13 : Hid (Below C w4 w13) := Lib.hid (HB12.out.trans (hb13.mono hz12))
              have hz13 := HB13.out.size
              rw [HCQ.out] at hz13
              clear hs13 hb13 HPC
              go_wp2_with fail
              generalize hw14 : World.alloc w13 _ = w14
              have HB14 : Hid (Below C w4 w14) := Lib.hid (by rw [← hw14]; exact HB13.out.alloc hz13 _)
              have hz14 := HB14.out.size
              rw [HCQ.out] at hz14
              clear hw14
              refine (HPD.out _ (HVX.out _ HB14.out)).mono ?_
              rintro e w15 ⟨yv2, rfl, hs15, hb15⟩
              obtain ⟨ya2, yc2, rfl, _, _⟩ := hs15.form
              have HB15 : Hid (Below C w4 w15) := Lib.hid (HB14.out.trans (hb15.mono hz14))
              have hz15 := HB15.out.size
              rw [HCQ.out] at hz15
              clear hs15 hb15 HPD
              go_upto_region 28 with fail
              generalize hw16 : World.alloc w15 _ = w16
              have HB16 : Hid (Below C w4 w16) := Lib.hid (by rw [← hw16]; exact HB15.out.alloc hz15 _)
              clear hw16
              go_cut [198] (fun cv wx => cv = .bool false ∧ Hid (Below C w4 wx))
              case first => as_aux_lemma =>
                obtain ⟨z1, hz1⟩ : ∃ z1, L[1]? = some z1 := ⟨_, List.getElem?_eq_getElem (by rw [HLN.out]; omega)⟩
                obtain ⟨zt, hzt⟩ : ∃ zt, L[n]? = some zt := ⟨_, List.getElem?_eq_getElem (by rw [HLN.out]; omega)⟩
                obtain ⟨_, _, _, hA, _, t1, _, _⟩ := (HLX.out w16 HB16.out).get hz1
                cases hA
                obtain ⟨_, _, _, hA, _, t2, _, _⟩ := (HLX.out w16 HB16.out).get hzt
                cases hA
                obtain ⟨zb1, hzb1⟩ : ∃ zb1 : ByteArray, (⟨z1.tag.toArray⟩ : ByteArray) = zb1 := ⟨_, rfl⟩
                obtain ⟨zbt, hzbt⟩ : ∃ zbt : ByteArray, (⟨zt.tag.toArray⟩ : ByteArray) = zbt := ⟨_, rfl⟩
                unfold sv at t1 t2
                rw [hzb1] at t1
                rw [hzbt] at t2
                have hA : (p1 != 40) = false ∨ ((p1 != 40) = true ∧ (zb1.toList != [85, 78, 66]) = false ∧ (zb1.toList == [85, 78, 66]) = true) := by
                  by_cases h : p1 = 40
                  · exact .inl (by rw [h]; rfl)
                  · right
                    have ht : z1.tag = unb := Classical.byContradiction fun hne => h (HQ1.out.symm.trans (HCZ.out z1 hz1 hne))
                    have hl : zb1.toList = [85, 78, 66] := by rw [← hzb1, ByteArray.toList_eq]; simpa [unb] using ht
                    exact ⟨by rw [bne_iff_ne]; exact h, by rw [hl]; rfl, by rw [hl]; rfl⟩
                have hB' : (p2 != 40) = false ∨ ((p2 != 40) = true ∧ 1 ≤ n ∧ (zbt.toList != [85, 78, 90]) = false ∧ (zbt.toList == [85, 78, 90]) = true) := by
                  by_cases h : p2 = 40
                  · exact .inl (by rw [h]; rfl)
                  · right
                    have hn1 : 1 ≤ n := Nat.one_le_iff_ne_zero.2 (fun h0 => h (HQ2.out.symm.trans (HDN.out h0)))
                    have ht : zt.tag = unz := Classical.byContradiction fun hne => h (HQ2.out.symm.trans (HDZ.out zt hzt hne))
                    have hl : zbt.toList = [85, 78, 90] := by rw [← hzbt, ByteArray.toList_eq]; simpa [unz] using ht
                    exact ⟨by rw [bne_iff_ne]; exact h, hn1, by rw [hl]; rfl, by rw [hl]; rfl⟩
                have u1 : (0 : Int) ≤ n := by omega
                have u2 : (n : Int) < (n : Int) + 2 := by omega
                have u3 : (1 : Int) < (n : Int) + 2 := by omega
                clear hz1 hzt hzb1 hzbt
                rcases hA with a1 | ⟨a1, a2, a3⟩
                · rcases hB' with b1 | ⟨b1, b2, b3, b4⟩
                  · go_wp2_with fail
                    go_meet
                    case rel => exact ⟨rfl, HB16⟩
                  · have b5 : decide (n + 2 < 3) = false := by rw [decide_eq_false_iff_not]; omega
                    have b6 : decide ((n : Int) + 2 < 3) = false := by rw [decide_eq_false_iff_not]; omega
                    go_wp2_with fail
                    go_meet
                    case rel => exact ⟨rfl, HB16⟩
                · rcases hB' with b1 | ⟨b1, b2, b3, b4⟩
                  · go_wp2_with fail
                    go_meet
                    case rel => exact ⟨rfl, HB16⟩
                  · have b5 : decide (n + 2 < 3) = false := by rw [decide_eq_false_iff_not]; omega
                    have b6 : decide ((n : Int) + 2 < 3) = false := by rw [decide_eq_false_iff_not]; omega
                    go_wp2_with fail
                    go_meet
                    case rel => exact ⟨rfl, HB16⟩
              case rest => as_aux_lemma =>
                obtain ⟨rfl, HB17⟩ := hcut
                clear HB16 HB15 HB14 HB13 HB12 HB11 HB10 HCZ HDN HDZ HDS HDT HQ1 HQ2 hz10 hz11 hz12 hz13 hz14 hz15
                obtain ⟨w17, hw17⟩ : ∃ w17, w17 = wc := ⟨_, rfl⟩
                rw [← hw17] at HB17 ⊢
                clear hw17 w16 w15 w14 w13 w12 w11 w10
                obtain ⟨q0, q1, q2, q3⟩ := (HXX.out w17 HB17.out).cells
                obtain ⟨w18, hw18⟩ : ∃ w18, w17.alloc (.cells #[.int .u8 (x.fr : Int), .int .u8 (x.dst : Int), .int .u64 (x.rf : Int), .slice ao n cap] 25) = w18 := ⟨_, rfl⟩
                obtain ⟨D, hD⟩ : ∃ D, w17.heap.size = D := ⟨_, rfl⟩
                have hz17 := HB17.out.size
                rw [HCQ.out, hD] at hz17
                have HO18 : Hid (BoxAt w18 D x (.slice ao n cap)) := Lib.hid (by rw [← hw18, ← hD]; exact BoxAt.new _ _ _)
                have HB18 : Hid (Below C w4 w18) := Lib.hid (by rw [← hw18]; exact HB17.out.alloc (by rw [hD]; exact hz17) _)
                have HW18 := Lib.hid hw18
                have HDQ := Lib.hid hD
                go_upto_region 31 with fail
                clear hw18 hD q0 q1 q2 q3
                obtain ⟨q0, q1, q2, q3⟩ := HO18.out.cells
                have qf : w18.frozen? ⟨D, 2, none⟩ = false := frozen_of_row w18 D 2 _ _ HO18.out
                obtain ⟨w19, hw19⟩ : ∃ w19, w18.setCell ⟨D, 2, none⟩ (.int .u64 (rf : Int)) = w19 := ⟨_, rfl⟩
                have HO19 : Hid (BoxAt w19 D { x with rf := rf } (.slice ao n cap)) := Lib.hid (by rw [← hw19]; exact heap_setCell_same w18 D 2 _ _ _ HO18.out)
                have HB19 : Hid (Below C w4 w19) := Lib.hid (by rw [← hw19]; exact HB18.out.setCell (show C ≤ D from hz17) _)
                have HW19 := Lib.hid hw19
                go_upto_region 32 with fail
                clear hw19 q0 q1 q2 q3 qf
                obtain ⟨q0, q1, q2, q3⟩ := HO19.out.cells
                simp only at q0 q1 q2 q3
                have hz19 := HB19.out.size
                rw [HCQ.out] at hz19
                obtain ⟨R2, hR2⟩ : ∃ R2, wrapPrintE { x with rf := rf } = R2 := ⟨_, rfl⟩
                obtain ⟨os, om⟩ := R2
                obtain ⟨oa, hoa⟩ : ∃ oa : ByteArray, (⟨os.toArray⟩ : ByteArray) = oa := ⟨_, rfl⟩
                have hoad : oa.data.toList = os := by rw [← hoa]
                have HPO := Lib.hid (wPrint_is (x := { x with rf := rf }) (HVX.out w19 HB19.out) HBD.out.1 HBD.out.2.1 HRF.out (HSX.out w19 HB19.out) (fun b hb => by omega) (fun _ => by have := HP.out; simp only; omega) hR2)
                unfold WTQ wv at HPO
                simp only [sv, hoa] at HPO
                have hos : os.length ≤ 65536 := by
                  by_cases h0 : om = 0
                  · subst h0
                    exact (wok (x := { x with rf := rf }) HRF.out hR2).len
                  · rw [wprint_err hR2 h0]; simp
                have hoas : oa.size ≤ 65536 := by
                  rw [← hoad] at hos
                  simpa using hos
                have HR2 := Lib.hid hR2
                have HOAD := Lib.hid hoad
                clear hoa hoad hos hR2
                go_upto_region 33 with ((with_reducible refine HPO.out.mono ?_); rintro e w20 ⟨rfl, hb20⟩; have HB20 := Lib.hid (HB19.out.trans (hb20.mono hz19)); clear hb20)
                clear HPO q0 q1 q2 q3
                have hz20 := HB20.out.size
                rw [HCQ.out] at hz20
                have HPN := Lib.hid (parse_any oa hoas w20)
                by_cases hom : om = 0
                · subst hom
                  obtain ⟨nl, ⟨zt, ze⟩, hpn, hol, hnl, hzl, ps, hps, hpl, hiff, hor⟩ := w_other HOK.out HRF.out HR2.out
                  rw [HOAD.out, hpn] at HPN
                  simp only at HPN
                  rw [HN.out] at hzl hps
                  rw [HLN.out] at hnl
                  have HNL := Lib.hid hnl
                  have HZL := Lib.hid hzl
                  have HPS := Lib.hid hps
                  have HPT : Hid ((printT (L.take (n + 1) ++ [⟨zt, ze⟩])).length ≤ 65536) := Lib.hid (by
                    obtain ⟨_, h2, _⟩ := okL_of hps
                    rw [← h2]; exact hpl)
                  obtain ⟨pa, hpa⟩ : ∃ pa : ByteArray, (⟨ps.toArray⟩ : ByteArray) = pa := ⟨_, rfl⟩
                  have HPA := Lib.hid hpa
                  have HPAD := Lib.hid (show pa.data.toList = ps by rw [← hpa])
                  obtain ⟨ztb, hztb⟩ : ∃ ztb : ByteArray, (⟨zt.toArray⟩ : ByteArray) = ztb := ⟨_, rfl⟩
                  have HIF := Lib.hid hiff
                  have HOR := Lib.hid hor
                  clear hpn hol hnl hzl hps hpl hpa hiff hor HR2 HOAD hoas
                  obtain ⟨q0, q1, q2, q3⟩ := (HXX.out w20 HB20.out).cells
                  go_upto_region 36 with ((with_reducible refine HPN.out.mono ?_); rintro e w21 ⟨nv, rfl, hs21, hb21⟩; obtain ⟨na, nc, rfl, hnc1, hnc2⟩ := hs21.form; obtain ⟨nb, no, _, rfl, _, _, _, _⟩ := hs21.get HZL.out; rw [HNL.out] at hs21 hnc1 ⊢; have HNS0 := Lib.hid hs21; have HB21 := Lib.hid (HB20.out.trans (hb21.mono hz20)); clear hs21 hb21)
                  have hz21 := HB21.out.size
                  rw [HCQ.out] at hz21
                  unfold maxLen at hnc2
                  have HNS : Hid (SegsAt (fun b => b < w21.heap.size) w21 (.slice (some ⟨nb, no, none⟩) (n + 2) nc) nl) := Lib.hid (HNS0.out.cong (fun b hb => hb.2) (fun _ _ => rfl))
                  clear HPN HNS0 q0 q1 q2 q3
                  go_cut [36] (fun pv wx => pv = .string pa ∧ Hid (Below C w4 wx))
                  case first => as_aux_lemma =>
                    obtain ⟨wd, hwd⟩ : ∃ wd, w21.drew = wd := ⟨_, rfl⟩
                    have HBDR : Hid (Below C w4 wd) := Lib.hid (by rw [← hwd]; exact HB21.out.drew)
                    have hC0 := HBDR.out.size
                    rw [HCQ.out] at hC0
                    have HLX0 := HLX
                    have HNd : Hid (SegsAt (fun b => b < wd.heap.size) wd (.slice (some ⟨nb, no, none⟩) (n + 2) nc) nl) := Lib.hid (HNS.out.cong (fun b hb => by rw [← hwd]; exact hb) (fun b _ => by rw [← hwd]; rfl))
                    obtain ⟨_, _, zx, hA, _, c0, c1, hze⟩ := HNd.out.get HZL.out
                    cases hA
                    obtain ⟨za, zc, rfl, _, _⟩ := hze.form
                    obtain ⟨zm, hzm⟩ : ∃ zm, ze.length = zm := ⟨_, rfl⟩
                    rw [hzm] at c1 hze
                    have hC0' : C < wd.heap.size + 1 := by omega
                    obtain ⟨C2, hC2⟩ : ∃ C2, wd.heap.size = C2 := ⟨_, rfl⟩
                    have hzwd : wd.heap.size ≤ C2 := Nat.le_of_eq hC2
                    have hywd : C2 ≤ wd.heap.size := Nat.le_of_eq hC2.symm
                    have HZTB := Lib.hid (show (⟨zt.toArray⟩ : ByteArray) = ztb from hztb)
                    rw [show sv zt = .string ztb from by unfold sv; rw [hztb]] at c0
                    rw [hC2] at hze hC0
                    have HBwd : Hid (Below C2 wd wd) := Lib.hid (Below.refl _ _)
                    have HLX : Hid (∀ wx, Below C2 wd wx → SegsAt (fun b => b < C2) wx (.slice (some ⟨lb, lo, none⟩) (n + 2) lc) L) := Lib.hid (fun wx hb => (HLX0.out wx (HBDR.out.trans (hb.mono hC0))).cong (fun b hb => by omega) (fun _ _ => rfl))
                    have HZE : Hid (∀ wx, Below C2 wd wx → ElemsAt (fun b => b < C2) wx (.slice za zm zc) ze) := Lib.hid (fun wx hb => hze.cong (fun _ h => h) (fun b h => hb.block b h))
                    have HSK : Hid (∀ wx, Below C2 wd wx → (wx.cell? ⟨nb, no + (n + 1) * 2, none⟩ = some (.string ztb) ∧ wx.cell? ⟨nb, no + (n + 1) * 2 + 1, none⟩ = some (.slice za zm zc))) := Lib.hid (fun wx hb => ⟨(hb.cell (p := ⟨nb, no + (n + 1) * 2, none⟩) (by rw [← hC2]; exact cell_lt' c0)).trans c0, (hb.cell (p := ⟨nb, no + (n + 1) * 2 + 1, none⟩) (by rw [← hC2]; exact cell_lt' c1)).trans c1⟩)
                    have hSd := HSK.out wd (Below.refl _ _)
                    have HCQ2 := Lib.hid hC2
                    clear c0 c1 hze hzm hztb hC2
                    have g1 : IntKind.i64.wrap ((n : Int) + 2 - 1) = (n : Int) + 1 := by rw [show (n : Int) + 2 - 1 = (n : Int) + 1 by omega]; exact IntWalk.i64_in _ (by omega)
                    have g1b : IntKind.i64.wrap ((n : Int) + 1) = (n : Int) + 1 := IntWalk.i64_in _ (by omega)
                    have g2 : (0 : Int) ≤ (n : Int) + 1 := by omega
                    have g3 : ((n : Int) + 1).toNat = n + 1 := by omega
                    have g4 : (n : Int) + 1 ≤ (lc : Int) := by omega
                    have g5 : (n : Int) + 1 < (n : Int) + 2 := by omega
                    refine wp_region_planT (.val 1 (.val 2 (.val 3 (.val 4 (.val 5 (.val 7 (.val 8 (.val 9 (.val 10 (.val 11 (.val 12 (.two 0 (.two 6 (.one 13 (.one 14 (.one 15 (.val 16 (.val 17 (.val 18 (.val 19 (.val 20 .nil)))))))) 13 (.one 6 (.one 14 (.one 15 (.val 16 (.val 17 (.val 18 (.val 19 (.val 20 .nil))))))))) 13 (.one 0 (.one 6 (.one 14 (.one 15 (.val 16 (.val 17 (.val 18 (.val 19 (.val 20 .nil))))))))))))))))))))) (fun u => u.cell? ⟨nb, no + (n + 1) * 2, none⟩ = some (.string ztb) ∧ u.cell? ⟨nb, no + (n + 1) * 2 + 1, none⟩ = some (.slice za zm zc)) (by kernel_rfl) (by kernel_rfl) (by rw [hwd]; exact hSd) ?_
                    rw [hwd]
                    clear hwd hSd
                    iterate 4 (refine' planT_val rfl rfl (fun w' hS => ?_) ?_; rotate_left; (focus (go_simp; rfl)); simp only [Act.put, List.setIfInBounds_toArray, List.set_cons_zero, List.set_cons_succ])
                    refine planT_val (v := .slice (some ⟨lb, lo, none⟩) (n + 1) lc) rfl rfl (fun w' hS => by go_simp) ?_
                    simp only [Act.put, List.setIfInBounds_toArray, List.set_cons_zero, List.set_cons_succ]
                    iterate 6 (refine' planT_val rfl rfl (fun w' hS => ?_) ?_; rotate_left; (focus (obtain ⟨hS1, hS2⟩ := hS; go_simp; rfl)); simp only [Act.put, List.setIfInBounds_toArray, List.set_cons_zero, List.set_cons_succ])
                    clear g1 g1b g2 g3 g4 g5 HLX0
                    refine planT_two ?_ ?_
                    · refine planT_op rfl (fun K hK => ?_)
                      go_wp2_with fail
                      refine hK _ _ (HSK.out _ (HBwd.out.alloc (by omega) _)) ?_
                      clear hK K
                      obtain ⟨De, hDe⟩ : ∃ De, wd.heap.size = De := ⟨_, rfl⟩
                      obtain ⟨w5, hw5⟩ : ∃ w5, wd.alloc (.cells #[] 36) = w5 := ⟨_, rfl⟩
                      have hzw5 : w5.heap.size ≤ De + 1 ∧ De + 1 ≤ w5.heap.size := by rw [← hw5, ← hDe]; simp
                      obtain ⟨hzw5, hyw5⟩ := hzw5
                      have hcDe : C2 ≤ De := by omega
                      have HUw5 : Hid (Below De wd w5) := Lib.hid (by rw [← hw5, ← hDe]; exact (Below.refl _ _).alloc (Nat.le_refl _) _)
                      have HBw5 : Hid (Below C2 wd w5) := Lib.hid (HBwd.out.trans (HUw5.out.mono (by omega)))
                      have HEw5 : Hid (OG C2 w5 (.slice (some ⟨De, 0, none⟩) 0 0) [] []) := Lib.hid (by rw [← hw5, ← hDe]; exact OG.erow (by omega))
                      rw [hw5, hDe]
                      have HDDe := Lib.hid hDe
                      clear hw5 hDe
                      refine planT_two ?_ ?_
                      · refine planT_op rfl (fun K hK => ?_)
                        have HSP : Hid (SegsAt (fun b => b < C2) w5 (.slice (some ⟨lb, lo, none⟩) (n + 1) lc) (L.take (n + 1))) := Lib.hid ((HLX.out w5 HBw5.out).head (by rw [HLN.out]; omega) (by omega) (by unfold maxLen; omega))
                        refine wp_app_ogy _ _ rfl rfl rfl rfl HEw5.out HSP.out (fun b hb => ⟨by omega, fun e => by have e1 : De = b := Option.some.inj e; omega⟩) (by rw [List.length_take, HLN.out]; simp; omega) (by omega) ?_
                        intro v1 w6 xs1 ho1 hb1 hg1 hk1
                        have hzw6 := hg1.size
                        have HBw6 : Hid (Below C2 wd w6) := Lib.hid (HBw5.out.trans hb1)
                        have HOw6 : Hid (OG C2 w6 v1 xs1 (L.take (n + 1))) := Lib.hid (by have h1 := ho1; rw [List.nil_append] at h1; exact h1)
                        obtain ⟨va, vc, rfl⟩ := own_slice ho1.row
                        have hl1 : ([] ++ (L.take (n + 1)) : List Seg).length = n + 1 := by rw [List.nil_append, List.length_take, HLN.out]; omega
                        rw [hl1] at HOw6 ⊢
                        clear ho1 hb1 hg1 hk1 hl1
                        go_wp2_with fail
                        refine hK _ _ (HSK.out _ HBw6.out) ?_
                        clear hK K
                        refine planT_do rfl (fun K hK => ?_)
                        go_wp2_with fail
                        refine hK _ _ (HSK.out _ (HBw6.out.alloc (by omega) _)) ?_
                        clear hK K
                        have HEL : Hid (ElemsAt (fun b => b < C2) w6 (.slice za zm zc) ze) := Lib.hid (HZE.out w6 HBw6.out)
                        obtain ⟨Dn, hDn⟩ : ∃ Dn, w6.heap.size = Dn := ⟨_, rfl⟩
                        obtain ⟨wT, hwT⟩ : ∃ wT, w6.alloc (.cells #[.string ztb, .slice za zm zc] 36) = wT := ⟨_, rfl⟩
                        have hzwT : wT.heap.size ≤ Dn + 1 ∧ Dn + 1 ≤ wT.heap.size := by rw [← hwT, ← hDn]; simp
                        obtain ⟨hzwT, hywT⟩ := hzwT
                        have hcDn : C2 ≤ Dn := by omega
                        have hden : De < Dn := by omega
                        have HUwT : Hid (Below Dn w6 wT) := Lib.hid (by rw [← hwT, ← hDn]; exact (Below.refl _ _).alloc (Nat.le_refl _) _)
                        have HBwT : Hid (Below C2 wd wT) := Lib.hid (HBw6.out.trans (HUwT.out.mono (by omega)))
                        have HNwT : Hid (SegsAt (fun b => b < C2 ∨ b = Dn) wT (.slice (some ⟨Dn, 0, none⟩) 1 1) [⟨zt, ze⟩]) := Lib.hid (by rw [← hwT]; exact seg_lit hDn HZTB.out HEL.out (by omega))
                        have HOwT : Hid (OG C2 wT (.slice va (n + 1) vc) xs1 (L.take (n + 1))) := Lib.hid (HOw6.out.below (by rw [hDn]; exact HUwT.out))
                        have hne : (Value.slice va (n + 1) vc).ownBlock ≠ some Dn := fun e => by have h1 := (own_lt HOw6.out.row e).2; omega
                        rw [hwT, hDn]
                        have HDDn := Lib.hid hDn
                        clear hwT hDn
                        refine planT_do rfl (fun K hK => ?_)
                        refine wp_app_ogy _ _ rfl rfl rfl rfl HOwT.out HNwT.out (fun b hb => ⟨by omega, fun e => by rcases hb with hb | hb; (have h1 := (own_lt HOwT.out.row e).1; omega); exact hne (hb ▸ e)⟩) (by rw [List.length_take, HLN.out]; simp; omega) (by omega) ?_
                        intro v2 w7 xs2 ho2 hb2 _ _
                        obtain ⟨vb, vd, rfl⟩ := own_slice ho2.row
                        have hl2 : (L.take (n + 1) ++ [⟨zt, ze⟩] : List Seg).length = n + 2 := by rw [List.length_append, List.length_take, HLN.out]; simp
                        have HRS := ho2.rest
                        rw [hl2] at HRS ⊢
                        have HBw7 := Lib.hid (HBwT.out.trans hb2)
                        have HPR := Lib.hid (print_any w7 _ _ HRS (by have := HPT.out; omega))
                        rw [HPS.out] at HPR
                        simp only [sv, HPA.out] at HPR
                        clear ho2 hb2 hl2 HRS
                        go_wp2_with fail
                        refine hK _ _ (HSK.out _ HBw7.out) ?_
                        clear hK K
                        refine planT_do rfl (fun K hK => ?_)
                        go_wp2_with fail
                        refine HPR.out.mono ?_
                        rintro e w9 ⟨rfl, hb9⟩
                        have hz7 := HBw7.out.size
                        have HBw9 : Hid (Below C2 wd w9) := Lib.hid (HBw7.out.trans (hb9.mono (by omega)))
                        clear hb9 HPR
                        go_wp2_with fail
                        refine hK _ _ (HSK.out _ HBw9.out) ?_
                        clear hK K
                        iterate 5 (refine' planT_val rfl rfl (fun w' hS => ?_) ?_; rotate_left; (focus (go_simp; rfl)); simp only [Act.put, List.setIfInBounds_toArray, List.set_cons_zero, List.set_cons_succ])
                        refine planT_nil ?_
                        go_wp2_with fail
                        go_meet
                        case rel => exact ⟨rfl, Lib.hid (HBDR.out.trans (HBw9.out.mono hC0))⟩
                      · refine planT_op rfl (fun K hK => ?_)
                        go_wp2_with fail
                        refine hK _ _ (HSK.out _ (HBw5.out.alloc (by omega) _)) ?_
                        clear hK K
                        have HEL : Hid (ElemsAt (fun b => b < C2) w5 (.slice za zm zc) ze) := Lib.hid (HZE.out w5 HBw5.out)
                        obtain ⟨Dn, hDn⟩ : ∃ Dn, w5.heap.size = Dn := ⟨_, rfl⟩
                        obtain ⟨w6, hw6⟩ : ∃ w6, w5.alloc (.cells #[.string ztb, .slice za zm zc] 36) = w6 := ⟨_, rfl⟩
                        have hzw6 : w6.heap.size ≤ Dn + 1 ∧ Dn + 1 ≤ w6.heap.size := by rw [← hw6, ← hDn]; simp
                        obtain ⟨hzw6, hyw6⟩ := hzw6
                        have hcDn : C2 ≤ Dn := by omega
                        have hden : De < Dn := by omega
                        have HUw6 : Hid (Below Dn w5 w6) := Lib.hid (by rw [← hw6, ← hDn]; exact (Below.refl _ _).alloc (Nat.le_refl _) _)
                        have HBw6 : Hid (Below C2 wd w6) := Lib.hid (HBw5.out.trans (HUw6.out.mono (by omega)))
                        have HNw6 : Hid (SegsAt (fun b => b < C2 ∨ b = Dn) w6 (.slice (some ⟨Dn, 0, none⟩) 1 1) [⟨zt, ze⟩]) := Lib.hid (by rw [← hw6]; exact seg_lit hDn HZTB.out HEL.out (by omega))
                        have HEw6 : Hid (OG C2 w6 (.slice (some ⟨De, 0, none⟩) 0 0) [] []) := Lib.hid (HEw5.out.below (by rw [hDn]; exact HUw6.out))
                        rw [hw6, hDn]
                        have HDDn := Lib.hid hDn
                        clear hw6 hDn
                        refine planT_do rfl (fun K hK => ?_)
                        have HSP : Hid (SegsAt (fun b => b < C2) w6 (.slice (some ⟨lb, lo, none⟩) (n + 1) lc) (L.take (n + 1))) := Lib.hid ((HLX.out w6 HBw6.out).head (by rw [HLN.out]; omega) (by omega) (by unfold maxLen; omega))
                        refine wp_app_ogy _ _ rfl rfl rfl rfl HEw6.out HSP.out (fun b hb => ⟨by omega, fun e => by have e1 : De = b := Option.some.inj e; omega⟩) (by rw [List.length_take, HLN.out]; simp; omega) (by omega) ?_
                        intro v1 wT xs1 ho1 hb1 hg1 hk1
                        have hzwT := hg1.size
                        have HBwT : Hid (Below C2 wd wT) := Lib.hid (HBw6.out.trans hb1)
                        have HOwT : Hid (OG C2 wT v1 xs1 (L.take (n + 1))) := Lib.hid (by have h1 := ho1; rw [List.nil_append] at h1; exact h1)
                        have HNwT : Hid (SegsAt (fun b => b < C2 ∨ b = Dn) wT (.slice (some ⟨Dn, 0, none⟩) 1 1) [⟨zt, ze⟩]) := Lib.hid (HNw6.out.cong (fun _ h => h) (fun b hb => hg1.block b (by omega) (fun e => by have e1 : De = b := Option.some.inj e.symm; omega)))
                        have hne : v1.ownBlock ≠ some Dn := fun e => by
                          rcases hk1 with h | h
                          · have e1 : De = Dn := Option.some.inj (h.symm.trans e)
                            omega
                          · have e1 : w6.heap.size = Dn := Option.some.inj (h.symm.trans e)
                            omega
                        obtain ⟨va, vc, rfl⟩ := own_slice ho1.row
                        have hl1 : ([] ++ (L.take (n + 1)) : List Seg).length = n + 1 := by rw [List.nil_append, List.length_take, HLN.out]; omega
                        rw [hl1] at HOwT ⊢
                        rw [hl1] at hne
                        clear ho1 hb1 hg1 hk1 hl1
                        go_wp2_with fail
                        refine hK _ _ (HSK.out _ HBwT.out) ?_
                        clear hK K
                        refine planT_do rfl (fun K hK => ?_)
                        refine wp_app_ogy _ _ rfl rfl rfl rfl HOwT.out HNwT.out (fun b hb => ⟨by omega, fun e => by rcases hb with hb | hb; (have h1 := (own_lt HOwT.out.row e).1; omega); exact hne (hb ▸ e)⟩) (by rw [List.length_take, HLN.out]; simp; omega) (by omega) ?_
                        intro v2 w7 xs2 ho2 hb2 _ _
                        obtain ⟨vb, vd, rfl⟩ := own_slice ho2.row
                        have hl2 : (L.take (n + 1) ++ [⟨zt, ze⟩] : List Seg).length = n + 2 := by rw [List.length_append, List.length_take, HLN.out]; simp
                        have HRS := ho2.rest
                        rw [hl2] at HRS ⊢
                        have HBw7 := Lib.hid (HBwT.out.trans hb2)
                        have HPR := Lib.hid (print_any w7 _ _ HRS (by have := HPT.out; omega))
                        rw [HPS.out] at HPR
                        simp only [sv, HPA.out] at HPR
                        clear ho2 hb2 hl2 HRS
                        go_wp2_with fail
                        refine hK _ _ (HSK.out _ HBw7.out) ?_
                        clear hK K
                        refine planT_do rfl (fun K hK => ?_)
                        go_wp2_with fail
                        refine HPR.out.mono ?_
                        rintro e w9 ⟨rfl, hb9⟩
                        have hz7 := HBw7.out.size
                        have HBw9 : Hid (Below C2 wd w9) := Lib.hid (HBw7.out.trans (hb9.mono (by omega)))
                        clear hb9 HPR
                        go_wp2_with fail
                        refine hK _ _ (HSK.out _ HBw9.out) ?_
                        clear hK K
                        iterate 5 (refine' planT_val rfl rfl (fun w' hS => ?_) ?_; rotate_left; (focus (go_simp; rfl)); simp only [Act.put, List.setIfInBounds_toArray, List.set_cons_zero, List.set_cons_succ])
                        refine planT_nil ?_
                        go_wp2_with fail
                        go_meet
                        case rel => exact ⟨rfl, Lib.hid (HBDR.out.trans (HBw9.out.mono hC0))⟩
                    · refine planT_op rfl (fun K hK => ?_)
                      go_wp2_with fail
                      refine hK _ _ (HSK.out _ (HBwd.out.alloc (by omega) _)) ?_
                      clear hK K
                      have HEL : Hid (ElemsAt (fun b => b < C2) wd (.slice za zm zc) ze) := Lib.hid (HZE.out wd HBwd.out)
                      obtain ⟨Dn, hDn⟩ : ∃ Dn, wd.heap.size = Dn := ⟨_, rfl⟩
                      obtain ⟨w5, hw5⟩ : ∃ w5, wd.alloc (.cells #[.string ztb, .slice za zm zc] 36) = w5 := ⟨_, rfl⟩
                      have hzw5 : w5.heap.size ≤ Dn + 1 ∧ Dn + 1 ≤ w5.heap.size := by rw [← hw5, ← hDn]; simp
                      obtain ⟨hzw5, hyw5⟩ := hzw5
                      have hcDn : C2 ≤ Dn := by omega
                      have HUw5 : Hid (Below Dn wd w5) := Lib.hid (by rw [← hw5, ← hDn]; exact (Below.refl _ _).alloc (Nat.le_refl _) _)
                      have HBw5 : Hid (Below C2 wd w5) := Lib.hid (HBwd.out.trans (HUw5.out.mono (by omega)))
                      have HNw5 : Hid (SegsAt (fun b => b < C2 ∨ b = Dn) w5 (.slice (some ⟨Dn, 0, none⟩) 1 1) [⟨zt, ze⟩]) := Lib.hid (by rw [← hw5]; exact seg_lit hDn HZTB.out HEL.out (by omega))
                      rw [hw5, hDn]
                      have HDDn := Lib.hid hDn
                      clear hw5 hDn
                      refine planT_do rfl (fun K hK => ?_)
                      go_wp2_with fail
                      refine hK _ _ (HSK.out _ (HBw5.out.alloc (by omega) _)) ?_
                      clear hK K
                      obtain ⟨De, hDe⟩ : ∃ De, w5.heap.size = De := ⟨_, rfl⟩
                      obtain ⟨w6, hw6⟩ : ∃ w6, w5.alloc (.cells #[] 36) = w6 := ⟨_, rfl⟩
                      have hzw6 : w6.heap.size ≤ De + 1 ∧ De + 1 ≤ w6.heap.size := by rw [← hw6, ← hDe]; simp
                      obtain ⟨hzw6, hyw6⟩ := hzw6
                      have hcDe : C2 ≤ De := by omega
                      have hden : Dn < De := by omega
                      have HUw6 : Hid (Below De w5 w6) := Lib.hid (by rw [← hw6, ← hDe]; exact (Below.refl _ _).alloc (Nat.le_refl _) _)
                      have HBw6 : Hid (Below C2 wd w6) := Lib.hid (HBw5.out.trans (HUw6.out.mono (by omega)))
                      have HEw6 : Hid (OG C2 w6 (.slice (some ⟨De, 0, none⟩) 0 0) [] []) := Lib.hid (by rw [← hw6, ← hDe]; exact OG.erow (by omega))
                      have HNw6 : Hid (SegsAt (fun b => b < C2 ∨ b = Dn) w6 (.slice (some ⟨Dn, 0, none⟩) 1 1) [⟨zt, ze⟩]) := Lib.hid (HNw5.out.cong (fun _ h => h) (fun b hb => HUw6.out.block b (by omega)))
                      rw [hw6, hDe]
                      have HDDe := Lib.hid hDe
                      clear hw6 hDe
                      refine planT_do rfl (fun K hK => ?_)
                      have HSP : Hid (SegsAt (fun b => b < C2) w6 (.slice (some ⟨lb, lo, none⟩) (n + 1) lc) (L.take (n + 1))) := Lib.hid ((HLX.out w6 HBw6.out).head (by rw [HLN.out]; omega) (by omega) (by unfold maxLen; omega))
                      refine wp_app_ogy _ _ rfl rfl rfl rfl HEw6.out HSP.out (fun b hb => ⟨by omega, fun e => by have e1 : De = b := Option.some.inj e; omega⟩) (by rw [List.length_take, HLN.out]; simp; omega) (by omega) ?_
                      intro v1 wT xs1 ho1 hb1 hg1 hk1
                      have hzwT := hg1.size
                      have HBwT : Hid (Below C2 wd wT) := Lib.hid (HBw6.out.trans hb1)
                      have HOwT : Hid (OG C2 wT v1 xs1 (L.take (n + 1))) := Lib.hid (by have h1 := ho1; rw [List.nil_append] at h1; exact h1)
                      have HNwT : Hid (SegsAt (fun b => b < C2 ∨ b = Dn) wT (.slice (some ⟨Dn, 0, none⟩) 1 1) [⟨zt, ze⟩]) := Lib.hid (HNw6.out.cong (fun _ h => h) (fun b hb => hg1.block b (by omega) (fun e => by have e1 : De = b := Option.some.inj e.symm; omega)))
                      have hne : v1.ownBlock ≠ some Dn := fun e => by
                        rcases hk1 with h | h
                        · have e1 : De = Dn := Option.some.inj (h.symm.trans e)
                          omega
                        · have e1 : w6.heap.size = Dn := Option.some.inj (h.symm.trans e)
                          omega
                      obtain ⟨va, vc, rfl⟩ := own_slice ho1.row
                      have hl1 : ([] ++ (L.take (n + 1)) : List Seg).length = n + 1 := by rw [List.nil_append, List.length_take, HLN.out]; omega
                      rw [hl1] at HOwT ⊢
                      rw [hl1] at hne
                      clear ho1 hb1 hg1 hk1 hl1
                      go_wp2_with fail
                      refine hK _ _ (HSK.out _ HBwT.out) ?_
                      clear hK K
                      refine planT_do rfl (fun K hK => ?_)
                      refine wp_app_ogy _ _ rfl rfl rfl rfl HOwT.out HNwT.out (fun b hb => ⟨by omega, fun e => by rcases hb with hb | hb; (have h1 := (own_lt HOwT.out.row e).1; omega); exact hne (hb ▸ e)⟩) (by rw [List.length_take, HLN.out]; simp; omega) (by omega) ?_
                      intro v2 w7 xs2 ho2 hb2 _ _
                      obtain ⟨vb, vd, rfl⟩ := own_slice ho2.row
                      have hl2 : (L.take (n + 1) ++ [⟨zt, ze⟩] : List Seg).length = n + 2 := by rw [List.length_append, List.length_take, HLN.out]; simp
                      have HRS := ho2.rest
                      rw [hl2] at HRS ⊢
                      have HBw7 := Lib.hid (HBwT.out.trans hb2)
                      have HPR := Lib.hid (print_any w7 _ _ HRS (by have := HPT.out; omega))
                      rw [HPS.out] at HPR
                      simp only [sv, HPA.out] at HPR
                      clear ho2 hb2 hl2 HRS
                      go_wp2_with fail
                      refine hK _ _ (HSK.out _ HBw7.out) ?_
                      clear hK K
                      refine planT_do rfl (fun K hK => ?_)
                      go_wp2_with fail
                      refine HPR.out.mono ?_
                      rintro e w9 ⟨rfl, hb9⟩
                      have hz7 := HBw7.out.size
                      have HBw9 : Hid (Below C2 wd w9) := Lib.hid (HBw7.out.trans (hb9.mono (by omega)))
                      clear hb9 HPR
                      go_wp2_with fail
                      refine hK _ _ (HSK.out _ HBw9.out) ?_
                      clear hK K
                      iterate 5 (refine' planT_val rfl rfl (fun w' hS => ?_) ?_; rotate_left; (focus (go_simp; rfl)); simp only [Act.put, List.setIfInBounds_toArray, List.set_cons_zero, List.set_cons_succ])
                      refine planT_nil ?_
                      go_wp2_with fail
                      go_meet
                      case rel => exact ⟨rfl, Lib.hid (HBDR.out.trans (HBw9.out.mono hC0))⟩
                  case rest => as_aux_lemma =>
                    obtain ⟨rfl, HB22⟩ := hcut
                    obtain ⟨w22, hw22⟩ : ∃ w22, w22 = wc := ⟨_, rfl⟩
                    rw [← hw22] at HB22 ⊢
                    clear hw22 HB21 HB20 HB19 HB18 HB17 hz17 hz19 hz20 hz21 HNS
                    have hz22 := HB22.out.size
                    rw [HCQ.out] at hz22
                    obtain ⟨q, hq⟩ : ∃ q, wrapParseE pa.data.toList = q := ⟨_, rfl⟩
                    obtain ⟨yp, pk⟩ := q
                    have HPP := Lib.hid (wParse_is (s := pa) (w := w22) (HVX.out w22 HB22.out) hq)
                    unfold WPQ wv at HPP
                    have hpk : (wrapParseE ps).2 = pk := by rw [← HPAD.out, hq]
                    have hif := HIF.out
                    have hor := HOR.out
                    rw [hpk] at hif hor
                    have HXF : Hid (BoxAt w22 B x (.slice ao n cap)) := Lib.hid (HXX.out w22 HB22.out)
                    have hcase : (pk = 0 ∧ rf = x.rf) ∨ (pk = 42 ∧ rf ≠ x.rf) := by
                      rcases hor with h | h
                      · exact .inl ⟨h, hif.1 h⟩
                      · exact .inr ⟨h, fun e => by have h2 := hif.2 e; rw [h] at h2; exact absurd h2 (by decide)⟩
                    clear hq hpk hif hor HIF HOR
                    rcases hcase with ⟨rfl, he⟩ | ⟨rfl, he⟩
                    all_goals
                      go_upto_region 38 with ((with_reducible refine HPP.out.mono ?_); rintro e w23 ⟨yv, rfl, hs23, hb23⟩; obtain ⟨ya, yc, rfl, _, _⟩ := hs23.form; have HB23 := Lib.hid (HB22.out.trans (hb23.mono hz22)); clear hs23 hb23)
                      generalize hw24 : World.alloc w23 _ = w24
                      have hz23 := HB23.out.size
                      rw [HCQ.out] at hz23
                      have HB24 : Hid (Below C w4 w24) := Lib.hid (by rw [← hw24]; exact HB23.out.alloc hz23 _)
                      obtain ⟨q0, q1, q2, q3⟩ := (HXX.out w24 HB24.out).cells
                      clear hw24 HPP
                    · have r1 : ((rf : Int) == (x.rf : Int)) = true := by rw [beq_iff_eq]; omega
                      clear he
                      go_wp2_with ((with_reducible refine (wraps_any _ (HVX.out _ HB24.out)).mono ?_); rintro e w25 ⟨rfl, hb25⟩; have HB25 := Lib.hid hb25; clear hb25)
                      go_ret
                      have h1 := (HBX.out _ HB24.out).size
                      rw [HBQ.out] at h1
                      exact ⟨rfl, (HBX.out _ HB24.out).trans (HB25.out.mono h1)⟩
                    · have r1 : ((rf : Int) == (x.rf : Int)) = false := by rw [beq_eq_false_iff_ne]; omega
                      clear he
                      go_wp2_with ((with_reducible refine (wraps_any _ (HVX.out _ HB24.out)).mono ?_); rintro e w25 ⟨rfl, hb25⟩; have HB25 := Lib.hid hb25; clear hb25)
                      go_ret
                      have h1 := (HBX.out _ HB24.out).size
                      rw [HBQ.out] at h1
                      exact ⟨rfl, (HBX.out _ HB24.out).trans (HB25.out.mono h1)⟩
                · have d0 : (om != 0) = true := by rw [bne_iff_ne]; exact hom
                  clear hom HR2 HOAD
                  go_wp2_with (first
                    | ((with_reducible refine HPN.out.mono ?_); rintro e w21 ⟨nv, rfl, hs21, hb21⟩; obtain ⟨na, nc, rfl, _, _⟩ := hs21.form; have HB21 := Lib.hid (HB20.out.trans (hb21.mono hz20)); clear hs21 hb21)
                    | ((with_reducible refine (wraps_any _ (HVX.out _ HB21.out)).mono ?_); rintro e w22 ⟨rfl, hb22⟩; have HB22 := Lib.hid hb22; clear hb22))
                  go_ret
                  have h1 := (HBX.out _ HB21.out).size
                  rw [HBQ.out] at h1
                  exact ⟨rfl, (HBX.out _ HB21.out).trans (HB22.out.mono h1)⟩
    · skip
      have d0 : (rn != 0) = true := by rw [bne_iff_ne]; exact hrn
      clear hrn
      go_wp2_with ((with_reducible refine (wraps_any _ HV3.out).mono ?_); rintro e w9 ⟨rfl, hb9⟩; have HB9 := Lib.hid hb9; clear hb9)
      go_ret
      exact ⟨rfl, HBW3.out.trans (HB9.out.mono hz3')⟩
end Go.Proofs.YteaaiejfieaalaaGreatDoor
