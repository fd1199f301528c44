/-
  Texts SealD, SealE, MsgV2, NumX, NumY, NumA, PlanT, NumB, MsgY1, WrapR, MsgY2, WrapI, WrapJ, one behind the other. No condition beyond those stated in each.
-/
import Derived.Test.YtgfijlamhjjecaaGreatDoorMv12
import Derived.Lib.ConvBytes
import Derived.Deep.DeepAppendWide
import Derived.Test.YtgfijlamhjjecaaGreatDoorMv7
import Derived.Test.YtgfijlamhjjecaaGreatDoorMv1
import Derived.Test.YtgfijlamhjjecaaGreatDoorMv11
import Derived.Test.YtgfijlamhjjecaaGreatDoorMv9
import Derived.Test.YtgfijlamhjjecaaGreatDoorMv10
import Derived.Test.YtgfijlamhjjecaaGreatDoorMv8
namespace Go.Proofs.YtgfijlamhjjecaaGreatDoor
open Go.RowKit
theorem good_no_len {M : List (List Str)} (h : ¬ (2 ≤ M.length ∧ M.length ≤ 8)) : goodB M = false := by
 cases hg : goodB M with
 | false => rfl
 | true => unfold goodB at hg; simp only [Bool.and_eq_true, decide_eq_true_eq] at hg; exact absurd ⟨hg.1.1.1, hg.1.1.2⟩ h
theorem good_no_row {M : List (List Str)} {i : Nat} {r : List Str} (hi : M[i]? = some r) (h : r.length ≠ M.length) : goodB M = false := by
 cases hg : goodB M with
 | false => rfl
 | true =>
   unfold goodB at hg
   simp only [Bool.and_eq_true, decide_eq_true_eq, List.all_eq_true] at hg
   exact absurd (hg.1.2 r (List.mem_of_getElem? hi)) h
theorem good_no_seen {M : List (List Str)} {i k : Nat} (hi : i < M.length) (hk : k ≤ M.length) (h : goodL (seenKs M i k) = false) : goodB M = false := by
 cases hg : goodB M with
 | false => rfl
 | true => rw [good_seen hg hi hk] at h; cases h
theorem seen_skip (M : List (List Str)) (i : Nat) : seenKs M i (i + 1) = seenKs M i i := by unfold seenKs; rw [rowKs_skip]
theorem seen_more (M : List (List Str)) {i k : Nat} (h : k ≠ i) : seenKs M i (k + 1) = seenKs M i k ++ [keyAt M i k] := by unfold seenKs; rw [rowKs_more _ h, ← List.append_assoc]; rfl
theorem seen_row (M : List (List Str)) (i : Nat) : seenKs M (i + 1) 0 = seenKs M i M.length := by
 unfold seenKs
 rw [allKs_more]
 simp [rowKs]
theorem good_all {M : List (List Str)} (h1 : 2 ≤ M.length) (h2 : M.length ≤ 8) (h3 : ∀ j, j < M.length → (M.getD j []).length = M.length) (h4 : goodL (seenKs M M.length 0) = true) : goodB M = true := by
 unfold goodB
 simp only [Bool.and_eq_true, decide_eq_true_eq, List.all_eq_true]
 refine ⟨⟨⟨h1, h2⟩, fun r hr => ?_⟩, ?_⟩
 · obtain ⟨j, hj, rfl⟩ := List.getElem_of_mem hr
   have := h3 j hj
   rw [List.getD_eq_getElem?_getD, List.getElem?_eq_getElem hj] at this
   exact this
 · unfold seenKs at h4
   simpa [rowKs] using h4
set_option maxRecDepth 100000 in
set_option maxHeartbeats 16000000 in
theorem gnew_any {S : Nat → Prop} (M : List (List Str)) (v : Value) (w : World) (h : BsssAt S w v M) (hS : ∀ k, S k → k < w.heap.size) :
  Calls Tryz.prog 29 #[v] w fun e w' => GNewQ M w e w' := by
 obtain ⟨B, hB⟩ : ∃ B, w.heap.size = B := ⟨_, rfl⟩
 have HBQ := Lib.hid hB
 obtain ⟨vo, cap, rfl, k1, k2⟩ := h.form
 obtain ⟨n, hn⟩ : ∃ n, M.length = n := ⟨_, rfl⟩
 rw [hn] at h k1 ⊢
 unfold maxLen at k2
 have HN := Lib.hid hn
 have HI0 := Lib.hid h
 have HSB : Hid (∀ k, S k → k < B) := Lib.hid (by rw [← hB]; exact hS)
 have hmm := @run_makeMap Tryz.prog
 clear hB h hS hn
 go_enter Tryz.func29, Tryz.ntmps29
 go_upto_region 2 with fail
 rw [HBQ.out]
 obtain ⟨w2, hw2⟩ : ∃ u, (w.alloc (.map #[] 0)).alloc (.cells #[.int .i64 (n : Int), .map (some B)] 136) = u := ⟨_, rfl⟩
 rw [hw2]
 have HX2 : Hid (w2.heap[B]? = some (.map #[] 0) ∧ w2.heap[B + 1]? = some (.cells #[.int .i64 (n : Int), .map (some B)] 136 (0, 0)) ∧ w2.heap.size = B + 2 ∧ Below B w w2) := Lib.hid (by
  have h1 := heap_alloc_new w (.map #[] 0)
  have h2 := heap_alloc_new (w.alloc (.map #[] 0)) (.cells #[.int .i64 (n : Int), .map (some B)] 136)
  have hs : (w.alloc (.map #[] 0)).heap.size = B + 1 := by simp [HBQ.out]
  rw [HBQ.out] at h1
  rw [hs] at h2
  rw [← hw2]
  refine ⟨(Below.heap_alloc _ _ _ (by rw [hs]; omega)).trans h1, h2, by simp [HBQ.out], ?_⟩
  rw [← HBQ.out]
  exact ((Below.refl _ _).alloc (Nat.le_refl _) _).alloc (by simp) _)
 clear hw2 hmm
 have c0 : w2.cell? ⟨B + 1, 0, none⟩ = some (.int .i64 (n : Int)) := cell_of_row w2 (B + 1) 0 _ _ _ HX2.out.2.1
 by_cases hnb : 2 ≤ n ∧ n ≤ 8
 · have b1 : (2 : Int) ≤ n := by omega
   have b2 : (n : Int) ≤ 8 := by omega
   have hmm := @run_makeMap Tryz.prog
   go_upto_region 5 with fail
   clear hmm c0
   rw [HX2.out.2.2.1]
   obtain ⟨w3, hw3⟩ : ∃ u, w2.alloc (.map #[] 0) = u := ⟨_, rfl⟩
   rw [hw3]
   have HP3 : Hid (PartG w3 B M (seenKs M 0 0) (flK n 0 0)) := Lib.hid (by
    have h1 := heap_alloc_new w2 (.map #[] 0)
    rw [HX2.out.2.2.1, hw3] at h1
    have h2 : ∀ j, j < B + 2 → w3.heap[j]? = w2.heap[j]? := fun j hj => by rw [← hw3]; exact Below.heap_alloc _ _ _ (by rw [HX2.out.2.2.1]; exact hj)
    refine ⟨[], 0, [], 0, by rw [HN.out]; exact (h2 _ (by omega)).trans HX2.out.2.1, (h2 _ (by omega)).trans HX2.out.1, h1, fun a b => ?_, fun a b v hv => (by cases hv), fun t => ?_⟩
    · unfold flK; simp [findG]
    · simp [findG, seenKs, allKs, rowKs])
   have HB3 : Hid (Below B w w3) := Lib.hid (by rw [← hw3]; exact HX2.out.2.2.2.alloc (by rw [HX2.out.2.2.1]; omega) _)
   clear hw3
   go_wp2_with fail
   go_loopw [30] (fun iv wr => ∃ i : Nat, i ≤ n ∧ iv = .int .i64 (i : Int) ∧ Hid (goodL (seenKs M i 0) = true ∧ ∀ j, j < i → (M.getD j []).length = n) ∧ Hid (PartG wr B M (seenKs M i 0) (flK n i 0)) ∧ Hid (Below B w wr)) (fun iv _ => n - (intOf iv).toNat)
   case atStart => exact ⟨0, Nat.zero_le _, rfl, Lib.hid ⟨rfl, fun j hj => by omega⟩, HP3, HB3⟩
   case round =>
    obtain ⟨i, hi, rfl, HGD, HPR, HBR⟩ := hrel
    by_cases hlt : i < n
    · have b3 : (0 : Int) ≤ i := by omega
      have b4 : (i : Int) < n := by omega
      have b5 : (i : Int) < 9 := by omega
      obtain ⟨row, hrow⟩ : ∃ r, M[i]? = some r := ⟨_, List.getElem?_eq_getElem (by rw [HN.out]; exact hlt)⟩
      have hrd : M.getD i [] = row := by rw [List.getD_eq_getElem?_getD, hrow]; rfl
      obtain ⟨vb, voff, x, hA, hSb, c1w, hel⟩ := HI0.out.get hrow
      obtain rfl : vo = some ⟨vb, voff, none⟩ := hA
      obtain ⟨ro, rc, rfl, r1, r2⟩ := hel.form
      unfold maxLen at r2
      obtain ⟨m, hm⟩ : ∃ m, row.length = m := ⟨_, rfl⟩
      rw [hm] at c1w r1 hel
      have c1 := (HBR.out.cell (p := ⟨vb, voff + i, none⟩) (HSB.out vb hSb)).trans c1w
      have HEL := Lib.hid hel
      have HRD := Lib.hid hrd
      have HM := Lib.hid hm
      have HROW := Lib.hid hrow
      have c0 := HPR.out.cell.1
      rw [HN.out] at c0
      clear hel hrd hrow c1w
      by_cases hmn : m = n
      · subst hmn
        have d1 : ((m : Int) != (m : Int)) = false := by simp
        clear hm
        have HPR2 : Hid (PartG wr B M (seenKs M i 0) (flK m i 0)) := HPR
        go_wp2_with fail
        clear c0 c1
        obtain ⟨wo, hwo⟩ : ∃ wo : World, wo = wr := ⟨_, rfl⟩
        rw [← hwo] at HPR2 HBR ⊢
        clear hwo HPR
        go_loopw [44] (fun kv wr => ∃ k : Nat, k ≤ m ∧ kv = .int .i64 (k : Int) ∧ Hid (goodL (seenKs M i k) = true) ∧ Hid (PartG wr B M (seenKs M i k) (flK m i k)) ∧ Hid (Below B w wr)) (fun kv _ => m - (intOf kv).toNat)
        case atStart => exact ⟨0, Nat.zero_le _, rfl, Lib.hid HGD.out.1, HPR2, HBR⟩
        case round =>
         obtain ⟨k, hk, rfl, HGK, HPK, HBK⟩ := hrel
         by_cases hkl : k < m
         · have e1 : (0 : Int) ≤ k := by omega
           have e2 : (k : Int) < m := by omega
           obtain ⟨key, hkey⟩ : ∃ s, row[k]? = some s := ⟨_, List.getElem?_eq_getElem (by rw [HM.out]; exact hkl)⟩
           have hka : keyAt M i k = key := by unfold keyAt; rw [HRD.out, List.getD_eq_getElem?_getD, hkey]; rfl
           obtain ⟨eb, eoff, x2, hA2, heb, f1w, hky⟩ := HEL.out.get hkey
           obtain rfl : ro = some ⟨eb, eoff, none⟩ := hA2
           have hkr : RowAt (fun j => j < B) wr x2 (key.map bv) := hky.cong (fun j hj => HSB.out j hj) (fun j hj => HBK.out.block j (HSB.out j hj))
           obtain ⟨ko, kc, rfl, q1, q2⟩ := hkr.form
           rw [List.length_map] at q1 f1w hkr
           unfold maxLen at q2
           obtain ⟨kl, hkln⟩ : ∃ n, key.length = n := ⟨_, rfl⟩
           rw [hkln] at q1 f1w hkr
           have c1 := (HBK.out.cell (p := ⟨eb, eoff + k, none⟩) (HSB.out eb heb)).trans f1w
           have HKR := Lib.hid hkr
           have HKA := Lib.hid hka
           have HKL := Lib.hid hkln
           clear hkey hka hky f1w hkr hkln
           by_cases hik : k = i
           · subst hik
             have d2 : ((k : Int) == (k : Int)) = true := by simp
             have HSK : Hid (seenKs M k (k + 1) = seenKs M k k) := Lib.hid (seen_skip M k)
             go_wp2_with fail
             go_roundw
             case rel => exact ⟨k + 1, by omega, by go_num, Lib.hid (by rw [HSK.out]; exact HGK.out), Lib.hid (by
              rw [HSK.out]
              exact HPK.out.iff (fun a b => by unfold flK; constructor <;> (rintro ⟨h1, h2, h3, h4⟩; exact ⟨h1, h2, h3, by omega⟩))), HBK⟩
             case measure => simp [intOf]; omega
           · have d2 : ((i : Int) == (k : Int)) = false := by rw [beq_eq_false_iff_ne]; omega
             have HSK : Hid (seenKs M i (k + 1) = seenKs M i k ++ [keyAt M i k]) := Lib.hid (seen_more M hik)
             have HBAD : Hid ((decide (1 ≤ kl) && decide (kl ≤ 64) && decide (keyAt M i k ∉ seenKs M i k)) = false → goodB M = false) := Lib.hid (fun hb => good_no_seen (i := i) (k := k + 1) (by rw [HN.out]; exact hlt) (by rw [HN.out]; omega) (by rw [HSK.out, goodL_snoc, HKA.out, HKL.out]; rw [HKA.out] at hb; rw [hb, Bool.and_false]))
             by_cases hk1 : kl < 1
             · have d3 : (kl : Int) < 1 := by omega
               have HG : Hid (goodB M = false) := Lib.hid (HBAD.out (by rw [decide_eq_false (by omega : ¬ 1 ≤ kl)]; rfl))
               clear hk1
               go_wp2_with fail
               go_ret2
               exact gnew_bad HG.out (by rw [HBQ.out]; exact HBK.out)
             · have d3 : ¬ (kl : Int) < 1 := by omega
               by_cases hk2 : 64 < kl
               · have d4 : (64 : Int) < kl := by omega
                 have HG : Hid (goodB M = false) := Lib.hid (HBAD.out (by rw [decide_eq_false (by omega : ¬ kl ≤ 64), Bool.and_false]; rfl))
                 clear hk1 hk2
                 go_wp2_with fail
                 go_ret2
                 exact gnew_bad HG.out (by rw [HBQ.out]; exact HBK.out)
               · have d4 : ¬ (64 : Int) < kl := by omega
                 have HKLE : Hid (1 ≤ kl ∧ kl ≤ 64) := Lib.hid (by omega)
                 obtain ⟨kb, hkb⟩ : ∃ kb : ByteArray, (⟨key.toArray⟩ : ByteArray) = kb := ⟨_, rfl⟩
                 have HKB := Lib.hid hkb
                 have hcv : (convert 72 9 (.slice ko kl kc)).run Tryz.prog wr = .ok (.string kb) wr := by rw [← hkb]; exact conv_row HKR.out
                 obtain ⟨sb, hsb⟩ : ∃ sb, decide (key ∈ seenKs M i k) = sb := ⟨_, rfl⟩
                 have HLK : Hid ((Instr.lookup 137 (.map (some (B + 2))) (.string kb) false).run Tryz.prog wr = .ok (.bool sb) wr) := Lib.hid (by rw [← hkb, ← hsb]; exact HPK.out.look key wr rfl)
                 have HSB2 := Lib.hid hsb
                 clear hkb hsb hk1 hk2
                 cases sb with
                 | true =>
                   have HG : Hid (goodB M = false) := Lib.hid (HBAD.out (by rw [HKA.out, show decide (key ∉ seenKs M i k) = false from decide_eq_false (fun h => h (of_decide_eq_true HSB2.out)), Bool.and_false]))
                   go_wp2_with (at_lookup; go_loud (refine wpList_lookup0_run (by rfl) rfl rfl rfl HLK.out ?_))
                   go_ret2
                   exact gnew_bad HG.out (by rw [HBQ.out]; exact HBK.out)
                 | false =>
                   have hns : key ∉ seenKs M i k := of_decide_eq_false HSB2.out
                   obtain ⟨w6, hs1, hs2, hs3⟩ := HPK.out.see key hns
                   have HS1 : Hid ((Instr.mapUpdate 137 (.map (some (B + 2))) (.string kb) (.bool true)).run Tryz.prog wr = .ok () w6) := Lib.hid (by rw [← HKB.out]; exact hs1)
                   have HP6 := Lib.hid hs2
                   have HF6 := Lib.hid hs3
                   clear hns hs1 hs2 hs3
                   go_upto_region 17 with (first | (at_lookup; go_loud (refine wpList_lookup0_run (by rfl) rfl rfl rfl HLK.out ?_)) | ((with_reducible refine wpList_at (.mapUpdate 137 (.tmp 66) (.tmp 68) (.const (.bool true))) rfl ?_); go_loud (refine wpList_update_run rfl rfl rfl rfl rfl HS1.out ?_)))
                   clear hcv c1 d3 d4
                   have HNS : Hid (key ∉ seenKs M i k) := Lib.hid (of_decide_eq_false HSB2.out)
                   have HB6 : Hid (Below B w w6) := Lib.hid (HBK.out.trans (HF6.out.belowB (by have := HPK.out.lt; omega) (fun j hj => by rw [List.mem_singleton] at hj; omega)))
                   have c1 : w6.cell? ⟨B + 1, 1, none⟩ = some (.map (some B)) := HP6.out.cell.2
                   have g1 : IntKind.u8.wrap (i : Int) = (i : Int) := IntWalk.u8_in _ (by omega)
                   have g2 : IntKind.u8.wrap (k : Int) = (k : Int) := IntWalk.u8_in _ (by omega)
                   have HCL := Lib.hid (clone_row (.slice ko kl kc) key w6.drew ((HKR.out.cong (T := fun j => j < B) (w' := w6.drew) (fun _ h => h) (fun j hj => HF6.out.block j (by have := HPK.out.lt; omega) (by rw [List.mem_singleton]; omega)))) (by rw [HKL.out]; have := HKLE.out; omega))
                   refine wp_region_plan [(0, false), (1, false), (2, false), (3, false), (4, false), (5, false), (6, false), (7, false), (8, false), (9, false), (10, true), (11, true)] (fun u => u.cell? ⟨B + 1, 1, none⟩ = some (.map (some B))) (by kernel_rfl) (by kernel_rfl) c1 ?_
                   iterate 10 (refine' plan_val rfl rfl (fun w' hS => ?_) ?_; rotate_left; (focus (first | (go_simp; rfl) | (go_simp; done))); simp only [Act.put, List.setIfInBounds_toArray, List.set_cons_zero, List.set_cons_succ])
                   refine plan_do rfl (fun K hK => ?_)
                   go_wp2_with (go_at_call 63; refine HCL.out.mono ?_; rintro e w7 ⟨xv, rfl, hO, hb⟩; have HO7 := Lib.hid hO; have HU7 : Hid (Below w6.heap.size w6 w7) := Lib.hid ((Below.refl _ _).drew.trans hb); clear hO hb)
                   have HP7 : Hid (PartG w7 B M (seenKs M i k ++ [key]) (flK m i k)) := Lib.hid (HP6.out.on HU7.out)
                   obtain ⟨w8, hk1, hk2, hk3⟩ := HP7.out.key i k (by unfold flK; omega) xv (by
                    rw [HKA.out]
                    exact HO7.out.row.cong (fun j hj => by
                     have h1 := own_lt HO7.out hj
                     have h2 := HP6.out.lt
                     have h3 : w6.drew.heap.size = w6.heap.size := rfl
                     rw [h3] at h1
                     exact ⟨by omega, h1.2⟩) (fun _ _ => rfl))
                   have HK1 := Lib.hid hk1
                   have HP8 := Lib.hid hk2
                   have HF8 := Lib.hid hk3
                   clear hk1 hk2 hk3
                   refine hK _ _ (HP7.out.cell.2) ?_
                   clear hK K c1 g1 g2
                   refine plan_do rfl (fun K hK => ?_)
                   refine wpList_update_run rfl rfl rfl rfl rfl HK1.out ?_
                   go_wp2_with fail
                   refine hK _ _ (HP8.out.cell.2) ?_
                   clear hK K
                   refine plan_nil ?_
                   go_wp2_with fail
                   go_roundw
                   case rel => exact ⟨k + 1, by omega, by go_num, Lib.hid (by
                    rw [HSK.out, goodL_snoc, HGK.out, HKA.out, HKL.out, decide_eq_true HKLE.out.1, decide_eq_true HKLE.out.2, decide_eq_true HNS.out]; rfl), Lib.hid (by
                    rw [HSK.out, HKA.out]
                    exact HP8.out.iff (fun a b => by
                     unfold flK
                     constructor
                     · rintro (⟨h1, h2, h3, h4⟩ | ⟨rfl, rfl⟩)
                       · exact ⟨h1, h2, h3, by omega⟩
                       · exact ⟨by omega, by omega, fun e => hik e.symm, by omega⟩
                     · rintro ⟨h1, h2, h3, h4⟩
                       by_cases e : a = i ∧ b = k
                       · exact .inr e
                       · exact .inl ⟨h1, h2, h3, by omega⟩)), Lib.hid ((HB6.out.trans (HU7.out.mono (by have := HP6.out.lt; omega))).trans (HF8.out.belowB (by have := HP7.out.lt; omega) (fun j hj => by rw [List.mem_singleton] at hj; omega)))⟩
                   case measure => simp [intOf]; omega
         · obtain rfl : k = m := by omega
           go_wp2_with fail
           go_roundw
           case rel => exact ⟨i + 1, by omega, by go_num, Lib.hid ⟨by rw [seen_row, HN.out]; exact HGK.out, fun j hj => by
            by_cases e : j = i
            · subst e; rw [HRD.out, HM.out]
            · exact HGD.out.2 j (by omega)⟩, Lib.hid (by
            rw [seen_row, HN.out]
            exact HPK.out.iff (fun a b => by unfold flK; constructor <;> (rintro ⟨h1, h2, h3, h4⟩; exact ⟨h1, h2, h3, by omega⟩))), HBK⟩
           case measure => simp [intOf]; omega
      · have d1 : ((m : Int) != (n : Int)) = true := by rw [bne_iff_ne]; omega
        have HG : Hid (goodB M = false) := Lib.hid (good_no_row HROW.out (by rw [HM.out, HN.out]; exact hmn))
        clear hm hmn
        go_wp2_with fail
        go_ret2
        exact gnew_bad HG.out (by rw [HBQ.out]; exact HBR.out)
    · obtain rfl : i = n := by omega
      have HG : Hid (goodB M = true) := Lib.hid (good_all (by rw [HN.out]; exact hnb.1) (by rw [HN.out]; exact hnb.2) (fun j hj => by rw [HN.out] at hj ⊢; exact HGD.out.2 j hj) (by rw [HN.out]; exact HGD.out.1))
      go_wp2_with fail
      go_ret2
      refine ⟨fun _ => ⟨B + 1, rfl, ?_⟩, (fun h => by rw [HG.out] at h; cases h), by rw [HBQ.out]; exact HBR.out⟩
      rw [HBQ.out]
      have h1 := HPR.out
      rw [← HN.out] at h1
      exact h1.ring
 · by_cases h2 : n < 2
   · have b1 : (n : Int) < 2 := by omega
     have HG : Hid (goodB M = false) := Lib.hid (good_no_len (by rw [HN.out]; exact hnb))
     clear hnb
     go_wp2_with fail
     go_ret2
     exact gnew_bad HG.out (by rw [HBQ.out]; exact HX2.out.2.2.2)
   · have b1 : ¬ (n : Int) < 2 := by omega
     have b2 : (8 : Int) < n := by omega
     have HG : Hid (goodB M = false) := Lib.hid (good_no_len (by rw [HN.out]; exact hnb))
     clear hnb h2
     go_wp2_with fail
     go_ret2
     exact gnew_bad HG.out (by rw [HBQ.out]; exact HX2.out.2.2.2)
structure RoomB (w : World) (g n cap : Nat) (l : Str) : Prop where
 len : l.length = n
 le : n ≤ cap
 lim : cap ≤ maxLen
 cells : ∀ j c, l[j]? = some c → w.cell? ⟨g, j, none⟩ = some (bv c)
 room : ∀ j, j < cap → (w.cell? ⟨g, j, none⟩).isSome = true ∧ w.frozen? ⟨g, j, none⟩ = false
 lt : g < w.heap.size
theorem RoomB.row {w : World} {g n cap : Nat} {l : Str} (h : RoomB w g n cap l) : RowAt (fun k => k = g) w (.slice (some ⟨g, 0, none⟩) n cap) (l.map bv) := by
 refine ⟨some ⟨g, 0, none⟩, cap, by rw [List.length_map, h.len], by rw [List.length_map, h.len]; exact h.le, h.lim, (fun e => by cases e), fun _ => ⟨g, 0, rfl, rfl, fun i x hi => ?_⟩⟩
 rw [List.getElem?_map] at hi
 cases hl : l[i]? with
 | none => rw [hl] at hi; cases hi
 | some c => rw [hl] at hi; cases hi; rw [Nat.zero_add]; exact h.cells i c hl
theorem RoomB.on {w w' : World} {g n cap : Nat} {l : Str} (h : RoomB w g n cap l) (e : w'.heap[g]? = w.heap[g]?) : RoomB w' g n cap l :=
 ⟨h.len, h.le, h.lim, fun j c hj => (World.cell?_of_block (a := ⟨g, j, none⟩) e).trans (h.cells j c hj), fun j hj => by rw [World.cell?_of_block (a := ⟨g, j, none⟩) e, World.frozen?_of_block (a := ⟨g, j, none⟩) e]; exact h.room j hj, by
  have h1 := h.lt
  rw [Array.getElem?_eq_getElem h1] at e
  exact (Array.getElem?_eq_some_iff.1 e).1⟩
theorem conv_str (s : ByteArray) (w : World) (hl : s.size ≤ 70368744177664) :
  ∃ cap w', (convert 9 72 (.string s)).run Tryz.prog w = .ok (.slice (some ⟨w.heap.size, 0, none⟩) s.size cap) w' ∧ RoomB w' w.heap.size s.size cap s.data.toList ∧ Below w.heap.size w w' ∧ w'.heap.size = w.heap.size + 1 := by
 refine ⟨_, _, Lib.run_convert_string_bytes w 9 72 5 s Tryz.underlying9 Tryz.underlying72 Tryz.underlying5, ?_, Lib.bytesWorld_below _ _ _, Lib.bytesWorld_size _ _ _⟩
 have hc := grownCap_ge w s.size 0 5
 have hcm := grownCap_le_maxLen w s.size 0 5 (by unfold maxLen; omega)
 have hsz : (Lib.bytesCells w 5 s).size = grownCap w s.size 0 5 := by
  unfold Lib.bytesCells
  rw [Array.size_append, Array.size_map, Array.size_replicate]
  have : s.data.size = s.size := rfl
  omega
 have hnew := Lib.bytesWorld_at_new w 5 s
 refine ⟨by rw [Array.length_toList]; rfl, hc, hcm, fun j c hj => ?_, fun j hj => ?_, by rw [Lib.bytesWorld_size]; omega⟩
 · have hjs : j < s.size := by have := (List.getElem?_eq_some_iff.1 hj).1; rw [Array.length_toList] at this; exact this
   rw [Lib.bytesWorld_cell w 5 s j hjs, List.getD_eq_getElem?_getD, hj]; rfl
 · constructor
   · unfold World.cell?
     rw [hnew]
     show ((if (none : Option Nat).isSome = true then none else (Lib.bytesCells w 5 s)[j]?).isSome) = true
     rw [if_neg (by simp), Array.getElem?_eq_getElem (by rw [hsz]; exact hj)]; rfl
   · unfold World.frozen?
     rw [hnew]
     show (decide ((Lib.bytesCells w 5 s).size ≤ j) && decide (j < (Lib.bytesCells w 5 s).size + 1)) = false
     rw [decide_eq_false (by rw [hsz]; omega)]; rfl
theorem run_app_room (t ty e : TypeId) (i : TypeInfo) {P : Program} {w : World} (ht : P.underlying t = some (.slice e)) (hi : P.info? e = some i) (hi1 : i.size = 1)
  (g sLen sCap : Nat) (a : Addr) (m c : Nat) (news : List Value) (hl : news.length = m) (hnews : ∀ j u, news[j]? = some u → w.cell? (a.add j) = some u) (h1 : ∀ u ∈ news, u.oneCell' = true)
  (hroom : sLen + m ≤ sCap) (hcell : ∀ j, j < sCap → (w.cell? ⟨g, j, none⟩).isSome = true ∧ w.frozen? ⟨g, j, none⟩ = false) :
  (Builtin.append_ #[t, t] ty #[.slice (some ⟨g, 0, none⟩) sLen sCap, .slice (some a) m c]).run P w = .ok (.slice (some ⟨g, 0, none⟩) (sLen + m) sCap) (w.setCells g sLen news) := by
 have hf := run_firstCells_some (P := P) w i.size m a m c news (by rw [hl, hi1, Nat.mul_one]) hnews
 have hst := run_storeCells_cells (P := P) g sLen news 0 w (fun j hj => by rw [Nat.add_zero]; exact (hcell (sLen + j) (by omega)).1) (fun j hj => by rw [Nat.add_zero]; exact (hcell (sLen + j) (by omega)).2) h1
 rw [hi1] at hf
 simp only [Nat.add_zero] at hst
 simp [Builtin.append_, run_underlying ht, sizeOf, typeInfo, hi, hi1, Builtin.lenOf, hroom, hf, Addr.add_lit, hst]
theorem exec_append {P : Program} {w w' : World} {o : Oper} {a : Act} {x y : Operand} {dT sT : TypeId} (ho : o.op = .call { callee := .builtin .append, args := #[x, y], argTypes := #[dT, sT] }) {xv yv v : Value} (hx : a.eval x = xv) (hy : a.eval y = yv) (hr : ∀ ty, (Builtin.append_ #[dT, sT] ty #[xv, yv]).run P w = .ok v w') :
  (execOp a.eval o).run P w = .ok (.value v) w' := by
 simp [execOp, ho, resolve, invoke, builtin, hx, hy, hr, Result.andThen]
theorem run_app_mark {w : World} {B g n cap : Nat} {l e : Str} (h : RoomB w g n cap l) (sa : Addr) (m sc : Nat) (he : e.length = m) (hsrc : ∀ j u, (e.map bv)[j]? = some u → w.cell? (sa.add j) = some u) (hlim : n + m ≤ 70368744177664) (hBg : B ≤ g) :
  ∃ v' w', (∀ ty, (Builtin.append_ #[72, 72] ty #[.slice (some ⟨g, 0, none⟩) n cap, .slice (some sa) m sc]).run Tryz.prog w = .ok v' w') ∧ RowAt (fun k => B ≤ k ∧ k < w'.heap.size) w' v' ((l ++ e).map bv) ∧ Below B w w' := by
 obtain ⟨i0, hi, hz0, hz1, hz2⟩ := info_parts einfo_u8
 have hlt := h.lt
 have hcap := h.lim
 unfold maxLen at hcap
 have hlen : (l ++ e).length = n + m := by rw [List.length_append, h.len, he]
 have hone : ∀ u ∈ e.map bv, u.oneCell' = true := fun u hu => by obtain ⟨x, _, rfl⟩ := List.mem_map.1 hu; rfl
 by_cases hroom : n + m ≤ cap
 · refine ⟨_, _, fun ty => run_app_room 72 ty 5 i0 Tryz.underlying72 hi hz1 g n cap sa m sc (e.map bv) (by rw [List.length_map, he]) hsrc hone hroom h.room, ?_, ?_⟩
   · have hsz : (w.setCells g n (e.map bv)).heap.size = w.heap.size := putL_size g _ _ _
     refine ⟨some ⟨g, 0, none⟩, cap, by rw [List.length_map, hlen], by rw [List.length_map, hlen]; exact hroom, h.lim, (fun e => by cases e), fun _ => ⟨g, 0, rfl, ⟨hBg, by rw [hsz]; exact hlt⟩, fun j x hj => ?_⟩⟩
     rw [Nat.zero_add]
     rw [List.map_append] at hj
     by_cases hjn : j < n
     · rw [List.getElem?_append_left (by rw [List.length_map, h.len]; exact hjn), List.getElem?_map] at hj
       rw [World.cell?_setCells_out g _ _ _ _ (fun _ _ => .inl hjn)]
       cases hc : l[j]? with
       | none => rw [hc] at hj; cases hj
       | some c => rw [hc] at hj; cases hj; exact h.cells j c hc
     · rw [List.getElem?_append_right (by rw [List.length_map, h.len]; omega), List.length_map, h.len] at hj
       have hjm : j - n < (e.map bv).length := (List.getElem?_eq_some_iff.1 hj).1
       have hin := World.cell?_setCells_in g (e.map bv) n w (fun q hq => (h.room (n + q) (by rw [List.length_map, he] at hq; omega)).1) (j - n) hjm
       rw [show n + (j - n) = j by omega] at hin
       rw [hin]
       rw [List.getElem?_eq_getElem hjm] at hj
       exact hj
   · exact putL_below hBg _ _ _ (Below.refl B w)
 · have hold : ∀ j v, (l.map bv)[j]? = some v → w.cell? ((⟨g, 0, none⟩ : Addr).add j) = some v := fun j v hj => by
    rw [Addr.add_mid, Nat.zero_add]
    rw [List.getElem?_map] at hj
    cases hc : l[j]? with
    | none => rw [hc] at hj; cases hj
    | some c => rw [hc] at hj; cases hj; exact h.cells j c hc
   have hnx : Builtin.nextslicecap (n + m) cap ≤ 281474976710656 := by
    have := nextslicecap_le_wide (need := n + m) (old := cap) (by omega)
    omega
   refine ⟨_, _, fun ty => run_append_grow w 72 ty 5 i0 (.int .u8 0) Tryz.underlying72 hi hz0 ⟨g, 0, none⟩ n cap (l.map bv) (by rw [List.length_map, h.len, hz1, Nat.mul_one]) hold sa m sc (e.map bv) (by rw [List.length_map, he, hz1, Nat.mul_one]) hsrc (by omega) (by omega) (by rw [hz2, Nat.mul_one]; exact hnx), ?_, ?_⟩
   · have hc := grownCap_ge w (n + m) cap 5
     have hcm := grownCap_le_maxLen w (n + m) cap 5 (by unfold maxLen; omega)
     refine ⟨some ⟨w.heap.size, 0, none⟩, grownCap w (n + m) cap 5, by rw [List.length_map, hlen], by rw [List.length_map, hlen]; exact hc, hcm, (fun e => by cases e), fun _ => ⟨w.heap.size, 0, rfl, ⟨by omega, by simp⟩, fun j x hj => ?_⟩⟩
     rw [Nat.zero_add, cell_of_row _ w.heap.size j _ _ _ (heap_alloc_new w.drew _)]
     have hjl : j < (l.map bv ++ e.map bv).length := by rw [← List.map_append]; exact (List.getElem?_eq_some_iff.1 hj).1
     rw [List.map_append] at hj
     rw [Array.getElem?_append_left (by rw [Array.size_append, List.size_toArray, List.size_toArray]; rw [List.length_append] at hjl; exact hjl), List.append_toArray, List.getElem?_toArray]
     exact hj
   · exact (Below.refl B w).drew.alloc (by show B ≤ w.heap.size; omega) _
theorem nstr_add {a b : Str} (ha : a.length ≤ 100) (hb : b.length ≤ 100) (W : World) : (Op.stringOp .add ⟨a.toArray⟩ ⟨b.toArray⟩).run Tryz.prog W = .ok (.string ⟨(a ++ b).toArray⟩) W := by
 rw [run_string_add_sum _ _ _ (by simp [ByteArray.size]; omega)]
 show Result.ok (Value.string ((⟨a.toArray⟩ : ByteArray) ++ ⟨b.toArray⟩)) W = _
 rw [ByteArray.mk_append_mk]
theorem nought_add {k : Nat} {l : Str} (hl : k + l.length ≤ 100) (W : World) : (Op.stringOp .add ⟨#[48]⟩ ⟨(List.replicate k 48 ++ l).toArray⟩).run Tryz.prog W = .ok (.string ⟨(List.replicate (k + 1) 48 ++ l).toArray⟩) W :=
 nstr_add (a := [48]) (b := List.replicate k 48 ++ l) (by simp) (by simp; omega) W
def szOf : Value → Nat
 | .string b => b.size
 | _ => 0
set_option maxRecDepth 100000 in
set_option maxHeartbeats 2000000 in
theorem npadded_any (u m : Nat) (hm : m ≤ 20) (hm1 : 1 ≤ m) (hu : u < 10 ^ m) (h64 : u < 18446744073709551616) (w : World) (hv : VarsOk w) :
  Calls Tryz.prog 85 #[.int .u64 (u : Int), .int .i64 (m : Int)] w fun e w' => e = .returned (.string ⟨(padN m u).toArray⟩) ∧ Below w.heap.size w w' := by
 obtain ⟨L, hL⟩ : ∃ L, (decT u).length = L := ⟨_, rfl⟩
 have hpad : padN m u = List.replicate (m - L) 48 ++ decT u := by
  cases m with
  | zero => omega
  | succ k => rw [← hL]; exact padN_dec k u hu
 have hLm : L ≤ m := by
  have h := padN_len m u
  rw [hpad] at h
  simp only [List.length_append, List.length_replicate, hL] at h
  omega
 have HP := Lib.hid hpad
 have HL := Lib.hid hL
 clear hpad hL hu
 go_enter Tryz.func85, Tryz.ntmps85
 go_wp2_with (go_at_call 128; refine (fmt_any u h64 _ hv).mono ?_; rintro e w1 ⟨rfl, hb⟩; have HB := Lib.hid hb; clear hb)
 go_loop [5] (fun s => ∃ (k : Nat), k + L ≤ m ∧ s = .string ⟨(List.replicate k 48 ++ decT u).toArray⟩) (fun s => m - szOf s)
 case atStart => exact ⟨0, by omega, rfl⟩
 case round =>
  obtain ⟨k, hk, rfl⟩ := hrel
  have hadd := nought_add (k := k) (l := decT u) (by rw [HL.out]; omega)
  obtain ⟨ds, hds⟩ : ∃ ds : ByteArray, (⟨(List.replicate k 48 ++ decT u).toArray⟩ : ByteArray) = ds := ⟨_, rfl⟩
  obtain ⟨es, hes⟩ : ∃ ds : ByteArray, (⟨(List.replicate (k + 1) 48 ++ decT u).toArray⟩ : ByteArray) = ds := ⟨_, rfl⟩
  have hsz : ds.size = k + L := by rw [← hds]; simp [ByteArray.size, HL.out]
  have hse : es.size = k + 1 + L := by rw [← hes]; simp [ByteArray.size, HL.out]
  rw [hds, hes] at hadd
  rw [hds]
  have HDS := Lib.hid hds
  have HES := Lib.hid hes
  have HSZ := Lib.hid hsz
  have HSE := Lib.hid hse
  by_cases hlt : k + L < m
  · have i1 : (ds.size : Int) < (m : Int) := by omega
    clear hds hes hsz hse
    go_wp2_with fail
    go_round
    case rel => exact ⟨k + 1, by omega, by rw [HES.out]⟩
    case measure => simp only [szOf]; rw [HSZ.out, HSE.out]; omega
  · have i1 : ¬ (ds.size : Int) < (m : Int) := by omega
    clear hds hes hsz hse
    go_wp2_with fail
    go_ret
    refine ⟨?_, HB.out⟩
    show Ending.returned (.string ds) = _
    rw [HP.out, show m - L = k by omega, HDS.out]
inductive PT where
 | nil : PT
 | val : Nat → PT → PT
 | one : Nat → PT → PT
 | two : Nat → PT → Nat → PT → PT
def PT.len : PT → Nat
 | .nil => 0
 | .val _ r => r.len + 1
 | .one _ r => r.len + 1
 | .two _ r _ _ => r.len + 1
section
variable {P : Program} {ops : Array Oper} {Q : Exit → Act → World → Prop} {md : Region.Mode} {S : World → Prop}
def planTB (md : Region.Mode) (ops : Array Oper) : PT → Array Bool → Bool
 | .nil, listed => (Region.ready md ops listed).isEmpty
 | .val i r, listed => (Region.ready md ops listed).contains i && Region.free md ops listed i && planTB md ops r (listed.setIfInBounds i true)
 | .one i r, listed => decide (Region.ready md ops listed = [i]) && planTB md ops r (listed.setIfInBounds i true)
 | .two i r j q, listed => decide (Region.ready md ops listed = [i, j]) && decide (r.len = q.len) && planTB md ops r (listed.setIfInBounds i true) && planTB md ops q (listed.setIfInBounds j true)
def planTOK (md : Region.Mode) (ops : Array Oper) (plan : PT) : Bool :=
 Region.noSelect ops && decide (plan.len = ops.size) && planTB md ops plan (Array.replicate ops.size false)
def wpPlanT (P : Program) (ops : Array Oper) (S : World → Prop) (Q : Exit → Act → World → Prop) : PT → Act → World → Prop
 | .nil, a, w => Q .normal a w
 | .val i r, a, w => ∃ o v, ops[i]? = some o ∧ YieldsIf P ops S o v a ∧ wpPlanT P ops S Q r (a.put o.dst v) w
 | .one i r, a, w => wpOp P ops Q i (fun a' w' => S w' ∧ wpPlanT P ops S Q r a' w') a w
 | .two i r j q, a, w => wpOp P ops Q i (fun a' w' => S w' ∧ wpPlanT P ops S Q r a' w') a w ∧ wpOp P ops Q j (fun a' w' => S w' ∧ wpPlanT P ops S Q q a' w') a w
theorem wpPlanT_held (hs : Region.noSelect ops = true) (hQ : ∀ c a d v w, Q (.panic c) (a.put d v) w → Q (.panic c) a w) :
  ∀ (plan : PT) (listed : Array Bool) (a : Act) (w : World), planTB md ops plan listed = true → S w → wpPlanT P ops S Q plan a w → wpAnyH P md ops Q S plan.len listed a w
 | .nil, _, _, _, hB, _, h => ⟨by simpa [planTB] using hB, h⟩
 | .val i r, listed, a, w, hB, hS, h => by
   simp only [planTB, Bool.and_eq_true] at hB
   obtain ⟨o, v, hi, hy, h⟩ := h
   exact wpAnyH_take hi hs hB.1.2 hB.1.1 (fun c a w => hQ c a _ _ w) hy hS (wpPlanT_held hs hQ r _ _ _ hB.2 hS h)
 | .one i r, listed, a, w, hB, hS, h => by
   simp only [planTB, Bool.and_eq_true, decide_eq_true_eq] at hB
   refine wpAnyH_all hB.1 (by simp) (fun j hj => ?_)
   have e : j = i := by simpa using hj
   subst e
   exact wpOp_mono (fun a' w' h' => ⟨h'.1, wpPlanT_held hs hQ r _ _ _ hB.2 h'.1 h'.2⟩) h
 | .two i r j q, listed, a, w, hB, hS, h => by
   simp only [planTB, Bool.and_eq_true, decide_eq_true_eq] at hB
   refine wpAnyH_all hB.1.1.1 (by simp) (fun k hk => ?_)
   have e : k = i ∨ k = j := by simpa using hk
   rcases e with e | e
   · subst e
     exact wpOp_mono (fun a' w' h' => ⟨h'.1, wpPlanT_held hs hQ r _ _ _ hB.1.2 h'.1 h'.2⟩) h.1
   · subst e
     exact wpOp_mono (fun a' w' h' => ⟨h'.1, by
      have h3 := wpPlanT_held hs hQ q _ _ _ hB.2 h'.1 h'.2
      rw [← hB.1.1.2] at h3
      exact h3⟩) h.2
theorem wp_region_planT {id : Nat} {a : Act} {w : World} {l : List Oper} (plan : PT) (S : World → Prop) (hm : P.follows .mixedOrders = true) (hB : planTOK .any l.toArray plan = true) (hS : S w.drew)
  (h : wpPlanT P l.toArray S (NoPanic Q) plan a w.drew) : (Code.region id l.toArray true).wp P Q a w := by
 simp only [planTOK, Bool.and_eq_true, decide_eq_true_eq] at hB
 refine wp_region_noPanic (wp_region_held (S := S) hm ?_)
 have := wpPlanT_held (md := .any) hB.1.1 (Q := NoPanic Q) (fun c a d v w h => h) plan _ a w.drew hB.2 hS h
 rw [hB.1.2] at this
 exact this
theorem planT_val {l : List Oper} {i : Nat} {o : Oper} {v : Value} {r : PT} {a : Act} {w : World} (hi : nthO l i = some o) (hw : Region.wanted o (yielded l.toArray a.tmps) = true)
  (hrun : ∀ w', S w' → (execOp a.eval o).run P w' = .ok (.value v) w') (h : wpPlanT P l.toArray S Q r (a.put o.dst v) w) : wpPlanT P l.toArray S Q (.val i r) a w :=
 ⟨o, v, by rw [List.getElem?_toArray, ← nthO_eq]; exact hi, .inl ⟨hw, hrun⟩, h⟩
theorem planT_nil {a : Act} {w : World} (h : Q .normal a w) : wpPlanT P ops S (NoPanic Q) .nil a w := h
theorem planT_op {l : List Oper} {i : Nat} {o : Oper} {r : PT} {a : Act} {w : World} (hi' : nthO l i = some o)
  (h : ∀ K : Act → World → Prop, (∀ a' w', S w' → wpPlanT P l.toArray S Q r a' w' → K a' w') → wpList P l.toArray (Exit.then K Q) [o] a w) : wpOp P l.toArray Q i (fun a' w' => S w' ∧ wpPlanT P l.toArray S Q r a' w') a w := by
 have hi : l.toArray[i]? = some o := by rw [List.getElem?_toArray, ← nthO_eq]; exact hi'
 have h0 := h _ (fun a' w' h1 h2 => (⟨h1, h2⟩ : S w' ∧ wpPlanT P l.toArray S Q r a' w'))
 unfold wpOp
 rw [hi]
 simp only [wpList] at h0 ⊢
 split
 · rename_i hw
   rw [if_pos hw] at h0
   rcases h0 with h0 | ⟨h0, a1, w1, h1⟩
   · exact .inl (Oper.wp_post (fun _ _ _ h => h) (fun ⟨a, w, h⟩ => ⟨a, w, h⟩) h0)
   · exact .inr ⟨h0, a1, w1, h1⟩
 · rename_i hw
   rw [if_neg hw] at h0
   exact h0
theorem planT_do {l : List Oper} {i : Nat} {o : Oper} {r : PT} {a : Act} {w : World} (hi' : nthO l i = some o)
  (h : ∀ K : Act → World → Prop, (∀ a' w', S w' → wpPlanT P l.toArray S Q r a' w' → K a' w') → wpList P l.toArray (Exit.then K Q) [o] a w) : wpPlanT P l.toArray S Q (.one i r) a w := planT_op hi' h
theorem planT_two {l : List Oper} {i j : Nat} {r q : PT} {a : Act} {w : World} (h1 : wpOp P l.toArray Q i (fun a' w' => S w' ∧ wpPlanT P l.toArray S Q r a' w') a w) (h2 : wpOp P l.toArray Q j (fun a' w' => S w' ∧ wpPlanT P l.toArray S Q q a' w') a w) : wpPlanT P l.toArray S Q (.two i r j q) a w := ⟨h1, h2⟩
end
theorem digC_utf8 {d : Nat} (h : d < 10) : Utf8.encode (48 + (d : Int)) = ⟨#[digC d]⟩ := by
 match d, h with
 | 0, _ => rfl
 | 1, _ => rfl
 | 2, _ => rfl
 | 3, _ => rfl
 | 4, _ => rfl
 | 5, _ => rfl
 | 6, _ => rfl
 | 7, _ => rfl
 | 8, _ => rfl
 | 9, _ => rfl
set_option maxHeartbeats 1000000 in
theorem nText1_any (b : Nat) (s : ByteArray) (hs : s.size ≤ 18) (hd : s.data.toList.all digB = true) (w : World) (hc : w.cell? ⟨b, 0, none⟩ = some (.string s)) :
  Calls Tryz.prog 86 #[.pointer (some ⟨b, 0, none⟩)] w fun e w' => e = .returned (.int .u64 ((valN s.data.toList % 7 : Nat) : Int)) ∧ Below w.heap.size w w' := by
 have hv := value_any s hs
 rw [hd, if_pos rfl] at hv
 obtain ⟨V, hV⟩ : ∃ V, valN s.data.toList = V := ⟨_, rfl⟩
 rw [hV] at hv ⊢
 have q2 : (V : Int).tmod 7 = ((V % 7 : Nat) : Int) := by rw [Int.tmod_eq_emod_of_nonneg (by omega)]; omega
 have wr2 : IntKind.u64.wrap ((V % 7 : Nat) : Int) = ((V % 7 : Nat) : Int) := by rw [IntKind.wrap_u64]; omega
 have HV := Lib.hid hv
 clear hv hV hd
 go_enter Tryz.func86, Tryz.ntmps86
 go_wp2_with (go_at_call 87; refine (HV.out _).mono ?_; rintro e w1 ⟨rfl, hb⟩; have HB := Lib.hid hb; clear hb)
 go_ret
 exact ⟨rfl, HB.out⟩
set_option maxRecDepth 100000 in
set_option maxHeartbeats 2000000 in
theorem nText_no {c s : Nat} (hc : c < 256) (_hs : s < 18446744073709551616) (h : mayT c s = false) (w : World) : Calls Tryz.prog 44 #[.agg #[.int .u8 (c : Int), .int .u64 (s : Int)]] w fun e w' => e = .returned (.tuple #[.string ⟨#[]⟩, .int .i64 1]) ∧ Below w.heap.size w w' := by
 have w1 : IntKind.u64.wrap (c : Int) = (c : Int) := by rw [IntKind.wrap_u64]; omega
 have HM := Lib.hid (fun w => nmay_any c s w)
 go_enter Tryz.func44, Tryz.ntmps44
 go_wp2_with (go_at_call 84; refine (HM.out _).mono ?_; rw [h]; rintro e w2 ⟨rfl, rfl⟩)
 go_ret2
 exact ⟨rfl, (Below.refl _ w).alloc (Nat.le_refl _) _⟩
set_option maxRecDepth 100000 in
set_option maxHeartbeats 4000000 in
theorem nText_ok {c s : Nat} (h : mayT c s = true) (w : World) (hv : VarsOk w) : Calls Tryz.prog 44 #[.agg #[.int .u8 (c : Int), .int .u64 (s : Int)]] w fun e w' => e = .returned (.tuple #[.string ⟨(body7 c s ++ [digC ((c * 10000000000 + s) % 7)]).toArray⟩, .int .i64 0]) ∧ Below w.heap.size w w' := by
 obtain ⟨hc, _, hs⟩ := mayT_iff.1 h
 have hb7 := body7_val h
 have hadd := nstr_add (a := padN 3 c) (b := padN 10 s) (by rw [padN_len]; omega) (by rw [padN_len]; omega)
 have hadd2 := nstr_add (a := body7 c s) (b := [digC ((c * 10000000000 + s) % 7)]) (by rw [body7_len]; omega) (by simp)
 rw [show padN 3 c ++ padN 10 s = body7 c s from rfl] at hadd
 obtain ⟨m, hm⟩ : ∃ m, (c * 10000000000 + s) % 7 = m := ⟨_, rfl⟩
 have hm7 : m < 10 := by omega
 rw [hm] at hadd2 ⊢
 obtain ⟨d1, hd1⟩ : ∃ ds : ByteArray, (⟨(padN 3 c).toArray⟩ : ByteArray) = ds := ⟨_, rfl⟩
 obtain ⟨d2, hd2⟩ : ∃ ds : ByteArray, (⟨(padN 10 s).toArray⟩ : ByteArray) = ds := ⟨_, rfl⟩
 obtain ⟨d3, hd3⟩ : ∃ ds : ByteArray, (⟨(body7 c s).toArray⟩ : ByteArray) = ds := ⟨_, rfl⟩
 have hd4 : Utf8.encode (48 + (m : Int)) = ⟨[digC m].toArray⟩ := digC_utf8 hm7
 obtain ⟨d4, hd4'⟩ : ∃ ds : ByteArray, (⟨[digC m].toArray⟩ : ByteArray) = ds := ⟨_, rfl⟩
 obtain ⟨d5, hd5⟩ : ∃ ds : ByteArray, (⟨(body7 c s ++ [digC m]).toArray⟩ : ByteArray) = ds := ⟨_, rfl⟩
 have P1 := Lib.hid (show ∀ w : World, VarsOk w → Calls Tryz.prog 85 #[.int .u64 (c : Int), .int .i64 3] w (fun e w' => e = .returned (.string d1) ∧ Below w.heap.size w w') from fun w hv => by rw [← hd1]; exact npadded_any c 3 (by omega) (by omega) (by omega) (by omega) w hv)
 have P2 := Lib.hid (show ∀ w : World, VarsOk w → Calls Tryz.prog 85 #[.int .u64 (s : Int), .int .i64 10] w (fun e w' => e = .returned (.string d2) ∧ Below w.heap.size w w') from fun w hv => by rw [← hd2]; exact npadded_any s 10 (by omega) (by omega) (by omega) (by omega) w hv)
 have P3 := Lib.hid (show ∀ (w : World) (b : Nat), w.cell? ⟨b, 0, none⟩ = some (.string d3) → Calls Tryz.prog 86 #[.pointer (some ⟨b, 0, none⟩)] w (fun e w' => e = .returned (.int .u64 (m : Int)) ∧ Below w.heap.size w w') from fun w b hcl => by
  have h1 := nText1_any b d3 (by rw [← hd3]; have := body7_len c s; simp [ByteArray.size]; omega) (by rw [← hd3]; simpa using List.all_eq_true.2 (body7_digs c s)) w hcl
  rw [show d3.data.toList = body7 c s by rw [← hd3], hb7, hm] at h1
  exact h1)
 rw [hd1, hd2, hd3] at hadd
 rw [hd4'] at hd4
 rw [hd3, hd4', hd5] at hadd2
 rw [hd5]
 have w1 : IntKind.u64.wrap (c : Int) = (c : Int) := by rw [IntKind.wrap_u64]; omega
 have w2 : IntKind.u64.wrap (48 + (m : Int)) = 48 + (m : Int) := by rw [IntKind.wrap_u64]; omega
 have w3 : IntKind.i32.wrap (48 + (m : Int)) = 48 + (m : Int) := by simp [IntKind.wrap, IntKind.bits, IntKind.signed]; omega
 have HM := Lib.hid (fun w => nmay_any c s w)
 have HV := Lib.hid hv
 clear hd1 hd2 hd3 hd4' hd5 hb7 hm hv
 go_enter Tryz.func44, Tryz.ntmps44
 go_upto_region 3 with (go_at_call 84; refine (HM.out _).mono ?_; rw [h]; rintro e wA ⟨rfl, rfl⟩)
 obtain ⟨B, hB⟩ : ∃ B, w.heap.size = B := ⟨_, rfl⟩
 obtain ⟨wd, hwd⟩ : ∃ wd, (w.alloc (.cells #[.int .u8 (c : Int), .int .u64 (s : Int)] 24)).drew = wd := ⟨_, rfl⟩
 have hz : B < wd.heap.size := by rw [← hwd, ← hB]; simp
 have HB1 : Hid (Below B w wd) := Lib.hid (by rw [← hwd, ← hB]; exact ((Below.refl _ w).alloc (Nat.le_refl _) _).drew)
 have cb0 : wd.cell? ⟨B, 0, none⟩ = some (.int .u8 (c : Int)) := by rw [← hwd, ← hB]; exact (by rw [cell_of_row _ w.heap.size 0 _ _ _ (heap_alloc_new _ _)]; rfl : (w.alloc (.cells #[.int .u8 (c : Int), .int .u64 (s : Int)] 24)).cell? ⟨w.heap.size, 0, none⟩ = some (.int .u8 (c : Int)))
 have cb1 : wd.cell? ⟨B, 1, none⟩ = some (.int .u64 (s : Int)) := by rw [← hwd, ← hB]; exact (by rw [cell_of_row _ w.heap.size 1 _ _ _ (heap_alloc_new _ _)]; rfl : (w.alloc (.cells #[.int .u8 (c : Int), .int .u64 (s : Int)] 24)).cell? ⟨w.heap.size, 1, none⟩ = some (.int .u64 (s : Int)))
 have HV1 := Lib.hid (HV.out.on HB1.out (by omega))
 have HBQ := Lib.hid hB
 refine wp_region_planT (.val 0 (.val 1 (.val 2 (.val 4 (.val 5 (.two 3 (.two 6 (.val 7 (.one 8 (.one 9 .nil))) 8 (.one 6 (.val 7 (.one 9 .nil)))) 8 (.one 3 (.one 6 (.val 7 (.one 9 .nil)))))))))) (fun w' => w'.cell? ⟨B, 0, none⟩ = some (.int .u8 (c : Int)) ∧ w'.cell? ⟨B, 1, none⟩ = some (.int .u64 (s : Int))) (by kernel_rfl) (by kernel_rfl) (by rw [hwd]; exact ⟨cb0, cb1⟩) ?_
 rw [hwd, hB]
 clear hwd hB
 iterate 5 (refine' planT_val rfl rfl (fun w' hS => ?_) ?_; rotate_left; (focus (first | rfl | (obtain ⟨hS1, hS2⟩ := hS; go_simp; rfl))); simp only [Act.put, List.setIfInBounds_toArray, List.set_cons_zero, List.set_cons_succ])
 have HCwd : Hid (wd.cell? ⟨B, 0, none⟩ = some (.int .u8 (c : Int)) ∧ wd.cell? ⟨B, 1, none⟩ = some (.int .u64 (s : Int))) := Lib.hid ⟨cb0, cb1⟩
 have hzwd : B < wd.heap.size ∧ True := ⟨hz, trivial⟩
 have HBwd := HB1
 clear hz cb0 cb1 HV1
 refine planT_two ?_ ?_
 · refine planT_op rfl (fun K hK => ?_)
   go_wp2_with (go_at_call 85; refine (P1.out _ (HV.out.on HBwd.out (by rw [HBQ.out]; exact Nat.le_refl _))).mono ?_; rintro e wB ⟨rfl, hb⟩; have HUwB := Lib.hid hb; clear hb)
   have hzwB : B < wB.heap.size ∧ wd.heap.size ≤ wB.heap.size := ⟨Nat.lt_of_lt_of_le hzwd.1 HUwB.out.size, HUwB.out.size⟩
   have HBwB : Hid (Below B w wB) := Lib.hid (HBwd.out.trans (HUwB.out.mono (by omega)))
   have HCwB : Hid (wB.cell? ⟨B, 0, none⟩ = some (.int .u8 (c : Int)) ∧ wB.cell? ⟨B, 1, none⟩ = some (.int .u64 (s : Int))) := Lib.hid ⟨(HUwB.out.cell (p := ⟨B, 0, none⟩) hzwd.1).trans HCwd.out.1, (HUwB.out.cell (p := ⟨B, 1, none⟩) hzwd.1).trans HCwd.out.2⟩
   refine hK _ _ HCwB.out ?_
   clear hK K
   refine planT_two ?_ ?_
   · refine planT_op rfl (fun K hK => ?_)
     go_wp2_with (go_at_call 85; refine (P2.out _ (HV.out.on HBwB.out (by rw [HBQ.out]; exact Nat.le_refl _))).mono ?_; rintro e wC ⟨rfl, hb⟩; have HUwC := Lib.hid hb; clear hb)
     have hzwC : B < wC.heap.size ∧ wB.heap.size ≤ wC.heap.size := ⟨Nat.lt_of_lt_of_le hzwB.1 HUwC.out.size, HUwC.out.size⟩
     have HBwC : Hid (Below B w wC) := Lib.hid (HBwB.out.trans (HUwC.out.mono (by omega)))
     have HCwC : Hid (wC.cell? ⟨B, 0, none⟩ = some (.int .u8 (c : Int)) ∧ wC.cell? ⟨B, 1, none⟩ = some (.int .u64 (s : Int))) := Lib.hid ⟨(HUwC.out.cell (p := ⟨B, 0, none⟩) hzwB.1).trans HCwB.out.1, (HUwC.out.cell (p := ⟨B, 1, none⟩) hzwB.1).trans HCwB.out.2⟩
     refine hK _ _ HCwC.out ?_
     clear hK K
     (refine' planT_val rfl rfl (fun w' hS => ?_) ?_; rotate_left; (focus (first | rfl | (obtain ⟨hS1, hS2⟩ := hS; go_simp; rfl))); simp only [Act.put, List.setIfInBounds_toArray, List.set_cons_zero, List.set_cons_succ])
     refine planT_do rfl (fun K hK => ?_)
     go_wp2_with fail
     obtain ⟨D, hD⟩ : ∃ D, wC.heap.size = D := ⟨_, rfl⟩
     obtain ⟨wF, hw⟩ : ∃ wn, wC.alloc (.cells #[.string ⟨#[]⟩] 9) = wn := ⟨_, rfl⟩
     have HUwF : Hid (Below wC.heap.size wC wF) := Lib.hid (by rw [← hw]; exact (Below.refl _ _).alloc (Nat.le_refl _) _)
     have HAD : Hid (wF.heap[D]? = some (.cells #[.string ⟨#[]⟩] 9 (0, 0))) := Lib.hid (by rw [← hw, ← hD]; exact heap_alloc_new _ _)
     have hzwF : B < wF.heap.size ∧ wC.heap.size ≤ wF.heap.size ∧ B < D ∧ D < wF.heap.size := by rw [← hw]; have := hzwC.1; simp; omega
     have HBwF : Hid (Below B w wF) := Lib.hid (HBwC.out.trans (HUwF.out.mono (by omega)))
     have HCwF : Hid (wF.cell? ⟨B, 0, none⟩ = some (.int .u8 (c : Int)) ∧ wF.cell? ⟨B, 1, none⟩ = some (.int .u64 (s : Int))) := Lib.hid ⟨(HUwF.out.cell (p := ⟨B, 0, none⟩) hzwC.1).trans HCwC.out.1, (HUwF.out.cell (p := ⟨B, 1, none⟩) hzwC.1).trans HCwC.out.2⟩
     rw [hw, hD]
     clear hw hD
     refine hK _ _ HCwF.out ?_
     clear hK K
     have d0 : wF.cell? ⟨D, 0, none⟩ = some (.string ⟨#[]⟩) := cell_of_row wF D 0 _ _ _ HAD.out
     have f0 := frozen_of_row wF D 0 _ _ HAD.out
     refine planT_do rfl (fun K hK => ?_)
     go_wp2_with fail
     refine hK _ _ ⟨(cell_ag (heap_setCell_other _ _ _ _ (by simp; omega))).trans HCwF.out.1, (cell_ag (heap_setCell_other _ _ _ _ (by simp; omega))).trans HCwF.out.2⟩ ?_
     clear hK K
     refine planT_nil ?_
     obtain ⟨W, hW⟩ : ∃ W, wF.setCell ⟨D, 0, none⟩ (.string d3) = W := ⟨_, rfl⟩
     have hc4 : W.cell? ⟨D, 0, none⟩ = some (.string d3) := cell_of_row W D 0 _ _ _ (by rw [← hW]; exact heap_setCell_same _ D 0 _ _ _ HAD.out)
     have HBW : Hid (Below B w W) := Lib.hid (by rw [← hW]; exact HBwF.out.setCell (by show B ≤ D; omega) _)
     have hzW : D < W.heap.size := by rw [← hW]; simp; omega
     rw [hW]
     clear hW d0 f0
     go_upto_region 5 with fail
     refine wp_region_plan [(0, false), (1, false), (2, true), (3, false), (4, false), (5, false), (6, false), (7, false), (8, false)] (fun w' => w'.cell? ⟨D, 0, none⟩ = some (.string d3)) (by kernel_rfl) (by kernel_rfl) hc4 ?_
     iterate 2 (refine' plan_val rfl rfl (fun w' hS => ?_) ?_; rotate_left; (focus (go_simp; rfl)); simp only [Act.put, List.setIfInBounds_toArray, List.set_cons_zero, List.set_cons_succ])
     refine plan_do rfl (fun K hK => ?_)
     go_wp2_with (go_at_call 86; refine (P3.out W.drew D hc4).mono ?_; rintro e wE ⟨rfl, hb⟩; have HBE := Lib.hid hb; clear hb)
     refine hK _ _ ((HBE.out.cell (p := ⟨D, 0, none⟩) hzW).trans hc4) ?_
     clear hK K
     iterate 6 (refine' plan_val rfl rfl (fun w' hS => ?_) ?_; rotate_left; (focus (go_simp; rfl)); simp only [Act.put, List.setIfInBounds_toArray, List.set_cons_zero, List.set_cons_succ])
     refine plan_nil ?_
     go_wp2_with fail
     go_ret2
     refine ⟨rfl, ?_⟩
     rw [HBQ.out]
     exact HBW.out.trans ((Below.refl _ _).drew.trans (HBE.out.mono (by simp; omega)))
   · refine planT_op rfl (fun K hK => ?_)
     go_wp2_with fail
     obtain ⟨D, hD⟩ : ∃ D, wB.heap.size = D := ⟨_, rfl⟩
     obtain ⟨wC, hw⟩ : ∃ wn, wB.alloc (.cells #[.string ⟨#[]⟩] 9) = wn := ⟨_, rfl⟩
     have HUwC : Hid (Below wB.heap.size wB wC) := Lib.hid (by rw [← hw]; exact (Below.refl _ _).alloc (Nat.le_refl _) _)
     have HAD : Hid (wC.heap[D]? = some (.cells #[.string ⟨#[]⟩] 9 (0, 0))) := Lib.hid (by rw [← hw, ← hD]; exact heap_alloc_new _ _)
     have hzwC : B < wC.heap.size ∧ wB.heap.size ≤ wC.heap.size ∧ B < D ∧ D < wC.heap.size := by rw [← hw]; have := hzwB.1; simp; omega
     have HBwC : Hid (Below B w wC) := Lib.hid (HBwB.out.trans (HUwC.out.mono (by omega)))
     have HCwC : Hid (wC.cell? ⟨B, 0, none⟩ = some (.int .u8 (c : Int)) ∧ wC.cell? ⟨B, 1, none⟩ = some (.int .u64 (s : Int))) := Lib.hid ⟨(HUwC.out.cell (p := ⟨B, 0, none⟩) hzwB.1).trans HCwB.out.1, (HUwC.out.cell (p := ⟨B, 1, none⟩) hzwB.1).trans HCwB.out.2⟩
     rw [hw, hD]
     clear hw hD
     refine hK _ _ HCwC.out ?_
     clear hK K
     refine planT_do rfl (fun K hK => ?_)
     go_wp2_with (go_at_call 85; refine (P2.out _ (HV.out.on HBwC.out (by rw [HBQ.out]; exact Nat.le_refl _))).mono ?_; rintro e wF ⟨rfl, hb⟩; have HUwF := Lib.hid hb; clear hb)
     have hzwF : B < wF.heap.size ∧ wC.heap.size ≤ wF.heap.size := ⟨Nat.lt_of_lt_of_le hzwC.1 HUwF.out.size, HUwF.out.size⟩
     have HBwF : Hid (Below B w wF) := Lib.hid (HBwC.out.trans (HUwF.out.mono (by omega)))
     have HCwF : Hid (wF.cell? ⟨B, 0, none⟩ = some (.int .u8 (c : Int)) ∧ wF.cell? ⟨B, 1, none⟩ = some (.int .u64 (s : Int))) := Lib.hid ⟨(HUwF.out.cell (p := ⟨B, 0, none⟩) hzwC.1).trans HCwC.out.1, (HUwF.out.cell (p := ⟨B, 1, none⟩) hzwC.1).trans HCwC.out.2⟩
     refine hK _ _ HCwF.out ?_
     clear hK K
     have HAD : Hid (wF.heap[D]? = some (.cells #[.string ⟨#[]⟩] 9 (0, 0))) := Lib.hid ((HUwF.out.block D (by omega)).trans HAD.out)
     (refine' planT_val rfl rfl (fun w' hS => ?_) ?_; rotate_left; (focus (first | rfl | (obtain ⟨hS1, hS2⟩ := hS; go_simp; rfl))); simp only [Act.put, List.setIfInBounds_toArray, List.set_cons_zero, List.set_cons_succ])
     have d0 : wF.cell? ⟨D, 0, none⟩ = some (.string ⟨#[]⟩) := cell_of_row wF D 0 _ _ _ HAD.out
     have f0 := frozen_of_row wF D 0 _ _ HAD.out
     refine planT_do rfl (fun K hK => ?_)
     go_wp2_with fail
     refine hK _ _ ⟨(cell_ag (heap_setCell_other _ _ _ _ (by simp; omega))).trans HCwF.out.1, (cell_ag (heap_setCell_other _ _ _ _ (by simp; omega))).trans HCwF.out.2⟩ ?_
     clear hK K
     refine planT_nil ?_
     obtain ⟨W, hW⟩ : ∃ W, wF.setCell ⟨D, 0, none⟩ (.string d3) = W := ⟨_, rfl⟩
     have hc4 : W.cell? ⟨D, 0, none⟩ = some (.string d3) := cell_of_row W D 0 _ _ _ (by rw [← hW]; exact heap_setCell_same _ D 0 _ _ _ HAD.out)
     have HBW : Hid (Below B w W) := Lib.hid (by rw [← hW]; exact HBwF.out.setCell (by show B ≤ D; omega) _)
     have hzW : D < W.heap.size := by rw [← hW]; simp; omega
     rw [hW]
     clear hW d0 f0
     go_upto_region 5 with fail
     refine wp_region_plan [(0, false), (1, false), (2, true), (3, false), (4, false), (5, false), (6, false), (7, false), (8, false)] (fun w' => w'.cell? ⟨D, 0, none⟩ = some (.string d3)) (by kernel_rfl) (by kernel_rfl) hc4 ?_
     iterate 2 (refine' plan_val rfl rfl (fun w' hS => ?_) ?_; rotate_left; (focus (go_simp; rfl)); simp only [Act.put, List.setIfInBounds_toArray, List.set_cons_zero, List.set_cons_succ])
     refine plan_do rfl (fun K hK => ?_)
     go_wp2_with (go_at_call 86; refine (P3.out W.drew D hc4).mono ?_; rintro e wE ⟨rfl, hb⟩; have HBE := Lib.hid hb; clear hb)
     refine hK _ _ ((HBE.out.cell (p := ⟨D, 0, none⟩) hzW).trans hc4) ?_
     clear hK K
     iterate 6 (refine' plan_val rfl rfl (fun w' hS => ?_) ?_; rotate_left; (focus (go_simp; rfl)); simp only [Act.put, List.setIfInBounds_toArray, List.set_cons_zero, List.set_cons_succ])
     refine plan_nil ?_
     go_wp2_with fail
     go_ret2
     refine ⟨rfl, ?_⟩
     rw [HBQ.out]
     exact HBW.out.trans ((Below.refl _ _).drew.trans (HBE.out.mono (by simp; omega)))
 · refine planT_op rfl (fun K hK => ?_)
   go_wp2_with fail
   obtain ⟨D, hD⟩ : ∃ D, wd.heap.size = D := ⟨_, rfl⟩
   obtain ⟨wB, hw⟩ : ∃ wn, wd.alloc (.cells #[.string ⟨#[]⟩] 9) = wn := ⟨_, rfl⟩
   have HUwB : Hid (Below wd.heap.size wd wB) := Lib.hid (by rw [← hw]; exact (Below.refl _ _).alloc (Nat.le_refl _) _)
   have HAD : Hid (wB.heap[D]? = some (.cells #[.string ⟨#[]⟩] 9 (0, 0))) := Lib.hid (by rw [← hw, ← hD]; exact heap_alloc_new _ _)
   have hzwB : B < wB.heap.size ∧ wd.heap.size ≤ wB.heap.size ∧ B < D ∧ D < wB.heap.size := by rw [← hw]; have := hzwd.1; simp; omega
   have HBwB : Hid (Below B w wB) := Lib.hid (HBwd.out.trans (HUwB.out.mono (by omega)))
   have HCwB : Hid (wB.cell? ⟨B, 0, none⟩ = some (.int .u8 (c : Int)) ∧ wB.cell? ⟨B, 1, none⟩ = some (.int .u64 (s : Int))) := Lib.hid ⟨(HUwB.out.cell (p := ⟨B, 0, none⟩) hzwd.1).trans HCwd.out.1, (HUwB.out.cell (p := ⟨B, 1, none⟩) hzwd.1).trans HCwd.out.2⟩
   rw [hw, hD]
   clear hw hD
   refine hK _ _ HCwB.out ?_
   clear hK K
   refine planT_do rfl (fun K hK => ?_)
   go_wp2_with (go_at_call 85; refine (P1.out _ (HV.out.on HBwB.out (by rw [HBQ.out]; exact Nat.le_refl _))).mono ?_; rintro e wC ⟨rfl, hb⟩; have HUwC := Lib.hid hb; clear hb)
   have hzwC : B < wC.heap.size ∧ wB.heap.size ≤ wC.heap.size := ⟨Nat.lt_of_lt_of_le hzwB.1 HUwC.out.size, HUwC.out.size⟩
   have HBwC : Hid (Below B w wC) := Lib.hid (HBwB.out.trans (HUwC.out.mono (by omega)))
   have HCwC : Hid (wC.cell? ⟨B, 0, none⟩ = some (.int .u8 (c : Int)) ∧ wC.cell? ⟨B, 1, none⟩ = some (.int .u64 (s : Int))) := Lib.hid ⟨(HUwC.out.cell (p := ⟨B, 0, none⟩) hzwB.1).trans HCwB.out.1, (HUwC.out.cell (p := ⟨B, 1, none⟩) hzwB.1).trans HCwB.out.2⟩
   refine hK _ _ HCwC.out ?_
   clear hK K
   have HAD : Hid (wC.heap[D]? = some (.cells #[.string ⟨#[]⟩] 9 (0, 0))) := Lib.hid ((HUwC.out.block D (by omega)).trans HAD.out)
   refine planT_do rfl (fun K hK => ?_)
   go_wp2_with (go_at_call 85; refine (P2.out _ (HV.out.on HBwC.out (by rw [HBQ.out]; exact Nat.le_refl _))).mono ?_; rintro e wF ⟨rfl, hb⟩; have HUwF := Lib.hid hb; clear hb)
   have hzwF : B < wF.heap.size ∧ wC.heap.size ≤ wF.heap.size := ⟨Nat.lt_of_lt_of_le hzwC.1 HUwF.out.size, HUwF.out.size⟩
   have HBwF : Hid (Below B w wF) := Lib.hid (HBwC.out.trans (HUwF.out.mono (by omega)))
   have HCwF : Hid (wF.cell? ⟨B, 0, none⟩ = some (.int .u8 (c : Int)) ∧ wF.cell? ⟨B, 1, none⟩ = some (.int .u64 (s : Int))) := Lib.hid ⟨(HUwF.out.cell (p := ⟨B, 0, none⟩) hzwC.1).trans HCwC.out.1, (HUwF.out.cell (p := ⟨B, 1, none⟩) hzwC.1).trans HCwC.out.2⟩
   refine hK _ _ HCwF.out ?_
   clear hK K
   have HAD : Hid (wF.heap[D]? = some (.cells #[.string ⟨#[]⟩] 9 (0, 0))) := Lib.hid ((HUwF.out.block D (by omega)).trans HAD.out)
   (refine' planT_val rfl rfl (fun w' hS => ?_) ?_; rotate_left; (focus (first | rfl | (obtain ⟨hS1, hS2⟩ := hS; go_simp; rfl))); simp only [Act.put, List.setIfInBounds_toArray, List.set_cons_zero, List.set_cons_succ])
   have d0 : wF.cell? ⟨D, 0, none⟩ = some (.string ⟨#[]⟩) := cell_of_row wF D 0 _ _ _ HAD.out
   have f0 := frozen_of_row wF D 0 _ _ HAD.out
   refine planT_do rfl (fun K hK => ?_)
   go_wp2_with fail
   refine hK _ _ ⟨(cell_ag (heap_setCell_other _ _ _ _ (by simp; omega))).trans HCwF.out.1, (cell_ag (heap_setCell_other _ _ _ _ (by simp; omega))).trans HCwF.out.2⟩ ?_
   clear hK K
   refine planT_nil ?_
   obtain ⟨W, hW⟩ : ∃ W, wF.setCell ⟨D, 0, none⟩ (.string d3) = W := ⟨_, rfl⟩
   have hc4 : W.cell? ⟨D, 0, none⟩ = some (.string d3) := cell_of_row W D 0 _ _ _ (by rw [← hW]; exact heap_setCell_same _ D 0 _ _ _ HAD.out)
   have HBW : Hid (Below B w W) := Lib.hid (by rw [← hW]; exact HBwF.out.setCell (by show B ≤ D; omega) _)
   have hzW : D < W.heap.size := by rw [← hW]; simp; omega
   rw [hW]
   clear hW d0 f0
   go_upto_region 5 with fail
   refine wp_region_plan [(0, false), (1, false), (2, true), (3, false), (4, false), (5, false), (6, false), (7, false), (8, false)] (fun w' => w'.cell? ⟨D, 0, none⟩ = some (.string d3)) (by kernel_rfl) (by kernel_rfl) hc4 ?_
   iterate 2 (refine' plan_val rfl rfl (fun w' hS => ?_) ?_; rotate_left; (focus (go_simp; rfl)); simp only [Act.put, List.setIfInBounds_toArray, List.set_cons_zero, List.set_cons_succ])
   refine plan_do rfl (fun K hK => ?_)
   go_wp2_with (go_at_call 86; refine (P3.out W.drew D hc4).mono ?_; rintro e wE ⟨rfl, hb⟩; have HBE := Lib.hid hb; clear hb)
   refine hK _ _ ((HBE.out.cell (p := ⟨D, 0, none⟩) hzW).trans hc4) ?_
   clear hK K
   iterate 6 (refine' plan_val rfl rfl (fun w' hS => ?_) ?_; rotate_left; (focus (go_simp; rfl)); simp only [Act.put, List.setIfInBounds_toArray, List.set_cons_zero, List.set_cons_succ])
   refine plan_nil ?_
   go_wp2_with fail
   go_ret2
   refine ⟨rfl, ?_⟩
   rw [HBQ.out]
   exact HBW.out.trans ((Below.refl _ _).drew.trans (HBE.out.mono (by simp; omega)))
def WrapM0Q (p : PD) (w : World) (e : Ending) (w' : World) : Prop := ∃ v, e = .returned (.tuple #[wv (wrapM p).1 v, .int .i64 (wrapM p).2]) ∧ SegsAt (fun k => w.heap.size ≤ k ∧ k < w'.heap.size) w' v (wrapM p).1.segs ∧ Below w.heap.size w w'
def WrapMQ (p : PD) (w : World) (e : Ending) (w' : World) : Prop := ∃ v, e = .returned (.tuple #[wv (wrapM p).1 v, .int .i64 (wrapM p).2]) ∧ SegsAt (fun k => w.heap.size ≤ k ∧ k < w'.heap.size) w' v (wrapM p).1.segs ∧ Below w.heap.size w w' ∧ (p.ack = false → ∃ xs, OO w.heap.size w' v xs (wrapM p).1.segs)
theorem WrapMQ.weak {p : PD} {w w' : World} {e : Ending} (h : WrapMQ p w e w') : WrapM0Q p w e w' := by
 obtain ⟨v, h1, h2, h3, _⟩ := h
 exact ⟨v, h1, h2, h3⟩
theorem own_low {w : World} {B B' : Nat} {t : TypeId} {s n : Nat} {v : Value} {xs : List Value} (h : w.ownsRow B t s v n xs) (hB : B' ≤ B) : w.ownsRow B' t s v n xs := by
 obtain ⟨h0, h | ⟨g, cap, cur, h1, h2, h3⟩⟩ := h
 · exact ⟨h0, .inl h⟩
 · exact ⟨h0, .inr ⟨g, cap, cur, h1, Nat.le_trans hB h2, h3⟩⟩
theorem wrapMQ_err {p : PD} {w w' : World} {k : Int} (h : wrapM p = (wd0, k)) (hb : Below w.heap.size w w') : WrapMQ p w (.returned (.tuple #[.agg #[.int .u8 0, .int .u8 0, .int .u64 0, .slice none 0 0], .int .i64 k])) w' := by
 unfold WrapMQ
 rw [h]
 exact ⟨.slice none 0 0, rfl, SegsAt.nil _ _, hb, fun _ => ⟨[], OO.start _ _⟩⟩
theorem wrapM_car {p : PD} (h : 8 ≤ p.fr ∨ 8 ≤ p.dst) : wrapM p = (wd0, 1) := by unfold wrapM; rw [if_pos h]
theorem wrapM_ackno {p : PD} (h : ¬ (8 ≤ p.fr ∨ 8 ≤ p.dst)) (ha : p.ack = true) (hm : p.m ≠ md0) : wrapM p = (wd0, 101) := by
 unfold wrapM; rw [if_neg h, if_pos ha, if_neg (fun e => hm (m0B_iff.1 e))]
theorem wrapM_ack {p : PD} (h : ¬ (8 ≤ p.fr ∨ 8 ≤ p.dst)) (ha : p.ack = true) (hm : p.m = md0) : wrapM p = (⟨p.fr, p.dst, p.num, [wordSeg tACK []]⟩, 0) := by
 unfold wrapM; rw [if_neg h, if_pos ha, if_pos (m0B_iff.2 hm)]
theorem wrapM_kind {p : PD} (h : ¬ (8 ≤ p.fr ∨ 8 ≤ p.dst)) (ha : p.ack = false) (hk : hasK p.m.kind = none) : wrapM p = (wd0, 100) := by
 unfold wrapM; rw [if_neg h, if_neg (by simp [ha]), hk]
theorem wrapM_text {p : PD} {hh : Bool × Bool × Bool} (h : ¬ (8 ≤ p.fr ∨ 8 ≤ p.dst)) (ha : p.ack = false) (hk : hasK p.m.kind = some hh) (ht : mayT p.m.tc p.m.ts = false) : wrapM p = (wd0, 1) := by
 have e : text7 p.m.tc p.m.ts = ([], 1) := by unfold text7; rw [if_neg (by simp [ht])]
 unfold wrapM; rw [if_neg h, if_neg (by simp [ha]), hk]; simp only [e]; rw [if_pos (by decide)]
theorem wrapM_main {p : PD} {hh : Bool × Bool × Bool} (h : ¬ (8 ≤ p.fr ∨ 8 ≤ p.dst)) (ha : p.ack = false) (hk : hasK p.m.kind = some hh) (ht : mayT p.m.tc p.m.ts = true) :
  wrapM p = if mayM hh p.m then (⟨p.fr, p.dst, p.num, msgSegs hh p.m (text7 p.m.tc p.m.ts).1⟩, 0) else (wd0, 101) := by
 have e : (text7 p.m.tc p.m.ts).2 = 0 := by unfold text7; rw [if_pos ht]
 unfold wrapM; rw [if_neg h, if_neg (by simp [ha]), hk]; simp only [e]; rw [if_neg (by decide)]
set_option maxRecDepth 100000 in
set_option maxHeartbeats 4000000 in
theorem mwrap_car (p : PD) (h : 8 ≤ p.fr ∨ 8 ≤ p.dst) (w : World) : Calls Tryz.prog 13 #[.agg (pktA p).toArray] w fun e w' => WrapMQ p w e w' := by
 have HQ := Lib.hid (wrapM_car h)
 have hb : (decide (p.fr < 8) && decide (p.dst < 8)) = false := by simp; omega
 unfold pktA msgA
 simp only [List.cons_append, List.nil_append]
 clear h
 go_enter Tryz.func13, Tryz.ntmps13
 go_wp2_with (go_at_call 41; refine (carriers_any _ _ _).mono ?_; rw [hb]; rintro e w' ⟨rfl, rfl⟩)
 refine bodyPost_ret (res_wrap rfl _ rfl rfl ((Below.heap_alloc _ _ _ (by simp)).trans (heap_alloc_at (by simp))) rfl) rfl ?_
 exact wrapMQ_err HQ.out ((((Below.refl _ _).alloc (Nat.le_refl _) _).alloc (by simp) _).alloc (by simp only [World.size_alloc]; omega) _)
set_option maxRecDepth 100000 in
set_option maxHeartbeats 4000000 in
theorem mwrap_ackno (p : PD) (h : ¬ (8 ≤ p.fr ∨ 8 ≤ p.dst)) (ha : p.ack = true) (hm : p.m ≠ md0) (w : World) : Calls Tryz.prog 13 #[.agg (pktA p).toArray] w fun e w' => WrapMQ p w e w' := by
 have HQ := Lib.hid (wrapM_ackno h ha hm)
 have hb : (decide (p.fr < 8) && decide (p.dst < 8)) = true := by simp; omega
 have hne := fun w => neq_msg p.m md0 w
 have e0 : eqM p.m md0 = false := by
  cases h : eqM p.m md0 with
  | false => rfl
  | true => exact absurd (eqM_iff.1 h) hm
 rw [e0] at hne
 unfold msgA at hne
 simp only [md0, cd0, Int.natCast_zero, Bool.not_false] at hne
 unfold pktA msgA
 simp only [List.cons_append, List.nil_append]
 rw [ha]
 clear h hm e0
 go_enter Tryz.func13, Tryz.ntmps13
 go_wp2_with (go_at_call 41; refine (carriers_any _ _ _).mono ?_; rw [hb]; rintro e w' ⟨rfl, rfl⟩)
 refine bodyPost_ret (res_wrap rfl _ rfl rfl ((Below.heap_alloc _ _ _ (by simp)).trans (heap_alloc_at (by simp))) rfl) rfl ?_
 exact wrapMQ_err HQ.out ((((Below.refl _ _).alloc (Nat.le_refl _) _).alloc (by simp) _).alloc (by simp only [World.size_alloc]; omega) _)
set_option maxRecDepth 100000 in
set_option maxHeartbeats 4000000 in
theorem mwrap_kind (p : PD) (h : ¬ (8 ≤ p.fr ∨ 8 ≤ p.dst)) (ha : p.ack = false) (hk : hasK p.m.kind = none) (w : World) : Calls Tryz.prog 13 #[.agg (pktA p).toArray] w fun e w' => WrapMQ p w e w' := by
 have HQ := Lib.hid (wrapM_kind h ha hk)
 have hb : (decide (p.fr < 8) && decide (p.dst < 8)) = true := by simp; omega
 have HK := Lib.hid hk
 unfold pktA msgA
 simp only [List.cons_append, List.nil_append]
 rw [ha]
 clear h hk
 go_enter Tryz.func13, Tryz.ntmps13
 go_wp2_with (first | (go_at_call 41; refine (carriers_any _ _ _).mono ?_; rw [hb]; rintro e w' ⟨rfl, rfl⟩) | (go_at_call 43; go_loud (refine (parts_any _ _).mono ?_; rintro e w1 ⟨v, rfl, hpp, hbb⟩; rw [HK.out, Option.isSome_none]; have hr : w1.heap[w.heap.size + 1]? = some (.cells #[.int .u8 0, .int .u8 0, .int .u64 0, .slice none 0 0] 41 (0, 0)) := (hbb.block _ (by simp <;> omega)).trans ((Below.heap_alloc _ _ _ (by simp <;> omega)).trans ((Below.heap_alloc _ _ _ (by simp)).trans (heap_alloc_at (by simp)))); obtain ⟨⟨d0, d1, d2, d3⟩, f0, f1, f2, f3⟩ := cells4 hr; have HR := Lib.hid hr; have HB := Lib.hid hbb; clear hbb hr hpp)))
 refine bodyPost_ret (res_wrap rfl _ rfl rfl (put4_heap HR.out _ _ _ _) rfl) rfl ?_
 exact wrapMQ_err HQ.out (put4_below ((((((Below.refl _ _).alloc (Nat.le_refl _) _).alloc (by simp) _).alloc (by simp only [World.size_alloc]; omega) _).alloc (by simp only [World.size_alloc]; omega) _).trans (HB.out.mono (by simp only [World.size_alloc]; omega))) (by omega) _ _ _ _)
set_option maxRecDepth 100000 in
set_option maxHeartbeats 4000000 in
theorem mwrap_text (p : PD) {hh : Bool × Bool × Bool} (hc : p.m.tc < 256) (hs : p.m.ts < 18446744073709551616) (h : ¬ (8 ≤ p.fr ∨ 8 ≤ p.dst)) (ha : p.ack = false) (hk : hasK p.m.kind = some hh) (ht : mayT p.m.tc p.m.ts = false) (w : World) : Calls Tryz.prog 13 #[.agg (pktA p).toArray] w fun e w' => WrapMQ p w e w' := by
 have HQ := Lib.hid (wrapM_text h ha hk ht)
 have hb : (decide (p.fr < 8) && decide (p.dst < 8)) = true := by simp; omega
 have HK := Lib.hid hk
 have HT := Lib.hid ht
 unfold pktA msgA
 simp only [List.cons_append, List.nil_append]
 rw [ha]
 clear h hk ht
 go_enter Tryz.func13, Tryz.ntmps13
 go_wp2_with (first | (go_at_call 41; refine (carriers_any _ _ _).mono ?_; rw [hb]; rintro e w' ⟨rfl, rfl⟩) | (go_at_call 43; go_loud (refine (parts_any _ _).mono ?_; rintro e w1 ⟨v, rfl, hpp, hbb⟩; rw [HK.out, Option.isSome_some]; have hm : w1.heap[w.heap.size + 3]? = some (.cells #[.int .u8 (p.m.kind : Int), .int .u8 (p.m.tc : Int), .int .u64 (p.m.ts : Int), .int .u8 (p.m.pl : Int), .int .u8 (p.m.c.car : Int), .int .u16 (p.m.c.fl : Int), .int .u32 (p.m.c.we : Int), .int .i64 p.m.c.va, .int .u8 (p.m.c.st : Int), .int .u32 (p.m.c.no : Int), .int .i64 p.m.am, .int .i64 p.m.co] 36 (0, 0)) := (hbb.block _ (by simp <;> omega)).trans (heap_alloc_at (by simp)); have m1 : w1.cell? ⟨w.heap.size + 3, 1, none⟩ = some (.int .u8 (p.m.tc : Int)) := cell_of_row w1 (w.heap.size + 3) 1 _ _ _ hm; have m2 : w1.cell? ⟨w.heap.size + 3, 2, none⟩ = some (.int .u64 (p.m.ts : Int)) := cell_of_row w1 (w.heap.size + 3) 2 _ _ _ hm; have hr : w1.heap[w.heap.size + 1]? = some (.cells #[.int .u8 0, .int .u8 0, .int .u64 0, .slice none 0 0] 41 (0, 0)) := (hbb.block _ (by simp <;> omega)).trans ((Below.heap_alloc _ _ _ (by simp <;> omega)).trans ((Below.heap_alloc _ _ _ (by simp <;> omega)).trans (heap_alloc_at (by simp)))); obtain ⟨⟨d0, d1, d2, d3⟩, f0, f1, f2, f3⟩ := cells4 hr; have HR := Lib.hid hr; clear hr; have HB := Lib.hid hbb; clear hbb hm hpp)) | (go_at_call 44; go_loud (refine (nText_no hc hs HT.out _).mono ?_; rintro e w2 ⟨rfl, hb2⟩; have hz1 := HB.out.size; have hr : w2.heap[w.heap.size + 1]? = some (.cells #[.int .u8 0, .int .u8 0, .int .u64 0, .slice none 0 0] 41 (0, 0)) := (hb2.block _ (by simp at hz1; omega)).trans HR.out; clear d0 d1 d2 d3 f0 f1 f2 f3; obtain ⟨⟨d0, d1, d2, d3⟩, f0, f1, f2, f3⟩ := cells4 hr; have HR2 := Lib.hid hr; have HB2 := Lib.hid hb2; clear hb2 hr)))
 refine bodyPost_ret (res_wrap rfl _ rfl rfl (put4_heap HR2.out _ _ _ _) rfl) rfl ?_
 have hz1 := HB.out.size
 simp at hz1
 exact wrapMQ_err HQ.out (put4_below (((((((Below.refl _ _).alloc (Nat.le_refl _) _).alloc (by simp) _).alloc (by simp only [World.size_alloc]; omega) _).alloc (by simp only [World.size_alloc]; omega) _).trans (HB.out.mono (by simp only [World.size_alloc]; omega))).trans (HB2.out.mono (by omega))) (by omega) _ _ _ _)
theorem segs_one {S : Nat → Prop} {w : World} {t : Str} {st : ByteArray} {es : List (List Str)} {ev : Value} (hst : (⟨t.toArray⟩ : ByteArray) = st) (he : ElemsAt S w ev es) (hS : ∀ k, S k → k < w.heap.size) :
  SegsAt (fun k => S k ∨ k = w.heap.size) (w.alloc (.cells #[.string st, ev] 94)) (.slice (some ⟨w.heap.size, 0, none⟩) 1 1) [⟨t, es⟩] := by
 refine ⟨some ⟨w.heap.size, 0, none⟩, 1, [ev], rfl, by simp, by decide, (fun e => by cases e), rfl, fun i s x h1 h2 => ?_, fun _ => ⟨w.heap.size, 0, rfl, .inr rfl, fun i s x h1 h2 => ?_⟩⟩
 · match i, h1, h2 with
   | 0, h1, h2 => simp at h1 h2; subst h1; subst h2; exact he.cong (fun k hk => .inl hk) (fun k hk => Below.heap_alloc _ _ _ (hS k hk))
   | i + 1, h1, _ => simp at h1
 · match i, h1, h2 with
   | 0, h1, h2 =>
     simp at h1 h2; subst h1; subst h2
     have hc := heap_alloc_new w (.cells #[.string st, ev] 94)
     exact ⟨by unfold sv; rw [hst]; exact cell_of_row _ _ 0 _ _ _ hc, cell_of_row _ _ 1 _ _ _ hc⟩
   | i + 1, h1, _ => simp at h1
theorem wrapT_len (a b c d f : Nat) (m : List Seg) (ha : a < 18446744073709551616) (hb : b < 18446744073709551616) (hc : c < 18446744073709551616) (hd : d < 18446744073709551616) (hf : f < 18446744073709551616) : (printT (wrapL a b c d f m)).length ≤ (printT m).length + 200 := by
 rw [roundT_eq]
 have h1 := dec_len20 ha
 have h2 := dec_len20 hb
 have h3 := dec_len20 hc
 have h4 := dec_len20 hd
 have h5 := dec_len20 hf
 unfold roundT unb unz
 simp only [List.length_append, List.length_cons, List.length_nil]
 omega
def WPrintQ (x : WD) (w : World) (e : Ending) (w' : World) : Prop := e = .returned (.tuple #[sv (wrapPrintE x).1, .int .i64 (wrapPrintE x).2]) ∧ Below w.heap.size w w'
set_option maxRecDepth 100000 in
set_option maxHeartbeats 8000000 in
theorem wPrint_any {S : Nat → Prop} (x : WD) (v : Value) (w : World) (hv : VarsOk w) (h1 : x.fr < 256) (h2 : x.dst < 256) (h3 : x.rf < 18446744073709551616) (hs : SegsAt S w v x.segs) (hS : ∀ k, S k → k < w.heap.size) (hP : x.segs.length ≤ 62 → (printT x.segs).length ≤ 1000000) :
  Calls Tryz.prog 58 #[wv x v] w fun e w' => WPrintQ x w e w' := by
 obtain ⟨fr, dst, rf, m⟩ := x
 simp only at h1 h2 h3 hs hP
 obtain ⟨B, hB⟩ : ∃ B, w.heap.size = B := ⟨_, rfl⟩
 have HBQ := Lib.hid hB
 have HS := Lib.hid hS
 have HV := Lib.hid hv
 have HSG := Lib.hid hs
 have HPL := Lib.hid hP
 obtain ⟨ao, cap, rfl, c1, c2⟩ := hs.form
 obtain ⟨n, hn⟩ : ∃ n, m.length = n := ⟨_, rfl⟩
 have HN := Lib.hid hn
 rw [hn] at c1 HSG ⊢
 unfold maxLen at c2
 unfold WPrintQ
 rw [hB]
 obtain ⟨w1, hw1⟩ : ∃ w1, w.alloc (.cells #[.int .u8 (fr : Int), .int .u8 (dst : Int), .int .u64 (rf : Int), .slice ao n cap] 41) = w1 := ⟨_, rfl⟩
 have hz1 : w1.heap.size = B + 1 := by rw [← hw1]; simp [hB]
 have HB1 : Hid (Below B w w1) := Lib.hid (by rw [← hw1, ← hB]; exact (Below.refl _ _).alloc (Nat.le_refl _) _)
 have hr1 : w1.heap[B]? = some (.cells #[.int .u8 (fr : Int), .int .u8 (dst : Int), .int .u64 (rf : Int), .slice ao n cap] 41 (0, 0)) := by rw [← hw1, ← hB]; exact heap_alloc_new _ _
 have HR1 := Lib.hid hr1
 obtain ⟨⟨d0, d1, d2, d3⟩, _⟩ := cells4 hr1
 have HZ1 := Lib.hid hz1
 have HW1 := Lib.hid hw1
 have wr1 : IntKind.u64.wrap (fr : Int) = (fr : Int) := by rw [IntKind.wrap_u64]; omega
 have wr2 : IntKind.u64.wrap (dst : Int) = (dst : Int) := by rw [IntKind.wrap_u64]; omega
 clear hB hs hS hv hP hn hz1 hw1 hr1
 by_cases g1 : 8 ≤ fr
 · skip
   have i1 : decide ((8 : Int) ≤ (fr : Int)) = true := by rw [decide_eq_true_eq]; omega
   have hE : wrapPrintE ⟨fr, dst, rf, m⟩ = ([], 1) := by unfold wrapPrintE; rw [if_pos (.inl g1)]
   have HE := Lib.hid hE
   clear hE
   unfold wv
   go_enter Tryz.func58, Tryz.ntmps58
   go_upto_region 1 with fail
   rw [HW1.out, HBQ.out]
   go_wp2_with fail
   go_ret2
   rw [HE.out]
   exact ⟨rfl, HB1.out⟩
 have i1 : decide ((8 : Int) ≤ (fr : Int)) = false := by rw [decide_eq_false_iff_not]; omega
 by_cases g2 : 8 ≤ dst
 · skip
   have i2 : decide ((8 : Int) ≤ (dst : Int)) = true := by rw [decide_eq_true_eq]; omega
   have hE : wrapPrintE ⟨fr, dst, rf, m⟩ = ([], 1) := by unfold wrapPrintE; rw [if_pos (.inr g2)]
   have HE := Lib.hid hE
   clear hE
   unfold wv
   go_enter Tryz.func58, Tryz.ntmps58
   go_upto_region 1 with fail
   rw [HW1.out, HBQ.out]
   go_wp2_with fail
   go_ret2
   rw [HE.out]
   exact ⟨rfl, HB1.out⟩
 have i2 : decide ((8 : Int) ≤ (dst : Int)) = false := by rw [decide_eq_false_iff_not]; omega
 by_cases g3 : 62 < n
 · skip
   have i3 : decide ((62 : Int) < (n : Int)) = true := by rw [decide_eq_true_eq]; omega
   have hE : wrapPrintE ⟨fr, dst, rf, m⟩ = ([], 2) := by unfold wrapPrintE; rw [if_neg (by simp only; omega), if_pos (by simp only; rw [HN.out]; exact g3)]
   have HE := Lib.hid hE
   clear hE
   unfold wv
   go_enter Tryz.func58, Tryz.ntmps58
   go_upto_region 1 with fail
   rw [HW1.out, HBQ.out]
   go_wp2_with fail
   go_ret2
   rw [HE.out]
   exact ⟨rfl, HB1.out⟩
 · skip
   have i3 : decide ((62 : Int) < (n : Int)) = false := by rw [decide_eq_false_iff_not]; omega
   have hE : wrapPrintE ⟨fr, dst, rf, m⟩ = printE (wrapL fr dst rf n rf m) := by unfold wrapPrintE; rw [if_neg (by simp only; omega), if_neg (by simp only; rw [HN.out]; exact g3), HN.out]
   have HE := Lib.hid hE
   have HT := Lib.hid (show (printT (wrapL fr dst rf n rf m)).length ≤ 1048576 by
    have e1 := wrapT_len fr dst rf n rf m (by omega) (by omega) h3 (by omega) h3
    have e2 := HPL.out (by rw [HN.out]; omega)
    omega)
   have wr3 : IntKind.u64.wrap (n : Int) = (n : Int) := by rw [IntKind.wrap_u64]; omega
   obtain ⟨w2, hw2⟩ : ∃ w2, w1.alloc (.cells #[.int .u64 (fr : Int), .int .u64 (dst : Int), .int .u64 (rf : Int)] 22) = w2 := ⟨_, rfl⟩
   have hz2 : w2.heap.size = B + 2 := by rw [← hw2]; simp [HZ1.out]
   have HB2 : Hid (Below (B + 1) w1 w2) := Lib.hid (by rw [← hw2, ← HZ1.out]; exact (Below.refl _ _).alloc (Nat.le_refl _) _)
   have hr2 : w2.heap[B + 1]? = some (.cells #[.int .u64 (fr : Int), .int .u64 (dst : Int), .int .u64 (rf : Int)] 22 (0, 0)) := by rw [← hw2, ← HZ1.out]; exact heap_alloc_new _ _
   have hv2 : VarsOk w2 := (HV.out.on HB1.out (by rw [HBQ.out]; exact Nat.le_refl _)).on HB2.out (by rw [HZ1.out]; exact Nat.le_refl _)
   have HSEG1 := Lib.hid (segment_any ⟨#[85, 78, 66]⟩ [fr, dst, rf] (B + 1) 0 3 w2 hv2 (by simp) (by simp; omega) (by simp) (by decide) (fun i u hu => by
    match i, hu with
    | 0, hu => simp at hu; subst hu; exact cell_of_row w2 (B + 1) 0 _ _ _ hr2
    | 1, hu => simp at hu; subst hu; exact cell_of_row w2 (B + 1) 1 _ _ _ hr2
    | 2, hu => simp at hu; subst hu; exact cell_of_row w2 (B + 1) 2 _ _ _ hr2
    | i + 3, hu => simp at hu))
   have HV2 := Lib.hid hv2
   have HZ2 := Lib.hid hz2
   have HW2 := Lib.hid hw2
   clear hE hw2 hz2 hr2 hv2
   unfold wv
   go_enter Tryz.func58, Tryz.ntmps58
   go_upto_region 1 with fail
   rw [HW1.out, HBQ.out]
   go_upto_region 6 with (go_at_call 96; rw [HW2.out, HZ1.out]; refine HSEG1.out.mono ?_; rintro e w3 ⟨ev1, rfl, he1, hb3⟩; rw [HZ2.out] at he1 hb3; have HEV1 := Lib.hid he1; have HB3 := Lib.hid hb3; clear he1 hb3)
   have hz3 := HB3.out.size
   rw [HZ2.out] at hz3
   obtain ⟨D, hD⟩ : ∃ D, w3.heap.size = D := ⟨_, rfl⟩
   obtain ⟨w4, hw4⟩ : ∃ w4, w3.alloc (.cells #[.string ⟨#[85, 78, 66]⟩, ev1] 94) = w4 := ⟨_, rfl⟩
   have HOG : Hid (OG (B + 2) w4 (.slice (some ⟨D, 0, none⟩) 1 1) [ev1] [⟨unb, nums [fr, dst, rf]⟩]) := Lib.hid (by
    rw [← hw4, ← hD]
    exact OG.one rfl (by omega) (HEV1.out.cong (fun k hk => hk.2) (fun _ _ => rfl)))
   have HB4 : Hid (Below (B + 2) w2 w4) := Lib.hid (by rw [← hw4]; exact HB3.out.trans ((Below.refl _ _).alloc (by omega) _))
   have HB5 : Hid (Below B w w4) := Lib.hid ((HB1.out.trans (HB2.out.mono (by omega))).trans (HB4.out.mono (by omega)))
   have hbx := (HB4.out.block B (by omega)).trans ((HB2.out.block B (by omega)).trans HR1.out)
   have HBX := Lib.hid hbx
   have hz4 : w4.heap.size = D + 1 := by rw [← hw4, ← hD]; simp
   have HZ4 := Lib.hid hz4
   obtain ⟨⟨d0, d1, d2, d3⟩, _⟩ := cells4 hbx
   have HSG4 : Hid (SegsAt S w4 (.slice ao n cap) m) := Lib.hid (HSG.out.cong (fun _ hk => hk) (fun k hk => HB5.out.block k (by rw [← HBQ.out]; exact HS.out k hk)))
   have HSD : Hid (∀ k, S k → k < D ∧ k ≠ D) := Lib.hid (fun k hk => by have h1 := HS.out k hk; rw [HBQ.out] at h1; omega)
   have HW4 := Lib.hid hw4
   have HDD := Lib.hid hD
   rw [hD] at hz3
   clear hw4 hD hbx hz4
   rw [HW4.out, HDD.out]
   go_upto_region 7 with ((with_reducible refine wpList_at (.call { callee := .builtin .append, args := #[.tmp 30, .tmp 32], argTypes := #[39, 39] }) rfl ?_); go_loud (refine wp_app_og _ _ rfl rfl rfl rfl HOG.out HSG4.out (fun k hk => ⟨by rw [HZ4.out]; have := HSD.out k hk; omega, fun e => by cases e; exact (HSD.out _ hk).2 rfl⟩) (by rw [HN.out]; simp; omega) (by rw [HZ4.out]; omega) ?_); intro v5 w5 xs5 ho5 hb5; have HO5 := Lib.hid ho5; have HB6 := Lib.hid hb5; clear ho5 hb5)
   have hz5 := HB6.out.size
   rw [HZ4.out] at hz5
   have hbx5 := (HB6.out.block B (by omega)).trans HBX.out
   obtain ⟨⟨q0, q1, q2, q3⟩, _⟩ := cells4 hbx5
   obtain ⟨E, hE5⟩ : ∃ E, w5.heap.size = E := ⟨_, rfl⟩
   obtain ⟨w6, hw6⟩ : ∃ w6, w5.alloc (.cells #[.int .u64 (n : Int), .int .u64 (rf : Int)] 22) = w6 := ⟨_, rfl⟩
   have hz6 : w6.heap.size = E + 1 := by rw [← hw6]; simp [hE5]
   have hr6 : w6.heap[E]? = some (.cells #[.int .u64 (n : Int), .int .u64 (rf : Int)] 22 (0, 0)) := by rw [← hw6, ← hE5]; exact heap_alloc_new _ _
   have HB7 : Hid (Below E w5 w6) := Lib.hid (by rw [← hw6, ← hE5]; exact (Below.refl _ _).alloc (Nat.le_refl _) _)
   have HB8 : Hid (Below B w w6) := Lib.hid ((HB5.out.trans (HB6.out.mono (by omega))).trans (HB7.out.mono (by rw [← hE5]; omega)))
   have hv6 : VarsOk w6 := HV.out.on HB8.out (by rw [HBQ.out]; exact Nat.le_refl _)
   have HSEG2 := Lib.hid (segment_any ⟨#[85, 78, 90]⟩ [n, rf] E 0 2 w6 hv6 (by simp) (by simp; omega) (by simp) (by decide) (fun i u hu => by
    match i, hu with
    | 0, hu => simp at hu; subst hu; exact cell_of_row w6 E 0 _ _ _ hr6
    | 1, hu => simp at hu; subst hu; exact cell_of_row w6 E 1 _ _ _ hr6
    | i + 2, hu => simp at hu))
   have HZ6 := Lib.hid hz6
   have HW6 := Lib.hid hw6
   have HE5 := Lib.hid hE5
   rw [hE5] at hz5
   obtain ⟨sa, sc, rfl⟩ := own_slice HO5.out.row
   clear hw6 hz6 hr6 hv6 hE5 d0 d1 d2 d3 hbx5
   go_wp2_with (first
     | (go_at_call 96; rw [HW6.out, HE5.out]; refine HSEG2.out.mono ?_; rintro e w7 ⟨ev2, rfl, he2, hb7⟩; rw [HZ6.out] at he2 hb7; have HEV2 := Lib.hid he2; have HB9 := Lib.hid hb7; clear he2 hb7;
         have hz7 := HB9.out.size; rw [HZ6.out] at hz7;
         have HSG7 : Hid (SegsAt (fun k => (E ≤ k ∧ k < w7.heap.size) ∨ k = w7.heap.size) (w7.alloc (.cells #[.string ⟨#[85, 78, 90]⟩, ev2] 94)) (.slice (some ⟨w7.heap.size, 0, none⟩) 1 1) [⟨unz, nums [n, rf]⟩]) := Lib.hid (segs_one rfl (HEV2.out.cong (fun k hk => ⟨by omega, hk.2⟩) (fun _ _ => rfl)) (fun k hk => hk.2));
         have HB10 : Hid (Below E w5 (w7.alloc (.cells #[.string ⟨#[85, 78, 90]⟩, ev2] 94))) := Lib.hid ((HB7.out.trans (HB9.out.mono (by omega))).trans ((Below.refl _ _).alloc (by omega) _));
         have HO7 : Hid (OG (B + 2) (w7.alloc (.cells #[.string ⟨#[85, 78, 90]⟩, ev2] 94)) (.slice sa ([⟨unb, nums [fr, dst, rf]⟩] ++ m : List Seg).length sc) xs5 ([⟨unb, nums [fr, dst, rf]⟩] ++ m)) := Lib.hid (HO5.out.below (by rw [HE5.out]; exact HB10.out)))
     | ((with_reducible refine wpList_at (.call { callee := .builtin .append, args := #[.tmp 34, .tmp 43], argTypes := #[39, 39] }) rfl ?_); go_loud (refine wp_app_og _ _ rfl rfl rfl rfl HO7.out HSG7.out (fun k hk => ⟨by simp; omega, fun e => by have h1 := (own_lt HO5.out.row e).2; rw [HE5.out] at h1; rcases hk with hk | hk <;> omega⟩) (by simp [HN.out]; omega) (by simp; omega) ?_); intro v8 w8 xs8 ho8 hb8; have HO8 := Lib.hid ho8; have HB11 := Lib.hid hb8; clear ho8 hb8)
     | (go_at_call 97; refine (print_any w8 v8 _ (HO8.out.rest) HT.out).mono ?_; rintro e w9 ⟨rfl, hb9⟩; have HB12 := Lib.hid hb9; clear hb9))
   go_ret2
   rw [HE.out]
   have hz8 := HB11.out.size
   simp only [World.size_alloc] at hz8
   exact ⟨rfl, (((HB5.out.trans (HB6.out.mono (by omega))).trans (HB10.out.mono (by omega))).trans (HB11.out.mono (by omega))).trans (HB12.out.mono (by omega))⟩
set_option maxRecDepth 100000 in
set_option maxHeartbeats 4000000 in
theorem mwrap_ack (p : PD) (h : ¬ (8 ≤ p.fr ∨ 8 ≤ p.dst)) (ha : p.ack = true) (hm : p.m = md0) (w : World) : Calls Tryz.prog 13 #[.agg (pktA p).toArray] w fun e w' => WrapMQ p w e w' := by
 have HQ := Lib.hid (wrapM_ack h ha hm)
 have HAK := Lib.hid ha
 have hb : (decide (p.fr < 8) && decide (p.dst < 8)) = true := by simp; omega
 unfold pktA msgA
 simp only [List.cons_append, List.nil_append]
 rw [ha, hm]
 simp only [md0, cd0, Int.natCast_zero]
 clear h hm
 go_enter Tryz.func13, Tryz.ntmps13
 go_upto_region 8 with (first | (go_at_call 41; refine (carriers_any _ _ _).mono ?_; rw [hb]; rintro e w' ⟨rfl, rfl⟩) | (go_at_call 42; go_loud (refine (msegment_any (S := fun _ => False) ⟨#[65, 67, 75]⟩ [] _ _ (RowAt.nil _ _) (fun k hk => hk.elim) (by simp)).mono ?_; rintro e w1 ⟨ev, rfl, hev, hbb⟩; have hw : w1.heap[w.heap.size + 1 + 1]? = some (.cells #[.int .u8 (p.fr : Int), .int .u8 (p.dst : Int), .int .u64 (p.num : Int), .slice none 0 0] 41 (0, 0)) := (hbb.block _ (by simp <;> omega)).trans (heap_alloc_at (by simp)); obtain ⟨⟨c0, c1, c2, c3⟩, g0, g1, g2, g3⟩ := cells4 hw; have hr : w1.heap[w.heap.size + 1]? = some (.cells #[.int .u8 0, .int .u8 0, .int .u64 0, .slice none 0 0] 41 (0, 0)) := (hbb.block _ (by simp <;> omega)).trans ((Below.heap_alloc _ _ _ (by simp <;> omega)).trans (heap_alloc_at (by simp))); obtain ⟨⟨d0, d1, d2, d3⟩, f0, f1, f2, f3⟩ := cells4 hr; have q2 : w.heap.size + 1 + 1 < w1.heap.size := (by have hq := hbb.size; simp at hq; omega); have HR := Lib.hid hr; have HW := Lib.hid hw; have HEV := Lib.hid hev; have HB := Lib.hid hbb; clear hbb hr hw hev)))
 have hz1 := HB.out.size
 simp at hz1
 obtain ⟨D, hD⟩ : ∃ D, w1.heap.size = D := ⟨_, rfl⟩
 obtain ⟨w2, hw2⟩ : ∃ w2, (w1.setCell ⟨w.heap.size + 1 + 1, 3, none⟩ (.slice (some ⟨D, 0, none⟩) 1 1)).alloc (.cells #[.string ⟨#[65, 67, 75]⟩, ev] 94) = w2 := ⟨_, rfl⟩
 have hz2 : w2.heap.size = D + 1 := by rw [← hw2, ← hD]; simp
 have hr2 : w2.heap[w.heap.size + 1]? = some (.cells #[.int .u8 0, .int .u8 0, .int .u64 0, .slice none 0 0] 41 (0, 0)) := by rw [← hw2]; exact (Below.heap_alloc _ _ _ (by simp; omega)).trans ((heap_setCell_other _ _ _ _ (by simp)).trans HR.out)
 have hww2 : w2.heap[w.heap.size + 1 + 1]? = some (.cells #[.int .u8 (p.fr : Int), .int .u8 (p.dst : Int), .int .u64 (p.num : Int), .slice (some ⟨D, 0, none⟩) 1 1] 41 (0, 0)) := by rw [← hw2]; exact (Below.heap_alloc _ _ _ (by simp; omega)).trans (heap_setCell_same _ _ 3 _ _ _ HW.out)
 have HSG : Hid (SegsAt (fun k => D ≤ k ∧ k < w2.heap.size ∨ w.heap.size + 3 ≤ k ∧ k < D) w2 (.slice (some ⟨D, 0, none⟩) 1 1) [wordSeg tACK []]) := Lib.hid (by
  have hev2 : ElemsAt (fun k => w.heap.size + 3 ≤ k ∧ k < D) (w1.setCell ⟨w.heap.size + 1 + 1, 3, none⟩ (.slice (some ⟨D, 0, none⟩) 1 1)) ev (ones []) := HEV.out.cong (fun k hk => by have h2 := hk.1; simp at h2; exact ⟨by omega, by omega⟩) (fun k hk => heap_setCell_other _ _ _ _ (by have h2 := hk.1; simp at h2; simp; omega))
  have h1 := segs_one (t := tACK) (st := ⟨#[65, 67, 75]⟩) rfl hev2 (fun k hk => by simp; omega)
  have e : (w1.setCell ⟨w.heap.size + 1 + 1, 3, none⟩ (.slice (some ⟨D, 0, none⟩) 1 1)).heap.size = D := by rw [← hD]; simp
  rw [e, hw2] at h1
  refine h1.cong (fun k hk => ?_) (fun k _ => rfl)
  rcases hk with hk | hk
  · exact .inr hk
  · exact .inl ⟨by omega, by omega⟩)
 have HBX : Hid (Below w.heap.size w w2) := Lib.hid (by
  rw [← hw2]
  exact ((((((Below.refl _ _).alloc (Nat.le_refl _) _).alloc (by simp) _).alloc (by simp only [World.size_alloc]; omega) _).trans (HB.out.mono (by simp only [World.size_alloc]; omega))).setCell (by simp; omega) _).alloc (by simp; omega) _)
 have hDD : w.heap.size + 1 + 1 < D := by omega
 rw [hD, hw2]
 obtain ⟨⟨d0, d1, d2, d3⟩, f0, f1, f2, f3⟩ := cells4 hr2
 obtain ⟨⟨c0, c1, c2, c3⟩, g0, g1, g2, g3⟩ := cells4 hww2
 have HR2 := Lib.hid hr2
 clear hr2 hww2 hw2 hD hb
 go_wp2_with fail
 refine bodyPost_ret (res_wrap rfl _ rfl rfl (put4_heap HR2.out _ _ _ _) rfl) rfl ?_
 unfold WrapMQ
 rw [HQ.out]
 refine ⟨_, rfl, ?_, put4_below HBX.out (by omega) _ _ _ _, fun h => by rw [HAK.out] at h; cases h⟩
 refine HSG.out.cong (fun k hk => ?_) (fun k hk => put4_other _ _ _ _ _ _ (by rcases hk with h | h <;> omega))
 have e : (put4 w2 (w.heap.size + 1) (.int .u8 (p.fr : Int)) (.int .u8 (p.dst : Int)) (.int .u64 (p.num : Int)) (.slice (some ⟨D, 0, none⟩) 1 1)).heap.size = w2.heap.size := by unfold put4; simp
 refine ⟨by rcases hk with h | h <;> omega, ?_⟩
 show k < (put4 w2 (w.heap.size + 1) (.int .u8 (p.fr : Int)) (.int .u8 (p.dst : Int)) (.int .u64 (p.num : Int)) (.slice (some ⟨D, 0, none⟩) 1 1)).heap.size
 rcases hk with h | h <;> omega
structure OGT (T : Nat → Prop) (B : Nat) (w : World) (ov : Value) (xs : List Value) (l : List Seg) : Prop where
 row : w.ownsRow B 94 2 ov l.length (segCells l xs)
 len : xs.length = l.length
 el : ∀ (i : Nat) (s : Seg) (x : Value), l[i]? = some s → xs[i]? = some x → ElemsAt (fun b => T b ∧ b < w.heap.size ∧ ov.ownBlock ≠ some b) w x s.elems
theorem ElemsAt.empty {S T : Nat → Prop} {w w' : World} {x : Value} (h : ElemsAt S w x []) : ElemsAt T w' x [] := by
 obtain ⟨xs, ⟨ao, cap, rfl, h1, h2, h3, _⟩, hl, _⟩ := h
 obtain rfl : xs = [] := List.length_eq_zero_iff.1 hl
 exact ⟨[], ⟨ao, cap, rfl, h1, h2, h3, fun h => absurd rfl h⟩, rfl, fun i e x h => by simp at h⟩
theorem OGT.below {T : Nat → Prop} {B : Nat} {w w' : World} {ov : Value} {xs : List Value} {l : List Seg} (h : OGT T B w ov xs l) (hb : Below w.heap.size w w') : OGT T B w' ov xs l :=
 ⟨own_cong h.row (fun k hk => hb.block k (own_lt h.row hk).2), h.len, fun i s x h1 h2 => (h.el i s x h1 h2).cong (fun k hk => ⟨hk.1, by have := hb.size; omega, hk.2.2⟩) (fun k hk => hb.block k hk.2.1)⟩
theorem OGT.rest {T S : Nat → Prop} {B : Nat} {w : World} {ov : Value} {xs : List Value} {l : List Seg} (h : OGT T B w ov xs l) (hT : ∀ k, T k → k < w.heap.size → S k) (hR : ∀ k, ov.ownBlock = some k → S k) : SegsAt S w ov l :=
 segs_rest h.row h.len hR (fun i s x h1 h2 => (h.el i s x h1 h2).cong (fun _ hb => hT _ hb.1 hb.2.1) (fun _ _ => rfl))
theorem SegsAt.cap {S : Nat → Prop} {w : World} {ao : Option Addr} {m cap : Nat} {l : List Seg} (h : SegsAt S w (.slice ao m cap) l) : m = l.length ∧ m ≤ cap ∧ cap ≤ maxLen := by
 obtain ⟨ao', cap', xs, he, h2, h3, _⟩ := h
 injection he with e1 e2 e3
 subst e3; subst e2
 exact ⟨rfl, h2, h3⟩
theorem SegsAt.take {S : Nat → Prop} {w : World} {ao : Option Addr} {cap : Nat} {l m : List Seg} (h : SegsAt S w (.slice ao (l ++ m).length cap) (l ++ m)) : SegsAt S w (.slice ao l.length cap) l := by
 obtain ⟨ao', cap', xs, he, h2, h3, h4, h5, h6, h7⟩ := h
 cases he
 have hl : l.length ≤ (l ++ m).length := by simp
 have key : ∀ (i : Nat) (s : Seg), l[i]? = some s → (l ++ m)[i]? = some s := fun i s hs => by rw [List.getElem?_append_left (List.getElem?_eq_some_iff.1 hs).1]; exact hs
 have key2 : ∀ (i : Nat) (x : Value), (xs.take l.length)[i]? = some x → xs[i]? = some x := fun i x hx => by
  rw [List.getElem?_take] at hx
  split at hx
  · exact hx
  · cases hx
 refine ⟨ao, cap, xs.take l.length, rfl, by omega, h3, h4, by rw [List.length_take, h5]; omega, fun i s x hs hx => h6 i s x (key i s hs) (key2 i x hx), fun hne => ?_⟩
 obtain ⟨b, off, e, hS, hc⟩ := h7 (by intro e; exact hne (List.append_eq_nil_iff.1 e).1)
 exact ⟨b, off, e, hS, fun i s x hs hx => hc i s x (key i s hs) (key2 i x hx)⟩
theorem SegsAt.head {S : Nat → Prop} {w : World} {b off n cap : Nat} {l : List Seg} (H : SegsAt S w (.slice (some ⟨b, off, none⟩) n cap) l) {hi : Nat} (h2 : hi ≤ l.length) (hc : hi ≤ cap) (hc2 : cap ≤ maxLen) : SegsAt S w (.slice (some ⟨b, off, none⟩) hi cap) (l.take hi) := by
 have h := H.sub (lo := 0) (hi := hi) (c' := cap) (Nat.zero_le _) h2 (by omega) hc2
 rw [Nat.zero_mul, Nat.add_zero, Nat.sub_zero, List.drop_zero] at h
 exact h
theorem SegsAt.tail {S : Nat → Prop} {w : World} {b off n cap : Nat} {l : List Seg} (H : SegsAt S w (.slice (some ⟨b, off, none⟩) n cap) l) (hl : l.length = n) {lo : Nat} (h2 : lo ≤ n) (hc : n ≤ cap) (hc2 : cap ≤ maxLen) : SegsAt S w (.slice (some ⟨b, off + lo * 2, none⟩) (n - lo) (cap - lo)) (l.drop lo) := by
 have h := H.sub (lo := lo) (hi := n) (c' := cap - lo) h2 (by omega) (by omega) (by omega)
 rw [List.take_of_length_le (by omega)] at h
 exact h
end Go.Proofs.YtgfijlamhjjecaaGreatDoor
