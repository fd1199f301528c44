/-
  MsgKindsV: the walk of MsgKinds for every input. No condition but the laid variables.
-/
import Derived.Test.YtfbiffdldfkmpaaGreatDoorMg14
import Derived.Test.YtfbiffdldfkmpaaGreatDoorMg15
import Derived.Test.YtfbiffdldfkmpaaGreatDoorMg13
import Derived.IntWalk
namespace Go.Proofs.YtfbiffdldfkmpaaGreatDoor
open Go.RowKit
theorem lim_kind {p : PD} {x : WD} (h : wrapM p = (x, 0)) {k : Nat} (hk : k < 256) : wordsLim ⟨x.fr, x.dst, x.rf, partSeg tMSG [(k : Int)] :: x.segs.drop 1⟩ := by
  intro s hs
  rcases List.mem_cons.1 hs with rfl | hs
  · intro e he c hc
    have h1 : e ∈ [[sgnT (k : Int)]] := he
    rw [List.mem_singleton.1 h1] at hc
    rw [List.mem_singleton.1 hc]
    have := (plainW_sgn (v := (k : Int)) (by omega)).1
    omega
  · exact wrapM_lim h s (List.mem_of_mem_drop hs)
set_option maxRecDepth 100000 in
set_option maxHeartbeats 8000000 in
theorem msgKinds_walk {W : World} (hv : VarsOk W) (p : PD) (hp : okPD p) (ia : Int) (wa : (Lit.int .u8 ia).wf = true) : Calls Tryz.prog 10 #[.agg (pktA p).toArray, .int .u8 ia] W fun e w' => e = .returned (.bool true) ∧ Below W.heap.size W w' := by
  obtain ⟨kd, rfl, hkd⟩ : ∃ n : Nat, ia = (n : Int) ∧ n < 256 := by
    have r : (0 : Int) ≤ ia ∧ ia ≤ 255 := (Lit.wf_int_iff _ _).1 wa
    exact ⟨ia.toNat, by omega, by omega⟩
  obtain ⟨B, hB⟩ : ∃ B, W.heap.size = B := ⟨_, rfl⟩
  have HBQ := Lib.hid hB
  have HV := Lib.hid hv
  obtain ⟨w1, hw1⟩ : ∃ w1, W.alloc (.cells (pktA p).toArray 38) = w1 := ⟨_, rfl⟩
  have hz1 : w1.heap.size = B + 1 := by rw [← hw1]; simp [hB]
  have HB1 : Hid (Below B W w1) := Lib.hid (by rw [← hw1, ← hB]; exact (Below.refl _ _).alloc (Nat.le_refl _) _)
  have HC1 : Hid (w1.heap[B]? = some (.cells (pktA p).toArray 38 (0, 0))) := Lib.hid (by rw [← hw1, ← hB]; exact heap_alloc_new _ _)
  obtain ⟨X, hX⟩ : ∃ X, wrapM p = X := ⟨_, rfl⟩
  obtain ⟨xw, kw⟩ := X
  have HX := Lib.hid hX
  have HWR := Lib.hid (mWrapO_any p hp w1 (hv.on HB1.out (by rw [hB]; exact Nat.le_refl _)))
  unfold WrapMQ at HWR
  rw [hX] at HWR
  have hself := fun w => eql_pkt { p with m := { p.m with kind := kd } } { p with m := { p.m with kind := kd } } w
  rw [show eqP { p with m := { p.m with kind := kd } } { p with m := { p.m with kind := kd } } = true from eqP_iff.2 rfl] at hself
  unfold pktA msgA at HC1 hw1 HWR hself ⊢
  simp only [List.cons_append, List.nil_append] at HC1 hw1 HWR hself ⊢
  have HW1 := Lib.hid hw1
  have HZ1 := Lib.hid hz1
  rw [hB]
  obtain ⟨d0, d1, d2, d3, d4, d5, d6, d7, d8, d9, d10, d11, d12, d13, d14, d15⟩ := (cells16 HC1.out).1
  clear hv hB hw1 hz1 wa hX hp
  go_enter Tryz.func10, Tryz.ntmps10
  go_upto_region 1 with fail
  rw [HW1.out, HBQ.out]
  go_upto_region 2 with (go_at_call 11; refine HWR.out.mono ?_; rintro e w2 ⟨v, rfl, hs, hb, ho⟩; rw [HZ1.out] at hs hb ho; have HB2 := Lib.hid hb; have HS2 := Lib.hid hs; have HO2 := Lib.hid ho; obtain ⟨vo, lc, rfl, hc1, hc2⟩ := hs.form; clear hb hs ho; unfold wv)
  clear d0 d1 d2 d3 d4 d5 d6 d7 d8 d9 d10 d11 d12 d13 d14 d15
  unfold maxLen at hc2
  obtain ⟨n, hn⟩ : ∃ n, xw.segs.length = n := ⟨_, rfl⟩
  rw [hn] at HS2 HO2 hc1 ⊢
  have HLN := Lib.hid hn
  obtain ⟨D, hD⟩ : ∃ D, w2.heap.size = D := ⟨_, rfl⟩
  obtain ⟨w3, hw3⟩ : ∃ w3, w2.alloc (.cells #[.int .u8 (xw.fr : Int), .int .u8 (xw.dst : Int), .int .u64 (xw.rf : Int), .slice vo n lc] 41) = w3 := ⟨_, rfl⟩
  have HBX3 : Hid (w3.heap[D]? = some (.cells #[.int .u8 (xw.fr : Int), .int .u8 (xw.dst : Int), .int .u64 (xw.rf : Int), .slice vo n lc] 41 (0, 0))) := Lib.hid (by rw [← hw3, ← hD]; exact heap_alloc_new _ _)
  have hz2 := HB2.out.size
  rw [HZ1.out, hD] at hz2
  have HU3 : Hid (Below D w2 w3) := Lib.hid (by rw [← hw3, ← hD]; exact (Below.refl _ _).alloc (Nat.le_refl _) _)
  have HBF : Hid (Below B W w3) := Lib.hid (HB1.out.trans ((HB2.out.trans (HU3.out.mono (by omega))).mono (by omega)))
  have hz3 : w3.heap.size = D + 1 := by rw [← hw3, ← hD]; simp
  have HZF : Hid (B ≤ w3.heap.size) := Lib.hid (by omega)
  have HC3 : Hid (w3.heap[B]? = some (.cells #[.int .u8 (p.fr : Int), .int .u8 (p.dst : Int), .bool p.ack, .int .u64 (p.num : Int), .int .u8 (p.m.kind : Int), .int .u8 (p.m.tc : Int), .int .u64 (p.m.ts : Int), .int .u8 (p.m.pl : Int), .int .u8 (p.m.c.car : Int), .int .u16 (p.m.c.fl : Int), .int .u32 (p.m.c.we : Int), .int .i64 p.m.c.va, .int .u8 (p.m.c.st : Int), .int .u32 (p.m.c.no : Int), .int .i64 p.m.am, .int .i64 p.m.co] 38 (0, 0))) := Lib.hid (((HU3.out.block B (by omega)).trans (HB2.out.block B (by omega))).trans HC1.out)
  have HDQ := Lib.hid hD
  have HW3 := Lib.hid hw3
  clear hw3 hn
  rw [HW3.out, HDQ.out]
  obtain ⟨⟨x0, x1, x2, x3⟩, _⟩ := cells4 HBX3.out
  obtain ⟨d0, d1, d2, d3, d4, d5, d6, d7, d8, d9, d10, d11, d12, d13, d14, d15⟩ := (cells16 HC3.out).1
  by_cases hk : kw = 0
  · subst hk
    cases ha : p.ack with
    | true =>
      rw [ha] at d2
      go_wp2_with (go_at_call 14; refine (tells_any _ (HV.out.on HBF.out (by rw [HBQ.out]; exact Nat.le_refl _))).mono ?_; rintro e w15 ⟨rfl, hb⟩; have HB15 := Lib.hid (HBF.out.trans (hb.mono HZF.out)); clear hb)
      go_ret
      exact ⟨rfl, HB15.out⟩
    | false =>
      obtain ⟨⟨a, b, c⟩, hkk, hcnt⟩ := segs_cnt HX.out ha
      have HKK := Lib.hid hkk
      have HAK := Lib.hid ha
      have hcnt' : n = 2 + cntH (a, b, c) 3 := HLN.out.symm.trans hcnt
      have HCNT := Lib.hid hcnt'
      have d2' := d2
      rw [ha] at d2'
      clear d2 hkk hcnt hcnt' ha
      go_upto_region 5 with (go_at_call 25; refine (has_any _ _).mono ?_; rw [HKK.out]; rintro e w' ⟨rfl, hww⟩; rw [hww]; clear hww w'; unfold hasV)
      go_wp2_with fail
      go_loopw [11, 12] (fun nv i wr => ∃ (j : Nat), j ≤ 3 ∧ i = .int .i64 (j : Int) ∧ nv = .int .i64 ((2 + cntH (a, b, c) j : Nat) : Int) ∧ Hid (wr = w3)) (fun _ i _ => 3 - (intOf i).toNat)
      case atStart => exact ⟨0, by omega, rfl, rfl, Lib.hid rfl⟩
      case round =>
        obtain ⟨j, hj, rfl, rfl, hw⟩ := hrel
        rw [hw.out]
        clear hw
        have hj4 : j = 0 ∨ j = 1 ∨ j = 2 ∨ j = 3 := by omega
        rcases hj4 with rfl | rfl | rfl | rfl
        · as_aux_lemma =>
          cases a
          all_goals
            unfold cntH
            go_wp2_with fail
            go_roundw
            case rel => exact ⟨1, by omega, rfl, rfl, Lib.hid (by first | trivial | rfl)⟩
            case measure => decide
        · as_aux_lemma =>
          cases a <;> cases b
          all_goals
            unfold cntH
            go_wp2_with fail
            go_roundw
            case rel => exact ⟨2, by omega, rfl, rfl, Lib.hid (by first | trivial | rfl)⟩
            case measure => decide
        · as_aux_lemma =>
          cases a <;> cases b <;> cases c
          all_goals
            unfold cntH
            go_wp2_with fail
            go_roundw
            case rel => exact ⟨3, by omega, rfl, rfl, Lib.hid (by first | trivial | rfl)⟩
            case measure => decide
        · rw [← HCNT.out]
          have inn : ((n : Int) != (n : Int)) = false := by simp
          go_upto_region 13 with fail
          have hn0 : 2 ≤ n := by have := HCNT.out; omega
          obtain ⟨s0, r, hxs⟩ : ∃ s0 r, xw.segs = s0 :: r := by
            have h1 := HLN.out
            match hx : xw.segs, h1 with
            | s0 :: r, _ => exact ⟨s0, r, rfl⟩
            | [], h1 => simp at h1; omega
          obtain ⟨xs, hoo⟩ := HO2.out HAK.out
          rw [hxs] at hoo
          have HOO := Lib.hid hoo
          have HXS := Lib.hid hxs
          have hmk := msg_kind HX.out HAK.out HKK.out (kd := kd) (by omega)
          rw [hxs] at hmk
          simp only [List.drop_succ_cons, List.drop_zero] at hmk
          have hlim := lim_kind HX.out hkd
          rw [hxs] at hlim
          simp only [List.drop_succ_cons, List.drop_zero] at hlim
          have HMK := Lib.hid hmk
          have HLM := Lib.hid hlim
          obtain ⟨g, cap0, cs0, hvo, hgB, hgl, _, _, _⟩ := oo_set0 hoo (Below.refl _ _) (t := []) rfl (ElemsAt.nil _ _)
          have hrl : r.length + 1 = n := by have h1 := HLN.out; rw [hxs] at h1; simpa using h1
          rw [hrl] at hvo
          obtain ⟨rfl, rfl⟩ : vo = some ⟨g, 0, none⟩ ∧ lc = cap0 := by cases hvo; exact ⟨rfl, rfl⟩
          have HRL := Lib.hid hrl
          rw [HDQ.out] at hgl
          clear hxs hoo hmk hlim hvo hrl inn
          obtain ⟨o, ho⟩ : ∃ o, hasK kd = o := ⟨_, rfl⟩
          have HHK := Lib.hid ho
          clear ho
          cases o with
          | none =>
            go_upto_region 14 with (go_at_call 25; refine (has_any _ _).mono ?_; rw [HHK.out]; rintro e w' ⟨rfl, hww⟩; rw [hww]; clear hww w'; unfold hasV)
            clear d0 d1 d2' d3 d4 d5 d6 d7 d8 d9 d10 d11 d12 d13 d14 d15 x0 x1 x2
            go_cut [] (fun wr => Hid (Below (B + 1) w1 wr ∧ wr.heap[D]? = some (.cells #[.int .u8 (xw.fr : Int), .int .u8 (xw.dst : Int), .int .u64 (xw.rf : Int), .slice (some ⟨g, 0, none⟩) n lc] 41 (0, 0)) ∧ SegsAt (fun b => b < wr.heap.size) wr (.slice (some ⟨g, 0, none⟩) n lc) (partSeg tMSG [(kd : Int)] :: r)))
            case first => as_aux_lemma =>
              obtain ⟨wd, hwd⟩ : ∃ wd, w3.drew = wd := ⟨_, rfl⟩
              have HUD : Hid (Below (D + 1) w3 wd) := Lib.hid (by rw [← hwd]; exact (Below.refl _ _).drew)
              have HZD : Hid (wd.heap.size = D + 1) := Lib.hid (by rw [← hwd]; exact hz3)
              clear hz3
              have HSK1 : Hid (∀ wx, Below (D + 1) w3 wx → wx.cell? ⟨D, 3, none⟩ = some (.slice (some ⟨g, 0, none⟩) n lc)) := Lib.hid (fun wx hb => (hb.cell (p := ⟨D, 3, none⟩) (Nat.lt_succ_self D)).trans x3)
              have hSd := HSK1.out wd HUD.out
              have gk : IntKind.u64.wrap (kd : Int) = (kd : Int) := IntWalk.u64_in _ (by omega)
              have g7 : (0 : Int) < (n : Int) := by omega
              refine wp_region_planT (.val 0 (.val 1 (.val 2 (.val 3 (.one 4 (.one 5 (.one 6 (.val 7 (.val 8 (.one 9 .nil)))))))))) (fun u => u.cell? ⟨D, 3, none⟩ = some (.slice (some ⟨g, 0, none⟩) n lc)) (by kernel_rfl) (by kernel_rfl) (by rw [hwd]; exact hSd) ?_
              rw [hwd]
              clear hwd hSd x3
              iterate 4 (refine' planT_val rfl rfl (fun w' hS => ?_) ?_; rotate_left; (focus (first | rfl | (go_simp; rfl) | (go_simp; done) | go_simp)); simp only [Act.put, List.setIfInBounds_toArray, List.set_cons_zero, List.set_cons_succ])
              refine planT_do rfl (fun K hK => ?_)
              go_wp2_with fail
              refine (rdec_any kd (by omega) _).mono ?_
              rintro e w4 ⟨rfl, dr, hdr⟩
              have HU4 : Hid (Below (D + 1) w3 w4) := Lib.hid (HUD.out.trans (by rw [hdr]; exact below_drewN (Below.refl _ _) dr))
              have HZ4 : Hid (w4.heap.size = D + 1) := Lib.hid (by rw [hdr]; exact HZD.out)
              clear hdr
              obtain ⟨db, hdb⟩ : ∃ db : ByteArray, (⟨(decT kd).toArray⟩ : ByteArray) = db := ⟨_, rfl⟩
              have HDB := Lib.hid hdb
              rw [hdb]
              clear hdb
              go_wp2_with fail
              refine hK _ _ (HSK1.out _ HU4.out) ?_
              clear hK K
              refine planT_do rfl (fun K hK => ?_)
              go_wp2_with fail
              refine hK _ _ (HSK1.out _ (HU4.out.alloc (by have := HZ4.out; omega) _)) ?_
              clear hK K
              refine planT_do rfl (fun K hK => ?_)
              go_wp2_with fail
              refine hK _ _ (HSK1.out _ ((HU4.out.alloc (by have := HZ4.out; omega) _).alloc (by have := HZ4.out; simp only [World.size_alloc]; omega) _)) ?_
              clear hK K
              have HEL := Lib.hid (elems_lit (w := w4) HDB.out)
              obtain ⟨w5, hw5⟩ : ∃ w5, (w4.alloc (.cells #[.string db] 9)).alloc (.cells #[.slice (some ⟨w4.heap.size, 0, none⟩) 1 1] 64) = w5 := ⟨_, rfl⟩
              have HU5 : Hid (Below (D + 1) w3 w5) := Lib.hid (by rw [← hw5]; exact (HU4.out.alloc (by have := HZ4.out; omega) _).alloc (by have := HZ4.out; simp only [World.size_alloc]; omega) _)
              have hz5 : w5.heap.size = D + 3 := by rw [← hw5]; simp [HZ4.out]
              rw [hw5] at HEL ⊢
              rw [HZ4.out] at HEL ⊢
              have HW5 := Lib.hid hw5
              clear hw5
              obtain ⟨g2, cap2, cs2, hv2, _, _, hcs2, hsz2, hsg2⟩ := oo_set0 HOO.out (HU3.out.trans (HU5.out.mono (Nat.le_succ D)) |> fun h => by rw [← HDQ.out] at h; exact h) (t := tMSG) (st := ⟨#[77, 83, 71]⟩) rfl (HEL.out.cong (fun b hb => by rcases hb with hb | hb <;> (rw [HDQ.out]; omega)) (fun _ _ => rfl))
              obtain rfl : g = g2 := by cases hv2; rfl
              have HSG2 := Lib.hid hsg2
              have HCS2 := Lib.hid hcs2
              clear hv2 hsg2 hcs2
              refine planT_val (v := .agg #[.string ⟨#[77, 83, 71]⟩, .slice (some ⟨D + 2, 0, none⟩) 1 1]) rfl rfl (fun w' hS => by first | rfl | go_simp) ?_
              simp only [Act.put, List.setIfInBounds_toArray, List.set_cons_zero, List.set_cons_succ]
              refine planT_val (v := .pointer (some ⟨g, 0, none⟩)) rfl rfl (fun w' hS => by go_simp; intro h0; omega) ?_
              simp only [Act.put, List.setIfInBounds_toArray, List.set_cons_zero, List.set_cons_succ]
              refine planT_do rfl (fun K hK => ?_)
              refine wpList_store_agg rfl _ _ _ rfl g 0 [.string ⟨#[77, 83, 71]⟩, .slice (some ⟨D + 2, 0, none⟩) 1 1] rfl rfl (there_of HCS2.out 2 (by omega)) (by kernel_rfl) rfl ?_
              have HBE : Hid (Below (B + 1) w1 (w5.setCells g 0 [.string ⟨#[77, 83, 71]⟩, .slice (some ⟨D + 2, 0, none⟩) 1 1])) := Lib.hid (putL_below hgB _ _ _ (HB2.out.trans ((HU3.out.mono (by omega)).trans (HU5.out.mono (by omega)))))
              have hbd : (w5.setCells g 0 [.string ⟨#[77, 83, 71]⟩, .slice (some ⟨D + 2, 0, none⟩) 1 1]).heap[D]? = w3.heap[D]? := (putL_other g (by omega) _ _ _).trans (HU5.out.block D (Nat.lt_succ_self D))
              have HBD : Hid ((w5.setCells g 0 [.string ⟨#[77, 83, 71]⟩, .slice (some ⟨D + 2, 0, none⟩) 1 1]).heap[D]? = some (.cells #[.int .u8 (xw.fr : Int), .int .u8 (xw.dst : Int), .int .u64 (xw.rf : Int), .slice (some ⟨g, 0, none⟩) n lc] 41 (0, 0))) := Lib.hid (hbd.trans HBX3.out)
              have hs5 : (w5.setCells g 0 [.string ⟨#[77, 83, 71]⟩, .slice (some ⟨D + 2, 0, none⟩) 1 1]).heap.size = w5.heap.size := putL_size _ _ _ _
              clear hbd
              go_wp2_with fail
              refine hK _ _ (cell_of_row _ D 3 _ _ _ HBD.out) ?_
              clear hK K
              refine planT_nil ?_
              go_wp2_with fail
              go_meet
              case rel =>
                refine Lib.hid ⟨HBE.out, HBD.out, ?_⟩
                have h1 := HSG2.out
                have e1 : partSeg tMSG [(kd : Int)] = ⟨tMSG, [[decT kd]]⟩ := by unfold partSeg wordSeg; rw [← sgn_nat]; rfl
                rw [e1, ← HRL.out]
                rw [← HRL.out] at h1
                rw [hs5]
                exact h1
            case rest => as_aux_lemma =>
              obtain ⟨w6, hw6⟩ : ∃ w6, w6 = wc := ⟨_, rfl⟩
              rw [← hw6] at hcut ⊢
              clear hw6
              have HB6 : Hid (Below (B + 1) w1 w6) := Lib.hid hcut.out.1
              have HBX6 := Lib.hid hcut.out.2.1
              have HSG6 := Lib.hid hcut.out.2.2
              clear hcut
              have hz6 := HB6.out.size
              rw [HZ1.out] at hz6
              have HBW6 : Hid (Below B W w6) := Lib.hid (HB1.out.trans (HB6.out.mono (Nat.le_succ B)))
              have HL6 : Hid ((partSeg tMSG [(kd : Int)] :: r).length = n) := Lib.hid HRL.out
              obtain ⟨Q, hQ⟩ : ∃ Q, packetM ⟨xw.fr, xw.dst, xw.rf, partSeg tMSG [(kd : Int)] :: r⟩ = Q := ⟨_, rfl⟩
              obtain ⟨q, f⟩ := Q
              have HQ := Lib.hid (HMK.out.symm.trans hQ)
              have HPK := Lib.hid (mPacket_is (x := ⟨xw.fr, xw.dst, xw.rf, partSeg tMSG [(kd : Int)] :: r⟩) (HV.out.on HBW6.out (by rw [HBQ.out]; exact Nat.le_refl _)) HSG6.out (fun b hb => hb) HLM.out hQ)
              unfold MPQ wv pktA msgA at HPK
              simp only [List.cons_append, List.nil_append] at HPK
              clear hQ
              obtain ⟨⟨x0, x1, x2, x3⟩, _⟩ := cells4 HBX6.out
              go_upto_region 16 with (go_at_call 17; refine HPK.out.mono ?_; rintro e w7 ⟨rfl, hb⟩; have HB7 := Lib.hid hb; clear hb)
              obtain ⟨F, hF⟩ : ∃ F, w7.heap.size = F := ⟨_, rfl⟩
              obtain ⟨w8, hw8⟩ : ∃ w8, w7.alloc (.cells #[.int .u8 (q.fr : Int), .int .u8 (q.dst : Int), .bool q.ack, .int .u64 (q.num : Int), .int .u8 (q.m.kind : Int), .int .u8 (q.m.tc : Int), .int .u64 (q.m.ts : Int), .int .u8 (q.m.pl : Int), .int .u8 (q.m.c.car : Int), .int .u16 (q.m.c.fl : Int), .int .u32 (q.m.c.we : Int), .int .i64 q.m.c.va, .int .u8 (q.m.c.st : Int), .int .u32 (q.m.c.no : Int), .int .i64 q.m.am, .int .i64 q.m.co] 38) = w8 := ⟨_, rfl⟩
              have hz7 := HB7.out.size
              rw [hF] at hz7
              have HC8 : Hid (w8.heap[F]? = some (.cells #[.int .u8 (q.fr : Int), .int .u8 (q.dst : Int), .bool q.ack, .int .u64 (q.num : Int), .int .u8 (q.m.kind : Int), .int .u8 (q.m.tc : Int), .int .u64 (q.m.ts : Int), .int .u8 (q.m.pl : Int), .int .u8 (q.m.c.car : Int), .int .u16 (q.m.c.fl : Int), .int .u32 (q.m.c.we : Int), .int .i64 q.m.c.va, .int .u8 (q.m.c.st : Int), .int .u32 (q.m.c.no : Int), .int .i64 q.m.am, .int .i64 q.m.co] 38 (0, 0))) := Lib.hid (by rw [← hw8, ← hF]; exact heap_alloc_new _ _)
              have HB8 : Hid (Below (B + 1) w1 w8) := Lib.hid (by rw [← hw8]; exact HB6.out.trans ((HB7.out.mono hz6).alloc (by omega) _))
              have HBF : Hid (Below B W w8) := Lib.hid (HB1.out.trans (HB8.out.mono (Nat.le_succ B)))
              have HZF : Hid (B ≤ w8.heap.size) := Lib.hid (by rw [← hw8]; simp; omega)
              have HFQ := Lib.hid hF
              have HW8 := Lib.hid hw8
              clear hw8 x0 x1 x2 x3 hF
              rw [HW8.out, HFQ.out]
              have hq := HQ.out
              simp only [HHK.out] at hq
              obtain rfl : f = 100 := (congrArg Prod.snd hq).symm
              clear hq
              go_wp2_with (go_at_call 14; refine (tells_any _ (HV.out.on HBF.out (by rw [HBQ.out]; exact Nat.le_refl _))).mono ?_; rintro e w15 ⟨rfl, hb⟩; have HB15 := Lib.hid (HBF.out.trans (hb.mono HZF.out)); clear hb)
              go_ret
              exact ⟨rfl, HB15.out⟩
          | some y =>
            obtain ⟨y1, y2, y3⟩ := y
            go_upto_region 14 with (go_at_call 25; refine (has_any _ _).mono ?_; rw [HHK.out]; rintro e w' ⟨rfl, hww⟩; rw [hww]; clear hww w'; unfold hasV)
            clear d0 d1 d2' d3 d4 d5 d6 d7 d8 d9 d10 d11 d12 d13 d14 d15 x0 x1 x2
            go_cut [] (fun wr => Hid (Below (B + 1) w1 wr ∧ wr.heap[D]? = some (.cells #[.int .u8 (xw.fr : Int), .int .u8 (xw.dst : Int), .int .u64 (xw.rf : Int), .slice (some ⟨g, 0, none⟩) n lc] 41 (0, 0)) ∧ SegsAt (fun b => b < wr.heap.size) wr (.slice (some ⟨g, 0, none⟩) n lc) (partSeg tMSG [(kd : Int)] :: r)))
            case first => as_aux_lemma =>
              obtain ⟨wd, hwd⟩ : ∃ wd, w3.drew = wd := ⟨_, rfl⟩
              have HUD : Hid (Below (D + 1) w3 wd) := Lib.hid (by rw [← hwd]; exact (Below.refl _ _).drew)
              have HZD : Hid (wd.heap.size = D + 1) := Lib.hid (by rw [← hwd]; exact hz3)
              clear hz3
              have HSK1 : Hid (∀ wx, Below (D + 1) w3 wx → wx.cell? ⟨D, 3, none⟩ = some (.slice (some ⟨g, 0, none⟩) n lc)) := Lib.hid (fun wx hb => (hb.cell (p := ⟨D, 3, none⟩) (Nat.lt_succ_self D)).trans x3)
              have hSd := HSK1.out wd HUD.out
              have gk : IntKind.u64.wrap (kd : Int) = (kd : Int) := IntWalk.u64_in _ (by omega)
              have g7 : (0 : Int) < (n : Int) := by omega
              refine wp_region_planT (.val 0 (.val 1 (.val 2 (.val 3 (.one 4 (.one 5 (.one 6 (.val 7 (.val 8 (.one 9 .nil)))))))))) (fun u => u.cell? ⟨D, 3, none⟩ = some (.slice (some ⟨g, 0, none⟩) n lc)) (by kernel_rfl) (by kernel_rfl) (by rw [hwd]; exact hSd) ?_
              rw [hwd]
              clear hwd hSd x3
              iterate 4 (refine' planT_val rfl rfl (fun w' hS => ?_) ?_; rotate_left; (focus (first | rfl | (go_simp; rfl) | (go_simp; done) | go_simp)); simp only [Act.put, List.setIfInBounds_toArray, List.set_cons_zero, List.set_cons_succ])
              refine planT_do rfl (fun K hK => ?_)
              go_wp2_with fail
              refine (rdec_any kd (by omega) _).mono ?_
              rintro e w4 ⟨rfl, dr, hdr⟩
              have HU4 : Hid (Below (D + 1) w3 w4) := Lib.hid (HUD.out.trans (by rw [hdr]; exact below_drewN (Below.refl _ _) dr))
              have HZ4 : Hid (w4.heap.size = D + 1) := Lib.hid (by rw [hdr]; exact HZD.out)
              clear hdr
              obtain ⟨db, hdb⟩ : ∃ db : ByteArray, (⟨(decT kd).toArray⟩ : ByteArray) = db := ⟨_, rfl⟩
              have HDB := Lib.hid hdb
              rw [hdb]
              clear hdb
              go_wp2_with fail
              refine hK _ _ (HSK1.out _ HU4.out) ?_
              clear hK K
              refine planT_do rfl (fun K hK => ?_)
              go_wp2_with fail
              refine hK _ _ (HSK1.out _ (HU4.out.alloc (by have := HZ4.out; omega) _)) ?_
              clear hK K
              refine planT_do rfl (fun K hK => ?_)
              go_wp2_with fail
              refine hK _ _ (HSK1.out _ ((HU4.out.alloc (by have := HZ4.out; omega) _).alloc (by have := HZ4.out; simp only [World.size_alloc]; omega) _)) ?_
              clear hK K
              have HEL := Lib.hid (elems_lit (w := w4) HDB.out)
              obtain ⟨w5, hw5⟩ : ∃ w5, (w4.alloc (.cells #[.string db] 9)).alloc (.cells #[.slice (some ⟨w4.heap.size, 0, none⟩) 1 1] 64) = w5 := ⟨_, rfl⟩
              have HU5 : Hid (Below (D + 1) w3 w5) := Lib.hid (by rw [← hw5]; exact (HU4.out.alloc (by have := HZ4.out; omega) _).alloc (by have := HZ4.out; simp only [World.size_alloc]; omega) _)
              have hz5 : w5.heap.size = D + 3 := by rw [← hw5]; simp [HZ4.out]
              rw [hw5] at HEL ⊢
              rw [HZ4.out] at HEL ⊢
              have HW5 := Lib.hid hw5
              clear hw5
              obtain ⟨g2, cap2, cs2, hv2, _, _, hcs2, hsz2, hsg2⟩ := oo_set0 HOO.out (HU3.out.trans (HU5.out.mono (Nat.le_succ D)) |> fun h => by rw [← HDQ.out] at h; exact h) (t := tMSG) (st := ⟨#[77, 83, 71]⟩) rfl (HEL.out.cong (fun b hb => by rcases hb with hb | hb <;> (rw [HDQ.out]; omega)) (fun _ _ => rfl))
              obtain rfl : g = g2 := by cases hv2; rfl
              have HSG2 := Lib.hid hsg2
              have HCS2 := Lib.hid hcs2
              clear hv2 hsg2 hcs2
              refine planT_val (v := .agg #[.string ⟨#[77, 83, 71]⟩, .slice (some ⟨D + 2, 0, none⟩) 1 1]) rfl rfl (fun w' hS => by first | rfl | go_simp) ?_
              simp only [Act.put, List.setIfInBounds_toArray, List.set_cons_zero, List.set_cons_succ]
              refine planT_val (v := .pointer (some ⟨g, 0, none⟩)) rfl rfl (fun w' hS => by go_simp; intro h0; omega) ?_
              simp only [Act.put, List.setIfInBounds_toArray, List.set_cons_zero, List.set_cons_succ]
              refine planT_do rfl (fun K hK => ?_)
              refine wpList_store_agg rfl _ _ _ rfl g 0 [.string ⟨#[77, 83, 71]⟩, .slice (some ⟨D + 2, 0, none⟩) 1 1] rfl rfl (there_of HCS2.out 2 (by omega)) (by kernel_rfl) rfl ?_
              have HBE : Hid (Below (B + 1) w1 (w5.setCells g 0 [.string ⟨#[77, 83, 71]⟩, .slice (some ⟨D + 2, 0, none⟩) 1 1])) := Lib.hid (putL_below hgB _ _ _ (HB2.out.trans ((HU3.out.mono (by omega)).trans (HU5.out.mono (by omega)))))
              have hbd : (w5.setCells g 0 [.string ⟨#[77, 83, 71]⟩, .slice (some ⟨D + 2, 0, none⟩) 1 1]).heap[D]? = w3.heap[D]? := (putL_other g (by omega) _ _ _).trans (HU5.out.block D (Nat.lt_succ_self D))
              have HBD : Hid ((w5.setCells g 0 [.string ⟨#[77, 83, 71]⟩, .slice (some ⟨D + 2, 0, none⟩) 1 1]).heap[D]? = some (.cells #[.int .u8 (xw.fr : Int), .int .u8 (xw.dst : Int), .int .u64 (xw.rf : Int), .slice (some ⟨g, 0, none⟩) n lc] 41 (0, 0))) := Lib.hid (hbd.trans HBX3.out)
              have hs5 : (w5.setCells g 0 [.string ⟨#[77, 83, 71]⟩, .slice (some ⟨D + 2, 0, none⟩) 1 1]).heap.size = w5.heap.size := putL_size _ _ _ _
              clear hbd
              go_wp2_with fail
              refine hK _ _ (cell_of_row _ D 3 _ _ _ HBD.out) ?_
              clear hK K
              refine planT_nil ?_
              go_wp2_with fail
              go_meet
              case rel =>
                refine Lib.hid ⟨HBE.out, HBD.out, ?_⟩
                have h1 := HSG2.out
                have e1 : partSeg tMSG [(kd : Int)] = ⟨tMSG, [[decT kd]]⟩ := by unfold partSeg wordSeg; rw [← sgn_nat]; rfl
                rw [e1, ← HRL.out]
                rw [← HRL.out] at h1
                rw [hs5]
                exact h1
            case rest => as_aux_lemma =>
              obtain ⟨w6, hw6⟩ : ∃ w6, w6 = wc := ⟨_, rfl⟩
              rw [← hw6] at hcut ⊢
              clear hw6
              have HB6 : Hid (Below (B + 1) w1 w6) := Lib.hid hcut.out.1
              have HBX6 := Lib.hid hcut.out.2.1
              have HSG6 := Lib.hid hcut.out.2.2
              clear hcut
              have hz6 := HB6.out.size
              rw [HZ1.out] at hz6
              have HBW6 : Hid (Below B W w6) := Lib.hid (HB1.out.trans (HB6.out.mono (Nat.le_succ B)))
              have HL6 : Hid ((partSeg tMSG [(kd : Int)] :: r).length = n) := Lib.hid HRL.out
              obtain ⟨Q, hQ⟩ : ∃ Q, packetM ⟨xw.fr, xw.dst, xw.rf, partSeg tMSG [(kd : Int)] :: r⟩ = Q := ⟨_, rfl⟩
              obtain ⟨q, f⟩ := Q
              have HQ := Lib.hid (HMK.out.symm.trans hQ)
              have HPK := Lib.hid (mPacket_is (x := ⟨xw.fr, xw.dst, xw.rf, partSeg tMSG [(kd : Int)] :: r⟩) (HV.out.on HBW6.out (by rw [HBQ.out]; exact Nat.le_refl _)) HSG6.out (fun b hb => hb) HLM.out hQ)
              unfold MPQ wv pktA msgA at HPK
              simp only [List.cons_append, List.nil_append] at HPK
              clear hQ
              obtain ⟨⟨x0, x1, x2, x3⟩, _⟩ := cells4 HBX6.out
              go_upto_region 16 with (go_at_call 17; refine HPK.out.mono ?_; rintro e w7 ⟨rfl, hb⟩; have HB7 := Lib.hid hb; clear hb)
              obtain ⟨F, hF⟩ : ∃ F, w7.heap.size = F := ⟨_, rfl⟩
              obtain ⟨w8, hw8⟩ : ∃ w8, w7.alloc (.cells #[.int .u8 (q.fr : Int), .int .u8 (q.dst : Int), .bool q.ack, .int .u64 (q.num : Int), .int .u8 (q.m.kind : Int), .int .u8 (q.m.tc : Int), .int .u64 (q.m.ts : Int), .int .u8 (q.m.pl : Int), .int .u8 (q.m.c.car : Int), .int .u16 (q.m.c.fl : Int), .int .u32 (q.m.c.we : Int), .int .i64 q.m.c.va, .int .u8 (q.m.c.st : Int), .int .u32 (q.m.c.no : Int), .int .i64 q.m.am, .int .i64 q.m.co] 38) = w8 := ⟨_, rfl⟩
              have hz7 := HB7.out.size
              rw [hF] at hz7
              have HC8 : Hid (w8.heap[F]? = some (.cells #[.int .u8 (q.fr : Int), .int .u8 (q.dst : Int), .bool q.ack, .int .u64 (q.num : Int), .int .u8 (q.m.kind : Int), .int .u8 (q.m.tc : Int), .int .u64 (q.m.ts : Int), .int .u8 (q.m.pl : Int), .int .u8 (q.m.c.car : Int), .int .u16 (q.m.c.fl : Int), .int .u32 (q.m.c.we : Int), .int .i64 q.m.c.va, .int .u8 (q.m.c.st : Int), .int .u32 (q.m.c.no : Int), .int .i64 q.m.am, .int .i64 q.m.co] 38 (0, 0))) := Lib.hid (by rw [← hw8, ← hF]; exact heap_alloc_new _ _)
              have HB8 : Hid (Below (B + 1) w1 w8) := Lib.hid (by rw [← hw8]; exact HB6.out.trans ((HB7.out.mono hz6).alloc (by omega) _))
              have HBF : Hid (Below B W w8) := Lib.hid (HB1.out.trans (HB8.out.mono (Nat.le_succ B)))
              have HZF : Hid (B ≤ w8.heap.size) := Lib.hid (by rw [← hw8]; simp; omega)
              have HFQ := Lib.hid hF
              have HW8 := Lib.hid hw8
              clear hw8 x0 x1 x2 x3 hF
              rw [HW8.out, HFQ.out]
              have hq := HQ.out
              simp only [HHK.out] at hq
              by_cases hne : (a, b, c) = (y1, y2, y3)
              · obtain ⟨rfl, rfl, rfl⟩ : a = y1 ∧ b = y2 ∧ c = y3 := by simpa using hne
                rw [if_pos rfl] at hq
                obtain ⟨rfl, rfl⟩ : q = { p with m := { p.m with kind := kd } } ∧ f = 0 := by cases hq; exact ⟨rfl, rfl⟩
                clear hq hne
                have HC8B : Hid (w8.heap[B]? = some (.cells #[.int .u8 (p.fr : Int), .int .u8 (p.dst : Int), .bool p.ack, .int .u64 (p.num : Int), .int .u8 (p.m.kind : Int), .int .u8 (p.m.tc : Int), .int .u64 (p.m.ts : Int), .int .u8 (p.m.pl : Int), .int .u8 (p.m.c.car : Int), .int .u16 (p.m.c.fl : Int), .int .u32 (p.m.c.we : Int), .int .i64 p.m.c.va, .int .u8 (p.m.c.st : Int), .int .u32 (p.m.c.no : Int), .int .i64 p.m.am, .int .i64 p.m.co] 38 (0, 0))) := Lib.hid ((HB8.out.block B (Nat.lt_succ_self B)).trans HC1.out)
                have fr4 : w8.frozen? ⟨B, 4, none⟩ = false := frozen_of_row w8 B 4 _ _ HC8B.out
                obtain ⟨d0, d1, d2, d3, d4, d5, d6, d7, d8, d9, d10, d11, d12, d13, d14, d15⟩ := (cells16 HC8B.out).1
                have nn : ∀ z : Bool, (z != z) = false := fun z => by cases z <;> rfl
                have na := nn a
                have nb := nn b
                have nc := nn c
                clear nn
                go_upto_region 21 with fail
                obtain ⟨w9, hw9⟩ : ∃ w9, w8.setCell ⟨B, 4, none⟩ (.int .u8 (kd : Int)) = w9 := ⟨_, rfl⟩
                have HC9B : Hid (w9.heap[B]? = some (.cells #[.int .u8 (p.fr : Int), .int .u8 (p.dst : Int), .bool p.ack, .int .u64 (p.num : Int), .int .u8 (kd : Int), .int .u8 (p.m.tc : Int), .int .u64 (p.m.ts : Int), .int .u8 (p.m.pl : Int), .int .u8 (p.m.c.car : Int), .int .u16 (p.m.c.fl : Int), .int .u32 (p.m.c.we : Int), .int .i64 p.m.c.va, .int .u8 (p.m.c.st : Int), .int .u32 (p.m.c.no : Int), .int .i64 p.m.am, .int .i64 p.m.co] 38 (0, 0))) := Lib.hid (by rw [← hw9]; exact heap_setCell_same w8 B 4 _ _ _ HC8B.out)
                have HC9 : Hid (w9.heap[F]? = some (.cells #[.int .u8 (p.fr : Int), .int .u8 (p.dst : Int), .bool p.ack, .int .u64 (p.num : Int), .int .u8 (kd : Int), .int .u8 (p.m.tc : Int), .int .u64 (p.m.ts : Int), .int .u8 (p.m.pl : Int), .int .u8 (p.m.c.car : Int), .int .u16 (p.m.c.fl : Int), .int .u32 (p.m.c.we : Int), .int .i64 p.m.c.va, .int .u8 (p.m.c.st : Int), .int .u32 (p.m.c.no : Int), .int .i64 p.m.am, .int .i64 p.m.co] 38 (0, 0))) := Lib.hid (by rw [← hw9]; exact (heap_setCell_other _ _ _ _ (by simp; omega)).trans HC8.out)
                have HB9 : Hid (Below B W w9) := Lib.hid (by rw [← hw9]; exact HBF.out.setCell (Nat.le_refl B) _)
                have HZ9 : Hid (B ≤ w9.heap.size) := Lib.hid (by rw [← hw9]; simp only [World.size_setCell]; exact HZF.out)
                have HW9 := Lib.hid hw9
                clear hw9 d0 d1 d2 d3 d4 d5 d6 d7 d8 d9 d10 d11 d12 d13 d14 d15 fr4 na nb nc
                rw [HW9.out]
                obtain ⟨d0, d1, d2, d3, d4, d5, d6, d7, d8, d9, d10, d11, d12, d13, d14, d15⟩ := (cells16 HC9B.out).1
                obtain ⟨h0, h1, h2, h3, h4, h5, h6, h7, h8, h9, h10, h11, h12, h13, h14, h15⟩ := (cells16 HC9.out).1
                go_wp2_with (go_at_call 14; refine (tells_any _ (HV.out.on HB9.out (by rw [HBQ.out]; exact Nat.le_refl _))).mono ?_; rintro e w15 ⟨rfl, hb⟩; have HB15 := Lib.hid (HB9.out.trans (hb.mono HZ9.out)); clear hb)
                go_ret
                exact ⟨rfl, HB15.out⟩
              · rw [if_neg hne] at hq
                obtain rfl : f = 101 := (congrArg Prod.snd hq).symm
                clear hq
                cases a <;> cases b <;> cases c <;> cases y1 <;> cases y2 <;> cases y3 <;> first
                  | exact absurd rfl hne
                  | (clear hne; go_wp2_with (go_at_call 14; refine (tells_any _ (HV.out.on HBF.out (by rw [HBQ.out]; exact Nat.le_refl _))).mono ?_; rintro e w15 ⟨rfl, hb⟩; have HB15 := Lib.hid (HBF.out.trans (hb.mono HZF.out)); clear hb); go_ret; exact ⟨rfl, HB15.out⟩)
  · skip
    have i0 : (kw != 0) = true := by rw [bne_iff_ne]; exact hk
    go_wp2_with (go_at_call 14; refine (tells_any _ (HV.out.on HBF.out (by rw [HBQ.out]; exact Nat.le_refl _))).mono ?_; rintro e w15 ⟨rfl, hb⟩; have HB15 := Lib.hid (HBF.out.trans (hb.mono HZF.out)); clear hb)
    go_ret
    exact ⟨rfl, HB15.out⟩
end Go.Proofs.YtfbiffdldfkmpaaGreatDoor
