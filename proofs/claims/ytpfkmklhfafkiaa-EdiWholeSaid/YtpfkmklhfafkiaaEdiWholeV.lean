/-
  EdiWholeV: the walk of EdiWhole for every input. No condition.
-/
import Derived.Test.YtpfkmklhfafkiaaEdiWholeP
import Derived.Test.YtpfkmklhfafkiaaEdiCutsV
namespace Go.Proofs.Ytpfkmklhfafkiaa
open Go.RowKit
theorem any_mem_take {α : Type} {P : α → Prop} {l : List α} {k : Nat} {x : α} (h : ∀ y ∈ l.take k, P y) (hx : l[k]? = some x) (hp : P x) : ∀ y ∈ l.take (k + 1), P y := fun y hy => by
  rw [List.take_add_one, hx] at hy
  rcases List.mem_append.1 hy with hy | hy
  · exact h y hy
  · simp at hy; subst hy; exact hp
set_option maxRecDepth 100000 in
set_option maxHeartbeats 8000000 in
theorem ediWhole_walk {W : World} (v : Value) (l : List (List Str)) (h : ElemsAt (Low W) W v l) : Calls Try.prog 6 #[v] W fun e w' => e = .returned (.bool true) ∧ Below W.heap.size W w' := by
  obtain ⟨ao, cap, rfl, h1, h2⟩ := h.form
  have H := Lib.hid h
  unfold maxLen at h2
  obtain ⟨B, hB⟩ : ∃ B, W.heap.size = B := ⟨_, rfl⟩
  have HBQ := Lib.hid hB
  rw [hB]
  clear h hB
  by_cases h16 : l.length ≤ 16
  · obtain ⟨n0, hn0⟩ : ∃ n, l.length = n := ⟨_, rfl⟩
    have HN0 := Lib.hid hn0
    rw [hn0] at h1 h16 H ⊢
    clear hn0
    have d16 : decide ((16 : Int) < (n0 : Int)) = false := by rw [decide_eq_false_iff_not]; omega
    obtain ⟨i1, hi1, hz10, hz11, hz12⟩ := info_parts einfo_str
    obtain ⟨i2, hi2, hz20, hz21, hz22⟩ := info_parts einfo_strs
    have HI1 := Lib.hid hi1
    have HZ10 := Lib.hid hz10
    have HZ11 := Lib.hid hz11
    have HZ12 := Lib.hid hz12
    have HI2 := Lib.hid hi2
    have HZ20 := Lib.hid hz20
    have HZ21 := Lib.hid hz21
    have HZ22 := Lib.hid hz22
    clear hi1 hz10 hz11 hz12 hi2 hz20 hz21 hz22
    go_enter Try.func6, Try.ntmps6
    go_wp2_with fail
    obtain ⟨st, hst⟩ : ∃ st : ByteArray, (⟨#[88, 57, 90]⟩ : ByteArray) = st := ⟨_, rfl⟩
    obtain ⟨w1, hw1⟩ : ∃ w1, W.alloc (.cells #[.string st, .slice none 0 0] 37) = w1 := ⟨_, rfl⟩
    have HST := Lib.hid (show (⟨([88, 57, 90] : Str).toArray⟩ : ByteArray) = st from hst)
    have HE0 : Hid (OE B B st w1 (.slice none 0 0) [] ((l.take 0).map whC)) := Lib.hid (OE.start (by rw [← hw1, ← HBQ.out]; exact heap_alloc_new _ _))
    have HB0 : Hid (Below B W w1) := Lib.hid (by rw [← hw1, ← HBQ.out]; exact (Below.refl _ _).alloc (Nat.le_refl _) _)
    rw [hst, hw1]
    have hBB := HBQ.out
    rw [hBB]
    clear hst hw1 hBB d16
    go_loopw [3, 5] (fun c i wr => ∃ (k N : Nat) (ev : Value) (ys : List Value), k ≤ n0 ∧ N ≤ 2000 ∧ i = .int .i64 (k : Int) ∧ c = .int .i64 (N : Int) ∧ Hid (OE B B st wr ev ys ((l.take k).map whC)) ∧ Hid (Below B W wr) ∧ Hid (N = ((l.take k).map fun e => bytesC (e.take 7)).sum) ∧ Hid (∀ e ∈ l.take k, e.length ≤ 8 ∧ ∀ p ∈ e.take 7, p.length ≤ 256)) (fun _ i _ => n0 - (intOf i).toNat)
    case atStart => exact ⟨0, 0, _, [], Nat.zero_le _, Nat.zero_le _, rfl, rfl, HE0, HB0, Lib.hid rfl, Lib.hid (by simp)⟩
    case round =>
      obtain ⟨k, N, ev, ys, hk, hN, rfl, rfl, HE1, HB1, HNK, HA⟩ := hrel
      clear HE0 HB0
      have hzB := HE1.out.lt
      by_cases hlt : k < n0
      · skip
        obtain ⟨e, he⟩ : ∃ e, l[k]? = some e := ⟨_, List.getElem?_eq_getElem (by rw [HN0.out]; exact hlt)⟩
        obtain ⟨b, off, x, rfl, hb, c0, hco⟩ := H.out.get he
        obtain ⟨co, ccap, rfl, hc1, hc2⟩ := hco.form
        have hbB : b < B := by rw [← HBQ.out]; exact hb
        have d0 := (HB1.out.cell (p := ⟨b, off + k, none⟩) hbB).trans c0
        have HC0 := Lib.hid c0
        have HCO := Lib.hid hco
        have HE := Lib.hid he
        obtain ⟨q0, hq0⟩ : ∃ q0, e.length = q0 := ⟨_, rfl⟩
        have HQ0 := Lib.hid hq0
        rw [hq0] at d0 hc1 HC0
        unfold maxLen at hc2
        have b1 : (0 : Int) ≤ k := by omega
        have b2 : (k : Int) < n0 := by omega
        clear he hb c0 hco hq0
        by_cases h8 : q0 ≤ 8
        · have d8 : decide ((8 : Int) < (q0 : Int)) = false := by rw [decide_eq_false_iff_not]; omega
          go_wp2_with fail
          obtain ⟨wo, rfl⟩ : ∃ wo : World, wo = wr := ⟨_, rfl⟩
          obtain ⟨D, hD⟩ : ∃ D, wo.heap.size = D := ⟨_, rfl⟩
          obtain ⟨fb, hfb⟩ : ∃ fb : ByteArray, (⟨#[102, 105, 114, 115, 116]⟩ : ByteArray) = fb := ⟨_, rfl⟩
          obtain ⟨w2, hw2⟩ : ∃ w2, wo.alloc (.cells #[.string fb] 9) = w2 := ⟨_, rfl⟩
          have HFB := Lib.hid (show (⟨firstB.toArray⟩ : ByteArray) = fb from hfb)
          have HR0 : Hid (w2.ownsRow D 9 1 (.slice (some ⟨D, 0, none⟩) 1 1) (0 + 1) ((firstB :: (e.take 0).map (·.map mb)).map sv)) := Lib.hid (by
            rw [← hw2, ← hD]
            exact ⟨rfl, .inr ⟨wo.heap.size, 1, _, rfl, Nat.le_refl _, heap_alloc_new _ _, Nat.le_refl _, by decide, rfl, by rw [← hfb]; rfl⟩⟩)
          have HB2 : Hid (Below D wo w2) := Lib.hid (by rw [← hw2, ← hD]; exact (Below.refl _ _).alloc (Nat.le_refl _) _)
          have HDD := Lib.hid hD
          have hzD : B < D := by rw [← hD]; exact hzB
          rw [hfb, hw2, hD]
          clear hfb hw2 hD d8 d0
          go_loopw [3, 6, 7] (fun c ev6 i wx => ∃ (j M : Nat), j ≤ q0 ∧ j ≤ 7 ∧ M ≤ 2000 ∧ i = .int .i64 (j : Int) ∧ c = .int .i64 (M : Int) ∧ Hid (wx.ownsRow D 9 1 ev6 (j + 1) ((firstB :: (e.take j).map (·.map mb)).map sv)) ∧ Hid (Below D wo wx) ∧ Hid (M = N + bytesC (e.take j)) ∧ Hid (∀ p ∈ e.take j, p.length ≤ 256)) (fun _ _ i _ => q0 - (intOf i).toNat)
          case atStart => exact ⟨0, N, Nat.zero_le _, by omega, hN, rfl, rfl, HR0, HB2, Lib.hid (by simp [bytesC]), Lib.hid (by simp)⟩
          case round =>
            obtain ⟨j, M, hj, hj7, hM, rfl, rfl, HR, HB3, HMK, HPA⟩ := hrel
            clear HR0 HB2
            have e0 := (HB3.out.cell (p := ⟨b, off + k, none⟩) (show b < D by omega)).trans ((HB1.out.cell (p := ⟨b, off + k, none⟩) hbB).trans HC0.out)
            have hDx := HB3.out.size
            rw [HDD.out] at hDx
            by_cases hjl : j < q0 ∧ j < 7
            · skip
              obtain ⟨hjq, hj77⟩ := hjl
              obtain ⟨p, hp⟩ : ∃ p, e[j]? = some p := ⟨_, List.getElem?_eq_getElem (by rw [HQ0.out]; exact hjq)⟩
              obtain ⟨pb, poff, rfl, hpb, g0⟩ := HCO.out.get hp
              have hpB : pb < B := by rw [← HBQ.out]; exact hpb
              have g1 := (HB3.out.cell (p := ⟨pb, poff + j, none⟩) (show pb < D by omega)).trans ((HB1.out.cell (p := ⟨pb, poff + j, none⟩) hpB).trans g0)
              obtain ⟨ps, hps⟩ : ∃ ps : ByteArray, (⟨p.toArray⟩ : ByteArray) = ps := ⟨_, rfl⟩
              have hpl : ps.size = p.length := by rw [← hps]; rfl
              simp only [sv] at g0 g1
              rw [hps] at g0 g1
              have HG0 := Lib.hid g0
              have HP := Lib.hid hp
              have HPS := Lib.hid hps
              have HPL := Lib.hid hpl
              have b3 : (0 : Int) ≤ j := by omega
              have b4 : (j : Int) < q0 := by omega
              have b44 : (j : Int) < 7 := by omega
              clear hp hpb g0 hps hpl
              by_cases h256 : ps.size ≤ 256
              · have d256 : decide ((256 : Int) < (ps.size : Int)) = false := by rw [decide_eq_false_iff_not]; omega
                by_cases h2k : ps.size ≤ 2000 - M
                · have d2k : decide (2000 - (M : Int) < (ps.size : Int)) = false := by rw [decide_eq_false_iff_not]; omega
                  go_wp2_with fail
                  clear g1 e0 d256 d2k
                  obtain ⟨ev6a, ev6c, rfl⟩ := own_slice HR.out
                  go_loopw [8, 9] (fun bv i wy => ∃ (z : Nat), z ≤ ps.size ∧ i = .int .i64 (z : Int) ∧ Hid (OwnS wy D bv ((p.take z).map mb)) ∧ Hid (wy.ownsRow D 9 1 (.slice ev6a (j + 1) ev6c) (j + 1) ((firstB :: (e.take j).map (·.map mb)).map sv)) ∧ Hid (Below D wo wy)) (fun _ i _ => ps.size - (intOf i).toNat)
                  case atStart => exact ⟨0, Nat.zero_le _, rfl, Lib.hid (OwnS.nil _ _), HR, HB3⟩
                  case round =>
                    obtain ⟨z, hz, rfl, HO, HR2, HB4⟩ := hrel
                    clear HR HB3
                    have e0 := (HB4.out.cell (p := ⟨b, off + k, none⟩) (show b < D by omega)).trans ((HB1.out.cell (p := ⟨b, off + k, none⟩) hbB).trans HC0.out)
                    have g1 := (HB4.out.cell (p := ⟨pb, poff + j, none⟩) (show pb < D by omega)).trans ((HB1.out.cell (p := ⟨pb, poff + j, none⟩) hpB).trans HG0.out)
                    have hDx := HB4.out.size
                    rw [HDD.out] at hDx
                    by_cases hzl : z < ps.size
                    · skip
                      obtain ⟨c, hc⟩ : ∃ c, p[z]? = some c := ⟨_, List.getElem?_eq_getElem (by rw [← HPL.out]; exact hzl)⟩
                      have hcq : (ps[z]'hzl).toNat = c.toNat := by
                        have h1 := at_byte ps z hzl
                        have hd : ps.data.toList = p := by rw [← HPS.out]
                        rw [hd, hc] at h1
                        injection h1 with h1
                        exact congrArg UInt8.toNat h1.symm
                      have hmb := mb_nat c
                      have hc256 := c.toNat_lt
                      have b5 : (0 : Int) ≤ z := by omega
                      have b6 : (z : Int) < ps.size := by omega
                      have HC := Lib.hid hc
                      have HMB := Lib.hid hmb
                      have b7 : (0 : Int) ≤ (c.toNat : Int) := by omega
                      have b8 : (c.toNat : Int) < 256 := by omega
                      have hx : (32 + (c.toNat : Int) % 95) = ((mb c).toNat : Int) := by omega
                      have hol : ((p.take z).map mb).length ≤ 256 := by rw [List.length_map, List.length_take]; omega
                      have hBD : D ≤ wr.heap.size := hDx
                      clear hc hmb
                      go_wp2_with ((with_reducible refine wpList_at (.call { callee := .builtin .append, args := #[.tmp 89, .tmp 101], argTypes := #[32, 32] }) rfl ?_); go_loud (refine wp_app1 rfl _ _ rfl (mb c) rfl rfl HO.out (by omega) hBD ?_); intro v8 w8 ho8 hg8; have HO8 := Lib.hid ho8; have HR8 := Lib.hid (own_cong (w' := w8) HR2.out (fun b' hb' => hg8.block b' (own_lt HR2.out hb').2 (fun e => own_ne HR2.out HO.out (by decide) hb' e.symm))); have HB8 := Lib.hid (below_grownO HB4.out HO.out hg8 hBD); clear ho8 hg8)
                      go_roundw
                      case rel => exact ⟨z + 1, by omega, by go_num, Lib.hid (by rw [map_take_succ mb HC.out]; exact HO8.out), HR8, HB8⟩
                      case measure => simp [intOf]; omega
                    · skip
                      obtain rfl : z = ps.size := by omega
                      have e1 : p.take ps.size = p := List.take_of_length_le (by rw [HPL.out]; exact Nat.le_refl _)
                      have hO := HO.out
                      rw [e1] at hO
                      obtain ⟨pm, hpm⟩ : ∃ pm, p.map mb = pm := ⟨_, rfl⟩
                      have HPM := Lib.hid hpm
                      rw [hpm] at hO
                      obtain ⟨ba, bc, rfl⟩ := hO.form
                      have hcv : (convert 32 9 (.slice ba pm.length bc)).run Try.prog wr = .ok (.string ⟨pm.toArray⟩) wr := conv_own hO
                      have hBD : D ≤ wr.heap.size := hDx
                      have HPB := Lib.hid (show p.length ≤ 256 by rw [← HPL.out]; exact h256)
                      have hj8 : j + 1 + 1 ≤ 1000 := by omega
                      have hMp : M + ps.size ≤ 2000 := by omega
                      clear e1 hO hpm
                      go_wp2_with ((with_reducible refine wpList_at (.call { callee := .builtin .append, args := #[.tmp 103, .tmp 106], argTypes := #[38, 38] }) rfl ?_); go_loud (refine wpList_append_own_at _ rfl _ _ 38 rfl D 9 i1 (.string ⟨#[]⟩) 1 16 Try.underlying38 HI1.out HZ10.out HZ11.out HZ12.out rfl (by decide) _ _ _ rfl (HR2.out.alloc _) ⟨wr.heap.size, 0, none⟩ 1 1 [.string ⟨pm.toArray⟩] rfl rfl (cell_one_new _ _ _) (by simp [Value.oneCell']) (by unfold maxLen; omega) (by omega) (by simp; omega) ?_); intro v9 w9 ho9 hg9 hq1 hq2; clear hq1 hq2; have HO9 := Lib.hid ho9; have HB9 := Lib.hid (HB4.out.grown (grown_alloc hg9) hBD (fun b' hb' => (own_lt HR2.out hb').1)); clear ho9 hg9)
                      go_roundw
                      case rel =>
                        refine ⟨j + 1, M + ps.size, by omega, by omega, hMp, by go_num, by go_num, Lib.hid ?_, HB9, Lib.hid ?_, Lib.hid ?_⟩
                        · have h9 := HO9.out
                          rw [map_take_succ (·.map mb) HP.out, HPM.out]
                          simpa [sv] using h9
                        · have h1 := sum_take List.length HP.out
                          rw [HMK.out]; unfold bytesC; rw [h1, HPL.out]; omega
                        · exact any_mem_take HPA.out HP.out HPB.out
                      case measure => simp [intOf]; omega
                · have d2k : decide (2000 - (M : Int) < (ps.size : Int)) = true := by rw [decide_eq_true_eq]; omega
                  go_wp2_with fail
                  go_ret
                  exact ⟨rfl, HB1.out.trans (HB3.out.mono (by omega))⟩
              · have d256 : decide ((256 : Int) < (ps.size : Int)) = true := by rw [decide_eq_true_eq]; omega
                go_wp2_with fail
                go_ret
                exact ⟨rfl, HB1.out.trans (HB3.out.mono (by omega))⟩
            · skip
              have htk : e.take j = e.take 7 := by
                by_cases h7 : j = 7
                · rw [h7]
                · have hjq : j = q0 := by omega
                  rw [List.take_of_length_le (by rw [HQ0.out]; omega), List.take_of_length_le (by rw [HQ0.out]; omega)]
              have hwc : firstB :: (e.take j).map (·.map mb) = whC e := by rw [htk]; rfl
              have hcl : (whC e).length = j + 1 := by rw [← hwc, List.length_cons, List.length_map, List.length_take, HQ0.out]; omega
              have HTK := Lib.hid htk
              have hR := HR.out
              rw [hwc] at hR
              obtain ⟨cva, cvc, rfl⟩ := own_slice hR
              have HCV : Hid (CompsAt (fun b => D ≤ b ∧ b < wr.heap.size) wr (.slice cva (j + 1) cvc) (whC e)) := Lib.hid (by
                have h1 : wr.ownsRow D 9 1 (.slice cva (j + 1) cvc) ((whC e).map sv).length ((whC e).map sv) := by rw [List.length_map, hcl]; exact hR
                exact own_rest h1 (fun b hb => own_lt hR hb))
              have hlk : ((l.take k).map whC).length = k := by rw [List.length_map, List.length_take, HN0.out]; omega
              have hrow : wr.ownsRow B 38 1 ev k ys := by
                have h1 := HE1.out.row
                rw [hlk] at h1
                exact own_cong h1 (fun b hb => HB3.out.block b (by rw [← HDD.out]; exact (own_lt h1 hb).2))
              obtain ⟨eva, evc, rfl⟩ := own_slice hrow
              have HRW := Lib.hid hrow
              have HLK := Lib.hid hlk
              have hne1 : (Value.slice eva k evc).ownBlock ≠ some B := own_not HE1.out.row HE1.out.c (by decide)
              have cB : wr.heap[B]? = some (.cells #[.string st, .slice eva k evc] 37 (0, 0)) := (HB3.out.block B hzD).trans HE1.out.c
              have c1 : wr.cell? ⟨B, 1, none⟩ = some (.slice eva k evc) := cell_of_row wr B 1 _ _ _ cB
              have HCB := Lib.hid cB
              have HNE1 := Lib.hid hne1
              have hcond : ¬ ((j : Int) < (q0 : Int) ∧ (j : Int) < 7) := by omega
              have hBx : B ≤ wr.heap.size := by omega
              have HB13 := Lib.hid (HB1.out.trans (HB3.out.mono (show B ≤ D by omega)))
              have STEP : ∀ (ov' : Value) (w9 : World), w9.ownsRow B 38 1 ov' (k + 1) (ys ++ [.slice cva (j + 1) cvc]) → wr.grownBy w9 (Value.slice eva k evc).ownBlock → (ov'.ownBlock = (Value.slice eva k evc).ownBlock ∨ ∃ b', ov'.ownBlock = some b' ∧ wr.heap.size ≤ b') → OE B B st (w9.setCell ⟨B, 1, none⟩ ov') ov' (ys ++ [.slice cva (j + 1) cvc]) ((l.take (k + 1)).map whC) := fun ov' w9 ho hg hk' => by
                have := OE.step HE1.out (by omega) (by rw [HDD.out]; exact HB3.out) (by rw [HDD.out]; exact HCV.out) hg (by rw [HLK.out]; exact ho) hk'
                rw [map_take_succ whC HE.out]; exact this
              have HSTEP := Lib.hid STEP
              have hjq2 : (j : Int) < q0 ∨ j = q0 := by omega
              clear htk hwc hcl hR hlk hrow hne1 cB STEP e0
              have e0 := (HB13.out.cell (p := ⟨b, off + k, none⟩) hbB).trans HC0.out
              have ZF : ∀ (ov' : Value) (w9 : World), Hid (w9.ownsRow B 38 1 ov' (k + 1) (ys ++ [.slice cva (j + 1) cvc])) → Hid (wr.grownBy w9 (Value.slice eva k evc).ownBlock) → w9.cell? ⟨B, 1, none⟩ = some (.slice eva k evc) ∧ w9.frozen? ⟨B, 1, none⟩ = false := fun ov' w9 ho hg => by
                have h1 : w9.heap[B]? = _ := (hg.out.block B (cell_lt' c1) (fun e => HNE1.out e.symm)).trans HCB.out
                exact ⟨cell_of_row w9 B 1 _ _ _ h1, frozen_of_row w9 B 1 _ _ h1⟩
              have HZF := Lib.hid ZF
              clear ZF
              rcases hjq2 with hjq2 | hjq2
              · have hj7b : ¬ (j : Int) < 7 := by omega
                go_wp2_with ((with_reducible refine wpList_at (.call { callee := .builtin .append, args := #[.tmp 109, .tmp 111], argTypes := #[35, 35] }) rfl ?_); go_loud (refine wpList_append_own_at _ rfl _ _ 35 rfl B 38 i2 (.slice none 0 0) 1 24 Try.underlying35 HI2.out HZ20.out HZ21.out HZ22.out rfl (by decide) _ _ _ rfl (HRW.out.alloc _) ⟨wr.heap.size, 0, none⟩ 1 1 [.slice cva (j + 1) cvc] rfl rfl (cell_one_new _ _ _) (by simp [Value.oneCell']) (by unfold maxLen; omega) (by omega) (by simp; omega) ?_); intro v9 w9 ho9 hg9 hq1 hq2; have HO9 := Lib.hid ho9; have HG9 := Lib.hid (grown_alloc hg9); have HK9 : Hid (v9.ownBlock = (Value.slice eva k evc).ownBlock ∨ ∃ b', v9.ownBlock = some b' ∧ wr.heap.size ≤ b') := Lib.hid (by rcases hq2 with h | h; exact .inl h; exact .inr ⟨_, h, by simp⟩); obtain ⟨v9a, v9c, rfl⟩ := own_slice ho9; obtain ⟨cB9, fB9⟩ := HZF.out _ w9 HO9 HG9; have hz9 := hg9.size; clear hq1 hq2 ho9 hg9)
                go_roundw
                case rel => exact ⟨k + 1, M, _, _, by omega, hM, by go_num, rfl, Lib.hid (HSTEP.out _ w9 HO9.out HG9.out HK9.out), Lib.hid ((HB13.out.grown HG9.out hBx (fun b' hb' => (own_lt HRW.out hb').1)).setCell (Nat.le_refl _) _), Lib.hid (by rw [sum_take (fun e => bytesC (e.take 7)) HE.out, HMK.out, HNK.out, HTK.out]), Lib.hid (any_mem_take HA.out HE.out ⟨by rw [HQ0.out]; exact h8, by rw [← HTK.out]; exact HPA.out⟩)⟩
                case measure => simp [intOf]; omega
              · subst hjq2
                go_wp2_with ((with_reducible refine wpList_at (.call { callee := .builtin .append, args := #[.tmp 109, .tmp 111], argTypes := #[35, 35] }) rfl ?_); go_loud (refine wpList_append_own_at _ rfl _ _ 35 rfl B 38 i2 (.slice none 0 0) 1 24 Try.underlying35 HI2.out HZ20.out HZ21.out HZ22.out rfl (by decide) _ _ _ rfl (HRW.out.alloc _) ⟨wr.heap.size, 0, none⟩ 1 1 [.slice cva (j + 1) cvc] rfl rfl (cell_one_new _ _ _) (by simp [Value.oneCell']) (by unfold maxLen; omega) (by omega) (by simp; omega) ?_); intro v9 w9 ho9 hg9 hq1 hq2; have HO9 := Lib.hid ho9; have HG9 := Lib.hid (grown_alloc hg9); have HK9 : Hid (v9.ownBlock = (Value.slice eva k evc).ownBlock ∨ ∃ b', v9.ownBlock = some b' ∧ wr.heap.size ≤ b') := Lib.hid (by rcases hq2 with h | h; exact .inl h; exact .inr ⟨_, h, by simp⟩); obtain ⟨v9a, v9c, rfl⟩ := own_slice ho9; obtain ⟨cB9, fB9⟩ := HZF.out _ w9 HO9 HG9; have hz9 := hg9.size; clear hq1 hq2 ho9 hg9)
                go_roundw
                case rel => exact ⟨k + 1, M, _, _, by omega, hM, by go_num, rfl, Lib.hid (HSTEP.out _ w9 HO9.out HG9.out HK9.out), Lib.hid ((HB13.out.grown HG9.out hBx (fun b' hb' => (own_lt HRW.out hb').1)).setCell (Nat.le_refl _) _), Lib.hid (by rw [sum_take (fun e => bytesC (e.take 7)) HE.out, HMK.out, HNK.out, HTK.out]), Lib.hid (any_mem_take HA.out HE.out ⟨by rw [HQ0.out]; exact h8, by rw [← HTK.out]; exact HPA.out⟩)⟩
                case measure => simp [intOf]; omega
        · have d8 : decide ((8 : Int) < (q0 : Int)) = true := by rw [decide_eq_true_eq]; omega
          go_wp2_with fail
          go_ret
          exact ⟨rfl, HB1.out⟩
      · skip
        obtain rfl : k = n0 := by omega
        have e1 : l.take k = l := List.take_of_length_le (by rw [HN0.out]; exact Nat.le_refl _)
        have hE := HE1.out
        have hA := HA.out
        have hNK := HNK.out
        rw [e1] at hE hA hNK
        have hok : WholeOk l := ⟨by rw [HN0.out]; exact h16, fun e he => (hA e he).1, fun e he => (hA e he).2, by omega⟩
        have hws := wh_ok hok
        have hwl := wh_len hok
        have htw := OE.two hE HST.out
        have hs2 : ([⟨[88, 57, 90], l.map whC⟩, ⟨[88, 57, 90], l.map whC⟩] : List Seg) = [whS l, whS l] := rfl
        rw [hs2] at htw
        have hpr := whole_print hws hwl
        have hpa := whole_parse hws hwl
        obtain ⟨T, hT⟩ : ∃ T, segT (whS l) = T := ⟨_, rfl⟩
        rw [hT] at hpr hpa hwl
        obtain ⟨eva, evc, rfl⟩ := own_slice hE.row
        obtain ⟨m0, hm0⟩ : ∃ m0, (l.map whC).length = m0 := ⟨_, rfl⟩
        rw [hm0] at hE htw
        obtain ⟨c0, c1, _⟩ := hE.cells
        have HE2 := Lib.hid hE
        have HTW := Lib.hid htw
        have HPA := Lib.hid hpa
        have HPRT := Lib.hid (show printT [whS l, whS l] = T ++ T by simp [printT, hT])
        have hBw := HB1.out.size
        rw [HBQ.out] at hBw
        have HPR := Lib.hid (print_any (wr.alloc (.cells #[.string st, .slice eva m0 evc, .string st, .slice eva m0 evc] 37)) (.slice (some ⟨wr.heap.size, 0, none⟩) 2 2) [whS l, whS l] (HTW.out.cong (fun b hb => by simp; omega) (fun _ _ => rfl)) (by rw [HPRT.out, List.length_append]; omega))
        rw [hpr] at HPR
        obtain ⟨ra, hra⟩ : ∃ ra : ByteArray, (⟨(T ++ T).toArray⟩ : ByteArray) = ra := ⟨_, rfl⟩
        simp only [sv, hra] at HPR
        have hrad : ra.data.toList = T ++ T := by rw [← hra]
        have hras : ra.size = T.length + T.length := by rw [← data_len, hrad, List.length_append]
        obtain ⟨tn, htn⟩ : ∃ tn, T.length = tn := ⟨_, rfl⟩
        rw [htn] at hras hwl
        have HRAD := Lib.hid hrad
        have HRAS := Lib.hid hras
        have HTN := Lib.hid htn
        have hq2 : ((ra.size : Int)).tdiv 2 = (tn : Int) := by rw [hras, Int.tdiv_eq_ediv_of_nonneg (by omega)]; omega
        clear e1 hE hA hNK hok hws htw hs2 hpr hpa hT hra hrad htn hm0
        go_upto_region 25 with ((with_reducible refine HPR.out.mono ?_); rintro e w4 ⟨rfl, hb4⟩; have HB4 := Lib.hid hb4; clear hb4)
        have hle : tn ≤ ra.size := by omega
        have htn0 : (0 : Int) ≤ (tn : Int) := by omega
        have hle2 : (tn : Int) ≤ (ra.size : Int) := by omega
        have hwq : IntKind.i64.wrap ((ra.size : Int) / 2) = (tn : Int) := by rw [show (ra.size : Int) / 2 = (tn : Int) by omega]; exact IntWalk.i64_in _ (by omega)
        have hrs : ra.size ≤ 20000 := by omega
        clear c0 c1 hras hq2
        refine wp_region_plan [(0, false), (1, false), (2, false), (3, false), (4, false), (5, false), (6, false), (7, false), (8, false), (9, false), (10, false), (11, false), (12, false), (13, true), (14, false), (15, false), (16, false), (17, false), (18, false), (19, false), (20, false)] (fun _ => True) (by kernel_rfl) (by kernel_rfl) trivial ?_
        iterate 13 (refine' plan_val rfl rfl (fun w' hS => ?_) ?_; rotate_left; (focus (go_simp; first | rfl | (rw [if_neg (by omega)]) | (rw [if_neg (by simp; omega)]))); simp only [Act.put, List.setIfInBounds_toArray, List.set_cons_zero, List.set_cons_succ])
        refine plan_do rfl (fun K hK => ?_)
        go_wp2_with fail
        have hX : (ra.extract 0 tn ++ (⟨#[10, 10]⟩ : ByteArray) ++ ra.extract tn ra.size ++ (⟨#[10]⟩ : ByteArray)).data.toList = T ++ [10, 10] ++ T ++ [10] := by
          have h1 : (ra.extract 0 tn).data.toList = T := by
            rw [ByteArray.data_extract, Array.toList_extract, HRAD.out, List.extract_eq_take_drop]
            simp [HTN.out]
          have h2 : (ra.extract tn ra.size).data.toList = T := by
            rw [ByteArray.data_extract, Array.toList_extract, HRAD.out, List.extract_eq_take_drop, HRAS.out]
            simp [HTN.out]
            exact List.take_of_length_le (by rw [HTN.out]; exact Nat.le_refl _)
          simp only [ByteArray.data_append, Array.toList_append, h1, h2]
        obtain ⟨X, hXe⟩ : ∃ X, ra.extract 0 tn ++ (⟨#[10, 10]⟩ : ByteArray) ++ ra.extract tn ra.size ++ (⟨#[10]⟩ : ByteArray) = X := ⟨_, rfl⟩
        rw [hXe] at hX ⊢
        have hXs : X.size ≤ 65536 := by
          rw [← data_len, hX]
          simp only [List.length_append, List.length_cons, List.length_nil, HTN.out]
          omega
        have HPX := Lib.hid (parse_any X hXs w4.drew)
        rw [hX, HPA.out] at HPX
        clear hXe hX hXs
        refine HPX.out.mono ?_
        rintro e w5 ⟨mv, rfl, hs5, hb5⟩
        have hwr4 : Below wr.heap.size wr w4 := by
          have h0 := (Below.refl wr.heap.size wr).alloc (Nat.le_refl _) (.cells #[.string st, .slice eva m0 evc, .string st, .slice eva m0 evc] 37)
          exact h0.trans (HB4.out.mono (by simp))
        have hwr5 : Below wr.heap.size wr w5 := hwr4.drew.trans (hb5.mono hwr4.drew.size)
        have HE5 := Lib.hid (HE2.out.keep hwr5)
        obtain ⟨c0, c1, _⟩ := HE5.out.cells
        have HS5 := Lib.hid hs5
        have HB5 := Lib.hid (HB1.out.trans (hwr5.mono hBw))
        have hBw5 := HB5.out.size
        rw [HBQ.out] at hBw5
        have HSM := Lib.hid (same_any (S := fun _ => True) (T := fun _ => True) (w5.alloc (.cells #[.string st, .slice eva m0 evc, .string st, .slice eva m0 evc] 37)) (hs5.cong (fun _ _ => trivial) (fun b hb => Below.heap_alloc _ _ _ hb.2)) ((HE5.out.two HST.out).cong (fun _ _ => trivial) (fun _ _ => rfl)))
        have hs2 : ([⟨[88, 57, 90], l.map whC⟩, ⟨[88, 57, 90], l.map whC⟩] : List Seg) = [whS l, whS l] := rfl
        rw [hs2, sameB_self] at HSM
        have HC0 := Lib.hid c0
        have HC1 := Lib.hid c1
        clear hs5 hb5 hwr4 hwr5 hs2 HPX c0 c1
        go_wp2_with fail
        refine hK _ _ trivial ?_
        clear hK K
        iterate 7 (refine' plan_val rfl rfl (fun w' hS => ?_) ?_; rotate_left; (focus (go_simp; rfl)); simp only [Act.put, List.setIfInBounds_toArray, List.set_cons_zero, List.set_cons_succ])
        refine plan_nil ?_
        have c0 := HC0.out
        have c1 := HC1.out
        go_wp2_with first
          | ((with_reducible refine HSM.out.mono ?_); rintro e w6 ⟨rfl, hd⟩; have HD := Lib.hid (hd.below B); clear hd)
          | ((with_reducible refine (reads_any _).mono ?_); rintro e w7 ⟨rfl, hb7⟩; have HB8 := Lib.hid hb7; clear hb7)
        go_ret
        have h6 := (HB5.out.alloc (by omega) _).trans HD.out
        have h7 := h6.size
        rw [HBQ.out] at h7
        exact ⟨rfl, h6.trans (HB8.out.mono h7)⟩
  · have d16 : decide ((16 : Int) < (l.length : Int)) = true := by rw [decide_eq_true_eq]; omega
    clear H
    go_enter Try.func6, Try.ntmps6
    go_wp2_with fail
    go_ret
    exact ⟨rfl, Below.refl _ _⟩
end Go.Proofs.Ytpfkmklhfafkiaa
