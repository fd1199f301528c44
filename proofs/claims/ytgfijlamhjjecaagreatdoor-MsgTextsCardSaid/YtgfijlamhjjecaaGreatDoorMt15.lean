/-
  Texts MsgX3, MsgX4, NumZ, MsgR6, one behind the other. No condition beyond those stated in each.
-/
import Derived.Test.YtgfijlamhjjecaaGreatDoorMt8
import Derived.Test.YtgfijlamhjjecaaGreatDoorMt6
import Derived.Test.YtgfijlamhjjecaaGreatDoorMt5
import Derived.Test.YtgfijlamhjjecaaGreatDoorMt13
import Derived.Test.YtgfijlamhjjecaaGreatDoorMt14
import Derived.Great.BuildSlice
import Derived.IntWalk
namespace Go.Proofs.YtgfijlamhjjecaaGreatDoor
open Go.RowKit
set_option maxRecDepth 100000 in
set_option maxHeartbeats 8000000 in
theorem r10segment_any {S : Nat → Prop} (st : ByteArray) (l : List Str) (v : Value) (w : World) (hc : CompsAt S w v l) (hS : ∀ k, S k → k < w.heap.size) (hl : l.length ≤ 1000) :
    Calls Tryz.prog 49 #[.string st, v] w fun e w' => SegQ st (ones l) w e w' := by
  obtain ⟨B, hB⟩ : ∃ B, w.heap.size = B := ⟨_, rfl⟩
  have HBQ := Lib.hid hB
  obtain ⟨ao, cap, rfl, hcap, hcm⟩ := hc.form
  have HC := Lib.hid hc
  have HS := Lib.hid hS
  obtain ⟨n, hn⟩ : ∃ n, l.length = n := ⟨_, rfl⟩
  have HN := Lib.hid hn
  rw [hn] at hl hcap HC ⊢
  unfold maxLen at hcm
  unfold SegQ
  rw [hB]
  obtain ⟨i2, hi2, hz20, hz21, hz22⟩ := info_parts einfo_strs
  have HI2 := Lib.hid hi2
  have HZ20 := Lib.hid hz20
  have HZ21 := Lib.hid hz21
  have HZ22 := Lib.hid hz22
  clear hi2 hz20 hz21 hz22 hc hS hn
  obtain ⟨w1, hw1⟩ : ∃ w1, w.alloc (.cells #[.string ⟨#[]⟩, .slice none 0 0] 94) = w1 := ⟨_, rfl⟩
  have hz1 : w1.heap.size = B + 1 := by rw [← hw1]; simp [hB]
  have HB1 : Hid (Below B w w1) := Lib.hid (by rw [← hw1, ← hB]; exact (Below.refl _ _).alloc (Nat.le_refl _) _)
  have HR1 : Hid (w1.heap[B]? = some (.cells #[.string ⟨#[]⟩, .slice none 0 0] 94 (0, 0))) := Lib.hid (by rw [← hw1, ← hB]; exact heap_alloc_new _ _)
  obtain ⟨w2, hw2⟩ : ∃ w2, w1.alloc (.cells #[.string st, .slice none 0 0] 94) = w2 := ⟨_, rfl⟩
  have HE0 : Hid (OE (B + 1) (B + 1) st w2 (.slice none 0 0) [] []) := Lib.hid (OE.start (by rw [← hw2, ← hz1]; exact heap_alloc_new _ _))
  have HB2 : Hid (Below (B + 1) w1 w2) := Lib.hid (by rw [← hw2, ← hz1]; exact (Below.refl _ _).alloc (Nat.le_refl _) _)
  have hz2 : w2.heap.size = B + 2 := by rw [← hw2]; simp [hz1]
  have HZ1 := Lib.hid hz1
  have HZ2 := Lib.hid hz2
  have HW1 := Lib.hid hw1
  have HW2 := Lib.hid hw2
  clear hz1 hz2 hw1 hw2
  go_enter Tryz.func49, Tryz.ntmps49
  go_wp2_with fail
  rw [HW1.out, HW2.out]
  clear hB
  go_loopw [6] (fun i wx => ∃ (m : Nat) (ev : Value) (ys : List Value), m ≤ n ∧ i = .int .i64 (m : Int) ∧ Hid (OE (B + 1) (B + 1) st wx ev ys ((ones l).take m)) ∧ Hid (Below (B + 1) w1 wx) ∧ B + 1 < wx.heap.size) (fun i _ => n - (intOf i).toNat)
  case atStart => exact ⟨0, _, [], by omega, rfl, HE0, HB2, by rw [HZ2.out]; omega⟩
  case round =>
    obtain ⟨m, ev, ys, hm, rfl, HE1, HB3, hzx⟩ := hrel
    by_cases hml : m < n
    · skip
      obtain ⟨p, hp⟩ : ∃ p, l[m]? = some p := ⟨_, List.getElem?_eq_getElem (by rw [HN.out]; exact hml)⟩
      obtain ⟨ab, off, rfl, hSab, hcu⟩ := HC.out.get hp
      have habB : ab < B := by rw [← HBQ.out]; exact HS.out _ hSab
      have HBW := Lib.hid (show Below B w wr from HB1.out.trans (HB3.out.mono (by omega)))
      have d1 := (HBW.out.cell (p := ⟨ab, off + m, none⟩) habB).trans hcu
      have hne : (ones l)[m]? = some [p] := by unfold ones; rw [List.getElem?_map, hp]; rfl
      have HNE := Lib.hid hne
      have hlm : ((ones l).take m).length = m := by unfold ones; rw [List.length_take, List.length_map, HN.out]; omega
      obtain ⟨eva, evc, rfl⟩ := own_slice HE1.out.row
      rw [hlm] at HE1
      obtain ⟨f0, f1, fz⟩ := HE1.out.cells
      have b3 : (0 : Int) ≤ m := by omega
      have b4 : (m : Int) < n := by omega
      have HLM := Lib.hid hlm
      obtain ⟨sp, hsp⟩ : ∃ sp : ByteArray, (⟨p.toArray⟩ : ByteArray) = sp := ⟨_, rfl⟩
      unfold sv at d1
      rw [hsp] at d1
      have HSP := Lib.hid hsp
      clear hne hlm hsp hcu hp f0
      go_upto_region 5 with fail
      obtain ⟨wd, hwd⟩ : ∃ wd, wr.drew = wd := ⟨_, rfl⟩
      have hwh : wd.heap = wr.heap := by rw [← hwd]; rfl
      have HE2 := Lib.hid (HE1.out.drew hwh)
      have HB4 := Lib.hid (show Below wr.heap.size wr wd by rw [← hwd]; exact (Below.refl _ _).drew)
      have f1' : wd.cell? ⟨B + 1, 1, none⟩ = some (.slice eva m evc) := (cell_ag (by rw [hwh])).trans f1
      have d1' : wd.cell? ⟨ab, off + m, none⟩ = some (.string sp) := (cell_ag (by rw [hwh])).trans d1
      refine wp_region_planF 10 [(0, false), (1, false), (2, false), (3, false), (4, false), (5, false), (6, true), (7, true), (8, true), (9, false), (10, true)]
        (fun w' => w'.cell? ⟨B + 1, 1, none⟩ = some (.slice eva m evc) ∧ w'.cell? ⟨ab, off + m, none⟩ = some (.string sp)) (by kernel_rfl) (by kernel_rfl) (by rw [hwd]; exact ⟨f1', d1'⟩) ?_
      rw [hwd]
      have HF1 := Lib.hid f1'
      have HD1 := Lib.hid d1'
      have HZD := Lib.hid (show wd.heap.size = wr.heap.size by rw [hwh])
      clear hwd hwh f1 fz d1 HE1 f1' d1'
      iterate 6 (refine' planF_val rfl rfl (fun w' hS => ?_) ?_; rotate_left; (focus (first | rfl | (obtain ⟨hS1, hS2⟩ := hS; go_simp; rfl))); simp only [Act.put, List.setIfInBounds_toArray, List.set_cons_zero, List.set_cons_succ])
      obtain ⟨D, hD⟩ : ∃ D, wd.heap.size = D := ⟨_, rfl⟩
      have hspD : B + 1 < D := by have h1 := HE2.out.lt; omega
      obtain ⟨wc, hwc⟩ : ∃ wc, wd.alloc (.cells #[.string sp] 9) = wc := ⟨_, rfl⟩
      have HBC : Hid (Below D wd wc) := Lib.hid (by rw [← hwc, ← hD]; exact (Below.refl _ _).alloc (Nat.le_refl _) _)
      have hzc : wc.heap.size = D + 1 := by rw [← hwc, ← hD]; simp
      obtain ⟨wa, hwa⟩ : ∃ wa, wc.alloc (.cells #[.slice (some ⟨D, 0, none⟩) 1 1] 58) = wa := ⟨_, rfl⟩
      have hza : wa.heap.size = D + 2 := by rw [← hwa]; simp; omega
      have HBa : Hid (Below D wd wa) := Lib.hid (HBC.out.trans (by rw [← hwa]; exact (Below.refl _ _).alloc (by omega) _))
      have HCa : Hid (CompsAt (fun b => D ≤ b ∧ b < wa.heap.size) wa (.slice (some ⟨D, 0, none⟩) 1 1) [p]) := Lib.hid (by
        refine ⟨some ⟨D, 0, none⟩, 1, rfl, Nat.le_refl _, by decide, (fun e => by cases e), fun _ => ⟨D, 0, rfl, ⟨by omega, by omega⟩, fun i x hx => ?_⟩⟩
        match i, hx with
        | 0, hx =>
          simp at hx; subst hx
          have e := heap_alloc_new wd (.cells #[.string sp] 9)
          have e2 : wa.heap[D]? = some (.cells #[.string sp] 9 (0, 0)) := by
            rw [← hwa, ← hwc, ← hD]
            exact (Below.heap_alloc _ _ _ (by simp)).trans e
          rw [cell_of_row wa D 0 _ _ _ e2]
          unfold sv; rw [HSP.out]; rfl
        | i + 1, hx => simp at hx)
      have hrow0 : wd.ownsRow (B + 1) 58 1 (.slice eva m evc) m ys := by
        have h1 := HE2.out.row
        rw [HLM.out] at h1
        exact h1
      have HRW : Hid (wa.ownsRow (B + 1) 58 1 (.slice eva m evc) m ys) := Lib.hid (own_cong hrow0 (fun b hb => HBa.out.block b (by rw [← hD]; exact (own_lt hrow0 hb).2)))
      have HD := Lib.hid hD
      have HWC := Lib.hid hwc
      have HWA := Lib.hid hwa
      have HZC := Lib.hid hzc
      have HZA := Lib.hid hza
      have h1ab : ab < D := by omega
      clear hwc hwa hD hzc hza hrow0
      refine planF_do rfl (fun K hK => ?_)
      go_wp2_with fail
      rw [HWC.out, HD.out]
      refine hK _ _ (.inr ⟨(HBC.out.cell (p := ⟨B + 1, 1, none⟩) hspD).trans HF1.out, (HBC.out.cell (p := ⟨ab, off + m, none⟩) h1ab).trans HD1.out⟩) ?_
      clear hK K
      refine planF_do rfl (fun K hK => ?_)
      go_wp2_with fail
      rw [HWA.out, HZC.out]
      refine hK _ _ (.inr ⟨(HBa.out.cell (p := ⟨B + 1, 1, none⟩) hspD).trans HF1.out, (HBa.out.cell (p := ⟨ab, off + m, none⟩) h1ab).trans HD1.out⟩) ?_
      clear hK K
      refine planF_do rfl (fun K hK => ?_)
      refine wpList_append_own_at _ rfl _ _ 92 rfl (B + 1) 58 i2 (.slice none 0 0) 1 24 Tryz.underlying92 HI2.out HZ20.out HZ21.out HZ22.out rfl (by decide) _ _ _ rfl HRW.out ⟨D + 1, 0, none⟩ 1 1 [.slice (some ⟨D, 0, none⟩) 1 1] (by rfl) rfl (by rw [← HWA.out, ← HZC.out]; exact cell_one_new _ _ _) (by simp [Value.oneCell']) (by unfold maxLen; omega) (by omega) (by rw [HZA.out]; omega) ?_
      intro ev' wg hog hgg _ hkg
      obtain ⟨ev'a, ev'c, rfl⟩ := own_slice hog
      have hzg := hgg.size
      rw [HZA.out] at hzg
      have hne1 : (Value.slice eva m evc).ownBlock ≠ some (B + 1) := own_not HE2.out.row HE2.out.c (by decide)
      have cg : wg.heap[B + 1]? = some (.cells #[.string st, .slice eva m evc] 94 (0, 0)) := (hgg.block (B + 1) (by rw [HZA.out]; omega) (fun e => hne1 e.symm)).trans ((HBa.out.block (B + 1) hspD).trans HE2.out.c)
      have cg1 : wg.cell? ⟨B + 1, 1, none⟩ = some (.slice eva m evc) := cell_of_row wg (B + 1) 1 _ _ _ cg
      have fg1 : wg.frozen? ⟨B + 1, 1, none⟩ = false := frozen_of_row wg (B + 1) 1 _ _ cg
      have dg1 : wg.cell? ⟨ab, off + m, none⟩ = some (.string sp) := (cell_ag (hgg.block ab (by rw [HZA.out]; omega) (fun e => by have := (own_lt HRW.out e.symm).1; omega))).trans ((HBa.out.cell (p := ⟨ab, off + m, none⟩) h1ab).trans HD1.out)
      have HSTEP : Hid (OE (B + 1) (B + 1) st (wg.setCell ⟨B + 1, 1, none⟩ (.slice ev'a (m + 1) ev'c)) (.slice ev'a (m + 1) ev'c) (ys ++ [.slice (some ⟨D, 0, none⟩) 1 1]) ((ones l).take m ++ [[p]])) := Lib.hid (by
        refine OE.step HE2.out (by rw [HD.out]; omega) (by rw [HD.out]; exact HBa.out) (by rw [HD.out]; exact HCa.out) hgg (by rw [HLM.out]; exact hog) ?_
        rcases hkg with h | h
        · exact .inl h
        · exact .inr ⟨_, h, by simp⟩)
      have HBG : Hid (Below (B + 1) wr wg) := Lib.hid (by
        have h1 := (HBa.out.mono (show B + 1 ≤ D by omega))
        have h2 := HB4.out.mono (show B + 1 ≤ wr.heap.size by omega)
        have h3 := h2.trans h1
        exact h3.grown hgg (by rw [HZA.out]; omega) (fun b hb => (own_lt HRW.out hb).1))
      have HKS := Lib.hid cg1
      have HDS := Lib.hid dg1
      clear hog hgg hkg hne1 cg dg1
      go_wp2_with fail
      refine hK _ _ (.inr ⟨HKS.out, HDS.out⟩) ?_
      clear hK K
      (refine' planF_val rfl rfl (fun w' hS => ?_) ?_; rotate_left; (focus (first | rfl | (obtain ⟨hS1, hS2⟩ := hS; go_simp; rfl))); simp only [Act.put, List.setIfInBounds_toArray, List.set_cons_zero, List.set_cons_succ])
      refine planF_do rfl (fun K hK => ?_)
      go_wp2_with fail
      refine hK _ _ (.inl trivial) ?_
      clear hK K
      refine planF_nil ?_
      clear cg1 fg1
      obtain ⟨wh, hwh⟩ : ∃ wh, wg.setCell ⟨B + 1, 1, none⟩ (.slice ev'a (m + 1) ev'c) = wh := ⟨_, rfl⟩
      have hzh : wh.heap.size = wg.heap.size := by rw [← hwh]; simp
      have HBH : Hid (Below (B + 1) wr wh) := Lib.hid (by rw [← hwh]; exact HBG.out.setCell (Nat.le_refl _) _)
      rw [hwh] at HSTEP ⊢
      have HHB := Lib.hid (HB3.out.trans HBH.out)
      have hzz : B + 1 < wh.heap.size := by omega
      clear hwh hzh
      go_wp2_with fail
      go_roundw
      case rel =>
        exact ⟨m + 1, .slice ev'a (m + 1) ev'c, ys ++ [.slice (some ⟨D, 0, none⟩) 1 1], by omega, by go_num, Lib.hid (by rw [List.take_add_one, HNE.out]; exact HSTEP.out), Lib.hid HHB.out, hzz⟩
      case measure => simp [intOf]; omega
    · skip
      obtain rfl : m = n := by omega
      have hte : (ones l).take m = ones l := List.take_of_length_le (by unfold ones; rw [List.length_map, HN.out]; exact Nat.le_refl _)
      rw [hte] at HE1
      obtain ⟨eva, evc, rfl⟩ := own_slice HE1.out.row
      obtain ⟨g0, g1, _⟩ := HE1.out.cells
      have hr := (HB3.out.block B (by omega)).trans HR1.out
      have r0 : wr.cell? ⟨B, 0, none⟩ = some (.string ⟨#[]⟩) := cell_of_row wr B 0 _ _ _ hr
      have r1 : wr.cell? ⟨B, 1, none⟩ = some (.slice none 0 0) := cell_of_row wr B 1 _ _ _ hr
      have z0 := frozen_of_row wr B 0 _ _ hr
      have z1 := frozen_of_row wr B 1 _ _ hr
      have HR := Lib.hid hr
      clear hte hr
      go_wp2_with fail
      refine bodyPost_ret (res_seg rfl _ rfl (heap_setCell_same _ B 1 _ _ _ (heap_setCell_same _ B 0 _ _ _ HR.out)) rfl) rfl ?_
      refine ⟨_, rfl, ?_, ((HB1.out.trans (HB3.out.mono (by omega))).setCell (Nat.le_refl _) _).setCell (Nat.le_refl _) _⟩
      have h5 : RowAt (fun b => B + 1 ≤ b ∧ b < wr.heap.size) wr (.slice eva (ones l).length evc) ys := own_rest (by rw [HE1.out.len]; exact HE1.out.row) (fun k hk => own_lt HE1.out.row hk)
      have far : ∀ k, B + 1 ≤ k → ((wr.setCell ⟨B, 0, none⟩ (.string st)).setCell ⟨B, 1, none⟩ (.slice eva (ones l).length evc)).heap[k]? = wr.heap[k]? := fun k hk => by
        rw [heap_setCell_other _ _ _ _ (by simp; omega), heap_setCell_other _ _ _ _ (by simp; omega)]
      refine ⟨ys, h5.cong (fun b hb => ⟨by omega, by simp; exact hb.2⟩) (fun b hb => far b hb.1), HE1.out.len, fun i e x h6 h7 => ?_⟩
      exact (HE1.out.el i e x h6 h7).cong (fun b hb => ⟨by omega, by simp; exact hb.2.1⟩) (fun b hb => far b hb.1)
end Go.Proofs.YtgfijlamhjjecaaGreatDoor


namespace Go.Proofs.YtgfijlamhjjecaaGreatDoor
open Go.RowKit
theorem minus_add {l : Str} (hl : l.length ≤ 100) (W : World) : (Op.stringOp .add ⟨#[45]⟩ ⟨l.toArray⟩).run Tryz.prog W = .ok (.string ⟨(45 :: l).toArray⟩) W :=
  nstr_add (a := [45]) (b := l) (by simp) hl W
set_option maxHeartbeats 1000000 in
theorem signed_any (v : Int) (h0 : -9223372036854775808 < v) (h1 : v ≤ 9223372036854775807) (w : World) : Calls Tryz.prog 50 #[.int .i64 v] w fun e w' => e = .returned (.string ⟨(sgnT v).toArray⟩) ∧ ∃ d, w' = w.drewN d := by
  obtain ⟨u, hu⟩ : ∃ u, v.natAbs = u := ⟨_, rfl⟩
  have HD := Lib.hid (rdec_any u (by omega))
  have hl := dec_len20 (v := u) (by omega)
  unfold sgnT
  rw [hu]
  by_cases hv : v < 0
  · have i1 : decide (v < 0) = true := by rw [decide_eq_true_eq]; exact hv
    have hadd := minus_add (l := decT u) (by omega)
    obtain ⟨ds, hds⟩ : ∃ ds : ByteArray, (⟨(decT u).toArray⟩ : ByteArray) = ds := ⟨_, rfl⟩
    obtain ⟨es, hes⟩ : ∃ ds : ByteArray, (⟨(45 :: decT u).toArray⟩ : ByteArray) = ds := ⟨_, rfl⟩
    rw [if_pos hv, hes]
    rw [hds, hes] at hadd
    rw [hds] at HD
    have w1 : IntKind.i64.wrap (-v) = (u : Int) := by rw [IntKind.wrap_i64]; omega
    have w2 : IntKind.u64.wrap (u : Int) = (u : Int) := by rw [IntKind.wrap_u64]; omega
    clear hds hes hl hu h0 h1
    go_enter Tryz.func50, Tryz.ntmps50
    go_wp2_with (go_at_call 25; refine (HD.out _).mono ?_; rintro e w1 ⟨rfl, d, rfl⟩)
    go_ret
    exact ⟨rfl, _, rfl⟩
  · have i1 : decide (v < 0) = false := by rw [decide_eq_false_iff_not]; exact hv
    rw [if_neg hv]
    obtain rfl : v = (u : Int) := by omega
    have w2 : IntKind.u64.wrap (u : Int) = (u : Int) := by rw [IntKind.wrap_u64]; omega
    clear hl hu h0 h1 hv
    go_enter Tryz.func50, Tryz.ntmps50
    go_wp2_with (go_at_call 25; refine (HD.out _).mono ?_; rintro e w1 ⟨rfl, d, rfl⟩)
    go_ret
    exact ⟨rfl, _, rfl⟩
end Go.Proofs.YtgfijlamhjjecaaGreatDoor


namespace Go.Proofs.YtgfijlamhjjecaaGreatDoor
open Go.RowKit
set_option maxRecDepth 100000 in
set_option maxHeartbeats 2000000 in
theorem r7Text_ok {c s : Nat} (h : mayT c s = true) (w : World) : Calls Tryz.prog 47 #[.agg #[.int .u8 (c : Int), .int .u64 (s : Int)]] w fun e w' => e = .returned (.tuple #[.string ⟨(body7 c s ++ [digC ((c * 10000000000 + s) % 7)]).toArray⟩, .int .i64 0]) ∧ Below w.heap.size w w' := by
  obtain ⟨hc, _, hs⟩ := mayT_iff.1 h
  have hadd := nstr_add (a := padN 3 c) (b := padN 10 s) (by rw [padN_len]; omega) (by rw [padN_len]; omega)
  have hadd2 := nstr_add (a := body7 c s) (b := [digC ((c * 10000000000 + s) % 7)]) (by rw [body7_len]; omega) (by simp)
  have hb7 := body7_left h
  have hleft := left_any ⟨(body7 c s).toArray⟩ (by have := body7_len c s; simp [ByteArray.size]; omega) (by simpa using List.all_eq_true.2 (body7_digs c s))
  have hl7 := leftF_lt (v := 0) (body7 c s) (by omega)
  rw [show padN 3 c ++ padN 10 s = body7 c s from rfl] at hadd
  obtain ⟨L, hL⟩ : ∃ L, leftF 0 (body7 c s) = L := ⟨_, rfl⟩
  rw [show (⟨(body7 c s).toArray⟩ : ByteArray).data.toList = body7 c s from rfl, hL] at hleft
  rw [hL] at hb7 hl7
  have hp1 := r7padded_any L (by omega) 1 (by omega)
  rw [hb7] at hp1
  obtain ⟨d1, hd1⟩ : ∃ ds : ByteArray, (⟨(padN 3 c).toArray⟩ : ByteArray) = ds := ⟨_, rfl⟩
  obtain ⟨d2, hd2⟩ : ∃ ds : ByteArray, (⟨(padN 10 s).toArray⟩ : ByteArray) = ds := ⟨_, rfl⟩
  have P1 := Lib.hid (show ∀ w : World, Calls Tryz.prog 90 #[.int .u64 (c : Int), .int .i64 3] w (fun e w' => e = .returned (.string d1) ∧ w = w') from fun w => (r7padded_any c (by omega) 3 (by omega) w).mono (by rintro e w' ⟨rfl, rfl⟩; exact ⟨by rw [hd1], rfl⟩))
  have P2 := Lib.hid (show ∀ w : World, Calls Tryz.prog 90 #[.int .u64 (s : Int), .int .i64 10] w (fun e w' => e = .returned (.string d2) ∧ w = w') from fun w => (r7padded_any s (by omega) 10 (by omega) w).mono (by rintro e w' ⟨rfl, rfl⟩; exact ⟨by rw [hd2], rfl⟩))
  rw [hd1, hd2] at hadd
  obtain ⟨d3, hd3⟩ : ∃ ds : ByteArray, (⟨(body7 c s).toArray⟩ : ByteArray) = ds := ⟨_, rfl⟩
  obtain ⟨d4, hd4⟩ : ∃ ds : ByteArray, (⟨[digC ((c * 10000000000 + s) % 7)].toArray⟩ : ByteArray) = ds := ⟨_, rfl⟩
  obtain ⟨d5, hd5⟩ : ∃ ds : ByteArray, (⟨(body7 c s ++ [digC ((c * 10000000000 + s) % 7)]).toArray⟩ : ByteArray) = ds := ⟨_, rfl⟩
  rw [hd3] at hadd hleft
  rw [hd3, hd4, hd5] at hadd2
  rw [hd4] at hp1
  rw [hd5]
  have HL := Lib.hid hleft
  have HP := Lib.hid (show ∀ w : World, Calls Tryz.prog 90 #[.int .u64 (L : Int), .int .i64 1] w (fun e w' => e = .returned (.string d4) ∧ w' = w) from hp1)
  have w1 : IntKind.u64.wrap (c : Int) = (c : Int) := by rw [IntKind.wrap_u64]; omega
  have w2 : IntKind.u64.wrap (L : Int) = (L : Int) := by rw [IntKind.wrap_u64]; omega
  have HM := Lib.hid (fun w => r7May_any c s w)
  clear hd1 hd2 hd3 hd4 hd5 hleft hp1 hb7 hL
  go_enter Tryz.func47, Tryz.ntmps47
  go_upto_region 3 with (go_at_call 89; refine (HM.out _).mono ?_; rw [h]; rintro e wA ⟨rfl, hb⟩; have HB := Lib.hid hb; clear hb)
  have cb0 : wA.cell? ⟨w.heap.size, 0, none⟩ = some (.int .u8 (c : Int)) := (HB.out.cell (p := ⟨w.heap.size, 0, none⟩) (by simp)).trans (by rw [cell_of_row _ w.heap.size 0 _ _ _ (heap_alloc_new _ _)]; rfl)
  have cb1 : wA.cell? ⟨w.heap.size, 1, none⟩ = some (.int .u64 (s : Int)) := (HB.out.cell (p := ⟨w.heap.size, 1, none⟩) (by simp)).trans (by rw [cell_of_row _ w.heap.size 1 _ _ _ (heap_alloc_new _ _)]; rfl)
  refine wp_region_plan [(0, false), (1, false), (2, false), (4, false), (5, false), (3, true), (6, true), (7, false), (8, false)] (fun w' => w'.cell? ⟨w.heap.size, 0, none⟩ = some (.int .u8 (c : Int)) ∧ w'.cell? ⟨w.heap.size, 1, none⟩ = some (.int .u64 (s : Int))) (by kernel_rfl) (by kernel_rfl) ⟨cb0, cb1⟩ ?_
  iterate 5 (refine' plan_val rfl rfl (fun w' hS => ?_) ?_; rotate_left; (focus (first | rfl | (obtain ⟨hS1, hS2⟩ := hS; go_simp; rfl))); simp only [Act.put, List.setIfInBounds_toArray, List.set_cons_zero, List.set_cons_succ])
  refine plan_do rfl (fun K hK => ?_)
  go_wp2_with (go_at_call 90; refine (P1.out _).mono ?_; rintro e wB ⟨rfl, rfl⟩)
  refine hK _ _ ⟨cb0, cb1⟩ ?_
  clear hK K
  refine plan_do rfl (fun K hK => ?_)
  go_wp2_with (go_at_call 90; refine (P2.out _).mono ?_; rintro e wB ⟨rfl, rfl⟩)
  refine hK _ _ ⟨cb0, cb1⟩ ?_
  clear hK K
  iterate 2 (refine' plan_val rfl rfl (fun w' hS => ?_) ?_; rotate_left; (focus (first | rfl | (obtain ⟨hS1, hS2⟩ := hS; go_simp; rfl))); simp only [Act.put, List.setIfInBounds_toArray, List.set_cons_zero, List.set_cons_succ])
  refine plan_nil ?_
  go_wp2_with (first | (go_at_call 91; refine (HL.out _).mono ?_; rintro e wB ⟨rfl, rfl⟩) | (go_at_call 90; refine (HP.out _).mono ?_; rintro e wB ⟨rfl, rfl⟩))
  go_ret2
  exact ⟨rfl, (((Below.refl _ w).alloc (Nat.le_refl _) _).trans (HB.out.mono (by simp))).trans ((Below.refl _ _).drew)⟩
end Go.Proofs.YtgfijlamhjjecaaGreatDoor


namespace Go.Proofs.YtgfijlamhjjecaaGreatDoor
open Go.RowKit
structure RInv (p : PD) (L0 B2 : Nat) (w0 : World) (l : List Seg) (v : Value) (xs : List Value) (wx : World) : Prop where
  segs : OGT (fun b => L0 ≤ b) L0 wx v xs l
  row : wx.heap[B2]? = some (.cells #[.int .u8 (p.fr : Int), .int .u8 (p.dst : Int), .int .u64 (p.num : Int), v] 41 (0, 0))
  fr : Fr [B2] w0 wx
theorem RInv.box {p : PD} {L0 B2 : Nat} {w0 wr wT w' : World} {l : List Seg} {v : Value} {xs : List Value} (h : RInv p L0 B2 w0 l v xs wr) (hB : B2 < L0) (hw : w0.heap.size = L0) (hU : Below wr.heap.size wr wT) (hg : wT.grownBy w' v.ownBlock) :
    w'.heap[B2]? = some (.cells #[.int .u8 (p.fr : Int), .int .u8 (p.dst : Int), .int .u64 (p.num : Int), v] 41 (0, 0)) := by
  have hn : v.ownBlock ≠ some B2 := fun e => by have h1 := (own_lt h.segs.row e).1; omega
  have hs := h.fr.size
  have hs2 := hU.size
  exact (hg.block B2 (by omega) (fun e => hn e.symm)).trans ((hU.block B2 (by omega)).trans h.row)
theorem RInv.old {p : PD} {L0 B2 : Nat} {w0 wr wT w' : World} {l : List Seg} {v : Value} {xs : List Value} (h : RInv p L0 B2 w0 l v xs wr) (hU : Below wr.heap.size wr wT) (hg : wT.grownBy w' v.ownBlock) {b : Nat} {t : TypeId} {cs : Array Value} (hb : wr.heap[b]? = some (.cells cs t (0, 0))) (ht : t ≠ 94) :
    w'.heap[b]? = some (.cells cs t (0, 0)) := by
  have hlt := (Array.getElem?_eq_some_iff.1 hb).1
  have hn : v.ownBlock ≠ some b := fun e => by
    obtain ⟨c2, h2, _⟩ := own_ty h.segs.row e
    rw [hb] at h2
    simp only [Option.some.injEq, Obj.cells.injEq] at h2
    exact ht h2.2.1
  have hs2 := hU.size
  exact (hg.block b (by omega) (fun e => hn e.symm)).trans ((hU.block b hlt).trans hb)
theorem RInv.push {p : PD} {L0 B2 : Nat} {w0 wr wT w' : World} {l l' : List Seg} {v v' : Value} {xs xs' : List Value} (h : RInv p L0 B2 w0 l v xs wr) (hB : B2 < L0) (hw : w0.heap.size = L0) (hU : Below wr.heap.size wr wT) (hg : wT.grownBy w' v.ownBlock) (ho : OGT (fun b => L0 ≤ b) L0 w' v' xs' l') :
    RInv p L0 B2 w0 l' v' xs' (w'.setCell ⟨B2, 3, none⟩ v') := by
  have hrw := h.box hB hw hU hg
  have hF3 : Fr [B2] w0 w' := Fr.then_grown (Fr.trans (F := [B2]) h.fr (Below.fr hU (Nat.le_refl _) [B2])) hg (fun g hg => by have h1 := (own_lt h.segs.row hg).1; rw [hw]; exact h1)
  have hFs : Fr [B2] w' (w'.setCell ⟨B2, 3, none⟩ v') := Fr.setCell _ (by simp) _
  refine ⟨ho.fr hFs (fun g hg => by have e := List.mem_singleton.1 hg; rw [e]; omega) (fun g hg hm => by have e := List.mem_singleton.1 hm; have h2 := (own_lt ho.row hg).1; omega), heap_setCell_same w' B2 3 _ _ _ hrw, Fr.trans (F := [B2]) hF3 hFs⟩
theorem sgn_call {k : Nat} (hk : k < 18446744073709551616) {s : ByteArray} (hs : (⟨(sgnT (k : Int)).toArray⟩ : ByteArray) = s) (w : World) : Calls Tryz.prog 25 #[.int .u64 (k : Int)] w fun e w' => e = .returned (.string s) ∧ ∃ d, w' = w.drewN d := by
  rw [← hs, sgn_nat]; exact rdec_any k hk w
theorem sgd_call {v : Int} (h0 : -9223372036854775808 < v) (h1 : v ≤ 9223372036854775807) {s : ByteArray} (hs : (⟨(sgnT v).toArray⟩ : ByteArray) = s) (w : World) : Calls Tryz.prog 50 #[.int .i64 v] w fun e w' => e = .returned (.string s) ∧ ∃ d, w' = w.drewN d := by
  rw [← hs]; exact signed_any v h0 h1 w
theorem co_call {v : Int} (h0 : 0 ≤ v) (h1 : v ≤ 999) {s : ByteArray} (hs : (⟨(sgnT v).toArray⟩ : ByteArray) = s) (w : World) : Calls Tryz.prog 25 #[.int .u64 v] w fun e w' => e = .returned (.string s) ∧ ∃ d, w' = w.drewN d := by
  obtain ⟨k, rfl⟩ := Int.eq_ofNat_of_zero_le h0
  exact sgn_call (by omega) hs w
theorem may_bounds {a b c : Bool} {m : MD} (h : mayM (a, b, c) m = true) : (a = true → -1125899906842624 ≤ m.c.va ∧ m.c.va ≤ 1125899906842624) ∧ (b = true → -1125899906842624 ≤ m.am ∧ m.am ≤ 1125899906842624) ∧ (c = true → 0 ≤ m.co ∧ m.co ≤ 999) := by
  unfold mayM at h
  cases a <;> cases b <;> cases c
  all_goals
    simp only [partsB, valsB, if_true, if_false, Bool.false_eq_true, List.append_nil, List.nil_append, List.cons_append, inBB, cpnB, amtB, codB, inB, c0B, M50, Bool.and_eq_true, decide_eq_true_eq, Bool.and_true, Bool.true_or, Bool.false_or] at h
    refine ⟨fun e => ?_, fun e => ?_, fun e => ?_⟩ <;> first | exact absurd e (by decide) | omega
theorem segs_parts (a b c : Bool) (m : MD) (t : Str) : msgSegs (a, b, c) m t = [partSeg tMSG [(m.kind : Int)], wordSeg tKEY [t, sgnT (m.pl : Int)]] ++ (if a then [partSeg tCPN [(m.c.car : Int), m.c.fl, m.c.we, m.c.va, m.c.st, m.c.no]] else []) ++ (if b then [partSeg tAMT [m.am]] else []) ++ (if c then [partSeg tCOD [m.co]] else []) := by
  cases a <;> cases b <;> cases c <;> rfl
theorem wpList_strs {ops : Array Oper} {rest : List Oper} {o : Oper} {a : Act} {w : World} {Q : Exit → Act → World → Prop} (hg : o.guard = none) (len : Nat) (parts : Array (Nat × Operand)) (ho : o.op = .buildSlice 58 len parts) (ss : List ByteArray) (cs : Array Value) (hcs : cs = (ss.map Value.string).toArray)
    (hn : ss.length = len) (hpos : 0 < len) (hsm : len ≤ 1000) (hp : (parts.map fun (i, x) => (i, a.eval x)).toList = ((ss.map Value.string).zipIdx 0).map fun x => (x.2, x.1))
    (h : wpList Tryz.prog ops Q rest (a.put o.dst (.slice (some ⟨w.heap.size, 0, none⟩) len len)) (w.alloc (.cells cs 9))) : wpList Tryz.prog ops Q (o :: rest) a w := by
  obtain ⟨ie, hie, hiz, his, _⟩ := info_parts einfo_str
  refine wpList_buildSlice hg 58 9 len parts ho cs ie _ Tryz.underlying58 hie hiz (by rw [his]; omega) (by rw [his]; omega) ?_ h
  rw [his, hp, hcs]
  exact Great.fill_flat _ _ (fun v hv => by obtain ⟨s, _, rfl⟩ := List.mem_map.1 hv; rfl) (by simp [hn])
theorem comps_lit {w : World} {D n : Nat} {l : List Str} {cs : Array Value} (h : w.heap[D]? = some (.cells cs 9 (0, 0))) (hc : cs = (l.map sv).toArray) (hn : l.length = n) (hn2 : n ≤ 1000) : CompsAt (fun k => k = D) w (.slice (some ⟨D, 0, none⟩) n n) l := by
  subst hc
  subst hn
  have h1 := row_lit (S := fun k => k = D) (xs := l.map sv) h rfl (by rw [List.length_map]; omega)
  rw [List.length_map] at h1
  exact h1
end Go.Proofs.YtgfijlamhjjecaaGreatDoor

