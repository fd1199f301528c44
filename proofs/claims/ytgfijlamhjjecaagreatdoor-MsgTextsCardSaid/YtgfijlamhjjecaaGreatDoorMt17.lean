/-
  Texts MsgR5, NumD, MsgRA, one behind the other. No condition beyond those stated in each.
-/
import Derived.Test.YtgfijlamhjjecaaGreatDoorMt16
import Derived.Test.YtgfijlamhjjecaaGreatDoorMt10
import Derived.IntWalk
import Derived.Test.YtgfijlamhjjecaaGreatDoorMt13
import Derived.Test.YtgfijlamhjjecaaGreatDoorMt6
import Derived.Test.YtgfijlamhjjecaaGreatDoorMt14
import Derived.Test.YtgfijlamhjjecaaGreatDoorMt7
import Derived.Great.BuildSlice
namespace Go.Proofs.YtgfijlamhjjecaaGreatDoor
open Go.RowKit
def mnB (g : Bool) (s : Str) : Bool := g && decide (s.head? = some 45)
theorem numR_mb (g : Bool) (s : Str) : numR g s = (match numW (if mnB g s then s.tail else s) with
    | some v => if 4611686018427387904 < v ∨ (mnB g s = true ∧ v = 0) then none else some (if mnB g s then -(v : Int) else (v : Int))
    | none => none) := by
  unfold numR mnB
  by_cases h : g = true ∧ s.head? = some 45
  · have e : (g && decide (s.head? = some 45)) = true := by simp [h.1, h.2]
    rw [if_pos h, e]
    simp only [if_true, true_and]
    cases numW s.tail <;> rfl
  · have e : (g && decide (s.head? = some 45)) = false := by
      cases g with
      | false => rfl
      | true => simp at h ⊢; exact h
    rw [if_neg h, e]
    simp only [Bool.false_eq_true, false_and, or_false, if_false]
    cases numW s <;> rfl
theorem ext_tail (pb : ByteArray) : (pb.extract 1 pb.size).data.toList = pb.data.toList.tail := by
  rw [ByteArray.data_extract, Array.toList_extract, List.extract_eq_take_drop]
  have : pb.size = pb.data.toList.length := by simp
  rw [this]
  cases pb.data.toList with
  | nil => rfl
  | cons a r => simp
theorem byte_head (pb : ByteArray) (h : 0 < pb.size) : pb.data.toList.head? = some pb[0] := by
  have h1 := at_byte pb 0 h
  rw [List.head?_eq_getElem?]
  exact h1
set_option maxRecDepth 100000 in
set_option maxHeartbeats 8000000 in
theorem nums_any {S : Nat → Prop} (l : List Seg) (v : Value) (at_ : Nat) (hat : at_ ≤ 1000) (tb : ByteArray) (gv : Value) (gs : List Bool) (hgs : gs.length ≤ 16) (w : World) (h : SegsAt S w v l) (hS : ∀ k, S k → k < w.heap.size) (hg : BoolsAt w gv gs) :
    Calls Tryz.prog 55 #[v, .int .i64 (at_ : Int), .string tb, gv] w fun e w' => NumsTQ l[at_]? tb.data.toList gs w e w' := by
  obtain ⟨B, hB⟩ : ∃ B, w.heap.size = B := ⟨_, rfl⟩
  have HBQ := Lib.hid hB
  obtain ⟨ao, cap, rfl, hc1, hc2⟩ := h.form
  obtain ⟨n, hn⟩ : ∃ n, l.length = n := ⟨_, rfl⟩
  have HN := Lib.hid hn
  obtain ⟨gb, rfl, hgb, hgc⟩ := hg
  have HGC := Lib.hid hgc
  obtain ⟨q, hq⟩ : ∃ q, gs.length = q := ⟨_, rfl⟩
  have HQ := Lib.hid hq
  rw [hn] at hc1 h ⊢
  rw [hq] at hgs ⊢
  rw [hB] at hgb
  have HBW0 : Hid (Below w.heap.size w w) := Lib.hid (Below.refl _ _)
  unfold maxLen at hc2
  by_cases h0 : at_ < n
  · have i0 : decide ((n : Int) ≤ (at_ : Int)) = false := by rw [decide_eq_false_iff_not]; omega
    obtain ⟨⟨tg, es⟩, hs⟩ : ∃ s, l[at_]? = some s := ⟨_, List.getElem?_eq_getElem (by rw [hn]; exact h0)⟩
    obtain ⟨lb, lo, x, hA, hlb, c0, c1, hel⟩ := h.get hs
    obtain rfl : ao = some ⟨lb, lo, none⟩ := hA
    obtain ⟨ea, ec, rfl, he1, he2⟩ := hel.form
    obtain ⟨m, hm⟩ : ∃ m, es.length = m := ⟨_, rfl⟩
    have HM := Lib.hid hm
    simp only at c0 c1 hel he1
    rw [hm] at c1 hel he1
    rw [hs]
    obtain ⟨sb, hsb⟩ : ∃ sb : ByteArray, (⟨tg.toArray⟩ : ByteArray) = sb := ⟨_, rfl⟩
    have hsd : sb.data.toList = tg := by rw [← hsb]
    have HSD := Lib.hid hsd
    rw [show sv tg = .string sb from by unfold sv; rw [hsb]] at c0
    have HEL : Hid (∀ wx, Below B w wx → ElemsAt S wx (.slice ea m ec) es) := Lib.hid (fun wx hb => hel.cong (fun _ h => h) (fun k hk => hb.block k (by rw [← hB]; exact hS k hk)))
    have HC0 : Hid (∀ wx, Below B w wx → wx.cell? ⟨lb, lo + at_ * 2 + 1, none⟩ = some (.slice ea m ec)) := Lib.hid (fun wx hb => (hb.cell (p := ⟨lb, lo + at_ * 2 + 1, none⟩) (by rw [← hB]; exact hS lb hlb)).trans c1)
    have HGB : Hid (∀ wx i g, Below B w wx → gs[i]? = some g → wx.cell? ⟨gb, i, none⟩ = some (.bool g)) := Lib.hid (fun wx i g hb hi => (hb.cell (p := ⟨gb, i, none⟩) hgb).trans (HGC.out i g hi))
    have HSS : Hid (∀ k, S k → k < B) := Lib.hid (fun k hk => by rw [← hB]; exact hS k hk)
    clear hsb hsd hs h hS hgc HGC hm hn hq hel hlb
    by_cases ht : sb = tb
    · subst ht
      have d1 := str_same sb
      have d1n : (sb.toList != sb.toList) = false := by simp
      by_cases hmq : m = q
      · subst hmq
        have d2 : ((m : Int) != (m : Int)) = false := by simp
        have HNW : Hid (segR sb.data.toList gs (some ⟨tg, es⟩) = numsR gs es) := Lib.hid (by unfold segR; simp only; rw [if_pos ⟨HSD.out.symm, by rw [HM.out, HQ.out]⟩])
        have b5 : (0 : Int) ≤ (at_ : Int) := by omega
        have b6 : (at_ : Int) < (n : Int) := by omega
        have i0n : decide (n ≤ at_) = false := by rw [decide_eq_false_iff_not]; omega
        go_enter Tryz.func55, Tryz.ntmps55
        go_upto_region 3 with fail
        clear d1 d1n d2 c0 c1 i0
        go_wp2_with fail
        go_loopw [10, 11] (fun ov i wr => ∃ (k : Nat) (ls : List Int), k ≤ m ∧ i = .int .i64 (k : Int) ∧ Hid (numsR (gs.take k) (es.take k) = some ls) ∧ Hid (I64s wr B ov ls) ∧ Hid (Below B w wr)) (fun _ i _ => m - (intOf i).toNat)
        case atStart => exact ⟨0, [], Nat.zero_le _, rfl, Lib.hid rfl, Lib.hid (World.ownsRow_nil _ _ _ _), Lib.hid (Below.refl _ _)⟩
        case round =>
          obtain ⟨k, ls, hk, rfl, HK, HO, HB2⟩ := hrel
          have hz2 := HB2.out.size
          have hlk : ls.length = k := by have h1 := numsR_len HK.out; rw [h1, List.length_take, HQ.out]; omega
          have HLK := Lib.hid hlk
          obtain ⟨oa, oc, rfl⟩ := own_slice HO.out
          rw [hlk] at ⊢
          clear hlk
          by_cases hlt : k < m
          · obtain ⟨e, he⟩ : ∃ e, es[k]? = some e := ⟨_, List.getElem?_eq_getElem (by rw [HM.out]; exact hlt)⟩
            obtain ⟨g, hgk⟩ : ∃ g, gs[k]? = some g := ⟨_, List.getElem?_eq_getElem (by rw [HQ.out]; exact hlt)⟩
            obtain ⟨eb, eoff, x2, hA, heb, e0, hco⟩ := (HEL.out wr HB2.out).get he
            obtain rfl : ea = some ⟨eb, eoff, none⟩ := hA
            obtain ⟨ca, cc, rfl, hcc1, hcc2⟩ := hco.form
            obtain ⟨y, hy⟩ : ∃ y, e.length = y := ⟨_, rfl⟩
            have HY := Lib.hid hy
            have HE := Lib.hid he
            have HG := Lib.hid hgk
            have b1 : (0 : Int) ≤ k := by omega
            have b2 : (k : Int) < m := by omega
            have c1 := HC0.out wr HB2.out
            have cg := HGB.out wr k g HB2.out hgk
            rw [hy] at e0 hcc1 hco
            clear hy he heb hgk
            by_cases hy1 : y = 1
            · subst hy1
              obtain ⟨pb, rfl⟩ : ∃ pb : ByteArray, e = [pb.data.toList] := by
                obtain ⟨p, rfl⟩ := List.length_eq_one_iff.1 HY.out
                exact ⟨⟨p.toArray⟩, rfl⟩
              obtain ⟨cb, coff, hca, _, hcc⟩ := hco.get (k := 0) (p := pb.data.toList) rfl
              obtain rfl : ca = some ⟨cb, coff, none⟩ := hca
              rw [sv_dat, Nat.add_zero] at hcc
              clear hco
              obtain ⟨mb, hmb⟩ : ∃ mb, mnB g pb.data.toList = mb := ⟨_, rfl⟩
              have HMB := Lib.hid hmb
              clear hmb
              go_upto_region 11 with fail
              clear hcc e0 c1
              go_cut [14] from 42 to 105 (fun mv wr' => mv = .bool mb ∧ Hid (wr' = wr))
              case first =>
                cases g with
                | false =>
                  obtain rfl : mb = false := by rw [← HMB.out]; rfl
                  go_wp2_with fail
                  go_meet
                  case rel => exact ⟨rfl, Lib.hid rfl⟩
                | true =>
                  by_cases hp0 : 0 < pb.size
                  · have i1 : decide ((0 : Int) < (pb.size : Int)) = true := by rw [decide_eq_true_eq]; omega
                    have i1' : (0 : Int) < (pb.size : Int) := by omega
                    have hh := byte_head pb hp0
                    by_cases h45 : pb[0] = 45
                    · obtain rfl : mb = true := by rw [← HMB.out]; unfold mnB; rw [hh, h45]; rfl
                      have i2 : (pb[0]'hp0).toNat = 45 := by rw [h45]; rfl
                      clear h45 hh
                      go_wp2_with fail
                      go_meet
                      case rel => exact ⟨rfl, Lib.hid rfl⟩
                    · obtain rfl : mb = false := by rw [← HMB.out]; unfold mnB; rw [hh]; simp [h45]
                      have i2 : (((pb[0]'hp0).toNat : Int) == 45) = false := by
                        rw [beq_eq_false_iff_ne]; intro e
                        exact h45 (UInt8.toNat_inj.1 (by have : (pb[0]'hp0).toNat = 45 := by omega
                                                         rw [this]; rfl))
                      clear h45 hh
                      go_wp2_with fail
                      go_meet
                      case rel => exact ⟨rfl, Lib.hid rfl⟩
                  · have i1 : decide ((0 : Int) < (pb.size : Int)) = false := by rw [decide_eq_false_iff_not]; omega
                    have hnil : pb.data.toList = [] := List.length_eq_zero_iff.1 (by rw [Array.length_toList]; have : pb.data.size = pb.size := rfl; omega)
                    obtain rfl : mb = false := by rw [← HMB.out, hnil]; rfl
                    go_wp2_with fail
                    go_meet
                    case rel => exact ⟨rfl, Lib.hid rfl⟩
              case rest =>
                obtain ⟨rfl, hww⟩ := hcut
                rw [hww.out]
                clear hww cg
                go_upto_if 76 with fail
                go_cut [13] from 42 to 105 (fun mv wr' => ∃ ub : ByteArray, mv = .string ub ∧ Hid (ub.data.toList = if mb then pb.data.toList.tail else pb.data.toList) ∧ Hid (wr' = wr))
                case first =>
                  cases mb with
                  | true =>
                    have hp0 : 0 < pb.size := by
                      rcases Nat.eq_zero_or_pos pb.size with h | h
                      · have hnil : pb.data.toList = [] := List.length_eq_zero_iff.1 (by rw [Array.length_toList]; have : pb.data.size = pb.size := rfl; omega)
                        have h1 := HMB.out
                        rw [hnil] at h1
                        unfold mnB at h1
                        simp at h1
                      · exact h
                    have i1 : (1 : Int) ≤ (pb.size : Int) := by omega
                    have i2 : 1 ≤ pb.size := hp0
                    go_wp2_with fail
                    go_meet
                    case rel => exact ⟨pb.extract 1 pb.size, rfl, Lib.hid (ext_tail pb), Lib.hid rfl⟩
                  | false =>
                    go_wp2_with fail
                    go_meet
                    case rel => exact ⟨pb, rfl, Lib.hid rfl, Lib.hid rfl⟩
                case rest =>
                  obtain ⟨ub, rfl, HUB, hww⟩ := hcut
                  rw [hww.out]
                  clear hww
                  have hnr := numR_mb g pb.data.toList
                  rw [HMB.out, ← HUB.out] at hnr
                  have HNR := Lib.hid hnr
                  clear hnr
                  clear HUB
                  have NO : ∀ w', numR g pb.data.toList = none → Below B w w' → NumsTQ (some ⟨tg, es⟩) sb.data.toList gs w (.returned (.tuple #[.slice none 0 0, .bool false])) w' := fun w' h1 h2 => numsT_no (HNW.out.trans (numsR_none HG.out HE.out (show (oneW [pb.data.toList]).bind (numR g) = none from h1))) (by rw [HBQ.out]; exact h2)
                  have HNO := Lib.hid NO
                  clear NO
                  go_wp2_with fail
                  refine (rnum_any ub _).mono ?_
                  rintro e w' ⟨hq, rfl⟩
                  rcases hq with ⟨u, hu, rfl⟩ | ⟨hu, rfl⟩
                  · have hnr := HNR.out
                    rw [hu] at hnr
                    simp only at hnr
                    clear HNR hu
                    by_cases hbig : 4611686018427387904 < u
                    · have i1 : decide ((4611686018427387904 : Int) < (u : Int)) = true := by rw [decide_eq_true_eq]; omega
                      have HNN : Hid (numR g pb.data.toList = none) := Lib.hid (by rw [hnr, if_pos (.inl hbig)])
                      clear hnr hbig
                      go_wp2_with fail
                      go_ret2
                      exact HNO.out _ HNN.out HB2.out
                    · have i1 : decide ((4611686018427387904 : Int) < (u : Int)) = false := by rw [decide_eq_false_iff_not]; omega
                      obtain ⟨i0, hi, hz0, hzz1, hzz2⟩ := info_parts einfo_i64
                      have HI := Lib.hid hi
                      have HZ0 := Lib.hid hz0
                      have HZZ1 := Lib.hid hzz1
                      have HZZ2 := Lib.hid hzz2
                      have HRW : Hid (wr.ownsRow B 2 1 (.slice oa k oc) k (ls.map iv64)) := Lib.hid (by have h1 := HO.out; unfold I64s at h1; rw [HLK.out] at h1; exact h1)
                      clear hi hz0 hzz1 hzz2
                      have g1 : IntKind.i64.wrap (u : Int) = (u : Int) := IntWalk.i64_in _ (by omega)
                      have hbs : B ≤ wr.heap.size := by rw [← HBQ.out]; exact hz2
                      cases mb with
                      | false =>
                        have hv : numR g pb.data.toList = some (u : Int) := by rw [hnr, if_neg (by simp; omega)]; rfl
                        have HU := Lib.hid (numsR_step HK.out HG.out HE.out (show (oneW [pb.data.toList]).bind (numR g) = some (u : Int) from hv))
                        clear hnr hbig hv
                        go_wp2_with ((with_reducible refine wpList_at (.call { callee := .builtin .append, args := #[.tmp 102, .tmp 104], argTypes := #[122, 122] }) rfl ?_); go_loud (refine wpList_append_own_at _ rfl _ _ 122 rfl B 2 i0 (.int .i64 0) 1 8 Tryz.underlying122 HI.out HZ0.out HZZ1.out HZZ2.out rfl (by decide) _ _ _ rfl (HRW.out.alloc _) ⟨wr.heap.size, 0, none⟩ 1 1 [.int .i64 (u : Int)] rfl rfl (cell_one_new _ _ _) (by simp [Value.oneCell']) (by unfold maxLen; omega) (by omega) (by simp; omega) ?_); intro v8 w8 hog hgg _ _; have HO8 : Hid (I64s w8 B v8 (ls ++ [(u : Int)])) := Lib.hid (by unfold I64s; rw [List.length_append, HLK.out, List.map_append]; exact hog); have HB8 := Lib.hid ((HB2.out.alloc (by omega) _).grown hgg (by simp; omega) (fun b hb => (own_lt HRW.out hb).1)); clear hog hgg)
                        go_roundw
                        case rel => exact ⟨k + 1, ls ++ [(u : Int)], by omega, by go_num, HU, HO8, HB8⟩
                        case measure => simp [intOf]; omega
                      | true =>
                        by_cases hu0 : u = 0
                        · subst hu0
                          have HNN : Hid (numR g pb.data.toList = none) := Lib.hid (by rw [hnr, if_pos (.inr ⟨rfl, rfl⟩)])
                          clear hnr hbig
                          go_wp2_with fail
                          go_ret2
                          exact HNO.out _ HNN.out HB2.out
                        · have i3 : ((u : Int) == 0) = false := by rw [beq_eq_false_iff_ne]; omega
                          have hv : numR g pb.data.toList = some (-(u : Int)) := by rw [hnr, if_neg (by simp; omega)]; rfl
                          have HU := Lib.hid (numsR_step HK.out HG.out HE.out (show (oneW [pb.data.toList]).bind (numR g) = some (-(u : Int)) from hv))
                          have g2 : IntKind.i64.wrap (-(u : Int)) = -(u : Int) := IntWalk.i64_in _ (by omega)
                          clear hnr hbig hv hu0
                          go_wp2_with ((with_reducible refine wpList_at (.call { callee := .builtin .append, args := #[.tmp 102, .tmp 104], argTypes := #[122, 122] }) rfl ?_); go_loud (refine wpList_append_own_at _ rfl _ _ 122 rfl B 2 i0 (.int .i64 0) 1 8 Tryz.underlying122 HI.out HZ0.out HZZ1.out HZZ2.out rfl (by decide) _ _ _ rfl (HRW.out.alloc _) ⟨wr.heap.size, 0, none⟩ 1 1 [.int .i64 (-(u : Int))] rfl rfl (cell_one_new _ _ _) (by simp [Value.oneCell']) (by unfold maxLen; omega) (by omega) (by simp; omega) ?_); intro v8 w8 hog hgg _ _; have HO8 : Hid (I64s w8 B v8 (ls ++ [(-(u : Int))])) := Lib.hid (by unfold I64s; rw [List.length_append, HLK.out, List.map_append]; exact hog); have HB8 := Lib.hid ((HB2.out.alloc (by omega) _).grown hgg (by simp; omega) (fun b hb => (own_lt HRW.out hb).1)); clear hog hgg)
                          go_roundw
                          case rel => exact ⟨k + 1, ls ++ [-(u : Int)], by omega, by go_num, HU, HO8, HB8⟩
                          case measure => simp [intOf]; omega
                  · have HNN : Hid (numR g pb.data.toList = none) := Lib.hid (by rw [HNR.out, hu])
                    clear hu
                    go_wp2_with fail
                    go_ret2
                    exact HNO.out _ HNN.out HB2.out
            · have d2 : ((y : Int) != 1) = true := by rw [bne_iff_ne]; omega
              have HNN := Lib.hid (HNW.out.trans (numsR_none HG.out HE.out (show (oneW e).bind (numR g) = none by rw [oneW_len (by rw [HY.out]; exact hy1)]; rfl)))
              go_wp2_with fail
              go_ret2
              exact numsT_no HNN.out (by rw [HBQ.out]; exact HB2.out)
          · have hkm : k = m := by omega
            have HK2 : Hid (numsR gs es = some ls) := Lib.hid (by have h1 := HK.out; rw [hkm] at h1; rw [List.take_of_length_le (by rw [HQ.out]; exact Nat.le_refl _), List.take_of_length_le (by rw [HM.out]; exact Nat.le_refl _)] at h1; exact h1)
            subst hkm
            go_wp2_with fail
            go_ret2
            refine ⟨.inl ⟨ls, _, by rw [HNW.out]; exact HK2.out, rfl, ?_⟩, by rw [HBQ.out]; exact HB2.out⟩
            rw [HBQ.out]
            have h1 := HO.out
            unfold I64s at h1 ⊢
            rw [HLK.out] at h1 ⊢
            exact h1
      · have d2 : ((m : Int) != (q : Int)) = true := by rw [bne_iff_ne]; omega
        have HNO : Hid (segR sb.data.toList gs (some ⟨tg, es⟩) = none) := Lib.hid (by unfold segR; simp only; rw [if_neg]; rintro ⟨_, h1⟩; rw [HM.out, HQ.out] at h1; exact hmq h1)
        have b5 : (0 : Int) ≤ (at_ : Int) := by omega
        have b6 : (at_ : Int) < (n : Int) := by omega
        clear hmq
        go_enter Tryz.func55, Tryz.ntmps55
        go_wp2_with fail
        go_ret2
        exact numsT_no HNO.out HBW0.out
    · skip
      have d1 := str_ne ht
      have d1n : (sb.toList != tb.toList) = true := by rw [bne, d1]; rfl
      have HNO : Hid (segR tb.data.toList gs (some ⟨tg, es⟩) = none) := Lib.hid (by
        unfold segR; simp only
        rw [if_neg]
        rintro ⟨h1, _⟩
        exact ht (by have h2 := HSD.out.trans h1; cases sb; cases tb; simp at h2; simp [h2]))
      have b5 : (0 : Int) ≤ (at_ : Int) := by omega
      have b6 : (at_ : Int) < (n : Int) := by omega
      clear ht
      go_enter Tryz.func55, Tryz.ntmps55
      go_wp2_with fail
      go_ret2
      exact numsT_no HNO.out HBW0.out
  · have i0 : decide ((n : Int) ≤ (at_ : Int)) = true := by rw [decide_eq_true_eq]; omega
    have hs : l[at_]? = none := List.getElem?_eq_none (by rw [hn]; omega)
    rw [hs]
    have HNO : Hid (segR tb.data.toList gs none = none) := Lib.hid rfl
    clear h hS hs
    go_enter Tryz.func55, Tryz.ntmps55
    go_wp2_with fail
    go_ret2
    exact numsT_no HNO.out HBW0.out
end Go.Proofs.YtgfijlamhjjecaaGreatDoor


namespace Go.Proofs.YtgfijlamhjjecaaGreatDoor
open Go.RowKit
theorem p7R_chk {t : Str} (h1 : t.length = 14) (h2 : t.all digB = true) (h : leftF 0 (t.take 13) ≠ valN (t.drop 13)) : parse7 t = ((0, 0), 70) := by
  rw [← parse7R_eq]; unfold parse7R; rw [if_neg (by simp [h1, h2]), if_pos h]
theorem p7R_arg {t : Str} (h1 : t.length = 14) (h2 : t.all digB = true) (h : leftF 0 (t.take 13) = valN (t.drop 13)) (h3 : mayT (valN (t.take 3)) (valN ((t.take 13).drop 3)) = false) : parse7 t = ((0, 0), 1) := by
  rw [← parse7R_eq]; unfold parse7R; rw [if_neg (by simp [h1, h2]), if_neg (by simp [h]), if_neg (by simp [h3])]
theorem p7R_yes {t : Str} (h1 : t.length = 14) (h2 : t.all digB = true) (h : leftF 0 (t.take 13) = valN (t.drop 13)) (h3 : mayT (valN (t.take 3)) (valN ((t.take 13).drop 3)) = true) : parse7 t = ((valN (t.take 3), valN ((t.take 13).drop 3)), 0) := by
  rw [← parse7R_eq]; unfold parse7R; rw [if_neg (by simp [h1, h2]), if_neg (by simp [h]), if_pos h3]
theorem valN_take {t : Str} {k : Nat} {c : UInt8} (h : t[k]? = some c) : valN (t.take (k + 1)) = valN (t.take k) * 10 + (c.toNat - 48) := by
  rw [List.take_add_one, h]; exact valN_snoc _ _
theorem valN_td {t : Str} {k : Nat} {c : UInt8} (h : t[k]? = some c) (hk : 3 ≤ k) : valN ((t.take (k + 1)).drop 3) = valN ((t.take k).drop 3) * 10 + (c.toNat - 48) := by
  have hl : k < t.length := (List.getElem?_eq_some_iff.1 h).1
  rw [List.take_add_one, h, List.drop_append_of_le_length (by rw [List.length_take]; omega)]; exact valN_snoc _ _
theorem valN_le {t : Str} (h : t.all digB = true) (n : Nat) (hn : t.length ≤ n) : valN t < 10 ^ n :=
  Nat.lt_of_lt_of_le (valN_lt t h) (Nat.pow_le_pow_right (by omega) hn)
theorem all_take {t : Str} (h : t.all digB = true) (k : Nat) : (t.take k).all digB = true := by
  rw [List.all_eq_true] at h ⊢; exact fun c hc => h c (List.mem_of_mem_take hc)
theorem all_drop {t : Str} (h : t.all digB = true) (k : Nat) : (t.drop k).all digB = true := by
  rw [List.all_eq_true] at h ⊢; exact fun c hc => h c (List.mem_of_mem_drop hc)
theorem byte_at {s : ByteArray} {k : Nat} (hk : k < s.size) : ∃ c, s[k]'hk = c ∧ s.data.toList[k]? = some c :=
  ⟨s[k]'hk, rfl, List.getElem?_eq_getElem (l := s.data.toList) hk⟩
set_option maxRecDepth 100000 in
set_option maxHeartbeats 4000000 in
theorem r7Parse_any (s : ByteArray) (w : World) : Calls Tryz.prog 56 #[.string s] w fun e w' => Parse7Q s.data.toList w e w' := by
  have hsl : s.data.toList.length = s.size := rfl
  obtain ⟨t, ht⟩ : ∃ t, s.data.toList = t := ⟨_, rfl⟩
  have HT := Lib.hid ht
  rw [ht] at hsl ⊢
  by_cases h14 : s.size = 14
  · have i1 : ((s.size : Int) != 14) = false := by simp [h14]
    have l14 : t.length = 14 := hsl.trans h14
    have HL := Lib.hid l14
    have hss : (14 : Nat) ≤ s.size := by omega
    have H14 := Lib.hid h14
    obtain ⟨B, hB⟩ : ∃ B, w.heap.size = B := ⟨_, rfl⟩
    have HBQ := Lib.hid hB
    obtain ⟨w0, hw0⟩ : ∃ w0, w.alloc (.cells #[.int .u8 0, .int .u64 0] 24) = w0 := ⟨_, rfl⟩
    have hz0 : B < w0.heap.size := by rw [← hw0, ← hB]; simp
    have HB0 : Hid (Below B w w0) := Lib.hid (by rw [← hw0, ← hB]; exact (Below.refl _ _).alloc (Nat.le_refl _) _)
    have hr : w0.heap[B]? = some (.cells #[.int .u8 0, .int .u64 0] 24 (0, 0)) := by rw [← hw0, ← hB]; exact heap_alloc_new _ _
    have r0 : w0.cell? ⟨B, 0, none⟩ = some (.int .u8 0) := cell_of_row w0 B 0 _ _ _ hr
    have r1 : w0.cell? ⟨B, 1, none⟩ = some (.int .u64 0) := cell_of_row w0 B 1 _ _ _ hr
    have z0 := frozen_of_row w0 B 0 _ _ hr
    have z1 := frozen_of_row w0 B 1 _ _ hr
    have HR := Lib.hid hr
    have HW0 := Lib.hid hw0
    clear ht hsl h14 l14 hr hw0 hB
    go_enter Tryz.func56, Tryz.ntmps56
    go_wp2_with fail
    rw [HW0.out, HBQ.out]

    go_loop [4] (fun i => ∃ k : Nat, k ≤ 14 ∧ i = .int .i64 (k : Int) ∧ (t.take k).all digB = true) (fun i => 14 - (intOf i).toNat)
    case atStart => exact ⟨0, by omega, rfl, rfl⟩
    case round =>
      obtain ⟨k, hk, rfl, hd⟩ := hrel
      by_cases hlt : k < 14
      · have hks : k < s.size := by omega
        obtain ⟨c, hc, hck⟩ := byte_at hks
        rw [HT.out] at hck
        have a1 : (k : Int) < 14 := by omega
        have a2 : (0 : Int) ≤ (k : Int) := by omega
        have a3 : (k : Int) < (s.size : Int) := by omega
        have HCK := Lib.hid hck
        have HD := Lib.hid hd
        clear hck hd
        by_cases h48 : c.toNat < 48
        · have d1 : decide ((c.toNat : Int) < 48) = true := by rw [decide_eq_true_eq]; omega
          have HQ : Hid (parse7 t = ((0, 0), 90)) := Lib.hid (parse7_dig (by
            rw [List.all_eq_false]
            exact ⟨c, List.mem_of_getElem? HCK.out, by unfold digB; simp; omega⟩))
          go_wp2_with fail
          refine bodyPost_ret (res_tick rfl _ rfl rfl (heap_setCell_same _ B 1 _ _ _ (heap_setCell_same _ B 0 _ _ _ HR.out)) rfl) rfl ?_
          exact parse7Q_of HQ.out (by rw [HBQ.out]; exact (HB0.out.setCell (Nat.le_refl _) _).setCell (Nat.le_refl _) _)
        · have d1 : decide ((c.toNat : Int) < 48) = false := by rw [decide_eq_false_iff_not]; omega
          by_cases h57 : 57 < c.toNat
          · have d2 : decide ((57 : Int) < (c.toNat : Int)) = true := by rw [decide_eq_true_eq]; omega
            have HQ : Hid (parse7 t = ((0, 0), 90)) := Lib.hid (parse7_dig (by
              rw [List.all_eq_false]
              exact ⟨c, List.mem_of_getElem? HCK.out, by unfold digB; simp; omega⟩))
            go_wp2_with fail
            refine bodyPost_ret (res_tick rfl _ rfl rfl (heap_setCell_same _ B 1 _ _ _ (heap_setCell_same _ B 0 _ _ _ HR.out)) rfl) rfl ?_
            exact parse7Q_of HQ.out (by rw [HBQ.out]; exact (HB0.out.setCell (Nat.le_refl _) _).setCell (Nat.le_refl _) _)
          · have d2 : decide ((57 : Int) < (c.toNat : Int)) = false := by rw [decide_eq_false_iff_not]; omega
            go_wp2_with fail
            go_round
            case rel => exact ⟨k + 1, by omega, by go_num, by
              rw [List.take_add_one, HCK.out, List.all_append, HD.out]
              simp [digB]; omega⟩
            case measure => simp [intOf]; omega
      · obtain rfl : k = 14 := by omega
        have hall : t.all digB = true := by rw [← hd, List.take_of_length_le (by rw [HL.out]; exact Nat.le_refl _)]
        clear hd
        obtain ⟨E, hE⟩ : ∃ E, s.extract 0 13 = E := ⟨_, rfl⟩
        have hEl : E.data.toList = t.take 13 := by
          rw [← hE, ByteArray.data_extract, Array.toList_extract, HT.out]; rfl
        have hEz : E.size ≤ 1000 := by
          have e : E.size = E.data.toList.length := rfl
          rw [e, hEl, List.length_take]; omega
        have hleft := left_any E hEz (by rw [hEl]; exact all_take hall 13)
        rw [hEl] at hleft
        have hl7 := leftF_lt (v := 0) (t.take 13) (by omega)
        obtain ⟨L, hL⟩ : ∃ L, leftF 0 (t.take 13) = L := ⟨_, rfl⟩
        rw [hL] at hleft hl7
        obtain ⟨c13, hc13, hk13⟩ := byte_at (s := s) (k := 13) (by omega)
        rw [HT.out] at hk13
        obtain ⟨_, hc9, hc48⟩ := digC_of (List.all_eq_true.1 hall c13 (List.mem_of_getElem? hk13))
        have hd13 : t.drop 13 = [c13] := by
          rw [List.drop_eq_getElem_cons (by rw [HL.out]; omega), List.drop_of_length_le (by rw [HL.out]; omega)]
          congr 1
          rw [List.getElem?_eq_getElem (by rw [HL.out]; omega)] at hk13
          exact Option.some.inj hk13
        obtain ⟨d, hdd⟩ : ∃ d, c13.toNat - 48 = d := ⟨_, rfl⟩
        have hv13 : valN (t.drop 13) = d := by rw [hd13, ← hdd]; show 0 * 10 + (c13.toNat - 48) = _; omega
        have q1 : IntKind.u8.wrap ((c13.toNat : Int) - 48) = (d : Int) := by simp [IntKind.wrap, IntKind.bits, IntKind.signed]; omega
        have q2 : IntKind.i64.wrap (d : Int) = (d : Int) := IntWalk.i64_in _ (by omega)
        have a1 : (13 : Int) < (s.size : Int) := by omega
        have a2 : (13 : Int) ≤ (s.size : Int) := by omega
        have HLF := Lib.hid hleft
        have HALL := Lib.hid hall
        have HV13 := Lib.hid hv13
        have HLE := Lib.hid hL
        clear hleft hall hv13 hL hd13 hdd hk13 hEl hEz hc9 hc48
        go_wp2_with fail
        refine wp_region_plan [(0, false), (1, false), (3, false), (4, false), (5, false), (6, false), (2, true), (7, false)] (fun _ => True) (by kernel_rfl) (by kernel_rfl) trivial ?_
        iterate 6 (refine' plan_val rfl rfl (fun w' hS => ?_) ?_; rotate_left; (focus (first | rfl | (go_simp; rfl))); simp only [Act.put, List.setIfInBounds_toArray, List.set_cons_zero, List.set_cons_succ])
        refine plan_do rfl (fun K hK => ?_)
        go_wp2_with (go_at_call 91; refine (HLF.out _).mono ?_; rintro e wB ⟨rfl, rfl⟩)
        refine hK _ _ trivial ?_
        clear hK K
        by_cases hLd : L = d
        · subst hLd
          have b1 : ((L : Int) != (L : Int)) = false := by simp
          (refine' plan_val rfl rfl (fun w' hS => ?_) ?_; rotate_left; (focus (first | rfl | (go_simp; rfl))); simp only [Act.put, List.setIfInBounds_toArray, List.set_cons_zero, List.set_cons_succ])
          refine plan_nil ?_
          obtain ⟨wd, hwd⟩ : ∃ wd, w0.drew = wd := ⟨_, rfl⟩
          have hwh : wd.heap = w0.heap := by rw [← hwd]; rfl
          have HRD := Lib.hid (show wd.heap[B]? = some (.cells #[.int .u8 0, .int .u64 0] 24 (0, 0)) by rw [hwh]; exact HR.out)
          have HBD : Hid (Below B w wd) := Lib.hid (by rw [← hwd]; exact HB0.out.drew)
          have hzd : B < wd.heap.size := by rw [hwh]; exact hz0
          rw [hwd]
          clear hwd hwh r0 r1 z0 z1 q1 q2 b1
          go_wp2_with fail
          go_loop [5, 6, 7] (fun cv sv i => ∃ k : Nat, k ≤ 13 ∧ i = .int .i64 (k : Int) ∧ cv = .int .i64 ((valN (t.take (min k 3)) : Nat) : Int) ∧ sv = .int .u64 ((valN ((t.take k).drop 3) : Nat) : Int)) (fun _ _ i => 13 - (intOf i).toNat)
          case atStart => exact ⟨0, by omega, rfl, rfl, rfl⟩
          case round =>
            obtain ⟨k, hk, rfl, rfl, rfl⟩ := hrel
            by_cases hlt : k < 13
            · have hks : k < s.size := by omega
              obtain ⟨c, hc, hck⟩ := byte_at hks
              rw [HT.out] at hck
              obtain ⟨_, hx9, hx48⟩ := digC_of (List.all_eq_true.1 HALL.out c (List.mem_of_getElem? hck))
              have e1 := valN_take hck
              have a3 : (k : Int) < 13 := by omega
              have a4 : (0 : Int) ≤ (k : Int) := by omega
              have a5 : (k : Int) < (s.size : Int) := by omega
              by_cases h3 : k < 3
              · have hb := valN_le (all_take HALL.out k) 3 (by rw [List.length_take]; omega)
                have m1 : min k 3 = k := by omega
                have m2 : min (k + 1) 3 = k + 1 := by omega
                have n1 : (t.take k).drop 3 = [] := List.drop_of_length_le (by rw [List.length_take]; omega)
                have n2 : (t.take (k + 1)).drop 3 = [] := List.drop_of_length_le (by rw [List.length_take]; omega)
                rw [m1, n1]
                obtain ⟨V, hV⟩ : ∃ V, valN (t.take k) = V := ⟨_, rfl⟩
                obtain ⟨x, hx⟩ : ∃ x, c.toNat - 48 = x := ⟨_, rfl⟩
                have hcx : (c.toNat : Int) - 48 = (x : Int) := by omega
                rw [hV] at e1 hb ⊢
                rw [hx] at e1 hx9
                have w1 : IntKind.i64.wrap (10 * (V : Int)) = 10 * (V : Int) := IntWalk.i64_in _ (by omega)
                have w2 : IntKind.u8.wrap ((c.toNat : Int) - 48) = (x : Int) := by simp [IntKind.wrap, IntKind.bits, IntKind.signed]; omega
                have w3 : IntKind.i64.wrap (x : Int) = (x : Int) := IntWalk.i64_in _ (by omega)
                have w4 : IntKind.i64.wrap (10 * (V : Int) + (x : Int)) = 10 * (V : Int) + (x : Int) := IntWalk.i64_in _ (by omega)
                have i3 : decide ((k : Int) < 3) = true := by rw [decide_eq_true_eq]; omega
                have HE1 := Lib.hid e1
                have HM2 := Lib.hid m2
                have HN2 := Lib.hid n2
                clear e1 m1 m2 n1 n2 hV hx hck hcx
                go_wp2_with fail
                go_round
                case rel => exact ⟨k + 1, by omega, by go_num, by rw [HM2.out, HE1.out] <;> go_num, by rw [HN2.out] <;> rfl⟩
                case measure => simp [intOf]; omega
              · have e2 := valN_td hck (by omega)
                have hb := valN_le (all_drop (all_take HALL.out k) 3) 10 (by rw [List.length_drop, List.length_take]; omega)
                have m1 : min k 3 = 3 := by omega
                have m2 : min (k + 1) 3 = 3 := by omega
                rw [m1]
                obtain ⟨V, hV⟩ : ∃ V, valN ((t.take k).drop 3) = V := ⟨_, rfl⟩
                obtain ⟨x, hx⟩ : ∃ x, c.toNat - 48 = x := ⟨_, rfl⟩
                obtain ⟨C, hC⟩ : ∃ C, valN (t.take 3) = C := ⟨_, rfl⟩
                have hcx : (c.toNat : Int) - 48 = (x : Int) := by omega
                rw [hV] at e2 hb ⊢
                rw [hx] at e2 hx9
                rw [hC]
                have w1 : IntKind.u64.wrap (10 * (V : Int)) = 10 * (V : Int) := by rw [IntKind.wrap_u64]; omega
                have w2 : IntKind.u8.wrap ((c.toNat : Int) - 48) = (x : Int) := by simp [IntKind.wrap, IntKind.bits, IntKind.signed]; omega
                have w3 : IntKind.u64.wrap (x : Int) = (x : Int) := by rw [IntKind.wrap_u64]; omega
                have w4 : IntKind.u64.wrap (10 * (V : Int) + (x : Int)) = 10 * (V : Int) + (x : Int) := by rw [IntKind.wrap_u64]; omega
                have i3 : decide ((k : Int) < 3) = false := by rw [decide_eq_false_iff_not]; omega
                have HE2 := Lib.hid e2
                have HM2 := Lib.hid m2
                have HC := Lib.hid hC
                clear e1 e2 m1 m2 hV hx hC hck hcx
                go_wp2_with fail
                go_round
                case rel => exact ⟨k + 1, by omega, by go_num, by rw [HM2.out, HC.out], by rw [HE2.out] <;> go_num⟩
                case measure => simp [intOf]; omega
            · obtain rfl : k = 13 := by omega
              rw [show min 13 3 = 3 from rfl]
              have hbc := valN_le (all_take HALL.out 3) 3 (by rw [List.length_take]; omega)
              have hbs := valN_le (all_drop (all_take HALL.out 13) 3) 10 (by rw [List.length_drop, List.length_take]; omega)
              have hyes := p7R_yes (t := t) HL.out HALL.out (by rw [HV13.out, HLE.out])
              have hno := p7R_arg (t := t) HL.out HALL.out (by rw [HV13.out, HLE.out])
              obtain ⟨C, hC⟩ : ∃ C, valN (t.take 3) = C := ⟨_, rfl⟩
              obtain ⟨S, hS⟩ : ∃ S, valN ((t.take 13).drop 3) = S := ⟨_, rfl⟩
              rw [hC] at hyes hno hbc ⊢
              rw [hS] at hyes hno hbs ⊢
              clear hC hS
              have r0 : wd.cell? ⟨B, 0, none⟩ = some (.int .u8 0) := cell_of_row wd B 0 _ _ _ HRD.out
              have r1 : wd.cell? ⟨B, 1, none⟩ = some (.int .u64 0) := cell_of_row wd B 1 _ _ _ HRD.out
              have z0 := frozen_of_row wd B 0 _ _ HRD.out
              have z1 := frozen_of_row wd B 1 _ _ HRD.out
              have w3 : IntKind.u64.wrap (S : Int) = (S : Int) := by rw [IntKind.wrap_u64]; omega
              by_cases h8 : C < 8
              · have j8 : decide ((C : Int) ≥ 8) = false := by rw [decide_eq_false_iff_not]; omega
                have w1 : IntKind.u8.wrap (C : Int) = (C : Int) := by simp [IntKind.wrap, IntKind.bits, IntKind.signed]; omega
                cases hm : mayT C S with
                | true =>
                  have HQ := Lib.hid (hyes hm)
                  have HM := Lib.hid hm
                  clear hyes hno hm
                  go_wp2_with (go_at_call 89; refine (r7May_any C S _).mono ?_; rw [HM.out]; rintro e w2 ⟨rfl, hb⟩; have k0 : w2.heap[B]? = some (.cells #[.int .u8 0, .int .u64 0] 24 (0, 0)) := (hb.block B (by simp; omega)).trans ((Below.heap_alloc _ _ _ hzd).trans HRD.out); have k1 : w2.heap[wd.heap.size]? = some (.cells #[.int .u8 (C : Int), .int .u64 (S : Int)] 24 (0, 0)) := (hb.block _ (by simp)).trans (heap_alloc_new _ _); have y0 : w2.cell? ⟨B, 0, none⟩ = some (.int .u8 0) := cell_of_row w2 B 0 _ _ _ k0; have y1 : w2.cell? ⟨B, 1, none⟩ = some (.int .u64 0) := cell_of_row w2 B 1 _ _ _ k0; have v0 := frozen_of_row w2 B 0 _ _ k0; have v1 := frozen_of_row w2 B 1 _ _ k0; have x0 : w2.cell? ⟨wd.heap.size, 0, none⟩ = some (.int .u8 (C : Int)) := cell_of_row w2 wd.heap.size 0 _ _ _ k1; have x1 : w2.cell? ⟨wd.heap.size, 1, none⟩ = some (.int .u64 (S : Int)) := cell_of_row w2 wd.heap.size 1 _ _ _ k1; have K0 := Lib.hid k0; have HB := Lib.hid hb; clear hb k0 k1)
                  refine bodyPost_ret (res_tick rfl _ rfl rfl (heap_setCell_same _ B 1 _ _ _ (heap_setCell_same _ B 0 _ _ _ K0.out)) rfl) rfl ?_
                  exact parse7Q_of HQ.out (by rw [HBQ.out]; exact ((HBD.out.trans (((Below.refl _ _).alloc (by omega) _).trans (HB.out.mono (by simp; omega)))).setCell (Nat.le_refl _) _).setCell (Nat.le_refl _) _)
                | false =>
                  have HQ := Lib.hid (hno hm)
                  have HM := Lib.hid hm
                  clear hyes hno hm
                  go_wp2_with (go_at_call 89; refine (r7May_any C S _).mono ?_; rw [HM.out]; rintro e w2 ⟨rfl, hb⟩; have k0 : w2.heap[B]? = some (.cells #[.int .u8 0, .int .u64 0] 24 (0, 0)) := (hb.block B (by simp; omega)).trans ((Below.heap_alloc _ _ _ hzd).trans HRD.out); have k1 : w2.heap[wd.heap.size]? = some (.cells #[.int .u8 (C : Int), .int .u64 (S : Int)] 24 (0, 0)) := (hb.block _ (by simp)).trans (heap_alloc_new _ _); have y0 : w2.cell? ⟨B, 0, none⟩ = some (.int .u8 0) := cell_of_row w2 B 0 _ _ _ k0; have y1 : w2.cell? ⟨B, 1, none⟩ = some (.int .u64 0) := cell_of_row w2 B 1 _ _ _ k0; have v0 := frozen_of_row w2 B 0 _ _ k0; have v1 := frozen_of_row w2 B 1 _ _ k0; have x0 : w2.cell? ⟨wd.heap.size, 0, none⟩ = some (.int .u8 (C : Int)) := cell_of_row w2 wd.heap.size 0 _ _ _ k1; have x1 : w2.cell? ⟨wd.heap.size, 1, none⟩ = some (.int .u64 (S : Int)) := cell_of_row w2 wd.heap.size 1 _ _ _ k1; have K0 := Lib.hid k0; have HB := Lib.hid hb; clear hb k0 k1)
                  refine bodyPost_ret (res_tick rfl _ rfl rfl (heap_setCell_same _ B 1 _ _ _ (heap_setCell_same _ B 0 _ _ _ K0.out)) rfl) rfl ?_
                  exact parse7Q_of HQ.out (by rw [HBQ.out]; exact ((HBD.out.trans (((Below.refl _ _).alloc (by omega) _).trans (HB.out.mono (by simp; omega)))).setCell (Nat.le_refl _) _).setCell (Nat.le_refl _) _)
              · have j8 : decide ((C : Int) ≥ 8) = true := by rw [decide_eq_true_eq]; omega
                have HQ := Lib.hid (hno (by unfold mayT; simp [h8]))
                obtain ⟨C8, hC8⟩ : ∃ C8, IntKind.u8.wrap (C : Int) = C8 := ⟨_, rfl⟩
                clear hyes hno
                go_wp2_with fail
                refine bodyPost_ret (res_tick (g := B) (cs := #[.int .u8 0, .int .u64 0]) (t := 24) rfl _ rfl rfl ((Below.heap_alloc _ _ _ (by simp; omega)).trans (heap_setCell_same _ B 1 _ _ _ (heap_setCell_same _ B 0 _ _ _ HRD.out))) rfl) rfl ?_
                exact parse7Q_of HQ.out (by rw [HBQ.out]; exact ((HBD.out.setCell (Nat.le_refl _) _).setCell (Nat.le_refl _) _).alloc (by simp; omega) _)
        · have b1 : ((L : Int) != (d : Int)) = true := by rw [bne_iff_ne]; omega
          have HQ : Hid (parse7 t = ((0, 0), 70)) := Lib.hid (p7R_chk HL.out HALL.out (by rw [HV13.out, HLE.out]; exact hLd))
          (refine' plan_val rfl rfl (fun w' hS => ?_) ?_; rotate_left; (focus (first | rfl | (go_simp; rfl))); simp only [Act.put, List.setIfInBounds_toArray, List.set_cons_zero, List.set_cons_succ])
          refine plan_nil ?_
          go_wp2_with fail
          refine bodyPost_ret (res_tick rfl _ rfl rfl (heap_setCell_same _ B 1 _ _ _ (heap_setCell_same _ B 0 _ _ _ HR.out)) rfl) rfl ?_
          exact parse7Q_of HQ.out (by rw [HBQ.out]; exact ((HB0.out.setCell (Nat.le_refl _) _).setCell (Nat.le_refl _) _).drew)
  · have i1 : ((s.size : Int) != 14) = true := by simp; omega
    have HQ := Lib.hid (parse7_len (t := t) (by omega))
    clear hsl ht h14
    go_enter Tryz.func56, Tryz.ntmps56
    go_wp2_with fail
    refine bodyPost_ret (res_tick rfl _ rfl rfl (heap_alloc_new _ _) rfl) rfl ?_
    exact parse7Q_of HQ.out ((Below.refl _ _).alloc (Nat.le_refl _) _)
end Go.Proofs.YtgfijlamhjjecaaGreatDoor


namespace Go.Proofs.YtgfijlamhjjecaaGreatDoor
open Go.RowKit
structure PSt (B2 : Nat) (w2 : World) (q : PD) (wx : World) : Prop where
  low : Below B2 w2 wx
  row : wx.heap[B2]? = some (.cells (pktA q).toArray 38 (0, 0))
theorem PSt.lt {B2 : Nat} {w2 wx : World} {q : PD} (h : PSt B2 w2 q wx) : B2 < wx.heap.size := (Array.getElem?_eq_some_iff.1 h.row).1
theorem PSt.on {B2 : Nat} {w2 wx wy : World} {q : PD} (h : PSt B2 w2 q wx) (hb : Below wx.heap.size wx wy) : PSt B2 w2 q wy := by
  have hl := h.lt
  exact ⟨h.low.trans (hb.mono (by omega)), (hb.block B2 hl).trans h.row⟩
theorem PSt.alloc {B2 : Nat} {w2 wx : World} {q : PD} (h : PSt B2 w2 q wx) (o : Obj) : PSt B2 w2 q (wx.alloc o) := h.on ((Below.refl _ _).alloc (Nat.le_refl _) _)
theorem PSt.set {B2 : Nat} {w2 wx : World} {q q' : PD} (h : PSt B2 w2 q wx) (i : Nat) (v : Value) (e : (pktA q).set i v = pktA q') : PSt B2 w2 q' (wx.setCell ⟨B2, i, none⟩ v) :=
  ⟨h.low.setCell (Nat.le_refl _) _, by rw [heap_setCell_same wx B2 i _ _ _ h.row, List.setIfInBounds_toArray, e]⟩
theorem PSt.drew {B2 : Nat} {w2 wx : World} {q : PD} (h : PSt B2 w2 q wx) : PSt B2 w2 q wx.drew := ⟨h.low.drew, h.row⟩
def ackX (l : List Seg) : Bool := match l with | s :: _ => ackS s | [] => false
def keyN (l : List Seg) : Bool := match l[1]? with | none => true | some y => (wordsS y tKEY 2).isNone
theorem pktR_car {x : WD} (h : 8 ≤ x.fr ∨ 8 ≤ x.dst) : packetM x = (pd0, 1) := by unfold packetM; rw [if_pos h]
def tailPK (x : WD) (h : Bool × Bool × Bool) (k : Nat) (t u : Str) : PD × Int :=
  match numW u with
  | some a => if 4 ≤ a then (pd0, 101) else
    (match restR h k (parse7 t).1.1 (parse7 t).1.2 a x.segs with
    | some m => (⟨x.fr, x.dst, false, x.rf, m⟩, 0)
    | none => (pd0, 101))
  | none => (pd0, 101)
def restPK (x : WD) : PD × Int :=
  match segR tMSG [false] x.segs[0]? with
  | some [k] => if 255 < k then (pd0, 100) else
    (match hasK k.toNat with
    | none => (pd0, 100)
    | some h => match x.segs[1]? with
      | none => (pd0, 101)
      | some y => match wordsS y tKEY 2 with
        | some [t, u] => if (parse7 t).2 ≠ 0 then (pd0, (parse7 t).2) else tailPK x h k.toNat t u
        | _ => (pd0, 101))
  | _ => (pd0, 100)
theorem restPK_eq {x : WD} (h : ¬ (8 ≤ x.fr ∨ 8 ≤ x.dst)) (ha : ackX x.segs = false) : packetRM x = restPK x := by
  unfold packetRM restPK tailPK
  rw [if_neg h]
  rw [if_neg (fun hh => by have h1 := ha.symm.trans hh; cases h1)]
  rfl
theorem rp_none {x : WD} (h : segR tMSG [false] x.segs[0]? = none) : restPK x = (pd0, 100) := by unfold restPK; rw [h]
theorem rp_big {x : WD} {k : Int} (h : segR tMSG [false] x.segs[0]? = some [k]) (hb : 255 < k) : restPK x = (pd0, 100) := by unfold restPK; rw [h]; simp only; rw [if_pos hb]
theorem rp_kind {x : WD} {k : Int} (h : segR tMSG [false] x.segs[0]? = some [k]) (hb : ¬ 255 < k) (hk : hasK k.toNat = none) : restPK x = (pd0, 100) := by
  unfold restPK; rw [h]; simp only; rw [if_neg hb, hk]
theorem rp_key {x : WD} {k : Int} {f : Bool × Bool × Bool} (h : segR tMSG [false] x.segs[0]? = some [k]) (hb : ¬ 255 < k) (hk : hasK k.toNat = some f) (hn : keyN x.segs = true) : restPK x = (pd0, 101) := by
  unfold restPK; rw [h]; simp only; rw [if_neg hb, hk]; simp only
  unfold keyN at hn
  cases hy : x.segs[1]? with
  | none => rfl
  | some y =>
    rw [hy] at hn
    simp only at hn ⊢
    cases hw : wordsS y tKEY 2 with
    | none => rfl
    | some l => rw [hw] at hn; cases hn
theorem wordsS_two {y : Seg} {l : List Str} (h : wordsS y tKEY 2 = some l) : ∃ t u, l = [t, u] ∧ y.tag = tKEY ∧ y.elems = [[t], [u]] := by
  unfold wordsS at h
  split at h
  · rename_i hc
    have h1 := wordsL_inj h
    have h2 := wordsL_len h
    rw [hc.2] at h2
    match l, h2 with
    | [t, u], _ => exact ⟨t, u, rfl, hc.1, by rw [h1]; rfl⟩
  · cases h
theorem rp_go {x : WD} {k : Int} {f : Bool × Bool × Bool} (h : segR tMSG [false] x.segs[0]? = some [k]) (hb : ¬ 255 < k) (hk : hasK k.toNat = some f) (hn : keyN x.segs = false) :
    ∃ y t u, x.segs[1]? = some y ∧ y.tag = tKEY ∧ y.elems = [[t], [u]] ∧ restPK x = if (parse7 t).2 ≠ 0 then (pd0, (parse7 t).2) else tailPK x f k.toNat t u := by
  unfold keyN at hn
  cases hy : x.segs[1]? with
  | none => rw [hy] at hn; cases hn
  | some y =>
    rw [hy] at hn
    simp only at hn
    cases hw : wordsS y tKEY 2 with
    | none => rw [hw] at hn; cases hn
    | some l =>
      obtain ⟨t, u, rfl, h1, h2⟩ := wordsS_two hw
      refine ⟨y, t, u, rfl, h1, h2, ?_⟩
      unfold restPK; rw [h]; simp only; rw [if_neg hb, hk]; simp only
      rw [hy]; simp only; rw [hw]
theorem tp_none {x : WD} {f : Bool × Bool × Bool} {k : Nat} {t u : Str} (h : numW u = none) : tailPK x f k t u = (pd0, 101) := by unfold tailPK; rw [h]
theorem tp_big {x : WD} {f : Bool × Bool × Bool} {k a : Nat} {t u : Str} (h : numW u = some a) (hb : 4 ≤ a) : tailPK x f k t u = (pd0, 101) := by unfold tailPK; rw [h]; simp only; rw [if_pos hb]
theorem tp_go {x : WD} {f : Bool × Bool × Bool} {k a : Nat} {t u : Str} (h : numW u = some a) (hb : ¬ 4 ≤ a) : tailPK x f k t u = (match restR f k (parse7 t).1.1 (parse7 t).1.2 a x.segs with
    | some m => (⟨x.fr, x.dst, false, x.rf, m⟩, 0)
    | none => (pd0, 101)) := by unfold tailPK; rw [h]; simp only; rw [if_neg hb]
def cpnO (h : Bool × Bool × Bool) (l : List Seg) : Option CD := if h.1 then (segR tCPN gsC l[2]?).bind cdR else some cd0
def at1 (h : Bool × Bool × Bool) : Nat := if h.1 then 3 else 2
def amtO (h : Bool × Bool × Bool) (l : List Seg) : Option Int := if h.2.1 then (segR tAMT [true] l[at1 h]?).bind amR else some 0
def at2 (h : Bool × Bool × Bool) : Nat := at1 h + (if h.2.1 then 1 else 0)
def codO (h : Bool × Bool × Bool) (l : List Seg) : Option Int := if h.2.2 then (segR tCOD [false] l[at2 h]?).bind coR else some 0
def at3 (h : Bool × Bool × Bool) : Nat := at2 h + (if h.2.2 then 1 else 0)
theorem restR_is (h : Bool × Bool × Bool) (k c s a : Nat) (l : List Seg) : restR h k c s a l = (cpnO h l).bind fun cc => (amtO h l).bind fun am => (codO h l).bind fun co => if l.length ≠ at3 h ∨ mayR ⟨k, c, s, a, cc, am, co⟩ = false then none else some ⟨k, c, s, a, cc, am, co⟩ := rfl
theorem tail_cpn {x : WD} {f : Bool × Bool × Bool} {k a : Nat} {t u : Str} (h : numW u = some a) (hb : ¬ 4 ≤ a) (hc : cpnO f x.segs = none) : tailPK x f k t u = (pd0, 101) := by
  rw [tp_go h hb, restR_is, hc]; rfl
theorem tail_amt {x : WD} {f : Bool × Bool × Bool} {k a : Nat} {t u : Str} {cc : CD} (h : numW u = some a) (hb : ¬ 4 ≤ a) (hc : cpnO f x.segs = some cc) (hm : amtO f x.segs = none) : tailPK x f k t u = (pd0, 101) := by
  rw [tp_go h hb, restR_is, hc, hm]; rfl
theorem tail_cod {x : WD} {f : Bool × Bool × Bool} {k a : Nat} {t u : Str} {cc : CD} {am : Int} (h : numW u = some a) (hb : ¬ 4 ≤ a) (hc : cpnO f x.segs = some cc) (hm : amtO f x.segs = some am) (ho : codO f x.segs = none) : tailPK x f k t u = (pd0, 101) := by
  rw [tp_go h hb, restR_is, hc, hm, ho]; rfl
theorem tail_end {x : WD} {f : Bool × Bool × Bool} {k a : Nat} {t u : Str} {cc : CD} {am co : Int} (h : numW u = some a) (hb : ¬ 4 ≤ a) (hc : cpnO f x.segs = some cc) (hm : amtO f x.segs = some am) (ho : codO f x.segs = some co) :
    tailPK x f k t u = if x.segs.length ≠ at3 f ∨ mayR ⟨k, (parse7 t).1.1, (parse7 t).1.2, a, cc, am, co⟩ = false then (pd0, 101) else (⟨x.fr, x.dst, false, x.rf, ⟨k, (parse7 t).1.1, (parse7 t).1.2, a, cc, am, co⟩⟩, 0) := by
  rw [tp_go h hb, restR_is, hc, hm, ho]
  simp only [Option.bind_some]
  by_cases hx : x.segs.length ≠ at3 f ∨ mayR ⟨k, (parse7 t).1.1, (parse7 t).1.2, a, cc, am, co⟩ = false
  · rw [if_pos hx, if_pos hx]
  · rw [if_neg hx, if_neg hx]
theorem at_bounds (f : Bool × Bool × Bool) : at1 f ≤ 3 ∧ at2 f ≤ 4 ∧ at3 f ≤ 5 := by
  obtain ⟨a, b, c⟩ := f
  cases a <;> cases b <;> cases c <;> decide
def setL : List Value → Nat → List Value → List Value
  | cs, _, [] => cs
  | cs, i, v :: vs => setL (cs.set i v) (i + 1) vs
theorem setL_heap {g : Nat} {t : TypeId} : ∀ (vs cs : List Value) (w : World) (i : Nat), w.heap[g]? = some (.cells cs.toArray t (0, 0)) → (w.setCells g i vs).heap[g]? = some (.cells (setL cs i vs).toArray t (0, 0))
  | [], _, _, _, h => h
  | v :: vs, cs, w, i, h => by
    refine setL_heap vs (cs.set i v) (w.setCell ⟨g, i, none⟩ v) (i + 1) ?_
    rw [heap_setCell_same w g i _ _ _ h, List.setIfInBounds_toArray]
theorem PSt.sets {B2 : Nat} {w2 wx : World} {q q' : PD} (h : PSt B2 w2 q wx) (i : Nat) (vs : List Value) (e : setL (pktA q) i vs = pktA q') : PSt B2 w2 q' (wx.setCells B2 i vs) :=
  ⟨putL_below (Nat.le_refl _) _ _ _ h.low, by rw [setL_heap vs _ _ _ h.row, e]⟩
theorem key_lie {S : Nat → Prop} {w : World} {vo : Option Addr} {n cap : Nat} {l : List Seg} {y : Seg} {t u : Str} (h : SegsAt S w (.slice vo n cap) l) (hy : l[1]? = some y) (he : y.elems = [[t], [u]]) :
    ∃ lb lo eb eo ec b1 o1 k1 b2 o2 k2, vo = some ⟨lb, lo, none⟩ ∧ S lb ∧ S eb ∧ S b1 ∧ S b2 ∧ w.cell? ⟨lb, lo + 2 + 1, none⟩ = some (.slice (some ⟨eb, eo, none⟩) 2 ec) ∧ w.cell? ⟨eb, eo, none⟩ = some (.slice (some ⟨b1, o1, none⟩) 1 k1) ∧ w.cell? ⟨eb, eo + 1, none⟩ = some (.slice (some ⟨b2, o2, none⟩) 1 k2) ∧
      w.cell? ⟨b1, o1, none⟩ = some (sv t) ∧ w.cell? ⟨b2, o2, none⟩ = some (sv u) := by
  obtain ⟨lb, lo, ev, hA, hlb, c0, c1, hel⟩ := h.get hy
  rw [he] at hel
  obtain ⟨ea, ec, rfl, _, _⟩ := hel.form
  obtain ⟨eb, eo, x1, hE, heb, d0, hc1⟩ := hel.get (k := 0) rfl
  obtain ⟨eb', eo', x2, hE', heb', d1, hc2⟩ := hel.get (k := 1) rfl
  obtain rfl : ea = some ⟨eb, eo, none⟩ := hE
  obtain ⟨rfl, rfl⟩ : eb = eb' ∧ eo = eo' := by injection hE' with h1; injection h1 with h1 h2; exact ⟨h1, h2⟩
  obtain ⟨a1, k1, rfl, _, _⟩ := hc1.form
  obtain ⟨a2, k2, rfl, _, _⟩ := hc2.form
  obtain ⟨b1, o1, hA1, hb1, g1⟩ := hc1.get (k := 0) rfl
  obtain ⟨b2, o2, hA2, hb2, g2⟩ := hc2.get (k := 0) rfl
  obtain rfl : a1 = some ⟨b1, o1, none⟩ := hA1
  obtain rfl : a2 = some ⟨b2, o2, none⟩ := hA2
  simp only [Nat.one_mul, Nat.add_zero] at c1 d0 g1 g2
  exact ⟨lb, lo, eb, eo, ec, b1, o1, k1, b2, o2, k2, hA, hlb, heb, hb1, hb2, c1, d0, d1, g1, g2⟩
theorem einfo_bool : (Tryz.prog.info? 4).map (fun i => (i.zero, i.size, i.bytes)) = some (some (.bool false), 1, 1) := by kernel_rfl
theorem wpList_bools {ops : Array Oper} {rest : List Oper} {o : Oper} {a : Act} {w : World} {Q : Exit → Act → World → Prop} (hg : o.guard = none) (len : Nat) (parts : Array (Nat × Operand)) (ho : o.op = .buildSlice 125 len parts) (ss : List Bool)
    (hn : ss.length = len) (hpos : 0 < len) (hsm : len ≤ 1000) (hp : (parts.map fun (i, x) => (i, a.eval x)).toList = ((ss.map Value.bool).zipIdx 0).map fun x => (x.2, x.1))
    (h : wpList Tryz.prog ops Q rest (a.put o.dst (.slice (some ⟨w.heap.size, 0, none⟩) len len)) (w.alloc (.cells (ss.map Value.bool).toArray 4))) : wpList Tryz.prog ops Q (o :: rest) a w := by
  obtain ⟨ie, hie, hiz, his, _⟩ := info_parts einfo_bool
  refine wpList_buildSlice hg 125 4 len parts ho (ss.map Value.bool).toArray ie _ Tryz.underlying125 hie hiz (by rw [his]; omega) (by rw [his]; omega) ?_ h
  rw [his, hp]
  exact Great.fill_flat _ _ (fun v hv => by obtain ⟨s, _, rfl⟩ := List.mem_map.1 hv; rfl) (by simp [hn])
theorem cdR_none {a b c d e f : Int} (h : 8 ≤ a ∨ 65535 < b ∨ 4294967295 < c ∨ 7 < e ∨ 4294967295 < f) : cdR [a, b, c, d, e, f] = none := by unfold cdR; simp only; rw [if_pos h]
theorem cdR_some {a b c e f : Nat} {d : Int} (h : ¬ (8 ≤ (a : Int) ∨ 65535 < (b : Int) ∨ 4294967295 < (c : Int) ∨ 7 < (e : Int) ∨ 4294967295 < (f : Int))) : cdR [(a : Int), (b : Int), (c : Int), d, (e : Int), (f : Int)] = some ⟨a, b, c, d, e, f⟩ := by
  unfold cdR; simp only; rw [if_neg h]; rfl
theorem cells6 {w : World} {B : Nat} {e : TypeId} {g cap : Nat} {x0 x1 x2 x3 x4 x5 : Value} (h : w.ownsRow B e 1 (.slice (some ⟨g, 0, none⟩) 6 cap) 6 [x0, x1, x2, x3, x4, x5]) :
    w.cell? ⟨g, 0, none⟩ = some x0 ∧ w.cell? ⟨g, 1, none⟩ = some x1 ∧ w.cell? ⟨g, 2, none⟩ = some x2 ∧ w.cell? ⟨g, 3, none⟩ = some x3 ∧ w.cell? ⟨g, 4, none⟩ = some x4 ∧ w.cell? ⟨g, 5, none⟩ = some x5 :=
  ⟨own_cell h rfl, own_cell h rfl, own_cell h rfl, own_cell h rfl, own_cell h rfl, own_cell h rfl⟩
theorem cpnO_yes {b c : Bool} {l : List Seg} {o : Option (List Int)} (h : segR tCPN gsC l[2]? = o) : cpnO (true, b, c) l = o.bind cdR := by unfold cpnO; simp [h]
theorem cpnO_none {b c : Bool} {l : List Seg} (h : segR tCPN gsC l[2]? = none) : cpnO (true, b, c) l = none := by rw [cpnO_yes h]; rfl
theorem cpnO_some {b c : Bool} {l : List Seg} {v : List Int} (h : segR tCPN gsC l[2]? = some v) : cpnO (true, b, c) l = cdR v := by rw [cpnO_yes h]; rfl
theorem amtO_none {a c : Bool} {l : List Seg} (h : segR tAMT [true] l[at1 (a, true, c)]? = none) : amtO (a, true, c) l = none := by unfold amtO; simp [h]
theorem amtO_some {a c : Bool} {l : List Seg} {v : Int} (h : segR tAMT [true] l[at1 (a, true, c)]? = some [v]) : amtO (a, true, c) l = some v := by unfold amtO; simp [h, amR]
theorem codO_none {a b : Bool} {l : List Seg} (h : segR tCOD [false] l[at2 (a, b, true)]? = none) : codO (a, b, true) l = none := by unfold codO; simp [h]
theorem codO_big {a b : Bool} {l : List Seg} {v : Int} (h : segR tCOD [false] l[at2 (a, b, true)]? = some [v]) (hb : 999 < v) : codO (a, b, true) l = none := by unfold codO; simp [h, coR, hb]
theorem codO_some {a b : Bool} {l : List Seg} {v : Int} (h : segR tCOD [false] l[at2 (a, b, true)]? = some [v]) (hb : ¬ 999 < v) : codO (a, b, true) l = some v := by
  unfold codO
  simp only [h, if_true, Option.bind_some, coR]
  rw [if_neg hb]
set_option maxRecDepth 100000 in
theorem cpn_build {ev : Operand → Value} {x y z u : Operand} {d : Option Tmp} {ty : TypeId} {ps : String} {af : Array Edge} {n1 n2 n3 n5 n6 : Nat} {v4 : Int} {w' : World} (h1 : ev x = .agg #[.int .u8 (n1 : Int), .int .u16 (n2 : Int), .int .u32 (n3 : Int)]) (h2 : ev y = .int .i64 v4) (h3 : ev z = .int .u8 (n5 : Int)) (h4 : ev u = .int .u32 (n6 : Int)) :
    (execOp ev { dst := d, op := .build 33 #[(0, x), (1, y), (2, z), (3, u)], type := ty, pos := ps, after := af, guard := none }).run Tryz.prog w' = .ok (.value (.agg #[.int .u8 (n1 : Int), .int .u16 (n2 : Int), .int .u32 (n3 : Int), .int .i64 v4, .int .u8 (n5 : Int), .int .u32 (n6 : Int)])) w' := by
  go_simp
theorem boolsAt_new (w : World) (gs : List Bool) : BoolsAt (w.alloc (.cells (gs.map Value.bool).toArray 4)) (.slice (some ⟨w.heap.size, 0, none⟩) gs.length gs.length) gs :=
  ⟨w.heap.size, rfl, by simp, fun i g hi => by rw [cell_of_row _ _ i _ _ _ (heap_alloc_new _ _), List.getElem?_toArray, List.getElem?_map, hi]; rfl⟩
end Go.Proofs.YtgfijlamhjjecaaGreatDoor

