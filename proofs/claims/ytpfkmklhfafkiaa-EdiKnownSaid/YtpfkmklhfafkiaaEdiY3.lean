/-
  EdiY3: contract of (*Replacer).build at the four signs. No condition beyond those stated.
-/
import Derived.Test.YtpfkmklhfafkiaaEdiY2
import Derived.Lib.SliceRun
import Derived.Laws.IdiomStrings
namespace Go.Proofs.Ytpfkmklhfafkiaa
open Go.RowKit
/-- the signs, in the order in which NewReplacer is given them -/
def sg (j : Nat) : UInt8 := [43, 58, 39, 63].getD j 0
def OldAt (w : World) (ob : Nat) : Prop := ∀ j, j < 4 → w.cell? ⟨ob, 2 * j, none⟩ = some (sv [sg j]) ∧ w.cell? ⟨ob, 2 * j + 1, none⟩ = some (sv [63, sg j])
theorem made4 (w : World) : (Instr.makeSlice 38 (.int .i64 0) (.int .i64 4)).run Try.prog w = .ok (.slice (some ⟨w.heap.size, 0, none⟩) 0 4) (w.alloc (.cells #[.string ⟨#[]⟩, .string ⟨#[]⟩, .string ⟨#[]⟩, .string ⟨#[]⟩] 9)) := by kernel_rfl
/-- a Replacer -/
def RepAt (w : World) (rb : Nat) (d s : Int) (r o : Value) : Prop := w.heap[rb]? = some (.cells #[.int .u32 d, .int .i32 s, .int .u32 0, r, o] 84 (0, 0))
def DE (j : Nat) : List UInt8 := [63, 39, 58, 43].take (4 - j)
theorem tab_new (w : World) (B : Nat) (hB : w.heap.size = B) : TabAt ((w.alloc (.cells #[.string ⟨#[]⟩, .string ⟨#[]⟩, .string ⟨#[]⟩, .string ⟨#[]⟩] 9)).alloc (.cells (tabC (.slice (some ⟨B, 0, none⟩) 0 4)) 108)) B (B + 1) [] [] := by
  subst hB
  have h0 : ((w.alloc (.cells #[.string ⟨#[]⟩, .string ⟨#[]⟩, .string ⟨#[]⟩, .string ⟨#[]⟩] 9)).alloc (.cells (tabC (.slice (some ⟨w.heap.size, 0, none⟩) 0 4)) 108)).heap[w.heap.size]? = some (.cells #[.string ⟨#[]⟩, .string ⟨#[]⟩, .string ⟨#[]⟩, .string ⟨#[]⟩] 9 (0, 0)) := by
    rw [Below.heap_alloc _ _ _ (by rw [World.size_alloc]; omega)]; exact heap_alloc_new w _
  have h1 : ((w.alloc (.cells #[.string ⟨#[]⟩, .string ⟨#[]⟩, .string ⟨#[]⟩, .string ⟨#[]⟩] 9)).alloc (.cells (tabC (.slice (some ⟨w.heap.size, 0, none⟩) 0 4)) 108)).heap[w.heap.size + 1]? = some (.cells (tabC (.slice (some ⟨w.heap.size, 0, none⟩) 0 4)) 108 (0, 0)) := by
    have := heap_alloc_new (w.alloc (.cells #[.string ⟨#[]⟩, .string ⟨#[]⟩, .string ⟨#[]⟩, .string ⟨#[]⟩] 9)) (.cells (tabC (.slice (some ⟨w.heap.size, 0, none⟩) 0 4)) 108)
    rw [World.size_alloc] at this
    exact this
  refine ⟨_, .slice (some ⟨w.heap.size, 0, none⟩) 0 4, h1, by omega, tabC_size _, ?_, ⟨rfl, .inr ⟨w.heap.size, 4, _, rfl, Nat.le_refl _, h0, by decide, by decide, rfl, rfl⟩⟩, fun c _ => ?_, fun c h => by simp at h⟩
  · unfold tabC; rw [List.getElem?_toArray, List.getElem?_append_right (by rw [List.length_replicate]; omega), List.length_replicate]; rfl
  · have hc := c.toNat_lt
    unfold tabC; rw [List.getElem?_toArray, List.getElem?_append_left (by rw [List.length_replicate]; omega), List.getElem?_replicate, if_pos (by omega)]
theorem conv_oneR (w : World) (c : UInt8) (cn : Nat) (h : c.toNat = cn) : (convert 32 9 (.slice (some ⟨w.heap.size, 0, none⟩) 1 1)).run Try.prog (w.alloc (.cells #[.int .u8 cn] 5)) = .ok (.string ⟨#[c]⟩) (w.alloc (.cells #[.int .u8 cn] 5)) := by
  subst h
  exact run_convert_bytes_back (P := Try.prog) _ 32 9 5 ⟨w.heap.size, 0, none⟩ 1 [c] Try.underlying32 Try.underlying5 Try.underlying9 (fun j hj => by
    have : j = 0 := by simpa using hj
    subst this
    exact cell_one_new w (.int .u8 (c.toNat : Int)) 5 0 _ rfl)
theorem DE_len (j : Nat) (h : j ≤ 4) : (DE j).length ≤ 4 := by unfold DE; rw [List.length_take]; omega
theorem DE_pred (j : Nat) (h : j ≠ 0) (h4 : j ≤ 4) : DE (j - 1) = DE j ++ [sg (j - 1)] := by
  match j, h, h4 with
  | 1, _, _ => rfl
  | 2, _, _ => rfl
  | 3, _, _ => rfl
  | 4, _, _ => rfl
theorem sg_notin (j : Nat) (h : j ≠ 0) (h4 : j ≤ 4) : sg (j - 1) ∉ DE j := by
  match j, h, h4 with
  | 1, _, _ => decide
  | 2, _, _ => decide
  | 3, _, _ => decide
  | 4, _, _ => decide
set_option maxRecDepth 100000 in
set_option maxHeartbeats 4000000 in
theorem build_any (w : World) (rb ob cap : Nat) (d s : Int) (r : Value) (hR : RepAt w rb d s r (.slice (some ⟨ob, 0, none⟩) 8 cap)) (hO : OldAt w ob) (hcap : 8 ≤ cap) (hc2 : cap ≤ maxLen) :
    Calls Try.prog 40 #[.pointer (some ⟨rb, 0, none⟩)] w fun e w' => ∃ g, e = .returned (.iface 109 (.pointer (some ⟨g, 0, none⟩))) ∧ TabAt w' w.heap.size g (DE 0) (DE 0) ∧ Below w.heap.size w w' := by
  unfold maxLen at hc2
  have HR := Lib.hid hR
  have hmk := made4
  have hnl := fun (w : World) (a : Option Addr) (n c n' c' : Nat) => Lib.run_eql_slice_nil (P := Try.prog) w 32 5 a n c n' c' Try.underlying32
  obtain ⟨i0, hi, hz0, hz1, hz2⟩ := info_parts einfo_str
  have HI := Lib.hid hi
  have HZ0 := Lib.hid hz0
  have HZ1 := Lib.hid hz1
  have HZ2 := Lib.hid hz2
  clear hi hz0 hz1 hz2
  have HO := Lib.hid hO
  have cr : w.cell? ⟨rb, 4, none⟩ = some (.slice (some ⟨ob, 0, none⟩) 8 cap) := by rw [cell_of_row w rb 4 _ _ _ hR]; rfl
  clear hR hO
  go_enter Try.func40, Try.ntmps40
  go_wp2_with fail
  go_loop [5, 4] (fun i al => ∃ m k : Nat, k ≤ 4 ∧ i = .int .i64 (m : Int) ∧ Hid (m = 2 * k) ∧ al = .bool (decide (k = 0))) (fun i _ => 8 - (intOf i).toNat)
  case atStart => exact ⟨0, 0, by omega, rfl, Lib.hid rfl, rfl⟩
  case round =>
    obtain ⟨m, k, hk, rfl, hm, rfl⟩ := hrel
    by_cases h4 : k < 4
    · have hm8 : m < 8 := by have := hm.out; omega
      obtain ⟨c1, c2⟩ := HO.out k h4
      rw [← hm.out] at c1 c2
      unfold sv at c1 c2
      have b1 : (0 : Int) ≤ m := by omega
      have b2 : (m : Int) < 8 := by omega
      have b3 : (m : Int) + 1 < 8 := by have := hm.out; omega
      go_wp2_with fail
      go_round
      case rel => exact ⟨m + 2, k + 1, by omega, by go_num, Lib.hid (by have := hm.out; omega), by simp⟩
      case measure => simp [intOf]; omega
    · obtain rfl : k = 4 := by omega
      obtain rfl : m = 8 := by have := hm.out; omega
      go_upto_region 26 with fail
      go_wp2_with first
        | ((with_reducible refine wpList_at (.build 108 #[(1, .tmp 94)]) rfl ?_); go_loud (refine wpList_buildZ rfl 108 1 (.tmp 94) rfl _ _ rfl (build_bsr _ _ _) ?_))
        | ((with_reducible refine wpList_at (.alloc 108) rfl ?_); go_loud (refine wpList_allocZ rfl 108 rfl tabZ zero_bsr ?_))
        | ((with_reducible refine wpList_at (.store 108 (.tmp 11) (.tmp 95)) rfl ?_); go_loud (refine wpList_storeZ rfl 108 _ _ rfl tabZ (tabC (.slice (some ⟨w.heap.size, 0, none⟩) 0 4)) _ rfl rfl rfl (by rw [tabC_size]; exact info_bsr) (by rw [tabZ_size, tabC_size]) (tabC_one _ _ _) ?_))
      obtain ⟨B, hB⟩ : ∃ B, w.heap.size = B := ⟨_, rfl⟩
      rw [hB]
      obtain ⟨w1, hw1⟩ : ∃ w1, ((w.alloc (.cells #[.string ⟨#[]⟩, .string ⟨#[]⟩, .string ⟨#[]⟩, .string ⟨#[]⟩] 9)).alloc (.cells (tabC (.slice (some ⟨B, 0, none⟩) 0 4)) 108)) = w1 := ⟨_, rfl⟩
      rw [hw1]
      have HT := Lib.hid (show TabAt w1 B (B + 1) [] [] by rw [← hw1]; exact tab_new w B hB)
      have HF := Lib.hid (show Below B w w1 by rw [← hw1, ← hB]; exact ((Below.refl _ w).alloc (Nat.le_refl _) _).alloc (by simp) _)
      clear hw1
      go_loopw [12] (fun i wr => ∃ (n : Int) (j : Nat), j ≤ 4 ∧ i = .int .i64 n ∧ Hid (n = 2 * (j : Int) - 2) ∧ Hid (TabAt wr B (B + 1) (DE j) (DE j)) ∧ Hid (Below B w wr)) (fun i _ => (intOf i + 2).toNat)
      case atStart => exact ⟨6, 4, by omega, rfl, Lib.hid rfl, HT, HF⟩
      case round =>
        obtain ⟨n, j, hj, rfl, hn, HT', HF'⟩ := hrel
        by_cases h0 : j = 0
        · subst h0
          have hn' : n = -2 := by rw [hn.out]; rfl
          subst hn'
          go_wp2_with fail
          go_ret
          exact ⟨_, rfl, by rw [hB]; exact HT'.out, by rw [hB]; exact HF'.out⟩
        · obtain ⟨m, hm⟩ : ∃ m : Nat, n = (m : Int) := ⟨(n.toNat), by have := hn.out; omega⟩
          subst hm
          have hmj : m = 2 * (j - 1) := by have := hn.out; omega
          obtain ⟨c, hc⟩ : ∃ c, sg (j - 1) = c := ⟨_, rfl⟩
          obtain ⟨c1, c2⟩ := HO.out (j - 1) (by omega)
          rw [← hmj, hc] at c1 c2
          have hob : ob < B := by rw [← hB]; exact cell_lt' c1
          have e1 := (HF'.out.cell (p := ⟨ob, m, none⟩) hob).trans c1
          have e2 := (HF'.out.cell (p := ⟨ob, m + 1, none⟩) hob).trans c2
          unfold sv at e1 e2
          clear c1 c2
          have b1 : (0 : Int) ≤ m := by omega
          have b2 : (m : Int) < 8 := by omega
          have b3 : (m : Int) + 1 < 8 := by omega
          have hcd : c ∉ DE j := by rw [← hc]; exact sg_notin j (by omega) hj
          have hcn := c.toNat_lt
          obtain ⟨C, tv, hX⟩ := HT'.out
          have k1 := (hX.cell c.toNat).trans (hX.no c hcd)
          have z1 := hX.fz c.toNat
          have k2 := (hX.cell 256).trans hX.at_
          have z2 := hX.fz 256
          obtain ⟨cn, hcn'⟩ : ∃ cn, c.toNat = cn := ⟨_, rfl⟩
          have HCN := Lib.hid hcn'
          rw [hcn'] at k1 z1 hcn
          have hq : ((⟨#[c]⟩ : ByteArray)[0]'(Nat.zero_lt_one)).toNat = cn := hcn'
          have b4 : (0 : Int) ≤ cn := by omega
          have b5 : (cn : Int) < 256 := by omega
          have HX := Lib.hid hX
          have HC := Lib.hid hc
          have HMJ := Lib.hid hmj
          clear hX hc hcd hmj hcn'
          have hgl := HX.out.lt
          have hBw : B ≤ wr.heap.size := by omega
          have hcv : (convert 32 9 (.slice (some ⟨wr.heap.size, 0, none⟩) 1 1)).run Try.prog (wr.alloc (.cells #[.int .u8 cn] 5)) = .ok (.string ⟨#[c]⟩) (wr.alloc (.cells #[.int .u8 cn] 5)) := conv_oneR wr c cn HCN.out
          have hown := HX.out.own
          have hng := HX.out.neg
          have HOWN := Lib.hid hown
          have HNG := Lib.hid hng
          have HEL := Lib.hid (DE_len j hj)
          clear hown hng
          go_upto_region 34 with ((with_reducible refine wpList_at (.call { callee := .builtin .append, args := #[.tmp 119, .tmp 123], argTypes := #[38, 38] }) rfl ?_); go_loud (refine wpList_append_own_at _ rfl _ _ 38 rfl B 9 i0 (.string ⟨#[]⟩) 1 16 Try.underlying38 HI.out HZ0.out HZ1.out HZ2.out rfl (by decide) _ _ _ rfl ((HOWN.out.alloc _).alloc _) ⟨wr.heap.size + 1, 0, none⟩ 1 1 [.string ⟨#[c]⟩] rfl rfl (cell_one_new2 _ _ _ _) (by simp [Value.oneCell']) (by have := HEL.out; unfold maxLen; omega) (by have := HEL.out; omega) (by simp; omega) ?_); intro tv' w1 ho' hg' _ hk'; have HG1 : Hid (((wr.alloc (.cells #[.int .u8 cn] 5)).alloc (.cells #[.string ⟨#[c]⟩] 9)).grownBy w1 tv.ownBlock) := hg'; have HK1 : Hid (tv'.ownBlock = tv.ownBlock ∨ tv'.ownBlock = some (wr.heap.size + 2)) := Lib.hid (by rcases hk' with h | h; exact .inl h; (right; rw [h]; simp)); have hea := blk_ag2 HG1.out hgl HNG.out; have k2' := (cell_ag hea).trans k2; have z2' := (fz_ag hea).trans z2; have hs1 := hg'.size; simp at hs1; have HO1 := Lib.hid ho'; obtain ⟨tg, tc, _, rfl, _⟩ := own_form ho' (by omega) (by omega); clear ho' hg' hk' hea)
          obtain ⟨wq, hwq⟩ : ∃ wq, w1.setCell ⟨B + 1, 256, none⟩ (.slice (some ⟨tg, 0, none⟩) ((DE j).length + 1) tc) = wq := ⟨_, rfl⟩
          have HXQ := Lib.hid (show TabX wq B (B + 1) (DE j) (DE j ++ [c]) _ _ by rw [← hwq]; exact HX.out.app (by omega) (fun k hk hn => blk_ag2 HG1.out hk hn) HO1.out (by rcases HK1.out with h | h; exact .inl h; exact .inr ⟨_, h, by omega⟩))
          have HFQ := Lib.hid (show Below B wr wq by rw [← hwq]; exact ((((Below.refl B wr).alloc hBw _).alloc (by simp; omega) _).grown HG1.out (by simp; omega) (fun k hk => (own_lt HOWN.out hk).1)).setCell (by simp) _)
          have HF2 := Lib.hid (HF'.out.trans HFQ.out)
          rw [hwq]
          have hsq := HFQ.out.size
          clear k1 z1 k2 z2 k2' z2' e1 e2 hcv hwq HG1 HK1 HO1 hs1
          have hgq := HXQ.out.lt
          have hcl := (HXQ.out.cell c.toNat).trans (HXQ.out.no c (by rw [← HC.out]; exact sg_notin j (by omega) hj))
          have hzl := HXQ.out.fz c.toNat
          rw [HCN.out] at hcl hzl
          obtain ⟨wb, hwb⟩ : ∃ wb, Lib.bytesWorld wq 5 ⟨#[63, c]⟩ = wb := ⟨_, rfl⟩
          have hcb := Lib.run_convert_string_bytes (P := Try.prog) wq 9 32 5 ⟨#[63, c]⟩ Try.underlying9 Try.underlying32 Try.underlying5
          have hs2 : (⟨#[63, c]⟩ : ByteArray).size = 2 := rfl
          have hca := grownCap_ge wq 2 0 5
          have hcm := grownCap_le_maxLen wq 2 0 5 (by unfold maxLen; omega)
          rw [hwb, hs2] at hcb
          obtain ⟨cp, hcp⟩ : ∃ cp, grownCap wq 2 0 5 = cp := ⟨_, rfl⟩
          rw [hcp] at hcb hca hcm
          have hol : ∀ k, k < wq.heap.size → wb.heap[k]? = wq.heap[k]? := fun k hk => by rw [← hwb]; exact Lib.bytesWorld_at_old _ _ _ _ hk
          have hwbs : wb.heap.size = wq.heap.size + 1 := by rw [← hwb]; exact Lib.bytesWorld_size _ _ _
          have k3 := (cell_ag (hol (B + 1) hgq)).trans hcl
          have z3 := (fz_ag (hol (B + 1) hgq)).trans hzl
          have HFB := Lib.hid (show Below B wq wb from ⟨by rw [← hwb]; rfl, by rw [← hwb]; rfl, by rw [← hwb]; rfl, by omega, fun k hk => hol k (by omega)⟩)
          have HB0 := Lib.hid (show wb.cell? ⟨wq.heap.size, 0, none⟩ = some (bv 63) by rw [← hwb]; exact Lib.bytesWorld_cell wq 5 ⟨#[63, c]⟩ 0 (Nat.zero_lt_succ _))
          have HB1 := Lib.hid (show wb.cell? ⟨wq.heap.size, 1, none⟩ = some (bv c) by rw [← hwb]; exact Lib.bytesWorld_cell wq 5 ⟨#[63, c]⟩ 1 (Nat.lt_succ_self _))
          have HOL := Lib.hid hol
          have HWBS := Lib.hid hwbs
          clear hwb hcp hol hcl hzl hs2
          go_wp2_with fail
          go_roundw
          case rel =>
            have hmj := HMJ.out
            have e := DE_pred j h0 hj
            rw [HC.out] at e
            have hp := HXQ.out.put (c := c) HOL.out rfl (by omega) HB0.out HB1.out hca hcm
            rw [HCN.out, ← e] at hp
            exact ⟨(m : Int) - 2, j - 1, by omega, rfl, Lib.hid (by omega), Lib.hid ⟨_, _, hp⟩, Lib.hid ((HF2.out.trans HFB.out).setCell (by simp) _)⟩
          case measure => simp only [intOf]; omega
end Go.Proofs.Ytpfkmklhfafkiaa
