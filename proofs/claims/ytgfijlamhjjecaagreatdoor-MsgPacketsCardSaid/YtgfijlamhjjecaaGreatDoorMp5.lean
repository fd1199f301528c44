/-
  Texts EdiY6, EdiY7, EdiY8, EdiZ1, EdiA2, WrapV, EdiA3, WrapD, NumP, MsgP, MsgM, one behind the other. No condition beyond those stated in each.
-/
import Derived.Test.YtgfijlamhjjecaaGreatDoorMp4
import Derived.Deep.CutBlock
import Derived.Deep.DeepCutAuto
import Derived.Test.YtgfijlamhjjecaaGreatDoorMp1
import Derived.Lib.Walk
import Derived.Lib.AppendStr
import Derived.Lib.Join
import Derived.Lib.UnsafeStr
import Derived.Laws.Externs
import Derived.Test.YtgfijlamhjjecaaGreatDoorEdiShelf
import Derived.Lib.AppendIntMem
import Derived.Lib.LaidTab
import Derived.Lib.AtoiErrMem
import Derived.BigQuiet
import Derived.Lib.ParseIntBCases
/-
  EdiY6: contract of (*byteStringReplacer).Replace at the four signs. No condition beyond those stated.
-/
namespace Go.Proofs.YtgfijlamhjjecaaGreatDoor
open Go.RowKit
theorem makeBytes_rowE (n : Nat) : madeCells #[.int .u8 0] n = rowA n fun _ => 0 := by
  apply Array.ext_getElem?
  intro j
  by_cases hj : j < n
  · rw [rowA_get _ hj]
    simp only [madeCells, Array.getElem?_map]
    rw [Array.getElem?_eq_getElem (by simpa using hj)]
    simp [Nat.mod_one, bv]
  · rw [Array.getElem?_eq_none (by simp [madeCells]; omega), Array.getElem?_eq_none (by rw [rowA_size]; omega)]
/-- make of bytes -/
theorem make_bytesE (n : Nat) (hn : n ≤ 140737488355328) (u : World) : (Instr.makeSlice 72 (.int .i64 (n : Int)) (.int .i64 (n : Int))).run Tryz.prog u = .ok (.slice (some ⟨u.heap.size, 0, none⟩) n n) (u.alloc (.cells (rowA n fun _ => 0) 5)) := by
  obtain ⟨i0, hi, hz0, hz1, hz2⟩ := info_parts einfo_u8
  have h := run_make (P := Tryz.prog) u 72 5 i0 _ Tryz.underlying72 hi hz0 .i64 .i64 (n : Int) (n : Int) (by omega) (Int.le_refl _) (by rw [hz2]; omega) (by omega)
  rw [h, hz1]
  simp only [Int.toNat_natCast, Value.cells, Nat.mul_one, makeBytes_rowE]
/-- what has been written when k bytes are done -/
def outF (l : Str) (k : Nat) : Sec := fun j => (compT (l.take k)).getD j 0
theorem outF_fit (l : Str) (k' : Nat) : (compT (l.take k')).length ≤ l.length + sgN l := by
  rw [compT_len]
  have := sgN_take_mono l k'
  have : (l.take k').length ≤ l.length := by rw [List.length_take]; omega
  omega
theorem outF_set (l : Str) (k j n : Nat) (c : UInt8) (hj : j = (compT (l.take k)).length) (hc : compT (l.take (k + 1)) = compT (l.take k) ++ [c]) (hn : j < n) : (rowA n (outF l k)).setIfInBounds j (.int .u8 (c.toNat : Int)) = rowA n (outF l (k + 1)) := by
  apply Array.ext_getElem?
  intro i
  by_cases hi : i < n
  · rw [rowA_get _ hi]
    by_cases e : i = j
    · subst e
      rw [Array.getElem?_setIfInBounds_self_of_lt (by rw [rowA_size]; exact hi)]
      unfold outF; rw [hc, hj]; simp [bv]
    · rw [Array.getElem?_setIfInBounds_ne (by omega), rowA_get _ hi]
      unfold outF; rw [hc]
      congr 2
      by_cases h2 : i < j
      · simp only [List.getD_eq_getElem?_getD]; rw [List.getElem?_append_left (by omega)]
      · simp only [List.getD_eq_getElem?_getD]; rw [List.getElem?_append_right (by omega), List.getElem?_eq_none (by omega), List.getElem?_eq_none (by simp; omega)]
  · rw [Array.getElem?_eq_none (by simp [rowA_size]; omega), Array.getElem?_eq_none (by rw [rowA_size]; omega)]
theorem copy2 {l : Str} {k j n : Nat} {c : UInt8} (hj : j = (compT (l.take k)).length) (hc : compT (l.take (k + 1)) = compT (l.take k) ++ [63, c]) (_hn : j + 2 ≤ n) : rowA n (splF (outF l k) j 2 (fun i => ([63, c] : Str).getD i 0)) = rowA n (outF l (k + 1)) := by
  apply rowA_congr
  intro i hi
  unfold splF outF
  rw [hc]
  simp only [List.getD_eq_getElem?_getD]
  by_cases h : j ≤ i ∧ i < j + 2
  · rw [if_pos h, List.getElem?_append_right (by omega), ← hj]
  · rw [if_neg h]
    by_cases h2 : i < j
    · rw [List.getElem?_append_left (by omega)]
    · rw [List.getElem?_append_right (by omega), List.getElem?_eq_none (by omega), List.getElem?_eq_none (by simp; omega)]
theorem row2_at (w : World) (b : Nat) (c : UInt8) (h0 : w.cell? ⟨b, 0, none⟩ = some (bv 63)) (h1 : w.cell? ⟨b, 1, none⟩ = some (bv c)) : ∀ j v, (rowL 2 (fun i => ([63, c] : Str).getD i 0))[j]? = some v → w.cell? ((⟨b, 0, none⟩ : Addr).add j) = some v := by
  intro j v hv
  rw [Addr.add_mid, Nat.zero_add]
  have hj : j < 2 := by have := (List.getElem?_eq_some_iff.1 hv).1; rwa [rowL_length] at this
  rw [rowL_get _ hj] at hv
  match j, hj with
  | 0, _ => rw [h0]; exact hv
  | 1, _ => rw [h1]; exact hv
theorem getD_mem (k : Nat) (h : k < 4) : (DE 0).getD k 0 ∈ DE 0 := by
  match k, h with
  | 0, _ => decide
  | 1, _ => decide
  | 2, _ => decide
  | 3, _ => decide
set_option maxRecDepth 100000 in
set_option maxHeartbeats 4000000 in
theorem bsr_any (w : World) (g : Nat) (s : ByteArray) (h : FullAt w g) (hs : s.size ≤ 1048576) :
    Calls Tryz.prog 257 #[.pointer (some ⟨g, 0, none⟩), .string s] w fun e w' => e = .returned (sv (compT s.data.toList)) ∧ Below w.heap.size w w' := by
  obtain ⟨l, hl⟩ : ∃ l, s.data.toList = l := ⟨_, rfl⟩
  have hll : l.length = s.size := by rw [← hl]; simp
  have HL := Lib.hid hl
  have HLL := Lib.hid hll
  have HFU := Lib.hid h
  have hnl := fun (w : World) (a : Option Addr) (n c n' c' : Nat) => run_neq_slice_nil_any (P := Tryz.prog) w 72 5 a n c n' c' Tryz.underlying72
  obtain ⟨nb, cap, k0, hc4, hcm, hnm⟩ := h.names
  have HNM := Lib.hid hnm
  have hsn := sgN_le l
  rw [hll] at hsn
  rw [hl]
  clear hl hll h hnm
  go_enter Tryz.func257, Tryz.ntmps257
  go_upto_if 26 with fail
  obtain ⟨d32, hd32⟩ : ∃ d, decide ((32 : Int) ≤ (s.size : Int)) = d := ⟨_, rfl⟩
  rw [hd32]
  clear hd32
  go_cut [5, 6] (fun ns ac wx => ns = .int .i64 ((s.size + sgN l : Nat) : Int) ∧ ac = .bool (decide (0 < sgN l)) ∧ Hid (wx.heap = w.heap) ∧ Hid (Below w.heap.size w wx))
  case first =>
    cases d32
    rotate_left
    · go_wp2_with fail
      go_loopw [5, 6, 32] (fun ns ac i wr => ∃ (k N : Nat) (a : Bool), k ≤ 4 ∧ i = .int .i64 (k : Int) ∧ ns = .int .i64 (N : Int) ∧ ac = .bool a ∧ Hid (N = s.size + cntD l k) ∧ Hid (a = decide (0 < cntD l k)) ∧ Hid (wr.heap = w.heap) ∧ Hid (Below w.heap.size w wr)) (fun _ _ i _ => 4 - (intOf i).toNat)
      case atStart => exact ⟨0, s.size, false, by omega, rfl, rfl, rfl, Lib.hid (by simp [cntD]), Lib.hid (by simp [cntD]), Lib.hid rfl, Lib.hid (Below.refl _ _)⟩
      case round =>
        obtain ⟨k, N, a, hk, rfl, rfl, rfl, HN, HA, HW, HBE⟩ := hrel
        by_cases h4 : k < 4
        · obtain ⟨c, hc⟩ : ∃ c, (DE 0).getD k 0 = c := ⟨_, rfl⟩
          have hcell : wr.cell? ⟨nb, k, none⟩ = some (.string ⟨#[c]⟩) := by
            have := HNM.out k h4
            rw [hc] at this
            exact (cell_ag (by rw [HW.out])).trans this
          have b1 : (0 : Int) ≤ k := by omega
          have b2 : (k : Int) < 4 := by omega
          have hsg : signB c = true := (mem_DE c).1 (by rw [← hc]; exact getD_mem k h4)
          obtain ⟨b, cap2, y1, y2, y3, _⟩ := HFU.out.yes hsg
          have y1' := (cell_ag (g := g) (j := c.toNat) (by rw [HW.out])).trans y1
          obtain ⟨cn, hcn⟩ : ∃ cn, c.toNat = cn := ⟨_, rfl⟩
          have hq : ((⟨#[c]⟩ : ByteArray)[0]'(Nat.zero_lt_one)).toNat = cn := hcn
          have hc256 := c.toNat_lt
          rw [hcn] at y1' hc256
          have b3 : (0 : Int) ≤ cn := by omega
          have b4 : (cn : Int) < 256 := by omega
          have HCO := Lib.hid (fun w => Tryz.strings_Count_one s c w)
          have hml : l.count c ≤ l.length := List.count_le_length
          have hcs := cntD_succ l k h4
          rw [hc] at hcs
          have HCS := Lib.hid hcs
          rw [HL.out] at HCO
          obtain ⟨m, hm⟩ : ∃ m, Lib.countByte l c = m := ⟨_, rfl⟩
          have hm' : l.count c = m := hm
          rw [HLL.out, hm'] at hml
          rw [hm] at HCO
          rw [hm'] at HCS
          have hNle : N ≤ s.size + s.size := by have h1 := HN.out; have h2 := cntD_mono l k hk; omega
          clear y1 hcn hc hm hm' hsg hcs
          by_cases hm0 : m = 0
          · subst hm0
            go_wp2_with (go_at_call 259; refine (HCO.out _).mono ?_; rintro e w' ⟨rfl, rfl⟩)
            go_roundw
            case rel =>
              have h1 := HCS.out
              rw [Nat.add_zero] at h1
              exact ⟨k + 1, N, a, by omega, by go_num, rfl, rfl, Lib.hid (by rw [h1]; exact HN.out), Lib.hid (by rw [h1]; exact HA.out), HW, HBE⟩
            case measure => simp [intOf]; omega
          · have hm1 : ((m : Int) != 0) = true := by simp; omega
            have w1 : IntKind.i64.wrap ((m : Int) * 1) = (m : Int) := by rw [Int.mul_one]; exact IntWalk.i64_in _ (by omega)
            have w2 : IntKind.i64.wrap ((N : Int) + (m : Int)) = (N : Int) + (m : Int) := IntWalk.i64_in _ (by omega)
            go_upto_region 9 with (go_at_call 259; refine (HCO.out _).mono ?_; rintro e w' ⟨rfl, rfl⟩)
            go_quiet (fail)
            go_wp2_with fail
            go_roundw
            case rel =>
              have h1 := HCS.out
              exact ⟨k + 1, N + m, true, by omega, by go_num, by go_num, rfl, Lib.hid (by rw [h1, HN.out]; omega), Lib.hid (by rw [h1]; symm; rw [decide_eq_true_eq]; omega), Lib.hid HW.out, Lib.hid (HBE.out.trans ⟨rfl, rfl, rfl, Nat.le_refl _, fun _ _ => rfl⟩)⟩
            case measure => simp [intOf]; omega
        · obtain rfl : k = 4 := by omega
          have hNe : s.size + sgN l = N := by rw [HN.out, cntD_four]
          have hAe : decide (0 < sgN l) = a := by rw [HA.out, cntD_four]
          have HNE := Lib.hid hNe
          have HAE := Lib.hid hAe
          clear hNe hAe
          go_wp2_with fail
          go_meet
          case rel => exact ⟨by rw [HNE.out], by rw [HAE.out], HW, HBE⟩
    · go_wp2_with fail
      go_loopw [5, 6, 10] (fun ns ac i wr => ∃ (k N : Nat) (a : Bool), k ≤ s.size ∧ i = .int .i64 (k : Int) ∧ ns = .int .i64 (N : Int) ∧ ac = .bool a ∧ Hid (N = s.size + sgN (l.take k)) ∧ Hid (a = decide (0 < sgN (l.take k))) ∧ wr = w) (fun _ _ i _ => s.size - (intOf i).toNat)
      case atStart => exact ⟨0, s.size, false, by omega, rfl, rfl, rfl, Lib.hid (by simp [sgN]), Lib.hid (by simp [sgN]), rfl⟩
      case round =>
        obtain ⟨k, N, a, hk, rfl, rfl, rfl, HN, HA, rfl⟩ := hrel
        by_cases hlt : k < s.size
        · obtain ⟨c, hc⟩ : ∃ c, s[k]'hlt = c := ⟨_, rfl⟩
          have hcl : l[k]? = some c := by rw [← HL.out, ← hc]; exact at_byte s _ hlt
          have hsu := sgN_take hcl
          have hle := sgN_take_le l k
          have hN := HN.out
          obtain ⟨cn, hcn⟩ : ∃ cn, c.toNat = cn := ⟨_, rfl⟩
          have hc256 := c.toNat_lt
          have hq : (s[k]'hlt).toNat = cn := by rw [hc]; exact hcn
          rw [hcn] at hc256
          have b3 : (0 : Int) ≤ cn := by omega
          have b4 : (cn : Int) < 256 := by omega
          have hNle : N ≤ s.size + s.size := by rw [HLL.out] at hle; omega
          cases hsb : signB c with
          | true =>
            obtain ⟨b, cap2, y1, y2, y3, _⟩ := HFU.out.yes hsb
            rw [hcn] at y1
            rw [hsb, if_pos rfl] at hsu
            have HSU := Lib.hid hsu
            clear hsu hN hc hcl hcn hsb
            go_wp2_with fail
            go_roundw
            case rel =>
              have h1 := HSU.out
              exact ⟨k + 1, N + 1, true, by omega, by go_num, by go_num, rfl, Lib.hid (by rw [h1, HN.out]; omega), Lib.hid (by rw [h1]; symm; rw [decide_eq_true_eq]; omega), trivial⟩
            case measure => simp [intOf]; omega
          | false =>
            have y1 := HFU.out.no hsb
            rw [hcn] at y1
            rw [hsb, if_neg (by simp), Nat.add_zero] at hsu
            have HSU := Lib.hid hsu
            clear hsu hN hc hcl hcn hsb
            go_wp2_with fail
            go_roundw
            case rel =>
              have h1 := HSU.out
              exact ⟨k + 1, N, a, by omega, by go_num, rfl, rfl, Lib.hid (by rw [h1]; exact HN.out), Lib.hid (by rw [h1]; exact HA.out), trivial⟩
            case measure => simp [intOf]; omega
        · obtain rfl : k = s.size := by omega
          have e : l.take s.size = l := List.take_of_length_le (by rw [HLL.out]; exact Nat.le_refl _)
          have hN := HN.out
          have hA := HA.out
          rw [e] at hN hA
          have HNE := Lib.hid hN
          have HAE := Lib.hid hA
          clear hN hA e
          go_wp2_with fail
          go_meet
          case rel => exact ⟨by rw [HNE.out], by rw [HAE.out], Lib.hid rfl, Lib.hid (Below.refl _ _)⟩
  case rest =>
    obtain ⟨rfl, rfl, hh, hb⟩ := hcut
    have HFU2 := Lib.hid (HFU.out.cong (w' := wc) (fun k _ => by rw [hh.out]))
    obtain ⟨n, hn⟩ : ∃ n, s.size + sgN l = n := ⟨_, rfl⟩
    have hn2 : n ≤ 2097152 := by omega
    have HNN := Lib.hid hn
    rw [hn]
    clear k0 HNM hc4 hcm hn
    obtain ⟨A, hA⟩ : ∃ A, decide (0 < sgN l) = A := ⟨_, rfl⟩
    rw [hA]
    by_cases hz : sgN l = 0
    · have hz2 : A = false := by rw [← hA, decide_eq_false_iff_not]; omega
      subst hz2
      clear hA
      have HZ := Lib.hid (compT_same hz)
      clear hz
      go_wp2_with fail
      go_ret
      exact ⟨by rw [HZ.out, ← HL.out]; rfl, hb.out⟩
    · have hz2 : A = true := by rw [← hA, decide_eq_true_eq]; omega
      subst hz2
      clear hA
      have hmk := make_bytesE n (by omega) wc
      have hws := hb.out.size
      have HSZ := Lib.hid hz
      clear hz
      go_upto_block 4 with fail
      obtain ⟨qb, hqb⟩ : ∃ qb, wc.heap.size = qb := ⟨_, rfl⟩
      obtain ⟨w1, hw1⟩ : ∃ w1, wc.alloc (.cells (rowA n fun _ => 0) 5) = w1 := ⟨_, rfl⟩
      have HR1 := Lib.hid (show w1.heap[qb]? = some (.cells (rowA n (outF l 0)) 5 (0, 0)) by rw [← hw1, ← hqb]; exact heap_alloc_new _ _)
      have HO1 := Lib.hid (show ∀ k, k < qb → w1.heap[k]? = wc.heap[k]? by rw [← hw1, ← hqb]; exact fun k hk => Below.heap_alloc _ _ _ hk)
      have HB1 := Lib.hid (show Below w.heap.size w w1 by rw [← hw1]; exact hb.out.alloc hws _)
      rw [hqb] at hws
      have HQB := Lib.hid hqb
      rw [hqb, hw1]
      clear hqb hw1 hmk
      have hgq : g < qb := by rw [← HQB.out]; exact HFU2.out.lt
      go_wp2_with fail
      go_loopw [13, 14] (fun js i wr => ∃ (k j : Nat), k ≤ s.size ∧ i = .int .i64 (k : Int) ∧ js = .int .i64 (j : Int) ∧ Hid (j = (compT (l.take k)).length) ∧ Hid (wr.heap[qb]? = some (.cells (rowA n (outF l k)) 5 (0, 0))) ∧ Hid (∀ k, k < qb → wr.heap[k]? = wc.heap[k]?) ∧ Hid (Below w.heap.size w wr)) (fun _ i _ => s.size - (intOf i).toNat)
      case atStart => exact ⟨0, 0, by omega, rfl, rfl, Lib.hid rfl, HR1, HO1, HB1⟩
      case round =>
        obtain ⟨k, j, hk, rfl, rfl, HJ, HR, HO, HBE⟩ := hrel
        clear HR1 HO1 HB1
        by_cases hlt : k < s.size
        · obtain ⟨c, hc⟩ : ∃ c, s[k]'hlt = c := ⟨_, rfl⟩
          have hcl : l[k]? = some c := by rw [← HL.out, ← hc]; exact at_byte s _ hlt
          have hct := compT_take hcl
          have hnl := outF_fit l
          rw [HLL.out, HNN.out] at hnl
          have hjn := hnl (k + 1)
          rw [hct, List.length_append, ← HJ.out] at hjn
          clear hnl
          obtain ⟨cn, hcn⟩ : ∃ cn, c.toNat = cn := ⟨_, rfl⟩
          have hc256 := c.toNat_lt
          have hq : (s[k]'hlt).toNat = cn := by rw [hc]; exact hcn
          rw [hcn] at hc256
          have b3 : (0 : Int) ≤ cn := by omega
          have b4 : (cn : Int) < 256 := by omega
          have HCT := Lib.hid hct
          cases hsb : signB c with
          | true =>
            obtain ⟨b, cap2, y0, y2, y3, y4, y5⟩ := HFU2.out.yes hsb
            have y1 := (cell_ag (HO.out g hgq)).trans y0
            rw [hcn] at y1
            have he : escB c = [63, c] := by unfold escB; rw [hsb]; rfl
            rw [he] at hjn
            have hjn' : j + 2 ≤ n := by simp at hjn; omega
            have hbq : b < qb := by rw [← HQB.out]; exact cell_lt' y4
            have y4' := (cell_ag (HO.out b hbq)).trans y4
            have y5' := (cell_ag (HO.out b hbq)).trans y5
            have b5 : (0 : Int) ≤ j := by omega
            have b6 : (j : Int) ≤ n := by omega
            have b7 : (j : Int) < n := by omega
            have b8 : ¬ n = j := by omega
            have HN := Lib.hid (copy2 (n := n) HJ.out (by rw [HCT.out, he]) hjn')
            have HJ2 := Lib.hid (show j + 2 = (compT (l.take (k + 1))).length by rw [HCT.out, he, List.length_append, ← HJ.out]; rfl)
            have HSR := Lib.hid (row2_at wr b c y4' y5')
            have w2 : IntKind.i64.wrap ((j : Int) + 2) = (j : Int) + 2 := IntWalk.i64_in _ (by omega)
            clear hct hjn hc hcl hsb he y0 y4 y5 y4' y5'
            go_upto_region 28 with fail
            refine wp_region_plan [(0, false), (1, false), (2, false), (3, false), (4, false), (5, false), (6, false), (7, false), (8, false), (9, false), (10, true), (11, false), (12, false)] (fun w' => w'.cell? ⟨g, cn, none⟩ = some (.slice (some ⟨b, 0, none⟩) 2 cap2)) (by kernel_rfl) (by kernel_rfl) y1 ?_
            iterate 10 (refine' plan_val rfl rfl (fun w' hS => ?_) ?_; rotate_left; (focus (go_simp; rfl)); simp only [Act.put, List.setIfInBounds_toArray, List.set_cons_zero, List.set_cons_succ])
            refine plan_do rfl (fun K hK => ?_)
            refine wpList_val rfl (exec_copy (xv := .slice (some ⟨qb, j, none⟩) (n - j) (n - j)) (yv := .slice (some ⟨b, 0, none⟩) 2 cap2) rfl rfl rfl (fun ty => run_copy_bytes (P := Tryz.prog) wr.drew 72 72 5 qb j (n - j) (n - j) ⟨b, 0, none⟩ 2 cap2 n 2 (outF l k) (fun i => ([63, c] : Str).getD i 0) 5 Tryz.underlying72 (by kernel_rfl) HR.out (by show 2 = min 2 (n - j); omega) HSR.out hjn' ty)) ?_
            rw [HN.out]
            have hgq2 : g ≠ qb := by omega
            have y1'' : (wr.drew.setRow qb (rowA n (outF l (k + 1)))).cell? ⟨g, cn, none⟩ = some (.slice (some ⟨b, 0, none⟩) 2 cap2) := (cell_ag (setRow_other wr.drew qb g _ hgq2)).trans y1
            refine hK _ _ y1'' ?_
            clear hK K
            iterate 2 (refine' plan_val rfl rfl (fun w' hS => ?_) ?_; rotate_left; (focus (go_simp; rfl)); simp only [Act.put, List.setIfInBounds_toArray, List.set_cons_zero, List.set_cons_succ])
            refine plan_nil ?_
            have HR2 := Lib.hid (setRow_heap wr.drew qb (rowA n (outF l k)) (rowA n (outF l (k + 1))) _ _ HR.out)
            have HO2 := Lib.hid (show ∀ x, x < qb → (wr.drew.setRow qb (rowA n (outF l (k + 1)))).heap[x]? = wc.heap[x]? from fun x hx => (setRow_other wr.drew qb x _ (by omega)).trans (HO.out x hx))
            have HB2 := Lib.hid (show Below w.heap.size w (wr.drew.setRow qb (rowA n (outF l (k + 1)))) from HBE.out.trans ⟨rfl, rfl, rfl, by simp, fun x hx => setRow_other wr.drew qb x _ (by omega)⟩)
            clear y1'' y1
            go_wp2_with fail
            go_roundw
            case rel => exact ⟨k + 1, j + 2, by omega, by go_num, by go_num, HJ2, HR2, HO2, HB2⟩
            case measure => simp [intOf]; omega
          | false =>
            have y1 := (cell_ag (HO.out g hgq)).trans (HFU2.out.no hsb)
            rw [hcn] at y1
            have he : escB c = [c] := by unfold escB; rw [hsb]; rfl
            rw [he] at hjn
            have hjn' : j < n := by simp at hjn; omega
            have b5 : (0 : Int) ≤ j := by omega
            have b6 : (j : Int) < n := by omega
            have k1 : wr.cell? ⟨qb, j, none⟩ = some (bv (outF l k j)) := by rw [cell_of_row wr qb j _ _ _ HR.out, rowA_get _ hjn']
            have z1 := frozen_of_row wr qb j _ _ HR.out
            have HN := Lib.hid (show (wr.setCell ⟨qb, j, none⟩ (.int .u8 (cn : Int))).heap[qb]? = some (.cells (rowA n (outF l (k + 1))) 5 (0, 0)) by
              rw [heap_setCell_same wr qb j _ _ _ HR.out, ← hcn, outF_set l k j n c HJ.out (by rw [HCT.out, he]) hjn'])
            have HJ2 := Lib.hid (show j + 1 = (compT (l.take (k + 1))).length by rw [HCT.out, he, List.length_append, ← HJ.out]; rfl)
            clear hct hjn hc hcl hcn hsb he HR
            go_wp2_with fail
            go_roundw
            case rel => exact ⟨k + 1, j + 1, by omega, by go_num, by go_num, HJ2, HN, Lib.hid (fun x hx => (heap_setCell_other wr _ _ _ (by simp; omega)).trans (HO.out x hx)), Lib.hid (HBE.out.setCell (by simpa using hws) _)⟩
            case measure => simp [intOf]; omega
        · obtain rfl : k = s.size := by omega
          have e : l.take s.size = l := List.take_of_length_le (by rw [HLL.out]; exact Nat.le_refl _)
          have hR := HR.out
          unfold outF at hR
          rw [e] at hR
          have hcn : (compT l).length = n := by rw [compT_len, HLL.out, HNN.out]
          have hcv : (convert 72 9 (.slice (some ⟨qb, 0, none⟩) n n)).run Tryz.prog wr = .ok (.string ⟨(compT l).toArray⟩) wr := by
            have := run_convert_bytes_back (P := Tryz.prog) wr 72 9 5 ⟨qb, 0, none⟩ n (compT l) Tryz.underlying72 Tryz.underlying5 Tryz.underlying9 (fun j hj => by
              rw [Addr.add_mid, Nat.zero_add, cell_of_row wr qb j _ _ _ hR, rowA_get _ (by omega)]
              simp [bv, hj])
            rw [hcn] at this
            exact this
          clear hR hcn e HR
          go_wp2_with fail
          go_ret
          exact ⟨rfl, HBE.out⟩
end Go.Proofs.YtgfijlamhjjecaaGreatDoor


/-
  EdiY7: contract of (*Replacer).Replace at the four signs. No condition beyond those stated.
-/
namespace Go.Proofs.YtgfijlamhjjecaaGreatDoor
open Go.RowKit
theorem TabAt.full {w : World} {B g : Nat} (h : TabAt w B g (DE 0) (DE 0)) : FullAt w g := by
  obtain ⟨C, tv, h⟩ := h; exact ⟨B, C, tv, h⟩
theorem method_repl (a : Addr) (w : World) : (method 457 296 (.pointer (some a)) "Replace").run Tryz.prog w = .ok (257, .pointer (some a)) w := by kernel_rfl
set_option maxRecDepth 100000 in
theorem replace_any (w : World) (rb ob cap : Nat) (r : Value) (s : ByteArray) (hs : s.size ≤ 1048576) (hR : RepAt w rb 0 0 r (.slice (some ⟨ob, 0, none⟩) 8 cap)) (hO : OldAt w ob) (hne : ob ≠ rb) (hcap : 8 ≤ cap) (hc2 : cap ≤ maxLen) :
    Calls Tryz.prog 139 #[.pointer (some ⟨rb, 0, none⟩), .string s] w fun e w' => e = .returned (sv (compT s.data.toList)) ∧ Fr [rb] w w' := by
  have HD := Lib.hid (do_any w rb ob cap r hR hO hne hcap hc2)
  have hm := fun w g => method_repl ⟨g, 0, none⟩ w
  clear hR hO hc2
  go_enter Tryz.func139, Tryz.ntmps139
  go_wp2_with first | (go_at_call 257; refine HS.out.mono ?_; rintro e w2 ⟨rfl, hb2⟩; have HB2 := Lib.hid hb2; clear hb2) | (go_at_call 164; refine HD.out.mono ?_; rintro e w1 ⟨rfl, ⟨g, hr, ht⟩, hf⟩; have HT := Lib.hid ht.full; have HF := Lib.hid hf; have c3 := hr.cell 3; have HS := Lib.hid (bsr_any w1 g s HT.out hs); unfold repV at *; clear hr ht hf)
  go_ret
  exact ⟨rfl, HF.out.then_below HB2.out HF.out.size⟩
end Go.Proofs.YtgfijlamhjjecaaGreatDoor


/-
  EdiY8: contracts of the Builder's WriteString, and of join. No condition beyond those stated.
-/
namespace Go.Proofs.YtgfijlamhjjecaaGreatDoor
open Go.RowKit
theorem lies_bld : liesAt Tryz.prog Tryz.prog.depth 203 (2 / Tryz.prog.cellsOf 203) 0 203 1 = true := by kernel_rfl
theorem size_bld : (Tryz.prog.info? 203).map (·.size) = some 2 := by kernel_rfl
set_option maxRecDepth 100000 in
set_option maxHeartbeats 1000000 in
theorem copyCheck_used (b : Nat) (w : World) (h0 : w.cell? ⟨b, 0, none⟩ = some (.pointer (some ⟨b, 0, none⟩))) :
    Calls Tryz.prog 167 #[.pointer (some ⟨b, 0, none⟩)] w fun e w' => e = .returned (.tuple #[]) ∧ w' = w := by
  obtain ⟨j, hj, _⟩ := Option.map_eq_some_iff.1 size_bld
  go_enter Tryz.func167, Tryz.ntmps167
  go_wp2
  rw [Lib.run_neq_ptr_same w _ Tryz.underlying201 hj]
  go_wp2
  go_end0
  exact ⟨rfl, rfl⟩
set_option maxRecDepth 100000 in
set_option maxHeartbeats 1000000 in
theorem copyCheck_fresh (b : Nat) (w : World) (h0 : w.cell? ⟨b, 0, none⟩ = some (.pointer none)) (hsh : w.shape? b = some (203, 2)) (hfz : w.frozen? ⟨b, 0, none⟩ = false) :
    Calls Tryz.prog 167 #[.pointer (some ⟨b, 0, none⟩)] w fun e w' => e = .returned (.tuple #[]) ∧ w' = w.setCell ⟨b, 0, none⟩ (.pointer (some ⟨b, 0, none⟩)) := by
  obtain ⟨j, hj, hjs⟩ := Option.map_eq_some_iff.1 size_bld
  go_enter Tryz.func167, Tryz.ntmps167
  go_wp2
  rw [Lib.run_to_unsafe w ⟨b, 0, none⟩ Tryz.underlying201 Tryz.underlying275 hj (by rw [hjs]; decide) hsh (Nat.zero_lt_succ 1)]
  simp only [Result.andThen]
  rw [Oper.upon_value]
  go_wp2
  rw [run_callFunc_extern Tryz.func185 (by kernel_rfl) (by kernel_rfl) (by kernel_rfl) (e := Extern.AbiNoEscape.same) (by kernel_rfl)]
  rw [Lib.run_noEscape]
  simp only [Result.andThen]
  rw [Oper.upon_value]
  go_wp2
  rw [Lib.run_from_unsafe w ⟨b, 0, none⟩ Tryz.underlying275 Tryz.underlying201 hj hsh lies_bld]
  simp only [Result.andThen]
  rw [Oper.upon_value]
  go_wp2
  go_end0
  exact ⟨rfl, rfl⟩
/-- a Builder in memory, and what it holds -/
def BldAt (w : World) (B b : Nat) (l : Str) : Prop := Lib.IsBuilder 203 5 B b (Lib.byteCells l) w
theorem copyCheck_any (B b : Nat) (bs : List Value) (w : World) (h : Lib.IsBuilder 203 5 B b bs w) :
    Calls Tryz.prog 167 #[.pointer (some ⟨b, 0, none⟩)] w fun e w' => e = .returned (.tuple #[]) ∧ Lib.BuilderAt 203 5 B b (.pointer (some ⟨b, 0, none⟩)) bs w' ∧ Below B w w' := by
  rcases h with h | h
  · refine (copyCheck_fresh b w h.cell0 h.shape h.frozen0).mono ?_
    rintro e w' ⟨rfl, rfl⟩
    exact ⟨rfl, h.used _, (Below.refl _ _).setCell h.1 _⟩
  · refine (copyCheck_used b w h.cell0).mono ?_
    rintro e w' ⟨rfl, rfl⟩
    exact ⟨rfl, h, Below.refl _ _⟩
set_option maxRecDepth 100000 in
set_option maxHeartbeats 2000000 in
theorem writeString_any (B b : Nat) (l : Str) (s : ByteArray) (w : World) (h : BldAt w B b l) (hlen : l.length + s.size ≤ 140737488355328) (hBw : B ≤ w.heap.size) :
    Calls Tryz.prog 141 #[.pointer (some ⟨b, 0, none⟩), .string s] w fun e w' => e = .returned (.tuple #[.int .i64 s.size, .nilIface]) ∧ BldAt w' B b (l ++ s.data.toList) ∧ Below B w w' := by
  obtain ⟨i0, hi, hz0, hz1, hz2⟩ := info_parts einfo_u8
  have hbl : (Lib.byteCells l).length = l.length := Lib.byteCells_length l
  obtain ⟨bs, hbs⟩ : ∃ bs, Lib.byteCells l = bs := ⟨_, rfl⟩
  have HBS := Lib.hid hbs
  unfold BldAt at h ⊢
  rw [hbs] at h hbl
  have hlen' : bs.length + s.size ≤ 140737488355328 := by omega
  have HC := Lib.hid (copyCheck_any B b bs w h)
  clear hbs hbl h hlen
  go_enter Tryz.func141, Tryz.ntmps141
  go_wp2_with (go_at_call 167; refine HC.out.mono ?_)
  rintro e w1 ⟨rfl, h1, hb1⟩
  obtain ⟨hB, v, hbk, hown, hne⟩ := h1
  have c0 : w1.cell? ⟨b, 0, none⟩ = some (.pointer (some ⟨b, 0, none⟩)) := by rw [cell_of_row w1 b 0 _ _ _ hbk]; rfl
  have c1 : w1.cell? ⟨b, 1, none⟩ = some v := by rw [cell_of_row w1 b 1 _ _ _ hbk]; rfl
  go_wp2_with (at_builtin; refine Lib.wpList_append_own_string _ rfl _ _ 72 9 rfl B 5 i0 Tryz.underlying72 Tryz.underlying9 hi hz0 hz1 hz2 _ _ _ rfl hown s rfl ?c3 ?c4 ?c5 ?_)
  case c3 => unfold maxLen; omega
  case c4 => omega
  case c5 => have := hb1.size; omega
  intro v' w2 hown' hgrow _
  have hlt : b < w1.heap.size := (Array.getElem?_eq_some_iff.1 hbk).1
  have hb2 : w2.heap[b]? = some (.cells #[.pointer (some ⟨b, 0, none⟩), v] 203 (0, 0)) := by
    rw [hgrow.block b hlt (fun e => hne e.symm)]
    exact hbk
  have d0 : w2.cell? ⟨b, 0, none⟩ = some (.pointer (some ⟨b, 0, none⟩)) := by rw [cell_of_row w2 b 0 _ _ _ hb2]; rfl
  have d1 : w2.cell? ⟨b, 1, none⟩ = some v := by rw [cell_of_row w2 b 1 _ _ _ hb2]; rfl
  have f1 : w2.frozen? ⟨b, 1, none⟩ = false := frozen_of_row w2 b 1 _ _ hb2
  obtain ⟨ao, n', cap, rfl⟩ : ∃ ao n' cap, v' = .slice ao n' cap := by
    rcases hown'.2 with ⟨hv, _⟩ | ⟨g, cap, cur, hv, _⟩
    · exact ⟨_, _, _, hv⟩
    · exact ⟨_, _, _, hv⟩
  go_wp2
  go_ret2
  refine ⟨rfl, .inr ?_, ?_⟩
  · have hbe : Lib.byteCells (l ++ s.data.toList) = bs ++ Lib.strCells s := by rw [← HBS.out]; simp [Lib.byteCells, Lib.strCells]
    rw [hbe]
    exact Lib.BuilderAt.put (T := 203) (e := 5) hB hb2 (bs' := bs ++ Lib.strCells s) (by simpa [Lib.strCells_length] using hown') (by decide)
  · exact (hb1.grown hgrow (by have := hb1.size; omega) (fun k hk => (hown.lt k hk).1)).setCell (p := ⟨b, 1, none⟩) hB _
theorem joinB_eq (c : UInt8) (xs : List Str) : joinB c xs = Lib.join xs [c] := by
  cases xs with
  | nil => rfl
  | cons a l =>
    rw [joinB_cons, Lib.join_cons, Lib.joinTail, List.flatMap_def]
    rfl
set_option maxRecDepth 100000 in
theorem join_any {S : Nat → Prop} (w : World) (c : UInt8) (v : Value) (xs : List Str) (h : CompsAt S w v xs) (hN : xs.length ≤ 1048576) (hl : (joinB c xs).length ≤ 140737488355328) :
    Calls Tryz.prog 140 #[.string ⟨#[c]⟩, v] w fun e w' => e = .returned (sv (joinB c xs)) ∧ Below w.heap.size w w' := by
  obtain ⟨ao, cap, rfl, h1, h2, h3, h4⟩ := h
  rw [List.length_map] at h1 ⊢
  have HJ : Hid (Calls Tryz.prog 166 #[.slice ao xs.length cap, .string ⟨#[c]⟩] w fun e w' => e = .returned (sv (joinB c xs)) ∧ Below w.heap.size w w') := Lib.hid (by
    cases xs with
    | nil => exact (Tryz.strings_Join_none ao cap ⟨#[c]⟩ w).mono (fun e w' ⟨h, h'⟩ => ⟨h, h' ▸ Below.refl _ _⟩)
    | cons a l =>
      obtain ⟨b, off, rfl, _, hc⟩ := h4 (by simp)
      have hb : b < w.heap.size := cell_lt' (hc 0 (sv a) (by simp))
      have hm : (((a :: l).map fun s => (⟨s.toArray⟩ : ByteArray)).map (·.data.toList)) = a :: l := by rw [List.map_map]; exact List.map_id _
      have := Tryz.strings_Join b off cap ((a :: l).map fun s => ⟨s.toArray⟩) ⟨#[c]⟩ w (fun j x hx => by
        rw [List.getElem?_map, Option.map_eq_some_iff] at hx
        obtain ⟨y, hy, rfl⟩ := hx
        exact hc j (sv y) (by rw [List.getElem?_map, hy]; rfl)) hb (by simp at hN ⊢; omega) (by simpa using h1) (by rw [hm, ← joinB_eq]; exact hl)
      rw [hm, ← joinB_eq, List.length_map] at this
      exact this)
  obtain ⟨J, hJ⟩ : ∃ J, sv (joinB c xs) = J := ⟨_, rfl⟩
  rw [hJ] at HJ ⊢
  clear hJ h3 h4
  go_enter Tryz.func140, Tryz.ntmps140
  go_wp2_with (go_at_call 166; refine HJ.out.mono ?_; rintro e w1 ⟨rfl, hb⟩)
  go_ret
  exact ⟨rfl, hb⟩
end Go.Proofs.YtgfijlamhjjecaaGreatDoor


/-
  EdiZ1: words for the printer: flags by prefix, Clone, Builders that stay. No condition beyond those stated.
-/
namespace Go.Proofs.YtgfijlamhjjecaaGreatDoor
open Go.RowKit
def argE (es : List (List Str)) : Bool := es.any fun e => e.isEmpty
def signC (e : List Str) : Bool := e.any fun p => p.any badB
def signE (es : List (List Str)) : Bool := es.any signC
def longC (e : List Str) : Bool := e.any fun p => decide (256 < p.length)
def longE (es : List (List Str)) : Bool := es.any fun e => decide (8 < e.length) || longC e
def argS (s : Seg) : Bool := tagBad s.tag || argE s.elems
def longS (s : Seg) : Bool := decide (16 < s.elems.length) || longE s.elems
theorem argP_eq (l : List Seg) : argP l = l.any argS := rfl
theorem signP_eq (l : List Seg) : signP l = l.any fun s => signE s.elems := rfl
theorem longP_eq (l : List Seg) : longP l = (decide (64 < l.length) || l.any longS) := rfl
theorem any_take {α : Type} {l : List α} {k : Nat} {x : α} (f : α → Bool) (h : l[k]? = some x) : (l.take (k + 1)).any f = ((l.take k).any f || f x) := by
  rw [List.take_add_one, h]; simp [List.any_append]
theorem printT_take {l : List Seg} {k : Nat} {s : Seg} (h : l[k]? = some s) : printT (l.take (k + 1)) = printT (l.take k) ++ segT s := by
  rw [List.take_add_one, h]; simp [printT]
/-- the words of a segment, joined -/
theorem joinB_words (t : Str) (es : List (List Str)) : joinB 43 (t :: es.map elemT) ++ [39] = segT ⟨t, es⟩ := by
  unfold segT
  rw [joinB_cons, List.flatMap_map]
theorem map_take_succ {α β : Type} {l : List α} {k : Nat} {x : α} (f : α → β) (h : l[k]? = some x) : (l.take (k + 1)).map f = (l.take k).map f ++ [f x] := by
  rw [List.take_add_one, h]; simp
/-- parts when i of them are done -/
def partsL (e : List Str) (i : Nat) : List Str := (e.take i).map compT ++ e.drop i
theorem partsL_all (e : List Str) : partsL e e.length = e.map compT := by unfold partsL; rw [List.take_length, List.drop_length, List.append_nil]
theorem partsL_len (e : List Str) (i : Nat) : (partsL e i).length = e.length := by unfold partsL; rw [List.length_append, List.length_map, ← List.length_append, List.take_append_drop]
theorem partsL_get {e : List Str} {i : Nat} {p : Str} (h : e[i]? = some p) : (partsL e i)[i]? = some p := by
  have hi : i < e.length := (List.getElem?_eq_some_iff.1 h).1
  unfold partsL
  rw [List.getElem?_append_right (by simp; omega), List.getElem?_drop]
  simp
  rw [show i + (i - min i e.length) = i by omega]; exact h
theorem partsL_set {e : List Str} {i : Nat} {p : Str} (h : e[i]? = some p) : (partsL e i).set i (compT p) = partsL e (i + 1) := by
  have hi : i < e.length := (List.getElem?_eq_some_iff.1 h).1
  have hd : e.drop i = p :: e.drop (i + 1) := by
    obtain ⟨_, he⟩ := List.getElem?_eq_some_iff.1 h
    rw [List.drop_eq_getElem_cons hi, he]
  unfold partsL
  rw [map_take_succ compT h, List.set_append_right _ _ (by simp; omega), hd]
  simp [Nat.min_eq_left (Nat.le_of_lt hi)]
theorem BldAt.cong {w w' : World} {B b : Nat} {l : Str} (h : BldAt w B b l) (e : ∀ (k : Nat) (C : Array Value) (f : Nat × Nat) (t : TypeId), w.heap[k]? = some (.cells C t f) → t ≠ 9 → w'.heap[k]? = w.heap[k]?) : BldAt w' B b l := by
  have H : ∀ p, Lib.BuilderAt 203 5 B b p (Lib.byteCells l) w → Lib.BuilderAt 203 5 B b p (Lib.byteCells l) w' := fun p ⟨hB, v, hb, ho, hn⟩ => by
    refine ⟨hB, v, (e b _ _ _ hb (by decide)).trans hb, own_cong ho (fun k hk => ?_), hn⟩
    obtain ⟨C, hC, _⟩ := own_ty ho hk
    exact e k _ _ _ hC (by decide)
  rcases h with h | h
  · exact .inl (H _ h)
  · exact .inr (H _ h)
theorem BldAt.cong' {w w' : World} {B b : Nat} {l : Str} (h : BldAt w B b l) (e : ∀ k, k < w.heap.size → w'.heap[k]? = w.heap[k]?) : BldAt w' B b l := BldAt.cong h fun k _ _ _ hk _ => e k (Array.getElem?_eq_some_iff.1 hk).1
/-- slices.Clone of components -/
theorem clone_any {S : Nat → Prop} (w : World) (v : Value) (e : List Str) (h : CompsAt S w v e) (hn : e.length ≤ 1048576) :
    Calls Tryz.prog 135 #[v] w fun r w' => ∃ v', r = .returned v' ∧ w'.ownsRow w.heap.size 9 1 v' e.length (e.map sv) ∧ Below w.heap.size w w' := by
  obtain ⟨ao, cap, rfl, h1, h2, h3, h4⟩ := h
  rw [List.length_map] at h1 ⊢
  cases ao with
  | none =>
    have h0 : e.length = 0 := by have := h3 rfl; omega
    refine (Tryz.slices_Clone_string_nil e.length cap w).mono fun r w' ⟨h, h'⟩ => ?_
    subst h'
    rw [h0, List.length_eq_zero_iff.1 h0]
    exact ⟨_, h, World.ownsRow_nil _ _ _ _, Below.refl _ _⟩
  | some a =>
    cases he : e with
    | nil =>
      refine (Tryz.slices_Clone_string_zero a cap w).mono fun r w' ⟨v', h, ho, _, hb⟩ => ?_
      exact ⟨v', h, ho, hb⟩
    | cons p q =>
      obtain ⟨b, off, hab, _, hc⟩ := h4 (by rw [he]; simp)
      cases hab
      rw [← he]
      have := Tryz.slices_Clone_string b off e.length cap (e.map fun s => ⟨s.toArray⟩) w (by rw [List.length_map]; exact Nat.le_refl _) (by omega) (fun j hj => by
        rw [List.length_map] at hj
        have hx : e[j]? = some e[j] := List.getElem?_eq_getElem hj
        rw [hc j (sv e[j]) (by rw [List.getElem?_map, hx]; rfl), List.getD_eq_getElem?_getD, List.getElem?_map, hx]; rfl)
      refine this.mono fun r w' ⟨v', h, ho, _, hb⟩ => ⟨v', h, ?_, hb⟩
      rw [List.take_of_length_le (by rw [List.length_map]; exact Nat.le_refl _), List.map_map] at ho
      exact ho
end Go.Proofs.YtgfijlamhjjecaaGreatDoor


/-
  EdiA2: reading of segments in memory; contract of heavy. No condition beyond those stated.
-/
namespace Go.Proofs.YtgfijlamhjjecaaGreatDoor
open Go.RowKit
section
variable {S : Nat → Prop} {w : World}
theorem SegsAt.form {v : Value} {l : List Seg} (h : SegsAt S w v l) : ∃ ao cap, v = .slice ao l.length cap ∧ l.length ≤ cap ∧ cap ≤ maxLen := by
  obtain ⟨ao, cap, xs, rfl, h1, h2, _⟩ := h; exact ⟨ao, cap, rfl, h1, h2⟩
theorem SegsAt.get {ao : Option Addr} {n cap : Nat} {l : List Seg} (h : SegsAt S w (.slice ao n cap) l) {k : Nat} {s : Seg} (hk : l[k]? = some s) : ∃ b off x, ao = some ⟨b, off, none⟩ ∧ S b ∧ w.cell? ⟨b, off + k * 2, none⟩ = some (sv s.tag) ∧ w.cell? ⟨b, off + k * 2 + 1, none⟩ = some x ∧ ElemsAt S w x s.elems := by
  obtain ⟨_, _, xs, e, h1, h2, h3, h4, h5, h6⟩ := h
  cases e
  obtain ⟨b, off, rfl, hS, h7⟩ := h6 (by intro e; rw [e] at hk; simp at hk)
  have hlt : k < xs.length := by rw [h4]; exact (List.getElem?_eq_some_iff.1 hk).1
  have hx := List.getElem?_eq_getElem hlt
  obtain ⟨a1, a2⟩ := h7 k s _ hk hx
  exact ⟨b, off, _, rfl, hS, a1, a2, h5 k s _ hk hx⟩
theorem ElemsAt.form {v : Value} {l : List (List Str)} (h : ElemsAt S w v l) : ∃ ao cap, v = .slice ao l.length cap ∧ l.length ≤ cap ∧ cap ≤ maxLen := by
  obtain ⟨xs, ⟨ao, cap, rfl, h1, h2, _⟩, h3, _⟩ := h; exact ⟨ao, cap, by rw [h3], by omega, h2⟩
theorem ElemsAt.get {ao : Option Addr} {n cap : Nat} {l : List (List Str)} (h : ElemsAt S w (.slice ao n cap) l) {k : Nat} {e : List Str} (hk : l[k]? = some e) : ∃ b off x, ao = some ⟨b, off, none⟩ ∧ S b ∧ w.cell? ⟨b, off + k, none⟩ = some x ∧ CompsAt S w x e := by
  obtain ⟨xs, ⟨_, _, e, h1, h2, h3, h4⟩, h5, h6⟩ := h
  cases e
  have hlt : k < xs.length := by rw [h5]; exact (List.getElem?_eq_some_iff.1 hk).1
  have hx := List.getElem?_eq_getElem hlt
  obtain ⟨b, off, rfl, hS, h7⟩ := h4 (by rintro rfl; simp at hlt)
  exact ⟨b, off, _, rfl, hS, h7 k _ hx, h6 k e _ hk hx⟩
theorem CompsAt.form {v : Value} {l : List Str} (h : CompsAt S w v l) : ∃ ao cap, v = .slice ao l.length cap ∧ l.length ≤ cap ∧ cap ≤ maxLen := by
  obtain ⟨ao, cap, rfl, h1, h2, _⟩ := h
  rw [List.length_map] at h1
  exact ⟨ao, cap, by rw [List.length_map], h1, h2⟩
theorem CompsAt.get {ao : Option Addr} {n cap : Nat} {l : List Str} (h : CompsAt S w (.slice ao n cap) l) {k : Nat} {p : Str} (hk : l[k]? = some p) : ∃ b off, ao = some ⟨b, off, none⟩ ∧ S b ∧ w.cell? ⟨b, off + k, none⟩ = some (sv p) := by
  obtain ⟨_, _, e, h1, h2, h3, h4⟩ := h
  cases e
  obtain ⟨b, off, rfl, hS, h7⟩ := h4 (by intro e; rw [List.map_eq_nil_iff] at e; rw [e] at hk; simp at hk)
  exact ⟨b, off, rfl, hS, h7 k _ (by rw [List.getElem?_map, hk]; rfl)⟩
end
def bytesC (e : List Str) : Nat := (e.map List.length).sum
def bytesE (es : List (List Str)) : Nat := (es.map bytesC).sum
def bytesL (l : List Seg) : Nat := (l.map fun s => bytesE s.elems).sum
theorem sum_take {α : Type} (f : α → Nat) {l : List α} {k : Nat} {x : α} (h : l[k]? = some x) : ((l.take (k + 1)).map f).sum = ((l.take k).map f).sum + f x := by
  rw [List.take_add_one, h]; simp
/-- what is not heavy -/
structure LightS (l : List Seg) : Prop where
  n : l.length ≤ 80
  seg : ∀ s ∈ l, s.tag.length ≤ 300 ∧ s.elems.length ≤ 40
  el : ∀ s ∈ l, ∀ e ∈ s.elems, e.length ≤ 40
  bytes : bytesL l ≤ 3000
theorem joinT_le (e : List Str) : (elemT e).length ≤ 2 * bytesC e + e.length := by
  have h1 : ∀ l : List Str, (l.flatMap fun p => 58 :: compT p).length ≤ 2 * bytesC l + l.length := fun l => by
    induction l with
    | nil => simp [bytesC]
    | cons a l ih =>
      have := compT_len a
      have := sgN_le a
      simp only [List.flatMap_cons, List.length_append, List.length_cons, bytesC, List.map_cons, List.sum_cons] at ih ⊢
      omega
  cases e with
  | nil => simp [elemT, joinB]
  | cons p l =>
    have h := h1 l
    have := compT_len p
    have := sgN_le p
    rw [elemT_cons, List.length_append]
    unfold restT
    simp only [bytesC, List.map_cons, List.sum_cons, List.length_cons] at h ⊢
    omega
theorem segT_le (s : Seg) (h1 : ∀ e ∈ s.elems, e.length ≤ 40) : (segT s).length ≤ s.tag.length + 1 + 41 * s.elems.length + 2 * bytesE s.elems := by
  have key : ∀ es : List (List Str), (∀ e ∈ es, e.length ≤ 40) → (es.flatMap fun e => 43 :: elemT e).length ≤ 41 * es.length + 2 * bytesE es := fun es => by
    induction es with
    | nil => intro _; simp
    | cons a l ih =>
      intro h
      have h2 := ih fun e he => h e (List.mem_cons_of_mem _ he)
      have h3 := joinT_le a
      have h4 := h a List.mem_cons_self
      simp only [List.flatMap_cons, List.length_append, List.length_cons, bytesE, List.map_cons, List.sum_cons] at h2 ⊢
      omega
  have := key s.elems h1
  unfold segT
  simp only [List.length_append, List.length_cons, List.length_nil]
  omega
theorem LightS.print {l : List Seg} (h : LightS l) : (printT l).length ≤ 1048576 := by
  have key : ∀ m : List Seg, (∀ s ∈ m, s.tag.length ≤ 300 ∧ s.elems.length ≤ 40) → (∀ s ∈ m, ∀ e ∈ s.elems, e.length ≤ 40) → (printT m).length ≤ m.length * 1941 + 2 * bytesL m := fun m => by
    induction m with
    | nil => intro _ _; simp [printT]
    | cons a r ih =>
      intro h1 h2
      have h3 := ih (fun s hs => h1 s (List.mem_cons_of_mem _ hs)) (fun s hs => h2 s (List.mem_cons_of_mem _ hs))
      have h4 := segT_le a (h2 a List.mem_cons_self)
      have h5 := h1 a List.mem_cons_self
      simp only [printT, bytesL, List.flatMap_cons, List.length_append, List.map_cons, List.sum_cons, List.length_cons] at h3 ⊢
      omega
  have := key l h.seg h.el
  have := h.n
  have := h.bytes
  omega
def HeavyS (l : List Seg) (e : Ending) : Prop := ∃ b, e = .returned (.bool b) ∧ (b = false → LightS l)
theorem HeavyS.yes (l : List Seg) : HeavyS l (.returned (.bool true)) := ⟨true, rfl, fun h => by cases h⟩
end Go.Proofs.YtgfijlamhjjecaaGreatDoor


/-
  WrapV: the package-level variables that numbers are read and told by; contract of ParseUint at base 10. No condition beyond those stated.
-/
namespace Go.Proofs.YtgfijlamhjjecaaGreatDoor
open Go.RowKit
/-- the variables read as their initialisers lay them -/
structure VarsOk (w : World) : Prop where
  tab : Lib.TabIs Tryz.prog w "internal/strconv.uint64pow10" .u64 Lib.pow10Tab
  syn : ∃ te pe, w.cell? ⟨2, 0, none⟩ = some (.iface te pe)
  rng : ∃ te pe, w.cell? ⟨3, 0, none⟩ = some (.iface te pe)
theorem VarsOk.on {w w' : World} {B : Nat} (h : VarsOk w) (hb : Below B w w') (hB : w.heap.size ≤ B) : VarsOk w' := by
  obtain ⟨h1, ⟨a, b, h2⟩, ⟨c, d, h3⟩⟩ := h
  exact ⟨Lib.tabBelow_of_tabIs h1 w' (hb.mono hB), ⟨a, b, (hb.cell (Nat.lt_of_lt_of_le (cell_lt' h2) hB)).trans h2⟩, ⟨c, d, (hb.cell (Nat.lt_of_lt_of_le (cell_lt' h3) hB)).trans h3⟩⟩
def PuQ (s : Str) (u : Nat) (ev : Value) : Prop := (numEnd (Lib.parseUintB 64 s) = some u ∧ ev = .nilIface) ∨ (numEnd (Lib.parseUintB 64 s) = none ∧ ∃ te pe, ev = .iface te pe)
theorem pu_any (s : ByteArray) (hl : s.size ≤ 1048576) (w : World) (hv : VarsOk w) : Calls Tryz.prog 146 #[.string s, .int .i64 10, .int .i64 64] w fun e w' => ∃ (u : Nat) (ev : Value), e = .returned (.tuple #[.int .u64 (u : Int), ev]) ∧ PuQ s.data.toList u ev ∧ Below w.heap.size w w' := by
  by_cases h1 : ∃ u, Lib.parseUintB 64 s.data.toList = .ok u
  · obtain ⟨u, h⟩ := h1
    refine (Tryz.strconv_ParseUint_10_at64_ok s (by omega) u h w).mono ?_
    rintro e w' ⟨rfl, hw⟩
    refine ⟨u, _, rfl, .inl ⟨by rw [h]; rfl, rfl⟩, ?_⟩
    rcases hw with rfl | rfl
    · exact Below.refl _ _
    · exact Lib.bytesWorld_below _ _ _
  by_cases h2 : Lib.parseUintB 64 s.data.toList = .range
  · obtain ⟨te, pe, hc⟩ := hv.rng
    refine (Tryz.strconv_ParseUint_10_at64_range s (by omega) h2 _ w hc (.inr ⟨te, pe, rfl⟩)).mono ?_
    rintro e w' ⟨N, rfl, _, _, hb⟩
    exact ⟨18446744073709551615, _, rfl, .inr ⟨by rw [h2]; rfl, _, _, rfl⟩, hb⟩
  · have hn : numEnd (Lib.parseUintB 64 s.data.toList) = none := by
      cases hx : Lib.parseUintB 64 s.data.toList <;> first | rfl | exact absurd ⟨_, hx⟩ h1
    obtain ⟨te, pe, hc⟩ := hv.syn
    refine (Tryz.strconv_ParseUint_10_at64_syntax s (by omega) ⟨fun u e => h1 ⟨u, e⟩, h2⟩ _ w hc (.inr ⟨te, pe, rfl⟩)).mono ?_
    rintro e w' ⟨N, rfl, _, _, hb⟩
    exact ⟨0, _, rfl, .inr ⟨hn, _, _, rfl⟩, hb⟩
end Go.Proofs.YtgfijlamhjjecaaGreatDoor


/-
  EdiA3: contract of Same: two lists of segments in memory. No condition beyond those stated.
-/
namespace Go.Proofs.YtgfijlamhjjecaaGreatDoor
open Go.RowKit
instance : DecidableEq Seg := fun a b => if h : a.tag = b.tag ∧ a.elems = b.elems then isTrue (by cases a; cases b; simp_all) else isFalse (by rintro rfl; exact h ⟨rfl, rfl⟩)
def sameB (l m : List Seg) : Bool := decide (l = m)
def Drew (w w' : World) : Prop := ∃ d, w' = w.drewN d
theorem Drew.below {w w' : World} (h : Drew w w') (B : Nat) : Below B w w' := by
  obtain ⟨d, rfl⟩ := h; exact below_drewN (Below.refl _ _) d
theorem Drew.heap {w w' : World} (h : Drew w w') : w'.heap = w.heap := by obtain ⟨d, rfl⟩ := h; rfl
theorem ret_bool {a b : Bool} (h : a = b) : Ending.returned (.bool a) = .returned (.bool b) := by rw [h]
theorem sameB_no {l m : List Seg} (h : l ≠ m) : Ending.returned (.bool false) = .returned (.bool (sameB l m)) := ret_bool (by unfold sameB; rw [decide_eq_false h])
theorem take_succ_eq {α : Type} {l m : List α} {k : Nat} {x : α} (h : l.take k = m.take k) (h1 : l[k]? = some x) (h2 : m[k]? = some x) : l.take (k + 1) = m.take (k + 1) := by
  rw [List.take_add_one, List.take_add_one, h, h1, h2]
theorem sv_inj {a b : Str} {s : ByteArray} (h1 : (⟨a.toArray⟩ : ByteArray) = s) (h2 : (⟨b.toArray⟩ : ByteArray) = s) : a = b := by
  rw [← h2] at h1
  injection h1 with h1
  exact congrArg Array.toList h1
theorem str_same (s : ByteArray) : (s.toList == s.toList) = true := by simp
theorem str_ne {s t : ByteArray} (h : s ≠ t) : (s.toList == t.toList) = false := by
  rw [beq_eq_false_iff_ne, ByteArray.toList_eq, ByteArray.toList_eq]
  intro e
  apply h
  cases s; cases t
  exact congrArg ByteArray.mk (Array.toList_inj.1 e)
theorem sv_ne {a b : Str} {s t : ByteArray} (h1 : (⟨a.toArray⟩ : ByteArray) = s) (h2 : (⟨b.toArray⟩ : ByteArray) = t) (h : s ≠ t) : a ≠ b := by
  rintro rfl; exact h (h1.symm.trans h2)
set_option maxRecDepth 100000 in
set_option maxHeartbeats 4000000 in
theorem same_any {S T : Nat → Prop} {v v' : Value} {l m : List Seg} (w : World) (h : SegsAt S w v l) (h' : SegsAt T w v' m) : Calls Tryz.prog 51 #[v, v'] w fun e w' => e = .returned (.bool (sameB l m)) ∧ Drew w w' := by
  obtain ⟨ao, cap, rfl, h1, h2⟩ := h.form
  obtain ⟨ao', cap', rfl, h1', h2'⟩ := h'.form
  unfold maxLen at h2 h2'
  have H := Lib.hid h
  have H' := Lib.hid h'
  clear h h'
  by_cases hlen : l.length = m.length
  · obtain ⟨n, hn⟩ : ∃ n, l.length = n := ⟨_, rfl⟩
    have hn' : m.length = n := by omega
    have HN := Lib.hid hn
    have HN' := Lib.hid hn'
    rw [hn] at h1 H ⊢
    rw [hn'] at h1' H' ⊢
    clear hn hn' hlen
    have d0 : ((n : Int) != (n : Int)) = false := by simp
    go_enter Tryz.func51, Tryz.ntmps51
    go_wp2_with fail
    go_loopw [5] (fun i wr => ∃ (k d : Nat), k ≤ n ∧ i = .int .i64 (k : Int) ∧ wr = w.drewN d ∧ Hid (l.take k = m.take k)) (fun i _ => n - (intOf i).toNat)
    case atStart => exact ⟨0, 0, Nat.zero_le _, rfl, rfl, Lib.hid (by simp)⟩
    case round =>
      obtain ⟨k, d, hk, rfl, rfl, HT⟩ := hrel
      by_cases hlt : k < n
      · obtain ⟨s, hs⟩ : ∃ s, l[k]? = some s := ⟨_, List.getElem?_eq_getElem (by rw [HN.out]; exact hlt)⟩
        obtain ⟨s', hs'⟩ : ∃ s, m[k]? = some s := ⟨_, List.getElem?_eq_getElem (by rw [HN'.out]; exact hlt)⟩
        obtain ⟨b, off, x, rfl, _, c0, c1, hel⟩ := H.out.get hs
        obtain ⟨b', off', x', rfl, _, c0', c1', hel'⟩ := H'.out.get hs'
        obtain ⟨t, es⟩ := s
        obtain ⟨t', es'⟩ := s'
        obtain ⟨eo, ecap, rfl, he1, he2⟩ := hel.form
        obtain ⟨eo', ecap', rfl, he1', he2'⟩ := hel'.form
        have HEL := Lib.hid hel
        have HEL' := Lib.hid hel'
        have HS := Lib.hid hs
        have HS' := Lib.hid hs'
        obtain ⟨st, hst⟩ : ∃ st : ByteArray, (⟨t.toArray⟩ : ByteArray) = st := ⟨_, rfl⟩
        obtain ⟨st', hst'⟩ : ∃ st : ByteArray, (⟨t'.toArray⟩ : ByteArray) = st := ⟨_, rfl⟩
        simp only [sv] at c0 c0'
        rw [hst] at c0
        rw [hst'] at c0'
        unfold maxLen at he2 he2'
        clear hs hs' hel hel'
        have b1 : (0 : Int) ≤ k := by omega
        have b2 : (k : Int) < n := by omega
        by_cases hstt : st = st'
        · subst hstt
          obtain rfl := sv_inj hst hst'
          clear hst hst'
          by_cases hll : es.length = es'.length
          · obtain ⟨m0, hm0⟩ : ∃ m0, es.length = m0 := ⟨_, rfl⟩
            have hm0' : es'.length = m0 := by omega
            simp only [hm0] at c1 he1
            simp only [hm0'] at c1' he1'
            have HM0 := Lib.hid hm0
            have HM0' := Lib.hid hm0'
            clear hm0 hm0' hll
            have d1 := str_same st
            have d2 : ((m0 : Int) != (m0 : Int)) = false := by simp
            go_upto_region 6 with fail
            go_quiet (fail)
            clear d1 d2
            go_wp2_with fail
            go_loopw [6] (fun i wr => ∃ (q d2 : Nat), q ≤ m0 ∧ i = .int .i64 (q : Int) ∧ wr = w.drewN d2 ∧ Hid (es.take q = es'.take q)) (fun i _ => m0 - (intOf i).toNat)
            case atStart => exact ⟨0, _, Nat.zero_le _, rfl, rfl, Lib.hid (by simp)⟩
            case round =>
              obtain ⟨q, d2, hq, rfl, rfl, HQ⟩ := hrel
              by_cases hqlt : q < m0
              · obtain ⟨e, he⟩ : ∃ s, es[q]? = some s := ⟨_, List.getElem?_eq_getElem (by rw [HM0.out]; exact hqlt)⟩
                obtain ⟨e', he'⟩ : ∃ s, es'[q]? = some s := ⟨_, List.getElem?_eq_getElem (by rw [HM0'.out]; exact hqlt)⟩
                obtain ⟨b2, off2, x2, rfl, _, f0, hco⟩ := HEL.out.get he
                obtain ⟨b2', off2', x2', rfl, _, f0', hco'⟩ := HEL'.out.get he'
                obtain ⟨co, ccap, rfl, hc1, hc2⟩ := hco.form
                obtain ⟨co', ccap', rfl, hc1', hc2'⟩ := hco'.form
                have HCO := Lib.hid hco
                have HCO' := Lib.hid hco'
                have HE := Lib.hid he
                have HE' := Lib.hid he'
                unfold maxLen at hc2 hc2'
                have b3 : (0 : Int) ≤ q := by omega
                have b4 : (q : Int) < m0 := by omega
                clear he he' hco hco'
                by_cases hll : e.length = e'.length
                · obtain ⟨r0, hr0⟩ : ∃ m0, e.length = m0 := ⟨_, rfl⟩
                  have hr0' : e'.length = r0 := by omega
                  simp only [hr0] at f0 hc1
                  simp only [hr0'] at f0' hc1'
                  have HR0 := Lib.hid hr0
                  have HR0' := Lib.hid hr0'
                  clear hr0 hr0' hll
                  have d3 : ((r0 : Int) != (r0 : Int)) = false := by simp
                  go_wp2_with fail
                  clear d3
                  go_loopw [9] (fun i wr => ∃ (z d3 : Nat), z ≤ r0 ∧ i = .int .i64 (z : Int) ∧ wr = w.drewN d3 ∧ Hid (e.take z = e'.take z)) (fun i _ => r0 - (intOf i).toNat)
                  case atStart => exact ⟨0, _, Nat.zero_le _, rfl, rfl, Lib.hid (by simp)⟩
                  case round =>
                    obtain ⟨z, d3, hz, rfl, rfl, HZ⟩ := hrel
                    by_cases hzlt : z < r0
                    · obtain ⟨p, hp⟩ : ∃ s, e[z]? = some s := ⟨_, List.getElem?_eq_getElem (by rw [HR0.out]; exact hzlt)⟩
                      obtain ⟨p', hp'⟩ : ∃ s, e'[z]? = some s := ⟨_, List.getElem?_eq_getElem (by rw [HR0'.out]; exact hzlt)⟩
                      obtain ⟨b3, off3, rfl, _, g0⟩ := HCO.out.get hp
                      obtain ⟨b3', off3', rfl, _, g0'⟩ := HCO'.out.get hp'
                      have b5 : (0 : Int) ≤ z := by omega
                      have b6 : (z : Int) < r0 := by omega
                      have HP := Lib.hid hp
                      have HP' := Lib.hid hp'
                      obtain ⟨sp, hsp⟩ : ∃ st : ByteArray, (⟨p.toArray⟩ : ByteArray) = st := ⟨_, rfl⟩
                      obtain ⟨sp', hsp'⟩ : ∃ st : ByteArray, (⟨p'.toArray⟩ : ByteArray) = st := ⟨_, rfl⟩
                      simp only [sv] at g0 g0'
                      rw [hsp] at g0
                      rw [hsp'] at g0'
                      clear hp hp'
                      by_cases hpp : sp = sp'
                      · subst hpp
                        obtain rfl := sv_inj hsp hsp'
                        have d4 := str_same sp
                        clear hsp hsp'
                        go_upto_region 18 with fail
                        go_quiet (fail)
                        clear d4
                        go_wp2_with fail
                        go_roundw
                        case rel => exact ⟨z + 1, _, by omega, by go_num, rfl, Lib.hid (take_succ_eq HZ.out HP.out HP'.out)⟩
                        case measure => simp [intOf]; omega
                      · have d4 := str_ne hpp
                        have HPN := Lib.hid (sv_ne hsp hsp' hpp)
                        clear hsp hsp' hpp
                        go_upto_region 18 with fail
                        go_quiet (fail)
                        go_wp2_with fail
                        go_ret
                        exact ⟨sameB_no (fun e0 => by
                          have h1 := HS.out
                          rw [e0, HS'.out] at h1
                          injection h1 with h1
                          injection h1 with _ h1
                          have h2 := HE.out
                          rw [← h1, HE'.out] at h2
                          injection h2 with h2
                          have h3 := HP.out
                          rw [← h2, HP'.out] at h3
                          injection h3 with h3
                          exact HPN.out h3.symm), _, World.drewN_drewN _ _ _⟩
                    · obtain rfl : z = r0 := by omega
                      go_wp2_with fail
                      go_roundw
                      case rel =>
                        have e1 : e.take z = e := List.take_of_length_le (by rw [HR0.out]; exact Nat.le_refl _)
                        have e2 : e'.take z = e' := List.take_of_length_le (by rw [HR0'.out]; exact Nat.le_refl _)
                        have hT := HZ.out
                        rw [e1, e2] at hT
                        exact ⟨q + 1, _, by omega, by go_num, rfl, Lib.hid (take_succ_eq HQ.out HE.out (by rw [hT]; exact HE'.out))⟩
                      case measure => simp [intOf]; omega
                · obtain ⟨r0, hr0⟩ : ∃ m0, e.length = m0 := ⟨_, rfl⟩
                  obtain ⟨r0', hr0'⟩ : ∃ m0, e'.length = m0 := ⟨_, rfl⟩
                  have d3 : ((r0 : Int) != (r0' : Int)) = true := by rw [bne_iff_ne]; omega
                  simp only [hr0] at f0 hc1
                  simp only [hr0'] at f0' hc1'
                  clear hr0 hr0'
                  have HLL := Lib.hid hll
                  clear hll
                  go_wp2_with fail
                  go_ret
                  exact ⟨sameB_no (fun e0 => by
                    have h1 := HS.out
                    rw [e0, HS'.out] at h1
                    injection h1 with h1
                    injection h1 with _ h1
                    have h2 := HE.out
                    rw [← h1, HE'.out] at h2
                    injection h2 with h2
                    exact HLL.out (by rw [h2])), _, rfl⟩
              · obtain rfl : q = m0 := by omega
                go_wp2_with fail
                go_roundw
                case rel =>
                  have e1 : es.take q = es := List.take_of_length_le (by rw [HM0.out]; exact Nat.le_refl _)
                  have e2 : es'.take q = es' := List.take_of_length_le (by rw [HM0'.out]; exact Nat.le_refl _)
                  have hT := HQ.out
                  rw [e1, e2] at hT
                  exact ⟨k + 1, _, by omega, by go_num, rfl, Lib.hid (take_succ_eq HT.out HS.out (by rw [hT]; exact HS'.out))⟩
                case measure => simp [intOf]; omega
          · obtain ⟨m0, hm0⟩ : ∃ m0, es.length = m0 := ⟨_, rfl⟩
            obtain ⟨m0', hm0'⟩ : ∃ m0, es'.length = m0 := ⟨_, rfl⟩
            have d1 := str_same st
            have d2 : ((m0 : Int) != (m0' : Int)) = true := by rw [bne_iff_ne]; omega
            simp only [hm0] at c1 he1
            simp only [hm0'] at c1' he1'
            clear hm0 hm0'
            have HLL := Lib.hid hll
            clear hll
            go_upto_region 6 with fail
            go_quiet (fail)
            go_wp2_with fail
            go_ret
            exact ⟨sameB_no (fun e => by
              have h1 := HS.out
              rw [e, HS'.out] at h1
              injection h1 with h1
              injection h1 with _ h1
              exact HLL.out (by rw [h1])), _, rfl⟩
        · have d1 := str_ne hstt
          have HNE := Lib.hid hstt
          have HST := Lib.hid hst
          have HST' := Lib.hid hst'
          clear hst hst' hstt
          go_upto_region 6 with fail
          go_quiet (fail)
          go_wp2_with fail
          go_ret
          exact ⟨sameB_no (fun e => by
            have h1 := HS.out
            rw [e, HS'.out] at h1
            injection h1 with h1
            injection h1 with h1
            exact sv_ne HST.out HST'.out HNE.out h1.symm), _, rfl⟩
      · obtain rfl : k = n := by omega
        go_wp2_with fail
        go_ret
        have e1 : l.take k = l := List.take_of_length_le (by rw [HN.out]; exact Nat.le_refl _)
        have e2 : m.take k = m := List.take_of_length_le (by rw [HN'.out]; exact Nat.le_refl _)
        have hT := HT.out
        rw [e1, e2] at hT
        exact ⟨ret_bool (by unfold sameB; rw [decide_eq_true hT]), _, rfl⟩
  · have d0 : ((l.length : Int) != (m.length : Int)) = true := by rw [bne_iff_ne]; omega
    clear H H'
    have HL := Lib.hid hlen
    clear hlen
    go_enter Tryz.func51, Tryz.ntmps51
    go_wp2_with fail
    go_ret
    exact ⟨sameB_no (fun e => HL.out (by rw [e])), 0, rfl⟩
end Go.Proofs.YtgfijlamhjjecaaGreatDoor


/-
  WrapD: contract of the reference's Decimal. No condition beyond those stated.
-/
namespace Go.Proofs.YtgfijlamhjjecaaGreatDoor
open Go.RowKit
/-- a digit's byte -/
def digC (d : Nat) : UInt8 := UInt8.ofNat (48 + d)
end Go.Proofs.YtgfijlamhjjecaaGreatDoor


/-
  NumP: numbers of tickets, plain words and laws. No condition.
-/
namespace Go.Proofs.YtgfijlamhjjecaaGreatDoor
/-- the last w digits of a number -/
def padN : Nat → Nat → Str
  | 0, _ => []
  | w + 1, n => padN w (n / 10) ++ [digC (n % 10)]
/-- what digits spell, behind what others have spelt -/
def valF : Nat → Str → Nat
  | v, [] => v
  | v, c :: r => valF (v * 10 + (c.toNat - 48)) r
def valN (s : Str) : Nat := valF 0 s
theorem valF_append (a b : Str) : ∀ v : Nat, valF v (a ++ b) = valF (valF v a) b := by
  induction a with
  | nil => intro v; rfl
  | cons c a ih => intro v; exact ih _
theorem digC_nat {d : Nat} (h : d < 10) : (digC d).toNat = 48 + d := by unfold digC; exact (digB_of h).2
theorem digC_B {d : Nat} (h : d < 10) : digB (digC d) = true := by unfold digC; exact (digB_of h).1
theorem padN_len (w : Nat) : ∀ (n : Nat), (padN w n).length = w := by
  induction w with
  | zero => intro n; rfl
  | succ w ih =>
    intro n
    show (padN w (n / 10) ++ [digC (n % 10)]).length = _
    rw [List.length_append, ih]; rfl
theorem padN_digs (w : Nat) : ∀ (n : Nat), ∀ c ∈ padN w n, digB c = true := by
  induction w with
  | zero => intro n c h; simp [padN] at h
  | succ w ih =>
    intro n c h
    have h' : c ∈ padN w (n / 10) ++ [digC (n % 10)] := h
    rcases List.mem_append.1 h' with h | h
    · exact ih _ c h
    · rw [List.mem_singleton.1 h]; exact digC_B (Nat.mod_lt _ (by omega))
theorem valF_padN (w : Nat) : ∀ (n v : Nat), valF v (padN w n) = v * 10 ^ w + n % 10 ^ w := by
  induction w with
  | zero => intro n v; rw [Nat.pow_zero, Nat.mul_one, Nat.mod_one]; rfl
  | succ w ih =>
    intro n v
    show valF v (padN w (n / 10) ++ [digC (n % 10)]) = _
    rw [valF_append, ih]
    show (v * 10 ^ w + n / 10 % 10 ^ w) * 10 + ((digC (n % 10)).toNat - 48) = _
    rw [digC_nat (Nat.mod_lt _ (by omega))]
    have h2 : n % (10 * 10 ^ w) = n % 10 + 10 * (n / 10 % 10 ^ w) := Nat.mod_mul
    rw [Nat.pow_succ, Nat.mul_comm (10 ^ w) 10, h2]
    have h3 : v * (10 * 10 ^ w) = v * 10 ^ w * 10 := by rw [Nat.mul_comm 10, Nat.mul_assoc]
    omega
theorem padN_front (w : Nat) : ∀ (n : Nat), padN (w + 1) n = digC (n / 10 ^ w % 10) :: padN w n := by
  induction w with
  | zero => intro n; rw [Nat.pow_zero, Nat.div_one]; rfl
  | succ w ih =>
    intro n
    show padN (w + 1) (n / 10) ++ [digC (n % 10)] = _
    rw [ih (n / 10)]
    simp only [List.cons_append]
    rw [Nat.div_div_eq_div_mul, show 10 * 10 ^ w = 10 ^ (w + 1) by rw [Nat.pow_succ, Nat.mul_comm]]
    rfl
theorem padN_zero (w : Nat) : padN w 0 = List.replicate w 48 := by
  induction w with
  | zero => rfl
  | succ w ih =>
    rw [padN_front, ih, Nat.zero_div]
    rfl
/-- a number that fits: noughts ahead of its digits -/
theorem padN_dec : ∀ (w n : Nat), n < 10 ^ (w + 1) → padN (w + 1) n = List.replicate (w + 1 - (decT n).length) 48 ++ decT n := fun w => by
  induction w with
  | zero =>
    intro n h
    have h' : n < 10 := by simpa using h
    rw [dec_small h']
    simp [padN, digC, Nat.mod_eq_of_lt h']
  | succ w ih =>
    intro n h
    by_cases hn : n < 10
    · rw [dec_small hn]
      show padN (w + 1) (n / 10) ++ [digC (n % 10)] = _
      rw [Nat.div_eq_of_lt hn, padN_zero, Nat.mod_eq_of_lt hn]
      rfl
    · show padN (w + 1) (n / 10) ++ [digC (n % 10)] = _
      rw [ih (n / 10) (by rw [Nat.pow_succ] at h; omega), dec_step hn, List.append_assoc]
      simp only [List.length_append, List.length_singleton]
      rw [show w + 1 + 1 - ((decT (n / 10)).length + 1) = w + 1 - (decT (n / 10)).length by omega]
      rfl
/-! ### tickets -/
def mayT (c s : Nat) : Bool := decide (c < 8) && decide (0 < s) && decide (s ≤ 9999999999)
def body7 (c s : Nat) : Str := padN 3 c ++ padN 10 s
def text7 (c s : Nat) : Str × Int := if mayT c s then (body7 c s ++ [digC ((c * 10000000000 + s) % 7)], 0) else ([], 1)
def parse7 (t : Str) : (Nat × Nat) × Int :=
  if t.length ≠ 14 ∨ ¬ t.all digB then ((0, 0), 90) else
  if valN t / 10 % 7 ≠ valN t % 10 then ((0, 0), 70) else
  if mayT (valN t / 100000000000) (valN t / 10 % 10000000000) then ((valN t / 100000000000, valN t / 10 % 10000000000), 0) else ((0, 0), 1)
theorem mayT_iff {c s : Nat} : mayT c s = true ↔ c < 8 ∧ 0 < s ∧ s ≤ 9999999999 := by unfold mayT; simp [and_assoc]
theorem body7_val {c s : Nat} (h : mayT c s = true) : valN (body7 c s) = c * 10000000000 + s := by
  obtain ⟨h1, h2, h3⟩ := mayT_iff.1 h
  unfold valN body7
  rw [valF_append, valF_padN, valF_padN, Nat.mod_eq_of_lt (show c < 10 ^ 3 by omega), Nat.mod_eq_of_lt (show s < 10 ^ 10 by omega)]
  omega
theorem body7_len (c s : Nat) : (body7 c s).length = 13 := by unfold body7; rw [List.length_append, padN_len, padN_len]
theorem body7_digs (c s : Nat) : ∀ d ∈ body7 c s, digB d = true := fun d hd => by
  unfold body7 at hd
  rcases List.mem_append.1 hd with h | h
  · exact padN_digs _ _ d h
  · exact padN_digs _ _ d h
theorem valN_snoc (s : Str) (c : UInt8) : valN (s ++ [c]) = valN s * 10 + (c.toNat - 48) := by
  unfold valN
  rw [valF_append]
  rfl
theorem digC_of {c : UInt8} (h : digB c = true) : digC (c.toNat - 48) = c ∧ c.toNat - 48 < 10 ∧ 48 ≤ c.toNat := by
  unfold digB at h
  rw [Bool.and_eq_true, decide_eq_true_eq, decide_eq_true_eq] at h
  refine ⟨?_, by omega, h.1⟩
  unfold digC
  rw [show 48 + (c.toNat - 48) = c.toNat by omega]
  exact UInt8.ofNat_toNat
/-- digits are spelt as they were -/
theorem padN_valN : ∀ (w : Nat) {s : Str}, s.length = w → s.all digB = true → padN w (valN s) = s := fun w => by
  induction w with
  | zero =>
    intro s h _
    rw [List.eq_nil_of_length_eq_zero h]; rfl
  | succ w ih =>
    intro s h hd
    obtain ⟨r, c, rfl, hr⟩ := snoc_of h
    rw [List.all_append, Bool.and_eq_true] at hd
    have hc : digB c = true := by simpa using hd.2
    obtain ⟨e1, e2, e3⟩ := digC_of hc
    rw [valN_snoc]
    show padN w ((valN r * 10 + (c.toNat - 48)) / 10) ++ [digC ((valN r * 10 + (c.toNat - 48)) % 10)] = _
    rw [show (valN r * 10 + (c.toNat - 48)) / 10 = valN r by omega, show (valN r * 10 + (c.toNat - 48)) % 10 = c.toNat - 48 by omega, ih hr hd.1, e1]
theorem padN_mod (w : Nat) : ∀ (n : Nat), padN w (n % 10 ^ w) = padN w n := by
  induction w with
  | zero => intro n; rfl
  | succ w ih =>
    intro n
    show padN w (n % 10 ^ (w + 1) / 10) ++ [digC (n % 10 ^ (w + 1) % 10)] = padN w (n / 10) ++ [digC (n % 10)]
    have h2 : n % (10 * 10 ^ w) = n % 10 + 10 * (n / 10 % 10 ^ w) := Nat.mod_mul
    rw [Nat.pow_succ, Nat.mul_comm (10 ^ w) 10, h2, show (n % 10 + 10 * (n / 10 % 10 ^ w)) / 10 = n / 10 % 10 ^ w by omega, ih (n / 10), show (n % 10 + 10 * (n / 10 % 10 ^ w)) % 10 = n % 10 by omega]
theorem padN_add (a b : Nat) : ∀ (n : Nat), padN (a + b) n = padN a (n / 10 ^ b) ++ padN b n := by
  induction b with
  | zero => intro n; simp [padN]
  | succ b ih =>
    intro n
    show padN (a + b) (n / 10) ++ [digC (n % 10)] = padN a (n / 10 ^ (b + 1)) ++ (padN b (n / 10) ++ [digC (n % 10)])
    rw [ih (n / 10), Nat.div_div_eq_div_mul, show 10 * 10 ^ b = 10 ^ (b + 1) by rw [Nat.pow_succ, Nat.mul_comm], List.append_assoc]
/-- what is read is told as it was -/
theorem text_parse7 {t : Str} (h : ¬ (parse7 t).2 ≠ 0) : text7 (parse7 t).1.1 (parse7 t).1.2 = (t, 0) := by
  unfold parse7 at h ⊢
  split at h
  · exact absurd (by decide) h
  rename_i h1
  split at h
  · exact absurd (by decide) h
  rename_i h2
  split at h
  · rename_i h3
    rw [if_neg h1, if_neg h2, if_pos h3]
    simp only
    rw [not_or, Classical.not_not, Classical.not_not] at h1
    rw [Classical.not_not] at h2
    obtain ⟨r, c, rfl, hr⟩ := snoc_of h1.1
    have hd := h1.2
    rw [List.all_append, Bool.and_eq_true] at hd
    have hc : digB c = true := by simpa using hd.2
    obtain ⟨e1, e2, e3⟩ := digC_of hc
    rw [valN_snoc] at h2 h3 ⊢
    obtain ⟨V, hV⟩ : ∃ V, valN r = V := ⟨_, rfl⟩
    obtain ⟨d, hd'⟩ : ∃ d, c.toNat - 48 = d := ⟨_, rfl⟩
    rw [hV, hd'] at h2 h3 ⊢
    rw [hd'] at e1 e2
    have f1 : (V * 10 + d) / 10 = V := by omega
    have f2 : (V * 10 + d) % 10 = d := by omega
    have f3 : (V * 10 + d) / 100000000000 = V / 10000000000 := by
      rw [show (100000000000 : Nat) = 10 * 10000000000 from rfl, ← Nat.div_div_eq_div_mul, f1]
    rw [f1, f2] at h2
    rw [f1, f3] at h3 ⊢
    unfold text7
    rw [if_pos h3, show V / 10000000000 * 10000000000 + V % 10000000000 = V by omega, h2, e1]
    have g1 : body7 (V / 10000000000) (V % 10000000000) = r := by
      unfold body7
      have p1 := padN_add 3 10 V
      have p2 := padN_mod 10 V
      rw [show (10000000000 : Nat) = 10 ^ 10 from rfl, p2, ← p1, ← hV]
      exact padN_valN 13 hr hd.1
    rw [g1]
  · exact absurd (by decide) h
end Go.Proofs.YtgfijlamhjjecaaGreatDoor


/-
  MsgP: whole numbers as messages tell and read them: plain words and laws. No condition.
-/
namespace Go.Proofs.YtgfijlamhjjecaaGreatDoor
/-- a whole number's text -/
def sgnT (v : Int) : Str := if v < 0 then 45 :: decT v.natAbs else decT v.natAbs
/-- what a text spells; none: it is no whole number -/
def intW : Str → Option Int
  | [] => none
  | c :: r => if c = 45 then (match numW r with
      | some v => if v = 0 then none else some (-(v : Int))
      | none => none)
    else (match numW (c :: r) with
      | some v => some (v : Int)
      | none => none)
theorem intW_minus (r : Str) : intW (45 :: r) = (match numW r with
      | some v => if v = 0 then none else some (-(v : Int))
      | none => none) := by
  unfold intW
  simp
theorem intW_plain {c : UInt8} (r : Str) (hc : c ≠ 45) : intW (c :: r) = (match numW (c :: r) with
      | some v => some (v : Int)
      | none => none) := by
  unfold intW
  simp [hc]
/-- a whole number between bounds -/
def wholeE (s : Str) (lo hi : Int) : Option Int := match intW s with
  | some v => if lo ≤ v ∧ v ≤ hi then some v else none
  | none => none
theorem dec_ne45 (v : Nat) : ∃ c r, decT v = c :: r ∧ c ≠ 45 := by
  cases hd : decT v with
  | nil => exact absurd hd (dec_ne v)
  | cons c r =>
    refine ⟨c, r, rfl, ?_⟩
    rintro rfl
    have h := dec_digs v 45 (by rw [hd]; simp)
    exact absurd h (by decide)
theorem intW_sgn {v : Int} (h : v.natAbs < 18446744073709551616) : intW (sgnT v) = some v := by
  unfold sgnT
  by_cases hv : v < 0
  · rw [if_pos hv]
    rw [intW_minus, num_dec h]
    simp only
    rw [if_neg (by omega)]
    congr 1; omega
  · rw [if_neg hv]
    obtain ⟨c, r, hd, hc⟩ := dec_ne45 v.natAbs
    rw [hd]
    rw [intW_plain r hc, ← hd, num_dec h]
    simp only [Option.some.injEq]
    omega
theorem intW_inj {s : Str} {v : Int} (h : intW s = some v) : s = sgnT v ∧ v.natAbs < 18446744073709551616 := by
  cases s with
  | nil => cases h
  | cons c r =>
    by_cases hc : c = 45
    · subst hc
      rw [intW_minus] at h
      cases hn : numW r with
      | none => rw [hn] at h; cases h
      | some u =>
        rw [hn] at h
        simp only at h
        by_cases h0 : u = 0
        · rw [if_pos h0] at h; cases h
        · rw [if_neg h0] at h
          cases h
          have hu := num_lt hn
          unfold sgnT
          rw [if_pos (by omega), num_inj hn, show (-(u : Int)).natAbs = u by omega]
          exact ⟨rfl, hu⟩
    · rw [intW_plain r hc] at h
      cases hn : numW (c :: r) with
      | none => rw [hn] at h; cases h
      | some u =>
        rw [hn] at h
        simp only [Option.some.injEq] at h
        subst h
        unfold sgnT
        rw [if_neg (by omega), num_inj hn, show ((u : Int)).natAbs = u by omega]
        exact ⟨rfl, num_lt hn⟩
theorem whole_iff {s : Str} {lo hi v : Int} (h1 : -9223372036854775808 ≤ lo) (h2 : hi ≤ 9223372036854775807) : wholeE s lo hi = some v ↔ s = sgnT v ∧ lo ≤ v ∧ v ≤ hi := by
  unfold wholeE
  constructor
  · intro h
    cases hi' : intW s with
    | none => rw [hi'] at h; cases h
    | some u =>
      rw [hi'] at h
      simp only at h
      split at h
      · rename_i hb
        cases h
        exact ⟨(intW_inj hi').1, hb⟩
      · cases h
  · rintro ⟨rfl, h3, h4⟩
    rw [intW_sgn (by omega)]
    simp only
    rw [if_pos ⟨h3, h4⟩]
/-- as the program reads them: what ParseInt says, no sign +, no nought ahead -/
def wholePI (s : Str) (lo hi : Int) : Option Int := match Lib.parseIntB 64 s with
  | .ok v => if s.head? = some 43 ∨ ((if s.head? = some 45 then s.tail else s).head? = some 48 ∧ s ≠ [48]) ∨ v < lo ∨ hi < v then none else some v
  | _ => none
def okI : Lib.NumEnd Int → Option Int
  | .ok v => some v
  | _ => none
theorem numEnd_signless (x : Lib.NumEnd Nat) : okI (Lib.signlessC 9223372036854775808 x) = (match numEnd x with | some u => if 9223372036854775808 ≤ u then none else some (u : Int) | none => none) := by
  cases x with
  | ok u =>
    simp only [Lib.signlessC, numEnd]
    by_cases h : 9223372036854775808 ≤ u
    · rw [if_pos h, if_pos h]; rfl
    · rw [if_neg h, if_neg h]; rfl
  | _ => rfl
theorem numEnd_signed (x : Lib.NumEnd Nat) : okI (Lib.signedC 9223372036854775808 x) = (match numEnd x with | some u => if 9223372036854775808 < u then none else some (-(u : Int)) | none => none) := by
  cases x with
  | ok u =>
    simp only [Lib.signedC, numEnd]
    by_cases h : 9223372036854775808 < u
    · rw [if_pos h, if_pos h]; rfl
    · rw [if_neg h, if_neg h]; rfl
  | _ => rfl
theorem wholePI_eq (s : Str) (lo hi : Int) : wholePI s lo hi = (match okI (Lib.parseIntB 64 s) with
    | some v => if s.head? = some 43 ∨ ((if s.head? = some 45 then s.tail else s).head? = some 48 ∧ s ≠ [48]) ∨ v < lo ∨ hi < v then none else some v
    | none => none) := by
  unfold wholePI
  cases Lib.parseIntB 64 s <;> rfl
theorem num_48 {r : Str} {u : Nat} (hn : numW (48 :: r) = some u) : u = 0 ∧ r = [] := by
  unfold numW at hn
  simp only at hn
  split at hn
  · cases hn
  · rename_i h
    have hr : r = [] := Classical.byContradiction fun h0 => h ⟨trivial, h0⟩
    subst hr
    have e : valW 0 [48] = some 0 := rfl
    rw [e] at hn
    cases hn
    exact ⟨rfl, rfl⟩
theorem whole_pi {s : Str} {lo hi : Int} (h1 : -9223372036854775808 ≤ lo) (h2 : hi ≤ 9223372036854775807) : wholePI s lo hi = wholeE s lo hi := by
  rw [wholePI_eq]
  unfold wholeE
  cases s with
  | nil => rfl
  | cons c r =>
    by_cases hc : c = 45
    · subst hc
      rw [Lib.parseIntB_minus, intW_minus]
      show (match okI (Lib.signedC 9223372036854775808 (Lib.parseUintB 64 r)) with
        | some v => if some (45 : UInt8) = some 43 ∨ ((if some (45 : UInt8) = some 45 then r else 45 :: r).head? = some 48 ∧ (45 :: r) ≠ [48]) ∨ v < lo ∨ hi < v then none else some v
        | none => none) = _
      rw [numEnd_signed, if_pos rfl]
      cases r with
      | nil => rfl
      | cons d r =>
        by_cases hd : d = 48
        · subst hd
          have hL : (match numW (48 :: r) with | some v => if v = 0 then none else some (-(v : Int)) | none => none) = (none : Option Int) := by
            cases hn : numW (48 :: r) with
            | none => rfl
            | some u => obtain ⟨rfl, _⟩ := num_48 hn; rfl
          rw [hL]
          simp only
          split
          · rename_i v _
            rw [if_pos (by simp)]
          · rfl
        · rw [num_pu (by simp) (by rintro ⟨h, _⟩; simp at h; exact hd h)]
          cases hn : numW (d :: r) with
          | none => rfl
          | some u =>
            have hu : u ≠ 0 := by
              rintro rfl
              have h3 := num_inj hn
              rw [dec_small (by omega)] at h3
              injection h3 with h4 _
              exact hd h4
            simp only
            rw [if_neg hu]
            simp only
            by_cases hb : 9223372036854775808 < u
            · rw [if_pos hb, if_neg (by omega)]
            · rw [if_neg hb]
              simp only
              by_cases hr : lo ≤ -(u : Int) ∧ -(u : Int) ≤ hi
              · rw [if_pos hr, if_neg]
                rintro (h | ⟨h, _⟩ | h | h)
                · simp at h
                · simp at h; exact hd h
                · omega
                · omega
              · rw [if_neg hr, if_pos]
                by_cases h : -(u : Int) < lo
                · exact .inr (.inr (.inl h))
                · exact .inr (.inr (.inr (by omega)))
    · rw [intW_plain r hc]
      by_cases hp : c = 43
      · subst hp
        have hn : numW (43 :: r) = none := num_plus (s := 43 :: r) rfl
        rw [hn]
        simp only
        split
        · rw [if_pos (.inl rfl)]
        · rfl
      · have e1 : c.toNat ≠ 43 := fun e => hp (UInt8.toNat_inj.1 e)
        have e2 : c.toNat ≠ 45 := fun e => hc (UInt8.toNat_inj.1 e)
        rw [Lib.parseIntB_plain _ _ _ e1 e2]
        show (match okI (Lib.signlessC 9223372036854775808 (Lib.parseUintB 64 (c :: r))) with
          | some v => if some c = some 43 ∨ ((if some c = some 45 then r else c :: r).head? = some 48 ∧ (c :: r) ≠ [48]) ∨ v < lo ∨ hi < v then none else some v
          | none => none) = _
        rw [numEnd_signless, if_neg (by simpa using hc)]
        by_cases hz : c = 48 ∧ r ≠ []
        · obtain ⟨rfl, hr⟩ := hz
          have hn : numW (48 :: r) = none := num_zero (s := 48 :: r) ⟨rfl, by
            have := List.length_pos_iff.2 hr
            simp; omega⟩
          rw [hn]
          simp only
          split
          · rw [if_pos (by simp [hr])]
          · rfl
        · rw [num_pu (by simp) (by
            rintro ⟨h, hl⟩
            simp at h
            exact hz ⟨h, by rintro rfl; simp at hl⟩)]
          cases hn : numW (c :: r) with
          | none => rfl
          | some u =>
            simp only
            by_cases hb : 9223372036854775808 ≤ u
            · rw [if_pos hb, if_neg (by omega)]
            · rw [if_neg hb]
              simp only
              by_cases hr : lo ≤ (u : Int) ∧ (u : Int) ≤ hi
              · rw [if_pos hr, if_neg]
                rintro (h | ⟨h, h'⟩ | h | h)
                · simp at h; exact hp h
                · simp at h
                  subst h
                  obtain ⟨_, hr'⟩ := num_48 hn
                  exact h' (by rw [hr'])
                · omega
                · omega
              · rw [if_neg hr, if_pos]
                by_cases h : (u : Int) < lo
                · exact .inr (.inr (.inl h))
                · exact .inr (.inr (.inr (by omega)))
end Go.Proofs.YtgfijlamhjjecaaGreatDoor


/-
  MsgM: messages and packets, told and read: plain words and laws. No condition.
-/
namespace Go.Proofs.YtgfijlamhjjecaaGreatDoor
structure CD where
  car : Nat
  fl : Nat
  we : Nat
  va : Int
  st : Nat
  no : Nat
structure MD where
  kind : Nat
  tc : Nat
  ts : Nat
  pl : Nat
  c : CD
  am : Int
  co : Int
structure PD where
  fr : Nat
  dst : Nat
  ack : Bool
  num : Nat
  m : MD
def cd0 : CD := ⟨0, 0, 0, 0, 0, 0⟩
def md0 : MD := ⟨0, 0, 0, 0, cd0, 0, 0⟩
def pd0 : PD := ⟨0, 0, false, 0, md0⟩
/-- what fields a kind's messages have: coupon, amount, code -/
def hasK (k : Nat) : Option (Bool × Bool × Bool) :=
  if k = 1 ∨ k = 4 then some (false, false, false) else if k = 2 ∨ k = 5 then some (true, false, false) else if k = 3 then some (false, false, true)
  else if k = 6 ∨ k = 7 then some (false, true, false) else if k = 8 then some (false, true, true) else none
abbrev M50 : Int := 1125899906842624
/-- bounds of a part's fields -/
def cpnB : List (Int × Int) := [(0, 7), (0, 65535), (0, 4294967295), (-M50, M50), (1, 7), (0, 4294967295)]
def amtB : List (Int × Int) := [(-M50, M50)]
def codB : List (Int × Int) := [(0, 999)]
def tMSG : Str := [77, 83, 71]
def tKEY : Str := [75, 69, 89]
def tACK : Str := [65, 67, 75]
def tCPN : Str := [67, 80, 78]
def tAMT : Str := [65, 77, 84]
def tCOD : Str := [67, 79, 68]
def partsB (h : Bool × Bool × Bool) : List (Str × List (Int × Int)) :=
  (if h.1 then [(tCPN, cpnB)] else []) ++ (if h.2.1 then [(tAMT, amtB)] else []) ++ (if h.2.2 then [(tCOD, codB)] else [])
def valsB (h : Bool × Bool × Bool) (m : MD) : List (List Int) :=
  (if h.1 then [[(m.c.car : Int), m.c.fl, m.c.we, m.c.va, m.c.st, m.c.no]] else []) ++ (if h.2.1 then [[m.am]] else []) ++ (if h.2.2 then [[m.co]] else [])
/-- a segment of words -/
def wordSeg (t : Str) (l : List Str) : Seg := ⟨t, l.map fun w => [w]⟩
def partSeg (t : Str) (l : List Int) : Seg := wordSeg t (l.map sgnT)
/-- all within their bounds, as many as there are bounds -/
def inB : List (Int × Int) → List Int → Bool
  | [], [] => true
  | b :: bs, v :: vs => decide (b.1 ≤ v) && decide (v ≤ b.2) && inB bs vs
  | _, _ => false
def inBB : List (Str × List (Int × Int)) → List (List Int) → Bool
  | [], [] => true
  | p :: ps, v :: vs => inB p.2 v && inBB ps vs
  | _, _ => false
def c0B (c : CD) : Bool := decide (c.car = 0) && decide (c.fl = 0) && decide (c.we = 0) && decide (c.va = 0) && decide (c.st = 0) && decide (c.no = 0)
def m0B (m : MD) : Bool := decide (m.kind = 0) && decide (m.tc = 0) && decide (m.ts = 0) && decide (m.pl = 0) && c0B m.c && decide (m.am = 0) && decide (m.co = 0)
/-- may a message of fields h be told? -/
def mayM (h : Bool × Bool × Bool) (m : MD) : Bool :=
  decide (m.pl < 4) && inBB (partsB h) (valsB h m) && (h.1 || c0B m.c) && (h.2.1 || decide (m.am = 0)) && (h.2.2 || decide (m.co = 0))
def msgSegs (h : Bool × Bool × Bool) (m : MD) (t : Str) : List Seg :=
  partSeg tMSG [(m.kind : Int)] :: wordSeg tKEY [t, sgnT (m.pl : Int)] :: ((partsB h).zip (valsB h m)).map fun p => partSeg p.1.1 p.2
/-- telling -/
def wrapM (p : PD) : WD × Int :=
  if 8 ≤ p.fr ∨ 8 ≤ p.dst then (wd0, 1) else
  if p.ack then (if m0B p.m then (⟨p.fr, p.dst, p.num, [wordSeg tACK []]⟩, 0) else (wd0, 101)) else
  match hasK p.m.kind with
  | none => (wd0, 100)
  | some h =>
    if (text7 p.m.tc p.m.ts).2 ≠ 0 then (wd0, (text7 p.m.tc p.m.ts).2) else
    if mayM h p.m then (⟨p.fr, p.dst, p.num, msgSegs h p.m (text7 p.m.tc p.m.ts).1⟩, 0) else (wd0, 101)
/-! ### reading -/
def oneW : List Str → Option Str
  | [s] => some s
  | _ => none
def wordsL : List (List Str) → Option (List Str)
  | [] => some []
  | e :: es => match oneW e, wordsL es with
    | some v, some l => some (v :: l)
    | _, _ => none
/-- the words of a segment of a tag -/
def wordsS (s : Seg) (t : Str) (n : Nat) : Option (List Str) := if s.tag = t ∧ s.elems.length = n then wordsL s.elems else none
def wholeL : List (Int × Int) → List Str → Option (List Int)
  | [], [] => some []
  | b :: bs, s :: ss => match wholeE s b.1 b.2, wholeL bs ss with
    | some v, some l => some (v :: l)
    | _, _ => none
  | _, _ => none
def partR (p : Str × List (Int × Int)) (s : Seg) : Option (List Int) := match wordsS s p.1 p.2.length with
  | some l => wholeL p.2 l
  | none => none
def partsR : List (Str × List (Int × Int)) → List Seg → Option (List (List Int))
  | [], [] => some []
  | p :: ps, s :: ss => match partR p s, partsR ps ss with
    | some v, some l => some (v :: l)
    | _, _ => none
  | _, _ => none
def cdOf : List Int → CD
  | [a, b, c, d, e, f] => ⟨a.toNat, b.toNat, c.toNat, d, e.toNat, f.toNat⟩
  | _ => cd0
def mdOf (h : Bool × Bool × Bool) (k c s a : Nat) (vs : List (List Int)) : MD :=
  match h, vs with
  | (false, false, false), _ => ⟨k, c, s, a, cd0, 0, 0⟩
  | (true, false, false), [v] => ⟨k, c, s, a, cdOf v, 0, 0⟩
  | (false, true, false), [[v]] => ⟨k, c, s, a, cd0, v, 0⟩
  | (false, false, true), [[v]] => ⟨k, c, s, a, cd0, 0, v⟩
  | (false, true, true), [[v], [u]] => ⟨k, c, s, a, cd0, v, u⟩
  | _, _ => md0
def ackS (s : Seg) : Bool := decide (s.tag = tACK) && s.elems.isEmpty
def packetM (x : WD) : PD × Int :=
  if 8 ≤ x.fr ∨ 8 ≤ x.dst then (pd0, 1) else
  match x.segs with
  | [] => (pd0, 100)
  | s :: r =>
    if ackS s then (if r = [] then (⟨x.fr, x.dst, true, x.rf, md0⟩, 0) else (pd0, 101)) else
    match (wordsS s tMSG 1).bind fun l => wholeL [(0, 255)] l with
    | some [k] =>
      (match hasK k.toNat with
      | none => (pd0, 100)
      | some h => match r with
        | [] => (pd0, 101)
        | y :: r => match wordsS y tKEY 2 with
          | some [t, u] =>
            if (parse7 t).2 ≠ 0 then (pd0, (parse7 t).2) else
            (match wholeE u 0 3, partsR (partsB h) r with
            | some a, some vs => (⟨x.fr, x.dst, false, x.rf, mdOf h k.toNat (parse7 t).1.1 (parse7 t).1.2 a.toNat vs⟩, 0)
            | _, _ => (pd0, 101))
          | _ => (pd0, 101))
    | _ => (pd0, 100)
end Go.Proofs.YtgfijlamhjjecaaGreatDoor

