/-
  EdiY6: contract of (*byteStringReplacer).Replace at the four signs. No condition beyond those stated.
-/
import Derived.Test.YtpfkmklhfafkiaaEdiY5
import Derived.Test.YtpfkmklhfafkiaaEdiQ
import Derived.Deep.CutBlock
import Derived.Deep.DeepCutAuto
namespace Go.Proofs.Ytpfkmklhfafkiaa
open Go.RowKit
theorem makeBytes_rowE (n : Nat) : madeCells #[.int .u8 0] n = rowA n fun _ => 0 := by
  apply Array.ext_getElem?
  intro j
  by_cases hj : j < n
  · rw [rowA_get _ hj]
    simp only [madeCells, Array.getElem?_map]
    rw [Array.getElem?_eq_getElem (by simpa using hj)]
    simp [Nat.mod_one, bv]
  · rw [Array.getElem?_eq_none (by simp [madeCells]; omega), Array.getElem?_eq_none (by rw [rowA_size]; omega)]
/-- make of bytes -/
theorem make_bytesE (n : Nat) (hn : n ≤ 140737488355328) (u : World) : (Instr.makeSlice 32 (.int .i64 (n : Int)) (.int .i64 (n : Int))).run Try.prog u = .ok (.slice (some ⟨u.heap.size, 0, none⟩) n n) (u.alloc (.cells (rowA n fun _ => 0) 5)) := by
  obtain ⟨i0, hi, hz0, hz1, hz2⟩ := info_parts einfo_u8
  have h := run_make (P := Try.prog) u 32 5 i0 _ Try.underlying32 hi hz0 .i64 .i64 (n : Int) (n : Int) (by omega) (Int.le_refl _) (by rw [hz2]; omega) (by omega)
  rw [h, hz1]
  simp only [Int.toNat_natCast, Value.cells, Nat.mul_one, makeBytes_rowE]
/-- what has been written when k bytes are done -/
def outF (l : Str) (k : Nat) : Sec := fun j => (compT (l.take k)).getD j 0
theorem outF_len (l : Str) (k : Nat) : (compT (l.take k)).length = (l.take k).length + sgN (l.take k) := compT_len _
theorem outF_fit (l : Str) (k' : Nat) : (compT (l.take k')).length ≤ l.length + sgN l := by
  rw [compT_len]
  have := sgN_take_mono l k'
  have : (l.take k').length ≤ l.length := by rw [List.length_take]; omega
  omega
theorem outF_set (l : Str) (k j n : Nat) (c : UInt8) (hj : j = (compT (l.take k)).length) (hc : compT (l.take (k + 1)) = compT (l.take k) ++ [c]) (hn : j < n) : (rowA n (outF l k)).setIfInBounds j (.int .u8 (c.toNat : Int)) = rowA n (outF l (k + 1)) := by
  apply Array.ext_getElem?
  intro i
  by_cases hi : i < n
  · rw [rowA_get _ hi]
    by_cases e : i = j
    · subst e
      rw [Array.getElem?_setIfInBounds_self_of_lt (by rw [rowA_size]; exact hi)]
      unfold outF; rw [hc, hj]; simp [bv]
    · rw [Array.getElem?_setIfInBounds_ne (by omega), rowA_get _ hi]
      unfold outF; rw [hc]
      congr 2
      by_cases h2 : i < j
      · simp only [List.getD_eq_getElem?_getD]; rw [List.getElem?_append_left (by omega)]
      · simp only [List.getD_eq_getElem?_getD]; rw [List.getElem?_append_right (by omega), List.getElem?_eq_none (by omega), List.getElem?_eq_none (by simp; omega)]
  · rw [Array.getElem?_eq_none (by simp [rowA_size]; omega), Array.getElem?_eq_none (by rw [rowA_size]; omega)]
theorem copy2 {l : Str} {k j n : Nat} {c : UInt8} (hj : j = (compT (l.take k)).length) (hc : compT (l.take (k + 1)) = compT (l.take k) ++ [63, c]) (_hn : j + 2 ≤ n) : rowA n (splF (outF l k) j 2 (fun i => ([63, c] : Str).getD i 0)) = rowA n (outF l (k + 1)) := by
  apply rowA_congr
  intro i hi
  unfold splF outF
  rw [hc]
  simp only [List.getD_eq_getElem?_getD]
  by_cases h : j ≤ i ∧ i < j + 2
  · rw [if_pos h, List.getElem?_append_right (by omega), ← hj]
  · rw [if_neg h]
    by_cases h2 : i < j
    · rw [List.getElem?_append_left (by omega)]
    · rw [List.getElem?_append_right (by omega), List.getElem?_eq_none (by omega), List.getElem?_eq_none (by simp; omega)]
theorem row2_at (w : World) (b : Nat) (c : UInt8) (h0 : w.cell? ⟨b, 0, none⟩ = some (bv 63)) (h1 : w.cell? ⟨b, 1, none⟩ = some (bv c)) : ∀ j v, (rowL 2 (fun i => ([63, c] : Str).getD i 0))[j]? = some v → w.cell? ((⟨b, 0, none⟩ : Addr).add j) = some v := by
  intro j v hv
  rw [Addr.add_mid, Nat.zero_add]
  have hj : j < 2 := by have := (List.getElem?_eq_some_iff.1 hv).1; rwa [rowL_length] at this
  rw [rowL_get _ hj] at hv
  match j, hj with
  | 0, _ => rw [h0]; exact hv
  | 1, _ => rw [h1]; exact hv
theorem getD_mem (k : Nat) (h : k < 4) : (DE 0).getD k 0 ∈ DE 0 := by
  match k, h with
  | 0, _ => decide
  | 1, _ => decide
  | 2, _ => decide
  | 3, _ => decide
set_option maxRecDepth 100000 in
set_option maxHeartbeats 4000000 in
theorem bsr_any (w : World) (g : Nat) (s : ByteArray) (h : FullAt w g) (hs : s.size ≤ 1048576) :
    Calls Try.prog 110 #[.pointer (some ⟨g, 0, none⟩), .string s] w fun e w' => e = .returned (sv (compT s.data.toList)) ∧ Below w.heap.size w w' := by
  obtain ⟨l, hl⟩ : ∃ l, s.data.toList = l := ⟨_, rfl⟩
  have hll : l.length = s.size := by rw [← hl]; simp
  have HL := Lib.hid hl
  have HLL := Lib.hid hll
  have HFU := Lib.hid h
  have hnl := fun (w : World) (a : Option Addr) (n c n' c' : Nat) => run_neq_slice_nil_any (P := Try.prog) w 32 5 a n c n' c' Try.underlying32
  obtain ⟨nb, cap, k0, hc4, hcm, hnm⟩ := h.names
  have HNM := Lib.hid hnm
  have hsn := sgN_le l
  rw [hll] at hsn
  rw [hl]
  clear hl hll h hnm
  go_enter Try.func110, Try.ntmps110
  go_upto_if 26 with fail
  obtain ⟨d32, hd32⟩ : ∃ d, decide ((32 : Int) ≤ (s.size : Int)) = d := ⟨_, rfl⟩
  rw [hd32]
  clear hd32
  go_cut [5, 6] (fun ns ac wx => ns = .int .i64 ((s.size + sgN l : Nat) : Int) ∧ ac = .bool (decide (0 < sgN l)) ∧ Hid (wx.heap = w.heap) ∧ Hid (Below w.heap.size w wx))
  case first =>
    cases d32
    rotate_left
    · go_wp2_with fail
      go_loopw [5, 6, 32] (fun ns ac i wr => ∃ (k N : Nat) (a : Bool), k ≤ 4 ∧ i = .int .i64 (k : Int) ∧ ns = .int .i64 (N : Int) ∧ ac = .bool a ∧ Hid (N = s.size + cntD l k) ∧ Hid (a = decide (0 < cntD l k)) ∧ Hid (wr.heap = w.heap) ∧ Hid (Below w.heap.size w wr)) (fun _ _ i _ => 4 - (intOf i).toNat)
      case atStart => exact ⟨0, s.size, false, by omega, rfl, rfl, rfl, Lib.hid (by simp [cntD]), Lib.hid (by simp [cntD]), Lib.hid rfl, Lib.hid (Below.refl _ _)⟩
      case round =>
        obtain ⟨k, N, a, hk, rfl, rfl, rfl, HN, HA, HW, HBE⟩ := hrel
        by_cases h4 : k < 4
        · obtain ⟨c, hc⟩ : ∃ c, (DE 0).getD k 0 = c := ⟨_, rfl⟩
          have hcell : wr.cell? ⟨nb, k, none⟩ = some (.string ⟨#[c]⟩) := by
            have := HNM.out k h4
            rw [hc] at this
            exact (cell_ag (by rw [HW.out])).trans this
          have b1 : (0 : Int) ≤ k := by omega
          have b2 : (k : Int) < 4 := by omega
          have hsg : signB c = true := (mem_DE c).1 (by rw [← hc]; exact getD_mem k h4)
          obtain ⟨b, cap2, y1, y2, y3, _⟩ := HFU.out.yes hsg
          have y1' := (cell_ag (g := g) (j := c.toNat) (by rw [HW.out])).trans y1
          obtain ⟨cn, hcn⟩ : ∃ cn, c.toNat = cn := ⟨_, rfl⟩
          have hq : ((⟨#[c]⟩ : ByteArray)[0]'(Nat.zero_lt_one)).toNat = cn := hcn
          have hc256 := c.toNat_lt
          rw [hcn] at y1' hc256
          have b3 : (0 : Int) ≤ cn := by omega
          have b4 : (cn : Int) < 256 := by omega
          have HCO := Lib.hid (fun w => Try.strings_Count_one s c w)
          have hml : l.count c ≤ l.length := List.count_le_length
          have hcs := cntD_succ l k h4
          rw [hc] at hcs
          have HCS := Lib.hid hcs
          rw [HL.out] at HCO
          obtain ⟨m, hm⟩ : ∃ m, Lib.countByte l c = m := ⟨_, rfl⟩
          have hm' : l.count c = m := hm
          rw [HLL.out, hm'] at hml
          rw [hm] at HCO
          rw [hm'] at HCS
          have hNle : N ≤ s.size + s.size := by have h1 := HN.out; have h2 := cntD_mono l k hk; omega
          clear y1 hcn hc hm hm' hsg hcs
          by_cases hm0 : m = 0
          · subst hm0
            go_wp2_with (go_at_call 112; refine (HCO.out _).mono ?_; rintro e w' ⟨rfl, rfl⟩)
            go_roundw
            case rel =>
              have h1 := HCS.out
              rw [Nat.add_zero] at h1
              exact ⟨k + 1, N, a, by omega, by go_num, rfl, rfl, Lib.hid (by rw [h1]; exact HN.out), Lib.hid (by rw [h1]; exact HA.out), HW, HBE⟩
            case measure => simp [intOf]; omega
          · have hm1 : ((m : Int) != 0) = true := by simp; omega
            have w1 : IntKind.i64.wrap ((m : Int) * 1) = (m : Int) := by rw [Int.mul_one]; exact IntWalk.i64_in _ (by omega)
            have w2 : IntKind.i64.wrap ((N : Int) + (m : Int)) = (N : Int) + (m : Int) := IntWalk.i64_in _ (by omega)
            go_upto_region 9 with (go_at_call 112; refine (HCO.out _).mono ?_; rintro e w' ⟨rfl, rfl⟩)
            go_quiet (fail)
            go_wp2_with fail
            go_roundw
            case rel =>
              have h1 := HCS.out
              exact ⟨k + 1, N + m, true, by omega, by go_num, by go_num, rfl, Lib.hid (by rw [h1, HN.out]; omega), Lib.hid (by rw [h1]; symm; rw [decide_eq_true_eq]; omega), Lib.hid HW.out, Lib.hid (HBE.out.trans ⟨rfl, rfl, rfl, Nat.le_refl _, fun _ _ => rfl⟩)⟩
            case measure => simp [intOf]; omega
        · obtain rfl : k = 4 := by omega
          have hNe : s.size + sgN l = N := by rw [HN.out, cntD_four]
          have hAe : decide (0 < sgN l) = a := by rw [HA.out, cntD_four]
          have HNE := Lib.hid hNe
          have HAE := Lib.hid hAe
          clear hNe hAe
          go_wp2_with fail
          go_meet
          case rel => exact ⟨by rw [HNE.out], by rw [HAE.out], HW, HBE⟩
    · go_wp2_with fail
      go_loopw [5, 6, 10] (fun ns ac i wr => ∃ (k N : Nat) (a : Bool), k ≤ s.size ∧ i = .int .i64 (k : Int) ∧ ns = .int .i64 (N : Int) ∧ ac = .bool a ∧ Hid (N = s.size + sgN (l.take k)) ∧ Hid (a = decide (0 < sgN (l.take k))) ∧ wr = w) (fun _ _ i _ => s.size - (intOf i).toNat)
      case atStart => exact ⟨0, s.size, false, by omega, rfl, rfl, rfl, Lib.hid (by simp [sgN]), Lib.hid (by simp [sgN]), rfl⟩
      case round =>
        obtain ⟨k, N, a, hk, rfl, rfl, rfl, HN, HA, rfl⟩ := hrel
        by_cases hlt : k < s.size
        · obtain ⟨c, hc⟩ : ∃ c, s[k]'hlt = c := ⟨_, rfl⟩
          have hcl : l[k]? = some c := by rw [← HL.out, ← hc]; exact at_byte s _ hlt
          have hsu := sgN_take hcl
          have hle := sgN_take_le l k
          have hN := HN.out
          obtain ⟨cn, hcn⟩ : ∃ cn, c.toNat = cn := ⟨_, rfl⟩
          have hc256 := c.toNat_lt
          have hq : (s[k]'hlt).toNat = cn := by rw [hc]; exact hcn
          rw [hcn] at hc256
          have b3 : (0 : Int) ≤ cn := by omega
          have b4 : (cn : Int) < 256 := by omega
          have hNle : N ≤ s.size + s.size := by rw [HLL.out] at hle; omega
          cases hsb : signB c with
          | true =>
            obtain ⟨b, cap2, y1, y2, y3, _⟩ := HFU.out.yes hsb
            rw [hcn] at y1
            rw [hsb, if_pos rfl] at hsu
            have HSU := Lib.hid hsu
            clear hsu hN hc hcl hcn hsb
            go_wp2_with fail
            go_roundw
            case rel =>
              have h1 := HSU.out
              exact ⟨k + 1, N + 1, true, by omega, by go_num, by go_num, rfl, Lib.hid (by rw [h1, HN.out]; omega), Lib.hid (by rw [h1]; symm; rw [decide_eq_true_eq]; omega), trivial⟩
            case measure => simp [intOf]; omega
          | false =>
            have y1 := HFU.out.no hsb
            rw [hcn] at y1
            rw [hsb, if_neg (by simp), Nat.add_zero] at hsu
            have HSU := Lib.hid hsu
            clear hsu hN hc hcl hcn hsb
            go_wp2_with fail
            go_roundw
            case rel =>
              have h1 := HSU.out
              exact ⟨k + 1, N, a, by omega, by go_num, rfl, rfl, Lib.hid (by rw [h1]; exact HN.out), Lib.hid (by rw [h1]; exact HA.out), trivial⟩
            case measure => simp [intOf]; omega
        · obtain rfl : k = s.size := by omega
          have e : l.take s.size = l := List.take_of_length_le (by rw [HLL.out]; exact Nat.le_refl _)
          have hN := HN.out
          have hA := HA.out
          rw [e] at hN hA
          have HNE := Lib.hid hN
          have HAE := Lib.hid hA
          clear hN hA e
          go_wp2_with fail
          go_meet
          case rel => exact ⟨by rw [HNE.out], by rw [HAE.out], Lib.hid rfl, Lib.hid (Below.refl _ _)⟩
  case rest =>
    obtain ⟨rfl, rfl, hh, hb⟩ := hcut
    have HFU2 := Lib.hid (HFU.out.cong (w' := wc) (fun k _ => by rw [hh.out]))
    obtain ⟨n, hn⟩ : ∃ n, s.size + sgN l = n := ⟨_, rfl⟩
    have hn2 : n ≤ 2097152 := by omega
    have HNN := Lib.hid hn
    rw [hn]
    clear k0 HNM hc4 hcm hn
    obtain ⟨A, hA⟩ : ∃ A, decide (0 < sgN l) = A := ⟨_, rfl⟩
    rw [hA]
    by_cases hz : sgN l = 0
    · have hz2 : A = false := by rw [← hA, decide_eq_false_iff_not]; omega
      subst hz2
      clear hA
      have HZ := Lib.hid (compT_same hz)
      clear hz
      go_wp2_with fail
      go_ret
      exact ⟨by rw [HZ.out, ← HL.out]; rfl, hb.out⟩
    · have hz2 : A = true := by rw [← hA, decide_eq_true_eq]; omega
      subst hz2
      clear hA
      have hmk := make_bytesE n (by omega) wc
      have hws := hb.out.size
      have HSZ := Lib.hid hz
      clear hz
      go_upto_block 4 with fail
      obtain ⟨qb, hqb⟩ : ∃ qb, wc.heap.size = qb := ⟨_, rfl⟩
      obtain ⟨w1, hw1⟩ : ∃ w1, wc.alloc (.cells (rowA n fun _ => 0) 5) = w1 := ⟨_, rfl⟩
      have HR1 := Lib.hid (show w1.heap[qb]? = some (.cells (rowA n (outF l 0)) 5 (0, 0)) by rw [← hw1, ← hqb]; exact heap_alloc_new _ _)
      have HO1 := Lib.hid (show ∀ k, k < qb → w1.heap[k]? = wc.heap[k]? by rw [← hw1, ← hqb]; exact fun k hk => Below.heap_alloc _ _ _ hk)
      have HB1 := Lib.hid (show Below w.heap.size w w1 by rw [← hw1]; exact hb.out.alloc hws _)
      rw [hqb] at hws
      have HQB := Lib.hid hqb
      rw [hqb, hw1]
      clear hqb hw1 hmk
      have hgq : g < qb := by rw [← HQB.out]; exact HFU2.out.lt
      go_wp2_with fail
      go_loopw [13, 14] (fun js i wr => ∃ (k j : Nat), k ≤ s.size ∧ i = .int .i64 (k : Int) ∧ js = .int .i64 (j : Int) ∧ Hid (j = (compT (l.take k)).length) ∧ Hid (wr.heap[qb]? = some (.cells (rowA n (outF l k)) 5 (0, 0))) ∧ Hid (∀ k, k < qb → wr.heap[k]? = wc.heap[k]?) ∧ Hid (Below w.heap.size w wr)) (fun _ i _ => s.size - (intOf i).toNat)
      case atStart => exact ⟨0, 0, by omega, rfl, rfl, Lib.hid rfl, HR1, HO1, HB1⟩
      case round =>
        obtain ⟨k, j, hk, rfl, rfl, HJ, HR, HO, HBE⟩ := hrel
        clear HR1 HO1 HB1
        by_cases hlt : k < s.size
        · obtain ⟨c, hc⟩ : ∃ c, s[k]'hlt = c := ⟨_, rfl⟩
          have hcl : l[k]? = some c := by rw [← HL.out, ← hc]; exact at_byte s _ hlt
          have hct := compT_take hcl
          have hnl := outF_fit l
          rw [HLL.out, HNN.out] at hnl
          have hjn := hnl (k + 1)
          rw [hct, List.length_append, ← HJ.out] at hjn
          clear hnl
          obtain ⟨cn, hcn⟩ : ∃ cn, c.toNat = cn := ⟨_, rfl⟩
          have hc256 := c.toNat_lt
          have hq : (s[k]'hlt).toNat = cn := by rw [hc]; exact hcn
          rw [hcn] at hc256
          have b3 : (0 : Int) ≤ cn := by omega
          have b4 : (cn : Int) < 256 := by omega
          have HCT := Lib.hid hct
          cases hsb : signB c with
          | true =>
            obtain ⟨b, cap2, y0, y2, y3, y4, y5⟩ := HFU2.out.yes hsb
            have y1 := (cell_ag (HO.out g hgq)).trans y0
            rw [hcn] at y1
            have he : escB c = [63, c] := by unfold escB; rw [hsb]; rfl
            rw [he] at hjn
            have hjn' : j + 2 ≤ n := by simp at hjn; omega
            have hbq : b < qb := by rw [← HQB.out]; exact cell_lt' y4
            have y4' := (cell_ag (HO.out b hbq)).trans y4
            have y5' := (cell_ag (HO.out b hbq)).trans y5
            have b5 : (0 : Int) ≤ j := by omega
            have b6 : (j : Int) ≤ n := by omega
            have b7 : (j : Int) < n := by omega
            have b8 : ¬ n = j := by omega
            have HN := Lib.hid (copy2 (n := n) HJ.out (by rw [HCT.out, he]) hjn')
            have HJ2 := Lib.hid (show j + 2 = (compT (l.take (k + 1))).length by rw [HCT.out, he, List.length_append, ← HJ.out]; rfl)
            have HSR := Lib.hid (row2_at wr b c y4' y5')
            have w2 : IntKind.i64.wrap ((j : Int) + 2) = (j : Int) + 2 := IntWalk.i64_in _ (by omega)
            clear hct hjn hc hcl hsb he y0 y4 y5 y4' y5'
            go_upto_region 28 with fail
            refine wp_region_plan [(0, false), (1, false), (2, false), (3, false), (4, false), (5, false), (6, false), (7, false), (8, false), (9, false), (10, true), (11, false), (12, false)] (fun w' => w'.cell? ⟨g, cn, none⟩ = some (.slice (some ⟨b, 0, none⟩) 2 cap2)) (by kernel_rfl) (by kernel_rfl) y1 ?_
            iterate 10 (refine' plan_val rfl rfl (fun w' hS => ?_) ?_; rotate_left; (focus (go_simp; rfl)); simp only [Act.put, List.setIfInBounds_toArray, List.set_cons_zero, List.set_cons_succ])
            refine plan_do rfl (fun K hK => ?_)
            refine wpList_val rfl (exec_copy (xv := .slice (some ⟨qb, j, none⟩) (n - j) (n - j)) (yv := .slice (some ⟨b, 0, none⟩) 2 cap2) rfl rfl rfl (fun ty => run_copy_bytes (P := Try.prog) wr.drew 32 32 5 qb j (n - j) (n - j) ⟨b, 0, none⟩ 2 cap2 n 2 (outF l k) (fun i => ([63, c] : Str).getD i 0) 5 Try.underlying32 (by kernel_rfl) HR.out (by show 2 = min 2 (n - j); omega) HSR.out hjn' ty)) ?_
            rw [HN.out]
            have hgq2 : g ≠ qb := by omega
            have y1'' : (wr.drew.setRow qb (rowA n (outF l (k + 1)))).cell? ⟨g, cn, none⟩ = some (.slice (some ⟨b, 0, none⟩) 2 cap2) := (cell_ag (setRow_other wr.drew qb g _ hgq2)).trans y1
            refine hK _ _ y1'' ?_
            clear hK K
            iterate 2 (refine' plan_val rfl rfl (fun w' hS => ?_) ?_; rotate_left; (focus (go_simp; rfl)); simp only [Act.put, List.setIfInBounds_toArray, List.set_cons_zero, List.set_cons_succ])
            refine plan_nil ?_
            have HR2 := Lib.hid (setRow_heap wr.drew qb (rowA n (outF l k)) (rowA n (outF l (k + 1))) _ _ HR.out)
            have HO2 := Lib.hid (show ∀ x, x < qb → (wr.drew.setRow qb (rowA n (outF l (k + 1)))).heap[x]? = wc.heap[x]? from fun x hx => (setRow_other wr.drew qb x _ (by omega)).trans (HO.out x hx))
            have HB2 := Lib.hid (show Below w.heap.size w (wr.drew.setRow qb (rowA n (outF l (k + 1)))) from HBE.out.trans ⟨rfl, rfl, rfl, by simp, fun x hx => setRow_other wr.drew qb x _ (by omega)⟩)
            clear y1'' y1
            go_wp2_with fail
            go_roundw
            case rel => exact ⟨k + 1, j + 2, by omega, by go_num, by go_num, HJ2, HR2, HO2, HB2⟩
            case measure => simp [intOf]; omega
          | false =>
            have y1 := (cell_ag (HO.out g hgq)).trans (HFU2.out.no hsb)
            rw [hcn] at y1
            have he : escB c = [c] := by unfold escB; rw [hsb]; rfl
            rw [he] at hjn
            have hjn' : j < n := by simp at hjn; omega
            have b5 : (0 : Int) ≤ j := by omega
            have b6 : (j : Int) < n := by omega
            have k1 : wr.cell? ⟨qb, j, none⟩ = some (bv (outF l k j)) := by rw [cell_of_row wr qb j _ _ _ HR.out, rowA_get _ hjn']
            have z1 := frozen_of_row wr qb j _ _ HR.out
            have HN := Lib.hid (show (wr.setCell ⟨qb, j, none⟩ (.int .u8 (cn : Int))).heap[qb]? = some (.cells (rowA n (outF l (k + 1))) 5 (0, 0)) by
              rw [heap_setCell_same wr qb j _ _ _ HR.out, ← hcn, outF_set l k j n c HJ.out (by rw [HCT.out, he]) hjn'])
            have HJ2 := Lib.hid (show j + 1 = (compT (l.take (k + 1))).length by rw [HCT.out, he, List.length_append, ← HJ.out]; rfl)
            clear hct hjn hc hcl hcn hsb he HR
            go_wp2_with fail
            go_roundw
            case rel => exact ⟨k + 1, j + 1, by omega, by go_num, by go_num, HJ2, HN, Lib.hid (fun x hx => (heap_setCell_other wr _ _ _ (by simp; omega)).trans (HO.out x hx)), Lib.hid (HBE.out.setCell (by simpa using hws) _)⟩
            case measure => simp [intOf]; omega
        · obtain rfl : k = s.size := by omega
          have e : l.take s.size = l := List.take_of_length_le (by rw [HLL.out]; exact Nat.le_refl _)
          have hR := HR.out
          unfold outF at hR
          rw [e] at hR
          have hcn : (compT l).length = n := by rw [compT_len, HLL.out, HNN.out]
          have hcv : (convert 32 9 (.slice (some ⟨qb, 0, none⟩) n n)).run Try.prog wr = .ok (.string ⟨(compT l).toArray⟩) wr := by
            have := run_convert_bytes_back (P := Try.prog) wr 32 9 5 ⟨qb, 0, none⟩ n (compT l) Try.underlying32 Try.underlying5 Try.underlying9 (fun j hj => by
              rw [Addr.add_mid, Nat.zero_add, cell_of_row wr qb j _ _ _ hR, rowA_get _ (by omega)]
              simp [bv, hj])
            rw [hcn] at this
            exact this
          clear hR hcn e HR
          go_wp2_with fail
          go_ret
          exact ⟨rfl, HBE.out⟩
end Go.Proofs.Ytpfkmklhfafkiaa
