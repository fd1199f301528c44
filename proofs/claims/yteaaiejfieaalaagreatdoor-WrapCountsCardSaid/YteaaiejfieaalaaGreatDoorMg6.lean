/-
  Texts EdiY6, EdiY7, EdiY8, EdiZ1, EdiZ2, EdiA1, EdiA2, one behind the other. No condition beyond those stated in each.
-/
import Derived.Test.YteaaiejfieaalaaGreatDoorMg5
import Derived.Test.YteaaiejfieaalaaGreatDoorMg4
import Derived.Deep.CutBlock
import Derived.Deep.DeepCutAuto
import Derived.Lib.Walk
import Derived.Lib.AppendStr
import Derived.Lib.Join
import Derived.Lib.UnsafeStr
import Derived.Laws.Externs
import Derived.Test.YteaaiejfieaalaaGreatDoorMg1
import Derived.Deep.Slices
import Derived.SliceStrings
import Derived.OpenShut
import Derived.ChangeSame
/-
  EdiY6: contract of (*byteStringReplacer).Replace at the four signs. No condition beyond those stated.
-/
namespace Go.Proofs.YteaaiejfieaalaaGreatDoor
open Go.RowKit
theorem makeBytes_rowE (n : Nat) : madeCells #[.int .u8 0] n = rowA n fun _ => 0 := by
  apply Array.ext_getElem?
  intro j
  by_cases hj : j < n
  · rw [rowA_get _ hj]
    simp only [madeCells, Array.getElem?_map]
    rw [Array.getElem?_eq_getElem (by simpa using hj)]
    simp [Nat.mod_one, bv]
  · rw [Array.getElem?_eq_none (by simp [madeCells]; omega), Array.getElem?_eq_none (by rw [rowA_size]; omega)]
/-- make of bytes -/
theorem make_bytesE (n : Nat) (hn : n ≤ 140737488355328) (u : World) : (Instr.makeSlice 39 (.int .i64 (n : Int)) (.int .i64 (n : Int))).run Tryz.prog u = .ok (.slice (some ⟨u.heap.size, 0, none⟩) n n) (u.alloc (.cells (rowA n fun _ => 0) 5)) := by
  obtain ⟨i0, hi, hz0, hz1, hz2⟩ := info_parts einfo_u8
  have h := run_make (P := Tryz.prog) u 39 5 i0 _ Tryz.underlying39 hi hz0 .i64 .i64 (n : Int) (n : Int) (by omega) (Int.le_refl _) (by rw [hz2]; omega) (by omega)
  rw [h, hz1]
  simp only [Int.toNat_natCast, Value.cells, Nat.mul_one, makeBytes_rowE]
/-- what has been written when k bytes are done -/
def outF (l : Str) (k : Nat) : Sec := fun j => (compT (l.take k)).getD j 0
theorem outF_len (l : Str) (k : Nat) : (compT (l.take k)).length = (l.take k).length + sgN (l.take k) := compT_len _
theorem outF_fit (l : Str) (k' : Nat) : (compT (l.take k')).length ≤ l.length + sgN l := by
  rw [compT_len]
  have := sgN_take_mono l k'
  have : (l.take k').length ≤ l.length := by rw [List.length_take]; omega
  omega
theorem outF_set (l : Str) (k j n : Nat) (c : UInt8) (hj : j = (compT (l.take k)).length) (hc : compT (l.take (k + 1)) = compT (l.take k) ++ [c]) (hn : j < n) : (rowA n (outF l k)).setIfInBounds j (.int .u8 (c.toNat : Int)) = rowA n (outF l (k + 1)) := by
  apply Array.ext_getElem?
  intro i
  by_cases hi : i < n
  · rw [rowA_get _ hi]
    by_cases e : i = j
    · subst e
      rw [Array.getElem?_setIfInBounds_self_of_lt (by rw [rowA_size]; exact hi)]
      unfold outF; rw [hc, hj]; simp [bv]
    · rw [Array.getElem?_setIfInBounds_ne (by omega), rowA_get _ hi]
      unfold outF; rw [hc]
      congr 2
      by_cases h2 : i < j
      · simp only [List.getD_eq_getElem?_getD]; rw [List.getElem?_append_left (by omega)]
      · simp only [List.getD_eq_getElem?_getD]; rw [List.getElem?_append_right (by omega), List.getElem?_eq_none (by omega), List.getElem?_eq_none (by simp; omega)]
  · rw [Array.getElem?_eq_none (by simp [rowA_size]; omega), Array.getElem?_eq_none (by rw [rowA_size]; omega)]
theorem copy2 {l : Str} {k j n : Nat} {c : UInt8} (hj : j = (compT (l.take k)).length) (hc : compT (l.take (k + 1)) = compT (l.take k) ++ [63, c]) (_hn : j + 2 ≤ n) : rowA n (splF (outF l k) j 2 (fun i => ([63, c] : Str).getD i 0)) = rowA n (outF l (k + 1)) := by
  apply rowA_congr
  intro i hi
  unfold splF outF
  rw [hc]
  simp only [List.getD_eq_getElem?_getD]
  by_cases h : j ≤ i ∧ i < j + 2
  · rw [if_pos h, List.getElem?_append_right (by omega), ← hj]
  · rw [if_neg h]
    by_cases h2 : i < j
    · rw [List.getElem?_append_left (by omega)]
    · rw [List.getElem?_append_right (by omega), List.getElem?_eq_none (by omega), List.getElem?_eq_none (by simp; omega)]
theorem row2_at (w : World) (b : Nat) (c : UInt8) (h0 : w.cell? ⟨b, 0, none⟩ = some (bv 63)) (h1 : w.cell? ⟨b, 1, none⟩ = some (bv c)) : ∀ j v, (rowL 2 (fun i => ([63, c] : Str).getD i 0))[j]? = some v → w.cell? ((⟨b, 0, none⟩ : Addr).add j) = some v := by
  intro j v hv
  rw [Addr.add_mid, Nat.zero_add]
  have hj : j < 2 := by have := (List.getElem?_eq_some_iff.1 hv).1; rwa [rowL_length] at this
  rw [rowL_get _ hj] at hv
  match j, hj with
  | 0, _ => rw [h0]; exact hv
  | 1, _ => rw [h1]; exact hv
theorem getD_mem (k : Nat) (h : k < 4) : (DE 0).getD k 0 ∈ DE 0 := by
  match k, h with
  | 0, _ => decide
  | 1, _ => decide
  | 2, _ => decide
  | 3, _ => decide
set_option maxRecDepth 100000 in
set_option maxHeartbeats 4000000 in
theorem bsr_any (w : World) (g : Nat) (s : ByteArray) (h : FullAt w g) (hs : s.size ≤ 1048576) :
    Calls Tryz.prog 155 #[.pointer (some ⟨g, 0, none⟩), .string s] w fun e w' => e = .returned (sv (compT s.data.toList)) ∧ Below w.heap.size w w' := by
  obtain ⟨l, hl⟩ : ∃ l, s.data.toList = l := ⟨_, rfl⟩
  have hll : l.length = s.size := by rw [← hl]; simp
  have HL := Lib.hid hl
  have HLL := Lib.hid hll
  have HFU := Lib.hid h
  have hnl := fun (w : World) (a : Option Addr) (n c n' c' : Nat) => run_neq_slice_nil_any (P := Tryz.prog) w 39 5 a n c n' c' Tryz.underlying39
  obtain ⟨nb, cap, k0, hc4, hcm, hnm⟩ := h.names
  have HNM := Lib.hid hnm
  have hsn := sgN_le l
  rw [hll] at hsn
  rw [hl]
  clear hl hll h hnm
  go_enter Tryz.func155, Tryz.ntmps155
  go_upto_if 26 with fail
  obtain ⟨d32, hd32⟩ : ∃ d, decide ((32 : Int) ≤ (s.size : Int)) = d := ⟨_, rfl⟩
  rw [hd32]
  clear hd32
  go_cut [5, 6] (fun ns ac wx => ns = .int .i64 ((s.size + sgN l : Nat) : Int) ∧ ac = .bool (decide (0 < sgN l)) ∧ Hid (wx.heap = w.heap) ∧ Hid (Below w.heap.size w wx))
  case first =>
    cases d32
    rotate_left
    · go_wp2_with fail
      go_loopw [5, 6, 32] (fun ns ac i wr => ∃ (k N : Nat) (a : Bool), k ≤ 4 ∧ i = .int .i64 (k : Int) ∧ ns = .int .i64 (N : Int) ∧ ac = .bool a ∧ Hid (N = s.size + cntD l k) ∧ Hid (a = decide (0 < cntD l k)) ∧ Hid (wr.heap = w.heap) ∧ Hid (Below w.heap.size w wr)) (fun _ _ i _ => 4 - (intOf i).toNat)
      case atStart => exact ⟨0, s.size, false, by omega, rfl, rfl, rfl, Lib.hid (by simp [cntD]), Lib.hid (by simp [cntD]), Lib.hid rfl, Lib.hid (Below.refl _ _)⟩
      case round =>
        obtain ⟨k, N, a, hk, rfl, rfl, rfl, HN, HA, HW, HBE⟩ := hrel
        by_cases h4 : k < 4
        · obtain ⟨c, hc⟩ : ∃ c, (DE 0).getD k 0 = c := ⟨_, rfl⟩
          have hcell : wr.cell? ⟨nb, k, none⟩ = some (.string ⟨#[c]⟩) := by
            have := HNM.out k h4
            rw [hc] at this
            exact (cell_ag (by rw [HW.out])).trans this
          have b1 : (0 : Int) ≤ k := by omega
          have b2 : (k : Int) < 4 := by omega
          have hsg : signB c = true := (mem_DE c).1 (by rw [← hc]; exact getD_mem k h4)
          obtain ⟨b, cap2, y1, y2, y3, _⟩ := HFU.out.yes hsg
          have y1' := (cell_ag (g := g) (j := c.toNat) (by rw [HW.out])).trans y1
          obtain ⟨cn, hcn⟩ : ∃ cn, c.toNat = cn := ⟨_, rfl⟩
          have hq : ((⟨#[c]⟩ : ByteArray)[0]'(Nat.zero_lt_one)).toNat = cn := hcn
          have hc256 := c.toNat_lt
          rw [hcn] at y1' hc256
          have b3 : (0 : Int) ≤ cn := by omega
          have b4 : (cn : Int) < 256 := by omega
          have HCO := Lib.hid (fun w => Tryz.strings_Count_one s c w)
          have hml : l.count c ≤ l.length := List.count_le_length
          have hcs := cntD_succ l k h4
          rw [hc] at hcs
          have HCS := Lib.hid hcs
          rw [HL.out] at HCO
          obtain ⟨m, hm⟩ : ∃ m, Lib.countByte l c = m := ⟨_, rfl⟩
          have hm' : l.count c = m := hm
          rw [HLL.out, hm'] at hml
          rw [hm] at HCO
          rw [hm'] at HCS
          have hNle : N ≤ s.size + s.size := by have h1 := HN.out; have h2 := cntD_mono l k hk; omega
          clear y1 hcn hc hm hm' hsg hcs
          by_cases hm0 : m = 0
          · subst hm0
            go_wp2_with (go_at_call 157; refine (HCO.out _).mono ?_; rintro e w' ⟨rfl, rfl⟩)
            go_roundw
            case rel =>
              have h1 := HCS.out
              rw [Nat.add_zero] at h1
              exact ⟨k + 1, N, a, by omega, by go_num, rfl, rfl, Lib.hid (by rw [h1]; exact HN.out), Lib.hid (by rw [h1]; exact HA.out), HW, HBE⟩
            case measure => simp [intOf]; omega
          · have hm1 : ((m : Int) != 0) = true := by simp; omega
            have w1 : IntKind.i64.wrap ((m : Int) * 1) = (m : Int) := by rw [Int.mul_one]; exact IntWalk.i64_in _ (by omega)
            have w2 : IntKind.i64.wrap ((N : Int) + (m : Int)) = (N : Int) + (m : Int) := IntWalk.i64_in _ (by omega)
            go_upto_region 9 with (go_at_call 157; refine (HCO.out _).mono ?_; rintro e w' ⟨rfl, rfl⟩)
            go_quiet (fail)
            go_wp2_with fail
            go_roundw
            case rel =>
              have h1 := HCS.out
              exact ⟨k + 1, N + m, true, by omega, by go_num, by go_num, rfl, Lib.hid (by rw [h1, HN.out]; omega), Lib.hid (by rw [h1]; symm; rw [decide_eq_true_eq]; omega), Lib.hid HW.out, Lib.hid (HBE.out.trans ⟨rfl, rfl, rfl, Nat.le_refl _, fun _ _ => rfl⟩)⟩
            case measure => simp [intOf]; omega
        · obtain rfl : k = 4 := by omega
          have hNe : s.size + sgN l = N := by rw [HN.out, cntD_four]
          have hAe : decide (0 < sgN l) = a := by rw [HA.out, cntD_four]
          have HNE := Lib.hid hNe
          have HAE := Lib.hid hAe
          clear hNe hAe
          go_wp2_with fail
          go_meet
          case rel => exact ⟨by rw [HNE.out], by rw [HAE.out], HW, HBE⟩
    · go_wp2_with fail
      go_loopw [5, 6, 10] (fun ns ac i wr => ∃ (k N : Nat) (a : Bool), k ≤ s.size ∧ i = .int .i64 (k : Int) ∧ ns = .int .i64 (N : Int) ∧ ac = .bool a ∧ Hid (N = s.size + sgN (l.take k)) ∧ Hid (a = decide (0 < sgN (l.take k))) ∧ wr = w) (fun _ _ i _ => s.size - (intOf i).toNat)
      case atStart => exact ⟨0, s.size, false, by omega, rfl, rfl, rfl, Lib.hid (by simp [sgN]), Lib.hid (by simp [sgN]), rfl⟩
      case round =>
        obtain ⟨k, N, a, hk, rfl, rfl, rfl, HN, HA, rfl⟩ := hrel
        by_cases hlt : k < s.size
        · obtain ⟨c, hc⟩ : ∃ c, s[k]'hlt = c := ⟨_, rfl⟩
          have hcl : l[k]? = some c := by rw [← HL.out, ← hc]; exact at_byte s _ hlt
          have hsu := sgN_take hcl
          have hle := sgN_take_le l k
          have hN := HN.out
          obtain ⟨cn, hcn⟩ : ∃ cn, c.toNat = cn := ⟨_, rfl⟩
          have hc256 := c.toNat_lt
          have hq : (s[k]'hlt).toNat = cn := by rw [hc]; exact hcn
          rw [hcn] at hc256
          have b3 : (0 : Int) ≤ cn := by omega
          have b4 : (cn : Int) < 256 := by omega
          have hNle : N ≤ s.size + s.size := by rw [HLL.out] at hle; omega
          cases hsb : signB c with
          | true =>
            obtain ⟨b, cap2, y1, y2, y3, _⟩ := HFU.out.yes hsb
            rw [hcn] at y1
            rw [hsb, if_pos rfl] at hsu
            have HSU := Lib.hid hsu
            clear hsu hN hc hcl hcn hsb
            go_wp2_with fail
            go_roundw
            case rel =>
              have h1 := HSU.out
              exact ⟨k + 1, N + 1, true, by omega, by go_num, by go_num, rfl, Lib.hid (by rw [h1, HN.out]; omega), Lib.hid (by rw [h1]; symm; rw [decide_eq_true_eq]; omega), trivial⟩
            case measure => simp [intOf]; omega
          | false =>
            have y1 := HFU.out.no hsb
            rw [hcn] at y1
            rw [hsb, if_neg (by simp), Nat.add_zero] at hsu
            have HSU := Lib.hid hsu
            clear hsu hN hc hcl hcn hsb
            go_wp2_with fail
            go_roundw
            case rel =>
              have h1 := HSU.out
              exact ⟨k + 1, N, a, by omega, by go_num, rfl, rfl, Lib.hid (by rw [h1]; exact HN.out), Lib.hid (by rw [h1]; exact HA.out), trivial⟩
            case measure => simp [intOf]; omega
        · obtain rfl : k = s.size := by omega
          have e : l.take s.size = l := List.take_of_length_le (by rw [HLL.out]; exact Nat.le_refl _)
          have hN := HN.out
          have hA := HA.out
          rw [e] at hN hA
          have HNE := Lib.hid hN
          have HAE := Lib.hid hA
          clear hN hA e
          go_wp2_with fail
          go_meet
          case rel => exact ⟨by rw [HNE.out], by rw [HAE.out], Lib.hid rfl, Lib.hid (Below.refl _ _)⟩
  case rest =>
    obtain ⟨rfl, rfl, hh, hb⟩ := hcut
    have HFU2 := Lib.hid (HFU.out.cong (w' := wc) (fun k _ => by rw [hh.out]))
    obtain ⟨n, hn⟩ : ∃ n, s.size + sgN l = n := ⟨_, rfl⟩
    have hn2 : n ≤ 2097152 := by omega
    have HNN := Lib.hid hn
    rw [hn]
    clear k0 HNM hc4 hcm hn
    obtain ⟨A, hA⟩ : ∃ A, decide (0 < sgN l) = A := ⟨_, rfl⟩
    rw [hA]
    by_cases hz : sgN l = 0
    · have hz2 : A = false := by rw [← hA, decide_eq_false_iff_not]; omega
      subst hz2
      clear hA
      have HZ := Lib.hid (compT_same hz)
      clear hz
      go_wp2_with fail
      go_ret
      exact ⟨by rw [HZ.out, ← HL.out]; rfl, hb.out⟩
    · have hz2 : A = true := by rw [← hA, decide_eq_true_eq]; omega
      subst hz2
      clear hA
      have hmk := make_bytesE n (by omega) wc
      have hws := hb.out.size
      have HSZ := Lib.hid hz
      clear hz
      go_upto_block 4 with fail
      obtain ⟨qb, hqb⟩ : ∃ qb, wc.heap.size = qb := ⟨_, rfl⟩
      obtain ⟨w1, hw1⟩ : ∃ w1, wc.alloc (.cells (rowA n fun _ => 0) 5) = w1 := ⟨_, rfl⟩
      have HR1 := Lib.hid (show w1.heap[qb]? = some (.cells (rowA n (outF l 0)) 5 (0, 0)) by rw [← hw1, ← hqb]; exact heap_alloc_new _ _)
      have HO1 := Lib.hid (show ∀ k, k < qb → w1.heap[k]? = wc.heap[k]? by rw [← hw1, ← hqb]; exact fun k hk => Below.heap_alloc _ _ _ hk)
      have HB1 := Lib.hid (show Below w.heap.size w w1 by rw [← hw1]; exact hb.out.alloc hws _)
      rw [hqb] at hws
      have HQB := Lib.hid hqb
      rw [hqb, hw1]
      clear hqb hw1 hmk
      have hgq : g < qb := by rw [← HQB.out]; exact HFU2.out.lt
      go_wp2_with fail
      go_loopw [13, 14] (fun js i wr => ∃ (k j : Nat), k ≤ s.size ∧ i = .int .i64 (k : Int) ∧ js = .int .i64 (j : Int) ∧ Hid (j = (compT (l.take k)).length) ∧ Hid (wr.heap[qb]? = some (.cells (rowA n (outF l k)) 5 (0, 0))) ∧ Hid (∀ k, k < qb → wr.heap[k]? = wc.heap[k]?) ∧ Hid (Below w.heap.size w wr)) (fun _ i _ => s.size - (intOf i).toNat)
      case atStart => exact ⟨0, 0, by omega, rfl, rfl, Lib.hid rfl, HR1, HO1, HB1⟩
      case round =>
        obtain ⟨k, j, hk, rfl, rfl, HJ, HR, HO, HBE⟩ := hrel
        clear HR1 HO1 HB1
        by_cases hlt : k < s.size
        · obtain ⟨c, hc⟩ : ∃ c, s[k]'hlt = c := ⟨_, rfl⟩
          have hcl : l[k]? = some c := by rw [← HL.out, ← hc]; exact at_byte s _ hlt
          have hct := compT_take hcl
          have hnl := outF_fit l
          rw [HLL.out, HNN.out] at hnl
          have hjn := hnl (k + 1)
          rw [hct, List.length_append, ← HJ.out] at hjn
          clear hnl
          obtain ⟨cn, hcn⟩ : ∃ cn, c.toNat = cn := ⟨_, rfl⟩
          have hc256 := c.toNat_lt
          have hq : (s[k]'hlt).toNat = cn := by rw [hc]; exact hcn
          rw [hcn] at hc256
          have b3 : (0 : Int) ≤ cn := by omega
          have b4 : (cn : Int) < 256 := by omega
          have HCT := Lib.hid hct
          cases hsb : signB c with
          | true =>
            obtain ⟨b, cap2, y0, y2, y3, y4, y5⟩ := HFU2.out.yes hsb
            have y1 := (cell_ag (HO.out g hgq)).trans y0
            rw [hcn] at y1
            have he : escB c = [63, c] := by unfold escB; rw [hsb]; rfl
            rw [he] at hjn
            have hjn' : j + 2 ≤ n := by simp at hjn; omega
            have hbq : b < qb := by rw [← HQB.out]; exact cell_lt' y4
            have y4' := (cell_ag (HO.out b hbq)).trans y4
            have y5' := (cell_ag (HO.out b hbq)).trans y5
            have b5 : (0 : Int) ≤ j := by omega
            have b6 : (j : Int) ≤ n := by omega
            have b7 : (j : Int) < n := by omega
            have b8 : ¬ n = j := by omega
            have HN := Lib.hid (copy2 (n := n) HJ.out (by rw [HCT.out, he]) hjn')
            have HJ2 := Lib.hid (show j + 2 = (compT (l.take (k + 1))).length by rw [HCT.out, he, List.length_append, ← HJ.out]; rfl)
            have HSR := Lib.hid (row2_at wr b c y4' y5')
            have w2 : IntKind.i64.wrap ((j : Int) + 2) = (j : Int) + 2 := IntWalk.i64_in _ (by omega)
            clear hct hjn hc hcl hsb he y0 y4 y5 y4' y5'
            go_upto_region 28 with fail
            refine wp_region_plan [(0, false), (1, false), (2, false), (3, false), (4, false), (5, false), (6, false), (7, false), (8, false), (9, false), (10, true), (11, false), (12, false)] (fun w' => w'.cell? ⟨g, cn, none⟩ = some (.slice (some ⟨b, 0, none⟩) 2 cap2)) (by kernel_rfl) (by kernel_rfl) y1 ?_
            iterate 10 (refine' plan_val rfl rfl (fun w' hS => ?_) ?_; rotate_left; (focus (go_simp; rfl)); simp only [Act.put, List.setIfInBounds_toArray, List.set_cons_zero, List.set_cons_succ])
            refine plan_do rfl (fun K hK => ?_)
            refine wpList_val rfl (exec_copy (xv := .slice (some ⟨qb, j, none⟩) (n - j) (n - j)) (yv := .slice (some ⟨b, 0, none⟩) 2 cap2) rfl rfl rfl (fun ty => run_copy_bytes (P := Tryz.prog) wr.drew 39 39 5 qb j (n - j) (n - j) ⟨b, 0, none⟩ 2 cap2 n 2 (outF l k) (fun i => ([63, c] : Str).getD i 0) 5 Tryz.underlying39 (by kernel_rfl) HR.out (by show 2 = min 2 (n - j); omega) HSR.out hjn' ty)) ?_
            rw [HN.out]
            have hgq2 : g ≠ qb := by omega
            have y1'' : (wr.drew.setRow qb (rowA n (outF l (k + 1)))).cell? ⟨g, cn, none⟩ = some (.slice (some ⟨b, 0, none⟩) 2 cap2) := (cell_ag (setRow_other wr.drew qb g _ hgq2)).trans y1
            refine hK _ _ y1'' ?_
            clear hK K
            iterate 2 (refine' plan_val rfl rfl (fun w' hS => ?_) ?_; rotate_left; (focus (go_simp; rfl)); simp only [Act.put, List.setIfInBounds_toArray, List.set_cons_zero, List.set_cons_succ])
            refine plan_nil ?_
            have HR2 := Lib.hid (setRow_heap wr.drew qb (rowA n (outF l k)) (rowA n (outF l (k + 1))) _ _ HR.out)
            have HO2 := Lib.hid (show ∀ x, x < qb → (wr.drew.setRow qb (rowA n (outF l (k + 1)))).heap[x]? = wc.heap[x]? from fun x hx => (setRow_other wr.drew qb x _ (by omega)).trans (HO.out x hx))
            have HB2 := Lib.hid (show Below w.heap.size w (wr.drew.setRow qb (rowA n (outF l (k + 1)))) from HBE.out.trans ⟨rfl, rfl, rfl, by simp, fun x hx => setRow_other wr.drew qb x _ (by omega)⟩)
            clear y1'' y1
            go_wp2_with fail
            go_roundw
            case rel => exact ⟨k + 1, j + 2, by omega, by go_num, by go_num, HJ2, HR2, HO2, HB2⟩
            case measure => simp [intOf]; omega
          | false =>
            have y1 := (cell_ag (HO.out g hgq)).trans (HFU2.out.no hsb)
            rw [hcn] at y1
            have he : escB c = [c] := by unfold escB; rw [hsb]; rfl
            rw [he] at hjn
            have hjn' : j < n := by simp at hjn; omega
            have b5 : (0 : Int) ≤ j := by omega
            have b6 : (j : Int) < n := by omega
            have k1 : wr.cell? ⟨qb, j, none⟩ = some (bv (outF l k j)) := by rw [cell_of_row wr qb j _ _ _ HR.out, rowA_get _ hjn']
            have z1 := frozen_of_row wr qb j _ _ HR.out
            have HN := Lib.hid (show (wr.setCell ⟨qb, j, none⟩ (.int .u8 (cn : Int))).heap[qb]? = some (.cells (rowA n (outF l (k + 1))) 5 (0, 0)) by
              rw [heap_setCell_same wr qb j _ _ _ HR.out, ← hcn, outF_set l k j n c HJ.out (by rw [HCT.out, he]) hjn'])
            have HJ2 := Lib.hid (show j + 1 = (compT (l.take (k + 1))).length by rw [HCT.out, he, List.length_append, ← HJ.out]; rfl)
            clear hct hjn hc hcl hcn hsb he HR
            go_wp2_with fail
            go_roundw
            case rel => exact ⟨k + 1, j + 1, by omega, by go_num, by go_num, HJ2, HN, Lib.hid (fun x hx => (heap_setCell_other wr _ _ _ (by simp; omega)).trans (HO.out x hx)), Lib.hid (HBE.out.setCell (by simpa using hws) _)⟩
            case measure => simp [intOf]; omega
        · obtain rfl : k = s.size := by omega
          have e : l.take s.size = l := List.take_of_length_le (by rw [HLL.out]; exact Nat.le_refl _)
          have hR := HR.out
          unfold outF at hR
          rw [e] at hR
          have hcn : (compT l).length = n := by rw [compT_len, HLL.out, HNN.out]
          have hcv : (convert 39 9 (.slice (some ⟨qb, 0, none⟩) n n)).run Tryz.prog wr = .ok (.string ⟨(compT l).toArray⟩) wr := by
            have := run_convert_bytes_back (P := Tryz.prog) wr 39 9 5 ⟨qb, 0, none⟩ n (compT l) Tryz.underlying39 Tryz.underlying5 Tryz.underlying9 (fun j hj => by
              rw [Addr.add_mid, Nat.zero_add, cell_of_row wr qb j _ _ _ hR, rowA_get _ (by omega)]
              simp [bv, hj])
            rw [hcn] at this
            exact this
          clear hR hcn e HR
          go_wp2_with fail
          go_ret
          exact ⟨rfl, HBE.out⟩
end Go.Proofs.YteaaiejfieaalaaGreatDoor

/-
  EdiY7: contract of (*Replacer).Replace at the four signs. No condition beyond those stated.
-/
namespace Go.Proofs.YteaaiejfieaalaaGreatDoor
open Go.RowKit
theorem TabAt.full {w : World} {B g : Nat} (h : TabAt w B g (DE 0) (DE 0)) : FullAt w g := by
  obtain ⟨C, tv, h⟩ := h; exact ⟨B, C, tv, h⟩
theorem method_repl (a : Addr) (w : World) : (method 326 148 (.pointer (some a)) "Replace").run Tryz.prog w = .ok (155, .pointer (some a)) w := by kernel_rfl
set_option maxRecDepth 100000 in
theorem replace_any (w : World) (rb ob cap : Nat) (r : Value) (s : ByteArray) (hs : s.size ≤ 1048576) (hR : RepAt w rb 0 0 r (.slice (some ⟨ob, 0, none⟩) 8 cap)) (hO : OldAt w ob) (hne : ob ≠ rb) (hcap : 8 ≤ cap) (hc2 : cap ≤ maxLen) :
    Calls Tryz.prog 38 #[.pointer (some ⟨rb, 0, none⟩), .string s] w fun e w' => e = .returned (sv (compT s.data.toList)) ∧ Fr [rb] w w' := by
  have HD := Lib.hid (do_any w rb ob cap r hR hO hne hcap hc2)
  have hm := fun w g => method_repl ⟨g, 0, none⟩ w
  clear hR hO hc2
  go_enter Tryz.func38, Tryz.ntmps38
  go_wp2_with first | (go_at_call 155; refine HS.out.mono ?_; rintro e w2 ⟨rfl, hb2⟩; have HB2 := Lib.hid hb2; clear hb2) | (go_at_call 51; refine HD.out.mono ?_; rintro e w1 ⟨rfl, ⟨g, hr, ht⟩, hf⟩; have HT := Lib.hid ht.full; have HF := Lib.hid hf; have c3 := hr.cell 3; have HS := Lib.hid (bsr_any w1 g s HT.out hs); unfold repV at *; clear hr ht hf)
  go_ret
  exact ⟨rfl, HF.out.then_below HB2.out HF.out.size⟩
end Go.Proofs.YteaaiejfieaalaaGreatDoor

/-
  EdiY8: contracts of the Builder's WriteString, and of join. No condition beyond those stated.
-/
namespace Go.Proofs.YteaaiejfieaalaaGreatDoor
open Go.RowKit
theorem lies_bld : liesAt Tryz.prog Tryz.prog.depth 72 (2 / Tryz.prog.cellsOf 72) 0 72 1 = true := by kernel_rfl
theorem size_bld : (Tryz.prog.info? 72).map (·.size) = some 2 := by kernel_rfl
set_option maxRecDepth 100000 in
set_option maxHeartbeats 1000000 in
theorem copyCheck_used (b : Nat) (w : World) (h0 : w.cell? ⟨b, 0, none⟩ = some (.pointer (some ⟨b, 0, none⟩))) :
    Calls Tryz.prog 54 #[.pointer (some ⟨b, 0, none⟩)] w fun e w' => e = .returned (.tuple #[]) ∧ w' = w := by
  obtain ⟨j, hj, _⟩ := Option.map_eq_some_iff.1 size_bld
  go_enter Tryz.func54, Tryz.ntmps54
  go_wp2
  rw [Lib.run_neq_ptr_same w _ Tryz.underlying70 hj]
  go_wp2
  go_end0
  exact ⟨rfl, rfl⟩
set_option maxRecDepth 100000 in
set_option maxHeartbeats 1000000 in
theorem copyCheck_fresh (b : Nat) (w : World) (h0 : w.cell? ⟨b, 0, none⟩ = some (.pointer none)) (hsh : w.shape? b = some (72, 2)) (hfz : w.frozen? ⟨b, 0, none⟩ = false) :
    Calls Tryz.prog 54 #[.pointer (some ⟨b, 0, none⟩)] w fun e w' => e = .returned (.tuple #[]) ∧ w' = w.setCell ⟨b, 0, none⟩ (.pointer (some ⟨b, 0, none⟩)) := by
  obtain ⟨j, hj, hjs⟩ := Option.map_eq_some_iff.1 size_bld
  go_enter Tryz.func54, Tryz.ntmps54
  go_wp2
  rw [Lib.run_to_unsafe w ⟨b, 0, none⟩ Tryz.underlying70 Tryz.underlying120 hj (by rw [hjs]; decide) hsh (Nat.zero_lt_succ 1)]
  simp only [Result.andThen]
  rw [Oper.upon_value]
  go_wp2
  rw [run_callFunc_extern Tryz.func65 (by kernel_rfl) (by kernel_rfl) (by kernel_rfl) (e := Extern.AbiNoEscape.same) (by kernel_rfl)]
  rw [Lib.run_noEscape]
  simp only [Result.andThen]
  rw [Oper.upon_value]
  go_wp2
  rw [Lib.run_from_unsafe w ⟨b, 0, none⟩ Tryz.underlying120 Tryz.underlying70 hj hsh lies_bld]
  simp only [Result.andThen]
  rw [Oper.upon_value]
  go_wp2
  go_end0
  exact ⟨rfl, rfl⟩
/-- a Builder in memory, and what it holds -/
def BldAt (w : World) (B b : Nat) (l : Str) : Prop := Lib.IsBuilder 72 5 B b (Lib.byteCells l) w
theorem copyCheck_any (B b : Nat) (bs : List Value) (w : World) (h : Lib.IsBuilder 72 5 B b bs w) :
    Calls Tryz.prog 54 #[.pointer (some ⟨b, 0, none⟩)] w fun e w' => e = .returned (.tuple #[]) ∧ Lib.BuilderAt 72 5 B b (.pointer (some ⟨b, 0, none⟩)) bs w' ∧ Below B w w' := by
  rcases h with h | h
  · refine (copyCheck_fresh b w h.cell0 h.shape h.frozen0).mono ?_
    rintro e w' ⟨rfl, rfl⟩
    exact ⟨rfl, h.used _, (Below.refl _ _).setCell h.1 _⟩
  · refine (copyCheck_used b w h.cell0).mono ?_
    rintro e w' ⟨rfl, rfl⟩
    exact ⟨rfl, h, Below.refl _ _⟩
set_option maxRecDepth 100000 in
set_option maxHeartbeats 2000000 in
theorem writeString_any (B b : Nat) (l : Str) (s : ByteArray) (w : World) (h : BldAt w B b l) (hlen : l.length + s.size ≤ 140737488355328) (hBw : B ≤ w.heap.size) :
    Calls Tryz.prog 40 #[.pointer (some ⟨b, 0, none⟩), .string s] w fun e w' => e = .returned (.tuple #[.int .i64 s.size, .nilIface]) ∧ BldAt w' B b (l ++ s.data.toList) ∧ Below B w w' := by
  obtain ⟨i0, hi, hz0, hz1, hz2⟩ := info_parts einfo_u8
  have hbl : (Lib.byteCells l).length = l.length := Lib.byteCells_length l
  obtain ⟨bs, hbs⟩ : ∃ bs, Lib.byteCells l = bs := ⟨_, rfl⟩
  have HBS := Lib.hid hbs
  unfold BldAt at h ⊢
  rw [hbs] at h hbl
  have hlen' : bs.length + s.size ≤ 140737488355328 := by omega
  have HC := Lib.hid (copyCheck_any B b bs w h)
  clear hbs hbl h hlen
  go_enter Tryz.func40, Tryz.ntmps40
  go_wp2_with (go_at_call 54; refine HC.out.mono ?_)
  rintro e w1 ⟨rfl, h1, hb1⟩
  obtain ⟨hB, v, hbk, hown, hne⟩ := h1
  have c0 : w1.cell? ⟨b, 0, none⟩ = some (.pointer (some ⟨b, 0, none⟩)) := by rw [cell_of_row w1 b 0 _ _ _ hbk]; rfl
  have c1 : w1.cell? ⟨b, 1, none⟩ = some v := by rw [cell_of_row w1 b 1 _ _ _ hbk]; rfl
  go_wp2_with (at_builtin; refine Lib.wpList_append_own_string _ rfl _ _ 39 9 rfl B 5 i0 Tryz.underlying39 Tryz.underlying9 hi hz0 hz1 hz2 _ _ _ rfl hown s rfl ?c3 ?c4 ?c5 ?_)
  case c3 => unfold maxLen; omega
  case c4 => omega
  case c5 => have := hb1.size; omega
  intro v' w2 hown' hgrow _
  have hlt : b < w1.heap.size := (Array.getElem?_eq_some_iff.1 hbk).1
  have hb2 : w2.heap[b]? = some (.cells #[.pointer (some ⟨b, 0, none⟩), v] 72 (0, 0)) := by
    rw [hgrow.block b hlt (fun e => hne e.symm)]
    exact hbk
  have d0 : w2.cell? ⟨b, 0, none⟩ = some (.pointer (some ⟨b, 0, none⟩)) := by rw [cell_of_row w2 b 0 _ _ _ hb2]; rfl
  have d1 : w2.cell? ⟨b, 1, none⟩ = some v := by rw [cell_of_row w2 b 1 _ _ _ hb2]; rfl
  have f1 : w2.frozen? ⟨b, 1, none⟩ = false := frozen_of_row w2 b 1 _ _ hb2
  obtain ⟨ao, n', cap, rfl⟩ : ∃ ao n' cap, v' = .slice ao n' cap := by
    rcases hown'.2 with ⟨hv, _⟩ | ⟨g, cap, cur, hv, _⟩
    · exact ⟨_, _, _, hv⟩
    · exact ⟨_, _, _, hv⟩
  go_wp2
  go_ret2
  refine ⟨rfl, .inr ?_, ?_⟩
  · have hbe : Lib.byteCells (l ++ s.data.toList) = bs ++ Lib.strCells s := by rw [← HBS.out]; simp [Lib.byteCells, Lib.strCells]
    rw [hbe]
    exact Lib.BuilderAt.put (T := 72) (e := 5) hB hb2 (bs' := bs ++ Lib.strCells s) (by simpa [Lib.strCells_length] using hown') (by decide)
  · exact (hb1.grown hgrow (by have := hb1.size; omega) (fun k hk => (hown.lt k hk).1)).setCell (p := ⟨b, 1, none⟩) hB _
theorem joinB_eq (c : UInt8) (xs : List Str) : joinB c xs = Lib.join xs [c] := by
  cases xs with
  | nil => rfl
  | cons a l =>
    rw [joinB_cons, Lib.join_cons, Lib.joinTail, List.flatMap_def]
    rfl
theorem sv_bytes (s : Str) : (⟨s.toArray⟩ : ByteArray).data.toList = s := rfl
set_option maxRecDepth 100000 in
theorem join_any {S : Nat → Prop} (w : World) (c : UInt8) (v : Value) (xs : List Str) (h : CompsAt S w v xs) (hN : xs.length ≤ 1048576) (hl : (joinB c xs).length ≤ 140737488355328) :
    Calls Tryz.prog 39 #[.string ⟨#[c]⟩, v] w fun e w' => e = .returned (sv (joinB c xs)) ∧ Below w.heap.size w w' := by
  obtain ⟨ao, cap, rfl, h1, h2, h3, h4⟩ := h
  rw [List.length_map] at h1 ⊢
  have HJ : Hid (Calls Tryz.prog 53 #[.slice ao xs.length cap, .string ⟨#[c]⟩] w fun e w' => e = .returned (sv (joinB c xs)) ∧ Below w.heap.size w w') := Lib.hid (by
    cases xs with
    | nil => exact (Tryz.strings_Join_none ao cap ⟨#[c]⟩ w).mono (fun e w' ⟨h, h'⟩ => ⟨h, h' ▸ Below.refl _ _⟩)
    | cons a l =>
      obtain ⟨b, off, rfl, _, hc⟩ := h4 (by simp)
      have hb : b < w.heap.size := cell_lt' (hc 0 (sv a) (by simp))
      have hm : (((a :: l).map fun s => (⟨s.toArray⟩ : ByteArray)).map (·.data.toList)) = a :: l := by rw [List.map_map]; exact List.map_id _
      have := Tryz.strings_Join b off cap ((a :: l).map fun s => ⟨s.toArray⟩) ⟨#[c]⟩ w (fun j x hx => by
        rw [List.getElem?_map, Option.map_eq_some_iff] at hx
        obtain ⟨y, hy, rfl⟩ := hx
        exact hc j (sv y) (by rw [List.getElem?_map, hy]; rfl)) hb (by simp at hN ⊢; omega) (by simpa using h1) (by rw [hm, ← joinB_eq]; exact hl)
      rw [hm, ← joinB_eq, List.length_map] at this
      exact this)
  obtain ⟨J, hJ⟩ : ∃ J, sv (joinB c xs) = J := ⟨_, rfl⟩
  rw [hJ] at HJ ⊢
  clear hJ h3 h4
  go_enter Tryz.func39, Tryz.ntmps39
  go_wp2_with (go_at_call 53; refine HJ.out.mono ?_; rintro e w1 ⟨rfl, hb⟩)
  go_ret
  exact ⟨rfl, hb⟩
end Go.Proofs.YteaaiejfieaalaaGreatDoor

/-
  EdiZ1: words for the printer: flags by prefix, Clone, Builders that stay. No condition beyond those stated.
-/
namespace Go.Proofs.YteaaiejfieaalaaGreatDoor
open Go.RowKit
def argE (es : List (List Str)) : Bool := es.any fun e => e.isEmpty
def signC (e : List Str) : Bool := e.any fun p => p.any badB
def signE (es : List (List Str)) : Bool := es.any signC
def longC (e : List Str) : Bool := e.any fun p => decide (256 < p.length)
def longE (es : List (List Str)) : Bool := es.any fun e => decide (8 < e.length) || longC e
def argS (s : Seg) : Bool := tagBad s.tag || argE s.elems
def longS (s : Seg) : Bool := decide (16 < s.elems.length) || longE s.elems
theorem argP_eq (l : List Seg) : argP l = l.any argS := rfl
theorem signP_eq (l : List Seg) : signP l = l.any fun s => signE s.elems := rfl
theorem longP_eq (l : List Seg) : longP l = (decide (64 < l.length) || l.any longS) := rfl
theorem any_take {α : Type} {l : List α} {k : Nat} {x : α} (f : α → Bool) (h : l[k]? = some x) : (l.take (k + 1)).any f = ((l.take k).any f || f x) := by
  rw [List.take_add_one, h]; simp [List.any_append]
theorem printT_take {l : List Seg} {k : Nat} {s : Seg} (h : l[k]? = some s) : printT (l.take (k + 1)) = printT (l.take k) ++ segT s := by
  rw [List.take_add_one, h]; simp [printT]
/-- the words of a segment, joined -/
theorem joinB_words (t : Str) (es : List (List Str)) : joinB 43 (t :: es.map elemT) ++ [39] = segT ⟨t, es⟩ := by
  unfold segT
  rw [joinB_cons, List.flatMap_map]
theorem map_take_succ {α β : Type} {l : List α} {k : Nat} {x : α} (f : α → β) (h : l[k]? = some x) : (l.take (k + 1)).map f = (l.take k).map f ++ [f x] := by
  rw [List.take_add_one, h]; simp
/-- parts when i of them are done -/
def partsL (e : List Str) (i : Nat) : List Str := (e.take i).map compT ++ e.drop i
theorem partsL_zero (e : List Str) : partsL e 0 = e := rfl
theorem partsL_all (e : List Str) : partsL e e.length = e.map compT := by unfold partsL; rw [List.take_length, List.drop_length, List.append_nil]
theorem partsL_len (e : List Str) (i : Nat) : (partsL e i).length = e.length := by unfold partsL; rw [List.length_append, List.length_map, ← List.length_append, List.take_append_drop]
theorem partsL_get {e : List Str} {i : Nat} {p : Str} (h : e[i]? = some p) : (partsL e i)[i]? = some p := by
  have hi : i < e.length := (List.getElem?_eq_some_iff.1 h).1
  unfold partsL
  rw [List.getElem?_append_right (by simp; omega), List.getElem?_drop]
  simp
  rw [show i + (i - min i e.length) = i by omega]; exact h
theorem partsL_set {e : List Str} {i : Nat} {p : Str} (h : e[i]? = some p) : (partsL e i).set i (compT p) = partsL e (i + 1) := by
  have hi : i < e.length := (List.getElem?_eq_some_iff.1 h).1
  have hd : e.drop i = p :: e.drop (i + 1) := by
    obtain ⟨_, he⟩ := List.getElem?_eq_some_iff.1 h
    rw [List.drop_eq_getElem_cons hi, he]
  unfold partsL
  rw [map_take_succ compT h, List.set_append_right _ _ (by simp; omega), hd]
  simp [Nat.min_eq_left (Nat.le_of_lt hi)]
theorem BldAt.cong {w w' : World} {B b : Nat} {l : Str} (h : BldAt w B b l) (e : ∀ (k : Nat) (C : Array Value) (f : Nat × Nat) (t : TypeId), w.heap[k]? = some (.cells C t f) → t ≠ 9 → w'.heap[k]? = w.heap[k]?) : BldAt w' B b l := by
  have H : ∀ p, Lib.BuilderAt 72 5 B b p (Lib.byteCells l) w → Lib.BuilderAt 72 5 B b p (Lib.byteCells l) w' := fun p ⟨hB, v, hb, ho, hn⟩ => by
    refine ⟨hB, v, (e b _ _ _ hb (by decide)).trans hb, own_cong ho (fun k hk => ?_), hn⟩
    obtain ⟨C, hC, _⟩ := own_ty ho hk
    exact e k _ _ _ hC (by decide)
  rcases h with h | h
  · exact .inl (H _ h)
  · exact .inr (H _ h)
theorem BldAt.cong' {w w' : World} {B b : Nat} {l : Str} (h : BldAt w B b l) (e : ∀ k, k < w.heap.size → w'.heap[k]? = w.heap[k]?) : BldAt w' B b l := BldAt.cong h fun k _ _ _ hk _ => e k (Array.getElem?_eq_some_iff.1 hk).1
theorem own_le {w : World} {B B' : Nat} {e : TypeId} {s n : Nat} {v : Value} {xs : List Value} (h : w.ownsRow B e s v n xs) (hB : B' ≤ B) : w.ownsRow B' e s v n xs := by
  obtain ⟨h1, h2 | ⟨g, cap, cur, hv, hg, hr⟩⟩ := h
  · exact ⟨h1, .inl h2⟩
  · exact ⟨h1, .inr ⟨g, cap, cur, hv, by omega, hr⟩⟩
/-- slices.Clone of components -/
theorem clone_any {S : Nat → Prop} (w : World) (v : Value) (e : List Str) (h : CompsAt S w v e) (hn : e.length ≤ 1048576) :
    Calls Tryz.prog 34 #[v] w fun r w' => ∃ v', r = .returned v' ∧ w'.ownsRow w.heap.size 9 1 v' e.length (e.map sv) ∧ Below w.heap.size w w' := by
  obtain ⟨ao, cap, rfl, h1, h2, h3, h4⟩ := h
  rw [List.length_map] at h1 ⊢
  cases ao with
  | none =>
    have h0 : e.length = 0 := by have := h3 rfl; omega
    refine (Tryz.slices_Clone_string_nil e.length cap w).mono fun r w' ⟨h, h'⟩ => ?_
    subst h'
    rw [h0, List.length_eq_zero_iff.1 h0]
    exact ⟨_, h, World.ownsRow_nil _ _ _ _, Below.refl _ _⟩
  | some a =>
    cases he : e with
    | nil =>
      refine (Tryz.slices_Clone_string_zero a cap w).mono fun r w' ⟨v', h, ho, _, hb⟩ => ?_
      exact ⟨v', h, ho, hb⟩
    | cons p q =>
      obtain ⟨b, off, hab, _, hc⟩ := h4 (by rw [he]; simp)
      cases hab
      rw [← he]
      have := Tryz.slices_Clone_string b off e.length cap (e.map fun s => ⟨s.toArray⟩) w (by rw [List.length_map]; exact Nat.le_refl _) (by omega) (fun j hj => by
        rw [List.length_map] at hj
        have hx : e[j]? = some e[j] := List.getElem?_eq_getElem hj
        rw [hc j (sv e[j]) (by rw [List.getElem?_map, hx]; rfl), List.getD_eq_getElem?_getD, List.getElem?_map, hx]; rfl)
      refine this.mono fun r w' ⟨v', h, ho, _, hb⟩ => ⟨v', h, ?_, hb⟩
      rw [List.take_of_length_le (by rw [List.length_map]; exact Nat.le_refl _), List.map_map] at ho
      exact ho
end Go.Proofs.YteaaiejfieaalaaGreatDoor

/-
  EdiZ2: contract of Print. No condition beyond those stated.
-/
namespace Go.Proofs.YteaaiejfieaalaaGreatDoor
open Go.RowKit
theorem own_slice {w : World} {B : Nat} {e : TypeId} {s n : Nat} {v : Value} {xs : List Value} (h : w.ownsRow B e s v n xs) : ∃ a c, v = .slice a n c := by
  obtain ⟨_, ⟨h1, h2⟩ | ⟨g, cap, _, h1, _⟩⟩ := h
  · exact ⟨none, 0, by rw [h1, h2]⟩
  · exact ⟨_, cap, h1⟩
theorem len_flat {α : Type} {f : α → Str} {l : List α} {x : α} (h : x ∈ l) : (f x).length ≤ (l.flatMap f).length := by
  induction l with
  | nil => simp at h
  | cons a l ih =>
    rw [List.flatMap_cons, List.length_append]
    rcases List.mem_cons.1 h with rfl | h
    · omega
    · have := ih h; omega
theorem len_flat1 {α : Type} {f : α → Str} {l : List α} (h : ∀ x, 1 ≤ (f x).length) : l.length ≤ (l.flatMap f).length := by
  induction l with
  | nil => simp
  | cons a l ih => rw [List.flatMap_cons, List.length_append, List.length_cons]; have := h a; omega
theorem segT_len (s : Seg) : (segT s).length = s.tag.length + (s.elems.flatMap fun e => 43 :: elemT e).length + 1 := by unfold segT; rw [List.length_append, List.length_append]; rfl
theorem elemT_le {e : List Str} {p : Str} (h : p ∈ e) : p.length ≤ (elemT e).length := by
  have hp := compT_len p
  cases e with
  | nil => simp at h
  | cons a l =>
    rw [elemT_cons, List.length_append]
    rcases List.mem_cons.1 h with rfl | h
    · omega
    · have := len_flat (f := fun p => 58 :: compT p) h
      simp only [List.length_cons] at this
      unfold restT; omega
theorem elemT_cnt (e : List Str) : e.length ≤ (elemT e).length + 1 := by
  cases e with
  | nil => simp
  | cons a l =>
    rw [elemT_cons, List.length_append]
    have := len_flat1 (f := fun p => 58 :: compT p) (l := l) (fun x => by simp)
    unfold restT; rw [List.length_cons]; omega
theorem cat_size (J : Str) : ((⟨J.toArray⟩ : ByteArray) ++ ⟨#[39]⟩).size = J.length + 1 := by simp [ByteArray.size_append]; rfl
theorem cat_list (J : Str) : ((⟨J.toArray⟩ : ByteArray) ++ ⟨#[39]⟩).data.toList = J ++ [39] := by simp [ByteArray.data_append]
/-- bounds on all that is printed -/
structure Bds (N : Nat) (l : List Seg) : Prop where
  n : l.length ≤ N
  seg : ∀ s ∈ l, s.tag.length ≤ N ∧ s.elems.length + 1 ≤ N ∧ (segT s).length ≤ N
  el : ∀ s ∈ l, ∀ e ∈ s.elems, e.length ≤ N ∧ (elemT e).length ≤ N
  co : ∀ s ∈ l, ∀ e ∈ s.elems, ∀ p ∈ e, p.length ≤ N
theorem bds_of {N : Nat} {l : List Seg} (h : (printT l).length ≤ N) : Bds N l := by
  have hs : ∀ s ∈ l, (segT s).length ≤ N := fun s hs => Nat.le_trans (len_flat hs) h
  have he : ∀ s ∈ l, ∀ e ∈ s.elems, (elemT e).length + 2 ≤ N := fun s hs' e he => by
    have h1 := hs s hs'
    have h2 := len_flat (f := fun e => 43 :: elemT e) he
    rw [segT_len] at h1
    simp only [List.length_cons] at h2; omega
  refine ⟨Nat.le_trans (len_flat1 (fun s => by rw [segT_len]; omega)) h, fun s hs' => ?_, fun s hs' e he' => ?_, fun s hs' e he' p hp => ?_⟩
  · have h1 := hs s hs'
    have h2 := len_flat1 (f := fun e => 43 :: elemT e) (l := s.elems) (fun x => by simp)
    rw [segT_len] at h1
    exact ⟨by omega, by omega, by rw [segT_len]; omega⟩
  · have := he s hs' e he'
    have := elemT_cnt e
    omega
  · have := he s hs' e he'
    have := elemT_le hp
    omega
set_option maxRecDepth 100000 in
set_option maxHeartbeats 8000000 in
theorem print_any (w : World) (v : Value) (l : List Seg) (h : SegsAt (fun k => k < w.heap.size) w v l) (hP : (printT l).length ≤ 1048576) :
    Calls Tryz.prog 18 #[v] w fun e w' => e = .returned (.tuple #[sv (printE l).1, .int .i64 (printE l).2]) ∧ Below w.heap.size w w' := by
  have hb := bds_of hP
  have HPL := Lib.hid hP
  have HSG := Lib.hid h
  obtain ⟨ao, cap, xs, rfl, h1, h2, h3, h4, h5, h6⟩ := h
  have HXL := Lib.hid h4
  have HEL := Lib.hid h5
  have HCE := Lib.hid h6
  have hn := hb.n
  have HBD := Lib.hid hb
  obtain ⟨R, hR⟩ : ∃ R, printE l = R := ⟨_, rfl⟩
  have HR := Lib.hid hR
  rw [hR]
  obtain ⟨n, hln⟩ : ∃ n, l.length = n := ⟨_, rfl⟩
  have HLN := Lib.hid hln
  rw [hln] at h1 hn ⊢
  clear h4 h5 h6 hb hR hP h3 hln
  unfold maxLen at h2
  go_enter Tryz.func18, Tryz.ntmps18
  go_wp2_with fail
  obtain ⟨B, hB⟩ : ∃ B, w.heap.size = B := ⟨_, rfl⟩
  obtain ⟨w1, hw1⟩ : ∃ w1, w.alloc (.cells #[.pointer none, .slice none 0 0] 72) = w1 := ⟨_, rfl⟩
  have HBL := Lib.hid (show BldAt w1 B B [] by rw [← hw1, ← hB]; exact Lib.fresh_isBuilder 72 5 w)
  have HBE := Lib.hid (show Below B w w1 by rw [← hw1, ← hB]; exact (Below.refl _ w).alloc (Nat.le_refl _) _)
  have HBQ := Lib.hid hB
  obtain ⟨LG, hLG⟩ : ∃ b, decide ((64 : Int) < (n : Int)) = b := ⟨_, rfl⟩
  have HLG := Lib.hid (show decide (64 < n) = LG by rw [← hLG]; simp only [decide_eq_decide]; omega)
  rw [hB, hw1, hLG]
  clear hB hw1 hLG
  go_loopw [4, 5, 6, 21] (fun a sg lo i wr => ∃ (k : Nat) (A G L : Bool), k ≤ n ∧ i = .int .i64 (k : Int) ∧ a = .bool A ∧ sg = .bool G ∧ lo = .bool L ∧ Hid (A = (l.take k).any argS) ∧ Hid (G = (l.take k).any fun s => signE s.elems) ∧ Hid (L = (LG || (l.take k).any longS)) ∧ Hid (BldAt wr B B (printT (l.take k))) ∧ Hid (Below B w wr)) (fun _ _ _ i _ => n - (intOf i).toNat)
  case atStart => exact ⟨0, false, false, LG, by omega, rfl, rfl, rfl, rfl, Lib.hid rfl, Lib.hid rfl, Lib.hid (by simp), HBL, HBE⟩
  case round =>
    obtain ⟨k, A, G, L, hk, rfl, rfl, rfl, rfl, HA, HG, HL, HBL', HBE'⟩ := hrel
    clear HBL HBE
    by_cases hlt : k < n
    · obtain ⟨s, hs⟩ : ∃ s, l[k]? = some s := ⟨_, List.getElem?_eq_getElem (by rw [HLN.out]; exact hlt)⟩
      obtain ⟨x, hx⟩ : ∃ x, xs[k]? = some x := ⟨_, List.getElem?_eq_getElem (by rw [HXL.out, HLN.out]; exact hlt)⟩
      obtain ⟨sb, off, rfl, _, hc⟩ := HCE.out (by rintro rfl; simp at hs)
      obtain ⟨c0, c1⟩ := hc k s x hs hx
      have hel := HEL.out k s x hs hx
      obtain ⟨t, es⟩ := s
      obtain ⟨ys, ⟨eo, ecap, rfl, he1, he2, he3, he4⟩, hyl, hye⟩ := hel
      have hsb : sb < B := by rw [← HBQ.out]; exact cell_lt' c0
      have d0 := (HBE'.out.cell (p := ⟨sb, off + k * 2, none⟩) hsb).trans c0
      have d1 := (HBE'.out.cell (p := ⟨sb, off + k * 2 + 1, none⟩) hsb).trans c1
      have HS := Lib.hid hs
      have HHE := Lib.hid he4
      have HYL := Lib.hid hyl
      have HYE := Lib.hid hye
      have hbs := HBD.out.seg ⟨t, es⟩ (List.mem_of_getElem? hs)
      have HBE1 := Lib.hid (HBD.out.el ⟨t, es⟩ (List.mem_of_getElem? hs))
      have HBE2 := Lib.hid (HBD.out.co ⟨t, es⟩ (List.mem_of_getElem? hs))
      have hws := HBE'.out.size
      rw [HBQ.out] at hws
      simp only at hbs
      rw [hyl] at he1 d1
      obtain ⟨hbt, hbe, hbg⟩ := hbs
      obtain ⟨st, hst⟩ : ∃ st : ByteArray, (⟨t.toArray⟩ : ByteArray) = st := ⟨_, rfl⟩
      have hss : st.size = t.length := by rw [← hst]; rfl
      have HST := Lib.hid hst
      obtain ⟨m0, hm0⟩ : ∃ m0, es.length = m0 := ⟨_, rfl⟩
      have HM0 := Lib.hid hm0
      unfold sv at d0
      rw [hst] at d0
      simp only at d1 he1 hm0 hbe
      rw [hm0] at d1 he1 hbe
      clear hs hx hc c0 c1 he3 he4 hyl hye hst hm0
      unfold maxLen at he2
      have b1 : (0 : Int) ≤ k := by omega
      have b2 : (k : Int) < n := by omega
      go_upto_region 6 with fail
      obtain ⟨w2, hw2⟩ : ∃ w2, wr.alloc (.cells #[.string st, .slice eo m0 ecap] 36) = w2 := ⟨_, rfl⟩
      have s0 : w2.cell? ⟨wr.heap.size, 0, none⟩ = some (.string st) := by rw [← hw2]; exact World.cell?_alloc_mark _ _ _ _ 0
      have s1 : w2.cell? ⟨wr.heap.size, 1, none⟩ = some (.slice eo m0 ecap) := by rw [← hw2]; exact World.cell?_alloc_mark _ _ _ _ 1
      have HBE2' := Lib.hid (show Below B w w2 by rw [← hw2]; exact HBE'.out.alloc hws _)
      have HBL2 := Lib.hid (show BldAt w2 B B (printT (l.take k)) by rw [← hw2]; exact BldAt.cong' HBL'.out (fun k hk => Below.heap_alloc _ _ _ hk))
      have hw2s : wr.heap.size < w2.heap.size := by rw [← hw2]; simp
      rw [hw2]
      clear hw2 d0 d1 HBL' HBE'
      obtain ⟨sp, hsp⟩ : ∃ sp, wr.heap.size = sp := ⟨_, rfl⟩
      rw [hsp] at s0 s1 hws hw2s
      rw [hsp]
      clear hsp
      obtain ⟨TG, hTG⟩ : ∃ b, tagBad t = b := ⟨_, rfl⟩
      have HTG := Lib.hid hTG
      clear hTG
      go_cut [4] (fun a wx => a = .bool (A || TG) ∧ w2 = wx)
      case first =>
        cases A with
        | true => go_wp2_with fail; go_meet; case rel => exact ⟨rfl, rfl⟩
        | false =>
          by_cases h3 : t.length = 3
          · obtain ⟨a, b, c, rfl⟩ : ∃ a b c, t = [a, b, c] := by
              match t, h3 with
              | [a, b, c], _ => exact ⟨a, b, c, rfl⟩
            have z3 : st.size = 3 := by rw [hss]; rfl
            have d3 : ((st.size : Int) != 3) = false := by rw [z3]; rfl
            have i0 : 0 < st.size := by omega
            have i1 : 1 < st.size := by omega
            have i2 : 2 < st.size := by omega
            have q0 : (st[0]'i0).toNat = a.toNat := by have := HST.out; subst this; rfl
            have q1 : (st[1]'i1).toNat = b.toNat := by have := HST.out; subst this; rfl
            have q2 : (st[2]'i2).toNat = c.toNat := by have := HST.out; subst this; rfl
            have hta := fun w => tagged_any a w
            have htb := fun w => tagged_any b w
            have htc := fun w => tagged_any c w
            have hbad : tagBad [a, b, c] = (!tagB a || (!tagB b || !tagB c)) := by unfold tagBad; simp
            obtain ⟨TA, hTA⟩ : ∃ x, tagB a = x := ⟨_, rfl⟩
            obtain ⟨TB, hTB⟩ : ∃ x, tagB b = x := ⟨_, rfl⟩
            obtain ⟨TC, hTC⟩ : ∃ x, tagB c = x := ⟨_, rfl⟩
            rw [HTG.out, hTA, hTB, hTC] at hbad
            rw [hTA] at hta
            rw [hTB] at htb
            rw [hTC] at htc
            obtain ⟨an, han⟩ : ∃ x, a.toNat = x := ⟨_, rfl⟩
            obtain ⟨bn, hbn⟩ : ∃ x, b.toNat = x := ⟨_, rfl⟩
            obtain ⟨cn, hcn⟩ : ∃ x, c.toNat = x := ⟨_, rfl⟩
            rw [han] at q0 hta
            rw [hbn] at q1 htb
            rw [hcn] at q2 htc
            have HTA := Lib.hid hta
            have HTB := Lib.hid htb
            have HTC := Lib.hid htc
            have HBAD := Lib.hid hbad
            clear han hbn hcn hbad hTA hTB hTC hta htb htc h3 hss z3 hbt hbg
            cases TA <;> cases TB <;> cases TC
            all_goals
              go_wp2_with first
                | (go_at_call 33; (with_reducible refine (HTA.out _).mono ?_); rintro e w' ⟨rfl, rfl⟩)
                | (go_at_call 33; (with_reducible refine (HTB.out _).mono ?_); rintro e w' ⟨rfl, rfl⟩)
                | (go_at_call 33; (with_reducible refine (HTC.out _).mono ?_); rintro e w' ⟨rfl, rfl⟩)
              go_meet
              case rel => exact ⟨by rw [HBAD.out]; rfl, rfl⟩
          · have d3 : ((st.size : Int) != 3) = true := by rw [hss]; simp; omega
            have hbad : TG = true := by rw [← HTG.out]; unfold tagBad; simp [h3]
            have HBAD := Lib.hid hbad
            clear hbad hss h3 hbt hbg
            go_wp2_with fail
            go_meet
            case rel => exact ⟨by rw [HBAD.out]; rfl, rfl⟩
      case rest =>
        obtain ⟨rfl, rfl⟩ := hcut
        go_upto_region 7 with fail
        obtain ⟨LE, hLE⟩ : ∃ b, decide (16 < m0) = b := ⟨_, rfl⟩
        have HLE := Lib.hid hLE
        obtain ⟨A1, hA1⟩ : ∃ b, (A || TG) = b := ⟨_, rfl⟩
        have HA1 := Lib.hid hA1
        rw [hA1]
        clear hA1
        go_cut [6] (fun lo wx => lo = .bool (L || LE) ∧ w2 = wx)
        case first =>
          cases L with
          | true => clear hLE; go_wp2_with fail; go_meet; case rel => exact ⟨rfl, rfl⟩
          | false =>
            have d16 : decide ((16 : Int) < (m0 : Int)) = LE := by rw [← hLE]; simp only [decide_eq_decide]; omega
            clear hLE
            cases LE
            all_goals
              go_wp2_with fail
              go_meet
              case rel => exact ⟨rfl, rfl⟩
        case rest =>
          obtain ⟨rfl, rfl⟩ := hcut
          clear hLE
          obtain ⟨L1, hL1⟩ : ∃ b, (L || LE) = b := ⟨_, rfl⟩
          have HL1 := Lib.hid hL1
          rw [hL1]
          clear hL1
          go_wp2_with fail
          obtain ⟨ws, hws2⟩ : ∃ ws, w2.heap.size = ws := ⟨_, rfl⟩
          have hwsB : B ≤ ws := by omega
          obtain ⟨w3, hw3⟩ : ∃ w3, w2.alloc (.cells #[.string st] 9) = w3 := ⟨_, rfl⟩
          have HW3 := Lib.hid (show w3.ownsRow B 9 1 (.slice (some ⟨ws, 0, none⟩) 1 1) (0 + 1) ((t :: (es.take 0).map elemT).map sv) by
            have hst := HST.out
            rw [← hw3, ← hws2]
            exact ⟨rfl, .inr ⟨w2.heap.size, 1, _, rfl, by omega, heap_alloc_new _ _, Nat.le_refl _, by decide, rfl, by rw [← hst]; rfl⟩⟩)
          have HBL3 := Lib.hid (show BldAt w3 B B (printT (l.take k)) by rw [← hw3]; exact BldAt.cong' HBL2.out (fun k hk => Below.heap_alloc _ _ _ hk))
          have HBE3 := Lib.hid (show Below B w w3 by rw [← hw3]; exact HBE2'.out.alloc (by omega) _)
          rw [hws2, hw3]
          clear hws2 hw3 hw2s hws HBL2 HBE2' s0 s1
          go_loopw [4, 5, 6, 10, 66] (fun a sg lo wv i wr => ∃ (m : Nat) (A2 G2 L2 : Bool), m ≤ m0 ∧ i = .int .i64 (m : Int) ∧ a = .bool A2 ∧ sg = .bool G2 ∧ lo = .bool L2 ∧ Hid (A2 = (A1 || argE (es.take m))) ∧ Hid (G2 = (G || signE (es.take m))) ∧ Hid (L2 = (L1 || longE (es.take m))) ∧ Hid (wr.ownsRow B 9 1 wv (m + 1) ((t :: (es.take m).map elemT).map sv)) ∧ Hid (BldAt wr B B (printT (l.take k))) ∧ Hid (Below B w wr)) (fun _ _ _ _ i _ => m0 - (intOf i).toNat)
          case atStart => exact ⟨0, A1, G, L1, by omega, rfl, rfl, rfl, rfl, Lib.hid (by simp [argE]), Lib.hid (by simp [signE]), Lib.hid (by simp [longE]), HW3, HBL3, HBE3⟩
          case round =>
            obtain ⟨m, A2, G2, L2, hm, rfl, rfl, rfl, rfl, HA2, HG2, HL2, HWO, HBL4, HBE4⟩ := hrel
            clear HW3 HBL3 HBE3
            by_cases hml : m < m0
            · obtain ⟨e, he⟩ : ∃ e, es[m]? = some e := ⟨_, List.getElem?_eq_getElem (by rw [HM0.out]; exact hml)⟩
              obtain ⟨y, hy⟩ : ∃ y, ys[m]? = some y := ⟨_, List.getElem?_eq_getElem (by rw [HYL.out, HM0.out]; exact hml)⟩
              obtain ⟨eb, eoff, rfl, _, hec⟩ := HHE.out (by rintro rfl; simp at hy)
              have e0 := hec m y hy
              have hco := HYE.out m e y he hy
              have heb : eb < B := by rw [← HBQ.out]; exact cell_lt' e0
              have e1 := (HBE4.out.cell (p := ⟨eb, eoff + m, none⟩) heb).trans e0
              have HCO := Lib.hid (hco.cong (w' := wr) (T := fun _ => True) (fun _ _ => trivial) (fun k hk => HBE4.out.block k (by rw [HBQ.out] at hk; exact hk)))
              have hmem := List.mem_of_getElem? he
              obtain ⟨hne1, hne2⟩ := HBE1.out e hmem
              have HPE := Lib.hid (HBE2.out e hmem)
              obtain ⟨ea, ecap2, rfl, _⟩ := hco
              have HE := Lib.hid he
              obtain ⟨ne, hne⟩ : ∃ ne, e.length = ne := ⟨_, rfl⟩
              have HNE := Lib.hid hne
              rw [List.length_map, hne] at e1
              rw [List.length_map, hne] at HCO
              rw [hne] at hne1
              have b3 : (0 : Int) ≤ m := by omega
              have b4 : (m : Int) < m0 := by omega
              obtain ⟨EE, hEE⟩ : ∃ b, decide (ne = 0) = b := ⟨_, rfl⟩
              have HEE := Lib.hid hEE
              obtain ⟨LC, hLC⟩ : ∃ b, decide (8 < ne) = b := ⟨_, rfl⟩
              have HLC := Lib.hid hLC
              have d0 : ((ne : Int) == 0) = EE := by rw [← hEE]; rw [Bool.eq_iff_iff]; simp
              have d8 : decide ((8 : Int) < (ne : Int)) = LC := by rw [← hLC]; simp only [decide_eq_decide]; omega
              clear he hy hec e0 heb hmem hne hEE hLC
              go_upto_region 12 with fail
              obtain ⟨wa, hwa⟩ : ∃ wa : World, wa = wr := ⟨_, rfl⟩
              go_cut [4] (fun a wx => a = .bool (A2 || EE) ∧ wr = wx)
              case first =>
                clear d8
                cases A2 with
                | true => clear d0; go_wp2_with fail; go_meet; case rel => exact ⟨rfl, rfl⟩
                | false =>
                  cases EE
                  all_goals
                    go_wp2_with fail
                    go_meet
                    case rel => exact ⟨rfl, rfl⟩
              case rest =>
                obtain ⟨rfl, rfl⟩ := hcut
                clear d0
                go_upto_region 13 with fail
                go_cut [6] (fun lo wx => lo = .bool (L2 || LC) ∧ wr = wx)
                case first =>
                  cases L2 with
                  | true => clear d8; go_wp2_with fail; go_meet; case rel => exact ⟨rfl, rfl⟩
                  | false =>
                    cases LC
                    all_goals
                      go_wp2_with fail
                      go_meet
                      case rel => exact ⟨rfl, rfl⟩
                case rest =>
                  obtain ⟨rfl, rfl⟩ := hcut
                  clear d8
                  obtain ⟨A3, hA3⟩ : ∃ b, (A2 || EE) = b := ⟨_, rfl⟩
                  have HA3 := Lib.hid hA3
                  obtain ⟨L3, hL3⟩ : ∃ b, (L2 || LC) = b := ⟨_, rfl⟩
                  have HL3 := Lib.hid hL3
                  rw [hA3, hL3]
                  clear hA3 hL3
                  obtain ⟨wb, rfl⟩ : ∃ wb : World, wb = wr := ⟨_, rfl⟩
                  have HCL := Lib.hid (clone_any wb (.slice ea ne ecap2) e HCO.out (by rw [HNE.out]; omega))
                  rw [HNE.out] at HCL
                  go_wp2_with (go_at_call 34; refine HCL.out.mono ?_; rintro r wm ⟨pv, rfl, hpo, hbm⟩; have HPO := Lib.hid hpo; have HBM := Lib.hid hbm; obtain ⟨pa, pc, rfl⟩ := own_slice hpo; clear hpo hbm)
                  obtain ⟨P0, hP0⟩ : ∃ P0, wb.heap.size = P0 := ⟨_, rfl⟩
                  rw [hP0] at HPO HBM
                  have HPZ := Lib.hid hP0
                  have hBP : B ≤ P0 := by have h1 := HBE4.out.size; rw [HBQ.out] at h1; omega
                  clear hP0 HCL HCO e1
                  go_loopw [5, 6, 86] (fun sg lo i wr => ∃ (q : Nat) (G3 L4 : Bool), q ≤ ne ∧ i = .int .i64 (q : Int) ∧ sg = .bool G3 ∧ lo = .bool L4 ∧ Hid (G3 = (G2 || signC (e.take q))) ∧ Hid (L4 = (L3 || longC (e.take q))) ∧ Hid (wr.ownsRow P0 9 1 (.slice pa ne pc) ne ((partsL e q).map sv)) ∧ Hid (Below P0 wb wr)) (fun _ _ i _ => ne - (intOf i).toNat)
                  case atStart => exact ⟨0, G2, L3, by omega, rfl, rfl, rfl, Lib.hid (by simp [signC]), Lib.hid (by simp [longC]), HPO, HBM⟩
                  case round =>
                    obtain ⟨q, G3, L4, hq, rfl, rfl, rfl, HG3, HL4, HPA, HBP⟩ := hrel
                    clear HPO HBM
                    by_cases hqn : q < ne
                    · skip
                      obtain ⟨p, hp⟩ : ∃ p, e[q]? = some p := ⟨_, List.getElem?_eq_getElem (by rw [HNE.out]; exact hqn)⟩
                      obtain ⟨pb, pcap, cur, hpv, hpb, hpcells, hpc1, hpc2, _⟩ := own_form HPA.out (by omega) (by omega)
                      injection hpv with hpv1 hpv2 hpv3
                      subst hpv1
                      subst hpv3
                      have hplt : pb < wr.heap.size := (Array.getElem?_eq_some_iff.1 hpcells).1
                      have pc0 := own_cell HPA.out (j := q) (x := sv p) (by rw [List.getElem?_map, partsL_get hp]; rfl)
                      have pz0 := own_frozen HPA.out q
                      have hps := HPE.out p (List.mem_of_getElem? hp)
                      have hs1 := any_take (fun p => p.any badB) hp
                      have hl1 := any_take (fun p => decide (256 < p.length)) hp
                      obtain ⟨ps, hpse⟩ : ∃ ps : ByteArray, (⟨p.toArray⟩ : ByteArray) = ps := ⟨_, rfl⟩
                      have hpsz : ps.size = p.length := by rw [← hpse]; rfl
                      have hpsd : ps.data.toList = p := by rw [← hpse]
                      obtain ⟨GP, hGP⟩ : ∃ b, p.any badB = b := ⟨_, rfl⟩
                      obtain ⟨LP, hLP⟩ : ∃ b, decide (256 < p.length) = b := ⟨_, rfl⟩
                      have d256 : decide ((256 : Int) < (ps.size : Int)) = LP := by rw [← hLP, hpsz]; simp only [decide_eq_decide]; omega
                      simp only [hGP] at hs1
                      simp only [hLP] at hl1
                      unfold sv at pc0
                      rw [hpse] at pc0
                      have HP := Lib.hid hp
                      have HS1 := Lib.hid hs1
                      have HL1' := Lib.hid hl1
                      have HPSZ := Lib.hid hpsz
                      have HPSD := Lib.hid hpsd
                      have HGP := Lib.hid hGP
                      have HPC := Lib.hid hpcells
                      rw [← hpsz] at hps
                      clear hp hpv2 hs1 hl1 hpse hpsz hpsd hGP hLP hpcells
                      unfold maxLen at hpc2
                      have b5 : (0 : Int) ≤ q := by omega
                      have b6 : (q : Int) < ne := by omega
                      go_upto_region 18 with fail
                      go_cut [6] (fun lo wx => lo = .bool (L4 || LP) ∧ wr = wx)
                      case first =>
                        cases L4 with
                        | true => clear d256; go_wp2_with fail; go_meet; case rel => exact ⟨rfl, rfl⟩
                        | false =>
                          cases LP
                          all_goals
                            go_wp2_with fail
                            go_meet
                            case rel => exact ⟨rfl, rfl⟩
                      case rest =>
                        obtain ⟨rfl, rfl⟩ := hcut
                        clear d256
                        go_upto_region 19 with fail
                        go_cut [5] (fun sg wx => sg = .bool (G3 || GP) ∧ Hid (Below wr.heap.size wr wx))
                        case first =>
                          cases G3 with
                          | true => go_wp2_with fail; go_meet; case rel => exact ⟨rfl, Lib.hid (Below.refl _ _)⟩
                          | false =>
                            have hcb := Lib.run_convert_string_bytes (P := Tryz.prog) wr 9 39 5 ps Tryz.underlying9 Tryz.underlying39 Tryz.underlying5
                            obtain ⟨wy, hwy⟩ : ∃ wy, Lib.bytesWorld wr 5 ps = wy := ⟨_, rfl⟩
                            obtain ⟨cp, hcp⟩ : ∃ cp, grownCap wr ps.size 0 5 = cp := ⟨_, rfl⟩
                            rw [hwy, hcp] at hcb
                            have HBY := Lib.hid (show Below wr.heap.size wr wy by rw [← hwy]; exact ⟨rfl, rfl, rfl, by rw [Lib.bytesWorld_size]; omega, fun k hk => Lib.bytesWorld_at_old _ _ _ _ hk⟩)
                            have HCN := Lib.hid (contains_any wy wr.heap.size cp p (by rw [← HPSZ.out]; omega) (fun j c hj => by
                              have hj' : j < ps.size := by rw [HPSZ.out]; exact (List.getElem?_eq_some_iff.1 hj).1
                              rw [← hwy, Lib.bytesWorld_cell wr 5 ps j hj', HPSD.out, List.getD_eq_getElem?_getD, hj]; rfl))
                            rw [← HPSZ.out, HGP.out] at HCN
                            unfold badV at HCN
                            clear hwy hcp
                            go_wp2_with (go_at_call 35; refine HCN.out.mono ?_; rintro e w' ⟨rfl, rfl⟩)
                            go_meet
                            case rel => exact ⟨rfl, HBY⟩
                        case rest =>
                          obtain ⟨rfl, HBC⟩ := hcut
                          have hwc := HBC.out.size
                          go_wp2_with first
                            | (go_at_call 37; refine (newRepl_any _ _ (heap_alloc_new wc (.cells oldL.toArray 9))).mono ?_; rintro r w6 ⟨rb, ob, rcap, rfl, hr1, hr2, hr3, hr4, hr5, hr6, hr7⟩; rw [World.size_alloc] at hr6; have HR1 := Lib.hid hr1; have HR2 := Lib.hid hr2; have HR5 := Lib.hid hr5; have HR7 := Lib.hid hr7; clear hr1 hr2 hr5 hr7)
                            | (go_at_call 38; refine (replace_any _ rb ob rcap _ ps (by omega) HR1.out HR2.out hr3 hr4 HR5.out).mono ?_; rintro r w7 ⟨rfl, hf7⟩; have hag : w7.heap[pb]? = wr.heap[pb]? := (hf7.block pb (by have := HR7.out.size; rw [World.size_alloc] at this; omega) (by simp; omega)).trans ((HR7.out.block pb (by rw [World.size_alloc]; omega)).trans ((Below.heap_alloc _ _ _ (by omega)).trans (HBC.out.block pb hplt))); have pc7 := (cell_ag (j := q) hag).trans pc0; have pz7 := (fz_ag (j := q) hag).trans pz0; have HAG := Lib.hid hag; have HF7 := Lib.hid hf7; clear hf7 hag; unfold sv)
                          go_roundw
                          case rel =>
                            refine ⟨q + 1, G3 || GP, L4 || LP, by omega, by go_num, rfl, rfl, Lib.hid ?_, Lib.hid ?_, Lib.hid ?_, Lib.hid ?_⟩
                            · rw [HG3.out]; unfold signC; rw [HS1.out, Bool.or_assoc]
                            · rw [HL4.out]; unfold longC; rw [HL1'.out, Bool.or_assoc]
                            · have h1 := own_set (own_cong (w' := w7) HPA.out (fun k hk => by cases hk; exact HAG.out)) (j := q) (by rw [List.length_map, partsL_len, HNE.out]; exact hqn) (sv (compT p))
                              rw [← List.map_set, partsL_set HP.out] at h1
                              rw [HPSD.out]
                              exact h1
                            · have hz1 := HBP.out.size
                              rw [HPZ.out] at hz1
                              have hz2 := HR7.out.size
                              rw [World.size_alloc] at hz2
                              exact HBP.out.trans (((((HBC.out.mono hz1).alloc (by omega) _).trans (HR7.out.mono (by rw [World.size_alloc]; omega))).trans (HF7.out.belowB (by omega) (by simp; omega))).setCell hpb _)
                          case measure => simp [intOf]; omega
                    · skip
                      obtain rfl : q = ne := by omega
                      have hpa : partsL e q = e.map compT := by rw [← HNE.out]; exact partsL_all e
                      have hte : e.take q = e := List.take_of_length_le (by rw [HNE.out]; exact Nat.le_refl _)
                      have hPA := HPA.out
                      rw [hpa] at hPA
                      have hG3 := HG3.out
                      have hL4 := HL4.out
                      rw [hte] at hG3 hL4
                      have HG3' := Lib.hid hG3
                      have HL4' := Lib.hid hL4
                      have hln : ((e.map compT).map sv).length = q := by simp [HNE.out]
                      have HRP := Lib.hid (show CompsAt (fun _ => True) wr (.slice pa q pc) (e.map compT) by
                        have hPA' : wr.ownsRow P0 9 1 (.slice pa q pc) ((e.map compT).map sv).length ((e.map compT).map sv) := by rw [hln]; exact hPA
                        exact own_rest hPA' (fun _ _ => trivial))
                      have HJO := Lib.hid (join_any wr 58 (.slice pa q pc) (e.map compT) HRP.out (by rw [List.length_map, HNE.out]; omega) (by show (elemT e).length ≤ _; omega))
                      have hse := any_take signC HE.out
                      have hle2 := any_take (fun e => decide (8 < e.length) || longC e) HE.out
                      have hae := any_take (fun e : List Str => e.isEmpty) HE.out
                      have hme := map_take_succ elemT HE.out
                      have HSE := Lib.hid hse
                      have HLE2 := Lib.hid hle2
                      have HAE := Lib.hid hae
                      have HME := Lib.hid hme
                      have hwoz : ∀ k, u10.ownBlock = some k → k < P0 := fun k hk => by rw [← HPZ.out]; exact (own_lt HWO.out hk).2
                      have HWO2 := Lib.hid (own_cong (w' := wr) HWO.out (fun k hk => HBP.out.block k (hwoz k hk)))
                      have HBL5 := Lib.hid (BldAt.cong' (w' := wr) HBL4.out (fun k hk => HBP.out.block k (by rw [HPZ.out] at hk; exact hk)))
                      have HBE5 := Lib.hid (HBE4.out.trans (HBP.out.mono hBP))
                      clear hpa hte hPA hG3 hL4 hln hse hle2 hae hme hwoz
                      obtain ⟨i0, hi, hz0, hz1, hz2⟩ := info_parts einfo_str
                      have HI := Lib.hid hi
                      have HZ0 := Lib.hid hz0
                      have HZ1 := Lib.hid hz1
                      have HZ2 := Lib.hid hz2
                      clear hi hz0 hz1 hz2
                      have hBw := HBE5.out.size
                      rw [HBQ.out] at hBw
                      go_wp2_with first
                        | (go_at_call 39; refine HJO.out.mono ?_; rintro r w8 ⟨rfl, hb8⟩; have HB8 := Lib.hid hb8; have hs8 := hb8.size; have HWO3 := Lib.hid (own_cong (w' := w8) HWO2.out (fun k hk => hb8.block k (own_lt HWO2.out hk).2)); clear hb8; unfold sv)
                        | ((with_reducible refine wpList_at (.call { callee := .builtin .append, args := #[.tmp 111, .tmp 114], argTypes := #[53, 53] }) rfl ?_); go_loud (refine wpList_append_own_at _ rfl _ _ 53 rfl B 9 i0 (.string ⟨#[]⟩) 1 16 Tryz.underlying53 HI.out HZ0.out HZ1.out HZ2.out rfl (by decide) _ _ _ rfl (HWO3.out.alloc _) ⟨w8.heap.size, 0, none⟩ 1 1 [sv (joinB 58 (e.map compT))] rfl rfl (cell_one_new _ _ _) (by simp [Value.oneCell', sv]) (by unfold maxLen; omega) (by omega) (by simp; omega) ?_); intro v9 w9 ho9 hg9 hq1 hq2; clear hq1 hq2; have HO9 := Lib.hid ho9; have HG9 : Hid (World.grownBy _ w9 u10.ownBlock) := Lib.hid hg9; clear ho9 hg9)
                      go_roundw
                      case rel =>
                        refine ⟨m + 1, A3, G3, L4, by omega, by go_num, rfl, rfl, rfl, Lib.hid ?_, Lib.hid ?_, Lib.hid ?_, Lib.hid ?_, Lib.hid ?_, Lib.hid ?_⟩
                        · rw [← HA3.out, HA2.out, ← HEE.out]; unfold argE; rw [HAE.out, ← HNE.out]; cases e <;> simp
                        · rw [HG3'.out, HG2.out]; unfold signE; rw [HSE.out, Bool.or_assoc]
                        · rw [HL4'.out, ← HL3.out, HL2.out, ← HLC.out]; unfold longE; rw [HLE2.out, HNE.out]; simp only [Bool.or_assoc]
                        · have h9 := HO9.out
                          rw [HME.out]
                          simpa [elemT] using h9
                        · have h1 := BldAt.cong' (w' := w8) HBL5.out (fun k hk => HB8.out.block k hk)
                          have h2 := BldAt.cong' h1 (fun k hk => Below.heap_alloc w8 (.cells #[sv (joinB 58 (e.map compT))] 9) _ hk)
                          refine BldAt.cong h2 (fun k C f t' hk ht => HG9.out.block k (Array.getElem?_eq_some_iff.1 hk).1 (fun hc => ?_))
                          obtain ⟨C', hC', _⟩ := own_ty (HWO3.out.alloc _) hc.symm
                          rw [hC'] at hk
                          cases hk
                          exact ht rfl
                        · have h1 := HBE5.out.trans (HB8.out.mono hBw)
                          have hs9 := HB8.out.size
                          exact (h1.alloc (by omega) _).grown HG9.out (by simp; omega) (fun k hk => (own_lt HWO3.out hk).1)
                      case measure => simp [intOf]; omega
            · skip
              obtain rfl : m = m0 := by omega
              have hte : es.take m = es := List.take_of_length_le (by rw [HM0.out]; exact Nat.le_refl _)
              have hW0 := HWO.out
              have hA2 := HA2.out
              have hG2 := HG2.out
              have hL2 := HL2.out
              rw [hte] at hW0 hA2 hG2 hL2
              obtain ⟨wa, wc, rfl⟩ := own_slice hW0
              have HA2' := Lib.hid hA2
              have HG2' := Lib.hid hG2
              have HL2' := Lib.hid hL2
              have hln : ((t :: es.map elemT).map sv).length = m + 1 := by simp [HM0.out]
              have hle : (joinB 43 (t :: es.map elemT)).length + 1 = (segT ⟨t, es⟩).length := by rw [← joinB_words, List.length_append]; rfl
              have HRP := Lib.hid (show CompsAt (fun _ => True) wr (.slice wa (m + 1) wc) (t :: es.map elemT) by
                have hPA' : wr.ownsRow B 9 1 (.slice wa (m + 1) wc) ((t :: es.map elemT).map sv).length ((t :: es.map elemT).map sv) := by rw [hln]; exact hW0
                exact own_rest hPA' (fun _ _ => trivial))
              have HJO := Lib.hid (join_any wr 43 (.slice wa (m + 1) wc) (t :: es.map elemT) HRP.out (by rw [List.length_cons, List.length_map, HM0.out]; omega) (by omega))
              have hpl : (printT (l.take k)).length ≤ 1048576 := Nat.le_trans (by
                have h1 := congrArg printT (List.take_append_drop k l)
                unfold printT at h1 ⊢
                rw [List.flatMap_append] at h1
                have h2 := congrArg List.length h1
                rw [List.length_append] at h2
                omega) HPL.out
              have hBw := HBE4.out.size
              rw [HBQ.out] at hBw
              obtain ⟨J, hJ⟩ : ∃ J, joinB 43 (t :: es.map elemT) = J := ⟨_, rfl⟩
              rw [hJ] at HJO hle
              have HJJ := Lib.hid hJ
              clear hte hW0 hA2 hG2 hL2 hln hJ
              go_wp2_with first
                | (go_at_call 39; refine HJO.out.mono ?_; rintro r w8 ⟨rfl, hb8⟩; have HB8 := Lib.hid hb8; have hs8 := hb8.size; have HBL5 := Lib.hid (BldAt.cong' (w' := w8) HBL4.out (fun k hk => hb8.block k hk)); clear hb8; unfold sv)
                | (go_at_call 40; refine (writeString_any B B (printT (l.take k)) _ w8 HBL5.out (by rw [cat_size]; omega) (by omega)).mono ?_; rintro r w9 ⟨rfl, hb9, hc9⟩; have HB9 := Lib.hid hb9; have HC9 := Lib.hid hc9; clear hb9 hc9)
              go_roundw
              case rel =>
                refine ⟨k + 1, A2, G2, L2, by omega, by go_num, rfl, rfl, rfl, Lib.hid ?_, Lib.hid ?_, Lib.hid ?_, Lib.hid ?_, Lib.hid ?_⟩
                · rw [any_take argS HS.out, ← HA.out, HA2'.out, ← HA1.out, ← HTG.out, Bool.or_assoc]; rfl
                · rw [any_take (fun s => signE s.elems) HS.out, ← HG.out]; exact HG2'.out
                · rw [HL2'.out, ← HL1.out, HL.out, ← HLE.out, any_take longS HS.out, show longS ⟨t, es⟩ = (decide (16 < es.length) || longE es) from rfl, HM0.out]; simp only [Bool.or_assoc]
                · rw [printT_take HS.out, ← joinB_words, HJJ.out, ← cat_list]; exact HB9.out
                · exact (HBE4.out.trans (HB8.out.mono hBw)).trans HC9.out
              case measure => simp [intOf]; omega
    · skip
      obtain rfl : k = n := by omega
      have hte : l.take k = l := List.take_of_length_le (by rw [HLN.out]; exact Nat.le_refl _)
      have hB0 := HBL'.out
      have hA := HA.out
      have hG := HG.out
      have hL := HL.out
      rw [hte] at hB0 hA hG hL
      have hbl : (Lib.byteCells (printT l)).length = (printT l).length := Lib.byteCells_length _
      have hLP : longP l = L := by rw [longP_eq, hL, ← HLG.out, HLN.out]
      have hpe : printE l = if A then ([], 1) else if G then ([], 30) else if L || decide (65536 < (printT l).length) then ([], 2) else (printT l, 0) := by
        unfold printE; rw [argP_eq, ← hA, signP_eq, ← hG, hLP]
      have hBw := HBE'.out.size
      rw [HBQ.out] at hBw
      have HBE2 := HBE'.out
      have HLN' := HLN.out
      have hlp := HPL.out
      rw [HR.out] at hpe
      obtain ⟨PT, hPT⟩ : ∃ PT, printT l = PT := ⟨_, rfl⟩
      rw [hPT] at hpe hB0 hbl hlp
      clear hA hG hL hte hLP HA HG HL HBL' HLG HR HPL HCE HEL HSG HXL HBD HLN' hPT
      have hHBE2 := Lib.hid HBE2
      have hLEN := Lib.hid (Tryz.Builder_Len B B (Lib.byteCells PT) wr hB0)
      have hSTR := Lib.hid (Tryz.Builder_String_any B B PT wr hB0 hBw)
      rw [hbl] at hLEN
      clear hB0 hbl HBE2
      cases A with
      | true =>
        obtain rfl : R = ([], 1) := hpe
        go_wp2_with fail
        go_ret2
        exact ⟨rfl, by rw [HBQ.out]; exact hHBE2.out⟩
      | false =>
        cases G with
        | true =>
          obtain rfl : R = ([], 30) := hpe
          go_wp2_with fail
          go_ret2
          exact ⟨rfl, by rw [HBQ.out]; exact hHBE2.out⟩
        | false =>
          cases L with
          | true =>
            obtain rfl : R = ([], 2) := hpe
            go_wp2_with fail
            go_ret2
            exact ⟨rfl, by rw [HBQ.out]; exact hHBE2.out⟩
          | false =>
            by_cases hbig : 65536 < PT.length
            · obtain rfl : R = ([], 2) := by rw [hpe]; simp [hbig]
              have hd : decide ((65536 : Int) < (PT.length : Int)) = true := by simp; omega
              go_wp2_with (go_at_call 41; refine hLEN.out.mono ?_; rintro r w9 ⟨rfl, rfl⟩)
              go_ret2
              exact ⟨rfl, by rw [HBQ.out]; exact hHBE2.out⟩
            · obtain rfl : R = (PT, 0) := by rw [hpe]; simp [hbig]
              have hd : decide ((65536 : Int) < (PT.length : Int)) = false := by simp; omega
              go_wp2_with first
                | (go_at_call 41; refine hLEN.out.mono ?_; rintro r w9 ⟨rfl, rfl⟩)
                | (go_at_call 42; refine hSTR.out.mono ?_; rintro r w9 ⟨rfl, hw9⟩)
              go_ret2
              exact ⟨rfl, by rw [HBQ.out]; exact hHBE2.out.trans hw9⟩
end Go.Proofs.YteaaiejfieaalaaGreatDoor

/-
  EdiA1: slices of components, elements, segments that came in. No condition beyond those stated.
-/
namespace Go.Proofs.YteaaiejfieaalaaGreatDoor
open Go.RowKit Go.ChangeShapes Go.WideShapes Go.Deep
theorem spot_cell' {w : World} {a : Addr} {v : Value} (h : w.cell? a = some v) : a = ⟨a.block, a.off, none⟩ := by
  have : a.spot = none := by
    unfold World.cell? at h
    split at h
    · cases hs : a.spot with
      | none => rfl
      | some s => simp [hs] at h
    · simp at h
  cases a; simp_all
theorem cell_add' {w : World} {a : Addr} {n : Nat} {v : Value} (h : w.cell? (a.add n) = some v) : w.cell? ⟨a.block, a.off + n, none⟩ = some v := by
  unfold Addr.add at h
  split at h
  · rename_i h0
    subst h0
    rw [spot_cell' h] at h; exact h
  · exact h
theorem cells_atk {w : World} {base i k : Nat} {a : Addr} {cs : List Value} (hk : 0 < k) (h : w.cells? base (a.add (i * k)) k = some cs) : (i = 0 → some (⟨a.block, a.off, none⟩ : Addr) = some a) ∧ ∀ j v, cs[j]? = some v → w.cell? ⟨a.block, a.off + i * k + j, none⟩ = some v := by
  obtain ⟨_, hl, hc⟩ := World.cells?_some h
  refine ⟨fun h0 => ?_, fun j v hv => ?_⟩
  · subst h0
    have h1 := hc 0 hk
    rw [List.getElem?_eq_getElem (by omega)] at h1
    simp only [Nat.zero_mul, Addr.add, if_true] at h1
    rw [← spot_cell' h1]
  · have hj : j < k := by have := (List.getElem?_eq_some_iff.1 hv).1; omega
    have h1 := (hc j hj).trans hv
    rw [Deep.add_add] at h1
    have := cell_add' h1
    rw [← Nat.add_assoc] at this; exact this
abbrev Low (w : World) (k : Nat) : Prop := k < w.heap.size
section
variable {H : Type} {enc : TypeId × Value → H} {w : World} {base : Nat} {spare : Nat → Bool} {held : Bool}
theorem comps_of_trod {fuel : Nat} {v : Value} {x : DataW H × List MemPlace} (h : DataW.trod enc Tryz.prog w base spare held fuel 53 [v] = some x) : ∃ e, CompsAt (Low w) w v e := by
  rcases open_strings Tryz.underlying53 Tryz.underlying9 (by kernel_rfl) h with ⟨hcs, _⟩ | ⟨a, len, cap, ss, hcs, _, hl, hm, hss, _, hc, _⟩
  · simp at hcs; subst hcs; exact ⟨[], RowAt.nil _ _⟩
  · simp at hcs; subst hcs
    have hls : len ≤ ss.length := by rw [hss]; split <;> omega
    refine ⟨(ss.take len).map (·.data.toList), ?_⟩
    have e : ((ss.take len).map (·.data.toList)).map sv = (ss.take len).map Value.string := by rw [List.map_map]; rfl
    unfold CompsAt; rw [e]
    have hn : ((ss.take len).map Value.string).length = len := by rw [List.length_map, List.length_take]; omega
    have key : ∀ (i : Nat) (y : Value), ((ss.take len).map Value.string)[i]? = some y → w.cell? (a.add i) = some y := fun i y hy => by
      have hi : i < len := by have := (List.getElem?_eq_some_iff.1 hy).1; omega
      rw [List.getElem?_map, List.getElem?_take_of_lt hi, List.getElem?_eq_getElem (show i < ss.length by omega)] at hy
      cases hy
      rw [hc i (by omega), List.getD_eq_getElem?_getD, List.getElem?_eq_getElem (show i < ss.length by omega)]; rfl
    refine ⟨some a, cap, by rw [hn], by omega, hm, (fun h => by cases h), fun hne => ?_⟩
    have h0 : 0 < len := by
      rcases Nat.eq_zero_or_pos len with e0 | e0
      · exact absurd (List.length_eq_zero_iff.1 (by rw [hn]; exact e0)) hne
      · exact e0
    obtain ⟨y0, hy0⟩ : ∃ y, ((ss.take len).map Value.string)[0]? = some y := ⟨_, List.getElem?_eq_getElem (by omega)⟩
    have ha : a = ⟨a.block, a.off, none⟩ := by
      have := key 0 y0 hy0
      simp only [Addr.add, if_true] at this
      exact spot_cell' this
    exact ⟨a.block, a.off, congrArg some ha, cell_lt' (cell_add' (key 0 y0 hy0)), fun i y hy => cell_add' (key i y hy)⟩
theorem elems_of_trod {fuel : Nat} {v : Value} {x : DataW H × List MemPlace} (h : DataW.trod enc Tryz.prog w base spare held fuel 34 [v] = some x) : ∃ es, ElemsAt (Low w) w v es := by
  rcases open_slice1 Tryz.underlying34 (show Tryz.prog.cellsOf 53 = 1 by kernel_rfl) h with ⟨hcs, _⟩ | ⟨a, len, cap, m, q, V, D, Pl, hcs, _, hl, hm, hmm, _, hel⟩
  · simp at hcs; subst hcs; exact ⟨[], ElemsAt.nil _ _⟩
  · simp at hcs; subst hcs
    have hlm : len ≤ m := by rw [hmm]; split <;> omega
    obtain ⟨R, hR⟩ := choose_lt (p := fun i e => CompsAt (Low w) w (V i) e) (n := len) (fun i hi => comps_of_trod (hel i (by omega)).2)
    refine ⟨(List.range len).map R, (List.range len).map V, ⟨some a, cap, by simp, by simpa using hl, hm, (fun h => by cases h), fun hne => ?_⟩, by simp, fun i e y he hy => ?_⟩
    · have h0 : 0 < len := by
        rcases Nat.eq_zero_or_pos len with e0 | e0
        · subst e0; exact absurd rfl hne
        · exact e0
      have c0 := (hel 0 (by omega)).1
      have ha : a = ⟨a.block, a.off, none⟩ := by
        simp only [Addr.add, if_true] at c0
        exact spot_cell' c0
      refine ⟨a.block, a.off, congrArg some ha, cell_lt' (cell_add' c0), fun i y hy => ?_⟩
      have hi : i < len := by have := (List.getElem?_eq_some_iff.1 hy).1; simpa using this
      rw [List.getElem?_map, List.getElem?_range hi] at hy
      cases hy
      exact cell_add' (hel i (by omega)).1
    · have hi : i < len := by have := (List.getElem?_eq_some_iff.1 hy).1; simpa using this
      rw [List.getElem?_map, List.getElem?_range hi] at hy he
      cases hy; cases he
      exact hR i hi
instance : Inhabited Seg := ⟨⟨[], []⟩⟩
theorem segs_of_trod {fuel : Nat} {v : Value} {x : DataW H × List MemPlace} (h : DataW.trod enc Tryz.prog w base spare held fuel 23 [v] = some x) : ∃ l, SegsAt (Low w) w v l := by
  rcases open_slice Tryz.underlying23 h with ⟨hcs, _⟩ | ⟨a, len, cap, m, q, D, Pl, hcs, _, hl, hm, hmm, _, hel⟩
  · simp at hcs; subst hcs; exact ⟨[], SegsAt.nil _ _⟩
  · simp at hcs; subst hcs
    have hlm : len ≤ m := by rw [hmm]; split <;> omega
    have hcells : Tryz.prog.cellsOf 36 = 2 := by kernel_rfl
    rw [hcells] at hel
    have key : ∀ i, i < len → ∃ r : Seg × Value, w.cell? ⟨a.block, a.off + i * 2, none⟩ = some (sv r.1.tag) ∧ w.cell? ⟨a.block, a.off + i * 2 + 1, none⟩ = some r.2 ∧ ElemsAt (Low w) w r.2 r.1.elems := fun i hi => by
      obtain ⟨cs, hcs, htr⟩ := hel i (by omega)
      obtain ⟨_, hce⟩ := cells_atk (k := 2) (by omega) hcs
      obtain ⟨y0, y1, n, _, hl2, f0, f1⟩ := trod_struct2 Tryz.underlying36 htr
      rw [hcells] at hl2
      obtain ⟨c0, c1, rfl⟩ : ∃ c0 c1, cs = [c0, c1] := by
        rcases cs with _ | ⟨c0, _ | ⟨c1, _ | ⟨_, _⟩⟩⟩ <;> simp at hl2
        exact ⟨c0, c1, rfl⟩
      have e0 : Tryz.prog.cellsOf 9 = 1 := by kernel_rfl
      have e1 : Tryz.prog.cellsOf 34 = 1 := by kernel_rfl
      change DataW.trod enc Tryz.prog w base spare held n 9 (List.take (Tryz.prog.cellsOf 9) (List.drop 0 [c0, c1])) = _ at f0
      rw [e0] at f0
      change DataW.trod enc Tryz.prog w base spare held n 34 (List.take (Tryz.prog.cellsOf 34) (List.drop 1 [c0, c1])) = _ at f1
      rw [e1] at f1
      obtain ⟨s, hs, _, _⟩ := DataW.trod_string Tryz.underlying9 f0
      obtain ⟨es, hes⟩ := elems_of_trod (v := c1) f1
      have hs' : c0 = .string s := (List.cons.inj hs).1
      exact ⟨(⟨s.data.toList, es⟩, c1), (hce 0 c0 rfl).trans (congrArg some hs'), hce 1 c1 rfl, hes⟩
    obtain ⟨R, hR⟩ := choose_lt key
    refine ⟨(List.range len).map fun i => (R i).1, some a, cap, (List.range len).map fun i => (R i).2, by simp, by simpa using hl, hm, (fun h => by cases h), by simp, fun i s y hs hy => ?_, fun hne => ?_⟩
    · have hi : i < len := by have := (List.getElem?_eq_some_iff.1 hy).1; simpa using this
      rw [List.getElem?_map, List.getElem?_range hi] at hy hs
      cases hy; cases hs
      exact (hR i hi).2.2
    · have h0 : 0 < len := by
        rcases Nat.eq_zero_or_pos len with e0 | e0
        · subst e0; exact absurd rfl hne
        · exact e0
      obtain ⟨cs, hcs, _⟩ := hel 0 (by omega)
      refine ⟨a.block, a.off, ((cells_atk (k := 2) (i := 0) (by omega) hcs).1 rfl).symm, cell_lt' (hR 0 h0).1, fun i s y hs hy => ?_⟩
      have hi : i < len := by have := (List.getElem?_eq_some_iff.1 hy).1; simpa using this
      rw [List.getElem?_map, List.getElem?_range hi] at hy hs
      cases hy; cases hs
      exact ⟨(hR i hi).1, (hR i hi).2.1⟩
end
end Go.Proofs.YteaaiejfieaalaaGreatDoor

/-
  EdiA2: reading of segments in memory; contract of heavy. No condition beyond those stated.
-/
namespace Go.Proofs.YteaaiejfieaalaaGreatDoor
open Go.RowKit
section
variable {S : Nat → Prop} {w : World}
theorem SegsAt.form {v : Value} {l : List Seg} (h : SegsAt S w v l) : ∃ ao cap, v = .slice ao l.length cap ∧ l.length ≤ cap ∧ cap ≤ maxLen := by
  obtain ⟨ao, cap, xs, rfl, h1, h2, _⟩ := h; exact ⟨ao, cap, rfl, h1, h2⟩
theorem SegsAt.get {ao : Option Addr} {n cap : Nat} {l : List Seg} (h : SegsAt S w (.slice ao n cap) l) {k : Nat} {s : Seg} (hk : l[k]? = some s) : ∃ b off x, ao = some ⟨b, off, none⟩ ∧ S b ∧ w.cell? ⟨b, off + k * 2, none⟩ = some (sv s.tag) ∧ w.cell? ⟨b, off + k * 2 + 1, none⟩ = some x ∧ ElemsAt S w x s.elems := by
  obtain ⟨_, _, xs, e, h1, h2, h3, h4, h5, h6⟩ := h
  cases e
  obtain ⟨b, off, rfl, hS, h7⟩ := h6 (by intro e; rw [e] at hk; simp at hk)
  have hlt : k < xs.length := by rw [h4]; exact (List.getElem?_eq_some_iff.1 hk).1
  have hx := List.getElem?_eq_getElem hlt
  obtain ⟨a1, a2⟩ := h7 k s _ hk hx
  exact ⟨b, off, _, rfl, hS, a1, a2, h5 k s _ hk hx⟩
theorem ElemsAt.form {v : Value} {l : List (List Str)} (h : ElemsAt S w v l) : ∃ ao cap, v = .slice ao l.length cap ∧ l.length ≤ cap ∧ cap ≤ maxLen := by
  obtain ⟨xs, ⟨ao, cap, rfl, h1, h2, _⟩, h3, _⟩ := h; exact ⟨ao, cap, by rw [h3], by omega, h2⟩
theorem ElemsAt.get {ao : Option Addr} {n cap : Nat} {l : List (List Str)} (h : ElemsAt S w (.slice ao n cap) l) {k : Nat} {e : List Str} (hk : l[k]? = some e) : ∃ b off x, ao = some ⟨b, off, none⟩ ∧ S b ∧ w.cell? ⟨b, off + k, none⟩ = some x ∧ CompsAt S w x e := by
  obtain ⟨xs, ⟨_, _, e, h1, h2, h3, h4⟩, h5, h6⟩ := h
  cases e
  have hlt : k < xs.length := by rw [h5]; exact (List.getElem?_eq_some_iff.1 hk).1
  have hx := List.getElem?_eq_getElem hlt
  obtain ⟨b, off, rfl, hS, h7⟩ := h4 (by rintro rfl; simp at hlt)
  exact ⟨b, off, _, rfl, hS, h7 k _ hx, h6 k e _ hk hx⟩
theorem CompsAt.form {v : Value} {l : List Str} (h : CompsAt S w v l) : ∃ ao cap, v = .slice ao l.length cap ∧ l.length ≤ cap ∧ cap ≤ maxLen := by
  obtain ⟨ao, cap, rfl, h1, h2, _⟩ := h
  rw [List.length_map] at h1
  exact ⟨ao, cap, by rw [List.length_map], h1, h2⟩
theorem CompsAt.get {ao : Option Addr} {n cap : Nat} {l : List Str} (h : CompsAt S w (.slice ao n cap) l) {k : Nat} {p : Str} (hk : l[k]? = some p) : ∃ b off, ao = some ⟨b, off, none⟩ ∧ S b ∧ w.cell? ⟨b, off + k, none⟩ = some (sv p) := by
  obtain ⟨_, _, e, h1, h2, h3, h4⟩ := h
  cases e
  obtain ⟨b, off, rfl, hS, h7⟩ := h4 (by intro e; rw [List.map_eq_nil_iff] at e; rw [e] at hk; simp at hk)
  exact ⟨b, off, rfl, hS, h7 k _ (by rw [List.getElem?_map, hk]; rfl)⟩
end
def bytesC (e : List Str) : Nat := (e.map List.length).sum
def bytesE (es : List (List Str)) : Nat := (es.map bytesC).sum
def bytesL (l : List Seg) : Nat := (l.map fun s => bytesE s.elems).sum
theorem sum_take {α : Type} (f : α → Nat) {l : List α} {k : Nat} {x : α} (h : l[k]? = some x) : ((l.take (k + 1)).map f).sum = ((l.take k).map f).sum + f x := by
  rw [List.take_add_one, h]; simp
theorem sum_take_le {α : Type} (f : α → Nat) (l : List α) (k : Nat) : ((l.take k).map f).sum ≤ (l.map f).sum := by
  have h := congrArg (fun m => (List.map f m).sum) (List.take_append_drop k l)
  simp only [List.map_append, List.sum_append] at h
  omega
/-- what is not heavy -/
structure LightS (l : List Seg) : Prop where
  n : l.length ≤ 80
  seg : ∀ s ∈ l, s.tag.length ≤ 300 ∧ s.elems.length ≤ 40
  el : ∀ s ∈ l, ∀ e ∈ s.elems, e.length ≤ 40
  bytes : bytesL l ≤ 3000
theorem joinT_le (e : List Str) : (elemT e).length ≤ 2 * bytesC e + e.length := by
  have h1 : ∀ l : List Str, (l.flatMap fun p => 58 :: compT p).length ≤ 2 * bytesC l + l.length := fun l => by
    induction l with
    | nil => simp [bytesC]
    | cons a l ih =>
      have := compT_len a
      have := sgN_le a
      simp only [List.flatMap_cons, List.length_append, List.length_cons, bytesC, List.map_cons, List.sum_cons] at ih ⊢
      omega
  cases e with
  | nil => simp [elemT, joinB]
  | cons p l =>
    have h := h1 l
    have := compT_len p
    have := sgN_le p
    rw [elemT_cons, List.length_append]
    unfold restT
    simp only [bytesC, List.map_cons, List.sum_cons, List.length_cons] at h ⊢
    omega
theorem segT_le (s : Seg) (h1 : ∀ e ∈ s.elems, e.length ≤ 40) : (segT s).length ≤ s.tag.length + 1 + 41 * s.elems.length + 2 * bytesE s.elems := by
  have key : ∀ es : List (List Str), (∀ e ∈ es, e.length ≤ 40) → (es.flatMap fun e => 43 :: elemT e).length ≤ 41 * es.length + 2 * bytesE es := fun es => by
    induction es with
    | nil => intro _; simp
    | cons a l ih =>
      intro h
      have h2 := ih fun e he => h e (List.mem_cons_of_mem _ he)
      have h3 := joinT_le a
      have h4 := h a List.mem_cons_self
      simp only [List.flatMap_cons, List.length_append, List.length_cons, bytesE, List.map_cons, List.sum_cons] at h2 ⊢
      omega
  have := key s.elems h1
  unfold segT
  simp only [List.length_append, List.length_cons, List.length_nil]
  omega
theorem LightS.print {l : List Seg} (h : LightS l) : (printT l).length ≤ 1048576 := by
  have key : ∀ m : List Seg, (∀ s ∈ m, s.tag.length ≤ 300 ∧ s.elems.length ≤ 40) → (∀ s ∈ m, ∀ e ∈ s.elems, e.length ≤ 40) → (printT m).length ≤ m.length * 1941 + 2 * bytesL m := fun m => by
    induction m with
    | nil => intro _ _; simp [printT]
    | cons a r ih =>
      intro h1 h2
      have h3 := ih (fun s hs => h1 s (List.mem_cons_of_mem _ hs)) (fun s hs => h2 s (List.mem_cons_of_mem _ hs))
      have h4 := segT_le a (h2 a List.mem_cons_self)
      have h5 := h1 a List.mem_cons_self
      simp only [printT, bytesL, List.flatMap_cons, List.length_append, List.map_cons, List.sum_cons, List.length_cons] at h3 ⊢
      omega
  have := key l h.seg h.el
  have := h.n
  have := h.bytes
  omega
def HeavyS (l : List Seg) (e : Ending) : Prop := ∃ b, e = .returned (.bool b) ∧ (b = false → LightS l)
theorem HeavyS.yes (l : List Seg) : HeavyS l (.returned (.bool true)) := ⟨true, rfl, fun h => by cases h⟩
end Go.Proofs.YteaaiejfieaalaaGreatDoor
