/-
  Texts EdiQ, EdiY6, EdiY7, EdiV, EdiY8, EdiZ1, EdiA2, EdiA3, EdiA4, ShaP, ShaA, ShaB, one behind the other. No condition beyond those stated in each.
-/
import Derived.Test.YtgfijlamhjjecaaGreatDoorMv3
import Derived.Deep.CutBlock
import Derived.Deep.DeepCutAuto
import Derived.Test.YtgfijlamhjjecaaGreatDoorMv1
import Derived.Lib.Walk
import Derived.Lib.AppendStr
import Derived.Lib.Join
import Derived.Lib.UnsafeStr
import Derived.Laws.Externs
import Derived.IntWalk
import Derived.BigQuiet
import Derived.Deep.QuietTactic
import Derived.StillTailTactics
namespace Go.Proofs.YtgfijlamhjjecaaGreatDoor
open Go.RowKit
def heldN (t : Str) (i : Nat) : Nat := ((t.take i).reverse.takeWhile (· == 63)).length
theorem takeWhile_len {α : Type} (f : α → Bool) : ∀ (l : List α) (k : Nat), (∀ j, j < k → ∃ x, l[j]? = some x ∧ f x = true) → (∀ x, l[k]? = some x → f x = false) → (l.takeWhile f).length = k
 | [], k, h1, _ => by
   cases k with
   | zero => rfl
   | succ k => obtain ⟨x, hx, _⟩ := h1 0 (by omega); simp at hx
 | a :: l, k, h1, h2 => by
   cases k with
   | zero => have := h2 a rfl; simp [List.takeWhile, this]
   | succ k =>
     obtain ⟨x, hx, hf⟩ := h1 0 (by omega)
     simp at hx; subst hx
     rw [List.takeWhile_cons, if_pos hf, List.length_cons, takeWhile_len f l k (fun j hj => by simpa using h1 (j + 1) (by omega)) (fun x hx => h2 x (by simpa using hx))]
theorem rev_take {t : Str} {i j : Nat} (hi : i ≤ t.length) (hj : j < i) : (t.take i).reverse[j]? = t[i - 1 - j]? := by
 rw [List.getElem?_reverse (by simp; omega)]
 simp only [List.length_take]
 rw [Nat.min_eq_left hi, List.getElem?_take_of_lt (by omega)]
theorem heldN_of {t : Str} {i k : Nat} (hi : i ≤ t.length) (hk : k ≤ i) (h1 : ∀ j, j < k → t[i - 1 - j]? = some 63) (h2 : k = i ∨ t[i - 1 - k]? ≠ some 63) : heldN t i = k := by
 refine takeWhile_len _ _ k (fun j hj => ⟨63, ?_, rfl⟩) (fun x hx => ?_)
 · rw [rev_take hi (by omega)]; exact h1 j hj
 · rcases h2 with rfl | h2
   · rw [List.getElem?_eq_none (by simp; omega)] at hx; cases hx
   · by_cases hki : k < i
     · rw [rev_take hi hki] at hx
       rw [hx] at h2
       simpa using h2
     · rw [List.getElem?_eq_none (by simp; omega)] at hx; cases hx
theorem at_byte (s : ByteArray) (i : Nat) (h : i < s.size) : s.data.toList[i]? = some (s[i]'h) := by
 show s.data.toList[i]? = some (s.data[i]'h)
 rw [List.getElem?_eq_getElem (by simpa using h)]
 simp
set_option maxRecDepth 100000 in
set_option maxHeartbeats 2000000 in
theorem held_any (r : Value) (s : ByteArray) (i : Nat) (hi : i ≤ s.size) (hs : s.size < 9223372036854775807) (w : World) : Calls Tryz.prog 145 #[r, .string s, .int .i64 (i : Int)] w fun e w' => e = .returned (.bool (heldN s.data.toList i % 2 == 1)) ∧ w = w' := by
 have heq : ∀ k : Nat, (((k : Int) % 2) == 1) = (k % 2 == 1) := fun k => by rw [Bool.eq_iff_iff, beq_iff_eq, beq_iff_eq]; omega
 have HEQ := Lib.hid heq
 clear heq
 go_enter Tryz.func145, Tryz.ntmps145
 go_wp2
 go_loop [7] (fun n => ∃ k : Nat, k ≤ i ∧ n = .int .i64 (k : Int) ∧ Hid (∀ j, j < k → s.data.toList[i - 1 - j]? = some 63)) (fun n => i - (intOf n).toNat)
 case atStart => exact ⟨0, by omega, rfl, Lib.hid fun j hj => absurd hj (by omega)⟩
 case round =>
  obtain ⟨k, hk, rfl, HK⟩ := hrel
  by_cases hlt : k < i
  · have hw1 : IntKind.i64.wrap ((i : Int) - 1) = ((i - 1 : Nat) : Int) := by rw [show ((i - 1 : Nat) : Int) = (i : Int) - 1 by omega]; exact IntWalk.i64_in _ (by omega)
    have hw2 : IntKind.i64.wrap (((i - 1 : Nat) : Int) - (k : Int)) = ((i - 1 - k : Nat) : Int) := by rw [show ((i - 1 - k : Nat) : Int) = ((i - 1 : Nat) : Int) - (k : Int) by omega]; exact IntWalk.i64_in _ (by omega)
    have hb : i - 1 - k < s.size := by omega
    have hA := at_byte s _ hb
    by_cases hq : s[i - 1 - k]'hb = 63
    · have hd : (((s[i - 1 - k]'hb).toNat : Int) == 63) = true := by rw [hq]; decide
      go_wp2
      go_round
      case rel =>
       refine ⟨k + 1, by omega, by go_num, Lib.hid fun j hj => ?_⟩
       by_cases hjk : j < k
       · exact HK.out j hjk
       · obtain rfl : j = k := by omega
         rw [hA, hq]
      case measure => simp [intOf]; omega
    · have hd : (((s[i - 1 - k]'hb).toNat : Int) == 63) = false := nat_eq _ 63 hq
      have HH := Lib.hid (show heldN s.data.toList i = k from heldN_of (by simpa using hi) hk HK.out (.inr (by rw [hA]; exact fun e => hq (Option.some.inj e))))
      go_wp2
      go_ret
      exact ⟨by rw [HH.out, ← HEQ.out k]; rfl, rfl⟩
  · obtain rfl : k = i := by omega
    have HH := Lib.hid (show heldN s.data.toList k = k from heldN_of (by simpa using hi) hk HK.out (.inl rfl))
    go_wp2
    go_ret
    exact ⟨by rw [HH.out, ← HEQ.out k]; rfl, rfl⟩
theorem makeBytes_rowE (n : Nat) : madeCells #[.int .u8 0] n = rowA n fun _ => 0 := by
 apply Array.ext_getElem?
 intro j
 by_cases hj : j < n
 · rw [rowA_get _ hj]
   simp only [madeCells, Array.getElem?_map]
   rw [Array.getElem?_eq_getElem (by simpa using hj)]
   simp [Nat.mod_one, bv]
 · rw [Array.getElem?_eq_none (by simp [madeCells]; omega), Array.getElem?_eq_none (by rw [rowA_size]; omega)]
theorem make_bytesE (n : Nat) (hn : n ≤ 140737488355328) (u : World) : (Instr.makeSlice 72 (.int .i64 (n : Int)) (.int .i64 (n : Int))).run Tryz.prog u = .ok (.slice (some ⟨u.heap.size, 0, none⟩) n n) (u.alloc (.cells (rowA n fun _ => 0) 5)) := by
 obtain ⟨i0, hi, hz0, hz1, hz2⟩ := info_parts einfo_u8
 have h := run_make (P := Tryz.prog) u 72 5 i0 _ Tryz.underlying72 hi hz0 .i64 .i64 (n : Int) (n : Int) (by omega) (Int.le_refl _) (by rw [hz2]; omega) (by omega)
 rw [h, hz1]
 simp only [Int.toNat_natCast, Value.cells, Nat.mul_one, makeBytes_rowE]
def outF (l : Str) (k : Nat) : Sec := fun j => (compT (l.take k)).getD j 0
theorem outF_fit (l : Str) (k' : Nat) : (compT (l.take k')).length ≤ l.length + sgN l := by
 rw [compT_len]
 have := sgN_take_mono l k'
 have : (l.take k').length ≤ l.length := by rw [List.length_take]; omega
 omega
theorem outF_set (l : Str) (k j n : Nat) (c : UInt8) (hj : j = (compT (l.take k)).length) (hc : compT (l.take (k + 1)) = compT (l.take k) ++ [c]) (hn : j < n) : (rowA n (outF l k)).setIfInBounds j (.int .u8 (c.toNat : Int)) = rowA n (outF l (k + 1)) := by
 apply Array.ext_getElem?
 intro i
 by_cases hi : i < n
 · rw [rowA_get _ hi]
   by_cases e : i = j
   · subst e
     rw [Array.getElem?_setIfInBounds_self_of_lt (by rw [rowA_size]; exact hi)]
     unfold outF; rw [hc, hj]; simp [bv]
   · rw [Array.getElem?_setIfInBounds_ne (by omega), rowA_get _ hi]
     unfold outF; rw [hc]
     congr 2
     by_cases h2 : i < j
     · simp only [List.getD_eq_getElem?_getD]; rw [List.getElem?_append_left (by omega)]
     · simp only [List.getD_eq_getElem?_getD]; rw [List.getElem?_append_right (by omega), List.getElem?_eq_none (by omega), List.getElem?_eq_none (by simp; omega)]
 · rw [Array.getElem?_eq_none (by simp [rowA_size]; omega), Array.getElem?_eq_none (by rw [rowA_size]; omega)]
theorem copy2 {l : Str} {k j n : Nat} {c : UInt8} (hj : j = (compT (l.take k)).length) (hc : compT (l.take (k + 1)) = compT (l.take k) ++ [63, c]) (_hn : j + 2 ≤ n) : rowA n (splF (outF l k) j 2 (fun i => ([63, c] : Str).getD i 0)) = rowA n (outF l (k + 1)) := by
 apply rowA_congr
 intro i hi
 unfold splF outF
 rw [hc]
 simp only [List.getD_eq_getElem?_getD]
 by_cases h : j ≤ i ∧ i < j + 2
 · rw [if_pos h, List.getElem?_append_right (by omega), ← hj]
 · rw [if_neg h]
   by_cases h2 : i < j
   · rw [List.getElem?_append_left (by omega)]
   · rw [List.getElem?_append_right (by omega), List.getElem?_eq_none (by omega), List.getElem?_eq_none (by simp; omega)]
theorem row2_at (w : World) (b : Nat) (c : UInt8) (h0 : w.cell? ⟨b, 0, none⟩ = some (bv 63)) (h1 : w.cell? ⟨b, 1, none⟩ = some (bv c)) : ∀ j v, (rowL 2 (fun i => ([63, c] : Str).getD i 0))[j]? = some v → w.cell? ((⟨b, 0, none⟩ : Addr).add j) = some v := by
 intro j v hv
 rw [Addr.add_mid, Nat.zero_add]
 have hj : j < 2 := by have := (List.getElem?_eq_some_iff.1 hv).1; rwa [rowL_length] at this
 rw [rowL_get _ hj] at hv
 match j, hj with
 | 0, _ => rw [h0]; exact hv
 | 1, _ => rw [h1]; exact hv
theorem getD_mem (k : Nat) (h : k < 4) : (DE 0).getD k 0 ∈ DE 0 := by
 match k, h with
 | 0, _ => decide
 | 1, _ => decide
 | 2, _ => decide
 | 3, _ => decide
set_option maxRecDepth 100000 in
set_option maxHeartbeats 4000000 in
theorem bsr_any (w : World) (g : Nat) (s : ByteArray) (h : FullAt w g) (hs : s.size ≤ 1048576) :
  Calls Tryz.prog 257 #[.pointer (some ⟨g, 0, none⟩), .string s] w fun e w' => e = .returned (sv (compT s.data.toList)) ∧ Below w.heap.size w w' := by
 obtain ⟨l, hl⟩ : ∃ l, s.data.toList = l := ⟨_, rfl⟩
 have hll : l.length = s.size := by rw [← hl]; simp
 have HL := Lib.hid hl
 have HLL := Lib.hid hll
 have HFU := Lib.hid h
 have hnl := fun (w : World) (a : Option Addr) (n c n' c' : Nat) => run_neq_slice_nil_any (P := Tryz.prog) w 72 5 a n c n' c' Tryz.underlying72
 obtain ⟨nb, cap, k0, hc4, hcm, hnm⟩ := h.names
 have HNM := Lib.hid hnm
 have hsn := sgN_le l
 rw [hll] at hsn
 rw [hl]
 clear hl hll h hnm
 go_enter Tryz.func257, Tryz.ntmps257
 go_upto_if 26 with fail
 obtain ⟨d32, hd32⟩ : ∃ d, decide ((32 : Int) ≤ (s.size : Int)) = d := ⟨_, rfl⟩
 rw [hd32]
 clear hd32
 go_cut [5, 6] (fun ns ac wx => ns = .int .i64 ((s.size + sgN l : Nat) : Int) ∧ ac = .bool (decide (0 < sgN l)) ∧ Hid (wx.heap = w.heap) ∧ Hid (Below w.heap.size w wx))
 case first =>
  cases d32
  rotate_left
  · go_wp2_with fail
    go_loopw [5, 6, 32] (fun ns ac i wr => ∃ (k N : Nat) (a : Bool), k ≤ 4 ∧ i = .int .i64 (k : Int) ∧ ns = .int .i64 (N : Int) ∧ ac = .bool a ∧ Hid (N = s.size + cntD l k) ∧ Hid (a = decide (0 < cntD l k)) ∧ Hid (wr.heap = w.heap) ∧ Hid (Below w.heap.size w wr)) (fun _ _ i _ => 4 - (intOf i).toNat)
    case atStart => exact ⟨0, s.size, false, by omega, rfl, rfl, rfl, Lib.hid (by simp [cntD]), Lib.hid (by simp [cntD]), Lib.hid rfl, Lib.hid (Below.refl _ _)⟩
    case round =>
     obtain ⟨k, N, a, hk, rfl, rfl, rfl, HN, HA, HW, HBE⟩ := hrel
     by_cases h4 : k < 4
     · obtain ⟨c, hc⟩ : ∃ c, (DE 0).getD k 0 = c := ⟨_, rfl⟩
       have hcell : wr.cell? ⟨nb, k, none⟩ = some (.string ⟨#[c]⟩) := by
        have := HNM.out k h4
        rw [hc] at this
        exact (cell_ag (by rw [HW.out])).trans this
       have b1 : (0 : Int) ≤ k := by omega
       have b2 : (k : Int) < 4 := by omega
       have hsg : signB c = true := (mem_DE c).1 (by rw [← hc]; exact getD_mem k h4)
       obtain ⟨b, cap2, y1, y2, y3, _⟩ := HFU.out.yes hsg
       have y1' := (cell_ag (g := g) (j := c.toNat) (by rw [HW.out])).trans y1
       obtain ⟨cn, hcn⟩ : ∃ cn, c.toNat = cn := ⟨_, rfl⟩
       have hq : ((⟨#[c]⟩ : ByteArray)[0]'(Nat.zero_lt_one)).toNat = cn := hcn
       have hc256 := c.toNat_lt
       rw [hcn] at y1' hc256
       have b3 : (0 : Int) ≤ cn := by omega
       have b4 : (cn : Int) < 256 := by omega
       have HCO := Lib.hid (fun w => Tryz.strings_Count_one s c w)
       have hml : l.count c ≤ l.length := List.count_le_length
       have hcs := cntD_succ l k h4
       rw [hc] at hcs
       have HCS := Lib.hid hcs
       rw [HL.out] at HCO
       obtain ⟨m, hm⟩ : ∃ m, Lib.countByte l c = m := ⟨_, rfl⟩
       have hm' : l.count c = m := hm
       rw [HLL.out, hm'] at hml
       rw [hm] at HCO
       rw [hm'] at HCS
       have hNle : N ≤ s.size + s.size := by have h1 := HN.out; have h2 := cntD_mono l k hk; omega
       clear y1 hcn hc hm hm' hsg hcs
       by_cases hm0 : m = 0
       · subst hm0
         go_wp2_with (go_at_call 259; refine (HCO.out _).mono ?_; rintro e w' ⟨rfl, rfl⟩)
         go_roundw
         case rel =>
          have h1 := HCS.out
          rw [Nat.add_zero] at h1
          exact ⟨k + 1, N, a, by omega, by go_num, rfl, rfl, Lib.hid (by rw [h1]; exact HN.out), Lib.hid (by rw [h1]; exact HA.out), HW, HBE⟩
         case measure => simp [intOf]; omega
       · have hm1 : ((m : Int) != 0) = true := by simp; omega
         have w1 : IntKind.i64.wrap ((m : Int) * 1) = (m : Int) := by rw [Int.mul_one]; exact IntWalk.i64_in _ (by omega)
         have w2 : IntKind.i64.wrap ((N : Int) + (m : Int)) = (N : Int) + (m : Int) := IntWalk.i64_in _ (by omega)
         go_upto_region 9 with (go_at_call 259; refine (HCO.out _).mono ?_; rintro e w' ⟨rfl, rfl⟩)
         go_quiet (fail)
         go_wp2_with fail
         go_roundw
         case rel =>
          have h1 := HCS.out
          exact ⟨k + 1, N + m, true, by omega, by go_num, by go_num, rfl, Lib.hid (by rw [h1, HN.out]; omega), Lib.hid (by rw [h1]; symm; rw [decide_eq_true_eq]; omega), Lib.hid HW.out, Lib.hid (HBE.out.trans ⟨rfl, rfl, rfl, Nat.le_refl _, fun _ _ => rfl⟩)⟩
         case measure => simp [intOf]; omega
     · obtain rfl : k = 4 := by omega
       have hNe : s.size + sgN l = N := by rw [HN.out, cntD_four]
       have hAe : decide (0 < sgN l) = a := by rw [HA.out, cntD_four]
       have HNE := Lib.hid hNe
       have HAE := Lib.hid hAe
       clear hNe hAe
       go_wp2_with fail
       go_meet
       case rel => exact ⟨by rw [HNE.out], by rw [HAE.out], HW, HBE⟩
  · go_wp2_with fail
    go_loopw [5, 6, 10] (fun ns ac i wr => ∃ (k N : Nat) (a : Bool), k ≤ s.size ∧ i = .int .i64 (k : Int) ∧ ns = .int .i64 (N : Int) ∧ ac = .bool a ∧ Hid (N = s.size + sgN (l.take k)) ∧ Hid (a = decide (0 < sgN (l.take k))) ∧ wr = w) (fun _ _ i _ => s.size - (intOf i).toNat)
    case atStart => exact ⟨0, s.size, false, by omega, rfl, rfl, rfl, Lib.hid (by simp [sgN]), Lib.hid (by simp [sgN]), rfl⟩
    case round =>
     obtain ⟨k, N, a, hk, rfl, rfl, rfl, HN, HA, rfl⟩ := hrel
     by_cases hlt : k < s.size
     · obtain ⟨c, hc⟩ : ∃ c, s[k]'hlt = c := ⟨_, rfl⟩
       have hcl : l[k]? = some c := by rw [← HL.out, ← hc]; exact at_byte s _ hlt
       have hsu := sgN_take hcl
       have hle := sgN_take_le l k
       have hN := HN.out
       obtain ⟨cn, hcn⟩ : ∃ cn, c.toNat = cn := ⟨_, rfl⟩
       have hc256 := c.toNat_lt
       have hq : (s[k]'hlt).toNat = cn := by rw [hc]; exact hcn
       rw [hcn] at hc256
       have b3 : (0 : Int) ≤ cn := by omega
       have b4 : (cn : Int) < 256 := by omega
       have hNle : N ≤ s.size + s.size := by rw [HLL.out] at hle; omega
       cases hsb : signB c with
       | true =>
         obtain ⟨b, cap2, y1, y2, y3, _⟩ := HFU.out.yes hsb
         rw [hcn] at y1
         rw [hsb, if_pos rfl] at hsu
         have HSU := Lib.hid hsu
         clear hsu hN hc hcl hcn hsb
         go_wp2_with fail
         go_roundw
         case rel =>
          have h1 := HSU.out
          exact ⟨k + 1, N + 1, true, by omega, by go_num, by go_num, rfl, Lib.hid (by rw [h1, HN.out]; omega), Lib.hid (by rw [h1]; symm; rw [decide_eq_true_eq]; omega), trivial⟩
         case measure => simp [intOf]; omega
       | false =>
         have y1 := HFU.out.no hsb
         rw [hcn] at y1
         rw [hsb, if_neg (by simp), Nat.add_zero] at hsu
         have HSU := Lib.hid hsu
         clear hsu hN hc hcl hcn hsb
         go_wp2_with fail
         go_roundw
         case rel =>
          have h1 := HSU.out
          exact ⟨k + 1, N, a, by omega, by go_num, rfl, rfl, Lib.hid (by rw [h1]; exact HN.out), Lib.hid (by rw [h1]; exact HA.out), trivial⟩
         case measure => simp [intOf]; omega
     · obtain rfl : k = s.size := by omega
       have e : l.take s.size = l := List.take_of_length_le (by rw [HLL.out]; exact Nat.le_refl _)
       have hN := HN.out
       have hA := HA.out
       rw [e] at hN hA
       have HNE := Lib.hid hN
       have HAE := Lib.hid hA
       clear hN hA e
       go_wp2_with fail
       go_meet
       case rel => exact ⟨by rw [HNE.out], by rw [HAE.out], Lib.hid rfl, Lib.hid (Below.refl _ _)⟩
 case rest =>
  obtain ⟨rfl, rfl, hh, hb⟩ := hcut
  have HFU2 := Lib.hid (HFU.out.cong (w' := wc) (fun k _ => by rw [hh.out]))
  obtain ⟨n, hn⟩ : ∃ n, s.size + sgN l = n := ⟨_, rfl⟩
  have hn2 : n ≤ 2097152 := by omega
  have HNN := Lib.hid hn
  rw [hn]
  clear k0 HNM hc4 hcm hn
  obtain ⟨A, hA⟩ : ∃ A, decide (0 < sgN l) = A := ⟨_, rfl⟩
  rw [hA]
  by_cases hz : sgN l = 0
  · have hz2 : A = false := by rw [← hA, decide_eq_false_iff_not]; omega
    subst hz2
    clear hA
    have HZ := Lib.hid (compT_same hz)
    clear hz
    go_wp2_with fail
    go_ret
    exact ⟨by rw [HZ.out, ← HL.out]; rfl, hb.out⟩
  · have hz2 : A = true := by rw [← hA, decide_eq_true_eq]; omega
    subst hz2
    clear hA
    have hmk := make_bytesE n (by omega) wc
    have hws := hb.out.size
    have HSZ := Lib.hid hz
    clear hz
    go_upto_block 4 with fail
    obtain ⟨qb, hqb⟩ : ∃ qb, wc.heap.size = qb := ⟨_, rfl⟩
    obtain ⟨w1, hw1⟩ : ∃ w1, wc.alloc (.cells (rowA n fun _ => 0) 5) = w1 := ⟨_, rfl⟩
    have HR1 := Lib.hid (show w1.heap[qb]? = some (.cells (rowA n (outF l 0)) 5 (0, 0)) by rw [← hw1, ← hqb]; exact heap_alloc_new _ _)
    have HO1 := Lib.hid (show ∀ k, k < qb → w1.heap[k]? = wc.heap[k]? by rw [← hw1, ← hqb]; exact fun k hk => Below.heap_alloc _ _ _ hk)
    have HB1 := Lib.hid (show Below w.heap.size w w1 by rw [← hw1]; exact hb.out.alloc hws _)
    rw [hqb] at hws
    have HQB := Lib.hid hqb
    rw [hqb, hw1]
    clear hqb hw1 hmk
    have hgq : g < qb := by rw [← HQB.out]; exact HFU2.out.lt
    go_wp2_with fail
    go_loopw [13, 14] (fun js i wr => ∃ (k j : Nat), k ≤ s.size ∧ i = .int .i64 (k : Int) ∧ js = .int .i64 (j : Int) ∧ Hid (j = (compT (l.take k)).length) ∧ Hid (wr.heap[qb]? = some (.cells (rowA n (outF l k)) 5 (0, 0))) ∧ Hid (∀ k, k < qb → wr.heap[k]? = wc.heap[k]?) ∧ Hid (Below w.heap.size w wr)) (fun _ i _ => s.size - (intOf i).toNat)
    case atStart => exact ⟨0, 0, by omega, rfl, rfl, Lib.hid rfl, HR1, HO1, HB1⟩
    case round =>
     obtain ⟨k, j, hk, rfl, rfl, HJ, HR, HO, HBE⟩ := hrel
     clear HR1 HO1 HB1
     by_cases hlt : k < s.size
     · obtain ⟨c, hc⟩ : ∃ c, s[k]'hlt = c := ⟨_, rfl⟩
       have hcl : l[k]? = some c := by rw [← HL.out, ← hc]; exact at_byte s _ hlt
       have hct := compT_take hcl
       have hnl := outF_fit l
       rw [HLL.out, HNN.out] at hnl
       have hjn := hnl (k + 1)
       rw [hct, List.length_append, ← HJ.out] at hjn
       clear hnl
       obtain ⟨cn, hcn⟩ : ∃ cn, c.toNat = cn := ⟨_, rfl⟩
       have hc256 := c.toNat_lt
       have hq : (s[k]'hlt).toNat = cn := by rw [hc]; exact hcn
       rw [hcn] at hc256
       have b3 : (0 : Int) ≤ cn := by omega
       have b4 : (cn : Int) < 256 := by omega
       have HCT := Lib.hid hct
       cases hsb : signB c with
       | true =>
         obtain ⟨b, cap2, y0, y2, y3, y4, y5⟩ := HFU2.out.yes hsb
         have y1 := (cell_ag (HO.out g hgq)).trans y0
         rw [hcn] at y1
         have he : escB c = [63, c] := by unfold escB; rw [hsb]; rfl
         rw [he] at hjn
         have hjn' : j + 2 ≤ n := by simp at hjn; omega
         have hbq : b < qb := by rw [← HQB.out]; exact cell_lt' y4
         have y4' := (cell_ag (HO.out b hbq)).trans y4
         have y5' := (cell_ag (HO.out b hbq)).trans y5
         have b5 : (0 : Int) ≤ j := by omega
         have b6 : (j : Int) ≤ n := by omega
         have b7 : (j : Int) < n := by omega
         have b8 : ¬ n = j := by omega
         have HN := Lib.hid (copy2 (n := n) HJ.out (by rw [HCT.out, he]) hjn')
         have HJ2 := Lib.hid (show j + 2 = (compT (l.take (k + 1))).length by rw [HCT.out, he, List.length_append, ← HJ.out]; rfl)
         have HSR := Lib.hid (row2_at wr b c y4' y5')
         have w2 : IntKind.i64.wrap ((j : Int) + 2) = (j : Int) + 2 := IntWalk.i64_in _ (by omega)
         clear hct hjn hc hcl hsb he y0 y4 y5 y4' y5'
         go_upto_region 28 with fail
         refine wp_region_plan [(0, false), (1, false), (2, false), (3, false), (4, false), (5, false), (6, false), (7, false), (8, false), (9, false), (10, true), (11, false), (12, false)] (fun w' => w'.cell? ⟨g, cn, none⟩ = some (.slice (some ⟨b, 0, none⟩) 2 cap2)) (by kernel_rfl) (by kernel_rfl) y1 ?_
         iterate 10 (refine' plan_val rfl rfl (fun w' hS => ?_) ?_; rotate_left; (focus (go_simp; rfl)); simp only [Act.put, List.setIfInBounds_toArray, List.set_cons_zero, List.set_cons_succ])
         refine plan_do rfl (fun K hK => ?_)
         refine wpList_val rfl (exec_copy (xv := .slice (some ⟨qb, j, none⟩) (n - j) (n - j)) (yv := .slice (some ⟨b, 0, none⟩) 2 cap2) rfl rfl rfl (fun ty => run_copy_bytes (P := Tryz.prog) wr.drew 72 72 5 qb j (n - j) (n - j) ⟨b, 0, none⟩ 2 cap2 n 2 (outF l k) (fun i => ([63, c] : Str).getD i 0) 5 Tryz.underlying72 (by kernel_rfl) HR.out (by show 2 = min 2 (n - j); omega) HSR.out hjn' ty)) ?_
         rw [HN.out]
         have hgq2 : g ≠ qb := by omega
         have y1'' : (wr.drew.setRow qb (rowA n (outF l (k + 1)))).cell? ⟨g, cn, none⟩ = some (.slice (some ⟨b, 0, none⟩) 2 cap2) := (cell_ag (setRow_other wr.drew qb g _ hgq2)).trans y1
         refine hK _ _ y1'' ?_
         clear hK K
         iterate 2 (refine' plan_val rfl rfl (fun w' hS => ?_) ?_; rotate_left; (focus (go_simp; rfl)); simp only [Act.put, List.setIfInBounds_toArray, List.set_cons_zero, List.set_cons_succ])
         refine plan_nil ?_
         have HR2 := Lib.hid (setRow_heap wr.drew qb (rowA n (outF l k)) (rowA n (outF l (k + 1))) _ _ HR.out)
         have HO2 := Lib.hid (show ∀ x, x < qb → (wr.drew.setRow qb (rowA n (outF l (k + 1)))).heap[x]? = wc.heap[x]? from fun x hx => (setRow_other wr.drew qb x _ (by omega)).trans (HO.out x hx))
         have HB2 := Lib.hid (show Below w.heap.size w (wr.drew.setRow qb (rowA n (outF l (k + 1)))) from HBE.out.trans ⟨rfl, rfl, rfl, by simp, fun x hx => setRow_other wr.drew qb x _ (by omega)⟩)
         clear y1'' y1
         go_wp2_with fail
         go_roundw
         case rel => exact ⟨k + 1, j + 2, by omega, by go_num, by go_num, HJ2, HR2, HO2, HB2⟩
         case measure => simp [intOf]; omega
       | false =>
         have y1 := (cell_ag (HO.out g hgq)).trans (HFU2.out.no hsb)
         rw [hcn] at y1
         have he : escB c = [c] := by unfold escB; rw [hsb]; rfl
         rw [he] at hjn
         have hjn' : j < n := by simp at hjn; omega
         have b5 : (0 : Int) ≤ j := by omega
         have b6 : (j : Int) < n := by omega
         have k1 : wr.cell? ⟨qb, j, none⟩ = some (bv (outF l k j)) := by rw [cell_of_row wr qb j _ _ _ HR.out, rowA_get _ hjn']
         have z1 := frozen_of_row wr qb j _ _ HR.out
         have HN := Lib.hid (show (wr.setCell ⟨qb, j, none⟩ (.int .u8 (cn : Int))).heap[qb]? = some (.cells (rowA n (outF l (k + 1))) 5 (0, 0)) by
          rw [heap_setCell_same wr qb j _ _ _ HR.out, ← hcn, outF_set l k j n c HJ.out (by rw [HCT.out, he]) hjn'])
         have HJ2 := Lib.hid (show j + 1 = (compT (l.take (k + 1))).length by rw [HCT.out, he, List.length_append, ← HJ.out]; rfl)
         clear hct hjn hc hcl hcn hsb he HR
         go_wp2_with fail
         go_roundw
         case rel => exact ⟨k + 1, j + 1, by omega, by go_num, by go_num, HJ2, HN, Lib.hid (fun x hx => (heap_setCell_other wr _ _ _ (by simp; omega)).trans (HO.out x hx)), Lib.hid (HBE.out.setCell (by simpa using hws) _)⟩
         case measure => simp [intOf]; omega
     · obtain rfl : k = s.size := by omega
       have e : l.take s.size = l := List.take_of_length_le (by rw [HLL.out]; exact Nat.le_refl _)
       have hR := HR.out
       unfold outF at hR
       rw [e] at hR
       have hcn : (compT l).length = n := by rw [compT_len, HLL.out, HNN.out]
       have hcv : (convert 72 9 (.slice (some ⟨qb, 0, none⟩) n n)).run Tryz.prog wr = .ok (.string ⟨(compT l).toArray⟩) wr := by
        have := run_convert_bytes_back (P := Tryz.prog) wr 72 9 5 ⟨qb, 0, none⟩ n (compT l) Tryz.underlying72 Tryz.underlying5 Tryz.underlying9 (fun j hj => by
         rw [Addr.add_mid, Nat.zero_add, cell_of_row wr qb j _ _ _ hR, rowA_get _ (by omega)]
         simp [bv, hj])
        rw [hcn] at this
        exact this
       clear hR hcn e HR
       go_wp2_with fail
       go_ret
       exact ⟨rfl, HBE.out⟩
theorem TabAt.full {w : World} {B g : Nat} (h : TabAt w B g (DE 0) (DE 0)) : FullAt w g := by
 obtain ⟨C, tv, h⟩ := h; exact ⟨B, C, tv, h⟩
theorem method_repl (a : Addr) (w : World) : (method 457 296 (.pointer (some a)) "Replace").run Tryz.prog w = .ok (257, .pointer (some a)) w := by kernel_rfl
set_option maxRecDepth 100000 in
theorem replace_any (w : World) (rb ob cap : Nat) (r : Value) (s : ByteArray) (hs : s.size ≤ 1048576) (hR : RepAt w rb 0 0 r (.slice (some ⟨ob, 0, none⟩) 8 cap)) (hO : OldAt w ob) (hne : ob ≠ rb) (hcap : 8 ≤ cap) (hc2 : cap ≤ maxLen) :
  Calls Tryz.prog 139 #[.pointer (some ⟨rb, 0, none⟩), .string s] w fun e w' => e = .returned (sv (compT s.data.toList)) ∧ Fr [rb] w w' := by
 have HD := Lib.hid (do_any w rb ob cap r hR hO hne hcap hc2)
 have hm := fun w g => method_repl ⟨g, 0, none⟩ w
 clear hR hO hc2
 go_enter Tryz.func139, Tryz.ntmps139
 go_wp2_with first | (go_at_call 257; refine HS.out.mono ?_; rintro e w2 ⟨rfl, hb2⟩; have HB2 := Lib.hid hb2; clear hb2) | (go_at_call 164; refine HD.out.mono ?_; rintro e w1 ⟨rfl, ⟨g, hr, ht⟩, hf⟩; have HT := Lib.hid ht.full; have HF := Lib.hid hf; have c3 := hr.cell 3; have HS := Lib.hid (bsr_any w1 g s HT.out hs); unfold repV at *; clear hr ht hf)
 go_ret
 exact ⟨rfl, HF.out.then_below HB2.out HF.out.size⟩
end Go.Proofs.YtgfijlamhjjecaaGreatDoor
namespace Go.Proofs.YtgfijlamhjjecaaGreatDoor
def okB (c : UInt8) : Prop := 32 ≤ c.toNat ∧ c.toNat ≤ 126
def okP (p : Str) : Prop := p.length ≤ 256 ∧ ∀ c ∈ p, okB c
def okEl (e : List Str) : Prop := e ≠ [] ∧ e.length ≤ 8 ∧ ∀ p ∈ e, okP p
def okT (t : Str) : Prop := t.length = 3 ∧ ∀ c ∈ t, tagB c = true
def okS (s : Seg) : Prop := okT s.tag ∧ s.elems.length ≤ 16 ∧ ∀ e ∈ s.elems, okEl e
def okL (l : List Seg) : Prop := l.length ≤ 64 ∧ ∀ s ∈ l, okS s
theorem badB_iff (c : UInt8) : badB c = false ↔ okB c := by
 unfold badB okB; simp
theorem printE_ok {l : List Seg} : okL l → (printT l).length ≤ 65536 → printE l = (printT l, 0) := by
 intro h hl
 have h1 : argP l = false := by
  unfold argP; rw [List.any_eq_false]; intro s hs
  have := h.2 s hs
  rw [Bool.not_eq_true, Bool.or_eq_false_iff]
  refine ⟨?_, ?_⟩
  · unfold tagBad
    rw [Bool.or_eq_false_iff]
    refine ⟨by simp [this.1.1], ?_⟩
    simp only [Bool.not_eq_false', List.all_eq_true]
    exact this.1.2
  · rw [List.any_eq_false]; intro e he; have := this.2.2 e he
    cases e with
    | nil => exact absurd rfl this.1
    | cons a b => simp
 have h2 : signP l = false := by
  unfold signP; rw [List.any_eq_false]; intro s hs
  rw [Bool.not_eq_true, List.any_eq_false]; intro e he
  rw [Bool.not_eq_true, List.any_eq_false]; intro p hp
  rw [Bool.not_eq_true, List.any_eq_false]; intro c hc
  rw [Bool.not_eq_true]
  exact (badB_iff c).2 ((((h.2 s hs).2.2 e he).2.2 p hp).2 c hc)
 have h3 : longP l = false := by
  unfold longP; rw [Bool.or_eq_false_iff]; refine ⟨by have := h.1; simp; omega, ?_⟩
  rw [List.any_eq_false]; intro s hs
  rw [Bool.not_eq_true, Bool.or_eq_false_iff]; refine ⟨by have := (h.2 s hs).2.1; simp; omega, ?_⟩
  rw [List.any_eq_false]; intro e he
  rw [Bool.not_eq_true, Bool.or_eq_false_iff]; refine ⟨by have := ((h.2 s hs).2.2 e he).2.1; simp; omega, ?_⟩
  rw [List.any_eq_false]; intro p hp
  have := (((h.2 s hs).2.2 e he).2.2 p hp).1
  simp; omega
 unfold printE
 rw [h1, h2, h3]
 simp; omega
theorem okL_of {l : List Seg} {t : Str} (h : printE l = (t, 0)) : okL l ∧ t = printT l ∧ t.length ≤ 65536 := by
 unfold printE at h
 split at h
 · cases h
 · rename_i ha
   split at h
   · cases h
   · rename_i hs
     split at h
     · cases h
     · rename_i hg
       cases h
       rw [Bool.not_eq_true] at ha hs hg
       rw [Bool.or_eq_false_iff] at hg
       have hlen := hg.2
       have hlong := hg.1
       unfold argP at ha; unfold signP at hs; unfold longP at hlong
       rw [Bool.or_eq_false_iff] at hlong
       rw [List.any_eq_false] at ha hs
       obtain ⟨hl1, hl2⟩ := hlong
       rw [List.any_eq_false] at hl2
       refine ⟨⟨by simpa using hl1, fun s hs' => ?_⟩, rfl, by simpa using hlen⟩
       have a1 := ha s hs'
       have a2 := hs s hs'
       have a3 := hl2 s hs'
       rw [Bool.not_eq_true, Bool.or_eq_false_iff] at a1 a3
       rw [Bool.not_eq_true, List.any_eq_false] at a2
       obtain ⟨b1, b2⟩ := a1
       obtain ⟨c1, c2⟩ := a3
       rw [List.any_eq_false] at b2 c2
       unfold tagBad at b1
       rw [Bool.or_eq_false_iff] at b1
       obtain ⟨b3, b4⟩ := b1
       rw [Bool.not_eq_false', List.all_eq_true] at b4
       refine ⟨⟨by simpa using b3, b4⟩, by simpa using c1, fun e he => ?_⟩
       have d1 := b2 e he
       have d2 := a2 e he
       have d3 := c2 e he
       rw [Bool.not_eq_true, List.any_eq_false] at d2
       rw [Bool.not_eq_true, Bool.or_eq_false_iff] at d3
       obtain ⟨d4, d5⟩ := d3
       rw [List.any_eq_false] at d5
       refine ⟨fun e0 => by subst e0; simp at d1, by simpa using d4, fun p hp => ?_⟩
       have f1 := d2 p hp
       have f2 := d5 p hp
       rw [Bool.not_eq_true, List.any_eq_false] at f1
       exact ⟨by simpa using f2, fun c hc => (badB_iff c).1 (by simpa using f1 c hc)⟩
theorem runE_tag (l : List Seg) : ∀ (r t : Str) (i : Nat) (k : Str), t.length + r.length = 3 → 0 < r.length → (∀ c ∈ r, tagB c = true) → runE (.tag l t) i (r ++ k) = runE (.bhd l (t ++ r)) (i + r.length) k
 | [], _, _, _, _, h, _ => by simp at h
 | [c], t, i, k, h, _, hc => by
   have hc := hc c (by simp)
   simp at h
   simp only [List.cons_append, List.nil_append, runE, stepE, tagS, hc]
   rw [if_neg (by simp), if_neg (by omega)]
   rfl
 | c :: d :: r, t, i, k, h, _, hc => by
   have h1 := hc c (by simp)
   simp only [List.length_cons] at h
   rw [List.cons_append, runE]
   simp only [stepE, tagS, h1]
   rw [if_neg (by simp), if_pos (by omega)]
   have := runE_tag l (d :: r) (t ++ [c]) (i + 1) k (by simp; omega) (by simp) (fun x hx => hc x (by simp at hx ⊢; exact .inr hx))
   simp only []
   rw [this]
   simp only [List.append_assoc, List.cons_append, List.nil_append, List.length_cons]
   congr 1; omega
theorem tagB_10 {c : UInt8} (h : tagB c = true) : c ≠ 10 := by rintro rfl; exact absurd h (by decide)
theorem runE_tag0 {l : List Seg} {t : Str} (ht : okT t) (hl : l.length < 64) (i : Nat) (k : Str) : runE (.btw l) i (t ++ k) = runE (.bhd l t) (i + 3) k := by
 obtain ⟨h3, hc⟩ := ht
 match t, h3, hc with
 | [a, b, c], _, hc =>
   have h1 := hc a (by simp)
   simp only [List.cons_append, List.nil_append]
   rw [runE]
   simp only [stepE]
   rw [if_neg (by rintro ⟨rfl, _⟩; exact tagB_10 h1 rfl), if_neg (by omega)]
   simp only [tagS, h1]
   rw [if_neg (by simp), if_pos (by simp)]
   simp only [List.nil_append]
   have := runE_tag l [b, c] [a] (i + 1) k (by simp) (by simp) (fun x hx => hc x (by simp at hx ⊢; exact .inr hx))
   simp only [List.cons_append, List.nil_append, List.length_cons, List.length_nil] at this
   rw [this]
theorem signB_63 {c : UInt8} (h : signB c = false) : c ≠ 63 := by rintro rfl; exact absurd h (by decide)
theorem runE_comp {l : List Seg} {t : Str} {es : List (List Str)} {cs : List Str} : ∀ (q p : Str) (i : Nat) (k : Str), p.length + q.length ≤ 256 → (∀ c ∈ q, okB c) → runE (.cmp l t es cs p) i (compT q ++ k) = runE (.cmp l t es cs (p ++ q)) (i + (compT q).length) k
 | [], p, i, k, _, _ => by simp [compT]
 | c :: q, p, i, k, h, hc => by
   simp only [List.length_cons] at h
   have hc1 := hc c (by simp)
   have ih := runE_comp (l := l) (t := t) (es := es) (cs := cs) q (p ++ [c])
   have e : compT (c :: q) = escB c ++ compT q := by simp [compT]
   rw [e, List.append_assoc]
   unfold escB
   by_cases hs : signB c = true
   · rw [if_pos hs]
     simp only [List.cons_append, List.nil_append, runE, stepE, if_true]
     simp only [hs, if_true, putS]
     rw [if_neg (by omega)]
     simp only []
     rw [ih (i + 1 + 1) k (by simp; omega) (fun x hx => hc x (by simp [hx]))]
     simp only [List.append_assoc, List.cons_append, List.nil_append, List.length_cons]
     congr 1; omega
   · rw [Bool.not_eq_true] at hs
     rw [hs, if_neg (by simp)]
     simp only [List.cons_append, List.nil_append, runE, stepE]
     rw [if_neg (signB_63 hs), hs, if_neg (by simp), if_neg (by unfold okB at hc1; omega), putS, if_neg (by omega)]
     simp only []
     rw [ih (i + 1) k (by simp; omega) (fun x hx => hc x (by simp [hx]))]
     simp only [List.append_assoc, List.cons_append, List.nil_append, List.length_cons]
     congr 1; omega
def restT (cs : List Str) : Str := cs.flatMap fun p => 58 :: compT p
theorem joinB_cons (s : UInt8) (a : Str) (l : List Str) : joinB s (a :: l) = a ++ l.flatMap (fun p => s :: p) := by
 induction l generalizing a with
 | nil => simp [joinB]
 | cons b l ih => rw [joinB, ih b]; simp
theorem elemT_cons (p : Str) (cs : List Str) : elemT (p :: cs) = compT p ++ restT cs := by
 unfold elemT restT
 rw [List.map_cons, joinB_cons, List.flatMap_map]
theorem runE_rest {l : List Seg} {t : Str} {es : List (List Str)} : ∀ (qs cs : List Str) (p : Str) (i : Nat) (k : Str), cs.length + 1 + qs.length ≤ 8 → (∀ q ∈ qs, okP q) → runE (.cmp l t es cs p) i (restT qs ++ k) = match (cs ++ p :: qs).reverse with
  | a :: b => runE (.cmp l t es b.reverse a) (i + (restT qs).length) k
  | [] => .err 0 0
 | [], cs, p, i, k, _, _ => by simp [restT]
 | q :: qs, cs, p, i, k, h, hq => by
   simp only [List.length_cons] at h
   have e : restT (q :: qs) = 58 :: (compT q ++ restT qs) := by simp [restT]
   rw [e]
   simp only [List.cons_append, runE, stepE]
   rw [if_neg (by decide), if_pos (by decide)]
   simp only [signS]
   rw [if_neg (by decide), if_neg (by decide), if_neg (by omega)]
   simp only []
   rw [List.append_assoc, runE_comp q [] (i + 1) _ (by have := (hq q (by simp)).1; simpa using this) (hq q (by simp)).2]
   have ih := runE_rest (l := l) (t := t) (es := es) qs (cs ++ [p]) q (i + 1 + (compT q).length) k (by simp; omega) (fun x hx => hq x (by simp [hx]))
   rw [List.nil_append, ih]
   simp only [List.append_assoc, List.cons_append, List.nil_append, List.length_cons, List.length_append]
   split
   · rw [show i + 1 + (compT q).length + (restT qs).length = i + ((compT q).length + (restT qs).length + 1) by omega]
   · rfl
inductive Ends (cs : List Str) (p : Str) : List Str → Prop
 | mk : Ends cs p (cs ++ [p])
theorem runE_elem {l : List Seg} {t : Str} {es : List (List Str)} (e : List Str) (he : okEl e) (i : Nat) (k : Str) : ∃ cs p, cs ++ [p] = e ∧ runE (.cmp l t es [] []) i (elemT e ++ k) = runE (.cmp l t es cs p) (i + (elemT e).length) k := by
 obtain ⟨h1, h2, h3⟩ := he
 match e, h1 with
 | p :: qs, _ =>
   rw [elemT_cons, List.append_assoc, runE_comp p [] i _ (by have := (h3 p (by simp)).1; simpa using this) (h3 p (by simp)).2, runE_rest qs [] ([] ++ p) _ k (by simp at h2 ⊢; omega) (fun x hx => h3 x (by simp [hx]))]
   rw [List.nil_append, List.nil_append]
   cases hr : (p :: qs).reverse with
   | nil => simp at hr
   | cons a b =>
     refine ⟨b.reverse, a, ?_, ?_⟩
     · have := congrArg List.reverse hr
       simp at this
       rw [this]
     · simp only [List.length_append]
       congr 1; omega
theorem runE_elems {l : List Seg} {t : Str} : ∀ (ds es : List (List Str)) (cs : List Str) (p : Str) (i : Nat) (k : Str), es.length + 1 + ds.length ≤ 16 → (∀ e ∈ ds, okEl e) →
  runE (.cmp l t es cs p) i (ds.flatMap (fun e => 43 :: elemT e) ++ 39 :: k) = runE (.btw (l ++ [⟨t, es ++ [cs ++ [p]] ++ ds⟩])) (i + (ds.flatMap (fun e => 43 :: elemT e)).length + 1) k
 | [], es, cs, p, i, k, _, _ => by
   simp only [List.flatMap_nil, List.nil_append, runE, stepE]
   rw [if_neg (by decide), if_pos (by decide)]
   simp [signS]
 | d :: ds, es, cs, p, i, k, h, hd => by
   simp only [List.length_cons] at h
   rw [List.flatMap_cons]
   simp only [List.cons_append, runE, stepE, List.append_assoc]
   rw [if_neg (by decide), if_pos (by decide)]
   simp only [signS]
   rw [if_neg (by decide), if_pos trivial, if_neg (by omega)]
   simp only []
   obtain ⟨cs', p', h1, h2⟩ := runE_elem (l := l) (t := t) (es := es ++ [cs ++ [p]]) d (hd d (by simp)) (i + 1) (List.flatMap (fun e => 43 :: elemT e) ds ++ 39 :: k)
   rw [h2, runE_elems ds (es ++ [cs ++ [p]]) cs' p' _ k (by simp; omega) (fun x hx => hd x (by simp [hx])), h1]
   simp only [List.append_assoc, List.cons_append, List.nil_append, List.length_cons, List.length_append]
   congr 1; omega
theorem runE_seg {l : List Seg} {s : Seg} (hs : okS s) (hl : l.length < 64) (i : Nat) (k : Str) : runE (.btw l) i (segT s ++ k) = runE (.btw (l ++ [s])) (i + (segT s).length) k := by
 obtain ⟨h1, h2, h3⟩ := hs
 unfold segT
 rw [List.append_assoc, List.append_assoc, runE_tag0 h1 hl]
 have hl3 := h1.1
 obtain ⟨tg, els⟩ := s
 simp only at h2 h3 hl3 ⊢
 match els, h2, h3 with
 | [], _, _ =>
   simp only [List.flatMap_nil, List.nil_append, List.append_nil, List.cons_append, runE, stepE]
   rw [if_pos trivial, List.length_append, hl3]
   rfl
 | d :: ds, h2, h3 =>
   rw [List.flatMap_cons]
   simp only [List.cons_append, runE, stepE, List.append_assoc, List.nil_append]
   rw [if_neg (by decide), if_pos trivial]
   simp only []
   obtain ⟨cs', p', g1, g2⟩ := runE_elem (l := l) (t := tg) (es := []) d (h3 d (by simp)) (i + 3 + 1) (List.flatMap (fun e => 43 :: elemT e) ds ++ 39 :: k)
   rw [g2, runE_elems ds [] cs' p' _ k (by simp at h2 ⊢; omega) (fun x hx => h3 x (by simp [hx])), g1]
   simp only [List.cons_append, List.nil_append, List.length_cons, List.length_append, hl3, List.length_nil]
   congr 1; omega
theorem runE_segs : ∀ (m l : List Seg) (i : Nat) (k : Str), l.length + m.length ≤ 64 → (∀ s ∈ m, okS s) → runE (.btw l) i (printT m ++ k) = runE (.btw (l ++ m)) (i + (printT m).length) k
 | [], l, i, k, _, _ => by simp [printT]
 | s :: m, l, i, k, h, hm => by
   simp only [List.length_cons] at h
   have e : printT (s :: m) = segT s ++ printT m := by simp [printT]
   rw [e, List.append_assoc, runE_seg (hm s (by simp)) (by omega), runE_segs m (l ++ [s]) _ k (by simp; omega) (fun x hx => hm x (by simp [hx]))]
   simp only [List.append_assoc, List.cons_append, List.nil_append, List.length_append]
   congr 1; omega
theorem parse_print {l : List Seg} (h : okL l) (hp : (printT l).length ≤ 65536) : parseE (printT l) = (l, 0, 0) := by
 unfold parseE
 rw [if_neg (by omega)]
 have := runE_segs l [] 0 [] (by simpa using h.1) h.2
 rw [List.append_nil] at this
 rw [this]
 simp only [runE, List.nil_append]
end Go.Proofs.YtgfijlamhjjecaaGreatDoor
namespace Go.Proofs.YtgfijlamhjjecaaGreatDoor
open Go.RowKit
theorem lies_bld : liesAt Tryz.prog Tryz.prog.depth 203 (2 / Tryz.prog.cellsOf 203) 0 203 1 = true := by kernel_rfl
theorem size_bld : (Tryz.prog.info? 203).map (·.size) = some 2 := by kernel_rfl
set_option maxRecDepth 100000 in
set_option maxHeartbeats 1000000 in
theorem copyCheck_used (b : Nat) (w : World) (h0 : w.cell? ⟨b, 0, none⟩ = some (.pointer (some ⟨b, 0, none⟩))) :
  Calls Tryz.prog 167 #[.pointer (some ⟨b, 0, none⟩)] w fun e w' => e = .returned (.tuple #[]) ∧ w' = w := by
 obtain ⟨j, hj, _⟩ := Option.map_eq_some_iff.1 size_bld
 go_enter Tryz.func167, Tryz.ntmps167
 go_wp2
 rw [Lib.run_neq_ptr_same w _ Tryz.underlying201 hj]
 go_wp2
 go_end0
 exact ⟨rfl, rfl⟩
set_option maxRecDepth 100000 in
set_option maxHeartbeats 1000000 in
theorem copyCheck_fresh (b : Nat) (w : World) (h0 : w.cell? ⟨b, 0, none⟩ = some (.pointer none)) (hsh : w.shape? b = some (203, 2)) (hfz : w.frozen? ⟨b, 0, none⟩ = false) :
  Calls Tryz.prog 167 #[.pointer (some ⟨b, 0, none⟩)] w fun e w' => e = .returned (.tuple #[]) ∧ w' = w.setCell ⟨b, 0, none⟩ (.pointer (some ⟨b, 0, none⟩)) := by
 obtain ⟨j, hj, hjs⟩ := Option.map_eq_some_iff.1 size_bld
 go_enter Tryz.func167, Tryz.ntmps167
 go_wp2
 rw [Lib.run_to_unsafe w ⟨b, 0, none⟩ Tryz.underlying201 Tryz.underlying275 hj (by rw [hjs]; decide) hsh (Nat.zero_lt_succ 1)]
 simp only [Result.andThen]
 rw [Oper.upon_value]
 go_wp2
 rw [run_callFunc_extern Tryz.func185 (by kernel_rfl) (by kernel_rfl) (by kernel_rfl) (e := Extern.AbiNoEscape.same) (by kernel_rfl)]
 rw [Lib.run_noEscape]
 simp only [Result.andThen]
 rw [Oper.upon_value]
 go_wp2
 rw [Lib.run_from_unsafe w ⟨b, 0, none⟩ Tryz.underlying275 Tryz.underlying201 hj hsh lies_bld]
 simp only [Result.andThen]
 rw [Oper.upon_value]
 go_wp2
 go_end0
 exact ⟨rfl, rfl⟩
def BldAt (w : World) (B b : Nat) (l : Str) : Prop := Lib.IsBuilder 203 5 B b (Lib.byteCells l) w
theorem copyCheck_any (B b : Nat) (bs : List Value) (w : World) (h : Lib.IsBuilder 203 5 B b bs w) :
  Calls Tryz.prog 167 #[.pointer (some ⟨b, 0, none⟩)] w fun e w' => e = .returned (.tuple #[]) ∧ Lib.BuilderAt 203 5 B b (.pointer (some ⟨b, 0, none⟩)) bs w' ∧ Below B w w' := by
 rcases h with h | h
 · refine (copyCheck_fresh b w h.cell0 h.shape h.frozen0).mono ?_
   rintro e w' ⟨rfl, rfl⟩
   exact ⟨rfl, h.used _, (Below.refl _ _).setCell h.1 _⟩
 · refine (copyCheck_used b w h.cell0).mono ?_
   rintro e w' ⟨rfl, rfl⟩
   exact ⟨rfl, h, Below.refl _ _⟩
set_option maxRecDepth 100000 in
set_option maxHeartbeats 2000000 in
theorem writeString_any (B b : Nat) (l : Str) (s : ByteArray) (w : World) (h : BldAt w B b l) (hlen : l.length + s.size ≤ 140737488355328) (hBw : B ≤ w.heap.size) :
  Calls Tryz.prog 141 #[.pointer (some ⟨b, 0, none⟩), .string s] w fun e w' => e = .returned (.tuple #[.int .i64 s.size, .nilIface]) ∧ BldAt w' B b (l ++ s.data.toList) ∧ Below B w w' := by
 obtain ⟨i0, hi, hz0, hz1, hz2⟩ := info_parts einfo_u8
 have hbl : (Lib.byteCells l).length = l.length := Lib.byteCells_length l
 obtain ⟨bs, hbs⟩ : ∃ bs, Lib.byteCells l = bs := ⟨_, rfl⟩
 have HBS := Lib.hid hbs
 unfold BldAt at h ⊢
 rw [hbs] at h hbl
 have hlen' : bs.length + s.size ≤ 140737488355328 := by omega
 have HC := Lib.hid (copyCheck_any B b bs w h)
 clear hbs hbl h hlen
 go_enter Tryz.func141, Tryz.ntmps141
 go_wp2_with (go_at_call 167; refine HC.out.mono ?_)
 rintro e w1 ⟨rfl, h1, hb1⟩
 obtain ⟨hB, v, hbk, hown, hne⟩ := h1
 have c0 : w1.cell? ⟨b, 0, none⟩ = some (.pointer (some ⟨b, 0, none⟩)) := by rw [cell_of_row w1 b 0 _ _ _ hbk]; rfl
 have c1 : w1.cell? ⟨b, 1, none⟩ = some v := by rw [cell_of_row w1 b 1 _ _ _ hbk]; rfl
 go_wp2_with (at_builtin; refine Lib.wpList_append_own_string _ rfl _ _ 72 9 rfl B 5 i0 Tryz.underlying72 Tryz.underlying9 hi hz0 hz1 hz2 _ _ _ rfl hown s rfl ?c3 ?c4 ?c5 ?_)
 case c3 => unfold maxLen; omega
 case c4 => omega
 case c5 => have := hb1.size; omega
 intro v' w2 hown' hgrow _
 have hlt : b < w1.heap.size := (Array.getElem?_eq_some_iff.1 hbk).1
 have hb2 : w2.heap[b]? = some (.cells #[.pointer (some ⟨b, 0, none⟩), v] 203 (0, 0)) := by
  rw [hgrow.block b hlt (fun e => hne e.symm)]
  exact hbk
 have d0 : w2.cell? ⟨b, 0, none⟩ = some (.pointer (some ⟨b, 0, none⟩)) := by rw [cell_of_row w2 b 0 _ _ _ hb2]; rfl
 have d1 : w2.cell? ⟨b, 1, none⟩ = some v := by rw [cell_of_row w2 b 1 _ _ _ hb2]; rfl
 have f1 : w2.frozen? ⟨b, 1, none⟩ = false := frozen_of_row w2 b 1 _ _ hb2
 obtain ⟨ao, n', cap, rfl⟩ : ∃ ao n' cap, v' = .slice ao n' cap := by
  rcases hown'.2 with ⟨hv, _⟩ | ⟨g, cap, cur, hv, _⟩
  · exact ⟨_, _, _, hv⟩
  · exact ⟨_, _, _, hv⟩
 go_wp2
 go_ret2
 refine ⟨rfl, .inr ?_, ?_⟩
 · have hbe : Lib.byteCells (l ++ s.data.toList) = bs ++ Lib.strCells s := by rw [← HBS.out]; simp [Lib.byteCells, Lib.strCells]
   rw [hbe]
   exact Lib.BuilderAt.put (T := 203) (e := 5) hB hb2 (bs' := bs ++ Lib.strCells s) (by simpa [Lib.strCells_length] using hown') (by decide)
 · exact (hb1.grown hgrow (by have := hb1.size; omega) (fun k hk => (hown.lt k hk).1)).setCell (p := ⟨b, 1, none⟩) hB _
theorem joinB_eq (c : UInt8) (xs : List Str) : joinB c xs = Lib.join xs [c] := by
 cases xs with
 | nil => rfl
 | cons a l =>
   rw [joinB_cons, Lib.join_cons, Lib.joinTail, List.flatMap_def]
   rfl
set_option maxRecDepth 100000 in
theorem join_any {S : Nat → Prop} (w : World) (c : UInt8) (v : Value) (xs : List Str) (h : CompsAt S w v xs) (hN : xs.length ≤ 1048576) (hl : (joinB c xs).length ≤ 140737488355328) :
  Calls Tryz.prog 140 #[.string ⟨#[c]⟩, v] w fun e w' => e = .returned (sv (joinB c xs)) ∧ Below w.heap.size w w' := by
 obtain ⟨ao, cap, rfl, h1, h2, h3, h4⟩ := h
 rw [List.length_map] at h1 ⊢
 have HJ : Hid (Calls Tryz.prog 166 #[.slice ao xs.length cap, .string ⟨#[c]⟩] w fun e w' => e = .returned (sv (joinB c xs)) ∧ Below w.heap.size w w') := Lib.hid (by
  cases xs with
  | nil => exact (Tryz.strings_Join_none ao cap ⟨#[c]⟩ w).mono (fun e w' ⟨h, h'⟩ => ⟨h, h' ▸ Below.refl _ _⟩)
  | cons a l =>
    obtain ⟨b, off, rfl, _, hc⟩ := h4 (by simp)
    have hb : b < w.heap.size := cell_lt' (hc 0 (sv a) (by simp))
    have hm : (((a :: l).map fun s => (⟨s.toArray⟩ : ByteArray)).map (·.data.toList)) = a :: l := by rw [List.map_map]; exact List.map_id _
    have := Tryz.strings_Join b off cap ((a :: l).map fun s => ⟨s.toArray⟩) ⟨#[c]⟩ w (fun j x hx => by
     rw [List.getElem?_map, Option.map_eq_some_iff] at hx
     obtain ⟨y, hy, rfl⟩ := hx
     exact hc j (sv y) (by rw [List.getElem?_map, hy]; rfl)) hb (by simp at hN ⊢; omega) (by simpa using h1) (by rw [hm, ← joinB_eq]; exact hl)
    rw [hm, ← joinB_eq, List.length_map] at this
    exact this)
 obtain ⟨J, hJ⟩ : ∃ J, sv (joinB c xs) = J := ⟨_, rfl⟩
 rw [hJ] at HJ ⊢
 clear hJ h3 h4
 go_enter Tryz.func140, Tryz.ntmps140
 go_wp2_with (go_at_call 166; refine HJ.out.mono ?_; rintro e w1 ⟨rfl, hb⟩)
 go_ret
 exact ⟨rfl, hb⟩
def argE (es : List (List Str)) : Bool := es.any fun e => e.isEmpty
def signC (e : List Str) : Bool := e.any fun p => p.any badB
def signE (es : List (List Str)) : Bool := es.any signC
def longC (e : List Str) : Bool := e.any fun p => decide (256 < p.length)
def longE (es : List (List Str)) : Bool := es.any fun e => decide (8 < e.length) || longC e
def argS (s : Seg) : Bool := tagBad s.tag || argE s.elems
def longS (s : Seg) : Bool := decide (16 < s.elems.length) || longE s.elems
theorem argP_eq (l : List Seg) : argP l = l.any argS := rfl
theorem signP_eq (l : List Seg) : signP l = l.any fun s => signE s.elems := rfl
theorem longP_eq (l : List Seg) : longP l = (decide (64 < l.length) || l.any longS) := rfl
theorem any_take {α : Type} {l : List α} {k : Nat} {x : α} (f : α → Bool) (h : l[k]? = some x) : (l.take (k + 1)).any f = ((l.take k).any f || f x) := by
 rw [List.take_add_one, h]; simp [List.any_append]
theorem printT_take {l : List Seg} {k : Nat} {s : Seg} (h : l[k]? = some s) : printT (l.take (k + 1)) = printT (l.take k) ++ segT s := by
 rw [List.take_add_one, h]; simp [printT]
theorem joinB_words (t : Str) (es : List (List Str)) : joinB 43 (t :: es.map elemT) ++ [39] = segT ⟨t, es⟩ := by
 unfold segT
 rw [joinB_cons, List.flatMap_map]
theorem map_take_succ {α β : Type} {l : List α} {k : Nat} {x : α} (f : α → β) (h : l[k]? = some x) : (l.take (k + 1)).map f = (l.take k).map f ++ [f x] := by
 rw [List.take_add_one, h]; simp
def partsL (e : List Str) (i : Nat) : List Str := (e.take i).map compT ++ e.drop i
theorem partsL_all (e : List Str) : partsL e e.length = e.map compT := by unfold partsL; rw [List.take_length, List.drop_length, List.append_nil]
theorem partsL_len (e : List Str) (i : Nat) : (partsL e i).length = e.length := by unfold partsL; rw [List.length_append, List.length_map, ← List.length_append, List.take_append_drop]
theorem partsL_get {e : List Str} {i : Nat} {p : Str} (h : e[i]? = some p) : (partsL e i)[i]? = some p := by
 have hi : i < e.length := (List.getElem?_eq_some_iff.1 h).1
 unfold partsL
 rw [List.getElem?_append_right (by simp; omega), List.getElem?_drop]
 simp
 rw [show i + (i - min i e.length) = i by omega]; exact h
theorem partsL_set {e : List Str} {i : Nat} {p : Str} (h : e[i]? = some p) : (partsL e i).set i (compT p) = partsL e (i + 1) := by
 have hi : i < e.length := (List.getElem?_eq_some_iff.1 h).1
 have hd : e.drop i = p :: e.drop (i + 1) := by
  obtain ⟨_, he⟩ := List.getElem?_eq_some_iff.1 h
  rw [List.drop_eq_getElem_cons hi, he]
 unfold partsL
 rw [map_take_succ compT h, List.set_append_right _ _ (by simp; omega), hd]
 simp [Nat.min_eq_left (Nat.le_of_lt hi)]
theorem BldAt.cong {w w' : World} {B b : Nat} {l : Str} (h : BldAt w B b l) (e : ∀ (k : Nat) (C : Array Value) (f : Nat × Nat) (t : TypeId), w.heap[k]? = some (.cells C t f) → t ≠ 9 → w'.heap[k]? = w.heap[k]?) : BldAt w' B b l := by
 have H : ∀ p, Lib.BuilderAt 203 5 B b p (Lib.byteCells l) w → Lib.BuilderAt 203 5 B b p (Lib.byteCells l) w' := fun p ⟨hB, v, hb, ho, hn⟩ => by
  refine ⟨hB, v, (e b _ _ _ hb (by decide)).trans hb, own_cong ho (fun k hk => ?_), hn⟩
  obtain ⟨C, hC, _⟩ := own_ty ho hk
  exact e k _ _ _ hC (by decide)
 rcases h with h | h
 · exact .inl (H _ h)
 · exact .inr (H _ h)
theorem BldAt.cong' {w w' : World} {B b : Nat} {l : Str} (h : BldAt w B b l) (e : ∀ k, k < w.heap.size → w'.heap[k]? = w.heap[k]?) : BldAt w' B b l := BldAt.cong h fun k _ _ _ hk _ => e k (Array.getElem?_eq_some_iff.1 hk).1
theorem own_le {w : World} {B B' : Nat} {e : TypeId} {s n : Nat} {v : Value} {xs : List Value} (h : w.ownsRow B e s v n xs) (hB : B' ≤ B) : w.ownsRow B' e s v n xs := by
 obtain ⟨h1, h2 | ⟨g, cap, cur, hv, hg, hr⟩⟩ := h
 · exact ⟨h1, .inl h2⟩
 · exact ⟨h1, .inr ⟨g, cap, cur, hv, by omega, hr⟩⟩
theorem clone_any {S : Nat → Prop} (w : World) (v : Value) (e : List Str) (h : CompsAt S w v e) (hn : e.length ≤ 1048576) :
  Calls Tryz.prog 135 #[v] w fun r w' => ∃ v', r = .returned v' ∧ w'.ownsRow w.heap.size 9 1 v' e.length (e.map sv) ∧ Below w.heap.size w w' := by
 obtain ⟨ao, cap, rfl, h1, h2, h3, h4⟩ := h
 rw [List.length_map] at h1 ⊢
 cases ao with
 | none =>
   have h0 : e.length = 0 := by have := h3 rfl; omega
   refine (Tryz.slices_Clone_string_nil e.length cap w).mono fun r w' ⟨h, h'⟩ => ?_
   subst h'
   rw [h0, List.length_eq_zero_iff.1 h0]
   exact ⟨_, h, World.ownsRow_nil _ _ _ _, Below.refl _ _⟩
 | some a =>
   cases he : e with
   | nil =>
     refine (Tryz.slices_Clone_string_zero a cap w).mono fun r w' ⟨v', h, ho, _, hb⟩ => ?_
     exact ⟨v', h, ho, hb⟩
   | cons p q =>
     obtain ⟨b, off, hab, _, hc⟩ := h4 (by rw [he]; simp)
     cases hab
     rw [← he]
     have := Tryz.slices_Clone_string b off e.length cap (e.map fun s => ⟨s.toArray⟩) w (by rw [List.length_map]; exact Nat.le_refl _) (by omega) (fun j hj => by
      rw [List.length_map] at hj
      have hx : e[j]? = some e[j] := List.getElem?_eq_getElem hj
      rw [hc j (sv e[j]) (by rw [List.getElem?_map, hx]; rfl), List.getD_eq_getElem?_getD, List.getElem?_map, hx]; rfl)
     refine this.mono fun r w' ⟨v', h, ho, _, hb⟩ => ⟨v', h, ?_, hb⟩
     rw [List.take_of_length_le (by rw [List.length_map]; exact Nat.le_refl _), List.map_map] at ho
     exact ho
section
variable {S : Nat → Prop} {w : World}
theorem SegsAt.form {v : Value} {l : List Seg} (h : SegsAt S w v l) : ∃ ao cap, v = .slice ao l.length cap ∧ l.length ≤ cap ∧ cap ≤ maxLen := by
 obtain ⟨ao, cap, xs, rfl, h1, h2, _⟩ := h; exact ⟨ao, cap, rfl, h1, h2⟩
theorem SegsAt.get {ao : Option Addr} {n cap : Nat} {l : List Seg} (h : SegsAt S w (.slice ao n cap) l) {k : Nat} {s : Seg} (hk : l[k]? = some s) : ∃ b off x, ao = some ⟨b, off, none⟩ ∧ S b ∧ w.cell? ⟨b, off + k * 2, none⟩ = some (sv s.tag) ∧ w.cell? ⟨b, off + k * 2 + 1, none⟩ = some x ∧ ElemsAt S w x s.elems := by
 obtain ⟨_, _, xs, e, h1, h2, h3, h4, h5, h6⟩ := h
 cases e
 obtain ⟨b, off, rfl, hS, h7⟩ := h6 (by intro e; rw [e] at hk; simp at hk)
 have hlt : k < xs.length := by rw [h4]; exact (List.getElem?_eq_some_iff.1 hk).1
 have hx := List.getElem?_eq_getElem hlt
 obtain ⟨a1, a2⟩ := h7 k s _ hk hx
 exact ⟨b, off, _, rfl, hS, a1, a2, h5 k s _ hk hx⟩
theorem ElemsAt.form {v : Value} {l : List (List Str)} (h : ElemsAt S w v l) : ∃ ao cap, v = .slice ao l.length cap ∧ l.length ≤ cap ∧ cap ≤ maxLen := by
 obtain ⟨xs, ⟨ao, cap, rfl, h1, h2, _⟩, h3, _⟩ := h; exact ⟨ao, cap, by rw [h3], by omega, h2⟩
theorem ElemsAt.get {ao : Option Addr} {n cap : Nat} {l : List (List Str)} (h : ElemsAt S w (.slice ao n cap) l) {k : Nat} {e : List Str} (hk : l[k]? = some e) : ∃ b off x, ao = some ⟨b, off, none⟩ ∧ S b ∧ w.cell? ⟨b, off + k, none⟩ = some x ∧ CompsAt S w x e := by
 obtain ⟨xs, ⟨_, _, e, h1, h2, h3, h4⟩, h5, h6⟩ := h
 cases e
 have hlt : k < xs.length := by rw [h5]; exact (List.getElem?_eq_some_iff.1 hk).1
 have hx := List.getElem?_eq_getElem hlt
 obtain ⟨b, off, rfl, hS, h7⟩ := h4 (by rintro rfl; simp at hlt)
 exact ⟨b, off, _, rfl, hS, h7 k _ hx, h6 k e _ hk hx⟩
theorem CompsAt.form {v : Value} {l : List Str} (h : CompsAt S w v l) : ∃ ao cap, v = .slice ao l.length cap ∧ l.length ≤ cap ∧ cap ≤ maxLen := by
 obtain ⟨ao, cap, rfl, h1, h2, _⟩ := h
 rw [List.length_map] at h1
 exact ⟨ao, cap, by rw [List.length_map], h1, h2⟩
theorem CompsAt.get {ao : Option Addr} {n cap : Nat} {l : List Str} (h : CompsAt S w (.slice ao n cap) l) {k : Nat} {p : Str} (hk : l[k]? = some p) : ∃ b off, ao = some ⟨b, off, none⟩ ∧ S b ∧ w.cell? ⟨b, off + k, none⟩ = some (sv p) := by
 obtain ⟨_, _, e, h1, h2, h3, h4⟩ := h
 cases e
 obtain ⟨b, off, rfl, hS, h7⟩ := h4 (by intro e; rw [List.map_eq_nil_iff] at e; rw [e] at hk; simp at hk)
 exact ⟨b, off, rfl, hS, h7 k _ (by rw [List.getElem?_map, hk]; rfl)⟩
end
def bytesC (e : List Str) : Nat := (e.map List.length).sum
def bytesE (es : List (List Str)) : Nat := (es.map bytesC).sum
def bytesL (l : List Seg) : Nat := (l.map fun s => bytesE s.elems).sum
structure LightS (l : List Seg) : Prop where
 n : l.length ≤ 80
 seg : ∀ s ∈ l, s.tag.length ≤ 300 ∧ s.elems.length ≤ 40
 el : ∀ s ∈ l, ∀ e ∈ s.elems, e.length ≤ 40
 bytes : bytesL l ≤ 3000
theorem joinT_le (e : List Str) : (elemT e).length ≤ 2 * bytesC e + e.length := by
 have h1 : ∀ l : List Str, (l.flatMap fun p => 58 :: compT p).length ≤ 2 * bytesC l + l.length := fun l => by
  induction l with
  | nil => simp [bytesC]
  | cons a l ih =>
    have := compT_len a
    have := sgN_le a
    simp only [List.flatMap_cons, List.length_append, List.length_cons, bytesC, List.map_cons, List.sum_cons] at ih ⊢
    omega
 cases e with
 | nil => simp [elemT, joinB]
 | cons p l =>
   have h := h1 l
   have := compT_len p
   have := sgN_le p
   rw [elemT_cons, List.length_append]
   unfold restT
   simp only [bytesC, List.map_cons, List.sum_cons, List.length_cons] at h ⊢
   omega
theorem segT_le (s : Seg) (h1 : ∀ e ∈ s.elems, e.length ≤ 40) : (segT s).length ≤ s.tag.length + 1 + 41 * s.elems.length + 2 * bytesE s.elems := by
 have key : ∀ es : List (List Str), (∀ e ∈ es, e.length ≤ 40) → (es.flatMap fun e => 43 :: elemT e).length ≤ 41 * es.length + 2 * bytesE es := fun es => by
  induction es with
  | nil => intro _; simp
  | cons a l ih =>
    intro h
    have h2 := ih fun e he => h e (List.mem_cons_of_mem _ he)
    have h3 := joinT_le a
    have h4 := h a List.mem_cons_self
    simp only [List.flatMap_cons, List.length_append, List.length_cons, bytesE, List.map_cons, List.sum_cons] at h2 ⊢
    omega
 have := key s.elems h1
 unfold segT
 simp only [List.length_append, List.length_cons, List.length_nil]
 omega
theorem LightS.print {l : List Seg} (h : LightS l) : (printT l).length ≤ 1048576 := by
 have key : ∀ m : List Seg, (∀ s ∈ m, s.tag.length ≤ 300 ∧ s.elems.length ≤ 40) → (∀ s ∈ m, ∀ e ∈ s.elems, e.length ≤ 40) → (printT m).length ≤ m.length * 1941 + 2 * bytesL m := fun m => by
  induction m with
  | nil => intro _ _; simp [printT]
  | cons a r ih =>
    intro h1 h2
    have h3 := ih (fun s hs => h1 s (List.mem_cons_of_mem _ hs)) (fun s hs => h2 s (List.mem_cons_of_mem _ hs))
    have h4 := segT_le a (h2 a List.mem_cons_self)
    have h5 := h1 a List.mem_cons_self
    simp only [printT, bytesL, List.flatMap_cons, List.length_append, List.map_cons, List.sum_cons, List.length_cons] at h3 ⊢
    omega
 have := key l h.seg h.el
 have := h.n
 have := h.bytes
 omega
def HeavyS (l : List Seg) (e : Ending) : Prop := ∃ b, e = .returned (.bool b) ∧ (b = false → LightS l)
theorem HeavyS.yes (l : List Seg) : HeavyS l (.returned (.bool true)) := ⟨true, rfl, fun h => by cases h⟩
instance : DecidableEq Seg := fun a b => if h : a.tag = b.tag ∧ a.elems = b.elems then isTrue (by cases a; cases b; simp_all) else isFalse (by rintro rfl; exact h ⟨rfl, rfl⟩)
def sameB (l m : List Seg) : Bool := decide (l = m)
def Drew (w w' : World) : Prop := ∃ d, w' = w.drewN d
theorem Drew.below {w w' : World} (h : Drew w w') (B : Nat) : Below B w w' := by
 obtain ⟨d, rfl⟩ := h; exact below_drewN (Below.refl _ _) d
theorem Drew.heap {w w' : World} (h : Drew w w') : w'.heap = w.heap := by obtain ⟨d, rfl⟩ := h; rfl
theorem ret_bool {a b : Bool} (h : a = b) : Ending.returned (.bool a) = .returned (.bool b) := by rw [h]
theorem str_same (s : ByteArray) : (s.toList == s.toList) = true := by simp
theorem str_ne {s t : ByteArray} (h : s ≠ t) : (s.toList == t.toList) = false := by
 rw [beq_eq_false_iff_ne, ByteArray.toList_eq, ByteArray.toList_eq]
 intro e
 apply h
 cases s; cases t
 exact congrArg ByteArray.mk (Array.toList_inj.1 e)
theorem grown_alloc {w w' : World} {o : Obj} {row : Option Nat} (h : (w.alloc o).grownBy w' row) : w.grownBy w' row :=
 ⟨h.os, h.tape, h.output, by have := h.size; rw [World.size_alloc] at this; omega, fun k hk hne => (h.block k (by rw [World.size_alloc]; omega) hne).trans (Below.heap_alloc _ _ _ hk)⟩
theorem wp_app1 {ops : Array Oper} {rest : List Oper} {o : Oper} {a : Act} {Q : Exit → Act → World → Prop} (hgd : o.guard = none) (s x : Operand)
  (ho : o.op = .call { callee := .builtin .append, args := #[s, x], argTypes := #[72, 72] })
  {w : World} {B : Nat} {v : Value} {l : Str} (c : UInt8) (hs : a.eval s = v) (hx : a.eval x = .slice (some ⟨w.heap.size, 0, none⟩) 1 1) (hown : OwnS w B v l) (hl : l.length + 1 ≤ 140737488355328) (hB : B ≤ w.heap.size)
  (h : ∀ v' w', OwnS w' B v' (l ++ [c]) → w.grownBy w' v.ownBlock → wpList Tryz.prog ops Q rest (a.put o.dst v') w') :
  wpList Tryz.prog ops Q (o :: rest) a (w.alloc (.cells #[bv c] 5)) := by
 obtain ⟨i0, hi, hz0, hz1, hz2⟩ := info_parts einfo_u8
 refine wpList_append_own_at _ hgd s x 72 ho B 5 i0 (.int .u8 0) 1 1 Tryz.underlying72 hi hz0 hz1 hz2 rfl (by decide) v l.length (l.map bv) hs (World.ownsRow.alloc hown _) ⟨w.heap.size, 0, none⟩ 1 1 [bv c] hx rfl (cell_one_new _ _ _) (by simp [Value.oneCell', bv]) (by unfold maxLen; omega) (by omega) (by simp; omega) ?_
 intro v' w' h1 h2 _ _
 refine h v' w' ?_ (grown_alloc h2)
 unfold OwnS
 rw [List.length_append, List.map_append]
 exact h1
theorem OwnS.nil (w : World) (B : Nat) : OwnS w B (.slice none 0 0) [] := World.ownsRow_nil _ _ _ _
theorem OwnS.form {w : World} {B : Nat} {v : Value} {l : Str} (h : OwnS w B v l) : ∃ a c, v = .slice a l.length c := by
 obtain ⟨_, ⟨h1, h2⟩ | ⟨g, cap, _, h1, _⟩⟩ := h
 · exact ⟨none, 0, by rw [h1, h2]⟩
 · exact ⟨_, cap, h1⟩
theorem OwnS.cong {w w' : World} {B : Nat} {v : Value} {l : Str} (h : OwnS w B v l) (e : ∀ k, k < w.heap.size → w'.heap[k]? = w.heap[k]?) : OwnS w' B v l := own_cong h fun k hk => e k (own_lt h hk).2
theorem below_grownO {w0 w w' : World} {B : Nat} {v : Value} {l : Str} (h : Below B w0 w) (ho : OwnS w B v l) (hg : w.grownBy w' v.ownBlock) (hB : B ≤ w.heap.size) : Below B w0 w' := h.grown hg hB (fun _ hk => (own_lt ho hk).1)
end Go.Proofs.YtgfijlamhjjecaaGreatDoor
namespace Go.Proofs.YtgfijlamhjjecaaGreatDoor
def add32 (a b : Nat) : Nat := (a + b) % 4294967296
def rotN (x n : Nat) : Nat := x / 2 ^ n ||| (x * 2 ^ (32 - n)) % 4294967296
def bigS0 (x : Nat) : Nat := rotN x 2 ^^^ rotN x 13 ^^^ rotN x 22
def bigS1 (x : Nat) : Nat := rotN x 6 ^^^ rotN x 11 ^^^ rotN x 25
def smlS0 (x : Nat) : Nat := rotN x 7 ^^^ rotN x 18 ^^^ x / 8
def smlS1 (x : Nat) : Nat := rotN x 17 ^^^ rotN x 19 ^^^ x / 1024
def chN (e f g : Nat) : Nat := (e &&& f) ^^^ ((4294967295 - e) &&& g)
def majN (a b c : Nat) : Nat := (a &&& b) ^^^ (a &&& c) ^^^ (b &&& c)
def Wds (l : List Nat) : Prop := ∀ x ∈ l, x < 4294967296
theorem add32_lt (a b : Nat) : add32 a b < 4294967296 := Nat.mod_lt _ (by decide)
theorem or_lt32 {a b : Nat} (ha : a < 4294967296) (hb : b < 4294967296) : a ||| b < 4294967296 := Nat.or_lt_two_pow (n := 32) ha hb
theorem xor_lt32 {a b : Nat} (ha : a < 4294967296) (hb : b < 4294967296) : a ^^^ b < 4294967296 := Nat.xor_lt_two_pow (n := 32) ha hb
theorem and_lt32 {a b : Nat} (ha : a < 4294967296) : a &&& b < 4294967296 := Nat.lt_of_le_of_lt Nat.and_le_left ha
theorem rotN_lt {x n : Nat} (h : x < 4294967296) : rotN x n < 4294967296 :=
 or_lt32 (Nat.lt_of_le_of_lt (Nat.div_le_self _ _) h) (Nat.mod_lt _ (by decide))
def shaK : List Nat := [0x428a2f98, 0x71374491, 0xb5c0fbcf, 0xe9b5dba5, 0x3956c25b, 0x59f111f1, 0x923f82a4, 0xab1c5ed5,
  0xd807aa98, 0x12835b01, 0x243185be, 0x550c7dc3, 0x72be5d74, 0x80deb1fe, 0x9bdc06a7, 0xc19bf174,
  0xe49b69c1, 0xefbe4786, 0x0fc19dc6, 0x240ca1cc, 0x2de92c6f, 0x4a7484aa, 0x5cb0a9dc, 0x76f988da,
  0x983e5152, 0xa831c66d, 0xb00327c8, 0xbf597fc7, 0xc6e00bf3, 0xd5a79147, 0x06ca6351, 0x14292967,
  0x27b70a85, 0x2e1b2138, 0x4d2c6dfc, 0x53380d13, 0x650a7354, 0x766a0abb, 0x81c2c92e, 0x92722c85,
  0xa2bfe8a1, 0xa81a664b, 0xc24b8b70, 0xc76c51a3, 0xd192e819, 0xd6990624, 0xf40e3585, 0x106aa070,
  0x19a4c116, 0x1e376c08, 0x2748774c, 0x34b0bcb5, 0x391c0cb3, 0x4ed8aa4a, 0x5b9cca4f, 0x682e6ff3,
  0x748f82ee, 0x78a5636f, 0x84c87814, 0x8cc70208, 0x90befffa, 0xa4506ceb, 0xbef9a3f7, 0xc67178f2]
def word4 (b : Str) (i : Nat) : Nat := (b.getD (4 * i) 0).toNat * 16777216 + (b.getD (4 * i + 1) 0).toNat * 65536 + (b.getD (4 * i + 2) 0).toNat * 256 + (b.getD (4 * i + 3) 0).toNat
theorem word4_lt (b : Str) (i : Nat) : word4 b i < 4294967296 := by
 have h0 := (b.getD (4 * i) 0).toNat_lt
 have h1 := (b.getD (4 * i + 1) 0).toNat_lt
 have h2 := (b.getD (4 * i + 2) 0).toNat_lt
 have h3 := (b.getD (4 * i + 3) 0).toNat_lt
 unfold word4; omega
def words16 (b : Str) : List Nat := (List.range 16).map (word4 b)
def wnext (l : List Nat) (i : Nat) : Nat := add32 (add32 (add32 (l.getD (i - 16) 0) (l.getD (i - 7) 0)) (smlS0 (l.getD (i - 15) 0))) (smlS1 (l.getD (i - 2) 0))
def wext (l : List Nat) : Nat → List Nat
 | 0 => l
 | n + 1 => wext l n ++ [wnext (wext l n) (16 + n)]
theorem wext_len {l : List Nat} (h : l.length = 16) : ∀ n, (wext l n).length = 16 + n
 | 0 => h
 | n + 1 => by unfold wext; rw [List.length_append, wext_len h n]; rfl
theorem wext_wds {l : List Nat} (h : Wds l) : ∀ n, Wds (wext l n)
 | 0 => h
 | n + 1 => by
   unfold wext
   intro x hx
   rcases List.mem_append.1 hx with hx | hx
   · exact wext_wds h n x hx
   · rw [List.mem_singleton.1 hx]; exact add32_lt _ _
theorem words16_len (b : Str) : (words16 b).length = 16 := by simp [words16]
theorem words16_wds (b : Str) : Wds (words16 b) := by
 intro x hx
 obtain ⟨i, _, rfl⟩ := List.mem_map.1 hx
 exact word4_lt b i
theorem getD_lt {l : List Nat} (h : Wds l) (i : Nat) : l.getD i 0 < 4294967296 := by
 rw [List.getD_eq_getElem?_getD]
 by_cases hi : i < l.length
 · rw [List.getElem?_eq_getElem hi]; exact h _ (List.getElem_mem hi)
 · rw [List.getElem?_eq_none (by omega)]; decide
structure V8 where
 a : Nat
 b : Nat
 c : Nat
 d : Nat
 e : Nat
 f : Nat
 g : Nat
 h : Nat
def V8.l (v : V8) : List Nat := [v.a, v.b, v.c, v.d, v.e, v.f, v.g, v.h]
def V8.ok (v : V8) : Prop := v.a < 4294967296 ∧ v.b < 4294967296 ∧ v.c < 4294967296 ∧ v.d < 4294967296 ∧ v.e < 4294967296 ∧ v.f < 4294967296 ∧ v.g < 4294967296 ∧ v.h < 4294967296
def tN (v : V8) (k w : Nat) : Nat := add32 (add32 (add32 (add32 v.h (bigS1 v.e)) (chN v.e v.f v.g)) k) w
def uN (v : V8) : Nat := add32 (bigS0 v.a) (majN v.a v.b v.c)
def rnd (v : V8) (k w : Nat) : V8 := ⟨add32 (tN v k w) (uN v), v.a, v.b, v.c, add32 v.d (tN v k w), v.e, v.f, v.g⟩
theorem rnd_ok {v : V8} (h : v.ok) (k w : Nat) : (rnd v k w).ok := by
 obtain ⟨h1, h2, h3, h4, h5, h6, h7, h8⟩ := h
 exact ⟨add32_lt _ _, h1, h2, h3, add32_lt _ _, h5, h6, h7⟩
def rnds (v : V8) (ws : List Nat) : Nat → V8
 | 0 => v
 | n + 1 => rnd (rnds v ws n) (shaK.getD n 0) (ws.getD n 0)
theorem rnds_ok {v : V8} (h : v.ok) (ws : List Nat) : ∀ n, (rnds v ws n).ok
 | 0 => h
 | n + 1 => rnd_ok (rnds_ok h ws n) _ _
def plus8 (s v : V8) : V8 := ⟨add32 s.a v.a, add32 s.b v.b, add32 s.c v.c, add32 s.d v.d, add32 s.e v.e, add32 s.f v.f, add32 s.g v.g, add32 s.h v.h⟩
theorem plus8_ok (s v : V8) : (plus8 s v).ok := ⟨add32_lt _ _, add32_lt _ _, add32_lt _ _, add32_lt _ _, add32_lt _ _, add32_lt _ _, add32_lt _ _, add32_lt _ _⟩
def mixN (s : V8) (b : Str) : V8 := plus8 s (rnds s (wext (words16 b) 48) 64)
def V8i : V8 := ⟨0x6a09e667, 0xbb67ae85, 0x3c6ef372, 0xa54ff53a, 0x510e527f, 0x9b05688c, 0x1f83d9ab, 0x5be0cd19⟩
theorem V8i_ok : V8i.ok := by unfold V8.ok V8i; decide
def mixB (s : V8) (b : Str) : Nat → V8
 | 0 => s
 | n + 1 => mixN (mixB s b n) ((b.drop (64 * n)).take 64)
theorem mixB_ok {s : V8} (h : s.ok) (b : Str) : ∀ n, (mixB s b n).ok
 | 0 => h
 | _ + 1 => plus8_ok _ _
def shaW (b : Str) : V8 := mixB V8i b (b.length / 64)
def shaL (b : Str) : Str := b.drop (64 * (b.length / 64))
theorem shaL_len (b : Str) : (shaL b).length = b.length % 64 := by unfold shaL; rw [List.length_drop]; omega
theorem mixB_app (s : V8) (a b : Str) : ∀ n, 64 * n ≤ a.length → mixB s (a ++ b) n = mixB s a n
 | 0, _ => rfl
 | n + 1, h => by
   unfold mixB
   rw [mixB_app s a b n (by omega), List.drop_append_of_le_length (by omega), List.take_append_of_le_length (by rw [List.length_drop]; omega)]
theorem mixB_more (s : V8) (b : Str) (m : Nat) : ∀ n, 64 * m ≤ b.length → mixB s b (m + n) = mixB (mixB s b m) (b.drop (64 * m)) n
 | 0, _ => rfl
 | n + 1, h => by
   show mixN (mixB s b (m + n)) ((b.drop (64 * (m + n))).take 64) = mixN (mixB (mixB s b m) (b.drop (64 * m)) n) (((b.drop (64 * m)).drop (64 * n)).take 64)
   rw [mixB_more s b m n h, List.drop_drop, show 64 * (m + n) = 64 * m + 64 * n by omega]
theorem shaW_app (a b : Str) : shaW (a ++ b) = mixB (shaW a) (shaL a ++ b) ((shaL a ++ b).length / 64) := by
 unfold shaW shaL
 have e : (a ++ b).length / 64 = a.length / 64 + (a.drop (64 * (a.length / 64)) ++ b).length / 64 := by
  rw [List.length_append, List.length_append, List.length_drop]; omega
 rw [e, mixB_more _ _ _ _ (by rw [List.length_append]; omega), mixB_app _ a b _ (by omega), List.drop_append_of_le_length (by omega)]
theorem shaL_app (a b : Str) : shaL (a ++ b) = (shaL a ++ b).drop (64 * ((shaL a ++ b).length / 64)) := by
 unfold shaL
 have e : 64 * ((a ++ b).length / 64) = 64 * (a.length / 64) + 64 * ((a.drop (64 * (a.length / 64)) ++ b).length / 64) := by
  rw [List.length_append, List.length_append, List.length_drop]; omega
 rw [e, ← List.drop_drop, List.drop_append_of_le_length (by omega)]
def be8 (n : Nat) : Str := (List.range 8).map fun i => UInt8.ofNat (n / 2 ^ (56 - 8 * i))
def padZ (n : Nat) : Nat := (119 - n % 64) % 64
def shaT (n : Nat) : Str := 128 :: List.replicate (padZ n) 0 ++ be8 (n * 8)
def filled (b : Str) : Str := b ++ shaT b.length
theorem be8_len (n : Nat) : (be8 n).length = 8 := by simp [be8]
theorem shaT_len (n : Nat) : (shaT n).length = 9 + padZ n := by simp [shaT, be8_len]; omega
theorem filled_len (b : Str) : (filled b).length % 64 = 0 := by unfold filled; rw [List.length_append, shaT_len]; unfold padZ; omega
def dig (v : V8) : Str := (List.range 32).map fun i => UInt8.ofNat (v.l.getD (i / 4) 0 / 2 ^ (24 - i % 4 * 8))
theorem dig_len (v : V8) : (dig v).length = 32 := by simp [dig]
def shaM (b : Str) : Str := dig (shaW (filled b))
theorem shaM_len (b : Str) : (shaM b).length = 32 := dig_len _
theorem filled_ref (b : Str) : shaW (filled b) = mixB V8i (filled b) ((filled b).length / 64) := rfl
def keyB (key : Str) : Str := if 64 < key.length then shaM key else key
def blkM (key : Str) (by_ : UInt8) : Str := (List.range 64).map fun i => (keyB key).getD i 0 ^^^ by_
theorem blkM_len (key : Str) (c : UInt8) : (blkM key c).length = 64 := by simp [blkM]
theorem keyB_len (key : Str) : (keyB key).length ≤ 64 := by
 unfold keyB; split
 · rw [shaM_len]; omega
 · omega
def macM (key b : Str) : Str := shaM (blkM key 92 ++ shaM (blkM key 54 ++ b))
theorem macM_len (key b : Str) : (macM key b).length = 32 := shaM_len _
end Go.Proofs.YtgfijlamhjjecaaGreatDoor
namespace Go.Proofs.YtgfijlamhjjecaaGreatDoor
open Go.RowKit
theorem rot_bits {x m : Nat} (hx : x < 4294967296) : bits .or .u32 ((x : Int) / 2 ^ m) ((x : Int) * 2 ^ (32 - m) % 4294967296) = ((rotN x m : Nat) : Int) := by
 have e1 : (x : Int) / 2 ^ m = ((x / 2 ^ m : Nat) : Int) := by rw [Int.natCast_ediv, Int.natCast_pow]; rfl
 have e2 : (x : Int) * 2 ^ (32 - m) % 4294967296 = ((x * 2 ^ (32 - m) % 4294967296 : Nat) : Int) := by rw [Int.natCast_emod, Int.natCast_mul, Int.natCast_pow]; rfl
 rw [e1, e2, u32_or_nat _ _ (Nat.lt_of_le_of_lt (Nat.div_le_self _ _) hx) (Nat.mod_lt _ (by decide))]
 rfl
theorem xor_bits {x y : Nat} (hx : x < 4294967296) (hy : y < 4294967296) : bits .xor .u32 (x : Int) (y : Int) = ((x ^^^ y : Nat) : Int) := u32_xor_nat x y hx hy
set_option maxHeartbeats 2000000 in
theorem turn_any (x : Nat) (n : Int) (m : Nat) (hm : n = (m : Int)) (h1 : m < 32) (hx : x < 4294967296) (w : World) :
  Calls Tryz.prog 169 #[.int .u32 (x : Int), .int .i64 n] w fun e w' => e = .returned (.int .u32 ((rotN x m : Nat) : Int)) ∧ ∃ d, w' = w.drewN d := by
 subst hm
 have hm0 : (0 : Int) ≤ 32 - (m : Int) := by omega
 have g1 : IntKind.i64.wrap (32 - (m : Int)) = 32 - (m : Int) := IntWalk.i64_in _ (by omega)
 have HR := Lib.hid (rot_bits (m := m) hx)
 go_enter Tryz.func169, Tryz.ntmps169
 go_wp2_with fail
 go_quiet (fail)
 go_wp2_with fail
 go_ret
 exact ⟨by rw [← HR.out]; rfl, _, rfl⟩
set_option maxHeartbeats 2000000 in
theorem turned_any (x : Nat) (n : Int) (m : Nat) (hm : n = (m : Int)) (h1 : m < 32) (hx : x < 4294967296) (w : World) :
  Calls Tryz.prog 148 #[.int .u32 (x : Int), .int .i64 n] w fun e w' => e = .returned (.int .u32 ((rotN x m : Nat) : Int)) ∧ ∃ d, w' = w.drewN d := by
 subst hm
 have hm0 : (0 : Int) ≤ 32 - (m : Int) := by omega
 have g1 : IntKind.i64.wrap (32 - (m : Int)) = 32 - (m : Int) := IntWalk.i64_in _ (by omega)
 have HR := Lib.hid (rot_bits (m := m) hx)
 go_enter Tryz.func148, Tryz.ntmps148
 go_wp2_with fail
 go_quiet (fail)
 go_wp2_with fail
 go_ret
 exact ⟨by rw [← HR.out]; rfl, _, rfl⟩
def RetW (v : Nat) (w : World) (e : Ending) (w' : World) : Prop := e = .returned (.int .u32 (v : Int)) ∧ ∃ d, w' = w.drewN d
set_option maxHeartbeats 2000000 in
theorem three_any (x : Nat) (a' b' c' : Int) (a b c : Nat) (ha : a' = (a : Int)) (hb : b' = (b : Int)) (hc : c' = (c : Int)) (h1 : a < 32) (h2 : b < 32) (h3 : c < 32) (hx : x < 4294967296) (w : World) :
  Calls Tryz.prog 171 #[.int .u32 (x : Int), .int .i64 a', .int .i64 b', .int .i64 c'] w fun e w' => RetW (rotN x a ^^^ rotN x b ^^^ rotN x c) w e w' := by
 subst ha hb hc
 obtain ⟨p, hp⟩ : ∃ p, rotN x a = p := ⟨_, rfl⟩
 obtain ⟨q, hq⟩ : ∃ q, rotN x b = q := ⟨_, rfl⟩
 obtain ⟨r, hr⟩ : ∃ r, rotN x c = r := ⟨_, rfl⟩
 have e1 := fun w => turn_any x a a rfl h1 hx w
 have e2 := fun w => turn_any x b b rfl h2 hx w
 have e3 := fun w => turn_any x c c rfl h3 hx w
 have hpl := rotN_lt (n := a) hx
 have hql := rotN_lt (n := b) hx
 have hrl := rotN_lt (n := c) hx
 rw [hp] at e1 hpl ⊢
 rw [hq] at e2 hql ⊢
 rw [hr] at e3 hrl ⊢
 have E1 := Lib.hid e1
 have E2 := Lib.hid e2
 have E3 := Lib.hid e3
 have x1 := xor_bits hpl hql
 have x2 := xor_bits (xor_lt32 hpl hql) hrl
 clear hp hq hr e1 e2 e3
 go_enter Tryz.func171, Tryz.ntmps171
 go_wp2_with (first | (go_at_call 169; (with_reducible refine (E1.out _).mono ?_); rintro e w1 ⟨rfl, n1, rfl⟩) | (go_at_call 169; (with_reducible refine (E2.out _).mono ?_); rintro e w2 ⟨rfl, n2, rfl⟩) | (go_at_call 169; (with_reducible refine (E3.out _).mono ?_); rintro e w3 ⟨rfl, n3, rfl⟩))
 go_ret
 exact ⟨rfl, _, rfl⟩
def uv (x : Nat) : Value := .int .u32 (x : Int)
def W8c (v : V8) : List Value := v.l.map uv
theorem cells_w8 {w : World} {b : Nat} {v : V8} {t : TypeId} (h : w.heap[b]? = some (.cells (W8c v).toArray t (0, 0))) :
  (w.cell? ⟨b, 0, none⟩ = some (.int .u32 (v.a : Int)) ∧ w.cell? ⟨b, 1, none⟩ = some (.int .u32 (v.b : Int)) ∧ w.cell? ⟨b, 2, none⟩ = some (.int .u32 (v.c : Int)) ∧ w.cell? ⟨b, 3, none⟩ = some (.int .u32 (v.d : Int)) ∧ w.cell? ⟨b, 4, none⟩ = some (.int .u32 (v.e : Int)) ∧ w.cell? ⟨b, 5, none⟩ = some (.int .u32 (v.f : Int)) ∧ w.cell? ⟨b, 6, none⟩ = some (.int .u32 (v.g : Int)) ∧ w.cell? ⟨b, 7, none⟩ = some (.int .u32 (v.h : Int))) ∧
  (∀ j, w.frozen? ⟨b, j, none⟩ = false) :=
 ⟨⟨cell_of_row w b 0 _ _ _ h, cell_of_row w b 1 _ _ _ h, cell_of_row w b 2 _ _ _ h, cell_of_row w b 3 _ _ _ h, cell_of_row w b 4 _ _ _ h, cell_of_row w b 5 _ _ _ h, cell_of_row w b 6 _ _ _ h, cell_of_row w b 7 _ _ _ h⟩, fun j => frozen_of_row w b j _ _ h⟩
theorem and_bits {x y : Nat} (hx : x < 4294967296) (hy : y < 4294967296) : bits .and .u32 (x : Int) (y : Int) = ((x &&& y : Nat) : Int) := u32_and_nat x y hx hy
theorem not_bits {x : Nat} (hx : x < 4294967296) : bits .xor .u32 (if IntKind.u32.signed = true then -1 else IntKind.u32.max) (x : Int) = ((4294967295 - x : Nat) : Int) := by
 have e : (if IntKind.u32.signed = true then -1 else IntKind.u32.max) = ((4294967295 : Nat) : Int) := by decide
 rw [e, u32_xor_nat _ _ (by decide) hx]
 congr 1
 apply Nat.eq_of_testBit_eq
 intro i
 rw [Nat.testBit_xor, show 4294967295 = 2 ^ 32 - 1 by decide, Nat.testBit_two_pow_sub_one, show 2 ^ 32 - 1 - x = 2 ^ 32 - (x + 1) by omega, Nat.testBit_two_pow_sub_succ (by omega)]
 by_cases h : i < 32
 · simp [h]
 · have : x.testBit i = false := Nat.testBit_lt_two_pow (Nat.lt_of_lt_of_le hx (by
    have : 2 ^ 32 ≤ 2 ^ i := Nat.pow_le_pow_right (by omega) (by omega)
    simpa using this))
   simp [h, this]
theorem add_bits (x y : Nat) : ((x : Int) + (y : Int)) % 4294967296 = ((add32 x y : Nat) : Int) := by unfold add32; omega
set_option maxRecDepth 100000 in
set_option maxHeartbeats 4000000 in
theorem round_any (v : V8) (hv : v.ok) (k x i : Nat) (hi : i < 64) (vb wb : Nat) (w : World) (hV : w.heap[vb]? = some (.cells (W8c v).toArray 189 (0, 0)))
  (hK : w.cell? ⟨0, i, none⟩ = some (.int .u32 (k : Int))) (hW : w.cell? ⟨wb, i, none⟩ = some (.int .u32 (x : Int))) :
  Calls Tryz.prog 170 #[.int .i64 (i : Int), .pointer (some ⟨vb, 0, none⟩), .pointer (some ⟨wb, 0, none⟩)] w fun e w' => e = .returned (.tuple #[]) ∧ w'.heap[vb]? = some (.cells (W8c (rnd v k x)).toArray 189 (0, 0)) ∧ Fr [vb] w w' := by
 obtain ⟨⟨c0, c1, c2, c3, c4, c5, c6, c7⟩, f0⟩ := cells_w8 hV
 have HOK := Lib.hid hv
 obtain ⟨h1, h2, h3, h4, h5, h6, h7, h8⟩ := hv
 have b1 : (0 : Int) ≤ i := by omega
 have b2 : (i : Int) < 64 := by omega
 have HV := Lib.hid hV
 have t1 := fun w => three_any v.e 6 11 25 6 11 25 rfl rfl rfl (by decide) (by decide) (by decide) h5 w
 have t2 := fun w => three_any v.a 2 13 22 2 13 22 rfl rfl rfl (by decide) (by decide) (by decide) h1 w
 obtain ⟨p, hp⟩ : ∃ p, rotN v.e 6 ^^^ rotN v.e 11 ^^^ rotN v.e 25 = p := ⟨_, rfl⟩
 obtain ⟨q, hq⟩ : ∃ q, rotN v.a 2 ^^^ rotN v.a 13 ^^^ rotN v.a 22 = q := ⟨_, rfl⟩
 rw [hp] at t1
 rw [hq] at t2
 have T1 := Lib.hid t1
 have T2 := Lib.hid t2
 -- the sums of t
 have a1 := and_bits h5 h6
 have a1l := and_lt32 (b := v.f) h5
 obtain ⟨x1, hx1⟩ : ∃ u, v.e &&& v.f = u := ⟨_, rfl⟩
 rw [hx1] at a1 a1l
 have a2 := not_bits h5
 obtain ⟨x2, hx2⟩ : ∃ u, 4294967295 - v.e = u := ⟨_, rfl⟩
 have a2l : x2 < 4294967296 := by omega
 rw [hx2] at a2
 have a3 := and_bits a2l h7
 have a3l := and_lt32 (b := v.g) a2l
 obtain ⟨x3, hx3⟩ : ∃ u, x2 &&& v.g = u := ⟨_, rfl⟩
 rw [hx3] at a3 a3l
 have a4 := xor_bits a1l a3l
 obtain ⟨x4, hx4⟩ : ∃ u, x1 ^^^ x3 = u := ⟨_, rfl⟩
 rw [hx4] at a4
 have s1 := add_bits v.h p
 obtain ⟨y1, hy1⟩ : ∃ u, add32 v.h p = u := ⟨_, rfl⟩
 rw [hy1] at s1
 have s2 := add_bits y1 x4
 obtain ⟨y2, hy2⟩ : ∃ u, add32 y1 x4 = u := ⟨_, rfl⟩
 rw [hy2] at s2
 have s3 := add_bits y2 k
 obtain ⟨y3, hy3⟩ : ∃ u, add32 y2 k = u := ⟨_, rfl⟩
 rw [hy3] at s3
 have s4 := add_bits y3 x
 obtain ⟨y4, hy4⟩ : ∃ u, add32 y3 x = u := ⟨_, rfl⟩
 rw [hy4] at s4
 have HT : Hid (tN v k x = y4) := Lib.hid (by unfold tN bigS1 chN; rw [hp, hy1, hx1, hx2, hx3, hx4, hy2, hy3, hy4])
 clear hx1 hx2 hx3 hx4 hy1 hy2 hy3 hy4 t1 t2 hV hp a1l a2l a3l
 -- the sums of u
 have d1 := and_bits h1 h2
 have d1l := and_lt32 (b := v.b) h1
 obtain ⟨z1, hz1⟩ : ∃ u, v.a &&& v.b = u := ⟨_, rfl⟩
 rw [hz1] at d1 d1l
 have d2 := and_bits h1 h3
 have d2l := and_lt32 (b := v.c) h1
 obtain ⟨z2, hz2⟩ : ∃ u, v.a &&& v.c = u := ⟨_, rfl⟩
 rw [hz2] at d2 d2l
 have d3 := and_bits h2 h3
 have d3l := and_lt32 (b := v.c) h2
 obtain ⟨z3, hz3⟩ : ∃ u, v.b &&& v.c = u := ⟨_, rfl⟩
 rw [hz3] at d3 d3l
 have d4 := xor_bits d1l d2l
 have d4l := xor_lt32 d1l d2l
 obtain ⟨z4, hz4⟩ : ∃ u, z1 ^^^ z2 = u := ⟨_, rfl⟩
 rw [hz4] at d4 d4l
 have d5 := xor_bits d4l d3l
 obtain ⟨z5, hz5⟩ : ∃ u, z4 ^^^ z3 = u := ⟨_, rfl⟩
 rw [hz5] at d5
 have d6 := add_bits q z5
 obtain ⟨z6, hz6⟩ : ∃ u, add32 q z5 = u := ⟨_, rfl⟩
 rw [hz6] at d6
 have HU : Hid (uN v = z6) := Lib.hid (by unfold uN bigS0 majN; rw [hq, hz1, hz2, hz3, hz4, hz5, hz6])
 have r1 := add_bits v.d y4
 have r2 := add_bits y4 z6
 obtain ⟨o1, ho1⟩ : ∃ u, add32 v.d y4 = u := ⟨_, rfl⟩
 obtain ⟨o2, ho2⟩ : ∃ u, add32 y4 z6 = u := ⟨_, rfl⟩
 rw [ho1] at r1
 rw [ho2] at r2
 have HR : Hid (rnd v k x = ⟨o2, v.a, v.b, v.c, o1, v.e, v.f, v.g⟩) := Lib.hid (by unfold rnd; rw [HT.out, HU.out, ho1, ho2])
 clear hz1 hz2 hz3 hz4 hz5 hz6 hq d1l d2l d3l d4l HT HU ho1 ho2
 go_enter Tryz.func170, Tryz.ntmps170
 go_upto_region 1 with fail
 go_quiet ((go_at_call 171; exact Calls.quiet_of (T1.out _)))
 clear a1 a2 a3 a4 s1 s2 s3
 generalize hw1 : w.drewN _ = w1
 have HV1 : Hid (w1.heap[vb]? = some (.cells (W8c v).toArray 189 (0, 0))) := Lib.hid (by rw [← hw1]; exact HV.out)
 have HF1 : Hid (Fr [vb] w w1) := Lib.hid (by rw [← hw1]; exact Fr.drewN _ _ _)
 clear c0 c1 c2 c3 c4 c5 c6 c7 hK hW hw1 f0
 obtain ⟨⟨c0, c1, c2, c3, c4, c5, c6, c7⟩, f0⟩ := cells_w8 HV1.out
 clear f0
 go_wp2_with fail
 go_quiet ((go_at_call 171; exact Calls.quiet_of (T2.out _)))
 generalize hw2 : w1.drewN _ = w2
 have HV2 : Hid (w2.heap[vb]? = some (.cells (W8c v).toArray 189 (0, 0))) := Lib.hid (by rw [← hw2]; exact HV1.out)
 have HF2 : Hid (Fr [vb] w w2) := Lib.hid (by rw [← hw2]; exact HF1.out.trans (Fr.drewN _ _ _))
 clear d1 d2 d3 d4 d5 c0 c1 c2 c3 c4 c5 c6 c7 hw2
 go_wp2_with fail
 go_still_tail 2, (by kernel_rfl)
 refine wpList_val rfl (exec_copy rfl rfl rfl (fun ty => run_copy_row (P := Tryz.prog) w2.drew 260 260 ty 28 vb 1 7 7 ⟨vb, 0, none⟩ 7 8 (W8c v).toArray 189 [uv v.a, uv v.b, uv v.c, uv v.d, uv v.e, uv v.f, uv v.g] Tryz.underlying260 (by kernel_rfl) HV2.out rfl (fun j u hu => ?c1) (by show 1 + 7 ≤ 8; decide) (fun u hu => ?c2))) ?_
 case c1 =>
  rw [Addr.add_mid, Nat.zero_add, cell_of_row w2.drew vb j _ _ _ HV2.out, List.getElem?_toArray]
  match j, hu with
  | 0, hu | 1, hu | 2, hu | 3, hu | 4, hu | 5, hu | 6, hu => exact hu
 case c2 =>
  simp only [List.mem_cons, List.not_mem_nil, or_false] at hu
  rcases hu with rfl | rfl | rfl | rfl | rfl | rfl | rfl <;> rfl
 refine wpList_nil ?_
 have hV3 : (w2.drew.setRow vb ((W8c v).toArray.toList.take 1 ++ [uv v.a, uv v.b, uv v.c, uv v.d, uv v.e, uv v.f, uv v.g] ++ (W8c v).toArray.toList.drop (1 + [uv v.a, uv v.b, uv v.c, uv v.d, uv v.e, uv v.f, uv v.g].length)).toArray).heap[vb]? = some (.cells (W8c ⟨v.a, v.a, v.b, v.c, v.d, v.e, v.f, v.g⟩).toArray 189 (0, 0)) := setRow_heap w2.drew vb _ _ _ _ HV2.out
 have hF3 : Fr [vb] w (w2.drew.setRow vb ((W8c v).toArray.toList.take 1 ++ [uv v.a, uv v.b, uv v.c, uv v.d, uv v.e, uv v.f, uv v.g] ++ (W8c v).toArray.toList.drop (1 + [uv v.a, uv v.b, uv v.c, uv v.d, uv v.e, uv v.f, uv v.g].length)).toArray) := (HF2.out.trans (Fr.drew _ _)).trans (Fr.setRow _ (by simp) _)
 generalize w2.drew.setRow vb _ = w3 at hV3 hF3 ⊢
 have HV3 := Lib.hid hV3
 have HF3 := Lib.hid hF3
 clear hV3 hF3
 obtain ⟨⟨c0, c1, c2, c3, c4, c5, c6, c7⟩, f0⟩ := cells_w8 HV3.out
 have f4 := f0 4
 have f00 := f0 0
 clear f0
 go_upto_region 4 with fail
 obtain ⟨w4, hw4⟩ : ∃ u, w3.setCell ⟨vb, 4, none⟩ (.int .u32 (o1 : Int)) = u := ⟨_, rfl⟩
 rw [hw4]
 have HV4 : Hid (w4.heap[vb]? = some (.cells (W8c ⟨v.a, v.a, v.b, v.c, o1, v.e, v.f, v.g⟩).toArray 189 (0, 0))) := Lib.hid (by rw [← hw4]; exact heap_setCell_same w3 vb 4 _ _ _ HV3.out)
 have HF4 : Hid (Fr [vb] w w4) := Lib.hid (by rw [← hw4]; exact HF3.out.trans (Fr.setCell _ (by simp) _))
 clear hw4 c0 c1 c2 c3 c4 c5 c6 c7 f4 f00 r1
 obtain ⟨⟨c0, c1, c2, c3, c4, c5, c6, c7⟩, f0⟩ := cells_w8 HV4.out
 have f00 := f0 0
 clear f0
 go_wp2_with fail
 go_end0
 refine ⟨rfl, ?_, HF4.out.trans (Fr.setCell _ (by simp) _)⟩
 rw [HR.out]
 exact heap_setCell_same w4 vb 0 _ _ _ HV4.out
end Go.Proofs.YtgfijlamhjjecaaGreatDoor
