/-
  Jour6: contracts of slices.Clone, Grow and Concat at bytes. No condition beyond those stated.
-/
import Derived.Test.YtgfdbjeliojhkaaJour5
import Derived.Lib.SliceRun
import Derived.Lib.AppendZerosOnto
import Derived.LoopN
namespace Go.Proofs.Ytgfdbjeliojhkaa
open Go.RowKit
theorem eql_nil31 (w : World) (a : Option Addr) (n c n' c' : Nat) : (binOp .eql 31 (.slice a n c) (.slice none n' c')).run Try.prog w = .ok (.bool a.isNone) w := Lib.run_eql_slice_nil w _ _ a n c n' c' Try.underlying31
theorem secL_map (m : Nat) (f : Sec) : (secL m f).map bv = rowL m f := (rowL_secL m f).symm
set_option maxRecDepth 100000 in
set_option maxHeartbeats 2000000 in
theorem clone_any (v : Value) (m : Nat) (f : Sec) (w : World) (h : BytesAt w v m f) (hm : m ≤ 100000000) :
    Calls Try.prog 42 #[v] w fun e w' => ∃ v', e = .returned v' ∧ OwnB w' w.heap.size v' (secL m f) ∧ Below w.heap.size w w' := by
  obtain ⟨ao, cap, rfl, h1, h2, h3, h4⟩ := h
  obtain ⟨i0, hi, hz0, hz1, hz2⟩ := info_parts info_u8
  have q := eql_nil31
  have H4 := Lib.hid h4
  unfold maxLen at h2
  cases ao with
  | none =>
    obtain ⟨rfl, rfl⟩ := h3 rfl
    clear h4 h3
    go_enter Try.func42, Try.ntmps42
    go_wp2
    go_ret
    exact ⟨_, rfl, OwnB.nil _ _, Below.refl _ _⟩
  | some ad =>
    have hnews : ∀ (W : World), (∀ k, k < w.heap.size → W.heap[k]? = w.heap[k]?) → ∀ (j : Nat) (u : Value), (rowL m f)[j]? = some u → W.cell? (ad.add j) = some u := fun W hW j u hu => by
      have hj : j < m := by have := (List.getElem?_eq_some_iff.1 hu).1; rw [rowL_length] at this; exact this
      obtain ⟨b, off, e, hr⟩ := H4.out (by omega)
      obtain rfl : ad = ⟨b, off, none⟩ := by simpa using e
      rw [Addr.add_mid]
      exact (World.cell?_of_block (a := ⟨b, off + j, none⟩) (hW b (rangeAt_lt hr (by omega)))).trans (hr j u hu)
    have HNW := Lib.hid hnews
    clear h4 h3 hnews
    go_enter Try.func42, Try.ntmps42
    go_wp2_with (at_builtin; refine wpList_append_own _ rfl _ _ 31 rfl w.heap.size 5 i0 (.int .u8 0) 1 1 Try.underlying31 hi hz0 hz1 hz2 rfl (by decide) _ _ _ rfl (World.ownsRow_made w #[] 0 (Nat.le_refl _) (Nat.zero_le _) rfl) ad m cap (rowL m f) rfl ?qc1 ?qc2 ?qc3 ?qc4 ?qc5 ?qc6 ?_)
    case qc1 => rw [rowL_length, Nat.mul_one]
    case qc2 => exact HNW.out _ (fun k hk => Below.heap_alloc _ _ _ hk)
    case qc3 => exact rowL_one
    case qc4 => unfold maxLen; omega
    case qc5 => omega
    case qc6 => simp
    intro v' w1 hown hgrow hnil
    go_wp2
    go_ret
    refine ⟨v', rfl, ?_, ?_⟩
    · unfold OwnB; rw [secL_len, secL_map]; simpa using hown
    · exact ((Below.refl _ w).alloc (Nat.le_refl _) _).grown hgrow (by simp) (by intro k hk; simp [Value.ownBlock] at hk; omega)
theorem zeroCells_size (n : Nat) : (Builtin.zeroCells (Value.int .u8 0).cells n).size = n := by simp [Builtin.zeroCells, Value.cells]
set_option maxRecDepth 100000 in
set_option maxHeartbeats 2000000 in
theorem grow_nil (n : Nat) (h0 : 0 < n) (hn : n ≤ 100000000) (w : World) :
    Calls Try.prog 52 #[.slice none 0 0, .int .i64 (n : Int)] w fun e w' => ∃ v', e = .returned v' ∧ OwnB w' w.heap.size v' [] ∧ Below w.heap.size w w' := by
  obtain ⟨i0, hi, hz0, hz1, hz2⟩ := info_parts info_u8
  have hrz : ∀ ty, (Builtin.append_ #[31, 3] ty #[.slice none 0 0, .int .i64 (n : Int)]).run Try.prog w = _ := fun ty =>
    Lib.run_append_nil_zeros w 31 3 ty 5 i0 _ .i64 .i64 Try.underlying31 Try.underlying3 hi hz0 n h0 (by omega) (by omega) (by rw [hz2]; omega)
  have hg1 := grownCap_ge w n 0 5
  have hg2 := grownCap_le_maxLen w n 0 5 (by unfold maxLen; omega)
  have hsz : (Builtin.zeroCells (Value.int .u8 0).cells n ++ Builtin.zeroCells (Value.int .u8 0).cells (grownCap w n 0 5 - n)).size = grownCap w n 0 5 * 1 := by
    rw [Array.size_append, zeroCells_size, zeroCells_size]; omega
  obtain ⟨G, hG⟩ : ∃ G, grownCap w n 0 5 = G := ⟨_, rfl⟩
  rw [hG] at hrz hg1 hg2 hsz
  obtain ⟨C, hC⟩ : ∃ C, Builtin.zeroCells (Value.int .u8 0).cells n ++ Builtin.zeroCells (Value.int .u8 0).cells (G - n) = C := ⟨_, rfl⟩
  rw [hC] at hrz hsz
  have hown := World.ownsRow_made (base := w.heap.size) (e := 5) w.drew C G (Nat.le_refl _) hg2 hsz
  have HO := Lib.hid (show OwnB (w.drew.alloc (.cells C 5)) w.heap.size (.slice (some ⟨w.heap.size, 0, none⟩) 0 G) [] from hown)
  unfold maxLen at hg2
  clear hG hC hown hsz hi hz0 hz1 hz2
  go_enter Try.func52, Try.ntmps52
  go_wp2_with (at_builtin; refine Lib.wpList_append_run _ rfl _ _ _ _ rfl _ _ rfl rfl _ _ (hrz _) ?_)
  go_ret
  exact ⟨_, rfl, HO.out, (Below.refl _ w).drew.alloc (Nat.le_refl _) _⟩
set_option maxRecDepth 100000 in
set_option maxHeartbeats 2000000 in
/-- slices.Concat of two slices -/
theorem concat2 (sb b1 o1 m c1 b2 o2 k c2 : Nat) (f g : Sec) (w : World) (hs : w.heap[sb]? = some (.cells #[.slice (some ⟨b1, o1, none⟩) m c1, .slice (some ⟨b2, o2, none⟩) k c2] 31 (0, 0)))
    (h1 : w.rangeAt b1 o1 (rowL m f)) (h2 : w.rangeAt b2 o2 (rowL k g)) (hm : 0 < m) (hm2 : m ≤ 10000000) (hk2 : k ≤ 10000000) (hc1 : m ≤ c1 ∧ c1 ≤ maxLen) (hc2 : k ≤ c2 ∧ c2 ≤ maxLen) (hb2 : b2 < w.heap.size) :
    Calls Try.prog 43 #[.slice (some ⟨sb, 0, none⟩) 2 2] w fun e w' => ∃ v', e = .returned v' ∧ OwnB w' w.heap.size v' (secL m f ++ secL k g) ∧ Below w.heap.size w w' := by
  obtain ⟨i0, hi, hz0, hz1, hz2⟩ := info_parts info_u8
  unfold maxLen at hc1 hc2
  have hsl : sb < w.heap.size := (Array.getElem?_eq_some_iff.1 hs).1
  have c0 : w.cell? ⟨sb, 0, none⟩ = some (.slice (some ⟨b1, o1, none⟩) m c1) := by rw [cell_of_row w sb 0 _ _ _ hs]; rfl
  have c1' : w.cell? ⟨sb, 1, none⟩ = some (.slice (some ⟨b2, o2, none⟩) k c2) := by rw [cell_of_row w sb 1 _ _ _ hs]; rfl
  have hb1 : b1 < w.heap.size := rangeAt_lt h1 hm
  have H1 := Lib.hid h1
  have H2 := Lib.hid h2
  have HS := Lib.hid hs
  have hnn : ¬ ((m : Int) + (k : Int) < 0) := by omega
  have hnm : ¬ ((m : Int) < 0) := by omega
  clear h1 h2 hs
  go_enter Try.func43, Try.ntmps43
  go_wp2_with fail
  refine wp_loop_rounds 3 ?_
  rw [rounds_succ]
  go_wp2_with fail
  rw [rounds_succ]
  go_wp2_with fail
  rw [rounds_succ]
  go_wp2_with fail
  have e1 : (m : Int) + (k : Int) = ((m + k : Nat) : Int) := by omega
  rw [e1]
  refine (grow_nil (m + k) (by omega) (by omega) w).mono ?_
  rintro e w1 ⟨v1, rfl, ho1, hb1'⟩
  have HO1 := Lib.hid ho1
  have HB1 := Lib.hid hb1'
  have hz1' := hb1'.size
  have c0 : w1.cell? ⟨sb, 0, none⟩ = some (.slice (some ⟨b1, o1, none⟩) m c1) := (World.cell?_of_block (a := ⟨sb, 0, none⟩) (hb1'.block sb hsl)).trans c0
  have c1' : w1.cell? ⟨sb, 1, none⟩ = some (.slice (some ⟨b2, o2, none⟩) k c2) := (World.cell?_of_block (a := ⟨sb, 1, none⟩) (hb1'.block sb hsl)).trans c1'
  have HN1 := Lib.hid (show ∀ j u, (rowL m f)[j]? = some u → w1.cell? (Addr.add ⟨b1, o1, none⟩ j) = some u from fun j u hu => by
    rw [Addr.add_mid]; exact (World.cell?_of_block (a := ⟨b1, o1 + j, none⟩) (hb1'.block b1 hb1)).trans (H1.out j u hu))
  clear ho1 hb1' e1
  go_wp2_with fail
  refine wp_loop_rounds 3 ?_
  rw [rounds_succ]
  go_wp2_with (at_builtin; refine wpList_append_own _ rfl _ _ 31 rfl w.heap.size 5 i0 (.int .u8 0) 1 1 Try.underlying31 hi hz0 hz1 hz2 rfl (by decide) _ _ _ rfl HO1.out ⟨b1, o1, none⟩ m c1 (rowL m f) rfl ?qc1 HN1.out rowL_one ?qc4 ?qc5 ?qc6 ?_)
  case qc1 => rw [rowL_length, Nat.mul_one]
  case qc4 => unfold maxLen; simp; omega
  case qc5 => simp; omega
  case qc6 => omega
  intro v2 w2 ho2 hg2 hnil2
  have hb2' : Below w.heap.size w1 w2 := (Below.refl _ w1).grown hg2 hz1' (fun k hk => (HO1.out.lt k hk).1)
  have HO2 := Lib.hid ho2
  have HB2 := Lib.hid (HB1.out.trans hb2')
  have hz2' := hb2'.size
  have c1' : w2.cell? ⟨sb, 1, none⟩ = some (.slice (some ⟨b2, o2, none⟩) k c2) := (World.cell?_of_block (a := ⟨sb, 1, none⟩) (hb2'.block sb hsl)).trans c1'
  have HN2 := Lib.hid (show ∀ j u, (rowL k g)[j]? = some u → w2.cell? (Addr.add ⟨b2, o2, none⟩ j) = some u from fun j u hu => by
    rw [Addr.add_mid]; exact (World.cell?_of_block (a := ⟨b2, o2 + j, none⟩) (HB2.out.block b2 hb2)).trans (H2.out j u hu))
  clear ho2 hg2 hnil2 hb2'
  go_wp2_with fail
  rw [rounds_succ]
  go_wp2_with (at_builtin; refine wpList_append_own _ rfl _ _ 31 rfl w.heap.size 5 i0 (.int .u8 0) 1 1 Try.underlying31 hi hz0 hz1 hz2 rfl (by decide) _ _ _ rfl HO2.out ⟨b2, o2, none⟩ k c2 (rowL k g) rfl ?rc1 HN2.out rowL_one ?rc4 ?rc5 ?rc6 ?_)
  case rc1 => rw [rowL_length, Nat.mul_one]
  case rc4 => unfold maxLen; simp; omega
  case rc5 => simp; omega
  case rc6 => omega
  intro v3 w3 ho3 hg3 hnil3
  have hb3' : Below w.heap.size w2 w3 := (Below.refl _ w2).grown hg3 (by omega) (fun k hk => (HO2.out.lt k hk).1)
  have HO3 := Lib.hid ho3
  have HB3 := Lib.hid (HB2.out.trans hb3')
  clear ho3 hg3 hnil3 hb3'
  go_wp2_with fail
  rw [rounds_succ]
  go_wp2_with fail
  go_ret
  refine ⟨v3, rfl, ?_, HB3.out⟩
  have h := HO3.out
  unfold OwnB
  rw [List.length_append, secL_len, secL_len, List.map_append, secL_map, secL_map]
  simpa using h
end Go.Proofs.Ytgfdbjeliojhkaa
