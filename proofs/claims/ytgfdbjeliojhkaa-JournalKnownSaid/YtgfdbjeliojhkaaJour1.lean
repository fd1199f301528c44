/-
  Jour1: contracts of the journal's big endian numbers. No condition beyond those stated.
-/
import Derived.Test.YtgfdbjeliojhkaaJourP
import Derived.Test.YtgfdbjeliojhkaaPlan
import Derived.StillTailTactics
namespace Go.Proofs.Ytgfdbjeliojhkaa
open Go.RowKit

/-- an owned row that reads as these bytes -/
def OwnB (w : World) (B : Nat) (v : Value) (l : List UInt8) : Prop := w.ownsRow B 5 1 v l.length (l.map bv)
theorem OwnB.nil (w : World) (B : Nat) : OwnB w B (.slice none 0 0) [] := World.ownsRow_nil _ _ _ _
theorem OwnB.bytes {w : World} {B : Nat} {v : Value} {l : List UInt8} (h : OwnB w B v l) : BytesAt w v l.length (lsec l) ∧ ∀ k, v.ownBlock = some k → B ≤ k := by
  unfold OwnB at h; rw [← rowL_lsec] at h; exact owns_bytes h
theorem be2 (n : Nat) : be 2 n = [UInt8.ofNat (n / 256 % 256), UInt8.ofNat (n % 256)] := rfl
theorem bv_mod (n : Nat) : bv (UInt8.ofNat (n % 256)) = .int .u8 ((n : Int) % 256) := by simp only [bv, u8_mod]; congr 1

set_option maxHeartbeats 2000000 in
theorem app16 (B n : Nat) (hn : n < 65536) (v : Value) (l : List UInt8) (w : World) (hown : OwnB w B v l) (hB : B ≤ w.heap.size) (hlim : l.length ≤ 1000000) :
    Calls Try.prog 51 #[.agg #[], v, .int .u16 (n : Int)] w fun e w' => ∃ v', e = .returned v' ∧ OwnB w' B v' (l ++ be 2 n) ∧ Below B w w' := by
  obtain ⟨i0, hi, hz0, hz1, hz2⟩ := info_parts info_u8
  have hb : (be 2 n).map bv = [Value.int .u8 ((n : Int) / 256), Value.int .u8 ((n : Int) % 256)] := by
    rw [be2, List.map_cons, List.map_cons, List.map_nil, bv_mod, bv_mod]
    congr 2; omega
  have HOW := Lib.hid hown
  have HB := Lib.hid hb
  clear hown hb
  go_enter Try.func51, Try.ntmps51
  go_wp2_with (at_builtin; refine wpList_append_own _ rfl _ _ 31 rfl B 5 i0 (.int .u8 0) 1 1 Try.underlying31 hi hz0 hz1 hz2 rfl (by decide) _ _ _ rfl ((HOW.out.alloc _).alloc _) _ 2 2 [Value.int .u8 ((n : Int) / 256), Value.int .u8 ((n : Int) % 256)] rfl rfl ?c1 ?c2 ?c3 ?c4 ?c5 ?_)
  case c1 =>
    intro j u hj
    match j, hj with
    | 0, hj => simp at hj; subst hj; simp [Addr.add]
    | 1, hj => simp at hj; subst hj; simp [Addr.add]
  case c2 => intro u hu; simp at hu; rcases hu with rfl | rfl <;> rfl
  case c3 => unfold maxLen; omega
  case c4 => omega
  case c5 => simp; omega
  intro v' w2 hown' hgrow _
  go_wp2
  go_ret
  refine ⟨v', rfl, ?_, ?_⟩
  · unfold OwnB; rw [List.map_append, HB.out, List.length_append, be_len]; exact hown'
  · exact ((((Below.refl B w).alloc hB _).alloc (by simp; omega) _).grown hgrow (by simp; omega) (fun k hk => (HOW.out.lt k hk).1))

theorem be4 (n : Nat) : be 4 n = be 2 (n / 65536 % 65536) ++ be 2 (n % 65536) := by
  rw [show (4 : Nat) = 2 + 2 from rfl, be_append 2 2 n, ← be_mod 2 (n / 256 ^ 2), ← be_mod 2 n]
theorem wrap_u16 (n : Int) : IntKind.u16.wrap n = n % 65536 := by simp [IntKind.wrap, IntKind.bits, IntKind.signed]
theorem wrap_u32 (n : Int) : IntKind.u32.wrap n = n % 4294967296 := by simp [IntKind.wrap, IntKind.bits, IntKind.signed]
theorem app16i (B : Nat) (x : Int) (h0 : 0 ≤ x) (hn : x < 65536) (v : Value) (l : List UInt8) (w : World) (hown : OwnB w B v l) (hB : B ≤ w.heap.size) (hlim : l.length ≤ 1000000) :
    Calls Try.prog 51 #[.agg #[], v, .int .u16 x] w fun e w' => ∃ v', e = .returned v' ∧ OwnB w' B v' (l ++ be 2 x.toNat) ∧ Below B w w' := by
  obtain ⟨n, rfl⟩ := Int.eq_ofNat_of_zero_le h0
  exact app16 B n (by omega) v l w hown hB hlim
set_option maxHeartbeats 2000000 in
theorem app32 (B n : Nat) (hn : n < 4294967296) (v : Value) (l : List UInt8) (w : World) (hown : OwnB w B v l) (hB : B ≤ w.heap.size) (hlim : l.length ≤ 999990) :
    Calls Try.prog 41 #[.agg #[], v, .int .u32 (n : Int)] w fun e w' => ∃ v', e = .returned v' ∧ OwnB w' B v' (l ++ be 4 n) ∧ Below B w w' := by
  have HOW := Lib.hid hown
  clear hown
  go_enter Try.func41, Try.ntmps41
  go_wp2_with fail
  have h1 : OwnB (w.alloc (.cells #[] 83)).drew B v l := (HOW.out.alloc _).drew
  have H1 := Lib.hid h1
  clear h1
  have k1 : IntKind.u16.wrap ((n : Int) / 65536) = (n : Int) / 65536 := by rw [wrap_u16]; omega
  have k2 : IntKind.u16.wrap (n : Int) = (n : Int) % 65536 := wrap_u16 _
  go_region_held3 (fun _ => True) (trivial) (first
    | ((go_at_call 51); ((with_reducible refine (app16i B ((n : Int) / 65536) ?c1 ?c2 v l _ H1.out ?c3 ?c4).mono ?_)); (case c1 => omega); (case c2 => omega); (case c3 => simp; omega); (case c4 => omega); rintro e w1 ⟨v1, rfl, hv1, hb1⟩)
    | ((go_at_call 51); ((with_reducible refine (app16i B ((n : Int) % 65536) ?d1 ?d2 _ _ _ hv1 ?d3 ?d4).mono ?_)); (case d1 => omega); (case d2 => omega); (case d3 => have := hb1.size; simp at this; omega); (case d4 => rw [List.length_append, be_len]; omega); rintro e w2 ⟨v2, rfl, hv2, hb2⟩))
  go_wp2
  go_ret
  refine ⟨v2, rfl, ?_, ?_⟩
  · rw [be4, show n / 65536 % 65536 = ((n : Int) / 65536).toNat by omega, show n % 65536 = ((n : Int) % 65536).toNat by omega, ← List.append_assoc]; exact hv2
  · exact (((Below.refl B w).alloc hB _).drew.trans hb1).trans hb2
theorem app32i (B : Nat) (x : Int) (h0 : 0 ≤ x) (hn : x < 4294967296) (v : Value) (l : List UInt8) (w : World) (hown : OwnB w B v l) (hB : B ≤ w.heap.size) (hlim : l.length ≤ 999990) :
    Calls Try.prog 41 #[.agg #[], v, .int .u32 x] w fun e w' => ∃ v', e = .returned v' ∧ OwnB w' B v' (l ++ be 4 x.toNat) ∧ Below B w w' := by
  obtain ⟨n, rfl⟩ := Int.eq_ofNat_of_zero_le h0
  exact app32 B n (by omega) v l w hown hB hlim
theorem be8 (n : Nat) : be 8 n = be 4 (n / 4294967296 % 4294967296) ++ be 4 (n % 4294967296) := by
  rw [show (8 : Nat) = 4 + 4 from rfl, be_append 4 4 n, ← be_mod 4 (n / 256 ^ 4), ← be_mod 4 n]
set_option maxHeartbeats 2000000 in
theorem app64 (B n : Nat) (hn : n < 2 ^ 64) (v : Value) (l : List UInt8) (w : World) (hown : OwnB w B v l) (hB : B ≤ w.heap.size) (hlim : l.length ≤ 999980) :
    Calls Try.prog 54 #[.agg #[], v, .int .u64 (n : Int)] w fun e w' => ∃ v', e = .returned v' ∧ OwnB w' B v' (l ++ be 8 n) ∧ Below B w w' := by
  have HOW := Lib.hid hown
  clear hown
  have hh : (n : Int) / 4294967296 < 4294967296 := by omega
  have hl : (n : Int) % 4294967296 < 4294967296 := by omega
  have k1 : IntKind.u32.wrap ((n : Int) / 4294967296) = (n : Int) / 4294967296 := by rw [wrap_u32]; omega
  have k2 : IntKind.u32.wrap (n : Int) = (n : Int) % 4294967296 := wrap_u32 _
  have hq : be 8 n = be 4 ((n : Int) / 4294967296).toNat ++ be 4 ((n : Int) % 4294967296).toNat := by
    rw [be8, show n / 4294967296 % 4294967296 = ((n : Int) / 4294967296).toNat by omega, show n % 4294967296 = ((n : Int) % 4294967296).toNat by omega]
  have HQ := Lib.hid hq
  clear hn hq
  go_enter Try.func54, Try.ntmps54
  go_wp2_with fail
  have h1 : OwnB (w.alloc (.cells #[] 83)).drew B v l := (HOW.out.alloc _).drew
  have H1 := Lib.hid h1
  clear h1
  go_region_held3 (fun _ => True) (trivial) (first
    | ((go_at_call 41); ((with_reducible refine (app32i B ((n : Int) / 4294967296) ?c1 hh v l _ H1.out ?c3 ?c4).mono ?_)); (case c1 => omega); (case c3 => simp; omega); (case c4 => omega); rintro e w1 ⟨v1, rfl, hv1, hb1⟩)
    | ((go_at_call 41); ((with_reducible refine (app32i B ((n : Int) % 4294967296) ?d1 hl _ _ _ hv1 ?d3 ?d4).mono ?_)); (case d1 => omega); (case d3 => have := hb1.size; simp at this; omega); (case d4 => rw [List.length_append, be_len]; omega); rintro e w2 ⟨v2, rfl, hv2, hb2⟩))
  go_wp2
  go_ret
  refine ⟨v2, rfl, ?_, ?_⟩
  · rw [HQ.out, ← List.append_assoc]; exact hv2
  · exact (((Below.refl B w).alloc hB _).drew.trans hb1).trans hb2
set_option maxRecDepth 100000 in
set_option maxHeartbeats 2000000 in
/-- the first 8 bytes at a place of a row of 64 are laid -/
theorem put64 (n : Nat) (hn : n < 2 ^ 64) (g off L C : Nat) (f : Sec) (t : TypeId) (w : World) (hL : 8 ≤ L) (hC : L ≤ C) (hC2 : C ≤ 64) (hoff : off + 8 ≤ 64) (hg : w.heap[g]? = some (.cells (rowA 64 f) t (0, 0))) :
    Calls Try.prog 53 #[.agg #[], .slice (some ⟨g, off, none⟩) L C, .int .u64 (n : Int)] w fun e w' => e = .returned (.tuple #[]) ∧ w'.heap[g]? = some (.cells (rowA 64 (splF f off 8 (lsec (be 8 n)))) t (0, 0)) ∧ Fr [g] w w' := by
  have HN := Lib.hid hn
  have HG := Lib.hid hg
  have hlt : g < w.heap.size := (Array.getElem?_eq_some_iff.1 hg).1
  have hC8 : (8 : Int) ≤ (C : Int) := by omega
  clear hn hg
  go_enter Try.func53, Try.ntmps53
  go_wp2_with fail
  refine wp_region_plan [(0, false), (1, false), (2, false), (3, false), (4, true), (5, true)] (fun _ => True) (by kernel_rfl) (by kernel_rfl) trivial ?_
  iterate 4 (refine' plan_val rfl rfl (fun w' hS => ?_) ?_; rotate_left; (focus (go_simp; rfl)); simp only [Act.put, List.setIfInBounds_toArray, List.set_cons_zero, List.set_cons_succ])
  refine plan_do rfl (fun K hK => ?_)
  go_wp2_with fail
  refine (app64 w.heap.size n HN.out _ [] _ (OwnB.nil _ _) (by simp) (by simp)).mono ?_
  rintro e w1 ⟨v1, rfl, hv1, hb1⟩
  have hg1 : w1.heap[g]? = some (.cells (rowA 64 f) t (0, 0)) := (hb1.block g hlt).trans ((Below.heap_alloc _ _ _ hlt).trans HG.out)
  rw [List.nil_append] at hv1
  obtain ⟨⟨ao, cap, rfl, h1, h2, h3, h4⟩, hbk⟩ := hv1.bytes
  rw [be_len] at h1 h4
  obtain ⟨b1, o1, rfl, hr1⟩ := h4 (by omega)
  have HG1 := Lib.hid hg1
  have HR1 := Lib.hid hr1
  have HB1 := Lib.hid (show Below w.heap.size w w1 from ((Below.refl _ w).alloc (Nat.le_refl _) _).drew.trans hb1)
  clear hg1 hr1 hb1 hv1 h4
  go_wp2_with fail
  refine hK _ _ trivial ?_
  clear hK K
  refine plan_do rfl (fun K hK => ?_)
  rw [be_len]
  refine wpList_val rfl (exec_copy rfl rfl rfl (fun ty => run_copy_bytes (P := Try.prog) w1 31 31 5 g off 8 C ⟨b1, o1, none⟩ 8 cap 64 8 f (lsec (be 8 n)) t Try.underlying31 isz_u8 HG1.out rfl (fun j v hv => by rw [Addr.add_mid]; exact HR1.out j v hv) (by omega) ty)) ?_
  refine wpList_nil ?_
  refine hK _ _ trivial ?_
  clear hK K
  refine plan_nil ?_
  go_wp2_with fail
  go_end0
  refine ⟨rfl, setRow_heap w1 g _ _ _ _ HG1.out, ?_⟩
  exact (Fr.trans (Below.fr HB1.out (Nat.le_refl _) [g]) (Fr.setRow w1 (by simp) _))
end Go.Proofs.Ytgfdbjeliojhkaa
