/-
  Texts EdiK, EdiL, EdiN, EdiO, EdiQ, EdiY6, EdiY7, EdiY8, EdiZ1, EdiA2, WrapV, EdiA3, WrapD, one behind the other. No condition beyond those stated in each.
-/
import Derived.Test.YtgfijlamhjjecaaGreatDoorMx3
import Derived.Test.YtgfijlamhjjecaaGreatDoorMx2
import Derived.Deep.CutBlock
import Derived.Deep.DeepCutAuto
import Derived.Test.YtgfijlamhjjecaaGreatDoorMx1
import Derived.Lib.Walk
import Derived.Lib.AppendStr
import Derived.Lib.Join
import Derived.Lib.UnsafeStr
import Derived.Laws.Externs
import Derived.Lib.AppendIntMem
import Derived.Lib.LaidTab
import Derived.Lib.AtoiErrMem
import Derived.BigQuiet
namespace Go.Proofs.YtgfijlamhjjecaaGreatDoor
open Go.RowKit
theorem ix_sign (c : UInt8) : ∃ i : Int, Lib.indexByte [43, 58, 39, 63] c = i ∧ decide (0 ≤ i) = signB c ∧ decide (i < 0) = !signB c := by
  refine ⟨_, rfl, ?_⟩
  unfold signB
  by_cases h1 : c = 43
  · subst h1; decide
  · by_cases h2 : c = 58
    · subst h2; decide
    · by_cases h3 : c = 39
      · subst h3; decide
      · by_cases h4 : c = 63
        · subst h4; decide
        · have e1 : (43 == c) = false := beq_eq_false_iff_ne.2 (Ne.symm h1)
          have e2 : (58 == c) = false := beq_eq_false_iff_ne.2 (Ne.symm h2)
          have e3 : (39 == c) = false := beq_eq_false_iff_ne.2 (Ne.symm h3)
          have e4 : (63 == c) = false := beq_eq_false_iff_ne.2 (Ne.symm h4)
          simp [Lib.indexByte, e1, e2, e3, e4, beq_eq_false_iff_ne.2 h1, beq_eq_false_iff_ne.2 h2, beq_eq_false_iff_ne.2 h3, beq_eq_false_iff_ne.2 h4]
theorem toU8 (c : UInt8) : ((c.toNat : Int)).toNat.toUInt8 = c := by simp
theorem ib_any (c : UInt8) (w : World) : ∃ i : Int, decide (0 ≤ i) = signB c ∧ decide (i < 0) = (!signB c) ∧ Calls Tryz.prog 217 #[.string ⟨#[43, 58, 39, 63]⟩, .int .u8 (c.toNat : Int)] w fun e w' => e = .returned (.int .i64 i) ∧ w = w' := by
  obtain ⟨i, h1, h2, h3⟩ := ix_sign c
  refine ⟨i, h2, h3, (Tryz.strings_IndexByte _ _ w).mono ?_⟩
  rintro e w' ⟨rfl, rfl⟩
  refine ⟨?_, rfl⟩
  rw [toU8]
  rw [← h1]
theorem nat_eq (c : UInt8) (k : UInt8) (h : c ≠ k) : ((c.toNat : Int) == (k.toNat : Int)) = false := by
  rw [beq_eq_false_iff_ne]; intro e; exact h (UInt8.toNat_inj.1 (Int.ofNat.inj e))
section
variable {w : World} {rb : Nat} {a b : Value} {R : World → Prop}
set_option maxHeartbeats 1000000 in
theorem comp_63 (rb : Nat) (w : World) : Calls Tryz.prog 205 #[.pointer (some ⟨rb, 0, none⟩), .int .u8 63] w fun e w' => e = .returned (.tuple #[fnV rb 216, .int .i64 0]) ∧ w = w' := by
  go_enter Tryz.func205, Tryz.ntmps205
  go_wp2_with fail
  go_ret2
  exact ⟨rfl, rfl⟩
set_option maxHeartbeats 1000000 in
theorem comp_sign (c : UInt8) (hs : signB c = true) (h63 : c ≠ 63) (h : Calls Tryz.prog 197 #[.pointer (some ⟨rb, 0, none⟩), .int .u8 (c.toNat : Int)] w fun e w' => e = .returned (.tuple #[a, b]) ∧ R w') : Calls Tryz.prog 205 #[.pointer (some ⟨rb, 0, none⟩), .int .u8 (c.toNat : Int)] w fun e w' => e = .returned (.tuple #[a, b]) ∧ R w' := by
  obtain ⟨i, i1, i2, hi⟩ := ib_any c w
  have H := Lib.hid h
  have HI := Lib.hid hi
  rw [hs] at i1
  have d1 : ((c.toNat : Int) == 63) = false := nat_eq c 63 h63
  clear h hi
  obtain ⟨n, hn⟩ : ∃ n : Int, (c.toNat : Int) = n := ⟨_, rfl⟩
  rw [hn] at H HI d1 ⊢
  clear hn
  go_enter Tryz.func205, Tryz.ntmps205
  go_wp2_with first | (go_at_call 217; refine HI.out.mono ?_; rintro e w' ⟨rfl, rfl⟩) | (go_at_call 197; refine H.out.mono ?_; rintro e w' ⟨rfl, hR⟩; have HR := Lib.hid hR; clear hR)
  go_ret2
  exact ⟨rfl, HR.out⟩
set_option maxHeartbeats 1000000 in
theorem comp_bad (rb : Nat) (w : World) (c : UInt8) (hs : signB c = false) (hb : c.toNat < 32 ∨ 126 < c.toNat) : Calls Tryz.prog 205 #[.pointer (some ⟨rb, 0, none⟩), .int .u8 (c.toNat : Int)] w fun e w' => e = .returned (.tuple #[.nilFunc, .int .i64 30]) ∧ w = w' := by
  obtain ⟨i, i1, i2, hi⟩ := ib_any c w
  have h63 : c ≠ 63 := by rintro rfl; exact absurd hs (by decide)
  have HI := Lib.hid hi
  rw [hs] at i1
  have d1 : ((c.toNat : Int) == 63) = false := nat_eq c 63 h63
  clear hi
  obtain ⟨n, hn⟩ : ∃ n : Nat, c.toNat = n := ⟨_, rfl⟩
  rw [hn] at HI d1 hb ⊢
  clear hn
  by_cases h32 : n < 32
  · have d2 : decide ((n : Int) < 32) = true := by rw [decide_eq_true_eq]; omega
    go_enter Tryz.func205, Tryz.ntmps205
    go_wp2_with (go_at_call 217; refine HI.out.mono ?_; rintro e w' ⟨rfl, rfl⟩)
    go_ret2
    exact ⟨rfl, rfl⟩
  · have d2 : decide ((n : Int) < 32) = false := by rw [decide_eq_false_iff_not]; omega
    have d3 : decide ((126 : Int) < (n : Int)) = true := by rw [decide_eq_true_eq]; omega
    go_enter Tryz.func205, Tryz.ntmps205
    go_wp2_with (go_at_call 217; refine HI.out.mono ?_; rintro e w' ⟨rfl, rfl⟩)
    go_ret2
    exact ⟨rfl, rfl⟩
set_option maxHeartbeats 1000000 in
theorem comp_put (c : UInt8) (hs : signB c = false) (hb : ¬ (c.toNat < 32 ∨ 126 < c.toNat)) (h : Calls Tryz.prog 218 #[.pointer (some ⟨rb, 0, none⟩), .int .u8 (c.toNat : Int)] w fun e w' => e = .returned (.tuple #[a, b]) ∧ R w') : Calls Tryz.prog 205 #[.pointer (some ⟨rb, 0, none⟩), .int .u8 (c.toNat : Int)] w fun e w' => e = .returned (.tuple #[a, b]) ∧ R w' := by
  obtain ⟨i, i1, i2, hi⟩ := ib_any c w
  have h63 : c ≠ 63 := by rintro rfl; exact absurd hs (by decide)
  have H := Lib.hid h
  have HI := Lib.hid hi
  rw [hs] at i1
  have d1 : ((c.toNat : Int) == 63) = false := nat_eq c 63 h63
  have d2 : decide ((c.toNat : Int) < 32) = false := by rw [decide_eq_false_iff_not]; omega
  have d3 : decide ((126 : Int) < (c.toNat : Int)) = false := by rw [decide_eq_false_iff_not]; omega
  clear h hi hb
  obtain ⟨n, hn⟩ : ∃ n : Int, (c.toNat : Int) = n := ⟨_, rfl⟩
  rw [hn] at H HI d1 d2 d3 ⊢
  clear hn
  go_enter Tryz.func205, Tryz.ntmps205
  go_wp2_with first | (go_at_call 217; refine HI.out.mono ?_; rintro e w' ⟨rfl, rfl⟩) | (go_at_call 218; refine H.out.mono ?_; rintro e w' ⟨rfl, hR⟩; have HR := Lib.hid hR; clear hR)
  go_ret2
  exact ⟨rfl, HR.out⟩
set_option maxHeartbeats 1000000 in
theorem rel_bad (rb : Nat) (w : World) (c : UInt8) (hs : signB c = false) : Calls Tryz.prog 216 #[.pointer (some ⟨rb, 0, none⟩), .int .u8 (c.toNat : Int)] w fun e w' => e = .returned (.tuple #[.nilFunc, .int .i64 30]) ∧ w = w' := by
  obtain ⟨i, i1, i2, hi⟩ := ib_any c w
  have HI := Lib.hid hi
  rw [hs] at i2
  simp only [Bool.not_false] at i2
  clear hi
  obtain ⟨n, hn⟩ : ∃ n : Int, (c.toNat : Int) = n := ⟨_, rfl⟩
  rw [hn] at HI ⊢
  clear hn
  go_enter Tryz.func216, Tryz.ntmps216
  go_wp2_with (go_at_call 217; refine HI.out.mono ?_; rintro e w' ⟨rfl, rfl⟩)
  go_ret2
  exact ⟨rfl, rfl⟩
set_option maxHeartbeats 1000000 in
theorem rel_put (c : UInt8) (hs : signB c = true) (h : Calls Tryz.prog 218 #[.pointer (some ⟨rb, 0, none⟩), .int .u8 (c.toNat : Int)] w fun e w' => e = .returned (.tuple #[a, b]) ∧ R w') : Calls Tryz.prog 216 #[.pointer (some ⟨rb, 0, none⟩), .int .u8 (c.toNat : Int)] w fun e w' => e = .returned (.tuple #[a, b]) ∧ R w' := by
  obtain ⟨i, i1, i2, hi⟩ := ib_any c w
  have H := Lib.hid h
  have HI := Lib.hid hi
  rw [hs] at i2
  simp only [Bool.not_true] at i2
  clear h hi
  obtain ⟨n, hn⟩ : ∃ n : Int, (c.toNat : Int) = n := ⟨_, rfl⟩
  rw [hn] at H HI ⊢
  clear hn
  go_enter Tryz.func216, Tryz.ntmps216
  go_wp2_with first | (go_at_call 217; refine HI.out.mono ?_; rintro e w' ⟨rfl, rfl⟩) | (go_at_call 218; refine H.out.mono ?_; rintro e w' ⟨rfl, hR⟩; have HR := Lib.hid hR; clear hR)
  go_ret2
  exact ⟨rfl, HR.out⟩
set_option maxHeartbeats 1000000 in
theorem bhd_bad (rb : Nat) (w : World) (c : UInt8) (h1 : c ≠ 43) (h2 : c ≠ 39) : Calls Tryz.prog 187 #[.pointer (some ⟨rb, 0, none⟩), .int .u8 (c.toNat : Int)] w fun e w' => e = .returned (.tuple #[.nilFunc, .int .i64 30]) ∧ w = w' := by
  have d1 : ((c.toNat : Int) == 43) = false := nat_eq c 43 h1
  have d2 : ((c.toNat : Int) == 39) = false := nat_eq c 39 h2
  obtain ⟨n, hn⟩ : ∃ n : Int, (c.toNat : Int) = n := ⟨_, rfl⟩
  rw [hn] at d1 d2 ⊢
  clear hn
  have d1 : (n != 43) = true := by simp [bne, d1]
  have d2 : (n != 39) = true := by simp [bne, d2]
  go_enter Tryz.func187, Tryz.ntmps187
  go_wp2_with fail
  go_ret2
  exact ⟨rfl, rfl⟩
set_option maxHeartbeats 1000000 in
theorem bhd_39 (h : Calls Tryz.prog 197 #[.pointer (some ⟨rb, 0, none⟩), .int .u8 39] w fun e w' => e = .returned (.tuple #[a, b]) ∧ R w') : Calls Tryz.prog 187 #[.pointer (some ⟨rb, 0, none⟩), .int .u8 39] w fun e w' => e = .returned (.tuple #[a, b]) ∧ R w' := by
  have H := Lib.hid h
  clear h
  go_enter Tryz.func187, Tryz.ntmps187
  go_wp2_with (go_at_call 197; refine H.out.mono ?_; rintro e w' ⟨rfl, hR⟩; have HR := Lib.hid hR; clear hR)
  go_ret2
  exact ⟨rfl, HR.out⟩
set_option maxHeartbeats 1000000 in
theorem bhd_43 (h : Calls Tryz.prog 197 #[.pointer (some ⟨rb, 0, none⟩), .int .u8 43] w fun e w' => e = .returned (.tuple #[a, b]) ∧ R w') : Calls Tryz.prog 187 #[.pointer (some ⟨rb, 0, none⟩), .int .u8 43] w fun e w' => e = .returned (.tuple #[a, b]) ∧ R w' := by
  have H := Lib.hid h
  clear h
  go_enter Tryz.func187, Tryz.ntmps187
  go_wp2_with (go_at_call 197; refine H.out.mono ?_; rintro e w' ⟨rfl, hR⟩; have HR := Lib.hid hR; clear hR)
  go_ret2
  exact ⟨rfl, HR.out⟩
end
end Go.Proofs.YtgfijlamhjjecaaGreatDoor


namespace Go.Proofs.YtgfijlamhjjecaaGreatDoor
open Go.RowKit
theorem enc_one (c : UInt8) (h : c.toNat < 128) : Utf8.encode (c.toNat : Int) = ⟨#[c]⟩ := by
  unfold Utf8.encode
  have hv : Utf8.valid (c.toNat : Int) = true := by unfold Utf8.valid; simp; omega
  simp [hv, h]
theorem conv_one (c : UInt8) (h : c.toNat < 128) (w : World) : (convert 5 9 (.int .u8 (c.toNat : Int))).run Tryz.prog w = .ok (.string ⟨#[c]⟩) w := by
  rw [run_convert_int_string w 5 9 .u8 _ (by rw [Tryz.underlying5]; rfl) Tryz.underlying9, enc_one c h]
section
variable {S : Nat → Prop} {w : World} {B rb : Nat} {l : List Seg} {t : Str} {es : List (List Str)} {cs : List Str} {p q : Str} {lv pv ev cv : Value} {xs ys : List Value}
set_option maxHeartbeats 1000000 in
theorem tag_bad (rb : Nat) (w : World) (c : UInt8) (hc : tagB c = false) : Calls Tryz.prog 168 #[.pointer (some ⟨rb, 0, none⟩), .int .u8 (c.toNat : Int)] w fun e w' => e = .returned (.tuple #[.nilFunc, .int .i64 30]) ∧ w = w' := by
  have H := Lib.hid (tagged_any c w)
  rw [hc] at H
  obtain ⟨n, hn⟩ : ∃ n : Int, (c.toNat : Int) = n := ⟨_, rfl⟩
  rw [hn] at H ⊢
  clear hn
  go_enter Tryz.func168, Tryz.ntmps168
  go_wp2_with (go_at_call 134; refine H.out.mono ?_; rintro e w' ⟨rfl, rfl⟩)
  go_ret2
  exact ⟨rfl, rfl⟩
theorem tag_lt {c : UInt8} (h : tagB c = true) : c.toNat < 128 := by
  unfold tagB at h
  simp at h
  omega
set_option maxRecDepth 100000 in
set_option maxHeartbeats 2000000 in
theorem tag_ok {xs0 : List Value} (h : RA S w B rb (l ++ [⟨t, []⟩]) lv pv (xs0 ++ [.slice none 0 0]) p) (_hB : B ≤ w.heap.size) (c : UInt8) (hc : tagB c = true) (ht : t.length < 3) : Calls Tryz.prog 168 #[.pointer (some ⟨rb, 0, none⟩), .int .u8 (c.toNat : Int)] w fun e w' => e = .returned (.tuple #[fnV rb (if t.length + 1 < 3 then 168 else 187), .int .i64 0]) ∧ RA S w' B rb (l ++ [⟨t ++ [c], []⟩]) lv pv (xs0 ++ [.slice none 0 0]) p ∧ Below B w w' := by
  obtain ⟨g, cap, x, xs1, rfl, hc1, hc2, hxx, hx0, k1, k2, z1, z2, _⟩ := h.top
  have d0 := h.c0
  have H := Lib.hid h
  have HT := Lib.hid (tagged_any c w)
  have hcv := fun w => conv_one c (tag_lt hc) w
  rw [hc] at HT
  obtain ⟨F, hF⟩ : ∃ F : Nat, (if t.length + 1 < 3 then 168 else 187) = F := ⟨_, rfl⟩
  rw [hF]
  have HF := Lib.hid hF
  clear hF
  obtain ⟨n, hn⟩ : ∃ n : Int, (c.toNat : Int) = n := ⟨_, rfl⟩
  rw [hn] at HT hcv ⊢
  clear h hn hxx k2 z2
  replace k1 : w.cell? ⟨g, l.length * 2, none⟩ = some (.string ⟨t.toArray⟩) := k1
  have hsz : (ByteArray.mk t.toArray).size + (ByteArray.mk #[c]).size ≤ maxLen := by
    show t.toArray.size + 1 ≤ maxLen
    simp [maxLen]; omega
  go_enter Tryz.func168, Tryz.ntmps168
  go_upto_region 4 with first | (go_at_call 134; refine HT.out.mono ?_; rintro e w' ⟨rfl, rfl⟩) | (go_at_call 186; refine (top_any rb g l.length cap _ d0 hc1 hc2).mono ?_; rintro e w' ⟨rfl, rfl⟩)
  have eS : Value.string ((ByteArray.mk t.toArray) ++ (ByteArray.mk #[c])) = sv (t ++ [c]) := by
    unfold sv
    rw [show (#[c] : Array UInt8) = [c].toArray from rfl, ByteArray.mk_append_mk]
  rw [eS]
  have HQ := Lib.hid ((H.out.settag (t' := t ++ [c])).fr0 (Fr.drew [] _))
  have HBQ := Lib.hid (((Below.refl B w).setCell (p := ⟨g, l.length * 2, none⟩) (own_lt H.out.hl (k := g) rfl).1 (sv (t ++ [c]))).drew)
  obtain ⟨wq, hwq⟩ : ∃ wq, (w.setCell ⟨g, l.length * 2, none⟩ (sv (t ++ [c]))).drew = wq := ⟨_, rfl⟩
  rw [hwq] at HQ HBQ ⊢
  clear hwq H d0 k1 z1 hsz
  obtain ⟨g', cap', x', xs2, he, -, -, -, -, k1, -, -, -, -⟩ := HQ.out.top
  cases he
  have d0 := HQ.out.c0
  replace k1 : wq.cell? ⟨g, l.length * 2, none⟩ = some (.string ⟨(t ++ [c]).toArray⟩) := k1
  have hlen : (((ByteArray.mk (t ++ [c]).toArray).size : Nat) : Int) = (t.length : Int) + 1 := by show (((t ++ [c]).toArray.size : Nat) : Int) = _; simp
  by_cases h3 : t.length + 1 < 3
  · have d3 : decide ((t.length : Int) + 1 < 3) = true := by rw [decide_eq_true_eq]; omega
    go_wp2_with (go_at_call 186; refine (top_any rb g l.length cap _ d0 hc1 hc2).mono ?_; rintro e w' ⟨rfl, rfl⟩)
    go_ret2
    exact ⟨by rw [← HF.out, if_pos h3]; rfl, HQ.out.fr0 (Fr.drew _ _), HBQ.out.drew⟩
  · have d3 : decide ((t.length : Int) + 1 < 3) = false := by rw [decide_eq_false_iff_not]; omega
    go_wp2_with (go_at_call 186; refine (top_any rb g l.length cap _ d0 hc1 hc2).mono ?_; rintro e w' ⟨rfl, rfl⟩)
    go_ret2
    exact ⟨by rw [← HF.out, if_neg h3]; rfl, HQ.out.fr0 (Fr.drew _ _), HBQ.out.drew⟩
end
end Go.Proofs.YtgfijlamhjjecaaGreatDoor


namespace Go.Proofs.YtgfijlamhjjecaaGreatDoor
open Go.RowKit
theorem cell_two_new (w : World) (x y : Value) (t : TypeId) : ∀ (j : Nat) (u : Value), [x, y][j]? = some u → (w.alloc (.cells #[x, y] t)).cell? ((⟨w.heap.size, 0, none⟩ : Addr).add j) = some u := by
  intro j u hj
  match j, hj with
  | 0, hj => simp at hj; subst hj; simp [Addr.add]
  | 1, hj => simp at hj; subst hj; simp [Addr.add]
section
variable {S : Nat → Prop} {w : World} {B rb : Nat} {l : List Seg} {t : Str} {es : List (List Str)} {cs : List Str} {p q : Str} {lv pv ev cv : Value} {xs ys : List Value}
theorem RA.lform (h : RA S w B rb l lv pv xs p) : ∃ ao cap, lv = .slice ao l.length cap := by
  obtain ⟨_, ⟨h1, h2⟩ | ⟨g, cap, _, h1, _⟩⟩ := h.hl
  · exact ⟨none, 0, by rw [h1, h2]⟩
  · exact ⟨_, cap, h1⟩
set_option maxRecDepth 100000 in
set_option maxHeartbeats 2000000 in
theorem btw_nl (h : RA S w B rb l lv pv xs p) (h0 : l ≠ []) : Calls Tryz.prog 144 #[.pointer (some ⟨rb, 0, none⟩), .int .u8 10] w fun e w' => e = .returned (.tuple #[fnV rb 144, .int .i64 0]) ∧ w = w' := by
  have d0 := h.c0
  obtain ⟨ao, cap, rfl⟩ := h.lform
  have h1 : 0 < l.length := List.length_pos_iff.2 h0
  have d1 : decide ((0 : Int) < (l.length : Int)) = true := by rw [decide_eq_true_eq]; omega
  clear h
  go_enter Tryz.func144, Tryz.ntmps144
  go_wp2_with fail
  go_ret2
  exact ⟨rfl, rfl⟩
set_option maxRecDepth 100000 in
set_option maxHeartbeats 2000000 in
theorem btw_full (h : RA S w B rb l lv pv xs p) (c : UInt8) (hc : c ≠ 10) (h64 : l.length = 64) : Calls Tryz.prog 144 #[.pointer (some ⟨rb, 0, none⟩), .int .u8 (c.toNat : Int)] w fun e w' => e = .returned (.tuple #[.nilFunc, .int .i64 2]) ∧ w = w' := by
  have d0 := h.c0
  obtain ⟨ao, cap, rfl⟩ := h.lform
  rw [h64] at d0
  have d1 : ((c.toNat : Int) == 10) = false := nat_eq c 10 hc
  obtain ⟨n, hn⟩ : ∃ n : Int, (c.toNat : Int) = n := ⟨_, rfl⟩
  rw [hn] at d1 ⊢
  clear h hn
  go_enter Tryz.func144, Tryz.ntmps144
  go_wp2_with fail
  go_ret2
  exact ⟨rfl, rfl⟩
set_option maxRecDepth 100000 in
set_option maxHeartbeats 4000000 in
theorem btw_tag (h : RA S w B rb l lv pv xs p) (hB : B ≤ w.heap.size) (c : UInt8) (hc : ¬ (c = 10 ∧ l ≠ [])) (h64 : l.length < 64) {a b : Value} {R : World → Prop}
    (hT : ∀ w1 lv', RA S w1 B rb (l ++ [⟨[], []⟩]) lv' pv (xs ++ [.slice none 0 0]) p → Below B w w1 → Calls Tryz.prog 168 #[.pointer (some ⟨rb, 0, none⟩), .int .u8 (c.toNat : Int)] w1 fun e w' => e = .returned (.tuple #[a, b]) ∧ R w') :
    Calls Tryz.prog 144 #[.pointer (some ⟨rb, 0, none⟩), .int .u8 (c.toNat : Int)] w fun e w' => e = .returned (.tuple #[a, b]) ∧ R w' := by
  have d0 := h.c0
  have f0 := h.fz 0
  have H := Lib.hid h
  have HT := Lib.hid hT
  have hrw := h.lt
  have hrB := h.hB
  have nlr := own_neR h.r h.hl (by decide)
  obtain ⟨la, lc, rfl⟩ := h.lform
  have d64 : ((l.length : Int) == 64) = false := by rw [beq_eq_false_iff_ne]; omega
  obtain ⟨n, hn⟩ : ∃ n : Int, (c.toNat : Int) = n := ⟨_, rfl⟩
  have dd : (n == 10) = false ∨ (n = 10 ∧ decide ((0 : Int) < (l.length : Int)) = false) := by
    by_cases h10 : c = 10
    · subst h10
      refine .inr ⟨hn.symm, ?_⟩
      rw [decide_eq_false_iff_not]
      have : l = [] := Classical.byContradiction fun h => hc ⟨rfl, h⟩
      simp [this]
    · exact .inl (by rw [← hn]; exact nat_eq c 10 h10)
  rw [hn] at HT ⊢
  clear h hT hn hc
  obtain ⟨i0, hi, hz0, hz1, hz2⟩ := info_parts einfo_seg
  have HI := Lib.hid hi
  have HZ0 := Lib.hid hz0
  have HZ1 := Lib.hid hz1
  have HZ2 := Lib.hid hz2
  clear hi hz0 hz1 hz2
  rcases dd with d1 | ⟨rfl, d1⟩
  · go_enter Tryz.func144, Tryz.ntmps144
    go_upto_region 6 with ((with_reducible refine wpList_at (.call { callee := .builtin .append, args := #[.tmp 30, .tmp 32], argTypes := #[39, 39] }) rfl ?_); go_loud (refine wpList_append_own_at _ rfl _ _ 39 rfl B 94 i0 (.agg #[.string ⟨#[]⟩, .slice none 0 0]) 2 40 Tryz.underlying39 HI.out HZ0.out HZ1.out HZ2.out rfl (by decide) _ _ _ rfl (World.ownsRow.alloc (show w.ownsRow B 94 2 (.slice la l.length lc) l.length (segCells l xs) from H.out.hl) _) ⟨w.heap.size, 0, none⟩ 1 1 [.string ⟨#[]⟩, .slice none 0 0] rfl rfl (cell_two_new _ _ _ _) (by simp [Value.oneCell']) (by unfold maxLen; omega) (by omega) (by simp; omega) ?_); intro lv' w1 he' hg' _ hk'; have HG1 : Hid ((w.alloc (.cells #[.string ⟨#[]⟩, .slice none 0 0] 94)).grownBy w1 (Value.slice la l.length lc).ownBlock) := hg'; have HK1 : Hid (lv'.ownBlock = (Value.slice la l.length lc).ownBlock ∨ lv'.ownBlock = some (w.heap.size + 1)) := Lib.hid (by rcases hk' with h | h; exact .inl h; (right; rw [h]; simp)); have hea := blk_ag HG1.out hrw nlr; have f0' : w1.frozen? ⟨rb, 0, none⟩ = false := (fz_ag hea).trans f0; have d0' : w1.cell? ⟨rb, 0, none⟩ = some (.slice la l.length lc) := (cell_ag hea).trans d0; have hs1 := hg'.size; simp at hs1; have HE1 : Hid (w1.ownsRow B 94 2 lv' (l.length + 1) (segCells l xs ++ [sv [], .slice none 0 0])) := Lib.hid he'; obtain ⟨pg2, pc2, _, rfl, _⟩ := own_form he' (by omega) (by omega); clear he' hg' hk' hea)
    have HQ := Lib.hid (H.out.newseg HG1.out HE1.out (by rw [World.size_alloc]; exact HK1.out))
    have HBQ := Lib.hid (H.out.fr_newseg (lv' := .slice (some ⟨pg2, 0, none⟩) (l.length + 1) pc2) HG1.out hB)
    obtain ⟨wq, hwq⟩ : ∃ wq, w1.setCell ⟨rb, 0, none⟩ (.slice (some ⟨pg2, 0, none⟩) (l.length + 1) pc2) = wq := ⟨_, rfl⟩
    rw [hwq] at HQ HBQ ⊢
    clear hwq f0 d0 f0' d0' HG1 HE1 HK1 hs1
    have HC := Lib.hid (HT.out wq _ HQ.out HBQ.out)
    go_wp2_with (go_at_call 168; refine HC.out.mono ?_; rintro e w' ⟨rfl, hR⟩; have HR := Lib.hid hR; clear hR)
    go_ret2
    exact ⟨rfl, HR.out⟩
  · have d2 : ¬ 0 < l.length := fun h => by rw [decide_eq_false_iff_not] at d1; omega
    go_enter Tryz.func144, Tryz.ntmps144
    go_upto_region 6 with ((with_reducible refine wpList_at (.call { callee := .builtin .append, args := #[.tmp 30, .tmp 32], argTypes := #[39, 39] }) rfl ?_); go_loud (refine wpList_append_own_at _ rfl _ _ 39 rfl B 94 i0 (.agg #[.string ⟨#[]⟩, .slice none 0 0]) 2 40 Tryz.underlying39 HI.out HZ0.out HZ1.out HZ2.out rfl (by decide) _ _ _ rfl (World.ownsRow.alloc (show w.ownsRow B 94 2 (.slice la l.length lc) l.length (segCells l xs) from H.out.hl) _) ⟨w.heap.size, 0, none⟩ 1 1 [.string ⟨#[]⟩, .slice none 0 0] rfl rfl (cell_two_new _ _ _ _) (by simp [Value.oneCell']) (by unfold maxLen; omega) (by omega) (by simp; omega) ?_); intro lv' w1 he' hg' _ hk'; have HG1 : Hid ((w.alloc (.cells #[.string ⟨#[]⟩, .slice none 0 0] 94)).grownBy w1 (Value.slice la l.length lc).ownBlock) := hg'; have HK1 : Hid (lv'.ownBlock = (Value.slice la l.length lc).ownBlock ∨ lv'.ownBlock = some (w.heap.size + 1)) := Lib.hid (by rcases hk' with h | h; exact .inl h; (right; rw [h]; simp)); have hea := blk_ag HG1.out hrw nlr; have f0' : w1.frozen? ⟨rb, 0, none⟩ = false := (fz_ag hea).trans f0; have d0' : w1.cell? ⟨rb, 0, none⟩ = some (.slice la l.length lc) := (cell_ag hea).trans d0; have hs1 := hg'.size; simp at hs1; have HE1 : Hid (w1.ownsRow B 94 2 lv' (l.length + 1) (segCells l xs ++ [sv [], .slice none 0 0])) := Lib.hid he'; obtain ⟨pg2, pc2, _, rfl, _⟩ := own_form he' (by omega) (by omega); clear he' hg' hk' hea)
    have HQ := Lib.hid (H.out.newseg HG1.out HE1.out (by rw [World.size_alloc]; exact HK1.out))
    have HBQ := Lib.hid (H.out.fr_newseg (lv' := .slice (some ⟨pg2, 0, none⟩) (l.length + 1) pc2) HG1.out hB)
    obtain ⟨wq, hwq⟩ : ∃ wq, w1.setCell ⟨rb, 0, none⟩ (.slice (some ⟨pg2, 0, none⟩) (l.length + 1) pc2) = wq := ⟨_, rfl⟩
    rw [hwq] at HQ HBQ ⊢
    clear hwq f0 d0 f0' d0' HG1 HE1 HK1 hs1
    have HC := Lib.hid (HT.out wq _ HQ.out HBQ.out)
    go_wp2_with (go_at_call 168; refine HC.out.mono ?_; rintro e w' ⟨rfl, hR⟩; have HR := Lib.hid hR; clear hR)
    go_ret2
    exact ⟨rfl, HR.out⟩
end
end Go.Proofs.YtgfijlamhjjecaaGreatDoor


namespace Go.Proofs.YtgfijlamhjjecaaGreatDoor
open Go.RowKit
def fnE : EC → Nat
  | .btw _ => 144
  | .tag _ _ => 168
  | .bhd _ _ => 187
  | .cmp _ _ _ _ _ => 205
  | .rel _ _ _ _ _ => 216
def Rd (w : World) (B rb : Nat) : EC → Prop
  | .btw l => ∃ (S : Nat → Prop) (lv pv : Value) (xs : List Value) (p : Str), RA S w B rb l lv pv xs p ∧ l.length ≤ 64
  | .tag l t => ∃ (S : Nat → Prop) (lv pv : Value) (xs0 : List Value) (p : Str), RA S w B rb (l ++ [⟨t, []⟩]) lv pv (xs0 ++ [.slice none 0 0]) p ∧ t.length < 3 ∧ l.length < 64
  | .bhd l t => ∃ (S : Nat → Prop) (lv pv : Value) (xs0 : List Value) (p : Str), RA S w B rb (l ++ [⟨t, []⟩]) lv pv (xs0 ++ [.slice none 0 0]) p ∧ l.length < 64
  | .cmp l t es cs p => ∃ (S : Nat → Prop) (lv pv ev cv : Value) (xs ys : List Value), RB S w B rb l t es cs p p lv pv ev cv xs ys ∧ l.length < 64 ∧ es.length + 1 ≤ 16 ∧ cs.length + 1 ≤ 8 ∧ p.length ≤ 256
  | .rel l t es cs p => ∃ (S : Nat → Prop) (lv pv ev cv : Value) (xs ys : List Value), RB S w B rb l t es cs p p lv pv ev cv xs ys ∧ l.length < 64 ∧ es.length + 1 ≤ 16 ∧ cs.length + 1 ≤ 8 ∧ p.length ≤ 256
def StepSays (B rb : Nat) (w : World) : ER → Ending → World → Prop
  | .err k, e, w' => e = .returned (.tuple #[.nilFunc, .int .i64 k]) ∧ Below B w w'
  | .ok s, e, w' => e = .returned (.tuple #[fnV rb (fnE s), .int .i64 0]) ∧ Rd w' B rb s ∧ Below B w w'
section
variable {w : World} {B rb : Nat} {l : List Seg} {t : Str} {es : List (List Str)} {cs : List Str} {p : Str}
abbrev stepArgs (rb : Nat) (c : UInt8) : Array Value := #[.pointer (some ⟨rb, 0, none⟩), .int .u8 (c.toNat : Int)]
theorem step_tag {S : Nat → Prop} {lv pv : Value} {xs0 : List Value} {q : Str} {w0 : World} (h : RA S w B rb (l ++ [⟨t, []⟩]) lv pv (xs0 ++ [.slice none 0 0]) q) (ht : t.length < 3) (hl : l.length < 64) (hb : Below B w0 w) (hB : B ≤ w0.heap.size) (c : UInt8) :
    Calls Tryz.prog 168 (stepArgs rb c) w (StepSays B rb w0 (tagS l t c)) := by
  unfold tagS
  by_cases hc : tagB c = false
  · rw [if_pos hc]
    exact (tag_bad rb w c hc).mono fun e w' h => ⟨h.1, h.2 ▸ hb⟩
  · rw [if_neg hc]
    have hc' : tagB c = true := by simpa using hc
    have hB' : B ≤ w.heap.size := Nat.le_trans hB hb.size
    refine (tag_ok h hB' c hc' ht).mono fun e w' h' => ?_
    obtain ⟨h1, h2, h3⟩ := h'
    by_cases h3' : t.length + 1 < 3
    · rw [if_pos h3'] at h1 ⊢
      exact ⟨h1, ⟨S, lv, pv, xs0, q, h2, by simpa using h3', hl⟩, hb.trans h3⟩
    · rw [if_neg h3'] at h1 ⊢
      exact ⟨h1, ⟨S, lv, pv, xs0, q, h2, hl⟩, hb.trans h3⟩
theorem step_put {S : Nat → Prop} {lv pv ev cv : Value} {xs ys : List Value} (h : RB S w B rb l t es cs p p lv pv ev cv xs ys) (hl : l.length < 64) (h16 : es.length + 1 ≤ 16) (h8 : cs.length + 1 ≤ 8) (hp : p.length ≤ 256) (hB : B ≤ w.heap.size) (c : UInt8) :
    Calls Tryz.prog 218 (stepArgs rb c) w (StepSays B rb w (putS l t es cs p c)) := by
  unfold putS
  by_cases h256 : p.length = 256
  · rw [if_pos h256]
    exact put_full h c h256
  · rw [if_neg h256]
    refine (put_ok h c hB (by omega)).mono fun e w' h' => ?_
    obtain ⟨h1, ⟨pv', h2⟩, h3⟩ := h'
    exact ⟨h1, ⟨S, lv, pv', ev, cv, xs, ys, h2, hl, h16, h8, by simp; omega⟩, h3⟩
theorem step_sign {S : Nat → Prop} {lv pv ev cv : Value} {xs ys : List Value} (h : RB S w B rb l t es cs p p lv pv ev cv xs ys) (hl : l.length < 64) (h16 : es.length + 1 ≤ 16) (h8 : cs.length + 1 ≤ 8) (hB : B ≤ w.heap.size) (c : UInt8) (hc : signB c = true) (h63 : c ≠ 63) :
    Calls Tryz.prog 197 (stepArgs rb c) w (StepSays B rb w (signS l t es cs p c)) := by
  unfold signS
  by_cases h39 : c = 39
  · subst h39
    rw [if_pos rfl]
    refine (sign_B39 h hB).mono fun e w' h' => ?_
    obtain ⟨h1, h2, h3⟩ := h'
    exact ⟨h1, ⟨_, _, _, _, _, h2, by simp; omega⟩, h3⟩
  · rw [if_neg h39]
    by_cases h43 : c = 43
    · subst h43
      rw [if_pos rfl]
      by_cases he : es.length + 1 = 16
      · rw [if_pos he]
        exact sign_B43_full h hB he
      · rw [if_neg he]
        refine (sign_B43_next h hB (by omega)).mono fun e w' h' => ?_
        obtain ⟨h1, ⟨ev', cv', h2⟩, h3⟩ := h'
        exact ⟨h1, ⟨_, _, _, _, _, _, _, h2, hl, by simp; omega, by simp, by simp⟩, h3⟩
    · rw [if_neg h43]
      have h58 : c = 58 := by
        unfold signB at hc
        simpa [h39, h43, h63] using hc
      subst h58
      by_cases he : cs.length + 1 = 8
      · rw [if_pos he]
        exact sign_B58_full h hB he
      · rw [if_neg he]
        refine (sign_B58_next h hB (by omega)).mono fun e w' h' => ?_
        obtain ⟨h1, ⟨cv', h2⟩, h3⟩ := h'
        exact ⟨h1, ⟨_, _, _, _, _, _, _, h2, hl, h16, by simp; omega, by simp⟩, h3⟩
end
theorem says_form {B rb : Nat} {w : World} {r : ER} {f : Nat} {args : Array Value} (h : Calls Tryz.prog f args w (StepSays B rb w r)) : ∃ a b, ∃ R : World → Prop, (Calls Tryz.prog f args w fun e w' => e = .returned (.tuple #[a, b]) ∧ R w') ∧ ∀ e w', (e = .returned (.tuple #[a, b]) ∧ R w') → StepSays B rb w r e w' := by
  cases r with
  | err k => exact ⟨.nilFunc, .int .i64 k, fun w' => Below B w w', h, fun e w' h => h⟩
  | ok s => exact ⟨fnV rb (fnE s), .int .i64 0, fun w' => Rd w' B rb s ∧ Below B w w', h, fun e w' h => h⟩
theorem rd_step {w : World} {B rb : Nat} {s : EC} (h : Rd w B rb s) (hB : B ≤ w.heap.size) (c : UInt8) : Calls Tryz.prog (fnE s) (stepArgs rb c) w (StepSays B rb w (stepE s c)) := by
  cases s with
  | btw l =>
    obtain ⟨S, lv, pv, xs, p, h, hl⟩ := h
    show Calls Tryz.prog 144 _ w (StepSays B rb w (if c = 10 ∧ l ≠ [] then .ok (.btw l) else if l.length = 64 then .err 2 else tagS l [] c))
    by_cases hc : c = 10 ∧ l ≠ []
    · rw [if_pos hc]
      obtain ⟨rfl, hl0⟩ := hc
      exact (btw_nl h hl0).mono fun e w' h' => ⟨h'.1, ⟨S, lv, pv, xs, p, h'.2 ▸ h, hl⟩, h'.2 ▸ Below.refl B w⟩
    · rw [if_neg hc]
      by_cases h64 : l.length = 64
      · rw [if_pos h64]
        have hc10 : c ≠ 10 := fun e => hc ⟨e, fun e' => by rw [e'] at h64; exact absurd h64 (by decide)⟩
        exact (btw_full h c hc10 h64).mono fun e w' h' => ⟨h'.1, h'.2 ▸ Below.refl B w⟩
      · rw [if_neg h64]
        have key : ∀ (a b : Value) (R : World → Prop), (∀ w1 lv', RA S w1 B rb (l ++ [⟨[], []⟩]) lv' pv (xs ++ [.slice none 0 0]) p → Below B w w1 → Calls Tryz.prog 168 (stepArgs rb c) w1 fun e w' => e = .returned (.tuple #[a, b]) ∧ R w') → Calls Tryz.prog 144 (stepArgs rb c) w fun e w' => e = .returned (.tuple #[a, b]) ∧ R w' :=
          fun a b R hT => btw_tag h hB c hc (by omega) hT
        cases hr : tagS l [] c with
        | err k =>
          refine (key .nilFunc (.int .i64 k) (fun w' => Below B w w') fun w1 lv' h1 hb => ?_).mono fun e w' h' => h'
          have := step_tag h1 (by simp) (by omega) hb hB c
          rw [hr] at this
          exact this
        | ok s' =>
          refine (key (fnV rb (fnE s')) (.int .i64 0) (fun w' => Rd w' B rb s' ∧ Below B w w') fun w1 lv' h1 hb => ?_).mono fun e w' h' => h'
          have := step_tag h1 (by simp) (by omega) hb hB c
          rw [hr] at this
          exact this
  | tag l t =>
    obtain ⟨S, lv, pv, xs, p, h, ht, hl⟩ := h
    exact step_tag h ht hl (Below.refl B w) hB c
  | bhd l t =>
    obtain ⟨S, lv, pv, xs, p, h, hl⟩ := h
    show Calls Tryz.prog 187 _ w (StepSays B rb w (if c = 39 then .ok (.btw (l ++ [⟨t, []⟩])) else if c = 43 then .ok (.cmp l t [] [] []) else .err 30))
    by_cases h39 : c = 39
    · subst h39
      rw [if_pos rfl]
      refine (bhd_39 (R := fun w' => RA S w' B rb (l ++ [⟨t, []⟩]) lv (.slice none 0 0) (xs ++ [.slice none 0 0]) [] ∧ Below B w w') (sign_A39 h hB)).mono fun e w' h' => ?_
      exact ⟨h'.1, ⟨_, _, _, _, _, h'.2.1, by simp; omega⟩, h'.2.2⟩
    · rw [if_neg h39]
      by_cases h43 : c = 43
      · subst h43
        rw [if_pos rfl]
        refine (bhd_43 (R := fun w' => (∃ ev cv, RB S w' B rb l t [] [] [] [] lv (.slice none 0 0) ev cv xs []) ∧ Below B w w') (sign_A43 h hB)).mono fun e w' h' => ?_
        obtain ⟨h1, ⟨ev, cv, h2⟩, h3⟩ := h'
        exact ⟨h1, ⟨_, _, _, _, _, _, _, h2, hl, by simp, by simp, by simp⟩, h3⟩
      · rw [if_neg h43]
        exact (bhd_bad rb w c h43 h39).mono fun e w' h' => ⟨h'.1, h'.2 ▸ Below.refl B w⟩
  | cmp l t es cs p =>
    obtain ⟨S, lv, pv, ev, cv, xs, ys, h, hl, h16, h8, hp⟩ := h
    show Calls Tryz.prog 205 _ w (StepSays B rb w (if c = 63 then .ok (.rel l t es cs p) else if signB c = true then signS l t es cs p c else if c.toNat < 32 ∨ 126 < c.toNat then .err 30 else putS l t es cs p c))
    by_cases h63 : c = 63
    · subst h63
      rw [if_pos rfl]
      exact (comp_63 rb w).mono fun e w' h' => ⟨h'.1, ⟨_, _, _, _, _, _, _, h'.2 ▸ h, hl, h16, h8, hp⟩, h'.2 ▸ Below.refl B w⟩
    · rw [if_neg h63]
      by_cases hs : signB c = true
      · rw [if_pos hs]
        obtain ⟨a, b, R, h1, h2⟩ := says_form (step_sign h hl h16 h8 hB c hs h63)
        exact (comp_sign c hs h63 h1).mono h2
      · rw [if_neg hs]
        have hs' : signB c = false := by simpa using hs
        by_cases hb : c.toNat < 32 ∨ 126 < c.toNat
        · rw [if_pos hb]
          exact (comp_bad rb w c hs' hb).mono fun e w' h' => ⟨h'.1, h'.2 ▸ Below.refl B w⟩
        · rw [if_neg hb]
          obtain ⟨a, b, R, h1, h2⟩ := says_form (step_put h hl h16 h8 hp hB c)
          exact (comp_put c hs' hb h1).mono h2
  | rel l t es cs p =>
    obtain ⟨S, lv, pv, ev, cv, xs, ys, h, hl, h16, h8, hp⟩ := h
    show Calls Tryz.prog 216 _ w (StepSays B rb w (if signB c = true then putS l t es cs p c else .err 30))
    by_cases hs : signB c = true
    · rw [if_pos hs]
      obtain ⟨a, b, R, h1, h2⟩ := says_form (step_put h hl h16 h8 hp hB c)
      exact (rel_put c hs h1).mono h2
    · rw [if_neg hs]
      have hs' : signB c = false := by simpa using hs
      exact (rel_bad rb w c hs').mono fun e w' h' => ⟨h'.1, h'.2 ▸ Below.refl B w⟩
end Go.Proofs.YtgfijlamhjjecaaGreatDoor


namespace Go.Proofs.YtgfijlamhjjecaaGreatDoor
open Go.RowKit
def heldN (t : Str) (i : Nat) : Nat := ((t.take i).reverse.takeWhile (· == 63)).length
theorem takeWhile_len {α : Type} (f : α → Bool) : ∀ (l : List α) (k : Nat), (∀ j, j < k → ∃ x, l[j]? = some x ∧ f x = true) → (∀ x, l[k]? = some x → f x = false) → (l.takeWhile f).length = k
  | [], k, h1, _ => by
    cases k with
    | zero => rfl
    | succ k => obtain ⟨x, hx, _⟩ := h1 0 (by omega); simp at hx
  | a :: l, k, h1, h2 => by
    cases k with
    | zero => have := h2 a rfl; simp [List.takeWhile, this]
    | succ k =>
      obtain ⟨x, hx, hf⟩ := h1 0 (by omega)
      simp at hx; subst hx
      rw [List.takeWhile_cons, if_pos hf, List.length_cons, takeWhile_len f l k (fun j hj => by simpa using h1 (j + 1) (by omega)) (fun x hx => h2 x (by simpa using hx))]
theorem rev_take {t : Str} {i j : Nat} (hi : i ≤ t.length) (hj : j < i) : (t.take i).reverse[j]? = t[i - 1 - j]? := by
  rw [List.getElem?_reverse (by simp; omega)]
  simp only [List.length_take]
  rw [Nat.min_eq_left hi, List.getElem?_take_of_lt (by omega)]
theorem heldN_of {t : Str} {i k : Nat} (hi : i ≤ t.length) (hk : k ≤ i) (h1 : ∀ j, j < k → t[i - 1 - j]? = some 63) (h2 : k = i ∨ t[i - 1 - k]? ≠ some 63) : heldN t i = k := by
  refine takeWhile_len _ _ k (fun j hj => ⟨63, ?_, rfl⟩) (fun x hx => ?_)
  · rw [rev_take hi (by omega)]; exact h1 j hj
  · rcases h2 with rfl | h2
    · rw [List.getElem?_eq_none (by simp; omega)] at hx; cases hx
    · by_cases hki : k < i
      · rw [rev_take hi hki] at hx
        rw [hx] at h2
        simpa using h2
      · rw [List.getElem?_eq_none (by simp; omega)] at hx; cases hx
theorem at_byte (s : ByteArray) (i : Nat) (h : i < s.size) : s.data.toList[i]? = some (s[i]'h) := by
  show s.data.toList[i]? = some (s.data[i]'h)
  rw [List.getElem?_eq_getElem (by simpa using h)]
  simp
set_option maxRecDepth 100000 in
set_option maxHeartbeats 2000000 in
theorem held_any (r : Value) (s : ByteArray) (i : Nat) (hi : i ≤ s.size) (hs : s.size < 9223372036854775807) (w : World) : Calls Tryz.prog 145 #[r, .string s, .int .i64 (i : Int)] w fun e w' => e = .returned (.bool (heldN s.data.toList i % 2 == 1)) ∧ w = w' := by
  have heq : ∀ k : Nat, (((k : Int) % 2) == 1) = (k % 2 == 1) := fun k => by rw [Bool.eq_iff_iff, beq_iff_eq, beq_iff_eq]; omega
  have HEQ := Lib.hid heq
  clear heq
  go_enter Tryz.func145, Tryz.ntmps145
  go_wp2
  go_loop [7] (fun n => ∃ k : Nat, k ≤ i ∧ n = .int .i64 (k : Int) ∧ Hid (∀ j, j < k → s.data.toList[i - 1 - j]? = some 63)) (fun n => i - (intOf n).toNat)
  case atStart => exact ⟨0, by omega, rfl, Lib.hid fun j hj => absurd hj (by omega)⟩
  case round =>
    obtain ⟨k, hk, rfl, HK⟩ := hrel
    by_cases hlt : k < i
    · have hw1 : IntKind.i64.wrap ((i : Int) - 1) = ((i - 1 : Nat) : Int) := by rw [show ((i - 1 : Nat) : Int) = (i : Int) - 1 by omega]; exact IntWalk.i64_in _ (by omega)
      have hw2 : IntKind.i64.wrap (((i - 1 : Nat) : Int) - (k : Int)) = ((i - 1 - k : Nat) : Int) := by rw [show ((i - 1 - k : Nat) : Int) = ((i - 1 : Nat) : Int) - (k : Int) by omega]; exact IntWalk.i64_in _ (by omega)
      have hb : i - 1 - k < s.size := by omega
      have hA := at_byte s _ hb
      by_cases hq : s[i - 1 - k]'hb = 63
      · have hd : (((s[i - 1 - k]'hb).toNat : Int) == 63) = true := by rw [hq]; decide
        go_wp2
        go_round
        case rel =>
          refine ⟨k + 1, by omega, by go_num, Lib.hid fun j hj => ?_⟩
          by_cases hjk : j < k
          · exact HK.out j hjk
          · obtain rfl : j = k := by omega
            rw [hA, hq]
        case measure => simp [intOf]; omega
      · have hd : (((s[i - 1 - k]'hb).toNat : Int) == 63) = false := nat_eq _ 63 hq
        have HH := Lib.hid (show heldN s.data.toList i = k from heldN_of (by simpa using hi) hk HK.out (.inr (by rw [hA]; exact fun e => hq (Option.some.inj e))))
        go_wp2
        go_ret
        exact ⟨by rw [HH.out, ← HEQ.out k]; rfl, rfl⟩
    · obtain rfl : k = i := by omega
      have HH := Lib.hid (show heldN s.data.toList k = k from heldN_of (by simpa using hi) hk HK.out (.inl rfl))
      go_wp2
      go_ret
      exact ⟨by rw [HH.out, ← HEQ.out k]; rfl, rfl⟩
end Go.Proofs.YtgfijlamhjjecaaGreatDoor


namespace Go.Proofs.YtgfijlamhjjecaaGreatDoor
open Go.RowKit
theorem makeBytes_rowE (n : Nat) : madeCells #[.int .u8 0] n = rowA n fun _ => 0 := by
  apply Array.ext_getElem?
  intro j
  by_cases hj : j < n
  · rw [rowA_get _ hj]
    simp only [madeCells, Array.getElem?_map]
    rw [Array.getElem?_eq_getElem (by simpa using hj)]
    simp [Nat.mod_one, bv]
  · rw [Array.getElem?_eq_none (by simp [madeCells]; omega), Array.getElem?_eq_none (by rw [rowA_size]; omega)]
theorem make_bytesE (n : Nat) (hn : n ≤ 140737488355328) (u : World) : (Instr.makeSlice 72 (.int .i64 (n : Int)) (.int .i64 (n : Int))).run Tryz.prog u = .ok (.slice (some ⟨u.heap.size, 0, none⟩) n n) (u.alloc (.cells (rowA n fun _ => 0) 5)) := by
  obtain ⟨i0, hi, hz0, hz1, hz2⟩ := info_parts einfo_u8
  have h := run_make (P := Tryz.prog) u 72 5 i0 _ Tryz.underlying72 hi hz0 .i64 .i64 (n : Int) (n : Int) (by omega) (Int.le_refl _) (by rw [hz2]; omega) (by omega)
  rw [h, hz1]
  simp only [Int.toNat_natCast, Value.cells, Nat.mul_one, makeBytes_rowE]
def outF (l : Str) (k : Nat) : Sec := fun j => (compT (l.take k)).getD j 0
theorem outF_fit (l : Str) (k' : Nat) : (compT (l.take k')).length ≤ l.length + sgN l := by
  rw [compT_len]
  have := sgN_take_mono l k'
  have : (l.take k').length ≤ l.length := by rw [List.length_take]; omega
  omega
theorem outF_set (l : Str) (k j n : Nat) (c : UInt8) (hj : j = (compT (l.take k)).length) (hc : compT (l.take (k + 1)) = compT (l.take k) ++ [c]) (hn : j < n) : (rowA n (outF l k)).setIfInBounds j (.int .u8 (c.toNat : Int)) = rowA n (outF l (k + 1)) := by
  apply Array.ext_getElem?
  intro i
  by_cases hi : i < n
  · rw [rowA_get _ hi]
    by_cases e : i = j
    · subst e
      rw [Array.getElem?_setIfInBounds_self_of_lt (by rw [rowA_size]; exact hi)]
      unfold outF; rw [hc, hj]; simp [bv]
    · rw [Array.getElem?_setIfInBounds_ne (by omega), rowA_get _ hi]
      unfold outF; rw [hc]
      congr 2
      by_cases h2 : i < j
      · simp only [List.getD_eq_getElem?_getD]; rw [List.getElem?_append_left (by omega)]
      · simp only [List.getD_eq_getElem?_getD]; rw [List.getElem?_append_right (by omega), List.getElem?_eq_none (by omega), List.getElem?_eq_none (by simp; omega)]
  · rw [Array.getElem?_eq_none (by simp [rowA_size]; omega), Array.getElem?_eq_none (by rw [rowA_size]; omega)]
theorem copy2 {l : Str} {k j n : Nat} {c : UInt8} (hj : j = (compT (l.take k)).length) (hc : compT (l.take (k + 1)) = compT (l.take k) ++ [63, c]) (_hn : j + 2 ≤ n) : rowA n (splF (outF l k) j 2 (fun i => ([63, c] : Str).getD i 0)) = rowA n (outF l (k + 1)) := by
  apply rowA_congr
  intro i hi
  unfold splF outF
  rw [hc]
  simp only [List.getD_eq_getElem?_getD]
  by_cases h : j ≤ i ∧ i < j + 2
  · rw [if_pos h, List.getElem?_append_right (by omega), ← hj]
  · rw [if_neg h]
    by_cases h2 : i < j
    · rw [List.getElem?_append_left (by omega)]
    · rw [List.getElem?_append_right (by omega), List.getElem?_eq_none (by omega), List.getElem?_eq_none (by simp; omega)]
theorem row2_at (w : World) (b : Nat) (c : UInt8) (h0 : w.cell? ⟨b, 0, none⟩ = some (bv 63)) (h1 : w.cell? ⟨b, 1, none⟩ = some (bv c)) : ∀ j v, (rowL 2 (fun i => ([63, c] : Str).getD i 0))[j]? = some v → w.cell? ((⟨b, 0, none⟩ : Addr).add j) = some v := by
  intro j v hv
  rw [Addr.add_mid, Nat.zero_add]
  have hj : j < 2 := by have := (List.getElem?_eq_some_iff.1 hv).1; rwa [rowL_length] at this
  rw [rowL_get _ hj] at hv
  match j, hj with
  | 0, _ => rw [h0]; exact hv
  | 1, _ => rw [h1]; exact hv
theorem getD_mem (k : Nat) (h : k < 4) : (DE 0).getD k 0 ∈ DE 0 := by
  match k, h with
  | 0, _ => decide
  | 1, _ => decide
  | 2, _ => decide
  | 3, _ => decide
set_option maxRecDepth 100000 in
set_option maxHeartbeats 4000000 in
theorem bsr_any (w : World) (g : Nat) (s : ByteArray) (h : FullAt w g) (hs : s.size ≤ 1048576) :
    Calls Tryz.prog 257 #[.pointer (some ⟨g, 0, none⟩), .string s] w fun e w' => e = .returned (sv (compT s.data.toList)) ∧ Below w.heap.size w w' := by
  obtain ⟨l, hl⟩ : ∃ l, s.data.toList = l := ⟨_, rfl⟩
  have hll : l.length = s.size := by rw [← hl]; simp
  have HL := Lib.hid hl
  have HLL := Lib.hid hll
  have HFU := Lib.hid h
  have hnl := fun (w : World) (a : Option Addr) (n c n' c' : Nat) => run_neq_slice_nil_any (P := Tryz.prog) w 72 5 a n c n' c' Tryz.underlying72
  obtain ⟨nb, cap, k0, hc4, hcm, hnm⟩ := h.names
  have HNM := Lib.hid hnm
  have hsn := sgN_le l
  rw [hll] at hsn
  rw [hl]
  clear hl hll h hnm
  go_enter Tryz.func257, Tryz.ntmps257
  go_upto_if 26 with fail
  obtain ⟨d32, hd32⟩ : ∃ d, decide ((32 : Int) ≤ (s.size : Int)) = d := ⟨_, rfl⟩
  rw [hd32]
  clear hd32
  go_cut [5, 6] (fun ns ac wx => ns = .int .i64 ((s.size + sgN l : Nat) : Int) ∧ ac = .bool (decide (0 < sgN l)) ∧ Hid (wx.heap = w.heap) ∧ Hid (Below w.heap.size w wx))
  case first =>
    cases d32
    rotate_left
    · go_wp2_with fail
      go_loopw [5, 6, 32] (fun ns ac i wr => ∃ (k N : Nat) (a : Bool), k ≤ 4 ∧ i = .int .i64 (k : Int) ∧ ns = .int .i64 (N : Int) ∧ ac = .bool a ∧ Hid (N = s.size + cntD l k) ∧ Hid (a = decide (0 < cntD l k)) ∧ Hid (wr.heap = w.heap) ∧ Hid (Below w.heap.size w wr)) (fun _ _ i _ => 4 - (intOf i).toNat)
      case atStart => exact ⟨0, s.size, false, by omega, rfl, rfl, rfl, Lib.hid (by simp [cntD]), Lib.hid (by simp [cntD]), Lib.hid rfl, Lib.hid (Below.refl _ _)⟩
      case round =>
        obtain ⟨k, N, a, hk, rfl, rfl, rfl, HN, HA, HW, HBE⟩ := hrel
        by_cases h4 : k < 4
        · obtain ⟨c, hc⟩ : ∃ c, (DE 0).getD k 0 = c := ⟨_, rfl⟩
          have hcell : wr.cell? ⟨nb, k, none⟩ = some (.string ⟨#[c]⟩) := by
            have := HNM.out k h4
            rw [hc] at this
            exact (cell_ag (by rw [HW.out])).trans this
          have b1 : (0 : Int) ≤ k := by omega
          have b2 : (k : Int) < 4 := by omega
          have hsg : signB c = true := (mem_DE c).1 (by rw [← hc]; exact getD_mem k h4)
          obtain ⟨b, cap2, y1, y2, y3, _⟩ := HFU.out.yes hsg
          have y1' := (cell_ag (g := g) (j := c.toNat) (by rw [HW.out])).trans y1
          obtain ⟨cn, hcn⟩ : ∃ cn, c.toNat = cn := ⟨_, rfl⟩
          have hq : ((⟨#[c]⟩ : ByteArray)[0]'(Nat.zero_lt_one)).toNat = cn := hcn
          have hc256 := c.toNat_lt
          rw [hcn] at y1' hc256
          have b3 : (0 : Int) ≤ cn := by omega
          have b4 : (cn : Int) < 256 := by omega
          have HCO := Lib.hid (fun w => Tryz.strings_Count_one s c w)
          have hml : l.count c ≤ l.length := List.count_le_length
          have hcs := cntD_succ l k h4
          rw [hc] at hcs
          have HCS := Lib.hid hcs
          rw [HL.out] at HCO
          obtain ⟨m, hm⟩ : ∃ m, Lib.countByte l c = m := ⟨_, rfl⟩
          have hm' : l.count c = m := hm
          rw [HLL.out, hm'] at hml
          rw [hm] at HCO
          rw [hm'] at HCS
          have hNle : N ≤ s.size + s.size := by have h1 := HN.out; have h2 := cntD_mono l k hk; omega
          clear y1 hcn hc hm hm' hsg hcs
          by_cases hm0 : m = 0
          · subst hm0
            go_wp2_with (go_at_call 259; refine (HCO.out _).mono ?_; rintro e w' ⟨rfl, rfl⟩)
            go_roundw
            case rel =>
              have h1 := HCS.out
              rw [Nat.add_zero] at h1
              exact ⟨k + 1, N, a, by omega, by go_num, rfl, rfl, Lib.hid (by rw [h1]; exact HN.out), Lib.hid (by rw [h1]; exact HA.out), HW, HBE⟩
            case measure => simp [intOf]; omega
          · have hm1 : ((m : Int) != 0) = true := by simp; omega
            have w1 : IntKind.i64.wrap ((m : Int) * 1) = (m : Int) := by rw [Int.mul_one]; exact IntWalk.i64_in _ (by omega)
            have w2 : IntKind.i64.wrap ((N : Int) + (m : Int)) = (N : Int) + (m : Int) := IntWalk.i64_in _ (by omega)
            go_upto_region 9 with (go_at_call 259; refine (HCO.out _).mono ?_; rintro e w' ⟨rfl, rfl⟩)
            go_quiet (fail)
            go_wp2_with fail
            go_roundw
            case rel =>
              have h1 := HCS.out
              exact ⟨k + 1, N + m, true, by omega, by go_num, by go_num, rfl, Lib.hid (by rw [h1, HN.out]; omega), Lib.hid (by rw [h1]; symm; rw [decide_eq_true_eq]; omega), Lib.hid HW.out, Lib.hid (HBE.out.trans ⟨rfl, rfl, rfl, Nat.le_refl _, fun _ _ => rfl⟩)⟩
            case measure => simp [intOf]; omega
        · obtain rfl : k = 4 := by omega
          have hNe : s.size + sgN l = N := by rw [HN.out, cntD_four]
          have hAe : decide (0 < sgN l) = a := by rw [HA.out, cntD_four]
          have HNE := Lib.hid hNe
          have HAE := Lib.hid hAe
          clear hNe hAe
          go_wp2_with fail
          go_meet
          case rel => exact ⟨by rw [HNE.out], by rw [HAE.out], HW, HBE⟩
    · go_wp2_with fail
      go_loopw [5, 6, 10] (fun ns ac i wr => ∃ (k N : Nat) (a : Bool), k ≤ s.size ∧ i = .int .i64 (k : Int) ∧ ns = .int .i64 (N : Int) ∧ ac = .bool a ∧ Hid (N = s.size + sgN (l.take k)) ∧ Hid (a = decide (0 < sgN (l.take k))) ∧ wr = w) (fun _ _ i _ => s.size - (intOf i).toNat)
      case atStart => exact ⟨0, s.size, false, by omega, rfl, rfl, rfl, Lib.hid (by simp [sgN]), Lib.hid (by simp [sgN]), rfl⟩
      case round =>
        obtain ⟨k, N, a, hk, rfl, rfl, rfl, HN, HA, rfl⟩ := hrel
        by_cases hlt : k < s.size
        · obtain ⟨c, hc⟩ : ∃ c, s[k]'hlt = c := ⟨_, rfl⟩
          have hcl : l[k]? = some c := by rw [← HL.out, ← hc]; exact at_byte s _ hlt
          have hsu := sgN_take hcl
          have hle := sgN_take_le l k
          have hN := HN.out
          obtain ⟨cn, hcn⟩ : ∃ cn, c.toNat = cn := ⟨_, rfl⟩
          have hc256 := c.toNat_lt
          have hq : (s[k]'hlt).toNat = cn := by rw [hc]; exact hcn
          rw [hcn] at hc256
          have b3 : (0 : Int) ≤ cn := by omega
          have b4 : (cn : Int) < 256 := by omega
          have hNle : N ≤ s.size + s.size := by rw [HLL.out] at hle; omega
          cases hsb : signB c with
          | true =>
            obtain ⟨b, cap2, y1, y2, y3, _⟩ := HFU.out.yes hsb
            rw [hcn] at y1
            rw [hsb, if_pos rfl] at hsu
            have HSU := Lib.hid hsu
            clear hsu hN hc hcl hcn hsb
            go_wp2_with fail
            go_roundw
            case rel =>
              have h1 := HSU.out
              exact ⟨k + 1, N + 1, true, by omega, by go_num, by go_num, rfl, Lib.hid (by rw [h1, HN.out]; omega), Lib.hid (by rw [h1]; symm; rw [decide_eq_true_eq]; omega), trivial⟩
            case measure => simp [intOf]; omega
          | false =>
            have y1 := HFU.out.no hsb
            rw [hcn] at y1
            rw [hsb, if_neg (by simp), Nat.add_zero] at hsu
            have HSU := Lib.hid hsu
            clear hsu hN hc hcl hcn hsb
            go_wp2_with fail
            go_roundw
            case rel =>
              have h1 := HSU.out
              exact ⟨k + 1, N, a, by omega, by go_num, rfl, rfl, Lib.hid (by rw [h1]; exact HN.out), Lib.hid (by rw [h1]; exact HA.out), trivial⟩
            case measure => simp [intOf]; omega
        · obtain rfl : k = s.size := by omega
          have e : l.take s.size = l := List.take_of_length_le (by rw [HLL.out]; exact Nat.le_refl _)
          have hN := HN.out
          have hA := HA.out
          rw [e] at hN hA
          have HNE := Lib.hid hN
          have HAE := Lib.hid hA
          clear hN hA e
          go_wp2_with fail
          go_meet
          case rel => exact ⟨by rw [HNE.out], by rw [HAE.out], Lib.hid rfl, Lib.hid (Below.refl _ _)⟩
  case rest =>
    obtain ⟨rfl, rfl, hh, hb⟩ := hcut
    have HFU2 := Lib.hid (HFU.out.cong (w' := wc) (fun k _ => by rw [hh.out]))
    obtain ⟨n, hn⟩ : ∃ n, s.size + sgN l = n := ⟨_, rfl⟩
    have hn2 : n ≤ 2097152 := by omega
    have HNN := Lib.hid hn
    rw [hn]
    clear k0 HNM hc4 hcm hn
    obtain ⟨A, hA⟩ : ∃ A, decide (0 < sgN l) = A := ⟨_, rfl⟩
    rw [hA]
    by_cases hz : sgN l = 0
    · have hz2 : A = false := by rw [← hA, decide_eq_false_iff_not]; omega
      subst hz2
      clear hA
      have HZ := Lib.hid (compT_same hz)
      clear hz
      go_wp2_with fail
      go_ret
      exact ⟨by rw [HZ.out, ← HL.out]; rfl, hb.out⟩
    · have hz2 : A = true := by rw [← hA, decide_eq_true_eq]; omega
      subst hz2
      clear hA
      have hmk := make_bytesE n (by omega) wc
      have hws := hb.out.size
      have HSZ := Lib.hid hz
      clear hz
      go_upto_block 4 with fail
      obtain ⟨qb, hqb⟩ : ∃ qb, wc.heap.size = qb := ⟨_, rfl⟩
      obtain ⟨w1, hw1⟩ : ∃ w1, wc.alloc (.cells (rowA n fun _ => 0) 5) = w1 := ⟨_, rfl⟩
      have HR1 := Lib.hid (show w1.heap[qb]? = some (.cells (rowA n (outF l 0)) 5 (0, 0)) by rw [← hw1, ← hqb]; exact heap_alloc_new _ _)
      have HO1 := Lib.hid (show ∀ k, k < qb → w1.heap[k]? = wc.heap[k]? by rw [← hw1, ← hqb]; exact fun k hk => Below.heap_alloc _ _ _ hk)
      have HB1 := Lib.hid (show Below w.heap.size w w1 by rw [← hw1]; exact hb.out.alloc hws _)
      rw [hqb] at hws
      have HQB := Lib.hid hqb
      rw [hqb, hw1]
      clear hqb hw1 hmk
      have hgq : g < qb := by rw [← HQB.out]; exact HFU2.out.lt
      go_wp2_with fail
      go_loopw [13, 14] (fun js i wr => ∃ (k j : Nat), k ≤ s.size ∧ i = .int .i64 (k : Int) ∧ js = .int .i64 (j : Int) ∧ Hid (j = (compT (l.take k)).length) ∧ Hid (wr.heap[qb]? = some (.cells (rowA n (outF l k)) 5 (0, 0))) ∧ Hid (∀ k, k < qb → wr.heap[k]? = wc.heap[k]?) ∧ Hid (Below w.heap.size w wr)) (fun _ i _ => s.size - (intOf i).toNat)
      case atStart => exact ⟨0, 0, by omega, rfl, rfl, Lib.hid rfl, HR1, HO1, HB1⟩
      case round =>
        obtain ⟨k, j, hk, rfl, rfl, HJ, HR, HO, HBE⟩ := hrel
        clear HR1 HO1 HB1
        by_cases hlt : k < s.size
        · obtain ⟨c, hc⟩ : ∃ c, s[k]'hlt = c := ⟨_, rfl⟩
          have hcl : l[k]? = some c := by rw [← HL.out, ← hc]; exact at_byte s _ hlt
          have hct := compT_take hcl
          have hnl := outF_fit l
          rw [HLL.out, HNN.out] at hnl
          have hjn := hnl (k + 1)
          rw [hct, List.length_append, ← HJ.out] at hjn
          clear hnl
          obtain ⟨cn, hcn⟩ : ∃ cn, c.toNat = cn := ⟨_, rfl⟩
          have hc256 := c.toNat_lt
          have hq : (s[k]'hlt).toNat = cn := by rw [hc]; exact hcn
          rw [hcn] at hc256
          have b3 : (0 : Int) ≤ cn := by omega
          have b4 : (cn : Int) < 256 := by omega
          have HCT := Lib.hid hct
          cases hsb : signB c with
          | true =>
            obtain ⟨b, cap2, y0, y2, y3, y4, y5⟩ := HFU2.out.yes hsb
            have y1 := (cell_ag (HO.out g hgq)).trans y0
            rw [hcn] at y1
            have he : escB c = [63, c] := by unfold escB; rw [hsb]; rfl
            rw [he] at hjn
            have hjn' : j + 2 ≤ n := by simp at hjn; omega
            have hbq : b < qb := by rw [← HQB.out]; exact cell_lt' y4
            have y4' := (cell_ag (HO.out b hbq)).trans y4
            have y5' := (cell_ag (HO.out b hbq)).trans y5
            have b5 : (0 : Int) ≤ j := by omega
            have b6 : (j : Int) ≤ n := by omega
            have b7 : (j : Int) < n := by omega
            have b8 : ¬ n = j := by omega
            have HN := Lib.hid (copy2 (n := n) HJ.out (by rw [HCT.out, he]) hjn')
            have HJ2 := Lib.hid (show j + 2 = (compT (l.take (k + 1))).length by rw [HCT.out, he, List.length_append, ← HJ.out]; rfl)
            have HSR := Lib.hid (row2_at wr b c y4' y5')
            have w2 : IntKind.i64.wrap ((j : Int) + 2) = (j : Int) + 2 := IntWalk.i64_in _ (by omega)
            clear hct hjn hc hcl hsb he y0 y4 y5 y4' y5'
            go_upto_region 28 with fail
            refine wp_region_plan [(0, false), (1, false), (2, false), (3, false), (4, false), (5, false), (6, false), (7, false), (8, false), (9, false), (10, true), (11, false), (12, false)] (fun w' => w'.cell? ⟨g, cn, none⟩ = some (.slice (some ⟨b, 0, none⟩) 2 cap2)) (by kernel_rfl) (by kernel_rfl) y1 ?_
            iterate 10 (refine' plan_val rfl rfl (fun w' hS => ?_) ?_; rotate_left; (focus (go_simp; rfl)); simp only [Act.put, List.setIfInBounds_toArray, List.set_cons_zero, List.set_cons_succ])
            refine plan_do rfl (fun K hK => ?_)
            refine wpList_val rfl (exec_copy (xv := .slice (some ⟨qb, j, none⟩) (n - j) (n - j)) (yv := .slice (some ⟨b, 0, none⟩) 2 cap2) rfl rfl rfl (fun ty => run_copy_bytes (P := Tryz.prog) wr.drew 72 72 5 qb j (n - j) (n - j) ⟨b, 0, none⟩ 2 cap2 n 2 (outF l k) (fun i => ([63, c] : Str).getD i 0) 5 Tryz.underlying72 (by kernel_rfl) HR.out (by show 2 = min 2 (n - j); omega) HSR.out hjn' ty)) ?_
            rw [HN.out]
            have hgq2 : g ≠ qb := by omega
            have y1'' : (wr.drew.setRow qb (rowA n (outF l (k + 1)))).cell? ⟨g, cn, none⟩ = some (.slice (some ⟨b, 0, none⟩) 2 cap2) := (cell_ag (setRow_other wr.drew qb g _ hgq2)).trans y1
            refine hK _ _ y1'' ?_
            clear hK K
            iterate 2 (refine' plan_val rfl rfl (fun w' hS => ?_) ?_; rotate_left; (focus (go_simp; rfl)); simp only [Act.put, List.setIfInBounds_toArray, List.set_cons_zero, List.set_cons_succ])
            refine plan_nil ?_
            have HR2 := Lib.hid (setRow_heap wr.drew qb (rowA n (outF l k)) (rowA n (outF l (k + 1))) _ _ HR.out)
            have HO2 := Lib.hid (show ∀ x, x < qb → (wr.drew.setRow qb (rowA n (outF l (k + 1)))).heap[x]? = wc.heap[x]? from fun x hx => (setRow_other wr.drew qb x _ (by omega)).trans (HO.out x hx))
            have HB2 := Lib.hid (show Below w.heap.size w (wr.drew.setRow qb (rowA n (outF l (k + 1)))) from HBE.out.trans ⟨rfl, rfl, rfl, by simp, fun x hx => setRow_other wr.drew qb x _ (by omega)⟩)
            clear y1'' y1
            go_wp2_with fail
            go_roundw
            case rel => exact ⟨k + 1, j + 2, by omega, by go_num, by go_num, HJ2, HR2, HO2, HB2⟩
            case measure => simp [intOf]; omega
          | false =>
            have y1 := (cell_ag (HO.out g hgq)).trans (HFU2.out.no hsb)
            rw [hcn] at y1
            have he : escB c = [c] := by unfold escB; rw [hsb]; rfl
            rw [he] at hjn
            have hjn' : j < n := by simp at hjn; omega
            have b5 : (0 : Int) ≤ j := by omega
            have b6 : (j : Int) < n := by omega
            have k1 : wr.cell? ⟨qb, j, none⟩ = some (bv (outF l k j)) := by rw [cell_of_row wr qb j _ _ _ HR.out, rowA_get _ hjn']
            have z1 := frozen_of_row wr qb j _ _ HR.out
            have HN := Lib.hid (show (wr.setCell ⟨qb, j, none⟩ (.int .u8 (cn : Int))).heap[qb]? = some (.cells (rowA n (outF l (k + 1))) 5 (0, 0)) by
              rw [heap_setCell_same wr qb j _ _ _ HR.out, ← hcn, outF_set l k j n c HJ.out (by rw [HCT.out, he]) hjn'])
            have HJ2 := Lib.hid (show j + 1 = (compT (l.take (k + 1))).length by rw [HCT.out, he, List.length_append, ← HJ.out]; rfl)
            clear hct hjn hc hcl hcn hsb he HR
            go_wp2_with fail
            go_roundw
            case rel => exact ⟨k + 1, j + 1, by omega, by go_num, by go_num, HJ2, HN, Lib.hid (fun x hx => (heap_setCell_other wr _ _ _ (by simp; omega)).trans (HO.out x hx)), Lib.hid (HBE.out.setCell (by simpa using hws) _)⟩
            case measure => simp [intOf]; omega
        · obtain rfl : k = s.size := by omega
          have e : l.take s.size = l := List.take_of_length_le (by rw [HLL.out]; exact Nat.le_refl _)
          have hR := HR.out
          unfold outF at hR
          rw [e] at hR
          have hcn : (compT l).length = n := by rw [compT_len, HLL.out, HNN.out]
          have hcv : (convert 72 9 (.slice (some ⟨qb, 0, none⟩) n n)).run Tryz.prog wr = .ok (.string ⟨(compT l).toArray⟩) wr := by
            have := run_convert_bytes_back (P := Tryz.prog) wr 72 9 5 ⟨qb, 0, none⟩ n (compT l) Tryz.underlying72 Tryz.underlying5 Tryz.underlying9 (fun j hj => by
              rw [Addr.add_mid, Nat.zero_add, cell_of_row wr qb j _ _ _ hR, rowA_get _ (by omega)]
              simp [bv, hj])
            rw [hcn] at this
            exact this
          clear hR hcn e HR
          go_wp2_with fail
          go_ret
          exact ⟨rfl, HBE.out⟩
end Go.Proofs.YtgfijlamhjjecaaGreatDoor


namespace Go.Proofs.YtgfijlamhjjecaaGreatDoor
open Go.RowKit
theorem TabAt.full {w : World} {B g : Nat} (h : TabAt w B g (DE 0) (DE 0)) : FullAt w g := by
  obtain ⟨C, tv, h⟩ := h; exact ⟨B, C, tv, h⟩
theorem method_repl (a : Addr) (w : World) : (method 457 296 (.pointer (some a)) "Replace").run Tryz.prog w = .ok (257, .pointer (some a)) w := by kernel_rfl
set_option maxRecDepth 100000 in
theorem replace_any (w : World) (rb ob cap : Nat) (r : Value) (s : ByteArray) (hs : s.size ≤ 1048576) (hR : RepAt w rb 0 0 r (.slice (some ⟨ob, 0, none⟩) 8 cap)) (hO : OldAt w ob) (hne : ob ≠ rb) (hcap : 8 ≤ cap) (hc2 : cap ≤ maxLen) :
    Calls Tryz.prog 139 #[.pointer (some ⟨rb, 0, none⟩), .string s] w fun e w' => e = .returned (sv (compT s.data.toList)) ∧ Fr [rb] w w' := by
  have HD := Lib.hid (do_any w rb ob cap r hR hO hne hcap hc2)
  have hm := fun w g => method_repl ⟨g, 0, none⟩ w
  clear hR hO hc2
  go_enter Tryz.func139, Tryz.ntmps139
  go_wp2_with first | (go_at_call 257; refine HS.out.mono ?_; rintro e w2 ⟨rfl, hb2⟩; have HB2 := Lib.hid hb2; clear hb2) | (go_at_call 164; refine HD.out.mono ?_; rintro e w1 ⟨rfl, ⟨g, hr, ht⟩, hf⟩; have HT := Lib.hid ht.full; have HF := Lib.hid hf; have c3 := hr.cell 3; have HS := Lib.hid (bsr_any w1 g s HT.out hs); unfold repV at *; clear hr ht hf)
  go_ret
  exact ⟨rfl, HF.out.then_below HB2.out HF.out.size⟩
end Go.Proofs.YtgfijlamhjjecaaGreatDoor


namespace Go.Proofs.YtgfijlamhjjecaaGreatDoor
open Go.RowKit
theorem lies_bld : liesAt Tryz.prog Tryz.prog.depth 203 (2 / Tryz.prog.cellsOf 203) 0 203 1 = true := by kernel_rfl
theorem size_bld : (Tryz.prog.info? 203).map (·.size) = some 2 := by kernel_rfl
set_option maxRecDepth 100000 in
set_option maxHeartbeats 1000000 in
theorem copyCheck_used (b : Nat) (w : World) (h0 : w.cell? ⟨b, 0, none⟩ = some (.pointer (some ⟨b, 0, none⟩))) :
    Calls Tryz.prog 167 #[.pointer (some ⟨b, 0, none⟩)] w fun e w' => e = .returned (.tuple #[]) ∧ w' = w := by
  obtain ⟨j, hj, _⟩ := Option.map_eq_some_iff.1 size_bld
  go_enter Tryz.func167, Tryz.ntmps167
  go_wp2
  rw [Lib.run_neq_ptr_same w _ Tryz.underlying201 hj]
  go_wp2
  go_end0
  exact ⟨rfl, rfl⟩
set_option maxRecDepth 100000 in
set_option maxHeartbeats 1000000 in
theorem copyCheck_fresh (b : Nat) (w : World) (h0 : w.cell? ⟨b, 0, none⟩ = some (.pointer none)) (hsh : w.shape? b = some (203, 2)) (hfz : w.frozen? ⟨b, 0, none⟩ = false) :
    Calls Tryz.prog 167 #[.pointer (some ⟨b, 0, none⟩)] w fun e w' => e = .returned (.tuple #[]) ∧ w' = w.setCell ⟨b, 0, none⟩ (.pointer (some ⟨b, 0, none⟩)) := by
  obtain ⟨j, hj, hjs⟩ := Option.map_eq_some_iff.1 size_bld
  go_enter Tryz.func167, Tryz.ntmps167
  go_wp2
  rw [Lib.run_to_unsafe w ⟨b, 0, none⟩ Tryz.underlying201 Tryz.underlying275 hj (by rw [hjs]; decide) hsh (Nat.zero_lt_succ 1)]
  simp only [Result.andThen]
  rw [Oper.upon_value]
  go_wp2
  rw [run_callFunc_extern Tryz.func185 (by kernel_rfl) (by kernel_rfl) (by kernel_rfl) (e := Extern.AbiNoEscape.same) (by kernel_rfl)]
  rw [Lib.run_noEscape]
  simp only [Result.andThen]
  rw [Oper.upon_value]
  go_wp2
  rw [Lib.run_from_unsafe w ⟨b, 0, none⟩ Tryz.underlying275 Tryz.underlying201 hj hsh lies_bld]
  simp only [Result.andThen]
  rw [Oper.upon_value]
  go_wp2
  go_end0
  exact ⟨rfl, rfl⟩
def BldAt (w : World) (B b : Nat) (l : Str) : Prop := Lib.IsBuilder 203 5 B b (Lib.byteCells l) w
theorem copyCheck_any (B b : Nat) (bs : List Value) (w : World) (h : Lib.IsBuilder 203 5 B b bs w) :
    Calls Tryz.prog 167 #[.pointer (some ⟨b, 0, none⟩)] w fun e w' => e = .returned (.tuple #[]) ∧ Lib.BuilderAt 203 5 B b (.pointer (some ⟨b, 0, none⟩)) bs w' ∧ Below B w w' := by
  rcases h with h | h
  · refine (copyCheck_fresh b w h.cell0 h.shape h.frozen0).mono ?_
    rintro e w' ⟨rfl, rfl⟩
    exact ⟨rfl, h.used _, (Below.refl _ _).setCell h.1 _⟩
  · refine (copyCheck_used b w h.cell0).mono ?_
    rintro e w' ⟨rfl, rfl⟩
    exact ⟨rfl, h, Below.refl _ _⟩
set_option maxRecDepth 100000 in
set_option maxHeartbeats 2000000 in
theorem writeString_any (B b : Nat) (l : Str) (s : ByteArray) (w : World) (h : BldAt w B b l) (hlen : l.length + s.size ≤ 140737488355328) (hBw : B ≤ w.heap.size) :
    Calls Tryz.prog 141 #[.pointer (some ⟨b, 0, none⟩), .string s] w fun e w' => e = .returned (.tuple #[.int .i64 s.size, .nilIface]) ∧ BldAt w' B b (l ++ s.data.toList) ∧ Below B w w' := by
  obtain ⟨i0, hi, hz0, hz1, hz2⟩ := info_parts einfo_u8
  have hbl : (Lib.byteCells l).length = l.length := Lib.byteCells_length l
  obtain ⟨bs, hbs⟩ : ∃ bs, Lib.byteCells l = bs := ⟨_, rfl⟩
  have HBS := Lib.hid hbs
  unfold BldAt at h ⊢
  rw [hbs] at h hbl
  have hlen' : bs.length + s.size ≤ 140737488355328 := by omega
  have HC := Lib.hid (copyCheck_any B b bs w h)
  clear hbs hbl h hlen
  go_enter Tryz.func141, Tryz.ntmps141
  go_wp2_with (go_at_call 167; refine HC.out.mono ?_)
  rintro e w1 ⟨rfl, h1, hb1⟩
  obtain ⟨hB, v, hbk, hown, hne⟩ := h1
  have c0 : w1.cell? ⟨b, 0, none⟩ = some (.pointer (some ⟨b, 0, none⟩)) := by rw [cell_of_row w1 b 0 _ _ _ hbk]; rfl
  have c1 : w1.cell? ⟨b, 1, none⟩ = some v := by rw [cell_of_row w1 b 1 _ _ _ hbk]; rfl
  go_wp2_with (at_builtin; refine Lib.wpList_append_own_string _ rfl _ _ 72 9 rfl B 5 i0 Tryz.underlying72 Tryz.underlying9 hi hz0 hz1 hz2 _ _ _ rfl hown s rfl ?c3 ?c4 ?c5 ?_)
  case c3 => unfold maxLen; omega
  case c4 => omega
  case c5 => have := hb1.size; omega
  intro v' w2 hown' hgrow _
  have hlt : b < w1.heap.size := (Array.getElem?_eq_some_iff.1 hbk).1
  have hb2 : w2.heap[b]? = some (.cells #[.pointer (some ⟨b, 0, none⟩), v] 203 (0, 0)) := by
    rw [hgrow.block b hlt (fun e => hne e.symm)]
    exact hbk
  have d0 : w2.cell? ⟨b, 0, none⟩ = some (.pointer (some ⟨b, 0, none⟩)) := by rw [cell_of_row w2 b 0 _ _ _ hb2]; rfl
  have d1 : w2.cell? ⟨b, 1, none⟩ = some v := by rw [cell_of_row w2 b 1 _ _ _ hb2]; rfl
  have f1 : w2.frozen? ⟨b, 1, none⟩ = false := frozen_of_row w2 b 1 _ _ hb2
  obtain ⟨ao, n', cap, rfl⟩ : ∃ ao n' cap, v' = .slice ao n' cap := by
    rcases hown'.2 with ⟨hv, _⟩ | ⟨g, cap, cur, hv, _⟩
    · exact ⟨_, _, _, hv⟩
    · exact ⟨_, _, _, hv⟩
  go_wp2
  go_ret2
  refine ⟨rfl, .inr ?_, ?_⟩
  · have hbe : Lib.byteCells (l ++ s.data.toList) = bs ++ Lib.strCells s := by rw [← HBS.out]; simp [Lib.byteCells, Lib.strCells]
    rw [hbe]
    exact Lib.BuilderAt.put (T := 203) (e := 5) hB hb2 (bs' := bs ++ Lib.strCells s) (by simpa [Lib.strCells_length] using hown') (by decide)
  · exact (hb1.grown hgrow (by have := hb1.size; omega) (fun k hk => (hown.lt k hk).1)).setCell (p := ⟨b, 1, none⟩) hB _
theorem joinB_eq (c : UInt8) (xs : List Str) : joinB c xs = Lib.join xs [c] := by
  cases xs with
  | nil => rfl
  | cons a l =>
    rw [joinB_cons, Lib.join_cons, Lib.joinTail, List.flatMap_def]
    rfl
set_option maxRecDepth 100000 in
theorem join_any {S : Nat → Prop} (w : World) (c : UInt8) (v : Value) (xs : List Str) (h : CompsAt S w v xs) (hN : xs.length ≤ 1048576) (hl : (joinB c xs).length ≤ 140737488355328) :
    Calls Tryz.prog 140 #[.string ⟨#[c]⟩, v] w fun e w' => e = .returned (sv (joinB c xs)) ∧ Below w.heap.size w w' := by
  obtain ⟨ao, cap, rfl, h1, h2, h3, h4⟩ := h
  rw [List.length_map] at h1 ⊢
  have HJ : Hid (Calls Tryz.prog 166 #[.slice ao xs.length cap, .string ⟨#[c]⟩] w fun e w' => e = .returned (sv (joinB c xs)) ∧ Below w.heap.size w w') := Lib.hid (by
    cases xs with
    | nil => exact (Tryz.strings_Join_none ao cap ⟨#[c]⟩ w).mono (fun e w' ⟨h, h'⟩ => ⟨h, h' ▸ Below.refl _ _⟩)
    | cons a l =>
      obtain ⟨b, off, rfl, _, hc⟩ := h4 (by simp)
      have hb : b < w.heap.size := cell_lt' (hc 0 (sv a) (by simp))
      have hm : (((a :: l).map fun s => (⟨s.toArray⟩ : ByteArray)).map (·.data.toList)) = a :: l := by rw [List.map_map]; exact List.map_id _
      have := Tryz.strings_Join b off cap ((a :: l).map fun s => ⟨s.toArray⟩) ⟨#[c]⟩ w (fun j x hx => by
        rw [List.getElem?_map, Option.map_eq_some_iff] at hx
        obtain ⟨y, hy, rfl⟩ := hx
        exact hc j (sv y) (by rw [List.getElem?_map, hy]; rfl)) hb (by simp at hN ⊢; omega) (by simpa using h1) (by rw [hm, ← joinB_eq]; exact hl)
      rw [hm, ← joinB_eq, List.length_map] at this
      exact this)
  obtain ⟨J, hJ⟩ : ∃ J, sv (joinB c xs) = J := ⟨_, rfl⟩
  rw [hJ] at HJ ⊢
  clear hJ h3 h4
  go_enter Tryz.func140, Tryz.ntmps140
  go_wp2_with (go_at_call 166; refine HJ.out.mono ?_; rintro e w1 ⟨rfl, hb⟩)
  go_ret
  exact ⟨rfl, hb⟩
end Go.Proofs.YtgfijlamhjjecaaGreatDoor


namespace Go.Proofs.YtgfijlamhjjecaaGreatDoor
open Go.RowKit
def argE (es : List (List Str)) : Bool := es.any fun e => e.isEmpty
def signC (e : List Str) : Bool := e.any fun p => p.any badB
def signE (es : List (List Str)) : Bool := es.any signC
def longC (e : List Str) : Bool := e.any fun p => decide (256 < p.length)
def longE (es : List (List Str)) : Bool := es.any fun e => decide (8 < e.length) || longC e
def argS (s : Seg) : Bool := tagBad s.tag || argE s.elems
def longS (s : Seg) : Bool := decide (16 < s.elems.length) || longE s.elems
theorem argP_eq (l : List Seg) : argP l = l.any argS := rfl
theorem signP_eq (l : List Seg) : signP l = l.any fun s => signE s.elems := rfl
theorem longP_eq (l : List Seg) : longP l = (decide (64 < l.length) || l.any longS) := rfl
theorem any_take {α : Type} {l : List α} {k : Nat} {x : α} (f : α → Bool) (h : l[k]? = some x) : (l.take (k + 1)).any f = ((l.take k).any f || f x) := by
  rw [List.take_add_one, h]; simp [List.any_append]
theorem printT_take {l : List Seg} {k : Nat} {s : Seg} (h : l[k]? = some s) : printT (l.take (k + 1)) = printT (l.take k) ++ segT s := by
  rw [List.take_add_one, h]; simp [printT]
theorem joinB_words (t : Str) (es : List (List Str)) : joinB 43 (t :: es.map elemT) ++ [39] = segT ⟨t, es⟩ := by
  unfold segT
  rw [joinB_cons, List.flatMap_map]
theorem map_take_succ {α β : Type} {l : List α} {k : Nat} {x : α} (f : α → β) (h : l[k]? = some x) : (l.take (k + 1)).map f = (l.take k).map f ++ [f x] := by
  rw [List.take_add_one, h]; simp
def partsL (e : List Str) (i : Nat) : List Str := (e.take i).map compT ++ e.drop i
theorem partsL_all (e : List Str) : partsL e e.length = e.map compT := by unfold partsL; rw [List.take_length, List.drop_length, List.append_nil]
theorem partsL_len (e : List Str) (i : Nat) : (partsL e i).length = e.length := by unfold partsL; rw [List.length_append, List.length_map, ← List.length_append, List.take_append_drop]
theorem partsL_get {e : List Str} {i : Nat} {p : Str} (h : e[i]? = some p) : (partsL e i)[i]? = some p := by
  have hi : i < e.length := (List.getElem?_eq_some_iff.1 h).1
  unfold partsL
  rw [List.getElem?_append_right (by simp; omega), List.getElem?_drop]
  simp
  rw [show i + (i - min i e.length) = i by omega]; exact h
theorem partsL_set {e : List Str} {i : Nat} {p : Str} (h : e[i]? = some p) : (partsL e i).set i (compT p) = partsL e (i + 1) := by
  have hi : i < e.length := (List.getElem?_eq_some_iff.1 h).1
  have hd : e.drop i = p :: e.drop (i + 1) := by
    obtain ⟨_, he⟩ := List.getElem?_eq_some_iff.1 h
    rw [List.drop_eq_getElem_cons hi, he]
  unfold partsL
  rw [map_take_succ compT h, List.set_append_right _ _ (by simp; omega), hd]
  simp [Nat.min_eq_left (Nat.le_of_lt hi)]
theorem BldAt.cong {w w' : World} {B b : Nat} {l : Str} (h : BldAt w B b l) (e : ∀ (k : Nat) (C : Array Value) (f : Nat × Nat) (t : TypeId), w.heap[k]? = some (.cells C t f) → t ≠ 9 → w'.heap[k]? = w.heap[k]?) : BldAt w' B b l := by
  have H : ∀ p, Lib.BuilderAt 203 5 B b p (Lib.byteCells l) w → Lib.BuilderAt 203 5 B b p (Lib.byteCells l) w' := fun p ⟨hB, v, hb, ho, hn⟩ => by
    refine ⟨hB, v, (e b _ _ _ hb (by decide)).trans hb, own_cong ho (fun k hk => ?_), hn⟩
    obtain ⟨C, hC, _⟩ := own_ty ho hk
    exact e k _ _ _ hC (by decide)
  rcases h with h | h
  · exact .inl (H _ h)
  · exact .inr (H _ h)
theorem BldAt.cong' {w w' : World} {B b : Nat} {l : Str} (h : BldAt w B b l) (e : ∀ k, k < w.heap.size → w'.heap[k]? = w.heap[k]?) : BldAt w' B b l := BldAt.cong h fun k _ _ _ hk _ => e k (Array.getElem?_eq_some_iff.1 hk).1
theorem clone_any {S : Nat → Prop} (w : World) (v : Value) (e : List Str) (h : CompsAt S w v e) (hn : e.length ≤ 1048576) :
    Calls Tryz.prog 135 #[v] w fun r w' => ∃ v', r = .returned v' ∧ w'.ownsRow w.heap.size 9 1 v' e.length (e.map sv) ∧ Below w.heap.size w w' := by
  obtain ⟨ao, cap, rfl, h1, h2, h3, h4⟩ := h
  rw [List.length_map] at h1 ⊢
  cases ao with
  | none =>
    have h0 : e.length = 0 := by have := h3 rfl; omega
    refine (Tryz.slices_Clone_string_nil e.length cap w).mono fun r w' ⟨h, h'⟩ => ?_
    subst h'
    rw [h0, List.length_eq_zero_iff.1 h0]
    exact ⟨_, h, World.ownsRow_nil _ _ _ _, Below.refl _ _⟩
  | some a =>
    cases he : e with
    | nil =>
      refine (Tryz.slices_Clone_string_zero a cap w).mono fun r w' ⟨v', h, ho, _, hb⟩ => ?_
      exact ⟨v', h, ho, hb⟩
    | cons p q =>
      obtain ⟨b, off, hab, _, hc⟩ := h4 (by rw [he]; simp)
      cases hab
      rw [← he]
      have := Tryz.slices_Clone_string b off e.length cap (e.map fun s => ⟨s.toArray⟩) w (by rw [List.length_map]; exact Nat.le_refl _) (by omega) (fun j hj => by
        rw [List.length_map] at hj
        have hx : e[j]? = some e[j] := List.getElem?_eq_getElem hj
        rw [hc j (sv e[j]) (by rw [List.getElem?_map, hx]; rfl), List.getD_eq_getElem?_getD, List.getElem?_map, hx]; rfl)
      refine this.mono fun r w' ⟨v', h, ho, _, hb⟩ => ⟨v', h, ?_, hb⟩
      rw [List.take_of_length_le (by rw [List.length_map]; exact Nat.le_refl _), List.map_map] at ho
      exact ho
end Go.Proofs.YtgfijlamhjjecaaGreatDoor


namespace Go.Proofs.YtgfijlamhjjecaaGreatDoor
open Go.RowKit
section
variable {S : Nat → Prop} {w : World}
theorem SegsAt.form {v : Value} {l : List Seg} (h : SegsAt S w v l) : ∃ ao cap, v = .slice ao l.length cap ∧ l.length ≤ cap ∧ cap ≤ maxLen := by
  obtain ⟨ao, cap, xs, rfl, h1, h2, _⟩ := h; exact ⟨ao, cap, rfl, h1, h2⟩
theorem SegsAt.get {ao : Option Addr} {n cap : Nat} {l : List Seg} (h : SegsAt S w (.slice ao n cap) l) {k : Nat} {s : Seg} (hk : l[k]? = some s) : ∃ b off x, ao = some ⟨b, off, none⟩ ∧ S b ∧ w.cell? ⟨b, off + k * 2, none⟩ = some (sv s.tag) ∧ w.cell? ⟨b, off + k * 2 + 1, none⟩ = some x ∧ ElemsAt S w x s.elems := by
  obtain ⟨_, _, xs, e, h1, h2, h3, h4, h5, h6⟩ := h
  cases e
  obtain ⟨b, off, rfl, hS, h7⟩ := h6 (by intro e; rw [e] at hk; simp at hk)
  have hlt : k < xs.length := by rw [h4]; exact (List.getElem?_eq_some_iff.1 hk).1
  have hx := List.getElem?_eq_getElem hlt
  obtain ⟨a1, a2⟩ := h7 k s _ hk hx
  exact ⟨b, off, _, rfl, hS, a1, a2, h5 k s _ hk hx⟩
theorem ElemsAt.form {v : Value} {l : List (List Str)} (h : ElemsAt S w v l) : ∃ ao cap, v = .slice ao l.length cap ∧ l.length ≤ cap ∧ cap ≤ maxLen := by
  obtain ⟨xs, ⟨ao, cap, rfl, h1, h2, _⟩, h3, _⟩ := h; exact ⟨ao, cap, by rw [h3], by omega, h2⟩
theorem ElemsAt.get {ao : Option Addr} {n cap : Nat} {l : List (List Str)} (h : ElemsAt S w (.slice ao n cap) l) {k : Nat} {e : List Str} (hk : l[k]? = some e) : ∃ b off x, ao = some ⟨b, off, none⟩ ∧ S b ∧ w.cell? ⟨b, off + k, none⟩ = some x ∧ CompsAt S w x e := by
  obtain ⟨xs, ⟨_, _, e, h1, h2, h3, h4⟩, h5, h6⟩ := h
  cases e
  have hlt : k < xs.length := by rw [h5]; exact (List.getElem?_eq_some_iff.1 hk).1
  have hx := List.getElem?_eq_getElem hlt
  obtain ⟨b, off, rfl, hS, h7⟩ := h4 (by rintro rfl; simp at hlt)
  exact ⟨b, off, _, rfl, hS, h7 k _ hx, h6 k e _ hk hx⟩
theorem CompsAt.form {v : Value} {l : List Str} (h : CompsAt S w v l) : ∃ ao cap, v = .slice ao l.length cap ∧ l.length ≤ cap ∧ cap ≤ maxLen := by
  obtain ⟨ao, cap, rfl, h1, h2, _⟩ := h
  rw [List.length_map] at h1
  exact ⟨ao, cap, by rw [List.length_map], h1, h2⟩
theorem CompsAt.get {ao : Option Addr} {n cap : Nat} {l : List Str} (h : CompsAt S w (.slice ao n cap) l) {k : Nat} {p : Str} (hk : l[k]? = some p) : ∃ b off, ao = some ⟨b, off, none⟩ ∧ S b ∧ w.cell? ⟨b, off + k, none⟩ = some (sv p) := by
  obtain ⟨_, _, e, h1, h2, h3, h4⟩ := h
  cases e
  obtain ⟨b, off, rfl, hS, h7⟩ := h4 (by intro e; rw [List.map_eq_nil_iff] at e; rw [e] at hk; simp at hk)
  exact ⟨b, off, rfl, hS, h7 k _ (by rw [List.getElem?_map, hk]; rfl)⟩
end
def bytesC (e : List Str) : Nat := (e.map List.length).sum
def bytesE (es : List (List Str)) : Nat := (es.map bytesC).sum
def bytesL (l : List Seg) : Nat := (l.map fun s => bytesE s.elems).sum
structure LightS (l : List Seg) : Prop where
  n : l.length ≤ 80
  seg : ∀ s ∈ l, s.tag.length ≤ 300 ∧ s.elems.length ≤ 40
  el : ∀ s ∈ l, ∀ e ∈ s.elems, e.length ≤ 40
  bytes : bytesL l ≤ 3000
theorem joinT_le (e : List Str) : (elemT e).length ≤ 2 * bytesC e + e.length := by
  have h1 : ∀ l : List Str, (l.flatMap fun p => 58 :: compT p).length ≤ 2 * bytesC l + l.length := fun l => by
    induction l with
    | nil => simp [bytesC]
    | cons a l ih =>
      have := compT_len a
      have := sgN_le a
      simp only [List.flatMap_cons, List.length_append, List.length_cons, bytesC, List.map_cons, List.sum_cons] at ih ⊢
      omega
  cases e with
  | nil => simp [elemT, joinB]
  | cons p l =>
    have h := h1 l
    have := compT_len p
    have := sgN_le p
    rw [elemT_cons, List.length_append]
    unfold restT
    simp only [bytesC, List.map_cons, List.sum_cons, List.length_cons] at h ⊢
    omega
theorem segT_le (s : Seg) (h1 : ∀ e ∈ s.elems, e.length ≤ 40) : (segT s).length ≤ s.tag.length + 1 + 41 * s.elems.length + 2 * bytesE s.elems := by
  have key : ∀ es : List (List Str), (∀ e ∈ es, e.length ≤ 40) → (es.flatMap fun e => 43 :: elemT e).length ≤ 41 * es.length + 2 * bytesE es := fun es => by
    induction es with
    | nil => intro _; simp
    | cons a l ih =>
      intro h
      have h2 := ih fun e he => h e (List.mem_cons_of_mem _ he)
      have h3 := joinT_le a
      have h4 := h a List.mem_cons_self
      simp only [List.flatMap_cons, List.length_append, List.length_cons, bytesE, List.map_cons, List.sum_cons] at h2 ⊢
      omega
  have := key s.elems h1
  unfold segT
  simp only [List.length_append, List.length_cons, List.length_nil]
  omega
theorem LightS.print {l : List Seg} (h : LightS l) : (printT l).length ≤ 1048576 := by
  have key : ∀ m : List Seg, (∀ s ∈ m, s.tag.length ≤ 300 ∧ s.elems.length ≤ 40) → (∀ s ∈ m, ∀ e ∈ s.elems, e.length ≤ 40) → (printT m).length ≤ m.length * 1941 + 2 * bytesL m := fun m => by
    induction m with
    | nil => intro _ _; simp [printT]
    | cons a r ih =>
      intro h1 h2
      have h3 := ih (fun s hs => h1 s (List.mem_cons_of_mem _ hs)) (fun s hs => h2 s (List.mem_cons_of_mem _ hs))
      have h4 := segT_le a (h2 a List.mem_cons_self)
      have h5 := h1 a List.mem_cons_self
      simp only [printT, bytesL, List.flatMap_cons, List.length_append, List.map_cons, List.sum_cons, List.length_cons] at h3 ⊢
      omega
  have := key l h.seg h.el
  have := h.n
  have := h.bytes
  omega
def HeavyS (l : List Seg) (e : Ending) : Prop := ∃ b, e = .returned (.bool b) ∧ (b = false → LightS l)
theorem HeavyS.yes (l : List Seg) : HeavyS l (.returned (.bool true)) := ⟨true, rfl, fun h => by cases h⟩
end Go.Proofs.YtgfijlamhjjecaaGreatDoor


namespace Go.Proofs.YtgfijlamhjjecaaGreatDoor
open Go.RowKit
structure VarsOk (w : World) : Prop where
  tab : Lib.TabIs Tryz.prog w "internal/strconv.uint64pow10" .u64 Lib.pow10Tab
  syn : ∃ te pe, w.cell? ⟨2, 0, none⟩ = some (.iface te pe)
  rng : ∃ te pe, w.cell? ⟨3, 0, none⟩ = some (.iface te pe)
theorem VarsOk.on {w w' : World} {B : Nat} (h : VarsOk w) (hb : Below B w w') (hB : w.heap.size ≤ B) : VarsOk w' := by
  obtain ⟨h1, ⟨a, b, h2⟩, ⟨c, d, h3⟩⟩ := h
  exact ⟨Lib.tabBelow_of_tabIs h1 w' (hb.mono hB), ⟨a, b, (hb.cell (Nat.lt_of_lt_of_le (cell_lt' h2) hB)).trans h2⟩, ⟨c, d, (hb.cell (Nat.lt_of_lt_of_le (cell_lt' h3) hB)).trans h3⟩⟩
def PuQ (s : Str) (u : Nat) (ev : Value) : Prop := (numEnd (Lib.parseUintB 64 s) = some u ∧ ev = .nilIface) ∨ (numEnd (Lib.parseUintB 64 s) = none ∧ ∃ te pe, ev = .iface te pe)
theorem pu_any (s : ByteArray) (hl : s.size ≤ 1048576) (w : World) (hv : VarsOk w) : Calls Tryz.prog 146 #[.string s, .int .i64 10, .int .i64 64] w fun e w' => ∃ (u : Nat) (ev : Value), e = .returned (.tuple #[.int .u64 (u : Int), ev]) ∧ PuQ s.data.toList u ev ∧ Below w.heap.size w w' := by
  by_cases h1 : ∃ u, Lib.parseUintB 64 s.data.toList = .ok u
  · obtain ⟨u, h⟩ := h1
    refine (Tryz.strconv_ParseUint_10_at64_ok s (by omega) u h w).mono ?_
    rintro e w' ⟨rfl, hw⟩
    refine ⟨u, _, rfl, .inl ⟨by rw [h]; rfl, rfl⟩, ?_⟩
    rcases hw with rfl | rfl
    · exact Below.refl _ _
    · exact Lib.bytesWorld_below _ _ _
  by_cases h2 : Lib.parseUintB 64 s.data.toList = .range
  · obtain ⟨te, pe, hc⟩ := hv.rng
    refine (Tryz.strconv_ParseUint_10_at64_range s (by omega) h2 _ w hc (.inr ⟨te, pe, rfl⟩)).mono ?_
    rintro e w' ⟨N, rfl, _, _, hb⟩
    exact ⟨18446744073709551615, _, rfl, .inr ⟨by rw [h2]; rfl, _, _, rfl⟩, hb⟩
  · have hn : numEnd (Lib.parseUintB 64 s.data.toList) = none := by
      cases hx : Lib.parseUintB 64 s.data.toList <;> first | rfl | exact absurd ⟨_, hx⟩ h1
    obtain ⟨te, pe, hc⟩ := hv.syn
    refine (Tryz.strconv_ParseUint_10_at64_syntax s (by omega) ⟨fun u e => h1 ⟨u, e⟩, h2⟩ _ w hc (.inr ⟨te, pe, rfl⟩)).mono ?_
    rintro e w' ⟨N, rfl, _, _, hb⟩
    exact ⟨0, _, rfl, .inr ⟨hn, _, _, rfl⟩, hb⟩
end Go.Proofs.YtgfijlamhjjecaaGreatDoor


namespace Go.Proofs.YtgfijlamhjjecaaGreatDoor
open Go.RowKit
instance : DecidableEq Seg := fun a b => if h : a.tag = b.tag ∧ a.elems = b.elems then isTrue (by cases a; cases b; simp_all) else isFalse (by rintro rfl; exact h ⟨rfl, rfl⟩)
def sameB (l m : List Seg) : Bool := decide (l = m)
def Drew (w w' : World) : Prop := ∃ d, w' = w.drewN d
theorem Drew.below {w w' : World} (h : Drew w w') (B : Nat) : Below B w w' := by
  obtain ⟨d, rfl⟩ := h; exact below_drewN (Below.refl _ _) d
theorem Drew.heap {w w' : World} (h : Drew w w') : w'.heap = w.heap := by obtain ⟨d, rfl⟩ := h; rfl
theorem ret_bool {a b : Bool} (h : a = b) : Ending.returned (.bool a) = .returned (.bool b) := by rw [h]
theorem str_same (s : ByteArray) : (s.toList == s.toList) = true := by simp
theorem str_ne {s t : ByteArray} (h : s ≠ t) : (s.toList == t.toList) = false := by
  rw [beq_eq_false_iff_ne, ByteArray.toList_eq, ByteArray.toList_eq]
  intro e
  apply h
  cases s; cases t
  exact congrArg ByteArray.mk (Array.toList_inj.1 e)
end Go.Proofs.YtgfijlamhjjecaaGreatDoor


namespace Go.Proofs.YtgfijlamhjjecaaGreatDoor
open Go.RowKit
def digC (d : Nat) : UInt8 := UInt8.ofNat (48 + d)
theorem dig_slice {d : Nat} (hd : d < 10) (W : World) : (Instr.slice 9 (.string ⟨#[48, 49, 50, 51, 52, 53, 54, 55, 56, 57]⟩) (some (.int .u64 (d : Int))) (some (.int .u64 ((d : Int) + 1))) none).run Tryz.prog W = .ok (.string ⟨#[digC d]⟩) W := by
  have h : ∀ n : Nat, n < 10 → (Instr.slice 9 (.string ⟨#[48, 49, 50, 51, 52, 53, 54, 55, 56, 57]⟩) (some (.int .u64 (n : Int))) (some (.int .u64 ((n : Int) + 1))) none).run Tryz.prog W = .ok (.string ⟨#[digC n]⟩) W := fun n hn => by
    match n, hn with
    | 0, _ => go_simp; rfl
    | 1, _ => go_simp; rfl
    | 2, _ => go_simp; rfl
    | 3, _ => go_simp; rfl
    | 4, _ => go_simp; rfl
    | 5, _ => go_simp; rfl
    | 6, _ => go_simp; rfl
    | 7, _ => go_simp; rfl
    | 8, _ => go_simp; rfl
    | 9, _ => go_simp; rfl
  exact h d hd
theorem dec_add {u : Nat} (h : ¬ u < 10) (hu : u < 18446744073709551616) (W : World) : (Op.stringOp .add ⟨(decT (u / 10)).toArray⟩ ⟨#[digC (u % 10)]⟩).run Tryz.prog W = .ok (.string ⟨(decT u).toArray⟩) W := by
  have h1 := dec_len20 (show u / 10 < 18446744073709551616 by omega)
  rw [run_string_add_sum _ _ _ (by simp [ByteArray.size]; omega), dec_step h]
  show Result.ok (Value.string ((⟨(decT (u / 10)).toArray⟩ : ByteArray) ++ ⟨[digC (u % 10)].toArray⟩)) W = _
  rw [ByteArray.mk_append_mk]; rfl
set_option maxRecDepth 100000 in
set_option maxHeartbeats 2000000 in
theorem rdec_any (u : Nat) : u < 18446744073709551616 → ∀ w : World, Calls Tryz.prog 25 #[.int .u64 (u : Int)] w fun e w' => e = .returned (.string ⟨(decT u).toArray⟩) ∧ ∃ d, w' = w.drewN d := by
  induction u using Nat.strongRecOn with
  | ind u ih =>
    intro hu w
    by_cases h : u < 10
    · have i1 : decide ((u : Int) < 10) = true := by rw [decide_eq_true_eq]; omega
      have hsl := dig_slice h
      have HE := Lib.hid (show decT u = [digC u] from dec_small h)
      have wr1 : IntKind.u64.wrap ((u : Int) + 1) = (u : Int) + 1 := by rw [IntKind.wrap_u64]; omega
      clear ih
      go_enter Tryz.func25, Tryz.ntmps25
      go_wp2_with fail
      go_ret
      exact ⟨by rw [HE.out]; rfl, 0, rfl⟩
    · have i1 : decide ((u : Int) < 10) = false := by rw [decide_eq_false_iff_not]; omega
      have IH := Lib.hid (ih (u / 10) (by omega) (by omega))
      have hadd := dec_add h hu
      have hsl := dig_slice (show u % 10 < 10 by omega)
      have q1 : (u : Int).tdiv 10 = ((u / 10 : Nat) : Int) := by rw [Int.tdiv_eq_ediv_of_nonneg (by omega)]; omega
      have q2 : (u : Int).tmod 10 = ((u % 10 : Nat) : Int) := by rw [Int.tmod_eq_emod_of_nonneg (by omega)]; omega
      have wr0 : IntKind.u64.wrap ((u / 10 : Nat) : Int) = ((u / 10 : Nat) : Int) := by rw [IntKind.wrap_u64]; omega
      have wr2 : IntKind.u64.wrap ((u % 10 : Nat) : Int) = ((u % 10 : Nat) : Int) := by rw [IntKind.wrap_u64]; omega
      have wr1 : IntKind.u64.wrap (((u % 10 : Nat) : Int) + 1) = ((u % 10 : Nat) : Int) + 1 := by rw [IntKind.wrap_u64]; omega
      obtain ⟨ds, hds⟩ : ∃ ds : ByteArray, (⟨(decT (u / 10)).toArray⟩ : ByteArray) = ds := ⟨_, rfl⟩
      rw [hds] at IH hadd
      obtain ⟨es, hes⟩ : ∃ ds : ByteArray, (⟨(decT u).toArray⟩ : ByteArray) = ds := ⟨_, rfl⟩
      simp only [hes] at hadd
      rw [hes]
      clear hds hes
      generalize u / 10 = q at *
      generalize u % 10 = r at *
      clear ih
      go_enter Tryz.func25, Tryz.ntmps25
      go_upto_region 3 with fail
      go_quiet (first | (go_at_call 25; refine Calls.quiet_of (IH.out _)))
      go_wp2_with fail
      go_ret
      exact ⟨rfl, _, rfl⟩
end Go.Proofs.YtgfijlamhjjecaaGreatDoor

