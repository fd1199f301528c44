/-
  Texts EdiK, EdiL, EdiN, EdiO, EdiQ, EdiT, EdiU, EdiV, one behind the other. No condition beyond those stated in each.
-/
import Derived.Test.YteaaiejfieaalaaGreatDoorMg2
import Derived.Test.YteaaiejfieaalaaGreatDoorEdiShelf
import Derived.Deep.DeepFit
import Derived.Test.YteaaiejfieaalaaGreatDoorMg1
/-
  EdiK: contracts of component, released, behind. No condition beyond those stated.
-/
namespace Go.Proofs.YteaaiejfieaalaaGreatDoor
open Go.RowKit
theorem ix_sign (c : UInt8) : ∃ i : Int, Lib.indexByte [43, 58, 39, 63] c = i ∧ decide (0 ≤ i) = signB c ∧ decide (i < 0) = !signB c := by
  refine ⟨_, rfl, ?_⟩
  unfold signB
  by_cases h1 : c = 43
  · subst h1; decide
  · by_cases h2 : c = 58
    · subst h2; decide
    · by_cases h3 : c = 39
      · subst h3; decide
      · by_cases h4 : c = 63
        · subst h4; decide
        · have e1 : (43 == c) = false := beq_eq_false_iff_ne.2 (Ne.symm h1)
          have e2 : (58 == c) = false := beq_eq_false_iff_ne.2 (Ne.symm h2)
          have e3 : (39 == c) = false := beq_eq_false_iff_ne.2 (Ne.symm h3)
          have e4 : (63 == c) = false := beq_eq_false_iff_ne.2 (Ne.symm h4)
          simp [Lib.indexByte, e1, e2, e3, e4, beq_eq_false_iff_ne.2 h1, beq_eq_false_iff_ne.2 h2, beq_eq_false_iff_ne.2 h3, beq_eq_false_iff_ne.2 h4]
theorem toU8 (c : UInt8) : ((c.toNat : Int)).toNat.toUInt8 = c := by simp
theorem ib_any (c : UInt8) (w : World) : ∃ i : Int, decide (0 ≤ i) = signB c ∧ decide (i < 0) = (!signB c) ∧ Calls Tryz.prog 104 #[.string ⟨#[43, 58, 39, 63]⟩, .int .u8 (c.toNat : Int)] w fun e w' => e = .returned (.int .i64 i) ∧ w = w' := by
  obtain ⟨i, h1, h2, h3⟩ := ix_sign c
  refine ⟨i, h2, h3, (Tryz.strings_IndexByte _ _ w).mono ?_⟩
  rintro e w' ⟨rfl, rfl⟩
  refine ⟨?_, rfl⟩
  rw [toU8]
  rw [← h1]
theorem nat_eq (c : UInt8) (k : UInt8) (h : c ≠ k) : ((c.toNat : Int) == (k.toNat : Int)) = false := by
  rw [beq_eq_false_iff_ne]; intro e; exact h (UInt8.toNat_inj.1 (Int.ofNat.inj e))
section
variable {w : World} {rb : Nat} {a b : Value} {R : World → Prop}
set_option maxHeartbeats 1000000 in
theorem comp_63 (rb : Nat) (w : World) : Calls Tryz.prog 92 #[.pointer (some ⟨rb, 0, none⟩), .int .u8 63] w fun e w' => e = .returned (.tuple #[fnV rb 103, .int .i64 0]) ∧ w = w' := by
  go_enter Tryz.func92, Tryz.ntmps92
  go_wp2_with fail
  go_ret2
  exact ⟨rfl, rfl⟩
set_option maxHeartbeats 1000000 in
theorem comp_sign (c : UInt8) (hs : signB c = true) (h63 : c ≠ 63) (h : Calls Tryz.prog 76 #[.pointer (some ⟨rb, 0, none⟩), .int .u8 (c.toNat : Int)] w fun e w' => e = .returned (.tuple #[a, b]) ∧ R w') : Calls Tryz.prog 92 #[.pointer (some ⟨rb, 0, none⟩), .int .u8 (c.toNat : Int)] w fun e w' => e = .returned (.tuple #[a, b]) ∧ R w' := by
  obtain ⟨i, i1, i2, hi⟩ := ib_any c w
  have H := Lib.hid h
  have HI := Lib.hid hi
  rw [hs] at i1
  have d1 : ((c.toNat : Int) == 63) = false := nat_eq c 63 h63
  clear h hi
  obtain ⟨n, hn⟩ : ∃ n : Int, (c.toNat : Int) = n := ⟨_, rfl⟩
  rw [hn] at H HI d1 ⊢
  clear hn
  go_enter Tryz.func92, Tryz.ntmps92
  go_wp2_with first | (go_at_call 104; refine HI.out.mono ?_; rintro e w' ⟨rfl, rfl⟩) | (go_at_call 76; refine H.out.mono ?_; rintro e w' ⟨rfl, hR⟩; have HR := Lib.hid hR; clear hR)
  go_ret2
  exact ⟨rfl, HR.out⟩
set_option maxHeartbeats 1000000 in
theorem comp_bad (rb : Nat) (w : World) (c : UInt8) (hs : signB c = false) (hb : c.toNat < 32 ∨ 126 < c.toNat) : Calls Tryz.prog 92 #[.pointer (some ⟨rb, 0, none⟩), .int .u8 (c.toNat : Int)] w fun e w' => e = .returned (.tuple #[.nilFunc, .int .i64 30]) ∧ w = w' := by
  obtain ⟨i, i1, i2, hi⟩ := ib_any c w
  have h63 : c ≠ 63 := by rintro rfl; exact absurd hs (by decide)
  have HI := Lib.hid hi
  rw [hs] at i1
  have d1 : ((c.toNat : Int) == 63) = false := nat_eq c 63 h63
  clear hi
  obtain ⟨n, hn⟩ : ∃ n : Nat, c.toNat = n := ⟨_, rfl⟩
  rw [hn] at HI d1 hb ⊢
  clear hn
  by_cases h32 : n < 32
  · have d2 : decide ((n : Int) < 32) = true := by rw [decide_eq_true_eq]; omega
    go_enter Tryz.func92, Tryz.ntmps92
    go_wp2_with (go_at_call 104; refine HI.out.mono ?_; rintro e w' ⟨rfl, rfl⟩)
    go_ret2
    exact ⟨rfl, rfl⟩
  · have d2 : decide ((n : Int) < 32) = false := by rw [decide_eq_false_iff_not]; omega
    have d3 : decide ((126 : Int) < (n : Int)) = true := by rw [decide_eq_true_eq]; omega
    go_enter Tryz.func92, Tryz.ntmps92
    go_wp2_with (go_at_call 104; refine HI.out.mono ?_; rintro e w' ⟨rfl, rfl⟩)
    go_ret2
    exact ⟨rfl, rfl⟩
set_option maxHeartbeats 1000000 in
theorem comp_put (c : UInt8) (hs : signB c = false) (hb : ¬ (c.toNat < 32 ∨ 126 < c.toNat)) (h : Calls Tryz.prog 105 #[.pointer (some ⟨rb, 0, none⟩), .int .u8 (c.toNat : Int)] w fun e w' => e = .returned (.tuple #[a, b]) ∧ R w') : Calls Tryz.prog 92 #[.pointer (some ⟨rb, 0, none⟩), .int .u8 (c.toNat : Int)] w fun e w' => e = .returned (.tuple #[a, b]) ∧ R w' := by
  obtain ⟨i, i1, i2, hi⟩ := ib_any c w
  have h63 : c ≠ 63 := by rintro rfl; exact absurd hs (by decide)
  have H := Lib.hid h
  have HI := Lib.hid hi
  rw [hs] at i1
  have d1 : ((c.toNat : Int) == 63) = false := nat_eq c 63 h63
  have d2 : decide ((c.toNat : Int) < 32) = false := by rw [decide_eq_false_iff_not]; omega
  have d3 : decide ((126 : Int) < (c.toNat : Int)) = false := by rw [decide_eq_false_iff_not]; omega
  clear h hi hb
  obtain ⟨n, hn⟩ : ∃ n : Int, (c.toNat : Int) = n := ⟨_, rfl⟩
  rw [hn] at H HI d1 d2 d3 ⊢
  clear hn
  go_enter Tryz.func92, Tryz.ntmps92
  go_wp2_with first | (go_at_call 104; refine HI.out.mono ?_; rintro e w' ⟨rfl, rfl⟩) | (go_at_call 105; refine H.out.mono ?_; rintro e w' ⟨rfl, hR⟩; have HR := Lib.hid hR; clear hR)
  go_ret2
  exact ⟨rfl, HR.out⟩
set_option maxHeartbeats 1000000 in
theorem rel_bad (rb : Nat) (w : World) (c : UInt8) (hs : signB c = false) : Calls Tryz.prog 103 #[.pointer (some ⟨rb, 0, none⟩), .int .u8 (c.toNat : Int)] w fun e w' => e = .returned (.tuple #[.nilFunc, .int .i64 30]) ∧ w = w' := by
  obtain ⟨i, i1, i2, hi⟩ := ib_any c w
  have HI := Lib.hid hi
  rw [hs] at i2
  simp only [Bool.not_false] at i2
  clear hi
  obtain ⟨n, hn⟩ : ∃ n : Int, (c.toNat : Int) = n := ⟨_, rfl⟩
  rw [hn] at HI ⊢
  clear hn
  go_enter Tryz.func103, Tryz.ntmps103
  go_wp2_with (go_at_call 104; refine HI.out.mono ?_; rintro e w' ⟨rfl, rfl⟩)
  go_ret2
  exact ⟨rfl, rfl⟩
set_option maxHeartbeats 1000000 in
theorem rel_put (c : UInt8) (hs : signB c = true) (h : Calls Tryz.prog 105 #[.pointer (some ⟨rb, 0, none⟩), .int .u8 (c.toNat : Int)] w fun e w' => e = .returned (.tuple #[a, b]) ∧ R w') : Calls Tryz.prog 103 #[.pointer (some ⟨rb, 0, none⟩), .int .u8 (c.toNat : Int)] w fun e w' => e = .returned (.tuple #[a, b]) ∧ R w' := by
  obtain ⟨i, i1, i2, hi⟩ := ib_any c w
  have H := Lib.hid h
  have HI := Lib.hid hi
  rw [hs] at i2
  simp only [Bool.not_true] at i2
  clear h hi
  obtain ⟨n, hn⟩ : ∃ n : Int, (c.toNat : Int) = n := ⟨_, rfl⟩
  rw [hn] at H HI ⊢
  clear hn
  go_enter Tryz.func103, Tryz.ntmps103
  go_wp2_with first | (go_at_call 104; refine HI.out.mono ?_; rintro e w' ⟨rfl, rfl⟩) | (go_at_call 105; refine H.out.mono ?_; rintro e w' ⟨rfl, hR⟩; have HR := Lib.hid hR; clear hR)
  go_ret2
  exact ⟨rfl, HR.out⟩
set_option maxHeartbeats 1000000 in
theorem bhd_bad (rb : Nat) (w : World) (c : UInt8) (h1 : c ≠ 43) (h2 : c ≠ 39) : Calls Tryz.prog 60 #[.pointer (some ⟨rb, 0, none⟩), .int .u8 (c.toNat : Int)] w fun e w' => e = .returned (.tuple #[.nilFunc, .int .i64 30]) ∧ w = w' := by
  have d1 : ((c.toNat : Int) == 43) = false := nat_eq c 43 h1
  have d2 : ((c.toNat : Int) == 39) = false := nat_eq c 39 h2
  obtain ⟨n, hn⟩ : ∃ n : Int, (c.toNat : Int) = n := ⟨_, rfl⟩
  rw [hn] at d1 d2 ⊢
  clear hn
  have d1 : (n != 43) = true := by simp [bne, d1]
  have d2 : (n != 39) = true := by simp [bne, d2]
  go_enter Tryz.func60, Tryz.ntmps60
  go_wp2_with fail
  go_ret2
  exact ⟨rfl, rfl⟩
set_option maxHeartbeats 1000000 in
theorem bhd_39 (h : Calls Tryz.prog 76 #[.pointer (some ⟨rb, 0, none⟩), .int .u8 39] w fun e w' => e = .returned (.tuple #[a, b]) ∧ R w') : Calls Tryz.prog 60 #[.pointer (some ⟨rb, 0, none⟩), .int .u8 39] w fun e w' => e = .returned (.tuple #[a, b]) ∧ R w' := by
  have H := Lib.hid h
  clear h
  go_enter Tryz.func60, Tryz.ntmps60
  go_wp2_with (go_at_call 76; refine H.out.mono ?_; rintro e w' ⟨rfl, hR⟩; have HR := Lib.hid hR; clear hR)
  go_ret2
  exact ⟨rfl, HR.out⟩
set_option maxHeartbeats 1000000 in
theorem bhd_43 (h : Calls Tryz.prog 76 #[.pointer (some ⟨rb, 0, none⟩), .int .u8 43] w fun e w' => e = .returned (.tuple #[a, b]) ∧ R w') : Calls Tryz.prog 60 #[.pointer (some ⟨rb, 0, none⟩), .int .u8 43] w fun e w' => e = .returned (.tuple #[a, b]) ∧ R w' := by
  have H := Lib.hid h
  clear h
  go_enter Tryz.func60, Tryz.ntmps60
  go_wp2_with (go_at_call 76; refine H.out.mono ?_; rintro e w' ⟨rfl, hR⟩; have HR := Lib.hid hR; clear hR)
  go_ret2
  exact ⟨rfl, HR.out⟩
end
end Go.Proofs.YteaaiejfieaalaaGreatDoor

/-
  EdiL: contracts of tag and between. No condition beyond those stated.
-/
namespace Go.Proofs.YteaaiejfieaalaaGreatDoor
open Go.RowKit
theorem enc_one (c : UInt8) (h : c.toNat < 128) : Utf8.encode (c.toNat : Int) = ⟨#[c]⟩ := by
  unfold Utf8.encode
  have hv : Utf8.valid (c.toNat : Int) = true := by unfold Utf8.valid; simp; omega
  simp [hv, h]
theorem conv_one (c : UInt8) (h : c.toNat < 128) (w : World) : (convert 5 9 (.int .u8 (c.toNat : Int))).run Tryz.prog w = .ok (.string ⟨#[c]⟩) w := by
  rw [run_convert_int_string w 5 9 .u8 _ (by rw [Tryz.underlying5]; rfl) Tryz.underlying9, enc_one c h]
section
variable {S : Nat → Prop} {w : World} {B rb : Nat} {l : List Seg} {t : Str} {es : List (List Str)} {cs : List Str} {p q : Str} {lv pv ev cv : Value} {xs ys : List Value}
set_option maxHeartbeats 1000000 in
theorem tag_bad (rb : Nat) (w : World) (c : UInt8) (hc : tagB c = false) : Calls Tryz.prog 49 #[.pointer (some ⟨rb, 0, none⟩), .int .u8 (c.toNat : Int)] w fun e w' => e = .returned (.tuple #[.nilFunc, .int .i64 30]) ∧ w = w' := by
  have H := Lib.hid (tagged_any c w)
  rw [hc] at H
  obtain ⟨n, hn⟩ : ∃ n : Int, (c.toNat : Int) = n := ⟨_, rfl⟩
  rw [hn] at H ⊢
  clear hn
  go_enter Tryz.func49, Tryz.ntmps49
  go_wp2_with (go_at_call 33; refine H.out.mono ?_; rintro e w' ⟨rfl, rfl⟩)
  go_ret2
  exact ⟨rfl, rfl⟩
theorem tag_lt {c : UInt8} (h : tagB c = true) : c.toNat < 128 := by
  unfold tagB at h
  simp at h
  omega
set_option maxRecDepth 100000 in
set_option maxHeartbeats 2000000 in
theorem tag_ok {xs0 : List Value} (h : RA S w B rb (l ++ [⟨t, []⟩]) lv pv (xs0 ++ [.slice none 0 0]) p) (_hB : B ≤ w.heap.size) (c : UInt8) (hc : tagB c = true) (ht : t.length < 3) : Calls Tryz.prog 49 #[.pointer (some ⟨rb, 0, none⟩), .int .u8 (c.toNat : Int)] w fun e w' => e = .returned (.tuple #[fnV rb (if t.length + 1 < 3 then 49 else 60), .int .i64 0]) ∧ RA S w' B rb (l ++ [⟨t ++ [c], []⟩]) lv pv (xs0 ++ [.slice none 0 0]) p ∧ Below B w w' := by
  obtain ⟨g, cap, x, xs1, rfl, hc1, hc2, hxx, hx0, k1, k2, z1, z2, _⟩ := h.top
  have d0 := h.c0
  have H := Lib.hid h
  have HT := Lib.hid (tagged_any c w)
  have hcv := fun w => conv_one c (tag_lt hc) w
  rw [hc] at HT
  obtain ⟨F, hF⟩ : ∃ F : Nat, (if t.length + 1 < 3 then 49 else 60) = F := ⟨_, rfl⟩
  rw [hF]
  have HF := Lib.hid hF
  clear hF
  obtain ⟨n, hn⟩ : ∃ n : Int, (c.toNat : Int) = n := ⟨_, rfl⟩
  rw [hn] at HT hcv ⊢
  clear h hn hxx k2 z2
  replace k1 : w.cell? ⟨g, l.length * 2, none⟩ = some (.string ⟨t.toArray⟩) := k1
  have hsz : (ByteArray.mk t.toArray).size + (ByteArray.mk #[c]).size ≤ maxLen := by
    show t.toArray.size + 1 ≤ maxLen
    simp [maxLen]; omega
  go_enter Tryz.func49, Tryz.ntmps49
  go_upto_region 4 with first | (go_at_call 33; refine HT.out.mono ?_; rintro e w' ⟨rfl, rfl⟩) | (go_at_call 59; refine (top_any rb g l.length cap _ d0 hc1 hc2).mono ?_; rintro e w' ⟨rfl, rfl⟩)
  have eS : Value.string ((ByteArray.mk t.toArray) ++ (ByteArray.mk #[c])) = sv (t ++ [c]) := by
    unfold sv
    rw [show (#[c] : Array UInt8) = [c].toArray from rfl, ByteArray.mk_append_mk]
  rw [eS]
  have HQ := Lib.hid ((H.out.settag (t' := t ++ [c])).fr0 (Fr.drew [] _))
  have HBQ := Lib.hid (((Below.refl B w).setCell (p := ⟨g, l.length * 2, none⟩) (own_lt H.out.hl (k := g) rfl).1 (sv (t ++ [c]))).drew)
  obtain ⟨wq, hwq⟩ : ∃ wq, (w.setCell ⟨g, l.length * 2, none⟩ (sv (t ++ [c]))).drew = wq := ⟨_, rfl⟩
  rw [hwq] at HQ HBQ ⊢
  clear hwq H d0 k1 z1 hsz
  obtain ⟨g', cap', x', xs2, he, -, -, -, -, k1, -, -, -, -⟩ := HQ.out.top
  cases he
  have d0 := HQ.out.c0
  replace k1 : wq.cell? ⟨g, l.length * 2, none⟩ = some (.string ⟨(t ++ [c]).toArray⟩) := k1
  have hlen : (((ByteArray.mk (t ++ [c]).toArray).size : Nat) : Int) = (t.length : Int) + 1 := by show (((t ++ [c]).toArray.size : Nat) : Int) = _; simp
  by_cases h3 : t.length + 1 < 3
  · have d3 : decide ((t.length : Int) + 1 < 3) = true := by rw [decide_eq_true_eq]; omega
    go_wp2_with (go_at_call 59; refine (top_any rb g l.length cap _ d0 hc1 hc2).mono ?_; rintro e w' ⟨rfl, rfl⟩)
    go_ret2
    exact ⟨by rw [← HF.out, if_pos h3]; rfl, HQ.out.fr0 (Fr.drew _ _), HBQ.out.drew⟩
  · have d3 : decide ((t.length : Int) + 1 < 3) = false := by rw [decide_eq_false_iff_not]; omega
    go_wp2_with (go_at_call 59; refine (top_any rb g l.length cap _ d0 hc1 hc2).mono ?_; rintro e w' ⟨rfl, rfl⟩)
    go_ret2
    exact ⟨by rw [← HF.out, if_neg h3]; rfl, HQ.out.fr0 (Fr.drew _ _), HBQ.out.drew⟩
end
end Go.Proofs.YteaaiejfieaalaaGreatDoor

/-
  EdiN: contracts of between. No condition beyond those stated.
-/
namespace Go.Proofs.YteaaiejfieaalaaGreatDoor
open Go.RowKit
theorem cell_two_new (w : World) (x y : Value) (t : TypeId) : ∀ (j : Nat) (u : Value), [x, y][j]? = some u → (w.alloc (.cells #[x, y] t)).cell? ((⟨w.heap.size, 0, none⟩ : Addr).add j) = some u := by
  intro j u hj
  match j, hj with
  | 0, hj => simp at hj; subst hj; simp [Addr.add]
  | 1, hj => simp at hj; subst hj; simp [Addr.add]
section
variable {S : Nat → Prop} {w : World} {B rb : Nat} {l : List Seg} {t : Str} {es : List (List Str)} {cs : List Str} {p q : Str} {lv pv ev cv : Value} {xs ys : List Value}
theorem RA.lform (h : RA S w B rb l lv pv xs p) : ∃ ao cap, lv = .slice ao l.length cap := by
  obtain ⟨_, ⟨h1, h2⟩ | ⟨g, cap, _, h1, _⟩⟩ := h.hl
  · exact ⟨none, 0, by rw [h1, h2]⟩
  · exact ⟨_, cap, h1⟩
set_option maxRecDepth 100000 in
set_option maxHeartbeats 2000000 in
theorem btw_nl (h : RA S w B rb l lv pv xs p) (h0 : l ≠ []) : Calls Tryz.prog 31 #[.pointer (some ⟨rb, 0, none⟩), .int .u8 10] w fun e w' => e = .returned (.tuple #[fnV rb 31, .int .i64 0]) ∧ w = w' := by
  have d0 := h.c0
  obtain ⟨ao, cap, rfl⟩ := h.lform
  have h1 : 0 < l.length := List.length_pos_iff.2 h0
  have d1 : decide ((0 : Int) < (l.length : Int)) = true := by rw [decide_eq_true_eq]; omega
  clear h
  go_enter Tryz.func31, Tryz.ntmps31
  go_wp2_with fail
  go_ret2
  exact ⟨rfl, rfl⟩
set_option maxRecDepth 100000 in
set_option maxHeartbeats 2000000 in
theorem btw_full (h : RA S w B rb l lv pv xs p) (c : UInt8) (hc : c ≠ 10) (h64 : l.length = 64) : Calls Tryz.prog 31 #[.pointer (some ⟨rb, 0, none⟩), .int .u8 (c.toNat : Int)] w fun e w' => e = .returned (.tuple #[.nilFunc, .int .i64 2]) ∧ w = w' := by
  have d0 := h.c0
  obtain ⟨ao, cap, rfl⟩ := h.lform
  rw [h64] at d0
  have d1 : ((c.toNat : Int) == 10) = false := nat_eq c 10 hc
  obtain ⟨n, hn⟩ : ∃ n : Int, (c.toNat : Int) = n := ⟨_, rfl⟩
  rw [hn] at d1 ⊢
  clear h hn
  go_enter Tryz.func31, Tryz.ntmps31
  go_wp2_with fail
  go_ret2
  exact ⟨rfl, rfl⟩
set_option maxRecDepth 100000 in
set_option maxHeartbeats 4000000 in
theorem btw_tag (h : RA S w B rb l lv pv xs p) (hB : B ≤ w.heap.size) (c : UInt8) (hc : ¬ (c = 10 ∧ l ≠ [])) (h64 : l.length < 64) {a b : Value} {R : World → Prop}
    (hT : ∀ w1 lv', RA S w1 B rb (l ++ [⟨[], []⟩]) lv' pv (xs ++ [.slice none 0 0]) p → Below B w w1 → Calls Tryz.prog 49 #[.pointer (some ⟨rb, 0, none⟩), .int .u8 (c.toNat : Int)] w1 fun e w' => e = .returned (.tuple #[a, b]) ∧ R w') :
    Calls Tryz.prog 31 #[.pointer (some ⟨rb, 0, none⟩), .int .u8 (c.toNat : Int)] w fun e w' => e = .returned (.tuple #[a, b]) ∧ R w' := by
  have d0 := h.c0
  have f0 := h.fz 0
  have H := Lib.hid h
  have HT := Lib.hid hT
  have hrw := h.lt
  have hrB := h.hB
  have nlr := own_neR h.r h.hl (by decide)
  obtain ⟨la, lc, rfl⟩ := h.lform
  have d64 : ((l.length : Int) == 64) = false := by rw [beq_eq_false_iff_ne]; omega
  obtain ⟨n, hn⟩ : ∃ n : Int, (c.toNat : Int) = n := ⟨_, rfl⟩
  have dd : (n == 10) = false ∨ (n = 10 ∧ decide ((0 : Int) < (l.length : Int)) = false) := by
    by_cases h10 : c = 10
    · subst h10
      refine .inr ⟨hn.symm, ?_⟩
      rw [decide_eq_false_iff_not]
      have : l = [] := Classical.byContradiction fun h => hc ⟨rfl, h⟩
      simp [this]
    · exact .inl (by rw [← hn]; exact nat_eq c 10 h10)
  rw [hn] at HT ⊢
  clear h hT hn hc
  obtain ⟨i0, hi, hz0, hz1, hz2⟩ := info_parts einfo_seg
  have HI := Lib.hid hi
  have HZ0 := Lib.hid hz0
  have HZ1 := Lib.hid hz1
  have HZ2 := Lib.hid hz2
  clear hi hz0 hz1 hz2
  rcases dd with d1 | ⟨rfl, d1⟩
  · go_enter Tryz.func31, Tryz.ntmps31
    go_upto_region 6 with ((with_reducible refine wpList_at (.call { callee := .builtin .append, args := #[.tmp 30, .tmp 32], argTypes := #[23, 23] }) rfl ?_); go_loud (refine wpList_append_own_at _ rfl _ _ 23 rfl B 36 i0 (.agg #[.string ⟨#[]⟩, .slice none 0 0]) 2 40 Tryz.underlying23 HI.out HZ0.out HZ1.out HZ2.out rfl (by decide) _ _ _ rfl (World.ownsRow.alloc (show w.ownsRow B 36 2 (.slice la l.length lc) l.length (segCells l xs) from H.out.hl) _) ⟨w.heap.size, 0, none⟩ 1 1 [.string ⟨#[]⟩, .slice none 0 0] rfl rfl (cell_two_new _ _ _ _) (by simp [Value.oneCell']) (by unfold maxLen; omega) (by omega) (by simp; omega) ?_); intro lv' w1 he' hg' _ hk'; have HG1 : Hid ((w.alloc (.cells #[.string ⟨#[]⟩, .slice none 0 0] 36)).grownBy w1 (Value.slice la l.length lc).ownBlock) := hg'; have HK1 : Hid (lv'.ownBlock = (Value.slice la l.length lc).ownBlock ∨ lv'.ownBlock = some (w.heap.size + 1)) := Lib.hid (by rcases hk' with h | h; exact .inl h; (right; rw [h]; simp)); have hea := blk_ag HG1.out hrw nlr; have f0' : w1.frozen? ⟨rb, 0, none⟩ = false := (fz_ag hea).trans f0; have d0' : w1.cell? ⟨rb, 0, none⟩ = some (.slice la l.length lc) := (cell_ag hea).trans d0; have hs1 := hg'.size; simp at hs1; have HE1 : Hid (w1.ownsRow B 36 2 lv' (l.length + 1) (segCells l xs ++ [sv [], .slice none 0 0])) := Lib.hid he'; obtain ⟨pg2, pc2, _, rfl, _⟩ := own_form he' (by omega) (by omega); clear he' hg' hk' hea)
    have HQ := Lib.hid (H.out.newseg HG1.out HE1.out (by rw [World.size_alloc]; exact HK1.out))
    have HBQ := Lib.hid (H.out.fr_newseg (lv' := .slice (some ⟨pg2, 0, none⟩) (l.length + 1) pc2) HG1.out hB)
    obtain ⟨wq, hwq⟩ : ∃ wq, w1.setCell ⟨rb, 0, none⟩ (.slice (some ⟨pg2, 0, none⟩) (l.length + 1) pc2) = wq := ⟨_, rfl⟩
    rw [hwq] at HQ HBQ ⊢
    clear hwq f0 d0 f0' d0' HG1 HE1 HK1 hs1
    have HC := Lib.hid (HT.out wq _ HQ.out HBQ.out)
    go_wp2_with (go_at_call 49; refine HC.out.mono ?_; rintro e w' ⟨rfl, hR⟩; have HR := Lib.hid hR; clear hR)
    go_ret2
    exact ⟨rfl, HR.out⟩
  · have d2 : ¬ 0 < l.length := fun h => by rw [decide_eq_false_iff_not] at d1; omega
    go_enter Tryz.func31, Tryz.ntmps31
    go_upto_region 6 with ((with_reducible refine wpList_at (.call { callee := .builtin .append, args := #[.tmp 30, .tmp 32], argTypes := #[23, 23] }) rfl ?_); go_loud (refine wpList_append_own_at _ rfl _ _ 23 rfl B 36 i0 (.agg #[.string ⟨#[]⟩, .slice none 0 0]) 2 40 Tryz.underlying23 HI.out HZ0.out HZ1.out HZ2.out rfl (by decide) _ _ _ rfl (World.ownsRow.alloc (show w.ownsRow B 36 2 (.slice la l.length lc) l.length (segCells l xs) from H.out.hl) _) ⟨w.heap.size, 0, none⟩ 1 1 [.string ⟨#[]⟩, .slice none 0 0] rfl rfl (cell_two_new _ _ _ _) (by simp [Value.oneCell']) (by unfold maxLen; omega) (by omega) (by simp; omega) ?_); intro lv' w1 he' hg' _ hk'; have HG1 : Hid ((w.alloc (.cells #[.string ⟨#[]⟩, .slice none 0 0] 36)).grownBy w1 (Value.slice la l.length lc).ownBlock) := hg'; have HK1 : Hid (lv'.ownBlock = (Value.slice la l.length lc).ownBlock ∨ lv'.ownBlock = some (w.heap.size + 1)) := Lib.hid (by rcases hk' with h | h; exact .inl h; (right; rw [h]; simp)); have hea := blk_ag HG1.out hrw nlr; have f0' : w1.frozen? ⟨rb, 0, none⟩ = false := (fz_ag hea).trans f0; have d0' : w1.cell? ⟨rb, 0, none⟩ = some (.slice la l.length lc) := (cell_ag hea).trans d0; have hs1 := hg'.size; simp at hs1; have HE1 : Hid (w1.ownsRow B 36 2 lv' (l.length + 1) (segCells l xs ++ [sv [], .slice none 0 0])) := Lib.hid he'; obtain ⟨pg2, pc2, _, rfl, _⟩ := own_form he' (by omega) (by omega); clear he' hg' hk' hea)
    have HQ := Lib.hid (H.out.newseg HG1.out HE1.out (by rw [World.size_alloc]; exact HK1.out))
    have HBQ := Lib.hid (H.out.fr_newseg (lv' := .slice (some ⟨pg2, 0, none⟩) (l.length + 1) pc2) HG1.out hB)
    obtain ⟨wq, hwq⟩ : ∃ wq, w1.setCell ⟨rb, 0, none⟩ (.slice (some ⟨pg2, 0, none⟩) (l.length + 1) pc2) = wq := ⟨_, rfl⟩
    rw [hwq] at HQ HBQ ⊢
    clear hwq f0 d0 f0' d0' HG1 HE1 HK1 hs1
    have HC := Lib.hid (HT.out wq _ HQ.out HBQ.out)
    go_wp2_with (go_at_call 49; refine HC.out.mono ?_; rintro e w' ⟨rfl, hR⟩; have HR := Lib.hid hR; clear hR)
    go_ret2
    exact ⟨rfl, HR.out⟩
end
end Go.Proofs.YteaaiejfieaalaaGreatDoor

/-
  EdiO: one step of the reader, told by the machine of bytes. No condition beyond those stated.
-/
namespace Go.Proofs.YteaaiejfieaalaaGreatDoor
open Go.RowKit
/-- the function that takes the next byte -/
def fnE : EC → Nat
  | .btw _ => 31
  | .tag _ _ => 49
  | .bhd _ _ => 60
  | .cmp _ _ _ _ _ => 92
  | .rel _ _ _ _ _ => 103
/-- a reader in memory stands there -/
def Rd (w : World) (B rb : Nat) : EC → Prop
  | .btw l => ∃ (S : Nat → Prop) (lv pv : Value) (xs : List Value) (p : Str), RA S w B rb l lv pv xs p ∧ l.length ≤ 64
  | .tag l t => ∃ (S : Nat → Prop) (lv pv : Value) (xs0 : List Value) (p : Str), RA S w B rb (l ++ [⟨t, []⟩]) lv pv (xs0 ++ [.slice none 0 0]) p ∧ t.length < 3 ∧ l.length < 64
  | .bhd l t => ∃ (S : Nat → Prop) (lv pv : Value) (xs0 : List Value) (p : Str), RA S w B rb (l ++ [⟨t, []⟩]) lv pv (xs0 ++ [.slice none 0 0]) p ∧ l.length < 64
  | .cmp l t es cs p => ∃ (S : Nat → Prop) (lv pv ev cv : Value) (xs ys : List Value), RB S w B rb l t es cs p p lv pv ev cv xs ys ∧ l.length < 64 ∧ es.length + 1 ≤ 16 ∧ cs.length + 1 ≤ 8 ∧ p.length ≤ 256
  | .rel l t es cs p => ∃ (S : Nat → Prop) (lv pv ev cv : Value) (xs ys : List Value), RB S w B rb l t es cs p p lv pv ev cv xs ys ∧ l.length < 64 ∧ es.length + 1 ≤ 16 ∧ cs.length + 1 ≤ 8 ∧ p.length ≤ 256
/-- what a step answers -/
def StepSays (B rb : Nat) (w : World) : ER → Ending → World → Prop
  | .err k, e, w' => e = .returned (.tuple #[.nilFunc, .int .i64 k]) ∧ Below B w w'
  | .ok s, e, w' => e = .returned (.tuple #[fnV rb (fnE s), .int .i64 0]) ∧ Rd w' B rb s ∧ Below B w w'
section
variable {w : World} {B rb : Nat} {l : List Seg} {t : Str} {es : List (List Str)} {cs : List Str} {p : Str}
abbrev stepArgs (rb : Nat) (c : UInt8) : Array Value := #[.pointer (some ⟨rb, 0, none⟩), .int .u8 (c.toNat : Int)]
theorem step_tag {S : Nat → Prop} {lv pv : Value} {xs0 : List Value} {q : Str} {w0 : World} (h : RA S w B rb (l ++ [⟨t, []⟩]) lv pv (xs0 ++ [.slice none 0 0]) q) (ht : t.length < 3) (hl : l.length < 64) (hb : Below B w0 w) (hB : B ≤ w0.heap.size) (c : UInt8) :
    Calls Tryz.prog 49 (stepArgs rb c) w (StepSays B rb w0 (tagS l t c)) := by
  unfold tagS
  by_cases hc : tagB c = false
  · rw [if_pos hc]
    exact (tag_bad rb w c hc).mono fun e w' h => ⟨h.1, h.2 ▸ hb⟩
  · rw [if_neg hc]
    have hc' : tagB c = true := by simpa using hc
    have hB' : B ≤ w.heap.size := Nat.le_trans hB hb.size
    refine (tag_ok h hB' c hc' ht).mono fun e w' h' => ?_
    obtain ⟨h1, h2, h3⟩ := h'
    by_cases h3' : t.length + 1 < 3
    · rw [if_pos h3'] at h1 ⊢
      exact ⟨h1, ⟨S, lv, pv, xs0, q, h2, by simpa using h3', hl⟩, hb.trans h3⟩
    · rw [if_neg h3'] at h1 ⊢
      exact ⟨h1, ⟨S, lv, pv, xs0, q, h2, hl⟩, hb.trans h3⟩
theorem step_put {S : Nat → Prop} {lv pv ev cv : Value} {xs ys : List Value} (h : RB S w B rb l t es cs p p lv pv ev cv xs ys) (hl : l.length < 64) (h16 : es.length + 1 ≤ 16) (h8 : cs.length + 1 ≤ 8) (hp : p.length ≤ 256) (hB : B ≤ w.heap.size) (c : UInt8) :
    Calls Tryz.prog 105 (stepArgs rb c) w (StepSays B rb w (putS l t es cs p c)) := by
  unfold putS
  by_cases h256 : p.length = 256
  · rw [if_pos h256]
    exact put_full h c h256
  · rw [if_neg h256]
    refine (put_ok h c hB (by omega)).mono fun e w' h' => ?_
    obtain ⟨h1, ⟨pv', h2⟩, h3⟩ := h'
    exact ⟨h1, ⟨S, lv, pv', ev, cv, xs, ys, h2, hl, h16, h8, by simp; omega⟩, h3⟩
theorem step_sign {S : Nat → Prop} {lv pv ev cv : Value} {xs ys : List Value} (h : RB S w B rb l t es cs p p lv pv ev cv xs ys) (hl : l.length < 64) (h16 : es.length + 1 ≤ 16) (h8 : cs.length + 1 ≤ 8) (hB : B ≤ w.heap.size) (c : UInt8) (hc : signB c = true) (h63 : c ≠ 63) :
    Calls Tryz.prog 76 (stepArgs rb c) w (StepSays B rb w (signS l t es cs p c)) := by
  unfold signS
  by_cases h39 : c = 39
  · subst h39
    rw [if_pos rfl]
    refine (sign_B39 h hB).mono fun e w' h' => ?_
    obtain ⟨h1, h2, h3⟩ := h'
    exact ⟨h1, ⟨_, _, _, _, _, h2, by simp; omega⟩, h3⟩
  · rw [if_neg h39]
    by_cases h43 : c = 43
    · subst h43
      rw [if_pos rfl]
      by_cases he : es.length + 1 = 16
      · rw [if_pos he]
        exact sign_B43_full h hB he
      · rw [if_neg he]
        refine (sign_B43_next h hB (by omega)).mono fun e w' h' => ?_
        obtain ⟨h1, ⟨ev', cv', h2⟩, h3⟩ := h'
        exact ⟨h1, ⟨_, _, _, _, _, _, _, h2, hl, by simp; omega, by simp, by simp⟩, h3⟩
    · rw [if_neg h43]
      have h58 : c = 58 := by
        unfold signB at hc
        simpa [h39, h43, h63] using hc
      subst h58
      by_cases he : cs.length + 1 = 8
      · rw [if_pos he]
        exact sign_B58_full h hB he
      · rw [if_neg he]
        refine (sign_B58_next h hB (by omega)).mono fun e w' h' => ?_
        obtain ⟨h1, ⟨cv', h2⟩, h3⟩ := h'
        exact ⟨h1, ⟨_, _, _, _, _, _, _, h2, hl, h16, by simp; omega, by simp⟩, h3⟩
end
/-- an answer has the form that a caller hands on -/
theorem says_form {B rb : Nat} {w : World} {r : ER} {f : Nat} {args : Array Value} (h : Calls Tryz.prog f args w (StepSays B rb w r)) : ∃ a b, ∃ R : World → Prop, (Calls Tryz.prog f args w fun e w' => e = .returned (.tuple #[a, b]) ∧ R w') ∧ ∀ e w', (e = .returned (.tuple #[a, b]) ∧ R w') → StepSays B rb w r e w' := by
  cases r with
  | err k => exact ⟨.nilFunc, .int .i64 k, fun w' => Below B w w', h, fun e w' h => h⟩
  | ok s => exact ⟨fnV rb (fnE s), .int .i64 0, fun w' => Rd w' B rb s ∧ Below B w w', h, fun e w' h => h⟩
theorem rd_step {w : World} {B rb : Nat} {s : EC} (h : Rd w B rb s) (hB : B ≤ w.heap.size) (c : UInt8) : Calls Tryz.prog (fnE s) (stepArgs rb c) w (StepSays B rb w (stepE s c)) := by
  cases s with
  | btw l =>
    obtain ⟨S, lv, pv, xs, p, h, hl⟩ := h
    show Calls Tryz.prog 31 _ w (StepSays B rb w (if c = 10 ∧ l ≠ [] then .ok (.btw l) else if l.length = 64 then .err 2 else tagS l [] c))
    by_cases hc : c = 10 ∧ l ≠ []
    · rw [if_pos hc]
      obtain ⟨rfl, hl0⟩ := hc
      exact (btw_nl h hl0).mono fun e w' h' => ⟨h'.1, ⟨S, lv, pv, xs, p, h'.2 ▸ h, hl⟩, h'.2 ▸ Below.refl B w⟩
    · rw [if_neg hc]
      by_cases h64 : l.length = 64
      · rw [if_pos h64]
        have hc10 : c ≠ 10 := fun e => hc ⟨e, fun e' => by rw [e'] at h64; exact absurd h64 (by decide)⟩
        exact (btw_full h c hc10 h64).mono fun e w' h' => ⟨h'.1, h'.2 ▸ Below.refl B w⟩
      · rw [if_neg h64]
        have key : ∀ (a b : Value) (R : World → Prop), (∀ w1 lv', RA S w1 B rb (l ++ [⟨[], []⟩]) lv' pv (xs ++ [.slice none 0 0]) p → Below B w w1 → Calls Tryz.prog 49 (stepArgs rb c) w1 fun e w' => e = .returned (.tuple #[a, b]) ∧ R w') → Calls Tryz.prog 31 (stepArgs rb c) w fun e w' => e = .returned (.tuple #[a, b]) ∧ R w' :=
          fun a b R hT => btw_tag h hB c hc (by omega) hT
        cases hr : tagS l [] c with
        | err k =>
          refine (key .nilFunc (.int .i64 k) (fun w' => Below B w w') fun w1 lv' h1 hb => ?_).mono fun e w' h' => h'
          have := step_tag h1 (by simp) (by omega) hb hB c
          rw [hr] at this
          exact this
        | ok s' =>
          refine (key (fnV rb (fnE s')) (.int .i64 0) (fun w' => Rd w' B rb s' ∧ Below B w w') fun w1 lv' h1 hb => ?_).mono fun e w' h' => h'
          have := step_tag h1 (by simp) (by omega) hb hB c
          rw [hr] at this
          exact this
  | tag l t =>
    obtain ⟨S, lv, pv, xs, p, h, ht, hl⟩ := h
    exact step_tag h ht hl (Below.refl B w) hB c
  | bhd l t =>
    obtain ⟨S, lv, pv, xs, p, h, hl⟩ := h
    show Calls Tryz.prog 60 _ w (StepSays B rb w (if c = 39 then .ok (.btw (l ++ [⟨t, []⟩])) else if c = 43 then .ok (.cmp l t [] [] []) else .err 30))
    by_cases h39 : c = 39
    · subst h39
      rw [if_pos rfl]
      refine (bhd_39 (R := fun w' => RA S w' B rb (l ++ [⟨t, []⟩]) lv (.slice none 0 0) (xs ++ [.slice none 0 0]) [] ∧ Below B w w') (sign_A39 h hB)).mono fun e w' h' => ?_
      exact ⟨h'.1, ⟨_, _, _, _, _, h'.2.1, by simp; omega⟩, h'.2.2⟩
    · rw [if_neg h39]
      by_cases h43 : c = 43
      · subst h43
        rw [if_pos rfl]
        refine (bhd_43 (R := fun w' => (∃ ev cv, RB S w' B rb l t [] [] [] [] lv (.slice none 0 0) ev cv xs []) ∧ Below B w w') (sign_A43 h hB)).mono fun e w' h' => ?_
        obtain ⟨h1, ⟨ev, cv, h2⟩, h3⟩ := h'
        exact ⟨h1, ⟨_, _, _, _, _, _, _, h2, hl, by simp, by simp, by simp⟩, h3⟩
      · rw [if_neg h43]
        exact (bhd_bad rb w c h43 h39).mono fun e w' h' => ⟨h'.1, h'.2 ▸ Below.refl B w⟩
  | cmp l t es cs p =>
    obtain ⟨S, lv, pv, ev, cv, xs, ys, h, hl, h16, h8, hp⟩ := h
    show Calls Tryz.prog 92 _ w (StepSays B rb w (if c = 63 then .ok (.rel l t es cs p) else if signB c = true then signS l t es cs p c else if c.toNat < 32 ∨ 126 < c.toNat then .err 30 else putS l t es cs p c))
    by_cases h63 : c = 63
    · subst h63
      rw [if_pos rfl]
      exact (comp_63 rb w).mono fun e w' h' => ⟨h'.1, ⟨_, _, _, _, _, _, _, h'.2 ▸ h, hl, h16, h8, hp⟩, h'.2 ▸ Below.refl B w⟩
    · rw [if_neg h63]
      by_cases hs : signB c = true
      · rw [if_pos hs]
        obtain ⟨a, b, R, h1, h2⟩ := says_form (step_sign h hl h16 h8 hB c hs h63)
        exact (comp_sign c hs h63 h1).mono h2
      · rw [if_neg hs]
        have hs' : signB c = false := by simpa using hs
        by_cases hb : c.toNat < 32 ∨ 126 < c.toNat
        · rw [if_pos hb]
          exact (comp_bad rb w c hs' hb).mono fun e w' h' => ⟨h'.1, h'.2 ▸ Below.refl B w⟩
        · rw [if_neg hb]
          obtain ⟨a, b, R, h1, h2⟩ := says_form (step_put h hl h16 h8 hp hB c)
          exact (comp_put c hs' hb h1).mono h2
  | rel l t es cs p =>
    obtain ⟨S, lv, pv, ev, cv, xs, ys, h, hl, h16, h8, hp⟩ := h
    show Calls Tryz.prog 103 _ w (StepSays B rb w (if signB c = true then putS l t es cs p c else .err 30))
    by_cases hs : signB c = true
    · rw [if_pos hs]
      obtain ⟨a, b, R, h1, h2⟩ := says_form (step_put h hl h16 h8 hp hB c)
      exact (rel_put c hs h1).mono h2
    · rw [if_neg hs]
      have hs' : signB c = false := by simpa using hs
      exact (rel_bad rb w c hs').mono fun e w' h' => ⟨h'.1, h'.2 ▸ Below.refl B w⟩
end Go.Proofs.YteaaiejfieaalaaGreatDoor

/-
  EdiQ: contract of held. No condition beyond those stated.
-/
namespace Go.Proofs.YteaaiejfieaalaaGreatDoor
open Go.RowKit
/-- how many ? end the first i bytes -/
def heldN (t : Str) (i : Nat) : Nat := ((t.take i).reverse.takeWhile (· == 63)).length
theorem takeWhile_len {α : Type} (f : α → Bool) : ∀ (l : List α) (k : Nat), (∀ j, j < k → ∃ x, l[j]? = some x ∧ f x = true) → (∀ x, l[k]? = some x → f x = false) → (l.takeWhile f).length = k
  | [], k, h1, _ => by
    cases k with
    | zero => rfl
    | succ k => obtain ⟨x, hx, _⟩ := h1 0 (by omega); simp at hx
  | a :: l, k, h1, h2 => by
    cases k with
    | zero => have := h2 a rfl; simp [List.takeWhile, this]
    | succ k =>
      obtain ⟨x, hx, hf⟩ := h1 0 (by omega)
      simp at hx; subst hx
      rw [List.takeWhile_cons, if_pos hf, List.length_cons, takeWhile_len f l k (fun j hj => by simpa using h1 (j + 1) (by omega)) (fun x hx => h2 x (by simpa using hx))]
theorem rev_take {t : Str} {i j : Nat} (hi : i ≤ t.length) (hj : j < i) : (t.take i).reverse[j]? = t[i - 1 - j]? := by
  rw [List.getElem?_reverse (by simp; omega)]
  simp only [List.length_take]
  rw [Nat.min_eq_left hi, List.getElem?_take_of_lt (by omega)]
theorem heldN_of {t : Str} {i k : Nat} (hi : i ≤ t.length) (hk : k ≤ i) (h1 : ∀ j, j < k → t[i - 1 - j]? = some 63) (h2 : k = i ∨ t[i - 1 - k]? ≠ some 63) : heldN t i = k := by
  refine takeWhile_len _ _ k (fun j hj => ⟨63, ?_, rfl⟩) (fun x hx => ?_)
  · rw [rev_take hi (by omega)]; exact h1 j hj
  · rcases h2 with rfl | h2
    · rw [List.getElem?_eq_none (by simp; omega)] at hx; cases hx
    · by_cases hki : k < i
      · rw [rev_take hi hki] at hx
        rw [hx] at h2
        simpa using h2
      · rw [List.getElem?_eq_none (by simp; omega)] at hx; cases hx
theorem at_byte (s : ByteArray) (i : Nat) (h : i < s.size) : s.data.toList[i]? = some (s[i]'h) := by
  show s.data.toList[i]? = some (s.data[i]'h)
  rw [List.getElem?_eq_getElem (by simpa using h)]
  simp
set_option maxRecDepth 100000 in
set_option maxHeartbeats 2000000 in
theorem held_any (r : Value) (s : ByteArray) (i : Nat) (hi : i ≤ s.size) (hs : s.size < 9223372036854775807) (w : World) : Calls Tryz.prog 32 #[r, .string s, .int .i64 (i : Int)] w fun e w' => e = .returned (.bool (heldN s.data.toList i % 2 == 1)) ∧ w = w' := by
  have heq : ∀ k : Nat, (((k : Int) % 2) == 1) = (k % 2 == 1) := fun k => by rw [Bool.eq_iff_iff, beq_iff_eq, beq_iff_eq]; omega
  have HEQ := Lib.hid heq
  clear heq
  go_enter Tryz.func32, Tryz.ntmps32
  go_wp2
  go_loop [7] (fun n => ∃ k : Nat, k ≤ i ∧ n = .int .i64 (k : Int) ∧ Hid (∀ j, j < k → s.data.toList[i - 1 - j]? = some 63)) (fun n => i - (intOf n).toNat)
  case atStart => exact ⟨0, by omega, rfl, Lib.hid fun j hj => absurd hj (by omega)⟩
  case round =>
    obtain ⟨k, hk, rfl, HK⟩ := hrel
    by_cases hlt : k < i
    · have hw1 : IntKind.i64.wrap ((i : Int) - 1) = ((i - 1 : Nat) : Int) := by rw [show ((i - 1 : Nat) : Int) = (i : Int) - 1 by omega]; exact IntWalk.i64_in _ (by omega)
      have hw2 : IntKind.i64.wrap (((i - 1 : Nat) : Int) - (k : Int)) = ((i - 1 - k : Nat) : Int) := by rw [show ((i - 1 - k : Nat) : Int) = ((i - 1 : Nat) : Int) - (k : Int) by omega]; exact IntWalk.i64_in _ (by omega)
      have hb : i - 1 - k < s.size := by omega
      have hA := at_byte s _ hb
      by_cases hq : s[i - 1 - k]'hb = 63
      · have hd : (((s[i - 1 - k]'hb).toNat : Int) == 63) = true := by rw [hq]; decide
        go_wp2
        go_round
        case rel =>
          refine ⟨k + 1, by omega, by go_num, Lib.hid fun j hj => ?_⟩
          by_cases hjk : j < k
          · exact HK.out j hjk
          · obtain rfl : j = k := by omega
            rw [hA, hq]
        case measure => simp [intOf]; omega
      · have hd : (((s[i - 1 - k]'hb).toNat : Int) == 63) = false := nat_eq _ 63 hq
        have HH := Lib.hid (show heldN s.data.toList i = k from heldN_of (by simpa using hi) hk HK.out (.inr (by rw [hA]; exact fun e => hq (Option.some.inj e))))
        go_wp2
        go_ret
        exact ⟨by rw [HH.out, ← HEQ.out k]; rfl, rfl⟩
    · obtain rfl : k = i := by omega
      have HH := Lib.hid (show heldN s.data.toList k = k from heldN_of (by simpa using hi) hk HK.out (.inl rfl))
      go_wp2
      go_ret
      exact ⟨by rw [HH.out, ← HEQ.out k]; rfl, rfl⟩
end Go.Proofs.YteaaiejfieaalaaGreatDoor

/-
  EdiT: the machine of bytes: when it stands between segments; what a reader between segments reads as. No condition beyond those stated.
-/
namespace Go.Proofs.YteaaiejfieaalaaGreatDoor
open Go.RowKit
def isBtw : EC → Bool
  | .btw _ => true
  | _ => false
def isRel : EC → Bool
  | .rel _ _ _ _ _ => true
  | _ => false
theorem tagS_form {l : List Seg} {t : Str} {c : UInt8} {s' : EC} (h : tagS l t c = .ok s') : tagB c = true ∧ isBtw s' = false ∧ isRel s' = false := by
  unfold tagS at h
  by_cases hc : tagB c = false
  · rw [if_pos hc] at h; cases h
  · rw [if_neg hc] at h
    refine ⟨by simpa using hc, ?_⟩
    by_cases h3 : t.length + 1 < 3
    · rw [if_pos h3] at h; cases h; exact ⟨rfl, rfl⟩
    · rw [if_neg h3] at h; cases h; exact ⟨rfl, rfl⟩
theorem putS_form {l : List Seg} {t : Str} {es : List (List Str)} {cs : List Str} {p : Str} {c : UInt8} {s' : EC} (h : putS l t es cs p c = .ok s') : isBtw s' = false ∧ isRel s' = false := by
  unfold putS at h
  split at h
  · cases h
  · cases h; exact ⟨rfl, rfl⟩
theorem signS_form {l : List Seg} {t : Str} {es : List (List Str)} {cs : List Str} {p : Str} {c : UInt8} {s' : EC} (h : signS l t es cs p c = .ok s') : isBtw s' = (c == 39) ∧ isRel s' = false := by
  unfold signS at h
  by_cases h39 : c = 39
  · rw [if_pos h39] at h; cases h; subst h39; exact ⟨rfl, rfl⟩
  · rw [if_neg h39] at h
    have e : (c == 39) = false := beq_eq_false_iff_ne.2 h39
    rw [e]
    split at h
    · split at h
      · cases h
      · cases h; exact ⟨rfl, rfl⟩
    · split at h
      · cases h
      · cases h; exact ⟨rfl, rfl⟩
/-- a step: where it stands behind it -/
theorem step_form {s s' : EC} {c : UInt8} (h : stepE s c = .ok s') : isBtw s' = (c == 10 || (c == 39 && !isRel s)) ∧ isRel s' = (c == 63 && !isRel s) := by
  cases s with
  | btw l =>
    simp only [stepE] at h
    by_cases hc : c = 10 ∧ l ≠ []
    · rw [if_pos hc] at h; cases h; rw [hc.1]; exact ⟨rfl, rfl⟩
    · rw [if_neg hc] at h
      split at h
      · cases h
      · obtain ⟨h1, h2, h3⟩ := tagS_form h
        rw [h2, h3]
        refine ⟨?_, ?_⟩
        · have n1 : c ≠ 10 := by rintro rfl; exact absurd h1 (by decide)
          have n2 : c ≠ 39 := by rintro rfl; exact absurd h1 (by decide)
          simp [n1, n2]
        · have n2 : c ≠ 63 := by rintro rfl; exact absurd h1 (by decide)
          simp [n2]
  | tag l t =>
    obtain ⟨h1, h2, h3⟩ := tagS_form h
    rw [h2, h3]
    refine ⟨?_, ?_⟩
    · have n1 : c ≠ 10 := by rintro rfl; exact absurd h1 (by decide)
      have n2 : c ≠ 39 := by rintro rfl; exact absurd h1 (by decide)
      simp [n1, n2]
    · have n2 : c ≠ 63 := by rintro rfl; exact absurd h1 (by decide)
      simp [n2]
  | bhd l t =>
    simp only [stepE] at h
    split at h
    · cases h; subst_vars; exact ⟨rfl, rfl⟩
    · split at h
      · cases h; subst_vars; exact ⟨rfl, rfl⟩
      · cases h
  | cmp l t es cs p =>
    simp only [stepE] at h
    split at h
    · cases h; subst_vars; exact ⟨rfl, rfl⟩
    · rename_i h63
      split at h
      · rename_i hs
        obtain ⟨h1, h2⟩ := signS_form h
        have n1 : c ≠ 10 := by rintro rfl; exact absurd hs (by decide)
        rw [h1, h2]
        simp [n1, h63, isRel]
      · rename_i hs
        split at h
        · cases h
        · rename_i hb
          obtain ⟨h1, h2⟩ := putS_form h
          have n1 : c ≠ 10 := by rintro rfl; exact hb (by decide)
          have n2 : c ≠ 39 := by rintro rfl; exact hs (by decide)
          rw [h1, h2]
          simp [n1, n2, h63]
  | rel l t es cs p =>
    simp only [stepE] at h
    split at h
    · rename_i hs
      obtain ⟨h1, h2⟩ := putS_form h
      have n1 : c ≠ 10 := by rintro rfl; exact absurd hs (by decide)
      rw [h1, h2]
      simp [n1, isRel]
    · cases h
theorem step_err {s : EC} {c : UInt8} {k : Int} (h : stepE s c = .err k) : k = 2 ∨ k = 30 := by
  have hT : ∀ l t, tagS l t c = .err k → k = 2 ∨ k = 30 := fun l t h => by
    unfold tagS at h
    split at h
    · cases h; exact .inr rfl
    · split at h <;> cases h
  have hP : ∀ l t es cs p, putS l t es cs p c = .err k → k = 2 ∨ k = 30 := fun l t es cs p h => by
    unfold putS at h
    split at h
    · cases h; exact .inl rfl
    · cases h
  have hS : ∀ l t es cs p, signS l t es cs p c = .err k → k = 2 ∨ k = 30 := fun l t es cs p h => by
    unfold signS at h
    split at h
    · cases h
    · split at h
      · split at h
        · cases h; exact .inl rfl
        · cases h
      · split at h
        · cases h; exact .inl rfl
        · cases h
  cases s with
  | btw l =>
    simp only [stepE] at h
    split at h
    · cases h
    · split at h
      · cases h; exact .inl rfl
      · exact hT _ _ h
  | tag l t => exact hT _ _ h
  | bhd l t =>
    simp only [stepE] at h
    split at h
    · cases h
    · split at h
      · cases h
      · cases h; exact .inr rfl
  | cmp l t es cs p =>
    simp only [stepE] at h
    split at h
    · cases h
    · split at h
      · exact hS _ _ _ _ _ h
      · split at h
        · cases h; exact .inr rfl
        · exact hP _ _ _ _ _ h
  | rel l t es cs p =>
    simp only [stepE] at h
    split at h
    · exact hP _ _ _ _ _ h
    · cases h; exact .inr rfl
theorem heldN_succ {t : Str} {i : Nat} {c : UInt8} (h : t[i]? = some c) : heldN t (i + 1) = if c == 63 then heldN t i + 1 else 0 := by
  have hi : i < t.length := (List.getElem?_eq_some_iff.1 h).1
  unfold heldN
  rw [List.take_add_one, h, Option.toList_some, List.reverse_append, List.reverse_singleton, List.singleton_append, List.takeWhile_cons]
  by_cases hc : (c == 63) = true
  · rw [if_pos hc, if_pos hc, List.length_cons]
  · rw [if_neg hc, if_neg hc]; rfl
theorem heldN_zero (t : Str) : heldN t 0 = 0 := by simp [heldN]
/-- the parity of ?s is the state -/
theorem held_step {t : Str} {i : Nat} {c : UInt8} {s s' : EC} (h : t[i]? = some c) (hs : stepE s c = .ok s') (hp : (heldN t i % 2 == 1) = isRel s) : (heldN t (i + 1) % 2 == 1) = isRel s' := by
  rw [heldN_succ h, (step_form hs).2, ← hp]
  by_cases hc : c = 63
  · subst hc
    simp only [beq_self_eq_true, if_pos, Bool.true_and]
    rw [Bool.eq_iff_iff, beq_iff_eq, Bool.not_eq_true', beq_eq_false_iff_ne]
    omega
  · have e : (c == 63) = false := beq_eq_false_iff_ne.2 hc
    rw [e]; rfl
section
variable {S : Nat → Prop} {w : World} {B rb : Nat} {l : List Seg} {lv pv : Value} {xs : List Value} {p : Str}
/-- a reader between segments: what it has read -/
theorem RA.segs (h : RA S w B rb l lv pv xs p) : SegsO (fun k => B ≤ k ∧ k < w.heap.size) B w lv l :=
  ⟨xs, h.hl, fun _ hk => own_lt h.hl hk, h.xl, fun i s x hs hx => (h.hes i s x hs hx).cong (fun k hk => ⟨(h.s1 k hk).1, (h.s1 k hk).2.1⟩) (fun _ _ => rfl)⟩
end
end Go.Proofs.YteaaiejfieaalaaGreatDoor

/-
  EdiU: contract of Parse. No condition beyond those stated.
-/
namespace Go.Proofs.YteaaiejfieaalaaGreatDoor
open Go.RowKit
theorem parse_big (s : ByteArray) (h : 65536 < s.size) (w : World) : Calls Tryz.prog 17 #[.string s] w fun e w' => e = .returned (.tuple #[.slice none 0 0, .int .i64 0, .int .i64 2]) ∧ w = w' := by
  have d1 : decide ((65536 : Int) < (s.size : Int)) = true := by rw [decide_eq_true_eq]; omega
  go_enter Tryz.func17, Tryz.ntmps17
  go_wp2_with fail
  go_ret3
  exact ⟨rfl, rfl⟩
theorem parseE_ok {t : Str} (h : t.length ≤ 65536) : parseE t = match runE (.btw []) 0 t with
    | .err i k => ([], i, k)
    | .ok (.btw l) => (l, 0, 0)
    | .ok _ => ([], t.length, 31) := by
  unfold parseE
  rw [if_neg (by omega)]
  rfl
theorem rd_start (w : World) (n : Nat) (hn : n = w.heap.size) : Rd (w.alloc (.cells #[.slice none 0 0, .slice none 0 0] 65)) n n (.btw []) := by
  subst hn
  refine ⟨fun _ => False, .slice none 0 0, .slice none 0 0, [], [], ⟨Nat.le_refl _, ?_, ?_, ?_, rfl, ?_, ?_⟩, by decide⟩
  · exact heap_alloc_new _ _
  · exact ⟨rfl, .inl ⟨rfl, rfl⟩⟩
  · exact ⟨rfl, .inl ⟨rfl, rfl⟩⟩
  · intro i s x h; simp at h
  · intro k hk; exact hk.elim
theorem enter_fn {f : Nat} {fn : Func} {c : Code} (hf : Tryz.prog.funcs[f]? = some fn) (hname : (fn.name == "runtime.NumGoroutine") = false) (hb : fn.body = some c) (args : Array Value) (w : World) :
    (callFunc f args).run Tryz.prog w = .ok (.enter f args) w := by
  have h1 : fn.name ≠ "runtime.NumGoroutine" := by simpa using hname
  simp [callFunc, hf, h1, hb, mark]
theorem enter_step (c : EC) (args : Array Value) (w : World) : (callFunc (fnE c) args).run Tryz.prog w = .ok (.enter (fnE c) args) w := by
  cases c with
  | btw l => exact enter_fn Tryz.func31 (by decide) rfl args w
  | tag l t => exact enter_fn Tryz.func49 (by decide) rfl args w
  | bhd l t => exact enter_fn Tryz.func60 (by decide) rfl args w
  | cmp l t es cs p => exact enter_fn Tryz.func92 (by decide) rfl args w
  | rel l t es cs p => exact enter_fn Tryz.func103 (by decide) rfl args w
set_option maxRecDepth 100000 in
set_option maxHeartbeats 4000000 in
theorem parse_own (s : ByteArray) (h : s.size ≤ 65536) (w : World) : Calls Tryz.prog 17 #[.string s] w fun e w' => ∃ v, e = .returned (.tuple #[v, .int .i64 ((parseE s.data.toList).2.1 : Int), .int .i64 (parseE s.data.toList).2.2]) ∧ SegsO (fun k => w.heap.size ≤ k ∧ k < w'.heap.size) w.heap.size w' v (parseE s.data.toList).1 ∧ Below w.heap.size w w' := by
  have d1 : decide ((65536 : Int) < (s.size : Int)) = false := by rw [decide_eq_false_iff_not]; omega
  obtain ⟨P, hP⟩ : ∃ P, parseE s.data.toList = P := ⟨_, rfl⟩
  rw [hP]
  have HP := Lib.hid hP
  clear hP
  go_enter Tryz.func17, Tryz.ntmps17
  go_wp2_with fail
  obtain ⟨rb, hrb⟩ : ∃ rb, w.heap.size = rb := ⟨_, rfl⟩
  rw [hrb]
  obtain ⟨w1, hw1⟩ : ∃ w1, w.alloc (.cells #[.slice none 0 0, .slice none 0 0] 65) = w1 := ⟨_, rfl⟩
  have HR := Lib.hid (show Rd w1 rb rb (.btw []) by rw [← hw1]; exact rd_start w rb hrb.symm)
  have HB := Lib.hid (show Below rb w w1 by rw [← hw1, ← hrb]; exact (Below.refl _ w).alloc (Nat.le_refl _) _)
  rw [hw1]
  clear hw1
  go_loopw [6, 7, 20] (fun nx dn i wr => ∃ (k : Nat) (c : EC), k ≤ s.size ∧ i = .int .i64 (k : Int) ∧ nx = .func (.func (fnE c)) #[.pointer (some ⟨rb, 0, none⟩)] #[] ∧ dn = .bool (isBtw c) ∧ Hid (Rd wr rb rb c) ∧ Hid (Below rb w wr) ∧ Hid (runE (.btw []) 0 s.data.toList = runE c k (s.data.toList.drop k)) ∧ Hid ((heldN s.data.toList k % 2 == 1) = isRel c)) (fun _ _ i _ => s.size - (intOf i).toNat)
  case atStart => exact ⟨0, .btw [], by omega, rfl, rfl, rfl, HR, HB, Lib.hid rfl, Lib.hid (by rw [heldN_zero]; rfl)⟩
  case round =>
    obtain ⟨k, c, hk, rfl, rfl, rfl, HD, HF, HN, HH⟩ := hrel
    clear HR HB
    by_cases hlt : k < s.size
    · have hA := at_byte s _ hlt
      obtain ⟨b, hb⟩ : ∃ b, s[k]'hlt = b := ⟨_, rfl⟩
      rw [hb] at hA
      have hent := enter_step c
      have hDR : s.data.toList.drop k = b :: s.data.toList.drop (k + 1) := by
        obtain ⟨hl, he⟩ := List.getElem?_eq_some_iff.1 hA
        rw [List.drop_eq_getElem_cons hl, he]
      have hS := rd_step HD.out (by have := HF.out.size; omega) b
      cases hr : stepE c b with
      | err kk =>
        rw [hr] at hS
        have HS := Lib.hid hS
        clear hS
        have hP : P = ([], k, kk) := by
          rw [← HP.out, parseE_ok (by simpa using h), HN.out, hDR]
          simp only [runE, hr]
        subst hP
        rcases step_err hr with rfl | rfl
        · go_wp2_with (go_fit HS.out; rintro e w' ⟨rfl, hB⟩; have HB2 := Lib.hid hB; clear hB)
          go_ret3
          exact ⟨_, rfl, SegsO.nil _ _ _, HF.out.trans HB2.out⟩
        · go_wp2_with (go_fit HS.out; rintro e w' ⟨rfl, hB⟩; have HB2 := Lib.hid hB; clear hB)
          go_ret3
          exact ⟨_, rfl, SegsO.nil _ _ _, HF.out.trans HB2.out⟩
      | ok c' =>
        rw [hr] at hS
        have HS := Lib.hid hS
        have HC := Lib.hid (step_form hr)
        clear hS
        have HX := Lib.hid (show runE (.btw []) 0 s.data.toList = runE c' (k + 1) (s.data.toList.drop (k + 1)) by
          rw [HN.out, hDR]
          simp only [runE, hr])
        have HY := Lib.hid (held_step hA hr HH.out)
        have hHL := fun w => held_any (.pointer (some ⟨rb, 0, none⟩)) s k (by omega) (by omega) w
        have HHL := Lib.hid hHL
        clear hHL hDR
        by_cases h10 : b = 10
        · have hbv : isBtw c' = true := by rw [HC.out.1, h10]; rfl
          subst h10
          go_wp2_with (go_fit HS.out; rintro e w' ⟨rfl, hD, hB⟩; have HD2 := Lib.hid hD; have HB2 := Lib.hid hB; clear hB hD)
          go_round
          case rel => exact ⟨k + 1, c', by omega, by go_num, rfl, by rw [hbv], HD2, Lib.hid (HF.out.trans HB2.out), HX, HY⟩
          case measure => simp [intOf]; omega
        · have n10 : ((b.toNat : Int) == 10) = false := nat_eq b 10 h10
          by_cases h39 : b = 39
          · subst h39
            by_cases hk0 : k = 0
            · have k0 : ((k : Int) == 0) = true := by rw [hk0]; rfl
              have hbv : isBtw c' = true := by rw [HC.out.1, ← HH.out, hk0, heldN_zero]; rfl
              clear hk0
              go_wp2_with (go_fit HS.out; rintro e w' ⟨rfl, hD, hB⟩; have HD2 := Lib.hid hD; have HB2 := Lib.hid hB; clear hB hD)
              go_round
              case rel => exact ⟨k + 1, c', by omega, by go_num, rfl, by rw [hbv], HD2, Lib.hid (HF.out.trans HB2.out), HX, HY⟩
              case measure => simp [intOf]; omega
            · have k0 : ((k : Int) == 0) = false := by rw [beq_eq_false_iff_ne]; omega
              have hbv : isBtw c' = !(heldN s.data.toList k % 2 == 1) := by rw [HC.out.1, ← HH.out]; rfl
              have HBV := Lib.hid hbv
              clear hbv
              go_wp2_with first | (go_fit HS.out; rintro e w' ⟨rfl, hD, hB⟩; have HD2 := Lib.hid hD; have HB2 := Lib.hid hB; clear hB hD) | (go_at_call 32; refine (HHL.out _).mono ?_; rintro e w' ⟨rfl, rfl⟩)
              go_round
              case rel => exact ⟨k + 1, c', by omega, by go_num, rfl, by rw [HBV.out], HD2, Lib.hid (HF.out.trans HB2.out), HX, HY⟩
              case measure => simp [intOf]; omega
          · have n39 : ((b.toNat : Int) == 39) = false := nat_eq b 39 h39
            have hbv : isBtw c' = false := by rw [HC.out.1]; simp [h10, h39]
            go_wp2_with (go_fit HS.out; rintro e w' ⟨rfl, hD, hB⟩; have HD2 := Lib.hid hD; have HB2 := Lib.hid hB; clear hB hD)
            go_round
            case rel => exact ⟨k + 1, c', by omega, by go_num, rfl, by rw [hbv], HD2, Lib.hid (HF.out.trans HB2.out), HX, HY⟩
            case measure => simp [intOf]; omega
    · obtain rfl : k = s.size := by omega
      have hN := HN.out
      rw [List.drop_eq_nil_of_le (by simp)] at hN
      simp only [runE] at hN
      have hPP : P = match (EO.ok c) with
          | .err i k => ([], i, k)
          | .ok (.btw l) => (l, 0, 0)
          | .ok _ => ([], s.data.toList.length, 31) := by
        rw [← HP.out, parseE_ok (by simpa using h), hN]
      have hsz : s.data.toList.length = s.size := by simp
      rw [hsz] at hPP
      clear hN
      cases c with
      | btw l =>
        obtain ⟨S, lv, pv, xs, p, hR, hl64⟩ := HD.out
        have d0 := hR.c0
        have HRR := Lib.hid hR
        clear hR
        simp only [isBtw]
        replace hPP : P = (l, 0, 0) := hPP
        subst hPP
        go_wp2_with fail
        go_ret3
        exact ⟨_, rfl, HRR.out.segs, HF.out⟩
      | tag l t =>
        simp only [isBtw]
        replace hPP : P = ([], s.size, 31) := hPP
        subst hPP
        go_wp2_with fail
        go_ret3
        exact ⟨_, rfl, SegsO.nil _ _ _, HF.out⟩
      | bhd l t =>
        simp only [isBtw]
        replace hPP : P = ([], s.size, 31) := hPP
        subst hPP
        go_wp2_with fail
        go_ret3
        exact ⟨_, rfl, SegsO.nil _ _ _, HF.out⟩
      | cmp l t es cs p =>
        simp only [isBtw]
        replace hPP : P = ([], s.size, 31) := hPP
        subst hPP
        go_wp2_with fail
        go_ret3
        exact ⟨_, rfl, SegsO.nil _ _ _, HF.out⟩
      | rel l t es cs p =>
        simp only [isBtw]
        replace hPP : P = ([], s.size, 31) := hPP
        subst hPP
        go_wp2_with fail
        go_ret3
        exact ⟨_, rfl, SegsO.nil _ _ _, HF.out⟩
theorem parse_any (s : ByteArray) (h : s.size ≤ 65536) (w : World) : Calls Tryz.prog 17 #[.string s] w fun e w' => ∃ v, e = .returned (.tuple #[v, .int .i64 ((parseE s.data.toList).2.1 : Int), .int .i64 (parseE s.data.toList).2.2]) ∧ SegsAt (fun k => w.heap.size ≤ k ∧ k < w'.heap.size) w' v (parseE s.data.toList).1 ∧ Below w.heap.size w w' :=
  (parse_own s h w).mono fun _ _ ⟨v, h1, h2, h3⟩ => ⟨v, h1, h2.lies, h3⟩
end Go.Proofs.YteaaiejfieaalaaGreatDoor

/-
  EdiV: plain laws of texts of segments: what is printed is read as it was. No condition beyond those stated.
-/
namespace Go.Proofs.YteaaiejfieaalaaGreatDoor
/-- no byte out of range -/
def okB (c : UInt8) : Prop := 32 ≤ c.toNat ∧ c.toNat ≤ 126
def okP (p : Str) : Prop := p.length ≤ 256 ∧ ∀ c ∈ p, okB c
def okEl (e : List Str) : Prop := e ≠ [] ∧ e.length ≤ 8 ∧ ∀ p ∈ e, okP p
def okT (t : Str) : Prop := t.length = 3 ∧ ∀ c ∈ t, tagB c = true
def okS (s : Seg) : Prop := okT s.tag ∧ s.elems.length ≤ 16 ∧ ∀ e ∈ s.elems, okEl e
def okL (l : List Seg) : Prop := l.length ≤ 64 ∧ ∀ s ∈ l, okS s
theorem badB_iff (c : UInt8) : badB c = false ↔ okB c := by
  unfold badB okB; simp
theorem printE_ok {l : List Seg} : okL l → (printT l).length ≤ 65536 → printE l = (printT l, 0) := by
  intro h hl
  have h1 : argP l = false := by
    unfold argP; rw [List.any_eq_false]; intro s hs
    have := h.2 s hs
    rw [Bool.not_eq_true, Bool.or_eq_false_iff]
    refine ⟨?_, ?_⟩
    · unfold tagBad
      rw [Bool.or_eq_false_iff]
      refine ⟨by simp [this.1.1], ?_⟩
      simp only [Bool.not_eq_false', List.all_eq_true]
      exact this.1.2
    · rw [List.any_eq_false]; intro e he; have := this.2.2 e he
      cases e with
      | nil => exact absurd rfl this.1
      | cons a b => simp
  have h2 : signP l = false := by
    unfold signP; rw [List.any_eq_false]; intro s hs
    rw [Bool.not_eq_true, List.any_eq_false]; intro e he
    rw [Bool.not_eq_true, List.any_eq_false]; intro p hp
    rw [Bool.not_eq_true, List.any_eq_false]; intro c hc
    rw [Bool.not_eq_true]
    exact (badB_iff c).2 ((((h.2 s hs).2.2 e he).2.2 p hp).2 c hc)
  have h3 : longP l = false := by
    unfold longP; rw [Bool.or_eq_false_iff]; refine ⟨by have := h.1; simp; omega, ?_⟩
    rw [List.any_eq_false]; intro s hs
    rw [Bool.not_eq_true, Bool.or_eq_false_iff]; refine ⟨by have := (h.2 s hs).2.1; simp; omega, ?_⟩
    rw [List.any_eq_false]; intro e he
    rw [Bool.not_eq_true, Bool.or_eq_false_iff]; refine ⟨by have := ((h.2 s hs).2.2 e he).2.1; simp; omega, ?_⟩
    rw [List.any_eq_false]; intro p hp
    have := (((h.2 s hs).2.2 e he).2.2 p hp).1
    simp; omega
  unfold printE
  rw [h1, h2, h3]
  simp; omega
theorem okL_of {l : List Seg} {t : Str} (h : printE l = (t, 0)) : okL l ∧ t = printT l ∧ t.length ≤ 65536 := by
  unfold printE at h
  split at h
  · cases h
  · rename_i ha
    split at h
    · cases h
    · rename_i hs
      split at h
      · cases h
      · rename_i hg
        cases h
        rw [Bool.not_eq_true] at ha hs hg
        rw [Bool.or_eq_false_iff] at hg
        have hlen := hg.2
        have hlong := hg.1
        unfold argP at ha; unfold signP at hs; unfold longP at hlong
        rw [Bool.or_eq_false_iff] at hlong
        rw [List.any_eq_false] at ha hs
        obtain ⟨hl1, hl2⟩ := hlong
        rw [List.any_eq_false] at hl2
        refine ⟨⟨by simpa using hl1, fun s hs' => ?_⟩, rfl, by simpa using hlen⟩
        have a1 := ha s hs'
        have a2 := hs s hs'
        have a3 := hl2 s hs'
        rw [Bool.not_eq_true, Bool.or_eq_false_iff] at a1 a3
        rw [Bool.not_eq_true, List.any_eq_false] at a2
        obtain ⟨b1, b2⟩ := a1
        obtain ⟨c1, c2⟩ := a3
        rw [List.any_eq_false] at b2 c2
        unfold tagBad at b1
        rw [Bool.or_eq_false_iff] at b1
        obtain ⟨b3, b4⟩ := b1
        rw [Bool.not_eq_false', List.all_eq_true] at b4
        refine ⟨⟨by simpa using b3, b4⟩, by simpa using c1, fun e he => ?_⟩
        have d1 := b2 e he
        have d2 := a2 e he
        have d3 := c2 e he
        rw [Bool.not_eq_true, List.any_eq_false] at d2
        rw [Bool.not_eq_true, Bool.or_eq_false_iff] at d3
        obtain ⟨d4, d5⟩ := d3
        rw [List.any_eq_false] at d5
        refine ⟨fun e0 => by subst e0; simp at d1, by simpa using d4, fun p hp => ?_⟩
        have f1 := d2 p hp
        have f2 := d5 p hp
        rw [Bool.not_eq_true, List.any_eq_false] at f1
        exact ⟨by simpa using f2, fun c hc => (badB_iff c).1 (by simpa using f1 c hc)⟩
/-! ### reading what was printed -/
theorem runE_tag (l : List Seg) : ∀ (r t : Str) (i : Nat) (k : Str), t.length + r.length = 3 → 0 < r.length → (∀ c ∈ r, tagB c = true) → runE (.tag l t) i (r ++ k) = runE (.bhd l (t ++ r)) (i + r.length) k
  | [], _, _, _, _, h, _ => by simp at h
  | [c], t, i, k, h, _, hc => by
    have hc := hc c (by simp)
    simp at h
    simp only [List.cons_append, List.nil_append, runE, stepE, tagS, hc]
    rw [if_neg (by simp), if_neg (by omega)]
    rfl
  | c :: d :: r, t, i, k, h, _, hc => by
    have h1 := hc c (by simp)
    simp only [List.length_cons] at h
    rw [List.cons_append, runE]
    simp only [stepE, tagS, h1]
    rw [if_neg (by simp), if_pos (by omega)]
    have := runE_tag l (d :: r) (t ++ [c]) (i + 1) k (by simp; omega) (by simp) (fun x hx => hc x (by simp at hx ⊢; exact .inr hx))
    simp only []
    rw [this]
    simp only [List.append_assoc, List.cons_append, List.nil_append, List.length_cons]
    congr 1; omega
theorem tagB_10 {c : UInt8} (h : tagB c = true) : c ≠ 10 := by rintro rfl; exact absurd h (by decide)
theorem runE_tag0 {l : List Seg} {t : Str} (ht : okT t) (hl : l.length < 64) (i : Nat) (k : Str) : runE (.btw l) i (t ++ k) = runE (.bhd l t) (i + 3) k := by
  obtain ⟨h3, hc⟩ := ht
  match t, h3, hc with
  | [a, b, c], _, hc =>
    have h1 := hc a (by simp)
    simp only [List.cons_append, List.nil_append]
    rw [runE]
    simp only [stepE]
    rw [if_neg (by rintro ⟨rfl, _⟩; exact tagB_10 h1 rfl), if_neg (by omega)]
    simp only [tagS, h1]
    rw [if_neg (by simp), if_pos (by simp)]
    simp only [List.nil_append]
    have := runE_tag l [b, c] [a] (i + 1) k (by simp) (by simp) (fun x hx => hc x (by simp at hx ⊢; exact .inr hx))
    simp only [List.cons_append, List.nil_append, List.length_cons, List.length_nil] at this
    rw [this]
theorem signB_63 {c : UInt8} (h : signB c = false) : c ≠ 63 := by rintro rfl; exact absurd h (by decide)
theorem runE_comp {l : List Seg} {t : Str} {es : List (List Str)} {cs : List Str} : ∀ (q p : Str) (i : Nat) (k : Str), p.length + q.length ≤ 256 → (∀ c ∈ q, okB c) → runE (.cmp l t es cs p) i (compT q ++ k) = runE (.cmp l t es cs (p ++ q)) (i + (compT q).length) k
  | [], p, i, k, _, _ => by simp [compT]
  | c :: q, p, i, k, h, hc => by
    simp only [List.length_cons] at h
    have hc1 := hc c (by simp)
    have ih := runE_comp (l := l) (t := t) (es := es) (cs := cs) q (p ++ [c])
    have e : compT (c :: q) = escB c ++ compT q := by simp [compT]
    rw [e, List.append_assoc]
    unfold escB
    by_cases hs : signB c = true
    · rw [if_pos hs]
      simp only [List.cons_append, List.nil_append, runE, stepE, if_true]
      simp only [hs, if_true, putS]
      rw [if_neg (by omega)]
      simp only []
      rw [ih (i + 1 + 1) k (by simp; omega) (fun x hx => hc x (by simp [hx]))]
      simp only [List.append_assoc, List.cons_append, List.nil_append, List.length_cons]
      congr 1; omega
    · rw [Bool.not_eq_true] at hs
      rw [hs, if_neg (by simp)]
      simp only [List.cons_append, List.nil_append, runE, stepE]
      rw [if_neg (signB_63 hs), hs, if_neg (by simp), if_neg (by unfold okB at hc1; omega), putS, if_neg (by omega)]
      simp only []
      rw [ih (i + 1) k (by simp; omega) (fun x hx => hc x (by simp [hx]))]
      simp only [List.append_assoc, List.cons_append, List.nil_append, List.length_cons]
      congr 1; omega
/-- the rest of an element: components behind the first -/
def restT (cs : List Str) : Str := cs.flatMap fun p => 58 :: compT p
theorem joinB_cons (s : UInt8) (a : Str) (l : List Str) : joinB s (a :: l) = a ++ l.flatMap (fun p => s :: p) := by
  induction l generalizing a with
  | nil => simp [joinB]
  | cons b l ih => rw [joinB, ih b]; simp
theorem elemT_cons (p : Str) (cs : List Str) : elemT (p :: cs) = compT p ++ restT cs := by
  unfold elemT restT
  rw [List.map_cons, joinB_cons, List.flatMap_map]
theorem runE_rest {l : List Seg} {t : Str} {es : List (List Str)} : ∀ (qs cs : List Str) (p : Str) (i : Nat) (k : Str), cs.length + 1 + qs.length ≤ 8 → (∀ q ∈ qs, okP q) → runE (.cmp l t es cs p) i (restT qs ++ k) = match (cs ++ p :: qs).reverse with
    | a :: b => runE (.cmp l t es b.reverse a) (i + (restT qs).length) k
    | [] => .err 0 0
  | [], cs, p, i, k, _, _ => by simp [restT]
  | q :: qs, cs, p, i, k, h, hq => by
    simp only [List.length_cons] at h
    have e : restT (q :: qs) = 58 :: (compT q ++ restT qs) := by simp [restT]
    rw [e]
    simp only [List.cons_append, runE, stepE]
    rw [if_neg (by decide), if_pos (by decide)]
    simp only [signS]
    rw [if_neg (by decide), if_neg (by decide), if_neg (by omega)]
    simp only []
    rw [List.append_assoc, runE_comp q [] (i + 1) _ (by have := (hq q (by simp)).1; simpa using this) (hq q (by simp)).2]
    have ih := runE_rest (l := l) (t := t) (es := es) qs (cs ++ [p]) q (i + 1 + (compT q).length) k (by simp; omega) (fun x hx => hq x (by simp [hx]))
    rw [List.nil_append, ih]
    simp only [List.append_assoc, List.cons_append, List.nil_append, List.length_cons, List.length_append]
    split
    · rw [show i + 1 + (compT q).length + (restT qs).length = i + ((compT q).length + (restT qs).length + 1) by omega]
    · rfl
/-- what stands open: an element's components, the last one by itself -/
inductive Ends (cs : List Str) (p : Str) : List Str → Prop
  | mk : Ends cs p (cs ++ [p])
theorem runE_elem {l : List Seg} {t : Str} {es : List (List Str)} (e : List Str) (he : okEl e) (i : Nat) (k : Str) : ∃ cs p, cs ++ [p] = e ∧ runE (.cmp l t es [] []) i (elemT e ++ k) = runE (.cmp l t es cs p) (i + (elemT e).length) k := by
  obtain ⟨h1, h2, h3⟩ := he
  match e, h1 with
  | p :: qs, _ =>
    rw [elemT_cons, List.append_assoc, runE_comp p [] i _ (by have := (h3 p (by simp)).1; simpa using this) (h3 p (by simp)).2, runE_rest qs [] ([] ++ p) _ k (by simp at h2 ⊢; omega) (fun x hx => h3 x (by simp [hx]))]
    rw [List.nil_append, List.nil_append]
    cases hr : (p :: qs).reverse with
    | nil => simp at hr
    | cons a b =>
      refine ⟨b.reverse, a, ?_, ?_⟩
      · have := congrArg List.reverse hr
        simp at this
        rw [this]
      · simp only [List.length_append]
        congr 1; omega
theorem runE_elems {l : List Seg} {t : Str} : ∀ (ds es : List (List Str)) (cs : List Str) (p : Str) (i : Nat) (k : Str), es.length + 1 + ds.length ≤ 16 → (∀ e ∈ ds, okEl e) →
    runE (.cmp l t es cs p) i (ds.flatMap (fun e => 43 :: elemT e) ++ 39 :: k) = runE (.btw (l ++ [⟨t, es ++ [cs ++ [p]] ++ ds⟩])) (i + (ds.flatMap (fun e => 43 :: elemT e)).length + 1) k
  | [], es, cs, p, i, k, _, _ => by
    simp only [List.flatMap_nil, List.nil_append, runE, stepE]
    rw [if_neg (by decide), if_pos (by decide)]
    simp [signS]
  | d :: ds, es, cs, p, i, k, h, hd => by
    simp only [List.length_cons] at h
    rw [List.flatMap_cons]
    simp only [List.cons_append, runE, stepE, List.append_assoc]
    rw [if_neg (by decide), if_pos (by decide)]
    simp only [signS]
    rw [if_neg (by decide), if_pos trivial, if_neg (by omega)]
    simp only []
    obtain ⟨cs', p', h1, h2⟩ := runE_elem (l := l) (t := t) (es := es ++ [cs ++ [p]]) d (hd d (by simp)) (i + 1) (List.flatMap (fun e => 43 :: elemT e) ds ++ 39 :: k)
    rw [h2, runE_elems ds (es ++ [cs ++ [p]]) cs' p' _ k (by simp; omega) (fun x hx => hd x (by simp [hx])), h1]
    simp only [List.append_assoc, List.cons_append, List.nil_append, List.length_cons, List.length_append]
    congr 1; omega
theorem runE_seg {l : List Seg} {s : Seg} (hs : okS s) (hl : l.length < 64) (i : Nat) (k : Str) : runE (.btw l) i (segT s ++ k) = runE (.btw (l ++ [s])) (i + (segT s).length) k := by
  obtain ⟨h1, h2, h3⟩ := hs
  unfold segT
  rw [List.append_assoc, List.append_assoc, runE_tag0 h1 hl]
  have hl3 := h1.1
  obtain ⟨tg, els⟩ := s
  simp only at h2 h3 hl3 ⊢
  match els, h2, h3 with
  | [], _, _ =>
    simp only [List.flatMap_nil, List.nil_append, List.append_nil, List.cons_append, runE, stepE]
    rw [if_pos trivial, List.length_append, hl3]
    rfl
  | d :: ds, h2, h3 =>
    rw [List.flatMap_cons]
    simp only [List.cons_append, runE, stepE, List.append_assoc, List.nil_append]
    rw [if_neg (by decide), if_pos trivial]
    simp only []
    obtain ⟨cs', p', g1, g2⟩ := runE_elem (l := l) (t := tg) (es := []) d (h3 d (by simp)) (i + 3 + 1) (List.flatMap (fun e => 43 :: elemT e) ds ++ 39 :: k)
    rw [g2, runE_elems ds [] cs' p' _ k (by simp at h2 ⊢; omega) (fun x hx => h3 x (by simp [hx])), g1]
    simp only [List.cons_append, List.nil_append, List.length_cons, List.length_append, hl3, List.length_nil]
    congr 1; omega
theorem runE_segs : ∀ (m l : List Seg) (i : Nat) (k : Str), l.length + m.length ≤ 64 → (∀ s ∈ m, okS s) → runE (.btw l) i (printT m ++ k) = runE (.btw (l ++ m)) (i + (printT m).length) k
  | [], l, i, k, _, _ => by simp [printT]
  | s :: m, l, i, k, h, hm => by
    simp only [List.length_cons] at h
    have e : printT (s :: m) = segT s ++ printT m := by simp [printT]
    rw [e, List.append_assoc, runE_seg (hm s (by simp)) (by omega), runE_segs m (l ++ [s]) _ k (by simp; omega) (fun x hx => hm x (by simp [hx]))]
    simp only [List.append_assoc, List.cons_append, List.nil_append, List.length_append]
    congr 1; omega
/-- THERE AND BACK -/
theorem parse_print {l : List Seg} (h : okL l) (hp : (printT l).length ≤ 65536) : parseE (printT l) = (l, 0, 0) := by
  unfold parseE
  rw [if_neg (by omega)]
  have := runE_segs l [] 0 [] (by simpa using h.1) h.2
  rw [List.append_nil] at this
  rw [this]
  simp only [runE, List.nil_append]
end Go.Proofs.YteaaiejfieaalaaGreatDoor
