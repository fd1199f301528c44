/-
  EdiL: contracts of tag and between. No condition beyond those stated.
-/
import Derived.Test.YtpfkmklhfafkiaaEdiK
namespace Go.Proofs.Ytpfkmklhfafkiaa
open Go.RowKit
theorem enc_one (c : UInt8) (h : c.toNat < 128) : Utf8.encode (c.toNat : Int) = ⟨#[c]⟩ := by
  unfold Utf8.encode
  have hv : Utf8.valid (c.toNat : Int) = true := by unfold Utf8.valid; simp; omega
  simp [hv, h]
theorem conv_one (c : UInt8) (h : c.toNat < 128) (w : World) : (convert 5 9 (.int .u8 (c.toNat : Int))).run Try.prog w = .ok (.string ⟨#[c]⟩) w := by
  rw [run_convert_int_string w 5 9 .u8 _ (by rw [Try.underlying5]; rfl) Try.underlying9, enc_one c h]
section
variable {S : Nat → Prop} {w : World} {B rb : Nat} {l : List Seg} {t : Str} {es : List (List Str)} {cs : List Str} {p q : Str} {lv pv ev cv : Value} {xs ys : List Value}
set_option maxHeartbeats 1000000 in
theorem tag_bad (rb : Nat) (w : World) (c : UInt8) (hc : tagB c = false) : Calls Try.prog 37 #[.pointer (some ⟨rb, 0, none⟩), .int .u8 (c.toNat : Int)] w fun e w' => e = .returned (.tuple #[.nilFunc, .int .i64 30]) ∧ w = w' := by
  have H := Lib.hid (tagged_any c w)
  rw [hc] at H
  obtain ⟨n, hn⟩ : ∃ n : Int, (c.toNat : Int) = n := ⟨_, rfl⟩
  rw [hn] at H ⊢
  clear hn
  go_enter Try.func37, Try.ntmps37
  go_wp2_with (go_at_call 19; refine H.out.mono ?_; rintro e w' ⟨rfl, rfl⟩)
  go_ret2
  exact ⟨rfl, rfl⟩
theorem tag_lt {c : UInt8} (h : tagB c = true) : c.toNat < 128 := by
  unfold tagB at h
  simp at h
  omega
set_option maxRecDepth 100000 in
set_option maxHeartbeats 2000000 in
theorem tag_ok {xs0 : List Value} (h : RA S w B rb (l ++ [⟨t, []⟩]) lv pv (xs0 ++ [.slice none 0 0]) p) (_hB : B ≤ w.heap.size) (c : UInt8) (hc : tagB c = true) (ht : t.length < 3) : Calls Try.prog 37 #[.pointer (some ⟨rb, 0, none⟩), .int .u8 (c.toNat : Int)] w fun e w' => e = .returned (.tuple #[fnV rb (if t.length + 1 < 3 then 37 else 44), .int .i64 0]) ∧ RA S w' B rb (l ++ [⟨t ++ [c], []⟩]) lv pv (xs0 ++ [.slice none 0 0]) p ∧ Below B w w' := by
  obtain ⟨g, cap, x, xs1, rfl, hc1, hc2, hxx, hx0, k1, k2, z1, z2, _⟩ := h.top
  have d0 := h.c0
  have H := Lib.hid h
  have HT := Lib.hid (tagged_any c w)
  have hcv := fun w => conv_one c (tag_lt hc) w
  rw [hc] at HT
  obtain ⟨F, hF⟩ : ∃ F : Nat, (if t.length + 1 < 3 then 37 else 44) = F := ⟨_, rfl⟩
  rw [hF]
  have HF := Lib.hid hF
  clear hF
  obtain ⟨n, hn⟩ : ∃ n : Int, (c.toNat : Int) = n := ⟨_, rfl⟩
  rw [hn] at HT hcv ⊢
  clear h hn hxx k2 z2
  replace k1 : w.cell? ⟨g, l.length * 2, none⟩ = some (.string ⟨t.toArray⟩) := k1
  have hsz : (ByteArray.mk t.toArray).size + (ByteArray.mk #[c]).size ≤ maxLen := by
    show t.toArray.size + 1 ≤ maxLen
    simp [maxLen]; omega
  go_enter Try.func37, Try.ntmps37
  go_upto_region 4 with first | (go_at_call 19; refine HT.out.mono ?_; rintro e w' ⟨rfl, rfl⟩) | (go_at_call 43; refine (top_any rb g l.length cap _ d0 hc1 hc2).mono ?_; rintro e w' ⟨rfl, rfl⟩)
  have eS : Value.string ((ByteArray.mk t.toArray) ++ (ByteArray.mk #[c])) = sv (t ++ [c]) := by
    unfold sv
    rw [show (#[c] : Array UInt8) = [c].toArray from rfl, ByteArray.mk_append_mk]
  rw [eS]
  have HQ := Lib.hid ((H.out.settag (t' := t ++ [c])).fr0 (Fr.drew [] _))
  have HBQ := Lib.hid (((Below.refl B w).setCell (p := ⟨g, l.length * 2, none⟩) (own_lt H.out.hl (k := g) rfl).1 (sv (t ++ [c]))).drew)
  obtain ⟨wq, hwq⟩ : ∃ wq, (w.setCell ⟨g, l.length * 2, none⟩ (sv (t ++ [c]))).drew = wq := ⟨_, rfl⟩
  rw [hwq] at HQ HBQ ⊢
  clear hwq H d0 k1 z1 hsz
  obtain ⟨g', cap', x', xs2, he, -, -, -, -, k1, -, -, -, -⟩ := HQ.out.top
  cases he
  have d0 := HQ.out.c0
  replace k1 : wq.cell? ⟨g, l.length * 2, none⟩ = some (.string ⟨(t ++ [c]).toArray⟩) := k1
  have hlen : (((ByteArray.mk (t ++ [c]).toArray).size : Nat) : Int) = (t.length : Int) + 1 := by show (((t ++ [c]).toArray.size : Nat) : Int) = _; simp
  by_cases h3 : t.length + 1 < 3
  · have d3 : decide ((t.length : Int) + 1 < 3) = true := by rw [decide_eq_true_eq]; omega
    go_wp2_with (go_at_call 43; refine (top_any rb g l.length cap _ d0 hc1 hc2).mono ?_; rintro e w' ⟨rfl, rfl⟩)
    go_ret2
    exact ⟨by rw [← HF.out, if_pos h3]; rfl, HQ.out.fr0 (Fr.drew _ _), HBQ.out.drew⟩
  · have d3 : decide ((t.length : Int) + 1 < 3) = false := by rw [decide_eq_false_iff_not]; omega
    go_wp2_with (go_at_call 43; refine (top_any rb g l.length cap _ d0 hc1 hc2).mono ?_; rintro e w' ⟨rfl, rfl⟩)
    go_ret2
    exact ⟨by rw [← HF.out, if_neg h3]; rfl, HQ.out.fr0 (Fr.drew _ _), HBQ.out.drew⟩
end
end Go.Proofs.Ytpfkmklhfafkiaa
