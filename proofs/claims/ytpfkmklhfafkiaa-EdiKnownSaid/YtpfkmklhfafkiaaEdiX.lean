/-
  EdiX: contracts of ContainsFunc at the printer's closure. No condition beyond those stated.
-/
import Derived.Test.YtpfkmklhfafkiaaEdiF
import Derived.Lib.ConvBytes
namespace Go.Proofs.Ytpfkmklhfafkiaa
open Go.RowKit
/-- bytes in a row of cells -/
def BytesL (w : World) (b : Nat) (l : Str) : Prop := ∀ (j : Nat) (c : UInt8), l[j]? = some c → w.cell? ⟨b, j, none⟩ = some (bv c)
def badV : Value := .func (.func 22) #[] #[]
set_option maxHeartbeats 1000000 in
theorem bad_any (c : UInt8) (w : World) : Calls Try.prog 22 #[.int .u8 (c.toNat : Int)] w fun e w' => e = .returned (.bool (badB c)) ∧ w = w' := by
  have hE : badB c = (decide (c.toNat < 32) || decide (126 < c.toNat)) := rfl
  have HE := Lib.hid hE
  obtain ⟨n, hn⟩ : ∃ n : Nat, c.toNat = n := ⟨_, rfl⟩
  rw [hn] at HE ⊢
  clear hE hn
  by_cases h1 : n < 32
  · have d1 : decide ((n : Int) < 32) = true := by rw [decide_eq_true_eq]; omega
    go_enter Try.func22, Try.ntmps22
    go_wp2_with fail
    go_ret
    exact ⟨by rw [HE.out]; simp [h1], rfl⟩
  · have d1 : decide ((n : Int) < 32) = false := by rw [decide_eq_false_iff_not]; omega
    by_cases h2 : 126 < n
    · have d2 : decide ((126 : Int) < (n : Int)) = true := by rw [decide_eq_true_eq]; omega
      go_enter Try.func22, Try.ntmps22
      go_wp2_with fail
      go_ret
      exact ⟨by rw [HE.out]; simp [h2], rfl⟩
    · have d2 : decide ((126 : Int) < (n : Int)) = false := by rw [decide_eq_false_iff_not]; omega
      go_enter Try.func22, Try.ntmps22
      go_wp2_with fail
      go_ret
      exact ⟨by rw [HE.out]; simp [h1, h2], rfl⟩
/-- where the first bad byte is -/
def idxB (l : Str) : Int := if l.any badB then (l.findIdx badB : Int) else -1
theorem idxB_none {l : Str} (h : l.any badB = false) : idxB l = -1 := by unfold idxB; rw [h]; rfl
theorem any_take_false {l : Str} {k : Nat} (h : (l.take k).any badB = false) {c : UInt8} (hc : l[k]? = some c) (hb : badB c = false) : (l.take (k + 1)).any badB = false := by
  rw [List.take_add_one, hc, List.any_append, h]; simp [hb]
set_option maxHeartbeats 2000000 in
theorem index_any (w : World) (b cap : Nat) (l : Str) (hl : l.length ≤ 4294967281) (h : BytesL w b l) : Calls Try.prog 32 #[.slice (some ⟨b, 0, none⟩) l.length cap, badV] w fun e w' => (∃ k : Int, e = .returned (.int .i64 k) ∧ (0 ≤ k ↔ l.any badB = true)) ∧ w = w' := by
  have HL := Lib.hid h
  clear h
  obtain ⟨N, hN⟩ : ∃ N, l.length = N := ⟨_, rfl⟩
  have HN := Lib.hid hN
  rw [hN] at hl ⊢
  clear hN
  unfold badV
  go_enter Try.func32, Try.ntmps32
  go_wp2_with fail
  go_loop [8] (fun i => ∃ k : Nat, k ≤ N ∧ i = .int .i64 k ∧ Hid ((l.take k).any badB = false)) (fun i => N - (intOf i).toNat)
  case atStart => exact ⟨0, Nat.zero_le _, rfl, Lib.hid (by simp)⟩
  case round =>
    obtain ⟨k, hk, rfl, hd⟩ := hrel
    by_cases hlt : k < N
    · obtain ⟨c, hc⟩ : ∃ c, l[k]? = some c := ⟨_, List.getElem?_eq_getElem (by rw [HN.out]; exact hlt)⟩
      have hcell := HL.out k c hc
      unfold bv at hcell
      have HC := Lib.hid hc
      clear hc
      cases hb : badB c with
      | true =>
        have HB := Lib.hid hb
        clear hb
        have hcall := fun w => (bad_any c w)
        rw [HB.out] at hcall
        have HCA := Lib.hid hcall
        clear hcall
        go_wp2_with (go_at_call 22; refine (HCA.out _).mono ?_; rintro e w' ⟨rfl, rfl⟩)
        go_ret
        refine ⟨⟨_, rfl, ?_⟩, rfl⟩
        refine ⟨fun _ => List.any_eq_true.2 ⟨c, List.mem_of_getElem? HC.out, HB.out⟩, fun _ => by omega⟩
      | false =>
        have HB := Lib.hid hb
        clear hb
        have hcall := fun w => (bad_any c w)
        rw [HB.out] at hcall
        have HCA := Lib.hid hcall
        clear hcall
        go_wp2_with (go_at_call 22; refine (HCA.out _).mono ?_; rintro e w' ⟨rfl, rfl⟩)
        go_round
        case rel => exact ⟨k + 1, by omega, by go_num, Lib.hid (any_take_false hd.out HC.out HB.out)⟩
        case measure => simp [intOf]; omega
    · go_wp2_with fail
      go_ret
      have e : l.take k = l := List.take_of_length_le (by rw [HN.out]; omega)
      have hd' := hd.out
      rw [e] at hd'
      rw [List.any_eq_false] at hd'
      exact ⟨⟨-1, rfl, ⟨fun h => by omega, fun h => by obtain ⟨x, hx, hb⟩ := List.any_eq_true.1 (by simpa using h); exact absurd hb (hd' x hx)⟩⟩, rfl⟩
set_option maxHeartbeats 1000000 in
theorem contains_any (w : World) (b cap : Nat) (l : Str) (hl : l.length ≤ 4294967281) (h : BytesL w b l) : Calls Try.prog 21 #[.slice (some ⟨b, 0, none⟩) l.length cap, badV] w fun e w' => e = .returned (.bool (l.any badB)) ∧ w = w' := by
  obtain ⟨N, hN⟩ : ∃ N, l.length = N := ⟨_, rfl⟩
  have HI := Lib.hid (index_any w b cap l hl h)
  rw [hN] at HI ⊢
  obtain ⟨A, hA⟩ : ∃ A, l.any badB = A := ⟨_, rfl⟩
  rw [hA] at HI ⊢
  clear h hN hA
  unfold badV at *
  go_enter Try.func21, Try.ntmps21
  go_wp2_with (go_at_call 32; refine HI.out.mono ?_; rintro e w' ⟨⟨k, rfl, hk⟩, rfl⟩; have HK := Lib.hid hk; clear hk)
  go_ret
  have e : decide (0 ≤ k) = A := by rw [Bool.eq_iff_iff, decide_eq_true_eq]; exact HK.out
  exact ⟨congrArg (fun b => Ending.returned (Value.bool b)) e, rfl⟩
end Go.Proofs.Ytpfkmklhfafkiaa
