/-
  Texts WrapF, MsgX0, WrapX0, EdiT, EdiU, WrapX, EdiA4, one behind the other. No condition beyond those stated in each.
-/
import Derived.Test.YtgfijlamhjjecaaGreatDoorMx4
import Derived.Lib.ItoaMem
import Derived.Lib.AppendIntMem
import Derived.Test.YtgfijlamhjjecaaGreatDoorMx5
import Derived.LoopN
import Derived.Laws.EntriesVeiled
import Derived.Deep.DeepFit
import Derived.Test.YtgfijlamhjjecaaGreatDoorMx1
import Derived.Laws.ResultCell
import Derived.Lib.AppendStr
namespace Go.Proofs.YtgfijlamhjjecaaGreatDoor
open Go.RowKit Go.Sort Go.Lib
set_option maxHeartbeats 6400000 in
set_option maxRecDepth 100000 in
theorem ifmt_any (u : Nat) (hu64 : u < 18446744073709551616) (w : World) (hv : VarsOk w) :
    Calls Tryz.prog 151 #[.int .u64 (u : Int), .int .i64 10] w fun e w' => e = .returned (.string ⟨(decT u).toArray⟩) ∧ Below w.heap.size w w' := by
  by_cases hs : u < 100
  · have c100 : decide ((u : Int) < 100) = true := by rw [decide_eq_true_eq]; omega
    have hwr : IntKind.i64.wrap (u : Int) = (u : Int) := by rw [IntKind.wrap_i64]; omega
    go_enter Tryz.func151, Tryz.ntmps151
    go_wp2_with (go_at_call 153; refine (Tryz.internal_strconv_small u hs _).mono ?_; rintro e w' ⟨rfl, rfl⟩)
    go_ret
    exact ⟨rfl, Below.refl _ _⟩
  · have c100 : decide ((u : Int) < 100) = false := by rw [decide_eq_false_iff_not]; omega
    have hu1 : 1 ≤ u := by omega
    have hnd20 : Lib.nDigits u ≤ 20 := by have := Lib.numDigits_eq u hu1 hu64; split at this <;> omega
    have hal : Tryz.prog.arrayLen 231 = 24 := by kernel_rfl
    have hsl : ∀ W, (Instr.sliceAt 231 (.pointer (some ⟨w.heap.size, 0, none⟩)) none (some (.int .i64 (Lib.nDigits u : Int))) none).run Tryz.prog W = .ok (.slice (some ⟨w.heap.size, 0, none⟩) (Lib.nDigits u) 24) W := fun W => by
      rw [run_sliceAt_array_h W 231 ⟨w.heap.size, 0, none⟩ (by simp [Program.arrayLen, Program.elem, Tryz.underlying231]) .i64 (Lib.nDigits u : Int) (by omega) (by rw [hal]; omega)]
      go_simp
    have hH0 := Lib.holds_zero0 w 231 (Lib.nDigits u) (by omega)
    have hfmt := Tryz.internal_strconv_formatBase10 w.heap.size 0 24 u (Array.replicate (Lib.nDigits u) 0) (w.alloc (.cells Lib.zeros24 231)) hH0 (by rw [Array.size_replicate]; exact Lib.lt_pow_nDigits u) hu64 (by rw [Array.size_replicate]; omega)
    rw [Array.size_replicate] at hfmt
    have HH0 := Lib.hid hH0
    clear hH0 hal
    go_enter Tryz.func151, Tryz.ntmps151
    go_wp2_with (first
      | (go_at_call 154; refine (Tryz.internal_strconv_numDigits u hu1 hu64 _ (Lib.tabIs_alloc hv.tab _)).mono ?_; rintro e w' ⟨rfl, rfl⟩))
    go_at_call 155
    refine hfmt.mono ?_
    rintro e w' ⟨rfl, k, v', dk, rfl, hF⟩
    have hcv : (convert 72 9 (.slice (some ⟨w.heap.size, 0, none⟩) (Lib.nDigits u) 24)).run Tryz.prog ((putRow (fun (b : UInt8) => Value.int .u8 (b.toNat : Int)) (w.alloc (.cells Lib.zeros24 231)) w.heap.size 0 dk).drewN k) = .ok (.string ⟨(Lib.decDigits u).toArray⟩) ((putRow (fun (b : UInt8) => Value.int .u8 (b.toNat : Int)) (w.alloc (.cells Lib.zeros24 231)) w.heap.size 0 dk).drewN k) := by
      have h := run_convert_bytes_back (P := Tryz.prog) ((putRow (fun (b : UInt8) => Value.int .u8 (b.toNat : Int)) (w.alloc (.cells Lib.zeros24 231)) w.heap.size 0 dk).drewN k) 72 9 5 ⟨w.heap.size, 0, none⟩ 24 (Lib.decDigits u) Tryz.underlying72 Tryz.underlying5 Tryz.underlying9 (fun j hj => by
        rw [Lib.row_is_numeral hF j hj, Lib.add_plain, World.cell?_drewN]
        exact cell?_putRow (fun (b : UInt8) => Value.int .u8 (b.toNat : Int)) _ w.heap.size 0 _ dk HH0.out (by rw [hF.size, Array.size_replicate]) j (by rw [hF.size]; rw [Lib.decDigits_length] at hj; exact hj))
      rw [Lib.decDigits_length] at h
      exact h
    go_wp2
    go_ret
    obtain ⟨os, eo⟩ := Lib.fin_at w (.cells Lib.zeros24 231) dk k 0
    refine ⟨rfl, ?_⟩
    have hb := Lib.below_grow w.heap.size w (Nat.le_refl _) k os
    rw [← eo] at hb
    exact hb
set_option maxRecDepth 100000 in
theorem fmt_any (u : Nat) (hu64 : u < 18446744073709551616) (w : World) (hv : VarsOk w) :
    Calls Tryz.prog 128 #[.int .u64 (u : Int), .int .i64 10] w fun e w' => e = .returned (.string ⟨(decT u).toArray⟩) ∧ Below w.heap.size w w' := by
  go_enter Tryz.func128, Tryz.ntmps128
  go_wp2_with (go_at_call 151; refine (ifmt_any u hu64 _ hv).mono ?_; rintro e w' ⟨rfl, hb⟩)
  go_ret
  exact ⟨rfl, hb⟩
end Go.Proofs.YtgfijlamhjjecaaGreatDoor


namespace Go.Proofs.YtgfijlamhjjecaaGreatDoor
open Go.RowKit
theorem itoa_sgn (v : Int) : Lib.itoa v = sgnT v := by
  unfold Lib.itoa sgnT
  split
  · rfl
  · rw [show v.toNat = v.natAbs by omega]
theorem fmtInt_any (v : Int) (h0 : -9223372036854775808 ≤ v) (h1 : v ≤ 9223372036854775807) (w : World) (hv : VarsOk w) : Calls Tryz.prog 116 #[.int .i64 v, .int .i64 10] w fun e w' => e = .returned (.string ⟨(sgnT v).toArray⟩) ∧ Below w.heap.size w w' :=
  (Tryz.strconv_FormatInt_10 v h0 h1 w hv.tab).mono (by
    rintro e w' ⟨rfl, k, os, rfl⟩
    exact ⟨by rw [itoa_sgn], Lib.below_grow w.heap.size w (Nat.le_refl _) k os⟩)
theorem itoa_any (v : Int) (h0 : -9223372036854775808 ≤ v) (h1 : v ≤ 9223372036854775807) (w : World) (hv : VarsOk w) : Calls Tryz.prog 45 #[.int .i64 v] w fun e w' => e = .returned (.string ⟨(sgnT v).toArray⟩) ∧ Below w.heap.size w w' :=
  (Tryz.strconv_Itoa v h0 h1 w hv.tab).mono (by
    rintro e w' ⟨rfl, k, os, rfl⟩
    exact ⟨by rw [itoa_sgn], Lib.below_grow w.heap.size w (Nat.le_refl _) k os⟩)
theorem head_of {s : ByteArray} (h : s.data.toList ≠ []) : ∃ (c : UInt8) (hs : 0 < s.size), s[0]'hs = c ∧ s.data.toList.head? = some c := by
  obtain ⟨l, hl⟩ : ∃ l, s.data.toList = l := ⟨_, rfl⟩
  have hs0 : 0 < s.size := by
    have e : s.size = l.length := by rw [← hl]; rfl
    rw [e]
    rw [hl] at h
    exact List.length_pos_iff.2 h
  refine ⟨s[0]'hs0, hs0, rfl, ?_⟩
  have h1 := at_byte s 0 hs0
  rw [hl] at h1 ⊢
  cases l with
  | nil => exact absurd hl h
  | cons a l => simpa using h1
set_option maxRecDepth 100000 in
set_option maxHeartbeats 4000000 in
theorem whole_any (s : ByteArray) (hl : s.size ≤ 1048576) (lo hi : Int) (h1 : -9223372036854775808 ≤ lo) (h2 : hi ≤ 9223372036854775807) (w : World) (hv : VarsOk w) :
    Calls Tryz.prog 53 #[.string s, .int .i64 lo, .int .i64 hi] w fun e w' => WholeQ s.data.toList lo hi w e w' := by
  obtain ⟨l, hsl⟩ : ∃ l, s.data.toList = l := ⟨_, rfl⟩
  obtain ⟨D, hD⟩ : ∃ D : ByteArray, (⟨(Lib.trimPrefix s.data.toList [45]).toArray⟩ : ByteArray) = D := ⟨_, rfl⟩
  have HT := Lib.hid (show ∀ w, Calls Tryz.prog 94 #[.string s, .string ⟨#[45]⟩] w (fun e w' => e = .returned (.string D) ∧ w = w') from fun w => (Tryz.strings_TrimPrefix s ⟨#[45]⟩ w).mono (by
    rintro e w' ⟨rfl, rfl⟩
    exact ⟨by rw [← hD], rfl⟩))
  have hDl : D.data.toList = if l.head? = some 45 then l.tail else l := by rw [← hD, ← hsl]; exact trim45 _
  have HP := Lib.hid (fun w hv => pi_any s hl w hv)
  have HSL := Lib.hid hsl
  have HE := Lib.hid (whole_pi (s := l) h1 h2)
  rw [hsl] at HP ⊢
  by_cases hok : ∃ v, Lib.parseIntB 64 l = .ok v
  · obtain ⟨v, hok⟩ := hok
    have hw := wpi_ok (lo := lo) (hi := hi) hok
    rw [HE.out] at hw
    obtain ⟨hne, hne2⟩ := pib_ne hok
    obtain ⟨c0, hs0, hA, hh⟩ := head_of (s := s) (by rw [hsl]; exact hne)
    obtain ⟨c1, hd0, hB, hh1⟩ := head_of (s := D) (by
      rw [hDl]
      split
      · rename_i h
        cases l with
        | nil => exact absurd rfl hne
        | cons a r => rintro h3; simp at h h3; subst h; subst h3; exact hne2 rfl
      · exact hne)
    rw [hsl] at hh
    rw [← hDl, hh1, hh] at hw
    have i0 : (0 : Int) < (s.size : Int) := by omega
    have i1 : (0 : Int) < (D.size : Int) := by omega
    have HOK := Lib.hid hok
    clear hsl hD hDl hok h1 h2 hne hne2 hh hh1 HE
    by_cases h43 : c0 = 43
    · subst h43
      have HN : Hid (wholeE l lo hi = none) := Lib.hid (by rw [hw, if_pos (.inl rfl)])
      clear hw
      go_enter Tryz.func53, Tryz.ntmps53
      go_wp2_with (first | (go_at_call 94; refine (HT.out _).mono ?_; rintro e w' ⟨rfl, rfl⟩) | (go_at_call 95; refine (HP.out _ hv).mono ?_; rintro e w' ⟨u, ev, rfl, hq, hb⟩; have HQ := Lib.hid hq; have HB := Lib.hid hb; clear hq hb))
      rcases HQ.out with ⟨hq, rfl⟩ | ⟨hq, te, pe, rfl⟩
      · obtain rfl : v = u := Lib.NumEnd.ok.inj (HOK.out.symm.trans hq)
        clear hq
        go_simp
        go_wp2_with fail
        go_ret2
        exact wholeQ_none HN.out HB.out
      · exact absurd HOK.out (hq _)
    have n43 : ((c0.toNat : Int) == 43) = false := nat_eq c0 43 h43
    by_cases h48 : c1 = 48 ∧ l ≠ [48]
    · obtain ⟨rfl, hne⟩ := h48
      have HN : Hid (wholeE l lo hi = none) := Lib.hid (by rw [hw, if_pos (.inr (.inl ⟨rfl, hne⟩))])
      have nez : (s.toList == [48]) = false := by
        rw [beq_eq_false_iff_ne, ByteArray.toList_eq, HSL.out]; exact hne
      clear hw hne
      go_enter Tryz.func53, Tryz.ntmps53
      go_wp2_with (first | (go_at_call 94; refine (HT.out _).mono ?_; rintro e w' ⟨rfl, rfl⟩) | (go_at_call 95; refine (HP.out _ hv).mono ?_; rintro e w' ⟨u, ev, rfl, hq, hb⟩; have HQ := Lib.hid hq; have HB := Lib.hid hb; clear hq hb))
      rcases HQ.out with ⟨hq, rfl⟩ | ⟨hq, te, pe, rfl⟩
      · obtain rfl : v = u := Lib.NumEnd.ok.inj (HOK.out.symm.trans hq)
        clear hq
        go_simp
        go_wp2_with fail
        go_ret2
        exact wholeQ_none HN.out HB.out
      · exact absurd HOK.out (hq _)
    by_cases hlo : v < lo
    · have HN : Hid (wholeE l lo hi = none) := Lib.hid (by rw [hw, if_pos (.inr (.inr (.inl hlo)))])
      clear hw
      by_cases e48 : c1 = 48
      · have ez : (s.toList == [48]) = true := by
          have : l = [48] := Classical.byContradiction fun h => h48 ⟨e48, h⟩
          rw [beq_iff_eq, ByteArray.toList_eq, HSL.out, this]
        subst e48
        clear h48
        go_enter Tryz.func53, Tryz.ntmps53
        go_wp2_with (first | (go_at_call 94; refine (HT.out _).mono ?_; rintro e w' ⟨rfl, rfl⟩) | (go_at_call 95; refine (HP.out _ hv).mono ?_; rintro e w' ⟨u, ev, rfl, hq, hb⟩; have HQ := Lib.hid hq; have HB := Lib.hid hb; clear hq hb))
        rcases HQ.out with ⟨hq, rfl⟩ | ⟨hq, te, pe, rfl⟩
        · obtain rfl : v = u := Lib.NumEnd.ok.inj (HOK.out.symm.trans hq)
          clear hq
          go_simp
          go_wp2_with fail
          go_ret2
          exact wholeQ_none HN.out HB.out
        · exact absurd HOK.out (hq _)
      · have n48 : ((c1.toNat : Int) == 48) = false := nat_eq c1 48 e48
        clear h48 e48
        go_enter Tryz.func53, Tryz.ntmps53
        go_wp2_with (first | (go_at_call 94; refine (HT.out _).mono ?_; rintro e w' ⟨rfl, rfl⟩) | (go_at_call 95; refine (HP.out _ hv).mono ?_; rintro e w' ⟨u, ev, rfl, hq, hb⟩; have HQ := Lib.hid hq; have HB := Lib.hid hb; clear hq hb))
        rcases HQ.out with ⟨hq, rfl⟩ | ⟨hq, te, pe, rfl⟩
        · obtain rfl : v = u := Lib.NumEnd.ok.inj (HOK.out.symm.trans hq)
          clear hq
          go_simp
          go_wp2_with fail
          go_ret2
          exact wholeQ_none HN.out HB.out
        · exact absurd HOK.out (hq _)
    by_cases hhi : hi < v
    · have HN : Hid (wholeE l lo hi = none) := Lib.hid (by rw [hw, if_pos (.inr (.inr (.inr hhi)))])
      clear hw
      by_cases e48 : c1 = 48
      · have ez : (s.toList == [48]) = true := by
          have : l = [48] := Classical.byContradiction fun h => h48 ⟨e48, h⟩
          rw [beq_iff_eq, ByteArray.toList_eq, HSL.out, this]
        subst e48
        clear h48
        go_enter Tryz.func53, Tryz.ntmps53
        go_wp2_with (first | (go_at_call 94; refine (HT.out _).mono ?_; rintro e w' ⟨rfl, rfl⟩) | (go_at_call 95; refine (HP.out _ hv).mono ?_; rintro e w' ⟨u, ev, rfl, hq, hb⟩; have HQ := Lib.hid hq; have HB := Lib.hid hb; clear hq hb))
        rcases HQ.out with ⟨hq, rfl⟩ | ⟨hq, te, pe, rfl⟩
        · obtain rfl : v = u := Lib.NumEnd.ok.inj (HOK.out.symm.trans hq)
          clear hq
          go_simp
          go_wp2_with fail
          go_ret2
          exact wholeQ_none HN.out HB.out
        · exact absurd HOK.out (hq _)
      · have n48 : ((c1.toNat : Int) == 48) = false := nat_eq c1 48 e48
        clear h48 e48
        go_enter Tryz.func53, Tryz.ntmps53
        go_wp2_with (first | (go_at_call 94; refine (HT.out _).mono ?_; rintro e w' ⟨rfl, rfl⟩) | (go_at_call 95; refine (HP.out _ hv).mono ?_; rintro e w' ⟨u, ev, rfl, hq, hb⟩; have HQ := Lib.hid hq; have HB := Lib.hid hb; clear hq hb))
        rcases HQ.out with ⟨hq, rfl⟩ | ⟨hq, te, pe, rfl⟩
        · obtain rfl : v = u := Lib.NumEnd.ok.inj (HOK.out.symm.trans hq)
          clear hq
          go_simp
          go_wp2_with fail
          go_ret2
          exact wholeQ_none HN.out HB.out
        · exact absurd HOK.out (hq _)
    · have HN : Hid (wholeE l lo hi = some v) := Lib.hid (by
        rw [hw, if_neg]
        rintro (h | h | h | h)
        · exact h43 (Option.some.inj h)
        · exact h48 ⟨Option.some.inj h.1, h.2⟩
        · exact hlo h
        · exact hhi h)
      clear hw
      by_cases e48 : c1 = 48
      · have ez : (s.toList == [48]) = true := by
          have : l = [48] := Classical.byContradiction fun h => h48 ⟨e48, h⟩
          rw [beq_iff_eq, ByteArray.toList_eq, HSL.out, this]
        subst e48
        clear h48
        go_enter Tryz.func53, Tryz.ntmps53
        go_wp2_with (first | (go_at_call 94; refine (HT.out _).mono ?_; rintro e w' ⟨rfl, rfl⟩) | (go_at_call 95; refine (HP.out _ hv).mono ?_; rintro e w' ⟨u, ev, rfl, hq, hb⟩; have HQ := Lib.hid hq; have HB := Lib.hid hb; clear hq hb))
        rcases HQ.out with ⟨hq, rfl⟩ | ⟨hq, te, pe, rfl⟩
        · obtain rfl : v = u := Lib.NumEnd.ok.inj (HOK.out.symm.trans hq)
          clear hq
          go_simp
          go_wp2_with fail
          go_ret2
          exact wholeQ_some HN.out HB.out
        · exact absurd HOK.out (hq _)
      · have n48 : ((c1.toNat : Int) == 48) = false := nat_eq c1 48 e48
        clear h48 e48
        go_enter Tryz.func53, Tryz.ntmps53
        go_wp2_with (first | (go_at_call 94; refine (HT.out _).mono ?_; rintro e w' ⟨rfl, rfl⟩) | (go_at_call 95; refine (HP.out _ hv).mono ?_; rintro e w' ⟨u, ev, rfl, hq, hb⟩; have HQ := Lib.hid hq; have HB := Lib.hid hb; clear hq hb))
        rcases HQ.out with ⟨hq, rfl⟩ | ⟨hq, te, pe, rfl⟩
        · obtain rfl : v = u := Lib.NumEnd.ok.inj (HOK.out.symm.trans hq)
          clear hq
          go_simp
          go_wp2_with fail
          go_ret2
          exact wholeQ_some HN.out HB.out
        · exact absurd HOK.out (hq _)
  · have hno : ∀ u, Lib.parseIntB 64 l ≠ .ok u := fun u e => hok ⟨u, e⟩
    have HN := Lib.hid ((HE.out).symm.trans (wpi_none (lo := lo) (hi := hi) hno))
    have HNO := Lib.hid hno
    clear hsl hD hDl hno hok h1 h2
    go_enter Tryz.func53, Tryz.ntmps53
    go_wp2_with (first | (go_at_call 94; refine (HT.out _).mono ?_; rintro e w' ⟨rfl, rfl⟩) | (go_at_call 95; refine (HP.out _ hv).mono ?_; rintro e w' ⟨u, ev, rfl, hq, hb⟩; have HQ := Lib.hid hq; have HB := Lib.hid hb; clear hq hb))
    rcases HQ.out with ⟨hq, rfl⟩ | ⟨_, te, pe, rfl⟩
    · exact absurd hq (HNO.out _)
    · go_simp
      go_wp2_with fail
      go_ret2
      exact wholeQ_none HN.out HB.out
end Go.Proofs.YtgfijlamhjjecaaGreatDoor


namespace Go.Proofs.YtgfijlamhjjecaaGreatDoor
open Go.RowKit
set_option maxRecDepth 100000 in
set_option maxHeartbeats 2000000 in
theorem p1_any {p0 p1 p2 p3 p4 : Nat} (w : World) {b0 b1 b2 b3 b4 : Bool} (h0 : w.cell? ⟨p0, 0, none⟩ = some (.bool b0)) (h1 : w.cell? ⟨p1, 0, none⟩ = some (.bool b1)) (h2 : w.cell? ⟨p2, 0, none⟩ = some (.bool b2)) (h3 : w.cell? ⟨p3, 0, none⟩ = some (.bool b3)) (h4 : w.cell? ⟨p4, 0, none⟩ = some (.bool b4)) :
    Calls Tryz.prog 104 #[.pointer (some ⟨p0, 0, none⟩), .pointer (some ⟨p1, 0, none⟩), .pointer (some ⟨p2, 0, none⟩), .pointer (some ⟨p3, 0, none⟩), .pointer (some ⟨p4, 0, none⟩)] w fun e w' => e = .returned (.bool (b0 && b1 && b2 && b3 && b4)) ∧ w = w' := by
  cases b0
  · go_enter Tryz.func104, Tryz.ntmps104
    go_wp2_with fail
    go_ret
    exact ⟨rfl, rfl⟩
  cases b1
  · go_enter Tryz.func104, Tryz.ntmps104
    go_wp2_with fail
    go_ret
    exact ⟨rfl, rfl⟩
  cases b2
  · go_enter Tryz.func104, Tryz.ntmps104
    go_wp2_with fail
    go_ret
    exact ⟨rfl, rfl⟩
  cases b3
  · go_enter Tryz.func104, Tryz.ntmps104
    go_wp2_with fail
    go_ret
    exact ⟨rfl, rfl⟩
  · go_enter Tryz.func104, Tryz.ntmps104
    go_wp2_with fail
    go_ret
    exact ⟨rfl, rfl⟩
set_option maxRecDepth 100000 in
theorem p2_any {p0 p1 : Nat} (w : World) {r : Int} {n : Nat} (hn : 2 ≤ n) (hn2 : n ≤ 64) (h0 : w.cell? ⟨p0, 0, none⟩ = some (.int .u64 r)) (h1 : w.cell? ⟨p1, 0, none⟩ = some (.int .i64 (n : Int))) :
    Calls Tryz.prog 105 #[.pointer (some ⟨p0, 0, none⟩), .pointer (some ⟨p1, 0, none⟩)] w fun e w' => e = .returned (.bool (r == ((n - 2 : Nat) : Int))) ∧ w = w' := by
  have en : (n : Int) - 2 = ((n - 2 : Nat) : Int) := by omega
  have hc : IntKind.u64.wrap ((n - 2 : Nat) : Int) = ((n - 2 : Nat) : Int) := by rw [IntKind.wrap_u64]; omega
  go_enter Tryz.func105, Tryz.ntmps105
  go_wp2_with fail
  go_ret
  exact ⟨rfl, rfl⟩
set_option maxRecDepth 100000 in
theorem p3_any {p0 p1 : Nat} (w : World) {r s : Int} (h0 : w.cell? ⟨p0, 0, none⟩ = some (.int .u64 r)) (h1 : w.cell? ⟨p1, 0, none⟩ = some (.int .u64 s)) :
    Calls Tryz.prog 106 #[.pointer (some ⟨p0, 0, none⟩), .pointer (some ⟨p1, 0, none⟩)] w fun e w' => e = .returned (.bool (r == s)) ∧ w = w' := by
  go_enter Tryz.func106, Tryz.ntmps106
  go_wp2_with fail
  go_ret
  exact ⟨rfl, rfl⟩
theorem wrapHT_num {e0 e1 e2 g0 g1 : List Str} {m : List Seg} {r0 r1 r2 r3 r4 : Int} {b0 b1 b2 b3 b4 : Bool} (q0 : NumQ 8 e0 r0 b0) (q1 : NumQ 8 e1 r1 b1) (q2 : NumQ 0 e2 r2 b2) (q3 : NumQ 0 g0 r3 b3) (q4 : NumQ 0 g1 r4 b4) :
    ((b0 && b1 && b2 && b3 && b4) = false → wrapHT ⟨unb, [e0, e1, e2]⟩ ⟨unz, [g0, g1]⟩ m = (wd0, 40)) ∧
    ((b0 && b1 && b2 && b3 && b4) = true → ∃ u0 u1 u2 u3 u4 : Nat, (r0 = u0 ∧ r1 = u1 ∧ r2 = u2 ∧ r3 = u3 ∧ r4 = u4) ∧ wrapHT ⟨unb, [e0, e1, e2]⟩ ⟨unz, [g0, g1]⟩ m = if u3 ≠ m.length then (wd0, 41) else if u2 ≠ u4 then (wd0, 42) else (⟨u0, u1, u2, m⟩, 0)) := by
  have eh : numsW ⟨unb, [e0, e1, e2]⟩ unb 3 = numsL [e0, e1, e2] := by unfold numsW; rw [if_pos ⟨rfl, rfl⟩]
  have ez : numsW ⟨unz, [g0, g1]⟩ unz 2 = numsL [g0, g1] := by unfold numsW; rw [if_pos ⟨rfl, rfl⟩]
  unfold wrapHT
  rw [eh, ez]
  simp only [numsL]
  refine ⟨fun h => ?_, fun h => ?_⟩
  · cases o0 : oneN e0 with
    | none => rfl
    | some v0 =>
    cases o1 : oneN e1 with
    | none => rfl
    | some v1 =>
    cases o2 : oneN e2 with
    | none => rfl
    | some v2 =>
    cases o3 : oneN g0 with
    | none => rfl
    | some v3 =>
    cases o4 : oneN g1 with
    | none => rfl
    | some v4 =>
    simp only
    have hb2 : b2 = true := by rcases q2 with ⟨h, _⟩ | ⟨_, h⟩; exact h; exact absurd (.inl rfl) (h _ o2)
    have hb3 : b3 = true := by rcases q3 with ⟨h, _⟩ | ⟨_, h⟩; exact h; exact absurd (.inl rfl) (h _ o3)
    have hb4 : b4 = true := by rcases q4 with ⟨h, _⟩ | ⟨_, h⟩; exact h; exact absurd (.inl rfl) (h _ o4)
    rw [if_pos]
    subst hb2; subst hb3; subst hb4
    rcases q0 with ⟨h0, _⟩ | ⟨_, h0⟩
    · rcases q1 with ⟨h1, _⟩ | ⟨_, h1⟩
      · subst h0; subst h1; exact absurd h (by decide)
      · have := h1 _ o1; right; omega
    · have := h0 _ o0; left; omega
  · simp only [Bool.and_eq_true] at h
    obtain ⟨⟨⟨⟨h0, h1⟩, h2⟩, h3⟩, h4⟩ := h
    rcases q0 with ⟨_, u0, o0, k0, s0⟩ | ⟨h, _⟩
    · rcases q1 with ⟨_, u1, o1, k1, s1⟩ | ⟨h, _⟩
      · rcases q2 with ⟨_, u2, o2, k2, s2⟩ | ⟨h, _⟩
        · rcases q3 with ⟨_, u3, o3, k3, s3⟩ | ⟨h, _⟩
          · rcases q4 with ⟨_, u4, o4, k4, s4⟩ | ⟨h, _⟩
            · rw [o0, o1, o2, o3, o4]
              simp only
              exact ⟨u0, u1, u2, u3, u4, ⟨s0, s1, s2, s3, s4⟩, by rw [if_neg (by omega)]⟩
            · rw [h] at h4; cases h4
          · rw [h] at h3; cases h3
        · rw [h] at h2; cases h2
      · rw [h] at h1; cases h1
    · rw [h] at h0; cases h0
end Go.Proofs.YtgfijlamhjjecaaGreatDoor


namespace Go.Proofs.YtgfijlamhjjecaaGreatDoor
open Go.RowKit
def isBtw : EC → Bool
  | .btw _ => true
  | _ => false
def isRel : EC → Bool
  | .rel _ _ _ _ _ => true
  | _ => false
theorem tagS_form {l : List Seg} {t : Str} {c : UInt8} {s' : EC} (h : tagS l t c = .ok s') : tagB c = true ∧ isBtw s' = false ∧ isRel s' = false := by
  unfold tagS at h
  by_cases hc : tagB c = false
  · rw [if_pos hc] at h; cases h
  · rw [if_neg hc] at h
    refine ⟨by simpa using hc, ?_⟩
    by_cases h3 : t.length + 1 < 3
    · rw [if_pos h3] at h; cases h; exact ⟨rfl, rfl⟩
    · rw [if_neg h3] at h; cases h; exact ⟨rfl, rfl⟩
theorem putS_form {l : List Seg} {t : Str} {es : List (List Str)} {cs : List Str} {p : Str} {c : UInt8} {s' : EC} (h : putS l t es cs p c = .ok s') : isBtw s' = false ∧ isRel s' = false := by
  unfold putS at h
  split at h
  · cases h
  · cases h; exact ⟨rfl, rfl⟩
theorem signS_form {l : List Seg} {t : Str} {es : List (List Str)} {cs : List Str} {p : Str} {c : UInt8} {s' : EC} (h : signS l t es cs p c = .ok s') : isBtw s' = (c == 39) ∧ isRel s' = false := by
  unfold signS at h
  by_cases h39 : c = 39
  · rw [if_pos h39] at h; cases h; subst h39; exact ⟨rfl, rfl⟩
  · rw [if_neg h39] at h
    have e : (c == 39) = false := beq_eq_false_iff_ne.2 h39
    rw [e]
    split at h
    · split at h
      · cases h
      · cases h; exact ⟨rfl, rfl⟩
    · split at h
      · cases h
      · cases h; exact ⟨rfl, rfl⟩
theorem step_form {s s' : EC} {c : UInt8} (h : stepE s c = .ok s') : isBtw s' = (c == 10 || (c == 39 && !isRel s)) ∧ isRel s' = (c == 63 && !isRel s) := by
  cases s with
  | btw l =>
    simp only [stepE] at h
    by_cases hc : c = 10 ∧ l ≠ []
    · rw [if_pos hc] at h; cases h; rw [hc.1]; exact ⟨rfl, rfl⟩
    · rw [if_neg hc] at h
      split at h
      · cases h
      · obtain ⟨h1, h2, h3⟩ := tagS_form h
        rw [h2, h3]
        refine ⟨?_, ?_⟩
        · have n1 : c ≠ 10 := by rintro rfl; exact absurd h1 (by decide)
          have n2 : c ≠ 39 := by rintro rfl; exact absurd h1 (by decide)
          simp [n1, n2]
        · have n2 : c ≠ 63 := by rintro rfl; exact absurd h1 (by decide)
          simp [n2]
  | tag l t =>
    obtain ⟨h1, h2, h3⟩ := tagS_form h
    rw [h2, h3]
    refine ⟨?_, ?_⟩
    · have n1 : c ≠ 10 := by rintro rfl; exact absurd h1 (by decide)
      have n2 : c ≠ 39 := by rintro rfl; exact absurd h1 (by decide)
      simp [n1, n2]
    · have n2 : c ≠ 63 := by rintro rfl; exact absurd h1 (by decide)
      simp [n2]
  | bhd l t =>
    simp only [stepE] at h
    split at h
    · cases h; subst_vars; exact ⟨rfl, rfl⟩
    · split at h
      · cases h; subst_vars; exact ⟨rfl, rfl⟩
      · cases h
  | cmp l t es cs p =>
    simp only [stepE] at h
    split at h
    · cases h; subst_vars; exact ⟨rfl, rfl⟩
    · rename_i h63
      split at h
      · rename_i hs
        obtain ⟨h1, h2⟩ := signS_form h
        have n1 : c ≠ 10 := by rintro rfl; exact absurd hs (by decide)
        rw [h1, h2]
        simp [n1, h63, isRel]
      · rename_i hs
        split at h
        · cases h
        · rename_i hb
          obtain ⟨h1, h2⟩ := putS_form h
          have n1 : c ≠ 10 := by rintro rfl; exact hb (by decide)
          have n2 : c ≠ 39 := by rintro rfl; exact hs (by decide)
          rw [h1, h2]
          simp [n1, n2, h63]
  | rel l t es cs p =>
    simp only [stepE] at h
    split at h
    · rename_i hs
      obtain ⟨h1, h2⟩ := putS_form h
      have n1 : c ≠ 10 := by rintro rfl; exact absurd hs (by decide)
      rw [h1, h2]
      simp [n1, isRel]
    · cases h
theorem step_err {s : EC} {c : UInt8} {k : Int} (h : stepE s c = .err k) : k = 2 ∨ k = 30 := by
  have hT : ∀ l t, tagS l t c = .err k → k = 2 ∨ k = 30 := fun l t h => by
    unfold tagS at h
    split at h
    · cases h; exact .inr rfl
    · split at h <;> cases h
  have hP : ∀ l t es cs p, putS l t es cs p c = .err k → k = 2 ∨ k = 30 := fun l t es cs p h => by
    unfold putS at h
    split at h
    · cases h; exact .inl rfl
    · cases h
  have hS : ∀ l t es cs p, signS l t es cs p c = .err k → k = 2 ∨ k = 30 := fun l t es cs p h => by
    unfold signS at h
    split at h
    · cases h
    · split at h
      · split at h
        · cases h; exact .inl rfl
        · cases h
      · split at h
        · cases h; exact .inl rfl
        · cases h
  cases s with
  | btw l =>
    simp only [stepE] at h
    split at h
    · cases h
    · split at h
      · cases h; exact .inl rfl
      · exact hT _ _ h
  | tag l t => exact hT _ _ h
  | bhd l t =>
    simp only [stepE] at h
    split at h
    · cases h
    · split at h
      · cases h
      · cases h; exact .inr rfl
  | cmp l t es cs p =>
    simp only [stepE] at h
    split at h
    · cases h
    · split at h
      · exact hS _ _ _ _ _ h
      · split at h
        · cases h; exact .inr rfl
        · exact hP _ _ _ _ _ h
  | rel l t es cs p =>
    simp only [stepE] at h
    split at h
    · exact hP _ _ _ _ _ h
    · cases h; exact .inr rfl
theorem heldN_succ {t : Str} {i : Nat} {c : UInt8} (h : t[i]? = some c) : heldN t (i + 1) = if c == 63 then heldN t i + 1 else 0 := by
  have hi : i < t.length := (List.getElem?_eq_some_iff.1 h).1
  unfold heldN
  rw [List.take_add_one, h, Option.toList_some, List.reverse_append, List.reverse_singleton, List.singleton_append, List.takeWhile_cons]
  by_cases hc : (c == 63) = true
  · rw [if_pos hc, if_pos hc, List.length_cons]
  · rw [if_neg hc, if_neg hc]; rfl
theorem heldN_zero (t : Str) : heldN t 0 = 0 := by simp [heldN]
theorem held_step {t : Str} {i : Nat} {c : UInt8} {s s' : EC} (h : t[i]? = some c) (hs : stepE s c = .ok s') (hp : (heldN t i % 2 == 1) = isRel s) : (heldN t (i + 1) % 2 == 1) = isRel s' := by
  rw [heldN_succ h, (step_form hs).2, ← hp]
  by_cases hc : c = 63
  · subst hc
    simp only [beq_self_eq_true, if_pos, Bool.true_and]
    rw [Bool.eq_iff_iff, beq_iff_eq, Bool.not_eq_true', beq_eq_false_iff_ne]
    omega
  · have e : (c == 63) = false := beq_eq_false_iff_ne.2 hc
    rw [e]; rfl
section
variable {S : Nat → Prop} {w : World} {B rb : Nat} {l : List Seg} {lv pv : Value} {xs : List Value} {p : Str}
theorem RA.segs (h : RA S w B rb l lv pv xs p) : SegsO (fun k => B ≤ k ∧ k < w.heap.size) B w lv l :=
  ⟨xs, h.hl, fun _ hk => own_lt h.hl hk, h.xl, fun i s x hs hx => (h.hes i s x hs hx).cong (fun k hk => ⟨(h.s1 k hk).1, (h.s1 k hk).2.1⟩) (fun _ _ => rfl)⟩
end
end Go.Proofs.YtgfijlamhjjecaaGreatDoor


namespace Go.Proofs.YtgfijlamhjjecaaGreatDoor
open Go.RowKit
theorem parse_big (s : ByteArray) (h : 65536 < s.size) (w : World) : Calls Tryz.prog 100 #[.string s] w fun e w' => e = .returned (.tuple #[.slice none 0 0, .int .i64 0, .int .i64 2]) ∧ w = w' := by
  have d1 : decide ((65536 : Int) < (s.size : Int)) = true := by rw [decide_eq_true_eq]; omega
  go_enter Tryz.func100, Tryz.ntmps100
  go_wp2_with fail
  go_ret3
  exact ⟨rfl, rfl⟩
theorem parseE_ok {t : Str} (h : t.length ≤ 65536) : parseE t = match runE (.btw []) 0 t with
    | .err i k => ([], i, k)
    | .ok (.btw l) => (l, 0, 0)
    | .ok _ => ([], t.length, 31) := by
  unfold parseE
  rw [if_neg (by omega)]
  rfl
theorem rd_start (w : World) (n : Nat) (hn : n = w.heap.size) : Rd (w.alloc (.cells #[.slice none 0 0, .slice none 0 0] 215)) n n (.btw []) := by
  subst hn
  refine ⟨fun _ => False, .slice none 0 0, .slice none 0 0, [], [], ⟨Nat.le_refl _, ?_, ?_, ?_, rfl, ?_, ?_⟩, by decide⟩
  · exact heap_alloc_new _ _
  · exact ⟨rfl, .inl ⟨rfl, rfl⟩⟩
  · exact ⟨rfl, .inl ⟨rfl, rfl⟩⟩
  · intro i s x h; simp at h
  · intro k hk; exact hk.elim
theorem enter_fn {f : Nat} {fn : Func} {c : Code} (hf : Tryz.prog.funcs[f]? = some fn) (hname : (fn.name == "runtime.NumGoroutine") = false) (hb : fn.body = some c) (args : Array Value) (w : World) :
    (callFunc f args).run Tryz.prog w = .ok (.enter f args) w := by
  have h1 : fn.name ≠ "runtime.NumGoroutine" := by simpa using hname
  simp [callFunc, hf, h1, hb, mark]
theorem enter_step (c : EC) (args : Array Value) (w : World) : (callFunc (fnE c) args).run Tryz.prog w = .ok (.enter (fnE c) args) w := by
  cases c with
  | btw l => exact enter_fn Tryz.func144 (by decide) rfl args w
  | tag l t => exact enter_fn Tryz.func168 (by decide) rfl args w
  | bhd l t => exact enter_fn Tryz.func187 (by decide) rfl args w
  | cmp l t es cs p => exact enter_fn Tryz.func205 (by decide) rfl args w
  | rel l t es cs p => exact enter_fn Tryz.func216 (by decide) rfl args w
set_option maxRecDepth 100000 in
set_option maxHeartbeats 4000000 in
theorem parse_own (s : ByteArray) (h : s.size ≤ 65536) (w : World) : Calls Tryz.prog 100 #[.string s] w fun e w' => ∃ v, e = .returned (.tuple #[v, .int .i64 ((parseE s.data.toList).2.1 : Int), .int .i64 (parseE s.data.toList).2.2]) ∧ SegsO (fun k => w.heap.size ≤ k ∧ k < w'.heap.size) w.heap.size w' v (parseE s.data.toList).1 ∧ Below w.heap.size w w' := by
  have d1 : decide ((65536 : Int) < (s.size : Int)) = false := by rw [decide_eq_false_iff_not]; omega
  obtain ⟨P, hP⟩ : ∃ P, parseE s.data.toList = P := ⟨_, rfl⟩
  rw [hP]
  have HP := Lib.hid hP
  clear hP
  go_enter Tryz.func100, Tryz.ntmps100
  go_wp2_with fail
  obtain ⟨rb, hrb⟩ : ∃ rb, w.heap.size = rb := ⟨_, rfl⟩
  rw [hrb]
  obtain ⟨w1, hw1⟩ : ∃ w1, w.alloc (.cells #[.slice none 0 0, .slice none 0 0] 215) = w1 := ⟨_, rfl⟩
  have HR := Lib.hid (show Rd w1 rb rb (.btw []) by rw [← hw1]; exact rd_start w rb hrb.symm)
  have HB := Lib.hid (show Below rb w w1 by rw [← hw1, ← hrb]; exact (Below.refl _ w).alloc (Nat.le_refl _) _)
  rw [hw1]
  clear hw1
  go_loopw [6, 7, 20] (fun nx dn i wr => ∃ (k : Nat) (c : EC), k ≤ s.size ∧ i = .int .i64 (k : Int) ∧ nx = .func (.func (fnE c)) #[.pointer (some ⟨rb, 0, none⟩)] #[] ∧ dn = .bool (isBtw c) ∧ Hid (Rd wr rb rb c) ∧ Hid (Below rb w wr) ∧ Hid (runE (.btw []) 0 s.data.toList = runE c k (s.data.toList.drop k)) ∧ Hid ((heldN s.data.toList k % 2 == 1) = isRel c)) (fun _ _ i _ => s.size - (intOf i).toNat)
  case atStart => exact ⟨0, .btw [], by omega, rfl, rfl, rfl, HR, HB, Lib.hid rfl, Lib.hid (by rw [heldN_zero]; rfl)⟩
  case round =>
    obtain ⟨k, c, hk, rfl, rfl, rfl, HD, HF, HN, HH⟩ := hrel
    clear HR HB
    by_cases hlt : k < s.size
    · have hA := at_byte s _ hlt
      obtain ⟨b, hb⟩ : ∃ b, s[k]'hlt = b := ⟨_, rfl⟩
      rw [hb] at hA
      have hent := enter_step c
      have hDR : s.data.toList.drop k = b :: s.data.toList.drop (k + 1) := by
        obtain ⟨hl, he⟩ := List.getElem?_eq_some_iff.1 hA
        rw [List.drop_eq_getElem_cons hl, he]
      have hS := rd_step HD.out (by have := HF.out.size; omega) b
      cases hr : stepE c b with
      | err kk =>
        rw [hr] at hS
        have HS := Lib.hid hS
        clear hS
        have hP : P = ([], k, kk) := by
          rw [← HP.out, parseE_ok (by simpa using h), HN.out, hDR]
          simp only [runE, hr]
        subst hP
        rcases step_err hr with rfl | rfl
        · go_wp2_with (go_fit HS.out; rintro e w' ⟨rfl, hB⟩; have HB2 := Lib.hid hB; clear hB)
          go_ret3
          exact ⟨_, rfl, SegsO.nil _ _ _, HF.out.trans HB2.out⟩
        · go_wp2_with (go_fit HS.out; rintro e w' ⟨rfl, hB⟩; have HB2 := Lib.hid hB; clear hB)
          go_ret3
          exact ⟨_, rfl, SegsO.nil _ _ _, HF.out.trans HB2.out⟩
      | ok c' =>
        rw [hr] at hS
        have HS := Lib.hid hS
        have HC := Lib.hid (step_form hr)
        clear hS
        have HX := Lib.hid (show runE (.btw []) 0 s.data.toList = runE c' (k + 1) (s.data.toList.drop (k + 1)) by
          rw [HN.out, hDR]
          simp only [runE, hr])
        have HY := Lib.hid (held_step hA hr HH.out)
        have hHL := fun w => held_any (.pointer (some ⟨rb, 0, none⟩)) s k (by omega) (by omega) w
        have HHL := Lib.hid hHL
        clear hHL hDR
        by_cases h10 : b = 10
        · have hbv : isBtw c' = true := by rw [HC.out.1, h10]; rfl
          subst h10
          go_wp2_with (go_fit HS.out; rintro e w' ⟨rfl, hD, hB⟩; have HD2 := Lib.hid hD; have HB2 := Lib.hid hB; clear hB hD)
          go_round
          case rel => exact ⟨k + 1, c', by omega, by go_num, rfl, by rw [hbv], HD2, Lib.hid (HF.out.trans HB2.out), HX, HY⟩
          case measure => simp [intOf]; omega
        · have n10 : ((b.toNat : Int) == 10) = false := nat_eq b 10 h10
          by_cases h39 : b = 39
          · subst h39
            by_cases hk0 : k = 0
            · have k0 : ((k : Int) == 0) = true := by rw [hk0]; rfl
              have hbv : isBtw c' = true := by rw [HC.out.1, ← HH.out, hk0, heldN_zero]; rfl
              clear hk0
              go_wp2_with (go_fit HS.out; rintro e w' ⟨rfl, hD, hB⟩; have HD2 := Lib.hid hD; have HB2 := Lib.hid hB; clear hB hD)
              go_round
              case rel => exact ⟨k + 1, c', by omega, by go_num, rfl, by rw [hbv], HD2, Lib.hid (HF.out.trans HB2.out), HX, HY⟩
              case measure => simp [intOf]; omega
            · have k0 : ((k : Int) == 0) = false := by rw [beq_eq_false_iff_ne]; omega
              have hbv : isBtw c' = !(heldN s.data.toList k % 2 == 1) := by rw [HC.out.1, ← HH.out]; rfl
              have HBV := Lib.hid hbv
              clear hbv
              go_wp2_with first | (go_fit HS.out; rintro e w' ⟨rfl, hD, hB⟩; have HD2 := Lib.hid hD; have HB2 := Lib.hid hB; clear hB hD) | (go_at_call 145; refine (HHL.out _).mono ?_; rintro e w' ⟨rfl, rfl⟩)
              go_round
              case rel => exact ⟨k + 1, c', by omega, by go_num, rfl, by rw [HBV.out], HD2, Lib.hid (HF.out.trans HB2.out), HX, HY⟩
              case measure => simp [intOf]; omega
          · have n39 : ((b.toNat : Int) == 39) = false := nat_eq b 39 h39
            have hbv : isBtw c' = false := by rw [HC.out.1]; simp [h10, h39]
            go_wp2_with (go_fit HS.out; rintro e w' ⟨rfl, hD, hB⟩; have HD2 := Lib.hid hD; have HB2 := Lib.hid hB; clear hB hD)
            go_round
            case rel => exact ⟨k + 1, c', by omega, by go_num, rfl, by rw [hbv], HD2, Lib.hid (HF.out.trans HB2.out), HX, HY⟩
            case measure => simp [intOf]; omega
    · obtain rfl : k = s.size := by omega
      have hN := HN.out
      rw [List.drop_eq_nil_of_le (by simp)] at hN
      simp only [runE] at hN
      have hPP : P = match (EO.ok c) with
          | .err i k => ([], i, k)
          | .ok (.btw l) => (l, 0, 0)
          | .ok _ => ([], s.data.toList.length, 31) := by
        rw [← HP.out, parseE_ok (by simpa using h), hN]
      have hsz : s.data.toList.length = s.size := by simp
      rw [hsz] at hPP
      clear hN
      cases c with
      | btw l =>
        obtain ⟨S, lv, pv, xs, p, hR, hl64⟩ := HD.out
        have d0 := hR.c0
        have HRR := Lib.hid hR
        clear hR
        simp only [isBtw]
        replace hPP : P = (l, 0, 0) := hPP
        subst hPP
        go_wp2_with fail
        go_ret3
        exact ⟨_, rfl, HRR.out.segs, HF.out⟩
      | tag l t =>
        simp only [isBtw]
        replace hPP : P = ([], s.size, 31) := hPP
        subst hPP
        go_wp2_with fail
        go_ret3
        exact ⟨_, rfl, SegsO.nil _ _ _, HF.out⟩
      | bhd l t =>
        simp only [isBtw]
        replace hPP : P = ([], s.size, 31) := hPP
        subst hPP
        go_wp2_with fail
        go_ret3
        exact ⟨_, rfl, SegsO.nil _ _ _, HF.out⟩
      | cmp l t es cs p =>
        simp only [isBtw]
        replace hPP : P = ([], s.size, 31) := hPP
        subst hPP
        go_wp2_with fail
        go_ret3
        exact ⟨_, rfl, SegsO.nil _ _ _, HF.out⟩
      | rel l t es cs p =>
        simp only [isBtw]
        replace hPP : P = ([], s.size, 31) := hPP
        subst hPP
        go_wp2_with fail
        go_ret3
        exact ⟨_, rfl, SegsO.nil _ _ _, HF.out⟩
end Go.Proofs.YtgfijlamhjjecaaGreatDoor


namespace Go.Proofs.YtgfijlamhjjecaaGreatDoor
open Go.RowKit
def wv (x : WD) (v : Value) : Value := .agg #[.int .u8 (x.fr : Int), .int .u8 (x.dst : Int), .int .u64 (x.rf : Int), v]
def WParseQ (t : Str) (w : World) (e : Ending) (w' : World) : Prop := ∃ v, e = .returned (.tuple #[wv (wrapParseE t).1 v, .int .i64 (wrapParseE t).2]) ∧ SegsAt (fun k => w.heap.size ≤ k ∧ k < w'.heap.size) w' v (wrapParseE t).1.segs ∧ Below w.heap.size w w'
theorem wq_err {t : Str} {w w' : World} {k : Int} (h : wrapParseE t = (wd0, k)) (hb : Below w.heap.size w w') : WParseQ t w (.returned (.tuple #[.agg #[.int .u8 0, .int .u8 0, .int .u64 0, .slice none 0 0], .int .i64 k])) w' := by
  unfold WParseQ
  rw [h]
  exact ⟨.slice none 0 0, rfl, SegsAt.nil _ _, hb⟩
theorem res_wrap {fn : Func} {p u : Tmp} (h : fn.results = #[.cell p 41, .tmp u]) (tmps : Array Value) {w : World} {g : Nat} {cs : Array Value} {x : Value} {t : TypeId} (hp : tmps.getD p undef = .pointer (some ⟨g, 0, none⟩)) (hu : tmps.getD u undef = x)
    (hg : w.heap[g]? = some (.cells cs t (0, 0))) (hs : cs.size = 4) : (results fn tmps).run Tryz.prog w = .ok (.tuple #[.agg cs, x]) w := by
  rw [results_cell_tmp h, hp, hu]
  have hl : (loadVar 41 ⟨g, 0, none⟩).run Tryz.prog w = .ok (.agg cs) w := run_loadVar_row w g t 41 cs (0, 0) _ hg Tryz.underlying41 rfl (by rw [hs]; kernel_rfl)
  simp [asAddr, hl, Result.andThen]
def put4 (w : World) (g : Nat) (a b c d : Value) : World := (((w.setCell ⟨g, 0, none⟩ a).setCell ⟨g, 1, none⟩ b).setCell ⟨g, 2, none⟩ c).setCell ⟨g, 3, none⟩ d
theorem put4_heap {w : World} {g : Nat} {x y z u : Value} {t : TypeId} (h : w.heap[g]? = some (.cells #[x, y, z, u] t (0, 0))) (a b c d : Value) : (put4 w g a b c d).heap[g]? = some (.cells #[a, b, c, d] t (0, 0)) := by
  have h0 := heap_setCell_same w g 0 _ _ a h
  have h1 := heap_setCell_same _ g 1 _ _ b h0
  have h2 := heap_setCell_same _ g 2 _ _ c h1
  have h3 := heap_setCell_same _ g 3 _ _ d h2
  exact h3
theorem put4_size (w : World) (g : Nat) (a b c d : Value) : (put4 w g a b c d).heap.size = w.heap.size := by unfold put4; simp
theorem put4_below {w0 w : World} {B g : Nat} (h : Below B w0 w) (hg : B ≤ g) (a b c d : Value) : Below B w0 (put4 w g a b c d) := (((h.setCell hg _).setCell hg _).setCell hg _).setCell hg _
theorem put4_other (w : World) (g : Nat) (a b c d : Value) {k : Nat} (hk : k ≠ g) : (put4 w g a b c d).heap[k]? = w.heap[k]? := by
  unfold put4
  rw [heap_setCell_other _ _ _ _ (by simpa using hk), heap_setCell_other _ _ _ _ (by simpa using hk), heap_setCell_other _ _ _ _ (by simpa using hk), heap_setCell_other _ _ _ _ (by simpa using hk)]
theorem cells4 {w : World} {g : Nat} {x y z u : Value} {t : TypeId} (h : w.heap[g]? = some (.cells #[x, y, z, u] t (0, 0))) : (w.cell? ⟨g, 0, none⟩ = some x ∧ w.cell? ⟨g, 1, none⟩ = some y ∧ w.cell? ⟨g, 2, none⟩ = some z ∧ w.cell? ⟨g, 3, none⟩ = some u) ∧ (w.frozen? ⟨g, 0, none⟩ = false ∧ w.frozen? ⟨g, 1, none⟩ = false ∧ w.frozen? ⟨g, 2, none⟩ = false ∧ w.frozen? ⟨g, 3, none⟩ = false) :=
  ⟨⟨cell_of_row w g 0 _ _ _ h, cell_of_row w g 1 _ _ _ h, cell_of_row w g 2 _ _ _ h, cell_of_row w g 3 _ _ _ h⟩, frozen_of_row w g 0 _ _ h, frozen_of_row w g 1 _ _ h, frozen_of_row w g 2 _ _ h, frozen_of_row w g 3 _ _ h⟩
structure PK (B N n b off : Nat) (th : Str) (xh : Value) (tz : Str) (xz : Value) (w : World) : Prop where
  res : w.heap[B]? = some (.cells #[.int .u8 0, .int .u8 0, .int .u64 0, .slice none 0 0] 41 (0, 0))
  cn : w.cell? ⟨N, 0, none⟩ = some (.int .i64 (n : Int))
  h0 : w.cell? ⟨b, off, none⟩ = some (sv th)
  h1 : w.cell? ⟨b, off + 1, none⟩ = some xh
  z0 : w.cell? ⟨b, off + (n - 1) * 2, none⟩ = some (sv tz)
  z1 : w.cell? ⟨b, off + (n - 1) * 2 + 1, none⟩ = some xz
theorem PK.on {B N n b off M : Nat} {th : Str} {xh : Value} {tz : Str} {xz : Value} {w w' : World} (h : PK B N n b off th xh tz xz w) (hb : Below M w w') (hM : w.heap.size ≤ M) : PK B N n b off th xh tz xz w' :=
  ⟨(hb.block B (Nat.lt_of_lt_of_le (Array.getElem?_eq_some_iff.1 h.res).1 hM)).trans h.res, (hb.cell (Nat.lt_of_lt_of_le (cell_lt' h.cn) hM)).trans h.cn, (hb.cell (Nat.lt_of_lt_of_le (cell_lt' h.h0) hM)).trans h.h0, (hb.cell (Nat.lt_of_lt_of_le (cell_lt' h.h1) hM)).trans h.h1, (hb.cell (Nat.lt_of_lt_of_le (cell_lt' h.z0) hM)).trans h.z0, (hb.cell (Nat.lt_of_lt_of_le (cell_lt' h.z1) hM)).trans h.z1⟩
structure NK (eb eo zb zo : Nat) (x0 x1 x2 y0 y1 : Value) (e0 e1 e2 g0 g1 : List Str) (w : World) : Prop where
  c0 : w.cell? ⟨eb, eo, none⟩ = some x0
  c1 : w.cell? ⟨eb, eo + 1, none⟩ = some x1
  c2 : w.cell? ⟨eb, eo + 2, none⟩ = some x2
  c3 : w.cell? ⟨zb, zo, none⟩ = some y0
  c4 : w.cell? ⟨zb, zo + 1, none⟩ = some y1
  k0 : CompsAt (fun k => k < w.heap.size) w x0 e0
  k1 : CompsAt (fun k => k < w.heap.size) w x1 e1
  k2 : CompsAt (fun k => k < w.heap.size) w x2 e2
  k3 : CompsAt (fun k => k < w.heap.size) w y0 g0
  k4 : CompsAt (fun k => k < w.heap.size) w y1 g1
theorem NK.on {eb eo zb zo M : Nat} {x0 x1 x2 y0 y1 : Value} {e0 e1 e2 g0 g1 : List Str} {w w' : World} (h : NK eb eo zb zo x0 x1 x2 y0 y1 e0 e1 e2 g0 g1 w) (hb : Below M w w') (hM : w.heap.size ≤ M) : NK eb eo zb zo x0 x1 x2 y0 y1 e0 e1 e2 g0 g1 w' := by
  have hc : ∀ {b o : Nat} {v : Value}, w.cell? ⟨b, o, none⟩ = some v → w'.cell? ⟨b, o, none⟩ = some v := fun h1 => (hb.cell (Nat.lt_of_lt_of_le (cell_lt' h1) hM)).trans h1
  have hk : ∀ {x : Value} {e : List Str}, CompsAt (fun k => k < w.heap.size) w x e → CompsAt (fun k => k < w'.heap.size) w' x e := fun h1 => h1.cong (fun k hk => by have := hb.size; omega) (fun k hk => hb.block k (by omega))
  exact ⟨hc h.c0, hc h.c1, hc h.c2, hc h.c3, hc h.c4, hk h.k0, hk h.k1, hk h.k2, hk h.k3, hk h.k4⟩
theorem nk_of {w : World} {xh xz : Value} {e0 e1 e2 g0 g1 : List Str} (h : ElemsAt (fun k => k < w.heap.size) w xh [e0, e1, e2]) (h' : ElemsAt (fun k => k < w.heap.size) w xz [g0, g1]) :
    ∃ eb eo ec zb zo zc x0 x1 x2 y0 y1, xh = .slice (some ⟨eb, eo, none⟩) 3 ec ∧ 3 ≤ ec ∧ ec ≤ maxLen ∧ xz = .slice (some ⟨zb, zo, none⟩) 2 zc ∧ 2 ≤ zc ∧ zc ≤ maxLen ∧ NK eb eo zb zo x0 x1 x2 y0 y1 e0 e1 e2 g0 g1 w := by
  obtain ⟨xo, xc, rfl, hx1, hx2⟩ := h.form
  obtain ⟨yo, yc, rfl, hy1, hy2⟩ := h'.form
  obtain ⟨eb, eo, x0, rfl, _, c0, k0⟩ := h.get (k := 0) (e := e0) rfl
  obtain ⟨_, _, x1, hb1, _, c1, k1⟩ := h.get (k := 1) (e := e1) rfl
  cases hb1
  obtain ⟨_, _, x2, hb2, _, c2, k2⟩ := h.get (k := 2) (e := e2) rfl
  cases hb2
  obtain ⟨zb, zo, y0, rfl, _, c3, k3⟩ := h'.get (k := 0) (e := g0) rfl
  obtain ⟨_, _, y1, hb4, _, c4, k4⟩ := h'.get (k := 1) (e := g1) rfl
  cases hb4
  exact ⟨eb, eo, xc, zb, zo, yc, x0, x1, x2, y0, y1, rfl, hx1, hx2, rfl, hy1, hy2, c0, c1, c2, c3, c4, k0, k1, k2, k3, k4⟩
def VK (l : List (Nat × Value)) (w : World) : Prop := ∀ p ∈ l, w.cell? ⟨p.1, 0, none⟩ = some p.2
theorem VK.on {l : List (Nat × Value)} {M : Nat} {w w' : World} (h : VK l w) (hb : Below M w w') (hM : w.heap.size ≤ M) : VK l w' := fun p hp => (hb.cell (Nat.lt_of_lt_of_le (cell_lt' (h p hp)) hM)).trans (h p hp)
theorem VK.alloc {l : List (Nat × Value)} {w : World} (h : VK l w) (o : Obj) : VK l (w.alloc o) := h.on ((Below.refl _ w).alloc (Nat.le_refl _) o) (Nat.le_refl _)
theorem VK.cons {l : List (Nat × Value)} {w : World} {p : Nat × Value} (h : VK l w) (hp : w.cell? ⟨p.1, 0, none⟩ = some p.2) : VK (p :: l) w := fun q hq => by
  rcases List.mem_cons.1 hq with rfl | hq
  · exact hp
  · exact h q hq
theorem pk_of {S : Nat → Prop} {w : World} {v : Value} {th tz : Str} {eh ez : List (List Str)} {m : List Seg} {n : Nat} (h : SegsAt S w v (⟨th, eh⟩ :: (m ++ [⟨tz, ez⟩]))) (hn : (⟨th, eh⟩ :: (m ++ [⟨tz, ez⟩]) : List Seg).length = n) :
    ∃ b off cap xh xz, v = .slice (some ⟨b, off, none⟩) n cap ∧ n ≤ cap ∧ cap ≤ maxLen ∧ S b ∧ (w.cell? ⟨b, off, none⟩ = some (sv th) ∧ w.cell? ⟨b, off + 1, none⟩ = some xh ∧ w.cell? ⟨b, off + (n - 1) * 2, none⟩ = some (sv tz) ∧ w.cell? ⟨b, off + (n - 1) * 2 + 1, none⟩ = some xz) ∧ ElemsAt S w xh eh ∧ ElemsAt S w xz ez := by
  obtain ⟨ao, cap, rfl, h1, h2⟩ := h.form
  have hnm : n - 1 = m.length + 1 := by rw [← hn]; simp
  obtain ⟨b, off, xh, rfl, hS, c0, c1, he⟩ := h.get (k := 0) (s := ⟨th, eh⟩) rfl
  obtain ⟨b', off', xz, hbb, _, c2, c3, he'⟩ := h.get (k := n - 1) (s := ⟨tz, ez⟩) (by rw [hnm]; simp)
  cases hbb
  rw [Nat.zero_mul, Nat.add_zero] at c0 c1
  rw [hn] at h1 ⊢
  exact ⟨b, off, cap, xh, xz, rfl, h1, h2, hS, ⟨c0, c1, c2, c3⟩, he, he'⟩
theorem ends_of {l : List Seg} (h : ¬ l.length < 2) : ∃ a m z, l = a :: (m ++ [z]) := by
  cases l with
  | nil => simp at h
  | cons a r =>
    have hr : r ≠ [] := by rintro rfl; simp at h
    exact ⟨a, r.dropLast, r.getLast hr, by rw [List.dropLast_concat_getLast]⟩
theorem SegsAt.sub {S : Nat → Prop} {w : World} {b off n cap : Nat} {l : List Seg} (H : SegsAt S w (.slice (some ⟨b, off, none⟩) n cap) l) {lo hi c' : Nat} (_h1 : lo ≤ hi) (h2 : hi ≤ l.length) (hc : hi - lo ≤ c') (hc2 : c' ≤ maxLen) : SegsAt S w (.slice (some ⟨b, off + lo * 2, none⟩) (hi - lo) c') ((l.take hi).drop lo) := by
  obtain ⟨ao, cap', xs, e, k1, k2, k3, k4, k5, k6⟩ := H
  cases e
  have hlen : ((l.take hi).drop lo).length = hi - lo := by rw [List.length_drop, List.length_take, Nat.min_eq_left h2]
  have hget : ∀ {α : Type} (l : List α) (i : Nat) (s : α), ((l.take hi).drop lo)[i]? = some s → l[lo + i]? = some s := fun l i s hs => by
    rw [List.getElem?_drop] at hs
    rw [List.getElem?_take] at hs
    split at hs
    · exact hs
    · cases hs
  refine ⟨some ⟨b, off + lo * 2, none⟩, c', (xs.take hi).drop lo, by rw [hlen], by rw [hlen]; exact hc, hc2, (fun e => by cases e), by rw [hlen, List.length_drop, List.length_take, k4, Nat.min_eq_left h2], fun i s x hs hx => k5 _ s x (hget l i s hs) (hget xs i x hx), fun hne => ?_⟩
  have hl0 : l ≠ [] := by rintro rfl; exact hne (by simp)
  obtain ⟨b', off', e, hS, hcell⟩ := k6 hl0
  cases e
  refine ⟨b, off + lo * 2, rfl, hS, fun i s x hs hx => ?_⟩
  obtain ⟨a1, a2⟩ := hcell _ s x (hget l i s hs) (hget xs i x hx)
  rw [show off + lo * 2 + i * 2 = off + (lo + i) * 2 by omega]
  exact ⟨a1, a2⟩
set_option maxRecDepth 100000 in
set_option maxHeartbeats 8000000 in
theorem wParse_any (s : ByteArray) (w : World) (hv : VarsOk w) : Calls Tryz.prog 60 #[.string s] w fun e w' => WParseQ s.data.toList w e w' := by
  obtain ⟨B, hB⟩ : ∃ B, w.heap.size = B := ⟨_, rfl⟩
  by_cases hbig : 65536 < s.size
  · skip
    have hE : wrapParseE s.data.toList = (wd0, 2) := by
      have h1 : parseE s.data.toList = ([], 0, 2) := by unfold parseE; rw [if_pos (by simpa using hbig)]
      unfold wrapParseE
      rw [h1]; rfl
    have HE := Lib.hid hE
    have HBG := Lib.hid (parse_big s hbig)
    clear hE hbig
    go_enter Tryz.func60, Tryz.ntmps60
    go_wp2_with (go_at_call 100; refine (HBG.out _).mono ?_; rintro e w' ⟨rfl, rfl⟩)
    refine bodyPost_ret (res_wrap rfl _ rfl rfl (by rw [← hB]; exact heap_alloc_new _ _) rfl) rfl (wq_err HE.out ((Below.refl _ _).alloc (Nat.le_refl _) _))
  · skip
    have hs : s.size ≤ 65536 := by omega
    have HPA := Lib.hid (parse_own s hs)
    cases hpe : parseE s.data.toList with
    | mk l r =>
    obtain ⟨i, k⟩ := r
    have HPE := Lib.hid hpe
    rw [hpe] at HPA
    have hz1 : (w.alloc (.cells #[.int .u8 0, .int .u8 0, .int .u64 0, .slice none 0 0] 41)).heap.size = B + 1 := by simp [hB]
    have hB1 : Below B w (w.alloc (.cells #[.int .u8 0, .int .u8 0, .int .u64 0, .slice none 0 0] 41)) := by rw [← hB]; exact (Below.refl _ _).alloc (Nat.le_refl _) _
    have hc1 : (w.alloc (.cells #[.int .u8 0, .int .u8 0, .int .u64 0, .slice none 0 0] 41)).heap[B]? = some (.cells #[.int .u8 0, .int .u8 0, .int .u64 0, .slice none 0 0] 41 (0, 0)) := by rw [← hB]; exact heap_alloc_new _ _
    have HZ1 := Lib.hid hz1
    have HB1 := Lib.hid hB1
    have HC1 := Lib.hid hc1
    have HBQ := Lib.hid hB
    have hpe' := hpe
    have hs' := hs
    clear hpe hz1 hB1 hc1 hbig hs
    by_cases hk : k = 0
    · skip
      subst hk
      have HWE : Hid (wrapParseE s.data.toList = wrapOf l) := Lib.hid (by unfold wrapParseE; rw [HPE.out, if_pos rfl])
      by_cases hl2 : l.length < 2
      · skip
        clear hpe' hs'
        have hE : wrapParseE s.data.toList = (wd0, 40) := by
          rw [HWE.out]
          match l, hl2 with
          | [], _ => rfl
          | [a], _ => rfl
        have HE := Lib.hid hE
        obtain ⟨n, hn⟩ : ∃ n, l.length = n := ⟨_, rfl⟩
        have HN := Lib.hid hn
        rw [hn] at hl2
        have i2 : (n : Int) < 2 := by omega
        clear hE hn
        go_enter Tryz.func60, Tryz.ntmps60
        go_wp2_with (go_at_call 100; refine (HPA.out _).mono ?_; rw [HZ1.out]; rintro e w2 ⟨v, rfl, hso, hbe⟩; have HSO := Lib.hid hso.lies; have HBE := Lib.hid hbe; obtain ⟨va, vc, rfl, hv1, hv2⟩ := hso.lies.form; rw [HN.out] at hv1 ⊢; have hc2 := (hbe.block B (by omega)).trans HC1.out; have hz2 := hbe.size; rw [HZ1.out] at hz2; have hb3 := hbe.alloc hz2 (.cells #[.int .i64 (n : Int)] 3); have hc3 := (hb3.block B (by omega)).trans HC1.out; obtain ⟨⟨d0, d1, d2, d3⟩, f0, f1, f2, f3⟩ := cells4 hc3; have HC3 := Lib.hid hc3; have HB3 := Lib.hid hb3; clear hso hbe hb3 hc2 hc3)
        exact bodyPost_ret (res_wrap rfl _ rfl rfl (put4_heap HC3.out _ _ _ _) rfl) rfl (wq_err HE.out (by rw [HBQ.out]; exact put4_below (HB1.out.trans (HB3.out.mono (by omega))) (Nat.le_refl _) _ _ _ _))
      · skip
        obtain ⟨⟨th, eh⟩, m, ⟨tz, ez⟩, rfl⟩ := ends_of hl2
        have hok := (print_parse hpe' (by simpa using hs')).2
        obtain ⟨n, hn⟩ : ∃ n, (⟨th, eh⟩ :: (m ++ [⟨tz, ez⟩]) : List Seg).length = n := ⟨_, rfl⟩
        have hnm : n = m.length + 2 := by rw [← hn]; simp
        have HN := Lib.hid hn
        have HNM := Lib.hid hnm
        have HOK := Lib.hid hok
        have hn64 : n ≤ 64 := by rw [← hn]; exact hok.1
        have hn2 : 2 ≤ n := by omega
        have i2 : decide ((n : Int) < 2) = false := by rw [decide_eq_false_iff_not]; omega
        have en1 : (n : Int) - 1 = ((n - 1 : Nat) : Int) := by omega
        have i3 : (0 : Int) ≤ ((n - 1 : Nat) : Int) := by omega
        have i4 : ((n - 1 : Nat) : Int) < (n : Int) := by omega
        clear hn hok hnm hl2 hpe' hs'
        go_enter Tryz.func60, Tryz.ntmps60
        go_wp2_with ((go_at_call 100); refine (HPA.out _).mono ?_; rw [HZ1.out]; rintro e w2 ⟨v, rfl, hso, hbe⟩; have HSO := Lib.hid hso.lies; have HBE := Lib.hid hbe; obtain ⟨b, off, cap, xh, xz, rfl, hv1, hv2, hSb, ⟨g0, g1, g2, g3⟩, he, he'⟩ := pk_of hso.lies HN.out; have hz2 := hbe.size; rw [HZ1.out] at hz2; have hb3 := hbe.alloc hz2 (.cells #[.int .i64 (n : Int)] 3); have HPK : Hid (PK B w2.heap.size n b off th xh tz xz (w2.alloc (.cells #[.int .i64 (n : Int)] 3))) := Lib.hid ⟨(hb3.block B (by omega)).trans HC1.out, (by simp), ((Below.refl _ w2).alloc (Nat.le_refl _) _).cell (cell_lt' g0) |>.trans g0, ((Below.refl _ w2).alloc (Nat.le_refl _) _).cell (cell_lt' g1) |>.trans g1, ((Below.refl _ w2).alloc (Nat.le_refl _) _).cell (cell_lt' g2) |>.trans g2, ((Below.refl _ w2).alloc (Nat.le_refl _) _).cell (cell_lt' g3) |>.trans g3⟩; have HB3 := Lib.hid hb3; have HEH := Lib.hid he; have HEZ := Lib.hid he'; unfold maxLen at hv2; clear hso hbe he he' g0 g1 g2 g3 hb3 hSb; obtain ⟨p0, p1, p2, p3, p4, p5⟩ := HPK.out)
        have hvw := hv.on (HB1.out.trans (HB3.out.mono (by omega))) (by rw [HBQ.out]; exact Nat.le_refl _)
        have HBB : Hid (Below B w (w2.alloc (.cells #[.int .i64 (n : Int)] 3))) := Lib.hid (HB1.out.trans (HB3.out.mono (by omega)))
        have HSG : Hid (SegsAt (fun k => B + 1 ≤ k ∧ k < (w2.alloc (.cells #[.int .i64 (n : Int)] 3)).heap.size) (w2.alloc (.cells #[.int .i64 (n : Int)] 3)) (.slice (some ⟨b, off, none⟩) n cap) (⟨th, eh⟩ :: (m ++ [⟨tz, ez⟩]))) := Lib.hid (HSO.out.cong (fun k hk => ⟨by omega, by simp; omega⟩) (fun k hk => Below.heap_alloc _ _ _ hk.2))
        have HEH3 : Hid (ElemsAt (fun k => k < (w2.alloc (.cells #[.int .i64 (n : Int)] 3)).heap.size) (w2.alloc (.cells #[.int .i64 (n : Int)] 3)) xh eh) := Lib.hid (HEH.out.cong (fun k hk => by simp; omega) (fun k hk => Below.heap_alloc _ _ _ hk.2))
        have HEZ3 : Hid (ElemsAt (fun k => k < (w2.alloc (.cells #[.int .i64 (n : Int)] 3)).heap.size) (w2.alloc (.cells #[.int .i64 (n : Int)] 3)) xz ez) := Lib.hid (HEZ.out.cong (fun k hk => by simp; omega) (fun k hk => Below.heap_alloc _ _ _ hk.2))
        have HVW := Lib.hid hvw
        clear hvw HSO HBE HB3 HEH HEZ p0 p1 p2 p3 p4 p5 hz2 hv
        obtain ⟨N, hN⟩ : ∃ N, w2.heap.size = N := ⟨_, rfl⟩
        have hN3 : (w2.alloc (.cells #[.int .i64 (n : Int)] 3)).heap.size = N + 1 := by simp [hN]
        obtain ⟨w3, hw3⟩ : ∃ w3, w2.alloc (.cells #[.int .i64 (n : Int)] 3) = w3 := ⟨_, rfl⟩
        rw [hw3] at HBB HSG HEH3 HEZ3 HVW hN3 HPK ⊢
        rw [hN] at HPK ⊢
        have HN3 := Lib.hid hN3
        clear hN3 hN hw3
        have hBN : B ≤ w3.heap.size := by rw [← HBQ.out]; exact HBB.out.size
        by_cases h1 : th = unb ∧ eh.length = 3
        · skip
          refine (is_any w3 th xh eh HEH3.out _ _).mono ?_
          rw [decide_eq_true (by exact h1)]
          rintro e w4 ⟨rfl, hb4⟩
          have HK4 := Lib.hid (HPK.out.on hb4 (Nat.le_refl _))
          obtain ⟨p0, p1, p2, p3, p4, p5⟩ := HK4.out
          have HB4 := Lib.hid (HBB.out.trans (hb4.mono hBN))
          have HEZ4 := Lib.hid (HEZ3.out.cong (T := fun k => k < w4.heap.size) (w' := w4) (fun k hk => by have := hb4.size; omega) (fun k hk => hb4.block k hk))
          have HB34 := Lib.hid hb4
          clear hb4
          go_wp2_with fail
          refine (is_any w4 tz xz ez HEZ4.out _ _).mono ?_
          by_cases h2 : tz = unz ∧ ez.length = 2
          · skip
            rw [decide_eq_true (by exact h2)]
            rintro e w5 ⟨rfl, hb5⟩
            obtain ⟨e0, e1, e2, rfl⟩ : ∃ e0 e1 e2, eh = [e0, e1, e2] := by
              match eh, h1.2 with
              | [a, b, c], _ => exact ⟨a, b, c, rfl⟩
            obtain ⟨g0, g1, rfl⟩ : ∃ g0 g1, ez = [g0, g1] := by
              match ez, h2.2 with
              | [a, b], _ => exact ⟨a, b, rfl⟩
            obtain ⟨rfl, _⟩ := h1
            obtain ⟨rfl, _⟩ := h2
            obtain ⟨eb, eo, ec, zb, zo, zc, x0, x1, x2, y0, y1, rfl, hec1, hec2, rfl, hzc1, hzc2, hnk⟩ := nk_of HEH3.out HEZ3.out
            have nk3 := hnk
            have hb35 : Below w3.heap.size w3 w5 := HB34.out.trans (hb5.mono HB34.out.size)
            have HK5 := Lib.hid (HPK.out.on hb35 (Nat.le_refl _))
            have HNK5 := Lib.hid (hnk.on hb35 (Nat.le_refl _))
            have HB35 := Lib.hid hb35
            unfold maxLen at hec2 hzc2
            clear hb5 p0 p1 p2 p3 p4 p5 hnk hb35 HB34 HK4 HEZ4 HB4
            obtain ⟨p0, p1, p2, p3, p4, p5⟩ := HK5.out
            go_wp2_with fail
            go_quiet (fail)
            clear p0 p1 p2 p3 p4 p5
            have hb36 : Below w3.heap.size w3 (w5.drewN nq) := HB35.out.trans (Drew.below ⟨nq, rfl⟩ _)
            obtain ⟨w6, hw6⟩ : ∃ w6, w5.drewN nq = w6 := ⟨_, rfl⟩
            rw [hw6] at hb36 ⊢
            have HB36 := Lib.hid hb36
            have HVK6 : Hid (VK [] w6) := Lib.hid (fun p hp => by simp at hp)
            have hlen : ∀ e, e ∈ [e0, e1, e2, g0, g1] → ∀ p ∈ e, p.length ≤ 1048576 := fun e he p hp => by
              have h1 := HOK.out.2
              have h2 : p.length ≤ 256 := by
                simp only [List.mem_cons, List.not_mem_nil, or_false] at he
                rcases he with rfl | rfl | rfl | rfl | rfl
                · exact (((h1 ⟨unb, [e, e1, e2]⟩ (by simp)).2.2 e (by simp)).2.2 p hp).1
                · exact (((h1 ⟨unb, [e0, e, e2]⟩ (by simp)).2.2 e (by simp)).2.2 p hp).1
                · exact (((h1 ⟨unb, [e0, e1, e]⟩ (by simp)).2.2 e (by simp)).2.2 p hp).1
                · exact (((h1 ⟨unz, [e, g1]⟩ (by simp)).2.2 e (by simp)).2.2 p hp).1
                · exact (((h1 ⟨unz, [g0, e]⟩ (by simp)).2.2 e (by simp)).2.2 p hp).1
              omega
            have HLEN := Lib.hid hlen
            clear hlen hw6 hb36 HB35 HK5 HNK5
            have HNK3 := Lib.hid (nk3 : NK eb eo zb zo x0 x1 x2 y0 y1 e0 e1 e2 g0 g1 w3)
            clear nk3
            have c0 := (HNK3.out.on HB36.out (Nat.le_refl _)).c0
            go_wp2_with fail
            refine (num8_any w6 x0 e0 (HNK3.out.on HB36.out (Nat.le_refl _)).k0 (HLEN.out e0 (by simp)) (HVW.out.on HB36.out (Nat.le_refl _))).mono ?_
            rintro e w7 ⟨r0, b0, rfl, hq0, hb7⟩
            have hb37 : Below w3.heap.size w3 (w7.alloc (.cells #[.bool b0] 4)) := (HB36.out.trans (hb7.mono HB36.out.size)).alloc (Nat.le_trans HB36.out.size hb7.size) _
            have HQ0 := Lib.hid hq0
            have hvk7 : VK [(w7.heap.size, .bool b0)] (w7.alloc (.cells #[.bool b0] 4)) := ((HVK6.out.on hb7 (Nat.le_refl _)).alloc _).cons (by simp)
            have HVK7 := Lib.hid hvk7
            have HB37 := Lib.hid hb37
            clear hq0 hb7 hvk7 c0
            have c1 := (HNK3.out.on hb37 (Nat.le_refl _)).c1
            clear hb37
            go_wp2_with fail
            obtain ⟨P0, hP0⟩ : ∃ z, w7.heap.size = z := ⟨_, rfl⟩
            obtain ⟨w8, hw8⟩ : ∃ w8, w7.alloc (.cells #[.bool b0] 4) = w8 := ⟨_, rfl⟩
            rw [hP0] at HVK7 ⊢
            rw [hw8] at HVK7 HB37 c1 ⊢
            clear hP0 hw8 HVK6 c1
            refine (num8_any w8 x1 e1 (HNK3.out.on HB37.out (Nat.le_refl _)).k1 (HLEN.out e1 (by simp)) (HVW.out.on HB37.out (Nat.le_refl _))).mono ?_
            rintro e w9 ⟨r1, b1, rfl, hq1, hb9⟩
            have hb39 : Below w3.heap.size w3 (w9.alloc (.cells #[.bool b1] 4)) := (HB37.out.trans (hb9.mono HB37.out.size)).alloc (Nat.le_trans HB37.out.size hb9.size) _
            have HQ1 := Lib.hid hq1
            have hvk9 : VK [(w9.heap.size, .bool b1), (P0, .bool b0)] (w9.alloc (.cells #[.bool b1] 4)) := ((HVK7.out.on hb9 (Nat.le_refl _)).alloc _).cons (by simp)
            have HVK9 := Lib.hid hvk9
            have HB39 := Lib.hid hb39
            clear hq1 hb9 hvk9 HB37 HVK7 HB36
            have c2 := (HNK3.out.on hb39 (Nat.le_refl _)).c2
            clear hb39
            go_wp2_with fail
            obtain ⟨P1, hP1⟩ : ∃ z, w9.heap.size = z := ⟨_, rfl⟩
            obtain ⟨wa, hwa⟩ : ∃ wa, w9.alloc (.cells #[.bool b1] 4) = wa := ⟨_, rfl⟩
            rw [hP1] at HVK9 ⊢
            rw [hwa] at HVK9 HB39 c2 ⊢
            clear hP1 hwa c2
            refine (num64_any wa x2 e2 (HNK3.out.on HB39.out (Nat.le_refl _)).k2 (HLEN.out e2 (by simp)) (HVW.out.on HB39.out (Nat.le_refl _))).mono ?_
            rintro e wb ⟨r2, b2, rfl, hq2, hbb⟩
            have HBc' : Below w3.heap.size w3 ((wb.alloc (.cells #[.int .u64 r2] 22)).alloc (.cells #[.bool b2] 4)) := ((HB39.out.trans (hbb.mono HB39.out.size)).alloc (Nat.le_trans HB39.out.size hbb.size) _).alloc (by simp; exact Nat.le_trans (Nat.le_trans HB39.out.size hbb.size) (Nat.le_succ _)) _
            have HQ2 := Lib.hid hq2
            have hvkwb : VK ((wb.heap.size + 1, .bool b2) :: (wb.heap.size, .int .u64 r2) :: [(P1, .bool b1), (P0, .bool b0)]) ((wb.alloc (.cells #[.int .u64 r2] 22)).alloc (.cells #[.bool b2] 4)) := ((((HVK9.out.on hbb (Nat.le_refl _)).alloc _).cons (by simp)).alloc _).cons (by simp)
            have HVKc := Lib.hid hvkwb
            have HBc := Lib.hid HBc'
            have c3 := (HNK3.out.on HBc' (Nat.le_refl _)).c3
            clear hq2 hbb hvkwb HB39 HVK9 HBc'
            go_wp2_with fail
            obtain ⟨P2, hP2⟩ : ∃ z, wb.heap.size = z := ⟨_, rfl⟩
            obtain ⟨wc, hwc⟩ : ∃ wn, (wb.alloc (.cells #[.int .u64 r2] 22)).alloc (.cells #[.bool b2] 4) = wn := ⟨_, rfl⟩
            rw [hP2] at HVKc ⊢
            rw [hwc] at HVKc HBc c3 ⊢
            clear hP2 hwc c3
            refine (num64_any wc y0 g0 (HNK3.out.on HBc.out (Nat.le_refl _)).k3 (HLEN.out g0 (by simp)) (HVW.out.on HBc.out (Nat.le_refl _))).mono ?_
            rintro e wd ⟨r3, b3, rfl, hq3, hbwd⟩
            have HBe' : Below w3.heap.size w3 ((wd.alloc (.cells #[.int .u64 r3] 22)).alloc (.cells #[.bool b3] 4)) := ((HBc.out.trans (hbwd.mono HBc.out.size)).alloc (Nat.le_trans HBc.out.size hbwd.size) _).alloc (by simp; exact Nat.le_trans (Nat.le_trans HBc.out.size hbwd.size) (Nat.le_succ _)) _
            have HQ3 := Lib.hid hq3
            have hvkwd : VK ((wd.heap.size + 1, .bool b3) :: (wd.heap.size, .int .u64 r3) :: [(P2 + 1, .bool b2), (P2, .int .u64 r2), (P1, .bool b1), (P0, .bool b0)]) ((wd.alloc (.cells #[.int .u64 r3] 22)).alloc (.cells #[.bool b3] 4)) := ((((HVKc.out.on hbwd (Nat.le_refl _)).alloc _).cons (by simp)).alloc _).cons (by simp)
            have HVKe := Lib.hid hvkwd
            have HBe := Lib.hid HBe'
            have c4 := (HNK3.out.on HBe' (Nat.le_refl _)).c4
            clear hq3 hbwd hvkwd HBc HVKc HBe'
            go_wp2_with fail
            obtain ⟨P4, hP4⟩ : ∃ z, wd.heap.size = z := ⟨_, rfl⟩
            obtain ⟨we, hwe⟩ : ∃ wn, (wd.alloc (.cells #[.int .u64 r3] 22)).alloc (.cells #[.bool b3] 4) = wn := ⟨_, rfl⟩
            rw [hP4] at HVKe ⊢
            rw [hwe] at HVKe HBe c4 ⊢
            clear hP4 hwe c4
            refine (num64_any we y1 g1 (HNK3.out.on HBe.out (Nat.le_refl _)).k4 (HLEN.out g1 (by simp)) (HVW.out.on HBe.out (Nat.le_refl _))).mono ?_
            rintro e wf ⟨r4, b4, rfl, hq4, hbwf⟩
            have HBg' : Below w3.heap.size w3 ((wf.alloc (.cells #[.int .u64 r4] 22)).alloc (.cells #[.bool b4] 4)) := ((HBe.out.trans (hbwf.mono HBe.out.size)).alloc (Nat.le_trans HBe.out.size hbwf.size) _).alloc (by simp; exact Nat.le_trans (Nat.le_trans HBe.out.size hbwf.size) (Nat.le_succ _)) _
            have HQ4 := Lib.hid hq4
            have hvkwf : VK ((wf.heap.size + 1, .bool b4) :: (wf.heap.size, .int .u64 r4) :: [(P4 + 1, .bool b3), (P4, .int .u64 r3), (P2 + 1, .bool b2), (P2, .int .u64 r2), (P1, .bool b1), (P0, .bool b0)]) ((wf.alloc (.cells #[.int .u64 r4] 22)).alloc (.cells #[.bool b4] 4)) := ((((HVKe.out.on hbwf (Nat.le_refl _)).alloc _).cons (by simp)).alloc _).cons (by simp)
            have HVKg := Lib.hid hvkwf
            have HBg := Lib.hid HBg'
            clear hq4 hbwf hvkwf HBe HVKe HBg'
            go_wp2_with fail
            have hwgs : ((wf.alloc (.cells #[.int .u64 r4] 22)).alloc (.cells #[.bool b4] 4)).heap.size = wf.heap.size + 2 := by simp
            obtain ⟨P6, hP6⟩ : ∃ z, wf.heap.size = z := ⟨_, rfl⟩
            obtain ⟨wg, hwg⟩ : ∃ wn, (wf.alloc (.cells #[.int .u64 r4] 22)).alloc (.cells #[.bool b4] 4) = wn := ⟨_, rfl⟩
            rw [hP6] at HVKg hwgs ⊢
            rw [hwg] at HVKg HBg hwgs ⊢
            clear hP6 hwg
            obtain ⟨FS, hFS⟩ : ∃ FS : Array Value, FS = #[.func (.func 104) #[] #[.pointer (some ⟨P0, 0, none⟩), .pointer (some ⟨P1, 0, none⟩), .pointer (some ⟨P2 + 1, 0, none⟩), .pointer (some ⟨P4 + 1, 0, none⟩), .pointer (some ⟨P6 + 1, 0, none⟩)], .int .i64 40, .func (.func 105) #[] #[.pointer (some ⟨P4, 0, none⟩), .pointer (some ⟨N, 0, none⟩)], .int .i64 41, .func (.func 106) #[] #[.pointer (some ⟨P2, 0, none⟩), .pointer (some ⟨P6, 0, none⟩)], .int .i64 42] := ⟨_, rfl⟩
            rw [← hFS]
            have hT : (wg.alloc (.cells FS 185)).heap[P6 + 2]? = some (.cells FS 185 (0, 0)) := by rw [← hwgs]; exact heap_alloc_new _ _
            have hBz : Below w3.heap.size w3 (wg.alloc (.cells FS 185)) := HBg.out.alloc HBg.out.size _
            have hVz := HVKg.out.alloc (.cells FS 185)
            obtain ⟨wz, hwz⟩ : ∃ wz, wg.alloc (.cells FS 185) = wz := ⟨_, rfl⟩
            rw [hwz] at hT hBz hVz ⊢
            have HT := Lib.hid hT
            have HBz := Lib.hid hBz
            have HVz := Lib.hid hVz
            have HFS := Lib.hid hFS
            have HCT : ∀ (w' : World), Below wz.heap.size wz w' → ∀ (j : Nat) (x : Value), FS[j]? = some x → w'.cell? ⟨P6 + 2, j, none⟩ = some x := fun w' hb j x hx => by
              rw [cell_of_row w' (P6 + 2) j _ _ _ ((hb.block _ (Array.getElem?_eq_some_iff.1 HT.out).1).trans HT.out)]; exact hx
            have HCT := Lib.hid HCT
            have HPz := Lib.hid (HPK.out.on hBz (Nat.le_refl _))
            clear hT hBz hVz hwz hwgs hFS HVKg HBg
            refine wp_loop_rounds 4 ?_
            have HHT := Lib.hid (wrapHT_num (m := m) HQ0.out HQ1.out HQ2.out HQ3.out HQ4.out)
            clear HQ0 HQ1 HQ2 HQ3 HQ4 HEH3 HEZ3 HNK3 HLEN
            have t0 := HCT.out wz (Below.refl _ _) 0 _ (by rw [HFS.out]; rfl)
            have t1 := HCT.out wz (Below.refl _ _) 1 _ (by rw [HFS.out]; rfl)
            rw [rounds_succ]
            go_wp2_with fail
            clear t0 t1
            have hbr : Below wz.heap.size wz (wz.alloc (.cells #[(.func (.func 104) #[] #[.pointer (some ⟨P0, 0, none⟩), .pointer (some ⟨P1, 0, none⟩), .pointer (some ⟨P2 + 1, 0, none⟩), .pointer (some ⟨P4 + 1, 0, none⟩), .pointer (some ⟨P6 + 1, 0, none⟩)]), .int .i64 40] 185)) := ((Below.refl _ _)).alloc (Nat.le_refl _) _
            have hrow : (wz.alloc (.cells #[(.func (.func 104) #[] #[.pointer (some ⟨P0, 0, none⟩), .pointer (some ⟨P1, 0, none⟩), .pointer (some ⟨P2 + 1, 0, none⟩), .pointer (some ⟨P4 + 1, 0, none⟩), .pointer (some ⟨P6 + 1, 0, none⟩)]), .int .i64 40] 185)).heap[wz.heap.size]? = some (.cells #[(.func (.func 104) #[] #[.pointer (some ⟨P0, 0, none⟩), .pointer (some ⟨P1, 0, none⟩), .pointer (some ⟨P2 + 1, 0, none⟩), .pointer (some ⟨P4 + 1, 0, none⟩), .pointer (some ⟨P6 + 1, 0, none⟩)]), .int .i64 40] 185 (0, 0)) := heap_alloc_new _ _
            obtain ⟨R0, hR0⟩ : ∃ z, wz.heap.size = z := ⟨_, rfl⟩
            obtain ⟨wr0, hwr0⟩ : ∃ wn, wz.alloc (.cells #[(.func (.func 104) #[] #[.pointer (some ⟨P0, 0, none⟩), .pointer (some ⟨P1, 0, none⟩), .pointer (some ⟨P2 + 1, 0, none⟩), .pointer (some ⟨P4 + 1, 0, none⟩), .pointer (some ⟨P6 + 1, 0, none⟩)]), .int .i64 40] 185) = wn := ⟨_, rfl⟩
            have hRz : wz.heap.size ≤ R0 := by rw [← hR0]; exact Nat.le_refl _
            rw [hR0] at hrow ⊢
            rw [hwr0] at hbr hrow ⊢
            have HR0 := Lib.hid hbr
            have HRW0 := Lib.hid hrow
            clear hbr hrow hR0 hwr0
            have hV := HVz.out.on HR0.out (Nat.le_refl _)
            have hPn := (HPz.out.on HR0.out (Nat.le_refl _)).cn
            refine (p1_any wr0 (hV (P0, .bool b0) (by simp)) (hV (P1, .bool b1) (by simp)) (hV (P2 + 1, .bool b2) (by simp)) (hV (P4 + 1, .bool b3) (by simp)) (hV (P6 + 1, .bool b4) (by simp))).mono ?_
            clear hV hPn
            rintro e w' ⟨rfl, rfl⟩
            cases hall : (b0 && b1 && b2 && b3 && b4) with
            | false =>
              skip
              have hE : wrapParseE s.data.toList = (wd0, 40) := by
                rw [HWE.out, wrapOf_snoc]
                exact HHT.out.1 hall
              have HE := Lib.hid hE
              clear hE hall
              go_wp2_with fail
              have hk := (HPz.out.on HR0.out (Nat.le_refl _)).on ((Below.refl wr0.heap.size wr0).drew) (Nat.le_refl _)
              have hB6 : B < wz.heap.size := (Array.getElem?_eq_some_iff.1 HPz.out.res).1
              have c1 : wr0.drew.cell? ⟨R0, 1, none⟩ = some (.int .i64 40) := cell_of_row wr0.drew R0 1 _ _ _ HRW0.out
              refine wp_region_plan [(0, false), (1, false), (2, false), (3, true), (4, false)] (fun w' => w'.cell? ⟨R0, 1, none⟩ = some (.int .i64 40)) (by kernel_rfl) (by kernel_rfl) c1 ?_
              refine plan_val (v := .agg #[.int .u8 0, .int .u8 0, .int .u64 0, .slice none 0 0]) rfl rfl (fun w' hS => by first | rfl | kernel_rfl | go_simp) ?_
              simp only [Act.put, List.setIfInBounds_toArray, List.set_cons_zero, List.set_cons_succ]
              refine plan_val (v := .pointer (some ⟨R0, 1, none⟩)) rfl rfl (fun w' hS => by first | rfl | go_simp) ?_
              simp only [Act.put, List.setIfInBounds_toArray, List.set_cons_zero, List.set_cons_succ]
              refine plan_val (v := .int .i64 40) rfl rfl (fun w' hS => by have hS1 : w'.cell? ⟨R0, 1, none⟩ = some (.int .i64 40) := hS; go_simp) ?_
              simp only [Act.put, List.setIfInBounds_toArray, List.set_cons_zero, List.set_cons_succ]
              refine plan_do rfl (fun K hK => ?_)
              obtain ⟨⟨d0, d1, d2, d3⟩, f0, f1, f2, f3⟩ := cells4 (HPz.out.on HR0.out (Nat.le_refl _)).res
              go_wp2_with fail
              refine hK _ _ ((cell_ag (put4_other wr0.drew B _ _ _ _ (by omega))).trans c1) ?_
              clear hK K d0 d1 d2 d3 f0 f1 f2 f3
              refine plan_val (v := .int .i64 40) rfl rfl (fun w' hS => by first | rfl | go_simp) ?_
              simp only [Act.put, List.setIfInBounds_toArray, List.set_cons_zero, List.set_cons_succ]
              refine plan_nil ?_
              go_wp2_with fail
              exact bodyPost_ret (res_wrap rfl _ rfl rfl (put4_heap hk.res _ _ _ _) rfl) rfl (wq_err HE.out (by rw [HBQ.out]; exact put4_below (((HBB.out.trans (HBz.out.mono hBN)).trans (HR0.out.mono (Nat.le_trans hBN HBz.out.size))).drew) (Nat.le_refl _) _ _ _ _))
            | true =>
            obtain ⟨z0, z1, z2, z3, z4, ⟨rfl, rfl, rfl, rfl, rfl⟩, hz⟩ := HHT.out.2 hall
            have HZ := Lib.hid hz
            clear hz hall HHT
            go_wp2_with fail
            have t2 := HCT.out wr0 HR0.out 2 _ (by rw [HFS.out]; rfl)
            have t3 := HCT.out wr0 HR0.out 3 _ (by rw [HFS.out]; rfl)
            rw [rounds_succ]
            go_wp2_with fail
            clear t2 t3
            have hbr : Below wz.heap.size wz (wr0.alloc (.cells #[(.func (.func 105) #[] #[.pointer (some ⟨P4, 0, none⟩), .pointer (some ⟨N, 0, none⟩)]), .int .i64 41] 185)) := (HR0.out).alloc (HR0.out.size) _
            have hrow : (wr0.alloc (.cells #[(.func (.func 105) #[] #[.pointer (some ⟨P4, 0, none⟩), .pointer (some ⟨N, 0, none⟩)]), .int .i64 41] 185)).heap[wr0.heap.size]? = some (.cells #[(.func (.func 105) #[] #[.pointer (some ⟨P4, 0, none⟩), .pointer (some ⟨N, 0, none⟩)]), .int .i64 41] 185 (0, 0)) := heap_alloc_new _ _
            obtain ⟨R1, hR1⟩ : ∃ z, wr0.heap.size = z := ⟨_, rfl⟩
            obtain ⟨wr1, hwr1⟩ : ∃ wn, wr0.alloc (.cells #[(.func (.func 105) #[] #[.pointer (some ⟨P4, 0, none⟩), .pointer (some ⟨N, 0, none⟩)]), .int .i64 41] 185) = wn := ⟨_, rfl⟩
            have hRz : wz.heap.size ≤ R1 := by rw [← hR1]; exact HR0.out.size
            rw [hR1] at hrow ⊢
            rw [hwr1] at hbr hrow ⊢
            have HR1 := Lib.hid hbr
            have HRW1 := Lib.hid hrow
            clear hbr hrow hR1 hwr1
            have hV := HVz.out.on HR1.out (Nat.le_refl _)
            have hPn := (HPz.out.on HR1.out (Nat.le_refl _)).cn
            refine (p2_any wr1 hn2 hn64 (hV (P4, .int .u64 z3) (by simp)) hPn).mono ?_
            clear hV hPn
            rintro e w' ⟨rfl, rfl⟩
            cases hall : ((z3 : Int) == ((n - 2 : Nat) : Int)) with
            | false =>
              skip
              have hE : wrapParseE s.data.toList = (wd0, 41) := by
                rw [HWE.out, wrapOf_snoc]
                rw [HZ.out, if_pos]
                have h5 := HNM.out
                rw [beq_eq_false_iff_ne] at hall
                omega
              have HE := Lib.hid hE
              clear hE hall
              go_wp2_with fail
              have hk := (HPz.out.on HR1.out (Nat.le_refl _)).on ((Below.refl wr1.heap.size wr1).drew) (Nat.le_refl _)
              have hB6 : B < wz.heap.size := (Array.getElem?_eq_some_iff.1 HPz.out.res).1
              have c1 : wr1.drew.cell? ⟨R1, 1, none⟩ = some (.int .i64 41) := cell_of_row wr1.drew R1 1 _ _ _ HRW1.out
              refine wp_region_plan [(0, false), (1, false), (2, false), (3, true), (4, false)] (fun w' => w'.cell? ⟨R1, 1, none⟩ = some (.int .i64 41)) (by kernel_rfl) (by kernel_rfl) c1 ?_
              refine plan_val (v := .agg #[.int .u8 0, .int .u8 0, .int .u64 0, .slice none 0 0]) rfl rfl (fun w' hS => by first | rfl | kernel_rfl | go_simp) ?_
              simp only [Act.put, List.setIfInBounds_toArray, List.set_cons_zero, List.set_cons_succ]
              refine plan_val (v := .pointer (some ⟨R1, 1, none⟩)) rfl rfl (fun w' hS => by first | rfl | go_simp) ?_
              simp only [Act.put, List.setIfInBounds_toArray, List.set_cons_zero, List.set_cons_succ]
              refine plan_val (v := .int .i64 41) rfl rfl (fun w' hS => by have hS1 : w'.cell? ⟨R1, 1, none⟩ = some (.int .i64 41) := hS; go_simp) ?_
              simp only [Act.put, List.setIfInBounds_toArray, List.set_cons_zero, List.set_cons_succ]
              refine plan_do rfl (fun K hK => ?_)
              obtain ⟨⟨d0, d1, d2, d3⟩, f0, f1, f2, f3⟩ := cells4 (HPz.out.on HR1.out (Nat.le_refl _)).res
              go_wp2_with fail
              refine hK _ _ ((cell_ag (put4_other wr1.drew B _ _ _ _ (by omega))).trans c1) ?_
              clear hK K d0 d1 d2 d3 f0 f1 f2 f3
              refine plan_val (v := .int .i64 41) rfl rfl (fun w' hS => by first | rfl | go_simp) ?_
              simp only [Act.put, List.setIfInBounds_toArray, List.set_cons_zero, List.set_cons_succ]
              refine plan_nil ?_
              go_wp2_with fail
              exact bodyPost_ret (res_wrap rfl _ rfl rfl (put4_heap hk.res _ _ _ _) rfl) rfl (wq_err HE.out (by rw [HBQ.out]; exact put4_below (((HBB.out.trans (HBz.out.mono hBN)).trans (HR1.out.mono (Nat.le_trans hBN HBz.out.size))).drew) (Nat.le_refl _) _ _ _ _))
            | true =>
            have HC3 : Hid (z3 = m.length) := Lib.hid (by have h5 := HNM.out; rw [beq_iff_eq] at hall; omega)
            clear hall
            go_wp2_with fail
            have t4 := HCT.out wr1 HR1.out 4 _ (by rw [HFS.out]; rfl)
            have t5 := HCT.out wr1 HR1.out 5 _ (by rw [HFS.out]; rfl)
            rw [rounds_succ]
            go_wp2_with fail
            clear t4 t5
            have hbr : Below wz.heap.size wz (wr1.alloc (.cells #[(.func (.func 106) #[] #[.pointer (some ⟨P2, 0, none⟩), .pointer (some ⟨P6, 0, none⟩)]), .int .i64 42] 185)) := (HR1.out).alloc (HR1.out.size) _
            have hrow : (wr1.alloc (.cells #[(.func (.func 106) #[] #[.pointer (some ⟨P2, 0, none⟩), .pointer (some ⟨P6, 0, none⟩)]), .int .i64 42] 185)).heap[wr1.heap.size]? = some (.cells #[(.func (.func 106) #[] #[.pointer (some ⟨P2, 0, none⟩), .pointer (some ⟨P6, 0, none⟩)]), .int .i64 42] 185 (0, 0)) := heap_alloc_new _ _
            obtain ⟨R2, hR2⟩ : ∃ z, wr1.heap.size = z := ⟨_, rfl⟩
            obtain ⟨wr2, hwr2⟩ : ∃ wn, wr1.alloc (.cells #[(.func (.func 106) #[] #[.pointer (some ⟨P2, 0, none⟩), .pointer (some ⟨P6, 0, none⟩)]), .int .i64 42] 185) = wn := ⟨_, rfl⟩
            have hRz : wz.heap.size ≤ R2 := by rw [← hR2]; exact HR1.out.size
            rw [hR2] at hrow ⊢
            rw [hwr2] at hbr hrow ⊢
            have HR2 := Lib.hid hbr
            have HRW2 := Lib.hid hrow
            clear hbr hrow hR2 hwr2
            have hV := HVz.out.on HR2.out (Nat.le_refl _)
            have hPn := (HPz.out.on HR2.out (Nat.le_refl _)).cn
            refine (p3_any wr2 (hV (P2, .int .u64 z2) (by simp)) (hV (P6, .int .u64 z4) (by simp))).mono ?_
            clear hV hPn
            rintro e w' ⟨rfl, rfl⟩
            cases hall : ((z2 : Int) == (z4 : Int)) with
            | false =>
              skip
              have hE : wrapParseE s.data.toList = (wd0, 42) := by
                rw [HWE.out, wrapOf_snoc]
                rw [HZ.out, if_neg (by rw [HC3.out]; simp), if_pos]
                rw [beq_eq_false_iff_ne] at hall
                omega
              have HE := Lib.hid hE
              clear hE hall
              go_wp2_with fail
              have hk := (HPz.out.on HR2.out (Nat.le_refl _)).on ((Below.refl wr2.heap.size wr2).drew) (Nat.le_refl _)
              have hB6 : B < wz.heap.size := (Array.getElem?_eq_some_iff.1 HPz.out.res).1
              have c1 : wr2.drew.cell? ⟨R2, 1, none⟩ = some (.int .i64 42) := cell_of_row wr2.drew R2 1 _ _ _ HRW2.out
              refine wp_region_plan [(0, false), (1, false), (2, false), (3, true), (4, false)] (fun w' => w'.cell? ⟨R2, 1, none⟩ = some (.int .i64 42)) (by kernel_rfl) (by kernel_rfl) c1 ?_
              refine plan_val (v := .agg #[.int .u8 0, .int .u8 0, .int .u64 0, .slice none 0 0]) rfl rfl (fun w' hS => by first | rfl | kernel_rfl | go_simp) ?_
              simp only [Act.put, List.setIfInBounds_toArray, List.set_cons_zero, List.set_cons_succ]
              refine plan_val (v := .pointer (some ⟨R2, 1, none⟩)) rfl rfl (fun w' hS => by first | rfl | go_simp) ?_
              simp only [Act.put, List.setIfInBounds_toArray, List.set_cons_zero, List.set_cons_succ]
              refine plan_val (v := .int .i64 42) rfl rfl (fun w' hS => by have hS1 : w'.cell? ⟨R2, 1, none⟩ = some (.int .i64 42) := hS; go_simp) ?_
              simp only [Act.put, List.setIfInBounds_toArray, List.set_cons_zero, List.set_cons_succ]
              refine plan_do rfl (fun K hK => ?_)
              obtain ⟨⟨d0, d1, d2, d3⟩, f0, f1, f2, f3⟩ := cells4 (HPz.out.on HR2.out (Nat.le_refl _)).res
              go_wp2_with fail
              refine hK _ _ ((cell_ag (put4_other wr2.drew B _ _ _ _ (by omega))).trans c1) ?_
              clear hK K d0 d1 d2 d3 f0 f1 f2 f3
              refine plan_val (v := .int .i64 42) rfl rfl (fun w' hS => by first | rfl | go_simp) ?_
              simp only [Act.put, List.setIfInBounds_toArray, List.set_cons_zero, List.set_cons_succ]
              refine plan_nil ?_
              go_wp2_with fail
              exact bodyPost_ret (res_wrap rfl _ rfl rfl (put4_heap hk.res _ _ _ _) rfl) rfl (wq_err HE.out (by rw [HBQ.out]; exact put4_below (((HBB.out.trans (HBz.out.mono hBN)).trans (HR2.out.mono (Nat.le_trans hBN HBz.out.size))).drew) (Nat.le_refl _) _ _ _ _))
            | true =>
            have hE : wrapParseE s.data.toList = (⟨z0, z1, z2, m⟩, 0) := by
              rw [HWE.out, wrapOf_snoc, HZ.out, if_neg (by rw [HC3.out]; simp), if_neg]
              rw [beq_iff_eq] at hall
              omega
            have HE := Lib.hid hE
            clear hE hall
            go_wp2_with fail
            rw [rounds_succ]
            go_wp2_with fail
            have hk := (HPz.out.on HR2.out (Nat.le_refl _)).on ((Below.refl wr2.heap.size wr2).drew) (Nat.le_refl _)
            have hv := (HVz.out.on HR2.out (Nat.le_refl _)).on ((Below.refl wr2.heap.size wr2).drew) (Nat.le_refl _)
            have hB6 : B < wz.heap.size := (Array.getElem?_eq_some_iff.1 HPz.out.res).1
            have c1 : wr2.drew.cell? ⟨P2, 0, none⟩ = some (.int .u64 (z2 : Int)) := hv (P2, .int .u64 z2) (by simp)
            have c2 := hk.cn
            have hBP : B ≠ P2 := fun e => by
              have h1 := hv (P2, .int .u64 z2) (by simp)
              rw [← e] at h1
              have h2 := (cells4 hk.res).1.1
              rw [h2] at h1
              cases h1
            have hBN2 : B ≠ N := fun e => by
              have h1 := hk.cn
              rw [← e] at h1
              have h2 := (cells4 hk.res).1.1
              rw [h2] at h1
              cases h1
            have hwn : IntKind.i64.wrap (n : Int) = (n : Int) := IntWalk.i64_in _ (by omega)
            refine wp_region_plan [(0, false), (1, false), (2, false), (3, false), (4, false), (5, false), (6, false), (7, false), (8, false), (9, false), (10, true), (11, false)] (fun w' => w'.cell? ⟨P2, 0, none⟩ = some (.int .u64 (z2 : Int)) ∧ w'.cell? ⟨N, 0, none⟩ = some (.int .i64 (n : Int))) (by kernel_rfl) (by kernel_rfl) ⟨c1, c2⟩ ?_
            iterate 8 (refine' plan_val rfl rfl (fun w' hS => ?_) ?_; rotate_left; (focus (first | rfl | (obtain ⟨hS1, hS2⟩ := hS; go_simp; rfl))); simp only [Act.put, List.setIfInBounds_toArray, List.set_cons_zero, List.set_cons_succ])
            obtain ⟨sp, hsp⟩ : ∃ sp : Option Addr, (if n = 2 then some (⟨b, off, none⟩ : Addr) else some ⟨b, off + 2, none⟩) = sp := ⟨_, rfl⟩
            have HSP := Lib.hid hsp
            have hwn1 : IntKind.i64.wrap ((n - 1 : Nat) : Int) = ((n - 1 : Nat) : Int) := IntWalk.i64_in _ (by omega)
            refine plan_val (v := .slice sp (n - 1 - 1) (n - 1 - 1)) rfl rfl (fun w' hS => by
              go_simp
              first | rw [if_pos (by omega), if_pos (by omega), if_pos (by omega)] | (rw [if_pos (by omega), if_pos (by omega), if_pos (by omega), hsp])) ?_
            clear hsp
            simp only [Act.put, List.setIfInBounds_toArray, List.set_cons_zero, List.set_cons_succ]
            refine plan_val (v := .agg #[.int .u8 (z0 : Int), .int .u8 (z1 : Int), .int .u64 (z2 : Int), .slice sp (n - 1 - 1) (n - 1 - 1)]) rfl rfl (fun w' hS => by go_simp) ?_
            simp only [Act.put, List.setIfInBounds_toArray, List.set_cons_zero, List.set_cons_succ]
            refine plan_do rfl (fun K hK => ?_)
            obtain ⟨⟨d0, d1, d2, d3⟩, f0, f1, f2, f3⟩ := cells4 (HPz.out.on HR2.out (Nat.le_refl _)).res
            go_wp2_with fail
            refine hK _ _ ⟨(cell_ag (put4_other wr2.drew B _ _ _ _ (fun e => hBP e.symm))).trans c1, (cell_ag (put4_other wr2.drew B _ _ _ _ (fun e => hBN2 e.symm))).trans c2⟩ ?_
            clear hK K d0 d1 d2 d3 f0 f1 f2 f3
            refine plan_val (v := .int .i64 0) rfl rfl (fun w' hS => by first | rfl | go_simp) ?_
            simp only [Act.put, List.setIfInBounds_toArray, List.set_cons_zero, List.set_cons_succ]
            refine plan_nil ?_
            go_wp2_with fail
            refine bodyPost_ret (res_wrap rfl _ rfl rfl (put4_heap hk.res _ _ _ _) rfl) rfl ?_
            have hbz : Below B w wr2.drew := ((HBB.out.trans (HBz.out.mono hBN)).trans (HR2.out.mono (Nat.le_trans hBN HBz.out.size))).drew
            have h3r : Below w3.heap.size w3 wr2.drew := (HBz.out.trans (HR2.out.mono HBz.out.size)).drew
            unfold WParseQ
            rw [HE.out]
            refine ⟨_, rfl, ?_, by rw [HBQ.out]; exact put4_below hbz (Nat.le_refl _) _ _ _ _⟩
            have hsub := HSG.out.sub (lo := 1) (hi := n - 1) (c' := n - 1 - 1) (by omega) (by rw [HN.out]; omega) (Nat.le_refl _) (by unfold maxLen; omega)
            have hmid : ((⟨unb, [e0, e1, e2]⟩ :: (m ++ [⟨unz, [g0, g1]⟩]) : List Seg).take (n - 1)).drop 1 = m := by
              rw [show n - 1 = m.length + 1 by have := HNM.out; omega]
              simp
            rw [hmid, Nat.one_mul] at hsub
            have hfar : ∀ k, B + 1 ≤ k ∧ k < w3.heap.size → (put4 wr2.drew B (.int .u8 (z0 : Int)) (.int .u8 (z1 : Int)) (.int .u64 (z2 : Int)) (.slice sp (n - 1 - 1) (n - 1 - 1))).heap[k]? = w3.heap[k]? := fun k hk => (put4_other _ _ _ _ _ _ (by omega)).trans (h3r.block k hk.2)
            have h5 := HNM.out
            have h3s := h3r.size
            rw [← HSP.out]
            by_cases hm0 : n = 2
            · rw [if_pos hm0]
              have hmn : m = [] := List.length_eq_zero_iff.1 (by omega)
              subst hmn
              subst hm0
              exact ⟨some ⟨b, off, none⟩, 0, [], rfl, Nat.le_refl _, Nat.zero_le _, (fun e => by cases e), rfl, (fun i s x h => by simp at h), fun h => absurd rfl h⟩
            · rw [if_neg hm0]
              have h6 := put4_size wr2.drew B (.int .u8 (z0 : Int)) (.int .u8 (z1 : Int)) (.int .u64 (z2 : Int)) (.slice (some ⟨b, off + 2, none⟩) (n - 1 - 1) (n - 1 - 1))
              refine hsub.cong (fun k hk => ⟨by rw [HBQ.out]; omega, Nat.lt_of_lt_of_le (Nat.lt_of_lt_of_le hk.2 h3s) (Nat.le_of_eq h6.symm)⟩) (fun k hk => ?_)
              rw [← HSP.out, if_neg hm0] at hfar
              exact hfar k hk
          · skip
            have hE : wrapParseE s.data.toList = (wd0, 40) := by
              rw [HWE.out, wrapOf_snoc]
              unfold wrapHT
              have : numsW ⟨tz, ez⟩ unz 2 = none := by unfold numsW; rw [if_neg h2]
              rw [this]
              split
              · rename_i h; cases h
              · rfl
            have HE := Lib.hid hE
            clear hE
            rw [decide_eq_false (by exact h2)]
            rintro e w5 ⟨rfl, hb5⟩
            have hk5 := HK4.out.on hb5 (Nat.le_refl _)
            obtain ⟨⟨d0, d1, d2, d3⟩, f0, f1, f2, f3⟩ := cells4 hk5.res
            have HK5 := Lib.hid hk5
            have HB5 := Lib.hid (HB4.out.trans (hb5.mono (Nat.le_trans hBN HB34.out.size)))
            clear hk5 hb5 h1 h2 p0 p1 p2 p3 p4 p5
            go_wp2_with fail
            exact bodyPost_ret (res_wrap rfl _ rfl rfl (put4_heap HK5.out.res _ _ _ _) rfl) rfl (wq_err HE.out (by rw [HBQ.out]; exact put4_below HB5.out (Nat.le_refl _) _ _ _ _))
        · skip
          have hE : wrapParseE s.data.toList = (wd0, 40) := by
            rw [HWE.out, wrapOf_snoc]
            unfold wrapHT numsW
            rw [if_neg h1]
          have HE := Lib.hid hE
          clear hE
          refine (is_any w3 th xh eh HEH3.out _ _).mono ?_
          rw [decide_eq_false (by exact h1)]
          rintro e w4 ⟨rfl, hb4⟩
          have hk4 := HPK.out.on hb4 (Nat.le_refl _)
          obtain ⟨⟨d0, d1, d2, d3⟩, f0, f1, f2, f3⟩ := cells4 hk4.res
          have HK4 := Lib.hid hk4
          have HB4 := Lib.hid (HBB.out.trans (hb4.mono hBN))
          clear hk4 hb4 h1
          go_wp2_with fail
          exact bodyPost_ret (res_wrap rfl _ rfl rfl (put4_heap HK4.out.res _ _ _ _) rfl) rfl (wq_err HE.out (by rw [HBQ.out]; exact put4_below HB4.out (Nat.le_refl _) _ _ _ _))
    · skip
      clear hpe' hs'
      have dk : (k != 0) = true := by simpa using hk
      have hE : wrapParseE s.data.toList = (wd0, k) := by
        unfold wrapParseE
        rw [HPE.out, if_neg hk]
      have HE := Lib.hid hE
      clear hE hk
      go_enter Tryz.func60, Tryz.ntmps60
      go_wp2_with (go_at_call 100; refine (HPA.out _).mono ?_; rw [HZ1.out]; rintro e w2 ⟨v, rfl, hso, hbe⟩; have HSO := Lib.hid hso; have HBE := Lib.hid hbe; have hc2 := (hbe.block B (by omega)).trans HC1.out; obtain ⟨⟨d0, d1, d2, d3⟩, f0, f1, f2, f3⟩ := cells4 hc2; have HC2 := Lib.hid hc2; clear hso hbe hc2)
      exact bodyPost_ret (res_wrap rfl _ rfl rfl (put4_heap HC2.out _ _ _ _) rfl) rfl (wq_err HE.out (by rw [HBQ.out]; exact put4_below (HB1.out.trans (HBE.out.mono (by omega))) (Nat.le_refl _) _ _ _ _))
end Go.Proofs.YtgfijlamhjjecaaGreatDoor


namespace Go.Proofs.YtgfijlamhjjecaaGreatDoor
open Go.RowKit
theorem grown_alloc {w w' : World} {o : Obj} {row : Option Nat} (h : (w.alloc o).grownBy w' row) : w.grownBy w' row :=
  ⟨h.os, h.tape, h.output, by have := h.size; rw [World.size_alloc] at this; omega, fun k hk hne => (h.block k (by rw [World.size_alloc]; omega) hne).trans (Below.heap_alloc _ _ _ hk)⟩
theorem OwnS.nil (w : World) (B : Nat) : OwnS w B (.slice none 0 0) [] := World.ownsRow_nil _ _ _ _
theorem OwnS.form {w : World} {B : Nat} {v : Value} {l : Str} (h : OwnS w B v l) : ∃ a c, v = .slice a l.length c := by
  obtain ⟨_, ⟨h1, h2⟩ | ⟨g, cap, _, h1, _⟩⟩ := h
  · exact ⟨none, 0, by rw [h1, h2]⟩
  · exact ⟨_, cap, h1⟩
theorem OwnS.cong {w w' : World} {B : Nat} {v : Value} {l : Str} (h : OwnS w B v l) (e : ∀ k, k < w.heap.size → w'.heap[k]? = w.heap[k]?) : OwnS w' B v l := own_cong h fun k hk => e k (own_lt h hk).2
end Go.Proofs.YtgfijlamhjjecaaGreatDoor

