/-
  Texts MsgV1, MsgW, WrapF, MsgX0, EdiA1, EdiA7, EdiA9, WrapA, WrapS, MsgX2, MsgX7, one behind the other. No condition beyond those stated in each.
-/
import Derived.Test.YtgfijlamhjjecaaGreatDoorMp8
import Derived.Test.YtgfijlamhjjecaaGreatDoorMp1
import Derived.Test.YtgfijlamhjjecaaGreatDoorMp7
import Derived.Test.YtgfijlamhjjecaaGreatDoorMp5
import Derived.Lib.ItoaMem
import Derived.Lib.AppendIntMem
import Derived.Test.YtgfijlamhjjecaaGreatDoorMp3
import Derived.Deep.Slices
import Derived.SliceStrings
import Derived.OpenShut
import Derived.ChangeSame
import Derived.Test.YtgfijlamhjjecaaGreatDoorMp6
/-
  MsgV1: messages as values; contracts of the small functions of messages and tickets. No condition beyond those stated.
-/
namespace Go.Proofs.YtgfijlamhjjecaaGreatDoor
open Go.RowKit
/-- the fields as values -/
def cpnA (c : CD) : List Value := [.int .u8 c.car, .int .u16 c.fl, .int .u32 c.we, .int .i64 c.va, .int .u8 c.st, .int .u32 c.no]
def msgA (m : MD) : List Value := [.int .u8 m.kind, .int .u8 m.tc, .int .u64 m.ts, .int .u8 m.pl, .int .u8 m.c.car, .int .u16 m.c.fl, .int .u32 m.c.we, .int .i64 m.c.va, .int .u8 m.c.st, .int .u32 m.c.no, .int .i64 m.am, .int .i64 m.co]
def pktA (p : PD) : List Value := [.int .u8 p.fr, .int .u8 p.dst, .bool p.ack, .int .u64 p.num] ++ msgA p.m
/-- fields within their widths -/
structure okM (m : MD) : Prop where
  kind : m.kind < 256
  tc : m.tc < 256
  ts : m.ts < 18446744073709551616
  pl : m.pl < 256
  car : m.c.car < 256
  fl : m.c.fl < 65536
  we : m.c.we < 4294967296
  va : -9223372036854775808 ≤ m.c.va ∧ m.c.va ≤ 9223372036854775807
  st : m.c.st < 256
  no : m.c.no < 4294967296
  am : -9223372036854775808 ≤ m.am ∧ m.am ≤ 9223372036854775807
  co : -9223372036854775808 ≤ m.co ∧ m.co ≤ 9223372036854775807
structure okPD (p : PD) : Prop where
  fr : p.fr < 256
  dst : p.dst < 256
  num : p.num < 18446744073709551616
  m : okM p.m
theorem res4 {fn : Func} {t u v x : Tmp} (h : fn.results = #[.tmp t, .tmp u, .tmp v, .tmp x]) (tmps : Array Value) (P : Program) (w : World) :
    (results fn tmps).run P w = .ok (.tuple #[tmps.getD t undef, tmps.getD u undef, tmps.getD v undef, tmps.getD x undef]) w := by
  simp [results, h]
set_option maxHeartbeats 1000000 in
theorem nmay_any (c s : Nat) (w : World) : Calls Tryz.prog 84 #[.int .u64 (c : Int), .int .u64 (s : Int)] w fun e w' => e = .returned (.bool (mayT c s)) ∧ w' = w := by
  unfold mayT
  by_cases h1 : c < 8
  · by_cases h2 : 0 < s
    · by_cases h3 : s ≤ 9999999999
      · have i1 : ((c : Int) < 8) := by omega
        have i2 : ((s : Int) ≥ 1) := by omega
        have i3 : ((s : Int) ≤ 9999999999) := by omega
        have e : (decide (c < 8) && decide (0 < s) && decide (s ≤ 9999999999)) = true := by simp [h1, h2, h3]
        rw [e]
        go_enter Tryz.func84, Tryz.ntmps84
        go_wp2_with fail
        go_ret
        exact ⟨rfl, rfl⟩
      · have i1 : ((c : Int) < 8) := by omega
        have i2 : ((s : Int) ≥ 1) := by omega
        have i3 : ¬ ((s : Int) ≤ 9999999999) := by omega
        have e : (decide (c < 8) && decide (0 < s) && decide (s ≤ 9999999999)) = false := by simp [h1, h2, h3]
        rw [e]
        go_enter Tryz.func84, Tryz.ntmps84
        go_wp2_with fail
        go_ret
        exact ⟨rfl, rfl⟩
    · have i1 : ((c : Int) < 8) := by omega
      have i2 : ¬ ((s : Int) ≥ 1) := by omega
      have e : (decide (c < 8) && decide (0 < s) && decide (s ≤ 9999999999)) = false := by simp [h1, h2]
      rw [e]
      go_enter Tryz.func84, Tryz.ntmps84
      go_wp2_with fail
      go_ret
      exact ⟨rfl, rfl⟩
  · have i1 : ¬ ((c : Int) < 8) := by omega
    have e : (decide (c < 8) && decide (0 < s) && decide (s ≤ 9999999999)) = false := by simp [h1]
    rw [e]
    go_enter Tryz.func84, Tryz.ntmps84
    go_wp2_with fail
    go_ret
    exact ⟨rfl, rfl⟩
theorem carriers_any (a b : Nat) (w : World) : Calls Tryz.prog 41 #[.int .u8 (a : Int), .int .u8 (b : Int)] w fun e w' => e = .returned (.bool (decide (a < 8) && decide (b < 8))) ∧ w' = w := by
  by_cases h1 : a < 8
  · by_cases h2 : b < 8
    · have i1 : ((a : Int) < 8) := by omega
      have i2 : ((b : Int) < 8) := by omega
      have e : (decide (a < 8) && decide (b < 8)) = true := by simp [h1, h2]
      rw [e]
      go_enter Tryz.func41, Tryz.ntmps41
      go_wp2_with fail
      go_ret
      exact ⟨rfl, rfl⟩
    · have i1 : ((a : Int) < 8) := by omega
      have i2 : ¬ ((b : Int) < 8) := by omega
      have e : (decide (a < 8) && decide (b < 8)) = false := by simp [h2]
      rw [e]
      go_enter Tryz.func41, Tryz.ntmps41
      go_wp2_with fail
      go_ret
      exact ⟨rfl, rfl⟩
  · have i1 : ¬ ((a : Int) < 8) := by omega
    have e : (decide (a < 8) && decide (b < 8)) = false := by simp [h1]
    rw [e]
    go_enter Tryz.func41, Tryz.ntmps41
    go_wp2_with fail
    go_ret
    exact ⟨rfl, rfl⟩
/-- what Has says -/
def hasV (o : Option (Bool × Bool × Bool)) : Value := match o with
  | some (a, b, c) => .tuple #[.bool a, .bool b, .bool c, .bool true]
  | none => .tuple #[.bool false, .bool false, .bool false, .bool false]
theorem money_any (v : Int) (w : World) : Calls Tryz.prog 92 #[.int .i64 v] w fun e w' => e = .returned (.bool (moneyB v)) ∧ w' = w := by
  unfold moneyB M50
  by_cases h1 : -1125899906842624 ≤ v
  · have i1 : v ≥ -1125899906842624 := h1
    by_cases h2 : v ≤ 1125899906842624
    · have e : (decide (-1125899906842624 ≤ v) && decide (v ≤ 1125899906842624)) = true := by simp [h1, h2]
      rw [e]
      go_enter Tryz.func92, Tryz.ntmps92
      go_wp2_with fail
      go_ret
      exact ⟨rfl, rfl⟩
    · have e : (decide (-1125899906842624 ≤ v) && decide (v ≤ 1125899906842624)) = false := by simp [h2]
      rw [e]
      go_enter Tryz.func92, Tryz.ntmps92
      go_wp2_with fail
      go_ret
      exact ⟨rfl, rfl⟩
  · have i1 : ¬ (v ≥ -1125899906842624) := h1
    have e : (decide (-1125899906842624 ≤ v) && decide (v ≤ 1125899906842624)) = false := by simp [h1]
    rw [e]
    go_enter Tryz.func92, Tryz.ntmps92
    go_wp2_with fail
    go_ret
    exact ⟨rfl, rfl⟩
theorem has_any (k : Nat) (w : World) : Calls Tryz.prog 46 #[.int .u8 (k : Int)] w fun e w' => e = .returned (hasV (hasK k)) ∧ w' = w := by
  by_cases h1 : k = 1
  · subst h1
    rw [show hasK 1 = some (false, false, false) from rfl]
    unfold hasV
    go_enter Tryz.func46, Tryz.ntmps46
    go_wp2_with fail
    refine bodyPost_ret (res4 rfl _ _ _) rfl ?_
    exact ⟨rfl, rfl⟩
  by_cases h2 : k = 2
  · subst h2
    rw [show hasK 2 = some (true, false, false) from rfl]
    unfold hasV
    go_enter Tryz.func46, Tryz.ntmps46
    go_wp2_with fail
    refine bodyPost_ret (res4 rfl _ _ _) rfl ?_
    exact ⟨rfl, rfl⟩
  by_cases h3 : k = 3
  · subst h3
    rw [show hasK 3 = some (false, false, true) from rfl]
    unfold hasV
    go_enter Tryz.func46, Tryz.ntmps46
    go_wp2_with fail
    refine bodyPost_ret (res4 rfl _ _ _) rfl ?_
    exact ⟨rfl, rfl⟩
  by_cases h4 : k = 4
  · subst h4
    rw [show hasK 4 = some (false, false, false) from rfl]
    unfold hasV
    go_enter Tryz.func46, Tryz.ntmps46
    go_wp2_with fail
    refine bodyPost_ret (res4 rfl _ _ _) rfl ?_
    exact ⟨rfl, rfl⟩
  by_cases h5 : k = 5
  · subst h5
    rw [show hasK 5 = some (true, false, false) from rfl]
    unfold hasV
    go_enter Tryz.func46, Tryz.ntmps46
    go_wp2_with fail
    refine bodyPost_ret (res4 rfl _ _ _) rfl ?_
    exact ⟨rfl, rfl⟩
  by_cases h6 : k = 6
  · subst h6
    rw [show hasK 6 = some (false, true, false) from rfl]
    unfold hasV
    go_enter Tryz.func46, Tryz.ntmps46
    go_wp2_with fail
    refine bodyPost_ret (res4 rfl _ _ _) rfl ?_
    exact ⟨rfl, rfl⟩
  by_cases h7 : k = 7
  · subst h7
    rw [show hasK 7 = some (false, true, false) from rfl]
    unfold hasV
    go_enter Tryz.func46, Tryz.ntmps46
    go_wp2_with fail
    refine bodyPost_ret (res4 rfl _ _ _) rfl ?_
    exact ⟨rfl, rfl⟩
  by_cases h8 : k = 8
  · subst h8
    rw [show hasK 8 = some (false, true, true) from rfl]
    unfold hasV
    go_enter Tryz.func46, Tryz.ntmps46
    go_wp2_with fail
    refine bodyPost_ret (res4 rfl _ _ _) rfl ?_
    exact ⟨rfl, rfl⟩
  have e : hasK k = none := by unfold hasK; simp [h1, h2, h3, h4, h5, h6, h7, h8]
  rw [e]
  unfold hasV
  have n1 : ((k : Int) == 1) = false := by rw [beq_eq_false_iff_ne]; omega
  have n2 : ((k : Int) == 2) = false := by rw [beq_eq_false_iff_ne]; omega
  have n3 : ((k : Int) == 3) = false := by rw [beq_eq_false_iff_ne]; omega
  have n4 : ((k : Int) == 4) = false := by rw [beq_eq_false_iff_ne]; omega
  have n5 : ((k : Int) == 5) = false := by rw [beq_eq_false_iff_ne]; omega
  have n6 : ((k : Int) == 6) = false := by rw [beq_eq_false_iff_ne]; omega
  have n7 : ((k : Int) == 7) = false := by rw [beq_eq_false_iff_ne]; omega
  have n8 : ((k : Int) == 8) = false := by rw [beq_eq_false_iff_ne]; omega
  go_enter Tryz.func46, Tryz.ntmps46
  go_wp2_with fail
  refine bodyPost_ret (res4 rfl _ _ _) rfl ?_
  exact ⟨rfl, rfl⟩
end Go.Proofs.YtgfijlamhjjecaaGreatDoor


/-
  MsgW: contracts of ParseInt at base 10, of whole. No condition beyond those stated.
-/
namespace Go.Proofs.YtgfijlamhjjecaaGreatDoor
open Go.RowKit
def PiQ (s : Str) (v : Int) (ev : Value) : Prop := (Lib.parseIntB 64 s = .ok v ∧ ev = .nilIface) ∨ ((∀ u, Lib.parseIntB 64 s ≠ .ok u) ∧ ∃ te pe, ev = .iface te pe)
theorem pi_any (s : ByteArray) (hl : s.size ≤ 1048576) (w : World) (hv : VarsOk w) : Calls Tryz.prog 95 #[.string s, .int .i64 10, .int .i64 64] w fun e w' => ∃ (u : Int) (ev : Value), e = .returned (.tuple #[.int .i64 u, ev]) ∧ PiQ s.data.toList u ev ∧ Below w.heap.size w w' := by
  by_cases h1 : ∃ u, Lib.parseIntB 64 s.data.toList = .ok u
  · obtain ⟨u, h⟩ := h1
    refine (Tryz.strconv_ParseInt_10_at64_ok s (by omega) u h w).mono ?_
    rintro e w' ⟨rfl, hw⟩
    refine ⟨u, _, rfl, .inl ⟨h, rfl⟩, ?_⟩
    rcases hw with rfl | ⟨t, rfl⟩
    · exact Below.refl _ _
    · exact Lib.bytesWorld_below _ _ _
  have hno : ∀ u, Lib.parseIntB 64 s.data.toList ≠ .ok u := fun u e => h1 ⟨u, e⟩
  by_cases h2 : Lib.parseIntB 64 s.data.toList = .range
  · obtain ⟨te, pe, hc⟩ := hv.rng
    refine (Tryz.strconv_ParseInt_10_at64_range s (by omega) h2 _ w hc (.inr ⟨te, pe, rfl⟩)).mono ?_
    rintro e w' ⟨N, rfl, _, _, hb⟩
    exact ⟨_, _, rfl, .inr ⟨hno, _, _, rfl⟩, hb⟩
  · obtain ⟨te, pe, hc⟩ := hv.syn
    refine (Tryz.strconv_ParseInt_10_at64_syntax s (by omega) ⟨hno, h2⟩ _ w hc (.inr ⟨te, pe, rfl⟩)).mono ?_
    rintro e w' ⟨N, rfl, _, _, hb⟩
    exact ⟨0, _, rfl, .inr ⟨hno, _, _, rfl⟩, hb⟩
def WholeQ (t : Str) (lo hi : Int) (w : World) (e : Ending) (w' : World) : Prop := e = .returned (.tuple #[.int .i64 ((wholeE t lo hi).getD 0), .bool (wholeE t lo hi).isSome]) ∧ Below w.heap.size w w'
theorem wholeQ_none {t : Str} {lo hi : Int} {w w' : World} (h : wholeE t lo hi = none) (hb : Below w.heap.size w w') : WholeQ t lo hi w (.returned (.tuple #[.int .i64 0, .bool false])) w' := by
  unfold WholeQ; rw [h]; exact ⟨rfl, hb⟩
theorem wholeQ_some {t : Str} {lo hi v : Int} {w w' : World} (h : wholeE t lo hi = some v) (hb : Below w.heap.size w w') : WholeQ t lo hi w (.returned (.tuple #[.int .i64 v, .bool true])) w' := by
  unfold WholeQ; rw [h]; exact ⟨rfl, hb⟩
theorem wpi_none {s : Str} {lo hi : Int} (h : ∀ u, Lib.parseIntB 64 s ≠ .ok u) : wholePI s lo hi = none := by
  unfold wholePI
  cases hx : Lib.parseIntB 64 s <;> first | rfl | exact absurd hx (h _)
theorem wpi_ok {s : Str} {lo hi v : Int} (h : Lib.parseIntB 64 s = .ok v) : wholePI s lo hi = if s.head? = some 43 ∨ ((if s.head? = some 45 then s.tail else s).head? = some 48 ∧ s ≠ [48]) ∨ v < lo ∨ hi < v then none else some v := by
  unfold wholePI; rw [h]
theorem pib_ne {s : Str} {v : Int} (h : Lib.parseIntB 64 s = .ok v) : s ≠ [] ∧ s ≠ [45] := by
  constructor
  · rintro rfl
    have e : ∀ u, Lib.parseIntB 64 ([] : Str) ≠ .ok u := fun u hu => by cases hu
    exact e _ h
  · rintro rfl
    cases h
theorem trim45 (s : Str) : Lib.trimPrefix s [45] = if s.head? = some 45 then s.tail else s := by
  unfold Lib.trimPrefix
  cases s with
  | nil => rfl
  | cons c r =>
    by_cases h : c = 45
    · subst h; rfl
    · have e : Lib.hasPrefix (c :: r) [45] = false := by
        unfold Lib.hasPrefix
        simp [List.isPrefixOf]
        try exact fun e => h e.symm
      rw [e]; simp [h]
end Go.Proofs.YtgfijlamhjjecaaGreatDoor


/-
  WrapF: contract of FormatUint at base 10. No condition beyond those stated.
-/
namespace Go.Proofs.YtgfijlamhjjecaaGreatDoor
open Go.RowKit Go.Sort Go.Lib
set_option maxHeartbeats 6400000 in
set_option maxRecDepth 100000 in
theorem ifmt_any (u : Nat) (hu64 : u < 18446744073709551616) (w : World) (hv : VarsOk w) :
    Calls Tryz.prog 151 #[.int .u64 (u : Int), .int .i64 10] w fun e w' => e = .returned (.string ⟨(decT u).toArray⟩) ∧ Below w.heap.size w w' := by
  by_cases hs : u < 100
  · have c100 : decide ((u : Int) < 100) = true := by rw [decide_eq_true_eq]; omega
    have hwr : IntKind.i64.wrap (u : Int) = (u : Int) := by rw [IntKind.wrap_i64]; omega
    go_enter Tryz.func151, Tryz.ntmps151
    go_wp2_with (go_at_call 153; refine (Tryz.internal_strconv_small u hs _).mono ?_; rintro e w' ⟨rfl, rfl⟩)
    go_ret
    exact ⟨rfl, Below.refl _ _⟩
  · have c100 : decide ((u : Int) < 100) = false := by rw [decide_eq_false_iff_not]; omega
    have hu1 : 1 ≤ u := by omega
    have hnd20 : Lib.nDigits u ≤ 20 := by have := Lib.numDigits_eq u hu1 hu64; split at this <;> omega
    have hal : Tryz.prog.arrayLen 231 = 24 := by kernel_rfl
    have hsl : ∀ W, (Instr.sliceAt 231 (.pointer (some ⟨w.heap.size, 0, none⟩)) none (some (.int .i64 (Lib.nDigits u : Int))) none).run Tryz.prog W = .ok (.slice (some ⟨w.heap.size, 0, none⟩) (Lib.nDigits u) 24) W := fun W => by
      rw [run_sliceAt_array_h W 231 ⟨w.heap.size, 0, none⟩ (by simp [Program.arrayLen, Program.elem, Tryz.underlying231]) .i64 (Lib.nDigits u : Int) (by omega) (by rw [hal]; omega)]
      go_simp
    have hH0 := Lib.holds_zero0 w 231 (Lib.nDigits u) (by omega)
    have hfmt := Tryz.internal_strconv_formatBase10 w.heap.size 0 24 u (Array.replicate (Lib.nDigits u) 0) (w.alloc (.cells Lib.zeros24 231)) hH0 (by rw [Array.size_replicate]; exact Lib.lt_pow_nDigits u) hu64 (by rw [Array.size_replicate]; omega)
    rw [Array.size_replicate] at hfmt
    have HH0 := Lib.hid hH0
    clear hH0 hal
    go_enter Tryz.func151, Tryz.ntmps151
    go_wp2_with (first
      | (go_at_call 154; refine (Tryz.internal_strconv_numDigits u hu1 hu64 _ (Lib.tabIs_alloc hv.tab _)).mono ?_; rintro e w' ⟨rfl, rfl⟩))
    go_at_call 155
    refine hfmt.mono ?_
    rintro e w' ⟨rfl, k, v', dk, rfl, hF⟩
    have hcv : (convert 72 9 (.slice (some ⟨w.heap.size, 0, none⟩) (Lib.nDigits u) 24)).run Tryz.prog ((putRow (fun (b : UInt8) => Value.int .u8 (b.toNat : Int)) (w.alloc (.cells Lib.zeros24 231)) w.heap.size 0 dk).drewN k) = .ok (.string ⟨(Lib.decDigits u).toArray⟩) ((putRow (fun (b : UInt8) => Value.int .u8 (b.toNat : Int)) (w.alloc (.cells Lib.zeros24 231)) w.heap.size 0 dk).drewN k) := by
      have h := run_convert_bytes_back (P := Tryz.prog) ((putRow (fun (b : UInt8) => Value.int .u8 (b.toNat : Int)) (w.alloc (.cells Lib.zeros24 231)) w.heap.size 0 dk).drewN k) 72 9 5 ⟨w.heap.size, 0, none⟩ 24 (Lib.decDigits u) Tryz.underlying72 Tryz.underlying5 Tryz.underlying9 (fun j hj => by
        rw [Lib.row_is_numeral hF j hj, Lib.add_plain, World.cell?_drewN]
        exact cell?_putRow (fun (b : UInt8) => Value.int .u8 (b.toNat : Int)) _ w.heap.size 0 _ dk HH0.out (by rw [hF.size, Array.size_replicate]) j (by rw [hF.size]; rw [Lib.decDigits_length] at hj; exact hj))
      rw [Lib.decDigits_length] at h
      exact h
    go_wp2
    go_ret
    obtain ⟨os, eo⟩ := Lib.fin_at w (.cells Lib.zeros24 231) dk k 0
    refine ⟨rfl, ?_⟩
    have hb := Lib.below_grow w.heap.size w (Nat.le_refl _) k os
    rw [← eo] at hb
    exact hb
set_option maxRecDepth 100000 in
theorem fmt_any (u : Nat) (hu64 : u < 18446744073709551616) (w : World) (hv : VarsOk w) :
    Calls Tryz.prog 128 #[.int .u64 (u : Int), .int .i64 10] w fun e w' => e = .returned (.string ⟨(decT u).toArray⟩) ∧ Below w.heap.size w w' := by
  go_enter Tryz.func128, Tryz.ntmps128
  go_wp2_with (go_at_call 151; refine (ifmt_any u hu64 _ hv).mono ?_; rintro e w' ⟨rfl, hb⟩)
  go_ret
  exact ⟨rfl, hb⟩
end Go.Proofs.YtgfijlamhjjecaaGreatDoor


/-
  MsgX0: contracts of FormatInt and Itoa at base 10, of whole. No condition beyond those stated.
-/
namespace Go.Proofs.YtgfijlamhjjecaaGreatDoor
open Go.RowKit
theorem itoa_sgn (v : Int) : Lib.itoa v = sgnT v := by
  unfold Lib.itoa sgnT
  split
  · rfl
  · rw [show v.toNat = v.natAbs by omega]
theorem fmtInt_any (v : Int) (h0 : -9223372036854775808 ≤ v) (h1 : v ≤ 9223372036854775807) (w : World) (hv : VarsOk w) : Calls Tryz.prog 116 #[.int .i64 v, .int .i64 10] w fun e w' => e = .returned (.string ⟨(sgnT v).toArray⟩) ∧ Below w.heap.size w w' :=
  (Tryz.strconv_FormatInt_10 v h0 h1 w hv.tab).mono (by
    rintro e w' ⟨rfl, k, os, rfl⟩
    exact ⟨by rw [itoa_sgn], Lib.below_grow w.heap.size w (Nat.le_refl _) k os⟩)
theorem itoa_any (v : Int) (h0 : -9223372036854775808 ≤ v) (h1 : v ≤ 9223372036854775807) (w : World) (hv : VarsOk w) : Calls Tryz.prog 45 #[.int .i64 v] w fun e w' => e = .returned (.string ⟨(sgnT v).toArray⟩) ∧ Below w.heap.size w w' :=
  (Tryz.strconv_Itoa v h0 h1 w hv.tab).mono (by
    rintro e w' ⟨rfl, k, os, rfl⟩
    exact ⟨by rw [itoa_sgn], Lib.below_grow w.heap.size w (Nat.le_refl _) k os⟩)
theorem head_of {s : ByteArray} (h : s.data.toList ≠ []) : ∃ (c : UInt8) (hs : 0 < s.size), s[0]'hs = c ∧ s.data.toList.head? = some c := by
  obtain ⟨l, hl⟩ : ∃ l, s.data.toList = l := ⟨_, rfl⟩
  have hs0 : 0 < s.size := by
    have e : s.size = l.length := by rw [← hl]; rfl
    rw [e]
    rw [hl] at h
    exact List.length_pos_iff.2 h
  refine ⟨s[0]'hs0, hs0, rfl, ?_⟩
  have h1 := at_byte s 0 hs0
  rw [hl] at h1 ⊢
  cases l with
  | nil => exact absurd hl h
  | cons a l => simpa using h1
set_option maxRecDepth 100000 in
set_option maxHeartbeats 4000000 in
theorem whole_any (s : ByteArray) (hl : s.size ≤ 1048576) (lo hi : Int) (h1 : -9223372036854775808 ≤ lo) (h2 : hi ≤ 9223372036854775807) (w : World) (hv : VarsOk w) :
    Calls Tryz.prog 53 #[.string s, .int .i64 lo, .int .i64 hi] w fun e w' => WholeQ s.data.toList lo hi w e w' := by
  obtain ⟨l, hsl⟩ : ∃ l, s.data.toList = l := ⟨_, rfl⟩
  obtain ⟨D, hD⟩ : ∃ D : ByteArray, (⟨(Lib.trimPrefix s.data.toList [45]).toArray⟩ : ByteArray) = D := ⟨_, rfl⟩
  have HT := Lib.hid (show ∀ w, Calls Tryz.prog 94 #[.string s, .string ⟨#[45]⟩] w (fun e w' => e = .returned (.string D) ∧ w = w') from fun w => (Tryz.strings_TrimPrefix s ⟨#[45]⟩ w).mono (by
    rintro e w' ⟨rfl, rfl⟩
    exact ⟨by rw [← hD], rfl⟩))
  have hDl : D.data.toList = if l.head? = some 45 then l.tail else l := by rw [← hD, ← hsl]; exact trim45 _
  have HP := Lib.hid (fun w hv => pi_any s hl w hv)
  have HSL := Lib.hid hsl
  have HE := Lib.hid (whole_pi (s := l) h1 h2)
  rw [hsl] at HP ⊢
  by_cases hok : ∃ v, Lib.parseIntB 64 l = .ok v
  · obtain ⟨v, hok⟩ := hok
    have hw := wpi_ok (lo := lo) (hi := hi) hok
    rw [HE.out] at hw
    obtain ⟨hne, hne2⟩ := pib_ne hok
    obtain ⟨c0, hs0, hA, hh⟩ := head_of (s := s) (by rw [hsl]; exact hne)
    obtain ⟨c1, hd0, hB, hh1⟩ := head_of (s := D) (by
      rw [hDl]
      split
      · rename_i h
        cases l with
        | nil => exact absurd rfl hne
        | cons a r => rintro h3; simp at h h3; subst h; subst h3; exact hne2 rfl
      · exact hne)
    rw [hsl] at hh
    rw [← hDl, hh1, hh] at hw
    have i0 : (0 : Int) < (s.size : Int) := by omega
    have i1 : (0 : Int) < (D.size : Int) := by omega
    have HOK := Lib.hid hok
    clear hsl hD hDl hok h1 h2 hne hne2 hh hh1 HE
    by_cases h43 : c0 = 43
    · subst h43
      have HN : Hid (wholeE l lo hi = none) := Lib.hid (by rw [hw, if_pos (.inl rfl)])
      clear hw
      go_enter Tryz.func53, Tryz.ntmps53
      go_wp2_with (first | (go_at_call 94; refine (HT.out _).mono ?_; rintro e w' ⟨rfl, rfl⟩) | (go_at_call 95; refine (HP.out _ hv).mono ?_; rintro e w' ⟨u, ev, rfl, hq, hb⟩; have HQ := Lib.hid hq; have HB := Lib.hid hb; clear hq hb))
      rcases HQ.out with ⟨hq, rfl⟩ | ⟨hq, te, pe, rfl⟩
      · obtain rfl : v = u := Lib.NumEnd.ok.inj (HOK.out.symm.trans hq)
        clear hq
        go_simp
        go_wp2_with fail
        go_ret2
        exact wholeQ_none HN.out HB.out
      · exact absurd HOK.out (hq _)
    have n43 : ((c0.toNat : Int) == 43) = false := nat_eq c0 43 h43
    by_cases h48 : c1 = 48 ∧ l ≠ [48]
    · obtain ⟨rfl, hne⟩ := h48
      have HN : Hid (wholeE l lo hi = none) := Lib.hid (by rw [hw, if_pos (.inr (.inl ⟨rfl, hne⟩))])
      have nez : (s.toList == [48]) = false := by
        rw [beq_eq_false_iff_ne, ByteArray.toList_eq, HSL.out]; exact hne
      clear hw hne
      go_enter Tryz.func53, Tryz.ntmps53
      go_wp2_with (first | (go_at_call 94; refine (HT.out _).mono ?_; rintro e w' ⟨rfl, rfl⟩) | (go_at_call 95; refine (HP.out _ hv).mono ?_; rintro e w' ⟨u, ev, rfl, hq, hb⟩; have HQ := Lib.hid hq; have HB := Lib.hid hb; clear hq hb))
      rcases HQ.out with ⟨hq, rfl⟩ | ⟨hq, te, pe, rfl⟩
      · obtain rfl : v = u := Lib.NumEnd.ok.inj (HOK.out.symm.trans hq)
        clear hq
        go_simp
        go_wp2_with fail
        go_ret2
        exact wholeQ_none HN.out HB.out
      · exact absurd HOK.out (hq _)
    by_cases hlo : v < lo
    · have HN : Hid (wholeE l lo hi = none) := Lib.hid (by rw [hw, if_pos (.inr (.inr (.inl hlo)))])
      clear hw
      by_cases e48 : c1 = 48
      · have ez : (s.toList == [48]) = true := by
          have : l = [48] := Classical.byContradiction fun h => h48 ⟨e48, h⟩
          rw [beq_iff_eq, ByteArray.toList_eq, HSL.out, this]
        subst e48
        clear h48
        go_enter Tryz.func53, Tryz.ntmps53
        go_wp2_with (first | (go_at_call 94; refine (HT.out _).mono ?_; rintro e w' ⟨rfl, rfl⟩) | (go_at_call 95; refine (HP.out _ hv).mono ?_; rintro e w' ⟨u, ev, rfl, hq, hb⟩; have HQ := Lib.hid hq; have HB := Lib.hid hb; clear hq hb))
        rcases HQ.out with ⟨hq, rfl⟩ | ⟨hq, te, pe, rfl⟩
        · obtain rfl : v = u := Lib.NumEnd.ok.inj (HOK.out.symm.trans hq)
          clear hq
          go_simp
          go_wp2_with fail
          go_ret2
          exact wholeQ_none HN.out HB.out
        · exact absurd HOK.out (hq _)
      · have n48 : ((c1.toNat : Int) == 48) = false := nat_eq c1 48 e48
        clear h48 e48
        go_enter Tryz.func53, Tryz.ntmps53
        go_wp2_with (first | (go_at_call 94; refine (HT.out _).mono ?_; rintro e w' ⟨rfl, rfl⟩) | (go_at_call 95; refine (HP.out _ hv).mono ?_; rintro e w' ⟨u, ev, rfl, hq, hb⟩; have HQ := Lib.hid hq; have HB := Lib.hid hb; clear hq hb))
        rcases HQ.out with ⟨hq, rfl⟩ | ⟨hq, te, pe, rfl⟩
        · obtain rfl : v = u := Lib.NumEnd.ok.inj (HOK.out.symm.trans hq)
          clear hq
          go_simp
          go_wp2_with fail
          go_ret2
          exact wholeQ_none HN.out HB.out
        · exact absurd HOK.out (hq _)
    by_cases hhi : hi < v
    · have HN : Hid (wholeE l lo hi = none) := Lib.hid (by rw [hw, if_pos (.inr (.inr (.inr hhi)))])
      clear hw
      by_cases e48 : c1 = 48
      · have ez : (s.toList == [48]) = true := by
          have : l = [48] := Classical.byContradiction fun h => h48 ⟨e48, h⟩
          rw [beq_iff_eq, ByteArray.toList_eq, HSL.out, this]
        subst e48
        clear h48
        go_enter Tryz.func53, Tryz.ntmps53
        go_wp2_with (first | (go_at_call 94; refine (HT.out _).mono ?_; rintro e w' ⟨rfl, rfl⟩) | (go_at_call 95; refine (HP.out _ hv).mono ?_; rintro e w' ⟨u, ev, rfl, hq, hb⟩; have HQ := Lib.hid hq; have HB := Lib.hid hb; clear hq hb))
        rcases HQ.out with ⟨hq, rfl⟩ | ⟨hq, te, pe, rfl⟩
        · obtain rfl : v = u := Lib.NumEnd.ok.inj (HOK.out.symm.trans hq)
          clear hq
          go_simp
          go_wp2_with fail
          go_ret2
          exact wholeQ_none HN.out HB.out
        · exact absurd HOK.out (hq _)
      · have n48 : ((c1.toNat : Int) == 48) = false := nat_eq c1 48 e48
        clear h48 e48
        go_enter Tryz.func53, Tryz.ntmps53
        go_wp2_with (first | (go_at_call 94; refine (HT.out _).mono ?_; rintro e w' ⟨rfl, rfl⟩) | (go_at_call 95; refine (HP.out _ hv).mono ?_; rintro e w' ⟨u, ev, rfl, hq, hb⟩; have HQ := Lib.hid hq; have HB := Lib.hid hb; clear hq hb))
        rcases HQ.out with ⟨hq, rfl⟩ | ⟨hq, te, pe, rfl⟩
        · obtain rfl : v = u := Lib.NumEnd.ok.inj (HOK.out.symm.trans hq)
          clear hq
          go_simp
          go_wp2_with fail
          go_ret2
          exact wholeQ_none HN.out HB.out
        · exact absurd HOK.out (hq _)
    · have HN : Hid (wholeE l lo hi = some v) := Lib.hid (by
        rw [hw, if_neg]
        rintro (h | h | h | h)
        · exact h43 (Option.some.inj h)
        · exact h48 ⟨Option.some.inj h.1, h.2⟩
        · exact hlo h
        · exact hhi h)
      clear hw
      by_cases e48 : c1 = 48
      · have ez : (s.toList == [48]) = true := by
          have : l = [48] := Classical.byContradiction fun h => h48 ⟨e48, h⟩
          rw [beq_iff_eq, ByteArray.toList_eq, HSL.out, this]
        subst e48
        clear h48
        go_enter Tryz.func53, Tryz.ntmps53
        go_wp2_with (first | (go_at_call 94; refine (HT.out _).mono ?_; rintro e w' ⟨rfl, rfl⟩) | (go_at_call 95; refine (HP.out _ hv).mono ?_; rintro e w' ⟨u, ev, rfl, hq, hb⟩; have HQ := Lib.hid hq; have HB := Lib.hid hb; clear hq hb))
        rcases HQ.out with ⟨hq, rfl⟩ | ⟨hq, te, pe, rfl⟩
        · obtain rfl : v = u := Lib.NumEnd.ok.inj (HOK.out.symm.trans hq)
          clear hq
          go_simp
          go_wp2_with fail
          go_ret2
          exact wholeQ_some HN.out HB.out
        · exact absurd HOK.out (hq _)
      · have n48 : ((c1.toNat : Int) == 48) = false := nat_eq c1 48 e48
        clear h48 e48
        go_enter Tryz.func53, Tryz.ntmps53
        go_wp2_with (first | (go_at_call 94; refine (HT.out _).mono ?_; rintro e w' ⟨rfl, rfl⟩) | (go_at_call 95; refine (HP.out _ hv).mono ?_; rintro e w' ⟨u, ev, rfl, hq, hb⟩; have HQ := Lib.hid hq; have HB := Lib.hid hb; clear hq hb))
        rcases HQ.out with ⟨hq, rfl⟩ | ⟨hq, te, pe, rfl⟩
        · obtain rfl : v = u := Lib.NumEnd.ok.inj (HOK.out.symm.trans hq)
          clear hq
          go_simp
          go_wp2_with fail
          go_ret2
          exact wholeQ_some HN.out HB.out
        · exact absurd HOK.out (hq _)
  · have hno : ∀ u, Lib.parseIntB 64 l ≠ .ok u := fun u e => hok ⟨u, e⟩
    have HN := Lib.hid ((HE.out).symm.trans (wpi_none (lo := lo) (hi := hi) hno))
    have HNO := Lib.hid hno
    clear hsl hD hDl hno hok h1 h2
    go_enter Tryz.func53, Tryz.ntmps53
    go_wp2_with (first | (go_at_call 94; refine (HT.out _).mono ?_; rintro e w' ⟨rfl, rfl⟩) | (go_at_call 95; refine (HP.out _ hv).mono ?_; rintro e w' ⟨u, ev, rfl, hq, hb⟩; have HQ := Lib.hid hq; have HB := Lib.hid hb; clear hq hb))
    rcases HQ.out with ⟨hq, rfl⟩ | ⟨_, te, pe, rfl⟩
    · exact absurd hq (HNO.out _)
    · go_simp
      go_wp2_with fail
      go_ret2
      exact wholeQ_none HN.out HB.out
end Go.Proofs.YtgfijlamhjjecaaGreatDoor


/-
  EdiA1: slices of components, elements, segments that came in. No condition beyond those stated.
-/
namespace Go.Proofs.YtgfijlamhjjecaaGreatDoor
open Go.RowKit Go.ChangeShapes Go.WideShapes Go.Deep
theorem spot_cell' {w : World} {a : Addr} {v : Value} (h : w.cell? a = some v) : a = ⟨a.block, a.off, none⟩ := by
  have : a.spot = none := by
    unfold World.cell? at h
    split at h
    · cases hs : a.spot with
      | none => rfl
      | some s => simp [hs] at h
    · simp at h
  cases a; simp_all
theorem cell_add' {w : World} {a : Addr} {n : Nat} {v : Value} (h : w.cell? (a.add n) = some v) : w.cell? ⟨a.block, a.off + n, none⟩ = some v := by
  unfold Addr.add at h
  split at h
  · rename_i h0
    subst h0
    rw [spot_cell' h] at h; exact h
  · exact h
theorem cells_atk {w : World} {base i k : Nat} {a : Addr} {cs : List Value} (hk : 0 < k) (h : w.cells? base (a.add (i * k)) k = some cs) : (i = 0 → some (⟨a.block, a.off, none⟩ : Addr) = some a) ∧ ∀ j v, cs[j]? = some v → w.cell? ⟨a.block, a.off + i * k + j, none⟩ = some v := by
  obtain ⟨_, hl, hc⟩ := World.cells?_some h
  refine ⟨fun h0 => ?_, fun j v hv => ?_⟩
  · subst h0
    have h1 := hc 0 hk
    rw [List.getElem?_eq_getElem (by omega)] at h1
    simp only [Nat.zero_mul, Addr.add, if_true] at h1
    rw [← spot_cell' h1]
  · have hj : j < k := by have := (List.getElem?_eq_some_iff.1 hv).1; omega
    have h1 := (hc j hj).trans hv
    rw [Deep.add_add] at h1
    have := cell_add' h1
    rw [← Nat.add_assoc] at this; exact this
abbrev Low (w : World) (k : Nat) : Prop := k < w.heap.size
section
variable {H : Type} {enc : TypeId × Value → H} {w : World} {base : Nat} {spare : Nat → Bool} {held : Bool}
theorem comps_of_trod {fuel : Nat} {v : Value} {x : DataW H × List MemPlace} (h : DataW.trod enc Tryz.prog w base spare held fuel 58 [v] = some x) : ∃ e, CompsAt (Low w) w v e := by
  rcases open_strings Tryz.underlying58 Tryz.underlying9 (by kernel_rfl) h with ⟨hcs, _⟩ | ⟨a, len, cap, ss, hcs, _, hl, hm, hss, _, hc, _⟩
  · simp at hcs; subst hcs; exact ⟨[], RowAt.nil _ _⟩
  · simp at hcs; subst hcs
    have hls : len ≤ ss.length := by rw [hss]; split <;> omega
    refine ⟨(ss.take len).map (·.data.toList), ?_⟩
    have e : ((ss.take len).map (·.data.toList)).map sv = (ss.take len).map Value.string := by rw [List.map_map]; rfl
    unfold CompsAt; rw [e]
    have hn : ((ss.take len).map Value.string).length = len := by rw [List.length_map, List.length_take]; omega
    have key : ∀ (i : Nat) (y : Value), ((ss.take len).map Value.string)[i]? = some y → w.cell? (a.add i) = some y := fun i y hy => by
      have hi : i < len := by have := (List.getElem?_eq_some_iff.1 hy).1; omega
      rw [List.getElem?_map, List.getElem?_take_of_lt hi, List.getElem?_eq_getElem (show i < ss.length by omega)] at hy
      cases hy
      rw [hc i (by omega), List.getD_eq_getElem?_getD, List.getElem?_eq_getElem (show i < ss.length by omega)]; rfl
    refine ⟨some a, cap, by rw [hn], by omega, hm, (fun h => by cases h), fun hne => ?_⟩
    have h0 : 0 < len := by
      rcases Nat.eq_zero_or_pos len with e0 | e0
      · exact absurd (List.length_eq_zero_iff.1 (by rw [hn]; exact e0)) hne
      · exact e0
    obtain ⟨y0, hy0⟩ : ∃ y, ((ss.take len).map Value.string)[0]? = some y := ⟨_, List.getElem?_eq_getElem (by omega)⟩
    have ha : a = ⟨a.block, a.off, none⟩ := by
      have := key 0 y0 hy0
      simp only [Addr.add, if_true] at this
      exact spot_cell' this
    exact ⟨a.block, a.off, congrArg some ha, cell_lt' (cell_add' (key 0 y0 hy0)), fun i y hy => cell_add' (key i y hy)⟩
theorem elems_of_trod {fuel : Nat} {v : Value} {x : DataW H × List MemPlace} (h : DataW.trod enc Tryz.prog w base spare held fuel 92 [v] = some x) : ∃ es, ElemsAt (Low w) w v es := by
  rcases open_slice1 Tryz.underlying92 (show Tryz.prog.cellsOf 58 = 1 by kernel_rfl) h with ⟨hcs, _⟩ | ⟨a, len, cap, m, q, V, D, Pl, hcs, _, hl, hm, hmm, _, hel⟩
  · simp at hcs; subst hcs; exact ⟨[], ElemsAt.nil _ _⟩
  · simp at hcs; subst hcs
    have hlm : len ≤ m := by rw [hmm]; split <;> omega
    obtain ⟨R, hR⟩ := choose_lt (p := fun i e => CompsAt (Low w) w (V i) e) (n := len) (fun i hi => comps_of_trod (hel i (by omega)).2)
    refine ⟨(List.range len).map R, (List.range len).map V, ⟨some a, cap, by simp, by simpa using hl, hm, (fun h => by cases h), fun hne => ?_⟩, by simp, fun i e y he hy => ?_⟩
    · have h0 : 0 < len := by
        rcases Nat.eq_zero_or_pos len with e0 | e0
        · subst e0; exact absurd rfl hne
        · exact e0
      have c0 := (hel 0 (by omega)).1
      have ha : a = ⟨a.block, a.off, none⟩ := by
        simp only [Addr.add, if_true] at c0
        exact spot_cell' c0
      refine ⟨a.block, a.off, congrArg some ha, cell_lt' (cell_add' c0), fun i y hy => ?_⟩
      have hi : i < len := by have := (List.getElem?_eq_some_iff.1 hy).1; simpa using this
      rw [List.getElem?_map, List.getElem?_range hi] at hy
      cases hy
      exact cell_add' (hel i (by omega)).1
    · have hi : i < len := by have := (List.getElem?_eq_some_iff.1 hy).1; simpa using this
      rw [List.getElem?_map, List.getElem?_range hi] at hy he
      cases hy; cases he
      exact hR i hi
instance : Inhabited Seg := ⟨⟨[], []⟩⟩
theorem segs_of_trod {fuel : Nat} {v : Value} {x : DataW H × List MemPlace} (h : DataW.trod enc Tryz.prog w base spare held fuel 39 [v] = some x) : ∃ l, SegsAt (Low w) w v l := by
  rcases open_slice Tryz.underlying39 h with ⟨hcs, _⟩ | ⟨a, len, cap, m, q, D, Pl, hcs, _, hl, hm, hmm, _, hel⟩
  · simp at hcs; subst hcs; exact ⟨[], SegsAt.nil _ _⟩
  · simp at hcs; subst hcs
    have hlm : len ≤ m := by rw [hmm]; split <;> omega
    have hcells : Tryz.prog.cellsOf 94 = 2 := by kernel_rfl
    rw [hcells] at hel
    have key : ∀ i, i < len → ∃ r : Seg × Value, w.cell? ⟨a.block, a.off + i * 2, none⟩ = some (sv r.1.tag) ∧ w.cell? ⟨a.block, a.off + i * 2 + 1, none⟩ = some r.2 ∧ ElemsAt (Low w) w r.2 r.1.elems := fun i hi => by
      obtain ⟨cs, hcs, htr⟩ := hel i (by omega)
      obtain ⟨_, hce⟩ := cells_atk (k := 2) (by omega) hcs
      obtain ⟨y0, y1, n, _, hl2, f0, f1⟩ := trod_struct2 Tryz.underlying94 htr
      rw [hcells] at hl2
      obtain ⟨c0, c1, rfl⟩ : ∃ c0 c1, cs = [c0, c1] := by
        rcases cs with _ | ⟨c0, _ | ⟨c1, _ | ⟨_, _⟩⟩⟩ <;> simp at hl2
        exact ⟨c0, c1, rfl⟩
      have e0 : Tryz.prog.cellsOf 9 = 1 := by kernel_rfl
      have e1 : Tryz.prog.cellsOf 92 = 1 := by kernel_rfl
      change DataW.trod enc Tryz.prog w base spare held n 9 (List.take (Tryz.prog.cellsOf 9) (List.drop 0 [c0, c1])) = _ at f0
      rw [e0] at f0
      change DataW.trod enc Tryz.prog w base spare held n 92 (List.take (Tryz.prog.cellsOf 92) (List.drop 1 [c0, c1])) = _ at f1
      rw [e1] at f1
      obtain ⟨s, hs, _, _⟩ := DataW.trod_string Tryz.underlying9 f0
      obtain ⟨es, hes⟩ := elems_of_trod (v := c1) f1
      have hs' : c0 = .string s := (List.cons.inj hs).1
      exact ⟨(⟨s.data.toList, es⟩, c1), (hce 0 c0 rfl).trans (congrArg some hs'), hce 1 c1 rfl, hes⟩
    obtain ⟨R, hR⟩ := choose_lt key
    refine ⟨(List.range len).map fun i => (R i).1, some a, cap, (List.range len).map fun i => (R i).2, by simp, by simpa using hl, hm, (fun h => by cases h), by simp, fun i s y hs hy => ?_, fun hne => ?_⟩
    · have hi : i < len := by have := (List.getElem?_eq_some_iff.1 hy).1; simpa using this
      rw [List.getElem?_map, List.getElem?_range hi] at hy hs
      cases hy; cases hs
      exact (hR i hi).2.2
    · have h0 : 0 < len := by
        rcases Nat.eq_zero_or_pos len with e0 | e0
        · subst e0; exact absurd rfl hne
        · exact e0
      obtain ⟨cs, hcs, _⟩ := hel 0 (by omega)
      refine ⟨a.block, a.off, ((cells_atk (k := 2) (i := 0) (by omega) hcs).1 rfl).symm, cell_lt' (hR 0 h0).1, fun i s y hs hy => ?_⟩
      have hi : i < len := by have := (List.getElem?_eq_some_iff.1 hy).1; simpa using this
      rw [List.getElem?_map, List.getElem?_range hi] at hy hs
      cases hy; cases hs
      exact ⟨(hR i hi).1, (hR i hi).2.1⟩
end
end Go.Proofs.YtgfijlamhjjecaaGreatDoor


/-
  EdiA7: contract of own: segments in memory of their own. No condition beyond those stated.
-/
namespace Go.Proofs.YtgfijlamhjjecaaGreatDoor
open Go.RowKit
theorem cells_two (w : World) (x y : Value) (t : TypeId) : ∀ (j : Nat) (u : Value), [x, y][j]? = some u → (w.alloc (.cells #[x, y] t)).cell? ((⟨w.heap.size, 0, none⟩ : Addr).add j) = some u := by
  intro j u hj
  match j, hj with
  | 0, hj => simp at hj; subst hj; simp [Addr.add]
  | 1, hj => simp at hj; subst hj; simp [Addr.add]
/-- components behind, all at once -/
theorem wp_app_row {ops : Array Oper} {rest : List Oper} {o : Oper} {a : Act} {Q : Exit → Act → World → Prop} (hgd : o.guard = none) (s x : Operand)
    (ho : o.op = .call { callee := .builtin .append, args := #[s, x], argTypes := #[58, 58] })
    {w : World} {B : Nat} {v src : Value} {n : Nat} {xs : List Value} {T : Nat → Prop} {e : List Str} (hs : a.eval s = v) (hx : a.eval x = src) (hown : w.ownsRow B 9 1 v n xs) (hco : CompsAt T w src e) (hl : n + e.length ≤ 1048576) (hB : B ≤ w.heap.size)
    (h : ∀ v' w', w'.ownsRow B 9 1 v' (n + e.length) (xs ++ e.map sv) → w.grownBy w' v.ownBlock → (v'.ownBlock = v.ownBlock ∨ v'.ownBlock = some w.heap.size) → wpList Tryz.prog ops Q rest (a.put o.dst v') w') :
    wpList Tryz.prog ops Q (o :: rest) a w := by
  obtain ⟨i0, hi, hz0, hz1, hz2⟩ := info_parts einfo_str
  obtain ⟨ao, cap, rfl, h1, h2, h3, h4⟩ := hco
  rw [List.length_map] at h1 hx
  cases ao with
  | none =>
    have hc := h3 rfl
    have hz : e.length = 0 := by omega
    have he := List.length_eq_zero_iff.1 hz
    subst he
    subst hc
    exact wpList_append_own_none hgd s x 58 ho B 9 i0 1 Tryz.underlying58 hi v n xs hs hown hx (h v w (by simpa using hown) ⟨rfl, rfl, rfl, Nat.le_refl _, fun _ _ _ => rfl⟩ (.inl rfl))
  | some ad =>
    refine wpList_append_own_at _ hgd s x 58 ho B 9 i0 (.string ⟨#[]⟩) 1 16 Tryz.underlying58 hi hz0 hz1 hz2 rfl (by decide) v n xs hs hown ad e.length cap (e.map sv) hx (by simp) (fun j u hu => ?_) (by simp [Value.oneCell', sv]) (by unfold maxLen; omega) (by omega) hB ?_
    · obtain ⟨b, off, rb, _, hc⟩ := h4 (by intro e0; rw [e0] at hu; simp at hu)
      cases rb
      rw [Addr.add_mid]; exact hc j u hu
    · intro v' w' g1 g2 _ g4
      exact h v' w' g1 g2 g4
end Go.Proofs.YtgfijlamhjjecaaGreatDoor


/-
  EdiA9: segments behind segments of one's own. No condition beyond those stated.
-/
namespace Go.Proofs.YtgfijlamhjjecaaGreatDoor
open Go.RowKit
theorem segCells_at : ∀ (l : List Seg) (xs : List Value) (j : Nat) (u : Value), xs.length = l.length → (segCells l xs)[j]? = some u → ∃ (i : Nat) (s : Seg) (x : Value), l[i]? = some s ∧ xs[i]? = some x ∧ (j = i * 2 ∧ u = sv s.tag ∨ j = i * 2 + 1 ∧ u = x)
  | [], xs, j, u, h, hu => by cases xs <;> simp [segCells] at hu
  | s :: l, [], j, u, h, hu => by simp at h
  | s :: l, x :: xs, 0, u, h, hu => by simp only [segCells, List.getElem?_cons_zero] at hu; cases hu; exact ⟨0, s, x, rfl, rfl, .inl ⟨rfl, rfl⟩⟩
  | s :: l, x :: xs, 1, u, h, hu => by simp only [segCells, List.getElem?_cons_succ, List.getElem?_cons_zero] at hu; cases hu; exact ⟨0, s, x, rfl, rfl, .inr ⟨rfl, rfl⟩⟩
  | s :: l, x :: xs, j + 2, u, h, hu => by
    simp only [segCells, List.getElem?_cons_succ] at hu
    obtain ⟨i, s', x', h1, h2, h3⟩ := segCells_at l xs j u (by simpa using h) hu
    refine ⟨i + 1, s', x', by simpa using h1, by simpa using h2, ?_⟩
    rcases h3 with ⟨h3, h4⟩ | ⟨h3, h4⟩
    · exact .inl ⟨by omega, h4⟩
    · exact .inr ⟨by omega, h4⟩
theorem segCells_one : ∀ (l : List Seg) (xs : List Value), (∀ x ∈ xs, x.oneCell' = true) → ∀ u ∈ segCells l xs, u.oneCell' = true
  | [], xs, _, u, hu => by cases xs <;> simp [segCells] at hu
  | s :: l, [], _, u, hu => by simp [segCells] at hu
  | s :: l, x :: xs, h, u, hu => by
    simp only [segCells, List.mem_cons] at hu
    rcases hu with rfl | rfl | hu
    · rfl
    · exact h _ List.mem_cons_self
    · exact segCells_one l xs (fun y hy => h y (List.mem_cons_of_mem _ hy)) u hu
/-- the cells of segments that lie somewhere -/
theorem SegsAt.row {S : Nat → Prop} {w : World} {v : Value} {m : List Seg} (h : SegsAt S w v m) : ∃ (ao : Option Addr) (cap : Nat) (ys : List Value), v = .slice ao m.length cap ∧ ys.length = m.length ∧ (ao = none → m = [] ∧ cap = 0) ∧ (∀ x ∈ ys, x.oneCell' = true) ∧
    (∀ (i : Nat) (s : Seg) (x : Value), m[i]? = some s → ys[i]? = some x → ElemsAt S w x s.elems) ∧ ∀ ad, ao = some ad → ∀ (j : Nat) (u : Value), (segCells m ys)[j]? = some u → w.cell? (ad.add j) = some u := by
  obtain ⟨ao, cap, xs, rfl, h1, h2, h3, h4, h5, h6⟩ := h
  refine ⟨ao, cap, xs, rfl, h4, fun e => ⟨List.length_eq_zero_iff.1 (by have := h3 e; omega), h3 e⟩, fun x hx => ?_, h5, fun ad hao j u hu => ?_⟩
  · obtain ⟨i, hi⟩ := List.getElem?_of_mem hx
    have hil := (List.getElem?_eq_some_iff.1 hi).1
    obtain ⟨a, c, he, _⟩ := (h5 i m[i] x (List.getElem?_eq_getElem (by omega)) hi).form
    rw [he]; rfl
  · obtain ⟨i, s, x, g1, g2, g3⟩ := segCells_at m xs j u h4 hu
    obtain ⟨b, off, rb, _, hc⟩ := h6 (by rintro rfl; simp at g1)
    rw [hao] at rb
    cases rb
    obtain ⟨k1, k2⟩ := hc i s x g1 g2
    rw [Addr.add_mid]
    rcases g3 with ⟨rfl, rfl⟩ | ⟨rfl, rfl⟩
    · exact k1
    · rw [← Nat.add_assoc]; exact k2
end Go.Proofs.YtgfijlamhjjecaaGreatDoor


/-
  WrapA: segments behind segments of one's own, wherever their elements lie. No condition beyond those stated.
-/
namespace Go.Proofs.YtgfijlamhjjecaaGreatDoor
open Go.RowKit
/-- segments in a row of one's own; their elements anywhere else -/
structure OG (B : Nat) (w : World) (ov : Value) (xs : List Value) (l : List Seg) : Prop where
  row : w.ownsRow B 94 2 ov l.length (segCells l xs)
  len : xs.length = l.length
  el : ∀ (i : Nat) (s : Seg) (x : Value), l[i]? = some s → xs[i]? = some x → ElemsAt (fun b => b < w.heap.size ∧ ov.ownBlock ≠ some b) w x s.elems
theorem OG.nil (B : Nat) (w : World) : OG B w (.slice none 0 0) [] [] := ⟨World.ownsRow_nil _ _ _ _, rfl, fun i s x h => by simp at h⟩
theorem OG.rest {B : Nat} {w : World} {ov : Value} {xs : List Value} {l : List Seg} (h : OG B w ov xs l) : SegsAt (fun b => b < w.heap.size) w ov l :=
  segs_rest h.row h.len (fun _ hk => (own_lt h.row hk).2) (fun i s x h1 h2 => (h.el i s x h1 h2).cong (fun _ hb => hb.1) (fun _ _ => rfl))
theorem OG.below {B : Nat} {w w' : World} {ov : Value} {xs : List Value} {l : List Seg} (h : OG B w ov xs l) (hb : Below w.heap.size w w') : OG B w' ov xs l :=
  ⟨own_cong h.row (fun k hk => hb.block k (own_lt h.row hk).2), h.len, fun i s x h1 h2 => (h.el i s x h1 h2).cong (fun k hk => ⟨by have := hb.size; omega, hk.2⟩) (fun k hk => hb.block k hk.1)⟩
/-- one segment in a new block of its own -/
theorem OG.one {B : Nat} {w : World} {t : Str} {st : ByteArray} {es : List (List Str)} {ev : Value} (hst : (⟨t.toArray⟩ : ByteArray) = st) (hB : B ≤ w.heap.size) (he : ElemsAt (fun b => b < w.heap.size) w ev es) :
    OG B (w.alloc (.cells #[.string st, ev] 94)) (.slice (some ⟨w.heap.size, 0, none⟩) 1 1) [ev] [⟨t, es⟩] := by
  refine ⟨⟨rfl, .inr ⟨w.heap.size, 1, #[.string st, ev], rfl, hB, heap_alloc_new _ _, Nat.le_refl _, by decide, rfl, ?_⟩⟩, rfl, fun i s x h1 h2 => ?_⟩
  · rw [← hst]; rfl
  · match i, h1, h2 with
    | 0, h1, h2 =>
      simp at h1 h2
      subst h1; subst h2
      exact he.cong (fun k hk => ⟨by simp; omega, fun e => by simp [Value.ownBlock] at e; omega⟩) (fun k hk => Below.heap_alloc _ _ _ hk)
    | i + 1, h1, _ => simp at h1
/-- append(own segments, segments...) -/
theorem wp_app_og {ops : Array Oper} {rest : List Oper} {o : Oper} {a : Act} {Q : Exit → Act → World → Prop} (s x : Operand)
    (ho : o.op = .call { callee := .builtin .append, args := #[s, x], argTypes := #[39, 39] }) (hw : Region.wanted o (yielded ops a.tmps) = true)
    {w : World} {B : Nat} {v mv : Value} {xs : List Value} {l m : List Seg} {S : Nat → Prop} (hs : a.eval s = v) (hx : a.eval x = mv) (hO : OG B w v xs l) (hm : SegsAt S w mv m) (hS : ∀ k, S k → k < w.heap.size ∧ v.ownBlock ≠ some k) (hl : l.length + m.length ≤ 1048576) (hB : B ≤ w.heap.size)
    (h : ∀ v' w' xs', OG B w' v' xs' (l ++ m) → Below B w w' → wpList Tryz.prog ops Q rest (a.put o.dst v') w') :
    wpList Tryz.prog ops Q (o :: rest) a w := by
  obtain ⟨i0, hi, hz0, hz1, hz2⟩ := info_parts einfo_seg
  have hm0 := hm
  obtain ⟨ao, cap, ys, rfl, g1, g2, g3, g4, g5⟩ := hm.row
  simp only [wpList, hw, if_true]
  left
  have fin : ∀ v' w', w'.ownsRow B 94 2 v' (l.length + m.length) (segCells l xs ++ segCells m ys) → w.grownBy w' v.ownBlock → (v'.ownBlock = v.ownBlock ∨ v'.ownBlock = some w.heap.size) → OG B w' v' (xs ++ ys) (l ++ m) ∧ Below B w w' := fun v' w' f1 f2 f3 => by
    have hov : ∀ k, v.ownBlock = some k → B ≤ k := fun k hk => (own_lt hO.row hk).1
    have hb : Below B w w' := (Below.refl B w).grown f2 hB hov
    have hz := f2.size
    have hc : ∀ b, b < w.heap.size → v.ownBlock ≠ some b → v'.ownBlock ≠ some b := fun b hb2 hne he => by
      rcases f3 with f3 | f3
      · exact hne (f3 ▸ he)
      · rw [f3] at he; cases he; omega
    refine ⟨⟨by rw [List.length_append, segCells_app l m xs ys hO.len]; exact f1, by simp [hO.len, g1], fun i s x h1 h2 => ?_⟩, hb⟩
    rcases Nat.lt_or_ge i l.length with hil | hil
    · rw [List.getElem?_append_left hil] at h1
      rw [List.getElem?_append_left (by rw [hO.len]; exact hil)] at h2
      exact (hO.el i s x h1 h2).cong (fun b hb' => ⟨by omega, hc b hb'.1 hb'.2⟩) (fun b hb' => f2.block b hb'.1 (fun e => hb'.2 e.symm))
    · rw [List.getElem?_append_right hil] at h1
      rw [List.getElem?_append_right (by rw [hO.len]; exact hil), hO.len] at h2
      exact (g4 _ s x h1 h2).cong (fun b hb' => ⟨by have := (hS b hb').1; omega, hc b (hS b hb').1 (hS b hb').2⟩) (fun b hb' => f2.block b (hS b hb').1 (fun e => (hS b hb').2 e.symm))
  cases ao with
  | none =>
    obtain ⟨rfl, rfl⟩ := g2 rfl
    have hr := run_append_owned_none (P := Tryz.prog) (w := w) B 39 o.type 94 i0 2 Tryz.underlying39 hi v l.length (segCells l xs) hO.row
    unfold Oper.wp
    simp [execOp, ho, resolve, invoke, builtin, hs, hx, hr, Result.andThen]
    obtain ⟨k1, k2⟩ := fin v w (by
      have : ys = [] := List.length_eq_zero_iff.1 g1
      subst this
      simpa [segCells] using hO.row) ⟨rfl, rfl, rfl, Nat.le_refl _, fun _ _ _ => rfl⟩ (.inl rfl)
    exact h v w _ k1 k2
  | some ad =>
    obtain ⟨v', w', hr, h2, h3, _, h5⟩ := run_append_own_at (P := Tryz.prog) w B 39 o.type 94 i0 (.agg #[.string ⟨#[]⟩, .slice none 0 0]) 2 40 Tryz.underlying39 hi hz0 hz1 hz2 rfl (by decide) v l.length (segCells l xs) hO.row ad m.length cap (segCells m ys) (segCells_len m ys g1) (g5 ad rfl) (segCells_one m ys g3) (by unfold maxLen; omega) (by omega) hB
    unfold Oper.wp execOp
    simp only [ho, resolve, invoke, builtin, Sem.run_bind, Sem.run_pure, Result.andThen_ok, List.map_toArray, List.map_cons, List.map_nil, hs, hx, hr]
    obtain ⟨k1, k2⟩ := fin v' w' h2 h3 h5
    exact h v' w' _ k1 k2
end Go.Proofs.YtgfijlamhjjecaaGreatDoor


/-
  WrapS: contract of wrap.segment. No condition beyond those stated.
-/
namespace Go.Proofs.YtgfijlamhjjecaaGreatDoor
open Go.RowKit
theorem results_cell1 {fn : Func} {p : Tmp} {ty : TypeId} (h : fn.results = #[.cell p ty]) (tmps : Array Value) (P : Program) (w : World) :
    (results fn tmps).run P w = ((asAddr (tmps.getD p undef)).run P w).andThen fun a w₁ => (loadVar ty a).run P w₁ := by
  simp only [results, h]
  simp [Sem.run_bind, Result.andThen]
theorem res_seg {fn : Func} {p : Tmp} (h : fn.results = #[.cell p 94]) (tmps : Array Value) {w : World} {g : Nat} {cs : Array Value} {t : TypeId} (hp : tmps.getD p undef = .pointer (some ⟨g, 0, none⟩))
    (hg : w.heap[g]? = some (.cells cs t (0, 0))) (hs : cs.size = 2) : (results fn tmps).run Tryz.prog w = .ok (.agg cs) w := by
  rw [results_cell1 h, hp]
  have hl : (loadVar 94 ⟨g, 0, none⟩).run Tryz.prog w = .ok (.agg cs) w := run_loadVar_row w g t 94 cs (0, 0) _ hg Tryz.underlying94 rfl (by rw [hs]; kernel_rfl)
  simp [asAddr, hl, Result.andThen]
def SegQ (st : ByteArray) (es : List (List Str)) (w : World) (e : Ending) (w' : World) : Prop := ∃ ev, e = .returned (.agg #[.string st, ev]) ∧ ElemsAt (fun k => w.heap.size ≤ k ∧ k < w'.heap.size) w' ev es ∧ Below w.heap.size w w'
def nums (l : List Nat) : List (List Str) := l.map fun v => [decT v]
set_option maxRecDepth 100000 in
set_option maxHeartbeats 8000000 in
theorem segment_any (st : ByteArray) (l : List Nat) (ab ao cap : Nat) (w : World) (hv : VarsOk w) (hl : l.length ≤ 16) (h64 : ∀ v ∈ l, v < 18446744073709551616) (hcap : l.length ≤ cap) (_hcap2 : cap ≤ 16)
    (hc : ∀ (i v : Nat), l[i]? = some v → w.cell? ⟨ab, ao + i, none⟩ = some (.int .u64 (v : Int))) :
    Calls Tryz.prog 96 #[.string st, .slice (some ⟨ab, ao, none⟩) l.length cap] w fun e w' => SegQ st (nums l) w e w' := by
  obtain ⟨B, hB⟩ : ∃ B, w.heap.size = B := ⟨_, rfl⟩
  have HBQ := Lib.hid hB
  have HC := Lib.hid hc
  have HV := Lib.hid hv
  have H64 := Lib.hid h64
  obtain ⟨n, hn⟩ : ∃ n, l.length = n := ⟨_, rfl⟩
  have HN := Lib.hid hn
  rw [hn] at hl hcap ⊢
  unfold SegQ
  rw [hB]
  obtain ⟨i2, hi2, hz20, hz21, hz22⟩ := info_parts einfo_strs
  have HI2 := Lib.hid hi2
  have HZ20 := Lib.hid hz20
  have HZ21 := Lib.hid hz21
  have HZ22 := Lib.hid hz22
  clear hi2 hz20 hz21 hz22 hc hv h64 hn
  obtain ⟨w1, hw1⟩ : ∃ w1, w.alloc (.cells #[.string ⟨#[]⟩, .slice none 0 0] 94) = w1 := ⟨_, rfl⟩
  have hz1 : w1.heap.size = B + 1 := by rw [← hw1]; simp [hB]
  have HB1 : Hid (Below B w w1) := Lib.hid (by rw [← hw1, ← hB]; exact (Below.refl _ _).alloc (Nat.le_refl _) _)
  have HR1 : Hid (w1.heap[B]? = some (.cells #[.string ⟨#[]⟩, .slice none 0 0] 94 (0, 0))) := Lib.hid (by rw [← hw1, ← hB]; exact heap_alloc_new _ _)
  obtain ⟨w2, hw2⟩ : ∃ w2, w1.alloc (.cells #[.string st, .slice none 0 0] 94) = w2 := ⟨_, rfl⟩
  have HE0 : Hid (OE (B + 1) (B + 1) st w2 (.slice none 0 0) [] []) := Lib.hid (OE.start (by rw [← hw2, ← hz1]; exact heap_alloc_new _ _))
  have HB2 : Hid (Below (B + 1) w1 w2) := Lib.hid (by rw [← hw2, ← hz1]; exact (Below.refl _ _).alloc (Nat.le_refl _) _)
  have hz2 : w2.heap.size = B + 2 := by rw [← hw2]; simp [hz1]
  have HZ1 := Lib.hid hz1
  have HZ2 := Lib.hid hz2
  have HW1 := Lib.hid hw1
  have HW2 := Lib.hid hw2
  clear hz1 hz2 hw1 hw2
  go_enter Tryz.func96, Tryz.ntmps96
  go_wp2_with fail
  rw [HW1.out, HW2.out]
  clear hB
  go_loopw [12] (fun i wx => ∃ (m : Nat) (ev : Value) (ys : List Value), m ≤ n ∧ i = .int .i64 (m : Int) ∧ Hid (OE (B + 1) (B + 1) st wx ev ys ((nums l).take m)) ∧ Hid (Below (B + 1) w1 wx) ∧ B + 1 < wx.heap.size) (fun i _ => n - (intOf i).toNat)
  case atStart => exact ⟨0, _, [], by omega, rfl, HE0, HB2, by rw [HZ2.out]; omega⟩
  case round =>
    obtain ⟨m, ev, ys, hm, rfl, HE1, HB3, hzx⟩ := hrel
    by_cases hml : m < n
    · skip
      obtain ⟨u, hu⟩ : ∃ u, l[m]? = some u := ⟨_, List.getElem?_eq_getElem (by rw [HN.out]; exact hml)⟩
      have hu64 := H64.out u (List.mem_of_getElem? hu)
      have hcu := HC.out m u hu
      have habB : ab < B := by rw [← HBQ.out]; exact cell_lt' hcu
      have HBW := Lib.hid (show Below B w wr from HB1.out.trans (HB3.out.mono (by omega)))
      have d1 := (HBW.out.cell (p := ⟨ab, ao + m, none⟩) habB).trans hcu
      have hne : (nums l)[m]? = some [decT u] := by unfold nums; rw [List.getElem?_map, hu]; rfl
      have HNE := Lib.hid hne
      have hlm : ((nums l).take m).length = m := by unfold nums; rw [List.length_take, List.length_map, HN.out]; omega
      obtain ⟨eva, evc, rfl⟩ := own_slice HE1.out.row
      rw [hlm] at HE1
      obtain ⟨f0, f1, fz⟩ := HE1.out.cells
      have b3 : (0 : Int) ≤ m := by omega
      have b4 : (m : Int) < n := by omega
      have HLM := Lib.hid hlm
      have HVX := Lib.hid (HV.out.on HBW.out (by rw [HBQ.out]; exact Nat.le_refl _))
      clear hcu hne hlm f0 hu
      go_upto_region 5 with fail
      obtain ⟨wd, hwd⟩ : ∃ wd, wr.drew = wd := ⟨_, rfl⟩
      have hwh : wd.heap = wr.heap := by rw [← hwd]; rfl
      have HE2 := Lib.hid (HE1.out.drew hwh)
      have HB4 := Lib.hid (show Below wr.heap.size wr wd by rw [← hwd]; exact (Below.refl _ _).drew)
      have f1' : wd.cell? ⟨B + 1, 1, none⟩ = some (.slice eva m evc) := (cell_ag (by rw [hwh])).trans f1
      have HWS := Lib.hid (show wd.heap.size = wr.heap.size by rw [hwh])
      have HVD := Lib.hid (HVX.out.on HB4.out (Nat.le_refl _))
      refine wp_region_planF 8 [(0, false), (1, false), (2, false), (3, true), (4, true), (5, true), (6, true), (7, false), (8, true)]
        (fun w' => w'.cell? ⟨B + 1, 1, none⟩ = some (.slice eva m evc)) (by kernel_rfl) (by kernel_rfl) (by rw [hwd]; exact f1') ?_
      rw [hwd]
      have HF1 := Lib.hid f1'
      clear hwd hwh f1 fz d1 HE1 f1'
      iterate 3 (refine' planF_val rfl rfl (fun w' hS => ?_) ?_; rotate_left; (focus (go_simp; rfl)); simp only [Act.put, List.setIfInBounds_toArray, List.set_cons_zero, List.set_cons_succ])
      refine planF_do rfl (fun K hK => ?_)
      obtain ⟨D0, hD0⟩ : ∃ D, wd.heap.size = D := ⟨_, rfl⟩
      have HD0 := Lib.hid hD0
      have hspD : B + 1 < D0 := by have h1 := HE2.out.lt; omega
      clear hD0
      go_wp2_with (go_at_call 128; refine (fmt_any u hu64 _ HVD.out).mono ?_; rw [HD0.out]; rintro e wc ⟨rfl, hb⟩; have HBC := Lib.hid hb; clear hb)
      refine hK _ _ (.inr ((HBC.out.cell (p := ⟨B + 1, 1, none⟩) hspD).trans HF1.out)) ?_
      clear hK K
      have hzc := HBC.out.size
      rw [HD0.out] at hzc
      obtain ⟨D, hD⟩ : ∃ D, wc.heap.size = D := ⟨_, rfl⟩
      have HD := Lib.hid hD
      rw [hD] at hzc
      obtain ⟨we, hwe⟩ : ∃ we, wc.alloc (.cells #[.string ⟨(decT u).toArray⟩] 9) = we := ⟨_, rfl⟩
      have HBe : Hid (Below D wc we) := Lib.hid (by rw [← hwe, ← hD]; exact (Below.refl _ _).alloc (Nat.le_refl _) _)
      have hze : we.heap.size = D + 1 := by rw [← hwe, ← hD]; simp
      have HCO : Hid (CompsAt (fun b => D0 ≤ b ∧ b < we.heap.size) we (.slice (some ⟨D, 0, none⟩) 1 1) [decT u]) := Lib.hid (by
        refine ⟨some ⟨D, 0, none⟩, 1, rfl, Nat.le_refl _, by decide, (fun e => by cases e), fun _ => ⟨D, 0, rfl, ⟨hzc, by omega⟩, fun i x hx => ?_⟩⟩
        match i, hx with
        | 0, hx => simp at hx; subst hx; rw [← hwe, ← hD]; simp [sv]
        | i + 1, hx => simp at hx)
      have HBDE : Hid (Below D0 wd we) := Lib.hid (HBC.out.trans (HBe.out.mono hzc))
      have HWE := Lib.hid hwe
      clear hwe hD
      refine planF_do rfl (fun K hK => ?_)
      go_wp2_with fail
      rw [HWE.out, HD.out]
      refine hK _ _ (.inr ((HBDE.out.cell (p := ⟨B + 1, 1, none⟩) hspD).trans HF1.out)) ?_
      clear hK K
      refine planF_do rfl (fun K hK => ?_)
      go_wp2_with fail
      refine hK _ _ (.inr ((Below.heap_alloc _ _ _ (by omega) |> fun h => cell_ag h).trans ((HBDE.out.cell (p := ⟨B + 1, 1, none⟩) hspD).trans HF1.out))) ?_
      clear hK K
      refine planF_do rfl (fun K hK => ?_)
      have hrow : we.ownsRow (B + 1) 58 1 (.slice eva m evc) m ys := by
        have h1 := HE2.out.row
        rw [HLM.out] at h1
        exact own_cong h1 (fun b hb => HBDE.out.block b (by rw [← HD0.out]; exact (own_lt h1 hb).2))
      have HRW := Lib.hid hrow
      clear hrow
      refine wpList_append_own_at _ rfl _ _ 92 rfl (B + 1) 58 i2 (.slice none 0 0) 1 24 Tryz.underlying92 HI2.out HZ20.out HZ21.out HZ22.out rfl (by decide) _ _ _ rfl (HRW.out.alloc _) ⟨we.heap.size, 0, none⟩ 1 1 [.slice (some ⟨D, 0, none⟩) 1 1] (by rw [hze]; rfl) rfl (cell_one_new _ _ _) (by simp [Value.oneCell']) (by unfold maxLen; omega) (by omega) (by simp; omega) ?_
      intro ev' wg hog hgg _ hkg
      obtain ⟨ev'a, ev'c, rfl⟩ := own_slice hog
      have hgg' := grown_alloc hgg
      have hzg := hgg'.size
      have hne1 : (Value.slice eva m evc).ownBlock ≠ some (B + 1) := own_not HE2.out.row HE2.out.c (by decide)
      have cg : wg.heap[B + 1]? = some (.cells #[.string st, .slice eva m evc] 94 (0, 0)) := (hgg'.block (B + 1) (by omega) (fun e => hne1 e.symm)).trans ((HBDE.out.block (B + 1) hspD).trans HE2.out.c)
      have cg1 : wg.cell? ⟨B + 1, 1, none⟩ = some (.slice eva m evc) := cell_of_row wg (B + 1) 1 _ _ _ cg
      have fg1 : wg.frozen? ⟨B + 1, 1, none⟩ = false := frozen_of_row wg (B + 1) 1 _ _ cg
      have HSTEP : Hid (OE (B + 1) (B + 1) st (wg.setCell ⟨B + 1, 1, none⟩ (.slice ev'a (m + 1) ev'c)) (.slice ev'a (m + 1) ev'c) (ys ++ [.slice (some ⟨D, 0, none⟩) 1 1]) ((nums l).take m ++ [[decT u]])) := Lib.hid (by
        refine OE.step HE2.out (by rw [HD0.out]; omega) (by rw [HD0.out]; exact HBDE.out) (by rw [HD0.out]; exact HCO.out) hgg' (by rw [HLM.out]; exact hog) ?_
        rcases hkg with h | h
        · exact .inl h
        · exact .inr ⟨_, h, by simp⟩)
      have HBG : Hid (Below (B + 1) wr wg) := Lib.hid (by
        have h1 := (HBDE.out.mono (show B + 1 ≤ D0 by omega))
        have h2 := HB4.out.mono (show B + 1 ≤ wr.heap.size by omega)
        have h3 := h2.trans h1
        exact h3.grown hgg' (by omega) (fun b hb => (own_lt HRW.out hb).1))
      have HKS := Lib.hid cg1
      clear hog hgg hkg hgg' hne1 cg
      go_wp2_with fail
      refine hK _ _ (.inr HKS.out) ?_
      clear hK K
      (refine' planF_val rfl rfl (fun w' hS => ?_) ?_; rotate_left; (focus (go_simp; rfl)); simp only [Act.put, List.setIfInBounds_toArray, List.set_cons_zero, List.set_cons_succ])
      refine planF_do rfl (fun K hK => ?_)
      go_wp2_with fail
      refine hK _ _ (.inl trivial) ?_
      clear hK K
      refine planF_nil ?_
      clear cg1 fg1
      obtain ⟨wh, hwh⟩ : ∃ wh, wg.setCell ⟨B + 1, 1, none⟩ (.slice ev'a (m + 1) ev'c) = wh := ⟨_, rfl⟩
      have hzh : wh.heap.size = wg.heap.size := by rw [← hwh]; simp
      have HBH : Hid (Below (B + 1) wr wh) := Lib.hid (by rw [← hwh]; exact HBG.out.setCell (Nat.le_refl _) _)
      rw [hwh] at HSTEP ⊢
      have HHB := Lib.hid (HB3.out.trans HBH.out)
      have hzz : B + 1 < wh.heap.size := by omega
      clear hwh hzh
      go_wp2_with fail
      go_roundw
      case rel =>
        exact ⟨m + 1, .slice ev'a (m + 1) ev'c, ys ++ [.slice (some ⟨D, 0, none⟩) 1 1], by omega, by go_num, Lib.hid (by rw [List.take_add_one, HNE.out]; exact HSTEP.out), Lib.hid HHB.out, hzz⟩
      case measure => simp [intOf]; omega
    · skip
      obtain rfl : m = n := by omega
      have hte : (nums l).take m = nums l := List.take_of_length_le (by unfold nums; rw [List.length_map, HN.out]; exact Nat.le_refl _)
      rw [hte] at HE1
      obtain ⟨eva, evc, rfl⟩ := own_slice HE1.out.row
      obtain ⟨g0, g1, _⟩ := HE1.out.cells
      have hr := (HB3.out.block B (by omega)).trans HR1.out
      have r0 : wr.cell? ⟨B, 0, none⟩ = some (.string ⟨#[]⟩) := cell_of_row wr B 0 _ _ _ hr
      have r1 : wr.cell? ⟨B, 1, none⟩ = some (.slice none 0 0) := cell_of_row wr B 1 _ _ _ hr
      have z0 := frozen_of_row wr B 0 _ _ hr
      have z1 := frozen_of_row wr B 1 _ _ hr
      have HR := Lib.hid hr
      clear hte hr
      go_wp2_with fail
      refine bodyPost_ret (res_seg rfl _ rfl (heap_setCell_same _ B 1 _ _ _ (heap_setCell_same _ B 0 _ _ _ HR.out)) rfl) rfl ?_
      refine ⟨_, rfl, ?_, ((HB1.out.trans (HB3.out.mono (by omega))).setCell (Nat.le_refl _) _).setCell (Nat.le_refl _) _⟩
      have h5 : RowAt (fun b => B + 1 ≤ b ∧ b < wr.heap.size) wr (.slice eva (nums l).length evc) ys := own_rest (by rw [HE1.out.len]; exact HE1.out.row) (fun k hk => own_lt HE1.out.row hk)
      have far : ∀ k, B + 1 ≤ k → ((wr.setCell ⟨B, 0, none⟩ (.string st)).setCell ⟨B, 1, none⟩ (.slice eva (nums l).length evc)).heap[k]? = wr.heap[k]? := fun k hk => by
        rw [heap_setCell_other _ _ _ _ (by simp; omega), heap_setCell_other _ _ _ _ (by simp; omega)]
      refine ⟨ys, h5.cong (fun b hb => ⟨by omega, by simp; exact hb.2⟩) (fun b hb => far b hb.1), HE1.out.len, fun i e x h6 h7 => ?_⟩
      exact (HE1.out.el i e x h6 h7).cong (fun b hb => ⟨by omega, by simp; exact hb.2.1⟩) (fun b hb => far b hb.1)
end Go.Proofs.YtgfijlamhjjecaaGreatDoor


/-
  MsgX2: contract of msg's segment. No condition beyond those stated.
-/
namespace Go.Proofs.YtgfijlamhjjecaaGreatDoor
open Go.RowKit
def ones (l : List Str) : List (List Str) := l.map fun v => [v]
set_option maxRecDepth 100000 in
set_option maxHeartbeats 8000000 in
theorem msegment_any {S : Nat → Prop} (st : ByteArray) (l : List Str) (v : Value) (w : World) (hc : CompsAt S w v l) (hS : ∀ k, S k → k < w.heap.size) (hl : l.length ≤ 1000) :
    Calls Tryz.prog 42 #[.string st, v] w fun e w' => SegQ st (ones l) w e w' := by
  obtain ⟨B, hB⟩ : ∃ B, w.heap.size = B := ⟨_, rfl⟩
  have HBQ := Lib.hid hB
  obtain ⟨ao, cap, rfl, hcap, hcm⟩ := hc.form
  have HC := Lib.hid hc
  have HS := Lib.hid hS
  obtain ⟨n, hn⟩ : ∃ n, l.length = n := ⟨_, rfl⟩
  have HN := Lib.hid hn
  rw [hn] at hl hcap HC ⊢
  unfold maxLen at hcm
  unfold SegQ
  rw [hB]
  obtain ⟨i2, hi2, hz20, hz21, hz22⟩ := info_parts einfo_strs
  have HI2 := Lib.hid hi2
  have HZ20 := Lib.hid hz20
  have HZ21 := Lib.hid hz21
  have HZ22 := Lib.hid hz22
  clear hi2 hz20 hz21 hz22 hc hS hn
  obtain ⟨w1, hw1⟩ : ∃ w1, w.alloc (.cells #[.string ⟨#[]⟩, .slice none 0 0] 94) = w1 := ⟨_, rfl⟩
  have hz1 : w1.heap.size = B + 1 := by rw [← hw1]; simp [hB]
  have HB1 : Hid (Below B w w1) := Lib.hid (by rw [← hw1, ← hB]; exact (Below.refl _ _).alloc (Nat.le_refl _) _)
  have HR1 : Hid (w1.heap[B]? = some (.cells #[.string ⟨#[]⟩, .slice none 0 0] 94 (0, 0))) := Lib.hid (by rw [← hw1, ← hB]; exact heap_alloc_new _ _)
  obtain ⟨w2, hw2⟩ : ∃ w2, w1.alloc (.cells #[.string st, .slice none 0 0] 94) = w2 := ⟨_, rfl⟩
  have HE0 : Hid (OE (B + 1) (B + 1) st w2 (.slice none 0 0) [] []) := Lib.hid (OE.start (by rw [← hw2, ← hz1]; exact heap_alloc_new _ _))
  have HB2 : Hid (Below (B + 1) w1 w2) := Lib.hid (by rw [← hw2, ← hz1]; exact (Below.refl _ _).alloc (Nat.le_refl _) _)
  have hz2 : w2.heap.size = B + 2 := by rw [← hw2]; simp [hz1]
  have HZ1 := Lib.hid hz1
  have HZ2 := Lib.hid hz2
  have HW1 := Lib.hid hw1
  have HW2 := Lib.hid hw2
  clear hz1 hz2 hw1 hw2
  go_enter Tryz.func42, Tryz.ntmps42
  go_wp2_with fail
  rw [HW1.out, HW2.out]
  clear hB
  go_loopw [12] (fun i wx => ∃ (m : Nat) (ev : Value) (ys : List Value), m ≤ n ∧ i = .int .i64 (m : Int) ∧ Hid (OE (B + 1) (B + 1) st wx ev ys ((ones l).take m)) ∧ Hid (Below (B + 1) w1 wx) ∧ B + 1 < wx.heap.size) (fun i _ => n - (intOf i).toNat)
  case atStart => exact ⟨0, _, [], by omega, rfl, HE0, HB2, by rw [HZ2.out]; omega⟩
  case round =>
    obtain ⟨m, ev, ys, hm, rfl, HE1, HB3, hzx⟩ := hrel
    by_cases hml : m < n
    · skip
      obtain ⟨p, hp⟩ : ∃ p, l[m]? = some p := ⟨_, List.getElem?_eq_getElem (by rw [HN.out]; exact hml)⟩
      obtain ⟨ab, off, rfl, hSab, hcu⟩ := HC.out.get hp
      have habB : ab < B := by rw [← HBQ.out]; exact HS.out _ hSab
      have HBW := Lib.hid (show Below B w wr from HB1.out.trans (HB3.out.mono (by omega)))
      have d1 := (HBW.out.cell (p := ⟨ab, off + m, none⟩) habB).trans hcu
      have hne : (ones l)[m]? = some [p] := by unfold ones; rw [List.getElem?_map, hp]; rfl
      have HNE := Lib.hid hne
      have hlm : ((ones l).take m).length = m := by unfold ones; rw [List.length_take, List.length_map, HN.out]; omega
      obtain ⟨eva, evc, rfl⟩ := own_slice HE1.out.row
      rw [hlm] at HE1
      obtain ⟨f0, f1, fz⟩ := HE1.out.cells
      have b3 : (0 : Int) ≤ m := by omega
      have b4 : (m : Int) < n := by omega
      have HLM := Lib.hid hlm
      obtain ⟨D, hD⟩ : ∃ D, wr.heap.size = D := ⟨_, rfl⟩
      have HD := Lib.hid hD
      obtain ⟨sp, hsp⟩ : ∃ sp : ByteArray, (⟨p.toArray⟩ : ByteArray) = sp := ⟨_, rfl⟩
      unfold sv at d1
      rw [hsp] at d1
      have HSP := Lib.hid hsp
      obtain ⟨wa, hwa⟩ : ∃ wa, (wr.alloc (.cells #[.string sp] 9)).alloc (.cells #[.slice (some ⟨wr.heap.size, 0, none⟩) 1 1] 58) = wa := ⟨_, rfl⟩
      have hza : wa.heap.size = D + 2 := by rw [← hwa, ← hD]; simp
      have HBa : Hid (Below D wr wa) := Lib.hid (by rw [← hwa, ← hD]; exact ((Below.refl _ _).alloc (Nat.le_refl _) _).alloc (by simp) _)
      have HCa : Hid (CompsAt (fun b => wr.heap.size ≤ b ∧ b < wa.heap.size) wa (.slice (some ⟨D, 0, none⟩) 1 1) [p]) := Lib.hid (by
        refine ⟨some ⟨D, 0, none⟩, 1, rfl, Nat.le_refl _, by decide, (fun e => by cases e), fun _ => ⟨D, 0, rfl, ⟨by omega, by omega⟩, fun i x hx => ?_⟩⟩
        match i, hx with
        | 0, hx =>
          simp at hx; subst hx
          have e := heap_alloc_new wr (.cells #[.string sp] 9)
          have e2 : wa.heap[D]? = some (.cells #[.string sp] 9 (0, 0)) := by
            rw [← hwa, ← hD]
            exact (Below.heap_alloc _ _ _ (by simp)).trans e
          rw [cell_of_row wa D 0 _ _ _ e2]
          unfold sv; rw [HSP.out]; rfl
        | i + 1, hx => simp at hx)
      have hrow0 : wr.ownsRow (B + 1) 58 1 (.slice eva m evc) m ys := by
        have h1 := HE1.out.row
        rw [HLM.out] at h1
        exact h1
      have hrow : wa.ownsRow (B + 1) 58 1 (.slice eva m evc) m ys := own_cong hrow0 (fun b hb => HBa.out.block b (by rw [← HD.out]; exact (own_lt hrow0 hb).2))
      have HRW := Lib.hid hrow
      have HRW0 := Lib.hid hrow0
      have HWA := Lib.hid hwa
      have HZA := Lib.hid hza
      clear hcu hne hlm f0 hp hD hsp hwa hza hrow hrow0
      go_wp2_with ((with_reducible refine wpList_at (.call { callee := .builtin .append, args := #[.tmp 17, .tmp 20], argTypes := #[92, 92] }) rfl ?_); rw [HWA.out, HD.out]; go_loud (refine wpList_append_own_at _ rfl _ _ 92 rfl (B + 1) 58 i2 (.slice none 0 0) 1 24 Tryz.underlying92 HI2.out HZ20.out HZ21.out HZ22.out rfl (by decide) _ _ _ rfl HRW.out ⟨D + 1, 0, none⟩ 1 1 [.slice (some ⟨D, 0, none⟩) 1 1] (by rfl) rfl (by rw [← HWA.out, ← HD.out]; exact cell_one_new2 _ _ _ _) (by simp [Value.oneCell']) (by unfold maxLen; omega) (by omega) (by rw [HZA.out]; have := HD.out; omega) ?_); intro ev' wg hog hgg _ hkg; obtain ⟨ev'a, ev'c, rfl⟩ := own_slice hog; have hne1 : (Value.slice eva m evc).ownBlock ≠ some (B + 1) := own_not HE1.out.row HE1.out.c (by decide); have cg : wg.heap[B + 1]? = some (.cells #[.string st, .slice eva m evc] 94 (0, 0)) := (hgg.block (B + 1) (by rw [HZA.out]; have := HD.out; omega) (fun e => hne1 e.symm)).trans ((HBa.out.block (B + 1) (by have := HD.out; omega)).trans HE1.out.c); have cg1 : wg.cell? ⟨B + 1, 1, none⟩ = some (.slice eva m evc) := cell_of_row wg (B + 1) 1 _ _ _ cg; have fg1 : wg.frozen? ⟨B + 1, 1, none⟩ = false := frozen_of_row wg (B + 1) 1 _ _ cg; have HOG := Lib.hid hog; have HGG := Lib.hid hgg; have HKG := Lib.hid hkg; clear hog hgg hkg hne1 cg)
      obtain ⟨wh, hwh⟩ : ∃ wh, wg.setCell ⟨B + 1, 1, none⟩ (.slice ev'a (m + 1) ev'c) = wh := ⟨_, rfl⟩
      have hzg := HGG.out.size
      have hzh : wh.heap.size = wg.heap.size := by rw [← hwh]; simp
      have HSTEP : Hid (OE (B + 1) (B + 1) st wh (.slice ev'a (m + 1) ev'c) (ys ++ [.slice (some ⟨D, 0, none⟩) 1 1]) ((ones l).take m ++ [[p]])) := Lib.hid (by
        rw [← hwh]
        refine OE.step HE1.out (by have := HD.out; omega) (by rw [HD.out]; exact HBa.out) HCa.out HGG.out (by rw [HLM.out]; exact HOG.out) ?_
        rcases HKG.out with h | h
        · exact .inl h
        · exact .inr ⟨_, h, Nat.le_refl _⟩)
      have HBH : Hid (Below (B + 1) wr wh) := Lib.hid (by
        rw [← hwh]
        exact ((HBa.out.mono (by have := HD.out; omega)).grown HGG.out (by rw [HZA.out]; have := HD.out; omega) (fun b hb => (own_lt HRW.out hb).1)).setCell (Nat.le_refl _) _)
      have HHB := Lib.hid (HB3.out.trans HBH.out)
      have hzz : B + 1 < wh.heap.size := by have := HBH.out.size; omega
      rw [hwh]
      clear hwh hzh hzg cg1 fg1 d1 f1 fz
      go_roundw
      case rel =>
        exact ⟨m + 1, .slice ev'a (m + 1) ev'c, ys ++ [.slice (some ⟨D, 0, none⟩) 1 1], by omega, by go_num, Lib.hid (by rw [List.take_add_one, HNE.out]; exact HSTEP.out), Lib.hid HHB.out, hzz⟩
      case measure => simp [intOf]; omega
    · skip
      obtain rfl : m = n := by omega
      have hte : (ones l).take m = ones l := List.take_of_length_le (by unfold ones; rw [List.length_map, HN.out]; exact Nat.le_refl _)
      rw [hte] at HE1
      obtain ⟨eva, evc, rfl⟩ := own_slice HE1.out.row
      obtain ⟨g0, g1, _⟩ := HE1.out.cells
      have hr := (HB3.out.block B (by omega)).trans HR1.out
      have r0 : wr.cell? ⟨B, 0, none⟩ = some (.string ⟨#[]⟩) := cell_of_row wr B 0 _ _ _ hr
      have r1 : wr.cell? ⟨B, 1, none⟩ = some (.slice none 0 0) := cell_of_row wr B 1 _ _ _ hr
      have z0 := frozen_of_row wr B 0 _ _ hr
      have z1 := frozen_of_row wr B 1 _ _ hr
      have HR := Lib.hid hr
      clear hte hr
      go_wp2_with fail
      refine bodyPost_ret (res_seg rfl _ rfl (heap_setCell_same _ B 1 _ _ _ (heap_setCell_same _ B 0 _ _ _ HR.out)) rfl) rfl ?_
      refine ⟨_, rfl, ?_, ((HB1.out.trans (HB3.out.mono (by omega))).setCell (Nat.le_refl _) _).setCell (Nat.le_refl _) _⟩
      have h5 : RowAt (fun b => B + 1 ≤ b ∧ b < wr.heap.size) wr (.slice eva (ones l).length evc) ys := own_rest (by rw [HE1.out.len]; exact HE1.out.row) (fun k hk => own_lt HE1.out.row hk)
      have far : ∀ k, B + 1 ≤ k → ((wr.setCell ⟨B, 0, none⟩ (.string st)).setCell ⟨B, 1, none⟩ (.slice eva (ones l).length evc)).heap[k]? = wr.heap[k]? := fun k hk => by
        rw [heap_setCell_other _ _ _ _ (by simp; omega), heap_setCell_other _ _ _ _ (by simp; omega)]
      refine ⟨ys, h5.cong (fun b hb => ⟨by omega, by simp; exact hb.2⟩) (fun b hb => far b hb.1), HE1.out.len, fun i e x h6 h7 => ?_⟩
      exact (HE1.out.el i e x h6 h7).cong (fun b hb => ⟨by omega, by simp; exact hb.2.1⟩) (fun b hb => far b hb.1)
end Go.Proofs.YtgfijlamhjjecaaGreatDoor


/-
  MsgX7: contract of words. No condition beyond those stated.
-/
namespace Go.Proofs.YtgfijlamhjjecaaGreatDoor
open Go.RowKit
/-- what words makes -/
def WordsQ (o : Option (List Str)) (w : World) (e : Ending) (w' : World) : Prop := ∃ v b, e = .returned (.tuple #[v, .bool b]) ∧ Below w.heap.size w w' ∧ ((∃ ws, o = some ws ∧ b = true ∧ CompsAt (fun k => w.heap.size ≤ k ∧ k < w'.heap.size) w' v ws) ∨ (o = none ∧ b = false ∧ v = .slice none 0 0))
theorem wordsQ_no {o : Option (List Str)} {w w' : World} (h : o = none) (hb : Below w.heap.size w w') : WordsQ o w (.returned (.tuple #[.slice none 0 0, .bool false])) w' := ⟨_, _, rfl, hb, .inr ⟨h, rfl, rfl⟩⟩
theorem wordsL_snoc {es : List (List Str)} {ws : List Str} {x : Str} (h : wordsL es = some ws) : wordsL (es ++ [[x]]) = some (ws ++ [x]) := by
  induction es generalizing ws with
  | nil => cases h; rfl
  | cons e es ih =>
    show (match oneW e, wordsL (es ++ [[x]]) with | some v, some l => some (v :: l) | _, _ => none) = _
    have h' : (match oneW e, wordsL es with | some v, some l => some (v :: l) | _, _ => none) = some ws := h
    cases ho : oneW e with
    | none => rw [ho] at h'; cases h'
    | some v =>
      rw [ho] at h'
      cases hl : wordsL es with
      | none => rw [hl] at h'; cases h'
      | some l =>
        rw [hl] at h'
        cases h'
        rw [ih hl]; rfl
theorem wordsL_bad {es : List (List Str)} {i : Nat} {e : List Str} (hi : es[i]? = some e) (he : e.length ≠ 1) : wordsL es = none := by
  induction es generalizing i with
  | nil => simp at hi
  | cons a es ih =>
    show (match oneW a, wordsL es with | some v, some l => some (v :: l) | _, _ => none) = _
    cases i with
    | zero =>
      have : a = e := by simpa using hi
      subst this
      have : oneW a = none := by
        match a, he with
        | [], _ => rfl
        | [x], he => simp at he
        | _ :: _ :: _, _ => rfl
      rw [this]
    | succ i =>
      rw [ih (i := i) (by simpa using hi)]
      cases oneW a <;> rfl
set_option maxRecDepth 100000 in
set_option maxHeartbeats 8000000 in
theorem words_any {S : Nat → Prop} (l : List Seg) (v : Value) (w : World) (h : SegsAt S w v l) (hS : ∀ k, S k → k < w.heap.size) (at_ n : Nat) (t : Str) (st : ByteArray) (hst : (⟨t.toArray⟩ : ByteArray) = st) (hat62 : at_ < 4611686018427387904) (hn62 : n ≤ 1048576) :
    Calls Tryz.prog 52 #[v, .int .i64 (at_ : Int), .string st, .int .i64 (n : Int)] w fun e w' => WordsQ ((l[at_]?).bind fun s => wordsS s t n) w e w' := by
  obtain ⟨ao, cap, rfl, hcap, hcm⟩ := h.form
  unfold maxLen at hcm
  obtain ⟨m, hm⟩ : ∃ m, l.length = m := ⟨_, rfl⟩
  have HM := Lib.hid hm
  have H := Lib.hid h
  have HS := Lib.hid hS
  have HST := Lib.hid hst
  rw [hm] at hcap H ⊢
  clear h hS hst hm
  by_cases hat : at_ < m
  · obtain ⟨s, hs⟩ : ∃ s, l[at_]? = some s := ⟨_, List.getElem?_eq_getElem (by rw [HM.out]; exact hat)⟩
    obtain ⟨b, off, x, rfl, hSb, c0, c1, he⟩ := H.out.get hs
    obtain ⟨eo, ecap, rfl, hec, hecm⟩ := he.form
    unfold maxLen at hecm
    rw [hs]
    simp only [Option.bind_some]
    have i1 : decide (m ≤ at_) = false := by rw [decide_eq_false_iff_not]; omega
    have i2 : (at_ : Int) < (m : Int) := by omega
    have i3 : (0 : Int) ≤ (at_ : Int) := by omega
    obtain ⟨sg, hsg⟩ : ∃ sg : ByteArray, (⟨s.tag.toArray⟩ : ByteArray) = sg := ⟨_, rfl⟩
    unfold sv at c0
    rw [hsg] at c0
    by_cases htag : s.tag = t
    · have hsame : sg = st := by rw [← hsg, htag, HST.out]
      subst hsame
      have t1 := str_same sg
      by_cases hn : s.elems.length = n
      · have HN := Lib.hid hn
        rw [hn] at c1 he hec
        have n1 : ((n : Int) != (n : Int)) = false := by simp
        have HE := Lib.hid he
        have HW := Lib.hid (show wordsS s t n = wordsL s.elems by unfold wordsS; rw [if_pos ⟨htag, HN.out⟩])
        obtain ⟨B, hB⟩ : ∃ B, w.heap.size = B := ⟨_, rfl⟩
        have HBQ := Lib.hid hB
        obtain ⟨i0, hi, hz0, hz1, hz2⟩ := info_parts einfo_str
        have HI := Lib.hid hi
        have HZ0 := Lib.hid hz0
        have HZ1 := Lib.hid hz1
        have HZ2 := Lib.hid hz2
        have HSb := Lib.hid hSb
        have hbB : b < w.heap.size := HS.out _ hSb
        clear he hn hs hsg hB hi hz0 hz1 hz2 hSb H
        go_enter Tryz.func52, Tryz.ntmps52
        go_wp2_with fail
        go_loopw [10, 42] (fun ov i wx => ∃ (k : Nat) (ws : List Str), k ≤ n ∧ i = .int .i64 (k : Int) ∧ Hid (wordsL (s.elems.take k) = some ws ∧ ws.length = k ∧ wx.ownsRow B 9 1 ov k (ws.map sv)) ∧ Hid (Below B w wx)) (fun _ i _ => n - (intOf i).toNat)
        case atStart => exact ⟨0, [], by omega, rfl, Lib.hid ⟨rfl, rfl, World.ownsRow_nil _ _ _ _⟩, Lib.hid (Below.refl _ _)⟩
        case round =>
          obtain ⟨k, ws, hk, rfl, HR, HB⟩ := hrel
          by_cases hlt : k < n
          · skip
            obtain ⟨e, hek⟩ : ∃ e, s.elems[k]? = some e := ⟨_, List.getElem?_eq_getElem (by rw [HN.out]; exact hlt)⟩
            obtain ⟨eb, eoff, ev, rfl, hSeb, ce, hce⟩ := HE.out.get hek
            obtain ⟨fo, fcap, rfl, hfc, hfcm⟩ := hce.form
            unfold maxLen at hfcm
            have ce' := (HB.out.cell (p := ⟨eb, eoff + k, none⟩) (by show eb < B; rw [← HBQ.out]; exact HS.out _ hSeb)).trans ce
            have a1 : (k : Int) < (n : Int) := by omega
            have a2 : (0 : Int) ≤ (k : Int) := by omega
            by_cases h1 : e.length = 1
            · obtain ⟨y, rfl⟩ := List.length_eq_one_iff.1 h1
              obtain ⟨gb, goff, rfl, hSgb, cg⟩ := hce.get (k := 0) (p := y) rfl
              have cg' := (HB.out.cell (p := ⟨gb, goff + 0, none⟩) (by show gb < B; rw [← HBQ.out]; exact HS.out _ hSgb)).trans cg
              rw [Nat.add_zero] at cg'
              simp only [List.length_cons, List.length_nil, Nat.zero_add] at ce' hfc
              obtain ⟨va, vc, rfl⟩ := own_slice HR.out.2.2
              obtain ⟨sy, hsy⟩ : ∃ sy : ByteArray, (⟨y.toArray⟩ : ByteArray) = sy := ⟨_, rfl⟩
              unfold sv at cg'
              rw [hsy] at cg'
              have HSY := Lib.hid hsy
              have HEK := Lib.hid hek
              have hws := HR.out.2.1
              clear hsy hek ce cg hce h1
              have hrow : (wr.alloc (.cells #[.string sy] 9)).ownsRow B 9 1 (.slice va k vc) k (ws.map sv) := HR.out.2.2.alloc _
              have HRW := Lib.hid hrow
              have HLW := Lib.hid hws
              clear hrow hws
              go_wp2_with ((with_reducible refine wpList_at (.call { callee := .builtin .append, args := #[.tmp 49, .tmp 53], argTypes := #[58, 58] }) rfl ?_); go_loud (refine wpList_append_own_at _ rfl _ _ 58 rfl B 9 i0 (.string ⟨#[]⟩) 1 16 Tryz.underlying58 HI.out HZ0.out HZ1.out HZ2.out rfl (by decide) _ _ _ rfl HRW.out ⟨wr.heap.size, 0, none⟩ 1 1 [.string sy] rfl rfl (cell_one_new _ _ _) (by simp [Value.oneCell']) (by unfold maxLen; omega) (by omega) (by have := HB.out.size; have := HBQ.out; simp; omega) ?_); intro ov' wg hog hgg _ _; obtain ⟨va', vc', rfl⟩ := own_slice hog; have HOG := Lib.hid hog; have HGG := Lib.hid hgg; clear hog hgg)
              go_roundw
              case rel =>
                refine ⟨k + 1, ws ++ [y], by omega, by go_num, Lib.hid ⟨?_, by rw [List.length_append, HLW.out]; rfl, ?_⟩, Lib.hid ?_⟩
                · rw [List.take_add_one, HEK.out]; exact wordsL_snoc HR.out.1
                · rw [List.map_append]
                  have e : [y].map sv = [.string sy] := by rw [← HSY.out]; rfl
                  rw [e]; exact HOG.out
                · have hh := HB.out.size
                  have hq := HBQ.out
                  exact HB.out.trans ((Below.refl B wr).grown (grown_alloc HGG.out) (by omega) (fun b' hb' => (own_lt HRW.out hb').1))
              case measure => simp [intOf]; omega
            · have n2 : ((e.length : Int) != 1) = true := by rw [bne_iff_ne]; omega
              have HQ := Lib.hid (HW.out.trans (wordsL_bad hek h1))
              obtain ⟨el, hel⟩ : ∃ el, e.length = el := ⟨_, rfl⟩
              rw [hel] at ce' n2
              clear hel hek ce hce h1 hfc
              go_wp2_with fail
              go_ret2
              exact wordsQ_no HQ.out (by rw [HBQ.out]; exact HB.out)
          · obtain rfl : k = n := by omega
            have hte : s.elems.take k = s.elems := List.take_of_length_le (Nat.le_of_eq HN.out)
            have HQ := Lib.hid (HW.out.trans (show wordsL s.elems = some ws by rw [← hte]; exact HR.out.1))
            clear hte
            go_wp2_with fail
            go_ret2
            refine ⟨_, _, rfl, by rw [HBQ.out]; exact HB.out, .inl ⟨ws, HQ.out, rfl, ?_⟩⟩
            rw [HBQ.out]
            exact own_rest (by rw [List.length_map, HR.out.2.1]; exact HR.out.2.2) (fun _ hk => own_lt HR.out.2.2 hk)
      · have n1 : ((s.elems.length : Int) != (n : Int)) = true := by rw [bne_iff_ne]; omega
        have HQ := Lib.hid (show wordsS s t n = none by unfold wordsS; rw [if_neg (fun h => hn h.2)])
        obtain ⟨el, hel⟩ : ∃ el, s.elems.length = el := ⟨_, rfl⟩
        rw [hel] at c1 n1
        clear hel hs hsg he hn hec H
        go_enter Tryz.func52, Tryz.ntmps52
        go_wp2_with fail
        go_ret2
        exact wordsQ_no HQ.out (Below.refl _ _)
    · have hne : sg ≠ st := fun e => htag (by
        have h1 : (⟨s.tag.toArray⟩ : ByteArray) = ⟨t.toArray⟩ := by rw [hsg, e, HST.out]
        have h2 := congrArg (fun x => x.data.toList) h1
        simpa using h2)
      have t1 := str_ne hne
      have HQ := Lib.hid (show wordsS s t n = none by unfold wordsS; rw [if_neg (fun h => htag h.1)])
      clear hs hsg he htag c1 hec H hne
      go_enter Tryz.func52, Tryz.ntmps52
      go_wp2_with fail
      go_ret2
      exact wordsQ_no HQ.out (Below.refl _ _)
  · have hnone : l[at_]? = none := List.getElem?_eq_none (by rw [HM.out]; omega)
    rw [hnone]
    have i1 : decide (m ≤ at_) = true := by rw [decide_eq_true_eq]; omega
    clear hnone H
    go_enter Tryz.func52, Tryz.ntmps52
    go_wp2_with fail
    go_ret2
    exact wordsQ_no rfl (Below.refl _ _)
end Go.Proofs.YtgfijlamhjjecaaGreatDoor

