/-
  Texts MsgQ3, MsgZ1, MsgW, MsgX0, MsgX2, MsgX7, one behind the other. No condition beyond those stated in each.
-/
import Derived.Test.YtgfijlamhjjecaaGreatDoorRows
import Derived.Test.YtgfijlamhjjecaaGreatDoorMt5
import Derived.Test.YtgfijlamhjjecaaGreatDoorMt7
import Derived.LaidMore
import Derived.DataShut
import Derived.Lib.SmallJoins
import Derived.Stop.LaidErr
import Derived.Test.YtgfijlamhjjecaaGreatDoorMt6
import Derived.Test.YtgfijlamhjjecaaGreatDoorMt4
import Derived.Test.YtgfijlamhjjecaaGreatDoorMt2
namespace Go.Proofs.YtgfijlamhjjecaaGreatDoor
open Go.Lib Go.RowKit Go.ChangeShapes Go.WideShapes Go.ChangeAt Go.WideElems
theorem gSyn : Tryz.prog.globalNamed "strconv.ErrSyntax" = some 2 := by kernel_rfl
theorem gSynT : (Tryz.prog.globals[2]?).map (·.type) = some 177 := by kernel_rfl
theorem gRng : Tryz.prog.globalNamed "strconv.ErrRange" = some 3 := by kernel_rfl
theorem gRngT : (Tryz.prog.globals[3]?).map (·.type) = some 177 := by kernel_rfl
theorem gPow : Tryz.prog.globalNamed "internal/strconv.uint64pow10" = some 1 := by kernel_rfl
theorem gPowT : (Tryz.prog.globals[1]?).map (·.type) = some 264 := by kernel_rfl
theorem cellsU64 : Tryz.prog.cellsOf 22 = 1 := by kernel_rfl
theorem cellsPow : Tryz.prog.cellsOf 264 = 20 := by kernel_rfl
theorem cellsErr : Tryz.prog.cellsOf 282 = 1 := by kernel_rfl
theorem cellsStr : Tryz.prog.cellsOf 9 = 1 := by kernel_rfl
theorem errStar : "*" ++ "errors.errorString" = "*errors.errorString" := by decide
theorem errRow (u : TypeId) (h : Tryz.prog.typeName? 3 u = some "*errors.errorString") : u = 280 :=
  typeName_ptr_named (nm := "errors.errorString") (by rw [errStar]; kernel_rfl) (by kernel_rfl) (by decide) u (by rw [errStar]; exact h)
theorem vars_of_laid {W : World} (h : laidMetH Tryz.prog Rows.msgWrapsRow.laid W) : VarsOk W := by
  rw [MakeChecks.laidMetH_plain _ _ _ (by kernel_rfl)] at h
  have h2 := h.tail.tail
  have h3 := h2.tail
  have h4 := h3.tail
  obtain ⟨a0, s0, hv0, -, -, -⟩ := laid_sentinel h3 gRng gRngT Tryz.underlying177 errRow Tryz.underlying280 Tryz.underlying282 rfl rfl Tryz.underlying9 cellsErr cellsStr
  obtain ⟨a1, s1, hv1, -, -, -⟩ := laid_sentinel h4 gSyn gSynT Tryz.underlying177 errRow Tryz.underlying280 Tryz.underlying282 rfl rfl Tryz.underlying9 cellsErr cellsStr
  exact ⟨Lib.tabIs_of_head gPow gPowT Tryz.underlying264 Tryz.underlying22 cellsU64 cellsPow h2, ⟨_, _, by have h0 := World.var?_cell gSyn hv1 0; simpa using h0⟩, ⟨_, _, by have h0 := World.var?_cell gRng hv0 0; simpa using h0⟩⟩
theorem door_met (os : Os) (args : Array Value) : laidMet Tryz.prog Rows.msgWrapsRow.laid ((World.doorLaid Tryz.prog 3000 os).forCall (fun _ _ => 0) ⟨#[], args, []⟩).memory :=
  laidMet_of_run' 8 (by kernel_rfl) (by kernel_rfl)
section
variable {H : Type} {enc : TypeId × Value → H} {W : World}
end
end Go.Proofs.YtgfijlamhjjecaaGreatDoor


namespace Go.Proofs.YtgfijlamhjjecaaGreatDoor
def segO (x : WD) (i : Nat) (t : Str) (n : Nat) : Option (List Str) := (x.segs[i]?).bind fun s => wordsS s t n
theorem segO_len {x : WD} {i n : Nat} {t : Str} {l : List Str} (h : segO x i t n = some l) : l.length = n := by
  unfold segO at h
  obtain ⟨s, _, hs⟩ := bind_some h
  exact (wordsS_inj hs).2
theorem ack_some {x : WD} {l : List Str} (h : segO x 0 tACK 0 = some l) : ∃ s r, x.segs = s :: r ∧ ackS s = true := by
  unfold segO at h
  obtain ⟨s, h0, hs⟩ := bind_some h
  cases hx : x.segs with
  | nil => rw [hx] at h0; cases h0
  | cons a r =>
    rw [hx] at h0
    cases h0
    refine ⟨_, r, rfl, ?_⟩
    unfold wordsS at hs
    split at hs
    · rename_i hc
      unfold ackS
      simp [hc.1, List.eq_nil_of_length_eq_zero hc.2]
    · cases hs
theorem ack_none {x : WD} {s : Seg} {r : List Seg} (h : segO x 0 tACK 0 = none) (hx : x.segs = s :: r) : ackS s = false := by
  unfold segO at h
  rw [hx] at h
  cases ha : ackS s with
  | false => rfl
  | true =>
    unfold ackS at ha
    rw [Bool.and_eq_true, decide_eq_true_eq, List.isEmpty_iff] at ha
    have : wordsS s tACK 0 = some [] := by unfold wordsS; rw [if_pos ⟨ha.1, by rw [ha.2]; rfl⟩, ha.2]; rfl
    simp [this] at h
section
variable {x : WD}
theorem pm_car (h : 8 ≤ x.fr ∨ 8 ≤ x.dst) : packetM x = (pd0, 1) := by unfold packetM; rw [if_pos h]
theorem pm_ack2 (h : ¬ (8 ≤ x.fr ∨ 8 ≤ x.dst)) {l : List Str} (ha : segO x 0 tACK 0 = some l) (hl : 1 < x.segs.length) : packetM x = (pd0, 101) := by
  obtain ⟨s, r, hx, hs⟩ := ack_some ha
  unfold packetM
  rw [if_neg h, hx]
  simp only
  rw [if_pos hs, if_neg]
  rw [hx] at hl
  rintro rfl
  simp at hl
theorem pm_ack (h : ¬ (8 ≤ x.fr ∨ 8 ≤ x.dst)) {l : List Str} (ha : segO x 0 tACK 0 = some l) (hl : ¬ 1 < x.segs.length) : packetM x = (⟨x.fr, x.dst, true, x.rf, md0⟩, 0) := by
  obtain ⟨s, r, hx, hs⟩ := ack_some ha
  unfold packetM
  rw [if_neg h, hx]
  simp only
  rw [if_pos hs, if_pos]
  rw [hx] at hl
  cases r with
  | nil => rfl
  | cons _ _ => simp at hl
theorem pm_msg (h : ¬ (8 ≤ x.fr ∨ 8 ≤ x.dst)) (ha : segO x 0 tACK 0 = none) (hm : segO x 0 tMSG 1 = none) : packetM x = (pd0, 100) := by
  unfold packetM
  rw [if_neg h]
  cases hx : x.segs with
  | nil => rfl
  | cons s r =>
    simp only
    rw [if_neg (by rw [ack_none ha hx]; decide)]
    have : wordsS s tMSG 1 = none := by unfold segO at hm; rw [hx] at hm; simpa using hm
    rw [this]; rfl
theorem pm_some (h : ¬ (8 ≤ x.fr ∨ 8 ≤ x.dst)) (ha : segO x 0 tACK 0 = none) {u : Str} (hm : segO x 0 tMSG 1 = some [u]) : ∃ s r, x.segs = s :: r ∧ packetM x = (match wholeE u 0 255 with
    | some k =>
      (match hasK k.toNat with
      | none => (pd0, 100)
      | some h => match r with
        | [] => (pd0, 101)
        | y :: r => match wordsS y tKEY 2 with
          | some [t, u] =>
            if (parse7 t).2 ≠ 0 then (pd0, (parse7 t).2) else
            (match wholeE u 0 3, partsR (partsB h) r with
            | some a, some vs => (⟨x.fr, x.dst, false, x.rf, mdOf h k.toNat (parse7 t).1.1 (parse7 t).1.2 a.toNat vs⟩, 0)
            | _, _ => (pd0, 101))
          | _ => (pd0, 101))
    | none => (pd0, 100)) := by
  unfold segO at hm
  obtain ⟨s, h0, hs⟩ := bind_some hm
  cases hx : x.segs with
  | nil => rw [hx] at h0; cases h0
  | cons a r =>
    rw [hx] at h0
    cases h0
    refine ⟨_, _, rfl, ?_⟩
    unfold packetM
    rw [if_neg h, hx]
    simp only
    rw [if_neg (by rw [ack_none ha hx]; decide), hs]
    simp only [Option.bind_some]
    unfold wholeL
    cases hw : wholeE u 0 255 with
    | none => rfl
    | some k => rfl
theorem pm_num (h : ¬ (8 ≤ x.fr ∨ 8 ≤ x.dst)) (ha : segO x 0 tACK 0 = none) {u : Str} (hm : segO x 0 tMSG 1 = some [u]) (hw : wholeE u 0 255 = none) : packetM x = (pd0, 100) := by
  obtain ⟨s, r, _, e⟩ := pm_some h ha hm
  rw [e, hw]
theorem pm_kind (h : ¬ (8 ≤ x.fr ∨ 8 ≤ x.dst)) (ha : segO x 0 tACK 0 = none) {u : Str} (hm : segO x 0 tMSG 1 = some [u]) {k : Int} (hw : wholeE u 0 255 = some k) (hk : hasK k.toNat = none) : packetM x = (pd0, 100) := by
  obtain ⟨s, r, _, e⟩ := pm_some h ha hm
  rw [e, hw]; simp only; rw [hk]
theorem pm_key (h : ¬ (8 ≤ x.fr ∨ 8 ≤ x.dst)) (ha : segO x 0 tACK 0 = none) {u : Str} (hm : segO x 0 tMSG 1 = some [u]) {k : Int} (hw : wholeE u 0 255 = some k) {hh : Bool × Bool × Bool} (hk : hasK k.toNat = some hh) (hy : segO x 1 tKEY 2 = none) : packetM x = (pd0, 101) := by
  obtain ⟨s, r, hx, e⟩ := pm_some h ha hm
  rw [e, hw]; simp only; rw [hk]
  unfold segO at hy
  rw [hx] at hy
  cases r with
  | nil => rfl
  | cons y r =>
    have : wordsS y tKEY 2 = none := by simpa using hy
    simp only [this]
theorem pm_rest (h : ¬ (8 ≤ x.fr ∨ 8 ≤ x.dst)) (ha : segO x 0 tACK 0 = none) {u : Str} (hm : segO x 0 tMSG 1 = some [u]) {k : Int} (hw : wholeE u 0 255 = some k) {hh : Bool × Bool × Bool} (hk : hasK k.toNat = some hh) {t u2 : Str} (hy : segO x 1 tKEY 2 = some [t, u2]) :
    2 ≤ x.segs.length ∧ packetM x = if (parse7 t).2 ≠ 0 then (pd0, (parse7 t).2) else
      (match wholeE u2 0 3, partsR (partsB hh) (x.segs.drop 2) with
      | some a, some vs => (⟨x.fr, x.dst, false, x.rf, mdOf hh k.toNat (parse7 t).1.1 (parse7 t).1.2 a.toNat vs⟩, 0)
      | _, _ => (pd0, 101)) := by
  obtain ⟨s, r, hx, e⟩ := pm_some h ha hm
  unfold segO at hy
  rw [hx] at hy
  cases r with
  | nil => simp at hy
  | cons y r =>
    have h1 : wordsS y tKEY 2 = some [t, u2] := by simpa using hy
    refine ⟨by rw [hx]; simp, ?_⟩
    rw [e, hw]; simp only; rw [hk]
    simp only [h1, hx, List.drop_succ_cons, List.drop_zero]
theorem pm_tick (h : ¬ (8 ≤ x.fr ∨ 8 ≤ x.dst)) (ha : segO x 0 tACK 0 = none) {u : Str} (hm : segO x 0 tMSG 1 = some [u]) {k : Int} (hw : wholeE u 0 255 = some k) {hh : Bool × Bool × Bool} (hk : hasK k.toNat = some hh) {t u2 : Str} (hy : segO x 1 tKEY 2 = some [t, u2]) (ht : (parse7 t).2 ≠ 0) : packetM x = (pd0, (parse7 t).2) := by
  rw [(pm_rest h ha hm hw hk hy).2, if_pos ht]
def readN (x : WD) (hh : Bool × Bool × Bool) (n : Nat) (st : Bool × MD) : Bool × MD := ((List.range n).map fun i => (((partF hh)[i]?).getD ([], []), x.segs[2 + i]?)).foldl readP st
theorem readN_succ (x : WD) (hh : Bool × Bool × Bool) (n : Nat) (st : Bool × MD) : readN x hh (n + 1) st = readP (readN x hh n st) (((partF hh)[n]?).getD ([], []), x.segs[2 + n]?) := by
  unfold readN
  rw [List.range_succ, List.map_append, List.foldl_append]
  rfl
theorem pm_main (h : ¬ (8 ≤ x.fr ∨ 8 ≤ x.dst)) (ha : segO x 0 tACK 0 = none) {u : Str} (hm : segO x 0 tMSG 1 = some [u]) {k : Int} (hw : wholeE u 0 255 = some k) {hh : Bool × Bool × Bool} (hk : hasK k.toNat = some hh) {t u2 : Str} (hy : segO x 1 tKEY 2 = some [t, u2]) (ht : (parse7 t).2 = 0)
    {st : Bool × MD} (hst : st = readN x hh (partF hh).length ((wholeE u2 0 3).isSome && decide (x.segs.length = 2 + (partF hh).length), ⟨k.toNat, (parse7 t).1.1, (parse7 t).1.2, ((wholeE u2 0 3).getD 0).toNat, cd0, 0, 0⟩)) :
    packetM x = if st.1 = true then (⟨x.fr, x.dst, false, x.rf, st.2⟩, 0) else (pd0, 101) := by
  obtain ⟨hl2, e⟩ := pm_rest h ha hm hw hk hy
  rw [e, if_neg (by simp [ht])]
  cases ha3 : wholeE u2 0 3 with
  | none =>
    rw [ha3] at hst
    have : st.1 = false := by
      rw [hst]
      simp only [Option.isSome_none, Bool.false_and]
      unfold readN
      exact readPs_false _ _
    rw [this]; rfl
  | some a =>
    rw [ha3] at hst
    simp only [Option.isSome_some, Bool.true_and, Option.getD_some] at hst
    by_cases hlen : x.segs.length = 2 + (partF hh).length
    · rw [decide_eq_true hlen] at hst
      have hdl : (x.segs.drop 2).length = (partF hh).length := by rw [List.length_drop]; omega
      have hz : ((List.range (partF hh).length).map fun i => (((partF hh)[i]?).getD ([], []), x.segs[2 + i]?)) = (partF hh).zip ((x.segs.drop 2).map some) := by
        apply List.ext_getElem?
        intro i
        by_cases hi : i < (partF hh).length
        · have h1 : ((List.range (partF hh).length).map fun i => (((partF hh)[i]?).getD ([], []), x.segs[2 + i]?))[i]? = some (((partF hh)[i]?).getD ([], []), x.segs[2 + i]?) := by
            rw [List.getElem?_map, List.getElem?_range hi]; rfl
          rw [h1, List.getElem?_zip_eq_some.2]
          refine ⟨?_, ?_⟩
          · rw [List.getElem?_eq_getElem hi]; rfl
          · rw [List.getElem?_map, List.getElem?_drop, List.getElem?_eq_getElem (by omega)]; rfl
        · rw [List.getElem?_eq_none (by simp; omega), List.getElem?_eq_none (by simp [List.length_zip]; omega)]
      unfold readN at hst
      rw [hz] at hst
      have h2 := readPs (partF hh) (x.segs.drop 2) ⟨k.toNat, (parse7 t).1.1, (parse7 t).1.2, a.toNat, cd0, 0, 0⟩ hdl
      rw [← partsB_F] at h2
      cases hp : partsR (partsB hh) (x.segs.drop 2) with
      | none =>
        rw [hp] at h2
        simp only at h2
        rw [← hst] at h2
        rw [h2]; rfl
      | some vs =>
        rw [hp] at h2
        simp only at h2
        rw [h2] at hst
        have hb := (partsR_inj (sane_parts hh) hp).2
        rw [sets_md hk hb] at hst
        rw [hst]; rfl
    · rw [decide_eq_false hlen] at hst
      have h1 : st.1 = false := by rw [hst]; unfold readN; exact readPs_false _ _
      rw [h1]
      have hp : partsR (partsB hh) (x.segs.drop 2) = none := by
        cases hp : partsR (partsB hh) (x.segs.drop 2) with
        | none => rfl
        | some vs =>
          have h3 := partsR_len hp
          rw [partsB_F, List.length_map, List.length_drop] at h3
          omega
      rw [hp]; rfl
end
end Go.Proofs.YtgfijlamhjjecaaGreatDoor


namespace Go.Proofs.YtgfijlamhjjecaaGreatDoor
open Go.RowKit
def PiQ (s : Str) (v : Int) (ev : Value) : Prop := (Lib.parseIntB 64 s = .ok v ∧ ev = .nilIface) ∨ ((∀ u, Lib.parseIntB 64 s ≠ .ok u) ∧ ∃ te pe, ev = .iface te pe)
theorem pi_any (s : ByteArray) (hl : s.size ≤ 1048576) (w : World) (hv : VarsOk w) : Calls Tryz.prog 95 #[.string s, .int .i64 10, .int .i64 64] w fun e w' => ∃ (u : Int) (ev : Value), e = .returned (.tuple #[.int .i64 u, ev]) ∧ PiQ s.data.toList u ev ∧ Below w.heap.size w w' := by
  by_cases h1 : ∃ u, Lib.parseIntB 64 s.data.toList = .ok u
  · obtain ⟨u, h⟩ := h1
    refine (Tryz.strconv_ParseInt_10_at64_ok s (by omega) u h w).mono ?_
    rintro e w' ⟨rfl, hw⟩
    refine ⟨u, _, rfl, .inl ⟨h, rfl⟩, ?_⟩
    rcases hw with rfl | ⟨t, rfl⟩
    · exact Below.refl _ _
    · exact Lib.bytesWorld_below _ _ _
  have hno : ∀ u, Lib.parseIntB 64 s.data.toList ≠ .ok u := fun u e => h1 ⟨u, e⟩
  by_cases h2 : Lib.parseIntB 64 s.data.toList = .range
  · obtain ⟨te, pe, hc⟩ := hv.rng
    refine (Tryz.strconv_ParseInt_10_at64_range s (by omega) h2 _ w hc (.inr ⟨te, pe, rfl⟩)).mono ?_
    rintro e w' ⟨N, rfl, _, _, hb⟩
    exact ⟨_, _, rfl, .inr ⟨hno, _, _, rfl⟩, hb⟩
  · obtain ⟨te, pe, hc⟩ := hv.syn
    refine (Tryz.strconv_ParseInt_10_at64_syntax s (by omega) ⟨hno, h2⟩ _ w hc (.inr ⟨te, pe, rfl⟩)).mono ?_
    rintro e w' ⟨N, rfl, _, _, hb⟩
    exact ⟨0, _, rfl, .inr ⟨hno, _, _, rfl⟩, hb⟩
def WholeQ (t : Str) (lo hi : Int) (w : World) (e : Ending) (w' : World) : Prop := e = .returned (.tuple #[.int .i64 ((wholeE t lo hi).getD 0), .bool (wholeE t lo hi).isSome]) ∧ Below w.heap.size w w'
theorem wholeQ_none {t : Str} {lo hi : Int} {w w' : World} (h : wholeE t lo hi = none) (hb : Below w.heap.size w w') : WholeQ t lo hi w (.returned (.tuple #[.int .i64 0, .bool false])) w' := by
  unfold WholeQ; rw [h]; exact ⟨rfl, hb⟩
theorem wholeQ_some {t : Str} {lo hi v : Int} {w w' : World} (h : wholeE t lo hi = some v) (hb : Below w.heap.size w w') : WholeQ t lo hi w (.returned (.tuple #[.int .i64 v, .bool true])) w' := by
  unfold WholeQ; rw [h]; exact ⟨rfl, hb⟩
theorem wpi_none {s : Str} {lo hi : Int} (h : ∀ u, Lib.parseIntB 64 s ≠ .ok u) : wholePI s lo hi = none := by
  unfold wholePI
  cases hx : Lib.parseIntB 64 s <;> first | rfl | exact absurd hx (h _)
theorem wpi_ok {s : Str} {lo hi v : Int} (h : Lib.parseIntB 64 s = .ok v) : wholePI s lo hi = if s.head? = some 43 ∨ ((if s.head? = some 45 then s.tail else s).head? = some 48 ∧ s ≠ [48]) ∨ v < lo ∨ hi < v then none else some v := by
  unfold wholePI; rw [h]
theorem pib_ne {s : Str} {v : Int} (h : Lib.parseIntB 64 s = .ok v) : s ≠ [] ∧ s ≠ [45] := by
  constructor
  · rintro rfl
    have e : ∀ u, Lib.parseIntB 64 ([] : Str) ≠ .ok u := fun u hu => by cases hu
    exact e _ h
  · rintro rfl
    cases h
theorem trim45 (s : Str) : Lib.trimPrefix s [45] = if s.head? = some 45 then s.tail else s := by
  unfold Lib.trimPrefix
  cases s with
  | nil => rfl
  | cons c r =>
    by_cases h : c = 45
    · subst h; rfl
    · have e : Lib.hasPrefix (c :: r) [45] = false := by
        unfold Lib.hasPrefix
        simp [List.isPrefixOf]
        try exact fun e => h e.symm
      rw [e]; simp [h]
end Go.Proofs.YtgfijlamhjjecaaGreatDoor


namespace Go.Proofs.YtgfijlamhjjecaaGreatDoor
open Go.RowKit
theorem itoa_sgn (v : Int) : Lib.itoa v = sgnT v := by
  unfold Lib.itoa sgnT
  split
  · rfl
  · rw [show v.toNat = v.natAbs by omega]
theorem fmtInt_any (v : Int) (h0 : -9223372036854775808 ≤ v) (h1 : v ≤ 9223372036854775807) (w : World) (hv : VarsOk w) : Calls Tryz.prog 116 #[.int .i64 v, .int .i64 10] w fun e w' => e = .returned (.string ⟨(sgnT v).toArray⟩) ∧ Below w.heap.size w w' :=
  (Tryz.strconv_FormatInt_10 v h0 h1 w hv.tab).mono (by
    rintro e w' ⟨rfl, k, os, rfl⟩
    exact ⟨by rw [itoa_sgn], Lib.below_grow w.heap.size w (Nat.le_refl _) k os⟩)
theorem itoa_any (v : Int) (h0 : -9223372036854775808 ≤ v) (h1 : v ≤ 9223372036854775807) (w : World) (hv : VarsOk w) : Calls Tryz.prog 45 #[.int .i64 v] w fun e w' => e = .returned (.string ⟨(sgnT v).toArray⟩) ∧ Below w.heap.size w w' :=
  (Tryz.strconv_Itoa v h0 h1 w hv.tab).mono (by
    rintro e w' ⟨rfl, k, os, rfl⟩
    exact ⟨by rw [itoa_sgn], Lib.below_grow w.heap.size w (Nat.le_refl _) k os⟩)
theorem head_of {s : ByteArray} (h : s.data.toList ≠ []) : ∃ (c : UInt8) (hs : 0 < s.size), s[0]'hs = c ∧ s.data.toList.head? = some c := by
  obtain ⟨l, hl⟩ : ∃ l, s.data.toList = l := ⟨_, rfl⟩
  have hs0 : 0 < s.size := by
    have e : s.size = l.length := by rw [← hl]; rfl
    rw [e]
    rw [hl] at h
    exact List.length_pos_iff.2 h
  refine ⟨s[0]'hs0, hs0, rfl, ?_⟩
  have h1 := at_byte s 0 hs0
  rw [hl] at h1 ⊢
  cases l with
  | nil => exact absurd hl h
  | cons a l => simpa using h1
set_option maxRecDepth 100000 in
set_option maxHeartbeats 4000000 in
theorem whole_any (s : ByteArray) (hl : s.size ≤ 1048576) (lo hi : Int) (h1 : -9223372036854775808 ≤ lo) (h2 : hi ≤ 9223372036854775807) (w : World) (hv : VarsOk w) :
    Calls Tryz.prog 53 #[.string s, .int .i64 lo, .int .i64 hi] w fun e w' => WholeQ s.data.toList lo hi w e w' := by
  obtain ⟨l, hsl⟩ : ∃ l, s.data.toList = l := ⟨_, rfl⟩
  obtain ⟨D, hD⟩ : ∃ D : ByteArray, (⟨(Lib.trimPrefix s.data.toList [45]).toArray⟩ : ByteArray) = D := ⟨_, rfl⟩
  have HT := Lib.hid (show ∀ w, Calls Tryz.prog 94 #[.string s, .string ⟨#[45]⟩] w (fun e w' => e = .returned (.string D) ∧ w = w') from fun w => (Tryz.strings_TrimPrefix s ⟨#[45]⟩ w).mono (by
    rintro e w' ⟨rfl, rfl⟩
    exact ⟨by rw [← hD], rfl⟩))
  have hDl : D.data.toList = if l.head? = some 45 then l.tail else l := by rw [← hD, ← hsl]; exact trim45 _
  have HP := Lib.hid (fun w hv => pi_any s hl w hv)
  have HSL := Lib.hid hsl
  have HE := Lib.hid (whole_pi (s := l) h1 h2)
  rw [hsl] at HP ⊢
  by_cases hok : ∃ v, Lib.parseIntB 64 l = .ok v
  · obtain ⟨v, hok⟩ := hok
    have hw := wpi_ok (lo := lo) (hi := hi) hok
    rw [HE.out] at hw
    obtain ⟨hne, hne2⟩ := pib_ne hok
    obtain ⟨c0, hs0, hA, hh⟩ := head_of (s := s) (by rw [hsl]; exact hne)
    obtain ⟨c1, hd0, hB, hh1⟩ := head_of (s := D) (by
      rw [hDl]
      split
      · rename_i h
        cases l with
        | nil => exact absurd rfl hne
        | cons a r => rintro h3; simp at h h3; subst h; subst h3; exact hne2 rfl
      · exact hne)
    rw [hsl] at hh
    rw [← hDl, hh1, hh] at hw
    have i0 : (0 : Int) < (s.size : Int) := by omega
    have i1 : (0 : Int) < (D.size : Int) := by omega
    have HOK := Lib.hid hok
    clear hsl hD hDl hok h1 h2 hne hne2 hh hh1 HE
    by_cases h43 : c0 = 43
    · subst h43
      have HN : Hid (wholeE l lo hi = none) := Lib.hid (by rw [hw, if_pos (.inl rfl)])
      clear hw
      go_enter Tryz.func53, Tryz.ntmps53
      go_wp2_with (first | (go_at_call 94; refine (HT.out _).mono ?_; rintro e w' ⟨rfl, rfl⟩) | (go_at_call 95; refine (HP.out _ hv).mono ?_; rintro e w' ⟨u, ev, rfl, hq, hb⟩; have HQ := Lib.hid hq; have HB := Lib.hid hb; clear hq hb))
      rcases HQ.out with ⟨hq, rfl⟩ | ⟨hq, te, pe, rfl⟩
      · obtain rfl : v = u := Lib.NumEnd.ok.inj (HOK.out.symm.trans hq)
        clear hq
        go_simp
        go_wp2_with fail
        go_ret2
        exact wholeQ_none HN.out HB.out
      · exact absurd HOK.out (hq _)
    have n43 : ((c0.toNat : Int) == 43) = false := nat_eq c0 43 h43
    by_cases h48 : c1 = 48 ∧ l ≠ [48]
    · obtain ⟨rfl, hne⟩ := h48
      have HN : Hid (wholeE l lo hi = none) := Lib.hid (by rw [hw, if_pos (.inr (.inl ⟨rfl, hne⟩))])
      have nez : (s.toList == [48]) = false := by
        rw [beq_eq_false_iff_ne, ByteArray.toList_eq, HSL.out]; exact hne
      clear hw hne
      go_enter Tryz.func53, Tryz.ntmps53
      go_wp2_with (first | (go_at_call 94; refine (HT.out _).mono ?_; rintro e w' ⟨rfl, rfl⟩) | (go_at_call 95; refine (HP.out _ hv).mono ?_; rintro e w' ⟨u, ev, rfl, hq, hb⟩; have HQ := Lib.hid hq; have HB := Lib.hid hb; clear hq hb))
      rcases HQ.out with ⟨hq, rfl⟩ | ⟨hq, te, pe, rfl⟩
      · obtain rfl : v = u := Lib.NumEnd.ok.inj (HOK.out.symm.trans hq)
        clear hq
        go_simp
        go_wp2_with fail
        go_ret2
        exact wholeQ_none HN.out HB.out
      · exact absurd HOK.out (hq _)
    by_cases hlo : v < lo
    · have HN : Hid (wholeE l lo hi = none) := Lib.hid (by rw [hw, if_pos (.inr (.inr (.inl hlo)))])
      clear hw
      by_cases e48 : c1 = 48
      · have ez : (s.toList == [48]) = true := by
          have : l = [48] := Classical.byContradiction fun h => h48 ⟨e48, h⟩
          rw [beq_iff_eq, ByteArray.toList_eq, HSL.out, this]
        subst e48
        clear h48
        go_enter Tryz.func53, Tryz.ntmps53
        go_wp2_with (first | (go_at_call 94; refine (HT.out _).mono ?_; rintro e w' ⟨rfl, rfl⟩) | (go_at_call 95; refine (HP.out _ hv).mono ?_; rintro e w' ⟨u, ev, rfl, hq, hb⟩; have HQ := Lib.hid hq; have HB := Lib.hid hb; clear hq hb))
        rcases HQ.out with ⟨hq, rfl⟩ | ⟨hq, te, pe, rfl⟩
        · obtain rfl : v = u := Lib.NumEnd.ok.inj (HOK.out.symm.trans hq)
          clear hq
          go_simp
          go_wp2_with fail
          go_ret2
          exact wholeQ_none HN.out HB.out
        · exact absurd HOK.out (hq _)
      · have n48 : ((c1.toNat : Int) == 48) = false := nat_eq c1 48 e48
        clear h48 e48
        go_enter Tryz.func53, Tryz.ntmps53
        go_wp2_with (first | (go_at_call 94; refine (HT.out _).mono ?_; rintro e w' ⟨rfl, rfl⟩) | (go_at_call 95; refine (HP.out _ hv).mono ?_; rintro e w' ⟨u, ev, rfl, hq, hb⟩; have HQ := Lib.hid hq; have HB := Lib.hid hb; clear hq hb))
        rcases HQ.out with ⟨hq, rfl⟩ | ⟨hq, te, pe, rfl⟩
        · obtain rfl : v = u := Lib.NumEnd.ok.inj (HOK.out.symm.trans hq)
          clear hq
          go_simp
          go_wp2_with fail
          go_ret2
          exact wholeQ_none HN.out HB.out
        · exact absurd HOK.out (hq _)
    by_cases hhi : hi < v
    · have HN : Hid (wholeE l lo hi = none) := Lib.hid (by rw [hw, if_pos (.inr (.inr (.inr hhi)))])
      clear hw
      by_cases e48 : c1 = 48
      · have ez : (s.toList == [48]) = true := by
          have : l = [48] := Classical.byContradiction fun h => h48 ⟨e48, h⟩
          rw [beq_iff_eq, ByteArray.toList_eq, HSL.out, this]
        subst e48
        clear h48
        go_enter Tryz.func53, Tryz.ntmps53
        go_wp2_with (first | (go_at_call 94; refine (HT.out _).mono ?_; rintro e w' ⟨rfl, rfl⟩) | (go_at_call 95; refine (HP.out _ hv).mono ?_; rintro e w' ⟨u, ev, rfl, hq, hb⟩; have HQ := Lib.hid hq; have HB := Lib.hid hb; clear hq hb))
        rcases HQ.out with ⟨hq, rfl⟩ | ⟨hq, te, pe, rfl⟩
        · obtain rfl : v = u := Lib.NumEnd.ok.inj (HOK.out.symm.trans hq)
          clear hq
          go_simp
          go_wp2_with fail
          go_ret2
          exact wholeQ_none HN.out HB.out
        · exact absurd HOK.out (hq _)
      · have n48 : ((c1.toNat : Int) == 48) = false := nat_eq c1 48 e48
        clear h48 e48
        go_enter Tryz.func53, Tryz.ntmps53
        go_wp2_with (first | (go_at_call 94; refine (HT.out _).mono ?_; rintro e w' ⟨rfl, rfl⟩) | (go_at_call 95; refine (HP.out _ hv).mono ?_; rintro e w' ⟨u, ev, rfl, hq, hb⟩; have HQ := Lib.hid hq; have HB := Lib.hid hb; clear hq hb))
        rcases HQ.out with ⟨hq, rfl⟩ | ⟨hq, te, pe, rfl⟩
        · obtain rfl : v = u := Lib.NumEnd.ok.inj (HOK.out.symm.trans hq)
          clear hq
          go_simp
          go_wp2_with fail
          go_ret2
          exact wholeQ_none HN.out HB.out
        · exact absurd HOK.out (hq _)
    · have HN : Hid (wholeE l lo hi = some v) := Lib.hid (by
        rw [hw, if_neg]
        rintro (h | h | h | h)
        · exact h43 (Option.some.inj h)
        · exact h48 ⟨Option.some.inj h.1, h.2⟩
        · exact hlo h
        · exact hhi h)
      clear hw
      by_cases e48 : c1 = 48
      · have ez : (s.toList == [48]) = true := by
          have : l = [48] := Classical.byContradiction fun h => h48 ⟨e48, h⟩
          rw [beq_iff_eq, ByteArray.toList_eq, HSL.out, this]
        subst e48
        clear h48
        go_enter Tryz.func53, Tryz.ntmps53
        go_wp2_with (first | (go_at_call 94; refine (HT.out _).mono ?_; rintro e w' ⟨rfl, rfl⟩) | (go_at_call 95; refine (HP.out _ hv).mono ?_; rintro e w' ⟨u, ev, rfl, hq, hb⟩; have HQ := Lib.hid hq; have HB := Lib.hid hb; clear hq hb))
        rcases HQ.out with ⟨hq, rfl⟩ | ⟨hq, te, pe, rfl⟩
        · obtain rfl : v = u := Lib.NumEnd.ok.inj (HOK.out.symm.trans hq)
          clear hq
          go_simp
          go_wp2_with fail
          go_ret2
          exact wholeQ_some HN.out HB.out
        · exact absurd HOK.out (hq _)
      · have n48 : ((c1.toNat : Int) == 48) = false := nat_eq c1 48 e48
        clear h48 e48
        go_enter Tryz.func53, Tryz.ntmps53
        go_wp2_with (first | (go_at_call 94; refine (HT.out _).mono ?_; rintro e w' ⟨rfl, rfl⟩) | (go_at_call 95; refine (HP.out _ hv).mono ?_; rintro e w' ⟨u, ev, rfl, hq, hb⟩; have HQ := Lib.hid hq; have HB := Lib.hid hb; clear hq hb))
        rcases HQ.out with ⟨hq, rfl⟩ | ⟨hq, te, pe, rfl⟩
        · obtain rfl : v = u := Lib.NumEnd.ok.inj (HOK.out.symm.trans hq)
          clear hq
          go_simp
          go_wp2_with fail
          go_ret2
          exact wholeQ_some HN.out HB.out
        · exact absurd HOK.out (hq _)
  · have hno : ∀ u, Lib.parseIntB 64 l ≠ .ok u := fun u e => hok ⟨u, e⟩
    have HN := Lib.hid ((HE.out).symm.trans (wpi_none (lo := lo) (hi := hi) hno))
    have HNO := Lib.hid hno
    clear hsl hD hDl hno hok h1 h2
    go_enter Tryz.func53, Tryz.ntmps53
    go_wp2_with (first | (go_at_call 94; refine (HT.out _).mono ?_; rintro e w' ⟨rfl, rfl⟩) | (go_at_call 95; refine (HP.out _ hv).mono ?_; rintro e w' ⟨u, ev, rfl, hq, hb⟩; have HQ := Lib.hid hq; have HB := Lib.hid hb; clear hq hb))
    rcases HQ.out with ⟨hq, rfl⟩ | ⟨_, te, pe, rfl⟩
    · exact absurd hq (HNO.out _)
    · go_simp
      go_wp2_with fail
      go_ret2
      exact wholeQ_none HN.out HB.out
end Go.Proofs.YtgfijlamhjjecaaGreatDoor


namespace Go.Proofs.YtgfijlamhjjecaaGreatDoor
open Go.RowKit
def ones (l : List Str) : List (List Str) := l.map fun v => [v]
set_option maxRecDepth 100000 in
set_option maxHeartbeats 8000000 in
theorem msegment_any {S : Nat → Prop} (st : ByteArray) (l : List Str) (v : Value) (w : World) (hc : CompsAt S w v l) (hS : ∀ k, S k → k < w.heap.size) (hl : l.length ≤ 1000) :
    Calls Tryz.prog 42 #[.string st, v] w fun e w' => SegQ st (ones l) w e w' := by
  obtain ⟨B, hB⟩ : ∃ B, w.heap.size = B := ⟨_, rfl⟩
  have HBQ := Lib.hid hB
  obtain ⟨ao, cap, rfl, hcap, hcm⟩ := hc.form
  have HC := Lib.hid hc
  have HS := Lib.hid hS
  obtain ⟨n, hn⟩ : ∃ n, l.length = n := ⟨_, rfl⟩
  have HN := Lib.hid hn
  rw [hn] at hl hcap HC ⊢
  unfold maxLen at hcm
  unfold SegQ
  rw [hB]
  obtain ⟨i2, hi2, hz20, hz21, hz22⟩ := info_parts einfo_strs
  have HI2 := Lib.hid hi2
  have HZ20 := Lib.hid hz20
  have HZ21 := Lib.hid hz21
  have HZ22 := Lib.hid hz22
  clear hi2 hz20 hz21 hz22 hc hS hn
  obtain ⟨w1, hw1⟩ : ∃ w1, w.alloc (.cells #[.string ⟨#[]⟩, .slice none 0 0] 94) = w1 := ⟨_, rfl⟩
  have hz1 : w1.heap.size = B + 1 := by rw [← hw1]; simp [hB]
  have HB1 : Hid (Below B w w1) := Lib.hid (by rw [← hw1, ← hB]; exact (Below.refl _ _).alloc (Nat.le_refl _) _)
  have HR1 : Hid (w1.heap[B]? = some (.cells #[.string ⟨#[]⟩, .slice none 0 0] 94 (0, 0))) := Lib.hid (by rw [← hw1, ← hB]; exact heap_alloc_new _ _)
  obtain ⟨w2, hw2⟩ : ∃ w2, w1.alloc (.cells #[.string st, .slice none 0 0] 94) = w2 := ⟨_, rfl⟩
  have HE0 : Hid (OE (B + 1) (B + 1) st w2 (.slice none 0 0) [] []) := Lib.hid (OE.start (by rw [← hw2, ← hz1]; exact heap_alloc_new _ _))
  have HB2 : Hid (Below (B + 1) w1 w2) := Lib.hid (by rw [← hw2, ← hz1]; exact (Below.refl _ _).alloc (Nat.le_refl _) _)
  have hz2 : w2.heap.size = B + 2 := by rw [← hw2]; simp [hz1]
  have HZ1 := Lib.hid hz1
  have HZ2 := Lib.hid hz2
  have HW1 := Lib.hid hw1
  have HW2 := Lib.hid hw2
  clear hz1 hz2 hw1 hw2
  go_enter Tryz.func42, Tryz.ntmps42
  go_wp2_with fail
  rw [HW1.out, HW2.out]
  clear hB
  go_loopw [12] (fun i wx => ∃ (m : Nat) (ev : Value) (ys : List Value), m ≤ n ∧ i = .int .i64 (m : Int) ∧ Hid (OE (B + 1) (B + 1) st wx ev ys ((ones l).take m)) ∧ Hid (Below (B + 1) w1 wx) ∧ B + 1 < wx.heap.size) (fun i _ => n - (intOf i).toNat)
  case atStart => exact ⟨0, _, [], by omega, rfl, HE0, HB2, by rw [HZ2.out]; omega⟩
  case round =>
    obtain ⟨m, ev, ys, hm, rfl, HE1, HB3, hzx⟩ := hrel
    by_cases hml : m < n
    · skip
      obtain ⟨p, hp⟩ : ∃ p, l[m]? = some p := ⟨_, List.getElem?_eq_getElem (by rw [HN.out]; exact hml)⟩
      obtain ⟨ab, off, rfl, hSab, hcu⟩ := HC.out.get hp
      have habB : ab < B := by rw [← HBQ.out]; exact HS.out _ hSab
      have HBW := Lib.hid (show Below B w wr from HB1.out.trans (HB3.out.mono (by omega)))
      have d1 := (HBW.out.cell (p := ⟨ab, off + m, none⟩) habB).trans hcu
      have hne : (ones l)[m]? = some [p] := by unfold ones; rw [List.getElem?_map, hp]; rfl
      have HNE := Lib.hid hne
      have hlm : ((ones l).take m).length = m := by unfold ones; rw [List.length_take, List.length_map, HN.out]; omega
      obtain ⟨eva, evc, rfl⟩ := own_slice HE1.out.row
      rw [hlm] at HE1
      obtain ⟨f0, f1, fz⟩ := HE1.out.cells
      have b3 : (0 : Int) ≤ m := by omega
      have b4 : (m : Int) < n := by omega
      have HLM := Lib.hid hlm
      obtain ⟨D, hD⟩ : ∃ D, wr.heap.size = D := ⟨_, rfl⟩
      have HD := Lib.hid hD
      obtain ⟨sp, hsp⟩ : ∃ sp : ByteArray, (⟨p.toArray⟩ : ByteArray) = sp := ⟨_, rfl⟩
      unfold sv at d1
      rw [hsp] at d1
      have HSP := Lib.hid hsp
      obtain ⟨wa, hwa⟩ : ∃ wa, (wr.alloc (.cells #[.string sp] 9)).alloc (.cells #[.slice (some ⟨wr.heap.size, 0, none⟩) 1 1] 58) = wa := ⟨_, rfl⟩
      have hza : wa.heap.size = D + 2 := by rw [← hwa, ← hD]; simp
      have HBa : Hid (Below D wr wa) := Lib.hid (by rw [← hwa, ← hD]; exact ((Below.refl _ _).alloc (Nat.le_refl _) _).alloc (by simp) _)
      have HCa : Hid (CompsAt (fun b => wr.heap.size ≤ b ∧ b < wa.heap.size) wa (.slice (some ⟨D, 0, none⟩) 1 1) [p]) := Lib.hid (by
        refine ⟨some ⟨D, 0, none⟩, 1, rfl, Nat.le_refl _, by decide, (fun e => by cases e), fun _ => ⟨D, 0, rfl, ⟨by omega, by omega⟩, fun i x hx => ?_⟩⟩
        match i, hx with
        | 0, hx =>
          simp at hx; subst hx
          have e := heap_alloc_new wr (.cells #[.string sp] 9)
          have e2 : wa.heap[D]? = some (.cells #[.string sp] 9 (0, 0)) := by
            rw [← hwa, ← hD]
            exact (Below.heap_alloc _ _ _ (by simp)).trans e
          rw [cell_of_row wa D 0 _ _ _ e2]
          unfold sv; rw [HSP.out]; rfl
        | i + 1, hx => simp at hx)
      have hrow0 : wr.ownsRow (B + 1) 58 1 (.slice eva m evc) m ys := by
        have h1 := HE1.out.row
        rw [HLM.out] at h1
        exact h1
      have hrow : wa.ownsRow (B + 1) 58 1 (.slice eva m evc) m ys := own_cong hrow0 (fun b hb => HBa.out.block b (by rw [← HD.out]; exact (own_lt hrow0 hb).2))
      have HRW := Lib.hid hrow
      have HRW0 := Lib.hid hrow0
      have HWA := Lib.hid hwa
      have HZA := Lib.hid hza
      clear hcu hne hlm f0 hp hD hsp hwa hza hrow hrow0
      go_wp2_with ((with_reducible refine wpList_at (.call { callee := .builtin .append, args := #[.tmp 17, .tmp 20], argTypes := #[92, 92] }) rfl ?_); rw [HWA.out, HD.out]; go_loud (refine wpList_append_own_at _ rfl _ _ 92 rfl (B + 1) 58 i2 (.slice none 0 0) 1 24 Tryz.underlying92 HI2.out HZ20.out HZ21.out HZ22.out rfl (by decide) _ _ _ rfl HRW.out ⟨D + 1, 0, none⟩ 1 1 [.slice (some ⟨D, 0, none⟩) 1 1] (by rfl) rfl (by rw [← HWA.out, ← HD.out]; exact cell_one_new2 _ _ _ _) (by simp [Value.oneCell']) (by unfold maxLen; omega) (by omega) (by rw [HZA.out]; have := HD.out; omega) ?_); intro ev' wg hog hgg _ hkg; obtain ⟨ev'a, ev'c, rfl⟩ := own_slice hog; have hne1 : (Value.slice eva m evc).ownBlock ≠ some (B + 1) := own_not HE1.out.row HE1.out.c (by decide); have cg : wg.heap[B + 1]? = some (.cells #[.string st, .slice eva m evc] 94 (0, 0)) := (hgg.block (B + 1) (by rw [HZA.out]; have := HD.out; omega) (fun e => hne1 e.symm)).trans ((HBa.out.block (B + 1) (by have := HD.out; omega)).trans HE1.out.c); have cg1 : wg.cell? ⟨B + 1, 1, none⟩ = some (.slice eva m evc) := cell_of_row wg (B + 1) 1 _ _ _ cg; have fg1 : wg.frozen? ⟨B + 1, 1, none⟩ = false := frozen_of_row wg (B + 1) 1 _ _ cg; have HOG := Lib.hid hog; have HGG := Lib.hid hgg; have HKG := Lib.hid hkg; clear hog hgg hkg hne1 cg)
      obtain ⟨wh, hwh⟩ : ∃ wh, wg.setCell ⟨B + 1, 1, none⟩ (.slice ev'a (m + 1) ev'c) = wh := ⟨_, rfl⟩
      have hzg := HGG.out.size
      have hzh : wh.heap.size = wg.heap.size := by rw [← hwh]; simp
      have HSTEP : Hid (OE (B + 1) (B + 1) st wh (.slice ev'a (m + 1) ev'c) (ys ++ [.slice (some ⟨D, 0, none⟩) 1 1]) ((ones l).take m ++ [[p]])) := Lib.hid (by
        rw [← hwh]
        refine OE.step HE1.out (by have := HD.out; omega) (by rw [HD.out]; exact HBa.out) HCa.out HGG.out (by rw [HLM.out]; exact HOG.out) ?_
        rcases HKG.out with h | h
        · exact .inl h
        · exact .inr ⟨_, h, Nat.le_refl _⟩)
      have HBH : Hid (Below (B + 1) wr wh) := Lib.hid (by
        rw [← hwh]
        exact ((HBa.out.mono (by have := HD.out; omega)).grown HGG.out (by rw [HZA.out]; have := HD.out; omega) (fun b hb => (own_lt HRW.out hb).1)).setCell (Nat.le_refl _) _)
      have HHB := Lib.hid (HB3.out.trans HBH.out)
      have hzz : B + 1 < wh.heap.size := by have := HBH.out.size; omega
      rw [hwh]
      clear hwh hzh hzg cg1 fg1 d1 f1 fz
      go_roundw
      case rel =>
        exact ⟨m + 1, .slice ev'a (m + 1) ev'c, ys ++ [.slice (some ⟨D, 0, none⟩) 1 1], by omega, by go_num, Lib.hid (by rw [List.take_add_one, HNE.out]; exact HSTEP.out), Lib.hid HHB.out, hzz⟩
      case measure => simp [intOf]; omega
    · skip
      obtain rfl : m = n := by omega
      have hte : (ones l).take m = ones l := List.take_of_length_le (by unfold ones; rw [List.length_map, HN.out]; exact Nat.le_refl _)
      rw [hte] at HE1
      obtain ⟨eva, evc, rfl⟩ := own_slice HE1.out.row
      obtain ⟨g0, g1, _⟩ := HE1.out.cells
      have hr := (HB3.out.block B (by omega)).trans HR1.out
      have r0 : wr.cell? ⟨B, 0, none⟩ = some (.string ⟨#[]⟩) := cell_of_row wr B 0 _ _ _ hr
      have r1 : wr.cell? ⟨B, 1, none⟩ = some (.slice none 0 0) := cell_of_row wr B 1 _ _ _ hr
      have z0 := frozen_of_row wr B 0 _ _ hr
      have z1 := frozen_of_row wr B 1 _ _ hr
      have HR := Lib.hid hr
      clear hte hr
      go_wp2_with fail
      refine bodyPost_ret (res_seg rfl _ rfl (heap_setCell_same _ B 1 _ _ _ (heap_setCell_same _ B 0 _ _ _ HR.out)) rfl) rfl ?_
      refine ⟨_, rfl, ?_, ((HB1.out.trans (HB3.out.mono (by omega))).setCell (Nat.le_refl _) _).setCell (Nat.le_refl _) _⟩
      have h5 : RowAt (fun b => B + 1 ≤ b ∧ b < wr.heap.size) wr (.slice eva (ones l).length evc) ys := own_rest (by rw [HE1.out.len]; exact HE1.out.row) (fun k hk => own_lt HE1.out.row hk)
      have far : ∀ k, B + 1 ≤ k → ((wr.setCell ⟨B, 0, none⟩ (.string st)).setCell ⟨B, 1, none⟩ (.slice eva (ones l).length evc)).heap[k]? = wr.heap[k]? := fun k hk => by
        rw [heap_setCell_other _ _ _ _ (by simp; omega), heap_setCell_other _ _ _ _ (by simp; omega)]
      refine ⟨ys, h5.cong (fun b hb => ⟨by omega, by simp; exact hb.2⟩) (fun b hb => far b hb.1), HE1.out.len, fun i e x h6 h7 => ?_⟩
      exact (HE1.out.el i e x h6 h7).cong (fun b hb => ⟨by omega, by simp; exact hb.2.1⟩) (fun b hb => far b hb.1)
end Go.Proofs.YtgfijlamhjjecaaGreatDoor


namespace Go.Proofs.YtgfijlamhjjecaaGreatDoor
open Go.RowKit
def WordsQ (o : Option (List Str)) (w : World) (e : Ending) (w' : World) : Prop := ∃ v b, e = .returned (.tuple #[v, .bool b]) ∧ Below w.heap.size w w' ∧ ((∃ ws, o = some ws ∧ b = true ∧ CompsAt (fun k => w.heap.size ≤ k ∧ k < w'.heap.size) w' v ws) ∨ (o = none ∧ b = false ∧ v = .slice none 0 0))
theorem wordsQ_no {o : Option (List Str)} {w w' : World} (h : o = none) (hb : Below w.heap.size w w') : WordsQ o w (.returned (.tuple #[.slice none 0 0, .bool false])) w' := ⟨_, _, rfl, hb, .inr ⟨h, rfl, rfl⟩⟩
theorem wordsL_snoc {es : List (List Str)} {ws : List Str} {x : Str} (h : wordsL es = some ws) : wordsL (es ++ [[x]]) = some (ws ++ [x]) := by
  induction es generalizing ws with
  | nil => cases h; rfl
  | cons e es ih =>
    show (match oneW e, wordsL (es ++ [[x]]) with | some v, some l => some (v :: l) | _, _ => none) = _
    have h' : (match oneW e, wordsL es with | some v, some l => some (v :: l) | _, _ => none) = some ws := h
    cases ho : oneW e with
    | none => rw [ho] at h'; cases h'
    | some v =>
      rw [ho] at h'
      cases hl : wordsL es with
      | none => rw [hl] at h'; cases h'
      | some l =>
        rw [hl] at h'
        cases h'
        rw [ih hl]; rfl
theorem wordsL_bad {es : List (List Str)} {i : Nat} {e : List Str} (hi : es[i]? = some e) (he : e.length ≠ 1) : wordsL es = none := by
  induction es generalizing i with
  | nil => simp at hi
  | cons a es ih =>
    show (match oneW a, wordsL es with | some v, some l => some (v :: l) | _, _ => none) = _
    cases i with
    | zero =>
      have : a = e := by simpa using hi
      subst this
      have : oneW a = none := by
        match a, he with
        | [], _ => rfl
        | [x], he => simp at he
        | _ :: _ :: _, _ => rfl
      rw [this]
    | succ i =>
      rw [ih (i := i) (by simpa using hi)]
      cases oneW a <;> rfl
set_option maxRecDepth 100000 in
set_option maxHeartbeats 8000000 in
theorem words_any {S : Nat → Prop} (l : List Seg) (v : Value) (w : World) (h : SegsAt S w v l) (hS : ∀ k, S k → k < w.heap.size) (at_ n : Nat) (t : Str) (st : ByteArray) (hst : (⟨t.toArray⟩ : ByteArray) = st) (hat62 : at_ < 4611686018427387904) (hn62 : n ≤ 1048576) :
    Calls Tryz.prog 52 #[v, .int .i64 (at_ : Int), .string st, .int .i64 (n : Int)] w fun e w' => WordsQ ((l[at_]?).bind fun s => wordsS s t n) w e w' := by
  obtain ⟨ao, cap, rfl, hcap, hcm⟩ := h.form
  unfold maxLen at hcm
  obtain ⟨m, hm⟩ : ∃ m, l.length = m := ⟨_, rfl⟩
  have HM := Lib.hid hm
  have H := Lib.hid h
  have HS := Lib.hid hS
  have HST := Lib.hid hst
  rw [hm] at hcap H ⊢
  clear h hS hst hm
  by_cases hat : at_ < m
  · obtain ⟨s, hs⟩ : ∃ s, l[at_]? = some s := ⟨_, List.getElem?_eq_getElem (by rw [HM.out]; exact hat)⟩
    obtain ⟨b, off, x, rfl, hSb, c0, c1, he⟩ := H.out.get hs
    obtain ⟨eo, ecap, rfl, hec, hecm⟩ := he.form
    unfold maxLen at hecm
    rw [hs]
    simp only [Option.bind_some]
    have i1 : decide (m ≤ at_) = false := by rw [decide_eq_false_iff_not]; omega
    have i2 : (at_ : Int) < (m : Int) := by omega
    have i3 : (0 : Int) ≤ (at_ : Int) := by omega
    obtain ⟨sg, hsg⟩ : ∃ sg : ByteArray, (⟨s.tag.toArray⟩ : ByteArray) = sg := ⟨_, rfl⟩
    unfold sv at c0
    rw [hsg] at c0
    by_cases htag : s.tag = t
    · have hsame : sg = st := by rw [← hsg, htag, HST.out]
      subst hsame
      have t1 := str_same sg
      by_cases hn : s.elems.length = n
      · have HN := Lib.hid hn
        rw [hn] at c1 he hec
        have n1 : ((n : Int) != (n : Int)) = false := by simp
        have HE := Lib.hid he
        have HW := Lib.hid (show wordsS s t n = wordsL s.elems by unfold wordsS; rw [if_pos ⟨htag, HN.out⟩])
        obtain ⟨B, hB⟩ : ∃ B, w.heap.size = B := ⟨_, rfl⟩
        have HBQ := Lib.hid hB
        obtain ⟨i0, hi, hz0, hz1, hz2⟩ := info_parts einfo_str
        have HI := Lib.hid hi
        have HZ0 := Lib.hid hz0
        have HZ1 := Lib.hid hz1
        have HZ2 := Lib.hid hz2
        have HSb := Lib.hid hSb
        have hbB : b < w.heap.size := HS.out _ hSb
        clear he hn hs hsg hB hi hz0 hz1 hz2 hSb H
        go_enter Tryz.func52, Tryz.ntmps52
        go_wp2_with fail
        go_loopw [10, 42] (fun ov i wx => ∃ (k : Nat) (ws : List Str), k ≤ n ∧ i = .int .i64 (k : Int) ∧ Hid (wordsL (s.elems.take k) = some ws ∧ ws.length = k ∧ wx.ownsRow B 9 1 ov k (ws.map sv)) ∧ Hid (Below B w wx)) (fun _ i _ => n - (intOf i).toNat)
        case atStart => exact ⟨0, [], by omega, rfl, Lib.hid ⟨rfl, rfl, World.ownsRow_nil _ _ _ _⟩, Lib.hid (Below.refl _ _)⟩
        case round =>
          obtain ⟨k, ws, hk, rfl, HR, HB⟩ := hrel
          by_cases hlt : k < n
          · skip
            obtain ⟨e, hek⟩ : ∃ e, s.elems[k]? = some e := ⟨_, List.getElem?_eq_getElem (by rw [HN.out]; exact hlt)⟩
            obtain ⟨eb, eoff, ev, rfl, hSeb, ce, hce⟩ := HE.out.get hek
            obtain ⟨fo, fcap, rfl, hfc, hfcm⟩ := hce.form
            unfold maxLen at hfcm
            have ce' := (HB.out.cell (p := ⟨eb, eoff + k, none⟩) (by show eb < B; rw [← HBQ.out]; exact HS.out _ hSeb)).trans ce
            have a1 : (k : Int) < (n : Int) := by omega
            have a2 : (0 : Int) ≤ (k : Int) := by omega
            by_cases h1 : e.length = 1
            · obtain ⟨y, rfl⟩ := List.length_eq_one_iff.1 h1
              obtain ⟨gb, goff, rfl, hSgb, cg⟩ := hce.get (k := 0) (p := y) rfl
              have cg' := (HB.out.cell (p := ⟨gb, goff + 0, none⟩) (by show gb < B; rw [← HBQ.out]; exact HS.out _ hSgb)).trans cg
              rw [Nat.add_zero] at cg'
              simp only [List.length_cons, List.length_nil, Nat.zero_add] at ce' hfc
              obtain ⟨va, vc, rfl⟩ := own_slice HR.out.2.2
              obtain ⟨sy, hsy⟩ : ∃ sy : ByteArray, (⟨y.toArray⟩ : ByteArray) = sy := ⟨_, rfl⟩
              unfold sv at cg'
              rw [hsy] at cg'
              have HSY := Lib.hid hsy
              have HEK := Lib.hid hek
              have hws := HR.out.2.1
              clear hsy hek ce cg hce h1
              have hrow : (wr.alloc (.cells #[.string sy] 9)).ownsRow B 9 1 (.slice va k vc) k (ws.map sv) := HR.out.2.2.alloc _
              have HRW := Lib.hid hrow
              have HLW := Lib.hid hws
              clear hrow hws
              go_wp2_with ((with_reducible refine wpList_at (.call { callee := .builtin .append, args := #[.tmp 49, .tmp 53], argTypes := #[58, 58] }) rfl ?_); go_loud (refine wpList_append_own_at _ rfl _ _ 58 rfl B 9 i0 (.string ⟨#[]⟩) 1 16 Tryz.underlying58 HI.out HZ0.out HZ1.out HZ2.out rfl (by decide) _ _ _ rfl HRW.out ⟨wr.heap.size, 0, none⟩ 1 1 [.string sy] rfl rfl (cell_one_new _ _ _) (by simp [Value.oneCell']) (by unfold maxLen; omega) (by omega) (by have := HB.out.size; have := HBQ.out; simp; omega) ?_); intro ov' wg hog hgg _ _; obtain ⟨va', vc', rfl⟩ := own_slice hog; have HOG := Lib.hid hog; have HGG := Lib.hid hgg; clear hog hgg)
              go_roundw
              case rel =>
                refine ⟨k + 1, ws ++ [y], by omega, by go_num, Lib.hid ⟨?_, by rw [List.length_append, HLW.out]; rfl, ?_⟩, Lib.hid ?_⟩
                · rw [List.take_add_one, HEK.out]; exact wordsL_snoc HR.out.1
                · rw [List.map_append]
                  have e : [y].map sv = [.string sy] := by rw [← HSY.out]; rfl
                  rw [e]; exact HOG.out
                · have hh := HB.out.size
                  have hq := HBQ.out
                  exact HB.out.trans ((Below.refl B wr).grown (grown_alloc HGG.out) (by omega) (fun b' hb' => (own_lt HRW.out hb').1))
              case measure => simp [intOf]; omega
            · have n2 : ((e.length : Int) != 1) = true := by rw [bne_iff_ne]; omega
              have HQ := Lib.hid (HW.out.trans (wordsL_bad hek h1))
              obtain ⟨el, hel⟩ : ∃ el, e.length = el := ⟨_, rfl⟩
              rw [hel] at ce' n2
              clear hel hek ce hce h1 hfc
              go_wp2_with fail
              go_ret2
              exact wordsQ_no HQ.out (by rw [HBQ.out]; exact HB.out)
          · obtain rfl : k = n := by omega
            have hte : s.elems.take k = s.elems := List.take_of_length_le (Nat.le_of_eq HN.out)
            have HQ := Lib.hid (HW.out.trans (show wordsL s.elems = some ws by rw [← hte]; exact HR.out.1))
            clear hte
            go_wp2_with fail
            go_ret2
            refine ⟨_, _, rfl, by rw [HBQ.out]; exact HB.out, .inl ⟨ws, HQ.out, rfl, ?_⟩⟩
            rw [HBQ.out]
            exact own_rest (by rw [List.length_map, HR.out.2.1]; exact HR.out.2.2) (fun _ hk => own_lt HR.out.2.2 hk)
      · have n1 : ((s.elems.length : Int) != (n : Int)) = true := by rw [bne_iff_ne]; omega
        have HQ := Lib.hid (show wordsS s t n = none by unfold wordsS; rw [if_neg (fun h => hn h.2)])
        obtain ⟨el, hel⟩ : ∃ el, s.elems.length = el := ⟨_, rfl⟩
        rw [hel] at c1 n1
        clear hel hs hsg he hn hec H
        go_enter Tryz.func52, Tryz.ntmps52
        go_wp2_with fail
        go_ret2
        exact wordsQ_no HQ.out (Below.refl _ _)
    · have hne : sg ≠ st := fun e => htag (by
        have h1 : (⟨s.tag.toArray⟩ : ByteArray) = ⟨t.toArray⟩ := by rw [hsg, e, HST.out]
        have h2 := congrArg (fun x => x.data.toList) h1
        simpa using h2)
      have t1 := str_ne hne
      have HQ := Lib.hid (show wordsS s t n = none by unfold wordsS; rw [if_neg (fun h => htag h.1)])
      clear hs hsg he htag c1 hec H hne
      go_enter Tryz.func52, Tryz.ntmps52
      go_wp2_with fail
      go_ret2
      exact wordsQ_no HQ.out (Below.refl _ _)
  · have hnone : l[at_]? = none := List.getElem?_eq_none (by rw [HM.out]; omega)
    rw [hnone]
    have i1 : decide (m ≤ at_) = true := by rw [decide_eq_true_eq]; omega
    clear hnone H
    go_enter Tryz.func52, Tryz.ntmps52
    go_wp2_with fail
    go_ret2
    exact wordsQ_no rfl (Below.refl _ _)
end Go.Proofs.YtgfijlamhjjecaaGreatDoor

