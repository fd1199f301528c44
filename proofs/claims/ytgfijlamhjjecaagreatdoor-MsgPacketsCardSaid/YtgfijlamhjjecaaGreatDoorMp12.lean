/-
  Texts MsgV2, MsgQ4, WrapR, WrapM, MsgQ6, NumX, NumD, MsgRA, one behind the other. No condition beyond those stated in each.
-/
import Derived.Test.YtgfijlamhjjecaaGreatDoorMp9
import Derived.Test.YtgfijlamhjjecaaGreatDoorMp11
import Derived.Test.YtgfijlamhjjecaaGreatDoorMp8
import Derived.Test.YtgfijlamhjjecaaGreatDoorMp6
import Derived.Great.BuildSlice
/-
  MsgV2: contracts of May of tickets, of Coupon. No condition beyond those stated.
-/
namespace Go.Proofs.YtgfijlamhjjecaaGreatDoor
open Go.RowKit
set_option maxHeartbeats 1000000 in
theorem r7May_any (c s : Nat) (w : World) : Calls Tryz.prog 89 #[.agg #[.int .u8 (c : Int), .int .u64 (s : Int)]] w fun e w' => e = .returned (.bool (mayT c s)) ∧ Below w.heap.size w w' := by
  unfold mayT
  by_cases h1 : c < 8
  · by_cases h2 : 0 < s
    · by_cases h3 : s ≤ 9999999999
      · have i1 : ((c : Int) < 8) := by omega
        have i2 : ((s : Int) > 0) := by omega
        have i3 : ((s : Int) ≤ 9999999999) := by omega
        have e : (decide (c < 8) && decide (0 < s) && decide (s ≤ 9999999999)) = true := by simp [h1, h2, h3]
        rw [e]
        go_enter Tryz.func89, Tryz.ntmps89
        go_wp2_with fail
        go_ret
        exact ⟨rfl, (Below.refl _ w).alloc (Nat.le_refl _) _⟩
      · have i1 : ((c : Int) < 8) := by omega
        have i2 : ((s : Int) > 0) := by omega
        have i3 : ¬ ((s : Int) ≤ 9999999999) := by omega
        have e : (decide (c < 8) && decide (0 < s) && decide (s ≤ 9999999999)) = false := by simp [h1, h2, h3]
        rw [e]
        go_enter Tryz.func89, Tryz.ntmps89
        go_wp2_with fail
        go_ret
        exact ⟨rfl, (Below.refl _ w).alloc (Nat.le_refl _) _⟩
    · have i1 : ((c : Int) < 8) := by omega
      have i2 : ¬ ((s : Int) > 0) := by omega
      have e : (decide (c < 8) && decide (0 < s) && decide (s ≤ 9999999999)) = false := by simp [h1, h2]
      rw [e]
      go_enter Tryz.func89, Tryz.ntmps89
      go_wp2_with fail
      go_ret
      exact ⟨rfl, (Below.refl _ w).alloc (Nat.le_refl _) _⟩
  · have i1 : ¬ ((c : Int) < 8) := by omega
    have e : (decide (c < 8) && decide (0 < s) && decide (s ≤ 9999999999)) = false := by simp [h1]
    rw [e]
    go_enter Tryz.func89, Tryz.ntmps89
    go_wp2_with fail
    go_ret
    exact ⟨rfl, (Below.refl _ w).alloc (Nat.le_refl _) _⟩
end Go.Proofs.YtgfijlamhjjecaaGreatDoor


/-
  MsgQ4: contract of may. No condition beyond those stated.
-/
namespace Go.Proofs.YtgfijlamhjjecaaGreatDoor
open Go.RowKit
def MayQ (b : Bool) (w : World) (e : Ending) (w' : World) : Prop := e = .returned (.bool b) ∧ Below w.heap.size w w'
theorem MayQ.of {b b' : Bool} {w w' : World} (h : b' = b) (hb : Below w.heap.size w w') : MayQ b w (.returned (.bool b')) w' := ⟨by rw [h], hb⟩
end Go.Proofs.YtgfijlamhjjecaaGreatDoor


/-
  WrapR: contract of wrap.Print. No condition beyond those stated.
-/
namespace Go.Proofs.YtgfijlamhjjecaaGreatDoor
open Go.RowKit
theorem segs_one {S : Nat → Prop} {w : World} {t : Str} {st : ByteArray} {es : List (List Str)} {ev : Value} (hst : (⟨t.toArray⟩ : ByteArray) = st) (he : ElemsAt S w ev es) (hS : ∀ k, S k → k < w.heap.size) :
    SegsAt (fun k => S k ∨ k = w.heap.size) (w.alloc (.cells #[.string st, ev] 94)) (.slice (some ⟨w.heap.size, 0, none⟩) 1 1) [⟨t, es⟩] := by
  refine ⟨some ⟨w.heap.size, 0, none⟩, 1, [ev], rfl, by simp, by decide, (fun e => by cases e), rfl, fun i s x h1 h2 => ?_, fun _ => ⟨w.heap.size, 0, rfl, .inr rfl, fun i s x h1 h2 => ?_⟩⟩
  · match i, h1, h2 with
    | 0, h1, h2 => simp at h1 h2; subst h1; subst h2; exact he.cong (fun k hk => .inl hk) (fun k hk => Below.heap_alloc _ _ _ (hS k hk))
    | i + 1, h1, _ => simp at h1
  · match i, h1, h2 with
    | 0, h1, h2 =>
      simp at h1 h2; subst h1; subst h2
      have hc := heap_alloc_new w (.cells #[.string st, ev] 94)
      exact ⟨by unfold sv; rw [hst]; exact cell_of_row _ _ 0 _ _ _ hc, cell_of_row _ _ 1 _ _ _ hc⟩
    | i + 1, h1, _ => simp at h1
theorem wrapT_len (a b c d f : Nat) (m : List Seg) (ha : a < 18446744073709551616) (hb : b < 18446744073709551616) (hc : c < 18446744073709551616) (hd : d < 18446744073709551616) (hf : f < 18446744073709551616) : (printT (wrapL a b c d f m)).length ≤ (printT m).length + 200 := by
  rw [roundT_eq]
  have h1 := dec_len20 ha
  have h2 := dec_len20 hb
  have h3 := dec_len20 hc
  have h4 := dec_len20 hd
  have h5 := dec_len20 hf
  unfold roundT unb unz
  simp only [List.length_append, List.length_cons, List.length_nil]
  omega
def WPrintQ (x : WD) (w : World) (e : Ending) (w' : World) : Prop := e = .returned (.tuple #[sv (wrapPrintE x).1, .int .i64 (wrapPrintE x).2]) ∧ Below w.heap.size w w'
set_option maxRecDepth 100000 in
set_option maxHeartbeats 8000000 in
theorem wPrint_any {S : Nat → Prop} (x : WD) (v : Value) (w : World) (hv : VarsOk w) (h1 : x.fr < 256) (h2 : x.dst < 256) (h3 : x.rf < 18446744073709551616) (hs : SegsAt S w v x.segs) (hS : ∀ k, S k → k < w.heap.size) (hP : x.segs.length ≤ 62 → (printT x.segs).length ≤ 1000000) :
    Calls Tryz.prog 58 #[wv x v] w fun e w' => WPrintQ x w e w' := by
  obtain ⟨fr, dst, rf, m⟩ := x
  simp only at h1 h2 h3 hs hP
  obtain ⟨B, hB⟩ : ∃ B, w.heap.size = B := ⟨_, rfl⟩
  have HBQ := Lib.hid hB
  have HS := Lib.hid hS
  have HV := Lib.hid hv
  have HSG := Lib.hid hs
  have HPL := Lib.hid hP
  obtain ⟨ao, cap, rfl, c1, c2⟩ := hs.form
  obtain ⟨n, hn⟩ : ∃ n, m.length = n := ⟨_, rfl⟩
  have HN := Lib.hid hn
  rw [hn] at c1 HSG ⊢
  unfold maxLen at c2
  unfold WPrintQ
  rw [hB]
  obtain ⟨w1, hw1⟩ : ∃ w1, w.alloc (.cells #[.int .u8 (fr : Int), .int .u8 (dst : Int), .int .u64 (rf : Int), .slice ao n cap] 41) = w1 := ⟨_, rfl⟩
  have hz1 : w1.heap.size = B + 1 := by rw [← hw1]; simp [hB]
  have HB1 : Hid (Below B w w1) := Lib.hid (by rw [← hw1, ← hB]; exact (Below.refl _ _).alloc (Nat.le_refl _) _)
  have hr1 : w1.heap[B]? = some (.cells #[.int .u8 (fr : Int), .int .u8 (dst : Int), .int .u64 (rf : Int), .slice ao n cap] 41 (0, 0)) := by rw [← hw1, ← hB]; exact heap_alloc_new _ _
  have HR1 := Lib.hid hr1
  obtain ⟨⟨d0, d1, d2, d3⟩, _⟩ := cells4 hr1
  have HZ1 := Lib.hid hz1
  have HW1 := Lib.hid hw1
  have wr1 : IntKind.u64.wrap (fr : Int) = (fr : Int) := by rw [IntKind.wrap_u64]; omega
  have wr2 : IntKind.u64.wrap (dst : Int) = (dst : Int) := by rw [IntKind.wrap_u64]; omega
  clear hB hs hS hv hP hn hz1 hw1 hr1
  by_cases g1 : 8 ≤ fr
  · skip
    have i1 : decide ((8 : Int) ≤ (fr : Int)) = true := by rw [decide_eq_true_eq]; omega
    have hE : wrapPrintE ⟨fr, dst, rf, m⟩ = ([], 1) := by unfold wrapPrintE; rw [if_pos (.inl g1)]
    have HE := Lib.hid hE
    clear hE
    unfold wv
    go_enter Tryz.func58, Tryz.ntmps58
    go_upto_region 1 with fail
    rw [HW1.out, HBQ.out]
    go_wp2_with fail
    go_ret2
    rw [HE.out]
    exact ⟨rfl, HB1.out⟩
  have i1 : decide ((8 : Int) ≤ (fr : Int)) = false := by rw [decide_eq_false_iff_not]; omega
  by_cases g2 : 8 ≤ dst
  · skip
    have i2 : decide ((8 : Int) ≤ (dst : Int)) = true := by rw [decide_eq_true_eq]; omega
    have hE : wrapPrintE ⟨fr, dst, rf, m⟩ = ([], 1) := by unfold wrapPrintE; rw [if_pos (.inr g2)]
    have HE := Lib.hid hE
    clear hE
    unfold wv
    go_enter Tryz.func58, Tryz.ntmps58
    go_upto_region 1 with fail
    rw [HW1.out, HBQ.out]
    go_wp2_with fail
    go_ret2
    rw [HE.out]
    exact ⟨rfl, HB1.out⟩
  have i2 : decide ((8 : Int) ≤ (dst : Int)) = false := by rw [decide_eq_false_iff_not]; omega
  by_cases g3 : 62 < n
  · skip
    have i3 : decide ((62 : Int) < (n : Int)) = true := by rw [decide_eq_true_eq]; omega
    have hE : wrapPrintE ⟨fr, dst, rf, m⟩ = ([], 2) := by unfold wrapPrintE; rw [if_neg (by simp only; omega), if_pos (by simp only; rw [HN.out]; exact g3)]
    have HE := Lib.hid hE
    clear hE
    unfold wv
    go_enter Tryz.func58, Tryz.ntmps58
    go_upto_region 1 with fail
    rw [HW1.out, HBQ.out]
    go_wp2_with fail
    go_ret2
    rw [HE.out]
    exact ⟨rfl, HB1.out⟩
  · skip
    have i3 : decide ((62 : Int) < (n : Int)) = false := by rw [decide_eq_false_iff_not]; omega
    have hE : wrapPrintE ⟨fr, dst, rf, m⟩ = printE (wrapL fr dst rf n rf m) := by unfold wrapPrintE; rw [if_neg (by simp only; omega), if_neg (by simp only; rw [HN.out]; exact g3), HN.out]
    have HE := Lib.hid hE
    have HT := Lib.hid (show (printT (wrapL fr dst rf n rf m)).length ≤ 1048576 by
      have e1 := wrapT_len fr dst rf n rf m (by omega) (by omega) h3 (by omega) h3
      have e2 := HPL.out (by rw [HN.out]; omega)
      omega)
    have wr3 : IntKind.u64.wrap (n : Int) = (n : Int) := by rw [IntKind.wrap_u64]; omega
    obtain ⟨w2, hw2⟩ : ∃ w2, w1.alloc (.cells #[.int .u64 (fr : Int), .int .u64 (dst : Int), .int .u64 (rf : Int)] 22) = w2 := ⟨_, rfl⟩
    have hz2 : w2.heap.size = B + 2 := by rw [← hw2]; simp [HZ1.out]
    have HB2 : Hid (Below (B + 1) w1 w2) := Lib.hid (by rw [← hw2, ← HZ1.out]; exact (Below.refl _ _).alloc (Nat.le_refl _) _)
    have hr2 : w2.heap[B + 1]? = some (.cells #[.int .u64 (fr : Int), .int .u64 (dst : Int), .int .u64 (rf : Int)] 22 (0, 0)) := by rw [← hw2, ← HZ1.out]; exact heap_alloc_new _ _
    have hv2 : VarsOk w2 := (HV.out.on HB1.out (by rw [HBQ.out]; exact Nat.le_refl _)).on HB2.out (by rw [HZ1.out]; exact Nat.le_refl _)
    have HSEG1 := Lib.hid (segment_any ⟨#[85, 78, 66]⟩ [fr, dst, rf] (B + 1) 0 3 w2 hv2 (by simp) (by simp; omega) (by simp) (by decide) (fun i u hu => by
      match i, hu with
      | 0, hu => simp at hu; subst hu; exact cell_of_row w2 (B + 1) 0 _ _ _ hr2
      | 1, hu => simp at hu; subst hu; exact cell_of_row w2 (B + 1) 1 _ _ _ hr2
      | 2, hu => simp at hu; subst hu; exact cell_of_row w2 (B + 1) 2 _ _ _ hr2
      | i + 3, hu => simp at hu))
    have HV2 := Lib.hid hv2
    have HZ2 := Lib.hid hz2
    have HW2 := Lib.hid hw2
    clear hE hw2 hz2 hr2 hv2
    unfold wv
    go_enter Tryz.func58, Tryz.ntmps58
    go_upto_region 1 with fail
    rw [HW1.out, HBQ.out]
    go_upto_region 6 with (go_at_call 96; rw [HW2.out, HZ1.out]; refine HSEG1.out.mono ?_; rintro e w3 ⟨ev1, rfl, he1, hb3⟩; rw [HZ2.out] at he1 hb3; have HEV1 := Lib.hid he1; have HB3 := Lib.hid hb3; clear he1 hb3)
    have hz3 := HB3.out.size
    rw [HZ2.out] at hz3
    obtain ⟨D, hD⟩ : ∃ D, w3.heap.size = D := ⟨_, rfl⟩
    obtain ⟨w4, hw4⟩ : ∃ w4, w3.alloc (.cells #[.string ⟨#[85, 78, 66]⟩, ev1] 94) = w4 := ⟨_, rfl⟩
    have HOG : Hid (OG (B + 2) w4 (.slice (some ⟨D, 0, none⟩) 1 1) [ev1] [⟨unb, nums [fr, dst, rf]⟩]) := Lib.hid (by
      rw [← hw4, ← hD]
      exact OG.one rfl (by omega) (HEV1.out.cong (fun k hk => hk.2) (fun _ _ => rfl)))
    have HB4 : Hid (Below (B + 2) w2 w4) := Lib.hid (by rw [← hw4]; exact HB3.out.trans ((Below.refl _ _).alloc (by omega) _))
    have HB5 : Hid (Below B w w4) := Lib.hid ((HB1.out.trans (HB2.out.mono (by omega))).trans (HB4.out.mono (by omega)))
    have hbx := (HB4.out.block B (by omega)).trans ((HB2.out.block B (by omega)).trans HR1.out)
    have HBX := Lib.hid hbx
    have hz4 : w4.heap.size = D + 1 := by rw [← hw4, ← hD]; simp
    have HZ4 := Lib.hid hz4
    obtain ⟨⟨d0, d1, d2, d3⟩, _⟩ := cells4 hbx
    have HSG4 : Hid (SegsAt S w4 (.slice ao n cap) m) := Lib.hid (HSG.out.cong (fun _ hk => hk) (fun k hk => HB5.out.block k (by rw [← HBQ.out]; exact HS.out k hk)))
    have HSD : Hid (∀ k, S k → k < D ∧ k ≠ D) := Lib.hid (fun k hk => by have h1 := HS.out k hk; rw [HBQ.out] at h1; omega)
    have HW4 := Lib.hid hw4
    have HDD := Lib.hid hD
    rw [hD] at hz3
    clear hw4 hD hbx hz4
    rw [HW4.out, HDD.out]
    go_upto_region 7 with ((with_reducible refine wpList_at (.call { callee := .builtin .append, args := #[.tmp 30, .tmp 32], argTypes := #[39, 39] }) rfl ?_); go_loud (refine wp_app_og _ _ rfl rfl rfl rfl HOG.out HSG4.out (fun k hk => ⟨by rw [HZ4.out]; have := HSD.out k hk; omega, fun e => by cases e; exact (HSD.out _ hk).2 rfl⟩) (by rw [HN.out]; simp; omega) (by rw [HZ4.out]; omega) ?_); intro v5 w5 xs5 ho5 hb5; have HO5 := Lib.hid ho5; have HB6 := Lib.hid hb5; clear ho5 hb5)
    have hz5 := HB6.out.size
    rw [HZ4.out] at hz5
    have hbx5 := (HB6.out.block B (by omega)).trans HBX.out
    obtain ⟨⟨q0, q1, q2, q3⟩, _⟩ := cells4 hbx5
    obtain ⟨E, hE5⟩ : ∃ E, w5.heap.size = E := ⟨_, rfl⟩
    obtain ⟨w6, hw6⟩ : ∃ w6, w5.alloc (.cells #[.int .u64 (n : Int), .int .u64 (rf : Int)] 22) = w6 := ⟨_, rfl⟩
    have hz6 : w6.heap.size = E + 1 := by rw [← hw6]; simp [hE5]
    have hr6 : w6.heap[E]? = some (.cells #[.int .u64 (n : Int), .int .u64 (rf : Int)] 22 (0, 0)) := by rw [← hw6, ← hE5]; exact heap_alloc_new _ _
    have HB7 : Hid (Below E w5 w6) := Lib.hid (by rw [← hw6, ← hE5]; exact (Below.refl _ _).alloc (Nat.le_refl _) _)
    have HB8 : Hid (Below B w w6) := Lib.hid ((HB5.out.trans (HB6.out.mono (by omega))).trans (HB7.out.mono (by rw [← hE5]; omega)))
    have hv6 : VarsOk w6 := HV.out.on HB8.out (by rw [HBQ.out]; exact Nat.le_refl _)
    have HSEG2 := Lib.hid (segment_any ⟨#[85, 78, 90]⟩ [n, rf] E 0 2 w6 hv6 (by simp) (by simp; omega) (by simp) (by decide) (fun i u hu => by
      match i, hu with
      | 0, hu => simp at hu; subst hu; exact cell_of_row w6 E 0 _ _ _ hr6
      | 1, hu => simp at hu; subst hu; exact cell_of_row w6 E 1 _ _ _ hr6
      | i + 2, hu => simp at hu))
    have HZ6 := Lib.hid hz6
    have HW6 := Lib.hid hw6
    have HE5 := Lib.hid hE5
    rw [hE5] at hz5
    obtain ⟨sa, sc, rfl⟩ := own_slice HO5.out.row
    clear hw6 hz6 hr6 hv6 hE5 d0 d1 d2 d3 hbx5
    go_wp2_with (first
      | (go_at_call 96; rw [HW6.out, HE5.out]; refine HSEG2.out.mono ?_; rintro e w7 ⟨ev2, rfl, he2, hb7⟩; rw [HZ6.out] at he2 hb7; have HEV2 := Lib.hid he2; have HB9 := Lib.hid hb7; clear he2 hb7;
          have hz7 := HB9.out.size; rw [HZ6.out] at hz7;
          have HSG7 : Hid (SegsAt (fun k => (E ≤ k ∧ k < w7.heap.size) ∨ k = w7.heap.size) (w7.alloc (.cells #[.string ⟨#[85, 78, 90]⟩, ev2] 94)) (.slice (some ⟨w7.heap.size, 0, none⟩) 1 1) [⟨unz, nums [n, rf]⟩]) := Lib.hid (segs_one rfl (HEV2.out.cong (fun k hk => ⟨by omega, hk.2⟩) (fun _ _ => rfl)) (fun k hk => hk.2));
          have HB10 : Hid (Below E w5 (w7.alloc (.cells #[.string ⟨#[85, 78, 90]⟩, ev2] 94))) := Lib.hid ((HB7.out.trans (HB9.out.mono (by omega))).trans ((Below.refl _ _).alloc (by omega) _));
          have HO7 : Hid (OG (B + 2) (w7.alloc (.cells #[.string ⟨#[85, 78, 90]⟩, ev2] 94)) (.slice sa ([⟨unb, nums [fr, dst, rf]⟩] ++ m : List Seg).length sc) xs5 ([⟨unb, nums [fr, dst, rf]⟩] ++ m)) := Lib.hid (HO5.out.below (by rw [HE5.out]; exact HB10.out)))
      | ((with_reducible refine wpList_at (.call { callee := .builtin .append, args := #[.tmp 34, .tmp 43], argTypes := #[39, 39] }) rfl ?_); go_loud (refine wp_app_og _ _ rfl rfl rfl rfl HO7.out HSG7.out (fun k hk => ⟨by simp; omega, fun e => by have h1 := (own_lt HO5.out.row e).2; rw [HE5.out] at h1; rcases hk with hk | hk <;> omega⟩) (by simp [HN.out]; omega) (by simp; omega) ?_); intro v8 w8 xs8 ho8 hb8; have HO8 := Lib.hid ho8; have HB11 := Lib.hid hb8; clear ho8 hb8)
      | (go_at_call 97; refine (print_any w8 v8 _ (HO8.out.rest) HT.out).mono ?_; rintro e w9 ⟨rfl, hb9⟩; have HB12 := Lib.hid hb9; clear hb9))
    go_ret2
    rw [HE.out]
    have hz8 := HB11.out.size
    simp only [World.size_alloc] at hz8
    exact ⟨rfl, (((HB5.out.trans (HB6.out.mono (by omega))).trans (HB10.out.mono (by omega))).trans (HB11.out.mono (by omega))).trans (HB12.out.mono (by omega))⟩
end Go.Proofs.YtgfijlamhjjecaaGreatDoor


/-
  WrapM: contract of the reference's Same: two interchanges. No condition beyond those stated.
-/
namespace Go.Proofs.YtgfijlamhjjecaaGreatDoor
open Go.RowKit
def wsameB (a b : WD) : Bool := decide (a.fr = b.fr) && (decide (a.dst = b.dst) && (decide (a.rf = b.rf) && sameB a.segs b.segs))
theorem wsame_iff {a b : WD} : wsameB a b = true ↔ a = b := by
  obtain ⟨a1, a2, a3, a4⟩ := a
  obtain ⟨b1, b2, b3, b4⟩ := b
  unfold wsameB sameB
  simp
def WSameQ (b : Bool) (w : World) (e : Ending) (w' : World) : Prop := e = .returned (.bool b) ∧ Below w.heap.size w w'
theorem WSameQ.no {a b : WD} {w w' : World} (h : a ≠ b) (hb : Below w.heap.size w w') : WSameQ (wsameB a b) w (.returned (.bool false)) w' :=
  ⟨ret_bool (by cases hc : wsameB a b with
    | true => exact absurd (wsame_iff.1 hc) h
    | false => rfl), hb⟩
set_option maxRecDepth 100000 in
set_option maxHeartbeats 4000000 in
theorem wsame_any {S T : Nat → Prop} (a b : WD) (v v' : Value) (w : World) (h : SegsAt S w v a.segs) (h' : SegsAt T w v' b.segs) (hS : ∀ k, S k → k < w.heap.size) (hT : ∀ k, T k → k < w.heap.size) :
    Calls Tryz.prog 15 #[wv a v, wv b v'] w fun e w' => WSameQ (wsameB a b) w e w' := by
  obtain ⟨w1, hw1⟩ : ∃ w1, w.alloc (.cells #[.int .u8 (a.fr : Int), .int .u8 (a.dst : Int), .int .u64 (a.rf : Int), v] 41) = w1 := ⟨_, rfl⟩
  obtain ⟨w2, hw2⟩ : ∃ w2, w1.alloc (.cells #[.int .u8 (b.fr : Int), .int .u8 (b.dst : Int), .int .u64 (b.rf : Int), v'] 41) = w2 := ⟨_, rfl⟩
  obtain ⟨B, hB⟩ : ∃ B, w.heap.size = B := ⟨_, rfl⟩
  have hz1 : w1.heap.size = B + 1 := by rw [← hw1]; simp [hB]
  have HB1 : Hid (Below B w w1) := Lib.hid (by rw [← hw1, ← hB]; exact (Below.refl _ _).alloc (Nat.le_refl _) _)
  have HB2 : Hid (Below (B + 1) w1 w2) := Lib.hid (by rw [← hw2, ← hz1]; exact (Below.refl _ _).alloc (Nat.le_refl _) _)
  have hr1 : w2.heap[B]? = some (.cells #[.int .u8 (a.fr : Int), .int .u8 (a.dst : Int), .int .u64 (a.rf : Int), v] 41 (0, 0)) := (HB2.out.block B (by omega)).trans (by rw [← hw1, ← hB]; exact heap_alloc_new _ _)
  have hr2 : w2.heap[B + 1]? = some (.cells #[.int .u8 (b.fr : Int), .int .u8 (b.dst : Int), .int .u64 (b.rf : Int), v'] 41 (0, 0)) := by rw [← hw2, ← hz1]; exact heap_alloc_new _ _
  have HBB : Hid (Below B w w2) := Lib.hid (HB1.out.trans (HB2.out.mono (by omega)))
  have HSM := Lib.hid (same_any w2 (h.cong (fun _ hk => hk) (fun k hk => HBB.out.block k (by rw [← hB]; exact hS k hk))) (h'.cong (fun _ hk => hk) (fun k hk => HBB.out.block k (by rw [← hB]; exact hT k hk))))
  obtain ⟨⟨c0, c1, c2, c3⟩, _⟩ := cells4 hr1
  obtain ⟨⟨g0, g1, g2, g3⟩, _⟩ := cells4 hr2
  obtain ⟨ao, cap, rfl, _, _⟩ := h.form
  obtain ⟨ao', cap', rfl, _, _⟩ := h'.form
  have HBQ := Lib.hid hB
  have HW1 := Lib.hid hw1
  have HW2 := Lib.hid hw2
  have HZ1 := Lib.hid hz1
  have HZ2 : Hid (w2.heap.size = B + 2) := Lib.hid (by rw [← hw2]; simp [hz1])
  clear hB hw1 hw2 hz1 hr1 hr2 h h' hS hT
  unfold wv
  obtain ⟨R, hR⟩ : ∃ R, wsameB a b = R := ⟨_, rfl⟩
  have HR := Lib.hid hR
  have HNO : Hid (∀ w', a ≠ b → Below B w w' → WSameQ R w (.returned (.bool false)) w') := Lib.hid (fun w' h1 h2 => by rw [← hR]; exact WSameQ.no h1 (by rw [HBQ.out]; exact h2))
  rw [hR]
  clear hR
  by_cases e0 : a.fr = b.fr
  · by_cases e1 : a.dst = b.dst
    · by_cases e2 : a.rf = b.rf
      · have i0 : ((a.fr : Int) == (b.fr : Int)) = true := by rw [beq_iff_eq]; omega
        have i1 : ((a.dst : Int) == (b.dst : Int)) = true := by rw [beq_iff_eq]; omega
        have i2 : ((a.rf : Int) == (b.rf : Int)) = true := by rw [beq_iff_eq]; omega
        have HE : Hid (R = sameB a.segs b.segs) := Lib.hid (by rw [← HR.out]; unfold wsameB; rw [decide_eq_true e0, decide_eq_true e1, decide_eq_true e2]; rfl)
        clear e0 e1 e2
        go_enter Tryz.func15, Tryz.ntmps15
        go_upto_region 1 with fail
        rw [HW1.out, HW2.out, HBQ.out]
        go_wp2_with (go_at_call 51; refine HSM.out.mono ?_; rintro e w3 ⟨rfl, hd⟩; have HD := Lib.hid hd; clear hd)
        go_ret
        exact ⟨ret_bool HE.out.symm, by rw [HBQ.out]; exact HBB.out.trans (HD.out.below B)⟩
      · have i0 : ((a.fr : Int) == (b.fr : Int)) = true := by rw [beq_iff_eq]; omega
        have i1 : ((a.dst : Int) == (b.dst : Int)) = true := by rw [beq_iff_eq]; omega
        have i2 : ((a.rf : Int) == (b.rf : Int)) = false := by rw [beq_eq_false_iff_ne]; omega
        have hne : a ≠ b := fun e => e2 (by rw [e])
        clear e0 e1 e2
        go_enter Tryz.func15, Tryz.ntmps15
        go_upto_region 1 with fail
        rw [HW1.out, HW2.out, HBQ.out]
        go_wp2_with fail
        go_ret
        exact HNO.out _ hne HBB.out
    · have i0 : ((a.fr : Int) == (b.fr : Int)) = true := by rw [beq_iff_eq]; omega
      have i1 : ((a.dst : Int) == (b.dst : Int)) = false := by rw [beq_eq_false_iff_ne]; omega
      have hne : a ≠ b := fun e => e1 (by rw [e])
      clear e0 e1
      go_enter Tryz.func15, Tryz.ntmps15
      go_upto_region 1 with fail
      rw [HW1.out, HW2.out, HBQ.out]
      go_wp2_with fail
      go_ret
      exact HNO.out _ hne HBB.out
  · have i0 : ((a.fr : Int) == (b.fr : Int)) = false := by rw [beq_eq_false_iff_ne]; omega
    have hne : a ≠ b := fun e => e0 (by rw [e])
    clear e0
    go_enter Tryz.func15, Tryz.ntmps15
    go_upto_region 1 with fail
    rw [HW1.out, HW2.out, HBQ.out]
    go_wp2_with fail
    go_ret
    exact HNO.out _ hne HBB.out
end Go.Proofs.YtgfijlamhjjecaaGreatDoor


/-
  MsgQ6: what the packet laws' walks share with those of the interchanges: bounds of texts, posts at known values. No condition beyond those stated.
-/
namespace Go.Proofs.YtgfijlamhjjecaaGreatDoor
open Go.RowKit
def WTQ (t : Str) (k : Int) (w : World) (e : Ending) (w' : World) : Prop := e = .returned (.tuple #[sv t, .int .i64 k]) ∧ Below w.heap.size w w'
theorem wsameB_self (x : WD) : wsameB x x = true := wsame_iff.2 rfl
theorem int_same (n : Int) : (n == n) = true := by simp
end Go.Proofs.YtgfijlamhjjecaaGreatDoor


/-
  NumX: contracts of left and padded. No condition beyond those stated.
-/
namespace Go.Proofs.YtgfijlamhjjecaaGreatDoor
open Go.RowKit
theorem leftF_app (a b : Str) : ∀ v : Nat, leftF v (a ++ b) = leftF (leftF v a) b := by
  induction a with
  | nil => intro v; rfl
  | cons c a ih => intro v; exact ih _
set_option maxRecDepth 100000 in
set_option maxHeartbeats 2000000 in
theorem left_any (s : ByteArray) (hs : s.size ≤ 1000) (hd : s.data.toList.all digB = true) (w : World) : Calls Tryz.prog 91 #[.string s] w fun e w' => e = .returned (.int .i64 (leftF 0 s.data.toList : Int)) ∧ w' = w := by
  have hsl : s.data.toList.length = s.size := rfl
  go_enter Tryz.func91, Tryz.ntmps91
  go_wp2_with fail
  go_loopw [3, 4] (fun v i wr => ∃ (k : Nat), k ≤ s.size ∧ i = .int .i64 (k : Int) ∧ v = .int .i64 (leftF 0 (s.data.toList.take k) : Int) ∧ wr = w) (fun _ i _ => s.size - (intOf i).toNat)
  case atStart => exact ⟨0, Nat.zero_le _, rfl, rfl, rfl⟩
  case round =>
    obtain ⟨k, hk, rfl, rfl, rfl⟩ := hrel
    by_cases hlt : k < s.size
    · have hki : (k : Int) < (s.size : Int) := by omega
      have hki2 : (0 : Int) ≤ (k : Int) := by omega
      obtain ⟨c, hc⟩ : ∃ c, s[k]'hlt = c := ⟨_, rfl⟩
      have hk2 : k < s.data.toList.length := hlt
      have hcl : s.data.toList[k] = c := by rw [← hc]; rfl
      have hcd : digB c = true := by rw [← hcl]; exact List.all_eq_true.1 hd _ (List.getElem_mem hk2)
      obtain ⟨_, hc9, hc48⟩ := digC_of hcd
      have hstep : leftF 0 (s.data.toList.take (k + 1)) = (10 * leftF 0 (s.data.toList.take k) + (c.toNat - 48)) % 7 := by
        rw [List.take_add_one, List.getElem?_eq_getElem hk2, hcl, leftF_app]
        rfl
      have hlt7 := leftF_lt (v := 0) (s.data.toList.take k) (by omega)
      obtain ⟨V, hV⟩ : ∃ V, leftF 0 (s.data.toList.take k) = V := ⟨_, rfl⟩
      rw [hV] at hstep hlt7 ⊢
      obtain ⟨d, hdd⟩ : ∃ d, c.toNat - 48 = d := ⟨_, rfl⟩
      have hcd2 : (c.toNat : Int) - 48 = (d : Int) := by omega
      rw [hdd] at hstep hc9
      have hw0 : IntKind.i64.wrap (10 * (V : Int)) = 10 * (V : Int) := IntWalk.i64_in _ (by omega)
      have hw1 : IntKind.u8.wrap ((c.toNat : Int) - 48) = (d : Int) := by simp [IntKind.wrap, IntKind.bits, IntKind.signed]; omega
      have hw2 : IntKind.i64.wrap (d : Int) = (d : Int) := IntWalk.i64_in _ (by omega)
      have hw3 : IntKind.i64.wrap (10 * (V : Int) + (d : Int)) = 10 * (V : Int) + (d : Int) := IntWalk.i64_in _ (by omega)
      have HST := Lib.hid hstep
      clear hstep hcl hcd hV
      go_wp2_with fail
      go_roundw
      case rel => exact ⟨k + 1, by omega, by go_num, by rw [HST.out]; simp; try omega, trivial⟩
      case measure => simp [intOf]; omega
    · obtain rfl : k = s.size := by omega
      go_wp2_with fail
      go_ret
      have hT : s.data.toList.take s.size = s.data.toList := List.take_of_length_le (Nat.le_of_eq hsl)
      exact ⟨by simp only [hT]; rfl, rfl⟩
end Go.Proofs.YtgfijlamhjjecaaGreatDoor


/-
  NumD: contract of the reference's Parse of tickets. No condition beyond those stated.
-/
namespace Go.Proofs.YtgfijlamhjjecaaGreatDoor
open Go.RowKit
theorem p7R_chk {t : Str} (h1 : t.length = 14) (h2 : t.all digB = true) (h : leftF 0 (t.take 13) ≠ valN (t.drop 13)) : parse7 t = ((0, 0), 70) := by
  rw [← parse7R_eq]; unfold parse7R; rw [if_neg (by simp [h1, h2]), if_pos h]
theorem p7R_arg {t : Str} (h1 : t.length = 14) (h2 : t.all digB = true) (h : leftF 0 (t.take 13) = valN (t.drop 13)) (h3 : mayT (valN (t.take 3)) (valN ((t.take 13).drop 3)) = false) : parse7 t = ((0, 0), 1) := by
  rw [← parse7R_eq]; unfold parse7R; rw [if_neg (by simp [h1, h2]), if_neg (by simp [h]), if_neg (by simp [h3])]
theorem p7R_yes {t : Str} (h1 : t.length = 14) (h2 : t.all digB = true) (h : leftF 0 (t.take 13) = valN (t.drop 13)) (h3 : mayT (valN (t.take 3)) (valN ((t.take 13).drop 3)) = true) : parse7 t = ((valN (t.take 3), valN ((t.take 13).drop 3)), 0) := by
  rw [← parse7R_eq]; unfold parse7R; rw [if_neg (by simp [h1, h2]), if_neg (by simp [h]), if_pos h3]
theorem valN_take {t : Str} {k : Nat} {c : UInt8} (h : t[k]? = some c) : valN (t.take (k + 1)) = valN (t.take k) * 10 + (c.toNat - 48) := by
  rw [List.take_add_one, h]; exact valN_snoc _ _
theorem valN_td {t : Str} {k : Nat} {c : UInt8} (h : t[k]? = some c) (hk : 3 ≤ k) : valN ((t.take (k + 1)).drop 3) = valN ((t.take k).drop 3) * 10 + (c.toNat - 48) := by
  have hl : k < t.length := (List.getElem?_eq_some_iff.1 h).1
  rw [List.take_add_one, h, List.drop_append_of_le_length (by rw [List.length_take]; omega)]; exact valN_snoc _ _
theorem valN_le {t : Str} (h : t.all digB = true) (n : Nat) (hn : t.length ≤ n) : valN t < 10 ^ n :=
  Nat.lt_of_lt_of_le (valN_lt t h) (Nat.pow_le_pow_right (by omega) hn)
theorem all_take {t : Str} (h : t.all digB = true) (k : Nat) : (t.take k).all digB = true := by
  rw [List.all_eq_true] at h ⊢; exact fun c hc => h c (List.mem_of_mem_take hc)
theorem all_drop {t : Str} (h : t.all digB = true) (k : Nat) : (t.drop k).all digB = true := by
  rw [List.all_eq_true] at h ⊢; exact fun c hc => h c (List.mem_of_mem_drop hc)
/-- what a byte at a place is -/
theorem byte_at {s : ByteArray} {k : Nat} (hk : k < s.size) : ∃ c, s[k]'hk = c ∧ s.data.toList[k]? = some c :=
  ⟨s[k]'hk, rfl, List.getElem?_eq_getElem (l := s.data.toList) hk⟩
set_option maxRecDepth 100000 in
set_option maxHeartbeats 4000000 in
theorem r7Parse_any (s : ByteArray) (w : World) : Calls Tryz.prog 56 #[.string s] w fun e w' => Parse7Q s.data.toList w e w' := by
  have hsl : s.data.toList.length = s.size := rfl
  obtain ⟨t, ht⟩ : ∃ t, s.data.toList = t := ⟨_, rfl⟩
  have HT := Lib.hid ht
  rw [ht] at hsl ⊢
  by_cases h14 : s.size = 14
  · have i1 : ((s.size : Int) != 14) = false := by simp [h14]
    have l14 : t.length = 14 := hsl.trans h14
    have HL := Lib.hid l14
    have hss : (14 : Nat) ≤ s.size := by omega
    have H14 := Lib.hid h14
    obtain ⟨B, hB⟩ : ∃ B, w.heap.size = B := ⟨_, rfl⟩
    have HBQ := Lib.hid hB
    obtain ⟨w0, hw0⟩ : ∃ w0, w.alloc (.cells #[.int .u8 0, .int .u64 0] 24) = w0 := ⟨_, rfl⟩
    have hz0 : B < w0.heap.size := by rw [← hw0, ← hB]; simp
    have HB0 : Hid (Below B w w0) := Lib.hid (by rw [← hw0, ← hB]; exact (Below.refl _ _).alloc (Nat.le_refl _) _)
    have hr : w0.heap[B]? = some (.cells #[.int .u8 0, .int .u64 0] 24 (0, 0)) := by rw [← hw0, ← hB]; exact heap_alloc_new _ _
    have r0 : w0.cell? ⟨B, 0, none⟩ = some (.int .u8 0) := cell_of_row w0 B 0 _ _ _ hr
    have r1 : w0.cell? ⟨B, 1, none⟩ = some (.int .u64 0) := cell_of_row w0 B 1 _ _ _ hr
    have z0 := frozen_of_row w0 B 0 _ _ hr
    have z1 := frozen_of_row w0 B 1 _ _ hr
    have HR := Lib.hid hr
    have HW0 := Lib.hid hw0
    clear ht hsl h14 l14 hr hw0 hB
    go_enter Tryz.func56, Tryz.ntmps56
    go_wp2_with fail
    rw [HW0.out, HBQ.out]

    go_loop [4] (fun i => ∃ k : Nat, k ≤ 14 ∧ i = .int .i64 (k : Int) ∧ (t.take k).all digB = true) (fun i => 14 - (intOf i).toNat)
    case atStart => exact ⟨0, by omega, rfl, rfl⟩
    case round =>
      obtain ⟨k, hk, rfl, hd⟩ := hrel
      by_cases hlt : k < 14
      · have hks : k < s.size := by omega
        obtain ⟨c, hc, hck⟩ := byte_at hks
        rw [HT.out] at hck
        have a1 : (k : Int) < 14 := by omega
        have a2 : (0 : Int) ≤ (k : Int) := by omega
        have a3 : (k : Int) < (s.size : Int) := by omega
        have HCK := Lib.hid hck
        have HD := Lib.hid hd
        clear hck hd
        by_cases h48 : c.toNat < 48
        · have d1 : decide ((c.toNat : Int) < 48) = true := by rw [decide_eq_true_eq]; omega
          have HQ : Hid (parse7 t = ((0, 0), 90)) := Lib.hid (parse7_dig (by
            rw [List.all_eq_false]
            exact ⟨c, List.mem_of_getElem? HCK.out, by unfold digB; simp; omega⟩))
          go_wp2_with fail
          refine bodyPost_ret (res_tick rfl _ rfl rfl (heap_setCell_same _ B 1 _ _ _ (heap_setCell_same _ B 0 _ _ _ HR.out)) rfl) rfl ?_
          exact parse7Q_of HQ.out (by rw [HBQ.out]; exact (HB0.out.setCell (Nat.le_refl _) _).setCell (Nat.le_refl _) _)
        · have d1 : decide ((c.toNat : Int) < 48) = false := by rw [decide_eq_false_iff_not]; omega
          by_cases h57 : 57 < c.toNat
          · have d2 : decide ((57 : Int) < (c.toNat : Int)) = true := by rw [decide_eq_true_eq]; omega
            have HQ : Hid (parse7 t = ((0, 0), 90)) := Lib.hid (parse7_dig (by
              rw [List.all_eq_false]
              exact ⟨c, List.mem_of_getElem? HCK.out, by unfold digB; simp; omega⟩))
            go_wp2_with fail
            refine bodyPost_ret (res_tick rfl _ rfl rfl (heap_setCell_same _ B 1 _ _ _ (heap_setCell_same _ B 0 _ _ _ HR.out)) rfl) rfl ?_
            exact parse7Q_of HQ.out (by rw [HBQ.out]; exact (HB0.out.setCell (Nat.le_refl _) _).setCell (Nat.le_refl _) _)
          · have d2 : decide ((57 : Int) < (c.toNat : Int)) = false := by rw [decide_eq_false_iff_not]; omega
            go_wp2_with fail
            go_round
            case rel => exact ⟨k + 1, by omega, by go_num, by
              rw [List.take_add_one, HCK.out, List.all_append, HD.out]
              simp [digB]; omega⟩
            case measure => simp [intOf]; omega
      · obtain rfl : k = 14 := by omega
        have hall : t.all digB = true := by rw [← hd, List.take_of_length_le (by rw [HL.out]; exact Nat.le_refl _)]
        clear hd
        obtain ⟨E, hE⟩ : ∃ E, s.extract 0 13 = E := ⟨_, rfl⟩
        have hEl : E.data.toList = t.take 13 := by
          rw [← hE, ByteArray.data_extract, Array.toList_extract, HT.out]; rfl
        have hEz : E.size ≤ 1000 := by
          have e : E.size = E.data.toList.length := rfl
          rw [e, hEl, List.length_take]; omega
        have hleft := left_any E hEz (by rw [hEl]; exact all_take hall 13)
        rw [hEl] at hleft
        have hl7 := leftF_lt (v := 0) (t.take 13) (by omega)
        obtain ⟨L, hL⟩ : ∃ L, leftF 0 (t.take 13) = L := ⟨_, rfl⟩
        rw [hL] at hleft hl7
        obtain ⟨c13, hc13, hk13⟩ := byte_at (s := s) (k := 13) (by omega)
        rw [HT.out] at hk13
        obtain ⟨_, hc9, hc48⟩ := digC_of (List.all_eq_true.1 hall c13 (List.mem_of_getElem? hk13))
        have hd13 : t.drop 13 = [c13] := by
          rw [List.drop_eq_getElem_cons (by rw [HL.out]; omega), List.drop_of_length_le (by rw [HL.out]; omega)]
          congr 1
          rw [List.getElem?_eq_getElem (by rw [HL.out]; omega)] at hk13
          exact Option.some.inj hk13
        obtain ⟨d, hdd⟩ : ∃ d, c13.toNat - 48 = d := ⟨_, rfl⟩
        have hv13 : valN (t.drop 13) = d := by rw [hd13, ← hdd]; show 0 * 10 + (c13.toNat - 48) = _; omega
        have q1 : IntKind.u8.wrap ((c13.toNat : Int) - 48) = (d : Int) := by simp [IntKind.wrap, IntKind.bits, IntKind.signed]; omega
        have q2 : IntKind.i64.wrap (d : Int) = (d : Int) := IntWalk.i64_in _ (by omega)
        have a1 : (13 : Int) < (s.size : Int) := by omega
        have a2 : (13 : Int) ≤ (s.size : Int) := by omega
        have HLF := Lib.hid hleft
        have HALL := Lib.hid hall
        have HV13 := Lib.hid hv13
        have HLE := Lib.hid hL
        clear hleft hall hv13 hL hd13 hdd hk13 hEl hEz hc9 hc48
        go_wp2_with fail
        refine wp_region_plan [(0, false), (1, false), (3, false), (4, false), (5, false), (6, false), (2, true), (7, false)] (fun _ => True) (by kernel_rfl) (by kernel_rfl) trivial ?_
        iterate 6 (refine' plan_val rfl rfl (fun w' hS => ?_) ?_; rotate_left; (focus (first | rfl | (go_simp; rfl))); simp only [Act.put, List.setIfInBounds_toArray, List.set_cons_zero, List.set_cons_succ])
        refine plan_do rfl (fun K hK => ?_)
        go_wp2_with (go_at_call 91; refine (HLF.out _).mono ?_; rintro e wB ⟨rfl, rfl⟩)
        refine hK _ _ trivial ?_
        clear hK K
        by_cases hLd : L = d
        · subst hLd
          have b1 : ((L : Int) != (L : Int)) = false := by simp
          (refine' plan_val rfl rfl (fun w' hS => ?_) ?_; rotate_left; (focus (first | rfl | (go_simp; rfl))); simp only [Act.put, List.setIfInBounds_toArray, List.set_cons_zero, List.set_cons_succ])
          refine plan_nil ?_
          obtain ⟨wd, hwd⟩ : ∃ wd, w0.drew = wd := ⟨_, rfl⟩
          have hwh : wd.heap = w0.heap := by rw [← hwd]; rfl
          have HRD := Lib.hid (show wd.heap[B]? = some (.cells #[.int .u8 0, .int .u64 0] 24 (0, 0)) by rw [hwh]; exact HR.out)
          have HBD : Hid (Below B w wd) := Lib.hid (by rw [← hwd]; exact HB0.out.drew)
          have hzd : B < wd.heap.size := by rw [hwh]; exact hz0
          rw [hwd]
          clear hwd hwh r0 r1 z0 z1 q1 q2 b1
          go_wp2_with fail
          go_loop [5, 6, 7] (fun cv sv i => ∃ k : Nat, k ≤ 13 ∧ i = .int .i64 (k : Int) ∧ cv = .int .i64 ((valN (t.take (min k 3)) : Nat) : Int) ∧ sv = .int .u64 ((valN ((t.take k).drop 3) : Nat) : Int)) (fun _ _ i => 13 - (intOf i).toNat)
          case atStart => exact ⟨0, by omega, rfl, rfl, rfl⟩
          case round =>
            obtain ⟨k, hk, rfl, rfl, rfl⟩ := hrel
            by_cases hlt : k < 13
            · have hks : k < s.size := by omega
              obtain ⟨c, hc, hck⟩ := byte_at hks
              rw [HT.out] at hck
              obtain ⟨_, hx9, hx48⟩ := digC_of (List.all_eq_true.1 HALL.out c (List.mem_of_getElem? hck))
              have e1 := valN_take hck
              have a3 : (k : Int) < 13 := by omega
              have a4 : (0 : Int) ≤ (k : Int) := by omega
              have a5 : (k : Int) < (s.size : Int) := by omega
              by_cases h3 : k < 3
              · have hb := valN_le (all_take HALL.out k) 3 (by rw [List.length_take]; omega)
                have m1 : min k 3 = k := by omega
                have m2 : min (k + 1) 3 = k + 1 := by omega
                have n1 : (t.take k).drop 3 = [] := List.drop_of_length_le (by rw [List.length_take]; omega)
                have n2 : (t.take (k + 1)).drop 3 = [] := List.drop_of_length_le (by rw [List.length_take]; omega)
                rw [m1, n1]
                obtain ⟨V, hV⟩ : ∃ V, valN (t.take k) = V := ⟨_, rfl⟩
                obtain ⟨x, hx⟩ : ∃ x, c.toNat - 48 = x := ⟨_, rfl⟩
                have hcx : (c.toNat : Int) - 48 = (x : Int) := by omega
                rw [hV] at e1 hb ⊢
                rw [hx] at e1 hx9
                have w1 : IntKind.i64.wrap (10 * (V : Int)) = 10 * (V : Int) := IntWalk.i64_in _ (by omega)
                have w2 : IntKind.u8.wrap ((c.toNat : Int) - 48) = (x : Int) := by simp [IntKind.wrap, IntKind.bits, IntKind.signed]; omega
                have w3 : IntKind.i64.wrap (x : Int) = (x : Int) := IntWalk.i64_in _ (by omega)
                have w4 : IntKind.i64.wrap (10 * (V : Int) + (x : Int)) = 10 * (V : Int) + (x : Int) := IntWalk.i64_in _ (by omega)
                have i3 : decide ((k : Int) < 3) = true := by rw [decide_eq_true_eq]; omega
                have HE1 := Lib.hid e1
                have HM2 := Lib.hid m2
                have HN2 := Lib.hid n2
                clear e1 m1 m2 n1 n2 hV hx hck hcx
                go_wp2_with fail
                go_round
                case rel => exact ⟨k + 1, by omega, by go_num, by rw [HM2.out, HE1.out] <;> go_num, by rw [HN2.out] <;> rfl⟩
                case measure => simp [intOf]; omega
              · have e2 := valN_td hck (by omega)
                have hb := valN_le (all_drop (all_take HALL.out k) 3) 10 (by rw [List.length_drop, List.length_take]; omega)
                have m1 : min k 3 = 3 := by omega
                have m2 : min (k + 1) 3 = 3 := by omega
                rw [m1]
                obtain ⟨V, hV⟩ : ∃ V, valN ((t.take k).drop 3) = V := ⟨_, rfl⟩
                obtain ⟨x, hx⟩ : ∃ x, c.toNat - 48 = x := ⟨_, rfl⟩
                obtain ⟨C, hC⟩ : ∃ C, valN (t.take 3) = C := ⟨_, rfl⟩
                have hcx : (c.toNat : Int) - 48 = (x : Int) := by omega
                rw [hV] at e2 hb ⊢
                rw [hx] at e2 hx9
                rw [hC]
                have w1 : IntKind.u64.wrap (10 * (V : Int)) = 10 * (V : Int) := by rw [IntKind.wrap_u64]; omega
                have w2 : IntKind.u8.wrap ((c.toNat : Int) - 48) = (x : Int) := by simp [IntKind.wrap, IntKind.bits, IntKind.signed]; omega
                have w3 : IntKind.u64.wrap (x : Int) = (x : Int) := by rw [IntKind.wrap_u64]; omega
                have w4 : IntKind.u64.wrap (10 * (V : Int) + (x : Int)) = 10 * (V : Int) + (x : Int) := by rw [IntKind.wrap_u64]; omega
                have i3 : decide ((k : Int) < 3) = false := by rw [decide_eq_false_iff_not]; omega
                have HE2 := Lib.hid e2
                have HM2 := Lib.hid m2
                have HC := Lib.hid hC
                clear e1 e2 m1 m2 hV hx hC hck hcx
                go_wp2_with fail
                go_round
                case rel => exact ⟨k + 1, by omega, by go_num, by rw [HM2.out, HC.out], by rw [HE2.out] <;> go_num⟩
                case measure => simp [intOf]; omega
            · obtain rfl : k = 13 := by omega
              rw [show min 13 3 = 3 from rfl]
              have hbc := valN_le (all_take HALL.out 3) 3 (by rw [List.length_take]; omega)
              have hbs := valN_le (all_drop (all_take HALL.out 13) 3) 10 (by rw [List.length_drop, List.length_take]; omega)
              have hyes := p7R_yes (t := t) HL.out HALL.out (by rw [HV13.out, HLE.out])
              have hno := p7R_arg (t := t) HL.out HALL.out (by rw [HV13.out, HLE.out])
              obtain ⟨C, hC⟩ : ∃ C, valN (t.take 3) = C := ⟨_, rfl⟩
              obtain ⟨S, hS⟩ : ∃ S, valN ((t.take 13).drop 3) = S := ⟨_, rfl⟩
              rw [hC] at hyes hno hbc ⊢
              rw [hS] at hyes hno hbs ⊢
              clear hC hS
              have r0 : wd.cell? ⟨B, 0, none⟩ = some (.int .u8 0) := cell_of_row wd B 0 _ _ _ HRD.out
              have r1 : wd.cell? ⟨B, 1, none⟩ = some (.int .u64 0) := cell_of_row wd B 1 _ _ _ HRD.out
              have z0 := frozen_of_row wd B 0 _ _ HRD.out
              have z1 := frozen_of_row wd B 1 _ _ HRD.out
              have w3 : IntKind.u64.wrap (S : Int) = (S : Int) := by rw [IntKind.wrap_u64]; omega
              by_cases h8 : C < 8
              · have j8 : decide ((C : Int) ≥ 8) = false := by rw [decide_eq_false_iff_not]; omega
                have w1 : IntKind.u8.wrap (C : Int) = (C : Int) := by simp [IntKind.wrap, IntKind.bits, IntKind.signed]; omega
                cases hm : mayT C S with
                | true =>
                  have HQ := Lib.hid (hyes hm)
                  have HM := Lib.hid hm
                  clear hyes hno hm
                  go_wp2_with (go_at_call 89; refine (r7May_any C S _).mono ?_; rw [HM.out]; rintro e w2 ⟨rfl, hb⟩; have k0 : w2.heap[B]? = some (.cells #[.int .u8 0, .int .u64 0] 24 (0, 0)) := (hb.block B (by simp; omega)).trans ((Below.heap_alloc _ _ _ hzd).trans HRD.out); have k1 : w2.heap[wd.heap.size]? = some (.cells #[.int .u8 (C : Int), .int .u64 (S : Int)] 24 (0, 0)) := (hb.block _ (by simp)).trans (heap_alloc_new _ _); have y0 : w2.cell? ⟨B, 0, none⟩ = some (.int .u8 0) := cell_of_row w2 B 0 _ _ _ k0; have y1 : w2.cell? ⟨B, 1, none⟩ = some (.int .u64 0) := cell_of_row w2 B 1 _ _ _ k0; have v0 := frozen_of_row w2 B 0 _ _ k0; have v1 := frozen_of_row w2 B 1 _ _ k0; have x0 : w2.cell? ⟨wd.heap.size, 0, none⟩ = some (.int .u8 (C : Int)) := cell_of_row w2 wd.heap.size 0 _ _ _ k1; have x1 : w2.cell? ⟨wd.heap.size, 1, none⟩ = some (.int .u64 (S : Int)) := cell_of_row w2 wd.heap.size 1 _ _ _ k1; have K0 := Lib.hid k0; have HB := Lib.hid hb; clear hb k0 k1)
                  refine bodyPost_ret (res_tick rfl _ rfl rfl (heap_setCell_same _ B 1 _ _ _ (heap_setCell_same _ B 0 _ _ _ K0.out)) rfl) rfl ?_
                  exact parse7Q_of HQ.out (by rw [HBQ.out]; exact ((HBD.out.trans (((Below.refl _ _).alloc (by omega) _).trans (HB.out.mono (by simp; omega)))).setCell (Nat.le_refl _) _).setCell (Nat.le_refl _) _)
                | false =>
                  have HQ := Lib.hid (hno hm)
                  have HM := Lib.hid hm
                  clear hyes hno hm
                  go_wp2_with (go_at_call 89; refine (r7May_any C S _).mono ?_; rw [HM.out]; rintro e w2 ⟨rfl, hb⟩; have k0 : w2.heap[B]? = some (.cells #[.int .u8 0, .int .u64 0] 24 (0, 0)) := (hb.block B (by simp; omega)).trans ((Below.heap_alloc _ _ _ hzd).trans HRD.out); have k1 : w2.heap[wd.heap.size]? = some (.cells #[.int .u8 (C : Int), .int .u64 (S : Int)] 24 (0, 0)) := (hb.block _ (by simp)).trans (heap_alloc_new _ _); have y0 : w2.cell? ⟨B, 0, none⟩ = some (.int .u8 0) := cell_of_row w2 B 0 _ _ _ k0; have y1 : w2.cell? ⟨B, 1, none⟩ = some (.int .u64 0) := cell_of_row w2 B 1 _ _ _ k0; have v0 := frozen_of_row w2 B 0 _ _ k0; have v1 := frozen_of_row w2 B 1 _ _ k0; have x0 : w2.cell? ⟨wd.heap.size, 0, none⟩ = some (.int .u8 (C : Int)) := cell_of_row w2 wd.heap.size 0 _ _ _ k1; have x1 : w2.cell? ⟨wd.heap.size, 1, none⟩ = some (.int .u64 (S : Int)) := cell_of_row w2 wd.heap.size 1 _ _ _ k1; have K0 := Lib.hid k0; have HB := Lib.hid hb; clear hb k0 k1)
                  refine bodyPost_ret (res_tick rfl _ rfl rfl (heap_setCell_same _ B 1 _ _ _ (heap_setCell_same _ B 0 _ _ _ K0.out)) rfl) rfl ?_
                  exact parse7Q_of HQ.out (by rw [HBQ.out]; exact ((HBD.out.trans (((Below.refl _ _).alloc (by omega) _).trans (HB.out.mono (by simp; omega)))).setCell (Nat.le_refl _) _).setCell (Nat.le_refl _) _)
              · have j8 : decide ((C : Int) ≥ 8) = true := by rw [decide_eq_true_eq]; omega
                have HQ := Lib.hid (hno (by unfold mayT; simp [h8]))
                obtain ⟨C8, hC8⟩ : ∃ C8, IntKind.u8.wrap (C : Int) = C8 := ⟨_, rfl⟩
                clear hyes hno
                go_wp2_with fail
                refine bodyPost_ret (res_tick (g := B) (cs := #[.int .u8 0, .int .u64 0]) (t := 24) rfl _ rfl rfl ((Below.heap_alloc _ _ _ (by simp; omega)).trans (heap_setCell_same _ B 1 _ _ _ (heap_setCell_same _ B 0 _ _ _ HRD.out))) rfl) rfl ?_
                exact parse7Q_of HQ.out (by rw [HBQ.out]; exact ((HBD.out.setCell (Nat.le_refl _) _).setCell (Nat.le_refl _) _).alloc (by simp; omega) _)
        · have b1 : ((L : Int) != (d : Int)) = true := by rw [bne_iff_ne]; omega
          have HQ : Hid (parse7 t = ((0, 0), 70)) := Lib.hid (p7R_chk HL.out HALL.out (by rw [HV13.out, HLE.out]; exact hLd))
          (refine' plan_val rfl rfl (fun w' hS => ?_) ?_; rotate_left; (focus (first | rfl | (go_simp; rfl))); simp only [Act.put, List.setIfInBounds_toArray, List.set_cons_zero, List.set_cons_succ])
          refine plan_nil ?_
          go_wp2_with fail
          refine bodyPost_ret (res_tick rfl _ rfl rfl (heap_setCell_same _ B 1 _ _ _ (heap_setCell_same _ B 0 _ _ _ HR.out)) rfl) rfl ?_
          exact parse7Q_of HQ.out (by rw [HBQ.out]; exact ((HB0.out.setCell (Nat.le_refl _) _).setCell (Nat.le_refl _) _).drew)
  · have i1 : ((s.size : Int) != 14) = true := by simp; omega
    have HQ := Lib.hid (parse7_len (t := t) (by omega))
    clear hsl ht h14
    go_enter Tryz.func56, Tryz.ntmps56
    go_wp2_with fail
    refine bodyPost_ret (res_tick rfl _ rfl rfl (heap_alloc_new _ _) rfl) rfl ?_
    exact parse7Q_of HQ.out ((Below.refl _ _).alloc (Nat.le_refl _) _)
end Go.Proofs.YtgfijlamhjjecaaGreatDoor


/-
  MsgRA: the reference's Packet, case by case; the packet that is being read. No condition beyond those stated.
-/
namespace Go.Proofs.YtgfijlamhjjecaaGreatDoor
open Go.RowKit
/-- the packet that is being read, in its block -/
structure PSt (B2 : Nat) (w2 : World) (q : PD) (wx : World) : Prop where
  low : Below B2 w2 wx
  row : wx.heap[B2]? = some (.cells (pktA q).toArray 38 (0, 0))
theorem PSt.lt {B2 : Nat} {w2 wx : World} {q : PD} (h : PSt B2 w2 q wx) : B2 < wx.heap.size := (Array.getElem?_eq_some_iff.1 h.row).1
theorem PSt.on {B2 : Nat} {w2 wx wy : World} {q : PD} (h : PSt B2 w2 q wx) (hb : Below wx.heap.size wx wy) : PSt B2 w2 q wy := by
  have hl := h.lt
  exact ⟨h.low.trans (hb.mono (by omega)), (hb.block B2 hl).trans h.row⟩
theorem PSt.alloc {B2 : Nat} {w2 wx : World} {q : PD} (h : PSt B2 w2 q wx) (o : Obj) : PSt B2 w2 q (wx.alloc o) := h.on ((Below.refl _ _).alloc (Nat.le_refl _) _)
theorem PSt.set {B2 : Nat} {w2 wx : World} {q q' : PD} (h : PSt B2 w2 q wx) (i : Nat) (v : Value) (e : (pktA q).set i v = pktA q') : PSt B2 w2 q' (wx.setCell ⟨B2, i, none⟩ v) :=
  ⟨h.low.setCell (Nat.le_refl _) _, by rw [heap_setCell_same wx B2 i _ _ _ h.row, List.setIfInBounds_toArray, e]⟩
theorem PSt.drew {B2 : Nat} {w2 wx : World} {q : PD} (h : PSt B2 w2 q wx) : PSt B2 w2 q wx.drew := ⟨h.low.drew, h.row⟩
def ackX (l : List Seg) : Bool := match l with | s :: _ => ackS s | [] => false
def keyN (l : List Seg) : Bool := match l[1]? with | none => true | some y => (wordsS y tKEY 2).isNone
theorem pktR_car {x : WD} (h : 8 ≤ x.fr ∨ 8 ≤ x.dst) : packetM x = (pd0, 1) := by unfold packetM; rw [if_pos h]
/-- what follows the ticket -/
def tailPK (x : WD) (h : Bool × Bool × Bool) (k : Nat) (t u : Str) : PD × Int :=
  match numW u with
  | some a => if 4 ≤ a then (pd0, 101) else
    (match restR h k (parse7 t).1.1 (parse7 t).1.2 a x.segs with
    | some m => (⟨x.fr, x.dst, false, x.rf, m⟩, 0)
    | none => (pd0, 101))
  | none => (pd0, 101)
def restPK (x : WD) : PD × Int :=
  match segR tMSG [false] x.segs[0]? with
  | some [k] => if 255 < k then (pd0, 100) else
    (match hasK k.toNat with
    | none => (pd0, 100)
    | some h => match x.segs[1]? with
      | none => (pd0, 101)
      | some y => match wordsS y tKEY 2 with
        | some [t, u] => if (parse7 t).2 ≠ 0 then (pd0, (parse7 t).2) else tailPK x h k.toNat t u
        | _ => (pd0, 101))
  | _ => (pd0, 100)
theorem restPK_eq {x : WD} (h : ¬ (8 ≤ x.fr ∨ 8 ≤ x.dst)) (ha : ackX x.segs = false) : packetRM x = restPK x := by
  unfold packetRM restPK tailPK
  rw [if_neg h]
  rw [if_neg (fun hh => by have h1 := ha.symm.trans hh; cases h1)]
  rfl
theorem rp_none {x : WD} (h : segR tMSG [false] x.segs[0]? = none) : restPK x = (pd0, 100) := by unfold restPK; rw [h]
theorem rp_big {x : WD} {k : Int} (h : segR tMSG [false] x.segs[0]? = some [k]) (hb : 255 < k) : restPK x = (pd0, 100) := by unfold restPK; rw [h]; simp only; rw [if_pos hb]
theorem rp_kind {x : WD} {k : Int} (h : segR tMSG [false] x.segs[0]? = some [k]) (hb : ¬ 255 < k) (hk : hasK k.toNat = none) : restPK x = (pd0, 100) := by
  unfold restPK; rw [h]; simp only; rw [if_neg hb, hk]
theorem rp_key {x : WD} {k : Int} {f : Bool × Bool × Bool} (h : segR tMSG [false] x.segs[0]? = some [k]) (hb : ¬ 255 < k) (hk : hasK k.toNat = some f) (hn : keyN x.segs = true) : restPK x = (pd0, 101) := by
  unfold restPK; rw [h]; simp only; rw [if_neg hb, hk]; simp only
  unfold keyN at hn
  cases hy : x.segs[1]? with
  | none => rfl
  | some y =>
    rw [hy] at hn
    simp only at hn ⊢
    cases hw : wordsS y tKEY 2 with
    | none => rfl
    | some l => rw [hw] at hn; cases hn
theorem wordsS_two {y : Seg} {l : List Str} (h : wordsS y tKEY 2 = some l) : ∃ t u, l = [t, u] ∧ y.tag = tKEY ∧ y.elems = [[t], [u]] := by
  unfold wordsS at h
  split at h
  · rename_i hc
    have h1 := wordsL_inj h
    have h2 := wordsL_len h
    rw [hc.2] at h2
    match l, h2 with
    | [t, u], _ => exact ⟨t, u, rfl, hc.1, by rw [h1]; rfl⟩
  · cases h
theorem rp_go {x : WD} {k : Int} {f : Bool × Bool × Bool} (h : segR tMSG [false] x.segs[0]? = some [k]) (hb : ¬ 255 < k) (hk : hasK k.toNat = some f) (hn : keyN x.segs = false) :
    ∃ y t u, x.segs[1]? = some y ∧ y.tag = tKEY ∧ y.elems = [[t], [u]] ∧ restPK x = if (parse7 t).2 ≠ 0 then (pd0, (parse7 t).2) else tailPK x f k.toNat t u := by
  unfold keyN at hn
  cases hy : x.segs[1]? with
  | none => rw [hy] at hn; cases hn
  | some y =>
    rw [hy] at hn
    simp only at hn
    cases hw : wordsS y tKEY 2 with
    | none => rw [hw] at hn; cases hn
    | some l =>
      obtain ⟨t, u, rfl, h1, h2⟩ := wordsS_two hw
      refine ⟨y, t, u, rfl, h1, h2, ?_⟩
      unfold restPK; rw [h]; simp only; rw [if_neg hb, hk]; simp only
      rw [hy]; simp only; rw [hw]
theorem tp_none {x : WD} {f : Bool × Bool × Bool} {k : Nat} {t u : Str} (h : numW u = none) : tailPK x f k t u = (pd0, 101) := by unfold tailPK; rw [h]
theorem tp_big {x : WD} {f : Bool × Bool × Bool} {k a : Nat} {t u : Str} (h : numW u = some a) (hb : 4 ≤ a) : tailPK x f k t u = (pd0, 101) := by unfold tailPK; rw [h]; simp only; rw [if_pos hb]
theorem tp_go {x : WD} {f : Bool × Bool × Bool} {k a : Nat} {t u : Str} (h : numW u = some a) (hb : ¬ 4 ≤ a) : tailPK x f k t u = (match restR f k (parse7 t).1.1 (parse7 t).1.2 a x.segs with
    | some m => (⟨x.fr, x.dst, false, x.rf, m⟩, 0)
    | none => (pd0, 101)) := by unfold tailPK; rw [h]; simp only; rw [if_neg hb]
/-! the three parts behind the key -/
def cpnO (h : Bool × Bool × Bool) (l : List Seg) : Option CD := if h.1 then (segR tCPN gsC l[2]?).bind cdR else some cd0
def at1 (h : Bool × Bool × Bool) : Nat := if h.1 then 3 else 2
def amtO (h : Bool × Bool × Bool) (l : List Seg) : Option Int := if h.2.1 then (segR tAMT [true] l[at1 h]?).bind amR else some 0
def at2 (h : Bool × Bool × Bool) : Nat := at1 h + (if h.2.1 then 1 else 0)
def codO (h : Bool × Bool × Bool) (l : List Seg) : Option Int := if h.2.2 then (segR tCOD [false] l[at2 h]?).bind coR else some 0
def at3 (h : Bool × Bool × Bool) : Nat := at2 h + (if h.2.2 then 1 else 0)
theorem restR_is (h : Bool × Bool × Bool) (k c s a : Nat) (l : List Seg) : restR h k c s a l = (cpnO h l).bind fun cc => (amtO h l).bind fun am => (codO h l).bind fun co => if l.length ≠ at3 h ∨ mayR ⟨k, c, s, a, cc, am, co⟩ = false then none else some ⟨k, c, s, a, cc, am, co⟩ := rfl
theorem tail_cpn {x : WD} {f : Bool × Bool × Bool} {k a : Nat} {t u : Str} (h : numW u = some a) (hb : ¬ 4 ≤ a) (hc : cpnO f x.segs = none) : tailPK x f k t u = (pd0, 101) := by
  rw [tp_go h hb, restR_is, hc]; rfl
theorem tail_amt {x : WD} {f : Bool × Bool × Bool} {k a : Nat} {t u : Str} {cc : CD} (h : numW u = some a) (hb : ¬ 4 ≤ a) (hc : cpnO f x.segs = some cc) (hm : amtO f x.segs = none) : tailPK x f k t u = (pd0, 101) := by
  rw [tp_go h hb, restR_is, hc, hm]; rfl
theorem tail_cod {x : WD} {f : Bool × Bool × Bool} {k a : Nat} {t u : Str} {cc : CD} {am : Int} (h : numW u = some a) (hb : ¬ 4 ≤ a) (hc : cpnO f x.segs = some cc) (hm : amtO f x.segs = some am) (ho : codO f x.segs = none) : tailPK x f k t u = (pd0, 101) := by
  rw [tp_go h hb, restR_is, hc, hm, ho]; rfl
theorem tail_end {x : WD} {f : Bool × Bool × Bool} {k a : Nat} {t u : Str} {cc : CD} {am co : Int} (h : numW u = some a) (hb : ¬ 4 ≤ a) (hc : cpnO f x.segs = some cc) (hm : amtO f x.segs = some am) (ho : codO f x.segs = some co) :
    tailPK x f k t u = if x.segs.length ≠ at3 f ∨ mayR ⟨k, (parse7 t).1.1, (parse7 t).1.2, a, cc, am, co⟩ = false then (pd0, 101) else (⟨x.fr, x.dst, false, x.rf, ⟨k, (parse7 t).1.1, (parse7 t).1.2, a, cc, am, co⟩⟩, 0) := by
  rw [tp_go h hb, restR_is, hc, hm, ho]
  simp only [Option.bind_some]
  by_cases hx : x.segs.length ≠ at3 f ∨ mayR ⟨k, (parse7 t).1.1, (parse7 t).1.2, a, cc, am, co⟩ = false
  · rw [if_pos hx, if_pos hx]
  · rw [if_neg hx, if_neg hx]
theorem at_bounds (f : Bool × Bool × Bool) : at1 f ≤ 3 ∧ at2 f ≤ 4 ∧ at3 f ≤ 5 := by
  obtain ⟨a, b, c⟩ := f
  cases a <;> cases b <;> cases c <;> decide
def setL : List Value → Nat → List Value → List Value
  | cs, _, [] => cs
  | cs, i, v :: vs => setL (cs.set i v) (i + 1) vs
theorem setL_heap {g : Nat} {t : TypeId} : ∀ (vs cs : List Value) (w : World) (i : Nat), w.heap[g]? = some (.cells cs.toArray t (0, 0)) → (w.setCells g i vs).heap[g]? = some (.cells (setL cs i vs).toArray t (0, 0))
  | [], _, _, _, h => h
  | v :: vs, cs, w, i, h => by
    refine setL_heap vs (cs.set i v) (w.setCell ⟨g, i, none⟩ v) (i + 1) ?_
    rw [heap_setCell_same w g i _ _ _ h, List.setIfInBounds_toArray]
theorem PSt.sets {B2 : Nat} {w2 wx : World} {q q' : PD} (h : PSt B2 w2 q wx) (i : Nat) (vs : List Value) (e : setL (pktA q) i vs = pktA q') : PSt B2 w2 q' (wx.setCells B2 i vs) :=
  ⟨putL_below (Nat.le_refl _) _ _ _ h.low, by rw [setL_heap vs _ _ _ h.row, e]⟩
/-- the key's words as they lie -/
theorem key_lie {S : Nat → Prop} {w : World} {vo : Option Addr} {n cap : Nat} {l : List Seg} {y : Seg} {t u : Str} (h : SegsAt S w (.slice vo n cap) l) (hy : l[1]? = some y) (he : y.elems = [[t], [u]]) :
    ∃ lb lo eb eo ec b1 o1 k1 b2 o2 k2, vo = some ⟨lb, lo, none⟩ ∧ S lb ∧ S eb ∧ S b1 ∧ S b2 ∧ w.cell? ⟨lb, lo + 2 + 1, none⟩ = some (.slice (some ⟨eb, eo, none⟩) 2 ec) ∧ w.cell? ⟨eb, eo, none⟩ = some (.slice (some ⟨b1, o1, none⟩) 1 k1) ∧ w.cell? ⟨eb, eo + 1, none⟩ = some (.slice (some ⟨b2, o2, none⟩) 1 k2) ∧
      w.cell? ⟨b1, o1, none⟩ = some (sv t) ∧ w.cell? ⟨b2, o2, none⟩ = some (sv u) := by
  obtain ⟨lb, lo, ev, hA, hlb, c0, c1, hel⟩ := h.get hy
  rw [he] at hel
  obtain ⟨ea, ec, rfl, _, _⟩ := hel.form
  obtain ⟨eb, eo, x1, hE, heb, d0, hc1⟩ := hel.get (k := 0) rfl
  obtain ⟨eb', eo', x2, hE', heb', d1, hc2⟩ := hel.get (k := 1) rfl
  obtain rfl : ea = some ⟨eb, eo, none⟩ := hE
  obtain ⟨rfl, rfl⟩ : eb = eb' ∧ eo = eo' := by injection hE' with h1; injection h1 with h1 h2; exact ⟨h1, h2⟩
  obtain ⟨a1, k1, rfl, _, _⟩ := hc1.form
  obtain ⟨a2, k2, rfl, _, _⟩ := hc2.form
  obtain ⟨b1, o1, hA1, hb1, g1⟩ := hc1.get (k := 0) rfl
  obtain ⟨b2, o2, hA2, hb2, g2⟩ := hc2.get (k := 0) rfl
  obtain rfl : a1 = some ⟨b1, o1, none⟩ := hA1
  obtain rfl : a2 = some ⟨b2, o2, none⟩ := hA2
  simp only [Nat.one_mul, Nat.add_zero] at c1 d0 g1 g2
  exact ⟨lb, lo, eb, eo, ec, b1, o1, k1, b2, o2, k2, hA, hlb, heb, hb1, hb2, c1, d0, d1, g1, g2⟩
theorem einfo_bool : (Tryz.prog.info? 4).map (fun i => (i.zero, i.size, i.bytes)) = some (some (.bool false), 1, 1) := by kernel_rfl
/-- a slice literal of answers -/
theorem wpList_bools {ops : Array Oper} {rest : List Oper} {o : Oper} {a : Act} {w : World} {Q : Exit → Act → World → Prop} (hg : o.guard = none) (len : Nat) (parts : Array (Nat × Operand)) (ho : o.op = .buildSlice 125 len parts) (ss : List Bool)
    (hn : ss.length = len) (hpos : 0 < len) (hsm : len ≤ 1000) (hp : (parts.map fun (i, x) => (i, a.eval x)).toList = ((ss.map Value.bool).zipIdx 0).map fun x => (x.2, x.1))
    (h : wpList Tryz.prog ops Q rest (a.put o.dst (.slice (some ⟨w.heap.size, 0, none⟩) len len)) (w.alloc (.cells (ss.map Value.bool).toArray 4))) : wpList Tryz.prog ops Q (o :: rest) a w := by
  obtain ⟨ie, hie, hiz, his, _⟩ := info_parts einfo_bool
  refine wpList_buildSlice hg 125 4 len parts ho (ss.map Value.bool).toArray ie _ Tryz.underlying125 hie hiz (by rw [his]; omega) (by rw [his]; omega) ?_ h
  rw [his, hp]
  exact Great.fill_flat _ _ (fun v hv => by obtain ⟨s, _, rfl⟩ := List.mem_map.1 hv; rfl) (by simp [hn])
theorem cdR_none {a b c d e f : Int} (h : 8 ≤ a ∨ 65535 < b ∨ 4294967295 < c ∨ 7 < e ∨ 4294967295 < f) : cdR [a, b, c, d, e, f] = none := by unfold cdR; simp only; rw [if_pos h]
theorem cdR_some {a b c e f : Nat} {d : Int} (h : ¬ (8 ≤ (a : Int) ∨ 65535 < (b : Int) ∨ 4294967295 < (c : Int) ∨ 7 < (e : Int) ∨ 4294967295 < (f : Int))) : cdR [(a : Int), (b : Int), (c : Int), d, (e : Int), (f : Int)] = some ⟨a, b, c, d, e, f⟩ := by
  unfold cdR; simp only; rw [if_neg h]; rfl
theorem cells6 {w : World} {B : Nat} {e : TypeId} {g cap : Nat} {x0 x1 x2 x3 x4 x5 : Value} (h : w.ownsRow B e 1 (.slice (some ⟨g, 0, none⟩) 6 cap) 6 [x0, x1, x2, x3, x4, x5]) :
    w.cell? ⟨g, 0, none⟩ = some x0 ∧ w.cell? ⟨g, 1, none⟩ = some x1 ∧ w.cell? ⟨g, 2, none⟩ = some x2 ∧ w.cell? ⟨g, 3, none⟩ = some x3 ∧ w.cell? ⟨g, 4, none⟩ = some x4 ∧ w.cell? ⟨g, 5, none⟩ = some x5 :=
  ⟨own_cell h rfl, own_cell h rfl, own_cell h rfl, own_cell h rfl, own_cell h rfl, own_cell h rfl⟩
theorem cpnO_yes {b c : Bool} {l : List Seg} {o : Option (List Int)} (h : segR tCPN gsC l[2]? = o) : cpnO (true, b, c) l = o.bind cdR := by unfold cpnO; simp [h]
theorem cpnO_none {b c : Bool} {l : List Seg} (h : segR tCPN gsC l[2]? = none) : cpnO (true, b, c) l = none := by rw [cpnO_yes h]; rfl
theorem cpnO_some {b c : Bool} {l : List Seg} {v : List Int} (h : segR tCPN gsC l[2]? = some v) : cpnO (true, b, c) l = cdR v := by rw [cpnO_yes h]; rfl
theorem amtO_none {a c : Bool} {l : List Seg} (h : segR tAMT [true] l[at1 (a, true, c)]? = none) : amtO (a, true, c) l = none := by unfold amtO; simp [h]
theorem amtO_some {a c : Bool} {l : List Seg} {v : Int} (h : segR tAMT [true] l[at1 (a, true, c)]? = some [v]) : amtO (a, true, c) l = some v := by unfold amtO; simp [h, amR]
theorem codO_none {a b : Bool} {l : List Seg} (h : segR tCOD [false] l[at2 (a, b, true)]? = none) : codO (a, b, true) l = none := by unfold codO; simp [h]
theorem codO_big {a b : Bool} {l : List Seg} {v : Int} (h : segR tCOD [false] l[at2 (a, b, true)]? = some [v]) (hb : 999 < v) : codO (a, b, true) l = none := by unfold codO; simp [h, coR, hb]
theorem codO_some {a b : Bool} {l : List Seg} {v : Int} (h : segR tCOD [false] l[at2 (a, b, true)]? = some [v]) (hb : ¬ 999 < v) : codO (a, b, true) l = some v := by
  unfold codO
  simp only [h, if_true, Option.bind_some, coR]
  rw [if_neg hb]
set_option maxRecDepth 100000 in
theorem cpn_build {ev : Operand → Value} {x y z u : Operand} {d : Option Tmp} {ty : TypeId} {ps : String} {af : Array Edge} {n1 n2 n3 n5 n6 : Nat} {v4 : Int} {w' : World} (h1 : ev x = .agg #[.int .u8 (n1 : Int), .int .u16 (n2 : Int), .int .u32 (n3 : Int)]) (h2 : ev y = .int .i64 v4) (h3 : ev z = .int .u8 (n5 : Int)) (h4 : ev u = .int .u32 (n6 : Int)) :
    (execOp ev { dst := d, op := .build 33 #[(0, x), (1, y), (2, z), (3, u)], type := ty, pos := ps, after := af, guard := none }).run Tryz.prog w' = .ok (.value (.agg #[.int .u8 (n1 : Int), .int .u16 (n2 : Int), .int .u32 (n3 : Int), .int .i64 v4, .int .u8 (n5 : Int), .int .u32 (n6 : Int)])) w' := by
  go_simp
theorem boolsAt_new (w : World) (gs : List Bool) : BoolsAt (w.alloc (.cells (gs.map Value.bool).toArray 4)) (.slice (some ⟨w.heap.size, 0, none⟩) gs.length gs.length) gs :=
  ⟨w.heap.size, rfl, by simp, fun i g hi => by rw [cell_of_row _ _ i _ _ _ (heap_alloc_new _ _), List.getElem?_toArray, List.getElem?_map, hi]; rfl⟩
end Go.Proofs.YtgfijlamhjjecaaGreatDoor

