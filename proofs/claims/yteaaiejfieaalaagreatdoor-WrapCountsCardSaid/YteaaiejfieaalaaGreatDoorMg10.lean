/-
  Texts WrapR, WrapH, WrapM, WrapN, WrapO, WrapG, WrapY, WrapZ, WrapI, one behind the other. No condition beyond those stated in each.
-/
import Derived.Test.YteaaiejfieaalaaGreatDoorMg9
import Derived.Test.YteaaiejfieaalaaGreatDoorMg7
import Derived.Test.YteaaiejfieaalaaGreatDoorMg8
import Derived.Test.YteaaiejfieaalaaGreatDoorRows
import Derived.Test.YteaaiejfieaalaaGreatDoorMg6
import Derived.LaidMore
import Derived.DataShut
import Derived.Lib.SmallJoins
import Derived.Stop.LaidErr
/-
  WrapR: contract of wrap.Print. No condition beyond those stated.
-/
namespace Go.Proofs.YteaaiejfieaalaaGreatDoor
open Go.RowKit
theorem segs_one {S : Nat → Prop} {w : World} {t : Str} {st : ByteArray} {es : List (List Str)} {ev : Value} (hst : (⟨t.toArray⟩ : ByteArray) = st) (he : ElemsAt S w ev es) (hS : ∀ k, S k → k < w.heap.size) :
    SegsAt (fun k => S k ∨ k = w.heap.size) (w.alloc (.cells #[.string st, ev] 36)) (.slice (some ⟨w.heap.size, 0, none⟩) 1 1) [⟨t, es⟩] := by
  refine ⟨some ⟨w.heap.size, 0, none⟩, 1, [ev], rfl, by simp, by decide, (fun e => by cases e), rfl, fun i s x h1 h2 => ?_, fun _ => ⟨w.heap.size, 0, rfl, .inr rfl, fun i s x h1 h2 => ?_⟩⟩
  · match i, h1, h2 with
    | 0, h1, h2 => simp at h1 h2; subst h1; subst h2; exact he.cong (fun k hk => .inl hk) (fun k hk => Below.heap_alloc _ _ _ (hS k hk))
    | i + 1, h1, _ => simp at h1
  · match i, h1, h2 with
    | 0, h1, h2 =>
      simp at h1 h2; subst h1; subst h2
      have hc := heap_alloc_new w (.cells #[.string st, ev] 36)
      exact ⟨by unfold sv; rw [hst]; exact cell_of_row _ _ 0 _ _ _ hc, cell_of_row _ _ 1 _ _ _ hc⟩
    | i + 1, h1, _ => simp at h1
theorem wrapT_len (a b c d f : Nat) (m : List Seg) (ha : a < 18446744073709551616) (hb : b < 18446744073709551616) (hc : c < 18446744073709551616) (hd : d < 18446744073709551616) (hf : f < 18446744073709551616) : (printT (wrapL a b c d f m)).length ≤ (printT m).length + 200 := by
  rw [roundT_eq]
  have h1 := dec_len20 ha
  have h2 := dec_len20 hb
  have h3 := dec_len20 hc
  have h4 := dec_len20 hd
  have h5 := dec_len20 hf
  unfold roundT unb unz
  simp only [List.length_append, List.length_cons, List.length_nil]
  omega
def WPrintQ (x : WD) (w : World) (e : Ending) (w' : World) : Prop := e = .returned (.tuple #[sv (wrapPrintE x).1, .int .i64 (wrapPrintE x).2]) ∧ Below w.heap.size w w'
set_option maxRecDepth 100000 in
set_option maxHeartbeats 8000000 in
theorem wPrint_any {S : Nat → Prop} (x : WD) (v : Value) (w : World) (hv : VarsOk w) (h1 : x.fr < 256) (h2 : x.dst < 256) (h3 : x.rf < 18446744073709551616) (hs : SegsAt S w v x.segs) (hS : ∀ k, S k → k < w.heap.size) (hP : x.segs.length ≤ 62 → (printT x.segs).length ≤ 1000000) :
    Calls Tryz.prog 15 #[wv x v] w fun e w' => WPrintQ x w e w' := by
  obtain ⟨fr, dst, rf, m⟩ := x
  simp only at h1 h2 h3 hs hP
  obtain ⟨B, hB⟩ : ∃ B, w.heap.size = B := ⟨_, rfl⟩
  have HBQ := Lib.hid hB
  have HS := Lib.hid hS
  have HV := Lib.hid hv
  have HSG := Lib.hid hs
  have HPL := Lib.hid hP
  obtain ⟨ao, cap, rfl, c1, c2⟩ := hs.form
  obtain ⟨n, hn⟩ : ∃ n, m.length = n := ⟨_, rfl⟩
  have HN := Lib.hid hn
  rw [hn] at c1 HSG ⊢
  unfold maxLen at c2
  unfold WPrintQ
  rw [hB]
  obtain ⟨w1, hw1⟩ : ∃ w1, w.alloc (.cells #[.int .u8 (fr : Int), .int .u8 (dst : Int), .int .u64 (rf : Int), .slice ao n cap] 25) = w1 := ⟨_, rfl⟩
  have hz1 : w1.heap.size = B + 1 := by rw [← hw1]; simp [hB]
  have HB1 : Hid (Below B w w1) := Lib.hid (by rw [← hw1, ← hB]; exact (Below.refl _ _).alloc (Nat.le_refl _) _)
  have hr1 : w1.heap[B]? = some (.cells #[.int .u8 (fr : Int), .int .u8 (dst : Int), .int .u64 (rf : Int), .slice ao n cap] 25 (0, 0)) := by rw [← hw1, ← hB]; exact heap_alloc_new _ _
  have HR1 := Lib.hid hr1
  obtain ⟨⟨d0, d1, d2, d3⟩, _⟩ := cells4 hr1
  have HZ1 := Lib.hid hz1
  have HW1 := Lib.hid hw1
  have wr1 : IntKind.u64.wrap (fr : Int) = (fr : Int) := by rw [IntKind.wrap_u64]; omega
  have wr2 : IntKind.u64.wrap (dst : Int) = (dst : Int) := by rw [IntKind.wrap_u64]; omega
  clear hB hs hS hv hP hn hz1 hw1 hr1
  by_cases g1 : 8 ≤ fr
  · skip
    have i1 : decide ((8 : Int) ≤ (fr : Int)) = true := by rw [decide_eq_true_eq]; omega
    have hE : wrapPrintE ⟨fr, dst, rf, m⟩ = ([], 1) := by unfold wrapPrintE; rw [if_pos (.inl g1)]
    have HE := Lib.hid hE
    clear hE
    unfold wv
    go_enter Tryz.func15, Tryz.ntmps15
    go_upto_region 1 with fail
    rw [HW1.out, HBQ.out]
    go_wp2_with fail
    go_ret2
    rw [HE.out]
    exact ⟨rfl, HB1.out⟩
  have i1 : decide ((8 : Int) ≤ (fr : Int)) = false := by rw [decide_eq_false_iff_not]; omega
  by_cases g2 : 8 ≤ dst
  · skip
    have i2 : decide ((8 : Int) ≤ (dst : Int)) = true := by rw [decide_eq_true_eq]; omega
    have hE : wrapPrintE ⟨fr, dst, rf, m⟩ = ([], 1) := by unfold wrapPrintE; rw [if_pos (.inr g2)]
    have HE := Lib.hid hE
    clear hE
    unfold wv
    go_enter Tryz.func15, Tryz.ntmps15
    go_upto_region 1 with fail
    rw [HW1.out, HBQ.out]
    go_wp2_with fail
    go_ret2
    rw [HE.out]
    exact ⟨rfl, HB1.out⟩
  have i2 : decide ((8 : Int) ≤ (dst : Int)) = false := by rw [decide_eq_false_iff_not]; omega
  by_cases g3 : 62 < n
  · skip
    have i3 : decide ((62 : Int) < (n : Int)) = true := by rw [decide_eq_true_eq]; omega
    have hE : wrapPrintE ⟨fr, dst, rf, m⟩ = ([], 2) := by unfold wrapPrintE; rw [if_neg (by simp only; omega), if_pos (by simp only; rw [HN.out]; exact g3)]
    have HE := Lib.hid hE
    clear hE
    unfold wv
    go_enter Tryz.func15, Tryz.ntmps15
    go_upto_region 1 with fail
    rw [HW1.out, HBQ.out]
    go_wp2_with fail
    go_ret2
    rw [HE.out]
    exact ⟨rfl, HB1.out⟩
  · skip
    have i3 : decide ((62 : Int) < (n : Int)) = false := by rw [decide_eq_false_iff_not]; omega
    have hE : wrapPrintE ⟨fr, dst, rf, m⟩ = printE (wrapL fr dst rf n rf m) := by unfold wrapPrintE; rw [if_neg (by simp only; omega), if_neg (by simp only; rw [HN.out]; exact g3), HN.out]
    have HE := Lib.hid hE
    have HT := Lib.hid (show (printT (wrapL fr dst rf n rf m)).length ≤ 1048576 by
      have e1 := wrapT_len fr dst rf n rf m (by omega) (by omega) h3 (by omega) h3
      have e2 := HPL.out (by rw [HN.out]; omega)
      omega)
    have wr3 : IntKind.u64.wrap (n : Int) = (n : Int) := by rw [IntKind.wrap_u64]; omega
    obtain ⟨w2, hw2⟩ : ∃ w2, w1.alloc (.cells #[.int .u64 (fr : Int), .int .u64 (dst : Int), .int .u64 (rf : Int)] 22) = w2 := ⟨_, rfl⟩
    have hz2 : w2.heap.size = B + 2 := by rw [← hw2]; simp [HZ1.out]
    have HB2 : Hid (Below (B + 1) w1 w2) := Lib.hid (by rw [← hw2, ← HZ1.out]; exact (Below.refl _ _).alloc (Nat.le_refl _) _)
    have hr2 : w2.heap[B + 1]? = some (.cells #[.int .u64 (fr : Int), .int .u64 (dst : Int), .int .u64 (rf : Int)] 22 (0, 0)) := by rw [← hw2, ← HZ1.out]; exact heap_alloc_new _ _
    have hv2 : VarsOk w2 := (HV.out.on HB1.out (by rw [HBQ.out]; exact Nat.le_refl _)).on HB2.out (by rw [HZ1.out]; exact Nat.le_refl _)
    have HSEG1 := Lib.hid (segment_any ⟨#[85, 78, 66]⟩ [fr, dst, rf] (B + 1) 0 3 w2 hv2 (by simp) (by simp; omega) (by simp) (by decide) (fun i u hu => by
      match i, hu with
      | 0, hu => simp at hu; subst hu; exact cell_of_row w2 (B + 1) 0 _ _ _ hr2
      | 1, hu => simp at hu; subst hu; exact cell_of_row w2 (B + 1) 1 _ _ _ hr2
      | 2, hu => simp at hu; subst hu; exact cell_of_row w2 (B + 1) 2 _ _ _ hr2
      | i + 3, hu => simp at hu))
    have HV2 := Lib.hid hv2
    have HZ2 := Lib.hid hz2
    have HW2 := Lib.hid hw2
    clear hE hw2 hz2 hr2 hv2
    unfold wv
    go_enter Tryz.func15, Tryz.ntmps15
    go_upto_region 1 with fail
    rw [HW1.out, HBQ.out]
    go_upto_region 6 with (go_at_call 29; rw [HW2.out, HZ1.out]; refine HSEG1.out.mono ?_; rintro e w3 ⟨ev1, rfl, he1, hb3⟩; rw [HZ2.out] at he1 hb3; have HEV1 := Lib.hid he1; have HB3 := Lib.hid hb3; clear he1 hb3)
    have hz3 := HB3.out.size
    rw [HZ2.out] at hz3
    obtain ⟨D, hD⟩ : ∃ D, w3.heap.size = D := ⟨_, rfl⟩
    obtain ⟨w4, hw4⟩ : ∃ w4, w3.alloc (.cells #[.string ⟨#[85, 78, 66]⟩, ev1] 36) = w4 := ⟨_, rfl⟩
    have HOG : Hid (OG (B + 2) w4 (.slice (some ⟨D, 0, none⟩) 1 1) [ev1] [⟨unb, nums [fr, dst, rf]⟩]) := Lib.hid (by
      rw [← hw4, ← hD]
      exact OG.one rfl (by omega) (HEV1.out.cong (fun k hk => hk.2) (fun _ _ => rfl)))
    have HB4 : Hid (Below (B + 2) w2 w4) := Lib.hid (by rw [← hw4]; exact HB3.out.trans ((Below.refl _ _).alloc (by omega) _))
    have HB5 : Hid (Below B w w4) := Lib.hid ((HB1.out.trans (HB2.out.mono (by omega))).trans (HB4.out.mono (by omega)))
    have hbx := (HB4.out.block B (by omega)).trans ((HB2.out.block B (by omega)).trans HR1.out)
    have HBX := Lib.hid hbx
    have hz4 : w4.heap.size = D + 1 := by rw [← hw4, ← hD]; simp
    have HZ4 := Lib.hid hz4
    obtain ⟨⟨d0, d1, d2, d3⟩, _⟩ := cells4 hbx
    have HSG4 : Hid (SegsAt S w4 (.slice ao n cap) m) := Lib.hid (HSG.out.cong (fun _ hk => hk) (fun k hk => HB5.out.block k (by rw [← HBQ.out]; exact HS.out k hk)))
    have HSD : Hid (∀ k, S k → k < D ∧ k ≠ D) := Lib.hid (fun k hk => by have h1 := HS.out k hk; rw [HBQ.out] at h1; omega)
    have HW4 := Lib.hid hw4
    have HDD := Lib.hid hD
    rw [hD] at hz3
    clear hw4 hD hbx hz4
    rw [HW4.out, HDD.out]
    go_upto_region 7 with ((with_reducible refine wpList_at (.call { callee := .builtin .append, args := #[.tmp 30, .tmp 32], argTypes := #[23, 23] }) rfl ?_); go_loud (refine wp_app_og _ _ rfl rfl rfl rfl HOG.out HSG4.out (fun k hk => ⟨by rw [HZ4.out]; have := HSD.out k hk; omega, fun e => by cases e; exact (HSD.out _ hk).2 rfl⟩) (by rw [HN.out]; simp; omega) (by rw [HZ4.out]; omega) ?_); intro v5 w5 xs5 ho5 hb5; have HO5 := Lib.hid ho5; have HB6 := Lib.hid hb5; clear ho5 hb5)
    have hz5 := HB6.out.size
    rw [HZ4.out] at hz5
    have hbx5 := (HB6.out.block B (by omega)).trans HBX.out
    obtain ⟨⟨q0, q1, q2, q3⟩, _⟩ := cells4 hbx5
    obtain ⟨E, hE5⟩ : ∃ E, w5.heap.size = E := ⟨_, rfl⟩
    obtain ⟨w6, hw6⟩ : ∃ w6, w5.alloc (.cells #[.int .u64 (n : Int), .int .u64 (rf : Int)] 22) = w6 := ⟨_, rfl⟩
    have hz6 : w6.heap.size = E + 1 := by rw [← hw6]; simp [hE5]
    have hr6 : w6.heap[E]? = some (.cells #[.int .u64 (n : Int), .int .u64 (rf : Int)] 22 (0, 0)) := by rw [← hw6, ← hE5]; exact heap_alloc_new _ _
    have HB7 : Hid (Below E w5 w6) := Lib.hid (by rw [← hw6, ← hE5]; exact (Below.refl _ _).alloc (Nat.le_refl _) _)
    have HB8 : Hid (Below B w w6) := Lib.hid ((HB5.out.trans (HB6.out.mono (by omega))).trans (HB7.out.mono (by rw [← hE5]; omega)))
    have hv6 : VarsOk w6 := HV.out.on HB8.out (by rw [HBQ.out]; exact Nat.le_refl _)
    have HSEG2 := Lib.hid (segment_any ⟨#[85, 78, 90]⟩ [n, rf] E 0 2 w6 hv6 (by simp) (by simp; omega) (by simp) (by decide) (fun i u hu => by
      match i, hu with
      | 0, hu => simp at hu; subst hu; exact cell_of_row w6 E 0 _ _ _ hr6
      | 1, hu => simp at hu; subst hu; exact cell_of_row w6 E 1 _ _ _ hr6
      | i + 2, hu => simp at hu))
    have HZ6 := Lib.hid hz6
    have HW6 := Lib.hid hw6
    have HE5 := Lib.hid hE5
    rw [hE5] at hz5
    obtain ⟨sa, sc, rfl⟩ := own_slice HO5.out.row
    clear hw6 hz6 hr6 hv6 hE5 d0 d1 d2 d3 hbx5
    go_wp2_with (first
      | (go_at_call 29; rw [HW6.out, HE5.out]; refine HSEG2.out.mono ?_; rintro e w7 ⟨ev2, rfl, he2, hb7⟩; rw [HZ6.out] at he2 hb7; have HEV2 := Lib.hid he2; have HB9 := Lib.hid hb7; clear he2 hb7;
          have hz7 := HB9.out.size; rw [HZ6.out] at hz7;
          have HSG7 : Hid (SegsAt (fun k => (E ≤ k ∧ k < w7.heap.size) ∨ k = w7.heap.size) (w7.alloc (.cells #[.string ⟨#[85, 78, 90]⟩, ev2] 36)) (.slice (some ⟨w7.heap.size, 0, none⟩) 1 1) [⟨unz, nums [n, rf]⟩]) := Lib.hid (segs_one rfl (HEV2.out.cong (fun k hk => ⟨by omega, hk.2⟩) (fun _ _ => rfl)) (fun k hk => hk.2));
          have HB10 : Hid (Below E w5 (w7.alloc (.cells #[.string ⟨#[85, 78, 90]⟩, ev2] 36))) := Lib.hid ((HB7.out.trans (HB9.out.mono (by omega))).trans ((Below.refl _ _).alloc (by omega) _));
          have HO7 : Hid (OG (B + 2) (w7.alloc (.cells #[.string ⟨#[85, 78, 90]⟩, ev2] 36)) (.slice sa ([⟨unb, nums [fr, dst, rf]⟩] ++ m : List Seg).length sc) xs5 ([⟨unb, nums [fr, dst, rf]⟩] ++ m)) := Lib.hid (HO5.out.below (by rw [HE5.out]; exact HB10.out)))
      | ((with_reducible refine wpList_at (.call { callee := .builtin .append, args := #[.tmp 34, .tmp 43], argTypes := #[23, 23] }) rfl ?_); go_loud (refine wp_app_og _ _ rfl rfl rfl rfl HO7.out HSG7.out (fun k hk => ⟨by simp; omega, fun e => by have h1 := (own_lt HO5.out.row e).2; rw [HE5.out] at h1; rcases hk with hk | hk <;> omega⟩) (by simp [HN.out]; omega) (by simp; omega) ?_); intro v8 w8 xs8 ho8 hb8; have HO8 := Lib.hid ho8; have HB11 := Lib.hid hb8; clear ho8 hb8)
      | (go_at_call 18; refine (print_any w8 v8 _ (HO8.out.rest) HT.out).mono ?_; rintro e w9 ⟨rfl, hb9⟩; have HB12 := Lib.hid hb9; clear hb9))
    go_ret2
    rw [HE.out]
    have hz8 := HB11.out.size
    simp only [World.size_alloc] at hz8
    exact ⟨rfl, (((HB5.out.trans (HB6.out.mono (by omega))).trans (HB10.out.mono (by omega))).trans (HB11.out.mono (by omega))).trans (HB12.out.mono (by omega))⟩
end Go.Proofs.YteaaiejfieaalaaGreatDoor

/-
  WrapH: contract of law04's heavy. No condition beyond those stated.
-/
namespace Go.Proofs.YteaaiejfieaalaaGreatDoor
open Go.RowKit
def WHeavyQ (l : List Seg) (w : World) (e : Ending) (w' : World) : Prop := HeavyS l e ∧ Below w.heap.size w w'
set_option maxRecDepth 100000 in
set_option maxHeartbeats 4000000 in
theorem wheavy_any {S : Nat → Prop} (x : WD) (v : Value) (w : World) (h : SegsAt S w v x.segs) (hS : ∀ k, S k → k < w.heap.size) : Calls Tryz.prog 13 #[wv x v] w fun e w' => WHeavyQ x.segs w e w' := by
  obtain ⟨fr, dst, rf, l⟩ := x
  simp only at h ⊢
  obtain ⟨B, hB⟩ : ∃ B, w.heap.size = B := ⟨_, rfl⟩
  have HBQ := Lib.hid hB
  have HSS := Lib.hid hS
  obtain ⟨ao, cap, rfl, h1, h2⟩ := h.form
  unfold maxLen at h2
  unfold WHeavyQ wv
  rw [hB]
  simp only
  obtain ⟨n, hn⟩ : ∃ n, l.length = n := ⟨_, rfl⟩
  have HN := Lib.hid hn
  rw [hn] at h1 ⊢
  obtain ⟨w1, hw1⟩ : ∃ w1, w.alloc (.cells #[.int .u8 (fr : Int), .int .u8 (dst : Int), .int .u64 (rf : Int), .slice ao n cap] 25) = w1 := ⟨_, rfl⟩
  have hz1 : w1.heap.size = B + 1 := by rw [← hw1]; simp [hB]
  have HB1 : Hid (Below B w w1) := Lib.hid (by rw [← hw1, ← hB]; exact (Below.refl _ _).alloc (Nat.le_refl _) _)
  have hr1 : w1.heap[B]? = some (.cells #[.int .u8 (fr : Int), .int .u8 (dst : Int), .int .u64 (rf : Int), .slice ao n cap] 25 (0, 0)) := by rw [← hw1, ← hB]; exact heap_alloc_new _ _
  obtain ⟨⟨_, _, _, d3⟩, _⟩ := cells4 hr1
  have HSG : Hid (SegsAt S w1 (.slice ao n cap) l) := Lib.hid (by
    have h' := h
    rw [hn] at h'
    exact h'.cong (fun _ hk => hk) (fun k hk => HB1.out.block k (by rw [← hB]; exact hS k hk)))
  have HD3 := Lib.hid d3
  have HZ1 := Lib.hid hz1
  have HW1 := Lib.hid hw1
  have HSB : Hid (∀ k, S k → k < B) := Lib.hid (by rw [← hB]; exact hS)
  clear hB hS h hn hz1 hw1 hr1
  by_cases h12 : n ≤ 80
  · have h12i : decide ((80 : Int) < (n : Int)) = false := by rw [decide_eq_false_iff_not]; omega
    go_enter Tryz.func13, Tryz.ntmps13
    go_upto_region 1 with fail
    rw [HW1.out, HBQ.out]
    go_wp2_with fail
    clear d3 h12i
    go_loopw [3, 4] (fun c i wr => ∃ (k N : Nat), k ≤ n ∧ N ≤ 3000 ∧ i = .int .i64 (k : Int) ∧ c = .int .i64 (N : Int) ∧ Hid (N = bytesL (l.take k)) ∧ Hid (∀ s ∈ l.take k, (s.tag.length ≤ 300 ∧ s.elems.length ≤ 40) ∧ ∀ e ∈ s.elems, e.length ≤ 40) ∧ Hid (Below (B + 1) w1 wr)) (fun _ i _ => n - (intOf i).toNat)
    case atStart => exact ⟨0, 0, Nat.zero_le _, Nat.zero_le _, rfl, rfl, Lib.hid rfl, Lib.hid (by simp), Lib.hid (Below.refl _ _)⟩
    case round =>
      obtain ⟨k, N, hk, hN, rfl, rfl, HB, HA, HBR⟩ := hrel
      have d3 := (HBR.out.cell (p := ⟨B, 3, none⟩) (Nat.lt_succ_self _)).trans HD3.out
      have hzr := HBR.out.size
      rw [HZ1.out] at hzr
      by_cases hlt : k < n
      · skip
        obtain ⟨s, hs⟩ : ∃ s, l[k]? = some s := ⟨_, List.getElem?_eq_getElem (by rw [HN.out]; exact hlt)⟩
        obtain ⟨b, off, x, rfl, hSb, c0, c1, hel⟩ := HSG.out.get hs
        have hbB := HSB.out b hSb
        obtain ⟨t, es⟩ := s
        obtain ⟨eo, ecap, rfl, he1, he2⟩ := hel.form
        have HS := Lib.hid hs
        obtain ⟨st, hst⟩ : ∃ st : ByteArray, (⟨t.toArray⟩ : ByteArray) = st := ⟨_, rfl⟩
        have hss : st.size = t.length := by rw [← hst]; rfl
        obtain ⟨m0, hm0⟩ : ∃ m0, es.length = m0 := ⟨_, rfl⟩
        simp only [sv, hst, hm0] at c0 c1 he1 hel
        have HM0 := Lib.hid hm0
        unfold maxLen at he2
        have e0 := (HBR.out.cell (p := ⟨b, off + k * 2, none⟩) (by simp; omega)).trans c0
        have e1 := (HBR.out.cell (p := ⟨b, off + k * 2 + 1, none⟩) (by simp; omega)).trans c1
        obtain ⟨w2, hw2⟩ : ∃ w2, wr.alloc (.cells #[.string st, .slice eo m0 ecap] 36) = w2 := ⟨_, rfl⟩
        obtain ⟨Hs, hHs⟩ : ∃ z, wr.heap.size = z := ⟨_, rfl⟩
        have hr2 : w2.heap[Hs]? = some (.cells #[.string st, .slice eo m0 ecap] 36 (0, 0)) := by rw [← hw2, ← hHs]; exact heap_alloc_new _ _
        have s0 : w2.cell? ⟨Hs, 0, none⟩ = some (.string st) := cell_of_row w2 Hs 0 _ _ _ hr2
        have s1 : w2.cell? ⟨Hs, 1, none⟩ = some (.slice eo m0 ecap) := cell_of_row w2 Hs 1 _ _ _ hr2
        have HB2 : Hid (Below (B + 1) w1 w2) := Lib.hid (by rw [← hw2]; exact HBR.out.alloc hzr _)
        have HEL : Hid (ElemsAt S w2 (.slice eo m0 ecap) es) := Lib.hid (hel.cong (fun _ hk => hk) (fun k hk => HB2.out.block k (by have := HSB.out k hk; omega)))
        have HW2 := Lib.hid hw2
        have HHS := Lib.hid hHs
        have HBF : Hid (Below B w w2) := Lib.hid (HB1.out.trans (HB2.out.mono (by omega)))
        have b1 : (0 : Int) ≤ k := by omega
        have b2 : (k : Int) < n := by omega
        clear hs hel hst hm0 c0 c1 hSb hbB hw2 hr2
        by_cases h300 : t.length ≤ 300
        · have h300i : decide ((300 : Int) < (st.size : Int)) = false := by rw [decide_eq_false_iff_not]; omega
          by_cases h40 : m0 ≤ 40
          · have h40i : decide ((40 : Int) < (m0 : Int)) = false := by rw [decide_eq_false_iff_not]; omega
            clear hss
            go_upto_region 8 with fail
            rw [HW2.out]
            clear d3 e0 e1 hHs
            go_wp2_with fail
            clear s0 h300i h40i
            go_loop [3, 6] (fun c i => ∃ (k2 N2 : Nat), k2 ≤ m0 ∧ N2 ≤ 3000 ∧ i = .int .i64 (k2 : Int) ∧ c = .int .i64 (N2 : Int) ∧ Hid (N2 = N + bytesE (es.take k2)) ∧ Hid (∀ e ∈ es.take k2, e.length ≤ 40)) (fun _ i => m0 - (intOf i).toNat)
            case atStart => exact ⟨0, N, Nat.zero_le _, hN, rfl, rfl, Lib.hid rfl, Lib.hid (by simp)⟩
            case round =>
              obtain ⟨k2, N2, hk2, hN2, rfl, rfl, HB2', HA2⟩ := hrel
              by_cases hlt2 : k2 < m0
              · obtain ⟨e, he⟩ : ∃ e, es[k2]? = some e := ⟨_, List.getElem?_eq_getElem (by rw [HM0.out]; exact hlt2)⟩
                obtain ⟨b2', off2, x2, rfl, _, d0, hco⟩ := HEL.out.get he
                obtain ⟨co, ccap, rfl, hc1, hc2⟩ := hco.form
                have HCO := Lib.hid hco
                have HE := Lib.hid he
                obtain ⟨q0, hq0⟩ : ∃ q0, e.length = q0 := ⟨_, rfl⟩
                rw [hq0] at d0 hc1 HCO
                have HQ0 := Lib.hid hq0
                unfold maxLen at hc2
                have b3 : (0 : Int) ≤ k2 := by omega
                have b4 : (k2 : Int) < m0 := by omega
                clear he hco hq0
                by_cases h40c : q0 ≤ 40
                · have h40ci : decide ((40 : Int) < (q0 : Int)) = false := by rw [decide_eq_false_iff_not]; omega
                  go_wp2_with fail
                  clear h40ci
                  go_loop [3, 7] (fun c i => ∃ (k3 N3 : Nat), k3 ≤ q0 ∧ N3 ≤ 3000 ∧ i = .int .i64 (k3 : Int) ∧ c = .int .i64 (N3 : Int) ∧ Hid (N3 = N2 + bytesC (e.take k3))) (fun _ i => q0 - (intOf i).toNat)
                  case atStart => exact ⟨0, N2, Nat.zero_le _, hN2, rfl, rfl, Lib.hid rfl⟩
                  case round =>
                    obtain ⟨k3, N3, hk3, hN3, rfl, rfl, HB3⟩ := hrel
                    by_cases hlt3 : k3 < q0
                    · obtain ⟨p, hp⟩ : ∃ p, e[k3]? = some p := ⟨_, List.getElem?_eq_getElem (by rw [HQ0.out]; exact hlt3)⟩
                      obtain ⟨b3', off3, rfl, _, g0⟩ := HCO.out.get hp
                      obtain ⟨sp, hsp⟩ : ∃ sp : ByteArray, (⟨p.toArray⟩ : ByteArray) = sp := ⟨_, rfl⟩
                      have hspl : sp.size = p.length := by rw [← hsp]; rfl
                      simp only [sv, hsp] at g0
                      have HP := Lib.hid hp
                      have HSP := Lib.hid hspl
                      have b5 : (0 : Int) ≤ k3 := by omega
                      have b6 : (k3 : Int) < q0 := by omega
                      clear hp hsp hspl
                      by_cases h3k : sp.size ≤ 3000 - N3
                      · have h3ki : decide (3000 - (N3 : Int) < (sp.size : Int)) = false := by rw [decide_eq_false_iff_not]; omega
                        go_wp2_with fail
                        go_round
                        case rel => exact ⟨k3 + 1, N3 + sp.size, by omega, by omega, by go_num, by go_num, Lib.hid (by
                          have := sum_take List.length HP.out
                          rw [HB3.out, HSP.out]; unfold bytesC; rw [this]; omega)⟩
                        case measure => simp [intOf]; omega
                      · have h3ki : decide (3000 - (N3 : Int) < (sp.size : Int)) = true := by rw [decide_eq_true_eq]; omega
                        go_wp2_with fail
                        go_ret
                        exact ⟨HeavyS.yes l, HBF.out⟩
                    · obtain rfl : k3 = q0 := by omega
                      go_wp2_with fail
                      go_round
                      case rel => exact ⟨k2 + 1, N3, by omega, by omega, by go_num, rfl, Lib.hid (by
                        have h1 := sum_take bytesC HE.out
                        have h2 : e.take k3 = e := List.take_of_length_le (by rw [HQ0.out]; exact Nat.le_refl _)
                        rw [HB3.out, HB2'.out, h2]; unfold bytesE; rw [h1]; omega), Lib.hid (fun y hy => by
                        rw [List.take_add_one, HE.out] at hy
                        rcases List.mem_append.1 hy with hy | hy
                        · exact HA2.out y hy
                        · simp at hy; subst hy; rw [HQ0.out]; exact h40c)⟩
                      case measure => simp [intOf]; omega
                · have h40ci : decide ((40 : Int) < (q0 : Int)) = true := by rw [decide_eq_true_eq]; omega
                  go_wp2_with fail
                  go_ret
                  exact ⟨HeavyS.yes l, HBF.out⟩
              · obtain rfl : k2 = m0 := by omega
                go_wp2_with fail
                go_roundw
                case rel =>
                  have h2 : es.take k2 = es := List.take_of_length_le (by rw [HM0.out]; exact Nat.le_refl _)
                  exact ⟨k + 1, N2, by omega, by omega, by go_num, rfl, Lib.hid (by
                    have h1 := sum_take (fun s : Seg => bytesE s.elems) HS.out
                    rw [HB2'.out, HB.out, h2]; unfold bytesL; rw [h1]), Lib.hid (fun y hy => by
                    rw [List.take_add_one, HS.out] at hy
                    rcases List.mem_append.1 hy with hy | hy
                    · exact HA.out y hy
                    · simp at hy; subst hy; exact ⟨⟨h300, by rw [HM0.out]; exact h40⟩, by have := HA2.out; rw [h2] at this; exact this⟩), HB2⟩
                case measure => simp [intOf]; omega
          · have h40i : decide ((40 : Int) < (m0 : Int)) = true := by rw [decide_eq_true_eq]; omega
            clear hss
            go_upto_region 8 with fail
            rw [HW2.out]
            clear d3 e0 e1 hHs
            go_wp2_with fail
            go_ret
            exact ⟨HeavyS.yes l, HBF.out⟩
        · have h300i : decide ((300 : Int) < (st.size : Int)) = true := by rw [decide_eq_true_eq]; omega
          clear hss
          go_upto_region 8 with fail
          rw [HW2.out]
          clear d3 e0 e1 hHs
          go_wp2_with fail
          go_ret
          exact ⟨HeavyS.yes l, HBF.out⟩
      · obtain rfl : k = n := by omega
        go_wp2_with fail
        go_ret
        have h2 : l.take k = l := List.take_of_length_le (by rw [HN.out]; exact Nat.le_refl _)
        have hA := HA.out
        have hb := HB.out
        rw [h2] at hA hb
        exact ⟨⟨false, rfl, fun _ => ⟨by rw [HN.out]; exact h12, fun s hs => (hA s hs).1, fun s hs => (hA s hs).2, by omega⟩⟩, HB1.out.trans (HBR.out.mono (by omega))⟩
  · have h12i : decide ((80 : Int) < (n : Int)) = true := by rw [decide_eq_true_eq]; omega
    go_enter Tryz.func13, Tryz.ntmps13
    go_upto_region 1 with fail
    rw [HW1.out, HBQ.out]
    go_wp2_with fail
    go_ret
    exact ⟨HeavyS.yes l, HB1.out⟩
end Go.Proofs.YteaaiejfieaalaaGreatDoor

/-
  WrapM: contract of the reference's Same: two interchanges. No condition beyond those stated.
-/
namespace Go.Proofs.YteaaiejfieaalaaGreatDoor
open Go.RowKit
def wsameB (a b : WD) : Bool := decide (a.fr = b.fr) && (decide (a.dst = b.dst) && (decide (a.rf = b.rf) && sameB a.segs b.segs))
theorem wsame_iff {a b : WD} : wsameB a b = true ↔ a = b := by
  obtain ⟨a1, a2, a3, a4⟩ := a
  obtain ⟨b1, b2, b3, b4⟩ := b
  unfold wsameB sameB
  simp
def WSameQ (b : Bool) (w : World) (e : Ending) (w' : World) : Prop := e = .returned (.bool b) ∧ Below w.heap.size w w'
theorem WSameQ.no {a b : WD} {w w' : World} (h : a ≠ b) (hb : Below w.heap.size w w') : WSameQ (wsameB a b) w (.returned (.bool false)) w' :=
  ⟨ret_bool (by cases hc : wsameB a b with
    | true => exact absurd (wsame_iff.1 hc) h
    | false => rfl), hb⟩
set_option maxRecDepth 100000 in
set_option maxHeartbeats 4000000 in
theorem wsame_any {S T : Nat → Prop} (a b : WD) (v v' : Value) (w : World) (h : SegsAt S w v a.segs) (h' : SegsAt T w v' b.segs) (hS : ∀ k, S k → k < w.heap.size) (hT : ∀ k, T k → k < w.heap.size) :
    Calls Tryz.prog 11 #[wv a v, wv b v'] w fun e w' => WSameQ (wsameB a b) w e w' := by
  obtain ⟨w1, hw1⟩ : ∃ w1, w.alloc (.cells #[.int .u8 (a.fr : Int), .int .u8 (a.dst : Int), .int .u64 (a.rf : Int), v] 25) = w1 := ⟨_, rfl⟩
  obtain ⟨w2, hw2⟩ : ∃ w2, w1.alloc (.cells #[.int .u8 (b.fr : Int), .int .u8 (b.dst : Int), .int .u64 (b.rf : Int), v'] 25) = w2 := ⟨_, rfl⟩
  obtain ⟨B, hB⟩ : ∃ B, w.heap.size = B := ⟨_, rfl⟩
  have hz1 : w1.heap.size = B + 1 := by rw [← hw1]; simp [hB]
  have HB1 : Hid (Below B w w1) := Lib.hid (by rw [← hw1, ← hB]; exact (Below.refl _ _).alloc (Nat.le_refl _) _)
  have HB2 : Hid (Below (B + 1) w1 w2) := Lib.hid (by rw [← hw2, ← hz1]; exact (Below.refl _ _).alloc (Nat.le_refl _) _)
  have hr1 : w2.heap[B]? = some (.cells #[.int .u8 (a.fr : Int), .int .u8 (a.dst : Int), .int .u64 (a.rf : Int), v] 25 (0, 0)) := (HB2.out.block B (by omega)).trans (by rw [← hw1, ← hB]; exact heap_alloc_new _ _)
  have hr2 : w2.heap[B + 1]? = some (.cells #[.int .u8 (b.fr : Int), .int .u8 (b.dst : Int), .int .u64 (b.rf : Int), v'] 25 (0, 0)) := by rw [← hw2, ← hz1]; exact heap_alloc_new _ _
  have HBB : Hid (Below B w w2) := Lib.hid (HB1.out.trans (HB2.out.mono (by omega)))
  have HSM := Lib.hid (same_any w2 (h.cong (fun _ hk => hk) (fun k hk => HBB.out.block k (by rw [← hB]; exact hS k hk))) (h'.cong (fun _ hk => hk) (fun k hk => HBB.out.block k (by rw [← hB]; exact hT k hk))))
  obtain ⟨⟨c0, c1, c2, c3⟩, _⟩ := cells4 hr1
  obtain ⟨⟨g0, g1, g2, g3⟩, _⟩ := cells4 hr2
  obtain ⟨ao, cap, rfl, _, _⟩ := h.form
  obtain ⟨ao', cap', rfl, _, _⟩ := h'.form
  have HBQ := Lib.hid hB
  have HW1 := Lib.hid hw1
  have HW2 := Lib.hid hw2
  have HZ1 := Lib.hid hz1
  have HZ2 : Hid (w2.heap.size = B + 2) := Lib.hid (by rw [← hw2]; simp [hz1])
  clear hB hw1 hw2 hz1 hr1 hr2 h h' hS hT
  unfold wv
  obtain ⟨R, hR⟩ : ∃ R, wsameB a b = R := ⟨_, rfl⟩
  have HR := Lib.hid hR
  have HNO : Hid (∀ w', a ≠ b → Below B w w' → WSameQ R w (.returned (.bool false)) w') := Lib.hid (fun w' h1 h2 => by rw [← hR]; exact WSameQ.no h1 (by rw [HBQ.out]; exact h2))
  rw [hR]
  clear hR
  by_cases e0 : a.fr = b.fr
  · by_cases e1 : a.dst = b.dst
    · by_cases e2 : a.rf = b.rf
      · have i0 : ((a.fr : Int) == (b.fr : Int)) = true := by rw [beq_iff_eq]; omega
        have i1 : ((a.dst : Int) == (b.dst : Int)) = true := by rw [beq_iff_eq]; omega
        have i2 : ((a.rf : Int) == (b.rf : Int)) = true := by rw [beq_iff_eq]; omega
        have HE : Hid (R = sameB a.segs b.segs) := Lib.hid (by rw [← HR.out]; unfold wsameB; rw [decide_eq_true e0, decide_eq_true e1, decide_eq_true e2]; rfl)
        clear e0 e1 e2
        go_enter Tryz.func11, Tryz.ntmps11
        go_upto_region 1 with fail
        rw [HW1.out, HW2.out, HBQ.out]
        go_wp2_with (go_at_call 28; refine HSM.out.mono ?_; rintro e w3 ⟨rfl, hd⟩; have HD := Lib.hid hd; clear hd)
        go_ret
        exact ⟨ret_bool HE.out.symm, by rw [HBQ.out]; exact HBB.out.trans (HD.out.below B)⟩
      · have i0 : ((a.fr : Int) == (b.fr : Int)) = true := by rw [beq_iff_eq]; omega
        have i1 : ((a.dst : Int) == (b.dst : Int)) = true := by rw [beq_iff_eq]; omega
        have i2 : ((a.rf : Int) == (b.rf : Int)) = false := by rw [beq_eq_false_iff_ne]; omega
        have hne : a ≠ b := fun e => e2 (by rw [e])
        clear e0 e1 e2
        go_enter Tryz.func11, Tryz.ntmps11
        go_upto_region 1 with fail
        rw [HW1.out, HW2.out, HBQ.out]
        go_wp2_with fail
        go_ret
        exact HNO.out _ hne HBB.out
    · have i0 : ((a.fr : Int) == (b.fr : Int)) = true := by rw [beq_iff_eq]; omega
      have i1 : ((a.dst : Int) == (b.dst : Int)) = false := by rw [beq_eq_false_iff_ne]; omega
      have hne : a ≠ b := fun e => e1 (by rw [e])
      clear e0 e1
      go_enter Tryz.func11, Tryz.ntmps11
      go_upto_region 1 with fail
      rw [HW1.out, HW2.out, HBQ.out]
      go_wp2_with fail
      go_ret
      exact HNO.out _ hne HBB.out
  · have i0 : ((a.fr : Int) == (b.fr : Int)) = false := by rw [beq_eq_false_iff_ne]; omega
    have hne : a ≠ b := fun e => e0 (by rw [e])
    clear e0
    go_enter Tryz.func11, Tryz.ntmps11
    go_upto_region 1 with fail
    rw [HW1.out, HW2.out, HBQ.out]
    go_wp2_with fail
    go_ret
    exact HNO.out _ hne HBB.out
end Go.Proofs.YteaaiejfieaalaaGreatDoor

/-
  WrapN: contract of law04's own: an interchange in memory of its own. No condition beyond those stated.
-/
namespace Go.Proofs.YteaaiejfieaalaaGreatDoor
open Go.RowKit
theorem OO.far {B B' : Nat} {w w' : World} {ov : Value} {xs : List Value} {l : List Seg} (h : OO B' w ov xs l) (hB : B ≤ B') (hz : w.heap.size ≤ w'.heap.size) (e : ∀ k, B' ≤ k → k < w.heap.size → w'.heap[k]? = w.heap[k]?) : OO B w' ov xs l := by
  have hr := own_cong h.row (fun k hk => e k (own_lt h.row hk).1 (own_lt h.row hk).2)
  refine ⟨?_, h.len, fun i s x h1 h2 => (h.el i s x h1 h2).cong (fun k hk => ⟨by omega, by omega, hk.2.2⟩) (fun k hk => e k hk.1 hk.2.1)⟩
  obtain ⟨a, b | ⟨g, cap, cur, r, hg, hh⟩⟩ := hr
  · exact ⟨a, .inl b⟩
  · exact ⟨a, .inr ⟨g, cap, cur, r, by omega, hh⟩⟩
def WOwnQ (x : WD) (w : World) (e : Ending) (w' : World) : Prop := ∃ v' xs, e = .returned (wv x v') ∧ OO w.heap.size w' v' xs x.segs ∧ Below w.heap.size w w'
theorem res_wrap1 {fn : Func} {p : Tmp} (h : fn.results = #[.cell p 25]) (tmps : Array Value) {w : World} {g : Nat} {cs : Array Value} {t : TypeId} (hp : tmps.getD p undef = .pointer (some ⟨g, 0, none⟩))
    (hg : w.heap[g]? = some (.cells cs t (0, 0))) (hs : cs.size = 4) : (results fn tmps).run Tryz.prog w = .ok (.agg cs) w := by
  rw [results_cell1 h, hp]
  have hl : (loadVar 25 ⟨g, 0, none⟩).run Tryz.prog w = .ok (.agg cs) w := run_loadVar_row w g t 25 cs (0, 0) _ hg Tryz.underlying25 rfl (by rw [hs]; kernel_rfl)
  simp [asAddr, hl, Result.andThen]
set_option maxRecDepth 100000 in
set_option maxHeartbeats 8000000 in
theorem wown_any {S : Nat → Prop} (x : WD) (v : Value) (w : World) (h : SegsAt S w v x.segs) (hS : ∀ k, S k → k < w.heap.size) (hP : (printT x.segs).length ≤ 1048576) :
    Calls Tryz.prog 14 #[wv x v] w fun e w' => WOwnQ x w e w' := by
  obtain ⟨fr, dst, rf, l⟩ := x
  simp only at h hP
  have hb := bds_of hP
  obtain ⟨ao, cap, rfl, h1, h2⟩ := h.form
  have H := Lib.hid (h.cong (T := Low w) hS (fun _ _ => rfl))
  have hn := hb.n
  have HBD := Lib.hid hb
  obtain ⟨n, hln⟩ : ∃ n, l.length = n := ⟨_, rfl⟩
  have HLN := Lib.hid hln
  rw [hln] at h1 hn H ⊢
  clear hb hP hln h hS
  unfold maxLen at h2
  obtain ⟨B0, hB0⟩ : ∃ B, w.heap.size = B := ⟨_, rfl⟩
  have HBQ0 := Lib.hid hB0
  unfold WOwnQ wv
  simp only
  rw [hB0]
  obtain ⟨wA, hw1⟩ : ∃ wA, w.alloc (.cells #[.int .u8 (fr : Int), .int .u8 (dst : Int), .int .u64 (rf : Int), .slice ao n cap] 25) = wA := ⟨_, rfl⟩
  obtain ⟨wB, hw2⟩ : ∃ wB, wA.alloc (.cells #[.int .u8 0, .int .u8 0, .int .u64 0, .slice none 0 0] 25) = wB := ⟨_, rfl⟩
  have hz1 : wA.heap.size = B0 + 1 := by rw [← hw1]; simp [hB0]
  have HB01 : Hid (Below B0 w wA) := Lib.hid (by rw [← hw1, ← hB0]; exact (Below.refl _ _).alloc (Nat.le_refl _) _)
  have HB02 : Hid (Below (B0 + 1) wA wB) := Lib.hid (by rw [← hw2, ← hz1]; exact (Below.refl _ _).alloc (Nat.le_refl _) _)
  have hr1 : wB.heap[B0]? = some (.cells #[.int .u8 (fr : Int), .int .u8 (dst : Int), .int .u64 (rf : Int), .slice ao n cap] 25 (0, 0)) := (HB02.out.block B0 (by omega)).trans (by rw [← hw1, ← hB0]; exact heap_alloc_new _ _)
  have hr2 : wB.heap[B0 + 1]? = some (.cells #[.int .u8 0, .int .u8 0, .int .u64 0, .slice none 0 0] 25 (0, 0)) := by rw [← hw2, ← hz1]; exact heap_alloc_new _ _
  have HB00 : Hid (Below B0 w wB) := Lib.hid (HB01.out.trans (HB02.out.mono (by omega)))
  obtain ⟨B, hBd⟩ : ∃ B, B = B0 + 2 := ⟨_, rfl⟩
  have hz2 : wB.heap.size = B := by rw [← hw2, hBd]; simp [hz1]
  have HR1 := Lib.hid hr1
  have HR2 := Lib.hid hr2
  have HBD0 := Lib.hid hBd
  have HW1 := Lib.hid hw1
  have HW2 := Lib.hid hw2
  have HZ1 := Lib.hid hz1
  have HBQ := Lib.hid hz2
  have HHH := H
  have H : Hid (SegsAt (fun k => k < B0) wB (.slice ao n cap) l) := Lib.hid (HHH.out.cong (fun k hk => by rw [← hB0]; exact hk) (fun k hk => HB00.out.block k (by rw [← hB0]; exact hk)))
  clear HHH hB0 hw1 hw2 hz1 hz2 hr1 hr2 HB01 HB02
  have hB0B : B0 + 2 = B := HBD0.out.symm
  obtain ⟨i1, hi1, hz10, hz11, hz12⟩ := info_parts einfo_str
  obtain ⟨i2, hi2, hz20, hz21, hz22⟩ := info_parts einfo_strs
  obtain ⟨i3, hi3, hz30, hz31, hz32⟩ := info_parts einfo_seg
  have HI1 := Lib.hid hi1
  have HZ10 := Lib.hid hz10
  have HZ11 := Lib.hid hz11
  have HZ12 := Lib.hid hz12
  have HI2 := Lib.hid hi2
  have HZ20 := Lib.hid hz20
  have HZ21 := Lib.hid hz21
  have HZ22 := Lib.hid hz22
  have HI3 := Lib.hid hi3
  have HZ30 := Lib.hid hz30
  have HZ31 := Lib.hid hz31
  have HZ32 := Lib.hid hz32
  clear hi1 hz10 hz11 hz12 hi2 hz20 hz21 hz22 hi3 hz30 hz31 hz32
  go_enter Tryz.func14, Tryz.ntmps14
  go_upto_region 1 with fail
  rw [HW1.out, HW2.out, HBQ0.out]
  go_wp2_with fail
  go_loopw [3, 4] (fun ov i wr => ∃ (k : Nat) (xs : List Value), k ≤ n ∧ i = .int .i64 (k : Int) ∧ Hid (OO B wr ov xs (l.take k)) ∧ Hid (Below B wB wr)) (fun _ i _ => n - (intOf i).toNat)
  case atStart => exact ⟨0, [], by omega, rfl, Lib.hid (OO.start _ _), Lib.hid (Below.refl _ _)⟩
  case round =>
    obtain ⟨k, xs, hk, rfl, HO, HBE⟩ := hrel
    have q0 := (cells4 ((HBE.out.block B0 (by omega)).trans HR1.out)).1.2.2.2
    by_cases hlt : k < n
    · skip
      obtain ⟨s, hs⟩ : ∃ s, l[k]? = some s := ⟨_, List.getElem?_eq_getElem (by rw [HLN.out]; exact hlt)⟩
      obtain ⟨sb, off, x, rfl, hsb, c0, c1, hel⟩ := H.out.get hs
      obtain ⟨t, es⟩ := s
      obtain ⟨eo, ecap, rfl, he1, he2⟩ := hel.form
      have HEL := Lib.hid hel
      have hsb' : sb < B := by omega
      have d0 := (HBE.out.cell (p := ⟨sb, off + k * 2, none⟩) hsb').trans c0
      have HC1 := Lib.hid c1
      have HS := Lib.hid hs
      have hbs := HBD.out.seg ⟨t, es⟩ (List.mem_of_getElem? hs)
      have HBE1 := Lib.hid (HBD.out.el ⟨t, es⟩ (List.mem_of_getElem? hs))
      have hws := HBE.out.size
      rw [HBQ.out] at hws
      obtain ⟨hbt, hbe, hbg⟩ := hbs
      obtain ⟨st, hst⟩ : ∃ st : ByteArray, (⟨t.toArray⟩ : ByteArray) = st := ⟨_, rfl⟩
      have HST := Lib.hid hst
      obtain ⟨m0, hm0⟩ : ∃ m0, es.length = m0 := ⟨_, rfl⟩
      have HM0 := Lib.hid hm0
      simp only [sv] at d0
      rw [hst] at d0
      simp only at he1 hbe HC1
      rw [hm0] at he1 hbe HC1
      unfold maxLen at he2
      clear hs hsb c0 c1 hel hst hm0 hbt hbg
      have b1 : (0 : Int) ≤ k := by omega
      have b2 : (k : Int) < n := by omega
      go_upto_region 6 with fail
      clear q0
      obtain ⟨Hz, hHz⟩ : ∃ z, wr.heap.size = z := ⟨_, rfl⟩
      obtain ⟨w2, hw2⟩ : ∃ w2, wr.alloc (.cells #[.string st, .slice none 0 0] 36) = w2 := ⟨_, rfl⟩
      have HE0 : Hid (OE Hz Hz st w2 (.slice none 0 0) [] []) := Lib.hid (OE.start (by rw [← hw2, ← hHz]; exact heap_alloc_new _ _))
      have HB0 : Hid (Below Hz wr w2) := Lib.hid (by rw [← hw2, ← hHz]; exact (Below.refl _ _).alloc (Nat.le_refl _) _)
      have hz2 : w2.heap.size = Hz + 1 := by rw [← hw2, ← hHz]; simp
      have HZ2 := Lib.hid hz2
      have HHZ := Lib.hid hHz
      rw [hHz, hw2]
      rw [hHz] at hws
      clear hw2 hHz hz2 d0
      go_wp2_with fail
      go_loopw [6] (fun i wx => ∃ (m : Nat) (ev : Value) (ys : List Value), m ≤ m0 ∧ i = .int .i64 (m : Int) ∧ Hid (OE Hz Hz st wx ev ys (es.take m)) ∧ Hid (Below Hz wr wx) ∧ Hz < wx.heap.size) (fun i _ => m0 - (intOf i).toNat)
      case atStart => exact ⟨0, _, [], by omega, rfl, HE0, HB0, by rw [HZ2.out]; omega⟩
      case round =>
        obtain ⟨m, ev, ys, hm, rfl, HE1, HB1, hzx⟩ := hrel
        clear HE0 HB0
        have q1 := (cells4 ((HB1.out.block B0 (by omega)).trans ((HBE.out.block B0 (by omega)).trans HR1.out))).1.2.2.2
        have d1 := (HB1.out.cell (p := ⟨sb, off + k * 2 + 1, none⟩) (show sb < Hz by omega)).trans ((HBE.out.cell (p := ⟨sb, off + k * 2 + 1, none⟩) hsb').trans HC1.out)
        by_cases hml : m < m0
        · skip
          obtain ⟨e, he⟩ : ∃ e, es[m]? = some e := ⟨_, List.getElem?_eq_getElem (by rw [HM0.out]; exact hml)⟩
          obtain ⟨eb, eoff, x2, rfl, heb, e0, hco⟩ := HEL.out.get he
          obtain ⟨ea, ecap2, rfl, hc1, hc2⟩ := hco.form
          have heb' : eb < B := by omega
          have hag : ∀ b, b < B → wr.heap[b]? = wB.heap[b]? := fun b hb => (HB1.out.block b (by omega)).trans (HBE.out.block b hb)
          have e1 := (cell_ag (j := eoff + m) (hag eb heb')).trans e0
          have HCO := Lib.hid (hco.cong (T := fun b => b < B) (fun b hb => by omega) (fun b hb => hag b (by omega)))
          obtain ⟨hne1, hne2⟩ := HBE1.out e (List.mem_of_getElem? he)
          have HE := Lib.hid he
          have hlm : (es.take m).length = m := by rw [List.length_take, HM0.out]; omega
          obtain ⟨eva, evc, rfl⟩ := own_slice HE1.out.row
          rw [hlm] at HE1
          obtain ⟨f0, f1, fz⟩ := HE1.out.cells
          obtain ⟨ne, hne⟩ : ∃ ne, e.length = ne := ⟨_, rfl⟩
          have HNE := Lib.hid hne
          rw [hne] at e1 hne1 hc1 HCO
          have b3 : (0 : Int) ≤ m := by omega
          have b4 : (m : Int) < m0 := by omega
          have HLM := Lib.hid hlm
          unfold maxLen at hc2
          clear he heb e0 hco hne hag hlm f0
          go_upto_region 9 with fail
          obtain ⟨wd, hwd⟩ : ∃ wd, wr.drew = wd := ⟨_, rfl⟩
          have hwh : wd.heap = wr.heap := by rw [← hwd]; rfl
          have HE2 := Lib.hid (HE1.out.drew hwh)
          have HB2 := Lib.hid (show Below wr.heap.size wr wd by rw [← hwd]; exact (Below.refl _ _).drew)
          have f1' : wd.cell? ⟨Hz, 1, none⟩ = some (.slice eva m evc) := (cell_ag (by rw [hwh])).trans f1
          have fz' : wd.frozen? ⟨Hz, 1, none⟩ = false := (fz_ag (by rw [hwh])).trans fz
          have q1' : wd.cell? ⟨B0, 3, none⟩ = some (.slice (some ⟨sb, off, none⟩) n cap) := (cell_ag (by rw [hwh])).trans q1
          have d1' : wd.cell? ⟨sb, off + k * 2 + 1, none⟩ = some (.slice (some ⟨eb, eoff, none⟩) m0 ecap) := (cell_ag (by rw [hwh])).trans d1
          have e1' : wd.cell? ⟨eb, eoff + m, none⟩ = some (.slice ea ne ecap2) := (cell_ag (by rw [hwh])).trans e1
          have HCO2 := Lib.hid (HCO.out.cong (T := fun b => b < B) (fun b hb => hb) (w' := wd) (fun b _ => by rw [hwh]))
          have HWS := Lib.hid (show wd.heap.size = wr.heap.size by rw [hwh])
          refine wp_region_planF 16 [(0, false), (1, false), (3, false), (4, false), (5, false), (6, false), (7, false), (8, false), (9, false), (10, false), (11, false), (2, true), (12, true), (13, true), (14, true), (15, false), (16, true)]
            (fun w' => w'.cell? ⟨Hz, 1, none⟩ = some (.slice eva m evc) ∧ w'.cell? ⟨sb, off + k * 2 + 1, none⟩ = some (.slice (some ⟨eb, eoff, none⟩) m0 ecap) ∧ w'.cell? ⟨eb, eoff + m, none⟩ = some (.slice ea ne ecap2) ∧ w'.cell? ⟨B0, 3, none⟩ = some (.slice (some ⟨sb, off, none⟩) n cap)) (by kernel_rfl) (by kernel_rfl) (by rw [hwd]; exact ⟨f1', d1', e1', q1'⟩) ?_
          rw [hwd]
          have HF1 := Lib.hid f1'
          have HFZ := Lib.hid fz'
          have HD1 := Lib.hid d1'
          have HE3 := Lib.hid e1'
          have HQ1 := Lib.hid q1'
          clear hwd hwh f1 fz d1 e1 q1 HE1 HCO f1' fz' d1' e1' q1'
          iterate 11 (refine' planF_val rfl rfl (fun w' hS => ?_) ?_; rotate_left; (focus (obtain ⟨hS1, hS2, hS3, hS4⟩ := hS; go_simp; rfl)); simp only [Act.put, List.setIfInBounds_toArray, List.set_cons_zero, List.set_cons_succ])
          refine planF_do rfl (fun K hK => ?_)
          go_wp2_with fail
          have KEEP : ∀ w' : World, (∀ b, b < wd.heap.size → w'.heap[b]? = wd.heap[b]?) → (w'.cell? ⟨Hz, 1, none⟩ = some (.slice eva m evc) ∧ w'.cell? ⟨sb, off + k * 2 + 1, none⟩ = some (.slice (some ⟨eb, eoff, none⟩) m0 ecap) ∧ w'.cell? ⟨eb, eoff + m, none⟩ = some (.slice ea ne ecap2) ∧ w'.cell? ⟨B0, 3, none⟩ = some (.slice (some ⟨sb, off, none⟩) n cap)) := fun w' hw' =>
            ⟨(cell_ag (hw' _ (cell_lt' HF1.out))).trans HF1.out, (cell_ag (hw' _ (cell_lt' HD1.out))).trans HD1.out, (cell_ag (hw' _ (cell_lt' HE3.out))).trans HE3.out, (cell_ag (hw' _ (cell_lt' HQ1.out))).trans HQ1.out⟩
          have HKEEP := Lib.hid KEEP
          clear KEEP
          refine hK _ _ (.inr (HKEEP.out _ (fun b hb => Below.heap_alloc _ _ _ hb))) ?_
          clear hK K
          obtain ⟨D, hD⟩ : ∃ D, wd.heap.size = D := ⟨_, rfl⟩
          obtain ⟨we, hwe⟩ : ∃ we, wd.alloc (.cells #[] 9) = we := ⟨_, rfl⟩
          have HOe : Hid (we.ownsRow D 9 1 (.slice (some ⟨D, 0, none⟩) 0 0) 0 []) := Lib.hid (by
            rw [← hwe, ← hD]
            exact ⟨rfl, .inr ⟨wd.heap.size, 0, #[], rfl, Nat.le_refl _, heap_alloc_new _ _, Nat.le_refl _, by decide, rfl, rfl⟩⟩)
          have HBe := Lib.hid (show Below D wd we by rw [← hwe, ← hD]; exact (Below.refl _ _).alloc (Nat.le_refl _) _)
          have hze : we.heap.size = D + 1 := by rw [← hwe, ← hD]; simp
          have HZE := Lib.hid hze
          have HDD := Lib.hid hD
          have hBD : B ≤ D := by have h1 := HWS.out; rw [← hD, h1]; omega
          have HCO3 := Lib.hid (HCO2.out.cong (T := fun b => b < B) (fun b hb => hb) (w' := we) (fun b hb => HBe.out.block b (by omega)))
          rw [hD, hwe]
          clear hD hwe hze
          refine planF_do rfl (fun K hK => ?_)
          refine wp_app_row rfl _ _ rfl rfl rfl HOe.out HCO3.out (by rw [HNE.out]; omega) (by rw [HZE.out]; omega) ?_
          intro cv wf hof hgf hkf
          rw [HNE.out, Nat.zero_add, List.nil_append] at hof
          obtain ⟨cva, cvc, rfl⟩ := own_slice hof
          have hzf := hgf.size
          rw [HZE.out] at hzf
          have HBf := Lib.hid (HBe.out.grown hgf (by rw [HZE.out]; omega) (fun b hb => by cases hb; exact Nat.le_refl _))
          have HCV : Hid (CompsAt (fun b => D ≤ b ∧ b < wf.heap.size) wf (.slice cva ne cvc) e) := Lib.hid (by
            have h1 : wf.ownsRow D 9 1 (.slice cva ne cvc) (e.map sv).length (e.map sv) := by rw [List.length_map, HNE.out]; exact hof
            exact own_rest h1 (fun b hb => own_lt hof hb))
          clear hof hgf hkf
          go_wp2_with fail
          refine hK _ _ (.inr (HKEEP.out _ (fun b hb => HBf.out.block b (by rw [← HDD.out]; exact hb)))) ?_
          clear hK K
          refine planF_do rfl (fun K hK => ?_)
          go_wp2_with fail
          refine hK _ _ (.inr (HKEEP.out _ (fun b hb => (Below.heap_alloc _ _ _ (by rw [HDD.out] at hb; omega)).trans (HBf.out.block b (by rw [← HDD.out]; exact hb))))) ?_
          clear hK K
          refine planF_do rfl (fun K hK => ?_)
          have hrow : wf.ownsRow Hz 53 1 (.slice eva m evc) m ys := by
            have h1 := HE2.out.row
            rw [HLM.out] at h1
            exact own_cong h1 (fun b hb => HBf.out.block b (by rw [← HDD.out]; exact (own_lt h1 hb).2))
          have HRW := Lib.hid hrow
          have hspD : Hz < D := by have h1 := HE2.out.lt; rw [HDD.out] at h1; exact h1
          clear hrow
          refine wpList_append_own_at _ rfl _ _ 34 rfl Hz 53 i2 (.slice none 0 0) 1 24 Tryz.underlying34 HI2.out HZ20.out HZ21.out HZ22.out rfl (by decide) _ _ _ rfl (HRW.out.alloc _) ⟨wf.heap.size, 0, none⟩ 1 1 [.slice cva ne cvc] rfl rfl (cell_one_new _ _ _) (by simp [Value.oneCell']) (by unfold maxLen; omega) (by omega) (by simp; omega) ?_
          intro ev' wg hog hgg _ hkg
          obtain ⟨ev'a, ev'c, rfl⟩ := own_slice hog
          have hgg' := grown_alloc hgg
          have hzg := hgg'.size
          have hne1 : (Value.slice eva m evc).ownBlock ≠ some Hz := own_not HE2.out.row HE2.out.c (by decide)
          have cg : wg.heap[Hz]? = some (.cells #[.string st, .slice eva m evc] 36 (0, 0)) := (hgg'.block Hz (by omega) (fun e => hne1 e.symm)).trans ((HBf.out.block Hz hspD).trans HE2.out.c)
          have cg1 : wg.cell? ⟨Hz, 1, none⟩ = some (.slice eva m evc) := cell_of_row wg Hz 1 _ _ _ cg
          have fg1 : wg.frozen? ⟨Hz, 1, none⟩ = false := frozen_of_row wg Hz 1 _ _ cg
          have HSTEP : Hid (OE Hz Hz st (wg.setCell ⟨Hz, 1, none⟩ (.slice ev'a (m + 1) ev'c)) (.slice ev'a (m + 1) ev'c) (ys ++ [.slice cva ne cvc]) (es.take m ++ [e])) := Lib.hid (by
            refine OE.step HE2.out (by rw [HDD.out]; omega) (by rw [HDD.out]; exact HBf.out) (by rw [HDD.out]; exact HCV.out) hgg' (by rw [HLM.out]; exact hog) ?_
            rcases hkg with h | h
            · exact .inl h
            · exact .inr ⟨_, h, by simp⟩)
          have hbel : ∀ b, b < wd.heap.size → (Value.slice eva m evc).ownBlock ≠ some b → wg.heap[b]? = wd.heap[b]? := fun b hb hne => (hgg'.block b (by rw [HDD.out] at hb; omega) (fun e => hne e.symm)).trans (HBf.out.block b (by rw [← HDD.out]; exact hb))
          have hnb : ∀ b, b < Hz → (Value.slice eva m evc).ownBlock ≠ some b := fun b hb he => by have := (own_lt HRW.out he).1; omega
          have KS : wg.cell? ⟨Hz, 1, none⟩ = some (.slice eva m evc) ∧ wg.cell? ⟨sb, off + k * 2 + 1, none⟩ = some (.slice (some ⟨eb, eoff, none⟩) m0 ecap) ∧ wg.cell? ⟨eb, eoff + m, none⟩ = some (.slice ea ne ecap2) ∧ wg.cell? ⟨B0, 3, none⟩ = some (.slice (some ⟨sb, off, none⟩) n cap) :=
            ⟨cg1, (cell_ag (hbel sb (cell_lt' HD1.out) (hnb sb (by omega)))).trans HD1.out, (cell_ag (hbel eb (cell_lt' HE3.out) (hnb eb (by omega)))).trans HE3.out, (cell_ag (hbel B0 (cell_lt' HQ1.out) (hnb B0 (by omega)))).trans HQ1.out⟩
          have HBG : Hid (Below Hz wr wg) := Lib.hid (by
            have h1 := (HBf.out.mono (show Hz ≤ D by omega))
            have h2 := HB2.out.mono (show Hz ≤ wr.heap.size by omega)
            have h3 := h2.trans h1
            exact h3.grown hgg' (by omega) (fun b hb => (own_lt HRW.out hb).1))
          have HKS := Lib.hid KS
          clear hog hgg hkg hgg' hne1 cg hbel hnb KS
          go_wp2_with fail
          refine hK _ _ (.inr HKS.out) ?_
          clear hK K
          iterate 1 (refine' planF_val rfl rfl (fun w' hS => ?_) ?_; rotate_left; (focus (obtain ⟨hS1, hS2, hS3, hS4⟩ := hS; go_simp; rfl)); simp only [Act.put, List.setIfInBounds_toArray, List.set_cons_zero, List.set_cons_succ])
          refine planF_do rfl (fun K hK => ?_)
          go_wp2_with fail
          refine hK _ _ (.inl trivial) ?_
          clear hK K
          refine planF_nil ?_
          clear cg1 fg1
          obtain ⟨wh, hwh⟩ : ∃ wh, wg.setCell ⟨Hz, 1, none⟩ (.slice ev'a (m + 1) ev'c) = wh := ⟨_, rfl⟩
          have hzh : wh.heap.size = wg.heap.size := by rw [← hwh]; simp
          have HBH : Hid (Below Hz wr wh) := Lib.hid (by rw [← hwh]; exact HBG.out.setCell (Nat.le_refl _) _)
          rw [hwh] at HSTEP ⊢
          have HHB := Lib.hid (HB1.out.trans HBH.out)
          have hzz : Hz < wh.heap.size := by omega
          clear hwh hzh
          go_wp2_with fail
          go_roundw
          case rel =>
            exact ⟨m + 1, .slice ev'a (m + 1) ev'c, ys ++ [.slice cva ne cvc], by omega, by go_num, Lib.hid (by rw [List.take_add_one, HE.out]; exact HSTEP.out), Lib.hid HHB.out, hzz⟩
          case measure => simp [intOf]; omega
        · skip
          obtain rfl : m = m0 := by omega
          have hte : es.take m = es := List.take_of_length_le (by rw [HM0.out]; exact Nat.le_refl _)
          rw [hte] at HE1
          obtain ⟨eva, evc, rfl⟩ := own_slice HE1.out.row
          have hlo : (l.take k).length = k := by rw [List.length_take, HLN.out]; omega
          have hro := HO.out.row
          rw [hlo] at hro
          have hHB := HB1.out.size
          have hro2 : wr.ownsRow B 36 2 u3 k (segCells (l.take k) xs) := own_cong hro (fun b hb => HB1.out.block b (by rw [← HHZ.out]; exact (own_lt hro hb).2))
          obtain ⟨oa, oc, rfl⟩ := own_slice hro2
          have HRO := Lib.hid hro2
          have HLO := Lib.hid hlo
          obtain ⟨f0, f1, fz⟩ := HE1.out.cells
          rw [HM0.out] at f1
          have HB3 := Lib.hid (show Below B wB wr from HBE.out.trans (HB1.out.mono hws))
          clear hte hlo hro hro2 fz
          go_wp2_with ((with_reducible refine wpList_at (.call { callee := .builtin .append, args := #[.tmp 48, .tmp 50], argTypes := #[23, 23] }) rfl ?_); go_loud (refine wpList_append_own_at _ rfl _ _ 23 rfl B 36 i3 (.agg #[.string ⟨#[]⟩, .slice none 0 0]) 2 40 Tryz.underlying23 HI3.out HZ30.out HZ31.out HZ32.out rfl (by decide) _ _ _ rfl (HRO.out.alloc _) ⟨wr.heap.size, 0, none⟩ 1 1 [.string st, .slice eva m evc] rfl rfl (cells_two _ _ _ _) (by simp [Value.oneCell']) (by unfold maxLen; omega) (by omega) (by simp; omega) ?_); intro ov' w4 ho hg _ hk; have HO4 := Lib.hid ho; have HG4 := Lib.hid (show World.grownBy _ w4 (Value.slice oa k oc).ownBlock from hg); have HK4 : Hid (ov'.ownBlock = (Value.slice oa k oc).ownBlock ∨ ∃ b, ov'.ownBlock = some b ∧ wr.heap.size ≤ b) := Lib.hid (by rcases hk with h | h; exact .inl h; exact .inr ⟨_, h, by simp⟩); clear ho hg hk)
          go_roundw
          case rel =>
            have hg := grown_alloc HG4.out
            have hst := OO.step HO.out HST.out HHZ.out (by omega) HB1.out (by have h := HE1.out; rw [HM0.out] at h; exact h) hg (by rw [HLO.out]; exact HO4.out) HK4.out
            exact ⟨k + 1, xs ++ [.slice eva m evc], by omega, by go_num, Lib.hid (by rw [List.take_add_one, HS.out]; exact hst), Lib.hid (HB3.out.grown hg (by omega) (fun b hb => (own_lt HRO.out hb).1))⟩
          case measure => simp [intOf]; omega
    · skip
      obtain rfl : k = n := by omega
      have hte : l.take k = l := List.take_of_length_le (by rw [HLN.out]; exact Nat.le_refl _)
      rw [hte] at HO
      have hlb := HO.out.row
      rw [HLN.out] at hlb
      obtain ⟨oa, oc, rfl⟩ := own_slice hlb
      have hb0 := (HBE.out.block B0 (by omega)).trans HR1.out
      have hb1 := (HBE.out.block (B0 + 1) (by omega)).trans HR2.out
      have z0 := (cells4 hb0).2.2.2.2
      have hs0 := heap_setCell_same wr B0 3 _ _ (.slice oa k oc) hb0
      have hs1 : (wr.setCell ⟨B0, 3, none⟩ (.slice oa k oc)).heap[B0 + 1]? = _ := (heap_setCell_other wr _ _ _ (by simp)).trans hb1
      have HS1 := Lib.hid hs1
      obtain ⟨⟨t0, t1, t2, t3⟩, _⟩ := cells4 hs0
      obtain ⟨⟨r0, r1, r2, r3⟩, f0, f1, f2, f3⟩ := cells4 hs1
      have hsz : (wr.setCell ⟨B0, 3, none⟩ (.slice oa k oc)).heap.size = wr.heap.size := by simp
      have HSZ := Lib.hid hsz
      have HBS : Hid (Below B0 w (wr.setCell ⟨B0, 3, none⟩ (.slice oa k oc))) := Lib.hid ((HB00.out.trans (HBE.out.mono (by omega))).setCell (Nat.le_refl _) _)
      have HOF : Hid (∀ g, B0 + 2 ≤ g → (wr.setCell ⟨B0, 3, none⟩ (.slice oa k oc)).heap[g]? = wr.heap[g]?) := Lib.hid (fun g hg => heap_setCell_other wr _ _ _ (by simp; omega))
      clear hte hlb hb0 hb1 hs0 hs1 hsz
      go_upto_region 12 with fail
      obtain ⟨ws, hws⟩ : ∃ ws, wr.setCell ⟨B0, 3, none⟩ (.slice oa k oc) = ws := ⟨_, rfl⟩
      rw [hws] at t0 t1 t2 t3 r0 r1 r2 r3 f0 f1 f2 f3 HS1 HSZ HBS HOF ⊢
      clear hws q0 z0
      go_wp2_with fail
      refine bodyPost_ret (res_wrap1 rfl _ rfl (put4_heap HS1.out _ _ _ _) rfl) rfl ?_
      refine ⟨_, xs, rfl, HO.out.far (by omega) (Nat.le_of_eq ((put4_size ws (B0 + 1) _ _ _ _).trans HSZ.out).symm) (fun g hg _ => (put4_other _ _ _ _ _ _ (by omega)).trans (HOF.out g (by omega))), put4_below HBS.out (by omega) _ _ _ _⟩
end Go.Proofs.YteaaiejfieaalaaGreatDoor

/-
  WrapO: contract of the reference's Number. No condition beyond those stated.
-/
namespace Go.Proofs.YteaaiejfieaalaaGreatDoor
open Go.RowKit
/-- what Number makes of a text -/
def RNumQ (l : Str) (e : Ending) : Prop := (∃ u : Nat, numW l = some u ∧ e = .returned (.tuple #[.int .u64 (u : Int), .bool true])) ∨ (numW l = none ∧ e = .returned (.tuple #[.int .u64 0, .bool false]))
theorem valW_dig {v n : Nat} {c : UInt8} (hc : c.toNat = 48 + n) (hn : n ≤ 9) (hv : v * 10 + n < 18446744073709551616) : valW v [c] = some (v * 10 + n) := by
  have hd : digB c = true := by unfold digB; rw [hc]; simp; omega
  simp only [valW, hd, if_true]
  rw [if_pos (by rw [hc]; omega), hc]
  congr 1; omega
theorem valW_over {v n : Nat} {c : UInt8} (hc : c.toNat = 48 + n) (hn : n ≤ 9) (hv : ¬ v * 10 + n < 18446744073709551616) : valW v [c] = none := by
  have hd : digB c = true := by unfold digB; rw [hc]; simp; omega
  simp only [valW, hd, if_true]
  rw [if_neg (by rw [hc]; omega)]
theorem valW_bad {v : Nat} {c : UInt8} (hc : c.toNat < 48 ∨ 57 < c.toNat) : valW v [c] = none := by
  have hd : digB c = false := by unfold digB; simp; omega
  simp [valW, hd]
set_option maxRecDepth 100000 in
set_option maxHeartbeats 4000000 in
theorem rnum_any (s : ByteArray) (w : World) : Calls Tryz.prog 45 #[.string s] w fun e w' => RNumQ s.data.toList e ∧ w = w' := by
  obtain ⟨l, hl⟩ : ∃ l, s.data.toList = l := ⟨_, rfl⟩
  have hsz : s.size = l.length := by rw [← hl]; simp
  have HL := Lib.hid hl
  have HSZ := Lib.hid hsz
  rw [hl]
  by_cases h0 : s.size = 0
  · have i0 : ((s.size : Int) == 0) = true := by rw [beq_iff_eq]; omega
    have hN : numW l = none := by rw [show l = [] from List.length_eq_zero_iff.1 (hsz.symm.trans h0)]; rfl
    clear hl hsz h0
    go_enter Tryz.func45, Tryz.ntmps45
    go_wp2_with fail
    go_ret2
    exact ⟨.inr ⟨hN, rfl⟩, rfl⟩
  have i0 : ((s.size : Int) == 0) = false := by rw [beq_eq_false_iff_ne]; omega
  by_cases h20 : 20 < s.size
  · have i1 : decide ((20 : Int) < (s.size : Int)) = true := by rw [decide_eq_true_eq]; omega
    have hN : numW l = none := num_long (by rw [← hsz]; exact h20)
    clear hl hsz h0 h20
    go_enter Tryz.func45, Tryz.ntmps45
    go_wp2_with fail
    go_ret2
    exact ⟨.inr ⟨hN, rfl⟩, rfl⟩
  have i1 : decide ((20 : Int) < (s.size : Int)) = false := by rw [decide_eq_false_iff_not]; omega
  have hs0 : 0 < s.size := by omega
  have hs0i : (0 : Int) < (s.size : Int) := by omega
  obtain ⟨c0, hc0⟩ : ∃ c, l[0]? = some c := ⟨_, List.getElem?_eq_getElem (by rw [← hsz]; exact hs0)⟩
  have hA : s[0]'hs0 = c0 := by
    have h1 := at_byte s 0 hs0
    rw [hl, hc0] at h1
    simpa using h1.symm
  have hhd : l.head? = some c0 := by rw [List.head?_eq_getElem?]; exact hc0
  by_cases h48 : 1 < s.size ∧ c0 = 48
  · obtain ⟨hl1, rfl⟩ := h48
    have i2 : decide ((1 : Int) < (s.size : Int)) = true := by rw [decide_eq_true_eq]; omega
    have hN : numW l = none := num_zero ⟨hhd, by rw [← hsz]; exact hl1⟩
    clear hl hsz h0 h20 hc0 hhd hl1
    go_enter Tryz.func45, Tryz.ntmps45
    go_wp2_with fail
    go_ret2
    exact ⟨.inr ⟨hN, rfl⟩, rfl⟩
  have HN := Lib.hid (val_num (s := l) (by intro e; rw [e] at hsz; exact h0 (by simpa using hsz)) (fun h => h48 ⟨by rw [hsz]; exact h.2, by
    have h1 := h.1
    rw [hhd] at h1
    injection h1⟩))
  have HX : Hid (decide ((1 : Int) < (s.size : Int)) = false ∨ (decide ((1 : Int) < (s.size : Int)) = true ∧ ((c0.toNat : Int) == 48) = false)) := Lib.hid (by
    by_cases h1 : 1 < s.size
    · exact .inr ⟨by rw [decide_eq_true_eq]; omega, nat_eq c0 48 (fun h => h48 ⟨h1, h⟩)⟩
    · exact .inl (by rw [decide_eq_false_iff_not]; omega))
  clear hl hsz h0 hc0 hhd h48
  rcases HX.out with i2 | ⟨i2, i3⟩
  all_goals (
    clear HX
    go_enter Tryz.func45, Tryz.ntmps45
    go_wp2_with fail
    clear i0 i1 hA
    go_loop [4, 5] (fun v i => ∃ (k u : Nat), k ≤ s.size ∧ u < 18446744073709551616 ∧ i = .int .i64 (k : Int) ∧ v = .int .u64 (u : Int) ∧ Hid (valW 0 (l.take k) = some u)) (fun _ i => s.size - (intOf i).toNat)
    case atStart => exact ⟨0, 0, Nat.zero_le _, by omega, rfl, rfl, Lib.hid rfl⟩
    case round =>
      obtain ⟨k, u, hk, hu, rfl, rfl, HVL⟩ := hrel
      clear i2
      by_cases hlt : k < s.size
      · obtain ⟨c, hc⟩ : ∃ c, l[k]? = some c := ⟨_, List.getElem?_eq_getElem (by rw [← HSZ.out]; exact hlt)⟩
        have hcq : (s[k]'hlt).toNat = c.toNat := by
          have h1 := at_byte s k hlt
          rw [HL.out, hc] at h1
          injection h1 with h1
          exact congrArg UInt8.toNat h1.symm
        obtain ⟨n, hn⟩ : ∃ n, c.toNat = n := ⟨_, rfl⟩
        have hn2 : n < 256 := by rw [← hn]; exact c.toNat_lt
        rw [hn] at hcq
        have b5 : (0 : Int) ≤ k := by omega
        have b6 : (k : Int) < s.size := by omega
        have HC := Lib.hid hc
        have HCN := Lib.hid hn
        clear hc hn
        by_cases l48 : n < 48
        · have j1 : decide ((n : Int) < 48) = true := by rw [decide_eq_true_eq]; omega
          have hN : numW l = none := HN.out.trans (val_stop HVL.out HC.out (valW_bad (.inl (by rw [HCN.out]; exact l48))))
          go_wp2_with fail
          go_ret2
          exact ⟨.inr ⟨hN, rfl⟩, rfl⟩
        · have j1 : decide ((n : Int) < 48) = false := by rw [decide_eq_false_iff_not]; omega
          by_cases g57 : 57 < n
          · have j2 : decide ((57 : Int) < (n : Int)) = true := by rw [decide_eq_true_eq]; omega
            have hN : numW l = none := HN.out.trans (val_stop HVL.out HC.out (valW_bad (.inr (by rw [HCN.out]; exact g57))))
            go_wp2_with fail
            go_ret2
            exact ⟨.inr ⟨hN, rfl⟩, rfl⟩
          · have j2 : decide ((57 : Int) < (n : Int)) = false := by rw [decide_eq_false_iff_not]; omega
            obtain ⟨d, hd⟩ : ∃ d, n = 48 + d := ⟨n - 48, by omega⟩
            have hd9 : d ≤ 9 := by omega
            have e1 : (n : Int) - 48 = (d : Int) := by omega
            have w1 : IntKind.u8.wrap (d : Int) = (d : Int) := by rw [IntKind.wrap_u8]; omega
            have w2 : IntKind.u64.wrap (d : Int) = (d : Int) := by rw [IntKind.wrap_u64]; omega
            obtain ⟨m, hm⟩ : ∃ m, m = 18446744073709551615 - d := ⟨_, rfl⟩
            have e2 : (18446744073709551615 : Int) - (d : Int) = (m : Int) := by omega
            have w3 : IntKind.u64.wrap (m : Int) = (m : Int) := by rw [IntKind.wrap_u64]; omega
            obtain ⟨q, hq⟩ : ∃ q, q = m / 10 := ⟨_, rfl⟩
            have e3 : (m : Int).tdiv 10 = (q : Int) := by rw [Int.tdiv_eq_ediv_of_nonneg (by omega)]; omega
            have w4 : IntKind.u64.wrap (q : Int) = (q : Int) := by rw [IntKind.wrap_u64]; omega
            have hcd : c.toNat = 48 + d := by rw [HCN.out]; exact hd
            by_cases hov : q < u
            · have j3 : decide ((q : Int) < (u : Int)) = true := by rw [decide_eq_true_eq]; omega
              have hN : numW l = none := HN.out.trans (val_stop HVL.out HC.out (valW_over hcd hd9 (by omega)))
              clear hd hm hq hcd
              go_wp2_with fail
              go_ret2
              exact ⟨.inr ⟨hN, rfl⟩, rfl⟩
            · have j3 : decide ((q : Int) < (u : Int)) = false := by rw [decide_eq_false_iff_not]; omega
              obtain ⟨t, ht⟩ : ∃ t, t = 10 * u := ⟨_, rfl⟩
              have e4 : 10 * (u : Int) = (t : Int) := by omega
              have w5 : IntKind.u64.wrap (t : Int) = (t : Int) := by rw [IntKind.wrap_u64]; omega
              obtain ⟨z, hz⟩ : ∃ z, z = t + d := ⟨_, rfl⟩
              have e5 : (t : Int) + (d : Int) = (z : Int) := by omega
              have w6 : IntKind.u64.wrap (z : Int) = (z : Int) := by rw [IntKind.wrap_u64]; omega
              have hVS : Hid (valW 0 (l.take (k + 1)) = some z) := Lib.hid (by rw [val_step HVL.out HC.out, valW_dig hcd hd9 (by omega)]; congr 1; omega)
              have hzz : z < 18446744073709551616 := by omega
              clear hd hm hq hcd ht hz
              go_wp2_with fail
              go_round
              case rel => exact ⟨k + 1, z, by omega, hzz, by go_num, rfl, hVS⟩
              case measure => simp [intOf]; omega
      · obtain rfl : k = s.size := by omega
        have hN : numW l = some u := HN.out.trans (by
          have h1 := HVL.out
          rw [List.take_of_length_le (by rw [HSZ.out]; exact Nat.le_refl _)] at h1
          exact h1)
        go_wp2_with fail
        go_ret2
        exact ⟨.inl ⟨u, hN, rfl⟩, rfl⟩)
end Go.Proofs.YteaaiejfieaalaaGreatDoor

/-
  WrapG: contract of wraps; Parse's contract at a known text. No condition beyond those stated.
-/
namespace Go.Proofs.YteaaiejfieaalaaGreatDoor
open Go.RowKit
def WPQ (x : WD) (k : Int) (w : World) (e : Ending) (w' : World) : Prop := ∃ v, e = .returned (.tuple #[wv x v, .int .i64 k]) ∧ SegsAt (fun k => w.heap.size ≤ k ∧ k < w'.heap.size) w' v x.segs ∧ Below w.heap.size w w'
theorem wParse_is {s : ByteArray} {w : World} (hv : VarsOk w) {x : WD} {k : Int} (h : wrapParseE s.data.toList = (x, k)) : Calls Tryz.prog 9 #[.string s] w fun e w' => WPQ x k w e w' := by
  refine (wParse_any s w hv).mono ?_
  rintro e w' ⟨v, rfl, h1, h2⟩
  rw [h] at h1 ⊢
  exact ⟨v, rfl, h1, h2⟩
def WTQ (t : Str) (k : Int) (w : World) (e : Ending) (w' : World) : Prop := e = .returned (.tuple #[sv t, .int .i64 k]) ∧ Below w.heap.size w w'
theorem wPrint_is {S : Nat → Prop} {x : WD} {v : Value} {w : World} (hv : VarsOk w) (h1 : x.fr < 256) (h2 : x.dst < 256) (h3 : x.rf < 18446744073709551616) (hs : SegsAt S w v x.segs) (hS : ∀ k, S k → k < w.heap.size) (hP : x.segs.length ≤ 62 → (printT x.segs).length ≤ 1000000) {t : Str} {k : Int} (h : wrapPrintE x = (t, k)) :
    Calls Tryz.prog 15 #[wv x v] w fun e w' => WTQ t k w e w' := by
  refine (wPrint_any x v w hv h1 h2 h3 hs hS hP).mono ?_
  rintro e w' ⟨rfl, hb⟩
  rw [h]
  exact ⟨rfl, hb⟩
theorem segs_nil (S : Nat → Prop) (w : World) : SegsAt S w (.slice none 0 0) [] := SegsAt.nil _ _
theorem dec0 : decT 0 = [48] := dec_small (by omega)
theorem dec1 : decT 1 = [49] := dec_small (by omega)
theorem dec2 : decT 2 = [50] := dec_small (by omega)
theorem dec7 : decT 7 = [55] := dec_small (by omega)
theorem wraps_parse : wrapParseE [85, 78, 66, 43, 49, 43, 50, 43, 55, 39, 65, 66, 67, 39, 85, 78, 90, 43, 49, 43, 55, 39] = (⟨1, 2, 7, [⟨[65, 66, 67], []⟩]⟩, 0) := by kernel_rfl
theorem wraps_print : wrapPrintE ⟨1, 2, 7, []⟩ = ([85, 78, 66, 43, 49, 43, 50, 43, 55, 39, 85, 78, 90, 43, 48, 43, 55, 39], 0) := by
  show printE [⟨unb, [[decT 1], [decT 2], [decT 7]]⟩, ⟨unz, [[decT 0], [decT 7]]⟩] = _
  rw [dec0, dec1, dec2, dec7]
  kernel_rfl
set_option maxRecDepth 100000 in
set_option maxHeartbeats 4000000 in
theorem wraps_any (w : World) (hv : VarsOk w) : Calls Tryz.prog 12 #[] w fun e w' => WSameQ true w e w' := by
  obtain ⟨B, hB⟩ : ∃ B, w.heap.size = B := ⟨_, rfl⟩
  have HBQ := Lib.hid hB
  have HV := Lib.hid hv
  have HP := Lib.hid (wParse_is (s := ⟨#[85, 78, 66, 43, 49, 43, 50, 43, 55, 39, 65, 66, 67, 39, 85, 78, 90, 43, 49, 43, 55, 39]⟩) hv wraps_parse)
  unfold WSameQ
  rw [hB]
  clear hv hB
  obtain ⟨z, hz⟩ : ∃ z : ByteArray, (⟨#[85, 78, 66, 43, 49, 43, 50, 43, 55, 39, 85, 78, 90, 43, 48, 43, 55, 39]⟩ : ByteArray) = z := ⟨_, rfl⟩
  obtain ⟨y, hy⟩ : ∃ y : ByteArray, (⟨#[65, 66, 67]⟩ : ByteArray) = y := ⟨_, rfl⟩
  have HZ := Lib.hid hz
  have HY := Lib.hid hy
  have sz : (z.toList == [85, 78, 66, 43, 49, 43, 50, 43, 55, 39, 85, 78, 90, 43, 48, 43, 55, 39]) = true := by rw [← hz, ByteArray.toList_eq]; rfl
  have sy : (y.toList == [65, 66, 67]) = true := by rw [← hy, ByteArray.toList_eq]; rfl
  clear hz hy
  go_enter Tryz.func12, Tryz.ntmps12
  go_upto_region 2 with (go_at_call 9; refine HP.out.mono ?_; rintro e w1 ⟨v, rfl, hs, hb⟩; rw [HBQ.out] at hs hb; obtain ⟨va, vc, rfl, hv1, hv2⟩ := hs.form; unfold wv; have HSG := Lib.hid hs; have HB1 := Lib.hid hb; clear hs hb)
  have hz1 := HB1.out.size
  rw [HBQ.out] at hz1
  obtain ⟨D, hD⟩ : ∃ D, w1.heap.size = D := ⟨_, rfl⟩
  obtain ⟨w2, hw2⟩ : ∃ w2, w1.alloc (.cells #[.int .u8 1, .int .u8 2, .int .u64 7, .slice va 1 vc] 25) = w2 := ⟨_, rfl⟩
  have hr2 : w2.heap[D]? = some (.cells #[.int .u8 1, .int .u8 2, .int .u64 7, .slice va 1 vc] 25 (0, 0)) := by rw [← hw2, ← hD]; exact heap_alloc_new _ _
  have HR2 := Lib.hid hr2
  have HB2 : Hid (Below B w w2) := Lib.hid (by rw [← hw2]; exact HB1.out.trans ((Below.refl _ _).alloc (by omega) _))
  have HS2 : Hid (SegsAt (fun _ => True) w2 (.slice va 1 vc) [⟨[65, 66, 67], []⟩]) := Lib.hid (HSG.out.cong (fun _ _ => trivial) (fun k hk => by rw [← hw2]; exact Below.heap_alloc _ _ _ hk.2))
  have hz2 : w2.heap.size = D + 1 := by rw [← hw2, ← hD]; simp
  have HZ2 := Lib.hid hz2
  rw [hD] at hz1
  have HP2 := Lib.hid (wPrint_is (S := fun _ => False) (x := ⟨1, 2, 7, []⟩) (v := .slice none 0 0) (w := w2) (HV.out.on HB2.out (by rw [HBQ.out]; exact Nat.le_refl _)) (by decide) (by decide) (by decide) (segs_nil _ _) (fun _ h => h.elim) (fun _ => by decide) wraps_print)
  have HW2 := Lib.hid hw2
  have HDD := Lib.hid hD
  clear hw2 hr2 hz2 hD
  rw [HW2.out, HDD.out]
  go_upto_region 3 with (go_at_call 15; refine HP2.out.mono ?_; rintro e w3 ⟨rfl, hb⟩; rw [HZ2.out] at hb; have HB3 := Lib.hid hb; clear hb; unfold sv)
  obtain ⟨⟨d0, d1, d2, d3⟩, _⟩ := cells4 ((HB3.out.block D (by omega)).trans HR2.out)
  obtain ⟨b, off, x, rfl, _, c0, _, _⟩ := HS2.out.get (k := 0) (s := ⟨[65, 66, 67], []⟩) rfl
  have hbl := cell_lt' c0
  rw [HZ2.out] at hbl
  have c1 := (HB3.out.cell (p := ⟨b, off + 0 * 2, none⟩) hbl).trans c0
  unfold sv at c1
  have hz : (⟨[85, 78, 66, 43, 49, 43, 50, 43, 55, 39, 85, 78, 90, 43, 48, 43, 55, 39].toArray⟩ : ByteArray) = z := HZ.out
  have hy : (⟨[65, 66, 67].toArray⟩ : ByteArray) = y := HY.out
  rw [hz]
  simp only [hy, Nat.zero_mul, Nat.add_zero] at c1
  clear hz hy
  go_wp2_with fail
  go_ret
  exact ⟨rfl, HB2.out.trans (HB3.out.mono (by omega))⟩
end Go.Proofs.YteaaiejfieaalaaGreatDoor

/-
  WrapY: what the statements' walks share: bounds of texts, worlds behind calls. No condition beyond those stated.
-/
namespace Go.Proofs.YteaaiejfieaalaaGreatDoor
open Go.RowKit
theorem sameB_self (l : List Seg) : sameB l l = true := by unfold sameB; simp
theorem wsameB_self (x : WD) : wsameB x x = true := wsame_iff.2 rfl
theorem int_same (n : Int) : (n == n) = true := by simp
theorem LightS.print2 {l : List Seg} (h : LightS l) : (printT l).length ≤ 200000 := by
  have key : ∀ m : List Seg, (∀ s ∈ m, s.tag.length ≤ 300 ∧ s.elems.length ≤ 40) → (∀ s ∈ m, ∀ e ∈ s.elems, e.length ≤ 40) → (printT m).length ≤ m.length * 1941 + 2 * bytesL m := fun m => by
    induction m with
    | nil => intro _ _; simp [printT]
    | cons a r ih =>
      intro h1 h2
      have h3 := ih (fun s hs => h1 s (List.mem_cons_of_mem _ hs)) (fun s hs => h2 s (List.mem_cons_of_mem _ hs))
      have h4 := segT_le a (h2 a List.mem_cons_self)
      have h5 := h1 a List.mem_cons_self
      simp only [printT, bytesL, List.flatMap_cons, List.length_append, List.map_cons, List.sum_cons, List.length_cons] at h3 ⊢
      omega
  have := key l h.seg h.el
  have := h.n
  have := h.bytes
  omega
theorem wok_len {x : WD} {s : Str} {l : List Seg} (h : WOk x s l) : (printT x.segs).length ≤ 65536 := by
  have h1 := h.len
  rw [h.t, h.e, roundT_eq] at h1
  unfold roundT at h1
  simp only [List.length_append, List.length_cons] at h1
  omega
theorem wparse_bd {t : Str} {x : WD} (h : wrapParseE t = (x, 0)) : x.fr < 256 ∧ x.dst < 256 ∧ x.rf < 18446744073709551616 := by
  unfold wrapParseE at h
  split at h
  · obtain ⟨_, h1, h2, h3⟩ := wrapOf_ok h
    exact ⟨by omega, by omega, h3⟩
  · rename_i h0
    simp only [Prod.mk.injEq] at h
    exact absurd h.2 h0
theorem no10_take {t : Str} {k : Nat} {c : UInt8} (h : t[k]? = some c) : no10 (t.take (k + 1)) = no10 (t.take k) ++ (if c = 10 then [] else [c]) := by
  rw [List.take_add_one, h]
  unfold no10
  rw [List.filter_append]
  by_cases h10 : c = 10 <;> simp [h10]
theorem SegsAt.any {S T : Nat → Prop} {w w' : World} {v : Value} {l : List Seg} {B : Nat} (h : SegsAt S w v l) (hb : Below B w w') (hS : ∀ k, S k → k < B ∧ T k) : SegsAt T w' v l :=
  h.cong (fun k hk => (hS k hk).2) (fun k hk => hb.block k (hS k hk).1)
/-- an interchange in a box -/
def BoxAt (w : World) (b : Nat) (x : WD) (v : Value) : Prop := w.heap[b]? = some (.cells #[.int .u8 (x.fr : Int), .int .u8 (x.dst : Int), .int .u64 (x.rf : Int), v] 25 (0, 0))
theorem BoxAt.on {w w' : World} {b B : Nat} {x : WD} {v : Value} (h : BoxAt w b x v) (hb : Below B w w') (hB : b < B) : BoxAt w' b x v := (hb.block b hB).trans h
theorem BoxAt.new (w : World) (x : WD) (v : Value) : BoxAt (w.alloc (.cells #[.int .u8 (x.fr : Int), .int .u8 (x.dst : Int), .int .u64 (x.rf : Int), v] 25)) w.heap.size x v := heap_alloc_new _ _
theorem BoxAt.cells {w : World} {b : Nat} {x : WD} {v : Value} (h : BoxAt w b x v) : w.cell? ⟨b, 0, none⟩ = some (.int .u8 (x.fr : Int)) ∧ w.cell? ⟨b, 1, none⟩ = some (.int .u8 (x.dst : Int)) ∧ w.cell? ⟨b, 2, none⟩ = some (.int .u64 (x.rf : Int)) ∧ w.cell? ⟨b, 3, none⟩ = some v := (cells4 h).1
end Go.Proofs.YteaaiejfieaalaaGreatDoor

/-
  WrapZ: what the rows of the interchange laws give: the package-level variables as they are laid, an interchange that came in. No condition beyond those stated.
-/
namespace Go.Proofs.YteaaiejfieaalaaGreatDoor
open Go.Lib Go.RowKit Go.ChangeShapes Go.WideShapes Go.ChangeAt Go.WideElems
theorem gSyn : Tryz.prog.globalNamed "strconv.ErrSyntax" = some 0 := by kernel_rfl
theorem gSynT : (Tryz.prog.globals[0]?).map (·.type) = some 81 := by kernel_rfl
theorem gRng : Tryz.prog.globalNamed "strconv.ErrRange" = some 1 := by kernel_rfl
theorem gRngT : (Tryz.prog.globals[1]?).map (·.type) = some 81 := by kernel_rfl
theorem gPow : Tryz.prog.globalNamed "internal/strconv.uint64pow10" = some 2 := by kernel_rfl
theorem gPowT : (Tryz.prog.globals[2]?).map (·.type) = some 154 := by kernel_rfl
theorem cellsU64 : Tryz.prog.cellsOf 22 = 1 := by kernel_rfl
theorem cellsPow : Tryz.prog.cellsOf 154 = 20 := by kernel_rfl
theorem cellsErr : Tryz.prog.cellsOf 176 = 1 := by kernel_rfl
theorem cellsStr : Tryz.prog.cellsOf 9 = 1 := by kernel_rfl
theorem errStar : "*" ++ "errors.errorString" = "*errors.errorString" := by decide
theorem errRow (u : TypeId) (h : Tryz.prog.typeName? 3 u = some "*errors.errorString") : u = 174 :=
  typeName_ptr_named (nm := "errors.errorString") (by rw [errStar]; kernel_rfl) (by kernel_rfl) (by decide) u (by rw [errStar]; exact h)
theorem vars_of_laid {W : World} (h : laidMetH Tryz.prog Rows.wrapBackRow.laid W) : VarsOk W := by
  rw [MakeChecks.laidMetH_plain _ _ _ (by kernel_rfl)] at h
  have h2 := h.tail.tail
  have h3 := h2.tail
  have h4 := h3.tail
  obtain ⟨a0, s0, hv0, -, -, -⟩ := laid_sentinel h3 gRng gRngT Tryz.underlying81 errRow Tryz.underlying174 Tryz.underlying176 rfl rfl Tryz.underlying9 cellsErr cellsStr
  obtain ⟨a1, s1, hv1, -, -, -⟩ := laid_sentinel h4 gSyn gSynT Tryz.underlying81 errRow Tryz.underlying174 Tryz.underlying176 rfl rfl Tryz.underlying9 cellsErr cellsStr
  exact ⟨Lib.tabIs_of_head gPow gPowT Tryz.underlying154 Tryz.underlying22 cellsU64 cellsPow h2, ⟨_, _, by have h0 := World.var?_cell gSyn hv1 0; simpa using h0⟩, ⟨_, _, by have h0 := World.var?_cell gRng hv0 0; simpa using h0⟩⟩
theorem door_met (os : Os) (args : Array Value) : laidMet Tryz.prog Rows.wrapBackRow.laid ((World.doorLaid Tryz.prog 3000 os).forCall (fun _ _ => 0) ⟨#[], args, []⟩).memory :=
  laidMet_of_run' 8 (by kernel_rfl) (by kernel_rfl)
section
variable {H : Type} {enc : TypeId × Value → H} {W : World}
set_option maxRecDepth 100000 in
theorem wrap_of_trod {r : Reach} {b0 : Nat} {base : Nat} {spare : Nat → Bool} {held : Bool} {v0 : Value} {d0 : DataW H} {p0 : List MemPlace} (hv : Value.okWide Tryz.prog W r b0 25 v0) (h : DataW.Trod enc Tryz.prog W base spare held 25 v0 d0 p0) :
    ∃ (x : WD) (v : Value), v0 = wv x v ∧ (x.fr < 256 ∧ x.dst < 256 ∧ x.rf < 18446744073709551616) ∧ SegsAt (Low W) W v x.segs := by
  obtain ⟨c0, c1, c2, c3, y0, y1, y2, y3, n, rfl, _, _, h0, h1, h2, h3⟩ := Go.Joins.open_agg4 Tryz.underlying25 (by kernel_rfl) (by kernel_rfl) hv h
  obtain ⟨a, ha, _, wa⟩ := DataW.trod_int Tryz.underlying5 h0
  obtain ⟨b, hb, _, wb⟩ := DataW.trod_int Tryz.underlying5 h1
  obtain ⟨c, hc, _, wc⟩ := DataW.trod_int Tryz.underlying22 h2
  obtain ⟨l, hl⟩ := segs_of_trod h3
  have ha' : c0 = .int .u8 a := (List.cons.inj ha).1
  have hb' : c1 = .int .u8 b := (List.cons.inj hb).1
  have hc' : c2 = .int .u64 c := (List.cons.inj hc).1
  have ra : (0 : Int) ≤ a ∧ a ≤ 255 := (Lit.wf_int_iff _ _).1 wa
  have rb : (0 : Int) ≤ b ∧ b ≤ 255 := (Lit.wf_int_iff _ _).1 wb
  have rc : (0 : Int) ≤ c ∧ c ≤ 18446744073709551615 := (Lit.wf_int_iff _ _).1 wc
  refine ⟨⟨a.toNat, b.toNat, c.toNat, l⟩, c3, ?_, ⟨by simp only; omega, by simp only; omega, by simp only; omega⟩, hl⟩
  unfold wv
  simp only
  rw [ha', hb', hc', Int.toNat_of_nonneg (by omega), Int.toNat_of_nonneg (by omega), Int.toNat_of_nonneg (by omega)]
end
end Go.Proofs.YteaaiejfieaalaaGreatDoor

/-
  WrapI: one segment without elements behind segments of one's own, whose elements lie in blocks of a set. No condition beyond those stated.
-/
namespace Go.Proofs.YteaaiejfieaalaaGreatDoor
open Go.RowKit
structure OGT (T : Nat → Prop) (B : Nat) (w : World) (ov : Value) (xs : List Value) (l : List Seg) : Prop where
  row : w.ownsRow B 36 2 ov l.length (segCells l xs)
  len : xs.length = l.length
  el : ∀ (i : Nat) (s : Seg) (x : Value), l[i]? = some s → xs[i]? = some x → ElemsAt (fun b => T b ∧ b < w.heap.size ∧ ov.ownBlock ≠ some b) w x s.elems
theorem ElemsAt.empty {S T : Nat → Prop} {w w' : World} {x : Value} (h : ElemsAt S w x []) : ElemsAt T w' x [] := by
  obtain ⟨xs, ⟨ao, cap, rfl, h1, h2, h3, _⟩, hl, _⟩ := h
  obtain rfl : xs = [] := List.length_eq_zero_iff.1 hl
  exact ⟨[], ⟨ao, cap, rfl, h1, h2, h3, fun h => absurd rfl h⟩, rfl, fun i e x h => by simp at h⟩
theorem OO.ogt {B : Nat} {w : World} {ov : Value} {xs : List Value} {l : List Seg} (h : OO B w ov xs l) : OGT (fun b => B ≤ b ∧ b < w.heap.size) B w ov xs l :=
  ⟨h.row, h.len, fun i s x h1 h2 => (h.el i s x h1 h2).cong (fun _ hk => ⟨⟨hk.1, hk.2.1⟩, hk.2.1, hk.2.2⟩) (fun _ _ => rfl)⟩
theorem OGT.below {T : Nat → Prop} {B : Nat} {w w' : World} {ov : Value} {xs : List Value} {l : List Seg} (h : OGT T B w ov xs l) (hb : Below w.heap.size w w') : OGT T B w' ov xs l :=
  ⟨own_cong h.row (fun k hk => hb.block k (own_lt h.row hk).2), h.len, fun i s x h1 h2 => (h.el i s x h1 h2).cong (fun k hk => ⟨hk.1, by have := hb.size; omega, hk.2.2⟩) (fun k hk => hb.block k hk.2.1)⟩
/-- the segments, at rest, none of them in a block of another kind that lies beyond T -/
theorem OGT.rest {T S : Nat → Prop} {B : Nat} {w : World} {ov : Value} {xs : List Value} {l : List Seg} (h : OGT T B w ov xs l) (hT : ∀ k, T k → k < w.heap.size → S k) (hR : ∀ k, ov.ownBlock = some k → S k) : SegsAt S w ov l :=
  segs_rest h.row h.len hR (fun i s x h1 h2 => (h.el i s x h1 h2).cong (fun _ hb => hT _ hb.1 hb.2.1) (fun _ _ => rfl))
/-- append(own segments, one without elements) -/
theorem wp_app_ogt {ops : Array Oper} {rest : List Oper} {o : Oper} {a : Act} {Q : Exit → Act → World → Prop} (s x : Operand)
    (ho : o.op = .call { callee := .builtin .append, args := #[s, x], argTypes := #[23, 23] }) (hw : Region.wanted o (yielded ops a.tmps) = true)
    {w : World} {B : Nat} {v mv : Value} {xs : List Value} {l m : List Seg} {S T : Nat → Prop} (hs : a.eval s = v) (hx : a.eval x = mv) (hO : OGT T B w v xs l) (hm : SegsAt S w mv m) (hme : ∀ s ∈ m, s.elems = []) (hl : l.length + m.length ≤ 1048576) (hB : B ≤ w.heap.size)
    (h : ∀ v' w' xs', OGT T B w' v' xs' (l ++ m) → w.grownBy w' v.ownBlock → Below B w w' → wpList Tryz.prog ops Q rest (a.put o.dst v') w') :
    wpList Tryz.prog ops Q (o :: rest) a w := by
  obtain ⟨i0, hi, hz0, hz1, hz2⟩ := info_parts einfo_seg
  have hm0 := hm
  obtain ⟨ao, cap, ys, rfl, g1, g2, g3, g4, g5⟩ := hm.row
  simp only [wpList, hw, if_true]
  left
  have fin : ∀ v' w', w'.ownsRow B 36 2 v' (l.length + m.length) (segCells l xs ++ segCells m ys) → w.grownBy w' v.ownBlock → (v'.ownBlock = v.ownBlock ∨ v'.ownBlock = some w.heap.size) → OGT T B w' v' (xs ++ ys) (l ++ m) ∧ Below B w w' := fun v' w' f1 f2 f3 => by
    have hov : ∀ k, v.ownBlock = some k → B ≤ k := fun k hk => (own_lt hO.row hk).1
    have hb : Below B w w' := (Below.refl B w).grown f2 hB hov
    have hz := f2.size
    have hc : ∀ b, b < w.heap.size → v.ownBlock ≠ some b → v'.ownBlock ≠ some b := fun b hb2 hne he => by
      rcases f3 with f3 | f3
      · exact hne (f3 ▸ he)
      · rw [f3] at he; cases he; omega
    refine ⟨⟨by rw [List.length_append, segCells_app l m xs ys hO.len]; exact f1, by simp [hO.len, g1], fun i s x h1 h2 => ?_⟩, hb⟩
    rcases Nat.lt_or_ge i l.length with hil | hil
    · rw [List.getElem?_append_left hil] at h1
      rw [List.getElem?_append_left (by rw [hO.len]; exact hil)] at h2
      exact (hO.el i s x h1 h2).cong (fun b hb' => ⟨hb'.1, by omega, hc b hb'.2.1 hb'.2.2⟩) (fun b hb' => f2.block b hb'.2.1 (fun e => hb'.2.2 e.symm))
    · rw [List.getElem?_append_right hil] at h1
      rw [List.getElem?_append_right (by rw [hO.len]; exact hil), hO.len] at h2
      have h3 := g4 _ s x h1 h2
      rw [hme s (List.mem_of_getElem? h1)] at h3 ⊢
      exact h3.empty
  cases ao with
  | none =>
    obtain ⟨rfl, rfl⟩ := g2 rfl
    have hr := run_append_owned_none (P := Tryz.prog) (w := w) B 23 o.type 36 i0 2 Tryz.underlying23 hi v l.length (segCells l xs) hO.row
    unfold Oper.wp
    simp [execOp, ho, resolve, invoke, builtin, hs, hx, hr, Result.andThen]
    have hg : w.grownBy w v.ownBlock := ⟨rfl, rfl, rfl, Nat.le_refl _, fun _ _ _ => rfl⟩
    obtain ⟨k1, k2⟩ := fin v w (by
      have : ys = [] := List.length_eq_zero_iff.1 g1
      subst this
      simpa [segCells] using hO.row) hg (.inl rfl)
    exact h v w _ k1 hg k2
  | some ad =>
    obtain ⟨v', w', hr, h2, h3, _, h5⟩ := run_append_own_at (P := Tryz.prog) w B 23 o.type 36 i0 (.agg #[.string ⟨#[]⟩, .slice none 0 0]) 2 40 Tryz.underlying23 hi hz0 hz1 hz2 rfl (by decide) v l.length (segCells l xs) hO.row ad m.length cap (segCells m ys) (segCells_len m ys g1) (g5 ad rfl) (segCells_one m ys g3) (by unfold maxLen; omega) (by omega) hB
    unfold Oper.wp execOp
    simp only [ho, resolve, invoke, builtin, Sem.run_bind, Sem.run_pure, Result.andThen_ok, List.map_toArray, List.map_cons, List.map_nil, hs, hx, hr]
    obtain ⟨k1, k2⟩ := fin v' w' h2 h3 h5
    exact h v' w' _ k1 h3 k2
theorem SegsAt.cap {S : Nat → Prop} {w : World} {ao : Option Addr} {m cap : Nat} {l : List Seg} (h : SegsAt S w (.slice ao m cap) l) : m = l.length ∧ m ≤ cap ∧ cap ≤ maxLen := by
  obtain ⟨ao', cap', xs, he, h2, h3, _⟩ := h
  injection he with e1 e2 e3
  subst e3; subst e2
  exact ⟨rfl, h2, h3⟩
/-- the first of segments -/
theorem SegsAt.take {S : Nat → Prop} {w : World} {ao : Option Addr} {cap : Nat} {l m : List Seg} (h : SegsAt S w (.slice ao (l ++ m).length cap) (l ++ m)) : SegsAt S w (.slice ao l.length cap) l := by
  obtain ⟨ao', cap', xs, he, h2, h3, h4, h5, h6, h7⟩ := h
  cases he
  have hl : l.length ≤ (l ++ m).length := by simp
  have key : ∀ (i : Nat) (s : Seg), l[i]? = some s → (l ++ m)[i]? = some s := fun i s hs => by rw [List.getElem?_append_left (List.getElem?_eq_some_iff.1 hs).1]; exact hs
  have key2 : ∀ (i : Nat) (x : Value), (xs.take l.length)[i]? = some x → xs[i]? = some x := fun i x hx => by
    rw [List.getElem?_take] at hx
    split at hx
    · exact hx
    · cases hx
  refine ⟨ao, cap, xs.take l.length, rfl, by omega, h3, h4, by rw [List.length_take, h5]; omega, fun i s x hs hx => h6 i s x (key i s hs) (key2 i x hx), fun hne => ?_⟩
  obtain ⟨b, off, e, hS, hc⟩ := h7 (by intro e; exact hne (List.append_eq_nil_iff.1 e).1)
  exact ⟨b, off, e, hS, fun i s x hs hx => hc i s x (key i s hs) (key2 i x hx)⟩
end Go.Proofs.YteaaiejfieaalaaGreatDoor
