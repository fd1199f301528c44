/-
  EdiA8: contract of reads: an example, read and printed. No condition beyond those stated.
-/
import Derived.Test.YtpfkmklhfafkiaaEdiA7
import Derived.Test.YtpfkmklhfafkiaaEdiU
namespace Go.Proofs.Ytpfkmklhfafkiaa
open Go.RowKit
theorem RowAt.lit {S : Nat → Prop} {w : World} {b : Nat} {t : TypeId} {xs : List Value} (h : w.heap[b]? = some (.cells xs.toArray t (0, 0))) (hS : S b) (hl : xs.length ≤ 1048576) : RowAt S w (.slice (some ⟨b, 0, none⟩) xs.length xs.length) xs :=
  ⟨_, _, rfl, Nat.le_refl _, by unfold maxLen; omega, (fun e => by cases e), fun _ => ⟨b, 0, rfl, hS, fun i x hi => by rw [cell_of_row w b (0 + i) _ _ _ h, Nat.zero_add, List.getElem?_toArray]; exact hi⟩⟩
theorem RowAt.pick {S : Nat → Prop} {w : World} {v : Value} {xs : List Value} (h : RowAt S w v xs) {i : Nat} {x : Value} (hi : xs[i]? = some x) : ∃ b off cap, v = .slice (some ⟨b, off, none⟩) xs.length cap ∧ xs.length ≤ cap ∧ cap ≤ maxLen ∧ w.cell? ⟨b, off + i, none⟩ = some x := by
  obtain ⟨ao, cap, rfl, h1, h2, _, h4⟩ := h
  obtain ⟨b, off, rfl, _, hc⟩ := h4 (by rintro rfl; simp at hi)
  exact ⟨b, off, cap, rfl, h1, h2, hc i x hi⟩
def exT : Str := [65, 66, 67, 43, 97, 58, 98, 43, 63, 43, 39, 68, 49, 50, 39]
def exL : List Seg := [⟨[65, 66, 67], [[[97], [98]], [[43]]]⟩, ⟨[68, 49, 50], []⟩]
theorem ex_parse : parseE exT = (exL, 0, 0) := by decide +kernel
def exP : List Seg := [⟨[65, 66, 67], [[[]], [[97], []]]⟩]
theorem ex_print : printE exP = ([65, 66, 67, 43, 43, 97, 58, 39], 0) := by decide +kernel
theorem exP_at (w : World) : SegsAt (fun k => k < w.heap.size + 4) ((((w.alloc (.cells #[.string ⟨#[]⟩] 9)).alloc (.cells #[.string ⟨#[97]⟩, .string ⟨#[]⟩] 9)).alloc (.cells #[.slice (some ⟨w.heap.size, 0, none⟩) 1 1, .slice (some ⟨w.heap.size + 1, 0, none⟩) 2 2] 38)).alloc (.cells #[.string ⟨#[65, 66, 67]⟩, .slice (some ⟨w.heap.size + 2, 0, none⟩) 2 2] 37)) (.slice (some ⟨w.heap.size + 3, 0, none⟩) 1 1) exP := by
  obtain ⟨w4, hw4⟩ : ∃ w4, ((((w.alloc (.cells #[.string ⟨#[]⟩] 9)).alloc (.cells #[.string ⟨#[97]⟩, .string ⟨#[]⟩] 9)).alloc (.cells #[.slice (some ⟨w.heap.size, 0, none⟩) 1 1, .slice (some ⟨w.heap.size + 1, 0, none⟩) 2 2] 38)).alloc (.cells #[.string ⟨#[65, 66, 67]⟩, .slice (some ⟨w.heap.size + 2, 0, none⟩) 2 2] 37)) = w4 := ⟨_, rfl⟩
  have b0 : w4.heap[w.heap.size]? = some (.cells ([sv []] : List Value).toArray 9 (0, 0)) := by
    rw [← hw4, Below.heap_alloc _ _ _ (by simp; omega), Below.heap_alloc _ _ _ (by simp; omega), Below.heap_alloc _ _ _ (by simp)]; exact heap_alloc_new w _
  have b1 : w4.heap[w.heap.size + 1]? = some (.cells ([sv [97], sv []] : List Value).toArray 9 (0, 0)) := by
    rw [← hw4, Below.heap_alloc _ _ _ (by simp), Below.heap_alloc _ _ _ (by simp)]
    have := heap_alloc_new (w.alloc (.cells #[.string ⟨#[]⟩] 9)) (.cells #[.string ⟨#[97]⟩, .string ⟨#[]⟩] 9)
    rw [World.size_alloc] at this; exact this
  have b2 : w4.heap[w.heap.size + 2]? = some (.cells ([.slice (some ⟨w.heap.size, 0, none⟩) 1 1, .slice (some ⟨w.heap.size + 1, 0, none⟩) 2 2] : List Value).toArray 38 (0, 0)) := by
    rw [← hw4, Below.heap_alloc _ _ _ (by simp)]
    have := heap_alloc_new ((w.alloc (.cells #[.string ⟨#[]⟩] 9)).alloc (.cells #[.string ⟨#[97]⟩, .string ⟨#[]⟩] 9)) (.cells #[.slice (some ⟨w.heap.size, 0, none⟩) 1 1, .slice (some ⟨w.heap.size + 1, 0, none⟩) 2 2] 38)
    rw [World.size_alloc, World.size_alloc] at this; exact this
  have b3 : w4.heap[w.heap.size + 3]? = some (.cells #[.string ⟨#[65, 66, 67]⟩, .slice (some ⟨w.heap.size + 2, 0, none⟩) 2 2] 37 (0, 0)) := by
    rw [← hw4]
    have := heap_alloc_new (((w.alloc (.cells #[.string ⟨#[]⟩] 9)).alloc (.cells #[.string ⟨#[97]⟩, .string ⟨#[]⟩] 9)).alloc (.cells #[.slice (some ⟨w.heap.size, 0, none⟩) 1 1, .slice (some ⟨w.heap.size + 1, 0, none⟩) 2 2] 38)) (.cells #[.string ⟨#[65, 66, 67]⟩, .slice (some ⟨w.heap.size + 2, 0, none⟩) 2 2] 37)
    rw [World.size_alloc, World.size_alloc, World.size_alloc] at this; exact this
  rw [hw4]
  clear hw4
  have hE : ElemsAt (fun k => k < w.heap.size + 4) w4 (.slice (some ⟨w.heap.size + 2, 0, none⟩) 2 2) [[[]], [[97], []]] := by
    refine ⟨_, RowAt.lit b2 (by omega) (by simp), rfl, fun i e x h1 h2 => ?_⟩
    match i, h1, h2 with
    | 0, h1, h2 => simp at h1 h2; subst h1; subst h2; exact RowAt.lit b0 (by omega) (by simp)
    | 1, h1, h2 => simp at h1 h2; subst h1; subst h2; exact RowAt.lit b1 (by omega) (by simp)
    | i + 2, h1, _ => simp at h1
  refine ⟨_, 1, [.slice (some ⟨w.heap.size + 2, 0, none⟩) 2 2], rfl, Nat.le_refl _, by decide, (fun e => by cases e), rfl, fun i s x h1 h2 => ?_, fun _ => ⟨w.heap.size + 3, 0, rfl, by omega, fun i s x h1 h2 => ?_⟩⟩
  · match i, h1, h2 with
    | 0, h1, h2 => simp [exP] at h1 h2; subst h1; subst h2; exact hE
    | i + 1, h1, _ => simp [exP] at h1
  · match i, h1, h2 with
    | 0, h1, h2 => simp [exP] at h1 h2; subst h1; subst h2; exact ⟨cell_of_row w4 _ 0 _ _ _ b3, cell_of_row w4 _ 1 _ _ _ b3⟩
    | i + 1, h1, _ => simp [exP] at h1
set_option maxRecDepth 100000 in
set_option maxHeartbeats 4000000 in
theorem reads_any (w : World) : Calls Try.prog 15 #[] w fun e w' => e = .returned (.bool true) ∧ Below w.heap.size w w' := by
  have HPA := Lib.hid (parse_any ⟨exT.toArray⟩ (by decide) w)
  have e1 : (⟨exT.toArray⟩ : ByteArray).data.toList = exT := rfl
  rw [e1, ex_parse] at HPA
  clear e1
  obtain ⟨B, hB⟩ : ∃ B, w.heap.size = B := ⟨_, rfl⟩
  have HBQ := Lib.hid hB
  rw [hB] at HPA ⊢
  clear hB
  unfold exT at HPA
  go_enter Try.func15, Try.ntmps15
  go_wp2_with ((with_reducible refine HPA.out.mono ?_); rintro e w1 ⟨v, rfl, hsg, hb1⟩; have HS := Lib.hid hsg; have HB1 := Lib.hid hb1; clear hsg hb1)
  have hpr := print_any _ _ exP ((exP_at w1).cong (T := fun k => k < ((((w1.alloc (.cells #[.string ⟨#[]⟩] 9)).alloc (.cells #[.string ⟨#[97]⟩, .string ⟨#[]⟩] 9)).alloc (.cells #[.slice (some ⟨w1.heap.size, 0, none⟩) 1 1, .slice (some ⟨w1.heap.size + 1, 0, none⟩) 2 2] 38)).alloc (.cells #[.string ⟨#[65, 66, 67]⟩, .slice (some ⟨w1.heap.size + 2, 0, none⟩) 2 2] 37)).heap.size) (fun k hk => by simp; omega) (fun _ _ => rfl)) (by decide)
  rw [ex_print] at hpr
  refine hpr.mono ?_
  rintro r w5 ⟨rfl, hb5⟩
  have HB5 : Hid (Below w1.heap.size w1 w5) := Lib.hid (by
    have h4 : Below w1.heap.size w1 ((((w1.alloc (.cells #[.string ⟨#[]⟩] 9)).alloc (.cells #[.string ⟨#[97]⟩, .string ⟨#[]⟩] 9)).alloc (.cells #[.slice (some ⟨w1.heap.size, 0, none⟩) 1 1, .slice (some ⟨w1.heap.size + 1, 0, none⟩) 2 2] 38)).alloc (.cells #[.string ⟨#[65, 66, 67]⟩, .slice (some ⟨w1.heap.size + 2, 0, none⟩) 2 2] 37)) := ((((Below.refl _ _).alloc (Nat.le_refl _) _).alloc (by simp) _).alloc (by simp; omega) _).alloc (by simp; omega) _
    exact h4.trans (hb5.mono (by simp; omega)))
  have HS5 := Lib.hid (HS.out.cong (T := fun _ => True) (w' := w5) (fun _ _ => trivial) (fun k hk => HB5.out.block k hk.2))
  have HB6 := Lib.hid (HB1.out.trans (HB5.out.mono (by rw [← HBQ.out]; exact HB1.out.size)))
  clear hb5 hpr HS HB1 HB5 HPA
  obtain ⟨ao, cap, rfl, h1, h2⟩ := HS5.out.form
  obtain ⟨b, off, x0, rfl, _, c0, c1, hel⟩ := HS5.out.get (k := 0) (s := ⟨[65, 66, 67], [[[97], [98]], [[43]]]⟩) rfl
  obtain ⟨b', off', x1, hbb, _, c2, c3, hel'⟩ := HS5.out.get (k := 1) (s := ⟨[68, 49, 50], []⟩) rfl
  cases hbb
  obtain ⟨eo, ecap, rfl, he1, he2⟩ := hel.form
  obtain ⟨eo', ecap', rfl, he1', he2'⟩ := hel'.form
  obtain ⟨b2, off2, y1, rfl, _, d0, hco⟩ := hel.get (k := 1) (e := [[43]]) rfl
  obtain ⟨co, ccap, rfl, hc1, hc2⟩ := hco.form
  obtain ⟨b3, off3, rfl, _, e0⟩ := hco.get (k := 0) (p := [43]) rfl
  unfold sv at *
  simp only [exL, List.length_cons, List.length_nil, Nat.zero_add, Nat.zero_mul, Nat.add_zero, Nat.one_mul] at c0 c1 c2 c3 d0 e0 h1 he1 he1' hc1
  unfold maxLen at h2 he2 he2' hc2
  clear hel hel' hco HS5
  rw [show exL.length = 2 from rfl]
  go_wp2_with fail
  go_ret
  exact ⟨rfl, HB6.out⟩
end Go.Proofs.Ytpfkmklhfafkiaa
