/-
  EdiN: contracts of between. No condition beyond those stated.
-/
import Derived.Test.YtpfkmklhfafkiaaEdiL
namespace Go.Proofs.Ytpfkmklhfafkiaa
open Go.RowKit
theorem cell_two_new (w : World) (x y : Value) (t : TypeId) : ∀ (j : Nat) (u : Value), [x, y][j]? = some u → (w.alloc (.cells #[x, y] t)).cell? ((⟨w.heap.size, 0, none⟩ : Addr).add j) = some u := by
  intro j u hj
  match j, hj with
  | 0, hj => simp at hj; subst hj; simp [Addr.add]
  | 1, hj => simp at hj; subst hj; simp [Addr.add]
section
variable {S : Nat → Prop} {w : World} {B rb : Nat} {l : List Seg} {t : Str} {es : List (List Str)} {cs : List Str} {p q : Str} {lv pv ev cv : Value} {xs ys : List Value}
theorem RA.lform (h : RA S w B rb l lv pv xs p) : ∃ ao cap, lv = .slice ao l.length cap := by
  obtain ⟨_, ⟨h1, h2⟩ | ⟨g, cap, _, h1, _⟩⟩ := h.hl
  · exact ⟨none, 0, by rw [h1, h2]⟩
  · exact ⟨_, cap, h1⟩
set_option maxRecDepth 100000 in
set_option maxHeartbeats 2000000 in
theorem btw_nl (h : RA S w B rb l lv pv xs p) (h0 : l ≠ []) : Calls Try.prog 30 #[.pointer (some ⟨rb, 0, none⟩), .int .u8 10] w fun e w' => e = .returned (.tuple #[fnV rb 30, .int .i64 0]) ∧ w = w' := by
  have d0 := h.c0
  obtain ⟨ao, cap, rfl⟩ := h.lform
  have h1 : 0 < l.length := List.length_pos_iff.2 h0
  have d1 : decide ((0 : Int) < (l.length : Int)) = true := by rw [decide_eq_true_eq]; omega
  clear h
  go_enter Try.func30, Try.ntmps30
  go_wp2_with fail
  go_ret2
  exact ⟨rfl, rfl⟩
set_option maxRecDepth 100000 in
set_option maxHeartbeats 2000000 in
theorem btw_full (h : RA S w B rb l lv pv xs p) (c : UInt8) (hc : c ≠ 10) (h64 : l.length = 64) : Calls Try.prog 30 #[.pointer (some ⟨rb, 0, none⟩), .int .u8 (c.toNat : Int)] w fun e w' => e = .returned (.tuple #[.nilFunc, .int .i64 2]) ∧ w = w' := by
  have d0 := h.c0
  obtain ⟨ao, cap, rfl⟩ := h.lform
  rw [h64] at d0
  have d1 : ((c.toNat : Int) == 10) = false := nat_eq c 10 hc
  obtain ⟨n, hn⟩ : ∃ n : Int, (c.toNat : Int) = n := ⟨_, rfl⟩
  rw [hn] at d1 ⊢
  clear h hn
  go_enter Try.func30, Try.ntmps30
  go_wp2_with fail
  go_ret2
  exact ⟨rfl, rfl⟩
set_option maxRecDepth 100000 in
set_option maxHeartbeats 4000000 in
theorem btw_tag (h : RA S w B rb l lv pv xs p) (hB : B ≤ w.heap.size) (c : UInt8) (hc : ¬ (c = 10 ∧ l ≠ [])) (h64 : l.length < 64) {a b : Value} {R : World → Prop}
    (hT : ∀ w1 lv', RA S w1 B rb (l ++ [⟨[], []⟩]) lv' pv (xs ++ [.slice none 0 0]) p → Below B w w1 → Calls Try.prog 37 #[.pointer (some ⟨rb, 0, none⟩), .int .u8 (c.toNat : Int)] w1 fun e w' => e = .returned (.tuple #[a, b]) ∧ R w') :
    Calls Try.prog 30 #[.pointer (some ⟨rb, 0, none⟩), .int .u8 (c.toNat : Int)] w fun e w' => e = .returned (.tuple #[a, b]) ∧ R w' := by
  have d0 := h.c0
  have f0 := h.fz 0
  have H := Lib.hid h
  have HT := Lib.hid hT
  have hrw := h.lt
  have hrB := h.hB
  have nlr := own_neR h.r h.hl (by decide)
  obtain ⟨la, lc, rfl⟩ := h.lform
  have d64 : ((l.length : Int) == 64) = false := by rw [beq_eq_false_iff_ne]; omega
  obtain ⟨n, hn⟩ : ∃ n : Int, (c.toNat : Int) = n := ⟨_, rfl⟩
  have dd : (n == 10) = false ∨ (n = 10 ∧ decide ((0 : Int) < (l.length : Int)) = false) := by
    by_cases h10 : c = 10
    · subst h10
      refine .inr ⟨hn.symm, ?_⟩
      rw [decide_eq_false_iff_not]
      have : l = [] := Classical.byContradiction fun h => hc ⟨rfl, h⟩
      simp [this]
    · exact .inl (by rw [← hn]; exact nat_eq c 10 h10)
  rw [hn] at HT ⊢
  clear h hT hn hc
  obtain ⟨i0, hi, hz0, hz1, hz2⟩ := info_parts einfo_seg
  have HI := Lib.hid hi
  have HZ0 := Lib.hid hz0
  have HZ1 := Lib.hid hz1
  have HZ2 := Lib.hid hz2
  clear hi hz0 hz1 hz2
  rcases dd with d1 | ⟨rfl, d1⟩
  · go_enter Try.func30, Try.ntmps30
    go_upto_region 6 with ((with_reducible refine wpList_at (.call { callee := .builtin .append, args := #[.tmp 30, .tmp 32], argTypes := #[22, 22] }) rfl ?_); go_loud (refine wpList_append_own_at _ rfl _ _ 22 rfl B 37 i0 (.agg #[.string ⟨#[]⟩, .slice none 0 0]) 2 40 Try.underlying22 HI.out HZ0.out HZ1.out HZ2.out rfl (by decide) _ _ _ rfl (World.ownsRow.alloc (show w.ownsRow B 37 2 (.slice la l.length lc) l.length (segCells l xs) from H.out.hl) _) ⟨w.heap.size, 0, none⟩ 1 1 [.string ⟨#[]⟩, .slice none 0 0] rfl rfl (cell_two_new _ _ _ _) (by simp [Value.oneCell']) (by unfold maxLen; omega) (by omega) (by simp; omega) ?_); intro lv' w1 he' hg' _ hk'; have HG1 : Hid ((w.alloc (.cells #[.string ⟨#[]⟩, .slice none 0 0] 37)).grownBy w1 (Value.slice la l.length lc).ownBlock) := hg'; have HK1 : Hid (lv'.ownBlock = (Value.slice la l.length lc).ownBlock ∨ lv'.ownBlock = some (w.heap.size + 1)) := Lib.hid (by rcases hk' with h | h; exact .inl h; (right; rw [h]; simp)); have hea := blk_ag HG1.out hrw nlr; have f0' : w1.frozen? ⟨rb, 0, none⟩ = false := (fz_ag hea).trans f0; have d0' : w1.cell? ⟨rb, 0, none⟩ = some (.slice la l.length lc) := (cell_ag hea).trans d0; have hs1 := hg'.size; simp at hs1; have HE1 : Hid (w1.ownsRow B 37 2 lv' (l.length + 1) (segCells l xs ++ [sv [], .slice none 0 0])) := Lib.hid he'; obtain ⟨pg2, pc2, _, rfl, _⟩ := own_form he' (by omega) (by omega); clear he' hg' hk' hea)
    have HQ := Lib.hid (H.out.newseg HG1.out HE1.out (by rw [World.size_alloc]; exact HK1.out))
    have HBQ := Lib.hid (H.out.fr_newseg (lv' := .slice (some ⟨pg2, 0, none⟩) (l.length + 1) pc2) HG1.out hB)
    obtain ⟨wq, hwq⟩ : ∃ wq, w1.setCell ⟨rb, 0, none⟩ (.slice (some ⟨pg2, 0, none⟩) (l.length + 1) pc2) = wq := ⟨_, rfl⟩
    rw [hwq] at HQ HBQ ⊢
    clear hwq f0 d0 f0' d0' HG1 HE1 HK1 hs1
    have HC := Lib.hid (HT.out wq _ HQ.out HBQ.out)
    go_wp2_with (go_at_call 37; refine HC.out.mono ?_; rintro e w' ⟨rfl, hR⟩; have HR := Lib.hid hR; clear hR)
    go_ret2
    exact ⟨rfl, HR.out⟩
  · have d2 : ¬ 0 < l.length := fun h => by rw [decide_eq_false_iff_not] at d1; omega
    go_enter Try.func30, Try.ntmps30
    go_upto_region 6 with ((with_reducible refine wpList_at (.call { callee := .builtin .append, args := #[.tmp 30, .tmp 32], argTypes := #[22, 22] }) rfl ?_); go_loud (refine wpList_append_own_at _ rfl _ _ 22 rfl B 37 i0 (.agg #[.string ⟨#[]⟩, .slice none 0 0]) 2 40 Try.underlying22 HI.out HZ0.out HZ1.out HZ2.out rfl (by decide) _ _ _ rfl (World.ownsRow.alloc (show w.ownsRow B 37 2 (.slice la l.length lc) l.length (segCells l xs) from H.out.hl) _) ⟨w.heap.size, 0, none⟩ 1 1 [.string ⟨#[]⟩, .slice none 0 0] rfl rfl (cell_two_new _ _ _ _) (by simp [Value.oneCell']) (by unfold maxLen; omega) (by omega) (by simp; omega) ?_); intro lv' w1 he' hg' _ hk'; have HG1 : Hid ((w.alloc (.cells #[.string ⟨#[]⟩, .slice none 0 0] 37)).grownBy w1 (Value.slice la l.length lc).ownBlock) := hg'; have HK1 : Hid (lv'.ownBlock = (Value.slice la l.length lc).ownBlock ∨ lv'.ownBlock = some (w.heap.size + 1)) := Lib.hid (by rcases hk' with h | h; exact .inl h; (right; rw [h]; simp)); have hea := blk_ag HG1.out hrw nlr; have f0' : w1.frozen? ⟨rb, 0, none⟩ = false := (fz_ag hea).trans f0; have d0' : w1.cell? ⟨rb, 0, none⟩ = some (.slice la l.length lc) := (cell_ag hea).trans d0; have hs1 := hg'.size; simp at hs1; have HE1 : Hid (w1.ownsRow B 37 2 lv' (l.length + 1) (segCells l xs ++ [sv [], .slice none 0 0])) := Lib.hid he'; obtain ⟨pg2, pc2, _, rfl, _⟩ := own_form he' (by omega) (by omega); clear he' hg' hk' hea)
    have HQ := Lib.hid (H.out.newseg HG1.out HE1.out (by rw [World.size_alloc]; exact HK1.out))
    have HBQ := Lib.hid (H.out.fr_newseg (lv' := .slice (some ⟨pg2, 0, none⟩) (l.length + 1) pc2) HG1.out hB)
    obtain ⟨wq, hwq⟩ : ∃ wq, w1.setCell ⟨rb, 0, none⟩ (.slice (some ⟨pg2, 0, none⟩) (l.length + 1) pc2) = wq := ⟨_, rfl⟩
    rw [hwq] at HQ HBQ ⊢
    clear hwq f0 d0 f0' d0' HG1 HE1 HK1 hs1
    have HC := Lib.hid (HT.out wq _ HQ.out HBQ.out)
    go_wp2_with (go_at_call 37; refine HC.out.mono ?_; rintro e w' ⟨rfl, hR⟩; have HR := Lib.hid hR; clear hR)
    go_ret2
    exact ⟨rfl, HR.out⟩
end
end Go.Proofs.Ytpfkmklhfafkiaa
