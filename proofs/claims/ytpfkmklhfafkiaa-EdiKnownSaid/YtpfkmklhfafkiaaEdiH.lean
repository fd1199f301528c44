/-
  EdiH: contracts of sign, within a component. No condition beyond those stated.
-/
import Derived.Test.YtpfkmklhfafkiaaEdiG
namespace Go.Proofs.Ytpfkmklhfafkiaa
open Go.RowKit
section
variable {S : Nat → Prop} {w : World} {B rb : Nat} {l : List Seg} {t : Str} {es : List (List Str)} {cs : List Str} {p q : Str} {lv pv ev cv : Value} {xs ys : List Value}
set_option maxRecDepth 100000 in
set_option maxHeartbeats 2000000 in
theorem sign_B43_full (h : RB S w B rb l t es cs p q lv pv ev cv xs ys) (_hB : B ≤ w.heap.size) (h16 : es.length + 1 = 16) : Calls Try.prog 52 #[.pointer (some ⟨rb, 0, none⟩), .int .u8 43] w fun e w' => e = .returned (.tuple #[.nilFunc, .int .i64 2]) ∧ Below B w w' := by
  obtain ⟨g, c1, b, c2, d, c3, rfl, rfl, rfl, a1, a2, b1, b2, _, _, _, k2, z2, _⟩ := h.tops
  have d0 := h.c0
  have d1 := h.c1
  have f1 := h.fz 1
  have hrB := h.hB
  have ngr : g ≠ rb := fun e => own_neR h.r h.hl (by decide) (by rw [← e]; rfl)
  have he : es.length = 15 := by omega
  rw [he] at k2 b1
  unfold maxLen at b2
  clear h h16 he
  go_enter Try.func52, Try.ntmps52
  go_wp2_with (go_at_call 43; refine (top_any rb g l.length c1 _ d0 a1 a2).mono ?_; rintro e w' ⟨rfl, rfl⟩)
  go_ret2
  exact ⟨rfl, (((Below.refl B w).setCell hrB _).drew)⟩
set_option maxRecDepth 100000 in
set_option maxHeartbeats 2000000 in
theorem sign_B43_next (h : RB S w B rb l t es cs p q lv pv ev cv xs ys) (hB : B ≤ w.heap.size) (h16 : es.length + 1 < 16) : Calls Try.prog 52 #[.pointer (some ⟨rb, 0, none⟩), .int .u8 43] w fun e w' => e = .returned (.tuple #[fnV rb 60, .int .i64 0]) ∧ (∃ ev' cv', RB (fun k => S k ∨ cv.ownBlock = some k) w' B rb l t (es ++ [cs ++ [p]]) [] [] [] lv (.slice none 0 0) ev' cv' xs (ys ++ [cv])) ∧ Below B w w' := by
  obtain ⟨g, c1, b, c2, d, c3, rfl, rfl, rfl, a1, a2, b1, b2, _, _, _, k2, z2, _⟩ := h.tops
  have d0 := h.c0
  have d1 := h.c1
  have f1 := h.fz 1
  have H := Lib.hid h
  have hrB := h.hB
  have ngr : g ≠ rb := fun e => own_neR h.r h.hl (by decide) (by rw [← e]; rfl)
  have hx16 : ((es.length : Int) + 1 == 16) = false := by rw [beq_eq_false_iff_ne]; omega
  have b2' := b2
  unfold maxLen at b2'
  clear h
  obtain ⟨i0, hi, hz0, hz1, hz2⟩ := info_parts einfo_strs
  have HI := Lib.hid hi
  have HZ0 := Lib.hid hz0
  have HZ1 := Lib.hid hz1
  have HZ2 := Lib.hid hz2
  clear hi hz0 hz1 hz2
  go_enter Try.func52, Try.ntmps52
  go_upto_region 13 with (go_at_call 43; refine (top_any rb g l.length c1 _ d0 a1 a2).mono ?_; rintro e w' ⟨rfl, rfl⟩)
  obtain ⟨wq, hwq⟩ : ∃ wq, (w.setCell ⟨rb, 1, none⟩ (.slice none 0 0)).drew = wq := ⟨_, rfl⟩
  have HQ : Hid (RB S wq B rb l t es cs p [] (.slice (some ⟨g, 0, none⟩) (l.length + 1) c1) (.slice none 0 0) (.slice (some ⟨b, 0, none⟩) (es.length + 1) c2) (.slice (some ⟨d, 0, none⟩) (cs.length + 1) c3) xs ys) := Lib.hid (by rw [← hwq]; exact H.out.part.fr0 (Fr.drew _ _))
  have HBQ := Lib.hid (show Below B w wq by rw [← hwq]; exact ((Below.refl B w).setCell hrB _).drew)
  have hag : wq.heap[g]? = w.heap[g]? := by rw [← hwq]; exact heap_setCell_other w _ _ _ ngr
  rw [hwq]
  have sq := HBQ.out.size
  have k2 := (cell_ag hag).trans k2
  have z2 := (fz_ag hag).trans z2
  clear hwq hag d0 d1 f1 H
  have hgq : g < wq.heap.size := cell_lt' k2
  have hgB : B ≤ g := (own_lt HQ.out.hl (k := g) rfl).1
  have nbg : b ≠ g := fun e => own_ne HQ.out.he HQ.out.hl (by decide) (k := g) (by rw [← e]; rfl) rfl
  have HBB := Lib.hid (own_lt HQ.out.he (k := b) rfl).1
  go_wp2_with ((with_reducible refine wpList_at (.call { callee := .builtin .append, args := #[.tmp 53, .tmp 55], argTypes := #[35, 35] }) rfl ?_); go_loud (refine wpList_append_own_at _ rfl _ _ 35 rfl B 38 i0 (.slice none 0 0) 1 24 Try.underlying35 HI.out HZ0.out HZ1.out HZ2.out rfl (by decide) _ _ _ rfl ((HQ.out.he.alloc _).alloc _) ⟨wq.heap.size + 1, 0, none⟩ 1 1 [.slice (some ⟨wq.heap.size, 0, none⟩) 1 1] rfl rfl (cell_one_new2 _ _ _ _) (by simp [Value.oneCell']) (by unfold maxLen; omega) (by omega) (by simp; omega) ?_); intro ev' w1 he' hg' _ hk'; have HG1 : Hid (((wq.alloc (.cells #[sv []] 9)).alloc (.cells #[.slice (some ⟨wq.heap.size, 0, none⟩) 1 1] 38)).grownBy w1 (some b)) := hg'; have HK1 : Hid (ev'.ownBlock = some b ∨ ev'.ownBlock = some (wq.heap.size + 2)) := Lib.hid (by rcases hk' with h | h; exact .inl h; (right; rw [h]; simp)); have hea := blk_ag2 HG1.out hgq (fun e => nbg (Option.some.inj e)); have k2' : w1.cell? ⟨g, l.length * 2 + 1, none⟩ = some (.slice (some ⟨b, 0, none⟩) (es.length + 1) c2) := (cell_ag hea).trans k2; have z2' : w1.frozen? ⟨g, l.length * 2 + 1, none⟩ = false := (fz_ag hea).trans z2; have hs1 := hg'.size; simp at hs1; have HE1 : Hid (w1.ownsRow B 38 1 ev' (es.length + 1 + 1) (ys ++ [.slice (some ⟨d, 0, none⟩) (cs.length + 1) c3] ++ [.slice (some ⟨wq.heap.size, 0, none⟩) 1 1])) := he'; obtain ⟨eg, ec, _, rfl, _⟩ := own_form HE1.out (by omega) (by omega); clear he' hg' hk' hea)
  go_ret2
  have hop := RB.next rfl rfl HQ.out (by omega) HG1.out HE1.out HK1.out
  refine ⟨rfl, ⟨_, _, hop⟩, ?_⟩
  exact HBQ.out.trans (((((Below.refl B wq).alloc (by omega) _).alloc (by simp; omega) _).grown HG1.out (by simp; omega) (fun k hk => by cases hk; exact HBB.out)).setCell (by omega) _)
set_option maxRecDepth 100000 in
set_option maxHeartbeats 2000000 in
theorem sign_B58_full (h : RB S w B rb l t es cs p q lv pv ev cv xs ys) (_hB : B ≤ w.heap.size) (h8 : cs.length + 1 = 8) : Calls Try.prog 52 #[.pointer (some ⟨rb, 0, none⟩), .int .u8 58] w fun e w' => e = .returned (.tuple #[.nilFunc, .int .i64 2]) ∧ Below B w w' := by
  obtain ⟨g, c1, b, c2, d, c3, rfl, rfl, rfl, a1, a2, b1, b2, c1', c2', _, k2, z2, k3, z3, _⟩ := h.tops
  have d0 := h.c0
  have d1 := h.c1
  have f1 := h.fz 1
  have H := Lib.hid h
  have hrB := h.hB
  have ngr : g ≠ rb := fun e => own_neR h.r h.hl (by decide) (by rw [← e]; rfl)
  have nbr : b ≠ rb := fun e => own_neR h.r h.he (by decide) (by rw [← e]; rfl)
  have hc : cs.length = 7 := by omega
  rw [hc] at k3 c1'
  unfold maxLen at b2 c2'
  have hw : IntKind.i64.wrap ((es.length : Int) + 1 - 1) = (es.length : Int) := by rw [show (es.length : Int) + 1 - 1 = (es.length : Int) by omega]; exact IntWalk.i64_in _ (by omega)
  have hw2 : IntKind.i64.wrap (es.length : Int) = (es.length : Int) := IntWalk.i64_in _ (by omega)
  have h0 : (0 : Int) ≤ (es.length : Int) := by omega
  have h1 : (es.length : Int) < (es.length : Int) + 1 := by omega
  clear h h8 hc H
  go_enter Try.func52, Try.ntmps52
  go_upto_region 4 with (go_at_call 43; refine (top_any rb g l.length c1 _ d0 a1 a2).mono ?_; rintro e w' ⟨rfl, rfl⟩)
  obtain ⟨wq, hwq⟩ : ∃ wq, (w.setCell ⟨rb, 1, none⟩ (.slice none 0 0)).drew = wq := ⟨_, rfl⟩
  have HBQ := Lib.hid (show Below B w wq by rw [← hwq]; exact ((Below.refl B w).setCell hrB _).drew)
  have hag : wq.heap[g]? = w.heap[g]? := by rw [← hwq]; exact heap_setCell_other w _ _ _ ngr
  have hab : wq.heap[b]? = w.heap[b]? := by rw [← hwq]; exact heap_setCell_other w _ _ _ nbr
  rw [hwq]
  have k2 := (cell_ag hag).trans k2
  have k3 := (cell_ag hab).trans k3
  clear hwq hag hab d0 d1 f1 z2 z3
  refine wp_region_plan [(0, false), (1, false), (2, false), (3, false), (4, false), (5, false), (6, false), (7, false), (8, false), (9, false), (10, false), (11, false)] (fun w' => w'.cell? ⟨g, l.length * 2 + 1, none⟩ = some (.slice (some ⟨b, 0, none⟩) (es.length + 1) c2)) (by kernel_rfl) (by kernel_rfl) k2 ?_
  iterate 12 (refine' plan_val rfl rfl (fun w' hS => ?_) ?_; rotate_left; (focus (go_simp; rfl)); simp only [Act.put, List.setIfInBounds_toArray, List.set_cons_zero, List.set_cons_succ])
  refine plan_nil ?_
  go_wp2_with fail
  go_ret2
  exact ⟨rfl, HBQ.out.drew⟩
end
end Go.Proofs.Ytpfkmklhfafkiaa
