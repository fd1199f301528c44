/-
  EdiJ: contract of put. No condition beyond those stated.
-/
import Derived.Test.YtpfkmklhfafkiaaEdiI
namespace Go.Proofs.Ytpfkmklhfafkiaa
open Go.RowKit
section
variable {S : Nat → Prop} {w : World} {B rb : Nat} {l : List Seg} {t : Str} {es : List (List Str)} {cs : List Str} {p q : Str} {lv pv ev cv : Value} {xs ys : List Value}
set_option maxRecDepth 100000 in
set_option maxHeartbeats 4000000 in
theorem put_ok (h : RB S w B rb l t es cs p p lv pv ev cv xs ys) (c : UInt8) (hB : B ≤ w.heap.size) (h256 : p.length < 256) : Calls Try.prog 73 #[.pointer (some ⟨rb, 0, none⟩), .int .u8 (c.toNat : Int)] w fun e w' => e = .returned (.tuple #[fnV rb 60, .int .i64 0]) ∧ (∃ pv', RB S w' B rb l t es cs (p ++ [c]) (p ++ [c]) lv pv' ev cv xs ys) ∧ Below B w w' := by
  have d1 := h.c1
  have f1 := h.fz 1
  have H := Lib.hid h
  have hrB := h.hB
  obtain ⟨pa, pc, hpe⟩ : ∃ pa pc, pv = .slice pa p.length pc := by
    obtain ⟨_, ⟨h1, h2⟩ | ⟨g, cap, _, h1, _⟩⟩ := h.hp
    · exact ⟨none, 0, by rw [h1, h2]⟩
    · exact ⟨_, cap, h1⟩
  subst hpe
  have hx := len_int p.length (by omega)
  have hrw := h.lt
  have nprn : (Value.slice pa p.length pc).ownBlock ≠ some rb := own_neR h.r h.hp (by decide)
  obtain ⟨cn, hcn⟩ : ∃ n : Int, (c.toNat : Int) = n := ⟨_, rfl⟩
  have HCN := Lib.hid hcn
  rw [hcn]
  clear h hcn
  obtain ⟨i0, hi, hz0, hz1, hz2⟩ := info_parts einfo_u8
  have HI := Lib.hid hi
  have HZ0 := Lib.hid hz0
  have HZ1 := Lib.hid hz1
  have HZ2 := Lib.hid hz2
  clear hi hz0 hz1 hz2
  go_enter Try.func73, Try.ntmps73
  go_upto_region 4 with ((with_reducible refine wpList_at (.call { callee := .builtin .append, args := #[.tmp 17, .tmp 19], argTypes := #[32, 32] }) rfl ?_); go_loud (refine wpList_append_own_at _ rfl _ _ 32 rfl B 5 i0 (.int .u8 0) 1 1 Try.underlying32 HI.out HZ0.out HZ1.out HZ2.out rfl (by decide) _ _ _ rfl (World.ownsRow.alloc (show w.ownsRow B 5 1 (.slice pa p.length pc) p.length (p.map bv) from H.out.hp) _) ⟨w.heap.size, 0, none⟩ 1 1 [.int .u8 cn] rfl rfl (cell_one_new _ _ _) (by simp [Value.oneCell']) (by unfold maxLen; omega) (by omega) (by simp; omega) ?_); intro pv' w1 he' hg' _ hk'; have HG1 : Hid ((w.alloc (.cells #[.int .u8 cn] 5)).grownBy w1 (Value.slice pa p.length pc).ownBlock) := hg'; have HK1 : Hid (pv'.ownBlock = (Value.slice pa p.length pc).ownBlock ∨ pv'.ownBlock = some (w.heap.size + 1)) := Lib.hid (by rcases hk' with h | h; exact .inl h; (right; rw [h]; simp)); have hea := blk_ag HG1.out hrw nprn; have d1' : w1.cell? ⟨rb, 1, none⟩ = some (.slice pa p.length pc) := (cell_ag hea).trans d1; have f1' : w1.frozen? ⟨rb, 1, none⟩ = false := (fz_ag hea).trans f1; have hs1 := hg'.size; simp at hs1; have HE1 : Hid (OwnS w1 B pv' (p ++ [c])) := Lib.hid (by unfold OwnS; rw [List.length_append, List.length_singleton, List.map_append, List.map_singleton, bv, HCN.out]; exact he'); obtain ⟨pg2, pc2, _, rfl, _⟩ := own_form (show w1.ownsRow B 5 1 pv' (p.length + 1) (p.map bv ++ [.int .u8 cn]) from he') (by omega) (by omega); clear he' hg' hk' hea)
  obtain ⟨wq, hwq⟩ : ∃ wq, w1.setCell ⟨rb, 1, none⟩ (.slice (some ⟨pg2, 0, none⟩) (p.length + 1) pc2) = wq := ⟨_, rfl⟩
  have HQ : Hid (RB S wq B rb l t es cs p (p ++ [c]) lv (.slice (some ⟨pg2, 0, none⟩) (p.length + 1) pc2) ev cv xs ys) := Lib.hid (by rw [← hwq]; exact H.out.grow HG1.out HE1.out HK1.out)
  have HBQ := Lib.hid (show Below B w wq by rw [← hwq]; exact (((Below.refl B w).alloc (by omega) _).grown HG1.out (by simp; omega) (fun k hk => (own_lt H.out.hp hk).1)).setCell hrB _)
  rw [hwq]
  have sq := HBQ.out.size
  clear hwq d1 f1 H HG1 HK1 HE1 d1' f1' hs1 nprn hrw hx
  obtain ⟨g, c1, b, c2, d, c3, rfl, rfl, rfl, a1, a2, b1, b2, c1', c2', _, k2, z2, k3, z3, k4, z4⟩ := HQ.out.tops
  have d0 := HQ.out.c0
  have d1 := HQ.out.c1
  have b2' := b2
  unfold maxLen at b2' c2'
  have hw : IntKind.i64.wrap ((es.length : Int) + 1 - 1) = (es.length : Int) := by rw [show (es.length : Int) + 1 - 1 = (es.length : Int) by omega]; exact IntWalk.i64_in _ (by omega)
  have hw2 : IntKind.i64.wrap (es.length : Int) = (es.length : Int) := IntWalk.i64_in _ (by omega)
  have h0 : (0 : Int) ≤ (es.length : Int) := by omega
  have h1 : (es.length : Int) < (es.length : Int) + 1 := by omega
  clear z2 z3
  refine wp_region_plan [(0, false), (5, false), (1, true), (2, false), (3, false), (4, false), (6, true), (7, false), (8, false), (9, false), (10, false), (11, false), (12, false), (13, false), (14, false)]
    (fun w' => w'.cell? ⟨g, l.length * 2 + 1, none⟩ = some (.slice (some ⟨b, 0, none⟩) (es.length + 1) c2) ∧ w'.cell? ⟨b, es.length, none⟩ = some (.slice (some ⟨d, 0, none⟩) (cs.length + 1) c3)) (by kernel_rfl) (by kernel_rfl) ⟨k2, k3⟩ ?_
  have k2' : wq.drew.cell? ⟨g, l.length * 2 + 1, none⟩ = some (.slice (some ⟨b, 0, none⟩) (es.length + 1) c2) := k2
  have k3' : wq.drew.cell? ⟨b, es.length, none⟩ = some (.slice (some ⟨d, 0, none⟩) (cs.length + 1) c3) := k3
  iterate 2 (refine' plan_val rfl rfl (fun w' hS => ?_) ?_; rotate_left; (focus (go_simp; rfl)); simp only [Act.put, List.setIfInBounds_toArray, List.set_cons_zero, List.set_cons_succ])
  refine plan_do rfl (fun K hK => ?_)
  go_wp2_with fail
  refine (top_any rb g l.length c1 wq.drew d0 a1 a2).mono ?_
  rintro e w' ⟨rfl, rfl⟩
  go_wp2_with fail
  refine hK _ _ ⟨k2, k3⟩ ?_
  clear hK K
  iterate 3 (refine' plan_val rfl rfl (fun w' hS => ?_) ?_; rotate_left; (focus (obtain ⟨hS1, hS2⟩ := hS; go_simp; rfl)); simp only [Act.put, List.setIfInBounds_toArray, List.set_cons_zero, List.set_cons_succ])
  refine plan_do rfl (fun K hK => ?_)
  go_wp2_with fail
  refine (top_any rb g l.length c1 wq.drew.drew d0 a1 a2).mono ?_
  rintro e w' ⟨rfl, rfl⟩
  go_wp2_with fail
  refine hK _ _ ⟨k2, k3⟩ ?_
  clear hK K
  iterate 8 (refine' plan_val rfl rfl (fun w' hS => ?_) ?_; rotate_left; (focus (obtain ⟨hS1, hS2⟩ := hS; go_simp; rfl)); simp only [Act.put, List.setIfInBounds_toArray, List.set_cons_zero, List.set_cons_succ])
  refine plan_nil ?_
  obtain ⟨wd, hwd⟩ : ∃ wd, wq.drew.drew.drew = wd := ⟨_, rfl⟩
  have HQ2 := Lib.hid (show RB S wd B rb l t es cs p (p ++ [c]) (.slice (some ⟨g, 0, none⟩) (l.length + 1) c1) (.slice (some ⟨pg2, 0, none⟩) (p.length + 1) pc2) (.slice (some ⟨b, 0, none⟩) (es.length + 1) c2) (.slice (some ⟨d, 0, none⟩) (cs.length + 1) c3) xs ys by rw [← hwd]; exact ((HQ.out.fr0 (Fr.drew _ _)).fr0 (Fr.drew _ _)).fr0 (Fr.drew _ _))
  have HBQ2 := Lib.hid (show Below B w wd by rw [← hwd]; exact HBQ.out.drew.drew.drew)
  have d1 : wd.cell? ⟨rb, 1, none⟩ = some (.slice (some ⟨pg2, 0, none⟩) (p.length + 1) pc2) := by rw [← hwd]; exact d1
  have k4 : wd.cell? ⟨d, cs.length, none⟩ = some (.string ⟨p.toArray⟩) := by rw [← hwd]; exact k4
  have z4 : wd.frozen? ⟨d, cs.length, none⟩ = false := by rw [← hwd]; exact z4
  rw [hwd]
  clear hwd HQ HBQ k2 k3 k2' k3' d0 hw hw2 h0 h1
  have hw : IntKind.i64.wrap ((cs.length : Int) + 1 - 1) = (cs.length : Int) := by rw [show (cs.length : Int) + 1 - 1 = (cs.length : Int) by omega]; exact IntWalk.i64_in _ (by omega)
  have hw2 : IntKind.i64.wrap (cs.length : Int) = (cs.length : Int) := IntWalk.i64_in _ (by omega)
  have h0 : (0 : Int) ≤ (cs.length : Int) := by omega
  have h1 : (cs.length : Int) < (cs.length : Int) + 1 := by omega
  have hcv : (convert 32 9 (.slice (some ⟨pg2, 0, none⟩) (p.length + 1) pc2)).run Try.prog wd = .ok (.string ⟨(p ++ [c]).toArray⟩) wd := conv_own HQ2.out.hp
  have HDB := Lib.hid (own_lt HQ2.out.hc (k := d) rfl).1
  go_wp2_with fail
  go_ret2
  exact ⟨rfl, ⟨_, HQ2.out.setlast⟩, HBQ2.out.setCell HDB.out _⟩
end
end Go.Proofs.Ytpfkmklhfafkiaa
