/-
  EdiI: contracts of sign at a colon, and of put. No condition beyond those stated.
-/
import Derived.Test.YtpfkmklhfafkiaaEdiH
import Derived.Laws.BytesString
namespace Go.Proofs.Ytpfkmklhfafkiaa
open Go.RowKit
theorem fold_push' : ∀ (l : List UInt8) (s : ByteArray), (l.map fun b => (b.toNat : Int)).foldl (fun r n => r.push (UInt8.ofNat n.toNat)) s = ⟨s.data ++ l.toArray⟩
  | [], s => by simp
  | b :: l, s => by
    rw [List.map_cons, List.foldl_cons, fold_push' l]
    simp [ByteArray.push]
/-- owned bytes as a string -/
theorem conv_own {w : World} {B : Nat} {v : Value} {l : Str} (h : OwnS w B v l) : (convert 32 9 v).run Try.prog w = .ok (sv l) w := by
  have h' := h
  obtain ⟨_, ⟨rfl, h0⟩ | ⟨g, cap, cur, rfl, hg, hh, hc, hm, hs', hx⟩⟩ := h'
  · rw [run_convert_bytes_string w 32 9 5 _ 0 0 Try.underlying32 Try.underlying5 Try.underlying9, List.length_eq_zero_iff.1 h0]
    rfl
  · rw [run_convert_bytes_string w 32 9 5 _ l.length cap Try.underlying32 Try.underlying5 Try.underlying9]
    have hl := run_loadCells_list (P := Try.prog) w ⟨g, 0, none⟩ (l.map bv) (fun j v hv => by rw [Addr.add_mid, Nat.zero_add]; exact own_cell h hv)
    rw [List.length_map] at hl
    have e1 : l.map bv = (l.map fun b => (b.toNat : Int)).map (Value.int .u8) := by simp [bv]
    rw [e1] at hl
    rw [run_bytesToString w _ l.length cap _ hl, fold_push']
    simp [sv, ByteArray.empty, ByteArray.emptyWithCapacity]
    try rfl
section
variable {S : Nat → Prop} {w : World} {B rb : Nat} {l : List Seg} {t : Str} {es : List (List Str)} {cs : List Str} {p q : Str} {lv pv ev cv : Value} {xs ys : List Value}
set_option maxRecDepth 100000 in
set_option maxHeartbeats 2000000 in
theorem sign_B58_next (h : RB S w B rb l t es cs p q lv pv ev cv xs ys) (hB : B ≤ w.heap.size) (h8 : cs.length + 1 < 8) : Calls Try.prog 52 #[.pointer (some ⟨rb, 0, none⟩), .int .u8 58] w fun e w' => e = .returned (.tuple #[fnV rb 60, .int .i64 0]) ∧ (∃ cv', RB S w' B rb l t es (cs ++ [p]) [] [] lv (.slice none 0 0) ev cv' xs ys) ∧ Below B w w' := by
  obtain ⟨g, c1, b, c2, d, c3, rfl, rfl, rfl, a1, a2, b1, b2, c1', c2', _, k2, z2, k3, z3, _⟩ := h.tops
  have d0 := h.c0
  have d1 := h.c1
  have f1 := h.fz 1
  have H := Lib.hid h
  have hrB := h.hB
  have ngr : g ≠ rb := fun e => own_neR h.r h.hl (by decide) (by rw [← e]; rfl)
  have nbr : b ≠ rb := fun e => own_neR h.r h.he (by decide) (by rw [← e]; rfl)
  have hx8 : ((cs.length : Int) + 1 == 8) = false := by rw [beq_eq_false_iff_ne]; omega
  unfold maxLen at b2 c2'
  have hw : IntKind.i64.wrap ((es.length : Int) + 1 - 1) = (es.length : Int) := by rw [show (es.length : Int) + 1 - 1 = (es.length : Int) by omega]; exact IntWalk.i64_in _ (by omega)
  have hw2 : IntKind.i64.wrap (es.length : Int) = (es.length : Int) := IntWalk.i64_in _ (by omega)
  have h0 : (0 : Int) ≤ (es.length : Int) := by omega
  have h1 : (es.length : Int) < (es.length : Int) + 1 := by omega
  clear h
  obtain ⟨i0, hi, hz0, hz1, hz2⟩ := info_parts einfo_str
  have HI := Lib.hid hi
  have HZ0 := Lib.hid hz0
  have HZ1 := Lib.hid hz1
  have HZ2 := Lib.hid hz2
  clear hi hz0 hz1 hz2
  go_enter Try.func52, Try.ntmps52
  go_upto_region 4 with (go_at_call 43; refine (top_any rb g l.length c1 _ d0 a1 a2).mono ?_; rintro e w' ⟨rfl, rfl⟩)
  obtain ⟨wq, hwq⟩ : ∃ wq, (w.setCell ⟨rb, 1, none⟩ (.slice none 0 0)).drew = wq := ⟨_, rfl⟩
  have HQ0 : Hid (RB S wq B rb l t es cs p [] (.slice (some ⟨g, 0, none⟩) (l.length + 1) c1) (.slice none 0 0) (.slice (some ⟨b, 0, none⟩) (es.length + 1) c2) (.slice (some ⟨d, 0, none⟩) (cs.length + 1) c3) xs ys) := Lib.hid (by rw [← hwq]; exact H.out.part.fr0 (Fr.drew _ _))
  have HBQ0 := Lib.hid (show Below B w wq by rw [← hwq]; exact ((Below.refl B w).setCell hrB _).drew)
  have hag : wq.heap[g]? = w.heap[g]? := by rw [← hwq]; exact heap_setCell_other w _ _ _ ngr
  have hab : wq.heap[b]? = w.heap[b]? := by rw [← hwq]; exact heap_setCell_other w _ _ _ nbr
  rw [hwq]
  have k2 := (cell_ag hag).trans k2
  have k3 := (cell_ag hab).trans k3
  have z3 := (fz_ag hab).trans z3
  clear hwq hag hab d0 d1 f1 z2 H
  refine wp_region_plan [(0, false), (1, false), (2, false), (3, false), (4, false), (5, false), (6, false), (7, false), (8, false), (9, false), (10, false), (11, false)] (fun w' => w'.cell? ⟨g, l.length * 2 + 1, none⟩ = some (.slice (some ⟨b, 0, none⟩) (es.length + 1) c2)) (by kernel_rfl) (by kernel_rfl) k2 ?_
  obtain ⟨wd, hwd⟩ : ∃ wd, wq.drew = wd := ⟨_, rfl⟩
  have HQ := Lib.hid (show RB S wd B rb l t es cs p [] (.slice (some ⟨g, 0, none⟩) (l.length + 1) c1) (.slice none 0 0) (.slice (some ⟨b, 0, none⟩) (es.length + 1) c2) (.slice (some ⟨d, 0, none⟩) (cs.length + 1) c3) xs ys by rw [← hwd]; exact HQ0.out.fr0 (Fr.drew _ _))
  have HBQ := Lib.hid (show Below B w wd by rw [← hwd]; exact HBQ0.out.drew)
  have k3 : wd.cell? ⟨b, es.length, none⟩ = some (.slice (some ⟨d, 0, none⟩) (cs.length + 1) c3) := by rw [← hwd]; exact k3
  have z3 : wd.frozen? ⟨b, es.length, none⟩ = false := by rw [← hwd]; exact z3
  rw [hwd]
  have sq := HBQ.out.size
  clear hwd HQ0 HBQ0
  iterate 12 (refine' plan_val rfl rfl (fun w' hS => ?_) ?_; rotate_left; (focus (go_simp; rfl)); simp only [Act.put, List.setIfInBounds_toArray, List.set_cons_zero, List.set_cons_succ])
  refine plan_nil ?_
  clear k2 hw hw2
  have hbq : b < wd.heap.size := cell_lt' k3
  have hbB : B ≤ b := (own_lt HQ.out.he (k := b) rfl).1
  have ndb : d ≠ b := fun e => own_ne HQ.out.hc HQ.out.he (by decide) (k := b) (by rw [← e]; rfl) rfl
  have HDB := Lib.hid (own_lt HQ.out.hc (k := d) rfl).1
  go_wp2_with ((with_reducible refine wpList_at (.call { callee := .builtin .append, args := #[.tmp 33, .tmp 34], argTypes := #[38, 38] }) rfl ?_); go_loud (refine wpList_append_own_at _ rfl _ _ 38 rfl B 9 i0 (.string ⟨#[]⟩) 1 16 Try.underlying38 HI.out HZ0.out HZ1.out HZ2.out rfl (by decide) _ _ _ rfl (HQ.out.hc.alloc _) ⟨wd.heap.size, 0, none⟩ 1 1 [sv []] rfl rfl (cell_one_new _ _ _) (by simp [Value.oneCell', sv]) (by unfold maxLen; omega) (by omega) (by simp; omega) ?_); intro cv' w1 he' hg' _ hk'; have HG1 : Hid ((wd.alloc (.cells #[sv []] 9)).grownBy w1 (some d)) := hg'; have HK1 : Hid (cv'.ownBlock = some d ∨ cv'.ownBlock = some (wd.heap.size + 1)) := Lib.hid (by rcases hk' with h | h; exact .inl h; (right; rw [h]; simp)); have hea := blk_ag HG1.out hbq (fun e => ndb (Option.some.inj e)); have k3' : w1.cell? ⟨b, es.length, none⟩ = some (.slice (some ⟨d, 0, none⟩) (cs.length + 1) c3) := (cell_ag hea).trans k3; have z3' : w1.frozen? ⟨b, es.length, none⟩ = false := (fz_ag hea).trans z3; have hs1 := hg'.size; simp at hs1; have HE1 : Hid (w1.ownsRow B 9 1 cv' (cs.length + 1 + 1) ((cs ++ [p]).map sv ++ [sv []])) := he'; obtain ⟨eg, ec, _, rfl, _⟩ := own_form HE1.out (by omega) (by omega); clear he' hg' hk' hea)
  go_ret2
  have hop := RB.colon HQ.out HG1.out HE1.out HK1.out
  refine ⟨rfl, ⟨_, hop⟩, ?_⟩
  exact HBQ.out.trans ((((Below.refl B wd).alloc (by omega) _).grown HG1.out (by simp; omega) (fun k hk => by cases hk; exact HDB.out)).setCell (by omega) _)
theorem len_int (n : Nat) (h : n ≠ 256) : ((n : Int) == 256) = false := by rw [beq_eq_false_iff_ne]; omega
set_option maxRecDepth 100000 in
set_option maxHeartbeats 2000000 in
theorem put_full (h : RB S w B rb l t es cs p p lv pv ev cv xs ys) (c : UInt8) (h256 : p.length = 256) : Calls Try.prog 73 #[.pointer (some ⟨rb, 0, none⟩), .int .u8 (c.toNat : Int)] w fun e w' => e = .returned (.tuple #[.nilFunc, .int .i64 2]) ∧ Below B w w' := by
  have d1 := h.c1
  obtain ⟨pg, pc, _, hpe, _⟩ := own_form h.hp (by omega) (by omega)
  rw [hpe, h256] at d1
  clear h hpe
  go_enter Try.func73, Try.ntmps73
  go_wp2_with fail
  go_ret2
  exact ⟨rfl, Below.refl _ _⟩
end
end Go.Proofs.Ytpfkmklhfafkiaa
