/-
  EdiG: contracts of sign. No condition beyond those stated.
-/
import Derived.Test.YtpfkmklhfafkiaaEdiF
import Derived.Deep.CutBlock
import Derived.Deep.CutRange
namespace Go.Proofs.Ytpfkmklhfafkiaa
open Go.RowKit
theorem cell_one_new2 (w : World) (o : Obj) (x : Value) (t : TypeId) : ∀ (j : Nat) (u : Value), [x][j]? = some u → ((w.alloc o).alloc (.cells #[x] t)).cell? ((⟨w.heap.size + 1, 0, none⟩ : Addr).add j) = some u := by
  intro j u hj
  have h := cell_one_new (w.alloc o) x t j u hj
  rw [World.size_alloc] at h
  exact h
theorem fz_ag {w w1 : World} {g j : Nat} (e : w1.heap[g]? = w.heap[g]?) : w1.frozen? ⟨g, j, none⟩ = w.frozen? ⟨g, j, none⟩ := by simp [World.frozen?, e]
theorem cell_ag {w w1 : World} {g j : Nat} (e : w1.heap[g]? = w.heap[g]?) : w1.cell? ⟨g, j, none⟩ = w.cell? ⟨g, j, none⟩ := World.cell?_of_block (a := ⟨g, j, none⟩) e
/-- a method of the reader as a value -/
def fnV (rb f : Nat) : Value := .func (.func f) #[.pointer (some ⟨rb, 0, none⟩)] #[]
section
variable {S : Nat → Prop} {w : World} {B rb : Nat} {l : List Seg} {t : Str} {es : List (List Str)} {cs : List Str} {p q : Str} {lv pv ev cv : Value} {xs ys : List Value}
set_option maxRecDepth 100000 in
set_option maxHeartbeats 2000000 in
theorem sign_A39 {s : Seg} (h : RA S w B rb (l ++ [s]) lv pv xs p) (_hB : B ≤ w.heap.size) : Calls Try.prog 52 #[.pointer (some ⟨rb, 0, none⟩), .int .u8 39] w fun e w' => e = .returned (.tuple #[fnV rb 30, .int .i64 0]) ∧ RA S w' B rb (l ++ [s]) lv (.slice none 0 0) xs [] ∧ Below B w w' := by
  obtain ⟨g, cap, x, xs0, rfl, hc1, hc2, rfl, hx0, k1, k2, z1, z2, _⟩ := h.top
  have c0 := h.c0
  have c1 := h.c1
  have f1 := h.fz 1
  have H := Lib.hid h
  have hrB := h.hB
  clear h k1 k2 z1 z2
  go_enter Try.func52, Try.ntmps52
  go_wp2_with (go_at_call 43; refine (top_any rb g l.length cap _ c0 hc1 hc2).mono ?_; rintro e w' ⟨rfl, rfl⟩)
  go_ret2
  exact ⟨rfl, H.out.part.fr0 (Fr.drew _ _), (((Below.refl B w).setCell hrB _).drew)⟩
set_option maxRecDepth 100000 in
set_option maxHeartbeats 2000000 in
theorem sign_B39 (h : RB S w B rb l t es cs p q lv pv ev cv xs ys) (hB : B ≤ w.heap.size) : Calls Try.prog 52 #[.pointer (some ⟨rb, 0, none⟩), .int .u8 39] w fun e w' => e = .returned (.tuple #[fnV rb 30, .int .i64 0]) ∧ RA (fun k => S k ∨ ev.ownBlock = some k ∨ cv.ownBlock = some k) w' B rb (l ++ [⟨t, es ++ [cs ++ [p]]⟩]) lv (.slice none 0 0) (xs ++ [ev]) [] ∧ Below B w w' :=
  sign_A39 h.close hB
set_option maxRecDepth 100000 in
set_option maxHeartbeats 2000000 in
theorem sign_A43 {xs0 : List Value} (h : RA S w B rb (l ++ [⟨t, []⟩]) lv pv (xs0 ++ [.slice none 0 0]) p) (hB : B ≤ w.heap.size) : Calls Try.prog 52 #[.pointer (some ⟨rb, 0, none⟩), .int .u8 43] w fun e w' => e = .returned (.tuple #[fnV rb 60, .int .i64 0]) ∧ (∃ ev cv, RB S w' B rb l t [] [] [] [] lv (.slice none 0 0) ev cv xs0 []) ∧ Below B w w' := by
  obtain ⟨g, cap, x, xs1, rfl, hc1, hc2, hxe, hx0, k1, k2, z1, z2, _⟩ := h.top
  obtain ⟨rfl, hxx⟩ := List.append_inj hxe (by have := h.xl; simp at this; omega)
  obtain rfl : x = .slice none 0 0 := by simpa using hxx.symm
  have c0 := h.c0
  have c1 := h.c1
  have f1 := h.fz 1
  have H := Lib.hid h
  have hrB := h.hB
  clear h hxe hxx
  have ngr : g ≠ rb := fun e => own_neR H.out.r H.out.hl (by decide) (by rw [← e]; rfl)
  obtain ⟨i0, hi, hz0, hz1, hz2⟩ := info_parts einfo_strs
  have HI := Lib.hid hi
  have HZ0 := Lib.hid hz0
  have HZ1 := Lib.hid hz1
  have HZ2 := Lib.hid hz2
  clear hi hz0 hz1 hz2
  go_enter Try.func52, Try.ntmps52
  go_upto_region 13 with (go_at_call 43; refine (top_any rb g l.length cap _ c0 hc1 hc2).mono ?_; rintro e w' ⟨rfl, rfl⟩)
  obtain ⟨wq, hwq⟩ : ∃ wq, (w.setCell ⟨rb, 1, none⟩ (.slice none 0 0)).drew = wq := ⟨_, rfl⟩
  have HQ : Hid (RA S wq B rb (l ++ [⟨t, []⟩]) (.slice (some ⟨g, 0, none⟩) (l.length + 1) cap) (.slice none 0 0) (xs0 ++ [.slice none 0 0]) []) := Lib.hid (by rw [← hwq]; exact H.out.part.fr0 (Fr.drew _ _))
  have HBQ := Lib.hid (show Below B w wq by rw [← hwq]; exact ((Below.refl B w).setCell hrB _).drew)
  have hag : wq.heap[g]? = w.heap[g]? := by rw [← hwq]; exact heap_setCell_other w _ _ _ ngr
  rw [hwq]
  have sq := HBQ.out.size
  have k2 := (cell_ag hag).trans k2
  have z2 := (fz_ag hag).trans z2
  clear hwq hag c0 c1 f1 k1 z1 H
  have hgq : g < wq.heap.size := cell_lt' k2
  have hgB : B ≤ g := by have h1 := HQ.out.hl; rw [List.length_append, List.length_singleton] at h1; exact (own_lt h1 (k := g) rfl).1
  go_wp2_with ((with_reducible refine wpList_at (.call { callee := .builtin .append, args := #[.tmp 53, .tmp 55], argTypes := #[35, 35] }) rfl ?_); go_loud (refine wpList_append_own_at _ rfl _ _ 35 rfl B 38 i0 (.slice none 0 0) 1 24 Try.underlying35 HI.out HZ0.out HZ1.out HZ2.out rfl (by decide) _ _ _ rfl (World.ownsRow_nil _ _ _ _) ⟨wq.heap.size + 1, 0, none⟩ 1 1 [.slice (some ⟨wq.heap.size, 0, none⟩) 1 1] rfl rfl (cell_one_new2 _ _ _ _) (by simp [Value.oneCell']) (by unfold maxLen; omega) (by omega) (by simp; omega) ?_); intro ev' w1 he' hg' _ hk'; have HG1 : Hid (((wq.alloc (.cells #[sv []] 9)).alloc (.cells #[.slice (some ⟨wq.heap.size, 0, none⟩) 1 1] 38)).grownBy w1 none) := hg'; have HK1 : Hid (ev'.ownBlock = none ∨ ev'.ownBlock = some (wq.heap.size + 2)) := Lib.hid (by rcases hk' with h | h; exact .inl h; (right; rw [h]; simp)); have hea := blk_ag2 HG1.out hgq (by simp); have k2' : w1.cell? ⟨g, l.length * 2 + 1, none⟩ = some (.slice none 0 0) := (cell_ag hea).trans k2; have z2' : w1.frozen? ⟨g, l.length * 2 + 1, none⟩ = false := (fz_ag hea).trans z2; have hs1 := hg'.size; simp at hs1; have HE1 : Hid (w1.ownsRow B 38 1 ev' 1 [.slice (some ⟨wq.heap.size, 0, none⟩) 1 1]) := he'; obtain ⟨eg, ec, _, rfl, _⟩ := own_form HE1.out (by omega) (by omega); clear he' hg' hk' hea)
  go_ret2
  have hop := RA.open rfl rfl HQ.out (by omega) HG1.out HE1.out HK1.out
  refine ⟨rfl, ⟨_, _, hop⟩, ?_⟩
  exact HBQ.out.trans (((((Below.refl B wq).alloc (by omega) _).alloc (by simp; omega) _).grown HG1.out (by simp; omega) (by simp)).setCell (by omega) _)
end
end Go.Proofs.Ytpfkmklhfafkiaa
