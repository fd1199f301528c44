/-
  Texts EdiY4, EdiY5, EdiJ, EdiK, EdiL, EdiN, EdiO, EdiQ, EdiY6, EdiY7, EdiV, one behind the other. No condition beyond those stated in each.
-/
import Derived.Test.YtgfijlamhjjecaaGreatDoorMt2
import Derived.Test.YtgfijlamhjjecaaGreatDoorMt1
import Derived.Deep.CutBlock
import Derived.Deep.DeepCutAuto
namespace Go.Proofs.YtgfijlamhjjecaaGreatDoor
open Go.RowKit
theorem RepAt.cell {w : World} {rb : Nat} {d s : Int} {r o : Value} (h : RepAt w rb d s r o) (j : Nat) : w.cell? ⟨rb, j, none⟩ = (#[.int .u32 d, .int .i32 s, .int .u32 0, r, o] : Array Value)[j]? := cell_of_row w rb j _ _ _ h
theorem RepAt.fz {w : World} {rb : Nat} {d s : Int} {r o : Value} (h : RepAt w rb d s r o) (j : Nat) : w.frozen? ⟨rb, j, none⟩ = false := frozen_of_row w rb j _ _ h
theorem RepAt.lt {w : World} {rb : Nat} {d s : Int} {r o : Value} (h : RepAt w rb d s r o) : rb < w.heap.size := (Array.getElem?_eq_some_iff.1 h).1
theorem RepAt.set0 {w : World} {rb : Nat} {d s d' : Int} {r o : Value} (h : RepAt w rb d s r o) : RepAt (w.setCell ⟨rb, 0, none⟩ (.int .u32 d')) rb d' s r o := heap_setCell_same w rb 0 _ _ _ h
theorem RepAt.set1 {w : World} {rb : Nat} {d s s' : Int} {r o : Value} (h : RepAt w rb d s r o) : RepAt (w.setCell ⟨rb, 1, none⟩ (.int .i32 s')) rb d s' r o := heap_setCell_same w rb 1 _ _ _ h
theorem RepAt.set3 {w : World} {rb : Nat} {d s : Int} {r r' o : Value} (h : RepAt w rb d s r o) : RepAt (w.setCell ⟨rb, 3, none⟩ r') rb d s r' o := heap_setCell_same w rb 3 _ _ _ h
theorem RepAt.set4 {w : World} {rb : Nat} {d s : Int} {r o o' : Value} (h : RepAt w rb d s r o) : RepAt (w.setCell ⟨rb, 4, none⟩ o') rb d s r o' := heap_setCell_same w rb 4 _ _ _ h
theorem RepAt.cong {w w' : World} {rb : Nat} {d s : Int} {r o : Value} (h : RepAt w rb d s r o) (e : w'.heap[rb]? = w.heap[rb]?) : RepAt w' rb d s r o := e.trans h
theorem TabAt.cong {w w' : World} {B g : Nat} {D E : List UInt8} (h : TabAt w B g D E) (e : ∀ k, B ≤ k → k < w.heap.size → w'.heap[k]? = w.heap[k]?) : TabAt w' B g D E := by
  obtain ⟨C, tv, h⟩ := h; exact ⟨C, tv, h.cong e⟩
theorem OldAt.cong {w w' : World} {ob : Nat} (h : OldAt w ob) (e : w'.heap[ob]? = w.heap[ob]?) : OldAt w' ob := fun j hj => ⟨(cell_ag e).trans (h j hj).1, (cell_ag e).trans (h j hj).2⟩
def repV (g : Nat) : Value := .iface 296 (.pointer (some ⟨g, 0, none⟩))
set_option maxRecDepth 100000 in
theorem buildOnce_any (w : World) (rb ob cap : Nat) (d s : Int) (r : Value) (hR : RepAt w rb d s r (.slice (some ⟨ob, 0, none⟩) 8 cap)) (hO : OldAt w ob) (hcap : 8 ≤ cap) (hc2 : cap ≤ maxLen) :
    Calls Tryz.prog 165 #[.pointer (some ⟨rb, 0, none⟩)] w fun e w' => e = .returned (.tuple #[]) ∧ (∃ g, RepAt w' rb d s (repV g) (.slice none 0 0) ∧ TabAt w' w.heap.size g (DE 0) (DE 0)) ∧ Fr [rb] w w' := by
  have HB := Lib.hid (build_any w rb ob cap d s r hR hO hcap hc2)
  have HR := Lib.hid hR
  clear hR hO hc2
  go_enter Tryz.func165, Tryz.ntmps165
  go_wp2_with (go_at_call 183; refine HB.out.mono ?_; rintro e w1 ⟨g, rfl, ht, hb⟩; have HT := Lib.hid ht; have HBE := Lib.hid hb; have hR1 := HR.out.cong (hb.block rb HR.out.lt); have z3 := hR1.fz 3; have c3 := hR1.cell 3; have hR2 := hR1.set3 (r' := repV g); have z4 := hR2.fz 4; have c4 := hR2.cell 4; have HR2 := Lib.hid (hR2.set4 (o' := .slice none 0 0)); unfold repV at *; clear ht hb hR1 hR2)
  go_end0
  refine ⟨rfl, ⟨g, HR2.out, HT.out.cong (fun k h1 h2 => ?_)⟩, ?_⟩
  · have : k ≠ rb := by have := HR.out.lt; omega
    rw [heap_setCell_other _ _ _ _ this, heap_setCell_other _ _ _ _ this]
  · exact ((Below.fr HBE.out (Nat.le_refl _) [rb]).trans (Fr.setCell _ (by simp) _)).trans (Fr.setCell _ (by simp) _)
set_option maxRecDepth 100000 in
set_option maxHeartbeats 1600000 in
theorem doSlow_any (w : World) (rb ob cap : Nat) (r : Value) (hR : RepAt w rb 0 0 r (.slice (some ⟨ob, 0, none⟩) 8 cap)) (hO : OldAt w ob) (hne : ob ≠ rb) (hcap : 8 ≤ cap) (hc2 : cap ≤ maxLen) :
    Calls Tryz.prog 182 #[.pointer (some ⟨rb, 0, none⟩), .func (.func 165) #[.pointer (some ⟨rb, 0, none⟩)] #[]] w fun e w' => e = .returned (.tuple #[]) ∧ (∃ g, RepAt w' rb 1 0 (repV g) (.slice none 0 0) ∧ TabAt w' w.heap.size g (DE 0) (DE 0)) ∧ Fr [rb] w w' := by
  have c1 := hR.cell 1
  have z1 := hR.fz 1
  have hrb := hR.lt
  have hR1 := hR.set1 (s' := 1)
  have hO1 : OldAt (w.setCell ⟨rb, 1, none⟩ (.int .i32 1)) ob := hO.cong (heap_setCell_other _ _ _ _ hne)
  have HB := Lib.hid (buildOnce_any _ rb ob cap 0 1 r hR1 hO1 hcap hc2)
  have HA := Lib.hid (aload ⟨rb, 0, none⟩ 0 (w.setCell ⟨rb, 1, none⟩ (.int .i32 1)) (hR1.cell 0))
  have HL := Lib.hid (lock_free ⟨rb, 1, none⟩ w c1 z1)
  have hnot : ∀ (x : Bool) (w : World), (Op.unary .not (.bool x)).run Tryz.prog w = .ok (.bool (!x)) w := fun _ _ => rfl
  clear hR hO hR1 hO1 hc2 c1 z1
  go_enter_defers Tryz.func182, Tryz.ntmps182
  go_wp2_with first
    | (go_at_call 191; refine HL.out.mono ?_; rintro e w' ⟨rfl, rfl⟩)
    | (go_at_call 181; refine HA.out.mono ?_; rintro e w' ⟨rfl, rfl⟩)
    | (go_at_call 165; refine HB.out.mono ?_; rintro e w2 ⟨rfl, ⟨g, hr, ht⟩, hf⟩; have HR2 := Lib.hid hr; have HT := Lib.hid ht; have HF := Lib.hid hf; clear hr ht hf)
  have hrs0 := (HR2.out.cong (w' := w2.drew) rfl).set0 (d' := 1)
  have c0 := HR2.out.cell 0
  have z0 := HR2.out.fz 0
  have c1 := hrs0.cell 1
  have z1 := hrs0.fz 1
  refine leaves_cons (f := 193) (args := #[.pointer (some ⟨rb, 0, none⟩), .bool true]) (by simp) (by simp [go_sem]) ?_
  refine (store_deferred ⟨rb, 0, none⟩ (.int .u32 0) .returning _ c0 z0).mono ?_
  rintro e u' w'' ⟨rfl, rfl, rfl⟩
  refine leaves_cons (f := 192) (args := #[.pointer (some ⟨rb, 1, none⟩)]) (by simp [settle]) (by simp [go_sem]) ?_
  refine (unlock_deferred ⟨rb, 1, none⟩ _ _ c1 z1).mono ?_
  rintro e u' w'' ⟨rfl, rfl, rfl⟩
  have hfin := hrs0.set1 (s' := 0)
  have hT := HT.out
  rw [World.size_setCell] at hT
  have hTT : TabAt (((w2.drew.setCell ⟨rb, 0, none⟩ (.int .u32 1))).setCell ⟨rb, 1, none⟩ (.int .i32 0)) w.heap.size g (DE 0) (DE 0) := hT.cong (fun k h1 h2 => by
    have hk : k ≠ rb := by omega
    exact (heap_setCell_other _ _ _ _ hk).trans (heap_setCell_other _ _ _ _ hk))
  have hFF : Fr [rb] w (((w2.drew.setCell ⟨rb, 0, none⟩ (.int .u32 1))).setCell ⟨rb, 1, none⟩ (.int .i32 0)) := ((((Fr.setCell w (a := ⟨rb, 1, none⟩) (F := [rb]) (by simp) _).trans HF.out).trans (Fr.drew _ _)).trans (Fr.setCell _ (by simp) _)).trans (Fr.setCell _ (by simp) _)
  simp [Leaves, settle, results, Tryz.results182]
  exact ⟨⟨g, hfin, hTT⟩, hFF⟩
set_option maxRecDepth 100000 in
theorem do_any (w : World) (rb ob cap : Nat) (r : Value) (hR : RepAt w rb 0 0 r (.slice (some ⟨ob, 0, none⟩) 8 cap)) (hO : OldAt w ob) (hne : ob ≠ rb) (hcap : 8 ≤ cap) (hc2 : cap ≤ maxLen) :
    Calls Tryz.prog 164 #[.pointer (some ⟨rb, 0, none⟩), .func (.func 165) #[.pointer (some ⟨rb, 0, none⟩)] #[]] w fun e w' => e = .returned (.tuple #[]) ∧ (∃ g, RepAt w' rb 1 0 (repV g) (.slice none 0 0) ∧ TabAt w' w.heap.size g (DE 0) (DE 0)) ∧ Fr [rb] w w' := by
  have HA := Lib.hid (aload ⟨rb, 0, none⟩ 0 w (hR.cell 0))
  have HS := Lib.hid (doSlow_any w rb ob cap r hR hO hne hcap hc2)
  have hnot : ∀ (x : Bool) (w : World), (Op.unary .not (.bool x)).run Tryz.prog w = .ok (.bool (!x)) w := fun _ _ => rfl
  clear hR hO hc2
  go_enter Tryz.func164, Tryz.ntmps164
  go_wp2_with first
    | (go_at_call 181; refine HA.out.mono ?_; rintro e w' ⟨rfl, rfl⟩)
    | (go_at_call 182; refine HS.out.mono ?_; rintro e w2 ⟨rfl, hr, hf⟩; have HR2 := Lib.hid hr; have HF := Lib.hid hf; clear hr hf)
  go_end0
  exact ⟨rfl, HR2.out, HF.out⟩
def oldL : List Value := [sv [43], sv [63, 43], sv [58], sv [63, 58], sv [39], sv [63, 39], sv [63], sv [63, 63]]
set_option maxRecDepth 100000 in
theorem newRepl_any (w : World) (ab : Nat) (ha : w.heap[ab]? = some (.cells oldL.toArray 9 (0, 0))) :
    Calls Tryz.prog 138 #[.slice (some ⟨ab, 0, none⟩) 8 8] w fun e w' => ∃ rb ob cap, e = .returned (.pointer (some ⟨rb, 0, none⟩)) ∧ RepAt w' rb 0 0 .nilIface (.slice (some ⟨ob, 0, none⟩) 8 cap) ∧ OldAt w' ob ∧ ob ≠ rb ∧ 8 ≤ cap ∧ cap ≤ maxLen ∧ w.heap.size ≤ rb ∧ Below w.heap.size w w' := by
  obtain ⟨i0, hi, hz0, hz1, hz2⟩ := info_parts einfo_str
  have HI := Lib.hid hi
  have HZ0 := Lib.hid hz0
  have HZ1 := Lib.hid hz1
  have HZ2 := Lib.hid hz2
  have HA := Lib.hid (show ∀ j v, oldL[j]? = some v → w.cell? ((⟨ab, 0, none⟩ : Addr).add j) = some v from fun j v hv => by
    rw [Addr.add_mid, Nat.zero_add, cell_of_row w ab j _ _ _ ha, List.getElem?_toArray]; exact hv)
  have HO := Lib.hid (show ∀ v ∈ oldL, v.oneCell' = true from fun v hv => by simp only [oldL, List.mem_cons, List.not_mem_nil, or_false] at hv; rcases hv with rfl | rfl | rfl | rfl | rfl | rfl | rfl | rfl <;> rfl)
  clear hi hz0 hz1 hz2 ha
  go_enter Tryz.func138, Tryz.ntmps138
  go_wp2_with ((with_reducible refine wpList_at (.call { callee := .builtin .append, args := #[.const (.slice none 0 0), .tmp 8], argTypes := #[58, 58] }) rfl ?_); go_loud (refine wpList_append_own_at _ rfl _ _ 58 rfl w.heap.size 9 i0 (.string ⟨#[]⟩) 1 16 Tryz.underlying58 HI.out HZ0.out HZ1.out HZ2.out rfl (by decide) _ _ _ rfl (World.ownsRow_nil _ _ _ _) ⟨ab, 0, none⟩ 8 8 oldL rfl rfl HA.out HO.out (by unfold maxLen; omega) (by omega) (Nat.le_refl _) ?_); intro v w1 ho hg _ hk; have HOW := Lib.hid ho; have HG := Lib.hid hg; obtain ⟨ob, cap, cur, rfl, hob, hcells, hcp1, hcp2, _⟩ := own_form ho (by omega) (by omega); have HCE := Lib.hid hcells; have HC2 := Lib.hid hcp2; clear ho hg hk hcells hcp2)
  go_ret
  have hlt : ob < w1.heap.size := (Array.getElem?_eq_some_iff.1 HCE.out).1
  have hbel : Below w.heap.size w w1 := (Below.refl _ w).grown HG.out (Nat.le_refl _) (fun k hk => by simp [Act.eval, Value.ownBlock] at hk)
  refine ⟨w1.heap.size, ob, cap, rfl, heap_alloc_new _ _, fun j hj => ?_, by omega, by omega, HC2.out, hbel.size, hbel.alloc hbel.size _⟩
  have hc : ∀ i x, oldL[i]? = some x → (w1.alloc (.cells #[.int .u32 0, .int .i32 0, .int .u32 0, .nilIface, .slice (some ⟨ob, 0, none⟩) 8 cap] 256)).cell? ⟨ob, i, none⟩ = some x := fun i x hx => (cell_ag (Below.heap_alloc _ _ _ hlt)).trans (own_cell HOW.out hx)
  match j, hj with
  | 0, _ => exact ⟨hc 0 _ rfl, hc 1 _ rfl⟩
  | 1, _ => exact ⟨hc 2 _ rfl, hc 3 _ rfl⟩
  | 2, _ => exact ⟨hc 4 _ rfl, hc 5 _ rfl⟩
  | 3, _ => exact ⟨hc 6 _ rfl, hc 7 _ rfl⟩
end Go.Proofs.YtgfijlamhjjecaaGreatDoor


namespace Go.Proofs.YtgfijlamhjjecaaGreatDoor
open Go.RowKit
def sgN (l : Str) : Nat := l.countP signB
theorem compT_len (l : Str) : (compT l).length = l.length + sgN l := by
  induction l with
  | nil => rfl
  | cons c l ih =>
    have e : compT (c :: l) = escB c ++ compT l := by simp [compT]
    unfold sgN at *
    rw [e, List.length_append, ih, List.countP_cons, List.length_cons]
    unfold escB
    by_cases h : signB c = true
    · rw [if_pos h, if_pos h]; simp; omega
    · rw [if_neg h, if_neg h]; simp; omega
theorem compT_same {l : Str} (h : sgN l = 0) : compT l = l := by
  induction l with
  | nil => rfl
  | cons c l ih =>
    have e : compT (c :: l) = escB c ++ compT l := by simp [compT]
    unfold sgN at *
    rw [List.countP_cons] at h
    have hc : signB c = false := by
      cases hs : signB c with
      | true => rw [hs] at h; simp at h
      | false => rfl
    rw [e, ih (by omega)]
    unfold escB; rw [hc]; rfl
theorem compT_take {l : Str} {k : Nat} {c : UInt8} (h : l[k]? = some c) : compT (l.take (k + 1)) = compT (l.take k) ++ escB c := by
  rw [List.take_add_one, h]; simp [compT]
theorem sgN_take {l : Str} {k : Nat} {c : UInt8} (h : l[k]? = some c) : sgN (l.take (k + 1)) = sgN (l.take k) + if signB c then 1 else 0 := by
  unfold sgN
  rw [List.take_add_one, h]; simp [List.countP_append]
theorem sgN_le (l : Str) : sgN l ≤ l.length := List.countP_le_length
theorem sgN_take_le (l : Str) (k : Nat) : sgN (l.take k) ≤ l.length := Nat.le_trans (sgN_le _) (by rw [List.length_take]; omega)
theorem sgN_take_mono (l : Str) (k : Nat) : sgN (l.take k) ≤ sgN l := by
  have h : sgN (l.take k ++ l.drop k) = sgN l := by rw [List.take_append_drop]
  unfold sgN at *
  rw [List.countP_append] at h; omega
def cntD (l : Str) (k : Nat) : Nat := (((DE 0).take k).map fun c => l.count c).sum
theorem cntD_four (l : Str) : cntD l 4 = sgN l := by
  unfold cntD sgN DE
  show [l.count 63, l.count 39, l.count 58, l.count 43].sum = _
  induction l with
  | nil => rfl
  | cons c l ih =>
    rw [List.countP_cons, ← ih]
    simp only [List.count_cons, List.sum_cons, List.sum_nil]
    by_cases h : signB c = true
    · have h' := h
      unfold signB at h'
      simp only [Bool.or_eq_true, beq_iff_eq] at h'
      rcases h' with ((rfl | rfl) | rfl) | rfl <;> simp [signB] <;> omega
    · rw [if_neg h]
      rw [Bool.not_eq_true] at h
      unfold signB at h
      simp only [Bool.or_eq_false_iff] at h
      obtain ⟨⟨⟨h1, h2⟩, h3⟩, h4⟩ := h
      rw [h1, h2, h3, h4]
      simp
theorem cntD_succ (l : Str) (k : Nat) (h : k < 4) : cntD l (k + 1) = cntD l k + l.count ((DE 0).getD k 0) := by
  match k, h with
  | 0, _ => simp [cntD, DE]
  | 1, _ => simp [cntD, DE]
  | 2, _ => simp [cntD, DE]; omega
  | 3, _ => simp [cntD, DE]; omega
theorem cntD_mono (l : Str) (k : Nat) (h : k ≤ 4) : cntD l k ≤ sgN l := by
  rw [← cntD_four]
  match k, h with
  | 0, _ => simp [cntD]
  | 1, _ => simp [cntD, DE]
  | 2, _ => simp [cntD, DE]
  | 3, _ => simp [cntD, DE]
  | 4, _ => exact Nat.le_refl _
theorem mem_DE (c : UInt8) : c ∈ DE 0 ↔ signB c = true := by
  unfold DE signB
  simp only [List.take, Nat.sub_zero, List.mem_cons, List.not_mem_nil, or_false, Bool.or_eq_true, beq_iff_eq]
  constructor
  · rintro (h | h | h | h) <;> simp [h]
  · rintro (((h | h) | h) | h) <;> simp [h]
def FullAt (w : World) (g : Nat) : Prop := ∃ B C tv, TabX w B g (DE 0) (DE 0) C tv
theorem FullAt.cong {w w' : World} {g : Nat} (h : FullAt w g) (e : ∀ k, k < w.heap.size → w'.heap[k]? = w.heap[k]?) : FullAt w' g := by
  obtain ⟨B, C, tv, h⟩ := h; exact ⟨B, C, tv, h.cong fun k _ hk => e k hk⟩
theorem FullAt.lt {w : World} {g : Nat} (h : FullAt w g) : g < w.heap.size := by
  obtain ⟨B, C, tv, h⟩ := h; exact h.lt
theorem FullAt.no {w : World} {g : Nat} (h : FullAt w g) {c : UInt8} (hc : signB c = false) : w.cell? ⟨g, c.toNat, none⟩ = some (.slice none 0 0) := by
  obtain ⟨B, C, tv, h⟩ := h
  exact (h.cell _).trans (h.no c (fun hm => by rw [mem_DE, hc] at hm; cases hm))
theorem FullAt.yes {w : World} {g : Nat} (h : FullAt w g) {c : UInt8} (hc : signB c = true) : ∃ b cap, w.cell? ⟨g, c.toNat, none⟩ = some (.slice (some ⟨b, 0, none⟩) 2 cap) ∧ 2 ≤ cap ∧ cap ≤ maxLen ∧ w.cell? ⟨b, 0, none⟩ = some (bv 63) ∧ w.cell? ⟨b, 1, none⟩ = some (bv c) := by
  obtain ⟨B, C, tv, h⟩ := h
  obtain ⟨b, cap, a1, a2, a3, a4, a5, a6, a7, a8⟩ := h.yes c ((mem_DE c).2 hc)
  exact ⟨b, cap, (h.cell _).trans a1, a2, a3, a7, a8⟩
theorem FullAt.names {w : World} {g : Nat} (h : FullAt w g) : ∃ nb cap, w.cell? ⟨g, 256, none⟩ = some (.slice (some ⟨nb, 0, none⟩) 4 cap) ∧ 4 ≤ cap ∧ cap ≤ maxLen ∧ ∀ k, k < 4 → w.cell? ⟨nb, k, none⟩ = some (.string ⟨#[(DE 0).getD k 0]⟩) := by
  obtain ⟨B, C, tv, h⟩ := h
  have ho : w.ownsRow B 9 1 tv 4 [sv [63], sv [39], sv [58], sv [43]] := h.own
  obtain ⟨nb, cap, cur, rfl, _, hh, h1, h2, h3, _⟩ := own_form ho (by omega) (by omega)
  refine ⟨nb, cap, (h.cell 256).trans h.at_, h1, h2, fun k hk => ?_⟩
  match k, hk with
  | 0, _ => exact own_cell ho rfl
  | 1, _ => exact own_cell ho rfl
  | 2, _ => exact own_cell ho rfl
  | 3, _ => exact own_cell ho rfl
end Go.Proofs.YtgfijlamhjjecaaGreatDoor


namespace Go.Proofs.YtgfijlamhjjecaaGreatDoor
open Go.RowKit
section
variable {S : Nat → Prop} {w : World} {B rb : Nat} {l : List Seg} {t : Str} {es : List (List Str)} {cs : List Str} {p q : Str} {lv pv ev cv : Value} {xs ys : List Value}
set_option maxRecDepth 100000 in
set_option maxHeartbeats 4000000 in
theorem put_ok (h : RB S w B rb l t es cs p p lv pv ev cv xs ys) (c : UInt8) (hB : B ≤ w.heap.size) (h256 : p.length < 256) : Calls Tryz.prog 218 #[.pointer (some ⟨rb, 0, none⟩), .int .u8 (c.toNat : Int)] w fun e w' => e = .returned (.tuple #[fnV rb 205, .int .i64 0]) ∧ (∃ pv', RB S w' B rb l t es cs (p ++ [c]) (p ++ [c]) lv pv' ev cv xs ys) ∧ Below B w w' := by
  have d1 := h.c1
  have f1 := h.fz 1
  have H := Lib.hid h
  have hrB := h.hB
  obtain ⟨pa, pc, hpe⟩ : ∃ pa pc, pv = .slice pa p.length pc := by
    obtain ⟨_, ⟨h1, h2⟩ | ⟨g, cap, _, h1, _⟩⟩ := h.hp
    · exact ⟨none, 0, by rw [h1, h2]⟩
    · exact ⟨_, cap, h1⟩
  subst hpe
  have hx := len_int p.length (by omega)
  have hrw := h.lt
  have nprn : (Value.slice pa p.length pc).ownBlock ≠ some rb := own_neR h.r h.hp (by decide)
  obtain ⟨cn, hcn⟩ : ∃ n : Int, (c.toNat : Int) = n := ⟨_, rfl⟩
  have HCN := Lib.hid hcn
  rw [hcn]
  clear h hcn
  obtain ⟨i0, hi, hz0, hz1, hz2⟩ := info_parts einfo_u8
  have HI := Lib.hid hi
  have HZ0 := Lib.hid hz0
  have HZ1 := Lib.hid hz1
  have HZ2 := Lib.hid hz2
  clear hi hz0 hz1 hz2
  go_enter Tryz.func218, Tryz.ntmps218
  go_upto_region 4 with ((with_reducible refine wpList_at (.call { callee := .builtin .append, args := #[.tmp 17, .tmp 19], argTypes := #[72, 72] }) rfl ?_); go_loud (refine wpList_append_own_at _ rfl _ _ 72 rfl B 5 i0 (.int .u8 0) 1 1 Tryz.underlying72 HI.out HZ0.out HZ1.out HZ2.out rfl (by decide) _ _ _ rfl (World.ownsRow.alloc (show w.ownsRow B 5 1 (.slice pa p.length pc) p.length (p.map bv) from H.out.hp) _) ⟨w.heap.size, 0, none⟩ 1 1 [.int .u8 cn] rfl rfl (cell_one_new _ _ _) (by simp [Value.oneCell']) (by unfold maxLen; omega) (by omega) (by simp; omega) ?_); intro pv' w1 he' hg' _ hk'; have HG1 : Hid ((w.alloc (.cells #[.int .u8 cn] 5)).grownBy w1 (Value.slice pa p.length pc).ownBlock) := hg'; have HK1 : Hid (pv'.ownBlock = (Value.slice pa p.length pc).ownBlock ∨ pv'.ownBlock = some (w.heap.size + 1)) := Lib.hid (by rcases hk' with h | h; exact .inl h; (right; rw [h]; simp)); have hea := blk_ag HG1.out hrw nprn; have d1' : w1.cell? ⟨rb, 1, none⟩ = some (.slice pa p.length pc) := (cell_ag hea).trans d1; have f1' : w1.frozen? ⟨rb, 1, none⟩ = false := (fz_ag hea).trans f1; have hs1 := hg'.size; simp at hs1; have HE1 : Hid (OwnS w1 B pv' (p ++ [c])) := Lib.hid (by unfold OwnS; rw [List.length_append, List.length_singleton, List.map_append, List.map_singleton, bv, HCN.out]; exact he'); obtain ⟨pg2, pc2, _, rfl, _⟩ := own_form (show w1.ownsRow B 5 1 pv' (p.length + 1) (p.map bv ++ [.int .u8 cn]) from he') (by omega) (by omega); clear he' hg' hk' hea)
  obtain ⟨wq, hwq⟩ : ∃ wq, w1.setCell ⟨rb, 1, none⟩ (.slice (some ⟨pg2, 0, none⟩) (p.length + 1) pc2) = wq := ⟨_, rfl⟩
  have HQ : Hid (RB S wq B rb l t es cs p (p ++ [c]) lv (.slice (some ⟨pg2, 0, none⟩) (p.length + 1) pc2) ev cv xs ys) := Lib.hid (by rw [← hwq]; exact H.out.grow HG1.out HE1.out HK1.out)
  have HBQ := Lib.hid (show Below B w wq by rw [← hwq]; exact (((Below.refl B w).alloc (by omega) _).grown HG1.out (by simp; omega) (fun k hk => (own_lt H.out.hp hk).1)).setCell hrB _)
  rw [hwq]
  have sq := HBQ.out.size
  clear hwq d1 f1 H HG1 HK1 HE1 d1' f1' hs1 nprn hrw hx
  obtain ⟨g, c1, b, c2, d, c3, rfl, rfl, rfl, a1, a2, b1, b2, c1', c2', _, k2, z2, k3, z3, k4, z4⟩ := HQ.out.tops
  have d0 := HQ.out.c0
  have d1 := HQ.out.c1
  have b2' := b2
  unfold maxLen at b2' c2'
  have hw : IntKind.i64.wrap ((es.length : Int) + 1 - 1) = (es.length : Int) := by rw [show (es.length : Int) + 1 - 1 = (es.length : Int) by omega]; exact IntWalk.i64_in _ (by omega)
  have hw2 : IntKind.i64.wrap (es.length : Int) = (es.length : Int) := IntWalk.i64_in _ (by omega)
  have h0 : (0 : Int) ≤ (es.length : Int) := by omega
  have h1 : (es.length : Int) < (es.length : Int) + 1 := by omega
  clear z2 z3
  refine wp_region_plan [(0, false), (5, false), (1, true), (2, false), (3, false), (4, false), (6, true), (7, false), (8, false), (9, false), (10, false), (11, false), (12, false), (13, false), (14, false)]
    (fun w' => w'.cell? ⟨g, l.length * 2 + 1, none⟩ = some (.slice (some ⟨b, 0, none⟩) (es.length + 1) c2) ∧ w'.cell? ⟨b, es.length, none⟩ = some (.slice (some ⟨d, 0, none⟩) (cs.length + 1) c3)) (by kernel_rfl) (by kernel_rfl) ⟨k2, k3⟩ ?_
  have k2' : wq.drew.cell? ⟨g, l.length * 2 + 1, none⟩ = some (.slice (some ⟨b, 0, none⟩) (es.length + 1) c2) := k2
  have k3' : wq.drew.cell? ⟨b, es.length, none⟩ = some (.slice (some ⟨d, 0, none⟩) (cs.length + 1) c3) := k3
  iterate 2 (refine' plan_val rfl rfl (fun w' hS => ?_) ?_; rotate_left; (focus (go_simp; rfl)); simp only [Act.put, List.setIfInBounds_toArray, List.set_cons_zero, List.set_cons_succ])
  refine plan_do rfl (fun K hK => ?_)
  go_wp2_with fail
  refine (top_any rb g l.length c1 wq.drew d0 a1 a2).mono ?_
  rintro e w' ⟨rfl, rfl⟩
  go_wp2_with fail
  refine hK _ _ ⟨k2, k3⟩ ?_
  clear hK K
  iterate 3 (refine' plan_val rfl rfl (fun w' hS => ?_) ?_; rotate_left; (focus (obtain ⟨hS1, hS2⟩ := hS; go_simp; rfl)); simp only [Act.put, List.setIfInBounds_toArray, List.set_cons_zero, List.set_cons_succ])
  refine plan_do rfl (fun K hK => ?_)
  go_wp2_with fail
  refine (top_any rb g l.length c1 wq.drew.drew d0 a1 a2).mono ?_
  rintro e w' ⟨rfl, rfl⟩
  go_wp2_with fail
  refine hK _ _ ⟨k2, k3⟩ ?_
  clear hK K
  iterate 8 (refine' plan_val rfl rfl (fun w' hS => ?_) ?_; rotate_left; (focus (obtain ⟨hS1, hS2⟩ := hS; go_simp; rfl)); simp only [Act.put, List.setIfInBounds_toArray, List.set_cons_zero, List.set_cons_succ])
  refine plan_nil ?_
  obtain ⟨wd, hwd⟩ : ∃ wd, wq.drew.drew.drew = wd := ⟨_, rfl⟩
  have HQ2 := Lib.hid (show RB S wd B rb l t es cs p (p ++ [c]) (.slice (some ⟨g, 0, none⟩) (l.length + 1) c1) (.slice (some ⟨pg2, 0, none⟩) (p.length + 1) pc2) (.slice (some ⟨b, 0, none⟩) (es.length + 1) c2) (.slice (some ⟨d, 0, none⟩) (cs.length + 1) c3) xs ys by rw [← hwd]; exact ((HQ.out.fr0 (Fr.drew _ _)).fr0 (Fr.drew _ _)).fr0 (Fr.drew _ _))
  have HBQ2 := Lib.hid (show Below B w wd by rw [← hwd]; exact HBQ.out.drew.drew.drew)
  have d1 : wd.cell? ⟨rb, 1, none⟩ = some (.slice (some ⟨pg2, 0, none⟩) (p.length + 1) pc2) := by rw [← hwd]; exact d1
  have k4 : wd.cell? ⟨d, cs.length, none⟩ = some (.string ⟨p.toArray⟩) := by rw [← hwd]; exact k4
  have z4 : wd.frozen? ⟨d, cs.length, none⟩ = false := by rw [← hwd]; exact z4
  rw [hwd]
  clear hwd HQ HBQ k2 k3 k2' k3' d0 hw hw2 h0 h1
  have hw : IntKind.i64.wrap ((cs.length : Int) + 1 - 1) = (cs.length : Int) := by rw [show (cs.length : Int) + 1 - 1 = (cs.length : Int) by omega]; exact IntWalk.i64_in _ (by omega)
  have hw2 : IntKind.i64.wrap (cs.length : Int) = (cs.length : Int) := IntWalk.i64_in _ (by omega)
  have h0 : (0 : Int) ≤ (cs.length : Int) := by omega
  have h1 : (cs.length : Int) < (cs.length : Int) + 1 := by omega
  have hcv : (convert 72 9 (.slice (some ⟨pg2, 0, none⟩) (p.length + 1) pc2)).run Tryz.prog wd = .ok (.string ⟨(p ++ [c]).toArray⟩) wd := conv_own HQ2.out.hp
  have HDB := Lib.hid (own_lt HQ2.out.hc (k := d) rfl).1
  go_wp2_with fail
  go_ret2
  exact ⟨rfl, ⟨_, HQ2.out.setlast⟩, HBQ2.out.setCell HDB.out _⟩
end
end Go.Proofs.YtgfijlamhjjecaaGreatDoor


namespace Go.Proofs.YtgfijlamhjjecaaGreatDoor
open Go.RowKit
theorem ix_sign (c : UInt8) : ∃ i : Int, Lib.indexByte [43, 58, 39, 63] c = i ∧ decide (0 ≤ i) = signB c ∧ decide (i < 0) = !signB c := by
  refine ⟨_, rfl, ?_⟩
  unfold signB
  by_cases h1 : c = 43
  · subst h1; decide
  · by_cases h2 : c = 58
    · subst h2; decide
    · by_cases h3 : c = 39
      · subst h3; decide
      · by_cases h4 : c = 63
        · subst h4; decide
        · have e1 : (43 == c) = false := beq_eq_false_iff_ne.2 (Ne.symm h1)
          have e2 : (58 == c) = false := beq_eq_false_iff_ne.2 (Ne.symm h2)
          have e3 : (39 == c) = false := beq_eq_false_iff_ne.2 (Ne.symm h3)
          have e4 : (63 == c) = false := beq_eq_false_iff_ne.2 (Ne.symm h4)
          simp [Lib.indexByte, e1, e2, e3, e4, beq_eq_false_iff_ne.2 h1, beq_eq_false_iff_ne.2 h2, beq_eq_false_iff_ne.2 h3, beq_eq_false_iff_ne.2 h4]
theorem toU8 (c : UInt8) : ((c.toNat : Int)).toNat.toUInt8 = c := by simp
theorem ib_any (c : UInt8) (w : World) : ∃ i : Int, decide (0 ≤ i) = signB c ∧ decide (i < 0) = (!signB c) ∧ Calls Tryz.prog 217 #[.string ⟨#[43, 58, 39, 63]⟩, .int .u8 (c.toNat : Int)] w fun e w' => e = .returned (.int .i64 i) ∧ w = w' := by
  obtain ⟨i, h1, h2, h3⟩ := ix_sign c
  refine ⟨i, h2, h3, (Tryz.strings_IndexByte _ _ w).mono ?_⟩
  rintro e w' ⟨rfl, rfl⟩
  refine ⟨?_, rfl⟩
  rw [toU8]
  rw [← h1]
theorem nat_eq (c : UInt8) (k : UInt8) (h : c ≠ k) : ((c.toNat : Int) == (k.toNat : Int)) = false := by
  rw [beq_eq_false_iff_ne]; intro e; exact h (UInt8.toNat_inj.1 (Int.ofNat.inj e))
section
variable {w : World} {rb : Nat} {a b : Value} {R : World → Prop}
set_option maxHeartbeats 1000000 in
theorem comp_63 (rb : Nat) (w : World) : Calls Tryz.prog 205 #[.pointer (some ⟨rb, 0, none⟩), .int .u8 63] w fun e w' => e = .returned (.tuple #[fnV rb 216, .int .i64 0]) ∧ w = w' := by
  go_enter Tryz.func205, Tryz.ntmps205
  go_wp2_with fail
  go_ret2
  exact ⟨rfl, rfl⟩
set_option maxHeartbeats 1000000 in
theorem comp_sign (c : UInt8) (hs : signB c = true) (h63 : c ≠ 63) (h : Calls Tryz.prog 197 #[.pointer (some ⟨rb, 0, none⟩), .int .u8 (c.toNat : Int)] w fun e w' => e = .returned (.tuple #[a, b]) ∧ R w') : Calls Tryz.prog 205 #[.pointer (some ⟨rb, 0, none⟩), .int .u8 (c.toNat : Int)] w fun e w' => e = .returned (.tuple #[a, b]) ∧ R w' := by
  obtain ⟨i, i1, i2, hi⟩ := ib_any c w
  have H := Lib.hid h
  have HI := Lib.hid hi
  rw [hs] at i1
  have d1 : ((c.toNat : Int) == 63) = false := nat_eq c 63 h63
  clear h hi
  obtain ⟨n, hn⟩ : ∃ n : Int, (c.toNat : Int) = n := ⟨_, rfl⟩
  rw [hn] at H HI d1 ⊢
  clear hn
  go_enter Tryz.func205, Tryz.ntmps205
  go_wp2_with first | (go_at_call 217; refine HI.out.mono ?_; rintro e w' ⟨rfl, rfl⟩) | (go_at_call 197; refine H.out.mono ?_; rintro e w' ⟨rfl, hR⟩; have HR := Lib.hid hR; clear hR)
  go_ret2
  exact ⟨rfl, HR.out⟩
set_option maxHeartbeats 1000000 in
theorem comp_bad (rb : Nat) (w : World) (c : UInt8) (hs : signB c = false) (hb : c.toNat < 32 ∨ 126 < c.toNat) : Calls Tryz.prog 205 #[.pointer (some ⟨rb, 0, none⟩), .int .u8 (c.toNat : Int)] w fun e w' => e = .returned (.tuple #[.nilFunc, .int .i64 30]) ∧ w = w' := by
  obtain ⟨i, i1, i2, hi⟩ := ib_any c w
  have h63 : c ≠ 63 := by rintro rfl; exact absurd hs (by decide)
  have HI := Lib.hid hi
  rw [hs] at i1
  have d1 : ((c.toNat : Int) == 63) = false := nat_eq c 63 h63
  clear hi
  obtain ⟨n, hn⟩ : ∃ n : Nat, c.toNat = n := ⟨_, rfl⟩
  rw [hn] at HI d1 hb ⊢
  clear hn
  by_cases h32 : n < 32
  · have d2 : decide ((n : Int) < 32) = true := by rw [decide_eq_true_eq]; omega
    go_enter Tryz.func205, Tryz.ntmps205
    go_wp2_with (go_at_call 217; refine HI.out.mono ?_; rintro e w' ⟨rfl, rfl⟩)
    go_ret2
    exact ⟨rfl, rfl⟩
  · have d2 : decide ((n : Int) < 32) = false := by rw [decide_eq_false_iff_not]; omega
    have d3 : decide ((126 : Int) < (n : Int)) = true := by rw [decide_eq_true_eq]; omega
    go_enter Tryz.func205, Tryz.ntmps205
    go_wp2_with (go_at_call 217; refine HI.out.mono ?_; rintro e w' ⟨rfl, rfl⟩)
    go_ret2
    exact ⟨rfl, rfl⟩
set_option maxHeartbeats 1000000 in
theorem comp_put (c : UInt8) (hs : signB c = false) (hb : ¬ (c.toNat < 32 ∨ 126 < c.toNat)) (h : Calls Tryz.prog 218 #[.pointer (some ⟨rb, 0, none⟩), .int .u8 (c.toNat : Int)] w fun e w' => e = .returned (.tuple #[a, b]) ∧ R w') : Calls Tryz.prog 205 #[.pointer (some ⟨rb, 0, none⟩), .int .u8 (c.toNat : Int)] w fun e w' => e = .returned (.tuple #[a, b]) ∧ R w' := by
  obtain ⟨i, i1, i2, hi⟩ := ib_any c w
  have h63 : c ≠ 63 := by rintro rfl; exact absurd hs (by decide)
  have H := Lib.hid h
  have HI := Lib.hid hi
  rw [hs] at i1
  have d1 : ((c.toNat : Int) == 63) = false := nat_eq c 63 h63
  have d2 : decide ((c.toNat : Int) < 32) = false := by rw [decide_eq_false_iff_not]; omega
  have d3 : decide ((126 : Int) < (c.toNat : Int)) = false := by rw [decide_eq_false_iff_not]; omega
  clear h hi hb
  obtain ⟨n, hn⟩ : ∃ n : Int, (c.toNat : Int) = n := ⟨_, rfl⟩
  rw [hn] at H HI d1 d2 d3 ⊢
  clear hn
  go_enter Tryz.func205, Tryz.ntmps205
  go_wp2_with first | (go_at_call 217; refine HI.out.mono ?_; rintro e w' ⟨rfl, rfl⟩) | (go_at_call 218; refine H.out.mono ?_; rintro e w' ⟨rfl, hR⟩; have HR := Lib.hid hR; clear hR)
  go_ret2
  exact ⟨rfl, HR.out⟩
set_option maxHeartbeats 1000000 in
theorem rel_bad (rb : Nat) (w : World) (c : UInt8) (hs : signB c = false) : Calls Tryz.prog 216 #[.pointer (some ⟨rb, 0, none⟩), .int .u8 (c.toNat : Int)] w fun e w' => e = .returned (.tuple #[.nilFunc, .int .i64 30]) ∧ w = w' := by
  obtain ⟨i, i1, i2, hi⟩ := ib_any c w
  have HI := Lib.hid hi
  rw [hs] at i2
  simp only [Bool.not_false] at i2
  clear hi
  obtain ⟨n, hn⟩ : ∃ n : Int, (c.toNat : Int) = n := ⟨_, rfl⟩
  rw [hn] at HI ⊢
  clear hn
  go_enter Tryz.func216, Tryz.ntmps216
  go_wp2_with (go_at_call 217; refine HI.out.mono ?_; rintro e w' ⟨rfl, rfl⟩)
  go_ret2
  exact ⟨rfl, rfl⟩
set_option maxHeartbeats 1000000 in
theorem rel_put (c : UInt8) (hs : signB c = true) (h : Calls Tryz.prog 218 #[.pointer (some ⟨rb, 0, none⟩), .int .u8 (c.toNat : Int)] w fun e w' => e = .returned (.tuple #[a, b]) ∧ R w') : Calls Tryz.prog 216 #[.pointer (some ⟨rb, 0, none⟩), .int .u8 (c.toNat : Int)] w fun e w' => e = .returned (.tuple #[a, b]) ∧ R w' := by
  obtain ⟨i, i1, i2, hi⟩ := ib_any c w
  have H := Lib.hid h
  have HI := Lib.hid hi
  rw [hs] at i2
  simp only [Bool.not_true] at i2
  clear h hi
  obtain ⟨n, hn⟩ : ∃ n : Int, (c.toNat : Int) = n := ⟨_, rfl⟩
  rw [hn] at H HI ⊢
  clear hn
  go_enter Tryz.func216, Tryz.ntmps216
  go_wp2_with first | (go_at_call 217; refine HI.out.mono ?_; rintro e w' ⟨rfl, rfl⟩) | (go_at_call 218; refine H.out.mono ?_; rintro e w' ⟨rfl, hR⟩; have HR := Lib.hid hR; clear hR)
  go_ret2
  exact ⟨rfl, HR.out⟩
set_option maxHeartbeats 1000000 in
theorem bhd_bad (rb : Nat) (w : World) (c : UInt8) (h1 : c ≠ 43) (h2 : c ≠ 39) : Calls Tryz.prog 187 #[.pointer (some ⟨rb, 0, none⟩), .int .u8 (c.toNat : Int)] w fun e w' => e = .returned (.tuple #[.nilFunc, .int .i64 30]) ∧ w = w' := by
  have d1 : ((c.toNat : Int) == 43) = false := nat_eq c 43 h1
  have d2 : ((c.toNat : Int) == 39) = false := nat_eq c 39 h2
  obtain ⟨n, hn⟩ : ∃ n : Int, (c.toNat : Int) = n := ⟨_, rfl⟩
  rw [hn] at d1 d2 ⊢
  clear hn
  have d1 : (n != 43) = true := by simp [bne, d1]
  have d2 : (n != 39) = true := by simp [bne, d2]
  go_enter Tryz.func187, Tryz.ntmps187
  go_wp2_with fail
  go_ret2
  exact ⟨rfl, rfl⟩
set_option maxHeartbeats 1000000 in
theorem bhd_39 (h : Calls Tryz.prog 197 #[.pointer (some ⟨rb, 0, none⟩), .int .u8 39] w fun e w' => e = .returned (.tuple #[a, b]) ∧ R w') : Calls Tryz.prog 187 #[.pointer (some ⟨rb, 0, none⟩), .int .u8 39] w fun e w' => e = .returned (.tuple #[a, b]) ∧ R w' := by
  have H := Lib.hid h
  clear h
  go_enter Tryz.func187, Tryz.ntmps187
  go_wp2_with (go_at_call 197; refine H.out.mono ?_; rintro e w' ⟨rfl, hR⟩; have HR := Lib.hid hR; clear hR)
  go_ret2
  exact ⟨rfl, HR.out⟩
set_option maxHeartbeats 1000000 in
theorem bhd_43 (h : Calls Tryz.prog 197 #[.pointer (some ⟨rb, 0, none⟩), .int .u8 43] w fun e w' => e = .returned (.tuple #[a, b]) ∧ R w') : Calls Tryz.prog 187 #[.pointer (some ⟨rb, 0, none⟩), .int .u8 43] w fun e w' => e = .returned (.tuple #[a, b]) ∧ R w' := by
  have H := Lib.hid h
  clear h
  go_enter Tryz.func187, Tryz.ntmps187
  go_wp2_with (go_at_call 197; refine H.out.mono ?_; rintro e w' ⟨rfl, hR⟩; have HR := Lib.hid hR; clear hR)
  go_ret2
  exact ⟨rfl, HR.out⟩
end
end Go.Proofs.YtgfijlamhjjecaaGreatDoor


namespace Go.Proofs.YtgfijlamhjjecaaGreatDoor
open Go.RowKit
theorem enc_one (c : UInt8) (h : c.toNat < 128) : Utf8.encode (c.toNat : Int) = ⟨#[c]⟩ := by
  unfold Utf8.encode
  have hv : Utf8.valid (c.toNat : Int) = true := by unfold Utf8.valid; simp; omega
  simp [hv, h]
theorem conv_one (c : UInt8) (h : c.toNat < 128) (w : World) : (convert 5 9 (.int .u8 (c.toNat : Int))).run Tryz.prog w = .ok (.string ⟨#[c]⟩) w := by
  rw [run_convert_int_string w 5 9 .u8 _ (by rw [Tryz.underlying5]; rfl) Tryz.underlying9, enc_one c h]
section
variable {S : Nat → Prop} {w : World} {B rb : Nat} {l : List Seg} {t : Str} {es : List (List Str)} {cs : List Str} {p q : Str} {lv pv ev cv : Value} {xs ys : List Value}
set_option maxHeartbeats 1000000 in
theorem tag_bad (rb : Nat) (w : World) (c : UInt8) (hc : tagB c = false) : Calls Tryz.prog 168 #[.pointer (some ⟨rb, 0, none⟩), .int .u8 (c.toNat : Int)] w fun e w' => e = .returned (.tuple #[.nilFunc, .int .i64 30]) ∧ w = w' := by
  have H := Lib.hid (tagged_any c w)
  rw [hc] at H
  obtain ⟨n, hn⟩ : ∃ n : Int, (c.toNat : Int) = n := ⟨_, rfl⟩
  rw [hn] at H ⊢
  clear hn
  go_enter Tryz.func168, Tryz.ntmps168
  go_wp2_with (go_at_call 134; refine H.out.mono ?_; rintro e w' ⟨rfl, rfl⟩)
  go_ret2
  exact ⟨rfl, rfl⟩
theorem tag_lt {c : UInt8} (h : tagB c = true) : c.toNat < 128 := by
  unfold tagB at h
  simp at h
  omega
set_option maxRecDepth 100000 in
set_option maxHeartbeats 2000000 in
theorem tag_ok {xs0 : List Value} (h : RA S w B rb (l ++ [⟨t, []⟩]) lv pv (xs0 ++ [.slice none 0 0]) p) (_hB : B ≤ w.heap.size) (c : UInt8) (hc : tagB c = true) (ht : t.length < 3) : Calls Tryz.prog 168 #[.pointer (some ⟨rb, 0, none⟩), .int .u8 (c.toNat : Int)] w fun e w' => e = .returned (.tuple #[fnV rb (if t.length + 1 < 3 then 168 else 187), .int .i64 0]) ∧ RA S w' B rb (l ++ [⟨t ++ [c], []⟩]) lv pv (xs0 ++ [.slice none 0 0]) p ∧ Below B w w' := by
  obtain ⟨g, cap, x, xs1, rfl, hc1, hc2, hxx, hx0, k1, k2, z1, z2, _⟩ := h.top
  have d0 := h.c0
  have H := Lib.hid h
  have HT := Lib.hid (tagged_any c w)
  have hcv := fun w => conv_one c (tag_lt hc) w
  rw [hc] at HT
  obtain ⟨F, hF⟩ : ∃ F : Nat, (if t.length + 1 < 3 then 168 else 187) = F := ⟨_, rfl⟩
  rw [hF]
  have HF := Lib.hid hF
  clear hF
  obtain ⟨n, hn⟩ : ∃ n : Int, (c.toNat : Int) = n := ⟨_, rfl⟩
  rw [hn] at HT hcv ⊢
  clear h hn hxx k2 z2
  replace k1 : w.cell? ⟨g, l.length * 2, none⟩ = some (.string ⟨t.toArray⟩) := k1
  have hsz : (ByteArray.mk t.toArray).size + (ByteArray.mk #[c]).size ≤ maxLen := by
    show t.toArray.size + 1 ≤ maxLen
    simp [maxLen]; omega
  go_enter Tryz.func168, Tryz.ntmps168
  go_upto_region 4 with first | (go_at_call 134; refine HT.out.mono ?_; rintro e w' ⟨rfl, rfl⟩) | (go_at_call 186; refine (top_any rb g l.length cap _ d0 hc1 hc2).mono ?_; rintro e w' ⟨rfl, rfl⟩)
  have eS : Value.string ((ByteArray.mk t.toArray) ++ (ByteArray.mk #[c])) = sv (t ++ [c]) := by
    unfold sv
    rw [show (#[c] : Array UInt8) = [c].toArray from rfl, ByteArray.mk_append_mk]
  rw [eS]
  have HQ := Lib.hid ((H.out.settag (t' := t ++ [c])).fr0 (Fr.drew [] _))
  have HBQ := Lib.hid (((Below.refl B w).setCell (p := ⟨g, l.length * 2, none⟩) (own_lt H.out.hl (k := g) rfl).1 (sv (t ++ [c]))).drew)
  obtain ⟨wq, hwq⟩ : ∃ wq, (w.setCell ⟨g, l.length * 2, none⟩ (sv (t ++ [c]))).drew = wq := ⟨_, rfl⟩
  rw [hwq] at HQ HBQ ⊢
  clear hwq H d0 k1 z1 hsz
  obtain ⟨g', cap', x', xs2, he, -, -, -, -, k1, -, -, -, -⟩ := HQ.out.top
  cases he
  have d0 := HQ.out.c0
  replace k1 : wq.cell? ⟨g, l.length * 2, none⟩ = some (.string ⟨(t ++ [c]).toArray⟩) := k1
  have hlen : (((ByteArray.mk (t ++ [c]).toArray).size : Nat) : Int) = (t.length : Int) + 1 := by show (((t ++ [c]).toArray.size : Nat) : Int) = _; simp
  by_cases h3 : t.length + 1 < 3
  · have d3 : decide ((t.length : Int) + 1 < 3) = true := by rw [decide_eq_true_eq]; omega
    go_wp2_with (go_at_call 186; refine (top_any rb g l.length cap _ d0 hc1 hc2).mono ?_; rintro e w' ⟨rfl, rfl⟩)
    go_ret2
    exact ⟨by rw [← HF.out, if_pos h3]; rfl, HQ.out.fr0 (Fr.drew _ _), HBQ.out.drew⟩
  · have d3 : decide ((t.length : Int) + 1 < 3) = false := by rw [decide_eq_false_iff_not]; omega
    go_wp2_with (go_at_call 186; refine (top_any rb g l.length cap _ d0 hc1 hc2).mono ?_; rintro e w' ⟨rfl, rfl⟩)
    go_ret2
    exact ⟨by rw [← HF.out, if_neg h3]; rfl, HQ.out.fr0 (Fr.drew _ _), HBQ.out.drew⟩
end
end Go.Proofs.YtgfijlamhjjecaaGreatDoor


namespace Go.Proofs.YtgfijlamhjjecaaGreatDoor
open Go.RowKit
theorem cell_two_new (w : World) (x y : Value) (t : TypeId) : ∀ (j : Nat) (u : Value), [x, y][j]? = some u → (w.alloc (.cells #[x, y] t)).cell? ((⟨w.heap.size, 0, none⟩ : Addr).add j) = some u := by
  intro j u hj
  match j, hj with
  | 0, hj => simp at hj; subst hj; simp [Addr.add]
  | 1, hj => simp at hj; subst hj; simp [Addr.add]
section
variable {S : Nat → Prop} {w : World} {B rb : Nat} {l : List Seg} {t : Str} {es : List (List Str)} {cs : List Str} {p q : Str} {lv pv ev cv : Value} {xs ys : List Value}
theorem RA.lform (h : RA S w B rb l lv pv xs p) : ∃ ao cap, lv = .slice ao l.length cap := by
  obtain ⟨_, ⟨h1, h2⟩ | ⟨g, cap, _, h1, _⟩⟩ := h.hl
  · exact ⟨none, 0, by rw [h1, h2]⟩
  · exact ⟨_, cap, h1⟩
set_option maxRecDepth 100000 in
set_option maxHeartbeats 2000000 in
theorem btw_nl (h : RA S w B rb l lv pv xs p) (h0 : l ≠ []) : Calls Tryz.prog 144 #[.pointer (some ⟨rb, 0, none⟩), .int .u8 10] w fun e w' => e = .returned (.tuple #[fnV rb 144, .int .i64 0]) ∧ w = w' := by
  have d0 := h.c0
  obtain ⟨ao, cap, rfl⟩ := h.lform
  have h1 : 0 < l.length := List.length_pos_iff.2 h0
  have d1 : decide ((0 : Int) < (l.length : Int)) = true := by rw [decide_eq_true_eq]; omega
  clear h
  go_enter Tryz.func144, Tryz.ntmps144
  go_wp2_with fail
  go_ret2
  exact ⟨rfl, rfl⟩
set_option maxRecDepth 100000 in
set_option maxHeartbeats 2000000 in
theorem btw_full (h : RA S w B rb l lv pv xs p) (c : UInt8) (hc : c ≠ 10) (h64 : l.length = 64) : Calls Tryz.prog 144 #[.pointer (some ⟨rb, 0, none⟩), .int .u8 (c.toNat : Int)] w fun e w' => e = .returned (.tuple #[.nilFunc, .int .i64 2]) ∧ w = w' := by
  have d0 := h.c0
  obtain ⟨ao, cap, rfl⟩ := h.lform
  rw [h64] at d0
  have d1 : ((c.toNat : Int) == 10) = false := nat_eq c 10 hc
  obtain ⟨n, hn⟩ : ∃ n : Int, (c.toNat : Int) = n := ⟨_, rfl⟩
  rw [hn] at d1 ⊢
  clear h hn
  go_enter Tryz.func144, Tryz.ntmps144
  go_wp2_with fail
  go_ret2
  exact ⟨rfl, rfl⟩
set_option maxRecDepth 100000 in
set_option maxHeartbeats 4000000 in
theorem btw_tag (h : RA S w B rb l lv pv xs p) (hB : B ≤ w.heap.size) (c : UInt8) (hc : ¬ (c = 10 ∧ l ≠ [])) (h64 : l.length < 64) {a b : Value} {R : World → Prop}
    (hT : ∀ w1 lv', RA S w1 B rb (l ++ [⟨[], []⟩]) lv' pv (xs ++ [.slice none 0 0]) p → Below B w w1 → Calls Tryz.prog 168 #[.pointer (some ⟨rb, 0, none⟩), .int .u8 (c.toNat : Int)] w1 fun e w' => e = .returned (.tuple #[a, b]) ∧ R w') :
    Calls Tryz.prog 144 #[.pointer (some ⟨rb, 0, none⟩), .int .u8 (c.toNat : Int)] w fun e w' => e = .returned (.tuple #[a, b]) ∧ R w' := by
  have d0 := h.c0
  have f0 := h.fz 0
  have H := Lib.hid h
  have HT := Lib.hid hT
  have hrw := h.lt
  have hrB := h.hB
  have nlr := own_neR h.r h.hl (by decide)
  obtain ⟨la, lc, rfl⟩ := h.lform
  have d64 : ((l.length : Int) == 64) = false := by rw [beq_eq_false_iff_ne]; omega
  obtain ⟨n, hn⟩ : ∃ n : Int, (c.toNat : Int) = n := ⟨_, rfl⟩
  have dd : (n == 10) = false ∨ (n = 10 ∧ decide ((0 : Int) < (l.length : Int)) = false) := by
    by_cases h10 : c = 10
    · subst h10
      refine .inr ⟨hn.symm, ?_⟩
      rw [decide_eq_false_iff_not]
      have : l = [] := Classical.byContradiction fun h => hc ⟨rfl, h⟩
      simp [this]
    · exact .inl (by rw [← hn]; exact nat_eq c 10 h10)
  rw [hn] at HT ⊢
  clear h hT hn hc
  obtain ⟨i0, hi, hz0, hz1, hz2⟩ := info_parts einfo_seg
  have HI := Lib.hid hi
  have HZ0 := Lib.hid hz0
  have HZ1 := Lib.hid hz1
  have HZ2 := Lib.hid hz2
  clear hi hz0 hz1 hz2
  rcases dd with d1 | ⟨rfl, d1⟩
  · go_enter Tryz.func144, Tryz.ntmps144
    go_upto_region 6 with ((with_reducible refine wpList_at (.call { callee := .builtin .append, args := #[.tmp 30, .tmp 32], argTypes := #[39, 39] }) rfl ?_); go_loud (refine wpList_append_own_at _ rfl _ _ 39 rfl B 94 i0 (.agg #[.string ⟨#[]⟩, .slice none 0 0]) 2 40 Tryz.underlying39 HI.out HZ0.out HZ1.out HZ2.out rfl (by decide) _ _ _ rfl (World.ownsRow.alloc (show w.ownsRow B 94 2 (.slice la l.length lc) l.length (segCells l xs) from H.out.hl) _) ⟨w.heap.size, 0, none⟩ 1 1 [.string ⟨#[]⟩, .slice none 0 0] rfl rfl (cell_two_new _ _ _ _) (by simp [Value.oneCell']) (by unfold maxLen; omega) (by omega) (by simp; omega) ?_); intro lv' w1 he' hg' _ hk'; have HG1 : Hid ((w.alloc (.cells #[.string ⟨#[]⟩, .slice none 0 0] 94)).grownBy w1 (Value.slice la l.length lc).ownBlock) := hg'; have HK1 : Hid (lv'.ownBlock = (Value.slice la l.length lc).ownBlock ∨ lv'.ownBlock = some (w.heap.size + 1)) := Lib.hid (by rcases hk' with h | h; exact .inl h; (right; rw [h]; simp)); have hea := blk_ag HG1.out hrw nlr; have f0' : w1.frozen? ⟨rb, 0, none⟩ = false := (fz_ag hea).trans f0; have d0' : w1.cell? ⟨rb, 0, none⟩ = some (.slice la l.length lc) := (cell_ag hea).trans d0; have hs1 := hg'.size; simp at hs1; have HE1 : Hid (w1.ownsRow B 94 2 lv' (l.length + 1) (segCells l xs ++ [sv [], .slice none 0 0])) := Lib.hid he'; obtain ⟨pg2, pc2, _, rfl, _⟩ := own_form he' (by omega) (by omega); clear he' hg' hk' hea)
    have HQ := Lib.hid (H.out.newseg HG1.out HE1.out (by rw [World.size_alloc]; exact HK1.out))
    have HBQ := Lib.hid (H.out.fr_newseg (lv' := .slice (some ⟨pg2, 0, none⟩) (l.length + 1) pc2) HG1.out hB)
    obtain ⟨wq, hwq⟩ : ∃ wq, w1.setCell ⟨rb, 0, none⟩ (.slice (some ⟨pg2, 0, none⟩) (l.length + 1) pc2) = wq := ⟨_, rfl⟩
    rw [hwq] at HQ HBQ ⊢
    clear hwq f0 d0 f0' d0' HG1 HE1 HK1 hs1
    have HC := Lib.hid (HT.out wq _ HQ.out HBQ.out)
    go_wp2_with (go_at_call 168; refine HC.out.mono ?_; rintro e w' ⟨rfl, hR⟩; have HR := Lib.hid hR; clear hR)
    go_ret2
    exact ⟨rfl, HR.out⟩
  · have d2 : ¬ 0 < l.length := fun h => by rw [decide_eq_false_iff_not] at d1; omega
    go_enter Tryz.func144, Tryz.ntmps144
    go_upto_region 6 with ((with_reducible refine wpList_at (.call { callee := .builtin .append, args := #[.tmp 30, .tmp 32], argTypes := #[39, 39] }) rfl ?_); go_loud (refine wpList_append_own_at _ rfl _ _ 39 rfl B 94 i0 (.agg #[.string ⟨#[]⟩, .slice none 0 0]) 2 40 Tryz.underlying39 HI.out HZ0.out HZ1.out HZ2.out rfl (by decide) _ _ _ rfl (World.ownsRow.alloc (show w.ownsRow B 94 2 (.slice la l.length lc) l.length (segCells l xs) from H.out.hl) _) ⟨w.heap.size, 0, none⟩ 1 1 [.string ⟨#[]⟩, .slice none 0 0] rfl rfl (cell_two_new _ _ _ _) (by simp [Value.oneCell']) (by unfold maxLen; omega) (by omega) (by simp; omega) ?_); intro lv' w1 he' hg' _ hk'; have HG1 : Hid ((w.alloc (.cells #[.string ⟨#[]⟩, .slice none 0 0] 94)).grownBy w1 (Value.slice la l.length lc).ownBlock) := hg'; have HK1 : Hid (lv'.ownBlock = (Value.slice la l.length lc).ownBlock ∨ lv'.ownBlock = some (w.heap.size + 1)) := Lib.hid (by rcases hk' with h | h; exact .inl h; (right; rw [h]; simp)); have hea := blk_ag HG1.out hrw nlr; have f0' : w1.frozen? ⟨rb, 0, none⟩ = false := (fz_ag hea).trans f0; have d0' : w1.cell? ⟨rb, 0, none⟩ = some (.slice la l.length lc) := (cell_ag hea).trans d0; have hs1 := hg'.size; simp at hs1; have HE1 : Hid (w1.ownsRow B 94 2 lv' (l.length + 1) (segCells l xs ++ [sv [], .slice none 0 0])) := Lib.hid he'; obtain ⟨pg2, pc2, _, rfl, _⟩ := own_form he' (by omega) (by omega); clear he' hg' hk' hea)
    have HQ := Lib.hid (H.out.newseg HG1.out HE1.out (by rw [World.size_alloc]; exact HK1.out))
    have HBQ := Lib.hid (H.out.fr_newseg (lv' := .slice (some ⟨pg2, 0, none⟩) (l.length + 1) pc2) HG1.out hB)
    obtain ⟨wq, hwq⟩ : ∃ wq, w1.setCell ⟨rb, 0, none⟩ (.slice (some ⟨pg2, 0, none⟩) (l.length + 1) pc2) = wq := ⟨_, rfl⟩
    rw [hwq] at HQ HBQ ⊢
    clear hwq f0 d0 f0' d0' HG1 HE1 HK1 hs1
    have HC := Lib.hid (HT.out wq _ HQ.out HBQ.out)
    go_wp2_with (go_at_call 168; refine HC.out.mono ?_; rintro e w' ⟨rfl, hR⟩; have HR := Lib.hid hR; clear hR)
    go_ret2
    exact ⟨rfl, HR.out⟩
end
end Go.Proofs.YtgfijlamhjjecaaGreatDoor


namespace Go.Proofs.YtgfijlamhjjecaaGreatDoor
open Go.RowKit
def fnE : EC → Nat
  | .btw _ => 144
  | .tag _ _ => 168
  | .bhd _ _ => 187
  | .cmp _ _ _ _ _ => 205
  | .rel _ _ _ _ _ => 216
def Rd (w : World) (B rb : Nat) : EC → Prop
  | .btw l => ∃ (S : Nat → Prop) (lv pv : Value) (xs : List Value) (p : Str), RA S w B rb l lv pv xs p ∧ l.length ≤ 64
  | .tag l t => ∃ (S : Nat → Prop) (lv pv : Value) (xs0 : List Value) (p : Str), RA S w B rb (l ++ [⟨t, []⟩]) lv pv (xs0 ++ [.slice none 0 0]) p ∧ t.length < 3 ∧ l.length < 64
  | .bhd l t => ∃ (S : Nat → Prop) (lv pv : Value) (xs0 : List Value) (p : Str), RA S w B rb (l ++ [⟨t, []⟩]) lv pv (xs0 ++ [.slice none 0 0]) p ∧ l.length < 64
  | .cmp l t es cs p => ∃ (S : Nat → Prop) (lv pv ev cv : Value) (xs ys : List Value), RB S w B rb l t es cs p p lv pv ev cv xs ys ∧ l.length < 64 ∧ es.length + 1 ≤ 16 ∧ cs.length + 1 ≤ 8 ∧ p.length ≤ 256
  | .rel l t es cs p => ∃ (S : Nat → Prop) (lv pv ev cv : Value) (xs ys : List Value), RB S w B rb l t es cs p p lv pv ev cv xs ys ∧ l.length < 64 ∧ es.length + 1 ≤ 16 ∧ cs.length + 1 ≤ 8 ∧ p.length ≤ 256
def StepSays (B rb : Nat) (w : World) : ER → Ending → World → Prop
  | .err k, e, w' => e = .returned (.tuple #[.nilFunc, .int .i64 k]) ∧ Below B w w'
  | .ok s, e, w' => e = .returned (.tuple #[fnV rb (fnE s), .int .i64 0]) ∧ Rd w' B rb s ∧ Below B w w'
section
variable {w : World} {B rb : Nat} {l : List Seg} {t : Str} {es : List (List Str)} {cs : List Str} {p : Str}
abbrev stepArgs (rb : Nat) (c : UInt8) : Array Value := #[.pointer (some ⟨rb, 0, none⟩), .int .u8 (c.toNat : Int)]
theorem step_tag {S : Nat → Prop} {lv pv : Value} {xs0 : List Value} {q : Str} {w0 : World} (h : RA S w B rb (l ++ [⟨t, []⟩]) lv pv (xs0 ++ [.slice none 0 0]) q) (ht : t.length < 3) (hl : l.length < 64) (hb : Below B w0 w) (hB : B ≤ w0.heap.size) (c : UInt8) :
    Calls Tryz.prog 168 (stepArgs rb c) w (StepSays B rb w0 (tagS l t c)) := by
  unfold tagS
  by_cases hc : tagB c = false
  · rw [if_pos hc]
    exact (tag_bad rb w c hc).mono fun e w' h => ⟨h.1, h.2 ▸ hb⟩
  · rw [if_neg hc]
    have hc' : tagB c = true := by simpa using hc
    have hB' : B ≤ w.heap.size := Nat.le_trans hB hb.size
    refine (tag_ok h hB' c hc' ht).mono fun e w' h' => ?_
    obtain ⟨h1, h2, h3⟩ := h'
    by_cases h3' : t.length + 1 < 3
    · rw [if_pos h3'] at h1 ⊢
      exact ⟨h1, ⟨S, lv, pv, xs0, q, h2, by simpa using h3', hl⟩, hb.trans h3⟩
    · rw [if_neg h3'] at h1 ⊢
      exact ⟨h1, ⟨S, lv, pv, xs0, q, h2, hl⟩, hb.trans h3⟩
theorem step_put {S : Nat → Prop} {lv pv ev cv : Value} {xs ys : List Value} (h : RB S w B rb l t es cs p p lv pv ev cv xs ys) (hl : l.length < 64) (h16 : es.length + 1 ≤ 16) (h8 : cs.length + 1 ≤ 8) (hp : p.length ≤ 256) (hB : B ≤ w.heap.size) (c : UInt8) :
    Calls Tryz.prog 218 (stepArgs rb c) w (StepSays B rb w (putS l t es cs p c)) := by
  unfold putS
  by_cases h256 : p.length = 256
  · rw [if_pos h256]
    exact put_full h c h256
  · rw [if_neg h256]
    refine (put_ok h c hB (by omega)).mono fun e w' h' => ?_
    obtain ⟨h1, ⟨pv', h2⟩, h3⟩ := h'
    exact ⟨h1, ⟨S, lv, pv', ev, cv, xs, ys, h2, hl, h16, h8, by simp; omega⟩, h3⟩
theorem step_sign {S : Nat → Prop} {lv pv ev cv : Value} {xs ys : List Value} (h : RB S w B rb l t es cs p p lv pv ev cv xs ys) (hl : l.length < 64) (h16 : es.length + 1 ≤ 16) (h8 : cs.length + 1 ≤ 8) (hB : B ≤ w.heap.size) (c : UInt8) (hc : signB c = true) (h63 : c ≠ 63) :
    Calls Tryz.prog 197 (stepArgs rb c) w (StepSays B rb w (signS l t es cs p c)) := by
  unfold signS
  by_cases h39 : c = 39
  · subst h39
    rw [if_pos rfl]
    refine (sign_B39 h hB).mono fun e w' h' => ?_
    obtain ⟨h1, h2, h3⟩ := h'
    exact ⟨h1, ⟨_, _, _, _, _, h2, by simp; omega⟩, h3⟩
  · rw [if_neg h39]
    by_cases h43 : c = 43
    · subst h43
      rw [if_pos rfl]
      by_cases he : es.length + 1 = 16
      · rw [if_pos he]
        exact sign_B43_full h hB he
      · rw [if_neg he]
        refine (sign_B43_next h hB (by omega)).mono fun e w' h' => ?_
        obtain ⟨h1, ⟨ev', cv', h2⟩, h3⟩ := h'
        exact ⟨h1, ⟨_, _, _, _, _, _, _, h2, hl, by simp; omega, by simp, by simp⟩, h3⟩
    · rw [if_neg h43]
      have h58 : c = 58 := by
        unfold signB at hc
        simpa [h39, h43, h63] using hc
      subst h58
      by_cases he : cs.length + 1 = 8
      · rw [if_pos he]
        exact sign_B58_full h hB he
      · rw [if_neg he]
        refine (sign_B58_next h hB (by omega)).mono fun e w' h' => ?_
        obtain ⟨h1, ⟨cv', h2⟩, h3⟩ := h'
        exact ⟨h1, ⟨_, _, _, _, _, _, _, h2, hl, h16, by simp; omega, by simp⟩, h3⟩
end
theorem says_form {B rb : Nat} {w : World} {r : ER} {f : Nat} {args : Array Value} (h : Calls Tryz.prog f args w (StepSays B rb w r)) : ∃ a b, ∃ R : World → Prop, (Calls Tryz.prog f args w fun e w' => e = .returned (.tuple #[a, b]) ∧ R w') ∧ ∀ e w', (e = .returned (.tuple #[a, b]) ∧ R w') → StepSays B rb w r e w' := by
  cases r with
  | err k => exact ⟨.nilFunc, .int .i64 k, fun w' => Below B w w', h, fun e w' h => h⟩
  | ok s => exact ⟨fnV rb (fnE s), .int .i64 0, fun w' => Rd w' B rb s ∧ Below B w w', h, fun e w' h => h⟩
theorem rd_step {w : World} {B rb : Nat} {s : EC} (h : Rd w B rb s) (hB : B ≤ w.heap.size) (c : UInt8) : Calls Tryz.prog (fnE s) (stepArgs rb c) w (StepSays B rb w (stepE s c)) := by
  cases s with
  | btw l =>
    obtain ⟨S, lv, pv, xs, p, h, hl⟩ := h
    show Calls Tryz.prog 144 _ w (StepSays B rb w (if c = 10 ∧ l ≠ [] then .ok (.btw l) else if l.length = 64 then .err 2 else tagS l [] c))
    by_cases hc : c = 10 ∧ l ≠ []
    · rw [if_pos hc]
      obtain ⟨rfl, hl0⟩ := hc
      exact (btw_nl h hl0).mono fun e w' h' => ⟨h'.1, ⟨S, lv, pv, xs, p, h'.2 ▸ h, hl⟩, h'.2 ▸ Below.refl B w⟩
    · rw [if_neg hc]
      by_cases h64 : l.length = 64
      · rw [if_pos h64]
        have hc10 : c ≠ 10 := fun e => hc ⟨e, fun e' => by rw [e'] at h64; exact absurd h64 (by decide)⟩
        exact (btw_full h c hc10 h64).mono fun e w' h' => ⟨h'.1, h'.2 ▸ Below.refl B w⟩
      · rw [if_neg h64]
        have key : ∀ (a b : Value) (R : World → Prop), (∀ w1 lv', RA S w1 B rb (l ++ [⟨[], []⟩]) lv' pv (xs ++ [.slice none 0 0]) p → Below B w w1 → Calls Tryz.prog 168 (stepArgs rb c) w1 fun e w' => e = .returned (.tuple #[a, b]) ∧ R w') → Calls Tryz.prog 144 (stepArgs rb c) w fun e w' => e = .returned (.tuple #[a, b]) ∧ R w' :=
          fun a b R hT => btw_tag h hB c hc (by omega) hT
        cases hr : tagS l [] c with
        | err k =>
          refine (key .nilFunc (.int .i64 k) (fun w' => Below B w w') fun w1 lv' h1 hb => ?_).mono fun e w' h' => h'
          have := step_tag h1 (by simp) (by omega) hb hB c
          rw [hr] at this
          exact this
        | ok s' =>
          refine (key (fnV rb (fnE s')) (.int .i64 0) (fun w' => Rd w' B rb s' ∧ Below B w w') fun w1 lv' h1 hb => ?_).mono fun e w' h' => h'
          have := step_tag h1 (by simp) (by omega) hb hB c
          rw [hr] at this
          exact this
  | tag l t =>
    obtain ⟨S, lv, pv, xs, p, h, ht, hl⟩ := h
    exact step_tag h ht hl (Below.refl B w) hB c
  | bhd l t =>
    obtain ⟨S, lv, pv, xs, p, h, hl⟩ := h
    show Calls Tryz.prog 187 _ w (StepSays B rb w (if c = 39 then .ok (.btw (l ++ [⟨t, []⟩])) else if c = 43 then .ok (.cmp l t [] [] []) else .err 30))
    by_cases h39 : c = 39
    · subst h39
      rw [if_pos rfl]
      refine (bhd_39 (R := fun w' => RA S w' B rb (l ++ [⟨t, []⟩]) lv (.slice none 0 0) (xs ++ [.slice none 0 0]) [] ∧ Below B w w') (sign_A39 h hB)).mono fun e w' h' => ?_
      exact ⟨h'.1, ⟨_, _, _, _, _, h'.2.1, by simp; omega⟩, h'.2.2⟩
    · rw [if_neg h39]
      by_cases h43 : c = 43
      · subst h43
        rw [if_pos rfl]
        refine (bhd_43 (R := fun w' => (∃ ev cv, RB S w' B rb l t [] [] [] [] lv (.slice none 0 0) ev cv xs []) ∧ Below B w w') (sign_A43 h hB)).mono fun e w' h' => ?_
        obtain ⟨h1, ⟨ev, cv, h2⟩, h3⟩ := h'
        exact ⟨h1, ⟨_, _, _, _, _, _, _, h2, hl, by simp, by simp, by simp⟩, h3⟩
      · rw [if_neg h43]
        exact (bhd_bad rb w c h43 h39).mono fun e w' h' => ⟨h'.1, h'.2 ▸ Below.refl B w⟩
  | cmp l t es cs p =>
    obtain ⟨S, lv, pv, ev, cv, xs, ys, h, hl, h16, h8, hp⟩ := h
    show Calls Tryz.prog 205 _ w (StepSays B rb w (if c = 63 then .ok (.rel l t es cs p) else if signB c = true then signS l t es cs p c else if c.toNat < 32 ∨ 126 < c.toNat then .err 30 else putS l t es cs p c))
    by_cases h63 : c = 63
    · subst h63
      rw [if_pos rfl]
      exact (comp_63 rb w).mono fun e w' h' => ⟨h'.1, ⟨_, _, _, _, _, _, _, h'.2 ▸ h, hl, h16, h8, hp⟩, h'.2 ▸ Below.refl B w⟩
    · rw [if_neg h63]
      by_cases hs : signB c = true
      · rw [if_pos hs]
        obtain ⟨a, b, R, h1, h2⟩ := says_form (step_sign h hl h16 h8 hB c hs h63)
        exact (comp_sign c hs h63 h1).mono h2
      · rw [if_neg hs]
        have hs' : signB c = false := by simpa using hs
        by_cases hb : c.toNat < 32 ∨ 126 < c.toNat
        · rw [if_pos hb]
          exact (comp_bad rb w c hs' hb).mono fun e w' h' => ⟨h'.1, h'.2 ▸ Below.refl B w⟩
        · rw [if_neg hb]
          obtain ⟨a, b, R, h1, h2⟩ := says_form (step_put h hl h16 h8 hp hB c)
          exact (comp_put c hs' hb h1).mono h2
  | rel l t es cs p =>
    obtain ⟨S, lv, pv, ev, cv, xs, ys, h, hl, h16, h8, hp⟩ := h
    show Calls Tryz.prog 216 _ w (StepSays B rb w (if signB c = true then putS l t es cs p c else .err 30))
    by_cases hs : signB c = true
    · rw [if_pos hs]
      obtain ⟨a, b, R, h1, h2⟩ := says_form (step_put h hl h16 h8 hp hB c)
      exact (rel_put c hs h1).mono h2
    · rw [if_neg hs]
      have hs' : signB c = false := by simpa using hs
      exact (rel_bad rb w c hs').mono fun e w' h' => ⟨h'.1, h'.2 ▸ Below.refl B w⟩
end Go.Proofs.YtgfijlamhjjecaaGreatDoor


namespace Go.Proofs.YtgfijlamhjjecaaGreatDoor
open Go.RowKit
def heldN (t : Str) (i : Nat) : Nat := ((t.take i).reverse.takeWhile (· == 63)).length
theorem takeWhile_len {α : Type} (f : α → Bool) : ∀ (l : List α) (k : Nat), (∀ j, j < k → ∃ x, l[j]? = some x ∧ f x = true) → (∀ x, l[k]? = some x → f x = false) → (l.takeWhile f).length = k
  | [], k, h1, _ => by
    cases k with
    | zero => rfl
    | succ k => obtain ⟨x, hx, _⟩ := h1 0 (by omega); simp at hx
  | a :: l, k, h1, h2 => by
    cases k with
    | zero => have := h2 a rfl; simp [List.takeWhile, this]
    | succ k =>
      obtain ⟨x, hx, hf⟩ := h1 0 (by omega)
      simp at hx; subst hx
      rw [List.takeWhile_cons, if_pos hf, List.length_cons, takeWhile_len f l k (fun j hj => by simpa using h1 (j + 1) (by omega)) (fun x hx => h2 x (by simpa using hx))]
theorem rev_take {t : Str} {i j : Nat} (hi : i ≤ t.length) (hj : j < i) : (t.take i).reverse[j]? = t[i - 1 - j]? := by
  rw [List.getElem?_reverse (by simp; omega)]
  simp only [List.length_take]
  rw [Nat.min_eq_left hi, List.getElem?_take_of_lt (by omega)]
theorem heldN_of {t : Str} {i k : Nat} (hi : i ≤ t.length) (hk : k ≤ i) (h1 : ∀ j, j < k → t[i - 1 - j]? = some 63) (h2 : k = i ∨ t[i - 1 - k]? ≠ some 63) : heldN t i = k := by
  refine takeWhile_len _ _ k (fun j hj => ⟨63, ?_, rfl⟩) (fun x hx => ?_)
  · rw [rev_take hi (by omega)]; exact h1 j hj
  · rcases h2 with rfl | h2
    · rw [List.getElem?_eq_none (by simp; omega)] at hx; cases hx
    · by_cases hki : k < i
      · rw [rev_take hi hki] at hx
        rw [hx] at h2
        simpa using h2
      · rw [List.getElem?_eq_none (by simp; omega)] at hx; cases hx
theorem at_byte (s : ByteArray) (i : Nat) (h : i < s.size) : s.data.toList[i]? = some (s[i]'h) := by
  show s.data.toList[i]? = some (s.data[i]'h)
  rw [List.getElem?_eq_getElem (by simpa using h)]
  simp
set_option maxRecDepth 100000 in
set_option maxHeartbeats 2000000 in
theorem held_any (r : Value) (s : ByteArray) (i : Nat) (hi : i ≤ s.size) (hs : s.size < 9223372036854775807) (w : World) : Calls Tryz.prog 145 #[r, .string s, .int .i64 (i : Int)] w fun e w' => e = .returned (.bool (heldN s.data.toList i % 2 == 1)) ∧ w = w' := by
  have heq : ∀ k : Nat, (((k : Int) % 2) == 1) = (k % 2 == 1) := fun k => by rw [Bool.eq_iff_iff, beq_iff_eq, beq_iff_eq]; omega
  have HEQ := Lib.hid heq
  clear heq
  go_enter Tryz.func145, Tryz.ntmps145
  go_wp2
  go_loop [7] (fun n => ∃ k : Nat, k ≤ i ∧ n = .int .i64 (k : Int) ∧ Hid (∀ j, j < k → s.data.toList[i - 1 - j]? = some 63)) (fun n => i - (intOf n).toNat)
  case atStart => exact ⟨0, by omega, rfl, Lib.hid fun j hj => absurd hj (by omega)⟩
  case round =>
    obtain ⟨k, hk, rfl, HK⟩ := hrel
    by_cases hlt : k < i
    · have hw1 : IntKind.i64.wrap ((i : Int) - 1) = ((i - 1 : Nat) : Int) := by rw [show ((i - 1 : Nat) : Int) = (i : Int) - 1 by omega]; exact IntWalk.i64_in _ (by omega)
      have hw2 : IntKind.i64.wrap (((i - 1 : Nat) : Int) - (k : Int)) = ((i - 1 - k : Nat) : Int) := by rw [show ((i - 1 - k : Nat) : Int) = ((i - 1 : Nat) : Int) - (k : Int) by omega]; exact IntWalk.i64_in _ (by omega)
      have hb : i - 1 - k < s.size := by omega
      have hA := at_byte s _ hb
      by_cases hq : s[i - 1 - k]'hb = 63
      · have hd : (((s[i - 1 - k]'hb).toNat : Int) == 63) = true := by rw [hq]; decide
        go_wp2
        go_round
        case rel =>
          refine ⟨k + 1, by omega, by go_num, Lib.hid fun j hj => ?_⟩
          by_cases hjk : j < k
          · exact HK.out j hjk
          · obtain rfl : j = k := by omega
            rw [hA, hq]
        case measure => simp [intOf]; omega
      · have hd : (((s[i - 1 - k]'hb).toNat : Int) == 63) = false := nat_eq _ 63 hq
        have HH := Lib.hid (show heldN s.data.toList i = k from heldN_of (by simpa using hi) hk HK.out (.inr (by rw [hA]; exact fun e => hq (Option.some.inj e))))
        go_wp2
        go_ret
        exact ⟨by rw [HH.out, ← HEQ.out k]; rfl, rfl⟩
    · obtain rfl : k = i := by omega
      have HH := Lib.hid (show heldN s.data.toList k = k from heldN_of (by simpa using hi) hk HK.out (.inl rfl))
      go_wp2
      go_ret
      exact ⟨by rw [HH.out, ← HEQ.out k]; rfl, rfl⟩
end Go.Proofs.YtgfijlamhjjecaaGreatDoor


namespace Go.Proofs.YtgfijlamhjjecaaGreatDoor
open Go.RowKit
theorem makeBytes_rowE (n : Nat) : madeCells #[.int .u8 0] n = rowA n fun _ => 0 := by
  apply Array.ext_getElem?
  intro j
  by_cases hj : j < n
  · rw [rowA_get _ hj]
    simp only [madeCells, Array.getElem?_map]
    rw [Array.getElem?_eq_getElem (by simpa using hj)]
    simp [Nat.mod_one, bv]
  · rw [Array.getElem?_eq_none (by simp [madeCells]; omega), Array.getElem?_eq_none (by rw [rowA_size]; omega)]
theorem make_bytesE (n : Nat) (hn : n ≤ 140737488355328) (u : World) : (Instr.makeSlice 72 (.int .i64 (n : Int)) (.int .i64 (n : Int))).run Tryz.prog u = .ok (.slice (some ⟨u.heap.size, 0, none⟩) n n) (u.alloc (.cells (rowA n fun _ => 0) 5)) := by
  obtain ⟨i0, hi, hz0, hz1, hz2⟩ := info_parts einfo_u8
  have h := run_make (P := Tryz.prog) u 72 5 i0 _ Tryz.underlying72 hi hz0 .i64 .i64 (n : Int) (n : Int) (by omega) (Int.le_refl _) (by rw [hz2]; omega) (by omega)
  rw [h, hz1]
  simp only [Int.toNat_natCast, Value.cells, Nat.mul_one, makeBytes_rowE]
def outF (l : Str) (k : Nat) : Sec := fun j => (compT (l.take k)).getD j 0
theorem outF_fit (l : Str) (k' : Nat) : (compT (l.take k')).length ≤ l.length + sgN l := by
  rw [compT_len]
  have := sgN_take_mono l k'
  have : (l.take k').length ≤ l.length := by rw [List.length_take]; omega
  omega
theorem outF_set (l : Str) (k j n : Nat) (c : UInt8) (hj : j = (compT (l.take k)).length) (hc : compT (l.take (k + 1)) = compT (l.take k) ++ [c]) (hn : j < n) : (rowA n (outF l k)).setIfInBounds j (.int .u8 (c.toNat : Int)) = rowA n (outF l (k + 1)) := by
  apply Array.ext_getElem?
  intro i
  by_cases hi : i < n
  · rw [rowA_get _ hi]
    by_cases e : i = j
    · subst e
      rw [Array.getElem?_setIfInBounds_self_of_lt (by rw [rowA_size]; exact hi)]
      unfold outF; rw [hc, hj]; simp [bv]
    · rw [Array.getElem?_setIfInBounds_ne (by omega), rowA_get _ hi]
      unfold outF; rw [hc]
      congr 2
      by_cases h2 : i < j
      · simp only [List.getD_eq_getElem?_getD]; rw [List.getElem?_append_left (by omega)]
      · simp only [List.getD_eq_getElem?_getD]; rw [List.getElem?_append_right (by omega), List.getElem?_eq_none (by omega), List.getElem?_eq_none (by simp; omega)]
  · rw [Array.getElem?_eq_none (by simp [rowA_size]; omega), Array.getElem?_eq_none (by rw [rowA_size]; omega)]
theorem copy2 {l : Str} {k j n : Nat} {c : UInt8} (hj : j = (compT (l.take k)).length) (hc : compT (l.take (k + 1)) = compT (l.take k) ++ [63, c]) (_hn : j + 2 ≤ n) : rowA n (splF (outF l k) j 2 (fun i => ([63, c] : Str).getD i 0)) = rowA n (outF l (k + 1)) := by
  apply rowA_congr
  intro i hi
  unfold splF outF
  rw [hc]
  simp only [List.getD_eq_getElem?_getD]
  by_cases h : j ≤ i ∧ i < j + 2
  · rw [if_pos h, List.getElem?_append_right (by omega), ← hj]
  · rw [if_neg h]
    by_cases h2 : i < j
    · rw [List.getElem?_append_left (by omega)]
    · rw [List.getElem?_append_right (by omega), List.getElem?_eq_none (by omega), List.getElem?_eq_none (by simp; omega)]
theorem row2_at (w : World) (b : Nat) (c : UInt8) (h0 : w.cell? ⟨b, 0, none⟩ = some (bv 63)) (h1 : w.cell? ⟨b, 1, none⟩ = some (bv c)) : ∀ j v, (rowL 2 (fun i => ([63, c] : Str).getD i 0))[j]? = some v → w.cell? ((⟨b, 0, none⟩ : Addr).add j) = some v := by
  intro j v hv
  rw [Addr.add_mid, Nat.zero_add]
  have hj : j < 2 := by have := (List.getElem?_eq_some_iff.1 hv).1; rwa [rowL_length] at this
  rw [rowL_get _ hj] at hv
  match j, hj with
  | 0, _ => rw [h0]; exact hv
  | 1, _ => rw [h1]; exact hv
theorem getD_mem (k : Nat) (h : k < 4) : (DE 0).getD k 0 ∈ DE 0 := by
  match k, h with
  | 0, _ => decide
  | 1, _ => decide
  | 2, _ => decide
  | 3, _ => decide
set_option maxRecDepth 100000 in
set_option maxHeartbeats 4000000 in
theorem bsr_any (w : World) (g : Nat) (s : ByteArray) (h : FullAt w g) (hs : s.size ≤ 1048576) :
    Calls Tryz.prog 257 #[.pointer (some ⟨g, 0, none⟩), .string s] w fun e w' => e = .returned (sv (compT s.data.toList)) ∧ Below w.heap.size w w' := by
  obtain ⟨l, hl⟩ : ∃ l, s.data.toList = l := ⟨_, rfl⟩
  have hll : l.length = s.size := by rw [← hl]; simp
  have HL := Lib.hid hl
  have HLL := Lib.hid hll
  have HFU := Lib.hid h
  have hnl := fun (w : World) (a : Option Addr) (n c n' c' : Nat) => run_neq_slice_nil_any (P := Tryz.prog) w 72 5 a n c n' c' Tryz.underlying72
  obtain ⟨nb, cap, k0, hc4, hcm, hnm⟩ := h.names
  have HNM := Lib.hid hnm
  have hsn := sgN_le l
  rw [hll] at hsn
  rw [hl]
  clear hl hll h hnm
  go_enter Tryz.func257, Tryz.ntmps257
  go_upto_if 26 with fail
  obtain ⟨d32, hd32⟩ : ∃ d, decide ((32 : Int) ≤ (s.size : Int)) = d := ⟨_, rfl⟩
  rw [hd32]
  clear hd32
  go_cut [5, 6] (fun ns ac wx => ns = .int .i64 ((s.size + sgN l : Nat) : Int) ∧ ac = .bool (decide (0 < sgN l)) ∧ Hid (wx.heap = w.heap) ∧ Hid (Below w.heap.size w wx))
  case first =>
    cases d32
    rotate_left
    · go_wp2_with fail
      go_loopw [5, 6, 32] (fun ns ac i wr => ∃ (k N : Nat) (a : Bool), k ≤ 4 ∧ i = .int .i64 (k : Int) ∧ ns = .int .i64 (N : Int) ∧ ac = .bool a ∧ Hid (N = s.size + cntD l k) ∧ Hid (a = decide (0 < cntD l k)) ∧ Hid (wr.heap = w.heap) ∧ Hid (Below w.heap.size w wr)) (fun _ _ i _ => 4 - (intOf i).toNat)
      case atStart => exact ⟨0, s.size, false, by omega, rfl, rfl, rfl, Lib.hid (by simp [cntD]), Lib.hid (by simp [cntD]), Lib.hid rfl, Lib.hid (Below.refl _ _)⟩
      case round =>
        obtain ⟨k, N, a, hk, rfl, rfl, rfl, HN, HA, HW, HBE⟩ := hrel
        by_cases h4 : k < 4
        · obtain ⟨c, hc⟩ : ∃ c, (DE 0).getD k 0 = c := ⟨_, rfl⟩
          have hcell : wr.cell? ⟨nb, k, none⟩ = some (.string ⟨#[c]⟩) := by
            have := HNM.out k h4
            rw [hc] at this
            exact (cell_ag (by rw [HW.out])).trans this
          have b1 : (0 : Int) ≤ k := by omega
          have b2 : (k : Int) < 4 := by omega
          have hsg : signB c = true := (mem_DE c).1 (by rw [← hc]; exact getD_mem k h4)
          obtain ⟨b, cap2, y1, y2, y3, _⟩ := HFU.out.yes hsg
          have y1' := (cell_ag (g := g) (j := c.toNat) (by rw [HW.out])).trans y1
          obtain ⟨cn, hcn⟩ : ∃ cn, c.toNat = cn := ⟨_, rfl⟩
          have hq : ((⟨#[c]⟩ : ByteArray)[0]'(Nat.zero_lt_one)).toNat = cn := hcn
          have hc256 := c.toNat_lt
          rw [hcn] at y1' hc256
          have b3 : (0 : Int) ≤ cn := by omega
          have b4 : (cn : Int) < 256 := by omega
          have HCO := Lib.hid (fun w => Tryz.strings_Count_one s c w)
          have hml : l.count c ≤ l.length := List.count_le_length
          have hcs := cntD_succ l k h4
          rw [hc] at hcs
          have HCS := Lib.hid hcs
          rw [HL.out] at HCO
          obtain ⟨m, hm⟩ : ∃ m, Lib.countByte l c = m := ⟨_, rfl⟩
          have hm' : l.count c = m := hm
          rw [HLL.out, hm'] at hml
          rw [hm] at HCO
          rw [hm'] at HCS
          have hNle : N ≤ s.size + s.size := by have h1 := HN.out; have h2 := cntD_mono l k hk; omega
          clear y1 hcn hc hm hm' hsg hcs
          by_cases hm0 : m = 0
          · subst hm0
            go_wp2_with (go_at_call 259; refine (HCO.out _).mono ?_; rintro e w' ⟨rfl, rfl⟩)
            go_roundw
            case rel =>
              have h1 := HCS.out
              rw [Nat.add_zero] at h1
              exact ⟨k + 1, N, a, by omega, by go_num, rfl, rfl, Lib.hid (by rw [h1]; exact HN.out), Lib.hid (by rw [h1]; exact HA.out), HW, HBE⟩
            case measure => simp [intOf]; omega
          · have hm1 : ((m : Int) != 0) = true := by simp; omega
            have w1 : IntKind.i64.wrap ((m : Int) * 1) = (m : Int) := by rw [Int.mul_one]; exact IntWalk.i64_in _ (by omega)
            have w2 : IntKind.i64.wrap ((N : Int) + (m : Int)) = (N : Int) + (m : Int) := IntWalk.i64_in _ (by omega)
            go_upto_region 9 with (go_at_call 259; refine (HCO.out _).mono ?_; rintro e w' ⟨rfl, rfl⟩)
            go_quiet (fail)
            go_wp2_with fail
            go_roundw
            case rel =>
              have h1 := HCS.out
              exact ⟨k + 1, N + m, true, by omega, by go_num, by go_num, rfl, Lib.hid (by rw [h1, HN.out]; omega), Lib.hid (by rw [h1]; symm; rw [decide_eq_true_eq]; omega), Lib.hid HW.out, Lib.hid (HBE.out.trans ⟨rfl, rfl, rfl, Nat.le_refl _, fun _ _ => rfl⟩)⟩
            case measure => simp [intOf]; omega
        · obtain rfl : k = 4 := by omega
          have hNe : s.size + sgN l = N := by rw [HN.out, cntD_four]
          have hAe : decide (0 < sgN l) = a := by rw [HA.out, cntD_four]
          have HNE := Lib.hid hNe
          have HAE := Lib.hid hAe
          clear hNe hAe
          go_wp2_with fail
          go_meet
          case rel => exact ⟨by rw [HNE.out], by rw [HAE.out], HW, HBE⟩
    · go_wp2_with fail
      go_loopw [5, 6, 10] (fun ns ac i wr => ∃ (k N : Nat) (a : Bool), k ≤ s.size ∧ i = .int .i64 (k : Int) ∧ ns = .int .i64 (N : Int) ∧ ac = .bool a ∧ Hid (N = s.size + sgN (l.take k)) ∧ Hid (a = decide (0 < sgN (l.take k))) ∧ wr = w) (fun _ _ i _ => s.size - (intOf i).toNat)
      case atStart => exact ⟨0, s.size, false, by omega, rfl, rfl, rfl, Lib.hid (by simp [sgN]), Lib.hid (by simp [sgN]), rfl⟩
      case round =>
        obtain ⟨k, N, a, hk, rfl, rfl, rfl, HN, HA, rfl⟩ := hrel
        by_cases hlt : k < s.size
        · obtain ⟨c, hc⟩ : ∃ c, s[k]'hlt = c := ⟨_, rfl⟩
          have hcl : l[k]? = some c := by rw [← HL.out, ← hc]; exact at_byte s _ hlt
          have hsu := sgN_take hcl
          have hle := sgN_take_le l k
          have hN := HN.out
          obtain ⟨cn, hcn⟩ : ∃ cn, c.toNat = cn := ⟨_, rfl⟩
          have hc256 := c.toNat_lt
          have hq : (s[k]'hlt).toNat = cn := by rw [hc]; exact hcn
          rw [hcn] at hc256
          have b3 : (0 : Int) ≤ cn := by omega
          have b4 : (cn : Int) < 256 := by omega
          have hNle : N ≤ s.size + s.size := by rw [HLL.out] at hle; omega
          cases hsb : signB c with
          | true =>
            obtain ⟨b, cap2, y1, y2, y3, _⟩ := HFU.out.yes hsb
            rw [hcn] at y1
            rw [hsb, if_pos rfl] at hsu
            have HSU := Lib.hid hsu
            clear hsu hN hc hcl hcn hsb
            go_wp2_with fail
            go_roundw
            case rel =>
              have h1 := HSU.out
              exact ⟨k + 1, N + 1, true, by omega, by go_num, by go_num, rfl, Lib.hid (by rw [h1, HN.out]; omega), Lib.hid (by rw [h1]; symm; rw [decide_eq_true_eq]; omega), trivial⟩
            case measure => simp [intOf]; omega
          | false =>
            have y1 := HFU.out.no hsb
            rw [hcn] at y1
            rw [hsb, if_neg (by simp), Nat.add_zero] at hsu
            have HSU := Lib.hid hsu
            clear hsu hN hc hcl hcn hsb
            go_wp2_with fail
            go_roundw
            case rel =>
              have h1 := HSU.out
              exact ⟨k + 1, N, a, by omega, by go_num, rfl, rfl, Lib.hid (by rw [h1]; exact HN.out), Lib.hid (by rw [h1]; exact HA.out), trivial⟩
            case measure => simp [intOf]; omega
        · obtain rfl : k = s.size := by omega
          have e : l.take s.size = l := List.take_of_length_le (by rw [HLL.out]; exact Nat.le_refl _)
          have hN := HN.out
          have hA := HA.out
          rw [e] at hN hA
          have HNE := Lib.hid hN
          have HAE := Lib.hid hA
          clear hN hA e
          go_wp2_with fail
          go_meet
          case rel => exact ⟨by rw [HNE.out], by rw [HAE.out], Lib.hid rfl, Lib.hid (Below.refl _ _)⟩
  case rest =>
    obtain ⟨rfl, rfl, hh, hb⟩ := hcut
    have HFU2 := Lib.hid (HFU.out.cong (w' := wc) (fun k _ => by rw [hh.out]))
    obtain ⟨n, hn⟩ : ∃ n, s.size + sgN l = n := ⟨_, rfl⟩
    have hn2 : n ≤ 2097152 := by omega
    have HNN := Lib.hid hn
    rw [hn]
    clear k0 HNM hc4 hcm hn
    obtain ⟨A, hA⟩ : ∃ A, decide (0 < sgN l) = A := ⟨_, rfl⟩
    rw [hA]
    by_cases hz : sgN l = 0
    · have hz2 : A = false := by rw [← hA, decide_eq_false_iff_not]; omega
      subst hz2
      clear hA
      have HZ := Lib.hid (compT_same hz)
      clear hz
      go_wp2_with fail
      go_ret
      exact ⟨by rw [HZ.out, ← HL.out]; rfl, hb.out⟩
    · have hz2 : A = true := by rw [← hA, decide_eq_true_eq]; omega
      subst hz2
      clear hA
      have hmk := make_bytesE n (by omega) wc
      have hws := hb.out.size
      have HSZ := Lib.hid hz
      clear hz
      go_upto_block 4 with fail
      obtain ⟨qb, hqb⟩ : ∃ qb, wc.heap.size = qb := ⟨_, rfl⟩
      obtain ⟨w1, hw1⟩ : ∃ w1, wc.alloc (.cells (rowA n fun _ => 0) 5) = w1 := ⟨_, rfl⟩
      have HR1 := Lib.hid (show w1.heap[qb]? = some (.cells (rowA n (outF l 0)) 5 (0, 0)) by rw [← hw1, ← hqb]; exact heap_alloc_new _ _)
      have HO1 := Lib.hid (show ∀ k, k < qb → w1.heap[k]? = wc.heap[k]? by rw [← hw1, ← hqb]; exact fun k hk => Below.heap_alloc _ _ _ hk)
      have HB1 := Lib.hid (show Below w.heap.size w w1 by rw [← hw1]; exact hb.out.alloc hws _)
      rw [hqb] at hws
      have HQB := Lib.hid hqb
      rw [hqb, hw1]
      clear hqb hw1 hmk
      have hgq : g < qb := by rw [← HQB.out]; exact HFU2.out.lt
      go_wp2_with fail
      go_loopw [13, 14] (fun js i wr => ∃ (k j : Nat), k ≤ s.size ∧ i = .int .i64 (k : Int) ∧ js = .int .i64 (j : Int) ∧ Hid (j = (compT (l.take k)).length) ∧ Hid (wr.heap[qb]? = some (.cells (rowA n (outF l k)) 5 (0, 0))) ∧ Hid (∀ k, k < qb → wr.heap[k]? = wc.heap[k]?) ∧ Hid (Below w.heap.size w wr)) (fun _ i _ => s.size - (intOf i).toNat)
      case atStart => exact ⟨0, 0, by omega, rfl, rfl, Lib.hid rfl, HR1, HO1, HB1⟩
      case round =>
        obtain ⟨k, j, hk, rfl, rfl, HJ, HR, HO, HBE⟩ := hrel
        clear HR1 HO1 HB1
        by_cases hlt : k < s.size
        · obtain ⟨c, hc⟩ : ∃ c, s[k]'hlt = c := ⟨_, rfl⟩
          have hcl : l[k]? = some c := by rw [← HL.out, ← hc]; exact at_byte s _ hlt
          have hct := compT_take hcl
          have hnl := outF_fit l
          rw [HLL.out, HNN.out] at hnl
          have hjn := hnl (k + 1)
          rw [hct, List.length_append, ← HJ.out] at hjn
          clear hnl
          obtain ⟨cn, hcn⟩ : ∃ cn, c.toNat = cn := ⟨_, rfl⟩
          have hc256 := c.toNat_lt
          have hq : (s[k]'hlt).toNat = cn := by rw [hc]; exact hcn
          rw [hcn] at hc256
          have b3 : (0 : Int) ≤ cn := by omega
          have b4 : (cn : Int) < 256 := by omega
          have HCT := Lib.hid hct
          cases hsb : signB c with
          | true =>
            obtain ⟨b, cap2, y0, y2, y3, y4, y5⟩ := HFU2.out.yes hsb
            have y1 := (cell_ag (HO.out g hgq)).trans y0
            rw [hcn] at y1
            have he : escB c = [63, c] := by unfold escB; rw [hsb]; rfl
            rw [he] at hjn
            have hjn' : j + 2 ≤ n := by simp at hjn; omega
            have hbq : b < qb := by rw [← HQB.out]; exact cell_lt' y4
            have y4' := (cell_ag (HO.out b hbq)).trans y4
            have y5' := (cell_ag (HO.out b hbq)).trans y5
            have b5 : (0 : Int) ≤ j := by omega
            have b6 : (j : Int) ≤ n := by omega
            have b7 : (j : Int) < n := by omega
            have b8 : ¬ n = j := by omega
            have HN := Lib.hid (copy2 (n := n) HJ.out (by rw [HCT.out, he]) hjn')
            have HJ2 := Lib.hid (show j + 2 = (compT (l.take (k + 1))).length by rw [HCT.out, he, List.length_append, ← HJ.out]; rfl)
            have HSR := Lib.hid (row2_at wr b c y4' y5')
            have w2 : IntKind.i64.wrap ((j : Int) + 2) = (j : Int) + 2 := IntWalk.i64_in _ (by omega)
            clear hct hjn hc hcl hsb he y0 y4 y5 y4' y5'
            go_upto_region 28 with fail
            refine wp_region_plan [(0, false), (1, false), (2, false), (3, false), (4, false), (5, false), (6, false), (7, false), (8, false), (9, false), (10, true), (11, false), (12, false)] (fun w' => w'.cell? ⟨g, cn, none⟩ = some (.slice (some ⟨b, 0, none⟩) 2 cap2)) (by kernel_rfl) (by kernel_rfl) y1 ?_
            iterate 10 (refine' plan_val rfl rfl (fun w' hS => ?_) ?_; rotate_left; (focus (go_simp; rfl)); simp only [Act.put, List.setIfInBounds_toArray, List.set_cons_zero, List.set_cons_succ])
            refine plan_do rfl (fun K hK => ?_)
            refine wpList_val rfl (exec_copy (xv := .slice (some ⟨qb, j, none⟩) (n - j) (n - j)) (yv := .slice (some ⟨b, 0, none⟩) 2 cap2) rfl rfl rfl (fun ty => run_copy_bytes (P := Tryz.prog) wr.drew 72 72 5 qb j (n - j) (n - j) ⟨b, 0, none⟩ 2 cap2 n 2 (outF l k) (fun i => ([63, c] : Str).getD i 0) 5 Tryz.underlying72 (by kernel_rfl) HR.out (by show 2 = min 2 (n - j); omega) HSR.out hjn' ty)) ?_
            rw [HN.out]
            have hgq2 : g ≠ qb := by omega
            have y1'' : (wr.drew.setRow qb (rowA n (outF l (k + 1)))).cell? ⟨g, cn, none⟩ = some (.slice (some ⟨b, 0, none⟩) 2 cap2) := (cell_ag (setRow_other wr.drew qb g _ hgq2)).trans y1
            refine hK _ _ y1'' ?_
            clear hK K
            iterate 2 (refine' plan_val rfl rfl (fun w' hS => ?_) ?_; rotate_left; (focus (go_simp; rfl)); simp only [Act.put, List.setIfInBounds_toArray, List.set_cons_zero, List.set_cons_succ])
            refine plan_nil ?_
            have HR2 := Lib.hid (setRow_heap wr.drew qb (rowA n (outF l k)) (rowA n (outF l (k + 1))) _ _ HR.out)
            have HO2 := Lib.hid (show ∀ x, x < qb → (wr.drew.setRow qb (rowA n (outF l (k + 1)))).heap[x]? = wc.heap[x]? from fun x hx => (setRow_other wr.drew qb x _ (by omega)).trans (HO.out x hx))
            have HB2 := Lib.hid (show Below w.heap.size w (wr.drew.setRow qb (rowA n (outF l (k + 1)))) from HBE.out.trans ⟨rfl, rfl, rfl, by simp, fun x hx => setRow_other wr.drew qb x _ (by omega)⟩)
            clear y1'' y1
            go_wp2_with fail
            go_roundw
            case rel => exact ⟨k + 1, j + 2, by omega, by go_num, by go_num, HJ2, HR2, HO2, HB2⟩
            case measure => simp [intOf]; omega
          | false =>
            have y1 := (cell_ag (HO.out g hgq)).trans (HFU2.out.no hsb)
            rw [hcn] at y1
            have he : escB c = [c] := by unfold escB; rw [hsb]; rfl
            rw [he] at hjn
            have hjn' : j < n := by simp at hjn; omega
            have b5 : (0 : Int) ≤ j := by omega
            have b6 : (j : Int) < n := by omega
            have k1 : wr.cell? ⟨qb, j, none⟩ = some (bv (outF l k j)) := by rw [cell_of_row wr qb j _ _ _ HR.out, rowA_get _ hjn']
            have z1 := frozen_of_row wr qb j _ _ HR.out
            have HN := Lib.hid (show (wr.setCell ⟨qb, j, none⟩ (.int .u8 (cn : Int))).heap[qb]? = some (.cells (rowA n (outF l (k + 1))) 5 (0, 0)) by
              rw [heap_setCell_same wr qb j _ _ _ HR.out, ← hcn, outF_set l k j n c HJ.out (by rw [HCT.out, he]) hjn'])
            have HJ2 := Lib.hid (show j + 1 = (compT (l.take (k + 1))).length by rw [HCT.out, he, List.length_append, ← HJ.out]; rfl)
            clear hct hjn hc hcl hcn hsb he HR
            go_wp2_with fail
            go_roundw
            case rel => exact ⟨k + 1, j + 1, by omega, by go_num, by go_num, HJ2, HN, Lib.hid (fun x hx => (heap_setCell_other wr _ _ _ (by simp; omega)).trans (HO.out x hx)), Lib.hid (HBE.out.setCell (by simpa using hws) _)⟩
            case measure => simp [intOf]; omega
        · obtain rfl : k = s.size := by omega
          have e : l.take s.size = l := List.take_of_length_le (by rw [HLL.out]; exact Nat.le_refl _)
          have hR := HR.out
          unfold outF at hR
          rw [e] at hR
          have hcn : (compT l).length = n := by rw [compT_len, HLL.out, HNN.out]
          have hcv : (convert 72 9 (.slice (some ⟨qb, 0, none⟩) n n)).run Tryz.prog wr = .ok (.string ⟨(compT l).toArray⟩) wr := by
            have := run_convert_bytes_back (P := Tryz.prog) wr 72 9 5 ⟨qb, 0, none⟩ n (compT l) Tryz.underlying72 Tryz.underlying5 Tryz.underlying9 (fun j hj => by
              rw [Addr.add_mid, Nat.zero_add, cell_of_row wr qb j _ _ _ hR, rowA_get _ (by omega)]
              simp [bv, hj])
            rw [hcn] at this
            exact this
          clear hR hcn e HR
          go_wp2_with fail
          go_ret
          exact ⟨rfl, HBE.out⟩
end Go.Proofs.YtgfijlamhjjecaaGreatDoor


namespace Go.Proofs.YtgfijlamhjjecaaGreatDoor
open Go.RowKit
theorem TabAt.full {w : World} {B g : Nat} (h : TabAt w B g (DE 0) (DE 0)) : FullAt w g := by
  obtain ⟨C, tv, h⟩ := h; exact ⟨B, C, tv, h⟩
theorem method_repl (a : Addr) (w : World) : (method 457 296 (.pointer (some a)) "Replace").run Tryz.prog w = .ok (257, .pointer (some a)) w := by kernel_rfl
set_option maxRecDepth 100000 in
theorem replace_any (w : World) (rb ob cap : Nat) (r : Value) (s : ByteArray) (hs : s.size ≤ 1048576) (hR : RepAt w rb 0 0 r (.slice (some ⟨ob, 0, none⟩) 8 cap)) (hO : OldAt w ob) (hne : ob ≠ rb) (hcap : 8 ≤ cap) (hc2 : cap ≤ maxLen) :
    Calls Tryz.prog 139 #[.pointer (some ⟨rb, 0, none⟩), .string s] w fun e w' => e = .returned (sv (compT s.data.toList)) ∧ Fr [rb] w w' := by
  have HD := Lib.hid (do_any w rb ob cap r hR hO hne hcap hc2)
  have hm := fun w g => method_repl ⟨g, 0, none⟩ w
  clear hR hO hc2
  go_enter Tryz.func139, Tryz.ntmps139
  go_wp2_with first | (go_at_call 257; refine HS.out.mono ?_; rintro e w2 ⟨rfl, hb2⟩; have HB2 := Lib.hid hb2; clear hb2) | (go_at_call 164; refine HD.out.mono ?_; rintro e w1 ⟨rfl, ⟨g, hr, ht⟩, hf⟩; have HT := Lib.hid ht.full; have HF := Lib.hid hf; have c3 := hr.cell 3; have HS := Lib.hid (bsr_any w1 g s HT.out hs); unfold repV at *; clear hr ht hf)
  go_ret
  exact ⟨rfl, HF.out.then_below HB2.out HF.out.size⟩
end Go.Proofs.YtgfijlamhjjecaaGreatDoor


namespace Go.Proofs.YtgfijlamhjjecaaGreatDoor
def okB (c : UInt8) : Prop := 32 ≤ c.toNat ∧ c.toNat ≤ 126
def okP (p : Str) : Prop := p.length ≤ 256 ∧ ∀ c ∈ p, okB c
def okEl (e : List Str) : Prop := e ≠ [] ∧ e.length ≤ 8 ∧ ∀ p ∈ e, okP p
def okT (t : Str) : Prop := t.length = 3 ∧ ∀ c ∈ t, tagB c = true
def okS (s : Seg) : Prop := okT s.tag ∧ s.elems.length ≤ 16 ∧ ∀ e ∈ s.elems, okEl e
def okL (l : List Seg) : Prop := l.length ≤ 64 ∧ ∀ s ∈ l, okS s
theorem badB_iff (c : UInt8) : badB c = false ↔ okB c := by
  unfold badB okB; simp
theorem printE_ok {l : List Seg} : okL l → (printT l).length ≤ 65536 → printE l = (printT l, 0) := by
  intro h hl
  have h1 : argP l = false := by
    unfold argP; rw [List.any_eq_false]; intro s hs
    have := h.2 s hs
    rw [Bool.not_eq_true, Bool.or_eq_false_iff]
    refine ⟨?_, ?_⟩
    · unfold tagBad
      rw [Bool.or_eq_false_iff]
      refine ⟨by simp [this.1.1], ?_⟩
      simp only [Bool.not_eq_false', List.all_eq_true]
      exact this.1.2
    · rw [List.any_eq_false]; intro e he; have := this.2.2 e he
      cases e with
      | nil => exact absurd rfl this.1
      | cons a b => simp
  have h2 : signP l = false := by
    unfold signP; rw [List.any_eq_false]; intro s hs
    rw [Bool.not_eq_true, List.any_eq_false]; intro e he
    rw [Bool.not_eq_true, List.any_eq_false]; intro p hp
    rw [Bool.not_eq_true, List.any_eq_false]; intro c hc
    rw [Bool.not_eq_true]
    exact (badB_iff c).2 ((((h.2 s hs).2.2 e he).2.2 p hp).2 c hc)
  have h3 : longP l = false := by
    unfold longP; rw [Bool.or_eq_false_iff]; refine ⟨by have := h.1; simp; omega, ?_⟩
    rw [List.any_eq_false]; intro s hs
    rw [Bool.not_eq_true, Bool.or_eq_false_iff]; refine ⟨by have := (h.2 s hs).2.1; simp; omega, ?_⟩
    rw [List.any_eq_false]; intro e he
    rw [Bool.not_eq_true, Bool.or_eq_false_iff]; refine ⟨by have := ((h.2 s hs).2.2 e he).2.1; simp; omega, ?_⟩
    rw [List.any_eq_false]; intro p hp
    have := (((h.2 s hs).2.2 e he).2.2 p hp).1
    simp; omega
  unfold printE
  rw [h1, h2, h3]
  simp; omega
def restT (cs : List Str) : Str := cs.flatMap fun p => 58 :: compT p
theorem joinB_cons (s : UInt8) (a : Str) (l : List Str) : joinB s (a :: l) = a ++ l.flatMap (fun p => s :: p) := by
  induction l generalizing a with
  | nil => simp [joinB]
  | cons b l ih => rw [joinB, ih b]; simp
theorem elemT_cons (p : Str) (cs : List Str) : elemT (p :: cs) = compT p ++ restT cs := by
  unfold elemT restT
  rw [List.map_cons, joinB_cons, List.flatMap_map]
inductive Ends (cs : List Str) (p : Str) : List Str → Prop
  | mk : Ends cs p (cs ++ [p])
end Go.Proofs.YtgfijlamhjjecaaGreatDoor

