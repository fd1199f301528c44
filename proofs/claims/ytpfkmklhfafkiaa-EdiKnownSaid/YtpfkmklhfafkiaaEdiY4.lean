/-
  EdiY4: contracts of NewReplacer and of a Replacer's first use. No condition beyond those stated.
-/
import Derived.Test.YtpfkmklhfafkiaaEdiY3
namespace Go.Proofs.Ytpfkmklhfafkiaa
open Go.RowKit
theorem RepAt.cell {w : World} {rb : Nat} {d s : Int} {r o : Value} (h : RepAt w rb d s r o) (j : Nat) : w.cell? ⟨rb, j, none⟩ = (#[.int .u32 d, .int .i32 s, .int .u32 0, r, o] : Array Value)[j]? := cell_of_row w rb j _ _ _ h
theorem RepAt.fz {w : World} {rb : Nat} {d s : Int} {r o : Value} (h : RepAt w rb d s r o) (j : Nat) : w.frozen? ⟨rb, j, none⟩ = false := frozen_of_row w rb j _ _ h
theorem RepAt.lt {w : World} {rb : Nat} {d s : Int} {r o : Value} (h : RepAt w rb d s r o) : rb < w.heap.size := (Array.getElem?_eq_some_iff.1 h).1
theorem RepAt.set0 {w : World} {rb : Nat} {d s d' : Int} {r o : Value} (h : RepAt w rb d s r o) : RepAt (w.setCell ⟨rb, 0, none⟩ (.int .u32 d')) rb d' s r o := heap_setCell_same w rb 0 _ _ _ h
theorem RepAt.set1 {w : World} {rb : Nat} {d s s' : Int} {r o : Value} (h : RepAt w rb d s r o) : RepAt (w.setCell ⟨rb, 1, none⟩ (.int .i32 s')) rb d s' r o := heap_setCell_same w rb 1 _ _ _ h
theorem RepAt.set3 {w : World} {rb : Nat} {d s : Int} {r r' o : Value} (h : RepAt w rb d s r o) : RepAt (w.setCell ⟨rb, 3, none⟩ r') rb d s r' o := heap_setCell_same w rb 3 _ _ _ h
theorem RepAt.set4 {w : World} {rb : Nat} {d s : Int} {r o o' : Value} (h : RepAt w rb d s r o) : RepAt (w.setCell ⟨rb, 4, none⟩ o') rb d s r o' := heap_setCell_same w rb 4 _ _ _ h
theorem RepAt.cong {w w' : World} {rb : Nat} {d s : Int} {r o : Value} (h : RepAt w rb d s r o) (e : w'.heap[rb]? = w.heap[rb]?) : RepAt w' rb d s r o := e.trans h
theorem TabAt.cong {w w' : World} {B g : Nat} {D E : List UInt8} (h : TabAt w B g D E) (e : ∀ k, B ≤ k → k < w.heap.size → w'.heap[k]? = w.heap[k]?) : TabAt w' B g D E := by
  obtain ⟨C, tv, h⟩ := h; exact ⟨C, tv, h.cong e⟩
theorem OldAt.cong {w w' : World} {ob : Nat} (h : OldAt w ob) (e : w'.heap[ob]? = w.heap[ob]?) : OldAt w' ob := fun j hj => ⟨(cell_ag e).trans (h j hj).1, (cell_ag e).trans (h j hj).2⟩
def repV (g : Nat) : Value := .iface 109 (.pointer (some ⟨g, 0, none⟩))
set_option maxRecDepth 100000 in
theorem buildOnce_any (w : World) (rb ob cap : Nat) (d s : Int) (r : Value) (hR : RepAt w rb d s r (.slice (some ⟨ob, 0, none⟩) 8 cap)) (hO : OldAt w ob) (hcap : 8 ≤ cap) (hc2 : cap ≤ maxLen) :
    Calls Try.prog 34 #[.pointer (some ⟨rb, 0, none⟩)] w fun e w' => e = .returned (.tuple #[]) ∧ (∃ g, RepAt w' rb d s (repV g) (.slice none 0 0) ∧ TabAt w' w.heap.size g (DE 0) (DE 0)) ∧ Fr [rb] w w' := by
  have HB := Lib.hid (build_any w rb ob cap d s r hR hO hcap hc2)
  have HR := Lib.hid hR
  clear hR hO hc2
  go_enter Try.func34, Try.ntmps34
  go_wp2_with (go_at_call 40; refine HB.out.mono ?_; rintro e w1 ⟨g, rfl, ht, hb⟩; have HT := Lib.hid ht; have HBE := Lib.hid hb; have hR1 := HR.out.cong (hb.block rb HR.out.lt); have z3 := hR1.fz 3; have c3 := hR1.cell 3; have hR2 := hR1.set3 (r' := repV g); have z4 := hR2.fz 4; have c4 := hR2.cell 4; have HR2 := Lib.hid (hR2.set4 (o' := .slice none 0 0)); unfold repV at *; clear ht hb hR1 hR2)
  go_end0
  refine ⟨rfl, ⟨g, HR2.out, HT.out.cong (fun k h1 h2 => ?_)⟩, ?_⟩
  · have : k ≠ rb := by have := HR.out.lt; omega
    rw [heap_setCell_other _ _ _ _ this, heap_setCell_other _ _ _ _ this]
  · exact ((Below.fr HBE.out (Nat.le_refl _) [rb]).trans (Fr.setCell _ (by simp) _)).trans (Fr.setCell _ (by simp) _)
set_option maxRecDepth 100000 in
set_option maxHeartbeats 1600000 in
theorem doSlow_any (w : World) (rb ob cap : Nat) (r : Value) (hR : RepAt w rb 0 0 r (.slice (some ⟨ob, 0, none⟩) 8 cap)) (hO : OldAt w ob) (hne : ob ≠ rb) (hcap : 8 ≤ cap) (hc2 : cap ≤ maxLen) :
    Calls Try.prog 39 #[.pointer (some ⟨rb, 0, none⟩), .func (.func 34) #[.pointer (some ⟨rb, 0, none⟩)] #[]] w fun e w' => e = .returned (.tuple #[]) ∧ (∃ g, RepAt w' rb 1 0 (repV g) (.slice none 0 0) ∧ TabAt w' w.heap.size g (DE 0) (DE 0)) ∧ Fr [rb] w w' := by
  have c1 := hR.cell 1
  have z1 := hR.fz 1
  have hrb := hR.lt
  have hR1 := hR.set1 (s' := 1)
  have hO1 : OldAt (w.setCell ⟨rb, 1, none⟩ (.int .i32 1)) ob := hO.cong (heap_setCell_other _ _ _ _ hne)
  have HB := Lib.hid (buildOnce_any _ rb ob cap 0 1 r hR1 hO1 hcap hc2)
  have HA := Lib.hid (aload ⟨rb, 0, none⟩ 0 (w.setCell ⟨rb, 1, none⟩ (.int .i32 1)) (hR1.cell 0))
  have HL := Lib.hid (lock_free ⟨rb, 1, none⟩ w c1 z1)
  have hnot : ∀ (x : Bool) (w : World), (Op.unary .not (.bool x)).run Try.prog w = .ok (.bool (!x)) w := fun _ _ => rfl
  clear hR hO hR1 hO1 hc2 c1 z1
  go_enter_defers Try.func39, Try.ntmps39
  go_wp2_with first
    | (go_at_call 46; refine HL.out.mono ?_; rintro e w' ⟨rfl, rfl⟩)
    | (go_at_call 38; refine HA.out.mono ?_; rintro e w' ⟨rfl, rfl⟩)
    | (go_at_call 34; refine HB.out.mono ?_; rintro e w2 ⟨rfl, ⟨g, hr, ht⟩, hf⟩; have HR2 := Lib.hid hr; have HT := Lib.hid ht; have HF := Lib.hid hf; clear hr ht hf)
  have hrs0 := (HR2.out.cong (w' := w2.drew) rfl).set0 (d' := 1)
  have c0 := HR2.out.cell 0
  have z0 := HR2.out.fz 0
  have c1 := hrs0.cell 1
  have z1 := hrs0.fz 1
  refine leaves_cons (f := 48) (args := #[.pointer (some ⟨rb, 0, none⟩), .bool true]) (by simp) (by simp [go_sem]) ?_
  refine (store_deferred ⟨rb, 0, none⟩ (.int .u32 0) .returning _ c0 z0).mono ?_
  rintro e u' w'' ⟨rfl, rfl, rfl⟩
  refine leaves_cons (f := 47) (args := #[.pointer (some ⟨rb, 1, none⟩)]) (by simp [settle]) (by simp [go_sem]) ?_
  refine (unlock_deferred ⟨rb, 1, none⟩ _ _ c1 z1).mono ?_
  rintro e u' w'' ⟨rfl, rfl, rfl⟩
  have hfin := hrs0.set1 (s' := 0)
  have hT := HT.out
  rw [World.size_setCell] at hT
  have hTT : TabAt (((w2.drew.setCell ⟨rb, 0, none⟩ (.int .u32 1))).setCell ⟨rb, 1, none⟩ (.int .i32 0)) w.heap.size g (DE 0) (DE 0) := hT.cong (fun k h1 h2 => by
    have hk : k ≠ rb := by omega
    exact (heap_setCell_other _ _ _ _ hk).trans (heap_setCell_other _ _ _ _ hk))
  have hFF : Fr [rb] w (((w2.drew.setCell ⟨rb, 0, none⟩ (.int .u32 1))).setCell ⟨rb, 1, none⟩ (.int .i32 0)) := ((((Fr.setCell w (a := ⟨rb, 1, none⟩) (F := [rb]) (by simp) _).trans HF.out).trans (Fr.drew _ _)).trans (Fr.setCell _ (by simp) _)).trans (Fr.setCell _ (by simp) _)
  simp [Leaves, settle, results, Try.results39]
  exact ⟨⟨g, hfin, hTT⟩, hFF⟩
set_option maxRecDepth 100000 in
theorem do_any (w : World) (rb ob cap : Nat) (r : Value) (hR : RepAt w rb 0 0 r (.slice (some ⟨ob, 0, none⟩) 8 cap)) (hO : OldAt w ob) (hne : ob ≠ rb) (hcap : 8 ≤ cap) (hc2 : cap ≤ maxLen) :
    Calls Try.prog 33 #[.pointer (some ⟨rb, 0, none⟩), .func (.func 34) #[.pointer (some ⟨rb, 0, none⟩)] #[]] w fun e w' => e = .returned (.tuple #[]) ∧ (∃ g, RepAt w' rb 1 0 (repV g) (.slice none 0 0) ∧ TabAt w' w.heap.size g (DE 0) (DE 0)) ∧ Fr [rb] w w' := by
  have HA := Lib.hid (aload ⟨rb, 0, none⟩ 0 w (hR.cell 0))
  have HS := Lib.hid (doSlow_any w rb ob cap r hR hO hne hcap hc2)
  have hnot : ∀ (x : Bool) (w : World), (Op.unary .not (.bool x)).run Try.prog w = .ok (.bool (!x)) w := fun _ _ => rfl
  clear hR hO hc2
  go_enter Try.func33, Try.ntmps33
  go_wp2_with first
    | (go_at_call 38; refine HA.out.mono ?_; rintro e w' ⟨rfl, rfl⟩)
    | (go_at_call 39; refine HS.out.mono ?_; rintro e w2 ⟨rfl, hr, hf⟩; have HR2 := Lib.hid hr; have HF := Lib.hid hf; clear hr hf)
  go_end0
  exact ⟨rfl, HR2.out, HF.out⟩
/-- the eight strings that NewReplacer is given -/
def oldL : List Value := [sv [43], sv [63, 43], sv [58], sv [63, 58], sv [39], sv [63, 39], sv [63], sv [63, 63]]
set_option maxRecDepth 100000 in
theorem newRepl_any (w : World) (ab : Nat) (ha : w.heap[ab]? = some (.cells oldL.toArray 9 (0, 0))) :
    Calls Try.prog 23 #[.slice (some ⟨ab, 0, none⟩) 8 8] w fun e w' => ∃ rb ob cap, e = .returned (.pointer (some ⟨rb, 0, none⟩)) ∧ RepAt w' rb 0 0 .nilIface (.slice (some ⟨ob, 0, none⟩) 8 cap) ∧ OldAt w' ob ∧ ob ≠ rb ∧ 8 ≤ cap ∧ cap ≤ maxLen ∧ w.heap.size ≤ rb ∧ Below w.heap.size w w' := by
  obtain ⟨i0, hi, hz0, hz1, hz2⟩ := info_parts einfo_str
  have HI := Lib.hid hi
  have HZ0 := Lib.hid hz0
  have HZ1 := Lib.hid hz1
  have HZ2 := Lib.hid hz2
  have HA := Lib.hid (show ∀ j v, oldL[j]? = some v → w.cell? ((⟨ab, 0, none⟩ : Addr).add j) = some v from fun j v hv => by
    rw [Addr.add_mid, Nat.zero_add, cell_of_row w ab j _ _ _ ha, List.getElem?_toArray]; exact hv)
  have HO := Lib.hid (show ∀ v ∈ oldL, v.oneCell' = true from fun v hv => by simp only [oldL, List.mem_cons, List.not_mem_nil, or_false] at hv; rcases hv with rfl | rfl | rfl | rfl | rfl | rfl | rfl | rfl <;> rfl)
  clear hi hz0 hz1 hz2 ha
  go_enter Try.func23, Try.ntmps23
  go_wp2_with ((with_reducible refine wpList_at (.call { callee := .builtin .append, args := #[.const (.slice none 0 0), .tmp 8], argTypes := #[38, 38] }) rfl ?_); go_loud (refine wpList_append_own_at _ rfl _ _ 38 rfl w.heap.size 9 i0 (.string ⟨#[]⟩) 1 16 Try.underlying38 HI.out HZ0.out HZ1.out HZ2.out rfl (by decide) _ _ _ rfl (World.ownsRow_nil _ _ _ _) ⟨ab, 0, none⟩ 8 8 oldL rfl rfl HA.out HO.out (by unfold maxLen; omega) (by omega) (Nat.le_refl _) ?_); intro v w1 ho hg _ hk; have HOW := Lib.hid ho; have HG := Lib.hid hg; obtain ⟨ob, cap, cur, rfl, hob, hcells, hcp1, hcp2, _⟩ := own_form ho (by omega) (by omega); have HCE := Lib.hid hcells; have HC2 := Lib.hid hcp2; clear ho hg hk hcells hcp2)
  go_ret
  have hlt : ob < w1.heap.size := (Array.getElem?_eq_some_iff.1 HCE.out).1
  have hbel : Below w.heap.size w w1 := (Below.refl _ w).grown HG.out (Nat.le_refl _) (fun k hk => by simp [Act.eval, Value.ownBlock] at hk)
  refine ⟨w1.heap.size, ob, cap, rfl, heap_alloc_new _ _, fun j hj => ?_, by omega, by omega, HC2.out, hbel.size, hbel.alloc hbel.size _⟩
  have hc : ∀ i x, oldL[i]? = some x → (w1.alloc (.cells #[.int .u32 0, .int .i32 0, .int .u32 0, .nilIface, .slice (some ⟨ob, 0, none⟩) 8 cap] 84)).cell? ⟨ob, i, none⟩ = some x := fun i x hx => (cell_ag (Below.heap_alloc _ _ _ hlt)).trans (own_cell HOW.out hx)
  match j, hj with
  | 0, _ => exact ⟨hc 0 _ rfl, hc 1 _ rfl⟩
  | 1, _ => exact ⟨hc 2 _ rfl, hc 3 _ rfl⟩
  | 2, _ => exact ⟨hc 4 _ rfl, hc 5 _ rfl⟩
  | 3, _ => exact ⟨hc 6 _ rfl, hc 7 _ rfl⟩
end Go.Proofs.Ytpfkmklhfafkiaa
