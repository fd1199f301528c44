/-
  Texts SealH, SealI, SealJ, MsgQ5, SealK, MsgQ1, MsgQ3, SealX, SealNilV, SealBackV, SealZ, SealY, SealN, one behind the other. No condition beyond those stated in each.
-/
import Derived.Test.YtgfijlamhjjecaaGreatDoorMv15
import Derived.Test.YtgfijlamhjjecaaGreatDoorMv13
import Derived.Deep.CutBlock
import Derived.Test.YtgfijlamhjjecaaGreatDoorMv7
import Derived.Test.YtgfijlamhjjecaaGreatDoorMv6
import Derived.Lib.SmallJoins
import Derived.OpenShut
import Derived.DataShut
import Derived.Test.YtgfijlamhjjecaaGreatDoorRows
import Derived.Test.YtgfijlamhjjecaaGreatDoorMv8
import Derived.LaidMore
import Derived.Stop.LaidErr
import Derived.ChangeSlices
namespace Go.Proofs.YtgfijlamhjjecaaGreatDoor
open Go.RowKit
def someR (M : List (List Str)) (to_ : Nat) (text d : Str) (k : Nat) : Bool := (List.range k).any fun i => rightM M i to_ text d
theorem someR_more (M : List (List Str)) (to_ : Nat) (text d : Str) (k : Nat) : someR M to_ text d (k + 1) = (rightM M k to_ text d || someR M to_ text d k) := by
 unfold someR
 rw [List.range_succ, List.any_append, Bool.or_comm]
 simp
def cutT (bs : Str) : Str := bs.take (bs.length - 32)
def cutD (bs : Str) : Str := bs.drop (bs.length - 32)
theorem cutT_len {bs : Str} {n c : Nat} (h : bs.length = n) (hc : n - 32 = c) : (cutT bs).length = c := by unfold cutT; rw [List.length_take]; omega
def openM (M : List (List Str)) (to_ : Nat) (bs : Str) : PD × Int :=
 if M.length ≤ to_ then (pd0, 1) else if bs.length < 32 then (pd0, 110) else
 if someR M to_ (cutT bs) (cutD bs) M.length = false then (pd0, 110) else
 if (parseTM (cutT bs)).2 ≠ 0 then (pd0, (parseTM (cutT bs)).2) else
 if (parseTM (cutT bs)).1.dst ≠ to_ ∨ rightM M (parseTM (cutT bs)).1.fr to_ (cutT bs) (cutD bs) = false then (pd0, 101) else ((parseTM (cutT bs)).1, 0)
def OpenQ (r : PD × Int) (w : World) (e : Ending) (w' : World) : Prop := e = .returned (.tuple #[.agg (pktA r.1).toArray, .int .i64 r.2]) ∧ Below w.heap.size w w'
theorem OpenQ.no {r : PD × Int} {k : Int} {w w' : World} (h : r = (pd0, k)) (hb : Below w.heap.size w w') : OpenQ r w (.returned (.tuple #[.agg pkz.toArray, .int .i64 k])) w' := ⟨by rw [h]; rfl, hb⟩
theorem open_memA (w u1 u2 u3 u4 : World) (E : Nat) (hE : w.heap.size = E) (tv : Value) (cs : List Value) (hcl : cs.length = 32)
  (h1 : w.alloc (.cells #[.slice none 0 0] 72) = u1) (h2 : u1.alloc (.cells (pad32 []).toArray 78) = u2) (h3 : u2.setCell ⟨E, 0, none⟩ tv = u3) (h4 : u3.setCells (E + 1) 0 cs = u4) :
  Below E w u4 ∧ u4.cell? ⟨E, 0, none⟩ = some tv ∧ u4.heap[E + 1]? = some (.cells cs.toArray 78 (0, 0)) := by
 have z1 : u1.heap.size = E + 1 := by rw [← h1]; simp [hE]
 have e1 : u1.heap[E]? = some (.cells #[.slice none 0 0] 72 (0, 0)) := by rw [← h1, ← hE]; exact heap_alloc_new w _
 have e2 : u2.heap[E]? = some (.cells #[.slice none 0 0] 72 (0, 0)) := by rw [← h2]; exact (Below.heap_alloc _ _ _ (by rw [z1]; omega)).trans e1
 have d2 : u2.heap[E + 1]? = some (.cells (pad32 []).toArray 78 (0, 0)) := by rw [← h2, ← z1]; exact heap_alloc_new _ _
 have e3 : u3.heap[E]? = some (.cells #[tv] 72 (0, 0)) := by rw [← h3]; exact heap_setCell_same _ E 0 _ _ _ e2
 have d3 : u3.heap[E + 1]? = some (.cells (pad32 []).toArray 78 (0, 0)) := by rw [← h3]; exact (heap_setCell_other _ _ _ _ (by simp)).trans d2
 refine ⟨?_, ?_, ?_⟩
 · rw [← h4]
   refine putL_below (by omega) _ _ _ ?_
   rw [← h3]
   refine Below.setCell ?_ (by show E ≤ E; exact Nat.le_refl _) _
   rw [← h2]
   refine Below.alloc ?_ (by rw [z1]; omega) _
   rw [← h1]
   exact (Below.refl E w).alloc (by show E ≤ w.heap.size; omega) _
 · have e4 : u4.heap[E]? = u3.heap[E]? := by rw [← h4]; exact putL_other _ (by omega) _ _ _
   exact cell_of_row u4 E 0 _ _ _ (e4.trans e3)
 · rw [← h4]; exact putL_heap (cs := pad32 []) d3 cs (by rw [hcl]; rfl)
theorem open_memB (w u1 u2 u3 u4 : World) (E : Nat) (hE : w.heap.size = E) (tv : Value) (cs : List Value) (hcl : cs.length = 32)
  (h1 : w.alloc (.cells (pad32 []).toArray 78) = u1) (h2 : u1.alloc (.cells #[.slice none 0 0] 72) = u2) (h3 : u2.setCell ⟨E + 1, 0, none⟩ tv = u3) (h4 : u3.setCells E 0 cs = u4) :
  Below E w u4 ∧ u4.cell? ⟨E + 1, 0, none⟩ = some tv ∧ u4.heap[E]? = some (.cells cs.toArray 78 (0, 0)) := by
 have z1 : u1.heap.size = E + 1 := by rw [← h1]; simp [hE]
 have e1 : u1.heap[E]? = some (.cells (pad32 []).toArray 78 (0, 0)) := by rw [← h1, ← hE]; exact heap_alloc_new w _
 have e2 : u2.heap[E]? = some (.cells (pad32 []).toArray 78 (0, 0)) := by rw [← h2]; exact (Below.heap_alloc _ _ _ (by rw [z1]; omega)).trans e1
 have d2 : u2.heap[E + 1]? = some (.cells #[.slice none 0 0] 72 (0, 0)) := by rw [← h2, ← z1]; exact heap_alloc_new _ _
 have d3 : u3.heap[E + 1]? = some (.cells #[tv] 72 (0, 0)) := by rw [← h3]; exact heap_setCell_same _ (E + 1) 0 _ _ _ d2
 have e3 : u3.heap[E]? = some (.cells (pad32 []).toArray 78 (0, 0)) := by rw [← h3]; exact (heap_setCell_other _ _ _ _ (by simp)).trans e2
 refine ⟨?_, ?_, ?_⟩
 · rw [← h4]
   refine putL_below (Nat.le_refl _) _ _ _ ?_
   rw [← h3]
   refine Below.setCell ?_ (by show E ≤ E + 1; omega) _
   rw [← h2]
   refine Below.alloc ?_ (by rw [z1]; omega) _
   rw [← h1]
   exact (Below.refl E w).alloc (by show E ≤ w.heap.size; omega) _
 · have e4 : u4.heap[E + 1]? = u3.heap[E + 1]? := by rw [← h4]; exact putL_other _ (by omega) _ _ _
   exact cell_of_row u4 (E + 1) 0 _ _ _ (e4.trans d3)
 · rw [← h4]; exact putL_heap (cs := pad32 []) e3 cs (by rw [hcl]; rfl)
set_option maxRecDepth 100000 in
set_option maxHeartbeats 16000000 in
theorem gopen_any {T : Nat → Prop} (B rb : Nat) (M : List (List Str)) (hn8 : M.length ≤ 8) (to_ : Nat) (hto : to_ < 256) (bs : Str) (src : Value) (w : World) (h : RingAt w B rb M) (hs : RowAt T w src (bs.map bv)) (hT : ∀ k, T k → k < w.heap.size) (hv : VarsOk w) (hK : VarsK w) (hM : ∀ i k, (keyAt M i k).length ≤ 17592186044416) (hbl : bs.length ≤ 1048576) :
  Calls Tryz.prog 36 #[.pointer (some ⟨rb, 0, none⟩), .int .u8 (to_ : Int), src] w fun e w' => OpenQ (openM M to_ bs) w e w' := by
 obtain ⟨C, hC⟩ : ∃ C, w.heap.size = C := ⟨_, rfl⟩
 have HCQ := Lib.hid hC
 obtain ⟨bo, bc, rfl, b1, b2⟩ := hs.form
 rw [List.length_map] at b1 hs ⊢
 unfold maxLen at b2
 obtain ⟨bl, hbln⟩ : ∃ n, bs.length = n := ⟨_, rfl⟩
 rw [hbln] at b1 hs hbl ⊢
 obtain ⟨n, hn⟩ : ∃ n, M.length = n := ⟨_, rfl⟩
 rw [hn] at hn8
 have HN := Lib.hid hn
 have HBL := Lib.hid hbln
 obtain ⟨w1, hw1⟩ : ∃ u, w.alloc (.cells #[.pointer (some ⟨rb, 0, none⟩)] 66) = u := ⟨_, rfl⟩
 obtain ⟨w2, hw2⟩ : ∃ u, w1.alloc (.cells #[.int .u8 (to_ : Int)] 5) = u := ⟨_, rfl⟩
 obtain ⟨w3, hw3⟩ : ∃ u, w2.alloc (.cells pkz.toArray 38) = u := ⟨_, rfl⟩
 have z1 : w1.heap.size = C + 1 := by rw [← hw1]; simp [hC]
 have z2 : w2.heap.size = C + 2 := by rw [← hw2]; simp [z1]
 have z3 : w3.heap.size = C + 3 := by rw [← hw3]; simp [z2]
 have HB3 : Hid (Below C w w3) := Lib.hid (by
  rw [← hw3, ← hw2, ← hw1, ← hC]
  exact (((Below.refl _ w).alloc (Nat.le_refl _) _).alloc (by simp) _).alloc (by simp; omega) _)
 have HR3 : Hid (w3.heap[C]? = some (.cells #[.pointer (some ⟨rb, 0, none⟩)] 66 (0, 0)) ∧ w3.heap[C + 1]? = some (.cells #[.int .u8 (to_ : Int)] 5 (0, 0)) ∧ w3.heap[C + 2]? = some (.cells pkz.toArray 38 (0, 0))) := Lib.hid (by
  refine ⟨?_, ?_, ?_⟩
  · rw [← hw3]
    refine (Below.heap_alloc _ _ _ (by rw [z2]; omega)).trans ?_
    rw [← hw2]
    refine (Below.heap_alloc _ _ _ (by rw [z1]; omega)).trans ?_
    rw [← hw1, ← hC]; exact heap_alloc_new _ _
  · rw [← hw3]
    refine (Below.heap_alloc _ _ _ (by rw [z2]; omega)).trans ?_
    rw [← hw2, ← z1]; exact heap_alloc_new _ _
  · rw [← hw3, ← z2]; exact heap_alloc_new _ _)
 have HZ3 := Lib.hid z3
 have HG3 : Hid (RingAt w3 B rb M) := Lib.hid (h.on (by rw [hC]; exact HB3.out))
 have HS3 : Hid (RowAt T w3 (.slice bo bl bc) (bs.map bv)) := Lib.hid (hs.any hT (by rw [hC]; exact HB3.out))
 have HT : Hid (∀ k, T k → k < C) := Lib.hid (by rw [← hC]; exact hT)
 have HV3 : Hid (VarsOk w3) := Lib.hid (hv.on HB3.out (by rw [hC]; exact Nat.le_refl _))
 have HK3 : Hid (VarsK w3) := Lib.hid (hK.on (by rw [hC]; exact HB3.out))
 have HLM := Lib.hid hM
 have HW1 := Lib.hid hw1
 have HW2 := Lib.hid hw2
 have HW3 := Lib.hid hw3
 have HBB : Hid (C ≤ C + 2) := Lib.hid (by omega)
 clear hC hbln hn z1 z2 z3 hw1 hw2 hw3 h hs hT hv hK hM
 have c0 : w3.cell? ⟨C, 0, none⟩ = some (.pointer (some ⟨rb, 0, none⟩)) := cell_of_row w3 C 0 _ _ _ HR3.out.1
 go_enter Tryz.func36, Tryz.ntmps36
 go_upto_region 1 with fail
 rw [HW1.out, HW2.out, HW3.out, HCQ.out, show C + 1 + 1 = C + 2 from rfl]
 have hmt : Hid (∀ u : World, u.heap = w3.heap → u.cell? ⟨C, 0, none⟩ = some (.pointer (some ⟨rb, 0, none⟩)) ∧ u.cell? ⟨C + 1, 0, none⟩ = some (.int .u8 (to_ : Int)) ∧ u.cell? ⟨rb, 0, none⟩ = some (.int .i64 (n : Int))) := Lib.hid (fun u hu => by
  obtain ⟨mb, d0, d1, _⟩ := HG3.out.look
  rw [HN.out] at d0
  exact ⟨(World.cell?_of_block (a := ⟨C, 0, none⟩) (by rw [hu])).trans (cell_of_row w3 C 0 _ _ _ HR3.out.1), (World.cell?_of_block (a := ⟨C + 1, 0, none⟩) (by rw [hu])).trans (cell_of_row w3 (C + 1) 0 _ _ _ HR3.out.2.1), (World.cell?_of_block (a := ⟨rb, 0, none⟩) (by rw [hu])).trans d0⟩)
 have HMT := hmt
 clear hmt
 have gw8 : IntKind.i64.wrap (to_ : Int) = (to_ : Int) := IntWalk.i64_in _ (by omega)
 go_upto_region 3 with fail
 refine wp_region_plan [(0, false), (1, false), (2, false), (3, false), (4, false), (5, false), (6, false), (7, false)] (fun u => u.heap = w3.heap) (by kernel_rfl) (by kernel_rfl) rfl ?_
 iterate 8 (refine' plan_val rfl rfl (fun w' hS => ?_) ?_; rotate_left; (focus (obtain ⟨h0, h1, h2⟩ := HMT.out w' hS; first | (go_simp; rfl) | (go_simp; done))); simp only [Act.put, List.setIfInBounds_toArray, List.set_cons_zero, List.set_cons_succ])
 refine plan_nil ?_
 obtain ⟨w4, hw4⟩ : ∃ u, w3.drew = u := ⟨_, rfl⟩
 rw [hw4]
 have HH4 : Hid (w4.heap = w3.heap) := Lib.hid (by rw [← hw4]; rfl)
 have HB4 : Hid (Below C w w4) := Lib.hid (by rw [← hw4]; exact HB3.out.drew)
 have HR4 : Hid (w4.heap[C]? = some (.cells #[.pointer (some ⟨rb, 0, none⟩)] 66 (0, 0)) ∧ w4.heap[C + 1]? = some (.cells #[.int .u8 (to_ : Int)] 5 (0, 0)) ∧ w4.heap[C + 2]? = some (.cells pkz.toArray 38 (0, 0))) := Lib.hid (by rw [HH4.out]; exact HR3.out)
 have HU4 : Hid (Below w3.heap.size w3 w4) := Lib.hid (by rw [← hw4]; exact (Below.refl _ _).drew)
 clear hw4 c0
 by_cases hcar : n ≤ to_
 · have j0 : (n : Int) ≤ (to_ : Int) := by omega
   have HQ : Hid (openM M to_ bs = (pd0, 1)) := Lib.hid (by unfold openM; rw [if_pos (by rw [HN.out]; exact hcar)])
   clear hcar
   go_wp2_with ((with_reducible refine wpList_at (.store 38 (.tmp 6) (.tmp 28)) rfl ?_); go_loud (refine wpList_store_agg rfl _ _ _ rfl (C + 2) 0 pkz rfl rfl (there_of HR4.out.2.2 16 (by decide)) (by kernel_rfl) rfl ?_))
   refine bodyPost_ret (res_pkt rfl _ rfl rfl (putL_heap (cs := pkz) HR4.out.2.2 pkz rfl) rfl) rfl ?_
   exact OpenQ.no HQ.out (by rw [HCQ.out]; exact putL_below HBB.out _ _ _ HB4.out)
 · have j0 : ¬ (n : Int) ≤ (to_ : Int) := by omega
   by_cases hl32 : bl < 32
   · have j1 : (bl : Int) < 32 := by omega
     have HQ : Hid (openM M to_ bs = (pd0, 110)) := Lib.hid (by unfold openM; rw [if_neg (by rw [HN.out]; exact hcar), if_pos (by rw [HBL.out]; exact hl32)])
     clear hcar hl32
     go_wp2_with ((with_reducible refine wpList_at (.store 38 (.tmp 6) (.tmp 33)) rfl ?_); go_loud (refine wpList_store_agg rfl _ _ _ rfl (C + 2) 0 pkz rfl rfl (there_of HR4.out.2.2 16 (by decide)) (by kernel_rfl) rfl ?_))
     refine bodyPost_ret (res_pkt rfl _ rfl rfl (putL_heap (cs := pkz) HR4.out.2.2 pkz rfl) rfl) rfl ?_
     exact OpenQ.no HQ.out (by rw [HCQ.out]; exact putL_below HBB.out _ _ _ HB4.out)
   · have j1 : ¬ (bl : Int) < 32 := by omega
     have HQ0 : Hid (openM M to_ bs = (if someR M to_ (cutT bs) (cutD bs) M.length = false then (pd0, 110) else if (parseTM (cutT bs)).2 ≠ 0 then (pd0, (parseTM (cutT bs)).2) else
       if (parseTM (cutT bs)).1.dst ≠ to_ ∨ rightM M (parseTM (cutT bs)).1.fr to_ (cutT bs) (cutD bs) = false then (pd0, 101) else ((parseTM (cutT bs)).1, 0))) := Lib.hid (by unfold openM; rw [if_neg (by rw [HN.out]; exact hcar), if_neg (by rw [HBL.out]; exact hl32)])
     obtain ⟨cu, hcu⟩ : ∃ c, bl - 32 = c := ⟨_, rfl⟩
     have g1 : IntKind.i64.wrap ((bl : Int) - 32) = (cu : Int) := by rw [IntWalk.i64_in _ (by omega)]; omega
     have g2 : (bl : Int) - 32 = (cu : Int) := by omega
     clear hcar
     have hbq : bs.length = bl := HBL.out
     obtain ⟨gb, gof, rfl, hgb, hgc⟩ := HS3.out.get (k := 0) (x := bv (bs.getD 0 0)) (by rw [List.getElem?_map, List.getD_eq_getElem?_getD, List.getElem?_eq_getElem (by omega)]; rfl)
     have g3 : cu ≤ bl := by omega
     have g4 : cu ≤ bc := by omega
     have g5 : bl - cu = 32 := by omega
     have g6 : ¬ bc = cu := by omega
     have HX3 : Hid (RowAt T w3 (.slice (some ⟨gb, gof, none⟩) cu cu) ((cutT bs).map bv)) := Lib.hid (by
      refine ⟨_, cu, ?_, ?_, ?_, (fun e => by cases e), fun _ => ⟨gb, gof, rfl, hgb, fun i x hi => ?_⟩⟩
      · rw [List.length_map, cutT_len hbq hcu]
      · rw [List.length_map, cutT_len hbq hcu]; omega
      · unfold maxLen; omega
      · unfold cutT at hi
        rw [hbq, hcu, List.map_take, List.getElem?_take] at hi
        split at hi
        · exact (HS3.out.get hi).elim fun b h => by obtain ⟨off, e, _, hc⟩ := h; cases e; exact hc
        · cases hi)
     have HDL : Hid ((cutD bs).length = 32) := Lib.hid (by unfold cutD; rw [List.length_drop]; omega)
     have HD3 : Hid (∀ u : World, Below w4.heap.size w4 u → u.rangeAt gb (gof + cu) ((cutD bs).map bv)) := Lib.hid (by
      intro u hu j x hj
      unfold cutD at hj
      rw [hbq, hcu, List.map_drop, List.getElem?_drop] at hj
      obtain ⟨b, off, e, _, hc⟩ := HS3.out.get hj
      cases e
      have hg3 : gb < w4.heap.size := by rw [HH4.out, HZ3.out]; have := HT.out gb hgb; omega
      rw [Nat.add_assoc]
      refine (World.cell?_of_block (a := ⟨gb, gof + (cu + j), none⟩) (hu.block gb hg3)).trans ?_
      exact (World.cell?_of_block (a := ⟨gb, gof + (cu + j), none⟩) (by rw [HH4.out])).trans hc)
     have hTC : Hid (gb < C) := Lib.hid (HT.out gb hgb)
     have HTC := hTC
     obtain ⟨E, hE⟩ : ∃ E, w4.heap.size = E := ⟨_, rfl⟩
     have HEQ := Lib.hid hE
     have HEC : Hid (C ≤ E) := Lib.hid (by rw [← hE, HH4.out, HZ3.out]; omega)
     obtain ⟨cs, hcs⟩ : ∃ cs, (cutD bs).map bv = cs := ⟨_, rfl⟩
     have HCL : Hid (cs.length = 32) := Lib.hid (by rw [← hcs, List.length_map, HDL.out])
     have HCO : Hid (cs.all (·.oneCell') = true) := Lib.hid (by rw [← hcs]; exact bytes_one _)
     have HOP : Hid (∀ (u : World) (xB dB : Nat), Below E w4 u → u.cell? ⟨xB, 0, none⟩ = some (.slice (some ⟨gb, gof, none⟩) cu cu) → u.heap[dB]? = some (.cells cs.toArray 78 (0, 0)) → OpenAt u B rb C (C + 1) xB dB M to_ (cutT bs) (cutD bs)) := Lib.hid (by
      intro u xB dB hu hx hd
      have hu3 : Below w3.heap.size w3 u := HU4.out.trans (hu.mono (by rw [← hE, HH4.out]; exact Nat.le_refl _))
      refine ⟨HG3.out.on hu3, (hu3.cell (p := ⟨C, 0, none⟩) (by rw [HZ3.out]; show C < C + 3; omega)).trans (cell_of_row w3 C 0 _ _ _ HR3.out.1), (hu3.cell (p := ⟨C + 1, 0, none⟩) (by rw [HZ3.out]; show C + 1 < C + 3; omega)).trans (cell_of_row w3 (C + 1) 0 _ _ _ HR3.out.2.1), ⟨T, _, hx, HX3.out.any (fun k hk => by rw [HZ3.out]; have := HT.out k hk; omega) hu3, fun k hk => ?_⟩, by rw [hcs]; exact hd, HDL.out, HK3.out.on hu3⟩
      have h1 := hu3.size
      rw [HZ3.out] at h1
      have := HT.out k hk; omega)
     rw [hcs] at HD3
     have HCS := Lib.hid hcs
     clear hbq hgb hgc hl32 hcu hTC hcs hE
     go_upto_region 8 with fail
     rw [show decide (n ≤ to_) = false from decide_eq_false (by omega)]
     go_cut [9, 10] (fun p9 p10 wx => ∃ xB dB, p9 = .pointer (some ⟨xB, 0, none⟩) ∧ p10 = .pointer (some ⟨dB, 0, none⟩) ∧ Hid (OpenAt wx B rb C (C + 1) xB dB M to_ (cutT bs) (cutD bs)) ∧ Hid (Below C w wx) ∧ Hid (Below w4.heap.size w4 wx))
     case first =>
      refine wp_region_planT (.val 0 (.val 1 (.val 2 (.val 3 (.val 4 (.val 5 (.val 6 (.val 7 (.val 8 (.two 9 (.one 10 (.one 11 (.one 12 .nil))) 10 (.one 9 (.one 11 (.one 12 .nil))))))))))))) (fun u => Below w4.heap.size w4 u) (by kernel_rfl) (by kernel_rfl) (Below.refl _ _).drew ?_
      iterate 8 (refine' planT_val rfl rfl (fun w' hS => ?_) ?_; rotate_left; (focus (first | (go_simp; rfl) | (go_simp; done))); simp only [Act.put, List.setIfInBounds_toArray, List.set_cons_zero, List.set_cons_succ])
      (refine' planT_val rfl rfl (fun w' hS => exec_load_mid 78 _ rfl gb (gof + cu) rfl cs _ (HD3.out w' hS) Tryz.underlying78 rfl (by rw [HCL.out]; kernel_rfl)) ?_; simp only [Act.put, List.setIfInBounds_toArray, List.set_cons_zero, List.set_cons_succ])
      obtain ⟨w5, hw5⟩ : ∃ u, w4.drew = u := ⟨_, rfl⟩
      have HE5 : Hid (w5.heap.size = E) := Lib.hid (by rw [← hw5]; exact HEQ.out)
      have HB45 : Hid (Below w4.heap.size w4 w5) := Lib.hid (by rw [← hw5]; exact (Below.refl _ _).drew)
      have HB45' : Hid (Below E w4 w5) := Lib.hid (by rw [← HEQ.out]; exact HB45.out)
      rw [hw5]
      clear hw5
      refine planT_two ?_ ?_
      · refine planT_op rfl (fun K hK => ?_)
        go_wp2_with fail
        obtain ⟨u1, hu1⟩ : ∃ u, w5.alloc (.cells #[.slice none 0 0] 72) = u := ⟨_, rfl⟩
        have hE : w5.heap.size = E := HE5.out
        have z1 : u1.heap.size = E + 1 := by rw [← hu1]; simp [hE]
        have HU1 : Hid (Below w4.heap.size w4 u1) := Lib.hid (by rw [← hu1]; exact HB45.out.alloc (by rw [HE5.out, HEQ.out]; exact Nat.le_refl _) _)
        have HX1 := Lib.hid hu1
        have HZ1 := Lib.hid z1
        rw [hu1]
        try rw [hE]
        clear hE hu1 z1
        refine hK _ _ HU1.out ?_
        clear hK K
        refine planT_do rfl (fun K hK => ?_)
        go_wp2_with ((with_reducible refine wpList_at (.alloc 78) rfl ?_); go_loud (refine wpList_alloc_cells rfl _ rfl _ zero32 ?_))
        obtain ⟨u2, hu2⟩ : ∃ u, u1.alloc (.cells (pad32 []).toArray 78) = u := ⟨_, rfl⟩
        have HU2 : Hid (Below w4.heap.size w4 u2) := Lib.hid (by rw [← hu2]; exact HU1.out.alloc (by rw [HZ1.out, HEQ.out]; omega) _)
        have HX2 := Lib.hid hu2
        have hx2 : u2.heap[E]? = some (.cells #[.slice none 0 0] 72 (0, 0)) := by rw [← hu2]; exact (Below.heap_alloc _ _ _ (by rw [HZ1.out]; omega)).trans (by rw [← HX1.out, ← HE5.out]; exact heap_alloc_new w5 _)
        have hd2 : u2.heap[E + 1]? = some (.cells (pad32 []).toArray 78 (0, 0)) := by rw [← hu2, ← HZ1.out]; exact heap_alloc_new _ _
        have cx2 : u2.cell? ⟨E, 0, none⟩ = some (.slice none 0 0) := cell_of_row u2 E 0 _ _ _ hx2
        have fx2 : u2.frozen? ⟨E, 0, none⟩ = false := frozen_of_row u2 E 0 _ _ hx2
        have HD2 := Lib.hid hd2
        rw [hu2]
        try rw [HZ1.out]
        clear hu2 hx2 hd2
        refine hK _ _ HU2.out ?_
        clear hK K
        refine planT_do rfl (fun K hK => ?_)
        go_wp2_with fail
        obtain ⟨u3, hu3⟩ : ∃ u, u2.setCell ⟨E, 0, none⟩ (.slice (some ⟨gb, gof, none⟩) cu cu) = u := ⟨_, rfl⟩
        have HU3 : Hid (Below w4.heap.size w4 u3) := Lib.hid (by rw [← hu3]; exact HU2.out.setCell (by rw [HEQ.out]; show E ≤ E; omega) _)
        have HX3' := Lib.hid hu3
        have HD3' : Hid (u3.heap[E + 1]? = some (.cells (pad32 []).toArray 78 (0, 0))) := Lib.hid (by rw [← hu3]; exact (heap_setCell_other _ _ _ _ (by simp)).trans HD2.out)
        rw [hu3]
        clear hu3 cx2 fx2
        refine hK _ _ HU3.out ?_
        clear hK K
        refine planT_do rfl (fun K hK => ?_)
        go_wp2_with ((with_reducible refine wpList_at (.store 78 (.tmp 10) (.tmp 45)) rfl ?_); go_loud (refine wpList_store_agg rfl _ _ _ rfl (E + 1) 0 cs rfl rfl (by rw [HCL.out]; exact there_of HD3'.out 32 (by decide)) (by rw [HCL.out]; kernel_rfl) HCO.out ?_))
        obtain ⟨u4, hu4⟩ : ∃ u, u3.setCells (E + 1) 0 cs = u := ⟨_, rfl⟩
        obtain ⟨r1, r2, r3⟩ := open_memA w5 u1 u2 u3 u4 E HE5.out _ cs HCL.out HX1.out HX2.out HX3'.out hu4
        rw [hu4]
        have r0 : Below E w4 u4 := HB45'.out.trans r1
        refine hK _ _ (by rw [HEQ.out]; exact r0) ?_
        clear hK K
        refine planT_nil ?_
        simp only [Act.put]
        go_wp2_with fail
        go_meet
        exact ⟨E, E + 1, rfl, rfl, Lib.hid (HOP.out u4 _ _ r0 r2 r3), Lib.hid (HB4.out.trans (r0.mono HEC.out)), Lib.hid (by rw [HEQ.out]; exact r0)⟩
      · refine planT_op rfl (fun K hK => ?_)
        go_wp2_with ((with_reducible refine wpList_at (.alloc 78) rfl ?_); go_loud (refine wpList_alloc_cells rfl _ rfl _ zero32 ?_))
        obtain ⟨u1, hu1⟩ : ∃ u, w5.alloc (.cells (pad32 []).toArray 78) = u := ⟨_, rfl⟩
        have hE : w5.heap.size = E := HE5.out
        have z1 : u1.heap.size = E + 1 := by rw [← hu1]; simp [hE]
        have HU1 : Hid (Below w4.heap.size w4 u1) := Lib.hid (by rw [← hu1]; exact HB45.out.alloc (by rw [HE5.out, HEQ.out]; exact Nat.le_refl _) _)
        have HX1 := Lib.hid hu1
        have HZ1 := Lib.hid z1
        rw [hu1]
        try rw [hE]
        clear hE hu1 z1
        refine hK _ _ HU1.out ?_
        clear hK K
        refine planT_do rfl (fun K hK => ?_)
        go_wp2_with fail
        obtain ⟨u2, hu2⟩ : ∃ u, u1.alloc (.cells #[.slice none 0 0] 72) = u := ⟨_, rfl⟩
        have HU2 : Hid (Below w4.heap.size w4 u2) := Lib.hid (by rw [← hu2]; exact HU1.out.alloc (by rw [HZ1.out, HEQ.out]; omega) _)
        have HX2 := Lib.hid hu2
        have hx2 : u2.heap[E + 1]? = some (.cells #[.slice none 0 0] 72 (0, 0)) := by rw [← hu2, ← HZ1.out]; exact heap_alloc_new _ _
        have hd2 : u2.heap[E]? = some (.cells (pad32 []).toArray 78 (0, 0)) := by rw [← hu2]; exact (Below.heap_alloc _ _ _ (by rw [HZ1.out]; omega)).trans (by rw [← HX1.out, ← HE5.out]; exact heap_alloc_new w5 _)
        have cx2 : u2.cell? ⟨E + 1, 0, none⟩ = some (.slice none 0 0) := cell_of_row u2 (E + 1) 0 _ _ _ hx2
        have fx2 : u2.frozen? ⟨E + 1, 0, none⟩ = false := frozen_of_row u2 (E + 1) 0 _ _ hx2
        have HD2 := Lib.hid hd2
        rw [hu2]
        try rw [HZ1.out]
        clear hu2 hx2 hd2
        refine hK _ _ HU2.out ?_
        clear hK K
        refine planT_do rfl (fun K hK => ?_)
        go_wp2_with fail
        obtain ⟨u3, hu3⟩ : ∃ u, u2.setCell ⟨E + 1, 0, none⟩ (.slice (some ⟨gb, gof, none⟩) cu cu) = u := ⟨_, rfl⟩
        have HU3 : Hid (Below w4.heap.size w4 u3) := Lib.hid (by rw [← hu3]; exact HU2.out.setCell (by rw [HEQ.out]; show E ≤ E + 1; omega) _)
        have HX3' := Lib.hid hu3
        have HD3' : Hid (u3.heap[E]? = some (.cells (pad32 []).toArray 78 (0, 0))) := Lib.hid (by rw [← hu3]; exact (heap_setCell_other _ _ _ _ (by simp)).trans HD2.out)
        rw [hu3]
        clear hu3 cx2 fx2
        refine hK _ _ HU3.out ?_
        clear hK K
        refine planT_do rfl (fun K hK => ?_)
        go_wp2_with ((with_reducible refine wpList_at (.store 78 (.tmp 10) (.tmp 45)) rfl ?_); go_loud (refine wpList_store_agg rfl _ _ _ rfl E 0 cs rfl rfl (by rw [HCL.out]; exact there_of HD3'.out 32 (by decide)) (by rw [HCL.out]; kernel_rfl) HCO.out ?_))
        obtain ⟨u4, hu4⟩ : ∃ u, u3.setCells E 0 cs = u := ⟨_, rfl⟩
        obtain ⟨r1, r2, r3⟩ := open_memB w5 u1 u2 u3 u4 E HE5.out _ cs HCL.out HX1.out HX2.out HX3'.out hu4
        rw [hu4]
        have r0 : Below E w4 u4 := HB45'.out.trans r1
        refine hK _ _ (by rw [HEQ.out]; exact r0) ?_
        clear hK K
        refine planT_nil ?_
        simp only [Act.put]
        go_wp2_with fail
        go_meet
        exact ⟨E + 1, E, rfl, rfl, Lib.hid (HOP.out u4 _ _ r0 r2 r3), Lib.hid (HB4.out.trans (r0.mono HEC.out)), Lib.hid (by rw [HEQ.out]; exact r0)⟩
     case rest =>
      obtain ⟨xB, dB, rfl, rfl, HO, HB5, HU5⟩ := hcut
      have HRZ : Hid (∀ u : World, Below wc.heap.size wc u → u.heap[C + 2]? = some (.cells pkz.toArray 38 (0, 0))) := Lib.hid (by
       intro u hu
       have hz4 : C + 2 < w4.heap.size := by rw [HH4.out, HZ3.out]; omega
       exact (hu.block _ (Nat.lt_of_lt_of_le hz4 HU5.out.size)).trans ((HU5.out.block _ hz4).trans HR4.out.2.2))
      have HCW : Hid (C ≤ wc.heap.size) := Lib.hid (Nat.le_trans (by rw [HH4.out, HZ3.out]; omega) HU5.out.size)
      have HVC : Hid (VarsOk wc) := Lib.hid (HV3.out.on (HU4.out.trans (HU5.out.mono (by rw [HH4.out]; exact Nat.le_refl _))) (Nat.le_refl _))
      obtain ⟨X, hX⟩ : ∃ t, cutT bs = t := ⟨_, rfl⟩
      obtain ⟨D, hD⟩ : ∃ t, cutD bs = t := ⟨_, rfl⟩
      have hXl : X.length ≤ 17592186044416 := by rw [← hX, cutT_len HBL.out rfl]; omega
      rw [hX, hD] at HO
      rw [hX, hD, HN.out] at HQ0
      have HXL := Lib.hid hXl
      have c0 := HO.out.r
      have d0 : wc.cell? ⟨rb, 0, none⟩ = some (.int .i64 (n : Int)) := by obtain ⟨_, h, _⟩ := HO.out.ring.look; rw [HN.out] at h; exact h
      clear hX hD hXl j0 j1
      go_wp2_with fail
      go_loopw [12, 51] (fun sv kv wr => ∃ k : Nat, k ≤ n ∧ kv = .int .i64 (k : Int) ∧ sv = .bool (someR M to_ X D k) ∧ Hid (Below wc.heap.size wc wr)) (fun _ kv _ => n - (intOf kv).toNat)
      case atStart => exact ⟨0, Nat.zero_le _, rfl, rfl, Lib.hid (Below.refl _ _)⟩
      case round =>
       obtain ⟨k, hk, rfl, rfl, HBR⟩ := hrel
       obtain ⟨sb, hsb⟩ : ∃ b, someR M to_ X D k = b := ⟨_, rfl⟩
       rw [hsb]
       have HSB := Lib.hid hsb
       clear hsb
       by_cases hlt : k < n
       · have b3 : (0 : Int) ≤ k := by omega
         have b4 : (k : Int) < n := by omega
         have b5 : IntKind.u8.wrap (k : Int) = (k : Int) := IntWalk.u8_in _ (by omega)
         have HRC := Lib.hid (right_any B rb C (C + 1) xB dB M k to_ X D wr (HO.out.on HBR.out) HLM.out HXL.out)
         obtain ⟨rv, hrv⟩ : ∃ b, rightM M k to_ X D = b := ⟨_, rfl⟩
         rw [hrv] at HRC
         have HSN : Hid (someR M to_ X D (k + 1) = (rv || sb)) := Lib.hid (by rw [someR_more, hrv, HSB.out])
         clear hrv
         cases rv
         all_goals
          go_wp2_with (go_at_call 66; go_loud (refine HRC.out.mono ?_); rintro e wn ⟨rfl, hb⟩; have HB6 := Lib.hid (HBR.out.trans (hb.mono HBR.out.size)); clear hb)
          go_roundw
          case rel => exact ⟨k + 1, by omega, by go_num, by rw [HSN.out]; rfl, HB6⟩
          case measure => simp [intOf]; omega
       · obtain rfl : k = n := by omega
         have hkk : ¬ (k : Int) < (k : Int) := by omega
         cases sb with
         | false =>
           have HQ : Hid (openM M to_ bs = (pd0, 110)) := Lib.hid (by rw [HQ0.out, if_pos HSB.out])
           have HZR : Hid (wr.heap[C + 2]? = some (.cells pkz.toArray 38 (0, 0))) := Lib.hid (HRZ.out wr HBR.out)
           have HBW : Hid (Below C w wr) := Lib.hid (HB5.out.trans (HBR.out.mono HCW.out))
           go_wp2_with ((with_reducible refine wpList_at (.store 38 (.tmp 6) (.tmp 64)) rfl ?_); go_loud (refine wpList_store_agg rfl _ _ _ rfl (C + 2) 0 pkz rfl rfl (there_of HZR.out 16 (by decide)) (by kernel_rfl) rfl ?_))
           refine bodyPost_ret (res_pkt rfl _ rfl rfl (putL_heap (cs := pkz) HZR.out pkz rfl) rfl) rfl ?_
           exact OpenQ.no HQ.out (by rw [HCQ.out]; exact putL_below HBB.out _ _ _ HBW.out)
         | true =>
           have HQ1 : Hid (openM M to_ bs = (if (parseTM X).2 ≠ 0 then (pd0, (parseTM X).2) else if (parseTM X).1.dst ≠ to_ ∨ rightM M (parseTM X).1.fr to_ X D = false then (pd0, 101) else ((parseTM X).1, 0))) := Lib.hid (by rw [HQ0.out, if_neg (by rw [HSB.out]; simp)])
           obtain ⟨S, tv, cx, hxr, _⟩ := (HO.out.on HBR.out).x
           have hcv := conv_row hxr
           have HPR := Lib.hid (mParse_any ⟨X.toArray⟩ wr (HVC.out.on HBR.out (Nat.le_refl _)))
           obtain ⟨R, hR⟩ : ∃ R, parseTM X = R := ⟨_, rfl⟩
           obtain ⟨q, qk⟩ := R
           unfold ParseMQ at HPR
           rw [show (ByteArray.mk X.toArray).data.toList = X from rfl, hR] at HPR
           rw [hR] at HQ1
           have HSZ : Hid (wc.heap.size ≤ wr.heap.size) := Lib.hid HBR.out.size
           clear hR hxr
           simp only at HPR HQ1
           go_upto_region 19 with (first | ((with_reducible refine wpList_at (.store 38 (.tmp 14) _) rfl ?_); go_loud (refine wpList_store_agg rfl _ _ _ rfl wp.heap.size 0 (pktA q) rfl rfl (there_of (heap_alloc_new wp (.cells pkz.toArray 38)) 16 (by decide)) (by kernel_rfl) rfl ?_)) | (go_at_call 23; go_loud (refine HPR.out.mono ?_); rintro e wp ⟨rfl, hb⟩; have HB7 : Hid (Below wc.heap.size wc wp) := Lib.hid (HBR.out.trans (hb.mono HBR.out.size)); clear hb))
           obtain ⟨G, hG⟩ : ∃ G, wp.heap.size = G := ⟨_, rfl⟩
           obtain ⟨w7, hw7⟩ : ∃ u, wp.alloc (.cells pkz.toArray 38) = u := ⟨_, rfl⟩
           obtain ⟨w8, hw8⟩ : ∃ u, w7.setCells G 0 (pktA q) = u := ⟨_, rfl⟩
           have hg8 : w8.heap[G]? = some (.cells (pktA q).toArray 38 (0, 0)) := by
            rw [← hw8]
            exact putL_heap (cs := pkz) (by rw [← hw7, ← hG]; exact heap_alloc_new _ _) (pktA q) rfl
           have hbg : Below wc.heap.size wc wp := HB7.out
           have HBX : Hid (Below wc.heap.size wc w8) := Lib.hid (by
            have := hbg.size
            rw [← hw8]
            refine putL_below (by rw [← hG]; exact this) _ _ _ ?_
            rw [← hw7]
            exact hbg.alloc this _)
           have hgp : Hid (G < w8.heap.size) := Lib.hid (Array.getElem?_eq_some_iff.1 hg8).1
           have HGP := hgp
           have HG8 := Lib.hid hg8
           have ct := (HO.out.on HBX.out).t
           have cf0 : w8.cell? ⟨G, 0, none⟩ = some (.int .u8 (q.fr : Int)) := (cell_of_row w8 G 0 _ _ _ hg8).trans rfl
           have cf1 : w8.cell? ⟨G, 1, none⟩ = some (.int .u8 (q.dst : Int)) := (cell_of_row w8 G 1 _ _ _ hg8).trans rfl
           rw [show (wp.alloc (.cells #[.int .u8 0, .int .u8 0, .bool false, .int .u64 0, .int .u8 0, .int .u8 0, .int .u64 0, .int .u8 0, .int .u8 0, .int .u16 0, .int .u32 0, .int .i64 0, .int .u8 0, .int .u32 0, .int .i64 0, .int .i64 0] 38)) = w7 from hw7, hG, hw8]
           clear hG hw7 hw8 hg8 hbg hgp cx hcv c0 d0
           by_cases hqk : qk = 0
           · subst hqk
             have n0 : ((0 : Int) != 0) = false := by simp
             by_cases hd : q.dst = to_
             · have n1 : ((q.dst : Int) != (to_ : Int)) = false := by rw [hd]; simp
               have HRC := Lib.hid (right_any B rb C (C + 1) xB dB M q.fr to_ X D w8 (HO.out.on HBX.out) HLM.out HXL.out)
               obtain ⟨rv, hrv⟩ : ∃ b, rightM M q.fr to_ X D = b := ⟨_, rfl⟩
               rw [hrv] at HRC
               have HQ2 : Hid (openM M to_ bs = (if rv = false then (pd0, 101) else (q, 0))) := Lib.hid (by
                rw [HQ1.out, if_neg (by simp)]
                simp only [hd, hrv, ne_eq, not_true_eq_false, false_or])
               clear hrv
               cases rv with
               | false =>
                 have HQ : Hid (openM M to_ bs = (pd0, 101)) := Lib.hid (by rw [HQ2.out, if_pos rfl])
                 go_upto_region 22 with (go_at_call 66; go_loud (refine HRC.out.mono ?_); rintro e wn ⟨rfl, hb⟩; have HBY := Lib.hid (HBX.out.trans (hb.mono HBX.out.size)); clear hb)
                 clear HBX
                 have HBX := HBY
                 have HZR : Hid (wn.heap[C + 2]? = some (.cells pkz.toArray 38 (0, 0))) := Lib.hid (HRZ.out wn HBX.out)
                 have HBW : Hid (Below C w wn) := Lib.hid (HB5.out.trans (HBX.out.mono HCW.out))
                 go_wp2_with ((with_reducible refine wpList_at (.store 38 (.tmp 6) (.tmp 88)) rfl ?_); go_loud (refine wpList_store_agg rfl _ _ _ rfl (C + 2) 0 pkz rfl rfl (there_of HZR.out 16 (by decide)) (by kernel_rfl) rfl ?_))
                 refine bodyPost_ret (res_pkt rfl _ rfl rfl (putL_heap (cs := pkz) HZR.out pkz rfl) rfl) rfl ?_
                 exact OpenQ.no HQ.out (by rw [HCQ.out]; exact putL_below HBB.out _ _ _ HBW.out)
               | true =>
                 have HQ : Hid (openM M to_ bs = (q, 0)) := Lib.hid (by rw [HQ2.out, if_neg (by simp)])
                 go_upto_region 23 with (go_at_call 66; go_loud (refine HRC.out.mono ?_); rintro e wn ⟨rfl, hb⟩; have HBY := Lib.hid (HBX.out.trans (hb.mono HBX.out.size)); have HG9 : Hid (wn.heap[G]? = some (.cells (pktA q).toArray 38 (0, 0))) := Lib.hid ((hb.block G HGP.out).trans HG8.out); clear hb)
                 have HZR : Hid (wn.heap[C + 2]? = some (.cells pkz.toArray 38 (0, 0))) := Lib.hid (HRZ.out wn HBY.out)
                 have HBW : Hid (Below C w wn) := Lib.hid (HB5.out.trans (HBY.out.mono HCW.out))
                 go_wp2_with (first | ((with_reducible refine wpList_at (.load 38 (.tmp 14)) rfl ?_); go_loud (refine wpList_load_mid rfl 38 _ rfl G 0 rfl (pktA q) _ (range_row HG9.out) Tryz.underlying38 rfl (by kernel_rfl) ?_)) | ((with_reducible refine wpList_at (.store 38 (.tmp 6) (.tmp 89)) rfl ?_); go_loud (refine wpList_store_agg rfl _ _ _ rfl (C + 2) 0 (pktA q) rfl rfl (there_of HZR.out 16 (by decide)) (by kernel_rfl) rfl ?_)))
                 refine bodyPost_ret (res_pkt rfl _ rfl rfl (putL_heap (cs := pkz) HZR.out (pktA q) rfl) rfl) rfl ?_
                 exact ⟨by rw [HQ.out]; rfl, by rw [HCQ.out]; exact putL_below HBB.out _ _ _ HBW.out⟩
             · have n1 : ((q.dst : Int) != (to_ : Int)) = true := by rw [bne_iff_ne]; omega
               have HQ : Hid (openM M to_ bs = (pd0, 101)) := Lib.hid (by rw [HQ1.out, if_neg (by simp), if_pos (.inl hd)])
               clear hd
               have HZR : Hid (w8.heap[C + 2]? = some (.cells pkz.toArray 38 (0, 0))) := Lib.hid (HRZ.out w8 HBX.out)
               have HBW : Hid (Below C w w8) := Lib.hid (HB5.out.trans (HBX.out.mono HCW.out))
               go_wp2_with ((with_reducible refine wpList_at (.store 38 (.tmp 6) (.tmp 88)) rfl ?_); go_loud (refine wpList_store_agg rfl _ _ _ rfl (C + 2) 0 pkz rfl rfl (there_of HZR.out 16 (by decide)) (by kernel_rfl) rfl ?_))
               refine bodyPost_ret (res_pkt rfl _ rfl rfl (putL_heap (cs := pkz) HZR.out pkz rfl) rfl) rfl ?_
               exact OpenQ.no HQ.out (by rw [HCQ.out]; exact putL_below HBB.out _ _ _ HBW.out)
           · have n0 : (qk != 0) = true := by rw [bne_iff_ne]; exact hqk
             have HQ : Hid (openM M to_ bs = (pd0, qk)) := Lib.hid (by rw [HQ1.out, if_pos hqk])
             have HZR : Hid (w8.heap[C + 2]? = some (.cells pkz.toArray 38 (0, 0))) := Lib.hid (HRZ.out w8 HBX.out)
             have HBW : Hid (Below C w w8) := Lib.hid (HB5.out.trans (HBX.out.mono HCW.out))
             go_wp2_with ((with_reducible refine wpList_at (.store 38 (.tmp 6) (.tmp 74)) rfl ?_); go_loud (refine wpList_store_agg rfl _ _ _ rfl (C + 2) 0 pkz rfl rfl (there_of HZR.out 16 (by decide)) (by kernel_rfl) rfl ?_))
             refine bodyPost_ret (res_pkt rfl _ rfl rfl (putL_heap (cs := pkz) HZR.out pkz rfl) rfl) rfl ?_
             exact OpenQ.no HQ.out (by rw [HCQ.out]; exact putL_below HBB.out _ _ _ HBW.out)
structure RowsO (w : World) (B : Nat) (v : Value) (l : List Str) : Prop where
 ex : ∃ ys : List Value, w.ownsRow B 72 1 v l.length ys ∧ ys.length = l.length ∧ ∀ (j : Nat) (s : Str) (y : Value), l[j]? = some s → ys[j]? = some y → OwnS w B y s
structure KeysO (w : World) (B : Nat) (v : Value) (L : List (List Str)) : Prop where
 ex : ∃ xs : List Value, w.ownsRow B 73 1 v L.length xs ∧ xs.length = L.length ∧ (∀ (i j : Nat) (x y : Value) (b : Nat), i ≠ j → xs[i]? = some x → xs[j]? = some y → x.ownBlock = some b → y.ownBlock ≠ some b) ∧ ∀ (i : Nat) (r : List Str) (x : Value), L[i]? = some r → xs[i]? = some x → RowsO w B x r
theorem RowsO.nil (w : World) (B : Nat) : RowsO w B (.slice none 0 0) [] := ⟨[], World.ownsRow_nil _ _ _ _, rfl, fun j s y h => by cases h⟩
theorem KeysO.nil (w : World) (B : Nat) : KeysO w B (.slice none 0 0) [] := ⟨[], World.ownsRow_nil _ _ _ _, rfl, (fun i j x y b _ h => by cases h), fun i r x h => (by cases h)⟩
theorem OwnS.rowAt {w : World} {B : Nat} {v : Value} {l : Str} (h : OwnS w B v l) : RowAt (fun b => B ≤ b ∧ b < w.heap.size) w v (l.map bv) := by
 have h1 : w.ownsRow B 5 1 v (l.map bv).length (l.map bv) := by rw [List.length_map]; exact h
 exact own_rest h1 (fun k hk => own_lt h1 hk)
theorem RowsO.bss {w : World} {B : Nat} {v : Value} {l : List Str} (h : RowsO w B v l) : BssAt (fun b => B ≤ b ∧ b < w.heap.size) w v l := by
 obtain ⟨ys, h1, h2, h3⟩ := h.ex
 rw [← h2] at h1
 exact ⟨ys, own_rest h1 (fun k hk => own_lt h1 hk), h2, fun i e x he hx => (h3 i e x he hx).rowAt⟩
theorem KeysO.bsss {w : World} {B : Nat} {v : Value} {L : List (List Str)} (h : KeysO w B v L) : BsssAt (fun b => B ≤ b ∧ b < w.heap.size) w v L := by
 obtain ⟨xs, h1, h2, _, h3⟩ := h.ex
 rw [← h2] at h1
 exact ⟨xs, own_rest h1 (fun k hk => own_lt h1 hk), h2, fun i e x he hx => (h3 i e x he hx).bss⟩
theorem RowsO.ag {w w' : World} {B : Nat} {v : Value} {l : List Str} (h : RowsO w B v l) (hg : ∀ k, B ≤ k → k < w.heap.size → w'.heap[k]? = w.heap[k]?) : RowsO w' B v l := by
 obtain ⟨ys, h1, h2, h3⟩ := h.ex
 exact ⟨ys, own_cong h1 (fun k hk => hg k (own_lt h1 hk).1 (own_lt h1 hk).2), h2, fun j s y hs hy => own_cong (h3 j s y hs hy) (fun k hk => hg k (own_lt (h3 j s y hs hy) hk).1 (own_lt (h3 j s y hs hy) hk).2)⟩
theorem KeysO.ag {w w' : World} {B : Nat} {v : Value} {L : List (List Str)} (h : KeysO w B v L) (hg : ∀ k, B ≤ k → k < w.heap.size → w'.heap[k]? = w.heap[k]?) : KeysO w' B v L := by
 obtain ⟨xs, h1, h2, h3, h4⟩ := h.ex
 exact ⟨xs, own_cong h1 (fun k hk => hg k (own_lt h1 hk).1 (own_lt h1 hk).2), h2, h3, fun i r x hr hx => (h4 i r x hr hx).ag hg⟩
theorem RowsO.on {w w' : World} {B : Nat} {v : Value} {l : List Str} (h : RowsO w B v l) (hb : Below w.heap.size w w') : RowsO w' B v l := h.ag (fun k _ hk => hb.block k hk)
theorem KeysO.on {w w' : World} {B : Nat} {v : Value} {L : List (List Str)} (h : KeysO w B v L) (hb : Below w.heap.size w w') : KeysO w' B v L := h.ag (fun k _ hk => hb.block k hk)
theorem RowsO.le {w : World} {B B' : Nat} {v : Value} {l : List Str} (h : RowsO w B v l) (hB : B' ≤ B) : RowsO w B' v l := by
 obtain ⟨ys, h1, h2, h3⟩ := h.ex
 exact ⟨ys, own_le h1 hB, h2, fun j s y hs hy => own_le (h3 j s y hs hy) hB⟩
theorem RowsO.grown {w w' : World} {B B' : Nat} {v v2 : Value} {l : List Str} {n : Nat} {zs : List Value} (h : RowsO w B v l) (hv : w.ownsRow B' 73 1 v2 n zs) (hg : w.grownBy w' v2.ownBlock) : RowsO w' B v l := by
 obtain ⟨ys, h1, h2, h3⟩ := h.ex
 exact ⟨ys, own_cong h1 (fun k hk => hg.block k (own_lt h1 hk).2 (fun e => own_ne h1 hv (by decide) hk e.symm)), h2, fun j s y hs hy => own_cong (h3 j s y hs hy) (fun k hk => hg.block k (own_lt (h3 j s y hs hy) hk).2 (fun e => own_ne (h3 j s y hs hy) hv (by decide) hk e.symm))⟩
theorem rows_step {w w1 w3 : World} {B : Nat} {v v' y : Value} {ys : List Value} {l : List Str} {s : Str} (h1 : w.ownsRow B 72 1 v l.length ys) (h2 : ys.length = l.length) (h3 : ∀ (j : Nat) (s : Str) (y : Value), l[j]? = some s → ys[j]? = some y → OwnS w B y s)
  (hb : Below w.heap.size w w1) (hy : OwnS w1 B y s) (hg : w1.grownBy w3 v.ownBlock) (ho : w3.ownsRow B 72 1 v' (l.length + 1) (ys ++ [y])) : RowsO w3 B v' (l ++ [s]) := by
 have h1' : w1.ownsRow B 72 1 v l.length ys := own_cong h1 (fun k hk => hb.block k (own_lt h1 hk).2)
 refine ⟨ys ++ [y], by rw [List.length_append]; exact ho, by simp [h2], fun j s' y' hs hy' => ?_⟩
 by_cases hj : j < l.length
 · rw [List.getElem?_append_left hj] at hs
   rw [List.getElem?_append_left (by omega)] at hy'
   have h0 := h3 j s' y' hs hy'
   have h0' : OwnS w1 B y' s' := own_cong h0 (fun k hk => hb.block k (own_lt h0 hk).2)
   exact own_cong h0' (fun k hk => hg.block k (own_lt h0' hk).2 (fun e => own_ne h0' h1' (by decide) hk e.symm))
 · rw [List.getElem?_append_right (by omega)] at hs hy'
   have hj0 : j - l.length = 0 := by
    have := (List.getElem?_eq_some_iff.1 hs).1
    simp at this; omega
   rw [hj0] at hs
   rw [show j - ys.length = 0 by omega] at hy'
   cases hs; cases hy'
   exact own_cong hy (fun k hk => hg.block k (own_lt hy hk).2 (fun e => own_ne hy h1' (by decide) hk e.symm))
theorem keys_step {w w1 w3 : World} {B : Nat} {v v' x : Value} {xs : List Value} {L : List (List Str)} {r : List Str} (h1 : w.ownsRow B 73 1 v L.length xs) (h2 : xs.length = L.length)
  (hd : ∀ (i j : Nat) (x y : Value) (b : Nat), i ≠ j → xs[i]? = some x → xs[j]? = some y → x.ownBlock = some b → y.ownBlock ≠ some b) (h3 : ∀ (i : Nat) (r : List Str) (x : Value), L[i]? = some r → xs[i]? = some x → RowsO w B x r)
  (hb : Below w.heap.size w w1) (hB : B ≤ w.heap.size) (hx : RowsO w1 w.heap.size x r) (hg : w1.grownBy w3 v.ownBlock) (ho : w3.ownsRow B 73 1 v' (L.length + 1) (xs ++ [x])) : KeysO w3 B v' (L ++ [r]) := by
 have h1' : w1.ownsRow B 73 1 v L.length xs := own_cong h1 (fun k hk => hb.block k (own_lt h1 hk).2)
 have hold : ∀ (i : Nat) (x : Value), xs[i]? = some x → ∀ b, x.ownBlock = some b → b < w.heap.size := fun i x hx b he => by
  have hi : i < L.length := by have := (List.getElem?_eq_some_iff.1 hx).1; omega
  obtain ⟨ys, q1, _⟩ := (h3 i _ x (List.getElem?_eq_getElem hi) hx).ex
  exact (own_lt q1 he).2
 have hnew : ∀ b, x.ownBlock = some b → w.heap.size ≤ b := fun b he => by
  obtain ⟨ys, q1, _⟩ := hx.ex
  exact (own_lt q1 he).1
 have hcase : ∀ (i : Nat) (z : Value), (xs ++ [x])[i]? = some z → (i < xs.length ∧ xs[i]? = some z) ∨ (i = xs.length ∧ z = x) := fun i z hz => by
  by_cases hi : i < xs.length
  · rw [List.getElem?_append_left hi] at hz; exact .inl ⟨hi, hz⟩
  · rw [List.getElem?_append_right (by omega)] at hz
    have := (List.getElem?_eq_some_iff.1 hz).1
    have h0 : i - xs.length = 0 := by simp at this; omega
    rw [h0] at hz; cases hz
    exact .inr ⟨by omega, rfl⟩
 refine ⟨xs ++ [x], by rw [List.length_append]; exact ho, by simp [h2], fun i j a b k hij ha hb' hk => ?_, fun i r' x' hr hx' => ?_⟩
 · rcases hcase i a ha with ⟨ia, ea⟩ | ⟨ia, ea⟩ <;> rcases hcase j b hb' with ⟨jb, eb⟩ | ⟨jb, eb⟩
   · exact hd i j a b k hij ea eb hk
   · subst eb
     intro h; have := hnew k h; have := hold i a ea k hk; omega
   · subst ea
     intro h; have := hnew k hk; have := hold j b eb k h; omega
   · omega
 · rcases hcase i x' hx' with ⟨ia, ea⟩ | ⟨ia, ea⟩
   · rw [List.getElem?_append_left (by omega)] at hr
     exact ((h3 i r' x' hr ea).on hb).grown h1' hg
   · rw [List.getElem?_append_right (by omega)] at hr
     rw [show i - L.length = 0 by omega] at hr
     cases hr; subst ea
     exact ((hx.le hB).grown h1' hg)
theorem einfo_bytes : (Tryz.prog.info? 72).map (fun i => (i.zero, i.size, i.bytes)) = some (some (.slice none 0 0), 1, 24) := by kernel_rfl
theorem einfo_bytess : (Tryz.prog.info? 73).map (fun i => (i.zero, i.size, i.bytes)) = some (some (.slice none 0 0), 1, 24) := by kernel_rfl
theorem wp_app_el {t e : TypeId} (ht : Tryz.prog.underlying t = some (.slice e)) (he : (Tryz.prog.info? e).map (fun i => (i.zero, i.size, i.bytes)) = some (some (.slice none 0 0), 1, 24)) {ops : Array Oper} {rest : List Oper} {o : Oper} {a : Act} {Q : Exit → Act → World → Prop} (hgd : o.guard = none) (s x : Operand)
  (ho : o.op = .call { callee := .builtin .append, args := #[s, x], argTypes := #[t, t] }) {w : World} {B n : Nat} {v y : Value} {xs : List Value} (hs : a.eval s = v) (hx : a.eval x = .slice (some ⟨w.heap.size, 0, none⟩) 1 1) (hown : w.ownsRow B e 1 v n xs) (hy : y.oneCell' = true) (hn : n + 1 ≤ 1000000) (hB : B ≤ w.heap.size)
  (h : ∀ v' w', w'.ownsRow B e 1 v' (n + 1) (xs ++ [y]) → w.grownBy w' v.ownBlock → wpList Tryz.prog ops Q rest (a.put o.dst v') w') : wpList Tryz.prog ops Q (o :: rest) a (w.alloc (.cells #[y] e)) := by
 obtain ⟨i0, hi, hz0, hz1, hz2⟩ := info_parts he
 refine wpList_append_own_at _ hgd s x t ho B e i0 (.slice none 0 0) 1 24 ht hi hz0 hz1 hz2 rfl (by decide) v n xs hs (hown.alloc _) ⟨w.heap.size, 0, none⟩ 1 1 [y] hx rfl (cell_one_new _ _ _) (by simpa using hy) (by unfold maxLen; omega) (by omega) (by simp; omega) ?_
 intro v' w' h1 h2 _ _
 exact h v' w' h1 (grown_alloc h2)
theorem own_one (w : World) (B : Nat) (hB : B ≤ w.heap.size) (c : UInt8) : OwnS (w.alloc (.cells #[.int .u8 (c.toNat : Int)] 5)) B (.slice (some ⟨w.heap.size, 0, none⟩) 1 1) [c] :=
 ⟨rfl, .inr ⟨w.heap.size, 1, #[.int .u8 (c.toNat : Int)], rfl, hB, heap_alloc_new _ _, Nat.le_refl _, by decide, rfl, rfl⟩⟩
def keyC (i k : Nat) : UInt8 := UInt8.ofNat (16 * i + k)
def keysRow (n i : Nat) (more : Str) : List Str := (List.range n).map fun k => keyC i k :: more
def keysM (n : Nat) (more : Str) : List (List Str) := (List.range n).map fun i => keysRow n i more
def KeysQ (L : List (List Str)) (w : World) (e : Ending) (w' : World) : Prop := ∃ v', e = .returned v' ∧ KeysO w' w.heap.size v' L ∧ Below w.heap.size w w'
set_option maxRecDepth 100000 in
set_option maxHeartbeats 16000000 in
theorem lkeys_any {T : Nat → Prop} (n : Nat) (hn8 : n ≤ 8) (more : Str) (mv : Value) (w : World) (h : RowAt T w mv (more.map bv)) (hT : ∀ k, T k → k < w.heap.size) (hml : more.length ≤ 60) :
  Calls Tryz.prog 35 #[.int .i64 (n : Int), mv] w fun e w' => KeysQ (keysM n more) w e w' := by
 obtain ⟨B, hB⟩ : ∃ B, w.heap.size = B := ⟨_, rfl⟩
 have HBQ := Lib.hid hB
 obtain ⟨mo, mc, rfl, m1, m2⟩ := h.form
 rw [List.length_map] at m1 h ⊢
 obtain ⟨ml, hmln⟩ : ∃ m, more.length = m := ⟨_, rfl⟩
 rw [hmln] at m1 h hml ⊢
 have HML := Lib.hid hmln
 have HM := Lib.hid h
 have HT : Hid (∀ k, T k → k < B) := Lib.hid (by rw [← hB]; exact hT)
 clear hB h hT hmln
 go_enter Tryz.func35, Tryz.ntmps35
 go_wp2_with fail
 go_loopw [5, 6] (fun ov iv wr => ∃ i : Nat, i ≤ n ∧ iv = .int .i64 (i : Int) ∧ Hid (KeysO wr B ov ((List.range i).map fun i => keysRow n i more)) ∧ Hid (Below B w wr)) (fun _ iv _ => n - (intOf iv).toNat)
 case atStart => exact ⟨0, Nat.zero_le _, rfl, Lib.hid (KeysO.nil _ _), Lib.hid (by rw [← HBQ.out]; exact Below.refl _ _)⟩
 case round =>
  obtain ⟨i, hi, rfl, HKO, HBR⟩ := hrel
  by_cases hlt : i < n
  · have b3 : (0 : Int) ≤ i := by omega
    have b4 : (i : Int) < n := by omega
    obtain ⟨C, hC⟩ : ∃ C, wr.heap.size = C := ⟨_, rfl⟩
    have HCQ := Lib.hid hC
    obtain ⟨wo, hwo⟩ : ∃ wo : World, wo = wr := ⟨_, rfl⟩
    rw [← hwo] at HKO HBR HCQ ⊢
    clear hC hwo
    go_wp2_with fail
    go_loopw [7, 8] (fun rv kv wx => ∃ k : Nat, k ≤ n ∧ kv = .int .i64 (k : Int) ∧ Hid (RowsO wx C rv ((List.range k).map fun k => keyC i k :: more)) ∧ Hid (Below C wo wx)) (fun _ kv _ => n - (intOf kv).toNat)
    case atStart => exact ⟨0, Nat.zero_le _, rfl, Lib.hid (RowsO.nil _ _), Lib.hid (by rw [← HCQ.out]; exact Below.refl _ _)⟩
    case round =>
     obtain ⟨k, hk, rfl, HRO, HBX⟩ := hrel
     by_cases hkl : k < n
     · have e1 : (0 : Int) ≤ k := by omega
       have e2 : (k : Int) < n := by omega
       have e5 : Hid (16 * (i : Int) + (k : Int) = ((keyC i k).toNat : Int)) := Lib.hid (by
        unfold keyC; rw [UInt8.toNat_ofNat_of_lt' (by show 16 * i + k < 256; omega)]; omega)
       go_upto_region 9 with fail
       have hzx : C ≤ wr.heap.size := by have := HBX.out.size; have := HCQ.out; omega
       have HZX := Lib.hid hzx
       have hBC : B ≤ C := by have := HBR.out.size; have := HBQ.out; have := HCQ.out; omega
       obtain ⟨c, hc⟩ : ∃ c, keyC i k = c := ⟨_, rfl⟩
       rw [hc] at e5
       have HC := Lib.hid hc
       obtain ⟨w1, hw1⟩ : ∃ u, wr.alloc (.cells #[.int .u8 (16 * (i : Int) + (k : Int))] 5) = u := ⟨_, rfl⟩
       have HO1 : Hid (OwnS w1 C (.slice (some ⟨wr.heap.size, 0, none⟩) 1 1) [c]) := Lib.hid (by rw [← hw1, e5.out]; exact own_one wr C hzx c)
       have HU1 : Hid (Below wr.heap.size wr w1) := Lib.hid (by rw [← hw1]; exact (Below.refl _ _).alloc (Nat.le_refl _) _)
       have HZ1 : Hid (w1.heap.size = wr.heap.size + 1) := Lib.hid (by rw [← hw1]; simp)
       have HS1 : Hid (RowAt T w1 (.slice mo ml mc) (more.map bv)) := Lib.hid (HM.out.cong (fun _ h => h) (fun j hj => by
        have := HT.out j hj
        exact (HU1.out.block j (by omega)).trans ((HBX.out.block j (by omega)).trans (HBR.out.block j this))))
       obtain ⟨ys, y1, y2, y3⟩ := HRO.out.ex
       rw [List.length_map, List.length_range] at y1 y2
       have HY1 := Lib.hid y1
       have HY2 := Lib.hid y2
       have HY3 := Lib.hid y3
       obtain ⟨rva, rvc, rfl⟩ := own_slice y1
       have HW1 := Lib.hid hw1
       clear hc hw1 y1 y2 y3
       go_wp2_with (first
         | ((with_reducible refine wpList_at (.call { callee := .builtin .append, args := #[.tmp 25, .tmp 26], argTypes := #[72, 72] }) rfl ?_); rw [HW1.out]; refine wp_app_bytes rfl _ _ rfl rfl rfl HO1.out HS1.out (by rw [HML.out]; show 1 + ml ≤ _; omega) (by rw [HZ1.out]; omega) ?_; intro yv w2 hO hgr _; obtain ⟨ya, yc, rfl⟩ := hO.form; rw [List.length_append, List.length_singleton, HML.out] at hO ⊢; have HO2 := Lib.hid hO; have HU2 : Hid (Below wr.heap.size wr w2) := Lib.hid (HU1.out.grown hgr (by rw [HZ1.out]; omega) (fun b hb => by cases hb; exact Nat.le_refl _)); clear hO hgr)
         | ((with_reducible refine wpList_at (.call { callee := .builtin .append, args := #[.tmp 19, .tmp 28], argTypes := #[73, 73] }) rfl ?_); go_loud (refine wp_app_el (v := .slice rva k rvc) (y := .slice ya (1 + ml) yc) Tryz.underlying73 einfo_bytes rfl _ _ rfl rfl rfl (own_cong HY1.out (fun b hb => HU2.out.block b (own_lt HY1.out hb).2)) rfl (by omega) (Nat.le_trans HZX.out HU2.out.size) ?_); intro rv3 w3 h3 hg3))
       go_roundw
       case rel =>
        refine ⟨k + 1, by omega, by go_num, Lib.hid ?_, Lib.hid ?_⟩
        · rw [List.range_succ, List.map_append]
          refine rows_step (w := wr) (w1 := w2) (ys := ys) (y := .slice ya (1 + ml) yc) (v := .slice rva k rvc) (by rw [List.length_map, List.length_range]; exact HY1.out) (by rw [List.length_map, List.length_range]; exact HY2.out) HY3.out HU2.out ?_ hg3 (by rw [List.length_map, List.length_range]; exact h3)
          show OwnS w2 C _ (keyC i k :: more)
          rw [HC.out]; exact HO2.out
        · exact (HBX.out.trans (HU2.out.mono HZX.out)).grown hg3 (Nat.le_trans HZX.out HU2.out.size) (fun b hb => (own_lt HY1.out hb).1)
       case measure => simp [intOf]; omega
     · obtain rfl : k = n := by omega
       have e2 : ¬ (k : Int) < (k : Int) := by omega
       obtain ⟨xs, x1, x2, x3, x4⟩ := HKO.out.ex
       rw [List.length_map, List.length_range] at x1 x2
       have HX1 := Lib.hid x1
       have HX2 := Lib.hid x2
       have HX3 := Lib.hid x3
       have HX4 := Lib.hid x4
       obtain ⟨ova, ovc, rfl⟩ := own_slice x1
       obtain ⟨ys, y1, y2, y3⟩ := HRO.out.ex
       obtain ⟨rva, rvc, rfl⟩ := own_slice y1
       rw [List.length_map, List.length_range] at HRO ⊢
       have HBC : Hid (B ≤ C) := Lib.hid (by have := HBR.out.size; have := HBQ.out; have := HCQ.out; omega)
       have HCX : Hid (C ≤ wr.heap.size) := Lib.hid (by have := HBX.out.size; have := HCQ.out; omega)
       clear x1 x2 x3 x4 y1 y2 y3
       go_wp2_with ((with_reducible refine wpList_at (.call { callee := .builtin .append, args := #[.tmp 30, .tmp 32], argTypes := #[63, 63] }) rfl ?_); refine wp_app_el (v := .slice ova i ovc) (y := .slice rva k rvc) Tryz.underlying63 einfo_bytess rfl _ _ rfl rfl rfl (own_cong HX1.out (fun b hb => HBX.out.block b (by have := (own_lt HX1.out hb).2; have := HCQ.out; omega))) rfl (by omega) (Nat.le_trans HBC.out HCX.out) ?_; intro ov3 w3 h3 hg3)
       go_roundw
       case rel =>
        refine ⟨i + 1, by omega, by go_num, Lib.hid ?_, Lib.hid ?_⟩
        · rw [List.range_succ, List.map_append]
          refine keys_step (w := wo) (w1 := wr) (xs := xs) (v := .slice ova i ovc) (by rw [List.length_map, List.length_range]; exact HX1.out) (by rw [List.length_map, List.length_range]; exact HX2.out) HX3.out HX4.out (by rw [HCQ.out]; exact HBX.out) (by rw [HCQ.out]; exact HBC.out) (by rw [HCQ.out]; exact HRO.out) hg3 (by rw [List.length_map, List.length_range]; exact h3)
        · exact (HBR.out.trans (HBX.out.mono HBC.out)).grown hg3 (Nat.le_trans HBC.out HCX.out) (fun b hb => (own_lt HX1.out hb).1)
       case measure => simp [intOf]; omega
  · obtain rfl : i = n := by omega
    have e2 : ¬ (i : Int) < (i : Int) := by omega
    obtain ⟨xs, x1, x2, x3, x4⟩ := HKO.out.ex
    obtain ⟨ova, ovc, rfl⟩ := own_slice x1
    rw [List.length_map, List.length_range] at HKO ⊢
    clear x1 x2 x3 x4
    go_wp2_with fail
    go_ret
    exact ⟨_, rfl, by rw [HBQ.out]; exact HKO.out, by rw [HBQ.out]; exact HBR.out⟩
set_option maxRecDepth 100000 in
set_option maxHeartbeats 2000000 in
theorem gcarriers_any (B rb : Nat) (M : List (List Str)) (w : World) (h : RingAt w B rb M) : Calls Tryz.prog 31 #[.pointer (some ⟨rb, 0, none⟩)] w fun e w' => e = .returned (.int .i64 (M.length : Int)) ∧ w = w' := by
 obtain ⟨mb, c0, _⟩ := h.look
 go_enter Tryz.func31, Tryz.ntmps31
 go_wp2_with fail
 go_ret
 exact ⟨rfl, rfl⟩
theorem some_of {M : List (List Str)} {to_ i k : Nat} {x d : Str} (hi : i < k) (h : rightM M i to_ x d = true) : someR M to_ x d k = true := by
 unfold someR
 rw [List.any_eq_true]
 exact ⟨i, List.mem_range.2 hi, h⟩
theorem right_self {M : List (List Str)} {p : PD} (hm : mayS M p) (t : Str) : rightM M p.fr p.dst t (macM (keyAt M p.fr p.dst) t) = true := by
 unfold rightM
 rw [decide_eq_true (show p.fr < M.length ∧ p.dst < M.length ∧ p.fr ≠ p.dst from hm), decide_eq_true rfl]; rfl
theorem cut_app (t m : Str) (hm : m.length = 32) : cutT (t ++ m) = t ∧ cutD (t ++ m) = m := by
 unfold cutT cutD
 rw [List.length_append, hm, Nat.add_sub_cancel]
 exact ⟨List.take_left' rfl, List.drop_left' rfl⟩
theorem open_seal {M : List (List Str)} {p : PD} {t : Str} (hp : okPD p) (hm : mayS M p) (ht : textM p = (t, 0)) : openM M p.dst (t ++ macM (keyAt M p.fr p.dst) t) = (p, 0) := by
 obtain ⟨e1, e2⟩ := cut_app t _ (macM_len (keyAt M p.fr p.dst) t)
 obtain ⟨b1, _⟩ := text_back hp.num ht
 unfold openM
 rw [e1, e2, if_neg (by have := hm.2.1; omega), if_neg (by rw [List.length_append, macM_len]; omega), some_of hm.1 (right_self hm t), if_neg (by simp), b1]
 simp only
 rw [if_neg (by simp), right_self hm t, if_neg (by simp)]
theorem keyC_val {i k : Nat} (hi : i < 8) (hk : k < 8) : (keyC i k).toNat = 16 * i + k := by
 unfold keyC; exact UInt8.toNat_ofNat_of_lt' (by show 16 * i + k < 256; omega)
theorem keyAt_keys {n : Nat} {more : Str} {i k : Nat} (hi : i < n) (hk : k < n) : keyAt (keysM n more) i k = keyC i k :: more := by
 unfold keyAt keysM keysRow
 rw [List.getD_eq_getElem?_getD, List.getD_eq_getElem?_getD, List.getElem?_map, List.getElem?_range hi, Option.map_some, Option.getD_some, List.getElem?_map, List.getElem?_range hk]; rfl
theorem keyAt_le {n : Nat} {more : Str} (hm : more.length ≤ 60) (i k : Nat) : (keyAt (keysM n more) i k).length ≤ 61 := by
 by_cases hi : i < n
 · by_cases hk : k < n
   · rw [keyAt_keys hi hk]; simp; omega
   · have : keyAt (keysM n more) i k = [] := by
      unfold keyAt keysM keysRow
      rw [List.getD_eq_getElem?_getD, List.getD_eq_getElem?_getD, List.getElem?_map, List.getElem?_range hi, Option.map_some, Option.getD_some, List.getElem?_map, List.getElem?_eq_none (by simpa using hk)]; rfl
     rw [this]; simp
 · have : keyAt (keysM n more) i k = [] := by
    unfold keyAt keysM
    rw [List.getD_eq_getElem?_getD, List.getD_eq_getElem?_getD, List.getElem?_map, List.getElem?_eq_none (l := List.range n) (by simpa using hi)]; rfl
   rw [this]; simp
theorem keysM_len (n : Nat) (more : Str) : (keysM n more).length = n := by unfold keysM; simp
theorem rowKs_mem {row : List Str} {i m : Nat} {s : Str} : s ∈ rowKs row i m ↔ ∃ k, k < m ∧ k ≠ i ∧ row.getD k [] = s := by
 unfold rowKs
 simp only [List.mem_map, List.mem_filter, List.mem_range, bne_iff_ne, ne_eq]
 exact ⟨fun ⟨k, ⟨a, b⟩, c⟩ => ⟨k, a, b, c⟩, fun ⟨k, a, b, c⟩ => ⟨k, ⟨a, b⟩, c⟩⟩
theorem nodup_map {α β : Type} {f : α → β} {l : List α} (hn : l.Nodup) (hf : ∀ a ∈ l, ∀ b ∈ l, f a = f b → a = b) : (l.map f).Nodup := by
 rw [List.Nodup, List.pairwise_map]
 exact List.Pairwise.imp_of_mem (fun ha hb hne h => hne (hf _ ha _ hb h)) hn
theorem good_keys {K : List (List Str)} {n : Nat} {more : Str} (h2 : 2 ≤ n) (h8 : n ≤ 8) (hm : more.length ≤ 60) (hl : K.length = n) (hr : ∀ r ∈ K, r.length = n) (hk : ∀ i k, i < n → k < n → i ≠ k → keyAt K i k = keyC i k :: more) : goodB K = true := by
 have hmem : ∀ (j : Nat), j ≤ n → ∀ s, s ∈ allKs K j → ∃ i k, i < j ∧ k < n ∧ i ≠ k ∧ s = keyC i k :: more := fun j hj s hs => by
  unfold allKs at hs
  obtain ⟨i, hi, hs⟩ := List.mem_flatMap.1 hs
  obtain ⟨k, a, b, c⟩ := rowKs_mem.1 hs
  rw [List.mem_range] at hi
  rw [hl] at a
  exact ⟨i, k, hi, a, fun e => b e.symm, by rw [← hk i k (by omega) a (fun e => b e.symm), ← c]; rfl⟩
 have hinj : ∀ {i k i' k' : Nat}, i < n → k < n → i' < n → k' < n → (keyC i k :: more) = (keyC i' k' :: more) → i = i' ∧ k = k' := fun {i k i' k'} a b c d e => by
  have e1 := congrArg UInt8.toNat (List.cons.inj e).1
  rw [keyC_val (by omega) (by omega), keyC_val (by omega) (by omega)] at e1
  omega
 have hnd : ∀ j, j ≤ n → (allKs K j).Nodup := fun j => by
  induction j with
  | zero => intro _; exact List.nodup_nil
  | succ j ih =>
    intro hj
    rw [allKs_more, List.nodup_append]
    refine ⟨ih (by omega), ?_, fun a ha b hb e => ?_⟩
    · unfold rowKs
      refine nodup_map (List.Nodup.sublist List.filter_sublist List.nodup_range) (fun a ha b hb e => ?_)
      rw [List.mem_filter, List.mem_range, hl, bne_iff_ne] at ha hb
      have ea := hk j a (by omega) ha.1 (fun e => ha.2 e.symm)
      have eb := hk j b (by omega) hb.1 (fun e => hb.2 e.symm)
      unfold keyAt at ea eb
      rw [ea, eb] at e
      exact (hinj (by omega) ha.1 (by omega) hb.1 e).2
    · obtain ⟨i, k, a1, a2, a3, a4⟩ := hmem j (by omega) a ha
      obtain ⟨k', b1, b2, b3⟩ := rowKs_mem.1 hb
      rw [hl] at b1
      have eb := hk j k' (by omega) b1 (fun e => b2 e.symm)
      unfold keyAt at eb
      rw [← b3, eb, a4] at e
      have := (hinj (by omega) a2 (by omega) b1 e).1
      omega
 unfold goodB goodL
 simp only [Bool.and_eq_true, decide_eq_true_eq, List.all_eq_true]
 refine ⟨⟨⟨by omega, by omega⟩, fun r hr' => by rw [hr r hr', hl]⟩, fun s hs => ?_, hnd _ (by omega)⟩
 obtain ⟨i, k, _, _, _, rfl⟩ := hmem _ (by omega) s hs
 simp; omega
theorem goodB_keysM {n : Nat} {more : Str} (h2 : 2 ≤ n) (h8 : n ≤ 8) (hm : more.length ≤ 60) : goodB (keysM n more) = true :=
 good_keys h2 h8 hm (keysM_len _ _) (fun r hr => by unfold keysM at hr; obtain ⟨i, _, rfl⟩ := List.mem_map.1 hr; unfold keysRow; simp) (fun i k hi hk _ => keyAt_keys hi hk)
end Go.Proofs.YtgfijlamhjjecaaGreatDoor
namespace Go.Proofs.YtgfijlamhjjecaaGreatDoor
theorem mayM_ok {hh : Bool × Bool × Bool} {m : MD} (hk : hasK m.kind = some hh) (ht : mayT m.tc m.ts = true) (hm : mayM hh m = true) : okM m := by
 obtain ⟨t1, t2, t3⟩ := mayT_iff.1 ht
 obtain ⟨k1, k2⟩ := hasK_cases hk
 clear hk ht
 unfold mayM at hm
 rcases k2 with rfl | rfl | rfl | rfl | rfl
 all_goals
  simp only [partsB, valsB, if_true, if_false, Bool.false_eq_true, List.append_nil, List.nil_append, List.cons_append, inBB, cpnB, amtB, codB, inB, c0B, M50, Bool.and_eq_true, decide_eq_true_eq, Bool.and_true, Bool.true_or, Bool.false_or] at hm
  exact ⟨by omega, by omega, by omega, by omega, by omega, by omega, by omega, by omega, by omega, by omega, by omega, by omega⟩
theorem md0_ok : okM md0 := ⟨by decide, by decide, by decide, by decide, by decide, by decide, by decide, by decide, by decide, by decide, by decide, by decide⟩
theorem mayP_ok {p : PD} (hn : p.num < 18446744073709551616) (h : mayP p = true) : okPD p := by
 unfold mayP at h
 simp only [Bool.and_eq_true, decide_eq_true_eq] at h
 obtain ⟨⟨h1, h2⟩, h3⟩ := h
 refine ⟨by omega, by omega, hn, ?_⟩
 split at h3
 · rw [m0B_iff.1 h3]; exact md0_ok
 · rw [Bool.and_eq_true] at h3
   obtain ⟨h4, h5⟩ := h3
   split at h5
   · rename_i hh hk
     exact mayM_ok hk h4 h5
   · cases h5
theorem parseTM_ok {s : Str} {q : PD} (h : parseTM s = (q, 0)) : okPD q := by
 unfold parseTM at h
 split at h
 · rename_i h0
   have hx : wrapParseE s = ((wrapParseE s).1, 0) := by rw [← h0]
   have h1 := wrap_packet h
   have h2 := (wparse_bd hx).2.2
   have h3 := (wrapM_plain h1).2.1
   exact mayP_ok (by omega) ((wrapM_may q).1 (by rw [h1]))
 · rename_i h0
   exact absurd (congrArg Prod.snd h) h0
end Go.Proofs.YtgfijlamhjjecaaGreatDoor
namespace Go.Proofs.YtgfijlamhjjecaaGreatDoor
open Go.RowKit
theorem RowAt.take {S : Nat → Prop} {w : World} {ao : Option Addr} {n cap : Nat} {xs : List Value} (h : RowAt S w (.slice ao n cap) xs) (m : Nat) (hm : m ≤ n) : RowAt S w (.slice ao m cap) (xs.take m) := by
 obtain ⟨a, c, e, h1, h2, h3, h4⟩ := h
 cases e
 refine ⟨ao, cap, by rw [List.length_take, Nat.min_eq_left hm], by rw [List.length_take]; omega, h2, h3, fun hne => ?_⟩
 obtain ⟨b, off, e, hS, hc⟩ := h4 (fun e => hne (by rw [e, List.take_nil]))
 exact ⟨b, off, e, hS, fun i x hi => hc i x (by rw [List.getElem?_take] at hi; split at hi; exact hi; cases hi)⟩
theorem below_le {C : Nat} {w w1 : World} (h : Hid (w.heap.size = C)) (hb : Below C w w1) : C ≤ w1.heap.size := by have := hb.size; have := h.out; omega
theorem pkt_new (u : World) (p : PD) (D : Nat) (hD : u.heap.size = D) (u1 u2 : World) (h1 : u.alloc (.cells pkz.toArray 38) = u1) (h2 : u1.setCells D 0 (pktA p) = u2) : u2.heap[D]? = some (.cells (pktA p).toArray 38 (0, 0)) ∧ Below D u u2 ∧ D < u2.heap.size := by
 have h3 : u2.heap[D]? = some (.cells (pktA p).toArray 38 (0, 0)) := by
  rw [← h2]
  exact putL_heap (cs := pkz) (by rw [← h1, ← hD]; exact heap_alloc_new _ _) (pktA p) rfl
 refine ⟨h3, ?_, (Array.getElem?_eq_some_iff.1 h3).1⟩
 rw [← h2]
 refine putL_below (Nat.le_refl _) _ _ _ ?_
 rw [← h1, ← hD]
 exact (Below.refl _ _).alloc (Nat.le_refl _) _
def pwk : PD := ⟨1, 2, true, 7, md0⟩
theorem pwkL : pktA pwk = [.int .u8 1, .int .u8 2, .bool true, .int .u64 7, .int .u8 0, .int .u8 0, .int .u64 0, .int .u8 0, .int .u8 0, .int .u16 0, .int .u32 0, .int .i64 0, .int .u8 0, .int .u32 0, .int .i64 0, .int .i64 0] := rfl
theorem okpwk : okPD pwk := mayP_ok (by decide) (by decide)
theorem maywk : (textM pwk).2 = 0 := (textM_may (p := pwk) (by decide)).2 (by decide)
theorem mayswk : mayS (keysM 3 []) pwk := by unfold mayS; rw [keysM_len]; decide
def WakesQ (w : World) (e : Ending) (w' : World) : Prop := e = .returned (.bool true) ∧ Below w.heap.size w w'
set_option maxRecDepth 100000 in
set_option maxHeartbeats 16000000 in
theorem lwakes_any (w : World) (hv : VarsOk w) (hK : VarsK w) : Calls Tryz.prog 27 #[] w fun e w' => WakesQ w e w' := by
 obtain ⟨C, hC⟩ : ∃ C, w.heap.size = C := ⟨_, rfl⟩
 have HCQ := Lib.hid hC
 have HV := Lib.hid hv
 have HK := Lib.hid hK
 have HKY := Lib.hid (lkeys_any (T := fun _ => False) 3 (by decide) [] (.slice none 0 0) w (row_nilB _ _) (fun _ h => h.elim) (by decide))
 have hself := fun u => eql_pkt pwk pwk u
 rw [show eqP pwk pwk = true from eqP_iff.2 rfl, pwkL] at hself
 obtain ⟨R, hR⟩ : ∃ R, textM pwk = R := ⟨_, rfl⟩
 obtain ⟨t, k⟩ := R
 obtain rfl : k = 0 := by have := maywk; rw [hR] at this; exact this
 obtain ⟨_, ht⟩ := text_back (p := pwk) okpwk.num hR
 have hSM : sealM (keysM 3 []) pwk = (t ++ macM (keyAt (keysM 3 []) 1 2) t, 0) := by unfold sealM; rw [if_pos mayswk, hR]; rfl
 have hOM := open_seal (M := keysM 3 []) okpwk mayswk hR
 obtain ⟨bs, hbs⟩ : ∃ b, t ++ macM (keyAt (keysM 3 []) 1 2) t = b := ⟨_, rfl⟩
 have hbl : bs.length ≤ 65568 ∧ 32 ≤ bs.length := by rw [← hbs, List.length_append, macM_len]; omega
 have hON : openM (keysM 3 []) 2 (bs.take 31) = (pd0, 110) := by
  unfold openM
  rw [if_neg (by rw [keysM_len]; decide), if_pos (by rw [List.length_take]; omega)]
 have hO2 : openM (keysM 3 []) 2 bs = (pwk, 0) := by rw [← hbs]; exact hOM
 rw [hbs] at hSM
 obtain ⟨n, hn⟩ : ∃ n, bs.length = n := ⟨_, rfl⟩
 rw [hn] at hbl
 have hcc : ¬ (31 : Int) > (n : Int) := by omega
 have hn31 : 31 ≤ n := by omega
 have HN := Lib.hid hn
 have HBL := Lib.hid hbl
 have HSM := Lib.hid hSM
 have HO2 := Lib.hid hO2
 have HON := Lib.hid hON
 have HML : Hid (∀ i k, (keyAt (keysM 3 []) i k).length ≤ 17592186044416) := Lib.hid (fun i k => Nat.le_trans (keyAt_le (by decide) i k) (by decide))
 have HGB : Hid (goodB (keysM 3 []) = true) := Lib.hid (goodB_keysM (by decide) (by decide) (by decide))
 have HKL : Hid ((keysM 3 []).length = 3) := Lib.hid (keysM_len _ _)
 obtain ⟨M, hM⟩ : ∃ M, keysM 3 [] = M := ⟨_, rfl⟩
 rw [hM] at HKY HSM HO2 HON HML HGB HKL
 unfold KeysQ at HKY
 clear hC hv hK hR ht hSM hOM hbs hbl hON hO2 hn hM
 go_enter Tryz.func27, Tryz.ntmps27
 go_upto_region 2 with (first
   | (go_at_call 35; go_loud (refine HKY.out.mono ?_); rintro e w1 ⟨kv, rfl, hko, hb⟩; have HB1 : Hid (Below C w w1) := Lib.hid (by rw [← HCQ.out]; exact hb); have HKO := Lib.hid hko; clear hko hb)
   | (go_at_call 29; go_loud (refine (gnew_any M kv w1 HKO.out.bsss (fun k hk => hk.2)).mono ?_); rintro e w2 ⟨hg, _, hb⟩; obtain ⟨rb, rfl, hr⟩ := hg HGB.out; have HR2 := Lib.hid hr; have HB2 : Hid (Below C w w2) := Lib.hid (HB1.out.trans (hb.mono (below_le HCQ HB1.out))); clear hg hr hb))
 have HC2 : Hid (C ≤ w2.heap.size) := Lib.hid (below_le HCQ HB2.out)
 go_upto_region 5 with (first
   | (go_at_call 31; go_loud (refine (gcarriers_any _ rb M w2 HR2.out).mono ?_); rintro e u ⟨rfl, rfl⟩; rw [HKL.out])
   | ((with_reducible refine wpList_at (.store 38 (.tmp 3) _) rfl ?_); go_loud (refine wpList_store_agg rfl _ _ _ rfl w2.heap.size 0 (pktA pwk) rfl rfl (there_of (heap_alloc_new w2 (.cells pkz.toArray 38)) 16 (by decide)) (by kernel_rfl) rfl ?_)))
 obtain ⟨D, hD⟩ : ∃ D, w2.heap.size = D := ⟨_, rfl⟩
 obtain ⟨w3, hw3⟩ : ∃ u, w2.alloc (.cells pkz.toArray 38) = u := ⟨_, rfl⟩
 obtain ⟨w4, hw4⟩ : ∃ u, w3.setCells D 0 (pktA pwk) = u := ⟨_, rfl⟩
 obtain ⟨q1, q2, q3⟩ := pkt_new w2 pwk D hD w3 w4 hw3 hw4
 have HD4 := Lib.hid q1
 have HU4 : Hid (Below w2.heap.size w2 w4) := Lib.hid (by rw [hD]; exact q2)
 have HZ4 := Lib.hid q3
 have HB4 : Hid (Below C w w4) := Lib.hid (HB2.out.trans (HU4.out.mono HC2.out))
 have HR4 : Hid (RingAt w4 w1.heap.size rb M) := Lib.hid (HR2.out.on HU4.out)
 rw [show (w2.alloc (.cells #[.int .u8 0, .int .u8 0, .bool false, .int .u64 0, .int .u8 0, .int .u8 0, .int .u64 0, .int .u8 0, .int .u8 0, .int .u16 0, .int .u32 0, .int .i64 0, .int .u8 0, .int .u32 0, .int .i64 0, .int .i64 0] 38)) = w3 from hw3, hD, hw4]
 clear hD hw3 hw4 q1 q2 q3
 have HSQ := Lib.hid (gseal_any w1.heap.size rb M pwk okpwk w4 HR4.out (HV.out.on HB4.out (by rw [HCQ.out]; exact Nat.le_refl _)) (HK.out.on (by rw [HCQ.out]; exact HB4.out)) HML.out)
 unfold SealQ at HSQ
 rw [HSM.out] at HSQ
 have HC4 : Hid (C ≤ w4.heap.size) := Lib.hid (below_le HCQ HB4.out)
 clear hself
 try simp only [Act.put]
 go_upto_region 6 with (first
   | ((with_reducible refine wpList_at (.load 38 (.tmp 3)) rfl ?_); go_loud (refine wpList_load_mid rfl 38 _ rfl D 0 rfl (pktA pwk) _ (range_row HD4.out) Tryz.underlying38 rfl (by kernel_rfl) ?_))
   | (go_at_call 32; go_loud (refine HSQ.out.mono ?_); rintro e w5 ⟨bv', rfl, hbr, hb⟩; have HS5 := Lib.hid hbr; have HU5 := Lib.hid hb; clear hbr hb))
 have HB5 : Hid (Below C w w5) := Lib.hid (HB4.out.trans (HU5.out.mono HC4.out))
 have HR5 : Hid (RingAt w5 w1.heap.size rb M) := Lib.hid (HR4.out.on HU5.out)
 have HC5 : Hid (C ≤ w5.heap.size) := Lib.hid (below_le HCQ HB5.out)
 have HOQ := Lib.hid (gopen_any w1.heap.size rb M (by rw [HKL.out]; decide) 2 (by decide) bs bv' w5 HR5.out HS5.out (fun k hk => hk.2) (HV.out.on HB5.out (by rw [HCQ.out]; exact Nat.le_refl _)) (HK.out.on (by rw [HCQ.out]; exact HB5.out)) HML.out (by have := HBL.out; have := HN.out; omega))
 unfold OpenQ at HOQ
 rw [HO2.out] at HOQ
 obtain ⟨ba, bc, rfl, k1, k2⟩ := HS5.out.form
 rw [List.length_map, HN.out] at HS5 HOQ k1 ⊢
 unfold maxLen at k2
 have HK1 := Lib.hid k1
 go_upto_region 7 with (first
   | ((with_reducible refine wpList_at (.store 38 (.tmp 6) _) rfl ?_); go_loud (refine wpList_store_agg rfl _ _ _ rfl w6.heap.size 0 (pktA pwk) rfl rfl (there_of (heap_alloc_new w6 (.cells pkz.toArray 38)) 16 (by decide)) (by kernel_rfl) rfl ?_))
   | (go_at_call 36; go_loud (refine HOQ.out.mono ?_); rintro e w6 ⟨rfl, hb⟩; have HU6 := Lib.hid hb; clear hb))
 have HB6 : Hid (Below C w w6) := Lib.hid (HB5.out.trans (HU6.out.mono HC5.out))
 obtain ⟨E, hE⟩ : ∃ D, w6.heap.size = D := ⟨_, rfl⟩
 obtain ⟨w7, hw7⟩ : ∃ u, w6.alloc (.cells pkz.toArray 38) = u := ⟨_, rfl⟩
 obtain ⟨w8, hw8⟩ : ∃ u, w7.setCells E 0 (pktA pwk) = u := ⟨_, rfl⟩
 obtain ⟨q1, q2, q3⟩ := pkt_new w6 pwk E hE w7 w8 hw7 hw8
 have HE8 := Lib.hid q1
 have HU8 : Hid (Below w6.heap.size w6 w8) := Lib.hid (by rw [hE]; exact q2)
 have HZ8 := Lib.hid q3
 have HB8 : Hid (Below C w w8) := Lib.hid (HB6.out.trans (HU8.out.mono (below_le HCQ HB6.out)))
 have HU58 : Hid (Below w5.heap.size w5 w8) := Lib.hid (HU6.out.trans (HU8.out.mono HU6.out.size))
 have HR8 : Hid (RingAt w8 w1.heap.size rb M) := Lib.hid (HR5.out.on HU58.out)
 rw [show (w6.alloc (.cells #[.int .u8 0, .int .u8 0, .bool false, .int .u64 0, .int .u8 0, .int .u8 0, .int .u64 0, .int .u8 0, .int .u8 0, .int .u16 0, .int .u32 0, .int .i64 0, .int .u8 0, .int .u32 0, .int .i64 0, .int .i64 0] 38)) = w7 from hw7, hE, hw8]
 clear hE hw7 hw8 q1 q2 q3
 try simp only [Act.put]
 have HS8 := (HS5.out.any (fun k hk => hk.2) HU58.out).take 31 (by have := HBL.out; omega)
 rw [← List.map_take] at HS8
 have HOQ2 := Lib.hid (gopen_any w1.heap.size rb M (by rw [HKL.out]; decide) 2 (by decide) (bs.take 31) (.slice ba 31 bc) w8 HR8.out HS8 (fun k hk => Nat.lt_of_lt_of_le hk.2 HU58.out.size) (HV.out.on HB8.out (by rw [HCQ.out]; exact Nat.le_refl _)) (HK.out.on (by rw [HCQ.out]; exact HB8.out)) HML.out (by rw [List.length_take]; omega))
 unfold OpenQ at HOQ2
 rw [HON.out] at HOQ2
 clear HS8
 have k3 : 31 ≤ bc := by have := HBL.out; have := HK1.out; omega
 go_upto_region 8 with (first
   | ((with_reducible refine wpList_at (.store 38 (.tmp 8) _) rfl ?_); go_loud (refine wpList_store_agg rfl _ _ _ rfl w9.heap.size 0 (pktA pd0) rfl rfl (there_of (heap_alloc_new w9 (.cells pkz.toArray 38)) 16 (by decide)) (by kernel_rfl) rfl ?_))
   | (go_at_call 36; go_loud (refine HOQ2.out.mono ?_); rintro e w9 ⟨rfl, hb⟩; have HU9 := Lib.hid hb; clear hb))
 have HB9 : Hid (Below C w w9) := Lib.hid (HB8.out.trans (HU9.out.mono (below_le HCQ HB8.out)))
 obtain ⟨G, hG⟩ : ∃ D, w9.heap.size = D := ⟨_, rfl⟩
 obtain ⟨w10, hw10⟩ : ∃ u, w9.alloc (.cells pkz.toArray 38) = u := ⟨_, rfl⟩
 obtain ⟨w11, hw11⟩ : ∃ u, w10.setCells G 0 (pktA pd0) = u := ⟨_, rfl⟩
 obtain ⟨_, q2, _⟩ := pkt_new w9 pd0 G hG w10 w11 hw10 hw11
 have HU11 : Hid (Below w9.heap.size w9 w11) := Lib.hid (by rw [hG]; exact q2)
 have HB11 : Hid (Below C w w11) := Lib.hid (HB9.out.trans (HU11.out.mono (below_le HCQ HB9.out)))
 have hE9 : w11.heap[E]? = some (.cells (pktA pwk).toArray 38 (0, 0)) := (HU11.out.block E (Nat.lt_of_lt_of_le HZ8.out HU9.out.size)).trans ((HU9.out.block E HZ8.out).trans HE8.out)
 have hD9 : w11.heap[D]? = some (.cells (pktA pwk).toArray 38 (0, 0)) := by
  have z5 : D < w5.heap.size := Nat.lt_of_lt_of_le HZ4.out HU5.out.size
  have z8 : D < w8.heap.size := Nat.lt_of_lt_of_le z5 HU58.out.size
  exact (HU11.out.block D (Nat.lt_of_lt_of_le z8 HU9.out.size)).trans ((HU9.out.block D z8).trans ((HU58.out.block D z5).trans ((HU5.out.block D HZ4.out).trans HD4.out)))
 rw [show (w9.alloc (.cells #[.int .u8 0, .int .u8 0, .bool false, .int .u64 0, .int .u8 0, .int .u8 0, .int .u64 0, .int .u8 0, .int .u8 0, .int .u16 0, .int .u32 0, .int .i64 0, .int .u8 0, .int .u32 0, .int .i64 0, .int .i64 0] 38)) = w10 from hw10, hG, hw11]
 clear hG hw10 hw11 q2
 rw [pwkL] at hE9 hD9
 obtain ⟨d0, d1, d2, d3, d4, d5, d6, d7, d8, d9, d10, d11, d12, d13, d14, d15⟩ := (cells16 hD9).1
 obtain ⟨e0, e1, e2, e3, e4, e5, e6, e7, e8, e9, e10, e11, e12, e13, e14, e15⟩ := (cells16 hE9).1
 clear hD9 hE9
 have hself := fun u => eql_pkt pwk pwk u
 rw [show eqP pwk pwk = true from eqP_iff.2 rfl, pwkL] at hself
 go_wp2_with fail
 go_ret
 exact ⟨rfl, by rw [HCQ.out]; exact HB11.out⟩
end Go.Proofs.YtgfijlamhjjecaaGreatDoor
namespace Go.Proofs.YtgfijlamhjjecaaGreatDoor
open Go.Lib Go.RowKit Go.ChangeShapes Go.WideShapes Go.ChangeAt Go.WideElems
section
variable {H : Type} {enc : TypeId × Value → H} {W : World}
end
theorem gSyn : Tryz.prog.globalNamed "strconv.ErrSyntax" = some 2 := by kernel_rfl
theorem gSynT : (Tryz.prog.globals[2]?).map (·.type) = some 177 := by kernel_rfl
theorem gRng : Tryz.prog.globalNamed "strconv.ErrRange" = some 3 := by kernel_rfl
theorem gRngT : (Tryz.prog.globals[3]?).map (·.type) = some 177 := by kernel_rfl
theorem gPow : Tryz.prog.globalNamed "internal/strconv.uint64pow10" = some 1 := by kernel_rfl
theorem gPowT : (Tryz.prog.globals[1]?).map (·.type) = some 264 := by kernel_rfl
theorem cellsU64 : Tryz.prog.cellsOf 22 = 1 := by kernel_rfl
theorem cellsPow : Tryz.prog.cellsOf 264 = 20 := by kernel_rfl
theorem cellsErr : Tryz.prog.cellsOf 282 = 1 := by kernel_rfl
theorem cellsStr : Tryz.prog.cellsOf 9 = 1 := by kernel_rfl
theorem errStar : "*" ++ "errors.errorString" = "*errors.errorString" := by decide
theorem errRow (u : TypeId) (h : Tryz.prog.typeName? 3 u = some "*errors.errorString") : u = 280 :=
 typeName_ptr_named (nm := "errors.errorString") (by rw [errStar]; kernel_rfl) (by kernel_rfl) (by decide) u (by rw [errStar]; exact h)
section
variable {H : Type} {enc : TypeId × Value → H} {W : World}
end
theorem gSha : Tryz.prog.globalNamed "tarmac/sha.constants" = some 0 := by kernel_rfl
theorem gShaT : (Tryz.prog.globals[0]?).map (·.type) = some 224 := by kernel_rfl
theorem cellsU32 : Tryz.prog.cellsOf 28 = 1 := by kernel_rfl
theorem cellsSha : Tryz.prog.cellsOf 224 = 64 := by kernel_rfl
theorem varsG {W : World} (h : laidMetH Tryz.prog Rows.sealNilRow.laid W) : VarsOk W ∧ VarsK W := by
 rw [MakeChecks.laidMetH_plain _ _ _ (by kernel_rfl)] at h
 have h2 := h.tail.tail
 have h3 := h2.tail
 have h4 := h3.tail
 have h5 := h4.tail
 obtain ⟨a0, s0, hv0, -, -, -⟩ := laid_sentinel h3 gRng gRngT Tryz.underlying177 errRow Tryz.underlying280 Tryz.underlying282 rfl rfl Tryz.underlying9 cellsErr cellsStr
 obtain ⟨a1, s1, hv1, -, -, -⟩ := laid_sentinel h4 gSyn gSynT Tryz.underlying177 errRow Tryz.underlying280 Tryz.underlying282 rfl rfl Tryz.underlying9 cellsErr cellsStr
 refine ⟨⟨Lib.tabIs_of_head gPow gPowT Tryz.underlying264 Tryz.underlying22 cellsU64 cellsPow h2, ⟨_, _, by have h0 := World.var?_cell gSyn hv1 0; simpa using h0⟩, ⟨_, _, by have h0 := World.var?_cell gRng hv0 0; simpa using h0⟩⟩, ⟨fun i k hk => ?_⟩⟩
 have ht : Lib.TabIs Tryz.prog W "tarmac/sha.constants" .u32 (shaK.map (fun k : Nat => (k : Int))) := Lib.tabIs_of_head gSha gShaT Tryz.underlying224 Tryz.underlying28 cellsU32 cellsSha h5
 unfold Lib.TabIs at ht
 rw [World.var?_cell gSha ht i, List.getElem?_toArray, List.map_map, List.getElem?_map, hk]; rfl
theorem door_metG (os : Os) (args : Array Value) : laidMet Tryz.prog Rows.sealNilRow.laid ((World.doorLaid Tryz.prog 3000 os).forCall (fun _ _ => 0) ⟨#[], args, []⟩).memory :=
 laidMet_of_run' 8 (by kernel_rfl) (by kernel_rfl)
section
variable {H : Type} {enc : TypeId × Value → H} {w : World} {base : Nat} {spare : Nat → Bool} {held : Bool}
theorem addr_ofc {w : World} {a : Addr} {v : Value} (h : w.cell? a = some v) : a = ⟨a.block, a.off, none⟩ := by
 have hs : a.spot = none := by
  unfold World.cell? at h
  split at h
  · cases hs : a.spot with
    | none => rfl
    | some s => simp [hs] at h
  · simp at h
 cases a; simp_all
theorem str_of_trod {fuel : Nat} {v : Value} {x : DataW H × List MemPlace} (h : DataW.trod enc Tryz.prog w base spare held fuel 72 [v] = some x) : ∃ l : Str, RowAt (Low w) w v (l.map bv) := by
 rcases open_ints Tryz.underlying72 Tryz.underlying5 (by kernel_rfl) h with ⟨hcs, _⟩ | ⟨x, l, c, zs, hcs, _, hl, hm, hz, _, hcell, hwz⟩
 · simp at hcs; subst hcs
   exact ⟨[], row_nilB _ _⟩
 · simp at hcs; subst hcs
   have hz' : l ≤ zs.length := by rw [hz]; split <;> omega
   have hlen : (((zs.take l).map fun z => UInt8.ofNat z.toNat).map bv).length = l := by simp; omega
   refine ⟨(zs.take l).map fun z => UInt8.ofNat z.toNat, some x, c, by rw [hlen], by rw [hlen]; exact hl, hm, (fun e => by cases e), fun h0 => ?_⟩
   have h0 : 0 < l := by
    rcases Nat.eq_zero_or_pos l with e | e
    · exact absurd (List.eq_nil_of_length_eq_zero (hlen.trans e)) h0
    · exact e
   have hc0 := hcell 0 (by omega)
   have hx := addr_ofc (by simpa [Addr.add] using hc0)
   refine ⟨x.block, x.off, by rw [← hx], ?_, fun j v hv => ?_⟩
   · rw [hx, Addr.add_mid] at hc0
     exact cell_lt' hc0
   · have hj : j < l := by have := (List.getElem?_eq_some_iff.1 hv).1; rw [hlen] at this; exact this
     rw [List.getElem?_map, List.getElem?_map, List.getElem?_take_of_lt hj, List.getElem?_eq_getElem (by omega)] at hv
     have h1 := hcell j (by omega)
     rw [hx, Addr.add_mid] at h1
     rw [h1, ← Option.some.inj hv]
     have hw : (0 : Int) ≤ zs[j] ∧ zs[j] ≤ 255 := (Lit.wf_int_iff _ _).1 (hwz zs[j] (List.getElem_mem _))
     simp only [bv]
     rw [List.getD_eq_getElem?_getD, List.getElem?_eq_getElem (by omega), Option.getD_some]
     rw [UInt8.toNat_ofNat_of_lt' (by show _ < 256; omega)]
     congr 2; omega
end
end Go.Proofs.YtgfijlamhjjecaaGreatDoor
namespace Go.Proofs.YtgfijlamhjjecaaGreatDoor
open Go.RowKit
theorem OwnS.setCell {w : World} {B B' : Nat} {y v : Value} {s : Str} {n : Nat} {zs : List Value} {e : TypeId} {g c j : Nat} (h : OwnS w B y s) (hv : w.ownsRow B' e 1 v n zs) (he : 5 ≠ e) (hg : v = .slice (some ⟨g, 0, none⟩) n c) (x : Value) : OwnS (w.setCell ⟨g, j, none⟩ x) B y s := by
 subst hg
 refine own_cong h (fun k hk => heap_setCell_other _ _ _ _ ?_)
 intro e2
 exact own_ne h hv he hk (by rw [e2]; rfl)
theorem RowsO.setCell {w : World} {B g j : Nat} {v : Value} {l : List Str} (h : RowsO w B v l) (hv : v.ownBlock ≠ some g) {B' n c : Nat} {zs : List Value} (hg : w.ownsRow B' 72 1 (.slice (some ⟨g, 0, none⟩) n c) n zs) (x : Value) : RowsO (w.setCell ⟨g, j, none⟩ x) B v l := by
 obtain ⟨ys, h1, h2, h3⟩ := h.ex
 refine ⟨ys, own_cong h1 (fun k hk => heap_setCell_other _ _ _ _ (fun e => hv (by rw [hk, e]))), h2, fun j s y hs hy => (h3 j s y hs hy).setCell hg (by decide) rfl x⟩
theorem KeysO.set {w : World} {B : Nat} {v y : Value} {L : List (List Str)} {i j : Nat} {r : List Str} {s : Str} {xs : List Value} {g c : Nat} (h1 : w.ownsRow B 73 1 v L.length xs) (h2 : xs.length = L.length)
  (hd : ∀ (i j : Nat) (x y : Value) (b : Nat), i ≠ j → xs[i]? = some x → xs[j]? = some y → x.ownBlock = some b → y.ownBlock ≠ some b) (h3 : ∀ (i : Nat) (r : List Str) (x : Value), L[i]? = some r → xs[i]? = some x → RowsO w B x r)
  (hi : L[i]? = some r) (hx : xs[i]? = some (.slice (some ⟨g, 0, none⟩) r.length c)) (hj : j < r.length) (hy : OwnS w B y s) : KeysO (w.setCell ⟨g, j, none⟩ y) B v (L.set i (r.set j s)) := by
 have hil : i < L.length := (List.getElem?_eq_some_iff.1 hi).1
 obtain ⟨ys, y1, y2, y3⟩ := (h3 i r _ hi hx).ex
 refine ⟨xs, ?_, by rw [List.length_set]; exact h2, hd, fun i' r' x' hr hx' => ?_⟩
 · rw [List.length_set]
   refine own_cong h1 (fun k hk => heap_setCell_other _ _ _ _ (fun e => ?_))
   exact own_ne y1 h1 (by decide) (k := g) rfl (by have e' : k = g := e; rw [← e']; exact hk)
 · by_cases e : i' = i
   · subst e
     rw [List.getElem?_set_self hil] at hr
     cases hr
     rw [hx] at hx'
     cases hx'
     refine ⟨ys.set j y, by rw [List.length_set]; exact own_set y1 (by rw [y2]; exact hj) y, by simp [y2], fun j' s' y' hs' hy' => ?_⟩
     by_cases e : j' = j
     · subst e
       rw [List.getElem?_set_self hj] at hs'
       rw [List.getElem?_set_self (by rw [y2]; exact hj)] at hy'
       cases hs'; cases hy'
       exact hy.setCell y1 (by decide) rfl y
     · rw [List.getElem?_set_ne (fun h => e h.symm)] at hs' hy'
       exact (y3 j' s' y' hs' hy').setCell y1 (by decide) rfl y
   · rw [List.getElem?_set_ne (fun h => e h.symm)] at hr
     exact (h3 i' r' x' hr hx').setCell (fun h => hd i i' _ _ g (fun h => e h.symm) hx hx' rfl h) y1 y
theorem below_le' {C : Nat} {w w1 : World} (h : Hid (w.heap.size = C)) (hb : Below C w w1) : C ≤ w1.heap.size := by have := hb.size; have := h.out; omega
end Go.Proofs.YtgfijlamhjjecaaGreatDoor
