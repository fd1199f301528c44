/-
  Texts SealH, SealI, SealN, SealJ, MsgQ5, one behind the other. No condition beyond those stated in each.
-/
import Derived.Test.YtgfijlamhjjecaaGreatDoorMu15
import Derived.Test.YtgfijlamhjjecaaGreatDoorMu13
import Derived.Deep.CutBlock
import Derived.Test.YtgfijlamhjjecaaGreatDoorMu6
namespace Go.Proofs.YtgfijlamhjjecaaGreatDoor
open Go.RowKit
def someR (M : List (List Str)) (to_ : Nat) (text d : Str) (k : Nat) : Bool := (List.range k).any fun i => rightM M i to_ text d
theorem someR_more (M : List (List Str)) (to_ : Nat) (text d : Str) (k : Nat) : someR M to_ text d (k + 1) = (rightM M k to_ text d || someR M to_ text d k) := by
 unfold someR
 rw [List.range_succ, List.any_append, Bool.or_comm]
 simp
def cutT (bs : Str) : Str := bs.take (bs.length - 32)
def cutD (bs : Str) : Str := bs.drop (bs.length - 32)
theorem cutT_len {bs : Str} {n c : Nat} (h : bs.length = n) (hc : n - 32 = c) : (cutT bs).length = c := by unfold cutT; rw [List.length_take]; omega
def openM (M : List (List Str)) (to_ : Nat) (bs : Str) : PD × Int :=
 if M.length ≤ to_ then (pd0, 1) else if bs.length < 32 then (pd0, 110) else
 if someR M to_ (cutT bs) (cutD bs) M.length = false then (pd0, 110) else
 if (parseTM (cutT bs)).2 ≠ 0 then (pd0, (parseTM (cutT bs)).2) else
 if (parseTM (cutT bs)).1.dst ≠ to_ ∨ rightM M (parseTM (cutT bs)).1.fr to_ (cutT bs) (cutD bs) = false then (pd0, 101) else ((parseTM (cutT bs)).1, 0)
def OpenQ (r : PD × Int) (w : World) (e : Ending) (w' : World) : Prop := e = .returned (.tuple #[.agg (pktA r.1).toArray, .int .i64 r.2]) ∧ Below w.heap.size w w'
theorem OpenQ.no {r : PD × Int} {k : Int} {w w' : World} (h : r = (pd0, k)) (hb : Below w.heap.size w w') : OpenQ r w (.returned (.tuple #[.agg pkz.toArray, .int .i64 k])) w' := ⟨by rw [h]; rfl, hb⟩
theorem open_memA (w u1 u2 u3 u4 : World) (E : Nat) (hE : w.heap.size = E) (tv : Value) (cs : List Value) (hcl : cs.length = 32)
  (h1 : w.alloc (.cells #[.slice none 0 0] 72) = u1) (h2 : u1.alloc (.cells (pad32 []).toArray 78) = u2) (h3 : u2.setCell ⟨E, 0, none⟩ tv = u3) (h4 : u3.setCells (E + 1) 0 cs = u4) :
  Below E w u4 ∧ u4.cell? ⟨E, 0, none⟩ = some tv ∧ u4.heap[E + 1]? = some (.cells cs.toArray 78 (0, 0)) := by
 have z1 : u1.heap.size = E + 1 := by rw [← h1]; simp [hE]
 have e1 : u1.heap[E]? = some (.cells #[.slice none 0 0] 72 (0, 0)) := by rw [← h1, ← hE]; exact heap_alloc_new w _
 have e2 : u2.heap[E]? = some (.cells #[.slice none 0 0] 72 (0, 0)) := by rw [← h2]; exact (Below.heap_alloc _ _ _ (by rw [z1]; omega)).trans e1
 have d2 : u2.heap[E + 1]? = some (.cells (pad32 []).toArray 78 (0, 0)) := by rw [← h2, ← z1]; exact heap_alloc_new _ _
 have e3 : u3.heap[E]? = some (.cells #[tv] 72 (0, 0)) := by rw [← h3]; exact heap_setCell_same _ E 0 _ _ _ e2
 have d3 : u3.heap[E + 1]? = some (.cells (pad32 []).toArray 78 (0, 0)) := by rw [← h3]; exact (heap_setCell_other _ _ _ _ (by simp)).trans d2
 refine ⟨?_, ?_, ?_⟩
 · rw [← h4]
   refine putL_below (by omega) _ _ _ ?_
   rw [← h3]
   refine Below.setCell ?_ (by show E ≤ E; exact Nat.le_refl _) _
   rw [← h2]
   refine Below.alloc ?_ (by rw [z1]; omega) _
   rw [← h1]
   exact (Below.refl E w).alloc (by show E ≤ w.heap.size; omega) _
 · have e4 : u4.heap[E]? = u3.heap[E]? := by rw [← h4]; exact putL_other _ (by omega) _ _ _
   exact cell_of_row u4 E 0 _ _ _ (e4.trans e3)
 · rw [← h4]; exact putL_heap (cs := pad32 []) d3 cs (by rw [hcl]; rfl)
theorem open_memB (w u1 u2 u3 u4 : World) (E : Nat) (hE : w.heap.size = E) (tv : Value) (cs : List Value) (hcl : cs.length = 32)
  (h1 : w.alloc (.cells (pad32 []).toArray 78) = u1) (h2 : u1.alloc (.cells #[.slice none 0 0] 72) = u2) (h3 : u2.setCell ⟨E + 1, 0, none⟩ tv = u3) (h4 : u3.setCells E 0 cs = u4) :
  Below E w u4 ∧ u4.cell? ⟨E + 1, 0, none⟩ = some tv ∧ u4.heap[E]? = some (.cells cs.toArray 78 (0, 0)) := by
 have z1 : u1.heap.size = E + 1 := by rw [← h1]; simp [hE]
 have e1 : u1.heap[E]? = some (.cells (pad32 []).toArray 78 (0, 0)) := by rw [← h1, ← hE]; exact heap_alloc_new w _
 have e2 : u2.heap[E]? = some (.cells (pad32 []).toArray 78 (0, 0)) := by rw [← h2]; exact (Below.heap_alloc _ _ _ (by rw [z1]; omega)).trans e1
 have d2 : u2.heap[E + 1]? = some (.cells #[.slice none 0 0] 72 (0, 0)) := by rw [← h2, ← z1]; exact heap_alloc_new _ _
 have d3 : u3.heap[E + 1]? = some (.cells #[tv] 72 (0, 0)) := by rw [← h3]; exact heap_setCell_same _ (E + 1) 0 _ _ _ d2
 have e3 : u3.heap[E]? = some (.cells (pad32 []).toArray 78 (0, 0)) := by rw [← h3]; exact (heap_setCell_other _ _ _ _ (by simp)).trans e2
 refine ⟨?_, ?_, ?_⟩
 · rw [← h4]
   refine putL_below (Nat.le_refl _) _ _ _ ?_
   rw [← h3]
   refine Below.setCell ?_ (by show E ≤ E + 1; omega) _
   rw [← h2]
   refine Below.alloc ?_ (by rw [z1]; omega) _
   rw [← h1]
   exact (Below.refl E w).alloc (by show E ≤ w.heap.size; omega) _
 · have e4 : u4.heap[E + 1]? = u3.heap[E + 1]? := by rw [← h4]; exact putL_other _ (by omega) _ _ _
   exact cell_of_row u4 (E + 1) 0 _ _ _ (e4.trans d3)
 · rw [← h4]; exact putL_heap (cs := pad32 []) e3 cs (by rw [hcl]; rfl)
set_option maxRecDepth 100000 in
set_option maxHeartbeats 16000000 in
theorem gopen_any {T : Nat → Prop} (B rb : Nat) (M : List (List Str)) (hn8 : M.length ≤ 8) (to_ : Nat) (hto : to_ < 256) (bs : Str) (src : Value) (w : World) (h : RingAt w B rb M) (hs : RowAt T w src (bs.map bv)) (hT : ∀ k, T k → k < w.heap.size) (hv : VarsOk w) (hK : VarsK w) (hM : ∀ i k, (keyAt M i k).length ≤ 17592186044416) (hbl : bs.length ≤ 1048576) :
  Calls Tryz.prog 36 #[.pointer (some ⟨rb, 0, none⟩), .int .u8 (to_ : Int), src] w fun e w' => OpenQ (openM M to_ bs) w e w' := by
 obtain ⟨C, hC⟩ : ∃ C, w.heap.size = C := ⟨_, rfl⟩
 have HCQ := Lib.hid hC
 obtain ⟨bo, bc, rfl, b1, b2⟩ := hs.form
 rw [List.length_map] at b1 hs ⊢
 unfold maxLen at b2
 obtain ⟨bl, hbln⟩ : ∃ n, bs.length = n := ⟨_, rfl⟩
 rw [hbln] at b1 hs hbl ⊢
 obtain ⟨n, hn⟩ : ∃ n, M.length = n := ⟨_, rfl⟩
 rw [hn] at hn8
 have HN := Lib.hid hn
 have HBL := Lib.hid hbln
 obtain ⟨w1, hw1⟩ : ∃ u, w.alloc (.cells #[.pointer (some ⟨rb, 0, none⟩)] 66) = u := ⟨_, rfl⟩
 obtain ⟨w2, hw2⟩ : ∃ u, w1.alloc (.cells #[.int .u8 (to_ : Int)] 5) = u := ⟨_, rfl⟩
 obtain ⟨w3, hw3⟩ : ∃ u, w2.alloc (.cells pkz.toArray 38) = u := ⟨_, rfl⟩
 have z1 : w1.heap.size = C + 1 := by rw [← hw1]; simp [hC]
 have z2 : w2.heap.size = C + 2 := by rw [← hw2]; simp [z1]
 have z3 : w3.heap.size = C + 3 := by rw [← hw3]; simp [z2]
 have HB3 : Hid (Below C w w3) := Lib.hid (by
  rw [← hw3, ← hw2, ← hw1, ← hC]
  exact (((Below.refl _ w).alloc (Nat.le_refl _) _).alloc (by simp) _).alloc (by simp; omega) _)
 have HR3 : Hid (w3.heap[C]? = some (.cells #[.pointer (some ⟨rb, 0, none⟩)] 66 (0, 0)) ∧ w3.heap[C + 1]? = some (.cells #[.int .u8 (to_ : Int)] 5 (0, 0)) ∧ w3.heap[C + 2]? = some (.cells pkz.toArray 38 (0, 0))) := Lib.hid (by
  refine ⟨?_, ?_, ?_⟩
  · rw [← hw3]
    refine (Below.heap_alloc _ _ _ (by rw [z2]; omega)).trans ?_
    rw [← hw2]
    refine (Below.heap_alloc _ _ _ (by rw [z1]; omega)).trans ?_
    rw [← hw1, ← hC]; exact heap_alloc_new _ _
  · rw [← hw3]
    refine (Below.heap_alloc _ _ _ (by rw [z2]; omega)).trans ?_
    rw [← hw2, ← z1]; exact heap_alloc_new _ _
  · rw [← hw3, ← z2]; exact heap_alloc_new _ _)
 have HZ3 := Lib.hid z3
 have HG3 : Hid (RingAt w3 B rb M) := Lib.hid (h.on (by rw [hC]; exact HB3.out))
 have HS3 : Hid (RowAt T w3 (.slice bo bl bc) (bs.map bv)) := Lib.hid (hs.any hT (by rw [hC]; exact HB3.out))
 have HT : Hid (∀ k, T k → k < C) := Lib.hid (by rw [← hC]; exact hT)
 have HV3 : Hid (VarsOk w3) := Lib.hid (hv.on HB3.out (by rw [hC]; exact Nat.le_refl _))
 have HK3 : Hid (VarsK w3) := Lib.hid (hK.on (by rw [hC]; exact HB3.out))
 have HLM := Lib.hid hM
 have HW1 := Lib.hid hw1
 have HW2 := Lib.hid hw2
 have HW3 := Lib.hid hw3
 have HBB : Hid (C ≤ C + 2) := Lib.hid (by omega)
 clear hC hbln hn z1 z2 z3 hw1 hw2 hw3 h hs hT hv hK hM
 have c0 : w3.cell? ⟨C, 0, none⟩ = some (.pointer (some ⟨rb, 0, none⟩)) := cell_of_row w3 C 0 _ _ _ HR3.out.1
 go_enter Tryz.func36, Tryz.ntmps36
 go_upto_region 1 with fail
 rw [HW1.out, HW2.out, HW3.out, HCQ.out, show C + 1 + 1 = C + 2 from rfl]
 have hmt : Hid (∀ u : World, u.heap = w3.heap → u.cell? ⟨C, 0, none⟩ = some (.pointer (some ⟨rb, 0, none⟩)) ∧ u.cell? ⟨C + 1, 0, none⟩ = some (.int .u8 (to_ : Int)) ∧ u.cell? ⟨rb, 0, none⟩ = some (.int .i64 (n : Int))) := Lib.hid (fun u hu => by
  obtain ⟨mb, d0, d1, _⟩ := HG3.out.look
  rw [HN.out] at d0
  exact ⟨(World.cell?_of_block (a := ⟨C, 0, none⟩) (by rw [hu])).trans (cell_of_row w3 C 0 _ _ _ HR3.out.1), (World.cell?_of_block (a := ⟨C + 1, 0, none⟩) (by rw [hu])).trans (cell_of_row w3 (C + 1) 0 _ _ _ HR3.out.2.1), (World.cell?_of_block (a := ⟨rb, 0, none⟩) (by rw [hu])).trans d0⟩)
 have HMT := hmt
 clear hmt
 have gw8 : IntKind.i64.wrap (to_ : Int) = (to_ : Int) := IntWalk.i64_in _ (by omega)
 go_upto_region 3 with fail
 refine wp_region_plan [(0, false), (1, false), (2, false), (3, false), (4, false), (5, false), (6, false), (7, false)] (fun u => u.heap = w3.heap) (by kernel_rfl) (by kernel_rfl) rfl ?_
 iterate 8 (refine' plan_val rfl rfl (fun w' hS => ?_) ?_; rotate_left; (focus (obtain ⟨h0, h1, h2⟩ := HMT.out w' hS; first | (go_simp; rfl) | (go_simp; done))); simp only [Act.put, List.setIfInBounds_toArray, List.set_cons_zero, List.set_cons_succ])
 refine plan_nil ?_
 obtain ⟨w4, hw4⟩ : ∃ u, w3.drew = u := ⟨_, rfl⟩
 rw [hw4]
 have HH4 : Hid (w4.heap = w3.heap) := Lib.hid (by rw [← hw4]; rfl)
 have HB4 : Hid (Below C w w4) := Lib.hid (by rw [← hw4]; exact HB3.out.drew)
 have HR4 : Hid (w4.heap[C]? = some (.cells #[.pointer (some ⟨rb, 0, none⟩)] 66 (0, 0)) ∧ w4.heap[C + 1]? = some (.cells #[.int .u8 (to_ : Int)] 5 (0, 0)) ∧ w4.heap[C + 2]? = some (.cells pkz.toArray 38 (0, 0))) := Lib.hid (by rw [HH4.out]; exact HR3.out)
 have HU4 : Hid (Below w3.heap.size w3 w4) := Lib.hid (by rw [← hw4]; exact (Below.refl _ _).drew)
 clear hw4 c0
 by_cases hcar : n ≤ to_
 · have j0 : (n : Int) ≤ (to_ : Int) := by omega
   have HQ : Hid (openM M to_ bs = (pd0, 1)) := Lib.hid (by unfold openM; rw [if_pos (by rw [HN.out]; exact hcar)])
   clear hcar
   go_wp2_with ((with_reducible refine wpList_at (.store 38 (.tmp 6) (.tmp 28)) rfl ?_); go_loud (refine wpList_store_agg rfl _ _ _ rfl (C + 2) 0 pkz rfl rfl (there_of HR4.out.2.2 16 (by decide)) (by kernel_rfl) rfl ?_))
   refine bodyPost_ret (res_pkt rfl _ rfl rfl (putL_heap (cs := pkz) HR4.out.2.2 pkz rfl) rfl) rfl ?_
   exact OpenQ.no HQ.out (by rw [HCQ.out]; exact putL_below HBB.out _ _ _ HB4.out)
 · have j0 : ¬ (n : Int) ≤ (to_ : Int) := by omega
   by_cases hl32 : bl < 32
   · have j1 : (bl : Int) < 32 := by omega
     have HQ : Hid (openM M to_ bs = (pd0, 110)) := Lib.hid (by unfold openM; rw [if_neg (by rw [HN.out]; exact hcar), if_pos (by rw [HBL.out]; exact hl32)])
     clear hcar hl32
     go_wp2_with ((with_reducible refine wpList_at (.store 38 (.tmp 6) (.tmp 33)) rfl ?_); go_loud (refine wpList_store_agg rfl _ _ _ rfl (C + 2) 0 pkz rfl rfl (there_of HR4.out.2.2 16 (by decide)) (by kernel_rfl) rfl ?_))
     refine bodyPost_ret (res_pkt rfl _ rfl rfl (putL_heap (cs := pkz) HR4.out.2.2 pkz rfl) rfl) rfl ?_
     exact OpenQ.no HQ.out (by rw [HCQ.out]; exact putL_below HBB.out _ _ _ HB4.out)
   · have j1 : ¬ (bl : Int) < 32 := by omega
     have HQ0 : Hid (openM M to_ bs = (if someR M to_ (cutT bs) (cutD bs) M.length = false then (pd0, 110) else if (parseTM (cutT bs)).2 ≠ 0 then (pd0, (parseTM (cutT bs)).2) else
       if (parseTM (cutT bs)).1.dst ≠ to_ ∨ rightM M (parseTM (cutT bs)).1.fr to_ (cutT bs) (cutD bs) = false then (pd0, 101) else ((parseTM (cutT bs)).1, 0))) := Lib.hid (by unfold openM; rw [if_neg (by rw [HN.out]; exact hcar), if_neg (by rw [HBL.out]; exact hl32)])
     obtain ⟨cu, hcu⟩ : ∃ c, bl - 32 = c := ⟨_, rfl⟩
     have g1 : IntKind.i64.wrap ((bl : Int) - 32) = (cu : Int) := by rw [IntWalk.i64_in _ (by omega)]; omega
     have g2 : (bl : Int) - 32 = (cu : Int) := by omega
     clear hcar
     have hbq : bs.length = bl := HBL.out
     obtain ⟨gb, gof, rfl, hgb, hgc⟩ := HS3.out.get (k := 0) (x := bv (bs.getD 0 0)) (by rw [List.getElem?_map, List.getD_eq_getElem?_getD, List.getElem?_eq_getElem (by omega)]; rfl)
     have g3 : cu ≤ bl := by omega
     have g4 : cu ≤ bc := by omega
     have g5 : bl - cu = 32 := by omega
     have g6 : ¬ bc = cu := by omega
     have HX3 : Hid (RowAt T w3 (.slice (some ⟨gb, gof, none⟩) cu cu) ((cutT bs).map bv)) := Lib.hid (by
      refine ⟨_, cu, ?_, ?_, ?_, (fun e => by cases e), fun _ => ⟨gb, gof, rfl, hgb, fun i x hi => ?_⟩⟩
      · rw [List.length_map, cutT_len hbq hcu]
      · rw [List.length_map, cutT_len hbq hcu]; omega
      · unfold maxLen; omega
      · unfold cutT at hi
        rw [hbq, hcu, List.map_take, List.getElem?_take] at hi
        split at hi
        · exact (HS3.out.get hi).elim fun b h => by obtain ⟨off, e, _, hc⟩ := h; cases e; exact hc
        · cases hi)
     have HDL : Hid ((cutD bs).length = 32) := Lib.hid (by unfold cutD; rw [List.length_drop]; omega)
     have HD3 : Hid (∀ u : World, Below w4.heap.size w4 u → u.rangeAt gb (gof + cu) ((cutD bs).map bv)) := Lib.hid (by
      intro u hu j x hj
      unfold cutD at hj
      rw [hbq, hcu, List.map_drop, List.getElem?_drop] at hj
      obtain ⟨b, off, e, _, hc⟩ := HS3.out.get hj
      cases e
      have hg3 : gb < w4.heap.size := by rw [HH4.out, HZ3.out]; have := HT.out gb hgb; omega
      rw [Nat.add_assoc]
      refine (World.cell?_of_block (a := ⟨gb, gof + (cu + j), none⟩) (hu.block gb hg3)).trans ?_
      exact (World.cell?_of_block (a := ⟨gb, gof + (cu + j), none⟩) (by rw [HH4.out])).trans hc)
     have hTC : Hid (gb < C) := Lib.hid (HT.out gb hgb)
     have HTC := hTC
     obtain ⟨E, hE⟩ : ∃ E, w4.heap.size = E := ⟨_, rfl⟩
     have HEQ := Lib.hid hE
     have HEC : Hid (C ≤ E) := Lib.hid (by rw [← hE, HH4.out, HZ3.out]; omega)
     obtain ⟨cs, hcs⟩ : ∃ cs, (cutD bs).map bv = cs := ⟨_, rfl⟩
     have HCL : Hid (cs.length = 32) := Lib.hid (by rw [← hcs, List.length_map, HDL.out])
     have HCO : Hid (cs.all (·.oneCell') = true) := Lib.hid (by rw [← hcs]; exact bytes_one _)
     have HOP : Hid (∀ (u : World) (xB dB : Nat), Below E w4 u → u.cell? ⟨xB, 0, none⟩ = some (.slice (some ⟨gb, gof, none⟩) cu cu) → u.heap[dB]? = some (.cells cs.toArray 78 (0, 0)) → OpenAt u B rb C (C + 1) xB dB M to_ (cutT bs) (cutD bs)) := Lib.hid (by
      intro u xB dB hu hx hd
      have hu3 : Below w3.heap.size w3 u := HU4.out.trans (hu.mono (by rw [← hE, HH4.out]; exact Nat.le_refl _))
      refine ⟨HG3.out.on hu3, (hu3.cell (p := ⟨C, 0, none⟩) (by rw [HZ3.out]; show C < C + 3; omega)).trans (cell_of_row w3 C 0 _ _ _ HR3.out.1), (hu3.cell (p := ⟨C + 1, 0, none⟩) (by rw [HZ3.out]; show C + 1 < C + 3; omega)).trans (cell_of_row w3 (C + 1) 0 _ _ _ HR3.out.2.1), ⟨T, _, hx, HX3.out.any (fun k hk => by rw [HZ3.out]; have := HT.out k hk; omega) hu3, fun k hk => ?_⟩, by rw [hcs]; exact hd, HDL.out, HK3.out.on hu3⟩
      have h1 := hu3.size
      rw [HZ3.out] at h1
      have := HT.out k hk; omega)
     rw [hcs] at HD3
     have HCS := Lib.hid hcs
     clear hbq hgb hgc hl32 hcu hTC hcs hE
     go_upto_region 8 with fail
     rw [show decide (n ≤ to_) = false from decide_eq_false (by omega)]
     go_cut [9, 10] (fun p9 p10 wx => ∃ xB dB, p9 = .pointer (some ⟨xB, 0, none⟩) ∧ p10 = .pointer (some ⟨dB, 0, none⟩) ∧ Hid (OpenAt wx B rb C (C + 1) xB dB M to_ (cutT bs) (cutD bs)) ∧ Hid (Below C w wx) ∧ Hid (Below w4.heap.size w4 wx))
     case first =>
      refine wp_region_planT (.val 0 (.val 1 (.val 2 (.val 3 (.val 4 (.val 5 (.val 6 (.val 7 (.val 8 (.two 9 (.one 10 (.one 11 (.one 12 .nil))) 10 (.one 9 (.one 11 (.one 12 .nil))))))))))))) (fun u => Below w4.heap.size w4 u) (by kernel_rfl) (by kernel_rfl) (Below.refl _ _).drew ?_
      iterate 8 (refine' planT_val rfl rfl (fun w' hS => ?_) ?_; rotate_left; (focus (first | (go_simp; rfl) | (go_simp; done))); simp only [Act.put, List.setIfInBounds_toArray, List.set_cons_zero, List.set_cons_succ])
      (refine' planT_val rfl rfl (fun w' hS => exec_load_mid 78 _ rfl gb (gof + cu) rfl cs _ (HD3.out w' hS) Tryz.underlying78 rfl (by rw [HCL.out]; kernel_rfl)) ?_; simp only [Act.put, List.setIfInBounds_toArray, List.set_cons_zero, List.set_cons_succ])
      obtain ⟨w5, hw5⟩ : ∃ u, w4.drew = u := ⟨_, rfl⟩
      have HE5 : Hid (w5.heap.size = E) := Lib.hid (by rw [← hw5]; exact HEQ.out)
      have HB45 : Hid (Below w4.heap.size w4 w5) := Lib.hid (by rw [← hw5]; exact (Below.refl _ _).drew)
      have HB45' : Hid (Below E w4 w5) := Lib.hid (by rw [← HEQ.out]; exact HB45.out)
      rw [hw5]
      clear hw5
      refine planT_two ?_ ?_
      · refine planT_op rfl (fun K hK => ?_)
        go_wp2_with fail
        obtain ⟨u1, hu1⟩ : ∃ u, w5.alloc (.cells #[.slice none 0 0] 72) = u := ⟨_, rfl⟩
        have hE : w5.heap.size = E := HE5.out
        have z1 : u1.heap.size = E + 1 := by rw [← hu1]; simp [hE]
        have HU1 : Hid (Below w4.heap.size w4 u1) := Lib.hid (by rw [← hu1]; exact HB45.out.alloc (by rw [HE5.out, HEQ.out]; exact Nat.le_refl _) _)
        have HX1 := Lib.hid hu1
        have HZ1 := Lib.hid z1
        rw [hu1]
        try rw [hE]
        clear hE hu1 z1
        refine hK _ _ HU1.out ?_
        clear hK K
        refine planT_do rfl (fun K hK => ?_)
        go_wp2_with ((with_reducible refine wpList_at (.alloc 78) rfl ?_); go_loud (refine wpList_alloc_cells rfl _ rfl _ zero32 ?_))
        obtain ⟨u2, hu2⟩ : ∃ u, u1.alloc (.cells (pad32 []).toArray 78) = u := ⟨_, rfl⟩
        have HU2 : Hid (Below w4.heap.size w4 u2) := Lib.hid (by rw [← hu2]; exact HU1.out.alloc (by rw [HZ1.out, HEQ.out]; omega) _)
        have HX2 := Lib.hid hu2
        have hx2 : u2.heap[E]? = some (.cells #[.slice none 0 0] 72 (0, 0)) := by rw [← hu2]; exact (Below.heap_alloc _ _ _ (by rw [HZ1.out]; omega)).trans (by rw [← HX1.out, ← HE5.out]; exact heap_alloc_new w5 _)
        have hd2 : u2.heap[E + 1]? = some (.cells (pad32 []).toArray 78 (0, 0)) := by rw [← hu2, ← HZ1.out]; exact heap_alloc_new _ _
        have cx2 : u2.cell? ⟨E, 0, none⟩ = some (.slice none 0 0) := cell_of_row u2 E 0 _ _ _ hx2
        have fx2 : u2.frozen? ⟨E, 0, none⟩ = false := frozen_of_row u2 E 0 _ _ hx2
        have HD2 := Lib.hid hd2
        rw [hu2]
        try rw [HZ1.out]
        clear hu2 hx2 hd2
        refine hK _ _ HU2.out ?_
        clear hK K
        refine planT_do rfl (fun K hK => ?_)
        go_wp2_with fail
        obtain ⟨u3, hu3⟩ : ∃ u, u2.setCell ⟨E, 0, none⟩ (.slice (some ⟨gb, gof, none⟩) cu cu) = u := ⟨_, rfl⟩
        have HU3 : Hid (Below w4.heap.size w4 u3) := Lib.hid (by rw [← hu3]; exact HU2.out.setCell (by rw [HEQ.out]; show E ≤ E; omega) _)
        have HX3' := Lib.hid hu3
        have HD3' : Hid (u3.heap[E + 1]? = some (.cells (pad32 []).toArray 78 (0, 0))) := Lib.hid (by rw [← hu3]; exact (heap_setCell_other _ _ _ _ (by simp)).trans HD2.out)
        rw [hu3]
        clear hu3 cx2 fx2
        refine hK _ _ HU3.out ?_
        clear hK K
        refine planT_do rfl (fun K hK => ?_)
        go_wp2_with ((with_reducible refine wpList_at (.store 78 (.tmp 10) (.tmp 45)) rfl ?_); go_loud (refine wpList_store_agg rfl _ _ _ rfl (E + 1) 0 cs rfl rfl (by rw [HCL.out]; exact there_of HD3'.out 32 (by decide)) (by rw [HCL.out]; kernel_rfl) HCO.out ?_))
        obtain ⟨u4, hu4⟩ : ∃ u, u3.setCells (E + 1) 0 cs = u := ⟨_, rfl⟩
        obtain ⟨r1, r2, r3⟩ := open_memA w5 u1 u2 u3 u4 E HE5.out _ cs HCL.out HX1.out HX2.out HX3'.out hu4
        rw [hu4]
        have r0 : Below E w4 u4 := HB45'.out.trans r1
        refine hK _ _ (by rw [HEQ.out]; exact r0) ?_
        clear hK K
        refine planT_nil ?_
        simp only [Act.put]
        go_wp2_with fail
        go_meet
        exact ⟨E, E + 1, rfl, rfl, Lib.hid (HOP.out u4 _ _ r0 r2 r3), Lib.hid (HB4.out.trans (r0.mono HEC.out)), Lib.hid (by rw [HEQ.out]; exact r0)⟩
      · refine planT_op rfl (fun K hK => ?_)
        go_wp2_with ((with_reducible refine wpList_at (.alloc 78) rfl ?_); go_loud (refine wpList_alloc_cells rfl _ rfl _ zero32 ?_))
        obtain ⟨u1, hu1⟩ : ∃ u, w5.alloc (.cells (pad32 []).toArray 78) = u := ⟨_, rfl⟩
        have hE : w5.heap.size = E := HE5.out
        have z1 : u1.heap.size = E + 1 := by rw [← hu1]; simp [hE]
        have HU1 : Hid (Below w4.heap.size w4 u1) := Lib.hid (by rw [← hu1]; exact HB45.out.alloc (by rw [HE5.out, HEQ.out]; exact Nat.le_refl _) _)
        have HX1 := Lib.hid hu1
        have HZ1 := Lib.hid z1
        rw [hu1]
        try rw [hE]
        clear hE hu1 z1
        refine hK _ _ HU1.out ?_
        clear hK K
        refine planT_do rfl (fun K hK => ?_)
        go_wp2_with fail
        obtain ⟨u2, hu2⟩ : ∃ u, u1.alloc (.cells #[.slice none 0 0] 72) = u := ⟨_, rfl⟩
        have HU2 : Hid (Below w4.heap.size w4 u2) := Lib.hid (by rw [← hu2]; exact HU1.out.alloc (by rw [HZ1.out, HEQ.out]; omega) _)
        have HX2 := Lib.hid hu2
        have hx2 : u2.heap[E + 1]? = some (.cells #[.slice none 0 0] 72 (0, 0)) := by rw [← hu2, ← HZ1.out]; exact heap_alloc_new _ _
        have hd2 : u2.heap[E]? = some (.cells (pad32 []).toArray 78 (0, 0)) := by rw [← hu2]; exact (Below.heap_alloc _ _ _ (by rw [HZ1.out]; omega)).trans (by rw [← HX1.out, ← HE5.out]; exact heap_alloc_new w5 _)
        have cx2 : u2.cell? ⟨E + 1, 0, none⟩ = some (.slice none 0 0) := cell_of_row u2 (E + 1) 0 _ _ _ hx2
        have fx2 : u2.frozen? ⟨E + 1, 0, none⟩ = false := frozen_of_row u2 (E + 1) 0 _ _ hx2
        have HD2 := Lib.hid hd2
        rw [hu2]
        try rw [HZ1.out]
        clear hu2 hx2 hd2
        refine hK _ _ HU2.out ?_
        clear hK K
        refine planT_do rfl (fun K hK => ?_)
        go_wp2_with fail
        obtain ⟨u3, hu3⟩ : ∃ u, u2.setCell ⟨E + 1, 0, none⟩ (.slice (some ⟨gb, gof, none⟩) cu cu) = u := ⟨_, rfl⟩
        have HU3 : Hid (Below w4.heap.size w4 u3) := Lib.hid (by rw [← hu3]; exact HU2.out.setCell (by rw [HEQ.out]; show E ≤ E + 1; omega) _)
        have HX3' := Lib.hid hu3
        have HD3' : Hid (u3.heap[E]? = some (.cells (pad32 []).toArray 78 (0, 0))) := Lib.hid (by rw [← hu3]; exact (heap_setCell_other _ _ _ _ (by simp)).trans HD2.out)
        rw [hu3]
        clear hu3 cx2 fx2
        refine hK _ _ HU3.out ?_
        clear hK K
        refine planT_do rfl (fun K hK => ?_)
        go_wp2_with ((with_reducible refine wpList_at (.store 78 (.tmp 10) (.tmp 45)) rfl ?_); go_loud (refine wpList_store_agg rfl _ _ _ rfl E 0 cs rfl rfl (by rw [HCL.out]; exact there_of HD3'.out 32 (by decide)) (by rw [HCL.out]; kernel_rfl) HCO.out ?_))
        obtain ⟨u4, hu4⟩ : ∃ u, u3.setCells E 0 cs = u := ⟨_, rfl⟩
        obtain ⟨r1, r2, r3⟩ := open_memB w5 u1 u2 u3 u4 E HE5.out _ cs HCL.out HX1.out HX2.out HX3'.out hu4
        rw [hu4]
        have r0 : Below E w4 u4 := HB45'.out.trans r1
        refine hK _ _ (by rw [HEQ.out]; exact r0) ?_
        clear hK K
        refine planT_nil ?_
        simp only [Act.put]
        go_wp2_with fail
        go_meet
        exact ⟨E + 1, E, rfl, rfl, Lib.hid (HOP.out u4 _ _ r0 r2 r3), Lib.hid (HB4.out.trans (r0.mono HEC.out)), Lib.hid (by rw [HEQ.out]; exact r0)⟩
     case rest =>
      obtain ⟨xB, dB, rfl, rfl, HO, HB5, HU5⟩ := hcut
      have HRZ : Hid (∀ u : World, Below wc.heap.size wc u → u.heap[C + 2]? = some (.cells pkz.toArray 38 (0, 0))) := Lib.hid (by
       intro u hu
       have hz4 : C + 2 < w4.heap.size := by rw [HH4.out, HZ3.out]; omega
       exact (hu.block _ (Nat.lt_of_lt_of_le hz4 HU5.out.size)).trans ((HU5.out.block _ hz4).trans HR4.out.2.2))
      have HCW : Hid (C ≤ wc.heap.size) := Lib.hid (Nat.le_trans (by rw [HH4.out, HZ3.out]; omega) HU5.out.size)
      have HVC : Hid (VarsOk wc) := Lib.hid (HV3.out.on (HU4.out.trans (HU5.out.mono (by rw [HH4.out]; exact Nat.le_refl _))) (Nat.le_refl _))
      obtain ⟨X, hX⟩ : ∃ t, cutT bs = t := ⟨_, rfl⟩
      obtain ⟨D, hD⟩ : ∃ t, cutD bs = t := ⟨_, rfl⟩
      have hXl : X.length ≤ 17592186044416 := by rw [← hX, cutT_len HBL.out rfl]; omega
      rw [hX, hD] at HO
      rw [hX, hD, HN.out] at HQ0
      have HXL := Lib.hid hXl
      have c0 := HO.out.r
      have d0 : wc.cell? ⟨rb, 0, none⟩ = some (.int .i64 (n : Int)) := by obtain ⟨_, h, _⟩ := HO.out.ring.look; rw [HN.out] at h; exact h
      clear hX hD hXl j0 j1
      go_wp2_with fail
      go_loopw [12, 51] (fun sv kv wr => ∃ k : Nat, k ≤ n ∧ kv = .int .i64 (k : Int) ∧ sv = .bool (someR M to_ X D k) ∧ Hid (Below wc.heap.size wc wr)) (fun _ kv _ => n - (intOf kv).toNat)
      case atStart => exact ⟨0, Nat.zero_le _, rfl, rfl, Lib.hid (Below.refl _ _)⟩
      case round =>
       obtain ⟨k, hk, rfl, rfl, HBR⟩ := hrel
       obtain ⟨sb, hsb⟩ : ∃ b, someR M to_ X D k = b := ⟨_, rfl⟩
       rw [hsb]
       have HSB := Lib.hid hsb
       clear hsb
       by_cases hlt : k < n
       · have b3 : (0 : Int) ≤ k := by omega
         have b4 : (k : Int) < n := by omega
         have b5 : IntKind.u8.wrap (k : Int) = (k : Int) := IntWalk.u8_in _ (by omega)
         have HRC := Lib.hid (right_any B rb C (C + 1) xB dB M k to_ X D wr (HO.out.on HBR.out) HLM.out HXL.out)
         obtain ⟨rv, hrv⟩ : ∃ b, rightM M k to_ X D = b := ⟨_, rfl⟩
         rw [hrv] at HRC
         have HSN : Hid (someR M to_ X D (k + 1) = (rv || sb)) := Lib.hid (by rw [someR_more, hrv, HSB.out])
         clear hrv
         cases rv
         all_goals
          go_wp2_with (go_at_call 66; go_loud (refine HRC.out.mono ?_); rintro e wn ⟨rfl, hb⟩; have HB6 := Lib.hid (HBR.out.trans (hb.mono HBR.out.size)); clear hb)
          go_roundw
          case rel => exact ⟨k + 1, by omega, by go_num, by rw [HSN.out]; rfl, HB6⟩
          case measure => simp [intOf]; omega
       · obtain rfl : k = n := by omega
         have hkk : ¬ (k : Int) < (k : Int) := by omega
         cases sb with
         | false =>
           have HQ : Hid (openM M to_ bs = (pd0, 110)) := Lib.hid (by rw [HQ0.out, if_pos HSB.out])
           have HZR : Hid (wr.heap[C + 2]? = some (.cells pkz.toArray 38 (0, 0))) := Lib.hid (HRZ.out wr HBR.out)
           have HBW : Hid (Below C w wr) := Lib.hid (HB5.out.trans (HBR.out.mono HCW.out))
           go_wp2_with ((with_reducible refine wpList_at (.store 38 (.tmp 6) (.tmp 64)) rfl ?_); go_loud (refine wpList_store_agg rfl _ _ _ rfl (C + 2) 0 pkz rfl rfl (there_of HZR.out 16 (by decide)) (by kernel_rfl) rfl ?_))
           refine bodyPost_ret (res_pkt rfl _ rfl rfl (putL_heap (cs := pkz) HZR.out pkz rfl) rfl) rfl ?_
           exact OpenQ.no HQ.out (by rw [HCQ.out]; exact putL_below HBB.out _ _ _ HBW.out)
         | true =>
           have HQ1 : Hid (openM M to_ bs = (if (parseTM X).2 ≠ 0 then (pd0, (parseTM X).2) else if (parseTM X).1.dst ≠ to_ ∨ rightM M (parseTM X).1.fr to_ X D = false then (pd0, 101) else ((parseTM X).1, 0))) := Lib.hid (by rw [HQ0.out, if_neg (by rw [HSB.out]; simp)])
           obtain ⟨S, tv, cx, hxr, _⟩ := (HO.out.on HBR.out).x
           have hcv := conv_row hxr
           have HPR := Lib.hid (mParse_any ⟨X.toArray⟩ wr (HVC.out.on HBR.out (Nat.le_refl _)))
           obtain ⟨R, hR⟩ : ∃ R, parseTM X = R := ⟨_, rfl⟩
           obtain ⟨q, qk⟩ := R
           unfold ParseMQ at HPR
           rw [show (ByteArray.mk X.toArray).data.toList = X from rfl, hR] at HPR
           rw [hR] at HQ1
           have HSZ : Hid (wc.heap.size ≤ wr.heap.size) := Lib.hid HBR.out.size
           clear hR hxr
           simp only at HPR HQ1
           go_upto_region 19 with (first | ((with_reducible refine wpList_at (.store 38 (.tmp 14) _) rfl ?_); go_loud (refine wpList_store_agg rfl _ _ _ rfl wp.heap.size 0 (pktA q) rfl rfl (there_of (heap_alloc_new wp (.cells pkz.toArray 38)) 16 (by decide)) (by kernel_rfl) rfl ?_)) | (go_at_call 23; go_loud (refine HPR.out.mono ?_); rintro e wp ⟨rfl, hb⟩; have HB7 : Hid (Below wc.heap.size wc wp) := Lib.hid (HBR.out.trans (hb.mono HBR.out.size)); clear hb))
           obtain ⟨G, hG⟩ : ∃ G, wp.heap.size = G := ⟨_, rfl⟩
           obtain ⟨w7, hw7⟩ : ∃ u, wp.alloc (.cells pkz.toArray 38) = u := ⟨_, rfl⟩
           obtain ⟨w8, hw8⟩ : ∃ u, w7.setCells G 0 (pktA q) = u := ⟨_, rfl⟩
           have hg8 : w8.heap[G]? = some (.cells (pktA q).toArray 38 (0, 0)) := by
            rw [← hw8]
            exact putL_heap (cs := pkz) (by rw [← hw7, ← hG]; exact heap_alloc_new _ _) (pktA q) rfl
           have hbg : Below wc.heap.size wc wp := HB7.out
           have HBX : Hid (Below wc.heap.size wc w8) := Lib.hid (by
            have := hbg.size
            rw [← hw8]
            refine putL_below (by rw [← hG]; exact this) _ _ _ ?_
            rw [← hw7]
            exact hbg.alloc this _)
           have hgp : Hid (G < w8.heap.size) := Lib.hid (Array.getElem?_eq_some_iff.1 hg8).1
           have HGP := hgp
           have HG8 := Lib.hid hg8
           have ct := (HO.out.on HBX.out).t
           have cf0 : w8.cell? ⟨G, 0, none⟩ = some (.int .u8 (q.fr : Int)) := (cell_of_row w8 G 0 _ _ _ hg8).trans rfl
           have cf1 : w8.cell? ⟨G, 1, none⟩ = some (.int .u8 (q.dst : Int)) := (cell_of_row w8 G 1 _ _ _ hg8).trans rfl
           rw [show (wp.alloc (.cells #[.int .u8 0, .int .u8 0, .bool false, .int .u64 0, .int .u8 0, .int .u8 0, .int .u64 0, .int .u8 0, .int .u8 0, .int .u16 0, .int .u32 0, .int .i64 0, .int .u8 0, .int .u32 0, .int .i64 0, .int .i64 0] 38)) = w7 from hw7, hG, hw8]
           clear hG hw7 hw8 hg8 hbg hgp cx hcv c0 d0
           by_cases hqk : qk = 0
           · subst hqk
             have n0 : ((0 : Int) != 0) = false := by simp
             by_cases hd : q.dst = to_
             · have n1 : ((q.dst : Int) != (to_ : Int)) = false := by rw [hd]; simp
               have HRC := Lib.hid (right_any B rb C (C + 1) xB dB M q.fr to_ X D w8 (HO.out.on HBX.out) HLM.out HXL.out)
               obtain ⟨rv, hrv⟩ : ∃ b, rightM M q.fr to_ X D = b := ⟨_, rfl⟩
               rw [hrv] at HRC
               have HQ2 : Hid (openM M to_ bs = (if rv = false then (pd0, 101) else (q, 0))) := Lib.hid (by
                rw [HQ1.out, if_neg (by simp)]
                simp only [hd, hrv, ne_eq, not_true_eq_false, false_or])
               clear hrv
               cases rv with
               | false =>
                 have HQ : Hid (openM M to_ bs = (pd0, 101)) := Lib.hid (by rw [HQ2.out, if_pos rfl])
                 go_upto_region 22 with (go_at_call 66; go_loud (refine HRC.out.mono ?_); rintro e wn ⟨rfl, hb⟩; have HBY := Lib.hid (HBX.out.trans (hb.mono HBX.out.size)); clear hb)
                 clear HBX
                 have HBX := HBY
                 have HZR : Hid (wn.heap[C + 2]? = some (.cells pkz.toArray 38 (0, 0))) := Lib.hid (HRZ.out wn HBX.out)
                 have HBW : Hid (Below C w wn) := Lib.hid (HB5.out.trans (HBX.out.mono HCW.out))
                 go_wp2_with ((with_reducible refine wpList_at (.store 38 (.tmp 6) (.tmp 88)) rfl ?_); go_loud (refine wpList_store_agg rfl _ _ _ rfl (C + 2) 0 pkz rfl rfl (there_of HZR.out 16 (by decide)) (by kernel_rfl) rfl ?_))
                 refine bodyPost_ret (res_pkt rfl _ rfl rfl (putL_heap (cs := pkz) HZR.out pkz rfl) rfl) rfl ?_
                 exact OpenQ.no HQ.out (by rw [HCQ.out]; exact putL_below HBB.out _ _ _ HBW.out)
               | true =>
                 have HQ : Hid (openM M to_ bs = (q, 0)) := Lib.hid (by rw [HQ2.out, if_neg (by simp)])
                 go_upto_region 23 with (go_at_call 66; go_loud (refine HRC.out.mono ?_); rintro e wn ⟨rfl, hb⟩; have HBY := Lib.hid (HBX.out.trans (hb.mono HBX.out.size)); have HG9 : Hid (wn.heap[G]? = some (.cells (pktA q).toArray 38 (0, 0))) := Lib.hid ((hb.block G HGP.out).trans HG8.out); clear hb)
                 have HZR : Hid (wn.heap[C + 2]? = some (.cells pkz.toArray 38 (0, 0))) := Lib.hid (HRZ.out wn HBY.out)
                 have HBW : Hid (Below C w wn) := Lib.hid (HB5.out.trans (HBY.out.mono HCW.out))
                 go_wp2_with (first | ((with_reducible refine wpList_at (.load 38 (.tmp 14)) rfl ?_); go_loud (refine wpList_load_mid rfl 38 _ rfl G 0 rfl (pktA q) _ (range_row HG9.out) Tryz.underlying38 rfl (by kernel_rfl) ?_)) | ((with_reducible refine wpList_at (.store 38 (.tmp 6) (.tmp 89)) rfl ?_); go_loud (refine wpList_store_agg rfl _ _ _ rfl (C + 2) 0 (pktA q) rfl rfl (there_of HZR.out 16 (by decide)) (by kernel_rfl) rfl ?_)))
                 refine bodyPost_ret (res_pkt rfl _ rfl rfl (putL_heap (cs := pkz) HZR.out (pktA q) rfl) rfl) rfl ?_
                 exact ⟨by rw [HQ.out]; rfl, by rw [HCQ.out]; exact putL_below HBB.out _ _ _ HBW.out⟩
             · have n1 : ((q.dst : Int) != (to_ : Int)) = true := by rw [bne_iff_ne]; omega
               have HQ : Hid (openM M to_ bs = (pd0, 101)) := Lib.hid (by rw [HQ1.out, if_neg (by simp), if_pos (.inl hd)])
               clear hd
               have HZR : Hid (w8.heap[C + 2]? = some (.cells pkz.toArray 38 (0, 0))) := Lib.hid (HRZ.out w8 HBX.out)
               have HBW : Hid (Below C w w8) := Lib.hid (HB5.out.trans (HBX.out.mono HCW.out))
               go_wp2_with ((with_reducible refine wpList_at (.store 38 (.tmp 6) (.tmp 88)) rfl ?_); go_loud (refine wpList_store_agg rfl _ _ _ rfl (C + 2) 0 pkz rfl rfl (there_of HZR.out 16 (by decide)) (by kernel_rfl) rfl ?_))
               refine bodyPost_ret (res_pkt rfl _ rfl rfl (putL_heap (cs := pkz) HZR.out pkz rfl) rfl) rfl ?_
               exact OpenQ.no HQ.out (by rw [HCQ.out]; exact putL_below HBB.out _ _ _ HBW.out)
           · have n0 : (qk != 0) = true := by rw [bne_iff_ne]; exact hqk
             have HQ : Hid (openM M to_ bs = (pd0, qk)) := Lib.hid (by rw [HQ1.out, if_pos hqk])
             have HZR : Hid (w8.heap[C + 2]? = some (.cells pkz.toArray 38 (0, 0))) := Lib.hid (HRZ.out w8 HBX.out)
             have HBW : Hid (Below C w w8) := Lib.hid (HB5.out.trans (HBX.out.mono HCW.out))
             go_wp2_with ((with_reducible refine wpList_at (.store 38 (.tmp 6) (.tmp 74)) rfl ?_); go_loud (refine wpList_store_agg rfl _ _ _ rfl (C + 2) 0 pkz rfl rfl (there_of HZR.out 16 (by decide)) (by kernel_rfl) rfl ?_))
             refine bodyPost_ret (res_pkt rfl _ rfl rfl (putL_heap (cs := pkz) HZR.out pkz rfl) rfl) rfl ?_
             exact OpenQ.no HQ.out (by rw [HCQ.out]; exact putL_below HBB.out _ _ _ HBW.out)
structure RowsO (w : World) (B : Nat) (v : Value) (l : List Str) : Prop where
 ex : ∃ ys : List Value, w.ownsRow B 72 1 v l.length ys ∧ ys.length = l.length ∧ ∀ (j : Nat) (s : Str) (y : Value), l[j]? = some s → ys[j]? = some y → OwnS w B y s
structure KeysO (w : World) (B : Nat) (v : Value) (L : List (List Str)) : Prop where
 ex : ∃ xs : List Value, w.ownsRow B 73 1 v L.length xs ∧ xs.length = L.length ∧ (∀ (i j : Nat) (x y : Value) (b : Nat), i ≠ j → xs[i]? = some x → xs[j]? = some y → x.ownBlock = some b → y.ownBlock ≠ some b) ∧ ∀ (i : Nat) (r : List Str) (x : Value), L[i]? = some r → xs[i]? = some x → RowsO w B x r
theorem RowsO.nil (w : World) (B : Nat) : RowsO w B (.slice none 0 0) [] := ⟨[], World.ownsRow_nil _ _ _ _, rfl, fun j s y h => by cases h⟩
theorem KeysO.nil (w : World) (B : Nat) : KeysO w B (.slice none 0 0) [] := ⟨[], World.ownsRow_nil _ _ _ _, rfl, (fun i j x y b _ h => by cases h), fun i r x h => (by cases h)⟩
theorem OwnS.rowAt {w : World} {B : Nat} {v : Value} {l : Str} (h : OwnS w B v l) : RowAt (fun b => B ≤ b ∧ b < w.heap.size) w v (l.map bv) := by
 have h1 : w.ownsRow B 5 1 v (l.map bv).length (l.map bv) := by rw [List.length_map]; exact h
 exact own_rest h1 (fun k hk => own_lt h1 hk)
theorem RowsO.bss {w : World} {B : Nat} {v : Value} {l : List Str} (h : RowsO w B v l) : BssAt (fun b => B ≤ b ∧ b < w.heap.size) w v l := by
 obtain ⟨ys, h1, h2, h3⟩ := h.ex
 rw [← h2] at h1
 exact ⟨ys, own_rest h1 (fun k hk => own_lt h1 hk), h2, fun i e x he hx => (h3 i e x he hx).rowAt⟩
theorem KeysO.bsss {w : World} {B : Nat} {v : Value} {L : List (List Str)} (h : KeysO w B v L) : BsssAt (fun b => B ≤ b ∧ b < w.heap.size) w v L := by
 obtain ⟨xs, h1, h2, _, h3⟩ := h.ex
 rw [← h2] at h1
 exact ⟨xs, own_rest h1 (fun k hk => own_lt h1 hk), h2, fun i e x he hx => (h3 i e x he hx).bss⟩
theorem RowsO.ag {w w' : World} {B : Nat} {v : Value} {l : List Str} (h : RowsO w B v l) (hg : ∀ k, B ≤ k → k < w.heap.size → w'.heap[k]? = w.heap[k]?) : RowsO w' B v l := by
 obtain ⟨ys, h1, h2, h3⟩ := h.ex
 exact ⟨ys, own_cong h1 (fun k hk => hg k (own_lt h1 hk).1 (own_lt h1 hk).2), h2, fun j s y hs hy => own_cong (h3 j s y hs hy) (fun k hk => hg k (own_lt (h3 j s y hs hy) hk).1 (own_lt (h3 j s y hs hy) hk).2)⟩
theorem KeysO.ag {w w' : World} {B : Nat} {v : Value} {L : List (List Str)} (h : KeysO w B v L) (hg : ∀ k, B ≤ k → k < w.heap.size → w'.heap[k]? = w.heap[k]?) : KeysO w' B v L := by
 obtain ⟨xs, h1, h2, h3, h4⟩ := h.ex
 exact ⟨xs, own_cong h1 (fun k hk => hg k (own_lt h1 hk).1 (own_lt h1 hk).2), h2, h3, fun i r x hr hx => (h4 i r x hr hx).ag hg⟩
theorem RowsO.on {w w' : World} {B : Nat} {v : Value} {l : List Str} (h : RowsO w B v l) (hb : Below w.heap.size w w') : RowsO w' B v l := h.ag (fun k _ hk => hb.block k hk)
theorem KeysO.on {w w' : World} {B : Nat} {v : Value} {L : List (List Str)} (h : KeysO w B v L) (hb : Below w.heap.size w w') : KeysO w' B v L := h.ag (fun k _ hk => hb.block k hk)
theorem RowsO.le {w : World} {B B' : Nat} {v : Value} {l : List Str} (h : RowsO w B v l) (hB : B' ≤ B) : RowsO w B' v l := by
 obtain ⟨ys, h1, h2, h3⟩ := h.ex
 exact ⟨ys, own_le h1 hB, h2, fun j s y hs hy => own_le (h3 j s y hs hy) hB⟩
theorem RowsO.grown {w w' : World} {B B' : Nat} {v v2 : Value} {l : List Str} {n : Nat} {zs : List Value} (h : RowsO w B v l) (hv : w.ownsRow B' 73 1 v2 n zs) (hg : w.grownBy w' v2.ownBlock) : RowsO w' B v l := by
 obtain ⟨ys, h1, h2, h3⟩ := h.ex
 exact ⟨ys, own_cong h1 (fun k hk => hg.block k (own_lt h1 hk).2 (fun e => own_ne h1 hv (by decide) hk e.symm)), h2, fun j s y hs hy => own_cong (h3 j s y hs hy) (fun k hk => hg.block k (own_lt (h3 j s y hs hy) hk).2 (fun e => own_ne (h3 j s y hs hy) hv (by decide) hk e.symm))⟩
theorem rows_step {w w1 w3 : World} {B : Nat} {v v' y : Value} {ys : List Value} {l : List Str} {s : Str} (h1 : w.ownsRow B 72 1 v l.length ys) (h2 : ys.length = l.length) (h3 : ∀ (j : Nat) (s : Str) (y : Value), l[j]? = some s → ys[j]? = some y → OwnS w B y s)
  (hb : Below w.heap.size w w1) (hy : OwnS w1 B y s) (hg : w1.grownBy w3 v.ownBlock) (ho : w3.ownsRow B 72 1 v' (l.length + 1) (ys ++ [y])) : RowsO w3 B v' (l ++ [s]) := by
 have h1' : w1.ownsRow B 72 1 v l.length ys := own_cong h1 (fun k hk => hb.block k (own_lt h1 hk).2)
 refine ⟨ys ++ [y], by rw [List.length_append]; exact ho, by simp [h2], fun j s' y' hs hy' => ?_⟩
 by_cases hj : j < l.length
 · rw [List.getElem?_append_left hj] at hs
   rw [List.getElem?_append_left (by omega)] at hy'
   have h0 := h3 j s' y' hs hy'
   have h0' : OwnS w1 B y' s' := own_cong h0 (fun k hk => hb.block k (own_lt h0 hk).2)
   exact own_cong h0' (fun k hk => hg.block k (own_lt h0' hk).2 (fun e => own_ne h0' h1' (by decide) hk e.symm))
 · rw [List.getElem?_append_right (by omega)] at hs hy'
   have hj0 : j - l.length = 0 := by
    have := (List.getElem?_eq_some_iff.1 hs).1
    simp at this; omega
   rw [hj0] at hs
   rw [show j - ys.length = 0 by omega] at hy'
   cases hs; cases hy'
   exact own_cong hy (fun k hk => hg.block k (own_lt hy hk).2 (fun e => own_ne hy h1' (by decide) hk e.symm))
theorem keys_step {w w1 w3 : World} {B : Nat} {v v' x : Value} {xs : List Value} {L : List (List Str)} {r : List Str} (h1 : w.ownsRow B 73 1 v L.length xs) (h2 : xs.length = L.length)
  (hd : ∀ (i j : Nat) (x y : Value) (b : Nat), i ≠ j → xs[i]? = some x → xs[j]? = some y → x.ownBlock = some b → y.ownBlock ≠ some b) (h3 : ∀ (i : Nat) (r : List Str) (x : Value), L[i]? = some r → xs[i]? = some x → RowsO w B x r)
  (hb : Below w.heap.size w w1) (hB : B ≤ w.heap.size) (hx : RowsO w1 w.heap.size x r) (hg : w1.grownBy w3 v.ownBlock) (ho : w3.ownsRow B 73 1 v' (L.length + 1) (xs ++ [x])) : KeysO w3 B v' (L ++ [r]) := by
 have h1' : w1.ownsRow B 73 1 v L.length xs := own_cong h1 (fun k hk => hb.block k (own_lt h1 hk).2)
 have hold : ∀ (i : Nat) (x : Value), xs[i]? = some x → ∀ b, x.ownBlock = some b → b < w.heap.size := fun i x hx b he => by
  have hi : i < L.length := by have := (List.getElem?_eq_some_iff.1 hx).1; omega
  obtain ⟨ys, q1, _⟩ := (h3 i _ x (List.getElem?_eq_getElem hi) hx).ex
  exact (own_lt q1 he).2
 have hnew : ∀ b, x.ownBlock = some b → w.heap.size ≤ b := fun b he => by
  obtain ⟨ys, q1, _⟩ := hx.ex
  exact (own_lt q1 he).1
 have hcase : ∀ (i : Nat) (z : Value), (xs ++ [x])[i]? = some z → (i < xs.length ∧ xs[i]? = some z) ∨ (i = xs.length ∧ z = x) := fun i z hz => by
  by_cases hi : i < xs.length
  · rw [List.getElem?_append_left hi] at hz; exact .inl ⟨hi, hz⟩
  · rw [List.getElem?_append_right (by omega)] at hz
    have := (List.getElem?_eq_some_iff.1 hz).1
    have h0 : i - xs.length = 0 := by simp at this; omega
    rw [h0] at hz; cases hz
    exact .inr ⟨by omega, rfl⟩
 refine ⟨xs ++ [x], by rw [List.length_append]; exact ho, by simp [h2], fun i j a b k hij ha hb' hk => ?_, fun i r' x' hr hx' => ?_⟩
 · rcases hcase i a ha with ⟨ia, ea⟩ | ⟨ia, ea⟩ <;> rcases hcase j b hb' with ⟨jb, eb⟩ | ⟨jb, eb⟩
   · exact hd i j a b k hij ea eb hk
   · subst eb
     intro h; have := hnew k h; have := hold i a ea k hk; omega
   · subst ea
     intro h; have := hnew k hk; have := hold j b eb k h; omega
   · omega
 · rcases hcase i x' hx' with ⟨ia, ea⟩ | ⟨ia, ea⟩
   · rw [List.getElem?_append_left (by omega)] at hr
     exact ((h3 i r' x' hr ea).on hb).grown h1' hg
   · rw [List.getElem?_append_right (by omega)] at hr
     rw [show i - L.length = 0 by omega] at hr
     cases hr; subst ea
     exact ((hx.le hB).grown h1' hg)
theorem einfo_bytes : (Tryz.prog.info? 72).map (fun i => (i.zero, i.size, i.bytes)) = some (some (.slice none 0 0), 1, 24) := by kernel_rfl
theorem einfo_bytess : (Tryz.prog.info? 73).map (fun i => (i.zero, i.size, i.bytes)) = some (some (.slice none 0 0), 1, 24) := by kernel_rfl
theorem wp_app_el {t e : TypeId} (ht : Tryz.prog.underlying t = some (.slice e)) (he : (Tryz.prog.info? e).map (fun i => (i.zero, i.size, i.bytes)) = some (some (.slice none 0 0), 1, 24)) {ops : Array Oper} {rest : List Oper} {o : Oper} {a : Act} {Q : Exit → Act → World → Prop} (hgd : o.guard = none) (s x : Operand)
  (ho : o.op = .call { callee := .builtin .append, args := #[s, x], argTypes := #[t, t] }) {w : World} {B n : Nat} {v y : Value} {xs : List Value} (hs : a.eval s = v) (hx : a.eval x = .slice (some ⟨w.heap.size, 0, none⟩) 1 1) (hown : w.ownsRow B e 1 v n xs) (hy : y.oneCell' = true) (hn : n + 1 ≤ 1000000) (hB : B ≤ w.heap.size)
  (h : ∀ v' w', w'.ownsRow B e 1 v' (n + 1) (xs ++ [y]) → w.grownBy w' v.ownBlock → wpList Tryz.prog ops Q rest (a.put o.dst v') w') : wpList Tryz.prog ops Q (o :: rest) a (w.alloc (.cells #[y] e)) := by
 obtain ⟨i0, hi, hz0, hz1, hz2⟩ := info_parts he
 refine wpList_append_own_at _ hgd s x t ho B e i0 (.slice none 0 0) 1 24 ht hi hz0 hz1 hz2 rfl (by decide) v n xs hs (hown.alloc _) ⟨w.heap.size, 0, none⟩ 1 1 [y] hx rfl (cell_one_new _ _ _) (by simpa using hy) (by unfold maxLen; omega) (by omega) (by simp; omega) ?_
 intro v' w' h1 h2 _ _
 exact h v' w' h1 (grown_alloc h2)
theorem own_one (w : World) (B : Nat) (hB : B ≤ w.heap.size) (c : UInt8) : OwnS (w.alloc (.cells #[.int .u8 (c.toNat : Int)] 5)) B (.slice (some ⟨w.heap.size, 0, none⟩) 1 1) [c] :=
 ⟨rfl, .inr ⟨w.heap.size, 1, #[.int .u8 (c.toNat : Int)], rfl, hB, heap_alloc_new _ _, Nat.le_refl _, by decide, rfl, rfl⟩⟩
def keyC (i k : Nat) : UInt8 := UInt8.ofNat (16 * i + k)
def keysRow (n i : Nat) (more : Str) : List Str := (List.range n).map fun k => keyC i k :: more
def keysM (n : Nat) (more : Str) : List (List Str) := (List.range n).map fun i => keysRow n i more
def KeysQ (L : List (List Str)) (w : World) (e : Ending) (w' : World) : Prop := ∃ v', e = .returned v' ∧ KeysO w' w.heap.size v' L ∧ Below w.heap.size w w'
set_option maxRecDepth 100000 in
set_option maxHeartbeats 16000000 in
theorem lkeys_any {T : Nat → Prop} (n : Nat) (hn8 : n ≤ 8) (more : Str) (mv : Value) (w : World) (h : RowAt T w mv (more.map bv)) (hT : ∀ k, T k → k < w.heap.size) (hml : more.length ≤ 60) :
  Calls Tryz.prog 35 #[.int .i64 (n : Int), mv] w fun e w' => KeysQ (keysM n more) w e w' := by
 obtain ⟨B, hB⟩ : ∃ B, w.heap.size = B := ⟨_, rfl⟩
 have HBQ := Lib.hid hB
 obtain ⟨mo, mc, rfl, m1, m2⟩ := h.form
 rw [List.length_map] at m1 h ⊢
 obtain ⟨ml, hmln⟩ : ∃ m, more.length = m := ⟨_, rfl⟩
 rw [hmln] at m1 h hml ⊢
 have HML := Lib.hid hmln
 have HM := Lib.hid h
 have HT : Hid (∀ k, T k → k < B) := Lib.hid (by rw [← hB]; exact hT)
 clear hB h hT hmln
 go_enter Tryz.func35, Tryz.ntmps35
 go_wp2_with fail
 go_loopw [5, 6] (fun ov iv wr => ∃ i : Nat, i ≤ n ∧ iv = .int .i64 (i : Int) ∧ Hid (KeysO wr B ov ((List.range i).map fun i => keysRow n i more)) ∧ Hid (Below B w wr)) (fun _ iv _ => n - (intOf iv).toNat)
 case atStart => exact ⟨0, Nat.zero_le _, rfl, Lib.hid (KeysO.nil _ _), Lib.hid (by rw [← HBQ.out]; exact Below.refl _ _)⟩
 case round =>
  obtain ⟨i, hi, rfl, HKO, HBR⟩ := hrel
  by_cases hlt : i < n
  · have b3 : (0 : Int) ≤ i := by omega
    have b4 : (i : Int) < n := by omega
    obtain ⟨C, hC⟩ : ∃ C, wr.heap.size = C := ⟨_, rfl⟩
    have HCQ := Lib.hid hC
    obtain ⟨wo, hwo⟩ : ∃ wo : World, wo = wr := ⟨_, rfl⟩
    rw [← hwo] at HKO HBR HCQ ⊢
    clear hC hwo
    go_wp2_with fail
    go_loopw [7, 8] (fun rv kv wx => ∃ k : Nat, k ≤ n ∧ kv = .int .i64 (k : Int) ∧ Hid (RowsO wx C rv ((List.range k).map fun k => keyC i k :: more)) ∧ Hid (Below C wo wx)) (fun _ kv _ => n - (intOf kv).toNat)
    case atStart => exact ⟨0, Nat.zero_le _, rfl, Lib.hid (RowsO.nil _ _), Lib.hid (by rw [← HCQ.out]; exact Below.refl _ _)⟩
    case round =>
     obtain ⟨k, hk, rfl, HRO, HBX⟩ := hrel
     by_cases hkl : k < n
     · have e1 : (0 : Int) ≤ k := by omega
       have e2 : (k : Int) < n := by omega
       have e5 : Hid (16 * (i : Int) + (k : Int) = ((keyC i k).toNat : Int)) := Lib.hid (by
        unfold keyC; rw [UInt8.toNat_ofNat_of_lt' (by show 16 * i + k < 256; omega)]; omega)
       go_upto_region 9 with fail
       have hzx : C ≤ wr.heap.size := by have := HBX.out.size; have := HCQ.out; omega
       have HZX := Lib.hid hzx
       have hBC : B ≤ C := by have := HBR.out.size; have := HBQ.out; have := HCQ.out; omega
       obtain ⟨c, hc⟩ : ∃ c, keyC i k = c := ⟨_, rfl⟩
       rw [hc] at e5
       have HC := Lib.hid hc
       obtain ⟨w1, hw1⟩ : ∃ u, wr.alloc (.cells #[.int .u8 (16 * (i : Int) + (k : Int))] 5) = u := ⟨_, rfl⟩
       have HO1 : Hid (OwnS w1 C (.slice (some ⟨wr.heap.size, 0, none⟩) 1 1) [c]) := Lib.hid (by rw [← hw1, e5.out]; exact own_one wr C hzx c)
       have HU1 : Hid (Below wr.heap.size wr w1) := Lib.hid (by rw [← hw1]; exact (Below.refl _ _).alloc (Nat.le_refl _) _)
       have HZ1 : Hid (w1.heap.size = wr.heap.size + 1) := Lib.hid (by rw [← hw1]; simp)
       have HS1 : Hid (RowAt T w1 (.slice mo ml mc) (more.map bv)) := Lib.hid (HM.out.cong (fun _ h => h) (fun j hj => by
        have := HT.out j hj
        exact (HU1.out.block j (by omega)).trans ((HBX.out.block j (by omega)).trans (HBR.out.block j this))))
       obtain ⟨ys, y1, y2, y3⟩ := HRO.out.ex
       rw [List.length_map, List.length_range] at y1 y2
       have HY1 := Lib.hid y1
       have HY2 := Lib.hid y2
       have HY3 := Lib.hid y3
       obtain ⟨rva, rvc, rfl⟩ := own_slice y1
       have HW1 := Lib.hid hw1
       clear hc hw1 y1 y2 y3
       go_wp2_with (first
         | ((with_reducible refine wpList_at (.call { callee := .builtin .append, args := #[.tmp 25, .tmp 26], argTypes := #[72, 72] }) rfl ?_); rw [HW1.out]; refine wp_app_bytes rfl _ _ rfl rfl rfl HO1.out HS1.out (by rw [HML.out]; show 1 + ml ≤ _; omega) (by rw [HZ1.out]; omega) ?_; intro yv w2 hO hgr _; obtain ⟨ya, yc, rfl⟩ := hO.form; rw [List.length_append, List.length_singleton, HML.out] at hO ⊢; have HO2 := Lib.hid hO; have HU2 : Hid (Below wr.heap.size wr w2) := Lib.hid (HU1.out.grown hgr (by rw [HZ1.out]; omega) (fun b hb => by cases hb; exact Nat.le_refl _)); clear hO hgr)
         | ((with_reducible refine wpList_at (.call { callee := .builtin .append, args := #[.tmp 19, .tmp 28], argTypes := #[73, 73] }) rfl ?_); go_loud (refine wp_app_el (v := .slice rva k rvc) (y := .slice ya (1 + ml) yc) Tryz.underlying73 einfo_bytes rfl _ _ rfl rfl rfl (own_cong HY1.out (fun b hb => HU2.out.block b (own_lt HY1.out hb).2)) rfl (by omega) (Nat.le_trans HZX.out HU2.out.size) ?_); intro rv3 w3 h3 hg3))
       go_roundw
       case rel =>
        refine ⟨k + 1, by omega, by go_num, Lib.hid ?_, Lib.hid ?_⟩
        · rw [List.range_succ, List.map_append]
          refine rows_step (w := wr) (w1 := w2) (ys := ys) (y := .slice ya (1 + ml) yc) (v := .slice rva k rvc) (by rw [List.length_map, List.length_range]; exact HY1.out) (by rw [List.length_map, List.length_range]; exact HY2.out) HY3.out HU2.out ?_ hg3 (by rw [List.length_map, List.length_range]; exact h3)
          show OwnS w2 C _ (keyC i k :: more)
          rw [HC.out]; exact HO2.out
        · exact (HBX.out.trans (HU2.out.mono HZX.out)).grown hg3 (Nat.le_trans HZX.out HU2.out.size) (fun b hb => (own_lt HY1.out hb).1)
       case measure => simp [intOf]; omega
     · obtain rfl : k = n := by omega
       have e2 : ¬ (k : Int) < (k : Int) := by omega
       obtain ⟨xs, x1, x2, x3, x4⟩ := HKO.out.ex
       rw [List.length_map, List.length_range] at x1 x2
       have HX1 := Lib.hid x1
       have HX2 := Lib.hid x2
       have HX3 := Lib.hid x3
       have HX4 := Lib.hid x4
       obtain ⟨ova, ovc, rfl⟩ := own_slice x1
       obtain ⟨ys, y1, y2, y3⟩ := HRO.out.ex
       obtain ⟨rva, rvc, rfl⟩ := own_slice y1
       rw [List.length_map, List.length_range] at HRO ⊢
       have HBC : Hid (B ≤ C) := Lib.hid (by have := HBR.out.size; have := HBQ.out; have := HCQ.out; omega)
       have HCX : Hid (C ≤ wr.heap.size) := Lib.hid (by have := HBX.out.size; have := HCQ.out; omega)
       clear x1 x2 x3 x4 y1 y2 y3
       go_wp2_with ((with_reducible refine wpList_at (.call { callee := .builtin .append, args := #[.tmp 30, .tmp 32], argTypes := #[63, 63] }) rfl ?_); refine wp_app_el (v := .slice ova i ovc) (y := .slice rva k rvc) Tryz.underlying63 einfo_bytess rfl _ _ rfl rfl rfl (own_cong HX1.out (fun b hb => HBX.out.block b (by have := (own_lt HX1.out hb).2; have := HCQ.out; omega))) rfl (by omega) (Nat.le_trans HBC.out HCX.out) ?_; intro ov3 w3 h3 hg3)
       go_roundw
       case rel =>
        refine ⟨i + 1, by omega, by go_num, Lib.hid ?_, Lib.hid ?_⟩
        · rw [List.range_succ, List.map_append]
          refine keys_step (w := wo) (w1 := wr) (xs := xs) (v := .slice ova i ovc) (by rw [List.length_map, List.length_range]; exact HX1.out) (by rw [List.length_map, List.length_range]; exact HX2.out) HX3.out HX4.out (by rw [HCQ.out]; exact HBX.out) (by rw [HCQ.out]; exact HBC.out) (by rw [HCQ.out]; exact HRO.out) hg3 (by rw [List.length_map, List.length_range]; exact h3)
        · exact (HBR.out.trans (HBX.out.mono HBC.out)).grown hg3 (Nat.le_trans HBC.out HCX.out) (fun b hb => (own_lt HX1.out hb).1)
       case measure => simp [intOf]; omega
  · obtain rfl : i = n := by omega
    have e2 : ¬ (i : Int) < (i : Int) := by omega
    obtain ⟨xs, x1, x2, x3, x4⟩ := HKO.out.ex
    obtain ⟨ova, ovc, rfl⟩ := own_slice x1
    rw [List.length_map, List.length_range] at HKO ⊢
    clear x1 x2 x3 x4
    go_wp2_with fail
    go_ret
    exact ⟨_, rfl, by rw [HBQ.out]; exact HKO.out, by rw [HBQ.out]; exact HBR.out⟩
theorem below_le' {C : Nat} {w w1 : World} (h : Hid (w.heap.size = C)) (hb : Below C w w1) : C ≤ w1.heap.size := by have := hb.size; have := h.out; omega
def greatL (L : List (List Str)) (m : Nat) : Bool := decide (9 < L.length) || decide (2000 < m) || L.any fun r => decide (9 < r.length) || r.any fun s => decide (100 < s.length)
theorem greatL_no {L : List (List Str)} {m : Nat} (h : greatL L m = false) : L.length ≤ 9 ∧ m ≤ 2000 ∧ ∀ r ∈ L, r.length ≤ 9 ∧ ∀ s ∈ r, s.length ≤ 100 := by
 unfold greatL at h
 simp only [Bool.or_eq_false_iff, decide_eq_false_iff_not, Nat.not_lt, List.any_eq_false] at h
 refine ⟨h.1.1, h.1.2, fun r hr => ?_⟩
 have h1 := h.2 r hr
 simp only [Bool.or_eq_true, decide_eq_true_eq, not_or, Nat.not_lt, List.any_eq_true, not_exists, not_and] at h1
 exact ⟨h1.1, fun s hs => h1.2 s hs⟩
set_option maxRecDepth 100000 in
set_option maxHeartbeats 16000000 in
theorem lown_any {T : Nat → Prop} (L : List (List Str)) (v : Value) (w : World) (h : BsssAt T w v L) (hT : ∀ k, T k → k < w.heap.size) (hg : L.length ≤ 9 ∧ ∀ r ∈ L, r.length ≤ 9 ∧ ∀ s ∈ r, s.length ≤ 100) :
  Calls Tryz.prog 28 #[v] w fun e w' => KeysQ L w e w' := by
 obtain ⟨B, hB⟩ : ∃ B, w.heap.size = B := ⟨_, rfl⟩
 have HBQ := Lib.hid hB
 obtain ⟨vo, vc, rfl, v1, v2⟩ := h.form
 obtain ⟨n, hn⟩ : ∃ n, L.length = n := ⟨_, rfl⟩
 rw [hn] at v1 h hg ⊢
 unfold maxLen at v2
 have hn9 := hg.1
 have HN := Lib.hid hn
 have HG := Lib.hid hg.2
 have HL := Lib.hid h
 have HT : Hid (∀ k, T k → k < B) := Lib.hid (by rw [← hB]; exact hT)
 clear hB h hT hn hg
 go_enter Tryz.func28, Tryz.ntmps28
 go_wp2_with fail
 go_loopw [3, 4] (fun ov iv wr => ∃ i : Nat, i ≤ n ∧ iv = .int .i64 (i : Int) ∧ Hid (KeysO wr B ov (L.take i)) ∧ Hid (Below B w wr)) (fun _ iv _ => n - (intOf iv).toNat)
 case atStart => exact ⟨0, Nat.zero_le _, rfl, Lib.hid (KeysO.nil _ _), Lib.hid (by rw [← HBQ.out]; exact Below.refl _ _)⟩
 case round =>
  obtain ⟨i, hi, rfl, HKO, HBR⟩ := hrel
  have hti : (L.take i).length = i := by rw [List.length_take, HN.out]; omega
  have HTI := Lib.hid hti
  clear hti
  by_cases hlt : i < n
  · have b3 : (0 : Int) ≤ i := by omega
    have b4 : (i : Int) < n := by omega
    obtain ⟨row, hrow⟩ : ∃ r, L[i]? = some r := ⟨_, List.getElem?_eq_getElem (by rw [HN.out]; exact hlt)⟩
    obtain ⟨vb, voff, x, rfl, hvb, cv, hr⟩ := HL.out.get hrow
    obtain ⟨xo, xc, rfl, x1, x2⟩ := hr.form
    obtain ⟨m, hm⟩ : ∃ m, row.length = m := ⟨_, rfl⟩
    rw [hm] at x1 hr cv
    unfold maxLen at x2
    have hrl := HG.out row (List.mem_of_getElem? hrow)
    have hm9 : m ≤ 9 := by rw [← hm]; exact hrl.1
    have HRW := Lib.hid hr
    have HRL := Lib.hid hrl.2
    have HM := Lib.hid hm
    have HROW := Lib.hid hrow
    have HCV : Hid (∀ u, Below B w u → u.cell? ⟨vb, voff + i, none⟩ = some (.slice xo m xc)) := Lib.hid (fun u hu => (hu.cell (p := ⟨vb, voff + i, none⟩) (HT.out vb hvb)).trans cv)
    obtain ⟨C, hC⟩ : ∃ C, wr.heap.size = C := ⟨_, rfl⟩
    have HCQ := Lib.hid hC
    obtain ⟨wo, hwo⟩ : ∃ wo : World, wo = wr := ⟨_, rfl⟩
    rw [← hwo] at HKO HBR HCQ ⊢
    have HBC : Hid (B ≤ C) := Lib.hid (by have := below_le' HBQ HBR.out; have := HCQ.out; omega)
    clear hC hwo hr hrl hm hrow cv hvb
    go_wp2_with fail
    go_loopw [5, 6] (fun rv kv wx => ∃ k : Nat, k ≤ m ∧ kv = .int .i64 (k : Int) ∧ Hid (RowsO wx C rv (row.take k)) ∧ Hid (Below C wo wx)) (fun _ kv _ => m - (intOf kv).toNat)
    case atStart => exact ⟨0, Nat.zero_le _, rfl, Lib.hid (RowsO.nil _ _), Lib.hid (by rw [← HCQ.out]; exact Below.refl _ _)⟩
    case round =>
     obtain ⟨k, hk, rfl, HRO, HBX⟩ := hrel
     have HBW : Hid (Below B w wr) := Lib.hid (HBR.out.trans (HBX.out.mono HBC.out))
     have HTK : Hid ((row.take k).length = k) := Lib.hid (by rw [List.length_take, HM.out]; omega)
     have cv := HCV.out wr HBW.out
     by_cases hkl : k < m
     · have e1 : (0 : Int) ≤ k := by omega
       have e2 : (k : Int) < m := by omega
       obtain ⟨s, hs⟩ : ∃ s, row[k]? = some s := ⟨_, List.getElem?_eq_getElem (by rw [HM.out]; exact hkl)⟩
       obtain ⟨ub, uoff, y, rfl, hub, cu, hy⟩ := HRW.out.get hs
       have cu' := (HBW.out.cell (p := ⟨ub, uoff + k, none⟩) (HT.out ub hub)).trans cu
       have hsl := HRL.out s (List.mem_of_getElem? hs)
       have HSL := Lib.hid hsl
       have HSS := Lib.hid hs
       have hzx : C ≤ wr.heap.size := by have := HBX.out.size; have := HCQ.out; omega
       have HZX := Lib.hid hzx
       have HSY : Hid (RowAt T wr y (s.map bv)) := Lib.hid (hy.cong (fun _ h => h) (fun j hj => HBW.out.block j (HT.out j hj)))
       obtain ⟨yo, yc, rfl, z1, z2⟩ := hy.form
       rw [List.length_map] at HSY cu' z1
       obtain ⟨sl, hsl'⟩ : ∃ n, s.length = n := ⟨_, rfl⟩
       rw [hsl'] at HSY cu' z1
       have HSE := Lib.hid hsl'
       unfold maxLen at z2
       obtain ⟨ys, y1, y2, y3⟩ := HRO.out.ex
       rw [HTK.out] at y1 y2
       have HY1 := Lib.hid y1
       have HY2 := Lib.hid y2
       have HY3 := Lib.hid y3
       obtain ⟨rva, rvc, rfl⟩ := own_slice y1
       clear hs cu hy hsl hsl' hzx y1 y2 y3 hub
       go_wp2_with (first
         | ((with_reducible refine wpList_at (.call { callee := .builtin .append, args := #[.const (.slice none 0 0), .tmp 29], argTypes := #[72, 72] }) rfl ?_); refine wp_app_bytes (v := .slice none 0 0) (src := .slice yo sl yc) rfl _ _ rfl rfl rfl (OwnS.nil wr C) HSY.out (by have := HSL.out; simp; omega) HZX.out ?_; intro yv w2 hO hgr _; rw [List.nil_append] at hO; obtain ⟨ya, yc2, rfl⟩ := hO.form; rw [HSE.out] at hO ⊢; have HO2 := Lib.hid hO; have HU2 : Hid (Below wr.heap.size wr w2) := Lib.hid ((Below.refl _ _).grown hgr (Nat.le_refl _) (fun b hb => by cases hb)); clear hO hgr)
         | ((with_reducible refine wpList_at (.call { callee := .builtin .append, args := #[.tmp 22, .tmp 31], argTypes := #[73, 73] }) rfl ?_); go_loud (refine wp_app_el (v := .slice rva k rvc) (y := .slice ya sl yc2) Tryz.underlying73 einfo_bytes rfl _ _ rfl rfl rfl (own_cong HY1.out (fun b hb => HU2.out.block b (own_lt HY1.out hb).2)) rfl (by omega) (Nat.le_trans HZX.out HU2.out.size) ?_); intro rv3 w3 h3 hg3))
       go_roundw
       case rel =>
        refine ⟨k + 1, by omega, by go_num, Lib.hid ?_, Lib.hid ?_⟩
        · rw [List.take_add_one, HSS.out]
          refine rows_step (w := wr) (w1 := w2) (ys := ys) (y := .slice ya sl yc2) (v := .slice rva k rvc) (by rw [HTK.out]; exact HY1.out) (by rw [HTK.out]; exact HY2.out) HY3.out HU2.out HO2.out hg3 (by rw [HTK.out]; exact h3)
        · exact (HBX.out.trans (HU2.out.mono HZX.out)).grown hg3 (Nat.le_trans HZX.out HU2.out.size) (fun b hb => (own_lt HY1.out hb).1)
       case measure => simp [intOf]; omega
     · obtain rfl : k = m := by omega
       have e2 : ¬ (k : Int) < (k : Int) := by omega
       obtain ⟨xs, x1, x2, x3, x4⟩ := HKO.out.ex
       rw [HTI.out] at x1 x2
       have HX1 := Lib.hid x1
       have HX2 := Lib.hid x2
       have HX3 := Lib.hid x3
       have HX4 := Lib.hid x4
       obtain ⟨ova, ovc, rfl⟩ := own_slice x1
       have hRO := HRO.out
       rw [List.take_of_length_le (by rw [HM.out]; exact Nat.le_refl _)] at hRO
       have HROF := Lib.hid hRO
       obtain ⟨ys, y1, y2, y3⟩ := HRO.out.ex
       rw [HTK.out] at y1
       obtain ⟨rva, rvc, rfl⟩ := own_slice y1
       have HCX : Hid (C ≤ wr.heap.size) := Lib.hid (by have := HBX.out.size; have := HCQ.out; omega)
       clear x1 x2 x3 x4 y1 y2 y3 hRO
       go_wp2_with ((with_reducible refine wpList_at (.call { callee := .builtin .append, args := #[.tmp 33, .tmp 35], argTypes := #[63, 63] }) rfl ?_); refine wp_app_el (v := .slice ova i ovc) (y := .slice rva k rvc) Tryz.underlying63 einfo_bytess rfl _ _ rfl rfl rfl (own_cong HX1.out (fun b hb => HBX.out.block b (by have := (own_lt HX1.out hb).2; have := HCQ.out; omega))) rfl (by omega) (Nat.le_trans HBC.out HCX.out) ?_; intro ov3 w3 h3 hg3)
       go_roundw
       case rel =>
        refine ⟨i + 1, by omega, by go_num, Lib.hid ?_, Lib.hid ?_⟩
        · rw [List.take_add_one, HROW.out]
          refine keys_step (w := wo) (w1 := wr) (xs := xs) (v := .slice ova i ovc) (by rw [HTI.out]; exact HX1.out) (by rw [HTI.out]; exact HX2.out) HX3.out HX4.out (by rw [HCQ.out]; exact HBX.out) (by rw [HCQ.out]; exact HBC.out) (by rw [HCQ.out]; exact HROF.out) hg3 (by rw [HTI.out]; exact h3)
        · exact (HBR.out.trans (HBX.out.mono HBC.out)).grown hg3 (Nat.le_trans HBC.out HCX.out) (fun b hb => (own_lt HX1.out hb).1)
       case measure => simp [intOf]; omega
  · obtain rfl : i = n := by omega
    have e2 : ¬ (i : Int) < (i : Int) := by omega
    obtain ⟨xs, x1, x2, x3, x4⟩ := HKO.out.ex
    rw [HTI.out] at x1
    obtain ⟨ova, ovc, rfl⟩ := own_slice x1
    have hKO := HKO.out
    rw [List.take_of_length_le (by rw [HN.out]; exact Nat.le_refl _)] at hKO
    have HKF := Lib.hid hKO
    clear x1 x2 x3 x4 hKO
    go_wp2_with fail
    go_ret
    exact ⟨_, rfl, by rw [HBQ.out]; exact HKF.out, by rw [HBQ.out]; exact HBR.out⟩
theorem greatL_yes {L : List (List Str)} {m : Nat} {r : List Str} (hr : r ∈ L) (h : 9 < r.length ∨ ∃ s ∈ r, 100 < s.length) : greatL L m = true := by
 unfold greatL
 simp only [Bool.or_eq_true, decide_eq_true_eq, List.any_eq_true]
 exact .inr ⟨r, hr, h⟩
theorem greatL_false {L : List (List Str)} {m : Nat} (h1 : L.length ≤ 9) (h2 : m ≤ 2000) (h : ∀ r ∈ L, r.length ≤ 9 ∧ ∀ s ∈ r, s.length ≤ 100) : greatL L m = false := by
 unfold greatL
 simp only [Bool.or_eq_false_iff, decide_eq_false_iff_not, Nat.not_lt, List.any_eq_false, Bool.or_eq_true, decide_eq_true_eq, not_or, List.any_eq_true, not_exists, not_and]
 exact ⟨⟨h1, h2⟩, h⟩
set_option maxRecDepth 100000 in
set_option maxHeartbeats 16000000 in
theorem lgreat_any {T : Nat → Prop} (L : List (List Str)) (v : Value) (bo : Option Addr) (bl bc : Nat) (w : World) (h : BsssAt T w v L) :
  Calls Tryz.prog 26 #[v, .slice bo bl bc] w fun e w' => e = .returned (.bool (greatL L bl)) ∧ w = w' := by
 obtain ⟨vo, vc, rfl, v1, v2⟩ := h.form
 obtain ⟨n, hn⟩ : ∃ n, L.length = n := ⟨_, rfl⟩
 rw [hn] at v1 h ⊢
 unfold maxLen at v2
 have HN := Lib.hid hn
 have HL := Lib.hid h
 clear h hn
 go_enter Tryz.func26, Tryz.ntmps26
 by_cases h9 : 9 < n
 · have j0 : (9 : Int) < (n : Int) := by omega
   have HY : Hid (greatL L bl = true) := Lib.hid (by unfold greatL; rw [HN.out, decide_eq_true h9]; rfl)
   go_wp2_with fail
   go_ret
   exact ⟨by rw [HY.out]; rfl, rfl⟩
 by_cases h2k : 2000 < bl
 · have j0 : ¬ (9 : Int) < (n : Int) := by omega
   have j1 : (2000 : Int) < (bl : Int) := by omega
   have HY : Hid (greatL L bl = true) := Lib.hid (by unfold greatL; rw [decide_eq_true h2k]; simp)
   go_wp2_with fail
   go_ret
   exact ⟨by rw [HY.out]; rfl, rfl⟩
 have j0 : ¬ (9 : Int) < (n : Int) := by omega
 have j1 : ¬ (2000 : Int) < (bl : Int) := by omega
 have HB : Hid (n ≤ 9 ∧ bl ≤ 2000) := Lib.hid (by omega)
 clear h9 h2k
 go_wp2_with fail
 go_loopw [5] (fun iv wr => ∃ i : Nat, i ≤ n ∧ iv = .int .i64 (i : Int) ∧ Hid (∀ r ∈ L.take i, r.length ≤ 9 ∧ ∀ s ∈ r, s.length ≤ 100) ∧ Hid (wr = w)) (fun iv _ => n - (intOf iv).toNat)
 case atStart => exact ⟨0, Nat.zero_le _, rfl, Lib.hid (fun r hr => by cases hr), Lib.hid rfl⟩
 case round =>
  obtain ⟨i, hi, rfl, HGD, HWR⟩ := hrel
  by_cases hlt : i < n
  · have b3 : (0 : Int) ≤ i := by omega
    have b4 : (i : Int) < n := by omega
    obtain ⟨row, hrow⟩ : ∃ r, L[i]? = some r := ⟨_, List.getElem?_eq_getElem (by rw [HN.out]; exact hlt)⟩
    obtain ⟨vb, voff, x, rfl, hvb, cv0, hr⟩ := HL.out.get hrow
    obtain ⟨xo, xc, rfl, x1, x2⟩ := hr.form
    obtain ⟨m, hm⟩ : ∃ m, row.length = m := ⟨_, rfl⟩
    rw [hm] at x1 hr cv0
    unfold maxLen at x2
    have HRW := Lib.hid hr
    have HM := Lib.hid hm
    have HMEM := Lib.hid (List.mem_of_getElem? hrow)
    have HROW := Lib.hid hrow
    have HCV := Lib.hid cv0
    have cv : wr.cell? ⟨vb, voff + i, none⟩ = some (.slice xo m xc) := by rw [HWR.out]; exact cv0
    clear hr hm hrow cv0 hvb
    by_cases hm9 : 9 < m
    · have j2 : (9 : Int) < (m : Int) := by omega
      have HY : Hid (greatL L bl = true) := Lib.hid (greatL_yes HMEM.out (.inl (by rw [HM.out]; exact hm9)))
      go_wp2_with fail
      go_ret
      exact ⟨by rw [HY.out]; rfl, HWR.out.symm⟩
    · have j2 : ¬ (9 : Int) < (m : Int) := by omega
      obtain ⟨wo, hwo⟩ : ∃ wo : World, wo = wr := ⟨_, rfl⟩
      rw [← hwo] at HWR cv ⊢
      clear hwo
      go_wp2_with fail
      clear cv
      go_loopw [6] (fun kv wx => ∃ k : Nat, k ≤ m ∧ kv = .int .i64 (k : Int) ∧ Hid (∀ s ∈ row.take k, s.length ≤ 100) ∧ Hid (wx = w)) (fun kv _ => m - (intOf kv).toNat)
      case atStart => exact ⟨0, Nat.zero_le _, rfl, Lib.hid (fun r hr => by cases hr), HWR⟩
      case round =>
       obtain ⟨k, hk, rfl, HGK, HWX⟩ := hrel
       have cv : wr.cell? ⟨vb, voff + i, none⟩ = some (.slice xo m xc) := by rw [HWX.out]; exact HCV.out
       by_cases hkl : k < m
       · have e1 : (0 : Int) ≤ k := by omega
         have e2 : (k : Int) < m := by omega
         obtain ⟨s, hs⟩ : ∃ s, row[k]? = some s := ⟨_, List.getElem?_eq_getElem (by rw [HM.out]; exact hkl)⟩
         obtain ⟨ub, uoff, y, rfl, hub, cu0, hy⟩ := HRW.out.get hs
         obtain ⟨yo, yc, rfl, z1, z2⟩ := hy.form
         rw [List.length_map] at cu0 z1
         obtain ⟨sl, hsl⟩ : ∃ n, s.length = n := ⟨_, rfl⟩
         rw [hsl] at cu0 z1
         have HSL := Lib.hid hsl
         have HSM := Lib.hid (List.mem_of_getElem? hs)
         have HSS := Lib.hid hs
         have cu : wr.cell? ⟨ub, uoff + k, none⟩ = some (.slice yo sl yc) := by rw [HWX.out]; exact cu0
         unfold maxLen at z2
         clear hs hsl hy cu0 hub
         by_cases hs1 : 100 < sl
         · have j3 : (100 : Int) < (sl : Int) := by omega
           have HY : Hid (greatL L bl = true) := Lib.hid (greatL_yes HMEM.out (.inr ⟨s, HSM.out, by rw [HSL.out]; exact hs1⟩))
           go_wp2_with fail
           go_ret
           exact ⟨by rw [HY.out]; rfl, HWX.out.symm⟩
         · have j3 : ¬ (100 : Int) < (sl : Int) := by omega
           have HNX : Hid (∀ s ∈ row.take (k + 1), s.length ≤ 100) := Lib.hid (fun t ht => by
            rw [List.take_add_one, HSS.out] at ht
            rcases List.mem_append.1 ht with ht | ht
            · exact HGK.out t ht
            · have ht' : t = s := by simpa using ht
              rw [ht', HSL.out]; omega)
           go_wp2_with fail
           go_roundw
           case rel => exact ⟨k + 1, by omega, by go_num, HNX, HWX⟩
           case measure => simp [intOf]; omega
       · obtain rfl : k = m := by omega
         have e2 : ¬ (k : Int) < (k : Int) := by omega
         have HNX : Hid (∀ r ∈ L.take (i + 1), r.length ≤ 9 ∧ ∀ s ∈ r, s.length ≤ 100) := Lib.hid (fun t ht => by
          rw [List.take_add_one, HROW.out] at ht
          rcases List.mem_append.1 ht with ht | ht
          · exact HGD.out t ht
          · have ht' : t = row := by simpa using ht
            have hg := HGK.out
            rw [List.take_of_length_le (by rw [HM.out]; exact Nat.le_refl _)] at hg
            rw [ht']; exact ⟨by rw [HM.out]; omega, hg⟩)
         go_wp2_with fail
         go_roundw
         case rel => exact ⟨i + 1, by omega, by go_num, HNX, HWX⟩
         case measure => simp [intOf]; omega
  · obtain rfl : i = n := by omega
    have e2 : ¬ (i : Int) < (i : Int) := by omega
    have HY : Hid (greatL L bl = false) := Lib.hid (greatL_false (by rw [HN.out]; exact HB.out.1) HB.out.2 (by have := HGD.out; rw [List.take_of_length_le (by rw [HN.out]; exact Nat.le_refl _)] at this; exact this))
    go_wp2_with fail
    go_ret
    exact ⟨by rw [HY.out]; rfl, HWR.out.symm⟩
set_option maxRecDepth 100000 in
set_option maxHeartbeats 2000000 in
theorem gcarriers_nil (w : World) : Calls Tryz.prog 31 #[.pointer none] w fun e w' => e = .returned (.int .i64 0) ∧ w = w' := by
 go_enter Tryz.func31, Tryz.ntmps31
 go_wp2_with fail
 go_ret
 exact ⟨rfl, rfl⟩
set_option maxRecDepth 100000 in
set_option maxHeartbeats 2000000 in
theorem gcarriers_any (B rb : Nat) (M : List (List Str)) (w : World) (h : RingAt w B rb M) : Calls Tryz.prog 31 #[.pointer (some ⟨rb, 0, none⟩)] w fun e w' => e = .returned (.int .i64 (M.length : Int)) ∧ w = w' := by
 obtain ⟨mb, c0, _⟩ := h.look
 go_enter Tryz.func31, Tryz.ntmps31
 go_wp2_with fail
 go_ret
 exact ⟨rfl, rfl⟩
theorem some_of {M : List (List Str)} {to_ i k : Nat} {x d : Str} (hi : i < k) (h : rightM M i to_ x d = true) : someR M to_ x d k = true := by
 unfold someR
 rw [List.any_eq_true]
 exact ⟨i, List.mem_range.2 hi, h⟩
theorem right_self {M : List (List Str)} {p : PD} (hm : mayS M p) (t : Str) : rightM M p.fr p.dst t (macM (keyAt M p.fr p.dst) t) = true := by
 unfold rightM
 rw [decide_eq_true (show p.fr < M.length ∧ p.dst < M.length ∧ p.fr ≠ p.dst from hm), decide_eq_true rfl]; rfl
theorem cut_app (t m : Str) (hm : m.length = 32) : cutT (t ++ m) = t ∧ cutD (t ++ m) = m := by
 unfold cutT cutD
 rw [List.length_append, hm, Nat.add_sub_cancel]
 exact ⟨List.take_left' rfl, List.drop_left' rfl⟩
theorem open_seal {M : List (List Str)} {p : PD} {t : Str} (hp : okPD p) (hm : mayS M p) (ht : textM p = (t, 0)) : openM M p.dst (t ++ macM (keyAt M p.fr p.dst) t) = (p, 0) := by
 obtain ⟨e1, e2⟩ := cut_app t _ (macM_len (keyAt M p.fr p.dst) t)
 obtain ⟨b1, _⟩ := text_back hp.num ht
 unfold openM
 rw [e1, e2, if_neg (by have := hm.2.1; omega), if_neg (by rw [List.length_append, macM_len]; omega), some_of hm.1 (right_self hm t), if_neg (by simp), b1]
 simp only
 rw [if_neg (by simp), right_self hm t, if_neg (by simp)]
theorem keyC_val {i k : Nat} (hi : i < 8) (hk : k < 8) : (keyC i k).toNat = 16 * i + k := by
 unfold keyC; exact UInt8.toNat_ofNat_of_lt' (by show 16 * i + k < 256; omega)
theorem keyAt_keys {n : Nat} {more : Str} {i k : Nat} (hi : i < n) (hk : k < n) : keyAt (keysM n more) i k = keyC i k :: more := by
 unfold keyAt keysM keysRow
 rw [List.getD_eq_getElem?_getD, List.getD_eq_getElem?_getD, List.getElem?_map, List.getElem?_range hi, Option.map_some, Option.getD_some, List.getElem?_map, List.getElem?_range hk]; rfl
theorem keyAt_le {n : Nat} {more : Str} (hm : more.length ≤ 60) (i k : Nat) : (keyAt (keysM n more) i k).length ≤ 61 := by
 by_cases hi : i < n
 · by_cases hk : k < n
   · rw [keyAt_keys hi hk]; simp; omega
   · have : keyAt (keysM n more) i k = [] := by
      unfold keyAt keysM keysRow
      rw [List.getD_eq_getElem?_getD, List.getD_eq_getElem?_getD, List.getElem?_map, List.getElem?_range hi, Option.map_some, Option.getD_some, List.getElem?_map, List.getElem?_eq_none (by simpa using hk)]; rfl
     rw [this]; simp
 · have : keyAt (keysM n more) i k = [] := by
    unfold keyAt keysM
    rw [List.getD_eq_getElem?_getD, List.getD_eq_getElem?_getD, List.getElem?_map, List.getElem?_eq_none (l := List.range n) (by simpa using hi)]; rfl
   rw [this]; simp
theorem keysM_len (n : Nat) (more : Str) : (keysM n more).length = n := by unfold keysM; simp
theorem rowKs_mem {row : List Str} {i m : Nat} {s : Str} : s ∈ rowKs row i m ↔ ∃ k, k < m ∧ k ≠ i ∧ row.getD k [] = s := by
 unfold rowKs
 simp only [List.mem_map, List.mem_filter, List.mem_range, bne_iff_ne, ne_eq]
 exact ⟨fun ⟨k, ⟨a, b⟩, c⟩ => ⟨k, a, b, c⟩, fun ⟨k, a, b, c⟩ => ⟨k, ⟨a, b⟩, c⟩⟩
theorem nodup_map {α β : Type} {f : α → β} {l : List α} (hn : l.Nodup) (hf : ∀ a ∈ l, ∀ b ∈ l, f a = f b → a = b) : (l.map f).Nodup := by
 rw [List.Nodup, List.pairwise_map]
 exact List.Pairwise.imp_of_mem (fun ha hb hne h => hne (hf _ ha _ hb h)) hn
theorem good_keys {K : List (List Str)} {n : Nat} {more : Str} (h2 : 2 ≤ n) (h8 : n ≤ 8) (hm : more.length ≤ 60) (hl : K.length = n) (hr : ∀ r ∈ K, r.length = n) (hk : ∀ i k, i < n → k < n → i ≠ k → keyAt K i k = keyC i k :: more) : goodB K = true := by
 have hmem : ∀ (j : Nat), j ≤ n → ∀ s, s ∈ allKs K j → ∃ i k, i < j ∧ k < n ∧ i ≠ k ∧ s = keyC i k :: more := fun j hj s hs => by
  unfold allKs at hs
  obtain ⟨i, hi, hs⟩ := List.mem_flatMap.1 hs
  obtain ⟨k, a, b, c⟩ := rowKs_mem.1 hs
  rw [List.mem_range] at hi
  rw [hl] at a
  exact ⟨i, k, hi, a, fun e => b e.symm, by rw [← hk i k (by omega) a (fun e => b e.symm), ← c]; rfl⟩
 have hinj : ∀ {i k i' k' : Nat}, i < n → k < n → i' < n → k' < n → (keyC i k :: more) = (keyC i' k' :: more) → i = i' ∧ k = k' := fun {i k i' k'} a b c d e => by
  have e1 := congrArg UInt8.toNat (List.cons.inj e).1
  rw [keyC_val (by omega) (by omega), keyC_val (by omega) (by omega)] at e1
  omega
 have hnd : ∀ j, j ≤ n → (allKs K j).Nodup := fun j => by
  induction j with
  | zero => intro _; exact List.nodup_nil
  | succ j ih =>
    intro hj
    rw [allKs_more, List.nodup_append]
    refine ⟨ih (by omega), ?_, fun a ha b hb e => ?_⟩
    · unfold rowKs
      refine nodup_map (List.Nodup.sublist List.filter_sublist List.nodup_range) (fun a ha b hb e => ?_)
      rw [List.mem_filter, List.mem_range, hl, bne_iff_ne] at ha hb
      have ea := hk j a (by omega) ha.1 (fun e => ha.2 e.symm)
      have eb := hk j b (by omega) hb.1 (fun e => hb.2 e.symm)
      unfold keyAt at ea eb
      rw [ea, eb] at e
      exact (hinj (by omega) ha.1 (by omega) hb.1 e).2
    · obtain ⟨i, k, a1, a2, a3, a4⟩ := hmem j (by omega) a ha
      obtain ⟨k', b1, b2, b3⟩ := rowKs_mem.1 hb
      rw [hl] at b1
      have eb := hk j k' (by omega) b1 (fun e => b2 e.symm)
      unfold keyAt at eb
      rw [← b3, eb, a4] at e
      have := (hinj (by omega) a2 (by omega) b1 e).1
      omega
 unfold goodB goodL
 simp only [Bool.and_eq_true, decide_eq_true_eq, List.all_eq_true]
 refine ⟨⟨⟨by omega, by omega⟩, fun r hr' => by rw [hr r hr', hl]⟩, fun s hs => ?_, hnd _ (by omega)⟩
 obtain ⟨i, k, _, _, _, rfl⟩ := hmem _ (by omega) s hs
 simp; omega
theorem goodB_keysM {n : Nat} {more : Str} (h2 : 2 ≤ n) (h8 : n ≤ 8) (hm : more.length ≤ 60) : goodB (keysM n more) = true :=
 good_keys h2 h8 hm (keysM_len _ _) (fun r hr => by unfold keysM at hr; obtain ⟨i, _, rfl⟩ := List.mem_map.1 hr; unfold keysRow; simp) (fun i k hi hk _ => keyAt_keys hi hk)
end Go.Proofs.YtgfijlamhjjecaaGreatDoor
namespace Go.Proofs.YtgfijlamhjjecaaGreatDoor
theorem mayM_ok {hh : Bool × Bool × Bool} {m : MD} (hk : hasK m.kind = some hh) (ht : mayT m.tc m.ts = true) (hm : mayM hh m = true) : okM m := by
 obtain ⟨t1, t2, t3⟩ := mayT_iff.1 ht
 obtain ⟨k1, k2⟩ := hasK_cases hk
 clear hk ht
 unfold mayM at hm
 rcases k2 with rfl | rfl | rfl | rfl | rfl
 all_goals
  simp only [partsB, valsB, if_true, if_false, Bool.false_eq_true, List.append_nil, List.nil_append, List.cons_append, inBB, cpnB, amtB, codB, inB, c0B, M50, Bool.and_eq_true, decide_eq_true_eq, Bool.and_true, Bool.true_or, Bool.false_or] at hm
  exact ⟨by omega, by omega, by omega, by omega, by omega, by omega, by omega, by omega, by omega, by omega, by omega, by omega⟩
theorem md0_ok : okM md0 := ⟨by decide, by decide, by decide, by decide, by decide, by decide, by decide, by decide, by decide, by decide, by decide, by decide⟩
theorem mayP_ok {p : PD} (hn : p.num < 18446744073709551616) (h : mayP p = true) : okPD p := by
 unfold mayP at h
 simp only [Bool.and_eq_true, decide_eq_true_eq] at h
 obtain ⟨⟨h1, h2⟩, h3⟩ := h
 refine ⟨by omega, by omega, hn, ?_⟩
 split at h3
 · rw [m0B_iff.1 h3]; exact md0_ok
 · rw [Bool.and_eq_true] at h3
   obtain ⟨h4, h5⟩ := h3
   split at h5
   · rename_i hh hk
     exact mayM_ok hk h4 h5
   · cases h5
end Go.Proofs.YtgfijlamhjjecaaGreatDoor
