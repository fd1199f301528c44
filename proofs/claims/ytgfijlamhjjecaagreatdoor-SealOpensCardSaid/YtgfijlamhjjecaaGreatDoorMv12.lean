/-
  Texts ShaG, ShaH, ShaI, ShaJ, KMapG, SealA, SealB, SealC, one behind the other. No condition beyond those stated in each.
-/
import Derived.Test.YtgfijlamhjjecaaGreatDoorMv11
import Derived.Test.YtgfijlamhjjecaaGreatDoorMv1
import Derived.Test.YtgfijlamhjjecaaGreatDoorMv6
import Derived.Laws.BytesArg
import Derived.Lib.SliceRun
namespace Go.Proofs.YtgfijlamhjjecaaGreatDoor
open Go.RowKit
def xorB (key : Str) (c : UInt8) (i : Nat) : Str := (List.range 64).map fun j => if j < i then key.getD j 0 ^^^ c else key.getD j 0
theorem xorB_len (key : Str) (c : UInt8) (i : Nat) : (xorB key c i).length = 64 := by simp [xorB]
theorem xorB_get (key : Str) (c : UInt8) (i : Nat) {j : Nat} (hj : j < 64) : (xorB key c i)[j]? = some (if j < i then key.getD j 0 ^^^ c else key.getD j 0) := by simp [xorB, hj]
theorem xorB_zero (key : Str) (c : UInt8) (h : key.length ≤ 64) : xorB key c 0 = key ++ List.replicate (64 - key.length) 0 := by
 apply List.ext_getElem?
 intro j
 by_cases hj : j < 64
 · rw [xorB_get _ _ _ hj, if_neg (by omega)]
   by_cases hk : j < key.length
   · rw [List.getElem?_append_left hk, List.getD_eq_getElem?_getD, List.getElem?_eq_getElem hk]; rfl
   · rw [List.getElem?_append_right (by omega), List.getElem?_replicate, if_pos (by omega), List.getD_eq_getElem?_getD, List.getElem?_eq_none (by omega)]; rfl
 · rw [List.getElem?_eq_none (by rw [xorB_len]; omega), List.getElem?_eq_none (by rw [List.length_append, List.length_replicate]; omega)]
theorem xorB_full (key : Str) (c : UInt8) : xorB key c 64 = (List.range 64).map fun j => key.getD j 0 ^^^ c := by
 unfold xorB
 apply List.map_congr_left
 intro j hj
 rw [List.mem_range] at hj
 rw [if_pos hj]
theorem xorB_set (key : Str) (c : UInt8) {i : Nat} (hi : i < 64) : (xorB key c i).set i (key.getD i 0 ^^^ c) = xorB key c (i + 1) := by
 apply List.ext_getElem?
 intro j
 by_cases hj : j < 64
 · rw [xorB_get _ _ _ hj]
   by_cases hij : i = j
   · subst hij
     rw [List.getElem?_set_self (by rw [xorB_len]; exact hi), if_pos (by omega)]
   · rw [List.getElem?_set_ne hij, xorB_get _ _ _ hj]
     by_cases h : j < i
     · rw [if_pos h, if_pos (by omega)]
     · rw [if_neg h, if_neg (by omega)]
 · rw [List.getElem?_eq_none (by rw [List.length_set, xorB_len]; omega), List.getElem?_eq_none (by rw [xorB_len]; omega)]
def BlkQ (d : Str) (w : World) (e : Ending) (w' : World) : Prop := ∃ g, e = .returned (.slice (some ⟨g, 0, none⟩) 64 64) ∧ w'.heap[g]? = some (.cells (d.map bv).toArray 5 (0, 0)) ∧ w.heap.size ≤ g ∧ Below w.heap.size w w'
def z64 : Array Value := ((List.replicate 64 (0 : UInt8)).map bv).toArray
theorem make64 (w : World) : (Instr.makeSlice 72 (.int .i64 64) (.int .i64 64)).run Tryz.prog w = .ok (.slice (some ⟨w.heap.size, 0, none⟩) 64 64) (w.alloc (.cells z64 5)) := by kernel_rfl
set_option maxRecDepth 100000 in
set_option maxHeartbeats 4000000 in
theorem blk_any {T : Nat → Prop} (key : Str) (hk : key.length ≤ 64) (c : UInt8) (kb : Nat) (kv : Value) (w : World) (hc : w.cell? ⟨kb, 0, none⟩ = some kv) (hs : RowAt T w kv (key.map bv)) (hT : ∀ k, T k → k < w.heap.size) :
  Calls Tryz.prog 111 #[.int .u8 (c.toNat : Int), .pointer (some ⟨kb, 0, none⟩)] w fun e w' => BlkQ ((List.range 64).map fun j => key.getD j 0 ^^^ c) w e w' := by
 obtain ⟨B, hB⟩ : ∃ B, w.heap.size = B := ⟨_, rfl⟩
 have HBQ := Lib.hid hB
 have HS := Lib.hid hs
 have HT := Lib.hid hT
 obtain ⟨ao, cap, rfl, k1, k2, k3, k4⟩ := id hs
 rw [List.length_map] at k1 hc
 obtain ⟨n, hn⟩ : ∃ n, key.length = n := ⟨_, rfl⟩
 rw [hn] at k1 hc hk
 have HC := Lib.hid hc
 have HN := Lib.hid hn
 clear hB hs hT k3 k4
 go_enter Tryz.func111, Tryz.ntmps111
 have hmk := make64
 go_upto_region 2 with fail
 clear hmk
 obtain ⟨w1, hw1⟩ : ∃ u, w.alloc (.cells z64 5) = u := ⟨_, rfl⟩
 rw [hw1, HBQ.out]
 have HD1 : Hid (w1.heap[B]? = some (.cells ((List.replicate 64 (0 : UInt8)).map bv).toArray 5 (0, 0))) := Lib.hid (by rw [← hw1, ← HBQ.out]; exact heap_alloc_new _ _)
 have HB1 : Hid (Below B w w1) := Lib.hid (by rw [← hw1, ← HBQ.out]; exact (Below.refl _ _).alloc (Nat.le_refl _) _)
 have HZ1 : Hid (w1.heap.size = B + 1) := Lib.hid (by rw [← hw1, ← HBQ.out]; simp)
 have HKV : Hid (w1.cell? ⟨kb, 0, none⟩ = some (.slice ao n cap)) := Lib.hid ((HB1.out.cell (p := ⟨kb, 0, none⟩) (by rw [← HBQ.out]; exact cell_lt' HC.out)).trans HC.out)
 have hkv := HKV.out
 clear hw1 hc hn
 have HE4 : Hid (0 < (key.map bv).length → some (⟨B, 0, none⟩ : Addr) = some ⟨B, 0, none⟩ ∧ ∃ ad, ao = some ad ∧ ∀ (j : Nat) (v : Value), (key.map bv)[j]? = some v → w1.cell? (ad.add j) = some v) := Lib.hid (fun hpos => by
  obtain ⟨ao', cap', e, _, _, _, h5⟩ := HS.out
  cases e
  obtain ⟨b, off, rfl, hb, hcell⟩ := h5 (by intro e; rw [e] at hpos; simp at hpos)
  refine ⟨rfl, _, rfl, fun j v hv => ?_⟩
  rw [Addr.add_mid]
  have h1 := hcell j v hv
  exact (HB1.out.cell (p := ⟨b, off + j, none⟩) (by rw [← HBQ.out]; exact cell_lt' h1)).trans h1)
 go_upto_region 3 with ((with_reducible refine wpList_copy_splice rfl (.tmp 7) (.tmp 8) 72 72 rfl 5 Tryz.underlying72 (by kernel_rfl) (some ⟨B, 0, none⟩) ao 64 64 n cap ?e1 ?e2 B 0 ((List.replicate 64 (0 : UInt8)).map bv) 5 HD1.out (key.map bv) ?e3 ?e4 ?e5 ?e6 B w HB1.out (Nat.le_refl _) ?_); (case e1 => rfl); (case e2 => rfl); (case e3 => rw [List.length_map, HN.out]; exact (Nat.min_eq_left hk).symm); (case e4 => exact HE4.out); (case e5 => rw [List.length_map, List.length_map, List.length_replicate, HN.out]; omega); (case e6 => intro u hu; obtain ⟨x, _, rfl⟩ := List.mem_map.1 hu; rfl); intro w2 HG2 hB2; have HB2 := Lib.hid hB2; clear hB2; simp only [Act.put, List.setIfInBounds_toArray, List.set_cons_zero, List.set_cons_succ])
 have HX2 : Hid (w2.heap[B]? = some (.cells ((xorB key c 0).map bv).toArray 5 (0, 0))) := Lib.hid (by
  have h := HG2.out
  rw [xorB_zero key c (by rw [HN.out]; exact hk), List.map_append]
  have e : splice ((List.replicate 64 (0 : UInt8)).map bv) 0 (key.map bv) = key.map bv ++ (List.replicate (64 - key.length) (0 : UInt8)).map bv := by
   unfold splice
   rw [List.take_zero, List.nil_append, Nat.zero_add, List.length_map, ← List.map_drop, List.drop_replicate]
  rw [← e]; exact h)
 clear HG2 hkv
 go_wp2_with fail
 go_loopw [12] (fun i wr => ∃ k : Nat, k ≤ 64 ∧ i = .int .i64 (k : Int) ∧ Hid (wr.heap[B]? = some (.cells ((xorB key c k).map bv).toArray 5 (0, 0))) ∧ Hid (Below B w wr)) (fun i _ => 64 - (intOf i).toNat)
 case atStart => exact ⟨0, Nat.zero_le _, rfl, HX2, HB2⟩
 case round =>
  obtain ⟨k, hk64, rfl, HXR, HBR⟩ := hrel
  by_cases hlt : k < 64
  · have b1 : (0 : Int) ≤ k := by omega
    have b2 : (k : Int) < 64 := by omega
    obtain ⟨x, hx⟩ : ∃ x, key.getD k 0 = x := ⟨_, rfl⟩
    have cx : wr.cell? ⟨B, k, none⟩ = some (.int .u8 (x.toNat : Int)) := by
     rw [cell_of_row wr B k _ _ _ HXR.out, List.getElem?_toArray, List.getElem?_map, xorB_get _ _ _ hlt, if_neg (by omega), hx]; rfl
    have fx : wr.frozen? ⟨B, k, none⟩ = false := frozen_of_row wr B k _ _ HXR.out
    have g1 : bits .xor .u8 (x.toNat : Int) (c.toNat : Int) = ((x ^^^ c).toNat : Int) := by rw [u8_xor_nat _ _ x.toNat_lt c.toNat_lt, UInt8.toNat_xor]
    obtain ⟨y, hy⟩ : ∃ y, x ^^^ c = y := ⟨_, rfl⟩
    rw [hy] at g1
    have HST : Hid ((wr.setCell ⟨B, k, none⟩ (.int .u8 (y.toNat : Int))).heap[B]? = some (.cells ((xorB key c (k + 1)).map bv).toArray 5 (0, 0))) := Lib.hid (by
     rw [heap_setCell_same wr B k _ _ _ HXR.out, List.setIfInBounds_toArray, show Value.int .u8 (y.toNat : Int) = bv y from rfl, ← List.map_set, ← hy, ← hx, xorB_set key c hlt])
    clear hx hy
    go_wp2_with fail
    go_roundw
    case rel => exact ⟨k + 1, by omega, by go_num, HST, Lib.hid (HBR.out.setCell (Nat.le_refl _) _)⟩
    case measure => simp [intOf]; omega
  · obtain rfl : k = 64 := by omega
    go_wp2_with fail
    go_ret
    exact ⟨B, rfl, by rw [← xorB_full]; exact HXR.out, by rw [HBQ.out]; exact Nat.le_refl _, by rw [HBQ.out]; exact HBR.out⟩
structure PenAt (w : World) (B pb : Nat) (key msg : Str) : Prop where
 ex : ∃ hb ob L, w.heap[pb]? = some (.cells #[.pointer (some ⟨hb, 0, none⟩), .slice (some ⟨ob, 0, none⟩) 64 64] 195 (0, 0)) ∧ HashAt w hb L (blkM key 54 ++ msg) ∧ w.heap[ob]? = some (.cells ((blkM key 92).map bv).toArray 5 (0, 0)) ∧
  (B ≤ pb ∧ B ≤ hb ∧ B ≤ ob ∧ ∀ k, L = some k → B ≤ k) ∧ pb ≠ hb ∧ ob ≠ hb ∧ L ≠ some pb ∧ L ≠ some ob
theorem RowAt.cong2 {S : Nat → Prop} {w w' : World} {v : Value} {xs : List Value} {C : Nat} (h : RowAt S w v xs) (hb : Below C w w') (hC : w.heap.size = C) : RowAt (fun k => S k ∧ k < C) w' v xs := by
 obtain ⟨ao, cap, rfl, h1, h2, h3, h4⟩ := h
 refine ⟨ao, cap, rfl, h1, h2, h3, fun hx => ?_⟩
 obtain ⟨b, off, rfl, hS, hc⟩ := h4 hx
 have hlt : b < C := by
  cases xs with
  | nil => exact absurd rfl hx
  | cons x l => rw [← hC]; exact cell_lt' (hc 0 x rfl)
 exact ⟨b, off, rfl, ⟨hS, hlt⟩, fun i x hi => (World.cell?_of_block (a := ⟨b, off + i, none⟩) (hb.block b hlt)).trans (hc i x hi)⟩
def PNewQ (key : Str) (w : World) (e : Ending) (w' : World) : Prop := ∃ pb, e = .returned (.pointer (some ⟨pb, 0, none⟩)) ∧ PenAt w' w.heap.size pb key [] ∧ Below w.heap.size w w'
set_option maxRecDepth 100000 in
set_option maxHeartbeats 8000000 in
theorem pnew_any {T : Nat → Prop} (key : Str) (kv : Value) (w : World) (hs : RowAt T w kv (key.map bv)) (hT : ∀ k, T k → k < w.heap.size) (hK : VarsK w) (hl : key.length ≤ 17592186044416) :
  Calls Tryz.prog 67 #[kv] w fun e w' => PNewQ key w e w' := by
 obtain ⟨B, hB⟩ : ∃ B, w.heap.size = B := ⟨_, rfl⟩
 have HBQ := Lib.hid hB
 have HT := Lib.hid hT
 have HK := Lib.hid hK
 have hs0 := hs
 obtain ⟨ao, cap, rfl, k1, k2, k3, k4⟩ := id hs
 rw [List.length_map] at k1 hs ⊢
 obtain ⟨n, hn⟩ : ∃ n, key.length = n := ⟨_, rfl⟩
 rw [hn] at k1 hl hs ⊢
 have HS := Lib.hid hs
 have HN := Lib.hid hn
 unfold maxLen at k2
 obtain ⟨lb, hlb⟩ : ∃ b, decide ((64 : Int) < (n : Int)) = b := ⟨_, rfl⟩
 obtain ⟨w1, hw1⟩ : ∃ u, w.alloc (.cells #[.slice ao n cap] 72) = u := ⟨_, rfl⟩
 have HC1 : Hid (w1.heap[B]? = some (.cells #[.slice ao n cap] 72 (0, 0))) := Lib.hid (by rw [← hw1, ← hB]; exact heap_alloc_new _ _)
 have HB1 : Hid (Below B w w1) := Lib.hid (by rw [← hw1, ← hB]; exact (Below.refl _ _).alloc (Nat.le_refl _) _)
 have HZ1 : Hid (w1.heap.size = B + 1) := Lib.hid (by rw [← hw1, ← hB]; simp)
 have HR1 : Hid (RowAt (fun k => k < B) w1 (.slice ao n cap) (key.map bv)) := Lib.hid (hs.cong (fun k hk => by rw [← hB]; exact hT k hk) (fun k hk => HB1.out.block k (by rw [← hB]; exact hT k hk)))
 have HK1 : Hid (VarsK w1) := Lib.hid (hK.on (by rw [hB]; exact HB1.out))
 have HW1 := Lib.hid hw1
 clear hB hs hs0 hT hK k3 k4 hn hw1
 go_enter Tryz.func67, Tryz.ntmps67
 go_upto_region 1 with fail
 rw [HW1.out, HBQ.out]
 have c0 : w1.cell? ⟨B, 0, none⟩ = some (.slice ao n cap) := cell_of_row w1 B 0 _ _ _ HC1.out
 go_upto_if 8 with fail
 go_cut [3] from 9 to 11 (fun dv wr => ∃ kv, Hid (wr.heap[B]? = some (.cells #[kv] 72 (0, 0))) ∧ Hid (RowAt (fun k => k ≠ B) wr kv ((keyB key).map bv)) ∧ Hid (Below B w wr))
 case first => as_aux_lemma =>
  cases lb with
  | true =>
    have hlong : 64 < n := by have := of_decide_eq_true hlb; omega
    have b1 : (64 : Int) < (n : Int) := by omega
    have HOF := Lib.hid (hof_any key (.slice ao n cap) w1 HR1.out (fun k hk => by rw [HZ1.out]; omega) HK1.out (by rw [HN.out]; exact hl))
    obtain ⟨cs, hcs⟩ : ∃ cs, (shaM key).map bv = cs := ⟨_, rfl⟩
    have hcl : cs.length = 32 := by rw [← hcs, List.length_map, shaM_len]
    have hc1 : cs.all (·.oneCell') = true := by rw [← hcs]; exact bytes_one _
    have HKB : Hid ((keyB key).map bv = cs) := Lib.hid (by rw [← hcs]; unfold keyB; rw [if_pos (by rw [HN.out]; exact hlong)])
    have HCS := Lib.hid hcs
    have HCL := Lib.hid hcl
    have HCO := Lib.hid hc1
    clear hcs hcl hc1
    go_upto_region 3 with (first | (go_at_call 110; refine HOF.out.mono ?_; unfold DigQ; rw [HCS.out, HZ1.out]; rintro e w2 ⟨rfl, hb⟩; have HU2 := Lib.hid hb; obtain ⟨D, hD⟩ : ∃ D, w2.heap.size = D := ⟨_, rfl⟩; have HDQ := Lib.hid hD; clear hb hD) | ((with_reducible refine wpList_at (.alloc 78) rfl ?_); go_loud (refine wpList_alloc_cells rfl _ rfl _ zero32 ?_); rw [HDQ.out]; obtain ⟨w3, hw3⟩ : ∃ u, w2.alloc (.cells (pad32 []).toArray 78) = u := ⟨_, rfl⟩; rw [hw3]; have HD3 : Hid (w3.heap[D]? = some (.cells (pad32 []).toArray 78 (0, 0))) := Lib.hid (by rw [← hw3, ← HDQ.out]; exact heap_alloc_new _ _); have HU3 : Hid (Below D w2 w3) := Lib.hid (by rw [← hw3, ← HDQ.out]; exact (Below.refl _ _).alloc (Nat.le_refl _) _); clear hw3) | ((with_reducible refine wpList_at (.store 78 (.tmp 3) (.tmp 10)) rfl ?_); go_loud (refine wpList_store_agg rfl _ _ _ rfl D 0 cs rfl rfl (by rw [HCL.out]; exact there_of HD3.out 32 (by decide)) (by rw [HCL.out]; kernel_rfl) HCO.out ?_)))
    have HBD : Hid (B + 1 ≤ D) := Lib.hid (by have := HU2.out.size; rw [HZ1.out, HDQ.out] at this; exact this)
    obtain ⟨w4, hw4⟩ : ∃ u, w3.setCells D 0 cs = u := ⟨_, rfl⟩
    rw [hw4]
    have HD4 : Hid (w4.heap[D]? = some (.cells cs.toArray 78 (0, 0))) := Lib.hid (by rw [← hw4]; exact putL_heap (cs := pad32 []) HD3.out cs (by rw [HCL.out]; rfl))
    have HU4 : Hid (Below (B + 1) w1 w4) := Lib.hid (by rw [← hw4]; exact putL_below HBD.out _ _ _ (HU2.out.trans (HU3.out.mono HBD.out)))
    have HC4 : Hid (w4.heap[B]? = some (.cells #[.slice ao n cap] 72 (0, 0))) := Lib.hid ((HU4.out.block B (Nat.lt_succ_self B)).trans HC1.out)
    clear c0
    have c0 : w4.cell? ⟨B, 0, none⟩ = some (.slice ao n cap) := cell_of_row w4 B 0 _ _ _ HC4.out
    have f0 : w4.frozen? ⟨B, 0, none⟩ = false := frozen_of_row w4 B 0 _ _ HC4.out
    clear hw4
    go_wp2_with fail
    go_meet
    case rel =>
     refine ⟨.slice (some ⟨D, 0, none⟩) 32 32, Lib.hid (heap_setCell_same w4 B 0 _ _ _ HC4.out), Lib.hid ?_, Lib.hid ((HB1.out.trans (HU4.out.mono (Nat.le_succ B))).setCell (Nat.le_refl _) _)⟩
     rw [HKB.out]
     refine ⟨some ⟨D, 0, none⟩, 32, by rw [HCL.out], by rw [HCL.out]; exact Nat.le_refl _, by unfold maxLen; omega, (fun e => by cases e), fun _ => ⟨D, 0, rfl, by have := HBD.out; omega, fun j x hj => ?_⟩⟩
     rw [cell_of_row _ D (0 + j) _ _ _ ((heap_setCell_other _ _ _ _ (show D ≠ B by have := HBD.out; omega)).trans HD4.out), Nat.zero_add, List.getElem?_toArray]
     exact hj
  | false =>
    have hlong : ¬ 64 < n := by have := of_decide_eq_false hlb; omega
    go_wp2_with fail
    go_meet
    case rel =>
     refine ⟨_, HC1, Lib.hid ?_, HB1⟩
     unfold keyB
     rw [if_neg (by rw [HN.out]; exact hlong)]
     exact HR1.out.cong (fun k hk => by omega) (fun _ _ => rfl)
 case rest =>
  obtain ⟨kv, HC2, HR2, HB2⟩ := hcut
  obtain ⟨w2, hw2⟩ : ∃ u, u = wc := ⟨_, rfl⟩
  rw [← hw2] at HC2 HR2 HB2 ⊢
  clear hw2 c0
  have HZ2 : Hid (B < w2.heap.size) := Lib.hid (Array.getElem?_eq_some_iff.1 HC2.out).1
  obtain ⟨C, hC⟩ : ∃ C, w2.heap.size = C := ⟨_, rfl⟩
  have HCQ := Lib.hid hC
  clear hC
  have HKL := keyB_len key
  have HLT2 : Hid (∀ k, k ≠ B → k < C → True) := Lib.hid (fun _ _ _ => trivial)
  go_upto_region 6 with (first | (go_at_call 112; refine (hnew_any _).mono ?_; rintro e w3 ⟨rfl, hA, hb⟩; rw [HCQ.out] at hA hb ⊢; have HA3 := Lib.hid hA; have HU3 := Lib.hid hb; have HB92 := Lib.hid (blk_any (T := fun k => k ≠ B ∧ k < C) (keyB key) HKL 92 B kv w3 (cell_of_row w3 B 0 _ _ _ ((hb.block B (by have := HZ2.out; rw [HCQ.out] at this; exact this)).trans HC2.out)) (HR2.out.cong2 hb HCQ.out) (fun k hk => by have := hb.size; rw [HCQ.out] at this; omega)); clear hA hb) | (go_at_call 111; refine HB92.out.mono ?_; rintro e w4 ⟨ob, rfl, hO, hz, hb⟩; have HO4 := Lib.hid hO; have HZO := Lib.hid hz; have HU4 := Lib.hid hb; clear hO hz hb))
  obtain ⟨pb, hpb⟩ : ∃ u, w4.heap.size = u := ⟨_, rfl⟩
  obtain ⟨w5, hw5⟩ : ∃ u, w4.alloc (.cells #[.pointer (some ⟨C, 0, none⟩), .slice (some ⟨ob, 0, none⟩) 64 64] 195) = u := ⟨_, rfl⟩
  rw [hw5, hpb]
  have HP5 : Hid (w5.heap[pb]? = some (.cells #[.pointer (some ⟨C, 0, none⟩), .slice (some ⟨ob, 0, none⟩) 64 64] 195 (0, 0))) := Lib.hid (by rw [← hw5, ← hpb]; exact heap_alloc_new _ _)
  have HU5 : Hid (Below pb w4 w5) := Lib.hid (by rw [← hw5, ← hpb]; exact (Below.refl _ _).alloc (Nat.le_refl _) _)
  have HZ5 : Hid (w5.heap.size = pb + 1) := Lib.hid (by rw [← hw5, ← hpb]; simp)
  have HCZ : Hid (C < w3.heap.size) := Lib.hid HA3.out.lt
  have HOP : Hid (ob < pb) := Lib.hid (by rw [← hpb]; exact (Array.getElem?_eq_some_iff.1 HO4.out).1)
  have HOC : Hid (C < ob) := Lib.hid (Nat.lt_of_lt_of_le HCZ.out HZO.out)
  have HF35 : Hid (Fr [] w3 w5) := Lib.hid ((Below.fr HU4.out (Nat.le_refl _) []).trans (Below.fr HU5.out (by rw [hpb]; exact Nat.le_refl _) []))
  have HA5 : Hid (HashAt w5 C none []) := Lib.hid (HA3.out.fr HF35.out (by simp) (fun _ h => by cases h))
  have HQ5 : Hid (Below C w2 w5) := Lib.hid (HU3.out.trans (HF35.out.below.mono (Nat.le_of_lt HCZ.out)))
  have HO5 : Hid (w5.heap[ob]? = some (.cells ((blkM key 92).map bv).toArray 5 (0, 0))) := Lib.hid ((HU5.out.block ob HOP.out).trans HO4.out)
  have HCB : Hid (B < C) := Lib.hid (by rw [← HCQ.out]; exact HZ2.out)
  clear hpb hw5 HA3 HU3 HO4 HU4 HU5 HB92
  have cp : w5.cell? ⟨pb, 0, none⟩ = some (.pointer (some ⟨C, 0, none⟩)) := cell_of_row w5 pb 0 _ _ _ HP5.out
  have HB54 := Lib.hid (blk_any (T := fun k => k ≠ B ∧ k < C) (keyB key) HKL 54 B kv w5.drew (cell_of_row w5.drew B 0 _ _ _ ((HQ5.out.block B HCB.out).trans HC2.out)) (HR2.out.cong2 (w' := w5.drew) HQ5.out.drew HCQ.out) (fun k hk => by show k < w5.heap.size; rw [HZ5.out]; have := HOP.out; have := HOC.out; omega))
  refine wp_region_plan [(0, false), (1, false), (2, false), (3, false), (4, false), (5, true), (6, true)] (fun u => u.cell? ⟨pb, 0, none⟩ = some (.pointer (some ⟨C, 0, none⟩))) (by kernel_rfl) (by kernel_rfl) cp ?_
  iterate 5 (refine' plan_val rfl rfl (fun w' hS => ?_) ?_; rotate_left; (focus (first | (go_simp; rfl) | (go_simp; done))); simp only [Act.put, List.setIfInBounds_toArray, List.set_cons_zero, List.set_cons_succ])
  refine plan_do rfl (fun K hK => ?_)
  go_wp2_with (go_at_call 111; refine HB54.out.mono ?_; rintro e w6 ⟨ib, rfl, hO, hz, hb⟩; have HI6 : Hid (w6.heap[ib]? = some (.cells ((blkM key 54).map bv).toArray 5 (0, 0))) := Lib.hid hO; have HZI : Hid (pb < ib) := Lib.hid (by have h : w5.heap.size ≤ ib := hz; rw [HZ5.out] at h; omega); have HU6 : Hid (Below (pb + 1) w5 w6) := Lib.hid (by have h : Below w5.heap.size w5.drew w6 := hb; rw [HZ5.out] at h; exact (Below.refl _ _).drew.trans h); clear hO hz hb)
  refine hK _ _ ((HU6.out.cell (p := ⟨pb, 0, none⟩) (Nat.lt_succ_self pb)).trans cp) ?_
  clear hK K
  have HF56 : Hid (Fr [] w5 w6) := Lib.hid (Below.fr HU6.out (by rw [HZ5.out]; exact Nat.le_refl _) [])
  have HA6 : Hid (HashAt w6 C none []) := Lib.hid (HA5.out.fr HF56.out (by simp) (fun _ h => by cases h))
  have HBW6 : Hid (Below B w w6) := Lib.hid ((HB2.out.trans (HQ5.out.mono (Nat.le_of_lt HCB.out))).trans (HU6.out.mono (by have := HOP.out; have := HOC.out; have := HCB.out; omega)))
  have HWR := Lib.hid (hwrite_any (T := fun k => k = ib) C none [] (blkM key 54) (.slice (some ⟨ib, 0, none⟩) 64 64) w6 HA6.out (by
   have h := row_lit (S := fun k => k = ib) HI6.out rfl (by rw [List.length_map, blkM_len]; omega)
   rw [List.length_map, blkM_len] at h; exact h) (fun k hk => by have := HZI.out; have := HOP.out; have := HOC.out; omega) (HK.out.on (by rw [HBQ.out]; exact HBW6.out)) (by
   have h := HK.out.lt; rw [HBQ.out] at h; have := HCB.out
   simp only [Option.toList_none, List.mem_singleton]; omega) (by rw [blkM_len]; simp only [List.length_nil]; omega))
  refine plan_do rfl (fun K hK => ?_)
  go_wp2_with (go_at_call 113; refine HWR.out.mono ?_; rintro e w7 ⟨rfl, L7, hA, hL, hF⟩; rw [List.nil_append] at hA; have HA7 := Lib.hid hA; have HL7 := Lib.hid hL; have HF7 : Hid (Fr [C] w6 w7) := Lib.hid hF; clear hA hL hF)
  refine hK _ _ ((World.cell?_of_block (a := ⟨pb, 0, none⟩) (HF7.out.block pb (Nat.lt_of_lt_of_le (by rw [HZ5.out]; exact Nat.lt_succ_self pb) HU6.out.size) (by have := HOP.out; have := HOC.out; rw [List.mem_singleton]; omega))).trans ((HU6.out.cell (p := ⟨pb, 0, none⟩) (Nat.lt_succ_self pb)).trans cp)) ?_
  clear hK K cp
  refine plan_nil ?_
  go_wp2_with fail
  go_ret
  have h1 := HOP.out
  have h2 := HOC.out
  have h3 := HCB.out
  have h5 : w6.heap.size ≥ pb + 1 := by have := HU6.out.size; rw [HZ5.out] at this; exact this
  have hne : ∀ j, C < j → j < pb + 1 → j ∉ [C] := fun j _ _ => by rw [List.mem_singleton]; omega
  refine ⟨pb, rfl, ⟨C, ob, L7, ?_, ?_, ?_, ?_, by omega, by omega, ?_, ?_⟩, ?_⟩
  · exact (HF7.out.block pb (by omega) (hne pb (by omega) (by omega))).trans ((HF56.out.block pb (by rw [HZ5.out]; omega) (by simp)).trans HP5.out)
  · rw [List.append_nil]; exact HA7.out
  · exact (HF7.out.block ob (by omega) (hne ob (by omega) (by omega))).trans ((HF56.out.block ob (by rw [HZ5.out]; omega) (by simp)).trans HO5.out)
  · rw [HBQ.out]; exact ⟨by omega, by omega, by omega, fun k hk => by have := HL7.out k hk; omega⟩
  · intro e; have := HL7.out _ e; omega
  · intro e; have := HL7.out _ e; omega
  · rw [HBQ.out]; exact HBW6.out.trans (HF7.out.belowB (by omega) (fun k hk => by rw [List.mem_singleton] at hk; omega))
theorem PenAt.lt {w : World} {B pb : Nat} {key msg : Str} (h : PenAt w B pb key msg) : B ≤ pb ∧ pb < w.heap.size := by
 obtain ⟨hb, ob, L, h1, _, _, h4, _⟩ := h.ex
 exact ⟨h4.1, (Array.getElem?_eq_some_iff.1 h1).1⟩
theorem PenAt.on {w w' : World} {B pb : Nat} {key msg : Str} (h : PenAt w B pb key msg) (hb : Below w.heap.size w w') : PenAt w' B pb key msg := by
 obtain ⟨hb', ob, L, h1, h2, h3, h4, h5, h6, h7, h8⟩ := h.ex
 exact ⟨hb', ob, L, (hb.block _ (Array.getElem?_eq_some_iff.1 h1).1).trans h1, h2.fr (Below.fr hb (Nat.le_refl _) []) (by simp) (fun _ _ => by simp), (hb.block _ (Array.getElem?_eq_some_iff.1 h3).1).trans h3, h4, h5, h6, h7, h8⟩
def PWriteQ (B pb : Nat) (key msg : Str) (w : World) (e : Ending) (w' : World) : Prop := e = .returned (.tuple #[]) ∧ PenAt w' B pb key msg ∧ Below B w w'
set_option maxHeartbeats 4000000 in
theorem pwrite_any {T : Nat → Prop} (B pb : Nat) (key msg bs : Str) (src : Value) (w : World) (h : PenAt w B pb key msg) (hs : RowAt T w src (bs.map bv)) (hT : ∀ k, T k → k < B) (hK : VarsK w) (hg : 0 < B) (hl : msg.length + bs.length ≤ 35184372088832) :
  Calls Tryz.prog 68 #[.pointer (some ⟨pb, 0, none⟩), src] w fun e w' => PWriteQ B pb key (msg ++ bs) w e w' := by
 obtain ⟨hb, ob, L, h1, h2, h3, ⟨e1, e2, e3, e4⟩, h5, h6, h7, h8⟩ := h.ex
 have hnL : ∀ j, j ≠ hb → L ≠ some j → j ∉ hb :: L.toList := fun j a b hm => by
  simp only [List.mem_cons, Option.mem_toList] at hm
  rcases hm with hm | hm
  · exact a hm
  · exact b hm
 have HWR := Lib.hid (hwrite_any hb L (blkM key 54 ++ msg) bs src w h2 hs (fun k hk => by have := hT k hk; omega) hK (hnL _ (by omega) (fun e => by have := e4 _ e; omega)) (by rw [List.length_append, blkM_len]; omega))
 have c0 : w.cell? ⟨pb, 0, none⟩ = some (.pointer (some ⟨hb, 0, none⟩)) := cell_of_row w pb 0 _ _ _ h1
 have HP := Lib.hid h1
 have HO := Lib.hid h3
 have HNL := Lib.hid hnL
 have HE4 := Lib.hid e4
 clear h h1 h2 h3 hs hT hK e4 hnL
 go_enter Tryz.func68, Tryz.ntmps68
 go_wp2_with (go_at_call 113; refine HWR.out.mono ?_; rintro e w1 ⟨rfl, L1, hA, hL, hF⟩; have HA1 := Lib.hid hA; have HL1 := Lib.hid hL; have HF1 := Lib.hid hF; clear hA hL hF)
 go_end0
 have z1 := (Array.getElem?_eq_some_iff.1 HP.out).1
 have z2 := (Array.getElem?_eq_some_iff.1 HO.out).1
 refine ⟨rfl, ⟨hb, ob, L1, (HF1.out.block pb z1 (HNL.out pb h5 h7)).trans HP.out, by rw [← List.append_assoc]; exact HA1.out, (HF1.out.block ob z2 (HNL.out ob h6 h8)).trans HO.out, ⟨e1, e2, e3, fun k hk => by have := HL1.out k hk; omega⟩, h5, h6, fun e => by have := HL1.out _ e; omega, fun e => by have := HL1.out _ e; omega⟩, HF1.out.belowB (by omega) (fun k hk => by
  simp only [List.mem_cons, Option.mem_toList] at hk
  rcases hk with rfl | hk
  · exact e2
  · exact HE4.out k hk)⟩
theorem rowD {w : World} {b : Nat} {l : Str} {t : TypeId} (h : w.heap[b]? = some (.cells (l.map bv).toArray t (0, 0))) (hl : l.length = 32) : RowAt (fun k => k = b) w (.slice (some ⟨b, 0, none⟩) 32 32) (l.map bv) := by
 have h := row_lit (S := fun k => k = b) h rfl (by rw [List.length_map, hl]; omega)
 rw [List.length_map, hl] at h; exact h
set_option maxRecDepth 100000 in
set_option maxHeartbeats 8000000 in
theorem psum_any (B pb : Nat) (key msg : Str) (w : World) (h : PenAt w B pb key msg) (hK : VarsK w) (hl : msg.length ≤ 17592186044416) :
  Calls Tryz.prog 69 #[.pointer (some ⟨pb, 0, none⟩)] w fun e w' => DigQ (macM key msg) w e w' := by
 obtain ⟨hb, ob, L, h1, h2, h3, ⟨e1, e2, e3, e4⟩, h5, h6, h7, h8⟩ := h.ex
 obtain ⟨C, hC⟩ : ∃ C, w.heap.size = C := ⟨_, rfl⟩
 have HCQ := Lib.hid hC
 have HP := Lib.hid h1
 have HA := Lib.hid h2
 have HO := Lib.hid h3
 have HK := Lib.hid hK
 have z1 : pb < C := by rw [← hC]; exact (Array.getElem?_eq_some_iff.1 h1).1
 have z2 : ob < C := by rw [← hC]; exact (Array.getElem?_eq_some_iff.1 h3).1
 clear h h1 h2 h3 hK e4 hC h5 h6 h7 h8
 go_enter Tryz.func69, Tryz.ntmps69
 go_upto_region 1 with ((with_reducible refine wpList_at (.alloc 78) rfl ?_); refine wpList_alloc_cells rfl _ rfl _ zero32 ?_)
 obtain ⟨w1, hw1⟩ : ∃ u, w.alloc (.cells (pad32 []).toArray 78) = u := ⟨_, rfl⟩
 rw [hw1, HCQ.out]
 have HD1 : Hid (w1.heap[C]? = some (.cells (pad32 []).toArray 78 (0, 0))) := Lib.hid (by rw [← hw1, ← HCQ.out]; exact heap_alloc_new _ _)
 have HB1 : Hid (Below C w w1) := Lib.hid (by rw [← hw1, ← HCQ.out]; exact (Below.refl _ _).alloc (Nat.le_refl _) _)
 have HZ1 : Hid (w1.heap.size = C + 1) := Lib.hid (by rw [← hw1, ← HCQ.out]; simp)
 clear hw1
 have HF1 : Hid (Fr [] w w1) := Lib.hid (Below.fr HB1.out (by rw [HCQ.out]; exact Nat.le_refl _) [])
 have HP1 : Hid (w1.heap[pb]? = some (.cells #[.pointer (some ⟨hb, 0, none⟩), .slice (some ⟨ob, 0, none⟩) 64 64] 195 (0, 0))) := Lib.hid ((HB1.out.block pb z1).trans HP.out)
 have HO1 : Hid (w1.heap[ob]? = some (.cells ((blkM key 92).map bv).toArray 5 (0, 0))) := Lib.hid ((HB1.out.block ob z2).trans HO.out)
 have HSM := Lib.hid (hsum_any hb L (blkM key 54 ++ msg) w1 (HA.out.fr HF1.out (by simp) (fun _ _ => by simp)) (HK.out.fr HF1.out (by simp)) (by rw [List.length_append, blkM_len]; omega))
 have c0 : w1.cell? ⟨pb, 0, none⟩ = some (.pointer (some ⟨hb, 0, none⟩)) := cell_of_row w1 pb 0 _ _ _ HP1.out
 obtain ⟨dl, hdl⟩ : ∃ d, shaM (blkM key 54 ++ msg) = d := ⟨_, rfl⟩
 have hdn : dl.length = 32 := by rw [← hdl, shaM_len]
 obtain ⟨cs, hcs⟩ : ∃ cs, dl.map bv = cs := ⟨_, rfl⟩
 have hcl : cs.length = 32 := by rw [← hcs, List.length_map, hdn]
 have hc1 : cs.all (·.oneCell') = true := by rw [← hcs]; exact bytes_one _
 have HCS := Lib.hid hcs
 have HCL := Lib.hid hcl
 have HCO := Lib.hid hc1
 have HDL := Lib.hid hdl
 have HDN := Lib.hid hdn
 clear hcs hcl hc1 hdl hdn
 go_upto_region 4 with (first | (go_at_call 114; refine HSM.out.mono ?_; unfold DigQ; rw [HDL.out, HCS.out, HZ1.out]; rintro e w2 ⟨rfl, hb'⟩; have HU2 := Lib.hid hb'; obtain ⟨D, hD⟩ : ∃ D, w2.heap.size = D := ⟨_, rfl⟩; have HDQ := Lib.hid hD; clear hb' hD) | ((with_reducible refine wpList_at (.alloc 78) rfl ?_); go_loud (refine wpList_alloc_cells rfl _ rfl _ zero32 ?_); rw [HDQ.out]; obtain ⟨w3, hw3⟩ : ∃ u, w2.alloc (.cells (pad32 []).toArray 78) = u := ⟨_, rfl⟩; rw [hw3]; have HD3 : Hid (w3.heap[D]? = some (.cells (pad32 []).toArray 78 (0, 0))) := Lib.hid (by rw [← hw3, ← HDQ.out]; exact heap_alloc_new _ _); have HU3 : Hid (Below D w2 w3) := Lib.hid (by rw [← hw3, ← HDQ.out]; exact (Below.refl _ _).alloc (Nat.le_refl _) _); clear hw3) | ((with_reducible refine wpList_at (.store 78 (.tmp 3) (.tmp 11)) rfl ?_); go_loud (refine wpList_store_agg rfl _ _ _ rfl D 0 cs rfl rfl (by rw [HCL.out]; exact there_of HD3.out 32 (by decide)) (by rw [HCL.out]; kernel_rfl) HCO.out ?_)))
 have HBD : Hid (C + 1 ≤ D) := Lib.hid (by have := HU2.out.size; rw [HZ1.out, HDQ.out] at this; exact this)
 obtain ⟨w4, hw4⟩ : ∃ u, w3.setCells D 0 cs = u := ⟨_, rfl⟩
 rw [hw4]
 have HD4 : Hid (w4.heap[D]? = some (.cells (dl.map bv).toArray 78 (0, 0))) := Lib.hid (by rw [HCS.out, ← hw4]; exact putL_heap (cs := pad32 []) HD3.out cs (by rw [HCL.out]; rfl))
 have HU4 : Hid (Below (C + 1) w1 w4) := Lib.hid (by rw [← hw4]; exact putL_below HBD.out _ _ _ (HU2.out.trans (HU3.out.mono HBD.out)))
 have HP4 : Hid (w4.heap[pb]? = some (.cells #[.pointer (some ⟨hb, 0, none⟩), .slice (some ⟨ob, 0, none⟩) 64 64] 195 (0, 0))) := Lib.hid ((HU4.out.block pb (by omega)).trans HP1.out)
 have HO4 : Hid (w4.heap[ob]? = some (.cells ((blkM key 92).map bv).toArray 5 (0, 0))) := Lib.hid ((HU4.out.block ob (by omega)).trans HO1.out)
 have HR4 : Hid (w4.heap[C]? = some (.cells (pad32 []).toArray 78 (0, 0))) := Lib.hid ((HU4.out.block C (Nat.lt_succ_self C)).trans HD1.out)
 have HZ4 : Hid (D < w4.heap.size) := Lib.hid (Array.getElem?_eq_some_iff.1 HD4.out).1
 have HB4 : Hid (Below C w w4) := Lib.hid (HB1.out.trans (HU4.out.mono (Nat.le_succ C)))
 obtain ⟨E, hE⟩ : ∃ E, w4.heap.size = E := ⟨_, rfl⟩
 have HEQ := Lib.hid hE
 clear hw4 hE c0 HSM HU2 HU3 HD3 HP1 HO1 HD1
 have c1 : w4.cell? ⟨pb, 1, none⟩ = some (.slice (some ⟨ob, 0, none⟩) 64 64) := cell_of_row w4 pb 1 _ _ _ HP4.out
 refine wp_region_plan [(0, false), (1, false), (2, false), (3, false), (5, false), (4, true), (6, true), (7, true), (8, true)] (fun u => u.cell? ⟨pb, 1, none⟩ = some (.slice (some ⟨ob, 0, none⟩) 64 64)) (by kernel_rfl) (by kernel_rfl) c1 ?_
 iterate 5 (refine' plan_val rfl rfl (fun w' hS => ?_) ?_; rotate_left; (focus (first | (go_simp; rfl) | (go_simp; done))); simp only [Act.put, List.setIfInBounds_toArray, List.set_cons_zero, List.set_cons_succ])
 refine plan_do rfl (fun K hK => ?_)
 refine wp_app_bytes (T := fun k => k = ob) (v := .slice none 0 0) (src := .slice (some ⟨ob, 0, none⟩) 64 64) (l := []) (e := blkM key 92) rfl _ _ rfl (B := E) rfl rfl (OwnS.nil _ _) (by
   have h := row_lit (w := w4.drew) (S := fun k => k = ob) HO4.out rfl (by rw [List.length_map, blkM_len]; omega)
   rw [List.length_map, blkM_len] at h; exact h) ?c1 ?c2 ?_
 case c1 => rw [blkM_len, List.length_nil]; omega
 case c2 => show E ≤ w4.heap.size; rw [HEQ.out]; exact Nat.le_refl _
 intro v5 w5 hO5 hgr _
 rw [List.nil_append] at hO5
 obtain ⟨va, vc, rfl⟩ := OwnS.form hO5
 rw [blkM_len] at hO5 ⊢
 have HO5 := Lib.hid hO5
 have HF5 : Hid (Fr [] w4 w5) := Lib.hid ((Fr.drew [] w4).trans (grownBy.fr hgr _ (fun k hk => by cases hk)))
 clear hO5 hgr
 go_wp2_with fail
 refine hK _ _ ((World.cell?_of_block (a := ⟨pb, 1, none⟩) (HF5.out.block pb (Array.getElem?_eq_some_iff.1 HP4.out).1 (by simp))).trans c1) ?_
 clear hK K
 refine plan_do rfl (fun K hK => ?_)
 refine wp_app_bytes (T := fun k => k = D) (v := .slice va 64 vc) (src := .slice (some ⟨D, 0, none⟩) 32 32) (l := blkM key 92) (e := dl) rfl _ _ rfl (B := E) rfl rfl HO5.out (rowD ((HF5.out.block D HZ4.out (by simp)).trans HD4.out) HDN.out) ?c1 ?c2 ?_
 case c1 => rw [blkM_len, HDN.out]; omega
 case c2 => rw [← HEQ.out]; exact HF5.out.size
 intro v6 w6 hO6 hgr _
 obtain ⟨al, hal⟩ : ∃ al, blkM key 92 ++ dl = al := ⟨_, rfl⟩
 have hall : al.length = 96 := by rw [← hal, List.length_append, blkM_len, HDN.out]
 rw [hal] at hO6
 obtain ⟨xa, xc, rfl⟩ := OwnS.form hO6
 rw [hall] at hO6 ⊢
 have HAL := Lib.hid hal
 have HALL := Lib.hid hall
 clear hal hall
 have HO6 := Lib.hid hO6
 have HU6 : Hid (Below E w4 w6) := Lib.hid ((HF5.out.below.mono (by rw [HEQ.out]; exact Nat.le_refl _)).trans ((Below.refl E w5).grown hgr (by rw [← HEQ.out]; exact HF5.out.size) (fun k hk => (own_lt HO5.out hk).1)))
 clear hO6 hgr
 have c6 : w6.cell? ⟨pb, 1, none⟩ = some (.slice (some ⟨ob, 0, none⟩) 64 64) := (HU6.out.cell (p := ⟨pb, 1, none⟩) (by rw [← HEQ.out]; exact (Array.getElem?_eq_some_iff.1 HP4.out).1)).trans c1
 go_wp2_with fail
 refine hK _ _ c6 ?_
 clear hK K
 have HB6 : Hid (Below C w w6) := Lib.hid (HB4.out.trans (HU6.out.mono (by rw [← HEQ.out]; have := HBD.out; have := HZ4.out; omega)))
 have HOF := Lib.hid (hof_any (T := fun k => (Value.slice xa 96 xc).ownBlock = some k) al (.slice xa 96 xc) w6 HO6.out.row (fun k hk => (own_lt HO6.out hk).2) (HK.out.on (by rw [HCQ.out]; exact HB6.out)) (by rw [HALL.out]; omega))
 have HZ6 : Hid (C < w6.heap.size) := Lib.hid (by have h1 := HU6.out.size; have h2 := HBD.out; have h3 := HZ4.out; have h4 := HEQ.out; omega)
 refine plan_do rfl (fun K hK => ?_)
 go_wp2_with (go_at_call 110; go_loud (refine HOF.out.mono ?_); rintro e w7 ⟨rfl, hb7⟩; have HB7 : Hid (Below C w w7) := Lib.hid (HB6.out.trans (hb7.mono (Nat.le_of_lt HZ6.out))); have HR7 : Hid (w7.heap[C]? = some (.cells (pad32 []).toArray 78 (0, 0))) := Lib.hid ((hb7.block C HZ6.out).trans ((HU6.out.block C (by rw [← HEQ.out]; exact (Array.getElem?_eq_some_iff.1 HR4.out).1)).trans HR4.out)); have c7 : w7.cell? ⟨pb, 1, none⟩ = some (.slice (some ⟨ob, 0, none⟩) 64 64) := (hb7.cell (p := ⟨pb, 1, none⟩) (cell_lt' c6)).trans c6; clear hb7)
 refine hK _ _ c7 ?_
 clear hK K c1 c6
 obtain ⟨ds, hds⟩ : ∃ cs, (shaM al).map bv = cs := ⟨_, rfl⟩
 have HDS : Hid ((macM key msg).map bv = ds) := Lib.hid (by unfold macM; rw [HDL.out, HAL.out, hds])
 have HSL : Hid (ds.length = 32) := Lib.hid (by rw [← hds, List.length_map, shaM_len])
 have HSO : Hid (ds.all (·.oneCell') = true) := Lib.hid (by rw [← hds]; exact bytes_one _)
 rw [hds]
 clear hds
 refine plan_do rfl (fun K hK => ?_)
 refine wpList_store_agg rfl _ _ _ rfl C 0 ds rfl rfl (by rw [HSL.out]; exact there_of HR7.out 32 (by decide)) (by rw [HSL.out]; kernel_rfl) HSO.out ?_
 go_wp2_with fail
 refine hK _ _ ((World.cell?_of_block (a := ⟨pb, 1, none⟩) (putL_other C (show pb ≠ C by omega) _ _ _)).trans c7) ?_
 clear hK K c7
 refine plan_nil ?_
 go_wp2_with fail
 refine bodyPost_ret (res_dig rfl _ rfl (putL_heap (cs := pad32 []) HR7.out ds (by rw [HSL.out]; rfl)) HSL.out) rfl ?_
 refine ⟨by rw [HDS.out], ?_⟩
 rw [HCQ.out]
 exact putL_below (Nat.le_refl _) _ _ _ HB7.out
set_option maxRecDepth 100000 in
set_option maxHeartbeats 8000000 in
theorem macof_any {S T : Nat → Prop} (key bs : Str) (kv src : Value) (w : World) (hs : RowAt S w kv (key.map bv)) (hS : ∀ k, S k → k < w.heap.size) (hb : RowAt T w src (bs.map bv)) (hT : ∀ k, T k → k < w.heap.size) (hK : VarsK w) (hl : key.length ≤ 17592186044416) (hl2 : bs.length ≤ 17592186044416) :
  Calls Tryz.prog 40 #[kv, src] w fun e w' => DigQ (macM key bs) w e w' := by
 obtain ⟨C, hC⟩ : ∃ C, w.heap.size = C := ⟨_, rfl⟩
 have HCQ := Lib.hid hC
 have HS := Lib.hid hs
 have HSB := Lib.hid hS
 have HB := Lib.hid hb
 have HT := Lib.hid hT
 have HK := Lib.hid hK
 clear hC hs hS hb hT hK
 go_enter Tryz.func40, Tryz.ntmps40
 go_upto_region 1 with ((with_reducible refine wpList_at (.alloc 78) rfl ?_); refine wpList_alloc_cells rfl _ rfl _ zero32 ?_)
 obtain ⟨w1, hw1⟩ : ∃ u, w.alloc (.cells (pad32 []).toArray 78) = u := ⟨_, rfl⟩
 rw [hw1, HCQ.out]
 have HD1 : Hid (w1.heap[C]? = some (.cells (pad32 []).toArray 78 (0, 0))) := Lib.hid (by rw [← hw1, ← HCQ.out]; exact heap_alloc_new _ _)
 have HB1 : Hid (Below C w w1) := Lib.hid (by rw [← hw1, ← HCQ.out]; exact (Below.refl _ _).alloc (Nat.le_refl _) _)
 have HZ1 : Hid (w1.heap.size = C + 1) := Lib.hid (by rw [← hw1, ← HCQ.out]; simp)
 clear hw1
 have HPN := Lib.hid (pnew_any key kv w1 (HS.out.any HSB.out (by rw [HCQ.out]; exact HB1.out)) (fun k hk => by have := HSB.out k hk; rw [HZ1.out]; rw [HCQ.out] at this; omega) (HK.out.on (by rw [HCQ.out]; exact HB1.out)) hl)
 go_upto_region 2 with (go_at_call 67; refine HPN.out.mono ?_; unfold PNewQ; rw [HZ1.out]; rintro e w2 ⟨pb, rfl, hP, hb⟩; have HP2 := Lib.hid hP; have HU2 := Lib.hid hb; clear hP hb)
 have HB2 : Hid (Below C w w2) := Lib.hid (HB1.out.trans (HU2.out.mono (Nat.le_succ C)))
 have HGK : Hid (0 < C) := Lib.hid (by rw [← HCQ.out]; exact HK.out.lt)
 have HPW := Lib.hid (pwrite_any (C + 1) pb key [] bs src w2 HP2.out (HB.out.any HT.out (by rw [HCQ.out]; exact HB2.out)) (fun k hk => by have := HT.out k hk; rw [HCQ.out] at this; omega) (HK.out.on (by rw [HCQ.out]; exact HB2.out)) (by have := HGK.out; omega) (by simp only [List.length_nil]; omega))
 go_upto_region 3 with (go_at_call 68; refine HPW.out.mono ?_; unfold PWriteQ; rw [List.nil_append]; rintro e w3 ⟨rfl, hP, hb⟩; have HP3 := Lib.hid hP; have HU3 : Hid (Below (C + 1) w1 w3) := Lib.hid (HU2.out.trans hb); clear hP hb)
 have HB3 : Hid (Below C w w3) := Lib.hid (HB1.out.trans (HU3.out.mono (Nat.le_succ C)))
 have HD3 : Hid (w3.heap[C]? = some (.cells (pad32 []).toArray 78 (0, 0))) := Lib.hid ((HU3.out.block C (Nat.lt_succ_self C)).trans HD1.out)
 have HZ3 : Hid (C < w3.heap.size) := Lib.hid (Array.getElem?_eq_some_iff.1 HD3.out).1
 have HPS := Lib.hid (psum_any (C + 1) pb key bs w3 HP3.out (HK.out.on (by rw [HCQ.out]; exact HB3.out)) hl2)
 obtain ⟨cs, hcs⟩ : ∃ cs, (macM key bs).map bv = cs := ⟨_, rfl⟩
 have HCS := Lib.hid hcs
 have HCL : Hid (cs.length = 32) := Lib.hid (by rw [← hcs, List.length_map, macM_len])
 have HC1 : Hid (cs.all (·.oneCell') = true) := Lib.hid (by rw [← hcs]; exact bytes_one _)
 clear hcs
 go_wp2_with (first | (go_at_call 69; refine HPS.out.mono ?_; unfold DigQ; rw [HCS.out]; rintro e w4 ⟨rfl, hb⟩; have HB4 : Hid (Below C w w4) := Lib.hid (HB3.out.trans (hb.mono (Nat.le_of_lt HZ3.out))); have HD4 : Hid (w4.heap[C]? = some (.cells (pad32 []).toArray 78 (0, 0))) := Lib.hid ((hb.block C HZ3.out).trans HD3.out); clear hb) | ((with_reducible refine wpList_at (.store 78 (.tmp 4) (.tmp 12)) rfl ?_); go_loud (refine wpList_store_agg rfl _ _ _ rfl C 0 cs rfl rfl (by rw [HCL.out]; exact there_of HD4.out 32 (by decide)) (by rw [HCL.out]; kernel_rfl) HC1.out ?_)))
 refine bodyPost_ret (res_dig rfl _ rfl (putL_heap (cs := pad32 []) HD4.out cs (by rw [HCL.out]; rfl)) HCL.out) rfl ?_
 refine ⟨by rw [HCS.out], ?_⟩
 rw [HCQ.out]
 exact putL_below (Nat.le_refl _) _ _ _ HB4.out
theorem or_zero8 {x y : Nat} : (x ||| y = 0) ↔ (x = 0 ∧ y = 0) := Nat.or_eq_zero_iff
set_option maxRecDepth 100000 in
set_option maxHeartbeats 8000000 in
theorem macsame_any (a b : Str) (ha : a.length = 32) (hb : b.length = 32) (w : World) :
  Calls Tryz.prog 39 #[.agg (a.map bv).toArray, .agg (b.map bv).toArray] w fun e w' => e = .returned (.bool (decide (a = b))) ∧ Below w.heap.size w w' := by
 obtain ⟨C, hC⟩ : ∃ C, w.heap.size = C := ⟨_, rfl⟩
 have HCQ := Lib.hid hC
 obtain ⟨cs, hcs⟩ : ∃ cs, a.map bv = cs := ⟨_, rfl⟩
 obtain ⟨ds, hds⟩ : ∃ cs, b.map bv = cs := ⟨_, rfl⟩
 have HCS := Lib.hid hcs
 have HDS := Lib.hid hds
 have HLA := Lib.hid ha
 have HLB := Lib.hid hb
 rw [hcs, hds]
 obtain ⟨w1, hw1⟩ : ∃ u, w.alloc (.cells cs.toArray 78) = u := ⟨_, rfl⟩
 obtain ⟨w2, hw2⟩ : ∃ u, w1.alloc (.cells ds.toArray 78) = u := ⟨_, rfl⟩
 have HX1 : Hid (w1.heap[C]? = some (.cells (a.map bv).toArray 78 (0, 0))) := Lib.hid (by rw [hcs, ← hw1, ← hC]; exact heap_alloc_new _ _)
 have HZ1 : Hid (w1.heap.size = C + 1) := Lib.hid (by rw [← hw1, ← hC]; simp)
 have HY2 : Hid (w2.heap[C + 1]? = some (.cells (b.map bv).toArray 78 (0, 0))) := Lib.hid (by rw [hds, ← hw2, ← HZ1.out]; exact heap_alloc_new _ _)
 have HU2 : Hid (Below (C + 1) w1 w2) := Lib.hid (by rw [← hw2, ← HZ1.out]; exact (Below.refl _ _).alloc (Nat.le_refl _) _)
 have HX2 : Hid (w2.heap[C]? = some (.cells (a.map bv).toArray 78 (0, 0))) := Lib.hid ((HU2.out.block C (Nat.lt_succ_self C)).trans HX1.out)
 have HB2 : Hid (Below C w w2) := Lib.hid (((by rw [← hw1, ← hC]; exact (Below.refl _ _).alloc (Nat.le_refl _) _ : Below C w w1)).trans (HU2.out.mono (Nat.le_succ C)))
 have HW1 := Lib.hid hw1
 have HW2 := Lib.hid hw2
 clear hC hcs hds ha hb hw1 hw2
 go_enter Tryz.func39, Tryz.ntmps39
 go_upto_region 2 with fail
 rw [HW1.out, HW2.out, HCQ.out]
 go_wp2_with fail
 go_loopw [5, 7] (fun xv i wr => ∃ (k x d : Nat), k ≤ 32 ∧ x < 256 ∧ i = .int .i64 (k : Int) ∧ xv = .int .u8 (x : Int) ∧ Hid (x = 0 ↔ a.take k = b.take k) ∧ wr = w2.drewN d) (fun _ i _ => 32 - (intOf i).toNat)
 case atStart => exact ⟨0, 0, 0, by omega, by omega, rfl, rfl, Lib.hid (by simp), rfl⟩
 case round =>
  obtain ⟨k, x, d, hk, hx, rfl, rfl, HE, rfl⟩ := hrel
  by_cases hlt : k < 32
  · have b1 : (0 : Int) ≤ k := by omega
    have b2 : (k : Int) < 32 := by omega
    obtain ⟨ya, hya⟩ : ∃ c, a[k]? = some c := ⟨_, List.getElem?_eq_getElem (by rw [HLA.out]; exact hlt)⟩
    obtain ⟨yb, hyb⟩ : ∃ c, b[k]? = some c := ⟨_, List.getElem?_eq_getElem (by rw [HLB.out]; exact hlt)⟩
    obtain ⟨w3, hw3⟩ : ∃ u, w2.drewN d = u := ⟨_, rfl⟩
    rw [hw3]
    have ca : w3.cell? ⟨C, k, none⟩ = some (.int .u8 (ya.toNat : Int)) := by
     rw [cell_of_row w3 C k _ _ _ (by rw [← hw3]; exact HX2.out), List.getElem?_toArray, List.getElem?_map, hya]; rfl
    have cb : w3.cell? ⟨C + 1, k, none⟩ = some (.int .u8 (yb.toNat : Int)) := by
     rw [cell_of_row w3 (C + 1) k _ _ _ (by rw [← hw3]; exact HY2.out), List.getElem?_toArray, List.getElem?_map, hyb]; rfl
    have g1 : bits .xor .u8 (ya.toNat : Int) (yb.toNat : Int) = ((ya ^^^ yb).toNat : Int) := by rw [u8_xor_nat _ _ ya.toNat_lt yb.toNat_lt, UInt8.toNat_xor]
    obtain ⟨z, hz⟩ : ∃ z, (ya ^^^ yb).toNat = z := ⟨_, rfl⟩
    have hzl : z < 256 := by rw [← hz]; exact UInt8.toNat_lt _
    rw [hz] at g1
    have g2 : bits .or .u8 (x : Int) (z : Int) = ((x ||| z : Nat) : Int) := u8_or_nat _ _ hx hzl
    have hol : x ||| z < 256 := Nat.or_lt_two_pow (n := 8) hx hzl
    have HN : Hid (x ||| z = 0 ↔ a.take (k + 1) = b.take (k + 1)) := Lib.hid (by
     rw [or_zero8, HE.out, List.take_add_one, List.take_add_one, hya, hyb]
     have hzz : z = 0 ↔ ya = yb := by
      rw [← hz]
      constructor
      · intro h
        have h2 : ya ^^^ yb = 0 := UInt8.toNat_inj.1 (by rw [h]; rfl)
        exact UInt8.xor_eq_zero_iff.1 h2
      · rintro rfl; rw [UInt8.xor_self]; rfl
     rw [hzz]
     constructor
     · rintro ⟨h1, h2⟩; rw [h1, h2]
     · intro h
       have hl : (a.take k).length = (b.take k).length := by rw [List.length_take, List.length_take, HLA.out, HLB.out]
       obtain ⟨h1, h2⟩ := List.append_inj h hl
       simp at h2
       exact ⟨h1, h2⟩)
    obtain ⟨o, ho⟩ : ∃ o, x ||| z = o := ⟨_, rfl⟩
    rw [ho] at g2 hol HN
    have HW3 := Lib.hid hw3
    clear hya hyb hz ho hw3
    go_upto_region 5 with fail
    go_quiet (fail)
    go_wp2_with fail
    go_roundw
    case rel => exact ⟨k + 1, o, _, by omega, hol, by go_num, rfl, HN, by rw [← HW3.out, World.drewN_drewN]⟩
    case measure => simp [intOf]; omega
  · obtain rfl : k = 32 := by omega
    go_wp2_with fail
    go_ret
    refine ⟨?_, by rw [HCQ.out]; exact below_drewN HB2.out d⟩
    have h1 := HE.out
    rw [List.take_of_length_le (by rw [HLA.out]; omega), List.take_of_length_le (by rw [HLB.out]; omega)] at h1
    have h2 : ((x : Int) == 0) = decide (a = b) := by
     rw [Bool.eq_iff_iff, beq_iff_eq, decide_eq_true_eq, ← h1]; omega
    show Ending.returned (Value.bool ((x : Int) == 0)) = _
    rw [h2]
section
variable {κ : Type} [DecidableEq κ]
abbrev KG (κ : Type) := κ × Value × Nat
def encG (ek : κ → Value) (e : KG κ) : MapEntry := ⟨ek e.1, e.2.1, e.2.2⟩
def findG : List (KG κ) → κ → Option Value
 | [], _ => none
 | e :: l, i => if e.1 = i then some e.2.1 else findG l i
def posG : List (KG κ) → κ → Nat
 | [], _ => 0
 | e :: l, i => if e.1 = i then 0 else posG l i + 1
theorem findG_snoc (l : List (KG κ)) (i j : κ) (v : Value) (c : Nat) (h : findG l i = none) : findG (l ++ [(i, v, c)]) j = if i = j then some v else findG l j := by
 induction l with
 | nil => simp [findG]
 | cons e l ih =>
   simp only [findG] at h
   split at h
   · cases h
   · rename_i hne
     rw [List.cons_append]
     simp only [findG]
     rw [ih h]
     by_cases h1 : e.1 = j
     · rw [if_pos h1, if_pos h1, if_neg (by rintro rfl; exact hne h1)]
     · rw [if_neg h1, if_neg h1]
structure KeyLaw (P : Program) (kt : TypeId) (ek : κ → Value) : Prop where
 find : ∀ (w : World) (l : List (KG κ)) (i : κ), (Instr.findKey kt (ek i) (l.map (encG ek))).run P w = .ok ((findG l i).map fun s => (posG l i, s)) w
 check : ∀ (w : World) (b : Bool) (i : κ), (Instr.checkKey b 10000 kt (ek i)).run P w = .ok () w
variable {P : Program} {w : World} {mt kt et mb : Nat} {ek : κ → Value} {l : List (KG κ)} {clock : Nat}
theorem run_lookupG (hL : KeyLaw P kt ek) (hu : P.underlying mt = some (.map kt et)) {z : Value} (hz : ∀ w, (zeroValue et).run P w = .ok z w) (hb : w.heap[mb]? = some (.map (l.map (encG ek)).toArray clock)) (i : κ) :
  (Instr.lookup mt (.map (some mb)) (ek i) true).run P w = .ok (.tuple #[(findG l i).getD z, .bool (findG l i).isSome]) w := by
 unfold Instr.lookup
 rw [Sem.run_bind, run_underlying hu w, Result.andThen_ok]
 simp only [Sem.run_bind, getObj, Sem.run, hb, Sem.run_pure, Result.andThen_ok, hL.check, hL.find]
 cases h : findG l i with
 | none => simp [hz]
 | some s => simp
theorem run_lookupG1 (hL : KeyLaw P kt ek) (hu : P.underlying mt = some (.map kt et)) {z : Value} (hz : ∀ w, (zeroValue et).run P w = .ok z w) (hb : w.heap[mb]? = some (.map (l.map (encG ek)).toArray clock)) (i : κ) :
  (Instr.lookup mt (.map (some mb)) (ek i) false).run P w = .ok ((findG l i).getD z) w := by
 unfold Instr.lookup
 rw [Sem.run_bind, run_underlying hu w, Result.andThen_ok]
 simp only [Sem.run_bind, getObj, Sem.run, hb, Sem.run_pure, Result.andThen_ok, hL.check, hL.find]
 cases h : findG l i with
 | none => simp [hz]
 | some s => simp
theorem run_insertG (hL : KeyLaw P kt ek) (hu : P.underlying mt = some (.map kt et)) (hb : w.heap[mb]? = some (.map (l.map (encG ek)).toArray clock)) (i : κ) (v : Value) (h : findG l i = none) :
  (Instr.mapUpdate mt (.map (some mb)) (ek i) v).run P w = .ok () (w.putObj mb (.map ((l ++ [(i, v, clock)]).map (encG ek)).toArray (clock + 1))) := by
 unfold Instr.mapUpdate
 rw [Sem.run_bind, run_underlying hu w, Result.andThen_ok]
 simp only [Sem.run_bind, getObj, Sem.run, hb, Result.andThen_ok, hL.check, hL.find, h, Option.map_none, setObj]
 simp [World.putObj, encG]
end
section
variable {P : Program} {kt : Nat}
def ekS (s : ByteArray) : Value := .string s
theorem bytes_eqB {a b : ByteArray} (h : a = b) : (a == b) = true := by rw [beq_toListBytes, h]; simp
theorem bytes_neB {a b : ByteArray} (h : a ≠ b) : (a == b) = false := by
 rw [beq_toListBytes, beq_eq_false_iff_ne, ByteArray.toList_eq, ByteArray.toList_eq]
 intro e
 apply h
 cases a; cases b
 exact congrArg ByteArray.mk (Array.toList_inj.1 e)
theorem findNow_str (i : ByteArray) : ∀ (l : List (KG ByteArray)) (k : Nat), Instr.findNow .string (ekS i) (l.map (encG ekS)) k = some ((findG l i).map fun s => (k + posG l i, s))
 | [], k => rfl
 | e :: l, k => by
   simp only [List.map_cons, Instr.findNow]
   rw [show Instr.sameNow .string (ekS i) (encG ekS e).key = some (i == e.1) from rfl]
   by_cases h : e.1 = i
   · rw [bytes_eqB h.symm]
     simp [h, findG, posG, encG]
   · rw [bytes_neB (fun e' => h e'.symm)]
     simp only [findG, posG, h, if_false]
     rw [findNow_str i l (k + 1)]
     simp [Nat.add_assoc, Nat.add_comm 1]
theorem keyLaw_str (hk : P.underlying kt = some .string) : KeyLaw P kt ekS where
 find w l i := by
  unfold Instr.findKey
  rw [Sem.run_bind, run_underlying hk w, Result.andThen_ok, findNow_str]
  simp
 check w b i := by
  show (Instr.checkKey b (9999 + 1) kt (ekS i)).run P w = .ok () w
  unfold Instr.checkKey
  rw [Sem.run_bind, run_underlying hk w, Result.andThen_ok]
  rfl
end
section
variable {P : Program} {kt e : Nat}
def ekP (p : Nat × Nat) : Value := .agg #[.int .u8 (p.1 : Int), .int .u8 (p.2 : Int)]
theorem equalIn_pair (ht : P.underlying kt = some (.array 2 e)) (he : P.underlying e = some (.int .u8)) (hs : (P.info? e).map (·.size) = some 1) (d : Nat) (p q : Nat × Nat) (w : World) :
  (Op.equalIn (d + 1 + 1) kt (ekP p) (ekP q)).run P w = .ok (decide (p = q)) w := by
 have hso : (sizeOf e).run P w = .ok 1 w := by
  cases hq : P.info? e with
  | none => simp [hq] at hs
  | some i => simp [hq] at hs; simp [sizeOf, typeInfo, hq, hs]
 unfold Op.equalIn ekP
 simp only [Sem.run_bind, run_underlying ht, Result.andThen_ok, hso]
 rw [Std.Legacy.Range.forIn_eq_forIn_range']
 obtain ⟨a, b⟩ := p; obtain ⟨c, f⟩ := q
 have e1 : ∀ x y : Nat, (((x : Int) == (y : Int)) : Bool) = decide (x = y) := fun x y => by by_cases h : x = y <;> simp [h]; omega
 have e2 : List.range' [0:2].start [0:2].size [0:2].step = [0, 1] := by decide
 rw [e2]
 by_cases h1 : a = c <;> by_cases h2 : b = f <;> simp [part, isAgg, run_underlying he, run_equalIn_int w d e _ _ _ _ he, h1, h2, e1]
theorem findAsk_pair (ht : P.underlying kt = some (.array 2 e)) (he : P.underlying e = some (.int .u8)) (hs : (P.info? e).map (·.size) = some 1) (i : Nat × Nat) (w : World) : ∀ (l : List (KG (Nat × Nat))) (k : Nat),
  (Instr.findAsking kt (ekP i) (l.map (encG ekP)) k).run P w = .ok ((findG l i).map fun s => (k + posG l i, s)) w
 | [], k => by simp [Instr.findAsking, findG]
 | x :: l, k => by
   simp only [List.map_cons, Instr.findAsking, Op.equal, Sem.run_bind]
   rw [show Op.maxDepth = 9998 + 1 + 1 from rfl, show (encG ekP x).key = ekP x.1 from rfl, equalIn_pair ht he hs, Result.andThen_ok]
   by_cases h : x.1 = i
   · simp [h, findG, posG, encG]
   · have hd : decide (i = x.1) = false := by simpa using fun e' => h e'.symm
     simp only [hd, Bool.false_eq_true, if_false, findG, posG, h]
     rw [findAsk_pair ht he hs i w l (k + 1)]
     simp [Nat.add_assoc, Nat.add_comm 1]
theorem checkKey_u8 {e : Nat} (he : P.underlying e = some (.int .u8)) (b : Bool) (n : Nat) (v : Int) (w : World) : (Instr.checkKey b (n + 1) e (.int .u8 v)).run P w = .ok () w := by
 unfold Instr.checkKey
 rw [Sem.run_bind, run_underlying he w, Result.andThen_ok]
 rfl
theorem keyLaw_pair (ht : P.underlying kt = some (.array 2 e)) (he : P.underlying e = some (.int .u8)) (hs : (P.info? e).map (·.size) = some 1) : KeyLaw P kt ekP where
 find w l i := by
  unfold Instr.findKey
  rw [Sem.run_bind, run_underlying ht w, Result.andThen_ok]
  cases l with
  | nil => simp [Instr.findNow, findG]
  | cons x l =>
    have hn : Instr.findNow (.array 2 e) (ekP i) ((x :: l).map (encG ekP)) 0 = none := by simp [Instr.findNow, Instr.sameNow, encG]
    rw [hn]
    have := findAsk_pair ht he hs i w (x :: l) 0
    simpa using this
 check w b i := by
  have hso : (sizeOf e).run P w = .ok 1 w := by
   cases hq : P.info? e with
   | none => simp [hq] at hs
   | some i => simp [hq] at hs; simp [sizeOf, typeInfo, hq, hs]
  show (Instr.checkKey b (9998 + 1 + 1) kt (ekP i)).run P w = .ok () w
  rw [Instr.checkKey]
  unfold ekP
  simp only [Sem.run_bind, run_underlying ht, Result.andThen_ok]
  rw [Std.Legacy.Range.forIn_eq_forIn_range']
  have e2 : List.range' [0:2].start [0:2].size [0:2].step = [0, 1] := by decide
  rw [e2]
  simp [part, isAgg, run_underlying he, hso, checkKey_u8 he]
end
def BssAt (S : Nat → Prop) (w : World) (v : Value) (l : List Str) : Prop :=
 ∃ xs : List Value, RowAt S w v xs ∧ xs.length = l.length ∧ ∀ (i : Nat) (e : Str) (x : Value), l[i]? = some e → xs[i]? = some x → RowAt S w x (e.map bv)
def BsssAt (S : Nat → Prop) (w : World) (v : Value) (l : List (List Str)) : Prop :=
 ∃ xs : List Value, RowAt S w v xs ∧ xs.length = l.length ∧ ∀ (i : Nat) (e : List Str) (x : Value), l[i]? = some e → xs[i]? = some x → BssAt S w x e
section
variable {S T : Nat → Prop} {w w' : World} {v : Value}
theorem BssAt.cong {l : List Str} (h : BssAt S w v l) (hT : ∀ k, S k → T k) (e : ∀ k, S k → w'.heap[k]? = w.heap[k]?) : BssAt T w' v l := by
 obtain ⟨xs, h1, h2, h3⟩ := h
 exact ⟨xs, h1.cong hT e, h2, fun i a x ha hx => (h3 i a x ha hx).cong hT e⟩
theorem BsssAt.cong {l : List (List Str)} (h : BsssAt S w v l) (hT : ∀ k, S k → T k) (e : ∀ k, S k → w'.heap[k]? = w.heap[k]?) : BsssAt T w' v l := by
 obtain ⟨xs, h1, h2, h3⟩ := h
 exact ⟨xs, h1.cong hT e, h2, fun i a x ha hx => (h3 i a x ha hx).cong hT e⟩
theorem BsssAt.any {l : List (List Str)} (h : BsssAt S w v l) (hS : ∀ k, S k → k < w.heap.size) (hb : Below w.heap.size w w') : BsssAt S w' v l := h.cong (fun _ h => h) (fun k hk => hb.block k (hS k hk))
theorem RowAt.form {xs : List Value} (h : RowAt S w v xs) : ∃ ao cap, v = .slice ao xs.length cap ∧ xs.length ≤ cap ∧ cap ≤ maxLen := by
 obtain ⟨ao, cap, rfl, h1, h2, _⟩ := h; exact ⟨ao, cap, rfl, h1, h2⟩
theorem RowAt.get {ao : Option Addr} {n cap : Nat} {xs : List Value} (h : RowAt S w (.slice ao n cap) xs) {k : Nat} {x : Value} (hk : xs[k]? = some x) : ∃ b off, ao = some ⟨b, off, none⟩ ∧ S b ∧ w.cell? ⟨b, off + k, none⟩ = some x := by
 obtain ⟨_, _, e, h1, h2, h3, h4⟩ := h
 cases e
 obtain ⟨b, off, rfl, hS, h7⟩ := h4 (by intro e; rw [e] at hk; simp at hk)
 exact ⟨b, off, rfl, hS, h7 k _ hk⟩
theorem BssAt.form {l : List Str} (h : BssAt S w v l) : ∃ ao cap, v = .slice ao l.length cap ∧ l.length ≤ cap ∧ cap ≤ maxLen := by
 obtain ⟨xs, h1, h2, _⟩ := h
 obtain ⟨ao, cap, rfl, h3, h4⟩ := h1.form
 exact ⟨ao, cap, by rw [h2], by omega, h4⟩
theorem BsssAt.form {l : List (List Str)} (h : BsssAt S w v l) : ∃ ao cap, v = .slice ao l.length cap ∧ l.length ≤ cap ∧ cap ≤ maxLen := by
 obtain ⟨xs, h1, h2, _⟩ := h
 obtain ⟨ao, cap, rfl, h3, h4⟩ := h1.form
 exact ⟨ao, cap, by rw [h2], by omega, h4⟩
theorem BssAt.get {ao : Option Addr} {n cap : Nat} {l : List Str} (h : BssAt S w (.slice ao n cap) l) {k : Nat} {e : Str} (hk : l[k]? = some e) : ∃ b off x, ao = some ⟨b, off, none⟩ ∧ S b ∧ w.cell? ⟨b, off + k, none⟩ = some x ∧ RowAt S w x (e.map bv) := by
 obtain ⟨xs, h1, h2, h3⟩ := h
 have hlt : k < xs.length := by rw [h2]; exact (List.getElem?_eq_some_iff.1 hk).1
 have hx := List.getElem?_eq_getElem hlt
 obtain ⟨b, off, e1, e2, e3⟩ := h1.get hx
 exact ⟨b, off, _, e1, e2, e3, h3 k e _ hk hx⟩
theorem BsssAt.get {ao : Option Addr} {n cap : Nat} {l : List (List Str)} (h : BsssAt S w (.slice ao n cap) l) {k : Nat} {e : List Str} (hk : l[k]? = some e) : ∃ b off x, ao = some ⟨b, off, none⟩ ∧ S b ∧ w.cell? ⟨b, off + k, none⟩ = some x ∧ BssAt S w x e := by
 obtain ⟨xs, h1, h2, h3⟩ := h
 have hlt : k < xs.length := by rw [h2]; exact (List.getElem?_eq_some_iff.1 hk).1
 have hx := List.getElem?_eq_getElem hlt
 obtain ⟨b, off, e1, e2, e3⟩ := h1.get hx
 exact ⟨b, off, _, e1, e2, e3, h3 k e _ hk hx⟩
end
theorem conv_row {S : Nat → Prop} {w : World} {v : Value} {l : Str} (h : RowAt S w v (l.map bv)) : (convert 72 9 v).run Tryz.prog w = .ok (.string ⟨l.toArray⟩) w := by
 obtain ⟨ao, cap, rfl, h1, h2, h3, h4⟩ := h
 rw [List.length_map] at *
 cases l with
 | nil =>
   cases ao with
   | none => exact run_convert_bytes_nil w 72 5 Tryz.underlying72 Tryz.underlying5 0 cap 9 Tryz.underlying9
   | some a => exact run_convert_bytes_back w _ _ 5 a cap [] Tryz.underlying72 Tryz.underlying5 Tryz.underlying9 (fun j hj => by simp at hj)
 | cons c l =>
   obtain ⟨b, off, rfl, _, hc⟩ := h4 (by simp)
   exact run_convert_bytes_back w _ _ 5 ⟨b, off, none⟩ cap (c :: l) Tryz.underlying72 Tryz.underlying5 Tryz.underlying9 (fun j hj => by
    rw [Addr.add_mid]
    exact hc j _ (by rw [List.getElem?_map, List.getElem?_eq_getElem hj]; rfl))
def keyAt (K : List (List Str)) (i k : Nat) : Str := (K.getD i []).getD k []
def rowKs (row : List Str) (i m : Nat) : List Str := ((List.range m).filter (· != i)).map fun k => row.getD k []
def allKs (K : List (List Str)) (n : Nat) : List Str := (List.range n).flatMap fun i => rowKs (K.getD i []) i K.length
def goodL (l : List Str) : Bool := l.all (fun s => decide (1 ≤ s.length) && decide (s.length ≤ 64)) && decide l.Nodup
def goodB (K : List (List Str)) : Bool := decide (2 ≤ K.length) && decide (K.length ≤ 8) && K.all (fun r => decide (r.length = K.length)) && goodL (allKs K K.length)
theorem rowKs_skip (row : List Str) (i : Nat) : rowKs row i (i + 1) = rowKs row i i := by
 unfold rowKs
 rw [List.range_succ, List.filter_append]
 simp
theorem rowKs_more (row : List Str) {i m : Nat} (h : m ≠ i) : rowKs row i (m + 1) = rowKs row i m ++ [row.getD m []] := by
 unfold rowKs
 rw [List.range_succ, List.filter_append, List.map_append]
 simp [h]
theorem allKs_more (K : List (List Str)) (n : Nat) : allKs K (n + 1) = allKs K n ++ rowKs (K.getD n []) n K.length := by
 unfold allKs
 rw [List.range_succ, List.flatMap_append]
 simp
theorem goodL_snoc (l : List Str) (s : Str) : goodL (l ++ [s]) = (goodL l && (decide (1 ≤ s.length) && decide (s.length ≤ 64) && decide (s ∉ l))) := by
 unfold goodL
 rw [Bool.eq_iff_iff]
 simp only [Bool.and_eq_true, List.all_append, List.all_cons, List.all_nil, Bool.and_true, decide_eq_true_eq, List.nodup_append]
 constructor
 · rintro ⟨⟨h1, h2⟩, h3, h4, h5⟩
   exact ⟨⟨h1, h3⟩, h2, fun hm => h5 s hm s (by simp) rfl⟩
 · rintro ⟨⟨h1, h3⟩, h2, h5⟩
   refine ⟨⟨h1, h2⟩, h3, by simp, ?_⟩
   intro a ha b hb e
   rw [List.mem_singleton] at hb
   subst hb; subst e
   exact h5 ha
theorem goodL_prefix {a b : List Str} (h : goodL (a ++ b) = true) : goodL a = true := by
 unfold goodL at *
 simp only [Bool.and_eq_true, List.all_append, decide_eq_true_eq, List.nodup_append] at *
 exact ⟨h.1.1, h.2.1⟩
theorem allKs_prefix (K : List (List Str)) {n m : Nat} (h : n ≤ m) : ∃ r, allKs K m = allKs K n ++ r := by
 induction m with
 | zero => obtain rfl : n = 0 := by omega
           exact ⟨[], by simp⟩
 | succ m ih =>
   by_cases e : n = m + 1
   · subst e; exact ⟨[], by simp⟩
   · obtain ⟨r, hr⟩ := ih (by omega)
     exact ⟨r ++ rowKs (K.getD m []) m K.length, by rw [allKs_more, hr, List.append_assoc]⟩
theorem rowKs_prefix (row : List Str) (i : Nat) {n m : Nat} (h : n ≤ m) : ∃ r, rowKs row i m = rowKs row i n ++ r := by
 induction m with
 | zero => obtain rfl : n = 0 := by omega
           exact ⟨[], by simp⟩
 | succ m ih =>
   by_cases e : n = m + 1
   · subst e; exact ⟨[], by simp⟩
   · obtain ⟨r, hr⟩ := ih (by omega)
     by_cases hm : m = i
     · subst hm; exact ⟨r, by rw [rowKs_skip, hr]⟩
     · exact ⟨r ++ [row.getD m []], by rw [rowKs_more row hm, hr, List.append_assoc]⟩
def seenKs (K : List (List Str)) (i k : Nat) : List Str := allKs K i ++ rowKs (K.getD i []) i k
theorem good_seen {K : List (List Str)} (h : goodB K = true) {i k : Nat} (hi : i < K.length) (hk : k ≤ K.length) : goodL (seenKs K i k) = true := by
 unfold goodB at h
 simp only [Bool.and_eq_true] at h
 obtain ⟨r, hr⟩ := allKs_prefix K (show i + 1 ≤ K.length by omega)
 obtain ⟨q, hq⟩ := rowKs_prefix (K.getD i []) i hk
 have h2 := h.2
 rw [hr, allKs_more, hq, List.append_assoc, List.append_assoc, ← List.append_assoc] at h2
 exact goodL_prefix h2
structure RingAt (w : World) (B rb : Nat) (K : List (List Str)) : Prop where
 ex : ∃ mb l clock, w.heap[rb]? = some (.cells #[.int .i64 (K.length : Int), .map (some mb)] 136 (0, 0)) ∧ w.heap[mb]? = some (.map ((l.map (encG ekP)).toArray) clock) ∧ B ≤ rb ∧ B ≤ mb ∧
  (∀ i k, i < K.length → k < K.length → i ≠ k → (findG l (i, k)).isSome = true) ∧
  (∀ i k v, findG l (i, k) = some v → i < K.length ∧ k < K.length ∧ i ≠ k ∧ RowAt (fun b => B ≤ b ∧ b < w.heap.size) w v ((keyAt K i k).map bv))
theorem RingAt.lt {w : World} {B rb : Nat} {K : List (List Str)} (h : RingAt w B rb K) : B ≤ rb ∧ rb < w.heap.size := by
 obtain ⟨mb, l, c, h1, _, h3, _⟩ := h.ex
 exact ⟨h3, (Array.getElem?_eq_some_iff.1 h1).1⟩
theorem RingAt.fr {w w' : World} {B rb : Nat} {K : List (List Str)} {F : List Nat} (h : RingAt w B rb K) (hf : Fr F w w') (hF : ∀ k ∈ F, k < B ∨ w.heap.size ≤ k) : RingAt w' B rb K := by
 obtain ⟨mb, l, c, h1, h2, h3, h4, h5, h6⟩ := h.ex
 have hb : ∀ k, B ≤ k → k < w.heap.size → w'.heap[k]? = w.heap[k]? := fun k a b => hf.block k b (fun hm => by have := hF k hm; omega)
 refine ⟨mb, l, c, (hb rb h3 (Array.getElem?_eq_some_iff.1 h1).1).trans h1, (hb mb h4 (Array.getElem?_eq_some_iff.1 h2).1).trans h2, h3, h4, h5, fun i k v hv => ?_⟩
 obtain ⟨a, b, d, e⟩ := h6 i k v hv
 exact ⟨a, b, d, e.cong (fun j hj => ⟨hj.1, Nat.lt_of_lt_of_le hj.2 hf.size⟩) (fun j hj => hb j hj.1 hj.2)⟩
theorem RingAt.on {w w' : World} {B rb : Nat} {K : List (List Str)} (h : RingAt w B rb K) (hb : Below w.heap.size w w') : RingAt w' B rb K :=
 h.fr (Below.fr hb (Nat.le_refl _) []) (fun k hk => by cases hk)
theorem eql_nilB (w : World) (a : Option Addr) (n c n' c' : Nat) : (binOp .eql 72 (.slice a n c) (.slice none n' c')).run Tryz.prog w = .ok (.bool a.isNone) w := Lib.run_eql_slice_nil w _ _ a n c n' c' Tryz.underlying72
def CloneQ (l : Str) (w : World) (e : Ending) (w' : World) : Prop := ∃ v', e = .returned v' ∧ OwnS w' w.heap.size v' l ∧ Below w.heap.size w w'
set_option maxRecDepth 100000 in
set_option maxHeartbeats 2000000 in
theorem clone_row {T : Nat → Prop} (v : Value) (l : Str) (w : World) (h : RowAt T w v (l.map bv)) (hl : l.length ≤ 70368744177664) :
  Calls Tryz.prog 63 #[v] w fun e w' => CloneQ l w e w' := by
 have h0 := h
 obtain ⟨ao, cap, rfl, h1, h2, h3, h4⟩ := h
 rw [List.length_map] at h1 h0 ⊢
 have q := eql_nilB
 have HR := Lib.hid h0
 clear h0 h4
 cases ao with
 | none =>
   have hc := h3 rfl
   have hz : l.length = 0 := by omega
   obtain rfl := List.length_eq_zero_iff.1 hz
   subst hc
   clear h3
   go_enter Tryz.func63, Tryz.ntmps63
   go_wp2
   go_ret
   exact ⟨_, rfl, OwnS.nil _ _, Below.refl _ _⟩
 | some ad =>
   obtain ⟨n, hn⟩ : ∃ n, l.length = n := ⟨_, rfl⟩
   rw [hn] at HR ⊢
   have HN := Lib.hid hn
   clear h3 h1 hn
   have HM : Hid (OwnS (w.alloc (.cells #[] 5)) w.heap.size (.slice (some ⟨w.heap.size, 0, none⟩) 0 0) []) := Lib.hid (World.ownsRow_made w #[] 0 (Nat.le_refl _) (Nat.zero_le _) rfl)
   go_enter Tryz.func63, Tryz.ntmps63
   go_wp2_with (at_builtin; refine wp_app_bytes (w := w.alloc (.cells #[] 5)) (B := w.heap.size) (T := fun k => T k ∧ k < w.heap.size) (v := .slice (some ⟨w.heap.size, 0, none⟩) 0 0) (src := .slice (some ad) n cap) (l := []) (e := l) rfl _ _ rfl rfl rfl HM.out (HR.out.cong2 ((Below.refl _ _).alloc (Nat.le_refl _) _) rfl) ?c1 ?c2 ?_; (case c1 => rw [List.length_nil, Nat.zero_add]; omega); (case c2 => simp); intro v' w1 hO hgr _; rw [List.nil_append] at hO; have HO := Lib.hid hO; have HG := Lib.hid hgr; clear hO hgr)
   go_ret
   exact ⟨v', rfl, HO.out, ((Below.refl _ w).alloc (Nat.le_refl _) _).grown HG.out (by simp) (by intro k hk; simp [Value.ownBlock] at hk; omega)⟩
theorem exec_lookup0 {P : Program} {w : World} {o : Oper} {a : Act} {mt : TypeId} {x i : Operand} (ho : o.op = .lookup mt x i false) {mv iv v : Value} (hx : a.eval x = mv) (hi : a.eval i = iv) (hr : (Instr.lookup mt mv iv false).run P w = .ok v w) :
  (execOp a.eval o).run P w = .ok (.value v) w := by
 unfold execOp
 simp only [ho, hx, hi, Sem.run_bind, hr, Result.andThen_ok, Sem.run_pure]
theorem wpList_lookup0_run {P : Program} {w : World} {ops : Array Oper} {rest : List Oper} {o : Oper} {a : Act} {Q : Exit → Act → World → Prop} (hgd : Region.wanted o (yielded ops a.tmps) = true) {mt : TypeId} {x i : Operand} (ho : o.op = .lookup mt x i false) {mv iv v : Value} (hx : a.eval x = mv) (hi : a.eval i = iv) (hr : (Instr.lookup mt mv iv false).run P w = .ok v w)
  (h : wpList P ops Q rest (a.put o.dst v) w) : wpList P ops Q (o :: rest) a w := by
 unfold wpList
 rw [if_pos hgd]
 left
 unfold Oper.wp
 rw [exec_lookup0 ho hx hi hr]
 exact h
theorem lawS : KeyLaw Tryz.prog 9 ekS := keyLaw_str Tryz.underlying9
theorem lawP : KeyLaw Tryz.prog 139 ekP := keyLaw_pair Tryz.underlying139 Tryz.underlying5 (by kernel_rfl)
theorem zeroB : ∀ w, (zeroValue 4).run Tryz.prog w = .ok (.bool false) w := fun _ => by kernel_rfl
theorem zeroY : ∀ w, (zeroValue 72).run Tryz.prog w = .ok (.slice none 0 0) w := fun _ => by kernel_rfl
structure PartG (w : World) (B : Nat) (M : List (List Str)) (sl : List Str) (fl : Nat → Nat → Prop) : Prop where
 ex : ∃ l c ls c2, w.heap[B + 1]? = some (.cells #[.int .i64 (M.length : Int), .map (some B)] 136 (0, 0)) ∧ w.heap[B]? = some (.map ((l.map (encG ekP)).toArray) c) ∧ w.heap[B + 2]? = some (.map ((ls.map (encG ekS)).toArray) c2) ∧
  (∀ a b, (findG l (a, b)).isSome = true ↔ fl a b) ∧ (∀ a b v, findG l (a, b) = some v → RowAt (fun j => B + 3 ≤ j ∧ j < w.heap.size) w v ((keyAt M a b).map bv)) ∧
  (∀ t : Str, findG ls (⟨t.toArray⟩ : ByteArray) = if t ∈ sl then some (.bool true) else none)
theorem PartG.lt {w : World} {B : Nat} {M : List (List Str)} {sl : List Str} {fl : Nat → Nat → Prop} (h : PartG w B M sl fl) : B + 2 < w.heap.size := by
 obtain ⟨l, c, ls, c2, _, _, h3, _⟩ := h.ex
 exact (Array.getElem?_eq_some_iff.1 h3).1
theorem PartG.iff {w : World} {B : Nat} {M : List (List Str)} {sl : List Str} {fl gl : Nat → Nat → Prop} (h : PartG w B M sl fl) (e : ∀ a b, fl a b ↔ gl a b) : PartG w B M sl gl := by
 obtain ⟨l, c, ls, c2, h1, h2, h3, h4, h5, h6⟩ := h.ex
 exact ⟨l, c, ls, c2, h1, h2, h3, fun a b => (h4 a b).trans (e a b), h5, h6⟩
theorem PartG.on {w w' : World} {B : Nat} {M : List (List Str)} {sl : List Str} {fl : Nat → Nat → Prop} (h : PartG w B M sl fl) (hb : Below w.heap.size w w') : PartG w' B M sl fl := by
 have hlt := h.lt
 obtain ⟨l, c, ls, c2, h1, h2, h3, h4, h5, h6⟩ := h.ex
 exact ⟨l, c, ls, c2, (hb.block _ (by omega)).trans h1, (hb.block _ (by omega)).trans h2, (hb.block _ (by omega)).trans h3, h4, fun a b v hv => (h5 a b v hv).cong (fun j hj => ⟨hj.1, Nat.lt_of_lt_of_le hj.2 hb.size⟩) (fun j hj => hb.block j hj.2), h6⟩
theorem PartG.cell {w : World} {B : Nat} {M : List (List Str)} {sl : List Str} {fl : Nat → Nat → Prop} (h : PartG w B M sl fl) : w.cell? ⟨B + 1, 0, none⟩ = some (.int .i64 (M.length : Int)) ∧ w.cell? ⟨B + 1, 1, none⟩ = some (.map (some B)) := by
 obtain ⟨l, c, ls, c2, h1, _⟩ := h.ex
 exact ⟨cell_of_row w (B + 1) 0 _ _ _ h1, cell_of_row w (B + 1) 1 _ _ _ h1⟩
theorem PartG.look {w : World} {B : Nat} {M : List (List Str)} {sl : List Str} {fl : Nat → Nat → Prop} (h : PartG w B M sl fl) (t : Str) (u : World) (hu : u.heap = w.heap) :
  (Instr.lookup 137 (.map (some (B + 2))) (.string ⟨t.toArray⟩) false).run Tryz.prog u = .ok (.bool (decide (t ∈ sl))) u := by
 obtain ⟨l, c, ls, c2, h1, h2, h3, h4, h5, h6⟩ := h.ex
 have := run_lookupG1 (w := u) lawS Tryz.underlying137 zeroB (by rw [hu]; exact h3) (⟨t.toArray⟩ : ByteArray)
 rw [show ekS (⟨t.toArray⟩ : ByteArray) = .string ⟨t.toArray⟩ from rfl] at this
 rw [this, h6]
 by_cases ht : t ∈ sl <;> simp [ht]
theorem PartG.see {w : World} {B : Nat} {M : List (List Str)} {sl : List Str} {fl : Nat → Nat → Prop} (h : PartG w B M sl fl) (t : Str) (ht : t ∉ sl) :
  ∃ w1, (Instr.mapUpdate 137 (.map (some (B + 2))) (.string ⟨t.toArray⟩) (.bool true)).run Tryz.prog w = .ok () w1 ∧ PartG w1 B M (sl ++ [t]) fl ∧ Fr [B + 2] w w1 := by
 have hlt := h.lt
 obtain ⟨l, c, ls, c2, h1, h2, h3, h4, h5, h6⟩ := h.ex
 have hn : findG ls (⟨t.toArray⟩ : ByteArray) = none := by rw [h6, if_neg ht]
 refine ⟨_, run_insertG lawS Tryz.underlying137 h3 (⟨t.toArray⟩ : ByteArray) (.bool true) hn, ?_, Fr.putObj _ (by simp) _⟩
 refine ⟨l, c, _, c2 + 1, (putObj_other (by omega) _).trans h1, (putObj_other (by omega) _).trans h2, putObj_same hlt _, h4, fun a b v hv => (h5 a b v hv).cong (fun j hj => by rw [putObj_size]; exact hj) (fun j hj => putObj_other (by omega) _), fun s => ?_⟩
 rw [findG_snoc _ _ _ _ _ hn, h6]
 have e1 : ((⟨t.toArray⟩ : ByteArray) = ⟨s.toArray⟩) ↔ t = s := by
  constructor
  · intro e
    have := congrArg ByteArray.data e
    exact (Array.mk.inj this)
  · rintro rfl; rfl
 by_cases hst : t = s
 · subst hst; rw [if_pos rfl, if_pos (by simp)]
 · rw [if_neg (fun e => hst (e1.1 e))]
   have e2 : s ∈ sl ++ [t] ↔ s ∈ sl := by
    rw [List.mem_append, List.mem_singleton]
    exact ⟨fun h => h.resolve_right (fun e => hst e.symm), Or.inl⟩
   by_cases hs : s ∈ sl
   · rw [if_pos hs, if_pos (e2.2 hs)]
   · rw [if_neg hs, if_neg (fun h => hs (e2.1 h))]
theorem PartG.key {w : World} {B : Nat} {M : List (List Str)} {sl : List Str} {fl : Nat → Nat → Prop} (h : PartG w B M sl fl) (i k : Nat) (hn : ¬ fl i k) (v : Value) (hv : RowAt (fun j => B + 3 ≤ j ∧ j < w.heap.size) w v ((keyAt M i k).map bv)) :
  ∃ w1, (Instr.mapUpdate 134 (.map (some B)) (.agg #[.int .u8 (i : Int), .int .u8 (k : Int)]) v).run Tryz.prog w = .ok () w1 ∧ PartG w1 B M sl (fun a b => fl a b ∨ (a = i ∧ b = k)) ∧ Fr [B] w w1 := by
 have hlt := h.lt
 obtain ⟨l, c, ls, c2, h1, h2, h3, h4, h5, h6⟩ := h.ex
 have hnone : findG l (i, k) = none := by
  cases hf : findG l (i, k) with
  | none => rfl
  | some x => exact absurd ((h4 i k).1 (by rw [hf]; rfl)) hn
 refine ⟨_, run_insertG lawP Tryz.underlying134 h2 (i, k) v hnone, ?_, Fr.putObj _ (by simp) _⟩
 refine ⟨_, c + 1, ls, c2, (putObj_other (by omega) _).trans h1, putObj_same (by omega) _, (putObj_other (by omega) _).trans h3, fun a b => ?_, fun a b u hu => ?_, h6⟩
 · rw [findG_snoc _ _ _ _ _ hnone]
   by_cases e : (i, k) = (a, b)
   · rw [if_pos e]
     have : a = i ∧ b = k := by cases e; exact ⟨rfl, rfl⟩
     simp [this]
   · rw [if_neg e, h4]
     constructor
     · exact Or.inl
     · rintro (h | ⟨rfl, rfl⟩)
       · exact h
       · exact absurd rfl e
 · rw [findG_snoc _ _ _ _ _ hnone] at hu
   by_cases e : (i, k) = (a, b)
   · rw [if_pos e] at hu
     cases e; cases hu
     exact hv.cong (fun j hj => by rw [putObj_size]; exact hj) (fun j hj => putObj_other (by omega) _)
   · rw [if_neg e] at hu
     exact (h5 a b u hu).cong (fun j hj => by rw [putObj_size]; exact hj) (fun j hj => putObj_other (by omega) _)
def flK (n i k a b : Nat) : Prop := a < n ∧ b < n ∧ a ≠ b ∧ (a < i ∨ (a = i ∧ b < k))
theorem PartG.ring {w : World} {B : Nat} {M : List (List Str)} {sl : List Str} (h : PartG w B M sl (flK M.length M.length 0)) : RingAt w B (B + 1) M := by
 obtain ⟨l, c, ls, c2, h1, h2, h3, h4, h5, h6⟩ := h.ex
 refine ⟨B, l, c, h1, h2, by omega, Nat.le_refl _, fun i k hi hk hik => (h4 i k).2 ⟨hi, hk, hik, .inl hi⟩, fun i k v hv => ?_⟩
 obtain ⟨a, b, d, _⟩ := (h4 i k).1 (by rw [hv]; rfl)
 exact ⟨a, b, d, (h5 i k v hv).cong (fun j hj => ⟨by omega, hj.2⟩) (fun _ _ => rfl)⟩
def GNewQ (M : List (List Str)) (w : World) (e : Ending) (w' : World) : Prop :=
 (goodB M = true → ∃ rb, e = .returned (.tuple #[.pointer (some ⟨rb, 0, none⟩), .int .i64 0]) ∧ RingAt w' w.heap.size rb M) ∧ (goodB M = false → e = .returned (.tuple #[.pointer none, .int .i64 1])) ∧ Below w.heap.size w w'
theorem gnew_bad {M : List (List Str)} {w w' : World} (h : goodB M = false) (hb : Below w.heap.size w w') : GNewQ M w (.returned (.tuple #[.pointer none, .int .i64 1])) w' :=
 ⟨fun h1 => (by rw [h] at h1; cases h1), fun _ => rfl, hb⟩
end Go.Proofs.YtgfijlamhjjecaaGreatDoor
