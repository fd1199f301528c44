/-
  Texts ShaV, ShaW, ShaX, SealT, one behind the other. No condition beyond those stated in each.
-/
import Derived.Test.YtgfijlamhjjecaaGreatDoorMv17
import Derived.Test.YtgfijlamhjjecaaGreatDoorMv12
import Derived.Test.YtgfijlamhjjecaaGreatDoorMv13
import Derived.Test.YtgfijlamhjjecaaGreatDoorMv16
namespace Go.Proofs.YtgfijlamhjjecaaGreatDoor
open Go.RowKit
set_option maxRecDepth 100000 in
set_option maxHeartbeats 16000000 in
theorem r2Of_any {T S : Nat → Prop} (key bs : Str) (kv sv' : Value) (w : World) (hk : RowAt T w kv (key.map bv)) (hT : ∀ k, T k → k < w.heap.size) (hb : RowAt S w sv' (bs.map bv)) (hS : ∀ k, S k → k < w.heap.size) (hl : key.length ≤ 17592186044416) (hm : bs.length ≤ 1000000000000) :
  Calls Tryz.prog 34 #[kv, sv'] w fun e w' => DigQ (macM key bs) w e w' := by
 obtain ⟨B, hB⟩ : ∃ B, w.heap.size = B := ⟨_, rfl⟩
 have HBQ := Lib.hid hB
 obtain ⟨w1, hw1⟩ : ∃ u, w.alloc (.cells (pad32 []).toArray 78) = u := ⟨_, rfl⟩
 have HD1 : Hid (w1.heap[B]? = some (.cells (pad32 []).toArray 78 (0, 0))) := Lib.hid (by rw [← hw1, ← hB]; exact heap_alloc_new _ _)
 have HB1 : Hid (Below B w w1) := Lib.hid (by rw [← hw1, ← hB]; exact (Below.refl _ _).alloc (Nat.le_refl _) _)
 have HZ1 : Hid (w1.heap.size = B + 1) := Lib.hid (by rw [← hw1, ← hB]; simp)
 have HK1 : Hid (RowAt (fun k => k < B) w1 kv (key.map bv)) := Lib.hid (hk.cong (fun k h => by rw [← hB]; exact hT k h) (fun k h => HB1.out.block k (by rw [← hB]; exact hT k h)))
 have HS1 : Hid (RowAt (fun k => k < B) w1 sv' (bs.map bv)) := Lib.hid (hb.cong (fun k h => by rw [← hB]; exact hS k h) (fun k h => HB1.out.block k (by rw [← hB]; exact hS k h)))
 have HL := Lib.hid hl
 have HM := Lib.hid hm
 have HW1 := Lib.hid hw1
 obtain ⟨ko, kc, rfl, k1, k2⟩ := hk.form
 obtain ⟨so, sc, rfl, s1, s2⟩ := hb.form
 rw [List.length_map] at k1 s1 HK1 HS1 ⊢
 rw [List.length_map]
 obtain ⟨kn, hkn⟩ : ∃ n, key.length = n := ⟨_, rfl⟩
 obtain ⟨sn, hsn⟩ : ∃ n, bs.length = n := ⟨_, rfl⟩
 rw [hkn] at k1 HK1 ⊢
 rw [hsn] at s1 HS1 ⊢
 unfold maxLen at k2 s2
 have HKN := Lib.hid hkn
 have HSN := Lib.hid hsn
 have hb54 : Calls Tryz.prog 65 #[.slice ko kn kc, .int .u8 54] w1 fun e w' => FillQ (blkM key 54) w1 e w' := r2block_any key 54 (.slice ko kn kc) w1 HK1.out (fun k h => by rw [HZ1.out]; omega) HL.out
 have HB54 := Lib.hid hb54
 clear hB hw1 hk hT hb hS hl hm hkn hsn hb54
 go_enter Tryz.func34, Tryz.ntmps34
 go_upto_region 1 with ((with_reducible refine wpList_at (.alloc 78) rfl ?_); refine wpList_alloc_cells rfl _ rfl _ zero32 ?_)
 rw [HW1.out, HBQ.out]
 go_wp2_with fail
 refine HB54.out.mono ?_
 unfold FillQ
 rw [HZ1.out]
 rintro e w2 ⟨v2, rfl, hO2, hU2⟩
 obtain ⟨a2, c2, rfl⟩ := OwnS.form hO2
 have HO2 := Lib.hid hO2
 have HU2 := Lib.hid hU2
 rw [blkM_len] at HO2 ⊢
 have HZ2 : Hid (B + 1 ≤ w2.heap.size) := Lib.hid (by have := hU2.size; rw [HZ1.out] at this; exact this)
 have HS2 : Hid (RowAt (fun k => k < B) w2 (.slice so sn sc) (bs.map bv)) := Lib.hid (HS1.out.cong (fun _ h => h) (fun k h => hU2.block k (by omega)))
 clear hO2 hU2 HB54
 go_wp2_with ((with_reducible refine wpList_at (.call { callee := .builtin .append, args := #[.tmp 7, .tmp 8], argTypes := #[72, 72] }) rfl ?_); go_loud (refine wp_app_bytes (v := .slice a2 64 c2) (src := .slice so sn sc) rfl _ _ rfl rfl rfl HO2.out HS2.out (by rw [blkM_len]; have := HM.out; omega) HZ2.out ?_); intro v3 w3 hO3 hg3 _; have HO3 := Lib.hid hO3; have HU3 : Hid (Below (B + 1) w1 w3) := Lib.hid (below_grownO HU2.out HO2.out hg3 HZ2.out); clear hO3 hg3)
 obtain ⟨a3, c3, rfl⟩ := OwnS.form HO3.out
 obtain ⟨X, hX⟩ : ∃ X, blkM key 54 ++ bs = X := ⟨_, rfl⟩
 have hxl : X.length ≤ 17592186044416 := by rw [← hX, List.length_append, blkM_len]; have := HM.out; omega
 have HXQ := Lib.hid hX
 rw [hX] at HO3 ⊢
 have HZ3 : Hid (B + 1 ≤ w3.heap.size) := Lib.hid (by have := HU3.out.size; rw [HZ1.out] at this; exact this)
 have HOF := Lib.hid (r1Of_any X _ w3 HO3.out.rowAt (fun k h => h.2) hxl)
 obtain ⟨cs, hcs⟩ : ∃ cs, (shaM X).map bv = cs := ⟨_, rfl⟩
 have hcl : cs.length = 32 := by rw [← hcs, List.length_map, shaM_len]
 have hc1 : cs.all (·.oneCell') = true := by rw [← hcs]; exact bytes_one _
 have HCS := Lib.hid hcs
 have HCL := Lib.hid hcl
 have HCO := Lib.hid hc1
 clear hcs hcl hc1 hX hxl
 go_wp2_with fail
 refine HOF.out.mono ?_
 unfold DigQ
 rw [HCS.out]
 rintro e w4 ⟨rfl, hb4⟩
 obtain ⟨D, hD⟩ : ∃ D, w4.heap.size = D := ⟨_, rfl⟩
 have HU4 : Hid (Below (B + 1) w1 w4) := Lib.hid (HU3.out.trans (hb4.mono HZ3.out))
 have HBD : Hid (B + 1 ≤ D) := Lib.hid (by have := HU4.out.size; rw [HZ1.out, hD] at this; exact this)
 obtain ⟨w5, hw5⟩ : ∃ u, w4.alloc (.cells (pad32 []).toArray 78) = u := ⟨_, rfl⟩
 have HD5 : Hid (w5.heap[D]? = some (.cells (pad32 []).toArray 78 (0, 0))) := Lib.hid (by rw [← hw5, ← hD]; exact heap_alloc_new _ _)
 have HU5 : Hid (Below (B + 1) w1 w5) := Lib.hid (by rw [← hw5]; exact HU4.out.alloc (by rw [hD]; exact HBD.out) _)
 have HW5 := Lib.hid hw5
 have HDQ := Lib.hid hD
 clear hb4 hD hw5 HOF
 go_upto_region 2 with (first
   | ((with_reducible refine wpList_at (.alloc 78) rfl ?_); go_loud (refine wpList_alloc_cells rfl _ rfl _ zero32 ?_); rw [HW5.out, HDQ.out])
   | ((with_reducible refine wpList_at (.store 78 (.tmp 5) (.tmp 10)) rfl ?_); go_loud (refine wpList_store_agg rfl _ _ _ rfl D 0 cs rfl rfl (by rw [HCL.out]; exact there_of HD5.out 32 (by decide)) (by rw [HCL.out]; kernel_rfl) HCO.out ?_)))
 obtain ⟨w6, hw6⟩ : ∃ u, w5.setCells D 0 cs = u := ⟨_, rfl⟩
 have HD6 : Hid (w6.heap[D]? = some (.cells cs.toArray 78 (0, 0))) := Lib.hid (by rw [← hw6]; exact putL_heap (cs := pad32 []) HD5.out cs (by rw [HCL.out]; rfl))
 have HU6 : Hid (Below (B + 1) w1 w6) := Lib.hid (by rw [← hw6]; exact putL_below HBD.out _ _ _ HU5.out)
 rw [hw6]
 clear hw6
 have HZ6 : Hid (D < w6.heap.size) := Lib.hid (Array.getElem?_eq_some_iff.1 HD6.out).1
 have HK6 : Hid (RowAt (fun k => k < B) w6.drew (.slice ko kn kc) (key.map bv)) := Lib.hid (HK1.out.cong (fun _ h => h) (fun k h => (HU6.out.drew).block k (by omega)))
 have HB92 : Hid (Calls Tryz.prog 65 #[.slice ko kn kc, .int .u8 92] w6.drew fun e w' => FillQ (blkM key 92) w6.drew e w') := Lib.hid (r2block_any key 92 (.slice ko kn kc) w6.drew HK6.out (fun k h => by show k < w6.heap.size; have := HBD.out; have := HZ6.out; omega) HL.out)
 refine wp_region_plan [(0, false), (2, false), (1, true), (3, true), (4, true), (5, true)] (fun _ => True) (by kernel_rfl) (by kernel_rfl) trivial ?_
 iterate 2 (refine' plan_val rfl rfl (fun w' hS => ?_) ?_; rotate_left; (focus (first | (go_simp; rfl) | (go_simp; done))); simp only [Act.put, List.setIfInBounds_toArray, List.set_cons_zero, List.set_cons_succ])
 refine plan_do rfl (fun K hK => ?_)
 go_wp2_with fail
 refine HB92.out.mono ?_
 unfold FillQ
 rintro e w7 ⟨v7, rfl, hO7, hU7⟩
 obtain ⟨a7, c7, rfl⟩ := OwnS.form hO7
 have HO7 : Hid (OwnS w7 w6.heap.size (.slice a7 (blkM key 92).length c7) (blkM key 92)) := Lib.hid hO7
 have HU7 : Hid (Below w6.heap.size w6 w7) := Lib.hid ((Below.refl _ _).drew.trans hU7)
 have HZ7 : Hid (w6.heap.size ≤ w7.heap.size) := Lib.hid HU7.out.size
 have HD7 : Hid (w7.heap[D]? = some (.cells cs.toArray 78 (0, 0))) := Lib.hid ((HU7.out.block D HZ6.out).trans HD6.out)
 rw [blkM_len] at HO7 ⊢
 clear hO7 hU7 HB92
 go_wp2_with fail
 refine hK _ _ trivial ?_
 clear hK K
 have HRD : Hid (RowAt (fun k => k = D) w7 (.slice (some ⟨D, 0, none⟩) 32 32) ((shaM X).map bv)) := Lib.hid (by
  have h := row_lit (S := fun k => k = D) HD7.out rfl (by rw [HCL.out]; omega)
  rw [HCL.out] at h
  rw [HCS.out]
  exact h)
 refine plan_do rfl (fun K hK => ?_)
 refine wp_app_bytes (T := fun k => k = D) (v := .slice a7 64 c7) (src := .slice (some ⟨D, 0, none⟩) 32 32) (l := blkM key 92) (e := shaM X) rfl _ _ rfl (B := w6.heap.size) rfl rfl HO7.out HRD.out (by rw [blkM_len, shaM_len]; omega) HZ7.out ?_
 intro v8 w8 hO8 hg8 _
 obtain ⟨a8, c8, rfl⟩ := OwnS.form hO8
 have HU8 : Hid (Below w6.heap.size w6 w8) := Lib.hid (below_grownO HU7.out HO7.out hg8 HZ7.out)
 obtain ⟨Y, hY⟩ : ∃ Y, blkM key 92 ++ shaM X = Y := ⟨_, rfl⟩
 have hyl : Y.length ≤ 17592186044416 := by rw [← hY, List.length_append, blkM_len, shaM_len]; omega
 have HYQ : Hid (macM key bs = shaM Y) := Lib.hid (by rw [← hY, ← HXQ.out]; rfl)
 rw [hY] at hO8 ⊢
 have HOF := Lib.hid (r1Of_any Y _ w8 hO8.rowAt (fun k h => h.2) hyl)
 obtain ⟨ds, hds⟩ : ∃ ds, (shaM Y).map bv = ds := ⟨_, rfl⟩
 have hdl : ds.length = 32 := by rw [← hds, List.length_map, shaM_len]
 have hd1 : ds.all (·.oneCell') = true := by rw [← hds]; exact bytes_one _
 have HDS := Lib.hid hds
 have HDL := Lib.hid hdl
 have HDO := Lib.hid hd1
 have HZ8 : Hid (w6.heap.size ≤ w8.heap.size) := Lib.hid HU8.out.size
 clear hds hdl hd1 hY hyl hO8 hg8
 go_wp2_with fail
 refine hK _ _ trivial ?_
 clear hK K
 refine plan_do rfl (fun K hK => ?_)
 go_wp2_with fail
 refine HOF.out.mono ?_
 unfold DigQ
 rw [HDS.out]
 rintro e w9 ⟨rfl, hb9⟩
 have HU9 : Hid (Below w6.heap.size w6 w9) := Lib.hid (HU8.out.trans (hb9.mono HZ8.out))
 have HBW9 : Hid (Below (B + 1) w1 w9) := Lib.hid (HU6.out.trans (HU9.out.mono (by have := HBD.out; have := HZ6.out; omega)))
 have HD9 : Hid (w9.heap[B]? = some (.cells (pad32 []).toArray 78 (0, 0))) := Lib.hid ((HBW9.out.block B (Nat.lt_succ_self B)).trans HD1.out)
 clear hb9 HOF
 go_wp2_with fail
 refine hK _ _ trivial ?_
 clear hK K
 refine plan_do rfl (fun K hK => ?_)
 go_wp2_with ((with_reducible refine wpList_at (.store 78 (.tmp 4) (.tmp 15)) rfl ?_); go_loud (refine wpList_store_agg rfl _ _ _ rfl B 0 ds rfl rfl (by rw [HDL.out]; exact there_of HD9.out 32 (by decide)) (by rw [HDL.out]; kernel_rfl) HDO.out ?_))
 refine hK _ _ trivial ?_
 clear hK K
 refine plan_nil ?_
 go_wp2_with fail
 refine bodyPost_ret (res_dig rfl _ rfl (putL_heap (cs := pad32 []) HD9.out ds (by rw [HDL.out]; rfl)) HDL.out) rfl ?_
 refine ⟨by rw [← HDS.out, HYQ.out], ?_⟩
 rw [HBQ.out]
 exact putL_below (Nat.le_refl _) _ _ _ (HB1.out.trans (HBW9.out.mono (Nat.le_succ B)))
set_option maxRecDepth 100000 in
set_option maxHeartbeats 4000000 in
theorem r11Carrier_any (rb : Nat) (ao : Option Addr) (n cap c : Nat) (w : World) (hR : w.heap[rb]? = some (.cells #[.slice ao n cap] 141 (0, 0))) (hc : c < 256) :
  Calls Tryz.prog 33 #[.pointer (some ⟨rb, 0, none⟩), .int .u8 (c : Int)] w fun e w' => e = .returned (.bool (decide (c < n))) ∧ Below w.heap.size w w' := by
 have c0 : w.cell? ⟨rb, 0, none⟩ = some (.slice ao n cap) := cell_of_row w rb 0 _ _ _ hR
 have g1 : IntKind.i64.wrap (c : Int) = (c : Int) := IntWalk.i64_in _ (by omega)
 clear hR
 go_enter Tryz.func33, Tryz.ntmps33
 go_wp2_with fail
 go_ret
 exact ⟨rfl, Below.refl _ _⟩
set_option maxRecDepth 100000 in
set_option maxHeartbeats 8000000 in
theorem r11Right_any {S T : Nat → Prop} (K : List (List Str)) (kv : Value) (rb f t : Nat) (r : List Str) (key : Str) (tb : ByteArray) (dv : Value) (ds : Str) (w : World) (hR : w.heap[rb]? = some (.cells #[kv] 141 (0, 0))) (hK : BsssAt S w kv K) (hS : ∀ k, S k → k < w.heap.size)
  (hd : RowAt T w dv (ds.map bv)) (hT : ∀ k, T k → k < w.heap.size) (hr : K[f]? = some r) (hk : r[t]? = some key) (hf : f < 256) (ht : t < 256) (hkl : key.length ≤ 1000) (htl : tb.size ≤ 1000000000) :
  Calls Tryz.prog 38 #[.pointer (some ⟨rb, 0, none⟩), .int .u8 (f : Int), .int .u8 (t : Int), .string tb, dv] w fun e w' => e = .returned (.bool (decide (macM key tb.data.toList = ds))) ∧ Below w.heap.size w w' := by
 obtain ⟨B, hB⟩ : ∃ B, w.heap.size = B := ⟨_, rfl⟩
 have HBQ := Lib.hid hB
 obtain ⟨ka, kc, rfl, k1, k2⟩ := hK.form
 obtain ⟨b1, o1, x1, rfl, hb1, c1, hB1⟩ := hK.get hr
 obtain ⟨xa, xc, rfl, k3, k4⟩ := hB1.form
 obtain ⟨b2, o2, x2, rfl, hb2, c2, hB2⟩ := hB1.get hk
 have hfn : f < K.length := (List.getElem?_eq_some_iff.1 hr).1
 have htn : t < r.length := (List.getElem?_eq_some_iff.1 hk).1
 obtain ⟨n, hn⟩ : ∃ n, K.length = n := ⟨_, rfl⟩
 obtain ⟨m, hm⟩ : ∃ m, r.length = m := ⟨_, rfl⟩
 rw [hn] at hR k1 hfn
 rw [hm] at c1 k3 htn
 have c0 := cell_of_row w rb 0 _ _ _ hR
 have i1 : (f : Int) < (n : Int) := by omega
 have i2 : (t : Int) < (m : Int) := by omega
 have i3 : (0 : Int) ≤ (f : Int) := by omega
 have i4 : (0 : Int) ≤ (t : Int) := by omega
 obtain ⟨cap4, w4, hcv4, hrm4, hb4, hz4⟩ := conv_str tb w (by omega)
 have HB4 : Hid (Below B w w4) := Lib.hid (by rw [← hB]; exact hb4)
 have HOF := Lib.hid (r2Of_any key tb.data.toList x2 (.slice (some ⟨w.heap.size, 0, none⟩) tb.size cap4) w4 (hB2.cong (fun _ h => h) (fun k h => hb4.block k (hS k h))) (fun k h => by have := hS k h; omega) hrm4.row (fun k h => by omega) (by omega) (by rw [show tb.data.toList.length = tb.size from by simp]; omega))
 have HRD := Lib.hid hd
 have HTT := Lib.hid hT
 rw [hB] at HOF hcv4 hz4
 have HZ4 := Lib.hid hz4
 obtain ⟨cs, hcs⟩ : ∃ cs, (macM key tb.data.toList).map bv = cs := ⟨_, rfl⟩
 have hcl : cs.length = 32 := by rw [← hcs, List.length_map, macM_len]
 have hc1 : cs.all (·.oneCell') = true := by rw [← hcs]; exact bytes_one _
 have HCS := Lib.hid hcs
 have HCL := Lib.hid hcl
 have HCO := Lib.hid hc1
 clear hcs hcl hc1 hB hR hK hS hd hT hr hk hb1 hb2 hB1 hB2 hfn htn hn hm hb4 hrm4 hz4 k1 k2 k3 k4
 obtain ⟨q, hq⟩ : ∃ q, decide (macM key tb.data.toList = ds) = q := ⟨_, rfl⟩
 have HQ := Lib.hid hq
 rw [hq]
 clear hq
 go_enter Tryz.func38, Tryz.ntmps38
 go_wp2_with fail
 refine HOF.out.mono ?_
 unfold DigQ
 rw [HCS.out, HZ4.out]
 rintro e w5 ⟨rfl, hb5⟩
 obtain ⟨D, hD⟩ : ∃ D, w5.heap.size = D := ⟨_, rfl⟩
 have HB5 : Hid (Below B w w5) := Lib.hid (HB4.out.trans (hb5.mono (by omega)))
 have HBD : Hid (B + 1 ≤ D) := Lib.hid (by have := hb5.size; rw [HZ4.out, hD] at this; exact this)
 obtain ⟨w6, hw6⟩ : ∃ u, w5.alloc (.cells (pad32 []).toArray 78) = u := ⟨_, rfl⟩
 have HD6 : Hid (w6.heap[D]? = some (.cells (pad32 []).toArray 78 (0, 0))) := Lib.hid (by rw [← hw6, ← hD]; exact heap_alloc_new _ _)
 have HU6 : Hid (Below B w w6) := Lib.hid (by rw [← hw6]; exact HB5.out.alloc (by rw [hD]; have := HBD.out; omega) _)
 have HW6 := Lib.hid hw6
 have HDQ := Lib.hid hD
 clear hb5 hD hw6 HOF hcv4 c0 c1 c2
 go_upto_region 2 with (first
   | ((with_reducible refine wpList_at (.alloc 78) rfl ?_); go_loud (refine wpList_alloc_cells rfl _ rfl _ zero32 ?_); rw [HW6.out, HDQ.out])
   | ((with_reducible refine wpList_at (.store 78 (.tmp 11) (.tmp 24)) rfl ?_); go_loud (refine wpList_store_agg rfl _ _ _ rfl D 0 cs rfl rfl (by rw [HCL.out]; exact there_of HD6.out 32 (by decide)) (by rw [HCL.out]; kernel_rfl) HCO.out ?_)))
 obtain ⟨w7, hw7⟩ : ∃ u, w6.setCells D 0 cs = u := ⟨_, rfl⟩
 have HD7 : Hid (w7.heap[D]? = some (.cells cs.toArray 78 (0, 0))) := Lib.hid (by rw [← hw7]; exact putL_heap (cs := pad32 []) HD6.out cs (by rw [HCL.out]; rfl))
 have HU7 : Hid (Below B w w7) := Lib.hid (by rw [← hw7]; exact putL_below (by have := HBD.out; omega) _ _ _ HU6.out)
 rw [hw7]
 clear hw7
 have HC1 : Hid (∀ u : World, u.heap = w7.heap → (convert 72 9 (.slice (some ⟨D, 0, none⟩) 32 32)).run Tryz.prog u = .ok (.string ⟨(macM key tb.data.toList).toArray⟩) u) := Lib.hid (fun u hu => by
  have h := row_lit (S := fun k => k = D) (w := u) (by rw [hu]; exact HD7.out) rfl (by rw [HCL.out]; omega)
  rw [HCL.out, ← HCS.out] at h
  exact conv_row h)
 have HC2 : Hid (∀ u : World, u.heap = w7.heap → (convert 72 9 dv).run Tryz.prog u = .ok (.string ⟨ds.toArray⟩) u) := Lib.hid (fun u hu => conv_row (HRD.out.cong (fun _ h => h) (fun k h => by rw [hu]; exact HU7.out.block k (by have := HTT.out k h; rw [HBQ.out] at this; exact this))))
 obtain ⟨za, hza⟩ : ∃ z : ByteArray, (⟨(macM key tb.data.toList).toArray⟩ : ByteArray) = z := ⟨_, rfl⟩
 obtain ⟨zb, hzb⟩ : ∃ z : ByteArray, (⟨ds.toArray⟩ : ByteArray) = z := ⟨_, rfl⟩
 have heq : (za.toList == zb.toList) = decide (macM key tb.data.toList = ds) := by
  rw [← hza, ← hzb, ByteArray.toList_eq, ByteArray.toList_eq]
  show (macM key tb.data.toList == ds) = _
  rw [Bool.eq_iff_iff]; simp
 rw [hza] at HC1
 rw [hzb] at HC2
 rw [HQ.out] at heq
 clear hza hzb
 refine wp_region_plan [(0, false), (1, false), (2, false), (3, false), (4, false), (5, false)] (fun u => u.heap = w7.heap) (by kernel_rfl) (by kernel_rfl) rfl ?_
 iterate 6 (refine' plan_val rfl rfl (fun w' hS => ?_) ?_; rotate_left; (focus (have a1 := HC1.out w' hS; have a2 := HC2.out w' hS; first | (go_simp; rfl) | (go_simp; done))); simp only [Act.put, List.setIfInBounds_toArray, List.set_cons_zero, List.set_cons_succ])
 refine plan_nil ?_
 go_wp2_with fail
 go_ret
 exact ⟨rfl, by rw [HBQ.out]; exact HU7.out.drew⟩
theorem someR_up {M : List (List Str)} {t : Nat} {x d : Str} {k m : Nat} (h : someR M t x d k = true) (hk : k ≤ m) : someR M t x d m = true := by
 unfold someR at *
 rw [List.any_eq_true] at *
 obtain ⟨i, hi, h2⟩ := h
 exact ⟨i, List.mem_range.2 (by have := List.mem_range.1 hi; omega), h2⟩
theorem keyAt_get {K : List (List Str)} {i t : Nat} {r : List Str} (hr : K[i]? = some r) (ht : t < r.length) : r[t]? = some (keyAt K i t) := by
 unfold keyAt
 rw [List.getD_eq_getElem?_getD, List.getD_eq_getElem?_getD, hr]
 simp only [Option.getD_some]
 rw [List.getElem?_eq_getElem ht]; rfl
set_option maxRecDepth 100000 in
set_option maxHeartbeats 8000000 in
theorem r11Any_any {S T : Nat → Prop} (K : List (List Str)) (kv : Value) (rb t : Nat) (tb : ByteArray) (dv : Value) (ds : Str) (w : World) (hR : w.heap[rb]? = some (.cells #[kv] 141 (0, 0))) (hK : BsssAt S w kv K) (hS : ∀ k, S k → k < w.heap.size)
  (hd : RowAt T w dv (ds.map bv)) (hT : ∀ k, T k → k < w.heap.size) (hrow : ∀ r ∈ K, r.length = K.length) (h8 : K.length ≤ 8) (hkl : ∀ i < K.length, i ≠ t → (keyAt K i t).length ≤ 1000) (ht : t < K.length) (htl : tb.size ≤ 1000000000) :
  Calls Tryz.prog 37 #[.pointer (some ⟨rb, 0, none⟩), .int .u8 (t : Int), .string tb, dv] w fun e w' => e = .returned (.bool (someR K t tb.data.toList ds K.length)) ∧ Below w.heap.size w w' := by
 obtain ⟨B, hB⟩ : ∃ B, w.heap.size = B := ⟨_, rfl⟩
 have HBQ := Lib.hid hB
 obtain ⟨ka, kc, rfl, k1, k2⟩ := hK.form
 obtain ⟨n, hn⟩ : ∃ n, K.length = n := ⟨_, rfl⟩
 have HN := Lib.hid hn
 rw [hn] at h8 hkl ht hR hK
 have HRB : Hid (rb < B) := Lib.hid (by rw [← hB]; exact (Array.getElem?_eq_some_iff.1 hR).1)
 obtain ⟨q, hq⟩ : ∃ q, someR K t tb.data.toList ds K.length = q := ⟨_, rfl⟩
 have HQ := Lib.hid hq
 rw [hq]
 have HR := Lib.hid hR
 have HK := Lib.hid hK
 have HS := Lib.hid hS
 have HD := Lib.hid hd
 have HT := Lib.hid hT
 have HRO := Lib.hid hrow
 have HKL := Lib.hid hkl
 clear hB hR hK hS hd hT hn hrow hkl hq
 go_enter Tryz.func37, Tryz.ntmps37
 go_upto_region 1 with fail
 go_wp2_with fail
 go_loopw [9] (fun iv wr => ∃ i : Nat, i ≤ n ∧ iv = .int .i64 (i : Int) ∧ Hid (someR K t tb.data.toList ds i = false) ∧ Hid (Below B w wr)) (fun iv _ => n - (intOf iv).toNat)
 case atStart => exact ⟨0, Nat.zero_le _, rfl, Lib.hid rfl, Lib.hid (Below.refl _ _)⟩
 case round =>
  obtain ⟨i, hi, rfl, HNO, HBR⟩ := hrel
  have c0 : wr.cell? ⟨rb, 0, none⟩ = some (.slice ka n kc) := cell_of_row wr rb 0 _ _ _ ((HBR.out.block rb HRB.out).trans (by have := HR.out; exact this))
  by_cases hlt : i < n
  · have b1 : (i : Int) < (n : Int) := by omega
    have b0 : (0 : Int) ≤ (i : Int) := by omega
    have g1 : IntKind.i64.wrap (t : Int) = (t : Int) := IntWalk.i64_in _ (by omega)
    have g2 : IntKind.u8.wrap (i : Int) = (i : Int) := IntWalk.u8_in _ (by omega)
    by_cases hit : i = t
    · have j0 : ((i : Int) != (t : Int)) = false := by rw [bne_eq_false_iff_eq]; omega
      have HN1 : Hid (someR K t tb.data.toList ds (i + 1) = false) := Lib.hid (by
       rw [someR_more, HNO.out, Bool.or_false]; unfold rightM; rw [decide_eq_false (fun h => h.2.2 hit)]; rfl)
      clear hit
      go_wp2_with fail
      go_roundw
      case rel => exact ⟨i + 1, by omega, by go_num, HN1, HBR⟩
      case measure => simp [intOf]; omega
    · have j0 : ((i : Int) != (t : Int)) = true := by rw [bne_iff_ne]; omega
      obtain ⟨r, hr⟩ : ∃ r, K[i]? = some r := ⟨_, List.getElem?_eq_getElem (by rw [HN.out]; exact hlt)⟩
      have hrl := HRO.out r (List.mem_of_getElem? hr)
      rw [HN.out] at hrl
      have hky := keyAt_get (t := t) hr (by rw [hrl]; exact ht)
      have HRI := Lib.hid (r11Right_any K (.slice ka n kc) rb i t r (keyAt K i t) tb dv ds wr ((HBR.out.block rb HRB.out).trans (by have := HR.out; exact this)) (HK.out.cong (fun _ h => h) (fun k h => HBR.out.block k (by have := HS.out k h; rw [HBQ.out] at this; exact this))) (fun k h => by have h1 := HS.out k h; have h2 := HBR.out.size; omega)
        (HD.out.cong (fun _ h => h) (fun k h => HBR.out.block k (by have := HT.out k h; rw [HBQ.out] at this; exact this))) (fun k h => by have h1 := HT.out k h; have h2 := HBR.out.size; omega) hr hky (by omega) (by omega) (HKL.out i hlt hit) htl)
      have HM1 : Hid (someR K t tb.data.toList ds (i + 1) = decide (macM (keyAt K i t) tb.data.toList = ds)) := Lib.hid (by
       rw [someR_more, HNO.out, Bool.or_false]; unfold rightM; rw [decide_eq_true ⟨by rw [HN.out]; exact hlt, by rw [HN.out]; exact ht, hit⟩]; rfl)
      have HZR : Hid (B ≤ wr.heap.size) := Lib.hid (by have := HBR.out.size; rw [HBQ.out] at this; exact this)
      clear hr hrl hky hit
      cases hdq : decide (macM (keyAt K i t) tb.data.toList = ds) with
      | true =>
        rw [hdq] at HRI HM1
        have hqt : q = true := by rw [← HQ.out]; exact someR_up HM1.out (by rw [HN.out]; omega)
        subst hqt
        clear hdq
        go_wp2_with (go_at_call 38; refine HRI.out.mono ?_; rintro e w5 ⟨rfl, hb⟩; have HB5 : Hid (Below B w w5) := Lib.hid (HBR.out.trans (hb.mono HZR.out)); clear hb)
        go_ret
        exact ⟨rfl, by rw [HBQ.out]; exact HB5.out⟩
      | false =>
        rw [hdq] at HRI HM1
        clear hdq
        go_wp2_with (go_at_call 38; refine HRI.out.mono ?_; rintro e w5 ⟨rfl, hb⟩; have HB5 : Hid (Below B w w5) := Lib.hid (HBR.out.trans (hb.mono HZR.out)); clear hb)
        go_roundw
        case rel => exact ⟨i + 1, by omega, by go_num, HM1, HB5⟩
        case measure => simp [intOf]; omega
  · obtain rfl : i = n := by omega
    have b1 : ¬ (i : Int) < (i : Int) := by omega
    have hqf : q = false := by rw [← HQ.out, HN.out]; exact HNO.out
    subst hqf
    go_wp2_with fail
    go_ret
    exact ⟨rfl, by rw [HBQ.out]; exact HBR.out⟩
def RNewQ (K : List (List Str)) (kv : Value) (w : World) (e : Ending) (w' : World) : Prop :=
 ((goodB K = true ∧ ∃ rb, e = .returned (.pointer (some ⟨rb, 0, none⟩)) ∧ w'.heap[rb]? = some (.cells #[kv] 141 (0, 0)) ∧ w.heap.size ≤ rb) ∨ (goodB K = false ∧ e = .returned (.pointer none))) ∧ Below w.heap.size w w'
theorem good_n {K : List (List Str)} (h : K.length < 2 ∨ 8 < K.length) : goodB K = false := by
 unfold goodB
 rcases h with h | h
 · rw [decide_eq_false (by omega)]; rfl
 · rw [decide_eq_false (show ¬ K.length ≤ 8 by omega), Bool.and_false]; rfl
theorem good_row {K : List (List Str)} {r : List Str} (hr : r ∈ K) (h : r.length ≠ K.length) : goodB K = false := by
 unfold goodB
 have : K.all (fun r => decide (r.length = K.length)) = false := by
  rw [List.all_eq_false]
  exact ⟨r, hr, by simpa using h⟩
 rw [this, Bool.and_false, Bool.false_and]
def AllO (w : World) (B : Nat) (v : Value) (l : List Str) : Prop := w.ownsRow B 9 1 v l.length (l.map sv)
theorem AllO.form {w : World} {B : Nat} {v : Value} {l : List Str} (h : AllO w B v l) : ∃ a c, v = .slice a l.length c := by
 obtain ⟨_, ⟨rfl, h2⟩ | ⟨g, cap, cur, rfl, _⟩⟩ := h
 · exact ⟨none, 0, by rw [h2]⟩
 · exact ⟨_, _, rfl⟩
theorem wp_app_s1 {ops : Array Oper} {rest : List Oper} {o : Oper} {a : Act} {Q : Exit → Act → World → Prop} (hgd : o.guard = none) (s x : Operand)
  (ho : o.op = .call { callee := .builtin .append, args := #[s, x], argTypes := #[58, 58] }) {w : World} {B : Nat} {v : Value} {y : Str} {l : List Str} (hs : a.eval s = v) (hx : a.eval x = .slice (some ⟨w.heap.size, 0, none⟩) 1 1) (hown : AllO w B v l) (hn : l.length + 1 ≤ 1000000) (hB : B ≤ w.heap.size)
  (h : ∀ v' w', AllO w' B v' (l ++ [y]) → w.grownBy w' v.ownBlock → wpList Tryz.prog ops Q rest (a.put o.dst v') w') : wpList Tryz.prog ops Q (o :: rest) a (w.alloc (.cells #[sv y] 9)) := by
 obtain ⟨i0, hi, hz0, hz1, hz2⟩ := info_parts einfo_str
 refine wpList_append_own_at _ hgd s x 58 ho B 9 i0 (.string ⟨#[]⟩) 1 16 Tryz.underlying58 hi hz0 hz1 hz2 rfl (by decide) v l.length (l.map sv) hs (World.ownsRow.alloc hown _) ⟨w.heap.size, 0, none⟩ 1 1 [sv y] hx rfl (cell_one_new _ _ _) (by simp [Value.oneCell', sv]) (by unfold maxLen; omega) (by omega) (by simp; omega) ?_
 intro v' w' h1 h2 _ _
 refine h v' w' ?_ (grown_alloc h2)
 unfold AllO
 rw [List.length_append, List.map_append]
 exact h1
theorem rowKs_len (row : List Str) (i m : Nat) : (rowKs row i m).length ≤ m := by
 unfold rowKs
 rw [List.length_map]
 exact Nat.le_trans (List.length_filter_le _ _) (by rw [List.length_range]; exact Nat.le_refl _)
theorem allKs_len (K : List (List Str)) : ∀ n, (allKs K n).length ≤ n * K.length
 | 0 => by simp [allKs]
 | n + 1 => by
   rw [allKs_more, List.length_append, Nat.succ_mul]
   have h1 := allKs_len K n
   have h2 := rowKs_len (K.getD n []) n K.length
   omega
theorem seen_len (K : List (List Str)) {i k : Nat} (h8 : K.length ≤ 8) (hi : i ≤ 8) (hk : k ≤ 8) : (seenKs K i k).length ≤ 1000 := by
 unfold seenKs
 rw [List.length_append]
 have h1 := allKs_len K i
 have h2 := rowKs_len (K.getD i []) i k
 have h3 : i * K.length ≤ 8 * 8 := Nat.mul_le_mul hi h8
 omega
theorem good_bad {K : List (List Str)} {i k : Nat} (hi : i < K.length) (hk : k < K.length) (hik : k ≠ i) (h : (decide (1 ≤ (keyAt K i k).length) && decide ((keyAt K i k).length ≤ 64) && decide (keyAt K i k ∉ seenKs K i k)) = false) : goodB K = false := by
 cases hg : goodB K with
 | false => rfl
 | true =>
   have h1 := good_seen hg hi (show k + 1 ≤ K.length by omega)
   rw [seen_more K hik, goodL_snoc, h, Bool.and_false] at h1
   cases h1
set_option maxRecDepth 100000 in
set_option maxHeartbeats 16000000 in
theorem r11New_any {S : Nat → Prop} (K : List (List Str)) (kv : Value) (w : World) (hK : BsssAt S w kv K) (hS : ∀ k, S k → k < w.heap.size) :
  Calls Tryz.prog 30 #[kv] w fun e w' => RNewQ K kv w e w' := by
 obtain ⟨B, hB⟩ : ∃ B, w.heap.size = B := ⟨_, rfl⟩
 have HBQ := Lib.hid hB
 obtain ⟨ka, kc, rfl, k1, k2⟩ := hK.form
 obtain ⟨n, hn⟩ : ∃ n, K.length = n := ⟨_, rfl⟩
 have HN := Lib.hid hn
 rw [hn] at k1 hK ⊢
 unfold maxLen at k2
 have HKS : Hid (∀ u, Below B w u → BsssAt (fun k => k < B) u (.slice ka n kc) K) := Lib.hid (fun u hu => hK.cong (fun k h => by rw [← hB]; exact hS k h) (fun k h => hu.block k (by rw [← hB]; exact hS k h)))
 clear hB hn hK hS
 by_cases hb : n < 2 ∨ 8 < n
 · have HG : Hid (goodB K = false) := Lib.hid (good_n (by rw [HN.out]; exact hb))
   by_cases h2 : n < 2
   · have i1 : decide ((n : Int) < 2) = true := decide_eq_true (by omega)
     clear hb
     go_enter Tryz.func30, Tryz.ntmps30
     go_wp2_with fail
     go_ret
     exact ⟨.inr ⟨HG.out, rfl⟩, Below.refl _ _⟩
   · have i1 : decide ((n : Int) < 2) = false := decide_eq_false (by omega)
     have i2 : decide ((8 : Int) < (n : Int)) = true := decide_eq_true (by omega)
     clear hb
     go_enter Tryz.func30, Tryz.ntmps30
     go_wp2_with fail
     go_ret
     exact ⟨.inr ⟨HG.out, rfl⟩, Below.refl _ _⟩
 · have i1 : decide ((n : Int) < 2) = false := decide_eq_false (by omega)
   have i2 : decide ((8 : Int) < (n : Int)) = false := decide_eq_false (by omega)
   have hn8 : 2 ≤ n ∧ n ≤ 8 := by omega
   clear hb
   go_enter Tryz.func30, Tryz.ntmps30
   go_upto_region 4 with fail
   clear i1 i2
   go_upto_block 0 with fail
   go_cut [] from 5 to 29 (fun wr => Hid (wr = w) ∧ Hid (∀ r ∈ K, r.length = n))
   case first => as_aux_lemma =>
    go_wp2_with fail
    go_loopw [5] (fun iv wr => ∃ i : Nat, i ≤ n ∧ iv = .int .i64 (i : Int) ∧ Hid (wr = w) ∧ Hid (∀ j r, j < i → K[j]? = some r → r.length = n)) (fun iv _ => n - (intOf iv).toNat)
    case atStart => exact ⟨0, Nat.zero_le _, rfl, Lib.hid rfl, Lib.hid (fun j r h => by omega)⟩
    case round =>
     obtain ⟨i, hi, rfl, hww, HRW⟩ := hrel
     rw [hww.out]
     clear hww
     by_cases hlt : i < n
     · have b0 : (0 : Int) ≤ (i : Int) := by omega
       have b1 : (i : Int) < (n : Int) := by omega
       obtain ⟨r, hr⟩ : ∃ r, K[i]? = some r := ⟨_, List.getElem?_eq_getElem (by rw [HN.out]; exact hlt)⟩
       obtain ⟨b1', o1, x1, hka, hb1, c1, hB1⟩ := (HKS.out w (Below.refl _ _)).get hr
       obtain rfl : ka = some ⟨b1', o1, none⟩ := hka
       obtain ⟨xa, xc, rfl, _, _⟩ := hB1.form
       obtain ⟨m, hm⟩ : ∃ m, r.length = m := ⟨_, rfl⟩
       rw [hm] at c1
       by_cases hmn : m = n
       · have j1 : ((m : Int) != (n : Int)) = false := by rw [bne_eq_false_iff_eq]; omega
         have HR2 : Hid (∀ j r, j < i + 1 → K[j]? = some r → r.length = n) := Lib.hid (fun j r' hj h => by
          by_cases e : j = i
          · subst e; rw [hr] at h; cases h; omega
          · exact HRW.out j r' (by omega) h)
         clear hr hB1 hm hmn
         go_wp2_with fail
         go_roundw
         case rel => exact ⟨i + 1, by omega, by go_num, (by first | exact Lib.hid rfl | exact Lib.hid trivial), HR2⟩
         case measure => simp [intOf]; omega
       · have j1 : ((m : Int) != (n : Int)) = true := by rw [bne_iff_ne]; omega
         have HG : Hid (goodB K = false) := Lib.hid (good_row (List.mem_of_getElem? hr) (by rw [hm, HN.out]; exact hmn))
         clear hr hB1 hm hmn
         go_wp2_with fail
         go_ret
         exact ⟨.inr ⟨HG.out, rfl⟩, Below.refl _ _⟩
     · obtain rfl : i = n := by omega
       have b1 : ¬ (i : Int) < (i : Int) := by omega
       have HR3 : Hid (∀ r ∈ K, r.length = i) := Lib.hid (fun r hr => by
        obtain ⟨j, hj⟩ := List.getElem?_of_mem hr
        exact HRW.out j r (by have h1 := (List.getElem?_eq_some_iff.1 hj).1; rw [HN.out] at h1; exact h1) hj)
       go_wp2_with fail
       go_meet
       case rel => exact ⟨(by first | exact Lib.hid rfl | exact Lib.hid trivial), HR3⟩
   case rest =>
    obtain ⟨hww, HRL⟩ := hcut
    rw [hww.out]
    clear hww
    go_wp2_with fail
    go_loopw [4, 6] (fun av iv wr => ∃ i : Nat, i ≤ n ∧ iv = .int .i64 (i : Int) ∧ Hid (AllO wr B av (seenKs K i 0)) ∧ Hid (goodL (seenKs K i 0) = true) ∧ Hid (Below B w wr)) (fun _ iv _ => n - (intOf iv).toNat)
    case atStart => exact ⟨0, Nat.zero_le _, rfl, Lib.hid (World.ownsRow_nil _ _ _ _), Lib.hid rfl, Lib.hid (Below.refl _ _)⟩
    case round =>
     obtain ⟨i, hi, rfl, HA, HGO, HBR⟩ := hrel
     obtain ⟨w2, hw2⟩ : ∃ u, u = wr := ⟨_, rfl⟩
     rw [← hw2] at HA HBR ⊢
     clear hw2 wr
     obtain ⟨aa, ac, rfl⟩ := HA.out.form
     obtain ⟨al, hal⟩ : ∃ m, (seenKs K i 0).length = m := ⟨_, rfl⟩
     rw [hal] at HA ⊢
     have HAL := Lib.hid hal
     clear hal
     by_cases hlt : i < n
     · have b0 : (0 : Int) ≤ (i : Int) := by omega
       have b1 : (i : Int) < (n : Int) := by omega
       go_wp2_with fail
       go_loopw [4, 7] (fun av kv wr => ∃ k : Nat, k ≤ n ∧ kv = .int .i64 (k : Int) ∧ Hid (AllO wr B av (seenKs K i k)) ∧ Hid (goodL (seenKs K i k) = true) ∧ Hid (Below B w wr)) (fun _ kv _ => n - (intOf kv).toNat)
       case atStart => exact ⟨0, Nat.zero_le _, rfl, HA, HGO, HBR⟩
       case round =>
        obtain ⟨k, hk, rfl, HA2, HGO2, HBR2⟩ := hrel
        obtain ⟨w3, hw3⟩ : ∃ u, u = wr := ⟨_, rfl⟩
        rw [← hw3] at HA2 HBR2 ⊢
        clear hw3 wr
        obtain ⟨ba, bc, rfl⟩ := HA2.out.form
        obtain ⟨bl, hbl⟩ : ∃ m, (seenKs K i k).length = m := ⟨_, rfl⟩
        rw [hbl] at HA2 ⊢
        have HBL := Lib.hid hbl
        clear hbl
        by_cases hkn : k < n
        · have b2 : (k : Int) < (n : Int) := by omega
          have b3 : (0 : Int) ≤ (k : Int) := by omega
          by_cases hik : k = i
          · subst hik
            have j0 : ((k : Int) == (k : Int)) = true := by simp
            go_wp2_with fail
            go_roundw
            case rel => exact ⟨k + 1, by omega, by go_num, Lib.hid (by rw [seen_skip]; exact HA2.out), Lib.hid (by rw [seen_skip]; exact HGO2.out), HBR2⟩
            case measure => simp [intOf]; omega
          · have j0 : ((i : Int) == (k : Int)) = false := by rw [beq_eq_false_iff_ne]; omega
            obtain ⟨r, hr⟩ : ∃ r, K[i]? = some r := ⟨_, List.getElem?_eq_getElem (by rw [HN.out]; exact hlt)⟩
            have hrl := HRL.out r (List.mem_of_getElem? hr)
            have hky := keyAt_get (t := k) hr (by rw [hrl]; exact hkn)
            have HBAD := Lib.hid (fun h => good_bad (K := K) (i := i) (k := k) (by rw [HN.out]; exact hlt) (by rw [HN.out]; exact hkn) hik h)
            have HMORE := Lib.hid (seen_more K (i := i) (k := k) hik)
            obtain ⟨b1', o1, x1, hka, hb1, c1, hB1⟩ := (HKS.out w3 HBR2.out).get hr
            obtain rfl : ka = some ⟨b1', o1, none⟩ := hka
            obtain ⟨xa, xc, rfl, _, _⟩ := hB1.form
            rw [hrl] at c1 hB1
            obtain ⟨b2', o2, x2, hxa, hb2, c2, hB2⟩ := hB1.get hky
            obtain rfl : xa = some ⟨b2', o2, none⟩ := hxa
            have hcv := conv_row hB2
            obtain ⟨s, hs⟩ : ∃ s, keyAt K i k = s := ⟨_, rfl⟩
            rw [hs] at hcv HBAD HMORE
            obtain ⟨sb, hsb⟩ : ∃ z : ByteArray, (⟨s.toArray⟩ : ByteArray) = z := ⟨_, rfl⟩
            obtain ⟨m, hm⟩ : ∃ m, s.length = m := ⟨_, rfl⟩
            have hsz : sb.size = m := by rw [← hsb, ← hm]; simp [ByteArray.size]
            rw [hsb] at hcv
            have HSB := Lib.hid hsb
            have HM := Lib.hid hm
            have HSZ := Lib.hid hsz
            have hsz2 : (sb.size : Int) = (m : Int) := by rw [hsz]
            clear hr hrl hky hB1 hB2 hs hsb hm hik hsz
            by_cases hbad : m < 1 ∨ 64 < m
            · have HG : Hid (goodB K = false) := Lib.hid (HBAD.out (by rw [HM.out]; rcases hbad with h | h; rw [decide_eq_false (by omega)]; rfl; rw [decide_eq_false (show ¬ m ≤ 64 by omega), Bool.and_false]; rfl))
              have HBW : Hid (Below B w w3) := HBR2
              by_cases h1 : m < 1
              · have q1 : decide ((m : Int) < 1) = true := decide_eq_true (by omega)
                clear hbad
                go_wp2_with fail
                go_ret
                exact ⟨.inr ⟨HG.out, rfl⟩, by rw [HBQ.out]; exact HBW.out⟩
              · have q1 : decide ((m : Int) < 1) = false := decide_eq_false (by omega)
                have q2 : decide ((64 : Int) < (m : Int)) = true := decide_eq_true (by omega)
                clear hbad
                go_wp2_with fail
                go_ret
                exact ⟨.inr ⟨HG.out, rfl⟩, by rw [HBQ.out]; exact HBW.out⟩
            · have q1 : decide ((m : Int) < 1) = false := decide_eq_false (by omega)
              have q2 : decide ((64 : Int) < (m : Int)) = false := decide_eq_false (by omega)
              clear hbad
              have hm64 : 1 ≤ m ∧ m ≤ 64 := by
               have h1 := of_decide_eq_false q1
               have h2 := of_decide_eq_false q2
               omega
              go_upto_block 6 with fail
              clear q1 q2 hcv hsz2 c1 c2
              go_wp2_with fail
              go_loopw [9] (fun jv wr => ∃ j : Nat, j ≤ bl ∧ jv = .int .i64 (j : Int) ∧ Hid (wr = w3) ∧ Hid (∀ j' x, j' < j → (seenKs K i k)[j']? = some x → x ≠ s)) (fun jv _ => bl - (intOf jv).toNat)
              case atStart => exact ⟨0, Nat.zero_le _, rfl, Lib.hid rfl, Lib.hid (fun j' x h => by omega)⟩
              case round =>
               obtain ⟨j, hj, rfl, hww, HNE⟩ := hrel
               rw [hww.out]
               clear hww
               by_cases hjl : j < bl
               · have d0 : (0 : Int) ≤ (j : Int) := by omega
                 have d1 : (j : Int) < (bl : Int) := by omega
                 obtain ⟨x, hx⟩ : ∃ x, (seenKs K i k)[j]? = some x := ⟨_, List.getElem?_eq_getElem (by rw [HBL.out]; exact hjl)⟩
                 have hA := HA2.out
                 unfold AllO at hA
                 rw [HBL.out] at hA
                 obtain ⟨g, cap, cur, hsl, _, _, hcap1, hcap2, _, _⟩ := own_form hA (by omega) (by decide)
                 unfold maxLen at hcap2
                 have gj : IntKind.i64.wrap ((j : Int) + 1) = (j : Int) + 1 := IntWalk.i64_in _ (by omega)
                 clear hcap1 hcap2
                 obtain ⟨rfl, rfl⟩ : ba = some ⟨g, 0, none⟩ ∧ bc = cap := by injection hsl with h1 h2 h3; exact ⟨h1, h3⟩
                 have hc := own_cell hA (j := j) (x := sv x) (by rw [List.getElem?_map, hx]; rfl)
                 obtain ⟨xb, hxb⟩ : ∃ z : ByteArray, (⟨x.toArray⟩ : ByteArray) = z := ⟨_, rfl⟩
                 rw [show sv x = .string xb from by unfold sv; rw [hxb]] at hc
                 have heq : (xb.toList == sb.toList) = decide (x = s) := by
                  rw [← hxb, ← HSB.out, ByteArray.toList_eq, ByteArray.toList_eq]
                  show (x == s) = _
                  rw [Bool.eq_iff_iff]; simp
                 by_cases hxs : x = s
                 · rw [decide_eq_true hxs] at heq
                   have HG : Hid (goodB K = false) := Lib.hid (HBAD.out (by rw [decide_eq_false (show ¬ s ∉ seenKs K i k from fun h => h (by rw [← hxs]; exact List.mem_of_getElem? hx)), Bool.and_false]))
                   clear hA hsl hx hxb
                   go_wp2_with fail
                   go_ret
                   exact ⟨.inr ⟨HG.out, rfl⟩, by rw [HBQ.out]; exact HBR2.out⟩
                 · rw [decide_eq_false hxs] at heq
                   have HNE2 : Hid (∀ j' y, j' < j + 1 → (seenKs K i k)[j']? = some y → y ≠ s) := Lib.hid (fun j' y h hy => by
                    by_cases e : j' = j
                    · subst e; rw [hx] at hy; cases hy; exact hxs
                    · exact HNE.out j' y (by omega) hy)
                   clear hA hsl hx hxb
                   go_wp2_with fail
                   go_roundw
                   case rel => exact ⟨j + 1, by omega, by go_num, (by first | exact Lib.hid rfl | exact Lib.hid trivial), HNE2⟩
                   case measure => simp [intOf]; omega
               · obtain rfl : j = bl := by omega
                 have d1 : ¬ (j : Int) < (j : Int) := by omega
                 have HNI : Hid (s ∉ seenKs K i k) := Lib.hid (fun h => by
                  obtain ⟨j', hj'⟩ := List.getElem?_of_mem h
                  exact HNE.out j' s (by have h1 := (List.getElem?_eq_some_iff.1 hj').1; rw [HBL.out] at h1; exact h1) hj' rfl)
                 have HG3 : Hid (goodL (seenKs K i (k + 1)) = true) := Lib.hid (by
                  rw [HMORE.out, goodL_snoc, HGO2.out, decide_eq_true HNI.out, HM.out, decide_eq_true hm64.1, decide_eq_true hm64.2]; rfl)
                 have hsl := seen_len K (i := i) (k := k) (by rw [HN.out]; omega) (by omega) (by omega)
                 have hz3 : B ≤ w3.heap.size := by have := HBR2.out.size; rw [HBQ.out] at this; exact this
                 have hsb2 := HSB.out
                 subst hsb2
                 go_wp2_with ((with_reducible refine wpList_at (.call { callee := .builtin .append, args := #[.tmp 71, .tmp 73], argTypes := #[58, 58] }) rfl ?_); go_loud (refine wp_app_s1 (w := w3) (y := s) (l := seenKs K i k) rfl _ _ rfl rfl rfl HA2.out (by omega) hz3 ?_); intro v6 w6 hO6 hg6; have HO6 := Lib.hid hO6; have HB6 : Hid (Below B w w6) := Lib.hid (HBR2.out.grown hg6 hz3 (fun b hb => (own_lt HA2.out hb).1)); clear hO6 hg6)
                 go_roundw
                 case rel => exact ⟨k + 1, by omega, by go_num, Lib.hid (by rw [HMORE.out]; exact HO6.out), HG3, HB6⟩
                 case measure => simp [intOf]; omega
        · obtain rfl : k = n := by omega
          have b2 : ¬ (k : Int) < (k : Int) := by omega
          have hsr := seen_row K i
          rw [HN.out] at hsr
          go_wp2_with fail
          go_roundw
          case rel => exact ⟨i + 1, by omega, by go_num, Lib.hid (by rw [hsr]; exact HA2.out), Lib.hid (by rw [hsr]; exact HGO2.out), HBR2⟩
          case measure => simp [intOf]; omega
     · obtain rfl : i = n := by omega
       have b1 : ¬ (i : Int) < (i : Int) := by omega
       have HGD : Hid (goodB K = true) := Lib.hid (good_all (by rw [HN.out]; omega) (by rw [HN.out]; omega) (fun j hj => by
        have h1 := List.getElem?_eq_getElem hj
        rw [List.getD_eq_getElem?_getD, h1, HN.out]
        exact HRL.out _ (List.getElem_mem hj)) (by rw [HN.out]; exact HGO.out))
       go_wp2_with fail
       go_ret
       refine ⟨.inl ⟨HGD.out, w2.heap.size, rfl, heap_alloc_new _ _, ?_⟩, ?_⟩
       · have := HBR.out.size; exact this
       · rw [HBQ.out]; exact HBR.out.alloc (by have := HBR.out.size; rw [HBQ.out] at this; exact this) _
theorem dig_put {B D : Nat} {w u u' : World} {cs : List Value} (hcl : cs.length = 32) (hd : u.heap[D]? = some (.cells (pad32 []).toArray 78 (0, 0))) (hb : Below B w u) (hBD : B ≤ D) (h : u.setCells D 0 cs = u') : u'.heap[D]? = some (.cells cs.toArray 78 (0, 0)) ∧ Below B w u' :=
 ⟨by rw [← h]; exact putL_heap (cs := pad32 []) hd cs (by rw [hcl]; rfl), by rw [← h]; exact putL_below hBD _ _ _ hb⟩
theorem RowAt.dropAt {S : Nat → Prop} {w : World} {b off n cap m : Nat} {xs : List Value} (h : RowAt S w (.slice (some ⟨b, off, none⟩) n cap) xs) (hm : m ≤ n) : RowAt S w (.slice (some ⟨b, off + m, none⟩) (n - m) (cap - m)) (xs.drop m) := by
 obtain ⟨ao, cap', e, h1, h2, h3, h4⟩ := h
 injection e with e1 e2 e3
 subst e1 e2 e3
 refine ⟨some ⟨b, off + m, none⟩, cap - m, by rw [List.length_drop], by rw [List.length_drop]; omega, by omega, (fun h => by cases h), fun hne => ?_⟩
 obtain ⟨b', off', e, hs, hc⟩ := h4 (fun h => hne (by rw [h, List.drop_nil]))
 injection e with e
 injection e with e1 e2
 subst e1 e2
 exact ⟨b, off + m, rfl, hs, fun i x hx => by
  rw [List.getElem?_drop] at hx
  have := hc _ _ hx
  rwa [Nat.add_assoc]⟩
end Go.Proofs.YtgfijlamhjjecaaGreatDoor
