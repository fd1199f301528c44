/-
  Texts ShaQ, ShaR, ShaS, ShaT, ShaU, one behind the other. No condition beyond those stated in each.
-/
import Derived.Test.YtgfijlamhjjecaaGreatDoorMv12
import Derived.Test.YtgfijlamhjjecaaGreatDoorMv16
namespace Go.Proofs.YtgfijlamhjjecaaGreatDoor
open Go.RowKit
def FillQ (l : Str) (w : World) (e : Ending) (w' : World) : Prop := ∃ v', e = .returned v' ∧ OwnS w' w.heap.size v' l ∧ Below w.heap.size w w'
theorem padZ_rem (n j : Nat) (h : j < padZ n) : (n + 1 + j) % 64 ≠ 56 := by unfold padZ at h; omega
theorem padZ_end (n : Nat) : (n + 1 + padZ n) % 64 = 56 := by unfold padZ; omega
set_option maxRecDepth 100000 in
set_option maxHeartbeats 16000000 in
theorem r1filled_any {T : Nat → Prop} (bs : Str) (src : Value) (w : World) (h : RowAt T w src (bs.map bv)) (_hT : ∀ k, T k → k < w.heap.size) (hl : bs.length ≤ 17592186044416) :
  Calls Tryz.prog 108 #[src] w fun e w' => FillQ (filled bs) w e w' := by
 obtain ⟨B, hB⟩ : ∃ B, w.heap.size = B := ⟨_, rfl⟩
 have HBQ := Lib.hid hB
 obtain ⟨so, sc, rfl, s1, s2⟩ := h.form
 rw [List.length_map] at s1 h ⊢
 unfold maxLen at s2
 obtain ⟨n, hn⟩ : ∃ n, bs.length = n := ⟨_, rfl⟩
 rw [hn] at s1 h hl ⊢
 have HN := Lib.hid hn
 have HS := Lib.hid h
 clear hB h _hT hn
 go_enter Tryz.func108, Tryz.ntmps108
 go_upto_block 0 with (first
   | ((with_reducible refine wpList_at (.call { callee := .builtin .append, args := #[.const (.slice none 0 0), .tmp 6], argTypes := #[72, 72] }) rfl ?_); refine wp_app_bytes (v := .slice none 0 0) (src := .slice so n sc) rfl _ _ rfl rfl rfl (OwnS.nil w B) HS.out (by rw [HN.out]; simp; omega) (by rw [HBQ.out]; exact Nat.le_refl _) ?_; intro v1 w1 hO hgr _; rw [List.nil_append] at hO; have HO1 := Lib.hid hO; obtain ⟨a1, c1, rfl⟩ := hO.form; rw [HN.out] at HO1 ⊢; have HB1 : Hid (Below B w w1) := Lib.hid ((Below.refl _ _).grown hgr (by rw [HBQ.out]; exact Nat.le_refl _) (fun b hb => by cases hb)); have HZ1 : Hid (B ≤ w1.heap.size) := Lib.hid (by have := hgr.size; have := HBQ.out; omega); clear hO hgr)
   | ((with_reducible refine wpList_at (.call { callee := .builtin .append, args := #[.tmp 7, .tmp 8], argTypes := #[72, 72] }) rfl ?_); go_loud (refine wp_app1 (v := .slice a1 n c1) (l := bs) rfl _ _ rfl 128 rfl rfl HO1.out (by rw [HN.out]; omega) HZ1.out ?_); intro v2 w2 hO hgr; have HO2 := Lib.hid hO; have HB2 : Hid (Below B w w2) := Lib.hid (HB1.out.grown hgr HZ1.out (fun b hb => (own_lt HO1.out hb).1)); have HZ2 : Hid (B ≤ w2.heap.size) := Lib.hid (Nat.le_trans HZ1.out hgr.size); clear hO hgr))
 go_wp2_with fail
 go_loopw [3] (fun v wr => ∃ j : Nat, j ≤ padZ n ∧ Hid (OwnS wr B v (bs ++ [128] ++ List.replicate j 0)) ∧ Hid (Below B w wr)) (fun v _ => padZ n + n + 1 - (match v with | .slice _ l _ => l | _ => 0))
 case atStart => exact ⟨0, Nat.zero_le _, Lib.hid (by rw [List.replicate_zero, List.append_nil]; exact HO2.out), HB2⟩
 case round =>
  obtain ⟨j, hj, HOJ, HBJ⟩ := hrel
  obtain ⟨va, vc, rfl⟩ := HOJ.out.form
  have hlen : (bs ++ [128] ++ List.replicate j 0).length = n + 1 + j := by rw [List.length_append, List.length_append, HN.out, List.length_replicate]; rfl
  rw [hlen]
  have HLEN := Lib.hid hlen
  have hp : padZ n < 64 := by unfold padZ; omega
  clear hlen
  obtain ⟨nj, hnj⟩ : ∃ m, n + 1 + j = m := ⟨_, rfl⟩
  rw [hnj]
  have HNJ := Lib.hid hnj
  have HOJ2 : Hid (OwnS wr B (.slice va nj vc) (bs ++ [128] ++ List.replicate j 0)) := Lib.hid (by rw [← hnj, ← HLEN.out]; exact HOJ.out)
  obtain ⟨LJ, hLJ⟩ : ∃ L, bs ++ [128] ++ List.replicate j 0 = L := ⟨_, rfl⟩
  rw [hLJ] at HOJ2 HLEN
  have HLJ := Lib.hid hLJ
  clear hLJ HOJ
  by_cases hjl : j < padZ n
  · have g1 : ((nj : Int) % 64 != 56) = true := by
     have := padZ_rem n j hjl
     rw [bne_iff_ne]; omega
    clear hnj
    go_wp2_with ((with_reducible refine wpList_at (.call { callee := .builtin .append, args := #[.tmp 14, .tmp 15], argTypes := #[72, 72] }) rfl ?_); go_loud (refine wp_app1 (w := wr) (v := .slice va nj vc) (l := LJ) rfl _ _ rfl 0 rfl rfl HOJ2.out (by rw [HLEN.out]; omega) (below_le' HBQ HBJ.out) ?_); go_loud (intro v3 w3 hO hgr; have HO3 := Lib.hid hO; have HB3 : Hid (Below B w w3) := Lib.hid (HBJ.out.grown hgr (below_le' HBQ HBJ.out) (fun b hb => (own_lt HOJ2.out hb).1)); clear hO hgr))
    go_roundw
    case rel => exact ⟨j + 1, by omega, Lib.hid (by rw [List.replicate_succ', ← List.append_assoc, HLJ.out]; exact HO3.out), HB3⟩
    case measure =>
     obtain ⟨_, _, rfl⟩ := HO3.out.form
     rw [List.length_append, HLEN.out, List.length_singleton]
     simp only
     have := HNJ.out
     omega
  · obtain rfl : j = padZ n := by omega
    have g1 : ((nj : Int) % 64 != 56) = false := by
     have := padZ_end n
     rw [bne_eq_false_iff_eq]; omega
    clear hnj
    go_upto_block 2 with fail
    obtain ⟨wo, hwo⟩ : ∃ wo : World, wo = wr := ⟨_, rfl⟩
    rw [← hwo] at HOJ2 HBJ ⊢
    clear hwo wr
    go_wp2_with fail
    go_loopg [3, 5] 8 (fun g tv kv wr => ∃ (i : Nat) (kk : Int) (ta : Option Addr) (tc : Nat), i ≤ 8 ∧ g = 8 - i ∧ kk = 56 - 8 * (i : Int) ∧ kv = .int .i64 kk ∧ tv = .slice ta (nj + i) tc ∧ Hid (OwnS wr B (.slice ta (nj + i) tc) (LJ ++ (be8 (n * 8)).take i)) ∧ Hid (Below B w wr))
    case atStart => exact ⟨0, 56, va, vc, by omega, rfl, by omega, rfl, rfl, Lib.hid (by rw [List.take_zero, List.append_nil]; exact HOJ2.out), HBJ⟩
    case round =>
     obtain ⟨i, kk, ta, tc, hi, hg, hkk, rfl, rfl, HTR, HBR⟩ := hrel
     obtain ⟨n1, hn1⟩ : ∃ n, nj + i = n := ⟨_, rfl⟩
     rw [hn1] at HTR ⊢
     have HN1 := Lib.hid hn1
     have hzr := below_le' HBQ HBR.out
     by_cases hi8 : i < 8
     · have b1 : (0 : Int) ≤ kk := by omega
       obtain ⟨sh, hsh⟩ : ∃ sh, 56 - 8 * i = sh := ⟨_, rfl⟩
       obtain rfl : kk = (sh : Int) := by omega
       obtain ⟨N, hN⟩ : ∃ N, n * 8 = N := ⟨_, rfl⟩
       have hs64 : sh ≤ 56 := by omega
       obtain ⟨cc, hcc⟩ : ∃ c, UInt8.ofNat (N / 2 ^ sh) = c := ⟨_, rfl⟩
       have g3 : (n : Int) * 8 / 2 ^ sh % 256 = (cc.toNat : Int) := by
        rw [show (n : Int) * 8 = (N : Int) by omega, ← hcc, ← bv_shr, Int.natCast_ediv, Int.natCast_pow]; rfl
       have HTK : Hid (LJ ++ (be8 (n * 8)).take i ++ [cc] = LJ ++ (be8 (n * 8)).take (i + 1)) := Lib.hid (by
        have e : (be8 (n * 8))[i]? = some cc := by rw [hN, ← hcc, ← hsh]; simp [be8, hi8]
        rw [List.take_add_one, e, List.append_assoc]; rfl)
       have HLN : Hid ((LJ ++ (be8 (n * 8)).take i).length = n1 ∧ (LJ ++ (be8 (n * 8)).take (i + 1)).length = nj + (i + 1)) := Lib.hid (by
        have hjj := HNJ.out
        constructor
        · rw [List.length_append, HLEN.out, List.length_take, be8_len]; omega
        · rw [List.length_append, HLEN.out, List.length_take, be8_len]; omega)
       have hnl : n1 ≤ 17592186044600 := by have := HNJ.out; omega
       have HKK : Hid (((sh : Int) - 8) = 56 - 8 * ((i + 1 : Nat) : Int)) := Lib.hid (by omega)
       clear hsh hN hkk hn1 hcc
       go_wp2_with (at_builtin; go_loud (refine wp_app1 rfl _ _ rfl (w := wr) (B := B) (v := .slice ta n1 tc) (l := LJ ++ (be8 (n * 8)).take i) cc rfl rfl HTR.out ?d1 hzr ?_; (case d1 => rw [HLN.out.1]; omega); intro v6 w6 hO6 hgr; rw [HTK.out] at hO6; obtain ⟨xa, xc, rfl⟩ := OwnS.form hO6; rw [HLN.out.2] at hO6 ⊢; have HO6 := Lib.hid hO6; have HB6 : Hid (Below B w w6) := Lib.hid (below_grownO HBR.out HTR.out hgr hzr); clear hO6 hgr))
       go_roundg (8 - (i + 1))
       case rel => exact ⟨i + 1, _, xa, xc, by omega, rfl, HKK.out, rfl, rfl, HO6, HB6⟩
       case measure => rw [hg]; omega
     · obtain rfl : i = 8 := by omega
       have b1 : decide ((0 : Int) ≤ kk) = false := by rw [decide_eq_false_iff_not]; omega
       have b2 : ¬ (0 : Int) ≤ kk := by omega
       clear hkk hn1
       have HF : Hid (OwnS wr B (.slice ta n1 tc) (filled bs)) := Lib.hid (by
        have h0 := HTR.out
        rw [List.take_of_length_le (by rw [be8_len]; exact Nat.le_refl _), ← HLJ.out] at h0
        have e : filled bs = bs ++ [128] ++ List.replicate (padZ n) 0 ++ be8 (n * 8) := by
         unfold filled shaT; rw [HN.out]; simp
        rw [e]; exact h0)
       go_wp2_with fail
       go_ret
       exact ⟨_, rfl, by rw [HBQ.out]; exact HF.out, by rw [HBQ.out]; exact HBR.out⟩
theorem shaK_len : shaK.length = 64 := rfl
theorem zeroK : ∀ w, (zeroValue 224).run Tryz.prog w = .ok (.agg (pad64 []).toArray) w := fun _ => by kernel_rfl
theorem res_w64 {fn : Func} {p : Tmp} (h : fn.results = #[.cell p 224]) (tmps : Array Value) {w : World} {g : Nat} {cs : Array Value} {t : TypeId} (hp : tmps.getD p undef = .pointer (some ⟨g, 0, none⟩))
  (hg : w.heap[g]? = some (.cells cs t (0, 0))) (hs : cs.size = 64) : (results fn tmps).run Tryz.prog w = .ok (.agg cs) w := by
 rw [results_cell1 h, hp]
 have hl : (loadVar 224 ⟨g, 0, none⟩).run Tryz.prog w = .ok (.agg cs) w := run_loadVar_row w g t 224 cs (0, 0) _ hg Tryz.underlying224 rfl (by rw [hs]; kernel_rfl)
 simp [asAddr, hl, Result.andThen]
set_option maxRecDepth 100000 in
set_option maxHeartbeats 16000000 in
theorem r1constants_any (w : World) : Calls Tryz.prog 149 #[] w fun e w' => e = .returned (.agg (shaK.map uv).toArray) ∧ Below w.heap.size w w' := by
 obtain ⟨B, hB⟩ : ∃ B, w.heap.size = B := ⟨_, rfl⟩
 have HBQ := Lib.hid hB
 obtain ⟨w1, hw1⟩ : ∃ u, w.alloc (.cells (pad64 []).toArray 224) = u := ⟨_, rfl⟩
 have HC1 : Hid (w1.heap[B]? = some (.cells (pad64 []).toArray 224 (0, 0))) := Lib.hid (by rw [← hw1, ← hB]; exact heap_alloc_new _ _)
 have HB1 : Hid (Below B w w1) := Lib.hid (by rw [← hw1, ← hB]; exact (Below.refl _ _).alloc (Nat.le_refl _) _)
 have HW1 := Lib.hid hw1
 clear hB hw1
 go_enter Tryz.func149, Tryz.ntmps149
 go_upto_region 1 with ((with_reducible refine wpList_at (.alloc 224) rfl ?_); go_loud (refine wpList_alloc_cells rfl _ rfl _ zeroK ?_))
 rw [HW1.out, HBQ.out]
 go_wp2_with (first
   | ((with_reducible refine wpList_at (.store 224 (.tmp 0) (.tmp 1)) rfl ?_); go_loud (refine wpList_store_agg rfl _ _ _ rfl B 0 (shaK.map uv) rfl rfl (there_of HC1.out 64 (by decide)) (by kernel_rfl) rfl ?_))
   | (refine wpList_val (v := .agg (shaK.map uv).toArray) (w' := w1) rfl (by kernel_rfl) ?_))
 refine bodyPost_ret (res_w64 rfl _ rfl (putL_heap (cs := pad64 []) HC1.out (shaK.map uv) rfl) rfl) rfl ?_
 exact ⟨rfl, by rw [HBQ.out]; exact putL_below (Nat.le_refl _) _ _ _ HB1.out⟩
theorem add_wrap (x y : Nat) : IntKind.u32.wrap ((x : Int) + (y : Int)) = ((add32 x y : Nat) : Int) := by rw [IntKind.wrap_u32]; exact add_bits x y
def partW (b : Str) (i : Nat) : Nat → Nat
 | 0 => 0
 | k + 1 => partW b i k * 256 + (b.getD (4 * i + k) 0).toNat
theorem partW_lt (b : Str) (i : Nat) : ∀ k, partW b i k < 256 ^ k
 | 0 => by show 0 < 1; decide
 | k + 1 => by
   have h := partW_lt b i k
   have h2 := (b.getD (4 * i + k) 0).toNat_lt
   unfold partW
   rw [Nat.pow_succ]
   omega
theorem partW_four (b : Str) (i : Nat) : partW b i 4 = word4 b i := by
 show (((0 * 256 + (b.getD (4 * i + 0) 0).toNat) * 256 + (b.getD (4 * i + 1) 0).toNat) * 256 + (b.getD (4 * i + 2) 0).toNat) * 256 + (b.getD (4 * i + 3) 0).toNat = _
 unfold word4
 rw [Nat.add_zero]
 omega
theorem pad64_zero' {l : List Nat} (h : l.length < 64) : pad64 (l ++ [0]) = pad64 l := by
 unfold pad64
 rw [List.length_append, List.length_singleton, List.append_assoc, show 64 - l.length = (64 - (l.length + 1)) + 1 by omega, List.replicate_succ]
 rfl
theorem pad64_set' {l : List Nat} {x : Nat} (_h : l.length < 64) (y : Nat) : (pad64 (l ++ [x])).set l.length (uv y) = pad64 (l ++ [y]) := by
 unfold pad64
 rw [← List.map_set, List.append_assoc, List.set_append_right _ _ (Nat.le_refl _), Nat.sub_self, List.length_append, List.length_append, List.append_assoc]
 rfl
theorem pad64_put {w : World} {g n : Nat} {l : List Nat} {x y : Nat} {t : TypeId} (hn : l.length = n) (h : n < 64) (hg : w.heap[g]? = some (.cells (pad64 (l ++ [x])).toArray t (0, 0))) : (w.setCell ⟨g, n, none⟩ (.int .u32 (y : Int))).heap[g]? = some (.cells (pad64 (l ++ [y])).toArray t (0, 0)) := by
 rw [heap_setCell_same w g n _ _ _ hg]
 subst hn
 rw [List.setIfInBounds_toArray]
 exact congrArg (fun l => some (Obj.cells (List.toArray l) t (0, 0))) (pad64_set' h y)
theorem words_take {b : Str} {i : Nat} (h : i < 16) : (words16 b).take (i + 1) = (words16 b).take i ++ [word4 b i] := by
 have e : (words16 b)[i]? = some (word4 b i) := by unfold words16; rw [List.getElem?_map, List.getElem?_range h]; rfl
 rw [List.take_add_one, e]; rfl
theorem words_len {b : Str} {i : Nat} (h : i ≤ 16) : ((words16 b).take i).length = i := by rw [List.length_take, words16_len]; omega
theorem plusW_set (s v : V8) {j : Nat} (hj : j < 8) : ((plusL s v j).map uv).set j (uv (add32 (s.l.getD j 0) (v.l.getD j 0))) = (plusL s v (j + 1)).map uv := by
 have h : j = 0 ∨ j = 1 ∨ j = 2 ∨ j = 3 ∨ j = 4 ∨ j = 5 ∨ j = 6 ∨ j = 7 := by omega
 rcases h with rfl | rfl | rfl | rfl | rfl | rfl | rfl | rfl <;> rfl
theorem plusW_get (s v : V8) {j : Nat} (hj : j < 8) : ((plusL s v j).map uv)[j]? = some (uv (s.l.getD j 0)) := by
 have h : j = 0 ∨ j = 1 ∨ j = 2 ∨ j = 3 ∨ j = 4 ∨ j = 5 ∨ j = 6 ∨ j = 7 := by omega
 rcases h with rfl | rfl | rfl | rfl | rfl | rfl | rfl | rfl <;> rfl
theorem w8_size (v : V8) : (W8c v).toArray.size = 8 := rfl
theorem w8_len (v : V8) : (W8c v).length = 8 := rfl
theorem w8_lit (a b c d e f g h : Nat) : W8c ⟨a, b, c, d, e, f, g, h⟩ = [.int .u32 (a : Int), .int .u32 (b : Int), .int .u32 (c : Int), .int .u32 (d : Int), .int .u32 (e : Int), .int .u32 (f : Int), .int .u32 (g : Int), .int .u32 (h : Int)] := rfl
set_option maxRecDepth 100000 in
theorem w8_build {ev : Operand → Value} {x0 x1 x2 x3 x4 x5 x6 x7 : Operand} {d : Option Tmp} {ty : TypeId} {ps : String} {af : Array Edge} {a0 a1 a2 a3 a4 a5 a6 a7 : Nat} {w' : World} (h0 : ev x0 = .int .u32 (a0 : Int)) (h1 : ev x1 = .int .u32 (a1 : Int)) (h2 : ev x2 = .int .u32 (a2 : Int)) (h3 : ev x3 = .int .u32 (a3 : Int)) (h4 : ev x4 = .int .u32 (a4 : Int)) (h5 : ev x5 = .int .u32 (a5 : Int)) (h6 : ev x6 = .int .u32 (a6 : Int)) (h7 : ev x7 = .int .u32 (a7 : Int)) :
  (execOp ev { dst := d, op := .build 189 #[(0, x0), (1, x1), (2, x2), (3, x3), (4, x4), (5, x5), (6, x6), (7, x7)], type := ty, pos := ps, after := af, guard := none }).run Tryz.prog w' = .ok (.value (.agg #[.int .u32 (a0 : Int), .int .u32 (a1 : Int), .int .u32 (a2 : Int), .int .u32 (a3 : Int), .int .u32 (a4 : Int), .int .u32 (a5 : Int), .int .u32 (a6 : Int), .int .u32 (a7 : Int)])) w' := by
 go_simp
theorem res_w8 {fn : Func} {p : Tmp} (h : fn.results = #[.cell p 189]) (tmps : Array Value) {w : World} {g : Nat} {cs : Array Value} {t : TypeId} (hp : tmps.getD p undef = .pointer (some ⟨g, 0, none⟩))
  (hg : w.heap[g]? = some (.cells cs t (0, 0))) (hs : cs.size = 8) : (results fn tmps).run Tryz.prog w = .ok (.agg cs) w := by
 rw [results_cell1 h, hp]
 have hl : (loadVar 189 ⟨g, 0, none⟩).run Tryz.prog w = .ok (.agg cs) w := run_loadVar_row w g t 189 cs (0, 0) _ hg Tryz.underlying189 rfl (by rw [hs]; kernel_rfl)
 simp [asAddr, hl, Result.andThen]
set_option maxRecDepth 100000 in
set_option maxHeartbeats 16000000 in
theorem r1mix_any (s : V8) (hs : s.ok) (blk : Str) (hl : blk.length = 64) (bb bo cap : Nat) (w : World) (hB : ∀ i c, blk[i]? = some c → w.cell? ⟨bb, bo + i, none⟩ = some (bv c)) :
  Calls Tryz.prog 109 #[.agg (W8c s).toArray, .slice (some ⟨bb, bo, none⟩) 64 cap] w fun e w' => e = .returned (.agg (W8c (mixN s blk)).toArray) ∧ Below w.heap.size w w' := by
 obtain ⟨B, hB0⟩ : ∃ B, w.heap.size = B := ⟨_, rfl⟩
 have HBQ := Lib.hid hB0
 have HBY := Lib.hid hB
 have HS := Lib.hid hs
 have HL := Lib.hid hl
 clear hB0 hB hs hl
 go_enter Tryz.func109, Tryz.ntmps109
 go_upto_region 2 with ((with_reducible refine wpList_at (.alloc 224) rfl ?_); refine wpList_alloc_cells rfl _ rfl _ zero64 ?_)
 obtain ⟨w1, hw1⟩ : ∃ u, w.alloc (.cells (W8c s).toArray 189) = u := ⟨_, rfl⟩
 obtain ⟨w2, hw2⟩ : ∃ u, w1.alloc (.cells #[.int .u32 0, .int .u32 0, .int .u32 0, .int .u32 0, .int .u32 0, .int .u32 0, .int .u32 0, .int .u32 0] 189) = u := ⟨_, rfl⟩
 obtain ⟨w3, hw3⟩ : ∃ u, w2.alloc (.cells (pad64 []).toArray 224) = u := ⟨_, rfl⟩
 have z1 : w1.heap.size = B + 1 := by rw [← hw1, ← HBQ.out]; simp
 have z2 : w2.heap.size = B + 2 := by rw [← hw2]; simp [z1]
 have z3 : w3.heap.size = B + 3 := by rw [← hw3]; simp [z2]
 have HB3 : Hid (Below B w w3) := Lib.hid (by
  rw [← hw3, ← hw2, ← hw1, ← HBQ.out]
  exact (((Below.refl _ w).alloc (Nat.le_refl _) _).alloc (by simp) _).alloc (by simp; omega) _)
 have HS3 : Hid (w3.heap[B]? = some (.cells (W8c s).toArray 189 (0, 0))) := Lib.hid (by
  rw [← hw3]
  refine (Below.heap_alloc _ _ _ (by rw [z2]; omega)).trans ?_
  rw [← hw2]
  refine (Below.heap_alloc _ _ _ (by rw [z1]; omega)).trans ?_
  rw [← hw1, ← HBQ.out]; exact heap_alloc_new _ _)
 have HR3 : Hid (w3.heap[B + 1]? = some (.cells (W8c ⟨0, 0, 0, 0, 0, 0, 0, 0⟩).toArray 189 (0, 0))) := Lib.hid (by
  rw [← hw3]
  refine (Below.heap_alloc _ _ _ (by rw [z2]; omega)).trans ?_
  rw [← hw2, ← z1]; exact heap_alloc_new _ _)
 have HW3 : Hid (w3.heap[B + 2]? = some (.cells (pad64 []).toArray 224 (0, 0))) := Lib.hid (by rw [← hw3, ← z2]; exact heap_alloc_new _ _)
 have HZ3 := Lib.hid z3
 simp only [Act.put, List.setIfInBounds_toArray, List.set_cons_zero, List.set_cons_succ]
 rw [hw1, hw2, z2, HBQ.out, hw3]
 clear hw1 hw2 hw3 z1 z2 z3
 go_upto_block 0 with fail
 go_cut [] from 6 to 45 (fun wr => Hid (wr.heap[B + 2]? = some (.cells (pad64 (words16 blk)).toArray 224 (0, 0))) ∧ Hid (Below (B + 2) w3 wr) ∧ Hid (wr.heap.size = B + 3))
 case first => as_aux_lemma =>
  go_wp2_with fail
  go_loopw [6] (fun iv wr => ∃ i : Nat, i ≤ 16 ∧ iv = .int .i64 (i : Int) ∧ Hid (wr.heap[B + 2]? = some (.cells (pad64 ((words16 blk).take i)).toArray 224 (0, 0))) ∧ Hid (Below (B + 2) w3 wr) ∧ Hid (wr.heap.size = B + 3)) (fun iv _ => 16 - (intOf iv).toNat)
  case atStart => exact ⟨0, Nat.zero_le _, rfl, HW3, Lib.hid (Below.refl _ _), HZ3⟩
  case round =>
   obtain ⟨i, hi, rfl, HWR, HBR, HZR⟩ := hrel
   by_cases hlt : i < 16
   · have b1 : (0 : Int) ≤ i := by omega
     have b2 : (i : Int) < 16 := by omega
     have b3 : (i : Int) < 64 := by omega
     have HLI : Hid (((words16 blk).take i).length = i) := Lib.hid (words_len hi)
     obtain ⟨wo, hwo⟩ : ∃ wo : World, wo = wr := ⟨_, rfl⟩
     rw [← hwo] at HWR HBR HZR ⊢
     clear hwo wr
     go_wp2_with fail
     go_loopw [7] (fun kv wr => ∃ k : Nat, k ≤ 4 ∧ kv = .int .i64 (k : Int) ∧ Hid (wr.heap[B + 2]? = some (.cells (pad64 ((words16 blk).take i ++ [partW blk i k])).toArray 224 (0, 0))) ∧ Hid (Below (B + 2) w3 wr) ∧ Hid (wr.heap.size = B + 3)) (fun kv _ => 4 - (intOf kv).toNat)
     case atStart => exact ⟨0, Nat.zero_le _, rfl, Lib.hid (by show wo.heap[B + 2]? = some (.cells (pad64 ((words16 blk).take i ++ [0])).toArray 224 (0, 0)); rw [pad64_zero' (by rw [HLI.out]; omega)]; exact HWR.out), HBR, HZR⟩
     case round =>
      obtain ⟨k, hk, rfl, HWK, HBK, HZK⟩ := hrel
      by_cases hkl : k < 4
      · have e1 : (0 : Int) ≤ k := by omega
        have e2 : (k : Int) < 4 := by omega
        obtain ⟨c, hc⟩ : ∃ c, blk[4 * i + k]? = some c := ⟨_, List.getElem?_eq_getElem (by rw [HL.out]; omega)⟩
        have cb : wr.cell? ⟨bb, bo + (4 * i + k), none⟩ = some (.int .u8 (c.toNat : Int)) := by
         have := HBY.out _ _ hc
         have hlt' : bb < w.heap.size := cell_lt' this
         rw [HBQ.out] at hlt'
         exact ((HBK.out.cell (p := ⟨bb, bo + (4 * i + k), none⟩) (show bb < B + 2 by omega)).trans ((HB3.out.cell (p := ⟨bb, bo + (4 * i + k), none⟩) hlt').trans this))
        obtain ⟨P, hP⟩ : ∃ P, partW blk i k = P := ⟨_, rfl⟩
        have hPl : P < 16777216 := by
         have h1 := partW_lt blk i k
         rw [hP] at h1
         have h2 : 256 ^ k ≤ 256 ^ 3 := Nat.pow_le_pow_right (by decide) (by omega)
         omega
        have hPn : partW blk i (k + 1) = P * 256 + c.toNat := by
         show partW blk i k * 256 + (blk.getD (4 * i + k) 0).toNat = _
         rw [hP, List.getD_eq_getElem?_getD, hc]; rfl
        rw [hP] at HWK
        have cw : wr.cell? ⟨B + 2, i, none⟩ = some (.int .u32 (P : Int)) := pad64_cell HWK.out (by rw [List.getElem?_append_right (by rw [HLI.out]; exact Nat.le_refl _), HLI.out, Nat.sub_self]; rfl)
        have fw : wr.frozen? ⟨B + 2, i, none⟩ = false := frozen_of_row wr (B + 2) i _ _ HWK.out
        obtain ⟨y, hy⟩ : ∃ y, c.toNat = y := ⟨_, rfl⟩
        have hyl : y < 256 := by rw [← hy]; exact c.toNat_lt
        rw [hy] at cb hPn
        obtain ⟨z, hz⟩ : ∃ z, P * 256 = z := ⟨_, rfl⟩
        obtain ⟨t, ht⟩ : ∃ t, z + y = t := ⟨_, rfl⟩
        have gz : IntKind.u32.wrap ((P : Int) * 256) = (z : Int) := by rw [IntWalk.u32_in _ (by omega)]; omega
        have gy : IntKind.u32.wrap (y : Int) = (y : Int) := IntWalk.u32_in _ (by omega)
        have gt : IntKind.u32.wrap ((z : Int) + (y : Int)) = (t : Int) := by rw [IntWalk.u32_in _ (by omega)]; omega
        have g4 : IntKind.i64.wrap (4 * (i : Int)) = 4 * (i : Int) := IntWalk.i64_in _ (by omega)
        have g5 : IntKind.i64.wrap (4 * (i : Int) + (k : Int)) = 4 * (i : Int) + (k : Int) := IntWalk.i64_in _ (by omega)
        have n0 : (4 * (i : Int) + (k : Int)).toNat = 4 * i + k := by omega
        have l0 : 4 * (i : Int) + (k : Int) < 64 := by omega
        have m0 : (0 : Int) ≤ 4 * (i : Int) + (k : Int) := by omega
        have HNX : Hid ((wr.setCell ⟨B + 2, i, none⟩ (.int .u32 (t : Int))).heap[B + 2]? = some (.cells (pad64 ((words16 blk).take i ++ [partW blk i (k + 1)])).toArray 224 (0, 0))) := Lib.hid (by
         rw [show partW blk i (k + 1) = t by omega]
         exact pad64_put HLI.out (by omega) HWK.out)
        have HCW := Lib.hid cw
        have HFW := Lib.hid fw
        have HCB := Lib.hid cb
        clear hc hP hPn hy hz ht cw cb fw
        go_upto_region 8 with fail
        refine wp_region_planF 15 [(0, false), (1, false), (2, false), (3, false), (4, false), (5, false), (6, false), (7, false), (8, false), (9, false), (10, false), (11, false), (12, false), (13, false), (14, false), (15, true)] (fun u => u.cell? ⟨B + 2, i, none⟩ = some (.int .u32 (P : Int)) ∧ u.cell? ⟨bb, bo + (4 * i + k), none⟩ = some (.int .u8 (y : Int))) (by kernel_rfl) (by kernel_rfl) ⟨HCW.out, HCB.out⟩ ?_
        iterate 15 (refine' planF_val rfl rfl (fun w' hS => ?_) ?_; rotate_left; (focus (obtain ⟨hs1, hs2⟩ := hS; first | (go_simp; rfl) | (go_simp; done))); simp only [Act.put, List.setIfInBounds_toArray, List.set_cons_zero, List.set_cons_succ])
        refine planF_do rfl (fun K hK => ?_)
        have cw : wr.drew.cell? ⟨B + 2, i, none⟩ = some (.int .u32 (P : Int)) := HCW.out
        have fw : wr.drew.frozen? ⟨B + 2, i, none⟩ = false := HFW.out
        have HBD : Hid (Below (B + 2) w3 wr.drew) := Lib.hid HBK.out.drew
        have HZD : Hid (wr.drew.heap.size = B + 3) := Lib.hid HZK.out
        have HND : Hid ((wr.drew.setCell ⟨B + 2, i, none⟩ (.int .u32 (t : Int))).heap[B + 2]? = some (.cells (pad64 ((words16 blk).take i ++ [partW blk i (k + 1)])).toArray 224 (0, 0))) := HNX
        obtain ⟨wd, hwd⟩ : ∃ u, wr.drew = u := ⟨_, rfl⟩
        rw [hwd] at cw fw HBD HZD HND ⊢
        clear hwd
        go_wp2_with fail
        obtain ⟨we, hwe⟩ : ∃ u, wd.setCell ⟨B + 2, i, none⟩ (.int .u32 (t : Int)) = u := ⟨_, rfl⟩
        have HBE : Hid (Below (B + 2) w3 we) := Lib.hid (by rw [← hwe]; exact HBD.out.setCell (Nat.le_refl _) _)
        have HZE : Hid (we.heap.size = B + 3) := Lib.hid (by rw [← hwe]; simp [HZD.out])
        rw [hwe] at HND ⊢
        refine hK _ _ (.inl trivial) ?_
        clear hK K
        refine planF_nil ?_
        clear cw fw hwe
        go_wp2_with fail
        go_roundw
        case rel => exact ⟨k + 1, by omega, by go_num, HND, HBE, HZE⟩
        case measure => simp [intOf]; omega
      · obtain rfl : k = 4 := by omega
        have e2 : ¬ (4 : Int) < 4 := by omega
        rw [partW_four, ← words_take hlt] at HWK
        go_wp2_with fail
        go_roundw
        case rel => exact ⟨i + 1, by omega, by go_num, HWK, HBK, HZK⟩
        case measure => simp [intOf]; omega
   · obtain rfl : i = 16 := by omega
     have e2 : ¬ (16 : Int) < 16 := by omega
     rw [List.take_of_length_le (by rw [words16_len]; exact Nat.le_refl _)] at HWR
     go_wp2_with fail
     go_meet
     case rel => exact ⟨HWR, HBR, HZR⟩
 case rest =>
  obtain ⟨HW4, HB4, HZ4⟩ := hcut
  obtain ⟨w4, hw4⟩ : ∃ u, u = wc := ⟨_, rfl⟩
  rw [← hw4] at HW4 HB4 HZ4 ⊢
  clear hw4 HW3
  go_upto_block 4 with fail
  go_cut [] from 8 to 86 (fun wr => Hid (wr.heap[B + 2]? = some (.cells (pad64 (wext (words16 blk) 48)).toArray 224 (0, 0))) ∧ Hid (Below (B + 2) w3 wr) ∧ Hid (wr.heap.size = B + 3))
  case first => as_aux_lemma =>
   go_wp2_with fail
   go_loopw [8] (fun i wr => ∃ n : Nat, 16 ≤ n ∧ n ≤ 64 ∧ i = .int .i64 (n : Int) ∧ Hid (wr.heap[B + 2]? = some (.cells (pad64 (wext (words16 blk) (n - 16))).toArray 224 (0, 0))) ∧ Hid (Below (B + 2) w3 wr) ∧ Hid (wr.heap.size = B + 3)) (fun i _ => 64 - (intOf i).toNat)
   case atStart => exact ⟨16, Nat.le_refl _, by omega, rfl, HW4, HB4, HZ4⟩
   case round =>
    obtain ⟨n, hn0, hn, rfl, HWR, HBR, HZR⟩ := hrel
    by_cases hlt : n < 64
    · have b1 : (0 : Int) ≤ n := by omega
      have b2 : (n : Int) < 64 := by omega
      obtain ⟨m16, h16⟩ : ∃ m, n - 16 = m := ⟨_, rfl⟩
      obtain ⟨m15, h15⟩ : ∃ m, n - 15 = m := ⟨_, rfl⟩
      obtain ⟨m7, h7⟩ : ∃ m, n - 7 = m := ⟨_, rfl⟩
      obtain ⟨m2, h2⟩ : ∃ m, n - 2 = m := ⟨_, rfl⟩
      have g16 : IntKind.i64.wrap ((n : Int) - 16) = (m16 : Int) := by rw [IntWalk.i64_in _ (by omega)]; omega
      have g15 : IntKind.i64.wrap ((n : Int) - 15) = (m15 : Int) := by rw [IntWalk.i64_in _ (by omega)]; omega
      have g7 : IntKind.i64.wrap ((n : Int) - 7) = (m7 : Int) := by rw [IntWalk.i64_in _ (by omega)]; omega
      have g2 : IntKind.i64.wrap ((n : Int) - 2) = (m2 : Int) := by rw [IntWalk.i64_in _ (by omega)]; omega
      have l16 : (m16 : Int) < 64 := by omega
      have l15 : (m15 : Int) < 64 := by omega
      have l7 : (m7 : Int) < 64 := by omega
      have l2 : (m2 : Int) < 64 := by omega
      obtain ⟨l, hl⟩ : ∃ l, wext (words16 blk) (n - 16) = l := ⟨_, rfl⟩
      have hlen : l.length = n := by rw [← hl, wext_len (words16_len blk)]; omega
      have hwd : Wds l := by rw [← hl]; exact wext_wds (words16_wds blk) _
      have hnx : l ++ [wnext l n] = wext (words16 blk) (n + 1 - 16) := by
       rw [show n + 1 - 16 = (n - 16) + 1 by omega]
       unfold wext
       rw [hl, show 16 + (n - 16) = n by omega]
      rw [hl] at HWR
      obtain ⟨xa, ha⟩ : ∃ c, l[m16]? = some c := ⟨_, List.getElem?_eq_getElem (by omega)⟩
      obtain ⟨xb, hb'⟩ : ∃ c, l[m15]? = some c := ⟨_, List.getElem?_eq_getElem (by omega)⟩
      obtain ⟨xc, hc⟩ : ∃ c, l[m7]? = some c := ⟨_, List.getElem?_eq_getElem (by omega)⟩
      obtain ⟨xd, hd⟩ : ∃ c, l[m2]? = some c := ⟨_, List.getElem?_eq_getElem (by omega)⟩
      have lb : xb < 4294967296 := hwd _ (List.mem_of_getElem? hb')
      have ld : xd < 4294967296 := hwd _ (List.mem_of_getElem? hd)
      have HNX : Hid (add32 (add32 (add32 xa xc) (smlS0 xb)) (smlS1 xd) = wnext l n) := Lib.hid (by
       unfold wnext
       rw [h16, h15, h7, h2]
       simp only [List.getD_eq_getElem?_getD, ha, hb', hc, hd, Option.getD_some])
      have HCA : Hid (∀ u : World, u.heap[B + 2]? = some (.cells (pad64 l).toArray 224 (0, 0)) → u.cell? ⟨B + 2, m16, none⟩ = some (.int .u32 (xa : Int)) ∧ u.cell? ⟨B + 2, m7, none⟩ = some (.int .u32 (xc : Int))) := Lib.hid (fun u hu => ⟨pad64_cell hu ha, pad64_cell hu hc⟩)
      have c15 := pad64_cell HWR.out hb'
      have c2 := pad64_cell HWR.out hd
      have t1 := fun w => turned_any xb 7 7 rfl (by decide) lb w
      have t2 := fun w => turned_any xb 18 18 rfl (by decide) lb w
      have t3 := fun w => turned_any xd 17 17 rfl (by decide) ld w
      have t4 := fun w => turned_any xd 19 19 rfl (by decide) ld w
      have r1 := rotN_lt (n := 7) lb
      have r2 := rotN_lt (n := 18) lb
      have r3 := rotN_lt (n := 17) ld
      have r4 := rotN_lt (n := 19) ld
      obtain ⟨p1, hp1⟩ : ∃ u, rotN xb 7 = u := ⟨_, rfl⟩
      obtain ⟨p2, hp2⟩ : ∃ u, rotN xb 18 = u := ⟨_, rfl⟩
      obtain ⟨p3, hp3⟩ : ∃ u, rotN xd 17 = u := ⟨_, rfl⟩
      obtain ⟨p4, hp4⟩ : ∃ u, rotN xd 19 = u := ⟨_, rfl⟩
      rw [hp1] at t1 r1
      rw [hp2] at t2 r2
      rw [hp3] at t3 r3
      rw [hp4] at t4 r4
      have T1 := Lib.hid t1
      have T2 := Lib.hid t2
      have T3 := Lib.hid t3
      have T4 := Lib.hid t4
      have s1 := xor_bits r1 r2
      have s1l := xor_lt32 r1 r2
      obtain ⟨q1, hq1⟩ : ∃ u, p1 ^^^ p2 = u := ⟨_, rfl⟩
      rw [hq1] at s1 s1l
      obtain ⟨v1, hv1⟩ : ∃ u, xb / 8 = u := ⟨_, rfl⟩
      have e1 : (xb : Int) / 8 = (v1 : Int) := by omega
      have s2 := xor_bits s1l (show v1 < 4294967296 by omega)
      obtain ⟨q2, hq2⟩ : ∃ u, q1 ^^^ v1 = u := ⟨_, rfl⟩
      rw [hq2] at s2
      have s3 := xor_bits r3 r4
      have s3l := xor_lt32 r3 r4
      obtain ⟨q3, hq3⟩ : ∃ u, p3 ^^^ p4 = u := ⟨_, rfl⟩
      rw [hq3] at s3 s3l
      obtain ⟨v2, hv2⟩ : ∃ u, xd / 1024 = u := ⟨_, rfl⟩
      have e2 : (xd : Int) / 1024 = (v2 : Int) := by omega
      have s4 := xor_bits s3l (show v2 < 4294967296 by omega)
      obtain ⟨q4, hq4⟩ : ∃ u, q3 ^^^ v2 = u := ⟨_, rfl⟩
      rw [hq4] at s4
      have a1 := add_bits xa q2
      obtain ⟨y1, hy1⟩ : ∃ u, add32 xa q2 = u := ⟨_, rfl⟩
      rw [hy1] at a1
      have a2 := add_bits y1 xc
      obtain ⟨y2, hy2⟩ : ∃ u, add32 y1 xc = u := ⟨_, rfl⟩
      rw [hy2] at a2
      have a3 := add_bits y2 q4
      obtain ⟨y3, hy3⟩ : ∃ u, add32 y2 q4 = u := ⟨_, rfl⟩
      rw [hy3] at a3
      have HY : Hid (l ++ [y3] = wext (words16 blk) (n + 1 - 16)) := Lib.hid (by
       rw [← hnx, ← HNX.out]
       unfold smlS0 smlS1
       rw [hp1, hp2, hq1, hv1, hq2, hp3, hp4, hq3, hv2, hq4, show add32 (add32 xa xc) q2 = add32 (add32 xa q2) xc from by unfold add32; omega, hy1, hy2, hy3])
      have HLE := Lib.hid hlen
      clear t1 t2 t3 t4 r1 r2 r3 r4 hp1 hp2 hp3 hp4 hq1 hq2 hq3 hq4 hv1 hv2 hy1 hy2 hy3 s1l s3l ha hb' hc hd hl hlen hwd hnx h16 h15 h7 h2 lb ld
      go_upto_region 12 with fail
      go_quiet (fail)
      generalize hwq : wr.drewN _ = wq
      have HWq : Hid (wq.heap[B + 2]? = some (.cells (pad64 l).toArray 224 (0, 0))) := Lib.hid (by rw [← hwq]; exact HWR.out)
      have HBq : Hid (Below (B + 2) w3 wq) := Lib.hid (by rw [← hwq]; exact below_drewN HBR.out _)
      have HZq : Hid (wq.heap.size = B + 3) := Lib.hid (by rw [← hwq]; exact HZR.out)
      clear hwq c15 c2
      go_upto_region 13 with fail
      refine wp_region_planF 29 [(0, false), (1, false), (2, false), (3, false), (4, false), (5, false), (7, false), (10, false), (11, false), (14, false), (15, false), (16, false), (17, false), (19, false), (21, false), (24, false), (25, false), (6, true), (8, true), (9, false), (12, false), (13, false), (18, false), (20, true), (22, true), (23, false), (26, false), (27, false), (28, false), (29, true)] (fun u => u.cell? ⟨B + 2, m16, none⟩ = some (.int .u32 (xa : Int)) ∧ u.cell? ⟨B + 2, m7, none⟩ = some (.int .u32 (xc : Int))) (by kernel_rfl) (by kernel_rfl) (HCA.out _ HWq.out) ?_
      iterate 17 (refine' planF_val rfl rfl (fun w' hS => ?_) ?_; rotate_left; (focus (first | (obtain ⟨hS1, hS2⟩ := hS; go_simp; rfl) | (obtain ⟨hS1, hS2⟩ := hS; go_simp; done) | rfl)); simp only [Act.put, List.setIfInBounds_toArray, List.set_cons_zero, List.set_cons_succ])
      refine planF_do rfl (fun K hK => ?_)
      go_wp2_with (go_at_call 148; refine (T1.out _).mono ?_; rintro e wa1 ⟨rfl, dr, hdr⟩; have HA1 : Hid (wa1.heap = wq.heap) := Lib.hid (by rw [hdr]; rfl); have HX1 : Hid (Below (B + 2) w3 wa1) := Lib.hid (by rw [hdr]; exact below_drewN HBq.out.drew dr); clear hdr)
      refine hK _ _ (.inr (HCA.out _ (by rw [HA1.out]; exact HWq.out))) ?_
      clear hK K
      refine planF_do rfl (fun K hK => ?_)
      go_wp2_with (go_at_call 148; refine (T2.out _).mono ?_; rintro e wa2 ⟨rfl, dr, hdr⟩; have HA2 : Hid (wa2.heap = wq.heap) := Lib.hid (by rw [hdr]; exact HA1.out); have HX2 : Hid (Below (B + 2) w3 wa2) := Lib.hid (by rw [hdr]; exact below_drewN HX1.out dr); clear hdr)
      refine hK _ _ (.inr (HCA.out _ (by rw [HA2.out]; exact HWq.out))) ?_
      clear hK K
      iterate 4 (refine' planF_val rfl rfl (fun w' hS => ?_) ?_; rotate_left; (focus (first | (obtain ⟨hS1, hS2⟩ := hS; go_simp; rfl) | (obtain ⟨hS1, hS2⟩ := hS; go_simp; done) | rfl)); simp only [Act.put, List.setIfInBounds_toArray, List.set_cons_zero, List.set_cons_succ])
      refine planF_do rfl (fun K hK => ?_)
      go_wp2_with (go_at_call 148; refine (T3.out _).mono ?_; rintro e wa3 ⟨rfl, dr, hdr⟩; have HA3 : Hid (wa3.heap = wq.heap) := Lib.hid (by rw [hdr]; exact HA2.out); have HX3 : Hid (Below (B + 2) w3 wa3) := Lib.hid (by rw [hdr]; exact below_drewN HX2.out dr); clear hdr)
      refine hK _ _ (.inr (HCA.out _ (by rw [HA3.out]; exact HWq.out))) ?_
      clear hK K
      refine planF_do rfl (fun K hK => ?_)
      go_wp2_with (go_at_call 148; refine (T4.out _).mono ?_; rintro e wa4 ⟨rfl, dr, hdr⟩; have HA4 : Hid (wa4.heap = wq.heap) := Lib.hid (by rw [hdr]; exact HA3.out); have HX4 : Hid (Below (B + 2) w3 wa4) := Lib.hid (by rw [hdr]; exact below_drewN HX3.out dr); clear hdr)
      refine hK _ _ (.inr (HCA.out _ (by rw [HA4.out]; exact HWq.out))) ?_
      clear hK K
      iterate 4 (refine' planF_val rfl rfl (fun w' hS => ?_) ?_; rotate_left; (focus (first | (obtain ⟨hS1, hS2⟩ := hS; go_simp; rfl) | (obtain ⟨hS1, hS2⟩ := hS; go_simp; done) | rfl)); simp only [Act.put, List.setIfInBounds_toArray, List.set_cons_zero, List.set_cons_succ])
      have HW4 : Hid (wa4.heap[B + 2]? = some (.cells (pad64 l).toArray 224 (0, 0))) := Lib.hid (by rw [HA4.out]; exact HWq.out)
      have hfz : wa4.frozen? ⟨B + 2, n, none⟩ = false := frozen_of_row wa4 (B + 2) n _ _ HW4.out
      have hcz : wa4.cell? ⟨B + 2, n, none⟩ = some (.int .u32 0) := pad64_zero HW4.out HLE.out (by omega)
      refine planF_do rfl (fun K hK => ?_)
      go_wp2_with fail
      refine hK _ _ (.inl trivial) ?_
      clear hK K
      refine planF_nil ?_
      go_wp2_with fail
      go_roundw
      case rel => exact ⟨n + 1, by omega, by omega, by go_num, Lib.hid (by rw [← HY.out]; exact pad64_store HW4.out HLE.out (by omega) y3), Lib.hid (HX4.out.setCell (Nat.le_refl _) _), Lib.hid (by simp [HA4.out, HZq.out])⟩
      case measure => simp [intOf]; omega
    · obtain rfl : n = 64 := by omega
      go_wp2_with fail
      go_meet
      case rel => exact ⟨HWR, HBR, HZR⟩
  case rest =>
   obtain ⟨HW5, HB5, HZ5⟩ := hcut
   obtain ⟨w5, hw5⟩ : ∃ u, u = wc := ⟨_, rfl⟩
   rw [← hw5] at HW5 HB5 HZ5 ⊢
   clear hw5 HW4 HB4 HZ4
   have HKC := Lib.hid (r1constants_any w5)
   have HS5 : Hid (w5.heap[B]? = some (.cells (W8c s).toArray 189 (0, 0))) := Lib.hid ((HB5.out.block B (by omega)).trans HS3.out)
   go_upto_region 15 with (first
     | ((with_reducible refine wpList_at (.alloc 224) rfl ?_); refine wpList_alloc_cells rfl _ rfl _ zero64 ?_)
     | ((with_reducible refine wpList_at (.store 224 (.tmp 11) (.tmp 87)) rfl ?_); go_loud (refine wpList_store_agg rfl _ _ _ rfl w6.heap.size 0 (shaK.map uv) rfl rfl (there_of (heap_alloc_new w6 (.cells (pad64 []).toArray 224)) 64 (by decide)) (by kernel_rfl) rfl ?_))
     | (go_at_call 149; go_loud (refine HKC.out.mono ?_); rintro e w6 ⟨rfl, hb⟩; have HU6 := Lib.hid hb; clear hb))
   obtain ⟨E, hE⟩ : ∃ E, w6.heap.size = E := ⟨_, rfl⟩
   obtain ⟨w7, hw7⟩ : ∃ u, w6.alloc (.cells (pad64 []).toArray 224) = u := ⟨_, rfl⟩
   obtain ⟨w8, hw8⟩ : ∃ u, w7.setCells E 0 (shaK.map uv) = u := ⟨_, rfl⟩
   have hk8 : w8.heap[E]? = some (.cells (shaK.map uv).toArray 224 (0, 0)) := by rw [← hw8]; exact putL_heap (cs := pad64 []) (by rw [← hw7, ← hE]; exact heap_alloc_new _ _) _ rfl
   have hz8 : w8.heap.size = E + 1 := by rw [← hw8, putL_size, ← hw7]; simp [hE]
   have hE3 : B + 3 ≤ E := by have := HU6.out.size; rw [HZ5.out] at this; omega
   have HU8 : Hid (Below (B + 3) w5 w8) := Lib.hid (by
    rw [← hw8]
    refine putL_below hE3 _ _ _ ?_
    rw [← hw7]
    have h0 := HU6.out
    rw [HZ5.out] at h0
    exact h0.alloc (by rw [hE]; exact hE3) _)
   have HK8 := Lib.hid hk8
   have HS8 : Hid (w8.heap[B]? = some (.cells (W8c s).toArray 189 (0, 0))) := Lib.hid ((HU8.out.block B (by omega)).trans HS5.out)
   have HW8 : Hid (w8.heap[B + 2]? = some (.cells (pad64 (wext (words16 blk) 48)).toArray 224 (0, 0))) := Lib.hid ((HU8.out.block (B + 2) (by omega)).trans HW5.out)
   have HE3 := Lib.hid hE3
   try simp only [Act.put, List.setIfInBounds_toArray, List.set_cons_zero, List.set_cons_succ]
   rw [hE, hw7, hw8]
   have HZ8 := Lib.hid hz8
   clear hE hw7 hw8 hk8 hz8
   go_upto_region 16 with (first
     | ((with_reducible refine wpList_at (.load 189 (.tmp 2)) rfl ?_); go_loud (refine wpList_load_mid rfl 189 _ rfl B 0 rfl (W8c s) _ (range_row HS8.out) Tryz.underlying189 rfl (by kernel_rfl) ?_))
     | ((with_reducible refine wpList_at (.store 189 (.tmp 12) (.tmp 88)) rfl ?_); go_loud (refine wpList_store_agg rfl _ _ _ rfl w8.heap.size 0 (W8c s) rfl rfl (there_of (heap_alloc_new w8 (.cells #[.int .u32 0, .int .u32 0, .int .u32 0, .int .u32 0, .int .u32 0, .int .u32 0, .int .u32 0, .int .u32 0] 189)) 8 (by decide)) (by kernel_rfl) rfl ?_)))
   obtain ⟨F, hF⟩ : ∃ F, w8.heap.size = F := ⟨_, rfl⟩
   obtain ⟨w9, hw9⟩ : ∃ u, w8.alloc (.cells #[.int .u32 0, .int .u32 0, .int .u32 0, .int .u32 0, .int .u32 0, .int .u32 0, .int .u32 0, .int .u32 0] 189) = u := ⟨_, rfl⟩
   obtain ⟨w10, hw10⟩ : ∃ u, w9.setCells F 0 (W8c s) = u := ⟨_, rfl⟩
   have HV10 : Hid (w10.heap[F]? = some (.cells (W8c s).toArray 189 (0, 0))) := Lib.hid (by
    rw [← hw10]
    exact putL_heap (cs := [.int .u32 0, .int .u32 0, .int .u32 0, .int .u32 0, .int .u32 0, .int .u32 0, .int .u32 0, .int .u32 0]) (by rw [← hw9, ← hF]; exact heap_alloc_new _ _) _ rfl)
   have HZ10 : Hid (w10.heap.size = F + 1) := Lib.hid (by rw [← hw10, putL_size, ← hw9]; simp [hF])
   have HFE : Hid (F = E + 1) := Lib.hid (by rw [← hF]; exact HZ8.out)
   have HU10 : Hid (Below F w8 w10) := Lib.hid (by
    rw [← hw10]
    refine putL_below (Nat.le_refl _) _ _ _ ?_
    rw [← hw9, ← hF]
    exact (Below.refl _ _).alloc (Nat.le_refl _) _)
   try simp only [Act.put]
   rw [hF, hw9, hw10]
   clear hF hw9 hw10
   obtain ⟨ws, hws⟩ : ∃ l, wext (words16 blk) 48 = l := ⟨_, rfl⟩
   have HWS : Hid (ws.length = 64 ∧ Wds ws) := Lib.hid (by rw [← hws]; exact ⟨by rw [wext_len (words16_len blk)], wext_wds (words16_wds blk) _⟩)
   have HWX := Lib.hid hws
   rw [hws] at HW8
   clear hws
   have HCU : Hid (∀ u : World, Below F w8 u → u.heap[E]? = some (.cells (shaK.map uv).toArray 224 (0, 0)) ∧ u.heap[B + 2]? = some (.cells (pad64 ws).toArray 224 (0, 0)) ∧ u.heap[B]? = some (.cells (W8c s).toArray 189 (0, 0))) := Lib.hid (fun u hu => by
    have h1 := HFE.out
    have h2 := HE3.out
    exact ⟨(hu.block E (by omega)).trans HK8.out, (hu.block (B + 2) (by omega)).trans HW8.out, (hu.block B (by omega)).trans HS8.out⟩)
   go_upto_block 6 with fail
   go_cut [] from 13 to 172 (fun wr => Hid (wr.heap[F]? = some (.cells (W8c (rnds s ws 64)).toArray 189 (0, 0))) ∧ Hid (Below F w8 wr))
   case first => as_aux_lemma =>
    go_wp2_with fail
    go_loopw [13] (fun iv wr => ∃ i : Nat, i ≤ 64 ∧ iv = .int .i64 (i : Int) ∧ Hid (wr.heap[F]? = some (.cells (W8c (rnds s ws i)).toArray 189 (0, 0))) ∧ Hid (Below F w8 wr)) (fun iv _ => 64 - (intOf iv).toNat)
    case atStart => exact ⟨0, Nat.zero_le _, rfl, HV10, HU10⟩
    case round =>
     obtain ⟨i, hi, rfl, HVR, HBR⟩ := hrel
     by_cases hlt : i < 64
     · have b1 : (0 : Int) ≤ i := by omega
       have b2 : (i : Int) < 64 := by omega
       obtain ⟨v, hv⟩ : ∃ v, rnds s ws i = v := ⟨_, rfl⟩
       have HOK : Hid v.ok := Lib.hid (by rw [← hv]; exact rnds_ok HS.out ws i)
       obtain ⟨k, hk⟩ : ∃ k, shaK[i]? = some k := ⟨_, List.getElem?_eq_getElem (by rw [shaK_len]; exact hlt)⟩
       obtain ⟨x, hx⟩ : ∃ x, ws[i]? = some x := ⟨_, List.getElem?_eq_getElem (by rw [HWS.out.1]; exact hlt)⟩
       have HRN : Hid (rnds s ws (i + 1) = rnd v k x) := Lib.hid (by
        show rnd (rnds s ws i) (shaK.getD i 0) (ws.getD i 0) = _
        rw [hv, List.getD_eq_getElem?_getD, List.getD_eq_getElem?_getD, hk, hx]; rfl)
       rw [hv] at HVR
       have HCK : Hid (∀ u : World, u.heap = wr.heap → u.cell? ⟨E, i, none⟩ = some (.int .u32 (k : Int)) ∧ u.cell? ⟨B + 2, i, none⟩ = some (.int .u32 (x : Int))) := Lib.hid (fun u hu => by
        obtain ⟨h1, h2, _⟩ := HCU.out wr HBR.out
        rw [← hu] at h1 h2
        exact ⟨by rw [cell_of_row u E i _ _ _ h1, List.getElem?_toArray, List.getElem?_map, hk]; rfl, pad64_cell h2 hx⟩)
       clear hv hk hx
       obtain ⟨h1, h2, h3, h4, h5, h6, h7, h8⟩ := HOK.out
       have T1 := Lib.hid (fun w => turned_any v.e 6 6 rfl (by decide) h5 w)
       have T2 := Lib.hid (fun w => turned_any v.e 11 11 rfl (by decide) h5 w)
       have T3 := Lib.hid (fun w => turned_any v.e 25 25 rfl (by decide) h5 w)
       have T4 := Lib.hid (fun w => turned_any v.a 2 2 rfl (by decide) h1 w)
       have T5 := Lib.hid (fun w => turned_any v.a 13 13 rfl (by decide) h1 w)
       have T6 := Lib.hid (fun w => turned_any v.a 22 22 rfl (by decide) h1 w)
       have l1 := rotN_lt (n := 6) h5
       have l2 := rotN_lt (n := 11) h5
       have l3 := rotN_lt (n := 25) h5
       have l4 := rotN_lt (n := 2) h1
       have l5 := rotN_lt (n := 13) h1
       have l6 := rotN_lt (n := 22) h1
       obtain ⟨p, hp⟩ : ∃ p, rotN v.e 6 ^^^ rotN v.e 11 ^^^ rotN v.e 25 = p := ⟨_, rfl⟩
       obtain ⟨q, hq⟩ : ∃ q, rotN v.a 2 ^^^ rotN v.a 13 ^^^ rotN v.a 22 = q := ⟨_, rfl⟩
       have hp' := hp
       have hq' := hq
       obtain ⟨p1, hp1⟩ : ∃ u, rotN v.e 6 = u := ⟨_, rfl⟩
       obtain ⟨p2, hp2⟩ : ∃ u, rotN v.e 11 = u := ⟨_, rfl⟩
       obtain ⟨p3, hp3⟩ : ∃ u, rotN v.e 25 = u := ⟨_, rfl⟩
       obtain ⟨q1, hq1⟩ : ∃ u, rotN v.a 2 = u := ⟨_, rfl⟩
       obtain ⟨q2, hq2⟩ : ∃ u, rotN v.a 13 = u := ⟨_, rfl⟩
       obtain ⟨q3, hq3⟩ : ∃ u, rotN v.a 22 = u := ⟨_, rfl⟩
       rw [hp1] at T1 l1
       rw [hp2] at T2 l2
       rw [hp3] at T3 l3
       rw [hq1] at T4 l4
       rw [hq2] at T5 l5
       rw [hq3] at T6 l6
       rw [hp1, hp2, hp3] at hp'
       rw [hq1, hq2, hq3] at hq'
       have f1 := xor_bits l1 l2
       have f1l := xor_lt32 l1 l2
       have f2 := xor_bits f1l l3
       rw [hp'] at f2
       have f3 := xor_bits l4 l5
       have f3l := xor_lt32 l4 l5
       have f4 := xor_bits f3l l6
       rw [hq'] at f4
       obtain ⟨p12, hp12⟩ : ∃ u, p1 ^^^ p2 = u := ⟨_, rfl⟩
       obtain ⟨q12, hq12⟩ : ∃ u, q1 ^^^ q2 = u := ⟨_, rfl⟩
       rw [hp12] at f1 f2
       rw [hq12] at f3 f4
       clear hp1 hp2 hp3 hq1 hq2 hq3 hp12 hq12 hp' hq' f1l f3l
       -- the sums of t
       have a1 := and_bits h5 h6
       have a1l := and_lt32 (b := v.f) h5
       obtain ⟨x1, hx1⟩ : ∃ u, v.e &&& v.f = u := ⟨_, rfl⟩
       rw [hx1] at a1 a1l
       have a2 := not_bits h5
       obtain ⟨x2, hx2⟩ : ∃ u, 4294967295 - v.e = u := ⟨_, rfl⟩
       have a2l : x2 < 4294967296 := by omega
       rw [hx2] at a2
       have a3 := and_bits a2l h7
       have a3l := and_lt32 (b := v.g) a2l
       obtain ⟨x3, hx3⟩ : ∃ u, x2 &&& v.g = u := ⟨_, rfl⟩
       rw [hx3] at a3 a3l
       have a4 := xor_bits a1l a3l
       obtain ⟨x4, hx4⟩ : ∃ u, x1 ^^^ x3 = u := ⟨_, rfl⟩
       rw [hx4] at a4
       have s1 := add_wrap v.h p
       obtain ⟨y1, hy1⟩ : ∃ u, add32 v.h p = u := ⟨_, rfl⟩
       rw [hy1] at s1
       have s2 := add_wrap y1 x4
       obtain ⟨y2, hy2⟩ : ∃ u, add32 y1 x4 = u := ⟨_, rfl⟩
       rw [hy2] at s2
       have s3 := add_wrap y2 k
       obtain ⟨y3, hy3⟩ : ∃ u, add32 y2 k = u := ⟨_, rfl⟩
       rw [hy3] at s3
       have s4 := add_wrap y3 x
       obtain ⟨y4, hy4⟩ : ∃ u, add32 y3 x = u := ⟨_, rfl⟩
       rw [hy4] at s4
       have HT : Hid (tN v k x = y4) := Lib.hid (by unfold tN bigS1 chN; rw [hp, hy1, hx1, hx2, hx3, hx4, hy2, hy3, hy4])
       -- the sums of u
       have d1 := and_bits h1 h2
       have d1l := and_lt32 (b := v.b) h1
       obtain ⟨z1, hz1⟩ : ∃ u, v.a &&& v.b = u := ⟨_, rfl⟩
       rw [hz1] at d1 d1l
       have d2 := and_bits h1 h3
       have d2l := and_lt32 (b := v.c) h1
       obtain ⟨z2, hz2⟩ : ∃ u, v.a &&& v.c = u := ⟨_, rfl⟩
       rw [hz2] at d2 d2l
       have d3 := and_bits h2 h3
       have d3l := and_lt32 (b := v.c) h2
       obtain ⟨z3, hz3⟩ : ∃ u, v.b &&& v.c = u := ⟨_, rfl⟩
       rw [hz3] at d3 d3l
       have d4 := xor_bits d1l d2l
       have d4l := xor_lt32 d1l d2l
       obtain ⟨z4, hz4⟩ : ∃ u, z1 ^^^ z2 = u := ⟨_, rfl⟩
       rw [hz4] at d4 d4l
       have d5 := xor_bits d4l d3l
       obtain ⟨z5, hz5⟩ : ∃ u, z4 ^^^ z3 = u := ⟨_, rfl⟩
       rw [hz5] at d5
       have d6 := add_wrap q z5
       obtain ⟨z6, hz6⟩ : ∃ u, add32 q z5 = u := ⟨_, rfl⟩
       rw [hz6] at d6
       have HU : Hid (uN v = z6) := Lib.hid (by unfold uN bigS0 majN; rw [hq, hz1, hz2, hz3, hz4, hz5, hz6])
       have r1 := add_wrap v.d y4
       have r2 := add_wrap y4 z6
       obtain ⟨o1, ho1⟩ : ∃ u, add32 v.d y4 = u := ⟨_, rfl⟩
       obtain ⟨o2, ho2⟩ : ∃ u, add32 y4 z6 = u := ⟨_, rfl⟩
       rw [ho1] at r1
       rw [ho2] at r2
       have HR : Hid (rnd v k x = ⟨o2, v.a, v.b, v.c, o1, v.e, v.f, v.g⟩) := Lib.hid (by unfold rnd; rw [HT.out, HU.out, ho1, ho2])
       clear hx1 hx2 hx3 hx4 hy1 hy2 hy3 hy4 hp hz1 hz2 hz3 hz4 hz5 hz6 hq HT HU ho1 ho2 a1l a2l a3l d1l d2l d3l d4l l1 l2 l3 l4 l5 l6
       obtain ⟨⟨c0, c1, c2, c3, c4, c5, c6, c7⟩, f0⟩ := cells_w8 HVR.out
       clear f0
       go_upto_region 19 with fail
       go_quiet (fail)
       generalize hwq : wr.drewN _ = wq
       have HHQ : Hid (wq.heap = wr.heap) := Lib.hid (by rw [← hwq]; rfl)
       have HBQQ : Hid (Below F w8 wq) := Lib.hid (by rw [← hwq]; exact below_drewN HBR.out _)
       clear hwq c0 c1 c2 c3 c4 c5 c6 c7
       obtain ⟨⟨c0, c1, c2, c3, c4, c5, c6, c7⟩, f0⟩ := cells_w8 (w := wq) (b := F) (v := v) (t := 189) (by rw [HHQ.out]; exact HVR.out)
       obtain ⟨ck, cx⟩ := HCK.out wq HHQ.out
       clear f0
       have HC20 : Hid (∀ u : World, u.heap = wq.heap → u.cell? ⟨F, 7, none⟩ = some (.int .u32 (v.h : Int)) ∧ u.cell? ⟨E, i, none⟩ = some (.int .u32 (k : Int)) ∧ u.cell? ⟨B + 2, i, none⟩ = some (.int .u32 (x : Int))) := Lib.hid (fun u hu => by
        obtain ⟨ck', cx'⟩ := HCK.out u (hu.trans HHQ.out)
        exact ⟨(World.cell?_of_block (a := ⟨F, 7, none⟩) (by rw [hu])).trans c7, ck', cx'⟩)
       have HVQ : Hid (wq.heap[F]? = some (.cells (W8c v).toArray 189 (0, 0))) := Lib.hid (by rw [HHQ.out]; exact HVR.out)
       clear c0 c1 c2 c3 c4 c5 c6 c7 ck cx
       go_upto_region 20 with fail
       refine wp_region_plan [(0, false), (1, false), (2, false), (4, false), (7, false), (11, false), (12, false), (13, false), (14, false), (15, false), (16, false), (17, false), (18, false), (20, false), (21, false), (22, false), (24, false), (25, false), (26, false), (3, true), (5, true), (6, false), (8, true), (9, false), (10, false), (19, false), (23, false), (27, false), (28, false)] (fun u => u.heap = wq.heap) (by kernel_rfl) (by kernel_rfl) rfl ?_
       iterate 19 (refine' plan_val rfl rfl (fun w' hS => ?_) ?_; rotate_left; (focus (obtain ⟨x7', xk', xx'⟩ := HC20.out w' hS; first | (go_simp; rfl) | (go_simp; done))); simp only [Act.put, List.setIfInBounds_toArray, List.set_cons_zero, List.set_cons_succ])
       refine plan_do rfl (fun K hK => ?_)
       go_wp2_with (go_at_call 148; refine (T1.out _).mono ?_; rintro e wa1 ⟨rfl, dr, hdr⟩; have HA1 : Hid (wa1.heap = wq.heap) := Lib.hid (by rw [hdr]; rfl); have HX1 : Hid (Below F w8 wa1) := Lib.hid (by rw [hdr]; exact below_drewN HBQQ.out.drew dr); clear hdr)
       refine hK _ _ HA1.out ?_
       clear hK K
       refine plan_do rfl (fun K hK => ?_)
       go_wp2_with (go_at_call 148; refine (T2.out _).mono ?_; rintro e wa2 ⟨rfl, dr, hdr⟩; have HA2 : Hid (wa2.heap = wq.heap) := Lib.hid (by rw [hdr]; exact HA1.out); have HX2 : Hid (Below F w8 wa2) := Lib.hid (by rw [hdr]; exact below_drewN HX1.out dr); clear hdr)
       refine hK _ _ HA2.out ?_
       clear hK K
       iterate 1 (refine' plan_val rfl rfl (fun w' hS => ?_) ?_; rotate_left; (focus (first | (go_simp; rfl) | (go_simp; done))); simp only [Act.put, List.setIfInBounds_toArray, List.set_cons_zero, List.set_cons_succ])
       refine plan_do rfl (fun K hK => ?_)
       go_wp2_with (go_at_call 148; refine (T3.out _).mono ?_; rintro e wa3 ⟨rfl, dr, hdr⟩; have HA3 : Hid (wa3.heap = wq.heap) := Lib.hid (by rw [hdr]; exact HA2.out); have HX3 : Hid (Below F w8 wa3) := Lib.hid (by rw [hdr]; exact below_drewN HX2.out dr); clear hdr)
       refine hK _ _ HA3.out ?_
       clear hK K
       iterate 6 (refine' plan_val rfl rfl (fun w' hS => ?_) ?_; rotate_left; (focus (first | (go_simp; rfl) | (go_simp; done))); simp only [Act.put, List.setIfInBounds_toArray, List.set_cons_zero, List.set_cons_succ])
       refine plan_nil ?_
       have t4 := fun (u : World) (hu : Below F w8 u ∧ u.heap = wq.heap) => (T4.out u).mono (R' := fun e w' => e = .returned (.int .u32 (q1 : Int)) ∧ Below F w8 w' ∧ w'.heap = wq.heap) (fun e w' ⟨h1, dr, h2⟩ => ⟨h1, by rw [h2]; exact ⟨below_drewN hu.1 dr, hu.2⟩⟩)
       have t5 := fun (u : World) (hu : Below F w8 u ∧ u.heap = wq.heap) => (T5.out u).mono (R' := fun e w' => e = .returned (.int .u32 (q2 : Int)) ∧ Below F w8 w' ∧ w'.heap = wq.heap) (fun e w' ⟨h1, dr, h2⟩ => ⟨h1, by rw [h2]; exact ⟨below_drewN hu.1 dr, hu.2⟩⟩)
       have t6 := fun (u : World) (hu : Below F w8 u ∧ u.heap = wq.heap) => (T6.out u).mono (R' := fun e w' => e = .returned (.int .u32 (q3 : Int)) ∧ Below F w8 w' ∧ w'.heap = wq.heap) (fun e w' ⟨h1, dr, h2⟩ => ⟨h1, by rw [h2]; exact ⟨below_drewN hu.1 dr, hu.2⟩⟩)
       have S4 := Lib.hid t4
       have S5 := Lib.hid t5
       have S6 := Lib.hid t6
       clear t4 t5 t6
       go_wp2_with fail
       refine (S4.out _ ⟨HX3.out, HA3.out⟩).mono ?_
       rintro e wa4 ⟨rfl, hx, ha⟩
       have HX4 := Lib.hid hx
       have HA4 := Lib.hid ha
       clear hx ha
       go_wp2_with fail
       refine (S5.out _ ⟨HX4.out, HA4.out⟩).mono ?_
       rintro e wa5 ⟨rfl, hx, ha⟩
       have HX5 := Lib.hid hx
       have HA5 := Lib.hid ha
       clear hx ha
       go_wp2_with fail
       refine (S6.out _ ⟨HX5.out, HA5.out⟩).mono ?_
       rintro e wa6 ⟨rfl, hx, ha⟩
       have HX6 := Lib.hid hx
       have HA6 := Lib.hid ha
       clear hx ha
       go_upto_region 22 with fail
       have HV6 : Hid (wa6.heap[F]? = some (.cells (W8c v).toArray 189 (0, 0))) := Lib.hid (by rw [HA6.out]; exact HVQ.out)
       obtain ⟨⟨c0, c1, c2, c3, c4, c5, c6, c7⟩, f0⟩ := cells_w8 HV6.out
       clear f0
       go_upto_region 18 with (first | ((with_reducible refine wpList_at (.build 189 #[(0, .tmp 155), (1, .tmp 157), (2, .tmp 159), (3, .tmp 161), (4, .tmp 165), (5, .tmp 167), (6, .tmp 169), (7, .tmp 171)]) rfl ?_); go_loud (refine wpList_val (v := .agg #[.int .u32 (o2 : Int), .int .u32 (v.a : Int), .int .u32 (v.b : Int), .int .u32 (v.c : Int), .int .u32 (o1 : Int), .int .u32 (v.e : Int), .int .u32 (v.f : Int), .int .u32 (v.g : Int)]) (w' := wa6) rfl (w8_build rfl rfl rfl rfl rfl rfl rfl rfl) ?_)) | ((with_reducible refine wpList_at (.store 189 (.tmp 12) (.tmp 172)) rfl ?_); go_loud (refine wpList_store_agg rfl _ _ _ rfl F 0 [.int .u32 (o2 : Int), .int .u32 (v.a : Int), .int .u32 (v.b : Int), .int .u32 (v.c : Int), .int .u32 (o1 : Int), .int .u32 (v.e : Int), .int .u32 (v.f : Int), .int .u32 (v.g : Int)] rfl rfl (there_of HV6.out 8 (by rw [w8_size]; decide)) (by kernel_rfl) rfl ?_)))
       clear c0 c1 c2 c3 c4 c5 c6 c7
       have HV7 : Hid ((wa6.setCells F 0 [.int .u32 (o2 : Int), .int .u32 (v.a : Int), .int .u32 (v.b : Int), .int .u32 (v.c : Int), .int .u32 (o1 : Int), .int .u32 (v.e : Int), .int .u32 (v.f : Int), .int .u32 (v.g : Int)]).heap[F]? = some (.cells (W8c (rnds s ws (i + 1))).toArray 189 (0, 0))) := Lib.hid (by rw [HRN.out, HR.out, w8_lit]; exact putL_heap (cs := W8c v) HV6.out _ (by rw [w8_len]; rfl))
       have HB7 : Hid (Below F w8 (wa6.setCells F 0 [.int .u32 (o2 : Int), .int .u32 (v.a : Int), .int .u32 (v.b : Int), .int .u32 (v.c : Int), .int .u32 (o1 : Int), .int .u32 (v.e : Int), .int .u32 (v.f : Int), .int .u32 (v.g : Int)])) := Lib.hid (putL_below (Nat.le_refl _) _ _ _ HX6.out)
       go_wp2_with fail
       go_roundw
       case rel => exact ⟨i + 1, by omega, by go_num, HV7, HB7⟩
       case measure => simp [intOf]; omega
     · obtain rfl : i = 64 := by omega
       have e2 : ¬ (64 : Int) < 64 := by omega
       go_wp2_with fail
       go_meet
       case rel => exact ⟨HVR, HBR⟩
   case rest =>
    obtain ⟨HV9, HB9⟩ := hcut
    obtain ⟨w9, hw9⟩ : ∃ u, u = wc := ⟨_, rfl⟩
    rw [← hw9] at HV9 HB9 ⊢
    clear hw9
    obtain ⟨v, hv⟩ : ∃ v, rnds s ws 64 = v := ⟨_, rfl⟩
    have HMX : Hid (plus8 s v = mixN s blk) := Lib.hid (by rw [← hv, ← HWX.out]; rfl)
    rw [hv] at HV9
    clear hv
    have HS9 : Hid (w9.heap[B]? = some (.cells ((plusL s v 0).map uv).toArray 189 (0, 0))) := Lib.hid (by rw [plusL_zero]; exact (HCU.out w9 HB9.out).2.2)
    have HR9 : Hid (w9.heap[B + 1]? = some (.cells (W8c ⟨0, 0, 0, 0, 0, 0, 0, 0⟩).toArray 189 (0, 0))) := Lib.hid (by
     have h1 := HFE.out
     have h2 := HE3.out
     exact (HB9.out.block (B + 1) (by omega)).trans ((HU8.out.block (B + 1) (by omega)).trans ((HB5.out.block (B + 1) (by omega)).trans HR3.out)))
    have HBW : Hid (Below B w w9) := Lib.hid (by
     have h1 := HFE.out
     have h2 := HE3.out
     exact HB3.out.trans ((HB5.out.mono (by omega)).trans ((HU8.out.mono (by omega)).trans (HB9.out.mono (by omega)))))
    have HFB : Hid (B + 2 < F) := Lib.hid (by have h1 := HFE.out; have h2 := HE3.out; omega)
    go_upto_block 8 with fail
    go_cut [] from 22 to 185 (fun wr => Hid (wr.heap[B]? = some (.cells (W8c (mixN s blk)).toArray 189 (0, 0))) ∧ Hid (Fr [B] w9 wr))
    case first => as_aux_lemma =>
     go_wp2_with fail
     go_loopw [22] (fun iv wr => ∃ j : Nat, j ≤ 8 ∧ iv = .int .i64 (j : Int) ∧ Hid (wr.heap[B]? = some (.cells ((plusL s v j).map uv).toArray 189 (0, 0))) ∧ Hid (Fr [B] w9 wr)) (fun iv _ => 8 - (intOf iv).toNat)
     case atStart => exact ⟨0, Nat.zero_le _, rfl, HS9, Lib.hid (Fr.refl _ _)⟩
     case round =>
      obtain ⟨j, hj, rfl, HHR, HFR⟩ := hrel
      by_cases hlt : j < 8
      · have b1 : (0 : Int) ≤ j := by omega
        have b2 : (j : Int) < 8 := by omega
        obtain ⟨x, hx⟩ : ∃ x, s.l.getD j 0 = x := ⟨_, rfl⟩
        obtain ⟨y, hy⟩ : ∃ y, v.l.getD j 0 = y := ⟨_, rfl⟩
        have c1 : wr.cell? ⟨B, j, none⟩ = some (.int .u32 (x : Int)) := by
         rw [cell_of_row wr B j _ _ _ HHR.out, List.getElem?_toArray, plusW_get s v hlt, hx]; rfl
        have c2 : wr.cell? ⟨F, j, none⟩ = some (.int .u32 (y : Int)) := by
         rw [cell_of_row wr F j _ _ _ ((HFR.out.block F (Array.getElem?_eq_some_iff.1 HV9.out).1 (by have := HFB.out; rw [List.mem_singleton]; omega)).trans HV9.out), List.getElem?_toArray, w8_get v hlt, hy]; rfl
        have f1 : wr.frozen? ⟨B, j, none⟩ = false := frozen_of_row wr B j _ _ HHR.out
        have s1 := add_bits x y
        obtain ⟨z, hz⟩ : ∃ z, add32 x y = z := ⟨_, rfl⟩
        rw [hz] at s1
        have HST : Hid (∀ u : World, u.heap[B]? = some (.cells ((plusL s v j).map uv).toArray 189 (0, 0)) → (u.setCell ⟨B, j, none⟩ (.int .u32 (z : Int))).heap[B]? = some (.cells ((plusL s v (j + 1)).map uv).toArray 189 (0, 0))) := Lib.hid (fun u hu => by
         rw [heap_setCell_same u B j _ _ _ hu, List.setIfInBounds_toArray, ← plusW_set s v hlt, hx, hy, hz]; rfl)
        clear hx hy hz
        go_upto_region 26 with fail
        go_still_tail 9, (by kernel_rfl)
        go_wp2_with fail
        go_roundw
        case rel => exact ⟨j + 1, by omega, by go_num, Lib.hid (HST.out _ HHR.out), Lib.hid (HFR.out.trans ((Fr.setCell _ (by simp) _).trans (Fr.drew _ _)))⟩
        case measure => simp [intOf]; omega
      · obtain rfl : j = 8 := by omega
        have e2 : ¬ (8 : Int) < 8 := by omega
        go_wp2_with fail
        go_meet
        case rel => exact ⟨Lib.hid (by rw [← HMX.out]; exact HHR.out), HFR⟩
    case rest => as_aux_lemma =>
     obtain ⟨HSF, HFF⟩ := hcut
     obtain ⟨w11, hw11⟩ : ∃ u, u = wc := ⟨_, rfl⟩
     rw [← hw11] at HSF HFF ⊢
     clear hw11
     obtain ⟨M, hM⟩ : ∃ M, mixN s blk = M := ⟨_, rfl⟩
     have HMQ := Lib.hid hM
     rw [hM] at HSF
     clear hM HMX
     have HRF : Hid (w11.heap[B + 1]? = some (.cells (W8c ⟨0, 0, 0, 0, 0, 0, 0, 0⟩).toArray 189 (0, 0))) := Lib.hid ((HFF.out.block (B + 1) (Array.getElem?_eq_some_iff.1 HR9.out).1 (by rw [List.mem_singleton]; omega)).trans HR9.out)
     have HBF : Hid (Below B w w11) := Lib.hid (HBW.out.trans ⟨HFF.out.os, HFF.out.tape, HFF.out.output, HFF.out.size, fun k hk => HFF.out.block k (by have h1 := (Array.getElem?_eq_some_iff.1 HV9.out).1; have h2 := HFB.out; omega) (by rw [List.mem_singleton]; omega)⟩)
     go_wp2_with (first
       | ((with_reducible refine wpList_at (.load 189 (.tmp 2)) rfl ?_); go_loud (refine wpList_load_mid rfl 189 _ rfl B 0 rfl (W8c M) _ (range_row HSF.out) Tryz.underlying189 rfl (by kernel_rfl) ?_))
       | ((with_reducible refine wpList_at (.store 189 (.tmp 4) (.tmp 186)) rfl ?_); go_loud (refine wpList_store_agg rfl _ _ _ rfl (B + 1) 0 (W8c M) rfl rfl (there_of HRF.out 8 (by show 0 + 8 ≤ 8; decide)) (by kernel_rfl) rfl ?_)))
     refine bodyPost_ret (res_w8 rfl _ rfl (putL_heap (cs := W8c ⟨0, 0, 0, 0, 0, 0, 0, 0⟩) HRF.out (W8c M) rfl) rfl) rfl ?_
     rw [HMQ.out]
     exact ⟨rfl, by rw [HBQ.out]; exact putL_below (Nat.le_succ _) _ _ _ HBF.out⟩
theorem sixty (b : Str) (k : Nat) (h : 64 * (k + 1) ≤ b.length) : ((b.drop (64 * k)).take 64).length = 64 := by rw [List.length_take, List.length_drop]; omega
theorem putL_fr {F : List Nat} {g : Nat} (hg : g ∈ F) : ∀ (vs : List Value) (w : World) (i : Nat), Fr F w (w.setCells g i vs)
 | [], _, _ => Fr.refl _ _
 | v :: vs, w, i => (Fr.setCell w (a := ⟨g, i, none⟩) hg v).trans (putL_fr hg vs _ _)
set_option maxRecDepth 100000 in
set_option maxHeartbeats 16000000 in
theorem r1Of_any {T : Nat → Prop} (bs : Str) (src : Value) (w : World) (h : RowAt T w src (bs.map bv)) (hT : ∀ k, T k → k < w.heap.size) (hl : bs.length ≤ 17592186044416) :
  Calls Tryz.prog 64 #[src] w fun e w' => DigQ (shaM bs) w e w' := by
 obtain ⟨B, hB⟩ : ∃ B, w.heap.size = B := ⟨_, rfl⟩
 have HBQ := Lib.hid hB
 obtain ⟨w1, hw1⟩ : ∃ u, w.alloc (.cells (pad32 []).toArray 78) = u := ⟨_, rfl⟩
 have HD1 : Hid (w1.heap[B]? = some (.cells (pad32 []).toArray 78 (0, 0))) := Lib.hid (by rw [← hw1, ← hB]; exact heap_alloc_new _ _)
 have HB1 : Hid (Below B w w1) := Lib.hid (by rw [← hw1, ← hB]; exact (Below.refl _ _).alloc (Nat.le_refl _) _)
 have HZ1 : Hid (w1.heap.size = B + 1) := Lib.hid (by rw [← hw1, ← hB]; simp)
 obtain ⟨w2, hw2⟩ : ∃ u, (w1.alloc (.cells #[.int .u32 0, .int .u32 0, .int .u32 0, .int .u32 0, .int .u32 0, .int .u32 0, .int .u32 0, .int .u32 0] 189)).setCells (B + 1) 0 (W8c V8i) = u := ⟨_, rfl⟩
 have HS2 : Hid (w2.heap[B + 1]? = some (.cells (W8c V8i).toArray 189 (0, 0))) := Lib.hid (by rw [← hw2, ← HZ1.out]; exact putL_heap (cs := [.int .u32 0, .int .u32 0, .int .u32 0, .int .u32 0, .int .u32 0, .int .u32 0, .int .u32 0, .int .u32 0]) (heap_alloc_new _ _) _ rfl)
 have HU2 : Hid (Below (B + 1) w1 w2) := Lib.hid (by rw [← hw2, ← HZ1.out]; exact putL_below (Nat.le_refl _) _ _ _ ((Below.refl _ _).alloc (Nat.le_refl _) _))
 have HZ2 : Hid (w2.heap.size = B + 2) := Lib.hid (by rw [← hw2, putL_size]; simp [HZ1.out])
 have HB2 : Hid (Below B w w2) := Lib.hid (HB1.out.trans (HU2.out.mono (Nat.le_succ B)))
 have HFL := Lib.hid (r1filled_any (T := T) bs src w2 (h.cong (fun _ hk => hk) (fun k hk => HB2.out.block k (by rw [← hB]; exact hT k hk))) (fun k hk => by have := hT k hk; rw [HZ2.out]; omega) hl)
 have HW1 := Lib.hid hw1
 have HW2 := Lib.hid hw2
 have HL := Lib.hid hl
 clear hB hw1 hw2 h hT hl
 go_enter Tryz.func64, Tryz.ntmps64
 go_upto_region 2 with (first
   | ((with_reducible refine wpList_at (.alloc 78) rfl ?_); refine wpList_alloc_cells rfl _ rfl _ zero32 ?_; rw [HW1.out])
   | ((with_reducible refine wpList_at (.build 189 #[(0, .const (.int .u32 1779033703)), (1, .const (.int .u32 3144134277)), (2, .const (.int .u32 1013904242)), (3, .const (.int .u32 2773480762)), (4, .const (.int .u32 1359893119)), (5, .const (.int .u32 2600822924)), (6, .const (.int .u32 528734635)), (7, .const (.int .u32 1541459225))]) rfl ?_); go_loud (refine wpList_val (v := .agg (W8c V8i).toArray) (w' := w1) rfl (by kernel_rfl) ?_))
   | ((with_reducible refine wpList_at (.store 189 (.tmp 3) (.tmp 8)) rfl ?_); go_loud (refine wpList_store_agg rfl _ _ _ rfl w1.heap.size 0 (W8c V8i) rfl rfl (there_of (heap_alloc_new w1 (.cells #[.int .u32 0, .int .u32 0, .int .u32 0, .int .u32 0, .int .u32 0, .int .u32 0, .int .u32 0, .int .u32 0] 189)) 8 (by decide)) (by kernel_rfl) rfl ?_)))
 rw [HZ1.out, HW2.out, HBQ.out]
 go_upto_region 3 with (go_at_call 108; refine HFL.out.mono ?_; unfold FillQ; rw [HZ2.out]; rintro e w3 ⟨fv, rfl, ho, hb⟩; have HO3 := Lib.hid ho; have HU3 := Lib.hid hb; clear ho hb)
 obtain ⟨F, hF⟩ : ∃ F, filled bs = F := ⟨_, rfl⟩
 have HFQ := Lib.hid hF
 obtain ⟨N, hN⟩ : ∃ N, F.length = 64 * N := ⟨F.length / 64, by have := filled_len bs; rw [hF] at this; omega⟩
 have hlen : F.length = bs.length + (9 + padZ bs.length) := by rw [← hF]; unfold filled; rw [List.length_append, shaT_len]
 have hpz := padZ_lt bs.length
 have hL := HL.out
 have hO3 := HO3.out
 rw [hF] at hO3
 unfold OwnS at hO3
 obtain ⟨fb, cap, cur, rfl, hfb, hrow, hcap1, hcap2, _, _⟩ := own_form hO3 (by omega) (by decide)
 have HFB : Hid (B + 2 ≤ fb ∧ fb < w3.heap.size) := Lib.hid ⟨hfb, (Array.getElem?_eq_some_iff.1 hrow).1⟩
 have HFC : Hid (∀ i c, F[i]? = some c → w3.cell? ⟨fb, i, none⟩ = some (bv c)) := Lib.hid (fun i c hi => own_cell hO3 (by rw [List.getElem?_map, hi]; rfl))
 unfold maxLen at hcap2
 obtain ⟨L, hLL⟩ : ∃ L, F.length = L := ⟨_, rfl⟩
 rw [hLL] at hlen hcap1 hN ⊢
 have HN : Hid (L = 64 * N) := Lib.hid hN
 have HLL := Lib.hid hLL
 have hLB : L ≤ 17592186044600 := by omega
 have HS3 : Hid (w3.heap[B + 1]? = some (.cells (W8c V8i).toArray 189 (0, 0))) := Lib.hid ((HU3.out.block (B + 1) (by omega)).trans HS2.out)
 clear hF hN hlen hpz hL hO3 hfb hrow hLL HO3
 go_upto_block 0 with fail
 go_cut [] from 5 to 23 (fun wr => Hid (wr.heap[B + 1]? = some (.cells (W8c (mixB V8i F N)).toArray 189 (0, 0))) ∧ Hid (Fr [B + 1] w3 wr))
 case first => as_aux_lemma =>
  go_wp2_with fail
  go_loopw [5] (fun iv wr => ∃ k m : Nat, k ≤ N ∧ m = 64 * k ∧ iv = .int .i64 (m : Int) ∧ Hid (wr.heap[B + 1]? = some (.cells (W8c (mixB V8i F k)).toArray 189 (0, 0))) ∧ Hid (Fr [B + 1] w3 wr)) (fun iv _ => L - (intOf iv).toNat)
  case atStart => exact ⟨0, 0, Nat.zero_le _, rfl, rfl, HS3, Lib.hid (Fr.refl _ _)⟩
  case round =>
   obtain ⟨k, m, hk, hm, rfl, HSR, HFR⟩ := hrel
   have hNL := HN.out
   by_cases hlt : k < N
   · have b1 : (0 : Int) ≤ m := by omega
     have b2 : (m : Int) < L := by omega
     obtain ⟨s, hs⟩ : ∃ s, mixB V8i F k = s := ⟨_, rfl⟩
     rw [hs] at HSR
     have HOK : Hid s.ok := Lib.hid (by rw [← hs]; exact mixB_ok V8i_ok F k)
     have HNX : Hid (mixB V8i F (k + 1) = mixN s ((F.drop m).take 64)) := Lib.hid (by rw [← hs, hm]; rfl)
     have b3 : (m : Int) + 64 ≤ (cap : Int) := by omega
     have b4 : (m : Int) ≤ (m : Int) + 64 := by omega
     have g1 : IntKind.i64.wrap ((m : Int) + 64) = (m : Int) + 64 := IntWalk.i64_in _ (by omega)
     have n1 : ((m : Int) + 64).toNat = m + 64 := by omega
     have n2 : m + 64 - m = 64 := by omega
     have b5 : (0 : Int) ≤ (m : Int) + 64 := by omega
     have b6 : max ((m : Int) + 64) 0 = (m : Int) + 64 := by omega
     have n0 : (m : Int).toNat = m := by omega
     have n3 : ¬ cap = m := by omega
     have HMK := Lib.hid hm
     have HNL := Lib.hid hNL
     clear hs hm hNL
     go_upto_region 6 with fail
     refine wp_region_planF 7 [(0, false), (1, false), (2, false), (3, false), (4, false), (5, false), (6, true), (7, true)] (fun u => u.heap[B + 1]? = some (.cells (W8c s).toArray 189 (0, 0))) (by kernel_rfl) (by kernel_rfl) HSR.out ?_
     iterate 1 (refine' planF_val rfl rfl (fun w' hS => ?_) ?_; rotate_left; (focus (obtain ⟨⟨c0, c1, c2, c3, c4, c5, c6, c7⟩, _⟩ := cells_w8 hS; first | (go_simp; rfl) | (go_simp; done))); simp only [Act.put, List.setIfInBounds_toArray, List.set_cons_zero, List.set_cons_succ])
     iterate 4 (refine' planF_val rfl rfl (fun w' hS => ?_) ?_; rotate_left; (focus (first | (go_simp; rfl) | (go_simp; done))); simp only [Act.put, List.setIfInBounds_toArray, List.set_cons_zero, List.set_cons_succ])
     iterate 1 (refine' planF_val rfl rfl (fun w' hS => ?_) ?_; rotate_left; (focus (first | (go_simp; rfl) | (go_simp; done))); simp only [Act.put, List.setIfInBounds_toArray, List.set_cons_zero, List.set_cons_succ])
     obtain ⟨blk, hblk⟩ : ∃ b, (F.drop m).take 64 = b := ⟨_, rfl⟩
     have hbl : blk.length = 64 := by rw [← hblk, HMK.out]; exact sixty F k (by have h1 := HLL.out; have h2 := HNL.out; rw [h1, h2]; omega)
     have HMX := Lib.hid (r1mix_any s HOK.out blk hbl fb m (cap - m) wr.drew (fun i c hc => by
      have h1 : F[m + i]? = some c := by
       rw [← hblk, List.getElem?_take] at hc
       split at hc
       · rw [List.getElem?_drop] at hc; exact hc
       · cases hc
      exact (World.cell?_of_block (a := ⟨fb, m + i, none⟩) (HFR.out.block fb HFB.out.2 (by have := HFB.out.1; rw [List.mem_singleton]; omega))).trans (HFC.out _ _ h1)))
     rw [hblk] at HNX
     obtain ⟨M, hM⟩ : ∃ M, mixN s blk = M := ⟨_, rfl⟩
     rw [hM] at HMX HNX
     clear hblk hbl hM
     refine planF_do rfl (fun K hK => ?_)
     go_wp2_with (go_at_call 109; refine HMX.out.mono ?_; rintro e w4 ⟨rfl, hb⟩; have HU4 := Lib.hid hb; clear hb)
     have HS4 : Hid (w4.heap[B + 1]? = some (.cells (W8c s).toArray 189 (0, 0))) := Lib.hid ((HU4.out.block (B + 1) (Array.getElem?_eq_some_iff.1 HSR.out).1).trans HSR.out)
     refine hK _ _ (.inr HS4.out) ?_
     clear hK K
     refine planF_do rfl (fun K hK => ?_)
     go_wp2_with ((with_reducible refine wpList_at (.store 189 (.tmp 3) (.tmp 23)) rfl ?_); go_loud (refine wpList_store_agg rfl _ _ _ rfl (B + 1) 0 (W8c M) rfl rfl (there_of HS4.out 8 (by rw [w8_size]; decide)) (by kernel_rfl) rfl ?_))
     refine hK _ _ (.inl trivial) ?_
     clear hK K
     refine planF_nil ?_
     have HS5 : Hid ((w4.setCells (B + 1) 0 (W8c M)).heap[B + 1]? = some (.cells (W8c (mixB V8i F (k + 1))).toArray 189 (0, 0))) := Lib.hid (by rw [HNX.out]; exact putL_heap (cs := W8c s) HS4.out _ (by rw [w8_len, w8_len]))
     have HF5 : Hid (Fr [B + 1] w3 (w4.setCells (B + 1) 0 (W8c M))) := Lib.hid ((((HFR.out.trans (Fr.drew _ wr))).then_below HU4.out (by have h1 := (HFR.out.trans (Fr.drew _ wr)).size; exact h1)).trans (putL_fr (by simp) _ _ _))
     clear g1 n1 n2 b3 b4 b5 b6 n0 n3
     have g1 : IntKind.i64.wrap ((m : Int) + 64) = (m : Int) + 64 := IntWalk.i64_in _ (by omega)
     go_wp2_with fail
     go_roundw
     case rel => exact ⟨k + 1, m + 64, by omega, by have := HMK.out; omega, by go_num, HS5, HF5⟩
     case measure => simp [intOf]; omega
   · have hkN : k = N := by omega
     have b2 : ¬ (m : Int) < L := by omega
     have HSN : Hid (wr.heap[B + 1]? = some (.cells (W8c (mixB V8i F N)).toArray 189 (0, 0))) := Lib.hid (by rw [← hkN]; exact HSR.out)
     clear hm hNL hkN
     go_wp2_with fail
     go_meet
     case rel => exact ⟨HSN, HFR⟩
 case rest =>
  obtain ⟨HS6, HF6⟩ := hcut
  obtain ⟨w6, hw6⟩ : ∃ u, u = wc := ⟨_, rfl⟩
  rw [← hw6] at HS6 HF6 ⊢
  clear hw6
  obtain ⟨v, hv⟩ : ∃ v, mixB V8i F N = v := ⟨_, rfl⟩
  have HV : Hid (dig v = shaM bs) := Lib.hid (by
   rw [← hv]
   unfold shaM
   rw [filled_ref, HFQ.out, HLL.out, HN.out, Nat.mul_div_cancel_left _ (by decide)])
  have HVK : Hid v.ok := Lib.hid (by rw [← hv]; exact mixB_ok V8i_ok F N)
  rw [hv] at HS6
  clear hv
  have hz3 : B + 2 ≤ w3.heap.size := by have h1 := HU3.out.size; rw [HZ2.out] at h1; exact h1
  have HD6 : Hid (w6.heap[B]? = some (.cells (pad32 []).toArray 78 (0, 0))) := Lib.hid ((HF6.out.block B (by omega) (by rw [List.mem_singleton]; omega)).trans ((HU3.out.block B (by omega)).trans ((HU2.out.block B (by omega)).trans HD1.out)))
  have HB6 : Hid (Below B w w6) := Lib.hid (HB2.out.trans ((HU3.out.mono (by omega)).trans ⟨HF6.out.os, HF6.out.tape, HF6.out.output, HF6.out.size, fun k hk => HF6.out.block k (by omega) (by rw [List.mem_singleton]; omega)⟩))
  obtain ⟨D, hD⟩ : ∃ D, w6.heap.size = D := ⟨_, rfl⟩
  obtain ⟨w7, hw7⟩ : ∃ u, w6.alloc (.cells (pad32 []).toArray 78) = u := ⟨_, rfl⟩
  have HE7 : Hid (w7.heap[D]? = some (.cells (pad32 ((dig v).take 0)).toArray 78 (0, 0))) := Lib.hid (by rw [← hw7, ← hD]; exact heap_alloc_new _ _)
  have HU7 : Hid (Below D w6 w7) := Lib.hid (by rw [← hw7, ← hD]; exact (Below.refl _ _).alloc (Nat.le_refl _) _)
  have HDB : Hid (B + 2 ≤ D) := Lib.hid (by have h1 := HF6.out.size; rw [hD] at h1; omega)
  have HS7 : Hid (w7.heap[B + 1]? = some (.cells (W8c v).toArray 189 (0, 0))) := Lib.hid ((HU7.out.block (B + 1) (by have := HDB.out; omega)).trans HS6.out)
  have HD7 : Hid (w7.heap[B]? = some (.cells (pad32 []).toArray 78 (0, 0))) := Lib.hid ((HU7.out.block B (by have := HDB.out; omega)).trans HD6.out)
  have HB7 : Hid (Below B w w7) := Lib.hid (HB6.out.trans (HU7.out.mono (by have := HDB.out; omega)))
  go_upto_region 8 with ((with_reducible refine wpList_at (.alloc 78) rfl ?_); refine wpList_alloc_cells rfl _ rfl _ zero32 ?_)
  try simp only [Act.put, List.setIfInBounds_toArray, List.set_cons_zero, List.set_cons_succ]
  rw [hw7, hD]
  clear hw7 hD hz3
  go_wp2_with fail
  go_loopw [7] (fun i wr => ∃ k : Nat, k ≤ 32 ∧ i = .int .i64 (k : Int) ∧ Hid (wr.heap[D]? = some (.cells (pad32 ((dig v).take k)).toArray 78 (0, 0))) ∧ Hid (Fr [D] w7 wr)) (fun i _ => 32 - (intOf i).toNat)
  case atStart => exact ⟨0, Nat.zero_le _, rfl, HE7, Lib.hid (Fr.refl _ _)⟩
  case round =>
   obtain ⟨k, hk, rfl, HER, HFR⟩ := hrel
   by_cases hlt : k < 32
   · have b1 : (0 : Int) ≤ k := by omega
     have b2 : (k : Int) < 32 := by omega
     obtain ⟨j, hj⟩ : ∃ j, k / 4 = j := ⟨_, rfl⟩
     obtain ⟨r, hr⟩ : ∃ r, k % 4 = r := ⟨_, rfl⟩
     obtain ⟨sh, hsh⟩ : ∃ sh, 24 - k % 4 * 8 = sh := ⟨_, rfl⟩
     obtain ⟨r8, hr8⟩ : ∃ r8, r * 8 = r8 := ⟨_, rfl⟩
     have g1 : (k : Int) / 4 = (j : Int) := by omega
     have g2 : (k : Int) % 4 = (r : Int) := by omega
     have g3 : IntKind.i64.wrap ((r : Int) * 8) = (r8 : Int) := by rw [IntWalk.i64_in _ (by omega)]; omega
     have g4 : IntKind.i64.wrap (24 - (r8 : Int)) = (sh : Int) := by rw [IntWalk.i64_in _ (by omega)]; omega
     have g5 : (k : Int).tdiv 4 = (j : Int) := by rw [Int.tdiv_eq_ediv_of_nonneg (by omega)]; exact g1
     have g6 : (k : Int).tmod 4 = (r : Int) := by rw [Int.tmod_eq_emod_of_nonneg (by omega)]; exact g2
     have b3 : (j : Int) < 8 := by omega
     have b3n : j < 8 := by omega
     have hs64 : sh ≤ 24 := by omega
     obtain ⟨x, hx⟩ : ∃ x, v.l.getD j 0 = x := ⟨_, rfl⟩
     have hxl : x < 4294967296 := by
      rw [← hx]
      have h8 : Wds v.l := by
       have h := HVK.out
       intro y hy
       simp only [V8.l, List.mem_cons, List.not_mem_nil, or_false] at hy
       rcases hy with rfl | rfl | rfl | rfl | rfl | rfl | rfl | rfl
       · exact h.1
       · exact h.2.1
       · exact h.2.2.1
       · exact h.2.2.2.1
       · exact h.2.2.2.2.1
       · exact h.2.2.2.2.2.1
       · exact h.2.2.2.2.2.2.1
       · exact h.2.2.2.2.2.2.2
      exact getD_lt h8 j
     have cw : wr.cell? ⟨B + 1, j, none⟩ = some (.int .u32 (x : Int)) := by
      rw [cell_of_row wr (B + 1) j _ _ _ ((HFR.out.block (B + 1) (Array.getElem?_eq_some_iff.1 HS7.out).1 (by have := HDB.out; rw [List.mem_singleton]; omega)).trans HS7.out), List.getElem?_toArray, w8_get v b3n, hx]; rfl
     obtain ⟨cc, hcc⟩ : ∃ c, UInt8.ofNat (x / 2 ^ sh) = c := ⟨_, rfl⟩
     have g7 : (x : Int) / 2 ^ sh % 256 = (cc.toNat : Int) := by rw [← hcc, ← bv_shr, Int.natCast_ediv, Int.natCast_pow]; rfl
     have hlen : ((dig v).take k).length = k := by rw [List.length_take, dig_len]; omega
     have HNXT : Hid ((dig v).take k ++ [cc] = (dig v).take (k + 1)) := Lib.hid (by
      have e : (dig v)[k]? = some cc := by rw [← hcc, ← hx, ← hj, ← hsh]; simp [dig, hlt]
      rw [List.take_add_one, e]; rfl)
     have HLEN := Lib.hid hlen
     have cz := pad32_zero HER.out hlen hlt
     have fz : wr.frozen? ⟨D, k, none⟩ = false := frozen_of_row wr D k _ _ HER.out
     clear hj hr hsh hr8 hx hcc hlen
     go_wp2_with fail
     go_roundw
     case rel => exact ⟨k + 1, by omega, by go_num, Lib.hid (by rw [← HNXT.out]; exact pad32_store HER.out HLEN.out hlt cc), Lib.hid (HFR.out.trans (Fr.setCell _ (by simp) _))⟩
     case measure => simp [intOf]; omega
   · obtain rfl : k = 32 := by omega
     rw [List.take_of_length_le (by rw [dig_len]; omega), pad32_full (dig_len v)] at HER
     have HDR : Hid (wr.heap[B]? = some (.cells (pad32 []).toArray 78 (0, 0))) := Lib.hid ((HFR.out.block B (Array.getElem?_eq_some_iff.1 HD7.out).1 (by have := HDB.out; rw [List.mem_singleton]; omega)).trans HD7.out)
     have HBR : Hid (Below B w wr) := Lib.hid (HB7.out.trans ⟨HFR.out.os, HFR.out.tape, HFR.out.output, HFR.out.size, fun k hk => HFR.out.block k (by have h1 := (Array.getElem?_eq_some_iff.1 HD7.out).1; omega) (by have := HDB.out; rw [List.mem_singleton]; omega)⟩)
     obtain ⟨cs, hcs⟩ : ∃ cs, (dig v).map bv = cs := ⟨_, rfl⟩
     have hcl : cs.length = 32 := by rw [← hcs, List.length_map, dig_len]
     have hc1 : cs.all (·.oneCell') = true := by rw [← hcs]; exact bytes_one _
     rw [hcs] at HER
     have HCS := Lib.hid hcs
     have HCL := Lib.hid hcl
     have HC1 := Lib.hid hc1
     clear hcs hcl hc1
     go_wp2_with (first | ((with_reducible refine wpList_at (.load 78 (.tmp 6)) rfl ?_); go_loud (refine wpList_load_mid rfl 78 _ rfl D 0 rfl cs _ (range_row HER.out) Tryz.underlying78 rfl (by rw [HCL.out]; kernel_rfl) ?_)) | ((with_reducible refine wpList_at (.store 78 (.tmp 2) (.tmp 40)) rfl ?_); go_loud (refine wpList_store_agg rfl _ _ _ rfl B 0 cs rfl rfl (by rw [HCL.out]; exact there_of HDR.out 32 (by decide)) (by rw [HCL.out]; kernel_rfl) HC1.out ?_)))
     refine bodyPost_ret (res_dig rfl _ rfl (putL_heap (cs := pad32 []) HDR.out cs (by rw [HCL.out]; rfl)) HCL.out) rfl ?_
     refine ⟨by rw [← HCS.out, HV.out], ?_⟩
     rw [HBQ.out]
     exact putL_below (Nat.le_refl _) _ _ _ HBR.out
theorem xor_u8 (a b : UInt8) : bits .xor .u8 (a.toNat : Int) (b.toNat : Int) = ((a ^^^ b).toNat : Int) := by
 rw [UInt8.toNat_xor]
 exact u8_xor_nat _ _ a.toNat_lt b.toNat_lt
set_option maxRecDepth 100000 in
set_option maxHeartbeats 16000000 in
theorem r2block_any {T : Nat → Prop} (key : Str) (c : UInt8) (src : Value) (w : World) (h : RowAt T w src (key.map bv)) (hT : ∀ k, T k → k < w.heap.size) (hl : key.length ≤ 17592186044416) :
  Calls Tryz.prog 65 #[src, .int .u8 (c.toNat : Int)] w fun e w' => FillQ (blkM key c) w e w' := by
 obtain ⟨B, hB⟩ : ∃ B, w.heap.size = B := ⟨_, rfl⟩
 have HBQ := Lib.hid hB
 obtain ⟨ao, cap, rfl, h1, h2⟩ := h.form
 rw [List.length_map] at h1 h ⊢
 unfold maxLen at h2
 obtain ⟨n, hn⟩ : ∃ n, key.length = n := ⟨_, rfl⟩
 rw [hn] at h1 hl h ⊢
 have HN := Lib.hid hn
 have HR0 : Hid (RowAt (fun k => k < B) w (.slice ao n cap) (key.map bv)) := Lib.hid (h.cong (fun k hk => by rw [← hB]; exact hT k hk) (fun _ _ => rfl))
 obtain ⟨cn, hcn⟩ : ∃ m, c.toNat = m := ⟨_, rfl⟩
 have HCN := Lib.hid hcn
 rw [hcn]
 clear hB h hT hn hcn
 go_enter Tryz.func65, Tryz.ntmps65
 go_upto_if 11 with fail
 go_cut [0] from 5 to 14 (fun kv wr => Hid (RowAt (fun k => k < wr.heap.size) wr kv ((keyB key).map bv)) ∧ Hid (Below B w wr))
 case first => as_aux_lemma =>
  by_cases hlong : 64 < n
  · have b1 : (64 : Int) < (n : Int) := by omega
    have b1d : decide ((64 : Int) < (n : Int)) = true := decide_eq_true b1
    have HOF := Lib.hid (r1Of_any key (.slice ao n cap) w HR0.out (fun k hk => by rw [HBQ.out]; exact hk) (by rw [HN.out]; exact hl))
    obtain ⟨cs, hcs⟩ : ∃ cs, (shaM key).map bv = cs := ⟨_, rfl⟩
    have hcl : cs.length = 32 := by rw [← hcs, List.length_map, shaM_len]
    have hc1 : cs.all (·.oneCell') = true := by rw [← hcs]; exact bytes_one _
    have HKB : Hid ((keyB key).map bv = cs) := Lib.hid (by rw [← hcs]; unfold keyB; rw [if_pos (by rw [HN.out]; exact hlong)])
    have HCS := Lib.hid hcs
    have HCL := Lib.hid hcl
    have HCO := Lib.hid hc1
    clear hcs hcl hc1 hlong
    go_wp2_with fail
    refine HOF.out.mono ?_
    unfold DigQ
    rw [HCS.out, HBQ.out]
    rintro e w2 ⟨rfl, hb⟩
    obtain ⟨D, hD⟩ : ∃ D, w2.heap.size = D := ⟨_, rfl⟩
    have HBD : Hid (B ≤ D) := Lib.hid (by have := hb.size; rw [HBQ.out, hD] at this; exact this)
    obtain ⟨w3, hw3⟩ : ∃ u, w2.alloc (.cells (pad32 []).toArray 78) = u := ⟨_, rfl⟩
    have HD3 : Hid (w3.heap[D]? = some (.cells (pad32 []).toArray 78 (0, 0))) := Lib.hid (by rw [← hw3, ← hD]; exact heap_alloc_new _ _)
    have HU3 : Hid (Below B w w3) := Lib.hid (by rw [← hw3]; exact hb.alloc (by rw [hD]; exact HBD.out) _)
    have HW3 := Lib.hid hw3
    have HDQ := Lib.hid hD
    clear hb hD hw3 HOF
    go_upto_region 3 with (first
      | ((with_reducible refine wpList_at (.alloc 78) rfl ?_); go_loud (refine wpList_alloc_cells rfl _ rfl _ zero32 ?_); rw [HW3.out, HDQ.out])
      | ((with_reducible refine wpList_at (.store 78 (.tmp 5) (.tmp 13)) rfl ?_); go_loud (refine wpList_store_agg rfl _ _ _ rfl D 0 cs rfl rfl (by rw [HCL.out]; exact there_of HD3.out 32 (by decide)) (by rw [HCL.out]; kernel_rfl) HCO.out ?_)))
    obtain ⟨w4, hw4⟩ : ∃ u, w3.setCells D 0 cs = u := ⟨_, rfl⟩
    have HD4 : Hid (w4.heap[D]? = some (.cells cs.toArray 78 (0, 0))) := Lib.hid (by rw [← hw4]; exact putL_heap (cs := pad32 []) HD3.out cs (by rw [HCL.out]; rfl))
    have HU4 : Hid (Below B w w4) := Lib.hid (by rw [← hw4]; exact putL_below HBD.out _ _ _ HU3.out)
    rw [hw4]
    clear hw4
    go_wp2_with fail
    go_meet
    case rel =>
     refine ⟨Lib.hid ?_, HU4⟩
     rw [HKB.out]
     refine ⟨some ⟨D, 0, none⟩, 32, by rw [HCL.out], by rw [HCL.out]; exact Nat.le_refl _, by unfold maxLen; omega, (fun e => by cases e), fun _ => ⟨D, 0, rfl, (Array.getElem?_eq_some_iff.1 HD4.out).1, fun j x hj => ?_⟩⟩
     rw [cell_of_row _ D (0 + j) _ _ _ HD4.out, Nat.zero_add, List.getElem?_toArray]
     exact hj
  · have b1 : ¬ (64 : Int) < (n : Int) := by omega
    have b1d : decide ((64 : Int) < (n : Int)) = false := decide_eq_false b1
    have HKB : Hid (keyB key = key) := Lib.hid (by unfold keyB; rw [if_neg (by rw [HN.out]; exact hlong)])
    go_wp2_with fail
    go_meet
    case rel =>
     refine ⟨Lib.hid ?_, Lib.hid (Below.refl _ _)⟩
     rw [HKB.out]
     exact HR0.out.cong (fun k hk => by rw [HBQ.out]; exact hk) (fun _ _ => rfl)
 case rest => as_aux_lemma =>
  obtain ⟨HR2, HB2⟩ := hcut
  obtain ⟨w2, hw2⟩ : ∃ u, u = wc := ⟨_, rfl⟩
  rw [← hw2] at HR2 HB2 ⊢
  clear hw2 HR0 h1 h2
  obtain ⟨K, hK⟩ : ∃ K, keyB key = K := ⟨_, rfl⟩
  have HKL : Hid (K.length ≤ 64) := Lib.hid (by rw [← hK]; exact keyB_len key)
  have HBM : Hid (∀ i < 64, (blkM key c)[i]? = some (K.getD i 0 ^^^ c)) := Lib.hid (fun i hi => by unfold blkM; rw [hK, List.getElem?_map, List.getElem?_range hi]; rfl)
  rw [hK] at HR2
  clear hK
  obtain ⟨ko, kc, hkv, h1, h2⟩ := HR2.out.form
  rw [List.length_map] at hkv h1
  obtain ⟨kl, hkl⟩ : ∃ m, K.length = m := ⟨_, rfl⟩
  have HKL2 := Lib.hid hkl
  rw [hkl] at h1
  rw [hkl] at hkv
  subst hkv
  unfold maxLen at h2
  have hkl64 : kl ≤ 64 := by rw [← hkl]; exact HKL.out
  have HZ2 : Hid (B ≤ w2.heap.size) := Lib.hid (by have := HB2.out.size; rw [HBQ.out] at this; exact this)
  clear hkl
  go_wp2_with fail
  go_loopw [6, 7] (fun ov iv wr => ∃ i : Nat, i ≤ 64 ∧ iv = .int .i64 (i : Int) ∧ Hid (OwnS wr w2.heap.size ov ((blkM key c).take i)) ∧ Hid (Below w2.heap.size w2 wr)) (fun _ iv _ => 64 - (intOf iv).toNat)
  case atStart => exact ⟨0, Nat.zero_le _, rfl, Lib.hid (by rw [List.take_zero]; exact OwnS.nil _ _), Lib.hid (Below.refl _ _)⟩
  case round =>
   obtain ⟨i, hi, rfl, HOR, HBR⟩ := hrel
   obtain ⟨oa, oc, rfl⟩ := HOR.out.form
   have hol : ((blkM key c).take i).length = i := by rw [List.length_take, blkM_len]; omega
   have HOL := Lib.hid hol
   rw [hol]
   rw [hol] at HOR
   clear hol
   by_cases hlt : i < 64
   · have b1 : (0 : Int) ≤ i := by omega
     have b2 : (i : Int) < 64 := by omega
     obtain ⟨x, hx⟩ : ∃ x, K.getD i 0 = x := ⟨_, rfl⟩
     have HTK : Hid ((blkM key c).take i ++ [x ^^^ c] = (blkM key c).take (i + 1)) := Lib.hid (by rw [List.take_add_one, HBM.out i hlt, hx]; rfl)
     obtain ⟨xn, hxn⟩ : ∃ m, x.toNat = m := ⟨_, rfl⟩
     obtain ⟨zc, hz⟩ : ∃ z, x ^^^ c = z := ⟨_, rfl⟩
     have gx := xor_u8 x c
     rw [hz, hxn, HCN.out] at gx
     rw [hz] at HTK
     have hxnl : xn < 256 := by rw [← hxn]; exact x.toNat_lt
     have hlen2 : ((blkM key c).take (i + 1)).length = i + 1 := by rw [List.length_take, blkM_len]; omega
     have HL2 := Lib.hid hlen2
     clear hz hlen2
     go_upto_if 22 with fail
     go_cut [8] from 22 to 26 (fun cv wx => cv = .int .u8 (xn : Int) ∧ Hid (wx = wr))
     case first =>
      by_cases hik : i < kl
      · have d1 : (i : Int) < (kl : Int) := by omega
        have d1d : decide ((i : Int) < (kl : Int)) = true := decide_eq_true d1
        obtain ⟨kb, ko', hko, hkb, hcell⟩ := (HR2.out.cong (fun _ h => h) (fun k hk => HBR.out.block k hk)).get (k := i) (x := bv x) (by
         have h3 : K[i]? = some x := by rw [← hx, List.getD_eq_getElem?_getD, List.getElem?_eq_getElem (by rw [HKL2.out]; exact hik)]; rfl
         rw [List.getElem?_map, h3]; rfl)
        obtain rfl : ko = some ⟨kb, ko', none⟩ := hko
        have hcell2 : wr.cell? ⟨kb, ko' + i, none⟩ = some (.int .u8 (xn : Int)) := by rw [hcell, ← hxn]; rfl
        clear hcell hx hxn
        go_wp2_with fail
        go_meet
        case rel => exact ⟨rfl, Lib.hid rfl⟩
      · have d1 : ¬ (i : Int) < (kl : Int) := by omega
        have d1d : decide ((i : Int) < (kl : Int)) = false := decide_eq_false d1
        obtain rfl : xn = 0 := by
         rw [← hxn, ← hx, List.getD_eq_getElem?_getD, List.getElem?_eq_none (by rw [HKL2.out]; omega)]; rfl
        go_wp2_with fail
        go_meet
        case rel => exact ⟨rfl, Lib.hid rfl⟩
     case rest =>
      obtain ⟨rfl, hww⟩ := hcut
      rw [hww.out]
      clear hww hx hxn
      have hzr : w2.heap.size ≤ wr.heap.size := HBR.out.size
      go_wp2_with (at_builtin; go_loud (refine wp_app1 rfl _ _ rfl (w := wr) (B := w2.heap.size) (v := .slice oa i oc) (l := (blkM key c).take i) zc rfl rfl HOR.out ?d1 hzr ?_; (case d1 => rw [HOL.out]; omega); intro v6 w6 hO6 hgr; rw [HTK.out] at hO6; have HO6 := Lib.hid hO6; have HB6 : Hid (Below w2.heap.size w2 w6) := Lib.hid (below_grownO HBR.out HOR.out hgr hzr); clear hO6 hgr))
      go_roundw
      case rel => exact ⟨i + 1, by omega, by go_num, HO6, HB6⟩
      case measure => simp [intOf]; omega
   · obtain rfl : i = 64 := by omega
     have b2 : ¬ (64 : Int) < 64 := by omega
     have HF : Hid (OwnS wr B (.slice oa 64 oc) (blkM key c)) := Lib.hid (by
      have h0 := HOR.out
      rw [List.take_of_length_le (by rw [blkM_len]; exact Nat.le_refl _)] at h0
      obtain ⟨hlen, hr⟩ := h0
      exact ⟨hlen, hr.imp id (fun ⟨g, cap, cur, e, hg, r⟩ => ⟨g, cap, cur, e, Nat.le_trans HZ2.out hg, r⟩)⟩)
     go_wp2_with fail
     go_ret
     exact ⟨_, rfl, by rw [HBQ.out]; exact HF.out, by rw [HBQ.out]; exact HB2.out.trans (HBR.out.mono HZ2.out)⟩
end Go.Proofs.YtgfijlamhjjecaaGreatDoor
