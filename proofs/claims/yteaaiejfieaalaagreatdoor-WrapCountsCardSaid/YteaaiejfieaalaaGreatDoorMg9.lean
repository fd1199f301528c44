/-
  Texts WrapX, WrapF, WrapD, WrapA, WrapS, one behind the other. No condition beyond those stated in each.
-/
import Derived.Test.YteaaiejfieaalaaGreatDoorMg8
import Derived.Test.YteaaiejfieaalaaGreatDoorMg4
import Derived.Test.YteaaiejfieaalaaGreatDoorMg5
import Derived.Laws.ResultCell
import Derived.Lib.ItoaMem
import Derived.Lib.AppendIntMem
import Derived.Test.YteaaiejfieaalaaGreatDoorMg7
import Derived.BigQuiet
/-
  WrapX: contract of wrap.Parse. No condition beyond those stated.
-/
namespace Go.Proofs.YteaaiejfieaalaaGreatDoor
open Go.RowKit
theorem einfo_wrap : (Tryz.prog.info? 25).map (fun i => (i.zero, i.size, i.bytes)) = some (some (.agg #[.int .u8 0, .int .u8 0, .int .u64 0, .slice none 0 0]), 4, 40) := by kernel_rfl
/-- an interchange as a value -/
def wv (x : WD) (v : Value) : Value := .agg #[.int .u8 (x.fr : Int), .int .u8 (x.dst : Int), .int .u64 (x.rf : Int), v]
def WParseQ (t : Str) (w : World) (e : Ending) (w' : World) : Prop := ∃ v, e = .returned (.tuple #[wv (wrapParseE t).1 v, .int .i64 (wrapParseE t).2]) ∧ SegsAt (fun k => w.heap.size ≤ k ∧ k < w'.heap.size) w' v (wrapParseE t).1.segs ∧ Below w.heap.size w w'
theorem wq_err {t : Str} {w w' : World} {k : Int} (h : wrapParseE t = (wd0, k)) (hb : Below w.heap.size w w') : WParseQ t w (.returned (.tuple #[.agg #[.int .u8 0, .int .u8 0, .int .u64 0, .slice none 0 0], .int .i64 k])) w' := by
  unfold WParseQ
  rw [h]
  exact ⟨.slice none 0 0, rfl, SegsAt.nil _ _, hb⟩
theorem res_wrap {fn : Func} {p u : Tmp} (h : fn.results = #[.cell p 25, .tmp u]) (tmps : Array Value) {w : World} {g : Nat} {cs : Array Value} {x : Value} {t : TypeId} (hp : tmps.getD p undef = .pointer (some ⟨g, 0, none⟩)) (hu : tmps.getD u undef = x)
    (hg : w.heap[g]? = some (.cells cs t (0, 0))) (hs : cs.size = 4) : (results fn tmps).run Tryz.prog w = .ok (.tuple #[.agg cs, x]) w := by
  rw [results_cell_tmp h, hp, hu]
  have hl : (loadVar 25 ⟨g, 0, none⟩).run Tryz.prog w = .ok (.agg cs) w := run_loadVar_row w g t 25 cs (0, 0) _ hg Tryz.underlying25 rfl (by rw [hs]; kernel_rfl)
  simp [asAddr, hl, Result.andThen]
/-- a struct of four cells, written anew -/
def put4 (w : World) (g : Nat) (a b c d : Value) : World := (((w.setCell ⟨g, 0, none⟩ a).setCell ⟨g, 1, none⟩ b).setCell ⟨g, 2, none⟩ c).setCell ⟨g, 3, none⟩ d
theorem put4_heap {w : World} {g : Nat} {x y z u : Value} {t : TypeId} (h : w.heap[g]? = some (.cells #[x, y, z, u] t (0, 0))) (a b c d : Value) : (put4 w g a b c d).heap[g]? = some (.cells #[a, b, c, d] t (0, 0)) := by
  have h0 := heap_setCell_same w g 0 _ _ a h
  have h1 := heap_setCell_same _ g 1 _ _ b h0
  have h2 := heap_setCell_same _ g 2 _ _ c h1
  have h3 := heap_setCell_same _ g 3 _ _ d h2
  exact h3
theorem put4_size (w : World) (g : Nat) (a b c d : Value) : (put4 w g a b c d).heap.size = w.heap.size := by unfold put4; simp
theorem put4_below {w0 w : World} {B g : Nat} (h : Below B w0 w) (hg : B ≤ g) (a b c d : Value) : Below B w0 (put4 w g a b c d) := (((h.setCell hg _).setCell hg _).setCell hg _).setCell hg _
theorem put4_other (w : World) (g : Nat) (a b c d : Value) {k : Nat} (hk : k ≠ g) : (put4 w g a b c d).heap[k]? = w.heap[k]? := by
  unfold put4
  rw [heap_setCell_other _ _ _ _ (by simpa using hk), heap_setCell_other _ _ _ _ (by simpa using hk), heap_setCell_other _ _ _ _ (by simpa using hk), heap_setCell_other _ _ _ _ (by simpa using hk)]
theorem cells4 {w : World} {g : Nat} {x y z u : Value} {t : TypeId} (h : w.heap[g]? = some (.cells #[x, y, z, u] t (0, 0))) : (w.cell? ⟨g, 0, none⟩ = some x ∧ w.cell? ⟨g, 1, none⟩ = some y ∧ w.cell? ⟨g, 2, none⟩ = some z ∧ w.cell? ⟨g, 3, none⟩ = some u) ∧ (w.frozen? ⟨g, 0, none⟩ = false ∧ w.frozen? ⟨g, 1, none⟩ = false ∧ w.frozen? ⟨g, 2, none⟩ = false ∧ w.frozen? ⟨g, 3, none⟩ = false) :=
  ⟨⟨cell_of_row w g 0 _ _ _ h, cell_of_row w g 1 _ _ _ h, cell_of_row w g 2 _ _ _ h, cell_of_row w g 3 _ _ _ h⟩, frozen_of_row w g 0 _ _ h, frozen_of_row w g 1 _ _ h, frozen_of_row w g 2 _ _ h, frozen_of_row w g 3 _ _ h⟩
/-- what lies there while the head and the tail are read -/
structure PK (B N n b off : Nat) (th : Str) (xh : Value) (tz : Str) (xz : Value) (w : World) : Prop where
  res : w.heap[B]? = some (.cells #[.int .u8 0, .int .u8 0, .int .u64 0, .slice none 0 0] 25 (0, 0))
  cn : w.cell? ⟨N, 0, none⟩ = some (.int .i64 (n : Int))
  h0 : w.cell? ⟨b, off, none⟩ = some (sv th)
  h1 : w.cell? ⟨b, off + 1, none⟩ = some xh
  z0 : w.cell? ⟨b, off + (n - 1) * 2, none⟩ = some (sv tz)
  z1 : w.cell? ⟨b, off + (n - 1) * 2 + 1, none⟩ = some xz
theorem PK.on {B N n b off M : Nat} {th : Str} {xh : Value} {tz : Str} {xz : Value} {w w' : World} (h : PK B N n b off th xh tz xz w) (hb : Below M w w') (hM : w.heap.size ≤ M) : PK B N n b off th xh tz xz w' :=
  ⟨(hb.block B (Nat.lt_of_lt_of_le (Array.getElem?_eq_some_iff.1 h.res).1 hM)).trans h.res, (hb.cell (Nat.lt_of_lt_of_le (cell_lt' h.cn) hM)).trans h.cn, (hb.cell (Nat.lt_of_lt_of_le (cell_lt' h.h0) hM)).trans h.h0, (hb.cell (Nat.lt_of_lt_of_le (cell_lt' h.h1) hM)).trans h.h1, (hb.cell (Nat.lt_of_lt_of_le (cell_lt' h.z0) hM)).trans h.z0, (hb.cell (Nat.lt_of_lt_of_le (cell_lt' h.z1) hM)).trans h.z1⟩
/-- what lies there while the numbers are read -/
structure NK (eb eo zb zo : Nat) (x0 x1 x2 y0 y1 : Value) (e0 e1 e2 g0 g1 : List Str) (w : World) : Prop where
  c0 : w.cell? ⟨eb, eo, none⟩ = some x0
  c1 : w.cell? ⟨eb, eo + 1, none⟩ = some x1
  c2 : w.cell? ⟨eb, eo + 2, none⟩ = some x2
  c3 : w.cell? ⟨zb, zo, none⟩ = some y0
  c4 : w.cell? ⟨zb, zo + 1, none⟩ = some y1
  k0 : CompsAt (fun k => k < w.heap.size) w x0 e0
  k1 : CompsAt (fun k => k < w.heap.size) w x1 e1
  k2 : CompsAt (fun k => k < w.heap.size) w x2 e2
  k3 : CompsAt (fun k => k < w.heap.size) w y0 g0
  k4 : CompsAt (fun k => k < w.heap.size) w y1 g1
theorem NK.on {eb eo zb zo M : Nat} {x0 x1 x2 y0 y1 : Value} {e0 e1 e2 g0 g1 : List Str} {w w' : World} (h : NK eb eo zb zo x0 x1 x2 y0 y1 e0 e1 e2 g0 g1 w) (hb : Below M w w') (hM : w.heap.size ≤ M) : NK eb eo zb zo x0 x1 x2 y0 y1 e0 e1 e2 g0 g1 w' := by
  have hc : ∀ {b o : Nat} {v : Value}, w.cell? ⟨b, o, none⟩ = some v → w'.cell? ⟨b, o, none⟩ = some v := fun h1 => (hb.cell (Nat.lt_of_lt_of_le (cell_lt' h1) hM)).trans h1
  have hk : ∀ {x : Value} {e : List Str}, CompsAt (fun k => k < w.heap.size) w x e → CompsAt (fun k => k < w'.heap.size) w' x e := fun h1 => h1.cong (fun k hk => by have := hb.size; omega) (fun k hk => hb.block k (by omega))
  exact ⟨hc h.c0, hc h.c1, hc h.c2, hc h.c3, hc h.c4, hk h.k0, hk h.k1, hk h.k2, hk h.k3, hk h.k4⟩
theorem nk_of {w : World} {xh xz : Value} {e0 e1 e2 g0 g1 : List Str} (h : ElemsAt (fun k => k < w.heap.size) w xh [e0, e1, e2]) (h' : ElemsAt (fun k => k < w.heap.size) w xz [g0, g1]) :
    ∃ eb eo ec zb zo zc x0 x1 x2 y0 y1, xh = .slice (some ⟨eb, eo, none⟩) 3 ec ∧ 3 ≤ ec ∧ ec ≤ maxLen ∧ xz = .slice (some ⟨zb, zo, none⟩) 2 zc ∧ 2 ≤ zc ∧ zc ≤ maxLen ∧ NK eb eo zb zo x0 x1 x2 y0 y1 e0 e1 e2 g0 g1 w := by
  obtain ⟨xo, xc, rfl, hx1, hx2⟩ := h.form
  obtain ⟨yo, yc, rfl, hy1, hy2⟩ := h'.form
  obtain ⟨eb, eo, x0, rfl, _, c0, k0⟩ := h.get (k := 0) (e := e0) rfl
  obtain ⟨_, _, x1, hb1, _, c1, k1⟩ := h.get (k := 1) (e := e1) rfl
  cases hb1
  obtain ⟨_, _, x2, hb2, _, c2, k2⟩ := h.get (k := 2) (e := e2) rfl
  cases hb2
  obtain ⟨zb, zo, y0, rfl, _, c3, k3⟩ := h'.get (k := 0) (e := g0) rfl
  obtain ⟨_, _, y1, hb4, _, c4, k4⟩ := h'.get (k := 1) (e := g1) rfl
  cases hb4
  exact ⟨eb, eo, xc, zb, zo, yc, x0, x1, x2, y0, y1, rfl, hx1, hx2, rfl, hy1, hy2, c0, c1, c2, c3, c4, k0, k1, k2, k3, k4⟩
theorem cell_new (w : World) (v : Value) (t : TypeId) : (w.alloc (.cells #[v] t)).cell? ⟨w.heap.size, 0, none⟩ = some v := by simp
/-- variables in cells of their own -/
def VK (l : List (Nat × Value)) (w : World) : Prop := ∀ p ∈ l, w.cell? ⟨p.1, 0, none⟩ = some p.2
theorem VK.on {l : List (Nat × Value)} {M : Nat} {w w' : World} (h : VK l w) (hb : Below M w w') (hM : w.heap.size ≤ M) : VK l w' := fun p hp => (hb.cell (Nat.lt_of_lt_of_le (cell_lt' (h p hp)) hM)).trans (h p hp)
theorem VK.alloc {l : List (Nat × Value)} {w : World} (h : VK l w) (o : Obj) : VK l (w.alloc o) := h.on ((Below.refl _ w).alloc (Nat.le_refl _) o) (Nat.le_refl _)
theorem VK.cons {l : List (Nat × Value)} {w : World} {p : Nat × Value} (h : VK l w) (hp : w.cell? ⟨p.1, 0, none⟩ = some p.2) : VK (p :: l) w := fun q hq => by
  rcases List.mem_cons.1 hq with rfl | hq
  · exact hp
  · exact h q hq
/-- head and tail of segments that lie somewhere -/
theorem pk_of {S : Nat → Prop} {w : World} {v : Value} {th tz : Str} {eh ez : List (List Str)} {m : List Seg} {n : Nat} (h : SegsAt S w v (⟨th, eh⟩ :: (m ++ [⟨tz, ez⟩]))) (hn : (⟨th, eh⟩ :: (m ++ [⟨tz, ez⟩]) : List Seg).length = n) :
    ∃ b off cap xh xz, v = .slice (some ⟨b, off, none⟩) n cap ∧ n ≤ cap ∧ cap ≤ maxLen ∧ S b ∧ (w.cell? ⟨b, off, none⟩ = some (sv th) ∧ w.cell? ⟨b, off + 1, none⟩ = some xh ∧ w.cell? ⟨b, off + (n - 1) * 2, none⟩ = some (sv tz) ∧ w.cell? ⟨b, off + (n - 1) * 2 + 1, none⟩ = some xz) ∧ ElemsAt S w xh eh ∧ ElemsAt S w xz ez := by
  obtain ⟨ao, cap, rfl, h1, h2⟩ := h.form
  have hnm : n - 1 = m.length + 1 := by rw [← hn]; simp
  obtain ⟨b, off, xh, rfl, hS, c0, c1, he⟩ := h.get (k := 0) (s := ⟨th, eh⟩) rfl
  obtain ⟨b', off', xz, hbb, _, c2, c3, he'⟩ := h.get (k := n - 1) (s := ⟨tz, ez⟩) (by rw [hnm]; simp)
  cases hbb
  rw [Nat.zero_mul, Nat.add_zero] at c0 c1
  rw [hn] at h1 ⊢
  exact ⟨b, off, cap, xh, xz, rfl, h1, h2, hS, ⟨c0, c1, c2, c3⟩, he, he'⟩
theorem ends_of {l : List Seg} (h : ¬ l.length < 2) : ∃ a m z, l = a :: (m ++ [z]) := by
  cases l with
  | nil => simp at h
  | cons a r =>
    have hr : r ≠ [] := by rintro rfl; simp at h
    exact ⟨a, r.dropLast, r.getLast hr, by rw [List.dropLast_concat_getLast]⟩
/-- a part of segments -/
theorem SegsAt.sub {S : Nat → Prop} {w : World} {b off n cap : Nat} {l : List Seg} (H : SegsAt S w (.slice (some ⟨b, off, none⟩) n cap) l) {lo hi c' : Nat} (_h1 : lo ≤ hi) (h2 : hi ≤ l.length) (hc : hi - lo ≤ c') (hc2 : c' ≤ maxLen) : SegsAt S w (.slice (some ⟨b, off + lo * 2, none⟩) (hi - lo) c') ((l.take hi).drop lo) := by
  obtain ⟨ao, cap', xs, e, k1, k2, k3, k4, k5, k6⟩ := H
  cases e
  have hlen : ((l.take hi).drop lo).length = hi - lo := by rw [List.length_drop, List.length_take, Nat.min_eq_left h2]
  have hget : ∀ {α : Type} (l : List α) (i : Nat) (s : α), ((l.take hi).drop lo)[i]? = some s → l[lo + i]? = some s := fun l i s hs => by
    rw [List.getElem?_drop] at hs
    rw [List.getElem?_take] at hs
    split at hs
    · exact hs
    · cases hs
  refine ⟨some ⟨b, off + lo * 2, none⟩, c', (xs.take hi).drop lo, by rw [hlen], by rw [hlen]; exact hc, hc2, (fun e => by cases e), by rw [hlen, List.length_drop, List.length_take, k4, Nat.min_eq_left h2], fun i s x hs hx => k5 _ s x (hget l i s hs) (hget xs i x hx), fun hne => ?_⟩
  have hl0 : l ≠ [] := by rintro rfl; exact hne (by simp)
  obtain ⟨b', off', e, hS, hcell⟩ := k6 hl0
  cases e
  refine ⟨b, off + lo * 2, rfl, hS, fun i s x hs hx => ?_⟩
  obtain ⟨a1, a2⟩ := hcell _ s x (hget l i s hs) (hget xs i x hx)
  rw [show off + lo * 2 + i * 2 = off + (lo + i) * 2 by omega]
  exact ⟨a1, a2⟩
set_option maxRecDepth 100000 in
set_option maxHeartbeats 8000000 in
theorem wParse_any (s : ByteArray) (w : World) (hv : VarsOk w) : Calls Tryz.prog 9 #[.string s] w fun e w' => WParseQ s.data.toList w e w' := by
  obtain ⟨B, hB⟩ : ∃ B, w.heap.size = B := ⟨_, rfl⟩
  by_cases hbig : 65536 < s.size
  · skip
    have hE : wrapParseE s.data.toList = (wd0, 2) := by
      have h1 : parseE s.data.toList = ([], 0, 2) := by unfold parseE; rw [if_pos (by simpa using hbig)]
      unfold wrapParseE
      rw [h1]; rfl
    have HE := Lib.hid hE
    have HBG := Lib.hid (parse_big s hbig)
    clear hE hbig
    go_enter Tryz.func9, Tryz.ntmps9
    go_wp2_with (go_at_call 17; refine (HBG.out _).mono ?_; rintro e w' ⟨rfl, rfl⟩)
    refine bodyPost_ret (res_wrap rfl _ rfl rfl (by rw [← hB]; exact heap_alloc_new _ _) rfl) rfl (wq_err HE.out ((Below.refl _ _).alloc (Nat.le_refl _) _))
  · skip
    have hs : s.size ≤ 65536 := by omega
    have HPA := Lib.hid (parse_own s hs)
    cases hpe : parseE s.data.toList with
    | mk l r =>
    obtain ⟨i, k⟩ := r
    have HPE := Lib.hid hpe
    rw [hpe] at HPA
    have hz1 : (w.alloc (.cells #[.int .u8 0, .int .u8 0, .int .u64 0, .slice none 0 0] 25)).heap.size = B + 1 := by simp [hB]
    have hB1 : Below B w (w.alloc (.cells #[.int .u8 0, .int .u8 0, .int .u64 0, .slice none 0 0] 25)) := by rw [← hB]; exact (Below.refl _ _).alloc (Nat.le_refl _) _
    have hc1 : (w.alloc (.cells #[.int .u8 0, .int .u8 0, .int .u64 0, .slice none 0 0] 25)).heap[B]? = some (.cells #[.int .u8 0, .int .u8 0, .int .u64 0, .slice none 0 0] 25 (0, 0)) := by rw [← hB]; exact heap_alloc_new _ _
    have HZ1 := Lib.hid hz1
    have HB1 := Lib.hid hB1
    have HC1 := Lib.hid hc1
    have HBQ := Lib.hid hB
    have hpe' := hpe
    have hs' := hs
    clear hpe hz1 hB1 hc1 hbig hs
    by_cases hk : k = 0
    · skip
      subst hk
      have HWE : Hid (wrapParseE s.data.toList = wrapOf l) := Lib.hid (by unfold wrapParseE; rw [HPE.out, if_pos rfl])
      by_cases hl2 : l.length < 2
      · skip
        clear hpe' hs'
        have hE : wrapParseE s.data.toList = (wd0, 40) := by
          rw [HWE.out]
          match l, hl2 with
          | [], _ => rfl
          | [a], _ => rfl
        have HE := Lib.hid hE
        obtain ⟨n, hn⟩ : ∃ n, l.length = n := ⟨_, rfl⟩
        have HN := Lib.hid hn
        rw [hn] at hl2
        have i2 : (n : Int) < 2 := by omega
        clear hE hn
        go_enter Tryz.func9, Tryz.ntmps9
        go_wp2_with (go_at_call 17; refine (HPA.out _).mono ?_; rw [HZ1.out]; rintro e w2 ⟨v, rfl, hso, hbe⟩; have HSO := Lib.hid hso.lies; have HBE := Lib.hid hbe; obtain ⟨va, vc, rfl, hv1, hv2⟩ := hso.lies.form; rw [HN.out] at hv1 ⊢; have hc2 := (hbe.block B (by omega)).trans HC1.out; have hz2 := hbe.size; rw [HZ1.out] at hz2; have hb3 := hbe.alloc hz2 (.cells #[.int .i64 (n : Int)] 3); have hc3 := (hb3.block B (by omega)).trans HC1.out; obtain ⟨⟨d0, d1, d2, d3⟩, f0, f1, f2, f3⟩ := cells4 hc3; have HC3 := Lib.hid hc3; have HB3 := Lib.hid hb3; clear hso hbe hb3 hc2 hc3)
        exact bodyPost_ret (res_wrap rfl _ rfl rfl (put4_heap HC3.out _ _ _ _) rfl) rfl (wq_err HE.out (by rw [HBQ.out]; exact put4_below (HB1.out.trans (HB3.out.mono (by omega))) (Nat.le_refl _) _ _ _ _))
      · skip
        obtain ⟨⟨th, eh⟩, m, ⟨tz, ez⟩, rfl⟩ := ends_of hl2
        have hok := (print_parse hpe' (by simpa using hs')).2
        obtain ⟨n, hn⟩ : ∃ n, (⟨th, eh⟩ :: (m ++ [⟨tz, ez⟩]) : List Seg).length = n := ⟨_, rfl⟩
        have hnm : n = m.length + 2 := by rw [← hn]; simp
        have HN := Lib.hid hn
        have HNM := Lib.hid hnm
        have HOK := Lib.hid hok
        have hn64 : n ≤ 64 := by rw [← hn]; exact hok.1
        have hn2 : 2 ≤ n := by omega
        have i2 : decide ((n : Int) < 2) = false := by rw [decide_eq_false_iff_not]; omega
        have en1 : (n : Int) - 1 = ((n - 1 : Nat) : Int) := by omega
        have i3 : (0 : Int) ≤ ((n - 1 : Nat) : Int) := by omega
        have i4 : ((n - 1 : Nat) : Int) < (n : Int) := by omega
        clear hn hok hnm hl2 hpe' hs'
        go_enter Tryz.func9, Tryz.ntmps9
        go_wp2_with ((go_at_call 17); refine (HPA.out _).mono ?_; rw [HZ1.out]; rintro e w2 ⟨v, rfl, hso, hbe⟩; have HSO := Lib.hid hso.lies; have HBE := Lib.hid hbe; obtain ⟨b, off, cap, xh, xz, rfl, hv1, hv2, hSb, ⟨g0, g1, g2, g3⟩, he, he'⟩ := pk_of hso.lies HN.out; have hz2 := hbe.size; rw [HZ1.out] at hz2; have hb3 := hbe.alloc hz2 (.cells #[.int .i64 (n : Int)] 3); have HPK : Hid (PK B w2.heap.size n b off th xh tz xz (w2.alloc (.cells #[.int .i64 (n : Int)] 3))) := Lib.hid ⟨(hb3.block B (by omega)).trans HC1.out, (by simp), ((Below.refl _ w2).alloc (Nat.le_refl _) _).cell (cell_lt' g0) |>.trans g0, ((Below.refl _ w2).alloc (Nat.le_refl _) _).cell (cell_lt' g1) |>.trans g1, ((Below.refl _ w2).alloc (Nat.le_refl _) _).cell (cell_lt' g2) |>.trans g2, ((Below.refl _ w2).alloc (Nat.le_refl _) _).cell (cell_lt' g3) |>.trans g3⟩; have HB3 := Lib.hid hb3; have HEH := Lib.hid he; have HEZ := Lib.hid he'; unfold maxLen at hv2; clear hso hbe he he' g0 g1 g2 g3 hb3 hSb; obtain ⟨p0, p1, p2, p3, p4, p5⟩ := HPK.out)
        have hvw := hv.on (HB1.out.trans (HB3.out.mono (by omega))) (by rw [HBQ.out]; exact Nat.le_refl _)
        have HBB : Hid (Below B w (w2.alloc (.cells #[.int .i64 (n : Int)] 3))) := Lib.hid (HB1.out.trans (HB3.out.mono (by omega)))
        have HSG : Hid (SegsAt (fun k => B + 1 ≤ k ∧ k < (w2.alloc (.cells #[.int .i64 (n : Int)] 3)).heap.size) (w2.alloc (.cells #[.int .i64 (n : Int)] 3)) (.slice (some ⟨b, off, none⟩) n cap) (⟨th, eh⟩ :: (m ++ [⟨tz, ez⟩]))) := Lib.hid (HSO.out.cong (fun k hk => ⟨by omega, by simp; omega⟩) (fun k hk => Below.heap_alloc _ _ _ hk.2))
        have HEH3 : Hid (ElemsAt (fun k => k < (w2.alloc (.cells #[.int .i64 (n : Int)] 3)).heap.size) (w2.alloc (.cells #[.int .i64 (n : Int)] 3)) xh eh) := Lib.hid (HEH.out.cong (fun k hk => by simp; omega) (fun k hk => Below.heap_alloc _ _ _ hk.2))
        have HEZ3 : Hid (ElemsAt (fun k => k < (w2.alloc (.cells #[.int .i64 (n : Int)] 3)).heap.size) (w2.alloc (.cells #[.int .i64 (n : Int)] 3)) xz ez) := Lib.hid (HEZ.out.cong (fun k hk => by simp; omega) (fun k hk => Below.heap_alloc _ _ _ hk.2))
        have HVW := Lib.hid hvw
        clear hvw HSO HBE HB3 HEH HEZ p0 p1 p2 p3 p4 p5 hz2 hv
        obtain ⟨N, hN⟩ : ∃ N, w2.heap.size = N := ⟨_, rfl⟩
        have hN3 : (w2.alloc (.cells #[.int .i64 (n : Int)] 3)).heap.size = N + 1 := by simp [hN]
        obtain ⟨w3, hw3⟩ : ∃ w3, w2.alloc (.cells #[.int .i64 (n : Int)] 3) = w3 := ⟨_, rfl⟩
        rw [hw3] at HBB HSG HEH3 HEZ3 HVW hN3 HPK ⊢
        rw [hN] at HPK ⊢
        have HN3 := Lib.hid hN3
        clear hN3 hN hw3
        have hBN : B ≤ w3.heap.size := by rw [← HBQ.out]; exact HBB.out.size
        by_cases h1 : th = unb ∧ eh.length = 3
        · skip
          refine (is_any w3 th xh eh HEH3.out _ _).mono ?_
          rw [decide_eq_true (by exact h1)]
          rintro e w4 ⟨rfl, hb4⟩
          have HK4 := Lib.hid (HPK.out.on hb4 (Nat.le_refl _))
          obtain ⟨p0, p1, p2, p3, p4, p5⟩ := HK4.out
          have HB4 := Lib.hid (HBB.out.trans (hb4.mono hBN))
          have HEZ4 := Lib.hid (HEZ3.out.cong (T := fun k => k < w4.heap.size) (w' := w4) (fun k hk => by have := hb4.size; omega) (fun k hk => hb4.block k hk))
          have HB34 := Lib.hid hb4
          clear hb4
          go_wp2_with fail
          refine (is_any w4 tz xz ez HEZ4.out _ _).mono ?_
          by_cases h2 : tz = unz ∧ ez.length = 2
          · skip
            rw [decide_eq_true (by exact h2)]
            rintro e w5 ⟨rfl, hb5⟩
            obtain ⟨e0, e1, e2, rfl⟩ : ∃ e0 e1 e2, eh = [e0, e1, e2] := by
              match eh, h1.2 with
              | [a, b, c], _ => exact ⟨a, b, c, rfl⟩
            obtain ⟨g0, g1, rfl⟩ : ∃ g0 g1, ez = [g0, g1] := by
              match ez, h2.2 with
              | [a, b], _ => exact ⟨a, b, rfl⟩
            obtain ⟨rfl, _⟩ := h1
            obtain ⟨rfl, _⟩ := h2
            obtain ⟨eb, eo, ec, zb, zo, zc, x0, x1, x2, y0, y1, rfl, hec1, hec2, rfl, hzc1, hzc2, hnk⟩ := nk_of HEH3.out HEZ3.out
            have nk3 := hnk
            have hb35 : Below w3.heap.size w3 w5 := HB34.out.trans (hb5.mono HB34.out.size)
            have HK5 := Lib.hid (HPK.out.on hb35 (Nat.le_refl _))
            have HNK5 := Lib.hid (hnk.on hb35 (Nat.le_refl _))
            have HB35 := Lib.hid hb35
            unfold maxLen at hec2 hzc2
            clear hb5 p0 p1 p2 p3 p4 p5 hnk hb35 HB34 HK4 HEZ4 HB4
            obtain ⟨p0, p1, p2, p3, p4, p5⟩ := HK5.out
            go_wp2_with fail
            go_quiet (fail)
            clear p0 p1 p2 p3 p4 p5
            have hb36 : Below w3.heap.size w3 (w5.drewN nq) := HB35.out.trans (Drew.below ⟨nq, rfl⟩ _)
            obtain ⟨w6, hw6⟩ : ∃ w6, w5.drewN nq = w6 := ⟨_, rfl⟩
            rw [hw6] at hb36 ⊢
            have HB36 := Lib.hid hb36
            have HVK6 : Hid (VK [] w6) := Lib.hid (fun p hp => by simp at hp)
            have hlen : ∀ e, e ∈ [e0, e1, e2, g0, g1] → ∀ p ∈ e, p.length ≤ 1048576 := fun e he p hp => by
              have h1 := HOK.out.2
              have h2 : p.length ≤ 256 := by
                simp only [List.mem_cons, List.not_mem_nil, or_false] at he
                rcases he with rfl | rfl | rfl | rfl | rfl
                · exact (((h1 ⟨unb, [e, e1, e2]⟩ (by simp)).2.2 e (by simp)).2.2 p hp).1
                · exact (((h1 ⟨unb, [e0, e, e2]⟩ (by simp)).2.2 e (by simp)).2.2 p hp).1
                · exact (((h1 ⟨unb, [e0, e1, e]⟩ (by simp)).2.2 e (by simp)).2.2 p hp).1
                · exact (((h1 ⟨unz, [e, g1]⟩ (by simp)).2.2 e (by simp)).2.2 p hp).1
                · exact (((h1 ⟨unz, [g0, e]⟩ (by simp)).2.2 e (by simp)).2.2 p hp).1
              omega
            have HLEN := Lib.hid hlen
            clear hlen hw6 hb36 HB35 HK5 HNK5
            have HNK3 := Lib.hid (nk3 : NK eb eo zb zo x0 x1 x2 y0 y1 e0 e1 e2 g0 g1 w3)
            clear nk3
            have c0 := (HNK3.out.on HB36.out (Nat.le_refl _)).c0
            go_wp2_with fail
            refine (num8_any w6 x0 e0 (HNK3.out.on HB36.out (Nat.le_refl _)).k0 (HLEN.out e0 (by simp)) (HVW.out.on HB36.out (Nat.le_refl _))).mono ?_
            rintro e w7 ⟨r0, b0, rfl, hq0, hb7⟩
            have hb37 : Below w3.heap.size w3 (w7.alloc (.cells #[.bool b0] 4)) := (HB36.out.trans (hb7.mono HB36.out.size)).alloc (Nat.le_trans HB36.out.size hb7.size) _
            have HQ0 := Lib.hid hq0
            have hvk7 : VK [(w7.heap.size, .bool b0)] (w7.alloc (.cells #[.bool b0] 4)) := ((HVK6.out.on hb7 (Nat.le_refl _)).alloc _).cons (by simp)
            have HVK7 := Lib.hid hvk7
            have HB37 := Lib.hid hb37
            clear hq0 hb7 hvk7 c0
            have c1 := (HNK3.out.on hb37 (Nat.le_refl _)).c1
            clear hb37
            go_wp2_with fail
            obtain ⟨P0, hP0⟩ : ∃ z, w7.heap.size = z := ⟨_, rfl⟩
            obtain ⟨w8, hw8⟩ : ∃ w8, w7.alloc (.cells #[.bool b0] 4) = w8 := ⟨_, rfl⟩
            rw [hP0] at HVK7 ⊢
            rw [hw8] at HVK7 HB37 c1 ⊢
            clear hP0 hw8 HVK6 c1
            refine (num8_any w8 x1 e1 (HNK3.out.on HB37.out (Nat.le_refl _)).k1 (HLEN.out e1 (by simp)) (HVW.out.on HB37.out (Nat.le_refl _))).mono ?_
            rintro e w9 ⟨r1, b1, rfl, hq1, hb9⟩
            have hb39 : Below w3.heap.size w3 (w9.alloc (.cells #[.bool b1] 4)) := (HB37.out.trans (hb9.mono HB37.out.size)).alloc (Nat.le_trans HB37.out.size hb9.size) _
            have HQ1 := Lib.hid hq1
            have hvk9 : VK [(w9.heap.size, .bool b1), (P0, .bool b0)] (w9.alloc (.cells #[.bool b1] 4)) := ((HVK7.out.on hb9 (Nat.le_refl _)).alloc _).cons (by simp)
            have HVK9 := Lib.hid hvk9
            have HB39 := Lib.hid hb39
            clear hq1 hb9 hvk9 HB37 HVK7 HB36
            have c2 := (HNK3.out.on hb39 (Nat.le_refl _)).c2
            clear hb39
            go_wp2_with fail
            obtain ⟨P1, hP1⟩ : ∃ z, w9.heap.size = z := ⟨_, rfl⟩
            obtain ⟨wa, hwa⟩ : ∃ wa, w9.alloc (.cells #[.bool b1] 4) = wa := ⟨_, rfl⟩
            rw [hP1] at HVK9 ⊢
            rw [hwa] at HVK9 HB39 c2 ⊢
            clear hP1 hwa c2
            refine (num64_any wa x2 e2 (HNK3.out.on HB39.out (Nat.le_refl _)).k2 (HLEN.out e2 (by simp)) (HVW.out.on HB39.out (Nat.le_refl _))).mono ?_
            rintro e wb ⟨r2, b2, rfl, hq2, hbb⟩
            have HBc' : Below w3.heap.size w3 ((wb.alloc (.cells #[.int .u64 r2] 22)).alloc (.cells #[.bool b2] 4)) := ((HB39.out.trans (hbb.mono HB39.out.size)).alloc (Nat.le_trans HB39.out.size hbb.size) _).alloc (by simp; exact Nat.le_trans (Nat.le_trans HB39.out.size hbb.size) (Nat.le_succ _)) _
            have HQ2 := Lib.hid hq2
            have hvkwb : VK ((wb.heap.size + 1, .bool b2) :: (wb.heap.size, .int .u64 r2) :: [(P1, .bool b1), (P0, .bool b0)]) ((wb.alloc (.cells #[.int .u64 r2] 22)).alloc (.cells #[.bool b2] 4)) := ((((HVK9.out.on hbb (Nat.le_refl _)).alloc _).cons (by simp)).alloc _).cons (by simp)
            have HVKc := Lib.hid hvkwb
            have HBc := Lib.hid HBc'
            have c3 := (HNK3.out.on HBc' (Nat.le_refl _)).c3
            clear hq2 hbb hvkwb HB39 HVK9 HBc'
            go_wp2_with fail
            obtain ⟨P2, hP2⟩ : ∃ z, wb.heap.size = z := ⟨_, rfl⟩
            obtain ⟨wc, hwc⟩ : ∃ wn, (wb.alloc (.cells #[.int .u64 r2] 22)).alloc (.cells #[.bool b2] 4) = wn := ⟨_, rfl⟩
            rw [hP2] at HVKc ⊢
            rw [hwc] at HVKc HBc c3 ⊢
            clear hP2 hwc c3
            refine (num64_any wc y0 g0 (HNK3.out.on HBc.out (Nat.le_refl _)).k3 (HLEN.out g0 (by simp)) (HVW.out.on HBc.out (Nat.le_refl _))).mono ?_
            rintro e wd ⟨r3, b3, rfl, hq3, hbwd⟩
            have HBe' : Below w3.heap.size w3 ((wd.alloc (.cells #[.int .u64 r3] 22)).alloc (.cells #[.bool b3] 4)) := ((HBc.out.trans (hbwd.mono HBc.out.size)).alloc (Nat.le_trans HBc.out.size hbwd.size) _).alloc (by simp; exact Nat.le_trans (Nat.le_trans HBc.out.size hbwd.size) (Nat.le_succ _)) _
            have HQ3 := Lib.hid hq3
            have hvkwd : VK ((wd.heap.size + 1, .bool b3) :: (wd.heap.size, .int .u64 r3) :: [(P2 + 1, .bool b2), (P2, .int .u64 r2), (P1, .bool b1), (P0, .bool b0)]) ((wd.alloc (.cells #[.int .u64 r3] 22)).alloc (.cells #[.bool b3] 4)) := ((((HVKc.out.on hbwd (Nat.le_refl _)).alloc _).cons (by simp)).alloc _).cons (by simp)
            have HVKe := Lib.hid hvkwd
            have HBe := Lib.hid HBe'
            have c4 := (HNK3.out.on HBe' (Nat.le_refl _)).c4
            clear hq3 hbwd hvkwd HBc HVKc HBe'
            go_wp2_with fail
            obtain ⟨P4, hP4⟩ : ∃ z, wd.heap.size = z := ⟨_, rfl⟩
            obtain ⟨we, hwe⟩ : ∃ wn, (wd.alloc (.cells #[.int .u64 r3] 22)).alloc (.cells #[.bool b3] 4) = wn := ⟨_, rfl⟩
            rw [hP4] at HVKe ⊢
            rw [hwe] at HVKe HBe c4 ⊢
            clear hP4 hwe c4
            refine (num64_any we y1 g1 (HNK3.out.on HBe.out (Nat.le_refl _)).k4 (HLEN.out g1 (by simp)) (HVW.out.on HBe.out (Nat.le_refl _))).mono ?_
            rintro e wf ⟨r4, b4, rfl, hq4, hbwf⟩
            have HBg' : Below w3.heap.size w3 ((wf.alloc (.cells #[.int .u64 r4] 22)).alloc (.cells #[.bool b4] 4)) := ((HBe.out.trans (hbwf.mono HBe.out.size)).alloc (Nat.le_trans HBe.out.size hbwf.size) _).alloc (by simp; exact Nat.le_trans (Nat.le_trans HBe.out.size hbwf.size) (Nat.le_succ _)) _
            have HQ4 := Lib.hid hq4
            have hvkwf : VK ((wf.heap.size + 1, .bool b4) :: (wf.heap.size, .int .u64 r4) :: [(P4 + 1, .bool b3), (P4, .int .u64 r3), (P2 + 1, .bool b2), (P2, .int .u64 r2), (P1, .bool b1), (P0, .bool b0)]) ((wf.alloc (.cells #[.int .u64 r4] 22)).alloc (.cells #[.bool b4] 4)) := ((((HVKe.out.on hbwf (Nat.le_refl _)).alloc _).cons (by simp)).alloc _).cons (by simp)
            have HVKg := Lib.hid hvkwf
            have HBg := Lib.hid HBg'
            clear hq4 hbwf hvkwf HBe HVKe HBg'
            go_wp2_with fail
            have hwgs : ((wf.alloc (.cells #[.int .u64 r4] 22)).alloc (.cells #[.bool b4] 4)).heap.size = wf.heap.size + 2 := by simp
            obtain ⟨P6, hP6⟩ : ∃ z, wf.heap.size = z := ⟨_, rfl⟩
            obtain ⟨wg, hwg⟩ : ∃ wn, (wf.alloc (.cells #[.int .u64 r4] 22)).alloc (.cells #[.bool b4] 4) = wn := ⟨_, rfl⟩
            rw [hP6] at HVKg hwgs ⊢
            rw [hwg] at HVKg HBg hwgs ⊢
            clear hP6 hwg
            obtain ⟨FS, hFS⟩ : ∃ FS : Array Value, FS = #[.func (.func 23) #[] #[.pointer (some ⟨P0, 0, none⟩), .pointer (some ⟨P1, 0, none⟩), .pointer (some ⟨P2 + 1, 0, none⟩), .pointer (some ⟨P4 + 1, 0, none⟩), .pointer (some ⟨P6 + 1, 0, none⟩)], .int .i64 40, .func (.func 24) #[] #[.pointer (some ⟨P4, 0, none⟩), .pointer (some ⟨N, 0, none⟩)], .int .i64 41, .func (.func 25) #[] #[.pointer (some ⟨P2, 0, none⟩), .pointer (some ⟨P6, 0, none⟩)], .int .i64 42] := ⟨_, rfl⟩
            rw [← hFS]
            have hT : (wg.alloc (.cells FS 56)).heap[P6 + 2]? = some (.cells FS 56 (0, 0)) := by rw [← hwgs]; exact heap_alloc_new _ _
            have hBz : Below w3.heap.size w3 (wg.alloc (.cells FS 56)) := HBg.out.alloc HBg.out.size _
            have hVz := HVKg.out.alloc (.cells FS 56)
            obtain ⟨wz, hwz⟩ : ∃ wz, wg.alloc (.cells FS 56) = wz := ⟨_, rfl⟩
            rw [hwz] at hT hBz hVz ⊢
            have HT := Lib.hid hT
            have HBz := Lib.hid hBz
            have HVz := Lib.hid hVz
            have HFS := Lib.hid hFS
            have HCT : ∀ (w' : World), Below wz.heap.size wz w' → ∀ (j : Nat) (x : Value), FS[j]? = some x → w'.cell? ⟨P6 + 2, j, none⟩ = some x := fun w' hb j x hx => by
              rw [cell_of_row w' (P6 + 2) j _ _ _ ((hb.block _ (Array.getElem?_eq_some_iff.1 HT.out).1).trans HT.out)]; exact hx
            have HCT := Lib.hid HCT
            have HPz := Lib.hid (HPK.out.on hBz (Nat.le_refl _))
            clear hT hBz hVz hwz hwgs hFS HVKg HBg
            refine wp_loop_rounds 4 ?_
            have HHT := Lib.hid (wrapHT_num (m := m) HQ0.out HQ1.out HQ2.out HQ3.out HQ4.out)
            clear HQ0 HQ1 HQ2 HQ3 HQ4 HEH3 HEZ3 HNK3 HLEN
            have t0 := HCT.out wz (Below.refl _ _) 0 _ (by rw [HFS.out]; rfl)
            have t1 := HCT.out wz (Below.refl _ _) 1 _ (by rw [HFS.out]; rfl)
            rw [rounds_succ]
            go_wp2_with fail
            clear t0 t1
            have hbr : Below wz.heap.size wz (wz.alloc (.cells #[(.func (.func 23) #[] #[.pointer (some ⟨P0, 0, none⟩), .pointer (some ⟨P1, 0, none⟩), .pointer (some ⟨P2 + 1, 0, none⟩), .pointer (some ⟨P4 + 1, 0, none⟩), .pointer (some ⟨P6 + 1, 0, none⟩)]), .int .i64 40] 56)) := ((Below.refl _ _)).alloc (Nat.le_refl _) _
            have hrow : (wz.alloc (.cells #[(.func (.func 23) #[] #[.pointer (some ⟨P0, 0, none⟩), .pointer (some ⟨P1, 0, none⟩), .pointer (some ⟨P2 + 1, 0, none⟩), .pointer (some ⟨P4 + 1, 0, none⟩), .pointer (some ⟨P6 + 1, 0, none⟩)]), .int .i64 40] 56)).heap[wz.heap.size]? = some (.cells #[(.func (.func 23) #[] #[.pointer (some ⟨P0, 0, none⟩), .pointer (some ⟨P1, 0, none⟩), .pointer (some ⟨P2 + 1, 0, none⟩), .pointer (some ⟨P4 + 1, 0, none⟩), .pointer (some ⟨P6 + 1, 0, none⟩)]), .int .i64 40] 56 (0, 0)) := heap_alloc_new _ _
            obtain ⟨R0, hR0⟩ : ∃ z, wz.heap.size = z := ⟨_, rfl⟩
            obtain ⟨wr0, hwr0⟩ : ∃ wn, wz.alloc (.cells #[(.func (.func 23) #[] #[.pointer (some ⟨P0, 0, none⟩), .pointer (some ⟨P1, 0, none⟩), .pointer (some ⟨P2 + 1, 0, none⟩), .pointer (some ⟨P4 + 1, 0, none⟩), .pointer (some ⟨P6 + 1, 0, none⟩)]), .int .i64 40] 56) = wn := ⟨_, rfl⟩
            have hRz : wz.heap.size ≤ R0 := by rw [← hR0]; exact Nat.le_refl _
            rw [hR0] at hrow ⊢
            rw [hwr0] at hbr hrow ⊢
            have HR0 := Lib.hid hbr
            have HRW0 := Lib.hid hrow
            clear hbr hrow hR0 hwr0
            have hV := HVz.out.on HR0.out (Nat.le_refl _)
            have hPn := (HPz.out.on HR0.out (Nat.le_refl _)).cn
            refine (p1_any wr0 (hV (P0, .bool b0) (by simp)) (hV (P1, .bool b1) (by simp)) (hV (P2 + 1, .bool b2) (by simp)) (hV (P4 + 1, .bool b3) (by simp)) (hV (P6 + 1, .bool b4) (by simp))).mono ?_
            clear hV hPn
            rintro e w' ⟨rfl, rfl⟩
            cases hall : (b0 && b1 && b2 && b3 && b4) with
            | false =>
              skip
              have hE : wrapParseE s.data.toList = (wd0, 40) := by
                rw [HWE.out, wrapOf_snoc]
                exact HHT.out.1 hall
              have HE := Lib.hid hE
              clear hE hall
              go_wp2_with fail
              have hk := (HPz.out.on HR0.out (Nat.le_refl _)).on ((Below.refl wr0.heap.size wr0).drew) (Nat.le_refl _)
              have hB6 : B < wz.heap.size := (Array.getElem?_eq_some_iff.1 HPz.out.res).1
              have c1 : wr0.drew.cell? ⟨R0, 1, none⟩ = some (.int .i64 40) := cell_of_row wr0.drew R0 1 _ _ _ HRW0.out
              refine wp_region_plan [(0, false), (1, false), (2, false), (3, true), (4, false)] (fun w' => w'.cell? ⟨R0, 1, none⟩ = some (.int .i64 40)) (by kernel_rfl) (by kernel_rfl) c1 ?_
              refine plan_val (v := .agg #[.int .u8 0, .int .u8 0, .int .u64 0, .slice none 0 0]) rfl rfl (fun w' hS => by first | rfl | kernel_rfl | go_simp) ?_
              simp only [Act.put, List.setIfInBounds_toArray, List.set_cons_zero, List.set_cons_succ]
              refine plan_val (v := .pointer (some ⟨R0, 1, none⟩)) rfl rfl (fun w' hS => by first | rfl | go_simp) ?_
              simp only [Act.put, List.setIfInBounds_toArray, List.set_cons_zero, List.set_cons_succ]
              refine plan_val (v := .int .i64 40) rfl rfl (fun w' hS => by have hS1 : w'.cell? ⟨R0, 1, none⟩ = some (.int .i64 40) := hS; go_simp) ?_
              simp only [Act.put, List.setIfInBounds_toArray, List.set_cons_zero, List.set_cons_succ]
              refine plan_do rfl (fun K hK => ?_)
              obtain ⟨⟨d0, d1, d2, d3⟩, f0, f1, f2, f3⟩ := cells4 (HPz.out.on HR0.out (Nat.le_refl _)).res
              go_wp2_with fail
              refine hK _ _ ((cell_ag (put4_other wr0.drew B _ _ _ _ (by omega))).trans c1) ?_
              clear hK K d0 d1 d2 d3 f0 f1 f2 f3
              refine plan_val (v := .int .i64 40) rfl rfl (fun w' hS => by first | rfl | go_simp) ?_
              simp only [Act.put, List.setIfInBounds_toArray, List.set_cons_zero, List.set_cons_succ]
              refine plan_nil ?_
              go_wp2_with fail
              exact bodyPost_ret (res_wrap rfl _ rfl rfl (put4_heap hk.res _ _ _ _) rfl) rfl (wq_err HE.out (by rw [HBQ.out]; exact put4_below (((HBB.out.trans (HBz.out.mono hBN)).trans (HR0.out.mono (Nat.le_trans hBN HBz.out.size))).drew) (Nat.le_refl _) _ _ _ _))
            | true =>
            obtain ⟨z0, z1, z2, z3, z4, ⟨rfl, rfl, rfl, rfl, rfl⟩, hz⟩ := HHT.out.2 hall
            have HZ := Lib.hid hz
            clear hz hall HHT
            go_wp2_with fail
            have t2 := HCT.out wr0 HR0.out 2 _ (by rw [HFS.out]; rfl)
            have t3 := HCT.out wr0 HR0.out 3 _ (by rw [HFS.out]; rfl)
            rw [rounds_succ]
            go_wp2_with fail
            clear t2 t3
            have hbr : Below wz.heap.size wz (wr0.alloc (.cells #[(.func (.func 24) #[] #[.pointer (some ⟨P4, 0, none⟩), .pointer (some ⟨N, 0, none⟩)]), .int .i64 41] 56)) := (HR0.out).alloc (HR0.out.size) _
            have hrow : (wr0.alloc (.cells #[(.func (.func 24) #[] #[.pointer (some ⟨P4, 0, none⟩), .pointer (some ⟨N, 0, none⟩)]), .int .i64 41] 56)).heap[wr0.heap.size]? = some (.cells #[(.func (.func 24) #[] #[.pointer (some ⟨P4, 0, none⟩), .pointer (some ⟨N, 0, none⟩)]), .int .i64 41] 56 (0, 0)) := heap_alloc_new _ _
            obtain ⟨R1, hR1⟩ : ∃ z, wr0.heap.size = z := ⟨_, rfl⟩
            obtain ⟨wr1, hwr1⟩ : ∃ wn, wr0.alloc (.cells #[(.func (.func 24) #[] #[.pointer (some ⟨P4, 0, none⟩), .pointer (some ⟨N, 0, none⟩)]), .int .i64 41] 56) = wn := ⟨_, rfl⟩
            have hRz : wz.heap.size ≤ R1 := by rw [← hR1]; exact HR0.out.size
            rw [hR1] at hrow ⊢
            rw [hwr1] at hbr hrow ⊢
            have HR1 := Lib.hid hbr
            have HRW1 := Lib.hid hrow
            clear hbr hrow hR1 hwr1
            have hV := HVz.out.on HR1.out (Nat.le_refl _)
            have hPn := (HPz.out.on HR1.out (Nat.le_refl _)).cn
            refine (p2_any wr1 hn2 hn64 (hV (P4, .int .u64 z3) (by simp)) hPn).mono ?_
            clear hV hPn
            rintro e w' ⟨rfl, rfl⟩
            cases hall : ((z3 : Int) == ((n - 2 : Nat) : Int)) with
            | false =>
              skip
              have hE : wrapParseE s.data.toList = (wd0, 41) := by
                rw [HWE.out, wrapOf_snoc]
                rw [HZ.out, if_pos]
                have h5 := HNM.out
                rw [beq_eq_false_iff_ne] at hall
                omega
              have HE := Lib.hid hE
              clear hE hall
              go_wp2_with fail
              have hk := (HPz.out.on HR1.out (Nat.le_refl _)).on ((Below.refl wr1.heap.size wr1).drew) (Nat.le_refl _)
              have hB6 : B < wz.heap.size := (Array.getElem?_eq_some_iff.1 HPz.out.res).1
              have c1 : wr1.drew.cell? ⟨R1, 1, none⟩ = some (.int .i64 41) := cell_of_row wr1.drew R1 1 _ _ _ HRW1.out
              refine wp_region_plan [(0, false), (1, false), (2, false), (3, true), (4, false)] (fun w' => w'.cell? ⟨R1, 1, none⟩ = some (.int .i64 41)) (by kernel_rfl) (by kernel_rfl) c1 ?_
              refine plan_val (v := .agg #[.int .u8 0, .int .u8 0, .int .u64 0, .slice none 0 0]) rfl rfl (fun w' hS => by first | rfl | kernel_rfl | go_simp) ?_
              simp only [Act.put, List.setIfInBounds_toArray, List.set_cons_zero, List.set_cons_succ]
              refine plan_val (v := .pointer (some ⟨R1, 1, none⟩)) rfl rfl (fun w' hS => by first | rfl | go_simp) ?_
              simp only [Act.put, List.setIfInBounds_toArray, List.set_cons_zero, List.set_cons_succ]
              refine plan_val (v := .int .i64 41) rfl rfl (fun w' hS => by have hS1 : w'.cell? ⟨R1, 1, none⟩ = some (.int .i64 41) := hS; go_simp) ?_
              simp only [Act.put, List.setIfInBounds_toArray, List.set_cons_zero, List.set_cons_succ]
              refine plan_do rfl (fun K hK => ?_)
              obtain ⟨⟨d0, d1, d2, d3⟩, f0, f1, f2, f3⟩ := cells4 (HPz.out.on HR1.out (Nat.le_refl _)).res
              go_wp2_with fail
              refine hK _ _ ((cell_ag (put4_other wr1.drew B _ _ _ _ (by omega))).trans c1) ?_
              clear hK K d0 d1 d2 d3 f0 f1 f2 f3
              refine plan_val (v := .int .i64 41) rfl rfl (fun w' hS => by first | rfl | go_simp) ?_
              simp only [Act.put, List.setIfInBounds_toArray, List.set_cons_zero, List.set_cons_succ]
              refine plan_nil ?_
              go_wp2_with fail
              exact bodyPost_ret (res_wrap rfl _ rfl rfl (put4_heap hk.res _ _ _ _) rfl) rfl (wq_err HE.out (by rw [HBQ.out]; exact put4_below (((HBB.out.trans (HBz.out.mono hBN)).trans (HR1.out.mono (Nat.le_trans hBN HBz.out.size))).drew) (Nat.le_refl _) _ _ _ _))
            | true =>
            have HC3 : Hid (z3 = m.length) := Lib.hid (by have h5 := HNM.out; rw [beq_iff_eq] at hall; omega)
            clear hall
            go_wp2_with fail
            have t4 := HCT.out wr1 HR1.out 4 _ (by rw [HFS.out]; rfl)
            have t5 := HCT.out wr1 HR1.out 5 _ (by rw [HFS.out]; rfl)
            rw [rounds_succ]
            go_wp2_with fail
            clear t4 t5
            have hbr : Below wz.heap.size wz (wr1.alloc (.cells #[(.func (.func 25) #[] #[.pointer (some ⟨P2, 0, none⟩), .pointer (some ⟨P6, 0, none⟩)]), .int .i64 42] 56)) := (HR1.out).alloc (HR1.out.size) _
            have hrow : (wr1.alloc (.cells #[(.func (.func 25) #[] #[.pointer (some ⟨P2, 0, none⟩), .pointer (some ⟨P6, 0, none⟩)]), .int .i64 42] 56)).heap[wr1.heap.size]? = some (.cells #[(.func (.func 25) #[] #[.pointer (some ⟨P2, 0, none⟩), .pointer (some ⟨P6, 0, none⟩)]), .int .i64 42] 56 (0, 0)) := heap_alloc_new _ _
            obtain ⟨R2, hR2⟩ : ∃ z, wr1.heap.size = z := ⟨_, rfl⟩
            obtain ⟨wr2, hwr2⟩ : ∃ wn, wr1.alloc (.cells #[(.func (.func 25) #[] #[.pointer (some ⟨P2, 0, none⟩), .pointer (some ⟨P6, 0, none⟩)]), .int .i64 42] 56) = wn := ⟨_, rfl⟩
            have hRz : wz.heap.size ≤ R2 := by rw [← hR2]; exact HR1.out.size
            rw [hR2] at hrow ⊢
            rw [hwr2] at hbr hrow ⊢
            have HR2 := Lib.hid hbr
            have HRW2 := Lib.hid hrow
            clear hbr hrow hR2 hwr2
            have hV := HVz.out.on HR2.out (Nat.le_refl _)
            have hPn := (HPz.out.on HR2.out (Nat.le_refl _)).cn
            refine (p3_any wr2 (hV (P2, .int .u64 z2) (by simp)) (hV (P6, .int .u64 z4) (by simp))).mono ?_
            clear hV hPn
            rintro e w' ⟨rfl, rfl⟩
            cases hall : ((z2 : Int) == (z4 : Int)) with
            | false =>
              skip
              have hE : wrapParseE s.data.toList = (wd0, 42) := by
                rw [HWE.out, wrapOf_snoc]
                rw [HZ.out, if_neg (by rw [HC3.out]; simp), if_pos]
                rw [beq_eq_false_iff_ne] at hall
                omega
              have HE := Lib.hid hE
              clear hE hall
              go_wp2_with fail
              have hk := (HPz.out.on HR2.out (Nat.le_refl _)).on ((Below.refl wr2.heap.size wr2).drew) (Nat.le_refl _)
              have hB6 : B < wz.heap.size := (Array.getElem?_eq_some_iff.1 HPz.out.res).1
              have c1 : wr2.drew.cell? ⟨R2, 1, none⟩ = some (.int .i64 42) := cell_of_row wr2.drew R2 1 _ _ _ HRW2.out
              refine wp_region_plan [(0, false), (1, false), (2, false), (3, true), (4, false)] (fun w' => w'.cell? ⟨R2, 1, none⟩ = some (.int .i64 42)) (by kernel_rfl) (by kernel_rfl) c1 ?_
              refine plan_val (v := .agg #[.int .u8 0, .int .u8 0, .int .u64 0, .slice none 0 0]) rfl rfl (fun w' hS => by first | rfl | kernel_rfl | go_simp) ?_
              simp only [Act.put, List.setIfInBounds_toArray, List.set_cons_zero, List.set_cons_succ]
              refine plan_val (v := .pointer (some ⟨R2, 1, none⟩)) rfl rfl (fun w' hS => by first | rfl | go_simp) ?_
              simp only [Act.put, List.setIfInBounds_toArray, List.set_cons_zero, List.set_cons_succ]
              refine plan_val (v := .int .i64 42) rfl rfl (fun w' hS => by have hS1 : w'.cell? ⟨R2, 1, none⟩ = some (.int .i64 42) := hS; go_simp) ?_
              simp only [Act.put, List.setIfInBounds_toArray, List.set_cons_zero, List.set_cons_succ]
              refine plan_do rfl (fun K hK => ?_)
              obtain ⟨⟨d0, d1, d2, d3⟩, f0, f1, f2, f3⟩ := cells4 (HPz.out.on HR2.out (Nat.le_refl _)).res
              go_wp2_with fail
              refine hK _ _ ((cell_ag (put4_other wr2.drew B _ _ _ _ (by omega))).trans c1) ?_
              clear hK K d0 d1 d2 d3 f0 f1 f2 f3
              refine plan_val (v := .int .i64 42) rfl rfl (fun w' hS => by first | rfl | go_simp) ?_
              simp only [Act.put, List.setIfInBounds_toArray, List.set_cons_zero, List.set_cons_succ]
              refine plan_nil ?_
              go_wp2_with fail
              exact bodyPost_ret (res_wrap rfl _ rfl rfl (put4_heap hk.res _ _ _ _) rfl) rfl (wq_err HE.out (by rw [HBQ.out]; exact put4_below (((HBB.out.trans (HBz.out.mono hBN)).trans (HR2.out.mono (Nat.le_trans hBN HBz.out.size))).drew) (Nat.le_refl _) _ _ _ _))
            | true =>
            have hE : wrapParseE s.data.toList = (⟨z0, z1, z2, m⟩, 0) := by
              rw [HWE.out, wrapOf_snoc, HZ.out, if_neg (by rw [HC3.out]; simp), if_neg]
              rw [beq_iff_eq] at hall
              omega
            have HE := Lib.hid hE
            clear hE hall
            go_wp2_with fail
            rw [rounds_succ]
            go_wp2_with fail
            have hk := (HPz.out.on HR2.out (Nat.le_refl _)).on ((Below.refl wr2.heap.size wr2).drew) (Nat.le_refl _)
            have hv := (HVz.out.on HR2.out (Nat.le_refl _)).on ((Below.refl wr2.heap.size wr2).drew) (Nat.le_refl _)
            have hB6 : B < wz.heap.size := (Array.getElem?_eq_some_iff.1 HPz.out.res).1
            have c1 : wr2.drew.cell? ⟨P2, 0, none⟩ = some (.int .u64 (z2 : Int)) := hv (P2, .int .u64 z2) (by simp)
            have c2 := hk.cn
            have hBP : B ≠ P2 := fun e => by
              have h1 := hv (P2, .int .u64 z2) (by simp)
              rw [← e] at h1
              have h2 := (cells4 hk.res).1.1
              rw [h2] at h1
              cases h1
            have hBN2 : B ≠ N := fun e => by
              have h1 := hk.cn
              rw [← e] at h1
              have h2 := (cells4 hk.res).1.1
              rw [h2] at h1
              cases h1
            have hwn : IntKind.i64.wrap (n : Int) = (n : Int) := IntWalk.i64_in _ (by omega)
            refine wp_region_plan [(0, false), (1, false), (2, false), (3, false), (4, false), (5, false), (6, false), (7, false), (8, false), (9, false), (10, true), (11, false)] (fun w' => w'.cell? ⟨P2, 0, none⟩ = some (.int .u64 (z2 : Int)) ∧ w'.cell? ⟨N, 0, none⟩ = some (.int .i64 (n : Int))) (by kernel_rfl) (by kernel_rfl) ⟨c1, c2⟩ ?_
            iterate 8 (refine' plan_val rfl rfl (fun w' hS => ?_) ?_; rotate_left; (focus (first | rfl | (obtain ⟨hS1, hS2⟩ := hS; go_simp; rfl))); simp only [Act.put, List.setIfInBounds_toArray, List.set_cons_zero, List.set_cons_succ])
            obtain ⟨sp, hsp⟩ : ∃ sp : Option Addr, (if n = 2 then some (⟨b, off, none⟩ : Addr) else some ⟨b, off + 2, none⟩) = sp := ⟨_, rfl⟩
            have HSP := Lib.hid hsp
            have hwn1 : IntKind.i64.wrap ((n - 1 : Nat) : Int) = ((n - 1 : Nat) : Int) := IntWalk.i64_in _ (by omega)
            refine plan_val (v := .slice sp (n - 1 - 1) (n - 1 - 1)) rfl rfl (fun w' hS => by
              go_simp
              first | rw [if_pos (by omega), if_pos (by omega), if_pos (by omega)] | (rw [if_pos (by omega), if_pos (by omega), if_pos (by omega), hsp])) ?_
            clear hsp
            simp only [Act.put, List.setIfInBounds_toArray, List.set_cons_zero, List.set_cons_succ]
            refine plan_val (v := .agg #[.int .u8 (z0 : Int), .int .u8 (z1 : Int), .int .u64 (z2 : Int), .slice sp (n - 1 - 1) (n - 1 - 1)]) rfl rfl (fun w' hS => by go_simp) ?_
            simp only [Act.put, List.setIfInBounds_toArray, List.set_cons_zero, List.set_cons_succ]
            refine plan_do rfl (fun K hK => ?_)
            obtain ⟨⟨d0, d1, d2, d3⟩, f0, f1, f2, f3⟩ := cells4 (HPz.out.on HR2.out (Nat.le_refl _)).res
            go_wp2_with fail
            refine hK _ _ ⟨(cell_ag (put4_other wr2.drew B _ _ _ _ (fun e => hBP e.symm))).trans c1, (cell_ag (put4_other wr2.drew B _ _ _ _ (fun e => hBN2 e.symm))).trans c2⟩ ?_
            clear hK K d0 d1 d2 d3 f0 f1 f2 f3
            refine plan_val (v := .int .i64 0) rfl rfl (fun w' hS => by first | rfl | go_simp) ?_
            simp only [Act.put, List.setIfInBounds_toArray, List.set_cons_zero, List.set_cons_succ]
            refine plan_nil ?_
            go_wp2_with fail
            refine bodyPost_ret (res_wrap rfl _ rfl rfl (put4_heap hk.res _ _ _ _) rfl) rfl ?_
            have hbz : Below B w wr2.drew := ((HBB.out.trans (HBz.out.mono hBN)).trans (HR2.out.mono (Nat.le_trans hBN HBz.out.size))).drew
            have h3r : Below w3.heap.size w3 wr2.drew := (HBz.out.trans (HR2.out.mono HBz.out.size)).drew
            unfold WParseQ
            rw [HE.out]
            refine ⟨_, rfl, ?_, by rw [HBQ.out]; exact put4_below hbz (Nat.le_refl _) _ _ _ _⟩
            have hsub := HSG.out.sub (lo := 1) (hi := n - 1) (c' := n - 1 - 1) (by omega) (by rw [HN.out]; omega) (Nat.le_refl _) (by unfold maxLen; omega)
            have hmid : ((⟨unb, [e0, e1, e2]⟩ :: (m ++ [⟨unz, [g0, g1]⟩]) : List Seg).take (n - 1)).drop 1 = m := by
              rw [show n - 1 = m.length + 1 by have := HNM.out; omega]
              simp
            rw [hmid, Nat.one_mul] at hsub
            have hfar : ∀ k, B + 1 ≤ k ∧ k < w3.heap.size → (put4 wr2.drew B (.int .u8 (z0 : Int)) (.int .u8 (z1 : Int)) (.int .u64 (z2 : Int)) (.slice sp (n - 1 - 1) (n - 1 - 1))).heap[k]? = w3.heap[k]? := fun k hk => (put4_other _ _ _ _ _ _ (by omega)).trans (h3r.block k hk.2)
            have h5 := HNM.out
            have h3s := h3r.size
            rw [← HSP.out]
            by_cases hm0 : n = 2
            · rw [if_pos hm0]
              have hmn : m = [] := List.length_eq_zero_iff.1 (by omega)
              subst hmn
              subst hm0
              exact ⟨some ⟨b, off, none⟩, 0, [], rfl, Nat.le_refl _, Nat.zero_le _, (fun e => by cases e), rfl, (fun i s x h => by simp at h), fun h => absurd rfl h⟩
            · rw [if_neg hm0]
              have h6 := put4_size wr2.drew B (.int .u8 (z0 : Int)) (.int .u8 (z1 : Int)) (.int .u64 (z2 : Int)) (.slice (some ⟨b, off + 2, none⟩) (n - 1 - 1) (n - 1 - 1))
              refine hsub.cong (fun k hk => ⟨by rw [HBQ.out]; omega, Nat.lt_of_lt_of_le (Nat.lt_of_lt_of_le hk.2 h3s) (Nat.le_of_eq h6.symm)⟩) (fun k hk => ?_)
              rw [← HSP.out, if_neg hm0] at hfar
              exact hfar k hk
          · skip
            have hE : wrapParseE s.data.toList = (wd0, 40) := by
              rw [HWE.out, wrapOf_snoc]
              unfold wrapHT
              have : numsW ⟨tz, ez⟩ unz 2 = none := by unfold numsW; rw [if_neg h2]
              rw [this]
              split
              · rename_i h; cases h
              · rfl
            have HE := Lib.hid hE
            clear hE
            rw [decide_eq_false (by exact h2)]
            rintro e w5 ⟨rfl, hb5⟩
            have hk5 := HK4.out.on hb5 (Nat.le_refl _)
            obtain ⟨⟨d0, d1, d2, d3⟩, f0, f1, f2, f3⟩ := cells4 hk5.res
            have HK5 := Lib.hid hk5
            have HB5 := Lib.hid (HB4.out.trans (hb5.mono (Nat.le_trans hBN HB34.out.size)))
            clear hk5 hb5 h1 h2 p0 p1 p2 p3 p4 p5
            go_wp2_with fail
            exact bodyPost_ret (res_wrap rfl _ rfl rfl (put4_heap HK5.out.res _ _ _ _) rfl) rfl (wq_err HE.out (by rw [HBQ.out]; exact put4_below HB5.out (Nat.le_refl _) _ _ _ _))
        · skip
          have hE : wrapParseE s.data.toList = (wd0, 40) := by
            rw [HWE.out, wrapOf_snoc]
            unfold wrapHT numsW
            rw [if_neg h1]
          have HE := Lib.hid hE
          clear hE
          refine (is_any w3 th xh eh HEH3.out _ _).mono ?_
          rw [decide_eq_false (by exact h1)]
          rintro e w4 ⟨rfl, hb4⟩
          have hk4 := HPK.out.on hb4 (Nat.le_refl _)
          obtain ⟨⟨d0, d1, d2, d3⟩, f0, f1, f2, f3⟩ := cells4 hk4.res
          have HK4 := Lib.hid hk4
          have HB4 := Lib.hid (HBB.out.trans (hb4.mono hBN))
          clear hk4 hb4 h1
          go_wp2_with fail
          exact bodyPost_ret (res_wrap rfl _ rfl rfl (put4_heap HK4.out.res _ _ _ _) rfl) rfl (wq_err HE.out (by rw [HBQ.out]; exact put4_below HB4.out (Nat.le_refl _) _ _ _ _))
    · skip
      clear hpe' hs'
      have dk : (k != 0) = true := by simpa using hk
      have hE : wrapParseE s.data.toList = (wd0, k) := by
        unfold wrapParseE
        rw [HPE.out, if_neg hk]
      have HE := Lib.hid hE
      clear hE hk
      go_enter Tryz.func9, Tryz.ntmps9
      go_wp2_with (go_at_call 17; refine (HPA.out _).mono ?_; rw [HZ1.out]; rintro e w2 ⟨v, rfl, hso, hbe⟩; have HSO := Lib.hid hso; have HBE := Lib.hid hbe; have hc2 := (hbe.block B (by omega)).trans HC1.out; obtain ⟨⟨d0, d1, d2, d3⟩, f0, f1, f2, f3⟩ := cells4 hc2; have HC2 := Lib.hid hc2; clear hso hbe hc2)
      exact bodyPost_ret (res_wrap rfl _ rfl rfl (put4_heap HC2.out _ _ _ _) rfl) rfl (wq_err HE.out (by rw [HBQ.out]; exact put4_below (HB1.out.trans (HBE.out.mono (by omega))) (Nat.le_refl _) _ _ _ _))
end Go.Proofs.YteaaiejfieaalaaGreatDoor

/-
  WrapF: contract of FormatUint at base 10. No condition beyond those stated.
-/
namespace Go.Proofs.YteaaiejfieaalaaGreatDoor
open Go.RowKit Go.Sort Go.Lib
set_option maxHeartbeats 6400000 in
set_option maxRecDepth 100000 in
theorem ifmt_any (u : Nat) (hu64 : u < 18446744073709551616) (w : World) (hv : VarsOk w) :
    Calls Tryz.prog 58 #[.int .u64 (u : Int), .int .i64 10] w fun e w' => e = .returned (.string ⟨(decT u).toArray⟩) ∧ Below w.heap.size w w' := by
  by_cases hs : u < 100
  · have c100 : decide ((u : Int) < 100) = true := by rw [decide_eq_true_eq]; omega
    have hwr : IntKind.i64.wrap (u : Int) = (u : Int) := by rw [IntKind.wrap_i64]; omega
    go_enter Tryz.func58, Tryz.ntmps58
    go_wp2_with (go_at_call 72; refine (Tryz.internal_strconv_small u hs _).mono ?_; rintro e w' ⟨rfl, rfl⟩)
    go_ret
    exact ⟨rfl, Below.refl _ _⟩
  · have c100 : decide ((u : Int) < 100) = false := by rw [decide_eq_false_iff_not]; omega
    have hu1 : 1 ≤ u := by omega
    have hnd20 : Lib.nDigits u ≤ 20 := by have := Lib.numDigits_eq u hu1 hu64; split at this <;> omega
    have hal : Tryz.prog.arrayLen 129 = 24 := by kernel_rfl
    have hsl : ∀ W, (Instr.sliceAt 129 (.pointer (some ⟨w.heap.size, 0, none⟩)) none (some (.int .i64 (Lib.nDigits u : Int))) none).run Tryz.prog W = .ok (.slice (some ⟨w.heap.size, 0, none⟩) (Lib.nDigits u) 24) W := fun W => by
      rw [run_sliceAt_array_h W 129 ⟨w.heap.size, 0, none⟩ (by simp [Program.arrayLen, Program.elem, Tryz.underlying129]) .i64 (Lib.nDigits u : Int) (by omega) (by rw [hal]; omega)]
      go_simp
    have hH0 := Lib.holds_zero0 w 129 (Lib.nDigits u) (by omega)
    have hfmt := Tryz.internal_strconv_formatBase10 w.heap.size 0 24 u (Array.replicate (Lib.nDigits u) 0) (w.alloc (.cells Lib.zeros24 129)) hH0 (by rw [Array.size_replicate]; exact Lib.lt_pow_nDigits u) hu64 (by rw [Array.size_replicate]; omega)
    rw [Array.size_replicate] at hfmt
    have HH0 := Lib.hid hH0
    clear hH0 hal
    go_enter Tryz.func58, Tryz.ntmps58
    go_wp2_with (first
      | (go_at_call 73; refine (Tryz.internal_strconv_numDigits u hu1 hu64 _ (Lib.tabIs_alloc hv.tab _)).mono ?_; rintro e w' ⟨rfl, rfl⟩))
    go_at_call 74
    refine hfmt.mono ?_
    rintro e w' ⟨rfl, k, v', dk, rfl, hF⟩
    have hcv : (convert 39 9 (.slice (some ⟨w.heap.size, 0, none⟩) (Lib.nDigits u) 24)).run Tryz.prog ((putRow (fun (b : UInt8) => Value.int .u8 (b.toNat : Int)) (w.alloc (.cells Lib.zeros24 129)) w.heap.size 0 dk).drewN k) = .ok (.string ⟨(Lib.decDigits u).toArray⟩) ((putRow (fun (b : UInt8) => Value.int .u8 (b.toNat : Int)) (w.alloc (.cells Lib.zeros24 129)) w.heap.size 0 dk).drewN k) := by
      have h := run_convert_bytes_back (P := Tryz.prog) ((putRow (fun (b : UInt8) => Value.int .u8 (b.toNat : Int)) (w.alloc (.cells Lib.zeros24 129)) w.heap.size 0 dk).drewN k) 39 9 5 ⟨w.heap.size, 0, none⟩ 24 (Lib.decDigits u) Tryz.underlying39 Tryz.underlying5 Tryz.underlying9 (fun j hj => by
        rw [Lib.row_is_numeral hF j hj, Lib.add_plain, World.cell?_drewN]
        exact cell?_putRow (fun (b : UInt8) => Value.int .u8 (b.toNat : Int)) _ w.heap.size 0 _ dk HH0.out (by rw [hF.size, Array.size_replicate]) j (by rw [hF.size]; rw [Lib.decDigits_length] at hj; exact hj))
      rw [Lib.decDigits_length] at h
      exact h
    go_wp2
    go_ret
    obtain ⟨os, eo⟩ := Lib.fin_at w (.cells Lib.zeros24 129) dk k 0
    refine ⟨rfl, ?_⟩
    have hb := Lib.below_grow w.heap.size w (Nat.le_refl _) k os
    rw [← eo] at hb
    exact hb
set_option maxRecDepth 100000 in
theorem fmt_any (u : Nat) (hu64 : u < 18446744073709551616) (w : World) (hv : VarsOk w) :
    Calls Tryz.prog 46 #[.int .u64 (u : Int), .int .i64 10] w fun e w' => e = .returned (.string ⟨(decT u).toArray⟩) ∧ Below w.heap.size w w' := by
  go_enter Tryz.func46, Tryz.ntmps46
  go_wp2_with (go_at_call 58; refine (ifmt_any u hu64 _ hv).mono ?_; rintro e w' ⟨rfl, hb⟩)
  go_ret
  exact ⟨rfl, hb⟩
end Go.Proofs.YteaaiejfieaalaaGreatDoor

/-
  WrapD: contract of the reference's Decimal. No condition beyond those stated.
-/
namespace Go.Proofs.YteaaiejfieaalaaGreatDoor
open Go.RowKit
/-- a digit's byte -/
def digC (d : Nat) : UInt8 := UInt8.ofNat (48 + d)
theorem dig_slice {d : Nat} (hd : d < 10) (W : World) : (Instr.slice 9 (.string ⟨#[48, 49, 50, 51, 52, 53, 54, 55, 56, 57]⟩) (some (.int .u64 (d : Int))) (some (.int .u64 ((d : Int) + 1))) none).run Tryz.prog W = .ok (.string ⟨#[digC d]⟩) W := by
  have h : ∀ n : Nat, n < 10 → (Instr.slice 9 (.string ⟨#[48, 49, 50, 51, 52, 53, 54, 55, 56, 57]⟩) (some (.int .u64 (n : Int))) (some (.int .u64 ((n : Int) + 1))) none).run Tryz.prog W = .ok (.string ⟨#[digC n]⟩) W := fun n hn => by
    match n, hn with
    | 0, _ => go_simp; rfl
    | 1, _ => go_simp; rfl
    | 2, _ => go_simp; rfl
    | 3, _ => go_simp; rfl
    | 4, _ => go_simp; rfl
    | 5, _ => go_simp; rfl
    | 6, _ => go_simp; rfl
    | 7, _ => go_simp; rfl
    | 8, _ => go_simp; rfl
    | 9, _ => go_simp; rfl
  exact h d hd
theorem dec_add {u : Nat} (h : ¬ u < 10) (hu : u < 18446744073709551616) (W : World) : (Op.stringOp .add ⟨(decT (u / 10)).toArray⟩ ⟨#[digC (u % 10)]⟩).run Tryz.prog W = .ok (.string ⟨(decT u).toArray⟩) W := by
  have h1 := dec_len20 (show u / 10 < 18446744073709551616 by omega)
  rw [run_string_add_sum _ _ _ (by simp [ByteArray.size]; omega), dec_step h]
  show Result.ok (Value.string ((⟨(decT (u / 10)).toArray⟩ : ByteArray) ++ ⟨[digC (u % 10)].toArray⟩)) W = _
  rw [ByteArray.mk_append_mk]; rfl
set_option maxRecDepth 100000 in
set_option maxHeartbeats 2000000 in
theorem rdec_any (u : Nat) : u < 18446744073709551616 → ∀ w : World, Calls Tryz.prog 19 #[.int .u64 (u : Int)] w fun e w' => e = .returned (.string ⟨(decT u).toArray⟩) ∧ ∃ d, w' = w.drewN d := by
  induction u using Nat.strongRecOn with
  | ind u ih =>
    intro hu w
    by_cases h : u < 10
    · have i1 : decide ((u : Int) < 10) = true := by rw [decide_eq_true_eq]; omega
      have hsl := dig_slice h
      have HE := Lib.hid (show decT u = [digC u] from dec_small h)
      have wr1 : IntKind.u64.wrap ((u : Int) + 1) = (u : Int) + 1 := by rw [IntKind.wrap_u64]; omega
      clear ih
      go_enter Tryz.func19, Tryz.ntmps19
      go_wp2_with fail
      go_ret
      exact ⟨by rw [HE.out]; rfl, 0, rfl⟩
    · have i1 : decide ((u : Int) < 10) = false := by rw [decide_eq_false_iff_not]; omega
      have IH := Lib.hid (ih (u / 10) (by omega) (by omega))
      have hadd := dec_add h hu
      have hsl := dig_slice (show u % 10 < 10 by omega)
      have q1 : (u : Int).tdiv 10 = ((u / 10 : Nat) : Int) := by rw [Int.tdiv_eq_ediv_of_nonneg (by omega)]; omega
      have q2 : (u : Int).tmod 10 = ((u % 10 : Nat) : Int) := by rw [Int.tmod_eq_emod_of_nonneg (by omega)]; omega
      have wr0 : IntKind.u64.wrap ((u / 10 : Nat) : Int) = ((u / 10 : Nat) : Int) := by rw [IntKind.wrap_u64]; omega
      have wr2 : IntKind.u64.wrap ((u % 10 : Nat) : Int) = ((u % 10 : Nat) : Int) := by rw [IntKind.wrap_u64]; omega
      have wr1 : IntKind.u64.wrap (((u % 10 : Nat) : Int) + 1) = ((u % 10 : Nat) : Int) + 1 := by rw [IntKind.wrap_u64]; omega
      obtain ⟨ds, hds⟩ : ∃ ds : ByteArray, (⟨(decT (u / 10)).toArray⟩ : ByteArray) = ds := ⟨_, rfl⟩
      rw [hds] at IH hadd
      obtain ⟨es, hes⟩ : ∃ ds : ByteArray, (⟨(decT u).toArray⟩ : ByteArray) = ds := ⟨_, rfl⟩
      simp only [hes] at hadd
      rw [hes]
      clear hds hes
      generalize u / 10 = q at *
      generalize u % 10 = r at *
      clear ih
      go_enter Tryz.func19, Tryz.ntmps19
      go_upto_region 3 with fail
      go_quiet (first | (go_at_call 19; refine Calls.quiet_of (IH.out _)))
      go_wp2_with fail
      go_ret
      exact ⟨rfl, _, rfl⟩
end Go.Proofs.YteaaiejfieaalaaGreatDoor

/-
  WrapA: segments behind segments of one's own, wherever their elements lie. No condition beyond those stated.
-/
namespace Go.Proofs.YteaaiejfieaalaaGreatDoor
open Go.RowKit
/-- segments in a row of one's own; their elements anywhere else -/
structure OG (B : Nat) (w : World) (ov : Value) (xs : List Value) (l : List Seg) : Prop where
  row : w.ownsRow B 36 2 ov l.length (segCells l xs)
  len : xs.length = l.length
  el : ∀ (i : Nat) (s : Seg) (x : Value), l[i]? = some s → xs[i]? = some x → ElemsAt (fun b => b < w.heap.size ∧ ov.ownBlock ≠ some b) w x s.elems
theorem OG.nil (B : Nat) (w : World) : OG B w (.slice none 0 0) [] [] := ⟨World.ownsRow_nil _ _ _ _, rfl, fun i s x h => by simp at h⟩
theorem OG.rest {B : Nat} {w : World} {ov : Value} {xs : List Value} {l : List Seg} (h : OG B w ov xs l) : SegsAt (fun b => b < w.heap.size) w ov l :=
  segs_rest h.row h.len (fun _ hk => (own_lt h.row hk).2) (fun i s x h1 h2 => (h.el i s x h1 h2).cong (fun _ hb => hb.1) (fun _ _ => rfl))
theorem OG.below {B : Nat} {w w' : World} {ov : Value} {xs : List Value} {l : List Seg} (h : OG B w ov xs l) (hb : Below w.heap.size w w') : OG B w' ov xs l :=
  ⟨own_cong h.row (fun k hk => hb.block k (own_lt h.row hk).2), h.len, fun i s x h1 h2 => (h.el i s x h1 h2).cong (fun k hk => ⟨by have := hb.size; omega, hk.2⟩) (fun k hk => hb.block k hk.1)⟩
theorem OO.og {B : Nat} {w : World} {ov : Value} {xs : List Value} {l : List Seg} (h : OO B w ov xs l) : OG B w ov xs l :=
  ⟨h.row, h.len, fun i s x h1 h2 => (h.el i s x h1 h2).cong (fun _ hk => ⟨hk.2.1, hk.2.2⟩) (fun _ _ => rfl)⟩
/-- one segment in a new block of its own -/
theorem OG.one {B : Nat} {w : World} {t : Str} {st : ByteArray} {es : List (List Str)} {ev : Value} (hst : (⟨t.toArray⟩ : ByteArray) = st) (hB : B ≤ w.heap.size) (he : ElemsAt (fun b => b < w.heap.size) w ev es) :
    OG B (w.alloc (.cells #[.string st, ev] 36)) (.slice (some ⟨w.heap.size, 0, none⟩) 1 1) [ev] [⟨t, es⟩] := by
  refine ⟨⟨rfl, .inr ⟨w.heap.size, 1, #[.string st, ev], rfl, hB, heap_alloc_new _ _, Nat.le_refl _, by decide, rfl, ?_⟩⟩, rfl, fun i s x h1 h2 => ?_⟩
  · rw [← hst]; rfl
  · match i, h1, h2 with
    | 0, h1, h2 =>
      simp at h1 h2
      subst h1; subst h2
      exact he.cong (fun k hk => ⟨by simp; omega, fun e => by simp [Value.ownBlock] at e; omega⟩) (fun k hk => Below.heap_alloc _ _ _ hk)
    | i + 1, h1, _ => simp at h1
/-- append(own segments, segments...) -/
theorem wp_app_og {ops : Array Oper} {rest : List Oper} {o : Oper} {a : Act} {Q : Exit → Act → World → Prop} (s x : Operand)
    (ho : o.op = .call { callee := .builtin .append, args := #[s, x], argTypes := #[23, 23] }) (hw : Region.wanted o (yielded ops a.tmps) = true)
    {w : World} {B : Nat} {v mv : Value} {xs : List Value} {l m : List Seg} {S : Nat → Prop} (hs : a.eval s = v) (hx : a.eval x = mv) (hO : OG B w v xs l) (hm : SegsAt S w mv m) (hS : ∀ k, S k → k < w.heap.size ∧ v.ownBlock ≠ some k) (hl : l.length + m.length ≤ 1048576) (hB : B ≤ w.heap.size)
    (h : ∀ v' w' xs', OG B w' v' xs' (l ++ m) → Below B w w' → wpList Tryz.prog ops Q rest (a.put o.dst v') w') :
    wpList Tryz.prog ops Q (o :: rest) a w := by
  obtain ⟨i0, hi, hz0, hz1, hz2⟩ := info_parts einfo_seg
  have hm0 := hm
  obtain ⟨ao, cap, ys, rfl, g1, g2, g3, g4, g5⟩ := hm.row
  simp only [wpList, hw, if_true]
  left
  have fin : ∀ v' w', w'.ownsRow B 36 2 v' (l.length + m.length) (segCells l xs ++ segCells m ys) → w.grownBy w' v.ownBlock → (v'.ownBlock = v.ownBlock ∨ v'.ownBlock = some w.heap.size) → OG B w' v' (xs ++ ys) (l ++ m) ∧ Below B w w' := fun v' w' f1 f2 f3 => by
    have hov : ∀ k, v.ownBlock = some k → B ≤ k := fun k hk => (own_lt hO.row hk).1
    have hb : Below B w w' := (Below.refl B w).grown f2 hB hov
    have hz := f2.size
    have hc : ∀ b, b < w.heap.size → v.ownBlock ≠ some b → v'.ownBlock ≠ some b := fun b hb2 hne he => by
      rcases f3 with f3 | f3
      · exact hne (f3 ▸ he)
      · rw [f3] at he; cases he; omega
    refine ⟨⟨by rw [List.length_append, segCells_app l m xs ys hO.len]; exact f1, by simp [hO.len, g1], fun i s x h1 h2 => ?_⟩, hb⟩
    rcases Nat.lt_or_ge i l.length with hil | hil
    · rw [List.getElem?_append_left hil] at h1
      rw [List.getElem?_append_left (by rw [hO.len]; exact hil)] at h2
      exact (hO.el i s x h1 h2).cong (fun b hb' => ⟨by omega, hc b hb'.1 hb'.2⟩) (fun b hb' => f2.block b hb'.1 (fun e => hb'.2 e.symm))
    · rw [List.getElem?_append_right hil] at h1
      rw [List.getElem?_append_right (by rw [hO.len]; exact hil), hO.len] at h2
      exact (g4 _ s x h1 h2).cong (fun b hb' => ⟨by have := (hS b hb').1; omega, hc b (hS b hb').1 (hS b hb').2⟩) (fun b hb' => f2.block b (hS b hb').1 (fun e => (hS b hb').2 e.symm))
  cases ao with
  | none =>
    obtain ⟨rfl, rfl⟩ := g2 rfl
    have hr := run_append_owned_none (P := Tryz.prog) (w := w) B 23 o.type 36 i0 2 Tryz.underlying23 hi v l.length (segCells l xs) hO.row
    unfold Oper.wp
    simp [execOp, ho, resolve, invoke, builtin, hs, hx, hr, Result.andThen]
    obtain ⟨k1, k2⟩ := fin v w (by
      have : ys = [] := List.length_eq_zero_iff.1 g1
      subst this
      simpa [segCells] using hO.row) ⟨rfl, rfl, rfl, Nat.le_refl _, fun _ _ _ => rfl⟩ (.inl rfl)
    exact h v w _ k1 k2
  | some ad =>
    obtain ⟨v', w', hr, h2, h3, _, h5⟩ := run_append_own_at (P := Tryz.prog) w B 23 o.type 36 i0 (.agg #[.string ⟨#[]⟩, .slice none 0 0]) 2 40 Tryz.underlying23 hi hz0 hz1 hz2 rfl (by decide) v l.length (segCells l xs) hO.row ad m.length cap (segCells m ys) (segCells_len m ys g1) (g5 ad rfl) (segCells_one m ys g3) (by unfold maxLen; omega) (by omega) hB
    unfold Oper.wp execOp
    simp only [ho, resolve, invoke, builtin, Sem.run_bind, Sem.run_pure, Result.andThen_ok, List.map_toArray, List.map_cons, List.map_nil, hs, hx, hr]
    obtain ⟨k1, k2⟩ := fin v' w' h2 h3 h5
    exact h v' w' _ k1 k2
end Go.Proofs.YteaaiejfieaalaaGreatDoor

/-
  WrapS: contract of wrap.segment. No condition beyond those stated.
-/
namespace Go.Proofs.YteaaiejfieaalaaGreatDoor
open Go.RowKit
theorem results_cell1 {fn : Func} {p : Tmp} {ty : TypeId} (h : fn.results = #[.cell p ty]) (tmps : Array Value) (P : Program) (w : World) :
    (results fn tmps).run P w = ((asAddr (tmps.getD p undef)).run P w).andThen fun a w₁ => (loadVar ty a).run P w₁ := by
  simp only [results, h]
  simp [Sem.run_bind, Result.andThen]
theorem res_seg {fn : Func} {p : Tmp} (h : fn.results = #[.cell p 36]) (tmps : Array Value) {w : World} {g : Nat} {cs : Array Value} {t : TypeId} (hp : tmps.getD p undef = .pointer (some ⟨g, 0, none⟩))
    (hg : w.heap[g]? = some (.cells cs t (0, 0))) (hs : cs.size = 2) : (results fn tmps).run Tryz.prog w = .ok (.agg cs) w := by
  rw [results_cell1 h, hp]
  have hl : (loadVar 36 ⟨g, 0, none⟩).run Tryz.prog w = .ok (.agg cs) w := run_loadVar_row w g t 36 cs (0, 0) _ hg Tryz.underlying36 rfl (by rw [hs]; kernel_rfl)
  simp [asAddr, hl, Result.andThen]
def SegQ (st : ByteArray) (es : List (List Str)) (w : World) (e : Ending) (w' : World) : Prop := ∃ ev, e = .returned (.agg #[.string st, ev]) ∧ ElemsAt (fun k => w.heap.size ≤ k ∧ k < w'.heap.size) w' ev es ∧ Below w.heap.size w w'
def nums (l : List Nat) : List (List Str) := l.map fun v => [decT v]
set_option maxRecDepth 100000 in
set_option maxHeartbeats 8000000 in
theorem segment_any (st : ByteArray) (l : List Nat) (ab ao cap : Nat) (w : World) (hv : VarsOk w) (hl : l.length ≤ 16) (h64 : ∀ v ∈ l, v < 18446744073709551616) (hcap : l.length ≤ cap) (_hcap2 : cap ≤ 16)
    (hc : ∀ (i v : Nat), l[i]? = some v → w.cell? ⟨ab, ao + i, none⟩ = some (.int .u64 (v : Int))) :
    Calls Tryz.prog 29 #[.string st, .slice (some ⟨ab, ao, none⟩) l.length cap] w fun e w' => SegQ st (nums l) w e w' := by
  obtain ⟨B, hB⟩ : ∃ B, w.heap.size = B := ⟨_, rfl⟩
  have HBQ := Lib.hid hB
  have HC := Lib.hid hc
  have HV := Lib.hid hv
  have H64 := Lib.hid h64
  obtain ⟨n, hn⟩ : ∃ n, l.length = n := ⟨_, rfl⟩
  have HN := Lib.hid hn
  rw [hn] at hl hcap ⊢
  unfold SegQ
  rw [hB]
  obtain ⟨i2, hi2, hz20, hz21, hz22⟩ := info_parts einfo_strs
  have HI2 := Lib.hid hi2
  have HZ20 := Lib.hid hz20
  have HZ21 := Lib.hid hz21
  have HZ22 := Lib.hid hz22
  clear hi2 hz20 hz21 hz22 hc hv h64 hn
  obtain ⟨w1, hw1⟩ : ∃ w1, w.alloc (.cells #[.string ⟨#[]⟩, .slice none 0 0] 36) = w1 := ⟨_, rfl⟩
  have hz1 : w1.heap.size = B + 1 := by rw [← hw1]; simp [hB]
  have HB1 : Hid (Below B w w1) := Lib.hid (by rw [← hw1, ← hB]; exact (Below.refl _ _).alloc (Nat.le_refl _) _)
  have HR1 : Hid (w1.heap[B]? = some (.cells #[.string ⟨#[]⟩, .slice none 0 0] 36 (0, 0))) := Lib.hid (by rw [← hw1, ← hB]; exact heap_alloc_new _ _)
  obtain ⟨w2, hw2⟩ : ∃ w2, w1.alloc (.cells #[.string st, .slice none 0 0] 36) = w2 := ⟨_, rfl⟩
  have HE0 : Hid (OE (B + 1) (B + 1) st w2 (.slice none 0 0) [] []) := Lib.hid (OE.start (by rw [← hw2, ← hz1]; exact heap_alloc_new _ _))
  have HB2 : Hid (Below (B + 1) w1 w2) := Lib.hid (by rw [← hw2, ← hz1]; exact (Below.refl _ _).alloc (Nat.le_refl _) _)
  have hz2 : w2.heap.size = B + 2 := by rw [← hw2]; simp [hz1]
  have HZ1 := Lib.hid hz1
  have HZ2 := Lib.hid hz2
  have HW1 := Lib.hid hw1
  have HW2 := Lib.hid hw2
  clear hz1 hz2 hw1 hw2
  go_enter Tryz.func29, Tryz.ntmps29
  go_wp2_with fail
  rw [HW1.out, HW2.out]
  clear hB
  go_loopw [12] (fun i wx => ∃ (m : Nat) (ev : Value) (ys : List Value), m ≤ n ∧ i = .int .i64 (m : Int) ∧ Hid (OE (B + 1) (B + 1) st wx ev ys ((nums l).take m)) ∧ Hid (Below (B + 1) w1 wx) ∧ B + 1 < wx.heap.size) (fun i _ => n - (intOf i).toNat)
  case atStart => exact ⟨0, _, [], by omega, rfl, HE0, HB2, by rw [HZ2.out]; omega⟩
  case round =>
    obtain ⟨m, ev, ys, hm, rfl, HE1, HB3, hzx⟩ := hrel
    by_cases hml : m < n
    · skip
      obtain ⟨u, hu⟩ : ∃ u, l[m]? = some u := ⟨_, List.getElem?_eq_getElem (by rw [HN.out]; exact hml)⟩
      have hu64 := H64.out u (List.mem_of_getElem? hu)
      have hcu := HC.out m u hu
      have habB : ab < B := by rw [← HBQ.out]; exact cell_lt' hcu
      have HBW := Lib.hid (show Below B w wr from HB1.out.trans (HB3.out.mono (by omega)))
      have d1 := (HBW.out.cell (p := ⟨ab, ao + m, none⟩) habB).trans hcu
      have hne : (nums l)[m]? = some [decT u] := by unfold nums; rw [List.getElem?_map, hu]; rfl
      have HNE := Lib.hid hne
      have hlm : ((nums l).take m).length = m := by unfold nums; rw [List.length_take, List.length_map, HN.out]; omega
      obtain ⟨eva, evc, rfl⟩ := own_slice HE1.out.row
      rw [hlm] at HE1
      obtain ⟨f0, f1, fz⟩ := HE1.out.cells
      have b3 : (0 : Int) ≤ m := by omega
      have b4 : (m : Int) < n := by omega
      have HLM := Lib.hid hlm
      have HVX := Lib.hid (HV.out.on HBW.out (by rw [HBQ.out]; exact Nat.le_refl _))
      clear hcu hne hlm f0 hu
      go_upto_region 5 with fail
      obtain ⟨wd, hwd⟩ : ∃ wd, wr.drew = wd := ⟨_, rfl⟩
      have hwh : wd.heap = wr.heap := by rw [← hwd]; rfl
      have HE2 := Lib.hid (HE1.out.drew hwh)
      have HB4 := Lib.hid (show Below wr.heap.size wr wd by rw [← hwd]; exact (Below.refl _ _).drew)
      have f1' : wd.cell? ⟨B + 1, 1, none⟩ = some (.slice eva m evc) := (cell_ag (by rw [hwh])).trans f1
      have HWS := Lib.hid (show wd.heap.size = wr.heap.size by rw [hwh])
      have HVD := Lib.hid (HVX.out.on HB4.out (Nat.le_refl _))
      refine wp_region_planF 8 [(0, false), (1, false), (2, false), (3, true), (4, true), (5, true), (6, true), (7, false), (8, true)]
        (fun w' => w'.cell? ⟨B + 1, 1, none⟩ = some (.slice eva m evc)) (by kernel_rfl) (by kernel_rfl) (by rw [hwd]; exact f1') ?_
      rw [hwd]
      have HF1 := Lib.hid f1'
      clear hwd hwh f1 fz d1 HE1 f1'
      iterate 3 (refine' planF_val rfl rfl (fun w' hS => ?_) ?_; rotate_left; (focus (go_simp; rfl)); simp only [Act.put, List.setIfInBounds_toArray, List.set_cons_zero, List.set_cons_succ])
      refine planF_do rfl (fun K hK => ?_)
      obtain ⟨D0, hD0⟩ : ∃ D, wd.heap.size = D := ⟨_, rfl⟩
      have HD0 := Lib.hid hD0
      have hspD : B + 1 < D0 := by have h1 := HE2.out.lt; omega
      clear hD0
      go_wp2_with (go_at_call 46; refine (fmt_any u hu64 _ HVD.out).mono ?_; rw [HD0.out]; rintro e wc ⟨rfl, hb⟩; have HBC := Lib.hid hb; clear hb)
      refine hK _ _ (.inr ((HBC.out.cell (p := ⟨B + 1, 1, none⟩) hspD).trans HF1.out)) ?_
      clear hK K
      have hzc := HBC.out.size
      rw [HD0.out] at hzc
      obtain ⟨D, hD⟩ : ∃ D, wc.heap.size = D := ⟨_, rfl⟩
      have HD := Lib.hid hD
      rw [hD] at hzc
      obtain ⟨we, hwe⟩ : ∃ we, wc.alloc (.cells #[.string ⟨(decT u).toArray⟩] 9) = we := ⟨_, rfl⟩
      have HBe : Hid (Below D wc we) := Lib.hid (by rw [← hwe, ← hD]; exact (Below.refl _ _).alloc (Nat.le_refl _) _)
      have hze : we.heap.size = D + 1 := by rw [← hwe, ← hD]; simp
      have HCO : Hid (CompsAt (fun b => D0 ≤ b ∧ b < we.heap.size) we (.slice (some ⟨D, 0, none⟩) 1 1) [decT u]) := Lib.hid (by
        refine ⟨some ⟨D, 0, none⟩, 1, rfl, Nat.le_refl _, by decide, (fun e => by cases e), fun _ => ⟨D, 0, rfl, ⟨hzc, by omega⟩, fun i x hx => ?_⟩⟩
        match i, hx with
        | 0, hx => simp at hx; subst hx; rw [← hwe, ← hD]; simp [sv]
        | i + 1, hx => simp at hx)
      have HBDE : Hid (Below D0 wd we) := Lib.hid (HBC.out.trans (HBe.out.mono hzc))
      have HWE := Lib.hid hwe
      clear hwe hD
      refine planF_do rfl (fun K hK => ?_)
      go_wp2_with fail
      rw [HWE.out, HD.out]
      refine hK _ _ (.inr ((HBDE.out.cell (p := ⟨B + 1, 1, none⟩) hspD).trans HF1.out)) ?_
      clear hK K
      refine planF_do rfl (fun K hK => ?_)
      go_wp2_with fail
      refine hK _ _ (.inr ((Below.heap_alloc _ _ _ (by omega) |> fun h => cell_ag h).trans ((HBDE.out.cell (p := ⟨B + 1, 1, none⟩) hspD).trans HF1.out))) ?_
      clear hK K
      refine planF_do rfl (fun K hK => ?_)
      have hrow : we.ownsRow (B + 1) 53 1 (.slice eva m evc) m ys := by
        have h1 := HE2.out.row
        rw [HLM.out] at h1
        exact own_cong h1 (fun b hb => HBDE.out.block b (by rw [← HD0.out]; exact (own_lt h1 hb).2))
      have HRW := Lib.hid hrow
      clear hrow
      refine wpList_append_own_at _ rfl _ _ 34 rfl (B + 1) 53 i2 (.slice none 0 0) 1 24 Tryz.underlying34 HI2.out HZ20.out HZ21.out HZ22.out rfl (by decide) _ _ _ rfl (HRW.out.alloc _) ⟨we.heap.size, 0, none⟩ 1 1 [.slice (some ⟨D, 0, none⟩) 1 1] (by rw [hze]; rfl) rfl (cell_one_new _ _ _) (by simp [Value.oneCell']) (by unfold maxLen; omega) (by omega) (by simp; omega) ?_
      intro ev' wg hog hgg _ hkg
      obtain ⟨ev'a, ev'c, rfl⟩ := own_slice hog
      have hgg' := grown_alloc hgg
      have hzg := hgg'.size
      have hne1 : (Value.slice eva m evc).ownBlock ≠ some (B + 1) := own_not HE2.out.row HE2.out.c (by decide)
      have cg : wg.heap[B + 1]? = some (.cells #[.string st, .slice eva m evc] 36 (0, 0)) := (hgg'.block (B + 1) (by omega) (fun e => hne1 e.symm)).trans ((HBDE.out.block (B + 1) hspD).trans HE2.out.c)
      have cg1 : wg.cell? ⟨B + 1, 1, none⟩ = some (.slice eva m evc) := cell_of_row wg (B + 1) 1 _ _ _ cg
      have fg1 : wg.frozen? ⟨B + 1, 1, none⟩ = false := frozen_of_row wg (B + 1) 1 _ _ cg
      have HSTEP : Hid (OE (B + 1) (B + 1) st (wg.setCell ⟨B + 1, 1, none⟩ (.slice ev'a (m + 1) ev'c)) (.slice ev'a (m + 1) ev'c) (ys ++ [.slice (some ⟨D, 0, none⟩) 1 1]) ((nums l).take m ++ [[decT u]])) := Lib.hid (by
        refine OE.step HE2.out (by rw [HD0.out]; omega) (by rw [HD0.out]; exact HBDE.out) (by rw [HD0.out]; exact HCO.out) hgg' (by rw [HLM.out]; exact hog) ?_
        rcases hkg with h | h
        · exact .inl h
        · exact .inr ⟨_, h, by simp⟩)
      have HBG : Hid (Below (B + 1) wr wg) := Lib.hid (by
        have h1 := (HBDE.out.mono (show B + 1 ≤ D0 by omega))
        have h2 := HB4.out.mono (show B + 1 ≤ wr.heap.size by omega)
        have h3 := h2.trans h1
        exact h3.grown hgg' (by omega) (fun b hb => (own_lt HRW.out hb).1))
      have HKS := Lib.hid cg1
      clear hog hgg hkg hgg' hne1 cg
      go_wp2_with fail
      refine hK _ _ (.inr HKS.out) ?_
      clear hK K
      (refine' planF_val rfl rfl (fun w' hS => ?_) ?_; rotate_left; (focus (go_simp; rfl)); simp only [Act.put, List.setIfInBounds_toArray, List.set_cons_zero, List.set_cons_succ])
      refine planF_do rfl (fun K hK => ?_)
      go_wp2_with fail
      refine hK _ _ (.inl trivial) ?_
      clear hK K
      refine planF_nil ?_
      clear cg1 fg1
      obtain ⟨wh, hwh⟩ : ∃ wh, wg.setCell ⟨B + 1, 1, none⟩ (.slice ev'a (m + 1) ev'c) = wh := ⟨_, rfl⟩
      have hzh : wh.heap.size = wg.heap.size := by rw [← hwh]; simp
      have HBH : Hid (Below (B + 1) wr wh) := Lib.hid (by rw [← hwh]; exact HBG.out.setCell (Nat.le_refl _) _)
      rw [hwh] at HSTEP ⊢
      have HHB := Lib.hid (HB3.out.trans HBH.out)
      have hzz : B + 1 < wh.heap.size := by omega
      clear hwh hzh
      go_wp2_with fail
      go_roundw
      case rel =>
        exact ⟨m + 1, .slice ev'a (m + 1) ev'c, ys ++ [.slice (some ⟨D, 0, none⟩) 1 1], by omega, by go_num, Lib.hid (by rw [List.take_add_one, HNE.out]; exact HSTEP.out), Lib.hid HHB.out, hzz⟩
      case measure => simp [intOf]; omega
    · skip
      obtain rfl : m = n := by omega
      have hte : (nums l).take m = nums l := List.take_of_length_le (by unfold nums; rw [List.length_map, HN.out]; exact Nat.le_refl _)
      rw [hte] at HE1
      obtain ⟨eva, evc, rfl⟩ := own_slice HE1.out.row
      obtain ⟨g0, g1, _⟩ := HE1.out.cells
      have hr := (HB3.out.block B (by omega)).trans HR1.out
      have r0 : wr.cell? ⟨B, 0, none⟩ = some (.string ⟨#[]⟩) := cell_of_row wr B 0 _ _ _ hr
      have r1 : wr.cell? ⟨B, 1, none⟩ = some (.slice none 0 0) := cell_of_row wr B 1 _ _ _ hr
      have z0 := frozen_of_row wr B 0 _ _ hr
      have z1 := frozen_of_row wr B 1 _ _ hr
      have HR := Lib.hid hr
      clear hte hr
      go_wp2_with fail
      refine bodyPost_ret (res_seg rfl _ rfl (heap_setCell_same _ B 1 _ _ _ (heap_setCell_same _ B 0 _ _ _ HR.out)) rfl) rfl ?_
      refine ⟨_, rfl, ?_, ((HB1.out.trans (HB3.out.mono (by omega))).setCell (Nat.le_refl _) _).setCell (Nat.le_refl _) _⟩
      have h5 : RowAt (fun b => B + 1 ≤ b ∧ b < wr.heap.size) wr (.slice eva (nums l).length evc) ys := own_rest (by rw [HE1.out.len]; exact HE1.out.row) (fun k hk => own_lt HE1.out.row hk)
      have far : ∀ k, B + 1 ≤ k → ((wr.setCell ⟨B, 0, none⟩ (.string st)).setCell ⟨B, 1, none⟩ (.slice eva (nums l).length evc)).heap[k]? = wr.heap[k]? := fun k hk => by
        rw [heap_setCell_other _ _ _ _ (by simp; omega), heap_setCell_other _ _ _ _ (by simp; omega)]
      refine ⟨ys, h5.cong (fun b hb => ⟨by omega, by simp; exact hb.2⟩) (fun b hb => far b hb.1), HE1.out.len, fun i e x h6 h7 => ?_⟩
      exact (HE1.out.el i e x h6 h7).cong (fun b hb => ⟨by omega, by simp; exact hb.2.1⟩) (fun b hb => far b hb.1)
end Go.Proofs.YteaaiejfieaalaaGreatDoor
