/-
  Texts WrapX, RefC, WrapO, RefE, MsgR4, MsgF, MsgZ1, NumQ, one behind the other. No condition beyond those stated in each.
-/
import Derived.Test.YtgfijlamhjjecaaGreatDoorMp7
import Derived.Test.YtgfijlamhjjecaaGreatDoorMp6
import Derived.Test.YtgfijlamhjjecaaGreatDoorMp1
import Derived.Laws.ResultCell
import Derived.IntWalk
import Derived.Test.YtgfijlamhjjecaaGreatDoorMp5
/-
  WrapX: contract of wrap.Parse. No condition beyond those stated.
-/
namespace Go.Proofs.YtgfijlamhjjecaaGreatDoor
open Go.RowKit
/-- an interchange as a value -/
def wv (x : WD) (v : Value) : Value := .agg #[.int .u8 (x.fr : Int), .int .u8 (x.dst : Int), .int .u64 (x.rf : Int), v]
def WParseQ (t : Str) (w : World) (e : Ending) (w' : World) : Prop := ∃ v, e = .returned (.tuple #[wv (wrapParseE t).1 v, .int .i64 (wrapParseE t).2]) ∧ SegsAt (fun k => w.heap.size ≤ k ∧ k < w'.heap.size) w' v (wrapParseE t).1.segs ∧ Below w.heap.size w w'
theorem wq_err {t : Str} {w w' : World} {k : Int} (h : wrapParseE t = (wd0, k)) (hb : Below w.heap.size w w') : WParseQ t w (.returned (.tuple #[.agg #[.int .u8 0, .int .u8 0, .int .u64 0, .slice none 0 0], .int .i64 k])) w' := by
  unfold WParseQ
  rw [h]
  exact ⟨.slice none 0 0, rfl, SegsAt.nil _ _, hb⟩
theorem res_wrap {fn : Func} {p u : Tmp} (h : fn.results = #[.cell p 41, .tmp u]) (tmps : Array Value) {w : World} {g : Nat} {cs : Array Value} {x : Value} {t : TypeId} (hp : tmps.getD p undef = .pointer (some ⟨g, 0, none⟩)) (hu : tmps.getD u undef = x)
    (hg : w.heap[g]? = some (.cells cs t (0, 0))) (hs : cs.size = 4) : (results fn tmps).run Tryz.prog w = .ok (.tuple #[.agg cs, x]) w := by
  rw [results_cell_tmp h, hp, hu]
  have hl : (loadVar 41 ⟨g, 0, none⟩).run Tryz.prog w = .ok (.agg cs) w := run_loadVar_row w g t 41 cs (0, 0) _ hg Tryz.underlying41 rfl (by rw [hs]; kernel_rfl)
  simp [asAddr, hl, Result.andThen]
/-- a struct of four cells, written anew -/
def put4 (w : World) (g : Nat) (a b c d : Value) : World := (((w.setCell ⟨g, 0, none⟩ a).setCell ⟨g, 1, none⟩ b).setCell ⟨g, 2, none⟩ c).setCell ⟨g, 3, none⟩ d
theorem put4_heap {w : World} {g : Nat} {x y z u : Value} {t : TypeId} (h : w.heap[g]? = some (.cells #[x, y, z, u] t (0, 0))) (a b c d : Value) : (put4 w g a b c d).heap[g]? = some (.cells #[a, b, c, d] t (0, 0)) := by
  have h0 := heap_setCell_same w g 0 _ _ a h
  have h1 := heap_setCell_same _ g 1 _ _ b h0
  have h2 := heap_setCell_same _ g 2 _ _ c h1
  have h3 := heap_setCell_same _ g 3 _ _ d h2
  exact h3
theorem put4_size (w : World) (g : Nat) (a b c d : Value) : (put4 w g a b c d).heap.size = w.heap.size := by unfold put4; simp
theorem put4_below {w0 w : World} {B g : Nat} (h : Below B w0 w) (hg : B ≤ g) (a b c d : Value) : Below B w0 (put4 w g a b c d) := (((h.setCell hg _).setCell hg _).setCell hg _).setCell hg _
theorem put4_other (w : World) (g : Nat) (a b c d : Value) {k : Nat} (hk : k ≠ g) : (put4 w g a b c d).heap[k]? = w.heap[k]? := by
  unfold put4
  rw [heap_setCell_other _ _ _ _ (by simpa using hk), heap_setCell_other _ _ _ _ (by simpa using hk), heap_setCell_other _ _ _ _ (by simpa using hk), heap_setCell_other _ _ _ _ (by simpa using hk)]
theorem cells4 {w : World} {g : Nat} {x y z u : Value} {t : TypeId} (h : w.heap[g]? = some (.cells #[x, y, z, u] t (0, 0))) : (w.cell? ⟨g, 0, none⟩ = some x ∧ w.cell? ⟨g, 1, none⟩ = some y ∧ w.cell? ⟨g, 2, none⟩ = some z ∧ w.cell? ⟨g, 3, none⟩ = some u) ∧ (w.frozen? ⟨g, 0, none⟩ = false ∧ w.frozen? ⟨g, 1, none⟩ = false ∧ w.frozen? ⟨g, 2, none⟩ = false ∧ w.frozen? ⟨g, 3, none⟩ = false) :=
  ⟨⟨cell_of_row w g 0 _ _ _ h, cell_of_row w g 1 _ _ _ h, cell_of_row w g 2 _ _ _ h, cell_of_row w g 3 _ _ _ h⟩, frozen_of_row w g 0 _ _ h, frozen_of_row w g 1 _ _ h, frozen_of_row w g 2 _ _ h, frozen_of_row w g 3 _ _ h⟩
/-- what lies there while the head and the tail are read -/
structure PK (B N n b off : Nat) (th : Str) (xh : Value) (tz : Str) (xz : Value) (w : World) : Prop where
  res : w.heap[B]? = some (.cells #[.int .u8 0, .int .u8 0, .int .u64 0, .slice none 0 0] 41 (0, 0))
  cn : w.cell? ⟨N, 0, none⟩ = some (.int .i64 (n : Int))
  h0 : w.cell? ⟨b, off, none⟩ = some (sv th)
  h1 : w.cell? ⟨b, off + 1, none⟩ = some xh
  z0 : w.cell? ⟨b, off + (n - 1) * 2, none⟩ = some (sv tz)
  z1 : w.cell? ⟨b, off + (n - 1) * 2 + 1, none⟩ = some xz
theorem PK.on {B N n b off M : Nat} {th : Str} {xh : Value} {tz : Str} {xz : Value} {w w' : World} (h : PK B N n b off th xh tz xz w) (hb : Below M w w') (hM : w.heap.size ≤ M) : PK B N n b off th xh tz xz w' :=
  ⟨(hb.block B (Nat.lt_of_lt_of_le (Array.getElem?_eq_some_iff.1 h.res).1 hM)).trans h.res, (hb.cell (Nat.lt_of_lt_of_le (cell_lt' h.cn) hM)).trans h.cn, (hb.cell (Nat.lt_of_lt_of_le (cell_lt' h.h0) hM)).trans h.h0, (hb.cell (Nat.lt_of_lt_of_le (cell_lt' h.h1) hM)).trans h.h1, (hb.cell (Nat.lt_of_lt_of_le (cell_lt' h.z0) hM)).trans h.z0, (hb.cell (Nat.lt_of_lt_of_le (cell_lt' h.z1) hM)).trans h.z1⟩
/-- what lies there while the numbers are read -/
structure NK (eb eo zb zo : Nat) (x0 x1 x2 y0 y1 : Value) (e0 e1 e2 g0 g1 : List Str) (w : World) : Prop where
  c0 : w.cell? ⟨eb, eo, none⟩ = some x0
  c1 : w.cell? ⟨eb, eo + 1, none⟩ = some x1
  c2 : w.cell? ⟨eb, eo + 2, none⟩ = some x2
  c3 : w.cell? ⟨zb, zo, none⟩ = some y0
  c4 : w.cell? ⟨zb, zo + 1, none⟩ = some y1
  k0 : CompsAt (fun k => k < w.heap.size) w x0 e0
  k1 : CompsAt (fun k => k < w.heap.size) w x1 e1
  k2 : CompsAt (fun k => k < w.heap.size) w x2 e2
  k3 : CompsAt (fun k => k < w.heap.size) w y0 g0
  k4 : CompsAt (fun k => k < w.heap.size) w y1 g1
theorem NK.on {eb eo zb zo M : Nat} {x0 x1 x2 y0 y1 : Value} {e0 e1 e2 g0 g1 : List Str} {w w' : World} (h : NK eb eo zb zo x0 x1 x2 y0 y1 e0 e1 e2 g0 g1 w) (hb : Below M w w') (hM : w.heap.size ≤ M) : NK eb eo zb zo x0 x1 x2 y0 y1 e0 e1 e2 g0 g1 w' := by
  have hc : ∀ {b o : Nat} {v : Value}, w.cell? ⟨b, o, none⟩ = some v → w'.cell? ⟨b, o, none⟩ = some v := fun h1 => (hb.cell (Nat.lt_of_lt_of_le (cell_lt' h1) hM)).trans h1
  have hk : ∀ {x : Value} {e : List Str}, CompsAt (fun k => k < w.heap.size) w x e → CompsAt (fun k => k < w'.heap.size) w' x e := fun h1 => h1.cong (fun k hk => by have := hb.size; omega) (fun k hk => hb.block k (by omega))
  exact ⟨hc h.c0, hc h.c1, hc h.c2, hc h.c3, hc h.c4, hk h.k0, hk h.k1, hk h.k2, hk h.k3, hk h.k4⟩
theorem nk_of {w : World} {xh xz : Value} {e0 e1 e2 g0 g1 : List Str} (h : ElemsAt (fun k => k < w.heap.size) w xh [e0, e1, e2]) (h' : ElemsAt (fun k => k < w.heap.size) w xz [g0, g1]) :
    ∃ eb eo ec zb zo zc x0 x1 x2 y0 y1, xh = .slice (some ⟨eb, eo, none⟩) 3 ec ∧ 3 ≤ ec ∧ ec ≤ maxLen ∧ xz = .slice (some ⟨zb, zo, none⟩) 2 zc ∧ 2 ≤ zc ∧ zc ≤ maxLen ∧ NK eb eo zb zo x0 x1 x2 y0 y1 e0 e1 e2 g0 g1 w := by
  obtain ⟨xo, xc, rfl, hx1, hx2⟩ := h.form
  obtain ⟨yo, yc, rfl, hy1, hy2⟩ := h'.form
  obtain ⟨eb, eo, x0, rfl, _, c0, k0⟩ := h.get (k := 0) (e := e0) rfl
  obtain ⟨_, _, x1, hb1, _, c1, k1⟩ := h.get (k := 1) (e := e1) rfl
  cases hb1
  obtain ⟨_, _, x2, hb2, _, c2, k2⟩ := h.get (k := 2) (e := e2) rfl
  cases hb2
  obtain ⟨zb, zo, y0, rfl, _, c3, k3⟩ := h'.get (k := 0) (e := g0) rfl
  obtain ⟨_, _, y1, hb4, _, c4, k4⟩ := h'.get (k := 1) (e := g1) rfl
  cases hb4
  exact ⟨eb, eo, xc, zb, zo, yc, x0, x1, x2, y0, y1, rfl, hx1, hx2, rfl, hy1, hy2, c0, c1, c2, c3, c4, k0, k1, k2, k3, k4⟩
/-- variables in cells of their own -/
def VK (l : List (Nat × Value)) (w : World) : Prop := ∀ p ∈ l, w.cell? ⟨p.1, 0, none⟩ = some p.2
theorem VK.on {l : List (Nat × Value)} {M : Nat} {w w' : World} (h : VK l w) (hb : Below M w w') (hM : w.heap.size ≤ M) : VK l w' := fun p hp => (hb.cell (Nat.lt_of_lt_of_le (cell_lt' (h p hp)) hM)).trans (h p hp)
theorem VK.alloc {l : List (Nat × Value)} {w : World} (h : VK l w) (o : Obj) : VK l (w.alloc o) := h.on ((Below.refl _ w).alloc (Nat.le_refl _) o) (Nat.le_refl _)
theorem VK.cons {l : List (Nat × Value)} {w : World} {p : Nat × Value} (h : VK l w) (hp : w.cell? ⟨p.1, 0, none⟩ = some p.2) : VK (p :: l) w := fun q hq => by
  rcases List.mem_cons.1 hq with rfl | hq
  · exact hp
  · exact h q hq
/-- head and tail of segments that lie somewhere -/
theorem pk_of {S : Nat → Prop} {w : World} {v : Value} {th tz : Str} {eh ez : List (List Str)} {m : List Seg} {n : Nat} (h : SegsAt S w v (⟨th, eh⟩ :: (m ++ [⟨tz, ez⟩]))) (hn : (⟨th, eh⟩ :: (m ++ [⟨tz, ez⟩]) : List Seg).length = n) :
    ∃ b off cap xh xz, v = .slice (some ⟨b, off, none⟩) n cap ∧ n ≤ cap ∧ cap ≤ maxLen ∧ S b ∧ (w.cell? ⟨b, off, none⟩ = some (sv th) ∧ w.cell? ⟨b, off + 1, none⟩ = some xh ∧ w.cell? ⟨b, off + (n - 1) * 2, none⟩ = some (sv tz) ∧ w.cell? ⟨b, off + (n - 1) * 2 + 1, none⟩ = some xz) ∧ ElemsAt S w xh eh ∧ ElemsAt S w xz ez := by
  obtain ⟨ao, cap, rfl, h1, h2⟩ := h.form
  have hnm : n - 1 = m.length + 1 := by rw [← hn]; simp
  obtain ⟨b, off, xh, rfl, hS, c0, c1, he⟩ := h.get (k := 0) (s := ⟨th, eh⟩) rfl
  obtain ⟨b', off', xz, hbb, _, c2, c3, he'⟩ := h.get (k := n - 1) (s := ⟨tz, ez⟩) (by rw [hnm]; simp)
  cases hbb
  rw [Nat.zero_mul, Nat.add_zero] at c0 c1
  rw [hn] at h1 ⊢
  exact ⟨b, off, cap, xh, xz, rfl, h1, h2, hS, ⟨c0, c1, c2, c3⟩, he, he'⟩
theorem ends_of {l : List Seg} (h : ¬ l.length < 2) : ∃ a m z, l = a :: (m ++ [z]) := by
  cases l with
  | nil => simp at h
  | cons a r =>
    have hr : r ≠ [] := by rintro rfl; simp at h
    exact ⟨a, r.dropLast, r.getLast hr, by rw [List.dropLast_concat_getLast]⟩
/-- a part of segments -/
theorem SegsAt.sub {S : Nat → Prop} {w : World} {b off n cap : Nat} {l : List Seg} (H : SegsAt S w (.slice (some ⟨b, off, none⟩) n cap) l) {lo hi c' : Nat} (_h1 : lo ≤ hi) (h2 : hi ≤ l.length) (hc : hi - lo ≤ c') (hc2 : c' ≤ maxLen) : SegsAt S w (.slice (some ⟨b, off + lo * 2, none⟩) (hi - lo) c') ((l.take hi).drop lo) := by
  obtain ⟨ao, cap', xs, e, k1, k2, k3, k4, k5, k6⟩ := H
  cases e
  have hlen : ((l.take hi).drop lo).length = hi - lo := by rw [List.length_drop, List.length_take, Nat.min_eq_left h2]
  have hget : ∀ {α : Type} (l : List α) (i : Nat) (s : α), ((l.take hi).drop lo)[i]? = some s → l[lo + i]? = some s := fun l i s hs => by
    rw [List.getElem?_drop] at hs
    rw [List.getElem?_take] at hs
    split at hs
    · exact hs
    · cases hs
  refine ⟨some ⟨b, off + lo * 2, none⟩, c', (xs.take hi).drop lo, by rw [hlen], by rw [hlen]; exact hc, hc2, (fun e => by cases e), by rw [hlen, List.length_drop, List.length_take, k4, Nat.min_eq_left h2], fun i s x hs hx => k5 _ s x (hget l i s hs) (hget xs i x hx), fun hne => ?_⟩
  have hl0 : l ≠ [] := by rintro rfl; exact hne (by simp)
  obtain ⟨b', off', e, hS, hcell⟩ := k6 hl0
  cases e
  refine ⟨b, off + lo * 2, rfl, hS, fun i s x hs hx => ?_⟩
  obtain ⟨a1, a2⟩ := hcell _ s x (hget l i s hs) (hget xs i x hx)
  rw [show off + lo * 2 + i * 2 = off + (lo + i) * 2 by omega]
  exact ⟨a1, a2⟩
set_option maxRecDepth 100000 in
set_option maxHeartbeats 8000000 in
theorem wParse_any (s : ByteArray) (w : World) (hv : VarsOk w) : Calls Tryz.prog 60 #[.string s] w fun e w' => WParseQ s.data.toList w e w' := by
  obtain ⟨B, hB⟩ : ∃ B, w.heap.size = B := ⟨_, rfl⟩
  by_cases hbig : 65536 < s.size
  · skip
    have hE : wrapParseE s.data.toList = (wd0, 2) := by
      have h1 : parseE s.data.toList = ([], 0, 2) := by unfold parseE; rw [if_pos (by simpa using hbig)]
      unfold wrapParseE
      rw [h1]; rfl
    have HE := Lib.hid hE
    have HBG := Lib.hid (parse_big s hbig)
    clear hE hbig
    go_enter Tryz.func60, Tryz.ntmps60
    go_wp2_with (go_at_call 100; refine (HBG.out _).mono ?_; rintro e w' ⟨rfl, rfl⟩)
    refine bodyPost_ret (res_wrap rfl _ rfl rfl (by rw [← hB]; exact heap_alloc_new _ _) rfl) rfl (wq_err HE.out ((Below.refl _ _).alloc (Nat.le_refl _) _))
  · skip
    have hs : s.size ≤ 65536 := by omega
    have HPA := Lib.hid (parse_own s hs)
    cases hpe : parseE s.data.toList with
    | mk l r =>
    obtain ⟨i, k⟩ := r
    have HPE := Lib.hid hpe
    rw [hpe] at HPA
    have hz1 : (w.alloc (.cells #[.int .u8 0, .int .u8 0, .int .u64 0, .slice none 0 0] 41)).heap.size = B + 1 := by simp [hB]
    have hB1 : Below B w (w.alloc (.cells #[.int .u8 0, .int .u8 0, .int .u64 0, .slice none 0 0] 41)) := by rw [← hB]; exact (Below.refl _ _).alloc (Nat.le_refl _) _
    have hc1 : (w.alloc (.cells #[.int .u8 0, .int .u8 0, .int .u64 0, .slice none 0 0] 41)).heap[B]? = some (.cells #[.int .u8 0, .int .u8 0, .int .u64 0, .slice none 0 0] 41 (0, 0)) := by rw [← hB]; exact heap_alloc_new _ _
    have HZ1 := Lib.hid hz1
    have HB1 := Lib.hid hB1
    have HC1 := Lib.hid hc1
    have HBQ := Lib.hid hB
    have hpe' := hpe
    have hs' := hs
    clear hpe hz1 hB1 hc1 hbig hs
    by_cases hk : k = 0
    · skip
      subst hk
      have HWE : Hid (wrapParseE s.data.toList = wrapOf l) := Lib.hid (by unfold wrapParseE; rw [HPE.out, if_pos rfl])
      by_cases hl2 : l.length < 2
      · skip
        clear hpe' hs'
        have hE : wrapParseE s.data.toList = (wd0, 40) := by
          rw [HWE.out]
          match l, hl2 with
          | [], _ => rfl
          | [a], _ => rfl
        have HE := Lib.hid hE
        obtain ⟨n, hn⟩ : ∃ n, l.length = n := ⟨_, rfl⟩
        have HN := Lib.hid hn
        rw [hn] at hl2
        have i2 : (n : Int) < 2 := by omega
        clear hE hn
        go_enter Tryz.func60, Tryz.ntmps60
        go_wp2_with (go_at_call 100; refine (HPA.out _).mono ?_; rw [HZ1.out]; rintro e w2 ⟨v, rfl, hso, hbe⟩; have HSO := Lib.hid hso.lies; have HBE := Lib.hid hbe; obtain ⟨va, vc, rfl, hv1, hv2⟩ := hso.lies.form; rw [HN.out] at hv1 ⊢; have hc2 := (hbe.block B (by omega)).trans HC1.out; have hz2 := hbe.size; rw [HZ1.out] at hz2; have hb3 := hbe.alloc hz2 (.cells #[.int .i64 (n : Int)] 3); have hc3 := (hb3.block B (by omega)).trans HC1.out; obtain ⟨⟨d0, d1, d2, d3⟩, f0, f1, f2, f3⟩ := cells4 hc3; have HC3 := Lib.hid hc3; have HB3 := Lib.hid hb3; clear hso hbe hb3 hc2 hc3)
        exact bodyPost_ret (res_wrap rfl _ rfl rfl (put4_heap HC3.out _ _ _ _) rfl) rfl (wq_err HE.out (by rw [HBQ.out]; exact put4_below (HB1.out.trans (HB3.out.mono (by omega))) (Nat.le_refl _) _ _ _ _))
      · skip
        obtain ⟨⟨th, eh⟩, m, ⟨tz, ez⟩, rfl⟩ := ends_of hl2
        have hok := (print_parse hpe' (by simpa using hs')).2
        obtain ⟨n, hn⟩ : ∃ n, (⟨th, eh⟩ :: (m ++ [⟨tz, ez⟩]) : List Seg).length = n := ⟨_, rfl⟩
        have hnm : n = m.length + 2 := by rw [← hn]; simp
        have HN := Lib.hid hn
        have HNM := Lib.hid hnm
        have HOK := Lib.hid hok
        have hn64 : n ≤ 64 := by rw [← hn]; exact hok.1
        have hn2 : 2 ≤ n := by omega
        have i2 : decide ((n : Int) < 2) = false := by rw [decide_eq_false_iff_not]; omega
        have en1 : (n : Int) - 1 = ((n - 1 : Nat) : Int) := by omega
        have i3 : (0 : Int) ≤ ((n - 1 : Nat) : Int) := by omega
        have i4 : ((n - 1 : Nat) : Int) < (n : Int) := by omega
        clear hn hok hnm hl2 hpe' hs'
        go_enter Tryz.func60, Tryz.ntmps60
        go_wp2_with ((go_at_call 100); refine (HPA.out _).mono ?_; rw [HZ1.out]; rintro e w2 ⟨v, rfl, hso, hbe⟩; have HSO := Lib.hid hso.lies; have HBE := Lib.hid hbe; obtain ⟨b, off, cap, xh, xz, rfl, hv1, hv2, hSb, ⟨g0, g1, g2, g3⟩, he, he'⟩ := pk_of hso.lies HN.out; have hz2 := hbe.size; rw [HZ1.out] at hz2; have hb3 := hbe.alloc hz2 (.cells #[.int .i64 (n : Int)] 3); have HPK : Hid (PK B w2.heap.size n b off th xh tz xz (w2.alloc (.cells #[.int .i64 (n : Int)] 3))) := Lib.hid ⟨(hb3.block B (by omega)).trans HC1.out, (by simp), ((Below.refl _ w2).alloc (Nat.le_refl _) _).cell (cell_lt' g0) |>.trans g0, ((Below.refl _ w2).alloc (Nat.le_refl _) _).cell (cell_lt' g1) |>.trans g1, ((Below.refl _ w2).alloc (Nat.le_refl _) _).cell (cell_lt' g2) |>.trans g2, ((Below.refl _ w2).alloc (Nat.le_refl _) _).cell (cell_lt' g3) |>.trans g3⟩; have HB3 := Lib.hid hb3; have HEH := Lib.hid he; have HEZ := Lib.hid he'; unfold maxLen at hv2; clear hso hbe he he' g0 g1 g2 g3 hb3 hSb; obtain ⟨p0, p1, p2, p3, p4, p5⟩ := HPK.out)
        have hvw := hv.on (HB1.out.trans (HB3.out.mono (by omega))) (by rw [HBQ.out]; exact Nat.le_refl _)
        have HBB : Hid (Below B w (w2.alloc (.cells #[.int .i64 (n : Int)] 3))) := Lib.hid (HB1.out.trans (HB3.out.mono (by omega)))
        have HSG : Hid (SegsAt (fun k => B + 1 ≤ k ∧ k < (w2.alloc (.cells #[.int .i64 (n : Int)] 3)).heap.size) (w2.alloc (.cells #[.int .i64 (n : Int)] 3)) (.slice (some ⟨b, off, none⟩) n cap) (⟨th, eh⟩ :: (m ++ [⟨tz, ez⟩]))) := Lib.hid (HSO.out.cong (fun k hk => ⟨by omega, by simp; omega⟩) (fun k hk => Below.heap_alloc _ _ _ hk.2))
        have HEH3 : Hid (ElemsAt (fun k => k < (w2.alloc (.cells #[.int .i64 (n : Int)] 3)).heap.size) (w2.alloc (.cells #[.int .i64 (n : Int)] 3)) xh eh) := Lib.hid (HEH.out.cong (fun k hk => by simp; omega) (fun k hk => Below.heap_alloc _ _ _ hk.2))
        have HEZ3 : Hid (ElemsAt (fun k => k < (w2.alloc (.cells #[.int .i64 (n : Int)] 3)).heap.size) (w2.alloc (.cells #[.int .i64 (n : Int)] 3)) xz ez) := Lib.hid (HEZ.out.cong (fun k hk => by simp; omega) (fun k hk => Below.heap_alloc _ _ _ hk.2))
        have HVW := Lib.hid hvw
        clear hvw HSO HBE HB3 HEH HEZ p0 p1 p2 p3 p4 p5 hz2 hv
        obtain ⟨N, hN⟩ : ∃ N, w2.heap.size = N := ⟨_, rfl⟩
        have hN3 : (w2.alloc (.cells #[.int .i64 (n : Int)] 3)).heap.size = N + 1 := by simp [hN]
        obtain ⟨w3, hw3⟩ : ∃ w3, w2.alloc (.cells #[.int .i64 (n : Int)] 3) = w3 := ⟨_, rfl⟩
        rw [hw3] at HBB HSG HEH3 HEZ3 HVW hN3 HPK ⊢
        rw [hN] at HPK ⊢
        have HN3 := Lib.hid hN3
        clear hN3 hN hw3
        have hBN : B ≤ w3.heap.size := by rw [← HBQ.out]; exact HBB.out.size
        by_cases h1 : th = unb ∧ eh.length = 3
        · skip
          refine (is_any w3 th xh eh HEH3.out _ _).mono ?_
          rw [decide_eq_true (by exact h1)]
          rintro e w4 ⟨rfl, hb4⟩
          have HK4 := Lib.hid (HPK.out.on hb4 (Nat.le_refl _))
          obtain ⟨p0, p1, p2, p3, p4, p5⟩ := HK4.out
          have HB4 := Lib.hid (HBB.out.trans (hb4.mono hBN))
          have HEZ4 := Lib.hid (HEZ3.out.cong (T := fun k => k < w4.heap.size) (w' := w4) (fun k hk => by have := hb4.size; omega) (fun k hk => hb4.block k hk))
          have HB34 := Lib.hid hb4
          clear hb4
          go_wp2_with fail
          refine (is_any w4 tz xz ez HEZ4.out _ _).mono ?_
          by_cases h2 : tz = unz ∧ ez.length = 2
          · skip
            rw [decide_eq_true (by exact h2)]
            rintro e w5 ⟨rfl, hb5⟩
            obtain ⟨e0, e1, e2, rfl⟩ : ∃ e0 e1 e2, eh = [e0, e1, e2] := by
              match eh, h1.2 with
              | [a, b, c], _ => exact ⟨a, b, c, rfl⟩
            obtain ⟨g0, g1, rfl⟩ : ∃ g0 g1, ez = [g0, g1] := by
              match ez, h2.2 with
              | [a, b], _ => exact ⟨a, b, rfl⟩
            obtain ⟨rfl, _⟩ := h1
            obtain ⟨rfl, _⟩ := h2
            obtain ⟨eb, eo, ec, zb, zo, zc, x0, x1, x2, y0, y1, rfl, hec1, hec2, rfl, hzc1, hzc2, hnk⟩ := nk_of HEH3.out HEZ3.out
            have nk3 := hnk
            have hb35 : Below w3.heap.size w3 w5 := HB34.out.trans (hb5.mono HB34.out.size)
            have HK5 := Lib.hid (HPK.out.on hb35 (Nat.le_refl _))
            have HNK5 := Lib.hid (hnk.on hb35 (Nat.le_refl _))
            have HB35 := Lib.hid hb35
            unfold maxLen at hec2 hzc2
            clear hb5 p0 p1 p2 p3 p4 p5 hnk hb35 HB34 HK4 HEZ4 HB4
            obtain ⟨p0, p1, p2, p3, p4, p5⟩ := HK5.out
            go_wp2_with fail
            go_quiet (fail)
            clear p0 p1 p2 p3 p4 p5
            have hb36 : Below w3.heap.size w3 (w5.drewN nq) := HB35.out.trans (Drew.below ⟨nq, rfl⟩ _)
            obtain ⟨w6, hw6⟩ : ∃ w6, w5.drewN nq = w6 := ⟨_, rfl⟩
            rw [hw6] at hb36 ⊢
            have HB36 := Lib.hid hb36
            have HVK6 : Hid (VK [] w6) := Lib.hid (fun p hp => by simp at hp)
            have hlen : ∀ e, e ∈ [e0, e1, e2, g0, g1] → ∀ p ∈ e, p.length ≤ 1048576 := fun e he p hp => by
              have h1 := HOK.out.2
              have h2 : p.length ≤ 256 := by
                simp only [List.mem_cons, List.not_mem_nil, or_false] at he
                rcases he with rfl | rfl | rfl | rfl | rfl
                · exact (((h1 ⟨unb, [e, e1, e2]⟩ (by simp)).2.2 e (by simp)).2.2 p hp).1
                · exact (((h1 ⟨unb, [e0, e, e2]⟩ (by simp)).2.2 e (by simp)).2.2 p hp).1
                · exact (((h1 ⟨unb, [e0, e1, e]⟩ (by simp)).2.2 e (by simp)).2.2 p hp).1
                · exact (((h1 ⟨unz, [e, g1]⟩ (by simp)).2.2 e (by simp)).2.2 p hp).1
                · exact (((h1 ⟨unz, [g0, e]⟩ (by simp)).2.2 e (by simp)).2.2 p hp).1
              omega
            have HLEN := Lib.hid hlen
            clear hlen hw6 hb36 HB35 HK5 HNK5
            have HNK3 := Lib.hid (nk3 : NK eb eo zb zo x0 x1 x2 y0 y1 e0 e1 e2 g0 g1 w3)
            clear nk3
            have c0 := (HNK3.out.on HB36.out (Nat.le_refl _)).c0
            go_wp2_with fail
            refine (num8_any w6 x0 e0 (HNK3.out.on HB36.out (Nat.le_refl _)).k0 (HLEN.out e0 (by simp)) (HVW.out.on HB36.out (Nat.le_refl _))).mono ?_
            rintro e w7 ⟨r0, b0, rfl, hq0, hb7⟩
            have hb37 : Below w3.heap.size w3 (w7.alloc (.cells #[.bool b0] 4)) := (HB36.out.trans (hb7.mono HB36.out.size)).alloc (Nat.le_trans HB36.out.size hb7.size) _
            have HQ0 := Lib.hid hq0
            have hvk7 : VK [(w7.heap.size, .bool b0)] (w7.alloc (.cells #[.bool b0] 4)) := ((HVK6.out.on hb7 (Nat.le_refl _)).alloc _).cons (by simp)
            have HVK7 := Lib.hid hvk7
            have HB37 := Lib.hid hb37
            clear hq0 hb7 hvk7 c0
            have c1 := (HNK3.out.on hb37 (Nat.le_refl _)).c1
            clear hb37
            go_wp2_with fail
            obtain ⟨P0, hP0⟩ : ∃ z, w7.heap.size = z := ⟨_, rfl⟩
            obtain ⟨w8, hw8⟩ : ∃ w8, w7.alloc (.cells #[.bool b0] 4) = w8 := ⟨_, rfl⟩
            rw [hP0] at HVK7 ⊢
            rw [hw8] at HVK7 HB37 c1 ⊢
            clear hP0 hw8 HVK6 c1
            refine (num8_any w8 x1 e1 (HNK3.out.on HB37.out (Nat.le_refl _)).k1 (HLEN.out e1 (by simp)) (HVW.out.on HB37.out (Nat.le_refl _))).mono ?_
            rintro e w9 ⟨r1, b1, rfl, hq1, hb9⟩
            have hb39 : Below w3.heap.size w3 (w9.alloc (.cells #[.bool b1] 4)) := (HB37.out.trans (hb9.mono HB37.out.size)).alloc (Nat.le_trans HB37.out.size hb9.size) _
            have HQ1 := Lib.hid hq1
            have hvk9 : VK [(w9.heap.size, .bool b1), (P0, .bool b0)] (w9.alloc (.cells #[.bool b1] 4)) := ((HVK7.out.on hb9 (Nat.le_refl _)).alloc _).cons (by simp)
            have HVK9 := Lib.hid hvk9
            have HB39 := Lib.hid hb39
            clear hq1 hb9 hvk9 HB37 HVK7 HB36
            have c2 := (HNK3.out.on hb39 (Nat.le_refl _)).c2
            clear hb39
            go_wp2_with fail
            obtain ⟨P1, hP1⟩ : ∃ z, w9.heap.size = z := ⟨_, rfl⟩
            obtain ⟨wa, hwa⟩ : ∃ wa, w9.alloc (.cells #[.bool b1] 4) = wa := ⟨_, rfl⟩
            rw [hP1] at HVK9 ⊢
            rw [hwa] at HVK9 HB39 c2 ⊢
            clear hP1 hwa c2
            refine (num64_any wa x2 e2 (HNK3.out.on HB39.out (Nat.le_refl _)).k2 (HLEN.out e2 (by simp)) (HVW.out.on HB39.out (Nat.le_refl _))).mono ?_
            rintro e wb ⟨r2, b2, rfl, hq2, hbb⟩
            have HBc' : Below w3.heap.size w3 ((wb.alloc (.cells #[.int .u64 r2] 22)).alloc (.cells #[.bool b2] 4)) := ((HB39.out.trans (hbb.mono HB39.out.size)).alloc (Nat.le_trans HB39.out.size hbb.size) _).alloc (by simp; exact Nat.le_trans (Nat.le_trans HB39.out.size hbb.size) (Nat.le_succ _)) _
            have HQ2 := Lib.hid hq2
            have hvkwb : VK ((wb.heap.size + 1, .bool b2) :: (wb.heap.size, .int .u64 r2) :: [(P1, .bool b1), (P0, .bool b0)]) ((wb.alloc (.cells #[.int .u64 r2] 22)).alloc (.cells #[.bool b2] 4)) := ((((HVK9.out.on hbb (Nat.le_refl _)).alloc _).cons (by simp)).alloc _).cons (by simp)
            have HVKc := Lib.hid hvkwb
            have HBc := Lib.hid HBc'
            have c3 := (HNK3.out.on HBc' (Nat.le_refl _)).c3
            clear hq2 hbb hvkwb HB39 HVK9 HBc'
            go_wp2_with fail
            obtain ⟨P2, hP2⟩ : ∃ z, wb.heap.size = z := ⟨_, rfl⟩
            obtain ⟨wc, hwc⟩ : ∃ wn, (wb.alloc (.cells #[.int .u64 r2] 22)).alloc (.cells #[.bool b2] 4) = wn := ⟨_, rfl⟩
            rw [hP2] at HVKc ⊢
            rw [hwc] at HVKc HBc c3 ⊢
            clear hP2 hwc c3
            refine (num64_any wc y0 g0 (HNK3.out.on HBc.out (Nat.le_refl _)).k3 (HLEN.out g0 (by simp)) (HVW.out.on HBc.out (Nat.le_refl _))).mono ?_
            rintro e wd ⟨r3, b3, rfl, hq3, hbwd⟩
            have HBe' : Below w3.heap.size w3 ((wd.alloc (.cells #[.int .u64 r3] 22)).alloc (.cells #[.bool b3] 4)) := ((HBc.out.trans (hbwd.mono HBc.out.size)).alloc (Nat.le_trans HBc.out.size hbwd.size) _).alloc (by simp; exact Nat.le_trans (Nat.le_trans HBc.out.size hbwd.size) (Nat.le_succ _)) _
            have HQ3 := Lib.hid hq3
            have hvkwd : VK ((wd.heap.size + 1, .bool b3) :: (wd.heap.size, .int .u64 r3) :: [(P2 + 1, .bool b2), (P2, .int .u64 r2), (P1, .bool b1), (P0, .bool b0)]) ((wd.alloc (.cells #[.int .u64 r3] 22)).alloc (.cells #[.bool b3] 4)) := ((((HVKc.out.on hbwd (Nat.le_refl _)).alloc _).cons (by simp)).alloc _).cons (by simp)
            have HVKe := Lib.hid hvkwd
            have HBe := Lib.hid HBe'
            have c4 := (HNK3.out.on HBe' (Nat.le_refl _)).c4
            clear hq3 hbwd hvkwd HBc HVKc HBe'
            go_wp2_with fail
            obtain ⟨P4, hP4⟩ : ∃ z, wd.heap.size = z := ⟨_, rfl⟩
            obtain ⟨we, hwe⟩ : ∃ wn, (wd.alloc (.cells #[.int .u64 r3] 22)).alloc (.cells #[.bool b3] 4) = wn := ⟨_, rfl⟩
            rw [hP4] at HVKe ⊢
            rw [hwe] at HVKe HBe c4 ⊢
            clear hP4 hwe c4
            refine (num64_any we y1 g1 (HNK3.out.on HBe.out (Nat.le_refl _)).k4 (HLEN.out g1 (by simp)) (HVW.out.on HBe.out (Nat.le_refl _))).mono ?_
            rintro e wf ⟨r4, b4, rfl, hq4, hbwf⟩
            have HBg' : Below w3.heap.size w3 ((wf.alloc (.cells #[.int .u64 r4] 22)).alloc (.cells #[.bool b4] 4)) := ((HBe.out.trans (hbwf.mono HBe.out.size)).alloc (Nat.le_trans HBe.out.size hbwf.size) _).alloc (by simp; exact Nat.le_trans (Nat.le_trans HBe.out.size hbwf.size) (Nat.le_succ _)) _
            have HQ4 := Lib.hid hq4
            have hvkwf : VK ((wf.heap.size + 1, .bool b4) :: (wf.heap.size, .int .u64 r4) :: [(P4 + 1, .bool b3), (P4, .int .u64 r3), (P2 + 1, .bool b2), (P2, .int .u64 r2), (P1, .bool b1), (P0, .bool b0)]) ((wf.alloc (.cells #[.int .u64 r4] 22)).alloc (.cells #[.bool b4] 4)) := ((((HVKe.out.on hbwf (Nat.le_refl _)).alloc _).cons (by simp)).alloc _).cons (by simp)
            have HVKg := Lib.hid hvkwf
            have HBg := Lib.hid HBg'
            clear hq4 hbwf hvkwf HBe HVKe HBg'
            go_wp2_with fail
            have hwgs : ((wf.alloc (.cells #[.int .u64 r4] 22)).alloc (.cells #[.bool b4] 4)).heap.size = wf.heap.size + 2 := by simp
            obtain ⟨P6, hP6⟩ : ∃ z, wf.heap.size = z := ⟨_, rfl⟩
            obtain ⟨wg, hwg⟩ : ∃ wn, (wf.alloc (.cells #[.int .u64 r4] 22)).alloc (.cells #[.bool b4] 4) = wn := ⟨_, rfl⟩
            rw [hP6] at HVKg hwgs ⊢
            rw [hwg] at HVKg HBg hwgs ⊢
            clear hP6 hwg
            obtain ⟨FS, hFS⟩ : ∃ FS : Array Value, FS = #[.func (.func 104) #[] #[.pointer (some ⟨P0, 0, none⟩), .pointer (some ⟨P1, 0, none⟩), .pointer (some ⟨P2 + 1, 0, none⟩), .pointer (some ⟨P4 + 1, 0, none⟩), .pointer (some ⟨P6 + 1, 0, none⟩)], .int .i64 40, .func (.func 105) #[] #[.pointer (some ⟨P4, 0, none⟩), .pointer (some ⟨N, 0, none⟩)], .int .i64 41, .func (.func 106) #[] #[.pointer (some ⟨P2, 0, none⟩), .pointer (some ⟨P6, 0, none⟩)], .int .i64 42] := ⟨_, rfl⟩
            rw [← hFS]
            have hT : (wg.alloc (.cells FS 185)).heap[P6 + 2]? = some (.cells FS 185 (0, 0)) := by rw [← hwgs]; exact heap_alloc_new _ _
            have hBz : Below w3.heap.size w3 (wg.alloc (.cells FS 185)) := HBg.out.alloc HBg.out.size _
            have hVz := HVKg.out.alloc (.cells FS 185)
            obtain ⟨wz, hwz⟩ : ∃ wz, wg.alloc (.cells FS 185) = wz := ⟨_, rfl⟩
            rw [hwz] at hT hBz hVz ⊢
            have HT := Lib.hid hT
            have HBz := Lib.hid hBz
            have HVz := Lib.hid hVz
            have HFS := Lib.hid hFS
            have HCT : ∀ (w' : World), Below wz.heap.size wz w' → ∀ (j : Nat) (x : Value), FS[j]? = some x → w'.cell? ⟨P6 + 2, j, none⟩ = some x := fun w' hb j x hx => by
              rw [cell_of_row w' (P6 + 2) j _ _ _ ((hb.block _ (Array.getElem?_eq_some_iff.1 HT.out).1).trans HT.out)]; exact hx
            have HCT := Lib.hid HCT
            have HPz := Lib.hid (HPK.out.on hBz (Nat.le_refl _))
            clear hT hBz hVz hwz hwgs hFS HVKg HBg
            refine wp_loop_rounds 4 ?_
            have HHT := Lib.hid (wrapHT_num (m := m) HQ0.out HQ1.out HQ2.out HQ3.out HQ4.out)
            clear HQ0 HQ1 HQ2 HQ3 HQ4 HEH3 HEZ3 HNK3 HLEN
            have t0 := HCT.out wz (Below.refl _ _) 0 _ (by rw [HFS.out]; rfl)
            have t1 := HCT.out wz (Below.refl _ _) 1 _ (by rw [HFS.out]; rfl)
            rw [rounds_succ]
            go_wp2_with fail
            clear t0 t1
            have hbr : Below wz.heap.size wz (wz.alloc (.cells #[(.func (.func 104) #[] #[.pointer (some ⟨P0, 0, none⟩), .pointer (some ⟨P1, 0, none⟩), .pointer (some ⟨P2 + 1, 0, none⟩), .pointer (some ⟨P4 + 1, 0, none⟩), .pointer (some ⟨P6 + 1, 0, none⟩)]), .int .i64 40] 185)) := ((Below.refl _ _)).alloc (Nat.le_refl _) _
            have hrow : (wz.alloc (.cells #[(.func (.func 104) #[] #[.pointer (some ⟨P0, 0, none⟩), .pointer (some ⟨P1, 0, none⟩), .pointer (some ⟨P2 + 1, 0, none⟩), .pointer (some ⟨P4 + 1, 0, none⟩), .pointer (some ⟨P6 + 1, 0, none⟩)]), .int .i64 40] 185)).heap[wz.heap.size]? = some (.cells #[(.func (.func 104) #[] #[.pointer (some ⟨P0, 0, none⟩), .pointer (some ⟨P1, 0, none⟩), .pointer (some ⟨P2 + 1, 0, none⟩), .pointer (some ⟨P4 + 1, 0, none⟩), .pointer (some ⟨P6 + 1, 0, none⟩)]), .int .i64 40] 185 (0, 0)) := heap_alloc_new _ _
            obtain ⟨R0, hR0⟩ : ∃ z, wz.heap.size = z := ⟨_, rfl⟩
            obtain ⟨wr0, hwr0⟩ : ∃ wn, wz.alloc (.cells #[(.func (.func 104) #[] #[.pointer (some ⟨P0, 0, none⟩), .pointer (some ⟨P1, 0, none⟩), .pointer (some ⟨P2 + 1, 0, none⟩), .pointer (some ⟨P4 + 1, 0, none⟩), .pointer (some ⟨P6 + 1, 0, none⟩)]), .int .i64 40] 185) = wn := ⟨_, rfl⟩
            have hRz : wz.heap.size ≤ R0 := by rw [← hR0]; exact Nat.le_refl _
            rw [hR0] at hrow ⊢
            rw [hwr0] at hbr hrow ⊢
            have HR0 := Lib.hid hbr
            have HRW0 := Lib.hid hrow
            clear hbr hrow hR0 hwr0
            have hV := HVz.out.on HR0.out (Nat.le_refl _)
            have hPn := (HPz.out.on HR0.out (Nat.le_refl _)).cn
            refine (p1_any wr0 (hV (P0, .bool b0) (by simp)) (hV (P1, .bool b1) (by simp)) (hV (P2 + 1, .bool b2) (by simp)) (hV (P4 + 1, .bool b3) (by simp)) (hV (P6 + 1, .bool b4) (by simp))).mono ?_
            clear hV hPn
            rintro e w' ⟨rfl, rfl⟩
            cases hall : (b0 && b1 && b2 && b3 && b4) with
            | false =>
              skip
              have hE : wrapParseE s.data.toList = (wd0, 40) := by
                rw [HWE.out, wrapOf_snoc]
                exact HHT.out.1 hall
              have HE := Lib.hid hE
              clear hE hall
              go_wp2_with fail
              have hk := (HPz.out.on HR0.out (Nat.le_refl _)).on ((Below.refl wr0.heap.size wr0).drew) (Nat.le_refl _)
              have hB6 : B < wz.heap.size := (Array.getElem?_eq_some_iff.1 HPz.out.res).1
              have c1 : wr0.drew.cell? ⟨R0, 1, none⟩ = some (.int .i64 40) := cell_of_row wr0.drew R0 1 _ _ _ HRW0.out
              refine wp_region_plan [(0, false), (1, false), (2, false), (3, true), (4, false)] (fun w' => w'.cell? ⟨R0, 1, none⟩ = some (.int .i64 40)) (by kernel_rfl) (by kernel_rfl) c1 ?_
              refine plan_val (v := .agg #[.int .u8 0, .int .u8 0, .int .u64 0, .slice none 0 0]) rfl rfl (fun w' hS => by first | rfl | kernel_rfl | go_simp) ?_
              simp only [Act.put, List.setIfInBounds_toArray, List.set_cons_zero, List.set_cons_succ]
              refine plan_val (v := .pointer (some ⟨R0, 1, none⟩)) rfl rfl (fun w' hS => by first | rfl | go_simp) ?_
              simp only [Act.put, List.setIfInBounds_toArray, List.set_cons_zero, List.set_cons_succ]
              refine plan_val (v := .int .i64 40) rfl rfl (fun w' hS => by have hS1 : w'.cell? ⟨R0, 1, none⟩ = some (.int .i64 40) := hS; go_simp) ?_
              simp only [Act.put, List.setIfInBounds_toArray, List.set_cons_zero, List.set_cons_succ]
              refine plan_do rfl (fun K hK => ?_)
              obtain ⟨⟨d0, d1, d2, d3⟩, f0, f1, f2, f3⟩ := cells4 (HPz.out.on HR0.out (Nat.le_refl _)).res
              go_wp2_with fail
              refine hK _ _ ((cell_ag (put4_other wr0.drew B _ _ _ _ (by omega))).trans c1) ?_
              clear hK K d0 d1 d2 d3 f0 f1 f2 f3
              refine plan_val (v := .int .i64 40) rfl rfl (fun w' hS => by first | rfl | go_simp) ?_
              simp only [Act.put, List.setIfInBounds_toArray, List.set_cons_zero, List.set_cons_succ]
              refine plan_nil ?_
              go_wp2_with fail
              exact bodyPost_ret (res_wrap rfl _ rfl rfl (put4_heap hk.res _ _ _ _) rfl) rfl (wq_err HE.out (by rw [HBQ.out]; exact put4_below (((HBB.out.trans (HBz.out.mono hBN)).trans (HR0.out.mono (Nat.le_trans hBN HBz.out.size))).drew) (Nat.le_refl _) _ _ _ _))
            | true =>
            obtain ⟨z0, z1, z2, z3, z4, ⟨rfl, rfl, rfl, rfl, rfl⟩, hz⟩ := HHT.out.2 hall
            have HZ := Lib.hid hz
            clear hz hall HHT
            go_wp2_with fail
            have t2 := HCT.out wr0 HR0.out 2 _ (by rw [HFS.out]; rfl)
            have t3 := HCT.out wr0 HR0.out 3 _ (by rw [HFS.out]; rfl)
            rw [rounds_succ]
            go_wp2_with fail
            clear t2 t3
            have hbr : Below wz.heap.size wz (wr0.alloc (.cells #[(.func (.func 105) #[] #[.pointer (some ⟨P4, 0, none⟩), .pointer (some ⟨N, 0, none⟩)]), .int .i64 41] 185)) := (HR0.out).alloc (HR0.out.size) _
            have hrow : (wr0.alloc (.cells #[(.func (.func 105) #[] #[.pointer (some ⟨P4, 0, none⟩), .pointer (some ⟨N, 0, none⟩)]), .int .i64 41] 185)).heap[wr0.heap.size]? = some (.cells #[(.func (.func 105) #[] #[.pointer (some ⟨P4, 0, none⟩), .pointer (some ⟨N, 0, none⟩)]), .int .i64 41] 185 (0, 0)) := heap_alloc_new _ _
            obtain ⟨R1, hR1⟩ : ∃ z, wr0.heap.size = z := ⟨_, rfl⟩
            obtain ⟨wr1, hwr1⟩ : ∃ wn, wr0.alloc (.cells #[(.func (.func 105) #[] #[.pointer (some ⟨P4, 0, none⟩), .pointer (some ⟨N, 0, none⟩)]), .int .i64 41] 185) = wn := ⟨_, rfl⟩
            have hRz : wz.heap.size ≤ R1 := by rw [← hR1]; exact HR0.out.size
            rw [hR1] at hrow ⊢
            rw [hwr1] at hbr hrow ⊢
            have HR1 := Lib.hid hbr
            have HRW1 := Lib.hid hrow
            clear hbr hrow hR1 hwr1
            have hV := HVz.out.on HR1.out (Nat.le_refl _)
            have hPn := (HPz.out.on HR1.out (Nat.le_refl _)).cn
            refine (p2_any wr1 hn2 hn64 (hV (P4, .int .u64 z3) (by simp)) hPn).mono ?_
            clear hV hPn
            rintro e w' ⟨rfl, rfl⟩
            cases hall : ((z3 : Int) == ((n - 2 : Nat) : Int)) with
            | false =>
              skip
              have hE : wrapParseE s.data.toList = (wd0, 41) := by
                rw [HWE.out, wrapOf_snoc]
                rw [HZ.out, if_pos]
                have h5 := HNM.out
                rw [beq_eq_false_iff_ne] at hall
                omega
              have HE := Lib.hid hE
              clear hE hall
              go_wp2_with fail
              have hk := (HPz.out.on HR1.out (Nat.le_refl _)).on ((Below.refl wr1.heap.size wr1).drew) (Nat.le_refl _)
              have hB6 : B < wz.heap.size := (Array.getElem?_eq_some_iff.1 HPz.out.res).1
              have c1 : wr1.drew.cell? ⟨R1, 1, none⟩ = some (.int .i64 41) := cell_of_row wr1.drew R1 1 _ _ _ HRW1.out
              refine wp_region_plan [(0, false), (1, false), (2, false), (3, true), (4, false)] (fun w' => w'.cell? ⟨R1, 1, none⟩ = some (.int .i64 41)) (by kernel_rfl) (by kernel_rfl) c1 ?_
              refine plan_val (v := .agg #[.int .u8 0, .int .u8 0, .int .u64 0, .slice none 0 0]) rfl rfl (fun w' hS => by first | rfl | kernel_rfl | go_simp) ?_
              simp only [Act.put, List.setIfInBounds_toArray, List.set_cons_zero, List.set_cons_succ]
              refine plan_val (v := .pointer (some ⟨R1, 1, none⟩)) rfl rfl (fun w' hS => by first | rfl | go_simp) ?_
              simp only [Act.put, List.setIfInBounds_toArray, List.set_cons_zero, List.set_cons_succ]
              refine plan_val (v := .int .i64 41) rfl rfl (fun w' hS => by have hS1 : w'.cell? ⟨R1, 1, none⟩ = some (.int .i64 41) := hS; go_simp) ?_
              simp only [Act.put, List.setIfInBounds_toArray, List.set_cons_zero, List.set_cons_succ]
              refine plan_do rfl (fun K hK => ?_)
              obtain ⟨⟨d0, d1, d2, d3⟩, f0, f1, f2, f3⟩ := cells4 (HPz.out.on HR1.out (Nat.le_refl _)).res
              go_wp2_with fail
              refine hK _ _ ((cell_ag (put4_other wr1.drew B _ _ _ _ (by omega))).trans c1) ?_
              clear hK K d0 d1 d2 d3 f0 f1 f2 f3
              refine plan_val (v := .int .i64 41) rfl rfl (fun w' hS => by first | rfl | go_simp) ?_
              simp only [Act.put, List.setIfInBounds_toArray, List.set_cons_zero, List.set_cons_succ]
              refine plan_nil ?_
              go_wp2_with fail
              exact bodyPost_ret (res_wrap rfl _ rfl rfl (put4_heap hk.res _ _ _ _) rfl) rfl (wq_err HE.out (by rw [HBQ.out]; exact put4_below (((HBB.out.trans (HBz.out.mono hBN)).trans (HR1.out.mono (Nat.le_trans hBN HBz.out.size))).drew) (Nat.le_refl _) _ _ _ _))
            | true =>
            have HC3 : Hid (z3 = m.length) := Lib.hid (by have h5 := HNM.out; rw [beq_iff_eq] at hall; omega)
            clear hall
            go_wp2_with fail
            have t4 := HCT.out wr1 HR1.out 4 _ (by rw [HFS.out]; rfl)
            have t5 := HCT.out wr1 HR1.out 5 _ (by rw [HFS.out]; rfl)
            rw [rounds_succ]
            go_wp2_with fail
            clear t4 t5
            have hbr : Below wz.heap.size wz (wr1.alloc (.cells #[(.func (.func 106) #[] #[.pointer (some ⟨P2, 0, none⟩), .pointer (some ⟨P6, 0, none⟩)]), .int .i64 42] 185)) := (HR1.out).alloc (HR1.out.size) _
            have hrow : (wr1.alloc (.cells #[(.func (.func 106) #[] #[.pointer (some ⟨P2, 0, none⟩), .pointer (some ⟨P6, 0, none⟩)]), .int .i64 42] 185)).heap[wr1.heap.size]? = some (.cells #[(.func (.func 106) #[] #[.pointer (some ⟨P2, 0, none⟩), .pointer (some ⟨P6, 0, none⟩)]), .int .i64 42] 185 (0, 0)) := heap_alloc_new _ _
            obtain ⟨R2, hR2⟩ : ∃ z, wr1.heap.size = z := ⟨_, rfl⟩
            obtain ⟨wr2, hwr2⟩ : ∃ wn, wr1.alloc (.cells #[(.func (.func 106) #[] #[.pointer (some ⟨P2, 0, none⟩), .pointer (some ⟨P6, 0, none⟩)]), .int .i64 42] 185) = wn := ⟨_, rfl⟩
            have hRz : wz.heap.size ≤ R2 := by rw [← hR2]; exact HR1.out.size
            rw [hR2] at hrow ⊢
            rw [hwr2] at hbr hrow ⊢
            have HR2 := Lib.hid hbr
            have HRW2 := Lib.hid hrow
            clear hbr hrow hR2 hwr2
            have hV := HVz.out.on HR2.out (Nat.le_refl _)
            have hPn := (HPz.out.on HR2.out (Nat.le_refl _)).cn
            refine (p3_any wr2 (hV (P2, .int .u64 z2) (by simp)) (hV (P6, .int .u64 z4) (by simp))).mono ?_
            clear hV hPn
            rintro e w' ⟨rfl, rfl⟩
            cases hall : ((z2 : Int) == (z4 : Int)) with
            | false =>
              skip
              have hE : wrapParseE s.data.toList = (wd0, 42) := by
                rw [HWE.out, wrapOf_snoc]
                rw [HZ.out, if_neg (by rw [HC3.out]; simp), if_pos]
                rw [beq_eq_false_iff_ne] at hall
                omega
              have HE := Lib.hid hE
              clear hE hall
              go_wp2_with fail
              have hk := (HPz.out.on HR2.out (Nat.le_refl _)).on ((Below.refl wr2.heap.size wr2).drew) (Nat.le_refl _)
              have hB6 : B < wz.heap.size := (Array.getElem?_eq_some_iff.1 HPz.out.res).1
              have c1 : wr2.drew.cell? ⟨R2, 1, none⟩ = some (.int .i64 42) := cell_of_row wr2.drew R2 1 _ _ _ HRW2.out
              refine wp_region_plan [(0, false), (1, false), (2, false), (3, true), (4, false)] (fun w' => w'.cell? ⟨R2, 1, none⟩ = some (.int .i64 42)) (by kernel_rfl) (by kernel_rfl) c1 ?_
              refine plan_val (v := .agg #[.int .u8 0, .int .u8 0, .int .u64 0, .slice none 0 0]) rfl rfl (fun w' hS => by first | rfl | kernel_rfl | go_simp) ?_
              simp only [Act.put, List.setIfInBounds_toArray, List.set_cons_zero, List.set_cons_succ]
              refine plan_val (v := .pointer (some ⟨R2, 1, none⟩)) rfl rfl (fun w' hS => by first | rfl | go_simp) ?_
              simp only [Act.put, List.setIfInBounds_toArray, List.set_cons_zero, List.set_cons_succ]
              refine plan_val (v := .int .i64 42) rfl rfl (fun w' hS => by have hS1 : w'.cell? ⟨R2, 1, none⟩ = some (.int .i64 42) := hS; go_simp) ?_
              simp only [Act.put, List.setIfInBounds_toArray, List.set_cons_zero, List.set_cons_succ]
              refine plan_do rfl (fun K hK => ?_)
              obtain ⟨⟨d0, d1, d2, d3⟩, f0, f1, f2, f3⟩ := cells4 (HPz.out.on HR2.out (Nat.le_refl _)).res
              go_wp2_with fail
              refine hK _ _ ((cell_ag (put4_other wr2.drew B _ _ _ _ (by omega))).trans c1) ?_
              clear hK K d0 d1 d2 d3 f0 f1 f2 f3
              refine plan_val (v := .int .i64 42) rfl rfl (fun w' hS => by first | rfl | go_simp) ?_
              simp only [Act.put, List.setIfInBounds_toArray, List.set_cons_zero, List.set_cons_succ]
              refine plan_nil ?_
              go_wp2_with fail
              exact bodyPost_ret (res_wrap rfl _ rfl rfl (put4_heap hk.res _ _ _ _) rfl) rfl (wq_err HE.out (by rw [HBQ.out]; exact put4_below (((HBB.out.trans (HBz.out.mono hBN)).trans (HR2.out.mono (Nat.le_trans hBN HBz.out.size))).drew) (Nat.le_refl _) _ _ _ _))
            | true =>
            have hE : wrapParseE s.data.toList = (⟨z0, z1, z2, m⟩, 0) := by
              rw [HWE.out, wrapOf_snoc, HZ.out, if_neg (by rw [HC3.out]; simp), if_neg]
              rw [beq_iff_eq] at hall
              omega
            have HE := Lib.hid hE
            clear hE hall
            go_wp2_with fail
            rw [rounds_succ]
            go_wp2_with fail
            have hk := (HPz.out.on HR2.out (Nat.le_refl _)).on ((Below.refl wr2.heap.size wr2).drew) (Nat.le_refl _)
            have hv := (HVz.out.on HR2.out (Nat.le_refl _)).on ((Below.refl wr2.heap.size wr2).drew) (Nat.le_refl _)
            have hB6 : B < wz.heap.size := (Array.getElem?_eq_some_iff.1 HPz.out.res).1
            have c1 : wr2.drew.cell? ⟨P2, 0, none⟩ = some (.int .u64 (z2 : Int)) := hv (P2, .int .u64 z2) (by simp)
            have c2 := hk.cn
            have hBP : B ≠ P2 := fun e => by
              have h1 := hv (P2, .int .u64 z2) (by simp)
              rw [← e] at h1
              have h2 := (cells4 hk.res).1.1
              rw [h2] at h1
              cases h1
            have hBN2 : B ≠ N := fun e => by
              have h1 := hk.cn
              rw [← e] at h1
              have h2 := (cells4 hk.res).1.1
              rw [h2] at h1
              cases h1
            have hwn : IntKind.i64.wrap (n : Int) = (n : Int) := IntWalk.i64_in _ (by omega)
            refine wp_region_plan [(0, false), (1, false), (2, false), (3, false), (4, false), (5, false), (6, false), (7, false), (8, false), (9, false), (10, true), (11, false)] (fun w' => w'.cell? ⟨P2, 0, none⟩ = some (.int .u64 (z2 : Int)) ∧ w'.cell? ⟨N, 0, none⟩ = some (.int .i64 (n : Int))) (by kernel_rfl) (by kernel_rfl) ⟨c1, c2⟩ ?_
            iterate 8 (refine' plan_val rfl rfl (fun w' hS => ?_) ?_; rotate_left; (focus (first | rfl | (obtain ⟨hS1, hS2⟩ := hS; go_simp; rfl))); simp only [Act.put, List.setIfInBounds_toArray, List.set_cons_zero, List.set_cons_succ])
            obtain ⟨sp, hsp⟩ : ∃ sp : Option Addr, (if n = 2 then some (⟨b, off, none⟩ : Addr) else some ⟨b, off + 2, none⟩) = sp := ⟨_, rfl⟩
            have HSP := Lib.hid hsp
            have hwn1 : IntKind.i64.wrap ((n - 1 : Nat) : Int) = ((n - 1 : Nat) : Int) := IntWalk.i64_in _ (by omega)
            refine plan_val (v := .slice sp (n - 1 - 1) (n - 1 - 1)) rfl rfl (fun w' hS => by
              go_simp
              first | rw [if_pos (by omega), if_pos (by omega), if_pos (by omega)] | (rw [if_pos (by omega), if_pos (by omega), if_pos (by omega), hsp])) ?_
            clear hsp
            simp only [Act.put, List.setIfInBounds_toArray, List.set_cons_zero, List.set_cons_succ]
            refine plan_val (v := .agg #[.int .u8 (z0 : Int), .int .u8 (z1 : Int), .int .u64 (z2 : Int), .slice sp (n - 1 - 1) (n - 1 - 1)]) rfl rfl (fun w' hS => by go_simp) ?_
            simp only [Act.put, List.setIfInBounds_toArray, List.set_cons_zero, List.set_cons_succ]
            refine plan_do rfl (fun K hK => ?_)
            obtain ⟨⟨d0, d1, d2, d3⟩, f0, f1, f2, f3⟩ := cells4 (HPz.out.on HR2.out (Nat.le_refl _)).res
            go_wp2_with fail
            refine hK _ _ ⟨(cell_ag (put4_other wr2.drew B _ _ _ _ (fun e => hBP e.symm))).trans c1, (cell_ag (put4_other wr2.drew B _ _ _ _ (fun e => hBN2 e.symm))).trans c2⟩ ?_
            clear hK K d0 d1 d2 d3 f0 f1 f2 f3
            refine plan_val (v := .int .i64 0) rfl rfl (fun w' hS => by first | rfl | go_simp) ?_
            simp only [Act.put, List.setIfInBounds_toArray, List.set_cons_zero, List.set_cons_succ]
            refine plan_nil ?_
            go_wp2_with fail
            refine bodyPost_ret (res_wrap rfl _ rfl rfl (put4_heap hk.res _ _ _ _) rfl) rfl ?_
            have hbz : Below B w wr2.drew := ((HBB.out.trans (HBz.out.mono hBN)).trans (HR2.out.mono (Nat.le_trans hBN HBz.out.size))).drew
            have h3r : Below w3.heap.size w3 wr2.drew := (HBz.out.trans (HR2.out.mono HBz.out.size)).drew
            unfold WParseQ
            rw [HE.out]
            refine ⟨_, rfl, ?_, by rw [HBQ.out]; exact put4_below hbz (Nat.le_refl _) _ _ _ _⟩
            have hsub := HSG.out.sub (lo := 1) (hi := n - 1) (c' := n - 1 - 1) (by omega) (by rw [HN.out]; omega) (Nat.le_refl _) (by unfold maxLen; omega)
            have hmid : ((⟨unb, [e0, e1, e2]⟩ :: (m ++ [⟨unz, [g0, g1]⟩]) : List Seg).take (n - 1)).drop 1 = m := by
              rw [show n - 1 = m.length + 1 by have := HNM.out; omega]
              simp
            rw [hmid, Nat.one_mul] at hsub
            have hfar : ∀ k, B + 1 ≤ k ∧ k < w3.heap.size → (put4 wr2.drew B (.int .u8 (z0 : Int)) (.int .u8 (z1 : Int)) (.int .u64 (z2 : Int)) (.slice sp (n - 1 - 1) (n - 1 - 1))).heap[k]? = w3.heap[k]? := fun k hk => (put4_other _ _ _ _ _ _ (by omega)).trans (h3r.block k hk.2)
            have h5 := HNM.out
            have h3s := h3r.size
            rw [← HSP.out]
            by_cases hm0 : n = 2
            · rw [if_pos hm0]
              have hmn : m = [] := List.length_eq_zero_iff.1 (by omega)
              subst hmn
              subst hm0
              exact ⟨some ⟨b, off, none⟩, 0, [], rfl, Nat.le_refl _, Nat.zero_le _, (fun e => by cases e), rfl, (fun i s x h => by simp at h), fun h => absurd rfl h⟩
            · rw [if_neg hm0]
              have h6 := put4_size wr2.drew B (.int .u8 (z0 : Int)) (.int .u8 (z1 : Int)) (.int .u64 (z2 : Int)) (.slice (some ⟨b, off + 2, none⟩) (n - 1 - 1) (n - 1 - 1))
              refine hsub.cong (fun k hk => ⟨by rw [HBQ.out]; omega, Nat.lt_of_lt_of_le (Nat.lt_of_lt_of_le hk.2 h3s) (Nat.le_of_eq h6.symm)⟩) (fun k hk => ?_)
              rw [← HSP.out, if_neg hm0] at hfar
              exact hfar k hk
          · skip
            have hE : wrapParseE s.data.toList = (wd0, 40) := by
              rw [HWE.out, wrapOf_snoc]
              unfold wrapHT
              have : numsW ⟨tz, ez⟩ unz 2 = none := by unfold numsW; rw [if_neg h2]
              rw [this]
              split
              · rename_i h; cases h
              · rfl
            have HE := Lib.hid hE
            clear hE
            rw [decide_eq_false (by exact h2)]
            rintro e w5 ⟨rfl, hb5⟩
            have hk5 := HK4.out.on hb5 (Nat.le_refl _)
            obtain ⟨⟨d0, d1, d2, d3⟩, f0, f1, f2, f3⟩ := cells4 hk5.res
            have HK5 := Lib.hid hk5
            have HB5 := Lib.hid (HB4.out.trans (hb5.mono (Nat.le_trans hBN HB34.out.size)))
            clear hk5 hb5 h1 h2 p0 p1 p2 p3 p4 p5
            go_wp2_with fail
            exact bodyPost_ret (res_wrap rfl _ rfl rfl (put4_heap HK5.out.res _ _ _ _) rfl) rfl (wq_err HE.out (by rw [HBQ.out]; exact put4_below HB5.out (Nat.le_refl _) _ _ _ _))
        · skip
          have hE : wrapParseE s.data.toList = (wd0, 40) := by
            rw [HWE.out, wrapOf_snoc]
            unfold wrapHT numsW
            rw [if_neg h1]
          have HE := Lib.hid hE
          clear hE
          refine (is_any w3 th xh eh HEH3.out _ _).mono ?_
          rw [decide_eq_false (by exact h1)]
          rintro e w4 ⟨rfl, hb4⟩
          have hk4 := HPK.out.on hb4 (Nat.le_refl _)
          obtain ⟨⟨d0, d1, d2, d3⟩, f0, f1, f2, f3⟩ := cells4 hk4.res
          have HK4 := Lib.hid hk4
          have HB4 := Lib.hid (HBB.out.trans (hb4.mono hBN))
          clear hk4 hb4 h1
          go_wp2_with fail
          exact bodyPost_ret (res_wrap rfl _ rfl rfl (put4_heap HK4.out.res _ _ _ _) rfl) rfl (wq_err HE.out (by rw [HBQ.out]; exact put4_below HB4.out (Nat.le_refl _) _ _ _ _))
    · skip
      clear hpe' hs'
      have dk : (k != 0) = true := by simpa using hk
      have hE : wrapParseE s.data.toList = (wd0, k) := by
        unfold wrapParseE
        rw [HPE.out, if_neg hk]
      have HE := Lib.hid hE
      clear hE hk
      go_enter Tryz.func60, Tryz.ntmps60
      go_wp2_with (go_at_call 100; refine (HPA.out _).mono ?_; rw [HZ1.out]; rintro e w2 ⟨v, rfl, hso, hbe⟩; have HSO := Lib.hid hso; have HBE := Lib.hid hbe; have hc2 := (hbe.block B (by omega)).trans HC1.out; obtain ⟨⟨d0, d1, d2, d3⟩, f0, f1, f2, f3⟩ := cells4 hc2; have HC2 := Lib.hid hc2; clear hso hbe hc2)
      exact bodyPost_ret (res_wrap rfl _ rfl rfl (put4_heap HC2.out _ _ _ _) rfl) rfl (wq_err HE.out (by rw [HBQ.out]; exact put4_below (HB1.out.trans (HBE.out.mono (by omega))) (Nat.le_refl _) _ _ _ _))
end Go.Proofs.YtgfijlamhjjecaaGreatDoor


/-
  RefC: contract of the reference's segment: one from a place on. No condition beyond those stated.
-/
namespace Go.Proofs.YtgfijlamhjjecaaGreatDoor
open Go.RowKit
/-- a box of a segment -/
def SBox (w : World) (b : Nat) (tb : ByteArray) (ev : Value) : Prop := w.heap[b]? = some (.cells #[.string tb, ev] 94 (0, 0))
/-- at the head of the loop over elements -/
def RHead (T : Str) (l : List Seg) (H sp : Nat) (tb : ByteArray) (w : World) (q : Nat) (c : UInt8) : Prop :=
  (SBox w sp tb (.slice none 0 0) ∧ AtR T (.bhd l tb.data.toList) q ∧ (c = 43 ∨ c = 39)) ∨
  (∃ es cs p ev cv ys, SG H sp tb w ev cv ys es (cs ++ [p]) ∧ es.length ≤ 15 ∧ cs.length ≤ 7 ∧ AtR T (.cmp l tb.data.toList es cs p) q ∧ (c = 43 ∨ c = 58 ∨ c = 39))
theorem sv_dat (r : ByteArray) : sv r.data.toList = .string r := by cases r; rfl
/-- a component is begun -/
theorem RHead.colon {T : Str} {l : List Seg} {H sp : Nat} {tb : ByteArray} {w : World} {q : Nat} (h : RHead T l H sp tb w q 58) (hc : T[q]? = some 58) (hl : T.length ≤ 65536) : ∃ es cs ev cv ys, SG H sp tb w ev cv ys es cs ∧ es.length ≤ 15 ∧ cs.length ≤ 8 ∧ (cs.length = 8 → parseE T = ([], q, 2)) ∧ (cs.length ≠ 8 → AtR T (.cmp l tb.data.toList es cs []) (q + 1)) := by
  rcases h with ⟨h1, h2, h3⟩ | ⟨es, cs, p, ev, cv, ys, h1, h3, h4, h2, _⟩
  · rcases h3 with h3 | h3 <;> exact absurd h3 (by decide)
  · refine ⟨es, cs ++ [p], ev, cv, ys, h1, h3, by simp; omega, fun h => ?_, fun h => ?_⟩
    · exact h2.err hl hc (st_58l (by simpa using h))
    · exact h2.step hc (st_58 (by simpa using h))
end Go.Proofs.YtgfijlamhjjecaaGreatDoor


/-
  WrapO: contract of the reference's Number. No condition beyond those stated.
-/
namespace Go.Proofs.YtgfijlamhjjecaaGreatDoor
open Go.RowKit
/-- what Number makes of a text -/
def RNumQ (l : Str) (e : Ending) : Prop := (∃ u : Nat, numW l = some u ∧ e = .returned (.tuple #[.int .u64 (u : Int), .bool true])) ∨ (numW l = none ∧ e = .returned (.tuple #[.int .u64 0, .bool false]))
theorem valW_dig {v n : Nat} {c : UInt8} (hc : c.toNat = 48 + n) (hn : n ≤ 9) (hv : v * 10 + n < 18446744073709551616) : valW v [c] = some (v * 10 + n) := by
  have hd : digB c = true := by unfold digB; rw [hc]; simp; omega
  simp only [valW, hd, if_true]
  rw [if_pos (by rw [hc]; omega), hc]
  congr 1; omega
theorem valW_over {v n : Nat} {c : UInt8} (hc : c.toNat = 48 + n) (hn : n ≤ 9) (hv : ¬ v * 10 + n < 18446744073709551616) : valW v [c] = none := by
  have hd : digB c = true := by unfold digB; rw [hc]; simp; omega
  simp only [valW, hd, if_true]
  rw [if_neg (by rw [hc]; omega)]
theorem valW_bad {v : Nat} {c : UInt8} (hc : c.toNat < 48 ∨ 57 < c.toNat) : valW v [c] = none := by
  have hd : digB c = false := by unfold digB; simp; omega
  simp [valW, hd]
set_option maxRecDepth 100000 in
set_option maxHeartbeats 4000000 in
theorem rnum_any (s : ByteArray) (w : World) : Calls Tryz.prog 57 #[.string s] w fun e w' => RNumQ s.data.toList e ∧ w = w' := by
  obtain ⟨l, hl⟩ : ∃ l, s.data.toList = l := ⟨_, rfl⟩
  have hsz : s.size = l.length := by rw [← hl]; simp
  have HL := Lib.hid hl
  have HSZ := Lib.hid hsz
  rw [hl]
  by_cases h0 : s.size = 0
  · have i0 : ((s.size : Int) == 0) = true := by rw [beq_iff_eq]; omega
    have hN : numW l = none := by rw [show l = [] from List.length_eq_zero_iff.1 (hsz.symm.trans h0)]; rfl
    clear hl hsz h0
    go_enter Tryz.func57, Tryz.ntmps57
    go_wp2_with fail
    go_ret2
    exact ⟨.inr ⟨hN, rfl⟩, rfl⟩
  have i0 : ((s.size : Int) == 0) = false := by rw [beq_eq_false_iff_ne]; omega
  by_cases h20 : 20 < s.size
  · have i1 : decide ((20 : Int) < (s.size : Int)) = true := by rw [decide_eq_true_eq]; omega
    have hN : numW l = none := num_long (by rw [← hsz]; exact h20)
    clear hl hsz h0 h20
    go_enter Tryz.func57, Tryz.ntmps57
    go_wp2_with fail
    go_ret2
    exact ⟨.inr ⟨hN, rfl⟩, rfl⟩
  have i1 : decide ((20 : Int) < (s.size : Int)) = false := by rw [decide_eq_false_iff_not]; omega
  have hs0 : 0 < s.size := by omega
  have hs0i : (0 : Int) < (s.size : Int) := by omega
  obtain ⟨c0, hc0⟩ : ∃ c, l[0]? = some c := ⟨_, List.getElem?_eq_getElem (by rw [← hsz]; exact hs0)⟩
  have hA : s[0]'hs0 = c0 := by
    have h1 := at_byte s 0 hs0
    rw [hl, hc0] at h1
    simpa using h1.symm
  have hhd : l.head? = some c0 := by rw [List.head?_eq_getElem?]; exact hc0
  by_cases h48 : 1 < s.size ∧ c0 = 48
  · obtain ⟨hl1, rfl⟩ := h48
    have i2 : decide ((1 : Int) < (s.size : Int)) = true := by rw [decide_eq_true_eq]; omega
    have hN : numW l = none := num_zero ⟨hhd, by rw [← hsz]; exact hl1⟩
    clear hl hsz h0 h20 hc0 hhd hl1
    go_enter Tryz.func57, Tryz.ntmps57
    go_wp2_with fail
    go_ret2
    exact ⟨.inr ⟨hN, rfl⟩, rfl⟩
  have HN := Lib.hid (val_num (s := l) (by intro e; rw [e] at hsz; exact h0 (by simpa using hsz)) (fun h => h48 ⟨by rw [hsz]; exact h.2, by
    have h1 := h.1
    rw [hhd] at h1
    injection h1⟩))
  have HX : Hid (decide ((1 : Int) < (s.size : Int)) = false ∨ (decide ((1 : Int) < (s.size : Int)) = true ∧ ((c0.toNat : Int) == 48) = false)) := Lib.hid (by
    by_cases h1 : 1 < s.size
    · exact .inr ⟨by rw [decide_eq_true_eq]; omega, nat_eq c0 48 (fun h => h48 ⟨h1, h⟩)⟩
    · exact .inl (by rw [decide_eq_false_iff_not]; omega))
  clear hl hsz h0 hc0 hhd h48
  rcases HX.out with i2 | ⟨i2, i3⟩
  all_goals (
    clear HX
    go_enter Tryz.func57, Tryz.ntmps57
    go_wp2_with fail
    clear i0 i1 hA
    go_loop [4, 5] (fun v i => ∃ (k u : Nat), k ≤ s.size ∧ u < 18446744073709551616 ∧ i = .int .i64 (k : Int) ∧ v = .int .u64 (u : Int) ∧ Hid (valW 0 (l.take k) = some u)) (fun _ i => s.size - (intOf i).toNat)
    case atStart => exact ⟨0, 0, Nat.zero_le _, by omega, rfl, rfl, Lib.hid rfl⟩
    case round =>
      obtain ⟨k, u, hk, hu, rfl, rfl, HVL⟩ := hrel
      clear i2
      by_cases hlt : k < s.size
      · obtain ⟨c, hc⟩ : ∃ c, l[k]? = some c := ⟨_, List.getElem?_eq_getElem (by rw [← HSZ.out]; exact hlt)⟩
        have hcq : (s[k]'hlt).toNat = c.toNat := by
          have h1 := at_byte s k hlt
          rw [HL.out, hc] at h1
          injection h1 with h1
          exact congrArg UInt8.toNat h1.symm
        obtain ⟨n, hn⟩ : ∃ n, c.toNat = n := ⟨_, rfl⟩
        have hn2 : n < 256 := by rw [← hn]; exact c.toNat_lt
        rw [hn] at hcq
        have b5 : (0 : Int) ≤ k := by omega
        have b6 : (k : Int) < s.size := by omega
        have HC := Lib.hid hc
        have HCN := Lib.hid hn
        clear hc hn
        by_cases l48 : n < 48
        · have j1 : decide ((n : Int) < 48) = true := by rw [decide_eq_true_eq]; omega
          have hN : numW l = none := HN.out.trans (val_stop HVL.out HC.out (valW_bad (.inl (by rw [HCN.out]; exact l48))))
          go_wp2_with fail
          go_ret2
          exact ⟨.inr ⟨hN, rfl⟩, rfl⟩
        · have j1 : decide ((n : Int) < 48) = false := by rw [decide_eq_false_iff_not]; omega
          by_cases g57 : 57 < n
          · have j2 : decide ((57 : Int) < (n : Int)) = true := by rw [decide_eq_true_eq]; omega
            have hN : numW l = none := HN.out.trans (val_stop HVL.out HC.out (valW_bad (.inr (by rw [HCN.out]; exact g57))))
            go_wp2_with fail
            go_ret2
            exact ⟨.inr ⟨hN, rfl⟩, rfl⟩
          · have j2 : decide ((57 : Int) < (n : Int)) = false := by rw [decide_eq_false_iff_not]; omega
            obtain ⟨d, hd⟩ : ∃ d, n = 48 + d := ⟨n - 48, by omega⟩
            have hd9 : d ≤ 9 := by omega
            have e1 : (n : Int) - 48 = (d : Int) := by omega
            have w1 : IntKind.u8.wrap (d : Int) = (d : Int) := by rw [IntKind.wrap_u8]; omega
            have w2 : IntKind.u64.wrap (d : Int) = (d : Int) := by rw [IntKind.wrap_u64]; omega
            obtain ⟨m, hm⟩ : ∃ m, m = 18446744073709551615 - d := ⟨_, rfl⟩
            have e2 : (18446744073709551615 : Int) - (d : Int) = (m : Int) := by omega
            have w3 : IntKind.u64.wrap (m : Int) = (m : Int) := by rw [IntKind.wrap_u64]; omega
            obtain ⟨q, hq⟩ : ∃ q, q = m / 10 := ⟨_, rfl⟩
            have e3 : (m : Int).tdiv 10 = (q : Int) := by rw [Int.tdiv_eq_ediv_of_nonneg (by omega)]; omega
            have w4 : IntKind.u64.wrap (q : Int) = (q : Int) := by rw [IntKind.wrap_u64]; omega
            have hcd : c.toNat = 48 + d := by rw [HCN.out]; exact hd
            by_cases hov : q < u
            · have j3 : decide ((q : Int) < (u : Int)) = true := by rw [decide_eq_true_eq]; omega
              have hN : numW l = none := HN.out.trans (val_stop HVL.out HC.out (valW_over hcd hd9 (by omega)))
              clear hd hm hq hcd
              go_wp2_with fail
              go_ret2
              exact ⟨.inr ⟨hN, rfl⟩, rfl⟩
            · have j3 : decide ((q : Int) < (u : Int)) = false := by rw [decide_eq_false_iff_not]; omega
              obtain ⟨t, ht⟩ : ∃ t, t = 10 * u := ⟨_, rfl⟩
              have e4 : 10 * (u : Int) = (t : Int) := by omega
              have w5 : IntKind.u64.wrap (t : Int) = (t : Int) := by rw [IntKind.wrap_u64]; omega
              obtain ⟨z, hz⟩ : ∃ z, z = t + d := ⟨_, rfl⟩
              have e5 : (t : Int) + (d : Int) = (z : Int) := by omega
              have w6 : IntKind.u64.wrap (z : Int) = (z : Int) := by rw [IntKind.wrap_u64]; omega
              have hVS : Hid (valW 0 (l.take (k + 1)) = some z) := Lib.hid (by rw [val_step HVL.out HC.out, valW_dig hcd hd9 (by omega)]; congr 1; omega)
              have hzz : z < 18446744073709551616 := by omega
              clear hd hm hq hcd ht hz
              go_wp2_with fail
              go_round
              case rel => exact ⟨k + 1, z, by omega, hzz, by go_num, rfl, hVS⟩
              case measure => simp [intOf]; omega
      · obtain rfl : k = s.size := by omega
        have hN : numW l = some u := HN.out.trans (by
          have h1 := HVL.out
          rw [List.take_of_length_le (by rw [HSZ.out]; exact Nat.le_refl _)] at h1
          exact h1)
        go_wp2_with fail
        go_ret2
        exact ⟨.inl ⟨u, hN, rfl⟩, rfl⟩)
end Go.Proofs.YtgfijlamhjjecaaGreatDoor


/-
  RefE: contract of the reference's numbers of a segment. No condition beyond those stated.
-/
namespace Go.Proofs.YtgfijlamhjjecaaGreatDoor
open Go.RowKit
def uv64 (v : Nat) : Value := .int .u64 (v : Int)
/-- numbers in a row of one's own -/
def U64s (w : World) (B : Nat) (v : Value) (ls : List Nat) : Prop := w.ownsRow B 22 1 v ls.length (ls.map uv64)
end Go.Proofs.YtgfijlamhjjecaaGreatDoor


/-
  MsgR4: the reference's numbers, element by element. No condition.
-/
namespace Go.Proofs.YtgfijlamhjjecaaGreatDoor
open Go.RowKit
theorem numsR_step : ∀ {gs : List Bool} {es : List (List Str)} {k : Nat} {g : Bool} {e : List Str} {ls : List Int} {v : Int}, numsR (gs.take k) (es.take k) = some ls → gs[k]? = some g → es[k]? = some e → (oneW e).bind (numR g) = some v → numsR (gs.take (k + 1)) (es.take (k + 1)) = some (ls ++ [v])
  | [], _, _, _, _, _, _, _, hg, _, _ => by simp at hg
  | _ :: _, [], _, _, _, _, _, _, _, he, _ => by simp at he
  | g0 :: gs, e0 :: es, 0, g, e, ls, v, h, hg, he, hv => by
    simp at hg he
    subst hg; subst he
    simp [numsR] at h
    subst h
    simp [numsR, hv]
  | g0 :: gs, e0 :: es, k + 1, g, e, ls, v, h, hg, he, hv => by
    simp only [List.take_succ_cons, numsR] at h
    simp only [List.getElem?_cons_succ] at hg he
    split at h
    · rename_i v' l' h1 h2
      cases h
      rw [List.take_succ_cons, List.take_succ_cons]
      simp only [numsR]
      rw [h1, numsR_step h2 hg he hv]
      rfl
    · cases h
theorem numsR_none : ∀ {gs : List Bool} {es : List (List Str)} {k : Nat} {g : Bool} {e : List Str}, gs[k]? = some g → es[k]? = some e → (oneW e).bind (numR g) = none → numsR gs es = none
  | [], _, _, _, _, hg, _, _ => by simp at hg
  | _ :: _, [], _, _, _, _, he, _ => by simp at he
  | g0 :: gs, e0 :: es, 0, g, e, hg, he, hv => by
    simp at hg he
    subst hg; subst he
    simp [numsR, hv]
  | g0 :: gs, e0 :: es, k + 1, g, e, hg, he, hv => by
    simp only [List.getElem?_cons_succ] at hg he
    simp only [numsR]
    rw [numsR_none hg he hv]
    cases (oneW e0).bind (numR g0) <;> rfl
theorem oneW_len {e : List Str} (h : e.length ≠ 1) : oneW e = none := by
  match e, h with
  | [], _ => rfl
  | [_], h => simp at h
  | _ :: _ :: _, _ => rfl
theorem einfo_i64 : (Tryz.prog.info? 2).map (fun i => (i.zero, i.size, i.bytes)) = some (some (.int .i64 0), 1, 8) := by kernel_rfl
def iv64 (v : Int) : Value := .int .i64 v
/-- numbers in a row of one's own -/
def I64s (w : World) (B : Nat) (v : Value) (ls : List Int) : Prop := w.ownsRow B 2 1 v ls.length (ls.map iv64)
/-- a row of answers -/
def BoolsAt (w : World) (v : Value) (gs : List Bool) : Prop := ∃ b, v = .slice (some ⟨b, 0, none⟩) gs.length gs.length ∧ b < w.heap.size ∧ ∀ (i : Nat) (g : Bool), gs[i]? = some g → w.cell? ⟨b, i, none⟩ = some (.bool g)
def NumsTQ (o : Option Seg) (t : Str) (gs : List Bool) (w : World) (e : Ending) (w' : World) : Prop :=
  ((∃ ls v, segR t gs o = some ls ∧ e = .returned (.tuple #[v, .bool true]) ∧ I64s w' w.heap.size v ls) ∨ (segR t gs o = none ∧ e = .returned (.tuple #[.slice none 0 0, .bool false]))) ∧ Below w.heap.size w w'
theorem numsT_no {o : Option Seg} {t : Str} {gs : List Bool} {w w' : World} (h : segR t gs o = none) (hb : Below w.heap.size w w') : NumsTQ o t gs w (.returned (.tuple #[.slice none 0 0, .bool false])) w' := ⟨.inr ⟨h, rfl⟩, hb⟩
end Go.Proofs.YtgfijlamhjjecaaGreatDoor


/-
  MsgF: the fields of a message, told and read back one by one: plain words and laws. No condition.
-/
namespace Go.Proofs.YtgfijlamhjjecaaGreatDoor
/-- a field of a message -/
inductive FK where
  | car | fl | we | va | st | no | am | co
deriving DecidableEq
def FK.get : FK → MD → Int
  | .car, m => m.c.car
  | .fl, m => m.c.fl
  | .we, m => m.c.we
  | .va, m => m.c.va
  | .st, m => m.c.st
  | .no, m => m.c.no
  | .am, m => m.am
  | .co, m => m.co
def FK.set : FK → Int → MD → MD
  | .car, v, m => { m with c := { m.c with car := v.toNat } }
  | .fl, v, m => { m with c := { m.c with fl := v.toNat } }
  | .we, v, m => { m with c := { m.c with we := v.toNat } }
  | .va, v, m => { m with c := { m.c with va := v } }
  | .st, v, m => { m with c := { m.c with st := v.toNat } }
  | .no, v, m => { m with c := { m.c with no := v.toNat } }
  | .am, v, m => { m with am := v }
  | .co, v, m => { m with co := v }
def FK.bnd : FK → Int × Int
  | .car => (0, 7)
  | .fl => (0, 65535)
  | .we => (0, 4294967295)
  | .va => (-M50, M50)
  | .st => (1, 7)
  | .no => (0, 4294967295)
  | .am => (-M50, M50)
  | .co => (0, 999)
/-- parts, by their fields -/
def partF (h : Bool × Bool × Bool) : List (Str × List FK) :=
  (if h.1 then [(tCPN, [.car, .fl, .we, .va, .st, .no])] else []) ++ (if h.2.1 then [(tAMT, [.am])] else []) ++ (if h.2.2 then [(tCOD, [.co])] else [])
theorem partsB_F (h : Bool × Bool × Bool) : partsB h = (partF h).map fun p => (p.1, p.2.map FK.bnd) := by
  obtain ⟨a, b, c⟩ := h
  cases a <;> cases b <;> cases c <;> rfl
theorem valsB_F (h : Bool × Bool × Bool) (m : MD) : valsB h m = (partF h).map fun p => p.2.map fun f => f.get m := by
  obtain ⟨a, b, c⟩ := h
  cases a <;> cases b <;> cases c <;> rfl
def FK.inb (f : FK) (v : Int) : Bool := decide (f.bnd.1 ≤ v) && decide (v ≤ f.bnd.2)
/-! ### telling, and reading back what is told -/
def tellF (m : MD) (st : Bool × MD) (f : FK) : Bool × MD := if (st.1 && f.inb (f.get m)) = true then (true, f.set (f.get m) st.2) else (false, st.2)
def tellsF (m : MD) (fs : List FK) (st : Bool × MD) : Bool × MD := fs.foldl (tellF m) st
def copyF (m : MD) (fs : List FK) (b : MD) : MD := fs.foldl (fun b f => f.set (f.get m) b) b
theorem tellsF_fst (m : MD) : ∀ (fs : List FK) (st : Bool × MD), (tellsF m fs st).1 = (st.1 && fs.all fun f => f.inb (f.get m))
  | [], st => by simp [tellsF]
  | f :: fs, st => by
    show (tellsF m fs (tellF m st f)).1 = _
    rw [tellsF_fst m fs, List.all_cons]
    unfold tellF
    by_cases h : (st.1 && f.inb (f.get m)) = true
    · rw [if_pos h]; rw [Bool.and_eq_true] at h; simp [h.1, h.2]
    · rw [if_neg h]
      rw [Bool.not_eq_true, Bool.and_eq_false_iff] at h
      rcases h with h | h <;> simp [h]
theorem tellsF_snd (m : MD) : ∀ (fs : List FK) (st : Bool × MD), (tellsF m fs st).1 = true → (tellsF m fs st).2 = copyF m fs st.2
  | [], st, _ => rfl
  | f :: fs, st, h => by
    have h' : (tellsF m fs (tellF m st f)).1 = true := h
    have ih := tellsF_snd m fs _ h'
    rw [tellsF_fst, Bool.and_eq_true] at h'
    show (tellsF m fs (tellF m st f)).2 = copyF m fs (f.set (f.get m) st.2)
    rw [ih]
    congr 1
    unfold tellF at h' ⊢
    by_cases hc : (st.1 && f.inb (f.get m)) = true
    · rw [if_pos hc]
    · rw [if_neg hc] at h'
      exact absurd h'.1 (by simp)
/-- all fields of all parts -/
def allF (h : Bool × Bool × Bool) : List FK := (partF h).flatMap fun p => p.2
def base (m : MD) : MD := ⟨m.kind, m.tc, m.ts, m.pl, cd0, 0, 0⟩
theorem inB_all (m : MD) : ∀ fs : List FK, inB (fs.map FK.bnd) (fs.map fun f => f.get m) = fs.all fun f => f.inb (f.get m)
  | [] => rfl
  | f :: fs => by
    simp only [List.map_cons, inB, List.all_cons, inB_all m fs]
    rfl
theorem inBB_all (m : MD) : ∀ ps : List (Str × List FK), inBB (ps.map fun p => (p.1, p.2.map FK.bnd)) (ps.map fun p => p.2.map fun f => f.get m) = (ps.flatMap fun p => p.2).all fun f => f.inb (f.get m)
  | [] => rfl
  | p :: ps => by
    simp only [List.map_cons, inBB, List.flatMap_cons, List.all_append, inBB_all m ps, inB_all]
/-- what Wrap looks at: may it be? -/
theorem tell_may (h : Bool × Bool × Bool) (m : MD) : ((tellsF m (allF h) (decide (m.pl < 4), base m)).1 = true ∧ (tellsF m (allF h) (decide (m.pl < 4), base m)).2 = m) ↔ mayM h m = true := by
  have h1 : (tellsF m (allF h) (decide (m.pl < 4), base m)).1 = (decide (m.pl < 4) && inBB (partsB h) (valsB h m)) := by
    rw [tellsF_fst, partsB_F, valsB_F, inBB_all]; rfl
  have h2 : copyF m (allF h) (base m) = m ↔ ((h.1 || c0B m.c) && (h.2.1 || decide (m.am = 0)) && (h.2.2 || decide (m.co = 0))) = true := by
    obtain ⟨a, b, c⟩ := h
    obtain ⟨k, tc, ts, pl, ⟨c1, c2, c3, c4, c5, c6⟩, am, co⟩ := m
    cases a <;> cases b <;> cases c <;> simp [copyF, allF, partF, base, FK.set, FK.get, c0B, cd0, @eq_comm Int 0, @eq_comm Nat 0, and_assoc]
  unfold mayM
  constructor
  · rintro ⟨e1, e2⟩
    rw [tellsF_snd _ _ _ e1] at e2
    have e3 := h2.1 e2
    rw [h1] at e1
    simp only [Bool.and_eq_true] at e1 e3 ⊢
    exact ⟨⟨⟨e1, e3.1.1⟩, e3.1.2⟩, e3.2⟩
  · intro e
    simp only [Bool.and_eq_true] at e
    have e1 : (tellsF m (allF h) (decide (m.pl < 4), base m)).1 = true := by
      rw [h1, Bool.and_eq_true]; exact e.1.1.1
    refine ⟨e1, ?_⟩
    rw [tellsF_snd _ _ _ e1]
    refine h2.2 ?_
    simp only [Bool.and_eq_true]
    exact ⟨⟨e.1.1.2, e.1.2⟩, e.2⟩
/-! ### reading -/
def readF (st : Bool × MD) (p : FK × Str) : Bool × MD := match wholeE p.2 p.1.bnd.1 p.1.bnd.2 with
  | some v => (st.1, p.1.set v st.2)
  | none => (false, p.1.set 0 st.2)
/-- a part read: its segment's words, if it is one -/
def readP (st : Bool × MD) (p : (Str × List FK) × Option Seg) : Bool × MD := match p.2.bind fun s => wordsS s p.1.1 p.1.2.length with
  | some l => (p.1.2.zip l).foldl readF st
  | none => (false, st.2)
theorem readFs_false : ∀ (l : List (FK × Str)) (m : MD), (l.foldl readF (false, m)).1 = false
  | [], _ => rfl
  | p :: l, m => by
    show (l.foldl readF (readF (false, m) p)).1 = false
    have : readF (false, m) p = (false, (readF (false, m) p).2) := by
      unfold readF
      split <;> rfl
    rw [this]
    exact readFs_false l _
theorem readFs : ∀ (fs : List FK) (l : List Str) (m : MD), l.length = fs.length →
    match wholeL (fs.map FK.bnd) l with
    | some vs => (fs.zip l).foldl readF (true, m) = (true, (fs.zip vs).foldl (fun m p => p.1.set p.2 m) m)
    | none => ((fs.zip l).foldl readF (true, m)).1 = false
  | [], [], m, _ => rfl
  | [], _ :: _, m, h => by simp at h
  | _ :: _, [], m, h => by simp at h
  | f :: fs, s :: l, m, h => by
    simp only [List.map_cons, wholeL, List.zip_cons_cons, List.foldl_cons]
    have hl : l.length = fs.length := by simpa using h
    cases hw : wholeE s f.bnd.1 f.bnd.2 with
    | none =>
      simp only
      have : readF (true, m) (f, s) = (false, f.set 0 m) := by unfold readF; simp only [hw]
      rw [this]
      exact readFs_false _ _
    | some v =>
      have e : readF (true, m) (f, s) = (true, f.set v m) := by unfold readF; simp only [hw]
      rw [e]
      have ih := readFs fs l (f.set v m) hl
      cases hL : wholeL (fs.map FK.bnd) l with
      | none => rw [hL] at ih; exact ih
      | some vs => rw [hL] at ih; exact ih
theorem readPs_false : ∀ (l : List ((Str × List FK) × Option Seg)) (m : MD), (l.foldl readP (false, m)).1 = false
  | [], _ => rfl
  | p :: l, m => by
    show (l.foldl readP (readP (false, m) p)).1 = false
    have : readP (false, m) p = (false, (readP (false, m) p).2) := by
      unfold readP
      split
      · exact Prod.ext (readFs_false _ _) rfl
      · rfl
    rw [this]
    exact readPs_false l _
def setsF (ps : List ((Str × List FK) × List Int)) (m : MD) : MD := ps.foldl (fun m p => (p.1.2.zip p.2).foldl (fun m q => q.1.set q.2 m) m) m
/-- parts of a message read, as many as there are segments -/
theorem readPs : ∀ (ps : List (Str × List FK)) (ss : List Seg) (m : MD), ss.length = ps.length →
    match partsR (ps.map fun p => (p.1, p.2.map FK.bnd)) ss with
    | some vss => (ps.zip (ss.map some)).foldl readP (true, m) = (true, setsF (ps.zip vss) m)
    | none => ((ps.zip (ss.map some)).foldl readP (true, m)).1 = false
  | [], [], m, _ => rfl
  | [], _ :: _, m, h => by simp at h
  | _ :: _, [], m, h => by simp at h
  | p :: ps, s :: ss, m, h => by
    simp only [List.map_cons, partsR, List.zip_cons_cons, List.foldl_cons]
    have hl : ss.length = ps.length := by simpa using h
    unfold partR
    simp only [List.length_map]
    cases hw : wordsS s p.1 p.2.length with
    | none =>
      have : readP (true, m) (p, some s) = (false, m) := by
        unfold readP; simp only [Option.bind_some, hw]
      simp only [this]
      exact readPs_false _ _
    | some l =>
      have e : readP (true, m) (p, some s) = (p.2.zip l).foldl readF (true, m) := by
        unfold readP; simp only [Option.bind_some, hw]
      have hll : l.length = p.2.length := (wordsS_inj hw).2
      have h1 := readFs p.2 l m hll
      simp only [e]
      cases hL : wholeL (p.2.map FK.bnd) l with
      | none =>
        rw [hL] at h1
        simp only at h1 ⊢
        rw [show (p.2.zip l).foldl readF (true, m) = (false, ((p.2.zip l).foldl readF (true, m)).2) by rw [← h1]]
        exact readPs_false _ _
      | some vs =>
        rw [hL] at h1
        simp only at h1 ⊢
        rw [h1]
        have ih := readPs ps ss ((p.2.zip vs).foldl (fun m q => q.1.set q.2 m) m) hl
        cases hR : partsR (ps.map fun p => (p.1, p.2.map FK.bnd)) ss with
        | none => rw [hR] at ih; exact ih
        | some vss => rw [hR] at ih; exact ih
/-- what is set is the message -/
theorem sets_md {k : Nat} {h : Bool × Bool × Bool} (hk : hasK k = some h) {vs : List (List Int)} (hb : inBB (partsB h) vs = true) (c s a : Nat) : setsF ((partF h).zip vs) ⟨k, c, s, a, cd0, 0, 0⟩ = mdOf h k c s a vs := by
  rcases (hasK_cases hk).2 with rfl | rfl | rfl | rfl | rfl
  · rw [inBB0 hb]; rfl
  · obtain ⟨v, l, rfl, h1, h2⟩ := inBB1 (p := (tCPN, cpnB)) (ps := []) hb
    obtain ⟨x1, x2, x3, x4, x5, x6, rfl, _⟩ := inB6 h1
    rw [inBB0 h2]; rfl
  · obtain ⟨v, l, rfl, h1, h2⟩ := inBB1 (p := (tCOD, codB)) (ps := []) hb
    obtain ⟨u, rfl⟩ := inB1 h1
    rw [inBB0 h2]; rfl
  · obtain ⟨v, l, rfl, h1, h2⟩ := inBB1 (p := (tAMT, amtB)) (ps := []) hb
    obtain ⟨u, rfl⟩ := inB1 h1
    rw [inBB0 h2]; rfl
  · obtain ⟨v, l, rfl, h1, h2⟩ := inBB1 (p := (tAMT, amtB)) (ps := [(tCOD, codB)]) hb
    obtain ⟨u, rfl⟩ := inB1 h1
    obtain ⟨v2, l2, rfl, h3, h4⟩ := inBB1 (p := (tCOD, codB)) (ps := []) h2
    obtain ⟨u2, rfl⟩ := inB1 h3
    rw [inBB0 h4]; rfl
end Go.Proofs.YtgfijlamhjjecaaGreatDoor


/-
  MsgZ1: reading a packet, case by case: plain laws. No condition beyond those stated.
-/
namespace Go.Proofs.YtgfijlamhjjecaaGreatDoor
def segO (x : WD) (i : Nat) (t : Str) (n : Nat) : Option (List Str) := (x.segs[i]?).bind fun s => wordsS s t n
theorem segO_len {x : WD} {i n : Nat} {t : Str} {l : List Str} (h : segO x i t n = some l) : l.length = n := by
  unfold segO at h
  obtain ⟨s, _, hs⟩ := bind_some h
  exact (wordsS_inj hs).2
theorem ack_some {x : WD} {l : List Str} (h : segO x 0 tACK 0 = some l) : ∃ s r, x.segs = s :: r ∧ ackS s = true := by
  unfold segO at h
  obtain ⟨s, h0, hs⟩ := bind_some h
  cases hx : x.segs with
  | nil => rw [hx] at h0; cases h0
  | cons a r =>
    rw [hx] at h0
    cases h0
    refine ⟨_, r, rfl, ?_⟩
    unfold wordsS at hs
    split at hs
    · rename_i hc
      unfold ackS
      simp [hc.1, List.eq_nil_of_length_eq_zero hc.2]
    · cases hs
theorem ack_none {x : WD} {s : Seg} {r : List Seg} (h : segO x 0 tACK 0 = none) (hx : x.segs = s :: r) : ackS s = false := by
  unfold segO at h
  rw [hx] at h
  cases ha : ackS s with
  | false => rfl
  | true =>
    unfold ackS at ha
    rw [Bool.and_eq_true, decide_eq_true_eq, List.isEmpty_iff] at ha
    have : wordsS s tACK 0 = some [] := by unfold wordsS; rw [if_pos ⟨ha.1, by rw [ha.2]; rfl⟩, ha.2]; rfl
    simp [this] at h
section
variable {x : WD}
theorem pm_car (h : 8 ≤ x.fr ∨ 8 ≤ x.dst) : packetM x = (pd0, 1) := by unfold packetM; rw [if_pos h]
theorem pm_ack2 (h : ¬ (8 ≤ x.fr ∨ 8 ≤ x.dst)) {l : List Str} (ha : segO x 0 tACK 0 = some l) (hl : 1 < x.segs.length) : packetM x = (pd0, 101) := by
  obtain ⟨s, r, hx, hs⟩ := ack_some ha
  unfold packetM
  rw [if_neg h, hx]
  simp only
  rw [if_pos hs, if_neg]
  rw [hx] at hl
  rintro rfl
  simp at hl
theorem pm_ack (h : ¬ (8 ≤ x.fr ∨ 8 ≤ x.dst)) {l : List Str} (ha : segO x 0 tACK 0 = some l) (hl : ¬ 1 < x.segs.length) : packetM x = (⟨x.fr, x.dst, true, x.rf, md0⟩, 0) := by
  obtain ⟨s, r, hx, hs⟩ := ack_some ha
  unfold packetM
  rw [if_neg h, hx]
  simp only
  rw [if_pos hs, if_pos]
  rw [hx] at hl
  cases r with
  | nil => rfl
  | cons _ _ => simp at hl
theorem pm_msg (h : ¬ (8 ≤ x.fr ∨ 8 ≤ x.dst)) (ha : segO x 0 tACK 0 = none) (hm : segO x 0 tMSG 1 = none) : packetM x = (pd0, 100) := by
  unfold packetM
  rw [if_neg h]
  cases hx : x.segs with
  | nil => rfl
  | cons s r =>
    simp only
    rw [if_neg (by rw [ack_none ha hx]; decide)]
    have : wordsS s tMSG 1 = none := by unfold segO at hm; rw [hx] at hm; simpa using hm
    rw [this]; rfl
theorem pm_some (h : ¬ (8 ≤ x.fr ∨ 8 ≤ x.dst)) (ha : segO x 0 tACK 0 = none) {u : Str} (hm : segO x 0 tMSG 1 = some [u]) : ∃ s r, x.segs = s :: r ∧ packetM x = (match wholeE u 0 255 with
    | some k =>
      (match hasK k.toNat with
      | none => (pd0, 100)
      | some h => match r with
        | [] => (pd0, 101)
        | y :: r => match wordsS y tKEY 2 with
          | some [t, u] =>
            if (parse7 t).2 ≠ 0 then (pd0, (parse7 t).2) else
            (match wholeE u 0 3, partsR (partsB h) r with
            | some a, some vs => (⟨x.fr, x.dst, false, x.rf, mdOf h k.toNat (parse7 t).1.1 (parse7 t).1.2 a.toNat vs⟩, 0)
            | _, _ => (pd0, 101))
          | _ => (pd0, 101))
    | none => (pd0, 100)) := by
  unfold segO at hm
  obtain ⟨s, h0, hs⟩ := bind_some hm
  cases hx : x.segs with
  | nil => rw [hx] at h0; cases h0
  | cons a r =>
    rw [hx] at h0
    cases h0
    refine ⟨_, _, rfl, ?_⟩
    unfold packetM
    rw [if_neg h, hx]
    simp only
    rw [if_neg (by rw [ack_none ha hx]; decide), hs]
    simp only [Option.bind_some]
    unfold wholeL
    cases hw : wholeE u 0 255 with
    | none => rfl
    | some k => rfl
theorem pm_num (h : ¬ (8 ≤ x.fr ∨ 8 ≤ x.dst)) (ha : segO x 0 tACK 0 = none) {u : Str} (hm : segO x 0 tMSG 1 = some [u]) (hw : wholeE u 0 255 = none) : packetM x = (pd0, 100) := by
  obtain ⟨s, r, _, e⟩ := pm_some h ha hm
  rw [e, hw]
theorem pm_kind (h : ¬ (8 ≤ x.fr ∨ 8 ≤ x.dst)) (ha : segO x 0 tACK 0 = none) {u : Str} (hm : segO x 0 tMSG 1 = some [u]) {k : Int} (hw : wholeE u 0 255 = some k) (hk : hasK k.toNat = none) : packetM x = (pd0, 100) := by
  obtain ⟨s, r, _, e⟩ := pm_some h ha hm
  rw [e, hw]; simp only; rw [hk]
theorem pm_key (h : ¬ (8 ≤ x.fr ∨ 8 ≤ x.dst)) (ha : segO x 0 tACK 0 = none) {u : Str} (hm : segO x 0 tMSG 1 = some [u]) {k : Int} (hw : wholeE u 0 255 = some k) {hh : Bool × Bool × Bool} (hk : hasK k.toNat = some hh) (hy : segO x 1 tKEY 2 = none) : packetM x = (pd0, 101) := by
  obtain ⟨s, r, hx, e⟩ := pm_some h ha hm
  rw [e, hw]; simp only; rw [hk]
  unfold segO at hy
  rw [hx] at hy
  cases r with
  | nil => rfl
  | cons y r =>
    have : wordsS y tKEY 2 = none := by simpa using hy
    simp only [this]
theorem pm_rest (h : ¬ (8 ≤ x.fr ∨ 8 ≤ x.dst)) (ha : segO x 0 tACK 0 = none) {u : Str} (hm : segO x 0 tMSG 1 = some [u]) {k : Int} (hw : wholeE u 0 255 = some k) {hh : Bool × Bool × Bool} (hk : hasK k.toNat = some hh) {t u2 : Str} (hy : segO x 1 tKEY 2 = some [t, u2]) :
    2 ≤ x.segs.length ∧ packetM x = if (parse7 t).2 ≠ 0 then (pd0, (parse7 t).2) else
      (match wholeE u2 0 3, partsR (partsB hh) (x.segs.drop 2) with
      | some a, some vs => (⟨x.fr, x.dst, false, x.rf, mdOf hh k.toNat (parse7 t).1.1 (parse7 t).1.2 a.toNat vs⟩, 0)
      | _, _ => (pd0, 101)) := by
  obtain ⟨s, r, hx, e⟩ := pm_some h ha hm
  unfold segO at hy
  rw [hx] at hy
  cases r with
  | nil => simp at hy
  | cons y r =>
    have h1 : wordsS y tKEY 2 = some [t, u2] := by simpa using hy
    refine ⟨by rw [hx]; simp, ?_⟩
    rw [e, hw]; simp only; rw [hk]
    simp only [h1, hx, List.drop_succ_cons, List.drop_zero]
theorem pm_tick (h : ¬ (8 ≤ x.fr ∨ 8 ≤ x.dst)) (ha : segO x 0 tACK 0 = none) {u : Str} (hm : segO x 0 tMSG 1 = some [u]) {k : Int} (hw : wholeE u 0 255 = some k) {hh : Bool × Bool × Bool} (hk : hasK k.toNat = some hh) {t u2 : Str} (hy : segO x 1 tKEY 2 = some [t, u2]) (ht : (parse7 t).2 ≠ 0) : packetM x = (pd0, (parse7 t).2) := by
  rw [(pm_rest h ha hm hw hk hy).2, if_pos ht]
def readN (x : WD) (hh : Bool × Bool × Bool) (n : Nat) (st : Bool × MD) : Bool × MD := ((List.range n).map fun i => (((partF hh)[i]?).getD ([], []), x.segs[2 + i]?)).foldl readP st
theorem readN_succ (x : WD) (hh : Bool × Bool × Bool) (n : Nat) (st : Bool × MD) : readN x hh (n + 1) st = readP (readN x hh n st) (((partF hh)[n]?).getD ([], []), x.segs[2 + n]?) := by
  unfold readN
  rw [List.range_succ, List.map_append, List.foldl_append]
  rfl
theorem pm_main (h : ¬ (8 ≤ x.fr ∨ 8 ≤ x.dst)) (ha : segO x 0 tACK 0 = none) {u : Str} (hm : segO x 0 tMSG 1 = some [u]) {k : Int} (hw : wholeE u 0 255 = some k) {hh : Bool × Bool × Bool} (hk : hasK k.toNat = some hh) {t u2 : Str} (hy : segO x 1 tKEY 2 = some [t, u2]) (ht : (parse7 t).2 = 0)
    {st : Bool × MD} (hst : st = readN x hh (partF hh).length ((wholeE u2 0 3).isSome && decide (x.segs.length = 2 + (partF hh).length), ⟨k.toNat, (parse7 t).1.1, (parse7 t).1.2, ((wholeE u2 0 3).getD 0).toNat, cd0, 0, 0⟩)) :
    packetM x = if st.1 = true then (⟨x.fr, x.dst, false, x.rf, st.2⟩, 0) else (pd0, 101) := by
  obtain ⟨hl2, e⟩ := pm_rest h ha hm hw hk hy
  rw [e, if_neg (by simp [ht])]
  cases ha3 : wholeE u2 0 3 with
  | none =>
    rw [ha3] at hst
    have : st.1 = false := by
      rw [hst]
      simp only [Option.isSome_none, Bool.false_and]
      unfold readN
      exact readPs_false _ _
    rw [this]; rfl
  | some a =>
    rw [ha3] at hst
    simp only [Option.isSome_some, Bool.true_and, Option.getD_some] at hst
    by_cases hlen : x.segs.length = 2 + (partF hh).length
    · rw [decide_eq_true hlen] at hst
      have hdl : (x.segs.drop 2).length = (partF hh).length := by rw [List.length_drop]; omega
      have hz : ((List.range (partF hh).length).map fun i => (((partF hh)[i]?).getD ([], []), x.segs[2 + i]?)) = (partF hh).zip ((x.segs.drop 2).map some) := by
        apply List.ext_getElem?
        intro i
        by_cases hi : i < (partF hh).length
        · have h1 : ((List.range (partF hh).length).map fun i => (((partF hh)[i]?).getD ([], []), x.segs[2 + i]?))[i]? = some (((partF hh)[i]?).getD ([], []), x.segs[2 + i]?) := by
            rw [List.getElem?_map, List.getElem?_range hi]; rfl
          rw [h1, List.getElem?_zip_eq_some.2]
          refine ⟨?_, ?_⟩
          · rw [List.getElem?_eq_getElem hi]; rfl
          · rw [List.getElem?_map, List.getElem?_drop, List.getElem?_eq_getElem (by omega)]; rfl
        · rw [List.getElem?_eq_none (by simp; omega), List.getElem?_eq_none (by simp [List.length_zip]; omega)]
      unfold readN at hst
      rw [hz] at hst
      have h2 := readPs (partF hh) (x.segs.drop 2) ⟨k.toNat, (parse7 t).1.1, (parse7 t).1.2, a.toNat, cd0, 0, 0⟩ hdl
      rw [← partsB_F] at h2
      cases hp : partsR (partsB hh) (x.segs.drop 2) with
      | none =>
        rw [hp] at h2
        simp only at h2
        rw [← hst] at h2
        rw [h2]; rfl
      | some vs =>
        rw [hp] at h2
        simp only at h2
        rw [h2] at hst
        have hb := (partsR_inj (sane_parts hh) hp).2
        rw [sets_md hk hb] at hst
        rw [hst]; rfl
    · rw [decide_eq_false hlen] at hst
      have h1 : st.1 = false := by rw [hst]; unfold readN; exact readPs_false _ _
      rw [h1]
      have hp : partsR (partsB hh) (x.segs.drop 2) = none := by
        cases hp : partsR (partsB hh) (x.segs.drop 2) with
        | none => rfl
        | some vs =>
          have h3 := partsR_len hp
          rw [partsB_F, List.length_map, List.length_drop] at h3
          omega
      rw [hp]; rfl
end
end Go.Proofs.YtgfijlamhjjecaaGreatDoor


/-
  NumQ: numbers of tickets as the reference tells and reads them: plain words and laws. No condition.
-/
namespace Go.Proofs.YtgfijlamhjjecaaGreatDoor
/-- what is left of digits, divided by 7 -/
def leftF : Nat → Str → Nat
  | v, [] => v
  | v, c :: r => leftF ((10 * v + (c.toNat - 48)) % 7) r
theorem leftF_lt {v : Nat} (s : Str) : v < 7 → leftF v s < 7 := by
  induction s generalizing v with
  | nil => exact id
  | cons c r ih => intro _; exact ih (Nat.mod_lt _ (by omega))
theorem leftF_val (s : Str) : ∀ (v : Nat), leftF (v % 7) s = valF v s % 7 := by
  induction s with
  | nil => intro v; rfl
  | cons c r ih =>
    intro v
    show leftF ((10 * (v % 7) + (c.toNat - 48)) % 7) r = valF (v * 10 + (c.toNat - 48)) r % 7
    rw [← ih]
    congr 1
    omega
theorem left_val (s : Str) : leftF 0 s = valN s % 7 := leftF_val s 0
theorem valF_split (s : Str) : ∀ (v : Nat), valF v s = v * 10 ^ s.length + valN s := by
  induction s with
  | nil => intro v; rw [List.length_nil, Nat.pow_zero, Nat.mul_one]; rfl
  | cons c r ih =>
    intro v
    have e1 : valF v (c :: r) = valF (v * 10 + (c.toNat - 48)) r := rfl
    have e2 : valN (c :: r) = valF (0 * 10 + (c.toNat - 48)) r := rfl
    rw [e1, e2, List.length_cons, ih (v * 10 + (c.toNat - 48)), ih (0 * 10 + (c.toNat - 48)), Nat.pow_succ, Nat.add_mul, Nat.add_mul, Nat.zero_mul, Nat.mul_assoc v 10, Nat.mul_comm 10 (10 ^ r.length)]
    generalize v * (10 ^ r.length * 10) = A
    generalize (c.toNat - 48) * 10 ^ r.length = B
    omega
theorem valN_lt (s : Str) : s.all digB = true → valN s < 10 ^ s.length := by
  induction s with
  | nil => intro _; rw [List.length_nil, Nat.pow_zero]; exact Nat.one_pos
  | cons c r ih =>
    intro h
    rw [List.all_cons, Bool.and_eq_true] at h
    have h1 := ih h.2
    obtain ⟨_, h2, _⟩ := digC_of h.1
    have e2 : valN (c :: r) = valF (0 * 10 + (c.toNat - 48)) r := rfl
    rw [e2, valF_split, List.length_cons, Nat.pow_succ, Nat.zero_mul, Nat.zero_add]
    have h3 : (c.toNat - 48) * 10 ^ r.length ≤ 9 * 10 ^ r.length := Nat.mul_le_mul_right _ (by omega)
    generalize (c.toNat - 48) * 10 ^ r.length = B at *
    generalize 10 ^ r.length = P at *
    omega
/-- reading, as the reference does -/
def parse7R (t : Str) : (Nat × Nat) × Int :=
  if t.length ≠ 14 ∨ ¬ t.all digB then ((0, 0), 90) else
  if leftF 0 (t.take 13) ≠ valN (t.drop 13) then ((0, 0), 70) else
  if mayT (valN (t.take 3)) (valN ((t.take 13).drop 3)) then ((valN (t.take 3), valN ((t.take 13).drop 3)), 0) else ((0, 0), 1)
theorem valN_app (a b : Str) : valN (a ++ b) = valN a * 10 ^ b.length + valN b := by
  unfold valN
  rw [valF_append, valF_split]
  rfl
theorem parse7R_eq (t : Str) : parse7R t = parse7 t := by
  unfold parse7R parse7
  by_cases h : t.length ≠ 14 ∨ ¬ t.all digB
  · rw [if_pos h, if_pos h]
  rw [if_neg h, if_neg h]
  rw [not_or, Classical.not_not, Classical.not_not] at h
  obtain ⟨hl, hd⟩ := h
  have e1 : valN t = valN (t.take 13) * 10 + valN (t.drop 13) := by
    have := valN_app (t.take 13) (t.drop 13)
    rw [List.take_append_drop, List.length_drop, hl] at this
    exact this
  have d1 : valN (t.drop 13) < 10 := by
    have := valN_lt (t.drop 13) (by rw [List.all_eq_true] at hd ⊢; exact fun c hc => hd c (List.mem_of_mem_drop hc))
    rw [List.length_drop, hl] at this
    exact this
  have e2 : valN (t.take 13) = valN (t.take 3) * 10000000000 + valN ((t.take 13).drop 3) := by
    have := valN_app ((t.take 13).take 3) ((t.take 13).drop 3)
    rw [List.take_append_drop, List.length_drop, List.length_take, hl, List.take_take] at this
    exact this
  have d2 : valN ((t.take 13).drop 3) < 10000000000 := by
    have := valN_lt ((t.take 13).drop 3) (by rw [List.all_eq_true] at hd ⊢; exact fun c hc => hd c (List.mem_of_mem_take (List.mem_of_mem_drop hc)))
    rw [List.length_drop, List.length_take, hl] at this
    exact this
  rw [left_val]
  generalize valN (t.drop 13) = d at *
  generalize valN ((t.take 13).drop 3) = s at *
  generalize valN (t.take 3) = c at *
  generalize valN (t.take 13) = V at *
  generalize valN t = T at *
  subst e1
  have f1 : (V * 10 + d) / 10 = V := by omega
  have f2 : (V * 10 + d) % 10 = d := by omega
  have f3 : (V * 10 + d) / 100000000000 = c := by
    rw [show (100000000000 : Nat) = 10 * 10000000000 from rfl, ← Nat.div_div_eq_div_mul, f1]; omega
  have f4 : V % 10000000000 = s := by omega
  rw [f1, f2, f3, f4]
end Go.Proofs.YtgfijlamhjjecaaGreatDoor

