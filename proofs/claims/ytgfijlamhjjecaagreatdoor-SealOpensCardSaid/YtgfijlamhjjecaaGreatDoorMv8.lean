/-
  Texts WrapX, EdiA6, EdiA1, one behind the other. No condition beyond those stated in each.
-/
import Derived.Test.YtgfijlamhjjecaaGreatDoorMv7
import Derived.Test.YtgfijlamhjjecaaGreatDoorMv5
import Derived.Laws.ResultCell
import Derived.Test.YtgfijlamhjjecaaGreatDoorMv4
import Derived.Test.YtgfijlamhjjecaaGreatDoorMv1
import Derived.Deep.Slices
import Derived.SliceStrings
import Derived.OpenShut
import Derived.ChangeSame
namespace Go.Proofs.YtgfijlamhjjecaaGreatDoor
open Go.RowKit
def wv (x : WD) (v : Value) : Value := .agg #[.int .u8 (x.fr : Int), .int .u8 (x.dst : Int), .int .u64 (x.rf : Int), v]
def WParseQ (t : Str) (w : World) (e : Ending) (w' : World) : Prop := ∃ v, e = .returned (.tuple #[wv (wrapParseE t).1 v, .int .i64 (wrapParseE t).2]) ∧ SegsAt (fun k => w.heap.size ≤ k ∧ k < w'.heap.size) w' v (wrapParseE t).1.segs ∧ Below w.heap.size w w'
theorem wq_err {t : Str} {w w' : World} {k : Int} (h : wrapParseE t = (wd0, k)) (hb : Below w.heap.size w w') : WParseQ t w (.returned (.tuple #[.agg #[.int .u8 0, .int .u8 0, .int .u64 0, .slice none 0 0], .int .i64 k])) w' := by
 unfold WParseQ
 rw [h]
 exact ⟨.slice none 0 0, rfl, SegsAt.nil _ _, hb⟩
theorem res_wrap {fn : Func} {p u : Tmp} (h : fn.results = #[.cell p 41, .tmp u]) (tmps : Array Value) {w : World} {g : Nat} {cs : Array Value} {x : Value} {t : TypeId} (hp : tmps.getD p undef = .pointer (some ⟨g, 0, none⟩)) (hu : tmps.getD u undef = x)
  (hg : w.heap[g]? = some (.cells cs t (0, 0))) (hs : cs.size = 4) : (results fn tmps).run Tryz.prog w = .ok (.tuple #[.agg cs, x]) w := by
 rw [results_cell_tmp h, hp, hu]
 have hl : (loadVar 41 ⟨g, 0, none⟩).run Tryz.prog w = .ok (.agg cs) w := run_loadVar_row w g t 41 cs (0, 0) _ hg Tryz.underlying41 rfl (by rw [hs]; kernel_rfl)
 simp [asAddr, hl, Result.andThen]
def put4 (w : World) (g : Nat) (a b c d : Value) : World := (((w.setCell ⟨g, 0, none⟩ a).setCell ⟨g, 1, none⟩ b).setCell ⟨g, 2, none⟩ c).setCell ⟨g, 3, none⟩ d
theorem put4_heap {w : World} {g : Nat} {x y z u : Value} {t : TypeId} (h : w.heap[g]? = some (.cells #[x, y, z, u] t (0, 0))) (a b c d : Value) : (put4 w g a b c d).heap[g]? = some (.cells #[a, b, c, d] t (0, 0)) := by
 have h0 := heap_setCell_same w g 0 _ _ a h
 have h1 := heap_setCell_same _ g 1 _ _ b h0
 have h2 := heap_setCell_same _ g 2 _ _ c h1
 have h3 := heap_setCell_same _ g 3 _ _ d h2
 exact h3
theorem put4_size (w : World) (g : Nat) (a b c d : Value) : (put4 w g a b c d).heap.size = w.heap.size := by unfold put4; simp
theorem put4_below {w0 w : World} {B g : Nat} (h : Below B w0 w) (hg : B ≤ g) (a b c d : Value) : Below B w0 (put4 w g a b c d) := (((h.setCell hg _).setCell hg _).setCell hg _).setCell hg _
theorem put4_other (w : World) (g : Nat) (a b c d : Value) {k : Nat} (hk : k ≠ g) : (put4 w g a b c d).heap[k]? = w.heap[k]? := by
 unfold put4
 rw [heap_setCell_other _ _ _ _ (by simpa using hk), heap_setCell_other _ _ _ _ (by simpa using hk), heap_setCell_other _ _ _ _ (by simpa using hk), heap_setCell_other _ _ _ _ (by simpa using hk)]
theorem cells4 {w : World} {g : Nat} {x y z u : Value} {t : TypeId} (h : w.heap[g]? = some (.cells #[x, y, z, u] t (0, 0))) : (w.cell? ⟨g, 0, none⟩ = some x ∧ w.cell? ⟨g, 1, none⟩ = some y ∧ w.cell? ⟨g, 2, none⟩ = some z ∧ w.cell? ⟨g, 3, none⟩ = some u) ∧ (w.frozen? ⟨g, 0, none⟩ = false ∧ w.frozen? ⟨g, 1, none⟩ = false ∧ w.frozen? ⟨g, 2, none⟩ = false ∧ w.frozen? ⟨g, 3, none⟩ = false) :=
 ⟨⟨cell_of_row w g 0 _ _ _ h, cell_of_row w g 1 _ _ _ h, cell_of_row w g 2 _ _ _ h, cell_of_row w g 3 _ _ _ h⟩, frozen_of_row w g 0 _ _ h, frozen_of_row w g 1 _ _ h, frozen_of_row w g 2 _ _ h, frozen_of_row w g 3 _ _ h⟩
structure PK (B N n b off : Nat) (th : Str) (xh : Value) (tz : Str) (xz : Value) (w : World) : Prop where
 res : w.heap[B]? = some (.cells #[.int .u8 0, .int .u8 0, .int .u64 0, .slice none 0 0] 41 (0, 0))
 cn : w.cell? ⟨N, 0, none⟩ = some (.int .i64 (n : Int))
 h0 : w.cell? ⟨b, off, none⟩ = some (sv th)
 h1 : w.cell? ⟨b, off + 1, none⟩ = some xh
 z0 : w.cell? ⟨b, off + (n - 1) * 2, none⟩ = some (sv tz)
 z1 : w.cell? ⟨b, off + (n - 1) * 2 + 1, none⟩ = some xz
theorem PK.on {B N n b off M : Nat} {th : Str} {xh : Value} {tz : Str} {xz : Value} {w w' : World} (h : PK B N n b off th xh tz xz w) (hb : Below M w w') (hM : w.heap.size ≤ M) : PK B N n b off th xh tz xz w' :=
 ⟨(hb.block B (Nat.lt_of_lt_of_le (Array.getElem?_eq_some_iff.1 h.res).1 hM)).trans h.res, (hb.cell (Nat.lt_of_lt_of_le (cell_lt' h.cn) hM)).trans h.cn, (hb.cell (Nat.lt_of_lt_of_le (cell_lt' h.h0) hM)).trans h.h0, (hb.cell (Nat.lt_of_lt_of_le (cell_lt' h.h1) hM)).trans h.h1, (hb.cell (Nat.lt_of_lt_of_le (cell_lt' h.z0) hM)).trans h.z0, (hb.cell (Nat.lt_of_lt_of_le (cell_lt' h.z1) hM)).trans h.z1⟩
structure NK (eb eo zb zo : Nat) (x0 x1 x2 y0 y1 : Value) (e0 e1 e2 g0 g1 : List Str) (w : World) : Prop where
 c0 : w.cell? ⟨eb, eo, none⟩ = some x0
 c1 : w.cell? ⟨eb, eo + 1, none⟩ = some x1
 c2 : w.cell? ⟨eb, eo + 2, none⟩ = some x2
 c3 : w.cell? ⟨zb, zo, none⟩ = some y0
 c4 : w.cell? ⟨zb, zo + 1, none⟩ = some y1
 k0 : CompsAt (fun k => k < w.heap.size) w x0 e0
 k1 : CompsAt (fun k => k < w.heap.size) w x1 e1
 k2 : CompsAt (fun k => k < w.heap.size) w x2 e2
 k3 : CompsAt (fun k => k < w.heap.size) w y0 g0
 k4 : CompsAt (fun k => k < w.heap.size) w y1 g1
theorem NK.on {eb eo zb zo M : Nat} {x0 x1 x2 y0 y1 : Value} {e0 e1 e2 g0 g1 : List Str} {w w' : World} (h : NK eb eo zb zo x0 x1 x2 y0 y1 e0 e1 e2 g0 g1 w) (hb : Below M w w') (hM : w.heap.size ≤ M) : NK eb eo zb zo x0 x1 x2 y0 y1 e0 e1 e2 g0 g1 w' := by
 have hc : ∀ {b o : Nat} {v : Value}, w.cell? ⟨b, o, none⟩ = some v → w'.cell? ⟨b, o, none⟩ = some v := fun h1 => (hb.cell (Nat.lt_of_lt_of_le (cell_lt' h1) hM)).trans h1
 have hk : ∀ {x : Value} {e : List Str}, CompsAt (fun k => k < w.heap.size) w x e → CompsAt (fun k => k < w'.heap.size) w' x e := fun h1 => h1.cong (fun k hk => by have := hb.size; omega) (fun k hk => hb.block k (by omega))
 exact ⟨hc h.c0, hc h.c1, hc h.c2, hc h.c3, hc h.c4, hk h.k0, hk h.k1, hk h.k2, hk h.k3, hk h.k4⟩
theorem nk_of {w : World} {xh xz : Value} {e0 e1 e2 g0 g1 : List Str} (h : ElemsAt (fun k => k < w.heap.size) w xh [e0, e1, e2]) (h' : ElemsAt (fun k => k < w.heap.size) w xz [g0, g1]) :
  ∃ eb eo ec zb zo zc x0 x1 x2 y0 y1, xh = .slice (some ⟨eb, eo, none⟩) 3 ec ∧ 3 ≤ ec ∧ ec ≤ maxLen ∧ xz = .slice (some ⟨zb, zo, none⟩) 2 zc ∧ 2 ≤ zc ∧ zc ≤ maxLen ∧ NK eb eo zb zo x0 x1 x2 y0 y1 e0 e1 e2 g0 g1 w := by
 obtain ⟨xo, xc, rfl, hx1, hx2⟩ := h.form
 obtain ⟨yo, yc, rfl, hy1, hy2⟩ := h'.form
 obtain ⟨eb, eo, x0, rfl, _, c0, k0⟩ := h.get (k := 0) (e := e0) rfl
 obtain ⟨_, _, x1, hb1, _, c1, k1⟩ := h.get (k := 1) (e := e1) rfl
 cases hb1
 obtain ⟨_, _, x2, hb2, _, c2, k2⟩ := h.get (k := 2) (e := e2) rfl
 cases hb2
 obtain ⟨zb, zo, y0, rfl, _, c3, k3⟩ := h'.get (k := 0) (e := g0) rfl
 obtain ⟨_, _, y1, hb4, _, c4, k4⟩ := h'.get (k := 1) (e := g1) rfl
 cases hb4
 exact ⟨eb, eo, xc, zb, zo, yc, x0, x1, x2, y0, y1, rfl, hx1, hx2, rfl, hy1, hy2, c0, c1, c2, c3, c4, k0, k1, k2, k3, k4⟩
def VK (l : List (Nat × Value)) (w : World) : Prop := ∀ p ∈ l, w.cell? ⟨p.1, 0, none⟩ = some p.2
theorem VK.on {l : List (Nat × Value)} {M : Nat} {w w' : World} (h : VK l w) (hb : Below M w w') (hM : w.heap.size ≤ M) : VK l w' := fun p hp => (hb.cell (Nat.lt_of_lt_of_le (cell_lt' (h p hp)) hM)).trans (h p hp)
theorem VK.alloc {l : List (Nat × Value)} {w : World} (h : VK l w) (o : Obj) : VK l (w.alloc o) := h.on ((Below.refl _ w).alloc (Nat.le_refl _) o) (Nat.le_refl _)
theorem VK.cons {l : List (Nat × Value)} {w : World} {p : Nat × Value} (h : VK l w) (hp : w.cell? ⟨p.1, 0, none⟩ = some p.2) : VK (p :: l) w := fun q hq => by
 rcases List.mem_cons.1 hq with rfl | hq
 · exact hp
 · exact h q hq
theorem pk_of {S : Nat → Prop} {w : World} {v : Value} {th tz : Str} {eh ez : List (List Str)} {m : List Seg} {n : Nat} (h : SegsAt S w v (⟨th, eh⟩ :: (m ++ [⟨tz, ez⟩]))) (hn : (⟨th, eh⟩ :: (m ++ [⟨tz, ez⟩]) : List Seg).length = n) :
  ∃ b off cap xh xz, v = .slice (some ⟨b, off, none⟩) n cap ∧ n ≤ cap ∧ cap ≤ maxLen ∧ S b ∧ (w.cell? ⟨b, off, none⟩ = some (sv th) ∧ w.cell? ⟨b, off + 1, none⟩ = some xh ∧ w.cell? ⟨b, off + (n - 1) * 2, none⟩ = some (sv tz) ∧ w.cell? ⟨b, off + (n - 1) * 2 + 1, none⟩ = some xz) ∧ ElemsAt S w xh eh ∧ ElemsAt S w xz ez := by
 obtain ⟨ao, cap, rfl, h1, h2⟩ := h.form
 have hnm : n - 1 = m.length + 1 := by rw [← hn]; simp
 obtain ⟨b, off, xh, rfl, hS, c0, c1, he⟩ := h.get (k := 0) (s := ⟨th, eh⟩) rfl
 obtain ⟨b', off', xz, hbb, _, c2, c3, he'⟩ := h.get (k := n - 1) (s := ⟨tz, ez⟩) (by rw [hnm]; simp)
 cases hbb
 rw [Nat.zero_mul, Nat.add_zero] at c0 c1
 rw [hn] at h1 ⊢
 exact ⟨b, off, cap, xh, xz, rfl, h1, h2, hS, ⟨c0, c1, c2, c3⟩, he, he'⟩
theorem ends_of {l : List Seg} (h : ¬ l.length < 2) : ∃ a m z, l = a :: (m ++ [z]) := by
 cases l with
 | nil => simp at h
 | cons a r =>
   have hr : r ≠ [] := by rintro rfl; simp at h
   exact ⟨a, r.dropLast, r.getLast hr, by rw [List.dropLast_concat_getLast]⟩
theorem SegsAt.sub {S : Nat → Prop} {w : World} {b off n cap : Nat} {l : List Seg} (H : SegsAt S w (.slice (some ⟨b, off, none⟩) n cap) l) {lo hi c' : Nat} (_h1 : lo ≤ hi) (h2 : hi ≤ l.length) (hc : hi - lo ≤ c') (hc2 : c' ≤ maxLen) : SegsAt S w (.slice (some ⟨b, off + lo * 2, none⟩) (hi - lo) c') ((l.take hi).drop lo) := by
 obtain ⟨ao, cap', xs, e, k1, k2, k3, k4, k5, k6⟩ := H
 cases e
 have hlen : ((l.take hi).drop lo).length = hi - lo := by rw [List.length_drop, List.length_take, Nat.min_eq_left h2]
 have hget : ∀ {α : Type} (l : List α) (i : Nat) (s : α), ((l.take hi).drop lo)[i]? = some s → l[lo + i]? = some s := fun l i s hs => by
  rw [List.getElem?_drop] at hs
  rw [List.getElem?_take] at hs
  split at hs
  · exact hs
  · cases hs
 refine ⟨some ⟨b, off + lo * 2, none⟩, c', (xs.take hi).drop lo, by rw [hlen], by rw [hlen]; exact hc, hc2, (fun e => by cases e), by rw [hlen, List.length_drop, List.length_take, k4, Nat.min_eq_left h2], fun i s x hs hx => k5 _ s x (hget l i s hs) (hget xs i x hx), fun hne => ?_⟩
 have hl0 : l ≠ [] := by rintro rfl; exact hne (by simp)
 obtain ⟨b', off', e, hS, hcell⟩ := k6 hl0
 cases e
 refine ⟨b, off + lo * 2, rfl, hS, fun i s x hs hx => ?_⟩
 obtain ⟨a1, a2⟩ := hcell _ s x (hget l i s hs) (hget xs i x hx)
 rw [show off + lo * 2 + i * 2 = off + (lo + i) * 2 by omega]
 exact ⟨a1, a2⟩
set_option maxRecDepth 100000 in
set_option maxHeartbeats 8000000 in
theorem wParse_any (s : ByteArray) (w : World) (hv : VarsOk w) : Calls Tryz.prog 60 #[.string s] w fun e w' => WParseQ s.data.toList w e w' := by
 obtain ⟨B, hB⟩ : ∃ B, w.heap.size = B := ⟨_, rfl⟩
 by_cases hbig : 65536 < s.size
 · skip
   have hE : wrapParseE s.data.toList = (wd0, 2) := by
    have h1 : parseE s.data.toList = ([], 0, 2) := by unfold parseE; rw [if_pos (by simpa using hbig)]
    unfold wrapParseE
    rw [h1]; rfl
   have HE := Lib.hid hE
   have HBG := Lib.hid (parse_big s hbig)
   clear hE hbig
   go_enter Tryz.func60, Tryz.ntmps60
   go_wp2_with (go_at_call 100; refine (HBG.out _).mono ?_; rintro e w' ⟨rfl, rfl⟩)
   refine bodyPost_ret (res_wrap rfl _ rfl rfl (by rw [← hB]; exact heap_alloc_new _ _) rfl) rfl (wq_err HE.out ((Below.refl _ _).alloc (Nat.le_refl _) _))
 · skip
   have hs : s.size ≤ 65536 := by omega
   have HPA := Lib.hid (parse_own s hs)
   cases hpe : parseE s.data.toList with
   | mk l r =>
   obtain ⟨i, k⟩ := r
   have HPE := Lib.hid hpe
   rw [hpe] at HPA
   have hz1 : (w.alloc (.cells #[.int .u8 0, .int .u8 0, .int .u64 0, .slice none 0 0] 41)).heap.size = B + 1 := by simp [hB]
   have hB1 : Below B w (w.alloc (.cells #[.int .u8 0, .int .u8 0, .int .u64 0, .slice none 0 0] 41)) := by rw [← hB]; exact (Below.refl _ _).alloc (Nat.le_refl _) _
   have hc1 : (w.alloc (.cells #[.int .u8 0, .int .u8 0, .int .u64 0, .slice none 0 0] 41)).heap[B]? = some (.cells #[.int .u8 0, .int .u8 0, .int .u64 0, .slice none 0 0] 41 (0, 0)) := by rw [← hB]; exact heap_alloc_new _ _
   have HZ1 := Lib.hid hz1
   have HB1 := Lib.hid hB1
   have HC1 := Lib.hid hc1
   have HBQ := Lib.hid hB
   have hpe' := hpe
   have hs' := hs
   clear hpe hz1 hB1 hc1 hbig hs
   by_cases hk : k = 0
   · skip
     subst hk
     have HWE : Hid (wrapParseE s.data.toList = wrapOf l) := Lib.hid (by unfold wrapParseE; rw [HPE.out, if_pos rfl])
     by_cases hl2 : l.length < 2
     · skip
       clear hpe' hs'
       have hE : wrapParseE s.data.toList = (wd0, 40) := by
        rw [HWE.out]
        match l, hl2 with
        | [], _ => rfl
        | [a], _ => rfl
       have HE := Lib.hid hE
       obtain ⟨n, hn⟩ : ∃ n, l.length = n := ⟨_, rfl⟩
       have HN := Lib.hid hn
       rw [hn] at hl2
       have i2 : (n : Int) < 2 := by omega
       clear hE hn
       go_enter Tryz.func60, Tryz.ntmps60
       go_wp2_with (go_at_call 100; refine (HPA.out _).mono ?_; rw [HZ1.out]; rintro e w2 ⟨v, rfl, hso, hbe⟩; have HSO := Lib.hid hso.lies; have HBE := Lib.hid hbe; obtain ⟨va, vc, rfl, hv1, hv2⟩ := hso.lies.form; rw [HN.out] at hv1 ⊢; have hc2 := (hbe.block B (by omega)).trans HC1.out; have hz2 := hbe.size; rw [HZ1.out] at hz2; have hb3 := hbe.alloc hz2 (.cells #[.int .i64 (n : Int)] 3); have hc3 := (hb3.block B (by omega)).trans HC1.out; obtain ⟨⟨d0, d1, d2, d3⟩, f0, f1, f2, f3⟩ := cells4 hc3; have HC3 := Lib.hid hc3; have HB3 := Lib.hid hb3; clear hso hbe hb3 hc2 hc3)
       exact bodyPost_ret (res_wrap rfl _ rfl rfl (put4_heap HC3.out _ _ _ _) rfl) rfl (wq_err HE.out (by rw [HBQ.out]; exact put4_below (HB1.out.trans (HB3.out.mono (by omega))) (Nat.le_refl _) _ _ _ _))
     · skip
       obtain ⟨⟨th, eh⟩, m, ⟨tz, ez⟩, rfl⟩ := ends_of hl2
       have hok := (print_parse hpe' (by simpa using hs')).2
       obtain ⟨n, hn⟩ : ∃ n, (⟨th, eh⟩ :: (m ++ [⟨tz, ez⟩]) : List Seg).length = n := ⟨_, rfl⟩
       have hnm : n = m.length + 2 := by rw [← hn]; simp
       have HN := Lib.hid hn
       have HNM := Lib.hid hnm
       have HOK := Lib.hid hok
       have hn64 : n ≤ 64 := by rw [← hn]; exact hok.1
       have hn2 : 2 ≤ n := by omega
       have i2 : decide ((n : Int) < 2) = false := by rw [decide_eq_false_iff_not]; omega
       have en1 : (n : Int) - 1 = ((n - 1 : Nat) : Int) := by omega
       have i3 : (0 : Int) ≤ ((n - 1 : Nat) : Int) := by omega
       have i4 : ((n - 1 : Nat) : Int) < (n : Int) := by omega
       clear hn hok hnm hl2 hpe' hs'
       go_enter Tryz.func60, Tryz.ntmps60
       go_wp2_with ((go_at_call 100); refine (HPA.out _).mono ?_; rw [HZ1.out]; rintro e w2 ⟨v, rfl, hso, hbe⟩; have HSO := Lib.hid hso.lies; have HBE := Lib.hid hbe; obtain ⟨b, off, cap, xh, xz, rfl, hv1, hv2, hSb, ⟨g0, g1, g2, g3⟩, he, he'⟩ := pk_of hso.lies HN.out; have hz2 := hbe.size; rw [HZ1.out] at hz2; have hb3 := hbe.alloc hz2 (.cells #[.int .i64 (n : Int)] 3); have HPK : Hid (PK B w2.heap.size n b off th xh tz xz (w2.alloc (.cells #[.int .i64 (n : Int)] 3))) := Lib.hid ⟨(hb3.block B (by omega)).trans HC1.out, (by simp), ((Below.refl _ w2).alloc (Nat.le_refl _) _).cell (cell_lt' g0) |>.trans g0, ((Below.refl _ w2).alloc (Nat.le_refl _) _).cell (cell_lt' g1) |>.trans g1, ((Below.refl _ w2).alloc (Nat.le_refl _) _).cell (cell_lt' g2) |>.trans g2, ((Below.refl _ w2).alloc (Nat.le_refl _) _).cell (cell_lt' g3) |>.trans g3⟩; have HB3 := Lib.hid hb3; have HEH := Lib.hid he; have HEZ := Lib.hid he'; unfold maxLen at hv2; clear hso hbe he he' g0 g1 g2 g3 hb3 hSb; obtain ⟨p0, p1, p2, p3, p4, p5⟩ := HPK.out)
       have hvw := hv.on (HB1.out.trans (HB3.out.mono (by omega))) (by rw [HBQ.out]; exact Nat.le_refl _)
       have HBB : Hid (Below B w (w2.alloc (.cells #[.int .i64 (n : Int)] 3))) := Lib.hid (HB1.out.trans (HB3.out.mono (by omega)))
       have HSG : Hid (SegsAt (fun k => B + 1 ≤ k ∧ k < (w2.alloc (.cells #[.int .i64 (n : Int)] 3)).heap.size) (w2.alloc (.cells #[.int .i64 (n : Int)] 3)) (.slice (some ⟨b, off, none⟩) n cap) (⟨th, eh⟩ :: (m ++ [⟨tz, ez⟩]))) := Lib.hid (HSO.out.cong (fun k hk => ⟨by omega, by simp; omega⟩) (fun k hk => Below.heap_alloc _ _ _ hk.2))
       have HEH3 : Hid (ElemsAt (fun k => k < (w2.alloc (.cells #[.int .i64 (n : Int)] 3)).heap.size) (w2.alloc (.cells #[.int .i64 (n : Int)] 3)) xh eh) := Lib.hid (HEH.out.cong (fun k hk => by simp; omega) (fun k hk => Below.heap_alloc _ _ _ hk.2))
       have HEZ3 : Hid (ElemsAt (fun k => k < (w2.alloc (.cells #[.int .i64 (n : Int)] 3)).heap.size) (w2.alloc (.cells #[.int .i64 (n : Int)] 3)) xz ez) := Lib.hid (HEZ.out.cong (fun k hk => by simp; omega) (fun k hk => Below.heap_alloc _ _ _ hk.2))
       have HVW := Lib.hid hvw
       clear hvw HSO HBE HB3 HEH HEZ p0 p1 p2 p3 p4 p5 hz2 hv
       obtain ⟨N, hN⟩ : ∃ N, w2.heap.size = N := ⟨_, rfl⟩
       have hN3 : (w2.alloc (.cells #[.int .i64 (n : Int)] 3)).heap.size = N + 1 := by simp [hN]
       obtain ⟨w3, hw3⟩ : ∃ w3, w2.alloc (.cells #[.int .i64 (n : Int)] 3) = w3 := ⟨_, rfl⟩
       rw [hw3] at HBB HSG HEH3 HEZ3 HVW hN3 HPK ⊢
       rw [hN] at HPK ⊢
       have HN3 := Lib.hid hN3
       clear hN3 hN hw3
       have hBN : B ≤ w3.heap.size := by rw [← HBQ.out]; exact HBB.out.size
       by_cases h1 : th = unb ∧ eh.length = 3
       · skip
         refine (is_any w3 th xh eh HEH3.out _ _).mono ?_
         rw [decide_eq_true (by exact h1)]
         rintro e w4 ⟨rfl, hb4⟩
         have HK4 := Lib.hid (HPK.out.on hb4 (Nat.le_refl _))
         obtain ⟨p0, p1, p2, p3, p4, p5⟩ := HK4.out
         have HB4 := Lib.hid (HBB.out.trans (hb4.mono hBN))
         have HEZ4 := Lib.hid (HEZ3.out.cong (T := fun k => k < w4.heap.size) (w' := w4) (fun k hk => by have := hb4.size; omega) (fun k hk => hb4.block k hk))
         have HB34 := Lib.hid hb4
         clear hb4
         go_wp2_with fail
         refine (is_any w4 tz xz ez HEZ4.out _ _).mono ?_
         by_cases h2 : tz = unz ∧ ez.length = 2
         · skip
           rw [decide_eq_true (by exact h2)]
           rintro e w5 ⟨rfl, hb5⟩
           obtain ⟨e0, e1, e2, rfl⟩ : ∃ e0 e1 e2, eh = [e0, e1, e2] := by
            match eh, h1.2 with
            | [a, b, c], _ => exact ⟨a, b, c, rfl⟩
           obtain ⟨g0, g1, rfl⟩ : ∃ g0 g1, ez = [g0, g1] := by
            match ez, h2.2 with
            | [a, b], _ => exact ⟨a, b, rfl⟩
           obtain ⟨rfl, _⟩ := h1
           obtain ⟨rfl, _⟩ := h2
           obtain ⟨eb, eo, ec, zb, zo, zc, x0, x1, x2, y0, y1, rfl, hec1, hec2, rfl, hzc1, hzc2, hnk⟩ := nk_of HEH3.out HEZ3.out
           have nk3 := hnk
           have hb35 : Below w3.heap.size w3 w5 := HB34.out.trans (hb5.mono HB34.out.size)
           have HK5 := Lib.hid (HPK.out.on hb35 (Nat.le_refl _))
           have HNK5 := Lib.hid (hnk.on hb35 (Nat.le_refl _))
           have HB35 := Lib.hid hb35
           unfold maxLen at hec2 hzc2
           clear hb5 p0 p1 p2 p3 p4 p5 hnk hb35 HB34 HK4 HEZ4 HB4
           obtain ⟨p0, p1, p2, p3, p4, p5⟩ := HK5.out
           go_wp2_with fail
           go_quiet (fail)
           clear p0 p1 p2 p3 p4 p5
           have hb36 : Below w3.heap.size w3 (w5.drewN nq) := HB35.out.trans (Drew.below ⟨nq, rfl⟩ _)
           obtain ⟨w6, hw6⟩ : ∃ w6, w5.drewN nq = w6 := ⟨_, rfl⟩
           rw [hw6] at hb36 ⊢
           have HB36 := Lib.hid hb36
           have HVK6 : Hid (VK [] w6) := Lib.hid (fun p hp => by simp at hp)
           have hlen : ∀ e, e ∈ [e0, e1, e2, g0, g1] → ∀ p ∈ e, p.length ≤ 1048576 := fun e he p hp => by
            have h1 := HOK.out.2
            have h2 : p.length ≤ 256 := by
             simp only [List.mem_cons, List.not_mem_nil, or_false] at he
             rcases he with rfl | rfl | rfl | rfl | rfl
             · exact (((h1 ⟨unb, [e, e1, e2]⟩ (by simp)).2.2 e (by simp)).2.2 p hp).1
             · exact (((h1 ⟨unb, [e0, e, e2]⟩ (by simp)).2.2 e (by simp)).2.2 p hp).1
             · exact (((h1 ⟨unb, [e0, e1, e]⟩ (by simp)).2.2 e (by simp)).2.2 p hp).1
             · exact (((h1 ⟨unz, [e, g1]⟩ (by simp)).2.2 e (by simp)).2.2 p hp).1
             · exact (((h1 ⟨unz, [g0, e]⟩ (by simp)).2.2 e (by simp)).2.2 p hp).1
            omega
           have HLEN := Lib.hid hlen
           clear hlen hw6 hb36 HB35 HK5 HNK5
           have HNK3 := Lib.hid (nk3 : NK eb eo zb zo x0 x1 x2 y0 y1 e0 e1 e2 g0 g1 w3)
           clear nk3
           have c0 := (HNK3.out.on HB36.out (Nat.le_refl _)).c0
           go_wp2_with fail
           refine (num8_any w6 x0 e0 (HNK3.out.on HB36.out (Nat.le_refl _)).k0 (HLEN.out e0 (by simp)) (HVW.out.on HB36.out (Nat.le_refl _))).mono ?_
           rintro e w7 ⟨r0, b0, rfl, hq0, hb7⟩
           have hb37 : Below w3.heap.size w3 (w7.alloc (.cells #[.bool b0] 4)) := (HB36.out.trans (hb7.mono HB36.out.size)).alloc (Nat.le_trans HB36.out.size hb7.size) _
           have HQ0 := Lib.hid hq0
           have hvk7 : VK [(w7.heap.size, .bool b0)] (w7.alloc (.cells #[.bool b0] 4)) := ((HVK6.out.on hb7 (Nat.le_refl _)).alloc _).cons (by simp)
           have HVK7 := Lib.hid hvk7
           have HB37 := Lib.hid hb37
           clear hq0 hb7 hvk7 c0
           have c1 := (HNK3.out.on hb37 (Nat.le_refl _)).c1
           clear hb37
           go_wp2_with fail
           obtain ⟨P0, hP0⟩ : ∃ z, w7.heap.size = z := ⟨_, rfl⟩
           obtain ⟨w8, hw8⟩ : ∃ w8, w7.alloc (.cells #[.bool b0] 4) = w8 := ⟨_, rfl⟩
           rw [hP0] at HVK7 ⊢
           rw [hw8] at HVK7 HB37 c1 ⊢
           clear hP0 hw8 HVK6 c1
           refine (num8_any w8 x1 e1 (HNK3.out.on HB37.out (Nat.le_refl _)).k1 (HLEN.out e1 (by simp)) (HVW.out.on HB37.out (Nat.le_refl _))).mono ?_
           rintro e w9 ⟨r1, b1, rfl, hq1, hb9⟩
           have hb39 : Below w3.heap.size w3 (w9.alloc (.cells #[.bool b1] 4)) := (HB37.out.trans (hb9.mono HB37.out.size)).alloc (Nat.le_trans HB37.out.size hb9.size) _
           have HQ1 := Lib.hid hq1
           have hvk9 : VK [(w9.heap.size, .bool b1), (P0, .bool b0)] (w9.alloc (.cells #[.bool b1] 4)) := ((HVK7.out.on hb9 (Nat.le_refl _)).alloc _).cons (by simp)
           have HVK9 := Lib.hid hvk9
           have HB39 := Lib.hid hb39
           clear hq1 hb9 hvk9 HB37 HVK7 HB36
           have c2 := (HNK3.out.on hb39 (Nat.le_refl _)).c2
           clear hb39
           go_wp2_with fail
           obtain ⟨P1, hP1⟩ : ∃ z, w9.heap.size = z := ⟨_, rfl⟩
           obtain ⟨wa, hwa⟩ : ∃ wa, w9.alloc (.cells #[.bool b1] 4) = wa := ⟨_, rfl⟩
           rw [hP1] at HVK9 ⊢
           rw [hwa] at HVK9 HB39 c2 ⊢
           clear hP1 hwa c2
           refine (num64_any wa x2 e2 (HNK3.out.on HB39.out (Nat.le_refl _)).k2 (HLEN.out e2 (by simp)) (HVW.out.on HB39.out (Nat.le_refl _))).mono ?_
           rintro e wb ⟨r2, b2, rfl, hq2, hbb⟩
           have HBc' : Below w3.heap.size w3 ((wb.alloc (.cells #[.int .u64 r2] 22)).alloc (.cells #[.bool b2] 4)) := ((HB39.out.trans (hbb.mono HB39.out.size)).alloc (Nat.le_trans HB39.out.size hbb.size) _).alloc (by simp; exact Nat.le_trans (Nat.le_trans HB39.out.size hbb.size) (Nat.le_succ _)) _
           have HQ2 := Lib.hid hq2
           have hvkwb : VK ((wb.heap.size + 1, .bool b2) :: (wb.heap.size, .int .u64 r2) :: [(P1, .bool b1), (P0, .bool b0)]) ((wb.alloc (.cells #[.int .u64 r2] 22)).alloc (.cells #[.bool b2] 4)) := ((((HVK9.out.on hbb (Nat.le_refl _)).alloc _).cons (by simp)).alloc _).cons (by simp)
           have HVKc := Lib.hid hvkwb
           have HBc := Lib.hid HBc'
           have c3 := (HNK3.out.on HBc' (Nat.le_refl _)).c3
           clear hq2 hbb hvkwb HB39 HVK9 HBc'
           go_wp2_with fail
           obtain ⟨P2, hP2⟩ : ∃ z, wb.heap.size = z := ⟨_, rfl⟩
           obtain ⟨wc, hwc⟩ : ∃ wn, (wb.alloc (.cells #[.int .u64 r2] 22)).alloc (.cells #[.bool b2] 4) = wn := ⟨_, rfl⟩
           rw [hP2] at HVKc ⊢
           rw [hwc] at HVKc HBc c3 ⊢
           clear hP2 hwc c3
           refine (num64_any wc y0 g0 (HNK3.out.on HBc.out (Nat.le_refl _)).k3 (HLEN.out g0 (by simp)) (HVW.out.on HBc.out (Nat.le_refl _))).mono ?_
           rintro e wd ⟨r3, b3, rfl, hq3, hbwd⟩
           have HBe' : Below w3.heap.size w3 ((wd.alloc (.cells #[.int .u64 r3] 22)).alloc (.cells #[.bool b3] 4)) := ((HBc.out.trans (hbwd.mono HBc.out.size)).alloc (Nat.le_trans HBc.out.size hbwd.size) _).alloc (by simp; exact Nat.le_trans (Nat.le_trans HBc.out.size hbwd.size) (Nat.le_succ _)) _
           have HQ3 := Lib.hid hq3
           have hvkwd : VK ((wd.heap.size + 1, .bool b3) :: (wd.heap.size, .int .u64 r3) :: [(P2 + 1, .bool b2), (P2, .int .u64 r2), (P1, .bool b1), (P0, .bool b0)]) ((wd.alloc (.cells #[.int .u64 r3] 22)).alloc (.cells #[.bool b3] 4)) := ((((HVKc.out.on hbwd (Nat.le_refl _)).alloc _).cons (by simp)).alloc _).cons (by simp)
           have HVKe := Lib.hid hvkwd
           have HBe := Lib.hid HBe'
           have c4 := (HNK3.out.on HBe' (Nat.le_refl _)).c4
           clear hq3 hbwd hvkwd HBc HVKc HBe'
           go_wp2_with fail
           obtain ⟨P4, hP4⟩ : ∃ z, wd.heap.size = z := ⟨_, rfl⟩
           obtain ⟨we, hwe⟩ : ∃ wn, (wd.alloc (.cells #[.int .u64 r3] 22)).alloc (.cells #[.bool b3] 4) = wn := ⟨_, rfl⟩
           rw [hP4] at HVKe ⊢
           rw [hwe] at HVKe HBe c4 ⊢
           clear hP4 hwe c4
           refine (num64_any we y1 g1 (HNK3.out.on HBe.out (Nat.le_refl _)).k4 (HLEN.out g1 (by simp)) (HVW.out.on HBe.out (Nat.le_refl _))).mono ?_
           rintro e wf ⟨r4, b4, rfl, hq4, hbwf⟩
           have HBg' : Below w3.heap.size w3 ((wf.alloc (.cells #[.int .u64 r4] 22)).alloc (.cells #[.bool b4] 4)) := ((HBe.out.trans (hbwf.mono HBe.out.size)).alloc (Nat.le_trans HBe.out.size hbwf.size) _).alloc (by simp; exact Nat.le_trans (Nat.le_trans HBe.out.size hbwf.size) (Nat.le_succ _)) _
           have HQ4 := Lib.hid hq4
           have hvkwf : VK ((wf.heap.size + 1, .bool b4) :: (wf.heap.size, .int .u64 r4) :: [(P4 + 1, .bool b3), (P4, .int .u64 r3), (P2 + 1, .bool b2), (P2, .int .u64 r2), (P1, .bool b1), (P0, .bool b0)]) ((wf.alloc (.cells #[.int .u64 r4] 22)).alloc (.cells #[.bool b4] 4)) := ((((HVKe.out.on hbwf (Nat.le_refl _)).alloc _).cons (by simp)).alloc _).cons (by simp)
           have HVKg := Lib.hid hvkwf
           have HBg := Lib.hid HBg'
           clear hq4 hbwf hvkwf HBe HVKe HBg'
           go_wp2_with fail
           have hwgs : ((wf.alloc (.cells #[.int .u64 r4] 22)).alloc (.cells #[.bool b4] 4)).heap.size = wf.heap.size + 2 := by simp
           obtain ⟨P6, hP6⟩ : ∃ z, wf.heap.size = z := ⟨_, rfl⟩
           obtain ⟨wg, hwg⟩ : ∃ wn, (wf.alloc (.cells #[.int .u64 r4] 22)).alloc (.cells #[.bool b4] 4) = wn := ⟨_, rfl⟩
           rw [hP6] at HVKg hwgs ⊢
           rw [hwg] at HVKg HBg hwgs ⊢
           clear hP6 hwg
           obtain ⟨FS, hFS⟩ : ∃ FS : Array Value, FS = #[.func (.func 104) #[] #[.pointer (some ⟨P0, 0, none⟩), .pointer (some ⟨P1, 0, none⟩), .pointer (some ⟨P2 + 1, 0, none⟩), .pointer (some ⟨P4 + 1, 0, none⟩), .pointer (some ⟨P6 + 1, 0, none⟩)], .int .i64 40, .func (.func 105) #[] #[.pointer (some ⟨P4, 0, none⟩), .pointer (some ⟨N, 0, none⟩)], .int .i64 41, .func (.func 106) #[] #[.pointer (some ⟨P2, 0, none⟩), .pointer (some ⟨P6, 0, none⟩)], .int .i64 42] := ⟨_, rfl⟩
           rw [← hFS]
           have hT : (wg.alloc (.cells FS 185)).heap[P6 + 2]? = some (.cells FS 185 (0, 0)) := by rw [← hwgs]; exact heap_alloc_new _ _
           have hBz : Below w3.heap.size w3 (wg.alloc (.cells FS 185)) := HBg.out.alloc HBg.out.size _
           have hVz := HVKg.out.alloc (.cells FS 185)
           obtain ⟨wz, hwz⟩ : ∃ wz, wg.alloc (.cells FS 185) = wz := ⟨_, rfl⟩
           rw [hwz] at hT hBz hVz ⊢
           have HT := Lib.hid hT
           have HBz := Lib.hid hBz
           have HVz := Lib.hid hVz
           have HFS := Lib.hid hFS
           have HCT : ∀ (w' : World), Below wz.heap.size wz w' → ∀ (j : Nat) (x : Value), FS[j]? = some x → w'.cell? ⟨P6 + 2, j, none⟩ = some x := fun w' hb j x hx => by
            rw [cell_of_row w' (P6 + 2) j _ _ _ ((hb.block _ (Array.getElem?_eq_some_iff.1 HT.out).1).trans HT.out)]; exact hx
           have HCT := Lib.hid HCT
           have HPz := Lib.hid (HPK.out.on hBz (Nat.le_refl _))
           clear hT hBz hVz hwz hwgs hFS HVKg HBg
           refine wp_loop_rounds 4 ?_
           have HHT := Lib.hid (wrapHT_num (m := m) HQ0.out HQ1.out HQ2.out HQ3.out HQ4.out)
           clear HQ0 HQ1 HQ2 HQ3 HQ4 HEH3 HEZ3 HNK3 HLEN
           have t0 := HCT.out wz (Below.refl _ _) 0 _ (by rw [HFS.out]; rfl)
           have t1 := HCT.out wz (Below.refl _ _) 1 _ (by rw [HFS.out]; rfl)
           rw [rounds_succ]
           go_wp2_with fail
           clear t0 t1
           have hbr : Below wz.heap.size wz (wz.alloc (.cells #[(.func (.func 104) #[] #[.pointer (some ⟨P0, 0, none⟩), .pointer (some ⟨P1, 0, none⟩), .pointer (some ⟨P2 + 1, 0, none⟩), .pointer (some ⟨P4 + 1, 0, none⟩), .pointer (some ⟨P6 + 1, 0, none⟩)]), .int .i64 40] 185)) := ((Below.refl _ _)).alloc (Nat.le_refl _) _
           have hrow : (wz.alloc (.cells #[(.func (.func 104) #[] #[.pointer (some ⟨P0, 0, none⟩), .pointer (some ⟨P1, 0, none⟩), .pointer (some ⟨P2 + 1, 0, none⟩), .pointer (some ⟨P4 + 1, 0, none⟩), .pointer (some ⟨P6 + 1, 0, none⟩)]), .int .i64 40] 185)).heap[wz.heap.size]? = some (.cells #[(.func (.func 104) #[] #[.pointer (some ⟨P0, 0, none⟩), .pointer (some ⟨P1, 0, none⟩), .pointer (some ⟨P2 + 1, 0, none⟩), .pointer (some ⟨P4 + 1, 0, none⟩), .pointer (some ⟨P6 + 1, 0, none⟩)]), .int .i64 40] 185 (0, 0)) := heap_alloc_new _ _
           obtain ⟨R0, hR0⟩ : ∃ z, wz.heap.size = z := ⟨_, rfl⟩
           obtain ⟨wr0, hwr0⟩ : ∃ wn, wz.alloc (.cells #[(.func (.func 104) #[] #[.pointer (some ⟨P0, 0, none⟩), .pointer (some ⟨P1, 0, none⟩), .pointer (some ⟨P2 + 1, 0, none⟩), .pointer (some ⟨P4 + 1, 0, none⟩), .pointer (some ⟨P6 + 1, 0, none⟩)]), .int .i64 40] 185) = wn := ⟨_, rfl⟩
           have hRz : wz.heap.size ≤ R0 := by rw [← hR0]; exact Nat.le_refl _
           rw [hR0] at hrow ⊢
           rw [hwr0] at hbr hrow ⊢
           have HR0 := Lib.hid hbr
           have HRW0 := Lib.hid hrow
           clear hbr hrow hR0 hwr0
           have hV := HVz.out.on HR0.out (Nat.le_refl _)
           have hPn := (HPz.out.on HR0.out (Nat.le_refl _)).cn
           refine (p1_any wr0 (hV (P0, .bool b0) (by simp)) (hV (P1, .bool b1) (by simp)) (hV (P2 + 1, .bool b2) (by simp)) (hV (P4 + 1, .bool b3) (by simp)) (hV (P6 + 1, .bool b4) (by simp))).mono ?_
           clear hV hPn
           rintro e w' ⟨rfl, rfl⟩
           cases hall : (b0 && b1 && b2 && b3 && b4) with
           | false =>
             skip
             have hE : wrapParseE s.data.toList = (wd0, 40) := by
              rw [HWE.out, wrapOf_snoc]
              exact HHT.out.1 hall
             have HE := Lib.hid hE
             clear hE hall
             go_wp2_with fail
             have hk := (HPz.out.on HR0.out (Nat.le_refl _)).on ((Below.refl wr0.heap.size wr0).drew) (Nat.le_refl _)
             have hB6 : B < wz.heap.size := (Array.getElem?_eq_some_iff.1 HPz.out.res).1
             have c1 : wr0.drew.cell? ⟨R0, 1, none⟩ = some (.int .i64 40) := cell_of_row wr0.drew R0 1 _ _ _ HRW0.out
             refine wp_region_plan [(0, false), (1, false), (2, false), (3, true), (4, false)] (fun w' => w'.cell? ⟨R0, 1, none⟩ = some (.int .i64 40)) (by kernel_rfl) (by kernel_rfl) c1 ?_
             refine plan_val (v := .agg #[.int .u8 0, .int .u8 0, .int .u64 0, .slice none 0 0]) rfl rfl (fun w' hS => by first | rfl | kernel_rfl | go_simp) ?_
             simp only [Act.put, List.setIfInBounds_toArray, List.set_cons_zero, List.set_cons_succ]
             refine plan_val (v := .pointer (some ⟨R0, 1, none⟩)) rfl rfl (fun w' hS => by first | rfl | go_simp) ?_
             simp only [Act.put, List.setIfInBounds_toArray, List.set_cons_zero, List.set_cons_succ]
             refine plan_val (v := .int .i64 40) rfl rfl (fun w' hS => by have hS1 : w'.cell? ⟨R0, 1, none⟩ = some (.int .i64 40) := hS; go_simp) ?_
             simp only [Act.put, List.setIfInBounds_toArray, List.set_cons_zero, List.set_cons_succ]
             refine plan_do rfl (fun K hK => ?_)
             obtain ⟨⟨d0, d1, d2, d3⟩, f0, f1, f2, f3⟩ := cells4 (HPz.out.on HR0.out (Nat.le_refl _)).res
             go_wp2_with fail
             refine hK _ _ ((cell_ag (put4_other wr0.drew B _ _ _ _ (by omega))).trans c1) ?_
             clear hK K d0 d1 d2 d3 f0 f1 f2 f3
             refine plan_val (v := .int .i64 40) rfl rfl (fun w' hS => by first | rfl | go_simp) ?_
             simp only [Act.put, List.setIfInBounds_toArray, List.set_cons_zero, List.set_cons_succ]
             refine plan_nil ?_
             go_wp2_with fail
             exact bodyPost_ret (res_wrap rfl _ rfl rfl (put4_heap hk.res _ _ _ _) rfl) rfl (wq_err HE.out (by rw [HBQ.out]; exact put4_below (((HBB.out.trans (HBz.out.mono hBN)).trans (HR0.out.mono (Nat.le_trans hBN HBz.out.size))).drew) (Nat.le_refl _) _ _ _ _))
           | true =>
           obtain ⟨z0, z1, z2, z3, z4, ⟨rfl, rfl, rfl, rfl, rfl⟩, hz⟩ := HHT.out.2 hall
           have HZ := Lib.hid hz
           clear hz hall HHT
           go_wp2_with fail
           have t2 := HCT.out wr0 HR0.out 2 _ (by rw [HFS.out]; rfl)
           have t3 := HCT.out wr0 HR0.out 3 _ (by rw [HFS.out]; rfl)
           rw [rounds_succ]
           go_wp2_with fail
           clear t2 t3
           have hbr : Below wz.heap.size wz (wr0.alloc (.cells #[(.func (.func 105) #[] #[.pointer (some ⟨P4, 0, none⟩), .pointer (some ⟨N, 0, none⟩)]), .int .i64 41] 185)) := (HR0.out).alloc (HR0.out.size) _
           have hrow : (wr0.alloc (.cells #[(.func (.func 105) #[] #[.pointer (some ⟨P4, 0, none⟩), .pointer (some ⟨N, 0, none⟩)]), .int .i64 41] 185)).heap[wr0.heap.size]? = some (.cells #[(.func (.func 105) #[] #[.pointer (some ⟨P4, 0, none⟩), .pointer (some ⟨N, 0, none⟩)]), .int .i64 41] 185 (0, 0)) := heap_alloc_new _ _
           obtain ⟨R1, hR1⟩ : ∃ z, wr0.heap.size = z := ⟨_, rfl⟩
           obtain ⟨wr1, hwr1⟩ : ∃ wn, wr0.alloc (.cells #[(.func (.func 105) #[] #[.pointer (some ⟨P4, 0, none⟩), .pointer (some ⟨N, 0, none⟩)]), .int .i64 41] 185) = wn := ⟨_, rfl⟩
           have hRz : wz.heap.size ≤ R1 := by rw [← hR1]; exact HR0.out.size
           rw [hR1] at hrow ⊢
           rw [hwr1] at hbr hrow ⊢
           have HR1 := Lib.hid hbr
           have HRW1 := Lib.hid hrow
           clear hbr hrow hR1 hwr1
           have hV := HVz.out.on HR1.out (Nat.le_refl _)
           have hPn := (HPz.out.on HR1.out (Nat.le_refl _)).cn
           refine (p2_any wr1 hn2 hn64 (hV (P4, .int .u64 z3) (by simp)) hPn).mono ?_
           clear hV hPn
           rintro e w' ⟨rfl, rfl⟩
           cases hall : ((z3 : Int) == ((n - 2 : Nat) : Int)) with
           | false =>
             skip
             have hE : wrapParseE s.data.toList = (wd0, 41) := by
              rw [HWE.out, wrapOf_snoc]
              rw [HZ.out, if_pos]
              have h5 := HNM.out
              rw [beq_eq_false_iff_ne] at hall
              omega
             have HE := Lib.hid hE
             clear hE hall
             go_wp2_with fail
             have hk := (HPz.out.on HR1.out (Nat.le_refl _)).on ((Below.refl wr1.heap.size wr1).drew) (Nat.le_refl _)
             have hB6 : B < wz.heap.size := (Array.getElem?_eq_some_iff.1 HPz.out.res).1
             have c1 : wr1.drew.cell? ⟨R1, 1, none⟩ = some (.int .i64 41) := cell_of_row wr1.drew R1 1 _ _ _ HRW1.out
             refine wp_region_plan [(0, false), (1, false), (2, false), (3, true), (4, false)] (fun w' => w'.cell? ⟨R1, 1, none⟩ = some (.int .i64 41)) (by kernel_rfl) (by kernel_rfl) c1 ?_
             refine plan_val (v := .agg #[.int .u8 0, .int .u8 0, .int .u64 0, .slice none 0 0]) rfl rfl (fun w' hS => by first | rfl | kernel_rfl | go_simp) ?_
             simp only [Act.put, List.setIfInBounds_toArray, List.set_cons_zero, List.set_cons_succ]
             refine plan_val (v := .pointer (some ⟨R1, 1, none⟩)) rfl rfl (fun w' hS => by first | rfl | go_simp) ?_
             simp only [Act.put, List.setIfInBounds_toArray, List.set_cons_zero, List.set_cons_succ]
             refine plan_val (v := .int .i64 41) rfl rfl (fun w' hS => by have hS1 : w'.cell? ⟨R1, 1, none⟩ = some (.int .i64 41) := hS; go_simp) ?_
             simp only [Act.put, List.setIfInBounds_toArray, List.set_cons_zero, List.set_cons_succ]
             refine plan_do rfl (fun K hK => ?_)
             obtain ⟨⟨d0, d1, d2, d3⟩, f0, f1, f2, f3⟩ := cells4 (HPz.out.on HR1.out (Nat.le_refl _)).res
             go_wp2_with fail
             refine hK _ _ ((cell_ag (put4_other wr1.drew B _ _ _ _ (by omega))).trans c1) ?_
             clear hK K d0 d1 d2 d3 f0 f1 f2 f3
             refine plan_val (v := .int .i64 41) rfl rfl (fun w' hS => by first | rfl | go_simp) ?_
             simp only [Act.put, List.setIfInBounds_toArray, List.set_cons_zero, List.set_cons_succ]
             refine plan_nil ?_
             go_wp2_with fail
             exact bodyPost_ret (res_wrap rfl _ rfl rfl (put4_heap hk.res _ _ _ _) rfl) rfl (wq_err HE.out (by rw [HBQ.out]; exact put4_below (((HBB.out.trans (HBz.out.mono hBN)).trans (HR1.out.mono (Nat.le_trans hBN HBz.out.size))).drew) (Nat.le_refl _) _ _ _ _))
           | true =>
           have HC3 : Hid (z3 = m.length) := Lib.hid (by have h5 := HNM.out; rw [beq_iff_eq] at hall; omega)
           clear hall
           go_wp2_with fail
           have t4 := HCT.out wr1 HR1.out 4 _ (by rw [HFS.out]; rfl)
           have t5 := HCT.out wr1 HR1.out 5 _ (by rw [HFS.out]; rfl)
           rw [rounds_succ]
           go_wp2_with fail
           clear t4 t5
           have hbr : Below wz.heap.size wz (wr1.alloc (.cells #[(.func (.func 106) #[] #[.pointer (some ⟨P2, 0, none⟩), .pointer (some ⟨P6, 0, none⟩)]), .int .i64 42] 185)) := (HR1.out).alloc (HR1.out.size) _
           have hrow : (wr1.alloc (.cells #[(.func (.func 106) #[] #[.pointer (some ⟨P2, 0, none⟩), .pointer (some ⟨P6, 0, none⟩)]), .int .i64 42] 185)).heap[wr1.heap.size]? = some (.cells #[(.func (.func 106) #[] #[.pointer (some ⟨P2, 0, none⟩), .pointer (some ⟨P6, 0, none⟩)]), .int .i64 42] 185 (0, 0)) := heap_alloc_new _ _
           obtain ⟨R2, hR2⟩ : ∃ z, wr1.heap.size = z := ⟨_, rfl⟩
           obtain ⟨wr2, hwr2⟩ : ∃ wn, wr1.alloc (.cells #[(.func (.func 106) #[] #[.pointer (some ⟨P2, 0, none⟩), .pointer (some ⟨P6, 0, none⟩)]), .int .i64 42] 185) = wn := ⟨_, rfl⟩
           have hRz : wz.heap.size ≤ R2 := by rw [← hR2]; exact HR1.out.size
           rw [hR2] at hrow ⊢
           rw [hwr2] at hbr hrow ⊢
           have HR2 := Lib.hid hbr
           have HRW2 := Lib.hid hrow
           clear hbr hrow hR2 hwr2
           have hV := HVz.out.on HR2.out (Nat.le_refl _)
           have hPn := (HPz.out.on HR2.out (Nat.le_refl _)).cn
           refine (p3_any wr2 (hV (P2, .int .u64 z2) (by simp)) (hV (P6, .int .u64 z4) (by simp))).mono ?_
           clear hV hPn
           rintro e w' ⟨rfl, rfl⟩
           cases hall : ((z2 : Int) == (z4 : Int)) with
           | false =>
             skip
             have hE : wrapParseE s.data.toList = (wd0, 42) := by
              rw [HWE.out, wrapOf_snoc]
              rw [HZ.out, if_neg (by rw [HC3.out]; simp), if_pos]
              rw [beq_eq_false_iff_ne] at hall
              omega
             have HE := Lib.hid hE
             clear hE hall
             go_wp2_with fail
             have hk := (HPz.out.on HR2.out (Nat.le_refl _)).on ((Below.refl wr2.heap.size wr2).drew) (Nat.le_refl _)
             have hB6 : B < wz.heap.size := (Array.getElem?_eq_some_iff.1 HPz.out.res).1
             have c1 : wr2.drew.cell? ⟨R2, 1, none⟩ = some (.int .i64 42) := cell_of_row wr2.drew R2 1 _ _ _ HRW2.out
             refine wp_region_plan [(0, false), (1, false), (2, false), (3, true), (4, false)] (fun w' => w'.cell? ⟨R2, 1, none⟩ = some (.int .i64 42)) (by kernel_rfl) (by kernel_rfl) c1 ?_
             refine plan_val (v := .agg #[.int .u8 0, .int .u8 0, .int .u64 0, .slice none 0 0]) rfl rfl (fun w' hS => by first | rfl | kernel_rfl | go_simp) ?_
             simp only [Act.put, List.setIfInBounds_toArray, List.set_cons_zero, List.set_cons_succ]
             refine plan_val (v := .pointer (some ⟨R2, 1, none⟩)) rfl rfl (fun w' hS => by first | rfl | go_simp) ?_
             simp only [Act.put, List.setIfInBounds_toArray, List.set_cons_zero, List.set_cons_succ]
             refine plan_val (v := .int .i64 42) rfl rfl (fun w' hS => by have hS1 : w'.cell? ⟨R2, 1, none⟩ = some (.int .i64 42) := hS; go_simp) ?_
             simp only [Act.put, List.setIfInBounds_toArray, List.set_cons_zero, List.set_cons_succ]
             refine plan_do rfl (fun K hK => ?_)
             obtain ⟨⟨d0, d1, d2, d3⟩, f0, f1, f2, f3⟩ := cells4 (HPz.out.on HR2.out (Nat.le_refl _)).res
             go_wp2_with fail
             refine hK _ _ ((cell_ag (put4_other wr2.drew B _ _ _ _ (by omega))).trans c1) ?_
             clear hK K d0 d1 d2 d3 f0 f1 f2 f3
             refine plan_val (v := .int .i64 42) rfl rfl (fun w' hS => by first | rfl | go_simp) ?_
             simp only [Act.put, List.setIfInBounds_toArray, List.set_cons_zero, List.set_cons_succ]
             refine plan_nil ?_
             go_wp2_with fail
             exact bodyPost_ret (res_wrap rfl _ rfl rfl (put4_heap hk.res _ _ _ _) rfl) rfl (wq_err HE.out (by rw [HBQ.out]; exact put4_below (((HBB.out.trans (HBz.out.mono hBN)).trans (HR2.out.mono (Nat.le_trans hBN HBz.out.size))).drew) (Nat.le_refl _) _ _ _ _))
           | true =>
           have hE : wrapParseE s.data.toList = (⟨z0, z1, z2, m⟩, 0) := by
            rw [HWE.out, wrapOf_snoc, HZ.out, if_neg (by rw [HC3.out]; simp), if_neg]
            rw [beq_iff_eq] at hall
            omega
           have HE := Lib.hid hE
           clear hE hall
           go_wp2_with fail
           rw [rounds_succ]
           go_wp2_with fail
           have hk := (HPz.out.on HR2.out (Nat.le_refl _)).on ((Below.refl wr2.heap.size wr2).drew) (Nat.le_refl _)
           have hv := (HVz.out.on HR2.out (Nat.le_refl _)).on ((Below.refl wr2.heap.size wr2).drew) (Nat.le_refl _)
           have hB6 : B < wz.heap.size := (Array.getElem?_eq_some_iff.1 HPz.out.res).1
           have c1 : wr2.drew.cell? ⟨P2, 0, none⟩ = some (.int .u64 (z2 : Int)) := hv (P2, .int .u64 z2) (by simp)
           have c2 := hk.cn
           have hBP : B ≠ P2 := fun e => by
            have h1 := hv (P2, .int .u64 z2) (by simp)
            rw [← e] at h1
            have h2 := (cells4 hk.res).1.1
            rw [h2] at h1
            cases h1
           have hBN2 : B ≠ N := fun e => by
            have h1 := hk.cn
            rw [← e] at h1
            have h2 := (cells4 hk.res).1.1
            rw [h2] at h1
            cases h1
           have hwn : IntKind.i64.wrap (n : Int) = (n : Int) := IntWalk.i64_in _ (by omega)
           refine wp_region_plan [(0, false), (1, false), (2, false), (3, false), (4, false), (5, false), (6, false), (7, false), (8, false), (9, false), (10, true), (11, false)] (fun w' => w'.cell? ⟨P2, 0, none⟩ = some (.int .u64 (z2 : Int)) ∧ w'.cell? ⟨N, 0, none⟩ = some (.int .i64 (n : Int))) (by kernel_rfl) (by kernel_rfl) ⟨c1, c2⟩ ?_
           iterate 8 (refine' plan_val rfl rfl (fun w' hS => ?_) ?_; rotate_left; (focus (first | rfl | (obtain ⟨hS1, hS2⟩ := hS; go_simp; rfl))); simp only [Act.put, List.setIfInBounds_toArray, List.set_cons_zero, List.set_cons_succ])
           obtain ⟨sp, hsp⟩ : ∃ sp : Option Addr, (if n = 2 then some (⟨b, off, none⟩ : Addr) else some ⟨b, off + 2, none⟩) = sp := ⟨_, rfl⟩
           have HSP := Lib.hid hsp
           have hwn1 : IntKind.i64.wrap ((n - 1 : Nat) : Int) = ((n - 1 : Nat) : Int) := IntWalk.i64_in _ (by omega)
           refine plan_val (v := .slice sp (n - 1 - 1) (n - 1 - 1)) rfl rfl (fun w' hS => by
            go_simp
            first | rw [if_pos (by omega), if_pos (by omega), if_pos (by omega)] | (rw [if_pos (by omega), if_pos (by omega), if_pos (by omega), hsp])) ?_
           clear hsp
           simp only [Act.put, List.setIfInBounds_toArray, List.set_cons_zero, List.set_cons_succ]
           refine plan_val (v := .agg #[.int .u8 (z0 : Int), .int .u8 (z1 : Int), .int .u64 (z2 : Int), .slice sp (n - 1 - 1) (n - 1 - 1)]) rfl rfl (fun w' hS => by go_simp) ?_
           simp only [Act.put, List.setIfInBounds_toArray, List.set_cons_zero, List.set_cons_succ]
           refine plan_do rfl (fun K hK => ?_)
           obtain ⟨⟨d0, d1, d2, d3⟩, f0, f1, f2, f3⟩ := cells4 (HPz.out.on HR2.out (Nat.le_refl _)).res
           go_wp2_with fail
           refine hK _ _ ⟨(cell_ag (put4_other wr2.drew B _ _ _ _ (fun e => hBP e.symm))).trans c1, (cell_ag (put4_other wr2.drew B _ _ _ _ (fun e => hBN2 e.symm))).trans c2⟩ ?_
           clear hK K d0 d1 d2 d3 f0 f1 f2 f3
           refine plan_val (v := .int .i64 0) rfl rfl (fun w' hS => by first | rfl | go_simp) ?_
           simp only [Act.put, List.setIfInBounds_toArray, List.set_cons_zero, List.set_cons_succ]
           refine plan_nil ?_
           go_wp2_with fail
           refine bodyPost_ret (res_wrap rfl _ rfl rfl (put4_heap hk.res _ _ _ _) rfl) rfl ?_
           have hbz : Below B w wr2.drew := ((HBB.out.trans (HBz.out.mono hBN)).trans (HR2.out.mono (Nat.le_trans hBN HBz.out.size))).drew
           have h3r : Below w3.heap.size w3 wr2.drew := (HBz.out.trans (HR2.out.mono HBz.out.size)).drew
           unfold WParseQ
           rw [HE.out]
           refine ⟨_, rfl, ?_, by rw [HBQ.out]; exact put4_below hbz (Nat.le_refl _) _ _ _ _⟩
           have hsub := HSG.out.sub (lo := 1) (hi := n - 1) (c' := n - 1 - 1) (by omega) (by rw [HN.out]; omega) (Nat.le_refl _) (by unfold maxLen; omega)
           have hmid : ((⟨unb, [e0, e1, e2]⟩ :: (m ++ [⟨unz, [g0, g1]⟩]) : List Seg).take (n - 1)).drop 1 = m := by
            rw [show n - 1 = m.length + 1 by have := HNM.out; omega]
            simp
           rw [hmid, Nat.one_mul] at hsub
           have hfar : ∀ k, B + 1 ≤ k ∧ k < w3.heap.size → (put4 wr2.drew B (.int .u8 (z0 : Int)) (.int .u8 (z1 : Int)) (.int .u64 (z2 : Int)) (.slice sp (n - 1 - 1) (n - 1 - 1))).heap[k]? = w3.heap[k]? := fun k hk => (put4_other _ _ _ _ _ _ (by omega)).trans (h3r.block k hk.2)
           have h5 := HNM.out
           have h3s := h3r.size
           rw [← HSP.out]
           by_cases hm0 : n = 2
           · rw [if_pos hm0]
             have hmn : m = [] := List.length_eq_zero_iff.1 (by omega)
             subst hmn
             subst hm0
             exact ⟨some ⟨b, off, none⟩, 0, [], rfl, Nat.le_refl _, Nat.zero_le _, (fun e => by cases e), rfl, (fun i s x h => by simp at h), fun h => absurd rfl h⟩
           · rw [if_neg hm0]
             have h6 := put4_size wr2.drew B (.int .u8 (z0 : Int)) (.int .u8 (z1 : Int)) (.int .u64 (z2 : Int)) (.slice (some ⟨b, off + 2, none⟩) (n - 1 - 1) (n - 1 - 1))
             refine hsub.cong (fun k hk => ⟨by rw [HBQ.out]; omega, Nat.lt_of_lt_of_le (Nat.lt_of_lt_of_le hk.2 h3s) (Nat.le_of_eq h6.symm)⟩) (fun k hk => ?_)
             rw [← HSP.out, if_neg hm0] at hfar
             exact hfar k hk
         · skip
           have hE : wrapParseE s.data.toList = (wd0, 40) := by
            rw [HWE.out, wrapOf_snoc]
            unfold wrapHT
            have : numsW ⟨tz, ez⟩ unz 2 = none := by unfold numsW; rw [if_neg h2]
            rw [this]
            split
            · rename_i h; cases h
            · rfl
           have HE := Lib.hid hE
           clear hE
           rw [decide_eq_false (by exact h2)]
           rintro e w5 ⟨rfl, hb5⟩
           have hk5 := HK4.out.on hb5 (Nat.le_refl _)
           obtain ⟨⟨d0, d1, d2, d3⟩, f0, f1, f2, f3⟩ := cells4 hk5.res
           have HK5 := Lib.hid hk5
           have HB5 := Lib.hid (HB4.out.trans (hb5.mono (Nat.le_trans hBN HB34.out.size)))
           clear hk5 hb5 h1 h2 p0 p1 p2 p3 p4 p5
           go_wp2_with fail
           exact bodyPost_ret (res_wrap rfl _ rfl rfl (put4_heap HK5.out.res _ _ _ _) rfl) rfl (wq_err HE.out (by rw [HBQ.out]; exact put4_below HB5.out (Nat.le_refl _) _ _ _ _))
       · skip
         have hE : wrapParseE s.data.toList = (wd0, 40) := by
          rw [HWE.out, wrapOf_snoc]
          unfold wrapHT numsW
          rw [if_neg h1]
         have HE := Lib.hid hE
         clear hE
         refine (is_any w3 th xh eh HEH3.out _ _).mono ?_
         rw [decide_eq_false (by exact h1)]
         rintro e w4 ⟨rfl, hb4⟩
         have hk4 := HPK.out.on hb4 (Nat.le_refl _)
         obtain ⟨⟨d0, d1, d2, d3⟩, f0, f1, f2, f3⟩ := cells4 hk4.res
         have HK4 := Lib.hid hk4
         have HB4 := Lib.hid (HBB.out.trans (hb4.mono hBN))
         clear hk4 hb4 h1
         go_wp2_with fail
         exact bodyPost_ret (res_wrap rfl _ rfl rfl (put4_heap HK4.out.res _ _ _ _) rfl) rfl (wq_err HE.out (by rw [HBQ.out]; exact put4_below HB4.out (Nat.le_refl _) _ _ _ _))
   · skip
     clear hpe' hs'
     have dk : (k != 0) = true := by simpa using hk
     have hE : wrapParseE s.data.toList = (wd0, k) := by
      unfold wrapParseE
      rw [HPE.out, if_neg hk]
     have HE := Lib.hid hE
     clear hE hk
     go_enter Tryz.func60, Tryz.ntmps60
     go_wp2_with (go_at_call 100; refine (HPA.out _).mono ?_; rw [HZ1.out]; rintro e w2 ⟨v, rfl, hso, hbe⟩; have HSO := Lib.hid hso; have HBE := Lib.hid hbe; have hc2 := (hbe.block B (by omega)).trans HC1.out; obtain ⟨⟨d0, d1, d2, d3⟩, f0, f1, f2, f3⟩ := cells4 hc2; have HC2 := Lib.hid hc2; clear hso hbe hc2)
     exact bodyPost_ret (res_wrap rfl _ rfl rfl (put4_heap HC2.out _ _ _ _) rfl) rfl (wq_err HE.out (by rw [HBQ.out]; exact put4_below (HB1.out.trans (HBE.out.mono (by omega))) (Nat.le_refl _) _ _ _ _))
structure OE (H sp : Nat) (st : ByteArray) (w : World) (ev : Value) (ys : List Value) (es : List (List Str)) : Prop where
 row : w.ownsRow H 58 1 ev es.length ys
 len : ys.length = es.length
 c : w.heap[sp]? = some (.cells #[.string st, ev] 94 (0, 0))
 el : ∀ (i : Nat) (e : List Str) (x : Value), es[i]? = some e → ys[i]? = some x → CompsAt (fun b => H ≤ b ∧ b < w.heap.size ∧ ev.ownBlock ≠ some b ∧ b ≠ sp) w x e
theorem OE.start {H sp : Nat} {st : ByteArray} {w : World} (hc : w.heap[sp]? = some (.cells #[.string st, .slice none 0 0] 94 (0, 0))) : OE H sp st w (.slice none 0 0) [] [] :=
 ⟨World.ownsRow_nil _ _ _ _, rfl, hc, fun i e x h => by simp at h⟩
theorem OE.cells {H sp : Nat} {st : ByteArray} {w : World} {ev : Value} {ys : List Value} {es : List (List Str)} (h : OE H sp st w ev ys es) : w.cell? ⟨sp, 0, none⟩ = some (.string st) ∧ w.cell? ⟨sp, 1, none⟩ = some ev ∧ w.frozen? ⟨sp, 1, none⟩ = false :=
 ⟨cell_of_row w sp 0 _ _ _ h.c, cell_of_row w sp 1 _ _ _ h.c, frozen_of_row w sp 1 _ _ h.c⟩
theorem OE.lt {H sp : Nat} {st : ByteArray} {w : World} {ev : Value} {ys : List Value} {es : List (List Str)} (h : OE H sp st w ev ys es) : sp < w.heap.size := (Array.getElem?_eq_some_iff.1 h.c).1
theorem OE.drew {H sp : Nat} {st : ByteArray} {w w' : World} {ev : Value} {ys : List Value} {es : List (List Str)} (h : OE H sp st w ev ys es) (e : w'.heap = w.heap) : OE H sp st w' ev ys es :=
 ⟨own_cong h.row (fun k _ => by rw [e]), h.len, by rw [e]; exact h.c, fun i e' x h1 h2 => (h.el i e' x h1 h2).cong (fun k hk => by rw [e]; exact hk) (fun k _ => by rw [e])⟩
theorem row_snoc {α : Type} {l : List α} {a : α} {i : Nat} {x : α} (h : (l ++ [a])[i]? = some x) : l[i]? = some x ∨ (i = l.length ∧ x = a) := by
 rcases Nat.lt_or_ge i l.length with hi | hi
 · rw [List.getElem?_append_left hi] at h; exact .inl h
 · rw [List.getElem?_append_right hi] at h
   obtain ⟨hlt, h2⟩ := List.getElem?_eq_some_iff.1 h
   simp at hlt
   exact .inr ⟨by omega, by rw [← h2]; simp⟩
theorem own_not {w : World} {B : Nat} {e t : TypeId} {s n k : Nat} {v : Value} {xs : List Value} {C : Array Value} (h : w.ownsRow B e s v n xs) (hc : w.heap[k]? = some (.cells C t (0, 0))) (hne : t ≠ e) : v.ownBlock ≠ some k := fun hk => by
 obtain ⟨C', hC, _⟩ := own_ty h hk
 rw [hc] at hC
 cases hC; exact hne rfl
theorem OE.step {H sp : Nat} {st : ByteArray} {w w2 w3 : World} {ev ev' cv : Value} {ys : List Value} {es : List (List Str)} {e : List Str} (h : OE H sp st w ev ys es) (hH : H ≤ w.heap.size) (hb : Below w.heap.size w w2)
  (hco : CompsAt (fun b => w.heap.size ≤ b ∧ b < w2.heap.size) w2 cv e) (hg : w2.grownBy w3 ev.ownBlock) (ho : w3.ownsRow H 58 1 ev' (es.length + 1) (ys ++ [cv])) (hk : ev'.ownBlock = ev.ownBlock ∨ ∃ k, ev'.ownBlock = some k ∧ w2.heap.size ≤ k) :
  OE H sp st (w3.setCell ⟨sp, 1, none⟩ ev') ev' (ys ++ [cv]) (es ++ [e]) := by
 have hsp := h.lt
 have hz := hb.size
 have hz3 := hg.size
 have hesp : ev.ownBlock ≠ some sp := own_not h.row h.c (by decide)
 have c3 : w3.heap[sp]? = some (.cells #[.string st, ev] 94 (0, 0)) := (hg.block sp (by omega) (fun e => hesp e.symm)).trans ((hb.block sp hsp).trans h.c)
 have hesp' : ev'.ownBlock ≠ some sp := own_not ho c3 (by decide)
 have far : ∀ k, k ≠ sp → (w3.setCell ⟨sp, 1, none⟩ ev').heap[k]? = w3.heap[k]? := fun k hk => heap_setCell_other w3 _ _ _ (by simpa using hk)
 have hsz : (w3.setCell ⟨sp, 1, none⟩ ev').heap.size = w3.heap.size := by simp
 have hcond : ∀ b, b < w2.heap.size → ev.ownBlock ≠ some b → ev'.ownBlock ≠ some b := fun b hb2 hne he => by
  rcases hk with hk | ⟨k, hk, hk2⟩
  · exact hne (hk ▸ he)
  · rw [hk] at he; cases he; omega
 refine ⟨?_, by simp [h.len], heap_setCell_same w3 sp 1 _ _ _ c3, fun i a x h1 h2 => ?_⟩
 · rw [List.length_append]; exact own_cong ho (fun k hk => far k (fun e => hesp' (e ▸ hk)))
 · rcases row_snoc h1 with h1 | ⟨rfl, rfl⟩
   · have hil := (List.getElem?_eq_some_iff.1 h1).1
     rw [List.getElem?_append_left (by rw [h.len]; exact hil)] at h2
     have h3 := h.el i a x h1 h2
     refine h3.cong (fun b hb' => ⟨hb'.1, by omega, hcond b (by omega) hb'.2.2.1, hb'.2.2.2⟩) (fun b hb' => ?_)
     exact (far b hb'.2.2.2).trans ((hg.block b (by omega) (fun e => hb'.2.2.1 e.symm)).trans (hb.block b (by omega)))
   · rw [← h.len, List.getElem?_append_right (Nat.le_refl _), Nat.sub_self] at h2
     cases h2
     have hne : ∀ b, w.heap.size ≤ b → ev.ownBlock ≠ some b := fun b hb' he => by have := (own_lt h.row he).2; omega
     refine hco.cong (fun b hb' => ⟨by omega, by omega, hcond b hb'.2 (hne b hb'.1), by omega⟩) (fun b hb' => ?_)
     exact (far b (by omega)).trans (hg.block b hb'.2 (fun e => hne b hb'.1 e.symm))
structure OO (B : Nat) (w : World) (ov : Value) (xs : List Value) (l : List Seg) : Prop where
 row : w.ownsRow B 94 2 ov l.length (segCells l xs)
 len : xs.length = l.length
 el : ∀ (i : Nat) (s : Seg) (x : Value), l[i]? = some s → xs[i]? = some x → ElemsAt (fun b => B ≤ b ∧ b < w.heap.size ∧ ov.ownBlock ≠ some b) w x s.elems
theorem OO.start (B : Nat) (w : World) : OO B w (.slice none 0 0) [] [] := ⟨World.ownsRow_nil _ _ _ _, rfl, fun i s x h => by simp at h⟩
theorem OO.step {B H sp : Nat} {st : ByteArray} {t : Str} {w wr w4 : World} {ov ov' ev : Value} {xs ys : List Value} {l : List Seg} {es : List (List Str)} (h : OO B w ov xs l) (hst : (⟨t.toArray⟩ : ByteArray) = st) (hH : w.heap.size = H) (hB : B ≤ H) (hb : Below H w wr) (he : OE H sp st wr ev ys es)
  (hg : wr.grownBy w4 ov.ownBlock) (ho : w4.ownsRow B 94 2 ov' (l.length + 1) (segCells l xs ++ [.string st, ev])) (hk : ov'.ownBlock = ov.ownBlock ∨ ∃ k, ov'.ownBlock = some k ∧ wr.heap.size ≤ k) :
  OO B w4 ov' (xs ++ [ev]) (l ++ [⟨t, es⟩]) := by
 have hz := hb.size
 have hz4 := hg.size
 have hcond : ∀ b, b < wr.heap.size → ov.ownBlock ≠ some b → ov'.ownBlock ≠ some b := fun b hb2 hne he => by
  rcases hk with hk | ⟨k, hk, hk2⟩
  · exact hne (hk ▸ he)
  · rw [hk] at he; cases he; omega
 have hov : ∀ k, ov.ownBlock = some k → k < H := fun k hk => by rw [← hH]; exact (own_lt h.row hk).2
 refine ⟨?_, by simp [h.len], fun i s x h1 h2 => ?_⟩
 · rw [List.length_append, segCells_app l [⟨t, es⟩] xs [ev] h.len]
   have : segCells [⟨t, es⟩] [ev] = [.string st, ev] := by rw [← hst]; rfl
   rw [this]; exact ho
 · rcases row_snoc h1 with h1 | ⟨rfl, rfl⟩
   · have hil := (List.getElem?_eq_some_iff.1 h1).1
     rw [List.getElem?_append_left (by rw [h.len]; exact hil)] at h2
     refine (h.el i s x h1 h2).cong (fun b hb' => ⟨hb'.1, by omega, hcond b (by omega) hb'.2.2⟩) (fun b hb' => ?_)
     exact (hg.block b (by omega) (fun e => hb'.2.2 e.symm)).trans (hb.block b (by omega))
   · rw [← h.len, List.getElem?_append_right (Nat.le_refl _), Nat.sub_self] at h2
     cases h2
     have hne : ∀ b, H ≤ b → ov.ownBlock ≠ some b := fun b hb' he => by have := hov b he; omega
     have hr : wr.ownsRow H 58 1 ev ys.length ys := by rw [he.len]; exact he.row
     have h5 : RowAt (fun b => H ≤ b ∧ b < wr.heap.size) wr ev ys := own_rest hr (fun k hk => own_lt he.row hk)
     refine ⟨ys, h5.cong (fun b hb' => ⟨by omega, by omega, hcond b hb'.2 (hne b hb'.1)⟩) (fun b hb' => hg.block b hb'.2 (fun e => hne b hb'.1 e.symm)), he.len, fun i e x h6 h7 => ?_⟩
     exact (he.el i e x h6 h7).cong (fun b hb' => ⟨by omega, by omega, hcond b hb'.2.1 (hne b hb'.1)⟩) (fun b hb' => hg.block b hb'.2.1 (fun e => hne b hb'.1 e.symm))
theorem OO.rest {B : Nat} {w : World} {ov : Value} {xs : List Value} {l : List Seg} (h : OO B w ov xs l) : SegsAt (fun b => B ≤ b ∧ b < w.heap.size) w ov l :=
 segs_rest h.row h.len (fun _ hk => own_lt h.row hk) (fun i s x h1 h2 => (h.el i s x h1 h2).cong (fun _ hb => ⟨hb.1, hb.2.1⟩) (fun _ _ => rfl))
end Go.Proofs.YtgfijlamhjjecaaGreatDoor
namespace Go.Proofs.YtgfijlamhjjecaaGreatDoor
open Go.RowKit Go.ChangeShapes Go.WideShapes Go.Deep
abbrev Low (w : World) (k : Nat) : Prop := k < w.heap.size
section
variable {H : Type} {enc : TypeId × Value → H} {w : World} {base : Nat} {spare : Nat → Bool} {held : Bool}
instance : Inhabited Seg := ⟨⟨[], []⟩⟩
end
end Go.Proofs.YtgfijlamhjjecaaGreatDoor
