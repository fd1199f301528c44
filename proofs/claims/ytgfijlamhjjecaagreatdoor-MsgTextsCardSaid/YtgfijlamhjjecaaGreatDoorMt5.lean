/-
  Texts EdiU, WrapX, EdiA1, WrapD, NumP, MsgP, MsgM, one behind the other. No condition beyond those stated in each.
-/
import Derived.Test.YtgfijlamhjjecaaGreatDoorMt4
import Derived.Deep.DeepFit
import Derived.Laws.ResultCell
import Derived.Test.YtgfijlamhjjecaaGreatDoorMt1
import Derived.Deep.Slices
import Derived.SliceStrings
import Derived.OpenShut
import Derived.ChangeSame
import Derived.BigQuiet
import Derived.Lib.ParseIntBCases
namespace Go.Proofs.YtgfijlamhjjecaaGreatDoor
open Go.RowKit
theorem parse_big (s : ByteArray) (h : 65536 < s.size) (w : World) : Calls Tryz.prog 100 #[.string s] w fun e w' => e = .returned (.tuple #[.slice none 0 0, .int .i64 0, .int .i64 2]) ∧ w = w' := by
  have d1 : decide ((65536 : Int) < (s.size : Int)) = true := by rw [decide_eq_true_eq]; omega
  go_enter Tryz.func100, Tryz.ntmps100
  go_wp2_with fail
  go_ret3
  exact ⟨rfl, rfl⟩
theorem parseE_ok {t : Str} (h : t.length ≤ 65536) : parseE t = match runE (.btw []) 0 t with
    | .err i k => ([], i, k)
    | .ok (.btw l) => (l, 0, 0)
    | .ok _ => ([], t.length, 31) := by
  unfold parseE
  rw [if_neg (by omega)]
  rfl
theorem rd_start (w : World) (n : Nat) (hn : n = w.heap.size) : Rd (w.alloc (.cells #[.slice none 0 0, .slice none 0 0] 215)) n n (.btw []) := by
  subst hn
  refine ⟨fun _ => False, .slice none 0 0, .slice none 0 0, [], [], ⟨Nat.le_refl _, ?_, ?_, ?_, rfl, ?_, ?_⟩, by decide⟩
  · exact heap_alloc_new _ _
  · exact ⟨rfl, .inl ⟨rfl, rfl⟩⟩
  · exact ⟨rfl, .inl ⟨rfl, rfl⟩⟩
  · intro i s x h; simp at h
  · intro k hk; exact hk.elim
theorem enter_fn {f : Nat} {fn : Func} {c : Code} (hf : Tryz.prog.funcs[f]? = some fn) (hname : (fn.name == "runtime.NumGoroutine") = false) (hb : fn.body = some c) (args : Array Value) (w : World) :
    (callFunc f args).run Tryz.prog w = .ok (.enter f args) w := by
  have h1 : fn.name ≠ "runtime.NumGoroutine" := by simpa using hname
  simp [callFunc, hf, h1, hb, mark]
theorem enter_step (c : EC) (args : Array Value) (w : World) : (callFunc (fnE c) args).run Tryz.prog w = .ok (.enter (fnE c) args) w := by
  cases c with
  | btw l => exact enter_fn Tryz.func144 (by decide) rfl args w
  | tag l t => exact enter_fn Tryz.func168 (by decide) rfl args w
  | bhd l t => exact enter_fn Tryz.func187 (by decide) rfl args w
  | cmp l t es cs p => exact enter_fn Tryz.func205 (by decide) rfl args w
  | rel l t es cs p => exact enter_fn Tryz.func216 (by decide) rfl args w
set_option maxRecDepth 100000 in
set_option maxHeartbeats 4000000 in
theorem parse_own (s : ByteArray) (h : s.size ≤ 65536) (w : World) : Calls Tryz.prog 100 #[.string s] w fun e w' => ∃ v, e = .returned (.tuple #[v, .int .i64 ((parseE s.data.toList).2.1 : Int), .int .i64 (parseE s.data.toList).2.2]) ∧ SegsO (fun k => w.heap.size ≤ k ∧ k < w'.heap.size) w.heap.size w' v (parseE s.data.toList).1 ∧ Below w.heap.size w w' := by
  have d1 : decide ((65536 : Int) < (s.size : Int)) = false := by rw [decide_eq_false_iff_not]; omega
  obtain ⟨P, hP⟩ : ∃ P, parseE s.data.toList = P := ⟨_, rfl⟩
  rw [hP]
  have HP := Lib.hid hP
  clear hP
  go_enter Tryz.func100, Tryz.ntmps100
  go_wp2_with fail
  obtain ⟨rb, hrb⟩ : ∃ rb, w.heap.size = rb := ⟨_, rfl⟩
  rw [hrb]
  obtain ⟨w1, hw1⟩ : ∃ w1, w.alloc (.cells #[.slice none 0 0, .slice none 0 0] 215) = w1 := ⟨_, rfl⟩
  have HR := Lib.hid (show Rd w1 rb rb (.btw []) by rw [← hw1]; exact rd_start w rb hrb.symm)
  have HB := Lib.hid (show Below rb w w1 by rw [← hw1, ← hrb]; exact (Below.refl _ w).alloc (Nat.le_refl _) _)
  rw [hw1]
  clear hw1
  go_loopw [6, 7, 20] (fun nx dn i wr => ∃ (k : Nat) (c : EC), k ≤ s.size ∧ i = .int .i64 (k : Int) ∧ nx = .func (.func (fnE c)) #[.pointer (some ⟨rb, 0, none⟩)] #[] ∧ dn = .bool (isBtw c) ∧ Hid (Rd wr rb rb c) ∧ Hid (Below rb w wr) ∧ Hid (runE (.btw []) 0 s.data.toList = runE c k (s.data.toList.drop k)) ∧ Hid ((heldN s.data.toList k % 2 == 1) = isRel c)) (fun _ _ i _ => s.size - (intOf i).toNat)
  case atStart => exact ⟨0, .btw [], by omega, rfl, rfl, rfl, HR, HB, Lib.hid rfl, Lib.hid (by rw [heldN_zero]; rfl)⟩
  case round =>
    obtain ⟨k, c, hk, rfl, rfl, rfl, HD, HF, HN, HH⟩ := hrel
    clear HR HB
    by_cases hlt : k < s.size
    · have hA := at_byte s _ hlt
      obtain ⟨b, hb⟩ : ∃ b, s[k]'hlt = b := ⟨_, rfl⟩
      rw [hb] at hA
      have hent := enter_step c
      have hDR : s.data.toList.drop k = b :: s.data.toList.drop (k + 1) := by
        obtain ⟨hl, he⟩ := List.getElem?_eq_some_iff.1 hA
        rw [List.drop_eq_getElem_cons hl, he]
      have hS := rd_step HD.out (by have := HF.out.size; omega) b
      cases hr : stepE c b with
      | err kk =>
        rw [hr] at hS
        have HS := Lib.hid hS
        clear hS
        have hP : P = ([], k, kk) := by
          rw [← HP.out, parseE_ok (by simpa using h), HN.out, hDR]
          simp only [runE, hr]
        subst hP
        rcases step_err hr with rfl | rfl
        · go_wp2_with (go_fit HS.out; rintro e w' ⟨rfl, hB⟩; have HB2 := Lib.hid hB; clear hB)
          go_ret3
          exact ⟨_, rfl, SegsO.nil _ _ _, HF.out.trans HB2.out⟩
        · go_wp2_with (go_fit HS.out; rintro e w' ⟨rfl, hB⟩; have HB2 := Lib.hid hB; clear hB)
          go_ret3
          exact ⟨_, rfl, SegsO.nil _ _ _, HF.out.trans HB2.out⟩
      | ok c' =>
        rw [hr] at hS
        have HS := Lib.hid hS
        have HC := Lib.hid (step_form hr)
        clear hS
        have HX := Lib.hid (show runE (.btw []) 0 s.data.toList = runE c' (k + 1) (s.data.toList.drop (k + 1)) by
          rw [HN.out, hDR]
          simp only [runE, hr])
        have HY := Lib.hid (held_step hA hr HH.out)
        have hHL := fun w => held_any (.pointer (some ⟨rb, 0, none⟩)) s k (by omega) (by omega) w
        have HHL := Lib.hid hHL
        clear hHL hDR
        by_cases h10 : b = 10
        · have hbv : isBtw c' = true := by rw [HC.out.1, h10]; rfl
          subst h10
          go_wp2_with (go_fit HS.out; rintro e w' ⟨rfl, hD, hB⟩; have HD2 := Lib.hid hD; have HB2 := Lib.hid hB; clear hB hD)
          go_round
          case rel => exact ⟨k + 1, c', by omega, by go_num, rfl, by rw [hbv], HD2, Lib.hid (HF.out.trans HB2.out), HX, HY⟩
          case measure => simp [intOf]; omega
        · have n10 : ((b.toNat : Int) == 10) = false := nat_eq b 10 h10
          by_cases h39 : b = 39
          · subst h39
            by_cases hk0 : k = 0
            · have k0 : ((k : Int) == 0) = true := by rw [hk0]; rfl
              have hbv : isBtw c' = true := by rw [HC.out.1, ← HH.out, hk0, heldN_zero]; rfl
              clear hk0
              go_wp2_with (go_fit HS.out; rintro e w' ⟨rfl, hD, hB⟩; have HD2 := Lib.hid hD; have HB2 := Lib.hid hB; clear hB hD)
              go_round
              case rel => exact ⟨k + 1, c', by omega, by go_num, rfl, by rw [hbv], HD2, Lib.hid (HF.out.trans HB2.out), HX, HY⟩
              case measure => simp [intOf]; omega
            · have k0 : ((k : Int) == 0) = false := by rw [beq_eq_false_iff_ne]; omega
              have hbv : isBtw c' = !(heldN s.data.toList k % 2 == 1) := by rw [HC.out.1, ← HH.out]; rfl
              have HBV := Lib.hid hbv
              clear hbv
              go_wp2_with first | (go_fit HS.out; rintro e w' ⟨rfl, hD, hB⟩; have HD2 := Lib.hid hD; have HB2 := Lib.hid hB; clear hB hD) | (go_at_call 145; refine (HHL.out _).mono ?_; rintro e w' ⟨rfl, rfl⟩)
              go_round
              case rel => exact ⟨k + 1, c', by omega, by go_num, rfl, by rw [HBV.out], HD2, Lib.hid (HF.out.trans HB2.out), HX, HY⟩
              case measure => simp [intOf]; omega
          · have n39 : ((b.toNat : Int) == 39) = false := nat_eq b 39 h39
            have hbv : isBtw c' = false := by rw [HC.out.1]; simp [h10, h39]
            go_wp2_with (go_fit HS.out; rintro e w' ⟨rfl, hD, hB⟩; have HD2 := Lib.hid hD; have HB2 := Lib.hid hB; clear hB hD)
            go_round
            case rel => exact ⟨k + 1, c', by omega, by go_num, rfl, by rw [hbv], HD2, Lib.hid (HF.out.trans HB2.out), HX, HY⟩
            case measure => simp [intOf]; omega
    · obtain rfl : k = s.size := by omega
      have hN := HN.out
      rw [List.drop_eq_nil_of_le (by simp)] at hN
      simp only [runE] at hN
      have hPP : P = match (EO.ok c) with
          | .err i k => ([], i, k)
          | .ok (.btw l) => (l, 0, 0)
          | .ok _ => ([], s.data.toList.length, 31) := by
        rw [← HP.out, parseE_ok (by simpa using h), hN]
      have hsz : s.data.toList.length = s.size := by simp
      rw [hsz] at hPP
      clear hN
      cases c with
      | btw l =>
        obtain ⟨S, lv, pv, xs, p, hR, hl64⟩ := HD.out
        have d0 := hR.c0
        have HRR := Lib.hid hR
        clear hR
        simp only [isBtw]
        replace hPP : P = (l, 0, 0) := hPP
        subst hPP
        go_wp2_with fail
        go_ret3
        exact ⟨_, rfl, HRR.out.segs, HF.out⟩
      | tag l t =>
        simp only [isBtw]
        replace hPP : P = ([], s.size, 31) := hPP
        subst hPP
        go_wp2_with fail
        go_ret3
        exact ⟨_, rfl, SegsO.nil _ _ _, HF.out⟩
      | bhd l t =>
        simp only [isBtw]
        replace hPP : P = ([], s.size, 31) := hPP
        subst hPP
        go_wp2_with fail
        go_ret3
        exact ⟨_, rfl, SegsO.nil _ _ _, HF.out⟩
      | cmp l t es cs p =>
        simp only [isBtw]
        replace hPP : P = ([], s.size, 31) := hPP
        subst hPP
        go_wp2_with fail
        go_ret3
        exact ⟨_, rfl, SegsO.nil _ _ _, HF.out⟩
      | rel l t es cs p =>
        simp only [isBtw]
        replace hPP : P = ([], s.size, 31) := hPP
        subst hPP
        go_wp2_with fail
        go_ret3
        exact ⟨_, rfl, SegsO.nil _ _ _, HF.out⟩
end Go.Proofs.YtgfijlamhjjecaaGreatDoor


namespace Go.Proofs.YtgfijlamhjjecaaGreatDoor
open Go.RowKit
def wv (x : WD) (v : Value) : Value := .agg #[.int .u8 (x.fr : Int), .int .u8 (x.dst : Int), .int .u64 (x.rf : Int), v]
def WParseQ (t : Str) (w : World) (e : Ending) (w' : World) : Prop := ∃ v, e = .returned (.tuple #[wv (wrapParseE t).1 v, .int .i64 (wrapParseE t).2]) ∧ SegsAt (fun k => w.heap.size ≤ k ∧ k < w'.heap.size) w' v (wrapParseE t).1.segs ∧ Below w.heap.size w w'
theorem wq_err {t : Str} {w w' : World} {k : Int} (h : wrapParseE t = (wd0, k)) (hb : Below w.heap.size w w') : WParseQ t w (.returned (.tuple #[.agg #[.int .u8 0, .int .u8 0, .int .u64 0, .slice none 0 0], .int .i64 k])) w' := by
  unfold WParseQ
  rw [h]
  exact ⟨.slice none 0 0, rfl, SegsAt.nil _ _, hb⟩
theorem res_wrap {fn : Func} {p u : Tmp} (h : fn.results = #[.cell p 41, .tmp u]) (tmps : Array Value) {w : World} {g : Nat} {cs : Array Value} {x : Value} {t : TypeId} (hp : tmps.getD p undef = .pointer (some ⟨g, 0, none⟩)) (hu : tmps.getD u undef = x)
    (hg : w.heap[g]? = some (.cells cs t (0, 0))) (hs : cs.size = 4) : (results fn tmps).run Tryz.prog w = .ok (.tuple #[.agg cs, x]) w := by
  rw [results_cell_tmp h, hp, hu]
  have hl : (loadVar 41 ⟨g, 0, none⟩).run Tryz.prog w = .ok (.agg cs) w := run_loadVar_row w g t 41 cs (0, 0) _ hg Tryz.underlying41 rfl (by rw [hs]; kernel_rfl)
  simp [asAddr, hl, Result.andThen]
def put4 (w : World) (g : Nat) (a b c d : Value) : World := (((w.setCell ⟨g, 0, none⟩ a).setCell ⟨g, 1, none⟩ b).setCell ⟨g, 2, none⟩ c).setCell ⟨g, 3, none⟩ d
theorem put4_heap {w : World} {g : Nat} {x y z u : Value} {t : TypeId} (h : w.heap[g]? = some (.cells #[x, y, z, u] t (0, 0))) (a b c d : Value) : (put4 w g a b c d).heap[g]? = some (.cells #[a, b, c, d] t (0, 0)) := by
  have h0 := heap_setCell_same w g 0 _ _ a h
  have h1 := heap_setCell_same _ g 1 _ _ b h0
  have h2 := heap_setCell_same _ g 2 _ _ c h1
  have h3 := heap_setCell_same _ g 3 _ _ d h2
  exact h3
theorem put4_size (w : World) (g : Nat) (a b c d : Value) : (put4 w g a b c d).heap.size = w.heap.size := by unfold put4; simp
theorem put4_below {w0 w : World} {B g : Nat} (h : Below B w0 w) (hg : B ≤ g) (a b c d : Value) : Below B w0 (put4 w g a b c d) := (((h.setCell hg _).setCell hg _).setCell hg _).setCell hg _
theorem put4_other (w : World) (g : Nat) (a b c d : Value) {k : Nat} (hk : k ≠ g) : (put4 w g a b c d).heap[k]? = w.heap[k]? := by
  unfold put4
  rw [heap_setCell_other _ _ _ _ (by simpa using hk), heap_setCell_other _ _ _ _ (by simpa using hk), heap_setCell_other _ _ _ _ (by simpa using hk), heap_setCell_other _ _ _ _ (by simpa using hk)]
theorem cells4 {w : World} {g : Nat} {x y z u : Value} {t : TypeId} (h : w.heap[g]? = some (.cells #[x, y, z, u] t (0, 0))) : (w.cell? ⟨g, 0, none⟩ = some x ∧ w.cell? ⟨g, 1, none⟩ = some y ∧ w.cell? ⟨g, 2, none⟩ = some z ∧ w.cell? ⟨g, 3, none⟩ = some u) ∧ (w.frozen? ⟨g, 0, none⟩ = false ∧ w.frozen? ⟨g, 1, none⟩ = false ∧ w.frozen? ⟨g, 2, none⟩ = false ∧ w.frozen? ⟨g, 3, none⟩ = false) :=
  ⟨⟨cell_of_row w g 0 _ _ _ h, cell_of_row w g 1 _ _ _ h, cell_of_row w g 2 _ _ _ h, cell_of_row w g 3 _ _ _ h⟩, frozen_of_row w g 0 _ _ h, frozen_of_row w g 1 _ _ h, frozen_of_row w g 2 _ _ h, frozen_of_row w g 3 _ _ h⟩
structure PK (B N n b off : Nat) (th : Str) (xh : Value) (tz : Str) (xz : Value) (w : World) : Prop where
  res : w.heap[B]? = some (.cells #[.int .u8 0, .int .u8 0, .int .u64 0, .slice none 0 0] 41 (0, 0))
  cn : w.cell? ⟨N, 0, none⟩ = some (.int .i64 (n : Int))
  h0 : w.cell? ⟨b, off, none⟩ = some (sv th)
  h1 : w.cell? ⟨b, off + 1, none⟩ = some xh
  z0 : w.cell? ⟨b, off + (n - 1) * 2, none⟩ = some (sv tz)
  z1 : w.cell? ⟨b, off + (n - 1) * 2 + 1, none⟩ = some xz
theorem PK.on {B N n b off M : Nat} {th : Str} {xh : Value} {tz : Str} {xz : Value} {w w' : World} (h : PK B N n b off th xh tz xz w) (hb : Below M w w') (hM : w.heap.size ≤ M) : PK B N n b off th xh tz xz w' :=
  ⟨(hb.block B (Nat.lt_of_lt_of_le (Array.getElem?_eq_some_iff.1 h.res).1 hM)).trans h.res, (hb.cell (Nat.lt_of_lt_of_le (cell_lt' h.cn) hM)).trans h.cn, (hb.cell (Nat.lt_of_lt_of_le (cell_lt' h.h0) hM)).trans h.h0, (hb.cell (Nat.lt_of_lt_of_le (cell_lt' h.h1) hM)).trans h.h1, (hb.cell (Nat.lt_of_lt_of_le (cell_lt' h.z0) hM)).trans h.z0, (hb.cell (Nat.lt_of_lt_of_le (cell_lt' h.z1) hM)).trans h.z1⟩
structure NK (eb eo zb zo : Nat) (x0 x1 x2 y0 y1 : Value) (e0 e1 e2 g0 g1 : List Str) (w : World) : Prop where
  c0 : w.cell? ⟨eb, eo, none⟩ = some x0
  c1 : w.cell? ⟨eb, eo + 1, none⟩ = some x1
  c2 : w.cell? ⟨eb, eo + 2, none⟩ = some x2
  c3 : w.cell? ⟨zb, zo, none⟩ = some y0
  c4 : w.cell? ⟨zb, zo + 1, none⟩ = some y1
  k0 : CompsAt (fun k => k < w.heap.size) w x0 e0
  k1 : CompsAt (fun k => k < w.heap.size) w x1 e1
  k2 : CompsAt (fun k => k < w.heap.size) w x2 e2
  k3 : CompsAt (fun k => k < w.heap.size) w y0 g0
  k4 : CompsAt (fun k => k < w.heap.size) w y1 g1
theorem NK.on {eb eo zb zo M : Nat} {x0 x1 x2 y0 y1 : Value} {e0 e1 e2 g0 g1 : List Str} {w w' : World} (h : NK eb eo zb zo x0 x1 x2 y0 y1 e0 e1 e2 g0 g1 w) (hb : Below M w w') (hM : w.heap.size ≤ M) : NK eb eo zb zo x0 x1 x2 y0 y1 e0 e1 e2 g0 g1 w' := by
  have hc : ∀ {b o : Nat} {v : Value}, w.cell? ⟨b, o, none⟩ = some v → w'.cell? ⟨b, o, none⟩ = some v := fun h1 => (hb.cell (Nat.lt_of_lt_of_le (cell_lt' h1) hM)).trans h1
  have hk : ∀ {x : Value} {e : List Str}, CompsAt (fun k => k < w.heap.size) w x e → CompsAt (fun k => k < w'.heap.size) w' x e := fun h1 => h1.cong (fun k hk => by have := hb.size; omega) (fun k hk => hb.block k (by omega))
  exact ⟨hc h.c0, hc h.c1, hc h.c2, hc h.c3, hc h.c4, hk h.k0, hk h.k1, hk h.k2, hk h.k3, hk h.k4⟩
theorem nk_of {w : World} {xh xz : Value} {e0 e1 e2 g0 g1 : List Str} (h : ElemsAt (fun k => k < w.heap.size) w xh [e0, e1, e2]) (h' : ElemsAt (fun k => k < w.heap.size) w xz [g0, g1]) :
    ∃ eb eo ec zb zo zc x0 x1 x2 y0 y1, xh = .slice (some ⟨eb, eo, none⟩) 3 ec ∧ 3 ≤ ec ∧ ec ≤ maxLen ∧ xz = .slice (some ⟨zb, zo, none⟩) 2 zc ∧ 2 ≤ zc ∧ zc ≤ maxLen ∧ NK eb eo zb zo x0 x1 x2 y0 y1 e0 e1 e2 g0 g1 w := by
  obtain ⟨xo, xc, rfl, hx1, hx2⟩ := h.form
  obtain ⟨yo, yc, rfl, hy1, hy2⟩ := h'.form
  obtain ⟨eb, eo, x0, rfl, _, c0, k0⟩ := h.get (k := 0) (e := e0) rfl
  obtain ⟨_, _, x1, hb1, _, c1, k1⟩ := h.get (k := 1) (e := e1) rfl
  cases hb1
  obtain ⟨_, _, x2, hb2, _, c2, k2⟩ := h.get (k := 2) (e := e2) rfl
  cases hb2
  obtain ⟨zb, zo, y0, rfl, _, c3, k3⟩ := h'.get (k := 0) (e := g0) rfl
  obtain ⟨_, _, y1, hb4, _, c4, k4⟩ := h'.get (k := 1) (e := g1) rfl
  cases hb4
  exact ⟨eb, eo, xc, zb, zo, yc, x0, x1, x2, y0, y1, rfl, hx1, hx2, rfl, hy1, hy2, c0, c1, c2, c3, c4, k0, k1, k2, k3, k4⟩
def VK (l : List (Nat × Value)) (w : World) : Prop := ∀ p ∈ l, w.cell? ⟨p.1, 0, none⟩ = some p.2
theorem VK.on {l : List (Nat × Value)} {M : Nat} {w w' : World} (h : VK l w) (hb : Below M w w') (hM : w.heap.size ≤ M) : VK l w' := fun p hp => (hb.cell (Nat.lt_of_lt_of_le (cell_lt' (h p hp)) hM)).trans (h p hp)
theorem VK.alloc {l : List (Nat × Value)} {w : World} (h : VK l w) (o : Obj) : VK l (w.alloc o) := h.on ((Below.refl _ w).alloc (Nat.le_refl _) o) (Nat.le_refl _)
theorem VK.cons {l : List (Nat × Value)} {w : World} {p : Nat × Value} (h : VK l w) (hp : w.cell? ⟨p.1, 0, none⟩ = some p.2) : VK (p :: l) w := fun q hq => by
  rcases List.mem_cons.1 hq with rfl | hq
  · exact hp
  · exact h q hq
theorem pk_of {S : Nat → Prop} {w : World} {v : Value} {th tz : Str} {eh ez : List (List Str)} {m : List Seg} {n : Nat} (h : SegsAt S w v (⟨th, eh⟩ :: (m ++ [⟨tz, ez⟩]))) (hn : (⟨th, eh⟩ :: (m ++ [⟨tz, ez⟩]) : List Seg).length = n) :
    ∃ b off cap xh xz, v = .slice (some ⟨b, off, none⟩) n cap ∧ n ≤ cap ∧ cap ≤ maxLen ∧ S b ∧ (w.cell? ⟨b, off, none⟩ = some (sv th) ∧ w.cell? ⟨b, off + 1, none⟩ = some xh ∧ w.cell? ⟨b, off + (n - 1) * 2, none⟩ = some (sv tz) ∧ w.cell? ⟨b, off + (n - 1) * 2 + 1, none⟩ = some xz) ∧ ElemsAt S w xh eh ∧ ElemsAt S w xz ez := by
  obtain ⟨ao, cap, rfl, h1, h2⟩ := h.form
  have hnm : n - 1 = m.length + 1 := by rw [← hn]; simp
  obtain ⟨b, off, xh, rfl, hS, c0, c1, he⟩ := h.get (k := 0) (s := ⟨th, eh⟩) rfl
  obtain ⟨b', off', xz, hbb, _, c2, c3, he'⟩ := h.get (k := n - 1) (s := ⟨tz, ez⟩) (by rw [hnm]; simp)
  cases hbb
  rw [Nat.zero_mul, Nat.add_zero] at c0 c1
  rw [hn] at h1 ⊢
  exact ⟨b, off, cap, xh, xz, rfl, h1, h2, hS, ⟨c0, c1, c2, c3⟩, he, he'⟩
theorem ends_of {l : List Seg} (h : ¬ l.length < 2) : ∃ a m z, l = a :: (m ++ [z]) := by
  cases l with
  | nil => simp at h
  | cons a r =>
    have hr : r ≠ [] := by rintro rfl; simp at h
    exact ⟨a, r.dropLast, r.getLast hr, by rw [List.dropLast_concat_getLast]⟩
theorem SegsAt.sub {S : Nat → Prop} {w : World} {b off n cap : Nat} {l : List Seg} (H : SegsAt S w (.slice (some ⟨b, off, none⟩) n cap) l) {lo hi c' : Nat} (_h1 : lo ≤ hi) (h2 : hi ≤ l.length) (hc : hi - lo ≤ c') (hc2 : c' ≤ maxLen) : SegsAt S w (.slice (some ⟨b, off + lo * 2, none⟩) (hi - lo) c') ((l.take hi).drop lo) := by
  obtain ⟨ao, cap', xs, e, k1, k2, k3, k4, k5, k6⟩ := H
  cases e
  have hlen : ((l.take hi).drop lo).length = hi - lo := by rw [List.length_drop, List.length_take, Nat.min_eq_left h2]
  have hget : ∀ {α : Type} (l : List α) (i : Nat) (s : α), ((l.take hi).drop lo)[i]? = some s → l[lo + i]? = some s := fun l i s hs => by
    rw [List.getElem?_drop] at hs
    rw [List.getElem?_take] at hs
    split at hs
    · exact hs
    · cases hs
  refine ⟨some ⟨b, off + lo * 2, none⟩, c', (xs.take hi).drop lo, by rw [hlen], by rw [hlen]; exact hc, hc2, (fun e => by cases e), by rw [hlen, List.length_drop, List.length_take, k4, Nat.min_eq_left h2], fun i s x hs hx => k5 _ s x (hget l i s hs) (hget xs i x hx), fun hne => ?_⟩
  have hl0 : l ≠ [] := by rintro rfl; exact hne (by simp)
  obtain ⟨b', off', e, hS, hcell⟩ := k6 hl0
  cases e
  refine ⟨b, off + lo * 2, rfl, hS, fun i s x hs hx => ?_⟩
  obtain ⟨a1, a2⟩ := hcell _ s x (hget l i s hs) (hget xs i x hx)
  rw [show off + lo * 2 + i * 2 = off + (lo + i) * 2 by omega]
  exact ⟨a1, a2⟩
set_option maxRecDepth 100000 in
set_option maxHeartbeats 8000000 in
theorem wParse_any (s : ByteArray) (w : World) (hv : VarsOk w) : Calls Tryz.prog 60 #[.string s] w fun e w' => WParseQ s.data.toList w e w' := by
  obtain ⟨B, hB⟩ : ∃ B, w.heap.size = B := ⟨_, rfl⟩
  by_cases hbig : 65536 < s.size
  · skip
    have hE : wrapParseE s.data.toList = (wd0, 2) := by
      have h1 : parseE s.data.toList = ([], 0, 2) := by unfold parseE; rw [if_pos (by simpa using hbig)]
      unfold wrapParseE
      rw [h1]; rfl
    have HE := Lib.hid hE
    have HBG := Lib.hid (parse_big s hbig)
    clear hE hbig
    go_enter Tryz.func60, Tryz.ntmps60
    go_wp2_with (go_at_call 100; refine (HBG.out _).mono ?_; rintro e w' ⟨rfl, rfl⟩)
    refine bodyPost_ret (res_wrap rfl _ rfl rfl (by rw [← hB]; exact heap_alloc_new _ _) rfl) rfl (wq_err HE.out ((Below.refl _ _).alloc (Nat.le_refl _) _))
  · skip
    have hs : s.size ≤ 65536 := by omega
    have HPA := Lib.hid (parse_own s hs)
    cases hpe : parseE s.data.toList with
    | mk l r =>
    obtain ⟨i, k⟩ := r
    have HPE := Lib.hid hpe
    rw [hpe] at HPA
    have hz1 : (w.alloc (.cells #[.int .u8 0, .int .u8 0, .int .u64 0, .slice none 0 0] 41)).heap.size = B + 1 := by simp [hB]
    have hB1 : Below B w (w.alloc (.cells #[.int .u8 0, .int .u8 0, .int .u64 0, .slice none 0 0] 41)) := by rw [← hB]; exact (Below.refl _ _).alloc (Nat.le_refl _) _
    have hc1 : (w.alloc (.cells #[.int .u8 0, .int .u8 0, .int .u64 0, .slice none 0 0] 41)).heap[B]? = some (.cells #[.int .u8 0, .int .u8 0, .int .u64 0, .slice none 0 0] 41 (0, 0)) := by rw [← hB]; exact heap_alloc_new _ _
    have HZ1 := Lib.hid hz1
    have HB1 := Lib.hid hB1
    have HC1 := Lib.hid hc1
    have HBQ := Lib.hid hB
    have hpe' := hpe
    have hs' := hs
    clear hpe hz1 hB1 hc1 hbig hs
    by_cases hk : k = 0
    · skip
      subst hk
      have HWE : Hid (wrapParseE s.data.toList = wrapOf l) := Lib.hid (by unfold wrapParseE; rw [HPE.out, if_pos rfl])
      by_cases hl2 : l.length < 2
      · skip
        clear hpe' hs'
        have hE : wrapParseE s.data.toList = (wd0, 40) := by
          rw [HWE.out]
          match l, hl2 with
          | [], _ => rfl
          | [a], _ => rfl
        have HE := Lib.hid hE
        obtain ⟨n, hn⟩ : ∃ n, l.length = n := ⟨_, rfl⟩
        have HN := Lib.hid hn
        rw [hn] at hl2
        have i2 : (n : Int) < 2 := by omega
        clear hE hn
        go_enter Tryz.func60, Tryz.ntmps60
        go_wp2_with (go_at_call 100; refine (HPA.out _).mono ?_; rw [HZ1.out]; rintro e w2 ⟨v, rfl, hso, hbe⟩; have HSO := Lib.hid hso.lies; have HBE := Lib.hid hbe; obtain ⟨va, vc, rfl, hv1, hv2⟩ := hso.lies.form; rw [HN.out] at hv1 ⊢; have hc2 := (hbe.block B (by omega)).trans HC1.out; have hz2 := hbe.size; rw [HZ1.out] at hz2; have hb3 := hbe.alloc hz2 (.cells #[.int .i64 (n : Int)] 3); have hc3 := (hb3.block B (by omega)).trans HC1.out; obtain ⟨⟨d0, d1, d2, d3⟩, f0, f1, f2, f3⟩ := cells4 hc3; have HC3 := Lib.hid hc3; have HB3 := Lib.hid hb3; clear hso hbe hb3 hc2 hc3)
        exact bodyPost_ret (res_wrap rfl _ rfl rfl (put4_heap HC3.out _ _ _ _) rfl) rfl (wq_err HE.out (by rw [HBQ.out]; exact put4_below (HB1.out.trans (HB3.out.mono (by omega))) (Nat.le_refl _) _ _ _ _))
      · skip
        obtain ⟨⟨th, eh⟩, m, ⟨tz, ez⟩, rfl⟩ := ends_of hl2
        have hok := (print_parse hpe' (by simpa using hs')).2
        obtain ⟨n, hn⟩ : ∃ n, (⟨th, eh⟩ :: (m ++ [⟨tz, ez⟩]) : List Seg).length = n := ⟨_, rfl⟩
        have hnm : n = m.length + 2 := by rw [← hn]; simp
        have HN := Lib.hid hn
        have HNM := Lib.hid hnm
        have HOK := Lib.hid hok
        have hn64 : n ≤ 64 := by rw [← hn]; exact hok.1
        have hn2 : 2 ≤ n := by omega
        have i2 : decide ((n : Int) < 2) = false := by rw [decide_eq_false_iff_not]; omega
        have en1 : (n : Int) - 1 = ((n - 1 : Nat) : Int) := by omega
        have i3 : (0 : Int) ≤ ((n - 1 : Nat) : Int) := by omega
        have i4 : ((n - 1 : Nat) : Int) < (n : Int) := by omega
        clear hn hok hnm hl2 hpe' hs'
        go_enter Tryz.func60, Tryz.ntmps60
        go_wp2_with ((go_at_call 100); refine (HPA.out _).mono ?_; rw [HZ1.out]; rintro e w2 ⟨v, rfl, hso, hbe⟩; have HSO := Lib.hid hso.lies; have HBE := Lib.hid hbe; obtain ⟨b, off, cap, xh, xz, rfl, hv1, hv2, hSb, ⟨g0, g1, g2, g3⟩, he, he'⟩ := pk_of hso.lies HN.out; have hz2 := hbe.size; rw [HZ1.out] at hz2; have hb3 := hbe.alloc hz2 (.cells #[.int .i64 (n : Int)] 3); have HPK : Hid (PK B w2.heap.size n b off th xh tz xz (w2.alloc (.cells #[.int .i64 (n : Int)] 3))) := Lib.hid ⟨(hb3.block B (by omega)).trans HC1.out, (by simp), ((Below.refl _ w2).alloc (Nat.le_refl _) _).cell (cell_lt' g0) |>.trans g0, ((Below.refl _ w2).alloc (Nat.le_refl _) _).cell (cell_lt' g1) |>.trans g1, ((Below.refl _ w2).alloc (Nat.le_refl _) _).cell (cell_lt' g2) |>.trans g2, ((Below.refl _ w2).alloc (Nat.le_refl _) _).cell (cell_lt' g3) |>.trans g3⟩; have HB3 := Lib.hid hb3; have HEH := Lib.hid he; have HEZ := Lib.hid he'; unfold maxLen at hv2; clear hso hbe he he' g0 g1 g2 g3 hb3 hSb; obtain ⟨p0, p1, p2, p3, p4, p5⟩ := HPK.out)
        have hvw := hv.on (HB1.out.trans (HB3.out.mono (by omega))) (by rw [HBQ.out]; exact Nat.le_refl _)
        have HBB : Hid (Below B w (w2.alloc (.cells #[.int .i64 (n : Int)] 3))) := Lib.hid (HB1.out.trans (HB3.out.mono (by omega)))
        have HSG : Hid (SegsAt (fun k => B + 1 ≤ k ∧ k < (w2.alloc (.cells #[.int .i64 (n : Int)] 3)).heap.size) (w2.alloc (.cells #[.int .i64 (n : Int)] 3)) (.slice (some ⟨b, off, none⟩) n cap) (⟨th, eh⟩ :: (m ++ [⟨tz, ez⟩]))) := Lib.hid (HSO.out.cong (fun k hk => ⟨by omega, by simp; omega⟩) (fun k hk => Below.heap_alloc _ _ _ hk.2))
        have HEH3 : Hid (ElemsAt (fun k => k < (w2.alloc (.cells #[.int .i64 (n : Int)] 3)).heap.size) (w2.alloc (.cells #[.int .i64 (n : Int)] 3)) xh eh) := Lib.hid (HEH.out.cong (fun k hk => by simp; omega) (fun k hk => Below.heap_alloc _ _ _ hk.2))
        have HEZ3 : Hid (ElemsAt (fun k => k < (w2.alloc (.cells #[.int .i64 (n : Int)] 3)).heap.size) (w2.alloc (.cells #[.int .i64 (n : Int)] 3)) xz ez) := Lib.hid (HEZ.out.cong (fun k hk => by simp; omega) (fun k hk => Below.heap_alloc _ _ _ hk.2))
        have HVW := Lib.hid hvw
        clear hvw HSO HBE HB3 HEH HEZ p0 p1 p2 p3 p4 p5 hz2 hv
        obtain ⟨N, hN⟩ : ∃ N, w2.heap.size = N := ⟨_, rfl⟩
        have hN3 : (w2.alloc (.cells #[.int .i64 (n : Int)] 3)).heap.size = N + 1 := by simp [hN]
        obtain ⟨w3, hw3⟩ : ∃ w3, w2.alloc (.cells #[.int .i64 (n : Int)] 3) = w3 := ⟨_, rfl⟩
        rw [hw3] at HBB HSG HEH3 HEZ3 HVW hN3 HPK ⊢
        rw [hN] at HPK ⊢
        have HN3 := Lib.hid hN3
        clear hN3 hN hw3
        have hBN : B ≤ w3.heap.size := by rw [← HBQ.out]; exact HBB.out.size
        by_cases h1 : th = unb ∧ eh.length = 3
        · skip
          refine (is_any w3 th xh eh HEH3.out _ _).mono ?_
          rw [decide_eq_true (by exact h1)]
          rintro e w4 ⟨rfl, hb4⟩
          have HK4 := Lib.hid (HPK.out.on hb4 (Nat.le_refl _))
          obtain ⟨p0, p1, p2, p3, p4, p5⟩ := HK4.out
          have HB4 := Lib.hid (HBB.out.trans (hb4.mono hBN))
          have HEZ4 := Lib.hid (HEZ3.out.cong (T := fun k => k < w4.heap.size) (w' := w4) (fun k hk => by have := hb4.size; omega) (fun k hk => hb4.block k hk))
          have HB34 := Lib.hid hb4
          clear hb4
          go_wp2_with fail
          refine (is_any w4 tz xz ez HEZ4.out _ _).mono ?_
          by_cases h2 : tz = unz ∧ ez.length = 2
          · skip
            rw [decide_eq_true (by exact h2)]
            rintro e w5 ⟨rfl, hb5⟩
            obtain ⟨e0, e1, e2, rfl⟩ : ∃ e0 e1 e2, eh = [e0, e1, e2] := by
              match eh, h1.2 with
              | [a, b, c], _ => exact ⟨a, b, c, rfl⟩
            obtain ⟨g0, g1, rfl⟩ : ∃ g0 g1, ez = [g0, g1] := by
              match ez, h2.2 with
              | [a, b], _ => exact ⟨a, b, rfl⟩
            obtain ⟨rfl, _⟩ := h1
            obtain ⟨rfl, _⟩ := h2
            obtain ⟨eb, eo, ec, zb, zo, zc, x0, x1, x2, y0, y1, rfl, hec1, hec2, rfl, hzc1, hzc2, hnk⟩ := nk_of HEH3.out HEZ3.out
            have nk3 := hnk
            have hb35 : Below w3.heap.size w3 w5 := HB34.out.trans (hb5.mono HB34.out.size)
            have HK5 := Lib.hid (HPK.out.on hb35 (Nat.le_refl _))
            have HNK5 := Lib.hid (hnk.on hb35 (Nat.le_refl _))
            have HB35 := Lib.hid hb35
            unfold maxLen at hec2 hzc2
            clear hb5 p0 p1 p2 p3 p4 p5 hnk hb35 HB34 HK4 HEZ4 HB4
            obtain ⟨p0, p1, p2, p3, p4, p5⟩ := HK5.out
            go_wp2_with fail
            go_quiet (fail)
            clear p0 p1 p2 p3 p4 p5
            have hb36 : Below w3.heap.size w3 (w5.drewN nq) := HB35.out.trans (Drew.below ⟨nq, rfl⟩ _)
            obtain ⟨w6, hw6⟩ : ∃ w6, w5.drewN nq = w6 := ⟨_, rfl⟩
            rw [hw6] at hb36 ⊢
            have HB36 := Lib.hid hb36
            have HVK6 : Hid (VK [] w6) := Lib.hid (fun p hp => by simp at hp)
            have hlen : ∀ e, e ∈ [e0, e1, e2, g0, g1] → ∀ p ∈ e, p.length ≤ 1048576 := fun e he p hp => by
              have h1 := HOK.out.2
              have h2 : p.length ≤ 256 := by
                simp only [List.mem_cons, List.not_mem_nil, or_false] at he
                rcases he with rfl | rfl | rfl | rfl | rfl
                · exact (((h1 ⟨unb, [e, e1, e2]⟩ (by simp)).2.2 e (by simp)).2.2 p hp).1
                · exact (((h1 ⟨unb, [e0, e, e2]⟩ (by simp)).2.2 e (by simp)).2.2 p hp).1
                · exact (((h1 ⟨unb, [e0, e1, e]⟩ (by simp)).2.2 e (by simp)).2.2 p hp).1
                · exact (((h1 ⟨unz, [e, g1]⟩ (by simp)).2.2 e (by simp)).2.2 p hp).1
                · exact (((h1 ⟨unz, [g0, e]⟩ (by simp)).2.2 e (by simp)).2.2 p hp).1
              omega
            have HLEN := Lib.hid hlen
            clear hlen hw6 hb36 HB35 HK5 HNK5
            have HNK3 := Lib.hid (nk3 : NK eb eo zb zo x0 x1 x2 y0 y1 e0 e1 e2 g0 g1 w3)
            clear nk3
            have c0 := (HNK3.out.on HB36.out (Nat.le_refl _)).c0
            go_wp2_with fail
            refine (num8_any w6 x0 e0 (HNK3.out.on HB36.out (Nat.le_refl _)).k0 (HLEN.out e0 (by simp)) (HVW.out.on HB36.out (Nat.le_refl _))).mono ?_
            rintro e w7 ⟨r0, b0, rfl, hq0, hb7⟩
            have hb37 : Below w3.heap.size w3 (w7.alloc (.cells #[.bool b0] 4)) := (HB36.out.trans (hb7.mono HB36.out.size)).alloc (Nat.le_trans HB36.out.size hb7.size) _
            have HQ0 := Lib.hid hq0
            have hvk7 : VK [(w7.heap.size, .bool b0)] (w7.alloc (.cells #[.bool b0] 4)) := ((HVK6.out.on hb7 (Nat.le_refl _)).alloc _).cons (by simp)
            have HVK7 := Lib.hid hvk7
            have HB37 := Lib.hid hb37
            clear hq0 hb7 hvk7 c0
            have c1 := (HNK3.out.on hb37 (Nat.le_refl _)).c1
            clear hb37
            go_wp2_with fail
            obtain ⟨P0, hP0⟩ : ∃ z, w7.heap.size = z := ⟨_, rfl⟩
            obtain ⟨w8, hw8⟩ : ∃ w8, w7.alloc (.cells #[.bool b0] 4) = w8 := ⟨_, rfl⟩
            rw [hP0] at HVK7 ⊢
            rw [hw8] at HVK7 HB37 c1 ⊢
            clear hP0 hw8 HVK6 c1
            refine (num8_any w8 x1 e1 (HNK3.out.on HB37.out (Nat.le_refl _)).k1 (HLEN.out e1 (by simp)) (HVW.out.on HB37.out (Nat.le_refl _))).mono ?_
            rintro e w9 ⟨r1, b1, rfl, hq1, hb9⟩
            have hb39 : Below w3.heap.size w3 (w9.alloc (.cells #[.bool b1] 4)) := (HB37.out.trans (hb9.mono HB37.out.size)).alloc (Nat.le_trans HB37.out.size hb9.size) _
            have HQ1 := Lib.hid hq1
            have hvk9 : VK [(w9.heap.size, .bool b1), (P0, .bool b0)] (w9.alloc (.cells #[.bool b1] 4)) := ((HVK7.out.on hb9 (Nat.le_refl _)).alloc _).cons (by simp)
            have HVK9 := Lib.hid hvk9
            have HB39 := Lib.hid hb39
            clear hq1 hb9 hvk9 HB37 HVK7 HB36
            have c2 := (HNK3.out.on hb39 (Nat.le_refl _)).c2
            clear hb39
            go_wp2_with fail
            obtain ⟨P1, hP1⟩ : ∃ z, w9.heap.size = z := ⟨_, rfl⟩
            obtain ⟨wa, hwa⟩ : ∃ wa, w9.alloc (.cells #[.bool b1] 4) = wa := ⟨_, rfl⟩
            rw [hP1] at HVK9 ⊢
            rw [hwa] at HVK9 HB39 c2 ⊢
            clear hP1 hwa c2
            refine (num64_any wa x2 e2 (HNK3.out.on HB39.out (Nat.le_refl _)).k2 (HLEN.out e2 (by simp)) (HVW.out.on HB39.out (Nat.le_refl _))).mono ?_
            rintro e wb ⟨r2, b2, rfl, hq2, hbb⟩
            have HBc' : Below w3.heap.size w3 ((wb.alloc (.cells #[.int .u64 r2] 22)).alloc (.cells #[.bool b2] 4)) := ((HB39.out.trans (hbb.mono HB39.out.size)).alloc (Nat.le_trans HB39.out.size hbb.size) _).alloc (by simp; exact Nat.le_trans (Nat.le_trans HB39.out.size hbb.size) (Nat.le_succ _)) _
            have HQ2 := Lib.hid hq2
            have hvkwb : VK ((wb.heap.size + 1, .bool b2) :: (wb.heap.size, .int .u64 r2) :: [(P1, .bool b1), (P0, .bool b0)]) ((wb.alloc (.cells #[.int .u64 r2] 22)).alloc (.cells #[.bool b2] 4)) := ((((HVK9.out.on hbb (Nat.le_refl _)).alloc _).cons (by simp)).alloc _).cons (by simp)
            have HVKc := Lib.hid hvkwb
            have HBc := Lib.hid HBc'
            have c3 := (HNK3.out.on HBc' (Nat.le_refl _)).c3
            clear hq2 hbb hvkwb HB39 HVK9 HBc'
            go_wp2_with fail
            obtain ⟨P2, hP2⟩ : ∃ z, wb.heap.size = z := ⟨_, rfl⟩
            obtain ⟨wc, hwc⟩ : ∃ wn, (wb.alloc (.cells #[.int .u64 r2] 22)).alloc (.cells #[.bool b2] 4) = wn := ⟨_, rfl⟩
            rw [hP2] at HVKc ⊢
            rw [hwc] at HVKc HBc c3 ⊢
            clear hP2 hwc c3
            refine (num64_any wc y0 g0 (HNK3.out.on HBc.out (Nat.le_refl _)).k3 (HLEN.out g0 (by simp)) (HVW.out.on HBc.out (Nat.le_refl _))).mono ?_
            rintro e wd ⟨r3, b3, rfl, hq3, hbwd⟩
            have HBe' : Below w3.heap.size w3 ((wd.alloc (.cells #[.int .u64 r3] 22)).alloc (.cells #[.bool b3] 4)) := ((HBc.out.trans (hbwd.mono HBc.out.size)).alloc (Nat.le_trans HBc.out.size hbwd.size) _).alloc (by simp; exact Nat.le_trans (Nat.le_trans HBc.out.size hbwd.size) (Nat.le_succ _)) _
            have HQ3 := Lib.hid hq3
            have hvkwd : VK ((wd.heap.size + 1, .bool b3) :: (wd.heap.size, .int .u64 r3) :: [(P2 + 1, .bool b2), (P2, .int .u64 r2), (P1, .bool b1), (P0, .bool b0)]) ((wd.alloc (.cells #[.int .u64 r3] 22)).alloc (.cells #[.bool b3] 4)) := ((((HVKc.out.on hbwd (Nat.le_refl _)).alloc _).cons (by simp)).alloc _).cons (by simp)
            have HVKe := Lib.hid hvkwd
            have HBe := Lib.hid HBe'
            have c4 := (HNK3.out.on HBe' (Nat.le_refl _)).c4
            clear hq3 hbwd hvkwd HBc HVKc HBe'
            go_wp2_with fail
            obtain ⟨P4, hP4⟩ : ∃ z, wd.heap.size = z := ⟨_, rfl⟩
            obtain ⟨we, hwe⟩ : ∃ wn, (wd.alloc (.cells #[.int .u64 r3] 22)).alloc (.cells #[.bool b3] 4) = wn := ⟨_, rfl⟩
            rw [hP4] at HVKe ⊢
            rw [hwe] at HVKe HBe c4 ⊢
            clear hP4 hwe c4
            refine (num64_any we y1 g1 (HNK3.out.on HBe.out (Nat.le_refl _)).k4 (HLEN.out g1 (by simp)) (HVW.out.on HBe.out (Nat.le_refl _))).mono ?_
            rintro e wf ⟨r4, b4, rfl, hq4, hbwf⟩
            have HBg' : Below w3.heap.size w3 ((wf.alloc (.cells #[.int .u64 r4] 22)).alloc (.cells #[.bool b4] 4)) := ((HBe.out.trans (hbwf.mono HBe.out.size)).alloc (Nat.le_trans HBe.out.size hbwf.size) _).alloc (by simp; exact Nat.le_trans (Nat.le_trans HBe.out.size hbwf.size) (Nat.le_succ _)) _
            have HQ4 := Lib.hid hq4
            have hvkwf : VK ((wf.heap.size + 1, .bool b4) :: (wf.heap.size, .int .u64 r4) :: [(P4 + 1, .bool b3), (P4, .int .u64 r3), (P2 + 1, .bool b2), (P2, .int .u64 r2), (P1, .bool b1), (P0, .bool b0)]) ((wf.alloc (.cells #[.int .u64 r4] 22)).alloc (.cells #[.bool b4] 4)) := ((((HVKe.out.on hbwf (Nat.le_refl _)).alloc _).cons (by simp)).alloc _).cons (by simp)
            have HVKg := Lib.hid hvkwf
            have HBg := Lib.hid HBg'
            clear hq4 hbwf hvkwf HBe HVKe HBg'
            go_wp2_with fail
            have hwgs : ((wf.alloc (.cells #[.int .u64 r4] 22)).alloc (.cells #[.bool b4] 4)).heap.size = wf.heap.size + 2 := by simp
            obtain ⟨P6, hP6⟩ : ∃ z, wf.heap.size = z := ⟨_, rfl⟩
            obtain ⟨wg, hwg⟩ : ∃ wn, (wf.alloc (.cells #[.int .u64 r4] 22)).alloc (.cells #[.bool b4] 4) = wn := ⟨_, rfl⟩
            rw [hP6] at HVKg hwgs ⊢
            rw [hwg] at HVKg HBg hwgs ⊢
            clear hP6 hwg
            obtain ⟨FS, hFS⟩ : ∃ FS : Array Value, FS = #[.func (.func 104) #[] #[.pointer (some ⟨P0, 0, none⟩), .pointer (some ⟨P1, 0, none⟩), .pointer (some ⟨P2 + 1, 0, none⟩), .pointer (some ⟨P4 + 1, 0, none⟩), .pointer (some ⟨P6 + 1, 0, none⟩)], .int .i64 40, .func (.func 105) #[] #[.pointer (some ⟨P4, 0, none⟩), .pointer (some ⟨N, 0, none⟩)], .int .i64 41, .func (.func 106) #[] #[.pointer (some ⟨P2, 0, none⟩), .pointer (some ⟨P6, 0, none⟩)], .int .i64 42] := ⟨_, rfl⟩
            rw [← hFS]
            have hT : (wg.alloc (.cells FS 185)).heap[P6 + 2]? = some (.cells FS 185 (0, 0)) := by rw [← hwgs]; exact heap_alloc_new _ _
            have hBz : Below w3.heap.size w3 (wg.alloc (.cells FS 185)) := HBg.out.alloc HBg.out.size _
            have hVz := HVKg.out.alloc (.cells FS 185)
            obtain ⟨wz, hwz⟩ : ∃ wz, wg.alloc (.cells FS 185) = wz := ⟨_, rfl⟩
            rw [hwz] at hT hBz hVz ⊢
            have HT := Lib.hid hT
            have HBz := Lib.hid hBz
            have HVz := Lib.hid hVz
            have HFS := Lib.hid hFS
            have HCT : ∀ (w' : World), Below wz.heap.size wz w' → ∀ (j : Nat) (x : Value), FS[j]? = some x → w'.cell? ⟨P6 + 2, j, none⟩ = some x := fun w' hb j x hx => by
              rw [cell_of_row w' (P6 + 2) j _ _ _ ((hb.block _ (Array.getElem?_eq_some_iff.1 HT.out).1).trans HT.out)]; exact hx
            have HCT := Lib.hid HCT
            have HPz := Lib.hid (HPK.out.on hBz (Nat.le_refl _))
            clear hT hBz hVz hwz hwgs hFS HVKg HBg
            refine wp_loop_rounds 4 ?_
            have HHT := Lib.hid (wrapHT_num (m := m) HQ0.out HQ1.out HQ2.out HQ3.out HQ4.out)
            clear HQ0 HQ1 HQ2 HQ3 HQ4 HEH3 HEZ3 HNK3 HLEN
            have t0 := HCT.out wz (Below.refl _ _) 0 _ (by rw [HFS.out]; rfl)
            have t1 := HCT.out wz (Below.refl _ _) 1 _ (by rw [HFS.out]; rfl)
            rw [rounds_succ]
            go_wp2_with fail
            clear t0 t1
            have hbr : Below wz.heap.size wz (wz.alloc (.cells #[(.func (.func 104) #[] #[.pointer (some ⟨P0, 0, none⟩), .pointer (some ⟨P1, 0, none⟩), .pointer (some ⟨P2 + 1, 0, none⟩), .pointer (some ⟨P4 + 1, 0, none⟩), .pointer (some ⟨P6 + 1, 0, none⟩)]), .int .i64 40] 185)) := ((Below.refl _ _)).alloc (Nat.le_refl _) _
            have hrow : (wz.alloc (.cells #[(.func (.func 104) #[] #[.pointer (some ⟨P0, 0, none⟩), .pointer (some ⟨P1, 0, none⟩), .pointer (some ⟨P2 + 1, 0, none⟩), .pointer (some ⟨P4 + 1, 0, none⟩), .pointer (some ⟨P6 + 1, 0, none⟩)]), .int .i64 40] 185)).heap[wz.heap.size]? = some (.cells #[(.func (.func 104) #[] #[.pointer (some ⟨P0, 0, none⟩), .pointer (some ⟨P1, 0, none⟩), .pointer (some ⟨P2 + 1, 0, none⟩), .pointer (some ⟨P4 + 1, 0, none⟩), .pointer (some ⟨P6 + 1, 0, none⟩)]), .int .i64 40] 185 (0, 0)) := heap_alloc_new _ _
            obtain ⟨R0, hR0⟩ : ∃ z, wz.heap.size = z := ⟨_, rfl⟩
            obtain ⟨wr0, hwr0⟩ : ∃ wn, wz.alloc (.cells #[(.func (.func 104) #[] #[.pointer (some ⟨P0, 0, none⟩), .pointer (some ⟨P1, 0, none⟩), .pointer (some ⟨P2 + 1, 0, none⟩), .pointer (some ⟨P4 + 1, 0, none⟩), .pointer (some ⟨P6 + 1, 0, none⟩)]), .int .i64 40] 185) = wn := ⟨_, rfl⟩
            have hRz : wz.heap.size ≤ R0 := by rw [← hR0]; exact Nat.le_refl _
            rw [hR0] at hrow ⊢
            rw [hwr0] at hbr hrow ⊢
            have HR0 := Lib.hid hbr
            have HRW0 := Lib.hid hrow
            clear hbr hrow hR0 hwr0
            have hV := HVz.out.on HR0.out (Nat.le_refl _)
            have hPn := (HPz.out.on HR0.out (Nat.le_refl _)).cn
            refine (p1_any wr0 (hV (P0, .bool b0) (by simp)) (hV (P1, .bool b1) (by simp)) (hV (P2 + 1, .bool b2) (by simp)) (hV (P4 + 1, .bool b3) (by simp)) (hV (P6 + 1, .bool b4) (by simp))).mono ?_
            clear hV hPn
            rintro e w' ⟨rfl, rfl⟩
            cases hall : (b0 && b1 && b2 && b3 && b4) with
            | false =>
              skip
              have hE : wrapParseE s.data.toList = (wd0, 40) := by
                rw [HWE.out, wrapOf_snoc]
                exact HHT.out.1 hall
              have HE := Lib.hid hE
              clear hE hall
              go_wp2_with fail
              have hk := (HPz.out.on HR0.out (Nat.le_refl _)).on ((Below.refl wr0.heap.size wr0).drew) (Nat.le_refl _)
              have hB6 : B < wz.heap.size := (Array.getElem?_eq_some_iff.1 HPz.out.res).1
              have c1 : wr0.drew.cell? ⟨R0, 1, none⟩ = some (.int .i64 40) := cell_of_row wr0.drew R0 1 _ _ _ HRW0.out
              refine wp_region_plan [(0, false), (1, false), (2, false), (3, true), (4, false)] (fun w' => w'.cell? ⟨R0, 1, none⟩ = some (.int .i64 40)) (by kernel_rfl) (by kernel_rfl) c1 ?_
              refine plan_val (v := .agg #[.int .u8 0, .int .u8 0, .int .u64 0, .slice none 0 0]) rfl rfl (fun w' hS => by first | rfl | kernel_rfl | go_simp) ?_
              simp only [Act.put, List.setIfInBounds_toArray, List.set_cons_zero, List.set_cons_succ]
              refine plan_val (v := .pointer (some ⟨R0, 1, none⟩)) rfl rfl (fun w' hS => by first | rfl | go_simp) ?_
              simp only [Act.put, List.setIfInBounds_toArray, List.set_cons_zero, List.set_cons_succ]
              refine plan_val (v := .int .i64 40) rfl rfl (fun w' hS => by have hS1 : w'.cell? ⟨R0, 1, none⟩ = some (.int .i64 40) := hS; go_simp) ?_
              simp only [Act.put, List.setIfInBounds_toArray, List.set_cons_zero, List.set_cons_succ]
              refine plan_do rfl (fun K hK => ?_)
              obtain ⟨⟨d0, d1, d2, d3⟩, f0, f1, f2, f3⟩ := cells4 (HPz.out.on HR0.out (Nat.le_refl _)).res
              go_wp2_with fail
              refine hK _ _ ((cell_ag (put4_other wr0.drew B _ _ _ _ (by omega))).trans c1) ?_
              clear hK K d0 d1 d2 d3 f0 f1 f2 f3
              refine plan_val (v := .int .i64 40) rfl rfl (fun w' hS => by first | rfl | go_simp) ?_
              simp only [Act.put, List.setIfInBounds_toArray, List.set_cons_zero, List.set_cons_succ]
              refine plan_nil ?_
              go_wp2_with fail
              exact bodyPost_ret (res_wrap rfl _ rfl rfl (put4_heap hk.res _ _ _ _) rfl) rfl (wq_err HE.out (by rw [HBQ.out]; exact put4_below (((HBB.out.trans (HBz.out.mono hBN)).trans (HR0.out.mono (Nat.le_trans hBN HBz.out.size))).drew) (Nat.le_refl _) _ _ _ _))
            | true =>
            obtain ⟨z0, z1, z2, z3, z4, ⟨rfl, rfl, rfl, rfl, rfl⟩, hz⟩ := HHT.out.2 hall
            have HZ := Lib.hid hz
            clear hz hall HHT
            go_wp2_with fail
            have t2 := HCT.out wr0 HR0.out 2 _ (by rw [HFS.out]; rfl)
            have t3 := HCT.out wr0 HR0.out 3 _ (by rw [HFS.out]; rfl)
            rw [rounds_succ]
            go_wp2_with fail
            clear t2 t3
            have hbr : Below wz.heap.size wz (wr0.alloc (.cells #[(.func (.func 105) #[] #[.pointer (some ⟨P4, 0, none⟩), .pointer (some ⟨N, 0, none⟩)]), .int .i64 41] 185)) := (HR0.out).alloc (HR0.out.size) _
            have hrow : (wr0.alloc (.cells #[(.func (.func 105) #[] #[.pointer (some ⟨P4, 0, none⟩), .pointer (some ⟨N, 0, none⟩)]), .int .i64 41] 185)).heap[wr0.heap.size]? = some (.cells #[(.func (.func 105) #[] #[.pointer (some ⟨P4, 0, none⟩), .pointer (some ⟨N, 0, none⟩)]), .int .i64 41] 185 (0, 0)) := heap_alloc_new _ _
            obtain ⟨R1, hR1⟩ : ∃ z, wr0.heap.size = z := ⟨_, rfl⟩
            obtain ⟨wr1, hwr1⟩ : ∃ wn, wr0.alloc (.cells #[(.func (.func 105) #[] #[.pointer (some ⟨P4, 0, none⟩), .pointer (some ⟨N, 0, none⟩)]), .int .i64 41] 185) = wn := ⟨_, rfl⟩
            have hRz : wz.heap.size ≤ R1 := by rw [← hR1]; exact HR0.out.size
            rw [hR1] at hrow ⊢
            rw [hwr1] at hbr hrow ⊢
            have HR1 := Lib.hid hbr
            have HRW1 := Lib.hid hrow
            clear hbr hrow hR1 hwr1
            have hV := HVz.out.on HR1.out (Nat.le_refl _)
            have hPn := (HPz.out.on HR1.out (Nat.le_refl _)).cn
            refine (p2_any wr1 hn2 hn64 (hV (P4, .int .u64 z3) (by simp)) hPn).mono ?_
            clear hV hPn
            rintro e w' ⟨rfl, rfl⟩
            cases hall : ((z3 : Int) == ((n - 2 : Nat) : Int)) with
            | false =>
              skip
              have hE : wrapParseE s.data.toList = (wd0, 41) := by
                rw [HWE.out, wrapOf_snoc]
                rw [HZ.out, if_pos]
                have h5 := HNM.out
                rw [beq_eq_false_iff_ne] at hall
                omega
              have HE := Lib.hid hE
              clear hE hall
              go_wp2_with fail
              have hk := (HPz.out.on HR1.out (Nat.le_refl _)).on ((Below.refl wr1.heap.size wr1).drew) (Nat.le_refl _)
              have hB6 : B < wz.heap.size := (Array.getElem?_eq_some_iff.1 HPz.out.res).1
              have c1 : wr1.drew.cell? ⟨R1, 1, none⟩ = some (.int .i64 41) := cell_of_row wr1.drew R1 1 _ _ _ HRW1.out
              refine wp_region_plan [(0, false), (1, false), (2, false), (3, true), (4, false)] (fun w' => w'.cell? ⟨R1, 1, none⟩ = some (.int .i64 41)) (by kernel_rfl) (by kernel_rfl) c1 ?_
              refine plan_val (v := .agg #[.int .u8 0, .int .u8 0, .int .u64 0, .slice none 0 0]) rfl rfl (fun w' hS => by first | rfl | kernel_rfl | go_simp) ?_
              simp only [Act.put, List.setIfInBounds_toArray, List.set_cons_zero, List.set_cons_succ]
              refine plan_val (v := .pointer (some ⟨R1, 1, none⟩)) rfl rfl (fun w' hS => by first | rfl | go_simp) ?_
              simp only [Act.put, List.setIfInBounds_toArray, List.set_cons_zero, List.set_cons_succ]
              refine plan_val (v := .int .i64 41) rfl rfl (fun w' hS => by have hS1 : w'.cell? ⟨R1, 1, none⟩ = some (.int .i64 41) := hS; go_simp) ?_
              simp only [Act.put, List.setIfInBounds_toArray, List.set_cons_zero, List.set_cons_succ]
              refine plan_do rfl (fun K hK => ?_)
              obtain ⟨⟨d0, d1, d2, d3⟩, f0, f1, f2, f3⟩ := cells4 (HPz.out.on HR1.out (Nat.le_refl _)).res
              go_wp2_with fail
              refine hK _ _ ((cell_ag (put4_other wr1.drew B _ _ _ _ (by omega))).trans c1) ?_
              clear hK K d0 d1 d2 d3 f0 f1 f2 f3
              refine plan_val (v := .int .i64 41) rfl rfl (fun w' hS => by first | rfl | go_simp) ?_
              simp only [Act.put, List.setIfInBounds_toArray, List.set_cons_zero, List.set_cons_succ]
              refine plan_nil ?_
              go_wp2_with fail
              exact bodyPost_ret (res_wrap rfl _ rfl rfl (put4_heap hk.res _ _ _ _) rfl) rfl (wq_err HE.out (by rw [HBQ.out]; exact put4_below (((HBB.out.trans (HBz.out.mono hBN)).trans (HR1.out.mono (Nat.le_trans hBN HBz.out.size))).drew) (Nat.le_refl _) _ _ _ _))
            | true =>
            have HC3 : Hid (z3 = m.length) := Lib.hid (by have h5 := HNM.out; rw [beq_iff_eq] at hall; omega)
            clear hall
            go_wp2_with fail
            have t4 := HCT.out wr1 HR1.out 4 _ (by rw [HFS.out]; rfl)
            have t5 := HCT.out wr1 HR1.out 5 _ (by rw [HFS.out]; rfl)
            rw [rounds_succ]
            go_wp2_with fail
            clear t4 t5
            have hbr : Below wz.heap.size wz (wr1.alloc (.cells #[(.func (.func 106) #[] #[.pointer (some ⟨P2, 0, none⟩), .pointer (some ⟨P6, 0, none⟩)]), .int .i64 42] 185)) := (HR1.out).alloc (HR1.out.size) _
            have hrow : (wr1.alloc (.cells #[(.func (.func 106) #[] #[.pointer (some ⟨P2, 0, none⟩), .pointer (some ⟨P6, 0, none⟩)]), .int .i64 42] 185)).heap[wr1.heap.size]? = some (.cells #[(.func (.func 106) #[] #[.pointer (some ⟨P2, 0, none⟩), .pointer (some ⟨P6, 0, none⟩)]), .int .i64 42] 185 (0, 0)) := heap_alloc_new _ _
            obtain ⟨R2, hR2⟩ : ∃ z, wr1.heap.size = z := ⟨_, rfl⟩
            obtain ⟨wr2, hwr2⟩ : ∃ wn, wr1.alloc (.cells #[(.func (.func 106) #[] #[.pointer (some ⟨P2, 0, none⟩), .pointer (some ⟨P6, 0, none⟩)]), .int .i64 42] 185) = wn := ⟨_, rfl⟩
            have hRz : wz.heap.size ≤ R2 := by rw [← hR2]; exact HR1.out.size
            rw [hR2] at hrow ⊢
            rw [hwr2] at hbr hrow ⊢
            have HR2 := Lib.hid hbr
            have HRW2 := Lib.hid hrow
            clear hbr hrow hR2 hwr2
            have hV := HVz.out.on HR2.out (Nat.le_refl _)
            have hPn := (HPz.out.on HR2.out (Nat.le_refl _)).cn
            refine (p3_any wr2 (hV (P2, .int .u64 z2) (by simp)) (hV (P6, .int .u64 z4) (by simp))).mono ?_
            clear hV hPn
            rintro e w' ⟨rfl, rfl⟩
            cases hall : ((z2 : Int) == (z4 : Int)) with
            | false =>
              skip
              have hE : wrapParseE s.data.toList = (wd0, 42) := by
                rw [HWE.out, wrapOf_snoc]
                rw [HZ.out, if_neg (by rw [HC3.out]; simp), if_pos]
                rw [beq_eq_false_iff_ne] at hall
                omega
              have HE := Lib.hid hE
              clear hE hall
              go_wp2_with fail
              have hk := (HPz.out.on HR2.out (Nat.le_refl _)).on ((Below.refl wr2.heap.size wr2).drew) (Nat.le_refl _)
              have hB6 : B < wz.heap.size := (Array.getElem?_eq_some_iff.1 HPz.out.res).1
              have c1 : wr2.drew.cell? ⟨R2, 1, none⟩ = some (.int .i64 42) := cell_of_row wr2.drew R2 1 _ _ _ HRW2.out
              refine wp_region_plan [(0, false), (1, false), (2, false), (3, true), (4, false)] (fun w' => w'.cell? ⟨R2, 1, none⟩ = some (.int .i64 42)) (by kernel_rfl) (by kernel_rfl) c1 ?_
              refine plan_val (v := .agg #[.int .u8 0, .int .u8 0, .int .u64 0, .slice none 0 0]) rfl rfl (fun w' hS => by first | rfl | kernel_rfl | go_simp) ?_
              simp only [Act.put, List.setIfInBounds_toArray, List.set_cons_zero, List.set_cons_succ]
              refine plan_val (v := .pointer (some ⟨R2, 1, none⟩)) rfl rfl (fun w' hS => by first | rfl | go_simp) ?_
              simp only [Act.put, List.setIfInBounds_toArray, List.set_cons_zero, List.set_cons_succ]
              refine plan_val (v := .int .i64 42) rfl rfl (fun w' hS => by have hS1 : w'.cell? ⟨R2, 1, none⟩ = some (.int .i64 42) := hS; go_simp) ?_
              simp only [Act.put, List.setIfInBounds_toArray, List.set_cons_zero, List.set_cons_succ]
              refine plan_do rfl (fun K hK => ?_)
              obtain ⟨⟨d0, d1, d2, d3⟩, f0, f1, f2, f3⟩ := cells4 (HPz.out.on HR2.out (Nat.le_refl _)).res
              go_wp2_with fail
              refine hK _ _ ((cell_ag (put4_other wr2.drew B _ _ _ _ (by omega))).trans c1) ?_
              clear hK K d0 d1 d2 d3 f0 f1 f2 f3
              refine plan_val (v := .int .i64 42) rfl rfl (fun w' hS => by first | rfl | go_simp) ?_
              simp only [Act.put, List.setIfInBounds_toArray, List.set_cons_zero, List.set_cons_succ]
              refine plan_nil ?_
              go_wp2_with fail
              exact bodyPost_ret (res_wrap rfl _ rfl rfl (put4_heap hk.res _ _ _ _) rfl) rfl (wq_err HE.out (by rw [HBQ.out]; exact put4_below (((HBB.out.trans (HBz.out.mono hBN)).trans (HR2.out.mono (Nat.le_trans hBN HBz.out.size))).drew) (Nat.le_refl _) _ _ _ _))
            | true =>
            have hE : wrapParseE s.data.toList = (⟨z0, z1, z2, m⟩, 0) := by
              rw [HWE.out, wrapOf_snoc, HZ.out, if_neg (by rw [HC3.out]; simp), if_neg]
              rw [beq_iff_eq] at hall
              omega
            have HE := Lib.hid hE
            clear hE hall
            go_wp2_with fail
            rw [rounds_succ]
            go_wp2_with fail
            have hk := (HPz.out.on HR2.out (Nat.le_refl _)).on ((Below.refl wr2.heap.size wr2).drew) (Nat.le_refl _)
            have hv := (HVz.out.on HR2.out (Nat.le_refl _)).on ((Below.refl wr2.heap.size wr2).drew) (Nat.le_refl _)
            have hB6 : B < wz.heap.size := (Array.getElem?_eq_some_iff.1 HPz.out.res).1
            have c1 : wr2.drew.cell? ⟨P2, 0, none⟩ = some (.int .u64 (z2 : Int)) := hv (P2, .int .u64 z2) (by simp)
            have c2 := hk.cn
            have hBP : B ≠ P2 := fun e => by
              have h1 := hv (P2, .int .u64 z2) (by simp)
              rw [← e] at h1
              have h2 := (cells4 hk.res).1.1
              rw [h2] at h1
              cases h1
            have hBN2 : B ≠ N := fun e => by
              have h1 := hk.cn
              rw [← e] at h1
              have h2 := (cells4 hk.res).1.1
              rw [h2] at h1
              cases h1
            have hwn : IntKind.i64.wrap (n : Int) = (n : Int) := IntWalk.i64_in _ (by omega)
            refine wp_region_plan [(0, false), (1, false), (2, false), (3, false), (4, false), (5, false), (6, false), (7, false), (8, false), (9, false), (10, true), (11, false)] (fun w' => w'.cell? ⟨P2, 0, none⟩ = some (.int .u64 (z2 : Int)) ∧ w'.cell? ⟨N, 0, none⟩ = some (.int .i64 (n : Int))) (by kernel_rfl) (by kernel_rfl) ⟨c1, c2⟩ ?_
            iterate 8 (refine' plan_val rfl rfl (fun w' hS => ?_) ?_; rotate_left; (focus (first | rfl | (obtain ⟨hS1, hS2⟩ := hS; go_simp; rfl))); simp only [Act.put, List.setIfInBounds_toArray, List.set_cons_zero, List.set_cons_succ])
            obtain ⟨sp, hsp⟩ : ∃ sp : Option Addr, (if n = 2 then some (⟨b, off, none⟩ : Addr) else some ⟨b, off + 2, none⟩) = sp := ⟨_, rfl⟩
            have HSP := Lib.hid hsp
            have hwn1 : IntKind.i64.wrap ((n - 1 : Nat) : Int) = ((n - 1 : Nat) : Int) := IntWalk.i64_in _ (by omega)
            refine plan_val (v := .slice sp (n - 1 - 1) (n - 1 - 1)) rfl rfl (fun w' hS => by
              go_simp
              first | rw [if_pos (by omega), if_pos (by omega), if_pos (by omega)] | (rw [if_pos (by omega), if_pos (by omega), if_pos (by omega), hsp])) ?_
            clear hsp
            simp only [Act.put, List.setIfInBounds_toArray, List.set_cons_zero, List.set_cons_succ]
            refine plan_val (v := .agg #[.int .u8 (z0 : Int), .int .u8 (z1 : Int), .int .u64 (z2 : Int), .slice sp (n - 1 - 1) (n - 1 - 1)]) rfl rfl (fun w' hS => by go_simp) ?_
            simp only [Act.put, List.setIfInBounds_toArray, List.set_cons_zero, List.set_cons_succ]
            refine plan_do rfl (fun K hK => ?_)
            obtain ⟨⟨d0, d1, d2, d3⟩, f0, f1, f2, f3⟩ := cells4 (HPz.out.on HR2.out (Nat.le_refl _)).res
            go_wp2_with fail
            refine hK _ _ ⟨(cell_ag (put4_other wr2.drew B _ _ _ _ (fun e => hBP e.symm))).trans c1, (cell_ag (put4_other wr2.drew B _ _ _ _ (fun e => hBN2 e.symm))).trans c2⟩ ?_
            clear hK K d0 d1 d2 d3 f0 f1 f2 f3
            refine plan_val (v := .int .i64 0) rfl rfl (fun w' hS => by first | rfl | go_simp) ?_
            simp only [Act.put, List.setIfInBounds_toArray, List.set_cons_zero, List.set_cons_succ]
            refine plan_nil ?_
            go_wp2_with fail
            refine bodyPost_ret (res_wrap rfl _ rfl rfl (put4_heap hk.res _ _ _ _) rfl) rfl ?_
            have hbz : Below B w wr2.drew := ((HBB.out.trans (HBz.out.mono hBN)).trans (HR2.out.mono (Nat.le_trans hBN HBz.out.size))).drew
            have h3r : Below w3.heap.size w3 wr2.drew := (HBz.out.trans (HR2.out.mono HBz.out.size)).drew
            unfold WParseQ
            rw [HE.out]
            refine ⟨_, rfl, ?_, by rw [HBQ.out]; exact put4_below hbz (Nat.le_refl _) _ _ _ _⟩
            have hsub := HSG.out.sub (lo := 1) (hi := n - 1) (c' := n - 1 - 1) (by omega) (by rw [HN.out]; omega) (Nat.le_refl _) (by unfold maxLen; omega)
            have hmid : ((⟨unb, [e0, e1, e2]⟩ :: (m ++ [⟨unz, [g0, g1]⟩]) : List Seg).take (n - 1)).drop 1 = m := by
              rw [show n - 1 = m.length + 1 by have := HNM.out; omega]
              simp
            rw [hmid, Nat.one_mul] at hsub
            have hfar : ∀ k, B + 1 ≤ k ∧ k < w3.heap.size → (put4 wr2.drew B (.int .u8 (z0 : Int)) (.int .u8 (z1 : Int)) (.int .u64 (z2 : Int)) (.slice sp (n - 1 - 1) (n - 1 - 1))).heap[k]? = w3.heap[k]? := fun k hk => (put4_other _ _ _ _ _ _ (by omega)).trans (h3r.block k hk.2)
            have h5 := HNM.out
            have h3s := h3r.size
            rw [← HSP.out]
            by_cases hm0 : n = 2
            · rw [if_pos hm0]
              have hmn : m = [] := List.length_eq_zero_iff.1 (by omega)
              subst hmn
              subst hm0
              exact ⟨some ⟨b, off, none⟩, 0, [], rfl, Nat.le_refl _, Nat.zero_le _, (fun e => by cases e), rfl, (fun i s x h => by simp at h), fun h => absurd rfl h⟩
            · rw [if_neg hm0]
              have h6 := put4_size wr2.drew B (.int .u8 (z0 : Int)) (.int .u8 (z1 : Int)) (.int .u64 (z2 : Int)) (.slice (some ⟨b, off + 2, none⟩) (n - 1 - 1) (n - 1 - 1))
              refine hsub.cong (fun k hk => ⟨by rw [HBQ.out]; omega, Nat.lt_of_lt_of_le (Nat.lt_of_lt_of_le hk.2 h3s) (Nat.le_of_eq h6.symm)⟩) (fun k hk => ?_)
              rw [← HSP.out, if_neg hm0] at hfar
              exact hfar k hk
          · skip
            have hE : wrapParseE s.data.toList = (wd0, 40) := by
              rw [HWE.out, wrapOf_snoc]
              unfold wrapHT
              have : numsW ⟨tz, ez⟩ unz 2 = none := by unfold numsW; rw [if_neg h2]
              rw [this]
              split
              · rename_i h; cases h
              · rfl
            have HE := Lib.hid hE
            clear hE
            rw [decide_eq_false (by exact h2)]
            rintro e w5 ⟨rfl, hb5⟩
            have hk5 := HK4.out.on hb5 (Nat.le_refl _)
            obtain ⟨⟨d0, d1, d2, d3⟩, f0, f1, f2, f3⟩ := cells4 hk5.res
            have HK5 := Lib.hid hk5
            have HB5 := Lib.hid (HB4.out.trans (hb5.mono (Nat.le_trans hBN HB34.out.size)))
            clear hk5 hb5 h1 h2 p0 p1 p2 p3 p4 p5
            go_wp2_with fail
            exact bodyPost_ret (res_wrap rfl _ rfl rfl (put4_heap HK5.out.res _ _ _ _) rfl) rfl (wq_err HE.out (by rw [HBQ.out]; exact put4_below HB5.out (Nat.le_refl _) _ _ _ _))
        · skip
          have hE : wrapParseE s.data.toList = (wd0, 40) := by
            rw [HWE.out, wrapOf_snoc]
            unfold wrapHT numsW
            rw [if_neg h1]
          have HE := Lib.hid hE
          clear hE
          refine (is_any w3 th xh eh HEH3.out _ _).mono ?_
          rw [decide_eq_false (by exact h1)]
          rintro e w4 ⟨rfl, hb4⟩
          have hk4 := HPK.out.on hb4 (Nat.le_refl _)
          obtain ⟨⟨d0, d1, d2, d3⟩, f0, f1, f2, f3⟩ := cells4 hk4.res
          have HK4 := Lib.hid hk4
          have HB4 := Lib.hid (HBB.out.trans (hb4.mono hBN))
          clear hk4 hb4 h1
          go_wp2_with fail
          exact bodyPost_ret (res_wrap rfl _ rfl rfl (put4_heap HK4.out.res _ _ _ _) rfl) rfl (wq_err HE.out (by rw [HBQ.out]; exact put4_below HB4.out (Nat.le_refl _) _ _ _ _))
    · skip
      clear hpe' hs'
      have dk : (k != 0) = true := by simpa using hk
      have hE : wrapParseE s.data.toList = (wd0, k) := by
        unfold wrapParseE
        rw [HPE.out, if_neg hk]
      have HE := Lib.hid hE
      clear hE hk
      go_enter Tryz.func60, Tryz.ntmps60
      go_wp2_with (go_at_call 100; refine (HPA.out _).mono ?_; rw [HZ1.out]; rintro e w2 ⟨v, rfl, hso, hbe⟩; have HSO := Lib.hid hso; have HBE := Lib.hid hbe; have hc2 := (hbe.block B (by omega)).trans HC1.out; obtain ⟨⟨d0, d1, d2, d3⟩, f0, f1, f2, f3⟩ := cells4 hc2; have HC2 := Lib.hid hc2; clear hso hbe hc2)
      exact bodyPost_ret (res_wrap rfl _ rfl rfl (put4_heap HC2.out _ _ _ _) rfl) rfl (wq_err HE.out (by rw [HBQ.out]; exact put4_below (HB1.out.trans (HBE.out.mono (by omega))) (Nat.le_refl _) _ _ _ _))
end Go.Proofs.YtgfijlamhjjecaaGreatDoor


namespace Go.Proofs.YtgfijlamhjjecaaGreatDoor
open Go.RowKit Go.ChangeShapes Go.WideShapes Go.Deep
abbrev Low (w : World) (k : Nat) : Prop := k < w.heap.size
section
variable {H : Type} {enc : TypeId × Value → H} {w : World} {base : Nat} {spare : Nat → Bool} {held : Bool}
instance : Inhabited Seg := ⟨⟨[], []⟩⟩
end
end Go.Proofs.YtgfijlamhjjecaaGreatDoor


namespace Go.Proofs.YtgfijlamhjjecaaGreatDoor
open Go.RowKit
def digC (d : Nat) : UInt8 := UInt8.ofNat (48 + d)
theorem dig_slice {d : Nat} (hd : d < 10) (W : World) : (Instr.slice 9 (.string ⟨#[48, 49, 50, 51, 52, 53, 54, 55, 56, 57]⟩) (some (.int .u64 (d : Int))) (some (.int .u64 ((d : Int) + 1))) none).run Tryz.prog W = .ok (.string ⟨#[digC d]⟩) W := by
  have h : ∀ n : Nat, n < 10 → (Instr.slice 9 (.string ⟨#[48, 49, 50, 51, 52, 53, 54, 55, 56, 57]⟩) (some (.int .u64 (n : Int))) (some (.int .u64 ((n : Int) + 1))) none).run Tryz.prog W = .ok (.string ⟨#[digC n]⟩) W := fun n hn => by
    match n, hn with
    | 0, _ => go_simp; rfl
    | 1, _ => go_simp; rfl
    | 2, _ => go_simp; rfl
    | 3, _ => go_simp; rfl
    | 4, _ => go_simp; rfl
    | 5, _ => go_simp; rfl
    | 6, _ => go_simp; rfl
    | 7, _ => go_simp; rfl
    | 8, _ => go_simp; rfl
    | 9, _ => go_simp; rfl
  exact h d hd
theorem dec_add {u : Nat} (h : ¬ u < 10) (hu : u < 18446744073709551616) (W : World) : (Op.stringOp .add ⟨(decT (u / 10)).toArray⟩ ⟨#[digC (u % 10)]⟩).run Tryz.prog W = .ok (.string ⟨(decT u).toArray⟩) W := by
  have h1 := dec_len20 (show u / 10 < 18446744073709551616 by omega)
  rw [run_string_add_sum _ _ _ (by simp [ByteArray.size]; omega), dec_step h]
  show Result.ok (Value.string ((⟨(decT (u / 10)).toArray⟩ : ByteArray) ++ ⟨[digC (u % 10)].toArray⟩)) W = _
  rw [ByteArray.mk_append_mk]; rfl
set_option maxRecDepth 100000 in
set_option maxHeartbeats 2000000 in
theorem rdec_any (u : Nat) : u < 18446744073709551616 → ∀ w : World, Calls Tryz.prog 25 #[.int .u64 (u : Int)] w fun e w' => e = .returned (.string ⟨(decT u).toArray⟩) ∧ ∃ d, w' = w.drewN d := by
  induction u using Nat.strongRecOn with
  | ind u ih =>
    intro hu w
    by_cases h : u < 10
    · have i1 : decide ((u : Int) < 10) = true := by rw [decide_eq_true_eq]; omega
      have hsl := dig_slice h
      have HE := Lib.hid (show decT u = [digC u] from dec_small h)
      have wr1 : IntKind.u64.wrap ((u : Int) + 1) = (u : Int) + 1 := by rw [IntKind.wrap_u64]; omega
      clear ih
      go_enter Tryz.func25, Tryz.ntmps25
      go_wp2_with fail
      go_ret
      exact ⟨by rw [HE.out]; rfl, 0, rfl⟩
    · have i1 : decide ((u : Int) < 10) = false := by rw [decide_eq_false_iff_not]; omega
      have IH := Lib.hid (ih (u / 10) (by omega) (by omega))
      have hadd := dec_add h hu
      have hsl := dig_slice (show u % 10 < 10 by omega)
      have q1 : (u : Int).tdiv 10 = ((u / 10 : Nat) : Int) := by rw [Int.tdiv_eq_ediv_of_nonneg (by omega)]; omega
      have q2 : (u : Int).tmod 10 = ((u % 10 : Nat) : Int) := by rw [Int.tmod_eq_emod_of_nonneg (by omega)]; omega
      have wr0 : IntKind.u64.wrap ((u / 10 : Nat) : Int) = ((u / 10 : Nat) : Int) := by rw [IntKind.wrap_u64]; omega
      have wr2 : IntKind.u64.wrap ((u % 10 : Nat) : Int) = ((u % 10 : Nat) : Int) := by rw [IntKind.wrap_u64]; omega
      have wr1 : IntKind.u64.wrap (((u % 10 : Nat) : Int) + 1) = ((u % 10 : Nat) : Int) + 1 := by rw [IntKind.wrap_u64]; omega
      obtain ⟨ds, hds⟩ : ∃ ds : ByteArray, (⟨(decT (u / 10)).toArray⟩ : ByteArray) = ds := ⟨_, rfl⟩
      rw [hds] at IH hadd
      obtain ⟨es, hes⟩ : ∃ ds : ByteArray, (⟨(decT u).toArray⟩ : ByteArray) = ds := ⟨_, rfl⟩
      simp only [hes] at hadd
      rw [hes]
      clear hds hes
      generalize u / 10 = q at *
      generalize u % 10 = r at *
      clear ih
      go_enter Tryz.func25, Tryz.ntmps25
      go_upto_region 3 with fail
      go_quiet (first | (go_at_call 25; refine Calls.quiet_of (IH.out _)))
      go_wp2_with fail
      go_ret
      exact ⟨rfl, _, rfl⟩
end Go.Proofs.YtgfijlamhjjecaaGreatDoor


namespace Go.Proofs.YtgfijlamhjjecaaGreatDoor
def padN : Nat → Nat → Str
  | 0, _ => []
  | w + 1, n => padN w (n / 10) ++ [digC (n % 10)]
def valF : Nat → Str → Nat
  | v, [] => v
  | v, c :: r => valF (v * 10 + (c.toNat - 48)) r
def valN (s : Str) : Nat := valF 0 s
theorem valF_append (a b : Str) : ∀ v : Nat, valF v (a ++ b) = valF (valF v a) b := by
  induction a with
  | nil => intro v; rfl
  | cons c a ih => intro v; exact ih _
theorem digC_nat {d : Nat} (h : d < 10) : (digC d).toNat = 48 + d := by unfold digC; exact (digB_of h).2
theorem digC_B {d : Nat} (h : d < 10) : digB (digC d) = true := by unfold digC; exact (digB_of h).1
theorem padN_len (w : Nat) : ∀ (n : Nat), (padN w n).length = w := by
  induction w with
  | zero => intro n; rfl
  | succ w ih =>
    intro n
    show (padN w (n / 10) ++ [digC (n % 10)]).length = _
    rw [List.length_append, ih]; rfl
theorem padN_digs (w : Nat) : ∀ (n : Nat), ∀ c ∈ padN w n, digB c = true := by
  induction w with
  | zero => intro n c h; simp [padN] at h
  | succ w ih =>
    intro n c h
    have h' : c ∈ padN w (n / 10) ++ [digC (n % 10)] := h
    rcases List.mem_append.1 h' with h | h
    · exact ih _ c h
    · rw [List.mem_singleton.1 h]; exact digC_B (Nat.mod_lt _ (by omega))
theorem valF_padN (w : Nat) : ∀ (n v : Nat), valF v (padN w n) = v * 10 ^ w + n % 10 ^ w := by
  induction w with
  | zero => intro n v; rw [Nat.pow_zero, Nat.mul_one, Nat.mod_one]; rfl
  | succ w ih =>
    intro n v
    show valF v (padN w (n / 10) ++ [digC (n % 10)]) = _
    rw [valF_append, ih]
    show (v * 10 ^ w + n / 10 % 10 ^ w) * 10 + ((digC (n % 10)).toNat - 48) = _
    rw [digC_nat (Nat.mod_lt _ (by omega))]
    have h2 : n % (10 * 10 ^ w) = n % 10 + 10 * (n / 10 % 10 ^ w) := Nat.mod_mul
    rw [Nat.pow_succ, Nat.mul_comm (10 ^ w) 10, h2]
    have h3 : v * (10 * 10 ^ w) = v * 10 ^ w * 10 := by rw [Nat.mul_comm 10, Nat.mul_assoc]
    omega
theorem padN_front (w : Nat) : ∀ (n : Nat), padN (w + 1) n = digC (n / 10 ^ w % 10) :: padN w n := by
  induction w with
  | zero => intro n; rw [Nat.pow_zero, Nat.div_one]; rfl
  | succ w ih =>
    intro n
    show padN (w + 1) (n / 10) ++ [digC (n % 10)] = _
    rw [ih (n / 10)]
    simp only [List.cons_append]
    rw [Nat.div_div_eq_div_mul, show 10 * 10 ^ w = 10 ^ (w + 1) by rw [Nat.pow_succ, Nat.mul_comm]]
    rfl
theorem padN_zero (w : Nat) : padN w 0 = List.replicate w 48 := by
  induction w with
  | zero => rfl
  | succ w ih =>
    rw [padN_front, ih, Nat.zero_div]
    rfl
theorem padN_dec : ∀ (w n : Nat), n < 10 ^ (w + 1) → padN (w + 1) n = List.replicate (w + 1 - (decT n).length) 48 ++ decT n := fun w => by
  induction w with
  | zero =>
    intro n h
    have h' : n < 10 := by simpa using h
    rw [dec_small h']
    simp [padN, digC, Nat.mod_eq_of_lt h']
  | succ w ih =>
    intro n h
    by_cases hn : n < 10
    · rw [dec_small hn]
      show padN (w + 1) (n / 10) ++ [digC (n % 10)] = _
      rw [Nat.div_eq_of_lt hn, padN_zero, Nat.mod_eq_of_lt hn]
      rfl
    · show padN (w + 1) (n / 10) ++ [digC (n % 10)] = _
      rw [ih (n / 10) (by rw [Nat.pow_succ] at h; omega), dec_step hn, List.append_assoc]
      simp only [List.length_append, List.length_singleton]
      rw [show w + 1 + 1 - ((decT (n / 10)).length + 1) = w + 1 - (decT (n / 10)).length by omega]
      rfl
def mayT (c s : Nat) : Bool := decide (c < 8) && decide (0 < s) && decide (s ≤ 9999999999)
def body7 (c s : Nat) : Str := padN 3 c ++ padN 10 s
def text7 (c s : Nat) : Str × Int := if mayT c s then (body7 c s ++ [digC ((c * 10000000000 + s) % 7)], 0) else ([], 1)
def parse7 (t : Str) : (Nat × Nat) × Int :=
  if t.length ≠ 14 ∨ ¬ t.all digB then ((0, 0), 90) else
  if valN t / 10 % 7 ≠ valN t % 10 then ((0, 0), 70) else
  if mayT (valN t / 100000000000) (valN t / 10 % 10000000000) then ((valN t / 100000000000, valN t / 10 % 10000000000), 0) else ((0, 0), 1)
theorem mayT_iff {c s : Nat} : mayT c s = true ↔ c < 8 ∧ 0 < s ∧ s ≤ 9999999999 := by unfold mayT; simp [and_assoc]
theorem body7_val {c s : Nat} (h : mayT c s = true) : valN (body7 c s) = c * 10000000000 + s := by
  obtain ⟨h1, h2, h3⟩ := mayT_iff.1 h
  unfold valN body7
  rw [valF_append, valF_padN, valF_padN, Nat.mod_eq_of_lt (show c < 10 ^ 3 by omega), Nat.mod_eq_of_lt (show s < 10 ^ 10 by omega)]
  omega
theorem body7_len (c s : Nat) : (body7 c s).length = 13 := by unfold body7; rw [List.length_append, padN_len, padN_len]
theorem body7_digs (c s : Nat) : ∀ d ∈ body7 c s, digB d = true := fun d hd => by
  unfold body7 at hd
  rcases List.mem_append.1 hd with h | h
  · exact padN_digs _ _ d h
  · exact padN_digs _ _ d h
theorem valN_snoc (s : Str) (c : UInt8) : valN (s ++ [c]) = valN s * 10 + (c.toNat - 48) := by
  unfold valN
  rw [valF_append]
  rfl
theorem digC_of {c : UInt8} (h : digB c = true) : digC (c.toNat - 48) = c ∧ c.toNat - 48 < 10 ∧ 48 ≤ c.toNat := by
  unfold digB at h
  rw [Bool.and_eq_true, decide_eq_true_eq, decide_eq_true_eq] at h
  refine ⟨?_, by omega, h.1⟩
  unfold digC
  rw [show 48 + (c.toNat - 48) = c.toNat by omega]
  exact UInt8.ofNat_toNat
theorem padN_valN : ∀ (w : Nat) {s : Str}, s.length = w → s.all digB = true → padN w (valN s) = s := fun w => by
  induction w with
  | zero =>
    intro s h _
    rw [List.eq_nil_of_length_eq_zero h]; rfl
  | succ w ih =>
    intro s h hd
    obtain ⟨r, c, rfl, hr⟩ := snoc_of h
    rw [List.all_append, Bool.and_eq_true] at hd
    have hc : digB c = true := by simpa using hd.2
    obtain ⟨e1, e2, e3⟩ := digC_of hc
    rw [valN_snoc]
    show padN w ((valN r * 10 + (c.toNat - 48)) / 10) ++ [digC ((valN r * 10 + (c.toNat - 48)) % 10)] = _
    rw [show (valN r * 10 + (c.toNat - 48)) / 10 = valN r by omega, show (valN r * 10 + (c.toNat - 48)) % 10 = c.toNat - 48 by omega, ih hr hd.1, e1]
theorem padN_mod (w : Nat) : ∀ (n : Nat), padN w (n % 10 ^ w) = padN w n := by
  induction w with
  | zero => intro n; rfl
  | succ w ih =>
    intro n
    show padN w (n % 10 ^ (w + 1) / 10) ++ [digC (n % 10 ^ (w + 1) % 10)] = padN w (n / 10) ++ [digC (n % 10)]
    have h2 : n % (10 * 10 ^ w) = n % 10 + 10 * (n / 10 % 10 ^ w) := Nat.mod_mul
    rw [Nat.pow_succ, Nat.mul_comm (10 ^ w) 10, h2, show (n % 10 + 10 * (n / 10 % 10 ^ w)) / 10 = n / 10 % 10 ^ w by omega, ih (n / 10), show (n % 10 + 10 * (n / 10 % 10 ^ w)) % 10 = n % 10 by omega]
theorem padN_add (a b : Nat) : ∀ (n : Nat), padN (a + b) n = padN a (n / 10 ^ b) ++ padN b n := by
  induction b with
  | zero => intro n; simp [padN]
  | succ b ih =>
    intro n
    show padN (a + b) (n / 10) ++ [digC (n % 10)] = padN a (n / 10 ^ (b + 1)) ++ (padN b (n / 10) ++ [digC (n % 10)])
    rw [ih (n / 10), Nat.div_div_eq_div_mul, show 10 * 10 ^ b = 10 ^ (b + 1) by rw [Nat.pow_succ, Nat.mul_comm], List.append_assoc]
theorem text_parse7 {t : Str} (h : ¬ (parse7 t).2 ≠ 0) : text7 (parse7 t).1.1 (parse7 t).1.2 = (t, 0) := by
  unfold parse7 at h ⊢
  split at h
  · exact absurd (by decide) h
  rename_i h1
  split at h
  · exact absurd (by decide) h
  rename_i h2
  split at h
  · rename_i h3
    rw [if_neg h1, if_neg h2, if_pos h3]
    simp only
    rw [not_or, Classical.not_not, Classical.not_not] at h1
    rw [Classical.not_not] at h2
    obtain ⟨r, c, rfl, hr⟩ := snoc_of h1.1
    have hd := h1.2
    rw [List.all_append, Bool.and_eq_true] at hd
    have hc : digB c = true := by simpa using hd.2
    obtain ⟨e1, e2, e3⟩ := digC_of hc
    rw [valN_snoc] at h2 h3 ⊢
    obtain ⟨V, hV⟩ : ∃ V, valN r = V := ⟨_, rfl⟩
    obtain ⟨d, hd'⟩ : ∃ d, c.toNat - 48 = d := ⟨_, rfl⟩
    rw [hV, hd'] at h2 h3 ⊢
    rw [hd'] at e1 e2
    have f1 : (V * 10 + d) / 10 = V := by omega
    have f2 : (V * 10 + d) % 10 = d := by omega
    have f3 : (V * 10 + d) / 100000000000 = V / 10000000000 := by
      rw [show (100000000000 : Nat) = 10 * 10000000000 from rfl, ← Nat.div_div_eq_div_mul, f1]
    rw [f1, f2] at h2
    rw [f1, f3] at h3 ⊢
    unfold text7
    rw [if_pos h3, show V / 10000000000 * 10000000000 + V % 10000000000 = V by omega, h2, e1]
    have g1 : body7 (V / 10000000000) (V % 10000000000) = r := by
      unfold body7
      have p1 := padN_add 3 10 V
      have p2 := padN_mod 10 V
      rw [show (10000000000 : Nat) = 10 ^ 10 from rfl, p2, ← p1, ← hV]
      exact padN_valN 13 hr hd.1
    rw [g1]
  · exact absurd (by decide) h
end Go.Proofs.YtgfijlamhjjecaaGreatDoor


namespace Go.Proofs.YtgfijlamhjjecaaGreatDoor
def sgnT (v : Int) : Str := if v < 0 then 45 :: decT v.natAbs else decT v.natAbs
def intW : Str → Option Int
  | [] => none
  | c :: r => if c = 45 then (match numW r with
      | some v => if v = 0 then none else some (-(v : Int))
      | none => none)
    else (match numW (c :: r) with
      | some v => some (v : Int)
      | none => none)
theorem intW_minus (r : Str) : intW (45 :: r) = (match numW r with
      | some v => if v = 0 then none else some (-(v : Int))
      | none => none) := by
  unfold intW
  simp
theorem intW_plain {c : UInt8} (r : Str) (hc : c ≠ 45) : intW (c :: r) = (match numW (c :: r) with
      | some v => some (v : Int)
      | none => none) := by
  unfold intW
  simp [hc]
def wholeE (s : Str) (lo hi : Int) : Option Int := match intW s with
  | some v => if lo ≤ v ∧ v ≤ hi then some v else none
  | none => none
theorem dec_ne45 (v : Nat) : ∃ c r, decT v = c :: r ∧ c ≠ 45 := by
  cases hd : decT v with
  | nil => exact absurd hd (dec_ne v)
  | cons c r =>
    refine ⟨c, r, rfl, ?_⟩
    rintro rfl
    have h := dec_digs v 45 (by rw [hd]; simp)
    exact absurd h (by decide)
theorem intW_sgn {v : Int} (h : v.natAbs < 18446744073709551616) : intW (sgnT v) = some v := by
  unfold sgnT
  by_cases hv : v < 0
  · rw [if_pos hv]
    rw [intW_minus, num_dec h]
    simp only
    rw [if_neg (by omega)]
    congr 1; omega
  · rw [if_neg hv]
    obtain ⟨c, r, hd, hc⟩ := dec_ne45 v.natAbs
    rw [hd]
    rw [intW_plain r hc, ← hd, num_dec h]
    simp only [Option.some.injEq]
    omega
theorem intW_inj {s : Str} {v : Int} (h : intW s = some v) : s = sgnT v ∧ v.natAbs < 18446744073709551616 := by
  cases s with
  | nil => cases h
  | cons c r =>
    by_cases hc : c = 45
    · subst hc
      rw [intW_minus] at h
      cases hn : numW r with
      | none => rw [hn] at h; cases h
      | some u =>
        rw [hn] at h
        simp only at h
        by_cases h0 : u = 0
        · rw [if_pos h0] at h; cases h
        · rw [if_neg h0] at h
          cases h
          have hu := num_lt hn
          unfold sgnT
          rw [if_pos (by omega), num_inj hn, show (-(u : Int)).natAbs = u by omega]
          exact ⟨rfl, hu⟩
    · rw [intW_plain r hc] at h
      cases hn : numW (c :: r) with
      | none => rw [hn] at h; cases h
      | some u =>
        rw [hn] at h
        simp only [Option.some.injEq] at h
        subst h
        unfold sgnT
        rw [if_neg (by omega), num_inj hn, show ((u : Int)).natAbs = u by omega]
        exact ⟨rfl, num_lt hn⟩
theorem whole_iff {s : Str} {lo hi v : Int} (h1 : -9223372036854775808 ≤ lo) (h2 : hi ≤ 9223372036854775807) : wholeE s lo hi = some v ↔ s = sgnT v ∧ lo ≤ v ∧ v ≤ hi := by
  unfold wholeE
  constructor
  · intro h
    cases hi' : intW s with
    | none => rw [hi'] at h; cases h
    | some u =>
      rw [hi'] at h
      simp only at h
      split at h
      · rename_i hb
        cases h
        exact ⟨(intW_inj hi').1, hb⟩
      · cases h
  · rintro ⟨rfl, h3, h4⟩
    rw [intW_sgn (by omega)]
    simp only
    rw [if_pos ⟨h3, h4⟩]
def wholePI (s : Str) (lo hi : Int) : Option Int := match Lib.parseIntB 64 s with
  | .ok v => if s.head? = some 43 ∨ ((if s.head? = some 45 then s.tail else s).head? = some 48 ∧ s ≠ [48]) ∨ v < lo ∨ hi < v then none else some v
  | _ => none
def okI : Lib.NumEnd Int → Option Int
  | .ok v => some v
  | _ => none
theorem numEnd_signless (x : Lib.NumEnd Nat) : okI (Lib.signlessC 9223372036854775808 x) = (match numEnd x with | some u => if 9223372036854775808 ≤ u then none else some (u : Int) | none => none) := by
  cases x with
  | ok u =>
    simp only [Lib.signlessC, numEnd]
    by_cases h : 9223372036854775808 ≤ u
    · rw [if_pos h, if_pos h]; rfl
    · rw [if_neg h, if_neg h]; rfl
  | _ => rfl
theorem numEnd_signed (x : Lib.NumEnd Nat) : okI (Lib.signedC 9223372036854775808 x) = (match numEnd x with | some u => if 9223372036854775808 < u then none else some (-(u : Int)) | none => none) := by
  cases x with
  | ok u =>
    simp only [Lib.signedC, numEnd]
    by_cases h : 9223372036854775808 < u
    · rw [if_pos h, if_pos h]; rfl
    · rw [if_neg h, if_neg h]; rfl
  | _ => rfl
theorem wholePI_eq (s : Str) (lo hi : Int) : wholePI s lo hi = (match okI (Lib.parseIntB 64 s) with
    | some v => if s.head? = some 43 ∨ ((if s.head? = some 45 then s.tail else s).head? = some 48 ∧ s ≠ [48]) ∨ v < lo ∨ hi < v then none else some v
    | none => none) := by
  unfold wholePI
  cases Lib.parseIntB 64 s <;> rfl
theorem num_48 {r : Str} {u : Nat} (hn : numW (48 :: r) = some u) : u = 0 ∧ r = [] := by
  unfold numW at hn
  simp only at hn
  split at hn
  · cases hn
  · rename_i h
    have hr : r = [] := Classical.byContradiction fun h0 => h ⟨trivial, h0⟩
    subst hr
    have e : valW 0 [48] = some 0 := rfl
    rw [e] at hn
    cases hn
    exact ⟨rfl, rfl⟩
theorem whole_pi {s : Str} {lo hi : Int} (h1 : -9223372036854775808 ≤ lo) (h2 : hi ≤ 9223372036854775807) : wholePI s lo hi = wholeE s lo hi := by
  rw [wholePI_eq]
  unfold wholeE
  cases s with
  | nil => rfl
  | cons c r =>
    by_cases hc : c = 45
    · subst hc
      rw [Lib.parseIntB_minus, intW_minus]
      show (match okI (Lib.signedC 9223372036854775808 (Lib.parseUintB 64 r)) with
        | some v => if some (45 : UInt8) = some 43 ∨ ((if some (45 : UInt8) = some 45 then r else 45 :: r).head? = some 48 ∧ (45 :: r) ≠ [48]) ∨ v < lo ∨ hi < v then none else some v
        | none => none) = _
      rw [numEnd_signed, if_pos rfl]
      cases r with
      | nil => rfl
      | cons d r =>
        by_cases hd : d = 48
        · subst hd
          have hL : (match numW (48 :: r) with | some v => if v = 0 then none else some (-(v : Int)) | none => none) = (none : Option Int) := by
            cases hn : numW (48 :: r) with
            | none => rfl
            | some u => obtain ⟨rfl, _⟩ := num_48 hn; rfl
          rw [hL]
          simp only
          split
          · rename_i v _
            rw [if_pos (by simp)]
          · rfl
        · rw [num_pu (by simp) (by rintro ⟨h, _⟩; simp at h; exact hd h)]
          cases hn : numW (d :: r) with
          | none => rfl
          | some u =>
            have hu : u ≠ 0 := by
              rintro rfl
              have h3 := num_inj hn
              rw [dec_small (by omega)] at h3
              injection h3 with h4 _
              exact hd h4
            simp only
            rw [if_neg hu]
            simp only
            by_cases hb : 9223372036854775808 < u
            · rw [if_pos hb, if_neg (by omega)]
            · rw [if_neg hb]
              simp only
              by_cases hr : lo ≤ -(u : Int) ∧ -(u : Int) ≤ hi
              · rw [if_pos hr, if_neg]
                rintro (h | ⟨h, _⟩ | h | h)
                · simp at h
                · simp at h; exact hd h
                · omega
                · omega
              · rw [if_neg hr, if_pos]
                by_cases h : -(u : Int) < lo
                · exact .inr (.inr (.inl h))
                · exact .inr (.inr (.inr (by omega)))
    · rw [intW_plain r hc]
      by_cases hp : c = 43
      · subst hp
        have hn : numW (43 :: r) = none := num_plus (s := 43 :: r) rfl
        rw [hn]
        simp only
        split
        · rw [if_pos (.inl rfl)]
        · rfl
      · have e1 : c.toNat ≠ 43 := fun e => hp (UInt8.toNat_inj.1 e)
        have e2 : c.toNat ≠ 45 := fun e => hc (UInt8.toNat_inj.1 e)
        rw [Lib.parseIntB_plain _ _ _ e1 e2]
        show (match okI (Lib.signlessC 9223372036854775808 (Lib.parseUintB 64 (c :: r))) with
          | some v => if some c = some 43 ∨ ((if some c = some 45 then r else c :: r).head? = some 48 ∧ (c :: r) ≠ [48]) ∨ v < lo ∨ hi < v then none else some v
          | none => none) = _
        rw [numEnd_signless, if_neg (by simpa using hc)]
        by_cases hz : c = 48 ∧ r ≠ []
        · obtain ⟨rfl, hr⟩ := hz
          have hn : numW (48 :: r) = none := num_zero (s := 48 :: r) ⟨rfl, by
            have := List.length_pos_iff.2 hr
            simp; omega⟩
          rw [hn]
          simp only
          split
          · rw [if_pos (by simp [hr])]
          · rfl
        · rw [num_pu (by simp) (by
            rintro ⟨h, hl⟩
            simp at h
            exact hz ⟨h, by rintro rfl; simp at hl⟩)]
          cases hn : numW (c :: r) with
          | none => rfl
          | some u =>
            simp only
            by_cases hb : 9223372036854775808 ≤ u
            · rw [if_pos hb, if_neg (by omega)]
            · rw [if_neg hb]
              simp only
              by_cases hr : lo ≤ (u : Int) ∧ (u : Int) ≤ hi
              · rw [if_pos hr, if_neg]
                rintro (h | ⟨h, h'⟩ | h | h)
                · simp at h; exact hp h
                · simp at h
                  subst h
                  obtain ⟨_, hr'⟩ := num_48 hn
                  exact h' (by rw [hr'])
                · omega
                · omega
              · rw [if_neg hr, if_pos]
                by_cases h : (u : Int) < lo
                · exact .inr (.inr (.inl h))
                · exact .inr (.inr (.inr (by omega)))
end Go.Proofs.YtgfijlamhjjecaaGreatDoor


namespace Go.Proofs.YtgfijlamhjjecaaGreatDoor
structure CD where
  car : Nat
  fl : Nat
  we : Nat
  va : Int
  st : Nat
  no : Nat
structure MD where
  kind : Nat
  tc : Nat
  ts : Nat
  pl : Nat
  c : CD
  am : Int
  co : Int
structure PD where
  fr : Nat
  dst : Nat
  ack : Bool
  num : Nat
  m : MD
def cd0 : CD := ⟨0, 0, 0, 0, 0, 0⟩
def md0 : MD := ⟨0, 0, 0, 0, cd0, 0, 0⟩
def pd0 : PD := ⟨0, 0, false, 0, md0⟩
def hasK (k : Nat) : Option (Bool × Bool × Bool) :=
  if k = 1 ∨ k = 4 then some (false, false, false) else if k = 2 ∨ k = 5 then some (true, false, false) else if k = 3 then some (false, false, true)
  else if k = 6 ∨ k = 7 then some (false, true, false) else if k = 8 then some (false, true, true) else none
abbrev M50 : Int := 1125899906842624
def cpnB : List (Int × Int) := [(0, 7), (0, 65535), (0, 4294967295), (-M50, M50), (1, 7), (0, 4294967295)]
def amtB : List (Int × Int) := [(-M50, M50)]
def codB : List (Int × Int) := [(0, 999)]
def tMSG : Str := [77, 83, 71]
def tKEY : Str := [75, 69, 89]
def tACK : Str := [65, 67, 75]
def tCPN : Str := [67, 80, 78]
def tAMT : Str := [65, 77, 84]
def tCOD : Str := [67, 79, 68]
def partsB (h : Bool × Bool × Bool) : List (Str × List (Int × Int)) :=
  (if h.1 then [(tCPN, cpnB)] else []) ++ (if h.2.1 then [(tAMT, amtB)] else []) ++ (if h.2.2 then [(tCOD, codB)] else [])
def valsB (h : Bool × Bool × Bool) (m : MD) : List (List Int) :=
  (if h.1 then [[(m.c.car : Int), m.c.fl, m.c.we, m.c.va, m.c.st, m.c.no]] else []) ++ (if h.2.1 then [[m.am]] else []) ++ (if h.2.2 then [[m.co]] else [])
def wordSeg (t : Str) (l : List Str) : Seg := ⟨t, l.map fun w => [w]⟩
def partSeg (t : Str) (l : List Int) : Seg := wordSeg t (l.map sgnT)
def inB : List (Int × Int) → List Int → Bool
  | [], [] => true
  | b :: bs, v :: vs => decide (b.1 ≤ v) && decide (v ≤ b.2) && inB bs vs
  | _, _ => false
def inBB : List (Str × List (Int × Int)) → List (List Int) → Bool
  | [], [] => true
  | p :: ps, v :: vs => inB p.2 v && inBB ps vs
  | _, _ => false
def c0B (c : CD) : Bool := decide (c.car = 0) && decide (c.fl = 0) && decide (c.we = 0) && decide (c.va = 0) && decide (c.st = 0) && decide (c.no = 0)
def m0B (m : MD) : Bool := decide (m.kind = 0) && decide (m.tc = 0) && decide (m.ts = 0) && decide (m.pl = 0) && c0B m.c && decide (m.am = 0) && decide (m.co = 0)
def mayM (h : Bool × Bool × Bool) (m : MD) : Bool :=
  decide (m.pl < 4) && inBB (partsB h) (valsB h m) && (h.1 || c0B m.c) && (h.2.1 || decide (m.am = 0)) && (h.2.2 || decide (m.co = 0))
def msgSegs (h : Bool × Bool × Bool) (m : MD) (t : Str) : List Seg :=
  partSeg tMSG [(m.kind : Int)] :: wordSeg tKEY [t, sgnT (m.pl : Int)] :: ((partsB h).zip (valsB h m)).map fun p => partSeg p.1.1 p.2
def wrapM (p : PD) : WD × Int :=
  if 8 ≤ p.fr ∨ 8 ≤ p.dst then (wd0, 1) else
  if p.ack then (if m0B p.m then (⟨p.fr, p.dst, p.num, [wordSeg tACK []]⟩, 0) else (wd0, 101)) else
  match hasK p.m.kind with
  | none => (wd0, 100)
  | some h =>
    if (text7 p.m.tc p.m.ts).2 ≠ 0 then (wd0, (text7 p.m.tc p.m.ts).2) else
    if mayM h p.m then (⟨p.fr, p.dst, p.num, msgSegs h p.m (text7 p.m.tc p.m.ts).1⟩, 0) else (wd0, 101)
def oneW : List Str → Option Str
  | [s] => some s
  | _ => none
def wordsL : List (List Str) → Option (List Str)
  | [] => some []
  | e :: es => match oneW e, wordsL es with
    | some v, some l => some (v :: l)
    | _, _ => none
def wordsS (s : Seg) (t : Str) (n : Nat) : Option (List Str) := if s.tag = t ∧ s.elems.length = n then wordsL s.elems else none
def wholeL : List (Int × Int) → List Str → Option (List Int)
  | [], [] => some []
  | b :: bs, s :: ss => match wholeE s b.1 b.2, wholeL bs ss with
    | some v, some l => some (v :: l)
    | _, _ => none
  | _, _ => none
def partR (p : Str × List (Int × Int)) (s : Seg) : Option (List Int) := match wordsS s p.1 p.2.length with
  | some l => wholeL p.2 l
  | none => none
def partsR : List (Str × List (Int × Int)) → List Seg → Option (List (List Int))
  | [], [] => some []
  | p :: ps, s :: ss => match partR p s, partsR ps ss with
    | some v, some l => some (v :: l)
    | _, _ => none
  | _, _ => none
def cdOf : List Int → CD
  | [a, b, c, d, e, f] => ⟨a.toNat, b.toNat, c.toNat, d, e.toNat, f.toNat⟩
  | _ => cd0
def mdOf (h : Bool × Bool × Bool) (k c s a : Nat) (vs : List (List Int)) : MD :=
  match h, vs with
  | (false, false, false), _ => ⟨k, c, s, a, cd0, 0, 0⟩
  | (true, false, false), [v] => ⟨k, c, s, a, cdOf v, 0, 0⟩
  | (false, true, false), [[v]] => ⟨k, c, s, a, cd0, v, 0⟩
  | (false, false, true), [[v]] => ⟨k, c, s, a, cd0, 0, v⟩
  | (false, true, true), [[v], [u]] => ⟨k, c, s, a, cd0, v, u⟩
  | _, _ => md0
def ackS (s : Seg) : Bool := decide (s.tag = tACK) && s.elems.isEmpty
def packetM (x : WD) : PD × Int :=
  if 8 ≤ x.fr ∨ 8 ≤ x.dst then (pd0, 1) else
  match x.segs with
  | [] => (pd0, 100)
  | s :: r =>
    if ackS s then (if r = [] then (⟨x.fr, x.dst, true, x.rf, md0⟩, 0) else (pd0, 101)) else
    match (wordsS s tMSG 1).bind fun l => wholeL [(0, 255)] l with
    | some [k] =>
      (match hasK k.toNat with
      | none => (pd0, 100)
      | some h => match r with
        | [] => (pd0, 101)
        | y :: r => match wordsS y tKEY 2 with
          | some [t, u] =>
            if (parse7 t).2 ≠ 0 then (pd0, (parse7 t).2) else
            (match wholeE u 0 3, partsR (partsB h) r with
            | some a, some vs => (⟨x.fr, x.dst, false, x.rf, mdOf h k.toNat (parse7 t).1.1 (parse7 t).1.2 a.toNat vs⟩, 0)
            | _, _ => (pd0, 101))
          | _ => (pd0, 101))
    | _ => (pd0, 100)
end Go.Proofs.YtgfijlamhjjecaaGreatDoor

