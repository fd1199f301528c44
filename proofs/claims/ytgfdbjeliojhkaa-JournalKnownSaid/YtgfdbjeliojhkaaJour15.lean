/-
  Jour15: contract of Open. No condition beyond those stated.
-/
import Derived.Test.YtgfdbjeliojhkaaJour14
namespace Go.Proofs.Ytgfdbjeliojhkaa
open Go.RowKit Go.Shelf
theorem own_slice {w : World} {B m : Nat} {v : Value} {f : Sec} (h : w.ownsRow B 5 1 v m (rowL m f)) (hm : 0 < m) : ∃ g cap, v = .slice (some ⟨g, 0, none⟩) m cap ∧ B ≤ g ∧ g < w.heap.size ∧ m ≤ cap ∧ cap ≤ maxLen ∧ w.rangeAt g 0 (rowL m f) ∧ ∃ C, w.heap[g]? = some (.cells C 5 (0, 0)) := by
  have h1 : OwnB w B v (secL m f) := by
    unfold OwnB; rw [secL_len, ← rowL_secL]; exact h
  obtain ⟨g, cap, h2, h3, h4, h5, h6, h7, h8⟩ := h1.slice (by intro e; have := congrArg List.length e; rw [secL_len] at this; simp at this; omega)
  rw [secL_len] at h2 h5 h7
  exact ⟨g, cap, h2, h3, h4, h5, h6, by rw [rowL_congr (fun j hj => lsec_secL f hj)] at h7; exact h7, h8⟩
/-- the sectors of the heads -/
def hd0 (D : DK) : Sec := fun j => D.now (64 * 0 + j)
def hd1 (D : DK) : Sec := fun j => D.now (64 * 1 + j)
def dat (D : DK) : Sec := fun j => D.now (64 * 2 + j)
theorem heap3 (w : World) (o o' o'' : Obj) : ((((w.alloc o).alloc o').alloc o'').heap[w.heap.size]? = some o ∧ (((w.alloc o).alloc o').alloc o'').heap[w.heap.size + 1]? = some o') ∧ (((w.alloc o).alloc o').alloc o'').heap[w.heap.size + 2]? = some o'' :=
  ⟨⟨heap3_0 w o o' o'', heap3_1 w o o' o''⟩, heap3_2 w o o' o''⟩
theorem okH_le {f : Sec} {room : Nat} (h : okH f room = true) : hL f ≤ room := by unfold okH at h; simp at h; exact h.2
/-- the head that is taken: its number, its length -/
def pickF (D : DK) : Option (Nat × Nat) :=
  if okH (hd0 D) ((D.n - 2) * 64) = true then (if okH (hd1 D) ((D.n - 2) * 64) = true ∧ hN (hd0 D) < hN (hd1 D) then some (hN (hd1 D), hL (hd1 D)) else some (hN (hd0 D), hL (hd0 D)))
  else if okH (hd1 D) ((D.n - 2) * 64) = true then some (hN (hd1 D), hL (hd1 D)) else none
/-- what a disk opens as -/
def openD (D : DK) : Option (Nat × List UInt8) := match pickF D with
  | none => none
  | some (N, L) => if recs (secL L (dat D)) = none then none else some (N, secL L (dat D))
/-- what Open answers -/
def OpenR (w w' : World) (db : Nat) (o : Option (Nat × List UInt8)) (e : Ending) : Prop := match o with
  | none => e = .returned (.tuple #[.pointer none, .int .i64 130])
  | some (N, d) => ∃ jb, e = .returned (.tuple #[.pointer (some ⟨jb, 0, none⟩), .int .i64 0]) ∧ JAt w' jb db N d false ∧ w.heap.size ≤ jb
theorem cells_ret {w : World} {b : Nat} {v0 u0 : Value} {t s : TypeId} (h2 : w.heap[b]? = some (.cells #[v0] t (0, 0))) (h3 : w.heap[b + 1]? = some (.cells #[u0] s (0, 0))) (v u : Value) : ((w.setCell ⟨b, 0, none⟩ v).setCell ⟨b + 1, 0, none⟩ u).heap[b]? = some (.cells #[v] t (0, 0)) ∧ ((w.setCell ⟨b, 0, none⟩ v).setCell ⟨b + 1, 0, none⟩ u).heap[b + 1]? = some (.cells #[u] s (0, 0)) ∧ Fr [b, b + 1] w ((w.setCell ⟨b, 0, none⟩ v).setCell ⟨b + 1, 0, none⟩ u) := by
  have e3 : (w.setCell ⟨b, 0, none⟩ v).heap[b + 1]? = some (.cells #[u0] s (0, 0)) := (heap_setCell_other w _ _ _ (by show b + 1 ≠ b; omega)).trans h3
  refine ⟨(heap_setCell_other _ _ _ _ (by show b ≠ b + 1; omega)).trans (by rw [heap_setCell_same w b 0 _ _ _ h2]; rfl), by rw [heap_setCell_same _ (b + 1) 0 _ _ _ e3]; rfl, (Fr.setCell _ (by simp) _).trans (Fr.setCell _ (by simp) _)⟩
structure OW (w : World) (b db lb mb : Nat) (D : DK) (N : Nat) : Prop where
  h2 : w.heap[b]? = some (.cells #[.pointer none] 47 (0, 0))
  h3 : w.heap[b + 1]? = some (.cells #[.int .i64 0] 26 (0, 0))
  hj : w.heap[b + 2]? = some (.cells #[.pointer (some ⟨db, 0, none⟩), .int .u64 (N : Int), .slice none 0 0, .bool false] 75 (0, 0))
  k : DiskAt w db lb mb D
namespace OW
variable {w w' : World} {b db lb mb : Nat} {D : DK} {N : Nat}
theorem lt (h : OW w b db lb mb D N) : b + 2 < w.heap.size := (Array.getElem?_eq_some_iff.1 h.hj).1
theorem fr0 (h : OW w b db lb mb D N) (hf : Fr [] w w') : OW w' b db lb mb D N := by
  have hl := h.lt
  exact ⟨(hf.block _ (by omega) (by simp)).trans h.h2, (hf.block _ (by omega) (by simp)).trans h.h3, (hf.block _ (by omega) (by simp)).trans h.hj, h.k.fr0 hf⟩
theorem ne (h : OW w b db lb mb D N) : b + 2 ≠ db ∧ b + 2 ≠ lb ∧ b + 2 ≠ mb := Add1At.ne h.k h.hj (by decide) (by decide)
theorem set1 (h : OW w b db lb mb D N) (M : Nat) : OW (w.setCell ⟨b + 2, 1, none⟩ (.int .u64 (M : Int))) b db lb mb D M := by
  obtain ⟨n1, n2, n3⟩ := h.ne
  exact ⟨(heap_setCell_other w _ _ _ (by show b ≠ b + 2; omega)).trans h.h2, (heap_setCell_other w _ _ _ (by show b + 1 ≠ b + 2; omega)).trans h.h3, by rw [heap_setCell_same w (b + 2) 1 _ _ _ h.hj]; rfl, h.k.setJ ⟨n1, n2, n3⟩ 1 _⟩
theorem cn (h : OW w b db lb mb D N) : w.cell? ⟨b + 2, 1, none⟩ = some (.int .u64 (N : Int)) := by rw [cell_of_row w (b + 2) 1 _ _ _ h.hj]; rfl
theorem cd (h : OW w b db lb mb D N) : w.cell? ⟨b + 2, 2, none⟩ = some (.slice none 0 0) := by rw [cell_of_row w (b + 2) 2 _ _ _ h.hj]; rfl
theorem fz (h : OW w b db lb mb D N) (k : Nat) : w.frozen? ⟨b + 2, k, none⟩ = false := frozen_of_row w (b + 2) k _ _ h.hj
theorem ret (h : OW w b db lb mb D N) (v u : Value) : ((w.setCell ⟨b, 0, none⟩ v).setCell ⟨b + 1, 0, none⟩ u).heap[b]? = some (.cells #[v] 47 (0, 0)) ∧ ((w.setCell ⟨b, 0, none⟩ v).setCell ⟨b + 1, 0, none⟩ u).heap[b + 1]? = some (.cells #[u] 26 (0, 0)) ∧ Fr [b, b + 1] w ((w.setCell ⟨b, 0, none⟩ v).setCell ⟨b + 1, 0, none⟩ u) := by
  have e3 : (w.setCell ⟨b, 0, none⟩ v).heap[b + 1]? = some (.cells #[.int .i64 0] 26 (0, 0)) := (heap_setCell_other w _ _ _ (by show b + 1 ≠ b; omega)).trans h.h3
  refine ⟨(heap_setCell_other _ _ _ _ (by show b ≠ b + 1; omega)).trans (by rw [heap_setCell_same w b 0 _ _ _ h.h2]; rfl), by rw [heap_setCell_same _ (b + 1) 0 _ _ _ e3]; rfl, (Fr.setCell _ (by simp) _).trans (Fr.setCell _ (by simp) _)⟩
end OW
/-- opened, but for the look at the records: the journal and its data -/
structure OJ (w : World) (b db N : Nat) (d : List UInt8) (g : Nat) : Prop where
  hj : w.heap[b + 2]? = some (.cells #[.pointer (some ⟨db, 0, none⟩), .int .u64 (N : Int), .slice (some ⟨g, 0, none⟩) d.length d.length, .bool false] 75 (0, 0))
  bt : BytesAt w (.slice (some ⟨g, 0, none⟩) d.length d.length) d.length (lsec d)
  cg : ∃ C, w.heap[g]? = some (.cells C 5 (0, 0))
theorem OJ.lt {w : World} {b db N g : Nat} {d : List UInt8} (h : OJ w b db N d g) : b + 2 < w.heap.size := (Array.getElem?_eq_some_iff.1 h.hj).1
theorem OJ.glt {w : World} {b db N g : Nat} {d : List UInt8} (h : OJ w b db N d g) : g < w.heap.size := by obtain ⟨C, h1⟩ := h.cg; exact (Array.getElem?_eq_some_iff.1 h1).1
theorem OJ.fr {w w' : World} {b db N g : Nat} {d : List UInt8} {F : List Nat} (h : OJ w b db N d g) (hf : Fr F w w') (h1 : b + 2 ∉ F) (h2 : g ∉ F) : OJ w' b db N d g := by
  obtain ⟨C, h3⟩ := h.cg
  exact ⟨(hf.block _ h.lt h1).trans h.hj, h.bt.fr hf (fun k hk => by cases hk; exact h2), C, (hf.block _ h.glt h2).trans h3⟩
theorem OJ.jat {w : World} {b db N g : Nat} {d : List UInt8} (h : OJ w b db N d g) : JAt w (b + 2) db N d false := by
  obtain ⟨C, h3⟩ := h.cg
  exact ⟨some ⟨g, 0, none⟩, d.length, h.hj, h.bt, fun k hk => by cases hk; exact ⟨C, _, h3, by decide, by decide, by decide, rfl⟩⟩
structure OX (w : World) (b db N : Nat) (d : List UInt8) (g : Nat) : Prop where
  h2 : w.heap[b]? = some (.cells #[.pointer none] 47 (0, 0))
  h3 : w.heap[b + 1]? = some (.cells #[.int .i64 0] 26 (0, 0))
  oj : OJ w b db N d g
theorem OX.lt {w : World} {b db N g : Nat} {d : List UInt8} (h : OX w b db N d g) : b + 2 < w.heap.size := h.oj.lt
theorem OX.glt {w : World} {b db N g : Nat} {d : List UInt8} (h : OX w b db N d g) : g < w.heap.size := h.oj.glt
theorem OX.fr {w w' : World} {b db N g : Nat} {d : List UInt8} {F : List Nat} (h : OX w b db N d g) (hf : Fr F w w') (h0 : b ∉ F) (h1 : b + 1 ∉ F) (h2 : b + 2 ∉ F) (h3 : g ∉ F) : OX w' b db N d g := by
  have hl := h.lt
  exact ⟨(hf.block _ (by omega) h0).trans h.h2, (hf.block _ (by omega) h1).trans h.h3, h.oj.fr hf h2 h3⟩
theorem OX.fr0 {w w' : World} {b db N g : Nat} {d : List UInt8} (h : OX w b db N d g) (hf : Fr [] w w') : OX w' b db N d g := h.fr hf (by simp) (by simp) (by simp) (by simp)
theorem OW.full {w : World} {b db lb mb N g L M : Nat} {D : DK} {f : Sec} {C : Array Value} (h : OW w b db lb mb D N) (hL : L ≤ M) (hr : w.rangeAt g 0 (rowL M f)) (hc : w.heap[g]? = some (.cells C 5 (0, 0))) (hM : M ≤ maxLen) :
    OX (w.setCell ⟨b + 2, 2, none⟩ (.slice (some ⟨g, 0, none⟩) L L)) b db N (secL L f) g := by
  have hne : g ≠ b + 2 := by
    intro e; have h1 := h.hj; rw [← e, hc] at h1; have h2 := Option.some.inj h1; injection h2 with _ h3; exact absurd h3 (by decide)
  have eg : (w.setCell ⟨b + 2, 2, none⟩ (.slice (some ⟨g, 0, none⟩) L L)).heap[g]? = w.heap[g]? := heap_setCell_other w _ _ _ hne
  have hb : BytesAt (w.setCell ⟨b + 2, 2, none⟩ (.slice (some ⟨g, 0, none⟩) L L)) (.slice (some ⟨g, 0, none⟩) (secL L f).length (secL L f).length) (secL L f).length (lsec (secL L f)) := by
    rw [secL_len]
    refine ⟨_, L, rfl, Nat.le_refl _, Nat.le_trans hL hM, (fun e => by cases e), fun _ => ⟨g, 0, rfl, rangeAt_congr ?_ eg⟩⟩
    rw [rowL_congr (fun j hj => lsec_secL f hj)]
    exact rangeAt_pre hr hL
  refine ⟨(heap_setCell_other w _ _ _ (by show b ≠ b + 2; omega)).trans h.h2, (heap_setCell_other w _ _ _ (by show b + 1 ≠ b + 2; omega)).trans h.h3, ?_, hb, C, eg.trans hc⟩
  rw [heap_setCell_same w (b + 2) 2 _ _ _ h.hj, secL_len]; rfl
set_option maxRecDepth 100000 in
set_option maxHeartbeats 4000000 in
theorem open_live {db lb mb : Nat} {D : DK} (w : World) (h : DiskAt w db lb mb D) (hd : D.dead = false) (hn : 4 ≤ D.n) : Calls Try.prog 25 #[.pointer (some ⟨db, 0, none⟩)] w fun e w' => Fr [] w w' ∧ OpenR w w' db (openD D) e := by
  have HX := Lib.hid (h.fr0 ((Fr.alloc [] w (.cells #[.pointer none] 47)).trans (Fr.alloc [] _ (.cells #[.int .i64 0] 26))))
  have H := Lib.hid h
  have HD := Lib.hid hd
  clear h
  have hni : ¬ (D.n : Int) < 4 := by omega
  refine (callsIn_wide (n := 10)).1 ?_
  refine callsIn_of_wp_marks Try.func25 rfl trivial ?_ rfl
  simp only [Try.ntmps25, List.size_toArray, List.length_cons, List.length_nil, Nat.reduceAdd, Nat.reduceSub, Array.replicate_succ, Array.replicate_zero, List.push_toArray, List.append_toArray, List.nil_append, List.cons_append]
  refine wpIn_wide.2 ?_
  go_wp2_with (first
    | (go_at_call 22; refine (dead_some _ HX.out).mono ?_; rw [hd]; rintro e w' ⟨rfl, rfl⟩)
    | (go_at_call 24; refine (size_some _ HX.out).mono ?_; rintro e w' ⟨rfl, rfl⟩))
  have g0 := heap3 w (.cells #[.pointer none] 47) (.cells #[.int .i64 0] 26) (.cells #[.pointer (some ⟨db, 0, none⟩), .int .u64 0, .slice none 0 0, .bool false] 75)
  have f0 : Fr [] w (((w.alloc (.cells #[.pointer none] 47)).alloc (.cells #[.int .i64 0] 26)).alloc (.cells #[.pointer (some ⟨db, 0, none⟩), .int .u64 0, .slice none 0 0, .bool false] 75)) := ((Fr.alloc _ _ _).trans (Fr.alloc _ _ _)).trans (Fr.alloc _ _ _)
  obtain ⟨w0, hw0⟩ : ∃ w0, (((w.alloc (.cells #[.pointer none] 47)).alloc (.cells #[.int .i64 0] 26)).alloc (.cells #[.pointer (some ⟨db, 0, none⟩), .int .u64 0, .slice none 0 0, .bool false] 75)) = w0 := ⟨_, rfl⟩
  rw [hw0] at g0 f0 ⊢
  have how : OW w0 w.heap.size db lb mb D 0 := ⟨g0.1.1, g0.1.2, g0.2, H.out.fr0 f0⟩
  have HO0 := Lib.hid how
  have HF0 := Lib.hid f0
  have sl0 := how.lt
  clear hw0 g0 f0 how HX
  have n2 := H.out.n2
  refine wp_loop_rounds 3 ?_
  rw [rounds_succ]
  go_wp2_with fail
  refine (read_ok 0 1 w0 HO0.out.k HD.out (by omega)).mono ?_
  rintro e w1 ⟨v1, rfl, ho1, hf1⟩
  obtain ⟨g1, cap1, rfl, hg1, hl1, hc1, hc1', hr1, _⟩ := own_slice ho1 (by omega)
  have HR1 := Lib.hid hr1
  have HO1 := Lib.hid (HO0.out.fr0 hf1)
  have HF1 := Lib.hid (HF0.out.trans hf1)
  have sl1 := HO1.out.lt
  clear ho1 hf1 hr1 HO0 HF0
  go_wp2_with (go_at_call 38; refine (room_some _ HO1.out.k).mono ?_; rintro e w' ⟨rfl, rfl⟩)
  rw [show ((D.n : Int) - 2) * 64 = (((D.n - 2) * 64 : Nat) : Int) by omega]
  refine (read_any g1 0 cap1 ((D.n - 2) * 64) (hd0 D) w1 hc1 hc1' (by omega) HR1.out).mono ?_
  rintro e w2 ⟨rfl, hf2⟩
  have HO2 := Lib.hid (HO1.out.fr0 hf2)
  have HF2 := Lib.hid (HF1.out.trans hf2)
  have sl2 := HO2.out.lt
  have c2n := HO2.out.cn
  have z2n := HO2.out.fz 1
  clear hf2 HO1 HF1 HR1
  cases h0 : okH (hd0 D) ((D.n - 2) * 64) with
  | true =>
    go_wp2_with fail
    have HO3 : Hid (OW (w2.setCell ⟨w.heap.size + 1 + 1, 1, none⟩ (.int .u64 (hN (hd0 D) : Int))) w.heap.size db lb mb D (hN (hd0 D))) := Lib.hid (HO2.out.set1 (hN (hd0 D)))
    have HF3 : Hid (Fr [] w (w2.setCell ⟨w.heap.size + 1 + 1, 1, none⟩ (.int .u64 (hN (hd0 D) : Int)))) := Lib.hid (HF2.out.then_new (Fr.setCell (F := [w.heap.size + 1 + 1]) _ (by simp) _) (by simp; omega))
    obtain ⟨w3, hw3⟩ : ∃ w3, w2.setCell ⟨w.heap.size + 1 + 1, 1, none⟩ (.int .u64 (hN (hd0 D) : Int)) = w3 := ⟨_, rfl⟩
    rw [hw3] at HO3 HF3 ⊢
    have sl3 := HO3.out.lt
    clear hw3 HO2 HF2
    clear c2n z2n
    rw [rounds_succ]
    go_wp2_with fail
    refine (read_ok 1 1 w3 HO3.out.k HD.out (by omega)).mono ?_
    rintro e w4 ⟨v4, rfl, ho4, hf4⟩
    obtain ⟨g4, cap4, rfl, hg4, hl4, hc4, hc4', hr4, _⟩ := own_slice ho4 (by omega)
    have HR4 := Lib.hid hr4
    have HO4 := Lib.hid (HO3.out.fr0 hf4)
    have HF4 := Lib.hid (HF3.out.trans hf4)
    have sl4 := HO4.out.lt
    clear ho4 hf4 hr4 HO3 HF3
    go_wp2_with (go_at_call 38; refine (room_some _ HO4.out.k).mono ?_; rintro e w' ⟨rfl, rfl⟩)
    rw [show ((D.n : Int) - 2) * 64 = (((D.n - 2) * 64 : Nat) : Int) by omega]
    refine (read_any g4 0 cap4 ((D.n - 2) * 64) (hd1 D) w4 hc4 hc4' (by omega) HR4.out).mono ?_
    rintro e w5 ⟨rfl, hf5⟩
    have HO5 := Lib.hid (HO4.out.fr0 hf5)
    have HF5 := Lib.hid (HF4.out.trans hf5)
    have sl5 := HO5.out.lt
    have c5n := HO5.out.cn
    have z5n := HO5.out.fz 1
    clear hf5 HO4 HF4 HR4
    cases h1 : okH (hd1 D) ((D.n - 2) * 64) with
    | true =>
      by_cases hlt : hN (hd0 D) < hN (hd1 D)
      · have hltd : decide (((hN (hd0 D) : Nat) : Int) < ((hN (hd1 D) : Nat) : Int)) = true := by rw [decide_eq_true_eq]; omega
        go_wp2_with fail
        have HO6 : Hid (OW (w5.setCell ⟨w.heap.size + 1 + 1, 1, none⟩ (.int .u64 (hN (hd1 D) : Int))) w.heap.size db lb mb D (hN (hd1 D))) := Lib.hid (HO5.out.set1 (hN (hd1 D)))
        have HF6 : Hid (Fr [] w (w5.setCell ⟨w.heap.size + 1 + 1, 1, none⟩ (.int .u64 (hN (hd1 D) : Int)))) := Lib.hid (HF5.out.then_new (Fr.setCell (F := [w.heap.size + 1 + 1]) _ (by simp) _) (by simp; omega))
        obtain ⟨w6, hw6⟩ : ∃ w6, w5.setCell ⟨w.heap.size + 1 + 1, 1, none⟩ (.int .u64 (hN (hd1 D) : Int)) = w6 := ⟨_, rfl⟩
        rw [hw6] at HO6 HF6 ⊢
        have sl6 := HO6.out.lt
        clear hw6 HO5 HF5
        clear c5n z5n hltd
        have hpk : pickF D = some (hN (hd1 D), hL (hd1 D)) := by simp [pickF, h0, h1, hlt]
        have hLr : hL (hd1 D) ≤ (D.n - 2) * 64 := okH_le h1
        have HPK := Lib.hid hpk
        clear hpk h0 h1
        rw [rounds_succ]
        go_wp2_with (go_at_call 24; refine (size_some _ HO6.out.k).mono ?_; rintro e w' ⟨rfl, rfl⟩)
        rw [show ((D.n : Int) - 2) = ((D.n - 2 : Nat) : Int) by omega]
        refine (read_ok 2 (D.n - 2) w6 HO6.out.k HD.out (by omega)).mono ?_
        rintro e wA ⟨vA, rfl, hoA, hfA⟩
        obtain ⟨gA, capA, rfl, hgA, hlA, hcA, hcA', hrA, CA, hCA⟩ := own_slice hoA (by omega)
        have HRA := Lib.hid hrA
        have HCA := Lib.hid hCA
        have HOA := Lib.hid (HO6.out.fr0 hfA)
        have HFA := Lib.hid (HF6.out.trans hfA)
        have slA := HOA.out.lt
        have cA := HOA.out.cd
        have zA := HOA.out.fz 2
        have hLb : hL (hd1 D) ≤ 64 * (D.n - 2) := by omega
        have hLm : (hL (hd1 D)) ≤ 9223372036854775807 := by omega
        have HGA := Lib.hid hgA
        clear hoA hfA hrA hCA HO6 HF6 hgA
        go_wp2_with fail
        obtain ⟨d, hdd⟩ : ∃ d, secL (hL (hd1 D)) (dat D) = d := ⟨_, rfl⟩
        have hdl : d.length = hL (hd1 D) := by rw [← hdd, secL_len]
        have HDD : Hid (secL d.length (dat D) = d) := by rw [hdl]; exact Lib.hid hdd
        have HOX : Hid (OX (wA.setCell ⟨w.heap.size + 1 + 1, 2, none⟩ (.slice (some ⟨gA, 0, none⟩) (hL (hd1 D)) (hL (hd1 D)))) w.heap.size db (hN (hd1 D)) d gA) := by
          have h := HOA.out.full hLb HRA.out HCA.out (by unfold maxLen; omega)
          rw [show secL (hL (hd1 D)) (fun j => D.now (64 * 2 + j)) = d from hdd] at h
          exact Lib.hid h
        have hfB : Fr [] w (wA.setCell ⟨w.heap.size + 1 + 1, 2, none⟩ (.slice (some ⟨gA, 0, none⟩) (hL (hd1 D)) (hL (hd1 D)))) := HFA.out.then_new (Fr.setCell (F := [w.heap.size + 1 + 1]) _ (by simp) _) (by simp; omega)
        rw [← hdl] at HOX hfB HPK hLb ⊢
        obtain ⟨wB, hwB⟩ : ∃ wB, (wA.setCell ⟨w.heap.size + 1 + 1, 2, none⟩ (.slice (some ⟨gA, 0, none⟩) d.length d.length)) = wB := ⟨_, rfl⟩
        rw [hwB] at HOX hfB ⊢
        have slB := HOX.out.lt
        have sgB := HOX.out.glt
        have hgab : w.heap.size + 2 < gA := by have := HGA.out; omega
        clear hdl hdd hwB cA zA HRA HCA HOA HFA hLm hLr
        refine ((callsIn_wide (n := 10)).1 (jrecords_in 10 _ _ _ _)).mono ?_
        rintro e wC ⟨rfl, hwC⟩
        have o1 : wC.heap[wB.heap.size]? = some (.cells #[.slice (some ⟨gA, 0, none⟩) d.length d.length] 31 (0, 0)) := by rw [hwC]; exact heap_alloc_new _ _
        have fC : Fr [] wB wC := by rw [hwC]; exact Fr.alloc _ _ _
        have sC1 : wC.heap.size ≤ wB.heap.size + 1 := by rw [hwC]; simp
        have sC2 : wB.heap.size + 1 ≤ wC.heap.size := by rw [hwC]; simp
        clear hwC
        have HO1 := Lib.hid o1
        have HFC := Lib.hid fC
        have HFB := Lib.hid hfB
        clear o1 fC hfB
        go_wp2_with fail
        rename_i Kr hKr K hK
        clear hKr
        have HK := Lib.hid hK
        clear hK
        have hfn : ∀ f, Fence.wide.fn f := fun _ => trivial
        refine (wpIn_wide (n := 10)).1 ?_
        refine range_open rfl (by omega) (gf := 49) (lb := #[.pointer (some ⟨wB.heap.size, 0, none⟩)]) rfl trivial (enters_of Try.func49 (by kernel_rfl) rfl) (fun fn hfn' rc hrc W1 hW1 => ?_)
        have e1 : W1.heap[wC.heap.size + 1]? = some (.loop (rc .ready none)) := by
          have := heap_alloc_new (wC.alloc (.deferred (some []))) (.loop (rc .ready none))
          rw [hW1]; simpa using this
        have e2 : W1.heap[wC.heap.size]? = some (.deferred (some [])) := by rw [hW1]; exact (Below.heap_alloc _ _ _ (by simp)).trans (heap_alloc_new _ _)
        have e3 : Fr [] wC W1 := by rw [hW1]; exact (Fr.alloc _ _ _).trans (Fr.alloc _ _ _)
        have e5 : W1.heap.size ≤ wC.heap.size + 2 := by rw [hW1]; simp
        have e6 : wC.heap.size + 2 ≤ W1.heap.size := by rw [hW1]; simp
        clear hW1
        have HRC := Lib.hid hrc
        clear hrc
        have hX1 := HOX.out.fr0 (HFC.out.trans e3)
        have f1 : Fr [] w W1 := (HFB.out.trans HFC.out).trans e3
        have q1 := (e3.block _ (by omega) (by simp)).trans HO1.out
        have HX1 := Lib.hid hX1
        have HF1 := Lib.hid f1
        clear HOX HFC HFB HO1
        refine (records1_in (10 - 1) (by omega) (wC.heap.size + 1) wB.heap.size [wC.heap.size + 1] d (.slice (some ⟨gA, 0, none⟩) d.length d.length)
          (fun _ X => X.heap[wC.heap.size + 1]? = some (.loop (rc .ready none)) ∧ X.heap[wC.heap.size]? = some (.deferred (some []))) (fun _ => False)
          (fun X => X.heap[wC.heap.size + 1]? = some (.loop (rc .done (some .ret))) ∧ X.heap[wC.heap.size]? = some (.deferred (some [])) ∧ X.heap[w.heap.size]? = some (.cells #[.pointer none] 47 (0, 0)) ∧ X.heap[w.heap.size + 1]? = some (.cells #[.int .i64 130] 26 (0, 0)) ∧ Fr [] w X ∧ recs d = none)
          W1 q1 hX1.oj.bt (by omega) (fun k hk => by cases hk; simp; omega) (by simp; omega) ?hJ ?hY ?hYf ⟨e1, e2⟩).mono ?fin
        case hJ =>
          rintro pre X Y ⟨a1, a2⟩ hX hY
          exact ⟨(hY.block _ (Array.getElem?_eq_some_iff.1 a1).1 (by simp; omega)).trans a1, (hY.block _ (Array.getElem?_eq_some_iff.1 a2).1 (by simp; omega)).trans a2⟩
        case hY =>
          rintro pre v r X Z hcnt ⟨a1, a2⟩ hX hXZ hby hblk
          have hlZ := (hXZ.block _ (Array.getElem?_eq_some_iff.1 a1).1 (by simp)).trans a1
          have hDZ := (hXZ.block _ (Array.getElem?_eq_some_iff.1 a2).1 (by simp)).trans a2
          refine (yield_round HRC.out hfn' rfl hlZ (A := fun W3 => W3.heap[wC.heap.size]? = some (.deferred (some [])) ∧ FrB W1.heap.size [wC.heap.size + 1] Z W3) (B := fun _ _ => False) ?_).mono ?_
          · have HDZ := Lib.hid hDZ
            have HLZ := Lib.hid hlZ
            have HLT := Lib.hid (Array.getElem?_eq_some_iff.1 hlZ).1
            clear hby hblk hDZ a1 a2 hX hXZ hlZ e1 e2 e3 q1 f1 hX1
            refine wpIn_region_plain (by kernel_rfl) (by rintro ⟨_, _, h⟩; exact h) ?_
            go_wp2_with fail
            refine ⟨HLZ.out, ?_⟩
            have k1 : (Z.putObj (wC.heap.size + 1) (.loop (rc .busy none))).heap[wC.heap.size + 1]? = some (.loop (rc .busy none)) := putObj_same HLT.out _
            have k2 := (putObj_other (w := Z) (g := wC.heap.size + 1) (k := wC.heap.size) (by omega) (.loop (rc .busy none))).trans HDZ.out
            have k5 : FrB W1.heap.size [wC.heap.size + 1] Z (Z.putObj (wC.heap.size + 1) (.loop (rc .busy none))) := putObj_frB (by simp) _ _
            obtain ⟨Zb, hZb⟩ : ∃ Zb, Z.putObj (wC.heap.size + 1) (.loop (rc .busy none)) = Zb := ⟨_, rfl⟩
            rw [hZb] at k1 k2 k5 ⊢
            have K1 := Lib.hid k1
            have K2 := Lib.hid k2
            have K5 := Lib.hid k5
            clear hZb k1 k2 k5
            iterate 3 gi_step
            refine wpIn_region_plain (by kernel_rfl) (by rintro ⟨_, _, h⟩; exact h) ?_
            go_wp2_with fail
            gi_wp2
            exact ⟨K1.out, K2.out, K5.out⟩
          · rintro e W' (⟨rfl, W3, rfl, hl3, hA1, hA2⟩ | ⟨rfl, c, W3, rfl, hl3, hB⟩)
            · have hl3' := (Array.getElem?_eq_some_iff.1 hl3).1
              exact .inl ⟨rfl, ⟨putObj_same hl3' _, (putObj_other (by omega) _).trans hA1⟩, hA2.trans (putObj_frB (by simp) _ _)⟩
            · exact hB.elim
        case hYf =>
          rintro hnn pre Z ⟨a1, a2⟩ hX
          have b2 := (hX.block w.heap.size (by omega) (by simp; omega)).trans HX1.out.h2
          have b3 := (hX.block (w.heap.size + 1) (by omega) (by simp; omega)).trans HX1.out.h3
          have hZw : Fr [] w Z := HF1.out.then_new hX (by simp; omega)
          refine (yield_round HRC.out hfn' rfl a1 (A := fun _ => False) (B := fun c W3 => c = .ret ∧ W3.heap[wC.heap.size]? = some (.deferred (some [])) ∧ W3.heap[w.heap.size]? = some (.cells #[.pointer none] 47 (0, 0)) ∧ W3.heap[w.heap.size + 1]? = some (.cells #[.int .i64 130] 26 (0, 0)) ∧ Fr [] w W3) ?_).mono ?_
          · have HDZ := Lib.hid a2
            have HLZ := Lib.hid a1
            have B2 := Lib.hid b2
            have B3 := Lib.hid b3
            have HZW := Lib.hid hZw
            have HLT := Lib.hid (Array.getElem?_eq_some_iff.1 a1).1
            clear a1 a2 hX e1 e2 e3 q1 f1 hX1 b2 b3 hZw
            refine wpIn_region_plain (by kernel_rfl) (by rintro ⟨_, _, h⟩; exact h) ?_
            go_wp2_with fail
            refine ⟨HLZ.out, ?_⟩
            have k1 : (Z.putObj (wC.heap.size + 1) (.loop (rc .busy none))).heap[wC.heap.size + 1]? = some (.loop (rc .busy none)) := putObj_same HLT.out _
            have k2 := (putObj_other (w := Z) (g := wC.heap.size + 1) (k := wC.heap.size) (by omega) (.loop (rc .busy none))).trans HDZ.out
            have k3 := (putObj_other (w := Z) (g := wC.heap.size + 1) (k := w.heap.size) (by omega) (.loop (rc .busy none))).trans B2.out
            have k4 := (putObj_other (w := Z) (g := wC.heap.size + 1) (k := w.heap.size + 1) (by omega) (.loop (rc .busy none))).trans B3.out
            have k5 : Fr [] w (Z.putObj (wC.heap.size + 1) (.loop (rc .busy none))) := HZW.out.then_new (putObj_fr (F := [wC.heap.size + 1]) (by simp) _ _) (by simp; omega)
            obtain ⟨Zb, hZb⟩ : ∃ Zb, Z.putObj (wC.heap.size + 1) (.loop (rc .busy none)) = Zb := ⟨_, rfl⟩
            rw [hZb] at k1 k2 k3 k4 k5 ⊢
            have q2 : Zb.cell? ⟨w.heap.size, 0, none⟩ = some (.pointer none) := by rw [cell_of_row Zb w.heap.size 0 _ _ _ k3]; rfl
            have q3 : Zb.cell? ⟨w.heap.size + 1, 0, none⟩ = some (.int .i64 0) := by rw [cell_of_row Zb (w.heap.size + 1) 0 _ _ _ k4]; rfl
            have z2 : Zb.frozen? ⟨w.heap.size, 0, none⟩ = false := frozen_of_row Zb w.heap.size 0 _ _ k3
            have z3 : Zb.frozen? ⟨w.heap.size + 1, 0, none⟩ = false := frozen_of_row Zb (w.heap.size + 1) 0 _ _ k4
            have K1 := Lib.hid k1
            have K2 := Lib.hid k2
            have K3 := Lib.hid k3
            have K4 := Lib.hid k4
            have K5 := Lib.hid k5
            clear hZb k1 k2 k3 k4 k5
            iterate 3 gi_step
            refine wpIn_region_plain (by kernel_rfl) (by rintro ⟨_, _, h⟩; exact h) ?_
            go_wp2_with fail
            iterate 2 gi_step
            refine wpIn_region_plain (by kernel_rfl) (by rintro ⟨_, _, h⟩; exact h) ?_
            go_wp2_with fail
            gi_wp2
            obtain ⟨p1, p2, p3⟩ := cells_ret K3.out K4.out (.pointer none) (.int .i64 130)
            exact ⟨(p3.block _ (Array.getElem?_eq_some_iff.1 K1.out).1 (by simp; omega)).trans K1.out, rfl, (p3.block _ (Array.getElem?_eq_some_iff.1 K2.out).1 (by simp; omega)).trans K2.out, p1, p2, K5.out.then_new p3 (by simp)⟩
          · rintro e W' (⟨rfl, W3, rfl, hl3, hA⟩ | ⟨rfl, c, W3, rfl, hl3, rfl, h1, h2, h3, h4⟩)
            · exact hA.elim
            · have hl3' := (Array.getElem?_eq_some_iff.1 hl3).1
              exact .inr ⟨rfl, putObj_same hl3' _, (putObj_other (by omega) _).trans h1, (putObj_other (by omega) _).trans h2, (putObj_other (by omega) _).trans h3, h4.then_new (putObj_fr (F := [wC.heap.size + 1]) (by simp) _ _) (by simp; omega), hnn⟩
        case fin =>
          rintro e W2 ⟨⟨v, rfl⟩, ⟨pre, hp, ⟨a1, a2⟩, hX2⟩ | ⟨_, h⟩ | ⟨a1, a2, a3, a4, a5, hnn⟩⟩
          · refine ⟨v, rfl, .inl ⟨a1, HK.out _ _ ?_⟩⟩
            have hXf := (HX1.out.fr hX2 (by simp; omega) (by simp; omega) (by simp; omega) (by simp; omega)).fr (putObj_fr (l := wC.heap.size + 1) (F := [wC.heap.size + 1]) (by simp) W2 (.loop (rc .exhausted none))) (by simp; omega) (by simp; omega) (by simp; omega) (by simp; omega)
            have hsz := hX2.size
            have b2 := (putObj_other (w := W2) (g := wC.heap.size + 1) (k := wC.heap.size) (by omega) (.loop (rc .exhausted none))).trans a2
            have hfr : Fr [] w (W2.putObj (wC.heap.size + 1) (.loop (rc .exhausted none))) := (HF1.out.then_new hX2 (by simp; omega)).then_new (putObj_fr (F := [wC.heap.size + 1]) (by simp) _ _) (by simp; omega)
            obtain ⟨X, hX⟩ : ∃ X, W2.putObj (wC.heap.size + 1) (.loop (rc .exhausted none)) = X := ⟨_, rfl⟩
            rw [hX] at hXf b2 hfr ⊢
            have hrs : recs d ≠ none := by rw [hp]; simp
            have q2 : X.cell? ⟨w.heap.size, 0, none⟩ = some (.pointer none) := by rw [cell_of_row X w.heap.size 0 _ _ _ hXf.h2]; rfl
            have q3 : X.cell? ⟨w.heap.size + 1, 0, none⟩ = some (.int .i64 0) := by rw [cell_of_row X (w.heap.size + 1) 0 _ _ _ hXf.h3]; rfl
            have z2 : X.frozen? ⟨w.heap.size, 0, none⟩ = false := frozen_of_row X w.heap.size 0 _ _ hXf.h2
            have z3 : X.frozen? ⟨w.heap.size + 1, 0, none⟩ = false := frozen_of_row X (w.heap.size + 1) 0 _ _ hXf.h3
            have HXF := Lib.hid hXf
            have HB2 := Lib.hid b2
            have HFR := Lib.hid hfr
            have HRS := Lib.hid hrs
            have sX := hXf.lt
            have sG := hXf.glt
            have sD := (Array.getElem?_eq_some_iff.1 b2).1
            clear hX hXf b2 hfr hrs hX2 a1 a2 hp e1 e2 e3 q1 f1 hX1
            dsimp only
            go_wp2_with fail
            obtain ⟨p1, p2, p3⟩ := cells_ret HXF.out.h2 HXF.out.h3 (.pointer (some ⟨w.heap.size + 1 + 1, 0, none⟩)) (.int .i64 0)
            have b3 := (p3.block wC.heap.size sD (by simp; omega)).trans HB2.out
            have fT := putObj_fr (l := wC.heap.size) (F := [wC.heap.size]) (by simp) ((X.setCell ⟨w.heap.size, 0, none⟩ (.pointer (some ⟨w.heap.size + 1 + 1, 0, none⟩))).setCell ⟨w.heap.size + 1, 0, none⟩ (.int .i64 0)) (.deferred none)
            have ojT := (HXF.out.oj.fr p3 (by simp) (by simp; have := HGA.out; omega)).fr fT (by simp; omega) (by simp; omega)
            refine ⟨by simp, .inl ⟨_, _, rfl, run_takeDeferred b3, open_ret rfl rfl ((putObj_other (by omega) _).trans p1) ((putObj_other (by omega) _).trans p2) ⟨(HFR.out.then_new p3 (by simp)).then_new fT (by simp; omega), ?_⟩⟩⟩
            unfold openD
            rw [HPK.out]
            simp only []
            rw [HDD.out, if_neg HRS.out]
            exact ⟨w.heap.size + 2, rfl, ojT.jat, by omega⟩
          · exact h.elim
          · refine ⟨v, rfl, .inr ⟨.ret, a1, wpIn_wide.2 ?_⟩⟩
            have b2 := (putObj_other (w := W2) (g := wC.heap.size + 1) (k := wC.heap.size) (by omega) (.loop (rc .exhausted (some .ret)))).trans a2
            have b3 := (putObj_other (w := W2) (g := wC.heap.size + 1) (k := w.heap.size) (by omega) (.loop (rc .exhausted (some .ret)))).trans a3
            have b4 := (putObj_other (w := W2) (g := wC.heap.size + 1) (k := w.heap.size + 1) (by omega) (.loop (rc .exhausted (some .ret)))).trans a4
            have hfr : Fr [] w (W2.putObj (wC.heap.size + 1) (.loop (rc .exhausted (some .ret)))) := a5.then_new (putObj_fr (F := [wC.heap.size + 1]) (by simp) _ _) (by simp; omega)
            obtain ⟨X, hX⟩ : ∃ X, W2.putObj (wC.heap.size + 1) (.loop (rc .exhausted (some .ret))) = X := ⟨_, rfl⟩
            rw [hX] at b2 b3 b4 hfr ⊢
            have HB2 := Lib.hid b2
            have HB3 := Lib.hid b3
            have HB4 := Lib.hid b4
            have HFR := Lib.hid hfr
            have HNN := Lib.hid hnn
            clear hX b2 b3 b4 hfr hnn a1 a2 a3 a4 a5 e1 e2 e3 q1 f1 hX1
            dsimp only
            go_wp2_with fail
            have fT := putObj_fr (l := wC.heap.size) (F := [wC.heap.size]) (by simp) X (.deferred none)
            refine ⟨by simp, .inl ⟨_, _, rfl, run_takeDeferred HB2.out, open_ret rfl rfl ((putObj_other (by omega) _).trans HB3.out) ((putObj_other (by omega) _).trans HB4.out) ⟨HFR.out.then_new fT (by simp; omega), ?_⟩⟩⟩
            unfold openD
            rw [HPK.out]
            simp only []
            rw [HDD.out, if_pos HNN.out]
            rfl
      · have hltd : decide (((hN (hd0 D) : Nat) : Int) < ((hN (hd1 D) : Nat) : Int)) = false := by rw [decide_eq_false_iff_not]; omega
        go_wp2_with fail
        clear c5n z5n hltd
        have hpk : pickF D = some (hN (hd0 D), hL (hd0 D)) := by simp [pickF, h0, h1, hlt]
        have hLr : hL (hd0 D) ≤ (D.n - 2) * 64 := okH_le h0
        have HPK := Lib.hid hpk
        clear hpk h0 h1
        rw [rounds_succ]
        go_wp2_with (go_at_call 24; refine (size_some _ HO5.out.k).mono ?_; rintro e w' ⟨rfl, rfl⟩)
        rw [show ((D.n : Int) - 2) = ((D.n - 2 : Nat) : Int) by omega]
        refine (read_ok 2 (D.n - 2) w5 HO5.out.k HD.out (by omega)).mono ?_
        rintro e wA ⟨vA, rfl, hoA, hfA⟩
        obtain ⟨gA, capA, rfl, hgA, hlA, hcA, hcA', hrA, CA, hCA⟩ := own_slice hoA (by omega)
        have HRA := Lib.hid hrA
        have HCA := Lib.hid hCA
        have HOA := Lib.hid (HO5.out.fr0 hfA)
        have HFA := Lib.hid (HF5.out.trans hfA)
        have slA := HOA.out.lt
        have cA := HOA.out.cd
        have zA := HOA.out.fz 2
        have hLb : hL (hd0 D) ≤ 64 * (D.n - 2) := by omega
        have hLm : (hL (hd0 D)) ≤ 9223372036854775807 := by omega
        have HGA := Lib.hid hgA
        clear hoA hfA hrA hCA HO5 HF5 hgA
        go_wp2_with fail
        obtain ⟨d, hdd⟩ : ∃ d, secL (hL (hd0 D)) (dat D) = d := ⟨_, rfl⟩
        have hdl : d.length = hL (hd0 D) := by rw [← hdd, secL_len]
        have HDD : Hid (secL d.length (dat D) = d) := by rw [hdl]; exact Lib.hid hdd
        have HOX : Hid (OX (wA.setCell ⟨w.heap.size + 1 + 1, 2, none⟩ (.slice (some ⟨gA, 0, none⟩) (hL (hd0 D)) (hL (hd0 D)))) w.heap.size db (hN (hd0 D)) d gA) := by
          have h := HOA.out.full hLb HRA.out HCA.out (by unfold maxLen; omega)
          rw [show secL (hL (hd0 D)) (fun j => D.now (64 * 2 + j)) = d from hdd] at h
          exact Lib.hid h
        have hfB : Fr [] w (wA.setCell ⟨w.heap.size + 1 + 1, 2, none⟩ (.slice (some ⟨gA, 0, none⟩) (hL (hd0 D)) (hL (hd0 D)))) := HFA.out.then_new (Fr.setCell (F := [w.heap.size + 1 + 1]) _ (by simp) _) (by simp; omega)
        rw [← hdl] at HOX hfB HPK hLb ⊢
        obtain ⟨wB, hwB⟩ : ∃ wB, (wA.setCell ⟨w.heap.size + 1 + 1, 2, none⟩ (.slice (some ⟨gA, 0, none⟩) d.length d.length)) = wB := ⟨_, rfl⟩
        rw [hwB] at HOX hfB ⊢
        have slB := HOX.out.lt
        have sgB := HOX.out.glt
        have hgab : w.heap.size + 2 < gA := by have := HGA.out; omega
        clear hdl hdd hwB cA zA HRA HCA HOA HFA hLm hLr
        refine ((callsIn_wide (n := 10)).1 (jrecords_in 10 _ _ _ _)).mono ?_
        rintro e wC ⟨rfl, hwC⟩
        have o1 : wC.heap[wB.heap.size]? = some (.cells #[.slice (some ⟨gA, 0, none⟩) d.length d.length] 31 (0, 0)) := by rw [hwC]; exact heap_alloc_new _ _
        have fC : Fr [] wB wC := by rw [hwC]; exact Fr.alloc _ _ _
        have sC1 : wC.heap.size ≤ wB.heap.size + 1 := by rw [hwC]; simp
        have sC2 : wB.heap.size + 1 ≤ wC.heap.size := by rw [hwC]; simp
        clear hwC
        have HO1 := Lib.hid o1
        have HFC := Lib.hid fC
        have HFB := Lib.hid hfB
        clear o1 fC hfB
        go_wp2_with fail
        rename_i Kr hKr K hK
        clear hKr
        have HK := Lib.hid hK
        clear hK
        have hfn : ∀ f, Fence.wide.fn f := fun _ => trivial
        refine (wpIn_wide (n := 10)).1 ?_
        refine range_open rfl (by omega) (gf := 49) (lb := #[.pointer (some ⟨wB.heap.size, 0, none⟩)]) rfl trivial (enters_of Try.func49 (by kernel_rfl) rfl) (fun fn hfn' rc hrc W1 hW1 => ?_)
        have e1 : W1.heap[wC.heap.size + 1]? = some (.loop (rc .ready none)) := by
          have := heap_alloc_new (wC.alloc (.deferred (some []))) (.loop (rc .ready none))
          rw [hW1]; simpa using this
        have e2 : W1.heap[wC.heap.size]? = some (.deferred (some [])) := by rw [hW1]; exact (Below.heap_alloc _ _ _ (by simp)).trans (heap_alloc_new _ _)
        have e3 : Fr [] wC W1 := by rw [hW1]; exact (Fr.alloc _ _ _).trans (Fr.alloc _ _ _)
        have e5 : W1.heap.size ≤ wC.heap.size + 2 := by rw [hW1]; simp
        have e6 : wC.heap.size + 2 ≤ W1.heap.size := by rw [hW1]; simp
        clear hW1
        have HRC := Lib.hid hrc
        clear hrc
        have hX1 := HOX.out.fr0 (HFC.out.trans e3)
        have f1 : Fr [] w W1 := (HFB.out.trans HFC.out).trans e3
        have q1 := (e3.block _ (by omega) (by simp)).trans HO1.out
        have HX1 := Lib.hid hX1
        have HF1 := Lib.hid f1
        clear HOX HFC HFB HO1
        refine (records1_in (10 - 1) (by omega) (wC.heap.size + 1) wB.heap.size [wC.heap.size + 1] d (.slice (some ⟨gA, 0, none⟩) d.length d.length)
          (fun _ X => X.heap[wC.heap.size + 1]? = some (.loop (rc .ready none)) ∧ X.heap[wC.heap.size]? = some (.deferred (some []))) (fun _ => False)
          (fun X => X.heap[wC.heap.size + 1]? = some (.loop (rc .done (some .ret))) ∧ X.heap[wC.heap.size]? = some (.deferred (some [])) ∧ X.heap[w.heap.size]? = some (.cells #[.pointer none] 47 (0, 0)) ∧ X.heap[w.heap.size + 1]? = some (.cells #[.int .i64 130] 26 (0, 0)) ∧ Fr [] w X ∧ recs d = none)
          W1 q1 hX1.oj.bt (by omega) (fun k hk => by cases hk; simp; omega) (by simp; omega) ?hJ ?hY ?hYf ⟨e1, e2⟩).mono ?fin
        case hJ =>
          rintro pre X Y ⟨a1, a2⟩ hX hY
          exact ⟨(hY.block _ (Array.getElem?_eq_some_iff.1 a1).1 (by simp; omega)).trans a1, (hY.block _ (Array.getElem?_eq_some_iff.1 a2).1 (by simp; omega)).trans a2⟩
        case hY =>
          rintro pre v r X Z hcnt ⟨a1, a2⟩ hX hXZ hby hblk
          have hlZ := (hXZ.block _ (Array.getElem?_eq_some_iff.1 a1).1 (by simp)).trans a1
          have hDZ := (hXZ.block _ (Array.getElem?_eq_some_iff.1 a2).1 (by simp)).trans a2
          refine (yield_round HRC.out hfn' rfl hlZ (A := fun W3 => W3.heap[wC.heap.size]? = some (.deferred (some [])) ∧ FrB W1.heap.size [wC.heap.size + 1] Z W3) (B := fun _ _ => False) ?_).mono ?_
          · have HDZ := Lib.hid hDZ
            have HLZ := Lib.hid hlZ
            have HLT := Lib.hid (Array.getElem?_eq_some_iff.1 hlZ).1
            clear hby hblk hDZ a1 a2 hX hXZ hlZ e1 e2 e3 q1 f1 hX1
            refine wpIn_region_plain (by kernel_rfl) (by rintro ⟨_, _, h⟩; exact h) ?_
            go_wp2_with fail
            refine ⟨HLZ.out, ?_⟩
            have k1 : (Z.putObj (wC.heap.size + 1) (.loop (rc .busy none))).heap[wC.heap.size + 1]? = some (.loop (rc .busy none)) := putObj_same HLT.out _
            have k2 := (putObj_other (w := Z) (g := wC.heap.size + 1) (k := wC.heap.size) (by omega) (.loop (rc .busy none))).trans HDZ.out
            have k5 : FrB W1.heap.size [wC.heap.size + 1] Z (Z.putObj (wC.heap.size + 1) (.loop (rc .busy none))) := putObj_frB (by simp) _ _
            obtain ⟨Zb, hZb⟩ : ∃ Zb, Z.putObj (wC.heap.size + 1) (.loop (rc .busy none)) = Zb := ⟨_, rfl⟩
            rw [hZb] at k1 k2 k5 ⊢
            have K1 := Lib.hid k1
            have K2 := Lib.hid k2
            have K5 := Lib.hid k5
            clear hZb k1 k2 k5
            iterate 3 gi_step
            refine wpIn_region_plain (by kernel_rfl) (by rintro ⟨_, _, h⟩; exact h) ?_
            go_wp2_with fail
            gi_wp2
            exact ⟨K1.out, K2.out, K5.out⟩
          · rintro e W' (⟨rfl, W3, rfl, hl3, hA1, hA2⟩ | ⟨rfl, c, W3, rfl, hl3, hB⟩)
            · have hl3' := (Array.getElem?_eq_some_iff.1 hl3).1
              exact .inl ⟨rfl, ⟨putObj_same hl3' _, (putObj_other (by omega) _).trans hA1⟩, hA2.trans (putObj_frB (by simp) _ _)⟩
            · exact hB.elim
        case hYf =>
          rintro hnn pre Z ⟨a1, a2⟩ hX
          have b2 := (hX.block w.heap.size (by omega) (by simp; omega)).trans HX1.out.h2
          have b3 := (hX.block (w.heap.size + 1) (by omega) (by simp; omega)).trans HX1.out.h3
          have hZw : Fr [] w Z := HF1.out.then_new hX (by simp; omega)
          refine (yield_round HRC.out hfn' rfl a1 (A := fun _ => False) (B := fun c W3 => c = .ret ∧ W3.heap[wC.heap.size]? = some (.deferred (some [])) ∧ W3.heap[w.heap.size]? = some (.cells #[.pointer none] 47 (0, 0)) ∧ W3.heap[w.heap.size + 1]? = some (.cells #[.int .i64 130] 26 (0, 0)) ∧ Fr [] w W3) ?_).mono ?_
          · have HDZ := Lib.hid a2
            have HLZ := Lib.hid a1
            have B2 := Lib.hid b2
            have B3 := Lib.hid b3
            have HZW := Lib.hid hZw
            have HLT := Lib.hid (Array.getElem?_eq_some_iff.1 a1).1
            clear a1 a2 hX e1 e2 e3 q1 f1 hX1 b2 b3 hZw
            refine wpIn_region_plain (by kernel_rfl) (by rintro ⟨_, _, h⟩; exact h) ?_
            go_wp2_with fail
            refine ⟨HLZ.out, ?_⟩
            have k1 : (Z.putObj (wC.heap.size + 1) (.loop (rc .busy none))).heap[wC.heap.size + 1]? = some (.loop (rc .busy none)) := putObj_same HLT.out _
            have k2 := (putObj_other (w := Z) (g := wC.heap.size + 1) (k := wC.heap.size) (by omega) (.loop (rc .busy none))).trans HDZ.out
            have k3 := (putObj_other (w := Z) (g := wC.heap.size + 1) (k := w.heap.size) (by omega) (.loop (rc .busy none))).trans B2.out
            have k4 := (putObj_other (w := Z) (g := wC.heap.size + 1) (k := w.heap.size + 1) (by omega) (.loop (rc .busy none))).trans B3.out
            have k5 : Fr [] w (Z.putObj (wC.heap.size + 1) (.loop (rc .busy none))) := HZW.out.then_new (putObj_fr (F := [wC.heap.size + 1]) (by simp) _ _) (by simp; omega)
            obtain ⟨Zb, hZb⟩ : ∃ Zb, Z.putObj (wC.heap.size + 1) (.loop (rc .busy none)) = Zb := ⟨_, rfl⟩
            rw [hZb] at k1 k2 k3 k4 k5 ⊢
            have q2 : Zb.cell? ⟨w.heap.size, 0, none⟩ = some (.pointer none) := by rw [cell_of_row Zb w.heap.size 0 _ _ _ k3]; rfl
            have q3 : Zb.cell? ⟨w.heap.size + 1, 0, none⟩ = some (.int .i64 0) := by rw [cell_of_row Zb (w.heap.size + 1) 0 _ _ _ k4]; rfl
            have z2 : Zb.frozen? ⟨w.heap.size, 0, none⟩ = false := frozen_of_row Zb w.heap.size 0 _ _ k3
            have z3 : Zb.frozen? ⟨w.heap.size + 1, 0, none⟩ = false := frozen_of_row Zb (w.heap.size + 1) 0 _ _ k4
            have K1 := Lib.hid k1
            have K2 := Lib.hid k2
            have K3 := Lib.hid k3
            have K4 := Lib.hid k4
            have K5 := Lib.hid k5
            clear hZb k1 k2 k3 k4 k5
            iterate 3 gi_step
            refine wpIn_region_plain (by kernel_rfl) (by rintro ⟨_, _, h⟩; exact h) ?_
            go_wp2_with fail
            iterate 2 gi_step
            refine wpIn_region_plain (by kernel_rfl) (by rintro ⟨_, _, h⟩; exact h) ?_
            go_wp2_with fail
            gi_wp2
            obtain ⟨p1, p2, p3⟩ := cells_ret K3.out K4.out (.pointer none) (.int .i64 130)
            exact ⟨(p3.block _ (Array.getElem?_eq_some_iff.1 K1.out).1 (by simp; omega)).trans K1.out, rfl, (p3.block _ (Array.getElem?_eq_some_iff.1 K2.out).1 (by simp; omega)).trans K2.out, p1, p2, K5.out.then_new p3 (by simp)⟩
          · rintro e W' (⟨rfl, W3, rfl, hl3, hA⟩ | ⟨rfl, c, W3, rfl, hl3, rfl, h1, h2, h3, h4⟩)
            · exact hA.elim
            · have hl3' := (Array.getElem?_eq_some_iff.1 hl3).1
              exact .inr ⟨rfl, putObj_same hl3' _, (putObj_other (by omega) _).trans h1, (putObj_other (by omega) _).trans h2, (putObj_other (by omega) _).trans h3, h4.then_new (putObj_fr (F := [wC.heap.size + 1]) (by simp) _ _) (by simp; omega), hnn⟩
        case fin =>
          rintro e W2 ⟨⟨v, rfl⟩, ⟨pre, hp, ⟨a1, a2⟩, hX2⟩ | ⟨_, h⟩ | ⟨a1, a2, a3, a4, a5, hnn⟩⟩
          · refine ⟨v, rfl, .inl ⟨a1, HK.out _ _ ?_⟩⟩
            have hXf := (HX1.out.fr hX2 (by simp; omega) (by simp; omega) (by simp; omega) (by simp; omega)).fr (putObj_fr (l := wC.heap.size + 1) (F := [wC.heap.size + 1]) (by simp) W2 (.loop (rc .exhausted none))) (by simp; omega) (by simp; omega) (by simp; omega) (by simp; omega)
            have hsz := hX2.size
            have b2 := (putObj_other (w := W2) (g := wC.heap.size + 1) (k := wC.heap.size) (by omega) (.loop (rc .exhausted none))).trans a2
            have hfr : Fr [] w (W2.putObj (wC.heap.size + 1) (.loop (rc .exhausted none))) := (HF1.out.then_new hX2 (by simp; omega)).then_new (putObj_fr (F := [wC.heap.size + 1]) (by simp) _ _) (by simp; omega)
            obtain ⟨X, hX⟩ : ∃ X, W2.putObj (wC.heap.size + 1) (.loop (rc .exhausted none)) = X := ⟨_, rfl⟩
            rw [hX] at hXf b2 hfr ⊢
            have hrs : recs d ≠ none := by rw [hp]; simp
            have q2 : X.cell? ⟨w.heap.size, 0, none⟩ = some (.pointer none) := by rw [cell_of_row X w.heap.size 0 _ _ _ hXf.h2]; rfl
            have q3 : X.cell? ⟨w.heap.size + 1, 0, none⟩ = some (.int .i64 0) := by rw [cell_of_row X (w.heap.size + 1) 0 _ _ _ hXf.h3]; rfl
            have z2 : X.frozen? ⟨w.heap.size, 0, none⟩ = false := frozen_of_row X w.heap.size 0 _ _ hXf.h2
            have z3 : X.frozen? ⟨w.heap.size + 1, 0, none⟩ = false := frozen_of_row X (w.heap.size + 1) 0 _ _ hXf.h3
            have HXF := Lib.hid hXf
            have HB2 := Lib.hid b2
            have HFR := Lib.hid hfr
            have HRS := Lib.hid hrs
            have sX := hXf.lt
            have sG := hXf.glt
            have sD := (Array.getElem?_eq_some_iff.1 b2).1
            clear hX hXf b2 hfr hrs hX2 a1 a2 hp e1 e2 e3 q1 f1 hX1
            dsimp only
            go_wp2_with fail
            obtain ⟨p1, p2, p3⟩ := cells_ret HXF.out.h2 HXF.out.h3 (.pointer (some ⟨w.heap.size + 1 + 1, 0, none⟩)) (.int .i64 0)
            have b3 := (p3.block wC.heap.size sD (by simp; omega)).trans HB2.out
            have fT := putObj_fr (l := wC.heap.size) (F := [wC.heap.size]) (by simp) ((X.setCell ⟨w.heap.size, 0, none⟩ (.pointer (some ⟨w.heap.size + 1 + 1, 0, none⟩))).setCell ⟨w.heap.size + 1, 0, none⟩ (.int .i64 0)) (.deferred none)
            have ojT := (HXF.out.oj.fr p3 (by simp) (by simp; have := HGA.out; omega)).fr fT (by simp; omega) (by simp; omega)
            refine ⟨by simp, .inl ⟨_, _, rfl, run_takeDeferred b3, open_ret rfl rfl ((putObj_other (by omega) _).trans p1) ((putObj_other (by omega) _).trans p2) ⟨(HFR.out.then_new p3 (by simp)).then_new fT (by simp; omega), ?_⟩⟩⟩
            unfold openD
            rw [HPK.out]
            simp only []
            rw [HDD.out, if_neg HRS.out]
            exact ⟨w.heap.size + 2, rfl, ojT.jat, by omega⟩
          · exact h.elim
          · refine ⟨v, rfl, .inr ⟨.ret, a1, wpIn_wide.2 ?_⟩⟩
            have b2 := (putObj_other (w := W2) (g := wC.heap.size + 1) (k := wC.heap.size) (by omega) (.loop (rc .exhausted (some .ret)))).trans a2
            have b3 := (putObj_other (w := W2) (g := wC.heap.size + 1) (k := w.heap.size) (by omega) (.loop (rc .exhausted (some .ret)))).trans a3
            have b4 := (putObj_other (w := W2) (g := wC.heap.size + 1) (k := w.heap.size + 1) (by omega) (.loop (rc .exhausted (some .ret)))).trans a4
            have hfr : Fr [] w (W2.putObj (wC.heap.size + 1) (.loop (rc .exhausted (some .ret)))) := a5.then_new (putObj_fr (F := [wC.heap.size + 1]) (by simp) _ _) (by simp; omega)
            obtain ⟨X, hX⟩ : ∃ X, W2.putObj (wC.heap.size + 1) (.loop (rc .exhausted (some .ret))) = X := ⟨_, rfl⟩
            rw [hX] at b2 b3 b4 hfr ⊢
            have HB2 := Lib.hid b2
            have HB3 := Lib.hid b3
            have HB4 := Lib.hid b4
            have HFR := Lib.hid hfr
            have HNN := Lib.hid hnn
            clear hX b2 b3 b4 hfr hnn a1 a2 a3 a4 a5 e1 e2 e3 q1 f1 hX1
            dsimp only
            go_wp2_with fail
            have fT := putObj_fr (l := wC.heap.size) (F := [wC.heap.size]) (by simp) X (.deferred none)
            refine ⟨by simp, .inl ⟨_, _, rfl, run_takeDeferred HB2.out, open_ret rfl rfl ((putObj_other (by omega) _).trans HB3.out) ((putObj_other (by omega) _).trans HB4.out) ⟨HFR.out.then_new fT (by simp; omega), ?_⟩⟩⟩
            unfold openD
            rw [HPK.out]
            simp only []
            rw [HDD.out, if_pos HNN.out]
            rfl
    | false =>
      go_wp2_with fail
      clear c5n z5n
      have hpk : pickF D = some (hN (hd0 D), hL (hd0 D)) := by simp [pickF, h0, h1]
      have hLr : hL (hd0 D) ≤ (D.n - 2) * 64 := okH_le h0
      have HPK := Lib.hid hpk
      clear hpk h0 h1
      rw [rounds_succ]
      go_wp2_with (go_at_call 24; refine (size_some _ HO5.out.k).mono ?_; rintro e w' ⟨rfl, rfl⟩)
      rw [show ((D.n : Int) - 2) = ((D.n - 2 : Nat) : Int) by omega]
      refine (read_ok 2 (D.n - 2) w5 HO5.out.k HD.out (by omega)).mono ?_
      rintro e wA ⟨vA, rfl, hoA, hfA⟩
      obtain ⟨gA, capA, rfl, hgA, hlA, hcA, hcA', hrA, CA, hCA⟩ := own_slice hoA (by omega)
      have HRA := Lib.hid hrA
      have HCA := Lib.hid hCA
      have HOA := Lib.hid (HO5.out.fr0 hfA)
      have HFA := Lib.hid (HF5.out.trans hfA)
      have slA := HOA.out.lt
      have cA := HOA.out.cd
      have zA := HOA.out.fz 2
      have hLb : hL (hd0 D) ≤ 64 * (D.n - 2) := by omega
      have hLm : (hL (hd0 D)) ≤ 9223372036854775807 := by omega
      have HGA := Lib.hid hgA
      clear hoA hfA hrA hCA HO5 HF5 hgA
      go_wp2_with fail
      obtain ⟨d, hdd⟩ : ∃ d, secL (hL (hd0 D)) (dat D) = d := ⟨_, rfl⟩
      have hdl : d.length = hL (hd0 D) := by rw [← hdd, secL_len]
      have HDD : Hid (secL d.length (dat D) = d) := by rw [hdl]; exact Lib.hid hdd
      have HOX : Hid (OX (wA.setCell ⟨w.heap.size + 1 + 1, 2, none⟩ (.slice (some ⟨gA, 0, none⟩) (hL (hd0 D)) (hL (hd0 D)))) w.heap.size db (hN (hd0 D)) d gA) := by
        have h := HOA.out.full hLb HRA.out HCA.out (by unfold maxLen; omega)
        rw [show secL (hL (hd0 D)) (fun j => D.now (64 * 2 + j)) = d from hdd] at h
        exact Lib.hid h
      have hfB : Fr [] w (wA.setCell ⟨w.heap.size + 1 + 1, 2, none⟩ (.slice (some ⟨gA, 0, none⟩) (hL (hd0 D)) (hL (hd0 D)))) := HFA.out.then_new (Fr.setCell (F := [w.heap.size + 1 + 1]) _ (by simp) _) (by simp; omega)
      rw [← hdl] at HOX hfB HPK hLb ⊢
      obtain ⟨wB, hwB⟩ : ∃ wB, (wA.setCell ⟨w.heap.size + 1 + 1, 2, none⟩ (.slice (some ⟨gA, 0, none⟩) d.length d.length)) = wB := ⟨_, rfl⟩
      rw [hwB] at HOX hfB ⊢
      have slB := HOX.out.lt
      have sgB := HOX.out.glt
      have hgab : w.heap.size + 2 < gA := by have := HGA.out; omega
      clear hdl hdd hwB cA zA HRA HCA HOA HFA hLm hLr
      refine ((callsIn_wide (n := 10)).1 (jrecords_in 10 _ _ _ _)).mono ?_
      rintro e wC ⟨rfl, hwC⟩
      have o1 : wC.heap[wB.heap.size]? = some (.cells #[.slice (some ⟨gA, 0, none⟩) d.length d.length] 31 (0, 0)) := by rw [hwC]; exact heap_alloc_new _ _
      have fC : Fr [] wB wC := by rw [hwC]; exact Fr.alloc _ _ _
      have sC1 : wC.heap.size ≤ wB.heap.size + 1 := by rw [hwC]; simp
      have sC2 : wB.heap.size + 1 ≤ wC.heap.size := by rw [hwC]; simp
      clear hwC
      have HO1 := Lib.hid o1
      have HFC := Lib.hid fC
      have HFB := Lib.hid hfB
      clear o1 fC hfB
      go_wp2_with fail
      rename_i Kr hKr K hK
      clear hKr
      have HK := Lib.hid hK
      clear hK
      have hfn : ∀ f, Fence.wide.fn f := fun _ => trivial
      refine (wpIn_wide (n := 10)).1 ?_
      refine range_open rfl (by omega) (gf := 49) (lb := #[.pointer (some ⟨wB.heap.size, 0, none⟩)]) rfl trivial (enters_of Try.func49 (by kernel_rfl) rfl) (fun fn hfn' rc hrc W1 hW1 => ?_)
      have e1 : W1.heap[wC.heap.size + 1]? = some (.loop (rc .ready none)) := by
        have := heap_alloc_new (wC.alloc (.deferred (some []))) (.loop (rc .ready none))
        rw [hW1]; simpa using this
      have e2 : W1.heap[wC.heap.size]? = some (.deferred (some [])) := by rw [hW1]; exact (Below.heap_alloc _ _ _ (by simp)).trans (heap_alloc_new _ _)
      have e3 : Fr [] wC W1 := by rw [hW1]; exact (Fr.alloc _ _ _).trans (Fr.alloc _ _ _)
      have e5 : W1.heap.size ≤ wC.heap.size + 2 := by rw [hW1]; simp
      have e6 : wC.heap.size + 2 ≤ W1.heap.size := by rw [hW1]; simp
      clear hW1
      have HRC := Lib.hid hrc
      clear hrc
      have hX1 := HOX.out.fr0 (HFC.out.trans e3)
      have f1 : Fr [] w W1 := (HFB.out.trans HFC.out).trans e3
      have q1 := (e3.block _ (by omega) (by simp)).trans HO1.out
      have HX1 := Lib.hid hX1
      have HF1 := Lib.hid f1
      clear HOX HFC HFB HO1
      refine (records1_in (10 - 1) (by omega) (wC.heap.size + 1) wB.heap.size [wC.heap.size + 1] d (.slice (some ⟨gA, 0, none⟩) d.length d.length)
        (fun _ X => X.heap[wC.heap.size + 1]? = some (.loop (rc .ready none)) ∧ X.heap[wC.heap.size]? = some (.deferred (some []))) (fun _ => False)
        (fun X => X.heap[wC.heap.size + 1]? = some (.loop (rc .done (some .ret))) ∧ X.heap[wC.heap.size]? = some (.deferred (some [])) ∧ X.heap[w.heap.size]? = some (.cells #[.pointer none] 47 (0, 0)) ∧ X.heap[w.heap.size + 1]? = some (.cells #[.int .i64 130] 26 (0, 0)) ∧ Fr [] w X ∧ recs d = none)
        W1 q1 hX1.oj.bt (by omega) (fun k hk => by cases hk; simp; omega) (by simp; omega) ?hJ ?hY ?hYf ⟨e1, e2⟩).mono ?fin
      case hJ =>
        rintro pre X Y ⟨a1, a2⟩ hX hY
        exact ⟨(hY.block _ (Array.getElem?_eq_some_iff.1 a1).1 (by simp; omega)).trans a1, (hY.block _ (Array.getElem?_eq_some_iff.1 a2).1 (by simp; omega)).trans a2⟩
      case hY =>
        rintro pre v r X Z hcnt ⟨a1, a2⟩ hX hXZ hby hblk
        have hlZ := (hXZ.block _ (Array.getElem?_eq_some_iff.1 a1).1 (by simp)).trans a1
        have hDZ := (hXZ.block _ (Array.getElem?_eq_some_iff.1 a2).1 (by simp)).trans a2
        refine (yield_round HRC.out hfn' rfl hlZ (A := fun W3 => W3.heap[wC.heap.size]? = some (.deferred (some [])) ∧ FrB W1.heap.size [wC.heap.size + 1] Z W3) (B := fun _ _ => False) ?_).mono ?_
        · have HDZ := Lib.hid hDZ
          have HLZ := Lib.hid hlZ
          have HLT := Lib.hid (Array.getElem?_eq_some_iff.1 hlZ).1
          clear hby hblk hDZ a1 a2 hX hXZ hlZ e1 e2 e3 q1 f1 hX1
          refine wpIn_region_plain (by kernel_rfl) (by rintro ⟨_, _, h⟩; exact h) ?_
          go_wp2_with fail
          refine ⟨HLZ.out, ?_⟩
          have k1 : (Z.putObj (wC.heap.size + 1) (.loop (rc .busy none))).heap[wC.heap.size + 1]? = some (.loop (rc .busy none)) := putObj_same HLT.out _
          have k2 := (putObj_other (w := Z) (g := wC.heap.size + 1) (k := wC.heap.size) (by omega) (.loop (rc .busy none))).trans HDZ.out
          have k5 : FrB W1.heap.size [wC.heap.size + 1] Z (Z.putObj (wC.heap.size + 1) (.loop (rc .busy none))) := putObj_frB (by simp) _ _
          obtain ⟨Zb, hZb⟩ : ∃ Zb, Z.putObj (wC.heap.size + 1) (.loop (rc .busy none)) = Zb := ⟨_, rfl⟩
          rw [hZb] at k1 k2 k5 ⊢
          have K1 := Lib.hid k1
          have K2 := Lib.hid k2
          have K5 := Lib.hid k5
          clear hZb k1 k2 k5
          iterate 3 gi_step
          refine wpIn_region_plain (by kernel_rfl) (by rintro ⟨_, _, h⟩; exact h) ?_
          go_wp2_with fail
          gi_wp2
          exact ⟨K1.out, K2.out, K5.out⟩
        · rintro e W' (⟨rfl, W3, rfl, hl3, hA1, hA2⟩ | ⟨rfl, c, W3, rfl, hl3, hB⟩)
          · have hl3' := (Array.getElem?_eq_some_iff.1 hl3).1
            exact .inl ⟨rfl, ⟨putObj_same hl3' _, (putObj_other (by omega) _).trans hA1⟩, hA2.trans (putObj_frB (by simp) _ _)⟩
          · exact hB.elim
      case hYf =>
        rintro hnn pre Z ⟨a1, a2⟩ hX
        have b2 := (hX.block w.heap.size (by omega) (by simp; omega)).trans HX1.out.h2
        have b3 := (hX.block (w.heap.size + 1) (by omega) (by simp; omega)).trans HX1.out.h3
        have hZw : Fr [] w Z := HF1.out.then_new hX (by simp; omega)
        refine (yield_round HRC.out hfn' rfl a1 (A := fun _ => False) (B := fun c W3 => c = .ret ∧ W3.heap[wC.heap.size]? = some (.deferred (some [])) ∧ W3.heap[w.heap.size]? = some (.cells #[.pointer none] 47 (0, 0)) ∧ W3.heap[w.heap.size + 1]? = some (.cells #[.int .i64 130] 26 (0, 0)) ∧ Fr [] w W3) ?_).mono ?_
        · have HDZ := Lib.hid a2
          have HLZ := Lib.hid a1
          have B2 := Lib.hid b2
          have B3 := Lib.hid b3
          have HZW := Lib.hid hZw
          have HLT := Lib.hid (Array.getElem?_eq_some_iff.1 a1).1
          clear a1 a2 hX e1 e2 e3 q1 f1 hX1 b2 b3 hZw
          refine wpIn_region_plain (by kernel_rfl) (by rintro ⟨_, _, h⟩; exact h) ?_
          go_wp2_with fail
          refine ⟨HLZ.out, ?_⟩
          have k1 : (Z.putObj (wC.heap.size + 1) (.loop (rc .busy none))).heap[wC.heap.size + 1]? = some (.loop (rc .busy none)) := putObj_same HLT.out _
          have k2 := (putObj_other (w := Z) (g := wC.heap.size + 1) (k := wC.heap.size) (by omega) (.loop (rc .busy none))).trans HDZ.out
          have k3 := (putObj_other (w := Z) (g := wC.heap.size + 1) (k := w.heap.size) (by omega) (.loop (rc .busy none))).trans B2.out
          have k4 := (putObj_other (w := Z) (g := wC.heap.size + 1) (k := w.heap.size + 1) (by omega) (.loop (rc .busy none))).trans B3.out
          have k5 : Fr [] w (Z.putObj (wC.heap.size + 1) (.loop (rc .busy none))) := HZW.out.then_new (putObj_fr (F := [wC.heap.size + 1]) (by simp) _ _) (by simp; omega)
          obtain ⟨Zb, hZb⟩ : ∃ Zb, Z.putObj (wC.heap.size + 1) (.loop (rc .busy none)) = Zb := ⟨_, rfl⟩
          rw [hZb] at k1 k2 k3 k4 k5 ⊢
          have q2 : Zb.cell? ⟨w.heap.size, 0, none⟩ = some (.pointer none) := by rw [cell_of_row Zb w.heap.size 0 _ _ _ k3]; rfl
          have q3 : Zb.cell? ⟨w.heap.size + 1, 0, none⟩ = some (.int .i64 0) := by rw [cell_of_row Zb (w.heap.size + 1) 0 _ _ _ k4]; rfl
          have z2 : Zb.frozen? ⟨w.heap.size, 0, none⟩ = false := frozen_of_row Zb w.heap.size 0 _ _ k3
          have z3 : Zb.frozen? ⟨w.heap.size + 1, 0, none⟩ = false := frozen_of_row Zb (w.heap.size + 1) 0 _ _ k4
          have K1 := Lib.hid k1
          have K2 := Lib.hid k2
          have K3 := Lib.hid k3
          have K4 := Lib.hid k4
          have K5 := Lib.hid k5
          clear hZb k1 k2 k3 k4 k5
          iterate 3 gi_step
          refine wpIn_region_plain (by kernel_rfl) (by rintro ⟨_, _, h⟩; exact h) ?_
          go_wp2_with fail
          iterate 2 gi_step
          refine wpIn_region_plain (by kernel_rfl) (by rintro ⟨_, _, h⟩; exact h) ?_
          go_wp2_with fail
          gi_wp2
          obtain ⟨p1, p2, p3⟩ := cells_ret K3.out K4.out (.pointer none) (.int .i64 130)
          exact ⟨(p3.block _ (Array.getElem?_eq_some_iff.1 K1.out).1 (by simp; omega)).trans K1.out, rfl, (p3.block _ (Array.getElem?_eq_some_iff.1 K2.out).1 (by simp; omega)).trans K2.out, p1, p2, K5.out.then_new p3 (by simp)⟩
        · rintro e W' (⟨rfl, W3, rfl, hl3, hA⟩ | ⟨rfl, c, W3, rfl, hl3, rfl, h1, h2, h3, h4⟩)
          · exact hA.elim
          · have hl3' := (Array.getElem?_eq_some_iff.1 hl3).1
            exact .inr ⟨rfl, putObj_same hl3' _, (putObj_other (by omega) _).trans h1, (putObj_other (by omega) _).trans h2, (putObj_other (by omega) _).trans h3, h4.then_new (putObj_fr (F := [wC.heap.size + 1]) (by simp) _ _) (by simp; omega), hnn⟩
      case fin =>
        rintro e W2 ⟨⟨v, rfl⟩, ⟨pre, hp, ⟨a1, a2⟩, hX2⟩ | ⟨_, h⟩ | ⟨a1, a2, a3, a4, a5, hnn⟩⟩
        · refine ⟨v, rfl, .inl ⟨a1, HK.out _ _ ?_⟩⟩
          have hXf := (HX1.out.fr hX2 (by simp; omega) (by simp; omega) (by simp; omega) (by simp; omega)).fr (putObj_fr (l := wC.heap.size + 1) (F := [wC.heap.size + 1]) (by simp) W2 (.loop (rc .exhausted none))) (by simp; omega) (by simp; omega) (by simp; omega) (by simp; omega)
          have hsz := hX2.size
          have b2 := (putObj_other (w := W2) (g := wC.heap.size + 1) (k := wC.heap.size) (by omega) (.loop (rc .exhausted none))).trans a2
          have hfr : Fr [] w (W2.putObj (wC.heap.size + 1) (.loop (rc .exhausted none))) := (HF1.out.then_new hX2 (by simp; omega)).then_new (putObj_fr (F := [wC.heap.size + 1]) (by simp) _ _) (by simp; omega)
          obtain ⟨X, hX⟩ : ∃ X, W2.putObj (wC.heap.size + 1) (.loop (rc .exhausted none)) = X := ⟨_, rfl⟩
          rw [hX] at hXf b2 hfr ⊢
          have hrs : recs d ≠ none := by rw [hp]; simp
          have q2 : X.cell? ⟨w.heap.size, 0, none⟩ = some (.pointer none) := by rw [cell_of_row X w.heap.size 0 _ _ _ hXf.h2]; rfl
          have q3 : X.cell? ⟨w.heap.size + 1, 0, none⟩ = some (.int .i64 0) := by rw [cell_of_row X (w.heap.size + 1) 0 _ _ _ hXf.h3]; rfl
          have z2 : X.frozen? ⟨w.heap.size, 0, none⟩ = false := frozen_of_row X w.heap.size 0 _ _ hXf.h2
          have z3 : X.frozen? ⟨w.heap.size + 1, 0, none⟩ = false := frozen_of_row X (w.heap.size + 1) 0 _ _ hXf.h3
          have HXF := Lib.hid hXf
          have HB2 := Lib.hid b2
          have HFR := Lib.hid hfr
          have HRS := Lib.hid hrs
          have sX := hXf.lt
          have sG := hXf.glt
          have sD := (Array.getElem?_eq_some_iff.1 b2).1
          clear hX hXf b2 hfr hrs hX2 a1 a2 hp e1 e2 e3 q1 f1 hX1
          dsimp only
          go_wp2_with fail
          obtain ⟨p1, p2, p3⟩ := cells_ret HXF.out.h2 HXF.out.h3 (.pointer (some ⟨w.heap.size + 1 + 1, 0, none⟩)) (.int .i64 0)
          have b3 := (p3.block wC.heap.size sD (by simp; omega)).trans HB2.out
          have fT := putObj_fr (l := wC.heap.size) (F := [wC.heap.size]) (by simp) ((X.setCell ⟨w.heap.size, 0, none⟩ (.pointer (some ⟨w.heap.size + 1 + 1, 0, none⟩))).setCell ⟨w.heap.size + 1, 0, none⟩ (.int .i64 0)) (.deferred none)
          have ojT := (HXF.out.oj.fr p3 (by simp) (by simp; have := HGA.out; omega)).fr fT (by simp; omega) (by simp; omega)
          refine ⟨by simp, .inl ⟨_, _, rfl, run_takeDeferred b3, open_ret rfl rfl ((putObj_other (by omega) _).trans p1) ((putObj_other (by omega) _).trans p2) ⟨(HFR.out.then_new p3 (by simp)).then_new fT (by simp; omega), ?_⟩⟩⟩
          unfold openD
          rw [HPK.out]
          simp only []
          rw [HDD.out, if_neg HRS.out]
          exact ⟨w.heap.size + 2, rfl, ojT.jat, by omega⟩
        · exact h.elim
        · refine ⟨v, rfl, .inr ⟨.ret, a1, wpIn_wide.2 ?_⟩⟩
          have b2 := (putObj_other (w := W2) (g := wC.heap.size + 1) (k := wC.heap.size) (by omega) (.loop (rc .exhausted (some .ret)))).trans a2
          have b3 := (putObj_other (w := W2) (g := wC.heap.size + 1) (k := w.heap.size) (by omega) (.loop (rc .exhausted (some .ret)))).trans a3
          have b4 := (putObj_other (w := W2) (g := wC.heap.size + 1) (k := w.heap.size + 1) (by omega) (.loop (rc .exhausted (some .ret)))).trans a4
          have hfr : Fr [] w (W2.putObj (wC.heap.size + 1) (.loop (rc .exhausted (some .ret)))) := a5.then_new (putObj_fr (F := [wC.heap.size + 1]) (by simp) _ _) (by simp; omega)
          obtain ⟨X, hX⟩ : ∃ X, W2.putObj (wC.heap.size + 1) (.loop (rc .exhausted (some .ret))) = X := ⟨_, rfl⟩
          rw [hX] at b2 b3 b4 hfr ⊢
          have HB2 := Lib.hid b2
          have HB3 := Lib.hid b3
          have HB4 := Lib.hid b4
          have HFR := Lib.hid hfr
          have HNN := Lib.hid hnn
          clear hX b2 b3 b4 hfr hnn a1 a2 a3 a4 a5 e1 e2 e3 q1 f1 hX1
          dsimp only
          go_wp2_with fail
          have fT := putObj_fr (l := wC.heap.size) (F := [wC.heap.size]) (by simp) X (.deferred none)
          refine ⟨by simp, .inl ⟨_, _, rfl, run_takeDeferred HB2.out, open_ret rfl rfl ((putObj_other (by omega) _).trans HB3.out) ((putObj_other (by omega) _).trans HB4.out) ⟨HFR.out.then_new fT (by simp; omega), ?_⟩⟩⟩
          unfold openD
          rw [HPK.out]
          simp only []
          rw [HDD.out, if_pos HNN.out]
          rfl
  | false =>
    go_wp2_with fail
    clear c2n z2n
    rw [rounds_succ]
    go_wp2_with fail
    refine (read_ok 1 1 w2 HO2.out.k HD.out (by omega)).mono ?_
    rintro e w4 ⟨v4, rfl, ho4, hf4⟩
    obtain ⟨g4, cap4, rfl, hg4, hl4, hc4, hc4', hr4, _⟩ := own_slice ho4 (by omega)
    have HR4 := Lib.hid hr4
    have HO4 := Lib.hid (HO2.out.fr0 hf4)
    have HF4 := Lib.hid (HF2.out.trans hf4)
    have sl4 := HO4.out.lt
    clear ho4 hf4 hr4 HO2 HF2
    go_wp2_with (go_at_call 38; refine (room_some _ HO4.out.k).mono ?_; rintro e w' ⟨rfl, rfl⟩)
    rw [show ((D.n : Int) - 2) * 64 = (((D.n - 2) * 64 : Nat) : Int) by omega]
    refine (read_any g4 0 cap4 ((D.n - 2) * 64) (hd1 D) w4 hc4 hc4' (by omega) HR4.out).mono ?_
    rintro e w5 ⟨rfl, hf5⟩
    have HO5 := Lib.hid (HO4.out.fr0 hf5)
    have HF5 := Lib.hid (HF4.out.trans hf5)
    have sl5 := HO5.out.lt
    have c5n := HO5.out.cn
    have z5n := HO5.out.fz 1
    clear hf5 HO4 HF4 HR4
    cases h1 : okH (hd1 D) ((D.n - 2) * 64) with
    | true =>
      go_wp2_with fail
      have HO6 : Hid (OW (w5.setCell ⟨w.heap.size + 1 + 1, 1, none⟩ (.int .u64 (hN (hd1 D) : Int))) w.heap.size db lb mb D (hN (hd1 D))) := Lib.hid (HO5.out.set1 (hN (hd1 D)))
      have HF6 : Hid (Fr [] w (w5.setCell ⟨w.heap.size + 1 + 1, 1, none⟩ (.int .u64 (hN (hd1 D) : Int)))) := Lib.hid (HF5.out.then_new (Fr.setCell (F := [w.heap.size + 1 + 1]) _ (by simp) _) (by simp; omega))
      obtain ⟨w6, hw6⟩ : ∃ w6, w5.setCell ⟨w.heap.size + 1 + 1, 1, none⟩ (.int .u64 (hN (hd1 D) : Int)) = w6 := ⟨_, rfl⟩
      rw [hw6] at HO6 HF6 ⊢
      have sl6 := HO6.out.lt
      clear hw6 HO5 HF5
      clear c5n z5n
      have hpk : pickF D = some (hN (hd1 D), hL (hd1 D)) := by simp [pickF, h0, h1]
      have hLr : hL (hd1 D) ≤ (D.n - 2) * 64 := okH_le h1
      have HPK := Lib.hid hpk
      clear hpk h0 h1
      rw [rounds_succ]
      go_wp2_with (go_at_call 24; refine (size_some _ HO6.out.k).mono ?_; rintro e w' ⟨rfl, rfl⟩)
      rw [show ((D.n : Int) - 2) = ((D.n - 2 : Nat) : Int) by omega]
      refine (read_ok 2 (D.n - 2) w6 HO6.out.k HD.out (by omega)).mono ?_
      rintro e wA ⟨vA, rfl, hoA, hfA⟩
      obtain ⟨gA, capA, rfl, hgA, hlA, hcA, hcA', hrA, CA, hCA⟩ := own_slice hoA (by omega)
      have HRA := Lib.hid hrA
      have HCA := Lib.hid hCA
      have HOA := Lib.hid (HO6.out.fr0 hfA)
      have HFA := Lib.hid (HF6.out.trans hfA)
      have slA := HOA.out.lt
      have cA := HOA.out.cd
      have zA := HOA.out.fz 2
      have hLb : hL (hd1 D) ≤ 64 * (D.n - 2) := by omega
      have hLm : (hL (hd1 D)) ≤ 9223372036854775807 := by omega
      have HGA := Lib.hid hgA
      clear hoA hfA hrA hCA HO6 HF6 hgA
      go_wp2_with fail
      obtain ⟨d, hdd⟩ : ∃ d, secL (hL (hd1 D)) (dat D) = d := ⟨_, rfl⟩
      have hdl : d.length = hL (hd1 D) := by rw [← hdd, secL_len]
      have HDD : Hid (secL d.length (dat D) = d) := by rw [hdl]; exact Lib.hid hdd
      have HOX : Hid (OX (wA.setCell ⟨w.heap.size + 1 + 1, 2, none⟩ (.slice (some ⟨gA, 0, none⟩) (hL (hd1 D)) (hL (hd1 D)))) w.heap.size db (hN (hd1 D)) d gA) := by
        have h := HOA.out.full hLb HRA.out HCA.out (by unfold maxLen; omega)
        rw [show secL (hL (hd1 D)) (fun j => D.now (64 * 2 + j)) = d from hdd] at h
        exact Lib.hid h
      have hfB : Fr [] w (wA.setCell ⟨w.heap.size + 1 + 1, 2, none⟩ (.slice (some ⟨gA, 0, none⟩) (hL (hd1 D)) (hL (hd1 D)))) := HFA.out.then_new (Fr.setCell (F := [w.heap.size + 1 + 1]) _ (by simp) _) (by simp; omega)
      rw [← hdl] at HOX hfB HPK hLb ⊢
      obtain ⟨wB, hwB⟩ : ∃ wB, (wA.setCell ⟨w.heap.size + 1 + 1, 2, none⟩ (.slice (some ⟨gA, 0, none⟩) d.length d.length)) = wB := ⟨_, rfl⟩
      rw [hwB] at HOX hfB ⊢
      have slB := HOX.out.lt
      have sgB := HOX.out.glt
      have hgab : w.heap.size + 2 < gA := by have := HGA.out; omega
      clear hdl hdd hwB cA zA HRA HCA HOA HFA hLm hLr
      refine ((callsIn_wide (n := 10)).1 (jrecords_in 10 _ _ _ _)).mono ?_
      rintro e wC ⟨rfl, hwC⟩
      have o1 : wC.heap[wB.heap.size]? = some (.cells #[.slice (some ⟨gA, 0, none⟩) d.length d.length] 31 (0, 0)) := by rw [hwC]; exact heap_alloc_new _ _
      have fC : Fr [] wB wC := by rw [hwC]; exact Fr.alloc _ _ _
      have sC1 : wC.heap.size ≤ wB.heap.size + 1 := by rw [hwC]; simp
      have sC2 : wB.heap.size + 1 ≤ wC.heap.size := by rw [hwC]; simp
      clear hwC
      have HO1 := Lib.hid o1
      have HFC := Lib.hid fC
      have HFB := Lib.hid hfB
      clear o1 fC hfB
      go_wp2_with fail
      rename_i Kr hKr K hK
      clear hKr
      have HK := Lib.hid hK
      clear hK
      have hfn : ∀ f, Fence.wide.fn f := fun _ => trivial
      refine (wpIn_wide (n := 10)).1 ?_
      refine range_open rfl (by omega) (gf := 49) (lb := #[.pointer (some ⟨wB.heap.size, 0, none⟩)]) rfl trivial (enters_of Try.func49 (by kernel_rfl) rfl) (fun fn hfn' rc hrc W1 hW1 => ?_)
      have e1 : W1.heap[wC.heap.size + 1]? = some (.loop (rc .ready none)) := by
        have := heap_alloc_new (wC.alloc (.deferred (some []))) (.loop (rc .ready none))
        rw [hW1]; simpa using this
      have e2 : W1.heap[wC.heap.size]? = some (.deferred (some [])) := by rw [hW1]; exact (Below.heap_alloc _ _ _ (by simp)).trans (heap_alloc_new _ _)
      have e3 : Fr [] wC W1 := by rw [hW1]; exact (Fr.alloc _ _ _).trans (Fr.alloc _ _ _)
      have e5 : W1.heap.size ≤ wC.heap.size + 2 := by rw [hW1]; simp
      have e6 : wC.heap.size + 2 ≤ W1.heap.size := by rw [hW1]; simp
      clear hW1
      have HRC := Lib.hid hrc
      clear hrc
      have hX1 := HOX.out.fr0 (HFC.out.trans e3)
      have f1 : Fr [] w W1 := (HFB.out.trans HFC.out).trans e3
      have q1 := (e3.block _ (by omega) (by simp)).trans HO1.out
      have HX1 := Lib.hid hX1
      have HF1 := Lib.hid f1
      clear HOX HFC HFB HO1
      refine (records1_in (10 - 1) (by omega) (wC.heap.size + 1) wB.heap.size [wC.heap.size + 1] d (.slice (some ⟨gA, 0, none⟩) d.length d.length)
        (fun _ X => X.heap[wC.heap.size + 1]? = some (.loop (rc .ready none)) ∧ X.heap[wC.heap.size]? = some (.deferred (some []))) (fun _ => False)
        (fun X => X.heap[wC.heap.size + 1]? = some (.loop (rc .done (some .ret))) ∧ X.heap[wC.heap.size]? = some (.deferred (some [])) ∧ X.heap[w.heap.size]? = some (.cells #[.pointer none] 47 (0, 0)) ∧ X.heap[w.heap.size + 1]? = some (.cells #[.int .i64 130] 26 (0, 0)) ∧ Fr [] w X ∧ recs d = none)
        W1 q1 hX1.oj.bt (by omega) (fun k hk => by cases hk; simp; omega) (by simp; omega) ?hJ ?hY ?hYf ⟨e1, e2⟩).mono ?fin
      case hJ =>
        rintro pre X Y ⟨a1, a2⟩ hX hY
        exact ⟨(hY.block _ (Array.getElem?_eq_some_iff.1 a1).1 (by simp; omega)).trans a1, (hY.block _ (Array.getElem?_eq_some_iff.1 a2).1 (by simp; omega)).trans a2⟩
      case hY =>
        rintro pre v r X Z hcnt ⟨a1, a2⟩ hX hXZ hby hblk
        have hlZ := (hXZ.block _ (Array.getElem?_eq_some_iff.1 a1).1 (by simp)).trans a1
        have hDZ := (hXZ.block _ (Array.getElem?_eq_some_iff.1 a2).1 (by simp)).trans a2
        refine (yield_round HRC.out hfn' rfl hlZ (A := fun W3 => W3.heap[wC.heap.size]? = some (.deferred (some [])) ∧ FrB W1.heap.size [wC.heap.size + 1] Z W3) (B := fun _ _ => False) ?_).mono ?_
        · have HDZ := Lib.hid hDZ
          have HLZ := Lib.hid hlZ
          have HLT := Lib.hid (Array.getElem?_eq_some_iff.1 hlZ).1
          clear hby hblk hDZ a1 a2 hX hXZ hlZ e1 e2 e3 q1 f1 hX1
          refine wpIn_region_plain (by kernel_rfl) (by rintro ⟨_, _, h⟩; exact h) ?_
          go_wp2_with fail
          refine ⟨HLZ.out, ?_⟩
          have k1 : (Z.putObj (wC.heap.size + 1) (.loop (rc .busy none))).heap[wC.heap.size + 1]? = some (.loop (rc .busy none)) := putObj_same HLT.out _
          have k2 := (putObj_other (w := Z) (g := wC.heap.size + 1) (k := wC.heap.size) (by omega) (.loop (rc .busy none))).trans HDZ.out
          have k5 : FrB W1.heap.size [wC.heap.size + 1] Z (Z.putObj (wC.heap.size + 1) (.loop (rc .busy none))) := putObj_frB (by simp) _ _
          obtain ⟨Zb, hZb⟩ : ∃ Zb, Z.putObj (wC.heap.size + 1) (.loop (rc .busy none)) = Zb := ⟨_, rfl⟩
          rw [hZb] at k1 k2 k5 ⊢
          have K1 := Lib.hid k1
          have K2 := Lib.hid k2
          have K5 := Lib.hid k5
          clear hZb k1 k2 k5
          iterate 3 gi_step
          refine wpIn_region_plain (by kernel_rfl) (by rintro ⟨_, _, h⟩; exact h) ?_
          go_wp2_with fail
          gi_wp2
          exact ⟨K1.out, K2.out, K5.out⟩
        · rintro e W' (⟨rfl, W3, rfl, hl3, hA1, hA2⟩ | ⟨rfl, c, W3, rfl, hl3, hB⟩)
          · have hl3' := (Array.getElem?_eq_some_iff.1 hl3).1
            exact .inl ⟨rfl, ⟨putObj_same hl3' _, (putObj_other (by omega) _).trans hA1⟩, hA2.trans (putObj_frB (by simp) _ _)⟩
          · exact hB.elim
      case hYf =>
        rintro hnn pre Z ⟨a1, a2⟩ hX
        have b2 := (hX.block w.heap.size (by omega) (by simp; omega)).trans HX1.out.h2
        have b3 := (hX.block (w.heap.size + 1) (by omega) (by simp; omega)).trans HX1.out.h3
        have hZw : Fr [] w Z := HF1.out.then_new hX (by simp; omega)
        refine (yield_round HRC.out hfn' rfl a1 (A := fun _ => False) (B := fun c W3 => c = .ret ∧ W3.heap[wC.heap.size]? = some (.deferred (some [])) ∧ W3.heap[w.heap.size]? = some (.cells #[.pointer none] 47 (0, 0)) ∧ W3.heap[w.heap.size + 1]? = some (.cells #[.int .i64 130] 26 (0, 0)) ∧ Fr [] w W3) ?_).mono ?_
        · have HDZ := Lib.hid a2
          have HLZ := Lib.hid a1
          have B2 := Lib.hid b2
          have B3 := Lib.hid b3
          have HZW := Lib.hid hZw
          have HLT := Lib.hid (Array.getElem?_eq_some_iff.1 a1).1
          clear a1 a2 hX e1 e2 e3 q1 f1 hX1 b2 b3 hZw
          refine wpIn_region_plain (by kernel_rfl) (by rintro ⟨_, _, h⟩; exact h) ?_
          go_wp2_with fail
          refine ⟨HLZ.out, ?_⟩
          have k1 : (Z.putObj (wC.heap.size + 1) (.loop (rc .busy none))).heap[wC.heap.size + 1]? = some (.loop (rc .busy none)) := putObj_same HLT.out _
          have k2 := (putObj_other (w := Z) (g := wC.heap.size + 1) (k := wC.heap.size) (by omega) (.loop (rc .busy none))).trans HDZ.out
          have k3 := (putObj_other (w := Z) (g := wC.heap.size + 1) (k := w.heap.size) (by omega) (.loop (rc .busy none))).trans B2.out
          have k4 := (putObj_other (w := Z) (g := wC.heap.size + 1) (k := w.heap.size + 1) (by omega) (.loop (rc .busy none))).trans B3.out
          have k5 : Fr [] w (Z.putObj (wC.heap.size + 1) (.loop (rc .busy none))) := HZW.out.then_new (putObj_fr (F := [wC.heap.size + 1]) (by simp) _ _) (by simp; omega)
          obtain ⟨Zb, hZb⟩ : ∃ Zb, Z.putObj (wC.heap.size + 1) (.loop (rc .busy none)) = Zb := ⟨_, rfl⟩
          rw [hZb] at k1 k2 k3 k4 k5 ⊢
          have q2 : Zb.cell? ⟨w.heap.size, 0, none⟩ = some (.pointer none) := by rw [cell_of_row Zb w.heap.size 0 _ _ _ k3]; rfl
          have q3 : Zb.cell? ⟨w.heap.size + 1, 0, none⟩ = some (.int .i64 0) := by rw [cell_of_row Zb (w.heap.size + 1) 0 _ _ _ k4]; rfl
          have z2 : Zb.frozen? ⟨w.heap.size, 0, none⟩ = false := frozen_of_row Zb w.heap.size 0 _ _ k3
          have z3 : Zb.frozen? ⟨w.heap.size + 1, 0, none⟩ = false := frozen_of_row Zb (w.heap.size + 1) 0 _ _ k4
          have K1 := Lib.hid k1
          have K2 := Lib.hid k2
          have K3 := Lib.hid k3
          have K4 := Lib.hid k4
          have K5 := Lib.hid k5
          clear hZb k1 k2 k3 k4 k5
          iterate 3 gi_step
          refine wpIn_region_plain (by kernel_rfl) (by rintro ⟨_, _, h⟩; exact h) ?_
          go_wp2_with fail
          iterate 2 gi_step
          refine wpIn_region_plain (by kernel_rfl) (by rintro ⟨_, _, h⟩; exact h) ?_
          go_wp2_with fail
          gi_wp2
          obtain ⟨p1, p2, p3⟩ := cells_ret K3.out K4.out (.pointer none) (.int .i64 130)
          exact ⟨(p3.block _ (Array.getElem?_eq_some_iff.1 K1.out).1 (by simp; omega)).trans K1.out, rfl, (p3.block _ (Array.getElem?_eq_some_iff.1 K2.out).1 (by simp; omega)).trans K2.out, p1, p2, K5.out.then_new p3 (by simp)⟩
        · rintro e W' (⟨rfl, W3, rfl, hl3, hA⟩ | ⟨rfl, c, W3, rfl, hl3, rfl, h1, h2, h3, h4⟩)
          · exact hA.elim
          · have hl3' := (Array.getElem?_eq_some_iff.1 hl3).1
            exact .inr ⟨rfl, putObj_same hl3' _, (putObj_other (by omega) _).trans h1, (putObj_other (by omega) _).trans h2, (putObj_other (by omega) _).trans h3, h4.then_new (putObj_fr (F := [wC.heap.size + 1]) (by simp) _ _) (by simp; omega), hnn⟩
      case fin =>
        rintro e W2 ⟨⟨v, rfl⟩, ⟨pre, hp, ⟨a1, a2⟩, hX2⟩ | ⟨_, h⟩ | ⟨a1, a2, a3, a4, a5, hnn⟩⟩
        · refine ⟨v, rfl, .inl ⟨a1, HK.out _ _ ?_⟩⟩
          have hXf := (HX1.out.fr hX2 (by simp; omega) (by simp; omega) (by simp; omega) (by simp; omega)).fr (putObj_fr (l := wC.heap.size + 1) (F := [wC.heap.size + 1]) (by simp) W2 (.loop (rc .exhausted none))) (by simp; omega) (by simp; omega) (by simp; omega) (by simp; omega)
          have hsz := hX2.size
          have b2 := (putObj_other (w := W2) (g := wC.heap.size + 1) (k := wC.heap.size) (by omega) (.loop (rc .exhausted none))).trans a2
          have hfr : Fr [] w (W2.putObj (wC.heap.size + 1) (.loop (rc .exhausted none))) := (HF1.out.then_new hX2 (by simp; omega)).then_new (putObj_fr (F := [wC.heap.size + 1]) (by simp) _ _) (by simp; omega)
          obtain ⟨X, hX⟩ : ∃ X, W2.putObj (wC.heap.size + 1) (.loop (rc .exhausted none)) = X := ⟨_, rfl⟩
          rw [hX] at hXf b2 hfr ⊢
          have hrs : recs d ≠ none := by rw [hp]; simp
          have q2 : X.cell? ⟨w.heap.size, 0, none⟩ = some (.pointer none) := by rw [cell_of_row X w.heap.size 0 _ _ _ hXf.h2]; rfl
          have q3 : X.cell? ⟨w.heap.size + 1, 0, none⟩ = some (.int .i64 0) := by rw [cell_of_row X (w.heap.size + 1) 0 _ _ _ hXf.h3]; rfl
          have z2 : X.frozen? ⟨w.heap.size, 0, none⟩ = false := frozen_of_row X w.heap.size 0 _ _ hXf.h2
          have z3 : X.frozen? ⟨w.heap.size + 1, 0, none⟩ = false := frozen_of_row X (w.heap.size + 1) 0 _ _ hXf.h3
          have HXF := Lib.hid hXf
          have HB2 := Lib.hid b2
          have HFR := Lib.hid hfr
          have HRS := Lib.hid hrs
          have sX := hXf.lt
          have sG := hXf.glt
          have sD := (Array.getElem?_eq_some_iff.1 b2).1
          clear hX hXf b2 hfr hrs hX2 a1 a2 hp e1 e2 e3 q1 f1 hX1
          dsimp only
          go_wp2_with fail
          obtain ⟨p1, p2, p3⟩ := cells_ret HXF.out.h2 HXF.out.h3 (.pointer (some ⟨w.heap.size + 1 + 1, 0, none⟩)) (.int .i64 0)
          have b3 := (p3.block wC.heap.size sD (by simp; omega)).trans HB2.out
          have fT := putObj_fr (l := wC.heap.size) (F := [wC.heap.size]) (by simp) ((X.setCell ⟨w.heap.size, 0, none⟩ (.pointer (some ⟨w.heap.size + 1 + 1, 0, none⟩))).setCell ⟨w.heap.size + 1, 0, none⟩ (.int .i64 0)) (.deferred none)
          have ojT := (HXF.out.oj.fr p3 (by simp) (by simp; have := HGA.out; omega)).fr fT (by simp; omega) (by simp; omega)
          refine ⟨by simp, .inl ⟨_, _, rfl, run_takeDeferred b3, open_ret rfl rfl ((putObj_other (by omega) _).trans p1) ((putObj_other (by omega) _).trans p2) ⟨(HFR.out.then_new p3 (by simp)).then_new fT (by simp; omega), ?_⟩⟩⟩
          unfold openD
          rw [HPK.out]
          simp only []
          rw [HDD.out, if_neg HRS.out]
          exact ⟨w.heap.size + 2, rfl, ojT.jat, by omega⟩
        · exact h.elim
        · refine ⟨v, rfl, .inr ⟨.ret, a1, wpIn_wide.2 ?_⟩⟩
          have b2 := (putObj_other (w := W2) (g := wC.heap.size + 1) (k := wC.heap.size) (by omega) (.loop (rc .exhausted (some .ret)))).trans a2
          have b3 := (putObj_other (w := W2) (g := wC.heap.size + 1) (k := w.heap.size) (by omega) (.loop (rc .exhausted (some .ret)))).trans a3
          have b4 := (putObj_other (w := W2) (g := wC.heap.size + 1) (k := w.heap.size + 1) (by omega) (.loop (rc .exhausted (some .ret)))).trans a4
          have hfr : Fr [] w (W2.putObj (wC.heap.size + 1) (.loop (rc .exhausted (some .ret)))) := a5.then_new (putObj_fr (F := [wC.heap.size + 1]) (by simp) _ _) (by simp; omega)
          obtain ⟨X, hX⟩ : ∃ X, W2.putObj (wC.heap.size + 1) (.loop (rc .exhausted (some .ret))) = X := ⟨_, rfl⟩
          rw [hX] at b2 b3 b4 hfr ⊢
          have HB2 := Lib.hid b2
          have HB3 := Lib.hid b3
          have HB4 := Lib.hid b4
          have HFR := Lib.hid hfr
          have HNN := Lib.hid hnn
          clear hX b2 b3 b4 hfr hnn a1 a2 a3 a4 a5 e1 e2 e3 q1 f1 hX1
          dsimp only
          go_wp2_with fail
          have fT := putObj_fr (l := wC.heap.size) (F := [wC.heap.size]) (by simp) X (.deferred none)
          refine ⟨by simp, .inl ⟨_, _, rfl, run_takeDeferred HB2.out, open_ret rfl rfl ((putObj_other (by omega) _).trans HB3.out) ((putObj_other (by omega) _).trans HB4.out) ⟨HFR.out.then_new fT (by simp; omega), ?_⟩⟩⟩
          unfold openD
          rw [HPK.out]
          simp only []
          rw [HDD.out, if_pos HNN.out]
          rfl
    | false =>
      go_wp2_with fail
      rw [rounds_succ]
      have hpk : pickF D = none := by simp [pickF, h0, h1]
      have l2 := HO5.out.lt
      have HPK := Lib.hid hpk
      clear c5n z5n hpk
      have q2 : w5.cell? ⟨w.heap.size, 0, none⟩ = some (.pointer none) := by rw [cell_of_row w5 w.heap.size 0 _ _ _ HO5.out.h2]; rfl
      have q3 : w5.cell? ⟨w.heap.size + 1, 0, none⟩ = some (.int .i64 0) := by rw [cell_of_row w5 (w.heap.size + 1) 0 _ _ _ HO5.out.h3]; rfl
      have z2 : w5.frozen? ⟨w.heap.size, 0, none⟩ = false := frozen_of_row w5 w.heap.size 0 _ _ HO5.out.h2
      have z3 : w5.frozen? ⟨w.heap.size + 1, 0, none⟩ = false := frozen_of_row w5 (w.heap.size + 1) 0 _ _ HO5.out.h3
      go_wp2_with fail
      obtain ⟨p1, p2, p3⟩ := HO5.out.ret (.pointer none) (.int .i64 130)
      exact open_ret rfl rfl p1 p2 ⟨HF5.out.then_new p3 (by simp), by unfold openD; rw [HPK.out]; rfl⟩
end Go.Proofs.Ytgfdbjeliojhkaa
