/-
  EdiY2: words and laws for the table of a byteStringReplacer. No condition beyond those stated.
-/
import Derived.Test.YtpfkmklhfafkiaaEdiY1
namespace Go.Proofs.Ytpfkmklhfafkiaa
open Go.RowKit
section
variable {P : Program} {ops : Array Oper} {rest : List Oper} {o : Oper} {a : Act} {w : World} {Q : Exit → Act → World → Prop}
/-- a new variable of a type of rows -/
theorem wpList_allocZ (hgd : o.guard = none) (ty : TypeId) (ho : o.op = .alloc ty) (Z : Array Value) (hz : ∀ w, (zeroValue ty).run P w = .ok (.agg Z) w)
    (h : wpList P ops Q rest (a.put o.dst (.pointer (some ⟨w.heap.size, 0, none⟩))) (w.alloc (.cells Z ty))) : wpList P ops Q (o :: rest) a w := by
  refine wpList_val (v := .pointer (some ⟨w.heap.size, 0, none⟩)) (w' := w.alloc (.cells Z ty)) hgd ?_ h
  unfold execOp
  simp only [ho, Instr.alloc, Sem.run_bind, hz, Result.andThen_ok, newVar, newRow, newObj, Sem.run, Value.cells, Sem.run_pure]
  rfl
theorem wpList_storeZ (hgd : o.guard = none) (ty : TypeId) (x y : Operand) (ho : o.op = .store ty x y) (Z C : Array Value) (H : Nat) (hH : w.heap.size = H)
    (hx : a.eval x = .pointer (some ⟨H, 0, none⟩)) (hy : a.eval y = .agg C) (hi : (P.info? ty).map (·.size) = some C.size) (hs : Z.size = C.size) (h1 : C.all (·.oneCell') = true)
    (h : wpList P ops Q rest (a.put o.dst undef) (w.alloc (.cells C ty))) : wpList P ops Q (o :: rest) a (w.alloc (.cells Z ty)) :=
  wpList_plain hgd fun _ hK => by
    subst hH
    unfold Oper.wp execOp
    simp only [ho, hx, hy, Sem.run_bind, run_storeAt_new w ty Z C hi hs h1, Result.andThen_ok, Sem.run_pure]
    exact hK _ _ h
theorem wpList_buildZ (hgd : o.guard = none) (ty : TypeId) (i : Nat) (x : Operand) (ho : o.op = .build ty #[(i, x)]) (v : Value) (C : Array Value) (hx : a.eval x = v) (hb : ∀ w, (Instr.build ty #[(i, v)]).run P w = .ok (.agg C) w)
    (h : wpList P ops Q rest (a.put o.dst (.agg C)) w) : wpList P ops Q (o :: rest) a w := by
  refine wpList_val (v := .agg C) hgd ?_ h
  unfold execOp
  simp only [ho, hx, Array.map, List.mapM_toArray, List.mapM_cons, List.mapM_nil]
  simp [hb]
end
def nilsA (n : Nat) : Array Value := (List.replicate n (Value.slice none 0 0)).toArray
def tabZ : Array Value := nilsA 257
def tabC (v : Value) : Array Value := (List.replicate 256 (Value.slice none 0 0) ++ [v]).toArray
theorem zero_bsr (w : World) : (zeroValue 108).run Try.prog w = .ok (.agg tabZ) w := by kernel_rfl
theorem build_bsr (b n c : Nat) (w : World) : (Instr.build 108 #[(1, .slice (some ⟨b, 0, none⟩) n c)]).run Try.prog w = .ok (.agg (tabC (.slice (some ⟨b, 0, none⟩) n c))) w := by kernel_rfl
theorem info_bsr : (Try.prog.info? 108).map (·.size) = some 257 := by kernel_rfl
theorem tabC_size (v : Value) : (tabC v).size = 257 := by unfold tabC; rw [List.size_toArray, List.length_append, List.length_replicate]; rfl
theorem tabZ_size : tabZ.size = 257 := by unfold tabZ nilsA; rw [List.size_toArray, List.length_replicate]
theorem tabC_one (b n c : Nat) : (tabC (.slice (some ⟨b, 0, none⟩) n c)).all (·.oneCell') = true := by
  unfold tabC
  refine all_oneCell_toArray fun v hv => ?_
  rw [List.mem_append] at hv
  rcases hv with hv | hv
  · rw [(List.mem_replicate.1 hv).2]; rfl
  · rw [List.mem_singleton.1 hv]; rfl
/-- block g is a table: of the bytes D the replacements lie in it, of the bytes E the names -/
structure TabX (w : World) (B g : Nat) (D E : List UInt8) (C : Array Value) (tv : Value) : Prop where
  hg : w.heap[g]? = some (.cells C 108 (0, 0))
  hB : B ≤ g
  sz : C.size = 257
  at_ : C[256]? = some tv
  own : w.ownsRow B 9 1 tv E.length (E.map fun c => sv [c])
  no : ∀ c : UInt8, c ∉ D → C[c.toNat]? = some (.slice none 0 0)
  yes : ∀ c : UInt8, c ∈ D → ∃ b cap, C[c.toNat]? = some (.slice (some ⟨b, 0, none⟩) 2 cap) ∧ 2 ≤ cap ∧ cap ≤ maxLen ∧ B ≤ b ∧ b ≠ g ∧ tv.ownBlock ≠ some b ∧ w.cell? ⟨b, 0, none⟩ = some (bv 63) ∧ w.cell? ⟨b, 1, none⟩ = some (bv c)
def TabAt (w : World) (B g : Nat) (D E : List UInt8) : Prop := ∃ C tv, TabX w B g D E C tv
theorem TabX.cong {w w' : World} {B g : Nat} {D E : List UInt8} {C : Array Value} {tv : Value} (h : TabX w B g D E C tv) (e : ∀ k, B ≤ k → k < w.heap.size → w'.heap[k]? = w.heap[k]?) : TabX w' B g D E C tv := by
  have hg : g < w.heap.size := (Array.getElem?_eq_some_iff.1 h.hg).1
  refine ⟨(e g h.hB hg).trans h.hg, h.hB, h.sz, h.at_, own_cong h.own (fun k hk => e k (own_lt h.own hk).1 (own_lt h.own hk).2), h.no, fun c hc => ?_⟩
  obtain ⟨b, cap, a1, a2, a2', a3, a4, a5, a6, a7⟩ := h.yes c hc
  have hb := cell_lt' a6
  exact ⟨b, cap, a1, a2, a2', a3, a4, a5, (cell_ag (e b a3 hb)).trans a6, (cell_ag (e b a3 hb)).trans a7⟩
theorem TabX.neg {w : World} {B g : Nat} {D E : List UInt8} {C : Array Value} {tv : Value} (h : TabX w B g D E C tv) : tv.ownBlock ≠ some g := fun hk => by
  obtain ⟨X, hx, _⟩ := own_ty h.own hk
  exact ty_ne hx h.hg (by decide) rfl
theorem TabX.lt {w : World} {B g : Nat} {D E : List UInt8} {C : Array Value} {tv : Value} (h : TabX w B g D E C tv) : g < w.heap.size := (Array.getElem?_eq_some_iff.1 h.hg).1
theorem TabX.cell {w : World} {B g : Nat} {D E : List UInt8} {C : Array Value} {tv : Value} (h : TabX w B g D E C tv) (j : Nat) : w.cell? ⟨g, j, none⟩ = C[j]? := cell_of_row w g j _ _ _ h.hg
theorem TabX.fz {w : World} {B g : Nat} {D E : List UInt8} {C : Array Value} {tv : Value} (h : TabX w B g D E C tv) (j : Nat) : w.frozen? ⟨g, j, none⟩ = false := frozen_of_row w g j _ _ h.hg
/-- a name more -/
theorem TabX.app {w w1 : World} {B g : Nat} {D E : List UInt8} {C : Array Value} {tv tv' : Value} {c : UInt8} (h : TabX w B g D E C tv) (_hs : w.heap.size ≤ w1.heap.size) (hb : ∀ k, k < w.heap.size → tv.ownBlock ≠ some k → w1.heap[k]? = w.heap[k]?)
    (ho : w1.ownsRow B 9 1 tv' (E.length + 1) (E.map (fun c => sv [c]) ++ [sv [c]])) (hk : tv'.ownBlock = tv.ownBlock ∨ ∃ H, tv'.ownBlock = some H ∧ w.heap.size ≤ H) :
    TabX (w1.setCell ⟨g, 256, none⟩ tv') B g D (E ++ [c]) (C.setIfInBounds 256 tv') tv' := by
  have h1 : w1.heap[g]? = some (.cells C 108 (0, 0)) := (hb g h.lt h.neg).trans h.hg
  have ng : tv'.ownBlock ≠ some g := by
    rcases hk with hk | ⟨H, hk, hH⟩
    · rw [hk]; exact h.neg
    · rw [hk]; intro e; have := Option.some.inj e; have := h.lt; omega
  refine ⟨heap_setCell_same w1 g 256 _ _ _ h1, h.hB, by rw [Array.size_setIfInBounds]; exact h.sz, by rw [Array.getElem?_setIfInBounds_self_of_lt (by rw [h.sz]; decide)], ?_, fun x hx => ?_, fun x hx => ?_⟩
  · rw [List.length_append, List.length_singleton, List.map_append, List.map_singleton]
    exact own_cong ho (fun k hk' => heap_setCell_other w1 _ _ _ (fun e => ng (by rw [hk']; exact congrArg some e)))
  · have := x.toNat_lt
    rw [Array.getElem?_setIfInBounds_ne (by omega)]; exact h.no x hx
  · obtain ⟨b, cap, a1, a2, a2', a3, a4, a5, a6, a7⟩ := h.yes x hx
    have hbl := cell_lt' a6
    have := x.toNat_lt
    have e : (w1.setCell ⟨g, 256, none⟩ tv').heap[b]? = w.heap[b]? := (heap_setCell_other w1 _ _ _ a4).trans (hb b hbl a5)
    refine ⟨b, cap, by rw [Array.getElem?_setIfInBounds_ne (by omega)]; exact a1, a2, a2', a3, a4, ?_, (cell_ag e).trans a6, (cell_ag e).trans a7⟩
    rcases hk with hk | ⟨H, hk, hH⟩
    · rw [hk]; exact a5
    · rw [hk]; intro e; have := Option.some.inj e; omega
/-- a replacement more -/
theorem TabX.put {w w1 : World} {B g nb cap : Nat} {D E : List UInt8} {C : Array Value} {tv : Value} {c : UInt8} (h : TabX w B g D E C tv) (hb : ∀ k, k < w.heap.size → w1.heap[k]? = w.heap[k]?) (hnb : nb = w.heap.size) (hBw : B ≤ w.heap.size)
    (hc0 : w1.cell? ⟨nb, 0, none⟩ = some (bv 63)) (hc1 : w1.cell? ⟨nb, 1, none⟩ = some (bv c)) (h2 : 2 ≤ cap) (hm : cap ≤ maxLen) :
    TabX (w1.setCell ⟨g, c.toNat, none⟩ (.slice (some ⟨nb, 0, none⟩) 2 cap)) B g (D ++ [c]) E (C.setIfInBounds c.toNat (.slice (some ⟨nb, 0, none⟩) 2 cap)) tv := by
  have hcl := c.toNat_lt
  have hgl := h.lt
  have h1 : w1.heap[g]? = some (.cells C 108 (0, 0)) := (hb g hgl).trans h.hg
  have hne : nb ≠ g := by omega
  have en : (w1.setCell ⟨g, c.toNat, none⟩ (.slice (some ⟨nb, 0, none⟩) 2 cap)).heap[nb]? = w1.heap[nb]? := heap_setCell_other w1 _ _ _ hne
  have ht : ∀ k, tv.ownBlock = some k → k < w.heap.size ∧ k ≠ g := fun k hk => ⟨(own_lt h.own hk).2, fun e => h.neg (e ▸ hk)⟩
  refine ⟨heap_setCell_same w1 g _ _ _ _ h1, h.hB, by rw [Array.size_setIfInBounds]; exact h.sz, by rw [Array.getElem?_setIfInBounds_ne (by omega)]; exact h.at_, own_cong h.own (fun k hk => (heap_setCell_other w1 _ _ _ (ht k hk).2).trans (hb k (ht k hk).1)), fun x hx => ?_, fun x hx => ?_⟩
  · rw [List.mem_append, List.mem_singleton, not_or] at hx
    have hn : c.toNat ≠ x.toNat := fun e => hx.2 (UInt8.toNat_inj.1 e.symm)
    rw [Array.getElem?_setIfInBounds_ne hn]; exact h.no x hx.1
  · by_cases hxc : x = c
    · subst hxc
      exact ⟨nb, cap, by rw [Array.getElem?_setIfInBounds_self_of_lt (by rw [h.sz]; omega)], h2, hm, by omega, hne, fun e => by have := (ht nb e).1; omega, (cell_ag en).trans hc0, (cell_ag en).trans hc1⟩
    · have hx' : x ∈ D := by
        rw [List.mem_append, List.mem_singleton] at hx
        exact hx.resolve_right hxc
      have hn : c.toNat ≠ x.toNat := fun e => hxc (UInt8.toNat_inj.1 e.symm)
      obtain ⟨b, cap', a1, a2, a2', a3, a4, a5, a6, a7⟩ := h.yes x hx'
      have e := (heap_setCell_other w1 ⟨g, c.toNat, none⟩ b (.slice (some ⟨nb, 0, none⟩) 2 cap) a4).trans (hb b (cell_lt' a6))
      exact ⟨b, cap', by rw [Array.getElem?_setIfInBounds_ne hn]; exact a1, a2, a2', a3, a4, a5, (cell_ag e).trans a6, (cell_ag e).trans a7⟩
end Go.Proofs.Ytpfkmklhfafkiaa
