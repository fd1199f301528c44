/-
  Texts EdiY2, EdiY3, EdiY4, EdiY5, EdiJ, EdiK, EdiL, EdiN, EdiO, EdiQ, one behind the other. No condition beyond those stated in each.
-/
import Derived.Test.YtgfijlamhjjecaaGreatDoorMp3
import Derived.Lib.SliceRun
import Derived.Laws.IdiomStrings
import Derived.Test.YtgfijlamhjjecaaGreatDoorEdiShelf
/-
  EdiY2: words and laws for the table of a byteStringReplacer. No condition beyond those stated.
-/
namespace Go.Proofs.YtgfijlamhjjecaaGreatDoor
open Go.RowKit
section
variable {P : Program} {ops : Array Oper} {rest : List Oper} {o : Oper} {a : Act} {w : World} {Q : Exit → Act → World → Prop}
/-- a new variable of a type of rows -/
theorem wpList_allocZ (hgd : o.guard = none) (ty : TypeId) (ho : o.op = .alloc ty) (Z : Array Value) (hz : ∀ w, (zeroValue ty).run P w = .ok (.agg Z) w)
    (h : wpList P ops Q rest (a.put o.dst (.pointer (some ⟨w.heap.size, 0, none⟩))) (w.alloc (.cells Z ty))) : wpList P ops Q (o :: rest) a w := by
  refine wpList_val (v := .pointer (some ⟨w.heap.size, 0, none⟩)) (w' := w.alloc (.cells Z ty)) hgd ?_ h
  unfold execOp
  simp only [ho, Instr.alloc, Sem.run_bind, hz, Result.andThen_ok, newVar, newRow, newObj, Sem.run, Value.cells, Sem.run_pure]
  rfl
theorem wpList_storeZ (hgd : o.guard = none) (ty : TypeId) (x y : Operand) (ho : o.op = .store ty x y) (Z C : Array Value) (H : Nat) (hH : w.heap.size = H)
    (hx : a.eval x = .pointer (some ⟨H, 0, none⟩)) (hy : a.eval y = .agg C) (hi : (P.info? ty).map (·.size) = some C.size) (hs : Z.size = C.size) (h1 : C.all (·.oneCell') = true)
    (h : wpList P ops Q rest (a.put o.dst undef) (w.alloc (.cells C ty))) : wpList P ops Q (o :: rest) a (w.alloc (.cells Z ty)) :=
  wpList_plain hgd fun _ hK => by
    subst hH
    unfold Oper.wp execOp
    simp only [ho, hx, hy, Sem.run_bind, run_storeAt_new w ty Z C hi hs h1, Result.andThen_ok, Sem.run_pure]
    exact hK _ _ h
theorem wpList_buildZ (hgd : o.guard = none) (ty : TypeId) (i : Nat) (x : Operand) (ho : o.op = .build ty #[(i, x)]) (v : Value) (C : Array Value) (hx : a.eval x = v) (hb : ∀ w, (Instr.build ty #[(i, v)]).run P w = .ok (.agg C) w)
    (h : wpList P ops Q rest (a.put o.dst (.agg C)) w) : wpList P ops Q (o :: rest) a w := by
  refine wpList_val (v := .agg C) hgd ?_ h
  unfold execOp
  simp only [ho, hx, Array.map, List.mapM_toArray, List.mapM_cons, List.mapM_nil]
  simp [hb]
end
def nilsA (n : Nat) : Array Value := (List.replicate n (Value.slice none 0 0)).toArray
def tabZ : Array Value := nilsA 257
def tabC (v : Value) : Array Value := (List.replicate 256 (Value.slice none 0 0) ++ [v]).toArray
theorem zero_bsr (w : World) : (zeroValue 295).run Tryz.prog w = .ok (.agg tabZ) w := by kernel_rfl
theorem build_bsr (b n c : Nat) (w : World) : (Instr.build 295 #[(1, .slice (some ⟨b, 0, none⟩) n c)]).run Tryz.prog w = .ok (.agg (tabC (.slice (some ⟨b, 0, none⟩) n c))) w := by kernel_rfl
theorem info_bsr : (Tryz.prog.info? 295).map (·.size) = some 257 := by kernel_rfl
theorem tabC_size (v : Value) : (tabC v).size = 257 := by unfold tabC; rw [List.size_toArray, List.length_append, List.length_replicate]; rfl
theorem tabZ_size : tabZ.size = 257 := by unfold tabZ nilsA; rw [List.size_toArray, List.length_replicate]
theorem tabC_one (b n c : Nat) : (tabC (.slice (some ⟨b, 0, none⟩) n c)).all (·.oneCell') = true := by
  unfold tabC
  refine all_oneCell_toArray fun v hv => ?_
  rw [List.mem_append] at hv
  rcases hv with hv | hv
  · rw [(List.mem_replicate.1 hv).2]; rfl
  · rw [List.mem_singleton.1 hv]; rfl
/-- block g is a table: of the bytes D the replacements lie in it, of the bytes E the names -/
structure TabX (w : World) (B g : Nat) (D E : List UInt8) (C : Array Value) (tv : Value) : Prop where
  hg : w.heap[g]? = some (.cells C 295 (0, 0))
  hB : B ≤ g
  sz : C.size = 257
  at_ : C[256]? = some tv
  own : w.ownsRow B 9 1 tv E.length (E.map fun c => sv [c])
  no : ∀ c : UInt8, c ∉ D → C[c.toNat]? = some (.slice none 0 0)
  yes : ∀ c : UInt8, c ∈ D → ∃ b cap, C[c.toNat]? = some (.slice (some ⟨b, 0, none⟩) 2 cap) ∧ 2 ≤ cap ∧ cap ≤ maxLen ∧ B ≤ b ∧ b ≠ g ∧ tv.ownBlock ≠ some b ∧ w.cell? ⟨b, 0, none⟩ = some (bv 63) ∧ w.cell? ⟨b, 1, none⟩ = some (bv c)
def TabAt (w : World) (B g : Nat) (D E : List UInt8) : Prop := ∃ C tv, TabX w B g D E C tv
theorem TabX.cong {w w' : World} {B g : Nat} {D E : List UInt8} {C : Array Value} {tv : Value} (h : TabX w B g D E C tv) (e : ∀ k, B ≤ k → k < w.heap.size → w'.heap[k]? = w.heap[k]?) : TabX w' B g D E C tv := by
  have hg : g < w.heap.size := (Array.getElem?_eq_some_iff.1 h.hg).1
  refine ⟨(e g h.hB hg).trans h.hg, h.hB, h.sz, h.at_, own_cong h.own (fun k hk => e k (own_lt h.own hk).1 (own_lt h.own hk).2), h.no, fun c hc => ?_⟩
  obtain ⟨b, cap, a1, a2, a2', a3, a4, a5, a6, a7⟩ := h.yes c hc
  have hb := cell_lt' a6
  exact ⟨b, cap, a1, a2, a2', a3, a4, a5, (cell_ag (e b a3 hb)).trans a6, (cell_ag (e b a3 hb)).trans a7⟩
theorem TabX.neg {w : World} {B g : Nat} {D E : List UInt8} {C : Array Value} {tv : Value} (h : TabX w B g D E C tv) : tv.ownBlock ≠ some g := fun hk => by
  obtain ⟨X, hx, _⟩ := own_ty h.own hk
  exact ty_ne hx h.hg (by decide) rfl
theorem TabX.lt {w : World} {B g : Nat} {D E : List UInt8} {C : Array Value} {tv : Value} (h : TabX w B g D E C tv) : g < w.heap.size := (Array.getElem?_eq_some_iff.1 h.hg).1
theorem TabX.cell {w : World} {B g : Nat} {D E : List UInt8} {C : Array Value} {tv : Value} (h : TabX w B g D E C tv) (j : Nat) : w.cell? ⟨g, j, none⟩ = C[j]? := cell_of_row w g j _ _ _ h.hg
theorem TabX.fz {w : World} {B g : Nat} {D E : List UInt8} {C : Array Value} {tv : Value} (h : TabX w B g D E C tv) (j : Nat) : w.frozen? ⟨g, j, none⟩ = false := frozen_of_row w g j _ _ h.hg
/-- a name more -/
theorem TabX.app {w w1 : World} {B g : Nat} {D E : List UInt8} {C : Array Value} {tv tv' : Value} {c : UInt8} (h : TabX w B g D E C tv) (_hs : w.heap.size ≤ w1.heap.size) (hb : ∀ k, k < w.heap.size → tv.ownBlock ≠ some k → w1.heap[k]? = w.heap[k]?)
    (ho : w1.ownsRow B 9 1 tv' (E.length + 1) (E.map (fun c => sv [c]) ++ [sv [c]])) (hk : tv'.ownBlock = tv.ownBlock ∨ ∃ H, tv'.ownBlock = some H ∧ w.heap.size ≤ H) :
    TabX (w1.setCell ⟨g, 256, none⟩ tv') B g D (E ++ [c]) (C.setIfInBounds 256 tv') tv' := by
  have h1 : w1.heap[g]? = some (.cells C 295 (0, 0)) := (hb g h.lt h.neg).trans h.hg
  have ng : tv'.ownBlock ≠ some g := by
    rcases hk with hk | ⟨H, hk, hH⟩
    · rw [hk]; exact h.neg
    · rw [hk]; intro e; have := Option.some.inj e; have := h.lt; omega
  refine ⟨heap_setCell_same w1 g 256 _ _ _ h1, h.hB, by rw [Array.size_setIfInBounds]; exact h.sz, by rw [Array.getElem?_setIfInBounds_self_of_lt (by rw [h.sz]; decide)], ?_, fun x hx => ?_, fun x hx => ?_⟩
  · rw [List.length_append, List.length_singleton, List.map_append, List.map_singleton]
    exact own_cong ho (fun k hk' => heap_setCell_other w1 _ _ _ (fun e => ng (by rw [hk']; exact congrArg some e)))
  · have := x.toNat_lt
    rw [Array.getElem?_setIfInBounds_ne (by omega)]; exact h.no x hx
  · obtain ⟨b, cap, a1, a2, a2', a3, a4, a5, a6, a7⟩ := h.yes x hx
    have hbl := cell_lt' a6
    have := x.toNat_lt
    have e : (w1.setCell ⟨g, 256, none⟩ tv').heap[b]? = w.heap[b]? := (heap_setCell_other w1 _ _ _ a4).trans (hb b hbl a5)
    refine ⟨b, cap, by rw [Array.getElem?_setIfInBounds_ne (by omega)]; exact a1, a2, a2', a3, a4, ?_, (cell_ag e).trans a6, (cell_ag e).trans a7⟩
    rcases hk with hk | ⟨H, hk, hH⟩
    · rw [hk]; exact a5
    · rw [hk]; intro e; have := Option.some.inj e; omega
/-- a replacement more -/
theorem TabX.put {w w1 : World} {B g nb cap : Nat} {D E : List UInt8} {C : Array Value} {tv : Value} {c : UInt8} (h : TabX w B g D E C tv) (hb : ∀ k, k < w.heap.size → w1.heap[k]? = w.heap[k]?) (hnb : nb = w.heap.size) (hBw : B ≤ w.heap.size)
    (hc0 : w1.cell? ⟨nb, 0, none⟩ = some (bv 63)) (hc1 : w1.cell? ⟨nb, 1, none⟩ = some (bv c)) (h2 : 2 ≤ cap) (hm : cap ≤ maxLen) :
    TabX (w1.setCell ⟨g, c.toNat, none⟩ (.slice (some ⟨nb, 0, none⟩) 2 cap)) B g (D ++ [c]) E (C.setIfInBounds c.toNat (.slice (some ⟨nb, 0, none⟩) 2 cap)) tv := by
  have hcl := c.toNat_lt
  have hgl := h.lt
  have h1 : w1.heap[g]? = some (.cells C 295 (0, 0)) := (hb g hgl).trans h.hg
  have hne : nb ≠ g := by omega
  have en : (w1.setCell ⟨g, c.toNat, none⟩ (.slice (some ⟨nb, 0, none⟩) 2 cap)).heap[nb]? = w1.heap[nb]? := heap_setCell_other w1 _ _ _ hne
  have ht : ∀ k, tv.ownBlock = some k → k < w.heap.size ∧ k ≠ g := fun k hk => ⟨(own_lt h.own hk).2, fun e => h.neg (e ▸ hk)⟩
  refine ⟨heap_setCell_same w1 g _ _ _ _ h1, h.hB, by rw [Array.size_setIfInBounds]; exact h.sz, by rw [Array.getElem?_setIfInBounds_ne (by omega)]; exact h.at_, own_cong h.own (fun k hk => (heap_setCell_other w1 _ _ _ (ht k hk).2).trans (hb k (ht k hk).1)), fun x hx => ?_, fun x hx => ?_⟩
  · rw [List.mem_append, List.mem_singleton, not_or] at hx
    have hn : c.toNat ≠ x.toNat := fun e => hx.2 (UInt8.toNat_inj.1 e.symm)
    rw [Array.getElem?_setIfInBounds_ne hn]; exact h.no x hx.1
  · by_cases hxc : x = c
    · subst hxc
      exact ⟨nb, cap, by rw [Array.getElem?_setIfInBounds_self_of_lt (by rw [h.sz]; omega)], h2, hm, by omega, hne, fun e => by have := (ht nb e).1; omega, (cell_ag en).trans hc0, (cell_ag en).trans hc1⟩
    · have hx' : x ∈ D := by
        rw [List.mem_append, List.mem_singleton] at hx
        exact hx.resolve_right hxc
      have hn : c.toNat ≠ x.toNat := fun e => hxc (UInt8.toNat_inj.1 e.symm)
      obtain ⟨b, cap', a1, a2, a2', a3, a4, a5, a6, a7⟩ := h.yes x hx'
      have e := (heap_setCell_other w1 ⟨g, c.toNat, none⟩ b (.slice (some ⟨nb, 0, none⟩) 2 cap) a4).trans (hb b (cell_lt' a6))
      exact ⟨b, cap', by rw [Array.getElem?_setIfInBounds_ne hn]; exact a1, a2, a2', a3, a4, a5, (cell_ag e).trans a6, (cell_ag e).trans a7⟩
end Go.Proofs.YtgfijlamhjjecaaGreatDoor


/-
  EdiY3: contract of (*Replacer).build at the four signs. No condition beyond those stated.
-/
namespace Go.Proofs.YtgfijlamhjjecaaGreatDoor
open Go.RowKit
/-- the signs, in the order in which NewReplacer is given them -/
def sg (j : Nat) : UInt8 := [43, 58, 39, 63].getD j 0
def OldAt (w : World) (ob : Nat) : Prop := ∀ j, j < 4 → w.cell? ⟨ob, 2 * j, none⟩ = some (sv [sg j]) ∧ w.cell? ⟨ob, 2 * j + 1, none⟩ = some (sv [63, sg j])
theorem made4 (w : World) : (Instr.makeSlice 58 (.int .i64 0) (.int .i64 4)).run Tryz.prog w = .ok (.slice (some ⟨w.heap.size, 0, none⟩) 0 4) (w.alloc (.cells #[.string ⟨#[]⟩, .string ⟨#[]⟩, .string ⟨#[]⟩, .string ⟨#[]⟩] 9)) := by kernel_rfl
/-- a Replacer -/
def RepAt (w : World) (rb : Nat) (d s : Int) (r o : Value) : Prop := w.heap[rb]? = some (.cells #[.int .u32 d, .int .i32 s, .int .u32 0, r, o] 256 (0, 0))
def DE (j : Nat) : List UInt8 := [63, 39, 58, 43].take (4 - j)
theorem tab_new (w : World) (B : Nat) (hB : w.heap.size = B) : TabAt ((w.alloc (.cells #[.string ⟨#[]⟩, .string ⟨#[]⟩, .string ⟨#[]⟩, .string ⟨#[]⟩] 9)).alloc (.cells (tabC (.slice (some ⟨B, 0, none⟩) 0 4)) 295)) B (B + 1) [] [] := by
  subst hB
  have h0 : ((w.alloc (.cells #[.string ⟨#[]⟩, .string ⟨#[]⟩, .string ⟨#[]⟩, .string ⟨#[]⟩] 9)).alloc (.cells (tabC (.slice (some ⟨w.heap.size, 0, none⟩) 0 4)) 295)).heap[w.heap.size]? = some (.cells #[.string ⟨#[]⟩, .string ⟨#[]⟩, .string ⟨#[]⟩, .string ⟨#[]⟩] 9 (0, 0)) := by
    rw [Below.heap_alloc _ _ _ (by rw [World.size_alloc]; omega)]; exact heap_alloc_new w _
  have h1 : ((w.alloc (.cells #[.string ⟨#[]⟩, .string ⟨#[]⟩, .string ⟨#[]⟩, .string ⟨#[]⟩] 9)).alloc (.cells (tabC (.slice (some ⟨w.heap.size, 0, none⟩) 0 4)) 295)).heap[w.heap.size + 1]? = some (.cells (tabC (.slice (some ⟨w.heap.size, 0, none⟩) 0 4)) 295 (0, 0)) := by
    have := heap_alloc_new (w.alloc (.cells #[.string ⟨#[]⟩, .string ⟨#[]⟩, .string ⟨#[]⟩, .string ⟨#[]⟩] 9)) (.cells (tabC (.slice (some ⟨w.heap.size, 0, none⟩) 0 4)) 295)
    rw [World.size_alloc] at this
    exact this
  refine ⟨_, .slice (some ⟨w.heap.size, 0, none⟩) 0 4, h1, by omega, tabC_size _, ?_, ⟨rfl, .inr ⟨w.heap.size, 4, _, rfl, Nat.le_refl _, h0, by decide, by decide, rfl, rfl⟩⟩, fun c _ => ?_, fun c h => by simp at h⟩
  · unfold tabC; rw [List.getElem?_toArray, List.getElem?_append_right (by rw [List.length_replicate]; omega), List.length_replicate]; rfl
  · have hc := c.toNat_lt
    unfold tabC; rw [List.getElem?_toArray, List.getElem?_append_left (by rw [List.length_replicate]; omega), List.getElem?_replicate, if_pos (by omega)]
theorem conv_oneR (w : World) (c : UInt8) (cn : Nat) (h : c.toNat = cn) : (convert 72 9 (.slice (some ⟨w.heap.size, 0, none⟩) 1 1)).run Tryz.prog (w.alloc (.cells #[.int .u8 cn] 5)) = .ok (.string ⟨#[c]⟩) (w.alloc (.cells #[.int .u8 cn] 5)) := by
  subst h
  exact run_convert_bytes_back (P := Tryz.prog) _ 72 9 5 ⟨w.heap.size, 0, none⟩ 1 [c] Tryz.underlying72 Tryz.underlying5 Tryz.underlying9 (fun j hj => by
    have : j = 0 := by simpa using hj
    subst this
    exact cell_one_new w (.int .u8 (c.toNat : Int)) 5 0 _ rfl)
theorem DE_len (j : Nat) (h : j ≤ 4) : (DE j).length ≤ 4 := by unfold DE; rw [List.length_take]; omega
theorem DE_pred (j : Nat) (h : j ≠ 0) (h4 : j ≤ 4) : DE (j - 1) = DE j ++ [sg (j - 1)] := by
  match j, h, h4 with
  | 1, _, _ => rfl
  | 2, _, _ => rfl
  | 3, _, _ => rfl
  | 4, _, _ => rfl
theorem sg_notin (j : Nat) (h : j ≠ 0) (h4 : j ≤ 4) : sg (j - 1) ∉ DE j := by
  match j, h, h4 with
  | 1, _, _ => decide
  | 2, _, _ => decide
  | 3, _, _ => decide
  | 4, _, _ => decide
set_option maxRecDepth 100000 in
set_option maxHeartbeats 4000000 in
theorem build_any (w : World) (rb ob cap : Nat) (d s : Int) (r : Value) (hR : RepAt w rb d s r (.slice (some ⟨ob, 0, none⟩) 8 cap)) (hO : OldAt w ob) (_hcap : 8 ≤ cap) (_hc2 : cap ≤ maxLen) :
    Calls Tryz.prog 183 #[.pointer (some ⟨rb, 0, none⟩)] w fun e w' => ∃ g, e = .returned (.iface 296 (.pointer (some ⟨g, 0, none⟩))) ∧ TabAt w' w.heap.size g (DE 0) (DE 0) ∧ Below w.heap.size w w' := by
  unfold maxLen at _hc2
  have HR := Lib.hid hR
  have hmk := made4
  have hnl := fun (w : World) (a : Option Addr) (n c n' c' : Nat) => Lib.run_eql_slice_nil (P := Tryz.prog) w 72 5 a n c n' c' Tryz.underlying72
  obtain ⟨i0, hi, hz0, hz1, hz2⟩ := info_parts einfo_str
  have HI := Lib.hid hi
  have HZ0 := Lib.hid hz0
  have HZ1 := Lib.hid hz1
  have HZ2 := Lib.hid hz2
  clear hi hz0 hz1 hz2
  have HO := Lib.hid hO
  have cr : w.cell? ⟨rb, 4, none⟩ = some (.slice (some ⟨ob, 0, none⟩) 8 cap) := by rw [cell_of_row w rb 4 _ _ _ hR]; rfl
  clear hR hO
  go_enter Tryz.func183, Tryz.ntmps183
  go_wp2_with fail
  go_loop [5, 4] (fun i al => ∃ m k : Nat, k ≤ 4 ∧ i = .int .i64 (m : Int) ∧ Hid (m = 2 * k) ∧ al = .bool (decide (k = 0))) (fun i _ => 8 - (intOf i).toNat)
  case atStart => exact ⟨0, 0, by omega, rfl, Lib.hid rfl, rfl⟩
  case round =>
    obtain ⟨m, k, hk, rfl, hm, rfl⟩ := hrel
    by_cases h4 : k < 4
    · have hm8 : m < 8 := by have := hm.out; omega
      obtain ⟨c1, c2⟩ := HO.out k h4
      rw [← hm.out] at c1 c2
      unfold sv at c1 c2
      have b1 : (0 : Int) ≤ m := by omega
      have b2 : (m : Int) < 8 := by omega
      have b3 : (m : Int) + 1 < 8 := by have := hm.out; omega
      go_wp2_with fail
      go_round
      case rel => exact ⟨m + 2, k + 1, by omega, by go_num, Lib.hid (by have := hm.out; omega), by simp⟩
      case measure => simp [intOf]; omega
    · obtain rfl : k = 4 := by omega
      obtain rfl : m = 8 := by have := hm.out; omega
      go_upto_region 26 with fail
      go_wp2_with first
        | ((with_reducible refine wpList_at (.build 295 #[(1, .tmp 94)]) rfl ?_); go_loud (refine wpList_buildZ rfl 295 1 (.tmp 94) rfl _ _ rfl (build_bsr _ _ _) ?_))
        | ((with_reducible refine wpList_at (.alloc 295) rfl ?_); go_loud (refine wpList_allocZ rfl 295 rfl tabZ zero_bsr ?_))
        | ((with_reducible refine wpList_at (.store 295 (.tmp 11) (.tmp 95)) rfl ?_); go_loud (refine wpList_storeZ rfl 295 _ _ rfl tabZ (tabC (.slice (some ⟨w.heap.size, 0, none⟩) 0 4)) _ rfl rfl rfl (by rw [tabC_size]; exact info_bsr) (by rw [tabZ_size, tabC_size]) (tabC_one _ _ _) ?_))
      obtain ⟨B, hB⟩ : ∃ B, w.heap.size = B := ⟨_, rfl⟩
      rw [hB]
      obtain ⟨w1, hw1⟩ : ∃ w1, ((w.alloc (.cells #[.string ⟨#[]⟩, .string ⟨#[]⟩, .string ⟨#[]⟩, .string ⟨#[]⟩] 9)).alloc (.cells (tabC (.slice (some ⟨B, 0, none⟩) 0 4)) 295)) = w1 := ⟨_, rfl⟩
      rw [hw1]
      have HT := Lib.hid (show TabAt w1 B (B + 1) [] [] by rw [← hw1]; exact tab_new w B hB)
      have HF := Lib.hid (show Below B w w1 by rw [← hw1, ← hB]; exact ((Below.refl _ w).alloc (Nat.le_refl _) _).alloc (by simp) _)
      clear hw1
      go_loopw [12] (fun i wr => ∃ (n : Int) (j : Nat), j ≤ 4 ∧ i = .int .i64 n ∧ Hid (n = 2 * (j : Int) - 2) ∧ Hid (TabAt wr B (B + 1) (DE j) (DE j)) ∧ Hid (Below B w wr)) (fun i _ => (intOf i + 2).toNat)
      case atStart => exact ⟨6, 4, by omega, rfl, Lib.hid rfl, HT, HF⟩
      case round =>
        obtain ⟨n, j, hj, rfl, hn, HT', HF'⟩ := hrel
        by_cases h0 : j = 0
        · subst h0
          have hn' : n = -2 := by rw [hn.out]; rfl
          subst hn'
          go_wp2_with fail
          go_ret
          exact ⟨_, rfl, by rw [hB]; exact HT'.out, by rw [hB]; exact HF'.out⟩
        · obtain ⟨m, hm⟩ : ∃ m : Nat, n = (m : Int) := ⟨(n.toNat), by have := hn.out; omega⟩
          subst hm
          have hmj : m = 2 * (j - 1) := by have := hn.out; omega
          obtain ⟨c, hc⟩ : ∃ c, sg (j - 1) = c := ⟨_, rfl⟩
          obtain ⟨c1, c2⟩ := HO.out (j - 1) (by omega)
          rw [← hmj, hc] at c1 c2
          have hob : ob < B := by rw [← hB]; exact cell_lt' c1
          have e1 := (HF'.out.cell (p := ⟨ob, m, none⟩) hob).trans c1
          have e2 := (HF'.out.cell (p := ⟨ob, m + 1, none⟩) hob).trans c2
          unfold sv at e1 e2
          clear c1 c2
          have b1 : (0 : Int) ≤ m := by omega
          have b2 : (m : Int) < 8 := by omega
          have b3 : (m : Int) + 1 < 8 := by omega
          have hcd : c ∉ DE j := by rw [← hc]; exact sg_notin j (by omega) hj
          have hcn := c.toNat_lt
          obtain ⟨C, tv, hX⟩ := HT'.out
          have k1 := (hX.cell c.toNat).trans (hX.no c hcd)
          have z1 := hX.fz c.toNat
          have k2 := (hX.cell 256).trans hX.at_
          have z2 := hX.fz 256
          obtain ⟨cn, hcn'⟩ : ∃ cn, c.toNat = cn := ⟨_, rfl⟩
          have HCN := Lib.hid hcn'
          rw [hcn'] at k1 z1 hcn
          have hq : ((⟨#[c]⟩ : ByteArray)[0]'(Nat.zero_lt_one)).toNat = cn := hcn'
          have b4 : (0 : Int) ≤ cn := by omega
          have b5 : (cn : Int) < 256 := by omega
          have HX := Lib.hid hX
          have HC := Lib.hid hc
          have HMJ := Lib.hid hmj
          clear hX hc hcd hmj hcn'
          have hgl := HX.out.lt
          have hBw : B ≤ wr.heap.size := by omega
          have hcv : (convert 72 9 (.slice (some ⟨wr.heap.size, 0, none⟩) 1 1)).run Tryz.prog (wr.alloc (.cells #[.int .u8 cn] 5)) = .ok (.string ⟨#[c]⟩) (wr.alloc (.cells #[.int .u8 cn] 5)) := conv_oneR wr c cn HCN.out
          have hown := HX.out.own
          have hng := HX.out.neg
          have HOWN := Lib.hid hown
          have HNG := Lib.hid hng
          have HEL := Lib.hid (DE_len j hj)
          clear hown hng
          go_upto_region 34 with ((with_reducible refine wpList_at (.call { callee := .builtin .append, args := #[.tmp 119, .tmp 123], argTypes := #[58, 58] }) rfl ?_); go_loud (refine wpList_append_own_at _ rfl _ _ 58 rfl B 9 i0 (.string ⟨#[]⟩) 1 16 Tryz.underlying58 HI.out HZ0.out HZ1.out HZ2.out rfl (by decide) _ _ _ rfl ((HOWN.out.alloc _).alloc _) ⟨wr.heap.size + 1, 0, none⟩ 1 1 [.string ⟨#[c]⟩] rfl rfl (cell_one_new2 _ _ _ _) (by simp [Value.oneCell']) (by have := HEL.out; unfold maxLen; omega) (by have := HEL.out; omega) (by simp; omega) ?_); intro tv' w1 ho' hg' _ hk'; have HG1 : Hid (((wr.alloc (.cells #[.int .u8 cn] 5)).alloc (.cells #[.string ⟨#[c]⟩] 9)).grownBy w1 tv.ownBlock) := hg'; have HK1 : Hid (tv'.ownBlock = tv.ownBlock ∨ tv'.ownBlock = some (wr.heap.size + 2)) := Lib.hid (by rcases hk' with h | h; exact .inl h; (right; rw [h]; simp)); have hea := blk_ag2 HG1.out hgl HNG.out; have k2' := (cell_ag hea).trans k2; have z2' := (fz_ag hea).trans z2; have hs1 := hg'.size; simp at hs1; have HO1 := Lib.hid ho'; obtain ⟨tg, tc, _, rfl, _⟩ := own_form ho' (by omega) (by omega); clear ho' hg' hk' hea)
          obtain ⟨wq, hwq⟩ : ∃ wq, w1.setCell ⟨B + 1, 256, none⟩ (.slice (some ⟨tg, 0, none⟩) ((DE j).length + 1) tc) = wq := ⟨_, rfl⟩
          have HXQ := Lib.hid (show TabX wq B (B + 1) (DE j) (DE j ++ [c]) _ _ by rw [← hwq]; exact HX.out.app (by omega) (fun k hk hn => blk_ag2 HG1.out hk hn) HO1.out (by rcases HK1.out with h | h; exact .inl h; exact .inr ⟨_, h, by omega⟩))
          have HFQ := Lib.hid (show Below B wr wq by rw [← hwq]; exact ((((Below.refl B wr).alloc hBw _).alloc (by simp; omega) _).grown HG1.out (by simp; omega) (fun k hk => (own_lt HOWN.out hk).1)).setCell (by simp) _)
          have HF2 := Lib.hid (HF'.out.trans HFQ.out)
          rw [hwq]
          have hsq := HFQ.out.size
          clear k1 z1 k2 z2 k2' z2' e1 e2 hcv hwq HG1 HK1 HO1 hs1
          have hgq := HXQ.out.lt
          have hcl := (HXQ.out.cell c.toNat).trans (HXQ.out.no c (by rw [← HC.out]; exact sg_notin j (by omega) hj))
          have hzl := HXQ.out.fz c.toNat
          rw [HCN.out] at hcl hzl
          obtain ⟨wb, hwb⟩ : ∃ wb, Lib.bytesWorld wq 5 ⟨#[63, c]⟩ = wb := ⟨_, rfl⟩
          have hcb := Lib.run_convert_string_bytes (P := Tryz.prog) wq 9 72 5 ⟨#[63, c]⟩ Tryz.underlying9 Tryz.underlying72 Tryz.underlying5
          have hs2 : (⟨#[63, c]⟩ : ByteArray).size = 2 := rfl
          have hca := grownCap_ge wq 2 0 5
          have hcm := grownCap_le_maxLen wq 2 0 5 (by unfold maxLen; omega)
          rw [hwb, hs2] at hcb
          obtain ⟨cp, hcp⟩ : ∃ cp, grownCap wq 2 0 5 = cp := ⟨_, rfl⟩
          rw [hcp] at hcb hca hcm
          have hol : ∀ k, k < wq.heap.size → wb.heap[k]? = wq.heap[k]? := fun k hk => by rw [← hwb]; exact Lib.bytesWorld_at_old _ _ _ _ hk
          have hwbs : wb.heap.size = wq.heap.size + 1 := by rw [← hwb]; exact Lib.bytesWorld_size _ _ _
          have k3 := (cell_ag (hol (B + 1) hgq)).trans hcl
          have z3 := (fz_ag (hol (B + 1) hgq)).trans hzl
          have HFB := Lib.hid (show Below B wq wb from ⟨by rw [← hwb]; rfl, by rw [← hwb]; rfl, by rw [← hwb]; rfl, by omega, fun k hk => hol k (by omega)⟩)
          have HB0 := Lib.hid (show wb.cell? ⟨wq.heap.size, 0, none⟩ = some (bv 63) by rw [← hwb]; exact Lib.bytesWorld_cell wq 5 ⟨#[63, c]⟩ 0 (Nat.zero_lt_succ _))
          have HB1 := Lib.hid (show wb.cell? ⟨wq.heap.size, 1, none⟩ = some (bv c) by rw [← hwb]; exact Lib.bytesWorld_cell wq 5 ⟨#[63, c]⟩ 1 (Nat.lt_succ_self _))
          have HOL := Lib.hid hol
          have HWBS := Lib.hid hwbs
          clear hwb hcp hol hcl hzl hs2
          go_wp2_with fail
          go_roundw
          case rel =>
            have hmj := HMJ.out
            have e := DE_pred j h0 hj
            rw [HC.out] at e
            have hp := HXQ.out.put (c := c) HOL.out rfl (by omega) HB0.out HB1.out hca hcm
            rw [HCN.out, ← e] at hp
            exact ⟨(m : Int) - 2, j - 1, by omega, rfl, Lib.hid (by omega), Lib.hid ⟨_, _, hp⟩, Lib.hid ((HF2.out.trans HFB.out).setCell (by simp) _)⟩
          case measure => simp only [intOf]; omega
end Go.Proofs.YtgfijlamhjjecaaGreatDoor


/-
  EdiY4: contracts of NewReplacer and of a Replacer's first use. No condition beyond those stated.
-/
namespace Go.Proofs.YtgfijlamhjjecaaGreatDoor
open Go.RowKit
theorem RepAt.cell {w : World} {rb : Nat} {d s : Int} {r o : Value} (h : RepAt w rb d s r o) (j : Nat) : w.cell? ⟨rb, j, none⟩ = (#[.int .u32 d, .int .i32 s, .int .u32 0, r, o] : Array Value)[j]? := cell_of_row w rb j _ _ _ h
theorem RepAt.fz {w : World} {rb : Nat} {d s : Int} {r o : Value} (h : RepAt w rb d s r o) (j : Nat) : w.frozen? ⟨rb, j, none⟩ = false := frozen_of_row w rb j _ _ h
theorem RepAt.lt {w : World} {rb : Nat} {d s : Int} {r o : Value} (h : RepAt w rb d s r o) : rb < w.heap.size := (Array.getElem?_eq_some_iff.1 h).1
theorem RepAt.set0 {w : World} {rb : Nat} {d s d' : Int} {r o : Value} (h : RepAt w rb d s r o) : RepAt (w.setCell ⟨rb, 0, none⟩ (.int .u32 d')) rb d' s r o := heap_setCell_same w rb 0 _ _ _ h
theorem RepAt.set1 {w : World} {rb : Nat} {d s s' : Int} {r o : Value} (h : RepAt w rb d s r o) : RepAt (w.setCell ⟨rb, 1, none⟩ (.int .i32 s')) rb d s' r o := heap_setCell_same w rb 1 _ _ _ h
theorem RepAt.set3 {w : World} {rb : Nat} {d s : Int} {r r' o : Value} (h : RepAt w rb d s r o) : RepAt (w.setCell ⟨rb, 3, none⟩ r') rb d s r' o := heap_setCell_same w rb 3 _ _ _ h
theorem RepAt.set4 {w : World} {rb : Nat} {d s : Int} {r o o' : Value} (h : RepAt w rb d s r o) : RepAt (w.setCell ⟨rb, 4, none⟩ o') rb d s r o' := heap_setCell_same w rb 4 _ _ _ h
theorem RepAt.cong {w w' : World} {rb : Nat} {d s : Int} {r o : Value} (h : RepAt w rb d s r o) (e : w'.heap[rb]? = w.heap[rb]?) : RepAt w' rb d s r o := e.trans h
theorem TabAt.cong {w w' : World} {B g : Nat} {D E : List UInt8} (h : TabAt w B g D E) (e : ∀ k, B ≤ k → k < w.heap.size → w'.heap[k]? = w.heap[k]?) : TabAt w' B g D E := by
  obtain ⟨C, tv, h⟩ := h; exact ⟨C, tv, h.cong e⟩
theorem OldAt.cong {w w' : World} {ob : Nat} (h : OldAt w ob) (e : w'.heap[ob]? = w.heap[ob]?) : OldAt w' ob := fun j hj => ⟨(cell_ag e).trans (h j hj).1, (cell_ag e).trans (h j hj).2⟩
def repV (g : Nat) : Value := .iface 296 (.pointer (some ⟨g, 0, none⟩))
set_option maxRecDepth 100000 in
theorem buildOnce_any (w : World) (rb ob cap : Nat) (d s : Int) (r : Value) (hR : RepAt w rb d s r (.slice (some ⟨ob, 0, none⟩) 8 cap)) (hO : OldAt w ob) (hcap : 8 ≤ cap) (hc2 : cap ≤ maxLen) :
    Calls Tryz.prog 165 #[.pointer (some ⟨rb, 0, none⟩)] w fun e w' => e = .returned (.tuple #[]) ∧ (∃ g, RepAt w' rb d s (repV g) (.slice none 0 0) ∧ TabAt w' w.heap.size g (DE 0) (DE 0)) ∧ Fr [rb] w w' := by
  have HB := Lib.hid (build_any w rb ob cap d s r hR hO hcap hc2)
  have HR := Lib.hid hR
  clear hR hO hc2
  go_enter Tryz.func165, Tryz.ntmps165
  go_wp2_with (go_at_call 183; refine HB.out.mono ?_; rintro e w1 ⟨g, rfl, ht, hb⟩; have HT := Lib.hid ht; have HBE := Lib.hid hb; have hR1 := HR.out.cong (hb.block rb HR.out.lt); have z3 := hR1.fz 3; have c3 := hR1.cell 3; have hR2 := hR1.set3 (r' := repV g); have z4 := hR2.fz 4; have c4 := hR2.cell 4; have HR2 := Lib.hid (hR2.set4 (o' := .slice none 0 0)); unfold repV at *; clear ht hb hR1 hR2)
  go_end0
  refine ⟨rfl, ⟨g, HR2.out, HT.out.cong (fun k h1 h2 => ?_)⟩, ?_⟩
  · have : k ≠ rb := by have := HR.out.lt; omega
    rw [heap_setCell_other _ _ _ _ this, heap_setCell_other _ _ _ _ this]
  · exact ((Below.fr HBE.out (Nat.le_refl _) [rb]).trans (Fr.setCell _ (by simp) _)).trans (Fr.setCell _ (by simp) _)
set_option maxRecDepth 100000 in
set_option maxHeartbeats 1600000 in
theorem doSlow_any (w : World) (rb ob cap : Nat) (r : Value) (hR : RepAt w rb 0 0 r (.slice (some ⟨ob, 0, none⟩) 8 cap)) (hO : OldAt w ob) (hne : ob ≠ rb) (hcap : 8 ≤ cap) (hc2 : cap ≤ maxLen) :
    Calls Tryz.prog 182 #[.pointer (some ⟨rb, 0, none⟩), .func (.func 165) #[.pointer (some ⟨rb, 0, none⟩)] #[]] w fun e w' => e = .returned (.tuple #[]) ∧ (∃ g, RepAt w' rb 1 0 (repV g) (.slice none 0 0) ∧ TabAt w' w.heap.size g (DE 0) (DE 0)) ∧ Fr [rb] w w' := by
  have c1 := hR.cell 1
  have z1 := hR.fz 1
  have hrb := hR.lt
  have hR1 := hR.set1 (s' := 1)
  have hO1 : OldAt (w.setCell ⟨rb, 1, none⟩ (.int .i32 1)) ob := hO.cong (heap_setCell_other _ _ _ _ hne)
  have HB := Lib.hid (buildOnce_any _ rb ob cap 0 1 r hR1 hO1 hcap hc2)
  have HA := Lib.hid (aload ⟨rb, 0, none⟩ 0 (w.setCell ⟨rb, 1, none⟩ (.int .i32 1)) (hR1.cell 0))
  have HL := Lib.hid (lock_free ⟨rb, 1, none⟩ w c1 z1)
  have hnot : ∀ (x : Bool) (w : World), (Op.unary .not (.bool x)).run Tryz.prog w = .ok (.bool (!x)) w := fun _ _ => rfl
  clear hR hO hR1 hO1 hc2 c1 z1
  go_enter_defers Tryz.func182, Tryz.ntmps182
  go_wp2_with first
    | (go_at_call 191; refine HL.out.mono ?_; rintro e w' ⟨rfl, rfl⟩)
    | (go_at_call 181; refine HA.out.mono ?_; rintro e w' ⟨rfl, rfl⟩)
    | (go_at_call 165; refine HB.out.mono ?_; rintro e w2 ⟨rfl, ⟨g, hr, ht⟩, hf⟩; have HR2 := Lib.hid hr; have HT := Lib.hid ht; have HF := Lib.hid hf; clear hr ht hf)
  have hrs0 := (HR2.out.cong (w' := w2.drew) rfl).set0 (d' := 1)
  have c0 := HR2.out.cell 0
  have z0 := HR2.out.fz 0
  have c1 := hrs0.cell 1
  have z1 := hrs0.fz 1
  refine leaves_cons (f := 193) (args := #[.pointer (some ⟨rb, 0, none⟩), .bool true]) (by simp) (by simp [go_sem]) ?_
  refine (store_deferred ⟨rb, 0, none⟩ (.int .u32 0) .returning _ c0 z0).mono ?_
  rintro e u' w'' ⟨rfl, rfl, rfl⟩
  refine leaves_cons (f := 192) (args := #[.pointer (some ⟨rb, 1, none⟩)]) (by simp [settle]) (by simp [go_sem]) ?_
  refine (unlock_deferred ⟨rb, 1, none⟩ _ _ c1 z1).mono ?_
  rintro e u' w'' ⟨rfl, rfl, rfl⟩
  have hfin := hrs0.set1 (s' := 0)
  have hT := HT.out
  rw [World.size_setCell] at hT
  have hTT : TabAt (((w2.drew.setCell ⟨rb, 0, none⟩ (.int .u32 1))).setCell ⟨rb, 1, none⟩ (.int .i32 0)) w.heap.size g (DE 0) (DE 0) := hT.cong (fun k h1 h2 => by
    have hk : k ≠ rb := by omega
    exact (heap_setCell_other _ _ _ _ hk).trans (heap_setCell_other _ _ _ _ hk))
  have hFF : Fr [rb] w (((w2.drew.setCell ⟨rb, 0, none⟩ (.int .u32 1))).setCell ⟨rb, 1, none⟩ (.int .i32 0)) := ((((Fr.setCell w (a := ⟨rb, 1, none⟩) (F := [rb]) (by simp) _).trans HF.out).trans (Fr.drew _ _)).trans (Fr.setCell _ (by simp) _)).trans (Fr.setCell _ (by simp) _)
  simp [Leaves, settle, results, Tryz.results182]
  exact ⟨⟨g, hfin, hTT⟩, hFF⟩
set_option maxRecDepth 100000 in
theorem do_any (w : World) (rb ob cap : Nat) (r : Value) (hR : RepAt w rb 0 0 r (.slice (some ⟨ob, 0, none⟩) 8 cap)) (hO : OldAt w ob) (hne : ob ≠ rb) (hcap : 8 ≤ cap) (hc2 : cap ≤ maxLen) :
    Calls Tryz.prog 164 #[.pointer (some ⟨rb, 0, none⟩), .func (.func 165) #[.pointer (some ⟨rb, 0, none⟩)] #[]] w fun e w' => e = .returned (.tuple #[]) ∧ (∃ g, RepAt w' rb 1 0 (repV g) (.slice none 0 0) ∧ TabAt w' w.heap.size g (DE 0) (DE 0)) ∧ Fr [rb] w w' := by
  have HA := Lib.hid (aload ⟨rb, 0, none⟩ 0 w (hR.cell 0))
  have HS := Lib.hid (doSlow_any w rb ob cap r hR hO hne hcap hc2)
  have hnot : ∀ (x : Bool) (w : World), (Op.unary .not (.bool x)).run Tryz.prog w = .ok (.bool (!x)) w := fun _ _ => rfl
  clear hR hO hc2
  go_enter Tryz.func164, Tryz.ntmps164
  go_wp2_with first
    | (go_at_call 181; refine HA.out.mono ?_; rintro e w' ⟨rfl, rfl⟩)
    | (go_at_call 182; refine HS.out.mono ?_; rintro e w2 ⟨rfl, hr, hf⟩; have HR2 := Lib.hid hr; have HF := Lib.hid hf; clear hr hf)
  go_end0
  exact ⟨rfl, HR2.out, HF.out⟩
/-- the eight strings that NewReplacer is given -/
def oldL : List Value := [sv [43], sv [63, 43], sv [58], sv [63, 58], sv [39], sv [63, 39], sv [63], sv [63, 63]]
set_option maxRecDepth 100000 in
theorem newRepl_any (w : World) (ab : Nat) (ha : w.heap[ab]? = some (.cells oldL.toArray 9 (0, 0))) :
    Calls Tryz.prog 138 #[.slice (some ⟨ab, 0, none⟩) 8 8] w fun e w' => ∃ rb ob cap, e = .returned (.pointer (some ⟨rb, 0, none⟩)) ∧ RepAt w' rb 0 0 .nilIface (.slice (some ⟨ob, 0, none⟩) 8 cap) ∧ OldAt w' ob ∧ ob ≠ rb ∧ 8 ≤ cap ∧ cap ≤ maxLen ∧ w.heap.size ≤ rb ∧ Below w.heap.size w w' := by
  obtain ⟨i0, hi, hz0, hz1, hz2⟩ := info_parts einfo_str
  have HI := Lib.hid hi
  have HZ0 := Lib.hid hz0
  have HZ1 := Lib.hid hz1
  have HZ2 := Lib.hid hz2
  have HA := Lib.hid (show ∀ j v, oldL[j]? = some v → w.cell? ((⟨ab, 0, none⟩ : Addr).add j) = some v from fun j v hv => by
    rw [Addr.add_mid, Nat.zero_add, cell_of_row w ab j _ _ _ ha, List.getElem?_toArray]; exact hv)
  have HO := Lib.hid (show ∀ v ∈ oldL, v.oneCell' = true from fun v hv => by simp only [oldL, List.mem_cons, List.not_mem_nil, or_false] at hv; rcases hv with rfl | rfl | rfl | rfl | rfl | rfl | rfl | rfl <;> rfl)
  clear hi hz0 hz1 hz2 ha
  go_enter Tryz.func138, Tryz.ntmps138
  go_wp2_with ((with_reducible refine wpList_at (.call { callee := .builtin .append, args := #[.const (.slice none 0 0), .tmp 8], argTypes := #[58, 58] }) rfl ?_); go_loud (refine wpList_append_own_at _ rfl _ _ 58 rfl w.heap.size 9 i0 (.string ⟨#[]⟩) 1 16 Tryz.underlying58 HI.out HZ0.out HZ1.out HZ2.out rfl (by decide) _ _ _ rfl (World.ownsRow_nil _ _ _ _) ⟨ab, 0, none⟩ 8 8 oldL rfl rfl HA.out HO.out (by unfold maxLen; omega) (by omega) (Nat.le_refl _) ?_); intro v w1 ho hg _ hk; have HOW := Lib.hid ho; have HG := Lib.hid hg; obtain ⟨ob, cap, cur, rfl, hob, hcells, hcp1, hcp2, _⟩ := own_form ho (by omega) (by omega); have HCE := Lib.hid hcells; have HC2 := Lib.hid hcp2; clear ho hg hk hcells hcp2)
  go_ret
  have hlt : ob < w1.heap.size := (Array.getElem?_eq_some_iff.1 HCE.out).1
  have hbel : Below w.heap.size w w1 := (Below.refl _ w).grown HG.out (Nat.le_refl _) (fun k hk => by simp [Act.eval, Value.ownBlock] at hk)
  refine ⟨w1.heap.size, ob, cap, rfl, heap_alloc_new _ _, fun j hj => ?_, by omega, by omega, HC2.out, hbel.size, hbel.alloc hbel.size _⟩
  have hc : ∀ i x, oldL[i]? = some x → (w1.alloc (.cells #[.int .u32 0, .int .i32 0, .int .u32 0, .nilIface, .slice (some ⟨ob, 0, none⟩) 8 cap] 256)).cell? ⟨ob, i, none⟩ = some x := fun i x hx => (cell_ag (Below.heap_alloc _ _ _ hlt)).trans (own_cell HOW.out hx)
  match j, hj with
  | 0, _ => exact ⟨hc 0 _ rfl, hc 1 _ rfl⟩
  | 1, _ => exact ⟨hc 2 _ rfl, hc 3 _ rfl⟩
  | 2, _ => exact ⟨hc 4 _ rfl, hc 5 _ rfl⟩
  | 3, _ => exact ⟨hc 6 _ rfl, hc 7 _ rfl⟩
end Go.Proofs.YtgfijlamhjjecaaGreatDoor


/-
  EdiY5: plain words for a byteStringReplacer's Replace, and its table's cells. No condition beyond those stated.
-/
namespace Go.Proofs.YtgfijlamhjjecaaGreatDoor
open Go.RowKit
def sgN (l : Str) : Nat := l.countP signB
theorem compT_len (l : Str) : (compT l).length = l.length + sgN l := by
  induction l with
  | nil => rfl
  | cons c l ih =>
    have e : compT (c :: l) = escB c ++ compT l := by simp [compT]
    unfold sgN at *
    rw [e, List.length_append, ih, List.countP_cons, List.length_cons]
    unfold escB
    by_cases h : signB c = true
    · rw [if_pos h, if_pos h]; simp; omega
    · rw [if_neg h, if_neg h]; simp; omega
theorem compT_same {l : Str} (h : sgN l = 0) : compT l = l := by
  induction l with
  | nil => rfl
  | cons c l ih =>
    have e : compT (c :: l) = escB c ++ compT l := by simp [compT]
    unfold sgN at *
    rw [List.countP_cons] at h
    have hc : signB c = false := by
      cases hs : signB c with
      | true => rw [hs] at h; simp at h
      | false => rfl
    rw [e, ih (by omega)]
    unfold escB; rw [hc]; rfl
theorem compT_take {l : Str} {k : Nat} {c : UInt8} (h : l[k]? = some c) : compT (l.take (k + 1)) = compT (l.take k) ++ escB c := by
  rw [List.take_add_one, h]; simp [compT]
theorem sgN_take {l : Str} {k : Nat} {c : UInt8} (h : l[k]? = some c) : sgN (l.take (k + 1)) = sgN (l.take k) + if signB c then 1 else 0 := by
  unfold sgN
  rw [List.take_add_one, h]; simp [List.countP_append]
theorem sgN_le (l : Str) : sgN l ≤ l.length := List.countP_le_length
theorem sgN_take_le (l : Str) (k : Nat) : sgN (l.take k) ≤ l.length := Nat.le_trans (sgN_le _) (by rw [List.length_take]; omega)
theorem sgN_take_mono (l : Str) (k : Nat) : sgN (l.take k) ≤ sgN l := by
  have h : sgN (l.take k ++ l.drop k) = sgN l := by rw [List.take_append_drop]
  unfold sgN at *
  rw [List.countP_append] at h; omega
/-- so many of the first k names lie in a text -/
def cntD (l : Str) (k : Nat) : Nat := (((DE 0).take k).map fun c => l.count c).sum
theorem cntD_four (l : Str) : cntD l 4 = sgN l := by
  unfold cntD sgN DE
  show [l.count 63, l.count 39, l.count 58, l.count 43].sum = _
  induction l with
  | nil => rfl
  | cons c l ih =>
    rw [List.countP_cons, ← ih]
    simp only [List.count_cons, List.sum_cons, List.sum_nil]
    by_cases h : signB c = true
    · have h' := h
      unfold signB at h'
      simp only [Bool.or_eq_true, beq_iff_eq] at h'
      rcases h' with ((rfl | rfl) | rfl) | rfl <;> simp [signB] <;> omega
    · rw [if_neg h]
      rw [Bool.not_eq_true] at h
      unfold signB at h
      simp only [Bool.or_eq_false_iff] at h
      obtain ⟨⟨⟨h1, h2⟩, h3⟩, h4⟩ := h
      rw [h1, h2, h3, h4]
      simp
theorem cntD_succ (l : Str) (k : Nat) (h : k < 4) : cntD l (k + 1) = cntD l k + l.count ((DE 0).getD k 0) := by
  match k, h with
  | 0, _ => simp [cntD, DE]
  | 1, _ => simp [cntD, DE]
  | 2, _ => simp [cntD, DE]; omega
  | 3, _ => simp [cntD, DE]; omega
theorem cntD_mono (l : Str) (k : Nat) (h : k ≤ 4) : cntD l k ≤ sgN l := by
  rw [← cntD_four]
  match k, h with
  | 0, _ => simp [cntD]
  | 1, _ => simp [cntD, DE]
  | 2, _ => simp [cntD, DE]
  | 3, _ => simp [cntD, DE]
  | 4, _ => exact Nat.le_refl _
theorem mem_DE (c : UInt8) : c ∈ DE 0 ↔ signB c = true := by
  unfold DE signB
  simp only [List.take, Nat.sub_zero, List.mem_cons, List.not_mem_nil, or_false, Bool.or_eq_true, beq_iff_eq]
  constructor
  · rintro (h | h | h | h) <;> simp [h]
  · rintro (((h | h) | h) | h) <;> simp [h]
/-- a table is full -/
def FullAt (w : World) (g : Nat) : Prop := ∃ B C tv, TabX w B g (DE 0) (DE 0) C tv
theorem FullAt.cong {w w' : World} {g : Nat} (h : FullAt w g) (e : ∀ k, k < w.heap.size → w'.heap[k]? = w.heap[k]?) : FullAt w' g := by
  obtain ⟨B, C, tv, h⟩ := h; exact ⟨B, C, tv, h.cong fun k _ hk => e k hk⟩
theorem FullAt.lt {w : World} {g : Nat} (h : FullAt w g) : g < w.heap.size := by
  obtain ⟨B, C, tv, h⟩ := h; exact h.lt
theorem FullAt.no {w : World} {g : Nat} (h : FullAt w g) {c : UInt8} (hc : signB c = false) : w.cell? ⟨g, c.toNat, none⟩ = some (.slice none 0 0) := by
  obtain ⟨B, C, tv, h⟩ := h
  exact (h.cell _).trans (h.no c (fun hm => by rw [mem_DE, hc] at hm; cases hm))
theorem FullAt.yes {w : World} {g : Nat} (h : FullAt w g) {c : UInt8} (hc : signB c = true) : ∃ b cap, w.cell? ⟨g, c.toNat, none⟩ = some (.slice (some ⟨b, 0, none⟩) 2 cap) ∧ 2 ≤ cap ∧ cap ≤ maxLen ∧ w.cell? ⟨b, 0, none⟩ = some (bv 63) ∧ w.cell? ⟨b, 1, none⟩ = some (bv c) := by
  obtain ⟨B, C, tv, h⟩ := h
  obtain ⟨b, cap, a1, a2, a3, a4, a5, a6, a7, a8⟩ := h.yes c ((mem_DE c).2 hc)
  exact ⟨b, cap, (h.cell _).trans a1, a2, a3, a7, a8⟩
theorem FullAt.names {w : World} {g : Nat} (h : FullAt w g) : ∃ nb cap, w.cell? ⟨g, 256, none⟩ = some (.slice (some ⟨nb, 0, none⟩) 4 cap) ∧ 4 ≤ cap ∧ cap ≤ maxLen ∧ ∀ k, k < 4 → w.cell? ⟨nb, k, none⟩ = some (.string ⟨#[(DE 0).getD k 0]⟩) := by
  obtain ⟨B, C, tv, h⟩ := h
  have ho : w.ownsRow B 9 1 tv 4 [sv [63], sv [39], sv [58], sv [43]] := h.own
  obtain ⟨nb, cap, cur, rfl, _, hh, h1, h2, h3, _⟩ := own_form ho (by omega) (by omega)
  refine ⟨nb, cap, (h.cell 256).trans h.at_, h1, h2, fun k hk => ?_⟩
  match k, hk with
  | 0, _ => exact own_cell ho rfl
  | 1, _ => exact own_cell ho rfl
  | 2, _ => exact own_cell ho rfl
  | 3, _ => exact own_cell ho rfl
end Go.Proofs.YtgfijlamhjjecaaGreatDoor


/-
  EdiJ: contract of put. No condition beyond those stated.
-/
namespace Go.Proofs.YtgfijlamhjjecaaGreatDoor
open Go.RowKit
section
variable {S : Nat → Prop} {w : World} {B rb : Nat} {l : List Seg} {t : Str} {es : List (List Str)} {cs : List Str} {p q : Str} {lv pv ev cv : Value} {xs ys : List Value}
set_option maxRecDepth 100000 in
set_option maxHeartbeats 4000000 in
theorem put_ok (h : RB S w B rb l t es cs p p lv pv ev cv xs ys) (c : UInt8) (hB : B ≤ w.heap.size) (h256 : p.length < 256) : Calls Tryz.prog 218 #[.pointer (some ⟨rb, 0, none⟩), .int .u8 (c.toNat : Int)] w fun e w' => e = .returned (.tuple #[fnV rb 205, .int .i64 0]) ∧ (∃ pv', RB S w' B rb l t es cs (p ++ [c]) (p ++ [c]) lv pv' ev cv xs ys) ∧ Below B w w' := by
  have d1 := h.c1
  have f1 := h.fz 1
  have H := Lib.hid h
  have hrB := h.hB
  obtain ⟨pa, pc, hpe⟩ : ∃ pa pc, pv = .slice pa p.length pc := by
    obtain ⟨_, ⟨h1, h2⟩ | ⟨g, cap, _, h1, _⟩⟩ := h.hp
    · exact ⟨none, 0, by rw [h1, h2]⟩
    · exact ⟨_, cap, h1⟩
  subst hpe
  have hx := len_int p.length (by omega)
  have hrw := h.lt
  have nprn : (Value.slice pa p.length pc).ownBlock ≠ some rb := own_neR h.r h.hp (by decide)
  obtain ⟨cn, hcn⟩ : ∃ n : Int, (c.toNat : Int) = n := ⟨_, rfl⟩
  have HCN := Lib.hid hcn
  rw [hcn]
  clear h hcn
  obtain ⟨i0, hi, hz0, hz1, hz2⟩ := info_parts einfo_u8
  have HI := Lib.hid hi
  have HZ0 := Lib.hid hz0
  have HZ1 := Lib.hid hz1
  have HZ2 := Lib.hid hz2
  clear hi hz0 hz1 hz2
  go_enter Tryz.func218, Tryz.ntmps218
  go_upto_region 4 with ((with_reducible refine wpList_at (.call { callee := .builtin .append, args := #[.tmp 17, .tmp 19], argTypes := #[72, 72] }) rfl ?_); go_loud (refine wpList_append_own_at _ rfl _ _ 72 rfl B 5 i0 (.int .u8 0) 1 1 Tryz.underlying72 HI.out HZ0.out HZ1.out HZ2.out rfl (by decide) _ _ _ rfl (World.ownsRow.alloc (show w.ownsRow B 5 1 (.slice pa p.length pc) p.length (p.map bv) from H.out.hp) _) ⟨w.heap.size, 0, none⟩ 1 1 [.int .u8 cn] rfl rfl (cell_one_new _ _ _) (by simp [Value.oneCell']) (by unfold maxLen; omega) (by omega) (by simp; omega) ?_); intro pv' w1 he' hg' _ hk'; have HG1 : Hid ((w.alloc (.cells #[.int .u8 cn] 5)).grownBy w1 (Value.slice pa p.length pc).ownBlock) := hg'; have HK1 : Hid (pv'.ownBlock = (Value.slice pa p.length pc).ownBlock ∨ pv'.ownBlock = some (w.heap.size + 1)) := Lib.hid (by rcases hk' with h | h; exact .inl h; (right; rw [h]; simp)); have hea := blk_ag HG1.out hrw nprn; have d1' : w1.cell? ⟨rb, 1, none⟩ = some (.slice pa p.length pc) := (cell_ag hea).trans d1; have f1' : w1.frozen? ⟨rb, 1, none⟩ = false := (fz_ag hea).trans f1; have hs1 := hg'.size; simp at hs1; have HE1 : Hid (OwnS w1 B pv' (p ++ [c])) := Lib.hid (by unfold OwnS; rw [List.length_append, List.length_singleton, List.map_append, List.map_singleton, bv, HCN.out]; exact he'); obtain ⟨pg2, pc2, _, rfl, _⟩ := own_form (show w1.ownsRow B 5 1 pv' (p.length + 1) (p.map bv ++ [.int .u8 cn]) from he') (by omega) (by omega); clear he' hg' hk' hea)
  obtain ⟨wq, hwq⟩ : ∃ wq, w1.setCell ⟨rb, 1, none⟩ (.slice (some ⟨pg2, 0, none⟩) (p.length + 1) pc2) = wq := ⟨_, rfl⟩
  have HQ : Hid (RB S wq B rb l t es cs p (p ++ [c]) lv (.slice (some ⟨pg2, 0, none⟩) (p.length + 1) pc2) ev cv xs ys) := Lib.hid (by rw [← hwq]; exact H.out.grow HG1.out HE1.out HK1.out)
  have HBQ := Lib.hid (show Below B w wq by rw [← hwq]; exact (((Below.refl B w).alloc (by omega) _).grown HG1.out (by simp; omega) (fun k hk => (own_lt H.out.hp hk).1)).setCell hrB _)
  rw [hwq]
  have sq := HBQ.out.size
  clear hwq d1 f1 H HG1 HK1 HE1 d1' f1' hs1 nprn hrw hx
  obtain ⟨g, c1, b, c2, d, c3, rfl, rfl, rfl, a1, a2, b1, b2, c1', c2', _, k2, z2, k3, z3, k4, z4⟩ := HQ.out.tops
  have d0 := HQ.out.c0
  have d1 := HQ.out.c1
  have b2' := b2
  unfold maxLen at b2' c2'
  have hw : IntKind.i64.wrap ((es.length : Int) + 1 - 1) = (es.length : Int) := by rw [show (es.length : Int) + 1 - 1 = (es.length : Int) by omega]; exact IntWalk.i64_in _ (by omega)
  have hw2 : IntKind.i64.wrap (es.length : Int) = (es.length : Int) := IntWalk.i64_in _ (by omega)
  have h0 : (0 : Int) ≤ (es.length : Int) := by omega
  have h1 : (es.length : Int) < (es.length : Int) + 1 := by omega
  clear z2 z3
  refine wp_region_plan [(0, false), (5, false), (1, true), (2, false), (3, false), (4, false), (6, true), (7, false), (8, false), (9, false), (10, false), (11, false), (12, false), (13, false), (14, false)]
    (fun w' => w'.cell? ⟨g, l.length * 2 + 1, none⟩ = some (.slice (some ⟨b, 0, none⟩) (es.length + 1) c2) ∧ w'.cell? ⟨b, es.length, none⟩ = some (.slice (some ⟨d, 0, none⟩) (cs.length + 1) c3)) (by kernel_rfl) (by kernel_rfl) ⟨k2, k3⟩ ?_
  have k2' : wq.drew.cell? ⟨g, l.length * 2 + 1, none⟩ = some (.slice (some ⟨b, 0, none⟩) (es.length + 1) c2) := k2
  have k3' : wq.drew.cell? ⟨b, es.length, none⟩ = some (.slice (some ⟨d, 0, none⟩) (cs.length + 1) c3) := k3
  iterate 2 (refine' plan_val rfl rfl (fun w' hS => ?_) ?_; rotate_left; (focus (go_simp; rfl)); simp only [Act.put, List.setIfInBounds_toArray, List.set_cons_zero, List.set_cons_succ])
  refine plan_do rfl (fun K hK => ?_)
  go_wp2_with fail
  refine (top_any rb g l.length c1 wq.drew d0 a1 a2).mono ?_
  rintro e w' ⟨rfl, rfl⟩
  go_wp2_with fail
  refine hK _ _ ⟨k2, k3⟩ ?_
  clear hK K
  iterate 3 (refine' plan_val rfl rfl (fun w' hS => ?_) ?_; rotate_left; (focus (obtain ⟨hS1, hS2⟩ := hS; go_simp; rfl)); simp only [Act.put, List.setIfInBounds_toArray, List.set_cons_zero, List.set_cons_succ])
  refine plan_do rfl (fun K hK => ?_)
  go_wp2_with fail
  refine (top_any rb g l.length c1 wq.drew.drew d0 a1 a2).mono ?_
  rintro e w' ⟨rfl, rfl⟩
  go_wp2_with fail
  refine hK _ _ ⟨k2, k3⟩ ?_
  clear hK K
  iterate 8 (refine' plan_val rfl rfl (fun w' hS => ?_) ?_; rotate_left; (focus (obtain ⟨hS1, hS2⟩ := hS; go_simp; rfl)); simp only [Act.put, List.setIfInBounds_toArray, List.set_cons_zero, List.set_cons_succ])
  refine plan_nil ?_
  obtain ⟨wd, hwd⟩ : ∃ wd, wq.drew.drew.drew = wd := ⟨_, rfl⟩
  have HQ2 := Lib.hid (show RB S wd B rb l t es cs p (p ++ [c]) (.slice (some ⟨g, 0, none⟩) (l.length + 1) c1) (.slice (some ⟨pg2, 0, none⟩) (p.length + 1) pc2) (.slice (some ⟨b, 0, none⟩) (es.length + 1) c2) (.slice (some ⟨d, 0, none⟩) (cs.length + 1) c3) xs ys by rw [← hwd]; exact ((HQ.out.fr0 (Fr.drew _ _)).fr0 (Fr.drew _ _)).fr0 (Fr.drew _ _))
  have HBQ2 := Lib.hid (show Below B w wd by rw [← hwd]; exact HBQ.out.drew.drew.drew)
  have d1 : wd.cell? ⟨rb, 1, none⟩ = some (.slice (some ⟨pg2, 0, none⟩) (p.length + 1) pc2) := by rw [← hwd]; exact d1
  have k4 : wd.cell? ⟨d, cs.length, none⟩ = some (.string ⟨p.toArray⟩) := by rw [← hwd]; exact k4
  have z4 : wd.frozen? ⟨d, cs.length, none⟩ = false := by rw [← hwd]; exact z4
  rw [hwd]
  clear hwd HQ HBQ k2 k3 k2' k3' d0 hw hw2 h0 h1
  have hw : IntKind.i64.wrap ((cs.length : Int) + 1 - 1) = (cs.length : Int) := by rw [show (cs.length : Int) + 1 - 1 = (cs.length : Int) by omega]; exact IntWalk.i64_in _ (by omega)
  have hw2 : IntKind.i64.wrap (cs.length : Int) = (cs.length : Int) := IntWalk.i64_in _ (by omega)
  have h0 : (0 : Int) ≤ (cs.length : Int) := by omega
  have h1 : (cs.length : Int) < (cs.length : Int) + 1 := by omega
  have hcv : (convert 72 9 (.slice (some ⟨pg2, 0, none⟩) (p.length + 1) pc2)).run Tryz.prog wd = .ok (.string ⟨(p ++ [c]).toArray⟩) wd := conv_own HQ2.out.hp
  have HDB := Lib.hid (own_lt HQ2.out.hc (k := d) rfl).1
  go_wp2_with fail
  go_ret2
  exact ⟨rfl, ⟨_, HQ2.out.setlast⟩, HBQ2.out.setCell HDB.out _⟩
end
end Go.Proofs.YtgfijlamhjjecaaGreatDoor


/-
  EdiK: contracts of component, released, behind. No condition beyond those stated.
-/
namespace Go.Proofs.YtgfijlamhjjecaaGreatDoor
open Go.RowKit
theorem ix_sign (c : UInt8) : ∃ i : Int, Lib.indexByte [43, 58, 39, 63] c = i ∧ decide (0 ≤ i) = signB c ∧ decide (i < 0) = !signB c := by
  refine ⟨_, rfl, ?_⟩
  unfold signB
  by_cases h1 : c = 43
  · subst h1; decide
  · by_cases h2 : c = 58
    · subst h2; decide
    · by_cases h3 : c = 39
      · subst h3; decide
      · by_cases h4 : c = 63
        · subst h4; decide
        · have e1 : (43 == c) = false := beq_eq_false_iff_ne.2 (Ne.symm h1)
          have e2 : (58 == c) = false := beq_eq_false_iff_ne.2 (Ne.symm h2)
          have e3 : (39 == c) = false := beq_eq_false_iff_ne.2 (Ne.symm h3)
          have e4 : (63 == c) = false := beq_eq_false_iff_ne.2 (Ne.symm h4)
          simp [Lib.indexByte, e1, e2, e3, e4, beq_eq_false_iff_ne.2 h1, beq_eq_false_iff_ne.2 h2, beq_eq_false_iff_ne.2 h3, beq_eq_false_iff_ne.2 h4]
theorem toU8 (c : UInt8) : ((c.toNat : Int)).toNat.toUInt8 = c := by simp
theorem ib_any (c : UInt8) (w : World) : ∃ i : Int, decide (0 ≤ i) = signB c ∧ decide (i < 0) = (!signB c) ∧ Calls Tryz.prog 217 #[.string ⟨#[43, 58, 39, 63]⟩, .int .u8 (c.toNat : Int)] w fun e w' => e = .returned (.int .i64 i) ∧ w = w' := by
  obtain ⟨i, h1, h2, h3⟩ := ix_sign c
  refine ⟨i, h2, h3, (Tryz.strings_IndexByte _ _ w).mono ?_⟩
  rintro e w' ⟨rfl, rfl⟩
  refine ⟨?_, rfl⟩
  rw [toU8]
  rw [← h1]
theorem nat_eq (c : UInt8) (k : UInt8) (h : c ≠ k) : ((c.toNat : Int) == (k.toNat : Int)) = false := by
  rw [beq_eq_false_iff_ne]; intro e; exact h (UInt8.toNat_inj.1 (Int.ofNat.inj e))
section
variable {w : World} {rb : Nat} {a b : Value} {R : World → Prop}
set_option maxHeartbeats 1000000 in
theorem comp_63 (rb : Nat) (w : World) : Calls Tryz.prog 205 #[.pointer (some ⟨rb, 0, none⟩), .int .u8 63] w fun e w' => e = .returned (.tuple #[fnV rb 216, .int .i64 0]) ∧ w = w' := by
  go_enter Tryz.func205, Tryz.ntmps205
  go_wp2_with fail
  go_ret2
  exact ⟨rfl, rfl⟩
set_option maxHeartbeats 1000000 in
theorem comp_sign (c : UInt8) (hs : signB c = true) (h63 : c ≠ 63) (h : Calls Tryz.prog 197 #[.pointer (some ⟨rb, 0, none⟩), .int .u8 (c.toNat : Int)] w fun e w' => e = .returned (.tuple #[a, b]) ∧ R w') : Calls Tryz.prog 205 #[.pointer (some ⟨rb, 0, none⟩), .int .u8 (c.toNat : Int)] w fun e w' => e = .returned (.tuple #[a, b]) ∧ R w' := by
  obtain ⟨i, i1, i2, hi⟩ := ib_any c w
  have H := Lib.hid h
  have HI := Lib.hid hi
  rw [hs] at i1
  have d1 : ((c.toNat : Int) == 63) = false := nat_eq c 63 h63
  clear h hi
  obtain ⟨n, hn⟩ : ∃ n : Int, (c.toNat : Int) = n := ⟨_, rfl⟩
  rw [hn] at H HI d1 ⊢
  clear hn
  go_enter Tryz.func205, Tryz.ntmps205
  go_wp2_with first | (go_at_call 217; refine HI.out.mono ?_; rintro e w' ⟨rfl, rfl⟩) | (go_at_call 197; refine H.out.mono ?_; rintro e w' ⟨rfl, hR⟩; have HR := Lib.hid hR; clear hR)
  go_ret2
  exact ⟨rfl, HR.out⟩
set_option maxHeartbeats 1000000 in
theorem comp_bad (rb : Nat) (w : World) (c : UInt8) (hs : signB c = false) (hb : c.toNat < 32 ∨ 126 < c.toNat) : Calls Tryz.prog 205 #[.pointer (some ⟨rb, 0, none⟩), .int .u8 (c.toNat : Int)] w fun e w' => e = .returned (.tuple #[.nilFunc, .int .i64 30]) ∧ w = w' := by
  obtain ⟨i, i1, i2, hi⟩ := ib_any c w
  have h63 : c ≠ 63 := by rintro rfl; exact absurd hs (by decide)
  have HI := Lib.hid hi
  rw [hs] at i1
  have d1 : ((c.toNat : Int) == 63) = false := nat_eq c 63 h63
  clear hi
  obtain ⟨n, hn⟩ : ∃ n : Nat, c.toNat = n := ⟨_, rfl⟩
  rw [hn] at HI d1 hb ⊢
  clear hn
  by_cases h32 : n < 32
  · have d2 : decide ((n : Int) < 32) = true := by rw [decide_eq_true_eq]; omega
    go_enter Tryz.func205, Tryz.ntmps205
    go_wp2_with (go_at_call 217; refine HI.out.mono ?_; rintro e w' ⟨rfl, rfl⟩)
    go_ret2
    exact ⟨rfl, rfl⟩
  · have d2 : decide ((n : Int) < 32) = false := by rw [decide_eq_false_iff_not]; omega
    have d3 : decide ((126 : Int) < (n : Int)) = true := by rw [decide_eq_true_eq]; omega
    go_enter Tryz.func205, Tryz.ntmps205
    go_wp2_with (go_at_call 217; refine HI.out.mono ?_; rintro e w' ⟨rfl, rfl⟩)
    go_ret2
    exact ⟨rfl, rfl⟩
set_option maxHeartbeats 1000000 in
theorem comp_put (c : UInt8) (hs : signB c = false) (hb : ¬ (c.toNat < 32 ∨ 126 < c.toNat)) (h : Calls Tryz.prog 218 #[.pointer (some ⟨rb, 0, none⟩), .int .u8 (c.toNat : Int)] w fun e w' => e = .returned (.tuple #[a, b]) ∧ R w') : Calls Tryz.prog 205 #[.pointer (some ⟨rb, 0, none⟩), .int .u8 (c.toNat : Int)] w fun e w' => e = .returned (.tuple #[a, b]) ∧ R w' := by
  obtain ⟨i, i1, i2, hi⟩ := ib_any c w
  have h63 : c ≠ 63 := by rintro rfl; exact absurd hs (by decide)
  have H := Lib.hid h
  have HI := Lib.hid hi
  rw [hs] at i1
  have d1 : ((c.toNat : Int) == 63) = false := nat_eq c 63 h63
  have d2 : decide ((c.toNat : Int) < 32) = false := by rw [decide_eq_false_iff_not]; omega
  have d3 : decide ((126 : Int) < (c.toNat : Int)) = false := by rw [decide_eq_false_iff_not]; omega
  clear h hi hb
  obtain ⟨n, hn⟩ : ∃ n : Int, (c.toNat : Int) = n := ⟨_, rfl⟩
  rw [hn] at H HI d1 d2 d3 ⊢
  clear hn
  go_enter Tryz.func205, Tryz.ntmps205
  go_wp2_with first | (go_at_call 217; refine HI.out.mono ?_; rintro e w' ⟨rfl, rfl⟩) | (go_at_call 218; refine H.out.mono ?_; rintro e w' ⟨rfl, hR⟩; have HR := Lib.hid hR; clear hR)
  go_ret2
  exact ⟨rfl, HR.out⟩
set_option maxHeartbeats 1000000 in
theorem rel_bad (rb : Nat) (w : World) (c : UInt8) (hs : signB c = false) : Calls Tryz.prog 216 #[.pointer (some ⟨rb, 0, none⟩), .int .u8 (c.toNat : Int)] w fun e w' => e = .returned (.tuple #[.nilFunc, .int .i64 30]) ∧ w = w' := by
  obtain ⟨i, i1, i2, hi⟩ := ib_any c w
  have HI := Lib.hid hi
  rw [hs] at i2
  simp only [Bool.not_false] at i2
  clear hi
  obtain ⟨n, hn⟩ : ∃ n : Int, (c.toNat : Int) = n := ⟨_, rfl⟩
  rw [hn] at HI ⊢
  clear hn
  go_enter Tryz.func216, Tryz.ntmps216
  go_wp2_with (go_at_call 217; refine HI.out.mono ?_; rintro e w' ⟨rfl, rfl⟩)
  go_ret2
  exact ⟨rfl, rfl⟩
set_option maxHeartbeats 1000000 in
theorem rel_put (c : UInt8) (hs : signB c = true) (h : Calls Tryz.prog 218 #[.pointer (some ⟨rb, 0, none⟩), .int .u8 (c.toNat : Int)] w fun e w' => e = .returned (.tuple #[a, b]) ∧ R w') : Calls Tryz.prog 216 #[.pointer (some ⟨rb, 0, none⟩), .int .u8 (c.toNat : Int)] w fun e w' => e = .returned (.tuple #[a, b]) ∧ R w' := by
  obtain ⟨i, i1, i2, hi⟩ := ib_any c w
  have H := Lib.hid h
  have HI := Lib.hid hi
  rw [hs] at i2
  simp only [Bool.not_true] at i2
  clear h hi
  obtain ⟨n, hn⟩ : ∃ n : Int, (c.toNat : Int) = n := ⟨_, rfl⟩
  rw [hn] at H HI ⊢
  clear hn
  go_enter Tryz.func216, Tryz.ntmps216
  go_wp2_with first | (go_at_call 217; refine HI.out.mono ?_; rintro e w' ⟨rfl, rfl⟩) | (go_at_call 218; refine H.out.mono ?_; rintro e w' ⟨rfl, hR⟩; have HR := Lib.hid hR; clear hR)
  go_ret2
  exact ⟨rfl, HR.out⟩
set_option maxHeartbeats 1000000 in
theorem bhd_bad (rb : Nat) (w : World) (c : UInt8) (h1 : c ≠ 43) (h2 : c ≠ 39) : Calls Tryz.prog 187 #[.pointer (some ⟨rb, 0, none⟩), .int .u8 (c.toNat : Int)] w fun e w' => e = .returned (.tuple #[.nilFunc, .int .i64 30]) ∧ w = w' := by
  have d1 : ((c.toNat : Int) == 43) = false := nat_eq c 43 h1
  have d2 : ((c.toNat : Int) == 39) = false := nat_eq c 39 h2
  obtain ⟨n, hn⟩ : ∃ n : Int, (c.toNat : Int) = n := ⟨_, rfl⟩
  rw [hn] at d1 d2 ⊢
  clear hn
  have d1 : (n != 43) = true := by simp [bne, d1]
  have d2 : (n != 39) = true := by simp [bne, d2]
  go_enter Tryz.func187, Tryz.ntmps187
  go_wp2_with fail
  go_ret2
  exact ⟨rfl, rfl⟩
set_option maxHeartbeats 1000000 in
theorem bhd_39 (h : Calls Tryz.prog 197 #[.pointer (some ⟨rb, 0, none⟩), .int .u8 39] w fun e w' => e = .returned (.tuple #[a, b]) ∧ R w') : Calls Tryz.prog 187 #[.pointer (some ⟨rb, 0, none⟩), .int .u8 39] w fun e w' => e = .returned (.tuple #[a, b]) ∧ R w' := by
  have H := Lib.hid h
  clear h
  go_enter Tryz.func187, Tryz.ntmps187
  go_wp2_with (go_at_call 197; refine H.out.mono ?_; rintro e w' ⟨rfl, hR⟩; have HR := Lib.hid hR; clear hR)
  go_ret2
  exact ⟨rfl, HR.out⟩
set_option maxHeartbeats 1000000 in
theorem bhd_43 (h : Calls Tryz.prog 197 #[.pointer (some ⟨rb, 0, none⟩), .int .u8 43] w fun e w' => e = .returned (.tuple #[a, b]) ∧ R w') : Calls Tryz.prog 187 #[.pointer (some ⟨rb, 0, none⟩), .int .u8 43] w fun e w' => e = .returned (.tuple #[a, b]) ∧ R w' := by
  have H := Lib.hid h
  clear h
  go_enter Tryz.func187, Tryz.ntmps187
  go_wp2_with (go_at_call 197; refine H.out.mono ?_; rintro e w' ⟨rfl, hR⟩; have HR := Lib.hid hR; clear hR)
  go_ret2
  exact ⟨rfl, HR.out⟩
end
end Go.Proofs.YtgfijlamhjjecaaGreatDoor


/-
  EdiL: contracts of tag and between. No condition beyond those stated.
-/
namespace Go.Proofs.YtgfijlamhjjecaaGreatDoor
open Go.RowKit
theorem enc_one (c : UInt8) (h : c.toNat < 128) : Utf8.encode (c.toNat : Int) = ⟨#[c]⟩ := by
  unfold Utf8.encode
  have hv : Utf8.valid (c.toNat : Int) = true := by unfold Utf8.valid; simp; omega
  simp [hv, h]
theorem conv_one (c : UInt8) (h : c.toNat < 128) (w : World) : (convert 5 9 (.int .u8 (c.toNat : Int))).run Tryz.prog w = .ok (.string ⟨#[c]⟩) w := by
  rw [run_convert_int_string w 5 9 .u8 _ (by rw [Tryz.underlying5]; rfl) Tryz.underlying9, enc_one c h]
section
variable {S : Nat → Prop} {w : World} {B rb : Nat} {l : List Seg} {t : Str} {es : List (List Str)} {cs : List Str} {p q : Str} {lv pv ev cv : Value} {xs ys : List Value}
set_option maxHeartbeats 1000000 in
theorem tag_bad (rb : Nat) (w : World) (c : UInt8) (hc : tagB c = false) : Calls Tryz.prog 168 #[.pointer (some ⟨rb, 0, none⟩), .int .u8 (c.toNat : Int)] w fun e w' => e = .returned (.tuple #[.nilFunc, .int .i64 30]) ∧ w = w' := by
  have H := Lib.hid (tagged_any c w)
  rw [hc] at H
  obtain ⟨n, hn⟩ : ∃ n : Int, (c.toNat : Int) = n := ⟨_, rfl⟩
  rw [hn] at H ⊢
  clear hn
  go_enter Tryz.func168, Tryz.ntmps168
  go_wp2_with (go_at_call 134; refine H.out.mono ?_; rintro e w' ⟨rfl, rfl⟩)
  go_ret2
  exact ⟨rfl, rfl⟩
theorem tag_lt {c : UInt8} (h : tagB c = true) : c.toNat < 128 := by
  unfold tagB at h
  simp at h
  omega
set_option maxRecDepth 100000 in
set_option maxHeartbeats 2000000 in
theorem tag_ok {xs0 : List Value} (h : RA S w B rb (l ++ [⟨t, []⟩]) lv pv (xs0 ++ [.slice none 0 0]) p) (_hB : B ≤ w.heap.size) (c : UInt8) (hc : tagB c = true) (ht : t.length < 3) : Calls Tryz.prog 168 #[.pointer (some ⟨rb, 0, none⟩), .int .u8 (c.toNat : Int)] w fun e w' => e = .returned (.tuple #[fnV rb (if t.length + 1 < 3 then 168 else 187), .int .i64 0]) ∧ RA S w' B rb (l ++ [⟨t ++ [c], []⟩]) lv pv (xs0 ++ [.slice none 0 0]) p ∧ Below B w w' := by
  obtain ⟨g, cap, x, xs1, rfl, hc1, hc2, hxx, hx0, k1, k2, z1, z2, _⟩ := h.top
  have d0 := h.c0
  have H := Lib.hid h
  have HT := Lib.hid (tagged_any c w)
  have hcv := fun w => conv_one c (tag_lt hc) w
  rw [hc] at HT
  obtain ⟨F, hF⟩ : ∃ F : Nat, (if t.length + 1 < 3 then 168 else 187) = F := ⟨_, rfl⟩
  rw [hF]
  have HF := Lib.hid hF
  clear hF
  obtain ⟨n, hn⟩ : ∃ n : Int, (c.toNat : Int) = n := ⟨_, rfl⟩
  rw [hn] at HT hcv ⊢
  clear h hn hxx k2 z2
  replace k1 : w.cell? ⟨g, l.length * 2, none⟩ = some (.string ⟨t.toArray⟩) := k1
  have hsz : (ByteArray.mk t.toArray).size + (ByteArray.mk #[c]).size ≤ maxLen := by
    show t.toArray.size + 1 ≤ maxLen
    simp [maxLen]; omega
  go_enter Tryz.func168, Tryz.ntmps168
  go_upto_region 4 with first | (go_at_call 134; refine HT.out.mono ?_; rintro e w' ⟨rfl, rfl⟩) | (go_at_call 186; refine (top_any rb g l.length cap _ d0 hc1 hc2).mono ?_; rintro e w' ⟨rfl, rfl⟩)
  have eS : Value.string ((ByteArray.mk t.toArray) ++ (ByteArray.mk #[c])) = sv (t ++ [c]) := by
    unfold sv
    rw [show (#[c] : Array UInt8) = [c].toArray from rfl, ByteArray.mk_append_mk]
  rw [eS]
  have HQ := Lib.hid ((H.out.settag (t' := t ++ [c])).fr0 (Fr.drew [] _))
  have HBQ := Lib.hid (((Below.refl B w).setCell (p := ⟨g, l.length * 2, none⟩) (own_lt H.out.hl (k := g) rfl).1 (sv (t ++ [c]))).drew)
  obtain ⟨wq, hwq⟩ : ∃ wq, (w.setCell ⟨g, l.length * 2, none⟩ (sv (t ++ [c]))).drew = wq := ⟨_, rfl⟩
  rw [hwq] at HQ HBQ ⊢
  clear hwq H d0 k1 z1 hsz
  obtain ⟨g', cap', x', xs2, he, -, -, -, -, k1, -, -, -, -⟩ := HQ.out.top
  cases he
  have d0 := HQ.out.c0
  replace k1 : wq.cell? ⟨g, l.length * 2, none⟩ = some (.string ⟨(t ++ [c]).toArray⟩) := k1
  have hlen : (((ByteArray.mk (t ++ [c]).toArray).size : Nat) : Int) = (t.length : Int) + 1 := by show (((t ++ [c]).toArray.size : Nat) : Int) = _; simp
  by_cases h3 : t.length + 1 < 3
  · have d3 : decide ((t.length : Int) + 1 < 3) = true := by rw [decide_eq_true_eq]; omega
    go_wp2_with (go_at_call 186; refine (top_any rb g l.length cap _ d0 hc1 hc2).mono ?_; rintro e w' ⟨rfl, rfl⟩)
    go_ret2
    exact ⟨by rw [← HF.out, if_pos h3]; rfl, HQ.out.fr0 (Fr.drew _ _), HBQ.out.drew⟩
  · have d3 : decide ((t.length : Int) + 1 < 3) = false := by rw [decide_eq_false_iff_not]; omega
    go_wp2_with (go_at_call 186; refine (top_any rb g l.length cap _ d0 hc1 hc2).mono ?_; rintro e w' ⟨rfl, rfl⟩)
    go_ret2
    exact ⟨by rw [← HF.out, if_neg h3]; rfl, HQ.out.fr0 (Fr.drew _ _), HBQ.out.drew⟩
end
end Go.Proofs.YtgfijlamhjjecaaGreatDoor


/-
  EdiN: contracts of between. No condition beyond those stated.
-/
namespace Go.Proofs.YtgfijlamhjjecaaGreatDoor
open Go.RowKit
theorem cell_two_new (w : World) (x y : Value) (t : TypeId) : ∀ (j : Nat) (u : Value), [x, y][j]? = some u → (w.alloc (.cells #[x, y] t)).cell? ((⟨w.heap.size, 0, none⟩ : Addr).add j) = some u := by
  intro j u hj
  match j, hj with
  | 0, hj => simp at hj; subst hj; simp [Addr.add]
  | 1, hj => simp at hj; subst hj; simp [Addr.add]
section
variable {S : Nat → Prop} {w : World} {B rb : Nat} {l : List Seg} {t : Str} {es : List (List Str)} {cs : List Str} {p q : Str} {lv pv ev cv : Value} {xs ys : List Value}
theorem RA.lform (h : RA S w B rb l lv pv xs p) : ∃ ao cap, lv = .slice ao l.length cap := by
  obtain ⟨_, ⟨h1, h2⟩ | ⟨g, cap, _, h1, _⟩⟩ := h.hl
  · exact ⟨none, 0, by rw [h1, h2]⟩
  · exact ⟨_, cap, h1⟩
set_option maxRecDepth 100000 in
set_option maxHeartbeats 2000000 in
theorem btw_nl (h : RA S w B rb l lv pv xs p) (h0 : l ≠ []) : Calls Tryz.prog 144 #[.pointer (some ⟨rb, 0, none⟩), .int .u8 10] w fun e w' => e = .returned (.tuple #[fnV rb 144, .int .i64 0]) ∧ w = w' := by
  have d0 := h.c0
  obtain ⟨ao, cap, rfl⟩ := h.lform
  have h1 : 0 < l.length := List.length_pos_iff.2 h0
  have d1 : decide ((0 : Int) < (l.length : Int)) = true := by rw [decide_eq_true_eq]; omega
  clear h
  go_enter Tryz.func144, Tryz.ntmps144
  go_wp2_with fail
  go_ret2
  exact ⟨rfl, rfl⟩
set_option maxRecDepth 100000 in
set_option maxHeartbeats 2000000 in
theorem btw_full (h : RA S w B rb l lv pv xs p) (c : UInt8) (hc : c ≠ 10) (h64 : l.length = 64) : Calls Tryz.prog 144 #[.pointer (some ⟨rb, 0, none⟩), .int .u8 (c.toNat : Int)] w fun e w' => e = .returned (.tuple #[.nilFunc, .int .i64 2]) ∧ w = w' := by
  have d0 := h.c0
  obtain ⟨ao, cap, rfl⟩ := h.lform
  rw [h64] at d0
  have d1 : ((c.toNat : Int) == 10) = false := nat_eq c 10 hc
  obtain ⟨n, hn⟩ : ∃ n : Int, (c.toNat : Int) = n := ⟨_, rfl⟩
  rw [hn] at d1 ⊢
  clear h hn
  go_enter Tryz.func144, Tryz.ntmps144
  go_wp2_with fail
  go_ret2
  exact ⟨rfl, rfl⟩
set_option maxRecDepth 100000 in
set_option maxHeartbeats 4000000 in
theorem btw_tag (h : RA S w B rb l lv pv xs p) (hB : B ≤ w.heap.size) (c : UInt8) (hc : ¬ (c = 10 ∧ l ≠ [])) (h64 : l.length < 64) {a b : Value} {R : World → Prop}
    (hT : ∀ w1 lv', RA S w1 B rb (l ++ [⟨[], []⟩]) lv' pv (xs ++ [.slice none 0 0]) p → Below B w w1 → Calls Tryz.prog 168 #[.pointer (some ⟨rb, 0, none⟩), .int .u8 (c.toNat : Int)] w1 fun e w' => e = .returned (.tuple #[a, b]) ∧ R w') :
    Calls Tryz.prog 144 #[.pointer (some ⟨rb, 0, none⟩), .int .u8 (c.toNat : Int)] w fun e w' => e = .returned (.tuple #[a, b]) ∧ R w' := by
  have d0 := h.c0
  have f0 := h.fz 0
  have H := Lib.hid h
  have HT := Lib.hid hT
  have hrw := h.lt
  have hrB := h.hB
  have nlr := own_neR h.r h.hl (by decide)
  obtain ⟨la, lc, rfl⟩ := h.lform
  have d64 : ((l.length : Int) == 64) = false := by rw [beq_eq_false_iff_ne]; omega
  obtain ⟨n, hn⟩ : ∃ n : Int, (c.toNat : Int) = n := ⟨_, rfl⟩
  have dd : (n == 10) = false ∨ (n = 10 ∧ decide ((0 : Int) < (l.length : Int)) = false) := by
    by_cases h10 : c = 10
    · subst h10
      refine .inr ⟨hn.symm, ?_⟩
      rw [decide_eq_false_iff_not]
      have : l = [] := Classical.byContradiction fun h => hc ⟨rfl, h⟩
      simp [this]
    · exact .inl (by rw [← hn]; exact nat_eq c 10 h10)
  rw [hn] at HT ⊢
  clear h hT hn hc
  obtain ⟨i0, hi, hz0, hz1, hz2⟩ := info_parts einfo_seg
  have HI := Lib.hid hi
  have HZ0 := Lib.hid hz0
  have HZ1 := Lib.hid hz1
  have HZ2 := Lib.hid hz2
  clear hi hz0 hz1 hz2
  rcases dd with d1 | ⟨rfl, d1⟩
  · go_enter Tryz.func144, Tryz.ntmps144
    go_upto_region 6 with ((with_reducible refine wpList_at (.call { callee := .builtin .append, args := #[.tmp 30, .tmp 32], argTypes := #[39, 39] }) rfl ?_); go_loud (refine wpList_append_own_at _ rfl _ _ 39 rfl B 94 i0 (.agg #[.string ⟨#[]⟩, .slice none 0 0]) 2 40 Tryz.underlying39 HI.out HZ0.out HZ1.out HZ2.out rfl (by decide) _ _ _ rfl (World.ownsRow.alloc (show w.ownsRow B 94 2 (.slice la l.length lc) l.length (segCells l xs) from H.out.hl) _) ⟨w.heap.size, 0, none⟩ 1 1 [.string ⟨#[]⟩, .slice none 0 0] rfl rfl (cell_two_new _ _ _ _) (by simp [Value.oneCell']) (by unfold maxLen; omega) (by omega) (by simp; omega) ?_); intro lv' w1 he' hg' _ hk'; have HG1 : Hid ((w.alloc (.cells #[.string ⟨#[]⟩, .slice none 0 0] 94)).grownBy w1 (Value.slice la l.length lc).ownBlock) := hg'; have HK1 : Hid (lv'.ownBlock = (Value.slice la l.length lc).ownBlock ∨ lv'.ownBlock = some (w.heap.size + 1)) := Lib.hid (by rcases hk' with h | h; exact .inl h; (right; rw [h]; simp)); have hea := blk_ag HG1.out hrw nlr; have f0' : w1.frozen? ⟨rb, 0, none⟩ = false := (fz_ag hea).trans f0; have d0' : w1.cell? ⟨rb, 0, none⟩ = some (.slice la l.length lc) := (cell_ag hea).trans d0; have hs1 := hg'.size; simp at hs1; have HE1 : Hid (w1.ownsRow B 94 2 lv' (l.length + 1) (segCells l xs ++ [sv [], .slice none 0 0])) := Lib.hid he'; obtain ⟨pg2, pc2, _, rfl, _⟩ := own_form he' (by omega) (by omega); clear he' hg' hk' hea)
    have HQ := Lib.hid (H.out.newseg HG1.out HE1.out (by rw [World.size_alloc]; exact HK1.out))
    have HBQ := Lib.hid (H.out.fr_newseg (lv' := .slice (some ⟨pg2, 0, none⟩) (l.length + 1) pc2) HG1.out hB)
    obtain ⟨wq, hwq⟩ : ∃ wq, w1.setCell ⟨rb, 0, none⟩ (.slice (some ⟨pg2, 0, none⟩) (l.length + 1) pc2) = wq := ⟨_, rfl⟩
    rw [hwq] at HQ HBQ ⊢
    clear hwq f0 d0 f0' d0' HG1 HE1 HK1 hs1
    have HC := Lib.hid (HT.out wq _ HQ.out HBQ.out)
    go_wp2_with (go_at_call 168; refine HC.out.mono ?_; rintro e w' ⟨rfl, hR⟩; have HR := Lib.hid hR; clear hR)
    go_ret2
    exact ⟨rfl, HR.out⟩
  · have d2 : ¬ 0 < l.length := fun h => by rw [decide_eq_false_iff_not] at d1; omega
    go_enter Tryz.func144, Tryz.ntmps144
    go_upto_region 6 with ((with_reducible refine wpList_at (.call { callee := .builtin .append, args := #[.tmp 30, .tmp 32], argTypes := #[39, 39] }) rfl ?_); go_loud (refine wpList_append_own_at _ rfl _ _ 39 rfl B 94 i0 (.agg #[.string ⟨#[]⟩, .slice none 0 0]) 2 40 Tryz.underlying39 HI.out HZ0.out HZ1.out HZ2.out rfl (by decide) _ _ _ rfl (World.ownsRow.alloc (show w.ownsRow B 94 2 (.slice la l.length lc) l.length (segCells l xs) from H.out.hl) _) ⟨w.heap.size, 0, none⟩ 1 1 [.string ⟨#[]⟩, .slice none 0 0] rfl rfl (cell_two_new _ _ _ _) (by simp [Value.oneCell']) (by unfold maxLen; omega) (by omega) (by simp; omega) ?_); intro lv' w1 he' hg' _ hk'; have HG1 : Hid ((w.alloc (.cells #[.string ⟨#[]⟩, .slice none 0 0] 94)).grownBy w1 (Value.slice la l.length lc).ownBlock) := hg'; have HK1 : Hid (lv'.ownBlock = (Value.slice la l.length lc).ownBlock ∨ lv'.ownBlock = some (w.heap.size + 1)) := Lib.hid (by rcases hk' with h | h; exact .inl h; (right; rw [h]; simp)); have hea := blk_ag HG1.out hrw nlr; have f0' : w1.frozen? ⟨rb, 0, none⟩ = false := (fz_ag hea).trans f0; have d0' : w1.cell? ⟨rb, 0, none⟩ = some (.slice la l.length lc) := (cell_ag hea).trans d0; have hs1 := hg'.size; simp at hs1; have HE1 : Hid (w1.ownsRow B 94 2 lv' (l.length + 1) (segCells l xs ++ [sv [], .slice none 0 0])) := Lib.hid he'; obtain ⟨pg2, pc2, _, rfl, _⟩ := own_form he' (by omega) (by omega); clear he' hg' hk' hea)
    have HQ := Lib.hid (H.out.newseg HG1.out HE1.out (by rw [World.size_alloc]; exact HK1.out))
    have HBQ := Lib.hid (H.out.fr_newseg (lv' := .slice (some ⟨pg2, 0, none⟩) (l.length + 1) pc2) HG1.out hB)
    obtain ⟨wq, hwq⟩ : ∃ wq, w1.setCell ⟨rb, 0, none⟩ (.slice (some ⟨pg2, 0, none⟩) (l.length + 1) pc2) = wq := ⟨_, rfl⟩
    rw [hwq] at HQ HBQ ⊢
    clear hwq f0 d0 f0' d0' HG1 HE1 HK1 hs1
    have HC := Lib.hid (HT.out wq _ HQ.out HBQ.out)
    go_wp2_with (go_at_call 168; refine HC.out.mono ?_; rintro e w' ⟨rfl, hR⟩; have HR := Lib.hid hR; clear hR)
    go_ret2
    exact ⟨rfl, HR.out⟩
end
end Go.Proofs.YtgfijlamhjjecaaGreatDoor


/-
  EdiO: one step of the reader, told by the machine of bytes. No condition beyond those stated.
-/
namespace Go.Proofs.YtgfijlamhjjecaaGreatDoor
open Go.RowKit
/-- the function that takes the next byte -/
def fnE : EC → Nat
  | .btw _ => 144
  | .tag _ _ => 168
  | .bhd _ _ => 187
  | .cmp _ _ _ _ _ => 205
  | .rel _ _ _ _ _ => 216
/-- a reader in memory stands there -/
def Rd (w : World) (B rb : Nat) : EC → Prop
  | .btw l => ∃ (S : Nat → Prop) (lv pv : Value) (xs : List Value) (p : Str), RA S w B rb l lv pv xs p ∧ l.length ≤ 64
  | .tag l t => ∃ (S : Nat → Prop) (lv pv : Value) (xs0 : List Value) (p : Str), RA S w B rb (l ++ [⟨t, []⟩]) lv pv (xs0 ++ [.slice none 0 0]) p ∧ t.length < 3 ∧ l.length < 64
  | .bhd l t => ∃ (S : Nat → Prop) (lv pv : Value) (xs0 : List Value) (p : Str), RA S w B rb (l ++ [⟨t, []⟩]) lv pv (xs0 ++ [.slice none 0 0]) p ∧ l.length < 64
  | .cmp l t es cs p => ∃ (S : Nat → Prop) (lv pv ev cv : Value) (xs ys : List Value), RB S w B rb l t es cs p p lv pv ev cv xs ys ∧ l.length < 64 ∧ es.length + 1 ≤ 16 ∧ cs.length + 1 ≤ 8 ∧ p.length ≤ 256
  | .rel l t es cs p => ∃ (S : Nat → Prop) (lv pv ev cv : Value) (xs ys : List Value), RB S w B rb l t es cs p p lv pv ev cv xs ys ∧ l.length < 64 ∧ es.length + 1 ≤ 16 ∧ cs.length + 1 ≤ 8 ∧ p.length ≤ 256
/-- what a step answers -/
def StepSays (B rb : Nat) (w : World) : ER → Ending → World → Prop
  | .err k, e, w' => e = .returned (.tuple #[.nilFunc, .int .i64 k]) ∧ Below B w w'
  | .ok s, e, w' => e = .returned (.tuple #[fnV rb (fnE s), .int .i64 0]) ∧ Rd w' B rb s ∧ Below B w w'
section
variable {w : World} {B rb : Nat} {l : List Seg} {t : Str} {es : List (List Str)} {cs : List Str} {p : Str}
abbrev stepArgs (rb : Nat) (c : UInt8) : Array Value := #[.pointer (some ⟨rb, 0, none⟩), .int .u8 (c.toNat : Int)]
theorem step_tag {S : Nat → Prop} {lv pv : Value} {xs0 : List Value} {q : Str} {w0 : World} (h : RA S w B rb (l ++ [⟨t, []⟩]) lv pv (xs0 ++ [.slice none 0 0]) q) (ht : t.length < 3) (hl : l.length < 64) (hb : Below B w0 w) (hB : B ≤ w0.heap.size) (c : UInt8) :
    Calls Tryz.prog 168 (stepArgs rb c) w (StepSays B rb w0 (tagS l t c)) := by
  unfold tagS
  by_cases hc : tagB c = false
  · rw [if_pos hc]
    exact (tag_bad rb w c hc).mono fun e w' h => ⟨h.1, h.2 ▸ hb⟩
  · rw [if_neg hc]
    have hc' : tagB c = true := by simpa using hc
    have hB' : B ≤ w.heap.size := Nat.le_trans hB hb.size
    refine (tag_ok h hB' c hc' ht).mono fun e w' h' => ?_
    obtain ⟨h1, h2, h3⟩ := h'
    by_cases h3' : t.length + 1 < 3
    · rw [if_pos h3'] at h1 ⊢
      exact ⟨h1, ⟨S, lv, pv, xs0, q, h2, by simpa using h3', hl⟩, hb.trans h3⟩
    · rw [if_neg h3'] at h1 ⊢
      exact ⟨h1, ⟨S, lv, pv, xs0, q, h2, hl⟩, hb.trans h3⟩
theorem step_put {S : Nat → Prop} {lv pv ev cv : Value} {xs ys : List Value} (h : RB S w B rb l t es cs p p lv pv ev cv xs ys) (hl : l.length < 64) (h16 : es.length + 1 ≤ 16) (h8 : cs.length + 1 ≤ 8) (hp : p.length ≤ 256) (hB : B ≤ w.heap.size) (c : UInt8) :
    Calls Tryz.prog 218 (stepArgs rb c) w (StepSays B rb w (putS l t es cs p c)) := by
  unfold putS
  by_cases h256 : p.length = 256
  · rw [if_pos h256]
    exact put_full h c h256
  · rw [if_neg h256]
    refine (put_ok h c hB (by omega)).mono fun e w' h' => ?_
    obtain ⟨h1, ⟨pv', h2⟩, h3⟩ := h'
    exact ⟨h1, ⟨S, lv, pv', ev, cv, xs, ys, h2, hl, h16, h8, by simp; omega⟩, h3⟩
theorem step_sign {S : Nat → Prop} {lv pv ev cv : Value} {xs ys : List Value} (h : RB S w B rb l t es cs p p lv pv ev cv xs ys) (hl : l.length < 64) (h16 : es.length + 1 ≤ 16) (h8 : cs.length + 1 ≤ 8) (hB : B ≤ w.heap.size) (c : UInt8) (hc : signB c = true) (h63 : c ≠ 63) :
    Calls Tryz.prog 197 (stepArgs rb c) w (StepSays B rb w (signS l t es cs p c)) := by
  unfold signS
  by_cases h39 : c = 39
  · subst h39
    rw [if_pos rfl]
    refine (sign_B39 h hB).mono fun e w' h' => ?_
    obtain ⟨h1, h2, h3⟩ := h'
    exact ⟨h1, ⟨_, _, _, _, _, h2, by simp; omega⟩, h3⟩
  · rw [if_neg h39]
    by_cases h43 : c = 43
    · subst h43
      rw [if_pos rfl]
      by_cases he : es.length + 1 = 16
      · rw [if_pos he]
        exact sign_B43_full h hB he
      · rw [if_neg he]
        refine (sign_B43_next h hB (by omega)).mono fun e w' h' => ?_
        obtain ⟨h1, ⟨ev', cv', h2⟩, h3⟩ := h'
        exact ⟨h1, ⟨_, _, _, _, _, _, _, h2, hl, by simp; omega, by simp, by simp⟩, h3⟩
    · rw [if_neg h43]
      have h58 : c = 58 := by
        unfold signB at hc
        simpa [h39, h43, h63] using hc
      subst h58
      by_cases he : cs.length + 1 = 8
      · rw [if_pos he]
        exact sign_B58_full h hB he
      · rw [if_neg he]
        refine (sign_B58_next h hB (by omega)).mono fun e w' h' => ?_
        obtain ⟨h1, ⟨cv', h2⟩, h3⟩ := h'
        exact ⟨h1, ⟨_, _, _, _, _, _, _, h2, hl, h16, by simp; omega, by simp⟩, h3⟩
end
/-- an answer has the form that a caller hands on -/
theorem says_form {B rb : Nat} {w : World} {r : ER} {f : Nat} {args : Array Value} (h : Calls Tryz.prog f args w (StepSays B rb w r)) : ∃ a b, ∃ R : World → Prop, (Calls Tryz.prog f args w fun e w' => e = .returned (.tuple #[a, b]) ∧ R w') ∧ ∀ e w', (e = .returned (.tuple #[a, b]) ∧ R w') → StepSays B rb w r e w' := by
  cases r with
  | err k => exact ⟨.nilFunc, .int .i64 k, fun w' => Below B w w', h, fun e w' h => h⟩
  | ok s => exact ⟨fnV rb (fnE s), .int .i64 0, fun w' => Rd w' B rb s ∧ Below B w w', h, fun e w' h => h⟩
theorem rd_step {w : World} {B rb : Nat} {s : EC} (h : Rd w B rb s) (hB : B ≤ w.heap.size) (c : UInt8) : Calls Tryz.prog (fnE s) (stepArgs rb c) w (StepSays B rb w (stepE s c)) := by
  cases s with
  | btw l =>
    obtain ⟨S, lv, pv, xs, p, h, hl⟩ := h
    show Calls Tryz.prog 144 _ w (StepSays B rb w (if c = 10 ∧ l ≠ [] then .ok (.btw l) else if l.length = 64 then .err 2 else tagS l [] c))
    by_cases hc : c = 10 ∧ l ≠ []
    · rw [if_pos hc]
      obtain ⟨rfl, hl0⟩ := hc
      exact (btw_nl h hl0).mono fun e w' h' => ⟨h'.1, ⟨S, lv, pv, xs, p, h'.2 ▸ h, hl⟩, h'.2 ▸ Below.refl B w⟩
    · rw [if_neg hc]
      by_cases h64 : l.length = 64
      · rw [if_pos h64]
        have hc10 : c ≠ 10 := fun e => hc ⟨e, fun e' => by rw [e'] at h64; exact absurd h64 (by decide)⟩
        exact (btw_full h c hc10 h64).mono fun e w' h' => ⟨h'.1, h'.2 ▸ Below.refl B w⟩
      · rw [if_neg h64]
        have key : ∀ (a b : Value) (R : World → Prop), (∀ w1 lv', RA S w1 B rb (l ++ [⟨[], []⟩]) lv' pv (xs ++ [.slice none 0 0]) p → Below B w w1 → Calls Tryz.prog 168 (stepArgs rb c) w1 fun e w' => e = .returned (.tuple #[a, b]) ∧ R w') → Calls Tryz.prog 144 (stepArgs rb c) w fun e w' => e = .returned (.tuple #[a, b]) ∧ R w' :=
          fun a b R hT => btw_tag h hB c hc (by omega) hT
        cases hr : tagS l [] c with
        | err k =>
          refine (key .nilFunc (.int .i64 k) (fun w' => Below B w w') fun w1 lv' h1 hb => ?_).mono fun e w' h' => h'
          have := step_tag h1 (by simp) (by omega) hb hB c
          rw [hr] at this
          exact this
        | ok s' =>
          refine (key (fnV rb (fnE s')) (.int .i64 0) (fun w' => Rd w' B rb s' ∧ Below B w w') fun w1 lv' h1 hb => ?_).mono fun e w' h' => h'
          have := step_tag h1 (by simp) (by omega) hb hB c
          rw [hr] at this
          exact this
  | tag l t =>
    obtain ⟨S, lv, pv, xs, p, h, ht, hl⟩ := h
    exact step_tag h ht hl (Below.refl B w) hB c
  | bhd l t =>
    obtain ⟨S, lv, pv, xs, p, h, hl⟩ := h
    show Calls Tryz.prog 187 _ w (StepSays B rb w (if c = 39 then .ok (.btw (l ++ [⟨t, []⟩])) else if c = 43 then .ok (.cmp l t [] [] []) else .err 30))
    by_cases h39 : c = 39
    · subst h39
      rw [if_pos rfl]
      refine (bhd_39 (R := fun w' => RA S w' B rb (l ++ [⟨t, []⟩]) lv (.slice none 0 0) (xs ++ [.slice none 0 0]) [] ∧ Below B w w') (sign_A39 h hB)).mono fun e w' h' => ?_
      exact ⟨h'.1, ⟨_, _, _, _, _, h'.2.1, by simp; omega⟩, h'.2.2⟩
    · rw [if_neg h39]
      by_cases h43 : c = 43
      · subst h43
        rw [if_pos rfl]
        refine (bhd_43 (R := fun w' => (∃ ev cv, RB S w' B rb l t [] [] [] [] lv (.slice none 0 0) ev cv xs []) ∧ Below B w w') (sign_A43 h hB)).mono fun e w' h' => ?_
        obtain ⟨h1, ⟨ev, cv, h2⟩, h3⟩ := h'
        exact ⟨h1, ⟨_, _, _, _, _, _, _, h2, hl, by simp, by simp, by simp⟩, h3⟩
      · rw [if_neg h43]
        exact (bhd_bad rb w c h43 h39).mono fun e w' h' => ⟨h'.1, h'.2 ▸ Below.refl B w⟩
  | cmp l t es cs p =>
    obtain ⟨S, lv, pv, ev, cv, xs, ys, h, hl, h16, h8, hp⟩ := h
    show Calls Tryz.prog 205 _ w (StepSays B rb w (if c = 63 then .ok (.rel l t es cs p) else if signB c = true then signS l t es cs p c else if c.toNat < 32 ∨ 126 < c.toNat then .err 30 else putS l t es cs p c))
    by_cases h63 : c = 63
    · subst h63
      rw [if_pos rfl]
      exact (comp_63 rb w).mono fun e w' h' => ⟨h'.1, ⟨_, _, _, _, _, _, _, h'.2 ▸ h, hl, h16, h8, hp⟩, h'.2 ▸ Below.refl B w⟩
    · rw [if_neg h63]
      by_cases hs : signB c = true
      · rw [if_pos hs]
        obtain ⟨a, b, R, h1, h2⟩ := says_form (step_sign h hl h16 h8 hB c hs h63)
        exact (comp_sign c hs h63 h1).mono h2
      · rw [if_neg hs]
        have hs' : signB c = false := by simpa using hs
        by_cases hb : c.toNat < 32 ∨ 126 < c.toNat
        · rw [if_pos hb]
          exact (comp_bad rb w c hs' hb).mono fun e w' h' => ⟨h'.1, h'.2 ▸ Below.refl B w⟩
        · rw [if_neg hb]
          obtain ⟨a, b, R, h1, h2⟩ := says_form (step_put h hl h16 h8 hp hB c)
          exact (comp_put c hs' hb h1).mono h2
  | rel l t es cs p =>
    obtain ⟨S, lv, pv, ev, cv, xs, ys, h, hl, h16, h8, hp⟩ := h
    show Calls Tryz.prog 216 _ w (StepSays B rb w (if signB c = true then putS l t es cs p c else .err 30))
    by_cases hs : signB c = true
    · rw [if_pos hs]
      obtain ⟨a, b, R, h1, h2⟩ := says_form (step_put h hl h16 h8 hp hB c)
      exact (rel_put c hs h1).mono h2
    · rw [if_neg hs]
      have hs' : signB c = false := by simpa using hs
      exact (rel_bad rb w c hs').mono fun e w' h' => ⟨h'.1, h'.2 ▸ Below.refl B w⟩
end Go.Proofs.YtgfijlamhjjecaaGreatDoor


/-
  EdiQ: contract of held. No condition beyond those stated.
-/
namespace Go.Proofs.YtgfijlamhjjecaaGreatDoor
open Go.RowKit
/-- how many ? end the first i bytes -/
def heldN (t : Str) (i : Nat) : Nat := ((t.take i).reverse.takeWhile (· == 63)).length
theorem takeWhile_len {α : Type} (f : α → Bool) : ∀ (l : List α) (k : Nat), (∀ j, j < k → ∃ x, l[j]? = some x ∧ f x = true) → (∀ x, l[k]? = some x → f x = false) → (l.takeWhile f).length = k
  | [], k, h1, _ => by
    cases k with
    | zero => rfl
    | succ k => obtain ⟨x, hx, _⟩ := h1 0 (by omega); simp at hx
  | a :: l, k, h1, h2 => by
    cases k with
    | zero => have := h2 a rfl; simp [List.takeWhile, this]
    | succ k =>
      obtain ⟨x, hx, hf⟩ := h1 0 (by omega)
      simp at hx; subst hx
      rw [List.takeWhile_cons, if_pos hf, List.length_cons, takeWhile_len f l k (fun j hj => by simpa using h1 (j + 1) (by omega)) (fun x hx => h2 x (by simpa using hx))]
theorem rev_take {t : Str} {i j : Nat} (hi : i ≤ t.length) (hj : j < i) : (t.take i).reverse[j]? = t[i - 1 - j]? := by
  rw [List.getElem?_reverse (by simp; omega)]
  simp only [List.length_take]
  rw [Nat.min_eq_left hi, List.getElem?_take_of_lt (by omega)]
theorem heldN_of {t : Str} {i k : Nat} (hi : i ≤ t.length) (hk : k ≤ i) (h1 : ∀ j, j < k → t[i - 1 - j]? = some 63) (h2 : k = i ∨ t[i - 1 - k]? ≠ some 63) : heldN t i = k := by
  refine takeWhile_len _ _ k (fun j hj => ⟨63, ?_, rfl⟩) (fun x hx => ?_)
  · rw [rev_take hi (by omega)]; exact h1 j hj
  · rcases h2 with rfl | h2
    · rw [List.getElem?_eq_none (by simp; omega)] at hx; cases hx
    · by_cases hki : k < i
      · rw [rev_take hi hki] at hx
        rw [hx] at h2
        simpa using h2
      · rw [List.getElem?_eq_none (by simp; omega)] at hx; cases hx
theorem at_byte (s : ByteArray) (i : Nat) (h : i < s.size) : s.data.toList[i]? = some (s[i]'h) := by
  show s.data.toList[i]? = some (s.data[i]'h)
  rw [List.getElem?_eq_getElem (by simpa using h)]
  simp
set_option maxRecDepth 100000 in
set_option maxHeartbeats 2000000 in
theorem held_any (r : Value) (s : ByteArray) (i : Nat) (hi : i ≤ s.size) (hs : s.size < 9223372036854775807) (w : World) : Calls Tryz.prog 145 #[r, .string s, .int .i64 (i : Int)] w fun e w' => e = .returned (.bool (heldN s.data.toList i % 2 == 1)) ∧ w = w' := by
  have heq : ∀ k : Nat, (((k : Int) % 2) == 1) = (k % 2 == 1) := fun k => by rw [Bool.eq_iff_iff, beq_iff_eq, beq_iff_eq]; omega
  have HEQ := Lib.hid heq
  clear heq
  go_enter Tryz.func145, Tryz.ntmps145
  go_wp2
  go_loop [7] (fun n => ∃ k : Nat, k ≤ i ∧ n = .int .i64 (k : Int) ∧ Hid (∀ j, j < k → s.data.toList[i - 1 - j]? = some 63)) (fun n => i - (intOf n).toNat)
  case atStart => exact ⟨0, by omega, rfl, Lib.hid fun j hj => absurd hj (by omega)⟩
  case round =>
    obtain ⟨k, hk, rfl, HK⟩ := hrel
    by_cases hlt : k < i
    · have hw1 : IntKind.i64.wrap ((i : Int) - 1) = ((i - 1 : Nat) : Int) := by rw [show ((i - 1 : Nat) : Int) = (i : Int) - 1 by omega]; exact IntWalk.i64_in _ (by omega)
      have hw2 : IntKind.i64.wrap (((i - 1 : Nat) : Int) - (k : Int)) = ((i - 1 - k : Nat) : Int) := by rw [show ((i - 1 - k : Nat) : Int) = ((i - 1 : Nat) : Int) - (k : Int) by omega]; exact IntWalk.i64_in _ (by omega)
      have hb : i - 1 - k < s.size := by omega
      have hA := at_byte s _ hb
      by_cases hq : s[i - 1 - k]'hb = 63
      · have hd : (((s[i - 1 - k]'hb).toNat : Int) == 63) = true := by rw [hq]; decide
        go_wp2
        go_round
        case rel =>
          refine ⟨k + 1, by omega, by go_num, Lib.hid fun j hj => ?_⟩
          by_cases hjk : j < k
          · exact HK.out j hjk
          · obtain rfl : j = k := by omega
            rw [hA, hq]
        case measure => simp [intOf]; omega
      · have hd : (((s[i - 1 - k]'hb).toNat : Int) == 63) = false := nat_eq _ 63 hq
        have HH := Lib.hid (show heldN s.data.toList i = k from heldN_of (by simpa using hi) hk HK.out (.inr (by rw [hA]; exact fun e => hq (Option.some.inj e))))
        go_wp2
        go_ret
        exact ⟨by rw [HH.out, ← HEQ.out k]; rfl, rfl⟩
    · obtain rfl : k = i := by omega
      have HH := Lib.hid (show heldN s.data.toList k = k from heldN_of (by simpa using hi) hk HK.out (.inl rfl))
      go_wp2
      go_ret
      exact ⟨by rw [HH.out, ← HEQ.out k]; rfl, rfl⟩
end Go.Proofs.YtgfijlamhjjecaaGreatDoor

