/-
  EdiA10: segments that are spoilt: what of their memory stays. No condition beyond those stated.
-/
import Derived.Test.YtpfkmklhfafkiaaEdiA9
namespace Go.Proofs.Ytpfkmklhfafkiaa
open Go.RowKit
/-- rows of strings stay rows of strings, as long as they were -/
def KT (w w' : World) : Prop := ∀ (k : Nat) (C : Array Value), w.heap[k]? = some (.cells C 9 (0, 0)) → ∃ C' : Array Value, w'.heap[k]? = some (.cells C' 9 (0, 0)) ∧ C'.size = C.size
/-- all other rows stay as they were -/
def NS (w w' : World) : Prop := ∀ (k : Nat) (C : Array Value) (t : TypeId), w.heap[k]? = some (.cells C t (0, 0)) → t ≠ 9 → w'.heap[k]? = some (.cells C t (0, 0))
theorem KT.refl (w : World) : KT w w := fun _ C h => ⟨C, h, rfl⟩
theorem NS.refl (w : World) : NS w w := fun _ _ _ h _ => h
theorem KT.trans {a b c : World} (h : KT a b) (h' : KT b c) : KT a c := fun k C hk => by
  obtain ⟨C1, h1, h2⟩ := h k C hk
  obtain ⟨C2, h3, h4⟩ := h' k C1 h1
  exact ⟨C2, h3, h4.trans h2⟩
theorem NS.trans {a b c : World} (h : NS a b) (h' : NS b c) : NS a c := fun k C t hk ht => h' k C t (h k C t hk ht) ht
theorem KT.of_old {w w' : World} (e : ∀ k, k < w.heap.size → w'.heap[k]? = w.heap[k]?) : KT w w' := fun k C h => ⟨C, (e k (Array.getElem?_eq_some_iff.1 h).1).trans h, rfl⟩
theorem NS.of_old {w w' : World} (e : ∀ k, k < w.heap.size → w'.heap[k]? = w.heap[k]?) : NS w w' := fun k _ _ h _ => (e k (Array.getElem?_eq_some_iff.1 h).1).trans h
theorem KT.set {w : World} {b j : Nat} {C : Array Value} (hb : w.heap[b]? = some (.cells C 9 (0, 0))) (v : Value) : KT w (w.setCell ⟨b, j, none⟩ v) := fun k D hk => by
  by_cases e : k = b
  · subst e
    rw [hb] at hk; cases hk
    exact ⟨_, heap_setCell_same w k j _ _ _ hb, by simp⟩
  · exact ⟨D, (heap_setCell_other w _ _ _ (by simpa using e)).trans hk, rfl⟩
theorem NS.set {w : World} {b j : Nat} {C : Array Value} (hb : w.heap[b]? = some (.cells C 9 (0, 0))) (v : Value) : NS w (w.setCell ⟨b, j, none⟩ v) := fun k D t hk ht => by
  have e : k ≠ b := fun e => by subst e; rw [hb] at hk; cases hk; exact ht rfl
  exact (heap_setCell_other w _ _ _ (by simpa using e)).trans hk
/-- a store into a row of another kind -/
theorem KT.other {w : World} {b j : Nat} {C : Array Value} {t : TypeId} (hb : w.heap[b]? = some (.cells C t (0, 0))) (ht : t ≠ 9) (v : Value) : KT w (w.setCell ⟨b, j, none⟩ v) := fun k D hk => by
  have e : k ≠ b := fun e => by subst e; rw [hb] at hk; cases hk; exact ht rfl
  exact ⟨D, (heap_setCell_other w _ _ _ (by simpa using e)).trans hk, rfl⟩
section
variable {Z : Nat → Prop} {B N : Nat} {w w' : World}
def GoodC (Z : Nat → Prop) (B N : Nat) (w : World) (y : Value) : Prop := ∃ (q : Nat) (zs : List Value), q ≤ N ∧ w.ownsRow B 9 1 y q zs ∧ ∀ k, y.ownBlock = some k → Z k
def GoodE (Z : Nat → Prop) (B N : Nat) (w : World) (x : Value) : Prop := ∃ (m : Nat) (ys : List Value), m ≤ 16 ∧ w.ownsRow B 38 1 x m ys ∧ (∀ k, x.ownBlock = some k → Z k) ∧ ∀ y ∈ ys, GoodC Z B N w y
theorem GoodC.keep {y : Value} (h : GoodC Z B N w y) (hk : KT w w') : GoodC Z B N w' y := by
  obtain ⟨q, zs, hq, ⟨h1, h2 | ⟨g, cap, cur, rfl, hg, hh, hc, hm, hs, hx⟩⟩, h3⟩ := h
  · exact ⟨q, zs, hq, ⟨h1, .inl h2⟩, h3⟩
  · obtain ⟨C', e1, e2⟩ := hk g cur hh
    refine ⟨q, C'.toList.take (q * 1), hq, ⟨?_, .inr ⟨g, cap, C', rfl, hg, e1, hc, hm, by rw [e2, hs], rfl⟩⟩, h3⟩
    rw [List.length_take, Array.length_toList, e2, hs]
    omega
theorem GoodE.keep {x : Value} (h : GoodE Z B N w x) (hk : KT w w') (hn : NS w w') : GoodE Z B N w' x := by
  obtain ⟨m, ys, hm16, h1, h2, h3⟩ := h
  refine ⟨m, ys, hm16, own_cong h1 (fun k hk' => ?_), h2, fun y hy => (h3 y hy).keep hk⟩
  obtain ⟨C, hC, _⟩ := own_ty h1 hk'
  rw [hn k C _ hC (by decide), hC]
theorem GoodC.mono {M : Nat} {y : Value} (h : GoodC Z B N w y) (hM : N ≤ M) : GoodC Z B M w y := by
  obtain ⟨q, zs, h1, h2⟩ := h; exact ⟨q, zs, by omega, h2⟩
theorem GoodE.mono {M : Nat} {x : Value} (h : GoodE Z B N w x) (hM : N ≤ M) : GoodE Z B M w x := by
  obtain ⟨m, ys, h0, h1, h2, h3⟩ := h; exact ⟨m, ys, h0, h1, h2, fun y hy => (h3 y hy).mono hM⟩
/-- a store of one good row into a row of such -/
theorem GoodE.store {x y : Value} {b j : Nat} {C : Array Value} (h : GoodE Z B N w x) (hb : w.heap[b]? = some (.cells C 38 (0, 0))) (hy : GoodC Z B N w y) : GoodE Z B N (w.setCell ⟨b, j, none⟩ y) x := by
  have hk : KT w (w.setCell ⟨b, j, none⟩ y) := KT.other hb (by decide) y
  obtain ⟨m, ys, hm16, h1, h2, h3⟩ := h
  by_cases e : x.ownBlock = some b
  · obtain ⟨_, ⟨rfl, _⟩ | ⟨g, cap, cur, rfl, _⟩⟩ := id h1
    · simp [Value.ownBlock] at e
    · have e' : g = b := by simpa [Value.ownBlock] using e
      subst e'
      by_cases hj : j < ys.length
      · refine ⟨m, ys.set j y, hm16, own_set h1 hj y, h2, fun u hu => ?_⟩
        rcases List.mem_or_eq_of_mem_set hu with hu | rfl
        · exact (h3 u hu).keep hk
        · exact hy.keep hk
      · obtain ⟨g1, ⟨g2, _⟩ | ⟨g', cap', cur', g2, hg, hh, hc, hm, hs, hx⟩⟩ := h1
        · cases g2
        · cases g2
          refine ⟨m, ys, hm16, ⟨g1, .inr ⟨g, cap, cur'.setIfInBounds j y, rfl, hg, heap_setCell_same w g j _ _ _ hh, hc, hm, by simpa using hs, ?_⟩⟩, h2, fun u hu => (h3 u hu).keep hk⟩
          rw [Array.toList_setIfInBounds, ← hx, List.take_set_of_le (by rw [← g1]; omega)]
  · exact ⟨m, ys, hm16, own_cong h1 (fun k hk' => heap_setCell_other w _ _ _ (fun e2 => e (by rw [hk']; exact congrArg some e2))), h2, fun u hu => (h3 u hu).keep hk⟩
/-- append of one string to a good row -/
theorem run_app_good {y : Value} (x : ByteArray) (h : GoodC Z B N w y) (ty : TypeId) (hN : N ≤ 1048576) (hB : B ≤ w.heap.size) (hZ : ∀ k, w.heap.size ≤ k → Z k) :
    ∃ y' w', (Builtin.append_ #[38, 38] ty #[y, .slice (some ⟨w.heap.size, 0, none⟩) 1 1]).run Try.prog (w.alloc (.cells #[.string x] 9)) = .ok y' w' ∧ GoodC Z B (N + 1) w' y' ∧ w.grownBy w' y.ownBlock ∧ KT w w' ∧ NS w w' := by
  obtain ⟨i0, hi, hz0, hz1, hz2⟩ := info_parts einfo_str
  obtain ⟨q, zs, hq', ho, h3⟩ := h
  obtain ⟨wa, hwa⟩ : ∃ wa, w.alloc (.cells #[.string x] 9) = wa := ⟨_, rfl⟩
  have hza : wa.heap.size = w.heap.size + 1 := by rw [← hwa]; simp
  have hold : ∀ k, k < w.heap.size → wa.heap[k]? = w.heap[k]? := fun k hk => by rw [← hwa]; exact Below.heap_alloc _ _ _ hk
  have hnew : ∀ j u, [Value.string x][j]? = some u → wa.cell? ((⟨w.heap.size, 0, none⟩ : Addr).add j) = some u := by rw [← hwa]; exact cell_one_new w _ _
  rw [hwa]
  obtain ⟨y', w', hr, h1, h2, _, h5⟩ := run_append_own_at (P := Try.prog) wa B 38 ty 9 i0 (.string ⟨#[]⟩) 1 16 Try.underlying38 hi hz0 hz1 hz2 rfl (by decide) y q zs (by rw [← hwa]; exact ho.alloc _) ⟨w.heap.size, 0, none⟩ 1 1 [.string x] rfl hnew (by simp [Value.oneCell']) (by unfold maxLen; omega) (by omega) (by omega)
  have hgr : w.grownBy w' y.ownBlock := grown_alloc (by rw [hwa]; exact h2)
  have hgood : GoodC Z B (N + 1) w' y' := ⟨q + 1, _, by omega, h1, fun k hk => by
    rcases h5 with h5 | h5
    · exact h3 k (h5 ▸ hk)
    · rw [h5] at hk; cases hk; exact hZ _ (by omega)⟩
  have key : KT w w' ∧ NS w w' := by
    obtain ⟨g1, ⟨rfl, rfl⟩ | ⟨g, cap, cur, rfl, hg, hh, hc, hm, hs, hx⟩⟩ := ho
    · have e : ∀ k, k < w.heap.size → w'.heap[k]? = w.heap[k]? := fun k hk => (h2.block k (by omega) (by simp [Value.ownBlock])).trans (hold k hk)
      exact ⟨KT.of_old e, NS.of_old e⟩
    · have hgw : g < w.heap.size := (Array.getElem?_eq_some_iff.1 hh).1
      have hh' : wa.heap[g]? = some (.cells cur 9 (0, 0)) := (hold g hgw).trans hh
      have far : ∀ k, k < w.heap.size → k ≠ g → w'.heap[k]? = w.heap[k]? := fun k hk hne => (h2.block k (by omega) (by simpa [Value.ownBlock] using hne)).trans (hold k hk)
      have fin : (∃ C' : Array Value, w'.heap[g]? = some (.cells C' 9 (0, 0)) ∧ C'.size = cur.size) → KT w w' ∧ NS w w' := fun ⟨C', e1, e2⟩ => by
        refine ⟨fun k C hk => ?_, fun k C t hk ht => ?_⟩
        · by_cases e : k = g
          · subst e; rw [hh] at hk; cases hk; exact ⟨C', e1, e2⟩
          · exact ⟨C, (far k (Array.getElem?_eq_some_iff.1 hk).1 e).trans hk, rfl⟩
        · have e : k ≠ g := fun e => by subst e; rw [hh] at hk; cases hk; exact ht rfl
          exact (far k (Array.getElem?_eq_some_iff.1 hk).1 e).trans hk
      by_cases hroom : q + 1 ≤ cap
      · have hi1 : i0.size = 1 := hz1
        have hr2 := run_append_room (P := Try.prog) wa 38 ty 9 i0 Try.underlying38 hi g q cap cur hh' ⟨w.heap.size, 0, none⟩ 1 1 [.string x] (by rw [hi1]; rfl) hnew (by simp [Value.oneCell']) hroom (by rw [hi1]; simp; omega)
        rw [hr2] at hr
        injection hr with _ hw'
        rw [← hw']
        rw [← hw'] at fin
        refine fin ⟨_, setRow_heap wa g cur _ 9 _ hh', ?_⟩
        simp only [List.size_toArray, List.length_append, List.length_take, List.length_drop, Array.length_toList, hi1, List.length_singleton]
        omega
      · have hi1 : i0.size = 1 := hz1
        have holds : ∀ j u, zs[j]? = some u → wa.cell? ((⟨g, 0, none⟩ : Addr).add j) = some u := fun j u hu => by
          rw [Addr.add_mid, Nat.zero_add]
          have hox : wa.ownsRow B 9 1 (.slice (some ⟨g, 0, none⟩) q cap) q zs := ⟨g1, .inr ⟨g, cap, cur, rfl, hg, hh', hc, hm, hs, hx⟩⟩
          exact own_cell hox hu
        have hr2 := run_append_grow (P := Try.prog) wa 38 ty 9 i0 (.string ⟨#[]⟩) Try.underlying38 hi hz0 ⟨g, 0, none⟩ q cap zs (by rw [hi1]; exact g1) holds ⟨w.heap.size, 0, none⟩ 1 1 [.string x] (by rw [hi1]; rfl) hnew (by omega) (by omega) (growslice_fits (by omega) (by rw [hz2]; omega))
        rw [hr2] at hr
        injection hr with _ hw'
        rw [← hw'] at fin ⊢
        exact fin ⟨cur, (Below.heap_alloc wa.drew _ _ (by show g < wa.heap.size; omega)).trans hh', rfl⟩
  exact ⟨y', w', hr, hgood, hgr, key.1, key.2⟩
/-- segments of which the elements may be spoilt -/
structure OwnI (Z : Nat → Prop) (B N : Nat) (w : World) (v : Value) (n : Nat) (xs : List Value) : Prop where
  row : ∃ zs, w.ownsRow B 37 2 v n zs ∧ ∀ (i : Nat) (x : Value), xs[i]? = some x → zs[i * 2 + 1]? = some x
  len : xs.length = n
  z : ∀ k, v.ownBlock = some k → Z k
  x : ∀ x ∈ xs, GoodE Z B N w x
variable {v : Value} {n : Nat} {xs : List Value}
theorem OwnI.keep (h : OwnI Z B N w v n xs) (hk : KT w w') (hn : NS w w') : OwnI Z B N w' v n xs := by
  obtain ⟨zs, h1, h2⟩ := h.row
  refine ⟨⟨zs, own_cong h1 (fun k hk' => ?_), h2⟩, h.len, h.z, fun x hx => (h.x x hx).keep hk hn⟩
  obtain ⟨C, hC, _⟩ := own_ty h1 hk'
  rw [hn k C _ hC (by decide), hC]
theorem OwnI.mono {M : Nat} (h : OwnI Z B N w v n xs) (hM : N ≤ M) : OwnI Z B M w v n xs := ⟨h.row, h.len, h.z, fun x hx => (h.x x hx).mono hM⟩
theorem OwnI.store {y : Value} {b j : Nat} {C : Array Value} (h : OwnI Z B N w v n xs) (hb : w.heap[b]? = some (.cells C 38 (0, 0))) (hy : GoodC Z B N w y) : OwnI Z B N (w.setCell ⟨b, j, none⟩ y) v n xs := by
  obtain ⟨zs, h1, h2⟩ := h.row
  refine ⟨⟨zs, own_cong h1 (fun k hk' => heap_setCell_other w _ _ _ (fun e => ?_)), h2⟩, h.len, h.z, fun x hx => (h.x x hx).store hb hy⟩
  obtain ⟨D, hD, _⟩ := own_ty h1 hk'
  have e' : k = b := e
  rw [e', hb] at hD; cases hD
theorem OwnI.tag {i : Nat} (h : OwnI Z B N w v n xs) (hi : i < n) (s : ByteArray) : ∃ g cap, v = .slice (some ⟨g, 0, none⟩) n cap ∧ n ≤ cap ∧ cap ≤ maxLen ∧ w.cell? ⟨g, i * 2, none⟩ ≠ none ∧ (∃ u, w.cell? ⟨g, i * 2, none⟩ = some u) ∧ w.frozen? ⟨g, i * 2, none⟩ = false ∧ Z g ∧ B ≤ g ∧ (∃ x, xs[i]? = some x ∧ w.cell? ⟨g, i * 2 + 1, none⟩ = some x) ∧ OwnI Z B N (w.setCell ⟨g, i * 2, none⟩ (.string s)) v n xs := by
  obtain ⟨zs, h1, h2⟩ := h.row
  obtain ⟨g, cap, cur, rfl, hg, hh, hc, hm, hs, _⟩ := own_form h1 (by omega) (by omega)
  have hzl : zs.length = n * 2 := h1.1
  have hx := List.getElem?_eq_getElem (l := xs) (i := i) (by rw [h.len]; exact hi)
  have c0 := own_cell h1 (List.getElem?_eq_getElem (l := zs) (i := i * 2) (by omega))
  have ht : (37 : TypeId) ≠ 9 := by decide
  refine ⟨g, cap, rfl, hc, hm, by rw [c0]; simp, ⟨_, c0⟩, own_frozen h1 _, h.z g rfl, hg, ⟨_, hx, own_cell h1 (h2 i _ hx)⟩, ⟨⟨_, own_set h1 (by omega) _, fun k x hk => ?_⟩, h.len, h.z, fun x hx' => ?_⟩⟩
  · rw [List.getElem?_set_ne (by omega)]; exact h2 k x hk
  · obtain ⟨m, ys, g0, g1, g2, g3⟩ := h.x x hx'
    refine ⟨m, ys, g0, own_cong g1 (fun k hk => heap_setCell_other w _ _ _ (fun e => ?_)), g2, fun y hy => (g3 y hy).keep (KT.other hh ht _)⟩
    obtain ⟨D, hD, _⟩ := own_ty g1 hk
    have e' : k = g := e
    rw [e', hh] at hD; cases hD
theorem SegsO.good {S : Nat → Prop} {l : List Seg} (h : SegsO S B w v l) (hS : ∀ k, S k → Z k) (h1 : ∀ s ∈ l, s.elems.length ≤ 16) (h2 : ∀ s ∈ l, ∀ e ∈ s.elems, e.length ≤ N) : ∃ xs, OwnI Z B N w v l.length xs := by
  obtain ⟨xs, g1, g2, g3, g4⟩ := h
  refine ⟨xs, ⟨segCells l xs, g1, fun i x hx => ?_⟩, g3, fun k hk => hS k (g2 k hk), fun x hx => ?_⟩
  · have hi : i < l.length := by rw [← g3]; exact (List.getElem?_eq_some_iff.1 hx).1
    exact (segCells_get l xs i _ x (List.getElem?_eq_getElem hi) hx).2
  · obtain ⟨i, hi⟩ := List.getElem?_of_mem hx
    have hil : i < l.length := by rw [← g3]; exact (List.getElem?_eq_some_iff.1 hi).1
    obtain ⟨ys, k1, k2, k3, k4⟩ := g4 i _ x (List.getElem?_eq_getElem hil) hi
    refine ⟨_, ys, h1 _ (List.getElem_mem hil), k1, fun k hk => hS k (k2 k hk), fun y hy => ?_⟩
    obtain ⟨j, hj⟩ := List.getElem?_of_mem hy
    have hjl : j < (l[i]).elems.length := by rw [← k3]; exact (List.getElem?_eq_some_iff.1 hj).1
    obtain ⟨c1, c2⟩ := k4 j _ y (List.getElem?_eq_getElem hjl) hj
    exact ⟨_, _, h2 _ (List.getElem_mem hil) _ (List.getElem_mem hjl), c1, fun k hk => hS k (c2 k hk)⟩
end
/-- an append whose run is known -/
theorem wp_append_run {P : Program} {ops : Array Oper} {rest : List Oper} {o : Oper} {a : Act} {Q : Exit → Act → World → Prop} {w w' : World} {v v1 v2 : Value} (hgd : o.guard = none) (s x : Operand) (t : TypeId)
    (ho : o.op = .call { callee := .builtin .append, args := #[s, x], argTypes := #[t, t] }) (hs : a.eval s = v1) (hx : a.eval x = v2) (hr : (Builtin.append_ #[t, t] o.type #[v1, v2]).run P w = .ok v w') (h : wpList P ops Q rest (a.put o.dst v) w') : wpList P ops Q (o :: rest) a w := by
  refine wpList_plain hgd fun K hK => ?_
  unfold Oper.wp execOp
  simp only [ho, resolve, invoke, builtin, Sem.run_bind, Sem.run_pure, Result.andThen_ok, List.map_toArray, List.map_cons, List.map_nil, hs, hx, hr]
  exact hK _ _ h
end Go.Proofs.Ytpfkmklhfafkiaa
