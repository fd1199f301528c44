/-
  EdiA9: segments behind segments of one's own. No condition beyond those stated.
-/
import Derived.Test.YtpfkmklhfafkiaaEdiA7
namespace Go.Proofs.Ytpfkmklhfafkiaa
open Go.RowKit
theorem segCells_at : ∀ (l : List Seg) (xs : List Value) (j : Nat) (u : Value), xs.length = l.length → (segCells l xs)[j]? = some u → ∃ (i : Nat) (s : Seg) (x : Value), l[i]? = some s ∧ xs[i]? = some x ∧ (j = i * 2 ∧ u = sv s.tag ∨ j = i * 2 + 1 ∧ u = x)
  | [], xs, j, u, h, hu => by cases xs <;> simp [segCells] at hu
  | s :: l, [], j, u, h, hu => by simp at h
  | s :: l, x :: xs, 0, u, h, hu => by simp only [segCells, List.getElem?_cons_zero] at hu; cases hu; exact ⟨0, s, x, rfl, rfl, .inl ⟨rfl, rfl⟩⟩
  | s :: l, x :: xs, 1, u, h, hu => by simp only [segCells, List.getElem?_cons_succ, List.getElem?_cons_zero] at hu; cases hu; exact ⟨0, s, x, rfl, rfl, .inr ⟨rfl, rfl⟩⟩
  | s :: l, x :: xs, j + 2, u, h, hu => by
    simp only [segCells, List.getElem?_cons_succ] at hu
    obtain ⟨i, s', x', h1, h2, h3⟩ := segCells_at l xs j u (by simpa using h) hu
    refine ⟨i + 1, s', x', by simpa using h1, by simpa using h2, ?_⟩
    rcases h3 with ⟨h3, h4⟩ | ⟨h3, h4⟩
    · exact .inl ⟨by omega, h4⟩
    · exact .inr ⟨by omega, h4⟩
theorem segCells_one : ∀ (l : List Seg) (xs : List Value), (∀ x ∈ xs, x.oneCell' = true) → ∀ u ∈ segCells l xs, u.oneCell' = true
  | [], xs, _, u, hu => by cases xs <;> simp [segCells] at hu
  | s :: l, [], _, u, hu => by simp [segCells] at hu
  | s :: l, x :: xs, h, u, hu => by
    simp only [segCells, List.mem_cons] at hu
    rcases hu with rfl | rfl | hu
    · rfl
    · exact h _ List.mem_cons_self
    · exact segCells_one l xs (fun y hy => h y (List.mem_cons_of_mem _ hy)) u hu
/-- the cells of segments that lie somewhere -/
theorem SegsAt.row {S : Nat → Prop} {w : World} {v : Value} {m : List Seg} (h : SegsAt S w v m) : ∃ (ao : Option Addr) (cap : Nat) (ys : List Value), v = .slice ao m.length cap ∧ ys.length = m.length ∧ (ao = none → m = [] ∧ cap = 0) ∧ (∀ x ∈ ys, x.oneCell' = true) ∧
    (∀ (i : Nat) (s : Seg) (x : Value), m[i]? = some s → ys[i]? = some x → ElemsAt S w x s.elems) ∧ ∀ ad, ao = some ad → ∀ (j : Nat) (u : Value), (segCells m ys)[j]? = some u → w.cell? (ad.add j) = some u := by
  obtain ⟨ao, cap, xs, rfl, h1, h2, h3, h4, h5, h6⟩ := h
  refine ⟨ao, cap, xs, rfl, h4, fun e => ⟨List.length_eq_zero_iff.1 (by have := h3 e; omega), h3 e⟩, fun x hx => ?_, h5, fun ad hao j u hu => ?_⟩
  · obtain ⟨i, hi⟩ := List.getElem?_of_mem hx
    have hil := (List.getElem?_eq_some_iff.1 hi).1
    obtain ⟨a, c, he, _⟩ := (h5 i m[i] x (List.getElem?_eq_getElem (by omega)) hi).form
    rw [he]; rfl
  · obtain ⟨i, s, x, g1, g2, g3⟩ := segCells_at m xs j u h4 hu
    obtain ⟨b, off, rb, _, hc⟩ := h6 (by rintro rfl; simp at g1)
    rw [hao] at rb
    cases rb
    obtain ⟨k1, k2⟩ := hc i s x g1 g2
    rw [Addr.add_mid]
    rcases g3 with ⟨rfl, rfl⟩ | ⟨rfl, rfl⟩
    · exact k1
    · rw [← Nat.add_assoc]; exact k2
/-- append(own segments, segments...) -/
theorem wp_app_segs {ops : Array Oper} {rest : List Oper} {o : Oper} {a : Act} {Q : Exit → Act → World → Prop} (s x : Operand)
    (ho : o.op = .call { callee := .builtin .append, args := #[s, x], argTypes := #[22, 22] }) (hw : Region.wanted o (yielded ops a.tmps) = true)
    {w : World} {B : Nat} {v mv : Value} {xs : List Value} {l m : List Seg} {S : Nat → Prop} (hs : a.eval s = v) (hx : a.eval x = mv) (hO : OO B w v xs l) (hm : SegsAt S w mv m) (hS : ∀ k, S k → k < B) (hl : l.length + m.length ≤ 1048576) (hB : B ≤ w.heap.size)
    (h : ∀ v' w', SegsAt (fun _ => True) w' v' (l ++ m) → Below B w w' → wpList Try.prog ops Q rest (a.put o.dst v') w') :
    wpList Try.prog ops Q (o :: rest) a w := by
  obtain ⟨i0, hi, hz0, hz1, hz2⟩ := info_parts einfo_seg
  have hm0 := hm
  obtain ⟨ao, cap, ys, rfl, g1, g2, g3, g4, g5⟩ := hm.row
  simp only [wpList, hw, if_true]
  left
  have fin : ∀ v' w', w'.ownsRow B 37 2 v' (l.length + m.length) (segCells l xs ++ segCells m ys) → w.grownBy w' v.ownBlock → (v'.ownBlock = v.ownBlock ∨ v'.ownBlock = some w.heap.size) → SegsAt (fun _ => True) w' v' (l ++ m) ∧ Below B w w' := fun v' w' f1 f2 f3 => by
    have hov : ∀ k, v.ownBlock = some k → B ≤ k := fun k hk => (own_lt hO.row hk).1
    have hb : Below B w w' := (Below.refl B w).grown f2 hB hov
    refine ⟨segs_rest (xs := xs ++ ys) (by rw [List.length_append, segCells_app l m xs ys hO.len]; exact f1) (by simp [hO.len, g1]) (fun _ _ => trivial) (fun i s x h1 h2 => ?_), hb⟩
    rcases Nat.lt_or_ge i l.length with hil | hil
    · rw [List.getElem?_append_left hil] at h1
      rw [List.getElem?_append_left (by rw [hO.len]; exact hil)] at h2
      exact (hO.el i s x h1 h2).cong (fun _ _ => trivial) (fun b hb' => f2.block b hb'.2.1 (fun e => hb'.2.2 e.symm))
    · rw [List.getElem?_append_right hil] at h1
      rw [List.getElem?_append_right (by rw [hO.len]; exact hil), hO.len] at h2
      exact (g4 _ s x h1 h2).cong (fun _ _ => trivial) (fun b hb' => hb.block b (hS b hb'))
  cases ao with
  | none =>
    obtain ⟨rfl, rfl⟩ := g2 rfl
    have hr := run_append_owned_none (P := Try.prog) (w := w) B 22 o.type 37 i0 2 Try.underlying22 hi v l.length (segCells l xs) hO.row
    unfold Oper.wp
    simp [execOp, ho, resolve, invoke, builtin, hs, hx, hr, Result.andThen]
    obtain ⟨k1, k2⟩ := fin v w (by
      have : ys = [] := List.length_eq_zero_iff.1 g1
      subst this
      simpa [segCells] using hO.row) ⟨rfl, rfl, rfl, Nat.le_refl _, fun _ _ _ => rfl⟩ (.inl rfl)
    exact h v w k1 k2
  | some ad =>
    obtain ⟨v', w', hr, h2, h3, _, h5⟩ := run_append_own_at (P := Try.prog) w B 22 o.type 37 i0 (.agg #[.string ⟨#[]⟩, .slice none 0 0]) 2 40 Try.underlying22 hi hz0 hz1 hz2 rfl (by decide) v l.length (segCells l xs) hO.row ad m.length cap (segCells m ys) (segCells_len m ys g1) (g5 ad rfl) (segCells_one m ys g3) (by unfold maxLen; omega) (by omega) hB
    unfold Oper.wp execOp
    simp only [ho, resolve, invoke, builtin, Sem.run_bind, Sem.run_pure, Result.andThen_ok, List.map_toArray, List.map_cons, List.map_nil, hs, hx, hr]
    obtain ⟨k1, k2⟩ := fin v' w' h2 h3 h5
    exact h v' w' k1 k2
end Go.Proofs.Ytpfkmklhfafkiaa
