/-
  EdiV: plain laws of texts of segments: what is printed is read as it was. No condition beyond those stated.
-/
import Derived.Test.YtpfkmklhfafkiaaEdiP
namespace Go.Proofs.Ytpfkmklhfafkiaa
/-- no byte out of range -/
def okB (c : UInt8) : Prop := 32 ≤ c.toNat ∧ c.toNat ≤ 126
def okP (p : Str) : Prop := p.length ≤ 256 ∧ ∀ c ∈ p, okB c
def okEl (e : List Str) : Prop := e ≠ [] ∧ e.length ≤ 8 ∧ ∀ p ∈ e, okP p
def okT (t : Str) : Prop := t.length = 3 ∧ ∀ c ∈ t, tagB c = true
def okS (s : Seg) : Prop := okT s.tag ∧ s.elems.length ≤ 16 ∧ ∀ e ∈ s.elems, okEl e
def okL (l : List Seg) : Prop := l.length ≤ 64 ∧ ∀ s ∈ l, okS s
theorem badB_iff (c : UInt8) : badB c = false ↔ okB c := by
  unfold badB okB; simp
theorem printE_ok {l : List Seg} : okL l → (printT l).length ≤ 65536 → printE l = (printT l, 0) := by
  intro h hl
  have h1 : argP l = false := by
    unfold argP; rw [List.any_eq_false]; intro s hs
    have := h.2 s hs
    rw [Bool.not_eq_true, Bool.or_eq_false_iff]
    refine ⟨?_, ?_⟩
    · unfold tagBad
      rw [Bool.or_eq_false_iff]
      refine ⟨by simp [this.1.1], ?_⟩
      simp only [Bool.not_eq_false', List.all_eq_true]
      exact this.1.2
    · rw [List.any_eq_false]; intro e he; have := this.2.2 e he
      cases e with
      | nil => exact absurd rfl this.1
      | cons a b => simp
  have h2 : signP l = false := by
    unfold signP; rw [List.any_eq_false]; intro s hs
    rw [Bool.not_eq_true, List.any_eq_false]; intro e he
    rw [Bool.not_eq_true, List.any_eq_false]; intro p hp
    rw [Bool.not_eq_true, List.any_eq_false]; intro c hc
    rw [Bool.not_eq_true]
    exact (badB_iff c).2 ((((h.2 s hs).2.2 e he).2.2 p hp).2 c hc)
  have h3 : longP l = false := by
    unfold longP; rw [Bool.or_eq_false_iff]; refine ⟨by have := h.1; simp; omega, ?_⟩
    rw [List.any_eq_false]; intro s hs
    rw [Bool.not_eq_true, Bool.or_eq_false_iff]; refine ⟨by have := (h.2 s hs).2.1; simp; omega, ?_⟩
    rw [List.any_eq_false]; intro e he
    rw [Bool.not_eq_true, Bool.or_eq_false_iff]; refine ⟨by have := ((h.2 s hs).2.2 e he).2.1; simp; omega, ?_⟩
    rw [List.any_eq_false]; intro p hp
    have := (((h.2 s hs).2.2 e he).2.2 p hp).1
    simp; omega
  unfold printE
  rw [h1, h2, h3]
  simp; omega
theorem okL_of {l : List Seg} {t : Str} (h : printE l = (t, 0)) : okL l ∧ t = printT l ∧ t.length ≤ 65536 := by
  unfold printE at h
  split at h
  · cases h
  · rename_i ha
    split at h
    · cases h
    · rename_i hs
      split at h
      · cases h
      · rename_i hg
        cases h
        rw [Bool.not_eq_true] at ha hs hg
        rw [Bool.or_eq_false_iff] at hg
        have hlen := hg.2
        have hlong := hg.1
        unfold argP at ha; unfold signP at hs; unfold longP at hlong
        rw [Bool.or_eq_false_iff] at hlong
        rw [List.any_eq_false] at ha hs
        obtain ⟨hl1, hl2⟩ := hlong
        rw [List.any_eq_false] at hl2
        refine ⟨⟨by simpa using hl1, fun s hs' => ?_⟩, rfl, by simpa using hlen⟩
        have a1 := ha s hs'
        have a2 := hs s hs'
        have a3 := hl2 s hs'
        rw [Bool.not_eq_true, Bool.or_eq_false_iff] at a1 a3
        rw [Bool.not_eq_true, List.any_eq_false] at a2
        obtain ⟨b1, b2⟩ := a1
        obtain ⟨c1, c2⟩ := a3
        rw [List.any_eq_false] at b2 c2
        unfold tagBad at b1
        rw [Bool.or_eq_false_iff] at b1
        obtain ⟨b3, b4⟩ := b1
        rw [Bool.not_eq_false', List.all_eq_true] at b4
        refine ⟨⟨by simpa using b3, b4⟩, by simpa using c1, fun e he => ?_⟩
        have d1 := b2 e he
        have d2 := a2 e he
        have d3 := c2 e he
        rw [Bool.not_eq_true, List.any_eq_false] at d2
        rw [Bool.not_eq_true, Bool.or_eq_false_iff] at d3
        obtain ⟨d4, d5⟩ := d3
        rw [List.any_eq_false] at d5
        refine ⟨fun e0 => by subst e0; simp at d1, by simpa using d4, fun p hp => ?_⟩
        have f1 := d2 p hp
        have f2 := d5 p hp
        rw [Bool.not_eq_true, List.any_eq_false] at f1
        exact ⟨by simpa using f2, fun c hc => (badB_iff c).1 (by simpa using f1 c hc)⟩
/-! ### reading what was printed -/
theorem runE_tag (l : List Seg) : ∀ (r t : Str) (i : Nat) (k : Str), t.length + r.length = 3 → 0 < r.length → (∀ c ∈ r, tagB c = true) → runE (.tag l t) i (r ++ k) = runE (.bhd l (t ++ r)) (i + r.length) k
  | [], _, _, _, _, h, _ => by simp at h
  | [c], t, i, k, h, _, hc => by
    have hc := hc c (by simp)
    simp at h
    simp only [List.cons_append, List.nil_append, runE, stepE, tagS, hc]
    rw [if_neg (by simp), if_neg (by omega)]
    rfl
  | c :: d :: r, t, i, k, h, _, hc => by
    have h1 := hc c (by simp)
    simp only [List.length_cons] at h
    rw [List.cons_append, runE]
    simp only [stepE, tagS, h1]
    rw [if_neg (by simp), if_pos (by omega)]
    have := runE_tag l (d :: r) (t ++ [c]) (i + 1) k (by simp; omega) (by simp) (fun x hx => hc x (by simp at hx ⊢; exact .inr hx))
    simp only []
    rw [this]
    simp only [List.append_assoc, List.cons_append, List.nil_append, List.length_cons]
    congr 1; omega
theorem tagB_10 {c : UInt8} (h : tagB c = true) : c ≠ 10 := by rintro rfl; exact absurd h (by decide)
theorem runE_tag0 {l : List Seg} {t : Str} (ht : okT t) (hl : l.length < 64) (i : Nat) (k : Str) : runE (.btw l) i (t ++ k) = runE (.bhd l t) (i + 3) k := by
  obtain ⟨h3, hc⟩ := ht
  match t, h3, hc with
  | [a, b, c], _, hc =>
    have h1 := hc a (by simp)
    simp only [List.cons_append, List.nil_append]
    rw [runE]
    simp only [stepE]
    rw [if_neg (by rintro ⟨rfl, _⟩; exact tagB_10 h1 rfl), if_neg (by omega)]
    simp only [tagS, h1]
    rw [if_neg (by simp), if_pos (by simp)]
    simp only [List.nil_append]
    have := runE_tag l [b, c] [a] (i + 1) k (by simp) (by simp) (fun x hx => hc x (by simp at hx ⊢; exact .inr hx))
    simp only [List.cons_append, List.nil_append, List.length_cons, List.length_nil] at this
    rw [this]
theorem signB_63 {c : UInt8} (h : signB c = false) : c ≠ 63 := by rintro rfl; exact absurd h (by decide)
theorem runE_comp {l : List Seg} {t : Str} {es : List (List Str)} {cs : List Str} : ∀ (q p : Str) (i : Nat) (k : Str), p.length + q.length ≤ 256 → (∀ c ∈ q, okB c) → runE (.cmp l t es cs p) i (compT q ++ k) = runE (.cmp l t es cs (p ++ q)) (i + (compT q).length) k
  | [], p, i, k, _, _ => by simp [compT]
  | c :: q, p, i, k, h, hc => by
    simp only [List.length_cons] at h
    have hc1 := hc c (by simp)
    have ih := runE_comp (l := l) (t := t) (es := es) (cs := cs) q (p ++ [c])
    have e : compT (c :: q) = escB c ++ compT q := by simp [compT]
    rw [e, List.append_assoc]
    unfold escB
    by_cases hs : signB c = true
    · rw [if_pos hs]
      simp only [List.cons_append, List.nil_append, runE, stepE, if_true]
      simp only [hs, if_true, putS]
      rw [if_neg (by omega)]
      simp only []
      rw [ih (i + 1 + 1) k (by simp; omega) (fun x hx => hc x (by simp [hx]))]
      simp only [List.append_assoc, List.cons_append, List.nil_append, List.length_cons]
      congr 1; omega
    · rw [Bool.not_eq_true] at hs
      rw [hs, if_neg (by simp)]
      simp only [List.cons_append, List.nil_append, runE, stepE]
      rw [if_neg (signB_63 hs), hs, if_neg (by simp), if_neg (by unfold okB at hc1; omega), putS, if_neg (by omega)]
      simp only []
      rw [ih (i + 1) k (by simp; omega) (fun x hx => hc x (by simp [hx]))]
      simp only [List.append_assoc, List.cons_append, List.nil_append, List.length_cons]
      congr 1; omega
/-- the rest of an element: components behind the first -/
def restT (cs : List Str) : Str := cs.flatMap fun p => 58 :: compT p
theorem joinB_cons (s : UInt8) (a : Str) (l : List Str) : joinB s (a :: l) = a ++ l.flatMap (fun p => s :: p) := by
  induction l generalizing a with
  | nil => simp [joinB]
  | cons b l ih => rw [joinB, ih b]; simp
theorem elemT_cons (p : Str) (cs : List Str) : elemT (p :: cs) = compT p ++ restT cs := by
  unfold elemT restT
  rw [List.map_cons, joinB_cons, List.flatMap_map]
theorem runE_rest {l : List Seg} {t : Str} {es : List (List Str)} : ∀ (qs cs : List Str) (p : Str) (i : Nat) (k : Str), cs.length + 1 + qs.length ≤ 8 → (∀ q ∈ qs, okP q) → runE (.cmp l t es cs p) i (restT qs ++ k) = match (cs ++ p :: qs).reverse with
    | a :: b => runE (.cmp l t es b.reverse a) (i + (restT qs).length) k
    | [] => .err 0 0
  | [], cs, p, i, k, _, _ => by simp [restT]
  | q :: qs, cs, p, i, k, h, hq => by
    simp only [List.length_cons] at h
    have e : restT (q :: qs) = 58 :: (compT q ++ restT qs) := by simp [restT]
    rw [e]
    simp only [List.cons_append, runE, stepE]
    rw [if_neg (by decide), if_pos (by decide)]
    simp only [signS]
    rw [if_neg (by decide), if_neg (by decide), if_neg (by omega)]
    simp only []
    rw [List.append_assoc, runE_comp q [] (i + 1) _ (by have := (hq q (by simp)).1; simpa using this) (hq q (by simp)).2]
    have ih := runE_rest (l := l) (t := t) (es := es) qs (cs ++ [p]) q (i + 1 + (compT q).length) k (by simp; omega) (fun x hx => hq x (by simp [hx]))
    rw [List.nil_append, ih]
    simp only [List.append_assoc, List.cons_append, List.nil_append, List.length_cons, List.length_append]
    split
    · rw [show i + 1 + (compT q).length + (restT qs).length = i + ((compT q).length + (restT qs).length + 1) by omega]
    · rfl
/-- what stands open: an element's components, the last one by itself -/
inductive Ends (cs : List Str) (p : Str) : List Str → Prop
  | mk : Ends cs p (cs ++ [p])
theorem runE_elem {l : List Seg} {t : Str} {es : List (List Str)} (e : List Str) (he : okEl e) (i : Nat) (k : Str) : ∃ cs p, cs ++ [p] = e ∧ runE (.cmp l t es [] []) i (elemT e ++ k) = runE (.cmp l t es cs p) (i + (elemT e).length) k := by
  obtain ⟨h1, h2, h3⟩ := he
  match e, h1 with
  | p :: qs, _ =>
    rw [elemT_cons, List.append_assoc, runE_comp p [] i _ (by have := (h3 p (by simp)).1; simpa using this) (h3 p (by simp)).2, runE_rest qs [] ([] ++ p) _ k (by simp at h2 ⊢; omega) (fun x hx => h3 x (by simp [hx]))]
    rw [List.nil_append, List.nil_append]
    cases hr : (p :: qs).reverse with
    | nil => simp at hr
    | cons a b =>
      refine ⟨b.reverse, a, ?_, ?_⟩
      · have := congrArg List.reverse hr
        simp at this
        rw [this]
      · simp only [List.length_append]
        congr 1; omega
theorem runE_elems {l : List Seg} {t : Str} : ∀ (ds es : List (List Str)) (cs : List Str) (p : Str) (i : Nat) (k : Str), es.length + 1 + ds.length ≤ 16 → (∀ e ∈ ds, okEl e) →
    runE (.cmp l t es cs p) i (ds.flatMap (fun e => 43 :: elemT e) ++ 39 :: k) = runE (.btw (l ++ [⟨t, es ++ [cs ++ [p]] ++ ds⟩])) (i + (ds.flatMap (fun e => 43 :: elemT e)).length + 1) k
  | [], es, cs, p, i, k, _, _ => by
    simp only [List.flatMap_nil, List.nil_append, runE, stepE]
    rw [if_neg (by decide), if_pos (by decide)]
    simp [signS]
  | d :: ds, es, cs, p, i, k, h, hd => by
    simp only [List.length_cons] at h
    rw [List.flatMap_cons]
    simp only [List.cons_append, runE, stepE, List.append_assoc]
    rw [if_neg (by decide), if_pos (by decide)]
    simp only [signS]
    rw [if_neg (by decide), if_pos trivial, if_neg (by omega)]
    simp only []
    obtain ⟨cs', p', h1, h2⟩ := runE_elem (l := l) (t := t) (es := es ++ [cs ++ [p]]) d (hd d (by simp)) (i + 1) (List.flatMap (fun e => 43 :: elemT e) ds ++ 39 :: k)
    rw [h2, runE_elems ds (es ++ [cs ++ [p]]) cs' p' _ k (by simp; omega) (fun x hx => hd x (by simp [hx])), h1]
    simp only [List.append_assoc, List.cons_append, List.nil_append, List.length_cons, List.length_append]
    congr 1; omega
theorem runE_seg {l : List Seg} {s : Seg} (hs : okS s) (hl : l.length < 64) (i : Nat) (k : Str) : runE (.btw l) i (segT s ++ k) = runE (.btw (l ++ [s])) (i + (segT s).length) k := by
  obtain ⟨h1, h2, h3⟩ := hs
  unfold segT
  rw [List.append_assoc, List.append_assoc, runE_tag0 h1 hl]
  have hl3 := h1.1
  obtain ⟨tg, els⟩ := s
  simp only at h2 h3 hl3 ⊢
  match els, h2, h3 with
  | [], _, _ =>
    simp only [List.flatMap_nil, List.nil_append, List.append_nil, List.cons_append, runE, stepE]
    rw [if_pos trivial, List.length_append, hl3]
    rfl
  | d :: ds, h2, h3 =>
    rw [List.flatMap_cons]
    simp only [List.cons_append, runE, stepE, List.append_assoc, List.nil_append]
    rw [if_neg (by decide), if_pos trivial]
    simp only []
    obtain ⟨cs', p', g1, g2⟩ := runE_elem (l := l) (t := tg) (es := []) d (h3 d (by simp)) (i + 3 + 1) (List.flatMap (fun e => 43 :: elemT e) ds ++ 39 :: k)
    rw [g2, runE_elems ds [] cs' p' _ k (by simp at h2 ⊢; omega) (fun x hx => h3 x (by simp [hx])), g1]
    simp only [List.cons_append, List.nil_append, List.length_cons, List.length_append, hl3, List.length_nil]
    congr 1; omega
theorem runE_segs : ∀ (m l : List Seg) (i : Nat) (k : Str), l.length + m.length ≤ 64 → (∀ s ∈ m, okS s) → runE (.btw l) i (printT m ++ k) = runE (.btw (l ++ m)) (i + (printT m).length) k
  | [], l, i, k, _, _ => by simp [printT]
  | s :: m, l, i, k, h, hm => by
    simp only [List.length_cons] at h
    have e : printT (s :: m) = segT s ++ printT m := by simp [printT]
    rw [e, List.append_assoc, runE_seg (hm s (by simp)) (by omega), runE_segs m (l ++ [s]) _ k (by simp; omega) (fun x hx => hm x (by simp [hx]))]
    simp only [List.append_assoc, List.cons_append, List.nil_append, List.length_append]
    congr 1; omega
/-- THERE AND BACK -/
theorem parse_print {l : List Seg} (h : okL l) (hp : (printT l).length ≤ 65536) : parseE (printT l) = (l, 0, 0) := by
  unfold parseE
  rw [if_neg (by omega)]
  have := runE_segs l [] 0 [] (by simpa using h.1) h.2
  rw [List.append_nil] at this
  rw [this]
  simp only [runE, List.nil_append]
end Go.Proofs.Ytpfkmklhfafkiaa
