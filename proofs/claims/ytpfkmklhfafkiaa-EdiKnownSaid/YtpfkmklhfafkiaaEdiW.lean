/-
  EdiW: plain laws of texts of segments: what was read is printed as the text, texts one behind the other, cuts, lengths. No condition beyond those stated.
-/
import Derived.Test.YtpfkmklhfafkiaaEdiV
namespace Go.Proofs.Ytpfkmklhfafkiaa
/-! ### what was read, told again -/
/-- the text that a state stands for -/
def curT (t : Str) (es : List (List Str)) (cs : List Str) (p : Str) : Str := t ++ (es ++ [cs ++ [p]]).flatMap (fun e => 43 :: elemT e)
def textE : EC → Str
  | .btw l => printT l
  | .tag l t => printT l ++ t
  | .bhd l t => printT l ++ t
  | .cmp l t es cs p => printT l ++ curT t es cs p
  | .rel l t es cs p => printT l ++ curT t es cs p ++ [63]
/-- what a state has taken is in order -/
def okE : EC → Prop
  | .btw l => okL l
  | .tag l t => okL l ∧ l.length < 64 ∧ t.length < 3 ∧ ∀ c ∈ t, tagB c = true
  | .bhd l t => okL l ∧ l.length < 64 ∧ okT t
  | .cmp l t es cs p => okL l ∧ l.length < 64 ∧ okT t ∧ es.length < 16 ∧ (∀ e ∈ es, okEl e) ∧ cs.length < 8 ∧ (∀ q ∈ cs, okP q) ∧ okP p
  | .rel l t es cs p => okL l ∧ l.length < 64 ∧ okT t ∧ es.length < 16 ∧ (∀ e ∈ es, okEl e) ∧ cs.length < 8 ∧ (∀ q ∈ cs, okP q) ∧ okP p
theorem joinB_snoc (s : UInt8) : ∀ (l : List Str) (a : Str), l ≠ [] → joinB s (l ++ [a]) = joinB s l ++ s :: a
  | [], _, h => absurd rfl h
  | [x], a, _ => by simp [joinB]
  | x :: y :: l, a, _ => by
    have ih := joinB_snoc s (y :: l) a (by simp)
    simp only [List.cons_append] at ih ⊢
    rw [joinB, ih, joinB, List.append_assoc]; rfl
theorem elemT_snoc (cs : List Str) (p : Str) (h : cs ≠ []) : elemT (cs ++ [p]) = elemT cs ++ 58 :: compT p := by
  unfold elemT
  rw [List.map_append, List.map_singleton, joinB_snoc _ _ _ (by simpa using h)]
theorem compT_snoc (p : Str) (c : UInt8) : compT (p ++ [c]) = compT p ++ escB c := by simp [compT]
theorem elemT_put (cs : List Str) (p : Str) (c : UInt8) : elemT (cs ++ [p ++ [c]]) = elemT (cs ++ [p]) ++ escB c := by
  by_cases h : cs = []
  · subst h; simp [elemT, joinB, compT_snoc]
  · rw [elemT_snoc _ _ h, elemT_snoc _ _ h, compT_snoc]; simp
theorem curT_put (t : Str) (es : List (List Str)) (cs : List Str) (p : Str) (c : UInt8) : curT t es cs (p ++ [c]) = curT t es cs p ++ escB c := by
  unfold curT
  rw [List.flatMap_append, List.flatMap_append, List.flatMap_singleton, List.flatMap_singleton, elemT_put]; simp
theorem curT_comp (t : Str) (es : List (List Str)) (cs : List Str) (p : Str) : curT t es (cs ++ [p]) [] = curT t es cs p ++ [58] := by
  unfold curT
  rw [List.flatMap_append, List.flatMap_append, List.flatMap_singleton, List.flatMap_singleton, elemT_snoc _ _ (by simp)]; simp [compT]
theorem curT_elem (t : Str) (es : List (List Str)) (cs : List Str) (p : Str) : curT t (es ++ [cs ++ [p]]) [] [] = curT t es cs p ++ [43] := by
  unfold curT
  rw [List.flatMap_append]; simp [elemT, joinB, compT]
theorem printT_snoc (l : List Seg) (s : Seg) : printT (l ++ [s]) = printT l ++ segT s := by simp [printT]
theorem okP_put {p : Str} {c : UInt8} (h : okP p) (hc : okB c) (hl : p.length ≠ 256) : okP (p ++ [c]) := by
  refine ⟨by have := h.1; simp; omega, fun x hx => ?_⟩
  rw [List.mem_append, List.mem_singleton] at hx
  rcases hx with hx | rfl
  · exact h.2 x hx
  · exact hc
theorem okL_snoc {l : List Seg} {s : Seg} (h : okL l) (hl : l.length < 64) (hs : okS s) : okL (l ++ [s]) := by
  refine ⟨by simp; omega, fun x hx => ?_⟩
  rw [List.mem_append, List.mem_singleton] at hx
  rcases hx with hx | rfl
  · exact h.2 x hx
  · exact hs
theorem mem_snoc {α : Type} {P : α → Prop} {l : List α} {a : α} (h : ∀ x ∈ l, P x) (ha : P a) : ∀ x ∈ l ++ [a], P x := fun x hx => by
  rw [List.mem_append, List.mem_singleton] at hx
  rcases hx with hx | rfl
  · exact h x hx
  · exact ha
theorem okEl_snoc {cs : List Str} {p : Str} (h1 : cs.length < 8) (h2 : ∀ q ∈ cs, okP q) (h3 : okP p) : okEl (cs ++ [p]) := ⟨by simp, by simp; omega, mem_snoc h2 h3⟩
theorem okP_nil : okP [] := ⟨by simp, by simp⟩
theorem tagS_text {l : List Seg} {t : Str} {c : UInt8} {s : EC} (h : tagS l t c = .ok s) (hl : okL l) (hn : l.length < 64) (ht : t.length < 3) (hc : ∀ x ∈ t, tagB x = true) : textE s = printT l ++ t ++ [c] ∧ okE s := by
  unfold tagS at h
  split at h
  · cases h
  · rename_i hb
    rw [Bool.not_eq_false] at hb
    split at h
    · cases h; exact ⟨by simp [textE], hl, hn, by simp; omega, mem_snoc hc hb⟩
    · cases h; exact ⟨by simp [textE], hl, hn, by simp; omega, mem_snoc hc hb⟩
theorem putS_text {l : List Seg} {t : Str} {es : List (List Str)} {cs : List Str} {p : Str} {c : UInt8} {s : EC} (h : putS l t es cs p c = .ok s) (ho : okE (.cmp l t es cs p)) (hc : okB c) : textE s = printT l ++ curT t es cs p ++ escB c ∧ okE s := by
  unfold putS at h
  obtain ⟨h1, h2, h3, h4, h5, h6, h7, h8⟩ := ho
  split at h
  · cases h
  · cases h
    exact ⟨by simp [textE, curT_put], h1, h2, h3, h4, h5, h6, h7, okP_put h8 hc (by assumption)⟩
theorem signB_ok {c : UInt8} (h : signB c = true) : okB c := by
  unfold signB at h
  simp only [Bool.or_eq_true, beq_iff_eq] at h
  unfold okB
  rcases h with ((rfl | rfl) | rfl) | rfl <;> decide
theorem signB_no {c : UInt8} (h : signB c = true) (h1 : c ≠ 63) (h2 : c ≠ 39) (h3 : c ≠ 43) : c = 58 := by
  unfold signB at h
  simp only [Bool.or_eq_true, beq_iff_eq] at h
  rcases h with ((rfl | rfl) | rfl) | rfl
  · exact absurd rfl h3
  · rfl
  · exact absurd rfl h2
  · exact absurd rfl h1
theorem step_text {s s' : EC} {c : UInt8} (h : stepE s c = .ok s') (ho : okE s) : textE s' = textE s ++ (if c = 10 then [] else [c]) ∧ okE s' := by
  cases s with
  | btw l =>
    simp only [stepE] at h
    split at h
    · rename_i h10
      cases h
      rw [if_pos h10.1]; exact ⟨by simp, ho⟩
    · split at h
      · cases h
      · have hn : l.length < 64 := by have := ho.1; omega
        have hb : c ≠ 10 := by
          rintro rfl
          unfold tagS at h
          rw [if_pos (by decide)] at h
          cases h
        obtain ⟨e1, e2⟩ := tagS_text h ho hn (by simp) (by simp)
        rw [if_neg hb]
        exact ⟨by rw [e1]; simp [textE], e2⟩
  | tag l t =>
    obtain ⟨h1, h2, h3, h4⟩ := ho
    have hb : c ≠ 10 := by
      rintro rfl
      simp only [stepE] at h
      unfold tagS at h
      rw [if_pos (by decide)] at h
      cases h
    rw [if_neg hb]
    exact tagS_text h h1 h2 h3 h4
  | bhd l t =>
    obtain ⟨h1, h2, h3⟩ := ho
    simp only [stepE] at h
    split at h
    · rename_i hc
      cases h
      subst hc
      rw [if_neg (by decide)]
      exact ⟨by simp [textE, printT_snoc, segT], okL_snoc h1 h2 ⟨h3, by simp, by simp⟩⟩
    · split at h
      · rename_i hc
        cases h
        subst hc
        rw [if_neg (by decide)]
        exact ⟨by simp [textE, curT, elemT, joinB, compT], h1, h2, h3, by simp, by simp, by simp, by simp, okP_nil⟩
      · cases h
  | cmp l t es cs p =>
    have ho' := ho
    obtain ⟨h1, h2, h3, h4, h5, h6, h7, h8⟩ := ho
    simp only [stepE] at h
    split at h
    · rename_i hc
      cases h; subst hc
      rw [if_neg (by decide)]
      exact ⟨rfl, ho'⟩
    · rename_i h63
      split at h
      · rename_i hs
        have hb : c ≠ 10 := by rintro rfl; exact absurd hs (by decide)
        rw [if_neg hb]
        unfold signS at h
        split at h
        · rename_i hc
          cases h; subst hc
          exact ⟨by simp [textE, printT_snoc, segT, curT], okL_snoc h1 h2 ⟨h3, by simp; omega, mem_snoc h5 (okEl_snoc h6 h7 h8)⟩⟩
        · rename_i h39
          split at h
          · rename_i hc
            subst hc
            split at h
            · cases h
            · cases h
              exact ⟨by simp [textE, curT_elem], h1, h2, h3, by simp; omega, mem_snoc h5 (okEl_snoc h6 h7 h8), by simp, by simp, okP_nil⟩
          · rename_i h43
            have := signB_no hs h63 h39 h43
            subst this
            split at h
            · cases h
            · cases h
              exact ⟨by simp [textE, curT_comp], h1, h2, h3, h4, h5, by simp; omega, mem_snoc h7 h8, okP_nil⟩
      · rename_i hs
        split at h
        · cases h
        · rename_i hr
          rw [Bool.not_eq_true] at hs
          have hb : c ≠ 10 := by rintro rfl; exact hr (by decide)
          rw [if_neg hb]
          obtain ⟨e1, e2⟩ := putS_text h ho' ⟨by omega, by omega⟩
          refine ⟨?_, e2⟩
          rw [e1]
          unfold escB
          rw [hs]; rfl
  | rel l t es cs p =>
    simp only [stepE] at h
    split at h
    · rename_i hs
      have hb : c ≠ 10 := by rintro rfl; exact absurd hs (by decide)
      rw [if_neg hb]
      obtain ⟨e1, e2⟩ := putS_text h ho (signB_ok hs)
      refine ⟨?_, e2⟩
      rw [e1]
      unfold escB
      rw [hs]; simp [textE]
    · cases h
def no10 (t : Str) : Str := t.filter (fun c => c != 10)
theorem run_text : ∀ (t : Str) (s s' : EC) (i : Nat), runE s i t = .ok s' → okE s → textE s' = textE s ++ no10 t ∧ okE s'
  | [], s, s', i, h, ho => by simp only [runE, EO.ok.injEq] at h; subst h; exact ⟨by simp [no10], ho⟩
  | c :: t, s, s', i, h, ho => by
    simp only [runE] at h
    cases hs : stepE s c with
    | err k => rw [hs] at h; cases h
    | ok s1 =>
      rw [hs] at h
      obtain ⟨e1, e2⟩ := step_text hs ho
      obtain ⟨e3, e4⟩ := run_text t s1 s' (i + 1) h e2
      refine ⟨?_, e4⟩
      rw [e3, e1, List.append_assoc]
      congr 1
      unfold no10
      rw [List.filter_cons]
      by_cases hc : c = 10
      · subst hc; simp
      · simp [hc]
theorem parse_ok {t : Str} {m : List Seg} {at_ : Nat} (h : parseE t = (m, at_, 0)) (h' : t.length ≤ 65536) : at_ = 0 ∧ runE (.btw []) 0 t = .ok (.btw m) := by
  unfold parseE at h
  rw [if_neg (by omega)] at h
  split at h
  · rename_i i k hr
    injection h with h1 h2; injection h2 with h2 h3
    subst h3
    exfalso
    have : ∀ (t : Str) (s : EC) (i j : Nat), runE s i t ≠ .err j 0 := by
      intro t
      induction t with
      | nil => intro s i j; simp [runE]
      | cons c t ih =>
        intro s i j h
        simp only [runE] at h
        cases hs : stepE s c with
        | ok s1 => rw [hs] at h; exact ih _ _ _ h
        | err k =>
          rw [hs] at h
          simp only [EO.err.injEq] at h
          obtain ⟨_, rfl⟩ := h
          have hT : ∀ l t, tagS l t c ≠ .err 0 := fun l t h => by
            unfold tagS at h; split at h
            · cases h
            · split at h <;> cases h
          have hP : ∀ l t es cs p, putS l t es cs p c ≠ .err 0 := fun l t es cs p h => by
            unfold putS at h; split at h <;> cases h
          cases s with
          | btw l => simp only [stepE] at hs; split at hs; cases hs; split at hs; cases hs; exact hT _ _ hs
          | tag l t => exact hT _ _ hs
          | bhd l t => simp only [stepE] at hs; split at hs; cases hs; split at hs <;> cases hs
          | cmp l t es cs p =>
            simp only [stepE, signS] at hs
            split at hs; cases hs; split at hs
            · split at hs; cases hs; split at hs
              · split at hs <;> cases hs
              · split at hs <;> cases hs
            · split at hs; cases hs; exact hP _ _ _ _ _ hs
          | rel l t es cs p => simp only [stepE] at hs; split at hs; exact hP _ _ _ _ _ hs; cases hs
    exact this _ _ _ _ hr
  · rename_i l hr
    injection h with h1 h2; injection h2 with h2 h3
    subst h1
    exact ⟨h2.symm, hr⟩
  · injection h with h1 h2; injection h2 with h2 h3; cases h3
theorem okE_start : okE (.btw []) := ⟨by simp, by simp⟩
theorem no10_le (t : Str) : (no10 t).length ≤ t.length := List.length_filter_le _ _
/-- BACK AND THERE -/
theorem print_parse {t : Str} {m : List Seg} {at_ : Nat} (h : parseE t = (m, at_, 0)) (h' : t.length ≤ 65536) : printE m = (no10 t, 0) ∧ okL m := by
  obtain ⟨_, hr⟩ := parse_ok h h'
  obtain ⟨e1, e2⟩ := run_text t _ _ 0 hr okE_start
  have e3 : printT m = no10 t := e1
  have := no10_le t
  rw [printE_ok e2 (by rw [e3]; omega), e3]
  exact ⟨rfl, e2⟩
/-! ### cuts -/
theorem runE_err_lt : ∀ (t : Str) (s : EC) (i j : Nat) (k : Int), runE s i t = .err j k → i ≤ j ∧ j < i + t.length ∧ ∃ s', runE s i (t.take (j - i)) = .ok s'
  | [], s, i, j, k, h => by simp [runE] at h
  | c :: t, s, i, j, k, h => by
    simp only [runE] at h
    cases hs : stepE s c with
    | err k' =>
      rw [hs] at h
      simp only [EO.err.injEq] at h
      obtain ⟨rfl, rfl⟩ := h
      exact ⟨Nat.le_refl _, by simp, s, by simp [runE]⟩
    | ok s1 =>
      rw [hs] at h
      obtain ⟨h1, h2, s', h3⟩ := runE_err_lt t s1 (i + 1) j k h
      refine ⟨by omega, by simp; omega, s', ?_⟩
      rw [show j - i = (j - (i + 1)) + 1 by omega, List.take_succ_cons]
      simp only [runE, hs]
      exact h3
theorem step_err31 {s : EC} {c : UInt8} {k : Int} (h : stepE s c = .err k) : k ≠ 31 ∧ k ≠ 0 := by
  have hT : ∀ l t, tagS l t c = .err k → k ≠ 31 ∧ k ≠ 0 := fun l t h => by
    unfold tagS at h; split at h
    · cases h; decide
    · split at h <;> cases h
  have hP : ∀ l t es cs p, putS l t es cs p c = .err k → k ≠ 31 ∧ k ≠ 0 := fun l t es cs p h => by
    unfold putS at h; split at h
    · cases h; decide
    · cases h
  cases s with
  | btw l =>
    simp only [stepE] at h; split at h
    · cases h
    · split at h
      · cases h; decide
      · exact hT _ _ h
  | tag l t => exact hT _ _ h
  | bhd l t =>
    simp only [stepE] at h; split at h
    · cases h
    · split at h
      · cases h
      · cases h; decide
  | cmp l t es cs p =>
    simp only [stepE, signS] at h
    split at h
    · cases h
    · split at h
      · split at h
        · cases h
        · split at h
          · split at h
            · cases h; decide
            · cases h
          · split at h
            · cases h; decide
            · cases h
      · split at h
        · cases h; decide
        · exact hP _ _ _ _ _ h
  | rel l t es cs p =>
    simp only [stepE] at h; split at h
    · exact hP _ _ _ _ _ h
    · cases h; decide
theorem runE_err31 : ∀ (t : Str) (s : EC) (i j : Nat) (k : Int), runE s i t = .err j k → k ≠ 31 ∧ k ≠ 0
  | [], s, i, j, k, h => by simp [runE] at h
  | c :: t, s, i, j, k, h => by
    simp only [runE] at h
    cases hs : stepE s c with
    | err k' =>
      rw [hs] at h
      simp only [EO.err.injEq] at h
      obtain ⟨rfl, rfl⟩ := h
      exact step_err31 hs
    | ok s1 => rw [hs] at h; exact runE_err31 t s1 (i + 1) j k h
/-- an error: its place, and what comes of the text up to it -/
theorem parse_cut {t : Str} {m : List Seg} {at_ : Nat} {k : Int} (h : parseE t = (m, at_, k)) (h' : t.length ≤ 65536) (hk : k ≠ 0) : at_ ≤ t.length ∧ (k = 31 ↔ at_ = t.length) ∧ m = [] ∧
    ((∃ m', parseE (t.take at_) = (m', 0, 0)) ∨ parseE (t.take at_) = ([], at_, 31)) := by
  have hfin : ∀ s, runE (.btw []) 0 (t.take at_) = .ok s → at_ ≤ t.length → ((∃ m', parseE (t.take at_) = (m', 0, 0)) ∨ parseE (t.take at_) = ([], at_, 31)) := fun s hs hle => by
    have hlen : (t.take at_).length = at_ := by simp; omega
    unfold parseE
    rw [if_neg (by omega), hs, hlen]
    cases s with
    | btw l => exact .inl ⟨l, rfl⟩
    | tag l t => exact .inr rfl
    | bhd l t => exact .inr rfl
    | cmp l t es cs p => exact .inr rfl
    | rel l t es cs p => exact .inr rfl
  unfold parseE at h
  rw [if_neg (by omega)] at h
  split at h
  · rename_i i k' hr
    injection h with h1 h2; injection h2 with h2 h3
    subst h2; subst h3
    obtain ⟨a1, a2, s, a3⟩ := runE_err_lt _ _ _ _ _ hr
    rw [Nat.sub_zero] at a3
    obtain ⟨b1, b2⟩ := runE_err31 _ _ _ _ _ hr
    exact ⟨by omega, ⟨fun e => absurd e b1, fun e => by omega⟩, h1.symm, hfin s a3 (by omega)⟩
  · injection h with h1 h2; injection h2 with h2 h3
    exact absurd h3.symm hk
  · rename_i s hs hr
    injection h with h1 h2; injection h2 with h2 h3
    subst h2; subst h3
    exact ⟨Nat.le_refl _, ⟨fun _ => rfl, fun _ => rfl⟩, h1.symm, hfin s (by rw [List.take_length]; exact hr) (Nat.le_refl _)⟩
/-! ### texts one behind the other -/
def preE (l : List Seg) : EC → EC
  | .btw m => .btw (l ++ m)
  | .tag m t => .tag (l ++ m) t
  | .bhd m t => .bhd (l ++ m) t
  | .cmp m t es cs p => .cmp (l ++ m) t es cs p
  | .rel m t es cs p => .rel (l ++ m) t es cs p
/-- so many segments will be there at least -/
def cntE : EC → Nat
  | .btw m => m.length
  | .tag m _ => m.length + 1
  | .bhd m _ => m.length + 1
  | .cmp m _ _ _ _ => m.length + 1
  | .rel m _ _ _ _ => m.length + 1
theorem tagS_cnt {l : List Seg} {t : Str} {c : UInt8} {s : EC} (h : tagS l t c = .ok s) : cntE s = l.length + 1 := by
  unfold tagS at h
  split at h
  · cases h
  · split at h <;> (cases h; rfl)
theorem step_cnt {s s' : EC} {c : UInt8} (h : stepE s c = .ok s') : cntE s ≤ cntE s' := by
  cases s with
  | btw l =>
    simp only [stepE] at h
    split at h
    · cases h; exact Nat.le_refl _
    · split at h
      · cases h
      · rw [tagS_cnt h]; simp [cntE]
  | tag l t => rw [tagS_cnt h]; simp [cntE]
  | bhd l t =>
    simp only [stepE] at h
    split at h
    · cases h; simp [cntE]
    · split at h
      · cases h; simp [cntE]
      · cases h
  | cmp l t es cs p =>
    simp only [stepE, signS, putS] at h
    split at h
    · cases h; simp [cntE]
    · split at h
      · split at h
        · cases h; simp [cntE]
        · split at h
          · split at h
            · cases h
            · cases h; simp [cntE]
          · split at h
            · cases h
            · cases h; simp [cntE]
      · split at h
        · cases h
        · split at h
          · cases h
          · cases h; simp [cntE]
  | rel l t es cs p =>
    simp only [stepE, putS] at h
    split at h
    · split at h
      · cases h
      · cases h; simp [cntE]
    · cases h
theorem run_cnt : ∀ (t : Str) (s s' : EC) (i : Nat), runE s i t = .ok s' → cntE s ≤ cntE s'
  | [], s, s', i, h => by simp only [runE, EO.ok.injEq] at h; rw [h]; exact Nat.le_refl _
  | c :: t, s, s', i, h => by
    simp only [runE] at h
    cases hs : stepE s c with
    | err k => rw [hs] at h; cases h
    | ok s1 => rw [hs] at h; exact Nat.le_trans (step_cnt hs) (run_cnt t s1 s' (i + 1) h)
theorem step_pre {l : List Seg} {s s' : EC} {c : UInt8} (h : stepE s c = .ok s') (hn : l.length + cntE s' ≤ 64) (hc : s = .btw [] → c ≠ 10) : stepE (preE l s) c = .ok (preE l s') := by
  have hT : ∀ m t, tagS m t c = .ok s' → tagS (l ++ m) t c = .ok (preE l s') := fun m t h => by
    unfold tagS at h ⊢
    split at h
    · cases h
    · rename_i hb
      rw [if_neg hb]
      split at h
      · rename_i hx; rw [if_pos hx]; cases h; rfl
      · rename_i hx; rw [if_neg hx]; cases h; rfl
  cases s with
  | btw m =>
    simp only [stepE, preE] at h ⊢
    split at h
    · rename_i h10
      cases h
      rw [if_pos ⟨h10.1, by have := h10.2; simp [this]⟩]
    · rename_i h10
      split at h
      · cases h
      · have h1 := tagS_cnt h
        rw [if_neg, if_neg (by simp; omega)]
        · exact hT _ _ h
        rintro ⟨hx, hy⟩
        subst hx
        refine h10 ⟨rfl, ?_⟩
        rintro rfl
        exact hc rfl rfl
  | tag m t => exact hT _ _ h
  | bhd m t =>
    simp only [stepE, preE] at h ⊢
    split at h
    · rename_i hx; rw [if_pos hx]; cases h; simp
    · rename_i hx
      rw [if_neg hx]
      split at h
      · rename_i hy; rw [if_pos hy]; cases h; rfl
      · cases h
  | cmp m t es cs p =>
    simp only [stepE, preE, signS, putS] at h ⊢
    split at h
    · rename_i hx; rw [if_pos hx]; cases h; rfl
    · rename_i hx
      rw [if_neg hx]
      split at h
      · rename_i hy
        rw [if_pos hy]
        split at h
        · rename_i hz; rw [if_pos hz]; cases h; simp
        · rename_i hz
          rw [if_neg hz]
          split at h
          · rename_i hv
            rw [if_pos hv]
            split at h
            · cases h
            · rename_i hu; rw [if_neg hu]; cases h; rfl
          · rename_i hv
            rw [if_neg hv]
            split at h
            · cases h
            · rename_i hu; rw [if_neg hu]; cases h; rfl
      · rename_i hy
        rw [if_neg hy]
        split at h
        · cases h
        · rename_i hz
          rw [if_neg hz]
          split at h
          · cases h
          · rename_i hv; rw [if_neg hv]; cases h; rfl
  | rel m t es cs p =>
    simp only [stepE, preE, putS] at h ⊢
    split at h
    · rename_i hx
      rw [if_pos hx]
      split at h
      · cases h
      · rename_i hv; rw [if_neg hv]; cases h; rfl
    · cases h
theorem step_nobtw {s s' : EC} {c : UInt8} (h : stepE s c = .ok s') : s' ≠ .btw [] := by
  have hT : ∀ m t, tagS m t c = .ok s' → s' ≠ .btw [] := fun m t h => by
    unfold tagS at h
    split at h
    · cases h
    · split at h <;> (cases h; intro e; cases e)
  cases s with
  | btw m =>
    simp only [stepE] at h
    split at h
    · rename_i h10; cases h; intro e; injection e with e; exact h10.2 e
    · split at h
      · cases h
      · exact hT _ _ h
  | tag m t => exact hT _ _ h
  | bhd m t =>
    simp only [stepE] at h
    split at h
    · cases h; simp
    · split at h
      · cases h; intro e; cases e
      · cases h
  | cmp m t es cs p =>
    simp only [stepE, signS, putS] at h
    split at h
    · cases h; intro e; cases e
    · split at h
      · split at h
        · cases h; simp
        · split at h
          · split at h
            · cases h
            · cases h; intro e; cases e
          · split at h
            · cases h
            · cases h; intro e; cases e
      · split at h
        · cases h
        · split at h
          · cases h
          · cases h; intro e; cases e
  | rel m t es cs p =>
    simp only [stepE, putS] at h
    split at h
    · split at h
      · cases h
      · cases h; intro e; cases e
    · cases h
theorem run_pre {l : List Seg} : ∀ (t : Str) (s s' : EC) (i j : Nat), runE s i t = .ok s' → l.length + cntE s' ≤ 64 → (s = .btw [] → t.head? ≠ some 10) → runE (preE l s) j t = .ok (preE l s')
  | [], s, s', i, j, h, _, _ => by simp only [runE, EO.ok.injEq] at h ⊢; rw [h]
  | c :: t, s, s', i, j, h, hn, hc => by
    simp only [runE] at h ⊢
    cases hs : stepE s c with
    | err k => rw [hs] at h; cases h
    | ok s1 =>
      rw [hs] at h
      have h1 := run_cnt t s1 s' (i + 1) h
      rw [step_pre hs (by omega) (fun e => by have := hc e; simpa using this)]
      exact run_pre t s1 s' (i + 1) (j + 1) h hn (fun e => absurd e (step_nobtw hs))
theorem parse_app {a b : Str} {l m : List Seg} {i j : Nat} (ha : parseE a = (l, i, 0)) (hb : parseE b = (m, j, 0)) (hla : a.length ≤ 3000) (hlb : b.length ≤ 3000) (hn : l.length + m.length ≤ 64) (h10 : b.head? ≠ some 10) : parseE (a ++ b) = (l ++ m, 0, 0) := by
  obtain ⟨_, h1⟩ := parse_ok ha (by omega)
  obtain ⟨_, h2⟩ := parse_ok hb (by omega)
  unfold parseE
  rw [if_neg (by simp; omega), runE_append, h1]
  have := run_pre (l := l) b (.btw []) (.btw m) 0 (0 + a.length) h2 hn (fun _ => h10)
  simp only [preE, List.append_nil] at this
  simp only [this]
end Go.Proofs.Ytpfkmklhfafkiaa
