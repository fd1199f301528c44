/-
  Texts EdiW, EdiX, EdiY1, EdiY2, EdiY3, EdiY4, EdiY5, one behind the other. No condition beyond those stated in each.
-/
import Derived.Test.YteaaiejfieaalaaGreatDoorMg4
import Derived.Test.YteaaiejfieaalaaGreatDoorMg2
import Derived.Lib.ConvBytes
import Derived.Defers
import Derived.Laws.Pointers
import Derived.Laws.LoneSync
import Derived.RegionCalls
import Derived.ChangeAlike
import Derived.Lib.SliceRun
import Derived.Laws.IdiomStrings
import Derived.Test.YteaaiejfieaalaaGreatDoorEdiShelf
/-
  EdiW: plain laws of texts of segments: what was read is printed as the text, texts one behind the other, cuts, lengths. No condition beyond those stated.
-/
namespace Go.Proofs.YteaaiejfieaalaaGreatDoor
/-! ### what was read, told again -/
/-- the text that a state stands for -/
def curT (t : Str) (es : List (List Str)) (cs : List Str) (p : Str) : Str := t ++ (es ++ [cs ++ [p]]).flatMap (fun e => 43 :: elemT e)
def textE : EC → Str
  | .btw l => printT l
  | .tag l t => printT l ++ t
  | .bhd l t => printT l ++ t
  | .cmp l t es cs p => printT l ++ curT t es cs p
  | .rel l t es cs p => printT l ++ curT t es cs p ++ [63]
/-- what a state has taken is in order -/
def okE : EC → Prop
  | .btw l => okL l
  | .tag l t => okL l ∧ l.length < 64 ∧ t.length < 3 ∧ ∀ c ∈ t, tagB c = true
  | .bhd l t => okL l ∧ l.length < 64 ∧ okT t
  | .cmp l t es cs p => okL l ∧ l.length < 64 ∧ okT t ∧ es.length < 16 ∧ (∀ e ∈ es, okEl e) ∧ cs.length < 8 ∧ (∀ q ∈ cs, okP q) ∧ okP p
  | .rel l t es cs p => okL l ∧ l.length < 64 ∧ okT t ∧ es.length < 16 ∧ (∀ e ∈ es, okEl e) ∧ cs.length < 8 ∧ (∀ q ∈ cs, okP q) ∧ okP p
theorem joinB_snoc (s : UInt8) : ∀ (l : List Str) (a : Str), l ≠ [] → joinB s (l ++ [a]) = joinB s l ++ s :: a
  | [], _, h => absurd rfl h
  | [x], a, _ => by simp [joinB]
  | x :: y :: l, a, _ => by
    have ih := joinB_snoc s (y :: l) a (by simp)
    simp only [List.cons_append] at ih ⊢
    rw [joinB, ih, joinB, List.append_assoc]; rfl
theorem elemT_snoc (cs : List Str) (p : Str) (h : cs ≠ []) : elemT (cs ++ [p]) = elemT cs ++ 58 :: compT p := by
  unfold elemT
  rw [List.map_append, List.map_singleton, joinB_snoc _ _ _ (by simpa using h)]
theorem compT_snoc (p : Str) (c : UInt8) : compT (p ++ [c]) = compT p ++ escB c := by simp [compT]
theorem elemT_put (cs : List Str) (p : Str) (c : UInt8) : elemT (cs ++ [p ++ [c]]) = elemT (cs ++ [p]) ++ escB c := by
  by_cases h : cs = []
  · subst h; simp [elemT, joinB, compT_snoc]
  · rw [elemT_snoc _ _ h, elemT_snoc _ _ h, compT_snoc]; simp
theorem curT_put (t : Str) (es : List (List Str)) (cs : List Str) (p : Str) (c : UInt8) : curT t es cs (p ++ [c]) = curT t es cs p ++ escB c := by
  unfold curT
  rw [List.flatMap_append, List.flatMap_append, List.flatMap_singleton, List.flatMap_singleton, elemT_put]; simp
theorem curT_comp (t : Str) (es : List (List Str)) (cs : List Str) (p : Str) : curT t es (cs ++ [p]) [] = curT t es cs p ++ [58] := by
  unfold curT
  rw [List.flatMap_append, List.flatMap_append, List.flatMap_singleton, List.flatMap_singleton, elemT_snoc _ _ (by simp)]; simp [compT]
theorem curT_elem (t : Str) (es : List (List Str)) (cs : List Str) (p : Str) : curT t (es ++ [cs ++ [p]]) [] [] = curT t es cs p ++ [43] := by
  unfold curT
  rw [List.flatMap_append]; simp [elemT, joinB, compT]
theorem printT_snoc (l : List Seg) (s : Seg) : printT (l ++ [s]) = printT l ++ segT s := by simp [printT]
theorem okP_put {p : Str} {c : UInt8} (h : okP p) (hc : okB c) (hl : p.length ≠ 256) : okP (p ++ [c]) := by
  refine ⟨by have := h.1; simp; omega, fun x hx => ?_⟩
  rw [List.mem_append, List.mem_singleton] at hx
  rcases hx with hx | rfl
  · exact h.2 x hx
  · exact hc
theorem okL_snoc {l : List Seg} {s : Seg} (h : okL l) (hl : l.length < 64) (hs : okS s) : okL (l ++ [s]) := by
  refine ⟨by simp; omega, fun x hx => ?_⟩
  rw [List.mem_append, List.mem_singleton] at hx
  rcases hx with hx | rfl
  · exact h.2 x hx
  · exact hs
theorem mem_snoc {α : Type} {P : α → Prop} {l : List α} {a : α} (h : ∀ x ∈ l, P x) (ha : P a) : ∀ x ∈ l ++ [a], P x := fun x hx => by
  rw [List.mem_append, List.mem_singleton] at hx
  rcases hx with hx | rfl
  · exact h x hx
  · exact ha
theorem okEl_snoc {cs : List Str} {p : Str} (h1 : cs.length < 8) (h2 : ∀ q ∈ cs, okP q) (h3 : okP p) : okEl (cs ++ [p]) := ⟨by simp, by simp; omega, mem_snoc h2 h3⟩
theorem okP_nil : okP [] := ⟨by simp, by simp⟩
theorem tagS_text {l : List Seg} {t : Str} {c : UInt8} {s : EC} (h : tagS l t c = .ok s) (hl : okL l) (hn : l.length < 64) (ht : t.length < 3) (hc : ∀ x ∈ t, tagB x = true) : textE s = printT l ++ t ++ [c] ∧ okE s := by
  unfold tagS at h
  split at h
  · cases h
  · rename_i hb
    rw [Bool.not_eq_false] at hb
    split at h
    · cases h; exact ⟨by simp [textE], hl, hn, by simp; omega, mem_snoc hc hb⟩
    · cases h; exact ⟨by simp [textE], hl, hn, by simp; omega, mem_snoc hc hb⟩
theorem putS_text {l : List Seg} {t : Str} {es : List (List Str)} {cs : List Str} {p : Str} {c : UInt8} {s : EC} (h : putS l t es cs p c = .ok s) (ho : okE (.cmp l t es cs p)) (hc : okB c) : textE s = printT l ++ curT t es cs p ++ escB c ∧ okE s := by
  unfold putS at h
  obtain ⟨h1, h2, h3, h4, h5, h6, h7, h8⟩ := ho
  split at h
  · cases h
  · cases h
    exact ⟨by simp [textE, curT_put], h1, h2, h3, h4, h5, h6, h7, okP_put h8 hc (by assumption)⟩
theorem signB_ok {c : UInt8} (h : signB c = true) : okB c := by
  unfold signB at h
  simp only [Bool.or_eq_true, beq_iff_eq] at h
  unfold okB
  rcases h with ((rfl | rfl) | rfl) | rfl <;> decide
theorem signB_no {c : UInt8} (h : signB c = true) (h1 : c ≠ 63) (h2 : c ≠ 39) (h3 : c ≠ 43) : c = 58 := by
  unfold signB at h
  simp only [Bool.or_eq_true, beq_iff_eq] at h
  rcases h with ((rfl | rfl) | rfl) | rfl
  · exact absurd rfl h3
  · rfl
  · exact absurd rfl h2
  · exact absurd rfl h1
theorem step_text {s s' : EC} {c : UInt8} (h : stepE s c = .ok s') (ho : okE s) : textE s' = textE s ++ (if c = 10 then [] else [c]) ∧ okE s' := by
  cases s with
  | btw l =>
    simp only [stepE] at h
    split at h
    · rename_i h10
      cases h
      rw [if_pos h10.1]; exact ⟨by simp, ho⟩
    · split at h
      · cases h
      · have hn : l.length < 64 := by have := ho.1; omega
        have hb : c ≠ 10 := by
          rintro rfl
          unfold tagS at h
          rw [if_pos (by decide)] at h
          cases h
        obtain ⟨e1, e2⟩ := tagS_text h ho hn (by simp) (by simp)
        rw [if_neg hb]
        exact ⟨by rw [e1]; simp [textE], e2⟩
  | tag l t =>
    obtain ⟨h1, h2, h3, h4⟩ := ho
    have hb : c ≠ 10 := by
      rintro rfl
      simp only [stepE] at h
      unfold tagS at h
      rw [if_pos (by decide)] at h
      cases h
    rw [if_neg hb]
    exact tagS_text h h1 h2 h3 h4
  | bhd l t =>
    obtain ⟨h1, h2, h3⟩ := ho
    simp only [stepE] at h
    split at h
    · rename_i hc
      cases h
      subst hc
      rw [if_neg (by decide)]
      exact ⟨by simp [textE, printT_snoc, segT], okL_snoc h1 h2 ⟨h3, by simp, by simp⟩⟩
    · split at h
      · rename_i hc
        cases h
        subst hc
        rw [if_neg (by decide)]
        exact ⟨by simp [textE, curT, elemT, joinB, compT], h1, h2, h3, by simp, by simp, by simp, by simp, okP_nil⟩
      · cases h
  | cmp l t es cs p =>
    have ho' := ho
    obtain ⟨h1, h2, h3, h4, h5, h6, h7, h8⟩ := ho
    simp only [stepE] at h
    split at h
    · rename_i hc
      cases h; subst hc
      rw [if_neg (by decide)]
      exact ⟨rfl, ho'⟩
    · rename_i h63
      split at h
      · rename_i hs
        have hb : c ≠ 10 := by rintro rfl; exact absurd hs (by decide)
        rw [if_neg hb]
        unfold signS at h
        split at h
        · rename_i hc
          cases h; subst hc
          exact ⟨by simp [textE, printT_snoc, segT, curT], okL_snoc h1 h2 ⟨h3, by simp; omega, mem_snoc h5 (okEl_snoc h6 h7 h8)⟩⟩
        · rename_i h39
          split at h
          · rename_i hc
            subst hc
            split at h
            · cases h
            · cases h
              exact ⟨by simp [textE, curT_elem], h1, h2, h3, by simp; omega, mem_snoc h5 (okEl_snoc h6 h7 h8), by simp, by simp, okP_nil⟩
          · rename_i h43
            have := signB_no hs h63 h39 h43
            subst this
            split at h
            · cases h
            · cases h
              exact ⟨by simp [textE, curT_comp], h1, h2, h3, h4, h5, by simp; omega, mem_snoc h7 h8, okP_nil⟩
      · rename_i hs
        split at h
        · cases h
        · rename_i hr
          rw [Bool.not_eq_true] at hs
          have hb : c ≠ 10 := by rintro rfl; exact hr (by decide)
          rw [if_neg hb]
          obtain ⟨e1, e2⟩ := putS_text h ho' ⟨by omega, by omega⟩
          refine ⟨?_, e2⟩
          rw [e1]
          unfold escB
          rw [hs]; rfl
  | rel l t es cs p =>
    simp only [stepE] at h
    split at h
    · rename_i hs
      have hb : c ≠ 10 := by rintro rfl; exact absurd hs (by decide)
      rw [if_neg hb]
      obtain ⟨e1, e2⟩ := putS_text h ho (signB_ok hs)
      refine ⟨?_, e2⟩
      rw [e1]
      unfold escB
      rw [hs]; simp [textE]
    · cases h
def no10 (t : Str) : Str := t.filter (fun c => c != 10)
theorem run_text : ∀ (t : Str) (s s' : EC) (i : Nat), runE s i t = .ok s' → okE s → textE s' = textE s ++ no10 t ∧ okE s'
  | [], s, s', i, h, ho => by simp only [runE, EO.ok.injEq] at h; subst h; exact ⟨by simp [no10], ho⟩
  | c :: t, s, s', i, h, ho => by
    simp only [runE] at h
    cases hs : stepE s c with
    | err k => rw [hs] at h; cases h
    | ok s1 =>
      rw [hs] at h
      obtain ⟨e1, e2⟩ := step_text hs ho
      obtain ⟨e3, e4⟩ := run_text t s1 s' (i + 1) h e2
      refine ⟨?_, e4⟩
      rw [e3, e1, List.append_assoc]
      congr 1
      unfold no10
      rw [List.filter_cons]
      by_cases hc : c = 10
      · subst hc; simp
      · simp [hc]
theorem parse_ok {t : Str} {m : List Seg} {at_ : Nat} (h : parseE t = (m, at_, 0)) (h' : t.length ≤ 65536) : at_ = 0 ∧ runE (.btw []) 0 t = .ok (.btw m) := by
  unfold parseE at h
  rw [if_neg (by omega)] at h
  split at h
  · rename_i i k hr
    injection h with h1 h2; injection h2 with h2 h3
    subst h3
    exfalso
    have : ∀ (t : Str) (s : EC) (i j : Nat), runE s i t ≠ .err j 0 := by
      intro t
      induction t with
      | nil => intro s i j; simp [runE]
      | cons c t ih =>
        intro s i j h
        simp only [runE] at h
        cases hs : stepE s c with
        | ok s1 => rw [hs] at h; exact ih _ _ _ h
        | err k =>
          rw [hs] at h
          simp only [EO.err.injEq] at h
          obtain ⟨_, rfl⟩ := h
          have hT : ∀ l t, tagS l t c ≠ .err 0 := fun l t h => by
            unfold tagS at h; split at h
            · cases h
            · split at h <;> cases h
          have hP : ∀ l t es cs p, putS l t es cs p c ≠ .err 0 := fun l t es cs p h => by
            unfold putS at h; split at h <;> cases h
          cases s with
          | btw l => simp only [stepE] at hs; split at hs; cases hs; split at hs; cases hs; exact hT _ _ hs
          | tag l t => exact hT _ _ hs
          | bhd l t => simp only [stepE] at hs; split at hs; cases hs; split at hs <;> cases hs
          | cmp l t es cs p =>
            simp only [stepE, signS] at hs
            split at hs; cases hs; split at hs
            · split at hs; cases hs; split at hs
              · split at hs <;> cases hs
              · split at hs <;> cases hs
            · split at hs; cases hs; exact hP _ _ _ _ _ hs
          | rel l t es cs p => simp only [stepE] at hs; split at hs; exact hP _ _ _ _ _ hs; cases hs
    exact this _ _ _ _ hr
  · rename_i l hr
    injection h with h1 h2; injection h2 with h2 h3
    subst h1
    exact ⟨h2.symm, hr⟩
  · injection h with h1 h2; injection h2 with h2 h3; cases h3
theorem okE_start : okE (.btw []) := ⟨by simp, by simp⟩
theorem no10_le (t : Str) : (no10 t).length ≤ t.length := List.length_filter_le _ _
/-- BACK AND THERE -/
theorem print_parse {t : Str} {m : List Seg} {at_ : Nat} (h : parseE t = (m, at_, 0)) (h' : t.length ≤ 65536) : printE m = (no10 t, 0) ∧ okL m := by
  obtain ⟨_, hr⟩ := parse_ok h h'
  obtain ⟨e1, e2⟩ := run_text t _ _ 0 hr okE_start
  have e3 : printT m = no10 t := e1
  have := no10_le t
  rw [printE_ok e2 (by rw [e3]; omega), e3]
  exact ⟨rfl, e2⟩
/-! ### cuts -/
theorem runE_err_lt : ∀ (t : Str) (s : EC) (i j : Nat) (k : Int), runE s i t = .err j k → i ≤ j ∧ j < i + t.length ∧ ∃ s', runE s i (t.take (j - i)) = .ok s'
  | [], s, i, j, k, h => by simp [runE] at h
  | c :: t, s, i, j, k, h => by
    simp only [runE] at h
    cases hs : stepE s c with
    | err k' =>
      rw [hs] at h
      simp only [EO.err.injEq] at h
      obtain ⟨rfl, rfl⟩ := h
      exact ⟨Nat.le_refl _, by simp, s, by simp [runE]⟩
    | ok s1 =>
      rw [hs] at h
      obtain ⟨h1, h2, s', h3⟩ := runE_err_lt t s1 (i + 1) j k h
      refine ⟨by omega, by simp; omega, s', ?_⟩
      rw [show j - i = (j - (i + 1)) + 1 by omega, List.take_succ_cons]
      simp only [runE, hs]
      exact h3
theorem step_err31 {s : EC} {c : UInt8} {k : Int} (h : stepE s c = .err k) : k ≠ 31 ∧ k ≠ 0 := by
  have hT : ∀ l t, tagS l t c = .err k → k ≠ 31 ∧ k ≠ 0 := fun l t h => by
    unfold tagS at h; split at h
    · cases h; decide
    · split at h <;> cases h
  have hP : ∀ l t es cs p, putS l t es cs p c = .err k → k ≠ 31 ∧ k ≠ 0 := fun l t es cs p h => by
    unfold putS at h; split at h
    · cases h; decide
    · cases h
  cases s with
  | btw l =>
    simp only [stepE] at h; split at h
    · cases h
    · split at h
      · cases h; decide
      · exact hT _ _ h
  | tag l t => exact hT _ _ h
  | bhd l t =>
    simp only [stepE] at h; split at h
    · cases h
    · split at h
      · cases h
      · cases h; decide
  | cmp l t es cs p =>
    simp only [stepE, signS] at h
    split at h
    · cases h
    · split at h
      · split at h
        · cases h
        · split at h
          · split at h
            · cases h; decide
            · cases h
          · split at h
            · cases h; decide
            · cases h
      · split at h
        · cases h; decide
        · exact hP _ _ _ _ _ h
  | rel l t es cs p =>
    simp only [stepE] at h; split at h
    · exact hP _ _ _ _ _ h
    · cases h; decide
theorem runE_err31 : ∀ (t : Str) (s : EC) (i j : Nat) (k : Int), runE s i t = .err j k → k ≠ 31 ∧ k ≠ 0
  | [], s, i, j, k, h => by simp [runE] at h
  | c :: t, s, i, j, k, h => by
    simp only [runE] at h
    cases hs : stepE s c with
    | err k' =>
      rw [hs] at h
      simp only [EO.err.injEq] at h
      obtain ⟨rfl, rfl⟩ := h
      exact step_err31 hs
    | ok s1 => rw [hs] at h; exact runE_err31 t s1 (i + 1) j k h
/-- an error: its place, and what comes of the text up to it -/
theorem parse_cut {t : Str} {m : List Seg} {at_ : Nat} {k : Int} (h : parseE t = (m, at_, k)) (h' : t.length ≤ 65536) (hk : k ≠ 0) : at_ ≤ t.length ∧ (k = 31 ↔ at_ = t.length) ∧ m = [] ∧
    ((∃ m', parseE (t.take at_) = (m', 0, 0)) ∨ parseE (t.take at_) = ([], at_, 31)) := by
  have hfin : ∀ s, runE (.btw []) 0 (t.take at_) = .ok s → at_ ≤ t.length → ((∃ m', parseE (t.take at_) = (m', 0, 0)) ∨ parseE (t.take at_) = ([], at_, 31)) := fun s hs hle => by
    have hlen : (t.take at_).length = at_ := by simp; omega
    unfold parseE
    rw [if_neg (by omega), hs, hlen]
    cases s with
    | btw l => exact .inl ⟨l, rfl⟩
    | tag l t => exact .inr rfl
    | bhd l t => exact .inr rfl
    | cmp l t es cs p => exact .inr rfl
    | rel l t es cs p => exact .inr rfl
  unfold parseE at h
  rw [if_neg (by omega)] at h
  split at h
  · rename_i i k' hr
    injection h with h1 h2; injection h2 with h2 h3
    subst h2; subst h3
    obtain ⟨a1, a2, s, a3⟩ := runE_err_lt _ _ _ _ _ hr
    rw [Nat.sub_zero] at a3
    obtain ⟨b1, b2⟩ := runE_err31 _ _ _ _ _ hr
    exact ⟨by omega, ⟨fun e => absurd e b1, fun e => by omega⟩, h1.symm, hfin s a3 (by omega)⟩
  · injection h with h1 h2; injection h2 with h2 h3
    exact absurd h3.symm hk
  · rename_i s hs hr
    injection h with h1 h2; injection h2 with h2 h3
    subst h2; subst h3
    exact ⟨Nat.le_refl _, ⟨fun _ => rfl, fun _ => rfl⟩, h1.symm, hfin s (by rw [List.take_length]; exact hr) (Nat.le_refl _)⟩
/-! ### texts one behind the other -/
def preE (l : List Seg) : EC → EC
  | .btw m => .btw (l ++ m)
  | .tag m t => .tag (l ++ m) t
  | .bhd m t => .bhd (l ++ m) t
  | .cmp m t es cs p => .cmp (l ++ m) t es cs p
  | .rel m t es cs p => .rel (l ++ m) t es cs p
/-- so many segments will be there at least -/
def cntE : EC → Nat
  | .btw m => m.length
  | .tag m _ => m.length + 1
  | .bhd m _ => m.length + 1
  | .cmp m _ _ _ _ => m.length + 1
  | .rel m _ _ _ _ => m.length + 1
theorem tagS_cnt {l : List Seg} {t : Str} {c : UInt8} {s : EC} (h : tagS l t c = .ok s) : cntE s = l.length + 1 := by
  unfold tagS at h
  split at h
  · cases h
  · split at h <;> (cases h; rfl)
theorem step_cnt {s s' : EC} {c : UInt8} (h : stepE s c = .ok s') : cntE s ≤ cntE s' := by
  cases s with
  | btw l =>
    simp only [stepE] at h
    split at h
    · cases h; exact Nat.le_refl _
    · split at h
      · cases h
      · rw [tagS_cnt h]; simp [cntE]
  | tag l t => rw [tagS_cnt h]; simp [cntE]
  | bhd l t =>
    simp only [stepE] at h
    split at h
    · cases h; simp [cntE]
    · split at h
      · cases h; simp [cntE]
      · cases h
  | cmp l t es cs p =>
    simp only [stepE, signS, putS] at h
    split at h
    · cases h; simp [cntE]
    · split at h
      · split at h
        · cases h; simp [cntE]
        · split at h
          · split at h
            · cases h
            · cases h; simp [cntE]
          · split at h
            · cases h
            · cases h; simp [cntE]
      · split at h
        · cases h
        · split at h
          · cases h
          · cases h; simp [cntE]
  | rel l t es cs p =>
    simp only [stepE, putS] at h
    split at h
    · split at h
      · cases h
      · cases h; simp [cntE]
    · cases h
theorem run_cnt : ∀ (t : Str) (s s' : EC) (i : Nat), runE s i t = .ok s' → cntE s ≤ cntE s'
  | [], s, s', i, h => by simp only [runE, EO.ok.injEq] at h; rw [h]; exact Nat.le_refl _
  | c :: t, s, s', i, h => by
    simp only [runE] at h
    cases hs : stepE s c with
    | err k => rw [hs] at h; cases h
    | ok s1 => rw [hs] at h; exact Nat.le_trans (step_cnt hs) (run_cnt t s1 s' (i + 1) h)
theorem step_pre {l : List Seg} {s s' : EC} {c : UInt8} (h : stepE s c = .ok s') (hn : l.length + cntE s' ≤ 64) (hc : s = .btw [] → c ≠ 10) : stepE (preE l s) c = .ok (preE l s') := by
  have hT : ∀ m t, tagS m t c = .ok s' → tagS (l ++ m) t c = .ok (preE l s') := fun m t h => by
    unfold tagS at h ⊢
    split at h
    · cases h
    · rename_i hb
      rw [if_neg hb]
      split at h
      · rename_i hx; rw [if_pos hx]; cases h; rfl
      · rename_i hx; rw [if_neg hx]; cases h; rfl
  cases s with
  | btw m =>
    simp only [stepE, preE] at h ⊢
    split at h
    · rename_i h10
      cases h
      rw [if_pos ⟨h10.1, by have := h10.2; simp [this]⟩]
    · rename_i h10
      split at h
      · cases h
      · have h1 := tagS_cnt h
        rw [if_neg, if_neg (by simp; omega)]
        · exact hT _ _ h
        rintro ⟨hx, hy⟩
        subst hx
        refine h10 ⟨rfl, ?_⟩
        rintro rfl
        exact hc rfl rfl
  | tag m t => exact hT _ _ h
  | bhd m t =>
    simp only [stepE, preE] at h ⊢
    split at h
    · rename_i hx; rw [if_pos hx]; cases h; simp
    · rename_i hx
      rw [if_neg hx]
      split at h
      · rename_i hy; rw [if_pos hy]; cases h; rfl
      · cases h
  | cmp m t es cs p =>
    simp only [stepE, preE, signS, putS] at h ⊢
    split at h
    · rename_i hx; rw [if_pos hx]; cases h; rfl
    · rename_i hx
      rw [if_neg hx]
      split at h
      · rename_i hy
        rw [if_pos hy]
        split at h
        · rename_i hz; rw [if_pos hz]; cases h; simp
        · rename_i hz
          rw [if_neg hz]
          split at h
          · rename_i hv
            rw [if_pos hv]
            split at h
            · cases h
            · rename_i hu; rw [if_neg hu]; cases h; rfl
          · rename_i hv
            rw [if_neg hv]
            split at h
            · cases h
            · rename_i hu; rw [if_neg hu]; cases h; rfl
      · rename_i hy
        rw [if_neg hy]
        split at h
        · cases h
        · rename_i hz
          rw [if_neg hz]
          split at h
          · cases h
          · rename_i hv; rw [if_neg hv]; cases h; rfl
  | rel m t es cs p =>
    simp only [stepE, preE, putS] at h ⊢
    split at h
    · rename_i hx
      rw [if_pos hx]
      split at h
      · cases h
      · rename_i hv; rw [if_neg hv]; cases h; rfl
    · cases h
theorem step_nobtw {s s' : EC} {c : UInt8} (h : stepE s c = .ok s') : s' ≠ .btw [] := by
  have hT : ∀ m t, tagS m t c = .ok s' → s' ≠ .btw [] := fun m t h => by
    unfold tagS at h
    split at h
    · cases h
    · split at h <;> (cases h; intro e; cases e)
  cases s with
  | btw m =>
    simp only [stepE] at h
    split at h
    · rename_i h10; cases h; intro e; injection e with e; exact h10.2 e
    · split at h
      · cases h
      · exact hT _ _ h
  | tag m t => exact hT _ _ h
  | bhd m t =>
    simp only [stepE] at h
    split at h
    · cases h; simp
    · split at h
      · cases h; intro e; cases e
      · cases h
  | cmp m t es cs p =>
    simp only [stepE, signS, putS] at h
    split at h
    · cases h; intro e; cases e
    · split at h
      · split at h
        · cases h; simp
        · split at h
          · split at h
            · cases h
            · cases h; intro e; cases e
          · split at h
            · cases h
            · cases h; intro e; cases e
      · split at h
        · cases h
        · split at h
          · cases h
          · cases h; intro e; cases e
  | rel m t es cs p =>
    simp only [stepE, putS] at h
    split at h
    · split at h
      · cases h
      · cases h; intro e; cases e
    · cases h
theorem run_pre {l : List Seg} : ∀ (t : Str) (s s' : EC) (i j : Nat), runE s i t = .ok s' → l.length + cntE s' ≤ 64 → (s = .btw [] → t.head? ≠ some 10) → runE (preE l s) j t = .ok (preE l s')
  | [], s, s', i, j, h, _, _ => by simp only [runE, EO.ok.injEq] at h ⊢; rw [h]
  | c :: t, s, s', i, j, h, hn, hc => by
    simp only [runE] at h ⊢
    cases hs : stepE s c with
    | err k => rw [hs] at h; cases h
    | ok s1 =>
      rw [hs] at h
      have h1 := run_cnt t s1 s' (i + 1) h
      rw [step_pre hs (by omega) (fun e => by have := hc e; simpa using this)]
      exact run_pre t s1 s' (i + 1) (j + 1) h hn (fun e => absurd e (step_nobtw hs))
theorem parse_app {a b : Str} {l m : List Seg} {i j : Nat} (ha : parseE a = (l, i, 0)) (hb : parseE b = (m, j, 0)) (hla : a.length ≤ 3000) (hlb : b.length ≤ 3000) (hn : l.length + m.length ≤ 64) (h10 : b.head? ≠ some 10) : parseE (a ++ b) = (l ++ m, 0, 0) := by
  obtain ⟨_, h1⟩ := parse_ok ha (by omega)
  obtain ⟨_, h2⟩ := parse_ok hb (by omega)
  unfold parseE
  rw [if_neg (by simp; omega), runE_append, h1]
  have := run_pre (l := l) b (.btw []) (.btw m) 0 (0 + a.length) h2 hn (fun _ => h10)
  simp only [preE, List.append_nil] at this
  simp only [this]
end Go.Proofs.YteaaiejfieaalaaGreatDoor

/-
  EdiX: contracts of ContainsFunc at the printer's closure. No condition beyond those stated.
-/
namespace Go.Proofs.YteaaiejfieaalaaGreatDoor
open Go.RowKit
/-- bytes in a row of cells -/
def BytesL (w : World) (b : Nat) (l : Str) : Prop := ∀ (j : Nat) (c : UInt8), l[j]? = some c → w.cell? ⟨b, j, none⟩ = some (bv c)
def badV : Value := .func (.func 36) #[] #[]
set_option maxHeartbeats 1000000 in
theorem bad_any (c : UInt8) (w : World) : Calls Tryz.prog 36 #[.int .u8 (c.toNat : Int)] w fun e w' => e = .returned (.bool (badB c)) ∧ w = w' := by
  have hE : badB c = (decide (c.toNat < 32) || decide (126 < c.toNat)) := rfl
  have HE := Lib.hid hE
  obtain ⟨n, hn⟩ : ∃ n : Nat, c.toNat = n := ⟨_, rfl⟩
  rw [hn] at HE ⊢
  clear hE hn
  by_cases h1 : n < 32
  · have d1 : decide ((n : Int) < 32) = true := by rw [decide_eq_true_eq]; omega
    go_enter Tryz.func36, Tryz.ntmps36
    go_wp2_with fail
    go_ret
    exact ⟨by rw [HE.out]; simp [h1], rfl⟩
  · have d1 : decide ((n : Int) < 32) = false := by rw [decide_eq_false_iff_not]; omega
    by_cases h2 : 126 < n
    · have d2 : decide ((126 : Int) < (n : Int)) = true := by rw [decide_eq_true_eq]; omega
      go_enter Tryz.func36, Tryz.ntmps36
      go_wp2_with fail
      go_ret
      exact ⟨by rw [HE.out]; simp [h2], rfl⟩
    · have d2 : decide ((126 : Int) < (n : Int)) = false := by rw [decide_eq_false_iff_not]; omega
      go_enter Tryz.func36, Tryz.ntmps36
      go_wp2_with fail
      go_ret
      exact ⟨by rw [HE.out]; simp [h1, h2], rfl⟩
/-- where the first bad byte is -/
def idxB (l : Str) : Int := if l.any badB then (l.findIdx badB : Int) else -1
theorem idxB_none {l : Str} (h : l.any badB = false) : idxB l = -1 := by unfold idxB; rw [h]; rfl
theorem any_take_false {l : Str} {k : Nat} (h : (l.take k).any badB = false) {c : UInt8} (hc : l[k]? = some c) (hb : badB c = false) : (l.take (k + 1)).any badB = false := by
  rw [List.take_add_one, hc, List.any_append, h]; simp [hb]
set_option maxHeartbeats 2000000 in
theorem index_any (w : World) (b cap : Nat) (l : Str) (hl : l.length ≤ 4294967281) (h : BytesL w b l) : Calls Tryz.prog 50 #[.slice (some ⟨b, 0, none⟩) l.length cap, badV] w fun e w' => (∃ k : Int, e = .returned (.int .i64 k) ∧ (0 ≤ k ↔ l.any badB = true)) ∧ w = w' := by
  have HL := Lib.hid h
  clear h
  obtain ⟨N, hN⟩ : ∃ N, l.length = N := ⟨_, rfl⟩
  have HN := Lib.hid hN
  rw [hN] at hl ⊢
  clear hN
  unfold badV
  go_enter Tryz.func50, Tryz.ntmps50
  go_wp2_with fail
  go_loop [8] (fun i => ∃ k : Nat, k ≤ N ∧ i = .int .i64 k ∧ Hid ((l.take k).any badB = false)) (fun i => N - (intOf i).toNat)
  case atStart => exact ⟨0, Nat.zero_le _, rfl, Lib.hid (by simp)⟩
  case round =>
    obtain ⟨k, hk, rfl, hd⟩ := hrel
    by_cases hlt : k < N
    · obtain ⟨c, hc⟩ : ∃ c, l[k]? = some c := ⟨_, List.getElem?_eq_getElem (by rw [HN.out]; exact hlt)⟩
      have hcell := HL.out k c hc
      unfold bv at hcell
      have HC := Lib.hid hc
      clear hc
      cases hb : badB c with
      | true =>
        have HB := Lib.hid hb
        clear hb
        have hcall := fun w => (bad_any c w)
        rw [HB.out] at hcall
        have HCA := Lib.hid hcall
        clear hcall
        go_wp2_with (go_at_call 36; refine (HCA.out _).mono ?_; rintro e w' ⟨rfl, rfl⟩)
        go_ret
        refine ⟨⟨_, rfl, ?_⟩, rfl⟩
        refine ⟨fun _ => List.any_eq_true.2 ⟨c, List.mem_of_getElem? HC.out, HB.out⟩, fun _ => by omega⟩
      | false =>
        have HB := Lib.hid hb
        clear hb
        have hcall := fun w => (bad_any c w)
        rw [HB.out] at hcall
        have HCA := Lib.hid hcall
        clear hcall
        go_wp2_with (go_at_call 36; refine (HCA.out _).mono ?_; rintro e w' ⟨rfl, rfl⟩)
        go_round
        case rel => exact ⟨k + 1, by omega, by go_num, Lib.hid (any_take_false hd.out HC.out HB.out)⟩
        case measure => simp [intOf]; omega
    · go_wp2_with fail
      go_ret
      have e : l.take k = l := List.take_of_length_le (by rw [HN.out]; omega)
      have hd' := hd.out
      rw [e] at hd'
      rw [List.any_eq_false] at hd'
      exact ⟨⟨-1, rfl, ⟨fun h => by omega, fun h => by obtain ⟨x, hx, hb⟩ := List.any_eq_true.1 (by simpa using h); exact absurd hb (hd' x hx)⟩⟩, rfl⟩
set_option maxHeartbeats 1000000 in
theorem contains_any (w : World) (b cap : Nat) (l : Str) (hl : l.length ≤ 4294967281) (h : BytesL w b l) : Calls Tryz.prog 35 #[.slice (some ⟨b, 0, none⟩) l.length cap, badV] w fun e w' => e = .returned (.bool (l.any badB)) ∧ w = w' := by
  obtain ⟨N, hN⟩ : ∃ N, l.length = N := ⟨_, rfl⟩
  have HI := Lib.hid (index_any w b cap l hl h)
  rw [hN] at HI ⊢
  obtain ⟨A, hA⟩ : ∃ A, l.any badB = A := ⟨_, rfl⟩
  rw [hA] at HI ⊢
  clear h hN hA
  unfold badV at *
  go_enter Tryz.func35, Tryz.ntmps35
  go_wp2_with (go_at_call 50; refine HI.out.mono ?_; rintro e w' ⟨⟨k, rfl, hk⟩, rfl⟩; have HK := Lib.hid hk; clear hk)
  go_ret
  have e : decide (0 ≤ k) = A := by rw [Bool.eq_iff_iff, decide_eq_true_eq]; exact HK.out
  exact ⟨congrArg (fun b => Ending.returned (Value.bool b)) e, rfl⟩
end Go.Proofs.YteaaiejfieaalaaGreatDoor

/-
  EdiY1: contracts of sync.Once's parts at a Replacer. No condition beyond those stated.
-/
namespace Go.Proofs.YteaaiejfieaalaaGreatDoor
open Go.RowKit
theorem race_dis (w : World) : (callFunc 106 #[]).run Tryz.prog w = .ok (.value (.tuple #[])) w := run_call_mark0 Tryz.func106 (by kernel_rfl) (by kernel_rfl) (by kernel_rfl) .disable (by kernel_rfl) w
theorem race_en (w : World) : (callFunc 108 #[]).run Tryz.prog w = .ok (.value (.tuple #[])) w := run_call_mark0 Tryz.func108 (by kernel_rfl) (by kernel_rfl) (by kernel_rfl) .enable (by kernel_rfl) w
theorem race_acq (a : Addr) (w : World) : (callFunc 109 #[.pointer (some a)]).run Tryz.prog w = .ok (.value (.tuple #[])) w := run_call_marked Tryz.func109 (by kernel_rfl) (by kernel_rfl) (by kernel_rfl) .acquire (by kernel_rfl) a w
theorem race_rel (a : Addr) (w : World) : (callFunc 111 #[.pointer (some a)]).run Tryz.prog w = .ok (.value (.tuple #[])) w := run_call_marked Tryz.func111 (by kernel_rfl) (by kernel_rfl) (by kernel_rfl) .releaseMerge (by kernel_rfl) a w
/-- Store(true), entered as a deferred call -/
theorem store_deferred (a : Addr) (x : Value) (u : FrameMode) (w : World) (hc : w.cell? a = some x) (hz : w.frozen? a = false) :
    CallsD Tryz.prog 80 #[.pointer (some a), .bool true] u w fun e u' w' => u' = u ∧ (e = .returned (.tuple #[]) ∧ w' = w.drew.setCell a (.int .u32 1)) := by
  have hc' : w.drew.cell? a = some x := by go_simp
  have hz' : w.drew.frozen? a = false := by go_simp
  have hst := run_call_store (P := Tryz.prog) Tryz.func95 (by kernel_rfl) (by kernel_rfl) (by kernel_rfl) (by kernel_rfl) (k := .u32) (y := 1) hc' hz'
  go_enter_d Tryz.func80, Tryz.ntmps80
  go_wp2
  go_region_calls
  all_goals (go_end0; exact ⟨rfl, rfl⟩)
set_option maxRecDepth 100000 in
theorem iunlock (a : Addr) (w : World) (hc : w.cell? a = some (.int .i32 1)) (hz : w.frozen? a = false) :
    Calls Tryz.prog 94 #[.pointer (some a)] w fun e w' => e = .returned (.tuple #[]) ∧ w' = w.setCell a (.int .i32 0) := by
  have hd := race_dis
  have he := race_en
  have hr := race_rel
  have hadd := run_call_add (P := Tryz.prog) Tryz.func112 (by kernel_rfl) (by kernel_rfl) (by kernel_rfl) .i32 (by kernel_rfl) (y := -1) (s := 0) hc hz (by simp [go_sem]; rfl)
  have hcv := run_convert_to_unsafe (P := Tryz.prog) (src := 179) (dst := 120) Tryz.underlying179 Tryz.underlying120 (by kernel_rfl) hc
  go_enter Tryz.func94, Tryz.ntmps94
  go_wp2
  first | go_end0 | (simp only [Exit.inBlock, Exit.then]; refine bodyPost_ret (results_none rfl _ _ _) rfl ?_) | refine bodyPost_ret (results_none rfl _ _ _) rfl ?_
  all_goals exact ⟨rfl, rfl⟩
/-- Unlock, entered as a deferred call -/
theorem unlock_deferred (a : Addr) (u : FrameMode) (w : World) (hc : w.cell? a = some (.int .i32 1)) (hz : w.frozen? a = false) :
    CallsD Tryz.prog 79 #[.pointer (some a)] u w fun e u' w' => u' = u ∧ (e = .returned (.tuple #[]) ∧ w' = w.setCell a (.int .i32 0)) := by
  go_enter_d Tryz.func79, Tryz.ntmps79
  go_wp2_with (go_at_call 94; refine (iunlock a _ hc hz).mono ?_; rintro e w' ⟨rfl, rfl⟩)
  go_end0
  exact ⟨rfl, rfl⟩
set_option maxRecDepth 100000 in
theorem ilock (a : Addr) (w : World) (hc : w.cell? a = some (.int .i32 0)) (hz : w.frozen? a = false) :
    Calls Tryz.prog 93 #[.pointer (some a)] w fun e w' => e = .returned (.tuple #[]) ∧ w' = w.setCell a (.int .i32 1) := by
  have hd := race_dis
  have he := race_en
  have ha := race_acq
  have hcas := run_call_cas_hit (P := Tryz.prog) Tryz.func107 (by kernel_rfl) (by kernel_rfl) (by kernel_rfl) .i32 (by kernel_rfl) (y := 1) hc hz
  have hc' : (w.setCell a (.int .i32 1)).cell? a = some (.int .i32 1) := World.cell?_setCell_same w a _ hc
  have hcv := run_convert_to_unsafe (P := Tryz.prog) (src := 179) (dst := 120) Tryz.underlying179 Tryz.underlying120 (by kernel_rfl) hc'
  go_enter Tryz.func93, Tryz.ntmps93
  go_wp2
  first | go_end0 | (simp only [Exit.inBlock, Exit.then]; refine bodyPost_ret (results_none rfl _ _ _) rfl ?_) | refine bodyPost_ret (results_none rfl _ _ _) rfl ?_
  all_goals exact ⟨rfl, rfl⟩
theorem lock_free (a : Addr) (w : World) (hc : w.cell? a = some (.int .i32 0)) (hz : w.frozen? a = false) :
    Calls Tryz.prog 78 #[.pointer (some a)] w fun e w' => e = .returned (.tuple #[]) ∧ w' = w.setCell a (.int .i32 1) := by
  go_enter Tryz.func78, Tryz.ntmps78
  go_wp2_with (go_at_call 93; refine (ilock a _ hc hz).mono ?_; rintro e w' ⟨rfl, rfl⟩)
  go_end0
  exact ⟨rfl, rfl⟩
theorem aload (a : Addr) (d : Int) (w : World) (h0 : w.cell? a = some (.int .u32 d)) :
    Calls Tryz.prog 61 #[.pointer (some a)] w fun e w' => e = .returned (.bool (d != 0)) ∧ w = w' := by
  have hl := run_call_load (P := Tryz.prog) Tryz.func77 (by kernel_rfl) (by kernel_rfl) (by kernel_rfl) .u32 (by kernel_rfl) h0
  go_enter Tryz.func61, Tryz.ntmps61
  go_wp2
  go_ret
  exact ⟨rfl, rfl⟩
end Go.Proofs.YteaaiejfieaalaaGreatDoor

/-
  EdiY2: words and laws for the table of a byteStringReplacer. No condition beyond those stated.
-/
namespace Go.Proofs.YteaaiejfieaalaaGreatDoor
open Go.RowKit
section
variable {P : Program} {ops : Array Oper} {rest : List Oper} {o : Oper} {a : Act} {w : World} {Q : Exit → Act → World → Prop}
/-- a new variable of a type of rows -/
theorem wpList_allocZ (hgd : o.guard = none) (ty : TypeId) (ho : o.op = .alloc ty) (Z : Array Value) (hz : ∀ w, (zeroValue ty).run P w = .ok (.agg Z) w)
    (h : wpList P ops Q rest (a.put o.dst (.pointer (some ⟨w.heap.size, 0, none⟩))) (w.alloc (.cells Z ty))) : wpList P ops Q (o :: rest) a w := by
  refine wpList_val (v := .pointer (some ⟨w.heap.size, 0, none⟩)) (w' := w.alloc (.cells Z ty)) hgd ?_ h
  unfold execOp
  simp only [ho, Instr.alloc, Sem.run_bind, hz, Result.andThen_ok, newVar, newRow, newObj, Sem.run, Value.cells, Sem.run_pure]
  rfl
theorem wpList_storeZ (hgd : o.guard = none) (ty : TypeId) (x y : Operand) (ho : o.op = .store ty x y) (Z C : Array Value) (H : Nat) (hH : w.heap.size = H)
    (hx : a.eval x = .pointer (some ⟨H, 0, none⟩)) (hy : a.eval y = .agg C) (hi : (P.info? ty).map (·.size) = some C.size) (hs : Z.size = C.size) (h1 : C.all (·.oneCell') = true)
    (h : wpList P ops Q rest (a.put o.dst undef) (w.alloc (.cells C ty))) : wpList P ops Q (o :: rest) a (w.alloc (.cells Z ty)) :=
  wpList_plain hgd fun _ hK => by
    subst hH
    unfold Oper.wp execOp
    simp only [ho, hx, hy, Sem.run_bind, run_storeAt_new w ty Z C hi hs h1, Result.andThen_ok, Sem.run_pure]
    exact hK _ _ h
theorem wpList_buildZ (hgd : o.guard = none) (ty : TypeId) (i : Nat) (x : Operand) (ho : o.op = .build ty #[(i, x)]) (v : Value) (C : Array Value) (hx : a.eval x = v) (hb : ∀ w, (Instr.build ty #[(i, v)]).run P w = .ok (.agg C) w)
    (h : wpList P ops Q rest (a.put o.dst (.agg C)) w) : wpList P ops Q (o :: rest) a w := by
  refine wpList_val (v := .agg C) hgd ?_ h
  unfold execOp
  simp only [ho, hx, Array.map, List.mapM_toArray, List.mapM_cons, List.mapM_nil]
  simp [hb]
end
def nilsA (n : Nat) : Array Value := (List.replicate n (Value.slice none 0 0)).toArray
def tabZ : Array Value := nilsA 257
def tabC (v : Value) : Array Value := (List.replicate 256 (Value.slice none 0 0) ++ [v]).toArray
theorem zero_bsr (w : World) : (zeroValue 147).run Tryz.prog w = .ok (.agg tabZ) w := by kernel_rfl
theorem build_bsr (b n c : Nat) (w : World) : (Instr.build 147 #[(1, .slice (some ⟨b, 0, none⟩) n c)]).run Tryz.prog w = .ok (.agg (tabC (.slice (some ⟨b, 0, none⟩) n c))) w := by kernel_rfl
theorem info_bsr : (Tryz.prog.info? 147).map (·.size) = some 257 := by kernel_rfl
theorem tabC_size (v : Value) : (tabC v).size = 257 := by unfold tabC; rw [List.size_toArray, List.length_append, List.length_replicate]; rfl
theorem tabZ_size : tabZ.size = 257 := by unfold tabZ nilsA; rw [List.size_toArray, List.length_replicate]
theorem tabC_one (b n c : Nat) : (tabC (.slice (some ⟨b, 0, none⟩) n c)).all (·.oneCell') = true := by
  unfold tabC
  refine all_oneCell_toArray fun v hv => ?_
  rw [List.mem_append] at hv
  rcases hv with hv | hv
  · rw [(List.mem_replicate.1 hv).2]; rfl
  · rw [List.mem_singleton.1 hv]; rfl
/-- block g is a table: of the bytes D the replacements lie in it, of the bytes E the names -/
structure TabX (w : World) (B g : Nat) (D E : List UInt8) (C : Array Value) (tv : Value) : Prop where
  hg : w.heap[g]? = some (.cells C 147 (0, 0))
  hB : B ≤ g
  sz : C.size = 257
  at_ : C[256]? = some tv
  own : w.ownsRow B 9 1 tv E.length (E.map fun c => sv [c])
  no : ∀ c : UInt8, c ∉ D → C[c.toNat]? = some (.slice none 0 0)
  yes : ∀ c : UInt8, c ∈ D → ∃ b cap, C[c.toNat]? = some (.slice (some ⟨b, 0, none⟩) 2 cap) ∧ 2 ≤ cap ∧ cap ≤ maxLen ∧ B ≤ b ∧ b ≠ g ∧ tv.ownBlock ≠ some b ∧ w.cell? ⟨b, 0, none⟩ = some (bv 63) ∧ w.cell? ⟨b, 1, none⟩ = some (bv c)
def TabAt (w : World) (B g : Nat) (D E : List UInt8) : Prop := ∃ C tv, TabX w B g D E C tv
theorem TabX.cong {w w' : World} {B g : Nat} {D E : List UInt8} {C : Array Value} {tv : Value} (h : TabX w B g D E C tv) (e : ∀ k, B ≤ k → k < w.heap.size → w'.heap[k]? = w.heap[k]?) : TabX w' B g D E C tv := by
  have hg : g < w.heap.size := (Array.getElem?_eq_some_iff.1 h.hg).1
  refine ⟨(e g h.hB hg).trans h.hg, h.hB, h.sz, h.at_, own_cong h.own (fun k hk => e k (own_lt h.own hk).1 (own_lt h.own hk).2), h.no, fun c hc => ?_⟩
  obtain ⟨b, cap, a1, a2, a2', a3, a4, a5, a6, a7⟩ := h.yes c hc
  have hb := cell_lt' a6
  exact ⟨b, cap, a1, a2, a2', a3, a4, a5, (cell_ag (e b a3 hb)).trans a6, (cell_ag (e b a3 hb)).trans a7⟩
theorem TabX.neg {w : World} {B g : Nat} {D E : List UInt8} {C : Array Value} {tv : Value} (h : TabX w B g D E C tv) : tv.ownBlock ≠ some g := fun hk => by
  obtain ⟨X, hx, _⟩ := own_ty h.own hk
  exact ty_ne hx h.hg (by decide) rfl
theorem TabX.lt {w : World} {B g : Nat} {D E : List UInt8} {C : Array Value} {tv : Value} (h : TabX w B g D E C tv) : g < w.heap.size := (Array.getElem?_eq_some_iff.1 h.hg).1
theorem TabX.cell {w : World} {B g : Nat} {D E : List UInt8} {C : Array Value} {tv : Value} (h : TabX w B g D E C tv) (j : Nat) : w.cell? ⟨g, j, none⟩ = C[j]? := cell_of_row w g j _ _ _ h.hg
theorem TabX.fz {w : World} {B g : Nat} {D E : List UInt8} {C : Array Value} {tv : Value} (h : TabX w B g D E C tv) (j : Nat) : w.frozen? ⟨g, j, none⟩ = false := frozen_of_row w g j _ _ h.hg
/-- a name more -/
theorem TabX.app {w w1 : World} {B g : Nat} {D E : List UInt8} {C : Array Value} {tv tv' : Value} {c : UInt8} (h : TabX w B g D E C tv) (_hs : w.heap.size ≤ w1.heap.size) (hb : ∀ k, k < w.heap.size → tv.ownBlock ≠ some k → w1.heap[k]? = w.heap[k]?)
    (ho : w1.ownsRow B 9 1 tv' (E.length + 1) (E.map (fun c => sv [c]) ++ [sv [c]])) (hk : tv'.ownBlock = tv.ownBlock ∨ ∃ H, tv'.ownBlock = some H ∧ w.heap.size ≤ H) :
    TabX (w1.setCell ⟨g, 256, none⟩ tv') B g D (E ++ [c]) (C.setIfInBounds 256 tv') tv' := by
  have h1 : w1.heap[g]? = some (.cells C 147 (0, 0)) := (hb g h.lt h.neg).trans h.hg
  have ng : tv'.ownBlock ≠ some g := by
    rcases hk with hk | ⟨H, hk, hH⟩
    · rw [hk]; exact h.neg
    · rw [hk]; intro e; have := Option.some.inj e; have := h.lt; omega
  refine ⟨heap_setCell_same w1 g 256 _ _ _ h1, h.hB, by rw [Array.size_setIfInBounds]; exact h.sz, by rw [Array.getElem?_setIfInBounds_self_of_lt (by rw [h.sz]; decide)], ?_, fun x hx => ?_, fun x hx => ?_⟩
  · rw [List.length_append, List.length_singleton, List.map_append, List.map_singleton]
    exact own_cong ho (fun k hk' => heap_setCell_other w1 _ _ _ (fun e => ng (by rw [hk']; exact congrArg some e)))
  · have := x.toNat_lt
    rw [Array.getElem?_setIfInBounds_ne (by omega)]; exact h.no x hx
  · obtain ⟨b, cap, a1, a2, a2', a3, a4, a5, a6, a7⟩ := h.yes x hx
    have hbl := cell_lt' a6
    have := x.toNat_lt
    have e : (w1.setCell ⟨g, 256, none⟩ tv').heap[b]? = w.heap[b]? := (heap_setCell_other w1 _ _ _ a4).trans (hb b hbl a5)
    refine ⟨b, cap, by rw [Array.getElem?_setIfInBounds_ne (by omega)]; exact a1, a2, a2', a3, a4, ?_, (cell_ag e).trans a6, (cell_ag e).trans a7⟩
    rcases hk with hk | ⟨H, hk, hH⟩
    · rw [hk]; exact a5
    · rw [hk]; intro e; have := Option.some.inj e; omega
/-- a replacement more -/
theorem TabX.put {w w1 : World} {B g nb cap : Nat} {D E : List UInt8} {C : Array Value} {tv : Value} {c : UInt8} (h : TabX w B g D E C tv) (hb : ∀ k, k < w.heap.size → w1.heap[k]? = w.heap[k]?) (hnb : nb = w.heap.size) (hBw : B ≤ w.heap.size)
    (hc0 : w1.cell? ⟨nb, 0, none⟩ = some (bv 63)) (hc1 : w1.cell? ⟨nb, 1, none⟩ = some (bv c)) (h2 : 2 ≤ cap) (hm : cap ≤ maxLen) :
    TabX (w1.setCell ⟨g, c.toNat, none⟩ (.slice (some ⟨nb, 0, none⟩) 2 cap)) B g (D ++ [c]) E (C.setIfInBounds c.toNat (.slice (some ⟨nb, 0, none⟩) 2 cap)) tv := by
  have hcl := c.toNat_lt
  have hgl := h.lt
  have h1 : w1.heap[g]? = some (.cells C 147 (0, 0)) := (hb g hgl).trans h.hg
  have hne : nb ≠ g := by omega
  have en : (w1.setCell ⟨g, c.toNat, none⟩ (.slice (some ⟨nb, 0, none⟩) 2 cap)).heap[nb]? = w1.heap[nb]? := heap_setCell_other w1 _ _ _ hne
  have ht : ∀ k, tv.ownBlock = some k → k < w.heap.size ∧ k ≠ g := fun k hk => ⟨(own_lt h.own hk).2, fun e => h.neg (e ▸ hk)⟩
  refine ⟨heap_setCell_same w1 g _ _ _ _ h1, h.hB, by rw [Array.size_setIfInBounds]; exact h.sz, by rw [Array.getElem?_setIfInBounds_ne (by omega)]; exact h.at_, own_cong h.own (fun k hk => (heap_setCell_other w1 _ _ _ (ht k hk).2).trans (hb k (ht k hk).1)), fun x hx => ?_, fun x hx => ?_⟩
  · rw [List.mem_append, List.mem_singleton, not_or] at hx
    have hn : c.toNat ≠ x.toNat := fun e => hx.2 (UInt8.toNat_inj.1 e.symm)
    rw [Array.getElem?_setIfInBounds_ne hn]; exact h.no x hx.1
  · by_cases hxc : x = c
    · subst hxc
      exact ⟨nb, cap, by rw [Array.getElem?_setIfInBounds_self_of_lt (by rw [h.sz]; omega)], h2, hm, by omega, hne, fun e => by have := (ht nb e).1; omega, (cell_ag en).trans hc0, (cell_ag en).trans hc1⟩
    · have hx' : x ∈ D := by
        rw [List.mem_append, List.mem_singleton] at hx
        exact hx.resolve_right hxc
      have hn : c.toNat ≠ x.toNat := fun e => hxc (UInt8.toNat_inj.1 e.symm)
      obtain ⟨b, cap', a1, a2, a2', a3, a4, a5, a6, a7⟩ := h.yes x hx'
      have e := (heap_setCell_other w1 ⟨g, c.toNat, none⟩ b (.slice (some ⟨nb, 0, none⟩) 2 cap) a4).trans (hb b (cell_lt' a6))
      exact ⟨b, cap', by rw [Array.getElem?_setIfInBounds_ne hn]; exact a1, a2, a2', a3, a4, a5, (cell_ag e).trans a6, (cell_ag e).trans a7⟩
end Go.Proofs.YteaaiejfieaalaaGreatDoor

/-
  EdiY3: contract of (*Replacer).build at the four signs. No condition beyond those stated.
-/
namespace Go.Proofs.YteaaiejfieaalaaGreatDoor
open Go.RowKit
/-- the signs, in the order in which NewReplacer is given them -/
def sg (j : Nat) : UInt8 := [43, 58, 39, 63].getD j 0
def OldAt (w : World) (ob : Nat) : Prop := ∀ j, j < 4 → w.cell? ⟨ob, 2 * j, none⟩ = some (sv [sg j]) ∧ w.cell? ⟨ob, 2 * j + 1, none⟩ = some (sv [63, sg j])
theorem made4 (w : World) : (Instr.makeSlice 53 (.int .i64 0) (.int .i64 4)).run Tryz.prog w = .ok (.slice (some ⟨w.heap.size, 0, none⟩) 0 4) (w.alloc (.cells #[.string ⟨#[]⟩, .string ⟨#[]⟩, .string ⟨#[]⟩, .string ⟨#[]⟩] 9)) := by kernel_rfl
/-- a Replacer -/
def RepAt (w : World) (rb : Nat) (d s : Int) (r o : Value) : Prop := w.heap[rb]? = some (.cells #[.int .u32 d, .int .i32 s, .int .u32 0, r, o] 108 (0, 0))
def DE (j : Nat) : List UInt8 := [63, 39, 58, 43].take (4 - j)
theorem tab_new (w : World) (B : Nat) (hB : w.heap.size = B) : TabAt ((w.alloc (.cells #[.string ⟨#[]⟩, .string ⟨#[]⟩, .string ⟨#[]⟩, .string ⟨#[]⟩] 9)).alloc (.cells (tabC (.slice (some ⟨B, 0, none⟩) 0 4)) 147)) B (B + 1) [] [] := by
  subst hB
  have h0 : ((w.alloc (.cells #[.string ⟨#[]⟩, .string ⟨#[]⟩, .string ⟨#[]⟩, .string ⟨#[]⟩] 9)).alloc (.cells (tabC (.slice (some ⟨w.heap.size, 0, none⟩) 0 4)) 147)).heap[w.heap.size]? = some (.cells #[.string ⟨#[]⟩, .string ⟨#[]⟩, .string ⟨#[]⟩, .string ⟨#[]⟩] 9 (0, 0)) := by
    rw [Below.heap_alloc _ _ _ (by rw [World.size_alloc]; omega)]; exact heap_alloc_new w _
  have h1 : ((w.alloc (.cells #[.string ⟨#[]⟩, .string ⟨#[]⟩, .string ⟨#[]⟩, .string ⟨#[]⟩] 9)).alloc (.cells (tabC (.slice (some ⟨w.heap.size, 0, none⟩) 0 4)) 147)).heap[w.heap.size + 1]? = some (.cells (tabC (.slice (some ⟨w.heap.size, 0, none⟩) 0 4)) 147 (0, 0)) := by
    have := heap_alloc_new (w.alloc (.cells #[.string ⟨#[]⟩, .string ⟨#[]⟩, .string ⟨#[]⟩, .string ⟨#[]⟩] 9)) (.cells (tabC (.slice (some ⟨w.heap.size, 0, none⟩) 0 4)) 147)
    rw [World.size_alloc] at this
    exact this
  refine ⟨_, .slice (some ⟨w.heap.size, 0, none⟩) 0 4, h1, by omega, tabC_size _, ?_, ⟨rfl, .inr ⟨w.heap.size, 4, _, rfl, Nat.le_refl _, h0, by decide, by decide, rfl, rfl⟩⟩, fun c _ => ?_, fun c h => by simp at h⟩
  · unfold tabC; rw [List.getElem?_toArray, List.getElem?_append_right (by rw [List.length_replicate]; omega), List.length_replicate]; rfl
  · have hc := c.toNat_lt
    unfold tabC; rw [List.getElem?_toArray, List.getElem?_append_left (by rw [List.length_replicate]; omega), List.getElem?_replicate, if_pos (by omega)]
theorem conv_oneR (w : World) (c : UInt8) (cn : Nat) (h : c.toNat = cn) : (convert 39 9 (.slice (some ⟨w.heap.size, 0, none⟩) 1 1)).run Tryz.prog (w.alloc (.cells #[.int .u8 cn] 5)) = .ok (.string ⟨#[c]⟩) (w.alloc (.cells #[.int .u8 cn] 5)) := by
  subst h
  exact run_convert_bytes_back (P := Tryz.prog) _ 39 9 5 ⟨w.heap.size, 0, none⟩ 1 [c] Tryz.underlying39 Tryz.underlying5 Tryz.underlying9 (fun j hj => by
    have : j = 0 := by simpa using hj
    subst this
    exact cell_one_new w (.int .u8 (c.toNat : Int)) 5 0 _ rfl)
theorem DE_len (j : Nat) (h : j ≤ 4) : (DE j).length ≤ 4 := by unfold DE; rw [List.length_take]; omega
theorem DE_pred (j : Nat) (h : j ≠ 0) (h4 : j ≤ 4) : DE (j - 1) = DE j ++ [sg (j - 1)] := by
  match j, h, h4 with
  | 1, _, _ => rfl
  | 2, _, _ => rfl
  | 3, _, _ => rfl
  | 4, _, _ => rfl
theorem sg_notin (j : Nat) (h : j ≠ 0) (h4 : j ≤ 4) : sg (j - 1) ∉ DE j := by
  match j, h, h4 with
  | 1, _, _ => decide
  | 2, _, _ => decide
  | 3, _, _ => decide
  | 4, _, _ => decide
set_option maxRecDepth 100000 in
set_option maxHeartbeats 4000000 in
theorem build_any (w : World) (rb ob cap : Nat) (d s : Int) (r : Value) (hR : RepAt w rb d s r (.slice (some ⟨ob, 0, none⟩) 8 cap)) (hO : OldAt w ob) (_hcap : 8 ≤ cap) (_hc2 : cap ≤ maxLen) :
    Calls Tryz.prog 63 #[.pointer (some ⟨rb, 0, none⟩)] w fun e w' => ∃ g, e = .returned (.iface 148 (.pointer (some ⟨g, 0, none⟩))) ∧ TabAt w' w.heap.size g (DE 0) (DE 0) ∧ Below w.heap.size w w' := by
  unfold maxLen at _hc2
  have HR := Lib.hid hR
  have hmk := made4
  have hnl := fun (w : World) (a : Option Addr) (n c n' c' : Nat) => Lib.run_eql_slice_nil (P := Tryz.prog) w 39 5 a n c n' c' Tryz.underlying39
  obtain ⟨i0, hi, hz0, hz1, hz2⟩ := info_parts einfo_str
  have HI := Lib.hid hi
  have HZ0 := Lib.hid hz0
  have HZ1 := Lib.hid hz1
  have HZ2 := Lib.hid hz2
  clear hi hz0 hz1 hz2
  have HO := Lib.hid hO
  have cr : w.cell? ⟨rb, 4, none⟩ = some (.slice (some ⟨ob, 0, none⟩) 8 cap) := by rw [cell_of_row w rb 4 _ _ _ hR]; rfl
  clear hR hO
  go_enter Tryz.func63, Tryz.ntmps63
  go_wp2_with fail
  go_loop [5, 4] (fun i al => ∃ m k : Nat, k ≤ 4 ∧ i = .int .i64 (m : Int) ∧ Hid (m = 2 * k) ∧ al = .bool (decide (k = 0))) (fun i _ => 8 - (intOf i).toNat)
  case atStart => exact ⟨0, 0, by omega, rfl, Lib.hid rfl, rfl⟩
  case round =>
    obtain ⟨m, k, hk, rfl, hm, rfl⟩ := hrel
    by_cases h4 : k < 4
    · have hm8 : m < 8 := by have := hm.out; omega
      obtain ⟨c1, c2⟩ := HO.out k h4
      rw [← hm.out] at c1 c2
      unfold sv at c1 c2
      have b1 : (0 : Int) ≤ m := by omega
      have b2 : (m : Int) < 8 := by omega
      have b3 : (m : Int) + 1 < 8 := by have := hm.out; omega
      go_wp2_with fail
      go_round
      case rel => exact ⟨m + 2, k + 1, by omega, by go_num, Lib.hid (by have := hm.out; omega), by simp⟩
      case measure => simp [intOf]; omega
    · obtain rfl : k = 4 := by omega
      obtain rfl : m = 8 := by have := hm.out; omega
      go_upto_region 26 with fail
      go_wp2_with first
        | ((with_reducible refine wpList_at (.build 147 #[(1, .tmp 94)]) rfl ?_); go_loud (refine wpList_buildZ rfl 147 1 (.tmp 94) rfl _ _ rfl (build_bsr _ _ _) ?_))
        | ((with_reducible refine wpList_at (.alloc 147) rfl ?_); go_loud (refine wpList_allocZ rfl 147 rfl tabZ zero_bsr ?_))
        | ((with_reducible refine wpList_at (.store 147 (.tmp 11) (.tmp 95)) rfl ?_); go_loud (refine wpList_storeZ rfl 147 _ _ rfl tabZ (tabC (.slice (some ⟨w.heap.size, 0, none⟩) 0 4)) _ rfl rfl rfl (by rw [tabC_size]; exact info_bsr) (by rw [tabZ_size, tabC_size]) (tabC_one _ _ _) ?_))
      obtain ⟨B, hB⟩ : ∃ B, w.heap.size = B := ⟨_, rfl⟩
      rw [hB]
      obtain ⟨w1, hw1⟩ : ∃ w1, ((w.alloc (.cells #[.string ⟨#[]⟩, .string ⟨#[]⟩, .string ⟨#[]⟩, .string ⟨#[]⟩] 9)).alloc (.cells (tabC (.slice (some ⟨B, 0, none⟩) 0 4)) 147)) = w1 := ⟨_, rfl⟩
      rw [hw1]
      have HT := Lib.hid (show TabAt w1 B (B + 1) [] [] by rw [← hw1]; exact tab_new w B hB)
      have HF := Lib.hid (show Below B w w1 by rw [← hw1, ← hB]; exact ((Below.refl _ w).alloc (Nat.le_refl _) _).alloc (by simp) _)
      clear hw1
      go_loopw [12] (fun i wr => ∃ (n : Int) (j : Nat), j ≤ 4 ∧ i = .int .i64 n ∧ Hid (n = 2 * (j : Int) - 2) ∧ Hid (TabAt wr B (B + 1) (DE j) (DE j)) ∧ Hid (Below B w wr)) (fun i _ => (intOf i + 2).toNat)
      case atStart => exact ⟨6, 4, by omega, rfl, Lib.hid rfl, HT, HF⟩
      case round =>
        obtain ⟨n, j, hj, rfl, hn, HT', HF'⟩ := hrel
        by_cases h0 : j = 0
        · subst h0
          have hn' : n = -2 := by rw [hn.out]; rfl
          subst hn'
          go_wp2_with fail
          go_ret
          exact ⟨_, rfl, by rw [hB]; exact HT'.out, by rw [hB]; exact HF'.out⟩
        · obtain ⟨m, hm⟩ : ∃ m : Nat, n = (m : Int) := ⟨(n.toNat), by have := hn.out; omega⟩
          subst hm
          have hmj : m = 2 * (j - 1) := by have := hn.out; omega
          obtain ⟨c, hc⟩ : ∃ c, sg (j - 1) = c := ⟨_, rfl⟩
          obtain ⟨c1, c2⟩ := HO.out (j - 1) (by omega)
          rw [← hmj, hc] at c1 c2
          have hob : ob < B := by rw [← hB]; exact cell_lt' c1
          have e1 := (HF'.out.cell (p := ⟨ob, m, none⟩) hob).trans c1
          have e2 := (HF'.out.cell (p := ⟨ob, m + 1, none⟩) hob).trans c2
          unfold sv at e1 e2
          clear c1 c2
          have b1 : (0 : Int) ≤ m := by omega
          have b2 : (m : Int) < 8 := by omega
          have b3 : (m : Int) + 1 < 8 := by omega
          have hcd : c ∉ DE j := by rw [← hc]; exact sg_notin j (by omega) hj
          have hcn := c.toNat_lt
          obtain ⟨C, tv, hX⟩ := HT'.out
          have k1 := (hX.cell c.toNat).trans (hX.no c hcd)
          have z1 := hX.fz c.toNat
          have k2 := (hX.cell 256).trans hX.at_
          have z2 := hX.fz 256
          obtain ⟨cn, hcn'⟩ : ∃ cn, c.toNat = cn := ⟨_, rfl⟩
          have HCN := Lib.hid hcn'
          rw [hcn'] at k1 z1 hcn
          have hq : ((⟨#[c]⟩ : ByteArray)[0]'(Nat.zero_lt_one)).toNat = cn := hcn'
          have b4 : (0 : Int) ≤ cn := by omega
          have b5 : (cn : Int) < 256 := by omega
          have HX := Lib.hid hX
          have HC := Lib.hid hc
          have HMJ := Lib.hid hmj
          clear hX hc hcd hmj hcn'
          have hgl := HX.out.lt
          have hBw : B ≤ wr.heap.size := by omega
          have hcv : (convert 39 9 (.slice (some ⟨wr.heap.size, 0, none⟩) 1 1)).run Tryz.prog (wr.alloc (.cells #[.int .u8 cn] 5)) = .ok (.string ⟨#[c]⟩) (wr.alloc (.cells #[.int .u8 cn] 5)) := conv_oneR wr c cn HCN.out
          have hown := HX.out.own
          have hng := HX.out.neg
          have HOWN := Lib.hid hown
          have HNG := Lib.hid hng
          have HEL := Lib.hid (DE_len j hj)
          clear hown hng
          go_upto_region 34 with ((with_reducible refine wpList_at (.call { callee := .builtin .append, args := #[.tmp 119, .tmp 123], argTypes := #[53, 53] }) rfl ?_); go_loud (refine wpList_append_own_at _ rfl _ _ 53 rfl B 9 i0 (.string ⟨#[]⟩) 1 16 Tryz.underlying53 HI.out HZ0.out HZ1.out HZ2.out rfl (by decide) _ _ _ rfl ((HOWN.out.alloc _).alloc _) ⟨wr.heap.size + 1, 0, none⟩ 1 1 [.string ⟨#[c]⟩] rfl rfl (cell_one_new2 _ _ _ _) (by simp [Value.oneCell']) (by have := HEL.out; unfold maxLen; omega) (by have := HEL.out; omega) (by simp; omega) ?_); intro tv' w1 ho' hg' _ hk'; have HG1 : Hid (((wr.alloc (.cells #[.int .u8 cn] 5)).alloc (.cells #[.string ⟨#[c]⟩] 9)).grownBy w1 tv.ownBlock) := hg'; have HK1 : Hid (tv'.ownBlock = tv.ownBlock ∨ tv'.ownBlock = some (wr.heap.size + 2)) := Lib.hid (by rcases hk' with h | h; exact .inl h; (right; rw [h]; simp)); have hea := blk_ag2 HG1.out hgl HNG.out; have k2' := (cell_ag hea).trans k2; have z2' := (fz_ag hea).trans z2; have hs1 := hg'.size; simp at hs1; have HO1 := Lib.hid ho'; obtain ⟨tg, tc, _, rfl, _⟩ := own_form ho' (by omega) (by omega); clear ho' hg' hk' hea)
          obtain ⟨wq, hwq⟩ : ∃ wq, w1.setCell ⟨B + 1, 256, none⟩ (.slice (some ⟨tg, 0, none⟩) ((DE j).length + 1) tc) = wq := ⟨_, rfl⟩
          have HXQ := Lib.hid (show TabX wq B (B + 1) (DE j) (DE j ++ [c]) _ _ by rw [← hwq]; exact HX.out.app (by omega) (fun k hk hn => blk_ag2 HG1.out hk hn) HO1.out (by rcases HK1.out with h | h; exact .inl h; exact .inr ⟨_, h, by omega⟩))
          have HFQ := Lib.hid (show Below B wr wq by rw [← hwq]; exact ((((Below.refl B wr).alloc hBw _).alloc (by simp; omega) _).grown HG1.out (by simp; omega) (fun k hk => (own_lt HOWN.out hk).1)).setCell (by simp) _)
          have HF2 := Lib.hid (HF'.out.trans HFQ.out)
          rw [hwq]
          have hsq := HFQ.out.size
          clear k1 z1 k2 z2 k2' z2' e1 e2 hcv hwq HG1 HK1 HO1 hs1
          have hgq := HXQ.out.lt
          have hcl := (HXQ.out.cell c.toNat).trans (HXQ.out.no c (by rw [← HC.out]; exact sg_notin j (by omega) hj))
          have hzl := HXQ.out.fz c.toNat
          rw [HCN.out] at hcl hzl
          obtain ⟨wb, hwb⟩ : ∃ wb, Lib.bytesWorld wq 5 ⟨#[63, c]⟩ = wb := ⟨_, rfl⟩
          have hcb := Lib.run_convert_string_bytes (P := Tryz.prog) wq 9 39 5 ⟨#[63, c]⟩ Tryz.underlying9 Tryz.underlying39 Tryz.underlying5
          have hs2 : (⟨#[63, c]⟩ : ByteArray).size = 2 := rfl
          have hca := grownCap_ge wq 2 0 5
          have hcm := grownCap_le_maxLen wq 2 0 5 (by unfold maxLen; omega)
          rw [hwb, hs2] at hcb
          obtain ⟨cp, hcp⟩ : ∃ cp, grownCap wq 2 0 5 = cp := ⟨_, rfl⟩
          rw [hcp] at hcb hca hcm
          have hol : ∀ k, k < wq.heap.size → wb.heap[k]? = wq.heap[k]? := fun k hk => by rw [← hwb]; exact Lib.bytesWorld_at_old _ _ _ _ hk
          have hwbs : wb.heap.size = wq.heap.size + 1 := by rw [← hwb]; exact Lib.bytesWorld_size _ _ _
          have k3 := (cell_ag (hol (B + 1) hgq)).trans hcl
          have z3 := (fz_ag (hol (B + 1) hgq)).trans hzl
          have HFB := Lib.hid (show Below B wq wb from ⟨by rw [← hwb]; rfl, by rw [← hwb]; rfl, by rw [← hwb]; rfl, by omega, fun k hk => hol k (by omega)⟩)
          have HB0 := Lib.hid (show wb.cell? ⟨wq.heap.size, 0, none⟩ = some (bv 63) by rw [← hwb]; exact Lib.bytesWorld_cell wq 5 ⟨#[63, c]⟩ 0 (Nat.zero_lt_succ _))
          have HB1 := Lib.hid (show wb.cell? ⟨wq.heap.size, 1, none⟩ = some (bv c) by rw [← hwb]; exact Lib.bytesWorld_cell wq 5 ⟨#[63, c]⟩ 1 (Nat.lt_succ_self _))
          have HOL := Lib.hid hol
          have HWBS := Lib.hid hwbs
          clear hwb hcp hol hcl hzl hs2
          go_wp2_with fail
          go_roundw
          case rel =>
            have hmj := HMJ.out
            have e := DE_pred j h0 hj
            rw [HC.out] at e
            have hp := HXQ.out.put (c := c) HOL.out rfl (by omega) HB0.out HB1.out hca hcm
            rw [HCN.out, ← e] at hp
            exact ⟨(m : Int) - 2, j - 1, by omega, rfl, Lib.hid (by omega), Lib.hid ⟨_, _, hp⟩, Lib.hid ((HF2.out.trans HFB.out).setCell (by simp) _)⟩
          case measure => simp only [intOf]; omega
end Go.Proofs.YteaaiejfieaalaaGreatDoor

/-
  EdiY4: contracts of NewReplacer and of a Replacer's first use. No condition beyond those stated.
-/
namespace Go.Proofs.YteaaiejfieaalaaGreatDoor
open Go.RowKit
theorem RepAt.cell {w : World} {rb : Nat} {d s : Int} {r o : Value} (h : RepAt w rb d s r o) (j : Nat) : w.cell? ⟨rb, j, none⟩ = (#[.int .u32 d, .int .i32 s, .int .u32 0, r, o] : Array Value)[j]? := cell_of_row w rb j _ _ _ h
theorem RepAt.fz {w : World} {rb : Nat} {d s : Int} {r o : Value} (h : RepAt w rb d s r o) (j : Nat) : w.frozen? ⟨rb, j, none⟩ = false := frozen_of_row w rb j _ _ h
theorem RepAt.lt {w : World} {rb : Nat} {d s : Int} {r o : Value} (h : RepAt w rb d s r o) : rb < w.heap.size := (Array.getElem?_eq_some_iff.1 h).1
theorem RepAt.set0 {w : World} {rb : Nat} {d s d' : Int} {r o : Value} (h : RepAt w rb d s r o) : RepAt (w.setCell ⟨rb, 0, none⟩ (.int .u32 d')) rb d' s r o := heap_setCell_same w rb 0 _ _ _ h
theorem RepAt.set1 {w : World} {rb : Nat} {d s s' : Int} {r o : Value} (h : RepAt w rb d s r o) : RepAt (w.setCell ⟨rb, 1, none⟩ (.int .i32 s')) rb d s' r o := heap_setCell_same w rb 1 _ _ _ h
theorem RepAt.set3 {w : World} {rb : Nat} {d s : Int} {r r' o : Value} (h : RepAt w rb d s r o) : RepAt (w.setCell ⟨rb, 3, none⟩ r') rb d s r' o := heap_setCell_same w rb 3 _ _ _ h
theorem RepAt.set4 {w : World} {rb : Nat} {d s : Int} {r o o' : Value} (h : RepAt w rb d s r o) : RepAt (w.setCell ⟨rb, 4, none⟩ o') rb d s r o' := heap_setCell_same w rb 4 _ _ _ h
theorem RepAt.cong {w w' : World} {rb : Nat} {d s : Int} {r o : Value} (h : RepAt w rb d s r o) (e : w'.heap[rb]? = w.heap[rb]?) : RepAt w' rb d s r o := e.trans h
theorem TabAt.cong {w w' : World} {B g : Nat} {D E : List UInt8} (h : TabAt w B g D E) (e : ∀ k, B ≤ k → k < w.heap.size → w'.heap[k]? = w.heap[k]?) : TabAt w' B g D E := by
  obtain ⟨C, tv, h⟩ := h; exact ⟨C, tv, h.cong e⟩
theorem OldAt.cong {w w' : World} {ob : Nat} (h : OldAt w ob) (e : w'.heap[ob]? = w.heap[ob]?) : OldAt w' ob := fun j hj => ⟨(cell_ag e).trans (h j hj).1, (cell_ag e).trans (h j hj).2⟩
def repV (g : Nat) : Value := .iface 148 (.pointer (some ⟨g, 0, none⟩))
set_option maxRecDepth 100000 in
theorem buildOnce_any (w : World) (rb ob cap : Nat) (d s : Int) (r : Value) (hR : RepAt w rb d s r (.slice (some ⟨ob, 0, none⟩) 8 cap)) (hO : OldAt w ob) (hcap : 8 ≤ cap) (hc2 : cap ≤ maxLen) :
    Calls Tryz.prog 52 #[.pointer (some ⟨rb, 0, none⟩)] w fun e w' => e = .returned (.tuple #[]) ∧ (∃ g, RepAt w' rb d s (repV g) (.slice none 0 0) ∧ TabAt w' w.heap.size g (DE 0) (DE 0)) ∧ Fr [rb] w w' := by
  have HB := Lib.hid (build_any w rb ob cap d s r hR hO hcap hc2)
  have HR := Lib.hid hR
  clear hR hO hc2
  go_enter Tryz.func52, Tryz.ntmps52
  go_wp2_with (go_at_call 63; refine HB.out.mono ?_; rintro e w1 ⟨g, rfl, ht, hb⟩; have HT := Lib.hid ht; have HBE := Lib.hid hb; have hR1 := HR.out.cong (hb.block rb HR.out.lt); have z3 := hR1.fz 3; have c3 := hR1.cell 3; have hR2 := hR1.set3 (r' := repV g); have z4 := hR2.fz 4; have c4 := hR2.cell 4; have HR2 := Lib.hid (hR2.set4 (o' := .slice none 0 0)); unfold repV at *; clear ht hb hR1 hR2)
  go_end0
  refine ⟨rfl, ⟨g, HR2.out, HT.out.cong (fun k h1 h2 => ?_)⟩, ?_⟩
  · have : k ≠ rb := by have := HR.out.lt; omega
    rw [heap_setCell_other _ _ _ _ this, heap_setCell_other _ _ _ _ this]
  · exact ((Below.fr HBE.out (Nat.le_refl _) [rb]).trans (Fr.setCell _ (by simp) _)).trans (Fr.setCell _ (by simp) _)
set_option maxRecDepth 100000 in
set_option maxHeartbeats 1600000 in
theorem doSlow_any (w : World) (rb ob cap : Nat) (r : Value) (hR : RepAt w rb 0 0 r (.slice (some ⟨ob, 0, none⟩) 8 cap)) (hO : OldAt w ob) (hne : ob ≠ rb) (hcap : 8 ≤ cap) (hc2 : cap ≤ maxLen) :
    Calls Tryz.prog 62 #[.pointer (some ⟨rb, 0, none⟩), .func (.func 52) #[.pointer (some ⟨rb, 0, none⟩)] #[]] w fun e w' => e = .returned (.tuple #[]) ∧ (∃ g, RepAt w' rb 1 0 (repV g) (.slice none 0 0) ∧ TabAt w' w.heap.size g (DE 0) (DE 0)) ∧ Fr [rb] w w' := by
  have c1 := hR.cell 1
  have z1 := hR.fz 1
  have hrb := hR.lt
  have hR1 := hR.set1 (s' := 1)
  have hO1 : OldAt (w.setCell ⟨rb, 1, none⟩ (.int .i32 1)) ob := hO.cong (heap_setCell_other _ _ _ _ hne)
  have HB := Lib.hid (buildOnce_any _ rb ob cap 0 1 r hR1 hO1 hcap hc2)
  have HA := Lib.hid (aload ⟨rb, 0, none⟩ 0 (w.setCell ⟨rb, 1, none⟩ (.int .i32 1)) (hR1.cell 0))
  have HL := Lib.hid (lock_free ⟨rb, 1, none⟩ w c1 z1)
  have hnot : ∀ (x : Bool) (w : World), (Op.unary .not (.bool x)).run Tryz.prog w = .ok (.bool (!x)) w := fun _ _ => rfl
  clear hR hO hR1 hO1 hc2 c1 z1
  go_enter_defers Tryz.func62, Tryz.ntmps62
  go_wp2_with first
    | (go_at_call 78; refine HL.out.mono ?_; rintro e w' ⟨rfl, rfl⟩)
    | (go_at_call 61; refine HA.out.mono ?_; rintro e w' ⟨rfl, rfl⟩)
    | (go_at_call 52; refine HB.out.mono ?_; rintro e w2 ⟨rfl, ⟨g, hr, ht⟩, hf⟩; have HR2 := Lib.hid hr; have HT := Lib.hid ht; have HF := Lib.hid hf; clear hr ht hf)
  have hrs0 := (HR2.out.cong (w' := w2.drew) rfl).set0 (d' := 1)
  have c0 := HR2.out.cell 0
  have z0 := HR2.out.fz 0
  have c1 := hrs0.cell 1
  have z1 := hrs0.fz 1
  refine leaves_cons (f := 80) (args := #[.pointer (some ⟨rb, 0, none⟩), .bool true]) (by simp) (by simp [go_sem]) ?_
  refine (store_deferred ⟨rb, 0, none⟩ (.int .u32 0) .returning _ c0 z0).mono ?_
  rintro e u' w'' ⟨rfl, rfl, rfl⟩
  refine leaves_cons (f := 79) (args := #[.pointer (some ⟨rb, 1, none⟩)]) (by simp [settle]) (by simp [go_sem]) ?_
  refine (unlock_deferred ⟨rb, 1, none⟩ _ _ c1 z1).mono ?_
  rintro e u' w'' ⟨rfl, rfl, rfl⟩
  have hfin := hrs0.set1 (s' := 0)
  have hT := HT.out
  rw [World.size_setCell] at hT
  have hTT : TabAt (((w2.drew.setCell ⟨rb, 0, none⟩ (.int .u32 1))).setCell ⟨rb, 1, none⟩ (.int .i32 0)) w.heap.size g (DE 0) (DE 0) := hT.cong (fun k h1 h2 => by
    have hk : k ≠ rb := by omega
    exact (heap_setCell_other _ _ _ _ hk).trans (heap_setCell_other _ _ _ _ hk))
  have hFF : Fr [rb] w (((w2.drew.setCell ⟨rb, 0, none⟩ (.int .u32 1))).setCell ⟨rb, 1, none⟩ (.int .i32 0)) := ((((Fr.setCell w (a := ⟨rb, 1, none⟩) (F := [rb]) (by simp) _).trans HF.out).trans (Fr.drew _ _)).trans (Fr.setCell _ (by simp) _)).trans (Fr.setCell _ (by simp) _)
  simp [Leaves, settle, results, Tryz.results62]
  exact ⟨⟨g, hfin, hTT⟩, hFF⟩
set_option maxRecDepth 100000 in
theorem do_any (w : World) (rb ob cap : Nat) (r : Value) (hR : RepAt w rb 0 0 r (.slice (some ⟨ob, 0, none⟩) 8 cap)) (hO : OldAt w ob) (hne : ob ≠ rb) (hcap : 8 ≤ cap) (hc2 : cap ≤ maxLen) :
    Calls Tryz.prog 51 #[.pointer (some ⟨rb, 0, none⟩), .func (.func 52) #[.pointer (some ⟨rb, 0, none⟩)] #[]] w fun e w' => e = .returned (.tuple #[]) ∧ (∃ g, RepAt w' rb 1 0 (repV g) (.slice none 0 0) ∧ TabAt w' w.heap.size g (DE 0) (DE 0)) ∧ Fr [rb] w w' := by
  have HA := Lib.hid (aload ⟨rb, 0, none⟩ 0 w (hR.cell 0))
  have HS := Lib.hid (doSlow_any w rb ob cap r hR hO hne hcap hc2)
  have hnot : ∀ (x : Bool) (w : World), (Op.unary .not (.bool x)).run Tryz.prog w = .ok (.bool (!x)) w := fun _ _ => rfl
  clear hR hO hc2
  go_enter Tryz.func51, Tryz.ntmps51
  go_wp2_with first
    | (go_at_call 61; refine HA.out.mono ?_; rintro e w' ⟨rfl, rfl⟩)
    | (go_at_call 62; refine HS.out.mono ?_; rintro e w2 ⟨rfl, hr, hf⟩; have HR2 := Lib.hid hr; have HF := Lib.hid hf; clear hr hf)
  go_end0
  exact ⟨rfl, HR2.out, HF.out⟩
/-- the eight strings that NewReplacer is given -/
def oldL : List Value := [sv [43], sv [63, 43], sv [58], sv [63, 58], sv [39], sv [63, 39], sv [63], sv [63, 63]]
set_option maxRecDepth 100000 in
theorem newRepl_any (w : World) (ab : Nat) (ha : w.heap[ab]? = some (.cells oldL.toArray 9 (0, 0))) :
    Calls Tryz.prog 37 #[.slice (some ⟨ab, 0, none⟩) 8 8] w fun e w' => ∃ rb ob cap, e = .returned (.pointer (some ⟨rb, 0, none⟩)) ∧ RepAt w' rb 0 0 .nilIface (.slice (some ⟨ob, 0, none⟩) 8 cap) ∧ OldAt w' ob ∧ ob ≠ rb ∧ 8 ≤ cap ∧ cap ≤ maxLen ∧ w.heap.size ≤ rb ∧ Below w.heap.size w w' := by
  obtain ⟨i0, hi, hz0, hz1, hz2⟩ := info_parts einfo_str
  have HI := Lib.hid hi
  have HZ0 := Lib.hid hz0
  have HZ1 := Lib.hid hz1
  have HZ2 := Lib.hid hz2
  have HA := Lib.hid (show ∀ j v, oldL[j]? = some v → w.cell? ((⟨ab, 0, none⟩ : Addr).add j) = some v from fun j v hv => by
    rw [Addr.add_mid, Nat.zero_add, cell_of_row w ab j _ _ _ ha, List.getElem?_toArray]; exact hv)
  have HO := Lib.hid (show ∀ v ∈ oldL, v.oneCell' = true from fun v hv => by simp only [oldL, List.mem_cons, List.not_mem_nil, or_false] at hv; rcases hv with rfl | rfl | rfl | rfl | rfl | rfl | rfl | rfl <;> rfl)
  clear hi hz0 hz1 hz2 ha
  go_enter Tryz.func37, Tryz.ntmps37
  go_wp2_with ((with_reducible refine wpList_at (.call { callee := .builtin .append, args := #[.const (.slice none 0 0), .tmp 8], argTypes := #[53, 53] }) rfl ?_); go_loud (refine wpList_append_own_at _ rfl _ _ 53 rfl w.heap.size 9 i0 (.string ⟨#[]⟩) 1 16 Tryz.underlying53 HI.out HZ0.out HZ1.out HZ2.out rfl (by decide) _ _ _ rfl (World.ownsRow_nil _ _ _ _) ⟨ab, 0, none⟩ 8 8 oldL rfl rfl HA.out HO.out (by unfold maxLen; omega) (by omega) (Nat.le_refl _) ?_); intro v w1 ho hg _ hk; have HOW := Lib.hid ho; have HG := Lib.hid hg; obtain ⟨ob, cap, cur, rfl, hob, hcells, hcp1, hcp2, _⟩ := own_form ho (by omega) (by omega); have HCE := Lib.hid hcells; have HC2 := Lib.hid hcp2; clear ho hg hk hcells hcp2)
  go_ret
  have hlt : ob < w1.heap.size := (Array.getElem?_eq_some_iff.1 HCE.out).1
  have hbel : Below w.heap.size w w1 := (Below.refl _ w).grown HG.out (Nat.le_refl _) (fun k hk => by simp [Act.eval, Value.ownBlock] at hk)
  refine ⟨w1.heap.size, ob, cap, rfl, heap_alloc_new _ _, fun j hj => ?_, by omega, by omega, HC2.out, hbel.size, hbel.alloc hbel.size _⟩
  have hc : ∀ i x, oldL[i]? = some x → (w1.alloc (.cells #[.int .u32 0, .int .i32 0, .int .u32 0, .nilIface, .slice (some ⟨ob, 0, none⟩) 8 cap] 108)).cell? ⟨ob, i, none⟩ = some x := fun i x hx => (cell_ag (Below.heap_alloc _ _ _ hlt)).trans (own_cell HOW.out hx)
  match j, hj with
  | 0, _ => exact ⟨hc 0 _ rfl, hc 1 _ rfl⟩
  | 1, _ => exact ⟨hc 2 _ rfl, hc 3 _ rfl⟩
  | 2, _ => exact ⟨hc 4 _ rfl, hc 5 _ rfl⟩
  | 3, _ => exact ⟨hc 6 _ rfl, hc 7 _ rfl⟩
end Go.Proofs.YteaaiejfieaalaaGreatDoor

/-
  EdiY5: plain words for a byteStringReplacer's Replace, and its table's cells. No condition beyond those stated.
-/
namespace Go.Proofs.YteaaiejfieaalaaGreatDoor
open Go.RowKit
def sgN (l : Str) : Nat := l.countP signB
theorem compT_len (l : Str) : (compT l).length = l.length + sgN l := by
  induction l with
  | nil => rfl
  | cons c l ih =>
    have e : compT (c :: l) = escB c ++ compT l := by simp [compT]
    unfold sgN at *
    rw [e, List.length_append, ih, List.countP_cons, List.length_cons]
    unfold escB
    by_cases h : signB c = true
    · rw [if_pos h, if_pos h]; simp; omega
    · rw [if_neg h, if_neg h]; simp; omega
theorem compT_same {l : Str} (h : sgN l = 0) : compT l = l := by
  induction l with
  | nil => rfl
  | cons c l ih =>
    have e : compT (c :: l) = escB c ++ compT l := by simp [compT]
    unfold sgN at *
    rw [List.countP_cons] at h
    have hc : signB c = false := by
      cases hs : signB c with
      | true => rw [hs] at h; simp at h
      | false => rfl
    rw [e, ih (by omega)]
    unfold escB; rw [hc]; rfl
theorem compT_take {l : Str} {k : Nat} {c : UInt8} (h : l[k]? = some c) : compT (l.take (k + 1)) = compT (l.take k) ++ escB c := by
  rw [List.take_add_one, h]; simp [compT]
theorem sgN_take {l : Str} {k : Nat} {c : UInt8} (h : l[k]? = some c) : sgN (l.take (k + 1)) = sgN (l.take k) + if signB c then 1 else 0 := by
  unfold sgN
  rw [List.take_add_one, h]; simp [List.countP_append]
theorem sgN_le (l : Str) : sgN l ≤ l.length := List.countP_le_length
theorem sgN_take_le (l : Str) (k : Nat) : sgN (l.take k) ≤ l.length := Nat.le_trans (sgN_le _) (by rw [List.length_take]; omega)
theorem sgN_take_mono (l : Str) (k : Nat) : sgN (l.take k) ≤ sgN l := by
  have h : sgN (l.take k ++ l.drop k) = sgN l := by rw [List.take_append_drop]
  unfold sgN at *
  rw [List.countP_append] at h; omega
/-- so many of the first k names lie in a text -/
def cntD (l : Str) (k : Nat) : Nat := (((DE 0).take k).map fun c => l.count c).sum
theorem cntD_four (l : Str) : cntD l 4 = sgN l := by
  unfold cntD sgN DE
  show [l.count 63, l.count 39, l.count 58, l.count 43].sum = _
  induction l with
  | nil => rfl
  | cons c l ih =>
    rw [List.countP_cons, ← ih]
    simp only [List.count_cons, List.sum_cons, List.sum_nil]
    by_cases h : signB c = true
    · have h' := h
      unfold signB at h'
      simp only [Bool.or_eq_true, beq_iff_eq] at h'
      rcases h' with ((rfl | rfl) | rfl) | rfl <;> simp [signB] <;> omega
    · rw [if_neg h]
      rw [Bool.not_eq_true] at h
      unfold signB at h
      simp only [Bool.or_eq_false_iff] at h
      obtain ⟨⟨⟨h1, h2⟩, h3⟩, h4⟩ := h
      rw [h1, h2, h3, h4]
      simp
theorem cntD_succ (l : Str) (k : Nat) (h : k < 4) : cntD l (k + 1) = cntD l k + l.count ((DE 0).getD k 0) := by
  match k, h with
  | 0, _ => simp [cntD, DE]
  | 1, _ => simp [cntD, DE]
  | 2, _ => simp [cntD, DE]; omega
  | 3, _ => simp [cntD, DE]; omega
theorem cntD_mono (l : Str) (k : Nat) (h : k ≤ 4) : cntD l k ≤ sgN l := by
  rw [← cntD_four]
  match k, h with
  | 0, _ => simp [cntD]
  | 1, _ => simp [cntD, DE]
  | 2, _ => simp [cntD, DE]
  | 3, _ => simp [cntD, DE]
  | 4, _ => exact Nat.le_refl _
theorem mem_DE (c : UInt8) : c ∈ DE 0 ↔ signB c = true := by
  unfold DE signB
  simp only [List.take, Nat.sub_zero, List.mem_cons, List.not_mem_nil, or_false, Bool.or_eq_true, beq_iff_eq]
  constructor
  · rintro (h | h | h | h) <;> simp [h]
  · rintro (((h | h) | h) | h) <;> simp [h]
/-- a table is full -/
def FullAt (w : World) (g : Nat) : Prop := ∃ B C tv, TabX w B g (DE 0) (DE 0) C tv
theorem FullAt.cong {w w' : World} {g : Nat} (h : FullAt w g) (e : ∀ k, k < w.heap.size → w'.heap[k]? = w.heap[k]?) : FullAt w' g := by
  obtain ⟨B, C, tv, h⟩ := h; exact ⟨B, C, tv, h.cong fun k _ hk => e k hk⟩
theorem FullAt.lt {w : World} {g : Nat} (h : FullAt w g) : g < w.heap.size := by
  obtain ⟨B, C, tv, h⟩ := h; exact h.lt
theorem FullAt.no {w : World} {g : Nat} (h : FullAt w g) {c : UInt8} (hc : signB c = false) : w.cell? ⟨g, c.toNat, none⟩ = some (.slice none 0 0) := by
  obtain ⟨B, C, tv, h⟩ := h
  exact (h.cell _).trans (h.no c (fun hm => by rw [mem_DE, hc] at hm; cases hm))
theorem FullAt.yes {w : World} {g : Nat} (h : FullAt w g) {c : UInt8} (hc : signB c = true) : ∃ b cap, w.cell? ⟨g, c.toNat, none⟩ = some (.slice (some ⟨b, 0, none⟩) 2 cap) ∧ 2 ≤ cap ∧ cap ≤ maxLen ∧ w.cell? ⟨b, 0, none⟩ = some (bv 63) ∧ w.cell? ⟨b, 1, none⟩ = some (bv c) := by
  obtain ⟨B, C, tv, h⟩ := h
  obtain ⟨b, cap, a1, a2, a3, a4, a5, a6, a7, a8⟩ := h.yes c ((mem_DE c).2 hc)
  exact ⟨b, cap, (h.cell _).trans a1, a2, a3, a7, a8⟩
theorem FullAt.names {w : World} {g : Nat} (h : FullAt w g) : ∃ nb cap, w.cell? ⟨g, 256, none⟩ = some (.slice (some ⟨nb, 0, none⟩) 4 cap) ∧ 4 ≤ cap ∧ cap ≤ maxLen ∧ ∀ k, k < 4 → w.cell? ⟨nb, k, none⟩ = some (.string ⟨#[(DE 0).getD k 0]⟩) := by
  obtain ⟨B, C, tv, h⟩ := h
  have ho : w.ownsRow B 9 1 tv 4 [sv [63], sv [39], sv [58], sv [43]] := h.own
  obtain ⟨nb, cap, cur, rfl, _, hh, h1, h2, h3, _⟩ := own_form ho (by omega) (by omega)
  refine ⟨nb, cap, (h.cell 256).trans h.at_, h1, h2, fun k hk => ?_⟩
  match k, hk with
  | 0, _ => exact own_cell ho rfl
  | 1, _ => exact own_cell ho rfl
  | 2, _ => exact own_cell ho rfl
  | 3, _ => exact own_cell ho rfl
end Go.Proofs.YteaaiejfieaalaaGreatDoor
