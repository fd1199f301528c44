/-
  Iter: a range over a function, opened by hand: one round as a call of yield; the whole as a call of the iterator. (For an iterator that makes memory for what it yields, and a body that must know of it.) No condition beyond those stated.
-/
import Derived.Test.YtgfdbjeliojhkaaRound
namespace Go.Proofs.Ytgfdbjeliojhkaa
open Go.RowKit Go.Shelf
/-- the record of a loop over a function -/
abbrev recF (fn : FuncId) (tmps : Array Value) (ps : Array Tmp) (assign body : Code) (D : Nat) (st : LoopState) (pe : Option Code) : Loop :=
  { state := st, pending := pe, fn := fn, tmps := tmps, params := ps, assign := assign, body := body, defers := D }
/-- how a round's body may be left -/
def rndQ (l : Nat) (r : Loop) (A : World → Prop) (B : Code → World → Prop) : Exit → Act → World → Prop
  | .normal, _, W3 => W3.heap[l]? = some (.loop r) ∧ A W3
  | .ret, _, W3 => W3.heap[l]? = some (.loop r) ∧ B .ret W3
  | .exit id, _, W3 => W3.heap[l]? = some (.loop r) ∧ B (.exit id) W3
  | .goto t, _, W3 => W3.heap[l]? = some (.loop r) ∧ B (.goto t) W3
  | .panic _, _, _ => False
  | .outgrown, _, _ => False
section
variable {P : Program} {F : Fence} {n l D : Nat} {fn : FuncId} {tmps : Array Value} {ps : Array Tmp} {assign body : Code}
theorem yield_round {rc : LoopState → Option Code → Loop} (hrc : rc = recF fn tmps ps assign body D) {W : World} {args : Array Value} {A : World → Prop} {B : Code → World → Prop} (hF : F.fn fn) (hs : args.size = ps.size) (hl : W.heap[l]? = some (.loop (rc .ready none)))
    (h : assign.wpIn (F.inRound l) n P (Exit.then (fun a' W' => W'.heap[l]? = some (.loop (rc .ready none)) ∧
        body.wpIn (F.inRound l) n P (rndQ l (rc .busy none) A B) a' (W'.putObj l (.loop (rc .busy none)))) (fun _ _ _ => False))
      { tmps := (ps.zip args).foldl (fun t (p, v) => t.setIfInBounds p v) tmps, defers := [] } W) :
    YieldAt F n P l args W fun e W' =>
      (e = .returned (.bool true) ∧ ∃ W3, W' = W3.putObj l (.loop (rc .ready none)) ∧ W3.heap[l]? = some (.loop (rc .busy none)) ∧ A W3) ∨
      (e = .returned (.bool false) ∧ ∃ c W3, W' = W3.putObj l (.loop (rc .done (some c))) ∧ W3.heap[l]? = some (.loop (rc .busy none)) ∧ B c W3) := by
  subst hrc
  refine ⟨fn, _, assign, body, run_yield hl hs, roundIn_of_wpIn hF ?_⟩
  refine wpIn_mono h ?_
  rintro e a' W' he
  cases e with
  | normal =>
    obtain ⟨hl', hb⟩ := he
    refine ⟨_, run_beginRound hl' rfl, wpIn_mono hb ?_⟩
    rintro e a3 W3 hp
    cases e with
    | normal => exact ⟨_, _, run_endRound none hp.1, .inl ⟨rfl, W3, rfl, hp.1, hp.2⟩⟩
    | ret => exact ⟨_, _, run_endRound (some .ret) hp.1, .inr ⟨rfl, .ret, W3, rfl, hp.1, hp.2⟩⟩
    | exit id => exact ⟨_, _, run_endRound (some (.exit id)) hp.1, .inr ⟨rfl, .exit id, W3, rfl, hp.1, hp.2⟩⟩
    | goto t => exact ⟨_, _, run_endRound (some (.goto t)) hp.1, .inr ⟨rfl, .goto t, W3, rfl, hp.1, hp.2⟩⟩
    | panic ch => exact hp.elim
    | outgrown => exact hp.elim
  | _ => exact he.elim
theorem range_open {g : Operand} {Q : Exit → Act → World → Prop} {a : Act} {w : World} (hro : F.round = none) (h1 : 1 ≤ n) {gf : Nat} {lb : Array Value} (hg : a.eval g = .func (.func gf) #[] lb) (hFg : F.fn gf)
    (eg : ∀ args w, (callFunc gf args).run P w = .ok (.enter gf args) w)
    (h : ∀ fn, F.fn fn → ∀ rc, rc = recF fn a.tmps ps assign body w.heap.size → ∀ W1, W1 = (w.alloc (.deferred (some []))).alloc (.loop (rc .ready none)) →
      CallsIn F (n - 1) P gf (#[.func (.yield (w.heap.size + 1)) #[] #[]] ++ lb) W1 fun e W2 => ∃ v, e = .returned v ∧
        ((W2.heap[w.heap.size + 1]? = some (.loop (rc .ready none)) ∧
            Q .normal { a with defers := { target := .collected w.heap.size, args := #[] } :: a.defers } (W2.putObj (w.heap.size + 1) (.loop (rc .exhausted none)))) ∨
          ∃ c, W2.heap[w.heap.size + 1]? = some (.loop (rc .done (some c))) ∧
            c.wpIn F n P Q { a with defers := { target := .collected w.heap.size, args := #[] } :: a.defers } (W2.putObj (w.heap.size + 1) (.loop (rc .exhausted (some c)))))) :
    (Code.rangeFunc g ps assign body).wpIn F n P Q a w := by
  refine wpIn_rangeFunc fun fn hfn => ?_
  rw [hro]
  obtain ⟨W1, hW1⟩ : ∃ W1, (w.alloc (.deferred (some []))).alloc (.loop (recF fn a.tmps ps assign body w.heap.size .ready none)) = W1 := ⟨_, rfl⟩
  refine ⟨w.heap.size + 1, [{ target := .collected w.heap.size, args := #[] }], W1, { target := .fn (.func gf) lb, args := #[.func (.yield (w.heap.size + 1)) #[] #[]] }, W1, gf,
    #[.func (.yield (w.heap.size + 1)) #[] #[]] ++ lb, W1, ?_, ?_, ?_, ?_, fun _ => h1, ?_⟩
  · rw [← hW1]; exact run_enterLoop_outer _ _ _ _ _
  · simp only [resolve, hg]
    simp [go_sem]
  · intro f' hf'; simp [Target.leads] at hf'; subst hf'; exact hFg
  · simp [invoke, go_sem, eg]
  · refine (h fn hfn _ rfl W1 hW1.symm).mono ?_
    rintro e W2 ⟨v, rfl, ⟨hl, hq⟩ | ⟨c, hl, hq⟩⟩
    · exact ⟨none, _, run_endLoop hl (by simp), hq⟩
    · exact ⟨some c, _, run_endLoop hl (by simp), hq⟩
end
end Go.Proofs.Ytgfdbjeliojhkaa
