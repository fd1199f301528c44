/-
  EdiP: texts of segments: the reader as a machine of bytes, the printer: plain words, no program in sight. No condition.
-/
import Derived.Test.YtpfkmklhfafkiaaPlan
namespace Go.Proofs.Ytpfkmklhfafkiaa
abbrev Str := List UInt8
structure Seg where
  tag : Str
  elems : List (List Str)
/-- a byte of a tag -/
def tagB (c : UInt8) : Bool := (decide (65 ≤ c.toNat) && decide (c.toNat ≤ 90)) || (decide (48 ≤ c.toNat) && decide (c.toNat ≤ 57))
/-- a sign -/
def signB (c : UInt8) : Bool := c == 43 || c == 58 || c == 39 || c == 63
/-- where a reader stands -/
inductive EC where
  | btw (l : List Seg)
  | tag (l : List Seg) (t : Str)
  | bhd (l : List Seg) (t : Str)
  | cmp (l : List Seg) (t : Str) (es : List (List Str)) (cs : List Str) (p : Str)
  | rel (l : List Seg) (t : Str) (es : List (List Str)) (cs : List Str) (p : Str)
inductive ER where
  | err (k : Int)
  | ok (c : EC)
def tagS (l : List Seg) (t : Str) (c : UInt8) : ER :=
  if tagB c = false then .err 30 else if t.length + 1 < 3 then .ok (.tag l (t ++ [c])) else .ok (.bhd l (t ++ [c]))
def putS (l : List Seg) (t : Str) (es : List (List Str)) (cs : List Str) (p : Str) (c : UInt8) : ER :=
  if p.length = 256 then .err 2 else .ok (.cmp l t es cs (p ++ [c]))
def signS (l : List Seg) (t : Str) (es : List (List Str)) (cs : List Str) (p : Str) (c : UInt8) : ER :=
  if c = 39 then .ok (.btw (l ++ [⟨t, es ++ [cs ++ [p]]⟩]))
  else if c = 43 then if es.length + 1 = 16 then .err 2 else .ok (.cmp l t (es ++ [cs ++ [p]]) [] [])
  else if cs.length + 1 = 8 then .err 2 else .ok (.cmp l t es (cs ++ [p]) [])
def stepE : EC → UInt8 → ER
  | .btw l, c => if c = 10 ∧ l ≠ [] then .ok (.btw l) else if l.length = 64 then .err 2 else tagS l [] c
  | .tag l t, c => tagS l t c
  | .bhd l t, c => if c = 39 then .ok (.btw (l ++ [⟨t, []⟩])) else if c = 43 then .ok (.cmp l t [] [] []) else .err 30
  | .cmp l t es cs p, c => if c = 63 then .ok (.rel l t es cs p) else if signB c = true then signS l t es cs p c else if c.toNat < 32 ∨ 126 < c.toNat then .err 30 else putS l t es cs p c
  | .rel l t es cs p, c => if signB c = true then putS l t es cs p c else .err 30
/-- what comes of bytes: an error at a place, or where the reader stands -/
inductive EO where
  | err (at_ : Nat) (k : Int)
  | ok (c : EC)
def runE : EC → Nat → Str → EO
  | s, _, [] => .ok s
  | s, i, c :: r => match stepE s c with
    | .err k => .err i k
    | .ok s' => runE s' (i + 1) r
/-- Parse: segments, a place, an error -/
def parseE (t : Str) : List Seg × Nat × Int :=
  if 65536 < t.length then ([], 0, 2) else match runE (.btw []) 0 t with
    | .err i k => ([], i, k)
    | .ok (.btw l) => (l, 0, 0)
    | .ok _ => ([], t.length, 31)
theorem runE_append : ∀ (a b : Str) (s : EC) (i : Nat), runE s i (a ++ b) = match runE s i a with
    | .err j k => .err j k
    | .ok s' => runE s' (i + a.length) b
  | [], b, s, i => by simp [runE]
  | c :: a, b, s, i => by
    simp only [List.cons_append, runE]
    cases h : stepE s c with
    | err k => rfl
    | ok s' => simp only []; rw [runE_append a b s' (i + 1)]; simp only [List.length_cons]; rw [show i + 1 + a.length = i + (a.length + 1) by omega]
/-! ### telling -/
def escB (c : UInt8) : Str := if signB c then [63, c] else [c]
def compT (p : Str) : Str := p.flatMap escB
def joinB (s : UInt8) : List Str → Str
  | [] => []
  | [a] => a
  | a :: b :: l => a ++ s :: joinB s (b :: l)
def elemT (e : List Str) : Str := joinB 58 (e.map compT)
def segT (s : Seg) : Str := s.tag ++ s.elems.flatMap (fun e => 43 :: elemT e) ++ [39]
def printT (l : List Seg) : Str := l.flatMap segT
def tagBad (t : Str) : Bool := t.length != 3 || !t.all tagB
def argP (l : List Seg) : Bool := l.any fun s => tagBad s.tag || s.elems.any fun e => e.isEmpty
def badB (c : UInt8) : Bool := decide (c.toNat < 32) || decide (126 < c.toNat)
def signP (l : List Seg) : Bool := l.any fun s => s.elems.any fun e => e.any fun p => p.any badB
def longP (l : List Seg) : Bool := decide (64 < l.length) || l.any fun s => decide (16 < s.elems.length) || s.elems.any fun e => decide (8 < e.length) || e.any fun p => decide (256 < p.length)
def printE (l : List Seg) : Str × Int :=
  if argP l then ([], 1) else if signP l then ([], 30) else if longP l || decide (65536 < (printT l).length) then ([], 2) else (printT l, 0)
end Go.Proofs.Ytpfkmklhfafkiaa
