/-
  No cell of these rows narrows 'for every input' (looked for: loops, veiled, ifaces, maps, wideKeys, modest, calm, conditions, laid).
  DERIVED. THE GIVEN ROWS OF THIS SEAT. 7 by the template 'for every input the law returns true; each argument reads behind the call as it read before'; 0 by the template 'total and deterministic' (their statements: YtpfkmklhfafkiaaTotals.lean).
  GIVEN WITH THE SEED: the statements are not yours to turn. If you find one false, say at which input.
  Laid BY PROGRAM, IN A SANDBOX (cutbox-rows.mjs): the forced cells as the released guide's own fill.sh prints them over the translation 626efeeb97cd15ef… (all of the seat's roots in one cut). By AI agents, Wed Nov 11 2026. No macro, syntax, notation, axiom, sorry.
-/
import Derived.Test.YtpfkmklhfafkiaaChecked
import GoSem.Claim
import GoSem.ClaimJoined
import GoSem.ClaimMapViews
import Derived.JoinedTies
import Derived.KernelRfl
namespace Go.Proofs.Ytpfkmklhfafkiaa
/- THE CELL 'sum', in the pinned program and in every row, IS THE sha256 OF THE DUMP (.gsa) THAT YtpfkmklhfafkiaaProg.lean LOADS. Nothing in Lean hashes anything: it is a label: what it is worth is what the hold of that sum in a sandbox is worth. -/
noncomputable def Try.pinned : Pinned := { name := "ytpfkmklhfafkiaa", sum := "626efeeb97cd15ef33d7216383b434ca3b9ec577310d32e715ddd06b46aee42c", checked := Try.checked }
namespace Rows
def none {H : Type} : Left H := { results := [], args := [] }

/-- 'tarmaclaw03.EdiPrints': WHATEVER THE INPUT: true; the input reads as it did. -/
def ediPrintsSpec : ChangeSpec := { name := "ediPrints", fn := fun _ => fun
  | [d] => { results := [.lit (.bool true)], args := [d] }
  | _ => none }
def ediPrintsRow : OpenClaim := { program := "ytpfkmklhfafkiaa", sum := "626efeeb97cd15ef33d7216383b434ca3b9ec577310d32e715ddd06b46aee42c", func := "tarmac/tarmaclaw03.EdiPrints", spec := "ediPrints", inPlace := ["sync/atomic.LoadUint32", "(*internal/sync.Mutex).Lock", "internal/race.Disable", "sync/atomic.CompareAndSwapInt32", "internal/race.Enable", "internal/race.Acquire", "(*internal/sync.Mutex).lockSlow", "internal/sync.runtime_canSpin", "internal/sync.runtime_doSpin", "internal/sync.throw", "internal/sync.runtime_nanotime", "internal/sync.runtime_SemacquireMutex", "sync/atomic.AddInt32", "(*internal/sync.Mutex).Unlock", "internal/race.ReleaseMerge", "(*internal/sync.Mutex).unlockSlow", "internal/sync.fatal", "internal/sync.runtime_Semrelease", "sync/atomic.StoreUint32", "internal/abi.NoEscape", "internal/bytealg.MakeNoZero", "internal/bytealg.IndexByteString"], unfollowed := true, recurses := true, apart := false }
def EdiPrintsSaid : Prop := ediPrintsRow.holds Try.pinned (OpenSpec.ofChange ediPrintsSpec)

/-- ITS FALSE NEIGHBOUR: 'it returns false'. Refute it at one input. -/
def ediPrintsWrong : ChangeSpec := { name := "ediPrints", fn := fun _ => fun
  | [d] => { results := [.lit (.bool false)], args := [d] }
  | _ => none }
def EdiPrintsWrongFalsely : Prop := ediPrintsRow.holds Try.pinned (OpenSpec.ofChange ediPrintsWrong)

/-- 'tarmaclaw03.EdiBack': WHATEVER THE INPUT: true; the input reads as it did. -/
def ediBackSpec : ChangeSpec := { name := "ediBack", fn := fun _ => fun
  | [d1, d2] => { results := [.lit (.bool true)], args := [d1, d2] }
  | _ => none }
def ediBackRow : OpenClaim := { program := "ytpfkmklhfafkiaa", sum := "626efeeb97cd15ef33d7216383b434ca3b9ec577310d32e715ddd06b46aee42c", func := "tarmac/tarmaclaw03.EdiBack", spec := "ediBack", inPlace := ["sync/atomic.LoadUint32", "(*internal/sync.Mutex).Lock", "internal/race.Disable", "sync/atomic.CompareAndSwapInt32", "internal/race.Enable", "internal/race.Acquire", "(*internal/sync.Mutex).lockSlow", "internal/sync.runtime_canSpin", "internal/sync.runtime_doSpin", "internal/sync.throw", "internal/sync.runtime_nanotime", "internal/sync.runtime_SemacquireMutex", "sync/atomic.AddInt32", "(*internal/sync.Mutex).Unlock", "internal/race.ReleaseMerge", "(*internal/sync.Mutex).unlockSlow", "internal/sync.fatal", "internal/sync.runtime_Semrelease", "sync/atomic.StoreUint32", "internal/abi.NoEscape", "internal/bytealg.MakeNoZero", "internal/bytealg.IndexByteString"], unfollowed := true, recurses := true, apart := false }
def EdiBackSaid : Prop := ediBackRow.holds Try.pinned (OpenSpec.ofChange ediBackSpec)

/-- ITS FALSE NEIGHBOUR: 'it returns false'. Refute it at one input. -/
def ediBackWrong : ChangeSpec := { name := "ediBack", fn := fun _ => fun
  | [d1, d2] => { results := [.lit (.bool false)], args := [d1, d2] }
  | _ => none }
def EdiBackWrongFalsely : Prop := ediBackRow.holds Try.pinned (OpenSpec.ofChange ediBackWrong)

/-- 'tarmaclaw03.EdiCuts': WHATEVER THE INPUT: true; the input reads as it did. -/
def ediCutsSpec : ChangeSpec := { name := "ediCuts", fn := fun _ => fun
  | [d1, d2] => { results := [.lit (.bool true)], args := [d1, d2] }
  | _ => none }
def ediCutsRow : OpenClaim := { program := "ytpfkmklhfafkiaa", sum := "626efeeb97cd15ef33d7216383b434ca3b9ec577310d32e715ddd06b46aee42c", func := "tarmac/tarmaclaw03.EdiCuts", spec := "ediCuts", inPlace := ["internal/bytealg.IndexByteString", "sync/atomic.LoadUint32", "(*internal/sync.Mutex).Lock", "internal/race.Disable", "sync/atomic.CompareAndSwapInt32", "internal/race.Enable", "internal/race.Acquire", "(*internal/sync.Mutex).lockSlow", "internal/sync.runtime_canSpin", "internal/sync.runtime_doSpin", "internal/sync.throw", "internal/sync.runtime_nanotime", "internal/sync.runtime_SemacquireMutex", "sync/atomic.AddInt32", "(*internal/sync.Mutex).Unlock", "internal/race.ReleaseMerge", "(*internal/sync.Mutex).unlockSlow", "internal/sync.fatal", "internal/sync.runtime_Semrelease", "sync/atomic.StoreUint32", "internal/abi.NoEscape", "internal/bytealg.MakeNoZero"], unfollowed := true, recurses := true, apart := false }
def EdiCutsSaid : Prop := ediCutsRow.holds Try.pinned (OpenSpec.ofChange ediCutsSpec)

/-- ITS FALSE NEIGHBOUR: 'it returns false'. Refute it at one input. -/
def ediCutsWrong : ChangeSpec := { name := "ediCuts", fn := fun _ => fun
  | [d1, d2] => { results := [.lit (.bool false)], args := [d1, d2] }
  | _ => none }
def EdiCutsWrongFalsely : Prop := ediCutsRow.holds Try.pinned (OpenSpec.ofChange ediCutsWrong)

/-- 'tarmaclaw03.EdiWhole': WHATEVER THE INPUT: true; the input reads as it did. -/
def ediWholeSpec : ChangeSpec := { name := "ediWhole", fn := fun _ => fun
  | [d] => { results := [.lit (.bool true)], args := [d] }
  | _ => none }
def ediWholeRow : OpenClaim := { program := "ytpfkmklhfafkiaa", sum := "626efeeb97cd15ef33d7216383b434ca3b9ec577310d32e715ddd06b46aee42c", func := "tarmac/tarmaclaw03.EdiWhole", spec := "ediWhole", inPlace := ["sync/atomic.LoadUint32", "(*internal/sync.Mutex).Lock", "internal/race.Disable", "sync/atomic.CompareAndSwapInt32", "internal/race.Enable", "internal/race.Acquire", "(*internal/sync.Mutex).lockSlow", "internal/sync.runtime_canSpin", "internal/sync.runtime_doSpin", "internal/sync.throw", "internal/sync.runtime_nanotime", "internal/sync.runtime_SemacquireMutex", "sync/atomic.AddInt32", "(*internal/sync.Mutex).Unlock", "internal/race.ReleaseMerge", "(*internal/sync.Mutex).unlockSlow", "internal/sync.fatal", "internal/sync.runtime_Semrelease", "sync/atomic.StoreUint32", "internal/abi.NoEscape", "internal/bytealg.MakeNoZero", "internal/bytealg.IndexByteString"], unfollowed := true, recurses := true, apart := false }
def EdiWholeSaid : Prop := ediWholeRow.holds Try.pinned (OpenSpec.ofChange ediWholeSpec)

/-- ITS FALSE NEIGHBOUR: 'it returns false'. Refute it at one input. -/
def ediWholeWrong : ChangeSpec := { name := "ediWhole", fn := fun _ => fun
  | [d] => { results := [.lit (.bool false)], args := [d] }
  | _ => none }
def EdiWholeWrongFalsely : Prop := ediWholeRow.holds Try.pinned (OpenSpec.ofChange ediWholeWrong)

/-- 'tarmaclaw03.EdiOwn': WHATEVER THE INPUT: true; the input reads as it did. -/
def ediOwnSpec : ChangeSpec := { name := "ediOwn", fn := fun _ => fun
  | [d] => { results := [.lit (.bool true)], args := [d] }
  | _ => none }
def ediOwnRow : OpenClaim := { program := "ytpfkmklhfafkiaa", sum := "626efeeb97cd15ef33d7216383b434ca3b9ec577310d32e715ddd06b46aee42c", func := "tarmac/tarmaclaw03.EdiOwn", spec := "ediOwn", inPlace := ["internal/bytealg.IndexByteString", "sync/atomic.LoadUint32", "(*internal/sync.Mutex).Lock", "internal/race.Disable", "sync/atomic.CompareAndSwapInt32", "internal/race.Enable", "internal/race.Acquire", "(*internal/sync.Mutex).lockSlow", "internal/sync.runtime_canSpin", "internal/sync.runtime_doSpin", "internal/sync.throw", "internal/sync.runtime_nanotime", "internal/sync.runtime_SemacquireMutex", "sync/atomic.AddInt32", "(*internal/sync.Mutex).Unlock", "internal/race.ReleaseMerge", "(*internal/sync.Mutex).unlockSlow", "internal/sync.fatal", "internal/sync.runtime_Semrelease", "sync/atomic.StoreUint32", "internal/abi.NoEscape", "internal/bytealg.MakeNoZero"], unfollowed := true, recurses := true, apart := false }
def EdiOwnSaid : Prop := ediOwnRow.holds Try.pinned (OpenSpec.ofChange ediOwnSpec)

/-- ITS FALSE NEIGHBOUR: 'it returns false'. Refute it at one input. -/
def ediOwnWrong : ChangeSpec := { name := "ediOwn", fn := fun _ => fun
  | [d] => { results := [.lit (.bool false)], args := [d] }
  | _ => none }
def EdiOwnWrongFalsely : Prop := ediOwnRow.holds Try.pinned (OpenSpec.ofChange ediOwnWrong)

/-- 'tarmaclaw03.EdiKnown': WHATEVER THE INPUT: true; the input reads as it did. -/
def ediKnownSpec : ChangeSpec := { name := "ediKnown", fn := fun _ => fun
  | [] => { results := [.lit (.bool true)], args := [] }
  | _ => none }
def ediKnownRow : OpenClaim := { program := "ytpfkmklhfafkiaa", sum := "626efeeb97cd15ef33d7216383b434ca3b9ec577310d32e715ddd06b46aee42c", func := "tarmac/tarmaclaw03.EdiKnown", spec := "ediKnown", inPlace := ["internal/bytealg.IndexByteString", "sync/atomic.LoadUint32", "(*internal/sync.Mutex).Lock", "internal/race.Disable", "sync/atomic.CompareAndSwapInt32", "internal/race.Enable", "internal/race.Acquire", "(*internal/sync.Mutex).lockSlow", "internal/sync.runtime_canSpin", "internal/sync.runtime_doSpin", "internal/sync.throw", "internal/sync.runtime_nanotime", "internal/sync.runtime_SemacquireMutex", "sync/atomic.AddInt32", "(*internal/sync.Mutex).Unlock", "internal/race.ReleaseMerge", "(*internal/sync.Mutex).unlockSlow", "internal/sync.fatal", "internal/sync.runtime_Semrelease", "sync/atomic.StoreUint32", "internal/abi.NoEscape", "internal/bytealg.MakeNoZero"], unfollowed := true, recurses := true, apart := false }
def EdiKnownSaid : Prop := ediKnownRow.holds Try.pinned (OpenSpec.ofChange ediKnownSpec)

/-- ITS FALSE NEIGHBOUR: 'it returns false'. Refute it at one input. -/
def ediKnownWrong : ChangeSpec := { name := "ediKnown", fn := fun _ => fun
  | [] => { results := [.lit (.bool false)], args := [] }
  | _ => none }
def EdiKnownWrongFalsely : Prop := ediKnownRow.holds Try.pinned (OpenSpec.ofChange ediKnownWrong)

/-- 'tarmaclaw03.EdiSigns': WHATEVER THE INPUT: true; the input reads as it did. -/
def ediSignsSpec : ChangeSpec := { name := "ediSigns", fn := fun _ => fun
  | [d] => { results := [.lit (.bool true)], args := [d] }
  | _ => none }
def ediSignsRow : OpenClaim := { program := "ytpfkmklhfafkiaa", sum := "626efeeb97cd15ef33d7216383b434ca3b9ec577310d32e715ddd06b46aee42c", func := "tarmac/tarmaclaw03.EdiSigns", spec := "ediSigns", inPlace := ["sync/atomic.LoadUint32", "(*internal/sync.Mutex).Lock", "internal/race.Disable", "sync/atomic.CompareAndSwapInt32", "internal/race.Enable", "internal/race.Acquire", "(*internal/sync.Mutex).lockSlow", "internal/sync.runtime_canSpin", "internal/sync.runtime_doSpin", "internal/sync.throw", "internal/sync.runtime_nanotime", "internal/sync.runtime_SemacquireMutex", "sync/atomic.AddInt32", "(*internal/sync.Mutex).Unlock", "internal/race.ReleaseMerge", "(*internal/sync.Mutex).unlockSlow", "internal/sync.fatal", "internal/sync.runtime_Semrelease", "sync/atomic.StoreUint32", "internal/abi.NoEscape", "internal/bytealg.MakeNoZero", "internal/bytealg.IndexByteString"], unfollowed := true, recurses := true, apart := false }
def EdiSignsSaid : Prop := ediSignsRow.holds Try.pinned (OpenSpec.ofChange ediSignsSpec)

/-- ITS FALSE NEIGHBOUR: 'it returns false'. Refute it at one input. -/
def ediSignsWrong : ChangeSpec := { name := "ediSigns", fn := fun _ => fun
  | [d] => { results := [.lit (.bool false)], args := [d] }
  | _ => none }
def EdiSignsWrongFalsely : Prop := ediSignsRow.holds Try.pinned (OpenSpec.ofChange ediSignsWrong)

/- THE SECOND FORM. 'bulk': how many values and letters a reading holds, each counted each time it is reached (what is shared counts as often as it is met; a slice's spare places count too). A statement '..UptoSaid' is the law's where the arguments, and the package variables that the reading takes, are together of bulk at most 1048576: NARROWER than '..Said'. Prove '..Said' where nothing that the law and all that it calls make is longer than what came in: it says more and counts as full. Else prove '..UptoSaid'. A law counts once. -/
mutual
def uptoBulk {H : Type} : DataW H → Nat
  | .lit (.string bytes) => bytes.length + 1
  | .lit _ => 1
  | .nil => 1
  | .ptr d => uptoBulk d + 1
  | .slice elems spare => uptoBulkAll elems + uptoBulkAll spare + 1
  | .agg parts => uptoBulkAll parts + 1
  | .iface _ d => uptoBulk d + 1
  | .map entries => uptoBulkEntries entries + 1
  | .held _ => 1
def uptoBulkAll {H : Type} : List (DataW H) → Nat
  | [] => 0
  | d :: r => uptoBulk d + uptoBulkAll r
def uptoBulkEntries {H : Type} : List (Lit × DataW H) → Nat
  | [] => 0
  | x :: r => uptoBulkEntry x + uptoBulkEntries r
def uptoBulkEntry {H : Type} : Lit × DataW H → Nat
  | (.string bytes, d) => bytes.length + uptoBulk d + 1
  | (_, d) => uptoBulk d + 1
 end
def uptoSmall : (H : Type) → List (DataW H) → Bool := fun _ ds => decide (uptoBulkAll ds ≤ 1048576)
def OpenSpec.upto (s : _root_.Go.ChangeSpec) : _root_.Go.OpenSpec := { _root_.Go.OpenSpec.ofChange s with cond := some uptoSmall }

/-- 'tarmaclaw03.EdiPrints', WHERE WHAT IT READS IS OF BULK AT MOST 1048576: true; the input reads as it did. -/
def ediPrintsUptoRow : OpenClaim := { program := "ytpfkmklhfafkiaa", sum := "626efeeb97cd15ef33d7216383b434ca3b9ec577310d32e715ddd06b46aee42c", func := "tarmac/tarmaclaw03.EdiPrints", spec := "ediPrints", inPlace := ["sync/atomic.LoadUint32", "(*internal/sync.Mutex).Lock", "internal/race.Disable", "sync/atomic.CompareAndSwapInt32", "internal/race.Enable", "internal/race.Acquire", "(*internal/sync.Mutex).lockSlow", "internal/sync.runtime_canSpin", "internal/sync.runtime_doSpin", "internal/sync.throw", "internal/sync.runtime_nanotime", "internal/sync.runtime_SemacquireMutex", "sync/atomic.AddInt32", "(*internal/sync.Mutex).Unlock", "internal/race.ReleaseMerge", "(*internal/sync.Mutex).unlockSlow", "internal/sync.fatal", "internal/sync.runtime_Semrelease", "sync/atomic.StoreUint32", "internal/abi.NoEscape", "internal/bytealg.MakeNoZero", "internal/bytealg.IndexByteString"], unfollowed := true, recurses := true, apart := false, narrowed := true }
def EdiPrintsUptoSaid : Prop := ediPrintsUptoRow.holds Try.pinned (OpenSpec.upto ediPrintsSpec)

/-- 'tarmaclaw03.EdiBack', WHERE WHAT IT READS IS OF BULK AT MOST 1048576: true; the input reads as it did. -/
def ediBackUptoRow : OpenClaim := { program := "ytpfkmklhfafkiaa", sum := "626efeeb97cd15ef33d7216383b434ca3b9ec577310d32e715ddd06b46aee42c", func := "tarmac/tarmaclaw03.EdiBack", spec := "ediBack", inPlace := ["sync/atomic.LoadUint32", "(*internal/sync.Mutex).Lock", "internal/race.Disable", "sync/atomic.CompareAndSwapInt32", "internal/race.Enable", "internal/race.Acquire", "(*internal/sync.Mutex).lockSlow", "internal/sync.runtime_canSpin", "internal/sync.runtime_doSpin", "internal/sync.throw", "internal/sync.runtime_nanotime", "internal/sync.runtime_SemacquireMutex", "sync/atomic.AddInt32", "(*internal/sync.Mutex).Unlock", "internal/race.ReleaseMerge", "(*internal/sync.Mutex).unlockSlow", "internal/sync.fatal", "internal/sync.runtime_Semrelease", "sync/atomic.StoreUint32", "internal/abi.NoEscape", "internal/bytealg.MakeNoZero", "internal/bytealg.IndexByteString"], unfollowed := true, recurses := true, apart := false, narrowed := true }
def EdiBackUptoSaid : Prop := ediBackUptoRow.holds Try.pinned (OpenSpec.upto ediBackSpec)

/-- 'tarmaclaw03.EdiCuts', WHERE WHAT IT READS IS OF BULK AT MOST 1048576: true; the input reads as it did. -/
def ediCutsUptoRow : OpenClaim := { program := "ytpfkmklhfafkiaa", sum := "626efeeb97cd15ef33d7216383b434ca3b9ec577310d32e715ddd06b46aee42c", func := "tarmac/tarmaclaw03.EdiCuts", spec := "ediCuts", inPlace := ["internal/bytealg.IndexByteString", "sync/atomic.LoadUint32", "(*internal/sync.Mutex).Lock", "internal/race.Disable", "sync/atomic.CompareAndSwapInt32", "internal/race.Enable", "internal/race.Acquire", "(*internal/sync.Mutex).lockSlow", "internal/sync.runtime_canSpin", "internal/sync.runtime_doSpin", "internal/sync.throw", "internal/sync.runtime_nanotime", "internal/sync.runtime_SemacquireMutex", "sync/atomic.AddInt32", "(*internal/sync.Mutex).Unlock", "internal/race.ReleaseMerge", "(*internal/sync.Mutex).unlockSlow", "internal/sync.fatal", "internal/sync.runtime_Semrelease", "sync/atomic.StoreUint32", "internal/abi.NoEscape", "internal/bytealg.MakeNoZero"], unfollowed := true, recurses := true, apart := false, narrowed := true }
def EdiCutsUptoSaid : Prop := ediCutsUptoRow.holds Try.pinned (OpenSpec.upto ediCutsSpec)

/-- 'tarmaclaw03.EdiWhole', WHERE WHAT IT READS IS OF BULK AT MOST 1048576: true; the input reads as it did. -/
def ediWholeUptoRow : OpenClaim := { program := "ytpfkmklhfafkiaa", sum := "626efeeb97cd15ef33d7216383b434ca3b9ec577310d32e715ddd06b46aee42c", func := "tarmac/tarmaclaw03.EdiWhole", spec := "ediWhole", inPlace := ["sync/atomic.LoadUint32", "(*internal/sync.Mutex).Lock", "internal/race.Disable", "sync/atomic.CompareAndSwapInt32", "internal/race.Enable", "internal/race.Acquire", "(*internal/sync.Mutex).lockSlow", "internal/sync.runtime_canSpin", "internal/sync.runtime_doSpin", "internal/sync.throw", "internal/sync.runtime_nanotime", "internal/sync.runtime_SemacquireMutex", "sync/atomic.AddInt32", "(*internal/sync.Mutex).Unlock", "internal/race.ReleaseMerge", "(*internal/sync.Mutex).unlockSlow", "internal/sync.fatal", "internal/sync.runtime_Semrelease", "sync/atomic.StoreUint32", "internal/abi.NoEscape", "internal/bytealg.MakeNoZero", "internal/bytealg.IndexByteString"], unfollowed := true, recurses := true, apart := false, narrowed := true }
def EdiWholeUptoSaid : Prop := ediWholeUptoRow.holds Try.pinned (OpenSpec.upto ediWholeSpec)

/-- 'tarmaclaw03.EdiOwn', WHERE WHAT IT READS IS OF BULK AT MOST 1048576: true; the input reads as it did. -/
def ediOwnUptoRow : OpenClaim := { program := "ytpfkmklhfafkiaa", sum := "626efeeb97cd15ef33d7216383b434ca3b9ec577310d32e715ddd06b46aee42c", func := "tarmac/tarmaclaw03.EdiOwn", spec := "ediOwn", inPlace := ["internal/bytealg.IndexByteString", "sync/atomic.LoadUint32", "(*internal/sync.Mutex).Lock", "internal/race.Disable", "sync/atomic.CompareAndSwapInt32", "internal/race.Enable", "internal/race.Acquire", "(*internal/sync.Mutex).lockSlow", "internal/sync.runtime_canSpin", "internal/sync.runtime_doSpin", "internal/sync.throw", "internal/sync.runtime_nanotime", "internal/sync.runtime_SemacquireMutex", "sync/atomic.AddInt32", "(*internal/sync.Mutex).Unlock", "internal/race.ReleaseMerge", "(*internal/sync.Mutex).unlockSlow", "internal/sync.fatal", "internal/sync.runtime_Semrelease", "sync/atomic.StoreUint32", "internal/abi.NoEscape", "internal/bytealg.MakeNoZero"], unfollowed := true, recurses := true, apart := false, narrowed := true }
def EdiOwnUptoSaid : Prop := ediOwnUptoRow.holds Try.pinned (OpenSpec.upto ediOwnSpec)

/-- 'tarmaclaw03.EdiKnown', WHERE WHAT IT READS IS OF BULK AT MOST 1048576: true; the input reads as it did. -/
def ediKnownUptoRow : OpenClaim := { program := "ytpfkmklhfafkiaa", sum := "626efeeb97cd15ef33d7216383b434ca3b9ec577310d32e715ddd06b46aee42c", func := "tarmac/tarmaclaw03.EdiKnown", spec := "ediKnown", inPlace := ["internal/bytealg.IndexByteString", "sync/atomic.LoadUint32", "(*internal/sync.Mutex).Lock", "internal/race.Disable", "sync/atomic.CompareAndSwapInt32", "internal/race.Enable", "internal/race.Acquire", "(*internal/sync.Mutex).lockSlow", "internal/sync.runtime_canSpin", "internal/sync.runtime_doSpin", "internal/sync.throw", "internal/sync.runtime_nanotime", "internal/sync.runtime_SemacquireMutex", "sync/atomic.AddInt32", "(*internal/sync.Mutex).Unlock", "internal/race.ReleaseMerge", "(*internal/sync.Mutex).unlockSlow", "internal/sync.fatal", "internal/sync.runtime_Semrelease", "sync/atomic.StoreUint32", "internal/abi.NoEscape", "internal/bytealg.MakeNoZero"], unfollowed := true, recurses := true, apart := false, narrowed := true }
def EdiKnownUptoSaid : Prop := ediKnownUptoRow.holds Try.pinned (OpenSpec.upto ediKnownSpec)

/-- 'tarmaclaw03.EdiSigns', WHERE WHAT IT READS IS OF BULK AT MOST 1048576: true; the input reads as it did. -/
def ediSignsUptoRow : OpenClaim := { program := "ytpfkmklhfafkiaa", sum := "626efeeb97cd15ef33d7216383b434ca3b9ec577310d32e715ddd06b46aee42c", func := "tarmac/tarmaclaw03.EdiSigns", spec := "ediSigns", inPlace := ["sync/atomic.LoadUint32", "(*internal/sync.Mutex).Lock", "internal/race.Disable", "sync/atomic.CompareAndSwapInt32", "internal/race.Enable", "internal/race.Acquire", "(*internal/sync.Mutex).lockSlow", "internal/sync.runtime_canSpin", "internal/sync.runtime_doSpin", "internal/sync.throw", "internal/sync.runtime_nanotime", "internal/sync.runtime_SemacquireMutex", "sync/atomic.AddInt32", "(*internal/sync.Mutex).Unlock", "internal/race.ReleaseMerge", "(*internal/sync.Mutex).unlockSlow", "internal/sync.fatal", "internal/sync.runtime_Semrelease", "sync/atomic.StoreUint32", "internal/abi.NoEscape", "internal/bytealg.MakeNoZero", "internal/bytealg.IndexByteString"], unfollowed := true, recurses := true, apart := false, narrowed := true }
def EdiSignsUptoSaid : Prop := ediSignsUptoRow.holds Try.pinned (OpenSpec.upto ediSignsSpec)

end Rows
end Go.Proofs.Ytpfkmklhfafkiaa
