/-
  Texts MsgKnownP, WrapM, MsgQ6, MsgQ1, MsgQ3, MsgV2, NumX, NumY, NumA, PlanT, NumB, MsgY1, MsgY2, WrapJ, MsgY5, one behind the other. No condition beyond those stated in each.
-/
import Derived.Test.YtgfijlamhjjecaaGreatDoorMx10
import Derived.Test.YtgfijlamhjjecaaGreatDoorMx9
import Derived.Great.BuildSlice
import Derived.Deep.MidRow
import Derived.Test.YtgfijlamhjjecaaGreatDoorMx6
import Derived.Test.YtgfijlamhjjecaaGreatDoorMx5
import Derived.Lib.SmallJoins
import Derived.OpenShut
import Derived.DataShut
import Derived.Test.YtgfijlamhjjecaaGreatDoorRows
import Derived.Test.YtgfijlamhjjecaaGreatDoorMx7
import Derived.LaidMore
import Derived.Stop.LaidErr
import Derived.Test.YtgfijlamhjjecaaGreatDoorMx1
namespace Go.Proofs.YtgfijlamhjjecaaGreatDoor
open Go.RowKit
structure GRow where
  m : MD
  want : ByteArray
  cnt : ByteArray
  txt : Str
def grows : List GRow := [⟨⟨1, 1, 1, 3, cd0, 0, 0⟩, ⟨#[]⟩, ⟨#[50]⟩, [85, 78, 66, 43, 55, 43, 48, 43, 48, 39, 77, 83, 71, 43, 49, 39, 75, 69, 89, 43, 48, 48, 49, 48, 48, 48, 48, 48, 48, 48, 48, 48, 49, 53, 43, 51, 39, 85, 78, 90, 43, 50, 43, 48, 39]⟩, ⟨⟨2, 1, 1, 3, ⟨7, 65535, 4294967295, -5, 7, 9⟩, 0, 0⟩, ⟨#[67, 80, 78, 43, 55, 43, 54, 53, 53, 51, 53, 43, 52, 50, 57, 52, 57, 54, 55, 50, 57, 53, 43, 45, 53, 43, 55, 43, 57, 39]⟩, ⟨#[51]⟩, [85, 78, 66, 43, 55, 43, 48, 43, 48, 39, 77, 83, 71, 43, 50, 39, 75, 69, 89, 43, 48, 48, 49, 48, 48, 48, 48, 48, 48, 48, 48, 48, 49, 53, 43, 51, 39, 67, 80, 78, 43, 55, 43, 54, 53, 53, 51, 53, 43, 52, 50, 57, 52, 57, 54, 55, 50, 57, 53, 43, 45, 53, 43, 55, 43, 57, 39, 85, 78, 90, 43, 51, 43, 48, 39]⟩, ⟨⟨3, 1, 1, 3, cd0, 0, 999⟩, ⟨#[67, 79, 68, 43, 57, 57, 57, 39]⟩, ⟨#[51]⟩, [85, 78, 66, 43, 55, 43, 48, 43, 48, 39, 77, 83, 71, 43, 51, 39, 75, 69, 89, 43, 48, 48, 49, 48, 48, 48, 48, 48, 48, 48, 48, 48, 49, 53, 43, 51, 39, 67, 79, 68, 43, 57, 57, 57, 39, 85, 78, 90, 43, 51, 43, 48, 39]⟩, ⟨⟨4, 1, 1, 3, cd0, 0, 0⟩, ⟨#[]⟩, ⟨#[50]⟩, [85, 78, 66, 43, 55, 43, 48, 43, 48, 39, 77, 83, 71, 43, 52, 39, 75, 69, 89, 43, 48, 48, 49, 48, 48, 48, 48, 48, 48, 48, 48, 48, 49, 53, 43, 51, 39, 85, 78, 90, 43, 50, 43, 48, 39]⟩, ⟨⟨5, 1, 1, 3, ⟨7, 65535, 4294967295, -5, 7, 9⟩, 0, 0⟩, ⟨#[67, 80, 78, 43, 55, 43, 54, 53, 53, 51, 53, 43, 52, 50, 57, 52, 57, 54, 55, 50, 57, 53, 43, 45, 53, 43, 55, 43, 57, 39]⟩, ⟨#[51]⟩, [85, 78, 66, 43, 55, 43, 48, 43, 48, 39, 77, 83, 71, 43, 53, 39, 75, 69, 89, 43, 48, 48, 49, 48, 48, 48, 48, 48, 48, 48, 48, 48, 49, 53, 43, 51, 39, 67, 80, 78, 43, 55, 43, 54, 53, 53, 51, 53, 43, 52, 50, 57, 52, 57, 54, 55, 50, 57, 53, 43, 45, 53, 43, 55, 43, 57, 39, 85, 78, 90, 43, 51, 43, 48, 39]⟩, ⟨⟨6, 1, 1, 3, cd0, -1125899906842624, 0⟩, ⟨#[65, 77, 84, 43, 45, 49, 49, 50, 53, 56, 57, 57, 57, 48, 54, 56, 52, 50, 54, 50, 52, 39]⟩, ⟨#[51]⟩, [85, 78, 66, 43, 55, 43, 48, 43, 48, 39, 77, 83, 71, 43, 54, 39, 75, 69, 89, 43, 48, 48, 49, 48, 48, 48, 48, 48, 48, 48, 48, 48, 49, 53, 43, 51, 39, 65, 77, 84, 43, 45, 49, 49, 50, 53, 56, 57, 57, 57, 48, 54, 56, 52, 50, 54, 50, 52, 39, 85, 78, 90, 43, 51, 43, 48, 39]⟩, ⟨⟨7, 1, 1, 3, cd0, 0, 0⟩, ⟨#[65, 77, 84, 43, 48, 39]⟩, ⟨#[51]⟩, [85, 78, 66, 43, 55, 43, 48, 43, 48, 39, 77, 83, 71, 43, 55, 39, 75, 69, 89, 43, 48, 48, 49, 48, 48, 48, 48, 48, 48, 48, 48, 48, 49, 53, 43, 51, 39, 65, 77, 84, 43, 48, 39, 85, 78, 90, 43, 51, 43, 48, 39]⟩, ⟨⟨8, 1, 1, 3, cd0, 5, 6⟩, ⟨#[65, 77, 84, 43, 53, 39, 67, 79, 68, 43, 54, 39]⟩, ⟨#[52]⟩, [85, 78, 66, 43, 55, 43, 48, 43, 48, 39, 77, 83, 71, 43, 56, 39, 75, 69, 89, 43, 48, 48, 49, 48, 48, 48, 48, 48, 48, 48, 48, 48, 49, 53, 43, 51, 39, 65, 77, 84, 43, 53, 39, 67, 79, 68, 43, 54, 39, 85, 78, 90, 43, 52, 43, 48, 39]⟩]
def brows : List MD := [⟨1, 1, 1, 3, cd0, 1, 0⟩, ⟨1, 1, 1, 3, cd0, 0, 1⟩, ⟨1, 1, 1, 3, ⟨7, 65535, 4294967295, -5, 7, 9⟩, 0, 0⟩, ⟨2, 1, 1, 3, cd0, 0, 0⟩, ⟨3, 1, 1, 3, cd0, 0, 1000⟩, ⟨3, 1, 1, 3, cd0, 0, -1⟩, ⟨6, 1, 1, 3, cd0, 1125899906842625, 0⟩, ⟨1, 1, 1, 4, cd0, 0, 0⟩]
structure NRow where
  t : ByteArray
  e : Int
def nrows : List NRow := [⟨⟨#[77, 83, 71, 43, 57, 39, 85, 78, 90, 43, 49]⟩, 100⟩, ⟨⟨#[77, 83, 71, 43, 49, 39, 85, 78, 90, 43, 49]⟩, 101⟩, ⟨⟨#[77, 83, 71, 43, 48, 49, 39, 75, 69, 89, 43, 48, 48, 49, 48, 48, 48, 48, 48, 48, 48, 48, 48, 49, 53, 43, 48, 39, 85, 78, 90, 43, 50]⟩, 100⟩, ⟨⟨#[65, 67, 75, 39, 65, 67, 75, 39, 85, 78, 90, 43, 50]⟩, 101⟩, ⟨⟨#[65, 67, 75, 43, 49, 39, 85, 78, 90, 43, 49]⟩, 100⟩, ⟨⟨#[77, 83, 71, 43, 49, 39, 75, 69, 89, 43, 48, 48, 49, 48, 48, 48, 48, 48, 48, 48, 48, 48, 49, 54, 43, 48, 39, 85, 78, 90, 43, 50]⟩, 70⟩, ⟨⟨#[77, 83, 71, 43, 49, 39, 75, 69, 89, 43, 48, 48, 49, 48, 48, 48, 48, 48, 48, 48, 48, 48, 49, 43, 48, 39, 85, 78, 90, 43, 50]⟩, 90⟩, ⟨⟨#[77, 83, 71, 43, 49, 39, 75, 69, 89, 43, 48, 48, 48, 48, 48, 48, 48, 48, 48, 48, 48, 48, 48, 48, 43, 48, 39, 85, 78, 90, 43, 50]⟩, 1⟩, ⟨⟨#[77, 83, 71, 43, 49, 39, 75, 69, 89, 43, 48, 48, 49, 48, 48, 48, 48, 48, 48, 48, 48, 48, 49, 53, 43, 52, 39, 85, 78, 90, 43, 50]⟩, 101⟩, ⟨⟨#[77, 83, 71, 43, 49, 39, 75, 69, 89, 43, 48, 48, 49, 48, 48, 48, 48, 48, 48, 48, 48, 48, 49, 53, 43, 48, 39, 65, 77, 84, 43, 49, 39, 85, 78, 90, 43, 51]⟩, 101⟩, ⟨⟨#[77, 83, 71, 43, 54, 39, 75, 69, 89, 43, 48, 48, 49, 48, 48, 48, 48, 48, 48, 48, 48, 48, 49, 53, 43, 48, 39, 65, 77, 84, 43, 45, 48, 39, 85, 78, 90, 43, 51]⟩, 101⟩, ⟨⟨#[77, 83, 71, 43, 54, 39, 75, 69, 89, 43, 48, 48, 49, 48, 48, 48, 48, 48, 48, 48, 48, 48, 49, 53, 43, 48, 39, 65, 77, 84, 43, 49, 49, 50, 53, 56, 57, 57, 57, 48, 54, 56, 52, 50, 54, 50, 53, 39, 85, 78, 90, 43, 51]⟩, 101⟩, ⟨⟨#[77, 83, 71, 43, 54, 39, 75, 69, 89, 43, 48, 48, 49, 48, 48, 48, 48, 48, 48, 48, 48, 48, 49, 53, 43, 48, 39, 65, 77, 84, 43, 49, 58, 50, 39, 85, 78, 90, 43, 51]⟩, 101⟩, ⟨⟨#[77, 83, 71, 43, 51, 39, 75, 69, 89, 43, 48, 48, 49, 48, 48, 48, 48, 48, 48, 48, 48, 48, 49, 53, 43, 48, 39, 67, 79, 68, 43, 45, 49, 39, 85, 78, 90, 43, 51]⟩, 101⟩, ⟨⟨#[77, 83, 71, 43, 56, 39, 75, 69, 89, 43, 48, 48, 49, 48, 48, 48, 48, 48, 48, 48, 48, 48, 49, 53, 43, 48, 39, 67, 79, 68, 43, 49, 39, 65, 77, 84, 43, 49, 39, 85, 78, 90, 43, 52]⟩, 101⟩, ⟨⟨#[77, 83, 71, 43, 50, 39, 75, 69, 89, 43, 48, 48, 49, 48, 48, 48, 48, 48, 48, 48, 48, 48, 49, 53, 43, 48, 39, 67, 80, 78, 43, 49, 43, 50, 43, 51, 43, 52, 43, 48, 43, 54, 39, 85, 78, 90, 43, 51]⟩, 101⟩, ⟨⟨#[77, 83, 71, 43, 50, 39, 75, 69, 89, 43, 48, 48, 49, 48, 48, 48, 48, 48, 48, 48, 48, 48, 49, 53, 43, 48, 39, 67, 80, 78, 43, 49, 43, 50, 43, 51, 43, 52, 43, 49, 43, 54, 39, 85, 78, 90, 43, 51]⟩, 0⟩, ⟨⟨#[77, 83, 71, 43, 50, 53, 55, 39, 75, 69, 89, 43, 48, 48, 49, 48, 48, 48, 48, 48, 48, 48, 48, 48, 49, 53, 43, 48, 39, 85, 78, 90, 43, 50]⟩, 100⟩]
def catG (k : Nat) (r : GRow) : Str := [85, 78, 66, 43, 55, 43, 48, 43, 48, 39, 77, 83, 71, 43] ++ [UInt8.ofNat (49 + k)] ++ [39, 75, 69, 89, 43, 48, 48, 49, 48, 48, 48, 48, 48, 48, 48, 48, 48, 49, 53, 43, 51, 39] ++ r.want.data.toList ++ [85, 78, 90, 43] ++ r.cnt.data.toList ++ [43, 48, 39]
theorem g_cat : ∀ k < 8, (grows[k]?).map (fun r => decide (catG k r = r.txt ∧ r.txt.length ≤ 65536 ∧ no10 r.txt = r.txt)) = some true := by decide +kernel
theorem g_read0 : parseTM [85, 78, 66, 43, 55, 43, 48, 43, 48, 39, 77, 83, 71, 43, 49, 39, 75, 69, 89, 43, 48, 48, 49, 48, 48, 48, 48, 48, 48, 48, 48, 48, 49, 53, 43, 51, 39, 85, 78, 90, 43, 50, 43, 48, 39] = (⟨7, 0, false, 0, ⟨1, 1, 1, 3, cd0, 0, 0⟩⟩, 0) := by kernel_rfl
theorem g_read1 : parseTM [85, 78, 66, 43, 55, 43, 48, 43, 48, 39, 77, 83, 71, 43, 50, 39, 75, 69, 89, 43, 48, 48, 49, 48, 48, 48, 48, 48, 48, 48, 48, 48, 49, 53, 43, 51, 39, 67, 80, 78, 43, 55, 43, 54, 53, 53, 51, 53, 43, 52, 50, 57, 52, 57, 54, 55, 50, 57, 53, 43, 45, 53, 43, 55, 43, 57, 39, 85, 78, 90, 43, 51, 43, 48, 39] = (⟨7, 0, false, 0, ⟨2, 1, 1, 3, ⟨7, 65535, 4294967295, -5, 7, 9⟩, 0, 0⟩⟩, 0) := by kernel_rfl
theorem g_read2 : parseTM [85, 78, 66, 43, 55, 43, 48, 43, 48, 39, 77, 83, 71, 43, 51, 39, 75, 69, 89, 43, 48, 48, 49, 48, 48, 48, 48, 48, 48, 48, 48, 48, 49, 53, 43, 51, 39, 67, 79, 68, 43, 57, 57, 57, 39, 85, 78, 90, 43, 51, 43, 48, 39] = (⟨7, 0, false, 0, ⟨3, 1, 1, 3, cd0, 0, 999⟩⟩, 0) := by kernel_rfl
theorem g_read3 : parseTM [85, 78, 66, 43, 55, 43, 48, 43, 48, 39, 77, 83, 71, 43, 52, 39, 75, 69, 89, 43, 48, 48, 49, 48, 48, 48, 48, 48, 48, 48, 48, 48, 49, 53, 43, 51, 39, 85, 78, 90, 43, 50, 43, 48, 39] = (⟨7, 0, false, 0, ⟨4, 1, 1, 3, cd0, 0, 0⟩⟩, 0) := by kernel_rfl
theorem g_read4 : parseTM [85, 78, 66, 43, 55, 43, 48, 43, 48, 39, 77, 83, 71, 43, 53, 39, 75, 69, 89, 43, 48, 48, 49, 48, 48, 48, 48, 48, 48, 48, 48, 48, 49, 53, 43, 51, 39, 67, 80, 78, 43, 55, 43, 54, 53, 53, 51, 53, 43, 52, 50, 57, 52, 57, 54, 55, 50, 57, 53, 43, 45, 53, 43, 55, 43, 57, 39, 85, 78, 90, 43, 51, 43, 48, 39] = (⟨7, 0, false, 0, ⟨5, 1, 1, 3, ⟨7, 65535, 4294967295, -5, 7, 9⟩, 0, 0⟩⟩, 0) := by kernel_rfl
theorem g_read5 : parseTM [85, 78, 66, 43, 55, 43, 48, 43, 48, 39, 77, 83, 71, 43, 54, 39, 75, 69, 89, 43, 48, 48, 49, 48, 48, 48, 48, 48, 48, 48, 48, 48, 49, 53, 43, 51, 39, 65, 77, 84, 43, 45, 49, 49, 50, 53, 56, 57, 57, 57, 48, 54, 56, 52, 50, 54, 50, 52, 39, 85, 78, 90, 43, 51, 43, 48, 39] = (⟨7, 0, false, 0, ⟨6, 1, 1, 3, cd0, -1125899906842624, 0⟩⟩, 0) := by kernel_rfl
theorem g_read6 : parseTM [85, 78, 66, 43, 55, 43, 48, 43, 48, 39, 77, 83, 71, 43, 55, 39, 75, 69, 89, 43, 48, 48, 49, 48, 48, 48, 48, 48, 48, 48, 48, 48, 49, 53, 43, 51, 39, 65, 77, 84, 43, 48, 39, 85, 78, 90, 43, 51, 43, 48, 39] = (⟨7, 0, false, 0, ⟨7, 1, 1, 3, cd0, 0, 0⟩⟩, 0) := by kernel_rfl
theorem g_read7 : parseTM [85, 78, 66, 43, 55, 43, 48, 43, 48, 39, 77, 83, 71, 43, 56, 39, 75, 69, 89, 43, 48, 48, 49, 48, 48, 48, 48, 48, 48, 48, 48, 48, 49, 53, 43, 51, 39, 65, 77, 84, 43, 53, 39, 67, 79, 68, 43, 54, 39, 85, 78, 90, 43, 52, 43, 48, 39] = (⟨7, 0, false, 0, ⟨8, 1, 1, 3, cd0, 5, 6⟩⟩, 0) := by kernel_rfl
theorem g_read : ∀ (k : Nat) (r : GRow), grows[k]? = some r → parseTM r.txt = (⟨7, 0, false, 0, r.m⟩, 0)
  | 0, r, h => by
    have h2 : some (⟨⟨1, 1, 1, 3, cd0, 0, 0⟩, ⟨#[]⟩, ⟨#[50]⟩, [85, 78, 66, 43, 55, 43, 48, 43, 48, 39, 77, 83, 71, 43, 49, 39, 75, 69, 89, 43, 48, 48, 49, 48, 48, 48, 48, 48, 48, 48, 48, 48, 49, 53, 43, 51, 39, 85, 78, 90, 43, 50, 43, 48, 39]⟩ : GRow) = some r := h
    obtain rfl := Option.some.inj h2
    exact g_read0
  | 1, r, h => by
    have h2 : some (⟨⟨2, 1, 1, 3, ⟨7, 65535, 4294967295, -5, 7, 9⟩, 0, 0⟩, ⟨#[67, 80, 78, 43, 55, 43, 54, 53, 53, 51, 53, 43, 52, 50, 57, 52, 57, 54, 55, 50, 57, 53, 43, 45, 53, 43, 55, 43, 57, 39]⟩, ⟨#[51]⟩, [85, 78, 66, 43, 55, 43, 48, 43, 48, 39, 77, 83, 71, 43, 50, 39, 75, 69, 89, 43, 48, 48, 49, 48, 48, 48, 48, 48, 48, 48, 48, 48, 49, 53, 43, 51, 39, 67, 80, 78, 43, 55, 43, 54, 53, 53, 51, 53, 43, 52, 50, 57, 52, 57, 54, 55, 50, 57, 53, 43, 45, 53, 43, 55, 43, 57, 39, 85, 78, 90, 43, 51, 43, 48, 39]⟩ : GRow) = some r := h
    obtain rfl := Option.some.inj h2
    exact g_read1
  | 2, r, h => by
    have h2 : some (⟨⟨3, 1, 1, 3, cd0, 0, 999⟩, ⟨#[67, 79, 68, 43, 57, 57, 57, 39]⟩, ⟨#[51]⟩, [85, 78, 66, 43, 55, 43, 48, 43, 48, 39, 77, 83, 71, 43, 51, 39, 75, 69, 89, 43, 48, 48, 49, 48, 48, 48, 48, 48, 48, 48, 48, 48, 49, 53, 43, 51, 39, 67, 79, 68, 43, 57, 57, 57, 39, 85, 78, 90, 43, 51, 43, 48, 39]⟩ : GRow) = some r := h
    obtain rfl := Option.some.inj h2
    exact g_read2
  | 3, r, h => by
    have h2 : some (⟨⟨4, 1, 1, 3, cd0, 0, 0⟩, ⟨#[]⟩, ⟨#[50]⟩, [85, 78, 66, 43, 55, 43, 48, 43, 48, 39, 77, 83, 71, 43, 52, 39, 75, 69, 89, 43, 48, 48, 49, 48, 48, 48, 48, 48, 48, 48, 48, 48, 49, 53, 43, 51, 39, 85, 78, 90, 43, 50, 43, 48, 39]⟩ : GRow) = some r := h
    obtain rfl := Option.some.inj h2
    exact g_read3
  | 4, r, h => by
    have h2 : some (⟨⟨5, 1, 1, 3, ⟨7, 65535, 4294967295, -5, 7, 9⟩, 0, 0⟩, ⟨#[67, 80, 78, 43, 55, 43, 54, 53, 53, 51, 53, 43, 52, 50, 57, 52, 57, 54, 55, 50, 57, 53, 43, 45, 53, 43, 55, 43, 57, 39]⟩, ⟨#[51]⟩, [85, 78, 66, 43, 55, 43, 48, 43, 48, 39, 77, 83, 71, 43, 53, 39, 75, 69, 89, 43, 48, 48, 49, 48, 48, 48, 48, 48, 48, 48, 48, 48, 49, 53, 43, 51, 39, 67, 80, 78, 43, 55, 43, 54, 53, 53, 51, 53, 43, 52, 50, 57, 52, 57, 54, 55, 50, 57, 53, 43, 45, 53, 43, 55, 43, 57, 39, 85, 78, 90, 43, 51, 43, 48, 39]⟩ : GRow) = some r := h
    obtain rfl := Option.some.inj h2
    exact g_read4
  | 5, r, h => by
    have h2 : some (⟨⟨6, 1, 1, 3, cd0, -1125899906842624, 0⟩, ⟨#[65, 77, 84, 43, 45, 49, 49, 50, 53, 56, 57, 57, 57, 48, 54, 56, 52, 50, 54, 50, 52, 39]⟩, ⟨#[51]⟩, [85, 78, 66, 43, 55, 43, 48, 43, 48, 39, 77, 83, 71, 43, 54, 39, 75, 69, 89, 43, 48, 48, 49, 48, 48, 48, 48, 48, 48, 48, 48, 48, 49, 53, 43, 51, 39, 65, 77, 84, 43, 45, 49, 49, 50, 53, 56, 57, 57, 57, 48, 54, 56, 52, 50, 54, 50, 52, 39, 85, 78, 90, 43, 51, 43, 48, 39]⟩ : GRow) = some r := h
    obtain rfl := Option.some.inj h2
    exact g_read5
  | 6, r, h => by
    have h2 : some (⟨⟨7, 1, 1, 3, cd0, 0, 0⟩, ⟨#[65, 77, 84, 43, 48, 39]⟩, ⟨#[51]⟩, [85, 78, 66, 43, 55, 43, 48, 43, 48, 39, 77, 83, 71, 43, 55, 39, 75, 69, 89, 43, 48, 48, 49, 48, 48, 48, 48, 48, 48, 48, 48, 48, 49, 53, 43, 51, 39, 65, 77, 84, 43, 48, 39, 85, 78, 90, 43, 51, 43, 48, 39]⟩ : GRow) = some r := h
    obtain rfl := Option.some.inj h2
    exact g_read6
  | 7, r, h => by
    have h2 : some (⟨⟨8, 1, 1, 3, cd0, 5, 6⟩, ⟨#[65, 77, 84, 43, 53, 39, 67, 79, 68, 43, 54, 39]⟩, ⟨#[52]⟩, [85, 78, 66, 43, 55, 43, 48, 43, 48, 39, 77, 83, 71, 43, 56, 39, 75, 69, 89, 43, 48, 48, 49, 48, 48, 48, 48, 48, 48, 48, 48, 48, 49, 53, 43, 51, 39, 65, 77, 84, 43, 53, 39, 67, 79, 68, 43, 54, 39, 85, 78, 90, 43, 52, 43, 48, 39]⟩ : GRow) = some r := h
    obtain rfl := Option.some.inj h2
    exact g_read7
  | k + 8, r, h => by cases h
theorem g_text {k : Nat} {r : GRow} (h : grows[k]? = some r) : textM ⟨7, 0, false, 0, r.m⟩ = (r.txt, 0) ∧ catG k r = r.txt := by
  have hk : k < 8 := (List.getElem?_eq_some_iff.1 h).1
  have h1 := g_cat k hk
  rw [h] at h1
  have h2 := Option.some.inj h1
  simp only [decide_eq_true_eq] at h2
  exact ⟨text_is h2.2.1 (g_read k r h) h2.2.2, h2.1⟩
theorem md_ok (k tc ts pl car fl we st no : Nat) (va am co : Int) (h : decide (k < 256 ∧ tc < 256 ∧ ts < 18446744073709551616 ∧ pl < 256 ∧ car < 256 ∧ fl < 65536 ∧ we < 4294967296 ∧ (-9223372036854775808 ≤ va ∧ va ≤ 9223372036854775807) ∧ st < 256 ∧ no < 4294967296 ∧ (-9223372036854775808 ≤ am ∧ am ≤ 9223372036854775807) ∧ (-9223372036854775808 ≤ co ∧ co ≤ 9223372036854775807)) = true) : okM ⟨k, tc, ts, pl, ⟨car, fl, we, va, st, no⟩, am, co⟩ := by
  obtain ⟨h1, h2, h3, h4, h5, h6, h7, h8, h9, h10, h11, h12⟩ := of_decide_eq_true h
  exact ⟨h1, h2, h3, h4, h5, h6, h7, h8, h9, h10, h11, h12⟩
theorem g_ok : ∀ (k : Nat) (r : GRow), grows[k]? = some r → okM r.m
  | 0, r, h => by
    have h2 : some (⟨⟨1, 1, 1, 3, cd0, 0, 0⟩, ⟨#[]⟩, ⟨#[50]⟩, [85, 78, 66, 43, 55, 43, 48, 43, 48, 39, 77, 83, 71, 43, 49, 39, 75, 69, 89, 43, 48, 48, 49, 48, 48, 48, 48, 48, 48, 48, 48, 48, 49, 53, 43, 51, 39, 85, 78, 90, 43, 50, 43, 48, 39]⟩ : GRow) = some r := h
    obtain rfl := Option.some.inj h2
    exact md_ok _ _ _ _ _ _ _ _ _ _ _ _ (by decide)
  | 1, r, h => by
    have h2 : some (⟨⟨2, 1, 1, 3, ⟨7, 65535, 4294967295, -5, 7, 9⟩, 0, 0⟩, ⟨#[67, 80, 78, 43, 55, 43, 54, 53, 53, 51, 53, 43, 52, 50, 57, 52, 57, 54, 55, 50, 57, 53, 43, 45, 53, 43, 55, 43, 57, 39]⟩, ⟨#[51]⟩, [85, 78, 66, 43, 55, 43, 48, 43, 48, 39, 77, 83, 71, 43, 50, 39, 75, 69, 89, 43, 48, 48, 49, 48, 48, 48, 48, 48, 48, 48, 48, 48, 49, 53, 43, 51, 39, 67, 80, 78, 43, 55, 43, 54, 53, 53, 51, 53, 43, 52, 50, 57, 52, 57, 54, 55, 50, 57, 53, 43, 45, 53, 43, 55, 43, 57, 39, 85, 78, 90, 43, 51, 43, 48, 39]⟩ : GRow) = some r := h
    obtain rfl := Option.some.inj h2
    exact md_ok _ _ _ _ _ _ _ _ _ _ _ _ (by decide)
  | 2, r, h => by
    have h2 : some (⟨⟨3, 1, 1, 3, cd0, 0, 999⟩, ⟨#[67, 79, 68, 43, 57, 57, 57, 39]⟩, ⟨#[51]⟩, [85, 78, 66, 43, 55, 43, 48, 43, 48, 39, 77, 83, 71, 43, 51, 39, 75, 69, 89, 43, 48, 48, 49, 48, 48, 48, 48, 48, 48, 48, 48, 48, 49, 53, 43, 51, 39, 67, 79, 68, 43, 57, 57, 57, 39, 85, 78, 90, 43, 51, 43, 48, 39]⟩ : GRow) = some r := h
    obtain rfl := Option.some.inj h2
    exact md_ok _ _ _ _ _ _ _ _ _ _ _ _ (by decide)
  | 3, r, h => by
    have h2 : some (⟨⟨4, 1, 1, 3, cd0, 0, 0⟩, ⟨#[]⟩, ⟨#[50]⟩, [85, 78, 66, 43, 55, 43, 48, 43, 48, 39, 77, 83, 71, 43, 52, 39, 75, 69, 89, 43, 48, 48, 49, 48, 48, 48, 48, 48, 48, 48, 48, 48, 49, 53, 43, 51, 39, 85, 78, 90, 43, 50, 43, 48, 39]⟩ : GRow) = some r := h
    obtain rfl := Option.some.inj h2
    exact md_ok _ _ _ _ _ _ _ _ _ _ _ _ (by decide)
  | 4, r, h => by
    have h2 : some (⟨⟨5, 1, 1, 3, ⟨7, 65535, 4294967295, -5, 7, 9⟩, 0, 0⟩, ⟨#[67, 80, 78, 43, 55, 43, 54, 53, 53, 51, 53, 43, 52, 50, 57, 52, 57, 54, 55, 50, 57, 53, 43, 45, 53, 43, 55, 43, 57, 39]⟩, ⟨#[51]⟩, [85, 78, 66, 43, 55, 43, 48, 43, 48, 39, 77, 83, 71, 43, 53, 39, 75, 69, 89, 43, 48, 48, 49, 48, 48, 48, 48, 48, 48, 48, 48, 48, 49, 53, 43, 51, 39, 67, 80, 78, 43, 55, 43, 54, 53, 53, 51, 53, 43, 52, 50, 57, 52, 57, 54, 55, 50, 57, 53, 43, 45, 53, 43, 55, 43, 57, 39, 85, 78, 90, 43, 51, 43, 48, 39]⟩ : GRow) = some r := h
    obtain rfl := Option.some.inj h2
    exact md_ok _ _ _ _ _ _ _ _ _ _ _ _ (by decide)
  | 5, r, h => by
    have h2 : some (⟨⟨6, 1, 1, 3, cd0, -1125899906842624, 0⟩, ⟨#[65, 77, 84, 43, 45, 49, 49, 50, 53, 56, 57, 57, 57, 48, 54, 56, 52, 50, 54, 50, 52, 39]⟩, ⟨#[51]⟩, [85, 78, 66, 43, 55, 43, 48, 43, 48, 39, 77, 83, 71, 43, 54, 39, 75, 69, 89, 43, 48, 48, 49, 48, 48, 48, 48, 48, 48, 48, 48, 48, 49, 53, 43, 51, 39, 65, 77, 84, 43, 45, 49, 49, 50, 53, 56, 57, 57, 57, 48, 54, 56, 52, 50, 54, 50, 52, 39, 85, 78, 90, 43, 51, 43, 48, 39]⟩ : GRow) = some r := h
    obtain rfl := Option.some.inj h2
    exact md_ok _ _ _ _ _ _ _ _ _ _ _ _ (by decide)
  | 6, r, h => by
    have h2 : some (⟨⟨7, 1, 1, 3, cd0, 0, 0⟩, ⟨#[65, 77, 84, 43, 48, 39]⟩, ⟨#[51]⟩, [85, 78, 66, 43, 55, 43, 48, 43, 48, 39, 77, 83, 71, 43, 55, 39, 75, 69, 89, 43, 48, 48, 49, 48, 48, 48, 48, 48, 48, 48, 48, 48, 49, 53, 43, 51, 39, 65, 77, 84, 43, 48, 39, 85, 78, 90, 43, 51, 43, 48, 39]⟩ : GRow) = some r := h
    obtain rfl := Option.some.inj h2
    exact md_ok _ _ _ _ _ _ _ _ _ _ _ _ (by decide)
  | 7, r, h => by
    have h2 : some (⟨⟨8, 1, 1, 3, cd0, 5, 6⟩, ⟨#[65, 77, 84, 43, 53, 39, 67, 79, 68, 43, 54, 39]⟩, ⟨#[52]⟩, [85, 78, 66, 43, 55, 43, 48, 43, 48, 39, 77, 83, 71, 43, 56, 39, 75, 69, 89, 43, 48, 48, 49, 48, 48, 48, 48, 48, 48, 48, 48, 48, 49, 53, 43, 51, 39, 65, 77, 84, 43, 53, 39, 67, 79, 68, 43, 54, 39, 85, 78, 90, 43, 52, 43, 48, 39]⟩ : GRow) = some r := h
    obtain rfl := Option.some.inj h2
    exact md_ok _ _ _ _ _ _ _ _ _ _ _ _ (by decide)
  | k + 8, r, h => by cases h
theorem b_ok : ∀ (k : Nat) (m : MD), brows[k]? = some m → okM m ∧ wrapM ⟨0, 0, false, 0, m⟩ = (wd0, 101)
  | 0, m, h => by
    have h2 : some (⟨1, 1, 1, 3, cd0, 1, 0⟩ : MD) = some m := h
    obtain rfl := Option.some.inj h2
    exact ⟨md_ok _ _ _ _ _ _ _ _ _ _ _ _ (by decide), by kernel_rfl⟩
  | 1, m, h => by
    have h2 : some (⟨1, 1, 1, 3, cd0, 0, 1⟩ : MD) = some m := h
    obtain rfl := Option.some.inj h2
    exact ⟨md_ok _ _ _ _ _ _ _ _ _ _ _ _ (by decide), by kernel_rfl⟩
  | 2, m, h => by
    have h2 : some (⟨1, 1, 1, 3, ⟨7, 65535, 4294967295, -5, 7, 9⟩, 0, 0⟩ : MD) = some m := h
    obtain rfl := Option.some.inj h2
    exact ⟨md_ok _ _ _ _ _ _ _ _ _ _ _ _ (by decide), by kernel_rfl⟩
  | 3, m, h => by
    have h2 : some (⟨2, 1, 1, 3, cd0, 0, 0⟩ : MD) = some m := h
    obtain rfl := Option.some.inj h2
    exact ⟨md_ok _ _ _ _ _ _ _ _ _ _ _ _ (by decide), by kernel_rfl⟩
  | 4, m, h => by
    have h2 : some (⟨3, 1, 1, 3, cd0, 0, 1000⟩ : MD) = some m := h
    obtain rfl := Option.some.inj h2
    exact ⟨md_ok _ _ _ _ _ _ _ _ _ _ _ _ (by decide), by kernel_rfl⟩
  | 5, m, h => by
    have h2 : some (⟨3, 1, 1, 3, cd0, 0, -1⟩ : MD) = some m := h
    obtain rfl := Option.some.inj h2
    exact ⟨md_ok _ _ _ _ _ _ _ _ _ _ _ _ (by decide), by kernel_rfl⟩
  | 6, m, h => by
    have h2 : some (⟨6, 1, 1, 3, cd0, 1125899906842625, 0⟩ : MD) = some m := h
    obtain rfl := Option.some.inj h2
    exact ⟨md_ok _ _ _ _ _ _ _ _ _ _ _ _ (by decide), by kernel_rfl⟩
  | 7, m, h => by
    have h2 : some (⟨1, 1, 1, 4, cd0, 0, 0⟩ : MD) = some m := h
    obtain rfl := Option.some.inj h2
    exact ⟨md_ok _ _ _ _ _ _ _ _ _ _ _ _ (by decide), by kernel_rfl⟩
  | k + 8, r, h => by cases h
theorem n_fit : ∀ r ∈ nrows, (parseTM ([85, 78, 66, 43, 49, 43, 50, 43, 55, 39] ++ r.t.data.toList ++ [43, 55, 39])).2 = r.e := by decide +kernel
theorem g_size : ∀ r ∈ grows, r.want.size ≤ 100 ∧ r.cnt.size ≤ 100 := by decide +kernel
theorem n_size : ∀ r ∈ nrows, r.t.size ≤ 100 := by decide +kernel
def cellsM : List MD → List Value
  | [] => []
  | m :: l => msgA m ++ cellsM l
theorem cellsM_get : ∀ (l : List MD) (i : Nat) (m : MD) (j : Nat) (x : Value), l[i]? = some m → (msgA m)[j]? = some x → (cellsM l)[i * 12 + j]? = some x
  | [], i, m, j, x, h, _ => by simp at h
  | a :: l, 0, m, j, x, h, hx => by
    simp at h; subst h
    unfold cellsM
    rw [Nat.zero_mul, Nat.zero_add, List.getElem?_append_left (List.getElem?_eq_some_iff.1 hx).1]
    exact hx
  | a :: l, i + 1, m, j, x, h, hx => by
    have h' := cellsM_get l i m j x (by simpa using h) hx
    unfold cellsM
    have hl : (msgA a).length = 12 := rfl
    rw [List.getElem?_append_right (by rw [hl]; omega), hl, show (i + 1) * 12 + j - 12 = i * 12 + j by omega]
    exact h'
def cellsN : List NRow → List Value
  | [] => []
  | r :: l => .string r.t :: .int .i64 r.e :: cellsN l
theorem cellsN_get : ∀ (l : List NRow) (i : Nat) (r : NRow), l[i]? = some r → (cellsN l)[i * 2]? = some (.string r.t) ∧ (cellsN l)[i * 2 + 1]? = some (.int .i64 r.e)
  | [], i, r, h => by simp at h
  | a :: l, 0, r, h => by simp at h; subst h; exact ⟨rfl, rfl⟩
  | a :: l, i + 1, r, h => by
    have h' := cellsN_get l i r (by simpa using h)
    rw [show (i + 1) * 2 = i * 2 + 1 + 1 by omega]
    exact h'
theorem einfo_msg : (Tryz.prog.info? 36).map (fun i => (i.zero, i.size)) = some (some (.agg #[.int .u8 0, .int .u8 0, .int .u64 0, .int .u8 0, .int .u8 0, .int .u16 0, .int .u32 0, .int .i64 0, .int .u8 0, .int .u32 0, .int .i64 0, .int .i64 0]), 12) := by kernel_rfl
theorem einfo_mrow : (Tryz.prog.info? 61).map (fun i => (i.zero, i.size)) = some (some (.agg #[.string ⟨#[]⟩, .int .i64 0]), 2) := by kernel_rfl
theorem info_two {P : Program} {t : TypeId} {z : Value} {s : Nat} (h : (P.info? t).map (fun i => (i.zero, i.size)) = some (some z, s)) : ∃ i, P.info? t = some i ∧ i.zero = some z ∧ i.size = s := by
  cases hi : P.info? t with
  | none => rw [hi] at h; cases h
  | some i =>
    rw [hi] at h
    simp only [Option.map_some, Option.some.injEq, Prod.mk.injEq] at h
    exact ⟨i, rfl, h.1, h.2⟩
theorem cellsM_flat : ∀ l : List MD, (l.map fun m => Value.agg (msgA m).toArray).flatMap (fun v => v.cells.toList) = cellsM l
  | [] => rfl
  | m :: l => by
    rw [List.map_cons, List.flatMap_cons, cellsM_flat l]
    rfl
theorem cellsN_flat : ∀ l : List NRow, (l.map fun r => Value.agg #[.string r.t, .int .i64 r.e]).flatMap (fun v => v.cells.toList) = cellsN l
  | [] => rfl
  | m :: l => by
    rw [List.map_cons, List.flatMap_cons, cellsN_flat l]
    rfl
theorem wpList_msgs {ops : Array Oper} {rest : List Oper} {o : Oper} {a : Act} {w : World} {Q : Exit → Act → World → Prop} (hg : o.guard = none) (len : Nat) (parts : Array (Nat × Operand)) (ho : o.op = .buildSlice 57 len parts) (ms : List MD)
    (hn : ms.length = len) (hpos : 0 < len) (hsm : len ≤ 1000) (hp : (parts.map fun (i, x) => (i, a.eval x)).toList = ((ms.map fun m => Value.agg (msgA m).toArray).zipIdx 0).map fun x => (x.2, x.1))
    (h : wpList Tryz.prog ops Q rest (a.put o.dst (.slice (some ⟨w.heap.size, 0, none⟩) len len)) (w.alloc (.cells (cellsM ms).toArray 36))) : wpList Tryz.prog ops Q (o :: rest) a w := by
  obtain ⟨ie, hie, hiz, his⟩ := info_two einfo_msg
  refine wpList_buildSlice hg 57 36 len parts ho (cellsM ms).toArray ie _ Tryz.underlying57 hie hiz (by rw [his]; omega) (by rw [his]; omega) ?_ h
  rw [his, hp, ← cellsM_flat]
  exact Great.fill_whole (by decide) _ _ (fun v hv => by obtain ⟨s, _, rfl⟩ := List.mem_map.1 hv; rfl) (by simp [hn])
theorem wpList_nrows {ops : Array Oper} {rest : List Oper} {o : Oper} {a : Act} {w : World} {Q : Exit → Act → World → Prop} (hg : o.guard = none) (len : Nat) (parts : Array (Nat × Operand)) (ho : o.op = .buildSlice 62 len parts) (ms : List NRow)
    (hn : ms.length = len) (hpos : 0 < len) (hsm : len ≤ 1000) (hp : (parts.map fun (i, x) => (i, a.eval x)).toList = ((ms.map fun r => Value.agg #[.string r.t, .int .i64 r.e]).zipIdx 0).map fun x => (x.2, x.1))
    (h : wpList Tryz.prog ops Q rest (a.put o.dst (.slice (some ⟨w.heap.size, 0, none⟩) len len)) (w.alloc (.cells (cellsN ms).toArray 61))) : wpList Tryz.prog ops Q (o :: rest) a w := by
  obtain ⟨ie, hie, hiz, his⟩ := info_two einfo_mrow
  refine wpList_buildSlice hg 62 61 len parts ho (cellsN ms).toArray ie _ Tryz.underlying62 hie hiz (by rw [his]; omega) (by rw [his]; omega) ?_ h
  rw [his, hp, ← cellsN_flat]
  exact Great.fill_whole (by decide) _ _ (fun v hv => by obtain ⟨s, _, rfl⟩ := List.mem_map.1 hv; rfl) (by simp [hn])
theorem rangeM {w : World} {b : Nat} {l : List MD} {t : TypeId} (h : w.heap[b]? = some (.cells (cellsM l).toArray t (0, 0))) {i : Nat} {m : MD} (hm : l[i]? = some m) : w.rangeAt b (i * 12) (msgA m) :=
  fun j x hx => by rw [cell_of_row w b _ _ _ _ h, List.getElem?_toArray]; exact cellsM_get l i m j x hm hx
theorem k_w1 : wrapM ⟨8, 0, false, 0, md0⟩ = (wd0, 1) := by kernel_rfl
theorem k_w2 : wrapM ⟨0, 0, false, 0, md0⟩ = (wd0, 100) := by kernel_rfl
theorem k_w3 : wrapM ⟨0, 0, false, 0, ⟨9, 0, 0, 0, cd0, 0, 0⟩⟩ = (wd0, 100) := by kernel_rfl
theorem k_w4 : wrapM ⟨0, 0, false, 0, ⟨1, 0, 0, 0, cd0, 0, 0⟩⟩ = (wd0, 1) := by kernel_rfl
theorem k_w5 : wrapM ⟨0, 0, true, 0, ⟨1, 0, 0, 0, cd0, 0, 0⟩⟩ = (wd0, 101) := by kernel_rfl
theorem k_p1 : packetM ⟨8, 0, 0, []⟩ = (pd0, 1) := by kernel_rfl
theorem k_p2 : packetM ⟨0, 0, 0, []⟩ = (pd0, 100) := by kernel_rfl
end Go.Proofs.YtgfijlamhjjecaaGreatDoor


namespace Go.Proofs.YtgfijlamhjjecaaGreatDoor
open Go.RowKit
def wsameB (a b : WD) : Bool := decide (a.fr = b.fr) && (decide (a.dst = b.dst) && (decide (a.rf = b.rf) && sameB a.segs b.segs))
theorem wsame_iff {a b : WD} : wsameB a b = true ↔ a = b := by
  obtain ⟨a1, a2, a3, a4⟩ := a
  obtain ⟨b1, b2, b3, b4⟩ := b
  unfold wsameB sameB
  simp
def WSameQ (b : Bool) (w : World) (e : Ending) (w' : World) : Prop := e = .returned (.bool b) ∧ Below w.heap.size w w'
theorem WSameQ.no {a b : WD} {w w' : World} (h : a ≠ b) (hb : Below w.heap.size w w') : WSameQ (wsameB a b) w (.returned (.bool false)) w' :=
  ⟨ret_bool (by cases hc : wsameB a b with
    | true => exact absurd (wsame_iff.1 hc) h
    | false => rfl), hb⟩
end Go.Proofs.YtgfijlamhjjecaaGreatDoor


namespace Go.Proofs.YtgfijlamhjjecaaGreatDoor
open Go.RowKit
def WTQ (t : Str) (k : Int) (w : World) (e : Ending) (w' : World) : Prop := e = .returned (.tuple #[sv t, .int .i64 k]) ∧ Below w.heap.size w w'
theorem segs_nil (S : Nat → Prop) (w : World) : SegsAt S w (.slice none 0 0) [] := SegsAt.nil _ _
end Go.Proofs.YtgfijlamhjjecaaGreatDoor


namespace Go.Proofs.YtgfijlamhjjecaaGreatDoor
open Go.Lib Go.RowKit Go.ChangeShapes Go.WideShapes Go.ChangeAt Go.WideElems
section
variable {H : Type} {enc : TypeId × Value → H} {W : World}
end
end Go.Proofs.YtgfijlamhjjecaaGreatDoor


namespace Go.Proofs.YtgfijlamhjjecaaGreatDoor
open Go.Lib Go.RowKit Go.ChangeShapes Go.WideShapes Go.ChangeAt Go.WideElems
theorem gSyn : Tryz.prog.globalNamed "strconv.ErrSyntax" = some 2 := by kernel_rfl
theorem gSynT : (Tryz.prog.globals[2]?).map (·.type) = some 177 := by kernel_rfl
theorem gRng : Tryz.prog.globalNamed "strconv.ErrRange" = some 3 := by kernel_rfl
theorem gRngT : (Tryz.prog.globals[3]?).map (·.type) = some 177 := by kernel_rfl
theorem gPow : Tryz.prog.globalNamed "internal/strconv.uint64pow10" = some 1 := by kernel_rfl
theorem gPowT : (Tryz.prog.globals[1]?).map (·.type) = some 264 := by kernel_rfl
theorem cellsU64 : Tryz.prog.cellsOf 22 = 1 := by kernel_rfl
theorem cellsPow : Tryz.prog.cellsOf 264 = 20 := by kernel_rfl
theorem cellsErr : Tryz.prog.cellsOf 282 = 1 := by kernel_rfl
theorem cellsStr : Tryz.prog.cellsOf 9 = 1 := by kernel_rfl
theorem errStar : "*" ++ "errors.errorString" = "*errors.errorString" := by decide
theorem errRow (u : TypeId) (h : Tryz.prog.typeName? 3 u = some "*errors.errorString") : u = 280 :=
  typeName_ptr_named (nm := "errors.errorString") (by rw [errStar]; kernel_rfl) (by kernel_rfl) (by decide) u (by rw [errStar]; exact h)
theorem vars_of_laid {W : World} (h : laidMetH Tryz.prog Rows.msgWrapsRow.laid W) : VarsOk W := by
  rw [MakeChecks.laidMetH_plain _ _ _ (by kernel_rfl)] at h
  have h2 := h.tail.tail
  have h3 := h2.tail
  have h4 := h3.tail
  obtain ⟨a0, s0, hv0, -, -, -⟩ := laid_sentinel h3 gRng gRngT Tryz.underlying177 errRow Tryz.underlying280 Tryz.underlying282 rfl rfl Tryz.underlying9 cellsErr cellsStr
  obtain ⟨a1, s1, hv1, -, -, -⟩ := laid_sentinel h4 gSyn gSynT Tryz.underlying177 errRow Tryz.underlying280 Tryz.underlying282 rfl rfl Tryz.underlying9 cellsErr cellsStr
  exact ⟨Lib.tabIs_of_head gPow gPowT Tryz.underlying264 Tryz.underlying22 cellsU64 cellsPow h2, ⟨_, _, by have h0 := World.var?_cell gSyn hv1 0; simpa using h0⟩, ⟨_, _, by have h0 := World.var?_cell gRng hv0 0; simpa using h0⟩⟩
theorem door_met (os : Os) (args : Array Value) : laidMet Tryz.prog Rows.msgWrapsRow.laid ((World.doorLaid Tryz.prog 3000 os).forCall (fun _ _ => 0) ⟨#[], args, []⟩).memory :=
  laidMet_of_run' 8 (by kernel_rfl) (by kernel_rfl)
section
variable {H : Type} {enc : TypeId × Value → H} {W : World}
end
end Go.Proofs.YtgfijlamhjjecaaGreatDoor


namespace Go.Proofs.YtgfijlamhjjecaaGreatDoor
open Go.RowKit
end Go.Proofs.YtgfijlamhjjecaaGreatDoor


namespace Go.Proofs.YtgfijlamhjjecaaGreatDoor
open Go.RowKit
end Go.Proofs.YtgfijlamhjjecaaGreatDoor


namespace Go.Proofs.YtgfijlamhjjecaaGreatDoor
open Go.RowKit
theorem nstr_add {a b : Str} (ha : a.length ≤ 100) (hb : b.length ≤ 100) (W : World) : (Op.stringOp .add ⟨a.toArray⟩ ⟨b.toArray⟩).run Tryz.prog W = .ok (.string ⟨(a ++ b).toArray⟩) W := by
  rw [run_string_add_sum _ _ _ (by simp [ByteArray.size]; omega)]
  show Result.ok (Value.string ((⟨a.toArray⟩ : ByteArray) ++ ⟨b.toArray⟩)) W = _
  rw [ByteArray.mk_append_mk]
end Go.Proofs.YtgfijlamhjjecaaGreatDoor


namespace Go.Proofs.YtgfijlamhjjecaaGreatDoor
open Go.RowKit
theorem nought_add {k : Nat} {l : Str} (hl : k + l.length ≤ 100) (W : World) : (Op.stringOp .add ⟨#[48]⟩ ⟨(List.replicate k 48 ++ l).toArray⟩).run Tryz.prog W = .ok (.string ⟨(List.replicate (k + 1) 48 ++ l).toArray⟩) W :=
  nstr_add (a := [48]) (b := List.replicate k 48 ++ l) (by simp) (by simp; omega) W
def szOf : Value → Nat
  | .string b => b.size
  | _ => 0
set_option maxRecDepth 100000 in
set_option maxHeartbeats 2000000 in
theorem npadded_any (u m : Nat) (hm : m ≤ 20) (hm1 : 1 ≤ m) (hu : u < 10 ^ m) (h64 : u < 18446744073709551616) (w : World) (hv : VarsOk w) :
    Calls Tryz.prog 85 #[.int .u64 (u : Int), .int .i64 (m : Int)] w fun e w' => e = .returned (.string ⟨(padN m u).toArray⟩) ∧ Below w.heap.size w w' := by
  obtain ⟨L, hL⟩ : ∃ L, (decT u).length = L := ⟨_, rfl⟩
  have hpad : padN m u = List.replicate (m - L) 48 ++ decT u := by
    cases m with
    | zero => omega
    | succ k => rw [← hL]; exact padN_dec k u hu
  have hLm : L ≤ m := by
    have h := padN_len m u
    rw [hpad] at h
    simp only [List.length_append, List.length_replicate, hL] at h
    omega
  have HP := Lib.hid hpad
  have HL := Lib.hid hL
  clear hpad hL hu
  go_enter Tryz.func85, Tryz.ntmps85
  go_wp2_with (go_at_call 128; refine (fmt_any u h64 _ hv).mono ?_; rintro e w1 ⟨rfl, hb⟩; have HB := Lib.hid hb; clear hb)
  go_loop [5] (fun s => ∃ (k : Nat), k + L ≤ m ∧ s = .string ⟨(List.replicate k 48 ++ decT u).toArray⟩) (fun s => m - szOf s)
  case atStart => exact ⟨0, by omega, rfl⟩
  case round =>
    obtain ⟨k, hk, rfl⟩ := hrel
    have hadd := nought_add (k := k) (l := decT u) (by rw [HL.out]; omega)
    obtain ⟨ds, hds⟩ : ∃ ds : ByteArray, (⟨(List.replicate k 48 ++ decT u).toArray⟩ : ByteArray) = ds := ⟨_, rfl⟩
    obtain ⟨es, hes⟩ : ∃ ds : ByteArray, (⟨(List.replicate (k + 1) 48 ++ decT u).toArray⟩ : ByteArray) = ds := ⟨_, rfl⟩
    have hsz : ds.size = k + L := by rw [← hds]; simp [ByteArray.size, HL.out]
    have hse : es.size = k + 1 + L := by rw [← hes]; simp [ByteArray.size, HL.out]
    rw [hds, hes] at hadd
    rw [hds]
    have HDS := Lib.hid hds
    have HES := Lib.hid hes
    have HSZ := Lib.hid hsz
    have HSE := Lib.hid hse
    by_cases hlt : k + L < m
    · have i1 : (ds.size : Int) < (m : Int) := by omega
      clear hds hes hsz hse
      go_wp2_with fail
      go_round
      case rel => exact ⟨k + 1, by omega, by rw [HES.out]⟩
      case measure => simp only [szOf]; rw [HSZ.out, HSE.out]; omega
    · have i1 : ¬ (ds.size : Int) < (m : Int) := by omega
      clear hds hes hsz hse
      go_wp2_with fail
      go_ret
      refine ⟨?_, HB.out⟩
      show Ending.returned (.string ds) = _
      rw [HP.out, show m - L = k by omega, HDS.out]
end Go.Proofs.YtgfijlamhjjecaaGreatDoor


namespace Go.Proofs.YtgfijlamhjjecaaGreatDoor
open Go.RowKit
inductive PT where
  | nil : PT
  | val : Nat → PT → PT
  | one : Nat → PT → PT
  | two : Nat → PT → Nat → PT → PT
def PT.len : PT → Nat
  | .nil => 0
  | .val _ r => r.len + 1
  | .one _ r => r.len + 1
  | .two _ r _ _ => r.len + 1
section
variable {P : Program} {ops : Array Oper} {Q : Exit → Act → World → Prop} {md : Region.Mode} {S : World → Prop}
def planTB (md : Region.Mode) (ops : Array Oper) : PT → Array Bool → Bool
  | .nil, listed => (Region.ready md ops listed).isEmpty
  | .val i r, listed => (Region.ready md ops listed).contains i && Region.free md ops listed i && planTB md ops r (listed.setIfInBounds i true)
  | .one i r, listed => decide (Region.ready md ops listed = [i]) && planTB md ops r (listed.setIfInBounds i true)
  | .two i r j q, listed => decide (Region.ready md ops listed = [i, j]) && decide (r.len = q.len) && planTB md ops r (listed.setIfInBounds i true) && planTB md ops q (listed.setIfInBounds j true)
def planTOK (md : Region.Mode) (ops : Array Oper) (plan : PT) : Bool :=
  Region.noSelect ops && decide (plan.len = ops.size) && planTB md ops plan (Array.replicate ops.size false)
def wpPlanT (P : Program) (ops : Array Oper) (S : World → Prop) (Q : Exit → Act → World → Prop) : PT → Act → World → Prop
  | .nil, a, w => Q .normal a w
  | .val i r, a, w => ∃ o v, ops[i]? = some o ∧ YieldsIf P ops S o v a ∧ wpPlanT P ops S Q r (a.put o.dst v) w
  | .one i r, a, w => wpOp P ops Q i (fun a' w' => S w' ∧ wpPlanT P ops S Q r a' w') a w
  | .two i r j q, a, w => wpOp P ops Q i (fun a' w' => S w' ∧ wpPlanT P ops S Q r a' w') a w ∧ wpOp P ops Q j (fun a' w' => S w' ∧ wpPlanT P ops S Q q a' w') a w
theorem wpPlanT_held (hs : Region.noSelect ops = true) (hQ : ∀ c a d v w, Q (.panic c) (a.put d v) w → Q (.panic c) a w) :
    ∀ (plan : PT) (listed : Array Bool) (a : Act) (w : World), planTB md ops plan listed = true → S w → wpPlanT P ops S Q plan a w → wpAnyH P md ops Q S plan.len listed a w
  | .nil, _, _, _, hB, _, h => ⟨by simpa [planTB] using hB, h⟩
  | .val i r, listed, a, w, hB, hS, h => by
    simp only [planTB, Bool.and_eq_true] at hB
    obtain ⟨o, v, hi, hy, h⟩ := h
    exact wpAnyH_take hi hs hB.1.2 hB.1.1 (fun c a w => hQ c a _ _ w) hy hS (wpPlanT_held hs hQ r _ _ _ hB.2 hS h)
  | .one i r, listed, a, w, hB, hS, h => by
    simp only [planTB, Bool.and_eq_true, decide_eq_true_eq] at hB
    refine wpAnyH_all hB.1 (by simp) (fun j hj => ?_)
    have e : j = i := by simpa using hj
    subst e
    exact wpOp_mono (fun a' w' h' => ⟨h'.1, wpPlanT_held hs hQ r _ _ _ hB.2 h'.1 h'.2⟩) h
  | .two i r j q, listed, a, w, hB, hS, h => by
    simp only [planTB, Bool.and_eq_true, decide_eq_true_eq] at hB
    refine wpAnyH_all hB.1.1.1 (by simp) (fun k hk => ?_)
    have e : k = i ∨ k = j := by simpa using hk
    rcases e with e | e
    · subst e
      exact wpOp_mono (fun a' w' h' => ⟨h'.1, wpPlanT_held hs hQ r _ _ _ hB.1.2 h'.1 h'.2⟩) h.1
    · subst e
      exact wpOp_mono (fun a' w' h' => ⟨h'.1, by
        have h3 := wpPlanT_held hs hQ q _ _ _ hB.2 h'.1 h'.2
        rw [← hB.1.1.2] at h3
        exact h3⟩) h.2
theorem wp_region_planT {id : Nat} {a : Act} {w : World} {l : List Oper} (plan : PT) (S : World → Prop) (hm : P.follows .mixedOrders = true) (hB : planTOK .any l.toArray plan = true) (hS : S w.drew)
    (h : wpPlanT P l.toArray S (NoPanic Q) plan a w.drew) : (Code.region id l.toArray true).wp P Q a w := by
  simp only [planTOK, Bool.and_eq_true, decide_eq_true_eq] at hB
  refine wp_region_noPanic (wp_region_held (S := S) hm ?_)
  have := wpPlanT_held (md := .any) hB.1.1 (Q := NoPanic Q) (fun c a d v w h => h) plan _ a w.drew hB.2 hS h
  rw [hB.1.2] at this
  exact this
theorem planT_val {l : List Oper} {i : Nat} {o : Oper} {v : Value} {r : PT} {a : Act} {w : World} (hi : nthO l i = some o) (hw : Region.wanted o (yielded l.toArray a.tmps) = true)
    (hrun : ∀ w', S w' → (execOp a.eval o).run P w' = .ok (.value v) w') (h : wpPlanT P l.toArray S Q r (a.put o.dst v) w) : wpPlanT P l.toArray S Q (.val i r) a w :=
  ⟨o, v, by rw [List.getElem?_toArray, ← nthO_eq]; exact hi, .inl ⟨hw, hrun⟩, h⟩
theorem planT_nil {a : Act} {w : World} (h : Q .normal a w) : wpPlanT P ops S (NoPanic Q) .nil a w := h
theorem planT_op {l : List Oper} {i : Nat} {o : Oper} {r : PT} {a : Act} {w : World} (hi' : nthO l i = some o)
    (h : ∀ K : Act → World → Prop, (∀ a' w', S w' → wpPlanT P l.toArray S Q r a' w' → K a' w') → wpList P l.toArray (Exit.then K Q) [o] a w) : wpOp P l.toArray Q i (fun a' w' => S w' ∧ wpPlanT P l.toArray S Q r a' w') a w := by
  have hi : l.toArray[i]? = some o := by rw [List.getElem?_toArray, ← nthO_eq]; exact hi'
  have h0 := h _ (fun a' w' h1 h2 => (⟨h1, h2⟩ : S w' ∧ wpPlanT P l.toArray S Q r a' w'))
  unfold wpOp
  rw [hi]
  simp only [wpList] at h0 ⊢
  split
  · rename_i hw
    rw [if_pos hw] at h0
    rcases h0 with h0 | ⟨h0, a1, w1, h1⟩
    · exact .inl (Oper.wp_post (fun _ _ _ h => h) (fun ⟨a, w, h⟩ => ⟨a, w, h⟩) h0)
    · exact .inr ⟨h0, a1, w1, h1⟩
  · rename_i hw
    rw [if_neg hw] at h0
    exact h0
theorem planT_do {l : List Oper} {i : Nat} {o : Oper} {r : PT} {a : Act} {w : World} (hi' : nthO l i = some o)
    (h : ∀ K : Act → World → Prop, (∀ a' w', S w' → wpPlanT P l.toArray S Q r a' w' → K a' w') → wpList P l.toArray (Exit.then K Q) [o] a w) : wpPlanT P l.toArray S Q (.one i r) a w := planT_op hi' h
theorem planT_two {l : List Oper} {i j : Nat} {r q : PT} {a : Act} {w : World} (h1 : wpOp P l.toArray Q i (fun a' w' => S w' ∧ wpPlanT P l.toArray S Q r a' w') a w) (h2 : wpOp P l.toArray Q j (fun a' w' => S w' ∧ wpPlanT P l.toArray S Q q a' w') a w) : wpPlanT P l.toArray S Q (.two i r j q) a w := ⟨h1, h2⟩
end
end Go.Proofs.YtgfijlamhjjecaaGreatDoor


namespace Go.Proofs.YtgfijlamhjjecaaGreatDoor
open Go.RowKit
theorem digC_utf8 {d : Nat} (h : d < 10) : Utf8.encode (48 + (d : Int)) = ⟨#[digC d]⟩ := by
  match d, h with
  | 0, _ => rfl
  | 1, _ => rfl
  | 2, _ => rfl
  | 3, _ => rfl
  | 4, _ => rfl
  | 5, _ => rfl
  | 6, _ => rfl
  | 7, _ => rfl
  | 8, _ => rfl
  | 9, _ => rfl
set_option maxHeartbeats 1000000 in
theorem nText1_any (b : Nat) (s : ByteArray) (hs : s.size ≤ 18) (hd : s.data.toList.all digB = true) (w : World) (hc : w.cell? ⟨b, 0, none⟩ = some (.string s)) :
    Calls Tryz.prog 86 #[.pointer (some ⟨b, 0, none⟩)] w fun e w' => e = .returned (.int .u64 ((valN s.data.toList % 7 : Nat) : Int)) ∧ Below w.heap.size w w' := by
  have hv := value_any s hs
  rw [hd, if_pos rfl] at hv
  obtain ⟨V, hV⟩ : ∃ V, valN s.data.toList = V := ⟨_, rfl⟩
  rw [hV] at hv ⊢
  have q2 : (V : Int).tmod 7 = ((V % 7 : Nat) : Int) := by rw [Int.tmod_eq_emod_of_nonneg (by omega)]; omega
  have wr2 : IntKind.u64.wrap ((V % 7 : Nat) : Int) = ((V % 7 : Nat) : Int) := by rw [IntKind.wrap_u64]; omega
  have HV := Lib.hid hv
  clear hv hV hd
  go_enter Tryz.func86, Tryz.ntmps86
  go_wp2_with (go_at_call 87; refine (HV.out _).mono ?_; rintro e w1 ⟨rfl, hb⟩; have HB := Lib.hid hb; clear hb)
  go_ret
  exact ⟨rfl, HB.out⟩
set_option maxRecDepth 100000 in
set_option maxHeartbeats 2000000 in
theorem nText_no {c s : Nat} (hc : c < 256) (_hs : s < 18446744073709551616) (h : mayT c s = false) (w : World) : Calls Tryz.prog 44 #[.agg #[.int .u8 (c : Int), .int .u64 (s : Int)]] w fun e w' => e = .returned (.tuple #[.string ⟨#[]⟩, .int .i64 1]) ∧ Below w.heap.size w w' := by
  have w1 : IntKind.u64.wrap (c : Int) = (c : Int) := by rw [IntKind.wrap_u64]; omega
  have HM := Lib.hid (fun w => nmay_any c s w)
  go_enter Tryz.func44, Tryz.ntmps44
  go_wp2_with (go_at_call 84; refine (HM.out _).mono ?_; rw [h]; rintro e w2 ⟨rfl, rfl⟩)
  go_ret2
  exact ⟨rfl, (Below.refl _ w).alloc (Nat.le_refl _) _⟩
set_option maxRecDepth 100000 in
set_option maxHeartbeats 4000000 in
theorem nText_ok {c s : Nat} (h : mayT c s = true) (w : World) (hv : VarsOk w) : Calls Tryz.prog 44 #[.agg #[.int .u8 (c : Int), .int .u64 (s : Int)]] w fun e w' => e = .returned (.tuple #[.string ⟨(body7 c s ++ [digC ((c * 10000000000 + s) % 7)]).toArray⟩, .int .i64 0]) ∧ Below w.heap.size w w' := by
  obtain ⟨hc, _, hs⟩ := mayT_iff.1 h
  have hb7 := body7_val h
  have hadd := nstr_add (a := padN 3 c) (b := padN 10 s) (by rw [padN_len]; omega) (by rw [padN_len]; omega)
  have hadd2 := nstr_add (a := body7 c s) (b := [digC ((c * 10000000000 + s) % 7)]) (by rw [body7_len]; omega) (by simp)
  rw [show padN 3 c ++ padN 10 s = body7 c s from rfl] at hadd
  obtain ⟨m, hm⟩ : ∃ m, (c * 10000000000 + s) % 7 = m := ⟨_, rfl⟩
  have hm7 : m < 10 := by omega
  rw [hm] at hadd2 ⊢
  obtain ⟨d1, hd1⟩ : ∃ ds : ByteArray, (⟨(padN 3 c).toArray⟩ : ByteArray) = ds := ⟨_, rfl⟩
  obtain ⟨d2, hd2⟩ : ∃ ds : ByteArray, (⟨(padN 10 s).toArray⟩ : ByteArray) = ds := ⟨_, rfl⟩
  obtain ⟨d3, hd3⟩ : ∃ ds : ByteArray, (⟨(body7 c s).toArray⟩ : ByteArray) = ds := ⟨_, rfl⟩
  have hd4 : Utf8.encode (48 + (m : Int)) = ⟨[digC m].toArray⟩ := digC_utf8 hm7
  obtain ⟨d4, hd4'⟩ : ∃ ds : ByteArray, (⟨[digC m].toArray⟩ : ByteArray) = ds := ⟨_, rfl⟩
  obtain ⟨d5, hd5⟩ : ∃ ds : ByteArray, (⟨(body7 c s ++ [digC m]).toArray⟩ : ByteArray) = ds := ⟨_, rfl⟩
  have P1 := Lib.hid (show ∀ w : World, VarsOk w → Calls Tryz.prog 85 #[.int .u64 (c : Int), .int .i64 3] w (fun e w' => e = .returned (.string d1) ∧ Below w.heap.size w w') from fun w hv => by rw [← hd1]; exact npadded_any c 3 (by omega) (by omega) (by omega) (by omega) w hv)
  have P2 := Lib.hid (show ∀ w : World, VarsOk w → Calls Tryz.prog 85 #[.int .u64 (s : Int), .int .i64 10] w (fun e w' => e = .returned (.string d2) ∧ Below w.heap.size w w') from fun w hv => by rw [← hd2]; exact npadded_any s 10 (by omega) (by omega) (by omega) (by omega) w hv)
  have P3 := Lib.hid (show ∀ (w : World) (b : Nat), w.cell? ⟨b, 0, none⟩ = some (.string d3) → Calls Tryz.prog 86 #[.pointer (some ⟨b, 0, none⟩)] w (fun e w' => e = .returned (.int .u64 (m : Int)) ∧ Below w.heap.size w w') from fun w b hcl => by
    have h1 := nText1_any b d3 (by rw [← hd3]; have := body7_len c s; simp [ByteArray.size]; omega) (by rw [← hd3]; simpa using List.all_eq_true.2 (body7_digs c s)) w hcl
    rw [show d3.data.toList = body7 c s by rw [← hd3], hb7, hm] at h1
    exact h1)
  rw [hd1, hd2, hd3] at hadd
  rw [hd4'] at hd4
  rw [hd3, hd4', hd5] at hadd2
  rw [hd5]
  have w1 : IntKind.u64.wrap (c : Int) = (c : Int) := by rw [IntKind.wrap_u64]; omega
  have w2 : IntKind.u64.wrap (48 + (m : Int)) = 48 + (m : Int) := by rw [IntKind.wrap_u64]; omega
  have w3 : IntKind.i32.wrap (48 + (m : Int)) = 48 + (m : Int) := by simp [IntKind.wrap, IntKind.bits, IntKind.signed]; omega
  have HM := Lib.hid (fun w => nmay_any c s w)
  have HV := Lib.hid hv
  clear hd1 hd2 hd3 hd4' hd5 hb7 hm hv
  go_enter Tryz.func44, Tryz.ntmps44
  go_upto_region 3 with (go_at_call 84; refine (HM.out _).mono ?_; rw [h]; rintro e wA ⟨rfl, rfl⟩)
  obtain ⟨B, hB⟩ : ∃ B, w.heap.size = B := ⟨_, rfl⟩
  obtain ⟨wd, hwd⟩ : ∃ wd, (w.alloc (.cells #[.int .u8 (c : Int), .int .u64 (s : Int)] 24)).drew = wd := ⟨_, rfl⟩
  have hz : B < wd.heap.size := by rw [← hwd, ← hB]; simp
  have HB1 : Hid (Below B w wd) := Lib.hid (by rw [← hwd, ← hB]; exact ((Below.refl _ w).alloc (Nat.le_refl _) _).drew)
  have cb0 : wd.cell? ⟨B, 0, none⟩ = some (.int .u8 (c : Int)) := by rw [← hwd, ← hB]; exact (by rw [cell_of_row _ w.heap.size 0 _ _ _ (heap_alloc_new _ _)]; rfl : (w.alloc (.cells #[.int .u8 (c : Int), .int .u64 (s : Int)] 24)).cell? ⟨w.heap.size, 0, none⟩ = some (.int .u8 (c : Int)))
  have cb1 : wd.cell? ⟨B, 1, none⟩ = some (.int .u64 (s : Int)) := by rw [← hwd, ← hB]; exact (by rw [cell_of_row _ w.heap.size 1 _ _ _ (heap_alloc_new _ _)]; rfl : (w.alloc (.cells #[.int .u8 (c : Int), .int .u64 (s : Int)] 24)).cell? ⟨w.heap.size, 1, none⟩ = some (.int .u64 (s : Int)))
  have HV1 := Lib.hid (HV.out.on HB1.out (by omega))
  have HBQ := Lib.hid hB
  refine wp_region_planT (.val 0 (.val 1 (.val 2 (.val 4 (.val 5 (.two 3 (.two 6 (.val 7 (.one 8 (.one 9 .nil))) 8 (.one 6 (.val 7 (.one 9 .nil)))) 8 (.one 3 (.one 6 (.val 7 (.one 9 .nil)))))))))) (fun w' => w'.cell? ⟨B, 0, none⟩ = some (.int .u8 (c : Int)) ∧ w'.cell? ⟨B, 1, none⟩ = some (.int .u64 (s : Int))) (by kernel_rfl) (by kernel_rfl) (by rw [hwd]; exact ⟨cb0, cb1⟩) ?_
  rw [hwd, hB]
  clear hwd hB
  iterate 5 (refine' planT_val rfl rfl (fun w' hS => ?_) ?_; rotate_left; (focus (first | rfl | (obtain ⟨hS1, hS2⟩ := hS; go_simp; rfl))); simp only [Act.put, List.setIfInBounds_toArray, List.set_cons_zero, List.set_cons_succ])
  have HCwd : Hid (wd.cell? ⟨B, 0, none⟩ = some (.int .u8 (c : Int)) ∧ wd.cell? ⟨B, 1, none⟩ = some (.int .u64 (s : Int))) := Lib.hid ⟨cb0, cb1⟩
  have hzwd : B < wd.heap.size ∧ True := ⟨hz, trivial⟩
  have HBwd := HB1
  clear hz cb0 cb1 HV1
  refine planT_two ?_ ?_
  · refine planT_op rfl (fun K hK => ?_)
    go_wp2_with (go_at_call 85; refine (P1.out _ (HV.out.on HBwd.out (by rw [HBQ.out]; exact Nat.le_refl _))).mono ?_; rintro e wB ⟨rfl, hb⟩; have HUwB := Lib.hid hb; clear hb)
    have hzwB : B < wB.heap.size ∧ wd.heap.size ≤ wB.heap.size := ⟨Nat.lt_of_lt_of_le hzwd.1 HUwB.out.size, HUwB.out.size⟩
    have HBwB : Hid (Below B w wB) := Lib.hid (HBwd.out.trans (HUwB.out.mono (by omega)))
    have HCwB : Hid (wB.cell? ⟨B, 0, none⟩ = some (.int .u8 (c : Int)) ∧ wB.cell? ⟨B, 1, none⟩ = some (.int .u64 (s : Int))) := Lib.hid ⟨(HUwB.out.cell (p := ⟨B, 0, none⟩) hzwd.1).trans HCwd.out.1, (HUwB.out.cell (p := ⟨B, 1, none⟩) hzwd.1).trans HCwd.out.2⟩
    refine hK _ _ HCwB.out ?_
    clear hK K
    refine planT_two ?_ ?_
    · refine planT_op rfl (fun K hK => ?_)
      go_wp2_with (go_at_call 85; refine (P2.out _ (HV.out.on HBwB.out (by rw [HBQ.out]; exact Nat.le_refl _))).mono ?_; rintro e wC ⟨rfl, hb⟩; have HUwC := Lib.hid hb; clear hb)
      have hzwC : B < wC.heap.size ∧ wB.heap.size ≤ wC.heap.size := ⟨Nat.lt_of_lt_of_le hzwB.1 HUwC.out.size, HUwC.out.size⟩
      have HBwC : Hid (Below B w wC) := Lib.hid (HBwB.out.trans (HUwC.out.mono (by omega)))
      have HCwC : Hid (wC.cell? ⟨B, 0, none⟩ = some (.int .u8 (c : Int)) ∧ wC.cell? ⟨B, 1, none⟩ = some (.int .u64 (s : Int))) := Lib.hid ⟨(HUwC.out.cell (p := ⟨B, 0, none⟩) hzwB.1).trans HCwB.out.1, (HUwC.out.cell (p := ⟨B, 1, none⟩) hzwB.1).trans HCwB.out.2⟩
      refine hK _ _ HCwC.out ?_
      clear hK K
      (refine' planT_val rfl rfl (fun w' hS => ?_) ?_; rotate_left; (focus (first | rfl | (obtain ⟨hS1, hS2⟩ := hS; go_simp; rfl))); simp only [Act.put, List.setIfInBounds_toArray, List.set_cons_zero, List.set_cons_succ])
      refine planT_do rfl (fun K hK => ?_)
      go_wp2_with fail
      obtain ⟨D, hD⟩ : ∃ D, wC.heap.size = D := ⟨_, rfl⟩
      obtain ⟨wF, hw⟩ : ∃ wn, wC.alloc (.cells #[.string ⟨#[]⟩] 9) = wn := ⟨_, rfl⟩
      have HUwF : Hid (Below wC.heap.size wC wF) := Lib.hid (by rw [← hw]; exact (Below.refl _ _).alloc (Nat.le_refl _) _)
      have HAD : Hid (wF.heap[D]? = some (.cells #[.string ⟨#[]⟩] 9 (0, 0))) := Lib.hid (by rw [← hw, ← hD]; exact heap_alloc_new _ _)
      have hzwF : B < wF.heap.size ∧ wC.heap.size ≤ wF.heap.size ∧ B < D ∧ D < wF.heap.size := by rw [← hw]; have := hzwC.1; simp; omega
      have HBwF : Hid (Below B w wF) := Lib.hid (HBwC.out.trans (HUwF.out.mono (by omega)))
      have HCwF : Hid (wF.cell? ⟨B, 0, none⟩ = some (.int .u8 (c : Int)) ∧ wF.cell? ⟨B, 1, none⟩ = some (.int .u64 (s : Int))) := Lib.hid ⟨(HUwF.out.cell (p := ⟨B, 0, none⟩) hzwC.1).trans HCwC.out.1, (HUwF.out.cell (p := ⟨B, 1, none⟩) hzwC.1).trans HCwC.out.2⟩
      rw [hw, hD]
      clear hw hD
      refine hK _ _ HCwF.out ?_
      clear hK K
      have d0 : wF.cell? ⟨D, 0, none⟩ = some (.string ⟨#[]⟩) := cell_of_row wF D 0 _ _ _ HAD.out
      have f0 := frozen_of_row wF D 0 _ _ HAD.out
      refine planT_do rfl (fun K hK => ?_)
      go_wp2_with fail
      refine hK _ _ ⟨(cell_ag (heap_setCell_other _ _ _ _ (by simp; omega))).trans HCwF.out.1, (cell_ag (heap_setCell_other _ _ _ _ (by simp; omega))).trans HCwF.out.2⟩ ?_
      clear hK K
      refine planT_nil ?_
      obtain ⟨W, hW⟩ : ∃ W, wF.setCell ⟨D, 0, none⟩ (.string d3) = W := ⟨_, rfl⟩
      have hc4 : W.cell? ⟨D, 0, none⟩ = some (.string d3) := cell_of_row W D 0 _ _ _ (by rw [← hW]; exact heap_setCell_same _ D 0 _ _ _ HAD.out)
      have HBW : Hid (Below B w W) := Lib.hid (by rw [← hW]; exact HBwF.out.setCell (by show B ≤ D; omega) _)
      have hzW : D < W.heap.size := by rw [← hW]; simp; omega
      rw [hW]
      clear hW d0 f0
      go_upto_region 5 with fail
      refine wp_region_plan [(0, false), (1, false), (2, true), (3, false), (4, false), (5, false), (6, false), (7, false), (8, false)] (fun w' => w'.cell? ⟨D, 0, none⟩ = some (.string d3)) (by kernel_rfl) (by kernel_rfl) hc4 ?_
      iterate 2 (refine' plan_val rfl rfl (fun w' hS => ?_) ?_; rotate_left; (focus (go_simp; rfl)); simp only [Act.put, List.setIfInBounds_toArray, List.set_cons_zero, List.set_cons_succ])
      refine plan_do rfl (fun K hK => ?_)
      go_wp2_with (go_at_call 86; refine (P3.out W.drew D hc4).mono ?_; rintro e wE ⟨rfl, hb⟩; have HBE := Lib.hid hb; clear hb)
      refine hK _ _ ((HBE.out.cell (p := ⟨D, 0, none⟩) hzW).trans hc4) ?_
      clear hK K
      iterate 6 (refine' plan_val rfl rfl (fun w' hS => ?_) ?_; rotate_left; (focus (go_simp; rfl)); simp only [Act.put, List.setIfInBounds_toArray, List.set_cons_zero, List.set_cons_succ])
      refine plan_nil ?_
      go_wp2_with fail
      go_ret2
      refine ⟨rfl, ?_⟩
      rw [HBQ.out]
      exact HBW.out.trans ((Below.refl _ _).drew.trans (HBE.out.mono (by simp; omega)))
    · refine planT_op rfl (fun K hK => ?_)
      go_wp2_with fail
      obtain ⟨D, hD⟩ : ∃ D, wB.heap.size = D := ⟨_, rfl⟩
      obtain ⟨wC, hw⟩ : ∃ wn, wB.alloc (.cells #[.string ⟨#[]⟩] 9) = wn := ⟨_, rfl⟩
      have HUwC : Hid (Below wB.heap.size wB wC) := Lib.hid (by rw [← hw]; exact (Below.refl _ _).alloc (Nat.le_refl _) _)
      have HAD : Hid (wC.heap[D]? = some (.cells #[.string ⟨#[]⟩] 9 (0, 0))) := Lib.hid (by rw [← hw, ← hD]; exact heap_alloc_new _ _)
      have hzwC : B < wC.heap.size ∧ wB.heap.size ≤ wC.heap.size ∧ B < D ∧ D < wC.heap.size := by rw [← hw]; have := hzwB.1; simp; omega
      have HBwC : Hid (Below B w wC) := Lib.hid (HBwB.out.trans (HUwC.out.mono (by omega)))
      have HCwC : Hid (wC.cell? ⟨B, 0, none⟩ = some (.int .u8 (c : Int)) ∧ wC.cell? ⟨B, 1, none⟩ = some (.int .u64 (s : Int))) := Lib.hid ⟨(HUwC.out.cell (p := ⟨B, 0, none⟩) hzwB.1).trans HCwB.out.1, (HUwC.out.cell (p := ⟨B, 1, none⟩) hzwB.1).trans HCwB.out.2⟩
      rw [hw, hD]
      clear hw hD
      refine hK _ _ HCwC.out ?_
      clear hK K
      refine planT_do rfl (fun K hK => ?_)
      go_wp2_with (go_at_call 85; refine (P2.out _ (HV.out.on HBwC.out (by rw [HBQ.out]; exact Nat.le_refl _))).mono ?_; rintro e wF ⟨rfl, hb⟩; have HUwF := Lib.hid hb; clear hb)
      have hzwF : B < wF.heap.size ∧ wC.heap.size ≤ wF.heap.size := ⟨Nat.lt_of_lt_of_le hzwC.1 HUwF.out.size, HUwF.out.size⟩
      have HBwF : Hid (Below B w wF) := Lib.hid (HBwC.out.trans (HUwF.out.mono (by omega)))
      have HCwF : Hid (wF.cell? ⟨B, 0, none⟩ = some (.int .u8 (c : Int)) ∧ wF.cell? ⟨B, 1, none⟩ = some (.int .u64 (s : Int))) := Lib.hid ⟨(HUwF.out.cell (p := ⟨B, 0, none⟩) hzwC.1).trans HCwC.out.1, (HUwF.out.cell (p := ⟨B, 1, none⟩) hzwC.1).trans HCwC.out.2⟩
      refine hK _ _ HCwF.out ?_
      clear hK K
      have HAD : Hid (wF.heap[D]? = some (.cells #[.string ⟨#[]⟩] 9 (0, 0))) := Lib.hid ((HUwF.out.block D (by omega)).trans HAD.out)
      (refine' planT_val rfl rfl (fun w' hS => ?_) ?_; rotate_left; (focus (first | rfl | (obtain ⟨hS1, hS2⟩ := hS; go_simp; rfl))); simp only [Act.put, List.setIfInBounds_toArray, List.set_cons_zero, List.set_cons_succ])
      have d0 : wF.cell? ⟨D, 0, none⟩ = some (.string ⟨#[]⟩) := cell_of_row wF D 0 _ _ _ HAD.out
      have f0 := frozen_of_row wF D 0 _ _ HAD.out
      refine planT_do rfl (fun K hK => ?_)
      go_wp2_with fail
      refine hK _ _ ⟨(cell_ag (heap_setCell_other _ _ _ _ (by simp; omega))).trans HCwF.out.1, (cell_ag (heap_setCell_other _ _ _ _ (by simp; omega))).trans HCwF.out.2⟩ ?_
      clear hK K
      refine planT_nil ?_
      obtain ⟨W, hW⟩ : ∃ W, wF.setCell ⟨D, 0, none⟩ (.string d3) = W := ⟨_, rfl⟩
      have hc4 : W.cell? ⟨D, 0, none⟩ = some (.string d3) := cell_of_row W D 0 _ _ _ (by rw [← hW]; exact heap_setCell_same _ D 0 _ _ _ HAD.out)
      have HBW : Hid (Below B w W) := Lib.hid (by rw [← hW]; exact HBwF.out.setCell (by show B ≤ D; omega) _)
      have hzW : D < W.heap.size := by rw [← hW]; simp; omega
      rw [hW]
      clear hW d0 f0
      go_upto_region 5 with fail
      refine wp_region_plan [(0, false), (1, false), (2, true), (3, false), (4, false), (5, false), (6, false), (7, false), (8, false)] (fun w' => w'.cell? ⟨D, 0, none⟩ = some (.string d3)) (by kernel_rfl) (by kernel_rfl) hc4 ?_
      iterate 2 (refine' plan_val rfl rfl (fun w' hS => ?_) ?_; rotate_left; (focus (go_simp; rfl)); simp only [Act.put, List.setIfInBounds_toArray, List.set_cons_zero, List.set_cons_succ])
      refine plan_do rfl (fun K hK => ?_)
      go_wp2_with (go_at_call 86; refine (P3.out W.drew D hc4).mono ?_; rintro e wE ⟨rfl, hb⟩; have HBE := Lib.hid hb; clear hb)
      refine hK _ _ ((HBE.out.cell (p := ⟨D, 0, none⟩) hzW).trans hc4) ?_
      clear hK K
      iterate 6 (refine' plan_val rfl rfl (fun w' hS => ?_) ?_; rotate_left; (focus (go_simp; rfl)); simp only [Act.put, List.setIfInBounds_toArray, List.set_cons_zero, List.set_cons_succ])
      refine plan_nil ?_
      go_wp2_with fail
      go_ret2
      refine ⟨rfl, ?_⟩
      rw [HBQ.out]
      exact HBW.out.trans ((Below.refl _ _).drew.trans (HBE.out.mono (by simp; omega)))
  · refine planT_op rfl (fun K hK => ?_)
    go_wp2_with fail
    obtain ⟨D, hD⟩ : ∃ D, wd.heap.size = D := ⟨_, rfl⟩
    obtain ⟨wB, hw⟩ : ∃ wn, wd.alloc (.cells #[.string ⟨#[]⟩] 9) = wn := ⟨_, rfl⟩
    have HUwB : Hid (Below wd.heap.size wd wB) := Lib.hid (by rw [← hw]; exact (Below.refl _ _).alloc (Nat.le_refl _) _)
    have HAD : Hid (wB.heap[D]? = some (.cells #[.string ⟨#[]⟩] 9 (0, 0))) := Lib.hid (by rw [← hw, ← hD]; exact heap_alloc_new _ _)
    have hzwB : B < wB.heap.size ∧ wd.heap.size ≤ wB.heap.size ∧ B < D ∧ D < wB.heap.size := by rw [← hw]; have := hzwd.1; simp; omega
    have HBwB : Hid (Below B w wB) := Lib.hid (HBwd.out.trans (HUwB.out.mono (by omega)))
    have HCwB : Hid (wB.cell? ⟨B, 0, none⟩ = some (.int .u8 (c : Int)) ∧ wB.cell? ⟨B, 1, none⟩ = some (.int .u64 (s : Int))) := Lib.hid ⟨(HUwB.out.cell (p := ⟨B, 0, none⟩) hzwd.1).trans HCwd.out.1, (HUwB.out.cell (p := ⟨B, 1, none⟩) hzwd.1).trans HCwd.out.2⟩
    rw [hw, hD]
    clear hw hD
    refine hK _ _ HCwB.out ?_
    clear hK K
    refine planT_do rfl (fun K hK => ?_)
    go_wp2_with (go_at_call 85; refine (P1.out _ (HV.out.on HBwB.out (by rw [HBQ.out]; exact Nat.le_refl _))).mono ?_; rintro e wC ⟨rfl, hb⟩; have HUwC := Lib.hid hb; clear hb)
    have hzwC : B < wC.heap.size ∧ wB.heap.size ≤ wC.heap.size := ⟨Nat.lt_of_lt_of_le hzwB.1 HUwC.out.size, HUwC.out.size⟩
    have HBwC : Hid (Below B w wC) := Lib.hid (HBwB.out.trans (HUwC.out.mono (by omega)))
    have HCwC : Hid (wC.cell? ⟨B, 0, none⟩ = some (.int .u8 (c : Int)) ∧ wC.cell? ⟨B, 1, none⟩ = some (.int .u64 (s : Int))) := Lib.hid ⟨(HUwC.out.cell (p := ⟨B, 0, none⟩) hzwB.1).trans HCwB.out.1, (HUwC.out.cell (p := ⟨B, 1, none⟩) hzwB.1).trans HCwB.out.2⟩
    refine hK _ _ HCwC.out ?_
    clear hK K
    have HAD : Hid (wC.heap[D]? = some (.cells #[.string ⟨#[]⟩] 9 (0, 0))) := Lib.hid ((HUwC.out.block D (by omega)).trans HAD.out)
    refine planT_do rfl (fun K hK => ?_)
    go_wp2_with (go_at_call 85; refine (P2.out _ (HV.out.on HBwC.out (by rw [HBQ.out]; exact Nat.le_refl _))).mono ?_; rintro e wF ⟨rfl, hb⟩; have HUwF := Lib.hid hb; clear hb)
    have hzwF : B < wF.heap.size ∧ wC.heap.size ≤ wF.heap.size := ⟨Nat.lt_of_lt_of_le hzwC.1 HUwF.out.size, HUwF.out.size⟩
    have HBwF : Hid (Below B w wF) := Lib.hid (HBwC.out.trans (HUwF.out.mono (by omega)))
    have HCwF : Hid (wF.cell? ⟨B, 0, none⟩ = some (.int .u8 (c : Int)) ∧ wF.cell? ⟨B, 1, none⟩ = some (.int .u64 (s : Int))) := Lib.hid ⟨(HUwF.out.cell (p := ⟨B, 0, none⟩) hzwC.1).trans HCwC.out.1, (HUwF.out.cell (p := ⟨B, 1, none⟩) hzwC.1).trans HCwC.out.2⟩
    refine hK _ _ HCwF.out ?_
    clear hK K
    have HAD : Hid (wF.heap[D]? = some (.cells #[.string ⟨#[]⟩] 9 (0, 0))) := Lib.hid ((HUwF.out.block D (by omega)).trans HAD.out)
    (refine' planT_val rfl rfl (fun w' hS => ?_) ?_; rotate_left; (focus (first | rfl | (obtain ⟨hS1, hS2⟩ := hS; go_simp; rfl))); simp only [Act.put, List.setIfInBounds_toArray, List.set_cons_zero, List.set_cons_succ])
    have d0 : wF.cell? ⟨D, 0, none⟩ = some (.string ⟨#[]⟩) := cell_of_row wF D 0 _ _ _ HAD.out
    have f0 := frozen_of_row wF D 0 _ _ HAD.out
    refine planT_do rfl (fun K hK => ?_)
    go_wp2_with fail
    refine hK _ _ ⟨(cell_ag (heap_setCell_other _ _ _ _ (by simp; omega))).trans HCwF.out.1, (cell_ag (heap_setCell_other _ _ _ _ (by simp; omega))).trans HCwF.out.2⟩ ?_
    clear hK K
    refine planT_nil ?_
    obtain ⟨W, hW⟩ : ∃ W, wF.setCell ⟨D, 0, none⟩ (.string d3) = W := ⟨_, rfl⟩
    have hc4 : W.cell? ⟨D, 0, none⟩ = some (.string d3) := cell_of_row W D 0 _ _ _ (by rw [← hW]; exact heap_setCell_same _ D 0 _ _ _ HAD.out)
    have HBW : Hid (Below B w W) := Lib.hid (by rw [← hW]; exact HBwF.out.setCell (by show B ≤ D; omega) _)
    have hzW : D < W.heap.size := by rw [← hW]; simp; omega
    rw [hW]
    clear hW d0 f0
    go_upto_region 5 with fail
    refine wp_region_plan [(0, false), (1, false), (2, true), (3, false), (4, false), (5, false), (6, false), (7, false), (8, false)] (fun w' => w'.cell? ⟨D, 0, none⟩ = some (.string d3)) (by kernel_rfl) (by kernel_rfl) hc4 ?_
    iterate 2 (refine' plan_val rfl rfl (fun w' hS => ?_) ?_; rotate_left; (focus (go_simp; rfl)); simp only [Act.put, List.setIfInBounds_toArray, List.set_cons_zero, List.set_cons_succ])
    refine plan_do rfl (fun K hK => ?_)
    go_wp2_with (go_at_call 86; refine (P3.out W.drew D hc4).mono ?_; rintro e wE ⟨rfl, hb⟩; have HBE := Lib.hid hb; clear hb)
    refine hK _ _ ((HBE.out.cell (p := ⟨D, 0, none⟩) hzW).trans hc4) ?_
    clear hK K
    iterate 6 (refine' plan_val rfl rfl (fun w' hS => ?_) ?_; rotate_left; (focus (go_simp; rfl)); simp only [Act.put, List.setIfInBounds_toArray, List.set_cons_zero, List.set_cons_succ])
    refine plan_nil ?_
    go_wp2_with fail
    go_ret2
    refine ⟨rfl, ?_⟩
    rw [HBQ.out]
    exact HBW.out.trans ((Below.refl _ _).drew.trans (HBE.out.mono (by simp; omega)))
end Go.Proofs.YtgfijlamhjjecaaGreatDoor


namespace Go.Proofs.YtgfijlamhjjecaaGreatDoor
open Go.RowKit
def WrapM0Q (p : PD) (w : World) (e : Ending) (w' : World) : Prop := ∃ v, e = .returned (.tuple #[wv (wrapM p).1 v, .int .i64 (wrapM p).2]) ∧ SegsAt (fun k => w.heap.size ≤ k ∧ k < w'.heap.size) w' v (wrapM p).1.segs ∧ Below w.heap.size w w'
def WrapMQ (p : PD) (w : World) (e : Ending) (w' : World) : Prop := ∃ v, e = .returned (.tuple #[wv (wrapM p).1 v, .int .i64 (wrapM p).2]) ∧ SegsAt (fun k => w.heap.size ≤ k ∧ k < w'.heap.size) w' v (wrapM p).1.segs ∧ Below w.heap.size w w' ∧ (p.ack = false → ∃ xs, OO w.heap.size w' v xs (wrapM p).1.segs)
theorem WrapMQ.weak {p : PD} {w w' : World} {e : Ending} (h : WrapMQ p w e w') : WrapM0Q p w e w' := by
  obtain ⟨v, h1, h2, h3, _⟩ := h
  exact ⟨v, h1, h2, h3⟩
theorem own_low {w : World} {B B' : Nat} {t : TypeId} {s n : Nat} {v : Value} {xs : List Value} (h : w.ownsRow B t s v n xs) (hB : B' ≤ B) : w.ownsRow B' t s v n xs := by
  obtain ⟨h0, h | ⟨g, cap, cur, h1, h2, h3⟩⟩ := h
  · exact ⟨h0, .inl h⟩
  · exact ⟨h0, .inr ⟨g, cap, cur, h1, Nat.le_trans hB h2, h3⟩⟩
theorem wrapMQ_err {p : PD} {w w' : World} {k : Int} (h : wrapM p = (wd0, k)) (hb : Below w.heap.size w w') : WrapMQ p w (.returned (.tuple #[.agg #[.int .u8 0, .int .u8 0, .int .u64 0, .slice none 0 0], .int .i64 k])) w' := by
  unfold WrapMQ
  rw [h]
  exact ⟨.slice none 0 0, rfl, SegsAt.nil _ _, hb, fun _ => ⟨[], OO.start _ _⟩⟩
theorem wrapM_car {p : PD} (h : 8 ≤ p.fr ∨ 8 ≤ p.dst) : wrapM p = (wd0, 1) := by unfold wrapM; rw [if_pos h]
theorem wrapM_ackno {p : PD} (h : ¬ (8 ≤ p.fr ∨ 8 ≤ p.dst)) (ha : p.ack = true) (hm : p.m ≠ md0) : wrapM p = (wd0, 101) := by
  unfold wrapM; rw [if_neg h, if_pos ha, if_neg (fun e => hm (m0B_iff.1 e))]
theorem wrapM_ack {p : PD} (h : ¬ (8 ≤ p.fr ∨ 8 ≤ p.dst)) (ha : p.ack = true) (hm : p.m = md0) : wrapM p = (⟨p.fr, p.dst, p.num, [wordSeg tACK []]⟩, 0) := by
  unfold wrapM; rw [if_neg h, if_pos ha, if_pos (m0B_iff.2 hm)]
theorem wrapM_kind {p : PD} (h : ¬ (8 ≤ p.fr ∨ 8 ≤ p.dst)) (ha : p.ack = false) (hk : hasK p.m.kind = none) : wrapM p = (wd0, 100) := by
  unfold wrapM; rw [if_neg h, if_neg (by simp [ha]), hk]
theorem wrapM_text {p : PD} {hh : Bool × Bool × Bool} (h : ¬ (8 ≤ p.fr ∨ 8 ≤ p.dst)) (ha : p.ack = false) (hk : hasK p.m.kind = some hh) (ht : mayT p.m.tc p.m.ts = false) : wrapM p = (wd0, 1) := by
  have e : text7 p.m.tc p.m.ts = ([], 1) := by unfold text7; rw [if_neg (by simp [ht])]
  unfold wrapM; rw [if_neg h, if_neg (by simp [ha]), hk]; simp only [e]; rw [if_pos (by decide)]
theorem wrapM_main {p : PD} {hh : Bool × Bool × Bool} (h : ¬ (8 ≤ p.fr ∨ 8 ≤ p.dst)) (ha : p.ack = false) (hk : hasK p.m.kind = some hh) (ht : mayT p.m.tc p.m.ts = true) :
    wrapM p = if mayM hh p.m then (⟨p.fr, p.dst, p.num, msgSegs hh p.m (text7 p.m.tc p.m.ts).1⟩, 0) else (wd0, 101) := by
  have e : (text7 p.m.tc p.m.ts).2 = 0 := by unfold text7; rw [if_pos ht]
  unfold wrapM; rw [if_neg h, if_neg (by simp [ha]), hk]; simp only [e]; rw [if_neg (by decide)]
set_option maxRecDepth 100000 in
set_option maxHeartbeats 4000000 in
theorem mwrap_car (p : PD) (h : 8 ≤ p.fr ∨ 8 ≤ p.dst) (w : World) : Calls Tryz.prog 13 #[.agg (pktA p).toArray] w fun e w' => WrapMQ p w e w' := by
  have HQ := Lib.hid (wrapM_car h)
  have hb : (decide (p.fr < 8) && decide (p.dst < 8)) = false := by simp; omega
  unfold pktA msgA
  simp only [List.cons_append, List.nil_append]
  clear h
  go_enter Tryz.func13, Tryz.ntmps13
  go_wp2_with (go_at_call 41; refine (carriers_any _ _ _).mono ?_; rw [hb]; rintro e w' ⟨rfl, rfl⟩)
  refine bodyPost_ret (res_wrap rfl _ rfl rfl ((Below.heap_alloc _ _ _ (by simp)).trans (heap_alloc_at (by simp))) rfl) rfl ?_
  exact wrapMQ_err HQ.out ((((Below.refl _ _).alloc (Nat.le_refl _) _).alloc (by simp) _).alloc (by simp only [World.size_alloc]; omega) _)
set_option maxRecDepth 100000 in
set_option maxHeartbeats 4000000 in
theorem mwrap_ackno (p : PD) (h : ¬ (8 ≤ p.fr ∨ 8 ≤ p.dst)) (ha : p.ack = true) (hm : p.m ≠ md0) (w : World) : Calls Tryz.prog 13 #[.agg (pktA p).toArray] w fun e w' => WrapMQ p w e w' := by
  have HQ := Lib.hid (wrapM_ackno h ha hm)
  have hb : (decide (p.fr < 8) && decide (p.dst < 8)) = true := by simp; omega
  have hne := fun w => neq_msg p.m md0 w
  have e0 : eqM p.m md0 = false := by
    cases h : eqM p.m md0 with
    | false => rfl
    | true => exact absurd (eqM_iff.1 h) hm
  rw [e0] at hne
  unfold msgA at hne
  simp only [md0, cd0, Int.natCast_zero, Bool.not_false] at hne
  unfold pktA msgA
  simp only [List.cons_append, List.nil_append]
  rw [ha]
  clear h hm e0
  go_enter Tryz.func13, Tryz.ntmps13
  go_wp2_with (go_at_call 41; refine (carriers_any _ _ _).mono ?_; rw [hb]; rintro e w' ⟨rfl, rfl⟩)
  refine bodyPost_ret (res_wrap rfl _ rfl rfl ((Below.heap_alloc _ _ _ (by simp)).trans (heap_alloc_at (by simp))) rfl) rfl ?_
  exact wrapMQ_err HQ.out ((((Below.refl _ _).alloc (Nat.le_refl _) _).alloc (by simp) _).alloc (by simp only [World.size_alloc]; omega) _)
set_option maxRecDepth 100000 in
set_option maxHeartbeats 4000000 in
theorem mwrap_kind (p : PD) (h : ¬ (8 ≤ p.fr ∨ 8 ≤ p.dst)) (ha : p.ack = false) (hk : hasK p.m.kind = none) (w : World) : Calls Tryz.prog 13 #[.agg (pktA p).toArray] w fun e w' => WrapMQ p w e w' := by
  have HQ := Lib.hid (wrapM_kind h ha hk)
  have hb : (decide (p.fr < 8) && decide (p.dst < 8)) = true := by simp; omega
  have HK := Lib.hid hk
  unfold pktA msgA
  simp only [List.cons_append, List.nil_append]
  rw [ha]
  clear h hk
  go_enter Tryz.func13, Tryz.ntmps13
  go_wp2_with (first | (go_at_call 41; refine (carriers_any _ _ _).mono ?_; rw [hb]; rintro e w' ⟨rfl, rfl⟩) | (go_at_call 43; go_loud (refine (parts_any _ _).mono ?_; rintro e w1 ⟨v, rfl, hpp, hbb⟩; rw [HK.out, Option.isSome_none]; have hr : w1.heap[w.heap.size + 1]? = some (.cells #[.int .u8 0, .int .u8 0, .int .u64 0, .slice none 0 0] 41 (0, 0)) := (hbb.block _ (by simp <;> omega)).trans ((Below.heap_alloc _ _ _ (by simp <;> omega)).trans ((Below.heap_alloc _ _ _ (by simp)).trans (heap_alloc_at (by simp)))); obtain ⟨⟨d0, d1, d2, d3⟩, f0, f1, f2, f3⟩ := cells4 hr; have HR := Lib.hid hr; have HB := Lib.hid hbb; clear hbb hr hpp)))
  refine bodyPost_ret (res_wrap rfl _ rfl rfl (put4_heap HR.out _ _ _ _) rfl) rfl ?_
  exact wrapMQ_err HQ.out (put4_below ((((((Below.refl _ _).alloc (Nat.le_refl _) _).alloc (by simp) _).alloc (by simp only [World.size_alloc]; omega) _).alloc (by simp only [World.size_alloc]; omega) _).trans (HB.out.mono (by simp only [World.size_alloc]; omega))) (by omega) _ _ _ _)
set_option maxRecDepth 100000 in
set_option maxHeartbeats 4000000 in
theorem mwrap_text (p : PD) {hh : Bool × Bool × Bool} (hc : p.m.tc < 256) (hs : p.m.ts < 18446744073709551616) (h : ¬ (8 ≤ p.fr ∨ 8 ≤ p.dst)) (ha : p.ack = false) (hk : hasK p.m.kind = some hh) (ht : mayT p.m.tc p.m.ts = false) (w : World) : Calls Tryz.prog 13 #[.agg (pktA p).toArray] w fun e w' => WrapMQ p w e w' := by
  have HQ := Lib.hid (wrapM_text h ha hk ht)
  have hb : (decide (p.fr < 8) && decide (p.dst < 8)) = true := by simp; omega
  have HK := Lib.hid hk
  have HT := Lib.hid ht
  unfold pktA msgA
  simp only [List.cons_append, List.nil_append]
  rw [ha]
  clear h hk ht
  go_enter Tryz.func13, Tryz.ntmps13
  go_wp2_with (first | (go_at_call 41; refine (carriers_any _ _ _).mono ?_; rw [hb]; rintro e w' ⟨rfl, rfl⟩) | (go_at_call 43; go_loud (refine (parts_any _ _).mono ?_; rintro e w1 ⟨v, rfl, hpp, hbb⟩; rw [HK.out, Option.isSome_some]; have hm : w1.heap[w.heap.size + 3]? = some (.cells #[.int .u8 (p.m.kind : Int), .int .u8 (p.m.tc : Int), .int .u64 (p.m.ts : Int), .int .u8 (p.m.pl : Int), .int .u8 (p.m.c.car : Int), .int .u16 (p.m.c.fl : Int), .int .u32 (p.m.c.we : Int), .int .i64 p.m.c.va, .int .u8 (p.m.c.st : Int), .int .u32 (p.m.c.no : Int), .int .i64 p.m.am, .int .i64 p.m.co] 36 (0, 0)) := (hbb.block _ (by simp <;> omega)).trans (heap_alloc_at (by simp)); have m1 : w1.cell? ⟨w.heap.size + 3, 1, none⟩ = some (.int .u8 (p.m.tc : Int)) := cell_of_row w1 (w.heap.size + 3) 1 _ _ _ hm; have m2 : w1.cell? ⟨w.heap.size + 3, 2, none⟩ = some (.int .u64 (p.m.ts : Int)) := cell_of_row w1 (w.heap.size + 3) 2 _ _ _ hm; have hr : w1.heap[w.heap.size + 1]? = some (.cells #[.int .u8 0, .int .u8 0, .int .u64 0, .slice none 0 0] 41 (0, 0)) := (hbb.block _ (by simp <;> omega)).trans ((Below.heap_alloc _ _ _ (by simp <;> omega)).trans ((Below.heap_alloc _ _ _ (by simp <;> omega)).trans (heap_alloc_at (by simp)))); obtain ⟨⟨d0, d1, d2, d3⟩, f0, f1, f2, f3⟩ := cells4 hr; have HR := Lib.hid hr; clear hr; have HB := Lib.hid hbb; clear hbb hm hpp)) | (go_at_call 44; go_loud (refine (nText_no hc hs HT.out _).mono ?_; rintro e w2 ⟨rfl, hb2⟩; have hz1 := HB.out.size; have hr : w2.heap[w.heap.size + 1]? = some (.cells #[.int .u8 0, .int .u8 0, .int .u64 0, .slice none 0 0] 41 (0, 0)) := (hb2.block _ (by simp at hz1; omega)).trans HR.out; clear d0 d1 d2 d3 f0 f1 f2 f3; obtain ⟨⟨d0, d1, d2, d3⟩, f0, f1, f2, f3⟩ := cells4 hr; have HR2 := Lib.hid hr; have HB2 := Lib.hid hb2; clear hb2 hr)))
  refine bodyPost_ret (res_wrap rfl _ rfl rfl (put4_heap HR2.out _ _ _ _) rfl) rfl ?_
  have hz1 := HB.out.size
  simp at hz1
  exact wrapMQ_err HQ.out (put4_below (((((((Below.refl _ _).alloc (Nat.le_refl _) _).alloc (by simp) _).alloc (by simp only [World.size_alloc]; omega) _).alloc (by simp only [World.size_alloc]; omega) _).trans (HB.out.mono (by simp only [World.size_alloc]; omega))).trans (HB2.out.mono (by omega))) (by omega) _ _ _ _)
end Go.Proofs.YtgfijlamhjjecaaGreatDoor


namespace Go.Proofs.YtgfijlamhjjecaaGreatDoor
open Go.RowKit
set_option maxRecDepth 100000 in
set_option maxHeartbeats 4000000 in
theorem mwrap_ack (p : PD) (h : ¬ (8 ≤ p.fr ∨ 8 ≤ p.dst)) (ha : p.ack = true) (hm : p.m = md0) (w : World) : Calls Tryz.prog 13 #[.agg (pktA p).toArray] w fun e w' => WrapMQ p w e w' := by
  have HQ := Lib.hid (wrapM_ack h ha hm)
  have HAK := Lib.hid ha
  have hb : (decide (p.fr < 8) && decide (p.dst < 8)) = true := by simp; omega
  unfold pktA msgA
  simp only [List.cons_append, List.nil_append]
  rw [ha, hm]
  simp only [md0, cd0, Int.natCast_zero]
  clear h hm
  go_enter Tryz.func13, Tryz.ntmps13
  go_upto_region 8 with (first | (go_at_call 41; refine (carriers_any _ _ _).mono ?_; rw [hb]; rintro e w' ⟨rfl, rfl⟩) | (go_at_call 42; go_loud (refine (msegment_any (S := fun _ => False) ⟨#[65, 67, 75]⟩ [] _ _ (RowAt.nil _ _) (fun k hk => hk.elim) (by simp)).mono ?_; rintro e w1 ⟨ev, rfl, hev, hbb⟩; have hw : w1.heap[w.heap.size + 1 + 1]? = some (.cells #[.int .u8 (p.fr : Int), .int .u8 (p.dst : Int), .int .u64 (p.num : Int), .slice none 0 0] 41 (0, 0)) := (hbb.block _ (by simp <;> omega)).trans (heap_alloc_at (by simp)); obtain ⟨⟨c0, c1, c2, c3⟩, g0, g1, g2, g3⟩ := cells4 hw; have hr : w1.heap[w.heap.size + 1]? = some (.cells #[.int .u8 0, .int .u8 0, .int .u64 0, .slice none 0 0] 41 (0, 0)) := (hbb.block _ (by simp <;> omega)).trans ((Below.heap_alloc _ _ _ (by simp <;> omega)).trans (heap_alloc_at (by simp))); obtain ⟨⟨d0, d1, d2, d3⟩, f0, f1, f2, f3⟩ := cells4 hr; have q2 : w.heap.size + 1 + 1 < w1.heap.size := (by have hq := hbb.size; simp at hq; omega); have HR := Lib.hid hr; have HW := Lib.hid hw; have HEV := Lib.hid hev; have HB := Lib.hid hbb; clear hbb hr hw hev)))
  have hz1 := HB.out.size
  simp at hz1
  obtain ⟨D, hD⟩ : ∃ D, w1.heap.size = D := ⟨_, rfl⟩
  obtain ⟨w2, hw2⟩ : ∃ w2, (w1.setCell ⟨w.heap.size + 1 + 1, 3, none⟩ (.slice (some ⟨D, 0, none⟩) 1 1)).alloc (.cells #[.string ⟨#[65, 67, 75]⟩, ev] 94) = w2 := ⟨_, rfl⟩
  have hz2 : w2.heap.size = D + 1 := by rw [← hw2, ← hD]; simp
  have hr2 : w2.heap[w.heap.size + 1]? = some (.cells #[.int .u8 0, .int .u8 0, .int .u64 0, .slice none 0 0] 41 (0, 0)) := by rw [← hw2]; exact (Below.heap_alloc _ _ _ (by simp; omega)).trans ((heap_setCell_other _ _ _ _ (by simp)).trans HR.out)
  have hww2 : w2.heap[w.heap.size + 1 + 1]? = some (.cells #[.int .u8 (p.fr : Int), .int .u8 (p.dst : Int), .int .u64 (p.num : Int), .slice (some ⟨D, 0, none⟩) 1 1] 41 (0, 0)) := by rw [← hw2]; exact (Below.heap_alloc _ _ _ (by simp; omega)).trans (heap_setCell_same _ _ 3 _ _ _ HW.out)
  have HSG : Hid (SegsAt (fun k => D ≤ k ∧ k < w2.heap.size ∨ w.heap.size + 3 ≤ k ∧ k < D) w2 (.slice (some ⟨D, 0, none⟩) 1 1) [wordSeg tACK []]) := Lib.hid (by
    have hev2 : ElemsAt (fun k => w.heap.size + 3 ≤ k ∧ k < D) (w1.setCell ⟨w.heap.size + 1 + 1, 3, none⟩ (.slice (some ⟨D, 0, none⟩) 1 1)) ev (ones []) := HEV.out.cong (fun k hk => by have h2 := hk.1; simp at h2; exact ⟨by omega, by omega⟩) (fun k hk => heap_setCell_other _ _ _ _ (by have h2 := hk.1; simp at h2; simp; omega))
    have h1 := segs_one (t := tACK) (st := ⟨#[65, 67, 75]⟩) rfl hev2 (fun k hk => by simp; omega)
    have e : (w1.setCell ⟨w.heap.size + 1 + 1, 3, none⟩ (.slice (some ⟨D, 0, none⟩) 1 1)).heap.size = D := by rw [← hD]; simp
    rw [e, hw2] at h1
    refine h1.cong (fun k hk => ?_) (fun k _ => rfl)
    rcases hk with hk | hk
    · exact .inr hk
    · exact .inl ⟨by omega, by omega⟩)
  have HBX : Hid (Below w.heap.size w w2) := Lib.hid (by
    rw [← hw2]
    exact ((((((Below.refl _ _).alloc (Nat.le_refl _) _).alloc (by simp) _).alloc (by simp only [World.size_alloc]; omega) _).trans (HB.out.mono (by simp only [World.size_alloc]; omega))).setCell (by simp; omega) _).alloc (by simp; omega) _)
  have hDD : w.heap.size + 1 + 1 < D := by omega
  rw [hD, hw2]
  obtain ⟨⟨d0, d1, d2, d3⟩, f0, f1, f2, f3⟩ := cells4 hr2
  obtain ⟨⟨c0, c1, c2, c3⟩, g0, g1, g2, g3⟩ := cells4 hww2
  have HR2 := Lib.hid hr2
  clear hr2 hww2 hw2 hD hb
  go_wp2_with fail
  refine bodyPost_ret (res_wrap rfl _ rfl rfl (put4_heap HR2.out _ _ _ _) rfl) rfl ?_
  unfold WrapMQ
  rw [HQ.out]
  refine ⟨_, rfl, ?_, put4_below HBX.out (by omega) _ _ _ _, fun h => by rw [HAK.out] at h; cases h⟩
  refine HSG.out.cong (fun k hk => ?_) (fun k hk => put4_other _ _ _ _ _ _ (by rcases hk with h | h <;> omega))
  have e : (put4 w2 (w.heap.size + 1) (.int .u8 (p.fr : Int)) (.int .u8 (p.dst : Int)) (.int .u64 (p.num : Int)) (.slice (some ⟨D, 0, none⟩) 1 1)).heap.size = w2.heap.size := by unfold put4; simp
  refine ⟨by rcases hk with h | h <;> omega, ?_⟩
  show k < (put4 w2 (w.heap.size + 1) (.int .u8 (p.fr : Int)) (.int .u8 (p.dst : Int)) (.int .u64 (p.num : Int)) (.slice (some ⟨D, 0, none⟩) 1 1)).heap.size
  rcases hk with h | h <;> omega
end Go.Proofs.YtgfijlamhjjecaaGreatDoor


namespace Go.Proofs.YtgfijlamhjjecaaGreatDoor
open Go.RowKit
theorem SegsAt.head {S : Nat → Prop} {w : World} {b off n cap : Nat} {l : List Seg} (H : SegsAt S w (.slice (some ⟨b, off, none⟩) n cap) l) {hi : Nat} (h2 : hi ≤ l.length) (hc : hi ≤ cap) (hc2 : cap ≤ maxLen) : SegsAt S w (.slice (some ⟨b, off, none⟩) hi cap) (l.take hi) := by
  have h := H.sub (lo := 0) (hi := hi) (c' := cap) (Nat.zero_le _) h2 (by omega) hc2
  rw [Nat.zero_mul, Nat.add_zero, Nat.sub_zero, List.drop_zero] at h
  exact h
theorem SegsAt.tail {S : Nat → Prop} {w : World} {b off n cap : Nat} {l : List Seg} (H : SegsAt S w (.slice (some ⟨b, off, none⟩) n cap) l) (hl : l.length = n) {lo : Nat} (h2 : lo ≤ n) (hc : n ≤ cap) (hc2 : cap ≤ maxLen) : SegsAt S w (.slice (some ⟨b, off + lo * 2, none⟩) (n - lo) (cap - lo)) (l.drop lo) := by
  have h := H.sub (lo := lo) (hi := n) (c' := cap - lo) h2 (by omega) (by omega) (by omega)
  rw [List.take_of_length_le (by omega)] at h
  exact h
end Go.Proofs.YtgfijlamhjjecaaGreatDoor


namespace Go.Proofs.YtgfijlamhjjecaaGreatDoor
open Go.RowKit
theorem OGT.fr {T : Nat → Prop} {F : List Nat} {B : Nat} {w w' : World} {ov : Value} {xs : List Value} {l : List Seg} (h : OGT T B w ov xs l) (hf : Fr F w w') (hF : ∀ k ∈ F, ¬ T k) (hov : ∀ k, ov.ownBlock = some k → k ∉ F) : OGT T B w' ov xs l :=
  ⟨own_cong h.row (fun k hk => hf.block k (own_lt h.row hk).2 (hov k hk)), h.len, fun i s x h1 h2 => (h.el i s x h1 h2).cong (fun k hk => ⟨hk.1, by have := hf.size; omega, hk.2.2⟩) (fun k hk => hf.block k hk.2.1 (fun hm => hF k hm hk.1))⟩
theorem ogt_two {T : Nat → Prop} {B : Nat} {w : World} {t u : Str} {st su : ByteArray} {es fs : List (List Str)} {ev fv : Value} (hst : (⟨t.toArray⟩ : ByteArray) = st) (hsu : (⟨u.toArray⟩ : ByteArray) = su) (hB : B ≤ w.heap.size) (he : ElemsAt (fun b => T b ∧ b < w.heap.size) w ev es) (hf : ElemsAt (fun b => T b ∧ b < w.heap.size) w fv fs) :
    OGT T B (w.alloc (.cells #[.string st, ev, .string su, fv] 94)) (.slice (some ⟨w.heap.size, 0, none⟩) 2 2) [ev, fv] [⟨t, es⟩, ⟨u, fs⟩] := by
  refine ⟨⟨rfl, .inr ⟨w.heap.size, 2, #[.string st, ev, .string su, fv], rfl, hB, heap_alloc_new _ _, Nat.le_refl _, by decide, rfl, ?_⟩⟩, rfl, fun i s x h1 h2 => ?_⟩
  · rw [← hst, ← hsu]; rfl
  · match i, h1, h2 with
    | 0, h1, h2 =>
      simp at h1 h2
      subst h1; subst h2
      exact he.cong (fun k hk => ⟨hk.1, by simp; omega, fun e => by simp [Value.ownBlock] at e; omega⟩) (fun k hk => Below.heap_alloc _ _ _ hk.2)
    | 1, h1, h2 =>
      simp at h1 h2
      subst h1; subst h2
      exact hf.cong (fun k hk => ⟨hk.1, by simp; omega, fun e => by simp [Value.ownBlock] at e; omega⟩) (fun k hk => Below.heap_alloc _ _ _ hk.2)
    | i + 2, h1, _ => simp at h1
theorem wp_app_ogw {ops : Array Oper} {rest : List Oper} {o : Oper} {a : Act} {Q : Exit → Act → World → Prop} (s x : Operand)
    (ho : o.op = .call { callee := .builtin .append, args := #[s, x], argTypes := #[39, 39] }) (hw : Region.wanted o (yielded ops a.tmps) = true)
    {w : World} {B : Nat} {v mv : Value} {xs : List Value} {l m : List Seg} {S T : Nat → Prop} (hs : a.eval s = v) (hx : a.eval x = mv) (hO : OGT T B w v xs l) (hm : SegsAt S w mv m) (hS : ∀ k, S k → (T k ∧ k < w.heap.size) ∧ v.ownBlock ≠ some k) (hl : l.length + m.length ≤ 1048576) (hB : B ≤ w.heap.size)
    (h : ∀ v' w' xs', OGT T B w' v' xs' (l ++ m) → Below B w w' → w.grownBy w' v.ownBlock → (v'.ownBlock = v.ownBlock ∨ v'.ownBlock = some w.heap.size) → wpList Tryz.prog ops Q rest (a.put o.dst v') w') :
    wpList Tryz.prog ops Q (o :: rest) a w := by
  obtain ⟨i0, hi, hz0, hz1, hz2⟩ := info_parts einfo_seg
  have hm0 := hm
  obtain ⟨ao, cap, ys, rfl, g1, g2, g3, g4, g5⟩ := hm.row
  simp only [wpList, hw, if_true]
  left
  have fin : ∀ v' w', w'.ownsRow B 94 2 v' (l.length + m.length) (segCells l xs ++ segCells m ys) → w.grownBy w' v.ownBlock → (v'.ownBlock = v.ownBlock ∨ v'.ownBlock = some w.heap.size) → OGT T B w' v' (xs ++ ys) (l ++ m) ∧ Below B w w' := fun v' w' f1 f2 f3 => by
    have hov : ∀ k, v.ownBlock = some k → B ≤ k := fun k hk => (own_lt hO.row hk).1
    have hb : Below B w w' := (Below.refl B w).grown f2 hB hov
    have hz := f2.size
    have hc : ∀ b, b < w.heap.size → v.ownBlock ≠ some b → v'.ownBlock ≠ some b := fun b hb2 hne he => by
      rcases f3 with f3 | f3
      · exact hne (f3 ▸ he)
      · rw [f3] at he; cases he; omega
    refine ⟨⟨by rw [List.length_append, segCells_app l m xs ys hO.len]; exact f1, by simp [hO.len, g1], fun i s x h1 h2 => ?_⟩, hb⟩
    rcases Nat.lt_or_ge i l.length with hil | hil
    · rw [List.getElem?_append_left hil] at h1
      rw [List.getElem?_append_left (by rw [hO.len]; exact hil)] at h2
      exact (hO.el i s x h1 h2).cong (fun b hb' => ⟨hb'.1, by omega, hc b hb'.2.1 hb'.2.2⟩) (fun b hb' => f2.block b hb'.2.1 (fun e => hb'.2.2 e.symm))
    · rw [List.getElem?_append_right hil] at h1
      rw [List.getElem?_append_right (by rw [hO.len]; exact hil), hO.len] at h2
      exact (g4 _ s x h1 h2).cong (fun b hb' => ⟨(hS b hb').1.1, by have := (hS b hb').1.2; omega, hc b (hS b hb').1.2 (hS b hb').2⟩) (fun b hb' => f2.block b (hS b hb').1.2 (fun e => (hS b hb').2 e.symm))
  cases ao with
  | none =>
    obtain ⟨rfl, rfl⟩ := g2 rfl
    have hr := run_append_owned_none (P := Tryz.prog) (w := w) B 39 o.type 94 i0 2 Tryz.underlying39 hi v l.length (segCells l xs) hO.row
    unfold Oper.wp
    simp [execOp, ho, resolve, invoke, builtin, hs, hx, hr, Result.andThen]
    obtain ⟨k1, k2⟩ := fin v w (by
      have : ys = [] := List.length_eq_zero_iff.1 g1
      subst this
      simpa [segCells] using hO.row) ⟨rfl, rfl, rfl, Nat.le_refl _, fun _ _ _ => rfl⟩ (.inl rfl)
    exact h v w _ k1 k2 ⟨rfl, rfl, rfl, Nat.le_refl _, fun _ _ _ => rfl⟩ (.inl rfl)
  | some ad =>
    obtain ⟨v', w', hr, h2, h3, _, h5⟩ := run_append_own_at (P := Tryz.prog) w B 39 o.type 94 i0 (.agg #[.string ⟨#[]⟩, .slice none 0 0]) 2 40 Tryz.underlying39 hi hz0 hz1 hz2 rfl (by decide) v l.length (segCells l xs) hO.row ad m.length cap (segCells m ys) (segCells_len m ys g1) (g5 ad rfl) (segCells_one m ys g3) (by unfold maxLen; omega) (by omega) hB
    unfold Oper.wp execOp
    simp only [ho, resolve, invoke, builtin, Sem.run_bind, Sem.run_pure, Result.andThen_ok, List.map_toArray, List.map_cons, List.map_nil, hs, hx, hr]
    obtain ⟨k1, k2⟩ := fin v' w' h2 h3 h5
    exact h v' w' _ k1 k2 h3 h5
end Go.Proofs.YtgfijlamhjjecaaGreatDoor

