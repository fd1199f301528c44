/-
  Texts EdiShelf, Base, Base2, Plan, EdiP, EdiM, EdiR, one behind the other. No condition beyond those stated in each.
-/
import Derived.Shelf.Strings.Builder1
import Derived.Shelf.Strings.Builder2
import Derived.Shelf.Strings.OnBuilder
import Derived.Shelf.Small.Strs
import Derived.Shelf.Strings.BuilderF
import Derived.Shelf.Strings.BuilderK
import Derived.Shelf.Utf8.RuneCount
import Derived.Shelf.Strings.Builder2Cap
import Derived.Shelf.Strconv.Itoa0
import Derived.Shelf.Strconv.Itoa1
import Derived.Shelf.LaysM
import Derived.Shelf.Strconv.Itoa2
import Derived.Shelf.Strconv.Itoa3
import Derived.Shelf.Strconv.Itoa4
import Derived.Shelf.Strconv.ParseIntEmpty
import Derived.Shelf.Strconv.Clone
import Derived.Shelf.Strconv.SyntaxError
import Derived.Shelf.LaysC
import Derived.Shelf.Strconv.ToError
import Derived.Shelf.Strconv.Lower
import Derived.Shelf.Strconv.ParseUint10
import Derived.Shelf.Strconv.ParseUint10Empty
import Derived.Shelf.Strconv.ParseUint10Any
import Derived.Shelf.Strconv.ParseInt10
import Derived.Shelf.Strconv.RangeError
import Derived.Shelf.Strconv.ToErrorRange
import Derived.Shelf.Strconv.ParseUintEmpty
import Derived.Shelf.Strconv.ParseUint10b64
import Derived.Shelf.Strconv.ParseUint10b32
import Derived.Shelf.Strconv.ParseUint10b16
import Derived.Shelf.Strconv.ParseUint10b8
import Derived.Shelf.Strconv.ParseUint10At
import Derived.Shelf.Strconv.ParseInt10At64
import Derived.Shelf.Strconv.ParseInt10At32
import Derived.Shelf.Strconv.ParseInt10At16
import Derived.Shelf.Strconv.ParseInt10At8
import Derived.Shelf.Strconv.ParseInt10All
import Derived.Shelf.Strconv.ParseIntPublic10
import Derived.Ground.MpProg
import Derived.Shelf.Pu.ParseUintPublic10
import Derived.Shelf.Strings.Search1
import Derived.Shelf.Strings.Search2
import Derived.Shelf.Strings.Search3
import Derived.Shelf.Strings.Count
import Derived.Shelf.Strings.Shaped
import Derived.Shelf.Strings.Prefix
import Derived.Shelf.Strings.Split
import Derived.Shelf.Strings.RuneCount
import Derived.Ground.Names2Prog
import Derived.Shelf.Slices.Clone
import Derived.Ground.SlgnProg
import Derived.Shelf.SlicesE.Clone
import Derived.Test.YtgfijlamhjjecaaGreatDoorProg
import Derived.WalkKit
import Derived.WalkSpells
import Derived.WalkLawsBesides
import Derived.Deep.MidRow
import Derived.Deep.WholeRow
import Derived.Laws.CopyOwn
import Derived.RangeFuncRecord
import Derived.Lib.Hide
import Derived.StillTailTactics
import Derived.Maps.OwnOps
import Derived.Deep.RegionHeld3
import Derived.RegionTactic
import Derived.Maps.AppendAt
import Derived.Laws.AppendOwnNone
import Derived.BigQuiet
import Derived.Deep.QuietTactic
namespace Go.Proofs
open Go.Shelf
def Tryz.lays170_ren : Go.Shelf.Ren := ⟨fun | 170 => 142 | n => n, fun | 70 => 201 | 3 => 3 | 0 => 0 | 72 => 203 | 37 => 72 | 5 => 5 | n => n, fun | n => n⟩
theorem Tryz.lays170 : Go.Proofs.Lays.n170 Tryz.prog Tryz.lays170_ren := {
  mixed := by kernel_rfl
  f170 := Tryz.func142.trans (congrArg some (by kernel_rfl))
  t0 := Tryz.underlying0
  a0 := Tryz.isAgg0
  z0 := Tryz.sizeOf0
  v0 := Tryz.zeroValue0
  t3 := Tryz.underlying3
  a3 := Tryz.isAgg3
  z3 := Tryz.sizeOf3
  v3 := Tryz.zeroValue3
  t37 := Tryz.underlying72
  a37 := Tryz.isAgg72
  z37 := Tryz.sizeOf72
  v37 := Tryz.zeroValue72
  t70 := Tryz.underlying201
  a70 := Tryz.isAgg201
  z70 := Tryz.sizeOf201
  v70 := Tryz.zeroValue201
  t72 := Tryz.underlying203
  a72 := Tryz.isAgg203
  z72 := Tryz.sizeOf203
  v72 := Tryz.zeroValue203 }
open Go.RowKit in
theorem Tryz.Builder_Len (B b : Nat) (bs : List Value) (w : World) (h : Lib.IsBuilder 203 5 B b bs w) :
    Calls Tryz.prog 142 #[.pointer (some ⟨b, 0, none⟩)] w fun e w' => e = .returned (.int .i64 bs.length) ∧ w' = w := Any.Builder_Len Tryz.lays170 B b bs w h
def Tryz.lays169_ren : Go.Shelf.Ren := ⟨fun | 169 => 143 | n => n, fun | 70 => 201 | 9 => 9 | 0 => 0 | 72 => 203 | 37 => 72 | 127 => 150 | 3 => 3 | 5 => 5 | n => n, fun | n => n⟩
theorem Tryz.lays169 : Go.Proofs.Lays.n169 Tryz.prog Tryz.lays169_ren := {
  mixed := by kernel_rfl
  f169 := Tryz.func143.trans (congrArg some (by kernel_rfl))
  t0 := Tryz.underlying0
  a0 := Tryz.isAgg0
  z0 := Tryz.sizeOf0
  v0 := Tryz.zeroValue0
  t3 := Tryz.underlying3
  a3 := Tryz.isAgg3
  z3 := Tryz.sizeOf3
  v3 := Tryz.zeroValue3
  t9 := Tryz.underlying9
  a9 := Tryz.isAgg9
  z9 := Tryz.sizeOf9
  v9 := Tryz.zeroValue9
  t37 := Tryz.underlying72
  a37 := Tryz.isAgg72
  z37 := Tryz.sizeOf72
  v37 := Tryz.zeroValue72
  t70 := Tryz.underlying201
  a70 := Tryz.isAgg201
  z70 := Tryz.sizeOf201
  v70 := Tryz.zeroValue201
  t72 := Tryz.underlying203
  a72 := Tryz.isAgg203
  z72 := Tryz.sizeOf203
  v72 := Tryz.zeroValue203
  t127 := Tryz.underlying150
  a127 := Tryz.isAgg150
  z127 := Tryz.sizeOf150
  v127 := Tryz.zeroValue150 }
theorem Tryz.Builder_Extra_169 : Builder.Extra Tryz.prog Tryz.lays169_ren := {
  sizeBuilder := by kernel_rfl
  liesBuilder := by kernel_rfl
  t5 := Tryz.underlying5
  a5 := Tryz.isAgg5
  z5 := Tryz.sizeOf5
  v5 := Tryz.zeroValue5
  infoByte := by kernel_rfl
  cellsByte := by kernel_rfl
  sizeByte := by kernel_rfl
  neB5 := by decide }
open Go.RowKit in
theorem Tryz.Builder_String_any (B b : Nat) (l : List UInt8) (w : World) (h : Lib.IsBuilder 203 5 B b (Lib.byteCells l) w) (hBw : B ≤ w.heap.size) :
    Calls Tryz.prog 143 #[.pointer (some ⟨b, 0, none⟩)] w fun e w' => e = .returned (.string ⟨l.toArray⟩) ∧ Below B w w' := Any.Builder_String_any Tryz.lays169 Tryz.Builder_Extra_169 B b l w h hBw
def Tryz.lays156_ren : Go.Shelf.Ren := ⟨fun | 156 => 166 | 165 => 184 | 166 => 141 | 169 => 143 | 240 => 167 | 241 => 196 | 276 => 185 | 277 => 204 | n => n, fun | 31 => 58 | 9 => 9 | 3 => 3 | 4 => 4 | 0 => 0 | 20 => 20 | 72 => 203 | 76 => 210 | 70 => 201 | 37 => 72 | 75 => 177 | 127 => 150 | 164 => 275 | 5 => 5 | 80 => 212 | n => n, fun | n => n⟩
theorem Tryz.lays156 : Go.Proofs.Lays.n156 Tryz.prog Tryz.lays156_ren := {
  mixed := by kernel_rfl
  f156 := Tryz.func166.trans (congrArg some (by kernel_rfl))
  f165 := Tryz.func184.trans (congrArg some (by kernel_rfl))
  f166 := Tryz.func141.trans (congrArg some (by kernel_rfl))
  f169 := Tryz.func143.trans (congrArg some (by kernel_rfl))
  f240 := Tryz.func167.trans (congrArg some (by kernel_rfl))
  f241 := Tryz.func196.trans (congrArg some (by kernel_rfl))
  f276 := Tryz.func185.trans (congrArg some (by kernel_rfl))
  f277 := Tryz.func204.trans (congrArg some (by kernel_rfl))
  t0 := Tryz.underlying0
  a0 := Tryz.isAgg0
  z0 := Tryz.sizeOf0
  v0 := Tryz.zeroValue0
  t3 := Tryz.underlying3
  a3 := Tryz.isAgg3
  z3 := Tryz.sizeOf3
  v3 := Tryz.zeroValue3
  t4 := Tryz.underlying4
  a4 := Tryz.isAgg4
  z4 := Tryz.sizeOf4
  v4 := Tryz.zeroValue4
  t9 := Tryz.underlying9
  a9 := Tryz.isAgg9
  z9 := Tryz.sizeOf9
  v9 := Tryz.zeroValue9
  t20 := Tryz.underlying20
  a20 := Tryz.isAgg20
  z20 := Tryz.sizeOf20
  v20 := Tryz.zeroValue20
  t31 := Tryz.underlying58
  a31 := Tryz.isAgg58
  z31 := Tryz.sizeOf58
  v31 := Tryz.zeroValue58
  t37 := Tryz.underlying72
  a37 := Tryz.isAgg72
  z37 := Tryz.sizeOf72
  v37 := Tryz.zeroValue72
  t70 := Tryz.underlying201
  a70 := Tryz.isAgg201
  z70 := Tryz.sizeOf201
  v70 := Tryz.zeroValue201
  t72 := Tryz.underlying203
  a72 := Tryz.isAgg203
  z72 := Tryz.sizeOf203
  v72 := Tryz.zeroValue203
  t75 := Tryz.underlying177
  a75 := Tryz.isAgg177
  z75 := Tryz.sizeOf177
  v75 := Tryz.zeroValue177
  t76 := Tryz.underlying210
  a76 := Tryz.isAgg210
  z76 := Tryz.sizeOf210
  v76 := Tryz.zeroValue210
  t127 := Tryz.underlying150
  a127 := Tryz.isAgg150
  z127 := Tryz.sizeOf150
  v127 := Tryz.zeroValue150
  t164 := Tryz.underlying275
  a164 := Tryz.isAgg275
  z164 := Tryz.sizeOf275
  v164 := Tryz.zeroValue275 }
theorem Tryz.Builder_Extra_156 : Builder.Extra Tryz.prog Tryz.lays156_ren := {
  sizeBuilder := by kernel_rfl
  liesBuilder := by kernel_rfl
  t5 := Tryz.underlying5
  a5 := Tryz.isAgg5
  z5 := Tryz.sizeOf5
  v5 := Tryz.zeroValue5
  infoByte := by kernel_rfl
  cellsByte := by kernel_rfl
  sizeByte := by kernel_rfl
  neB5 := by decide }
open Go.RowKit in
theorem Tryz.strings_Join_none (a : Option Addr) (c : Nat) (sep : ByteArray) (w : World) :
    Calls Tryz.prog 166 #[.slice a 0 c, .string sep] w fun e w' => e = .returned (.string ⟨#[]⟩) ∧ w' = w := Any.strings_Join_none Tryz.lays156 Tryz.Builder_Extra_156 a c sep w
open Go.RowKit in
theorem Tryz.strings_Join (bk o c : Nat) (xs : List ByteArray) (sep : ByteArray) (w : World) (hcells : ∀ (j : Nat) x, xs[j]? = some x → w.cell? ⟨bk, o + j, none⟩ = some (.string x)) (hbk : bk < w.heap.size) (hN : xs.length ≤ 140737488355328) (hcap : xs.length ≤ c) (hlen : (Lib.join (xs.map (·.data.toList)) sep.data.toList).length ≤ 140737488355328) :
    Calls Tryz.prog 166 #[.slice (some ⟨bk, o, none⟩) xs.length c, .string sep] w fun e w' => e = .returned (.string ⟨(Lib.join (xs.map (·.data.toList)) sep.data.toList).toArray⟩) ∧ Below w.heap.size w w' := Any.strings_Join Tryz.lays156 Tryz.Builder_Extra_156 bk o c xs sep w hcells hbk hN hcap hlen
def Tryz.lays137_ren : Go.Shelf.Ren := ⟨fun | 137 => 217 | 217 => 226 | 266 => 227 | n => n, fun | 9 => 9 | 5 => 5 | 3 => 3 | n => n, fun | n => n⟩
theorem Tryz.lays137 : Go.Proofs.Lays.n137 Tryz.prog Tryz.lays137_ren := {
  mixed := by kernel_rfl
  f137 := Tryz.func217.trans (congrArg some (by kernel_rfl))
  f217 := Tryz.func226.trans (congrArg some (by kernel_rfl))
  f266 := Tryz.func227.trans (congrArg some (by kernel_rfl))
  t3 := Tryz.underlying3
  a3 := Tryz.isAgg3
  z3 := Tryz.sizeOf3
  v3 := Tryz.zeroValue3
  t5 := Tryz.underlying5
  a5 := Tryz.isAgg5
  z5 := Tryz.sizeOf5
  v5 := Tryz.zeroValue5
  t9 := Tryz.underlying9
  a9 := Tryz.isAgg9
  z9 := Tryz.sizeOf9
  v9 := Tryz.zeroValue9 }
open Go.RowKit in
theorem Tryz.strings_IndexByte (s : ByteArray) (c : Int) (w : World) :
    Calls Tryz.prog 217 #[.string s, .int .u8 c] w fun e w' => e = .returned (.int .i64 (Lib.indexByte s.data.toList c.toNat.toUInt8)) ∧ w' = w := Any.strings_IndexByte Tryz.lays137 s c w
def Tryz.lays283_ren : Go.Shelf.Ren := ⟨fun | 283 => 153 | n => n, fun | 3 => 3 | 9 => 9 | 4 => 4 | n => n, fun | n => n⟩
theorem Tryz.lays283 : Go.Proofs.Lays.n283 Tryz.prog Tryz.lays283_ren := {
  mixed := by kernel_rfl
  f283 := Tryz.func153.trans (congrArg some (by kernel_rfl))
  t3 := Tryz.underlying3
  a3 := Tryz.isAgg3
  z3 := Tryz.sizeOf3
  v3 := Tryz.zeroValue3
  t4 := Tryz.underlying4
  a4 := Tryz.isAgg4
  z4 := Tryz.sizeOf4
  v4 := Tryz.zeroValue4
  t9 := Tryz.underlying9
  a9 := Tryz.isAgg9
  z9 := Tryz.sizeOf9
  v9 := Tryz.zeroValue9 }
open Go.Lib in
theorem Tryz.internal_strconv_small (i : Nat) (h : i < 100) (w : World) :
    Calls Tryz.prog 153 #[.int .i64 i] w fun e w' => e = .returned (.string ⟨(Lib.decDigits i).toArray⟩) ∧ w' = w := Any.internal_strconv_small Tryz.lays283 i h w
def Tryz.laysM284_ren : Go.Shelf.Ren := ⟨fun | 284 => 154 | 129 => 173 | 317 => 172 | 318 => 174 | n => n, fun | 53 => 22 | 3 => 3 | 212 => 264 | 0 => 0 | 4 => 4 | 46 => 226 | 5 => 5 | 9 => 9 | n => n, fun | 17 => 1 | n => n⟩
theorem Tryz.laysM284 : Go.Proofs.LaysM.n284 Tryz.prog Tryz.laysM284_ren := {
  mixed := by kernel_rfl
  f129 := Tryz.func173.trans (congrArg some (by kernel_rfl))
  f284 := Tryz.func154.trans (congrArg some (by kernel_rfl))
  f317 := Tryz.func172.trans (congrArg some (by kernel_rfl))
  f318 := Tryz.func174.trans (congrArg some (by kernel_rfl))
  t0 := Tryz.underlying0
  a0 := Tryz.isAgg0
  z0 := Tryz.sizeOf0
  v0 := Tryz.zeroValue0
  t3 := Tryz.underlying3
  a3 := Tryz.isAgg3
  z3 := Tryz.sizeOf3
  v3 := Tryz.zeroValue3
  t4 := Tryz.underlying4
  a4 := Tryz.isAgg4
  z4 := Tryz.sizeOf4
  v4 := Tryz.zeroValue4
  t5 := Tryz.underlying5
  a5 := Tryz.isAgg5
  z5 := Tryz.sizeOf5
  v5 := Tryz.zeroValue5
  t9 := Tryz.underlying9
  a9 := Tryz.isAgg9
  z9 := Tryz.sizeOf9
  v9 := Tryz.zeroValue9
  t46 := Tryz.underlying226
  a46 := Tryz.isAgg226
  z46 := Tryz.sizeOf226
  v46 := Tryz.zeroValue226
  t53 := Tryz.underlying22
  a53 := Tryz.isAgg22
  z53 := Tryz.sizeOf22
  v53 := Tryz.zeroValue22
  t212 := Tryz.underlying264
  a212 := Tryz.isAgg264
  z212 := Tryz.sizeOf264
  v212 := Tryz.zeroValue264
  g17 := by kernel_rfl
  i0 := by kernel_rfl
  i3 := by kernel_rfl
  i4 := by kernel_rfl
  i5 := by kernel_rfl
  i9 := by kernel_rfl
  i46 := by kernel_rfl
  i53 := by kernel_rfl
  i212 := by kernel_rfl
  m17 := by kernel_rfl }
open Go.Lib in
theorem Tryz.internal_strconv_numDigits (u : Nat) (h1 : 1 ≤ u) (h2 : u < 18446744073709551616) (w : World) (htab : Lib.TabIs Tryz.prog w "internal/strconv.uint64pow10" .u64 Lib.pow10Tab) :
    Calls Tryz.prog 154 #[.int .u64 u] w fun e w' => e = .returned (.int .i64 (Lib.nDigits u)) ∧ w' = w := Any.internal_strconv_numDigits Tryz.laysM284 u h1 h2 w htab
def Tryz.lays285_ren : Go.Shelf.Ren := ⟨fun | 285 => 155 | n => n, fun | 37 => 72 | 53 => 22 | 3 => 3 | 4 => 4 | 51 => 28 | 9 => 9 | 5 => 5 | 0 => 0 | n => n, fun | n => n⟩
theorem Tryz.lays285 : Go.Proofs.Lays.n285 Tryz.prog Tryz.lays285_ren := {
  mixed := by kernel_rfl
  f285 := Tryz.func155.trans (congrArg some (by kernel_rfl))
  t0 := Tryz.underlying0
  a0 := Tryz.isAgg0
  z0 := Tryz.sizeOf0
  v0 := Tryz.zeroValue0
  t3 := Tryz.underlying3
  a3 := Tryz.isAgg3
  z3 := Tryz.sizeOf3
  v3 := Tryz.zeroValue3
  t4 := Tryz.underlying4
  a4 := Tryz.isAgg4
  z4 := Tryz.sizeOf4
  v4 := Tryz.zeroValue4
  t5 := Tryz.underlying5
  a5 := Tryz.isAgg5
  z5 := Tryz.sizeOf5
  v5 := Tryz.zeroValue5
  t9 := Tryz.underlying9
  a9 := Tryz.isAgg9
  z9 := Tryz.sizeOf9
  v9 := Tryz.zeroValue9
  t37 := Tryz.underlying72
  a37 := Tryz.isAgg72
  z37 := Tryz.sizeOf72
  v37 := Tryz.zeroValue72
  t51 := Tryz.underlying28
  a51 := Tryz.isAgg28
  z51 := Tryz.sizeOf28
  v51 := Tryz.zeroValue28
  t53 := Tryz.underlying22
  a53 := Tryz.isAgg22
  z53 := Tryz.sizeOf22
  v53 := Tryz.zeroValue22 }
open Go.RowKit Go.Sort Go.Lib in
theorem Tryz.internal_strconv_formatBase10 (blk off cap : Nat) (u : Nat) (d : Array UInt8) (w : World) (hH : Holds (fun (b : UInt8) => Value.int .u8 (b.toNat : Int)) w blk off d) (hu : u < 10 ^ d.size) (hu64 : u < 18446744073709551616) (hsz : d.size < 4611686018427387904) :
    Calls Tryz.prog 155 #[.slice (some ⟨blk, off, none⟩) d.size cap, .int .u64 u] w fun e w' =>
      e = .returned (.tuple #[]) ∧ ∃ (n v' : Nat) (dk : Array UInt8), w' = (putRow (fun (b : UInt8) => Value.int .u8 (b.toNat : Int)) w blk off dk).drewN n ∧ FmtInv d.size u 0 v' dk := Any.internal_strconv_formatBase10 Tryz.lays285 blk off cap u d w hH hu hu64 hsz
def Tryz.laysM171_ren : Go.Shelf.Ren := ⟨fun | 171 => 45 | 243 => 88 | 246 => 130 | 283 => 153 | 284 => 154 | 285 => 155 | 286 => 156 | 129 => 173 | 317 => 172 | 318 => 174 | 319 => 175 | 320 => 176 | 337 => 188 | 338 => 189 | n => n, fun | 3 => 3 | 9 => 9 | 2 => 2 | 4 => 4 | 171 => 231 | 0 => 0 | 53 => 22 | 37 => 72 | 5 => 5 | 173 => 234 | 212 => 264 | 51 => 28 | 20 => 20 | 213 => 265 | 46 => 226 | 232 => 77 | 233 => 297 | n => n, fun | 17 => 1 | 18 => 4 | 19 => 5 | n => n⟩
theorem Tryz.laysM171 : Go.Proofs.LaysM.n171 Tryz.prog Tryz.laysM171_ren := {
  mixed := by kernel_rfl
  f129 := Tryz.func173.trans (congrArg some (by kernel_rfl))
  f171 := Tryz.func45.trans (congrArg some (by kernel_rfl))
  f243 := Tryz.func88.trans (congrArg some (by kernel_rfl))
  f246 := Tryz.func130.trans (congrArg some (by kernel_rfl))
  f283 := Tryz.func153.trans (congrArg some (by kernel_rfl))
  f284 := Tryz.func154.trans (congrArg some (by kernel_rfl))
  f285 := Tryz.func155.trans (congrArg some (by kernel_rfl))
  f286 := Tryz.func156.trans (congrArg some (by kernel_rfl))
  f317 := Tryz.func172.trans (congrArg some (by kernel_rfl))
  f318 := Tryz.func174.trans (congrArg some (by kernel_rfl))
  f319 := Tryz.func175.trans (congrArg some (by kernel_rfl))
  f320 := Tryz.func176.trans (congrArg some (by kernel_rfl))
  f337 := Tryz.func188.trans (congrArg some (by kernel_rfl))
  f338 := Tryz.func189.trans (congrArg some (by kernel_rfl))
  t0 := Tryz.underlying0
  a0 := Tryz.isAgg0
  z0 := Tryz.sizeOf0
  v0 := Tryz.zeroValue0
  t2 := Tryz.underlying2
  a2 := Tryz.isAgg2
  z2 := Tryz.sizeOf2
  v2 := Tryz.zeroValue2
  t3 := Tryz.underlying3
  a3 := Tryz.isAgg3
  z3 := Tryz.sizeOf3
  v3 := Tryz.zeroValue3
  t4 := Tryz.underlying4
  a4 := Tryz.isAgg4
  z4 := Tryz.sizeOf4
  v4 := Tryz.zeroValue4
  t5 := Tryz.underlying5
  a5 := Tryz.isAgg5
  z5 := Tryz.sizeOf5
  v5 := Tryz.zeroValue5
  t9 := Tryz.underlying9
  a9 := Tryz.isAgg9
  z9 := Tryz.sizeOf9
  v9 := Tryz.zeroValue9
  t20 := Tryz.underlying20
  a20 := Tryz.isAgg20
  z20 := Tryz.sizeOf20
  v20 := Tryz.zeroValue20
  t37 := Tryz.underlying72
  a37 := Tryz.isAgg72
  z37 := Tryz.sizeOf72
  v37 := Tryz.zeroValue72
  t46 := Tryz.underlying226
  a46 := Tryz.isAgg226
  z46 := Tryz.sizeOf226
  v46 := Tryz.zeroValue226
  t51 := Tryz.underlying28
  a51 := Tryz.isAgg28
  z51 := Tryz.sizeOf28
  v51 := Tryz.zeroValue28
  t53 := Tryz.underlying22
  a53 := Tryz.isAgg22
  z53 := Tryz.sizeOf22
  v53 := Tryz.zeroValue22
  t171 := Tryz.underlying231
  a171 := Tryz.isAgg231
  z171 := Tryz.sizeOf231
  v171 := Tryz.zeroValue231
  t173 := Tryz.underlying234
  a173 := Tryz.isAgg234
  z173 := Tryz.sizeOf234
  v173 := Tryz.zeroValue234
  t212 := Tryz.underlying264
  a212 := Tryz.isAgg264
  z212 := Tryz.sizeOf264
  v212 := Tryz.zeroValue264
  t213 := Tryz.underlying265
  a213 := Tryz.isAgg265
  z213 := Tryz.sizeOf265
  t232 := Tryz.underlying77
  a232 := Tryz.isAgg77
  z232 := Tryz.sizeOf77
  v232 := Tryz.zeroValue77
  t233 := Tryz.underlying297
  a233 := Tryz.isAgg297
  z233 := Tryz.sizeOf297
  v233 := Tryz.zeroValue297
  g17 := by kernel_rfl
  g18 := by kernel_rfl
  g19 := by kernel_rfl
  i0 := by kernel_rfl
  i2 := by kernel_rfl
  i3 := by kernel_rfl
  i4 := by kernel_rfl
  i5 := by kernel_rfl
  i9 := by kernel_rfl
  i20 := by kernel_rfl
  i37 := by kernel_rfl
  i46 := by kernel_rfl
  i51 := by kernel_rfl
  i53 := by kernel_rfl
  i171 := by kernel_rfl
  i173 := by kernel_rfl
  i212 := by kernel_rfl
  i232 := by kernel_rfl
  i233 := by kernel_rfl
  m17 := by kernel_rfl
  m18 := by kernel_rfl
  m19 := by kernel_rfl }
open Go.RowKit Go.Sort Go.Lib in
theorem Tryz.strconv_Itoa (n : Int) (h0 : -9223372036854775808 ≤ n) (h1 : n ≤ 9223372036854775807) (w : World) (htab : Lib.TabIs Tryz.prog w "internal/strconv.uint64pow10" .u64 Lib.pow10Tab) :
    Calls Tryz.prog 45 #[.int .i64 n] w fun e w' => e = .returned (.string ⟨(Lib.itoa n).toArray⟩) ∧ ∃ k os, w' = grow (w.drewN k) os := Any.strconv_Itoa Tryz.laysM171 n h0 h1 w htab
def Tryz.laysM173_ren : Go.Shelf.Ren := ⟨fun | 173 => 116 | 246 => 130 | 283 => 153 | 284 => 154 | 285 => 155 | 286 => 156 | 129 => 173 | 317 => 172 | 318 => 174 | 319 => 175 | 320 => 176 | 337 => 188 | 338 => 189 | n => n, fun | 2 => 2 | 3 => 3 | 9 => 9 | 4 => 4 | 171 => 231 | 0 => 0 | 53 => 22 | 37 => 72 | 5 => 5 | 173 => 234 | 212 => 264 | 51 => 28 | 20 => 20 | 213 => 265 | 46 => 226 | 232 => 77 | 233 => 297 | n => n, fun | 17 => 1 | 18 => 4 | 19 => 5 | n => n⟩
theorem Tryz.laysM173 : Go.Proofs.LaysM.n173 Tryz.prog Tryz.laysM173_ren := {
  mixed := by kernel_rfl
  f129 := Tryz.func173.trans (congrArg some (by kernel_rfl))
  f173 := Tryz.func116.trans (congrArg some (by kernel_rfl))
  f246 := Tryz.func130.trans (congrArg some (by kernel_rfl))
  f283 := Tryz.func153.trans (congrArg some (by kernel_rfl))
  f284 := Tryz.func154.trans (congrArg some (by kernel_rfl))
  f285 := Tryz.func155.trans (congrArg some (by kernel_rfl))
  f286 := Tryz.func156.trans (congrArg some (by kernel_rfl))
  f317 := Tryz.func172.trans (congrArg some (by kernel_rfl))
  f318 := Tryz.func174.trans (congrArg some (by kernel_rfl))
  f319 := Tryz.func175.trans (congrArg some (by kernel_rfl))
  f320 := Tryz.func176.trans (congrArg some (by kernel_rfl))
  f337 := Tryz.func188.trans (congrArg some (by kernel_rfl))
  f338 := Tryz.func189.trans (congrArg some (by kernel_rfl))
  t0 := Tryz.underlying0
  a0 := Tryz.isAgg0
  z0 := Tryz.sizeOf0
  v0 := Tryz.zeroValue0
  t2 := Tryz.underlying2
  a2 := Tryz.isAgg2
  z2 := Tryz.sizeOf2
  v2 := Tryz.zeroValue2
  t3 := Tryz.underlying3
  a3 := Tryz.isAgg3
  z3 := Tryz.sizeOf3
  v3 := Tryz.zeroValue3
  t4 := Tryz.underlying4
  a4 := Tryz.isAgg4
  z4 := Tryz.sizeOf4
  v4 := Tryz.zeroValue4
  t5 := Tryz.underlying5
  a5 := Tryz.isAgg5
  z5 := Tryz.sizeOf5
  v5 := Tryz.zeroValue5
  t9 := Tryz.underlying9
  a9 := Tryz.isAgg9
  z9 := Tryz.sizeOf9
  v9 := Tryz.zeroValue9
  t20 := Tryz.underlying20
  a20 := Tryz.isAgg20
  z20 := Tryz.sizeOf20
  v20 := Tryz.zeroValue20
  t37 := Tryz.underlying72
  a37 := Tryz.isAgg72
  z37 := Tryz.sizeOf72
  v37 := Tryz.zeroValue72
  t46 := Tryz.underlying226
  a46 := Tryz.isAgg226
  z46 := Tryz.sizeOf226
  v46 := Tryz.zeroValue226
  t51 := Tryz.underlying28
  a51 := Tryz.isAgg28
  z51 := Tryz.sizeOf28
  v51 := Tryz.zeroValue28
  t53 := Tryz.underlying22
  a53 := Tryz.isAgg22
  z53 := Tryz.sizeOf22
  v53 := Tryz.zeroValue22
  t171 := Tryz.underlying231
  a171 := Tryz.isAgg231
  z171 := Tryz.sizeOf231
  v171 := Tryz.zeroValue231
  t173 := Tryz.underlying234
  a173 := Tryz.isAgg234
  z173 := Tryz.sizeOf234
  v173 := Tryz.zeroValue234
  t212 := Tryz.underlying264
  a212 := Tryz.isAgg264
  z212 := Tryz.sizeOf264
  v212 := Tryz.zeroValue264
  t213 := Tryz.underlying265
  a213 := Tryz.isAgg265
  z213 := Tryz.sizeOf265
  t232 := Tryz.underlying77
  a232 := Tryz.isAgg77
  z232 := Tryz.sizeOf77
  v232 := Tryz.zeroValue77
  t233 := Tryz.underlying297
  a233 := Tryz.isAgg297
  z233 := Tryz.sizeOf297
  v233 := Tryz.zeroValue297
  g17 := by kernel_rfl
  g18 := by kernel_rfl
  g19 := by kernel_rfl
  i0 := by kernel_rfl
  i2 := by kernel_rfl
  i3 := by kernel_rfl
  i4 := by kernel_rfl
  i5 := by kernel_rfl
  i9 := by kernel_rfl
  i20 := by kernel_rfl
  i37 := by kernel_rfl
  i46 := by kernel_rfl
  i51 := by kernel_rfl
  i53 := by kernel_rfl
  i171 := by kernel_rfl
  i173 := by kernel_rfl
  i212 := by kernel_rfl
  i232 := by kernel_rfl
  i233 := by kernel_rfl
  m17 := by kernel_rfl
  m18 := by kernel_rfl
  m19 := by kernel_rfl }
open Go.RowKit Go.Sort Go.Lib in
theorem Tryz.strconv_FormatInt_10 (n : Int) (h0 : -9223372036854775808 ≤ n) (h1 : n ≤ 9223372036854775807) (w : World) (htab : Lib.TabIs Tryz.prog w "internal/strconv.uint64pow10" .u64 Lib.pow10Tab) :
    Calls Tryz.prog 116 #[.int .i64 n, .int .i64 10] w fun e w' => e = .returned (.string ⟨(Lib.itoa n).toArray⟩) ∧ ∃ k os, w' = grow (w.drewN k) os := Any.strconv_FormatInt_10 Tryz.laysM173 n h0 h1 w htab
def Tryz.laysC174_ren : Go.Shelf.Ren := ⟨fun | 174 => 95 | 247 => 132 | 245 => 133 | 287 => 158 | 279 => 159 | 280 => 160 | 281 => 161 | 282 => 162 | 321 => 177 | 322 => 178 | 316 => 179 | 171 => 45 | 205 => 180 | 243 => 88 | 246 => 130 | 283 => 153 | 284 => 154 | 285 => 155 | 286 => 156 | 129 => 173 | 317 => 172 | 318 => 174 | 319 => 175 | 320 => 176 | 337 => 188 | 338 => 189 | n => n, fun | 9 => 9 | 3 => 3 | 2 => 2 | 75 => 177 | 85 => 178 | 4 => 4 | 167 => 237 | 5 => 5 | 53 => 22 | 175 => 220 | 46 => 226 | 168 => 238 | 37 => 72 | 0 => 0 | 210 => 271 | 21 => 21 | 127 => 150 | 145 => 282 | 143 => 280 | 171 => 231 | 173 => 234 | 212 => 264 | 51 => 28 | 20 => 20 | 213 => 265 | 232 => 77 | 233 => 297 | 80 => 212 | n => n, fun | 15 => 2 | 16 => 3 | 17 => 1 | 18 => 4 | 19 => 5 | n => n⟩
theorem Tryz.laysC174 : Go.Proofs.LaysC.n174 Tryz.prog Tryz.laysC174_ren := {
  mixed := by kernel_rfl
  f129 := Tryz.func173.trans (congrArg some (by kernel_rfl))
  f171 := Tryz.func45.trans (congrArg some (by kernel_rfl))
  f174 := Tryz.func95.trans (congrArg some (by kernel_rfl))
  f205 := Tryz.func180.trans (congrArg some (by kernel_rfl))
  f243 := Tryz.func88.trans (congrArg some (by kernel_rfl))
  f245 := Tryz.func133.trans (congrArg some (by kernel_rfl))
  f246 := Tryz.func130.trans (congrArg some (by kernel_rfl))
  f247 := Tryz.func132.trans (congrArg some (by kernel_rfl))
  f279 := Tryz.func159.trans (congrArg some (by kernel_rfl))
  f280 := Tryz.func160.trans (congrArg some (by kernel_rfl))
  f281 := Tryz.func161.trans (congrArg some (by kernel_rfl))
  f282 := Tryz.func162.trans (congrArg some (by kernel_rfl))
  f283 := Tryz.func153.trans (congrArg some (by kernel_rfl))
  f284 := Tryz.func154.trans (congrArg some (by kernel_rfl))
  f285 := Tryz.func155.trans (congrArg some (by kernel_rfl))
  f286 := Tryz.func156.trans (congrArg some (by kernel_rfl))
  f287 := Tryz.func158.trans (congrArg some (by kernel_rfl))
  f316 := Tryz.func179.trans (congrArg some (by kernel_rfl))
  f317 := Tryz.func172.trans (congrArg some (by kernel_rfl))
  f318 := Tryz.func174.trans (congrArg some (by kernel_rfl))
  f319 := Tryz.func175.trans (congrArg some (by kernel_rfl))
  f320 := Tryz.func176.trans (congrArg some (by kernel_rfl))
  f321 := Tryz.func177.trans (congrArg some (by kernel_rfl))
  f322 := Tryz.func178.trans (congrArg some (by kernel_rfl))
  f337 := Tryz.func188.trans (congrArg some (by kernel_rfl))
  f338 := Tryz.func189.trans (congrArg some (by kernel_rfl))
  t0 := Tryz.underlying0
  a0 := Tryz.isAgg0
  z0 := Tryz.sizeOf0
  v0 := Tryz.zeroValue0
  t2 := Tryz.underlying2
  a2 := Tryz.isAgg2
  z2 := Tryz.sizeOf2
  v2 := Tryz.zeroValue2
  t3 := Tryz.underlying3
  a3 := Tryz.isAgg3
  z3 := Tryz.sizeOf3
  v3 := Tryz.zeroValue3
  t4 := Tryz.underlying4
  a4 := Tryz.isAgg4
  z4 := Tryz.sizeOf4
  v4 := Tryz.zeroValue4
  t5 := Tryz.underlying5
  a5 := Tryz.isAgg5
  z5 := Tryz.sizeOf5
  v5 := Tryz.zeroValue5
  t9 := Tryz.underlying9
  a9 := Tryz.isAgg9
  z9 := Tryz.sizeOf9
  v9 := Tryz.zeroValue9
  t20 := Tryz.underlying20
  a20 := Tryz.isAgg20
  z20 := Tryz.sizeOf20
  v20 := Tryz.zeroValue20
  t21 := Tryz.underlying21
  a21 := Tryz.isAgg21
  z21 := Tryz.sizeOf21
  v21 := Tryz.zeroValue21
  t37 := Tryz.underlying72
  a37 := Tryz.isAgg72
  z37 := Tryz.sizeOf72
  v37 := Tryz.zeroValue72
  t46 := Tryz.underlying226
  a46 := Tryz.isAgg226
  z46 := Tryz.sizeOf226
  v46 := Tryz.zeroValue226
  t51 := Tryz.underlying28
  a51 := Tryz.isAgg28
  z51 := Tryz.sizeOf28
  v51 := Tryz.zeroValue28
  t53 := Tryz.underlying22
  a53 := Tryz.isAgg22
  z53 := Tryz.sizeOf22
  v53 := Tryz.zeroValue22
  t75 := Tryz.underlying177
  a75 := Tryz.isAgg177
  z75 := Tryz.sizeOf177
  v75 := Tryz.zeroValue177
  t85 := Tryz.underlying178
  a85 := Tryz.isAgg178
  z85 := Tryz.sizeOf178
  v85 := Tryz.zeroValue178
  t127 := Tryz.underlying150
  a127 := Tryz.isAgg150
  z127 := Tryz.sizeOf150
  v127 := Tryz.zeroValue150
  t143 := Tryz.underlying280
  a143 := Tryz.isAgg280
  z143 := Tryz.sizeOf280
  v143 := Tryz.zeroValue280
  t145 := Tryz.underlying282
  a145 := Tryz.isAgg282
  z145 := Tryz.sizeOf282
  v145 := Tryz.zeroValue282
  t167 := Tryz.underlying237
  a167 := Tryz.isAgg237
  z167 := Tryz.sizeOf237
  v167 := Tryz.zeroValue237
  t168 := Tryz.underlying238
  a168 := Tryz.isAgg238
  z168 := Tryz.sizeOf238
  v168 := Tryz.zeroValue238
  t171 := Tryz.underlying231
  a171 := Tryz.isAgg231
  z171 := Tryz.sizeOf231
  v171 := Tryz.zeroValue231
  t173 := Tryz.underlying234
  a173 := Tryz.isAgg234
  z173 := Tryz.sizeOf234
  v173 := Tryz.zeroValue234
  t175 := Tryz.underlying220
  a175 := Tryz.isAgg220
  z175 := Tryz.sizeOf220
  v175 := Tryz.zeroValue220
  t210 := Tryz.underlying271
  a210 := Tryz.isAgg271
  z210 := Tryz.sizeOf271
  v210 := Tryz.zeroValue271
  t212 := Tryz.underlying264
  a212 := Tryz.isAgg264
  z212 := Tryz.sizeOf264
  v212 := Tryz.zeroValue264
  t213 := Tryz.underlying265
  a213 := Tryz.isAgg265
  z213 := Tryz.sizeOf265
  t232 := Tryz.underlying77
  a232 := Tryz.isAgg77
  z232 := Tryz.sizeOf77
  v232 := Tryz.zeroValue77
  t233 := Tryz.underlying297
  a233 := Tryz.isAgg297
  z233 := Tryz.sizeOf297
  v233 := Tryz.zeroValue297
  g15 := by kernel_rfl
  g16 := by kernel_rfl
  g17 := by kernel_rfl
  g18 := by kernel_rfl
  g19 := by kernel_rfl
  t80 := Tryz.underlying212
  a80 := Tryz.isAgg212
  z80 := Tryz.sizeOf212
  v80 := Tryz.zeroValue212
  i0 := by kernel_rfl
  i2 := by kernel_rfl
  i3 := by kernel_rfl
  i4 := by kernel_rfl
  i5 := by kernel_rfl
  i9 := by kernel_rfl
  i20 := by kernel_rfl
  i21 := by kernel_rfl
  i37 := by kernel_rfl
  i46 := by kernel_rfl
  i51 := by kernel_rfl
  i53 := by kernel_rfl
  i75 := by kernel_rfl
  i80 := by kernel_rfl
  i85 := by kernel_rfl
  i127 := by kernel_rfl
  i143 := by kernel_rfl
  i145 := by kernel_rfl
  i167 := by kernel_rfl
  i168 := by kernel_rfl
  i171 := by kernel_rfl
  i173 := by kernel_rfl
  i175 := by kernel_rfl
  i210 := by kernel_rfl
  i212 := by kernel_rfl
  i232 := by kernel_rfl
  i233 := by kernel_rfl
  m15 := by kernel_rfl
  m16 := by kernel_rfl
  m17 := by kernel_rfl
  m18 := by kernel_rfl
  m19 := by kernel_rfl
  c0 := by kernel_rfl
  c2 := by kernel_rfl
  c3 := by kernel_rfl
  c4 := by kernel_rfl
  c5 := by kernel_rfl
  c9 := by kernel_rfl
  c20 := by kernel_rfl
  c21 := by kernel_rfl
  c37 := by kernel_rfl
  c46 := by kernel_rfl
  c51 := by kernel_rfl
  c53 := by kernel_rfl
  c75 := by kernel_rfl
  c80 := by kernel_rfl
  c85 := by kernel_rfl
  c127 := by kernel_rfl
  c143 := by kernel_rfl
  c145 := by kernel_rfl
  c167 := by kernel_rfl
  c168 := by kernel_rfl
  c171 := by kernel_rfl
  c173 := by kernel_rfl
  c175 := by kernel_rfl
  c210 := by kernel_rfl
  c212 := by kernel_rfl
  c213 := by kernel_rfl
  c232 := by kernel_rfl
  c233 := by kernel_rfl }
open Go.RowKit in
theorem Tryz.strconv_ParseInt_10_at64_ok (s : ByteArray) (hmax : s.size ≤ 9223372036854775806) (v : Int) (h : Lib.parseIntB 64 s.data.toList = .ok v) (w : World) :
    Calls Tryz.prog 95 #[.string s, .int .i64 10, .int .i64 64] w fun e w' => e = .returned (.tuple #[.int .i64 v, .nilIface]) ∧ (w' = w ∨ ∃ t, w' = Lib.bytesWorld w 5 t) := Any.strconv_ParseInt_10_at64_ok Tryz.laysC174 s hmax v h w
open Go.RowKit in
theorem Tryz.strconv_ParseInt_10_at64_syntax (s : ByteArray) (hlim : s.size ≤ 281474976710656) (h : (∀ u, Lib.parseIntB 64 s.data.toList ≠ .ok u) ∧ Lib.parseIntB 64 s.data.toList ≠ .range) (ev : Value) (w : World) (hv : w.cell? ⟨2, 0, none⟩ = some ev) (hev : ev = .nilIface ∨ ∃ te pe, ev = .iface te pe) :
    Calls Tryz.prog 95 #[.string s, .int .i64 10, .int .i64 64] w fun e w' => ∃ N, e = .returned (.tuple #[.int .i64 (0), .iface 238 (.pointer (some ⟨N, 0, none⟩))]) ∧ w.heap.size ≤ N ∧ w'.heap[N]? = some (.cells #[.string ⟨#[80, 97, 114, 115, 101, 73, 110, 116]⟩, .string s, ev] 271 (0, 0)) ∧ Below w.heap.size w w' := Any.strconv_ParseInt_10_at64_syntax Tryz.laysC174 s hlim (by cases hx : Lib.parseIntB 64 s.data.toList <;> first | rfl | exact absurd hx (h.1 _) | exact absurd hx h.2) ev w hv hev
open Go.RowKit in
theorem Tryz.strconv_ParseInt_10_at64_range (s : ByteArray) (hlim : s.size ≤ 281474976710656) (h : Lib.parseIntB 64 s.data.toList = .range) (ev : Value) (w : World) (hv : w.cell? ⟨3, 0, none⟩ = some ev) (hev : ev = .nilIface ∨ ∃ te pe, ev = .iface te pe) :
    Calls Tryz.prog 95 #[.string s, .int .i64 10, .int .i64 64] w fun e w' => ∃ N, e = .returned (.tuple #[.int .i64 (Lib.intSat 64 s.data.toList), .iface 238 (.pointer (some ⟨N, 0, none⟩))]) ∧ w.heap.size ≤ N ∧ w'.heap[N]? = some (.cells #[.string ⟨#[80, 97, 114, 115, 101, 73, 110, 116]⟩, .string s, ev] 271 (0, 0)) ∧ Below w.heap.size w w' := Any.strconv_ParseInt_10_at64_range Tryz.laysC174 s hlim h ev w hv hev
def Tryz.laysPu14_ren : Go.Shelf.Ren := ⟨fun | 14 => 146 | 16 => 158 | 17 => 133 | 19 => 177 | 20 => 178 | 21 => 159 | 22 => 160 | 23 => 161 | 24 => 162 | 25 => 179 | 27 => 45 | 26 => 180 | 28 => 88 | 29 => 130 | 30 => 153 | 31 => 154 | 32 => 155 | 33 => 156 | 35 => 173 | 34 => 172 | 36 => 174 | 37 => 175 | 38 => 176 | 39 => 188 | 40 => 189 | n => n, fun | 9 => 9 | 3 => 3 | 22 => 22 | 24 => 177 | 25 => 220 | 4 => 4 | 34 => 237 | 5 => 5 | 36 => 226 | 37 => 72 | 0 => 0 | 39 => 238 | 21 => 21 | 44 => 271 | 47 => 150 | 50 => 282 | 48 => 280 | 2 => 2 | 52 => 231 | 55 => 234 | 59 => 264 | 60 => 28 | 20 => 20 | 61 => 265 | 65 => 77 | 66 => 297 | 67 => 212 | n => n, fun | 0 => 2 | 1 => 3 | 2 => 1 | 3 => 4 | 4 => 5 | n => n⟩
theorem Tryz.laysPu14 : Go.Proofs.LaysPu.n14 Tryz.prog Tryz.laysPu14_ren := {
  mixed := by kernel_rfl
  f14 := Tryz.func146.trans (congrArg some (by kernel_rfl))
  f16 := Tryz.func158.trans (congrArg some (by kernel_rfl))
  f17 := Tryz.func133.trans (congrArg some (by kernel_rfl))
  f19 := Tryz.func177.trans (congrArg some (by kernel_rfl))
  f20 := Tryz.func178.trans (congrArg some (by kernel_rfl))
  f21 := Tryz.func159.trans (congrArg some (by kernel_rfl))
  f22 := Tryz.func160.trans (congrArg some (by kernel_rfl))
  f23 := Tryz.func161.trans (congrArg some (by kernel_rfl))
  f24 := Tryz.func162.trans (congrArg some (by kernel_rfl))
  f25 := Tryz.func179.trans (congrArg some (by kernel_rfl))
  f26 := Tryz.func180.trans (congrArg some (by kernel_rfl))
  f27 := Tryz.func45.trans (congrArg some (by kernel_rfl))
  f28 := Tryz.func88.trans (congrArg some (by kernel_rfl))
  f29 := Tryz.func130.trans (congrArg some (by kernel_rfl))
  f30 := Tryz.func153.trans (congrArg some (by kernel_rfl))
  f31 := Tryz.func154.trans (congrArg some (by kernel_rfl))
  f32 := Tryz.func155.trans (congrArg some (by kernel_rfl))
  f33 := Tryz.func156.trans (congrArg some (by kernel_rfl))
  f34 := Tryz.func172.trans (congrArg some (by kernel_rfl))
  f35 := Tryz.func173.trans (congrArg some (by kernel_rfl))
  f36 := Tryz.func174.trans (congrArg some (by kernel_rfl))
  f37 := Tryz.func175.trans (congrArg some (by kernel_rfl))
  f38 := Tryz.func176.trans (congrArg some (by kernel_rfl))
  f39 := Tryz.func188.trans (congrArg some (by kernel_rfl))
  f40 := Tryz.func189.trans (congrArg some (by kernel_rfl))
  t0 := Tryz.underlying0
  a0 := Tryz.isAgg0
  z0 := Tryz.sizeOf0
  v0 := Tryz.zeroValue0
  i0 := by kernel_rfl
  t2 := Tryz.underlying2
  a2 := Tryz.isAgg2
  z2 := Tryz.sizeOf2
  v2 := Tryz.zeroValue2
  i2 := by kernel_rfl
  t3 := Tryz.underlying3
  a3 := Tryz.isAgg3
  z3 := Tryz.sizeOf3
  v3 := Tryz.zeroValue3
  i3 := by kernel_rfl
  t4 := Tryz.underlying4
  a4 := Tryz.isAgg4
  z4 := Tryz.sizeOf4
  v4 := Tryz.zeroValue4
  i4 := by kernel_rfl
  t5 := Tryz.underlying5
  a5 := Tryz.isAgg5
  z5 := Tryz.sizeOf5
  v5 := Tryz.zeroValue5
  i5 := by kernel_rfl
  t9 := Tryz.underlying9
  a9 := Tryz.isAgg9
  z9 := Tryz.sizeOf9
  v9 := Tryz.zeroValue9
  i9 := by kernel_rfl
  t20 := Tryz.underlying20
  a20 := Tryz.isAgg20
  z20 := Tryz.sizeOf20
  v20 := Tryz.zeroValue20
  i20 := by kernel_rfl
  t21 := Tryz.underlying21
  a21 := Tryz.isAgg21
  z21 := Tryz.sizeOf21
  v21 := Tryz.zeroValue21
  i21 := by kernel_rfl
  t22 := Tryz.underlying22
  a22 := Tryz.isAgg22
  z22 := Tryz.sizeOf22
  v22 := Tryz.zeroValue22
  i22 := by kernel_rfl
  t24 := Tryz.underlying177
  a24 := Tryz.isAgg177
  z24 := Tryz.sizeOf177
  v24 := Tryz.zeroValue177
  i24 := by kernel_rfl
  t25 := Tryz.underlying220
  a25 := Tryz.isAgg220
  z25 := Tryz.sizeOf220
  v25 := Tryz.zeroValue220
  i25 := by kernel_rfl
  t34 := Tryz.underlying237
  a34 := Tryz.isAgg237
  z34 := Tryz.sizeOf237
  v34 := Tryz.zeroValue237
  i34 := by kernel_rfl
  c34 := by kernel_rfl
  t36 := Tryz.underlying226
  a36 := Tryz.isAgg226
  z36 := Tryz.sizeOf226
  v36 := Tryz.zeroValue226
  i36 := by kernel_rfl
  t37 := Tryz.underlying72
  a37 := Tryz.isAgg72
  z37 := Tryz.sizeOf72
  v37 := Tryz.zeroValue72
  i37 := by kernel_rfl
  t39 := Tryz.underlying238
  a39 := Tryz.isAgg238
  z39 := Tryz.sizeOf238
  v39 := Tryz.zeroValue238
  i39 := by kernel_rfl
  t44 := Tryz.underlying271
  a44 := Tryz.isAgg271
  z44 := Tryz.sizeOf271
  v44 := Tryz.zeroValue271
  i44 := by kernel_rfl
  t47 := Tryz.underlying150
  a47 := Tryz.isAgg150
  z47 := Tryz.sizeOf150
  v47 := Tryz.zeroValue150
  i47 := by kernel_rfl
  t48 := Tryz.underlying280
  a48 := Tryz.isAgg280
  z48 := Tryz.sizeOf280
  v48 := Tryz.zeroValue280
  i48 := by kernel_rfl
  t50 := Tryz.underlying282
  a50 := Tryz.isAgg282
  z50 := Tryz.sizeOf282
  v50 := Tryz.zeroValue282
  i50 := by kernel_rfl
  t52 := Tryz.underlying231
  a52 := Tryz.isAgg231
  z52 := Tryz.sizeOf231
  v52 := Tryz.zeroValue231
  i52 := by kernel_rfl
  t55 := Tryz.underlying234
  a55 := Tryz.isAgg234
  z55 := Tryz.sizeOf234
  v55 := Tryz.zeroValue234
  i55 := by kernel_rfl
  t59 := Tryz.underlying264
  a59 := Tryz.isAgg264
  z59 := Tryz.sizeOf264
  v59 := Tryz.zeroValue264
  i59 := by kernel_rfl
  t60 := Tryz.underlying28
  a60 := Tryz.isAgg28
  z60 := Tryz.sizeOf28
  v60 := Tryz.zeroValue28
  i60 := by kernel_rfl
  t61 := Tryz.underlying265
  a61 := Tryz.isAgg265
  z61 := Tryz.sizeOf265
  t65 := Tryz.underlying77
  a65 := Tryz.isAgg77
  z65 := Tryz.sizeOf77
  v65 := Tryz.zeroValue77
  i65 := by kernel_rfl
  t66 := Tryz.underlying297
  a66 := Tryz.isAgg297
  z66 := Tryz.sizeOf297
  v66 := Tryz.zeroValue297
  i66 := by kernel_rfl
  t67 := Tryz.underlying212
  a67 := Tryz.isAgg212
  z67 := Tryz.sizeOf212
  v67 := Tryz.zeroValue212
  i67 := by kernel_rfl
  g0 := by kernel_rfl
  m0 := by kernel_rfl
  g1 := by kernel_rfl
  m1 := by kernel_rfl
  g2 := by kernel_rfl
  m2 := by kernel_rfl
  g3 := by kernel_rfl
  m3 := by kernel_rfl
  g4 := by kernel_rfl
  m4 := by kernel_rfl }
open Go.RowKit in
theorem Tryz.strconv_ParseUint_10_at64_ok (s : ByteArray) (hmax : s.size ≤ 9223372036854775806) (u : Nat) (h : Lib.parseUintB 64 s.data.toList = .ok u) (w : World) :
    Calls Tryz.prog 146 #[.string s, .int .i64 10, .int .i64 64] w fun e w' => e = .returned (.tuple #[.int .u64 u, .nilIface]) ∧ (w' = w ∨ w' = Lib.bytesWorld w 5 s) := Any.strconv_ParseUint_10_at64_ok Tryz.laysPu14 s hmax u h w
open Go.RowKit in
theorem Tryz.strconv_ParseUint_10_at64_syntax (s : ByteArray) (hlim : s.size ≤ 281474976710656) (h : (∀ u, Lib.parseUintB 64 s.data.toList ≠ .ok u) ∧ Lib.parseUintB 64 s.data.toList ≠ .range) (ev : Value) (w : World) (hv : w.cell? ⟨2, 0, none⟩ = some ev) (hev : ev = .nilIface ∨ ∃ te pe, ev = .iface te pe) :
    Calls Tryz.prog 146 #[.string s, .int .i64 10, .int .i64 64] w fun e w' => ∃ N, e = .returned (.tuple #[.int .u64 0, .iface 238 (.pointer (some ⟨N, 0, none⟩))]) ∧ w.heap.size ≤ N ∧ w'.heap[N]? = some (.cells #[.string ⟨#[80, 97, 114, 115, 101, 85, 105, 110, 116]⟩, .string s, ev] 271 (0, 0)) ∧ Below w.heap.size w w' := Any.strconv_ParseUint_10_at64_syntax Tryz.laysPu14 s hlim (by cases hx : Lib.parseUintB 64 s.data.toList <;> first | rfl | exact absurd hx (h.1 _) | exact absurd hx h.2) ev w hv hev
open Go.RowKit in
theorem Tryz.strconv_ParseUint_10_at64_range (s : ByteArray) (hlim : s.size ≤ 281474976710656) (h : Lib.parseUintB 64 s.data.toList = .range) (ev : Value) (w : World) (hv : w.cell? ⟨3, 0, none⟩ = some ev) (hev : ev = .nilIface ∨ ∃ te pe, ev = .iface te pe) :
    Calls Tryz.prog 146 #[.string s, .int .i64 10, .int .i64 64] w fun e w' => ∃ N, e = .returned (.tuple #[.int .u64 18446744073709551615, .iface 238 (.pointer (some ⟨N, 0, none⟩))]) ∧ w.heap.size ≤ N ∧ w'.heap[N]? = some (.cells #[.string ⟨#[80, 97, 114, 115, 101, 85, 105, 110, 116]⟩, .string s, ev] 271 (0, 0)) ∧ Below w.heap.size w w' := Any.strconv_ParseUint_10_at64_range Tryz.laysPu14 s hlim h ev w hv hev
def Tryz.lays138_ren : Go.Shelf.Ren := ⟨fun | 138 => 259 | 195 => 260 | 218 => 261 | 143 => 262 | 219 => 263 | 217 => 226 | 225 => 264 | 224 => 265 | 267 => 266 | 266 => 227 | 314 => 267 | n => n, fun | 9 => 9 | 3 => 3 | 4 => 4 | 5 => 5 | 0 => 0 | 46 => 226 | 146 => 355 | 51 => 28 | n => n, fun | 1 => 6 | n => n⟩
theorem Tryz.lays138 : Go.Proofs.Lays.n138 Tryz.prog Tryz.lays138_ren := {
  mixed := by kernel_rfl
  f138 := Tryz.func259.trans (congrArg some (by kernel_rfl))
  f143 := Tryz.func262.trans (congrArg some (by kernel_rfl))
  f195 := Tryz.func260.trans (congrArg some (by kernel_rfl))
  f217 := Tryz.func226.trans (congrArg some (by kernel_rfl))
  f218 := Tryz.func261.trans (congrArg some (by kernel_rfl))
  f219 := Tryz.func263.trans (congrArg some (by kernel_rfl))
  f224 := Tryz.func265.trans (congrArg some (by kernel_rfl))
  f225 := Tryz.func264.trans (congrArg some (by kernel_rfl))
  f266 := Tryz.func227.trans (congrArg some (by kernel_rfl))
  f267 := Tryz.func266.trans (congrArg some (by kernel_rfl))
  f314 := Tryz.func267.trans (congrArg some (by kernel_rfl))
  t0 := Tryz.underlying0
  a0 := Tryz.isAgg0
  z0 := Tryz.sizeOf0
  v0 := Tryz.zeroValue0
  t3 := Tryz.underlying3
  a3 := Tryz.isAgg3
  z3 := Tryz.sizeOf3
  v3 := Tryz.zeroValue3
  t4 := Tryz.underlying4
  a4 := Tryz.isAgg4
  z4 := Tryz.sizeOf4
  v4 := Tryz.zeroValue4
  t5 := Tryz.underlying5
  a5 := Tryz.isAgg5
  z5 := Tryz.sizeOf5
  v5 := Tryz.zeroValue5
  t9 := Tryz.underlying9
  a9 := Tryz.isAgg9
  z9 := Tryz.sizeOf9
  v9 := Tryz.zeroValue9
  t46 := Tryz.underlying226
  a46 := Tryz.isAgg226
  z46 := Tryz.sizeOf226
  v46 := Tryz.zeroValue226
  t51 := Tryz.underlying28
  a51 := Tryz.isAgg28
  z51 := Tryz.sizeOf28
  v51 := Tryz.zeroValue28
  t146 := Tryz.underlying355
  a146 := Tryz.isAgg355
  z146 := Tryz.sizeOf355
  v146 := Tryz.zeroValue355
  g1 := by kernel_rfl }
open Go.RowKit Go.Lib in
theorem Tryz.strings_Count_one (s : ByteArray) (c : UInt8) (w : World) :
    Calls Tryz.prog 259 #[.string s, .string ⟨#[c]⟩] w fun e w' => e = .returned (.int .i64 (Lib.countByte s.data.toList c)) ∧ w' = w := Any.strings_Count_one Tryz.lays138 s c w
def Tryz.lays101_ren : Go.Shelf.Ren := ⟨fun | 101 => 94 | 208 => 131 | 206 => 157 | n => n, fun | 9 => 9 | 4 => 4 | 3 => 3 | n => n, fun | n => n⟩
theorem Tryz.lays101 : Go.Proofs.Lays.n101 Tryz.prog Tryz.lays101_ren := {
  mixed := by kernel_rfl
  f101 := Tryz.func94.trans (congrArg some (by kernel_rfl))
  f206 := Tryz.func157.trans (congrArg some (by kernel_rfl))
  f208 := Tryz.func131.trans (congrArg some (by kernel_rfl))
  t3 := Tryz.underlying3
  a3 := Tryz.isAgg3
  z3 := Tryz.sizeOf3
  v3 := Tryz.zeroValue3
  t4 := Tryz.underlying4
  a4 := Tryz.isAgg4
  z4 := Tryz.sizeOf4
  v4 := Tryz.zeroValue4
  t9 := Tryz.underlying9
  a9 := Tryz.isAgg9
  z9 := Tryz.sizeOf9
  v9 := Tryz.zeroValue9 }
open Go.RowKit Go.Lib in
theorem Tryz.strings_TrimPrefix (s p : ByteArray) (w : World) :
    Calls Tryz.prog 94 #[.string s, .string p] w fun e w' => e = .returned (.string ⟨(Lib.trimPrefix s.data.toList p.data.toList).toArray⟩) ∧ w' = w := Any.strings_TrimPrefix Tryz.lays101 s p w
def Tryz.laysNm216_ren : Go.Shelf.Ren := ⟨fun | 16 => 135 | n => n, fun | 24 => 58 | 9 => 9 | 4 => 4 | n => n, fun | n => n⟩
theorem Tryz.laysNm216 : Go.Proofs.Lays2.n16 Tryz.prog Tryz.laysNm216_ren := {
  mixed := by kernel_rfl
  f16 := Tryz.func135.trans (congrArg some (by kernel_rfl))
  t4 := Tryz.underlying4
  a4 := Tryz.isAgg4
  z4 := Tryz.sizeOf4
  v4 := Tryz.zeroValue4
  t9 := Tryz.underlying9
  a9 := Tryz.isAgg9
  z9 := Tryz.sizeOf9
  v9 := Tryz.zeroValue9
  t24 := Tryz.underlying58
  a24 := Tryz.isAgg58
  z24 := Tryz.sizeOf58
  v24 := Tryz.zeroValue58
  i9 := by kernel_rfl }
open Go.RowKit Go.Lib in
theorem Tryz.slices_Clone_string (b off n c : Nat) (zs : List ByteArray) (w : World) (hz : n ≤ zs.length) (hbig : n * 16 ≤ 140737488355328) (hc : ∀ j, j < zs.length → w.cell? ⟨b, off + j, none⟩ = some (.string (zs.getD j ByteArray.empty))) :
    Calls Tryz.prog 135 #[.slice (some ⟨b, off, none⟩) n c] w fun e w' => ∃ v', e = .returned v' ∧ w'.ownsRow w.heap.size 9 1 v' n ((zs.take n).map (Value.string)) ∧ v' ≠ .slice none 0 0 ∧ Below w.heap.size w w' := Any.slices_Clone_string Tryz.laysNm216 b off n c zs w hz hbig hc
open Go.RowKit Go.Lib in
theorem Tryz.slices_Clone_string_nil (n c : Nat) (w : World) :
    Calls Tryz.prog 135 #[.slice none n c] w fun e w' => e = .returned (.slice none 0 0) ∧ w' = w := Any.slices_Clone_string_nil Tryz.laysNm216 n c w
open Go.RowKit Go.Lib in
theorem Tryz.slices_Clone_string_zero (a : Addr) (c : Nat) (w : World) :
    Calls Tryz.prog 135 #[.slice (some a) 0 c] w fun e w' => ∃ v', e = .returned v' ∧ w'.ownsRow w.heap.size 9 1 v' 0 [] ∧ v' ≠ .slice none 0 0 ∧ Below w.heap.size w w' := Any.slices_Clone_string_zero Tryz.laysNm216 a c w
end Go.Proofs


namespace Go.Proofs.YtgfijlamhjjecaaGreatDoor
open Go.RowKit

abbrev Sec := Nat → UInt8
def bv (b : UInt8) : Value := .int .u8 (b.toNat : Int)
def rowL (n : Nat) (f : Sec) : List Value := (List.range n).map fun j => bv (f j)
def rowA (n : Nat) (f : Sec) : Array Value := (rowL n f).toArray
theorem rowL_length (n : Nat) (f : Sec) : (rowL n f).length = n := by simp [rowL]
theorem rowA_size (n : Nat) (f : Sec) : (rowA n f).size = n := by simp [rowA, rowL]
theorem rowL_get {n : Nat} (f : Sec) {j : Nat} (h : j < n) : (rowL n f)[j]? = some (bv (f j)) := by simp [rowL, h]
theorem rowA_get {n : Nat} (f : Sec) {j : Nat} (h : j < n) : (rowA n f)[j]? = some (bv (f j)) := by simp [rowA, rowL, h]
theorem rowL_congr {n : Nat} {f g : Sec} (h : ∀ j, j < n → f j = g j) : rowL n f = rowL n g := by
  unfold rowL; apply List.map_congr_left; intro j hj; rw [h j (by simpa using hj)]
theorem rowA_congr {n : Nat} {f g : Sec} (h : ∀ j, j < n → f j = g j) : rowA n f = rowA n g := by
  unfold rowA; rw [rowL_congr h]
theorem rowL_one {n : Nat} {f : Sec} : ∀ v ∈ rowL n f, v.oneCell' = true := by
  intro v hv; simp [rowL] at hv; obtain ⟨j, _, rfl⟩ := hv; rfl
structure Fr (F : List Nat) (w w' : World) : Prop where
  os : w'.os = w.os
  tape : w'.tape = w.tape
  output : w'.output = w.output
  size : w.heap.size ≤ w'.heap.size
  block : ∀ k, k < w.heap.size → k ∉ F → w'.heap[k]? = w.heap[k]?
theorem Fr.refl (F : List Nat) (w : World) : Fr F w w := ⟨rfl, rfl, rfl, Nat.le_refl _, fun _ _ _ => rfl⟩
theorem Fr.trans {F : List Nat} {a b c : World} (h : Fr F a b) (k : Fr F b c) : Fr F a c :=
  ⟨k.os.trans h.os, k.tape.trans h.tape, k.output.trans h.output, Nat.le_trans h.size k.size, fun i hi hn => (k.block i (Nat.lt_of_lt_of_le hi h.size) hn).trans (h.block i hi hn)⟩
theorem Fr.mono {F G : List Nat} {a b : World} (h : Fr F a b) (hs : ∀ k ∈ F, k ∈ G ∨ a.heap.size ≤ k) : Fr G a b :=
  ⟨h.os, h.tape, h.output, h.size, fun i hi hn => h.block i hi (fun hm => by rcases hs i hm with h1 | h1; exact hn h1; omega)⟩
theorem Fr.drew (F : List Nat) (w : World) : Fr F w w.drew := ⟨rfl, rfl, rfl, Nat.le_refl _, fun _ _ _ => rfl⟩
theorem Fr.drewN (F : List Nat) (w : World) (n : Nat) : Fr F w (w.drewN n) := ⟨rfl, rfl, rfl, Nat.le_refl _, fun _ _ _ => rfl⟩
theorem Fr.alloc (F : List Nat) (w : World) (o : Obj) : Fr F w (w.alloc o) :=
  ⟨rfl, rfl, rfl, by simp, fun k hk _ => Below.heap_alloc _ _ _ hk⟩
theorem Fr.setRow {F : List Nat} (w : World) {g : Nat} (hg : g ∈ F) (cs : Array Value) : Fr F w (w.setRow g cs) :=
  ⟨rfl, rfl, rfl, by simp, fun k _ hn => setRow_other w g k cs (fun e => hn (e ▸ hg))⟩
theorem Fr.setCell {F : List Nat} (w : World) {a : Addr} (hg : a.block ∈ F) (v : Value) : Fr F w (w.setCell a v) :=
  ⟨rfl, rfl, rfl, by simp, fun k _ hn => Below.heap_setCell _ _ _ _ (fun e => hn (e ▸ hg))⟩
theorem Fr.putObj {F : List Nat} (w : World) {g : Nat} (hg : g ∈ F) (o : Obj) : Fr F w (w.putObj g o) :=
  ⟨rfl, rfl, rfl, by simp [World.putObj], fun k _ hn => by simp only [World.putObj]; rw [Array.getElem?_setIfInBounds]; split; exact absurd (by simp_all) hn; rfl⟩
theorem Fr.below {w w' : World} (h : Fr [] w w') : Below w.heap.size w w' := ⟨h.os, h.tape, h.output, h.size, fun k hk => h.block k hk (by simp)⟩
theorem Fr.belowB {B : Nat} {F : List Nat} {w w' : World} (h : Fr F w w') (hB : B ≤ w.heap.size) (hF : ∀ k ∈ F, B ≤ k) : Below B w w' :=
  ⟨h.os, h.tape, h.output, h.size, fun k hk => h.block k (by omega) (fun hm => by have := hF k hm; omega)⟩
theorem Below.fr {w w' : World} {B : Nat} (h : Below B w w') (hB : w.heap.size ≤ B) (F : List Nat) : Fr F w w' := ⟨h.os, h.tape, h.output, h.size, fun k hk _ => h.block k (by omega)⟩
theorem grownBy.fr {w w' : World} {row : Option Nat} (h : w.grownBy w' row) (F : List Nat) (hr : ∀ k, row = some k → k ∈ F ∨ w.heap.size ≤ k) : Fr F w w' :=
  ⟨h.os, h.tape, h.output, h.size, fun k hk hn => h.block k hk (fun e => by rcases hr k e.symm with h1 | h1; exact hn h1; omega)⟩
theorem putObj_same {w : World} {g : Nat} (h : g < w.heap.size) (o : Obj) : (w.putObj g o).heap[g]? = some o := by
  simp [World.putObj, h]
theorem putObj_other {w : World} {g k : Nat} (h : k ≠ g) (o : Obj) : (w.putObj g o).heap[k]? = w.heap[k]? := by
  simp only [World.putObj]; rw [Array.getElem?_setIfInBounds_ne (Ne.symm h)]
theorem putObj_size (w : World) (g : Nat) (o : Obj) : (w.putObj g o).heap.size = w.heap.size := by simp [World.putObj]

abbrev Ent := Nat × Sec × Nat
def encE (e : Ent) : MapEntry := ⟨.int .i64 (e.1 : Int), .agg (rowA 64 e.2.1), e.2.2⟩
def findE : List Ent → Nat → Option Sec
  | [], _ => none
  | e :: l, i => if e.1 = i then some e.2.1 else findE l i
def cntM (M : Nat → Option Sec) : Nat → Nat
  | 0 => 0
  | n + 1 => cntM M n + if (M n).isSome then 1 else 0
def MapRep (w : World) (mb n : Nat) (M : Nat → Option Sec) : Prop :=
  ∃ (l : List Ent) (clock : Nat), w.heap[mb]? = some (.map (l.map encE).toArray clock) ∧ (∀ i, findE l i = M i) ∧ l.length = cntM M n ∧ ∀ i, n ≤ i → M i = none

section
variable {P : Program} {w : World} {mt kt et mb n : Nat} {M : Nat → Option Sec}

theorem MapRep.lt (hm : MapRep w mb n M) : mb < w.heap.size := by
  obtain ⟨l, clock, hb, r⟩ := hm; exact (Array.getElem?_eq_some_iff.1 hb).1
end
end Go.Proofs.YtgfijlamhjjecaaGreatDoor


namespace Go.Proofs.YtgfijlamhjjecaaGreatDoor
open Go.RowKit
section
variable {P : Program} {ops : Array Oper} {rest : List Oper} {o : Oper} {a : Act} {w : World} {Q : Exit → Act → World → Prop}

theorem wpList_val {v : Value} {w' : World} (hgd : o.guard = none) (hrun : (execOp a.eval o).run P w = .ok (.value v) w') (h : wpList P ops Q rest (a.put o.dst v) w') : wpList P ops Q (o :: rest) a w :=
  wpList_plain hgd fun _ hK => by unfold Oper.wp; rw [hrun]; exact hK _ _ h
theorem wpList_at (op : Op) (_ : o.op = op) (h : wpList P ops Q (o :: rest) a w) : wpList P ops Q (o :: rest) a w := h
def splF (f : Sec) (off m : Nat) (g : Sec) : Sec := fun j => if off ≤ j ∧ j < off + m then g (j - off) else f j
theorem copy_row {f g : Sec} {n off m : Nat} (h : off + m ≤ n) : ((rowA n f).toList.take off ++ rowL m g ++ (rowA n f).toList.drop (off + m)).toArray = rowA n (splF f off m g) := by
  apply Array.ext_getElem?
  intro j
  have hl : (rowA n f).toList = rowL n f := by simp [rowA]
  rw [hl, List.getElem?_toArray]
  by_cases h1 : j < off
  · rw [List.append_assoc, List.getElem?_append_left (by simp [rowL_length]; omega), List.getElem?_take_of_lt h1, rowL_get f (by omega), rowA_get _ (by omega)]
    simp only [splF]; rw [if_neg (by omega)]
  · by_cases h2 : j < off + m
    · rw [List.getElem?_append_left (by simp [rowL_length]; omega), List.getElem?_append_right (by simp [rowL_length]; omega)]
      rw [show (List.take off (rowL n f)).length = off by simp [rowL_length]; omega, rowL_get g (by omega), rowA_get _ (by omega)]
      simp only [splF]; rw [if_pos (by omega)]
    · rw [List.getElem?_append_right (by simp [rowL_length]; omega), List.getElem?_drop]
      rw [show off + m + (j - (List.take off (rowL n f) ++ rowL m g).length) = j by simp [rowL_length]; omega]
      by_cases h3 : j < n
      · rw [rowL_get f h3, rowA_get _ h3]; simp only [splF]; rw [if_neg (by omega)]
      · rw [List.getElem?_eq_none (by rw [rowL_length]; omega), Array.getElem?_eq_none (by rw [rowA_size]; omega)]
theorem run_copy_bytes (w : World) (dT sT elem : TypeId) (g off dLen dCap : Nat) (ad : Addr) (sLen sCap n m : Nat) (f h : Sec) (t : TypeId)
    (hu : P.underlying dT = some (.slice elem)) (hs : (P.info? elem).map (·.size) = some 1) (hg : w.heap[g]? = some (.cells (rowA n f) t (0, 0))) (hm : m = Nat.min sLen dLen)
    (hsrc : ∀ j v, (rowL m h)[j]? = some v → w.cell? (ad.add j) = some v) (hfit : off + m ≤ n) (ty : TypeId) :
    (Builtin.copy_ #[dT, sT] ty #[.slice (some ⟨g, off, none⟩) dLen dCap, .slice (some ad) sLen sCap]).run P w = .ok (.int .i64 (m : Int)) (w.setRow g (rowA n (splF f off m h))) := by
  have := run_copy_row (P := P) w dT sT ty elem g off dLen dCap ad sLen sCap (rowA n f) t (rowL m h) hu hs hg (by rw [rowL_length]; exact hm) hsrc (by rw [rowL_length, rowA_size]; exact hfit) rowL_one
  rw [rowL_length, copy_row hfit] at this
  exact this
theorem exec_copy {x y : Operand} {dT sT : TypeId} (ho : o.op = .call { callee := .builtin .copy, args := #[x, y], argTypes := #[dT, sT] }) {xv yv v : Value} (hx : a.eval x = xv) (hy : a.eval y = yv) {w' : World} (hr : ∀ ty, (Builtin.copy_ #[dT, sT] ty #[xv, yv]).run P w = .ok v w') :
    (execOp a.eval o).run P w = .ok (.value v) w' := by
  simp [execOp, ho, resolve, invoke, builtin, hx, hy, hr, Result.andThen]
theorem wpList_skipv {w' : World} (hgd : o.guard = none) (hrun : (execOp a.eval o).run P w = .ok .skip w') (h : wpList P ops Q rest (a.put o.dst undef) w') : wpList P ops Q (o :: rest) a w :=
  wpList_plain hgd fun _ hK => by unfold Oper.wp; rw [hrun]; exact hK _ _ h
def BytesAt (w : World) (v : Value) (m : Nat) (f : Sec) : Prop :=
  ∃ ao cap, v = .slice ao m cap ∧ m ≤ cap ∧ cap ≤ maxLen ∧ (ao = none → m = 0 ∧ cap = 0) ∧ (0 < m → ∃ b off, ao = some ⟨b, off, none⟩ ∧ w.rangeAt b off (rowL m f))
theorem rangeAt_congr {w w' : World} {b off : Nat} {cs : List Value} (h : w.rangeAt b off cs) (e : w'.heap[b]? = w.heap[b]?) : w'.rangeAt b off cs := fun j v hv => (World.cell?_of_block (a := ⟨b, off + j, none⟩) e).trans (h j v hv)
theorem rangeAt_lt {w : World} {b off m : Nat} {f : Sec} (h : w.rangeAt b off (rowL m f)) (hm : 0 < m) : b < w.heap.size := by
  have := h 0 _ (rowL_get f hm)
  exact World.block_lt_of_cell? w _ this
theorem BytesAt.fr {w w' : World} {v : Value} {m : Nat} {f : Sec} {F : List Nat} (h : BytesAt w v m f) (hf : Fr F w w') (hF : ∀ k, v.ownBlock = some k → k ∉ F) : BytesAt w' v m f := by
  obtain ⟨ao, cap, rfl, h1, h2, h3, h4⟩ := h
  refine ⟨ao, cap, rfl, h1, h2, h3, fun hm => ?_⟩
  obtain ⟨b, off, rfl, hr⟩ := h4 hm
  exact ⟨b, off, rfl, rangeAt_congr hr (hf.block b (rangeAt_lt hr hm) (hF b rfl))⟩
end
end Go.Proofs.YtgfijlamhjjecaaGreatDoor


namespace Go.Proofs.YtgfijlamhjjecaaGreatDoor
open Go.RowKit
theorem Fr.then_new {F G : List Nat} {a b c : World} (h : Fr F a b) (k : Fr G b c) (hG : ∀ g ∈ G, g ∈ F ∨ a.heap.size ≤ g) : Fr F a c :=
  ⟨k.os.trans h.os, k.tape.trans h.tape, k.output.trans h.output, Nat.le_trans h.size k.size, fun i hi hn => (k.block i (Nat.lt_of_lt_of_le hi h.size) (fun hm => by rcases hG i hm with h1 | h1; exact hn h1; omega)).trans (h.block i hi hn)⟩
theorem Fr.then_below {F : List Nat} {a b c : World} {B : Nat} (h : Fr F a b) (k : Below B b c) (hB : a.heap.size ≤ B) : Fr F a c :=
  ⟨k.os.trans h.os, k.tape.trans h.tape, k.output.trans h.output, Nat.le_trans h.size k.size, fun i hi hn => (k.block i (by omega)).trans (h.block i hi hn)⟩
theorem results_cells2 {fn : Func} {p q : Tmp} {ty uy : TypeId} (h : fn.results = #[.cell p ty, .cell q uy]) (tmps : Array Value) {P : Program} {w : World} {b off c off2 : Nat} {v u : Value} (hp : tmps.getD p undef = .pointer (some ⟨b, off, none⟩)) (hv : (loadVar ty ⟨b, off, none⟩).run P w = .ok v w)
    (hq : tmps.getD q undef = .pointer (some ⟨c, off2, none⟩)) (hu : (loadVar uy ⟨c, off2, none⟩).run P w = .ok u w) :
    (results fn tmps).run P w = .ok (.tuple #[v, u]) w := by
  rw [Array.getD_eq_getD_getElem?] at hp hq
  simp [results, h, hp, hq, asAddr, Sem.run_bind, hv, hu]
section
variable {P : Program} {ops : Array Oper} {Q : Exit → Act → World → Prop} {md : Region.Mode} {S : World → Prop}

def planB (md : Region.Mode) (ops : Array Oper) : List (Nat × Bool) → Array Bool → Bool
  | [], listed => (Region.ready md ops listed).isEmpty
  | (i, false) :: r, listed => (Region.ready md ops listed).contains i && Region.free md ops listed i && planB md ops r (listed.setIfInBounds i true)
  | (i, true) :: r, listed => decide (Region.ready md ops listed = [i]) && planB md ops r (listed.setIfInBounds i true)
def planOK (md : Region.Mode) (ops : Array Oper) (plan : List (Nat × Bool)) : Bool :=
  Region.noSelect ops && decide (plan.length = ops.size) && planB md ops plan (Array.replicate ops.size false)

def wpPlan (P : Program) (ops : Array Oper) (S : World → Prop) (Q : Exit → Act → World → Prop) : List (Nat × Bool) → Act → World → Prop
  | [], a, w => Q .normal a w
  | (i, false) :: r, a, w => ∃ o v, ops[i]? = some o ∧ YieldsIf P ops S o v a ∧ wpPlan P ops S Q r (a.put o.dst v) w
  | (i, true) :: r, a, w => wpOp P ops Q i (fun a' w' => S w' ∧ wpPlan P ops S Q r a' w') a w

theorem wpPlan_held (hs : Region.noSelect ops = true) (hQ : ∀ c a d v w, Q (.panic c) (a.put d v) w → Q (.panic c) a w) :
    ∀ (plan : List (Nat × Bool)) (listed : Array Bool) (a : Act) (w : World), planB md ops plan listed = true → S w → wpPlan P ops S Q plan a w → wpAnyH P md ops Q S plan.length listed a w
  | [], _, _, _, hB, _, h => ⟨by simpa [planB] using hB, h⟩
  | (i, false) :: r, listed, a, w, hB, hS, h => by
    simp only [planB, Bool.and_eq_true] at hB
    obtain ⟨o, v, hi, hy, h⟩ := h
    exact wpAnyH_take hi hs hB.1.2 hB.1.1 (fun c a w => hQ c a _ _ w) hy hS (wpPlan_held hs hQ r _ _ _ hB.2 hS h)
  | (i, true) :: r, listed, a, w, hB, hS, h => by
    simp only [planB, Bool.and_eq_true, decide_eq_true_eq] at hB
    refine wpAnyH_all hB.1 (by simp) (fun j hj => ?_)
    have e : j = i := by simpa using hj
    subst e
    exact wpOp_mono (fun a' w' h' => ⟨h'.1, wpPlan_held hs hQ r _ _ _ hB.2 h'.1 h'.2⟩) h

theorem wp_region_plan {id : Nat} {a : Act} {w : World} {l : List Oper} (plan : List (Nat × Bool)) (S : World → Prop) (hm : P.follows .mixedOrders = true) (hB : planOK .any l.toArray plan = true) (hS : S w.drew)
    (h : wpPlan P l.toArray S (NoPanic Q) plan a w.drew) : (Code.region id l.toArray true).wp P Q a w := by
  simp only [planOK, Bool.and_eq_true, decide_eq_true_eq] at hB
  refine wp_region_noPanic (wp_region_held (S := S) hm ?_)
  have := wpPlan_held (md := .any) hB.1.1 (Q := NoPanic Q) (fun c a d v w h => h) plan _ a w.drew hB.2 hS h
  rw [hB.1.2] at this
  exact this

def nthO : List Oper → Nat → Option Oper
  | [], _ => none
  | o :: _, 0 => some o
  | _ :: l, i + 1 => nthO l i
theorem nthO_eq : ∀ (l : List Oper) (i : Nat), nthO l i = l[i]?
  | [], _ => rfl
  | _ :: _, 0 => rfl
  | _ :: l, i + 1 => by rw [nthO, nthO_eq l i]; rfl
theorem plan_val {l : List Oper} {i : Nat} {o : Oper} {v : Value} {r : List (Nat × Bool)} {a : Act} {w : World} (hi : nthO l i = some o) (hw : Region.wanted o (yielded l.toArray a.tmps) = true)
    (hrun : ∀ w', S w' → (execOp a.eval o).run P w' = .ok (.value v) w') (h : wpPlan P l.toArray S Q r (a.put o.dst v) w) : wpPlan P l.toArray S Q ((i, false) :: r) a w :=
  ⟨o, v, by rw [List.getElem?_toArray, ← nthO_eq]; exact hi, .inl ⟨hw, hrun⟩, h⟩
theorem plan_skip {l : List Oper} {i : Nat} {o : Oper} {r : List (Nat × Bool)} {a : Act} {w : World} (hi : nthO l i = some o) (hw : Region.wanted o (yielded l.toArray a.tmps) = false)
    (h : wpPlan P l.toArray S Q r (a.put o.dst undef) w) : wpPlan P l.toArray S Q ((i, false) :: r) a w :=
  ⟨o, undef, by rw [List.getElem?_toArray, ← nthO_eq]; exact hi, .inr ⟨hw, rfl⟩, h⟩
theorem plan_nil {a : Act} {w : World} (h : Q .normal a w) : wpPlan P ops S (NoPanic Q) [] a w := h

theorem Oper.wp_post {o : Oper} {a : Act} {w : World} {K : Act → World → Prop} {Q Q' : Exit → Act → World → Prop} (h1 : ∀ c a w, Q (.panic c) a w → Q' (.panic c) a w) (h2 : LetsOut Q → LetsOut Q') (h : o.wp P a w K Q) : o.wp P a w K Q' := by
  unfold Oper.wp at *
  generalize (execOp a.eval o).run P w = r at *
  cases r with
  | ok n w' =>
    cases n <;> simp only [Oper.upon] at h ⊢ <;>
      first
        | exact h
        | exact Calls.mono h (fun e w'' he => by cases e <;> first | exact he | exact h1 _ _ _ he | exact h2 he)
  | halt x w' => cases x <;> simp only [Oper.upon] at h ⊢ <;> first | exact h | exact h1 _ _ _ h
theorem plan_do {l : List Oper} {i : Nat} {o : Oper} {r : List (Nat × Bool)} {a : Act} {w : World} (hi' : nthO l i = some o)
    (h : ∀ K : Act → World → Prop, (∀ a' w', S w' → wpPlan P l.toArray S Q r a' w' → K a' w') → wpList P l.toArray (Exit.then K Q) [o] a w) : wpPlan P l.toArray S Q ((i, true) :: r) a w := by
  have hi : l.toArray[i]? = some o := by rw [List.getElem?_toArray, ← nthO_eq]; exact hi'
  have h0 := h _ (fun a' w' h1 h2 => (⟨h1, h2⟩ : S w' ∧ wpPlan P l.toArray S Q r a' w'))
  show wpOp P l.toArray Q i _ a w
  unfold wpOp
  rw [hi]
  simp only [wpList] at h0 ⊢
  split
  · rename_i hw
    rw [if_pos hw] at h0
    rcases h0 with h0 | ⟨h0, a1, w1, h1⟩
    · exact .inl (Oper.wp_post (fun _ _ _ h => h) (fun ⟨a, w, h⟩ => ⟨a, w, h⟩) h0)
    · exact .inr ⟨h0, a1, w1, h1⟩
  · rename_i hw
    rw [if_neg hw] at h0
    exact h0
end
end Go.Proofs.YtgfijlamhjjecaaGreatDoor


namespace Go.Proofs.YtgfijlamhjjecaaGreatDoor
abbrev Str := List UInt8
structure Seg where
  tag : Str
  elems : List (List Str)
def tagB (c : UInt8) : Bool := (decide (65 ≤ c.toNat) && decide (c.toNat ≤ 90)) || (decide (48 ≤ c.toNat) && decide (c.toNat ≤ 57))
def signB (c : UInt8) : Bool := c == 43 || c == 58 || c == 39 || c == 63
inductive EC where
  | btw (l : List Seg)
  | tag (l : List Seg) (t : Str)
  | bhd (l : List Seg) (t : Str)
  | cmp (l : List Seg) (t : Str) (es : List (List Str)) (cs : List Str) (p : Str)
  | rel (l : List Seg) (t : Str) (es : List (List Str)) (cs : List Str) (p : Str)
inductive ER where
  | err (k : Int)
  | ok (c : EC)
def tagS (l : List Seg) (t : Str) (c : UInt8) : ER :=
  if tagB c = false then .err 30 else if t.length + 1 < 3 then .ok (.tag l (t ++ [c])) else .ok (.bhd l (t ++ [c]))
def putS (l : List Seg) (t : Str) (es : List (List Str)) (cs : List Str) (p : Str) (c : UInt8) : ER :=
  if p.length = 256 then .err 2 else .ok (.cmp l t es cs (p ++ [c]))
def signS (l : List Seg) (t : Str) (es : List (List Str)) (cs : List Str) (p : Str) (c : UInt8) : ER :=
  if c = 39 then .ok (.btw (l ++ [⟨t, es ++ [cs ++ [p]]⟩]))
  else if c = 43 then if es.length + 1 = 16 then .err 2 else .ok (.cmp l t (es ++ [cs ++ [p]]) [] [])
  else if cs.length + 1 = 8 then .err 2 else .ok (.cmp l t es (cs ++ [p]) [])
def stepE : EC → UInt8 → ER
  | .btw l, c => if c = 10 ∧ l ≠ [] then .ok (.btw l) else if l.length = 64 then .err 2 else tagS l [] c
  | .tag l t, c => tagS l t c
  | .bhd l t, c => if c = 39 then .ok (.btw (l ++ [⟨t, []⟩])) else if c = 43 then .ok (.cmp l t [] [] []) else .err 30
  | .cmp l t es cs p, c => if c = 63 then .ok (.rel l t es cs p) else if signB c = true then signS l t es cs p c else if c.toNat < 32 ∨ 126 < c.toNat then .err 30 else putS l t es cs p c
  | .rel l t es cs p, c => if signB c = true then putS l t es cs p c else .err 30
inductive EO where
  | err (at_ : Nat) (k : Int)
  | ok (c : EC)
def runE : EC → Nat → Str → EO
  | s, _, [] => .ok s
  | s, i, c :: r => match stepE s c with
    | .err k => .err i k
    | .ok s' => runE s' (i + 1) r
def parseE (t : Str) : List Seg × Nat × Int :=
  if 65536 < t.length then ([], 0, 2) else match runE (.btw []) 0 t with
    | .err i k => ([], i, k)
    | .ok (.btw l) => (l, 0, 0)
    | .ok _ => ([], t.length, 31)
def escB (c : UInt8) : Str := if signB c then [63, c] else [c]
def compT (p : Str) : Str := p.flatMap escB
def joinB (s : UInt8) : List Str → Str
  | [] => []
  | [a] => a
  | a :: b :: l => a ++ s :: joinB s (b :: l)
def elemT (e : List Str) : Str := joinB 58 (e.map compT)
def segT (s : Seg) : Str := s.tag ++ s.elems.flatMap (fun e => 43 :: elemT e) ++ [39]
def printT (l : List Seg) : Str := l.flatMap segT
def tagBad (t : Str) : Bool := t.length != 3 || !t.all tagB
def argP (l : List Seg) : Bool := l.any fun s => tagBad s.tag || s.elems.any fun e => e.isEmpty
def badB (c : UInt8) : Bool := decide (c.toNat < 32) || decide (126 < c.toNat)
def signP (l : List Seg) : Bool := l.any fun s => s.elems.any fun e => e.any fun p => p.any badB
def longP (l : List Seg) : Bool := decide (64 < l.length) || l.any fun s => decide (16 < s.elems.length) || s.elems.any fun e => decide (8 < e.length) || e.any fun p => decide (256 < p.length)
def printE (l : List Seg) : Str × Int :=
  if argP l then ([], 1) else if signP l then ([], 30) else if longP l || decide (65536 < (printT l).length) then ([], 2) else (printT l, 0)
end Go.Proofs.YtgfijlamhjjecaaGreatDoor


namespace Go.Proofs.YtgfijlamhjjecaaGreatDoor
open Go.RowKit
theorem einfo_u8 : (Tryz.prog.info? 5).map (fun i => (i.zero, i.size, i.bytes)) = some (some (.int .u8 0), 1, 1) := by kernel_rfl
theorem einfo_str : (Tryz.prog.info? 9).map (fun i => (i.zero, i.size, i.bytes)) = some (some (.string ⟨#[]⟩), 1, 16) := by kernel_rfl
theorem einfo_strs : (Tryz.prog.info? 58).map (fun i => (i.zero, i.size, i.bytes)) = some (some (.slice none 0 0), 1, 24) := by kernel_rfl
theorem einfo_seg : (Tryz.prog.info? 94).map (fun i => (i.zero, i.size, i.bytes)) = some (some (.agg #[.string ⟨#[]⟩, .slice none 0 0]), 2, 40) := by kernel_rfl
def sv (s : Str) : Value := .string ⟨s.toArray⟩
theorem cell_lt' {w : World} {b o : Nat} {v : Value} (h : w.cell? ⟨b, o, none⟩ = some v) : b < w.heap.size := World.block_lt_of_cell? w _ h
def RowAt (S : Nat → Prop) (w : World) (v : Value) (xs : List Value) : Prop :=
  ∃ ao cap, v = .slice ao xs.length cap ∧ xs.length ≤ cap ∧ cap ≤ maxLen ∧ (ao = none → cap = 0) ∧ (xs ≠ [] → ∃ b off, ao = some ⟨b, off, none⟩ ∧ S b ∧ ∀ (i : Nat) (x : Value), xs[i]? = some x → w.cell? ⟨b, off + i, none⟩ = some x)
def CompsAt (S : Nat → Prop) (w : World) (v : Value) (cs : List Str) : Prop := RowAt S w v (cs.map sv)
def ElemsAt (S : Nat → Prop) (w : World) (v : Value) (es : List (List Str)) : Prop :=
  ∃ xs : List Value, RowAt S w v xs ∧ xs.length = es.length ∧ ∀ (i : Nat) (e : List Str) (x : Value), es[i]? = some e → xs[i]? = some x → CompsAt S w x e
def SegsAt (S : Nat → Prop) (w : World) (v : Value) (l : List Seg) : Prop :=
  ∃ (ao : Option Addr) (cap : Nat) (xs : List Value), v = .slice ao l.length cap ∧ l.length ≤ cap ∧ cap ≤ maxLen ∧ (ao = none → cap = 0) ∧ xs.length = l.length ∧ (∀ (i : Nat) (s : Seg) (x : Value), l[i]? = some s → xs[i]? = some x → ElemsAt S w x s.elems) ∧
    (l ≠ [] → ∃ b off, ao = some ⟨b, off, none⟩ ∧ S b ∧ ∀ (i : Nat) (s : Seg) (x : Value), l[i]? = some s → xs[i]? = some x → w.cell? ⟨b, off + i * 2, none⟩ = some (sv s.tag) ∧ w.cell? ⟨b, off + i * 2 + 1, none⟩ = some x)
section
variable {S T : Nat → Prop} {w w' : World} {v : Value}
theorem RowAt.cong {xs : List Value} (h : RowAt S w v xs) (hT : ∀ k, S k → T k) (e : ∀ k, S k → w'.heap[k]? = w.heap[k]?) : RowAt T w' v xs := by
  obtain ⟨ao, cap, rfl, h1, h2, h3, h4⟩ := h
  refine ⟨ao, cap, rfl, h1, h2, h3, fun hx => ?_⟩
  obtain ⟨b, off, rfl, hS, hc⟩ := h4 hx
  exact ⟨b, off, rfl, hT b hS, fun i x hi => (World.cell?_of_block (a := ⟨b, off + i, none⟩) (e b hS)).trans (hc i x hi)⟩
theorem CompsAt.cong {cs : List Str} (h : CompsAt S w v cs) (hT : ∀ k, S k → T k) (e : ∀ k, S k → w'.heap[k]? = w.heap[k]?) : CompsAt T w' v cs := RowAt.cong h hT e
theorem ElemsAt.cong {es : List (List Str)} (h : ElemsAt S w v es) (hT : ∀ k, S k → T k) (e : ∀ k, S k → w'.heap[k]? = w.heap[k]?) : ElemsAt T w' v es := by
  obtain ⟨xs, h1, h2, h3⟩ := h
  exact ⟨xs, h1.cong hT e, h2, fun i a x ha hx => (h3 i a x ha hx).cong hT e⟩
theorem SegsAt.cong {l : List Seg} (h : SegsAt S w v l) (hT : ∀ k, S k → T k) (e : ∀ k, S k → w'.heap[k]? = w.heap[k]?) : SegsAt T w' v l := by
  obtain ⟨ao, cap, xs, rfl, h1, h2, h3, h4, h5, h6⟩ := h
  refine ⟨ao, cap, xs, rfl, h1, h2, h3, h4, fun i s x hs hx => (h5 i s x hs hx).cong hT e, fun h0 => ?_⟩
  obtain ⟨b, off, rfl, hS, hc⟩ := h6 h0
  refine ⟨b, off, rfl, hT b hS, fun i s x hs hx => ?_⟩
  obtain ⟨a1, a2⟩ := hc i s x hs hx
  exact ⟨(World.cell?_of_block (a := ⟨b, off + i * 2, none⟩) (e b hS)).trans a1, (World.cell?_of_block (a := ⟨b, off + i * 2 + 1, none⟩) (e b hS)).trans a2⟩
theorem RowAt.nil (S : Nat → Prop) (w : World) : RowAt S w (.slice none 0 0) [] := ⟨none, 0, rfl, Nat.le_refl _, Nat.zero_le _, fun _ => rfl, fun h => absurd rfl h⟩
theorem ElemsAt.nil (S : Nat → Prop) (w : World) : ElemsAt S w (.slice none 0 0) [] := ⟨[], RowAt.nil S w, rfl, fun i e x h => by simp at h⟩
theorem SegsAt.nil (S : Nat → Prop) (w : World) : SegsAt S w (.slice none 0 0) [] := ⟨none, 0, [], rfl, Nat.le_refl _, Nat.zero_le _, fun _ => rfl, rfl, (fun i s x h => by simp at h), fun h => absurd rfl h⟩
end
theorem own_cong {w w' : World} {B : Nat} {e : TypeId} {s n : Nat} {v : Value} {xs : List Value} (h : w.ownsRow B e s v n xs) (he : ∀ k, v.ownBlock = some k → w'.heap[k]? = w.heap[k]?) : w'.ownsRow B e s v n xs := by
  obtain ⟨h1, h2 | ⟨g, cap, cur, rfl, hg, hh, hr⟩⟩ := h
  · exact ⟨h1, .inl h2⟩
  · exact ⟨h1, .inr ⟨g, cap, cur, rfl, hg, (he g rfl).trans hh, hr⟩⟩
theorem own_ty {w : World} {B : Nat} {e : TypeId} {s n k : Nat} {v : Value} {xs : List Value} (h : w.ownsRow B e s v n xs) (hk : v.ownBlock = some k) : ∃ C, w.heap[k]? = some (.cells C e (0, 0)) ∧ B ≤ k ∧ k < w.heap.size := by
  obtain ⟨_, ⟨rfl, _⟩ | ⟨g, cap, cur, rfl, hg, hh, _⟩⟩ := h
  · simp [Value.ownBlock] at hk
  · cases hk; exact ⟨cur, hh, hg, (Array.getElem?_eq_some_iff.1 hh).1⟩
theorem own_form {w : World} {B : Nat} {e : TypeId} {s n : Nat} {v : Value} {xs : List Value} (h : w.ownsRow B e s v n xs) (hn : 0 < n) (_hs : 0 < s) : ∃ g cap cur, v = .slice (some ⟨g, 0, none⟩) n cap ∧ B ≤ g ∧ w.heap[g]? = some (.cells cur e (0, 0)) ∧ n ≤ cap ∧ cap ≤ maxLen ∧ cur.size = cap * s ∧ ∀ j, j < n * s → cur[j]? = xs[j]? := by
  obtain ⟨h1, ⟨rfl, h0⟩ | ⟨g, cap, cur, rfl, hg, hh, hc, hm, hs', hx⟩⟩ := h
  · omega
  · refine ⟨g, cap, cur, rfl, hg, hh, hc, hm, hs', fun j hj => ?_⟩
    rw [← hx, List.getElem?_take_of_lt hj]; simp
theorem own_cell {w : World} {B : Nat} {e : TypeId} {s n g cap : Nat} {xs : List Value} (h : w.ownsRow B e s (.slice (some ⟨g, 0, none⟩) n cap) n xs) {j : Nat} {x : Value} (hj : xs[j]? = some x) : w.cell? ⟨g, j, none⟩ = some x := by
  obtain ⟨h1, ⟨h2, _⟩ | ⟨g', cap', cur, h2, hg, hh, hc, hm, hs', hx⟩⟩ := h
  · cases h2
  · cases h2
    have hlt : j < n * s := by rw [← h1]; exact (List.getElem?_eq_some_iff.1 hj).1
    rw [cell_of_row w g j _ _ _ hh]
    rw [← hx, List.getElem?_take_of_lt hlt] at hj
    simpa using hj
theorem own_frozen {w : World} {B : Nat} {e : TypeId} {s n g cap : Nat} {xs : List Value} (h : w.ownsRow B e s (.slice (some ⟨g, 0, none⟩) n cap) n xs) (j : Nat) : w.frozen? ⟨g, j, none⟩ = false := by
  obtain ⟨h1, ⟨h2, _⟩ | ⟨g', cap', cur, h2, hg, hh, hr⟩⟩ := h
  · cases h2
  · cases h2; exact frozen_of_row w g j _ _ hh
theorem own_set {w : World} {B : Nat} {e : TypeId} {s n g cap : Nat} {xs : List Value} (h : w.ownsRow B e s (.slice (some ⟨g, 0, none⟩) n cap) n xs) {j : Nat} (_hj : j < xs.length) (x : Value) : (w.setCell ⟨g, j, none⟩ x).ownsRow B e s (.slice (some ⟨g, 0, none⟩) n cap) n (xs.set j x) := by
  obtain ⟨h1, ⟨h2, _⟩ | ⟨g', cap', cur, h2, hg, hh, hc, hm, hs', hx⟩⟩ := h
  · cases h2
  · cases h2
    refine ⟨by rw [List.length_set]; exact h1, .inr ⟨g, cap, cur.setIfInBounds j x, rfl, hg, heap_setCell_same w g j _ _ _ hh, hc, hm, by simpa using hs', ?_⟩⟩
    rw [Array.toList_setIfInBounds, ← hx, List.take_set]
theorem own_rest {w : World} {B : Nat} {e : TypeId} {v : Value} {xs : List Value} (h : w.ownsRow B e 1 v xs.length xs) {S : Nat → Prop} (hS : ∀ k, v.ownBlock = some k → S k) : RowAt S w v xs := by
  have h' := h
  obtain ⟨_, ⟨rfl, h0⟩ | ⟨g, cap, cur, rfl, hg, hh, hc, hm, hs', hx⟩⟩ := h
  · exact ⟨none, 0, by rw [h0], by omega, Nat.zero_le _, fun _ => rfl, fun hne => absurd (List.length_eq_zero_iff.1 h0) hne⟩
  · exact ⟨some ⟨g, 0, none⟩, cap, rfl, hc, hm, (fun e => by cases e), fun _ => ⟨g, 0, rfl, hS g rfl, fun i x hi => by rw [Nat.zero_add]; exact own_cell h' hi⟩⟩
def OwnS (w : World) (B : Nat) (v : Value) (l : Str) : Prop := w.ownsRow B 5 1 v l.length (l.map bv)
def segCells : List Seg → List Value → List Value
  | s :: l, x :: xs => sv s.tag :: x :: segCells l xs
  | _, _ => []
theorem segCells_len : ∀ (l : List Seg) (xs : List Value), xs.length = l.length → (segCells l xs).length = l.length * 2
  | [], xs, h => by cases xs <;> simp [segCells]
  | s :: l, [], h => by simp at h
  | s :: l, x :: xs, h => by simp only [segCells, List.length_cons]; rw [segCells_len l xs (by simpa using h)]; omega
theorem segCells_app : ∀ (l m : List Seg) (xs ys : List Value), xs.length = l.length → segCells (l ++ m) (xs ++ ys) = segCells l xs ++ segCells m ys
  | [], m, xs, ys, h => by cases xs <;> simp [segCells] at h ⊢
  | s :: l, m, [], ys, h => by simp at h
  | s :: l, m, x :: xs, ys, h => by simp only [List.cons_append, segCells]; rw [segCells_app l m xs ys (by simpa using h)]
theorem segCells_get : ∀ (l : List Seg) (xs : List Value) (i : Nat) (s : Seg) (x : Value), l[i]? = some s → xs[i]? = some x → (segCells l xs)[i * 2]? = some (sv s.tag) ∧ (segCells l xs)[i * 2 + 1]? = some x
  | [], xs, i, s, x, h, _ => by simp at h
  | _ :: _, [], i, s, x, _, h => by simp at h
  | a :: l, y :: xs, 0, s, x, h1, h2 => by simp at h1 h2; subst h1; subst h2; exact ⟨rfl, rfl⟩
  | a :: l, y :: xs, i + 1, s, x, h1, h2 => by
    have h := segCells_get l xs i s x (by simpa using h1) (by simpa using h2)
    rw [show (i + 1) * 2 = i * 2 + 1 + 1 by omega]
    exact h
theorem segs_rest {w : World} {B : Nat} {v : Value} {l : List Seg} {xs : List Value} {S : Nat → Prop} (h : w.ownsRow B 94 2 v l.length (segCells l xs)) (hx : xs.length = l.length) (hS : ∀ k, v.ownBlock = some k → S k) (he : ∀ (i : Nat) (s : Seg) (x : Value), l[i]? = some s → xs[i]? = some x → ElemsAt S w x s.elems) : SegsAt S w v l := by
  have h' := h
  obtain ⟨_, ⟨rfl, h0⟩ | ⟨g, cap, cur, rfl, hg, hh, hc, hm, hs', _⟩⟩ := h
  · exact ⟨none, 0, xs, by rw [h0], by omega, Nat.zero_le _, fun _ => rfl, hx, he, fun hne => absurd (List.length_eq_zero_iff.1 h0) hne⟩
  · refine ⟨some ⟨g, 0, none⟩, cap, xs, rfl, hc, hm, (fun e => by cases e), hx, he, fun _ => ⟨g, 0, rfl, hS g rfl, fun i s x hs hxi => ?_⟩⟩
    obtain ⟨a1, a2⟩ := segCells_get l xs i s x hs hxi
    rw [Nat.zero_add]
    exact ⟨own_cell h' a1, own_cell h' a2⟩
def CompsO (S : Nat → Prop) (B : Nat) (w : World) (v : Value) (cs : List Str) : Prop := w.ownsRow B 9 1 v cs.length (cs.map sv) ∧ ∀ k, v.ownBlock = some k → S k
def ElemsO (S : Nat → Prop) (B : Nat) (w : World) (v : Value) (es : List (List Str)) : Prop :=
  ∃ ys : List Value, w.ownsRow B 58 1 v es.length ys ∧ (∀ k, v.ownBlock = some k → S k) ∧ ys.length = es.length ∧ ∀ (i : Nat) (e : List Str) (y : Value), es[i]? = some e → ys[i]? = some y → CompsO S B w y e
def SegsO (S : Nat → Prop) (B : Nat) (w : World) (v : Value) (l : List Seg) : Prop :=
  ∃ xs : List Value, w.ownsRow B 94 2 v l.length (segCells l xs) ∧ (∀ k, v.ownBlock = some k → S k) ∧ xs.length = l.length ∧ ∀ (i : Nat) (s : Seg) (x : Value), l[i]? = some s → xs[i]? = some x → ElemsO S B w x s.elems
section
variable {S T : Nat → Prop} {w w' : World} {B : Nat} {v : Value}
theorem CompsO.cong {cs : List Str} (h : CompsO S B w v cs) (hT : ∀ k, S k → T k) (e : ∀ k, S k → w'.heap[k]? = w.heap[k]?) : CompsO T B w' v cs :=
  ⟨own_cong h.1 (fun k hk => e k (h.2 k hk)), fun k hk => hT k (h.2 k hk)⟩
theorem ElemsO.cong {es : List (List Str)} (h : ElemsO S B w v es) (hT : ∀ k, S k → T k) (e : ∀ k, S k → w'.heap[k]? = w.heap[k]?) : ElemsO T B w' v es := by
  obtain ⟨ys, h1, h2, h3, h4⟩ := h
  exact ⟨ys, own_cong h1 (fun k hk => e k (h2 k hk)), fun k hk => hT k (h2 k hk), h3, fun i a x ha hx => (h4 i a x ha hx).cong hT e⟩
theorem ElemsO.nil (S : Nat → Prop) (B : Nat) (w : World) : ElemsO S B w (.slice none 0 0) [] := ⟨[], World.ownsRow_nil _ _ _ _, (fun _ hk => by simp [Value.ownBlock] at hk), rfl, fun i e x h => by simp at h⟩
theorem SegsO.nil (S : Nat → Prop) (B : Nat) (w : World) : SegsO S B w (.slice none 0 0) [] := ⟨[], World.ownsRow_nil _ _ _ _, (fun _ hk => by simp [Value.ownBlock] at hk), rfl, fun i e x h => by simp at h⟩
theorem CompsO.lies {cs : List Str} (h : CompsO S B w v cs) : CompsAt S w v cs := own_rest (by rw [List.length_map]; exact h.1) h.2
theorem ElemsO.lies {es : List (List Str)} (h : ElemsO S B w v es) : ElemsAt S w v es := by
  obtain ⟨ys, h1, h2, h3, h4⟩ := h
  exact ⟨ys, own_rest (by rw [h3]; exact h1) h2, h3, fun i e x ha hx => (h4 i e x ha hx).lies⟩
theorem SegsO.lies {l : List Seg} (h : SegsO S B w v l) : SegsAt S w v l := by
  obtain ⟨xs, h1, h2, h3, h4⟩ := h
  exact segs_rest h1 h3 h2 (fun i s x ha hx => (h4 i s x ha hx).lies)
end
end Go.Proofs.YtgfijlamhjjecaaGreatDoor


namespace Go.Proofs.YtgfijlamhjjecaaGreatDoor
open Go.RowKit
theorem ty_ne {w : World} {b c : Nat} {C D : Array Value} {t u : TypeId} {f g : Nat × Nat} (h1 : w.heap[b]? = some (.cells C t f)) (h2 : w.heap[c]? = some (.cells D u g)) (h : t ≠ u) : b ≠ c := by
  intro e; subst e; rw [h1] at h2; have h3 := Option.some.inj h2; injection h3 with _ h4; exact h h4
theorem own_ne {w : World} {B B' : Nat} {e e' : TypeId} {s s' n n' : Nat} {v v' : Value} {xs xs' : List Value} (h : w.ownsRow B e s v n xs) (h' : w.ownsRow B' e' s' v' n' xs') (he : e ≠ e') {k : Nat} (hk : v.ownBlock = some k) : v'.ownBlock ≠ some k := fun hk' => by
  obtain ⟨C, h1, _⟩ := own_ty h hk
  obtain ⟨D, h2, _⟩ := own_ty h' hk'
  exact ty_ne h1 h2 he rfl
theorem own_lt {w : World} {B : Nat} {e : TypeId} {s n : Nat} {v : Value} {xs : List Value} (h : w.ownsRow B e s v n xs) {k : Nat} (hk : v.ownBlock = some k) : B ≤ k ∧ k < w.heap.size := by
  obtain ⟨_, _, a, b⟩ := own_ty h hk; exact ⟨a, b⟩
structure RA (S : Nat → Prop) (w : World) (B rb : Nat) (l : List Seg) (lv pv : Value) (xs : List Value) (p : Str) : Prop where
  hB : B ≤ rb
  r : w.heap[rb]? = some (.cells #[lv, pv] 215 (0, 0))
  hp : OwnS w B pv p
  hl : w.ownsRow B 94 2 lv l.length (segCells l xs)
  xl : xs.length = l.length
  hes : ∀ (i : Nat) (s : Seg) (x : Value), l[i]? = some s → xs[i]? = some x → ElemsO S B w x s.elems
  s1 : ∀ k, S k → B ≤ k ∧ k < w.heap.size ∧ k ≠ rb ∧ lv.ownBlock ≠ some k ∧ pv.ownBlock ≠ some k
structure RB (S : Nat → Prop) (w : World) (B rb : Nat) (l : List Seg) (t : Str) (es : List (List Str)) (cs : List Str) (p q : Str) (lv pv ev cv : Value) (xs ys : List Value) : Prop where
  hB : B ≤ rb
  r : w.heap[rb]? = some (.cells #[lv, pv] 215 (0, 0))
  hp : OwnS w B pv q
  hl : w.ownsRow B 94 2 lv (l.length + 1) (segCells l xs ++ [sv t, ev])
  xl : xs.length = l.length
  old : ∀ (i : Nat) (s : Seg) (x : Value), l[i]? = some s → xs[i]? = some x → ElemsO S B w x s.elems
  he : w.ownsRow B 58 1 ev (es.length + 1) (ys ++ [cv])
  yl : ys.length = es.length
  ye : ∀ (i : Nat) (e : List Str) (y : Value), es[i]? = some e → ys[i]? = some y → CompsO S B w y e
  hc : w.ownsRow B 9 1 cv (cs.length + 1) ((cs ++ [p]).map sv)
  s1 : ∀ k, S k → B ≤ k ∧ k < w.heap.size ∧ k ≠ rb ∧ lv.ownBlock ≠ some k ∧ pv.ownBlock ≠ some k ∧ ev.ownBlock ≠ some k ∧ cv.ownBlock ≠ some k
section
variable {S : Nat → Prop} {w w' : World} {B rb : Nat} {l : List Seg} {t : Str} {es : List (List Str)} {cs : List Str} {p q : Str} {lv pv ev cv : Value} {xs ys : List Value}
theorem RA.lt (h : RA S w B rb l lv pv xs p) : rb < w.heap.size := (Array.getElem?_eq_some_iff.1 h.r).1
theorem RB.lt (h : RB S w B rb l t es cs p q lv pv ev cv xs ys) : rb < w.heap.size := (Array.getElem?_eq_some_iff.1 h.r).1
theorem RA.c0 (h : RA S w B rb l lv pv xs p) : w.cell? ⟨rb, 0, none⟩ = some lv := by rw [cell_of_row w rb 0 _ _ _ h.r]; rfl
theorem RA.c1 (h : RA S w B rb l lv pv xs p) : w.cell? ⟨rb, 1, none⟩ = some pv := by rw [cell_of_row w rb 1 _ _ _ h.r]; rfl
theorem RA.fz (h : RA S w B rb l lv pv xs p) (j : Nat) : w.frozen? ⟨rb, j, none⟩ = false := frozen_of_row w rb j _ _ h.r
theorem RB.c0 (h : RB S w B rb l t es cs p q lv pv ev cv xs ys) : w.cell? ⟨rb, 0, none⟩ = some lv := by rw [cell_of_row w rb 0 _ _ _ h.r]; rfl
theorem RB.c1 (h : RB S w B rb l t es cs p q lv pv ev cv xs ys) : w.cell? ⟨rb, 1, none⟩ = some pv := by rw [cell_of_row w rb 1 _ _ _ h.r]; rfl
theorem RB.fz (h : RB S w B rb l t es cs p q lv pv ev cv xs ys) (j : Nat) : w.frozen? ⟨rb, j, none⟩ = false := frozen_of_row w rb j _ _ h.r
theorem own_neR {rb : Nat} {C : Array Value} {f : Nat × Nat} {e : TypeId} {s n : Nat} {v : Value} {zs : List Value} (hr : w.heap[rb]? = some (.cells C 215 f)) (h : w.ownsRow B e s v n zs) (he : e ≠ 215) : v.ownBlock ≠ some rb := fun hk => by
  obtain ⟨D, h1, _⟩ := own_ty h hk
  exact ty_ne h1 hr he rfl
theorem RA.keep (h : RA S w B rb l lv pv xs p) (hs : w.heap.size ≤ w'.heap.size) (e : ∀ k, k < w.heap.size → B ≤ k → w'.heap[k]? = w.heap[k]?) : RA S w' B rb l lv pv xs p := by
  refine ⟨h.hB, (e rb h.lt h.hB).trans h.r, own_cong h.hp (fun k hk => e k (own_lt h.hp hk).2 (own_lt h.hp hk).1), own_cong h.hl (fun k hk => e k (own_lt h.hl hk).2 (own_lt h.hl hk).1), h.xl, fun i s x a b => (h.hes i s x a b).cong (fun _ hk => hk) (fun k hk => e k (h.s1 k hk).2.1 (h.s1 k hk).1), fun k hk => ?_⟩
  obtain ⟨a, b, c⟩ := h.s1 k hk
  exact ⟨a, by omega, c⟩
theorem RB.keep (h : RB S w B rb l t es cs p q lv pv ev cv xs ys) (hs : w.heap.size ≤ w'.heap.size) (e : ∀ k, k < w.heap.size → B ≤ k → w'.heap[k]? = w.heap[k]?) : RB S w' B rb l t es cs p q lv pv ev cv xs ys := by
  refine ⟨h.hB, (e rb h.lt h.hB).trans h.r, own_cong h.hp (fun k hk => e k (own_lt h.hp hk).2 (own_lt h.hp hk).1), own_cong h.hl (fun k hk => e k (own_lt h.hl hk).2 (own_lt h.hl hk).1), h.xl, fun i s x a b => (h.old i s x a b).cong (fun _ hk => hk) (fun k hk => e k (h.s1 k hk).2.1 (h.s1 k hk).1),
    own_cong h.he (fun k hk => e k (own_lt h.he hk).2 (own_lt h.he hk).1), h.yl, fun i s x a b => (h.ye i s x a b).cong (fun _ hk => hk) (fun k hk => e k (h.s1 k hk).2.1 (h.s1 k hk).1), own_cong h.hc (fun k hk => e k (own_lt h.hc hk).2 (own_lt h.hc hk).1), fun k hk => ?_⟩
  obtain ⟨a, b, c⟩ := h.s1 k hk
  exact ⟨a, by omega, c⟩
theorem RA.fr0 (h : RA S w B rb l lv pv xs p) (hf : Fr [] w w') : RA S w' B rb l lv pv xs p := h.keep hf.size (fun k hk _ => hf.block k hk (by simp))
theorem RB.fr0 (h : RB S w B rb l t es cs p q lv pv ev cv xs ys) (hf : Fr [] w w') : RB S w' B rb l t es cs p q lv pv ev cv xs ys := h.keep hf.size (fun k hk _ => hf.block k hk (by simp))
theorem RA.part (h : RA S w B rb l lv pv xs p) : RA S (w.setCell ⟨rb, 1, none⟩ (.slice none 0 0)) B rb l lv (.slice none 0 0) xs [] := by
  have e : ∀ k, k ≠ rb → (w.setCell ⟨rb, 1, none⟩ (.slice none 0 0)).heap[k]? = w.heap[k]? := fun k hk => heap_setCell_other w _ _ _ hk
  refine ⟨h.hB, by rw [heap_setCell_same w rb 1 _ _ _ h.r]; rfl, World.ownsRow_nil _ _ _ _, own_cong h.hl (fun k hk => e k (fun e => own_neR h.r h.hl (by decide) (e ▸ hk))), h.xl, fun i s x a b => (h.hes i s x a b).cong (fun _ hk => hk) (fun k hk => e k (h.s1 k hk).2.2.1), fun k hk => ?_⟩
  obtain ⟨a, b, c, d, _⟩ := h.s1 k hk
  exact ⟨a, by simpa using b, c, d, by simp [Value.ownBlock]⟩
theorem RB.part (h : RB S w B rb l t es cs p q lv pv ev cv xs ys) : RB S (w.setCell ⟨rb, 1, none⟩ (.slice none 0 0)) B rb l t es cs p [] lv (.slice none 0 0) ev cv xs ys := by
  have e : ∀ k, k ≠ rb → (w.setCell ⟨rb, 1, none⟩ (.slice none 0 0)).heap[k]? = w.heap[k]? := fun k hk => heap_setCell_other w _ _ _ hk
  refine ⟨h.hB, by rw [heap_setCell_same w rb 1 _ _ _ h.r]; rfl, World.ownsRow_nil _ _ _ _, own_cong h.hl (fun k hk => e k (fun e => own_neR h.r h.hl (by decide) (e ▸ hk))), h.xl, fun i s x a b => (h.old i s x a b).cong (fun _ hk => hk) (fun k hk => e k (h.s1 k hk).2.2.1),
    own_cong h.he (fun k hk => e k (fun e => own_neR h.r h.he (by decide) (e ▸ hk))), h.yl, fun i s x a b => (h.ye i s x a b).cong (fun _ hk => hk) (fun k hk => e k (h.s1 k hk).2.2.1), own_cong h.hc (fun k hk => e k (fun e => own_neR h.r h.hc (by decide) (e ▸ hk))), fun k hk => ?_⟩
  obtain ⟨a, b, c, d, _, f⟩ := h.s1 k hk
  exact ⟨a, by simpa using b, c, d, by simp [Value.ownBlock], f⟩
theorem RA.newseg {w1 : World} {o : Obj} {lv' : Value} (h : RA S w B rb l lv pv xs p) (hg : (w.alloc o).grownBy w1 lv.ownBlock) (hl : w1.ownsRow B 94 2 lv' (l.length + 1) (segCells l xs ++ [sv [], .slice none 0 0])) (hk : lv'.ownBlock = lv.ownBlock ∨ lv'.ownBlock = some (w.alloc o).heap.size) :
    RA S (w1.setCell ⟨rb, 0, none⟩ lv') B rb (l ++ [⟨[], []⟩]) lv' pv (xs ++ [.slice none 0 0]) p := by
  have hsz := hg.size
  have hrb := h.lt
  have e1 : ∀ k, k < w.heap.size → lv.ownBlock ≠ some k → w1.heap[k]? = w.heap[k]? := fun k hk hn => (hg.block k (by simp; omega) (fun e => hn e.symm)).trans (Below.heap_alloc _ _ _ hk)
  have e : ∀ k, k < w.heap.size → lv.ownBlock ≠ some k → k ≠ rb → (w1.setCell ⟨rb, 0, none⟩ lv').heap[k]? = w.heap[k]? := fun k hk hn hr => (heap_setCell_other w1 _ _ _ hr).trans (e1 k hk hn)
  have nlr := own_neR h.r h.hl (by decide)
  have npr := own_neR h.r h.hp (by decide)
  simp at hsz hk
  refine ⟨h.hB, by rw [heap_setCell_same w1 rb 0 _ _ _ ((e1 rb hrb nlr).trans h.r)]; rfl, own_cong h.hp (fun k hk => e k (own_lt h.hp hk).2 (own_ne h.hp h.hl (by decide) hk) (fun e => npr (e ▸ hk))), ?_, by simp [h.xl], fun i s x a b => ?_, fun k hS => ?_⟩
  · rw [List.length_append, List.length_singleton, segCells_app _ _ _ _ h.xl]
    refine own_cong hl (fun k hk' => heap_setCell_other w1 _ _ _ (fun e => ?_))
    subst e
    rcases hk with hk | hk
    · exact nlr (hk ▸ hk')
    · rw [hk] at hk'; have := Option.some.inj hk'; omega
  · rcases Nat.lt_or_ge i l.length with hi | hi
    · rw [List.getElem?_append_left hi] at a
      rw [List.getElem?_append_left (by rw [h.xl]; exact hi)] at b
      exact (h.hes i s x a b).cong (fun _ hk => hk) (fun k hk => e k (h.s1 k hk).2.1 (h.s1 k hk).2.2.2.1 (h.s1 k hk).2.2.1)
    · rw [List.getElem?_append_right hi] at a
      rw [List.getElem?_append_right (by rw [h.xl]; exact hi), h.xl] at b
      have h0 : i - l.length = 0 := by have := (List.getElem?_eq_some_iff.1 a).1; simp at this; omega
      rw [h0] at a b
      simp at a b
      subst a; subst b
      exact ElemsO.nil _ _ _
  · obtain ⟨a, b, c, d, f⟩ := h.s1 k hS
    refine ⟨a, by simp; omega, c, fun e => ?_, f⟩
    rcases hk with hk | hk
    · exact d (hk ▸ e)
    · rw [hk] at e; have := Option.some.inj e; omega
theorem RA.fr_newseg {w1 : World} {o : Obj} {lv' : Value} (h : RA S w B rb l lv pv xs p) (hg : (w.alloc o).grownBy w1 lv.ownBlock) (hB : B ≤ w.heap.size) : Below B w (w1.setCell ⟨rb, 0, none⟩ lv') := by
  have hh := h.hB
  exact ((((Below.refl B w).alloc hB o).grown hg (by simp; omega) (fun k hk => (own_lt h.hl hk).1))).setCell hh lv'
end
end Go.Proofs.YtgfijlamhjjecaaGreatDoor

