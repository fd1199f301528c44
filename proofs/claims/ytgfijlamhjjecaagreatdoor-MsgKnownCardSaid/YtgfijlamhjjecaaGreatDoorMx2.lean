/-
  Texts EdiShelf, EdiM, EdiR, EdiR2, EdiR3, one behind the other. No condition beyond those stated in each.
-/
import Derived.Shelf.Strings.Builder1
import Derived.Shelf.Strings.Builder2
import Derived.Shelf.Strings.OnBuilder
import Derived.Shelf.Small.Strs
import Derived.Shelf.Strings.BuilderF
import Derived.Shelf.Strings.BuilderK
import Derived.Shelf.Utf8.RuneCount
import Derived.Shelf.Strings.Builder2Cap
import Derived.Shelf.Strconv.Itoa0
import Derived.Shelf.Strconv.Itoa1
import Derived.Shelf.LaysM
import Derived.Shelf.Strconv.Itoa2
import Derived.Shelf.Strconv.Itoa3
import Derived.Shelf.Strconv.Itoa4
import Derived.Shelf.Strconv.ParseIntEmpty
import Derived.Shelf.Strconv.Clone
import Derived.Shelf.Strconv.SyntaxError
import Derived.Shelf.LaysC
import Derived.Shelf.Strconv.ToError
import Derived.Shelf.Strconv.Lower
import Derived.Shelf.Strconv.ParseUint10
import Derived.Shelf.Strconv.ParseUint10Empty
import Derived.Shelf.Strconv.ParseUint10Any
import Derived.Shelf.Strconv.ParseInt10
import Derived.Shelf.Strconv.RangeError
import Derived.Shelf.Strconv.ToErrorRange
import Derived.Shelf.Strconv.ParseUintEmpty
import Derived.Shelf.Strconv.ParseUint10b64
import Derived.Shelf.Strconv.ParseUint10b32
import Derived.Shelf.Strconv.ParseUint10b16
import Derived.Shelf.Strconv.ParseUint10b8
import Derived.Shelf.Strconv.ParseUint10At
import Derived.Shelf.Strconv.ParseInt10At64
import Derived.Shelf.Strconv.ParseInt10At32
import Derived.Shelf.Strconv.ParseInt10At16
import Derived.Shelf.Strconv.ParseInt10At8
import Derived.Shelf.Strconv.ParseInt10All
import Derived.Shelf.Strconv.ParseIntPublic10
import Derived.Ground.MpProg
import Derived.Shelf.Pu.ParseUintPublic10
import Derived.Shelf.Strings.Search1
import Derived.Shelf.Strings.Search2
import Derived.Shelf.Strings.Search3
import Derived.Shelf.Strings.Count
import Derived.Shelf.Strings.Shaped
import Derived.Shelf.Strings.Prefix
import Derived.Shelf.Strings.Split
import Derived.Shelf.Strings.RuneCount
import Derived.Ground.Names2Prog
import Derived.Shelf.Slices.Clone
import Derived.Ground.SlgnProg
import Derived.Shelf.SlicesE.Clone
import Derived.Test.YtgfijlamhjjecaaGreatDoorProg
import Derived.Test.YtgfijlamhjjecaaGreatDoorMx1
import Derived.Maps.AppendAt
import Derived.Laws.AppendOwnNone
import Derived.BigQuiet
import Derived.Deep.QuietTactic
namespace Go.Proofs
open Go.Shelf
def Tryz.lays170_ren : Go.Shelf.Ren := ⟨fun | 170 => 142 | n => n, fun | 70 => 201 | 3 => 3 | 0 => 0 | 72 => 203 | 37 => 72 | 5 => 5 | n => n, fun | n => n⟩
theorem Tryz.lays170 : Go.Proofs.Lays.n170 Tryz.prog Tryz.lays170_ren := {
  mixed := by kernel_rfl
  f170 := Tryz.func142.trans (congrArg some (by kernel_rfl))
  t0 := Tryz.underlying0
  a0 := Tryz.isAgg0
  z0 := Tryz.sizeOf0
  v0 := Tryz.zeroValue0
  t3 := Tryz.underlying3
  a3 := Tryz.isAgg3
  z3 := Tryz.sizeOf3
  v3 := Tryz.zeroValue3
  t37 := Tryz.underlying72
  a37 := Tryz.isAgg72
  z37 := Tryz.sizeOf72
  v37 := Tryz.zeroValue72
  t70 := Tryz.underlying201
  a70 := Tryz.isAgg201
  z70 := Tryz.sizeOf201
  v70 := Tryz.zeroValue201
  t72 := Tryz.underlying203
  a72 := Tryz.isAgg203
  z72 := Tryz.sizeOf203
  v72 := Tryz.zeroValue203 }
open Go.RowKit in
theorem Tryz.Builder_Len (B b : Nat) (bs : List Value) (w : World) (h : Lib.IsBuilder 203 5 B b bs w) :
    Calls Tryz.prog 142 #[.pointer (some ⟨b, 0, none⟩)] w fun e w' => e = .returned (.int .i64 bs.length) ∧ w' = w := Any.Builder_Len Tryz.lays170 B b bs w h
def Tryz.lays169_ren : Go.Shelf.Ren := ⟨fun | 169 => 143 | n => n, fun | 70 => 201 | 9 => 9 | 0 => 0 | 72 => 203 | 37 => 72 | 127 => 150 | 3 => 3 | 5 => 5 | n => n, fun | n => n⟩
theorem Tryz.lays169 : Go.Proofs.Lays.n169 Tryz.prog Tryz.lays169_ren := {
  mixed := by kernel_rfl
  f169 := Tryz.func143.trans (congrArg some (by kernel_rfl))
  t0 := Tryz.underlying0
  a0 := Tryz.isAgg0
  z0 := Tryz.sizeOf0
  v0 := Tryz.zeroValue0
  t3 := Tryz.underlying3
  a3 := Tryz.isAgg3
  z3 := Tryz.sizeOf3
  v3 := Tryz.zeroValue3
  t9 := Tryz.underlying9
  a9 := Tryz.isAgg9
  z9 := Tryz.sizeOf9
  v9 := Tryz.zeroValue9
  t37 := Tryz.underlying72
  a37 := Tryz.isAgg72
  z37 := Tryz.sizeOf72
  v37 := Tryz.zeroValue72
  t70 := Tryz.underlying201
  a70 := Tryz.isAgg201
  z70 := Tryz.sizeOf201
  v70 := Tryz.zeroValue201
  t72 := Tryz.underlying203
  a72 := Tryz.isAgg203
  z72 := Tryz.sizeOf203
  v72 := Tryz.zeroValue203
  t127 := Tryz.underlying150
  a127 := Tryz.isAgg150
  z127 := Tryz.sizeOf150
  v127 := Tryz.zeroValue150 }
theorem Tryz.Builder_Extra_169 : Builder.Extra Tryz.prog Tryz.lays169_ren := {
  sizeBuilder := by kernel_rfl
  liesBuilder := by kernel_rfl
  t5 := Tryz.underlying5
  a5 := Tryz.isAgg5
  z5 := Tryz.sizeOf5
  v5 := Tryz.zeroValue5
  infoByte := by kernel_rfl
  cellsByte := by kernel_rfl
  sizeByte := by kernel_rfl
  neB5 := by decide }
open Go.RowKit in
theorem Tryz.Builder_String_any (B b : Nat) (l : List UInt8) (w : World) (h : Lib.IsBuilder 203 5 B b (Lib.byteCells l) w) (hBw : B ≤ w.heap.size) :
    Calls Tryz.prog 143 #[.pointer (some ⟨b, 0, none⟩)] w fun e w' => e = .returned (.string ⟨l.toArray⟩) ∧ Below B w w' := Any.Builder_String_any Tryz.lays169 Tryz.Builder_Extra_169 B b l w h hBw
def Tryz.lays156_ren : Go.Shelf.Ren := ⟨fun | 156 => 166 | 165 => 184 | 166 => 141 | 169 => 143 | 240 => 167 | 241 => 196 | 276 => 185 | 277 => 204 | n => n, fun | 31 => 58 | 9 => 9 | 3 => 3 | 4 => 4 | 0 => 0 | 20 => 20 | 72 => 203 | 76 => 210 | 70 => 201 | 37 => 72 | 75 => 177 | 127 => 150 | 164 => 275 | 5 => 5 | 80 => 212 | n => n, fun | n => n⟩
theorem Tryz.lays156 : Go.Proofs.Lays.n156 Tryz.prog Tryz.lays156_ren := {
  mixed := by kernel_rfl
  f156 := Tryz.func166.trans (congrArg some (by kernel_rfl))
  f165 := Tryz.func184.trans (congrArg some (by kernel_rfl))
  f166 := Tryz.func141.trans (congrArg some (by kernel_rfl))
  f169 := Tryz.func143.trans (congrArg some (by kernel_rfl))
  f240 := Tryz.func167.trans (congrArg some (by kernel_rfl))
  f241 := Tryz.func196.trans (congrArg some (by kernel_rfl))
  f276 := Tryz.func185.trans (congrArg some (by kernel_rfl))
  f277 := Tryz.func204.trans (congrArg some (by kernel_rfl))
  t0 := Tryz.underlying0
  a0 := Tryz.isAgg0
  z0 := Tryz.sizeOf0
  v0 := Tryz.zeroValue0
  t3 := Tryz.underlying3
  a3 := Tryz.isAgg3
  z3 := Tryz.sizeOf3
  v3 := Tryz.zeroValue3
  t4 := Tryz.underlying4
  a4 := Tryz.isAgg4
  z4 := Tryz.sizeOf4
  v4 := Tryz.zeroValue4
  t9 := Tryz.underlying9
  a9 := Tryz.isAgg9
  z9 := Tryz.sizeOf9
  v9 := Tryz.zeroValue9
  t20 := Tryz.underlying20
  a20 := Tryz.isAgg20
  z20 := Tryz.sizeOf20
  v20 := Tryz.zeroValue20
  t31 := Tryz.underlying58
  a31 := Tryz.isAgg58
  z31 := Tryz.sizeOf58
  v31 := Tryz.zeroValue58
  t37 := Tryz.underlying72
  a37 := Tryz.isAgg72
  z37 := Tryz.sizeOf72
  v37 := Tryz.zeroValue72
  t70 := Tryz.underlying201
  a70 := Tryz.isAgg201
  z70 := Tryz.sizeOf201
  v70 := Tryz.zeroValue201
  t72 := Tryz.underlying203
  a72 := Tryz.isAgg203
  z72 := Tryz.sizeOf203
  v72 := Tryz.zeroValue203
  t75 := Tryz.underlying177
  a75 := Tryz.isAgg177
  z75 := Tryz.sizeOf177
  v75 := Tryz.zeroValue177
  t76 := Tryz.underlying210
  a76 := Tryz.isAgg210
  z76 := Tryz.sizeOf210
  v76 := Tryz.zeroValue210
  t127 := Tryz.underlying150
  a127 := Tryz.isAgg150
  z127 := Tryz.sizeOf150
  v127 := Tryz.zeroValue150
  t164 := Tryz.underlying275
  a164 := Tryz.isAgg275
  z164 := Tryz.sizeOf275
  v164 := Tryz.zeroValue275 }
theorem Tryz.Builder_Extra_156 : Builder.Extra Tryz.prog Tryz.lays156_ren := {
  sizeBuilder := by kernel_rfl
  liesBuilder := by kernel_rfl
  t5 := Tryz.underlying5
  a5 := Tryz.isAgg5
  z5 := Tryz.sizeOf5
  v5 := Tryz.zeroValue5
  infoByte := by kernel_rfl
  cellsByte := by kernel_rfl
  sizeByte := by kernel_rfl
  neB5 := by decide }
open Go.RowKit in
theorem Tryz.strings_Join_none (a : Option Addr) (c : Nat) (sep : ByteArray) (w : World) :
    Calls Tryz.prog 166 #[.slice a 0 c, .string sep] w fun e w' => e = .returned (.string ⟨#[]⟩) ∧ w' = w := Any.strings_Join_none Tryz.lays156 Tryz.Builder_Extra_156 a c sep w
open Go.RowKit in
theorem Tryz.strings_Join (bk o c : Nat) (xs : List ByteArray) (sep : ByteArray) (w : World) (hcells : ∀ (j : Nat) x, xs[j]? = some x → w.cell? ⟨bk, o + j, none⟩ = some (.string x)) (hbk : bk < w.heap.size) (hN : xs.length ≤ 140737488355328) (hcap : xs.length ≤ c) (hlen : (Lib.join (xs.map (·.data.toList)) sep.data.toList).length ≤ 140737488355328) :
    Calls Tryz.prog 166 #[.slice (some ⟨bk, o, none⟩) xs.length c, .string sep] w fun e w' => e = .returned (.string ⟨(Lib.join (xs.map (·.data.toList)) sep.data.toList).toArray⟩) ∧ Below w.heap.size w w' := Any.strings_Join Tryz.lays156 Tryz.Builder_Extra_156 bk o c xs sep w hcells hbk hN hcap hlen
def Tryz.lays137_ren : Go.Shelf.Ren := ⟨fun | 137 => 217 | 217 => 226 | 266 => 227 | n => n, fun | 9 => 9 | 5 => 5 | 3 => 3 | n => n, fun | n => n⟩
theorem Tryz.lays137 : Go.Proofs.Lays.n137 Tryz.prog Tryz.lays137_ren := {
  mixed := by kernel_rfl
  f137 := Tryz.func217.trans (congrArg some (by kernel_rfl))
  f217 := Tryz.func226.trans (congrArg some (by kernel_rfl))
  f266 := Tryz.func227.trans (congrArg some (by kernel_rfl))
  t3 := Tryz.underlying3
  a3 := Tryz.isAgg3
  z3 := Tryz.sizeOf3
  v3 := Tryz.zeroValue3
  t5 := Tryz.underlying5
  a5 := Tryz.isAgg5
  z5 := Tryz.sizeOf5
  v5 := Tryz.zeroValue5
  t9 := Tryz.underlying9
  a9 := Tryz.isAgg9
  z9 := Tryz.sizeOf9
  v9 := Tryz.zeroValue9 }
open Go.RowKit in
theorem Tryz.strings_IndexByte (s : ByteArray) (c : Int) (w : World) :
    Calls Tryz.prog 217 #[.string s, .int .u8 c] w fun e w' => e = .returned (.int .i64 (Lib.indexByte s.data.toList c.toNat.toUInt8)) ∧ w' = w := Any.strings_IndexByte Tryz.lays137 s c w
def Tryz.lays283_ren : Go.Shelf.Ren := ⟨fun | 283 => 153 | n => n, fun | 3 => 3 | 9 => 9 | 4 => 4 | n => n, fun | n => n⟩
theorem Tryz.lays283 : Go.Proofs.Lays.n283 Tryz.prog Tryz.lays283_ren := {
  mixed := by kernel_rfl
  f283 := Tryz.func153.trans (congrArg some (by kernel_rfl))
  t3 := Tryz.underlying3
  a3 := Tryz.isAgg3
  z3 := Tryz.sizeOf3
  v3 := Tryz.zeroValue3
  t4 := Tryz.underlying4
  a4 := Tryz.isAgg4
  z4 := Tryz.sizeOf4
  v4 := Tryz.zeroValue4
  t9 := Tryz.underlying9
  a9 := Tryz.isAgg9
  z9 := Tryz.sizeOf9
  v9 := Tryz.zeroValue9 }
open Go.Lib in
theorem Tryz.internal_strconv_small (i : Nat) (h : i < 100) (w : World) :
    Calls Tryz.prog 153 #[.int .i64 i] w fun e w' => e = .returned (.string ⟨(Lib.decDigits i).toArray⟩) ∧ w' = w := Any.internal_strconv_small Tryz.lays283 i h w
def Tryz.laysM284_ren : Go.Shelf.Ren := ⟨fun | 284 => 154 | 129 => 173 | 317 => 172 | 318 => 174 | n => n, fun | 53 => 22 | 3 => 3 | 212 => 264 | 0 => 0 | 4 => 4 | 46 => 226 | 5 => 5 | 9 => 9 | n => n, fun | 17 => 1 | n => n⟩
theorem Tryz.laysM284 : Go.Proofs.LaysM.n284 Tryz.prog Tryz.laysM284_ren := {
  mixed := by kernel_rfl
  f129 := Tryz.func173.trans (congrArg some (by kernel_rfl))
  f284 := Tryz.func154.trans (congrArg some (by kernel_rfl))
  f317 := Tryz.func172.trans (congrArg some (by kernel_rfl))
  f318 := Tryz.func174.trans (congrArg some (by kernel_rfl))
  t0 := Tryz.underlying0
  a0 := Tryz.isAgg0
  z0 := Tryz.sizeOf0
  v0 := Tryz.zeroValue0
  t3 := Tryz.underlying3
  a3 := Tryz.isAgg3
  z3 := Tryz.sizeOf3
  v3 := Tryz.zeroValue3
  t4 := Tryz.underlying4
  a4 := Tryz.isAgg4
  z4 := Tryz.sizeOf4
  v4 := Tryz.zeroValue4
  t5 := Tryz.underlying5
  a5 := Tryz.isAgg5
  z5 := Tryz.sizeOf5
  v5 := Tryz.zeroValue5
  t9 := Tryz.underlying9
  a9 := Tryz.isAgg9
  z9 := Tryz.sizeOf9
  v9 := Tryz.zeroValue9
  t46 := Tryz.underlying226
  a46 := Tryz.isAgg226
  z46 := Tryz.sizeOf226
  v46 := Tryz.zeroValue226
  t53 := Tryz.underlying22
  a53 := Tryz.isAgg22
  z53 := Tryz.sizeOf22
  v53 := Tryz.zeroValue22
  t212 := Tryz.underlying264
  a212 := Tryz.isAgg264
  z212 := Tryz.sizeOf264
  v212 := Tryz.zeroValue264
  g17 := by kernel_rfl
  i0 := by kernel_rfl
  i3 := by kernel_rfl
  i4 := by kernel_rfl
  i5 := by kernel_rfl
  i9 := by kernel_rfl
  i46 := by kernel_rfl
  i53 := by kernel_rfl
  i212 := by kernel_rfl
  m17 := by kernel_rfl }
open Go.Lib in
theorem Tryz.internal_strconv_numDigits (u : Nat) (h1 : 1 ≤ u) (h2 : u < 18446744073709551616) (w : World) (htab : Lib.TabIs Tryz.prog w "internal/strconv.uint64pow10" .u64 Lib.pow10Tab) :
    Calls Tryz.prog 154 #[.int .u64 u] w fun e w' => e = .returned (.int .i64 (Lib.nDigits u)) ∧ w' = w := Any.internal_strconv_numDigits Tryz.laysM284 u h1 h2 w htab
def Tryz.lays285_ren : Go.Shelf.Ren := ⟨fun | 285 => 155 | n => n, fun | 37 => 72 | 53 => 22 | 3 => 3 | 4 => 4 | 51 => 28 | 9 => 9 | 5 => 5 | 0 => 0 | n => n, fun | n => n⟩
theorem Tryz.lays285 : Go.Proofs.Lays.n285 Tryz.prog Tryz.lays285_ren := {
  mixed := by kernel_rfl
  f285 := Tryz.func155.trans (congrArg some (by kernel_rfl))
  t0 := Tryz.underlying0
  a0 := Tryz.isAgg0
  z0 := Tryz.sizeOf0
  v0 := Tryz.zeroValue0
  t3 := Tryz.underlying3
  a3 := Tryz.isAgg3
  z3 := Tryz.sizeOf3
  v3 := Tryz.zeroValue3
  t4 := Tryz.underlying4
  a4 := Tryz.isAgg4
  z4 := Tryz.sizeOf4
  v4 := Tryz.zeroValue4
  t5 := Tryz.underlying5
  a5 := Tryz.isAgg5
  z5 := Tryz.sizeOf5
  v5 := Tryz.zeroValue5
  t9 := Tryz.underlying9
  a9 := Tryz.isAgg9
  z9 := Tryz.sizeOf9
  v9 := Tryz.zeroValue9
  t37 := Tryz.underlying72
  a37 := Tryz.isAgg72
  z37 := Tryz.sizeOf72
  v37 := Tryz.zeroValue72
  t51 := Tryz.underlying28
  a51 := Tryz.isAgg28
  z51 := Tryz.sizeOf28
  v51 := Tryz.zeroValue28
  t53 := Tryz.underlying22
  a53 := Tryz.isAgg22
  z53 := Tryz.sizeOf22
  v53 := Tryz.zeroValue22 }
open Go.RowKit Go.Sort Go.Lib in
theorem Tryz.internal_strconv_formatBase10 (blk off cap : Nat) (u : Nat) (d : Array UInt8) (w : World) (hH : Holds (fun (b : UInt8) => Value.int .u8 (b.toNat : Int)) w blk off d) (hu : u < 10 ^ d.size) (hu64 : u < 18446744073709551616) (hsz : d.size < 4611686018427387904) :
    Calls Tryz.prog 155 #[.slice (some ⟨blk, off, none⟩) d.size cap, .int .u64 u] w fun e w' =>
      e = .returned (.tuple #[]) ∧ ∃ (n v' : Nat) (dk : Array UInt8), w' = (putRow (fun (b : UInt8) => Value.int .u8 (b.toNat : Int)) w blk off dk).drewN n ∧ FmtInv d.size u 0 v' dk := Any.internal_strconv_formatBase10 Tryz.lays285 blk off cap u d w hH hu hu64 hsz
def Tryz.laysM171_ren : Go.Shelf.Ren := ⟨fun | 171 => 45 | 243 => 88 | 246 => 130 | 283 => 153 | 284 => 154 | 285 => 155 | 286 => 156 | 129 => 173 | 317 => 172 | 318 => 174 | 319 => 175 | 320 => 176 | 337 => 188 | 338 => 189 | n => n, fun | 3 => 3 | 9 => 9 | 2 => 2 | 4 => 4 | 171 => 231 | 0 => 0 | 53 => 22 | 37 => 72 | 5 => 5 | 173 => 234 | 212 => 264 | 51 => 28 | 20 => 20 | 213 => 265 | 46 => 226 | 232 => 77 | 233 => 297 | n => n, fun | 17 => 1 | 18 => 4 | 19 => 5 | n => n⟩
theorem Tryz.laysM171 : Go.Proofs.LaysM.n171 Tryz.prog Tryz.laysM171_ren := {
  mixed := by kernel_rfl
  f129 := Tryz.func173.trans (congrArg some (by kernel_rfl))
  f171 := Tryz.func45.trans (congrArg some (by kernel_rfl))
  f243 := Tryz.func88.trans (congrArg some (by kernel_rfl))
  f246 := Tryz.func130.trans (congrArg some (by kernel_rfl))
  f283 := Tryz.func153.trans (congrArg some (by kernel_rfl))
  f284 := Tryz.func154.trans (congrArg some (by kernel_rfl))
  f285 := Tryz.func155.trans (congrArg some (by kernel_rfl))
  f286 := Tryz.func156.trans (congrArg some (by kernel_rfl))
  f317 := Tryz.func172.trans (congrArg some (by kernel_rfl))
  f318 := Tryz.func174.trans (congrArg some (by kernel_rfl))
  f319 := Tryz.func175.trans (congrArg some (by kernel_rfl))
  f320 := Tryz.func176.trans (congrArg some (by kernel_rfl))
  f337 := Tryz.func188.trans (congrArg some (by kernel_rfl))
  f338 := Tryz.func189.trans (congrArg some (by kernel_rfl))
  t0 := Tryz.underlying0
  a0 := Tryz.isAgg0
  z0 := Tryz.sizeOf0
  v0 := Tryz.zeroValue0
  t2 := Tryz.underlying2
  a2 := Tryz.isAgg2
  z2 := Tryz.sizeOf2
  v2 := Tryz.zeroValue2
  t3 := Tryz.underlying3
  a3 := Tryz.isAgg3
  z3 := Tryz.sizeOf3
  v3 := Tryz.zeroValue3
  t4 := Tryz.underlying4
  a4 := Tryz.isAgg4
  z4 := Tryz.sizeOf4
  v4 := Tryz.zeroValue4
  t5 := Tryz.underlying5
  a5 := Tryz.isAgg5
  z5 := Tryz.sizeOf5
  v5 := Tryz.zeroValue5
  t9 := Tryz.underlying9
  a9 := Tryz.isAgg9
  z9 := Tryz.sizeOf9
  v9 := Tryz.zeroValue9
  t20 := Tryz.underlying20
  a20 := Tryz.isAgg20
  z20 := Tryz.sizeOf20
  v20 := Tryz.zeroValue20
  t37 := Tryz.underlying72
  a37 := Tryz.isAgg72
  z37 := Tryz.sizeOf72
  v37 := Tryz.zeroValue72
  t46 := Tryz.underlying226
  a46 := Tryz.isAgg226
  z46 := Tryz.sizeOf226
  v46 := Tryz.zeroValue226
  t51 := Tryz.underlying28
  a51 := Tryz.isAgg28
  z51 := Tryz.sizeOf28
  v51 := Tryz.zeroValue28
  t53 := Tryz.underlying22
  a53 := Tryz.isAgg22
  z53 := Tryz.sizeOf22
  v53 := Tryz.zeroValue22
  t171 := Tryz.underlying231
  a171 := Tryz.isAgg231
  z171 := Tryz.sizeOf231
  v171 := Tryz.zeroValue231
  t173 := Tryz.underlying234
  a173 := Tryz.isAgg234
  z173 := Tryz.sizeOf234
  v173 := Tryz.zeroValue234
  t212 := Tryz.underlying264
  a212 := Tryz.isAgg264
  z212 := Tryz.sizeOf264
  v212 := Tryz.zeroValue264
  t213 := Tryz.underlying265
  a213 := Tryz.isAgg265
  z213 := Tryz.sizeOf265
  t232 := Tryz.underlying77
  a232 := Tryz.isAgg77
  z232 := Tryz.sizeOf77
  v232 := Tryz.zeroValue77
  t233 := Tryz.underlying297
  a233 := Tryz.isAgg297
  z233 := Tryz.sizeOf297
  v233 := Tryz.zeroValue297
  g17 := by kernel_rfl
  g18 := by kernel_rfl
  g19 := by kernel_rfl
  i0 := by kernel_rfl
  i2 := by kernel_rfl
  i3 := by kernel_rfl
  i4 := by kernel_rfl
  i5 := by kernel_rfl
  i9 := by kernel_rfl
  i20 := by kernel_rfl
  i37 := by kernel_rfl
  i46 := by kernel_rfl
  i51 := by kernel_rfl
  i53 := by kernel_rfl
  i171 := by kernel_rfl
  i173 := by kernel_rfl
  i212 := by kernel_rfl
  i232 := by kernel_rfl
  i233 := by kernel_rfl
  m17 := by kernel_rfl
  m18 := by kernel_rfl
  m19 := by kernel_rfl }
open Go.RowKit Go.Sort Go.Lib in
theorem Tryz.strconv_Itoa (n : Int) (h0 : -9223372036854775808 ≤ n) (h1 : n ≤ 9223372036854775807) (w : World) (htab : Lib.TabIs Tryz.prog w "internal/strconv.uint64pow10" .u64 Lib.pow10Tab) :
    Calls Tryz.prog 45 #[.int .i64 n] w fun e w' => e = .returned (.string ⟨(Lib.itoa n).toArray⟩) ∧ ∃ k os, w' = grow (w.drewN k) os := Any.strconv_Itoa Tryz.laysM171 n h0 h1 w htab
def Tryz.laysM173_ren : Go.Shelf.Ren := ⟨fun | 173 => 116 | 246 => 130 | 283 => 153 | 284 => 154 | 285 => 155 | 286 => 156 | 129 => 173 | 317 => 172 | 318 => 174 | 319 => 175 | 320 => 176 | 337 => 188 | 338 => 189 | n => n, fun | 2 => 2 | 3 => 3 | 9 => 9 | 4 => 4 | 171 => 231 | 0 => 0 | 53 => 22 | 37 => 72 | 5 => 5 | 173 => 234 | 212 => 264 | 51 => 28 | 20 => 20 | 213 => 265 | 46 => 226 | 232 => 77 | 233 => 297 | n => n, fun | 17 => 1 | 18 => 4 | 19 => 5 | n => n⟩
theorem Tryz.laysM173 : Go.Proofs.LaysM.n173 Tryz.prog Tryz.laysM173_ren := {
  mixed := by kernel_rfl
  f129 := Tryz.func173.trans (congrArg some (by kernel_rfl))
  f173 := Tryz.func116.trans (congrArg some (by kernel_rfl))
  f246 := Tryz.func130.trans (congrArg some (by kernel_rfl))
  f283 := Tryz.func153.trans (congrArg some (by kernel_rfl))
  f284 := Tryz.func154.trans (congrArg some (by kernel_rfl))
  f285 := Tryz.func155.trans (congrArg some (by kernel_rfl))
  f286 := Tryz.func156.trans (congrArg some (by kernel_rfl))
  f317 := Tryz.func172.trans (congrArg some (by kernel_rfl))
  f318 := Tryz.func174.trans (congrArg some (by kernel_rfl))
  f319 := Tryz.func175.trans (congrArg some (by kernel_rfl))
  f320 := Tryz.func176.trans (congrArg some (by kernel_rfl))
  f337 := Tryz.func188.trans (congrArg some (by kernel_rfl))
  f338 := Tryz.func189.trans (congrArg some (by kernel_rfl))
  t0 := Tryz.underlying0
  a0 := Tryz.isAgg0
  z0 := Tryz.sizeOf0
  v0 := Tryz.zeroValue0
  t2 := Tryz.underlying2
  a2 := Tryz.isAgg2
  z2 := Tryz.sizeOf2
  v2 := Tryz.zeroValue2
  t3 := Tryz.underlying3
  a3 := Tryz.isAgg3
  z3 := Tryz.sizeOf3
  v3 := Tryz.zeroValue3
  t4 := Tryz.underlying4
  a4 := Tryz.isAgg4
  z4 := Tryz.sizeOf4
  v4 := Tryz.zeroValue4
  t5 := Tryz.underlying5
  a5 := Tryz.isAgg5
  z5 := Tryz.sizeOf5
  v5 := Tryz.zeroValue5
  t9 := Tryz.underlying9
  a9 := Tryz.isAgg9
  z9 := Tryz.sizeOf9
  v9 := Tryz.zeroValue9
  t20 := Tryz.underlying20
  a20 := Tryz.isAgg20
  z20 := Tryz.sizeOf20
  v20 := Tryz.zeroValue20
  t37 := Tryz.underlying72
  a37 := Tryz.isAgg72
  z37 := Tryz.sizeOf72
  v37 := Tryz.zeroValue72
  t46 := Tryz.underlying226
  a46 := Tryz.isAgg226
  z46 := Tryz.sizeOf226
  v46 := Tryz.zeroValue226
  t51 := Tryz.underlying28
  a51 := Tryz.isAgg28
  z51 := Tryz.sizeOf28
  v51 := Tryz.zeroValue28
  t53 := Tryz.underlying22
  a53 := Tryz.isAgg22
  z53 := Tryz.sizeOf22
  v53 := Tryz.zeroValue22
  t171 := Tryz.underlying231
  a171 := Tryz.isAgg231
  z171 := Tryz.sizeOf231
  v171 := Tryz.zeroValue231
  t173 := Tryz.underlying234
  a173 := Tryz.isAgg234
  z173 := Tryz.sizeOf234
  v173 := Tryz.zeroValue234
  t212 := Tryz.underlying264
  a212 := Tryz.isAgg264
  z212 := Tryz.sizeOf264
  v212 := Tryz.zeroValue264
  t213 := Tryz.underlying265
  a213 := Tryz.isAgg265
  z213 := Tryz.sizeOf265
  t232 := Tryz.underlying77
  a232 := Tryz.isAgg77
  z232 := Tryz.sizeOf77
  v232 := Tryz.zeroValue77
  t233 := Tryz.underlying297
  a233 := Tryz.isAgg297
  z233 := Tryz.sizeOf297
  v233 := Tryz.zeroValue297
  g17 := by kernel_rfl
  g18 := by kernel_rfl
  g19 := by kernel_rfl
  i0 := by kernel_rfl
  i2 := by kernel_rfl
  i3 := by kernel_rfl
  i4 := by kernel_rfl
  i5 := by kernel_rfl
  i9 := by kernel_rfl
  i20 := by kernel_rfl
  i37 := by kernel_rfl
  i46 := by kernel_rfl
  i51 := by kernel_rfl
  i53 := by kernel_rfl
  i171 := by kernel_rfl
  i173 := by kernel_rfl
  i212 := by kernel_rfl
  i232 := by kernel_rfl
  i233 := by kernel_rfl
  m17 := by kernel_rfl
  m18 := by kernel_rfl
  m19 := by kernel_rfl }
open Go.RowKit Go.Sort Go.Lib in
theorem Tryz.strconv_FormatInt_10 (n : Int) (h0 : -9223372036854775808 ≤ n) (h1 : n ≤ 9223372036854775807) (w : World) (htab : Lib.TabIs Tryz.prog w "internal/strconv.uint64pow10" .u64 Lib.pow10Tab) :
    Calls Tryz.prog 116 #[.int .i64 n, .int .i64 10] w fun e w' => e = .returned (.string ⟨(Lib.itoa n).toArray⟩) ∧ ∃ k os, w' = grow (w.drewN k) os := Any.strconv_FormatInt_10 Tryz.laysM173 n h0 h1 w htab
def Tryz.laysC174_ren : Go.Shelf.Ren := ⟨fun | 174 => 95 | 247 => 132 | 245 => 133 | 287 => 158 | 279 => 159 | 280 => 160 | 281 => 161 | 282 => 162 | 321 => 177 | 322 => 178 | 316 => 179 | 171 => 45 | 205 => 180 | 243 => 88 | 246 => 130 | 283 => 153 | 284 => 154 | 285 => 155 | 286 => 156 | 129 => 173 | 317 => 172 | 318 => 174 | 319 => 175 | 320 => 176 | 337 => 188 | 338 => 189 | n => n, fun | 9 => 9 | 3 => 3 | 2 => 2 | 75 => 177 | 85 => 178 | 4 => 4 | 167 => 237 | 5 => 5 | 53 => 22 | 175 => 220 | 46 => 226 | 168 => 238 | 37 => 72 | 0 => 0 | 210 => 271 | 21 => 21 | 127 => 150 | 145 => 282 | 143 => 280 | 171 => 231 | 173 => 234 | 212 => 264 | 51 => 28 | 20 => 20 | 213 => 265 | 232 => 77 | 233 => 297 | 80 => 212 | n => n, fun | 15 => 2 | 16 => 3 | 17 => 1 | 18 => 4 | 19 => 5 | n => n⟩
theorem Tryz.laysC174 : Go.Proofs.LaysC.n174 Tryz.prog Tryz.laysC174_ren := {
  mixed := by kernel_rfl
  f129 := Tryz.func173.trans (congrArg some (by kernel_rfl))
  f171 := Tryz.func45.trans (congrArg some (by kernel_rfl))
  f174 := Tryz.func95.trans (congrArg some (by kernel_rfl))
  f205 := Tryz.func180.trans (congrArg some (by kernel_rfl))
  f243 := Tryz.func88.trans (congrArg some (by kernel_rfl))
  f245 := Tryz.func133.trans (congrArg some (by kernel_rfl))
  f246 := Tryz.func130.trans (congrArg some (by kernel_rfl))
  f247 := Tryz.func132.trans (congrArg some (by kernel_rfl))
  f279 := Tryz.func159.trans (congrArg some (by kernel_rfl))
  f280 := Tryz.func160.trans (congrArg some (by kernel_rfl))
  f281 := Tryz.func161.trans (congrArg some (by kernel_rfl))
  f282 := Tryz.func162.trans (congrArg some (by kernel_rfl))
  f283 := Tryz.func153.trans (congrArg some (by kernel_rfl))
  f284 := Tryz.func154.trans (congrArg some (by kernel_rfl))
  f285 := Tryz.func155.trans (congrArg some (by kernel_rfl))
  f286 := Tryz.func156.trans (congrArg some (by kernel_rfl))
  f287 := Tryz.func158.trans (congrArg some (by kernel_rfl))
  f316 := Tryz.func179.trans (congrArg some (by kernel_rfl))
  f317 := Tryz.func172.trans (congrArg some (by kernel_rfl))
  f318 := Tryz.func174.trans (congrArg some (by kernel_rfl))
  f319 := Tryz.func175.trans (congrArg some (by kernel_rfl))
  f320 := Tryz.func176.trans (congrArg some (by kernel_rfl))
  f321 := Tryz.func177.trans (congrArg some (by kernel_rfl))
  f322 := Tryz.func178.trans (congrArg some (by kernel_rfl))
  f337 := Tryz.func188.trans (congrArg some (by kernel_rfl))
  f338 := Tryz.func189.trans (congrArg some (by kernel_rfl))
  t0 := Tryz.underlying0
  a0 := Tryz.isAgg0
  z0 := Tryz.sizeOf0
  v0 := Tryz.zeroValue0
  t2 := Tryz.underlying2
  a2 := Tryz.isAgg2
  z2 := Tryz.sizeOf2
  v2 := Tryz.zeroValue2
  t3 := Tryz.underlying3
  a3 := Tryz.isAgg3
  z3 := Tryz.sizeOf3
  v3 := Tryz.zeroValue3
  t4 := Tryz.underlying4
  a4 := Tryz.isAgg4
  z4 := Tryz.sizeOf4
  v4 := Tryz.zeroValue4
  t5 := Tryz.underlying5
  a5 := Tryz.isAgg5
  z5 := Tryz.sizeOf5
  v5 := Tryz.zeroValue5
  t9 := Tryz.underlying9
  a9 := Tryz.isAgg9
  z9 := Tryz.sizeOf9
  v9 := Tryz.zeroValue9
  t20 := Tryz.underlying20
  a20 := Tryz.isAgg20
  z20 := Tryz.sizeOf20
  v20 := Tryz.zeroValue20
  t21 := Tryz.underlying21
  a21 := Tryz.isAgg21
  z21 := Tryz.sizeOf21
  v21 := Tryz.zeroValue21
  t37 := Tryz.underlying72
  a37 := Tryz.isAgg72
  z37 := Tryz.sizeOf72
  v37 := Tryz.zeroValue72
  t46 := Tryz.underlying226
  a46 := Tryz.isAgg226
  z46 := Tryz.sizeOf226
  v46 := Tryz.zeroValue226
  t51 := Tryz.underlying28
  a51 := Tryz.isAgg28
  z51 := Tryz.sizeOf28
  v51 := Tryz.zeroValue28
  t53 := Tryz.underlying22
  a53 := Tryz.isAgg22
  z53 := Tryz.sizeOf22
  v53 := Tryz.zeroValue22
  t75 := Tryz.underlying177
  a75 := Tryz.isAgg177
  z75 := Tryz.sizeOf177
  v75 := Tryz.zeroValue177
  t85 := Tryz.underlying178
  a85 := Tryz.isAgg178
  z85 := Tryz.sizeOf178
  v85 := Tryz.zeroValue178
  t127 := Tryz.underlying150
  a127 := Tryz.isAgg150
  z127 := Tryz.sizeOf150
  v127 := Tryz.zeroValue150
  t143 := Tryz.underlying280
  a143 := Tryz.isAgg280
  z143 := Tryz.sizeOf280
  v143 := Tryz.zeroValue280
  t145 := Tryz.underlying282
  a145 := Tryz.isAgg282
  z145 := Tryz.sizeOf282
  v145 := Tryz.zeroValue282
  t167 := Tryz.underlying237
  a167 := Tryz.isAgg237
  z167 := Tryz.sizeOf237
  v167 := Tryz.zeroValue237
  t168 := Tryz.underlying238
  a168 := Tryz.isAgg238
  z168 := Tryz.sizeOf238
  v168 := Tryz.zeroValue238
  t171 := Tryz.underlying231
  a171 := Tryz.isAgg231
  z171 := Tryz.sizeOf231
  v171 := Tryz.zeroValue231
  t173 := Tryz.underlying234
  a173 := Tryz.isAgg234
  z173 := Tryz.sizeOf234
  v173 := Tryz.zeroValue234
  t175 := Tryz.underlying220
  a175 := Tryz.isAgg220
  z175 := Tryz.sizeOf220
  v175 := Tryz.zeroValue220
  t210 := Tryz.underlying271
  a210 := Tryz.isAgg271
  z210 := Tryz.sizeOf271
  v210 := Tryz.zeroValue271
  t212 := Tryz.underlying264
  a212 := Tryz.isAgg264
  z212 := Tryz.sizeOf264
  v212 := Tryz.zeroValue264
  t213 := Tryz.underlying265
  a213 := Tryz.isAgg265
  z213 := Tryz.sizeOf265
  t232 := Tryz.underlying77
  a232 := Tryz.isAgg77
  z232 := Tryz.sizeOf77
  v232 := Tryz.zeroValue77
  t233 := Tryz.underlying297
  a233 := Tryz.isAgg297
  z233 := Tryz.sizeOf297
  v233 := Tryz.zeroValue297
  g15 := by kernel_rfl
  g16 := by kernel_rfl
  g17 := by kernel_rfl
  g18 := by kernel_rfl
  g19 := by kernel_rfl
  t80 := Tryz.underlying212
  a80 := Tryz.isAgg212
  z80 := Tryz.sizeOf212
  v80 := Tryz.zeroValue212
  i0 := by kernel_rfl
  i2 := by kernel_rfl
  i3 := by kernel_rfl
  i4 := by kernel_rfl
  i5 := by kernel_rfl
  i9 := by kernel_rfl
  i20 := by kernel_rfl
  i21 := by kernel_rfl
  i37 := by kernel_rfl
  i46 := by kernel_rfl
  i51 := by kernel_rfl
  i53 := by kernel_rfl
  i75 := by kernel_rfl
  i80 := by kernel_rfl
  i85 := by kernel_rfl
  i127 := by kernel_rfl
  i143 := by kernel_rfl
  i145 := by kernel_rfl
  i167 := by kernel_rfl
  i168 := by kernel_rfl
  i171 := by kernel_rfl
  i173 := by kernel_rfl
  i175 := by kernel_rfl
  i210 := by kernel_rfl
  i212 := by kernel_rfl
  i232 := by kernel_rfl
  i233 := by kernel_rfl
  m15 := by kernel_rfl
  m16 := by kernel_rfl
  m17 := by kernel_rfl
  m18 := by kernel_rfl
  m19 := by kernel_rfl
  c0 := by kernel_rfl
  c2 := by kernel_rfl
  c3 := by kernel_rfl
  c4 := by kernel_rfl
  c5 := by kernel_rfl
  c9 := by kernel_rfl
  c20 := by kernel_rfl
  c21 := by kernel_rfl
  c37 := by kernel_rfl
  c46 := by kernel_rfl
  c51 := by kernel_rfl
  c53 := by kernel_rfl
  c75 := by kernel_rfl
  c80 := by kernel_rfl
  c85 := by kernel_rfl
  c127 := by kernel_rfl
  c143 := by kernel_rfl
  c145 := by kernel_rfl
  c167 := by kernel_rfl
  c168 := by kernel_rfl
  c171 := by kernel_rfl
  c173 := by kernel_rfl
  c175 := by kernel_rfl
  c210 := by kernel_rfl
  c212 := by kernel_rfl
  c213 := by kernel_rfl
  c232 := by kernel_rfl
  c233 := by kernel_rfl }
open Go.RowKit in
theorem Tryz.strconv_ParseInt_10_at64_ok (s : ByteArray) (hmax : s.size ≤ 9223372036854775806) (v : Int) (h : Lib.parseIntB 64 s.data.toList = .ok v) (w : World) :
    Calls Tryz.prog 95 #[.string s, .int .i64 10, .int .i64 64] w fun e w' => e = .returned (.tuple #[.int .i64 v, .nilIface]) ∧ (w' = w ∨ ∃ t, w' = Lib.bytesWorld w 5 t) := Any.strconv_ParseInt_10_at64_ok Tryz.laysC174 s hmax v h w
open Go.RowKit in
theorem Tryz.strconv_ParseInt_10_at64_syntax (s : ByteArray) (hlim : s.size ≤ 281474976710656) (h : (∀ u, Lib.parseIntB 64 s.data.toList ≠ .ok u) ∧ Lib.parseIntB 64 s.data.toList ≠ .range) (ev : Value) (w : World) (hv : w.cell? ⟨2, 0, none⟩ = some ev) (hev : ev = .nilIface ∨ ∃ te pe, ev = .iface te pe) :
    Calls Tryz.prog 95 #[.string s, .int .i64 10, .int .i64 64] w fun e w' => ∃ N, e = .returned (.tuple #[.int .i64 (0), .iface 238 (.pointer (some ⟨N, 0, none⟩))]) ∧ w.heap.size ≤ N ∧ w'.heap[N]? = some (.cells #[.string ⟨#[80, 97, 114, 115, 101, 73, 110, 116]⟩, .string s, ev] 271 (0, 0)) ∧ Below w.heap.size w w' := Any.strconv_ParseInt_10_at64_syntax Tryz.laysC174 s hlim (by cases hx : Lib.parseIntB 64 s.data.toList <;> first | rfl | exact absurd hx (h.1 _) | exact absurd hx h.2) ev w hv hev
open Go.RowKit in
theorem Tryz.strconv_ParseInt_10_at64_range (s : ByteArray) (hlim : s.size ≤ 281474976710656) (h : Lib.parseIntB 64 s.data.toList = .range) (ev : Value) (w : World) (hv : w.cell? ⟨3, 0, none⟩ = some ev) (hev : ev = .nilIface ∨ ∃ te pe, ev = .iface te pe) :
    Calls Tryz.prog 95 #[.string s, .int .i64 10, .int .i64 64] w fun e w' => ∃ N, e = .returned (.tuple #[.int .i64 (Lib.intSat 64 s.data.toList), .iface 238 (.pointer (some ⟨N, 0, none⟩))]) ∧ w.heap.size ≤ N ∧ w'.heap[N]? = some (.cells #[.string ⟨#[80, 97, 114, 115, 101, 73, 110, 116]⟩, .string s, ev] 271 (0, 0)) ∧ Below w.heap.size w w' := Any.strconv_ParseInt_10_at64_range Tryz.laysC174 s hlim h ev w hv hev
def Tryz.laysPu14_ren : Go.Shelf.Ren := ⟨fun | 14 => 146 | 16 => 158 | 17 => 133 | 19 => 177 | 20 => 178 | 21 => 159 | 22 => 160 | 23 => 161 | 24 => 162 | 25 => 179 | 27 => 45 | 26 => 180 | 28 => 88 | 29 => 130 | 30 => 153 | 31 => 154 | 32 => 155 | 33 => 156 | 35 => 173 | 34 => 172 | 36 => 174 | 37 => 175 | 38 => 176 | 39 => 188 | 40 => 189 | n => n, fun | 9 => 9 | 3 => 3 | 22 => 22 | 24 => 177 | 25 => 220 | 4 => 4 | 34 => 237 | 5 => 5 | 36 => 226 | 37 => 72 | 0 => 0 | 39 => 238 | 21 => 21 | 44 => 271 | 47 => 150 | 50 => 282 | 48 => 280 | 2 => 2 | 52 => 231 | 55 => 234 | 59 => 264 | 60 => 28 | 20 => 20 | 61 => 265 | 65 => 77 | 66 => 297 | 67 => 212 | n => n, fun | 0 => 2 | 1 => 3 | 2 => 1 | 3 => 4 | 4 => 5 | n => n⟩
theorem Tryz.laysPu14 : Go.Proofs.LaysPu.n14 Tryz.prog Tryz.laysPu14_ren := {
  mixed := by kernel_rfl
  f14 := Tryz.func146.trans (congrArg some (by kernel_rfl))
  f16 := Tryz.func158.trans (congrArg some (by kernel_rfl))
  f17 := Tryz.func133.trans (congrArg some (by kernel_rfl))
  f19 := Tryz.func177.trans (congrArg some (by kernel_rfl))
  f20 := Tryz.func178.trans (congrArg some (by kernel_rfl))
  f21 := Tryz.func159.trans (congrArg some (by kernel_rfl))
  f22 := Tryz.func160.trans (congrArg some (by kernel_rfl))
  f23 := Tryz.func161.trans (congrArg some (by kernel_rfl))
  f24 := Tryz.func162.trans (congrArg some (by kernel_rfl))
  f25 := Tryz.func179.trans (congrArg some (by kernel_rfl))
  f26 := Tryz.func180.trans (congrArg some (by kernel_rfl))
  f27 := Tryz.func45.trans (congrArg some (by kernel_rfl))
  f28 := Tryz.func88.trans (congrArg some (by kernel_rfl))
  f29 := Tryz.func130.trans (congrArg some (by kernel_rfl))
  f30 := Tryz.func153.trans (congrArg some (by kernel_rfl))
  f31 := Tryz.func154.trans (congrArg some (by kernel_rfl))
  f32 := Tryz.func155.trans (congrArg some (by kernel_rfl))
  f33 := Tryz.func156.trans (congrArg some (by kernel_rfl))
  f34 := Tryz.func172.trans (congrArg some (by kernel_rfl))
  f35 := Tryz.func173.trans (congrArg some (by kernel_rfl))
  f36 := Tryz.func174.trans (congrArg some (by kernel_rfl))
  f37 := Tryz.func175.trans (congrArg some (by kernel_rfl))
  f38 := Tryz.func176.trans (congrArg some (by kernel_rfl))
  f39 := Tryz.func188.trans (congrArg some (by kernel_rfl))
  f40 := Tryz.func189.trans (congrArg some (by kernel_rfl))
  t0 := Tryz.underlying0
  a0 := Tryz.isAgg0
  z0 := Tryz.sizeOf0
  v0 := Tryz.zeroValue0
  i0 := by kernel_rfl
  t2 := Tryz.underlying2
  a2 := Tryz.isAgg2
  z2 := Tryz.sizeOf2
  v2 := Tryz.zeroValue2
  i2 := by kernel_rfl
  t3 := Tryz.underlying3
  a3 := Tryz.isAgg3
  z3 := Tryz.sizeOf3
  v3 := Tryz.zeroValue3
  i3 := by kernel_rfl
  t4 := Tryz.underlying4
  a4 := Tryz.isAgg4
  z4 := Tryz.sizeOf4
  v4 := Tryz.zeroValue4
  i4 := by kernel_rfl
  t5 := Tryz.underlying5
  a5 := Tryz.isAgg5
  z5 := Tryz.sizeOf5
  v5 := Tryz.zeroValue5
  i5 := by kernel_rfl
  t9 := Tryz.underlying9
  a9 := Tryz.isAgg9
  z9 := Tryz.sizeOf9
  v9 := Tryz.zeroValue9
  i9 := by kernel_rfl
  t20 := Tryz.underlying20
  a20 := Tryz.isAgg20
  z20 := Tryz.sizeOf20
  v20 := Tryz.zeroValue20
  i20 := by kernel_rfl
  t21 := Tryz.underlying21
  a21 := Tryz.isAgg21
  z21 := Tryz.sizeOf21
  v21 := Tryz.zeroValue21
  i21 := by kernel_rfl
  t22 := Tryz.underlying22
  a22 := Tryz.isAgg22
  z22 := Tryz.sizeOf22
  v22 := Tryz.zeroValue22
  i22 := by kernel_rfl
  t24 := Tryz.underlying177
  a24 := Tryz.isAgg177
  z24 := Tryz.sizeOf177
  v24 := Tryz.zeroValue177
  i24 := by kernel_rfl
  t25 := Tryz.underlying220
  a25 := Tryz.isAgg220
  z25 := Tryz.sizeOf220
  v25 := Tryz.zeroValue220
  i25 := by kernel_rfl
  t34 := Tryz.underlying237
  a34 := Tryz.isAgg237
  z34 := Tryz.sizeOf237
  v34 := Tryz.zeroValue237
  i34 := by kernel_rfl
  c34 := by kernel_rfl
  t36 := Tryz.underlying226
  a36 := Tryz.isAgg226
  z36 := Tryz.sizeOf226
  v36 := Tryz.zeroValue226
  i36 := by kernel_rfl
  t37 := Tryz.underlying72
  a37 := Tryz.isAgg72
  z37 := Tryz.sizeOf72
  v37 := Tryz.zeroValue72
  i37 := by kernel_rfl
  t39 := Tryz.underlying238
  a39 := Tryz.isAgg238
  z39 := Tryz.sizeOf238
  v39 := Tryz.zeroValue238
  i39 := by kernel_rfl
  t44 := Tryz.underlying271
  a44 := Tryz.isAgg271
  z44 := Tryz.sizeOf271
  v44 := Tryz.zeroValue271
  i44 := by kernel_rfl
  t47 := Tryz.underlying150
  a47 := Tryz.isAgg150
  z47 := Tryz.sizeOf150
  v47 := Tryz.zeroValue150
  i47 := by kernel_rfl
  t48 := Tryz.underlying280
  a48 := Tryz.isAgg280
  z48 := Tryz.sizeOf280
  v48 := Tryz.zeroValue280
  i48 := by kernel_rfl
  t50 := Tryz.underlying282
  a50 := Tryz.isAgg282
  z50 := Tryz.sizeOf282
  v50 := Tryz.zeroValue282
  i50 := by kernel_rfl
  t52 := Tryz.underlying231
  a52 := Tryz.isAgg231
  z52 := Tryz.sizeOf231
  v52 := Tryz.zeroValue231
  i52 := by kernel_rfl
  t55 := Tryz.underlying234
  a55 := Tryz.isAgg234
  z55 := Tryz.sizeOf234
  v55 := Tryz.zeroValue234
  i55 := by kernel_rfl
  t59 := Tryz.underlying264
  a59 := Tryz.isAgg264
  z59 := Tryz.sizeOf264
  v59 := Tryz.zeroValue264
  i59 := by kernel_rfl
  t60 := Tryz.underlying28
  a60 := Tryz.isAgg28
  z60 := Tryz.sizeOf28
  v60 := Tryz.zeroValue28
  i60 := by kernel_rfl
  t61 := Tryz.underlying265
  a61 := Tryz.isAgg265
  z61 := Tryz.sizeOf265
  t65 := Tryz.underlying77
  a65 := Tryz.isAgg77
  z65 := Tryz.sizeOf77
  v65 := Tryz.zeroValue77
  i65 := by kernel_rfl
  t66 := Tryz.underlying297
  a66 := Tryz.isAgg297
  z66 := Tryz.sizeOf297
  v66 := Tryz.zeroValue297
  i66 := by kernel_rfl
  t67 := Tryz.underlying212
  a67 := Tryz.isAgg212
  z67 := Tryz.sizeOf212
  v67 := Tryz.zeroValue212
  i67 := by kernel_rfl
  g0 := by kernel_rfl
  m0 := by kernel_rfl
  g1 := by kernel_rfl
  m1 := by kernel_rfl
  g2 := by kernel_rfl
  m2 := by kernel_rfl
  g3 := by kernel_rfl
  m3 := by kernel_rfl
  g4 := by kernel_rfl
  m4 := by kernel_rfl }
open Go.RowKit in
theorem Tryz.strconv_ParseUint_10_at64_ok (s : ByteArray) (hmax : s.size ≤ 9223372036854775806) (u : Nat) (h : Lib.parseUintB 64 s.data.toList = .ok u) (w : World) :
    Calls Tryz.prog 146 #[.string s, .int .i64 10, .int .i64 64] w fun e w' => e = .returned (.tuple #[.int .u64 u, .nilIface]) ∧ (w' = w ∨ w' = Lib.bytesWorld w 5 s) := Any.strconv_ParseUint_10_at64_ok Tryz.laysPu14 s hmax u h w
open Go.RowKit in
theorem Tryz.strconv_ParseUint_10_at64_syntax (s : ByteArray) (hlim : s.size ≤ 281474976710656) (h : (∀ u, Lib.parseUintB 64 s.data.toList ≠ .ok u) ∧ Lib.parseUintB 64 s.data.toList ≠ .range) (ev : Value) (w : World) (hv : w.cell? ⟨2, 0, none⟩ = some ev) (hev : ev = .nilIface ∨ ∃ te pe, ev = .iface te pe) :
    Calls Tryz.prog 146 #[.string s, .int .i64 10, .int .i64 64] w fun e w' => ∃ N, e = .returned (.tuple #[.int .u64 0, .iface 238 (.pointer (some ⟨N, 0, none⟩))]) ∧ w.heap.size ≤ N ∧ w'.heap[N]? = some (.cells #[.string ⟨#[80, 97, 114, 115, 101, 85, 105, 110, 116]⟩, .string s, ev] 271 (0, 0)) ∧ Below w.heap.size w w' := Any.strconv_ParseUint_10_at64_syntax Tryz.laysPu14 s hlim (by cases hx : Lib.parseUintB 64 s.data.toList <;> first | rfl | exact absurd hx (h.1 _) | exact absurd hx h.2) ev w hv hev
open Go.RowKit in
theorem Tryz.strconv_ParseUint_10_at64_range (s : ByteArray) (hlim : s.size ≤ 281474976710656) (h : Lib.parseUintB 64 s.data.toList = .range) (ev : Value) (w : World) (hv : w.cell? ⟨3, 0, none⟩ = some ev) (hev : ev = .nilIface ∨ ∃ te pe, ev = .iface te pe) :
    Calls Tryz.prog 146 #[.string s, .int .i64 10, .int .i64 64] w fun e w' => ∃ N, e = .returned (.tuple #[.int .u64 18446744073709551615, .iface 238 (.pointer (some ⟨N, 0, none⟩))]) ∧ w.heap.size ≤ N ∧ w'.heap[N]? = some (.cells #[.string ⟨#[80, 97, 114, 115, 101, 85, 105, 110, 116]⟩, .string s, ev] 271 (0, 0)) ∧ Below w.heap.size w w' := Any.strconv_ParseUint_10_at64_range Tryz.laysPu14 s hlim h ev w hv hev
def Tryz.lays138_ren : Go.Shelf.Ren := ⟨fun | 138 => 259 | 195 => 260 | 218 => 261 | 143 => 262 | 219 => 263 | 217 => 226 | 225 => 264 | 224 => 265 | 267 => 266 | 266 => 227 | 314 => 267 | n => n, fun | 9 => 9 | 3 => 3 | 4 => 4 | 5 => 5 | 0 => 0 | 46 => 226 | 146 => 355 | 51 => 28 | n => n, fun | 1 => 6 | n => n⟩
theorem Tryz.lays138 : Go.Proofs.Lays.n138 Tryz.prog Tryz.lays138_ren := {
  mixed := by kernel_rfl
  f138 := Tryz.func259.trans (congrArg some (by kernel_rfl))
  f143 := Tryz.func262.trans (congrArg some (by kernel_rfl))
  f195 := Tryz.func260.trans (congrArg some (by kernel_rfl))
  f217 := Tryz.func226.trans (congrArg some (by kernel_rfl))
  f218 := Tryz.func261.trans (congrArg some (by kernel_rfl))
  f219 := Tryz.func263.trans (congrArg some (by kernel_rfl))
  f224 := Tryz.func265.trans (congrArg some (by kernel_rfl))
  f225 := Tryz.func264.trans (congrArg some (by kernel_rfl))
  f266 := Tryz.func227.trans (congrArg some (by kernel_rfl))
  f267 := Tryz.func266.trans (congrArg some (by kernel_rfl))
  f314 := Tryz.func267.trans (congrArg some (by kernel_rfl))
  t0 := Tryz.underlying0
  a0 := Tryz.isAgg0
  z0 := Tryz.sizeOf0
  v0 := Tryz.zeroValue0
  t3 := Tryz.underlying3
  a3 := Tryz.isAgg3
  z3 := Tryz.sizeOf3
  v3 := Tryz.zeroValue3
  t4 := Tryz.underlying4
  a4 := Tryz.isAgg4
  z4 := Tryz.sizeOf4
  v4 := Tryz.zeroValue4
  t5 := Tryz.underlying5
  a5 := Tryz.isAgg5
  z5 := Tryz.sizeOf5
  v5 := Tryz.zeroValue5
  t9 := Tryz.underlying9
  a9 := Tryz.isAgg9
  z9 := Tryz.sizeOf9
  v9 := Tryz.zeroValue9
  t46 := Tryz.underlying226
  a46 := Tryz.isAgg226
  z46 := Tryz.sizeOf226
  v46 := Tryz.zeroValue226
  t51 := Tryz.underlying28
  a51 := Tryz.isAgg28
  z51 := Tryz.sizeOf28
  v51 := Tryz.zeroValue28
  t146 := Tryz.underlying355
  a146 := Tryz.isAgg355
  z146 := Tryz.sizeOf355
  v146 := Tryz.zeroValue355
  g1 := by kernel_rfl }
open Go.RowKit Go.Lib in
theorem Tryz.strings_Count_one (s : ByteArray) (c : UInt8) (w : World) :
    Calls Tryz.prog 259 #[.string s, .string ⟨#[c]⟩] w fun e w' => e = .returned (.int .i64 (Lib.countByte s.data.toList c)) ∧ w' = w := Any.strings_Count_one Tryz.lays138 s c w
def Tryz.lays101_ren : Go.Shelf.Ren := ⟨fun | 101 => 94 | 208 => 131 | 206 => 157 | n => n, fun | 9 => 9 | 4 => 4 | 3 => 3 | n => n, fun | n => n⟩
theorem Tryz.lays101 : Go.Proofs.Lays.n101 Tryz.prog Tryz.lays101_ren := {
  mixed := by kernel_rfl
  f101 := Tryz.func94.trans (congrArg some (by kernel_rfl))
  f206 := Tryz.func157.trans (congrArg some (by kernel_rfl))
  f208 := Tryz.func131.trans (congrArg some (by kernel_rfl))
  t3 := Tryz.underlying3
  a3 := Tryz.isAgg3
  z3 := Tryz.sizeOf3
  v3 := Tryz.zeroValue3
  t4 := Tryz.underlying4
  a4 := Tryz.isAgg4
  z4 := Tryz.sizeOf4
  v4 := Tryz.zeroValue4
  t9 := Tryz.underlying9
  a9 := Tryz.isAgg9
  z9 := Tryz.sizeOf9
  v9 := Tryz.zeroValue9 }
open Go.RowKit Go.Lib in
theorem Tryz.strings_TrimPrefix (s p : ByteArray) (w : World) :
    Calls Tryz.prog 94 #[.string s, .string p] w fun e w' => e = .returned (.string ⟨(Lib.trimPrefix s.data.toList p.data.toList).toArray⟩) ∧ w' = w := Any.strings_TrimPrefix Tryz.lays101 s p w
def Tryz.laysNm216_ren : Go.Shelf.Ren := ⟨fun | 16 => 135 | n => n, fun | 24 => 58 | 9 => 9 | 4 => 4 | n => n, fun | n => n⟩
theorem Tryz.laysNm216 : Go.Proofs.Lays2.n16 Tryz.prog Tryz.laysNm216_ren := {
  mixed := by kernel_rfl
  f16 := Tryz.func135.trans (congrArg some (by kernel_rfl))
  t4 := Tryz.underlying4
  a4 := Tryz.isAgg4
  z4 := Tryz.sizeOf4
  v4 := Tryz.zeroValue4
  t9 := Tryz.underlying9
  a9 := Tryz.isAgg9
  z9 := Tryz.sizeOf9
  v9 := Tryz.zeroValue9
  t24 := Tryz.underlying58
  a24 := Tryz.isAgg58
  z24 := Tryz.sizeOf58
  v24 := Tryz.zeroValue58
  i9 := by kernel_rfl }
open Go.RowKit Go.Lib in
theorem Tryz.slices_Clone_string (b off n c : Nat) (zs : List ByteArray) (w : World) (hz : n ≤ zs.length) (hbig : n * 16 ≤ 140737488355328) (hc : ∀ j, j < zs.length → w.cell? ⟨b, off + j, none⟩ = some (.string (zs.getD j ByteArray.empty))) :
    Calls Tryz.prog 135 #[.slice (some ⟨b, off, none⟩) n c] w fun e w' => ∃ v', e = .returned v' ∧ w'.ownsRow w.heap.size 9 1 v' n ((zs.take n).map (Value.string)) ∧ v' ≠ .slice none 0 0 ∧ Below w.heap.size w w' := Any.slices_Clone_string Tryz.laysNm216 b off n c zs w hz hbig hc
open Go.RowKit Go.Lib in
theorem Tryz.slices_Clone_string_nil (n c : Nat) (w : World) :
    Calls Tryz.prog 135 #[.slice none n c] w fun e w' => e = .returned (.slice none 0 0) ∧ w' = w := Any.slices_Clone_string_nil Tryz.laysNm216 n c w
open Go.RowKit Go.Lib in
theorem Tryz.slices_Clone_string_zero (a : Addr) (c : Nat) (w : World) :
    Calls Tryz.prog 135 #[.slice (some a) 0 c] w fun e w' => ∃ v', e = .returned v' ∧ w'.ownsRow w.heap.size 9 1 v' 0 [] ∧ v' ≠ .slice none 0 0 ∧ Below w.heap.size w w' := Any.slices_Clone_string_zero Tryz.laysNm216 a c w
end Go.Proofs


namespace Go.Proofs.YtgfijlamhjjecaaGreatDoor
open Go.RowKit
theorem einfo_u8 : (Tryz.prog.info? 5).map (fun i => (i.zero, i.size, i.bytes)) = some (some (.int .u8 0), 1, 1) := by kernel_rfl
theorem einfo_str : (Tryz.prog.info? 9).map (fun i => (i.zero, i.size, i.bytes)) = some (some (.string ⟨#[]⟩), 1, 16) := by kernel_rfl
theorem einfo_strs : (Tryz.prog.info? 58).map (fun i => (i.zero, i.size, i.bytes)) = some (some (.slice none 0 0), 1, 24) := by kernel_rfl
theorem einfo_seg : (Tryz.prog.info? 94).map (fun i => (i.zero, i.size, i.bytes)) = some (some (.agg #[.string ⟨#[]⟩, .slice none 0 0]), 2, 40) := by kernel_rfl
def sv (s : Str) : Value := .string ⟨s.toArray⟩
theorem cell_lt' {w : World} {b o : Nat} {v : Value} (h : w.cell? ⟨b, o, none⟩ = some v) : b < w.heap.size := World.block_lt_of_cell? w _ h
def RowAt (S : Nat → Prop) (w : World) (v : Value) (xs : List Value) : Prop :=
  ∃ ao cap, v = .slice ao xs.length cap ∧ xs.length ≤ cap ∧ cap ≤ maxLen ∧ (ao = none → cap = 0) ∧ (xs ≠ [] → ∃ b off, ao = some ⟨b, off, none⟩ ∧ S b ∧ ∀ (i : Nat) (x : Value), xs[i]? = some x → w.cell? ⟨b, off + i, none⟩ = some x)
def CompsAt (S : Nat → Prop) (w : World) (v : Value) (cs : List Str) : Prop := RowAt S w v (cs.map sv)
def ElemsAt (S : Nat → Prop) (w : World) (v : Value) (es : List (List Str)) : Prop :=
  ∃ xs : List Value, RowAt S w v xs ∧ xs.length = es.length ∧ ∀ (i : Nat) (e : List Str) (x : Value), es[i]? = some e → xs[i]? = some x → CompsAt S w x e
def SegsAt (S : Nat → Prop) (w : World) (v : Value) (l : List Seg) : Prop :=
  ∃ (ao : Option Addr) (cap : Nat) (xs : List Value), v = .slice ao l.length cap ∧ l.length ≤ cap ∧ cap ≤ maxLen ∧ (ao = none → cap = 0) ∧ xs.length = l.length ∧ (∀ (i : Nat) (s : Seg) (x : Value), l[i]? = some s → xs[i]? = some x → ElemsAt S w x s.elems) ∧
    (l ≠ [] → ∃ b off, ao = some ⟨b, off, none⟩ ∧ S b ∧ ∀ (i : Nat) (s : Seg) (x : Value), l[i]? = some s → xs[i]? = some x → w.cell? ⟨b, off + i * 2, none⟩ = some (sv s.tag) ∧ w.cell? ⟨b, off + i * 2 + 1, none⟩ = some x)
section
variable {S T : Nat → Prop} {w w' : World} {v : Value}
theorem RowAt.cong {xs : List Value} (h : RowAt S w v xs) (hT : ∀ k, S k → T k) (e : ∀ k, S k → w'.heap[k]? = w.heap[k]?) : RowAt T w' v xs := by
  obtain ⟨ao, cap, rfl, h1, h2, h3, h4⟩ := h
  refine ⟨ao, cap, rfl, h1, h2, h3, fun hx => ?_⟩
  obtain ⟨b, off, rfl, hS, hc⟩ := h4 hx
  exact ⟨b, off, rfl, hT b hS, fun i x hi => (World.cell?_of_block (a := ⟨b, off + i, none⟩) (e b hS)).trans (hc i x hi)⟩
theorem CompsAt.cong {cs : List Str} (h : CompsAt S w v cs) (hT : ∀ k, S k → T k) (e : ∀ k, S k → w'.heap[k]? = w.heap[k]?) : CompsAt T w' v cs := RowAt.cong h hT e
theorem ElemsAt.cong {es : List (List Str)} (h : ElemsAt S w v es) (hT : ∀ k, S k → T k) (e : ∀ k, S k → w'.heap[k]? = w.heap[k]?) : ElemsAt T w' v es := by
  obtain ⟨xs, h1, h2, h3⟩ := h
  exact ⟨xs, h1.cong hT e, h2, fun i a x ha hx => (h3 i a x ha hx).cong hT e⟩
theorem SegsAt.cong {l : List Seg} (h : SegsAt S w v l) (hT : ∀ k, S k → T k) (e : ∀ k, S k → w'.heap[k]? = w.heap[k]?) : SegsAt T w' v l := by
  obtain ⟨ao, cap, xs, rfl, h1, h2, h3, h4, h5, h6⟩ := h
  refine ⟨ao, cap, xs, rfl, h1, h2, h3, h4, fun i s x hs hx => (h5 i s x hs hx).cong hT e, fun h0 => ?_⟩
  obtain ⟨b, off, rfl, hS, hc⟩ := h6 h0
  refine ⟨b, off, rfl, hT b hS, fun i s x hs hx => ?_⟩
  obtain ⟨a1, a2⟩ := hc i s x hs hx
  exact ⟨(World.cell?_of_block (a := ⟨b, off + i * 2, none⟩) (e b hS)).trans a1, (World.cell?_of_block (a := ⟨b, off + i * 2 + 1, none⟩) (e b hS)).trans a2⟩
theorem RowAt.nil (S : Nat → Prop) (w : World) : RowAt S w (.slice none 0 0) [] := ⟨none, 0, rfl, Nat.le_refl _, Nat.zero_le _, fun _ => rfl, fun h => absurd rfl h⟩
theorem ElemsAt.nil (S : Nat → Prop) (w : World) : ElemsAt S w (.slice none 0 0) [] := ⟨[], RowAt.nil S w, rfl, fun i e x h => by simp at h⟩
theorem SegsAt.nil (S : Nat → Prop) (w : World) : SegsAt S w (.slice none 0 0) [] := ⟨none, 0, [], rfl, Nat.le_refl _, Nat.zero_le _, fun _ => rfl, rfl, (fun i s x h => by simp at h), fun h => absurd rfl h⟩
end
theorem own_cong {w w' : World} {B : Nat} {e : TypeId} {s n : Nat} {v : Value} {xs : List Value} (h : w.ownsRow B e s v n xs) (he : ∀ k, v.ownBlock = some k → w'.heap[k]? = w.heap[k]?) : w'.ownsRow B e s v n xs := by
  obtain ⟨h1, h2 | ⟨g, cap, cur, rfl, hg, hh, hr⟩⟩ := h
  · exact ⟨h1, .inl h2⟩
  · exact ⟨h1, .inr ⟨g, cap, cur, rfl, hg, (he g rfl).trans hh, hr⟩⟩
theorem own_ty {w : World} {B : Nat} {e : TypeId} {s n k : Nat} {v : Value} {xs : List Value} (h : w.ownsRow B e s v n xs) (hk : v.ownBlock = some k) : ∃ C, w.heap[k]? = some (.cells C e (0, 0)) ∧ B ≤ k ∧ k < w.heap.size := by
  obtain ⟨_, ⟨rfl, _⟩ | ⟨g, cap, cur, rfl, hg, hh, _⟩⟩ := h
  · simp [Value.ownBlock] at hk
  · cases hk; exact ⟨cur, hh, hg, (Array.getElem?_eq_some_iff.1 hh).1⟩
theorem own_form {w : World} {B : Nat} {e : TypeId} {s n : Nat} {v : Value} {xs : List Value} (h : w.ownsRow B e s v n xs) (hn : 0 < n) (_hs : 0 < s) : ∃ g cap cur, v = .slice (some ⟨g, 0, none⟩) n cap ∧ B ≤ g ∧ w.heap[g]? = some (.cells cur e (0, 0)) ∧ n ≤ cap ∧ cap ≤ maxLen ∧ cur.size = cap * s ∧ ∀ j, j < n * s → cur[j]? = xs[j]? := by
  obtain ⟨h1, ⟨rfl, h0⟩ | ⟨g, cap, cur, rfl, hg, hh, hc, hm, hs', hx⟩⟩ := h
  · omega
  · refine ⟨g, cap, cur, rfl, hg, hh, hc, hm, hs', fun j hj => ?_⟩
    rw [← hx, List.getElem?_take_of_lt hj]; simp
theorem own_cell {w : World} {B : Nat} {e : TypeId} {s n g cap : Nat} {xs : List Value} (h : w.ownsRow B e s (.slice (some ⟨g, 0, none⟩) n cap) n xs) {j : Nat} {x : Value} (hj : xs[j]? = some x) : w.cell? ⟨g, j, none⟩ = some x := by
  obtain ⟨h1, ⟨h2, _⟩ | ⟨g', cap', cur, h2, hg, hh, hc, hm, hs', hx⟩⟩ := h
  · cases h2
  · cases h2
    have hlt : j < n * s := by rw [← h1]; exact (List.getElem?_eq_some_iff.1 hj).1
    rw [cell_of_row w g j _ _ _ hh]
    rw [← hx, List.getElem?_take_of_lt hlt] at hj
    simpa using hj
theorem own_frozen {w : World} {B : Nat} {e : TypeId} {s n g cap : Nat} {xs : List Value} (h : w.ownsRow B e s (.slice (some ⟨g, 0, none⟩) n cap) n xs) (j : Nat) : w.frozen? ⟨g, j, none⟩ = false := by
  obtain ⟨h1, ⟨h2, _⟩ | ⟨g', cap', cur, h2, hg, hh, hr⟩⟩ := h
  · cases h2
  · cases h2; exact frozen_of_row w g j _ _ hh
theorem own_set {w : World} {B : Nat} {e : TypeId} {s n g cap : Nat} {xs : List Value} (h : w.ownsRow B e s (.slice (some ⟨g, 0, none⟩) n cap) n xs) {j : Nat} (_hj : j < xs.length) (x : Value) : (w.setCell ⟨g, j, none⟩ x).ownsRow B e s (.slice (some ⟨g, 0, none⟩) n cap) n (xs.set j x) := by
  obtain ⟨h1, ⟨h2, _⟩ | ⟨g', cap', cur, h2, hg, hh, hc, hm, hs', hx⟩⟩ := h
  · cases h2
  · cases h2
    refine ⟨by rw [List.length_set]; exact h1, .inr ⟨g, cap, cur.setIfInBounds j x, rfl, hg, heap_setCell_same w g j _ _ _ hh, hc, hm, by simpa using hs', ?_⟩⟩
    rw [Array.toList_setIfInBounds, ← hx, List.take_set]
theorem own_rest {w : World} {B : Nat} {e : TypeId} {v : Value} {xs : List Value} (h : w.ownsRow B e 1 v xs.length xs) {S : Nat → Prop} (hS : ∀ k, v.ownBlock = some k → S k) : RowAt S w v xs := by
  have h' := h
  obtain ⟨_, ⟨rfl, h0⟩ | ⟨g, cap, cur, rfl, hg, hh, hc, hm, hs', hx⟩⟩ := h
  · exact ⟨none, 0, by rw [h0], by omega, Nat.zero_le _, fun _ => rfl, fun hne => absurd (List.length_eq_zero_iff.1 h0) hne⟩
  · exact ⟨some ⟨g, 0, none⟩, cap, rfl, hc, hm, (fun e => by cases e), fun _ => ⟨g, 0, rfl, hS g rfl, fun i x hi => by rw [Nat.zero_add]; exact own_cell h' hi⟩⟩
def OwnS (w : World) (B : Nat) (v : Value) (l : Str) : Prop := w.ownsRow B 5 1 v l.length (l.map bv)
def segCells : List Seg → List Value → List Value
  | s :: l, x :: xs => sv s.tag :: x :: segCells l xs
  | _, _ => []
theorem segCells_len : ∀ (l : List Seg) (xs : List Value), xs.length = l.length → (segCells l xs).length = l.length * 2
  | [], xs, h => by cases xs <;> simp [segCells]
  | s :: l, [], h => by simp at h
  | s :: l, x :: xs, h => by simp only [segCells, List.length_cons]; rw [segCells_len l xs (by simpa using h)]; omega
theorem segCells_app : ∀ (l m : List Seg) (xs ys : List Value), xs.length = l.length → segCells (l ++ m) (xs ++ ys) = segCells l xs ++ segCells m ys
  | [], m, xs, ys, h => by cases xs <;> simp [segCells] at h ⊢
  | s :: l, m, [], ys, h => by simp at h
  | s :: l, m, x :: xs, ys, h => by simp only [List.cons_append, segCells]; rw [segCells_app l m xs ys (by simpa using h)]
theorem segCells_get : ∀ (l : List Seg) (xs : List Value) (i : Nat) (s : Seg) (x : Value), l[i]? = some s → xs[i]? = some x → (segCells l xs)[i * 2]? = some (sv s.tag) ∧ (segCells l xs)[i * 2 + 1]? = some x
  | [], xs, i, s, x, h, _ => by simp at h
  | _ :: _, [], i, s, x, _, h => by simp at h
  | a :: l, y :: xs, 0, s, x, h1, h2 => by simp at h1 h2; subst h1; subst h2; exact ⟨rfl, rfl⟩
  | a :: l, y :: xs, i + 1, s, x, h1, h2 => by
    have h := segCells_get l xs i s x (by simpa using h1) (by simpa using h2)
    rw [show (i + 1) * 2 = i * 2 + 1 + 1 by omega]
    exact h
theorem segs_rest {w : World} {B : Nat} {v : Value} {l : List Seg} {xs : List Value} {S : Nat → Prop} (h : w.ownsRow B 94 2 v l.length (segCells l xs)) (hx : xs.length = l.length) (hS : ∀ k, v.ownBlock = some k → S k) (he : ∀ (i : Nat) (s : Seg) (x : Value), l[i]? = some s → xs[i]? = some x → ElemsAt S w x s.elems) : SegsAt S w v l := by
  have h' := h
  obtain ⟨_, ⟨rfl, h0⟩ | ⟨g, cap, cur, rfl, hg, hh, hc, hm, hs', _⟩⟩ := h
  · exact ⟨none, 0, xs, by rw [h0], by omega, Nat.zero_le _, fun _ => rfl, hx, he, fun hne => absurd (List.length_eq_zero_iff.1 h0) hne⟩
  · refine ⟨some ⟨g, 0, none⟩, cap, xs, rfl, hc, hm, (fun e => by cases e), hx, he, fun _ => ⟨g, 0, rfl, hS g rfl, fun i s x hs hxi => ?_⟩⟩
    obtain ⟨a1, a2⟩ := segCells_get l xs i s x hs hxi
    rw [Nat.zero_add]
    exact ⟨own_cell h' a1, own_cell h' a2⟩
def CompsO (S : Nat → Prop) (B : Nat) (w : World) (v : Value) (cs : List Str) : Prop := w.ownsRow B 9 1 v cs.length (cs.map sv) ∧ ∀ k, v.ownBlock = some k → S k
def ElemsO (S : Nat → Prop) (B : Nat) (w : World) (v : Value) (es : List (List Str)) : Prop :=
  ∃ ys : List Value, w.ownsRow B 58 1 v es.length ys ∧ (∀ k, v.ownBlock = some k → S k) ∧ ys.length = es.length ∧ ∀ (i : Nat) (e : List Str) (y : Value), es[i]? = some e → ys[i]? = some y → CompsO S B w y e
def SegsO (S : Nat → Prop) (B : Nat) (w : World) (v : Value) (l : List Seg) : Prop :=
  ∃ xs : List Value, w.ownsRow B 94 2 v l.length (segCells l xs) ∧ (∀ k, v.ownBlock = some k → S k) ∧ xs.length = l.length ∧ ∀ (i : Nat) (s : Seg) (x : Value), l[i]? = some s → xs[i]? = some x → ElemsO S B w x s.elems
section
variable {S T : Nat → Prop} {w w' : World} {B : Nat} {v : Value}
theorem CompsO.cong {cs : List Str} (h : CompsO S B w v cs) (hT : ∀ k, S k → T k) (e : ∀ k, S k → w'.heap[k]? = w.heap[k]?) : CompsO T B w' v cs :=
  ⟨own_cong h.1 (fun k hk => e k (h.2 k hk)), fun k hk => hT k (h.2 k hk)⟩
theorem ElemsO.cong {es : List (List Str)} (h : ElemsO S B w v es) (hT : ∀ k, S k → T k) (e : ∀ k, S k → w'.heap[k]? = w.heap[k]?) : ElemsO T B w' v es := by
  obtain ⟨ys, h1, h2, h3, h4⟩ := h
  exact ⟨ys, own_cong h1 (fun k hk => e k (h2 k hk)), fun k hk => hT k (h2 k hk), h3, fun i a x ha hx => (h4 i a x ha hx).cong hT e⟩
theorem ElemsO.nil (S : Nat → Prop) (B : Nat) (w : World) : ElemsO S B w (.slice none 0 0) [] := ⟨[], World.ownsRow_nil _ _ _ _, (fun _ hk => by simp [Value.ownBlock] at hk), rfl, fun i e x h => by simp at h⟩
theorem SegsO.nil (S : Nat → Prop) (B : Nat) (w : World) : SegsO S B w (.slice none 0 0) [] := ⟨[], World.ownsRow_nil _ _ _ _, (fun _ hk => by simp [Value.ownBlock] at hk), rfl, fun i e x h => by simp at h⟩
theorem CompsO.lies {cs : List Str} (h : CompsO S B w v cs) : CompsAt S w v cs := own_rest (by rw [List.length_map]; exact h.1) h.2
theorem ElemsO.lies {es : List (List Str)} (h : ElemsO S B w v es) : ElemsAt S w v es := by
  obtain ⟨ys, h1, h2, h3, h4⟩ := h
  exact ⟨ys, own_rest (by rw [h3]; exact h1) h2, h3, fun i e x ha hx => (h4 i e x ha hx).lies⟩
theorem SegsO.lies {l : List Seg} (h : SegsO S B w v l) : SegsAt S w v l := by
  obtain ⟨xs, h1, h2, h3, h4⟩ := h
  exact segs_rest h1 h3 h2 (fun i s x ha hx => (h4 i s x ha hx).lies)
end
end Go.Proofs.YtgfijlamhjjecaaGreatDoor


namespace Go.Proofs.YtgfijlamhjjecaaGreatDoor
open Go.RowKit
theorem ty_ne {w : World} {b c : Nat} {C D : Array Value} {t u : TypeId} {f g : Nat × Nat} (h1 : w.heap[b]? = some (.cells C t f)) (h2 : w.heap[c]? = some (.cells D u g)) (h : t ≠ u) : b ≠ c := by
  intro e; subst e; rw [h1] at h2; have h3 := Option.some.inj h2; injection h3 with _ h4; exact h h4
theorem own_ne {w : World} {B B' : Nat} {e e' : TypeId} {s s' n n' : Nat} {v v' : Value} {xs xs' : List Value} (h : w.ownsRow B e s v n xs) (h' : w.ownsRow B' e' s' v' n' xs') (he : e ≠ e') {k : Nat} (hk : v.ownBlock = some k) : v'.ownBlock ≠ some k := fun hk' => by
  obtain ⟨C, h1, _⟩ := own_ty h hk
  obtain ⟨D, h2, _⟩ := own_ty h' hk'
  exact ty_ne h1 h2 he rfl
theorem own_lt {w : World} {B : Nat} {e : TypeId} {s n : Nat} {v : Value} {xs : List Value} (h : w.ownsRow B e s v n xs) {k : Nat} (hk : v.ownBlock = some k) : B ≤ k ∧ k < w.heap.size := by
  obtain ⟨_, _, a, b⟩ := own_ty h hk; exact ⟨a, b⟩
structure RA (S : Nat → Prop) (w : World) (B rb : Nat) (l : List Seg) (lv pv : Value) (xs : List Value) (p : Str) : Prop where
  hB : B ≤ rb
  r : w.heap[rb]? = some (.cells #[lv, pv] 215 (0, 0))
  hp : OwnS w B pv p
  hl : w.ownsRow B 94 2 lv l.length (segCells l xs)
  xl : xs.length = l.length
  hes : ∀ (i : Nat) (s : Seg) (x : Value), l[i]? = some s → xs[i]? = some x → ElemsO S B w x s.elems
  s1 : ∀ k, S k → B ≤ k ∧ k < w.heap.size ∧ k ≠ rb ∧ lv.ownBlock ≠ some k ∧ pv.ownBlock ≠ some k
structure RB (S : Nat → Prop) (w : World) (B rb : Nat) (l : List Seg) (t : Str) (es : List (List Str)) (cs : List Str) (p q : Str) (lv pv ev cv : Value) (xs ys : List Value) : Prop where
  hB : B ≤ rb
  r : w.heap[rb]? = some (.cells #[lv, pv] 215 (0, 0))
  hp : OwnS w B pv q
  hl : w.ownsRow B 94 2 lv (l.length + 1) (segCells l xs ++ [sv t, ev])
  xl : xs.length = l.length
  old : ∀ (i : Nat) (s : Seg) (x : Value), l[i]? = some s → xs[i]? = some x → ElemsO S B w x s.elems
  he : w.ownsRow B 58 1 ev (es.length + 1) (ys ++ [cv])
  yl : ys.length = es.length
  ye : ∀ (i : Nat) (e : List Str) (y : Value), es[i]? = some e → ys[i]? = some y → CompsO S B w y e
  hc : w.ownsRow B 9 1 cv (cs.length + 1) ((cs ++ [p]).map sv)
  s1 : ∀ k, S k → B ≤ k ∧ k < w.heap.size ∧ k ≠ rb ∧ lv.ownBlock ≠ some k ∧ pv.ownBlock ≠ some k ∧ ev.ownBlock ≠ some k ∧ cv.ownBlock ≠ some k
section
variable {S : Nat → Prop} {w w' : World} {B rb : Nat} {l : List Seg} {t : Str} {es : List (List Str)} {cs : List Str} {p q : Str} {lv pv ev cv : Value} {xs ys : List Value}
theorem RA.lt (h : RA S w B rb l lv pv xs p) : rb < w.heap.size := (Array.getElem?_eq_some_iff.1 h.r).1
theorem RB.lt (h : RB S w B rb l t es cs p q lv pv ev cv xs ys) : rb < w.heap.size := (Array.getElem?_eq_some_iff.1 h.r).1
theorem RA.c0 (h : RA S w B rb l lv pv xs p) : w.cell? ⟨rb, 0, none⟩ = some lv := by rw [cell_of_row w rb 0 _ _ _ h.r]; rfl
theorem RA.c1 (h : RA S w B rb l lv pv xs p) : w.cell? ⟨rb, 1, none⟩ = some pv := by rw [cell_of_row w rb 1 _ _ _ h.r]; rfl
theorem RA.fz (h : RA S w B rb l lv pv xs p) (j : Nat) : w.frozen? ⟨rb, j, none⟩ = false := frozen_of_row w rb j _ _ h.r
theorem RB.c0 (h : RB S w B rb l t es cs p q lv pv ev cv xs ys) : w.cell? ⟨rb, 0, none⟩ = some lv := by rw [cell_of_row w rb 0 _ _ _ h.r]; rfl
theorem RB.c1 (h : RB S w B rb l t es cs p q lv pv ev cv xs ys) : w.cell? ⟨rb, 1, none⟩ = some pv := by rw [cell_of_row w rb 1 _ _ _ h.r]; rfl
theorem RB.fz (h : RB S w B rb l t es cs p q lv pv ev cv xs ys) (j : Nat) : w.frozen? ⟨rb, j, none⟩ = false := frozen_of_row w rb j _ _ h.r
theorem own_neR {rb : Nat} {C : Array Value} {f : Nat × Nat} {e : TypeId} {s n : Nat} {v : Value} {zs : List Value} (hr : w.heap[rb]? = some (.cells C 215 f)) (h : w.ownsRow B e s v n zs) (he : e ≠ 215) : v.ownBlock ≠ some rb := fun hk => by
  obtain ⟨D, h1, _⟩ := own_ty h hk
  exact ty_ne h1 hr he rfl
theorem RA.keep (h : RA S w B rb l lv pv xs p) (hs : w.heap.size ≤ w'.heap.size) (e : ∀ k, k < w.heap.size → B ≤ k → w'.heap[k]? = w.heap[k]?) : RA S w' B rb l lv pv xs p := by
  refine ⟨h.hB, (e rb h.lt h.hB).trans h.r, own_cong h.hp (fun k hk => e k (own_lt h.hp hk).2 (own_lt h.hp hk).1), own_cong h.hl (fun k hk => e k (own_lt h.hl hk).2 (own_lt h.hl hk).1), h.xl, fun i s x a b => (h.hes i s x a b).cong (fun _ hk => hk) (fun k hk => e k (h.s1 k hk).2.1 (h.s1 k hk).1), fun k hk => ?_⟩
  obtain ⟨a, b, c⟩ := h.s1 k hk
  exact ⟨a, by omega, c⟩
theorem RB.keep (h : RB S w B rb l t es cs p q lv pv ev cv xs ys) (hs : w.heap.size ≤ w'.heap.size) (e : ∀ k, k < w.heap.size → B ≤ k → w'.heap[k]? = w.heap[k]?) : RB S w' B rb l t es cs p q lv pv ev cv xs ys := by
  refine ⟨h.hB, (e rb h.lt h.hB).trans h.r, own_cong h.hp (fun k hk => e k (own_lt h.hp hk).2 (own_lt h.hp hk).1), own_cong h.hl (fun k hk => e k (own_lt h.hl hk).2 (own_lt h.hl hk).1), h.xl, fun i s x a b => (h.old i s x a b).cong (fun _ hk => hk) (fun k hk => e k (h.s1 k hk).2.1 (h.s1 k hk).1),
    own_cong h.he (fun k hk => e k (own_lt h.he hk).2 (own_lt h.he hk).1), h.yl, fun i s x a b => (h.ye i s x a b).cong (fun _ hk => hk) (fun k hk => e k (h.s1 k hk).2.1 (h.s1 k hk).1), own_cong h.hc (fun k hk => e k (own_lt h.hc hk).2 (own_lt h.hc hk).1), fun k hk => ?_⟩
  obtain ⟨a, b, c⟩ := h.s1 k hk
  exact ⟨a, by omega, c⟩
theorem RA.fr0 (h : RA S w B rb l lv pv xs p) (hf : Fr [] w w') : RA S w' B rb l lv pv xs p := h.keep hf.size (fun k hk _ => hf.block k hk (by simp))
theorem RB.fr0 (h : RB S w B rb l t es cs p q lv pv ev cv xs ys) (hf : Fr [] w w') : RB S w' B rb l t es cs p q lv pv ev cv xs ys := h.keep hf.size (fun k hk _ => hf.block k hk (by simp))
theorem RA.part (h : RA S w B rb l lv pv xs p) : RA S (w.setCell ⟨rb, 1, none⟩ (.slice none 0 0)) B rb l lv (.slice none 0 0) xs [] := by
  have e : ∀ k, k ≠ rb → (w.setCell ⟨rb, 1, none⟩ (.slice none 0 0)).heap[k]? = w.heap[k]? := fun k hk => heap_setCell_other w _ _ _ hk
  refine ⟨h.hB, by rw [heap_setCell_same w rb 1 _ _ _ h.r]; rfl, World.ownsRow_nil _ _ _ _, own_cong h.hl (fun k hk => e k (fun e => own_neR h.r h.hl (by decide) (e ▸ hk))), h.xl, fun i s x a b => (h.hes i s x a b).cong (fun _ hk => hk) (fun k hk => e k (h.s1 k hk).2.2.1), fun k hk => ?_⟩
  obtain ⟨a, b, c, d, _⟩ := h.s1 k hk
  exact ⟨a, by simpa using b, c, d, by simp [Value.ownBlock]⟩
theorem RB.part (h : RB S w B rb l t es cs p q lv pv ev cv xs ys) : RB S (w.setCell ⟨rb, 1, none⟩ (.slice none 0 0)) B rb l t es cs p [] lv (.slice none 0 0) ev cv xs ys := by
  have e : ∀ k, k ≠ rb → (w.setCell ⟨rb, 1, none⟩ (.slice none 0 0)).heap[k]? = w.heap[k]? := fun k hk => heap_setCell_other w _ _ _ hk
  refine ⟨h.hB, by rw [heap_setCell_same w rb 1 _ _ _ h.r]; rfl, World.ownsRow_nil _ _ _ _, own_cong h.hl (fun k hk => e k (fun e => own_neR h.r h.hl (by decide) (e ▸ hk))), h.xl, fun i s x a b => (h.old i s x a b).cong (fun _ hk => hk) (fun k hk => e k (h.s1 k hk).2.2.1),
    own_cong h.he (fun k hk => e k (fun e => own_neR h.r h.he (by decide) (e ▸ hk))), h.yl, fun i s x a b => (h.ye i s x a b).cong (fun _ hk => hk) (fun k hk => e k (h.s1 k hk).2.2.1), own_cong h.hc (fun k hk => e k (fun e => own_neR h.r h.hc (by decide) (e ▸ hk))), fun k hk => ?_⟩
  obtain ⟨a, b, c, d, _, f⟩ := h.s1 k hk
  exact ⟨a, by simpa using b, c, d, by simp [Value.ownBlock], f⟩
theorem RA.newseg {w1 : World} {o : Obj} {lv' : Value} (h : RA S w B rb l lv pv xs p) (hg : (w.alloc o).grownBy w1 lv.ownBlock) (hl : w1.ownsRow B 94 2 lv' (l.length + 1) (segCells l xs ++ [sv [], .slice none 0 0])) (hk : lv'.ownBlock = lv.ownBlock ∨ lv'.ownBlock = some (w.alloc o).heap.size) :
    RA S (w1.setCell ⟨rb, 0, none⟩ lv') B rb (l ++ [⟨[], []⟩]) lv' pv (xs ++ [.slice none 0 0]) p := by
  have hsz := hg.size
  have hrb := h.lt
  have e1 : ∀ k, k < w.heap.size → lv.ownBlock ≠ some k → w1.heap[k]? = w.heap[k]? := fun k hk hn => (hg.block k (by simp; omega) (fun e => hn e.symm)).trans (Below.heap_alloc _ _ _ hk)
  have e : ∀ k, k < w.heap.size → lv.ownBlock ≠ some k → k ≠ rb → (w1.setCell ⟨rb, 0, none⟩ lv').heap[k]? = w.heap[k]? := fun k hk hn hr => (heap_setCell_other w1 _ _ _ hr).trans (e1 k hk hn)
  have nlr := own_neR h.r h.hl (by decide)
  have npr := own_neR h.r h.hp (by decide)
  simp at hsz hk
  refine ⟨h.hB, by rw [heap_setCell_same w1 rb 0 _ _ _ ((e1 rb hrb nlr).trans h.r)]; rfl, own_cong h.hp (fun k hk => e k (own_lt h.hp hk).2 (own_ne h.hp h.hl (by decide) hk) (fun e => npr (e ▸ hk))), ?_, by simp [h.xl], fun i s x a b => ?_, fun k hS => ?_⟩
  · rw [List.length_append, List.length_singleton, segCells_app _ _ _ _ h.xl]
    refine own_cong hl (fun k hk' => heap_setCell_other w1 _ _ _ (fun e => ?_))
    subst e
    rcases hk with hk | hk
    · exact nlr (hk ▸ hk')
    · rw [hk] at hk'; have := Option.some.inj hk'; omega
  · rcases Nat.lt_or_ge i l.length with hi | hi
    · rw [List.getElem?_append_left hi] at a
      rw [List.getElem?_append_left (by rw [h.xl]; exact hi)] at b
      exact (h.hes i s x a b).cong (fun _ hk => hk) (fun k hk => e k (h.s1 k hk).2.1 (h.s1 k hk).2.2.2.1 (h.s1 k hk).2.2.1)
    · rw [List.getElem?_append_right hi] at a
      rw [List.getElem?_append_right (by rw [h.xl]; exact hi), h.xl] at b
      have h0 : i - l.length = 0 := by have := (List.getElem?_eq_some_iff.1 a).1; simp at this; omega
      rw [h0] at a b
      simp at a b
      subst a; subst b
      exact ElemsO.nil _ _ _
  · obtain ⟨a, b, c, d, f⟩ := h.s1 k hS
    refine ⟨a, by simp; omega, c, fun e => ?_, f⟩
    rcases hk with hk | hk
    · exact d (hk ▸ e)
    · rw [hk] at e; have := Option.some.inj e; omega
theorem RA.fr_newseg {w1 : World} {o : Obj} {lv' : Value} (h : RA S w B rb l lv pv xs p) (hg : (w.alloc o).grownBy w1 lv.ownBlock) (hB : B ≤ w.heap.size) : Below B w (w1.setCell ⟨rb, 0, none⟩ lv') := by
  have hh := h.hB
  exact ((((Below.refl B w).alloc hB o).grown hg (by simp; omega) (fun k hk => (own_lt h.hl hk).1))).setCell hh lv'
end
end Go.Proofs.YtgfijlamhjjecaaGreatDoor


namespace Go.Proofs.YtgfijlamhjjecaaGreatDoor
open Go.RowKit
section
variable {S : Nat → Prop} {w w' : World} {B rb : Nat} {l : List Seg} {t : Str} {es : List (List Str)} {cs : List Str} {p q : Str} {lv pv ev cv : Value} {xs ys : List Value}
theorem set_end {α : Type} (l : List α) (a b : α) (r : List α) : (l ++ a :: r).set l.length b = l ++ b :: r := by
  induction l with
  | nil => rfl
  | cons c l ih => simp only [List.cons_append, List.length_cons, List.set_cons_succ, ih]
theorem set_end1 {α : Type} (l : List α) (x a b : α) (r : List α) : (l ++ x :: a :: r).set (l.length + 1) b = l ++ x :: b :: r := by
  simp
theorem snoc_of {α : Type} {l : List α} {n : Nat} (h : l.length = n + 1) : ∃ l0 a, l = l0 ++ [a] ∧ l0.length = n := by
  have hne : l ≠ [] := by intro e; rw [e] at h; simp at h
  exact ⟨l.dropLast, l.getLast hne, (List.dropLast_concat_getLast hne).symm, by simp; omega⟩
theorem RA.top {s : Seg} (h : RA S w B rb (l ++ [s]) lv pv xs p) : ∃ g cap x xs0, lv = .slice (some ⟨g, 0, none⟩) (l.length + 1) cap ∧ l.length + 1 ≤ cap ∧ cap ≤ maxLen ∧ xs = xs0 ++ [x] ∧ xs0.length = l.length ∧ w.cell? ⟨g, l.length * 2, none⟩ = some (sv s.tag) ∧ w.cell? ⟨g, l.length * 2 + 1, none⟩ = some x ∧ w.frozen? ⟨g, l.length * 2, none⟩ = false ∧ w.frozen? ⟨g, l.length * 2 + 1, none⟩ = false ∧ ElemsO S B w x s.elems := by
  have hl := h.hl
  rw [List.length_append, List.length_singleton] at hl
  obtain ⟨g, cap, cur, rfl, hg, hh, hc, hm, _, _⟩ := own_form hl (by omega) (by omega)
  have hx := h.xl
  rw [List.length_append, List.length_singleton] at hx
  obtain ⟨xs0, x, rfl, hdl⟩ := snoc_of hx
  have hgx : (xs0 ++ [x])[l.length]? = some x := by rw [List.getElem?_append_right (by omega), hdl]; simp
  have key := segCells_get (l ++ [s]) (xs0 ++ [x]) l.length s x (by simp) hgx
  refine ⟨g, cap, x, xs0, rfl, hc, hm, rfl, hdl, own_cell hl key.1, own_cell hl key.2, own_frozen hl _, own_frozen hl _, h.hes l.length s _ (by simp) hgx⟩
theorem RA.settag {t t' : Str} {g cap : Nat} (h : RA S w B rb (l ++ [⟨t, []⟩]) (.slice (some ⟨g, 0, none⟩) (l.length + 1) cap) pv xs p) : RA S (w.setCell ⟨g, l.length * 2, none⟩ (sv t')) B rb (l ++ [⟨t', []⟩]) (.slice (some ⟨g, 0, none⟩) (l.length + 1) cap) pv xs p := by
  have hl := h.hl
  obtain ⟨g', cap', x, xs0, he, _, _, rfl, hx0, _⟩ := h.top
  cases he
  rw [List.length_append, List.length_singleton] at hl
  have e : ∀ k, k ≠ g → (w.setCell ⟨g, l.length * 2, none⟩ (sv t')).heap[k]? = w.heap[k]? := fun k hk => heap_setCell_other w _ _ _ hk
  have ngr : rb ≠ g := fun e => own_neR h.r hl (by decide) (by rw [e]; rfl)
  have hlen := segCells_len l xs0 hx0
  have hset := own_set hl (j := l.length * 2) (by rw [segCells_app _ _ _ _ hx0, List.length_append, hlen]; simp [segCells]) (sv t')
  have hse : (segCells (l ++ [⟨t, []⟩]) (xs0 ++ [x])).set (l.length * 2) (sv t') = segCells (l ++ [⟨t', []⟩]) (xs0 ++ [x]) := by
    rw [segCells_app _ _ _ _ hx0, segCells_app _ _ _ _ hx0, ← hlen]
    exact set_end _ _ _ _
  rw [hse] at hset
  refine ⟨h.hB, (e rb ngr).trans h.r, own_cong h.hp (fun k hk => e k (fun e => own_ne h.hp hl (by decide) hk (by rw [e]; rfl))), by rw [List.length_append, List.length_singleton]; exact hset, by simp [hx0], fun i s y a b => ?_, fun k hk => ?_⟩
  · have hes : ElemsO S B w y s.elems := by
      rcases Nat.lt_or_ge i l.length with hi | hi
      · exact h.hes i s y (by rw [List.getElem?_append_left hi] at a ⊢; exact a) b
      · have h0 : i = l.length := by have := (List.getElem?_eq_some_iff.1 a).1; simp at this; omega
        subst h0
        have := h.hes l.length ⟨t, []⟩ y (by simp) b
        simp at a
        subst a
        exact this
    exact hes.cong (fun _ hk => hk) (fun k hk => e k (fun e => (h.s1 k hk).2.2.2.1 (by rw [e]; rfl)))
  · obtain ⟨a, b, c⟩ := h.s1 k hk
    exact ⟨a, by simpa using b, c⟩
theorem RB.close (h : RB S w B rb l t es cs p q lv pv ev cv xs ys) : RA (fun k => S k ∨ ev.ownBlock = some k ∨ cv.ownBlock = some k) w B rb (l ++ [⟨t, es ++ [cs ++ [p]]⟩]) lv pv (xs ++ [ev]) q := by
  refine ⟨h.hB, h.r, h.hp, by rw [List.length_append, List.length_singleton, segCells_app _ _ _ _ h.xl]; exact h.hl, by simp [h.xl], fun i s x a b => ?_, fun k hk => ?_⟩
  · rcases Nat.lt_or_ge i l.length with hi | hi
    · rw [List.getElem?_append_left hi] at a
      rw [List.getElem?_append_left (by rw [h.xl]; exact hi)] at b
      exact (h.old i s x a b).cong (fun _ hk => .inl hk) (fun _ _ => rfl)
    · have h0 : i = l.length := by have := (List.getElem?_eq_some_iff.1 a).1; simp at this; omega
      subst h0
      rw [List.getElem?_append_right (by rw [h.xl]; exact Nat.le_refl _), h.xl, Nat.sub_self] at b
      simp at a b
      subst a; subst b
      refine ⟨ys ++ [cv], (by have := h.he; rw [List.length_append, List.length_singleton]; exact this), (fun k hk => .inr (.inl hk)), by simp [h.yl], fun i e y a b => ?_⟩
      rcases Nat.lt_or_ge i es.length with hi | hi
      · rw [List.getElem?_append_left hi] at a
        rw [List.getElem?_append_left (by rw [h.yl]; exact hi)] at b
        exact (h.ye i e y a b).cong (fun _ hk => .inl hk) (fun _ _ => rfl)
      · have h0 : i = es.length := by have := (List.getElem?_eq_some_iff.1 a).1; simp at this; omega
        subst h0
        rw [List.getElem?_append_right (by rw [h.yl]; exact Nat.le_refl _), h.yl, Nat.sub_self] at b
        simp at a b
        subst a; subst b
        exact ⟨by have := h.hc; rw [List.length_append, List.length_singleton]; exact this, fun k hk => .inr (.inr hk)⟩
  · rcases hk with hk | hk | hk
    · obtain ⟨a, b, c, d, e, _⟩ := h.s1 k hk
      exact ⟨a, b, c, d, e⟩
    · obtain ⟨a, b⟩ := own_lt h.he hk
      exact ⟨a, b, fun e => own_neR h.r h.he (by decide) (e ▸ hk), own_ne h.he h.hl (by decide) hk, own_ne h.he h.hp (by decide) hk⟩
    · obtain ⟨a, b⟩ := own_lt h.hc hk
      exact ⟨a, b, fun e => own_neR h.r h.hc (by decide) (e ▸ hk), own_ne h.hc h.hl (by decide) hk, own_ne h.hc h.hp (by decide) hk⟩
theorem RB.tops (h : RB S w B rb l t es cs p q lv pv ev cv xs ys) : ∃ g c1 b c2 d c3, lv = .slice (some ⟨g, 0, none⟩) (l.length + 1) c1 ∧ ev = .slice (some ⟨b, 0, none⟩) (es.length + 1) c2 ∧ cv = .slice (some ⟨d, 0, none⟩) (cs.length + 1) c3 ∧
    l.length + 1 ≤ c1 ∧ c1 ≤ maxLen ∧ es.length + 1 ≤ c2 ∧ c2 ≤ maxLen ∧ cs.length + 1 ≤ c3 ∧ c3 ≤ maxLen ∧
    w.cell? ⟨g, l.length * 2, none⟩ = some (sv t) ∧ w.cell? ⟨g, l.length * 2 + 1, none⟩ = some ev ∧ w.frozen? ⟨g, l.length * 2 + 1, none⟩ = false ∧ w.cell? ⟨b, es.length, none⟩ = some cv ∧ w.frozen? ⟨b, es.length, none⟩ = false ∧ w.cell? ⟨d, cs.length, none⟩ = some (sv p) ∧ w.frozen? ⟨d, cs.length, none⟩ = false := by
  have hl := h.hl
  have he := h.he
  have hc := h.hc
  obtain ⟨g, c1, cur, rfl, _, _, a1, a2, _⟩ := own_form hl (by omega) (by omega)
  obtain ⟨b, c2, cur2, rfl, _, _, b1, b2, _⟩ := own_form he (by omega) (by omega)
  obtain ⟨d, c3, cur3, rfl, _, _, d1, d2, _⟩ := own_form hc (by omega) (by omega)
  have hlen := segCells_len l xs h.xl
  refine ⟨g, c1, b, c2, d, c3, rfl, rfl, rfl, a1, a2, b1, b2, d1, d2, own_cell hl ?_, own_cell hl ?_, own_frozen hl _, own_cell he ?_, own_frozen he _, own_cell hc ?_, own_frozen hc _⟩
  · rw [List.getElem?_append_right (by omega), hlen, Nat.sub_self]; rfl
  · rw [List.getElem?_append_right (by omega), hlen, show l.length * 2 + 1 - l.length * 2 = 1 by omega]; rfl
  · rw [List.getElem?_append_right (by rw [h.yl]; exact Nat.le_refl _), h.yl, Nat.sub_self]; rfl
  · rw [List.map_append, List.getElem?_append_right (by simp), List.length_map, Nat.sub_self]; rfl
end
end Go.Proofs.YtgfijlamhjjecaaGreatDoor


namespace Go.Proofs.YtgfijlamhjjecaaGreatDoor
open Go.RowKit
theorem blk_ag {w w1 : World} {o : Obj} {row : Option Nat} (hg : (w.alloc o).grownBy w1 row) {k : Nat} (hk : k < w.heap.size) (hn : row ≠ some k) : w1.heap[k]? = w.heap[k]? :=
  (hg.block k (by simp; omega) (fun e => hn e.symm)).trans (Below.heap_alloc _ _ _ hk)
theorem blk_ag2 {w w1 : World} {o o' : Obj} {row : Option Nat} (hg : ((w.alloc o).alloc o').grownBy w1 row) {k : Nat} (hk : k < w.heap.size) (hn : row ≠ some k) : w1.heap[k]? = w.heap[k]? :=
  (hg.block k (by simp; omega) (fun e => hn e.symm)).trans ((Below.heap_alloc _ _ _ (by simp; omega)).trans (Below.heap_alloc _ _ _ hk))
section
variable {S : Nat → Prop} {w w' : World} {B rb : Nat} {l : List Seg} {t : Str} {es : List (List Str)} {cs : List Str} {p q : Str} {lv pv ev cv : Value} {xs ys : List Value}
theorem RB.grow {w1 : World} {o : Obj} {pv' : Value} {q' : Str} (h : RB S w B rb l t es cs p q lv pv ev cv xs ys) (hg : (w.alloc o).grownBy w1 pv.ownBlock) (hp' : OwnS w1 B pv' q') (hk : pv'.ownBlock = pv.ownBlock ∨ pv'.ownBlock = some (w.heap.size + 1)) :
    RB S (w1.setCell ⟨rb, 1, none⟩ pv') B rb l t es cs p q' lv pv' ev cv xs ys := by
  have hsz := hg.size
  have hrb := h.lt
  have npr := own_neR h.r h.hp (by decide)
  have e : ∀ k, k < w.heap.size → pv.ownBlock ≠ some k → k ≠ rb → (w1.setCell ⟨rb, 1, none⟩ pv').heap[k]? = w.heap[k]? := fun k hk hn hr => (heap_setCell_other w1 _ _ _ hr).trans (blk_ag hg hk hn)
  simp at hsz
  have own : ∀ {T : TypeId} {s n : Nat} {v : Value} {zs : List Value}, w.ownsRow B T s v n zs → T ≠ 5 → T ≠ 215 → (w1.setCell ⟨rb, 1, none⟩ pv').ownsRow B T s v n zs := fun ho h1 h2 =>
    own_cong ho (fun k hk => e k (own_lt ho hk).2 (own_ne ho h.hp h1 hk) (fun e => own_neR h.r ho h2 (e ▸ hk)))
  refine ⟨h.hB, by rw [heap_setCell_same w1 rb 1 _ _ _ ((blk_ag hg hrb npr).trans h.r)]; rfl, own_cong hp' (fun k hk' => heap_setCell_other w1 _ _ _ (fun e => ?_)), own h.hl (by decide) (by decide), h.xl, fun i s x a b => (h.old i s x a b).cong (fun _ hk => hk) (fun k hk => e k (h.s1 k hk).2.1 (h.s1 k hk).2.2.2.2.1 (h.s1 k hk).2.2.1),
    own h.he (by decide) (by decide), h.yl, fun i s x a b => (h.ye i s x a b).cong (fun _ hk => hk) (fun k hk => e k (h.s1 k hk).2.1 (h.s1 k hk).2.2.2.2.1 (h.s1 k hk).2.2.1), own h.hc (by decide) (by decide), fun k hS => ?_⟩
  · subst e
    rcases hk with hk | hk
    · exact npr (hk ▸ hk')
    · rw [hk] at hk'; have := Option.some.inj hk'; omega
  · obtain ⟨a, b, c, d, f, g⟩ := h.s1 k hS
    refine ⟨a, by simp; omega, c, d, fun e => ?_, g⟩
    rcases hk with hk | hk
    · exact f (hk ▸ e)
    · rw [hk] at e; have := Option.some.inj e; omega
theorem RB.setlast {d c3 : Nat} {p' : Str} (h : RB S w B rb l t es cs p q lv pv ev (.slice (some ⟨d, 0, none⟩) (cs.length + 1) c3) xs ys) : RB S (w.setCell ⟨d, cs.length, none⟩ (sv p')) B rb l t es cs p' q lv pv ev (.slice (some ⟨d, 0, none⟩) (cs.length + 1) c3) xs ys := by
  have e : ∀ k, k ≠ d → (w.setCell ⟨d, cs.length, none⟩ (sv p')).heap[k]? = w.heap[k]? := fun k hk => heap_setCell_other w _ _ _ hk
  have own : ∀ {T : TypeId} {s n : Nat} {v : Value} {zs : List Value}, w.ownsRow B T s v n zs → T ≠ 9 → (w.setCell ⟨d, cs.length, none⟩ (sv p')).ownsRow B T s v n zs := fun ho h1 =>
    own_cong ho (fun k hk => e k (fun e => own_ne ho h.hc h1 hk (by rw [e]; rfl)))
  have hset := own_set h.hc (j := cs.length) (by simp) (sv p')
  have hse : ((cs ++ [p]).map sv).set cs.length (sv p') = (cs ++ [p']).map sv := by
    rw [List.map_append, List.map_append]
    have h1 := set_end (cs.map sv) (sv p) (sv p') []
    rw [List.length_map] at h1
    exact h1
  rw [hse] at hset
  refine ⟨h.hB, (e rb (fun e => own_neR h.r h.hc (by decide) (by rw [e]; rfl))).trans h.r, own h.hp (by decide), own h.hl (by decide), h.xl, fun i s x a b => (h.old i s x a b).cong (fun _ hk => hk) (fun k hk => e k (fun e => (h.s1 k hk).2.2.2.2.2.2 (by rw [e]; rfl))),
    own h.he (by decide), h.yl, fun i s x a b => (h.ye i s x a b).cong (fun _ hk => hk) (fun k hk => e k (fun e => (h.s1 k hk).2.2.2.2.2.2 (by rw [e]; rfl))), hset, fun k hS => ?_⟩
  obtain ⟨a, b, c⟩ := h.s1 k hS
  exact ⟨a, by simpa using b, c⟩
theorem RB.colon {w1 : World} {o : Obj} {b c2 : Nat} {cv' : Value} (h : RB S w B rb l t es cs p q lv pv (.slice (some ⟨b, 0, none⟩) (es.length + 1) c2) cv xs ys) (hg : (w.alloc o).grownBy w1 cv.ownBlock) (hc' : w1.ownsRow B 9 1 cv' (cs.length + 1 + 1) ((cs ++ [p]).map sv ++ [sv []])) (hk : cv'.ownBlock = cv.ownBlock ∨ cv'.ownBlock = some (w.heap.size + 1)) :
    RB S (w1.setCell ⟨b, es.length, none⟩ cv') B rb l t es (cs ++ [p]) [] q lv pv (.slice (some ⟨b, 0, none⟩) (es.length + 1) c2) cv' xs ys := by
  have hsz := hg.size
  have hrb := h.lt
  simp at hsz
  have hbl := own_lt h.he (k := b) rfl
  have ncb : cv.ownBlock ≠ some b := fun e => own_ne h.hc h.he (by decide) e rfl
  have ncr := own_neR h.r h.hc (by decide)
  have e1 : ∀ k, k < w.heap.size → cv.ownBlock ≠ some k → w1.heap[k]? = w.heap[k]? := fun k hk hn => blk_ag hg hk hn
  have e : ∀ k, k < w.heap.size → cv.ownBlock ≠ some k → k ≠ b → (w1.setCell ⟨b, es.length, none⟩ cv').heap[k]? = w.heap[k]? := fun k hk hn hr => (heap_setCell_other w1 _ _ _ hr).trans (e1 k hk hn)
  have own : ∀ {T : TypeId} {s n : Nat} {v : Value} {zs : List Value}, w.ownsRow B T s v n zs → T ≠ 9 → T ≠ 58 → (w1.setCell ⟨b, es.length, none⟩ cv').ownsRow B T s v n zs := fun ho h1 h2 =>
    own_cong ho (fun k hk => e k (own_lt ho hk).2 (own_ne ho h.hc h1 hk) (fun e => own_ne ho h.he h2 hk (by rw [e]; rfl)))
  have he1 : w1.ownsRow B 58 1 (.slice (some ⟨b, 0, none⟩) (es.length + 1) c2) (es.length + 1) (ys ++ [cv]) := own_cong h.he (fun k hk => by cases hk; exact e1 b hbl.2 ncb)
  have hset := own_set he1 (j := es.length) (by simp [h.yl]) cv'
  have hse : (ys ++ [cv]).set es.length cv' = ys ++ [cv'] := by
    have h1 := set_end ys cv cv' []
    rw [h.yl] at h1; exact h1
  rw [hse] at hset
  refine ⟨h.hB, (e rb hrb ncr (fun e => own_neR h.r h.he (by decide) (by rw [e]; rfl))).trans h.r, own h.hp (by decide) (by decide), own h.hl (by decide) (by decide), h.xl, fun i s x a b => (h.old i s x a b).cong (fun _ hk => hk) (fun k hk => e k (h.s1 k hk).2.1 (h.s1 k hk).2.2.2.2.2.2 (fun e => (h.s1 k hk).2.2.2.2.2.1 (by rw [e]; rfl))),
    hset, h.yl, fun i s x a b => (h.ye i s x a b).cong (fun _ hk => hk) (fun k hk => e k (h.s1 k hk).2.1 (h.s1 k hk).2.2.2.2.2.2 (fun e => (h.s1 k hk).2.2.2.2.2.1 (by rw [e]; rfl))), ?_, fun k hS => ?_⟩
  · rw [List.length_append, List.length_singleton, List.map_append]
    refine own_cong hc' (fun k hk' => heap_setCell_other w1 _ _ _ (fun e => ?_))
    have e' : k = b := e
    rw [e'] at hk'
    rcases hk with hk | hk
    · exact ncb (hk ▸ hk')
    · rw [hk] at hk'; have h1 := Option.some.inj hk'; omega
  · obtain ⟨a, b', c, d, f, g, i⟩ := h.s1 k hS
    refine ⟨a, by simp; omega, c, d, f, g, fun e => ?_⟩
    rcases hk with hk | hk
    · exact i (hk ▸ e)
    · rw [hk] at e; have := Option.some.inj e; omega
theorem RB.next {w1 : World} {g c1 : Nat} {ev' : Value} {o o' : Obj} (ho : o = .cells #[sv []] 9 (0, 0)) (_ho' : o' = .cells #[.slice (some ⟨w.heap.size, 0, none⟩) 1 1] 58 (0, 0)) (h : RB S w B rb l t es cs p q (.slice (some ⟨g, 0, none⟩) (l.length + 1) c1) pv ev cv xs ys) (hB : B ≤ w.heap.size) (hg : ((w.alloc o).alloc o').grownBy w1 ev.ownBlock)
    (he' : w1.ownsRow B 58 1 ev' (es.length + 1 + 1) (ys ++ [cv] ++ [.slice (some ⟨w.heap.size, 0, none⟩) 1 1])) (hk : ev'.ownBlock = ev.ownBlock ∨ ev'.ownBlock = some (w.heap.size + 2)) :
    RB (fun k => S k ∨ cv.ownBlock = some k) (w1.setCell ⟨g, l.length * 2 + 1, none⟩ ev') B rb l t (es ++ [cs ++ [p]]) [] [] q (.slice (some ⟨g, 0, none⟩) (l.length + 1) c1) pv ev' (.slice (some ⟨w.heap.size, 0, none⟩) 1 1) xs (ys ++ [cv]) := by
  have hsz := hg.size
  have hrb := h.lt
  simp at hsz
  have hgl := own_lt h.hl (k := g) rfl
  have neg : ev.ownBlock ≠ some g := fun e => own_ne h.he h.hl (by decide) e rfl
  have ner := own_neR h.r h.he (by decide)
  have e1 : ∀ k, k < w.heap.size → ev.ownBlock ≠ some k → w1.heap[k]? = w.heap[k]? := fun k hk hn => blk_ag2 hg hk hn
  have e : ∀ k, k < w.heap.size → ev.ownBlock ≠ some k → k ≠ g → (w1.setCell ⟨g, l.length * 2 + 1, none⟩ ev').heap[k]? = w.heap[k]? := fun k hk hn hr => (heap_setCell_other w1 _ _ _ hr).trans (e1 k hk hn)
  have own : ∀ {T : TypeId} {s n : Nat} {v : Value} {zs : List Value}, w.ownsRow B T s v n zs → T ≠ 58 → T ≠ 94 → (w1.setCell ⟨g, l.length * 2 + 1, none⟩ ev').ownsRow B T s v n zs := fun ho h1 h2 =>
    own_cong ho (fun k hk => e k (own_lt ho hk).2 (own_ne ho h.he h1 hk) (fun e => own_ne ho h.hl h2 hk (by rw [e]; rfl)))
  have hl1 := own_cong h.hl (w' := w1) (fun k hk => by cases hk; exact e1 g hgl.2 neg)
  have hlen := segCells_len l xs h.xl
  have hset := own_set hl1 (j := l.length * 2 + 1) (by rw [List.length_append, hlen]; show l.length * 2 + 1 < l.length * 2 + 2; omega) ev'
  have hse : (segCells l xs ++ [sv t, ev]).set (l.length * 2 + 1) ev' = segCells l xs ++ [sv t, ev'] := by
    have h1 := set_end1 (segCells l xs) (sv t) ev ev' []
    rw [hlen] at h1; exact h1
  rw [hse] at hset
  have hnew : (w1.setCell ⟨g, l.length * 2 + 1, none⟩ ev').heap[w.heap.size]? = some (.cells #[sv []] 9 (0, 0)) := by
    refine (heap_setCell_other w1 _ _ _ (by show w.heap.size ≠ g; omega)).trans ((hg.block w.heap.size (by simp; omega) (fun e => ?_)).trans ((Below.heap_alloc _ _ _ (by simp)).trans (by rw [ho]; exact heap_alloc_new _ _)))
    have := (own_lt h.he e.symm).2; omega
  have hcc : (w1.setCell ⟨g, l.length * 2 + 1, none⟩ ev').ownsRow B 9 1 (.slice (some ⟨w.heap.size, 0, none⟩) 1 1) 1 [sv []] :=
    ⟨rfl, .inr ⟨w.heap.size, 1, _, rfl, hB, hnew, Nat.le_refl _, by unfold maxLen; omega, rfl, rfl⟩⟩
  refine ⟨h.hB, (e rb hrb ner (fun e => own_neR h.r h.hl (by decide) (by rw [e]; rfl))).trans h.r, own h.hp (by decide) (by decide), hset, h.xl, fun i s x a b => (h.old i s x a b).cong (fun _ hk => .inl hk) (fun k hk => e k (h.s1 k hk).2.1 (h.s1 k hk).2.2.2.2.2.1 (fun e => (h.s1 k hk).2.2.2.1 (by rw [e]; rfl))),
    ?_, by simp [h.yl], fun i f y a b => ?_, hcc, fun k hS => ?_⟩
  · rw [List.length_append, List.length_singleton]
    refine own_cong he' (fun k hk' => heap_setCell_other w1 _ _ _ (fun e => ?_))
    have e' : k = g := e
    rw [e'] at hk'
    rcases hk with hk | hk
    · exact neg (hk ▸ hk')
    · rw [hk] at hk'; have h1 := Option.some.inj hk'; omega
  · rcases Nat.lt_or_ge i es.length with hi | hi
    · rw [List.getElem?_append_left hi] at a
      rw [List.getElem?_append_left (by rw [h.yl]; exact hi)] at b
      exact (h.ye i f y a b).cong (fun _ hk => .inl hk) (fun k hk => e k (h.s1 k hk).2.1 (h.s1 k hk).2.2.2.2.2.1 (fun e => (h.s1 k hk).2.2.2.1 (by rw [e]; rfl)))
    · have h0 : i = es.length := by have := (List.getElem?_eq_some_iff.1 a).1; simp at this; omega
      subst h0
      rw [List.getElem?_append_right (by rw [h.yl]; exact Nat.le_refl _), h.yl, Nat.sub_self] at b
      simp at a b
      subst a; subst b
      have hc2 := own h.hc (by decide) (by decide)
      exact ⟨by rw [List.length_append, List.length_singleton]; exact hc2, fun k hk => .inr hk⟩
  · rcases hS with hS | hS
    · obtain ⟨a, b', c, d, f, i, j⟩ := h.s1 k hS
      refine ⟨a, by simp; omega, c, d, f, fun e => ?_, fun e => ?_⟩
      · rcases hk with hk | hk
        · exact i (hk ▸ e)
        · rw [hk] at e; have := Option.some.inj e; omega
      · have h1 : w.heap.size = k := by simpa [Value.ownBlock] using e
        omega
    · obtain ⟨a, b'⟩ := own_lt h.hc hS
      refine ⟨a, by simp; omega, fun e => own_neR h.r h.hc (by decide) (e ▸ hS), own_ne h.hc h.hl (by decide) hS, own_ne h.hc h.hp (by decide) hS, fun e => ?_, fun e => ?_⟩
      · rcases hk with hk | hk
        · exact own_ne h.hc h.he (by decide) hS (hk ▸ e)
        · rw [hk] at e; have := Option.some.inj e; omega
      · have h1 : w.heap.size = k := by simpa [Value.ownBlock] using e
        omega
theorem RA.open {w1 : World} {g c1 : Nat} {ev' : Value} {o o' : Obj} {xs0 : List Value} (ho : o = .cells #[sv []] 9 (0, 0)) (_ho' : o' = .cells #[.slice (some ⟨w.heap.size, 0, none⟩) 1 1] 58 (0, 0)) (h : RA S w B rb (l ++ [⟨t, []⟩]) (.slice (some ⟨g, 0, none⟩) (l.length + 1) c1) pv (xs0 ++ [.slice none 0 0]) p) (hB : B ≤ w.heap.size) (hg : ((w.alloc o).alloc o').grownBy w1 none)
    (he' : w1.ownsRow B 58 1 ev' 1 [.slice (some ⟨w.heap.size, 0, none⟩) 1 1]) (hk : ev'.ownBlock = none ∨ ev'.ownBlock = some (w.heap.size + 2)) :
    RB S (w1.setCell ⟨g, l.length * 2 + 1, none⟩ ev') B rb l t [] [] [] p (.slice (some ⟨g, 0, none⟩) (l.length + 1) c1) pv ev' (.slice (some ⟨w.heap.size, 0, none⟩) 1 1) xs0 [] := by
  have hl := h.hl
  have hx0 : xs0.length = l.length := by have := h.xl; simpa using this
  rw [List.length_append, List.length_singleton, segCells_app _ _ _ _ hx0] at hl
  have hsz := hg.size
  have hrb := h.lt
  simp at hsz
  have hgl := own_lt hl (k := g) rfl
  have e1 : ∀ k, k < w.heap.size → w1.heap[k]? = w.heap[k]? := fun k hk => blk_ag2 hg hk (by simp)
  have e : ∀ k, k < w.heap.size → k ≠ g → (w1.setCell ⟨g, l.length * 2 + 1, none⟩ ev').heap[k]? = w.heap[k]? := fun k hk hr => (heap_setCell_other w1 _ _ _ hr).trans (e1 k hk)
  have hl1 := own_cong hl (w' := w1) (fun k hk => by cases hk; exact e1 g hgl.2)
  have hlen := segCells_len l xs0 hx0
  have hset := own_set hl1 (j := l.length * 2 + 1) (by rw [List.length_append, hlen]; show l.length * 2 + 1 < l.length * 2 + 2; omega) ev'
  have hse : (segCells l xs0 ++ segCells [⟨t, []⟩] [.slice none 0 0]).set (l.length * 2 + 1) ev' = segCells l xs0 ++ [sv t, ev'] := by
    have h1 := set_end1 (segCells l xs0) (sv t) (.slice none 0 0) ev' []
    rw [hlen] at h1; exact h1
  rw [hse] at hset
  have hnew : (w1.setCell ⟨g, l.length * 2 + 1, none⟩ ev').heap[w.heap.size]? = some (.cells #[sv []] 9 (0, 0)) :=
    (heap_setCell_other w1 _ _ _ (by show w.heap.size ≠ g; omega)).trans ((hg.block w.heap.size (by simp; omega) (by simp)).trans ((Below.heap_alloc _ _ _ (by simp)).trans (by rw [ho]; exact heap_alloc_new _ _)))
  have hcc : (w1.setCell ⟨g, l.length * 2 + 1, none⟩ ev').ownsRow B 9 1 (.slice (some ⟨w.heap.size, 0, none⟩) 1 1) 1 [sv []] :=
    ⟨rfl, .inr ⟨w.heap.size, 1, _, rfl, hB, hnew, Nat.le_refl _, by unfold maxLen; omega, rfl, rfl⟩⟩
  refine ⟨h.hB, (e rb hrb (fun e => own_neR h.r hl (by decide) (by rw [e]; rfl))).trans h.r, own_cong h.hp (fun k hk => e k (own_lt h.hp hk).2 (fun e => own_ne h.hp hl (by decide) hk (by rw [e]; rfl))), hset, hx0, fun i s x a b => ?_,
    ?_, rfl, fun i f y a b => by simp at a, hcc, fun k hS => ?_⟩
  · have hi : i < l.length := (List.getElem?_eq_some_iff.1 a).1
    have h1 := h.hes i s x (by rw [List.getElem?_append_left hi]; exact a) (by rw [List.getElem?_append_left (by omega)]; exact b)
    exact h1.cong (fun _ hk => hk) (fun k hk => e k (h.s1 k hk).2.1 (fun e => (h.s1 k hk).2.2.2.1 (by rw [e]; rfl)))
  · refine own_cong he' (fun k hk' => heap_setCell_other w1 _ _ _ (fun e => ?_))
    have e' : k = g := e
    rw [e'] at hk'
    rcases hk with hk | hk
    · rw [hk] at hk'; cases hk'
    · rw [hk] at hk'; have h1 := Option.some.inj hk'; omega
  · obtain ⟨a, b', c, d, f⟩ := h.s1 k hS
    refine ⟨a, by simp; omega, c, d, f, fun e => ?_, fun e => ?_⟩
    · rcases hk with hk | hk
      · rw [hk] at e; cases e
      · rw [hk] at e; have := Option.some.inj e; omega
    · have h1 : w.heap.size = k := by simpa [Value.ownBlock] using e
      omega
end
end Go.Proofs.YtgfijlamhjjecaaGreatDoor

