/-
  Texts EdiShelf, EdiY5, EdiJ, EdiK, EdiL, EdiN, EdiO, one behind the other. No condition beyond those stated in each.
-/
import Derived.Shelf.Strings.Builder1
import Derived.Shelf.Strings.Builder2
import Derived.Shelf.Strings.OnBuilder
import Derived.Shelf.Small.Strs
import Derived.Shelf.Strings.BuilderF
import Derived.Shelf.Strings.BuilderK
import Derived.Shelf.Utf8.RuneCount
import Derived.Shelf.Strings.Builder2Cap
import Derived.Shelf.Strconv.Itoa0
import Derived.Shelf.Strconv.Itoa1
import Derived.Shelf.LaysM
import Derived.Shelf.Strconv.Itoa2
import Derived.Shelf.Strconv.Itoa3
import Derived.Shelf.Strconv.Itoa4
import Derived.Shelf.Strconv.ParseIntEmpty
import Derived.Shelf.Strconv.Clone
import Derived.Shelf.Strconv.SyntaxError
import Derived.Shelf.LaysC
import Derived.Shelf.Strconv.ToError
import Derived.Shelf.Strconv.Lower
import Derived.Shelf.Strconv.ParseUint10
import Derived.Shelf.Strconv.ParseUint10Empty
import Derived.Shelf.Strconv.ParseUint10Any
import Derived.Shelf.Strconv.ParseInt10
import Derived.Shelf.Strconv.RangeError
import Derived.Shelf.Strconv.ToErrorRange
import Derived.Shelf.Strconv.ParseUintEmpty
import Derived.Shelf.Strconv.ParseUint10b64
import Derived.Shelf.Strconv.ParseUint10b32
import Derived.Shelf.Strconv.ParseUint10b16
import Derived.Shelf.Strconv.ParseUint10b8
import Derived.Shelf.Strconv.ParseUint10At
import Derived.Shelf.Strconv.ParseInt10At64
import Derived.Shelf.Strconv.ParseInt10At32
import Derived.Shelf.Strconv.ParseInt10At16
import Derived.Shelf.Strconv.ParseInt10At8
import Derived.Shelf.Strconv.ParseInt10All
import Derived.Shelf.Strconv.ParseIntPublic10
import Derived.Ground.MpProg
import Derived.Shelf.Pu.ParseUintPublic10
import Derived.Shelf.Strings.Search1
import Derived.Shelf.Strings.Search2
import Derived.Shelf.Strings.Search3
import Derived.Shelf.Strings.Count
import Derived.Shelf.Strings.Shaped
import Derived.Shelf.Strings.Prefix
import Derived.Shelf.Strings.Split
import Derived.Shelf.Strings.RuneCount
import Derived.Ground.Names2Prog
import Derived.Shelf.Slices.Clone
import Derived.Ground.SlgnProg
import Derived.Shelf.SlicesE.Clone
import Derived.Test.YtgfijlamhjjecaaGreatDoorProg
import Derived.Test.YtgfijlamhjjecaaGreatDoorMv2
namespace Go.Proofs
open Go.Shelf
def Tryz.lays170_ren : Go.Shelf.Ren := ⟨fun | 170 => 142 | n => n, fun | 70 => 201 | 3 => 3 | 0 => 0 | 72 => 203 | 37 => 72 | 5 => 5 | n => n, fun | n => n⟩
theorem Tryz.lays170 : Go.Proofs.Lays.n170 Tryz.prog Tryz.lays170_ren := {
  mixed := by kernel_rfl
  f170 := Tryz.func142.trans (congrArg some (by kernel_rfl))
  t0 := Tryz.underlying0
  a0 := Tryz.isAgg0
  z0 := Tryz.sizeOf0
  v0 := Tryz.zeroValue0
  t3 := Tryz.underlying3
  a3 := Tryz.isAgg3
  z3 := Tryz.sizeOf3
  v3 := Tryz.zeroValue3
  t37 := Tryz.underlying72
  a37 := Tryz.isAgg72
  z37 := Tryz.sizeOf72
  v37 := Tryz.zeroValue72
  t70 := Tryz.underlying201
  a70 := Tryz.isAgg201
  z70 := Tryz.sizeOf201
  v70 := Tryz.zeroValue201
  t72 := Tryz.underlying203
  a72 := Tryz.isAgg203
  z72 := Tryz.sizeOf203
  v72 := Tryz.zeroValue203 }
open Go.RowKit in
theorem Tryz.Builder_Len (B b : Nat) (bs : List Value) (w : World) (h : Lib.IsBuilder 203 5 B b bs w) :
  Calls Tryz.prog 142 #[.pointer (some ⟨b, 0, none⟩)] w fun e w' => e = .returned (.int .i64 bs.length) ∧ w' = w := Any.Builder_Len Tryz.lays170 B b bs w h
def Tryz.lays169_ren : Go.Shelf.Ren := ⟨fun | 169 => 143 | n => n, fun | 70 => 201 | 9 => 9 | 0 => 0 | 72 => 203 | 37 => 72 | 127 => 150 | 3 => 3 | 5 => 5 | n => n, fun | n => n⟩
theorem Tryz.lays169 : Go.Proofs.Lays.n169 Tryz.prog Tryz.lays169_ren := {
  mixed := by kernel_rfl
  f169 := Tryz.func143.trans (congrArg some (by kernel_rfl))
  t0 := Tryz.underlying0
  a0 := Tryz.isAgg0
  z0 := Tryz.sizeOf0
  v0 := Tryz.zeroValue0
  t3 := Tryz.underlying3
  a3 := Tryz.isAgg3
  z3 := Tryz.sizeOf3
  v3 := Tryz.zeroValue3
  t9 := Tryz.underlying9
  a9 := Tryz.isAgg9
  z9 := Tryz.sizeOf9
  v9 := Tryz.zeroValue9
  t37 := Tryz.underlying72
  a37 := Tryz.isAgg72
  z37 := Tryz.sizeOf72
  v37 := Tryz.zeroValue72
  t70 := Tryz.underlying201
  a70 := Tryz.isAgg201
  z70 := Tryz.sizeOf201
  v70 := Tryz.zeroValue201
  t72 := Tryz.underlying203
  a72 := Tryz.isAgg203
  z72 := Tryz.sizeOf203
  v72 := Tryz.zeroValue203
  t127 := Tryz.underlying150
  a127 := Tryz.isAgg150
  z127 := Tryz.sizeOf150
  v127 := Tryz.zeroValue150 }
theorem Tryz.Builder_Extra_169 : Builder.Extra Tryz.prog Tryz.lays169_ren := {
  sizeBuilder := by kernel_rfl
  liesBuilder := by kernel_rfl
  t5 := Tryz.underlying5
  a5 := Tryz.isAgg5
  z5 := Tryz.sizeOf5
  v5 := Tryz.zeroValue5
  infoByte := by kernel_rfl
  cellsByte := by kernel_rfl
  sizeByte := by kernel_rfl
  neB5 := by decide }
open Go.RowKit in
theorem Tryz.Builder_String_any (B b : Nat) (l : List UInt8) (w : World) (h : Lib.IsBuilder 203 5 B b (Lib.byteCells l) w) (hBw : B ≤ w.heap.size) :
  Calls Tryz.prog 143 #[.pointer (some ⟨b, 0, none⟩)] w fun e w' => e = .returned (.string ⟨l.toArray⟩) ∧ Below B w w' := Any.Builder_String_any Tryz.lays169 Tryz.Builder_Extra_169 B b l w h hBw
def Tryz.lays156_ren : Go.Shelf.Ren := ⟨fun | 156 => 166 | 165 => 184 | 166 => 141 | 169 => 143 | 240 => 167 | 241 => 196 | 276 => 185 | 277 => 204 | n => n, fun | 31 => 58 | 9 => 9 | 3 => 3 | 4 => 4 | 0 => 0 | 20 => 20 | 72 => 203 | 76 => 210 | 70 => 201 | 37 => 72 | 75 => 177 | 127 => 150 | 164 => 275 | 5 => 5 | 80 => 212 | n => n, fun | n => n⟩
theorem Tryz.lays156 : Go.Proofs.Lays.n156 Tryz.prog Tryz.lays156_ren := {
  mixed := by kernel_rfl
  f156 := Tryz.func166.trans (congrArg some (by kernel_rfl))
  f165 := Tryz.func184.trans (congrArg some (by kernel_rfl))
  f166 := Tryz.func141.trans (congrArg some (by kernel_rfl))
  f169 := Tryz.func143.trans (congrArg some (by kernel_rfl))
  f240 := Tryz.func167.trans (congrArg some (by kernel_rfl))
  f241 := Tryz.func196.trans (congrArg some (by kernel_rfl))
  f276 := Tryz.func185.trans (congrArg some (by kernel_rfl))
  f277 := Tryz.func204.trans (congrArg some (by kernel_rfl))
  t0 := Tryz.underlying0
  a0 := Tryz.isAgg0
  z0 := Tryz.sizeOf0
  v0 := Tryz.zeroValue0
  t3 := Tryz.underlying3
  a3 := Tryz.isAgg3
  z3 := Tryz.sizeOf3
  v3 := Tryz.zeroValue3
  t4 := Tryz.underlying4
  a4 := Tryz.isAgg4
  z4 := Tryz.sizeOf4
  v4 := Tryz.zeroValue4
  t9 := Tryz.underlying9
  a9 := Tryz.isAgg9
  z9 := Tryz.sizeOf9
  v9 := Tryz.zeroValue9
  t20 := Tryz.underlying20
  a20 := Tryz.isAgg20
  z20 := Tryz.sizeOf20
  v20 := Tryz.zeroValue20
  t31 := Tryz.underlying58
  a31 := Tryz.isAgg58
  z31 := Tryz.sizeOf58
  v31 := Tryz.zeroValue58
  t37 := Tryz.underlying72
  a37 := Tryz.isAgg72
  z37 := Tryz.sizeOf72
  v37 := Tryz.zeroValue72
  t70 := Tryz.underlying201
  a70 := Tryz.isAgg201
  z70 := Tryz.sizeOf201
  v70 := Tryz.zeroValue201
  t72 := Tryz.underlying203
  a72 := Tryz.isAgg203
  z72 := Tryz.sizeOf203
  v72 := Tryz.zeroValue203
  t75 := Tryz.underlying177
  a75 := Tryz.isAgg177
  z75 := Tryz.sizeOf177
  v75 := Tryz.zeroValue177
  t76 := Tryz.underlying210
  a76 := Tryz.isAgg210
  z76 := Tryz.sizeOf210
  v76 := Tryz.zeroValue210
  t127 := Tryz.underlying150
  a127 := Tryz.isAgg150
  z127 := Tryz.sizeOf150
  v127 := Tryz.zeroValue150
  t164 := Tryz.underlying275
  a164 := Tryz.isAgg275
  z164 := Tryz.sizeOf275
  v164 := Tryz.zeroValue275 }
theorem Tryz.Builder_Extra_156 : Builder.Extra Tryz.prog Tryz.lays156_ren := {
  sizeBuilder := by kernel_rfl
  liesBuilder := by kernel_rfl
  t5 := Tryz.underlying5
  a5 := Tryz.isAgg5
  z5 := Tryz.sizeOf5
  v5 := Tryz.zeroValue5
  infoByte := by kernel_rfl
  cellsByte := by kernel_rfl
  sizeByte := by kernel_rfl
  neB5 := by decide }
open Go.RowKit in
theorem Tryz.strings_Join_none (a : Option Addr) (c : Nat) (sep : ByteArray) (w : World) :
  Calls Tryz.prog 166 #[.slice a 0 c, .string sep] w fun e w' => e = .returned (.string ⟨#[]⟩) ∧ w' = w := Any.strings_Join_none Tryz.lays156 Tryz.Builder_Extra_156 a c sep w
open Go.RowKit in
theorem Tryz.strings_Join (bk o c : Nat) (xs : List ByteArray) (sep : ByteArray) (w : World) (hcells : ∀ (j : Nat) x, xs[j]? = some x → w.cell? ⟨bk, o + j, none⟩ = some (.string x)) (hbk : bk < w.heap.size) (hN : xs.length ≤ 140737488355328) (hcap : xs.length ≤ c) (hlen : (Lib.join (xs.map (·.data.toList)) sep.data.toList).length ≤ 140737488355328) :
  Calls Tryz.prog 166 #[.slice (some ⟨bk, o, none⟩) xs.length c, .string sep] w fun e w' => e = .returned (.string ⟨(Lib.join (xs.map (·.data.toList)) sep.data.toList).toArray⟩) ∧ Below w.heap.size w w' := Any.strings_Join Tryz.lays156 Tryz.Builder_Extra_156 bk o c xs sep w hcells hbk hN hcap hlen
def Tryz.lays137_ren : Go.Shelf.Ren := ⟨fun | 137 => 217 | 217 => 226 | 266 => 227 | n => n, fun | 9 => 9 | 5 => 5 | 3 => 3 | n => n, fun | n => n⟩
theorem Tryz.lays137 : Go.Proofs.Lays.n137 Tryz.prog Tryz.lays137_ren := {
  mixed := by kernel_rfl
  f137 := Tryz.func217.trans (congrArg some (by kernel_rfl))
  f217 := Tryz.func226.trans (congrArg some (by kernel_rfl))
  f266 := Tryz.func227.trans (congrArg some (by kernel_rfl))
  t3 := Tryz.underlying3
  a3 := Tryz.isAgg3
  z3 := Tryz.sizeOf3
  v3 := Tryz.zeroValue3
  t5 := Tryz.underlying5
  a5 := Tryz.isAgg5
  z5 := Tryz.sizeOf5
  v5 := Tryz.zeroValue5
  t9 := Tryz.underlying9
  a9 := Tryz.isAgg9
  z9 := Tryz.sizeOf9
  v9 := Tryz.zeroValue9 }
open Go.RowKit in
theorem Tryz.strings_IndexByte (s : ByteArray) (c : Int) (w : World) :
  Calls Tryz.prog 217 #[.string s, .int .u8 c] w fun e w' => e = .returned (.int .i64 (Lib.indexByte s.data.toList c.toNat.toUInt8)) ∧ w' = w := Any.strings_IndexByte Tryz.lays137 s c w
def Tryz.lays283_ren : Go.Shelf.Ren := ⟨fun | 283 => 153 | n => n, fun | 3 => 3 | 9 => 9 | 4 => 4 | n => n, fun | n => n⟩
theorem Tryz.lays283 : Go.Proofs.Lays.n283 Tryz.prog Tryz.lays283_ren := {
  mixed := by kernel_rfl
  f283 := Tryz.func153.trans (congrArg some (by kernel_rfl))
  t3 := Tryz.underlying3
  a3 := Tryz.isAgg3
  z3 := Tryz.sizeOf3
  v3 := Tryz.zeroValue3
  t4 := Tryz.underlying4
  a4 := Tryz.isAgg4
  z4 := Tryz.sizeOf4
  v4 := Tryz.zeroValue4
  t9 := Tryz.underlying9
  a9 := Tryz.isAgg9
  z9 := Tryz.sizeOf9
  v9 := Tryz.zeroValue9 }
open Go.Lib in
theorem Tryz.internal_strconv_small (i : Nat) (h : i < 100) (w : World) :
  Calls Tryz.prog 153 #[.int .i64 i] w fun e w' => e = .returned (.string ⟨(Lib.decDigits i).toArray⟩) ∧ w' = w := Any.internal_strconv_small Tryz.lays283 i h w
def Tryz.laysM284_ren : Go.Shelf.Ren := ⟨fun | 284 => 154 | 129 => 173 | 317 => 172 | 318 => 174 | n => n, fun | 53 => 22 | 3 => 3 | 212 => 264 | 0 => 0 | 4 => 4 | 46 => 226 | 5 => 5 | 9 => 9 | n => n, fun | 17 => 1 | n => n⟩
theorem Tryz.laysM284 : Go.Proofs.LaysM.n284 Tryz.prog Tryz.laysM284_ren := {
  mixed := by kernel_rfl
  f129 := Tryz.func173.trans (congrArg some (by kernel_rfl))
  f284 := Tryz.func154.trans (congrArg some (by kernel_rfl))
  f317 := Tryz.func172.trans (congrArg some (by kernel_rfl))
  f318 := Tryz.func174.trans (congrArg some (by kernel_rfl))
  t0 := Tryz.underlying0
  a0 := Tryz.isAgg0
  z0 := Tryz.sizeOf0
  v0 := Tryz.zeroValue0
  t3 := Tryz.underlying3
  a3 := Tryz.isAgg3
  z3 := Tryz.sizeOf3
  v3 := Tryz.zeroValue3
  t4 := Tryz.underlying4
  a4 := Tryz.isAgg4
  z4 := Tryz.sizeOf4
  v4 := Tryz.zeroValue4
  t5 := Tryz.underlying5
  a5 := Tryz.isAgg5
  z5 := Tryz.sizeOf5
  v5 := Tryz.zeroValue5
  t9 := Tryz.underlying9
  a9 := Tryz.isAgg9
  z9 := Tryz.sizeOf9
  v9 := Tryz.zeroValue9
  t46 := Tryz.underlying226
  a46 := Tryz.isAgg226
  z46 := Tryz.sizeOf226
  v46 := Tryz.zeroValue226
  t53 := Tryz.underlying22
  a53 := Tryz.isAgg22
  z53 := Tryz.sizeOf22
  v53 := Tryz.zeroValue22
  t212 := Tryz.underlying264
  a212 := Tryz.isAgg264
  z212 := Tryz.sizeOf264
  v212 := Tryz.zeroValue264
  g17 := by kernel_rfl
  i0 := by kernel_rfl
  i3 := by kernel_rfl
  i4 := by kernel_rfl
  i5 := by kernel_rfl
  i9 := by kernel_rfl
  i46 := by kernel_rfl
  i53 := by kernel_rfl
  i212 := by kernel_rfl
  m17 := by kernel_rfl }
open Go.Lib in
theorem Tryz.internal_strconv_numDigits (u : Nat) (h1 : 1 ≤ u) (h2 : u < 18446744073709551616) (w : World) (htab : Lib.TabIs Tryz.prog w "internal/strconv.uint64pow10" .u64 Lib.pow10Tab) :
  Calls Tryz.prog 154 #[.int .u64 u] w fun e w' => e = .returned (.int .i64 (Lib.nDigits u)) ∧ w' = w := Any.internal_strconv_numDigits Tryz.laysM284 u h1 h2 w htab
def Tryz.lays285_ren : Go.Shelf.Ren := ⟨fun | 285 => 155 | n => n, fun | 37 => 72 | 53 => 22 | 3 => 3 | 4 => 4 | 51 => 28 | 9 => 9 | 5 => 5 | 0 => 0 | n => n, fun | n => n⟩
theorem Tryz.lays285 : Go.Proofs.Lays.n285 Tryz.prog Tryz.lays285_ren := {
  mixed := by kernel_rfl
  f285 := Tryz.func155.trans (congrArg some (by kernel_rfl))
  t0 := Tryz.underlying0
  a0 := Tryz.isAgg0
  z0 := Tryz.sizeOf0
  v0 := Tryz.zeroValue0
  t3 := Tryz.underlying3
  a3 := Tryz.isAgg3
  z3 := Tryz.sizeOf3
  v3 := Tryz.zeroValue3
  t4 := Tryz.underlying4
  a4 := Tryz.isAgg4
  z4 := Tryz.sizeOf4
  v4 := Tryz.zeroValue4
  t5 := Tryz.underlying5
  a5 := Tryz.isAgg5
  z5 := Tryz.sizeOf5
  v5 := Tryz.zeroValue5
  t9 := Tryz.underlying9
  a9 := Tryz.isAgg9
  z9 := Tryz.sizeOf9
  v9 := Tryz.zeroValue9
  t37 := Tryz.underlying72
  a37 := Tryz.isAgg72
  z37 := Tryz.sizeOf72
  v37 := Tryz.zeroValue72
  t51 := Tryz.underlying28
  a51 := Tryz.isAgg28
  z51 := Tryz.sizeOf28
  v51 := Tryz.zeroValue28
  t53 := Tryz.underlying22
  a53 := Tryz.isAgg22
  z53 := Tryz.sizeOf22
  v53 := Tryz.zeroValue22 }
open Go.RowKit Go.Sort Go.Lib in
theorem Tryz.internal_strconv_formatBase10 (blk off cap : Nat) (u : Nat) (d : Array UInt8) (w : World) (hH : Holds (fun (b : UInt8) => Value.int .u8 (b.toNat : Int)) w blk off d) (hu : u < 10 ^ d.size) (hu64 : u < 18446744073709551616) (hsz : d.size < 4611686018427387904) :
  Calls Tryz.prog 155 #[.slice (some ⟨blk, off, none⟩) d.size cap, .int .u64 u] w fun e w' =>
   e = .returned (.tuple #[]) ∧ ∃ (n v' : Nat) (dk : Array UInt8), w' = (putRow (fun (b : UInt8) => Value.int .u8 (b.toNat : Int)) w blk off dk).drewN n ∧ FmtInv d.size u 0 v' dk := Any.internal_strconv_formatBase10 Tryz.lays285 blk off cap u d w hH hu hu64 hsz
def Tryz.laysM171_ren : Go.Shelf.Ren := ⟨fun | 171 => 45 | 243 => 88 | 246 => 130 | 283 => 153 | 284 => 154 | 285 => 155 | 286 => 156 | 129 => 173 | 317 => 172 | 318 => 174 | 319 => 175 | 320 => 176 | 337 => 188 | 338 => 189 | n => n, fun | 3 => 3 | 9 => 9 | 2 => 2 | 4 => 4 | 171 => 231 | 0 => 0 | 53 => 22 | 37 => 72 | 5 => 5 | 173 => 234 | 212 => 264 | 51 => 28 | 20 => 20 | 213 => 265 | 46 => 226 | 232 => 77 | 233 => 297 | n => n, fun | 17 => 1 | 18 => 4 | 19 => 5 | n => n⟩
theorem Tryz.laysM171 : Go.Proofs.LaysM.n171 Tryz.prog Tryz.laysM171_ren := {
  mixed := by kernel_rfl
  f129 := Tryz.func173.trans (congrArg some (by kernel_rfl))
  f171 := Tryz.func45.trans (congrArg some (by kernel_rfl))
  f243 := Tryz.func88.trans (congrArg some (by kernel_rfl))
  f246 := Tryz.func130.trans (congrArg some (by kernel_rfl))
  f283 := Tryz.func153.trans (congrArg some (by kernel_rfl))
  f284 := Tryz.func154.trans (congrArg some (by kernel_rfl))
  f285 := Tryz.func155.trans (congrArg some (by kernel_rfl))
  f286 := Tryz.func156.trans (congrArg some (by kernel_rfl))
  f317 := Tryz.func172.trans (congrArg some (by kernel_rfl))
  f318 := Tryz.func174.trans (congrArg some (by kernel_rfl))
  f319 := Tryz.func175.trans (congrArg some (by kernel_rfl))
  f320 := Tryz.func176.trans (congrArg some (by kernel_rfl))
  f337 := Tryz.func188.trans (congrArg some (by kernel_rfl))
  f338 := Tryz.func189.trans (congrArg some (by kernel_rfl))
  t0 := Tryz.underlying0
  a0 := Tryz.isAgg0
  z0 := Tryz.sizeOf0
  v0 := Tryz.zeroValue0
  t2 := Tryz.underlying2
  a2 := Tryz.isAgg2
  z2 := Tryz.sizeOf2
  v2 := Tryz.zeroValue2
  t3 := Tryz.underlying3
  a3 := Tryz.isAgg3
  z3 := Tryz.sizeOf3
  v3 := Tryz.zeroValue3
  t4 := Tryz.underlying4
  a4 := Tryz.isAgg4
  z4 := Tryz.sizeOf4
  v4 := Tryz.zeroValue4
  t5 := Tryz.underlying5
  a5 := Tryz.isAgg5
  z5 := Tryz.sizeOf5
  v5 := Tryz.zeroValue5
  t9 := Tryz.underlying9
  a9 := Tryz.isAgg9
  z9 := Tryz.sizeOf9
  v9 := Tryz.zeroValue9
  t20 := Tryz.underlying20
  a20 := Tryz.isAgg20
  z20 := Tryz.sizeOf20
  v20 := Tryz.zeroValue20
  t37 := Tryz.underlying72
  a37 := Tryz.isAgg72
  z37 := Tryz.sizeOf72
  v37 := Tryz.zeroValue72
  t46 := Tryz.underlying226
  a46 := Tryz.isAgg226
  z46 := Tryz.sizeOf226
  v46 := Tryz.zeroValue226
  t51 := Tryz.underlying28
  a51 := Tryz.isAgg28
  z51 := Tryz.sizeOf28
  v51 := Tryz.zeroValue28
  t53 := Tryz.underlying22
  a53 := Tryz.isAgg22
  z53 := Tryz.sizeOf22
  v53 := Tryz.zeroValue22
  t171 := Tryz.underlying231
  a171 := Tryz.isAgg231
  z171 := Tryz.sizeOf231
  v171 := Tryz.zeroValue231
  t173 := Tryz.underlying234
  a173 := Tryz.isAgg234
  z173 := Tryz.sizeOf234
  v173 := Tryz.zeroValue234
  t212 := Tryz.underlying264
  a212 := Tryz.isAgg264
  z212 := Tryz.sizeOf264
  v212 := Tryz.zeroValue264
  t213 := Tryz.underlying265
  a213 := Tryz.isAgg265
  z213 := Tryz.sizeOf265
  t232 := Tryz.underlying77
  a232 := Tryz.isAgg77
  z232 := Tryz.sizeOf77
  v232 := Tryz.zeroValue77
  t233 := Tryz.underlying297
  a233 := Tryz.isAgg297
  z233 := Tryz.sizeOf297
  v233 := Tryz.zeroValue297
  g17 := by kernel_rfl
  g18 := by kernel_rfl
  g19 := by kernel_rfl
  i0 := by kernel_rfl
  i2 := by kernel_rfl
  i3 := by kernel_rfl
  i4 := by kernel_rfl
  i5 := by kernel_rfl
  i9 := by kernel_rfl
  i20 := by kernel_rfl
  i37 := by kernel_rfl
  i46 := by kernel_rfl
  i51 := by kernel_rfl
  i53 := by kernel_rfl
  i171 := by kernel_rfl
  i173 := by kernel_rfl
  i212 := by kernel_rfl
  i232 := by kernel_rfl
  i233 := by kernel_rfl
  m17 := by kernel_rfl
  m18 := by kernel_rfl
  m19 := by kernel_rfl }
open Go.RowKit Go.Sort Go.Lib in
theorem Tryz.strconv_Itoa (n : Int) (h0 : -9223372036854775808 ≤ n) (h1 : n ≤ 9223372036854775807) (w : World) (htab : Lib.TabIs Tryz.prog w "internal/strconv.uint64pow10" .u64 Lib.pow10Tab) :
  Calls Tryz.prog 45 #[.int .i64 n] w fun e w' => e = .returned (.string ⟨(Lib.itoa n).toArray⟩) ∧ ∃ k os, w' = grow (w.drewN k) os := Any.strconv_Itoa Tryz.laysM171 n h0 h1 w htab
def Tryz.laysM173_ren : Go.Shelf.Ren := ⟨fun | 173 => 116 | 246 => 130 | 283 => 153 | 284 => 154 | 285 => 155 | 286 => 156 | 129 => 173 | 317 => 172 | 318 => 174 | 319 => 175 | 320 => 176 | 337 => 188 | 338 => 189 | n => n, fun | 2 => 2 | 3 => 3 | 9 => 9 | 4 => 4 | 171 => 231 | 0 => 0 | 53 => 22 | 37 => 72 | 5 => 5 | 173 => 234 | 212 => 264 | 51 => 28 | 20 => 20 | 213 => 265 | 46 => 226 | 232 => 77 | 233 => 297 | n => n, fun | 17 => 1 | 18 => 4 | 19 => 5 | n => n⟩
theorem Tryz.laysM173 : Go.Proofs.LaysM.n173 Tryz.prog Tryz.laysM173_ren := {
  mixed := by kernel_rfl
  f129 := Tryz.func173.trans (congrArg some (by kernel_rfl))
  f173 := Tryz.func116.trans (congrArg some (by kernel_rfl))
  f246 := Tryz.func130.trans (congrArg some (by kernel_rfl))
  f283 := Tryz.func153.trans (congrArg some (by kernel_rfl))
  f284 := Tryz.func154.trans (congrArg some (by kernel_rfl))
  f285 := Tryz.func155.trans (congrArg some (by kernel_rfl))
  f286 := Tryz.func156.trans (congrArg some (by kernel_rfl))
  f317 := Tryz.func172.trans (congrArg some (by kernel_rfl))
  f318 := Tryz.func174.trans (congrArg some (by kernel_rfl))
  f319 := Tryz.func175.trans (congrArg some (by kernel_rfl))
  f320 := Tryz.func176.trans (congrArg some (by kernel_rfl))
  f337 := Tryz.func188.trans (congrArg some (by kernel_rfl))
  f338 := Tryz.func189.trans (congrArg some (by kernel_rfl))
  t0 := Tryz.underlying0
  a0 := Tryz.isAgg0
  z0 := Tryz.sizeOf0
  v0 := Tryz.zeroValue0
  t2 := Tryz.underlying2
  a2 := Tryz.isAgg2
  z2 := Tryz.sizeOf2
  v2 := Tryz.zeroValue2
  t3 := Tryz.underlying3
  a3 := Tryz.isAgg3
  z3 := Tryz.sizeOf3
  v3 := Tryz.zeroValue3
  t4 := Tryz.underlying4
  a4 := Tryz.isAgg4
  z4 := Tryz.sizeOf4
  v4 := Tryz.zeroValue4
  t5 := Tryz.underlying5
  a5 := Tryz.isAgg5
  z5 := Tryz.sizeOf5
  v5 := Tryz.zeroValue5
  t9 := Tryz.underlying9
  a9 := Tryz.isAgg9
  z9 := Tryz.sizeOf9
  v9 := Tryz.zeroValue9
  t20 := Tryz.underlying20
  a20 := Tryz.isAgg20
  z20 := Tryz.sizeOf20
  v20 := Tryz.zeroValue20
  t37 := Tryz.underlying72
  a37 := Tryz.isAgg72
  z37 := Tryz.sizeOf72
  v37 := Tryz.zeroValue72
  t46 := Tryz.underlying226
  a46 := Tryz.isAgg226
  z46 := Tryz.sizeOf226
  v46 := Tryz.zeroValue226
  t51 := Tryz.underlying28
  a51 := Tryz.isAgg28
  z51 := Tryz.sizeOf28
  v51 := Tryz.zeroValue28
  t53 := Tryz.underlying22
  a53 := Tryz.isAgg22
  z53 := Tryz.sizeOf22
  v53 := Tryz.zeroValue22
  t171 := Tryz.underlying231
  a171 := Tryz.isAgg231
  z171 := Tryz.sizeOf231
  v171 := Tryz.zeroValue231
  t173 := Tryz.underlying234
  a173 := Tryz.isAgg234
  z173 := Tryz.sizeOf234
  v173 := Tryz.zeroValue234
  t212 := Tryz.underlying264
  a212 := Tryz.isAgg264
  z212 := Tryz.sizeOf264
  v212 := Tryz.zeroValue264
  t213 := Tryz.underlying265
  a213 := Tryz.isAgg265
  z213 := Tryz.sizeOf265
  t232 := Tryz.underlying77
  a232 := Tryz.isAgg77
  z232 := Tryz.sizeOf77
  v232 := Tryz.zeroValue77
  t233 := Tryz.underlying297
  a233 := Tryz.isAgg297
  z233 := Tryz.sizeOf297
  v233 := Tryz.zeroValue297
  g17 := by kernel_rfl
  g18 := by kernel_rfl
  g19 := by kernel_rfl
  i0 := by kernel_rfl
  i2 := by kernel_rfl
  i3 := by kernel_rfl
  i4 := by kernel_rfl
  i5 := by kernel_rfl
  i9 := by kernel_rfl
  i20 := by kernel_rfl
  i37 := by kernel_rfl
  i46 := by kernel_rfl
  i51 := by kernel_rfl
  i53 := by kernel_rfl
  i171 := by kernel_rfl
  i173 := by kernel_rfl
  i212 := by kernel_rfl
  i232 := by kernel_rfl
  i233 := by kernel_rfl
  m17 := by kernel_rfl
  m18 := by kernel_rfl
  m19 := by kernel_rfl }
open Go.RowKit Go.Sort Go.Lib in
theorem Tryz.strconv_FormatInt_10 (n : Int) (h0 : -9223372036854775808 ≤ n) (h1 : n ≤ 9223372036854775807) (w : World) (htab : Lib.TabIs Tryz.prog w "internal/strconv.uint64pow10" .u64 Lib.pow10Tab) :
  Calls Tryz.prog 116 #[.int .i64 n, .int .i64 10] w fun e w' => e = .returned (.string ⟨(Lib.itoa n).toArray⟩) ∧ ∃ k os, w' = grow (w.drewN k) os := Any.strconv_FormatInt_10 Tryz.laysM173 n h0 h1 w htab
def Tryz.laysC174_ren : Go.Shelf.Ren := ⟨fun | 174 => 95 | 247 => 132 | 245 => 133 | 287 => 158 | 279 => 159 | 280 => 160 | 281 => 161 | 282 => 162 | 321 => 177 | 322 => 178 | 316 => 179 | 171 => 45 | 205 => 180 | 243 => 88 | 246 => 130 | 283 => 153 | 284 => 154 | 285 => 155 | 286 => 156 | 129 => 173 | 317 => 172 | 318 => 174 | 319 => 175 | 320 => 176 | 337 => 188 | 338 => 189 | n => n, fun | 9 => 9 | 3 => 3 | 2 => 2 | 75 => 177 | 85 => 178 | 4 => 4 | 167 => 237 | 5 => 5 | 53 => 22 | 175 => 220 | 46 => 226 | 168 => 238 | 37 => 72 | 0 => 0 | 210 => 271 | 21 => 21 | 127 => 150 | 145 => 282 | 143 => 280 | 171 => 231 | 173 => 234 | 212 => 264 | 51 => 28 | 20 => 20 | 213 => 265 | 232 => 77 | 233 => 297 | 80 => 212 | n => n, fun | 15 => 2 | 16 => 3 | 17 => 1 | 18 => 4 | 19 => 5 | n => n⟩
theorem Tryz.laysC174 : Go.Proofs.LaysC.n174 Tryz.prog Tryz.laysC174_ren := {
  mixed := by kernel_rfl
  f129 := Tryz.func173.trans (congrArg some (by kernel_rfl))
  f171 := Tryz.func45.trans (congrArg some (by kernel_rfl))
  f174 := Tryz.func95.trans (congrArg some (by kernel_rfl))
  f205 := Tryz.func180.trans (congrArg some (by kernel_rfl))
  f243 := Tryz.func88.trans (congrArg some (by kernel_rfl))
  f245 := Tryz.func133.trans (congrArg some (by kernel_rfl))
  f246 := Tryz.func130.trans (congrArg some (by kernel_rfl))
  f247 := Tryz.func132.trans (congrArg some (by kernel_rfl))
  f279 := Tryz.func159.trans (congrArg some (by kernel_rfl))
  f280 := Tryz.func160.trans (congrArg some (by kernel_rfl))
  f281 := Tryz.func161.trans (congrArg some (by kernel_rfl))
  f282 := Tryz.func162.trans (congrArg some (by kernel_rfl))
  f283 := Tryz.func153.trans (congrArg some (by kernel_rfl))
  f284 := Tryz.func154.trans (congrArg some (by kernel_rfl))
  f285 := Tryz.func155.trans (congrArg some (by kernel_rfl))
  f286 := Tryz.func156.trans (congrArg some (by kernel_rfl))
  f287 := Tryz.func158.trans (congrArg some (by kernel_rfl))
  f316 := Tryz.func179.trans (congrArg some (by kernel_rfl))
  f317 := Tryz.func172.trans (congrArg some (by kernel_rfl))
  f318 := Tryz.func174.trans (congrArg some (by kernel_rfl))
  f319 := Tryz.func175.trans (congrArg some (by kernel_rfl))
  f320 := Tryz.func176.trans (congrArg some (by kernel_rfl))
  f321 := Tryz.func177.trans (congrArg some (by kernel_rfl))
  f322 := Tryz.func178.trans (congrArg some (by kernel_rfl))
  f337 := Tryz.func188.trans (congrArg some (by kernel_rfl))
  f338 := Tryz.func189.trans (congrArg some (by kernel_rfl))
  t0 := Tryz.underlying0
  a0 := Tryz.isAgg0
  z0 := Tryz.sizeOf0
  v0 := Tryz.zeroValue0
  t2 := Tryz.underlying2
  a2 := Tryz.isAgg2
  z2 := Tryz.sizeOf2
  v2 := Tryz.zeroValue2
  t3 := Tryz.underlying3
  a3 := Tryz.isAgg3
  z3 := Tryz.sizeOf3
  v3 := Tryz.zeroValue3
  t4 := Tryz.underlying4
  a4 := Tryz.isAgg4
  z4 := Tryz.sizeOf4
  v4 := Tryz.zeroValue4
  t5 := Tryz.underlying5
  a5 := Tryz.isAgg5
  z5 := Tryz.sizeOf5
  v5 := Tryz.zeroValue5
  t9 := Tryz.underlying9
  a9 := Tryz.isAgg9
  z9 := Tryz.sizeOf9
  v9 := Tryz.zeroValue9
  t20 := Tryz.underlying20
  a20 := Tryz.isAgg20
  z20 := Tryz.sizeOf20
  v20 := Tryz.zeroValue20
  t21 := Tryz.underlying21
  a21 := Tryz.isAgg21
  z21 := Tryz.sizeOf21
  v21 := Tryz.zeroValue21
  t37 := Tryz.underlying72
  a37 := Tryz.isAgg72
  z37 := Tryz.sizeOf72
  v37 := Tryz.zeroValue72
  t46 := Tryz.underlying226
  a46 := Tryz.isAgg226
  z46 := Tryz.sizeOf226
  v46 := Tryz.zeroValue226
  t51 := Tryz.underlying28
  a51 := Tryz.isAgg28
  z51 := Tryz.sizeOf28
  v51 := Tryz.zeroValue28
  t53 := Tryz.underlying22
  a53 := Tryz.isAgg22
  z53 := Tryz.sizeOf22
  v53 := Tryz.zeroValue22
  t75 := Tryz.underlying177
  a75 := Tryz.isAgg177
  z75 := Tryz.sizeOf177
  v75 := Tryz.zeroValue177
  t85 := Tryz.underlying178
  a85 := Tryz.isAgg178
  z85 := Tryz.sizeOf178
  v85 := Tryz.zeroValue178
  t127 := Tryz.underlying150
  a127 := Tryz.isAgg150
  z127 := Tryz.sizeOf150
  v127 := Tryz.zeroValue150
  t143 := Tryz.underlying280
  a143 := Tryz.isAgg280
  z143 := Tryz.sizeOf280
  v143 := Tryz.zeroValue280
  t145 := Tryz.underlying282
  a145 := Tryz.isAgg282
  z145 := Tryz.sizeOf282
  v145 := Tryz.zeroValue282
  t167 := Tryz.underlying237
  a167 := Tryz.isAgg237
  z167 := Tryz.sizeOf237
  v167 := Tryz.zeroValue237
  t168 := Tryz.underlying238
  a168 := Tryz.isAgg238
  z168 := Tryz.sizeOf238
  v168 := Tryz.zeroValue238
  t171 := Tryz.underlying231
  a171 := Tryz.isAgg231
  z171 := Tryz.sizeOf231
  v171 := Tryz.zeroValue231
  t173 := Tryz.underlying234
  a173 := Tryz.isAgg234
  z173 := Tryz.sizeOf234
  v173 := Tryz.zeroValue234
  t175 := Tryz.underlying220
  a175 := Tryz.isAgg220
  z175 := Tryz.sizeOf220
  v175 := Tryz.zeroValue220
  t210 := Tryz.underlying271
  a210 := Tryz.isAgg271
  z210 := Tryz.sizeOf271
  v210 := Tryz.zeroValue271
  t212 := Tryz.underlying264
  a212 := Tryz.isAgg264
  z212 := Tryz.sizeOf264
  v212 := Tryz.zeroValue264
  t213 := Tryz.underlying265
  a213 := Tryz.isAgg265
  z213 := Tryz.sizeOf265
  t232 := Tryz.underlying77
  a232 := Tryz.isAgg77
  z232 := Tryz.sizeOf77
  v232 := Tryz.zeroValue77
  t233 := Tryz.underlying297
  a233 := Tryz.isAgg297
  z233 := Tryz.sizeOf297
  v233 := Tryz.zeroValue297
  g15 := by kernel_rfl
  g16 := by kernel_rfl
  g17 := by kernel_rfl
  g18 := by kernel_rfl
  g19 := by kernel_rfl
  t80 := Tryz.underlying212
  a80 := Tryz.isAgg212
  z80 := Tryz.sizeOf212
  v80 := Tryz.zeroValue212
  i0 := by kernel_rfl
  i2 := by kernel_rfl
  i3 := by kernel_rfl
  i4 := by kernel_rfl
  i5 := by kernel_rfl
  i9 := by kernel_rfl
  i20 := by kernel_rfl
  i21 := by kernel_rfl
  i37 := by kernel_rfl
  i46 := by kernel_rfl
  i51 := by kernel_rfl
  i53 := by kernel_rfl
  i75 := by kernel_rfl
  i80 := by kernel_rfl
  i85 := by kernel_rfl
  i127 := by kernel_rfl
  i143 := by kernel_rfl
  i145 := by kernel_rfl
  i167 := by kernel_rfl
  i168 := by kernel_rfl
  i171 := by kernel_rfl
  i173 := by kernel_rfl
  i175 := by kernel_rfl
  i210 := by kernel_rfl
  i212 := by kernel_rfl
  i232 := by kernel_rfl
  i233 := by kernel_rfl
  m15 := by kernel_rfl
  m16 := by kernel_rfl
  m17 := by kernel_rfl
  m18 := by kernel_rfl
  m19 := by kernel_rfl
  c0 := by kernel_rfl
  c2 := by kernel_rfl
  c3 := by kernel_rfl
  c4 := by kernel_rfl
  c5 := by kernel_rfl
  c9 := by kernel_rfl
  c20 := by kernel_rfl
  c21 := by kernel_rfl
  c37 := by kernel_rfl
  c46 := by kernel_rfl
  c51 := by kernel_rfl
  c53 := by kernel_rfl
  c75 := by kernel_rfl
  c80 := by kernel_rfl
  c85 := by kernel_rfl
  c127 := by kernel_rfl
  c143 := by kernel_rfl
  c145 := by kernel_rfl
  c167 := by kernel_rfl
  c168 := by kernel_rfl
  c171 := by kernel_rfl
  c173 := by kernel_rfl
  c175 := by kernel_rfl
  c210 := by kernel_rfl
  c212 := by kernel_rfl
  c213 := by kernel_rfl
  c232 := by kernel_rfl
  c233 := by kernel_rfl }
open Go.RowKit in
theorem Tryz.strconv_ParseInt_10_at64_ok (s : ByteArray) (hmax : s.size ≤ 9223372036854775806) (v : Int) (h : Lib.parseIntB 64 s.data.toList = .ok v) (w : World) :
  Calls Tryz.prog 95 #[.string s, .int .i64 10, .int .i64 64] w fun e w' => e = .returned (.tuple #[.int .i64 v, .nilIface]) ∧ (w' = w ∨ ∃ t, w' = Lib.bytesWorld w 5 t) := Any.strconv_ParseInt_10_at64_ok Tryz.laysC174 s hmax v h w
open Go.RowKit in
theorem Tryz.strconv_ParseInt_10_at64_syntax (s : ByteArray) (hlim : s.size ≤ 281474976710656) (h : (∀ u, Lib.parseIntB 64 s.data.toList ≠ .ok u) ∧ Lib.parseIntB 64 s.data.toList ≠ .range) (ev : Value) (w : World) (hv : w.cell? ⟨2, 0, none⟩ = some ev) (hev : ev = .nilIface ∨ ∃ te pe, ev = .iface te pe) :
  Calls Tryz.prog 95 #[.string s, .int .i64 10, .int .i64 64] w fun e w' => ∃ N, e = .returned (.tuple #[.int .i64 (0), .iface 238 (.pointer (some ⟨N, 0, none⟩))]) ∧ w.heap.size ≤ N ∧ w'.heap[N]? = some (.cells #[.string ⟨#[80, 97, 114, 115, 101, 73, 110, 116]⟩, .string s, ev] 271 (0, 0)) ∧ Below w.heap.size w w' := Any.strconv_ParseInt_10_at64_syntax Tryz.laysC174 s hlim (by cases hx : Lib.parseIntB 64 s.data.toList <;> first | rfl | exact absurd hx (h.1 _) | exact absurd hx h.2) ev w hv hev
open Go.RowKit in
theorem Tryz.strconv_ParseInt_10_at64_range (s : ByteArray) (hlim : s.size ≤ 281474976710656) (h : Lib.parseIntB 64 s.data.toList = .range) (ev : Value) (w : World) (hv : w.cell? ⟨3, 0, none⟩ = some ev) (hev : ev = .nilIface ∨ ∃ te pe, ev = .iface te pe) :
  Calls Tryz.prog 95 #[.string s, .int .i64 10, .int .i64 64] w fun e w' => ∃ N, e = .returned (.tuple #[.int .i64 (Lib.intSat 64 s.data.toList), .iface 238 (.pointer (some ⟨N, 0, none⟩))]) ∧ w.heap.size ≤ N ∧ w'.heap[N]? = some (.cells #[.string ⟨#[80, 97, 114, 115, 101, 73, 110, 116]⟩, .string s, ev] 271 (0, 0)) ∧ Below w.heap.size w w' := Any.strconv_ParseInt_10_at64_range Tryz.laysC174 s hlim h ev w hv hev
def Tryz.laysPu14_ren : Go.Shelf.Ren := ⟨fun | 14 => 146 | 16 => 158 | 17 => 133 | 19 => 177 | 20 => 178 | 21 => 159 | 22 => 160 | 23 => 161 | 24 => 162 | 25 => 179 | 27 => 45 | 26 => 180 | 28 => 88 | 29 => 130 | 30 => 153 | 31 => 154 | 32 => 155 | 33 => 156 | 35 => 173 | 34 => 172 | 36 => 174 | 37 => 175 | 38 => 176 | 39 => 188 | 40 => 189 | n => n, fun | 9 => 9 | 3 => 3 | 22 => 22 | 24 => 177 | 25 => 220 | 4 => 4 | 34 => 237 | 5 => 5 | 36 => 226 | 37 => 72 | 0 => 0 | 39 => 238 | 21 => 21 | 44 => 271 | 47 => 150 | 50 => 282 | 48 => 280 | 2 => 2 | 52 => 231 | 55 => 234 | 59 => 264 | 60 => 28 | 20 => 20 | 61 => 265 | 65 => 77 | 66 => 297 | 67 => 212 | n => n, fun | 0 => 2 | 1 => 3 | 2 => 1 | 3 => 4 | 4 => 5 | n => n⟩
theorem Tryz.laysPu14 : Go.Proofs.LaysPu.n14 Tryz.prog Tryz.laysPu14_ren := {
  mixed := by kernel_rfl
  f14 := Tryz.func146.trans (congrArg some (by kernel_rfl))
  f16 := Tryz.func158.trans (congrArg some (by kernel_rfl))
  f17 := Tryz.func133.trans (congrArg some (by kernel_rfl))
  f19 := Tryz.func177.trans (congrArg some (by kernel_rfl))
  f20 := Tryz.func178.trans (congrArg some (by kernel_rfl))
  f21 := Tryz.func159.trans (congrArg some (by kernel_rfl))
  f22 := Tryz.func160.trans (congrArg some (by kernel_rfl))
  f23 := Tryz.func161.trans (congrArg some (by kernel_rfl))
  f24 := Tryz.func162.trans (congrArg some (by kernel_rfl))
  f25 := Tryz.func179.trans (congrArg some (by kernel_rfl))
  f26 := Tryz.func180.trans (congrArg some (by kernel_rfl))
  f27 := Tryz.func45.trans (congrArg some (by kernel_rfl))
  f28 := Tryz.func88.trans (congrArg some (by kernel_rfl))
  f29 := Tryz.func130.trans (congrArg some (by kernel_rfl))
  f30 := Tryz.func153.trans (congrArg some (by kernel_rfl))
  f31 := Tryz.func154.trans (congrArg some (by kernel_rfl))
  f32 := Tryz.func155.trans (congrArg some (by kernel_rfl))
  f33 := Tryz.func156.trans (congrArg some (by kernel_rfl))
  f34 := Tryz.func172.trans (congrArg some (by kernel_rfl))
  f35 := Tryz.func173.trans (congrArg some (by kernel_rfl))
  f36 := Tryz.func174.trans (congrArg some (by kernel_rfl))
  f37 := Tryz.func175.trans (congrArg some (by kernel_rfl))
  f38 := Tryz.func176.trans (congrArg some (by kernel_rfl))
  f39 := Tryz.func188.trans (congrArg some (by kernel_rfl))
  f40 := Tryz.func189.trans (congrArg some (by kernel_rfl))
  t0 := Tryz.underlying0
  a0 := Tryz.isAgg0
  z0 := Tryz.sizeOf0
  v0 := Tryz.zeroValue0
  i0 := by kernel_rfl
  t2 := Tryz.underlying2
  a2 := Tryz.isAgg2
  z2 := Tryz.sizeOf2
  v2 := Tryz.zeroValue2
  i2 := by kernel_rfl
  t3 := Tryz.underlying3
  a3 := Tryz.isAgg3
  z3 := Tryz.sizeOf3
  v3 := Tryz.zeroValue3
  i3 := by kernel_rfl
  t4 := Tryz.underlying4
  a4 := Tryz.isAgg4
  z4 := Tryz.sizeOf4
  v4 := Tryz.zeroValue4
  i4 := by kernel_rfl
  t5 := Tryz.underlying5
  a5 := Tryz.isAgg5
  z5 := Tryz.sizeOf5
  v5 := Tryz.zeroValue5
  i5 := by kernel_rfl
  t9 := Tryz.underlying9
  a9 := Tryz.isAgg9
  z9 := Tryz.sizeOf9
  v9 := Tryz.zeroValue9
  i9 := by kernel_rfl
  t20 := Tryz.underlying20
  a20 := Tryz.isAgg20
  z20 := Tryz.sizeOf20
  v20 := Tryz.zeroValue20
  i20 := by kernel_rfl
  t21 := Tryz.underlying21
  a21 := Tryz.isAgg21
  z21 := Tryz.sizeOf21
  v21 := Tryz.zeroValue21
  i21 := by kernel_rfl
  t22 := Tryz.underlying22
  a22 := Tryz.isAgg22
  z22 := Tryz.sizeOf22
  v22 := Tryz.zeroValue22
  i22 := by kernel_rfl
  t24 := Tryz.underlying177
  a24 := Tryz.isAgg177
  z24 := Tryz.sizeOf177
  v24 := Tryz.zeroValue177
  i24 := by kernel_rfl
  t25 := Tryz.underlying220
  a25 := Tryz.isAgg220
  z25 := Tryz.sizeOf220
  v25 := Tryz.zeroValue220
  i25 := by kernel_rfl
  t34 := Tryz.underlying237
  a34 := Tryz.isAgg237
  z34 := Tryz.sizeOf237
  v34 := Tryz.zeroValue237
  i34 := by kernel_rfl
  c34 := by kernel_rfl
  t36 := Tryz.underlying226
  a36 := Tryz.isAgg226
  z36 := Tryz.sizeOf226
  v36 := Tryz.zeroValue226
  i36 := by kernel_rfl
  t37 := Tryz.underlying72
  a37 := Tryz.isAgg72
  z37 := Tryz.sizeOf72
  v37 := Tryz.zeroValue72
  i37 := by kernel_rfl
  t39 := Tryz.underlying238
  a39 := Tryz.isAgg238
  z39 := Tryz.sizeOf238
  v39 := Tryz.zeroValue238
  i39 := by kernel_rfl
  t44 := Tryz.underlying271
  a44 := Tryz.isAgg271
  z44 := Tryz.sizeOf271
  v44 := Tryz.zeroValue271
  i44 := by kernel_rfl
  t47 := Tryz.underlying150
  a47 := Tryz.isAgg150
  z47 := Tryz.sizeOf150
  v47 := Tryz.zeroValue150
  i47 := by kernel_rfl
  t48 := Tryz.underlying280
  a48 := Tryz.isAgg280
  z48 := Tryz.sizeOf280
  v48 := Tryz.zeroValue280
  i48 := by kernel_rfl
  t50 := Tryz.underlying282
  a50 := Tryz.isAgg282
  z50 := Tryz.sizeOf282
  v50 := Tryz.zeroValue282
  i50 := by kernel_rfl
  t52 := Tryz.underlying231
  a52 := Tryz.isAgg231
  z52 := Tryz.sizeOf231
  v52 := Tryz.zeroValue231
  i52 := by kernel_rfl
  t55 := Tryz.underlying234
  a55 := Tryz.isAgg234
  z55 := Tryz.sizeOf234
  v55 := Tryz.zeroValue234
  i55 := by kernel_rfl
  t59 := Tryz.underlying264
  a59 := Tryz.isAgg264
  z59 := Tryz.sizeOf264
  v59 := Tryz.zeroValue264
  i59 := by kernel_rfl
  t60 := Tryz.underlying28
  a60 := Tryz.isAgg28
  z60 := Tryz.sizeOf28
  v60 := Tryz.zeroValue28
  i60 := by kernel_rfl
  t61 := Tryz.underlying265
  a61 := Tryz.isAgg265
  z61 := Tryz.sizeOf265
  t65 := Tryz.underlying77
  a65 := Tryz.isAgg77
  z65 := Tryz.sizeOf77
  v65 := Tryz.zeroValue77
  i65 := by kernel_rfl
  t66 := Tryz.underlying297
  a66 := Tryz.isAgg297
  z66 := Tryz.sizeOf297
  v66 := Tryz.zeroValue297
  i66 := by kernel_rfl
  t67 := Tryz.underlying212
  a67 := Tryz.isAgg212
  z67 := Tryz.sizeOf212
  v67 := Tryz.zeroValue212
  i67 := by kernel_rfl
  g0 := by kernel_rfl
  m0 := by kernel_rfl
  g1 := by kernel_rfl
  m1 := by kernel_rfl
  g2 := by kernel_rfl
  m2 := by kernel_rfl
  g3 := by kernel_rfl
  m3 := by kernel_rfl
  g4 := by kernel_rfl
  m4 := by kernel_rfl }
open Go.RowKit in
theorem Tryz.strconv_ParseUint_10_at64_ok (s : ByteArray) (hmax : s.size ≤ 9223372036854775806) (u : Nat) (h : Lib.parseUintB 64 s.data.toList = .ok u) (w : World) :
  Calls Tryz.prog 146 #[.string s, .int .i64 10, .int .i64 64] w fun e w' => e = .returned (.tuple #[.int .u64 u, .nilIface]) ∧ (w' = w ∨ w' = Lib.bytesWorld w 5 s) := Any.strconv_ParseUint_10_at64_ok Tryz.laysPu14 s hmax u h w
open Go.RowKit in
theorem Tryz.strconv_ParseUint_10_at64_syntax (s : ByteArray) (hlim : s.size ≤ 281474976710656) (h : (∀ u, Lib.parseUintB 64 s.data.toList ≠ .ok u) ∧ Lib.parseUintB 64 s.data.toList ≠ .range) (ev : Value) (w : World) (hv : w.cell? ⟨2, 0, none⟩ = some ev) (hev : ev = .nilIface ∨ ∃ te pe, ev = .iface te pe) :
  Calls Tryz.prog 146 #[.string s, .int .i64 10, .int .i64 64] w fun e w' => ∃ N, e = .returned (.tuple #[.int .u64 0, .iface 238 (.pointer (some ⟨N, 0, none⟩))]) ∧ w.heap.size ≤ N ∧ w'.heap[N]? = some (.cells #[.string ⟨#[80, 97, 114, 115, 101, 85, 105, 110, 116]⟩, .string s, ev] 271 (0, 0)) ∧ Below w.heap.size w w' := Any.strconv_ParseUint_10_at64_syntax Tryz.laysPu14 s hlim (by cases hx : Lib.parseUintB 64 s.data.toList <;> first | rfl | exact absurd hx (h.1 _) | exact absurd hx h.2) ev w hv hev
open Go.RowKit in
theorem Tryz.strconv_ParseUint_10_at64_range (s : ByteArray) (hlim : s.size ≤ 281474976710656) (h : Lib.parseUintB 64 s.data.toList = .range) (ev : Value) (w : World) (hv : w.cell? ⟨3, 0, none⟩ = some ev) (hev : ev = .nilIface ∨ ∃ te pe, ev = .iface te pe) :
  Calls Tryz.prog 146 #[.string s, .int .i64 10, .int .i64 64] w fun e w' => ∃ N, e = .returned (.tuple #[.int .u64 18446744073709551615, .iface 238 (.pointer (some ⟨N, 0, none⟩))]) ∧ w.heap.size ≤ N ∧ w'.heap[N]? = some (.cells #[.string ⟨#[80, 97, 114, 115, 101, 85, 105, 110, 116]⟩, .string s, ev] 271 (0, 0)) ∧ Below w.heap.size w w' := Any.strconv_ParseUint_10_at64_range Tryz.laysPu14 s hlim h ev w hv hev
def Tryz.lays138_ren : Go.Shelf.Ren := ⟨fun | 138 => 259 | 195 => 260 | 218 => 261 | 143 => 262 | 219 => 263 | 217 => 226 | 225 => 264 | 224 => 265 | 267 => 266 | 266 => 227 | 314 => 267 | n => n, fun | 9 => 9 | 3 => 3 | 4 => 4 | 5 => 5 | 0 => 0 | 46 => 226 | 146 => 355 | 51 => 28 | n => n, fun | 1 => 6 | n => n⟩
theorem Tryz.lays138 : Go.Proofs.Lays.n138 Tryz.prog Tryz.lays138_ren := {
  mixed := by kernel_rfl
  f138 := Tryz.func259.trans (congrArg some (by kernel_rfl))
  f143 := Tryz.func262.trans (congrArg some (by kernel_rfl))
  f195 := Tryz.func260.trans (congrArg some (by kernel_rfl))
  f217 := Tryz.func226.trans (congrArg some (by kernel_rfl))
  f218 := Tryz.func261.trans (congrArg some (by kernel_rfl))
  f219 := Tryz.func263.trans (congrArg some (by kernel_rfl))
  f224 := Tryz.func265.trans (congrArg some (by kernel_rfl))
  f225 := Tryz.func264.trans (congrArg some (by kernel_rfl))
  f266 := Tryz.func227.trans (congrArg some (by kernel_rfl))
  f267 := Tryz.func266.trans (congrArg some (by kernel_rfl))
  f314 := Tryz.func267.trans (congrArg some (by kernel_rfl))
  t0 := Tryz.underlying0
  a0 := Tryz.isAgg0
  z0 := Tryz.sizeOf0
  v0 := Tryz.zeroValue0
  t3 := Tryz.underlying3
  a3 := Tryz.isAgg3
  z3 := Tryz.sizeOf3
  v3 := Tryz.zeroValue3
  t4 := Tryz.underlying4
  a4 := Tryz.isAgg4
  z4 := Tryz.sizeOf4
  v4 := Tryz.zeroValue4
  t5 := Tryz.underlying5
  a5 := Tryz.isAgg5
  z5 := Tryz.sizeOf5
  v5 := Tryz.zeroValue5
  t9 := Tryz.underlying9
  a9 := Tryz.isAgg9
  z9 := Tryz.sizeOf9
  v9 := Tryz.zeroValue9
  t46 := Tryz.underlying226
  a46 := Tryz.isAgg226
  z46 := Tryz.sizeOf226
  v46 := Tryz.zeroValue226
  t51 := Tryz.underlying28
  a51 := Tryz.isAgg28
  z51 := Tryz.sizeOf28
  v51 := Tryz.zeroValue28
  t146 := Tryz.underlying355
  a146 := Tryz.isAgg355
  z146 := Tryz.sizeOf355
  v146 := Tryz.zeroValue355
  g1 := by kernel_rfl }
open Go.RowKit Go.Lib in
theorem Tryz.strings_Count_one (s : ByteArray) (c : UInt8) (w : World) :
  Calls Tryz.prog 259 #[.string s, .string ⟨#[c]⟩] w fun e w' => e = .returned (.int .i64 (Lib.countByte s.data.toList c)) ∧ w' = w := Any.strings_Count_one Tryz.lays138 s c w
def Tryz.lays101_ren : Go.Shelf.Ren := ⟨fun | 101 => 94 | 208 => 131 | 206 => 157 | n => n, fun | 9 => 9 | 4 => 4 | 3 => 3 | n => n, fun | n => n⟩
theorem Tryz.lays101 : Go.Proofs.Lays.n101 Tryz.prog Tryz.lays101_ren := {
  mixed := by kernel_rfl
  f101 := Tryz.func94.trans (congrArg some (by kernel_rfl))
  f206 := Tryz.func157.trans (congrArg some (by kernel_rfl))
  f208 := Tryz.func131.trans (congrArg some (by kernel_rfl))
  t3 := Tryz.underlying3
  a3 := Tryz.isAgg3
  z3 := Tryz.sizeOf3
  v3 := Tryz.zeroValue3
  t4 := Tryz.underlying4
  a4 := Tryz.isAgg4
  z4 := Tryz.sizeOf4
  v4 := Tryz.zeroValue4
  t9 := Tryz.underlying9
  a9 := Tryz.isAgg9
  z9 := Tryz.sizeOf9
  v9 := Tryz.zeroValue9 }
open Go.RowKit Go.Lib in
theorem Tryz.strings_TrimPrefix (s p : ByteArray) (w : World) :
  Calls Tryz.prog 94 #[.string s, .string p] w fun e w' => e = .returned (.string ⟨(Lib.trimPrefix s.data.toList p.data.toList).toArray⟩) ∧ w' = w := Any.strings_TrimPrefix Tryz.lays101 s p w
def Tryz.laysNm216_ren : Go.Shelf.Ren := ⟨fun | 16 => 135 | n => n, fun | 24 => 58 | 9 => 9 | 4 => 4 | n => n, fun | n => n⟩
theorem Tryz.laysNm216 : Go.Proofs.Lays2.n16 Tryz.prog Tryz.laysNm216_ren := {
  mixed := by kernel_rfl
  f16 := Tryz.func135.trans (congrArg some (by kernel_rfl))
  t4 := Tryz.underlying4
  a4 := Tryz.isAgg4
  z4 := Tryz.sizeOf4
  v4 := Tryz.zeroValue4
  t9 := Tryz.underlying9
  a9 := Tryz.isAgg9
  z9 := Tryz.sizeOf9
  v9 := Tryz.zeroValue9
  t24 := Tryz.underlying58
  a24 := Tryz.isAgg58
  z24 := Tryz.sizeOf58
  v24 := Tryz.zeroValue58
  i9 := by kernel_rfl }
open Go.RowKit Go.Lib in
theorem Tryz.slices_Clone_string (b off n c : Nat) (zs : List ByteArray) (w : World) (hz : n ≤ zs.length) (hbig : n * 16 ≤ 140737488355328) (hc : ∀ j, j < zs.length → w.cell? ⟨b, off + j, none⟩ = some (.string (zs.getD j ByteArray.empty))) :
  Calls Tryz.prog 135 #[.slice (some ⟨b, off, none⟩) n c] w fun e w' => ∃ v', e = .returned v' ∧ w'.ownsRow w.heap.size 9 1 v' n ((zs.take n).map (Value.string)) ∧ v' ≠ .slice none 0 0 ∧ Below w.heap.size w w' := Any.slices_Clone_string Tryz.laysNm216 b off n c zs w hz hbig hc
open Go.RowKit Go.Lib in
theorem Tryz.slices_Clone_string_nil (n c : Nat) (w : World) :
  Calls Tryz.prog 135 #[.slice none n c] w fun e w' => e = .returned (.slice none 0 0) ∧ w' = w := Any.slices_Clone_string_nil Tryz.laysNm216 n c w
open Go.RowKit Go.Lib in
theorem Tryz.slices_Clone_string_zero (a : Addr) (c : Nat) (w : World) :
  Calls Tryz.prog 135 #[.slice (some a) 0 c] w fun e w' => ∃ v', e = .returned v' ∧ w'.ownsRow w.heap.size 9 1 v' 0 [] ∧ v' ≠ .slice none 0 0 ∧ Below w.heap.size w w' := Any.slices_Clone_string_zero Tryz.laysNm216 a c w
end Go.Proofs
namespace Go.Proofs.YtgfijlamhjjecaaGreatDoor
open Go.RowKit
def sgN (l : Str) : Nat := l.countP signB
theorem compT_len (l : Str) : (compT l).length = l.length + sgN l := by
 induction l with
 | nil => rfl
 | cons c l ih =>
   have e : compT (c :: l) = escB c ++ compT l := by simp [compT]
   unfold sgN at *
   rw [e, List.length_append, ih, List.countP_cons, List.length_cons]
   unfold escB
   by_cases h : signB c = true
   · rw [if_pos h, if_pos h]; simp; omega
   · rw [if_neg h, if_neg h]; simp; omega
theorem compT_same {l : Str} (h : sgN l = 0) : compT l = l := by
 induction l with
 | nil => rfl
 | cons c l ih =>
   have e : compT (c :: l) = escB c ++ compT l := by simp [compT]
   unfold sgN at *
   rw [List.countP_cons] at h
   have hc : signB c = false := by
    cases hs : signB c with
    | true => rw [hs] at h; simp at h
    | false => rfl
   rw [e, ih (by omega)]
   unfold escB; rw [hc]; rfl
theorem compT_take {l : Str} {k : Nat} {c : UInt8} (h : l[k]? = some c) : compT (l.take (k + 1)) = compT (l.take k) ++ escB c := by
 rw [List.take_add_one, h]; simp [compT]
theorem sgN_take {l : Str} {k : Nat} {c : UInt8} (h : l[k]? = some c) : sgN (l.take (k + 1)) = sgN (l.take k) + if signB c then 1 else 0 := by
 unfold sgN
 rw [List.take_add_one, h]; simp [List.countP_append]
theorem sgN_le (l : Str) : sgN l ≤ l.length := List.countP_le_length
theorem sgN_take_le (l : Str) (k : Nat) : sgN (l.take k) ≤ l.length := Nat.le_trans (sgN_le _) (by rw [List.length_take]; omega)
theorem sgN_take_mono (l : Str) (k : Nat) : sgN (l.take k) ≤ sgN l := by
 have h : sgN (l.take k ++ l.drop k) = sgN l := by rw [List.take_append_drop]
 unfold sgN at *
 rw [List.countP_append] at h; omega
def cntD (l : Str) (k : Nat) : Nat := (((DE 0).take k).map fun c => l.count c).sum
theorem cntD_four (l : Str) : cntD l 4 = sgN l := by
 unfold cntD sgN DE
 show [l.count 63, l.count 39, l.count 58, l.count 43].sum = _
 induction l with
 | nil => rfl
 | cons c l ih =>
   rw [List.countP_cons, ← ih]
   simp only [List.count_cons, List.sum_cons, List.sum_nil]
   by_cases h : signB c = true
   · have h' := h
     unfold signB at h'
     simp only [Bool.or_eq_true, beq_iff_eq] at h'
     rcases h' with ((rfl | rfl) | rfl) | rfl <;> simp [signB] <;> omega
   · rw [if_neg h]
     rw [Bool.not_eq_true] at h
     unfold signB at h
     simp only [Bool.or_eq_false_iff] at h
     obtain ⟨⟨⟨h1, h2⟩, h3⟩, h4⟩ := h
     rw [h1, h2, h3, h4]
     simp
theorem cntD_succ (l : Str) (k : Nat) (h : k < 4) : cntD l (k + 1) = cntD l k + l.count ((DE 0).getD k 0) := by
 match k, h with
 | 0, _ => simp [cntD, DE]
 | 1, _ => simp [cntD, DE]
 | 2, _ => simp [cntD, DE]; omega
 | 3, _ => simp [cntD, DE]; omega
theorem cntD_mono (l : Str) (k : Nat) (h : k ≤ 4) : cntD l k ≤ sgN l := by
 rw [← cntD_four]
 match k, h with
 | 0, _ => simp [cntD]
 | 1, _ => simp [cntD, DE]
 | 2, _ => simp [cntD, DE]
 | 3, _ => simp [cntD, DE]
 | 4, _ => exact Nat.le_refl _
theorem mem_DE (c : UInt8) : c ∈ DE 0 ↔ signB c = true := by
 unfold DE signB
 simp only [List.take, Nat.sub_zero, List.mem_cons, List.not_mem_nil, or_false, Bool.or_eq_true, beq_iff_eq]
 constructor
 · rintro (h | h | h | h) <;> simp [h]
 · rintro (((h | h) | h) | h) <;> simp [h]
def FullAt (w : World) (g : Nat) : Prop := ∃ B C tv, TabX w B g (DE 0) (DE 0) C tv
theorem FullAt.cong {w w' : World} {g : Nat} (h : FullAt w g) (e : ∀ k, k < w.heap.size → w'.heap[k]? = w.heap[k]?) : FullAt w' g := by
 obtain ⟨B, C, tv, h⟩ := h; exact ⟨B, C, tv, h.cong fun k _ hk => e k hk⟩
theorem FullAt.lt {w : World} {g : Nat} (h : FullAt w g) : g < w.heap.size := by
 obtain ⟨B, C, tv, h⟩ := h; exact h.lt
theorem FullAt.no {w : World} {g : Nat} (h : FullAt w g) {c : UInt8} (hc : signB c = false) : w.cell? ⟨g, c.toNat, none⟩ = some (.slice none 0 0) := by
 obtain ⟨B, C, tv, h⟩ := h
 exact (h.cell _).trans (h.no c (fun hm => by rw [mem_DE, hc] at hm; cases hm))
theorem FullAt.yes {w : World} {g : Nat} (h : FullAt w g) {c : UInt8} (hc : signB c = true) : ∃ b cap, w.cell? ⟨g, c.toNat, none⟩ = some (.slice (some ⟨b, 0, none⟩) 2 cap) ∧ 2 ≤ cap ∧ cap ≤ maxLen ∧ w.cell? ⟨b, 0, none⟩ = some (bv 63) ∧ w.cell? ⟨b, 1, none⟩ = some (bv c) := by
 obtain ⟨B, C, tv, h⟩ := h
 obtain ⟨b, cap, a1, a2, a3, a4, a5, a6, a7, a8⟩ := h.yes c ((mem_DE c).2 hc)
 exact ⟨b, cap, (h.cell _).trans a1, a2, a3, a7, a8⟩
theorem FullAt.names {w : World} {g : Nat} (h : FullAt w g) : ∃ nb cap, w.cell? ⟨g, 256, none⟩ = some (.slice (some ⟨nb, 0, none⟩) 4 cap) ∧ 4 ≤ cap ∧ cap ≤ maxLen ∧ ∀ k, k < 4 → w.cell? ⟨nb, k, none⟩ = some (.string ⟨#[(DE 0).getD k 0]⟩) := by
 obtain ⟨B, C, tv, h⟩ := h
 have ho : w.ownsRow B 9 1 tv 4 [sv [63], sv [39], sv [58], sv [43]] := h.own
 obtain ⟨nb, cap, cur, rfl, _, hh, h1, h2, h3, _⟩ := own_form ho (by omega) (by omega)
 refine ⟨nb, cap, (h.cell 256).trans h.at_, h1, h2, fun k hk => ?_⟩
 match k, hk with
 | 0, _ => exact own_cell ho rfl
 | 1, _ => exact own_cell ho rfl
 | 2, _ => exact own_cell ho rfl
 | 3, _ => exact own_cell ho rfl
section
variable {S : Nat → Prop} {w : World} {B rb : Nat} {l : List Seg} {t : Str} {es : List (List Str)} {cs : List Str} {p q : Str} {lv pv ev cv : Value} {xs ys : List Value}
set_option maxRecDepth 100000 in
set_option maxHeartbeats 4000000 in
theorem put_ok (h : RB S w B rb l t es cs p p lv pv ev cv xs ys) (c : UInt8) (hB : B ≤ w.heap.size) (h256 : p.length < 256) : Calls Tryz.prog 218 #[.pointer (some ⟨rb, 0, none⟩), .int .u8 (c.toNat : Int)] w fun e w' => e = .returned (.tuple #[fnV rb 205, .int .i64 0]) ∧ (∃ pv', RB S w' B rb l t es cs (p ++ [c]) (p ++ [c]) lv pv' ev cv xs ys) ∧ Below B w w' := by
 have d1 := h.c1
 have f1 := h.fz 1
 have H := Lib.hid h
 have hrB := h.hB
 obtain ⟨pa, pc, hpe⟩ : ∃ pa pc, pv = .slice pa p.length pc := by
  obtain ⟨_, ⟨h1, h2⟩ | ⟨g, cap, _, h1, _⟩⟩ := h.hp
  · exact ⟨none, 0, by rw [h1, h2]⟩
  · exact ⟨_, cap, h1⟩
 subst hpe
 have hx := len_int p.length (by omega)
 have hrw := h.lt
 have nprn : (Value.slice pa p.length pc).ownBlock ≠ some rb := own_neR h.r h.hp (by decide)
 obtain ⟨cn, hcn⟩ : ∃ n : Int, (c.toNat : Int) = n := ⟨_, rfl⟩
 have HCN := Lib.hid hcn
 rw [hcn]
 clear h hcn
 obtain ⟨i0, hi, hz0, hz1, hz2⟩ := info_parts einfo_u8
 have HI := Lib.hid hi
 have HZ0 := Lib.hid hz0
 have HZ1 := Lib.hid hz1
 have HZ2 := Lib.hid hz2
 clear hi hz0 hz1 hz2
 go_enter Tryz.func218, Tryz.ntmps218
 go_upto_region 4 with ((with_reducible refine wpList_at (.call { callee := .builtin .append, args := #[.tmp 17, .tmp 19], argTypes := #[72, 72] }) rfl ?_); go_loud (refine wpList_append_own_at _ rfl _ _ 72 rfl B 5 i0 (.int .u8 0) 1 1 Tryz.underlying72 HI.out HZ0.out HZ1.out HZ2.out rfl (by decide) _ _ _ rfl (World.ownsRow.alloc (show w.ownsRow B 5 1 (.slice pa p.length pc) p.length (p.map bv) from H.out.hp) _) ⟨w.heap.size, 0, none⟩ 1 1 [.int .u8 cn] rfl rfl (cell_one_new _ _ _) (by simp [Value.oneCell']) (by unfold maxLen; omega) (by omega) (by simp; omega) ?_); intro pv' w1 he' hg' _ hk'; have HG1 : Hid ((w.alloc (.cells #[.int .u8 cn] 5)).grownBy w1 (Value.slice pa p.length pc).ownBlock) := hg'; have HK1 : Hid (pv'.ownBlock = (Value.slice pa p.length pc).ownBlock ∨ pv'.ownBlock = some (w.heap.size + 1)) := Lib.hid (by rcases hk' with h | h; exact .inl h; (right; rw [h]; simp)); have hea := blk_ag HG1.out hrw nprn; have d1' : w1.cell? ⟨rb, 1, none⟩ = some (.slice pa p.length pc) := (cell_ag hea).trans d1; have f1' : w1.frozen? ⟨rb, 1, none⟩ = false := (fz_ag hea).trans f1; have hs1 := hg'.size; simp at hs1; have HE1 : Hid (OwnS w1 B pv' (p ++ [c])) := Lib.hid (by unfold OwnS; rw [List.length_append, List.length_singleton, List.map_append, List.map_singleton, bv, HCN.out]; exact he'); obtain ⟨pg2, pc2, _, rfl, _⟩ := own_form (show w1.ownsRow B 5 1 pv' (p.length + 1) (p.map bv ++ [.int .u8 cn]) from he') (by omega) (by omega); clear he' hg' hk' hea)
 obtain ⟨wq, hwq⟩ : ∃ wq, w1.setCell ⟨rb, 1, none⟩ (.slice (some ⟨pg2, 0, none⟩) (p.length + 1) pc2) = wq := ⟨_, rfl⟩
 have HQ : Hid (RB S wq B rb l t es cs p (p ++ [c]) lv (.slice (some ⟨pg2, 0, none⟩) (p.length + 1) pc2) ev cv xs ys) := Lib.hid (by rw [← hwq]; exact H.out.grow HG1.out HE1.out HK1.out)
 have HBQ := Lib.hid (show Below B w wq by rw [← hwq]; exact (((Below.refl B w).alloc (by omega) _).grown HG1.out (by simp; omega) (fun k hk => (own_lt H.out.hp hk).1)).setCell hrB _)
 rw [hwq]
 have sq := HBQ.out.size
 clear hwq d1 f1 H HG1 HK1 HE1 d1' f1' hs1 nprn hrw hx
 obtain ⟨g, c1, b, c2, d, c3, rfl, rfl, rfl, a1, a2, b1, b2, c1', c2', _, k2, z2, k3, z3, k4, z4⟩ := HQ.out.tops
 have d0 := HQ.out.c0
 have d1 := HQ.out.c1
 have b2' := b2
 unfold maxLen at b2' c2'
 have hw : IntKind.i64.wrap ((es.length : Int) + 1 - 1) = (es.length : Int) := by rw [show (es.length : Int) + 1 - 1 = (es.length : Int) by omega]; exact IntWalk.i64_in _ (by omega)
 have hw2 : IntKind.i64.wrap (es.length : Int) = (es.length : Int) := IntWalk.i64_in _ (by omega)
 have h0 : (0 : Int) ≤ (es.length : Int) := by omega
 have h1 : (es.length : Int) < (es.length : Int) + 1 := by omega
 clear z2 z3
 refine wp_region_plan [(0, false), (5, false), (1, true), (2, false), (3, false), (4, false), (6, true), (7, false), (8, false), (9, false), (10, false), (11, false), (12, false), (13, false), (14, false)]
  (fun w' => w'.cell? ⟨g, l.length * 2 + 1, none⟩ = some (.slice (some ⟨b, 0, none⟩) (es.length + 1) c2) ∧ w'.cell? ⟨b, es.length, none⟩ = some (.slice (some ⟨d, 0, none⟩) (cs.length + 1) c3)) (by kernel_rfl) (by kernel_rfl) ⟨k2, k3⟩ ?_
 have k2' : wq.drew.cell? ⟨g, l.length * 2 + 1, none⟩ = some (.slice (some ⟨b, 0, none⟩) (es.length + 1) c2) := k2
 have k3' : wq.drew.cell? ⟨b, es.length, none⟩ = some (.slice (some ⟨d, 0, none⟩) (cs.length + 1) c3) := k3
 iterate 2 (refine' plan_val rfl rfl (fun w' hS => ?_) ?_; rotate_left; (focus (go_simp; rfl)); simp only [Act.put, List.setIfInBounds_toArray, List.set_cons_zero, List.set_cons_succ])
 refine plan_do rfl (fun K hK => ?_)
 go_wp2_with fail
 refine (top_any rb g l.length c1 wq.drew d0 a1 a2).mono ?_
 rintro e w' ⟨rfl, rfl⟩
 go_wp2_with fail
 refine hK _ _ ⟨k2, k3⟩ ?_
 clear hK K
 iterate 3 (refine' plan_val rfl rfl (fun w' hS => ?_) ?_; rotate_left; (focus (obtain ⟨hS1, hS2⟩ := hS; go_simp; rfl)); simp only [Act.put, List.setIfInBounds_toArray, List.set_cons_zero, List.set_cons_succ])
 refine plan_do rfl (fun K hK => ?_)
 go_wp2_with fail
 refine (top_any rb g l.length c1 wq.drew.drew d0 a1 a2).mono ?_
 rintro e w' ⟨rfl, rfl⟩
 go_wp2_with fail
 refine hK _ _ ⟨k2, k3⟩ ?_
 clear hK K
 iterate 8 (refine' plan_val rfl rfl (fun w' hS => ?_) ?_; rotate_left; (focus (obtain ⟨hS1, hS2⟩ := hS; go_simp; rfl)); simp only [Act.put, List.setIfInBounds_toArray, List.set_cons_zero, List.set_cons_succ])
 refine plan_nil ?_
 obtain ⟨wd, hwd⟩ : ∃ wd, wq.drew.drew.drew = wd := ⟨_, rfl⟩
 have HQ2 := Lib.hid (show RB S wd B rb l t es cs p (p ++ [c]) (.slice (some ⟨g, 0, none⟩) (l.length + 1) c1) (.slice (some ⟨pg2, 0, none⟩) (p.length + 1) pc2) (.slice (some ⟨b, 0, none⟩) (es.length + 1) c2) (.slice (some ⟨d, 0, none⟩) (cs.length + 1) c3) xs ys by rw [← hwd]; exact ((HQ.out.fr0 (Fr.drew _ _)).fr0 (Fr.drew _ _)).fr0 (Fr.drew _ _))
 have HBQ2 := Lib.hid (show Below B w wd by rw [← hwd]; exact HBQ.out.drew.drew.drew)
 have d1 : wd.cell? ⟨rb, 1, none⟩ = some (.slice (some ⟨pg2, 0, none⟩) (p.length + 1) pc2) := by rw [← hwd]; exact d1
 have k4 : wd.cell? ⟨d, cs.length, none⟩ = some (.string ⟨p.toArray⟩) := by rw [← hwd]; exact k4
 have z4 : wd.frozen? ⟨d, cs.length, none⟩ = false := by rw [← hwd]; exact z4
 rw [hwd]
 clear hwd HQ HBQ k2 k3 k2' k3' d0 hw hw2 h0 h1
 have hw : IntKind.i64.wrap ((cs.length : Int) + 1 - 1) = (cs.length : Int) := by rw [show (cs.length : Int) + 1 - 1 = (cs.length : Int) by omega]; exact IntWalk.i64_in _ (by omega)
 have hw2 : IntKind.i64.wrap (cs.length : Int) = (cs.length : Int) := IntWalk.i64_in _ (by omega)
 have h0 : (0 : Int) ≤ (cs.length : Int) := by omega
 have h1 : (cs.length : Int) < (cs.length : Int) + 1 := by omega
 have hcv : (convert 72 9 (.slice (some ⟨pg2, 0, none⟩) (p.length + 1) pc2)).run Tryz.prog wd = .ok (.string ⟨(p ++ [c]).toArray⟩) wd := conv_own HQ2.out.hp
 have HDB := Lib.hid (own_lt HQ2.out.hc (k := d) rfl).1
 go_wp2_with fail
 go_ret2
 exact ⟨rfl, ⟨_, HQ2.out.setlast⟩, HBQ2.out.setCell HDB.out _⟩
end
theorem ix_sign (c : UInt8) : ∃ i : Int, Lib.indexByte [43, 58, 39, 63] c = i ∧ decide (0 ≤ i) = signB c ∧ decide (i < 0) = !signB c := by
 refine ⟨_, rfl, ?_⟩
 unfold signB
 by_cases h1 : c = 43
 · subst h1; decide
 · by_cases h2 : c = 58
   · subst h2; decide
   · by_cases h3 : c = 39
     · subst h3; decide
     · by_cases h4 : c = 63
       · subst h4; decide
       · have e1 : (43 == c) = false := beq_eq_false_iff_ne.2 (Ne.symm h1)
         have e2 : (58 == c) = false := beq_eq_false_iff_ne.2 (Ne.symm h2)
         have e3 : (39 == c) = false := beq_eq_false_iff_ne.2 (Ne.symm h3)
         have e4 : (63 == c) = false := beq_eq_false_iff_ne.2 (Ne.symm h4)
         simp [Lib.indexByte, e1, e2, e3, e4, beq_eq_false_iff_ne.2 h1, beq_eq_false_iff_ne.2 h2, beq_eq_false_iff_ne.2 h3, beq_eq_false_iff_ne.2 h4]
theorem toU8 (c : UInt8) : ((c.toNat : Int)).toNat.toUInt8 = c := by simp
theorem ib_any (c : UInt8) (w : World) : ∃ i : Int, decide (0 ≤ i) = signB c ∧ decide (i < 0) = (!signB c) ∧ Calls Tryz.prog 217 #[.string ⟨#[43, 58, 39, 63]⟩, .int .u8 (c.toNat : Int)] w fun e w' => e = .returned (.int .i64 i) ∧ w = w' := by
 obtain ⟨i, h1, h2, h3⟩ := ix_sign c
 refine ⟨i, h2, h3, (Tryz.strings_IndexByte _ _ w).mono ?_⟩
 rintro e w' ⟨rfl, rfl⟩
 refine ⟨?_, rfl⟩
 rw [toU8]
 rw [← h1]
theorem nat_eq (c : UInt8) (k : UInt8) (h : c ≠ k) : ((c.toNat : Int) == (k.toNat : Int)) = false := by
 rw [beq_eq_false_iff_ne]; intro e; exact h (UInt8.toNat_inj.1 (Int.ofNat.inj e))
section
variable {w : World} {rb : Nat} {a b : Value} {R : World → Prop}
set_option maxHeartbeats 1000000 in
theorem comp_63 (rb : Nat) (w : World) : Calls Tryz.prog 205 #[.pointer (some ⟨rb, 0, none⟩), .int .u8 63] w fun e w' => e = .returned (.tuple #[fnV rb 216, .int .i64 0]) ∧ w = w' := by
 go_enter Tryz.func205, Tryz.ntmps205
 go_wp2_with fail
 go_ret2
 exact ⟨rfl, rfl⟩
set_option maxHeartbeats 1000000 in
theorem comp_sign (c : UInt8) (hs : signB c = true) (h63 : c ≠ 63) (h : Calls Tryz.prog 197 #[.pointer (some ⟨rb, 0, none⟩), .int .u8 (c.toNat : Int)] w fun e w' => e = .returned (.tuple #[a, b]) ∧ R w') : Calls Tryz.prog 205 #[.pointer (some ⟨rb, 0, none⟩), .int .u8 (c.toNat : Int)] w fun e w' => e = .returned (.tuple #[a, b]) ∧ R w' := by
 obtain ⟨i, i1, i2, hi⟩ := ib_any c w
 have H := Lib.hid h
 have HI := Lib.hid hi
 rw [hs] at i1
 have d1 : ((c.toNat : Int) == 63) = false := nat_eq c 63 h63
 clear h hi
 obtain ⟨n, hn⟩ : ∃ n : Int, (c.toNat : Int) = n := ⟨_, rfl⟩
 rw [hn] at H HI d1 ⊢
 clear hn
 go_enter Tryz.func205, Tryz.ntmps205
 go_wp2_with first | (go_at_call 217; refine HI.out.mono ?_; rintro e w' ⟨rfl, rfl⟩) | (go_at_call 197; refine H.out.mono ?_; rintro e w' ⟨rfl, hR⟩; have HR := Lib.hid hR; clear hR)
 go_ret2
 exact ⟨rfl, HR.out⟩
set_option maxHeartbeats 1000000 in
theorem comp_bad (rb : Nat) (w : World) (c : UInt8) (hs : signB c = false) (hb : c.toNat < 32 ∨ 126 < c.toNat) : Calls Tryz.prog 205 #[.pointer (some ⟨rb, 0, none⟩), .int .u8 (c.toNat : Int)] w fun e w' => e = .returned (.tuple #[.nilFunc, .int .i64 30]) ∧ w = w' := by
 obtain ⟨i, i1, i2, hi⟩ := ib_any c w
 have h63 : c ≠ 63 := by rintro rfl; exact absurd hs (by decide)
 have HI := Lib.hid hi
 rw [hs] at i1
 have d1 : ((c.toNat : Int) == 63) = false := nat_eq c 63 h63
 clear hi
 obtain ⟨n, hn⟩ : ∃ n : Nat, c.toNat = n := ⟨_, rfl⟩
 rw [hn] at HI d1 hb ⊢
 clear hn
 by_cases h32 : n < 32
 · have d2 : decide ((n : Int) < 32) = true := by rw [decide_eq_true_eq]; omega
   go_enter Tryz.func205, Tryz.ntmps205
   go_wp2_with (go_at_call 217; refine HI.out.mono ?_; rintro e w' ⟨rfl, rfl⟩)
   go_ret2
   exact ⟨rfl, rfl⟩
 · have d2 : decide ((n : Int) < 32) = false := by rw [decide_eq_false_iff_not]; omega
   have d3 : decide ((126 : Int) < (n : Int)) = true := by rw [decide_eq_true_eq]; omega
   go_enter Tryz.func205, Tryz.ntmps205
   go_wp2_with (go_at_call 217; refine HI.out.mono ?_; rintro e w' ⟨rfl, rfl⟩)
   go_ret2
   exact ⟨rfl, rfl⟩
set_option maxHeartbeats 1000000 in
theorem comp_put (c : UInt8) (hs : signB c = false) (hb : ¬ (c.toNat < 32 ∨ 126 < c.toNat)) (h : Calls Tryz.prog 218 #[.pointer (some ⟨rb, 0, none⟩), .int .u8 (c.toNat : Int)] w fun e w' => e = .returned (.tuple #[a, b]) ∧ R w') : Calls Tryz.prog 205 #[.pointer (some ⟨rb, 0, none⟩), .int .u8 (c.toNat : Int)] w fun e w' => e = .returned (.tuple #[a, b]) ∧ R w' := by
 obtain ⟨i, i1, i2, hi⟩ := ib_any c w
 have h63 : c ≠ 63 := by rintro rfl; exact absurd hs (by decide)
 have H := Lib.hid h
 have HI := Lib.hid hi
 rw [hs] at i1
 have d1 : ((c.toNat : Int) == 63) = false := nat_eq c 63 h63
 have d2 : decide ((c.toNat : Int) < 32) = false := by rw [decide_eq_false_iff_not]; omega
 have d3 : decide ((126 : Int) < (c.toNat : Int)) = false := by rw [decide_eq_false_iff_not]; omega
 clear h hi hb
 obtain ⟨n, hn⟩ : ∃ n : Int, (c.toNat : Int) = n := ⟨_, rfl⟩
 rw [hn] at H HI d1 d2 d3 ⊢
 clear hn
 go_enter Tryz.func205, Tryz.ntmps205
 go_wp2_with first | (go_at_call 217; refine HI.out.mono ?_; rintro e w' ⟨rfl, rfl⟩) | (go_at_call 218; refine H.out.mono ?_; rintro e w' ⟨rfl, hR⟩; have HR := Lib.hid hR; clear hR)
 go_ret2
 exact ⟨rfl, HR.out⟩
set_option maxHeartbeats 1000000 in
theorem rel_bad (rb : Nat) (w : World) (c : UInt8) (hs : signB c = false) : Calls Tryz.prog 216 #[.pointer (some ⟨rb, 0, none⟩), .int .u8 (c.toNat : Int)] w fun e w' => e = .returned (.tuple #[.nilFunc, .int .i64 30]) ∧ w = w' := by
 obtain ⟨i, i1, i2, hi⟩ := ib_any c w
 have HI := Lib.hid hi
 rw [hs] at i2
 simp only [Bool.not_false] at i2
 clear hi
 obtain ⟨n, hn⟩ : ∃ n : Int, (c.toNat : Int) = n := ⟨_, rfl⟩
 rw [hn] at HI ⊢
 clear hn
 go_enter Tryz.func216, Tryz.ntmps216
 go_wp2_with (go_at_call 217; refine HI.out.mono ?_; rintro e w' ⟨rfl, rfl⟩)
 go_ret2
 exact ⟨rfl, rfl⟩
set_option maxHeartbeats 1000000 in
theorem rel_put (c : UInt8) (hs : signB c = true) (h : Calls Tryz.prog 218 #[.pointer (some ⟨rb, 0, none⟩), .int .u8 (c.toNat : Int)] w fun e w' => e = .returned (.tuple #[a, b]) ∧ R w') : Calls Tryz.prog 216 #[.pointer (some ⟨rb, 0, none⟩), .int .u8 (c.toNat : Int)] w fun e w' => e = .returned (.tuple #[a, b]) ∧ R w' := by
 obtain ⟨i, i1, i2, hi⟩ := ib_any c w
 have H := Lib.hid h
 have HI := Lib.hid hi
 rw [hs] at i2
 simp only [Bool.not_true] at i2
 clear h hi
 obtain ⟨n, hn⟩ : ∃ n : Int, (c.toNat : Int) = n := ⟨_, rfl⟩
 rw [hn] at H HI ⊢
 clear hn
 go_enter Tryz.func216, Tryz.ntmps216
 go_wp2_with first | (go_at_call 217; refine HI.out.mono ?_; rintro e w' ⟨rfl, rfl⟩) | (go_at_call 218; refine H.out.mono ?_; rintro e w' ⟨rfl, hR⟩; have HR := Lib.hid hR; clear hR)
 go_ret2
 exact ⟨rfl, HR.out⟩
set_option maxHeartbeats 1000000 in
theorem bhd_bad (rb : Nat) (w : World) (c : UInt8) (h1 : c ≠ 43) (h2 : c ≠ 39) : Calls Tryz.prog 187 #[.pointer (some ⟨rb, 0, none⟩), .int .u8 (c.toNat : Int)] w fun e w' => e = .returned (.tuple #[.nilFunc, .int .i64 30]) ∧ w = w' := by
 have d1 : ((c.toNat : Int) == 43) = false := nat_eq c 43 h1
 have d2 : ((c.toNat : Int) == 39) = false := nat_eq c 39 h2
 obtain ⟨n, hn⟩ : ∃ n : Int, (c.toNat : Int) = n := ⟨_, rfl⟩
 rw [hn] at d1 d2 ⊢
 clear hn
 have d1 : (n != 43) = true := by simp [bne, d1]
 have d2 : (n != 39) = true := by simp [bne, d2]
 go_enter Tryz.func187, Tryz.ntmps187
 go_wp2_with fail
 go_ret2
 exact ⟨rfl, rfl⟩
set_option maxHeartbeats 1000000 in
theorem bhd_39 (h : Calls Tryz.prog 197 #[.pointer (some ⟨rb, 0, none⟩), .int .u8 39] w fun e w' => e = .returned (.tuple #[a, b]) ∧ R w') : Calls Tryz.prog 187 #[.pointer (some ⟨rb, 0, none⟩), .int .u8 39] w fun e w' => e = .returned (.tuple #[a, b]) ∧ R w' := by
 have H := Lib.hid h
 clear h
 go_enter Tryz.func187, Tryz.ntmps187
 go_wp2_with (go_at_call 197; refine H.out.mono ?_; rintro e w' ⟨rfl, hR⟩; have HR := Lib.hid hR; clear hR)
 go_ret2
 exact ⟨rfl, HR.out⟩
set_option maxHeartbeats 1000000 in
theorem bhd_43 (h : Calls Tryz.prog 197 #[.pointer (some ⟨rb, 0, none⟩), .int .u8 43] w fun e w' => e = .returned (.tuple #[a, b]) ∧ R w') : Calls Tryz.prog 187 #[.pointer (some ⟨rb, 0, none⟩), .int .u8 43] w fun e w' => e = .returned (.tuple #[a, b]) ∧ R w' := by
 have H := Lib.hid h
 clear h
 go_enter Tryz.func187, Tryz.ntmps187
 go_wp2_with (go_at_call 197; refine H.out.mono ?_; rintro e w' ⟨rfl, hR⟩; have HR := Lib.hid hR; clear hR)
 go_ret2
 exact ⟨rfl, HR.out⟩
end
theorem enc_one (c : UInt8) (h : c.toNat < 128) : Utf8.encode (c.toNat : Int) = ⟨#[c]⟩ := by
 unfold Utf8.encode
 have hv : Utf8.valid (c.toNat : Int) = true := by unfold Utf8.valid; simp; omega
 simp [hv, h]
theorem conv_one (c : UInt8) (h : c.toNat < 128) (w : World) : (convert 5 9 (.int .u8 (c.toNat : Int))).run Tryz.prog w = .ok (.string ⟨#[c]⟩) w := by
 rw [run_convert_int_string w 5 9 .u8 _ (by rw [Tryz.underlying5]; rfl) Tryz.underlying9, enc_one c h]
section
variable {S : Nat → Prop} {w : World} {B rb : Nat} {l : List Seg} {t : Str} {es : List (List Str)} {cs : List Str} {p q : Str} {lv pv ev cv : Value} {xs ys : List Value}
set_option maxHeartbeats 1000000 in
theorem tag_bad (rb : Nat) (w : World) (c : UInt8) (hc : tagB c = false) : Calls Tryz.prog 168 #[.pointer (some ⟨rb, 0, none⟩), .int .u8 (c.toNat : Int)] w fun e w' => e = .returned (.tuple #[.nilFunc, .int .i64 30]) ∧ w = w' := by
 have H := Lib.hid (tagged_any c w)
 rw [hc] at H
 obtain ⟨n, hn⟩ : ∃ n : Int, (c.toNat : Int) = n := ⟨_, rfl⟩
 rw [hn] at H ⊢
 clear hn
 go_enter Tryz.func168, Tryz.ntmps168
 go_wp2_with (go_at_call 134; refine H.out.mono ?_; rintro e w' ⟨rfl, rfl⟩)
 go_ret2
 exact ⟨rfl, rfl⟩
theorem tag_lt {c : UInt8} (h : tagB c = true) : c.toNat < 128 := by
 unfold tagB at h
 simp at h
 omega
set_option maxRecDepth 100000 in
set_option maxHeartbeats 2000000 in
theorem tag_ok {xs0 : List Value} (h : RA S w B rb (l ++ [⟨t, []⟩]) lv pv (xs0 ++ [.slice none 0 0]) p) (_hB : B ≤ w.heap.size) (c : UInt8) (hc : tagB c = true) (ht : t.length < 3) : Calls Tryz.prog 168 #[.pointer (some ⟨rb, 0, none⟩), .int .u8 (c.toNat : Int)] w fun e w' => e = .returned (.tuple #[fnV rb (if t.length + 1 < 3 then 168 else 187), .int .i64 0]) ∧ RA S w' B rb (l ++ [⟨t ++ [c], []⟩]) lv pv (xs0 ++ [.slice none 0 0]) p ∧ Below B w w' := by
 obtain ⟨g, cap, x, xs1, rfl, hc1, hc2, hxx, hx0, k1, k2, z1, z2, _⟩ := h.top
 have d0 := h.c0
 have H := Lib.hid h
 have HT := Lib.hid (tagged_any c w)
 have hcv := fun w => conv_one c (tag_lt hc) w
 rw [hc] at HT
 obtain ⟨F, hF⟩ : ∃ F : Nat, (if t.length + 1 < 3 then 168 else 187) = F := ⟨_, rfl⟩
 rw [hF]
 have HF := Lib.hid hF
 clear hF
 obtain ⟨n, hn⟩ : ∃ n : Int, (c.toNat : Int) = n := ⟨_, rfl⟩
 rw [hn] at HT hcv ⊢
 clear h hn hxx k2 z2
 replace k1 : w.cell? ⟨g, l.length * 2, none⟩ = some (.string ⟨t.toArray⟩) := k1
 have hsz : (ByteArray.mk t.toArray).size + (ByteArray.mk #[c]).size ≤ maxLen := by
  show t.toArray.size + 1 ≤ maxLen
  simp [maxLen]; omega
 go_enter Tryz.func168, Tryz.ntmps168
 go_upto_region 4 with first | (go_at_call 134; refine HT.out.mono ?_; rintro e w' ⟨rfl, rfl⟩) | (go_at_call 186; refine (top_any rb g l.length cap _ d0 hc1 hc2).mono ?_; rintro e w' ⟨rfl, rfl⟩)
 have eS : Value.string ((ByteArray.mk t.toArray) ++ (ByteArray.mk #[c])) = sv (t ++ [c]) := by
  unfold sv
  rw [show (#[c] : Array UInt8) = [c].toArray from rfl, ByteArray.mk_append_mk]
 rw [eS]
 have HQ := Lib.hid ((H.out.settag (t' := t ++ [c])).fr0 (Fr.drew [] _))
 have HBQ := Lib.hid (((Below.refl B w).setCell (p := ⟨g, l.length * 2, none⟩) (own_lt H.out.hl (k := g) rfl).1 (sv (t ++ [c]))).drew)
 obtain ⟨wq, hwq⟩ : ∃ wq, (w.setCell ⟨g, l.length * 2, none⟩ (sv (t ++ [c]))).drew = wq := ⟨_, rfl⟩
 rw [hwq] at HQ HBQ ⊢
 clear hwq H d0 k1 z1 hsz
 obtain ⟨g', cap', x', xs2, he, -, -, -, -, k1, -, -, -, -⟩ := HQ.out.top
 cases he
 have d0 := HQ.out.c0
 replace k1 : wq.cell? ⟨g, l.length * 2, none⟩ = some (.string ⟨(t ++ [c]).toArray⟩) := k1
 have hlen : (((ByteArray.mk (t ++ [c]).toArray).size : Nat) : Int) = (t.length : Int) + 1 := by show (((t ++ [c]).toArray.size : Nat) : Int) = _; simp
 by_cases h3 : t.length + 1 < 3
 · have d3 : decide ((t.length : Int) + 1 < 3) = true := by rw [decide_eq_true_eq]; omega
   go_wp2_with (go_at_call 186; refine (top_any rb g l.length cap _ d0 hc1 hc2).mono ?_; rintro e w' ⟨rfl, rfl⟩)
   go_ret2
   exact ⟨by rw [← HF.out, if_pos h3]; rfl, HQ.out.fr0 (Fr.drew _ _), HBQ.out.drew⟩
 · have d3 : decide ((t.length : Int) + 1 < 3) = false := by rw [decide_eq_false_iff_not]; omega
   go_wp2_with (go_at_call 186; refine (top_any rb g l.length cap _ d0 hc1 hc2).mono ?_; rintro e w' ⟨rfl, rfl⟩)
   go_ret2
   exact ⟨by rw [← HF.out, if_neg h3]; rfl, HQ.out.fr0 (Fr.drew _ _), HBQ.out.drew⟩
end
theorem cell_two_new (w : World) (x y : Value) (t : TypeId) : ∀ (j : Nat) (u : Value), [x, y][j]? = some u → (w.alloc (.cells #[x, y] t)).cell? ((⟨w.heap.size, 0, none⟩ : Addr).add j) = some u := by
 intro j u hj
 match j, hj with
 | 0, hj => simp at hj; subst hj; simp [Addr.add]
 | 1, hj => simp at hj; subst hj; simp [Addr.add]
section
variable {S : Nat → Prop} {w : World} {B rb : Nat} {l : List Seg} {t : Str} {es : List (List Str)} {cs : List Str} {p q : Str} {lv pv ev cv : Value} {xs ys : List Value}
theorem RA.lform (h : RA S w B rb l lv pv xs p) : ∃ ao cap, lv = .slice ao l.length cap := by
 obtain ⟨_, ⟨h1, h2⟩ | ⟨g, cap, _, h1, _⟩⟩ := h.hl
 · exact ⟨none, 0, by rw [h1, h2]⟩
 · exact ⟨_, cap, h1⟩
set_option maxRecDepth 100000 in
set_option maxHeartbeats 2000000 in
theorem btw_nl (h : RA S w B rb l lv pv xs p) (h0 : l ≠ []) : Calls Tryz.prog 144 #[.pointer (some ⟨rb, 0, none⟩), .int .u8 10] w fun e w' => e = .returned (.tuple #[fnV rb 144, .int .i64 0]) ∧ w = w' := by
 have d0 := h.c0
 obtain ⟨ao, cap, rfl⟩ := h.lform
 have h1 : 0 < l.length := List.length_pos_iff.2 h0
 have d1 : decide ((0 : Int) < (l.length : Int)) = true := by rw [decide_eq_true_eq]; omega
 clear h
 go_enter Tryz.func144, Tryz.ntmps144
 go_wp2_with fail
 go_ret2
 exact ⟨rfl, rfl⟩
set_option maxRecDepth 100000 in
set_option maxHeartbeats 2000000 in
theorem btw_full (h : RA S w B rb l lv pv xs p) (c : UInt8) (hc : c ≠ 10) (h64 : l.length = 64) : Calls Tryz.prog 144 #[.pointer (some ⟨rb, 0, none⟩), .int .u8 (c.toNat : Int)] w fun e w' => e = .returned (.tuple #[.nilFunc, .int .i64 2]) ∧ w = w' := by
 have d0 := h.c0
 obtain ⟨ao, cap, rfl⟩ := h.lform
 rw [h64] at d0
 have d1 : ((c.toNat : Int) == 10) = false := nat_eq c 10 hc
 obtain ⟨n, hn⟩ : ∃ n : Int, (c.toNat : Int) = n := ⟨_, rfl⟩
 rw [hn] at d1 ⊢
 clear h hn
 go_enter Tryz.func144, Tryz.ntmps144
 go_wp2_with fail
 go_ret2
 exact ⟨rfl, rfl⟩
set_option maxRecDepth 100000 in
set_option maxHeartbeats 4000000 in
theorem btw_tag (h : RA S w B rb l lv pv xs p) (hB : B ≤ w.heap.size) (c : UInt8) (hc : ¬ (c = 10 ∧ l ≠ [])) (h64 : l.length < 64) {a b : Value} {R : World → Prop}
  (hT : ∀ w1 lv', RA S w1 B rb (l ++ [⟨[], []⟩]) lv' pv (xs ++ [.slice none 0 0]) p → Below B w w1 → Calls Tryz.prog 168 #[.pointer (some ⟨rb, 0, none⟩), .int .u8 (c.toNat : Int)] w1 fun e w' => e = .returned (.tuple #[a, b]) ∧ R w') :
  Calls Tryz.prog 144 #[.pointer (some ⟨rb, 0, none⟩), .int .u8 (c.toNat : Int)] w fun e w' => e = .returned (.tuple #[a, b]) ∧ R w' := by
 have d0 := h.c0
 have f0 := h.fz 0
 have H := Lib.hid h
 have HT := Lib.hid hT
 have hrw := h.lt
 have hrB := h.hB
 have nlr := own_neR h.r h.hl (by decide)
 obtain ⟨la, lc, rfl⟩ := h.lform
 have d64 : ((l.length : Int) == 64) = false := by rw [beq_eq_false_iff_ne]; omega
 obtain ⟨n, hn⟩ : ∃ n : Int, (c.toNat : Int) = n := ⟨_, rfl⟩
 have dd : (n == 10) = false ∨ (n = 10 ∧ decide ((0 : Int) < (l.length : Int)) = false) := by
  by_cases h10 : c = 10
  · subst h10
    refine .inr ⟨hn.symm, ?_⟩
    rw [decide_eq_false_iff_not]
    have : l = [] := Classical.byContradiction fun h => hc ⟨rfl, h⟩
    simp [this]
  · exact .inl (by rw [← hn]; exact nat_eq c 10 h10)
 rw [hn] at HT ⊢
 clear h hT hn hc
 obtain ⟨i0, hi, hz0, hz1, hz2⟩ := info_parts einfo_seg
 have HI := Lib.hid hi
 have HZ0 := Lib.hid hz0
 have HZ1 := Lib.hid hz1
 have HZ2 := Lib.hid hz2
 clear hi hz0 hz1 hz2
 rcases dd with d1 | ⟨rfl, d1⟩
 · go_enter Tryz.func144, Tryz.ntmps144
   go_upto_region 6 with ((with_reducible refine wpList_at (.call { callee := .builtin .append, args := #[.tmp 30, .tmp 32], argTypes := #[39, 39] }) rfl ?_); go_loud (refine wpList_append_own_at _ rfl _ _ 39 rfl B 94 i0 (.agg #[.string ⟨#[]⟩, .slice none 0 0]) 2 40 Tryz.underlying39 HI.out HZ0.out HZ1.out HZ2.out rfl (by decide) _ _ _ rfl (World.ownsRow.alloc (show w.ownsRow B 94 2 (.slice la l.length lc) l.length (segCells l xs) from H.out.hl) _) ⟨w.heap.size, 0, none⟩ 1 1 [.string ⟨#[]⟩, .slice none 0 0] rfl rfl (cell_two_new _ _ _ _) (by simp [Value.oneCell']) (by unfold maxLen; omega) (by omega) (by simp; omega) ?_); intro lv' w1 he' hg' _ hk'; have HG1 : Hid ((w.alloc (.cells #[.string ⟨#[]⟩, .slice none 0 0] 94)).grownBy w1 (Value.slice la l.length lc).ownBlock) := hg'; have HK1 : Hid (lv'.ownBlock = (Value.slice la l.length lc).ownBlock ∨ lv'.ownBlock = some (w.heap.size + 1)) := Lib.hid (by rcases hk' with h | h; exact .inl h; (right; rw [h]; simp)); have hea := blk_ag HG1.out hrw nlr; have f0' : w1.frozen? ⟨rb, 0, none⟩ = false := (fz_ag hea).trans f0; have d0' : w1.cell? ⟨rb, 0, none⟩ = some (.slice la l.length lc) := (cell_ag hea).trans d0; have hs1 := hg'.size; simp at hs1; have HE1 : Hid (w1.ownsRow B 94 2 lv' (l.length + 1) (segCells l xs ++ [sv [], .slice none 0 0])) := Lib.hid he'; obtain ⟨pg2, pc2, _, rfl, _⟩ := own_form he' (by omega) (by omega); clear he' hg' hk' hea)
   have HQ := Lib.hid (H.out.newseg HG1.out HE1.out (by rw [World.size_alloc]; exact HK1.out))
   have HBQ := Lib.hid (H.out.fr_newseg (lv' := .slice (some ⟨pg2, 0, none⟩) (l.length + 1) pc2) HG1.out hB)
   obtain ⟨wq, hwq⟩ : ∃ wq, w1.setCell ⟨rb, 0, none⟩ (.slice (some ⟨pg2, 0, none⟩) (l.length + 1) pc2) = wq := ⟨_, rfl⟩
   rw [hwq] at HQ HBQ ⊢
   clear hwq f0 d0 f0' d0' HG1 HE1 HK1 hs1
   have HC := Lib.hid (HT.out wq _ HQ.out HBQ.out)
   go_wp2_with (go_at_call 168; refine HC.out.mono ?_; rintro e w' ⟨rfl, hR⟩; have HR := Lib.hid hR; clear hR)
   go_ret2
   exact ⟨rfl, HR.out⟩
 · have d2 : ¬ 0 < l.length := fun h => by rw [decide_eq_false_iff_not] at d1; omega
   go_enter Tryz.func144, Tryz.ntmps144
   go_upto_region 6 with ((with_reducible refine wpList_at (.call { callee := .builtin .append, args := #[.tmp 30, .tmp 32], argTypes := #[39, 39] }) rfl ?_); go_loud (refine wpList_append_own_at _ rfl _ _ 39 rfl B 94 i0 (.agg #[.string ⟨#[]⟩, .slice none 0 0]) 2 40 Tryz.underlying39 HI.out HZ0.out HZ1.out HZ2.out rfl (by decide) _ _ _ rfl (World.ownsRow.alloc (show w.ownsRow B 94 2 (.slice la l.length lc) l.length (segCells l xs) from H.out.hl) _) ⟨w.heap.size, 0, none⟩ 1 1 [.string ⟨#[]⟩, .slice none 0 0] rfl rfl (cell_two_new _ _ _ _) (by simp [Value.oneCell']) (by unfold maxLen; omega) (by omega) (by simp; omega) ?_); intro lv' w1 he' hg' _ hk'; have HG1 : Hid ((w.alloc (.cells #[.string ⟨#[]⟩, .slice none 0 0] 94)).grownBy w1 (Value.slice la l.length lc).ownBlock) := hg'; have HK1 : Hid (lv'.ownBlock = (Value.slice la l.length lc).ownBlock ∨ lv'.ownBlock = some (w.heap.size + 1)) := Lib.hid (by rcases hk' with h | h; exact .inl h; (right; rw [h]; simp)); have hea := blk_ag HG1.out hrw nlr; have f0' : w1.frozen? ⟨rb, 0, none⟩ = false := (fz_ag hea).trans f0; have d0' : w1.cell? ⟨rb, 0, none⟩ = some (.slice la l.length lc) := (cell_ag hea).trans d0; have hs1 := hg'.size; simp at hs1; have HE1 : Hid (w1.ownsRow B 94 2 lv' (l.length + 1) (segCells l xs ++ [sv [], .slice none 0 0])) := Lib.hid he'; obtain ⟨pg2, pc2, _, rfl, _⟩ := own_form he' (by omega) (by omega); clear he' hg' hk' hea)
   have HQ := Lib.hid (H.out.newseg HG1.out HE1.out (by rw [World.size_alloc]; exact HK1.out))
   have HBQ := Lib.hid (H.out.fr_newseg (lv' := .slice (some ⟨pg2, 0, none⟩) (l.length + 1) pc2) HG1.out hB)
   obtain ⟨wq, hwq⟩ : ∃ wq, w1.setCell ⟨rb, 0, none⟩ (.slice (some ⟨pg2, 0, none⟩) (l.length + 1) pc2) = wq := ⟨_, rfl⟩
   rw [hwq] at HQ HBQ ⊢
   clear hwq f0 d0 f0' d0' HG1 HE1 HK1 hs1
   have HC := Lib.hid (HT.out wq _ HQ.out HBQ.out)
   go_wp2_with (go_at_call 168; refine HC.out.mono ?_; rintro e w' ⟨rfl, hR⟩; have HR := Lib.hid hR; clear hR)
   go_ret2
   exact ⟨rfl, HR.out⟩
end
def fnE : EC → Nat
 | .btw _ => 144
 | .tag _ _ => 168
 | .bhd _ _ => 187
 | .cmp _ _ _ _ _ => 205
 | .rel _ _ _ _ _ => 216
def Rd (w : World) (B rb : Nat) : EC → Prop
 | .btw l => ∃ (S : Nat → Prop) (lv pv : Value) (xs : List Value) (p : Str), RA S w B rb l lv pv xs p ∧ l.length ≤ 64
 | .tag l t => ∃ (S : Nat → Prop) (lv pv : Value) (xs0 : List Value) (p : Str), RA S w B rb (l ++ [⟨t, []⟩]) lv pv (xs0 ++ [.slice none 0 0]) p ∧ t.length < 3 ∧ l.length < 64
 | .bhd l t => ∃ (S : Nat → Prop) (lv pv : Value) (xs0 : List Value) (p : Str), RA S w B rb (l ++ [⟨t, []⟩]) lv pv (xs0 ++ [.slice none 0 0]) p ∧ l.length < 64
 | .cmp l t es cs p => ∃ (S : Nat → Prop) (lv pv ev cv : Value) (xs ys : List Value), RB S w B rb l t es cs p p lv pv ev cv xs ys ∧ l.length < 64 ∧ es.length + 1 ≤ 16 ∧ cs.length + 1 ≤ 8 ∧ p.length ≤ 256
 | .rel l t es cs p => ∃ (S : Nat → Prop) (lv pv ev cv : Value) (xs ys : List Value), RB S w B rb l t es cs p p lv pv ev cv xs ys ∧ l.length < 64 ∧ es.length + 1 ≤ 16 ∧ cs.length + 1 ≤ 8 ∧ p.length ≤ 256
def StepSays (B rb : Nat) (w : World) : ER → Ending → World → Prop
 | .err k, e, w' => e = .returned (.tuple #[.nilFunc, .int .i64 k]) ∧ Below B w w'
 | .ok s, e, w' => e = .returned (.tuple #[fnV rb (fnE s), .int .i64 0]) ∧ Rd w' B rb s ∧ Below B w w'
section
variable {w : World} {B rb : Nat} {l : List Seg} {t : Str} {es : List (List Str)} {cs : List Str} {p : Str}
abbrev stepArgs (rb : Nat) (c : UInt8) : Array Value := #[.pointer (some ⟨rb, 0, none⟩), .int .u8 (c.toNat : Int)]
theorem step_tag {S : Nat → Prop} {lv pv : Value} {xs0 : List Value} {q : Str} {w0 : World} (h : RA S w B rb (l ++ [⟨t, []⟩]) lv pv (xs0 ++ [.slice none 0 0]) q) (ht : t.length < 3) (hl : l.length < 64) (hb : Below B w0 w) (hB : B ≤ w0.heap.size) (c : UInt8) :
  Calls Tryz.prog 168 (stepArgs rb c) w (StepSays B rb w0 (tagS l t c)) := by
 unfold tagS
 by_cases hc : tagB c = false
 · rw [if_pos hc]
   exact (tag_bad rb w c hc).mono fun e w' h => ⟨h.1, h.2 ▸ hb⟩
 · rw [if_neg hc]
   have hc' : tagB c = true := by simpa using hc
   have hB' : B ≤ w.heap.size := Nat.le_trans hB hb.size
   refine (tag_ok h hB' c hc' ht).mono fun e w' h' => ?_
   obtain ⟨h1, h2, h3⟩ := h'
   by_cases h3' : t.length + 1 < 3
   · rw [if_pos h3'] at h1 ⊢
     exact ⟨h1, ⟨S, lv, pv, xs0, q, h2, by simpa using h3', hl⟩, hb.trans h3⟩
   · rw [if_neg h3'] at h1 ⊢
     exact ⟨h1, ⟨S, lv, pv, xs0, q, h2, hl⟩, hb.trans h3⟩
theorem step_put {S : Nat → Prop} {lv pv ev cv : Value} {xs ys : List Value} (h : RB S w B rb l t es cs p p lv pv ev cv xs ys) (hl : l.length < 64) (h16 : es.length + 1 ≤ 16) (h8 : cs.length + 1 ≤ 8) (hp : p.length ≤ 256) (hB : B ≤ w.heap.size) (c : UInt8) :
  Calls Tryz.prog 218 (stepArgs rb c) w (StepSays B rb w (putS l t es cs p c)) := by
 unfold putS
 by_cases h256 : p.length = 256
 · rw [if_pos h256]
   exact put_full h c h256
 · rw [if_neg h256]
   refine (put_ok h c hB (by omega)).mono fun e w' h' => ?_
   obtain ⟨h1, ⟨pv', h2⟩, h3⟩ := h'
   exact ⟨h1, ⟨S, lv, pv', ev, cv, xs, ys, h2, hl, h16, h8, by simp; omega⟩, h3⟩
theorem step_sign {S : Nat → Prop} {lv pv ev cv : Value} {xs ys : List Value} (h : RB S w B rb l t es cs p p lv pv ev cv xs ys) (hl : l.length < 64) (h16 : es.length + 1 ≤ 16) (h8 : cs.length + 1 ≤ 8) (hB : B ≤ w.heap.size) (c : UInt8) (hc : signB c = true) (h63 : c ≠ 63) :
  Calls Tryz.prog 197 (stepArgs rb c) w (StepSays B rb w (signS l t es cs p c)) := by
 unfold signS
 by_cases h39 : c = 39
 · subst h39
   rw [if_pos rfl]
   refine (sign_B39 h hB).mono fun e w' h' => ?_
   obtain ⟨h1, h2, h3⟩ := h'
   exact ⟨h1, ⟨_, _, _, _, _, h2, by simp; omega⟩, h3⟩
 · rw [if_neg h39]
   by_cases h43 : c = 43
   · subst h43
     rw [if_pos rfl]
     by_cases he : es.length + 1 = 16
     · rw [if_pos he]
       exact sign_B43_full h hB he
     · rw [if_neg he]
       refine (sign_B43_next h hB (by omega)).mono fun e w' h' => ?_
       obtain ⟨h1, ⟨ev', cv', h2⟩, h3⟩ := h'
       exact ⟨h1, ⟨_, _, _, _, _, _, _, h2, hl, by simp; omega, by simp, by simp⟩, h3⟩
   · rw [if_neg h43]
     have h58 : c = 58 := by
      unfold signB at hc
      simpa [h39, h43, h63] using hc
     subst h58
     by_cases he : cs.length + 1 = 8
     · rw [if_pos he]
       exact sign_B58_full h hB he
     · rw [if_neg he]
       refine (sign_B58_next h hB (by omega)).mono fun e w' h' => ?_
       obtain ⟨h1, ⟨cv', h2⟩, h3⟩ := h'
       exact ⟨h1, ⟨_, _, _, _, _, _, _, h2, hl, h16, by simp; omega, by simp⟩, h3⟩
end
theorem says_form {B rb : Nat} {w : World} {r : ER} {f : Nat} {args : Array Value} (h : Calls Tryz.prog f args w (StepSays B rb w r)) : ∃ a b, ∃ R : World → Prop, (Calls Tryz.prog f args w fun e w' => e = .returned (.tuple #[a, b]) ∧ R w') ∧ ∀ e w', (e = .returned (.tuple #[a, b]) ∧ R w') → StepSays B rb w r e w' := by
 cases r with
 | err k => exact ⟨.nilFunc, .int .i64 k, fun w' => Below B w w', h, fun e w' h => h⟩
 | ok s => exact ⟨fnV rb (fnE s), .int .i64 0, fun w' => Rd w' B rb s ∧ Below B w w', h, fun e w' h => h⟩
theorem rd_step {w : World} {B rb : Nat} {s : EC} (h : Rd w B rb s) (hB : B ≤ w.heap.size) (c : UInt8) : Calls Tryz.prog (fnE s) (stepArgs rb c) w (StepSays B rb w (stepE s c)) := by
 cases s with
 | btw l =>
   obtain ⟨S, lv, pv, xs, p, h, hl⟩ := h
   show Calls Tryz.prog 144 _ w (StepSays B rb w (if c = 10 ∧ l ≠ [] then .ok (.btw l) else if l.length = 64 then .err 2 else tagS l [] c))
   by_cases hc : c = 10 ∧ l ≠ []
   · rw [if_pos hc]
     obtain ⟨rfl, hl0⟩ := hc
     exact (btw_nl h hl0).mono fun e w' h' => ⟨h'.1, ⟨S, lv, pv, xs, p, h'.2 ▸ h, hl⟩, h'.2 ▸ Below.refl B w⟩
   · rw [if_neg hc]
     by_cases h64 : l.length = 64
     · rw [if_pos h64]
       have hc10 : c ≠ 10 := fun e => hc ⟨e, fun e' => by rw [e'] at h64; exact absurd h64 (by decide)⟩
       exact (btw_full h c hc10 h64).mono fun e w' h' => ⟨h'.1, h'.2 ▸ Below.refl B w⟩
     · rw [if_neg h64]
       have key : ∀ (a b : Value) (R : World → Prop), (∀ w1 lv', RA S w1 B rb (l ++ [⟨[], []⟩]) lv' pv (xs ++ [.slice none 0 0]) p → Below B w w1 → Calls Tryz.prog 168 (stepArgs rb c) w1 fun e w' => e = .returned (.tuple #[a, b]) ∧ R w') → Calls Tryz.prog 144 (stepArgs rb c) w fun e w' => e = .returned (.tuple #[a, b]) ∧ R w' :=
        fun a b R hT => btw_tag h hB c hc (by omega) hT
       cases hr : tagS l [] c with
       | err k =>
         refine (key .nilFunc (.int .i64 k) (fun w' => Below B w w') fun w1 lv' h1 hb => ?_).mono fun e w' h' => h'
         have := step_tag h1 (by simp) (by omega) hb hB c
         rw [hr] at this
         exact this
       | ok s' =>
         refine (key (fnV rb (fnE s')) (.int .i64 0) (fun w' => Rd w' B rb s' ∧ Below B w w') fun w1 lv' h1 hb => ?_).mono fun e w' h' => h'
         have := step_tag h1 (by simp) (by omega) hb hB c
         rw [hr] at this
         exact this
 | tag l t =>
   obtain ⟨S, lv, pv, xs, p, h, ht, hl⟩ := h
   exact step_tag h ht hl (Below.refl B w) hB c
 | bhd l t =>
   obtain ⟨S, lv, pv, xs, p, h, hl⟩ := h
   show Calls Tryz.prog 187 _ w (StepSays B rb w (if c = 39 then .ok (.btw (l ++ [⟨t, []⟩])) else if c = 43 then .ok (.cmp l t [] [] []) else .err 30))
   by_cases h39 : c = 39
   · subst h39
     rw [if_pos rfl]
     refine (bhd_39 (R := fun w' => RA S w' B rb (l ++ [⟨t, []⟩]) lv (.slice none 0 0) (xs ++ [.slice none 0 0]) [] ∧ Below B w w') (sign_A39 h hB)).mono fun e w' h' => ?_
     exact ⟨h'.1, ⟨_, _, _, _, _, h'.2.1, by simp; omega⟩, h'.2.2⟩
   · rw [if_neg h39]
     by_cases h43 : c = 43
     · subst h43
       rw [if_pos rfl]
       refine (bhd_43 (R := fun w' => (∃ ev cv, RB S w' B rb l t [] [] [] [] lv (.slice none 0 0) ev cv xs []) ∧ Below B w w') (sign_A43 h hB)).mono fun e w' h' => ?_
       obtain ⟨h1, ⟨ev, cv, h2⟩, h3⟩ := h'
       exact ⟨h1, ⟨_, _, _, _, _, _, _, h2, hl, by simp, by simp, by simp⟩, h3⟩
     · rw [if_neg h43]
       exact (bhd_bad rb w c h43 h39).mono fun e w' h' => ⟨h'.1, h'.2 ▸ Below.refl B w⟩
 | cmp l t es cs p =>
   obtain ⟨S, lv, pv, ev, cv, xs, ys, h, hl, h16, h8, hp⟩ := h
   show Calls Tryz.prog 205 _ w (StepSays B rb w (if c = 63 then .ok (.rel l t es cs p) else if signB c = true then signS l t es cs p c else if c.toNat < 32 ∨ 126 < c.toNat then .err 30 else putS l t es cs p c))
   by_cases h63 : c = 63
   · subst h63
     rw [if_pos rfl]
     exact (comp_63 rb w).mono fun e w' h' => ⟨h'.1, ⟨_, _, _, _, _, _, _, h'.2 ▸ h, hl, h16, h8, hp⟩, h'.2 ▸ Below.refl B w⟩
   · rw [if_neg h63]
     by_cases hs : signB c = true
     · rw [if_pos hs]
       obtain ⟨a, b, R, h1, h2⟩ := says_form (step_sign h hl h16 h8 hB c hs h63)
       exact (comp_sign c hs h63 h1).mono h2
     · rw [if_neg hs]
       have hs' : signB c = false := by simpa using hs
       by_cases hb : c.toNat < 32 ∨ 126 < c.toNat
       · rw [if_pos hb]
         exact (comp_bad rb w c hs' hb).mono fun e w' h' => ⟨h'.1, h'.2 ▸ Below.refl B w⟩
       · rw [if_neg hb]
         obtain ⟨a, b, R, h1, h2⟩ := says_form (step_put h hl h16 h8 hp hB c)
         exact (comp_put c hs' hb h1).mono h2
 | rel l t es cs p =>
   obtain ⟨S, lv, pv, ev, cv, xs, ys, h, hl, h16, h8, hp⟩ := h
   show Calls Tryz.prog 216 _ w (StepSays B rb w (if signB c = true then putS l t es cs p c else .err 30))
   by_cases hs : signB c = true
   · rw [if_pos hs]
     obtain ⟨a, b, R, h1, h2⟩ := says_form (step_put h hl h16 h8 hp hB c)
     exact (rel_put c hs h1).mono h2
   · rw [if_neg hs]
     have hs' : signB c = false := by simpa using hs
     exact (rel_bad rb w c hs').mono fun e w' h' => ⟨h'.1, h'.2 ▸ Below.refl B w⟩
end Go.Proofs.YtgfijlamhjjecaaGreatDoor
