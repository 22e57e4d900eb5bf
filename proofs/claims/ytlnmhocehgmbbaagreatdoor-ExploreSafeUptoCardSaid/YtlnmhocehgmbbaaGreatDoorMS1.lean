/-
  The shelf's contracts at this place's program, laid in plain words (its facts were printed by the shelf's own tool for this seat): strings.Join, strings.Builder, strconv, slices.Sort of strings. No condition.
-/
import Derived.Shelf.Strings.OnBuilder
import Derived.Shelf.LaysM
import Derived.Shelf.Strconv.Itoa3
import Derived.Shelf.Sort.Plain
import Derived.Shelf.Slices.In.SortNone
import Derived.Test.YtlnmhocehgmbbaaGreatDoorProg
import Derived.WalkKit
import Derived.WalkSpells
import Derived.WalkLawsBesides
import Derived.Deep.QuietTactic
import Derived.BigQuiet
import Derived.Lib.Hide
import Derived.Deep.Light
namespace Go.Proofs.YtlnmhocehgmbbaaGreatDoor
open Go.Shelf
def sh_lays169_ren : Go.Shelf.Ren := ⟨fun | 169 => 113 | n => n, fun | 70 => 163 | 9 => 9 | 0 => 0 | 72 => 166 | 37 => 164 | 127 => 193 | 3 => 3 | 5 => 5 | n => n, fun | n => n⟩
theorem sh_lays169 : Go.Proofs.Lays.n169 Tryz.prog sh_lays169_ren := {
  mixed := by kernel_rfl
  f169 := Tryz.func113.trans (congrArg some (by kernel_rfl))
  t0 := Tryz.underlying0
  a0 := Tryz.isAgg0
  z0 := Tryz.sizeOf0
  v0 := Tryz.zeroValue0
  t3 := Tryz.underlying3
  a3 := Tryz.isAgg3
  z3 := Tryz.sizeOf3
  v3 := Tryz.zeroValue3
  t9 := Tryz.underlying9
  a9 := Tryz.isAgg9
  z9 := Tryz.sizeOf9
  v9 := Tryz.zeroValue9
  t37 := Tryz.underlying164
  a37 := Tryz.isAgg164
  z37 := Tryz.sizeOf164
  v37 := Tryz.zeroValue164
  t70 := Tryz.underlying163
  a70 := Tryz.isAgg163
  z70 := Tryz.sizeOf163
  v70 := Tryz.zeroValue163
  t72 := Tryz.underlying166
  a72 := Tryz.isAgg166
  z72 := Tryz.sizeOf166
  v72 := Tryz.zeroValue166
  t127 := Tryz.underlying193
  a127 := Tryz.isAgg193
  z127 := Tryz.sizeOf193
  v127 := Tryz.zeroValue193 }
theorem sh_Builder_Extra_169 : Builder.Extra Tryz.prog sh_lays169_ren := {
  sizeBuilder := by kernel_rfl
  liesBuilder := by kernel_rfl
  t5 := Tryz.underlying5
  a5 := Tryz.isAgg5
  z5 := Tryz.sizeOf5
  v5 := Tryz.zeroValue5
  infoByte := by kernel_rfl
  cellsByte := by kernel_rfl
  sizeByte := by kernel_rfl
  neB5 := by decide }
open Go.RowKit in
theorem sh_Builder_String_any (B b : Nat) (l : List UInt8) (w : World) (h : Lib.IsBuilder 166 5 B b (Lib.byteCells l) w) (hBw : B ≤ w.heap.size) :
    Calls Tryz.prog 113 #[.pointer (some ⟨b, 0, none⟩)] w fun e w' => e = .returned (.string ⟨l.toArray⟩) ∧ Below B w w' := Any.Builder_String_any sh_lays169 sh_Builder_Extra_169 B b l w h hBw
def sh_lays156_ren : Go.Shelf.Ren := ⟨fun | 156 => 80 | 165 => 116 | 166 => 108 | 167 => 109 | 169 => 113 | 240 => 137 | 241 => 151 | 276 => 159 | 277 => 171 | n => n, fun | 31 => 34 | 9 => 9 | 3 => 3 | 4 => 4 | 0 => 0 | 20 => 20 | 72 => 166 | 76 => 169 | 70 => 163 | 37 => 164 | 75 => 168 | 127 => 193 | 164 => 209 | 5 => 5 | 80 => 175 | n => n, fun | n => n⟩
theorem sh_lays156 : Go.Proofs.Lays.n156 Tryz.prog sh_lays156_ren := {
  mixed := by kernel_rfl
  f156 := Tryz.func80.trans (congrArg some (by kernel_rfl))
  f165 := Tryz.func116.trans (congrArg some (by kernel_rfl))
  f166 := Tryz.func108.trans (congrArg some (by kernel_rfl))
  f169 := Tryz.func113.trans (congrArg some (by kernel_rfl))
  f240 := Tryz.func137.trans (congrArg some (by kernel_rfl))
  f241 := Tryz.func151.trans (congrArg some (by kernel_rfl))
  f276 := Tryz.func159.trans (congrArg some (by kernel_rfl))
  f277 := Tryz.func171.trans (congrArg some (by kernel_rfl))
  t0 := Tryz.underlying0
  a0 := Tryz.isAgg0
  z0 := Tryz.sizeOf0
  v0 := Tryz.zeroValue0
  t3 := Tryz.underlying3
  a3 := Tryz.isAgg3
  z3 := Tryz.sizeOf3
  v3 := Tryz.zeroValue3
  t4 := Tryz.underlying4
  a4 := Tryz.isAgg4
  z4 := Tryz.sizeOf4
  v4 := Tryz.zeroValue4
  t9 := Tryz.underlying9
  a9 := Tryz.isAgg9
  z9 := Tryz.sizeOf9
  v9 := Tryz.zeroValue9
  t20 := Tryz.underlying20
  a20 := Tryz.isAgg20
  z20 := Tryz.sizeOf20
  v20 := Tryz.zeroValue20
  t31 := Tryz.underlying34
  a31 := Tryz.isAgg34
  z31 := Tryz.sizeOf34
  v31 := Tryz.zeroValue34
  t37 := Tryz.underlying164
  a37 := Tryz.isAgg164
  z37 := Tryz.sizeOf164
  v37 := Tryz.zeroValue164
  t70 := Tryz.underlying163
  a70 := Tryz.isAgg163
  z70 := Tryz.sizeOf163
  v70 := Tryz.zeroValue163
  t72 := Tryz.underlying166
  a72 := Tryz.isAgg166
  z72 := Tryz.sizeOf166
  v72 := Tryz.zeroValue166
  t75 := Tryz.underlying168
  a75 := Tryz.isAgg168
  z75 := Tryz.sizeOf168
  v75 := Tryz.zeroValue168
  t76 := Tryz.underlying169
  a76 := Tryz.isAgg169
  z76 := Tryz.sizeOf169
  v76 := Tryz.zeroValue169
  t127 := Tryz.underlying193
  a127 := Tryz.isAgg193
  z127 := Tryz.sizeOf193
  v127 := Tryz.zeroValue193
  t164 := Tryz.underlying209
  a164 := Tryz.isAgg209
  z164 := Tryz.sizeOf209
  v164 := Tryz.zeroValue209 }
theorem sh_Builder_Extra_156 : Builder.Extra Tryz.prog sh_lays156_ren := {
  sizeBuilder := by kernel_rfl
  liesBuilder := by kernel_rfl
  t5 := Tryz.underlying5
  a5 := Tryz.isAgg5
  z5 := Tryz.sizeOf5
  v5 := Tryz.zeroValue5
  infoByte := by kernel_rfl
  cellsByte := by kernel_rfl
  sizeByte := by kernel_rfl
  neB5 := by decide }
open Go.RowKit in
theorem sh_strings_Join_none (a : Option Addr) (c : Nat) (sep : ByteArray) (w : World) :
    Calls Tryz.prog 80 #[.slice a 0 c, .string sep] w fun e w' => e = .returned (.string ⟨#[]⟩) ∧ w' = w := Any.strings_Join_none sh_lays156 sh_Builder_Extra_156 a c sep w
open Go.RowKit in
theorem sh_strings_Join (bk o c : Nat) (xs : List ByteArray) (sep : ByteArray) (w : World) (hcells : ∀ (j : Nat) x, xs[j]? = some x → w.cell? ⟨bk, o + j, none⟩ = some (.string x)) (hbk : bk < w.heap.size) (hN : xs.length ≤ 140737488355328) (hcap : xs.length ≤ c) (hlen : (Lib.join (xs.map (·.data.toList)) sep.data.toList).length ≤ 140737488355328) :
    Calls Tryz.prog 80 #[.slice (some ⟨bk, o, none⟩) xs.length c, .string sep] w fun e w' => e = .returned (.string ⟨(Lib.join (xs.map (·.data.toList)) sep.data.toList).toArray⟩) ∧ Below w.heap.size w w' := Any.strings_Join sh_lays156 sh_Builder_Extra_156 bk o c xs sep w hcells hbk hN hcap hlen
def sh_lays283_ren : Go.Shelf.Ren := ⟨fun | 283 => 161 | n => n, fun | 3 => 3 | 9 => 9 | 4 => 4 | n => n, fun | n => n⟩
theorem sh_lays283 : Go.Proofs.Lays.n283 Tryz.prog sh_lays283_ren := {
  mixed := by kernel_rfl
  f283 := Tryz.func161.trans (congrArg some (by kernel_rfl))
  t3 := Tryz.underlying3
  a3 := Tryz.isAgg3
  z3 := Tryz.sizeOf3
  v3 := Tryz.zeroValue3
  t4 := Tryz.underlying4
  a4 := Tryz.isAgg4
  z4 := Tryz.sizeOf4
  v4 := Tryz.zeroValue4
  t9 := Tryz.underlying9
  a9 := Tryz.isAgg9
  z9 := Tryz.sizeOf9
  v9 := Tryz.zeroValue9 }
open Go.Lib in
theorem sh_internal_strconv_small (i : Nat) (h : i < 100) (w : World) :
    Calls Tryz.prog 161 #[.int .i64 i] w fun e w' => e = .returned (.string ⟨(Lib.decDigits i).toArray⟩) ∧ w' = w := Any.internal_strconv_small sh_lays283 i h w
def sh_laysM284_ren : Go.Shelf.Ren := ⟨fun | 284 => 162 | 129 => 150 | 317 => 172 | 318 => 173 | n => n, fun | 53 => 22 | 3 => 3 | 212 => 226 | 0 => 0 | 4 => 4 | 46 => 178 | 5 => 5 | 9 => 9 | n => n, fun | 17 => 0 | n => n⟩
theorem sh_laysM284 : Go.Proofs.LaysM.n284 Tryz.prog sh_laysM284_ren := {
  mixed := by kernel_rfl
  f129 := Tryz.func150.trans (congrArg some (by kernel_rfl))
  f284 := Tryz.func162.trans (congrArg some (by kernel_rfl))
  f317 := Tryz.func172.trans (congrArg some (by kernel_rfl))
  f318 := Tryz.func173.trans (congrArg some (by kernel_rfl))
  t0 := Tryz.underlying0
  a0 := Tryz.isAgg0
  z0 := Tryz.sizeOf0
  v0 := Tryz.zeroValue0
  t3 := Tryz.underlying3
  a3 := Tryz.isAgg3
  z3 := Tryz.sizeOf3
  v3 := Tryz.zeroValue3
  t4 := Tryz.underlying4
  a4 := Tryz.isAgg4
  z4 := Tryz.sizeOf4
  v4 := Tryz.zeroValue4
  t5 := Tryz.underlying5
  a5 := Tryz.isAgg5
  z5 := Tryz.sizeOf5
  v5 := Tryz.zeroValue5
  t9 := Tryz.underlying9
  a9 := Tryz.isAgg9
  z9 := Tryz.sizeOf9
  v9 := Tryz.zeroValue9
  t46 := Tryz.underlying178
  a46 := Tryz.isAgg178
  z46 := Tryz.sizeOf178
  v46 := Tryz.zeroValue178
  t53 := Tryz.underlying22
  a53 := Tryz.isAgg22
  z53 := Tryz.sizeOf22
  v53 := Tryz.zeroValue22
  t212 := Tryz.underlying226
  a212 := Tryz.isAgg226
  z212 := Tryz.sizeOf226
  v212 := Tryz.zeroValue226
  g17 := by kernel_rfl
  i0 := by kernel_rfl
  i3 := by kernel_rfl
  i4 := by kernel_rfl
  i5 := by kernel_rfl
  i9 := by kernel_rfl
  i46 := by kernel_rfl
  i53 := by kernel_rfl
  i212 := by kernel_rfl
  m17 := by kernel_rfl }
open Go.Lib in
theorem sh_internal_strconv_numDigits (u : Nat) (h1 : 1 ≤ u) (h2 : u < 18446744073709551616) (w : World) (htab : Lib.TabIs Tryz.prog w "internal/strconv.uint64pow10" .u64 Lib.pow10Tab) :
    Calls Tryz.prog 162 #[.int .u64 u] w fun e w' => e = .returned (.int .i64 (Lib.nDigits u)) ∧ w' = w := Any.internal_strconv_numDigits sh_laysM284 u h1 h2 w htab
def sh_lays285_ren : Go.Shelf.Ren := ⟨fun | 285 => 163 | n => n, fun | 37 => 164 | 53 => 22 | 3 => 3 | 4 => 4 | 51 => 203 | 9 => 9 | 5 => 5 | 0 => 0 | n => n, fun | n => n⟩
theorem sh_lays285 : Go.Proofs.Lays.n285 Tryz.prog sh_lays285_ren := {
  mixed := by kernel_rfl
  f285 := Tryz.func163.trans (congrArg some (by kernel_rfl))
  t0 := Tryz.underlying0
  a0 := Tryz.isAgg0
  z0 := Tryz.sizeOf0
  v0 := Tryz.zeroValue0
  t3 := Tryz.underlying3
  a3 := Tryz.isAgg3
  z3 := Tryz.sizeOf3
  v3 := Tryz.zeroValue3
  t4 := Tryz.underlying4
  a4 := Tryz.isAgg4
  z4 := Tryz.sizeOf4
  v4 := Tryz.zeroValue4
  t5 := Tryz.underlying5
  a5 := Tryz.isAgg5
  z5 := Tryz.sizeOf5
  v5 := Tryz.zeroValue5
  t9 := Tryz.underlying9
  a9 := Tryz.isAgg9
  z9 := Tryz.sizeOf9
  v9 := Tryz.zeroValue9
  t37 := Tryz.underlying164
  a37 := Tryz.isAgg164
  z37 := Tryz.sizeOf164
  v37 := Tryz.zeroValue164
  t51 := Tryz.underlying203
  a51 := Tryz.isAgg203
  z51 := Tryz.sizeOf203
  v51 := Tryz.zeroValue203
  t53 := Tryz.underlying22
  a53 := Tryz.isAgg22
  z53 := Tryz.sizeOf22
  v53 := Tryz.zeroValue22 }
open Go.RowKit Go.Sort Go.Lib in
theorem sh_internal_strconv_formatBase10 (blk off cap : Nat) (u : Nat) (d : Array UInt8) (w : World) (hH : Holds (fun (b : UInt8) => Value.int .u8 (b.toNat : Int)) w blk off d) (hu : u < 10 ^ d.size) (hu64 : u < 18446744073709551616) (hsz : d.size < 4611686018427387904) :
    Calls Tryz.prog 163 #[.slice (some ⟨blk, off, none⟩) d.size cap, .int .u64 u] w fun e w' =>
      e = .returned (.tuple #[]) ∧ ∃ (n v' : Nat) (dk : Array UInt8), w' = (putRow (fun (b : UInt8) => Value.int .u8 (b.toNat : Int)) w blk off dk).drewN n ∧ FmtInv d.size u 0 v' dk := Any.internal_strconv_formatBase10 sh_lays285 blk off cap u d w hH hu hu64 hsz
def sh_lays171_ren : Go.Shelf.Ren := ⟨fun | 171 => 110 | 243 => 138 | 246 => 160 | 283 => 161 | 284 => 162 | 285 => 163 | 286 => 164 | 129 => 150 | 317 => 172 | 318 => 173 | 319 => 174 | 320 => 175 | 337 => 177 | 338 => 178 | n => n, fun | 3 => 3 | 9 => 9 | 2 => 2 | 4 => 4 | 171 => 212 | 0 => 0 | 53 => 22 | 37 => 164 | 5 => 5 | 173 => 214 | 212 => 226 | 51 => 203 | 20 => 20 | 213 => 227 | 46 => 178 | 232 => 231 | 233 => 232 | n => n, fun | 17 => 0 | 18 => 2 | 19 => 3 | n => n⟩
theorem sh_lays171 : Go.Proofs.Lays.n171 Tryz.prog sh_lays171_ren := {
  mixed := by kernel_rfl
  f129 := Tryz.func150.trans (congrArg some (by kernel_rfl))
  f171 := Tryz.func110.trans (congrArg some (by kernel_rfl))
  f243 := Tryz.func138.trans (congrArg some (by kernel_rfl))
  f246 := Tryz.func160.trans (congrArg some (by kernel_rfl))
  f283 := Tryz.func161.trans (congrArg some (by kernel_rfl))
  f284 := Tryz.func162.trans (congrArg some (by kernel_rfl))
  f285 := Tryz.func163.trans (congrArg some (by kernel_rfl))
  f286 := Tryz.func164.trans (congrArg some (by kernel_rfl))
  f317 := Tryz.func172.trans (congrArg some (by kernel_rfl))
  f318 := Tryz.func173.trans (congrArg some (by kernel_rfl))
  f319 := Tryz.func174.trans (congrArg some (by kernel_rfl))
  f320 := Tryz.func175.trans (congrArg some (by kernel_rfl))
  f337 := Tryz.func177.trans (congrArg some (by kernel_rfl))
  f338 := Tryz.func178.trans (congrArg some (by kernel_rfl))
  t0 := Tryz.underlying0
  a0 := Tryz.isAgg0
  z0 := Tryz.sizeOf0
  v0 := Tryz.zeroValue0
  t2 := Tryz.underlying2
  a2 := Tryz.isAgg2
  z2 := Tryz.sizeOf2
  v2 := Tryz.zeroValue2
  t3 := Tryz.underlying3
  a3 := Tryz.isAgg3
  z3 := Tryz.sizeOf3
  v3 := Tryz.zeroValue3
  t4 := Tryz.underlying4
  a4 := Tryz.isAgg4
  z4 := Tryz.sizeOf4
  v4 := Tryz.zeroValue4
  t5 := Tryz.underlying5
  a5 := Tryz.isAgg5
  z5 := Tryz.sizeOf5
  v5 := Tryz.zeroValue5
  t9 := Tryz.underlying9
  a9 := Tryz.isAgg9
  z9 := Tryz.sizeOf9
  v9 := Tryz.zeroValue9
  t20 := Tryz.underlying20
  a20 := Tryz.isAgg20
  z20 := Tryz.sizeOf20
  v20 := Tryz.zeroValue20
  t37 := Tryz.underlying164
  a37 := Tryz.isAgg164
  z37 := Tryz.sizeOf164
  v37 := Tryz.zeroValue164
  t46 := Tryz.underlying178
  a46 := Tryz.isAgg178
  z46 := Tryz.sizeOf178
  v46 := Tryz.zeroValue178
  t51 := Tryz.underlying203
  a51 := Tryz.isAgg203
  z51 := Tryz.sizeOf203
  v51 := Tryz.zeroValue203
  t53 := Tryz.underlying22
  a53 := Tryz.isAgg22
  z53 := Tryz.sizeOf22
  v53 := Tryz.zeroValue22
  t171 := Tryz.underlying212
  a171 := Tryz.isAgg212
  z171 := Tryz.sizeOf212
  v171 := Tryz.zeroValue212
  t173 := Tryz.underlying214
  a173 := Tryz.isAgg214
  z173 := Tryz.sizeOf214
  v173 := Tryz.zeroValue214
  t212 := Tryz.underlying226
  a212 := Tryz.isAgg226
  z212 := Tryz.sizeOf226
  v212 := Tryz.zeroValue226
  t213 := Tryz.underlying227
  a213 := Tryz.isAgg227
  z213 := Tryz.sizeOf227
  t232 := Tryz.underlying231
  a232 := Tryz.isAgg231
  z232 := Tryz.sizeOf231
  v232 := Tryz.zeroValue231
  t233 := Tryz.underlying232
  a233 := Tryz.isAgg232
  z233 := Tryz.sizeOf232
  v233 := Tryz.zeroValue232
  g17 := by kernel_rfl
  g18 := by kernel_rfl
  g19 := by kernel_rfl }
open Go.RowKit Go.Sort Go.Lib in
theorem sh_strconv_Itoa_small (i : Nat) (hi : i < 100) (w : World) :
    Calls Tryz.prog 110 #[.int .i64 i] w fun e w' => e = .returned (.string ⟨(Lib.decDigits i).toArray⟩) ∧ w' = w := Any.strconv_Itoa_small sh_lays171 i hi w
def sh_lays190_ren : Go.Shelf.Ren := ⟨fun | 190 => 79 | 125 => 115 | 258 => 114 | 128 => 149 | 129 => 150 | 302 => 140 | 303 => 141 | 304 => 142 | 305 => 143 | 306 => 144 | 307 => 145 | 308 => 146 | 309 => 147 | 310 => 148 | 333 => 165 | 329 => 166 | 330 => 167 | 334 => 168 | 335 => 169 | 336 => 170 | 344 => 176 | n => n, fun | 31 => 34 | 9 => 9 | 3 => 3 | 46 => 178 | 0 => 0 | 51 => 203 | 53 => 22 | 4 => 4 | 183 => 196 | 182 => 195 | 131 => 68 | 5 => 5 | 218 => 216 | 222 => 220 | 228 => 228 | 229 => 229 | n => n, fun | n => n⟩
theorem sh_lays190 : Go.Proofs.Lays.n190 Tryz.prog sh_lays190_ren := {
  mixed := by kernel_rfl
  f125 := Tryz.func115.trans (congrArg some (by kernel_rfl))
  f128 := Tryz.func149.trans (congrArg some (by kernel_rfl))
  f129 := Tryz.func150.trans (congrArg some (by kernel_rfl))
  f190 := Tryz.func79.trans (congrArg some (by kernel_rfl))
  f258 := Tryz.func114.trans (congrArg some (by kernel_rfl))
  f302 := Tryz.func140.trans (congrArg some (by kernel_rfl))
  f303 := Tryz.func141.trans (congrArg some (by kernel_rfl))
  f304 := Tryz.func142.trans (congrArg some (by kernel_rfl))
  f305 := Tryz.func143.trans (congrArg some (by kernel_rfl))
  f306 := Tryz.func144.trans (congrArg some (by kernel_rfl))
  f307 := Tryz.func145.trans (congrArg some (by kernel_rfl))
  f308 := Tryz.func146.trans (congrArg some (by kernel_rfl))
  f309 := Tryz.func147.trans (congrArg some (by kernel_rfl))
  f310 := Tryz.func148.trans (congrArg some (by kernel_rfl))
  f329 := Tryz.func166.trans (congrArg some (by kernel_rfl))
  f330 := Tryz.func167.trans (congrArg some (by kernel_rfl))
  f333 := Tryz.func165.trans (congrArg some (by kernel_rfl))
  f334 := Tryz.func168.trans (congrArg some (by kernel_rfl))
  f335 := Tryz.func169.trans (congrArg some (by kernel_rfl))
  f336 := Tryz.func170.trans (congrArg some (by kernel_rfl))
  f344 := Tryz.func176.trans (congrArg some (by kernel_rfl))
  t0 := Tryz.underlying0
  a0 := Tryz.isAgg0
  z0 := Tryz.sizeOf0
  v0 := Tryz.zeroValue0
  t3 := Tryz.underlying3
  a3 := Tryz.isAgg3
  z3 := Tryz.sizeOf3
  v3 := Tryz.zeroValue3
  t4 := Tryz.underlying4
  a4 := Tryz.isAgg4
  z4 := Tryz.sizeOf4
  v4 := Tryz.zeroValue4
  t5 := Tryz.underlying5
  a5 := Tryz.isAgg5
  z5 := Tryz.sizeOf5
  v5 := Tryz.zeroValue5
  t9 := Tryz.underlying9
  a9 := Tryz.isAgg9
  z9 := Tryz.sizeOf9
  v9 := Tryz.zeroValue9
  t31 := Tryz.underlying34
  a31 := Tryz.isAgg34
  z31 := Tryz.sizeOf34
  v31 := Tryz.zeroValue34
  t46 := Tryz.underlying178
  a46 := Tryz.isAgg178
  z46 := Tryz.sizeOf178
  v46 := Tryz.zeroValue178
  t51 := Tryz.underlying203
  a51 := Tryz.isAgg203
  z51 := Tryz.sizeOf203
  v51 := Tryz.zeroValue203
  t53 := Tryz.underlying22
  a53 := Tryz.isAgg22
  z53 := Tryz.sizeOf22
  v53 := Tryz.zeroValue22
  t131 := Tryz.underlying68
  a131 := Tryz.isAgg68
  z131 := Tryz.sizeOf68
  v131 := Tryz.zeroValue68
  t182 := Tryz.underlying195
  a182 := Tryz.isAgg195
  z182 := Tryz.sizeOf195
  v182 := Tryz.zeroValue195
  t183 := Tryz.underlying196
  a183 := Tryz.isAgg196
  z183 := Tryz.sizeOf196
  v183 := Tryz.zeroValue196
  t218 := Tryz.underlying216
  a218 := Tryz.isAgg216
  z218 := Tryz.sizeOf216
  v218 := Tryz.zeroValue216
  t222 := Tryz.underlying220
  a222 := Tryz.isAgg220
  z222 := Tryz.sizeOf220
  v222 := Tryz.zeroValue220
  t228 := Tryz.underlying228
  a228 := Tryz.isAgg228
  z228 := Tryz.sizeOf228
  v228 := Tryz.zeroValue228
  t229 := Tryz.underlying229
  a229 := Tryz.isAgg229
  z229 := Tryz.sizeOf229
  v229 := Tryz.zeroValue229 }
open Go.Sort Go.RowKit in
theorem sh_slices_Sort_string (blk off cap : Nat) (ss : List (List UInt8)) (w : World) (hH : Holds encStr w blk off ss.toArray) (hblk : blk < w.heap.size) (hsz : ss.length < 4611686018427387904) :
    Calls Tryz.prog 79 #[.slice (some ⟨blk, off, none⟩) ss.length cap] w fun e w' =>
      e = .returned (.tuple #[]) ∧ ∃ n os, w' = grow (putRow encStr (Sort.ahead w n) blk off (ss.mergeSort fun x y => decide (x ≤ y)).toArray) os := Any.slices_Sort_string sh_lays190 blk off cap ss w hH hblk hsz
open Go.RowKit Go.Sort in
theorem sh_slices_Sort_string_none (p : Option Addr) (cap : Nat) (w : World) :
    Calls Tryz.prog 79 #[.slice p 0 cap] w fun e w' => e = .returned (.tuple #[]) ∧ w' = w := Any.slices_Sort_string_none sh_lays190 p cap w
theorem sh_lays166 : Lays.n166 Tryz.prog sh_lays156_ren := { sh_lays156 with }
theorem sh_lays167 : Lays.n167 Tryz.prog sh_lays156_ren := { sh_lays156 with
  f167 := Tryz.func109.trans (congrArg some (by kernel_rfl))
  t5 := Tryz.underlying5
  a5 := Tryz.isAgg5
  z5 := Tryz.sizeOf5
  v5 := Tryz.zeroValue5 }
open Go.RowKit in
theorem sh_Builder_WriteByte (B b : Nat) (bs : List Value) (c : Int) (w : World) (h : Lib.IsBuilder 166 5 B b bs w) (hlen : bs.length + 1 ≤ 140737488355328) (hBw : B ≤ w.heap.size) :
    Calls Tryz.prog 109 #[.pointer (some ⟨b, 0, none⟩), .int .u8 c] w fun e w' => e = .returned .nilIface ∧ (Lib.BuilderAt 166 5 B b (.pointer (some ⟨b, 0, none⟩)) (bs ++ [.int .u8 c]) w' ∧ Below B w w') := Any.Builder_WriteByte sh_lays167 sh_Builder_Extra_156 B b bs c w h hlen hBw
open Go.RowKit in
theorem sh_Builder_WriteString (B b : Nat) (bs : List Value) (s : ByteArray) (w : World) (h : Lib.IsBuilder 166 5 B b bs w) (hlen : bs.length + s.size ≤ 140737488355328) (hBw : B ≤ w.heap.size) :
    Calls Tryz.prog 108 #[.pointer (some ⟨b, 0, none⟩), .string s] w fun e w' => e = .returned (.tuple #[.int .i64 s.size, .nilIface]) ∧ (Lib.BuilderAt 166 5 B b (.pointer (some ⟨b, 0, none⟩)) (bs ++ Lib.strCells s) w' ∧ Below B w w') := Any.Builder_WriteString sh_lays166 sh_Builder_Extra_156 B b bs s w h hlen hBw
end Go.Proofs.YtlnmhocehgmbbaaGreatDoor

/-
  Plain lemmas of this place's own: a world that extends another one; a region that draws its order and whose operations only extend the world. No condition.
-/
namespace Go.Proofs.YtlnmhocehgmbbaaGreatDoor
open Go.RowKit

/-- The world w' holds all the blocks of w as they were, and perhaps more. -/
def Ext (w w' : World) : Prop := Below w.heap.size w w'

theorem Ext.refl (w : World) : Ext w w := Below.refl _ _
theorem Ext.trans {a b c : World} (h : Ext a b) (k : Ext b c) : Ext a c := Below.trans h (Below.mono k h.size)
/-- .. then whatever leaves the blocks below as they are. -/
theorem Ext.trans' {a b c : World} (h : Ext a b) (k : Below a.heap.size b c) : Ext a c := Below.trans h k
theorem Ext.drew {a w : World} (h : Ext a w) : Ext a w.drew := Below.drew h
theorem Ext.drewN {a w : World} (h : Ext a w) (n : Nat) : Ext a (w.drewN n) := ⟨h.os, h.tape, h.output, h.size, h.block⟩
theorem Ext.alloc {a w : World} (h : Ext a w) (o : Obj) : Ext a (w.alloc o) := Below.alloc h h.size o
theorem Ext.setCell {a w : World} (h : Ext a w) {p : Addr} (hp : a.heap.size ≤ p.block) (u : Value) : Ext a (w.setCell p u) := Below.setCell h hp u
theorem Ext.size {a w : World} (h : Ext a w) : a.heap.size ≤ w.heap.size := Below.size h

/-- A world that extends w. -/
structure ExtOf (w : World) where
  val : World
  ext : Ext w val

instance (w : World) : Nonempty (ExtOf w) := ⟨⟨w, Ext.refl w⟩⟩

theorem ext_of {w w' : World} (h : Ext w w') : ∃ x : ExtOf w, w' = x.val := ⟨⟨w', h⟩, rfl⟩
theorem Ext.val {a w : World} (h : Ext a w) (x : ExtOf w) : Ext a x.val := h.trans x.ext

theorem ExtOf.cell {w : World} (x : ExtOf w) {a : Addr} (h : a.block < w.heap.size) : x.val.cell? a = w.cell? a := Below.cell x.ext h
theorem ExtOf.frozen {w : World} (x : ExtOf w) {a : Addr} (h : a.block < w.heap.size) : x.val.frozen? a = w.frozen? a := Below.frozen x.ext h
theorem ExtOf.lt {w : World} (x : ExtOf w) {n : Nat} (h : n < w.heap.size) : (n < x.val.heap.size) = True := by
  have := x.ext.size
  exact eq_true (by omega)
theorem ExtOf.le {w : World} (x : ExtOf w) {n : Nat} (h : n ≤ w.heap.size) : (n ≤ x.val.heap.size) = True := by
  have := x.ext.size
  exact eq_true (by omega)

theorem ExtOf.cell2 {w : World} {x : ExtOf w} (y : ExtOf x.val) {a : Addr} (h : a.block < w.heap.size) : y.val.cell? a = w.cell? a := Below.cell (x.ext.trans y.ext) h
theorem ExtOf.frozen2 {w : World} {x : ExtOf w} (y : ExtOf x.val) {a : Addr} (h : a.block < w.heap.size) : y.val.frozen? a = w.frozen? a := Below.frozen (x.ext.trans y.ext) h
theorem ExtOf.lt2 {w : World} {x : ExtOf w} (y : ExtOf x.val) {n : Nat} (h : n < w.heap.size) : (n < y.val.heap.size) = True := by
  have := (x.ext.trans y.ext).size
  exact eq_true (by omega)

theorem ExtOf.cell3 {w : World} {x : ExtOf w} {y : ExtOf x.val} (z : ExtOf y.val) {a : Addr} (h : a.block < w.heap.size) : z.val.cell? a = w.cell? a := Below.cell ((x.ext.trans y.ext).trans z.ext) h
theorem ExtOf.frozen3 {w : World} {x : ExtOf w} {y : ExtOf x.val} (z : ExtOf y.val) {a : Addr} (h : a.block < w.heap.size) : z.val.frozen? a = w.frozen? a := Below.frozen ((x.ext.trans y.ext).trans z.ext) h
theorem ExtOf.lt3 {w : World} {x : ExtOf w} {y : ExtOf x.val} (z : ExtOf y.val) {n : Nat} (h : n < w.heap.size) : (n < z.val.heap.size) = True := by
  have := ((x.ext.trans y.ext).trans z.ext).size
  exact eq_true (by omega)

/-- A world that has, below block B, the blocks of w as they were. -/
structure BelOf (B : Nat) (w : World) where
  val : World
  bel : Below B w val

instance (B : Nat) (w : World) : Nonempty (BelOf B w) := ⟨⟨w, Below.refl B w⟩⟩

theorem bel_of {B : Nat} {w w' : World} (h : Below B w w') : ∃ x : BelOf B w, w' = x.val := ⟨⟨w', h⟩, rfl⟩
theorem bel_ext {B : Nat} {a w w' : World} (h : Below B a w) (e : Ext w w') (hB : B ≤ a.heap.size) : Below B a w' := Below.trans h (Below.mono e (Nat.le_trans hB h.size))

theorem BelOf.cell {B : Nat} {w : World} (x : BelOf B w) {a : Addr} (h : a.block < B) : x.val.cell? a = w.cell? a := Below.cell x.bel h
theorem BelOf.frozen {B : Nat} {w : World} (x : BelOf B w) {a : Addr} (h : a.block < B) : x.val.frozen? a = w.frozen? a := Below.frozen x.bel h
theorem BelOf.lt {B : Nat} {w : World} (x : BelOf B w) {n : Nat} (h : n < w.heap.size) : (n < x.val.heap.size) = True := by
  have := x.bel.size
  exact eq_true (by omega)

theorem ExtOf.cellB {B : Nat} {w : World} {x : BelOf B w} (y : ExtOf x.val) {a : Addr} (h : a.block < B) (hB : B ≤ w.heap.size) : y.val.cell? a = w.cell? a :=
  Below.cell (bel_ext x.bel y.ext hB) h
theorem ExtOf.frozenB {B : Nat} {w : World} {x : BelOf B w} (y : ExtOf x.val) {a : Addr} (h : a.block < B) (hB : B ≤ w.heap.size) : y.val.frozen? a = w.frozen? a :=
  Below.frozen (bel_ext x.bel y.ext hB) h

/-- A world that has the blocks of w as they were, but for block X. -/
structure ButOf (X : Nat) (w : World) where
  val : World
  but : w.grownBy val (some X)

theorem but_refl (X : Nat) (w : World) : w.grownBy w (some X) := ⟨rfl, rfl, rfl, Nat.le_refl _, fun _ _ _ => rfl⟩
theorem but_ext {X : Nat} {a w w' : World} (h : a.grownBy w (some X)) (e : Ext w w') : a.grownBy w' (some X) :=
  ⟨e.os.trans h.os, e.tape.trans h.tape, e.output.trans h.output, Nat.le_trans h.size e.size, fun k hk hn => (e.block k (Nat.lt_of_lt_of_le hk h.size)).trans (h.block k hk hn)⟩
theorem but_setRow {X : Nat} {a w : World} (h : a.grownBy w (some X)) (cs : Array Value) : a.grownBy (w.setRow X cs) (some X) :=
  ⟨h.os, h.tape, h.output, by simpa using h.size, fun k hk hn => (setRow_other w X k cs (fun e => hn (by rw [e]))).trans (h.block k hk hn)⟩
instance (X : Nat) (w : World) : Nonempty (ButOf X w) := ⟨⟨w, but_refl X w⟩⟩

theorem ButOf.cell0 {X : Nat} {w : World} (x : ButOf X w) {a : Addr} (h : a.block < w.heap.size) (hn : a.block ≠ X) : x.val.cell? a = w.cell? a :=
  World.cell?_of_block (x.but.block a.block h (by simpa using hn))
theorem ButOf.frozen0 {X : Nat} {w : World} (x : ButOf X w) {a : Addr} (h : a.block < w.heap.size) (hn : a.block ≠ X) : x.val.frozen? a = w.frozen? a :=
  World.frozen?_of_block (x.but.block a.block h (by simpa using hn))
theorem ExtOf.cellX {X : Nat} {w : World} {x : ButOf X w} (y : ExtOf x.val) {a : Addr} (h : a.block < w.heap.size) (hn : a.block < X) : y.val.cell? a = w.cell? a :=
  ButOf.cell0 ⟨y.val, but_ext x.but y.ext⟩ h (Nat.ne_of_lt hn)
theorem ExtOf.frozenX {X : Nat} {w : World} {x : ButOf X w} (y : ExtOf x.val) {a : Addr} (h : a.block < w.heap.size) (hn : a.block < X) : y.val.frozen? a = w.frozen? a :=
  ButOf.frozen0 ⟨y.val, but_ext x.but y.ext⟩ h (Nat.ne_of_lt hn)
theorem ExtOf.cellX' {X : Nat} {w : World} {x : ButOf X w} (y : ExtOf x.val) {a : Addr} (h : a.block < w.heap.size) (hn : X < a.block) : y.val.cell? a = w.cell? a :=
  ButOf.cell0 ⟨y.val, but_ext x.but y.ext⟩ h (Nat.ne_of_gt hn)
theorem ExtOf.frozenX' {X : Nat} {w : World} {x : ButOf X w} (y : ExtOf x.val) {a : Addr} (h : a.block < w.heap.size) (hn : X < a.block) : y.val.frozen? a = w.frozen? a :=
  ButOf.frozen0 ⟨y.val, but_ext x.but y.ext⟩ h (Nat.ne_of_gt hn)
theorem Ext.setRow {a w : World} (h : Ext a w) {g : Nat} (hg : a.heap.size ≤ g) (cs : Array Value) : Ext a (w.setRow g cs) :=
  ⟨h.os, h.tape, h.output, by simpa using h.size, fun k hk => (setRow_other w g k cs (by omega)).trans (h.block k hk)⟩

theorem heap_ext {w w' : World} {G : Nat} {o : Obj} (h : w.heap[G]? = some o) (e : Ext w w') : w'.heap[G]? = some o := by
  rw [Below.block e G (Array.getElem?_eq_some_iff.1 h).1]; exact h

section
variable {P : Program}
/-- A region that draws its order; each operation gives one value in every world that extends w, and leaves such a world. -/
theorem wp_region_ext {id : Nat} {Q : Exit → Act → World → Prop} {a : Act} {w : World} {l : List Oper} (hm : P.follows .mixedOrders = true) (hB : Region.lexB .any l.toArray = true)
    (h : wpQuiet P l.toArray (fun w' => ∃ x : ExtOf w, w' = x.val) (fun a' => ∀ w', (∃ x : ExtOf w, w' = x.val) → Q .normal a' w') l a) : (Code.region id l.toArray true).wp P Q a w :=
  wp_region_quiet (C := fun w' => ∃ x : ExtOf w, w' = x.val) hm hB ⟨⟨_, (Ext.refl w).drew⟩, rfl⟩ (by simpa using h)

/-- A contract met in such a region. -/
theorem calls_ext {f : FuncId} {args : Array Value} {w : World} {x : ExtOf w} {v : Value}
    (h : Calls P f args x.val fun e w' => e = .returned v ∧ Ext x.val w') : Calls P f args x.val fun e w'' => e = .returned v ∧ ∃ y : ExtOf w, w'' = y.val :=
  h.mono fun _ w' ⟨he, hw⟩ => ⟨he, ⟨w', x.ext.trans hw⟩, rfl⟩
end
end Go.Proofs.YtlnmhocehgmbbaaGreatDoor

/-
  The program's struct types: two letters, states, events, outs against each other. No condition.
-/
namespace Go.Proofs.YtlnmhocehgmbbaaGreatDoor
open Go.RowKit

theorem toList_eq_iff (s t : ByteArray) : (s.toList = t.toList) ↔ s = t := by
  rw [ByteArray.toList_eq, ByteArray.toList_eq]
  constructor
  · intro h; obtain ⟨⟨x⟩⟩ := s; obtain ⟨⟨y⟩⟩ := t; simpa using h
  · intro h; rw [h]
theorem toList_beq (s t : ByteArray) : (s.toList == t.toList) = decide (s = t) := by
  rw [Bool.eq_iff_iff]; simp [toList_eq_iff]

/-- Are two of api.Letter the same? -/
def lEq (k : Int) (f : Int) (c : Int) (t : ByteArray) (b : Bool) (k' : Int) (f' : Int) (c' : Int) (t' : ByteArray) (b' : Bool) : Bool := decide (k = k' ∧ f = f' ∧ c = c' ∧ t = t' ∧ b = b')
theorem eql_lEq (k : Int) (f : Int) (c : Int) (t : ByteArray) (b : Bool) (k' : Int) (f' : Int) (c' : Int) (t' : ByteArray) (b' : Bool) (w : World) : (binOp .eql 24 (.agg #[.int .i64 k, .int .i64 f, .int .u64 c, .string t, .bool b]) (.agg #[.int .i64 k', .int .i64 f', .int .u64 c', .string t', .bool b'])).run Tryz.prog w = .ok (.bool (lEq k f c t b k' f' c' t' b')) w := by
  simp [go_sem, toList_beq, lEq]
  by_cases h_k : k = k'
  case neg => simp [h_k]
  by_cases h_f : f = f'
  case neg => simp [h_f]
  by_cases h_c : c = c'
  case neg => simp [h_c]
  by_cases h_t : t = t'
  case neg => simp [h_t]
  by_cases h_b : b = b'
  case neg => simp [h_b]
  simp [h_k, h_f, h_c, h_t, h_b]
theorem neq_lEq (k : Int) (f : Int) (c : Int) (t : ByteArray) (b : Bool) (k' : Int) (f' : Int) (c' : Int) (t' : ByteArray) (b' : Bool) (w : World) : (binOp .neq 24 (.agg #[.int .i64 k, .int .i64 f, .int .u64 c, .string t, .bool b]) (.agg #[.int .i64 k', .int .i64 f', .int .u64 c', .string t', .bool b'])).run Tryz.prog w = .ok (.bool (!(lEq k f c t b k' f' c' t' b'))) w := by
  simp [go_sem, toList_beq, lEq]
  by_cases h_k : k = k'
  case neg => simp [h_k]
  by_cases h_f : f = f'
  case neg => simp [h_f]
  by_cases h_c : c = c'
  case neg => simp [h_c]
  by_cases h_t : t = t'
  case neg => simp [h_t]
  by_cases h_b : b = b'
  case neg => simp [h_b]
  simp [h_k, h_f, h_c, h_t, h_b]

/-- Are two of api.State the same? -/
def sEq (r : Int) (c : Int) (t : ByteArray) (ph : Int) (pk : Int) (pf : Int) (pc : Int) (pt : ByteArray) (pb : Bool) (r' : Int) (c' : Int) (t' : ByteArray) (ph' : Int) (pk' : Int) (pf' : Int) (pc' : Int) (pt' : ByteArray) (pb' : Bool) : Bool := decide (r = r' ∧ c = c' ∧ t = t' ∧ ph = ph' ∧ pk = pk' ∧ pf = pf' ∧ pc = pc' ∧ pt = pt' ∧ pb = pb')
theorem eql_sEq (r : Int) (c : Int) (t : ByteArray) (ph : Int) (pk : Int) (pf : Int) (pc : Int) (pt : ByteArray) (pb : Bool) (r' : Int) (c' : Int) (t' : ByteArray) (ph' : Int) (pk' : Int) (pf' : Int) (pc' : Int) (pt' : ByteArray) (pb' : Bool) (w : World) : (binOp .eql 26 (.agg #[.int .i64 r, .int .u64 c, .string t, .int .i64 ph, .int .i64 pk, .int .i64 pf, .int .u64 pc, .string pt, .bool pb]) (.agg #[.int .i64 r', .int .u64 c', .string t', .int .i64 ph', .int .i64 pk', .int .i64 pf', .int .u64 pc', .string pt', .bool pb'])).run Tryz.prog w = .ok (.bool (sEq r c t ph pk pf pc pt pb r' c' t' ph' pk' pf' pc' pt' pb')) w := by
  simp [go_sem, toList_beq, sEq]
  by_cases h_r : r = r'
  case neg => simp [h_r]
  by_cases h_c : c = c'
  case neg => simp [h_c]
  by_cases h_t : t = t'
  case neg => simp [h_t]
  by_cases h_ph : ph = ph'
  case neg => simp [h_ph]
  by_cases h_pk : pk = pk'
  case neg => simp [h_pk]
  by_cases h_pf : pf = pf'
  case neg => simp [h_pf]
  by_cases h_pc : pc = pc'
  case neg => simp [h_pc]
  by_cases h_pt : pt = pt'
  case neg => simp [h_pt]
  by_cases h_pb : pb = pb'
  case neg => simp [h_pb]
  simp [h_r, h_c, h_t, h_ph, h_pk, h_pf, h_pc, h_pt, h_pb]
theorem neq_sEq (r : Int) (c : Int) (t : ByteArray) (ph : Int) (pk : Int) (pf : Int) (pc : Int) (pt : ByteArray) (pb : Bool) (r' : Int) (c' : Int) (t' : ByteArray) (ph' : Int) (pk' : Int) (pf' : Int) (pc' : Int) (pt' : ByteArray) (pb' : Bool) (w : World) : (binOp .neq 26 (.agg #[.int .i64 r, .int .u64 c, .string t, .int .i64 ph, .int .i64 pk, .int .i64 pf, .int .u64 pc, .string pt, .bool pb]) (.agg #[.int .i64 r', .int .u64 c', .string t', .int .i64 ph', .int .i64 pk', .int .i64 pf', .int .u64 pc', .string pt', .bool pb'])).run Tryz.prog w = .ok (.bool (!(sEq r c t ph pk pf pc pt pb r' c' t' ph' pk' pf' pc' pt' pb'))) w := by
  simp [go_sem, toList_beq, sEq]
  by_cases h_r : r = r'
  case neg => simp [h_r]
  by_cases h_c : c = c'
  case neg => simp [h_c]
  by_cases h_t : t = t'
  case neg => simp [h_t]
  by_cases h_ph : ph = ph'
  case neg => simp [h_ph]
  by_cases h_pk : pk = pk'
  case neg => simp [h_pk]
  by_cases h_pf : pf = pf'
  case neg => simp [h_pf]
  by_cases h_pc : pc = pc'
  case neg => simp [h_pc]
  by_cases h_pt : pt = pt'
  case neg => simp [h_pt]
  by_cases h_pb : pb = pb'
  case neg => simp [h_pb]
  simp [h_r, h_c, h_t, h_ph, h_pk, h_pf, h_pc, h_pt, h_pb]

/-- Are two of api.Event the same? -/
def eEq (k : Int) (c : Int) (t : ByteArray) (lk : Int) (lf : Int) (lc : Int) (lt : ByteArray) (lb : Bool) (k' : Int) (c' : Int) (t' : ByteArray) (lk' : Int) (lf' : Int) (lc' : Int) (lt' : ByteArray) (lb' : Bool) : Bool := decide (k = k' ∧ c = c' ∧ t = t' ∧ lk = lk' ∧ lf = lf' ∧ lc = lc' ∧ lt = lt' ∧ lb = lb')
theorem eql_eEq (k : Int) (c : Int) (t : ByteArray) (lk : Int) (lf : Int) (lc : Int) (lt : ByteArray) (lb : Bool) (k' : Int) (c' : Int) (t' : ByteArray) (lk' : Int) (lf' : Int) (lc' : Int) (lt' : ByteArray) (lb' : Bool) (w : World) : (binOp .eql 102 (.agg #[.int .i64 k, .int .u64 c, .string t, .int .i64 lk, .int .i64 lf, .int .u64 lc, .string lt, .bool lb]) (.agg #[.int .i64 k', .int .u64 c', .string t', .int .i64 lk', .int .i64 lf', .int .u64 lc', .string lt', .bool lb'])).run Tryz.prog w = .ok (.bool (eEq k c t lk lf lc lt lb k' c' t' lk' lf' lc' lt' lb')) w := by
  simp [go_sem, toList_beq, eEq]
  by_cases h_k : k = k'
  case neg => simp [h_k]
  by_cases h_c : c = c'
  case neg => simp [h_c]
  by_cases h_t : t = t'
  case neg => simp [h_t]
  by_cases h_lk : lk = lk'
  case neg => simp [h_lk]
  by_cases h_lf : lf = lf'
  case neg => simp [h_lf]
  by_cases h_lc : lc = lc'
  case neg => simp [h_lc]
  by_cases h_lt : lt = lt'
  case neg => simp [h_lt]
  by_cases h_lb : lb = lb'
  case neg => simp [h_lb]
  simp [h_k, h_c, h_t, h_lk, h_lf, h_lc, h_lt, h_lb]
theorem neq_eEq (k : Int) (c : Int) (t : ByteArray) (lk : Int) (lf : Int) (lc : Int) (lt : ByteArray) (lb : Bool) (k' : Int) (c' : Int) (t' : ByteArray) (lk' : Int) (lf' : Int) (lc' : Int) (lt' : ByteArray) (lb' : Bool) (w : World) : (binOp .neq 102 (.agg #[.int .i64 k, .int .u64 c, .string t, .int .i64 lk, .int .i64 lf, .int .u64 lc, .string lt, .bool lb]) (.agg #[.int .i64 k', .int .u64 c', .string t', .int .i64 lk', .int .i64 lf', .int .u64 lc', .string lt', .bool lb'])).run Tryz.prog w = .ok (.bool (!(eEq k c t lk lf lc lt lb k' c' t' lk' lf' lc' lt' lb'))) w := by
  simp [go_sem, toList_beq, eEq]
  by_cases h_k : k = k'
  case neg => simp [h_k]
  by_cases h_c : c = c'
  case neg => simp [h_c]
  by_cases h_t : t = t'
  case neg => simp [h_t]
  by_cases h_lk : lk = lk'
  case neg => simp [h_lk]
  by_cases h_lf : lf = lf'
  case neg => simp [h_lf]
  by_cases h_lc : lc = lc'
  case neg => simp [h_lc]
  by_cases h_lt : lt = lt'
  case neg => simp [h_lt]
  by_cases h_lb : lb = lb'
  case neg => simp [h_lb]
  simp [h_k, h_c, h_t, h_lk, h_lf, h_lc, h_lt, h_lb]

/-- Are two of api.Out the same? -/
def oEq (to : Int) (lk : Int) (lf : Int) (lc : Int) (lt : ByteArray) (lb : Bool) (to' : Int) (lk' : Int) (lf' : Int) (lc' : Int) (lt' : ByteArray) (lb' : Bool) : Bool := decide (to = to' ∧ lk = lk' ∧ lf = lf' ∧ lc = lc' ∧ lt = lt' ∧ lb = lb')
theorem eql_oEq (to : Int) (lk : Int) (lf : Int) (lc : Int) (lt : ByteArray) (lb : Bool) (to' : Int) (lk' : Int) (lf' : Int) (lc' : Int) (lt' : ByteArray) (lb' : Bool) (w : World) : (binOp .eql 126 (.agg #[.int .i64 to, .int .i64 lk, .int .i64 lf, .int .u64 lc, .string lt, .bool lb]) (.agg #[.int .i64 to', .int .i64 lk', .int .i64 lf', .int .u64 lc', .string lt', .bool lb'])).run Tryz.prog w = .ok (.bool (oEq to lk lf lc lt lb to' lk' lf' lc' lt' lb')) w := by
  simp [go_sem, toList_beq, oEq]
  by_cases h_to : to = to'
  case neg => simp [h_to]
  by_cases h_lk : lk = lk'
  case neg => simp [h_lk]
  by_cases h_lf : lf = lf'
  case neg => simp [h_lf]
  by_cases h_lc : lc = lc'
  case neg => simp [h_lc]
  by_cases h_lt : lt = lt'
  case neg => simp [h_lt]
  by_cases h_lb : lb = lb'
  case neg => simp [h_lb]
  simp [h_to, h_lk, h_lf, h_lc, h_lt, h_lb]
theorem neq_oEq (to : Int) (lk : Int) (lf : Int) (lc : Int) (lt : ByteArray) (lb : Bool) (to' : Int) (lk' : Int) (lf' : Int) (lc' : Int) (lt' : ByteArray) (lb' : Bool) (w : World) : (binOp .neq 126 (.agg #[.int .i64 to, .int .i64 lk, .int .i64 lf, .int .u64 lc, .string lt, .bool lb]) (.agg #[.int .i64 to', .int .i64 lk', .int .i64 lf', .int .u64 lc', .string lt', .bool lb'])).run Tryz.prog w = .ok (.bool (!(oEq to lk lf lc lt lb to' lk' lf' lc' lt' lb'))) w := by
  simp [go_sem, toList_beq, oEq]
  by_cases h_to : to = to'
  case neg => simp [h_to]
  by_cases h_lk : lk = lk'
  case neg => simp [h_lk]
  by_cases h_lf : lf = lf'
  case neg => simp [h_lf]
  by_cases h_lc : lc = lc'
  case neg => simp [h_lc]
  by_cases h_lt : lt = lt'
  case neg => simp [h_lt]
  by_cases h_lb : lb = lb'
  case neg => simp [h_lb]
  simp [h_to, h_lk, h_lf, h_lc, h_lt, h_lb]

end Go.Proofs.YtlnmhocehgmbbaaGreatDoor

/-
  Walks of the originator's small functions. No condition.
-/
namespace Go.Proofs.YtlnmhocehgmbbaaGreatDoor
open Go.RowKit
attribute [local go_sem ↓] eql_lEq eql_sEq eql_eEq eql_oEq neq_lEq neq_sEq neq_eEq neq_oEq
attribute [local go_sem] ExtOf.cell ExtOf.frozen ExtOf.lt ExtOf.le
attribute [local go_sem high] ExtOf.cell2 ExtOf.frozen2 ExtOf.lt2 ExtOf.cell3 ExtOf.frozen3 ExtOf.lt3

theorem ret_bool {a b : Bool} (h : a = b) : Ending.returned (.bool a) = .returned (.bool b) := by rw [h]

theorem or_promise (r c ph : Int) (t : ByteArray) (k f c2 : Int) (t2 : ByteArray) (fk : Bool) (n : Int) (w : World) :
    Calls Tryz.prog 127 #[.agg #[.int .i64 r, .int .u64 c, .string t, .int .i64 ph, .int .i64 k, .int .i64 f, .int .u64 c2, .string t2, .bool fk], .int .i64 n] w fun e w' => e = .returned (.agg #[.int .i64 1, .int .i64 n, .int .u64 c, .string t, .bool false]) ∧ Ext w w' := by
  go_enter Tryz.func127, Tryz.ntmps127
  go_wp2
  exact bodyPost_ret (v := .agg #[.int .i64 1, .int .i64 n, .int .u64 c, .string t, .bool false]) (by simp [results, Tryz.results127, go_sem]) rfl ⟨rfl, ((Ext.refl _).alloc _).alloc _⟩

theorem or_signature (r c ph : Int) (t : ByteArray) (k f c2 : Int) (t2 : ByteArray) (fk : Bool) (n : Int) (w : World) :
    Calls Tryz.prog 118 #[.agg #[.int .i64 r, .int .u64 c, .string t, .int .i64 ph, .int .i64 k, .int .i64 f, .int .u64 c2, .string t2, .bool fk], .int .i64 n] w fun e w' => e = .returned (.agg #[.int .i64 2, .int .i64 n, .int .u64 c, .string t, .bool false]) ∧ Ext w w' := by
  go_enter Tryz.func118, Tryz.ntmps118
  go_wp2
  exact bodyPost_ret (v := .agg #[.int .i64 2, .int .i64 n, .int .u64 c, .string t, .bool false]) (by simp [results, Tryz.results118, go_sem]) rfl ⟨rfl, ((Ext.refl _).alloc _).alloc _⟩

theorem or_instead (r c ph : Int) (t : ByteArray) (k f c2 : Int) (t2 : ByteArray) (fk : Bool) (w : World) :
    Calls Tryz.prog 119 #[.agg #[.int .i64 r, .int .u64 c, .string t, .int .i64 ph, .int .i64 k, .int .i64 f, .int .u64 c2, .string t2, .bool fk]] w fun e w' => e = .returned (.agg #[.int .i64 6, .int .i64 0, .int .u64 c, .string t, .bool false]) ∧ Ext w w' := by
  go_enter Tryz.func119, Tryz.ntmps119
  go_wp2
  exact bodyPost_ret (v := .agg #[.int .i64 6, .int .i64 0, .int .u64 c, .string t, .bool false]) (by simp [results, Tryz.results119, go_sem]) rfl ⟨rfl, ((Ext.refl _).alloc _).alloc _⟩

theorem or_token (r c ph : Int) (t : ByteArray) (k f c2 : Int) (t2 : ByteArray) (fk : Bool) (w : World) :
    Calls Tryz.prog 153 #[.agg #[.int .i64 r, .int .u64 c, .string t, .int .i64 ph, .int .i64 k, .int .i64 f, .int .u64 c2, .string t2, .bool fk]] w fun e w' => e = .returned (.agg #[.int .i64 5, .int .i64 0, .int .u64 c, .string { data := #[] }, .bool false]) ∧ Ext w w' := by
  go_enter Tryz.func153, Tryz.ntmps153
  go_wp2
  exact bodyPost_ret (v := .agg #[.int .i64 5, .int .i64 0, .int .u64 c, .string { data := #[] }, .bool false]) (by simp [results, Tryz.results153, go_sem]) rfl ⟨rfl, ((Ext.refl _).alloc _).alloc _⟩

/-- A state's phase 6: signed. -/
def chk6 (c : Int) (t : ByteArray) (k f c2 : Int) (t2 : ByteArray) (fk : Bool) : Bool :=
  lEq k f c2 t2 fk 2 1 c t false || lEq k f c2 t2 fk 6 0 c t false

set_option maxHeartbeats 400000 in
theorem or_check6 (c : Int) (t : ByteArray) (k f c2 : Int) (t2 : ByteArray) (fk : Bool) (w : World) (ht : (t.size : Int) ≤ 64) :
    Calls Tryz.prog 87 #[.agg #[.int .i64 0, .int .u64 c, .string t, .int .i64 6, .int .i64 k, .int .i64 f, .int .u64 c2, .string t2, .bool fk]] w fun e w' => e = .returned (.bool (chk6 c t k f c2 t2 fk)) ∧ Ext w w' := by
  unfold chk6
  rcases h : lEq k f c2 t2 fk 2 1 c t false
  all_goals
    go_enter Tryz.func87, Tryz.ntmps87
    go_wp2_with fail
    refine wp_region_ext (by kernel_rfl) (by kernel_rfl) ?_
    repeat (go_big_quiet_step ((first | (go_at_call 118; exact calls_ext (or_signature _ _ _ _ _ _ _ _ _ _ _)) | (go_at_call 119; exact calls_ext (or_instead _ _ _ _ _ _ _ _ _ _)))))
    refine wpQuiet_nil ?_
    intro _ hx
    obtain ⟨x, rfl⟩ := hx
    go_wp2
    go_ret
    exact ⟨by simp, ((Ext.refl _).alloc _).val x⟩

/-- Is a state good? -/
def chk (r c : Int) (t : ByteArray) (ph k f c2 : Int) (t2 : ByteArray) (fk : Bool) : Bool :=
  if r = 0 ∧ t.size ≤ 64 then
    if ph = 6 then chk6 c t k f c2 t2 fk
    else if ph = 0 then t.toList.isEmpty && lEq k f c2 t2 fk 0 0 0 { data := #[] } false
    else if ph = 2 ∨ ph = 3 ∨ ph = 4 ∨ ph = 5 ∨ ph = 7 then lEq k f c2 t2 fk 0 0 0 { data := #[] } false
    else false
  else false

set_option maxHeartbeats 400000 in
theorem or_check (r c : Int) (t : ByteArray) (ph k f c2 : Int) (t2 : ByteArray) (fk : Bool) (w : World) :
    Calls Tryz.prog 87 #[.agg #[.int .i64 r, .int .u64 c, .string t, .int .i64 ph, .int .i64 k, .int .i64 f, .int .u64 c2, .string t2, .bool fk]] w fun e w' => e = .returned (.bool (chk r c t ph k f c2 t2 fk)) ∧ Ext w w' := by
  by_cases h0 : r = 0 ∧ t.size ≤ 64
  · obtain ⟨rfl, h1⟩ := h0
    by_cases h6 : ph = 6
    · subst h6
      have := or_check6 c t k f c2 t2 fk w (by omega)
      simpa [chk, h1] using this
    · go_enter Tryz.func87, Tryz.ntmps87
      go_wp2
      all_goals (go_ret; exact ⟨ret_bool (by go_light; simp_all [chk]), (Ext.refl _).alloc _⟩)
  · have e : chk r c t ph k f c2 t2 fk = false := by unfold chk; rw [if_neg h0]
    rw [e]
    clear e
    have h1 : ¬ (r = 0 ∧ (t.size : Int) ≤ 64) := by omega
    go_enter Tryz.func87, Tryz.ntmps87
    go_wp2
    all_goals first | (go_light; omega) | (go_ret; exact ⟨rfl, (Ext.refl _).alloc _⟩)
end Go.Proofs.YtlnmhocehgmbbaaGreatDoor
