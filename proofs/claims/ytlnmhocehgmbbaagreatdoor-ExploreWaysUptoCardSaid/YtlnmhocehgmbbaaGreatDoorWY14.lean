/- No condition. -/
import Derived.Test.YtlnmhocehgmbbaaGreatDoorWY5
import Derived.Shelf.Strings.OnBuilder
import Derived.Shelf.LaysM
import Derived.Shelf.Strconv.Itoa3
import Derived.Shelf.Sort.Plain
import Derived.Shelf.Slices.In.SortNone
import Derived.Test.YtlnmhocehgmbbaaGreatDoorProg
import Derived.ChangeKeysEq
set_option linter.all false
set_option maxHeartbeats 1600000
namespace Go.Proofs.YtlnmhocehgmbbaaGreatDoor
open Go.Shelf
def sh_lays169_ren:Go.Shelf.Ren:=⟨fun|169=>113|n=>n,fun|70=>163|9=>9|0=>0|72=>166|37=>164|127=>193|3=>3|5=>5|n=>n,fun|n=>n⟩
theorem sh_lays169:Go.Proofs.Lays.n169 Tryz.prog sh_lays169_ren:={
 mixed:=by kernel_rfl
 f169:=Tryz.func113.trans (congrArg some (by kernel_rfl))
 t0:=zu0
 a0:=Tryz.isAgg0
 z0:=Tryz.sizeOf0
 v0:=Tryz.zeroValue0
 t3:=zu3
 a3:=Tryz.isAgg3
 z3:=Tryz.sizeOf3
 v3:=Tryz.zeroValue3
 t9:=zu9
 a9:=Tryz.isAgg9
 z9:=Tryz.sizeOf9
 v9:=Tryz.zeroValue9
 t37:=zu164
 a37:=Tryz.isAgg164
 z37:=Tryz.sizeOf164
 v37:=Tryz.zeroValue164
 t70:=zu163
 a70:=Tryz.isAgg163
 z70:=Tryz.sizeOf163
 v70:=Tryz.zeroValue163
 t72:=zu166
 a72:=Tryz.isAgg166
 z72:=Tryz.sizeOf166
 v72:=Tryz.zeroValue166
 t127:=zu193
 a127:=Tryz.isAgg193
 z127:=Tryz.sizeOf193
 v127:=Tryz.zeroValue193 }
theorem sh_Builder_Extra_169:Builder.Extra Tryz.prog sh_lays169_ren:={
 sizeBuilder:=by kernel_rfl
 liesBuilder:=by kernel_rfl
 t5:=zu5
 a5:=Tryz.isAgg5
 z5:=Tryz.sizeOf5
 v5:=Tryz.zeroValue5
 infoByte:=by kernel_rfl
 cellsByte:=by kernel_rfl
 sizeByte:=by kernel_rfl
 neB5:=by decide }
open Go.RowKit in
theorem sh_Builder_String_any (B b:Nat) (l:List UInt8) (w:World) (h:Lib.IsBuilder 166 5 B b (Lib.byteCells l) w) (hBw:B≤w.heap.size) :
 Calls Tryz.prog 113 #[.pointer (some ⟨b,0,none⟩)] w fun e w'=>e = .returned (.string ⟨l.toArray⟩)∧Below B w w':=Any.Builder_String_any sh_lays169 sh_Builder_Extra_169 B b l w h hBw
def sh_lays156_ren:Go.Shelf.Ren:=⟨fun|156=>80|165=>116|166=>108|167=>109|169=>113|240=>137|241=>151|276=>159|277=>171|n=>n,fun|31=>34|9=>9|3=>3|4=>4|0=>0|20=>20|72=>166|76=>169|70=>163|37=>164|75=>168|127=>193|164=>209|5=>5|80=>175|n=>n,fun|n=>n⟩
theorem sh_lays156:Go.Proofs.Lays.n156 Tryz.prog sh_lays156_ren:={
 mixed:=by kernel_rfl
 f156:=Tryz.func80.trans (congrArg some (by kernel_rfl))
 f165:=Tryz.func116.trans (congrArg some (by kernel_rfl))
 f166:=Tryz.func108.trans (congrArg some (by kernel_rfl))
 f169:=Tryz.func113.trans (congrArg some (by kernel_rfl))
 f240:=Tryz.func137.trans (congrArg some (by kernel_rfl))
 f241:=Tryz.func151.trans (congrArg some (by kernel_rfl))
 f276:=Tryz.func159.trans (congrArg some (by kernel_rfl))
 f277:=Tryz.func171.trans (congrArg some (by kernel_rfl))
 t0:=zu0
 a0:=Tryz.isAgg0
 z0:=Tryz.sizeOf0
 v0:=Tryz.zeroValue0
 t3:=zu3
 a3:=Tryz.isAgg3
 z3:=Tryz.sizeOf3
 v3:=Tryz.zeroValue3
 t4:=zu4
 a4:=Tryz.isAgg4
 z4:=Tryz.sizeOf4
 v4:=Tryz.zeroValue4
 t9:=zu9
 a9:=Tryz.isAgg9
 z9:=Tryz.sizeOf9
 v9:=Tryz.zeroValue9
 t20:=zu20
 a20:=Tryz.isAgg20
 z20:=Tryz.sizeOf20
 v20:=Tryz.zeroValue20
 t31:=zu34
 a31:=Tryz.isAgg34
 z31:=Tryz.sizeOf34
 v31:=Tryz.zeroValue34
 t37:=zu164
 a37:=Tryz.isAgg164
 z37:=Tryz.sizeOf164
 v37:=Tryz.zeroValue164
 t70:=zu163
 a70:=Tryz.isAgg163
 z70:=Tryz.sizeOf163
 v70:=Tryz.zeroValue163
 t72:=zu166
 a72:=Tryz.isAgg166
 z72:=Tryz.sizeOf166
 v72:=Tryz.zeroValue166
 t75:=zu168
 a75:=Tryz.isAgg168
 z75:=Tryz.sizeOf168
 v75:=Tryz.zeroValue168
 t76:=zu169
 a76:=Tryz.isAgg169
 z76:=Tryz.sizeOf169
 v76:=Tryz.zeroValue169
 t127:=zu193
 a127:=Tryz.isAgg193
 z127:=Tryz.sizeOf193
 v127:=Tryz.zeroValue193
 t164:=zu209
 a164:=Tryz.isAgg209
 z164:=Tryz.sizeOf209
 v164:=Tryz.zeroValue209 }
theorem sh_Builder_Extra_156:Builder.Extra Tryz.prog sh_lays156_ren:={
 sizeBuilder:=by kernel_rfl
 liesBuilder:=by kernel_rfl
 t5:=zu5
 a5:=Tryz.isAgg5
 z5:=Tryz.sizeOf5
 v5:=Tryz.zeroValue5
 infoByte:=by kernel_rfl
 cellsByte:=by kernel_rfl
 sizeByte:=by kernel_rfl
 neB5:=by decide }
open Go.RowKit in
theorem sh_strings_Join_none (a:Option Addr) (c:Nat) (sep:ByteArray) (w:World) :
 Calls Tryz.prog 80 #[.slice a 0 c,.string sep] w fun e w'=>e = .returned (.string ⟨#[]⟩)∧w'=w:=Any.strings_Join_none sh_lays156 sh_Builder_Extra_156 a c sep w
open Go.RowKit in
theorem sh_strings_Join (bk o c:Nat) (xs:List ByteArray) (sep:ByteArray) (w:World) (hcells : ∀ (j:Nat) x,xs[j]?=some x→w.cell? ⟨bk,o+j,none⟩=some (.string x)) (hbk:bk<w.heap.size) (hN:xs.length≤140737488355328) (hcap:xs.length≤c) (hlen:(Lib.join (xs.map (·.data.toList)) sep.data.toList).length≤140737488355328) :
 Calls Tryz.prog 80 #[.slice (some ⟨bk,o,none⟩) xs.length c,.string sep] w fun e w'=>e = .returned (.string ⟨(Lib.join (xs.map (·.data.toList)) sep.data.toList).toArray⟩)∧Below w.heap.size w w':=Any.strings_Join sh_lays156 sh_Builder_Extra_156 bk o c xs sep w hcells hbk hN hcap hlen
def sh_lays283_ren:Go.Shelf.Ren:=⟨fun|283=>161|n=>n,fun|3=>3|9=>9|4=>4|n=>n,fun|n=>n⟩
theorem sh_lays283:Go.Proofs.Lays.n283 Tryz.prog sh_lays283_ren:={
 mixed:=by kernel_rfl
 f283:=Tryz.func161.trans (congrArg some (by kernel_rfl))
 t3:=zu3
 a3:=Tryz.isAgg3
 z3:=Tryz.sizeOf3
 v3:=Tryz.zeroValue3
 t4:=zu4
 a4:=Tryz.isAgg4
 z4:=Tryz.sizeOf4
 v4:=Tryz.zeroValue4
 t9:=zu9
 a9:=Tryz.isAgg9
 z9:=Tryz.sizeOf9
 v9:=Tryz.zeroValue9 }
open Go.Lib in
theorem sh_internal_strconv_small (i:Nat) (h:i<100) (w:World) :
 Calls Tryz.prog 161 #[.int .i64 i] w fun e w'=>e = .returned (.string ⟨(Lib.decDigits i).toArray⟩)∧w'=w:=Any.internal_strconv_small sh_lays283 i h w
def sh_laysM284_ren:Go.Shelf.Ren:=⟨fun|284=>162|129=>150|317=>172|318=>173|n=>n,fun|53=>22|3=>3|212=>226|0=>0|4=>4|46=>178|5=>5|9=>9|n=>n,fun|17=>0|n=>n⟩
theorem sh_laysM284:Go.Proofs.LaysM.n284 Tryz.prog sh_laysM284_ren:={
 mixed:=by kernel_rfl
 f129:=Tryz.func150.trans (congrArg some (by kernel_rfl))
 f284:=Tryz.func162.trans (congrArg some (by kernel_rfl))
 f317:=Tryz.func172.trans (congrArg some (by kernel_rfl))
 f318:=Tryz.func173.trans (congrArg some (by kernel_rfl))
 t0:=zu0
 a0:=Tryz.isAgg0
 z0:=Tryz.sizeOf0
 v0:=Tryz.zeroValue0
 t3:=zu3
 a3:=Tryz.isAgg3
 z3:=Tryz.sizeOf3
 v3:=Tryz.zeroValue3
 t4:=zu4
 a4:=Tryz.isAgg4
 z4:=Tryz.sizeOf4
 v4:=Tryz.zeroValue4
 t5:=zu5
 a5:=Tryz.isAgg5
 z5:=Tryz.sizeOf5
 v5:=Tryz.zeroValue5
 t9:=zu9
 a9:=Tryz.isAgg9
 z9:=Tryz.sizeOf9
 v9:=Tryz.zeroValue9
 t46:=zu178
 a46:=Tryz.isAgg178
 z46:=Tryz.sizeOf178
 v46:=Tryz.zeroValue178
 t53:=zu22
 a53:=Tryz.isAgg22
 z53:=Tryz.sizeOf22
 v53:=Tryz.zeroValue22
 t212:=zu226
 a212:=Tryz.isAgg226
 z212:=Tryz.sizeOf226
 v212:=Tryz.zeroValue226
 g17:=by kernel_rfl
 i0:=by kernel_rfl
 i3:=by kernel_rfl
 i4:=by kernel_rfl
 i5:=by kernel_rfl
 i9:=by kernel_rfl
 i46:=by kernel_rfl
 i53:=by kernel_rfl
 i212:=by kernel_rfl
 m17:=by kernel_rfl }
open Go.Lib in
theorem sh_internal_strconv_numDigits (u:Nat) (h1:1≤u) (h2:u<18446744073709551616) (w:World) (htab:Lib.TabIs Tryz.prog w "internal/strconv.uint64pow10" .u64 Lib.pow10Tab) :
 Calls Tryz.prog 162 #[.int .u64 u] w fun e w'=>e = .returned (.int .i64 (Lib.nDigits u))∧w'=w:=Any.internal_strconv_numDigits sh_laysM284 u h1 h2 w htab
def sh_lays285_ren:Go.Shelf.Ren:=⟨fun|285=>163|n=>n,fun|37=>164|53=>22|3=>3|4=>4|51=>203|9=>9|5=>5|0=>0|n=>n,fun|n=>n⟩
theorem sh_lays285:Go.Proofs.Lays.n285 Tryz.prog sh_lays285_ren:={
 mixed:=by kernel_rfl
 f285:=Tryz.func163.trans (congrArg some (by kernel_rfl))
 t0:=zu0
 a0:=Tryz.isAgg0
 z0:=Tryz.sizeOf0
 v0:=Tryz.zeroValue0
 t3:=zu3
 a3:=Tryz.isAgg3
 z3:=Tryz.sizeOf3
 v3:=Tryz.zeroValue3
 t4:=zu4
 a4:=Tryz.isAgg4
 z4:=Tryz.sizeOf4
 v4:=Tryz.zeroValue4
 t5:=zu5
 a5:=Tryz.isAgg5
 z5:=Tryz.sizeOf5
 v5:=Tryz.zeroValue5
 t9:=zu9
 a9:=Tryz.isAgg9
 z9:=Tryz.sizeOf9
 v9:=Tryz.zeroValue9
 t37:=zu164
 a37:=Tryz.isAgg164
 z37:=Tryz.sizeOf164
 v37:=Tryz.zeroValue164
 t51:=zu203
 a51:=Tryz.isAgg203
 z51:=Tryz.sizeOf203
 v51:=Tryz.zeroValue203
 t53:=zu22
 a53:=Tryz.isAgg22
 z53:=Tryz.sizeOf22
 v53:=Tryz.zeroValue22 }
open Go.RowKit Go.Sort Go.Lib in
theorem sh_internal_strconv_formatBase10 (blk off cap:Nat) (u:Nat) (d:Array UInt8) (w:World) (hH:Holds (fun (b:UInt8)=>Value.int .u8 (b.toNat:Int)) w blk off d) (hu:u<10 ^ d.size) (hu64:u<18446744073709551616) (hsz:d.size<4611686018427387904) :
 Calls Tryz.prog 163 #[.slice (some ⟨blk,off,none⟩) d.size cap,.int .u64 u] w fun e w'=>
  e = .returned (.tuple #[])∧∃ (n v':Nat) (dk:Array UInt8),w'=(putRow (fun (b:UInt8)=>Value.int .u8 (b.toNat:Int)) w blk off dk).drewN n∧FmtInv d.size u 0 v' dk:=Any.internal_strconv_formatBase10 sh_lays285 blk off cap u d w hH hu hu64 hsz
def sh_lays171_ren:Go.Shelf.Ren:=⟨fun|171=>110|243=>138|246=>160|283=>161|284=>162|285=>163|286=>164|129=>150|317=>172|318=>173|319=>174|320=>175|337=>177|338=>178|n=>n,fun|3=>3|9=>9|2=>2|4=>4|171=>212|0=>0|53=>22|37=>164|5=>5|173=>214|212=>226|51=>203|20=>20|213=>227|46=>178|232=>231|233=>232|n=>n,fun|17=>0|18=>2|19=>3|n=>n⟩
theorem sh_lays171:Go.Proofs.Lays.n171 Tryz.prog sh_lays171_ren:={
 mixed:=by kernel_rfl
 f129:=Tryz.func150.trans (congrArg some (by kernel_rfl))
 f171:=Tryz.func110.trans (congrArg some (by kernel_rfl))
 f243:=Tryz.func138.trans (congrArg some (by kernel_rfl))
 f246:=Tryz.func160.trans (congrArg some (by kernel_rfl))
 f283:=Tryz.func161.trans (congrArg some (by kernel_rfl))
 f284:=Tryz.func162.trans (congrArg some (by kernel_rfl))
 f285:=Tryz.func163.trans (congrArg some (by kernel_rfl))
 f286:=Tryz.func164.trans (congrArg some (by kernel_rfl))
 f317:=Tryz.func172.trans (congrArg some (by kernel_rfl))
 f318:=Tryz.func173.trans (congrArg some (by kernel_rfl))
 f319:=Tryz.func174.trans (congrArg some (by kernel_rfl))
 f320:=Tryz.func175.trans (congrArg some (by kernel_rfl))
 f337:=Tryz.func177.trans (congrArg some (by kernel_rfl))
 f338:=Tryz.func178.trans (congrArg some (by kernel_rfl))
 t0:=zu0
 a0:=Tryz.isAgg0
 z0:=Tryz.sizeOf0
 v0:=Tryz.zeroValue0
 t2:=zu2
 a2:=Tryz.isAgg2
 z2:=Tryz.sizeOf2
 v2:=Tryz.zeroValue2
 t3:=zu3
 a3:=Tryz.isAgg3
 z3:=Tryz.sizeOf3
 v3:=Tryz.zeroValue3
 t4:=zu4
 a4:=Tryz.isAgg4
 z4:=Tryz.sizeOf4
 v4:=Tryz.zeroValue4
 t5:=zu5
 a5:=Tryz.isAgg5
 z5:=Tryz.sizeOf5
 v5:=Tryz.zeroValue5
 t9:=zu9
 a9:=Tryz.isAgg9
 z9:=Tryz.sizeOf9
 v9:=Tryz.zeroValue9
 t20:=zu20
 a20:=Tryz.isAgg20
 z20:=Tryz.sizeOf20
 v20:=Tryz.zeroValue20
 t37:=zu164
 a37:=Tryz.isAgg164
 z37:=Tryz.sizeOf164
 v37:=Tryz.zeroValue164
 t46:=zu178
 a46:=Tryz.isAgg178
 z46:=Tryz.sizeOf178
 v46:=Tryz.zeroValue178
 t51:=zu203
 a51:=Tryz.isAgg203
 z51:=Tryz.sizeOf203
 v51:=Tryz.zeroValue203
 t53:=zu22
 a53:=Tryz.isAgg22
 z53:=Tryz.sizeOf22
 v53:=Tryz.zeroValue22
 t171:=zu212
 a171:=Tryz.isAgg212
 z171:=Tryz.sizeOf212
 v171:=Tryz.zeroValue212
 t173:=zu214
 a173:=Tryz.isAgg214
 z173:=Tryz.sizeOf214
 v173:=Tryz.zeroValue214
 t212:=zu226
 a212:=Tryz.isAgg226
 z212:=Tryz.sizeOf226
 v212:=Tryz.zeroValue226
 t213:=zu227
 a213:=Tryz.isAgg227
 z213:=Tryz.sizeOf227
 t232:=zu231
 a232:=Tryz.isAgg231
 z232:=Tryz.sizeOf231
 v232:=Tryz.zeroValue231
 t233:=zu232
 a233:=Tryz.isAgg232
 z233:=Tryz.sizeOf232
 v233:=Tryz.zeroValue232
 g17:=by kernel_rfl
 g18:=by kernel_rfl
 g19:=by kernel_rfl }
open Go.RowKit Go.Sort Go.Lib in
theorem sh_strconv_Itoa_small (i:Nat) (hi:i<100) (w:World) :
 Calls Tryz.prog 110 #[.int .i64 i] w fun e w'=>e = .returned (.string ⟨(Lib.decDigits i).toArray⟩)∧w'=w:=Any.strconv_Itoa_small sh_lays171 i hi w
def sh_lays190_ren:Go.Shelf.Ren:=⟨fun|190=>79|125=>115|258=>114|128=>149|129=>150|302=>140|303=>141|304=>142|305=>143|306=>144|307=>145|308=>146|309=>147|310=>148|333=>165|329=>166|330=>167|334=>168|335=>169|336=>170|344=>176|n=>n,fun|31=>34|9=>9|3=>3|46=>178|0=>0|51=>203|53=>22|4=>4|183=>196|182=>195|131=>68|5=>5|218=>216|222=>220|228=>228|229=>229|n=>n,fun|n=>n⟩
theorem sh_lays190:Go.Proofs.Lays.n190 Tryz.prog sh_lays190_ren:={
 mixed:=by kernel_rfl
 f125:=Tryz.func115.trans (congrArg some (by kernel_rfl))
 f128:=Tryz.func149.trans (congrArg some (by kernel_rfl))
 f129:=Tryz.func150.trans (congrArg some (by kernel_rfl))
 f190:=Tryz.func79.trans (congrArg some (by kernel_rfl))
 f258:=Tryz.func114.trans (congrArg some (by kernel_rfl))
 f302:=Tryz.func140.trans (congrArg some (by kernel_rfl))
 f303:=Tryz.func141.trans (congrArg some (by kernel_rfl))
 f304:=Tryz.func142.trans (congrArg some (by kernel_rfl))
 f305:=Tryz.func143.trans (congrArg some (by kernel_rfl))
 f306:=Tryz.func144.trans (congrArg some (by kernel_rfl))
 f307:=Tryz.func145.trans (congrArg some (by kernel_rfl))
 f308:=Tryz.func146.trans (congrArg some (by kernel_rfl))
 f309:=Tryz.func147.trans (congrArg some (by kernel_rfl))
 f310:=Tryz.func148.trans (congrArg some (by kernel_rfl))
 f329:=Tryz.func166.trans (congrArg some (by kernel_rfl))
 f330:=Tryz.func167.trans (congrArg some (by kernel_rfl))
 f333:=Tryz.func165.trans (congrArg some (by kernel_rfl))
 f334:=Tryz.func168.trans (congrArg some (by kernel_rfl))
 f335:=Tryz.func169.trans (congrArg some (by kernel_rfl))
 f336:=Tryz.func170.trans (congrArg some (by kernel_rfl))
 f344:=Tryz.func176.trans (congrArg some (by kernel_rfl))
 t0:=zu0
 a0:=Tryz.isAgg0
 z0:=Tryz.sizeOf0
 v0:=Tryz.zeroValue0
 t3:=zu3
 a3:=Tryz.isAgg3
 z3:=Tryz.sizeOf3
 v3:=Tryz.zeroValue3
 t4:=zu4
 a4:=Tryz.isAgg4
 z4:=Tryz.sizeOf4
 v4:=Tryz.zeroValue4
 t5:=zu5
 a5:=Tryz.isAgg5
 z5:=Tryz.sizeOf5
 v5:=Tryz.zeroValue5
 t9:=zu9
 a9:=Tryz.isAgg9
 z9:=Tryz.sizeOf9
 v9:=Tryz.zeroValue9
 t31:=zu34
 a31:=Tryz.isAgg34
 z31:=Tryz.sizeOf34
 v31:=Tryz.zeroValue34
 t46:=zu178
 a46:=Tryz.isAgg178
 z46:=Tryz.sizeOf178
 v46:=Tryz.zeroValue178
 t51:=zu203
 a51:=Tryz.isAgg203
 z51:=Tryz.sizeOf203
 v51:=Tryz.zeroValue203
 t53:=zu22
 a53:=Tryz.isAgg22
 z53:=Tryz.sizeOf22
 v53:=Tryz.zeroValue22
 t131:=zu68
 a131:=Tryz.isAgg68
 z131:=Tryz.sizeOf68
 v131:=Tryz.zeroValue68
 t182:=zu195
 a182:=Tryz.isAgg195
 z182:=Tryz.sizeOf195
 v182:=Tryz.zeroValue195
 t183:=zu196
 a183:=Tryz.isAgg196
 z183:=Tryz.sizeOf196
 v183:=Tryz.zeroValue196
 t218:=zu216
 a218:=Tryz.isAgg216
 z218:=Tryz.sizeOf216
 v218:=Tryz.zeroValue216
 t222:=zu220
 a222:=Tryz.isAgg220
 z222:=Tryz.sizeOf220
 v222:=Tryz.zeroValue220
 t228:=zu228
 a228:=Tryz.isAgg228
 z228:=Tryz.sizeOf228
 v228:=Tryz.zeroValue228
 t229:=zu229
 a229:=Tryz.isAgg229
 z229:=Tryz.sizeOf229
 v229:=Tryz.zeroValue229 }
open Go.Sort Go.RowKit in
theorem sh_slices_Sort_string (blk off cap:Nat) (ss:List (List UInt8)) (w:World) (hH:Holds encStr w blk off ss.toArray) (hblk:blk<w.heap.size) (hsz:ss.length<4611686018427387904) :
 Calls Tryz.prog 79 #[.slice (some ⟨blk,off,none⟩) ss.length cap] w fun e w'=>
  e = .returned (.tuple #[])∧∃ n os,w'=grow (putRow encStr (Sort.ahead w n) blk off (ss.mergeSort fun x y=>decide (x≤y)).toArray) os:=Any.slices_Sort_string sh_lays190 blk off cap ss w hH hblk hsz
open Go.RowKit Go.Sort in
theorem sh_slices_Sort_string_none (p:Option Addr) (cap:Nat) (w:World) :
 Calls Tryz.prog 79 #[.slice p 0 cap] w fun e w'=>e = .returned (.tuple #[])∧w'=w:=Any.slices_Sort_string_none sh_lays190 p cap w
theorem sh_lays166:Lays.n166 Tryz.prog sh_lays156_ren:={ sh_lays156 with }
theorem sh_lays167:Lays.n167 Tryz.prog sh_lays156_ren:={ sh_lays156 with
 f167:=Tryz.func109.trans (congrArg some (by kernel_rfl))
 t5:=zu5
 a5:=Tryz.isAgg5
 z5:=Tryz.sizeOf5
 v5:=Tryz.zeroValue5 }
open Go.RowKit in
theorem sh_Builder_WriteByte (B b:Nat) (bs:List Value) (c:Int) (w:World) (h:Lib.IsBuilder 166 5 B b bs w) (hlen:bs.length+1≤140737488355328) (hBw:B≤w.heap.size) :
 Calls Tryz.prog 109 #[.pointer (some ⟨b,0,none⟩),.int .u8 c] w fun e w'=>e = .returned .nilIface∧(Lib.BuilderAt 166 5 B b (.pointer (some ⟨b,0,none⟩)) (bs++[.int .u8 c]) w'∧Below B w w'):=Any.Builder_WriteByte sh_lays167 sh_Builder_Extra_156 B b bs c w h hlen hBw
open Go.RowKit in
theorem sh_Builder_WriteString (B b:Nat) (bs:List Value) (s:ByteArray) (w:World) (h:Lib.IsBuilder 166 5 B b bs w) (hlen:bs.length+s.size≤140737488355328) (hBw:B≤w.heap.size) :
 Calls Tryz.prog 108 #[.pointer (some ⟨b,0,none⟩),.string s] w fun e w'=>e = .returned (.tuple #[.int .i64 s.size,.nilIface])∧(Lib.BuilderAt 166 5 B b (.pointer (some ⟨b,0,none⟩)) (bs++Lib.strCells s) w'∧Below B w w'):=Any.Builder_WriteString sh_lays166 sh_Builder_Extra_156 B b bs s w h hlen hBw
end Go.Proofs.YtlnmhocehgmbbaaGreatDoor
namespace Go.Proofs.YtlnmhocehgmbbaaGreatDoor
instance:DecidableEq St:=fun a b=>decidable_of_iff (a.r=b.r∧a.c=b.c∧a.t=b.t∧a.ph=b.ph∧a.p=b.p) (by cases a;cases b;simp)
instance:DecidableEq Mv:=fun a b=>decidable_of_iff (a.k=b.k∧a.who=b.who∧a.t=b.t∧a.l=b.l∧a.lost=b.lost) (by cases a;cases b;simp)
structure SameP (x y:Ex):Prop where
 c:x.c=y.c
 s0:x.s0=y.s0
 s1:x.s1=y.s1
 v:x.v=y.v
 b0:x.b0=y.b0
 b1:x.b1=y.b1
 full:x.full=y.full
 h:x.h.Perm y.h
instance (x y:Ex):Decidable (SameP x y):=decidable_of_iff (x.c=y.c∧x.s0=y.s0∧x.s1=y.s1∧x.v=y.v∧x.b0=y.b0∧x.b1=y.b1∧x.full=y.full∧x.h.Perm y.h)
 ⟨fun ⟨a,b,c,d,e,f,g,h⟩=>⟨a,b,c,d,e,f,g,h⟩,fun ⟨a,b,c,d,e,f,g,h⟩=>⟨a,b,c,d,e,f,g,h⟩⟩
def sameX (x y:Ex):Bool:=decide (SameP x y)
theorem SameP.refl (x:Ex):SameP x x:=⟨rfl,rfl,rfl,rfl,rfl,rfl,rfl,.refl _⟩
theorem SameP.symm {x y:Ex} (h:SameP x y):SameP y x:=⟨h.c.symm,h.s0.symm,h.s1.symm,h.v.symm,h.b0.symm,h.b1.symm,h.full.symm,h.h.symm⟩
theorem SameP.trans {x y z:Ex} (h:SameP x y) (k:SameP y z):SameP x z:=⟨h.c.trans k.c,h.s0.trans k.s0,h.s1.trans k.s1,h.v.trans k.v,h.b0.trans k.b0,h.b1.trans k.b1,h.full.trans k.full,h.h.trans k.h⟩
section
variable {x y:Ex}
theorem SameP.bad (h:SameP x y) (n:Int):x.bad n=y.bad n:=by unfold Ex.bad;rw [h.b0,h.b1]
theorem SameP.wish (h:SameP x y) (l:Lt):wishS x.h l=wishS y.h l:=by
 unfold wishS
 rw [Bool.eq_iff_iff]
 simp only [List.any_eq_true]
 exact ⟨fun ⟨a,b,c⟩=>⟨a,h.h.mem_iff.1 b,c⟩,fun ⟨a,b,c⟩=>⟨a,h.h.mem_iff.2 b,c⟩⟩
theorem SameP.canP (h:SameP x y) (l:Lt):canP x l=canP y l:=by
 unfold Go.Proofs.YtlnmhocehgmbbaaGreatDoor.canP
 rw [h.c,h.bad,h.wish]
 simp only [h.h.mem_iff]
theorem SameP.canS (h:SameP x y) (l:Lt):canS x l=canS y l:=by
 unfold Go.Proofs.YtlnmhocehgmbbaaGreatDoor.canS
 rw [h.c,h.bad,h.bad,h.wish,h.b0,h.canP,h.canP]
 simp only [h.h.mem_iff]
theorem hear_perm {a b:List Lt} (h:a.Perm b) (lost:Bool) (l:Lt):(hearS a lost l).Perm (hearS b lost l):=by
 unfold hearS
 by_cases hc:lost=true∨l∈a
 ·rw [if_pos hc,if_pos (hc.imp id h.mem_iff.1)];exact h
 ·rw [if_neg hc,if_neg (fun hd=>hc (hd.imp id h.mem_iff.2))];exact h.append_right _
theorem hears_perm (lost:Bool) : ∀ (ls:List Lt) {a b:List Lt},a.Perm b→(hearsS a lost ls).Perm (hearsS b lost ls)
 | [],_,_,h=>h
 | l::ls,_,_,h=>by
  show (hearsS (hearS _ lost l) lost ls).Perm (hearsS (hearS _ lost l) lost ls)
  exact hears_perm lost ls (hear_perm h lost l)
theorem SameP.askV (h:SameP x y) (l:Lt):askV x l=askV y l:=by unfold Go.Proofs.YtlnmhocehgmbbaaGreatDoor.askV;rw [h.v,h.full,h.c]
theorem SameP.ask (h:SameP x y) (m:Mv):SameP (askX x m) (askX y m):=by
 unfold askX
 split
 ·exact ⟨h.c,h.s0,h.s1,h.askV _,h.b0,h.b1,h.full,by rw [h.askV,h.c];exact hear_perm h.h _ _⟩
 ·exact h
theorem SameP.ev (h:SameP x y) (m:Mv):evX x m=evX y m:=by unfold evX;rw [h.c]
theorem SameP.party (h:SameP x y) (m:Mv):SameP (partyX x m) (partyX y m):=by
 unfold partyX
 split
 ·exact ⟨h.c,by rw [h.s0,h.ev],h.s1,h.v,h.b0,h.b1,h.full,by rw [h.s0,h.ev];exact hears_perm _ _ h.h⟩
 ·exact ⟨h.c,h.s0,by rw [h.s1,h.ev],h.v,h.b0,h.b1,h.full,by rw [h.s1,h.ev];exact hears_perm _ _ h.h⟩
theorem SameP.step (h:SameP x y) (m:Mv):SameP (stepX x m).1 (stepX y m).1∧(stepX x m).2=(stepX y m).2:=by
 unfold stepX
 rw [h.canS,h.bad]
 split
 ·split
  ·exact ⟨h.ask m,rfl⟩
  ·exact ⟨h,rfl⟩
 split
 ·exact ⟨⟨h.c,h.s0,h.s1,h.v,h.b0,h.b1,rfl,h.h⟩,rfl⟩
 split
 ·split
  ·refine ⟨?_,rfl⟩
   split
   ·exact ⟨h.c,h.s0,h.s1,h.v,rfl,h.b1,h.full,h.h⟩
   ·exact ⟨h.c,h.s0,h.s1,h.v,h.b0,rfl,h.full,h.h⟩
  split
  ·split
   ·exact ⟨h,rfl⟩
   ·exact ⟨h.party m,rfl⟩
  ·exact ⟨h,rfl⟩
 ·exact ⟨h,rfl⟩
end
def linesS (evs:St→List Ev) (x:Ex) (who:Int):List Lt:=
 if who=0 then ((evs x.s0).filter fun e=>e.k == 2).map (·.l)
 else [⟨1,0,x.s1.c,x.s1.t,false⟩,⟨2,0,x.s1.c,x.s1.t,false⟩,⟨5,0,x.s1.c,{ data:=#[] },false⟩,⟨6,0,x.s1.c,x.s1.t,false⟩]
def candP (evs:St→List Ev) (x:Ex) (texts:List ByteArray) (who:Int):List Mv:=
 if x.bad who=true then [] else texts.map (fun t=>⟨1,who,t,l0,false⟩)++((linesS evs x who).map (fun l=>⟨2,who,{ data:=#[] },l,false⟩)++[⟨3,who,{ data:=#[] },l0,false⟩])
def candS (evs:St→List Ev) (x:Ex) (texts:List ByteArray):List Mv:=
 candP evs x texts 0++candP evs x texts 1++[⟨4,0,{ data:=#[] },⟨3,0,x.c,{ data:=#[] },false⟩,false⟩] ++
  (texts.map (fun t=>⟨4,0,{ data:=#[] },⟨4,0,x.c,t,false⟩,false⟩)++texts.map (fun t=>⟨4,0,{ data:=#[] },⟨4,1,x.c,t,false⟩,false⟩))++[⟨5,0,{ data:=#[] },l0,false⟩,⟨5,1,{ data:=#[] },l0,false⟩]
def layS (x:Ex) (l:List Mv) (m:Mv):List Mv:=if (stepX x m).2=true∧sameX x (stepX x m).1=false∧m∉l then l++[m] else l
def growsS (x:Ex) (m:Mv):Bool:=(stepX x m).2 && decide (x.h.length<(stepX x m).1.h.length)
def lostM (m:Mv):Mv:={ m with lost:=true }
def lay2 (x:Ex) (l:List Mv) (m:Mv):List Mv:=if growsS x m=true then layS x (layS x l m) (lostM m) else layS x l m
def movesS (evs:St→List Ev) (x:Ex) (texts:List ByteArray):List Mv:=(candS evs x texts).foldl (lay2 x) []
def elseM (x:Ex) (m:Mv):Prop:=(stepX x m).2=true∧sameX x (stepX x m).1=false
theorem mem_lay {x:Ex} {l:List Mv} {m z:Mv} : z∈layS x l m↔z∈l∨(z=m∧elseM x m):=by
 unfold layS elseM
 by_cases h:(stepX x m).2=true∧sameX x (stepX x m).1=false∧m∉l
 ·rw [if_pos h]
  simp only [List.mem_append,List.mem_singleton]
  exact ⟨fun a=>a.imp id fun e=>⟨e,h.1,h.2.1⟩,fun a=>a.imp id fun e=>e.1⟩
 ·rw [if_neg h]
  refine ⟨.inl,fun a=>a.elim id fun ⟨e,h1,h2⟩=>?_⟩
  subst e
  by_cases hm:z∈l
  ·exact hm
  ·exact absurd ⟨h1,h2,hm⟩ h
theorem mem_lay2 {x:Ex} {l:List Mv} {m z:Mv} : z∈lay2 x l m↔z∈l∨(z=m∧elseM x m)∨(growsS x m=true∧z=lostM m∧elseM x (lostM m)):=by
 unfold lay2
 split
 ·rename_i h
  rw [mem_lay,mem_lay]
  simp [h,or_assoc]
 ·rename_i h
  rw [mem_lay]
  simp [h]
theorem mem_foldl {x:Ex} {z:Mv} : ∀ (c l:List Mv),z∈c.foldl (lay2 x) l↔z∈l∨∃ m∈c,(z=m∧elseM x m)∨(growsS x m=true∧z=lostM m∧elseM x (lostM m))
 | [],l=>by simp
 | m::c,l=>by
  rw [List.foldl_cons,mem_foldl c,mem_lay2]
  simp [or_assoc]
theorem mem_moves {evs:St→List Ev} {x:Ex} {texts:List ByteArray} {z:Mv} : z∈movesS evs x texts↔∃ m∈candS evs x texts,(z=m∧elseM x m)∨(growsS x m=true∧z=lostM m∧elseM x (lostM m)):=by
 unfold movesS
 rw [mem_foldl]
 simp
section
variable {evs:St→List Ev} {x y:Ex} {texts texts':List ByteArray}
theorem SameP.elseM (h:SameP x y) {m:Mv} : Go.Proofs.YtlnmhocehgmbbaaGreatDoor.elseM x m↔Go.Proofs.YtlnmhocehgmbbaaGreatDoor.elseM y m:=by
 obtain ⟨h1,h2⟩:=h.step m
 unfold Go.Proofs.YtlnmhocehgmbbaaGreatDoor.elseM sameX
 rw [h2]
 refine and_congr_right fun _=>?_
 simp only [decide_eq_false_iff_not]
 exact not_congr ⟨fun k=>(h.symm.trans k).trans h1,fun k=>(h.trans k).trans h1.symm⟩
theorem SameP.grows (h:SameP x y) (m:Mv):growsS x m=growsS y m:=by
 obtain ⟨h1,h2⟩:=h.step m
 unfold growsS
 rw [h2,h.h.length_eq,h1.h.length_eq]
end
structure Rg where
 t:List ByteArray
 b:Bool
 l:Bool
 m:Int
def movesR (evs:St→List Ev) (x:Ex) (r:Rg):List Mv:=(movesS evs x r.t).filter fun m=>!((m.k == 5 && !r.b) || (m.lost && !r.l))
def innerX (most:Nat) (x:Ex):List Mv→List Ex→List Ex×Bool
 | [],L=>(L,true)
 | m::ms,L=>if (stepX x m).2=false then innerX most x ms L else if L.any (fun z=>sameX z (stepX x m).1)=true then innerX most x ms L else if L.length=most then (L,false) else innerX most x ms (L++[(stepX x m).1])
def outerX (most:Nat) (mv:Ex→List Mv):Nat→Nat→List Ex→List Ex×Bool
 | 0,_,L=>(L,true)
 | f+1,k,L=>match L[k]? with
  | none=>(L,true)
  | some x=>if (innerX most x (mv x) L).2=false then innerX most x (mv x) L else outerX most mv f (k+1) (innerX most x (mv x) L).1
def allX (most:Nat) (mv:Ex→List Mv) (x:Ex):List Ex×Bool:=outerX most mv (most+1) 0 [x]
theorem inner_le {most:Nat} {x:Ex} : ∀ (ms:List Mv) (L:List Ex),L.length≤most→(innerX most x ms L).1.length≤most
 | [],L,h=>h
 | m::ms,L,h=>by
  unfold innerX
  split
  ·exact inner_le ms L h
  split
  ·exact inner_le ms L h
  split
  ·exact h
  ·rename_i hn
   exact inner_le ms _ (by simp;omega)
theorem outer_le {most:Nat} {mv:Ex→List Mv} : ∀ (f k:Nat) (L:List Ex),L.length≤most→(outerX most mv f k L).1.length≤most
 | 0,_,L,h=>h
 | f+1,k,L,h=>by
  unfold outerX
  split
  ·exact h
  ·split
   ·exact inner_le _ _ h
   ·exact outer_le f (k+1) _ (inner_le _ _ h)
end Go.Proofs.YtlnmhocehgmbbaaGreatDoor
namespace Go.Proofs.YtlnmhocehgmbbaaGreatDoor
open Go.RowKit
attribute [local go_sem ↓] eql_lEq eql_sEq eql_eEq eql_oEq neq_lEq neq_sEq neq_eEq neq_oEq eql_vEq neq_vEq eql_nil
attribute [local go_sem] ExtOf.cell ExtOf.frozen ExtOf.lt ExtOf.le
attribute [local go_sem high] ExtOf.cell2 ExtOf.frozen2 ExtOf.lt2 ExtOf.cell3 ExtOf.frozen3 ExtOf.lt3
def mEq (k:Int) (who:Int) (t:ByteArray) (lk:Int) (lf:Int) (lc:Int) (lt:ByteArray) (lb:Bool) (lost:Bool) (k':Int) (who':Int) (t':ByteArray) (lk':Int) (lf':Int) (lc':Int) (lt':ByteArray) (lb':Bool) (lost':Bool):Bool:=decide (k=k'∧who=who'∧t=t'∧lk=lk'∧lf=lf'∧lc=lc'∧lt=lt'∧lb=lb'∧lost=lost')
theorem eql_mEq (k:Int) (who:Int) (t:ByteArray) (lk:Int) (lf:Int) (lc:Int) (lt:ByteArray) (lb:Bool) (lost:Bool) (k':Int) (who':Int) (t':ByteArray) (lk':Int) (lf':Int) (lc':Int) (lt':ByteArray) (lb':Bool) (lost':Bool) (w:World):(binOp .eql 52 (.agg #[.int .i64 k,.int .i64 who,.string t,.int .i64 lk,.int .i64 lf,.int .u64 lc,.string lt,.bool lb,.bool lost]) (.agg #[.int .i64 k',.int .i64 who',.string t',.int .i64 lk',.int .i64 lf',.int .u64 lc',.string lt',.bool lb',.bool lost'])).run Tryz.prog w = .ok (.bool ((mEq k who t lk lf lc lt lb lost k' who' t' lk' lf' lc' lt' lb' lost'))) w:=by
 simp [go_sem,toList_beq,mEq]
 by_cases h_k:k=k'
 case neg=>simp [h_k]
 by_cases h_who:who=who'
 case neg=>simp [h_who]
 by_cases h_t:t=t'
 case neg=>simp [h_t]
 by_cases h_lk:lk=lk'
 case neg=>simp [h_lk]
 by_cases h_lf:lf=lf'
 case neg=>simp [h_lf]
 by_cases h_lc:lc=lc'
 case neg=>simp [h_lc]
 by_cases h_lt:lt=lt'
 case neg=>simp [h_lt]
 by_cases h_lb:lb=lb'
 case neg=>simp [h_lb]
 by_cases h_lost:lost=lost'
 case neg=>simp [h_lost]
 simp [h_k,h_who,h_t,h_lk,h_lf,h_lc,h_lt,h_lb,h_lost]
def sEq2 (mr:Int) (mc:Int) (mt:ByteArray) (mh:Int) (mpk:Int) (mpf:Int) (mpc:Int) (mpt:ByteArray) (mpb:Bool) (nr:Int) (nc:Int) (nt:ByteArray) (nh:Int) (npk:Int) (npf:Int) (npc:Int) (npt:ByteArray) (npb:Bool) (mr':Int) (mc':Int) (mt':ByteArray) (mh':Int) (mpk':Int) (mpf':Int) (mpc':Int) (mpt':ByteArray) (mpb':Bool) (nr':Int) (nc':Int) (nt':ByteArray) (nh':Int) (npk':Int) (npf':Int) (npc':Int) (npt':ByteArray) (npb':Bool):Bool:=decide (mr=mr'∧mc=mc'∧mt=mt'∧mh=mh'∧mpk=mpk'∧mpf=mpf'∧mpc=mpc'∧mpt=mpt'∧mpb=mpb'∧nr=nr'∧nc=nc'∧nt=nt'∧nh=nh'∧npk=npk'∧npf=npf'∧npc=npc'∧npt=npt'∧npb=npb')
theorem neq_sEq2 (mr:Int) (mc:Int) (mt:ByteArray) (mh:Int) (mpk:Int) (mpf:Int) (mpc:Int) (mpt:ByteArray) (mpb:Bool) (nr:Int) (nc:Int) (nt:ByteArray) (nh:Int) (npk:Int) (npf:Int) (npc:Int) (npt:ByteArray) (npb:Bool) (mr':Int) (mc':Int) (mt':ByteArray) (mh':Int) (mpk':Int) (mpf':Int) (mpc':Int) (mpt':ByteArray) (mpb':Bool) (nr':Int) (nc':Int) (nt':ByteArray) (nh':Int) (npk':Int) (npf':Int) (npc':Int) (npt':ByteArray) (npb':Bool) (w:World):(binOp .neq 27 (.agg #[.int .i64 mr,.int .u64 mc,.string mt,.int .i64 mh,.int .i64 mpk,.int .i64 mpf,.int .u64 mpc,.string mpt,.bool mpb,.int .i64 nr,.int .u64 nc,.string nt,.int .i64 nh,.int .i64 npk,.int .i64 npf,.int .u64 npc,.string npt,.bool npb]) (.agg #[.int .i64 mr',.int .u64 mc',.string mt',.int .i64 mh',.int .i64 mpk',.int .i64 mpf',.int .u64 mpc',.string mpt',.bool mpb',.int .i64 nr',.int .u64 nc',.string nt',.int .i64 nh',.int .i64 npk',.int .i64 npf',.int .u64 npc',.string npt',.bool npb'])).run Tryz.prog w = .ok (.bool (!(sEq2 mr mc mt mh mpk mpf mpc mpt mpb nr nc nt nh npk npf npc npt npb mr' mc' mt' mh' mpk' mpf' mpc' mpt' mpb' nr' nc' nt' nh' npk' npf' npc' npt' npb'))) w:=by
 rw [run_neq_struct]
 obtain ⟨i,hi⟩:=Option.isSome_iff_exists.1 (show (Tryz.prog.info? 26).isSome=true by kernel_rfl)
 rw [run_equalIn_array w 9999 _ _ zu27 hi]
 rw [show Tryz.prog.cellsOf 26=9 by kernel_rfl]
 simp [Op.eqItems,List.range_succ,go_sem,toList_beq,sEq2]
 by_cases h_mr:mr=mr'
 case neg=>simp [h_mr]
 by_cases h_mc:mc=mc'
 case neg=>simp [h_mc]
 by_cases h_mt:mt=mt'
 case neg=>simp [h_mt]
 by_cases h_mh:mh=mh'
 case neg=>simp [h_mh]
 by_cases h_mpk:mpk=mpk'
 case neg=>simp [h_mpk]
 by_cases h_mpf:mpf=mpf'
 case neg=>simp [h_mpf]
 by_cases h_mpc:mpc=mpc'
 case neg=>simp [h_mpc]
 by_cases h_mpt:mpt=mpt'
 case neg=>simp [h_mpt]
 by_cases h_mpb:mpb=mpb'
 case neg=>simp [h_mpb]
 by_cases h_nr:nr=nr'
 case neg=>simp [h_nr]
 by_cases h_nc:nc=nc'
 case neg=>simp [h_nc]
 by_cases h_nt:nt=nt'
 case neg=>simp [h_nt]
 by_cases h_nh:nh=nh'
 case neg=>simp [h_nh]
 by_cases h_npk:npk=npk'
 case neg=>simp [h_npk]
 by_cases h_npf:npf=npf'
 case neg=>simp [h_npf]
 by_cases h_npc:npc=npc'
 case neg=>simp [h_npc]
 by_cases h_npt:npt=npt'
 case neg=>simp [h_npt]
 by_cases h_npb:npb=npb'
 case neg=>simp [h_npb]
 simp [h_mr,h_mc,h_mt,h_mh,h_mpk,h_mpf,h_mpc,h_mpt,h_mpb,h_nr,h_nc,h_nt,h_nh,h_npk,h_npf,h_npc,h_npt,h_npb]
def bEq2 (x:Bool) (y:Bool) (x':Bool) (y':Bool):Bool:=decide (x=x'∧y=y')
theorem neq_bEq2 (x:Bool) (y:Bool) (x':Bool) (y':Bool) (w:World):(binOp .neq 30 (.agg #[.bool x,.bool y]) (.agg #[.bool x',.bool y'])).run Tryz.prog w = .ok (.bool (!(bEq2 x y x' y'))) w:=by
 rw [run_neq_struct]
 obtain ⟨i,hi⟩:=Option.isSome_iff_exists.1 (show (Tryz.prog.info? 4).isSome=true by kernel_rfl)
 rw [run_equalIn_array w 9999 _ _ zu30 hi]
 rw [show Tryz.prog.cellsOf 4=1 by kernel_rfl]
 simp [Op.eqItems,List.range_succ,go_sem,toList_beq,bEq2]
 by_cases h_x:x=x'
 case neg=>simp [h_x]
 by_cases h_y:y=y'
 case neg=>simp [h_y]
 simp [h_x,h_y]
theorem mEq_mv (a b:Mv):mEq a.k a.who a.t a.l.k a.l.f a.l.c a.l.t a.l.b a.lost b.k b.who b.t b.l.k b.l.f b.l.c b.l.t b.l.b b.lost=decide (a=b):=by
 obtain ⟨k,who,t,⟨lk,lf,lc,lt,lb⟩,lost⟩:=a
 obtain ⟨k',who',t',⟨lk',lf',lc',lt',lb'⟩,lost'⟩:=b
 simp only [mEq,decide_eq_decide,Mv.mk.injEq,Lt.mk.injEq]
 constructor
 ·rintro ⟨a,b,c,d,e,f,g,h,i⟩;exact ⟨a,b,c,⟨d,e,f,g,h⟩,i⟩
 ·rintro ⟨a,b,c,⟨d,e,f,g,h⟩,i⟩;exact ⟨a,b,c,d,e,f,g,h,i⟩
def Mv.cs (m:Mv):List Value:=[.int .i64 m.k,.int .i64 m.who,.string m.t,.int .i64 m.l.k,.int .i64 m.l.f,.int .u64 m.l.c,.string m.l.t,.bool m.l.b,.bool m.lost]
theorem mv_cells {w:World} {g off:Nat} {L:List Mv} {k:Nat} {x:Mv} (h : ∀ j u,(L.flatMap Mv.cs)[j]?=some u→w.cell? ⟨g,off+j,none⟩=some u) (hx:L[k]?=some x) :
 w.cell? ⟨g,off+k*9,none⟩=some (.int .i64 x.k)∧w.cell? ⟨g,off+k*9+1,none⟩=some (.int .i64 x.who)∧w.cell? ⟨g,off+k*9+2,none⟩=some (.string x.t)∧w.cell? ⟨g,off+k*9+3,none⟩=some (.int .i64 x.l.k)∧w.cell? ⟨g,off+k*9+4,none⟩=some (.int .i64 x.l.f)∧w.cell? ⟨g,off+k*9+5,none⟩=some (.int .u64 x.l.c)∧w.cell? ⟨g,off+k*9+6,none⟩=some (.string x.l.t)∧w.cell? ⟨g,off+k*9+7,none⟩=some (.bool x.l.b)∧w.cell? ⟨g,off+k*9+8,none⟩=some (.bool x.lost):=by
 have key:=fun j hj=>flat_get Mv.cs 9 (fun _=>rfl) L k x hx j hj
 refine ⟨h _ _ (key 0 (by omega)),?_,?_,?_,?_,?_,?_,?_,?_⟩
 ·rw [Nat.add_assoc];exact h _ _ (key 1 (by omega))
 ·rw [Nat.add_assoc];exact h _ _ (key 2 (by omega))
 ·rw [Nat.add_assoc];exact h _ _ (key 3 (by omega))
 ·rw [Nat.add_assoc];exact h _ _ (key 4 (by omega))
 ·rw [Nat.add_assoc];exact h _ _ (key 5 (by omega))
 ·rw [Nat.add_assoc];exact h _ _ (key 6 (by omega))
 ·rw [Nat.add_assoc];exact h _ _ (key 7 (by omega))
 ·rw [Nat.add_assoc];exact h _ _ (key 8 (by omega))
theorem not_mem_of_allM {L:List Mv} {l:Mv} (h : ∀ (j:Nat) z,L[j]?=some z→z≠l):l∉L:=fun hm=>by
 obtain ⟨j,hj⟩:=List.mem_iff_getElem?.1 hm
 exact h j l hj rfl
attribute [local go_sem ↓] eql_mEq
theorem sl_indexM (v:Value) (L:List Mv) (l:Mv) (w:World) (hR:Row w 9 v L.length (L.flatMap Mv.cs)) :
 Calls Tryz.prog 84 #[v,.agg #[.int .i64 l.k,.int .i64 l.who,.string l.t,.int .i64 l.l.k,.int .i64 l.l.f,.int .u64 l.l.c,.string l.l.t,.bool l.l.b,.bool l.lost]] w fun e w'=>∃ n:Int,e = .returned (.int .i64 n)∧decide (0≤n)=decide (l∈L)∧Ext w w':=by
 obtain ⟨a,cap,rfl,hm,hvw⟩:=row_view hR
 have HV:=zd hvw
 clear hvw hR
 unfold maxLen at hm
 go_enter Tryz.func84,Tryz.ntmps84
 go_wp2_with fail
 refine wp_forget (fun w'=>w'.heap[w.heap.size]?=some (.cells #[.int .i64 l.k,.int .i64 l.who,.string l.t,.int .i64 l.l.k,.int .i64 l.l.f,.int .u64 l.l.c,.string l.l.t,.bool l.l.b,.bool l.lost] 52 (0,0))∧Ext w w') ⟨heap_new rfl,zR.alloc _⟩ ?_
 rintro W1 ⟨h1,x1⟩
 have c1:=zQ h1
 have l1:w.heap.size<W1.heap.size:=zL h1
 have X1:=zd x1
 clear h1 x1
 go_loopg [8] L.length (fun g ii wr=>∃ (n:Nat) (y:ExtOf W1),ii = .int .i64 (n:Int)∧n+g=L.length∧wr=y.val∧Hid (∀ (j:Nat) z,j<n→L[j]?=some z→z≠l))
 case atStart=>exact ⟨0,⟨W1,zR⟩,rfl,by omega,rfl,zd fun _ _ h=>by omega⟩
 case round=>
  obtain ⟨n,y,rfl,hg,rfl,HN⟩:=hrel
  by_cases hlt:n<L.length
  ·obtain ⟨g,off,rfl,hgl,hcell⟩:=HV.out (by omega)
   have hgl:=hgl (by omega)
   obtain ⟨x,hx⟩ : ∃ x,L[n]?=some x:=⟨_,zG hlt⟩
   obtain ⟨q0,q1,q2,q3,q4,q5,q6,q7,q8⟩:=mv_cells (fun j u hj=>cell_keep (hcell j u hj) X1.out) hx
   have HX:=zd hx
   have hgl1:g<W1.heap.size:=zU hgl X1.out.size
   clear hx hcell hgl
   have hlt':(n:Int)<(L.length:Int):=by omega
   by_cases he:l=x
   ·have he':mEq l.k l.who l.t l.l.k l.l.f l.l.c l.l.t l.l.b l.lost x.k x.who x.t x.l.k x.l.f x.l.c x.l.t x.l.b x.lost=true:=by rw [mEq_mv];simpa using he
    have HE:=zd he
    clear he
    go_wp2_with fail
    refine wp_region_ext (by kernel_rfl) (by kernel_rfl) ?_
    repeat (go_big_quiet_step (fail))
    refine wpQuiet_nil ?_
    intro _ hx'
    obtain ⟨z,rfl⟩:=hx'
    go_wp2_with fail
    go_ret
    refine ⟨n,rfl,?_,X1.out.trans (y.ext.val z)⟩
    rw [HE.out,decide_eq_decide]
    exact ⟨fun _=>zE HX.out,fun _=>by omega⟩
   ·have he':mEq l.k l.who l.t l.l.k l.l.f l.l.c l.l.t l.l.b l.lost x.k x.who x.t x.l.k x.l.f x.l.c x.l.t x.l.b x.lost=false:=by rw [mEq_mv];simpa using he
    have HE:=zd he
    clear he
    go_wp2_with fail
    refine wp_region_ext (by kernel_rfl) (by kernel_rfl) ?_
    repeat (go_big_quiet_step (fail))
    refine wpQuiet_nil ?_
    intro _ hx'
    obtain ⟨z,rfl⟩:=hx'
    go_wp2_with fail
    go_roundg (gk - 1)
    case rel=>
     refine ⟨n+1,⟨z.val,y.ext.val z⟩,rfl,by omega,rfl,zd fun j u hj hu=>?_⟩
     by_cases hjn:j=n
     ·subst hjn
      rw [HX.out,Option.some.injEq] at hu
      rw [←hu]
      exact fun h=>HE.out h.symm
     ·exact HN.out j u (by omega) hu
    case measure=>omega
  ·have hge:(L.length:Int)≤(n:Int):=by omega
   go_wp2_with fail
   go_ret
   refine ⟨-1,rfl,?_,X1.out.val y⟩
   rw [decide_eq_decide]
   refine ⟨fun h=>by omega,fun h=>absurd h (not_mem_of_allM fun j z hz=>HN.out j z ?_ hz)⟩
   have:=zM hz
   omega
theorem sl_containsM (v:Value) (L:List Mv) (l:Mv) (w:World) (hR:Row w 9 v L.length (L.flatMap Mv.cs)) :
 Calls Tryz.prog 58 #[v,.agg #[.int .i64 l.k,.int .i64 l.who,.string l.t,.int .i64 l.l.k,.int .i64 l.l.f,.int .u64 l.l.c,.string l.l.t,.bool l.l.b,.bool l.lost]] w fun e w'=>e = .returned (.bool (decide (l∈L)))∧Ext w w':=by
 have HR:=zd hR
 clear hR
 go_enter Tryz.func58,Tryz.ntmps58
 go_wp2_with fail
 refine (sl_indexM v L l _ (HR.out.ext (zR.alloc _))).mono ?_
 rintro e w1 ⟨n,rfl,hn,hx⟩
 have HN:=zd hn
 have HX:=zd hx
 clear hn hx
 go_wp2_with fail
 go_ret
 exact ⟨by rw [HN.out];rfl,(zR.alloc _).trans HX.out⟩
end Go.Proofs.YtlnmhocehgmbbaaGreatDoor
