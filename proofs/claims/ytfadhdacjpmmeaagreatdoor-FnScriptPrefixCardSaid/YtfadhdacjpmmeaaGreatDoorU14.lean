/- Parts. -/
import Derived.Test.YtfadhdacjpmmeaaGreatDoorY
import Derived.Shelf.Strings.OnBuilder
import Derived.Shelf.Small.Bits
import Derived.Shelf.Small.Strs
import Derived.Shelf.Small.Wraps
import Derived.Shelf.Utf8.RuneCount
import Derived.Shelf.Strconv.Itoa3
import Derived.Shelf.Strings.Shaped
import Derived.Shelf.Sort.Plain
import Derived.Shelf.Strings.SplitShaped
import Derived.Shelf.Strings.Explode
import Derived.Shelf.Unicode.DecodeAny
import Derived.Shelf.Strings.BuilderCap
import Derived.Shelf.Slices.Turned
import Derived.Shelf.Slices.Cells
import Derived.Shelf.Slices.In.SortNone
import Derived.Shelf.SlicesE.Reverse
set_option linter.unusedVariables false
set_option linter.unusedSimpArgs false
namespace Go.Proofs
open Go.Proofs.Tryz
open Go.Shelf
def Tryz.lays170_ren:Go.Shelf.Ren:=⟨fun|170=>14|n=>n,fun|70=>48|3=>3|0=>0|72=>50|37=>24|5=>5|n=>n,fun|n=>n⟩
theorem Tryz.lays170:Go.Proofs.Lays.n170 Tryz.prog Tryz.lays170_ren:={
 mixed:=by kernel_rfl
 f170:=func14.trans (congrArg some (by kernel_rfl))
 t0:=underlying0
 a0:=isAgg0
 z0:=sizeOf0
 v0:=zeroValue0
 t3:=underlying3
 a3:=isAgg3
 z3:=sizeOf3
 v3:=zeroValue3
 t37:=underlying24
 a37:=isAgg24
 z37:=sizeOf24
 v37:=zeroValue24
 t70:=underlying48
 a70:=isAgg48
 z70:=sizeOf48
 v70:=zeroValue48
 t72:=underlying50
 a72:=isAgg50
 z72:=sizeOf50
 v72:=zeroValue50}
def Tryz.lays169_ren:Go.Shelf.Ren:=⟨fun|169=>17|n=>n,fun|70=>48|9=>9|0=>0|72=>50|37=>24|127=>107|3=>3|5=>5|n=>n,fun|n=>n⟩
theorem Tryz.lays169:Go.Proofs.Lays.n169 Tryz.prog Tryz.lays169_ren:={
 mixed:=by kernel_rfl
 f169:=func17.trans (congrArg some (by kernel_rfl))
 t0:=underlying0
 a0:=isAgg0
 z0:=sizeOf0
 v0:=zeroValue0
 t3:=underlying3
 a3:=isAgg3
 z3:=sizeOf3
 v3:=zeroValue3
 t9:=underlying9
 a9:=isAgg9
 z9:=sizeOf9
 v9:=zeroValue9
 t37:=underlying24
 a37:=isAgg24
 z37:=sizeOf24
 v37:=zeroValue24
 t70:=underlying48
 a70:=isAgg48
 z70:=sizeOf48
 v70:=zeroValue48
 t72:=underlying50
 a72:=isAgg50
 z72:=sizeOf50
 v72:=zeroValue50
 t127:=underlying107
 a127:=isAgg107
 z127:=sizeOf107
 v127:=zeroValue107}
theorem Tryz.Builder_Extra_169:Builder.Extra Tryz.prog Tryz.lays169_ren:={
 sizeBuilder:=by kernel_rfl
 liesBuilder:=by kernel_rfl
 t5:=underlying5
 a5:=isAgg5
 z5:=sizeOf5
 v5:=zeroValue5
 infoByte:=by kernel_rfl
 cellsByte:=by kernel_rfl
 sizeByte:=by kernel_rfl
 neB5:=by decide}
def Tryz.lays156_ren:Go.Shelf.Ren:=⟨fun|156=>196|165=>269|166=>15|169=>17|240=>50|241=>313|276=>115|277=>350|n=>n,fun|31=>28|9=>9|3=>3|4=>4|0=>0|20=>20|72=>50|76=>55|70=>48|37=>24|75=>54|127=>107|164=>163|5=>5|80=>57|n=>n,fun|n=>n⟩
theorem Tryz.lays156:Go.Proofs.Lays.n156 Tryz.prog Tryz.lays156_ren:={
 mixed:=by kernel_rfl
 f156:=func196.trans (congrArg some (by kernel_rfl))
 f165:=func269.trans (congrArg some (by kernel_rfl))
 f166:=func15.trans (congrArg some (by kernel_rfl))
 f169:=func17.trans (congrArg some (by kernel_rfl))
 f240:=func50.trans (congrArg some (by kernel_rfl))
 f241:=func313.trans (congrArg some (by kernel_rfl))
 f276:=func115.trans (congrArg some (by kernel_rfl))
 f277:=func350.trans (congrArg some (by kernel_rfl))
 t0:=underlying0
 a0:=isAgg0
 z0:=sizeOf0
 v0:=zeroValue0
 t3:=underlying3
 a3:=isAgg3
 z3:=sizeOf3
 v3:=zeroValue3
 t4:=underlying4
 a4:=isAgg4
 z4:=sizeOf4
 v4:=zeroValue4
 t9:=underlying9
 a9:=isAgg9
 z9:=sizeOf9
 v9:=zeroValue9
 t20:=underlying20
 a20:=isAgg20
 z20:=sizeOf20
 v20:=zeroValue20
 t31:=underlying28
 a31:=isAgg28
 z31:=sizeOf28
 v31:=zeroValue28
 t37:=underlying24
 a37:=isAgg24
 z37:=sizeOf24
 v37:=zeroValue24
 t70:=underlying48
 a70:=isAgg48
 z70:=sizeOf48
 v70:=zeroValue48
 t72:=underlying50
 a72:=isAgg50
 z72:=sizeOf50
 v72:=zeroValue50
 t75:=underlying54
 a75:=isAgg54
 z75:=sizeOf54
 v75:=zeroValue54
 t76:=underlying55
 a76:=isAgg55
 z76:=sizeOf55
 v76:=zeroValue55
 t127:=underlying107
 a127:=isAgg107
 z127:=sizeOf107
 v127:=zeroValue107
 t164:=underlying163
 a164:=isAgg163
 z164:=sizeOf163
 v164:=zeroValue163}
theorem Tryz.Builder_Extra_156:Builder.Extra Tryz.prog Tryz.lays156_ren:={
 sizeBuilder:=by kernel_rfl
 liesBuilder:=by kernel_rfl
 t5:=underlying5
 a5:=isAgg5
 z5:=sizeOf5
 v5:=zeroValue5
 infoByte:=by kernel_rfl
 cellsByte:=by kernel_rfl
 sizeByte:=by kernel_rfl
 neB5:=by decide}
open Go.RowKit in
theorem Tryz.strings_Join(bk o c:Nat)(xs:List ByteArray)(sep:ByteArray)(w:World)(ow:∀(j:Nat) x,xs[j]? =some x->w.cell? ⟨bk,o+j,none⟩=some (.string x))(BJ:bk<w.heap.size)(hN:xs.length<=140737488355328)(az:xs.length<=c)(bp:(Lib.join (xs.map (·.data.toList)) sep.data.toList).length<=140737488355328):
 Calls Tryz.prog 196 #[.slice (some ⟨bk,o,none⟩) xs.length c,.string sep] w fun e w'=>e=.returned (.string ⟨(Lib.join (xs.map (·.data.toList)) sep.data.toList).toArray⟩)/\Below w.heap.size w w':=Any.strings_Join Tryz.lays156 Tryz.Builder_Extra_156 bk o c xs sep w ow BJ hN az bp
def Tryz.lays106_ren:Go.Shelf.Ren:=⟨fun|106=>200|213=>271|265=>316|n=>n,fun|9=>9|3=>3|n=>n,fun|n=>n⟩
theorem Tryz.lays106:Go.Proofs.Lays.n106 Tryz.prog Tryz.lays106_ren:={
 mixed:=by kernel_rfl
 f106:=func200.trans (congrArg some (by kernel_rfl))
 f213:=func271.trans (congrArg some (by kernel_rfl))
 f265:=func316.trans (congrArg some (by kernel_rfl))
 t3:=underlying3
 a3:=isAgg3
 z3:=sizeOf3
 v3:=zeroValue3
 t9:=underlying9
 a9:=isAgg9
 z9:=sizeOf9
 v9:=zeroValue9}
open Go.RowKit in
theorem Tryz.strings_Compare(a b w):
 Calls Tryz.prog 200 #[.string a,.string b] w fun e w'=>e=.returned (.int .i64 (Lib.compareBytes a.data.toList b.data.toList))/\w'=w:=Any.strings_Compare Tryz.lays106 a b w
def Tryz.lays103_ren:Go.Shelf.Ren:=⟨fun|103=>219|210=>287|206=>338|n=>n,fun|9=>9|4=>4|24=>114|3=>3|n=>n,fun|n=>n⟩
theorem Tryz.lays103:Go.Proofs.Lays.n103 Tryz.prog Tryz.lays103_ren:={
 mixed:=by kernel_rfl
 f103:=func219.trans (congrArg some (by kernel_rfl))
 f206:=func338.trans (congrArg some (by kernel_rfl))
 f210:=func287.trans (congrArg some (by kernel_rfl))
 t3:=underlying3
 a3:=isAgg3
 z3:=sizeOf3
 v3:=zeroValue3
 t4:=underlying4
 a4:=isAgg4
 z4:=sizeOf4
 v4:=zeroValue4
 t9:=underlying9
 a9:=isAgg9
 z9:=sizeOf9
 v9:=zeroValue9
 t24:=underlying114
 a24:=isAgg114
 z24:=sizeOf114
 v24:=zeroValue114}
open Go.RowKit in
theorem Tryz.strings_CutPrefix(s p w):
 Calls Tryz.prog 219 #[.string s,.string p] w fun e w'=>e=.returned (.tuple #[.string ⟨(Lib.trimPrefix s.data.toList p.data.toList).toArray⟩,.bool (Lib.hasPrefix s.data.toList p.data.toList)])/\w'=w:=Any.strings_CutPrefix Tryz.lays103 s p w
open Go.RowKit in
theorem Tryz.Builder_Len_f(B b bs w)(h:Lib.IsBuilderF 50 5 B b bs w):
 Calls Tryz.prog 14 #[.pointer (some ⟨b,0,none⟩)] w fun e w'=>e=.returned (.int .i64 bs.length)/\w'=w:=Any.Builder_Len_f Tryz.lays170 B b bs w h
open Go.RowKit in
theorem Tryz.Builder_String_any_k(B b l w)(h:Lib.IsBuilderF 50 5 B b (Lib.byteCells l) w)(KE:B<=w.heap.size):
 Calls Tryz.prog 17 #[.pointer (some ⟨b,0,none⟩)] w fun e w'=>e=.returned (.string ⟨l.toArray⟩)/\(Lib.IsBuilderF 50 5 B b (Lib.byteCells l) w'/\Below B w w'/\Lib.OthersKept 5 (some b) w w'):=Any.Builder_String_any_k Tryz.lays169 Tryz.Builder_Extra_169 B b l w h KE
def Tryz.laysM171_ren:Go.Shelf.Ren:=⟨fun|171=>195|243=>268|246=>312|283=>346|284=>347|285=>348|286=>349|129=>327|317=>364|318=>365|319=>366|320=>367|337=>371|338=>372|n=>n,fun|3=>3|9=>9|2=>2|4=>4|171=>278|0=>0|53=>269|37=>24|5=>5|173=>280|212=>294|51=>254|20=>20|213=>295|46=>229|232=>300|233=>301|n=>n,fun|17=>4|18=>5|19=>6|n=>n⟩
theorem Tryz.laysM171:Go.Proofs.LaysM.n171 Tryz.prog Tryz.laysM171_ren:={
 mixed:=by kernel_rfl
 f129:=func327.trans (congrArg some (by kernel_rfl))
 f171:=func195.trans (congrArg some (by kernel_rfl))
 f243:=func268.trans (congrArg some (by kernel_rfl))
 f246:=func312.trans (congrArg some (by kernel_rfl))
 f283:=func346.trans (congrArg some (by kernel_rfl))
 f284:=func347.trans (congrArg some (by kernel_rfl))
 f285:=func348.trans (congrArg some (by kernel_rfl))
 f286:=func349.trans (congrArg some (by kernel_rfl))
 f317:=func364.trans (congrArg some (by kernel_rfl))
 f318:=func365.trans (congrArg some (by kernel_rfl))
 f319:=func366.trans (congrArg some (by kernel_rfl))
 f320:=func367.trans (congrArg some (by kernel_rfl))
 f337:=func371.trans (congrArg some (by kernel_rfl))
 f338:=func372.trans (congrArg some (by kernel_rfl))
 t0:=underlying0
 a0:=isAgg0
 z0:=sizeOf0
 v0:=zeroValue0
 t2:=underlying2
 a2:=isAgg2
 z2:=sizeOf2
 v2:=zeroValue2
 t3:=underlying3
 a3:=isAgg3
 z3:=sizeOf3
 v3:=zeroValue3
 t4:=underlying4
 a4:=isAgg4
 z4:=sizeOf4
 v4:=zeroValue4
 t5:=underlying5
 a5:=isAgg5
 z5:=sizeOf5
 v5:=zeroValue5
 t9:=underlying9
 a9:=isAgg9
 z9:=sizeOf9
 v9:=zeroValue9
 t20:=underlying20
 a20:=isAgg20
 z20:=sizeOf20
 v20:=zeroValue20
 t37:=underlying24
 a37:=isAgg24
 z37:=sizeOf24
 v37:=zeroValue24
 t46:=underlying229
 a46:=isAgg229
 z46:=sizeOf229
 v46:=zeroValue229
 t51:=underlying254
 a51:=isAgg254
 z51:=sizeOf254
 v51:=zeroValue254
 t53:=underlying269
 a53:=isAgg269
 z53:=sizeOf269
 v53:=zeroValue269
 t171:=underlying278
 a171:=isAgg278
 z171:=sizeOf278
 v171:=zeroValue278
 t173:=underlying280
 a173:=isAgg280
 z173:=sizeOf280
 v173:=zeroValue280
 t212:=underlying294
 a212:=isAgg294
 z212:=sizeOf294
 v212:=zeroValue294
 t213:=underlying295
 a213:=isAgg295
 z213:=sizeOf295
 t232:=underlying300
 a232:=isAgg300
 z232:=sizeOf300
 v232:=zeroValue300
 t233:=underlying301
 a233:=isAgg301
 z233:=sizeOf301
 v233:=zeroValue301
 g17:=by kernel_rfl
 g18:=by kernel_rfl
 g19:=by kernel_rfl
 i0:=by kernel_rfl
 i2:=by kernel_rfl
 i3:=by kernel_rfl
 i4:=by kernel_rfl
 i5:=by kernel_rfl
 i9:=by kernel_rfl
 i20:=by kernel_rfl
 i37:=by kernel_rfl
 i46:=by kernel_rfl
 i51:=by kernel_rfl
 i53:=by kernel_rfl
 i171:=by kernel_rfl
 i173:=by kernel_rfl
 i212:=by kernel_rfl
 i232:=by kernel_rfl
 i233:=by kernel_rfl
 m17:=by kernel_rfl
 m18:=by kernel_rfl
 m19:=by kernel_rfl}
open Go.RowKit Go.Sort Go.Lib in
theorem Tryz.strconv_Itoa(n)(h0: -9223372036854775808<=n)(h1:n<=9223372036854775807)(w)(UM:Lib.TabIs Tryz.prog w "internal/strconv.uint64pow10" .u64 Lib.pow10Tab):
 Calls Tryz.prog 195 #[.int .i64 n] w fun e w'=>e=.returned (.string ⟨(Lib.itoa n).toArray⟩)/\∃k os,w'=grow (w.drewN k) os:=Any.strconv_Itoa Tryz.laysM171 n h0 h1 w UM
def Tryz.lays219_ren:Go.Shelf.Ren:=⟨fun|219=>193|217=>264|225=>265|224=>266|267=>267|266=>310|314=>311|n=>n,fun|9=>9|3=>3|4=>4|5=>5|46=>229|146=>255|51=>254|n=>n,fun|1=>0|n=>n⟩
theorem Tryz.lays219:Go.Proofs.Lays.n219 Tryz.prog Tryz.lays219_ren:={
 mixed:=by kernel_rfl
 f217:=func264.trans (congrArg some (by kernel_rfl))
 f219:=func193.trans (congrArg some (by kernel_rfl))
 f224:=func266.trans (congrArg some (by kernel_rfl))
 f225:=func265.trans (congrArg some (by kernel_rfl))
 f266:=func310.trans (congrArg some (by kernel_rfl))
 f267:=func267.trans (congrArg some (by kernel_rfl))
 f314:=func311.trans (congrArg some (by kernel_rfl))
 t3:=underlying3
 a3:=isAgg3
 z3:=sizeOf3
 v3:=zeroValue3
 t4:=underlying4
 a4:=isAgg4
 z4:=sizeOf4
 v4:=zeroValue4
 t5:=underlying5
 a5:=isAgg5
 z5:=sizeOf5
 v5:=zeroValue5
 t9:=underlying9
 a9:=isAgg9
 z9:=sizeOf9
 v9:=zeroValue9
 t46:=underlying229
 a46:=isAgg229
 z46:=sizeOf229
 v46:=zeroValue229
 t51:=underlying254
 a51:=isAgg254
 z51:=sizeOf254
 v51:=zeroValue254
 t146:=underlying255
 a146:=isAgg255
 z146:=sizeOf255
 v146:=zeroValue255
 g1:=by kernel_rfl}
open Go.RowKit Go.Lib in
theorem Tryz.stringslite_Index_one(s c w):
 Calls Tryz.prog 193 #[.string s,.string ⟨#[c]⟩] w fun e w'=>e=.returned (.int .i64 (Lib.indexByte s.data.toList c))/\w'=w:=Any.stringslite_Index_one Tryz.lays219 s c w
def Tryz.lays143_ren:Go.Shelf.Ren:=⟨fun|143=>114|219=>193|217=>264|225=>265|224=>266|267=>267|266=>310|314=>311|n=>n,fun|9=>9|3=>3|4=>4|5=>5|46=>229|146=>255|51=>254|n=>n,fun|1=>0|n=>n⟩
theorem Tryz.lays143:Go.Proofs.Lays.n143 Tryz.prog Tryz.lays143_ren:={
 mixed:=by kernel_rfl
 f143:=func114.trans (congrArg some (by kernel_rfl))
 f217:=func264.trans (congrArg some (by kernel_rfl))
 f219:=func193.trans (congrArg some (by kernel_rfl))
 f224:=func266.trans (congrArg some (by kernel_rfl))
 f225:=func265.trans (congrArg some (by kernel_rfl))
 f266:=func310.trans (congrArg some (by kernel_rfl))
 f267:=func267.trans (congrArg some (by kernel_rfl))
 f314:=func311.trans (congrArg some (by kernel_rfl))
 t3:=underlying3
 a3:=isAgg3
 z3:=sizeOf3
 v3:=zeroValue3
 t4:=underlying4
 a4:=isAgg4
 z4:=sizeOf4
 v4:=zeroValue4
 t5:=underlying5
 a5:=isAgg5
 z5:=sizeOf5
 v5:=zeroValue5
 t9:=underlying9
 a9:=isAgg9
 z9:=sizeOf9
 v9:=zeroValue9
 t46:=underlying229
 a46:=isAgg229
 z46:=sizeOf229
 v46:=zeroValue229
 t51:=underlying254
 a51:=isAgg254
 z51:=sizeOf254
 v51:=zeroValue254
 t146:=underlying255
 a146:=isAgg255
 z146:=sizeOf255
 v146:=zeroValue255
 g1:=by kernel_rfl}
open Go.RowKit Go.Lib in
theorem Tryz.strings_Index_one(s c w):
 Calls Tryz.prog 114 #[.string s,.string ⟨#[c]⟩] w fun e w'=>e=.returned (.int .i64 (Lib.indexByte s.data.toList c))/\w'=w:=Any.strings_Index_one Tryz.lays143 s c w
def Tryz.lays190_ren:Go.Shelf.Ren:=⟨fun|190=>208|125=>278|258=>279|128=>326|129=>327|302=>328|303=>329|304=>330|305=>331|306=>332|307=>333|308=>334|309=>335|310=>336|333=>357|329=>353|330=>354|334=>358|335=>359|336=>360|344=>370|n=>n,fun|31=>28|9=>9|3=>3|46=>229|0=>0|51=>254|53=>269|4=>4|183=>262|182=>261|131=>96|5=>5|218=>283|222=>287|228=>296|229=>297|n=>n,fun|n=>n⟩
theorem Tryz.lays190:Go.Proofs.Lays.n190 Tryz.prog Tryz.lays190_ren:={
 mixed:=by kernel_rfl
 f125:=func278.trans (congrArg some (by kernel_rfl))
 f128:=func326.trans (congrArg some (by kernel_rfl))
 f129:=func327.trans (congrArg some (by kernel_rfl))
 f190:=func208.trans (congrArg some (by kernel_rfl))
 f258:=func279.trans (congrArg some (by kernel_rfl))
 f302:=func328.trans (congrArg some (by kernel_rfl))
 f303:=func329.trans (congrArg some (by kernel_rfl))
 f304:=func330.trans (congrArg some (by kernel_rfl))
 f305:=func331.trans (congrArg some (by kernel_rfl))
 f306:=func332.trans (congrArg some (by kernel_rfl))
 f307:=func333.trans (congrArg some (by kernel_rfl))
 f308:=func334.trans (congrArg some (by kernel_rfl))
 f309:=func335.trans (congrArg some (by kernel_rfl))
 f310:=func336.trans (congrArg some (by kernel_rfl))
 f329:=func353.trans (congrArg some (by kernel_rfl))
 f330:=func354.trans (congrArg some (by kernel_rfl))
 f333:=func357.trans (congrArg some (by kernel_rfl))
 f334:=func358.trans (congrArg some (by kernel_rfl))
 f335:=func359.trans (congrArg some (by kernel_rfl))
 f336:=func360.trans (congrArg some (by kernel_rfl))
 f344:=func370.trans (congrArg some (by kernel_rfl))
 t0:=underlying0
 a0:=isAgg0
 z0:=sizeOf0
 v0:=zeroValue0
 t3:=underlying3
 a3:=isAgg3
 z3:=sizeOf3
 v3:=zeroValue3
 t4:=underlying4
 a4:=isAgg4
 z4:=sizeOf4
 v4:=zeroValue4
 t5:=underlying5
 a5:=isAgg5
 z5:=sizeOf5
 v5:=zeroValue5
 t9:=underlying9
 a9:=isAgg9
 z9:=sizeOf9
 v9:=zeroValue9
 t31:=underlying28
 a31:=isAgg28
 z31:=sizeOf28
 v31:=zeroValue28
 t46:=underlying229
 a46:=isAgg229
 z46:=sizeOf229
 v46:=zeroValue229
 t51:=underlying254
 a51:=isAgg254
 z51:=sizeOf254
 v51:=zeroValue254
 t53:=underlying269
 a53:=isAgg269
 z53:=sizeOf269
 v53:=zeroValue269
 t131:=underlying96
 a131:=isAgg96
 z131:=sizeOf96
 v131:=zeroValue96
 t182:=underlying261
 a182:=isAgg261
 z182:=sizeOf261
 v182:=zeroValue261
 t183:=underlying262
 a183:=isAgg262
 z183:=sizeOf262
 v183:=zeroValue262
 t218:=underlying283
 a218:=isAgg283
 z218:=sizeOf283
 v218:=zeroValue283
 t222:=underlying287
 a222:=isAgg287
 z222:=sizeOf287
 v222:=zeroValue287
 t228:=underlying296
 a228:=isAgg296
 z228:=sizeOf296
 v228:=zeroValue296
 t229:=underlying297
 a229:=isAgg297
 z229:=sizeOf297
 v229:=zeroValue297}
open Go.Sort Go.RowKit in
theorem Tryz.slices_Sort_string(blk aw cap:Nat)(ss:List (List UInt8))(w:World)(hH:Holds encStr w blk aw ss.toArray)(hblk:blk<w.heap.size)(cm:ss.length<4611686018427387904):
 Calls Tryz.prog 208 #[.slice (some ⟨blk,aw,none⟩) ss.length cap] w fun e w'=>
  e=.returned (.tuple #[])/\∃n os,w'=grow (putRow encStr (Sort.ahead w n) blk aw (ss.mergeSort fun x y=>decide (x<=y)).toArray) os:=Any.slices_Sort_string Tryz.lays190 blk aw cap ss w hH hblk cm
def Tryz.lays146_ren:Go.Shelf.Ren:=⟨fun|146=>13|221=>49|268=>112|138=>113|143=>114|195=>190|197=>191|218=>192|219=>193|260=>263|217=>264|225=>265|224=>266|267=>267|266=>310|314=>311|n=>n,fun|9=>9|31=>28|3=>3|4=>4|0=>0|105=>202|21=>21|5=>5|46=>229|119=>250|139=>253|138=>252|146=>255|51=>254|n=>n,fun|1=>0|3=>2|4=>3|n=>n⟩
theorem Tryz.lays146:Go.Proofs.Lays.n146 Tryz.prog Tryz.lays146_ren:={
 mixed:=by kernel_rfl
 f138:=func113.trans (congrArg some (by kernel_rfl))
 f143:=func114.trans (congrArg some (by kernel_rfl))
 f146:=func13.trans (congrArg some (by kernel_rfl))
 f195:=func190.trans (congrArg some (by kernel_rfl))
 f197:=func191.trans (congrArg some (by kernel_rfl))
 f217:=func264.trans (congrArg some (by kernel_rfl))
 f218:=func192.trans (congrArg some (by kernel_rfl))
 f219:=func193.trans (congrArg some (by kernel_rfl))
 f221:=func49.trans (congrArg some (by kernel_rfl))
 f224:=func266.trans (congrArg some (by kernel_rfl))
 f225:=func265.trans (congrArg some (by kernel_rfl))
 f260:=func263.trans (congrArg some (by kernel_rfl))
 f266:=func310.trans (congrArg some (by kernel_rfl))
 f267:=func267.trans (congrArg some (by kernel_rfl))
 f268:=func112.trans (congrArg some (by kernel_rfl))
 f314:=func311.trans (congrArg some (by kernel_rfl))
 t0:=underlying0
 a0:=isAgg0
 z0:=sizeOf0
 v0:=zeroValue0
 t3:=underlying3
 a3:=isAgg3
 z3:=sizeOf3
 v3:=zeroValue3
 t4:=underlying4
 a4:=isAgg4
 z4:=sizeOf4
 v4:=zeroValue4
 t5:=underlying5
 a5:=isAgg5
 z5:=sizeOf5
 v5:=zeroValue5
 t9:=underlying9
 a9:=isAgg9
 z9:=sizeOf9
 v9:=zeroValue9
 t21:=underlying21
 a21:=isAgg21
 z21:=sizeOf21
 v21:=zeroValue21
 t31:=underlying28
 a31:=isAgg28
 z31:=sizeOf28
 v31:=zeroValue28
 t46:=underlying229
 a46:=isAgg229
 z46:=sizeOf229
 v46:=zeroValue229
 t51:=underlying254
 a51:=isAgg254
 z51:=sizeOf254
 v51:=zeroValue254
 t105:=underlying202
 a105:=isAgg202
 z105:=sizeOf202
 v105:=zeroValue202
 t119:=underlying250
 a119:=isAgg250
 z119:=sizeOf250
 t138:=underlying252
 a138:=isAgg252
 z138:=sizeOf252
 v138:=zeroValue252
 t139:=underlying253
 a139:=isAgg253
 z139:=sizeOf253
 v139:=zeroValue253
 t146:=underlying255
 a146:=isAgg255
 z146:=sizeOf255
 v146:=zeroValue255
 g1:=by kernel_rfl
 g3:=by kernel_rfl
 g4:=by kernel_rfl}
open Go.RowKit Go.Sort in
theorem Tryz.slices_Sort_string_none(p cap w):
 Calls Tryz.prog 208 #[.slice p 0 cap] w fun e w'=>e=.returned (.tuple #[])/\w'=w:=Any.slices_Sort_string_none Tryz.lays190 p cap w
end Go.Proofs
