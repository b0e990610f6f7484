/- Shelf, IdsAll, LedFindS (put together by bundle.py: only what is needed). -/
import Derived.Shelf.Strings.Builder1
import Derived.Shelf.Strings.Trim
import Derived.Shelf.Small.Utf8
import Derived.Shelf.Small.Bits
import Derived.Shelf.Small.Strs
import Derived.Shelf.Small.Wraps
import Derived.Shelf.Utf8.RuneCount
import Derived.Shelf.Strconv.Itoa0
import Derived.Shelf.Strings.Search1
import Derived.Shelf.Strings.Search2
import Derived.Shelf.Strings.Search3
import Derived.Shelf.Strings.Cut
import Derived.Shelf.Strings.Count
import Derived.Shelf.LaysM
import Derived.Shelf.Strings.Shaped
import Derived.Shelf.Sort.Plain
import Derived.Shelf.Strings.Prefix
import Derived.Shelf.Strings.Split
import Derived.Shelf.Strings.SplitShaped
import Derived.Shelf.Unicode.Decode
import Derived.Shelf.Strings.Runes
import Derived.Shelf.Strings.RuneCount
import Derived.Shelf.Strings.AsciiSet
import Derived.Shelf.Strings.Explode
import Derived.Shelf.Unicode.DecodeSlow
import Derived.Shelf.Unicode.DecodeAny
import Derived.Shelf.Unicode.DecodeLast
import Derived.Shelf.Slices.Turned
import Derived.Shelf.Slices.Equal
import Derived.Ground.Names2Prog
import Derived.Shelf.Slices.ReverseS
import Derived.Shelf.Slices.Clone
import Derived.Shelf.Slices.CompactS
import Derived.Shelf.Slices.Delete
import Derived.Shelf.Slices.Cells
import Derived.Shelf.Slices.In.SortNone
import Derived.Shelf.Slices.Empties
import Derived.Shelf.Slices.Empties2
import Derived.Ground.SlgnProg
import Derived.Shelf.SlicesE.Clone
import Derived.Shelf.Strings.SlTrimAscii
import Derived.Shelf.Strings.SplitCore
import Derived.RangeFuncNested
import Derived.RangeFuncBound
import Derived.RangeFuncCalls
import Derived.RangeFuncLeaves
import Derived.Shelf.Abstract
import Derived.Shelf.RegionOpen
import Derived.OwnWalkIn
import Derived.OrdersHeld
import Derived.TacticsInMore
import Derived.LoopNIn
import Derived.LoopIn
import Derived.Laws.NewBlocks
import Derived.Test.YtmbpnkacggngkaaGreatDoorLI6
set_option maxRecDepth 100000
set_option maxHeartbeats 16000000
section
namespace Go.Proofs
open Go.Shelf
def Tryz.lays169_ren:Go.Shelf.Ren:=⟨fun|169=>202|n=>n,fun|70=>212|9=>9|0=>0|72=>214|37=>62|127=>247|3=>3|5=>5|n=>n,fun|n=>n⟩
theorem Tryz.lays169:Go.Proofs.Lays.n169 Tryz.prog Tryz.lays169_ren:={
 mixed:=by kernel_rfl
 f169:=Tryz.func202.trans (congrArg some (by kernel_rfl))
 t0:=Tryz.underlying0
 a0:=Tryz.isAgg0
 z0:=Tryz.sizeOf0
 v0:=Tryz.zeroValue0
 t3:=Tryz.underlying3
 a3:=Tryz.isAgg3
 z3:=Tryz.sizeOf3
 v3:=Tryz.zeroValue3
 t9:=Tryz.underlying9
 a9:=Tryz.isAgg9
 z9:=Tryz.sizeOf9
 v9:=Tryz.zeroValue9
 t37:=Tryz.underlying62
 a37:=Tryz.isAgg62
 z37:=Tryz.sizeOf62
 v37:=Tryz.zeroValue62
 t70:=Tryz.underlying212
 a70:=Tryz.isAgg212
 z70:=Tryz.sizeOf212
 v70:=Tryz.zeroValue212
 t72:=Tryz.underlying214
 a72:=Tryz.isAgg214
 z72:=Tryz.sizeOf214
 v72:=Tryz.zeroValue214
 t127:=Tryz.underlying247
 a127:=Tryz.isAgg247
 z127:=Tryz.sizeOf247
 v127:=Tryz.zeroValue247 }
def Tryz.lays160_ren:Go.Shelf.Ren:=⟨fun|160=>225|232=>250|231=>249|227=>251|234=>253|233=>252|236=>255|235=>254|228=>265|271=>267|151=>266|197=>263|120=>275|152=>274|260=>273|137=>278|119=>279|224=>222|225=>221|217=>220|266=>247|n=>n,fun|9=>9|4=>4|3=>3|5=>5|117=>260|116=>259|0=>0|124=>263|21=>21|105=>278|46=>189|119=>294|139=>297|138=>296|n=>n,fun|3=>2|4=>3|n=>n⟩
theorem Tryz.lays160:Go.Proofs.Lays.n160 Tryz.prog Tryz.lays160_ren:={
 mixed:=by kernel_rfl
 f119:=Tryz.func279.trans (congrArg some (by kernel_rfl))
 f120:=Tryz.func275.trans (congrArg some (by kernel_rfl))
 f137:=Tryz.func278.trans (congrArg some (by kernel_rfl))
 f151:=Tryz.func266.trans (congrArg some (by kernel_rfl))
 f152:=Tryz.func274.trans (congrArg some (by kernel_rfl))
 f160:=Tryz.func225.trans (congrArg some (by kernel_rfl))
 f197:=Tryz.func263.trans (congrArg some (by kernel_rfl))
 f217:=Tryz.func220.trans (congrArg some (by kernel_rfl))
 f224:=Tryz.func222.trans (congrArg some (by kernel_rfl))
 f225:=Tryz.func221.trans (congrArg some (by kernel_rfl))
 f227:=Tryz.func251.trans (congrArg some (by kernel_rfl))
 f228:=Tryz.func265.trans (congrArg some (by kernel_rfl))
 f231:=Tryz.func249.trans (congrArg some (by kernel_rfl))
 f232:=Tryz.func250.trans (congrArg some (by kernel_rfl))
 f233:=Tryz.func252.trans (congrArg some (by kernel_rfl))
 f234:=Tryz.func253.trans (congrArg some (by kernel_rfl))
 f235:=Tryz.func254.trans (congrArg some (by kernel_rfl))
 f236:=Tryz.func255.trans (congrArg some (by kernel_rfl))
 f260:=Tryz.func273.trans (congrArg some (by kernel_rfl))
 f266:=Tryz.func247.trans (congrArg some (by kernel_rfl))
 f271:=Tryz.func267.trans (congrArg some (by kernel_rfl))
 t0:=Tryz.underlying0
 a0:=Tryz.isAgg0
 z0:=Tryz.sizeOf0
 v0:=Tryz.zeroValue0
 t3:=Tryz.underlying3
 a3:=Tryz.isAgg3
 z3:=Tryz.sizeOf3
 v3:=Tryz.zeroValue3
 t4:=Tryz.underlying4
 a4:=Tryz.isAgg4
 z4:=Tryz.sizeOf4
 v4:=Tryz.zeroValue4
 t5:=Tryz.underlying5
 a5:=Tryz.isAgg5
 z5:=Tryz.sizeOf5
 v5:=Tryz.zeroValue5
 t9:=Tryz.underlying9
 a9:=Tryz.isAgg9
 z9:=Tryz.sizeOf9
 v9:=Tryz.zeroValue9
 t21:=Tryz.underlying21
 a21:=Tryz.isAgg21
 z21:=Tryz.sizeOf21
 v21:=Tryz.zeroValue21
 t46:=Tryz.underlying189
 a46:=Tryz.isAgg189
 z46:=Tryz.sizeOf189
 v46:=Tryz.zeroValue189
 t105:=Tryz.underlying278
 a105:=Tryz.isAgg278
 z105:=Tryz.sizeOf278
 v105:=Tryz.zeroValue278
 t116:=Tryz.underlying259
 a116:=Tryz.isAgg259
 z116:=Tryz.sizeOf259
 t117:=Tryz.underlying260
 a117:=Tryz.isAgg260
 z117:=Tryz.sizeOf260
 v117:=Tryz.zeroValue260
 t119:=Tryz.underlying294
 a119:=Tryz.isAgg294
 z119:=Tryz.sizeOf294
 t124:=Tryz.underlying263
 a124:=Tryz.isAgg263
 z124:=Tryz.sizeOf263
 v124:=Tryz.zeroValue263
 t138:=Tryz.underlying296
 a138:=Tryz.isAgg296
 z138:=Tryz.sizeOf296
 v138:=Tryz.zeroValue296
 t139:=Tryz.underlying297
 a139:=Tryz.isAgg297
 z139:=Tryz.sizeOf297
 v139:=Tryz.zeroValue297
 g3:=by kernel_rfl
 g4:=by kernel_rfl }
def Tryz.lays103_ren:Go.Shelf.Ren:=⟨fun|103=>139|210=>172|206=>188|n=>n,fun|9=>9|4=>4|24=>164|3=>3|n=>n,fun|n=>n⟩
theorem Tryz.lays103:Go.Proofs.Lays.n103 Tryz.prog Tryz.lays103_ren:={
 mixed:=by kernel_rfl
 f103:=Tryz.func139.trans (congrArg some (by kernel_rfl))
 f206:=Tryz.func188.trans (congrArg some (by kernel_rfl))
 f210:=Tryz.func172.trans (congrArg some (by kernel_rfl))
 t3:=Tryz.underlying3
 a3:=Tryz.isAgg3
 z3:=Tryz.sizeOf3
 v3:=Tryz.zeroValue3
 t4:=Tryz.underlying4
 a4:=Tryz.isAgg4
 z4:=Tryz.sizeOf4
 v4:=Tryz.zeroValue4
 t9:=Tryz.underlying9
 a9:=Tryz.isAgg9
 z9:=Tryz.sizeOf9
 v9:=Tryz.zeroValue9
 t24:=Tryz.underlying164
 a24:=Tryz.isAgg164
 z24:=Tryz.sizeOf164
 v24:=Tryz.zeroValue164 }
open Go.RowKit in
theorem Tryz.strings_CutPrefix(s p:ByteArray) (w:World) :
  Calls Tryz.prog 139 #[.string s,.string p] w fun e w'=>e=.returned (.tuple #[.string ⟨(Lib.trimPrefix s.data.toList p.data.toList).toArray⟩,.bool (Lib.hasPrefix s.data.toList p.data.toList)])∧w'=w:=Any.strings_CutPrefix Tryz.lays103 s p w
def Tryz.lays219_ren:Go.Shelf.Ren:=⟨fun|219=>194|217=>220|225=>221|224=>222|267=>223|266=>247|314=>248|n=>n,fun|9=>9|3=>3|4=>4|5=>5|46=>189|146=>255|51=>228|n=>n,fun|1=>0|n=>n⟩
theorem Tryz.lays219:Go.Proofs.Lays.n219 Tryz.prog Tryz.lays219_ren:={
 mixed:=by kernel_rfl
 f217:=Tryz.func220.trans (congrArg some (by kernel_rfl))
 f219:=Tryz.func194.trans (congrArg some (by kernel_rfl))
 f224:=Tryz.func222.trans (congrArg some (by kernel_rfl))
 f225:=Tryz.func221.trans (congrArg some (by kernel_rfl))
 f266:=Tryz.func247.trans (congrArg some (by kernel_rfl))
 f267:=Tryz.func223.trans (congrArg some (by kernel_rfl))
 f314:=Tryz.func248.trans (congrArg some (by kernel_rfl))
 t3:=Tryz.underlying3
 a3:=Tryz.isAgg3
 z3:=Tryz.sizeOf3
 v3:=Tryz.zeroValue3
 t4:=Tryz.underlying4
 a4:=Tryz.isAgg4
 z4:=Tryz.sizeOf4
 v4:=Tryz.zeroValue4
 t5:=Tryz.underlying5
 a5:=Tryz.isAgg5
 z5:=Tryz.sizeOf5
 v5:=Tryz.zeroValue5
 t9:=Tryz.underlying9
 a9:=Tryz.isAgg9
 z9:=Tryz.sizeOf9
 v9:=Tryz.zeroValue9
 t46:=Tryz.underlying189
 a46:=Tryz.isAgg189
 z46:=Tryz.sizeOf189
 v46:=Tryz.zeroValue189
 t51:=Tryz.underlying228
 a51:=Tryz.isAgg228
 z51:=Tryz.sizeOf228
 v51:=Tryz.zeroValue228
 t146:=Tryz.underlying255
 a146:=Tryz.isAgg255
 z146:=Tryz.sizeOf255
 v146:=Tryz.zeroValue255
 g1:=by kernel_rfl }
def Tryz.lays143_ren:Go.Shelf.Ren:=⟨fun|143=>173|219=>194|217=>220|225=>221|224=>222|267=>223|266=>247|314=>248|n=>n,fun|9=>9|3=>3|4=>4|5=>5|46=>189|146=>255|51=>228|n=>n,fun|1=>0|n=>n⟩
theorem Tryz.lays143:Go.Proofs.Lays.n143 Tryz.prog Tryz.lays143_ren:={
 mixed:=by kernel_rfl
 f143:=Tryz.func173.trans (congrArg some (by kernel_rfl))
 f217:=Tryz.func220.trans (congrArg some (by kernel_rfl))
 f219:=Tryz.func194.trans (congrArg some (by kernel_rfl))
 f224:=Tryz.func222.trans (congrArg some (by kernel_rfl))
 f225:=Tryz.func221.trans (congrArg some (by kernel_rfl))
 f266:=Tryz.func247.trans (congrArg some (by kernel_rfl))
 f267:=Tryz.func223.trans (congrArg some (by kernel_rfl))
 f314:=Tryz.func248.trans (congrArg some (by kernel_rfl))
 t3:=Tryz.underlying3
 a3:=Tryz.isAgg3
 z3:=Tryz.sizeOf3
 v3:=Tryz.zeroValue3
 t4:=Tryz.underlying4
 a4:=Tryz.isAgg4
 z4:=Tryz.sizeOf4
 v4:=Tryz.zeroValue4
 t5:=Tryz.underlying5
 a5:=Tryz.isAgg5
 z5:=Tryz.sizeOf5
 v5:=Tryz.zeroValue5
 t9:=Tryz.underlying9
 a9:=Tryz.isAgg9
 z9:=Tryz.sizeOf9
 v9:=Tryz.zeroValue9
 t46:=Tryz.underlying189
 a46:=Tryz.isAgg189
 z46:=Tryz.sizeOf189
 v46:=Tryz.zeroValue189
 t51:=Tryz.underlying228
 a51:=Tryz.isAgg228
 z51:=Tryz.sizeOf228
 v51:=Tryz.zeroValue228
 t146:=Tryz.underlying255
 a146:=Tryz.isAgg255
 z146:=Tryz.sizeOf255
 v146:=Tryz.zeroValue255
 g1:=by kernel_rfl }
def Tryz.lays144_ren:Go.Shelf.Ren:=⟨fun|144=>140|143=>173|219=>194|217=>220|225=>221|224=>222|267=>223|266=>247|314=>248|n=>n,fun|9=>9|4=>4|3=>3|5=>5|46=>189|146=>255|51=>228|n=>n,fun|1=>0|n=>n⟩
theorem Tryz.lays144:Go.Proofs.Lays.n144 Tryz.prog Tryz.lays144_ren:={
 mixed:=by kernel_rfl
 f143:=Tryz.func173.trans (congrArg some (by kernel_rfl))
 f144:=Tryz.func140.trans (congrArg some (by kernel_rfl))
 f217:=Tryz.func220.trans (congrArg some (by kernel_rfl))
 f219:=Tryz.func194.trans (congrArg some (by kernel_rfl))
 f224:=Tryz.func222.trans (congrArg some (by kernel_rfl))
 f225:=Tryz.func221.trans (congrArg some (by kernel_rfl))
 f266:=Tryz.func247.trans (congrArg some (by kernel_rfl))
 f267:=Tryz.func223.trans (congrArg some (by kernel_rfl))
 f314:=Tryz.func248.trans (congrArg some (by kernel_rfl))
 t3:=Tryz.underlying3
 a3:=Tryz.isAgg3
 z3:=Tryz.sizeOf3
 v3:=Tryz.zeroValue3
 t4:=Tryz.underlying4
 a4:=Tryz.isAgg4
 z4:=Tryz.sizeOf4
 v4:=Tryz.zeroValue4
 t5:=Tryz.underlying5
 a5:=Tryz.isAgg5
 z5:=Tryz.sizeOf5
 v5:=Tryz.zeroValue5
 t9:=Tryz.underlying9
 a9:=Tryz.isAgg9
 z9:=Tryz.sizeOf9
 v9:=Tryz.zeroValue9
 t46:=Tryz.underlying189
 a46:=Tryz.isAgg189
 z46:=Tryz.sizeOf189
 v46:=Tryz.zeroValue189
 t51:=Tryz.underlying228
 a51:=Tryz.isAgg228
 z51:=Tryz.sizeOf228
 v51:=Tryz.zeroValue228
 t146:=Tryz.underlying255
 a146:=Tryz.isAgg255
 z146:=Tryz.sizeOf255
 v146:=Tryz.zeroValue255
 g1:=by kernel_rfl }
open Go.RowKit Go.Lib in
theorem Tryz.strings_Contains_one(s:ByteArray) (c:UInt8) (w:World) :
  Calls Tryz.prog 140 #[.string s,.string ⟨#[c]⟩] w fun e w'=>e=.returned (.bool (decide (0≤Lib.indexByte s.data.toList c)))∧w'=w:=Any.strings_Contains_one Tryz.lays144 s c w
def Tryz.lays138_ren:Go.Shelf.Ren:=⟨fun|138=>246|195=>262|218=>264|143=>173|219=>194|217=>220|225=>221|224=>222|267=>223|266=>247|314=>248|n=>n,fun|9=>9|3=>3|4=>4|5=>5|0=>0|46=>189|146=>255|51=>228|n=>n,fun|1=>0|n=>n⟩
theorem Tryz.lays138:Go.Proofs.Lays.n138 Tryz.prog Tryz.lays138_ren:={
 mixed:=by kernel_rfl
 f138:=Tryz.func246.trans (congrArg some (by kernel_rfl))
 f143:=Tryz.func173.trans (congrArg some (by kernel_rfl))
 f195:=Tryz.func262.trans (congrArg some (by kernel_rfl))
 f217:=Tryz.func220.trans (congrArg some (by kernel_rfl))
 f218:=Tryz.func264.trans (congrArg some (by kernel_rfl))
 f219:=Tryz.func194.trans (congrArg some (by kernel_rfl))
 f224:=Tryz.func222.trans (congrArg some (by kernel_rfl))
 f225:=Tryz.func221.trans (congrArg some (by kernel_rfl))
 f266:=Tryz.func247.trans (congrArg some (by kernel_rfl))
 f267:=Tryz.func223.trans (congrArg some (by kernel_rfl))
 f314:=Tryz.func248.trans (congrArg some (by kernel_rfl))
 t0:=Tryz.underlying0
 a0:=Tryz.isAgg0
 z0:=Tryz.sizeOf0
 v0:=Tryz.zeroValue0
 t3:=Tryz.underlying3
 a3:=Tryz.isAgg3
 z3:=Tryz.sizeOf3
 v3:=Tryz.zeroValue3
 t4:=Tryz.underlying4
 a4:=Tryz.isAgg4
 z4:=Tryz.sizeOf4
 v4:=Tryz.zeroValue4
 t5:=Tryz.underlying5
 a5:=Tryz.isAgg5
 z5:=Tryz.sizeOf5
 v5:=Tryz.zeroValue5
 t9:=Tryz.underlying9
 a9:=Tryz.isAgg9
 z9:=Tryz.sizeOf9
 v9:=Tryz.zeroValue9
 t46:=Tryz.underlying189
 a46:=Tryz.isAgg189
 z46:=Tryz.sizeOf189
 v46:=Tryz.zeroValue189
 t51:=Tryz.underlying228
 a51:=Tryz.isAgg228
 z51:=Tryz.sizeOf228
 v51:=Tryz.zeroValue228
 t146:=Tryz.underlying255
 a146:=Tryz.isAgg255
 z146:=Tryz.sizeOf255
 v146:=Tryz.zeroValue255
 g1:=by kernel_rfl }
def Tryz.lays190_ren:Go.Shelf.Ren:=⟨fun|190=>162|125=>187|258=>186|128=>214|129=>215|302=>205|303=>206|304=>207|305=>208|306=>209|307=>210|308=>211|309=>212|310=>213|333=>239|329=>240|330=>241|334=>242|335=>243|336=>244|344=>261|n=>n,fun|31=>25|9=>9|3=>3|46=>189|0=>0|51=>228|53=>151|4=>4|183=>222|182=>221|131=>156|5=>5|218=>249|222=>100|228=>274|229=>275|n=>n,fun|n=>n⟩
theorem Tryz.lays190:Go.Proofs.Lays.n190 Tryz.prog Tryz.lays190_ren:={
 mixed:=by kernel_rfl
 f125:=Tryz.func187.trans (congrArg some (by kernel_rfl))
 f128:=Tryz.func214.trans (congrArg some (by kernel_rfl))
 f129:=Tryz.func215.trans (congrArg some (by kernel_rfl))
 f190:=Tryz.func162.trans (congrArg some (by kernel_rfl))
 f258:=Tryz.func186.trans (congrArg some (by kernel_rfl))
 f302:=Tryz.func205.trans (congrArg some (by kernel_rfl))
 f303:=Tryz.func206.trans (congrArg some (by kernel_rfl))
 f304:=Tryz.func207.trans (congrArg some (by kernel_rfl))
 f305:=Tryz.func208.trans (congrArg some (by kernel_rfl))
 f306:=Tryz.func209.trans (congrArg some (by kernel_rfl))
 f307:=Tryz.func210.trans (congrArg some (by kernel_rfl))
 f308:=Tryz.func211.trans (congrArg some (by kernel_rfl))
 f309:=Tryz.func212.trans (congrArg some (by kernel_rfl))
 f310:=Tryz.func213.trans (congrArg some (by kernel_rfl))
 f329:=Tryz.func240.trans (congrArg some (by kernel_rfl))
 f330:=Tryz.func241.trans (congrArg some (by kernel_rfl))
 f333:=Tryz.func239.trans (congrArg some (by kernel_rfl))
 f334:=Tryz.func242.trans (congrArg some (by kernel_rfl))
 f335:=Tryz.func243.trans (congrArg some (by kernel_rfl))
 f336:=Tryz.func244.trans (congrArg some (by kernel_rfl))
 f344:=Tryz.func261.trans (congrArg some (by kernel_rfl))
 t0:=Tryz.underlying0
 a0:=Tryz.isAgg0
 z0:=Tryz.sizeOf0
 v0:=Tryz.zeroValue0
 t3:=Tryz.underlying3
 a3:=Tryz.isAgg3
 z3:=Tryz.sizeOf3
 v3:=Tryz.zeroValue3
 t4:=Tryz.underlying4
 a4:=Tryz.isAgg4
 z4:=Tryz.sizeOf4
 v4:=Tryz.zeroValue4
 t5:=Tryz.underlying5
 a5:=Tryz.isAgg5
 z5:=Tryz.sizeOf5
 v5:=Tryz.zeroValue5
 t9:=Tryz.underlying9
 a9:=Tryz.isAgg9
 z9:=Tryz.sizeOf9
 v9:=Tryz.zeroValue9
 t31:=Tryz.underlying25
 a31:=Tryz.isAgg25
 z31:=Tryz.sizeOf25
 v31:=Tryz.zeroValue25
 t46:=Tryz.underlying189
 a46:=Tryz.isAgg189
 z46:=Tryz.sizeOf189
 v46:=Tryz.zeroValue189
 t51:=Tryz.underlying228
 a51:=Tryz.isAgg228
 z51:=Tryz.sizeOf228
 v51:=Tryz.zeroValue228
 t53:=Tryz.underlying151
 a53:=Tryz.isAgg151
 z53:=Tryz.sizeOf151
 v53:=Tryz.zeroValue151
 t131:=Tryz.underlying156
 a131:=Tryz.isAgg156
 z131:=Tryz.sizeOf156
 v131:=Tryz.zeroValue156
 t182:=Tryz.underlying221
 a182:=Tryz.isAgg221
 z182:=Tryz.sizeOf221
 v182:=Tryz.zeroValue221
 t183:=Tryz.underlying222
 a183:=Tryz.isAgg222
 z183:=Tryz.sizeOf222
 v183:=Tryz.zeroValue222
 t218:=Tryz.underlying249
 a218:=Tryz.isAgg249
 z218:=Tryz.sizeOf249
 v218:=Tryz.zeroValue249
 t222:=Tryz.underlying100
 a222:=Tryz.isAgg100
 z222:=Tryz.sizeOf100
 v222:=Tryz.zeroValue100
 t228:=Tryz.underlying274
 a228:=Tryz.isAgg274
 z228:=Tryz.sizeOf274
 v228:=Tryz.zeroValue274
 t229:=Tryz.underlying275
 a229:=Tryz.isAgg275
 z229:=Tryz.sizeOf275
 v229:=Tryz.zeroValue275 }
open Go.Sort Go.RowKit in
theorem Tryz.slices_Sort_string(blk off cap:Nat) (ss:List (List UInt8)) (w:World) (hH:Holds encStr w blk off ss.toArray) (hblk:blk<w.heap.size) (hsz:ss.length<4611686018427387904) :
  Calls Tryz.prog 162 #[.slice (some ⟨blk,off,none⟩) ss.length cap] w fun e w' =>
   e=.returned (.tuple #[])∧∃ n os,w'=grow (putRow encStr (Sort.ahead w n) blk off (ss.mergeSort fun x y=>decide (x≤y)).toArray) os:=Any.slices_Sort_string Tryz.lays190 blk off cap ss w hH hblk hsz
def Tryz.lays99_ren:Go.Shelf.Ren:=⟨fun|99=>164|206=>188|n=>n,fun|9=>9|4=>4|3=>3|n=>n,fun|n=>n⟩
theorem Tryz.lays99:Go.Proofs.Lays.n99 Tryz.prog Tryz.lays99_ren:={
 mixed:=by kernel_rfl
 f99:=Tryz.func164.trans (congrArg some (by kernel_rfl))
 f206:=Tryz.func188.trans (congrArg some (by kernel_rfl))
 t3:=Tryz.underlying3
 a3:=Tryz.isAgg3
 z3:=Tryz.sizeOf3
 v3:=Tryz.zeroValue3
 t4:=Tryz.underlying4
 a4:=Tryz.isAgg4
 z4:=Tryz.sizeOf4
 v4:=Tryz.zeroValue4
 t9:=Tryz.underlying9
 a9:=Tryz.isAgg9
 z9:=Tryz.sizeOf9
 v9:=Tryz.zeroValue9 }
open Go.RowKit Go.Lib in
theorem Tryz.strings_HasPrefix(s p:ByteArray) (w:World) :
  Calls Tryz.prog 164 #[.string s,.string p] w fun e w'=>e=.returned (.bool (Lib.hasPrefix s.data.toList p.data.toList))∧w'=w:=Any.strings_HasPrefix Tryz.lays99 s p w
def Tryz.lays221_ren:Go.Shelf.Ren:=⟨fun|221=>216|268=>245|138=>246|143=>173|195=>262|197=>263|218=>264|219=>194|260=>273|217=>220|225=>221|224=>222|267=>223|266=>247|314=>248|n=>n,fun|9=>9|3=>3|31=>25|4=>4|0=>0|105=>278|21=>21|5=>5|46=>189|119=>294|139=>297|138=>296|146=>255|51=>228|n=>n,fun|1=>0|3=>2|4=>3|n=>n⟩
theorem Tryz.lays221:Go.Proofs.Lays.n221 Tryz.prog Tryz.lays221_ren:={
 mixed:=by kernel_rfl
 f138:=Tryz.func246.trans (congrArg some (by kernel_rfl))
 f143:=Tryz.func173.trans (congrArg some (by kernel_rfl))
 f195:=Tryz.func262.trans (congrArg some (by kernel_rfl))
 f197:=Tryz.func263.trans (congrArg some (by kernel_rfl))
 f217:=Tryz.func220.trans (congrArg some (by kernel_rfl))
 f218:=Tryz.func264.trans (congrArg some (by kernel_rfl))
 f219:=Tryz.func194.trans (congrArg some (by kernel_rfl))
 f221:=Tryz.func216.trans (congrArg some (by kernel_rfl))
 f224:=Tryz.func222.trans (congrArg some (by kernel_rfl))
 f225:=Tryz.func221.trans (congrArg some (by kernel_rfl))
 f260:=Tryz.func273.trans (congrArg some (by kernel_rfl))
 f266:=Tryz.func247.trans (congrArg some (by kernel_rfl))
 f267:=Tryz.func223.trans (congrArg some (by kernel_rfl))
 f268:=Tryz.func245.trans (congrArg some (by kernel_rfl))
 f314:=Tryz.func248.trans (congrArg some (by kernel_rfl))
 t0:=Tryz.underlying0
 a0:=Tryz.isAgg0
 z0:=Tryz.sizeOf0
 v0:=Tryz.zeroValue0
 t3:=Tryz.underlying3
 a3:=Tryz.isAgg3
 z3:=Tryz.sizeOf3
 v3:=Tryz.zeroValue3
 t4:=Tryz.underlying4
 a4:=Tryz.isAgg4
 z4:=Tryz.sizeOf4
 v4:=Tryz.zeroValue4
 t5:=Tryz.underlying5
 a5:=Tryz.isAgg5
 z5:=Tryz.sizeOf5
 v5:=Tryz.zeroValue5
 t9:=Tryz.underlying9
 a9:=Tryz.isAgg9
 z9:=Tryz.sizeOf9
 v9:=Tryz.zeroValue9
 t21:=Tryz.underlying21
 a21:=Tryz.isAgg21
 z21:=Tryz.sizeOf21
 v21:=Tryz.zeroValue21
 t31:=Tryz.underlying25
 a31:=Tryz.isAgg25
 z31:=Tryz.sizeOf25
 v31:=Tryz.zeroValue25
 t46:=Tryz.underlying189
 a46:=Tryz.isAgg189
 z46:=Tryz.sizeOf189
 v46:=Tryz.zeroValue189
 t51:=Tryz.underlying228
 a51:=Tryz.isAgg228
 z51:=Tryz.sizeOf228
 v51:=Tryz.zeroValue228
 t105:=Tryz.underlying278
 a105:=Tryz.isAgg278
 z105:=Tryz.sizeOf278
 v105:=Tryz.zeroValue278
 t119:=Tryz.underlying294
 a119:=Tryz.isAgg294
 z119:=Tryz.sizeOf294
 t138:=Tryz.underlying296
 a138:=Tryz.isAgg296
 z138:=Tryz.sizeOf296
 v138:=Tryz.zeroValue296
 t139:=Tryz.underlying297
 a139:=Tryz.isAgg297
 z139:=Tryz.sizeOf297
 v139:=Tryz.zeroValue297
 t146:=Tryz.underlying255
 a146:=Tryz.isAgg255
 z146:=Tryz.sizeOf255
 v146:=Tryz.zeroValue255
 g1:=by kernel_rfl
 g3:=by kernel_rfl
 g4:=by kernel_rfl }
def Tryz.lays110_ren:Go.Shelf.Ren:=⟨fun|110=>90|109=>136|n=>n,fun|31=>25|9=>9|4=>4|3=>3|0=>0|n=>n,fun|n=>n⟩
theorem Tryz.lays110:Go.Proofs.Lays.n110 Tryz.prog Tryz.lays110_ren:={
 mixed:=by kernel_rfl
 f109:=Tryz.func136.trans (congrArg some (by kernel_rfl))
 f110:=Tryz.func90.trans (congrArg some (by kernel_rfl))
 t0:=Tryz.underlying0
 a0:=Tryz.isAgg0
 z0:=Tryz.sizeOf0
 v0:=Tryz.zeroValue0
 t3:=Tryz.underlying3
 a3:=Tryz.isAgg3
 z3:=Tryz.sizeOf3
 v3:=Tryz.zeroValue3
 t4:=Tryz.underlying4
 a4:=Tryz.isAgg4
 z4:=Tryz.sizeOf4
 v4:=Tryz.zeroValue4
 t9:=Tryz.underlying9
 a9:=Tryz.isAgg9
 z9:=Tryz.sizeOf9
 v9:=Tryz.zeroValue9
 t31:=Tryz.underlying25
 a31:=Tryz.isAgg25
 z31:=Tryz.sizeOf25
 v31:=Tryz.zeroValue25 }
open Go.Lib in
theorem Tryz.slices_Contains_string(b off n c:Nat) (zs:List ByteArray) (x:ByteArray) (w:World) (hz:n≤zs.length) (hbig:n≤9223372036854775807) (hc:∀ j,j<zs.length→w.cell? ⟨b,off+j,none⟩=some (.string (zs.getD j ByteArray.empty))) :
  Calls Tryz.prog 90 #[.slice (some ⟨b,off,none⟩) n c,.string x] w fun e w'=>e=.returned (.bool (Lib.containsS (zs.take n) x))∧w'=w:=Any.slices_Contains_string Tryz.lays110 b off n c zs x w hz hbig hc
open Go.Lib in
theorem Tryz.slices_Contains_string_empty(a:Option Addr) (c:Nat) (x:ByteArray) (w:World) :
  Calls Tryz.prog 90 #[.slice a 0 c,.string x] w fun e w'=>e=.returned (.bool false)∧w'=w:=Any.slices_Contains_string_empty Tryz.lays110 a c x w
def Tryz.laysNm216_ren:Go.Shelf.Ren:=⟨fun|16=>28|n=>n,fun|24=>25|9=>9|4=>4|n=>n,fun|n=>n⟩
theorem Tryz.laysNm216:Go.Proofs.Lays2.n16 Tryz.prog Tryz.laysNm216_ren:={
 mixed:=by kernel_rfl
 f16:=Tryz.func28.trans (congrArg some (by kernel_rfl))
 t4:=Tryz.underlying4
 a4:=Tryz.isAgg4
 z4:=Tryz.sizeOf4
 v4:=Tryz.zeroValue4
 t9:=Tryz.underlying9
 a9:=Tryz.isAgg9
 z9:=Tryz.sizeOf9
 v9:=Tryz.zeroValue9
 t24:=Tryz.underlying25
 a24:=Tryz.isAgg25
 z24:=Tryz.sizeOf25
 v24:=Tryz.zeroValue25
 i9:=by kernel_rfl }
open Go.RowKit Go.Lib in
theorem Tryz.slices_Clone_string(b off n c:Nat) (zs:List ByteArray) (w:World) (hz:n≤zs.length) (hbig:n * 16≤140737488355328) (hc:∀ j,j<zs.length→w.cell? ⟨b,off+j,none⟩=some (.string (zs.getD j ByteArray.empty))) :
  Calls Tryz.prog 28 #[.slice (some ⟨b,off,none⟩) n c] w fun e w'=>∃ v',e=.returned v'∧w'.ownsRow w.heap.size 9 1 v' n ((zs.take n).map (Value.string))∧v'≠.slice none 0 0∧Below w.heap.size w w':=Any.slices_Clone_string Tryz.laysNm216 b off n c zs w hz hbig hc
open Go.RowKit Go.Lib in
theorem Tryz.slices_Clone_string_nil(n c:Nat) (w:World) :
  Calls Tryz.prog 28 #[.slice none n c] w fun e w'=>e=.returned (.slice none 0 0)∧w'=w:=Any.slices_Clone_string_nil Tryz.laysNm216 n c w
open Go.RowKit Go.Lib in
theorem Tryz.slices_Clone_string_zero(a:Addr) (c:Nat) (w:World) :
  Calls Tryz.prog 28 #[.slice (some a) 0 c] w fun e w'=>∃ v',e=.returned v'∧w'.ownsRow w.heap.size 9 1 v' 0 []∧v'≠.slice none 0 0∧Below w.heap.size w w':=Any.slices_Clone_string_zero Tryz.laysNm216 a c w
def Tryz.lays194_ren:Go.Shelf.Ren:=⟨fun|194=>163|n=>n,fun|31=>25|9=>9|3=>3|4=>4|0=>0|n=>n,fun|n=>n⟩
theorem Tryz.lays194:Go.Proofs.Lays.n194 Tryz.prog Tryz.lays194_ren:={
 mixed:=by kernel_rfl
 f194:=Tryz.func163.trans (congrArg some (by kernel_rfl))
 t0:=Tryz.underlying0
 a0:=Tryz.isAgg0
 z0:=Tryz.sizeOf0
 v0:=Tryz.zeroValue0
 t3:=Tryz.underlying3
 a3:=Tryz.isAgg3
 z3:=Tryz.sizeOf3
 v3:=Tryz.zeroValue3
 t4:=Tryz.underlying4
 a4:=Tryz.isAgg4
 z4:=Tryz.sizeOf4
 v4:=Tryz.zeroValue4
 t9:=Tryz.underlying9
 a9:=Tryz.isAgg9
 z9:=Tryz.sizeOf9
 v9:=Tryz.zeroValue9
 t31:=Tryz.underlying25
 a31:=Tryz.isAgg25
 z31:=Tryz.sizeOf25
 v31:=Tryz.zeroValue25 }
open Go.RowKit Go.Lib Go.Sort in
theorem Tryz.slices_Compact_string(blk off cap:Nat) (zs:List (List UInt8)) (w:World) (hH:Holds encStr w blk off zs.toArray) (hsz:zs.length≤9223372036854775807) (hcap:zs.length≤cap) :
  Calls Tryz.prog 163 #[.slice (some ⟨blk,off,none⟩) zs.length cap] w fun e w'=>e=.returned (.slice (some ⟨blk,off,none⟩) (Lib.compact zs).length cap)∧∃ q,w'=putRow encStr (Sort.ahead w q) blk off (Lib.compact zs++List.replicate (zs.length - (Lib.compact zs).length) []).toArray:=Any.slices_Compact_string Tryz.lays194 blk off cap zs w hH hsz hcap
open Go.RowKit Go.Lib Go.Sort in
theorem Tryz.slices_Compact_string_empty(a:Option Addr) (cap:Nat) (w:World) :
  Calls Tryz.prog 163 #[.slice a 0 cap] w fun e w'=>e=.returned (.slice a 0 cap)∧w'=w:=Any.slices_Compact_string_empty Tryz.lays194 a cap w
open Go.RowKit Go.Sort in
theorem Tryz.slices_Sort_string_none(p:Option Addr) (cap:Nat) (w:World) :
  Calls Tryz.prog 162 #[.slice p 0 cap] w fun e w'=>e=.returned (.tuple #[])∧w'=w:=Any.slices_Sort_string_none Tryz.lays190 p cap w
end Go.Proofs
end
namespace Go.Proofs.YtmbpnkacggngkaaGreatDoor
open Batch
open Tryz
section
open Go.RowKit Mem
theorem ue(c:UInt8)(k:Nat)(A:k<256):(c==UInt8.ofNat k)=decide (c.toNat=k):=by
 rw[Bool.eq_iff_iff]
 simp only[beq_iff_eq,decide_eq_true_eq]
 constructor
 .rintro rfl
  simp
  omega
 .rintro rfl
  simp
theorem tb(c:UInt8)(w:World):Calls prog 184 #[.int .u8 (c.toNat:Int)] w fun e w'=>e=.returned (.bool (Ids.small c))/\w=w':=by
 unfold Ids.small
 have C:=c.toNat_lt
 generalize c.toNat=n at *
 obtain⟨r,A⟩:=eC (decide (97<=n/\n<=122))
 have B:=eA A
 rw[A]
 clear A
 go_enter func184,ntmps184
 go_wp2
 all_goals
  go_ret;refine⟨?_,rfl⟩;show Ending.returned (.bool _)=_
  rw[<-B.out];congr 2
  rw[Bool.eq_iff_iff];simp
  omega
theorem digit_any(c:UInt8)(w:World):Calls prog 217 #[.int .u8 (c.toNat:Int)] w fun e w'=>e=.returned (.bool (Ids.digit c))/\w=w':=by
 unfold Ids.digit
 have C:=c.toNat_lt
 generalize c.toNat=n at *
 obtain⟨r,A⟩:=eC (decide (48<=n/\n<=57))
 have B:=eA A
 rw[A]
 clear A
 go_enter func217,ntmps217
 go_wp2
 all_goals
  go_ret;refine⟨?_,rfl⟩;show Ending.returned (.bool _)=_
  rw[<-B.out];congr 2
  rw[Bool.eq_iff_iff];simp
  omega
theorem seen_any(c:UInt8)(w:World):Calls prog 185 #[.int .u8 (c.toNat:Int)] w fun e w'=>e=.returned (.bool (Ids.seen c))/\w=w':=by
 unfold Ids.seen
 have C:=c.toNat_lt
 generalize c.toNat=n at *
 obtain⟨r,A⟩:=eC (decide (33<=n/\n<=126))
 have B:=eA A
 rw[A]
 clear A
 go_enter func185,ntmps185
 go_wp2
 all_goals
  go_ret;refine⟨?_,rfl⟩;show Ending.returned (.bool _)=_
  rw[<-B.out];congr 2
  rw[Bool.eq_iff_iff];simp
  omega
theorem tI(c:UInt8)(w:World):Calls prog 191 #[.int .u8 (c.toNat:Int)] w fun e w'=>e=.returned (.bool (Ids.inner c))/\w=w':=by
 have B:=tb c w
 have C:=digit_any c w
 unfold Ids.inner
 rw[show (46:UInt8)=UInt8.ofNat 46 from rfl,show (45:UInt8)=UInt8.ofNat 45 from rfl,ue c 46 (by omega),ue c 45 (by omega)]
 have E:=c.toNat_lt
 generalize c.toNat=n at *
 generalize Ids.small c=a at *
 generalize Ids.digit c=b at *
 obtain⟨r,A⟩:∃r,(a||b||decide (n=46)||decide (n=45))=r:=⟨_,rfl⟩
 have D:=eA A
 rw[A]
 clear A
 go_enter func191,ntmps191
 cases a<;>cases b
 all_goals
  go_wp2_with (first|(go_at_call 184;refine B.mono ?_;rintro e w' ⟨rfl,rfl⟩)|(go_at_call 217;refine C.mono ?_;rintro e w' ⟨rfl,rfl⟩))
  all_goals
   go_ret;refine⟨?_,rfl⟩;show Ending.returned (.bool _)=_
   rw[<-D.out];congr 2
   all_goals
    rw[Bool.eq_iff_iff];simp
    try omega
theorem named_any(c:UInt8)(w:World):Calls prog 167 #[.int .u8 (c.toNat:Int)] w fun e w'=>e=.returned (.bool (Ids.named c))/\w=w':=by
 have B:=tI c w
 unfold Ids.named
 rw[show (95:UInt8)=UInt8.ofNat 95 from rfl,ue c 95 (by omega)]
 have D:=c.toNat_lt
 generalize c.toNat=n at *
 generalize Ids.inner c=a at *
 obtain⟨r,A⟩:∃r,(a||decide (65<=n/\n<=90)||decide (n=95))=r:=⟨_,rfl⟩
 have C:=eA A
 rw[A]
 clear A
 go_enter func167,ntmps167
 cases a
 all_goals
  go_wp2_with (go_at_call 191;refine B.mono ?_;rintro e w' ⟨rfl,rfl⟩)
  all_goals
   go_ret;refine⟨?_,rfl⟩;show Ending.returned (.bool _)=_
   rw[<-C.out];congr 2
   all_goals
    rw[Bool.eq_iff_iff];simp
    try omega
def Tells(f:Nat)(p:UInt8->Bool):Prop:=∀(c:UInt8) (w:World),Calls prog f #[.int .u8 (c.toNat:Int)] w fun e w'=>e=.returned (.bool (p c))/\w=w'
theorem jX(l:List UInt8):decide (str l=⟨#[]⟩)=l.isEmpty:=by
 cases l with
 | nil=>rfl
 | cons a t =>
  rw[decide_eq_false]
  .rfl
  .intro h
   have:=congrArg (fun x:ByteArray=>x.data.size) h;simp[str] at this
theorem sd{p:UInt8->Bool}{l:List UInt8}{k:Nat}(h:(l.take k).all p=true)(A:k<l.length):(l.take (k+1)).all p=p l[k]:=by
 rw[List.take_succ_eq_append_getElem A,List.all_append,h]
 simp
theorem vm{p:UInt8->Bool}{l:List UInt8}{k:Nat}(A:k<l.length)(h:p l[k]=false):l.all p=false:=by
 rw[List.all_eq_false]
 exact⟨l[k],List.getElem_mem A,by rw[h];simp⟩
theorem pY{f:Nat}{p:UInt8->Bool}(ht:Tells f p)(Q:∀args w,(callFunc f args).run prog w=.ok (.enter f args) w)(l:List UInt8)(w:World)(L:l.length<=9223372036854775807):Calls prog 166 #[.string (str l),.func (.func f) #[] #[]] w fun e w'=>e=.returned (.bool (Ids.bG p l))/\w=w':=by
 have F:=aC l
 have B:=jX l
 obtain⟨N,G⟩:=eC (l.length)
 rw[G] at F L
 have J:=eA G
 clear G
 go_enter func166,ntmps166
 go_wp2
 go_loop [5,8] (fun _ i=>∃k:Nat,k<=N/\i=.int .i64 k/\Hid ((l.take k).all p=true)) (fun _ i=>N-(intOf i).toNat)
 case atStart=>exact⟨0,by omega,rfl,eA (by simp)⟩
 case round =>
  obtain⟨k,R,rfl,K⟩:=hrel;by_cases H:k<N
  .have M:k<(str l).size:=by omega
   have D:k<l.length:=by rw[J.out];exact H
   have I:(str l)[k]=l[k]:=rfl;have A:=ht (str l)[k] w;rw[I] at A
   cases C:p l[k] with
   | true =>
    have E:=eA ((sd K.out D).trans C);rw[C] at A;clear C B;go_wp2_with fail
    refine A.mono ?_;rintro e w' ⟨rfl,rfl⟩;go_wp2;go_round
    case rel=>exact⟨k+1,by omega,by go_num,E⟩
    case measure=>simp[intOf];omega
   | false =>
    have E:Hid (Ids.bG p l=false):=eA (by unfold Ids.bG;rw[vm D C];rfl)
    rw[C] at A;clear C B;go_wp2_with fail
    refine A.mono ?_;rintro e w' ⟨rfl,rfl⟩;go_wp2;go_ret;exact⟨by rw[E.out];rfl,rfl⟩
  .obtain rfl:k=N:=by omega
   have E:Hid (Ids.bG p l=!l.isEmpty):=eA (by
    unfold Ids.bG;have:=K.out;rw[<-J.out,List.take_length] at this;rw[this];rfl)
   have O:=eA B;clear B;go_wp2;go_ret;exact⟨by rw[E.out,<-O.out];simp,rfl⟩
end
section
open Go.RowKit Mem
theorem sO{m:List UInt8}{c:UInt8}{k:Nat}(h:(m.take k).contains c=false)(A:k<m.length)(B:m[k].toNat≠c.toNat):(m.take (k+1)).contains c=false:=by
 rw[List.take_succ_eq_append_getElem A,List.contains_eq_any_beq,List.any_append,<-List.contains_eq_any_beq,h]
 simp
 intro e
 exact B (by rw[<-e])
theorem ve(c:UInt8)(m:List UInt8)(w:World)(L:m.length<=9223372036854775807):Calls prog 64 #[.int .u8 (c.toNat:Int),.string (str m)] w fun e w'=>e=.returned (.bool (m.contains c))/\w=w':=by
 have F:=aC m
 obtain⟨N,G⟩:=eC (m.length)
 rw[G] at F L
 have I:=eA G
 clear G
 obtain⟨r,B⟩:=eC (m.contains c)
 have J:=eA B
 rw[B]
 clear B
 go_enter func64,ntmps64
 go_wp2
 go_loop [5] (fun i=>∃k:Nat,k<=N/\i=.int .i64 k/\Hid ((m.take k).contains c=false)) (fun i=>N-(intOf i).toNat)
 case atStart=>exact⟨0,by omega,rfl,eA (by simp)⟩
 case round =>
  obtain⟨k,O,rfl,K⟩:=hrel;by_cases H:k<N
  .have M:k<(str m).size:=by omega
   have C:k<m.length:=by rw[I.out];exact H
   have A:(str m)[k]=m[k]:=rfl;by_cases E:m[k].toNat=c.toNat
   .have D:Hid (m.contains c=true):=eA (by
     have:m[k]=c:=UInt8.toNat.inj E;rw[List.contains_iff_mem,<-this];exact List.getElem_mem C)
    rw[<-A] at E;clear A;go_wp2;go_ret;exact⟨by rw[<-J.out,D.out];rfl,rfl⟩
   .have D:=eA (sO K.out C E)
    rw[<-A] at E;clear A;go_wp2;go_round
    case rel=>exact⟨k+1,by omega,by go_num,D⟩
    case measure=>simp[intOf];omega
  .obtain rfl:k=N:=by omega
   have D:Hid (m.contains c=false):=eA (by have:=K.out;rwa [<-I.out,List.take_length] at this)
   go_wp2;go_ret;exact⟨by rw[<-J.out,D.out];rfl,rfl⟩
theorem of_any(l m:List UInt8)(most:Nat)(w:World)(M:l.length<=9223372036854775807)(O:m.length<=9223372036854775807):Calls prog 63 #[.string (str l),.string (str m),.int .i64 (most:Int)] w fun e w'=>e=.returned (.bool (Ids.qN m most l))/\w=w':=by
 have F:=aC l
 obtain⟨N,G⟩:=eC (l.length)
 rw[G] at F M
 have H:=eA G
 clear G
 go_enter func63,ntmps63
 go_wp2
 go_loop [7,8] (fun i _=>∃k:Nat,k<=N/\i=.int .i64 k/\Hid ((l.take k).all (fun c=>m.contains c)=true)) (fun i _=>N-(intOf i).toNat)
 case atStart=>exact⟨0,by omega,rfl,eA (by simp)⟩
 case round =>
  obtain⟨k,R,rfl,K⟩:=hrel;by_cases I:k<N
  .have Q:k<(str l).size:=by omega
   have E:k<l.length:=by rw[H.out];exact I
   have B:(str l)[k]=l[k]:=rfl;have A:=ve l[k] m w O;rw[<-B] at A
   cases D:m.contains l[k] with
   | true =>
    have C:=eA ((sd (p:=fun c=>m.contains c) K.out E).trans D);rw[B,D,<-B] at A;clear D B;go_wp2_with fail
    refine A.mono ?_;rintro e w' ⟨rfl,rfl⟩;go_wp2;go_round
    case rel=>exact⟨k+1,by omega,by go_num,C⟩
    case measure=>simp[intOf];omega
   | false =>
    have C:Hid (Ids.qN m most l=false):=eA (by unfold Ids.qN;rw[vm (p:=fun c=>m.contains c) E D];rfl)
    rw[B,D,<-B] at A;clear D B;go_wp2_with fail
    refine A.mono ?_;rintro e w' ⟨rfl,rfl⟩;go_wp2;go_ret;exact⟨by rw[C.out];rfl,rfl⟩
  .obtain rfl:k=N:=by omega
   have C:Hid (Ids.qN m most l=(decide (1<=k)&&decide (k<=most))):=eA (by
    unfold Ids.qN;have:=K.out;rw[<-H.out,List.take_length] at this;rw[this,H.out];rfl)
   by_cases J:1<=k
   .by_cases L:k<=most
    .go_wp2
     go_ret;exact⟨by rw[C.out];simp[J,L],rfl⟩
    .go_wp2
     go_ret;exact⟨by rw[C.out];simp[J,L],rfl⟩
   .go_wp2
    go_ret;exact⟨by rw[C.out];simp[J],rfl⟩
theorem edged_ends{l:List UInt8}{M:Nat}(A:l.length=M+1):Ids.edged l=(Ids.ig (l[0]'(by omega))||Ids.ig (l[M]'(by omega))):=by
 unfold Ids.edged
 rw[List.head?_eq_getElem?,List.getLast?_eq_getElem?,show l.length-1=M by omega,List.getElem?_eq_getElem (by omega),List.getElem?_eq_getElem (by omega)]
 rfl
theorem rdomain_any(l:List UInt8)(w:World)(J:l.length<=9223372036854775807):Calls prog 154 #[.string (str l)] w fun e w'=>e=.returned (.bool (Ids.domain l))/\w=w':=by
 have A:=of_any l Ids.u6 16 w J (by decide)
 rw[Ids.of_inner] at A
 have B:=aC l
 unfold Ids.domain
 cases hd:(decide (l.length<=16)&&Ids.bG Ids.inner l)
 .rw [hd] at A
  go_enter func154,ntmps154
  go_wp2_with fail
  refine A.mono ?_;rintro e w' ⟨rfl,rfl⟩;go_wp2;go_ret;exact⟨rfl,rfl⟩
 .rw [hd] at A
  have K:l.length<=16/\1<=l.length:=by
   simp only[Bool.and_eq_true,decide_eq_true_eq] at hd;refine⟨hd.1,?_⟩;have:=hd.2;unfold Ids.bG at this;rw[Ids.ib] at this;simp only[Bool.and_eq_true,decide_eq_true_eq] at this;exact this.2
  obtain⟨M,D⟩:∃M,l.length=M+1:=⟨l.length-1,by omega⟩;clear B;have B:(str l).size=M+1:=by rw[aC,D]
  have h0:0<(str l).size:=by omega
  have L:M<(str l).size:=by omega
  have G:(str l)[0]=l[0]'(by omega):=rfl;have H:(str l)[M]=l[M]'(by omega):=rfl;have E:=ve (l[0]'(by omega)) [46,45] w (by decide);have F:=ve (l[M]'(by omega)) [46,45] w (by decide);rw[Ids.dotty_list] at E F;have C:=edged_ends D;rw[C];rw[<-G] at E ⊢;rw[<-H] at F ⊢;generalize Ids.ig (str l)[0]=a at *;generalize Ids.ig (str l)[M]=b at *;have N:=eA D;have I:M<=16:=by omega
  clear hd C G H D;go_enter func154,ntmps154
  go_wp2_with fail
  refine A.mono ?_;rintro e w' ⟨rfl,rfl⟩;clear A;go_wp2_with fail
  refine E.mono ?_;rintro e w' ⟨rfl,rfl⟩;clear E;go_wp2_with fail
  refine F.mono ?_;rintro e w' ⟨rfl,rfl⟩;clear F
  cases a<;>cases b
  all_goals
   go_wp2;go_ret;exact⟨rfl,rfl⟩
theorem kh(l:List UInt8)(a b:Nat):(str l).extract a b=str ((l.take b).drop a):=by
 apply ByteArray.ext
 simp[str,List.drop_take]
theorem str_same(a b:List UInt8):decide (str a=str b)=(a==b):=by
 rw[Bool.eq_iff_iff]
 simp only[decide_eq_true_eq,beq_iff_eq]
 exact⟨fun h=>ui h,fun h=>by rw[h]⟩
theorem segs_step{l:List UInt8}{a k:Nat}(C:a<=k)(E:k<=l.length)(h:47∉(l.take k).drop a):Ids.em (l.drop a)=if k<l.length/\l[k]?=some 47 then (Ids.iQ ((l.take k).drop a)&&Ids.em (l.drop (k+1))) else if k=l.length then Ids.iQ ((l.take k).drop a) else Ids.em (l.drop a):=by
 by_cases A:k<l.length/\l[k]?=some 47
 .rw [if_pos A]
  obtain⟨A,B⟩:=A;have e:l.drop a=(l.take k).drop a++47::l.drop (k+1):=by
   have hx:=B;rw[List.getElem?_eq_getElem A] at hx;injection hx with hx
   have D:l=l.take k++47::l.drop (k+1):=by rw[<-hx,<-List.drop_eq_getElem_cons A,List.take_append_drop]
   conv=>lhs;rw[D]
   rw[List.drop_append_of_le_length (by rw[List.length_take];omega)]
  unfold Ids.em;rw[e,Ids.qL h,List.all_cons]
 .rw [if_neg A]
  by_cases B:k=l.length
  .rw [if_pos B]
   subst B;rw[List.take_length] at h ⊢;unfold Ids.em;rw[Ids.o6 h];simp
  .rw [if_neg B]
end
section
open Go.RowKit Mem
theorem ne_yes{n k:Nat}(h:¬n=k):((n:Int) != (k:Int))=true:=by simp;omega
theorem ne_no{n k:Nat}(h:n=k):((n:Int) != (k:Int))=false:=by simp[h]
theorem jJ(c:UInt8)(t:List UInt8):Ids.path (c::t)=(decide (t.length+1<=40)&&c==47&&Ids.em t):=rfl
theorem path_drop{l:List UInt8}{N:Nat}(A:l.length=N)(h:1<=N):Ids.path l=(decide (N<=40)&&(l[0]'(by omega)==47)&&Ids.em (l.drop 1)):=by
 subst A
 match l,h with
 | c::t,_=>rw[jJ];rfl
theorem path_short{l:List UInt8}(h:l.length<2):Ids.path l=false:=by
 match l,h with
 | [],_=>rfl
 | [c],_=>rw[jJ];simp[Ids.em,Ids.bd,Ids.iQ,Ids.bG]
theorem segOk_eq(w:List UInt8):Ids.iQ w=(Ids.bG Ids.named w&&!(w==[46])&&!(w==[46,46])):=rfl
theorem no47_next{l:List UInt8}{a k:Nat}(D:a<=k)(B:k<l.length)(h:47∉(l.take k).drop a)(C:l[k]≠47):47∉(l.take (k+1)).drop a:=by
 rw[List.take_succ_eq_append_getElem B,List.drop_append_of_le_length (by rw[List.length_take];omega)]
 intro A
 rcases List.mem_append.1 A with A|A
 .exact h A
 .simp at A
  exact C A.symm
theorem ot(l:List UInt8)(w:World)(hl:l.length<=9223372036854775807):Calls prog 33 #[.string (str l)] w fun e w'=>e=.returned (.bool (Ids.path l))/\w=w':=by
 obtain⟨r,U⟩:=eC (Ids.path l)
 have O:=eA U
 rw[U]
 clear U
 obtain⟨N,Q⟩:=eC (l.length)
 have x:=eA Q
 have Ad:(str l).size=N:=by rw[aC,Q]
 rw[Q] at hl
 by_cases d:N<2
 .have D:=eA (path_short (l:=l) (by omega))
  clear Q;go_enter func33,ntmps33
  go_wp2;go_ret;exact⟨by rw[<-O.out,D.out];rfl,rfl⟩
 .have I:=path_drop Q (by omega)
  by_cases Ae:40<N
  .have D:Hid (Ids.path l=false):=eA (by rw[I,decide_eq_false (by omega)];rfl)
   clear Q I;go_enter func33,ntmps33
   go_wp2;go_ret;exact⟨by rw[<-O.out,D.out];rfl,rfl⟩
  .rw [decide_eq_true (by omega),Bool.true_and,show (47:UInt8)=UInt8.ofNat 47 from rfl,ue _ 47 (by omega)] at I
   have h0:0<(str l).size:=by omega
   have y:(str l)[0]=l[0]'(by omega):=rfl;by_cases G:(l[0]'(by omega)).toNat=47
   .have D:Hid (Ids.path l=Ids.em (l.drop 1)):=eA (by rw[I,decide_eq_true G,Bool.true_and])
    rw[<-y] at G;have g:(((str l)[0].toNat:Int) != 47)=false:=ne_no G;clear Q I y G;go_enter func33,ntmps33
    go_wp2_with fail
    go_loop [3,4,5,6] (fun a i _ _=>∃k m:Nat,1<=m/\m<=k/\k<=N+1/\i=.int .i64 k/\a=.int .i64 m/\Hid ((k<=N/\47∉(l.take k).drop m/\Ids.path l=Ids.em (l.drop m))\/(k=N+1/\Ids.path l=true))) (fun _ i _ _=>N+1-(intOf i).toNat)
    case atStart=>exact⟨1,1,by omega,by omega,by omega,rfl,rfl,eA (.inl ⟨by omega,by rw[List.drop_of_length_le (by rw[List.length_take];omega)];simp,D.out⟩)⟩
    case round =>
     obtain⟨k,m,Aa,j,Af,rfl,rfl,z⟩:=hrel;clear D;by_cases Ab:k<=N
     .have R:47∉(l.take k).drop m/\Ids.path l=Ids.em (l.drop m):=by
       rcases z.out with h|h
       .exact h.2
       .omega
      have f:=eA R;clear R z;have C:=segs_step j (by rw[x.out];exact Ab) f.out.1
      rw[x.out] at C;have o:=kh l m k;have V:((l.take k).drop m).length<=40:=by rw[List.length_drop,List.length_take];omega
      obtain⟨W,q⟩:=eC ((l.take k).drop m);rw[q] at f C o V;have B:=of_any W Ids.uZ 40 w (by omega) (by decide);rw[Ids.of_named V] at B;have X:decide (str W=⟨#[46]⟩)=(W==[46]):=str_same W [46];have Y:decide (str W=⟨#[46,46]⟩)=(W==[46,46]):=str_same W [46,46];have H:=eA (segOk_eq W);by_cases K:k<N/\¬(∃h:k<l.length,l[k].toNat=47)
      .obtain⟨L,S⟩:=K
       have J:k<l.length:=by rw[x.out];exact L
       have Z:¬l[k].toNat=47:=fun e=>S ⟨J,e⟩;have A:Hid ((k+1<=N/\47∉(l.take (k+1)).drop m/\Ids.path l=Ids.em (l.drop m))\/(k+1=N+1/\Ids.path l=true)) :=
        eA (.inl ⟨by omega,no47_next j J (by rw[q];exact f.out.1) (fun e=>Z (by rw[e];rfl)),f.out.2⟩)
       have Ac:k<(str l).size:=by omega
       have hb:(((str l)[k].toNat:Int) != 47)=true:=ne_yes (n:=(str l)[k].toNat) Z;clear C B X Y V o Z S J q;go_wp2_with fail
       go_round
       case rel=>exact⟨k+1,m,Aa,by omega,by omega,by go_num,rfl,A⟩
       case measure=>simp[intOf];omega
      .have s:=K
       by_cases L:k<N
       .have J:k<l.length:=by rw[x.out];exact L
        have Ac:k<(str l).size:=by omega
        have M:(l[k]'J).toNat=47:=by
         apply Classical.byContradiction
         intro hx;exact K ⟨L,fun ⟨_,h⟩=>hx h⟩
        have T:l[k]?=some 47:=by
         rw[List.getElem?_eq_getElem J];congr 1
         exact UInt8.toNat.inj M
        clear K;have F:Hid (Ids.path l=(Ids.iQ W&&Ids.em (l.drop (k+1)))):=eA (by rw[f.out.2,C];rw[if_pos ⟨L,T⟩])
        have hb:(((str l)[k].toNat:Int) != 47)=false:=ne_no (n:=(str l)[k].toNat) M;clear T M J;have A:Ids.iQ W=true->Hid ((k+1<=N/\47∉(l.take (k+1)).drop (k+1)/\Ids.path l=Ids.em (l.drop (k+1)))\/(k+1=N+1/\Ids.path l=true)):=fun hs=>by
         have t:=F.out;rw[hs,Bool.true_and] at t;exact eA (.inl ⟨by omega,by rw[List.drop_of_length_le (by rw[List.length_take];omega)];simp,t⟩)
        clear C q s X Y
        cases E:Ids.bG Ids.named W
        .have D:Hid (Ids.path l=false):=eA (by rw[F.out,H.out,E];rfl)
         rw[E] at B;clear E A;go_wp2_with fail
         refine B.mono ?_;rintro e w' ⟨rfl,rfl⟩;go_wp2;go_ret;exact⟨by rw[<-O.out,D.out];rfl,rfl⟩
        .rw [E] at B
         cases b:(W==[46])
         .cases d:(W==[46,46])
          .have c:=A (by rw[H.out,E,b,d];rfl)
           clear E A;go_wp2_with fail
           refine B.mono ?_;rintro e w' ⟨rfl,rfl⟩;clear B;go_wp2;go_round
           case rel=>exact⟨k+1,k+1,by omega,by omega,by omega,by go_num,by go_num,c⟩
           case measure=>simp[intOf];omega
          .have D:Hid (Ids.path l=false):=eA (by rw[F.out,H.out,E,b,d];rfl)
           clear E A;go_wp2_with fail
           refine B.mono ?_;rintro e w' ⟨rfl,rfl⟩;clear B;go_wp2;go_ret;exact⟨by rw[<-O.out,D.out];rfl,rfl⟩
         .have D:Hid (Ids.path l=false):=eA (by rw[F.out,H.out,E,b];rfl)
          clear E A;go_wp2_with fail
          refine B.mono ?_;rintro e w' ⟨rfl,rfl⟩;clear B;go_wp2;go_ret;exact⟨by rw[<-O.out,D.out];rfl,rfl⟩
       .have u:k=N:=by omega
        clear K;have F:Hid (Ids.path l=(Ids.iQ W&&true)):=eA (by rw[f.out.2,C];rw[if_neg (by omega),if_pos u,Bool.and_true])
        have A:Ids.iQ W=true->Hid ((k+1<=N/\47∉(l.take (k+1)).drop (k+1)/\Ids.path l=Ids.em (l.drop (k+1)))\/(k+1=N+1/\Ids.path l=true)):=fun hs=>by
         have t:=F.out;rw[hs,Bool.true_and] at t;exact eA (.inr ⟨by omega,t⟩)
        clear C q s X Y u
        cases E:Ids.bG Ids.named W
        .have D:Hid (Ids.path l=false):=eA (by rw[F.out,H.out,E];rfl)
         rw[E] at B;clear E A;go_wp2_with fail
         refine B.mono ?_;rintro e w' ⟨rfl,rfl⟩;go_wp2;go_ret;exact⟨by rw[<-O.out,D.out];rfl,rfl⟩
        .rw [E] at B
         cases b:(W==[46])
         .cases d:(W==[46,46])
          .have c:=A (by rw[H.out,E,b,d];rfl)
           clear E A;go_wp2_with fail
           refine B.mono ?_;rintro e w' ⟨rfl,rfl⟩;clear B;go_wp2;go_round
           case rel=>exact⟨k+1,k+1,by omega,by omega,by omega,by go_num,by go_num,c⟩
           case measure=>simp[intOf];omega
          .have D:Hid (Ids.path l=false):=eA (by rw[F.out,H.out,E,b,d];rfl)
           clear E A;go_wp2_with fail
           refine B.mono ?_;rintro e w' ⟨rfl,rfl⟩;clear B;go_wp2;go_ret;exact⟨by rw[<-O.out,D.out];rfl,rfl⟩
         .have D:Hid (Ids.path l=false):=eA (by rw[F.out,H.out,E,b];rfl)
          clear E A;go_wp2_with fail
          refine B.mono ?_;rintro e w' ⟨rfl,rfl⟩;clear B;go_wp2;go_ret;exact⟨by rw[<-O.out,D.out];rfl,rfl⟩
     .obtain rfl:k=N+1:=by omega
      have D:Hid (Ids.path l=true):=eA (by rcases z.out with h|h;omega;exact h.2)
      clear z;go_wp2;go_ret;exact⟨by rw[<-O.out,D.out];rfl,rfl⟩
   .have D:Hid (Ids.path l=false):=eA (by rw[I,decide_eq_false G];rfl)
    rw[<-y] at G;have g:(((str l)[0].toNat:Int) != 47)=true:=ne_yes G;clear Q I y G;go_enter func33,ntmps33
    go_wp2;go_ret;exact⟨by rw[<-O.out,D.out];rfl,rfl⟩
end
section
open Go.RowKit Mem
theorem dE(B:Nat)(w:World)(k:Nat):Below B w (w.drewN k):=⟨rfl,rfl,rfl,eH,fun _ _=>rfl⟩
theorem prefix_take{p l:List UInt8}{n:Nat}(A:p.length=n):p.isPrefixOf l=(l.take n==p):=by
 rw[Bool.eq_iff_iff]
 simp only[List.isPrefixOf_iff_prefix,beq_iff_eq]
 rw[List.prefix_iff_eq_take,A]
 exact⟨fun h=>h.symm,fun h=>h.symm⟩
theorem path_agent7:Ids.path Ids.fq=false:=by decide +kernel
theorem ks(l:List UInt8)(w:World)(K:l.length<=9223372036854775807):Calls prog 34 #[.string (str l)] w fun e w'=>e=.returned (.bool (Ids.agent l))/\w=w':=by
 have D:=ot l w K
 obtain⟨r,E⟩:=eC (Ids.agent l)
 have I:=eA E
 rw[E]
 have G:Ids.agent l=((l.take 7==Ids.fq)&&Ids.path l&&!(l.drop 7).contains 47):=by unfold Ids.agent;rw[prefix_take (n:=7) rfl]
 have C:=eA G
 clear E G
 obtain⟨N,F⟩:=eC (l.length)
 have Q:=eA F
 have L:(str l).size=N:=by rw[aC,F]
 rw[F] at K
 cases A:Ids.path l
 .have hx:Hid (Ids.agent l=false):=eA (by rw[C.out,A];simp)
  rw[A] at D;clear A F;go_enter func34,ntmps34
  go_wp2_with fail
  refine D.mono ?_;rintro e w' ⟨rfl,rfl⟩;go_wp2;go_ret;exact⟨by rw[<-I.out,hx.out];rfl,rfl⟩
 .rw [A] at D
  by_cases R:N<8
  .have hx:Hid (Ids.agent l=false):=eA (by
    rw[C.out]
    cases B:(l.take 7==Ids.fq)
    .rfl
    .simp only [beq_iff_eq] at B
     rw[List.take_of_length_le (by omega)] at B;rw[B,path_agent7] at A
     cases A)
   clear A F;go_enter func34,ntmps34
   go_wp2_with fail
   refine D.mono ?_;rintro e w' ⟨rfl,rfl⟩;go_wp2;go_ret;exact⟨by rw[<-I.out,hx.out];rfl,rfl⟩
  .have M:(str l).extract 0 7=str (l.take 7):=kh l 0 7
   have O:(str l).extract 7 N=str (l.drop 7):=by rw[kh,List.take_of_length_le (by omega)]
   cases B:(l.take 7==Ids.fq)
   .have hx:Hid (Ids.agent l=false):=eA (by rw[C.out,B];rfl)
    have J:(l.take 7==[47,97,103,101,110,116,47])=false:=B;generalize l.take 7=T at *;clear A F B;go_enter func34,ntmps34
    go_wp2_with fail
    refine D.mono ?_;rintro e w' ⟨rfl,rfl⟩;clear D;go_wp2;go_ret;exact⟨by rw[<-I.out,hx.out];rfl,rfl⟩
   .have J:(l.take 7==[47,97,103,101,110,116,47])=true:=B
    have H:=ve 47 (l.drop 7) w (by rw[List.length_drop];omega)
    have hx:Hid (Ids.agent l=!(l.drop 7).contains 47):=eA (by rw[C.out,B,A];rfl)
    generalize l.take 7=T at *;generalize (l.drop 7).contains 47=b at *;clear A F B;go_enter func34,ntmps34
    go_wp2_with fail
    refine D.mono ?_;rintro e w' ⟨rfl,rfl⟩;clear D;go_wp2_with fail
    refine H.mono ?_;rintro e w' ⟨rfl,rfl⟩;clear H;go_wp2;go_ret;exact⟨by rw[<-I.out,hx.out];rfl,rfl⟩
theorem sw(l:List UInt8)(w:World)(s:l.length<=9223372036854775807):Calls prog 62 #[.string (str l)] w fun e w'=>e=.returned (.bool (Ids.selector l))/\w=w':=by
 obtain⟨r,H⟩:=eC (Ids.selector l)
 have M:=eA H
 rw[H]
 clear H
 obtain⟨N,R⟩:=eC (l.length)
 have I:=eA R
 have t:(str l).size=N:=by rw[aC,R]
 rw[R] at s
 clear R
 go_enter func62,ntmps62
 go_wp2_with fail
 go_loop [3] (fun i=>∃k:Nat,k<=N/\i=.int .i64 k/\Hid (∀j,j<k->l[j]?≠some 58)) (fun i=>N-(intOf i).toNat)
 case atStart=>exact⟨0,by omega,rfl,eA (fun j f=>by omega)⟩
 case round =>
  obtain⟨k,hk,rfl,T⟩:=hrel;by_cases U:k<N
  .have D:k<l.length:=by rw[I.out];exact U
   have u:k<(str l).size:=by omega
   by_cases C:(l[k]'D).toNat=58
   .have g:(((str l)[k].toNat:Int) != 58)=false:=ne_no (n:=(str l)[k].toNat) C
    have ht:Ids.cM 58 l=k:=Ids.till_eq (by omega) T.out (fun _=>by rw[List.getElem?_eq_getElem D];congr 1;exact UInt8.toNat.inj C)
    have E:=of_any (l.take k) Ids.uY 8 w (by rw[List.length_take];omega) (by decide)
    rw[Ids.of_small,List.length_take,Nat.min_eq_left (by omega)] at E;have A:Ids.selector l=(decide (k<=8)&&Ids.bG Ids.small (l.take k)&&decide (N<=k+1+16)&&Ids.bG Ids.seen (l.drop (k+1))):=by
     unfold Ids.selector;rw[ht,decide_eq_true D,Bool.true_and,I.out]
    have G:=eA A;have X:(str l).extract 0 k=str (l.take k):=kh l 0 k;have Y:(str l).extract (k+1) N=str (l.drop (k+1)):=by rw[kh,List.take_of_length_le (by rw[I.out];exact eH)]
    have J:(l.drop (k+1)).length=N-(k+1):=by rw[List.length_drop,I.out]
    generalize l.take k=K at *;generalize l.drop (k+1)=V at *;obtain⟨b,L⟩:=eC ((decide (k<=8)&&Ids.bG Ids.small K));rw[L] at E;have x:=eA L;obtain⟨Q,m⟩:∃Q,N=k+1+Q:=⟨N-(k+1),by omega⟩;have y:(str V).size=Q:=by rw[aC,J];omega
    have Z:Hid (V.length=Q):=eA (by rw[J];omega)
    have z:=eA m;have Aa:Q<=9223372036854775807:=by omega
    clear A ht C L J m;go_wp2_with fail
    refine E.mono ?_;rintro e w' ⟨rfl,rfl⟩;clear E;go_wp2_with fail
    go_loop [6] (fun i=>∃j:Nat,j<=Q/\i=.int .i64 j/\Hid ((V.take j).all Ids.seen=true)) (fun i=>Q-(intOf i).toNat)
    case atStart=>exact⟨0,by omega,rfl,eA (by simp)⟩
    case round =>
     clear X Y g;obtain⟨j,f,rfl,o⟩:=hrel;by_cases c:j<Q
     .have O:j<V.length:=by rw[Z.out];exact c
      have Ab:j<(str V).size:=by omega
      have F:(str V)[j]=V[j]:=rfl
      cases B:Ids.seen V[j] with
      | true =>
       have hn:=eA ((sd o.out O).trans B);have S:33<=(str V)[j].toNat/\(str V)[j].toNat<=126:=by
        rw[F];unfold Ids.seen at B;simpa using B
       clear B F;go_wp2_with fail
       go_round
       case rel=>exact⟨j+1,by omega,by go_num,hn⟩
       case measure=>simp[intOf];omega
      | false =>
       have hx:Hid (Ids.selector l=false):=eA (by rw[G.out];unfold Ids.bG;rw[vm O B];simp)
       have S:(str V)[j].toNat<33\/(33<=(str V)[j].toNat/\126<(str V)[j].toNat):=by
        rw[F];unfold Ids.seen at B;simp at B
        omega
       clear B F;rcases S with S|⟨S,Ac⟩
       all_goals
        go_wp2_with fail
        go_ret;exact⟨by rw[<-M.out,hx.out];rfl,rfl⟩
     .obtain rfl:j=Q:=by omega
      have A:Hid (Ids.selector l=(b&&decide (1<=j)&&decide (j<=16))):=eA (by
       have B:Ids.bG Ids.seen V=decide (1<=j):=by
        have:=o.out;rw[<-Z.out,List.take_length] at this;unfold Ids.bG;rw[this,Ids.ib,Z.out,Bool.true_and]
       rw[G.out,x.out,B,show decide (N<=k+1+16)=decide (j<=16) by rw[decide_eq_decide,z.out];omega]
       cases b<;>cases decide (1<=j)<;>cases decide (j<=16)<;>rfl)
      cases b
      .go_wp2_with fail
       go_ret;exact⟨by rw[<-M.out,A.out];rfl,rfl⟩
      .by_cases d:1<=j
       .by_cases q:j<=16
        .go_wp2_with fail
         go_ret;exact⟨by rw[<-M.out,A.out];simp[d,q];omega,rfl⟩
        .go_wp2_with fail
         go_ret;exact⟨by rw[<-M.out,A.out];simp[d,q];omega,rfl⟩
       .go_wp2_with fail
        go_ret;exact⟨by rw[<-M.out,A.out];simp[d],rfl⟩
   .have g:(((str l)[k].toNat:Int) != 58)=true:=ne_yes (n:=(str l)[k].toNat) C
    have hA:Hid (∀j,j<k+1->l[j]?≠some 58):=eA (by
     intro j f;by_cases e:j=k
     .subst e
      rw[List.getElem?_eq_getElem D];intro h;injection h with h
      exact C (by rw[h];rfl)
     .exact T.out j (by omega))
    clear C;go_wp2_with fail
    go_round
    case rel=>exact⟨k+1,by omega,by go_num,hA⟩
    case measure=>simp[intOf];omega
  .obtain rfl:k=N:=by omega
   have hx:Hid (Ids.selector l=false):=eA (by
    have ht:Ids.cM 58 l=k:=Ids.till_eq (by rw[I.out];exact eH) T.out (fun h=>by rw[I.out] at h;omega)
    unfold Ids.selector;rw[ht,I.out];simp)
   go_wp2_with fail
   go_ret;exact⟨by rw[<-M.out,hx.out];rfl,rfl⟩
end
section
open Go.RowKit Mem
theorem infoAscii:(prog.info? (Tryz.lays160_ren.t 116)).map (fun i=>(i.zero,i.size))=some (some (.agg (Array.replicate 256 (.bool false))),256):=by kernel_rfl
theorem trim_any(l:List UInt8)(w:World)(B:l.length<=9223372036854775807) :
  Calls prog 225 #[.string (str l),.string ⟨#[46,45]⟩] w fun e w'=>e=.returned (.string (str (Lib.trimS l [46,45])))/\eF w w':=by
 refine(Any.strings_Trim_laid Tryz.lays160 infoAscii (str l) ⟨#[46,45]⟩ w (by rw[aC];omega) (by decide) (ascii_of_all (by decide))).mono ?_
 rintro e w' ⟨rfl,A⟩
 exact⟨rfl,A⟩
theorem inner_tells:Tells 191 Ids.inner:=tI
theorem trim_beq(l:List UInt8):(Lib.trimS l [46,45]==l)=!Ids.edged l:=by
 rw[Bool.eq_iff_iff]
 simp only[beq_iff_eq,Bool.not_eq_true']
 exact Ids.trim_same l
theorem domain_any(l:List UInt8)(w:World)(B:l.length<=9223372036854775807):Calls prog 196 #[.string (str l)] w fun e w'=>e=.returned (.bool (Ids.domain l))/\eF w w':=by
 have C:=aC l
 have A:=pY inner_tells (enters_of func191 (by kernel_rfl) rfl) l w B
 have D:=trim_any l w B
 have E:=trim_beq l
 unfold Ids.domain
 obtain⟨N,G⟩:=eC (l.length)
 rw[G] at C ⊢
 clear G B
 generalize Lib.trimS l [46,45]=T at *
 generalize Ids.bG Ids.inner l=a at *
 generalize Ids.edged l=b at *
 by_cases H:N<=16
 .cases a
  .go_enter func196,ntmps196
   go_wp2_with fail
   refine A.mono ?_;rintro e w' ⟨rfl,rfl⟩;go_wp2;go_ret;exact⟨by simp,Below.refl _ _⟩
  .cases b
   all_goals
    simp only[Bool.not_false,Bool.not_true] at E;go_enter func196,ntmps196
    go_wp2_with fail
    refine A.mono ?_;rintro e w' ⟨rfl,rfl⟩;go_wp2_with fail
    refine D.mono ?_;rintro e I ⟨rfl,F⟩;go_wp2;go_ret;exact⟨by simp;try omega,F⟩
 .go_enter func196,ntmps196
  go_wp2;go_ret;exact⟨by simp;try omega,Below.refl _ _⟩
end
section
open Go.RowKit Mem
def oR(c:UInt8)(l:List UInt8):Array Value:=if Ids.cM c l<l.length then #[.string (str (l.take (Ids.cM c l))),.string (str (l.drop (Ids.cM c l+1))),.bool true] else #[.string (str l),.string (str []),.bool false]
theorem litecut_any(c:UInt8)(l:List UInt8)(w:World)(C:l.length<=9223372036854775807):Calls prog 204 #[.string (str l),.string ⟨#[c]⟩] w fun e w'=>e=.returned (.tuple (oR c l))/\∃q,w'=w.drewN q:=by
 have A:=Any.stringslite_Index_one Tryz.lays219 (str l) c w
 rw[show (str l).data.toList=l from rfl,Ids.ge] at A
 have D:(⟨#[c]⟩:ByteArray).size=1:=rfl
 unfold oR
 obtain⟨N,B⟩:=eC (l.length)
 have E:(str l).size=N:=by rw[aC,B]
 rw[B] at C A ⊢
 have F:=eA B
 clear B
 by_cases h:Ids.cM c l<N
 .rw [if_pos h] at A ⊢
  generalize Ids.cM c l=k at *;have G:(str l).extract 0 k=str (l.take k):=kh l 0 k;have H:(str l).extract (k+1) N=str (l.drop (k+1)):=by rw[kh,List.take_of_length_le (by rw[F.out];exact eH)]
  generalize l.take k=K at *;generalize l.drop (k+1)=V at *;go_enter func204,ntmps204
  go_wp2_with fail
  refine A.mono ?_;rintro e w' ⟨rfl,rfl⟩;go_wp2_with fail
  go_quiet (fail)
  go_wp2;go_ret3
  exact⟨rfl,_,rfl⟩
 .rw [if_neg h] at A ⊢
  go_enter func204,ntmps204
  go_wp2_with fail
  refine A.mono ?_;rintro e w' ⟨rfl,rfl⟩;go_wp2;go_ret3
  exact⟨rfl,0,rfl⟩
theorem cut_any(c:UInt8)(l:List UInt8)(w:World)(B:l.length<=9223372036854775807):Calls prog 183 #[.string (str l),.string ⟨#[c]⟩] w fun e w'=>e=.returned (.tuple (oR c l))/\∃q,w'=w.drewN q:=by
 have A:=litecut_any c l w B
 obtain⟨x,y,b,C⟩:∃x y b,oR c l=#[x,y,b]:=by
  unfold oR;split
  .exact⟨_,_,_,rfl⟩
  .exact⟨_,_,_,rfl⟩
 rw[C] at A ⊢
 go_enter func183,ntmps183
 go_wp2_with fail
 refine A.mono ?_
 rintro e D ⟨rfl,q,rfl⟩
 go_wp2
 go_ret3
 exact⟨rfl,q,rfl⟩
theorem small_tells:Tells 184 Ids.small:=tb
theorem seen_tells:Tells 185 Ids.seen:=seen_any
theorem uu(l:List UInt8)(w:World)(O:l.length<=9223372036854775807):Calls prog 161 #[.string (str l)] w fun e w'=>e=.returned (.bool (Ids.selector l))/\∃q,w'=w.drewN q:=by
 have E:=cut_any 58 l w O
 have C:∀A,Calls prog 166 #[.string (str (l.take (Ids.cM 58 l))),.func (.func 184) #[] #[]] A fun e w'=>e=.returned (.bool (Ids.bG Ids.small (l.take (Ids.cM 58 l))))/\A=w' :=
  fun A=>pY small_tells (enters_of func184 (by kernel_rfl) rfl) _ A (by rw[List.length_take];omega)
 have G:∀A,Calls prog 166 #[.string (str (l.drop (Ids.cM 58 l+1))),.func (.func 185) #[] #[]] A fun e w'=>e=.returned (.bool (Ids.bG Ids.seen (l.drop (Ids.cM 58 l+1))))/\A=w' :=
  fun A=>pY seen_tells (enters_of func185 (by kernel_rfl) rfl) _ A (by rw[List.length_drop];omega)
 have L:(str (l.take (Ids.cM 58 l))).size=Ids.cM 58 l:=by rw[aC,List.length_take];have:=Ids.till_le 58 l;omega
 have M:(str (l.drop (Ids.cM 58 l+1))).size=l.length-(Ids.cM 58 l+1):=by rw[aC,List.length_drop]
 unfold oR at E
 obtain⟨r,F⟩:=eC (Ids.selector l)
 have N:=eA F
 rw[F]
 clear F
 by_cases h:Ids.cM 58 l<l.length
 .rw [if_pos h] at E
  have B:Ids.selector l=(decide (Ids.cM 58 l<=8)&&Ids.bG Ids.small (l.take (Ids.cM 58 l))&&decide (l.length-(Ids.cM 58 l+1)<=16)&&Ids.bG Ids.seen (l.drop (Ids.cM 58 l+1))):=by
   unfold Ids.selector;rw[decide_eq_true h,Bool.true_and,show decide (l.length<=Ids.cM 58 l+1+16)=decide (l.length-(Ids.cM 58 l+1)<=16) by rw[decide_eq_decide];omega]
  have Q:=eA B;clear B O h;generalize l.length-(Ids.cM 58 l+1)=v at *;generalize l.drop (Ids.cM 58 l+1)=V at *;generalize l.take (Ids.cM 58 l)=K at *;generalize Ids.cM 58 l=k at *;generalize Ids.bG Ids.small K=a at *;generalize Ids.bG Ids.seen V=b at *;have H:∀x:Bool,(x=(decide (k<=8)&&a&&decide (v<=16)&&b))->x=r:=fun x hx=>by rw[hx,<-Q.out,N.out]
  have D:=eA H;clear H Q N;go_enter func161,ntmps161
  by_cases R:k<=8
  .cases a
   .go_wp2_with fail
    refine E.mono ?_;rintro e A ⟨rfl,J,rfl⟩;go_wp2_with fail
    refine(C _).mono ?_;rintro e w' ⟨rfl,rfl⟩;go_wp2;go_ret;exact⟨congrArg (fun x=>Ending.returned (.bool x)) (D.out _ (by simp)),_,rfl⟩
   .by_cases I:v<=16
    .go_wp2_with fail
     refine E.mono ?_;rintro e A ⟨rfl,J,rfl⟩;go_wp2_with fail
     refine(C _).mono ?_;rintro e w' ⟨rfl,rfl⟩;go_wp2_with fail
     refine(G _).mono ?_;rintro e w' ⟨rfl,rfl⟩;go_wp2;go_ret;exact⟨congrArg (fun x=>Ending.returned (.bool x)) (D.out _ (by simp[R,I])),_,rfl⟩
    .go_wp2_with fail
     refine E.mono ?_;rintro e A ⟨rfl,J,rfl⟩;go_wp2_with fail
     refine(C _).mono ?_;rintro e w' ⟨rfl,rfl⟩;go_wp2;go_ret;exact⟨congrArg (fun x=>Ending.returned (.bool x)) (D.out _ (by simp[I])),_,rfl⟩
  .go_wp2_with fail
   refine E.mono ?_;rintro e A ⟨rfl,J,rfl⟩;go_wp2;go_ret;exact⟨congrArg (fun x=>Ending.returned (.bool x)) (D.out _ (by simp[R])),_,rfl⟩
 .rw [if_neg h] at E
  have B:Hid (Ids.selector l=false):=eA (by unfold Ids.selector;rw[decide_eq_false h];rfl)
  clear C G L M;go_enter func161,ntmps161
  go_wp2_with fail
  refine E.mono ?_;rintro e A ⟨rfl,J,rfl⟩;go_wp2;go_ret;exact⟨by rw[<-N.out,B.out];rfl,_,rfl⟩
end
section
open Go.RowKit Mem
theorem jr(l:List UInt8):(Lib.splitB ⟨#[47]⟩ 0 (Lib.countB (str l) ⟨#[47]⟩) (str l)).map Value.string=tv (Ids.bd l):=by
 have A:=Lib.splitB_data ⟨#[47]⟩ 0 (Lib.countB (str l) ⟨#[47]⟩) (str l)
 have B:Lib.countB (str l) ⟨#[47]⟩=l.count 47:=Lib.count_one 47 l
 rw[B] at A ⊢
 rw[show (str l).data.toList=l from rfl,show ((⟨#[47]⟩:ByteArray).data.toList)=[47] from rfl,Ids.uI] at A
 rw[<-A]
 unfold tv
 rw[List.map_map]
 apply List.map_congr_left
 intro b _
 rfl
theorem split_any(l:List UInt8)(w:World)(G:l.length<=4000000000):Calls prog 190 #[.string (str l),.string ⟨#[47]⟩] w fun e w' =>
  e=.returned (.slice (some ⟨w.heap.size,0,none⟩) (Ids.bd l).length (Ids.bd l).length)/\w'=w.alloc (.cells (tv (Ids.bd l)).toArray 9):=by
 have F:=aC l
 have C:1<=(⟨#[47]⟩:ByteArray).size:=by decide
 have D:=Lib.countB_le ⟨#[47]⟩ C (str l).size (str l) eH
 have A:=Lib.splitB_all ⟨#[47]⟩ C 0 _ (str l) rfl
 have B:(Ids.bd l).length=Lib.countB (str l) ⟨#[47]⟩+1:=by
  rw[<-A,<-dN,<-jr,List.length_map]
 have c:=Any.strings_genSplit_core Tryz.lays221 (by kernel_rfl) (str l) ⟨#[47]⟩ 0 (-1) (Lib.countB (str l) ⟨#[47]⟩+1) w (by omega) C (Nat.zero_le _)
  (fun x cs _=>(Any.strings_Index_one Tryz.lays143 x 47 _).mono fun e w' ⟨E,hw⟩=>⟨by rw[E];congr 2;exact(Lib.index_one x.data.toList 47).symm,hw⟩)
  ((Any.strings_Count_one Tryz.lays138 (str l) 47 w).mono fun e w' ⟨E,hw⟩=>⟨by rw[E];congr 3;exact(Lib.count_one 47 l).symm,hw⟩)
  (by decide) (by decide) (by rw[if_pos (by decide)];omega)
 rw[Nat.add_sub_cancel,A] at c
 have e2:Lib.cellsOf (Lib.splitB ⟨#[47]⟩ 0 (Lib.countB (str l) ⟨#[47]⟩) (str l)) (Lib.countB (str l) ⟨#[47]⟩+1)=(tv (Ids.bd l)).toArray:=by rw[<-jr,<-A];exact Lib.cellsOf_full _
 rw[e2,<-B] at c
 clear e2 A D B
 generalize tv (Ids.bd l)=T at *
 generalize (Ids.bd l).length=n at *
 go_enter func190,ntmps190
 go_wp2_with fail
 refine c.mono ?_
 rintro e w' ⟨rfl,hw⟩
 rw[hw]
 go_wp2
 go_ret
 exact⟨rfl,rfl⟩
theorem has_any(l:List UInt8)(w:World):Calls prog 140 #[.string (str l),.string ⟨#[47]⟩] w fun e w'=>e=.returned (.bool (l.contains 47))/\w'=w:=by
 refine(Tryz.strings_Contains_one (str l) 47 w).mono ?_
 rintro e w' ⟨rfl,rfl⟩
 refine⟨?_,rfl⟩
 congr 2
 rw[show (str l).data.toList=l from rfl,Ids.ge,Bool.eq_iff_iff]
 simp only[decide_eq_true_eq,List.contains_iff_mem]
 rw[<-Ids.till_lt]
 split<;>omega
theorem pre_any(p l:List UInt8)(w:World):Calls prog 139 #[.string (str l),.string (str p)] w fun e w'=>e=.returned (.tuple (if p.isPrefixOf l then #[.string (str (l.drop p.length)),.bool true] else #[.string (str l),.bool false]))/\w'=w:=by
 refine(Tryz.strings_CutPrefix (str l) (str p) w).mono ?_
 rintro e w' ⟨rfl,rfl⟩
 refine⟨?_,rfl⟩
 unfold Lib.trimPrefix Lib.hasPrefix
 rw[show (str l).data.toList=l from rfl,show (str p).data.toList=p from rfl]
 cases h:p.isPrefixOf l
 .rfl
 .rfl
theorem head_any(p l:List UInt8)(w:World):Calls prog 164 #[.string (str l),.string (str p)] w fun e w'=>e=.returned (.bool (p.isPrefixOf l))/\w'=w:=by
 refine(Tryz.strings_HasPrefix (str l) (str p) w).mono ?_
 rintro e w' ⟨rfl,rfl⟩
 exact⟨rfl,rfl⟩
end
section
open Go.RowKit Mem
section
variable {P:Program}{ops:Array Oper}{Q:Exit->Act->World->Prop}{md:Region.Mode}{S:World->Prop}{l n:Nat}
end
theorem eM(W:World)(r:Nat)(o:Obj):Chg [r] W (W.putObj r o):=⟨rfl,rfl,rfl,by simp,fun k _ A=>World.putObj_heap_other (by simpa using A)⟩
def Hands(P:Program)(gf:Nat)(lb:Array Value)(N:Nat)(Sb:List Nat)(val:Value->World->Nat->Prop)(l:Nat)(W:World):Prop :=
 ∀(J:Nat->World->Prop) (C:World->Prop),(∀k B A,J k B->eF B A->J k A) ->
  (∀k v B,k<N->J k B->val v B k->YieldAt Fence.wide 5 P l #[v] B fun e A=>(e=.returned (.bool true)/\J (k+1) A/\Chg Sb B A)\/(e=.returned (.bool false)/\C A)) ->
  J 0 W->CallsIn Fence.wide 6 P gf (#[.func (.yield l) #[] #[]]++lb) W fun e A=>(∃v,e=.returned v)/\(J N A\/C A)
def BodyPost(Sb:List Nat)(I:World->Prop)(A:Code->World->Prop)(W:World):Exit->Act->World->Prop
 | .normal,_,W'=>Chg Sb W W'/\I W'
 | .ret,_,W'=>Chg Sb W W'/\A .ret W'
 | _,_,_=>False
theorem range_law{P:Program}{g:Operand}{p:Tmp}{assign body:Code}{Q:Exit->Act->World->Prop}{a:Act}{w:World}{gf:Nat}{lb:Array Value}(hg:a.eval g=.func (.func gf) #[] lb)
  (eg:∀args w,(callFunc gf args).run P w=.ok (.enter gf args) w) {N:Nat} {Sb:List Nat} {val:Value->World->Nat->Prop} (b:∀s,s∈Sb->s<w.heap.size)
  (hands:∀W,Chg [] w W->w.heap.size+2<=W.heap.size->Hands P gf lb N ((w.heap.size+1)::Sb) val (w.heap.size+1) W)
  (I:Nat->World->Prop) (u:Code->World->Prop) (hI:∀k W H,I k W->Chg [w.heap.size,w.heap.size+1] W H->I k H) (hIx:∀c W H,u c W->Chg [w.heap.size,w.heap.size+1] W H->u c H) (h0:I 0 w)
  (hval:∀v W H k,val v W k->Chg [w.heap.size+1] W H->val v H k)
  (X:Value->Act)
  (J:∀(l:Nat) (v:Value) (W:World) (K:Act->World->Prop),K (X v) W->assign.wpIn (Fence.wide.inRound l) 5 P (Exit.then K (fun _ _ _=>False)) { tmps:=a.tmps.setIfInBounds p v,defers:=[] } W)
  (d:∀(l k:Nat) (v:Value) (W:World),k<N->I k W->val v W k->body.wpIn (Fence.wide.inRound l) 5 P (BodyPost Sb (I (k+1)) u W) (X v) W)
  (L:∀(W:World),I N W->W.heap[w.heap.size]?=some (.deferred (some []))->Q .normal { a with defers:={ target:=.collected w.heap.size,args:=#[] }::a.defers } W)
  (M:∀(c:Code) (W:World),u c W->W.heap[w.heap.size]?=some (.deferred (some []))->c.wp P Q { a with defers:={ target:=.collected w.heap.size,args:=#[] }::a.defers } W) :
  (Code.rangeFunc g #[p] assign body).wp P Q a w:=by
 refine(wpIn_wide (n:=7)).1 (wpIn_rangeFunc ?_)
 intro fn Ab
 obtain⟨B,C⟩:∃B:LoopState->Option Code->Loop,B=fun st pe=>{ state:=st,pending:=pe,fn,tmps:=a.tmps,params:=#[p],assign,body,defers:=w.heap.size }:=⟨_,rfl⟩
 obtain⟨D,m⟩:=eC (w.heap.size)
 obtain⟨Y,O⟩:=eC ((w.alloc (.deferred (some []))).alloc (.loop (B .ready none)))
 have Ac:Y.heap[D+1]?=some (.loop (B .ready none)):=by
  rw[<-O,<-m];have:=World.alloc_heap_new (w.alloc (.deferred (some []))) (.loop (B .ready none));rwa [World.size_alloc] at this
 have Ad:Y.heap[D]?=some (.deferred (some [])):=by
  rw[<-O,<-m];exact(Below.heap_alloc _ _ _ (by simp)).trans (World.alloc_heap_new w _)
 have y:eF w Y:=by
  rw[<-O];exact((Below.refl _ w).alloc eH _).alloc (by simp) _
 rw[m] at b hands hI hIx L M hval
 have E:∀{W H:World} {S:List Nat} {r:Nat} {o:Obj},W.heap[r]?=some o->Chg S W H->r∉S->H.heap[r]?=some o:=fun F hc hn =>
  (hc.block _ (Array.getElem?_eq_some_iff.1 F).1 hn).trans F
 refine⟨D+1,[{ target:=.collected D,args:=#[] }],Y,{ target:=.fn (.func gf) lb,args:=#[.func (.yield (D+1)) #[] #[]] },Y,gf,#[.func (.yield (D+1)) #[] #[]]++lb,Y,?_,?_,fun _ _=>trivial,?_,fun hx=>(by cases hx),?_⟩
 .rw [<-O,C,<-m]
  exact run_enterLoop_outer _ _ _ _ _
 .simp only [resolve,hg]
  simp[go_sem]
 .simp [invoke,go_sem,eg]
 .refine(hands Y (Chg.of_below y) (by rw[<-O,<-m];simp) (fun k W=>I k W/\W.heap[D+1]?=some (.loop (B .ready none))/\W.heap[D]?=some (.deferred (some [])))
   (fun W=>∃c,u c W/\W.heap[D+1]?=some (.loop (B .done (some c)))/\W.heap[D]?=some (.deferred (some []))) ?_ ?_ ?_).mono ?_
  .rintro k T Wb ⟨hi,U,hd⟩ hb
   exact⟨hI k T Wb hi (Chg.of_below hb),E U (Chg.of_below (S:=[]) hb) (by simp),E hd (Chg.of_below (S:=[]) hb) (by simp)⟩
  .rintro k v T hk ⟨hi,U,hd⟩ hv
   have Ae:D+1<T.heap.size:=(Array.getElem?_eq_some_iff.1 U).1;have hy:=run_yield (P:=P) (args:=#[v]) U (by rw[C];rfl)
   rw[C] at hy;refine⟨fn,_,assign,body,hy,roundIn_of_wpIn Ab ?_⟩;have hz:((#[p]:Array Tmp).zip #[v]).foldl (fun t (x:Tmp × Value)=>t.setIfInBounds x.1 x.2) a.tmps=a.tmps.setIfInBounds p v:=by simp
   rw[hz];refine J (D+1) v T _ ⟨_,run_beginRound U (by rw[C]),?_⟩;obtain⟨Z,f⟩:∃Z,T.putObj (D+1) (.loop { B .ready none with state:=.busy })=Z:=⟨_,rfl⟩;rw[f];have V:Chg [D+1] T Z:=by rw[<-f];exact eM _ _ _
   have Af:Z.heap[D+1]?=some (.loop { B .ready none with state:=.busy }):=by rw[<-f];exact World.putObj_heap_same Ae
   have Ag:=E hd V (by simp);refine wpIn_mono (d (D+1) k v Z hk (hI k T Z hi (V.mono (by simp))) (hval v T Z k hv V)) ?_;have z:∀(A:Option Code) (R:World),Chg Sb Z R ->
     (Instr.endRound (D+1) A).run P R=.ok (.bool A.isNone) (R.putObj (D+1) (.loop (B (if A.isNone then .ready else .done) A))) /\
     (R.putObj (D+1) (.loop (B (if A.isNone then .ready else .done) A))).heap[D+1]?=some (.loop (B (if A.isNone then .ready else .done) A)) /\
     (R.putObj (D+1) (.loop (B (if A.isNone then .ready else .done) A))).heap[D]?=some (.deferred (some [])) /\
     Chg ((D+1)::Sb) T (R.putObj (D+1) (.loop (B (if A.isNone then .ready else .done) A))):=by
    intro A R G;have Ah:D+1∉Sb:=fun hm=>by have:=b _ hm;omega
    have Ai:D∉Sb:=fun hm=>by have:=b _ hm;omega
    have Aa:=E Af G Ah;have F:=run_endRound (P:=P) A Aa;refine⟨by rw[C] at F ⊢;exact F,World.putObj_heap_same (Array.getElem?_eq_some_iff.1 Aa).1,(World.putObj_heap_other (by omega)).trans (E Ag G Ai),?_⟩
    exact((V.mono (by simp)).and (G.mono fun s hs=>by simp[hs])).and ((eM _ _ _).mono (by simp))
   rintro e a3 R q
   cases e with
   | normal =>
    obtain⟨G,h⟩:=q;obtain⟨F,i,j,Aj⟩:=z none R G;exact⟨_,_,F,.inl ⟨rfl,⟨hI _ _ _ h ((eM _ _ _).mono (by simp)),i,j⟩,Aj⟩⟩
   | ret =>
    obtain⟨G,h⟩:=q;obtain⟨F,i,j,_⟩:=z (some .ret) R G;exact⟨_,_,F,.inr ⟨rfl,.ret,hIx _ _ _ h ((eM _ _ _).mono (by simp)),i,j⟩⟩
   | exit id=>exact q.elim
   | goto t=>exact q.elim
   | panic ch=>exact q.elim
   | outgrown=>exact q.elim
  .exact⟨hI 0 w Y h0 (Chg.of_below (by rw[<-m] at *;exact y)),Ac,Ad⟩
  .rintro e W2 ⟨⟨v,rfl⟩,(⟨hi,U,hd⟩|⟨c,hi,U,hd⟩)⟩
   .have F:=run_endLoop (P:=P) U (by rw[C];simp)
    exact⟨none,_,by rw[C] at F;exact F,L _ (hI _ _ _ hi ((eM _ _ _).mono (by simp))) ((World.putObj_heap_other (by omega)).trans hd)⟩
   .have F:=run_endLoop (P:=P) U (by rw[C];simp)
    exact⟨some c,_,by rw[C] at F;exact F,wpIn_wide.2 (M _ _ (hIx _ _ _ hi ((eM _ _ _).mono (by simp))) ((World.putObj_heap_other (by omega)).trans hd))⟩
end
section
open Go.RowKit Go.Shelf Mem
attribute [local go_sem] Oper.semAt_some
def SegVal(T:List (List UInt8))(v:Value)(_:World)(k:Nat):Prop:=∃h:k<T.length,v=.string (str T[k])
theorem segs_hands(s:List UInt8)(Sb:List Nat)(t:Nat)(W:World)(g:Nat)(j:W.cell? ⟨g,0,none⟩=some (.string (str s)))(u:s.length<=4000000000)(H:∀x,x∈Sb->x<W.heap.size) :
  Hands prog 189 #[.pointer (some ⟨g,0,none⟩)] (Ids.bd s).tail.length Sb (SegVal (Ids.bd s).tail) t W:=by
 intro J Jx S N h0
 have B:=split_any s W u
 have C:=Ts.new W (Ids.bd s) 9
 have E:eF W (W.alloc (.cells (tv (Ids.bd s)).toArray 9)):=eI
 have F:(Ids.bd s).length<=4000000001:=by
  have y:=Lib.countB_le ⟨#[47]⟩ (by decide) (str s).size (str s) eH;have z:=Lib.splitB_all ⟨#[47]⟩ (by decide) 0 _ (str s) rfl;rw[<-dN,<-jr,List.length_map,z];rw[aC] at y;omega
 have I:=Ids.pieces_ne s
 obtain⟨O,T,l⟩:∃O T,Ids.bd s=O::T:=by
  cases h:Ids.bd s with
  | nil=>exact absurd h I
  | cons a b=>exact⟨a,b,rfl⟩
 rw[l] at B C E F N ⊢
 obtain⟨U,G⟩:=eC (W.alloc (.cells (tv (O::T)).toArray 9))
 rw[G] at C B E
 simp only[List.tail_cons] at N ⊢
 simp only[List.length_cons] at B C F
 obtain⟨n,V⟩:=eC (T.length)
 rw[V] at B C F
 have m:=eA V
 have HY:=eA N
 have HJ:=eA S
 have D:J 0 U:=S 0 W U h0 E
 have X:=eA H
 have Aa:W.heap.size<U.heap.size:=by rw[<-G];simp
 clear N S l I H V h0 G
 rw[m.out]
 refine callsIn_of_wp func189 rfl trivial ?_ rfl
 simp only[ntmps189,List.size_toArray,List.length_cons,List.length_nil,Nat.reduceAdd,Nat.reduceSub,Array.replicate_succ,Array.replicate_zero,List.push_toArray,List.append_toArray,List.nil_append,List.cons_append]
 gi_wp2_with fail
 refine⟨trivial,(callsIn_wide.2 B).mono ?_⟩
 rintro e w1 ⟨rfl,rfl⟩
 clear B
 by_cases h0:n=0
 .subst h0
  gi_wp2_with fail
  gi_loopw [4,9] (fun _ i wr=>i=.int .i64 0/\J 0 wr) (fun _ _ _=>0)
  case atStart=>exact⟨rfl,D⟩
  case round =>
   obtain⟨rfl,Q⟩:=hrel;clear D;gi_wp2
   go_end0
   exact⟨⟨_,rfl⟩,.inl Q⟩
 .have Ab:¬(n:Int)+1=1:=by omega
  gi_wp2_with fail
  gi_loopw [4,9] (fun _ i wr=>∃k:Nat,k<=n/\i=.int .i64 k/\J k wr/\Chg Sb w1 wr) (fun _ i _=>n-(intOf i).toNat)
  case atStart=>exact⟨0,by omega,rfl,D,Chg.refl _ _⟩
  case round =>
   obtain⟨k,hk,rfl,Q,o⟩:=hrel;clear D;by_cases Y:k<n
   .have K:k<T.length:=by rw[m.out];exact Y
    have L:Ts wr (some ⟨W.heap.size,0,none⟩) (n+1) (O::T):=C.chg (by intro a Z _ hm;injection Z with Z;subst Z;have:=X.out _ hm;simp at this) o
    obtain⟨Ac,Ad,q,A⟩:=L.lit (i:=k+1) (by simp;omega)
    simp only[Option.some.injEq,Addr.mk.injEq,and_true] at q;obtain⟨rfl,rfl⟩:=q;simp only[List.getElem_cons_succ,Nat.zero_add] at A;have R:wr.cell? ⟨W.heap.size,1+k,none⟩=some (.string (str T[k])):=by rw[Nat.add_comm];exact A
    obtain⟨fn,tmps,assign,body,r,c⟩:=HY.out k _ wr K Q ⟨K,rfl⟩;clear A L;gi_wp2_with fail
    refine c.mono ?_;rintro e W3 (⟨rfl,d,f⟩|⟨rfl,M⟩)
    .clear c r
     gi_wp2_with fail
     go_roundw
     case rel=>exact⟨k+1,by omega,by go_num,d,o.and f⟩
     case measure=>simp[intOf];omega
    .clear c r
     gi_wp2_with fail
     refine bodyPost_ret (results_none rfl _ _ _) rfl ?_;exact⟨⟨_,rfl⟩,.inr M⟩
   .obtain rfl:k=n:=by omega
    gi_wp2
    go_end0
    exact⟨⟨_,rfl⟩,.inl Q⟩
theorem uw(l:List UInt8)(w:World):Calls prog 165 #[.string (str l)] w fun e w'=>e=.returned (.func (.func 189) #[] #[.pointer (some ⟨w.heap.size,0,none⟩)])/\w.alloc (.cells #[.string (str l)] 9)=w':=by
 go_enter func165,ntmps165
 go_wp2
 go_ret
 exact⟨rfl,rfl⟩
theorem named_tells:Tells 167 Ids.named:=named_any
structure SegI(w0:World)(R:Nat)(T:List (List UInt8))(k:Nat)(W:World):Prop where
 cell:W.cell? ⟨R,0,none⟩=some (.bool false)
 froz:W.frozen? ⟨R,0,none⟩=false
 good:(T.take k).all Ids.iQ=true
 chg:Chg [R] w0 W
theorem SegI.next{w0:World}{R k D:Nat}{T:List (List UInt8)}{W B:World}(h:SegI w0 R T k W)(A:Chg [D,D+1] W B)(E:R<D/\w0.heap.size<=D):SegI w0 R T k B :=
 ⟨(A.cell (World.block_lt_of_cell? W _ h.cell) (by simp;omega)).trans h.cell,(A.frozen (p:=⟨R,0,none⟩) (World.block_lt_of_cell? W _ h.cell) (by simp;omega)).trans h.froz,h.good,h.chg.trans A (by intro s C;simp at C;omega)⟩
def SegX(w0:World)(R:Nat)(b:Bool)(c:Code)(W:World):Prop:=c=.ret/\W.cell? ⟨R,0,none⟩=some (.bool false)/\Hid (b=false)/\Chg [R] w0 W
theorem chg_one(w:World)(u k:Nat)(v:Value):Chg [u] w (w.setCell ⟨u,k,none⟩ v):=(Chg.refl [u] w).setCell (p:=⟨u,k,none⟩) (.inl (by simp)) v
theorem qK:∀(l:List UInt8) (x:List UInt8),x∈Ids.bd l->x.length<=l.length
 | [],x,h=>by simp[Ids.bd] at h;subst h;simp
 | c::t,x,h=>by
  have ih:=qK t;unfold Ids.bd at h;split at h
  .rcases List.mem_cons.1 h with h|h
   .subst h;simp
   .have:=ih x h;simp;omega
  .split at h
   .simp at h;subst h;simp
   .rename_i w ws e
    rw[e] at ih;rcases List.mem_cons.1 h with h|h
    .subst h
     have:=ih w (by simp);simp
     omega
    .have:=ih x (by simp[h])
     simp
     omega
theorem t3{p:List UInt8->Bool}{l:List (List UInt8)}{k:Nat}(h:(l.take k).all p=true)(A:k<l.length):(l.take (k+1)).all p=p l[k]:=by
 rw[List.take_succ_eq_append_getElem A,List.all_append,h]
 simp
theorem ll(l:List UInt8)(w:World)(hl:l.length<=9223372036854775807):Calls prog 131 #[.string (str l)] w fun e w'=>e=.returned (.bool (Ids.path l))/\eF w w':=by
 have Ad:=aC l
 have E:=fun j=>head_any [47] l j
 obtain⟨r,b⟩:=eC (Ids.path l)
 have HR:=eA b
 rw[b]
 clear b
 obtain⟨N,hN⟩:=eC (l.length)
 rw[hN] at Ad hl
 have HN:=eA hN
 clear hN
 by_cases Ai:40<N
 .have hx:Hid (Ids.path l=false):=eA (by
   cases l with
   | nil=>rfl
   | cons c t =>
    have:=HN.out;simp only[List.length_cons] at this;rw[jJ,decide_eq_false (by omega)];rfl)
  go_enter func131,ntmps131
  go_wp2;refine bodyPost_ret (v:=.bool false) (by simp[results,Tryz.f131,go_sem]) rfl ?_;exact⟨by rw[<-HR.out,hx.out],eI⟩
 .cases B:([47]:List UInt8).isPrefixOf l
  .have hx:Hid (Ids.path l=false):=eA (by
    cases l with
    | nil=>rfl
    | cons c t =>
     rw[jJ,show (c==47)=false by
      cases h:(c==47)
      .rfl
      .simp at h
       subst h;simp[List.isPrefixOf] at B]
     simp)
   rw[B] at E;go_enter func131,ntmps131
   go_wp2_with fail
   refine(E _).mono ?_;rintro e j ⟨rfl,rfl⟩;go_wp2;refine bodyPost_ret (v:=.bool false) (by simp[results,Tryz.f131,go_sem]) rfl ?_;exact⟨by rw[<-HR.out,hx.out],eI⟩
  .obtain⟨t,ht⟩:∃t,l=47::t:=by
    cases l with
    | nil=>simp[List.isPrefixOf] at B
    | cons c t =>
     simp[List.isPrefixOf] at B
     exact⟨t,by rw[<-B]⟩
   have H:Hid (Ids.path l=(Ids.bd t).all Ids.iQ):=eA (by
    have:=HN.out;rw[ht] at this ⊢;simp only[List.length_cons] at this;rw[jJ,decide_eq_true (by omega)];simp[Ids.em])
   have I:Hid ((Ids.bd l).tail=Ids.bd t):=eA (by rw[ht];simp[Ids.bd])
   have d:l.length<=4000000000:=by rw[HN.out];omega
   rw[B] at E;have q:Hid (∀x∈Ids.bd t,x.length<=4000000000):=eA (fun x hx=>by
    have S:=qK t x hx;have U:=HN.out;rw[ht] at U;simp only[List.length_cons] at U;omega)
   obtain⟨T,hT⟩:=eC (Ids.bd t);rw[hT] at q;have u:Hid (Ids.path l=T.all Ids.iQ):=eA (by rw[H.out,hT]);have y:(Ids.bd l).tail=T:=by rw[I.out,hT]
   have J:=fun Sb g W rb S U=>segs_hands l Sb g W rb S d U;rw[y] at J;have Ae:=eA J;obtain⟨Q,F⟩:=eC ((w.alloc (.cells #[.bool false] 4)).alloc (.cells #[.string (str l)] 9));have k5:Q.cell? ⟨w.heap.size,0,none⟩=some (.bool false):=by
    rw[<-F,World.cell?_alloc_lt _ _ _ (by simp)];exact World.cell?_alloc_at _ _ _ 0 rfl
   have f5:Q.frozen? ⟨w.heap.size,0,none⟩=false:=by
    rw[<-F,World.frozen?_alloc_past _ _ _ (by simp)];exact World.frozen?_alloc_at _ _ _ 0 rfl
   have b5:Q.cell? ⟨w.heap.size+1,0,none⟩=some (.string (str l)):=by
    rw[<-F];exact World.cell?_alloc_at _ _ _ 0 (by simp)
   have V:eF w Q:=by rw[<-F];exact eI.alloc (by simp) _
   have z5:w.heap.size+2<=Q.heap.size:=by rw[<-F];simp
   have Ah:decide (40<(N:Int))=false:=decide_eq_false (by omega);clear hT y J H I B ht;refine(callsIn_wide (n:=7)).1 (callsIn_of_wp_marks func131 rfl trivial (wpIn_wide.2 ?_) rfl);simp only[ntmps131,List.size_toArray,List.length_cons,List.length_nil,Nat.reduceAdd,Nat.reduceSub,Array.replicate_succ,Array.replicate_zero,List.push_toArray,List.append_toArray,List.nil_append,List.cons_append];go_wp2_with fail
   refine(E _).mono ?_;rintro e j ⟨rfl,rfl⟩;go_wp2_with fail
   refine(uw l _).mono ?_;rintro e j ⟨rfl,rfl⟩;go_wp2_with fail
   try rw[F]
   have Af:∀x∈T,x.length<=4000000000:=q.out;refine range_law (gf:=189) (lb:=#[.pointer (some ⟨w.heap.size+1,0,none⟩)]) rfl (enters_of func189 (by kernel_rfl) rfl) (N:=T.length) (Sb:=[w.heap.size]) (val:=SegVal T) ?sb ?hands (SegI Q w.heap.size T) (SegX Q w.heap.size (Ids.path l)) ?hI ?hIx ?h0 ?hval (fun v=>{ tmps:=#[.string (str l),undef,.pointer (some ⟨w.heap.size,0,none⟩),v,.string (str l),.int .i64 (N:Int),.bool false,.bool false,.string (str l),.bool true,.bool false,.bool false,.string (str l),.func (.func 189) #[] #[.pointer (some ⟨w.heap.size+1,0,none⟩)],v,undef,undef,undef,undef,undef,undef,undef,undef,undef,undef,undef],defers:=[] }) ?assign ?body ?done ?stop
   case sb=>intro s G;simp at G;omega
   case hands =>
    intro W Z hz;refine Ae.out _ _ W (w.heap.size+1) ((Z.cell (by simp;omega) (by simp)).trans b5) (by intro s G;simp at G;omega)
   case hI =>
    intro k W W' hi Z;exact hi.next Z (by omega)
   case hIx =>
    rintro c W W' ⟨rfl,S,U,h3⟩ Z;exact⟨rfl,(Z.cell (World.block_lt_of_cell? W _ S) (by simp;omega)).trans S,U,h3.trans Z (by intro s G;simp at G;omega)⟩
   case h0=>exact⟨k5,f5,by simp,Chg.refl _ _⟩
   case hval=>exact fun v W W' k h _=>h
   case assign =>
    intro g v W K m;gi_wp2
    exact m
   case body =>
    rintro g k v W hk hi ⟨_,rfl⟩;have C:=fun j=>pY named_tells (enters_of func167 (by kernel_rfl) rfl) T[k] j (by have:=Af _ (List.getElem_mem hk);omega)
    have Aj:=eA hi.good;have z:=segOk_eq T[k];have L:Hid (Ids.iQ T[k]=true->(T.take (k+1)).all Ids.iQ=true):=eA (fun h=>(t3 hi.good hk).trans h);have D:Hid (Ids.iQ T[k]=false->Ids.path l=false):=eA (fun h=>by
     rw[u.out,List.all_eq_false];exact⟨T[k],List.getElem_mem hk,by rw[h];simp⟩)
    generalize T[k]=x at *;have X:=eA z;have A:=hi.cell;have M:=hi.froz;have o:=eA hi;clear z hi
    cases R:Ids.bG Ids.named x
    .rw [R] at C
     have Y:Hid (Ids.path l=false):=eA (D.out (by rw[X.out,R];simp))
     clear D L R;gi_wp2_with fail
     refine⟨trivial,(CallsIn.inRound g (callsIn_wide.2 (C _))).mono ?_⟩;rintro e w' ⟨rfl,rfl⟩;clear C;gi_wp2_with fail
     exact⟨(Chg.refl _ _).setCell (.inl (by simp)) _,rfl,World.cell?_setCell_same _ _ _ A,Y,o.out.chg.setCell (p:=⟨w.heap.size,0,none⟩) (.inl (by simp)) _⟩
    .rw [R] at C
     cases S:(x==[46])
     .cases U:(x==[46,46])
      .have hg:=eA (L.out (by rw[X.out,R,S,U];rfl))
       clear D L R;gi_wp2_with fail
       refine⟨trivial,(CallsIn.inRound g (callsIn_wide.2 (C _))).mono ?_⟩;rintro e w' ⟨rfl,rfl⟩;clear C;gi_wp2_with fail
       exact⟨Chg.refl _ _,A,M,hg.out,o.out.chg⟩
      .have Y:Hid (Ids.path l=false):=eA (D.out (by rw[X.out,R,S,U];simp))
       clear D L R;gi_wp2_with fail
       refine⟨trivial,(CallsIn.inRound g (callsIn_wide.2 (C _))).mono ?_⟩;rintro e w' ⟨rfl,rfl⟩;clear C;gi_wp2_with fail
       exact⟨(Chg.refl _ _).setCell (.inl (by simp)) _,rfl,World.cell?_setCell_same _ _ _ A,Y,o.out.chg.setCell (p:=⟨w.heap.size,0,none⟩) (.inl (by simp)) _⟩
     .have Y:Hid (Ids.path l=false):=eA (D.out (by rw[X.out,R,S];simp))
      clear D L R;gi_wp2_with fail
      refine⟨trivial,(CallsIn.inRound g (callsIn_wide.2 (C _))).mono ?_⟩;rintro e w' ⟨rfl,rfl⟩;clear C;gi_wp2_with fail
      exact⟨(Chg.refl _ _).setCell (.inl (by simp)) _,rfl,World.cell?_setCell_same _ _ _ A,Y,o.out.chg.setCell (p:=⟨w.heap.size,0,none⟩) (.inl (by simp)) _⟩
   case done =>
    rintro W hi m;have Y:Hid (Ids.path l=true):=eA (by
     have:=hi.good;rw[List.take_length] at this;rw[u.out,this])
    have A:=hi.cell;have M:=hi.froz;have o:=eA hi;clear hi;go_wp2_with fail
    have Aa:=o.out.chg.setCell (p:=⟨w.heap.size,0,none⟩) (.inl (by simp)) (.bool true);have cx:=World.cell?_setCell_same W ⟨w.heap.size,0,none⟩ (.bool true) A;obtain⟨W2,Ab⟩:=eC (W.setCell ⟨w.heap.size,0,none⟩ (.bool true));have Ag:W2.heap[Q.heap.size]?=some (.deferred (some [])):=by
     rw[<-Ab];exact(chg_one W w.heap.size 0 (.bool true)).block _ (Array.getElem?_eq_some_iff.1 m).1 (by simp;omega) |>.trans m
    rw[Ab] at Aa cx ⊢;refine⟨by simp,.inl ⟨_,_,rfl,run_takeDeferred Ag,?_⟩⟩;have O:=eM W2 Q.heap.size (.deferred none);have i:=(O.cell (p:=⟨w.heap.size,0,none⟩) (World.block_lt_of_cell? _ _ cx) (by simp;omega)).trans cx
    refine⟨.bool true,by simp[results,Tryz.f131,go_sem,i],by rw[<-HR.out,Y.out],?_⟩;exact V.trans ((Aa.trans O (by intro s G;simp at G;omega)).below' V.size (by intro s G;simp at G;omega))
   case stop =>
    rintro c W ⟨rfl,Ac,Y,Z⟩ m;go_wp2_with fail
    refine⟨by simp,.inl ⟨_,_,rfl,run_takeDeferred m,?_⟩⟩;have O:=eM W Q.heap.size (.deferred none);have i:=(O.cell (p:=⟨w.heap.size,0,none⟩) (World.block_lt_of_cell? _ _ Ac) (by simp;omega)).trans Ac
    refine⟨.bool false,by simp[results,Tryz.f131,go_sem,i],by rw[<-HR.out,Y.out],?_⟩;exact V.trans ((Z.trans O (by intro s G;simp at G;omega)).below' V.size (by intro s G;simp at G;omega))
end
section
open Go.RowKit Mem
theorem j4(l:List UInt8)(w:World)(F:l.length<=9223372036854775807):Calls prog 94 #[.string (str l)] w fun e w'=>e=.returned (.bool (Ids.agent l))/\eF w w':=by
 have A:=pre_any Ids.fq l w
 have D:=ll l w F
 have G:=fun B=>has_any (l.drop Ids.fq.length) B
 unfold Ids.agent
 rw[show l.drop 7=l.drop Ids.fq.length from rfl]
 generalize l.drop Ids.fq.length=V at *
 generalize Ids.path l=b at *
 generalize V.contains 47=c at *
 cases E:Ids.fq.isPrefixOf l
 .rw [E] at A
  go_enter func94,ntmps94
  go_wp2_with fail
  refine A.mono ?_;rintro e w' ⟨rfl,rfl⟩;go_wp2;go_ret;exact⟨by simp,Below.refl _ _⟩
 .rw [E] at A
  cases b
  .go_enter func94,ntmps94
   go_wp2_with fail
   refine A.mono ?_;rintro e w' ⟨rfl,rfl⟩;go_wp2_with fail
   refine D.mono ?_;rintro e B ⟨rfl,C⟩;go_wp2;go_ret;exact⟨by simp,C⟩
  .go_enter func94,ntmps94
   go_wp2_with fail
   refine A.mono ?_;rintro e w' ⟨rfl,rfl⟩;go_wp2_with fail
   refine D.mono ?_;rintro e B ⟨rfl,C⟩;go_wp2_with fail
   refine(G _).mono ?_;rintro e w' ⟨rfl,rfl⟩;go_wp2;go_ret;exact⟨by simp,C⟩
end
section
open Go.RowKit Mem
theorem qu(A:Option Addr)(n c:Nat)(L:List (List UInt8))(H:Option Addr)(n' Z:Nat)(M:List (List UInt8))(w:World)(h:Ts w A n L)(R:Ts w H n' M)(j:n<=9223372036854775807)(b:n'<=9223372036854775807) :
  Calls prog 30 #[.slice A n c,.slice H n' Z] w fun e w'=>e=.returned (.bool (decide (L=M)))/\eF w w':=by
 have S:=h.len
 have I:=R.len
 by_cases D:n=n'
 .subst D
  go_enter func30,ntmps30
  go_wp2;go_loopw [5] (fun i wr=>∃k:Nat,k<=n/\i=.int .i64 k/\Hid (L.take k=M.take k)/\eF w wr/\Ts wr A n L/\Ts wr H n M) (fun i _=>n-(intOf i).toNat)
  case atStart=>exact⟨0,by omega,rfl,eA rfl,Below.refl _ _,h,R⟩
  case round =>
   obtain⟨k,l,rfl,T,J,U,V⟩:=hrel;by_cases d:k<n
   .have E:k<L.length:=by omega
    have F:k<M.length:=by omega
    obtain⟨f,g,rfl,K⟩:=U.lit E;obtain⟨X,Y,rfl,C⟩:=V.lit F;have N:L.take (k+1)=L.take k++[L[k]]:=List.take_succ_eq_append_getElem E;have e2:M.take (k+1)=M.take k++[M[k]]:=List.take_succ_eq_append_getElem F;by_cases B:L[k]=M[k]
    .have O:=eA (show L.take (k+1)=M.take (k+1) by rw[N,e2,T.out,B])
     rw[<-B] at C;generalize L[k]=s at *;have Q:(s==s)=true:=by rw[beq_iff_eq]
     have hi:(k:Int)<(n:Int):=by omega
     clear N e2 B;go_wp2_with fail
     go_quiet (fail)
     go_wp2;go_roundw
     case rel=>exact⟨k+1,by omega,by go_num,O,J.trans (dE _ _ _),Ts.below U (dE _ _ _),Ts.below V (dE _ _ _)⟩
     case measure=>simp[intOf];omega
    .have G:¬L=M:=fun e=>B (by subst e;rfl)
     have hd:decide (L=M)=false:=decide_eq_false G;have Q:(L[k]==M[k])=false:=by rw[beq_eq_false_iff_ne];exact B
     generalize L[k]=s at *;generalize M[k]=m at *;have hi:(k:Int)<(n:Int):=by omega
     clear N e2 B G;go_wp2_with fail
     go_quiet (fail)
     go_wp2;go_ret;exact⟨by rw[hd];rfl,J.trans (dE _ _ _)⟩
   .obtain rfl:k=n:=by omega
    have hd:decide (L=M)=true:=decide_eq_true (by
     have:=T.out;rw[List.take_of_length_le (by omega),List.take_of_length_le (by omega)] at this;exact this)
    go_wp2;go_ret;exact⟨by rw[hd];rfl,J⟩
 .have hd:decide (L=M)=false:=decide_eq_false (fun e=>D (by subst e;omega))
  go_enter func30,ntmps30
  go_wp2;go_ret;exact⟨by rw[hd];rfl,Below.refl _ _⟩
theorem has_take{L:List (List UInt8)}{s:List UInt8}{k:Nat}(h:(L.take k).contains s=false)(B:k<L.length)(A:(L[k]==s)=false):(L.take (k+1)).contains s=false:=by
 rw[List.take_succ_eq_append_getElem B,List.contains_eq_any_beq,List.any_append,<-List.contains_eq_any_beq,h]
 have:¬s=L[k]:=fun e=>by rw[<-e] at A;simp at A
 simp[this]
theorem rhas_any(A:Option Addr)(n c:Nat)(L:List (List UInt8))(s:List UInt8)(w:World)(h:Ts w A n L)(O:n<=9223372036854775807) :
  Calls prog 117 #[.slice A n c,.string (str s)] w fun e w'=>e=.returned (.bool (L.contains s))/\w=w':=by
 have B:=h.len
 have C:=eA B
 obtain⟨r,D⟩:=eC (L.contains s)
 have I:=eA D
 rw[D]
 clear D B
 go_enter func117,ntmps117
 go_wp2
 go_loop [5] (fun i=>∃k:Nat,k<=n/\i=.int .i64 k/\Hid ((L.take k).contains s=false)) (fun i=>n-(intOf i).toNat)
 case atStart=>exact⟨0,by omega,rfl,eA (by simp)⟩
 case round =>
  obtain⟨k,Q,rfl,J⟩:=hrel;by_cases F:k<n
  .have E:k<L.length:=by rw[C.out];exact F
   obtain⟨K,M,rfl,G⟩:=h.lit E
   cases H:(L[k]==s)
   .have N:=eA (has_take J.out E H)
    generalize L[k]=x at *;have hi:(k:Int)<(n:Int):=by omega
    go_wp2_with fail
    go_round
    case rel=>exact⟨k+1,by omega,by go_num,N⟩
    case measure=>simp[intOf];omega
   .have hx:Hid (L.contains s=true):=eA (by
     simp only[beq_iff_eq] at H;rw[List.contains_iff_mem,<-H];exact List.getElem_mem E)
    generalize L[k]=x at *;have hi:(k:Int)<(n:Int):=by omega
    go_wp2_with fail
    go_ret;exact⟨by rw[<-I.out,hx.out];rfl,rfl⟩
  .obtain rfl:k=n:=by omega
   have hx:Hid (L.contains s=false):=eA (by
    have:=J.out;rwa [List.take_of_length_le (by rw[C.out];exact eH)] at this)
   go_wp2;go_ret;exact⟨by rw[<-I.out,hx.out];rfl,rfl⟩
end
section
open Go.RowKit Mem Led
theorem lessY{a b:List UInt8}(h:a<b):Op.bytesLess a b=true:=by rw[bytesLess_eq];exact decide_eq_true h
theorem lessN{a b:List UInt8}(h:¬a<b):Op.bytesLess a b=false:=by rw[bytesLess_eq];exact decide_eq_false h
theorem ow(a b:Txt)(w:World):Calls prog 93 #[.string (str a),.string (str b)] w fun e w'=>e=.returned (.int .i64 (ord a b))/\w'=w:=by
 rcases Ids.re a b with h|h|h
 .have e:ord a b = -1:=by unfold ord;rw[if_pos h]
  rw[e];have A:=lessY h;clear h;go_enter func93,ntmps93
  go_wp2_with fail
  go_ret;exact⟨rfl,rfl⟩
 .subst h
  have e:ord a a=0:=lp.2 rfl;rw[e];have A:=lessN (Ids.my a);have B:(a==a)=true:=by rw[beq_iff_eq]
  go_enter func93,ntmps93
  go_wp2_with fail
  go_ret;exact⟨rfl,rfl⟩
 .have e:ord a b=1:=by unfold ord;rw[if_neg (Ids.lt_as h),if_pos h]
  rw[e];have A:=lessN (Ids.lt_as h);have B:(a==b)=false:=by rw[beq_eq_false_iff_ne];rintro rfl;exact Ids.my a h
  clear h;go_enter func93,ntmps93
  go_wp2_with fail
  go_ret;exact⟨rfl,rfl⟩
theorem bsStr_any(x:Txt)(A:Option Addr)(n c:Nat)(L:List Txt)(U:aY ord L)(w:World)(h:Ts w A n L)(r:n<=4000000000000000000) :
  Calls prog 141 #[.slice A n c,.string (str x),.func (.func 93) #[] #[]] w (Found ord x L w):=by
 have B:=h.len
 have V:=eA B
 have Y:=eA U
 clear U
 have E:=fun y W=>ow y x W
 go_enter func141,ntmps141
 go_wp2_with fail
 go_loopw [9,10,11] (fun i j _ wr=>∃a b:Nat,i=.int .i64 a/\j=.int .i64 b/\a<=n/\b<=n/\Hid (cL ord x L a b)/\wr=w) (fun i j _ _=>(intOf j).toNat-(intOf i).toNat)
 case atStart=>exact⟨0,n,rfl,rfl,by omega,by omega,eA (by have:=cL.start (c:=ord) (x:=x) L;rwa [B] at this),rfl⟩
 case round =>
  obtain⟨a,b,rfl,rfl,g,k,C,rfl⟩:=hrel;have l:=C.out.le;by_cases o:a<b
  .have hi:(a:Int)<(b:Int):=by omega
   obtain⟨m,s⟩:∃m:Nat,(a+b) / 2=m:=⟨_,rfl⟩;have N:a<=m:=by omega
   have O:m<b:=by omega
   have F:m<L.length:=by rw[B];omega
   have Z:((a:Int)+(b:Int)) / 2=(m:Int):=by omega
   obtain⟨Q,R,rfl,D⟩:=h.lit F;have G:=eA (C.out.up ord_cmp' Y.out O F);have H:=eA (C.out.down ord_cmp' Y.out N F);have d:(m:Int)<(n:Int):=by omega
   have I:=E L[m] wr;clear C;generalize L[m]=X at *;generalize ord X x=v at *;go_upto_region 5 with fail
   go_wp2_with fail
   refine I.mono ?_;rintro e q ⟨rfl,rfl⟩;by_cases S:v<0
   .have C:=eA (G.out S)
    clear G H;go_wp2_with fail
    go_roundw
    case rel=>exact⟨m+1,b,by go_num,rfl,by omega,k,C,by trivial⟩
    case measure=>simp[intOf];omega
   .have C:=eA (H.out (by omega))
    clear G H;go_wp2_with fail
    go_roundw
    case rel=>exact⟨a,m,rfl,rfl,g,by omega,C,by trivial⟩
    case measure=>simp[intOf];omega
  .obtain rfl:a=b:=by omega
   have J:=eA C.out.place;have hi:¬((a:Int)<(a:Int)):=by omega
   by_cases T:a<n
   .have K:a<L.length:=by rw[B];exact T
    obtain⟨Q,R,rfl,D⟩:=h.lit K;have M:Hid (ord L[a] x=0↔∃f:a<L.length,ord L[a] x=0):=eA ⟨fun e=>⟨K,e⟩,fun ⟨_,e⟩=>e⟩;have d:(a:Int)<(n:Int):=by omega
    have I:=E L[a] wr;clear C;generalize hvv:ord L[a] x=v at I M;clear hvv;generalize L[a]=X at I D;go_wp2_with fail
    refine I.mono ?_;rintro e q ⟨rfl,rfl⟩;go_wp2_with fail
    go_ret2;exact⟨a,_,rfl,J.out,by rw[<-M.out];simp,Below.refl _ _⟩
   .have d:¬((a:Int)<(n:Int)):=by omega
    have M:Hid (¬∃f:a<L.length,ord L[a] x=0):=eA (fun ⟨f,_⟩=>by omega);clear C;go_wp2_with fail
    go_ret2;exact⟨a,false,rfl,J.out,⟨fun e=>by simp at e,fun e=>absurd e M.out⟩,Below.refl _ _⟩
theorem ry(g:Nat)(lb:Array Value)(V:∀args w,(callFunc g args).run prog w=.ok (.enter g args) w)(p:Txt->Bool)(A:Option Addr)(n c:Nat)(L:List Txt)(w:World)(h:Ts w A n L)(Y:n<=9223372036854775807)
  (Q:∀(W:World) (x:Txt),x∈L->eF w W->Calls prog g (#[.string (str x)]++lb) W fun e w'=>e=.returned (.bool (p x))/\eF W w') :
  Calls prog 143 #[.slice A n c,.func (.func g) #[] lb] w fun e w'=>e=.returned (.int .i64 (aX p L))/\eF w w':=by
 have C:=h.len
 have G:=eA C
 obtain⟨r,I⟩:=eD (aX p L)
 rw[I.out]
 have R:=eA Q
 clear Q
 go_enter func143,ntmps143
 go_wp2
 go_loopw [8,5] (fun i _ wr=>∃k:Nat,k<=n/\i=.int .i64 k/\Hid (∀x∈L.take k,p x=false)/\eF w wr) (fun i _ _=>n-(intOf i).toNat)
 case atStart=>exact⟨0,by omega,rfl,eA (by simp),Below.refl _ _⟩
 case round =>
  obtain⟨k,Z,rfl,J,D⟩:=hrel;by_cases K:k<n
  .have B:k<L.length:=by rw[C];exact K
   obtain⟨b,S,rfl,M⟩:=(Ts.below h D).lit B;have H:=R.out wr L[k] (List.getElem_mem B) D;have hi:(k:Int)<(n:Int):=by omega
   cases F:p L[k]
   .have T:=eA (dP B J.out F)
    rw[F] at H;generalize L[k]=X at *;clear F;go_wp2_with fail
    refine H.mono ?_;rintro e U ⟨rfl,E⟩;go_wp2;go_roundw
    case rel=>exact⟨k+1,by omega,by go_num,T,D.trans (E.mono D.size)⟩
    case measure=>simp[intOf];omega
   .have N:=eA (gi B J.out F)
    rw[F] at H;generalize L[k]=X at *;clear F;go_wp2_with fail
    refine H.mono ?_;rintro e U ⟨rfl,E⟩;go_wp2;go_ret;exact⟨by rw[<-I.out,N.out];rfl,D.trans (E.mono D.size)⟩
  .have O:k=n:=by omega
   have N:=eA (gj (p:=p) (L:=L) (by have:=J.out;rwa [O,List.take_of_length_le (by rw[G.out];exact eH)] at this))
   have hi:¬((k:Int)<(n:Int)):=by omega
   go_wp2;go_ret;exact⟨by rw[<-I.out,N.out];rfl,D⟩
end
end Go.Proofs.YtmbpnkacggngkaaGreatDoor
