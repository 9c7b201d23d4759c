import Derived.Shelf.Strings.Builder1
import Derived.Shelf.Strings.Builder2
import Derived.Shelf.Strings.OnBuilder
import Derived.Shelf.Small.Strs
import Derived.Shelf.Small.Wraps
import Derived.Shelf.Strings.BuilderF
import Derived.Shelf.Strings.BuilderK
import Derived.Shelf.Strings.Builder2Cap
import Derived.Shelf.Strconv.Itoa0
import Derived.Shelf.Strconv.Itoa1
import Derived.Shelf.LaysM
import Derived.Shelf.Strconv.Itoa2
import Derived.Shelf.Strconv.Itoa3
import Derived.Shelf.Strconv.Itoa4
import Derived.Shelf.Strconv.Clone
import Derived.Shelf.Strconv.SyntaxError
import Derived.Shelf.LaysC
import Derived.Shelf.Strconv.ToError
import Derived.Shelf.Strconv.Lower
import Derived.Shelf.Strconv.ParseUint10
import Derived.Shelf.Strconv.ParseUint10Empty
import Derived.Shelf.Strconv.ParseUint10Any
import Derived.Shelf.Strconv.RangeError
import Derived.Shelf.Strconv.ToErrorRange
import Derived.Shelf.Strconv.ParseUintEmpty
import Derived.Shelf.Strconv.ParseUint10b64
import Derived.Shelf.Strconv.ParseUint10b32
import Derived.Shelf.Strconv.ParseUint10b16
import Derived.Shelf.Strconv.ParseUint10b8
import Derived.Shelf.Strconv.ParseUint10At
import Derived.Ground.MpProg
import Derived.Shelf.Pu.ParseUintPublic10
import Derived.Shelf.Pu.ErrVarParseUint
import Derived.Shelf.Strings.Search1
import Derived.Shelf.Strings.Search2
import Derived.Shelf.Strings.Cut
import Derived.Shelf.Strings.Shaped
import Derived.Shelf.Strings.Prefix
import Derived.Shelf.Unicode.Decode
import Derived.Shelf.Unicode.DecodeSlow
import Derived.Shelf.Unicode.DecodeAny
import Derived.Shelf.Strings.BuilderCap
import Derived.Shelf.Slices.Turned
import Derived.Tactics
import Derived.Tactics2
import Derived.StillTactics
import Derived.Laws.Runes
import Derived.Laws.CopyRow
import Derived.Laws.Shifts
import Derived.Laws.Rows
import Derived.Laws.BitsLemmas
import Derived.Laws.Tables
import Derived.Laws.NewBlocks
import Derived.Laws.Unary
import Derived.Laws.Strings
import Derived.Laws.NewFold
import Derived.Laws.ShiftsVarLaws
import Derived.Laws.Bits
import Derived.Laws.Alloc2
import Derived.Laws.Bits128
import Derived.Laws.Strings2
import Derived.Laws.Wrap64
import Derived.Laws.ShiftsVar
import Derived.Laws.Closers25
import Derived.Laws.RangeString
import Derived.Laws.Concat
import Derived.Laws.Cells
import Derived.Laws.NewDeep
import Derived.Laws.Pointers
import Derived.Laws.Closers25b
import Derived.Laws.StandIn
import Derived.Laws.Bits64b
import Derived.Laws.LoneSync
import Derived.Laws.ByValue
import Derived.Laws.MathBits
import Derived.Laws.Externs
import Derived.Laws.BitsAll
import Derived.Laws.BitsAllLaws
import Derived.Laws.Bits64
import Derived.Laws.OwnMore
import Derived.Laws.Build
import Derived.Laws.ResultCell
import Derived.Laws.Entries
import Derived.Laws.Append
import Derived.Laws.RangeAny
import Derived.Laws.World
import Derived.Laws.Strings3
import Derived.Laws.Slices
import Derived.Laws.MakeOwn
import Derived.Laws.Small
import Derived.Laws.BytesString
import Derived.FnLit
import Derived.LoopTactic
import Derived.Deep.LoopGhost
import Derived.Lib.OthersKept
import Derived.Lib.TrimU
import Derived.LaidEql
import Derived.Stop.Asserts
import Derived.RowKitTokens
import Derived.Lib.IndexMore
import Derived.Test.YtkkigemmoecldaaGreatDoorPlW10
set_option maxRecDepth 100000
set_option maxHeartbeats 0
set_option linter.unusedVariables false
set_option linter.unusedSimpArgs false
namespace Go.Proofs
open Go.Shelf
def Tryz.yV:Go.Shelf.Ren:=⟨fun|156=>12|165=>31|166=>32|169=>33|240=>56|241=>57|276=>93|277=>94|n=>n,fun|31=>39|9=>9|3=>3|4=>4|0=>0|20=>20|72=>66|76=>69|70=>63|37=>64|75=>68|127=>101|164=>106|5=>5|80=>71|n=>n,fun|n=>n⟩
theorem Tryz.L0:Go.Proofs.Lays.n156 Tryz.prog Tryz.yV:={
  mixed:=kr
  f156:=Tryz.func12.trans (aG some kr)
  f165:=Tryz.func31.trans (aG some kr)
  f166:=Tryz.func32.trans (aG some kr)
  f169:=Tryz.func33.trans (aG some kr)
  f240:=Tryz.func56.trans (aG some kr)
  f241:=Tryz.func57.trans (aG some kr)
  f276:=Tryz.func93.trans (aG some kr)
  f277:=Tryz.func94.trans (aG some kr)
  t0:=Tryz.underlying0
  a0:=Tryz.isAgg0
  z0:=Tryz.sizeOf0
  v0:=Tryz.zeroValue0
  t3:=Tryz.underlying3
  a3:=Tryz.isAgg3
  z3:=Tryz.sizeOf3
  v3:=Tryz.zeroValue3
  t4:=Tryz.underlying4
  a4:=Tryz.isAgg4
  z4:=Tryz.sizeOf4
  v4:=Tryz.zeroValue4
  t9:=Tryz.underlying9
  a9:=Tryz.isAgg9
  z9:=Tryz.sizeOf9
  v9:=Tryz.zeroValue9
  t20:=Tryz.underlying20
  a20:=Tryz.isAgg20
  z20:=Tryz.sizeOf20
  v20:=Tryz.zeroValue20
  t31:=Tryz.underlying39
  a31:=Tryz.isAgg39
  z31:=Tryz.sizeOf39
  v31:=Tryz.zeroValue39
  t37:=Tryz.underlying64
  a37:=Tryz.isAgg64
  z37:=Tryz.sizeOf64
  v37:=Tryz.zeroValue64
  t70:=Tryz.underlying63
  a70:=Tryz.isAgg63
  z70:=Tryz.sizeOf63
  v70:=Tryz.zeroValue63
  t72:=Tryz.underlying66
  a72:=Tryz.isAgg66
  z72:=Tryz.sizeOf66
  v72:=Tryz.zeroValue66
  t75:=Tryz.underlying68
  a75:=Tryz.isAgg68
  z75:=Tryz.sizeOf68
  v75:=Tryz.zeroValue68
  t76:=Tryz.underlying69
  a76:=Tryz.isAgg69
  z76:=Tryz.sizeOf69
  v76:=Tryz.zeroValue69
  t127:=Tryz.underlying101
  a127:=Tryz.isAgg101
  z127:=Tryz.sizeOf101
  v127:=Tryz.zeroValue101
  t164:=Tryz.underlying106
  a164:=Tryz.isAgg106
  z164:=Tryz.sizeOf106
  v164:=Tryz.zeroValue106 }
theorem Tryz.qe:Builder.Extra Tryz.prog Tryz.yV:={
  sizeBuilder:=kr
  liesBuilder:=kr
  t5:=Tryz.underlying5
  a5:=Tryz.isAgg5
  z5:=Tryz.sizeOf5
  v5:=Tryz.zeroValue5
  infoByte:=kr
  cellsByte:=kr
  sizeByte:=kr
  neB5:=by decide }
open Go.RowKit in
theorem Tryz.strings_Join_none (a:Option Addr) (c:Nat) (sep:ByteArray) (w:World):
 Calls Tryz.prog 12 #[.slice a 0 c,.string sep] w fun e w'=>e= .returned (.string ⟨#[]⟩)/\w'=w:=Any.strings_Join_none Tryz.L0 Tryz.qe a c sep w
open Go.RowKit in
theorem Tryz.strings_Join (bk o c:Nat) (xs:List ByteArray) (sep:ByteArray) (w:World) (hcells:∀ (j:Nat) x,xs[j]? =some x->w.cell? ⟨bk,o+j,none⟩=some (.string x)) (hbk:bk < w.heap.size) (hN:xs.length<=140737488355328) (hcap:xs.length<=c) (hlen:(Lib.join (xs.map (·.data.toList)) sep.data.toList).length<=140737488355328):
 Calls Tryz.prog 12 #[.slice (some ⟨bk,o,none⟩) xs.length c,.string sep] w fun e w'=>e= .returned (.string ⟨(Lib.join (xs.map (·.data.toList)) sep.data.toList).toArray⟩)/\Below w.heap.size w w':=Any.strings_Join Tryz.L0 Tryz.qe bk o c xs sep w hcells hbk hN hcap hlen
def Tryz.G9:Go.Shelf.Ren:=⟨fun|137=>87|217=>118|266=>137|n=>n,fun|9=>9|5=>5|3=>3|n=>n,fun|n=>n⟩
theorem Tryz.U1:Go.Proofs.Lays.n137 Tryz.prog Tryz.G9:={
  mixed:=kr
  f137:=Tryz.func87.trans (aG some kr)
  f217:=Tryz.func118.trans (aG some kr)
  f266:=Tryz.func137.trans (aG some kr)
  t3:=Tryz.underlying3
  a3:=Tryz.isAgg3
  z3:=Tryz.sizeOf3
  v3:=Tryz.zeroValue3
  t5:=Tryz.underlying5
  a5:=Tryz.isAgg5
  z5:=Tryz.sizeOf5
  v5:=Tryz.zeroValue5
  t9:=Tryz.underlying9
  a9:=Tryz.isAgg9
  z9:=Tryz.sizeOf9
  v9:=Tryz.zeroValue9 }
open Go.RowKit in
theorem Tryz.strings_IndexByte (s:ByteArray) (c:Int) (w:World):
 Calls Tryz.prog 87 #[.string s,.int .u8 c] w fun e w'=>e= .returned (.int .i64 (Lib.indexByte s.data.toList c.toNat.toUInt8))/\w'=w:=Any.strings_IndexByte Tryz.U1 s c w
def Tryz.EO:Go.Shelf.Ren:=⟨fun|173=>53|246=>91|283=>122|284=>123|285=>124|286=>125|129=>140|317=>139|318=>141|319=>142|320=>143|337=>153|338=>154|n=>n,fun|2=>2|3=>3|9=>9|4=>4|171=>166|0=>0|53=>167|37=>64|5=>5|173=>170|212=>178|51=>179|20=>20|213=>180|46=>181|232=>197|233=>198|n=>n,fun|17=>2|18=>5|19=>6|n=>n⟩
theorem Tryz.Rp:Go.Proofs.LaysM.n173 Tryz.prog Tryz.EO:={
  mixed:=kr
  f129:=Tryz.func140.trans (aG some kr)
  f173:=Tryz.func53.trans (aG some kr)
  f246:=Tryz.func91.trans (aG some kr)
  f283:=Tryz.func122.trans (aG some kr)
  f284:=Tryz.func123.trans (aG some kr)
  f285:=Tryz.func124.trans (aG some kr)
  f286:=Tryz.func125.trans (aG some kr)
  f317:=Tryz.func139.trans (aG some kr)
  f318:=Tryz.func141.trans (aG some kr)
  f319:=Tryz.func142.trans (aG some kr)
  f320:=Tryz.func143.trans (aG some kr)
  f337:=Tryz.func153.trans (aG some kr)
  f338:=Tryz.func154.trans (aG some kr)
  t0:=Tryz.underlying0
  a0:=Tryz.isAgg0
  z0:=Tryz.sizeOf0
  v0:=Tryz.zeroValue0
  t2:=Tryz.underlying2
  a2:=Tryz.isAgg2
  z2:=Tryz.sizeOf2
  v2:=Tryz.zeroValue2
  t3:=Tryz.underlying3
  a3:=Tryz.isAgg3
  z3:=Tryz.sizeOf3
  v3:=Tryz.zeroValue3
  t4:=Tryz.underlying4
  a4:=Tryz.isAgg4
  z4:=Tryz.sizeOf4
  v4:=Tryz.zeroValue4
  t5:=Tryz.underlying5
  a5:=Tryz.isAgg5
  z5:=Tryz.sizeOf5
  v5:=Tryz.zeroValue5
  t9:=Tryz.underlying9
  a9:=Tryz.isAgg9
  z9:=Tryz.sizeOf9
  v9:=Tryz.zeroValue9
  t20:=Tryz.underlying20
  a20:=Tryz.isAgg20
  z20:=Tryz.sizeOf20
  v20:=Tryz.zeroValue20
  t37:=Tryz.underlying64
  a37:=Tryz.isAgg64
  z37:=Tryz.sizeOf64
  v37:=Tryz.zeroValue64
  t46:=Tryz.underlying181
  a46:=Tryz.isAgg181
  z46:=Tryz.sizeOf181
  v46:=Tryz.zeroValue181
  t51:=Tryz.underlying179
  a51:=Tryz.isAgg179
  z51:=Tryz.sizeOf179
  v51:=Tryz.zeroValue179
  t53:=Tryz.underlying167
  a53:=Tryz.isAgg167
  z53:=Tryz.sizeOf167
  v53:=Tryz.zeroValue167
  t171:=Tryz.underlying166
  a171:=Tryz.isAgg166
  z171:=Tryz.sizeOf166
  v171:=Tryz.zeroValue166
  t173:=Tryz.underlying170
  a173:=Tryz.isAgg170
  z173:=Tryz.sizeOf170
  v173:=Tryz.zeroValue170
  t212:=Tryz.underlying178
  a212:=Tryz.isAgg178
  z212:=Tryz.sizeOf178
  v212:=Tryz.zeroValue178
  t213:=Tryz.underlying180
  a213:=Tryz.isAgg180
  z213:=Tryz.sizeOf180
  t232:=Tryz.underlying197
  a232:=Tryz.isAgg197
  z232:=Tryz.sizeOf197
  v232:=Tryz.zeroValue197
  t233:=Tryz.underlying198
  a233:=Tryz.isAgg198
  z233:=Tryz.sizeOf198
  v233:=Tryz.zeroValue198
  g17:=kr
  g18:=kr
  g19:=kr
  i0:=kr
  i2:=kr
  i3:=kr
  i4:=kr
  i5:=kr
  i9:=kr
  i20:=kr
  i37:=kr
  i46:=kr
  i51:=kr
  i53:=kr
  i171:=kr
  i173:=kr
  i212:=kr
  i232:=kr
  i233:=kr
  m17:=kr
  m18:=kr
  m19:=kr }
open Go.RowKit Go.Sort Go.Lib in
theorem Tryz.strconv_FormatInt_10 (n:Int) (h0: -9223372036854775808<=n) (h1:n<=9223372036854775807) (w:World) (htab:Lib.TabIs Tryz.prog w "internal/strconv.uint64pow10" .u64 Lib.pow10Tab):
 Calls Tryz.prog 53 #[.int .i64 n,.int .i64 10] w fun e w'=>e= .returned (.string ⟨(Lib.itoa n).toArray⟩)/\∃ k os,w'=grow (w.drewN k) os:=Any.strconv_FormatInt_10 Tryz.Rp n h0 h1 w htab
def Tryz.EN:Go.Shelf.Ren:=⟨fun|14=>129|16=>144|17=>145|19=>155|20=>156|21=>157|22=>158|23=>159|24=>160|25=>166|27=>168|26=>167|28=>172|29=>91|30=>122|31=>123|32=>124|33=>125|35=>140|34=>139|36=>141|37=>142|38=>143|39=>153|40=>154|n=>n,fun|9=>9|3=>3|22=>167|24=>68|25=>172|4=>4|34=>189|5=>5|36=>181|37=>64|0=>0|39=>191|21=>21|44=>200|47=>101|50=>204|48=>202|2=>2|52=>166|55=>170|59=>178|60=>179|20=>20|61=>180|65=>197|66=>198|67=>71|n=>n,fun|0=>7|1=>8|2=>2|3=>5|4=>6|n=>n⟩
theorem Tryz.Ba:Go.Proofs.LaysPu.n14 Tryz.prog Tryz.EN:={
  mixed:=kr
  f14:=Tryz.func129.trans (aG some kr)
  f16:=Tryz.func144.trans (aG some kr)
  f17:=Tryz.func145.trans (aG some kr)
  f19:=Tryz.func155.trans (aG some kr)
  f20:=Tryz.func156.trans (aG some kr)
  f21:=Tryz.func157.trans (aG some kr)
  f22:=Tryz.func158.trans (aG some kr)
  f23:=Tryz.func159.trans (aG some kr)
  f24:=Tryz.func160.trans (aG some kr)
  f25:=Tryz.func166.trans (aG some kr)
  f26:=Tryz.func167.trans (aG some kr)
  f27:=Tryz.func168.trans (aG some kr)
  f28:=Tryz.func172.trans (aG some kr)
  f29:=Tryz.func91.trans (aG some kr)
  f30:=Tryz.func122.trans (aG some kr)
  f31:=Tryz.func123.trans (aG some kr)
  f32:=Tryz.func124.trans (aG some kr)
  f33:=Tryz.func125.trans (aG some kr)
  f34:=Tryz.func139.trans (aG some kr)
  f35:=Tryz.func140.trans (aG some kr)
  f36:=Tryz.func141.trans (aG some kr)
  f37:=Tryz.func142.trans (aG some kr)
  f38:=Tryz.func143.trans (aG some kr)
  f39:=Tryz.func153.trans (aG some kr)
  f40:=Tryz.func154.trans (aG some kr)
  t0:=Tryz.underlying0
  a0:=Tryz.isAgg0
  z0:=Tryz.sizeOf0
  v0:=Tryz.zeroValue0
  i0:=kr
  t2:=Tryz.underlying2
  a2:=Tryz.isAgg2
  z2:=Tryz.sizeOf2
  v2:=Tryz.zeroValue2
  i2:=kr
  t3:=Tryz.underlying3
  a3:=Tryz.isAgg3
  z3:=Tryz.sizeOf3
  v3:=Tryz.zeroValue3
  i3:=kr
  t4:=Tryz.underlying4
  a4:=Tryz.isAgg4
  z4:=Tryz.sizeOf4
  v4:=Tryz.zeroValue4
  i4:=kr
  t5:=Tryz.underlying5
  a5:=Tryz.isAgg5
  z5:=Tryz.sizeOf5
  v5:=Tryz.zeroValue5
  i5:=kr
  t9:=Tryz.underlying9
  a9:=Tryz.isAgg9
  z9:=Tryz.sizeOf9
  v9:=Tryz.zeroValue9
  i9:=kr
  t20:=Tryz.underlying20
  a20:=Tryz.isAgg20
  z20:=Tryz.sizeOf20
  v20:=Tryz.zeroValue20
  i20:=kr
  t21:=Tryz.underlying21
  a21:=Tryz.isAgg21
  z21:=Tryz.sizeOf21
  v21:=Tryz.zeroValue21
  i21:=kr
  t22:=Tryz.underlying167
  a22:=Tryz.isAgg167
  z22:=Tryz.sizeOf167
  v22:=Tryz.zeroValue167
  i22:=kr
  t24:=Tryz.underlying68
  a24:=Tryz.isAgg68
  z24:=Tryz.sizeOf68
  v24:=Tryz.zeroValue68
  i24:=kr
  t25:=Tryz.underlying172
  a25:=Tryz.isAgg172
  z25:=Tryz.sizeOf172
  v25:=Tryz.zeroValue172
  i25:=kr
  t34:=Tryz.underlying189
  a34:=Tryz.isAgg189
  z34:=Tryz.sizeOf189
  v34:=Tryz.zeroValue189
  i34:=kr
  c34:=kr
  t36:=Tryz.underlying181
  a36:=Tryz.isAgg181
  z36:=Tryz.sizeOf181
  v36:=Tryz.zeroValue181
  i36:=kr
  t37:=Tryz.underlying64
  a37:=Tryz.isAgg64
  z37:=Tryz.sizeOf64
  v37:=Tryz.zeroValue64
  i37:=kr
  t39:=Tryz.underlying191
  a39:=Tryz.isAgg191
  z39:=Tryz.sizeOf191
  v39:=Tryz.zeroValue191
  i39:=kr
  t44:=Tryz.underlying200
  a44:=Tryz.isAgg200
  z44:=Tryz.sizeOf200
  v44:=Tryz.zeroValue200
  i44:=kr
  t47:=Tryz.underlying101
  a47:=Tryz.isAgg101
  z47:=Tryz.sizeOf101
  v47:=Tryz.zeroValue101
  i47:=kr
  t48:=Tryz.underlying202
  a48:=Tryz.isAgg202
  z48:=Tryz.sizeOf202
  v48:=Tryz.zeroValue202
  i48:=kr
  t50:=Tryz.underlying204
  a50:=Tryz.isAgg204
  z50:=Tryz.sizeOf204
  v50:=Tryz.zeroValue204
  i50:=kr
  t52:=Tryz.underlying166
  a52:=Tryz.isAgg166
  z52:=Tryz.sizeOf166
  v52:=Tryz.zeroValue166
  i52:=kr
  t55:=Tryz.underlying170
  a55:=Tryz.isAgg170
  z55:=Tryz.sizeOf170
  v55:=Tryz.zeroValue170
  i55:=kr
  t59:=Tryz.underlying178
  a59:=Tryz.isAgg178
  z59:=Tryz.sizeOf178
  v59:=Tryz.zeroValue178
  i59:=kr
  t60:=Tryz.underlying179
  a60:=Tryz.isAgg179
  z60:=Tryz.sizeOf179
  v60:=Tryz.zeroValue179
  i60:=kr
  t61:=Tryz.underlying180
  a61:=Tryz.isAgg180
  z61:=Tryz.sizeOf180
  t65:=Tryz.underlying197
  a65:=Tryz.isAgg197
  z65:=Tryz.sizeOf197
  v65:=Tryz.zeroValue197
  i65:=kr
  t66:=Tryz.underlying198
  a66:=Tryz.isAgg198
  z66:=Tryz.sizeOf198
  v66:=Tryz.zeroValue198
  i66:=kr
  t67:=Tryz.underlying71
  a67:=Tryz.isAgg71
  z67:=Tryz.sizeOf71
  v67:=Tryz.zeroValue71
  i67:=kr
  g0:=kr
  m0:=kr
  g1:=kr
  m1:=kr
  g2:=kr
  m2:=kr
  g3:=kr
  m3:=kr
  g4:=kr
  m4:=kr }
open Go.RowKit in
theorem Tryz.strconv_ParseUint_10_at64_ok (s:ByteArray) (hmax:s.size<=9223372036854775806) (u:Nat) (h:Lib.parseUintB 64 s.data.toList= .ok u) (w:World):
 Calls Tryz.prog 129 #[.string s,.int .i64 10,.int .i64 64] w fun e w'=>e= .returned (.tuple #[.int .u64 u,.nilIface])/\(w'=w\/w'=Lib.bytesWorld w 5 s):=Any.strconv_ParseUint_10_at64_ok Tryz.Ba s hmax u h w
open Go.RowKit in
theorem Tryz.strconv_ParseUint_10_at64_range (s:ByteArray) (hlim:s.size<=281474976710656) (h:Lib.parseUintB 64 s.data.toList= .range) (ev:Value) (w:World) (hv:w.cell? ⟨8,0,none⟩=some ev) (hev:ev= .nilIface\/∃ te pe,ev= .iface te pe):
 Calls Tryz.prog 129 #[.string s,.int .i64 10,.int .i64 64] w fun e w'=> ∃ N,e= .returned (.tuple #[.int .u64 18446744073709551615,.iface 191 (.pointer (some ⟨N,0,none⟩))])/\w.heap.size<=N/\w'.heap[N]? =some (.cells #[.string ⟨#[80,97,114,115,101,85,105,110,116]⟩,.string s,ev] 200 (0,0))/\Below w.heap.size w w':=Any.strconv_ParseUint_10_at64_range Tryz.Ba s hlim h ev w hv hev
def Tryz.G8:Go.Shelf.Ren:=⟨fun|145=>84|220=>117|219=>136|217=>118|225=>150|224=>151|267=>152|266=>137|314=>165|n=>n,fun|9=>9|4=>4|59=>128|3=>3|5=>5|46=>181|146=>195|51=>179|n=>n,fun|1=>1|n=>n⟩
theorem Tryz.U0:Go.Proofs.Lays.n145 Tryz.prog Tryz.G8:={
  mixed:=kr
  f145:=Tryz.func84.trans (aG some kr)
  f217:=Tryz.func118.trans (aG some kr)
  f219:=Tryz.func136.trans (aG some kr)
  f220:=Tryz.func117.trans (aG some kr)
  f224:=Tryz.func151.trans (aG some kr)
  f225:=Tryz.func150.trans (aG some kr)
  f266:=Tryz.func137.trans (aG some kr)
  f267:=Tryz.func152.trans (aG some kr)
  f314:=Tryz.func165.trans (aG some kr)
  t3:=Tryz.underlying3
  a3:=Tryz.isAgg3
  z3:=Tryz.sizeOf3
  v3:=Tryz.zeroValue3
  t4:=Tryz.underlying4
  a4:=Tryz.isAgg4
  z4:=Tryz.sizeOf4
  v4:=Tryz.zeroValue4
  t5:=Tryz.underlying5
  a5:=Tryz.isAgg5
  z5:=Tryz.sizeOf5
  v5:=Tryz.zeroValue5
  t9:=Tryz.underlying9
  a9:=Tryz.isAgg9
  z9:=Tryz.sizeOf9
  v9:=Tryz.zeroValue9
  t46:=Tryz.underlying181
  a46:=Tryz.isAgg181
  z46:=Tryz.sizeOf181
  v46:=Tryz.zeroValue181
  t51:=Tryz.underlying179
  a51:=Tryz.isAgg179
  z51:=Tryz.sizeOf179
  v51:=Tryz.zeroValue179
  t59:=Tryz.underlying128
  a59:=Tryz.isAgg128
  z59:=Tryz.sizeOf128
  v59:=Tryz.zeroValue128
  t146:=Tryz.underlying195
  a146:=Tryz.isAgg195
  z146:=Tryz.sizeOf195
  v146:=Tryz.zeroValue195
  g1:=kr }
open Go.RowKit Go.Lib in
theorem Tryz.strings_Cut (s sep:ByteArray) (m:Int) (w:World) (hs:s.size < 4294967281) (hm:w.cell? ⟨1,0,none⟩=some (.int .i64 m)):
 Calls Tryz.prog 84 #[.string s,.string sep] w fun e w'=>e= .returned (.tuple #[.string ⟨(Lib.cut s.data.toList sep.data.toList).1.toArray⟩,.string ⟨(Lib.cut s.data.toList sep.data.toList).2.1.toArray⟩,.bool (Lib.cut s.data.toList sep.data.toList).2.2])/\∃ n,w'=w.drewN n:=Any.strings_Cut Tryz.U0 s sep m w hs hm
def Tryz.yU:Go.Shelf.Ren:=⟨fun|197=>95|260=>126|n=>n,fun|9=>9|21=>21|3=>3|4=>4|5=>5|105=>137|119=>183|0=>0|46=>181|139=>186|138=>185|n=>n,fun|3=>3|4=>4|n=>n⟩
theorem Tryz.LZ:Go.Proofs.Lays.n197 Tryz.prog Tryz.yU:={
  mixed:=kr
  f197:=Tryz.func95.trans (aG some kr)
  f260:=Tryz.func126.trans (aG some kr)
  t0:=Tryz.underlying0
  a0:=Tryz.isAgg0
  z0:=Tryz.sizeOf0
  v0:=Tryz.zeroValue0
  t3:=Tryz.underlying3
  a3:=Tryz.isAgg3
  z3:=Tryz.sizeOf3
  v3:=Tryz.zeroValue3
  t4:=Tryz.underlying4
  a4:=Tryz.isAgg4
  z4:=Tryz.sizeOf4
  v4:=Tryz.zeroValue4
  t5:=Tryz.underlying5
  a5:=Tryz.isAgg5
  z5:=Tryz.sizeOf5
  v5:=Tryz.zeroValue5
  t9:=Tryz.underlying9
  a9:=Tryz.isAgg9
  z9:=Tryz.sizeOf9
  v9:=Tryz.zeroValue9
  t21:=Tryz.underlying21
  a21:=Tryz.isAgg21
  z21:=Tryz.sizeOf21
  v21:=Tryz.zeroValue21
  t46:=Tryz.underlying181
  a46:=Tryz.isAgg181
  z46:=Tryz.sizeOf181
  v46:=Tryz.zeroValue181
  t105:=Tryz.underlying137
  a105:=Tryz.isAgg137
  z105:=Tryz.sizeOf137
  v105:=Tryz.zeroValue137
  t119:=Tryz.underlying183
  a119:=Tryz.isAgg183
  z119:=Tryz.sizeOf183
  t138:=Tryz.underlying185
  a138:=Tryz.isAgg185
  z138:=Tryz.sizeOf185
  v138:=Tryz.zeroValue185
  t139:=Tryz.underlying186
  a139:=Tryz.isAgg186
  z139:=Tryz.sizeOf186
  v139:=Tryz.zeroValue186
  g3:=kr
  g4:=kr }
open Go.RowKit Go.Lib in
theorem Tryz.utf8_DecodeRuneInString (s:ByteArray) (w:World) (hT:Lib.Utf8Tabs 3 4 w):
 Calls Tryz.prog 95 #[.string s] w fun e w'=>e= .returned (.tuple #[.int .i32 (Lib.decodeGo s).1,.int .i64 (Lib.decodeGo s).2])/\Below w.heap.size w w':=Any.utf8_DecodeRuneInString Tryz.LZ s w hT
end Go.Proofs
namespace Go.Proofs.LexUtf
open Go.Vm (pL)
open Go.RowKit
theorem TJ (s:ByteArray) (f pos:Nat) (h:¬ pos < s.size):pL s f pos= -1:=by
 cases f with
 |zero=>rfl
 |succ f=>simp[pL,h]
theorem SB (s:ByteArray) (pos:Nat) (h:pos < s.size):Lib.decodeGo (s.extract pos s.size)=Utf8.decode s pos:=by
 have hg:∀ k,(s.extract pos s.size).get! (0+k)=s.get! (pos+k):=by
  intro k;show(s.extract pos s.size).data[0+k]! =s.data[pos+k]!;rw[getElem!_def,getElem!_def];have:(s.extract pos s.size).data[0+k]? =s.data[pos+k]? :=by
   rw[ByteArray.data_extract,Array.getElem?_extract];rw[bt];by_cases hk:k < s.data.size - pos
   ·rw[ay (by show k < min s.size s.data.size - pos;have:s.size=s.data.size:=rfl;omega)]
   ·rw[aA (by show ¬ k < min s.size s.data.size - pos;have:s.size=s.data.size:=rfl;omega),mq om]
  rw[this]
 have hsz:(s.extract pos s.size).size=s.size - pos:=by simp
 have hne:¬ (s.extract pos s.size).size=0:=om;unfold Lib.decodeGo;rw[aA hne,Lib.decode_at,Lib.decode_at,hsz];have h0:=hg 0;simp only[ep,Nat.sub_zero]at h0⊢;rw[h0,hg 1,hg 2,hg 3]
set_option maxRecDepth 1000000 in
theorem walk (s:ByteArray) (w:World) (hT:Lib.Utf8Tabs 3 4 w):
 Calls Tryz.prog 58 #[.string s] w fun e w'=>e= .returned (.int .i64 (pL s s.size 0))/\Below w.heap.size w w':=by
 go_enter Tryz.func58,Tryz.ntmps58
 go_wp2
 go_loopg [] s.size (fun gf wx=> ∃ pos:Nat,wx.heap[w.heap.size]? =some (.stringIter s pos)/\Below w.heap.size w wx/\pL s gf pos=pL s s.size 0/\s.size<=pos+gf)
 case atStart=>exact⟨0,World.iter_heap w s 0,(Below.refl _ w).alloc (ai _) _,rfl,om⟩
 case round=>
  obtain⟨pos,hit,hbw,hleft,hfu⟩:=hrel;by_cases hps:pos < s.size
  ·obtain⟨g',rfl⟩:∃ g',gk=g'+1:=⟨gk - 1,om⟩;have hnx:∀ ty,(Instr.next (.pointer (some ⟨w.heap.size,0,none⟩)) true ty).run Tryz.prog wr=_:=fun ty=>Lib.run_next_any_at wr w.heap.size s pos ty hit hps;have hwd:=Lib.width_pos s pos;have hdt:=SB s pos hps;have hun:pL s (g'+1) pos=if Utf8.decode s pos=(65533,1) then(pos:Int) else pL s g' (pos+(Utf8.decode s pos).2):=by
    show(if pos < s.size then _ else _)=_;rw[ay hps]
   rw[hun]at hleft;clear hun;obtain⟨R,hR⟩:∃ R,(Utf8.decode s pos).1=R:=⟨_,rfl⟩;obtain⟨K,hK⟩:∃ K,(Utf8.decode s pos).2=K:=⟨_,rfl⟩;have hRK:Utf8.decode s pos=(R,K):=by rw[<-hR,<-hK]
   rw[hRK]at hnx hwd hdt hleft;clear hR hK hRK;simp only at hwd hleft;have hit2:=Lib.iterAt_heap wr w.heap.size s pos (pos+K) hit;have hbw2:=Lib.below_iterAt hbw (k:=w.heap.size) (ai _) s (pos+K);obtain⟨W,hWd⟩:∃ W,wr.iterAt w.heap.size s (pos+K)=W:=⟨_,rfl⟩;simp only at hnx;rw[hWd]at hnx hit2 hbw2;have hltW:w.heap.size < W.heap.size:=(aS.1 hit2).1;have hTW:Lib.Utf8Tabs 3 4 W:=by
    exact Utf8Tabs_below hT hbw2
   have cS:=Tryz.utf8_DecodeRuneInString (s.extract pos s.size) W hTW;rw[hdt]at cS;clear hdt hTW hT hWd
   go_wp2_with (go_at_call 95;refine cS.mono ?_;rintro e W' ⟨rfl,hbc⟩)
   ·have e:(R,K)=(65533,1):=by
     have h1:(R:Int)=65533:=by simpa using(show((R:Int)==65533)=true by assumption)
     have h2:(K:Int)=1:=by simpa using(show((K:Int)==1)=true by assumption)
     rw[aN];omega
    rw[ay e]at hleft
    go_ret
    exact⟨by rw[<-hleft]<;>rfl,hbw2.trans (hbc.mono hbw2.size)⟩
   ·have e:¬ (R,K)=(65533,1):=by
     have h2:¬ (K:Int)=1:=by simpa using(show((K:Int)==1)=false by assumption)
     rw[aN];omega
    rw[aA e]at hleft
    go_roundg g'
    case measure=>omega
    case rel=>exact⟨pos+K,(hbc.block _ hltW).trans hit2,hbw2.trans (hbc.mono hbw2.size),hleft,om⟩
   ·have e:¬ (R,K)=(65533,1):=by
     have h1:¬ (R:Int)=65533:=by simpa using(show((R:Int)==65533)=false by assumption)
     rw[aN];omega
    rw[aA e]at hleft
    go_roundg g'
    case measure=>omega
    case rel=>exact⟨pos+K,hit2,hbw2,hleft,om⟩
  ·have hnx:∀ ty,(Instr.next (.pointer (some ⟨w.heap.size,0,none⟩)) true ty).run Tryz.prog wr=_:=fun ty=>Lib.run_next_end_at wr w.heap.size s pos ty hit hps;rw[TJ s gk pos hps]at hleft
   go_wp2
   go_ret
   exact⟨by rw[<-hleft]<;>rfl,hbw⟩
end Go.Proofs.LexUtf
namespace Go.Vm.Pj
open Go Go.Proofs Go.RowKit Go.Extern.Stop Go.Stop Go.Extern
theorem a0e (t:Value) (w:World):
 Calls Tryz.prog 35 #[.nilIface,t] w fun e w'=>e= .returned (.bool false)/\w'=w:=by
 go_enter Tryz.func35,Tryz.ntmps35
 go_wp2
 go_ret
 exact⟨rfl,rfl⟩
abbrev Ud (c f e:Int):Value:= .agg #[.int .i64 c,.int .i64 f,.int .i64 e]
abbrev cells3 (c f e:Int):Array Value:= #[.int .i64 c,.int .i64 f,.int .i64 e]
theorem MU (t:Addr) (w:World):(ReflectliteValue.unpack (.iface 81 (.pointer (some t)))).run Tryz.prog w
 = .ok (.agg #[.pointer (some ⟨9,81,none⟩),.pointer (some ⟨w.heap.size,0,none⟩),.int .u64 150]) (w.alloc (.cells #[.pointer (some t)] 81)):=kr
theorem Xz (a:Addr) (w:World):(ReflectliteValue.methodAny (ReflectliteValue.valueError "reflectlite.Value.Type" 0) (fun t _ _ _=>ReflectliteType.toType t) #[.agg #[.pointer (some ⟨9,81,none⟩),.pointer (some a),.int .u64 150]]).run Tryz.prog w
    = .ok (.iface 145 (.agg #[.pointer (some ⟨9,81,none⟩)])) w:=kr
theorem JT (h:Value) (w:World):(Go.method 331 145 (.agg #[h]) "Kind").run Tryz.prog w= .ok (196,h) w:=kr
theorem Y4 (w:World):((ReflectliteType.abiMethod fun t=>Functor.map (fun a:Nat=>Value.int IntKind.u8 (a:Int)) (Rtype.kind t)) #[.pointer (some ⟨9,81,none⟩)]).run Tryz.prog w= .ok (.int .u8 22) w:=kr
theorem Y5 (w:World):((ReflectliteType.abiMethod fun t=>Functor.map (fun a:Nat=>Value.int IntKind.u8 (a:Int)) (Rtype.kind t)) #[.pointer (some ⟨9,78,none⟩)]).run Tryz.prog w= .ok (.int .u8 25) w:=kr
theorem rlm (z:Sem Value) (f:TypeId->Addr->Nat->Nat->Sem Value) (v:Value):
 ReflectliteValue.method z f #[v]=(do match<-ReflectliteValue.parts v with|none=>z|some (t,a,fl)=>f t a fl (fl % 32)):=rfl
theorem Lr (a:Addr) (w:World):(ReflectliteValue.parts (.agg #[.pointer (some ⟨9,81,none⟩),.pointer (some a),.int .u64 150])).run Tryz.prog w= .ok (some (81,a,150)) w:=kr
theorem Vc (a p:Addr) (W:World) (ha:W.cell? a=some (.pointer (some p))):
 (ReflectliteValue.method (ReflectliteValue.valueError "reflectlite.Value.IsNil" 0) ReflectliteValue.isNil #[.agg #[.pointer (some ⟨9,81,none⟩),.pointer (some a),.int .u64 150]]).run Tryz.prog W= .ok (.bool false) W:=by
 rw[rlm];simp only[Sem.run_bind,Lr,Result.andThen];simp[ReflectliteValue.isNil,loadVar,isAgg,underlying,Tryz.underlying81,ha,Result.andThen]
theorem JU (h:Value) (w:World):(Go.method 331 145 (.agg #[h]) "Elem").run Tryz.prog w= .ok (209,.agg #[h]) w:=kr
theorem ym (h:Value) (w:World):(Go.method 331 145 (.agg #[h]) "Implements").run Tryz.prog w= .ok (210,.agg #[h]) w:=kr
theorem vS (h:Value) (w:World):(Go.method 331 145 (.agg #[h]) "AssignableTo").run Tryz.prog w= .ok (207,.agg #[h]) w:=kr
theorem ZG (w:World):(ReflectliteType.method ReflectliteType.elem #[.agg #[.pointer (some ⟨9,81,none⟩)]]).run Tryz.prog w= .ok (.iface 145 (.agg #[.pointer (some ⟨9,78,none⟩)])) w:=kr
theorem ET (w:World):(ReflectliteType.relation "Implements" ReflectliteType.implements_ #[.agg #[.pointer (some ⟨9,78,none⟩)],.iface 145 (.agg #[.pointer (some ⟨9,68,none⟩)])]).run Tryz.prog w= .ok (.bool true) w:=kr
theorem O8 (v:Value) (w:World):(ReflectliteType.typeOf #[.iface 78 v]).run Tryz.prog w= .ok (.iface 145 (.agg #[.pointer (some ⟨9,78,none⟩)])) w:=kr
theorem FK (w:World):(ReflectliteType.relation "AssignableTo" ReflectliteType.assignableTo #[.agg #[.pointer (some ⟨9,78,none⟩)],.iface 145 (.agg #[.pointer (some ⟨9,78,none⟩)])]).run Tryz.prog w= .ok (.bool true) w:=kr
theorem MV (c f e:Int) (w:World):(ReflectliteValue.unpack (.iface 78 (Ud c f e))).run Tryz.prog w
 = .ok (.agg #[.pointer (some ⟨9,78,none⟩),.pointer (some ⟨w.heap.size,0,none⟩),.int .u64 153]) (w.alloc (.cells (cells3 c f e) 78)):=kr
theorem Sm (w:World):(Rtype.elem? 81).run Tryz.prog w= .ok (some 78) w:=kr
theorem mk64 (p:Addr) (w:World):(ReflectliteValue.mk 78 p ReflectliteValue.flagAddr).run Tryz.prog w= .ok (.agg #[.pointer (some ⟨9,78,none⟩),.pointer (some p),.int .u64 409]) w:=kr
theorem VB (a p:Addr) (W:World) (ha:W.cell? a=some (.pointer (some p))):
 (ReflectliteValue.method (ReflectliteValue.valueError "reflectlite.Value.Elem" 0) ReflectliteValue.elem #[.agg #[.pointer (some ⟨9,81,none⟩),.pointer (some a),.int .u64 150]]).run Tryz.prog W
  = .ok (.agg #[.pointer (some ⟨9,78,none⟩),.pointer (some p),.int .u64 409]) W:=by
 rw[rlm];simp only[Sem.run_bind,Lr,Result.andThen];simp[ReflectliteValue.elem,loadVar,isAgg,underlying,Tryz.underlying81,ha,Result.andThen,Sm,mk64]
theorem Qw (a:Addr) (w:World):(ReflectliteValue.parts (.agg #[.pointer (some ⟨9,78,none⟩),.pointer (some a),.int .u64 409])).run Tryz.prog w= .ok (some (78,a,409)) w:=kr
theorem Un (a:Addr) (w:World):(ReflectliteValue.parts (.agg #[.pointer (some ⟨9,78,none⟩),.pointer (some a),.int .u64 153])).run Tryz.prog w= .ok (some (78,a,153)) w:=kr
theorem Sw (w:World):(Rtype.directlyAssignable 78 78).run Tryz.prog w= .ok true w:=kr
theorem PF (w:World):(sizeOf 78).run Tryz.prog w= .ok 3 w:=kr
theorem YS (b:Nat) (c f e:Int) (t:TypeId) (fz:Nat×Nat) (W:World) (hb:W.heap[b]? =some (.cells (cells3 c f e) t fz)):(loadVar 78 ⟨b,0,none⟩).run Tryz.prog W= .ok (Ud c f e) W:=by
 have hload:(loadCells ⟨b,0,none⟩ 3).run Tryz.prog W= .ok (cells3 c f e) W:=by
  have:=run_loadCells_list (P:=Tryz.prog) W ⟨b,0,none⟩ [.int .i64 c,.int .i64 f,.int .i64 e] (fun j v hj=>by
    have hadd:(⟨b,0,none⟩:Addr).add j=⟨b,j,none⟩:=by unfold Addr.add;split<;>simp_all
    have hcell:W.cell? ⟨b,j,none⟩=(cells3 c f e)[j]? :=by
     simp[World.cell?,hb]
    rw[hadd,hcell];simpa using hj)
  exact this
 have ha:(isAgg 78).run Tryz.prog W= .ok true W:=kr;simp[loadVar,ha,PF,hload,Result.andThen]
theorem TU (b:Nat) (c f e:Int) (cur:Array Value) (t:TypeId) (W:World) (hb:W.heap[b]? =some (.cells cur t (0,0))) (hc:cur.size=3):(storeVar 78 ⟨b,0,none⟩ (Ud c f e)).run Tryz.prog W= .ok () (W.setRow b (cells3 c f e)):=by
 have hst:=run_storeCells_at Tryz.prog b 0 t [.int .i64 c,.int .i64 f,.int .i64 e] 0 cur W hb (by simp[hc]) (by simp;exact⟨rfl,rfl,rfl⟩);simp only[storeVar,Sem.run_bind,PF,Result.andThen];rw[aA (by show ¬ 3≠3;simp)];have hd:List.drop (0+0+[Value.int .i64 c,Value.int .i64 f,Value.int .i64 e].length) cur.toList=[]:=bU (by simp[hc]);rw[hd]at hst;exact hst
theorem rls (v x:Value):ReflectliteValue.set #[v,x]=(do
    let(some (dst,a,fl),some (src,b,_)):=(<-ReflectliteValue.parts v,<-ReflectliteValue.parts x)
     |unsupported (.noEntry "extern/(internal/reflectlite.Value).Set.zeroValue")
    if fl / ReflectliteValue.flagAddr % 2==0 then unsupported (.noEntry "extern/(internal/reflectlite.Value).Set.unaddressable")
    let val<-loadVar src b
    if<-Rtype.directlyAssignable dst src then storeVar dst a val
    else if<-Rtype.implements dst src then
     if(<-Rtype.kind src)==20 then
      match val with
      | .nilIface=>unsupported (.noEntry "extern/reflectlite: a nil value of one interface type handed on as a value of another")
      |_=>storeVar dst a val
     else storeVar dst a (.iface src val)
    else panicString ("reflectlite.Set: value of type " ++(<-Rtype.spelt src)++ " is not assignable to type " ++(<-Rtype.spelt dst))
    pure (.tuple #[])):=rfl
theorem a5k (tb b:Nat) (c f e:Int) (cur:Array Value) (t t2:TypeId) (fz:Nat×Nat) (W:World) (hb:W.heap[b]? =some (.cells (cells3 c f e) t2 fz)) (ht:W.heap[tb]? =some (.cells cur t (0,0))) (hc:cur.size=3):
 (ReflectliteValue.set #[.agg #[.pointer (some ⟨9,78,none⟩),.pointer (some ⟨tb,0,none⟩),.int .u64 409],.agg #[.pointer (some ⟨9,78,none⟩),.pointer (some ⟨b,0,none⟩),.int .u64 153]]).run Tryz.prog W
  = .ok (.tuple #[]) (W.setRow tb (cells3 c f e)):=by
 rw[rls];simp only[Sem.run_bind,Qw,Un,Result.andThen];simp[ReflectliteValue.flagAddr,YS b c f e t2 fz W hb,Result.andThen,Sw,TU tb c f e cur t W ht hc]
theorem a0f (c f e:Int) (tb:Nat) (cur:Array Value) (tt:TypeId) (w:World) (hg:w.cell? ⟨0,0,none⟩=some (.iface 145 (.agg #[.pointer (some ⟨9,68,none⟩)]))) (ht0:w.heap[tb]? =some (.cells cur tt (0,0))) (hcs:cur.size=3):
 Calls Tryz.prog 35 #[.iface 78 (Ud c f e),.iface 81 (.pointer (some ⟨tb,0,none⟩))] w fun ev w'=>ev= .returned (.bool true)/\w'=((((w.alloc (.cells #[.pointer (some ⟨tb,0,none⟩)] 81)).alloc (.cells #[.pointer (some ⟨9,81,none⟩),.pointer (some ⟨w.heap.size,0,none⟩),.int .u64 150] 109)).alloc (.cells #[.pointer (some ⟨9,81,none⟩),.pointer (some ⟨w.heap.size,0,none⟩),.int .u64 150] 109)).alloc (.cells (cells3 c f e) 78)).setRow tb (cells3 c f e):=by
 have h6:= @run_callFunc_extern Tryz.prog 61 _ (fun args=>ReflectliteValue.unpack (args.getD 0 (.tuple #[]))) Tryz.func61 kr kr kr kr;have h7:= @run_callFunc_extern Tryz.prog 62 _ (ReflectliteValue.methodAny (ReflectliteValue.valueError "reflectlite.Value.Type" 0) (fun t _ _ _=>ReflectliteType.toType t)) Tryz.func62 kr kr kr kr;have h8:= @run_callFunc_extern Tryz.prog 63 _ (ReflectliteValue.method (ReflectliteValue.valueError "reflectlite.Value.IsNil" 0) ReflectliteValue.isNil) Tryz.func63 kr kr kr kr;have h27:= @run_callFunc_extern Tryz.prog 196 _ (ReflectliteType.abiMethod fun t=>do pure (.int .u8 (<-Rtype.kind t))) Tryz.func196 kr kr kr kr;have h37:= @run_callFunc_extern Tryz.prog 209 _ (ReflectliteType.method ReflectliteType.elem) Tryz.func209 kr kr kr kr;have h38:= @run_callFunc_extern Tryz.prog 210 _ (ReflectliteType.relation "Implements" ReflectliteType.implements_) Tryz.func210 kr kr kr kr;have h10:= @run_callFunc_extern Tryz.prog 102 _ ReflectliteType.typeOf Tryz.func102 kr kr kr kr;have h35:= @run_callFunc_extern Tryz.prog 207 _ (ReflectliteType.relation "AssignableTo" ReflectliteType.assignableTo) Tryz.func207 kr kr kr kr;have h11:= @run_callFunc_extern Tryz.prog 103 _ (ReflectliteValue.method (ReflectliteValue.valueError "reflectlite.Value.Elem" 0) ReflectliteValue.elem) Tryz.func103 kr kr kr kr;have h12:= @run_callFunc_extern Tryz.prog 104 _ ReflectliteValue.set Tryz.func104 kr kr kr kr;have tO:=O8;have mA:=vS;have a64:=FK;have v64:=MV;have f6:=MU;have f7:=Xz;have mK:=JT;have mE:=JU;have mI:=ym;have k69:=Y4;have k64:=Y5;have e69:=ZG;have i64:=ET;have n8:=Vc ⟨w.heap.size,0,none⟩ ⟨tb,0,none⟩ ((w.alloc (.cells #[.pointer (some ⟨tb,0,none⟩)] 81)).alloc (.cells #[.pointer (some ⟨9,81,none⟩),.pointer (some ⟨w.heap.size,0,none⟩),.int .u64 150] 109)) (by simp);have hlt:0 < w.heap.size:=by
  rcases Nat.eq_zero_or_pos w.heap.size with h0|h
  ·simp[World.cell?,h0]at hg
  ·exact h
 have hg2:((w.alloc (.cells #[.pointer (some ⟨tb,0,none⟩)] 81)).alloc (.cells #[.pointer (some ⟨9,81,none⟩),.pointer (some ⟨w.heap.size,0,none⟩),.int .u64 150] 109)).cell? ⟨0,0,none⟩=some (.iface 145 (.agg #[.pointer (some ⟨9,68,none⟩)])):=by
  rw[World.cell?_alloc_lt _ _ ⟨0,0,none⟩ (by simp),World.cell?_alloc_lt _ _ ⟨0,0,none⟩ hlt];exact hg
 have htl:tb < w.heap.size:=by
  rcases Nat.lt_or_ge tb w.heap.size with h|h
  ·exact h
  ·rw[mq h]at ht0;cases ht0
 have el:=VB ⟨w.heap.size,0,none⟩ ⟨tb,0,none⟩ (((w.alloc (.cells #[.pointer (some ⟨tb,0,none⟩)] 81)).alloc (.cells #[.pointer (some ⟨9,81,none⟩),.pointer (some ⟨w.heap.size,0,none⟩),.int .u64 150] 109)).alloc (.cells #[.pointer (some ⟨9,81,none⟩),.pointer (some ⟨w.heap.size,0,none⟩),.int .u64 150] 109)) (by rw[World.cell?_alloc_lt _ _ ⟨w.heap.size,0,none⟩ (by simp;omega)];simp)
 have st:=a5k tb (w.heap.size+1+1+1) c f e cur tt 78 (0,0) ((((w.alloc (.cells #[.pointer (some ⟨tb,0,none⟩)] 81)).alloc (.cells #[.pointer (some ⟨9,81,none⟩),.pointer (some ⟨w.heap.size,0,none⟩),.int .u64 150] 109)).alloc (.cells #[.pointer (some ⟨9,81,none⟩),.pointer (some ⟨w.heap.size,0,none⟩),.int .u64 150] 109)).alloc (.cells (cells3 c f e) 78))
  (by
    have:=heap_alloc_new (((w.alloc (.cells #[.pointer (some ⟨tb,0,none⟩)] 81)).alloc (.cells #[.pointer (some ⟨9,81,none⟩),.pointer (some ⟨w.heap.size,0,none⟩),.int .u64 150] 109)).alloc (.cells #[.pointer (some ⟨9,81,none⟩),.pointer (some ⟨w.heap.size,0,none⟩),.int .u64 150] 109)) (.cells (cells3 c f e) 78);simpa using this)
  (by rw[heap_alloc_old _ _ (by simp;omega),heap_alloc_old _ _ (by simp;omega),heap_alloc_old _ _ (by simp;omega),heap_alloc_old _ _ htl];exact ht0) hcs
 go_enter Tryz.func35,Tryz.ntmps35
 go_wp2
 refine wp_loop_rounds 1 ?_;rw[rounds_succ]
 go_wp2
 go_ret
 exact⟨rfl,rfl⟩
end Go.Vm.Pj
namespace Go.Vm.Tp
open Go.Vm.Lex
structure Nd where
 k:Int
 t:List UInt8
 v:Int
 kids:List Int
 f:Int
 e:Int
def Nd.D (x:Nd):D:= .agg [.int .i64 x.k,.str x.t,.int .i64 x.v,.sl (x.kids.map (D.int .i64)),.int .i64 x.f,.int .i64 x.e]
def gD (t:List Nd):D:= .agg [.sl (t.map Nd.D)]
instance:Inhabited Nd:=⟨⟨0,[],0,[],0,0⟩⟩
def oE (n:Int):Prop:= -9223372036854775808<=n/\n<=9223372036854775807
structure xR (t:List Nd):Prop where
 len:t.length<=1048576
 txt:∀ x∈t,x.t.length<=1048576
 kid:∀ x∈t,x.kids.length<=1048576
 ik:∀ x∈t,∀ k∈x.kids,oE k
 iv:∀ x∈t,oE x.v
 ie:∀ x∈t,oE x.f/\oE x.e
def nR (k:Int):Bool:=decide (10<=k) && decide (k<=16)
def pf (k:Int):Bool:=decide (21<=k) && decide (k<=27)
def qm (k:Int):Bool:=decide (k=20)||(decide (30<=k) && decide (k<=46) && !decide (k=36))
def rV (k:Int):Bool:=decide (50<=k) && decide (k<=54)
def dE (c:UInt8) (k:Int):Bool:=
 if c=105 then decide (k=2\/k=3\/k=4)
 else if c=116 then nR k
 else if c=115 then pf k
 else if c=101 then qm k
 else if c=112 then rV k
 else if c=98 then decide (k=20)
 else if c=102 then decide (k=5)
 else if c=118 then decide (k=6)
 else if c=110 then decide (k=36)
 else if c=97 then decide (k=47)
 else if c=113 then decide (k=7)
 else if c=111 then decide (k=20\/k=45)
 else false
def lN (k v:Int):List UInt8×Option UInt8×List UInt8:=
 if k=1 then([],some 105,[])
 else if k=2 then([],some 113,[116,98])
 else if k=3 then([],some 102,[])
 else if k=4 then([],some 118,[])
 else if k=5\/k=7\/k=14\/k=15\/k=16 then([116],none,[])
 else if k=6 then([63,116],none,[])
 else if k=20 then(if v=1 then([],some 115,[101]) else([],some 115,[]))
 else if k=21 then([63,116,101],none,[])
 else if k=23\/k=38 then([101,101],none,[])
 else if k=24 then([101,98],none,[])
 else if k=25\/k=37 then([63,101],none,[])
 else if k=34 then([],some 101,[])
 else if k=35 then([],some 110,[])
 else if k=22\/k=36\/k=41\/k=39\/k=40\/k=42\/k=44\/k=43 then([101],none,[])
 else if k=45 then([101,98,63,111],none,[])
 else if k=46 then([101],some 97,[])
 else if k=47 then([112,101],none,[])
 else if k=54 then([63,112],none,[])
 else([],none,[])
def shapeOf:List UInt8×Option UInt8×List UInt8->List UInt8
 |(a,none,_)=>a
 |(a,some c,b)=>a++42::c::b
def x9 (k v:Int):List UInt8:=shapeOf (lN k v)
def bx:List UInt8->List Int->Bool
 |[],l=>decide (l=[])
 |[c],l=>match l with|[]=>false|a::r=>dE c a && decide (r=[])
 |c::d::s,l=>if c=63 then(match l with|[]=>false|a::r=>dE d a && bx s r)||bx s l else match l with|[]=>false|a::r=>dE c a && bx (d::s) r
def fP (k v:Int) (ks:List Int):Bool:=match lN k v with
 |(a,none,_)=>bx a ks
 |(a,some c,b)=>decide (a.length+b.length<=ks.length) && (bx a (ks.take a.length) && ((ks.take (ks.length - b.length)).drop a.length).all (dE c) && bx b (ks.drop (ks.length - b.length)))
def ey (k:Int):Bool:=(decide (1<=k) && decide (k<=7))||nR k||pf k||rV k||qm k||decide (k=36)||decide (k=47)
def iz:List (List UInt8):=[[124,124],[38,38],[61,61],[33,61],[60],[62],[60,61],[62,61],[43],[45],[42],[47],[37]]
def fV (s:List UInt8):List UInt8×List UInt8×Bool:=Lib.cut s [58,58]
def vM (k:Int) (t:List UInt8):Bool:=
 if k=2\/k=3\/k=4\/k=5\/k=6\/k=7\/k=13\/k=21\/k=33\/k=34\/k=35\/k=36\/k=41\/k=51 then de t
 else if k=37\/k=54 then(fV t).2.2 && de (fV t).1 && de (fV t).2.1
 else if k=38 then decide (t∈iz)
 else decide (t=[])
def gd (k v p:Int):Bool:=
 if k=2 then decide (v=p)
 else if k=7\/k=20\/k=21\/k=31\/k=53\/k=43 then decide (v=0)||decide (v=1)
 else if k=30 then decide (0<=v)
 else if k=52 then decide (-9223372036854775808 < v)
 else decide (v=0)
def bT (t:List Nd) (i:Int):Int:=(t.getD i.toNat default).k
def kinds (t:List Nd) (l:List Int):List Int:=l.map (bT t)
def params (ks:List Int):Int:=(ks.filter fun k=>decide (k=7)).length
def je (t:List Nd) (i:Nat):Bool:=
 let x:=t.getD i default
 x.kids.all (fun k=>decide (0<=k) && decide (k < i)) && (ey x.k && vM x.k x.t && gd x.k x.v (params (kinds t x.kids)) && decide (0<=x.f) && decide (x.f<=x.e) && fP x.k x.v (kinds t x.kids))
end Go.Vm.Tp
namespace Go.Vm.Pa
open Go.Vm.Lex (TokQ)
abbrev S:=List UInt8
instance:Inhabited TokQ:=⟨⟨0,[],0,0,0⟩⟩
abbrev w (n:Int):Int:=IntKind.i64.wrap n
def jL (x:TokQ):D:= .agg [.int .i64 x.k,.str x.t,.int .i64 x.v,.int .i64 (x.f:Int),.int .i64 (x.e:Int)]
structure N where
 k:Int
 t:S
 v:Int
 ks:List D
def N.D (n:N) (f e:Int):D:= .agg [.int .i64 n.k,.str n.t,.int .i64 n.v,.sl n.ks,.int .i64 f,.int .i64 e]
structure PS where
 at_:Int
 deep:Int
 ns:List D
 n:Nat
 bc:Int
 bf:Int
 be:Int
structure K where
 l:List D
 n:Nat
def K.o:K:=⟨[],0⟩
def jM (k:K):Bool:=decide (k.l.length=k.n) && decide (k.n < 1000000)
def push (k:K) (i:Int):K:=⟨k.l++[.int .i64 i],k.n+1⟩
structure R where
 i:Int
 b:Bool
 ks:K
 v:Int
abbrev rI (i:Int):R:=⟨i,false,K.o,0⟩
abbrev rK (ks:K):R:=⟨0,false,ks,0⟩
section
variable (l:List TokQ)
def now (s:PS):TokQ:=l.getD s.at_.toNat default
def fb (s:PS):Bool:=decide (0<=s.at_) && decide (s.at_ < l.length)
def okF (fr:Int):Bool:=decide (0<=fr) && decide (fr < l.length)
def dj (s:PS) (x:S):Bool:=(decide ((now l s).k=2)||decide ((now l s).k=4)) && decide ((now l s).t=x)
def okB (s:PS):Bool:=decide (s.bc=0)
def y8 (c:Int) (s:PS):PS:=if okB s then{s with bc:=c,bf:=(now l s).f,be:=(now l s).e } else s
def dI (s:PS):PS:={s with at_:=w (s.at_+1)}
def down (s:PS):PS:={s with deep:=w (s.deep - 1)}
def eu (x:S) (s:PS):Bool×PS:=if okB s && dj l s x then(true,dI s) else(false,s)
def fN (x:S) (s:PS):Bool×PS:=if okB s && dj l s x then(true,dI s) else(false,y8 l 120 s)
def ow (s:PS):S×PS:=if okB s && decide ((now l s).k=1) then((now l s).t,dI s) else([],y8 l 120 s)
def anyS (s:PS) (xs:List S):Bool:=xs.any (dj l s)
def D0:List S:=[[105,54,52],[98,111,111,108],[40],[38],[66,111,120]]
def Mj:List S:=[[116,114,117,101],[102,97,108,115,101],[40],[66,111,120],[105,102],[109,97,116,99,104],[123],[45],[33],[42],[38]]
def Qu:List S:=[[95],[116,114,117,101],[102,97,108,115,101],[45]]
def dP (c:Int) (s:PS):Bool:=
 if c=116 then decide ((now l s).k=1)||anyS l s D0
 else if c=101 then decide ((now l s).k=1)||decide ((now l s).k=3)||anyS l s Mj
 else if c=112 then decide ((now l s).k=1)||decide ((now l s).k=3)||anyS l s Qu
 else dj l s [123]
def WR (c:Int) (s:PS):PS:=if okB s && !dP l c s then y8 l 120 s else s
def WO (s:PS):PS:=if okB s && decide (100<=s.deep) then y8 l 121 s else s
def jf (s:PS):PS:={s with deep:=w (s.deep+1)}
def Hg (c:Int) (s:PS):Bool×PS:=(okB (jf (WO l (WR l c s))),jf (WO l (WR l c s)))
def fA (fr:Int) (n:N) (s:PS):Option (Int×PS):=
 if s.ns.length=s.n/\s.n < 1000000/\okF l fr/\(fr < s.at_->okF l (w (s.at_ - 1))) then
  some (w (((s.n+1:Nat):Int) - 1),{s with n:=s.n+1,ns:=s.ns++[n.D (l.getD fr.toNat default).f (if fr < s.at_ then((l.getD (w (s.at_ - 1)).toNat default).e:Int) else 0)]})
 else none
def iz (r:Int):List S:=if r=0 then[[124,124]] else if r=1 then[[38,38]] else if r=2 then[[60],[60,61],[62],[62,61],[61,61],[33,61]] else if r=3 then[[43],[45]] else[[42],[47],[37]]
def nB (r:Int) (s:PS):S:=((iz r).find? fun x=>okB s && dj l s x).getD []
end
inductive Q where
 |typ|typed (fr:Int)|param|field|variant
 |params (ks:K) (v:Int)|function|fields (k:Int) (ks:K)|parts (k:Int)
 |item|items (ks:K)
 |stmts (ks:K)|block|stmt|let_ (fr:Int)|blocky (fr:Int)|branch|cond|match_|arms (ks:K)|arm
 |pattern|patterned (fr:Int)
 |expr (bare:Bool)|row (r:Int) (bare:Bool)|rows (r:Int) (bare:Bool) (fr:Int) (a:Int)
 |operand (bare:Bool)|prefix_ (bare:Bool)|postfix_ (bare:Bool)|gets (fr:Int) (a:Int)
 |primary (bare:Bool)|named (fr:Int) (bare:Bool)|args (ks:K)|inits (ks:K)|init
abbrev M:=Option (R×PS)
def one (i:Int):List D:=[.int .i64 i]
def two (i j:Int):List D:=[.int .i64 i,.int .i64 j]
section
variable (l:List TokQ) (go:Q->PS->M)
def cl (q:Q) (s:PS):M:=match go q s with|some (r,s1)=>if fb l s1 then some (r,s1) else none|none=>none
def ret (x:Option (Int×PS)):M:=match x with|some (i,s)=>some (rI i,s)|none=>none
def Bq (fr:Int) (n:N) (s:PS):M:=match fA l fr n s with
 |none=>none
 |some (i,s1)=>match fN l [59] s1 with|(_,s2)=>some (rI i,s2)
def N7 (fr:Int) (n:N) (s:PS):M:=match Bq l fr n s with
 |none=>none
 |some (r,s1)=>some (rI r.i,s1)
def mk (fr:Int) (k:Int) (t:S) (v:Int) (ks:List D) (s:PS):M:=ret (fA l fr ⟨k,t,v,ks⟩ s)
def deeper (c:Int) (q:Q) (s:PS):M:=match Hg l c s with
 |(false,s1)=>some (rI 0,down s1)
 |(true,s1)=>match cl l go q s1 with|none=>none|some (a,s2)=>some (rI a.i,down s2)
def step:Q->PS->M
 | .typ,s=>deeper l go 116 (.typed s.at_) s
 | .typed fr,s=>match eu l [105,54,52] s with
   |(true,s1)=>mk l fr 10 [] 0 [] s1
   |(false,s1)=>match eu l [98,111,111,108] s1 with
   |(true,s2)=>mk l fr 11 [] 0 [] s2
   |(false,s2)=>match eu l [40] s2 with
   |(true,s3)=>(match fN l [41] s3 with|(_,s4)=>mk l fr 12 [] 0 [] s4)
   |(false,s3)=>match eu l [38] s3 with
   |(true,s4)=>(match eu l [109,117,116] s4 with
    |(true,s5)=>(match cl l go .typ s5 with|none=>none|some (r,s6)=>mk l fr 15 [] 0 (one r.i) s6)
    |(false,s5)=>match cl l go .typ s5 with|none=>none|some (r,s6)=>mk l fr 14 [] 0 (one r.i) s6)
   |(false,s4)=>match eu l [66,111,120] s4 with
   |(true,s5)=>(match fN l [60] s5 with|(_,s6)=>match cl l go .typ s6 with|none=>none|some (r,s7)=>match fN l [62] s7 with|(_,s8)=>mk l fr 16 [] 0 (one r.i) s8)
   |(false,s5)=>match ow l s5 with|(t,s6)=>mk l fr 13 t 0 [] s6
 | .param,s=>match eu l [109,117,116] s with
   |(m,s1)=>match ow l s1 with
   |(t,s2)=>match fN l [58] s2 with
   |(_,s3)=>match cl l go .typ s3 with
   |none=>none
   |some (r,s4)=>match m with
    |true=>mk l s.at_ 7 t 1 (one r.i) s4
    |false=>mk l s.at_ 7 t 0 (one r.i) s4
 | .field,s=>match ow l s with
   |(t,s2)=>match fN l [58] s2 with
   |(_,s3)=>match cl l go .typ s3 with
   |none=>none
   |some (r,s4)=>mk l s.at_ 5 t 0 (one r.i) s4
 | .variant,s=>match ow l s with
   |(t,s2)=>match eu l [40] s2 with
   |(true,s3)=>(match cl l go .typ s3 with
    |none=>none
    |some (r,s4)=>match fN l [41] s4 with|(_,s5)=>mk l s.at_ 6 t 0 (one r.i) s5)
   |(false,s3)=>mk l s.at_ 6 t 0 [] s3
 | .params ks v,s=>match okB s with
   |false=>some (⟨0,false,ks,v⟩,s)
   |true=>match dj l s [41] with
   |true=>some (⟨0,false,ks,v⟩,s)
   |false=>match cl l go .param s with
   |none=>none
   |some (r,s1)=>match jM ks with
   |false=>none
   |true=>match eu l [44] s1 with
   |(true,s2)=>go (.params (push ks r.i) (w (v+1))) s2
   |(false,s2)=>some (⟨0,false,(push ks r.i),w (v+1)⟩,s2)
 | .function,s0=>match fN l [102,110] s0 with
   |(_,s1)=>match ow l s1 with
   |(t,s2)=>match fN l [40] s2 with
   |(_,s3)=>match cl l go (.params K.o 0) s3 with
   |none=>none
   |some (p,s4)=>match fN l [41] s4 with
   |(_,s5)=>match eu l [45,62] s5 with
   |(true,s6)=>(match cl l go .typ s6 with
    |none=>none
    |some (r,s7)=>match jM p.ks with
    |false=>none
    |true=>match cl l go .block s7 with
    |none=>none
    |some (q,s8)=>match jM (push p.ks r.i)with
    |false=>none
    |true=>match jM (push (push p.ks r.i) q.i)with|false=>none|true=>mk l s0.at_ 2 t p.v (push (push p.ks r.i) q.i).l s8)
   |(false,s6)=>match okB s6 with
    |true=>(if s6.ns.length=s6.n/\s6.n < 1000000/\okF l (w (s6.at_ - 1)) then match jM p.ks with
     |false=>none
     |true=>match cl l go .block {s6 with n:=s6.n+1,ns:=s6.ns++[N.D ⟨12,[],0,[]⟩ (l.getD (w (s6.at_ - 1)).toNat default).e (l.getD (w (s6.at_ - 1)).toNat default).e]}with
     |none=>none
     |some (q,s8)=>match jM (push p.ks (w (((s6.n+1:Nat):Int) - 1)))with
     |false=>none
     |true=>match jM (push (push p.ks (w (((s6.n+1:Nat):Int) - 1))) q.i)with|false=>none|true=>mk l s0.at_ 2 t p.v (push (push p.ks (w (((s6.n+1:Nat):Int) - 1))) q.i).l s8
     else none)
    |false=>match cl l go .block s6 with
     |none=>none
     |some (q,s8)=>match jM p.ks with
     |false=>none
     |true=>match jM (push p.ks q.i)with|false=>none|true=>mk l s0.at_ 2 t p.v (push p.ks q.i).l s8
 | .fields k ks,s=>match okB s with
   |false=>some (rK ks,s)
   |true=>match dj l s [125] with
   |true=>some (rK ks,s)
   |false=>match decide (k=3)with
   |true=>(match cl l go .field s with
    |none=>none
    |some (r,s1)=>match jM ks with
    |false=>none
    |true=>match eu l [44] s1 with
    |(true,s2)=>go (.fields k (push ks r.i)) s2
    |(false,s2)=>some (rK (push ks r.i),s2))
   |false=>match cl l go .variant s with
    |none=>none
    |some (r,s1)=>match jM ks with
    |false=>none
    |true=>match eu l [44] s1 with
    |(true,s2)=>go (.fields k (push ks r.i)) s2
    |(false,s2)=>some (rK (push ks r.i),s2)
 | .parts k,s0=>match fb l (dI s0)with
   |false=>none
   |true=>match ow l (dI s0)with
   |(t,s1)=>match fN l [123] s1 with
   |(_,s2)=>match cl l go (.fields k K.o) s2 with
   |none=>none
   |some (p,s3)=>match fN l [125] s3 with
   |(_,s4)=>match jM p.ks with|false=>none|true=>mk l s0.at_ k t 0 p.ks.l s4
 | .item,s=>match dj l s [115,116,114,117,99,116] with
   |true=>cl l go (.parts 3) s
   |false=>match dj l s [101,110,117,109] with
   |true=>cl l go (.parts 4) s
   |false=>cl l go .function s
 | .items ks,s=>match okB s with
   |false=>some (rK ks,s)
   |true=>match(!decide ((now l s).k=5))with
   |false=>some (rK ks,s)
   |true=>match cl l go .item s with
   |none=>none
   |some (r,s1)=>match jM ks with
   |false=>none
   |true=>go (.items (push ks r.i)) s1
 | .stmts ks,s=>match okB s with
   |false=>some (rK ks,s)
   |true=>match dj l s [125] with
   |true=>some (rK ks,s)
   |false=>match cl l go .stmt s with
   |none=>none
   |some (r,s1)=>match jM ks with
   |false=>none
   |true=>match r.b with
   |true=>some (⟨0,true,(push ks r.i),1⟩,s1)
   |false=>go (.stmts (push ks r.i)) s1
 | .block,s0=>match Hg l 98 s0 with
   |(false,s1)=>mk l s0.at_ 20 [] 0 [] (down s1)
   |(true,s1)=>match fN l [123] s1 with
   |(_,s2)=>match cl l go (.stmts K.o) s2 with
   |none=>none
   |some (p,s3)=>match fN l [125] s3 with
   |(_,s4)=>match jM p.ks with|false=>none|true=>mk l s0.at_ 20 [] p.v p.ks.l (down s4)
 | .stmt,s0=>match dj l s0 [108,101,116] with
   |true=>(match cl l go (.let_ s0.at_) s0 with|none=>none|some (r,s1)=>some (rI r.i,s1))
   |false=>match eu l [119,104,105,108,101] s0 with
   |(true,s1)=>(match cl l go (.expr true) s1 with
    |none=>none
    |some (x,s2)=>match cl l go .block s2 with
    |none=>none
    |some (y,s3)=>mk l s0.at_ 24 [] 0 (two x.i y.i) s3)
   |(false,s1)=>match eu l [114,101,116,117,114,110] s1 with
   |(true,s2)=>(match dj l s2 [59] with
    |true=>N7 l s0.at_ ⟨25,[],0,[]⟩ s2
    |false=>match cl l go (.expr false) s2 with
     |none=>none
     |some (x,s3)=>N7 l s0.at_ ⟨25,[],0,one x.i⟩ s3)
   |(false,s2)=>match eu l [98,114,101,97,107] s2 with
   |(true,s3)=>N7 l s0.at_ ⟨26,[],0,[]⟩ s3
   |(false,s3)=>match eu l [99,111,110,116,105,110,117,101] s3 with
   |(true,s4)=>N7 l s0.at_ ⟨27,[],0,[]⟩ s4
   |(false,s4)=>match dj l s4 [105,102] with
   |true=>cl l go (.blocky s0.at_) s4
   |false=>match dj l s4 [109,97,116,99,104] with
   |true=>cl l go (.blocky s0.at_) s4
   |false=>match dj l s4 [123] with
   |true=>cl l go (.blocky s0.at_) s4
   |false=>match cl l go (.expr false) s4 with
   |none=>none
   |some (x,s5)=>match eu l [61] s5 with
   |(true,s6)=>(match cl l go (.expr false) s6 with
    |none=>none
    |some (y,s7)=>N7 l s0.at_ ⟨23,[],0,two x.i y.i⟩ s7)
   |(false,s6)=>match dj l s6 [125] with
   |true=>some (⟨x.i,true,K.o,0⟩,s6)
   |false=>N7 l s0.at_ ⟨22,[],0,one x.i⟩ s6
 | .let_ fr,s0=>match fN l [108,101,116] s0 with
   |(_,s1)=>match eu l [109,117,116] s1 with
   |(m,s2)=>match ow l s2 with
   |(t,s3)=>match eu l [58] s3 with
   |(true,s4)=>(match cl l go .typ s4 with
    |none=>none
    |some (x,s5)=>match fN l [61] s5 with
    |(_,s6)=>match cl l go (.expr false) s6 with
    |none=>none
    |some (y,s7)=>match m with
     |true=>Bq l fr ⟨21,t,1,two x.i y.i⟩ s7
     |false=>Bq l fr ⟨21,t,0,two x.i y.i⟩ s7)
   |(false,s4)=>match fN l [61] s4 with
    |(_,s6)=>match cl l go (.expr false) s6 with
    |none=>none
    |some (y,s7)=>match m with
     |true=>Bq l fr ⟨21,t,1,one y.i⟩ s7
     |false=>Bq l fr ⟨21,t,0,one y.i⟩ s7
 | .blocky fr,s0=>match cl l go .branch s0 with
   |none=>none
   |some (k,s1)=>match dj l s1 [125] with
   |true=>some (⟨k.i,true,K.o,0⟩,s1)
   |false=>match fA l fr ⟨22,[],0,one k.i⟩ s1 with
   |none=>none
   |some (i,s2)=>match eu l [59] s2 with
   |(_,s3)=>some (rI i,s3)
 | .branch,s=>match dj l s [105,102] with
   |true=>cl l go .cond s
   |false=>match dj l s [109,97,116,99,104] with
   |true=>cl l go .match_ s
   |false=>cl l go .block s
 | .cond,s0=>match fN l [105,102] s0 with
   |(_,s1)=>match cl l go (.expr true) s1 with
   |none=>none
   |some (x,s2)=>match cl l go .block s2 with
   |none=>none
   |some (y,s3)=>match eu l [101,108,115,101] s3 with
   |(false,s4)=>mk l s0.at_ 45 [] 0 (two x.i y.i) s4
   |(true,s4)=>match dj l s4 [105,102] with
    |false=>(match cl l go .block s4 with
     |none=>none
     |some (z,s5)=>mk l s0.at_ 45 [] 0 [.int .i64 x.i,.int .i64 y.i,.int .i64 z.i] s5)
    |true=>match Hg l 101 s4 with
     |(false,s5)=>mk l s0.at_ 45 [] 0 [.int .i64 x.i,.int .i64 y.i,.int .i64 0] (down s5)
     |(true,s5)=>match cl l go .cond s5 with
      |none=>none
      |some (z,s6)=>mk l s0.at_ 45 [] 0 [.int .i64 x.i,.int .i64 y.i,.int .i64 z.i] (down s6)
 | .match_,s0=>match fN l [109,97,116,99,104] s0 with
   |(_,s1)=>match cl l go (.expr true) s1 with
   |none=>none
   |some (x,s2)=>match fN l [123] s2 with
   |(_,s3)=>match cl l go (.arms ⟨one x.i,1⟩) s3 with
   |none=>none
   |some (p,s4)=>match fN l [125] s4 with
   |(_,s5)=>match jM p.ks with|false=>none|true=>mk l s0.at_ 46 [] 0 p.ks.l s5
 | .arms ks,s=>match okB s with
   |false=>some (rK ks,s)
   |true=>match dj l s [125] with
   |true=>some (rK ks,s)
   |false=>match cl l go .arm s with
   |none=>none
   |some (r,s1)=>match jM ks with
   |false=>none
   |true=>go (.arms (push ks r.i)) s1
 | .arm,s0=>match cl l go .pattern s0 with
   |none=>none
   |some (x,s1)=>match fN l [61,62] s1 with
   |(_,s2)=>match dj l s2 [123] with
   |true=>(match cl l go .block s2 with
    |none=>none
    |some (y,s3)=>match fA l s0.at_ ⟨47,[],0,two x.i y.i⟩ s3 with
    |none=>none
    |some (i,s4)=>match eu l [44] s4 with
    |(_,s5)=>some (rI i,s5))
   |false=>match cl l go (.expr false) s2 with
    |none=>none
    |some (y,s3)=>match fA l s0.at_ ⟨47,[],0,two x.i y.i⟩ s3 with
    |none=>none
    |some (i,s4)=>match dj l s4 [125] with
    |true=>some (rI i,s4)
    |false=>match fN l [44] s4 with
    |(_,s5)=>some (rI i,s5)
 | .pattern,s=>deeper l go 112 (.patterned s.at_) s
 | .patterned fr,s=>match eu l [95] s with
   |(true,s1)=>mk l fr 50 [] 0 [] s1
   |(false,s1)=>match eu l [116,114,117,101] s1 with
   |(true,s2)=>mk l fr 53 [] 1 [] s2
   |(false,s2)=>match eu l [102,97,108,115,101] s2 with
   |(true,s3)=>mk l fr 53 [] 0 [] s3
   |(false,s3)=>match dj l s3 [45] with
   |true=>numS fr s3
   |false=>match decide ((now l s3).k=3)with
   |true=>numS fr s3
   |false=>match ow l s3 with
   |(t,s4)=>match eu l [58,58] s4 with
   |(false,s5)=>mk l fr 51 t 0 [] s5
   |(true,s5)=>match ow l s5 with
   |(u,s6)=>match eu l [40] s6 with
   |(false,s7)=>mk l fr 54 (t++[58,58]++u) 0 [] s7
   |(true,s7)=>match cl l go .pattern s7 with
   |none=>none
   |some (r,s8)=>match fN l [41] s8 with
   |(_,s9)=>mk l fr 54 (t++[58,58]++u) 0 (one r.i) s9
 | .expr bare,s=>deeper l go 101 (.row 0 bare) s
 | .row r bare,s=>match decide (r=5)with
   |true=>cl l go (.prefix_ bare) s
   |false=>match cl l go (.row (w (r+1)) bare) s with
   |none=>none
   |some (a,s1)=>match cl l go (.rows r bare s.at_ a.i) s1 with
   |none=>none
   |some (a,s2)=>some (rI a.i,s2)
 | .rows r bare fr a,s=>match okB s with
   |false=>some (rI a,s)
   |true=>match(!decide (nB l r s=[]))with
   |false=>some (rI a,s)
   |true=>match fb l (dI s)with
   |false=>none
   |true=>match cl l go (.row (w (r+1)) bare) (dI s)with
   |none=>none
   |some (b,s1)=>match fA l fr ⟨38,nB l r s,0,two a b.i⟩ s1 with
   |none=>none
   |some (i,s2)=>match decide (r=2)with
   |true=>some (rI i,s2)
   |false=>go (.rows r bare fr i) s2
 | .operand bare,s=>deeper l go 101 (.prefix_ bare) s
 | .prefix_ bare,s=>match eu l [45] s with
   |(true,s1)=>(match cl l go (.operand bare) s1 with|none=>none|some (r,s2)=>mk l s.at_ 39 [] 0 (one r.i) s2)
   |(false,s1)=>match eu l [33] s1 with
   |(true,s2)=>(match cl l go (.operand bare) s2 with|none=>none|some (r,s3)=>mk l s.at_ 40 [] 0 (one r.i) s3)
   |(false,s2)=>match eu l [42] s2 with
   |(true,s3)=>(match cl l go (.operand bare) s3 with|none=>none|some (r,s4)=>mk l s.at_ 42 [] 0 (one r.i) s4)
   |(false,s3)=>match eu l [38] s3 with
   |(true,s4)=>(match eu l [109,117,116] s4 with
    |(true,s5)=>(match cl l go (.operand bare) s5 with|none=>none|some (r,s6)=>mk l s.at_ 43 [] 1 (one r.i) s6)
    |(false,s5)=>match cl l go (.operand bare) s5 with|none=>none|some (r,s6)=>mk l s.at_ 43 [] 0 (one r.i) s6)
   |(false,s4)=>cl l go (.postfix_ bare) s4
 | .postfix_ bare,s=>match cl l go (.primary bare) s with
   |none=>none
   |some (a,s1)=>match cl l go (.gets s.at_ a.i) s1 with
   |none=>none
   |some (a,s2)=>some (rI a.i,s2)
 | .gets fr a,s=>match eu l [46] s with
   |(false,s1)=>some (rI a,s1)
   |(true,s1)=>match ow l s1 with
   |(t,s2)=>match fA l fr ⟨41,t,0,one a⟩ s2 with
   |none=>none
   |some (i,s3)=>go (.gets fr i) s3
 | .primary bare,s=>match okB s with
   |false=>none
   |true=>match decide ((now l s).k=3)with
   |true=>(match fb l (dI s)with|false=>none|true=>mk l s.at_ 30 [] (now l s).v [] (dI s))
   |false=>match eu l [116,114,117,101] s with
   |(true,s1)=>mk l s.at_ 31 [] 1 [] s1
   |(false,s1)=>match eu l [102,97,108,115,101] s1 with
   |(true,s2)=>mk l s.at_ 31 [] 0 [] s2
   |(false,s2)=>match eu l [40] s2 with
   |(true,s3)=>(match eu l [41] s3 with
    |(true,s4)=>mk l s.at_ 32 [] 0 [] s4
    |(false,s4)=>match cl l go (.expr false) s4 with
     |none=>none
     |some (r,s5)=>match fN l [41] s5 with|(_,s6)=>some (rI r.i,s6))
   |(false,s3)=>match eu l [66,111,120] s3 with
   |(true,s4)=>(match fN l [58,58] s4 with
    |(_,s5)=>match okB s5 with
     |true=>(match(!decide ((now l s5).k=1))with
      |true=>newS s.at_ (y8 l 120 s5)
      |false=>match(!decide ((now l s5).t=[110,101,119]))with
       |true=>newS s.at_ (y8 l 120 s5)
       |false=>newS s.at_ s5)
     |false=>newS s.at_ s5)
   |(false,s4)=>match dj l s4 [105,102] with
   |true=>cl l go .branch s4
   |false=>match dj l s4 [109,97,116,99,104] with
   |true=>cl l go .branch s4
   |false=>match dj l s4 [123] with
   |true=>cl l go .branch s4
   |false=>cl l go (.named s.at_ bare) s4
 | .named fr bare,s=>match ow l s with
   |(t,s1)=>match eu l [40] s1 with
   |(true,s2)=>(match cl l go (.args K.o) s2 with
    |none=>none
    |some (p,s3)=>match fN l [41] s3 with
    |(_,s4)=>match jM p.ks with|false=>none|true=>mk l fr 34 t 0 p.ks.l s4)
   |(false,s2)=>match bare with
    |true=>pickS fr t s2
    |false=>match eu l [123] s2 with
     |(true,s3)=>(match cl l go (.inits K.o) s3 with
      |none=>none
      |some (p,s4)=>match fN l [125] s4 with
      |(_,s5)=>match jM p.ks with|false=>none|true=>mk l fr 35 t 0 p.ks.l s5)
     |(false,s3)=>pickS fr t s3
 | .args ks,s=>match okB s with
   |false=>some (rK ks,s)
   |true=>match dj l s [41] with
   |true=>some (rK ks,s)
   |false=>match cl l go (.expr false) s with
   |none=>none
   |some (r,s1)=>match jM ks with
   |false=>none
   |true=>match eu l [44] s1 with
   |(true,s2)=>go (.args (push ks r.i)) s2
   |(false,s2)=>some (rK (push ks r.i),s2)
 | .inits ks,s=>match okB s with
   |false=>some (rK ks,s)
   |true=>match dj l s [125] with
   |true=>some (rK ks,s)
   |false=>match cl l go .init s with
   |none=>none
   |some (r,s1)=>match jM ks with
   |false=>none
   |true=>match eu l [44] s1 with
   |(true,s2)=>go (.inits (push ks r.i)) s2
   |(false,s2)=>some (rK (push ks r.i),s2)
 | .init,s=>match ow l s with
   |(t,s1)=>match fN l [58] s1 with
   |(_,s2)=>match cl l go (.expr false) s2 with
   |none=>none
   |some (r,s3)=>mk l s.at_ 36 t 0 (one r.i) s3
where
 numS (fr:Int) (s3:PS):M:=match eu l [45] s3 with
  |(m,s4)=>match(!decide ((now l s4).k=3))with
  |true=>some (rI 0,y8 l 120 s4)
  |false=>match fb l (dI s4)with
  |false=>none
  |true=>match m with
   |true=>mk l fr 52 [] (w (0 - (now l s4).v)) [] (dI s4)
   |false=>mk l fr 52 [] (now l s4).v [] (dI s4)
 newS (fr:Int) (s5:PS):M:=match ow l s5 with
  |(_,s6)=>match fN l [40] s6 with
  |(_,s7)=>match cl l go (.expr false) s7 with
  |none=>none
  |some (r,s8)=>match fN l [41] s8 with
  |(_,s9)=>mk l fr 44 [] 0 (one r.i) s9
 pickS (fr:Int) (t:S) (s2:PS):M:=match eu l [58,58] s2 with
  |(false,s3)=>mk l fr 33 t 0 [] s3
  |(true,s3)=>match ow l s3 with
  |(u,s4)=>match eu l [40] s4 with
  |(false,s5)=>mk l fr 37 (t++[58,58]++u) 0 [] s5
  |(true,s5)=>match cl l go (.expr false) s5 with
  |none=>none
  |some (r,s6)=>match fN l [41] s6 with
  |(_,s7)=>mk l fr 37 (t++[58,58]++u) 0 (one r.i) s7
end
def go (l:List TokQ):Nat->Q->PS->M
 |0=>fun _ _=>none
 |n+1=>step l (go l n)
end Go.Vm.Pa
namespace Go.Vm.Ite
open Go.Vm.Lex (TokQ)
open Go.Vm.Pa hiding go
def PR (s:PS):Ob:= .row 6 s.ns
theorem jQ {l:List TokQ} {s:PS} (h:fb l s=true):0<=s.at_/\s.at_ < l.length:=by simpa [fb] using h
theorem a6v {l:List TokQ} {n:Int} (h:okF l n=true):0<=n/\n < l.length:=by simpa [okF] using h
theorem RQ {l:List TokQ} {n:Int} (h:0<=n/\n < l.length):0<=n/\(l.map jL)[n.toNat]? =some (jL (l.getD n.toNat default)):=by
 refine⟨h.1,?_⟩;have:n.toNat < l.length:=om;rw[bE,ae this];simp[av,ae this]
end Go.Vm.Ite
namespace Go.Vm.Pa
open Go.Vm.Lex (TokQ)
open Go.Vm.Tp (Nd oE)
structure TOk (l:List TokQ):Prop where
 len:l.length<=65537
 txt:∀ i,(l.getD i default).t.length<=65536
 val:∀ i,oE (l.getD i default).v
 pos:∀ i,(l.getD i default).f<=65536/\(l.getD i default).e<=65536
 last:∀ i,i < l.length->(l.getD i default).k≠5->i+1 < l.length
structure b1d (n:Nat) (x:Nd):Prop where
 kid:∀ k∈x.kids,0<=k/\k.toNat<=n
 kl:x.kids.length<=1000000
 tl:x.t.length<=1000000
 v:oE x.v
 f:oE x.f
 e:oE x.e
def b1b (s:PS):Prop:=s.ns.length=s.n/\∃ t:List Nd,s.ns=t.map Nd.D/\∀ x∈t,b1d s.n x
def a0u (m:Nat) (ks:List D) (n:Nat):Prop:=ks.length=n/\∃ il:List Int,ks=il.map (D.int .i64)/\∀ k∈il,0<=k/\k.toNat<=m
def cQ:Q->Nat
 | .typ| .typed _| .param| .field| .variant| .params _ _| .fields _ _| .block| .let_ _| .match_| .pattern| .patterned _| .named _ _| .inits _| .init=>1
 | .function| .item| .items _| .branch| .cond| .expr _| .row _ _| .operand _| .prefix_ _| .postfix_ _| .primary _| .args _=>2
 | .stmts _| .stmt| .blocky _| .arms _| .arm=>3
 | .parts _| .rows .. | .gets .. =>0
def dQ:Q->Nat
 | .typ| .typed _| .param| .field| .variant| .params _ _| .fields _ _| .parts _| .pattern| .patterned _=>12
 | .function| .item| .stmt| .blocky _| .arm=>10
 | .items _=>8
 | .stmts _| .arms _=>7
 |_=>11
def nQ:Q->Nat
 | .block=>1
 |_=>0
def pQ:Q->Nat
 | .params _ _| .fields _ _| .items _| .stmts _| .arms _| .rows .. | .gets .. | .args _| .inits _=>0
 |_=>1
def rQ:Q->Int
 | .typ| .params _ _| .fields _ _| .item| .branch| .inits _| .pattern=>1
 | .items _| .blocky _| .primary _| .arm=>2
 | .postfix_ _| .arms _=>3
 | .prefix_ _=>4
 | .operand _=>5
 | .row r _=>10 - r
 | .expr _=>11
 | .stmt| .args _=>12
 | .stmts _=>13
 |_=>0
def oQ:Q->Nat
 | .typ| .block| .pattern| .expr _| .operand _| .params _ _| .fields _ _| .items _| .stmts _| .arms _| .rows .. | .gets .. | .args _| .inits _=>0
 |_=>1
def Ext (l:List TokQ) (s:PS):Q->Prop
 | .typed fr| .let_ fr| .blocky fr| .patterned fr| .named fr _=>0<=fr/\fr<=s.at_
 | .params ks v=>(a0u s.n ks.l ks.n/\(ks.n:Int)<=s.at_+3/\(s.bc=0->(ks.n:Int)<=s.at_+2))/\oE v
 | .fields _ ks| .items ks| .stmts ks| .arms ks| .args ks| .inits ks=>a0u s.n ks.l ks.n/\(ks.n:Int)<=s.at_+3/\(s.bc=0->(ks.n:Int)<=s.at_+2)
 | .parts _=>(now l s).k≠5
 | .row r _=>0<=r/\r<=5
 | .rows r _ fr a=>(0<=r/\r<=4)/\(0<=fr/\fr<=s.at_)/\0<=a/\a.toNat<=s.n
 | .gets fr a=>(0<=fr/\fr<=s.at_)/\0<=a/\a.toNat<=s.n
 |_=>True
structure Pre (l:List TokQ) (q:Q) (s:PS):Prop where
 lo:0<=s.at_
 hi:s.at_ < l.length
 ns:b1b s
 bd:(s.bc=0->(s.n:Int)+15* (l.length - s.at_)+cQ q<=999990)/\(s.bc≠0->(s.n:Int)+15* (l.length - s.at_)+nQ q<=999990)
 ok:oQ q=1->s.bc=0
 ex:Ext l s q
def Num (c d n p:Nat) (s s1:PS):Prop:=s.at_<=s1.at_/\s.n<=s1.n/\(s.bc≠0->s1.bc≠0/\s1.at_=s.at_/\s1.n<=s.n+n)/\(s.bc=0->p=1->s.at_ < s1.at_\/s1.bc≠0)/\(s.bc=0->(s1.at_=s.at_/\s1.n<=s.n+c)\/(s.at_ < s1.at_/\(s1.n:Int)+d<=s.n+15* (s1.at_ - s.at_)))
structure Post (l:List TokQ) (q:Q) (s:PS) (r:R) (s1:PS):Prop where
 num:Num (cQ q) (dQ q) (nQ q) (pQ q) s s1
 hi:s1.at_ < l.length
 ns:b1b s1
 ri:0<=r.i/\r.i.toNat<=s1.n
 rk:a0u s1.n r.ks.l r.ks.n/\(r.ks.n:Int)<=s1.at_+3
 rv:oE r.v
def G (l:List TokQ) (q:Q) (s:PS) (x:M):Prop:=∃ r s1,x=some (r,s1)/\Post l q s r s1
def Mu (l:List TokQ) (q:Q) (s:PS) (n:Nat):Prop:=(s.bc=0->64* ((l.length:Int) - s.at_)+1+rQ q < n)/\(s.bc≠0->64* ((l.length:Int) - s.at_) < n)
def IHt (l:List TokQ) (n:Nat):Prop:=∀ q s,Pre l q s->Mu l q s n->G l q s (go l n q s)
inductive Pr where
 |ret (r:R)
 |dead
 |take (x:S) (k:Bool->Pr)
 |need (x:S) (k:Pr)
 |name (k:S->Pr)
 |is (x:S) (k:Bool->Pr)
 |ok (k:Bool->Pr)
 |kind (c:Int) (k:Bool->Pr)
 |text (x:S) (k:Bool->Pr)
 |val (k:Int->Pr)
 |sign (r:Int) (k:S->Pr)
 |into (c:Int) (k:Bool->Pr)
 |down (k:Pr)
 |dI (k:Pr)
 |node (fr:Int) (n:N) (k:Int->Pr)
 |unit (k:Int->Pr)
 |fail (k:Pr)
 |pos (k:Int->Pr)
 |call (q:Q) (k:R->Pr)
 |tail (q:Q)
section
variable (l:List TokQ) (go:Q->PS->M)
def ly (s:PS):Option (Int×PS):=
 if s.ns.length=s.n/\s.n < 1000000/\okF l (w (s.at_ - 1)) then
  some (w (((s.n+1:Nat):Int) - 1),{s with n:=s.n+1,ns:=s.ns++[N.D ⟨12,[],0,[]⟩ (l.getD (w (s.at_ - 1)).toNat default).e (l.getD (w (s.at_ - 1)).toNat default).e]})
 else none
def th:Pr->PS->M
 | .ret r,s=>some (r,s)
 | .dead,_=>none
 | .take x k,s=>th (k (eu l x s).1) (eu l x s).2
 | .need x k,s=>th k (fN l x s).2
 | .name k,s=>th (k (ow l s).1) (ow l s).2
 | .is x k,s=>th (k (dj l s x)) s
 | .ok k,s=>th (k (okB s)) s
 | .kind c k,s=>th (k (decide ((now l s).k=c))) s
 | .text x k,s=>th (k (decide ((now l s).t=x))) s
 | .val k,s=>th (k (now l s).v) s
 | .sign r k,s=>th (k (nB l r s)) s
 | .into c k,s=>th (k (Hg l c s).1) (Hg l c s).2
 | .down k,s=>th k (down s)
 | .dI k,s=>match fb l (dI s)with|true=>th k (dI s)|false=>none
 | .node fr n k,s=>match fA l fr n s with|some (i,s1)=>th (k i) s1|none=>none
 | .unit k,s=>match ly l s with|some (i,s1)=>th (k i) s1|none=>none
 | .fail k,s=>th k (y8 l 120 s)
 | .pos k,s=>th (k s.at_) s
 | .call q k,s=>match cl l go q s with|some (r,s1)=>th (k r) s1|none=>none
 | .tail q,s=>go q s
end
def guard (b:Bool) (p:Pr):Pr:=match b with|true=>p|false=> .dead
def kN (fr:Int) (k:Int) (t:S) (v:Int) (ks:List D):Pr:= .node fr ⟨k,t,v,ks⟩ fun i=> .ret (rI i)
def endP (fr:Int) (n:N):Pr:= .node fr n fun i=> .need [59] (.ret (rI i))
def xD (c:Int) (q:Q):Pr:= .into c fun b=>match b with
  |false=> .down (.ret (rI 0))
  |true=> .call q fun a=> .down (.ret (rI a.i))
def QP (fr:Int):Pr:= .take [45] fun m=> .kind 3 fun b=>match b with
  |false=> .fail (.ret (rI 0))
  |true=> .val fun v=> .dI (match m with
   |true=>kN fr 52 [] (w (0 - v)) []
   |false=>kN fr 52 [] v [])
def newP (fr:Int):Pr:= .name fun _=> .need [40] (.call (.expr false) fun r=> .need [41] (kN fr 44 [] 0 (one r.i)))
def Lo (fr:Int) (t:S):Pr:= .take [58,58] fun b=>match b with
  |false=>kN fr 33 t 0 []
  |true=> .name fun u=> .take [40] fun b=>match b with
   |false=>kN fr 37 (t++[58,58]++u) 0 []
   |true=> .call (.expr false) fun r=> .need [41] (kN fr 37 (t++[58,58]++u) 0 (one r.i))
def rowP (x:S) (q:Q) (ks:K) (k:K->Q):Pr:= .ok fun b=>match b with
  |false=> .ret (rK ks)
  |true=> .is x fun b=>match b with
   |true=> .ret (rK ks)
   |false=> .call q fun r=>guard (jM ks) (.take [44] fun b=>match b with
    |true=> .tail (k (push ks r.i))
    |false=> .ret (rK (push ks r.i)))
def prog:Q->Pr
 | .typ=> .pos fun p=>xD 116 (.typed p)
 | .typed fr=> .take [105,54,52] fun b=>match b with
   |true=>kN fr 10 [] 0 []
   |false=> .take [98,111,111,108] fun b=>match b with
   |true=>kN fr 11 [] 0 []
   |false=> .take [40] fun b=>match b with
   |true=> .need [41] (kN fr 12 [] 0 [])
   |false=> .take [38] fun b=>match b with
   |true=> .take [109,117,116] fun b=>match b with
    |true=> .call .typ fun r=>kN fr 15 [] 0 (one r.i)
    |false=> .call .typ fun r=>kN fr 14 [] 0 (one r.i)
   |false=> .take [66,111,120] fun b=>match b with
   |true=> .need [60] (.call .typ fun r=> .need [62] (kN fr 16 [] 0 (one r.i)))
   |false=> .name fun t=>kN fr 13 t 0 []
 | .param=> .pos fun p=> .take [109,117,116] fun m=> .name fun t=> .need [58] (.call .typ fun r=>match m with
   |true=>kN p 7 t 1 (one r.i)
   |false=>kN p 7 t 0 (one r.i))
 | .field=> .pos fun p=> .name fun t=> .need [58] (.call .typ fun r=>kN p 5 t 0 (one r.i))
 | .variant=> .pos fun p=> .name fun t=> .take [40] fun b=>match b with
   |true=> .call .typ fun r=> .need [41] (kN p 6 t 0 (one r.i))
   |false=>kN p 6 t 0 []
 | .params ks v=> .ok fun b=>match b with
   |false=> .ret ⟨0,false,ks,v⟩
   |true=> .is [41] fun b=>match b with
   |true=> .ret ⟨0,false,ks,v⟩
   |false=> .call .param fun r=>guard (jM ks) (.take [44] fun b=>match b with
    |true=> .tail (.params (push ks r.i) (w (v+1)))
    |false=> .ret ⟨0,false,push ks r.i,w (v+1)⟩)
 | .function=> .pos fun p0=> .need [102,110] (.name fun t=> .need [40] (.call (.params K.o 0) fun p=> .need [41] (.take [45,62] fun b=>match b with
   |true=> .call .typ fun r=>guard (jM p.ks) (.call .block fun q=>guard (jM (push p.ks r.i)) (guard (jM (push (push p.ks r.i) q.i)) (kN p0 2 t p.v (push (push p.ks r.i) q.i).l)))
   |false=> .ok fun b=>match b with
    |true=> .unit fun i=>guard (jM p.ks) (.call .block fun q=>guard (jM (push p.ks i)) (guard (jM (push (push p.ks i) q.i)) (kN p0 2 t p.v (push (push p.ks i) q.i).l)))
    |false=> .call .block fun q=>guard (jM p.ks) (guard (jM (push p.ks q.i)) (kN p0 2 t p.v (push p.ks q.i).l)))))
 | .fields k ks=>match decide (k=3)with
   |true=>rowP [125] .field ks (.fields k)
   |false=>rowP [125] .variant ks (.fields k)
 | .parts k=> .pos fun p0=> .dI (.name fun t=> .need [123] (.call (.fields k K.o) fun p=> .need [125] (guard (jM p.ks) (kN p0 k t 0 p.ks.l))))
 | .item=> .is [115,116,114,117,99,116] fun b=>match b with
   |true=> .call (.parts 3) .ret
   |false=> .is [101,110,117,109] fun b=>match b with
   |true=> .call (.parts 4) .ret
   |false=> .call .function .ret
 | .items ks=> .ok fun b=>match b with
   |false=> .ret (rK ks)
   |true=> .kind 5 fun b=>match b with
   |true=> .ret (rK ks)
   |false=> .call .item fun r=>guard (jM ks) (.tail (.items (push ks r.i)))
 | .stmts ks=> .ok fun b=>match b with
   |false=> .ret (rK ks)
   |true=> .is [125] fun b=>match b with
   |true=> .ret (rK ks)
   |false=> .call .stmt fun r=>guard (jM ks) (match r.b with
    |true=> .ret ⟨0,true,push ks r.i,1⟩
    |false=> .tail (.stmts (push ks r.i)))
 | .block=> .pos fun p0=> .into 98 fun b=>match b with
   |false=> .down (kN p0 20 [] 0 [])
   |true=> .need [123] (.call (.stmts K.o) fun p=> .need [125] (guard (jM p.ks) (.down (kN p0 20 [] p.v p.ks.l))))
 | .stmt=> .pos fun p0=> .is [108,101,116] fun b=>match b with
   |true=> .call (.let_ p0) fun r=> .ret (rI r.i)
   |false=> .take [119,104,105,108,101] fun b=>match b with
   |true=> .call (.expr true) fun x=> .call .block fun y=>kN p0 24 [] 0 (two x.i y.i)
   |false=> .take [114,101,116,117,114,110] fun b=>match b with
   |true=> .is [59] fun b=>match b with
    |true=>endP p0 ⟨25,[],0,[]⟩
    |false=> .call (.expr false) fun x=>endP p0 ⟨25,[],0,one x.i⟩
   |false=> .take [98,114,101,97,107] fun b=>match b with
   |true=>endP p0 ⟨26,[],0,[]⟩
   |false=> .take [99,111,110,116,105,110,117,101] fun b=>match b with
   |true=>endP p0 ⟨27,[],0,[]⟩
   |false=> .is [105,102] fun b=>match b with
   |true=> .call (.blocky p0) .ret
   |false=> .is [109,97,116,99,104] fun b=>match b with
   |true=> .call (.blocky p0) .ret
   |false=> .is [123] fun b=>match b with
   |true=> .call (.blocky p0) .ret
   |false=> .call (.expr false) fun x=> .take [61] fun b=>match b with
   |true=> .call (.expr false) fun y=>endP p0 ⟨23,[],0,two x.i y.i⟩
   |false=> .is [125] fun b=>match b with
   |true=> .ret ⟨x.i,true,K.o,0⟩
   |false=>endP p0 ⟨22,[],0,one x.i⟩
 | .let_ fr=> .need [108,101,116] (.take [109,117,116] fun m=> .name fun t=> .take [58] fun b=>match b with
   |true=> .call .typ fun x=> .need [61] (.call (.expr false) fun y=>match m with
    |true=>endP fr ⟨21,t,1,two x.i y.i⟩
    |false=>endP fr ⟨21,t,0,two x.i y.i⟩)
   |false=> .need [61] (.call (.expr false) fun y=>match m with
    |true=>endP fr ⟨21,t,1,one y.i⟩
    |false=>endP fr ⟨21,t,0,one y.i⟩))
 | .blocky fr=> .call .branch fun k=> .is [125] fun b=>match b with
   |true=> .ret ⟨k.i,true,K.o,0⟩
   |false=> .node fr ⟨22,[],0,one k.i⟩ fun i=> .take [59] fun _=> .ret (rI i)
 | .branch=> .is [105,102] fun b=>match b with
   |true=> .call .cond .ret
   |false=> .is [109,97,116,99,104] fun b=>match b with
   |true=> .call .match_ .ret
   |false=> .call .block .ret
 | .cond=> .pos fun p0=> .need [105,102] (.call (.expr true) fun x=> .call .block fun y=> .take [101,108,115,101] fun b=>match b with
   |false=>kN p0 45 [] 0 (two x.i y.i)
   |true=> .is [105,102] fun b=>match b with
    |false=> .call .block fun z=>kN p0 45 [] 0 [.int .i64 x.i,.int .i64 y.i,.int .i64 z.i]
    |true=> .into 101 fun b=>match b with
     |false=> .down (kN p0 45 [] 0 [.int .i64 x.i,.int .i64 y.i,.int .i64 0])
     |true=> .call .cond fun z=> .down (kN p0 45 [] 0 [.int .i64 x.i,.int .i64 y.i,.int .i64 z.i]))
 | .match_=> .pos fun p0=> .need [109,97,116,99,104] (.call (.expr true) fun x=> .need [123] (.call (.arms ⟨one x.i,1⟩) fun p=> .need [125] (guard (jM p.ks) (kN p0 46 [] 0 p.ks.l))))
 | .arms ks=> .ok fun b=>match b with
   |false=> .ret (rK ks)
   |true=> .is [125] fun b=>match b with
   |true=> .ret (rK ks)
   |false=> .call .arm fun r=>guard (jM ks) (.tail (.arms (push ks r.i)))
 | .arm=> .pos fun p0=> .call .pattern fun x=> .need [61,62] (.is [123] fun b=>match b with
   |true=> .call .block fun y=> .node p0 ⟨47,[],0,two x.i y.i⟩ fun i=> .take [44] fun _=> .ret (rI i)
   |false=> .call (.expr false) fun y=> .node p0 ⟨47,[],0,two x.i y.i⟩ fun i=> .is [125] fun b=>match b with
    |true=> .ret (rI i)
    |false=> .need [44] (.ret (rI i)))
 | .pattern=> .pos fun p=>xD 112 (.patterned p)
 | .patterned fr=> .take [95] fun b=>match b with
   |true=>kN fr 50 [] 0 []
   |false=> .take [116,114,117,101] fun b=>match b with
   |true=>kN fr 53 [] 1 []
   |false=> .take [102,97,108,115,101] fun b=>match b with
   |true=>kN fr 53 [] 0 []
   |false=> .is [45] fun b=>match b with
   |true=>QP fr
   |false=> .kind 3 fun b=>match b with
   |true=>QP fr
   |false=> .name fun t=> .take [58,58] fun b=>match b with
   |false=>kN fr 51 t 0 []
   |true=> .name fun u=> .take [40] fun b=>match b with
   |false=>kN fr 54 (t++[58,58]++u) 0 []
   |true=> .call .pattern fun r=> .need [41] (kN fr 54 (t++[58,58]++u) 0 (one r.i))
 | .expr bare=>xD 101 (.row 0 bare)
 | .row r bare=>match decide (r=5)with
   |true=> .call (.prefix_ bare) .ret
   |false=> .pos fun p=> .call (.row (w (r+1)) bare) fun a=> .call (.rows r bare p a.i) fun a=> .ret (rI a.i)
 | .rows r bare fr a=> .ok fun b=>match b with
   |false=> .ret (rI a)
   |true=> .sign r fun g=>match(!decide (g=[]))with
   |false=> .ret (rI a)
   |true=> .dI (.call (.row (w (r+1)) bare) fun b=> .node fr ⟨38,g,0,two a b.i⟩ fun i=>match decide (r=2)with
    |true=> .ret (rI i)
    |false=> .tail (.rows r bare fr i))
 | .operand bare=>xD 101 (.prefix_ bare)
 | .prefix_ bare=> .pos fun p=> .take [45] fun b=>match b with
   |true=> .call (.operand bare) fun r=>kN p 39 [] 0 (one r.i)
   |false=> .take [33] fun b=>match b with
   |true=> .call (.operand bare) fun r=>kN p 40 [] 0 (one r.i)
   |false=> .take [42] fun b=>match b with
   |true=> .call (.operand bare) fun r=>kN p 42 [] 0 (one r.i)
   |false=> .take [38] fun b=>match b with
   |true=> .take [109,117,116] fun b=>match b with
    |true=> .call (.operand bare) fun r=>kN p 43 [] 1 (one r.i)
    |false=> .call (.operand bare) fun r=>kN p 43 [] 0 (one r.i)
   |false=> .call (.postfix_ bare) .ret
 | .postfix_ bare=> .pos fun p=> .call (.primary bare) fun a=> .call (.gets p a.i) fun a=> .ret (rI a.i)
 | .gets fr a=> .take [46] fun b=>match b with
   |false=> .ret (rI a)
   |true=> .name fun t=> .node fr ⟨41,t,0,one a⟩ fun i=> .tail (.gets fr i)
 | .primary bare=> .ok fun b=>match b with
   |false=> .dead
   |true=> .pos fun p=> .kind 3 fun b=>match b with
   |true=> .val fun v=> .dI (kN p 30 [] v [])
   |false=> .take [116,114,117,101] fun b=>match b with
   |true=>kN p 31 [] 1 []
   |false=> .take [102,97,108,115,101] fun b=>match b with
   |true=>kN p 31 [] 0 []
   |false=> .take [40] fun b=>match b with
   |true=> .take [41] fun b=>match b with
    |true=>kN p 32 [] 0 []
    |false=> .call (.expr false) fun r=> .need [41] (.ret (rI r.i))
   |false=> .take [66,111,120] fun b=>match b with
   |true=> .need [58,58] (.ok fun b=>match b with
    |true=> .kind 1 fun b=>match b with
     |false=> .fail (newP p)
     |true=> .text [110,101,119] fun b=>match b with
      |false=> .fail (newP p)
      |true=>newP p
    |false=>newP p)
   |false=> .is [105,102] fun b=>match b with
   |true=> .call .branch .ret
   |false=> .is [109,97,116,99,104] fun b=>match b with
   |true=> .call .branch .ret
   |false=> .is [123] fun b=>match b with
   |true=> .call .branch .ret
   |false=> .call (.named p bare) .ret
 | .named fr bare=> .name fun t=> .take [40] fun b=>match b with
   |true=> .call (.args K.o) fun p=> .need [41] (guard (jM p.ks) (kN fr 34 t 0 p.ks.l))
   |false=>match bare with
    |true=>Lo fr t
    |false=> .take [123] fun b=>match b with
     |true=> .call (.inits K.o) fun p=> .need [125] (guard (jM p.ks) (kN fr 35 t 0 p.ks.l))
     |false=>Lo fr t
 | .args ks=>rowP [41] (.expr false) ks .args
 | .inits ks=>rowP [125] .init ks .inits
 | .init=> .pos fun p=> .name fun t=> .need [58] (.call (.expr false) fun r=>kN p 36 t 0 (one r.i))
inductive EX where
 |ok (r:R) (s:PS)
 |bad (c f e:Int)
section
variable (l:List TokQ) (go:Q->PS->Option EX)
def BM (c:Int) (s:PS):Option EX:=some (.bad c (now l s).f (now l s).e)
def aF:Pr->PS->Option EX
 | .ret r,s=>some (.ok r s)
 | .dead,_=>none
 | .take x k,s=>match dj l s x with|true=>aF (k true) (dI s)|false=>aF (k false) s
 | .need x k,s=>match dj l s x with|true=>aF k (dI s)|false=>BM l 120 s
 | .name k,s=>match decide ((now l s).k=1)with|true=>aF (k (now l s).t) (dI s)|false=>BM l 120 s
 | .is x k,s=>aF (k (dj l s x)) s
 | .ok k,s=>aF (k true) s
 | .kind c k,s=>aF (k (decide ((now l s).k=c))) s
 | .text x k,s=>aF (k (decide ((now l s).t=x))) s
 | .val k,s=>aF (k (now l s).v) s
 | .sign r k,s=>aF (k (nB l r s)) s
 | .into c k,s=>match dP l c s with
   |true=>(match decide (100<=s.deep)with|true=>BM l 121 s|false=>aF (k true) (jf s))
   |false=>BM l 120 s
 | .down k,s=>aF k (down s)
 | .dI k,s=>match fb l (dI s)with|true=>aF k (dI s)|false=>none
 | .node fr n k,s=>match fA l fr n s with|some (i,s1)=>aF (k i) s1|none=>none
 | .unit k,s=>match ly l s with|some (i,s1)=>aF (k i) s1|none=>none
 | .fail k,s=>BM l 120 s
 | .pos k,s=>aF (k s.at_) s
 | .call q k,s=>match go q s with|some (.ok r s1)=>(match fb l s1 with|true=>aF (k r) s1|false=>none)|x=>x
 | .tail q,s=>go q s
end
def cM (l:List TokQ):Nat->Q->PS->Option EX
 |0,_,_=>none
 |n+1,q,s=>aF l (cM l n) (prog q) s
section
variable {l:List TokQ}
theorem YM {s:PS} (h:s.bc=0):okB s=true:=by simp[okB,h]
end
end Go.Vm.Pa
