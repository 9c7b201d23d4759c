import Derived.Test.YtocpgkeiakjicaaGreatProg
import Derived.Test.YtocpgkeiakjicaaGreatVmRun
import Derived.Test.YtocpgkeiakjicaaGreatVmFn
import Derived.ProofKit
import Derived.LaidMore
import Derived.Stop.Joined
import Derived.Below
import Derived.Lib.ItoaNum
import Derived.Lib.Join
import Derived.Lib.Fields
import Derived.Sort.Grow
import Derived.Lib.LaidTab
import Derived.Deep.Draws
import Derived.Lib.Bytealg
import Derived.Lib.LastIndexByte
import Derived.Lib.ParseIntB
import Derived.Lib.Strings
import Derived.Lib.CutLaws
import Derived.Test.YtocpgkeiakjicaaGreatVmOps2
set_option maxRecDepth 100000
set_option linter.unusedVariables false
set_option linter.unusedSimpArgs false
set_option maxHeartbeats 0
namespace Go.Vm.Ite
open Go Go.Vm Go.Proofs
abbrev A0:Ann:=AA [] []
def Q5:Laid Tryz.prog A0 false Tryz.f5:=laid
abbrev F5:VFn:=Q5.F
def Q7:Laid Tryz.prog (AA [] [(4,[.bindrow 6 4 3])]) false Tryz.f7:=laid
abbrev F7:VFn:=Q7.F
def Q8:Laid Tryz.prog A0 false Tryz.f8:=laid
abbrev F8:VFn:=Q8.F
def Q10:Laid Tryz.prog (AA [(15,[2,3,5,6,10,67,68,69])] [(6,[.bindrow 2 5 1,.bindrow 2 5 2,.bindrow 5 5 3])]) false Tryz.f10:=laid
abbrev F10:VFn:=Q10.F
def Q11:Laid Tryz.prog A0 false Tryz.f11:=laid
abbrev F11:VFn:=Q11.F
def Q13:Laid Tryz.prog A0 false Tryz.f13:=laid
abbrev F13:VFn:=Q13.F
def Q14:Laid Tryz.prog A0 false Tryz.f14:=laid
abbrev F14:VFn:=Q14.F
def Q18:Laid Tryz.prog A0 true Tryz.f18:=laid
abbrev F18:VFn:=Q18.F
def Q19:Laid Tryz.prog (AA [(1,[0,4])] [(1000001,[.bindrow 1 4 3])]) false Tryz.f19:=laid
abbrev F19:VFn:=Q19.F
def Q20:Laid Tryz.prog A0 false Tryz.f20:=laid
abbrev F20:VFn:=Q20.F
def Q21:Laid Tryz.prog A0 false Tryz.f21:=laid
abbrev F21:VFn:=Q21.F
def Q24:Laid Tryz.prog (AA [(5,[1,28,29])] []) false Tryz.f24:=laid
abbrev F24:VFn:=Q24.F
def Q25:Laid Tryz.prog (AA [(3,[0,6,21,22,23]),(21,[0,6,8,11,21,22,23,114,115,116]),(30,[0,6,8,14,21,22,23,154,155,156]),(11,[0,6,8,18,21,22,23,59,60,61])] [(1000021,[.bindrow 2 11 1]),(1000030,[.bindrow 2 14 1]),(1000011,[.bindrow 2 18 1,.bindrow 1 18 2])]) false Tryz.f25:=laid
abbrev F25:VFn:=Q25.F
def Q26:Laid Tryz.prog A0 false Tryz.f26:=laid
abbrev F26:VFn:=Q26.F
def Q27:Laid Tryz.prog (AA [(3,[1,3,19,20,21]),(8,[1,3,35,36,37]),(13,[3,51,52,53])] []) true Tryz.f27:=laid
abbrev F27:VFn:=Q27.F
def Q28:Laid Tryz.prog (AA [(3,[0,4,5,6,19,20,21]),(17,[0,4,5,6,13,19,20,21,62,63,64])] []) false Tryz.f28:=laid
abbrev F28:VFn:=Q28.F
def Q29:Laid Tryz.prog (AA [(4,[0,4,5,6,23,24,25]),(11,[0,4,5,55,56,57])] [(3,[.newrow 1 6])]) false Tryz.f29:=laid
abbrev F29:VFn:=Q29.F
def Q30:Laid Tryz.prog (AA [(2,[0,1,4,13,14,15]),(10,[0,4,8,59,60,61])] []) false Tryz.f30:=laid
abbrev F30:VFn:=Q30.F
def Q31:Laid Tryz.prog A0 false Tryz.f31:=laid
abbrev F31:VFn:=Q31.F
def Q32:Laid Tryz.prog (AA [(4,[1,2,15,16,17])] []) false Tryz.f32:=laid
abbrev F32:VFn:=Q32.F
def Q33:Laid Tryz.prog A0 false Tryz.f33:=laid
abbrev F33:VFn:=Q33.F
def Q34:Laid Tryz.prog (AA [(4,[0,1,12,13])] []) false Tryz.f34:=laid
abbrev F34:VFn:=Q34.F
def Q35:Laid Tryz.prog (AA [(4,[1,2,15,16,17])] []) false Tryz.f35:=laid
abbrev F35:VFn:=Q35.F
def Q36:Laid Tryz.prog A0 false Tryz.f36:=laid
abbrev F36:VFn:=Q36.F
def Q37:Laid Tryz.prog (AA [(4,[1,2,15,16,17])] []) false Tryz.f37:=laid
abbrev F37:VFn:=Q37.F
def Q38:Laid Tryz.prog A0 false Tryz.f38:=laid
abbrev F38:VFn:=Q38.F
def Q39:Laid Tryz.prog (AA [(4,[0,1,12,13])] []) false Tryz.f39:=laid
abbrev F39:VFn:=Q39.F
def Q53:Laid Tryz.prog A0 false Tryz.f53:=laid
abbrev F53:VFn:=Q53.F
def Q56:Laid Tryz.prog (AA [(9,[1,2,3,4,8,13,48,49,50]),(18,[1,2,3,4,8,13,77,78,79])] []) false Tryz.f56:=laid
abbrev F56:VFn:=Q56.F
def Q59:Laid Tryz.prog (AA [(8,[0,3,5,6])] [(7,[.newrow 5 5])]) false Tryz.f59:=laid
abbrev F59:VFn:=Q59.F
def Q60:Laid Tryz.prog A0 false Tryz.f60:=laid
abbrev F60:VFn:=Q60.F
def Q61:Laid Tryz.prog A0 false Tryz.f61:=laid
abbrev F61:VFn:=Q61.F
def Q62:Laid Tryz.prog A0 false Tryz.f62:=laid
abbrev F62:VFn:=Q62.F
def Q63:Laid Tryz.prog A0 false Tryz.f63:=laid
abbrev F63:VFn:=Q63.F
def Q64:Laid Tryz.prog (AA [(4,[1,3,4,5]),(7,[1,3,4,5,25,26,27])] []) false Tryz.f64:=laid
abbrev F64:VFn:=Q64.F
def Q72:Laid Tryz.prog (AA [(5,[1,2,5,6,7,16,17,18])] [(4,[.newrow 1 6])]) false Tryz.f72:=laid
abbrev F72:VFn:=Q72.F
def Q73:Laid Tryz.prog (AA [(3,[1,4,15,16]),(8,[4,24,25,26]),(11,[4,6,24,25,26,32,33,34])] [(18,[.freeze 4])]) false Tryz.f73:=laid
abbrev F73:VFn:=Q73.F
def Q74:Laid Tryz.prog (AA [(5,[0,3,4])] []) false Tryz.f74:=laid
abbrev F74:VFn:=Q74.F
def Q75:Laid Tryz.prog (AA [(3,[0,3,4])] [(7,[.freeze 3])]) false Tryz.f75:=laid
abbrev F75:VFn:=Q75.F
def Q76:Laid Tryz.prog A0 false Tryz.f76:=laid
abbrev F76:VFn:=Q76.F
def Q77:Laid Tryz.prog A0 false Tryz.f77:=laid
abbrev F77:VFn:=Q77.F
def Q78:Laid Tryz.prog A0 false Tryz.f78:=laid
abbrev F78:VFn:=Q78.F
def Q79:Laid Tryz.prog A0 false Tryz.f79:=laid
abbrev F79:VFn:=Q79.F
def Q80:Laid Tryz.prog (AA [(5,[0,32,33,34])] []) false Tryz.f80:=laid
abbrev F80:VFn:=Q80.F
def Q81:Laid Tryz.prog (AA [(5,[0,33,34,35])] []) false Tryz.f81:=laid
abbrev F81:VFn:=Q81.F
def Q90:Laid Tryz.prog (AA [(2,[0,5,6,7])] []) false Tryz.f90:=laid
abbrev F90:VFn:=Q90.F
def Q92:Laid Tryz.prog (AA [(4,[0,16,17])] []) false Tryz.f92:=laid
abbrev F92:VFn:=Q92.F
def Q93:Laid Tryz.prog A0 false Tryz.f93:=laid
abbrev F93:VFn:=Q93.F
def Q95:Laid Tryz.prog (AA [(5,[8,31,32,33]),(13,[8,58,59,60])] [(2,[.newrow 1 8])]) false Tryz.f95:=laid
abbrev F95:VFn:=Q95.F
def Q96:Laid Tryz.prog A0 false Tryz.f96:=laid
abbrev F96:VFn:=Q96.F
def Q97:Laid Tryz.prog (AA [(2,[0,3])] []) false Tryz.f97:=laid
abbrev F97:VFn:=Q97.F
def Q98:Laid Tryz.prog (AA [(1,[0,1]),(7,[0,1])] []) false Tryz.f98:=laid
abbrev F98:VFn:=Q98.F
def Q99:Laid Tryz.prog (AA [(1,[0,1])] []) false Tryz.f99:=laid
abbrev F99:VFn:=Q99.F
def Q100:Laid Tryz.prog A0 false Tryz.f100:=laid
abbrev F100:VFn:=Q100.F
def Q101:Laid Tryz.prog (AA [(3,[0,1,4,5,6,7])] []) false Tryz.f101:=laid
abbrev F101:VFn:=Q101.F
def Q102:Laid Tryz.prog A0 false Tryz.f102:=laid
abbrev F102:VFn:=Q102.F
def Q103:Laid Tryz.prog A0 false Tryz.f103:=laid
abbrev F103:VFn:=Q103.F
def Q104:Laid Tryz.prog (AA [(2,[0,1,9,10,11]),(8,[0,1,32,33,34])] []) false Tryz.f104:=laid
abbrev F104:VFn:=Q104.F
def Q105:Laid Tryz.prog (AA [(26,[0,1,6,9])] []) false Tryz.f105:=laid
abbrev F105:VFn:=Q105.F
def Q106:Laid Tryz.prog A0 false Tryz.f106:=laid
abbrev F106:VFn:=Q106.F
def Q107:Laid Tryz.prog (AA [(5,[0,1,5,6])] [(1000005,[.bindrow 1 6 3])]) false Tryz.f107:=laid
abbrev F107:VFn:=Q107.F
def Q108:Laid Tryz.prog (AA [(5,[0,3,4])] [(1000005,[.bindrow 1 4 3])]) false Tryz.f108:=laid
abbrev F108:VFn:=Q108.F
def Q115:Laid Tryz.prog A0 false Tryz.f115:=laid
abbrev F115:VFn:=Q115.F
def Q116:Laid Tryz.prog A0 false Tryz.f116:=laid
abbrev F116:VFn:=Q116.F
def Q117:Laid Tryz.prog A0 false Tryz.f117:=laid
abbrev F117:VFn:=Q117.F
def Q118:Laid Tryz.prog A0 false Tryz.f118:=laid
abbrev F118:VFn:=Q118.F
def Q119:Laid Tryz.prog A0 false Tryz.f119:=laid
abbrev F119:VFn:=Q119.F
def Q120:Laid Tryz.prog A0 false Tryz.f120:=laid
abbrev F120:VFn:=Q120.F
def Q128:Laid Tryz.prog A0 false Tryz.f128:=laid
abbrev F128:VFn:=Q128.F
def Q129:Laid Tryz.prog A0 false Tryz.f129:=laid
abbrev F129:VFn:=Q129.F
def Q132:Laid Tryz.prog (AA [(3,[0,4,5])] []) false Tryz.f132:=laid
abbrev F132:VFn:=Q132.F
def Q133:Laid Tryz.prog A0 false Tryz.f133:=laid
abbrev F133:VFn:=Q133.F
def Q134:Laid Tryz.prog A0 false Tryz.f134:=laid
abbrev F134:VFn:=Q134.F
def Q135:Laid Tryz.prog A0 false Tryz.f135:=laid
abbrev F135:VFn:=Q135.F
def Q136:Laid Tryz.prog A0 false Tryz.f136:=laid
abbrev F136:VFn:=Q136.F
def Q137:Laid Tryz.prog A0 false Tryz.f137:=laid
abbrev F137:VFn:=Q137.F
def Q138:Laid Tryz.prog A0 false Tryz.f138:=laid
abbrev F138:VFn:=Q138.F
def Q139:Laid Tryz.prog A0 false Tryz.f139:=laid
abbrev F139:VFn:=Q139.F
def Q140:Laid Tryz.prog A0 false Tryz.f140:=laid
abbrev F140:VFn:=Q140.F
def Q141:Laid Tryz.prog (AA [(5,[0,3,4])] [(1000005,[.bindrow 1 4 3])]) false Tryz.f141:=laid
abbrev F141:VFn:=Q141.F
def Q144:Laid Tryz.prog A0 false Tryz.f144:=laid
abbrev F144:VFn:=Q144.F
def Q145:Laid Tryz.prog A0 false Tryz.f145:=laid
abbrev F145:VFn:=Q145.F
def Q146:Laid Tryz.prog A0 false Tryz.f146:=laid
abbrev F146:VFn:=Q146.F
def Q147:Laid Tryz.prog A0 false Tryz.f147:=laid
abbrev F147:VFn:=Q147.F
def Q149:Laid Tryz.prog A0 false Tryz.f149:=laid
abbrev F149:VFn:=Q149.F
def Q150:Laid Tryz.prog A0 false Tryz.f150:=laid
abbrev F150:VFn:=Q150.F
def Q152:Laid Tryz.prog A0 false Tryz.f152:=laid
abbrev F152:VFn:=Q152.F
def Q153:Laid Tryz.prog A0 false Tryz.f153:=laid
abbrev F153:VFn:=Q153.F
def Q154:Laid Tryz.prog (AA [(2,[0,1,7,8])] []) false Tryz.f154:=laid
abbrev F154:VFn:=Q154.F
def Q158:Laid Tryz.prog A0 false Tryz.f158:=laid
abbrev F158:VFn:=Q158.F
def Q159:Laid Tryz.prog A0 false Tryz.f159:=laid
abbrev F159:VFn:=Q159.F
def Q160:Laid Tryz.prog A0 false Tryz.f160:=laid
abbrev F160:VFn:=Q160.F
def Q163:Laid Tryz.prog A0 false Tryz.f163:=laid
abbrev F163:VFn:=Q163.F
def Q164:Laid Tryz.prog A0 false Tryz.f164:=laid
abbrev F164:VFn:=Q164.F
def Q165:Laid Tryz.prog A0 false Tryz.f165:=laid
abbrev F165:VFn:=Q165.F
def Q168:Laid Tryz.prog A0 false Tryz.f168:=laid
abbrev F168:VFn:=Q168.F
def Q169:Laid Tryz.prog A0 false Tryz.f169:=laid
abbrev F169:VFn:=Q169.F
def Q170:Laid Tryz.prog A0 false Tryz.f170:=laid
abbrev F170:VFn:=Q170.F
def Q171:Laid Tryz.prog A0 false Tryz.f171:=laid
abbrev F171:VFn:=Q171.F
def Q172:Laid Tryz.prog A0 false Tryz.f172:=laid
abbrev F172:VFn:=Q172.F
def Q175:Laid Tryz.prog (AA [(2,[0,1,7,8])] []) false Tryz.f175:=laid
abbrev F175:VFn:=Q175.F
def Q176:Laid Tryz.prog (AA [(2,[0,1,5])] []) false Tryz.f176:=laid
abbrev F176:VFn:=Q176.F
def Q177:Laid Tryz.prog (AA [(5,[0,1,2,7,8])] []) false Tryz.f177:=laid
abbrev F177:VFn:=Q177.F
def Q178:Laid Tryz.prog A0 false Tryz.f178:=laid
abbrev F178:VFn:=Q178.F
def Q182:Laid Tryz.prog A0 false Tryz.f182:=laid
abbrev F182:VFn:=Q182.F
def Q183:Laid Tryz.prog (AA [(3,[0,5,6])] []) false Tryz.f183:=laid
abbrev F183:VFn:=Q183.F
def Q184:Laid Tryz.prog A0 false Tryz.f184:=laid
abbrev F184:VFn:=Q184.F
def Q185:Laid Tryz.prog (AA [(6,[0,3,4])] []) false Tryz.f185:=laid
abbrev F185:VFn:=Q185.F
def Q187:Laid Tryz.prog (AA [(3,[0,5,6])] []) false Tryz.f187:=laid
abbrev F187:VFn:=Q187.F
def Q188:Laid Tryz.prog A0 false Tryz.f188:=laid
abbrev F188:VFn:=Q188.F
def Q189:Laid Tryz.prog A0 false Tryz.f189:=laid
abbrev F189:VFn:=Q189.F
def Q190:Laid Tryz.prog A0 false Tryz.f190:=laid
abbrev F190:VFn:=Q190.F
def Q191:Laid Tryz.prog A0 false Tryz.f191:=laid
abbrev F191:VFn:=Q191.F
def Q192:Laid Tryz.prog A0 false Tryz.f192:=laid
abbrev F192:VFn:=Q192.F
def Q193:Laid Tryz.prog (AA [(4,[0,1,8]),(11,[0,1,9])] [(1000004,[.bindrow 1 8 3]),(1000011,[.bindrow 1 9 3])]) false Tryz.f193:=laid
abbrev F193:VFn:=Q193.F
def Q194:Laid Tryz.prog A0 false Tryz.f194:=laid
abbrev F194:VFn:=Q194.F
def Q195:Laid Tryz.prog A0 false Tryz.f195:=laid
abbrev F195:VFn:=Q195.F
def Q55:Laid Tryz.prog (AA [(3,[1,2,3,7,8])] []) false Tryz.f55:=laid
def i2d:e6y ((b2d Q55.F.body).getD 0 .skip):=g3g
abbrev e3k:a0m:=i2d.c
def i1h:e6y ((b2d Q95.F.body).getD 0 .skip):=g3g
abbrev f3s:a0m:=i1h.c
def i0y:e6y ((b2d Q95.F.body).getD 1 .skip):=g3g
abbrev f1p:a0m:=i0y.c
def tbl (F:Nat->Option a0x):Nat->Option a0x
 |5=>some (.code F5)
 |7=>some (.code F7)
 |8=>some (.code F8)
 |10=>some (.code F10)
 |11=>some (.code F11)
 |13=>some (.code F13)
 |14=>some (.code F14)
 |18=>some (.code F18)
 |19=>some (.code F19)
 |20=>some (.code F20)
 |21=>some (.code F21)
 |24=>some (.code F24)
 |25=>some (.code F25)
 |26=>some (.code F26)
 |27=>some (.code F27)
 |28=>some (.code F28)
 |29=>some (.code F29)
 |30=>some (.code F30)
 |31=>some (.code F31)
 |32=>some (.code F32)
 |33=>some (.code F33)
 |34=>some (.code F34)
 |35=>some (.code F35)
 |36=>some (.code F36)
 |37=>some (.code F37)
 |38=>some (.code F38)
 |39=>some (.code F39)
 |53=>some (.code F53)
 |56=>some (.code F56)
 |59=>some (.code F59)
 |60=>some (.code F60)
 |61=>some (.code F61)
 |62=>some (.code F62)
 |63=>some (.code F63)
 |64=>some (.code F64)
 |72=>some (.code F72)
 |73=>some (.code F73)
 |74=>some (.code F74)
 |75=>some (.code F75)
 |76=>some (.code F76)
 |77=>some (.code F77)
 |78=>some (.code F78)
 |79=>some (.code F79)
 |80=>some (.code F80)
 |81=>some (.code F81)
 |90=>some (.code F90)
 |92=>some (.code F92)
 |93=>some (.code F93)
 |95=>some (.code F95)
 |96=>some (.code F96)
 |97=>some (.code F97)
 |98=>some (.code F98)
 |99=>some (.code F99)
 |100=>some (.code F100)
 |101=>some (.code F101)
 |102=>some (.code F102)
 |103=>some (.code F103)
 |104=>some (.code F104)
 |105=>some (.code F105)
 |106=>some (.code F106)
 |107=>some (.code F107)
 |108=>some (.code F108)
 |115=>some (.code F115)
 |116=>some (.code F116)
 |117=>some (.code F117)
 |118=>some (.code F118)
 |119=>some (.code F119)
 |120=>some (.code F120)
 |128=>some (.code F128)
 |129=>some (.code F129)
 |132=>some (.code F132)
 |133=>some (.code F133)
 |134=>some (.code F134)
 |135=>some (.code F135)
 |136=>some (.code F136)
 |137=>some (.code F137)
 |138=>some (.code F138)
 |139=>some (.code F139)
 |140=>some (.code F140)
 |141=>some (.code F141)
 |144=>some (.code F144)
 |145=>some (.code F145)
 |146=>some (.code F146)
 |147=>some (.code F147)
 |149=>some (.code F149)
 |150=>some (.code F150)
 |152=>some (.code F152)
 |153=>some (.code F153)
 |154=>some (.code F154)
 |158=>some (.code F158)
 |159=>some (.code F159)
 |160=>some (.code F160)
 |163=>some (.code F163)
 |164=>some (.code F164)
 |165=>some (.code F165)
 |168=>some (.code F168)
 |169=>some (.code F169)
 |170=>some (.code F170)
 |171=>some (.code F171)
 |172=>some (.code F172)
 |175=>some (.code F175)
 |176=>some (.code F176)
 |177=>some (.code F177)
 |178=>some (.code F178)
 |182=>some (.code F182)
 |183=>some (.code F183)
 |184=>some (.code F184)
 |185=>some (.code F185)
 |187=>some (.code F187)
 |188=>some (.code F188)
 |189=>some (.code F189)
 |190=>some (.code F190)
 |191=>some (.code F191)
 |192=>some (.code F192)
 |193=>some (.code F193)
 |194=>some (.code F194)
 |195=>some (.code F195)
 |i=>F i
abbrev c1e:Nat:=5
theorem c0u {F:Nat->Option a0x}:(tbl F) 5=some (.code F5):=rfl
abbrev b2i:Nat:=7
theorem b8f {F:Nat->Option a0x}:(tbl F) 7=some (.code F7):=rfl
abbrev b6q:Nat:=8
theorem c7c {F:Nat->Option a0x}:(tbl F) 8=some (.code F8):=rfl
abbrev e4i:Nat:=10
theorem e2y {F:Nat->Option a0x}:(tbl F) 10=some (.code F10):=rfl
abbrev d3k:Nat:=11
theorem d5r {F:Nat->Option a0x}:(tbl F) 11=some (.code F11):=rfl
abbrev c6r:Nat:=13
theorem b6i {F:Nat->Option a0x}:(tbl F) 13=some (.code F13):=rfl
abbrev d4c:Nat:=14
theorem c1q {F:Nat->Option a0x}:(tbl F) 14=some (.code F14):=rfl
abbrev b9o:Nat:=18
theorem b8h {F:Nat->Option a0x}:(tbl F) 18=some (.code F18):=rfl
abbrev a8c:Nat:=19
theorem b5o {F:Nat->Option a0x}:(tbl F) 19=some (.code F19):=rfl
abbrev c5h:Nat:=20
theorem d7t {F:Nat->Option a0x}:(tbl F) 20=some (.code F20):=rfl
abbrev d4m:Nat:=24
theorem d4b {F:Nat->Option a0x}:(tbl F) 24=some (.code F24):=rfl
abbrev a6s:Nat:=25
theorem b3d {F:Nat->Option a0x}:(tbl F) 25=some (.code F25):=rfl
abbrev a2l:Nat:=26
theorem a9b {F:Nat->Option a0x}:(tbl F) 26=some (.code F26):=rfl
abbrev b2j:Nat:=27
theorem b2l {F:Nat->Option a0x}:(tbl F) 27=some (.code F27):=rfl
abbrev a8b:Nat:=28
theorem b5l {F:Nat->Option a0x}:(tbl F) 28=some (.code F28):=rfl
abbrev a8e:Nat:=29
theorem b6f {F:Nat->Option a0x}:(tbl F) 29=some (.code F29):=rfl
abbrev b5x:Nat:=30
theorem b5t {F:Nat->Option a0x}:(tbl F) 30=some (.code F30):=rfl
abbrev a0t:Nat:=31
theorem a6k {F:Nat->Option a0x}:(tbl F) 31=some (.code F31):=rfl
abbrev a1r:Nat:=32
theorem a1s {F:Nat->Option a0x}:(tbl F) 32=some (.code F32):=rfl
abbrev c6z:Nat:=33
theorem c6v {F:Nat->Option a0x}:(tbl F) 33=some (.code F33):=rfl
abbrev a6b:Nat:=34
theorem a6a {F:Nat->Option a0x}:(tbl F) 34=some (.code F34):=rfl
abbrev a2f:Nat:=35
theorem a2g {F:Nat->Option a0x}:(tbl F) 35=some (.code F35):=rfl
abbrev c7d:Nat:=36
theorem c7e {F:Nat->Option a0x}:(tbl F) 36=some (.code F36):=rfl
abbrev a3a:Nat:=37
theorem a3b {F:Nat->Option a0x}:(tbl F) 37=some (.code F37):=rfl
abbrev c6x:Nat:=38
theorem c6t {F:Nat->Option a0x}:(tbl F) 38=some (.code F38):=rfl
abbrev b1f:Nat:=39
theorem b1t {F:Nat->Option a0x}:(tbl F) 39=some (.code F39):=rfl
abbrev e5b:Nat:=53
theorem e3v {F:Nat->Option a0x}:(tbl F) 53=some (.code F53):=rfl
abbrev a8t:Nat:=56
theorem d1j {F:Nat->Option a0x}:(tbl F) 56=some (.code F56):=rfl
abbrev c6q:Nat:=59
theorem c7g {F:Nat->Option a0x}:(tbl F) 59=some (.code F59):=rfl
abbrev b1s:Nat:=60
theorem c0j {F:Nat->Option a0x}:(tbl F) 60=some (.code F60):=rfl
abbrev b9n:Nat:=61
theorem b7x {F:Nat->Option a0x}:(tbl F) 61=some (.code F61):=rfl
abbrev a5l:Nat:=62
theorem b7v {F:Nat->Option a0x}:(tbl F) 62=some (.code F62):=rfl
abbrev a9e:Nat:=63
theorem b7c {F:Nat->Option a0x}:(tbl F) 63=some (.code F63):=rfl
abbrev c5i:Nat:=64
theorem c4v {F:Nat->Option a0x}:(tbl F) 64=some (.code F64):=rfl
abbrev d7o:Nat:=72
theorem d6v {F:Nat->Option a0x}:(tbl F) 72=some (.code F72):=rfl
abbrev c7b:Nat:=73
theorem c7a {F:Nat->Option a0x}:(tbl F) 73=some (.code F73):=rfl
abbrev b5p:Nat:=74
theorem b6h {F:Nat->Option a0x}:(tbl F) 74=some (.code F74):=rfl
abbrev d1g:Nat:=75
theorem d1p {F:Nat->Option a0x}:(tbl F) 75=some (.code F75):=rfl
abbrev b5q:Nat:=76
theorem b5v {F:Nat->Option a0x}:(tbl F) 76=some (.code F76):=rfl
abbrev c2h:Nat:=77
theorem d5x {F:Nat->Option a0x}:(tbl F) 77=some (.code F77):=rfl
abbrev a0s:Nat:=78
theorem a6y {F:Nat->Option a0x}:(tbl F) 78=some (.code F78):=rfl
abbrev b6u:Nat:=79
theorem b7d {F:Nat->Option a0x}:(tbl F) 79=some (.code F79):=rfl
abbrev b3c:Nat:=80
theorem b3h {F:Nat->Option a0x}:(tbl F) 80=some (.code F80):=rfl
abbrev b6b:Nat:=81
theorem b5j {F:Nat->Option a0x}:(tbl F) 81=some (.code F81):=rfl
abbrev d4z:Nat:=90
theorem d5f {F:Nat->Option a0x}:(tbl F) 90=some (.code F90):=rfl
abbrev d8q:Nat:=92
theorem d8o {F:Nat->Option a0x}:(tbl F) 92=some (.code F92):=rfl
abbrev e2z:Nat:=93
theorem e3n {F:Nat->Option a0x}:(tbl F) 93=some (.code F93):=rfl
abbrev c2j:Nat:=95
theorem b3z {F:Nat->Option a0x}:(tbl F) 95=some (.code F95):=rfl
abbrev d4d:Nat:=96
theorem d2p {F:Nat->Option a0x}:(tbl F) 96=some (.code F96):=rfl
abbrev c5j:Nat:=97
theorem c6c {F:Nat->Option a0x}:(tbl F) 97=some (.code F97):=rfl
abbrev b8j:Nat:=98
theorem d2e {F:Nat->Option a0x}:(tbl F) 98=some (.code F98):=rfl
abbrev d7q:Nat:=99
theorem d6d {F:Nat->Option a0x}:(tbl F) 99=some (.code F99):=rfl
abbrev d0s:Nat:=100
theorem d0w {F:Nat->Option a0x}:(tbl F) 100=some (.code F100):=rfl
abbrev c2o:Nat:=101
theorem c2m {F:Nat->Option a0x}:(tbl F) 101=some (.code F101):=rfl
abbrev c7h:Nat:=102
theorem c6p {F:Nat->Option a0x}:(tbl F) 102=some (.code F102):=rfl
abbrev c9h:Nat:=103
theorem d0d {F:Nat->Option a0x}:(tbl F) 103=some (.code F103):=rfl
abbrev d2n:Nat:=104
theorem d2r {F:Nat->Option a0x}:(tbl F) 104=some (.code F104):=rfl
abbrev d5k:Nat:=105
theorem d5d {F:Nat->Option a0x}:(tbl F) 105=some (.code F105):=rfl
abbrev b1x:Nat:=106
theorem c0q {F:Nat->Option a0x}:(tbl F) 106=some (.code F106):=rfl
abbrev a4t:Nat:=107
theorem b5r {F:Nat->Option a0x}:(tbl F) 107=some (.code F107):=rfl
abbrev a3m:Nat:=108
theorem a3n {F:Nat->Option a0x}:(tbl F) 108=some (.code F108):=rfl
abbrev d2z:Nat:=115
theorem d3s {F:Nat->Option a0x}:(tbl F) 115=some (.code F115):=rfl
abbrev d6g:Nat:=116
theorem d6q {F:Nat->Option a0x}:(tbl F) 116=some (.code F116):=rfl
abbrev e5j:Nat:=117
theorem e3w {F:Nat->Option a0x}:(tbl F) 117=some (.code F117):=rfl
abbrev d7v:Nat:=118
theorem d8s {F:Nat->Option a0x}:(tbl F) 118=some (.code F118):=rfl
abbrev b0w:Nat:=119
theorem b0t {F:Nat->Option a0x}:(tbl F) 119=some (.code F119):=rfl
abbrev a8h:Nat:=120
theorem b6d {F:Nat->Option a0x}:(tbl F) 120=some (.code F120):=rfl
abbrev d6i:Nat:=128
theorem d7x {F:Nat->Option a0x}:(tbl F) 128=some (.code F128):=rfl
abbrev c1r:Nat:=129
theorem c2k {F:Nat->Option a0x}:(tbl F) 129=some (.code F129):=rfl
abbrev b6j:Nat:=132
theorem c6u {F:Nat->Option a0x}:(tbl F) 132=some (.code F132):=rfl
abbrev a5m:Nat:=133
theorem b7l {F:Nat->Option a0x}:(tbl F) 133=some (.code F133):=rfl
abbrev a5o:Nat:=134
theorem b7t {F:Nat->Option a0x}:(tbl F) 134=some (.code F134):=rfl
abbrev a4y:Nat:=135
theorem b5n {F:Nat->Option a0x}:(tbl F) 135=some (.code F135):=rfl
abbrev a3w:Nat:=136
theorem b3a {F:Nat->Option a0x}:(tbl F) 136=some (.code F136):=rfl
abbrev a5p:Nat:=137
theorem b7e {F:Nat->Option a0x}:(tbl F) 137=some (.code F137):=rfl
abbrev a9l:Nat:=138
theorem b7p {F:Nat->Option a0x}:(tbl F) 138=some (.code F138):=rfl
abbrev a4z:Nat:=139
theorem b5z {F:Nat->Option a0x}:(tbl F) 139=some (.code F139):=rfl
abbrev a6i:Nat:=140
theorem b9b {F:Nat->Option a0x}:(tbl F) 140=some (.code F140):=rfl
abbrev a4u:Nat:=141
theorem a8f {F:Nat->Option a0x}:(tbl F) 141=some (.code F141):=rfl
abbrev d0l:Nat:=144
theorem d1z {F:Nat->Option a0x}:(tbl F) 144=some (.code F144):=rfl
abbrev d1q:Nat:=145
theorem d0h {F:Nat->Option a0x}:(tbl F) 145=some (.code F145):=rfl
abbrev c2r:Nat:=146
theorem c2q {F:Nat->Option a0x}:(tbl F) 146=some (.code F146):=rfl
abbrev d0m:Nat:=147
theorem d1f {F:Nat->Option a0x}:(tbl F) 147=some (.code F147):=rfl
abbrev d6m:Nat:=149
theorem d8p {F:Nat->Option a0x}:(tbl F) 149=some (.code F149):=rfl
abbrev d5v:Nat:=150
theorem d3n {F:Nat->Option a0x}:(tbl F) 150=some (.code F150):=rfl
abbrev d7s:Nat:=152
theorem c3y {F:Nat->Option a0x}:(tbl F) 152=some (.code F152):=rfl
abbrev e3c:Nat:=153
theorem e3e {F:Nat->Option a0x}:(tbl F) 153=some (.code F153):=rfl
abbrev b2z:Nat:=154
theorem b3e {F:Nat->Option a0x}:(tbl F) 154=some (.code F154):=rfl
abbrev a9h:Nat:=158
theorem b7j {F:Nat->Option a0x}:(tbl F) 158=some (.code F158):=rfl
abbrev a4v:Nat:=159
theorem b6c {F:Nat->Option a0x}:(tbl F) 159=some (.code F159):=rfl
abbrev a5n:Nat:=160
theorem b6w {F:Nat->Option a0x}:(tbl F) 160=some (.code F160):=rfl
abbrev f2f:Nat:=163
theorem e5z {F:Nat->Option a0x}:(tbl F) 163=some (.code F163):=rfl
abbrev a7y:Nat:=164
theorem a7z {F:Nat->Option a0x}:(tbl F) 164=some (.code F164):=rfl
abbrev b0d:Nat:=165
theorem d5i {F:Nat->Option a0x}:(tbl F) 165=some (.code F165):=rfl
abbrev a7w:Nat:=168
theorem b4j {F:Nat->Option a0x}:(tbl F) 168=some (.code F168):=rfl
abbrev a6o:Nat:=169
theorem b8e {F:Nat->Option a0x}:(tbl F) 169=some (.code F169):=rfl
abbrev a5k:Nat:=170
theorem b7u {F:Nat->Option a0x}:(tbl F) 170=some (.code F170):=rfl
abbrev a8d:Nat:=171
theorem b6a {F:Nat->Option a0x}:(tbl F) 171=some (.code F171):=rfl
abbrev a4e:Nat:=172
theorem b4p {F:Nat->Option a0x}:(tbl F) 172=some (.code F172):=rfl
abbrev b0b:Nat:=175
theorem b0c {F:Nat->Option a0x}:(tbl F) 175=some (.code F175):=rfl
abbrev b0e:Nat:=176
theorem b7w {F:Nat->Option a0x}:(tbl F) 176=some (.code F176):=rfl
abbrev a6g:Nat:=177
theorem b0m {F:Nat->Option a0x}:(tbl F) 177=some (.code F177):=rfl
abbrev a4j:Nat:=178
theorem b4s {F:Nat->Option a0x}:(tbl F) 178=some (.code F178):=rfl
abbrev a4g:Nat:=182
theorem b3n {F:Nat->Option a0x}:(tbl F) 182=some (.code F182):=rfl
abbrev a9v:Nat:=183
theorem b7f {F:Nat->Option a0x}:(tbl F) 183=some (.code F183):=rfl
abbrev a5f:Nat:=184
theorem b7r {F:Nat->Option a0x}:(tbl F) 184=some (.code F184):=rfl
abbrev a5a:Nat:=185
theorem b5k {F:Nat->Option a0x}:(tbl F) 185=some (.code F185):=rfl
abbrev a3z:Nat:=187
theorem b3f {F:Nat->Option a0x}:(tbl F) 187=some (.code F187):=rfl
abbrev a4a:Nat:=188
theorem b2y {F:Nat->Option a0x}:(tbl F) 188=some (.code F188):=rfl
abbrev b9d:Nat:=189
theorem d2f {F:Nat->Option a0x}:(tbl F) 189=some (.code F189):=rfl
abbrev a6c:Nat:=190
theorem b9l {F:Nat->Option a0x}:(tbl F) 190=some (.code F190):=rfl
abbrev a4b:Nat:=191
theorem b3g {F:Nat->Option a0x}:(tbl F) 191=some (.code F191):=rfl
abbrev a3y:Nat:=192
theorem b2w {F:Nat->Option a0x}:(tbl F) 192=some (.code F192):=rfl
abbrev a4w:Nat:=193
theorem a3d {F:Nat->Option a0x}:(tbl F) 193=some (.code F193):=rfl
abbrev a3i:Nat:=194
theorem b1h {F:Nat->Option a0x}:(tbl F) 194=some (.code F194):=rfl
abbrev a5h:Nat:=195
theorem b7k {F:Nat->Option a0x}:(tbl F) 195=some (.code F195):=rfl
end Go.Vm.Ite
namespace Go.Vm
open Go.ChangeShapes Go.WideShapes Go.ChangeAt Go.RowKit
def contents (w:World) (b:Nat):List Value:=match w.heap[b]? with|some (.cells cur _ _)=>cur.toList|_=>[]
def gh0 (w:World):Gh:=⟨fun _=>none,contents w⟩
theorem d0k {w:World} {b off:Nat} {v:Value} {sp} (h:w.cell? ⟨b,off,sp⟩=some v):(contents w b)[off]? =some v:=by
 unfold World.cell? at h
 unfold contents
 split at h
 ·rename_i c t f hc
  split at h
  ·cases h
  ·simp only at hc
   rw[hc]
   simpa using h
 ·cases h
def c8g (cx:Cx) (w:World):Prop:=(∀ i,∃ vs,vs <+:contents w i/\a1j (contents w) (cx.gv i) vs)/\∀ i o,cx.fx i=some o->w.heap[i]? =some o
theorem inv0 {cx:Cx} {w:World} (h:c8g cx w):Inv cx (gh0 w) [] w:=by
 refine⟨fun i k b c c' h=>(nomatch h),fun i b c h=>(nomatch h),fun i b c o h=>(nomatch h),fun b hb=>?_,fun i c hi=>absurd hi (Nat.not_lt_zero _),h.1,fun i o hi=>⟨h.2 i o hi,fun k c hk=>(nomatch hk)⟩⟩
 simp only[gh0,contents]at hb⊢
 split at hb
 ·rename_i cur e fz hc
  exact⟨cur,e,fz,hc,List.prefix_refl _⟩
 ·exact absurd rfl hb
theorem front {P:Program} {pg:Pg} (hT:c0x P pg) (hmx:P.follows .mixedOrders=true) {f:Nat} {args:Array Value} {ds:List D} {W:World} (hg:c8g pg.toCx W) (hr:a0z (gh0 W) [] (ds.map V.d) args.toList)
 {H':Hp} (hev:evF pg f (ds.map V.d) []=some (.d (.bool true),H')):Calls P f args W fun e W'=>e= .returned (.bool true)/\Below W.heap.size W W':=by
 obtain⟨_,h⟩:=b8t hT hmx f (ds.map V.d) [] (.d (.bool true)) H' hev
 refine(h (gh0 W) W args (inv0 hg) hr (a8y _ ds)).mono fun e w' he=>?_
 obtain⟨g',x,h1,h2,h3,_,h5⟩:=he
 rw[b2k h3]at h1
 exact⟨h1,⟨h5.os,h5.tape,h5.output,h5.size,fun k hk=>(h5.frame k hk fun i c=>by simp[gh0]).1⟩⟩
def d4t (P:Program) (total:Nat):Nat->List Field->Bool
 |n,[]=>n==total
 |n,f::r=>f.offset==n && d4t P total (n+P.cellsOf f.type) r
section
variable {H:Type}
mutual
/-- What a reading says, as data. -/
def dwD:DataW H->D
 | .lit (.bool b)=> .bool b
 | .lit (.int k n)=> .int k n
 | .lit (.string s)=> .str s
 | .agg l=> .agg (b0q l)
 | .slice l _=> .sl (dwL l)
 |_=> .sl []
def dwL:List (DataW H)->List D
 |[]=>[]
 |x::r=>dwD x::dwL r
def b0q:List (DataW H)->List D
 |[]=>[]
 |x::r=>(dwD x).cells++b0q r
end
theorem f0v:∀ l:List (DataW H),dwL l=l.map dwD
 |[]=>rfl
 |x::r=>by simp[dwL,f0v r]
theorem b1j:∀ l:List (DataW H),b0q l=(l.map dwD).flatMap D.cells
 |[]=>rfl
 |x::r=>by simp[b0q,b1j r]
end
def a6u (P:Program):Nat->TypeId->Bool
 |0,_=>false
 |m+1,t=>match P.underlying t with
  |some .bool|some (.int _)|some .string=>P.cellsOf t==1
  |some (.slice e)=>P.cellsOf t==1 && decide (0 < P.cellsOf e) && a6u P m e
  |some (.struct fs)=>d4t P (P.cellsOf t) 0 fs.toList && fs.toList.all fun f=>a6u P m f.type
  |some (.array n e)=>P.cellsOf t==n*P.cellsOf e && a6u P m e
  |_=>false
def d8f (P:Program):Nat->TypeId->D->Prop
 |0,_,_=>False
 |m+1,t,x=>match P.underlying t with
  |some .bool=> ∃ b,x= .bool b
  |some (.int k)=> ∃ n,x= .int k n/\(Lit.int k n).wf=true
  |some .string=> ∃ s,x= .str s/\s.length<=maxLen
  |some (.slice e)=> ∃ l,x= .sl l/\l.length<=maxLen/\∀ y∈l,d8f P m e y
  |some (.struct fs)=> ∃ xs:List D,x= .agg (xs.flatMap D.cells)/\xs.length=fs.toList.length/\∀ (i:Nat) (f:Field) (y:D),fs.toList[i]? =some f->xs[i]? =some y->d8f P m f.type y
  |some (.array n e)=> ∃ xs:List D,x= .agg (xs.flatMap D.cells)/\xs.length=n/\∀ y∈xs,d8f P m e y
  |_=>False
theorem b4h {C:Nat->List Value}:∀ {l l':List D} {vs vs':List Value},a1j C l vs->a1j C l' vs'->a1j C (l++l') (vs++vs')
 |[],l',vs,vs',r,r'=>by simp only[a1j]at r;subst r;exact r'
 |d::ds,l',vs,vs',r,r'=>by
  simp only[a1j]at r
  obtain⟨y,ys,rfl,h1,h2,h3⟩:=r
  simp only[List.cons_append,a1j]
  exact⟨y,ys++vs',by simp,h1,h2,b4h h3 r'⟩
section
variable {H:Type} {enc:TypeId×Value->H} {P:Program} {w:World} {base:Nat} {spare:Nat->Bool} {held:Bool} {fuel:Nat}
theorem e1u {total m:Nat} (rec_:∀ t cs x,a6u P m t=true->DataW.trod enc P w base spare held fuel t cs=some x->d8f P m t (dwD x.1)/\a0q (contents w) (dwD x.1) cs):∀ (fs:List Field) (n:Nat) (cs:List Value) (xs:List (DataW H×List MemPlace)),d4t P total n fs=true->cs.length=total->
 (fs.all fun f=>a6u P m f.type)=true->(fs.mapM fun f=>DataW.trod enc P w base spare held fuel f.type ((cs.drop f.offset).take (P.cellsOf f.type)))=some xs->
 a1j (contents w) (b0q (xs.map (·.1))) (cs.drop n)/\xs.length=fs.length/\∀ (i:Nat) (f:Field) (y:D),fs[i]? =some f->(xs.map fun x=>dwD x.1)[i]? =some y->d8f P m f.type y
 |[],n,cs,xs,ho,hl,_,hx=>by
  simp only[d4t,beq_iff_eq]at ho
  simp only[List.mapM_nil,Option.pure_def,Option.some.injEq]at hx
  subst hx
  refine⟨?_,rfl,fun i f y h=>by simp at h⟩
  rw[List.drop_eq_nil_of_le om]
  simp[a1j,b0q]
 |f::fs,n,cs,xs,ho,hl,hp,hx=>by
  simp only[d4t,Bool.and_eq_true,beq_iff_eq]at ho
  simp only[List.all_cons,Bool.and_eq_true]at hp
  simp only[List.mapM_cons,Option.bind_eq_bind,Option.bind_eq_some_iff,Option.pure_def,Option.some.injEq]at hx
  obtain⟨x,hx1,xs',hx2,rfl⟩:=hx
  rw[ho.1]at hx1
  obtain⟨h1,h2⟩:=rec_ f.type _ x hp.1 hx1
  obtain⟨h3,h4,h5⟩:=e1u rec_ fs (n+P.cellsOf f.type) cs xs' ho.2 hl hp.2 hx2
  refine⟨?_,by simp[h4],fun i f' y hf hy=>?_⟩
  ·simp only[List.map_cons,b0q]
   have:=b4h (b7b h2) h3
   rw[<-List.drop_drop,List.take_append_drop]at this
   exact this
  ·cases i with
   |zero=>
    simp only[List.getElem?_cons_zero,Option.some.injEq,List.map_cons]at hf hy
    subst hf;subst hy
    exact h1
   |succ i=>exact h5 i f' y (by simpa using hf) (by simpa using hy)
theorem h0j {m sz:Nat} {e:TypeId} (rec_:∀ cs x,DataW.trod enc P w base spare held fuel e cs=some x->d8f P m e (dwD x.1)/\a0q (contents w) (dwD x.1) cs):∀ (len k:Nat) (cs:List Value) (xs:List (DataW H×List MemPlace)),cs.length=(k+len) *sz->
 ((List.range' k len).mapM fun i=>DataW.trod enc P w base spare held fuel e ((cs.drop (i*sz)).take sz))=some xs->
 a1j (contents w) (b0q (xs.map (·.1))) (cs.drop (k*sz))/\xs.length=len/\∀ y∈xs.map fun x=>dwD x.1,d8f P m e y
 |0,k,cs,xs,hl,h=>by
  simp only[List.range'_zero,List.mapM_nil,Option.pure_def,Option.some.injEq]at h
  subst h
  refine⟨?_,rfl,by simp⟩
  rw[List.drop_eq_nil_of_le (by rw[hl];simp)]
  simp[a1j,b0q]
 |len+1,k,cs,xs,hl,h=>by
  simp only[List.range'_succ,List.mapM_cons,Option.bind_eq_bind,Option.bind_eq_some_iff,Option.pure_def,Option.some.injEq]at h
  obtain⟨x,hx,xs',hxs,rfl⟩:=h
  obtain⟨h1,h2⟩:=rec_ _ x hx
  obtain⟨h3,h4,h5⟩:=h0j rec_ len (k+1) cs xs' (by rw[hl];congr 1;omega) hxs
  refine⟨?_,by simp[h4],fun y hy=>?_⟩
  ·simp only[List.map_cons,b0q]
   have:=b4h (b7b h2) h3
   rw[Nat.add_mul,Nat.one_mul,<-List.drop_drop,List.take_append_drop]at this
   exact this
  ·simp only[List.map_cons,List.mem_cons]at hy
   rcases hy with rfl|hy
   ·exact h1
   ·exact h5 y hy
theorem mapM_some_get {α β:Type} {F:α->Option β}:∀ {l:List α} {r:List β},l.mapM F=some r->r.length=l.length/\∀ (i:Nat) (x:α),l[i]? =some x->∃ y,F x=some y/\r[i]? =some y
 |[],r,h=>by
  simp only[List.mapM_nil,Option.pure_def,Option.some.injEq]at h
  subst h
  exact⟨rfl,fun i x h=>by simp at h⟩
 |a::l,r,h=>by
  simp only[List.mapM_cons,Option.bind_eq_bind,Option.bind_eq_some_iff,Option.pure_def,Option.some.injEq]at h
  obtain⟨y,hy,ys,hys,rfl⟩:=h
  obtain⟨h1,h2⟩:=mapM_some_get hys
  refine⟨by simp[h1],fun i x hx=>?_⟩
  cases i with
  |zero=>simp only[List.getElem?_cons_zero,Option.some.injEq]at hx;subst hx;exact⟨y,hy,rfl⟩
  |succ i=>exact h2 i x (by simpa using hx)
theorem e4h {a:Addr} {n:Nat} {cs:List Value} (h:w.cells? base a n=some cs):cs.length=n/\(0 < n->a.spot=none)/\cs <+:(contents w a.block).drop a.off:=by
 unfold World.cells? at h
 split at h
 ·obtain⟨h1,h2⟩:=mapM_some_get h
  have hl:cs.length=n:=by simpa using h1
  have hc:∀ i,i < n->∃ y,w.cell? (a.add i)=some y/\cs[i]? =some y:=fun i hi=>h2 i i (by simp[hi])
  refine⟨hl,fun hn=>?_,?_⟩
  ·obtain⟨y,hy,_⟩:=hc 0 hn
   exact World.cell?_spot (by simpa [Addr.add] using hy)
  ·rw[List.prefix_iff_eq_take]
   apply List.ext_getElem?
   intro i
   by_cases hi:i < n
   ·obtain⟨y,hy,hcy⟩:=hc i hi
    rw[hcy,List.getElem?_take,if_pos om,List.getElem?_drop]
    have hy':w.cell? ⟨a.block,a.off+i,none⟩=some y:=by
     by_cases h0:i=0
     ·subst h0
      have hs:=World.cell?_spot hy
      simp only[Addr.add,if_true]at hy hs
      obtain⟨b,o,sp⟩:=a
      simp only at hs
      subst hs
      simpa using hy
     ·simpa [Addr.add,h0] using hy
    exact(d0k hy').symm
   ·rw[List.getElem?_eq_none om,List.getElem?_eq_none (by rw[List.length_take];omega)]
 ·cases h
theorem h2n {m sz:Nat} {e:TypeId} {a:Addr} (hs:0 < sz) (rec_:∀ cs x,DataW.trod enc P w base spare held fuel e cs=some x->d8f P m e (dwD x.1)/\a0q (contents w) (dwD x.1) cs):∀ (len k:Nat) (xs:List (DataW H×List MemPlace)),
 ((List.range' k len).mapM fun i=>(w.cells? base (a.add (i*sz)) sz).bind (DataW.trod enc P w base spare held fuel e))=some xs->
 ∃ us:List Value,xs.length=len/\us <+:(contents w a.block).drop (a.off+k*sz)/\a1w (contents w) sz (xs.map fun x=>dwD x.1) us/\(∀ y∈xs.map fun x=>dwD x.1,d8f P m e y)/\(0 < len->k=0->a.spot=none)
 |0,k,xs,h=>by
  simp only[List.range'_zero,List.mapM_nil,Option.pure_def,Option.some.injEq]at h
  subst h
  exact⟨[],rfl,List.nil_prefix,by simp[a1w],by simp,om⟩
 |len+1,k,xs,h=>by
  simp only[List.range'_succ,List.mapM_cons,Option.bind_eq_bind,Option.bind_eq_some_iff,Option.pure_def,Option.some.injEq]at h
  obtain⟨x,⟨cs,hc,hx⟩,xs',hxs,rfl⟩:=h
  obtain⟨us,h1,h2,h3,h4,_⟩:=h2n hs rec_ len (k+1) xs' hxs
  obtain⟨d1,d2⟩:=rec_ cs x hx
  obtain⟨c1,c2,c3⟩:=e4h hc
  have hblk:(a.add (k*sz)).block=a.block:=by unfold Addr.add;split<;>rfl
  have hoff:(a.add (k*sz)).off=a.off+k*sz:=by unfold Addr.add;split<;>simp_all
  rw[hblk,hoff]at c3
  refine⟨cs++us,by simp[h1],?_,by simp only[List.map_cons,a1w];exact⟨cs,us,rfl,c1,d2,h3⟩,fun y hy=>?_,fun _ hk=>?_⟩
  ·obtain⟨t,ht⟩:=c3
   rw[Nat.add_mul,Nat.one_mul,<-Nat.add_assoc,<-List.drop_drop,<-ht,<-c1,List.drop_left]at h2
   obtain⟨t',rfl⟩:=h2
   exact⟨t',by rw[<-ht];simp⟩
  ·simp only[List.map_cons]at hy
   cases hy with
   |head=>exact d1
   |tail _ hm=>exact h4 y hm
  ·subst hk
   have:=c2 hs
   simpa [Addr.add] using this
theorem h4i:∀ (fuel m:Nat) (t:TypeId) (cs:List Value) (x:DataW H×List MemPlace),a6u P m t=true->DataW.trod enc P w base spare held fuel t cs=some x->d8f P m t (dwD x.1)/\a0q (contents w) (dwD x.1) cs:=by
 intro fuel
 induction fuel with
 |zero=>intro m t cs x _ h;simp[DataW.trod]at h
 |succ fuel ih=>
  intro m t cs x hp h
  cases m with
  |zero=>simp[a6u]at hp
  |succ m=>
   simp only[a6u]at hp
   simp only[d8f]
   have h':=h
   unfold DataW.trod at h'
   cases hu:P.underlying t with
   |none=>rw[hu]at hp;cases hp
   |some u=>
    rw[hu]at hp h'
    cases u with
    |bool=>
     split at h'<;>first|(rename_i q;cases q;done)|skip
     ·rename_i b _
      cases h'
      exact⟨⟨b,rfl⟩,by simp[a0q,dwD]⟩
     ·cases h'
    |int k=>
     obtain⟨n,rfl,rfl,hw⟩:=DataW.trod_int hu h
     exact⟨⟨n,rfl,hw⟩,by simp[a0q,dwD]⟩
    |string=>
     split at h'<;>first|(rename_i q;cases q;done)|skip
     ·rename_i s _
      split at h'
      ·rename_i hs
       cases h'
       exact⟨⟨s.data.toList,rfl,by simpa using hs⟩,by simp[a0q,dwD]⟩
      ·cases h'
     ·cases h'
    |slice e=>
     simp only[Bool.and_eq_true,decide_eq_true_eq]at hp
     split at h'<;>first|(rename_i q;cases q;done)|skip
     ·cases h'
      exact⟨⟨[],rfl,by simp,by simp⟩,by simp[a0q,dwD]⟩
     ·rename_i e' a len cap q
      cases q
      simp only at h'
      split at h'
      case isFalse=>cases h'
      rename_i hb
      obtain⟨hb,hlc,hcm⟩:=hb
      obtain⟨xs,hxs,hrest⟩:=Option.bind_eq_some_iff.1 h'
      obtain⟨rest,_,rfl⟩:=Option.map_eq_some_iff.1 hrest
      rw[List.range_eq_range']at hxs
      obtain⟨us,h1,h2,h3,h4,h5⟩:=h2n (m:=m) (sz:=P.cellsOf e) (e:=e) (a:=a) hp.1.2 (fun cs x hx=>ih m e cs x hp.2 hx) len 0 xs hxs
      have hd:dwD (DataW.slice (xs.map (·.1)) (rest.map (·.1)))= .sl (xs.map fun x=>dwD x.1):=by simp[dwD,f0v,Function.comp_def]
      rw[hd]
      refine⟨⟨_,rfl,by simp[h1];omega,h4⟩,?_⟩
      simp only[a0q]
      refine⟨some a,cap,by simp[h1],by simp[h1];omega,?_⟩
      by_cases hl0:len=0
      ·left
       exact List.length_eq_zero_iff.1 (by simp[h1];omega)
      ·right
       have hs:=h5 om rfl
       obtain⟨b,o,sp⟩:=a
       simp only at hs
       subst hs
       exact⟨b,o,_,us,rfl,hp.1.2,by simpa using h2,h3⟩
     ·cases h'
    |struct fs=>
     simp only[Bool.and_eq_true]at hp
     have hstr:(if cs.length=P.cellsOf t then(fs.toList.mapM fun f=>DataW.trod enc P w base spare held fuel f.type ((cs.drop f.offset).take (P.cellsOf f.type))).map fun xs=>(DataW.agg (xs.map (·.1)),xs.flatMap (·.2)) else none)=some x:=h'
     split at hstr
     ·rename_i hl
      obtain⟨xs,hxs,rfl⟩:=Option.map_eq_some_iff.1 hstr
      obtain⟨d1,d2,d3⟩:=e1u (m:=m) (fun t cs x hp hx=>ih m t cs x hp hx) fs.toList 0 cs xs hp.1 hl hp.2 hxs
      have hd:dwD (DataW.agg (xs.map (·.1)))= .agg ((xs.map fun x=>dwD x.1).flatMap D.cells):=by simp[dwD,b1j,Function.comp_def]
      refine⟨⟨xs.map fun x=>dwD x.1,hd,by simp[d2],d3⟩,?_⟩
      simp only[dwD,a0q]
      simpa using d1
     ·cases hstr
    |array n e=>
     simp only[Bool.and_eq_true,beq_iff_eq]at hp
     have harr:(if cs.length=P.cellsOf t then((List.range n).mapM fun i=>DataW.trod enc P w base spare held fuel e ((cs.drop (i*P.cellsOf e)).take (P.cellsOf e))).map fun xs=>(DataW.agg (xs.map (·.1)),xs.flatMap (·.2)) else none)=some x:=h'
     split at harr
     ·rename_i hl
      obtain⟨xs,hxs,rfl⟩:=Option.map_eq_some_iff.1 harr
      rw[List.range_eq_range']at hxs
      obtain⟨d1,d2,d3⟩:=h0j (m:=m) (sz:=P.cellsOf e) (e:=e) (fun cs x hx=>ih m e cs x hp.2 hx) n 0 cs xs (by rw[hl,hp.1];simp) hxs
      have hd:dwD (DataW.agg (xs.map (·.1)))= .agg ((xs.map fun x=>dwD x.1).flatMap D.cells):=by simp[dwD,b1j,Function.comp_def]
      refine⟨⟨xs.map fun x=>dwD x.1,hd,by simp[d2],d3⟩,?_⟩
      simp only[dwD,a0q]
      simpa using d1
     ·cases harr
    |_=>cases hp
theorem h9q {m:Nat} {t:TypeId} {v:Value} {d:DataW H} {ps:List MemPlace} {r:Reach} {b0:Nat} (hp:a6u P m t=true) (hval:Value.okWide P w r b0 t v) (h:DataW.Trod enc P w base spare held t v d ps):d8f P m t (dwD d)/\a3j (contents w) (dwD d) v:=by
 obtain⟨fuel,hf⟩:=h
 obtain⟨h1,h2⟩:=h4i fuel m t _ _ hp hf
 simp only at h1 h2
 refine⟨h1,?_⟩
 cases m with
 |zero=>simp[a6u]at hp
 |succ m=>
  simp only[d8f]at h1
  split at h1
  ·rename_i hu
   obtain⟨b,hb⟩:=h1
   rw[hb]at h2⊢
   obtain⟨b',rfl⟩:=okWide_bool hu hval
   simpa [Value.cells,a3j] using h2
  ·rename_i k hu
   obtain⟨n,hb,_⟩:=h1
   rw[hb]at h2⊢
   obtain⟨n',rfl⟩:=okWide_int hu hval
   simpa [Value.cells,a3j] using h2
  ·rename_i hu
   obtain⟨s,hb,_⟩:=h1
   rw[hb]at h2⊢
   obtain⟨s',rfl⟩:=okWide_string hu hval
   simpa [Value.cells,a3j] using h2
  ·rename_i e hu
   obtain⟨l,hb,_⟩:=h1
   rw[hb]at h2⊢
   obtain⟨a,len,cap,rfl⟩:=okWide_slice hu hval
   simpa [Value.cells,a3j] using h2
  ·rename_i fs hu
   obtain⟨xs,hb,_⟩:=h1
   rw[hb]at h2⊢
   obtain⟨cs,rfl,_⟩:=okWide_struct hu hval
   exact⟨cs,rfl,by simpa [a0q,Value.cells] using h2⟩
  ·rename_i n e hu
   obtain⟨xs,hb,_⟩:=h1
   rw[hb]at h2⊢
   have hval':=hval
   simp only[Value.okWide,hu]at hval'
   obtain⟨cs,rfl,_⟩:=hval'
   exact⟨cs,rfl,by simpa [a0q,Value.cells] using h2⟩
  ·exact h1.elim
theorem f9g {m:Nat} {base0:Nat} {r:Reach}:∀ {ts:List TypeId} {vs:List Value} {ds:List (DataW H)} {ps:List MemPlace},DataW.TrodAll enc P w base spare held ts vs ds ps->(∀ t∈ts,a6u P m t=true)->(∀ (j:Nat) t v,ts[j]? =some t->vs[j]? =some v->Value.okWide P w r base0 t v)->
 a0z (gh0 w) [] ((ds.map dwD).map V.d) vs/\ds.length=ts.length/\∀ (i:Nat) t x,ts[i]? =some t->ds[i]? =some x->d8f P m t (dwD x)
 |[],vs,ds,ps,h,_,_=>by
  obtain⟨rfl,rfl,rfl⟩:=trodAll_nil h
  exact⟨by simp[a0z],rfl,fun i t x h=>by simp at h⟩
 |t::ts,vs,ds,ps,h,hp,hv=>by
  obtain⟨v,vs1,d,ds1,a,b,rfl,rfl,rfl,h1,h2⟩:=trodAll_cons h
  obtain⟨x1,x2⟩:=h9q (hp t (by simp)) (hv 0 t v rfl rfl) h1
  obtain⟨y1,y2,y3⟩:=f9g h2 (fun t ht=>hp t (by simp[ht])) fun j t v ht hv'=>hv (j+1) t v (by simpa using ht) (by simpa using hv')
  refine⟨by simp only[List.map_cons,a0z,Rep];exact⟨v,vs1,rfl,x2,by simpa using y1⟩,by simp[y2],fun i t' x' ht hx=>?_⟩
  cases i with
  |zero=>
   simp only[List.getElem?_cons_zero,Option.some.injEq]at ht hx
   subst ht;subst hx
   exact x1
  |succ i=>exact y3 i t' x' (by simpa using ht) (by simpa using hx)
theorem b8m {W W':World} (hl:laidOutB P=true) (hb:Below W.heap.size W W'):∀ {ts:List TypeId} {vs:List Value} {ds:List (DataW H)} {ps:List MemPlace},(∀ t∈ts,P.readableRec t=true/\t < P.types.size)->DataW.TrodAll enc P W 0 (fun _=>true) true ts vs ds ps->(∀ x∈ps,x.block < W.heap.size)->
    DataW.TrodAll enc P W' 0 (fun b=>decide (b < W.heap.size)) true ts vs ds ps
  |[],vs,ds,ps,_,h,_=>by
   obtain⟨rfl,rfl,rfl⟩:=trodAll_nil h
   simp[DataW.TrodAll]
  |t::ts,vs,ds,ps,hr,h,hlt=>by
   obtain⟨v,vs1,d,ds1,a,b,rfl,rfl,rfl,h1,h2⟩:=trodAll_cons h
   exact⟨a,b,Below.trod hl (hr t (by simp)).1 (hr t (by simp)).2 h1 hb fun x hx=>hlt x (by simp[hx]),b8m hl hb (fun t ht=>hr t (by simp[ht])) h2 fun x hx=>hlt x (by simp[hx]),rfl⟩
theorem f2o {fn:Func} {s:ChangeSpec} {apart:Bool} {W W':World} {args:Array Value} {ds gs:List (DataW H)} {before:List MemPlace} {tb:TypeId} (hl:laidOutB P=true) (hb:Below W.heap.size W W')
 (hs:s.vars=[]) (hfn:∀ ds:List (DataW H),ds.length=fn.params.size->s.fn H ds={results:=[.lit (.bool true)],args:=ds })
 (hr:∀ t∈fn.params.toList,P.readableRec t=true/\t < P.types.size) (hres:fn.resultTypes= #[tb]) (htb:P.underlying tb=some .bool)
 (hW:DataW.Whole enc P fn.params.toList s.vars apart W args.toList ds gs before):
 s.post enc P fn apart true false false W args (.bool true) W':=by
 have hlt:=hW.lt
 have hW':=hW
 obtain⟨p,q,hA,hV,rfl,_,_⟩:=hW
 rw[hs]at hV
 obtain⟨rfl,rfl⟩:=trodVars_none hV
 have hlen:∀ {ts:List TypeId} {vs:List Value} {ds:List (DataW H)} {ps:List MemPlace},DataW.TrodAll enc P W 0 (fun _=>true) true ts vs ds ps->ds.length=ts.length:=by
   intro ts
   induction ts with
   |nil=>intro vs ds ps h;obtain⟨_,rfl,_⟩:=trodAll_nil h;rfl
   |cons t ts ih=>intro vs ds ps h;obtain⟨_,_,_,_,_,_,_,rfl,_,_,h2⟩:=trodAll_cons h;simp[ih h2]
 have e:=hfn ds (by rw[hlen hA];simp)
 refine⟨ds,[],p++[],[],p,[],hW',?_,?_,?_,hb.frame _,fun h=>by cases h⟩
 ·rw[List.append_nil,e,hres]
  exact trodAll_mk1 (shut_bool htb true)
 ·rw[List.append_nil,e]
  exact b8m hl hb hr hA fun x hx=>hlt x (by simp[hx])
 ·rw[List.append_nil,e,hs]
  rfl
end
end Go.Vm
namespace Go.Vm
open Go.ChangeShapes Go.WideShapes Go.ChangeAt Go.RowKit
section
variable {H:Type} {enc:TypeId×Value->H} {P:Program}
def h7x (l:List (Nat×List D)) (i:Nat):List D:=((l.find? (·.1==i)).map (·.2)).getD []
def d7d (w:World) (l:List Nat) (i:Nat):Option Obj:=if i∈l then w.heap[i]? else none
theorem f5d (w:World) (l:List Nat) (i:Nat) (o:Obj) (h:d7d w l i=some o):w.heap[i]? =some o:=by
 unfold d7d at h;split at h
 ·exact h
 ·cases h
theorem e7l {w:World} (l:List (Nat×List D)) {fx:Nat->Option Obj} (hfx:∀ i o,fx i=some o->w.heap[i]? =some o) (h:∀ p∈l,∃ vs,vs <+:contents w p.1/\a1j (contents w) p.2 vs):c8g ⟨h7x l,fx⟩ w:=by
 refine⟨fun i=>?_,hfx⟩
 show ∃ vs,vs <+:contents w i/\a1j (contents w) (h7x l i) vs
 unfold h7x
 cases hf:l.find? (·.1==i)with
 |none=>exact⟨[],List.nil_prefix,by simp[a1j]⟩
 |some p=>
  have hm:=List.mem_of_find?_eq_some hf
  have he:=List.find?_some hf
  simp only[beq_iff_eq]at he
  subst he
  exact h p hm
theorem d5w {pg:Pg} (hT:c0x P pg) (hmx:P.follows .mixedOrders=true) {f:Nat} {fn:Func} {s:ChangeSpec} {apart:Bool} {W:World} {base m:Nat} {args:Array Value} {ds gs:List (DataW H)} {before:List MemPlace} {tb:TypeId} (hl:laidOutB P=true)
 (hs:s.vars=[]) (hfn:∀ ds:List (DataW H),ds.length=fn.params.size->s.fn H ds={results:=[.lit (.bool true)],args:=ds })
 (hr:∀ t∈fn.params.toList,(P.readableRec t=true/\t < P.types.size)/\a6u P m t=true) (hres:fn.resultTypes= #[tb]) (htb:P.underlying tb=some .bool)
 (hval:∀ (j:Nat) t v,fn.params[j]? =some t->args[j]? =some v->Value.okWide P W .any base t v)
 (hW:DataW.Whole enc P fn.params.toList s.vars apart W args.toList ds gs before) (hg:c8g pg.toCx W)
 (hkey:ds.length=fn.params.size->(∀ (i:Nat) t x,fn.params[i]? =some t->ds[i]? =some x->d8f P m t (dwD x))->∃ H',evF pg f ((ds.map dwD).map V.d) []=some (.d (.bool true),H')):
 Calls P f args W fun e W'=> ∃ v,e= .returned v/\s.post enc P fn apart true false false W args v W':=by
 have hW':=hW
 obtain⟨p,q,hA,_⟩:=hW
 obtain⟨h1,h2,h3⟩:=f9g (m:=m) hA (fun t ht=>(hr t ht).2) (fun j t v ht hv=>hval j t v (by simpa using ht) (by simpa using hv))
 obtain⟨H',hev⟩:=hkey (by simpa using h2) fun i t x ht hx=>h3 i t x (by simpa using ht) hx
 refine(front hT hmx hg h1 hev).mono fun e W' he=>?_
 exact⟨_,he.1,f2o hl he.2 hs hfn (fun t ht=>(hr t ht).1) hres htb hW'⟩
end
end Go.Vm
namespace Go.Vm
open Go.RowKit
section
variable {P:Program} {cx:Cx} {g:Gh} {H:Hp} {w w':World}
theorem Inv.below (hI:Inv cx g H w) (h:Below w.heap.size w w'):Inv cx g H w'/\Ext H.length g H w g H w':=by
 have hk:Keep H.length g H g H:=Keep.refl _ _ _
 refine⟨⟨hI.inj,fun i b c hj=>⟨(hI.dom i b c hj).1,Nat.lt_of_lt_of_le (hI.dom i b c hj).2 h.size⟩,fun i b c o hj ho=>?_,fun b hb=>?_,hI.und,hI.glob,hI.fix.mono fun b hb hn=>⟨h.block b hb,hn⟩⟩,⟨h.os,h.tape,h.output,h.size,fun b hb _=>⟨h.block b hb,rfl⟩,hk,fun i b c hj _=>⟨i,c,hj⟩,fun _ _ h=>h,Nat.le_refl _⟩⟩
 ·have hd:=hI.dom i b c hj
  exact(hI.ob i b c o hj ho).ext hk.w (h.block b hd.2) rfl (by rintro c' rfl;exact hI.und i c' hd.1 ho)
 ·obtain⟨cur,e,fz,h1,h2⟩:=hI.imm b hb
  exact⟨cur,e,fz,by rw[h.block b (Array.getElem?_eq_some_iff.1 h1).1];exact h1,h2⟩
theorem g0e {f:Nat} {args:List V} {r:D} (hfn:∃ fn,P.funcs[f]? =some fn/\fn.body.isNone=false/\(fn.name== "runtime.NumGoroutine")=false)
 (hc:∀ g w (cargs:Array Value),Inv cx g H w->a0z g H args cargs.toList->Calls P f cargs w fun e w'=> ∃ x,e= .returned x/\a3j g.C r x/\Below w.heap.size w w'):a8g P cx f args H (.d r) H:=by
 refine⟨hfn,fun g w cargs hI ra ua=>(hc g w cargs hI ra).mono fun e w' he=>?_⟩
 obtain⟨x,h1,h2,h3⟩:=he
 obtain⟨k1,k2⟩:=hI.below h3
 exact⟨g,x,h1,k1,by simpa only[Rep] using h2,rfl,k2⟩
theorem h4y (hI:Inv cx g H w) {n:String} {i:Nat} (hg:P.globalNamed n=some i) {cs:Array Value} {t:TypeId} {fz:Nat×Nat} (hf:cx.fx i=some (.cells cs t fz)):w.var? P n=some cs:=by
 unfold World.var?
 rw[hg]
 simp only[Option.bind_some,(hI.fix i _ hf).1]
theorem c9p {s:List UInt8} {r:List V} {vs:List Value} (h:a0z g H (.d (.str s)::r) vs):∃ ys,vs= .string ⟨s.toArray⟩::ys/\a0z g H r ys:=by
 simp only[a0z]at h
 obtain⟨y,ys,rfl,h1,h2⟩:=h
 simp only[Rep,a3j,a0q,List.cons.injEq,and_true]at h1
 exact⟨ys,by rw[h1],h2⟩
theorem f5o {k:IntKind} {n:Int} {r:List V} {vs:List Value} (h:a0z g H (.d (.int k n)::r) vs):∃ ys,vs= .int k n::ys/\a0z g H r ys:=by
 simp only[a0z]at h
 obtain⟨y,ys,rfl,h1,h2⟩:=h
 simp only[Rep,a3j,a0q,List.cons.injEq,and_true]at h1
 exact⟨ys,by rw[h1],h2⟩
theorem e1i {vs:List Value} (h:a0z g H [] vs):vs=[]:=by simpa only[a0z] using h
end
end Go.Vm
namespace Go.Vm
open Go.RowKit
section
variable {P:Program} {cx:Cx}
def e2o (P:Program) (f:Nat):Prop:=∃ fn,P.funcs[f]? =some fn/\fn.body.isNone=false/\(fn.name== "runtime.NumGoroutine")=false
def TabAt (P:Program) (cx:Cx) (name:String) (k:IntKind) (zs:List Int):Prop:=∃ i t fz,P.globalNamed name=some i/\cx.fx i=some (.cells (zs.map fun z=>Value.int k z).toArray t fz)
theorem TabAt.is {name:String} {k:IntKind} {zs:List Int} (h:TabAt P cx name k zs) {g:Gh} {H:Hp} {w:World} (hI:Inv cx g H w):Lib.TabIs P w name k zs:=by
 obtain⟨i,t,fz,h1,h2⟩:=h
 exact h4y hI h1 h2
end
end Go.Vm
namespace Go.Vm
open Go.RowKit
def a4r:List V->Hp->Option (V×Hp)
 |[.d (.str s),.d (.int .u8 c)],H=>some (.d (.int .i64 (Lib.indexByte s c.toNat.toUInt8)),H)
 |_,_=>none
section
variable {P:Program} {cx:Cx}
theorem f5k {f:Nat} {args:List V} {H:Hp} {r:V} (hu:∀ n,r.und n=true) (hfn:e2o P f)
 (hc:∀ g w (cargs:Array Value),Inv cx g H w->a0z g H args cargs.toList->Calls P f cargs w fun e w'=> ∃ x,e= .returned x/\Rep g H r x/\Below w.heap.size w w'):a8g P cx f args H r H:=by
 refine⟨hfn,fun g w cargs hI ra ua=>(hc g w cargs hI ra).mono fun e w' he=>?_⟩
 obtain⟨x,h1,h2,h3⟩:=he
 obtain⟨k1,k2⟩:=hI.below h3
 exact⟨g,x,h1,k1,h2,hu _,k2⟩
theorem c6y {f:Nat} (hf:e2o P f)
 (hc:∀ (s:ByteArray) (c:Int) (w:World),Calls P f #[.string s,.int .u8 c] w fun e w'=>e= .returned (.int .i64 (Lib.indexByte s.data.toList c.toNat.toUInt8))/\w'=w):
 ∀ args H r H',a4r args H=some (r,H')->a8g P cx f args H r H':=by
 intro args H r H' h
 unfold a4r at h
 split at h
 ·rename_i H0 s c
  cases h
  refine g0e hf fun g w cargs hI ra=>?_
  obtain⟨ys,e1,r1⟩:=c9p ra
  obtain⟨zs,e2,r2⟩:=f5o r1
  rw[e1i r2]at e2
  rw[e2]at e1
  have:cargs= #[.string ⟨s.toArray⟩,.int .u8 c]:=by apply Array.toList_inj.1;exact e1
  subst this
  refine(hc ⟨s.toArray⟩ c w).mono fun e w' he=>?_
  obtain⟨e2,rfl⟩:=he
  exact⟨_,e2,by simp only[a3j,a0q],Below.refl _ _⟩
 ·cases h
def h1y (cx:Cx) (i:Nat):Prop:=∃ ev t fz,cx.fx i=some (.cells #[ev] t fz)/\(ev= .nilIface\/∃ te pe,ev= .iface te pe)
theorem h1y.cell {i:Nat} (h:h1y cx i) {g:Gh} {H:Hp} {w:World} (hI:Inv cx g H w):∃ ev,w.cell? ⟨i,0,none⟩=some ev/\(ev= .nilIface\/∃ te pe,ev= .iface te pe):=by
 obtain⟨ev,t,fz,h1,h2⟩:=h
 refine⟨ev,?_,h2⟩
 unfold World.cell?
 simp[(hI.fix i _ h1).1]
end
end Go.Vm
namespace Go.Vm
open Go.RowKit
def c1o:List V->Hp->Option (V×Hp)
 |[.d (.str s),.d (.str p)],H=>if s.length < 4294967281 then some (.tup [.d (.str (Lib.cut s p).1),.d (.str (Lib.cut s p).2.1),.d (.bool (Lib.cut s p).2.2)],H) else none
 |_,_=>none
section
variable {P:Program} {cx:Cx}
theorem below_drewN (w:World) (n:Nat):Below w.heap.size w (w.drewN n):=by
 induction n with
 |zero=>exact Below.refl _ w
 |succ n ih=>first|exact ih.drew|exact ih
theorem f6p {f:Nat} (hf:e2o P f) {T:World->Prop} (hT:∀ g H w,Inv cx g H w->T w)
 (hc:∀ (s p:ByteArray) (w:World),s.size < 4294967281->T w->Calls P f #[.string s,.string p] w fun e w'=>e= .returned (.tuple #[.string ⟨(Lib.cut s.data.toList p.data.toList).1.toArray⟩,.string ⟨(Lib.cut s.data.toList p.data.toList).2.1.toArray⟩,.bool (Lib.cut s.data.toList p.data.toList).2.2])/\∃ n,w'=w.drewN n):
 ∀ args H r H',c1o args H=some (r,H')->a8g P cx f args H r H':=by
 intro args H r H' h
 unfold c1o at h
 split at h
 ·rename_i H0 s p
  split at h
  ·rename_i hs
   cases h
   refine f5k (fun _=>rfl) hf fun g w cargs hI ra=>?_
   obtain⟨ys,e1,r1⟩:=c9p ra
   obtain⟨zs,e2,r2⟩:=c9p r1
   rw[e1i r2]at e2
   rw[e2]at e1
   have:cargs= #[.string ⟨s.toArray⟩,.string ⟨p.toArray⟩]:=by apply Array.toList_inj.1;exact e1
   subst this
   refine(hc ⟨s.toArray⟩ ⟨p.toArray⟩ w (by simpa [ByteArray.size] using hs) (hT g H w hI)).mono fun e w' he=>?_
   obtain⟨e3,k,rfl⟩:=he
   refine⟨_,e3,?_,below_drewN w k⟩
   simp only[Rep,a0z]
   exact⟨_,rfl,_,_,rfl,by simp only[a3j,a0q],_,_,rfl,by simp only[a3j,a0q],_,_,rfl,by simp only[a3j,a0q],rfl⟩
  ·cases h
 ·cases h
end
end Go.Vm
namespace Go.Vm
def g8z (F:List V->Hp->Option (V×Hp)):Prop:=∀ a h r h',F a h=some (r,h')->a1a 0 a=true/\r.und 0=true/\h'=h/\∀ H,F a H=some (r,H)
end Go.Vm
namespace Go.Vm.Ite
open Go Go.Vm Go.Proofs
theorem k5:a0d 5 Q5:={}
theorem k7:a0d 7 Q7:={}
theorem k8:a0d 8 Q8:={}
theorem k10:a0d 10 Q10:={}
theorem k11:a0d 11 Q11:={}
theorem k13:a0d 13 Q13:={}
theorem k14:a0d 14 Q14:={}
theorem k18:a0d 18 Q18:={}
theorem k19:a0d 19 Q19:={}
theorem k20:a0d 20 Q20:={}
theorem k21:a0d 21 Q21:={}
theorem k24:a0d 24 Q24:={}
theorem k25:a0d 25 Q25:={}
theorem k26:a0d 26 Q26:={}
theorem k27:a0d 27 Q27:={}
theorem k28:a0d 28 Q28:={}
theorem k29:a0d 29 Q29:={}
theorem k30:a0d 30 Q30:={}
theorem k31:a0d 31 Q31:={}
theorem k32:a0d 32 Q32:={}
theorem k33:a0d 33 Q33:={}
theorem k34:a0d 34 Q34:={}
theorem k35:a0d 35 Q35:={}
theorem k36:a0d 36 Q36:={}
theorem k37:a0d 37 Q37:={}
theorem k38:a0d 38 Q38:={}
theorem k39:a0d 39 Q39:={}
theorem k53:a0d 53 Q53:={}
theorem k56:a0d 56 Q56:={}
theorem k59:a0d 59 Q59:={}
theorem k60:a0d 60 Q60:={}
theorem k61:a0d 61 Q61:={}
theorem k62:a0d 62 Q62:={}
theorem k63:a0d 63 Q63:={}
theorem k64:a0d 64 Q64:={}
theorem k72:a0d 72 Q72:={}
theorem k73:a0d 73 Q73:={}
theorem k74:a0d 74 Q74:={}
theorem k75:a0d 75 Q75:={}
theorem k76:a0d 76 Q76:={}
theorem k77:a0d 77 Q77:={}
theorem k78:a0d 78 Q78:={}
theorem k79:a0d 79 Q79:={}
theorem k80:a0d 80 Q80:={}
theorem k81:a0d 81 Q81:={}
theorem k90:a0d 90 Q90:={}
theorem k92:a0d 92 Q92:={}
theorem k93:a0d 93 Q93:={}
theorem k95:a0d 95 Q95:={}
theorem k96:a0d 96 Q96:={}
theorem k97:a0d 97 Q97:={}
theorem k98:a0d 98 Q98:={}
theorem k99:a0d 99 Q99:={}
theorem k100:a0d 100 Q100:={}
theorem k101:a0d 101 Q101:={}
theorem k102:a0d 102 Q102:={}
theorem k103:a0d 103 Q103:={}
theorem k104:a0d 104 Q104:={}
theorem k105:a0d 105 Q105:={}
theorem k106:a0d 106 Q106:={}
theorem k107:a0d 107 Q107:={}
theorem k108:a0d 108 Q108:={}
theorem k115:a0d 115 Q115:={}
theorem k116:a0d 116 Q116:={}
theorem k117:a0d 117 Q117:={}
theorem k118:a0d 118 Q118:={}
theorem k119:a0d 119 Q119:={}
theorem k120:a0d 120 Q120:={}
theorem k128:a0d 128 Q128:={}
theorem k129:a0d 129 Q129:={}
theorem k132:a0d 132 Q132:={}
theorem k133:a0d 133 Q133:={}
theorem k134:a0d 134 Q134:={}
theorem k135:a0d 135 Q135:={}
theorem k136:a0d 136 Q136:={}
theorem k137:a0d 137 Q137:={}
theorem k138:a0d 138 Q138:={}
theorem k139:a0d 139 Q139:={}
theorem k140:a0d 140 Q140:={}
theorem k141:a0d 141 Q141:={}
theorem k144:a0d 144 Q144:={}
theorem k145:a0d 145 Q145:={}
theorem k146:a0d 146 Q146:={}
theorem k147:a0d 147 Q147:={}
theorem k149:a0d 149 Q149:={}
theorem k150:a0d 150 Q150:={}
theorem k152:a0d 152 Q152:={}
theorem k153:a0d 153 Q153:={}
theorem k154:a0d 154 Q154:={}
theorem k158:a0d 158 Q158:={}
theorem k159:a0d 159 Q159:={}
theorem k160:a0d 160 Q160:={}
theorem k163:a0d 163 Q163:={}
theorem k164:a0d 164 Q164:={}
theorem k165:a0d 165 Q165:={}
theorem k168:a0d 168 Q168:={}
theorem k169:a0d 169 Q169:={}
theorem k170:a0d 170 Q170:={}
theorem k171:a0d 171 Q171:={}
theorem k172:a0d 172 Q172:={}
theorem k175:a0d 175 Q175:={}
theorem k176:a0d 176 Q176:={}
theorem k177:a0d 177 Q177:={}
theorem k178:a0d 178 Q178:={}
theorem k182:a0d 182 Q182:={}
theorem k183:a0d 183 Q183:={}
theorem k184:a0d 184 Q184:={}
theorem k185:a0d 185 Q185:={}
theorem k187:a0d 187 Q187:={}
theorem k188:a0d 188 Q188:={}
theorem k189:a0d 189 Q189:={}
theorem k190:a0d 190 Q190:={}
theorem k191:a0d 191 Q191:={}
theorem k192:a0d 192 Q192:={}
theorem k193:a0d 193 Q193:={}
theorem k194:a0d 194 Q194:={}
theorem k195:a0d 195 Q195:={}
theorem h3p (cx:Cx) (F:Nat->Option a0x) (hF:∀ f e,F f=some e->match e with| .prim p=> ∀ args H r H',p args H=some (r,H')->a8g Tryz.prog cx f args H r H'| .code _=>False):c0x Tryz.prog ⟨cx,(tbl F)⟩:=by
  intro f e h
  simp only at h
  unfold tbl at h
  split at h
  ·cases h;exact k5.ex Tryz.func5
  ·cases h;exact k7.ex Tryz.func7
  ·cases h;exact k8.ex Tryz.func8
  ·cases h;exact k10.ex Tryz.func10
  ·cases h;exact k11.ex Tryz.func11
  ·cases h;exact k13.ex Tryz.func13
  ·cases h;exact k14.ex Tryz.func14
  ·cases h;exact k18.ex Tryz.func18
  ·cases h;exact k19.ex Tryz.func19
  ·cases h;exact k20.ex Tryz.func20
  ·cases h;exact k21.ex Tryz.func21
  ·cases h;exact k24.ex Tryz.func24
  ·cases h;exact k25.ex Tryz.func25
  ·cases h;exact k26.ex Tryz.func26
  ·cases h;exact k27.ex Tryz.func27
  ·cases h;exact k28.ex Tryz.func28
  ·cases h;exact k29.ex Tryz.func29
  ·cases h;exact k30.ex Tryz.func30
  ·cases h;exact k31.ex Tryz.func31
  ·cases h;exact k32.ex Tryz.func32
  ·cases h;exact k33.ex Tryz.func33
  ·cases h;exact k34.ex Tryz.func34
  ·cases h;exact k35.ex Tryz.func35
  ·cases h;exact k36.ex Tryz.func36
  ·cases h;exact k37.ex Tryz.func37
  ·cases h;exact k38.ex Tryz.func38
  ·cases h;exact k39.ex Tryz.func39
  ·cases h;exact k53.ex Tryz.func53
  ·cases h;exact k56.ex Tryz.func56
  ·cases h;exact k59.ex Tryz.func59
  ·cases h;exact k60.ex Tryz.func60
  ·cases h;exact k61.ex Tryz.func61
  ·cases h;exact k62.ex Tryz.func62
  ·cases h;exact k63.ex Tryz.func63
  ·cases h;exact k64.ex Tryz.func64
  ·cases h;exact k72.ex Tryz.func72
  ·cases h;exact k73.ex Tryz.func73
  ·cases h;exact k74.ex Tryz.func74
  ·cases h;exact k75.ex Tryz.func75
  ·cases h;exact k76.ex Tryz.func76
  ·cases h;exact k77.ex Tryz.func77
  ·cases h;exact k78.ex Tryz.func78
  ·cases h;exact k79.ex Tryz.func79
  ·cases h;exact k80.ex Tryz.func80
  ·cases h;exact k81.ex Tryz.func81
  ·cases h;exact k90.ex Tryz.func90
  ·cases h;exact k92.ex Tryz.func92
  ·cases h;exact k93.ex Tryz.func93
  ·cases h;exact k95.ex Tryz.func95
  ·cases h;exact k96.ex Tryz.func96
  ·cases h;exact k97.ex Tryz.func97
  ·cases h;exact k98.ex Tryz.func98
  ·cases h;exact k99.ex Tryz.func99
  ·cases h;exact k100.ex Tryz.func100
  ·cases h;exact k101.ex Tryz.func101
  ·cases h;exact k102.ex Tryz.func102
  ·cases h;exact k103.ex Tryz.func103
  ·cases h;exact k104.ex Tryz.func104
  ·cases h;exact k105.ex Tryz.func105
  ·cases h;exact k106.ex Tryz.func106
  ·cases h;exact k107.ex Tryz.func107
  ·cases h;exact k108.ex Tryz.func108
  ·cases h;exact k115.ex Tryz.func115
  ·cases h;exact k116.ex Tryz.func116
  ·cases h;exact k117.ex Tryz.func117
  ·cases h;exact k118.ex Tryz.func118
  ·cases h;exact k119.ex Tryz.func119
  ·cases h;exact k120.ex Tryz.func120
  ·cases h;exact k128.ex Tryz.func128
  ·cases h;exact k129.ex Tryz.func129
  ·cases h;exact k132.ex Tryz.func132
  ·cases h;exact k133.ex Tryz.func133
  ·cases h;exact k134.ex Tryz.func134
  ·cases h;exact k135.ex Tryz.func135
  ·cases h;exact k136.ex Tryz.func136
  ·cases h;exact k137.ex Tryz.func137
  ·cases h;exact k138.ex Tryz.func138
  ·cases h;exact k139.ex Tryz.func139
  ·cases h;exact k140.ex Tryz.func140
  ·cases h;exact k141.ex Tryz.func141
  ·cases h;exact k144.ex Tryz.func144
  ·cases h;exact k145.ex Tryz.func145
  ·cases h;exact k146.ex Tryz.func146
  ·cases h;exact k147.ex Tryz.func147
  ·cases h;exact k149.ex Tryz.func149
  ·cases h;exact k150.ex Tryz.func150
  ·cases h;exact k152.ex Tryz.func152
  ·cases h;exact k153.ex Tryz.func153
  ·cases h;exact k154.ex Tryz.func154
  ·cases h;exact k158.ex Tryz.func158
  ·cases h;exact k159.ex Tryz.func159
  ·cases h;exact k160.ex Tryz.func160
  ·cases h;exact k163.ex Tryz.func163
  ·cases h;exact k164.ex Tryz.func164
  ·cases h;exact k165.ex Tryz.func165
  ·cases h;exact k168.ex Tryz.func168
  ·cases h;exact k169.ex Tryz.func169
  ·cases h;exact k170.ex Tryz.func170
  ·cases h;exact k171.ex Tryz.func171
  ·cases h;exact k172.ex Tryz.func172
  ·cases h;exact k175.ex Tryz.func175
  ·cases h;exact k176.ex Tryz.func176
  ·cases h;exact k177.ex Tryz.func177
  ·cases h;exact k178.ex Tryz.func178
  ·cases h;exact k182.ex Tryz.func182
  ·cases h;exact k183.ex Tryz.func183
  ·cases h;exact k184.ex Tryz.func184
  ·cases h;exact k185.ex Tryz.func185
  ·cases h;exact k187.ex Tryz.func187
  ·cases h;exact k188.ex Tryz.func188
  ·cases h;exact k189.ex Tryz.func189
  ·cases h;exact k190.ex Tryz.func190
  ·cases h;exact k191.ex Tryz.func191
  ·cases h;exact k192.ex Tryz.func192
  ·cases h;exact k193.ex Tryz.func193
  ·cases h;exact k194.ex Tryz.func194
  ·cases h;exact k195.ex Tryz.func195
  ·have:=hF f e h;split
   ·exact this
   ·exact absurd this id
theorem h3o (cx:Cx) (F:Nat->Option a0x) (hF:∀ f e,F f=some e->match e with| .prim p=>g8z p| .code _=>False):c7r ⟨cx,(tbl F)⟩:=by
  constructor
  ·intro f F h
   simp only at h
   unfold tbl at h
   split at h
   iterate 117 · cases h
   ·exact hF _ _ h
  ·intro f vf h
   simp only at h
   unfold tbl at h
   split at h
   ·cases h;exact k5.cst
   ·cases h;exact k7.cst
   ·cases h;exact k8.cst
   ·cases h;exact k10.cst
   ·cases h;exact k11.cst
   ·cases h;exact k13.cst
   ·cases h;exact k14.cst
   ·cases h;exact k18.cst
   ·cases h;exact k19.cst
   ·cases h;exact k20.cst
   ·cases h;exact k21.cst
   ·cases h;exact k24.cst
   ·cases h;exact k25.cst
   ·cases h;exact k26.cst
   ·cases h;exact k27.cst
   ·cases h;exact k28.cst
   ·cases h;exact k29.cst
   ·cases h;exact k30.cst
   ·cases h;exact k31.cst
   ·cases h;exact k32.cst
   ·cases h;exact k33.cst
   ·cases h;exact k34.cst
   ·cases h;exact k35.cst
   ·cases h;exact k36.cst
   ·cases h;exact k37.cst
   ·cases h;exact k38.cst
   ·cases h;exact k39.cst
   ·cases h;exact k53.cst
   ·cases h;exact k56.cst
   ·cases h;exact k59.cst
   ·cases h;exact k60.cst
   ·cases h;exact k61.cst
   ·cases h;exact k62.cst
   ·cases h;exact k63.cst
   ·cases h;exact k64.cst
   ·cases h;exact k72.cst
   ·cases h;exact k73.cst
   ·cases h;exact k74.cst
   ·cases h;exact k75.cst
   ·cases h;exact k76.cst
   ·cases h;exact k77.cst
   ·cases h;exact k78.cst
   ·cases h;exact k79.cst
   ·cases h;exact k80.cst
   ·cases h;exact k81.cst
   ·cases h;exact k90.cst
   ·cases h;exact k92.cst
   ·cases h;exact k93.cst
   ·cases h;exact k95.cst
   ·cases h;exact k96.cst
   ·cases h;exact k97.cst
   ·cases h;exact k98.cst
   ·cases h;exact k99.cst
   ·cases h;exact k100.cst
   ·cases h;exact k101.cst
   ·cases h;exact k102.cst
   ·cases h;exact k103.cst
   ·cases h;exact k104.cst
   ·cases h;exact k105.cst
   ·cases h;exact k106.cst
   ·cases h;exact k107.cst
   ·cases h;exact k108.cst
   ·cases h;exact k115.cst
   ·cases h;exact k116.cst
   ·cases h;exact k117.cst
   ·cases h;exact k118.cst
   ·cases h;exact k119.cst
   ·cases h;exact k120.cst
   ·cases h;exact k128.cst
   ·cases h;exact k129.cst
   ·cases h;exact k132.cst
   ·cases h;exact k133.cst
   ·cases h;exact k134.cst
   ·cases h;exact k135.cst
   ·cases h;exact k136.cst
   ·cases h;exact k137.cst
   ·cases h;exact k138.cst
   ·cases h;exact k139.cst
   ·cases h;exact k140.cst
   ·cases h;exact k141.cst
   ·cases h;exact k144.cst
   ·cases h;exact k145.cst
   ·cases h;exact k146.cst
   ·cases h;exact k147.cst
   ·cases h;exact k149.cst
   ·cases h;exact k150.cst
   ·cases h;exact k152.cst
   ·cases h;exact k153.cst
   ·cases h;exact k154.cst
   ·cases h;exact k158.cst
   ·cases h;exact k159.cst
   ·cases h;exact k160.cst
   ·cases h;exact k163.cst
   ·cases h;exact k164.cst
   ·cases h;exact k165.cst
   ·cases h;exact k168.cst
   ·cases h;exact k169.cst
   ·cases h;exact k170.cst
   ·cases h;exact k171.cst
   ·cases h;exact k172.cst
   ·cases h;exact k175.cst
   ·cases h;exact k176.cst
   ·cases h;exact k177.cst
   ·cases h;exact k178.cst
   ·cases h;exact k182.cst
   ·cases h;exact k183.cst
   ·cases h;exact k184.cst
   ·cases h;exact k185.cst
   ·cases h;exact k187.cst
   ·cases h;exact k188.cst
   ·cases h;exact k189.cst
   ·cases h;exact k190.cst
   ·cases h;exact k191.cst
   ·cases h;exact k192.cst
   ·cases h;exact k193.cst
   ·cases h;exact k194.cst
   ·cases h;exact k195.cst
   ·exact absurd (hF _ _ h) id
end Go.Vm.Ite
namespace Go.Vm
open Go.ChangeShapes Go.WideShapes Go.ChangeAt Go.RowKit
def f2t (P:Program):Nat->TypeId->D->Prop
 |0,_,_=>False
 |m+1,t,x=>match P.underlying t with
  |some .bool=> ∃ b,x= .bool b
  |some (.int k)=> ∃ n,x= .int k n/\(Lit.int k n).wf=true
  |some .string=> ∃ s,x= .str s/\s.length<=reachBytes
  |some (.slice e)=> ∃ l,x= .sl l/\l.length*P.bytesOf e<=reachBytes/\∀ y∈l,f2t P m e y
  |some (.struct fs)=> ∃ xs:List D,x= .agg (xs.flatMap D.cells)/\xs.length=fs.toList.length/\∀ (i:Nat) (f:Field) (y:D),fs.toList[i]? =some f->xs[i]? =some y->f2t P m f.type y
  |some (.array n e)=> ∃ xs:List D,x= .agg (xs.flatMap D.cells)/\xs.length=n/\∀ y∈xs,f2t P m e y
  |_=>False
def d9t (l:List Nat):Prop:=∀ n∈l,n<=reachBytes
theorem g1q {l:List Nat} (h:l.all (· <=reachBytes)=true):d9t l:=fun n hn=>by
  have:=List.all_eq_true.1 h n hn
  simpa using this
theorem d9t.l {a b:List Nat} (h:d9t (a++b)):d9t a:=fun n hn=>h n (List.mem_append_left _ hn)
theorem d9t.r {a b:List Nat} (h:d9t (a++b)):d9t b:=fun n hn=>h n (List.mem_append_right _ hn)
section
variable {H:Type} {enc:TypeId×Value->H} {P:Program} {w:World} {base:Nat} {spare:Nat->Bool} {held:Bool}
theorem b7i {e:TypeId}:∀ {l:List (DataW H)},d9t (DataW.weightsAll P e l)->∀ y∈l,d9t (y.weights P e)
 |[],_,y,hy=>by cases hy
 |x::r,h,y,hy=>by
  simp only[DataW.weightsAll]at h
  rcases List.mem_cons.1 hy with q|q
  ·exact q ▸ h.l
  ·exact b7i h.r y q
theorem c1s:∀ {ts:List TypeId} {l:List (DataW H)},d9t (DataW.weightsEach P ts l)->∀ (i:Nat) t y,ts[i]? =some t->l[i]? =some y->d9t (y.weights P t)
 |[],_,_,i,t,y,h,_=>by simp at h
 |_::_,[],_,i,t,y,_,h=>by simp at h
 |t0::ts,x::r,h,i,t,y,ht,hy=>by
  simp only[DataW.weightsEach]at h
  cases i with
  |zero=>
   simp only[List.getElem?_cons_zero,Option.some.injEq]at ht hy
   subst ht;subst hy
   exact h.l
  |succ i=>exact c1s h.r i t y (by simpa using ht) (by simpa using hy)
theorem mapM_mem {α β:Type} {F:α->Option β}:∀ {l:List α} {r:List β},l.mapM F=some r->∀ y∈r,∃ x∈l,F x=some y
 |[],r,h,y,hy=>by
  simp only[List.mapM_nil,Option.pure_def,Option.some.injEq]at h
  subst h;cases hy
 |a::l,r,h,y,hy=>by
  simp only[List.mapM_cons,Option.bind_eq_bind,Option.bind_eq_some_iff,Option.pure_def,Option.some.injEq]at h
  obtain⟨z,hz,ys,hys,rfl⟩:=h
  rcases List.mem_cons.1 hy with q|q
  ·exact⟨a,by simp,q ▸ hz⟩
  ·obtain⟨x,hx,hf⟩:=mapM_mem hys y q
   exact⟨x,by simp[hx],hf⟩
theorem h2s:∀ (fuel m:Nat) (t:TypeId) (cs:List Value) (x:DataW H×List MemPlace),a6u P m t=true->DataW.trod enc P w base spare held fuel t cs=some x->d9t (x.1.weights P t)->f2t P m t (dwD x.1):=by
 intro fuel
 induction fuel with
 |zero=>intro m t cs x _ h;simp[DataW.trod]at h
 |succ fuel ih=>
  intro m t cs x hp h hw
  cases m with
  |zero=>simp[a6u]at hp
  |succ m=>
   simp only[a6u]at hp
   simp only[f2t]
   have h':=h
   unfold DataW.trod at h'
   cases hu:P.underlying t with
   |none=>rw[hu]at hp;cases hp
   |some u=>
    rw[hu]at hp h'
    cases u with
    |bool=>
     split at h'<;>first|(rename_i q;cases q;done)|skip
     ·rename_i b _
      cases h'
      exact⟨b,rfl⟩
     ·cases h'
    |int k=>
     obtain⟨n,rfl,rfl,hwf⟩:=DataW.trod_int hu h
     exact⟨n,rfl,hwf⟩
    |string=>
     split at h'<;>first|(rename_i q;cases q;done)|skip
     ·rename_i s _
      split at h'
      ·cases h'
       exact⟨s.data.toList,rfl,hw _ (by simp[DataW.weights])⟩
      ·cases h'
     ·cases h'
    |slice e=>
     simp only[Bool.and_eq_true,decide_eq_true_eq]at hp
     split at h'<;>first|(rename_i q;cases q;done)|skip
     ·cases h'
      exact⟨[],rfl,by simp,by simp⟩
     ·rename_i e' a len cap q
      cases q
      simp only at h'
      split at h'
      case isFalse=>cases h'
      obtain⟨xs,hxs,hrest⟩:=Option.bind_eq_some_iff.1 h'
      obtain⟨rest,_,rfl⟩:=Option.map_eq_some_iff.1 hrest
      have hd:dwD (DataW.slice (xs.map (·.1)) (rest.map (·.1)))= .sl (xs.map fun x=>dwD x.1):=by simp[dwD,f0v,Function.comp_def]
      rw[hd]
      simp only[DataW.weights,hu]at hw
      refine⟨_,rfl,?_,fun y hy=>?_⟩
      ·have h1:=hw _ (List.mem_cons_self ..)
       rw[List.length_map]at h1⊢
       exact Nat.le_trans (Nat.mul_le_mul_right _ (Nat.le_add_right _ _)) h1
      ·obtain⟨z,hz,rfl⟩:=List.mem_map.1 hy
       obtain⟨i,_,hf⟩:=mapM_mem hxs z hz
       obtain⟨cs,_,hf⟩:=Option.bind_eq_some_iff.1 hf
       have h2:d9t (DataW.weightsAll P e (xs.map (·.1))):=fun n hn=>hw n (List.mem_cons_of_mem _ (List.mem_append_left _ hn))
       exact ih m e cs z hp.2 hf (b7i h2 _ (List.mem_map.2 ⟨z,hz,rfl⟩))
     ·cases h'
    |struct fs=>
     simp only[Bool.and_eq_true]at hp
     have hstr:(if cs.length=P.cellsOf t then(fs.toList.mapM fun f=>DataW.trod enc P w base spare held fuel f.type ((cs.drop f.offset).take (P.cellsOf f.type))).map fun xs=>(DataW.agg (xs.map (·.1)),xs.flatMap (·.2)) else none)=some x:=h'
     split at hstr
     ·obtain⟨xs,hxs,rfl⟩:=Option.map_eq_some_iff.1 hstr
      have hd:dwD (DataW.agg (xs.map (·.1)))= .agg ((xs.map fun x=>dwD x.1).flatMap D.cells):=by simp[dwD,b1j,Function.comp_def]
      obtain⟨h1,h2⟩:=mapM_some_get hxs
      simp only[DataW.weights,hu]at hw
      refine⟨xs.map fun x=>dwD x.1,hd,by simp[h1],fun i f y hf hy=>?_⟩
      obtain⟨z,hz,hzi⟩:=h2 i f hf
      rw[List.getElem?_map,hzi]at hy
      simp only[Option.map_some,Option.some.injEq]at hy
      subst hy
      have hpf:a6u P m f.type=true:=by
       have:=hp.2
       rw[List.all_eq_true]at this
       exact this f (List.mem_of_getElem? hf)
      exact ih m f.type _ z hpf hz (c1s hw i f.type z.1 (by rw[List.getElem?_map,hf];rfl) (by rw[List.getElem?_map,hzi];rfl))
     ·cases hstr
    |array n e=>
     simp only[Bool.and_eq_true,beq_iff_eq]at hp
     have harr:(if cs.length=P.cellsOf t then((List.range n).mapM fun i=>DataW.trod enc P w base spare held fuel e ((cs.drop (i*P.cellsOf e)).take (P.cellsOf e))).map fun xs=>(DataW.agg (xs.map (·.1)),xs.flatMap (·.2)) else none)=some x:=h'
     split at harr
     ·obtain⟨xs,hxs,rfl⟩:=Option.map_eq_some_iff.1 harr
      have hd:dwD (DataW.agg (xs.map (·.1)))= .agg ((xs.map fun x=>dwD x.1).flatMap D.cells):=by simp[dwD,b1j,Function.comp_def]
      simp only[DataW.weights,hu]at hw
      refine⟨xs.map fun x=>dwD x.1,hd,by simp[(mapM_some_get hxs).1],fun y hy=>?_⟩
      obtain⟨z,hz,rfl⟩:=List.mem_map.1 hy
      obtain⟨i,_,hf⟩:=mapM_mem hxs z hz
      exact ih m e _ z hp.2 hf (b7i hw _ (List.mem_map.2 ⟨z,hz,rfl⟩))
     ·cases harr
    |_=>cases hp
theorem f8z {m:Nat}:∀ {ts:List TypeId} {vs:List Value} {ds:List (DataW H)} {ps:List MemPlace},DataW.TrodAll enc P w base spare held ts vs ds ps->(∀ t∈ts,a6u P m t=true)->∀ {ts2:List TypeId} {gs:List (DataW H)},d9t (DataW.weightsEach P (ts++ts2) (ds++gs))->∀ (i:Nat) t x,ts[i]? =some t->ds[i]? =some x->f2t P m t (dwD x)
 |[],vs,ds,ps,h,_,_,_,_=>fun i t x h=>by simp at h
 |t::ts,vs,ds,ps,h,hp,ts2,gs,hw=>by
  obtain⟨v,vs1,d,ds1,a,b,rfl,rfl,rfl,h1,h2⟩:=trodAll_cons h
  simp only[List.cons_append,DataW.weightsEach]at hw
  intro i t' x' ht hx
  cases i with
  |zero=>
   simp only[List.getElem?_cons_zero,Option.some.injEq]at ht hx
   subst ht;subst hx
   obtain⟨fuel,hf⟩:=h1
   exact h2s fuel m _ _ _ (hp _ (by simp)) hf hw.l
  |succ i=>exact f8z h2 (fun t ht=>hp t (by simp[ht])) hw.r i t' x' (by simpa using ht) (by simpa using hx)
theorem c6s {pg:Pg} (hT:c0x P pg) (hmx:P.follows .mixedOrders=true) {f:Nat} {fn:Func} {s:ChangeSpec} {apart:Bool} {W:World} {base m:Nat} {args:Array Value} {ds gs:List (DataW H)} {before:List MemPlace} {tb:TypeId} {ts2:List TypeId} (hl:laidOutB P=true)
 (hs:s.vars=[]) (hfn:∀ ds:List (DataW H),ds.length=fn.params.size->s.fn H ds={results:=[.lit (.bool true)],args:=ds })
 (hr:∀ t∈fn.params.toList,(P.readableRec t=true/\t < P.types.size)/\a6u P m t=true) (hres:fn.resultTypes= #[tb]) (htb:P.underlying tb=some .bool)
 (hval:∀ (j:Nat) t v,fn.params[j]? =some t->args[j]? =some v->Value.okWide P W .any base t v)
 (hW:DataW.Whole enc P fn.params.toList s.vars apart W args.toList ds gs before) (hg:c8g pg.toCx W)
 (hsz:(DataW.weightsEach P (fn.params.toList++ts2) (ds++gs)).all (· <=reachBytes)=true)
 (hkey:ds.length=fn.params.size->(∀ (i:Nat) t x,fn.params[i]? =some t->ds[i]? =some x->f2t P m t (dwD x))->∃ H',evF pg f ((ds.map dwD).map V.d) []=some (.d (.bool true),H')):
 Calls P f args W fun e W'=> ∃ v,e= .returned v/\s.post enc P fn apart true false false W args v W':=by
 refine d5w (m:=m) hT hmx hl hs hfn hr hres htb hval hW hg fun h1 _=>hkey h1 ?_
 obtain⟨p,q,hA,_⟩:=hW
 have:=f8z (m:=m) hA (fun t ht=>(hr t ht).2) (g1q hsz)
 intro i t x ht hx
 exact this i t x (by simpa using ht) hx
end
theorem f4p {P:Program} {m t:Nat} {x:D} (h:P.underlying t=some .string) (hx:f2t P (m+1) t x):∃ s,x= .str s/\s.length<=reachBytes:=by
 unfold f2t at hx;rw[h]at hx;exact hx
end Go.Vm
namespace Go.Vm.Lex
def isL (c:UInt8):Bool:=decide (97<=c.toNat/\c.toNat<=122)||decide (65<=c.toNat/\c.toNat<=90)||decide (c.toNat=95)
def isD (c:UInt8):Bool:=decide (48<=c.toNat/\c.toNat<=57)
def c2e (c:UInt8):Bool:=isL c||isD c
def b3y:List (List UInt8):=[[102,110],[115,116,114,117,99,116],[101,110,117,109],[108,101,116],[109,117,116],[119,104,105,108,101],[105,102],[101,108,115,101],[109,97,116,99,104],[114,101,116,117,114,110],[98,114,101,97,107],[99,111,110,116,105,110,117,101],[116,114,117,101],[102,97,108,115,101],[105,54,52],[98,111,111,108],[66,111,120]]
def c6l (s:List UInt8):Bool:=decide (s∈b3y)
def hd0:List UInt8->UInt8
 |[]=>0
 |c::_=>c
def c5l (s:List UInt8):Bool:=decide (s≠[]) && decide (s≠[95]) && !isD (hd0 s) && s.all c2e
def a7d (s:List UInt8):Bool:=c5l s && decide (s.length<=64) && !c6l s
def a8p (s:List UInt8):Nat:=(s.takeWhile c2e).length
theorem b0z (c:UInt8) (r:List UInt8):a8p (c::r)=if c2e c then a8p r+1 else 0:=by
 unfold a8p;rw[List.takeWhile_cons];split<;>simp
theorem b7q:∀ s:List UInt8,a8p s<=s.length
 |[]=>Nat.le_refl _
 |c::r=>by rw[b0z];split<;>simp[b7q r]
theorem f2g {s:List UInt8} {i:Nat} {c:UInt8} (h:s[i]? =some c):a8p (s.drop i)=if c2e c then a8p (s.drop (i+1))+1 else 0:=by
 obtain⟨hi,he⟩:=List.getElem?_eq_some_iff.1 h
 rw[List.drop_eq_getElem_cons hi,he,b0z]
theorem f6f {s:List UInt8} {i:Nat} (h:s.length<=i):a8p (s.drop i)=0:=by rw[List.drop_eq_nil_of_le h];rfl
end Go.Vm.Lex
namespace Go.Vm.Ip
open Go.Vm.Lex
abbrev S:=List UInt8
structure Fld where
 n:S
 t:S
structure Nam where
 n:S
 fs:List Fld
structure Fnc where
 n:S
 ps:List Fld
 ms:List Bool
 r:S
 d:Int
structure Its where
 ss:List Nam
 es:List Nam
 fs:List Fnc
def Fld.D (x:Fld):D:= .agg [.str x.n,.str x.t]
def a1y (l:List Fld):D:= .sl (l.map Fld.D)
def Nam.D (x:Nam):D:= .agg [.str x.n,a1y x.fs]
def Fnc.D (x:Fnc):D:= .agg [.str x.n,a1y x.ps,.sl (x.ms.map .bool),.str x.r,.int .i64 x.d]
def Its.D (x:Its):D:= .agg [.sl (x.ss.map Nam.D),.sl (x.es.map Nam.D),.sl (x.fs.map Fnc.D)]
instance:Inhabited Fld:=⟨⟨[],[]⟩⟩
instance:Inhabited Nam:=⟨⟨[],[]⟩⟩
instance:Inhabited Fnc:=⟨⟨[],[],[],[],0⟩⟩
abbrev mx:Nat:=140737488355328
abbrev mf:Nat:=4398046511104
structure b2u (x:Its):Prop where
 ss:x.ss.length<=mx
 es:x.es.length<=mx
 fs:x.fs.length<=mx
 sf:∀ y∈x.ss,y.n.length<=mx/\y.fs.length<=mf/\∀ f∈y.fs,f.n.length<=mx/\f.t.length<=mx
 ef:∀ y∈x.es,y.n.length<=mx/\y.fs.length<=mf/\∀ f∈y.fs,f.n.length<=mx/\f.t.length<=mx
 ff:∀ y∈x.fs,y.n.length<=mx/\y.r.length<=mx/\y.ms.length<=mx/\y.ps.length<=mf/\(∀ f∈y.ps,f.n.length<=mx/\f.t.length<=mx)/\ -9223372036854775808<=y.d/\y.d<=9223372036854775807
def pos (l:List S) (s:S):Option Nat:=l.findIdx? (· ==s)
theorem b2n {l:List S} {s:S} {i:Nat} (h:pos l s=some i):l[i]? =some s/\∀ j,j < i->l[j]? ≠some s:=by
 unfold pos at h
 rw[List.findIdx?_eq_some_iff_getElem]at h
 obtain⟨h1,h2,h3⟩:=h
 refine⟨by rw[List.getElem?_eq_getElem h1];simpa using h2,fun j hj e=>?_⟩
 have:=h3 j hj
 rw[List.getElem?_eq_getElem om]at e
 simp only[Option.some.injEq]at e
 simp[e]at this
theorem d1t {l:List S} {s:S} (h:pos l s=none):s∉l:=by
 unfold pos at h
 rw[List.findIdx?_eq_none_iff]at h
 intro hm
 have:=h s hm
 simp at this
theorem f8m {l:List S} {s:S} {i:Nat} (h:l[i]? =some s) (h2:∀ j,j < i->l[j]? ≠some s):pos l s=some i:=by
 cases hp:pos l s with
 |none=>exact absurd (List.mem_of_getElem? h) (d1t hp)
 |some k=>
  obtain⟨a,b⟩:=b2n hp
  rcases Nat.lt_trichotomy i k with q|q|q
  ·exact absurd h (b i q)
  ·rw[q]
  ·exact absurd a (h2 k q)
theorem d7y {l:List S} {s:S}:s∈l↔∃ i,pos l s=some i:=by
 constructor
 ·intro h
  cases hp:pos l s with
  |none=>exact absurd h (d1t hp)
  |some k=>exact⟨k,rfl⟩
 ·rintro⟨i,hi⟩;exact List.mem_of_getElem? (b2n hi).1
theorem b1b {l:List S} {s:S} {i:Nat} (h:pos l s=some i):i < l.length:=(List.getElem?_eq_some_iff.1 (b2n h).1).1
theorem c9t {l:List S} {s:S} {k:Nat} {y:S} (hy:l[k]? =some y):pos (l.take (k+1)) s=match pos (l.take k) s with
 |some i=>some i
 |none=>if y=s then some k else none:=by
 have hk:=(List.getElem?_eq_some_iff.1 hy).1
 unfold pos
 rw[List.take_add_one,hy,List.findIdx?_append]
 cases h:List.findIdx? (fun x=>x==s) (List.take k l)with
 |some i=>simp
 |none=>
  by_cases e:y=s
  ·subst e;simp[Nat.min_eq_left (Nat.le_of_lt hk)]
  ·simp[e,beq_iff_eq]
theorem b4g (a b:S):eq1 (.str a) (.str b)=decide (a=b):=by rw[Bool.eq_iff_iff];simp[eq1]
theorem c7q (s y:S) (v:D):∀ l:List (D×D),a2j 2 l=true->a4m (.str s) (c1u (.str y) v l)=if s=y then some v else a4m (.str s) l
 |[],_=>by simp only[c1u,a4m,b4g];by_cases h:s=y<;>simp[h]
 |(a,x)::r,hk=>by
  simp only[a2j,List.all_cons,Bool.and_eq_true]at hk
  obtain⟨ha,hr⟩:=hk
  cases a with
  |str a=>
   simp only[c1u,b4g]
   by_cases h:y=a
   ·subst h
    simp only[decide_true,if_true,a4m,b4g]
    by_cases h2:s=y<;>simp[h2]
   ·simp only[h,decide_false,Bool.false_eq_true,if_false,a4m,b4g]
    rw[c7q s y v r hr]
    by_cases h2:s=a
    ·subst h2
     have:¬ s=y:=fun e=>h e.symm
     simp[this]
    ·simp[h2]
  |_=>cases ha
theorem d2o (y:S) (v:D):∀ l:List (D×D),a2j 2 l=true->a2j 2 (c1u (.str y) v l)=true
 |[],_=>rfl
 |(a,x)::r,hk=>by
  simp only[a2j,List.all_cons,Bool.and_eq_true]at hk
  obtain⟨ha,hr⟩:=hk
  simp only[c1u]
  split
  ·simp only[a2j,List.all_cons,Bool.and_eq_true];exact⟨ha,hr⟩
  ·simp only[a2j,List.all_cons,Bool.and_eq_true];exact⟨ha,d2o y v r hr⟩
def fmap (l:List S):Nat->List (D×D)
 |0=>[]
 |k+1=>match a4m (.str (l.getD k [])) (fmap l k)with
  |some _=>fmap l k
  |none=>c1u (.str (l.getD k [])) (.int .i64 k) (fmap l k)
theorem a2o (l:List S):∀ k,a2j 2 (fmap l k)=true
 |0=>rfl
 |k+1=>by
  simp only[fmap]
  split
  ·exact a2o l k
  ·exact d2o _ _ _ (a2o l k)
theorem a9u (l:List S) (s:S):∀ k,k<=l.length->a4m (.str s) (fmap l k)=(pos (l.take k) s).map fun i=> .int .i64 (i:Int)
  |0,_=>by simp[fmap,a4m,pos]
  |k+1,hk=>by
   have ih:=fun s=>a9u l s k om
   have hy:l[k]? =some (l.getD k []):=by rw[List.getElem?_eq_getElem om];simp[List.getD_eq_getElem?_getD,List.getElem?_eq_getElem (show k < l.length by omega)]
   rw[c9t hy]
   simp only[fmap]
   revert hy;generalize l.getD k []=y;intro hy
   split
   ·rename_i x hx
    rw[a9u l y k om]at hx
    obtain⟨j,hj,_⟩:=Option.map_eq_some_iff.1 hx
    rw[a9u l s k om]
    cases hs:pos (List.take k l) s with
    |some i=>rfl
    |none=>
     have:¬ y=s:=by rintro rfl;rw[hs]at hj;cases hj
     simp[this]
   ·rename_i hx
    rw[a9u l y k om]at hx
    rw[c7q _ _ _ _ (a2o l k),a9u l s k om]
    by_cases e:s=y
    ·subst e
     have hp:pos (List.take k l) s=none:=by
      cases hp:pos (List.take k l) s with
      |none=>rfl
      |some i=>rw[hp]at hx;cases hx
     simp[hp]
    ·have e':¬ y=s:=fun h=>e h.symm
     rw[if_neg e]
     cases pos (List.take k l) s with
     |some i=>rfl
     |none=>simp[e']
def a4c (l:List S):List (D×D):=fmap l l.length
theorem c5v (l:List S) (s:S):a4m (.str s) (a4c l)=(pos l s).map fun i=> .int .i64 (i:Int):=by
  unfold a4c;rw[a9u l s _ (Nat.le_refl _),List.take_length]
def nS (x:Its):List S:=x.ss.map Nam.n
def nE (x:Its):List S:=x.es.map Nam.n
def nF (x:Its):List S:=x.fs.map Fnc.n
end Go.Vm.Ip
namespace Go.Vm.Ip
def preB (s p:S):Bool:=decide (p.length<=s.length) && decide (s.take p.length=p)
def sufB (s q:S):Bool:=decide (q.length<=s.length) && decide (s.drop (s.length - q.length)=q)
def loc (l:List S) (s:S):Int:=match pos l s with|some i=>(i:Int)|none=>0
def known (l:List S) (s:S):Bool:=(pos l s).isSome
def boxT:S:=[66,111,120,60]
def mutT:S:=[38,109,117,116,32]
def e3m:S:=[105,54,52]
def boolT:S:=[98,111,111,108]
def d5n:S:=[40,41]
def f8p (kn:S->Bool):Nat->S->Bool
 |0,_=>false
 |f+1,s=>if preB s boxT then sufB (s.drop 4) [62] && f8p kn f ((s.drop 4).take ((s.drop 4).length - 1))
  else decide (s=e3m)||decide (s=boolT)||decide (s=d5n)||kn s
def e1v (kn:S->Bool) (s:S):Bool:=f8p kn (s.length+1) s
def h0c (kn:S->Bool) (s:S):Bool:=if preB s mutT then e1v kn (s.drop 5) else if preB s [38] then e1v kn (s.drop 1) else e1v kn s
def nam (l:List Nam) (s:S):Nam:=match pos (l.map Nam.n) s with
 |some i=>l.getD i default
 |none=>⟨[],[]⟩
end Go.Vm.Ip
namespace Go.Vm.Ip
open Go.Vm.Lex
def a8s (ns:List S):List (D×D):=ns.map fun n=>(.str n,.int .i64 1)
theorem b1l (ns:List S):a2j 2 (a8s ns)=true:=by
 unfold a2j a8s;rw[List.all_eq_true]
 intro p hp
 obtain⟨n,_,rfl⟩:=List.mem_map.1 hp
 rfl
theorem a8v (s:S):∀ ns:List S,a4m (.str s) (a8s ns)=if s∈ns then some (.int .i64 1) else none
 |[]=>rfl
 |n::r=>by
  show(if eq1 (.str s) (.str n) then _ else a4m _ (a8s r))=_
  rw[a8v s r,b4g]
  by_cases h:s=n
  ·simp[h]
  ·simp[h]
theorem b1c (s:S):∀ ns:List S,s∉ns->c1u (.str s) (.int .i64 1) (a8s ns)=a8s (ns++[s])
 |[],_=>rfl
 |n::r,h=>by
  simp only[List.mem_cons,not_or]at h
  show(if eq1 (.str s) (.str n) then _ else _::c1u _ _ (a8s r))=_
  rw[b1c s r h.2,b4g,decide_eq_false h.1];rfl
def rt (kn:S->Bool) (ref:Bool):S->Bool:=if ref then h0c kn else e1v kn
theorem d3g {α:Type} {l:List α} {i:Nat} {d:α} (h:i < l.length):l.drop i=l.getD i d::l.drop (i+1):=by
 rw[List.drop_eq_getElem_cons h];simp[List.getD_eq_getElem?_getD,List.getElem?_eq_getElem h]
def b8a:S:=[112,114,105,110,116]
def d2b:S:=[114,101,97,100]
def b8i:S:=[112,97,110,105,99]
def c0d:S:=[109,97,105,110]
end Go.Vm.Ip
namespace Go.Vm.Ip
def kn (x:Its) (s:S):Bool:=known (nS x) s||known (nE x) s
def a7q (l:List Fld):List S:=(l.map Fld.t).filter fun t=>decide (t≠[])
theorem b8s (l:List Fld):(a7q l).length<=l.length:=by
 unfold a7q;have:=List.length_filter_le (fun t=>decide (t≠[])) (l.map Fld.t);simpa using this
def a0v (x:Its) (s:S):List S×Bool:=match pos (nS x) s with
 |some i=>((x.ss.getD i default).fs.map Fld.t,false)
 |none=>match pos (nE x) s with
  |some i=>(a7q (x.es.getD i default).fs,true)
  |none=>([],false)
def a6t (x:Its):Nat->S->Prop
 |0,_=>False
 |f+1,t=> ∀ y∈(a0v x t).1,a6t x f y
def d7h (a b:Int×Int):Int×Int:=(max a.1 (1+b.1),min (a.2+b.2) 1025)
def d5c (a b:Int×Int):Int×Int:=(min (a.1+b.1) 65,min (a.2+b.2) 1025)
def szF (x:Its):Nat->S->Int×Int
 |0,_=>(0,0)
 |f+1,s=>if(a0v x s).2 then(a0v x s).1.foldl (fun a y=>d7h a (szF x f y)) (1,1)
  else if known (nS x) s then(a0v x s).1.foldl (fun a y=>d5c a (szF x f y)) (0,1)
  else if s=d5n then(0,1) else(1,1)
theorem c5z (x:Its):∀ (f:Nat) (s:S),a6t x f s->a6t x (f+1) s
 |0,_,h=>h.elim
 |f+1,_,h=>fun y hy=>c5z x f y (h y hy)
theorem foldl_congr {α β:Type} {g h:α->β->α}:∀ {l:List β} {a:α},(∀ a,∀ y∈l,g a y=h a y)->l.foldl g a=l.foldl h a
 |[],_,_=>rfl
 |y::r,a,hh=>by
  simp only[List.foldl_cons]
  rw[hh a y (by simp)]
  exact foldl_congr fun a z hz=>hh a z (by simp[hz])
theorem f7y (x:Its):∀ (f:Nat) (s:S),a6t x f s->szF x (f+1) s=szF x f s
 |0,_,h=>h.elim
 |f+1,s,h=>by
  have key:∀ y∈(a0v x s).1,szF x (f+1) y=szF x f y:=fun y hy=>f7y x f y (h y hy)
  rw[szF,show szF x (f+1) s=_ from rfl,szF]
  split
  ·exact foldl_congr fun a y hy=>by rw[key y hy]
  split
  ·exact foldl_congr fun a y hy=>by rw[key y hy]
  rfl
theorem d5p {x:Its} {f g:Nat} {s:S} (h:a6t x f s) (hg:f<=g):a6t x g s:=by
 induction g with
 |zero=>obtain rfl:f=0:=om
        exact h
 |succ g ih=>
  by_cases e:f=g+1
  ·subst e;exact h
  ·exact c5z x g s (ih om)
theorem e2t {x:Its} {f g:Nat} {s:S} (h:a6t x f s) (hg:f<=g):szF x g s=szF x f s:=by
 induction g with
 |zero=>obtain rfl:f=0:=om
        rfl
 |succ g ih=>
  by_cases e:f=g+1
  ·subst e;rfl
  ·rw[f7y x g s (d5p h om),ih om]
theorem g0g {x:Its} {f g:Nat} {s:S} (h:a6t x f s) (h2:a6t x g s):szF x f s=szF x g s:=by
 rcases Nat.le_total f g with e|e
 ·exact(e2t h e).symm
 ·exact e2t h2 e
theorem c5o {x:Its} {f:Nat} {n:Int} (hb:∀ y,0<=(szF x f y).1/\(szF x f y).1<=n/\0<=(szF x f y).2/\(szF x f y).2<=1025) (hn:0<=n):∀ (l:List S) (a:Int×Int),0<=a.1->a.1<=n+1->0<=a.2->a.2<=1025->0<=(l.foldl (fun a y=>d7h a (szF x f y)) a).1/\(l.foldl (fun a y=>d7h a (szF x f y)) a).1<=n+1/\0<=(l.foldl (fun a y=>d7h a (szF x f y)) a).2/\(l.foldl (fun a y=>d7h a (szF x f y)) a).2<=1025
  |[],a,h1,h2,h3,h4=>⟨h1,h2,h3,h4⟩
  |y::r,a,h1,h2,h3,h4=>by
   obtain⟨b1,b2,b3,b4⟩:=hb y
   exact c5o hb hn r _ (by simp only[d7h];omega) (by simp only[d7h];omega) (by simp only[d7h];omega) (by simp only[d7h];omega)
theorem c6b {x:Its} {f:Nat} {n:Int} (hb:∀ y,0<=(szF x f y).1/\(szF x f y).1<=n/\0<=(szF x f y).2/\(szF x f y).2<=1025):∀ (l:List S) (a:Int×Int),0<=a.1->a.1<=65->0<=a.2->a.2<=1025->0<=(l.foldl (fun a y=>d5c a (szF x f y)) a).1/\(l.foldl (fun a y=>d5c a (szF x f y)) a).1<=65/\0<=(l.foldl (fun a y=>d5c a (szF x f y)) a).2/\(l.foldl (fun a y=>d5c a (szF x f y)) a).2<=1025
  |[],a,h1,h2,h3,h4=>⟨h1,h2,h3,h4⟩
  |y::r,a,h1,h2,h3,h4=>by
   obtain⟨b1,b2,b3,b4⟩:=hb y
   exact c6b hb r _ (by simp only[d5c];omega) (by simp only[d5c];omega) (by simp only[d5c];omega) (by simp only[d5c];omega)
theorem d5e (x:Its):∀ (f:Nat) (s:S),0<=(szF x f s).1/\(szF x f s).1<=65+f/\0<=(szF x f s).2/\(szF x f s).2<=1025
 |0,_=>⟨Int.le_refl _,by show(0:Int)<=_;omega,Int.le_refl _,by show(0:Int)<=_;omega⟩
 |f+1,s=>by
  have hb:=d5e x f
  rw[szF]
  split
  ·have:=c5o hb om (a0v x s).1 (1,1) (by decide) (by show(1:Int)<=_;omega) (by decide) (by decide)
   omega
  split
  ·have:=c6b hb (a0v x s).1 (0,1) (by decide) (by decide) (by decide) (by decide)
   omega
  split
  ·exact⟨by decide,by show(0:Int)<=_;omega,by decide,by decide⟩
  ·exact⟨by decide,by show(1:Int)<=_;omega,by decide,by decide⟩
def szM (d:List (S×Int×Int)):List (D×D):=d.map fun p=>(.str p.1,.agg [.int .i64 p.2.1,.int .i64 p.2.2])
theorem a8r (d:List (S×Int×Int)):a2j 2 (szM d)=true:=by
 unfold a2j szM;rw[List.all_eq_true]
 intro p hp
 obtain⟨n,_,rfl⟩:=List.mem_map.1 hp
 rfl
theorem d9z (s:S):∀ d:List (S×Int×Int),a4m (.str s) (szM d)=none\/∃ w p,(s,w,p)∈d/\a4m (.str s) (szM d)=some (.agg [.int .i64 w,.int .i64 p])
 |[]=> .inl rfl
 |(n,w,p)::r=>by
  have e:a4m (.str s) (szM ((n,w,p)::r))=if s=n then some (.agg [.int .i64 w,.int .i64 p]) else a4m (.str s) (szM r):=by
   show(if eq1 (.str s) (.str n) then _ else a4m _ (szM r))=_
   rw[b4g];by_cases h:s=n<;>simp[h]
  rw[e]
  by_cases h:s=n
  ·subst h;exact .inr ⟨w,p,by simp,if_pos rfl⟩
  ·rw[if_neg h]
   rcases d9z s r with h1|⟨w',p',h1,h2⟩
   ·exact .inl h1
   ·exact .inr ⟨w',p',by simp[h1],h2⟩
theorem f0c (s:S) (w p:Int):∀ d:List (S×Int×Int),∃ d',c1u (.str s) (.agg [.int .i64 w,.int .i64 p]) (szM d)=szM d'/\∀ q∈d',q∈d\/q=(s,w,p)
 |[]=>⟨[(s,w,p)],rfl,fun q hq=> .inr (by simpa using hq)⟩
 |(n,v)::r=>by
  have e:c1u (.str s) (.agg [.int .i64 w,.int .i64 p]) (szM ((n,v)::r))=if s=n then(.str n,.agg [.int .i64 w,.int .i64 p])::szM r else(.str n,.agg [.int .i64 v.1,.int .i64 v.2])::c1u (.str s) (.agg [.int .i64 w,.int .i64 p]) (szM r):=by
   show(if eq1 (.str s) (.str n) then _ else _::c1u _ _ (szM r))=_
   rw[b4g];by_cases h:s=n
   ·rw[decide_eq_true h];simp only[if_pos h,if_true];rfl
   ·rw[decide_eq_false h];simp only[if_neg h];rfl
  rw[e]
  by_cases h:s=n
  ·subst h
   refine⟨(s,w,p)::r,if_pos rfl,fun q hq=>?_⟩
   rcases List.mem_cons.1 hq with h|h
   ·exact .inr h
   ·exact .inl (List.mem_cons_of_mem _ h)
  ·obtain⟨d',h1,h2⟩:=f0c s w p r
   refine⟨(n,v)::d',by rw[if_neg h,h1];rfl,fun q hq=>?_⟩
   rcases List.mem_cons.1 hq with h|h
   ·exact .inl (by simp[h])
   ·rcases h2 q h with h|h
    ·exact .inl (List.mem_cons_of_mem _ h)
    ·exact .inr h
def f2u (x:Its) (N:Nat) (d:List (S×Int×Int)):Prop:=∀ q∈d,a6t x N q.1/\q.2=szF x N q.1
end Go.Vm.Ip
namespace Go.Vm.Ip
inductive Gets (x:Its) (s:S):S->Prop
 |one {y:S}:y∈(a0v x s).1->Gets x s y
 |step {y z:S}:Gets x s y->z∈(a0v x y).1->Gets x s z
noncomputable def c2z (x:Its) (s:S):Bool:= @decide (Gets x s s) (Classical.propDecidable _)
theorem c8a {x:Its} {s:S} (h:Gets x s s):c2z x s=true:=by unfold c2z;exact @decide_eq_true _ (Classical.propDecidable _) h
theorem d3d {x:Its} {s:S} (h:¬ Gets x s s):c2z x s=false:=by unfold c2z;exact @decide_eq_false _ (Classical.propDecidable _) h
structure Small (x:Its):Prop where
 ss:x.ss.length<=64
 es:x.es.length<=64
 sf:∀ y∈x.ss,y.fs.length<=16
 ef:∀ y∈x.es,y.fs.length<=16
theorem c0f {x:Its} (hx:Small x) (s:S):(a0v x s).1.length<=16:=by
 unfold a0v
 have hS:(nS x).length=x.ss.length:=by simp[nS]
 have hE:(nE x).length=x.es.length:=by simp[nE]
 split
 ·rename_i i hi
  have h:=b1b hi
  have:x.ss.getD i default∈x.ss:=by simp[List.getD_eq_getElem?_getD,List.getElem?_eq_getElem (show i < x.ss.length by omega)]
  have:=hx.sf _ this
  rw[List.length_map];exact this
 ·split
  ·rename_i i hi
   have h:=b1b hi
   have:x.es.getD i default∈x.es:=by simp[List.getD_eq_getElem?_getD,List.getElem?_eq_getElem (show i < x.es.length by omega)]
   exact Nat.le_trans (b8s _) (hx.ef _ this)
  ·exact Nat.zero_le _
theorem c1m {x:Its} {s z:S} (h:z∈(a0v x s).1):s∈nS x++nE x:=by
 unfold a0v at h
 split at h
 ·rename_i i hi;exact List.mem_append_left _ (d7y.2 ⟨i,hi⟩)
 ·split at h
  ·rename_i i hi;exact List.mem_append_right _ (d7y.2 ⟨i,hi⟩)
  ·cases h
def owed (x:Its) (seen:List S):List S->Nat
 |[]=>0
 |n::r=>(if n∈seen then 0 else(a0v x n).1.length)+owed x seen r
theorem d7l (x:Its) (seen:List S) (y:S):∀ l:List S,owed x (seen++[y]) l<=owed x seen l
 |[]=>Nat.le_refl _
 |n::r=>by
  have:=d7l x seen y r
  simp only[owed,List.mem_append,List.mem_singleton]
  by_cases h:n∈seen
  ·simp only[h,true_or,if_true];omega
  ·by_cases h2:n=y
   ·simp only[h2,or_true,if_true];omega
   ·simp only[h,h2,or_self,if_false];omega
theorem f0r (x:Its) {seen:List S} {y:S} (hy:y∉seen):∀ l:List S,y∈l->owed x (seen++[y]) l+(a0v x y).1.length<=owed x seen l
 |[],h=>by cases h
 |n::r,h=>by
  have hle:=d7l x seen y r
  simp only[owed,List.mem_append,List.mem_singleton]
  by_cases e:n=y
  ·subst e
   simp only[hy,or_true,if_true,if_false];omega
  ·have hr:y∈r:=by
    rcases List.mem_cons.1 h with q|q
    ·exact absurd q.symm e
    ·exact q
   have ih:=f0r x hy r hr
   by_cases h1:n∈seen
   ·simp only[h1,true_or,if_true];omega
   ·simp only[h1,e,or_self,if_false];omega
theorem f6y (x:Its) {seen:List S} {y:S} (hy:y∉seen):owed x (seen++[y]) (nS x++nE x)+(a0v x y).1.length<=owed x seen (nS x++nE x):=by
 by_cases h:(a0v x y).1=[]
 ·rw[h];exact d7l x seen y _
 ·obtain⟨z,hz⟩:=List.exists_mem_of_ne_nil _ h
  exact f0r x hy _ (c1m hz)
theorem c7v {x:Its} (hx:Small x) (seen:List S):∀ l:List S,owed x seen l<=16*l.length
 |[]=>Nat.le_refl _
 |n::r=>by
  have:=c7v hx seen r
  have:=c0f hx n
  simp only[owed,List.length_cons]
  split<;>omega
structure e5q (x:Its) (s:S) (seen todo:List S):Prop where
 r1:∀ y∈seen,Gets x s y
 r2:∀ y∈todo,Gets x s y
 c0:∀ z∈(a0v x s).1,z∈seen\/z∈todo
 c1:∀ y∈seen,∀ z∈(a0v x y).1,z∈seen\/z∈todo
 no:s∉seen
theorem e5q.start (x:Its) (s:S):e5q x s [] (a0v x s).1:=⟨by simp,fun _ h=> .one h,fun _ h=> .inr h,by simp,by simp⟩
theorem e5q.end {x:Its} {s:S} {seen:List S} (h:e5q x s seen []):¬ Gets x s s:=by
 have key:∀ y,Gets x s y->y∈seen:=by
  intro y hy
  induction hy with
  |one hz=>exact(h.c0 _ hz).resolve_right (by simp)
  |step _ hz ih=>exact(h.c1 _ ih _ hz).resolve_right (by simp)
 exact fun hr=>h.no (key s hr)
theorem e5q.old {x:Its} {s y:S} {seen todo:List S} (h:e5q x s seen (todo++[y])) (hy:y∈seen):e5q x s seen todo:=by
 refine⟨h.r1,fun z hz=>h.r2 z (List.mem_append_left _ hz),fun z hz=>?_,fun u hu z hz=>?_,h.no⟩
 ·rcases h.c0 z hz with q|q
  ·exact .inl q
  ·rcases List.mem_append.1 q with q|q
   ·exact .inr q
   ·rw[List.mem_singleton]at q;exact .inl (q ▸ hy)
 ·rcases h.c1 u hu z hz with q|q
  ·exact .inl q
  ·rcases List.mem_append.1 q with q|q
   ·exact .inr q
   ·rw[List.mem_singleton]at q;exact .inl (q ▸ hy)
theorem e5q.new {x:Its} {s y:S} {seen todo:List S} (h:e5q x s seen (todo++[y])) (hys:y≠s):e5q x s (seen++[y]) (todo++(a0v x y).1):=by
 have ry:Gets x s y:=h.r2 y (by simp)
 have mv:∀ z,z∈seen\/z∈todo++[y]->z∈seen++[y]\/z∈todo++(a0v x y).1:=fun z hz=>by
   simp only[List.mem_append,List.mem_singleton]at hz⊢
   rcases hz with q|q|q
   ·exact .inl (.inl q)
   ·exact .inr (.inl q)
   ·exact .inl (.inr q)
 refine⟨fun z hz=>?_,fun z hz=>?_,fun z hz=>mv z (h.c0 z hz),fun u hu z hz=>?_,?_⟩
 ·rcases List.mem_append.1 hz with q|q
  ·exact h.r1 z q
  ·rw[List.mem_singleton]at q;exact q ▸ ry
 ·rcases List.mem_append.1 hz with q|q
  ·exact h.r2 z (List.mem_append_left _ q)
  ·exact .step ry q
 ·rcases List.mem_append.1 hu with q|q
  ·exact mv z (h.c1 u q z hz)
  ·rw[List.mem_singleton]at q
   exact .inr (List.mem_append_right _ (q ▸ hz))
 ·intro hm
  rcases List.mem_append.1 hm with q|q
  ·exact h.no q
  ·rw[List.mem_singleton]at q;exact hys q.symm
end Go.Vm.Ip

namespace Go.Vm.Ip
theorem d9p {x:Its}:∀ (f:Nat) (s:S),¬ a6t x f s->∃ l:List S,l.length=f/\∀ (i:Nat) (a b:S),(s::l)[i]? =some a->(s::l)[i+1]? =some b->b∈(a0v x a).1
 |0,s,_=>⟨[],rfl,fun i a b _ h=>by simp at h⟩
 |f+1,s,h=>by
  have h':∃ y,y∈(a0v x s).1/\¬ a6t x f y:=Classical.byContradiction fun hc=>h fun y hy=>Classical.byContradiction fun hd=>hc ⟨y,hy,hd⟩
  obtain⟨y,hy,hd⟩:=h'
  obtain⟨l,h1,h2⟩:=d9p f y hd
  refine⟨y::l,by simp[h1],fun i a b ha hb=>?_⟩
  cases i with
  |zero=>
   simp at ha hb
   subst ha hb
   exact hy
  |succ i=>exact h2 i a b (by simpa using ha) (by simpa using hb)
theorem c8f {x:Its} {c:List S} (hc:∀ (i:Nat) (a b:S),c[i]? =some a->c[i+1]? =some b->b∈(a0v x a).1) {i:Nat} {a:S} (ha:c[i]? =some a):∀ (k:Nat) (b:S),c[i+1+k]? =some b->Gets x a b
 |0,b,hb=> .one (hc i a b ha hb)
 |k+1,b,hb=>by
  have hlt:=(List.getElem?_eq_some_iff.1 hb).1
  obtain⟨m,hm⟩:∃ m,c[i+1+k]? =some m:=⟨_,List.getElem?_eq_getElem om⟩
  exact .step (c8f hc ha k m hm) (hc (i+1+k) m b hm hb)
theorem e8e {x:Its} (h:∀ s∈nS x++nE x,¬ Gets x s s) (s:S):a6t x ((nS x++nE x).length+1) s:=by
 refine Classical.byContradiction fun hd=>?_
 obtain⟨l,hl,hc⟩:=d9p _ s hd
 have hlen:(s::l).length=(nS x++nE x).length+2:=by simp[hl]
 have hsub:((s::l).take ((nS x++nE x).length+1)) ⊆ nS x++nE x:=by
  intro a ha
  obtain⟨i,hi,he⟩:=List.getElem_of_mem ha
  simp only[List.length_take]at hi
  have h1:(s::l)[i]? =some a:=by
   rw[List.getElem_take]at he
   rw[List.getElem?_eq_getElem om,he]
  have h2:(s::l)[i+1]? =some ((s::l)[i+1]'om):=List.getElem?_eq_getElem _
  exact c1m (hc i _ _ h1 h2)
 have hnd:¬ ((s::l).take ((nS x++nE x).length+1)).Nodup:=fun hn=>by
   have:=List.Nodup.length_le_of_subset hn hsub
   simp only[List.length_take]at this
   omega
 refine hnd ?_
 rw[List.nodup_iff_pairwise_ne,List.pairwise_iff_getElem]
 intro i j hi hj hij e
 simp only[List.length_take]at hi hj
 rw[List.getElem_take,List.getElem_take]at e
 have h1:(s::l)[i]? =some ((s::l)[i]'om):=List.getElem?_eq_getElem _
 have h2:(s::l)[i+1+(j - i - 1)]? =some ((s::l)[j]'om):=by
   rw[show i+1+(j - i - 1)=j by omega];exact List.getElem?_eq_getElem _
 have hg:=c8f hc h1 (j - i - 1) _ h2
 rw[<-e]at hg
 have h3:(s::l)[i+1]? =some ((s::l)[i+1]'om):=List.getElem?_eq_getElem _
 exact h _ (c1m (hc i _ _ h1 h3)) hg
end Go.Vm.Ip
namespace Go.Vm.Ip
def d9x (v:Int×Int):Bool:=decide (v.1> 64)||decide (v.2> 1024)
def b6v (x:Its):Nat:=(nS x++nE x).length+1
end Go.Vm.Ip
namespace Go.Vm.Ip
theorem map_inj {α:Type} {f:α->D} (h:∀ a b,f a=f b->a=b):∀ {l m:List α},l.map f=m.map f->l=m
 |[],[],_=>rfl
 |[],b::m,e=>by simp at e
 |a::l,[],e=>by simp at e
 |a::l,b::m,e=>by
  simp only[List.map_cons,List.cons.injEq]at e
  rw[h a b e.1,map_inj h e.2]
theorem Fld.c9q (a b:Fld) (h:a.D=b.D):a=b:=by
 cases a;cases b
 simp only[Fld.D,D.agg.injEq,List.cons.injEq,D.str.injEq,and_true]at h
 rw[h.1,h.2]
theorem Nam.c9q (a b:Nam) (h:a.D=b.D):a=b:=by
 cases a;cases b
 simp only[Nam.D,a1y,D.agg.injEq,List.cons.injEq,D.str.injEq,D.sl.injEq,and_true]at h
 rw[h.1,map_inj Fld.c9q h.2]
theorem Fnc.c9q (a b:Fnc) (h:a.D=b.D):a=b:=by
 cases a;cases b
 simp only[Fnc.D,a1y,D.agg.injEq,List.cons.injEq,D.str.injEq,D.sl.injEq,D.int.injEq,true_and,and_true]at h
 rw[h.1,map_inj Fld.c9q h.2.1,map_inj (fun a b e=>by cases e;rfl) h.2.2.1,h.2.2.2.1,h.2.2.2.2]
theorem Its.c9q (a b:Its) (h:a.D=b.D):a=b:=by
 cases a;cases b
 simp only[Its.D,D.agg.injEq,List.cons.injEq,D.sl.injEq,and_true]at h
 rw[map_inj Nam.c9q h.1,map_inj Nam.c9q h.2.1,map_inj Fnc.c9q h.2.2]
end Go.Vm.Ip


namespace Go.Vm.Ip
open Go.Vm.Lex (a7d)
def flM (x:Its) (s:S):List Fld:=if known (nS x) s then(nam x.ss s).fs else if known (nE x) s then(nam x.es s).fs else[]
theorem d7e (x:Its) (s:S):a0v x s=if known (nS x) s then((flM x s).map Fld.t,false) else if known (nE x) s then(a7q (flM x s),true) else([],false):=by
 unfold a0v flM nam known
 rw[show x.ss.map Nam.n=nS x from rfl,show x.es.map Nam.n=nE x from rfl]
 cases pos (nS x) s with
 |some i=>rfl
 |none=>
  cases pos (nE x) s with
  |some i=>rfl
  |none=>rfl
theorem a3s {l:List S} {s:S}:known l s=true↔s∈l:=by
 unfold known
 rw[Option.isSome_iff_exists]
 exact d7y.symm
theorem f1i {l:List Nam} {s:S} (h:known (l.map Nam.n) s=true):nam l s∈l/\(nam l s).n=s:=by
 unfold known at h
 obtain⟨i,hi⟩:=Option.isSome_iff_exists.1 h
 unfold nam
 rw[hi]
 have h1:=b1b hi
 rw[List.length_map]at h1
 have h2:=(b2n hi).1
 rw[List.getElem?_map,List.getElem?_eq_getElem h1]at h2
 simp only[Option.map_some,Option.some.injEq]at h2
 simp only[List.getD_eq_getElem?_getD,List.getElem?_eq_getElem h1,Option.getD_some]
 exact⟨List.getElem_mem _,h2⟩
end Go.Vm.Ip
namespace Go.Vm.Ip
theorem e7k {l:List Fld} {t:S}:t∈a7q l↔t≠[]/\∃ f∈l,f.t=t:=by
 unfold a7q
 rw[List.mem_filter,List.mem_map]
 constructor
 ·rintro⟨⟨f,hf,rfl⟩,h⟩;exact⟨by simpa using h,f,hf,rfl⟩
 ·rintro⟨h,f,hf,rfl⟩;exact⟨⟨f,hf,rfl⟩,by simpa using h⟩
theorem g9i {x:Its} {s:S} (h:known (nS x) s=false) (h2:known (nE x) s=false):a0v x s=([],false):=by
 rw[d7e,h,h2];rfl
end Go.Vm.Ip



namespace Go.Vm.Ip
open Go.Vm.Lex (a7d)
def enB (x:Its) (s:S):Bool:= !known (nS x) s && known (nE x) s
end Go.Vm.Ip

namespace Go.Vm.Ip
open Go.Vm.Lex (a7d)
def flT (x:Its) (s:S):List S:=(flM x s).map Fld.t
theorem f6j {x:Its} {s z:S} (h:z∈(a0v x s).1):z∈flT x s:=by
 rw[d7e]at h
 split at h
 ·exact h
 split at h
 ·obtain⟨_,f,hf,e⟩:=e7k.1 h
  exact List.mem_map.2 ⟨f,hf,e⟩
 ·cases h
structure Sr14 (x:Its) (s:S) (seen todo:List S):Prop where
 a1:∀ y∈seen,y=s\/Gets x s y
 a2:∀ y∈todo,kn x y=true->y=s\/Gets x s y
 a3:s∈seen\/s∈todo
 c1:∀ y∈seen,∀ z∈(a0v x y).1,z≠s/\(z∈seen\/z∈todo\/kn x z=false)
theorem c4n {x:Its} {s:S} (h:kn x s=false):(a0v x s).1=[]:=by
 unfold kn at h
 rw[Bool.or_eq_false_iff]at h
 rw[g9i h.1 h.2]
theorem Sr14.end {x:Its} {s:S} {seen:List S} (h:Sr14 x s seen []):¬ Gets x s s:=by
 have h0:s∈seen:=h.a3.resolve_right (by simp)
 have key:∀ y,Gets x s y->y≠s/\(y∈seen\/kn x y=false):=by
  intro y hy
  induction hy with
  |one hz=>
   obtain⟨a,b⟩:=h.c1 s h0 _ hz
   exact⟨a,b.imp id fun q=>q.resolve_left (by simp)⟩
  |step _ hz ih=>
   rcases ih.2 with q|q
   ·obtain⟨a,b⟩:=h.c1 _ q _ hz
    exact⟨a,b.imp id fun q=>q.resolve_left (by simp)⟩
   ·rw[c4n q]at hz;cases hz
 exact fun hr=>(key s hr).1 rfl
theorem c8s {x:Its} {s:S}:kn x s=true↔s∈nS x++nE x:=by
 unfold kn
 rw[Bool.or_eq_true,a3s,a3s,List.mem_append]
end Go.Vm.Ip
namespace Go.Vm.Ip
open Go.Vm.Lex (a7d)
structure Nmd (x:Its):Prop where
 nm:∀ s,kn x s=true->a7d s=true
 ne:∀ s,known (nS x) s=true->∀ f∈flM x s,f.t≠[]
end Go.Vm.Ip

namespace Go.Vm.Ip
open Go.Vm.Lex (a7d)
theorem d9m {l:List Nam} (hn:(l.map Nam.n).Nodup) {y:Nam} (hy:y∈l):nam l y.n=y:=by
 have hk:known (l.map Nam.n) y.n=true:=a3s.2 (List.mem_map.2 ⟨y,hy,rfl⟩)
 obtain⟨h1,h2⟩:=f1i hk
 clear hk
 induction l with
 |nil=>cases hy
 |cons a r ih=>
  rw[List.map_cons,List.nodup_cons]at hn
  have e:nam (a::r) y.n=if a.n=y.n then a else nam r y.n:=by
   unfold nam
   rw[List.map_cons]
   unfold pos
   rw[List.findIdx?_cons]
   by_cases c:a.n=y.n
   ·rw[if_pos c,show(a.n==y.n)=true by simp[c]];rfl
   ·rw[if_neg c,show(a.n==y.n)=false by simp[c]]
    simp only[Bool.false_eq_true,if_false]
    cases List.findIdx? (fun x=>x==y.n) (r.map Nam.n)with
    |none=>rfl
    |some i=>rfl
  rw[e]at h1 h2⊢
  by_cases c:a.n=y.n
  ·rw[if_pos c]
   rcases List.mem_cons.1 hy with q|q
   ·exact q.symm
   ·exact absurd (List.mem_map.2 ⟨y,q,c.symm⟩) hn.1
  ·rw[if_neg c]at h1 h2⊢
   have hyr:y∈r:=by
    rcases List.mem_cons.1 hy with q|q
    ·exact absurd (congrArg Nam.n q).symm c
    ·exact q
   have hk:known (r.map Nam.n) y.n=true:=a3s.2 (List.mem_map.2 ⟨y,hyr,rfl⟩)
   obtain⟨a1,a2⟩:=f1i hk
   exact ih hn.2 hyr a1 a2
theorem i0c {x:Its} (hn:(nS x).Nodup) {y:Nam} (hy:y∈x.ss):flM x y.n=y.fs/\enB x y.n=false:=by
 have hk:known (nS x) y.n=true:=a3s.2 (List.mem_map.2 ⟨y,hy,rfl⟩)
 unfold flM enB
 rw[hk,if_pos rfl,d9m hn hy];exact⟨rfl,rfl⟩
theorem h9z {x:Its} (hn:(nE x).Nodup) (hd:∀ s∈nE x,s∉nS x) {y:Nam} (hy:y∈x.es):flM x y.n=y.fs/\enB x y.n=true:=by
 have hm:y.n∈nE x:=List.mem_map.2 ⟨y,hy,rfl⟩
 have hk:known (nE x) y.n=true:=a3s.2 hm
 have hk2:known (nS x) y.n=false:=by
  cases c:known (nS x) y.n with
  |false=>rfl
  |true=>exact absurd (a3s.1 c) (hd _ hm)
 unfold flM enB
 rw[hk,hk2,d9m hn hy];exact⟨rfl,rfl⟩
end Go.Vm.Ip



