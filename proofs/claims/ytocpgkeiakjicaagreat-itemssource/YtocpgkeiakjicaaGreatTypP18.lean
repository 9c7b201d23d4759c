import Derived.Test.YtocpgkeiakjicaaGreatProg
import Derived.Test.YtocpgkeiakjicaaGreatVmRun
import Derived.Test.YtocpgkeiakjicaaGreatVmFn
import Derived.ProofKit
import Derived.LaidMore
import Derived.Stop.Joined
import Derived.Below
import Derived.Lib.ItoaNum
import Derived.Lib.Join
import Derived.Lib.Fields
import Derived.Sort.Grow
import Derived.Lib.LaidTab
import Derived.Deep.Draws
import Derived.Lib.Bytealg
import Derived.Lib.LastIndexByte
import Derived.Lib.ParseIntB
import Derived.Lib.Strings
import Derived.Lib.CutLaws
import Derived.Test.YtocpgkeiakjicaaGreatVmOps2
set_option maxRecDepth 100000
set_option linter.unusedVariables false
set_option linter.unusedSimpArgs false
set_option maxHeartbeats 0
namespace Go.Vm.Ite
open Go Go.Vm Go.Proofs
abbrev A0:Ann:=AA [] []
def Q3:Laid Tryz.prog A0 false Tryz.f3:=laid
abbrev F3:VFn:=Q3.F
def Q7:Laid Tryz.prog (AA [] [(4,[.bindrow 6 4 3])]) false Tryz.f7:=laid
abbrev F7:VFn:=Q7.F
def Q8:Laid Tryz.prog A0 false Tryz.f8:=laid
abbrev F8:VFn:=Q8.F
def Q9:Laid Tryz.prog A0 false Tryz.f9:=laid
abbrev F9:VFn:=Q9.F
def Q10:Laid Tryz.prog (AA [(15,[2,3,5,6,10,67,68,69])] [(6,[.bindrow 2 5 1,.bindrow 2 5 2,.bindrow 5 5 3])]) false Tryz.f10:=laid
abbrev F10:VFn:=Q10.F
def Q12:Laid Tryz.prog (AA [(5,[1,28,29])] []) false Tryz.f12:=laid
abbrev F12:VFn:=Q12.F
def Q18:Laid Tryz.prog A0 true Tryz.f18:=laid
abbrev F18:VFn:=Q18.F
def Q19:Laid Tryz.prog (AA [(1,[0,4])] [(1000001,[.bindrow 1 4 3])]) false Tryz.f19:=laid
abbrev F19:VFn:=Q19.F
def Q20:Laid Tryz.prog A0 false Tryz.f20:=laid
abbrev F20:VFn:=Q20.F
def Q21:Laid Tryz.prog A0 false Tryz.f21:=laid
abbrev F21:VFn:=Q21.F
def Q22:Laid Tryz.prog (AA [(15,[1,2,3,5,6])] []) false Tryz.f22:=laid
abbrev F22:VFn:=Q22.F
def Q23:Laid Tryz.prog (AA [(4,[2,3,4,40,41]),(10,[2,3,4,76,77]),(16,[2,4,111,112,113]),(22,[2,4,10,11,111,112,113,164,165])] []) false Tryz.f23:=laid
abbrev F23:VFn:=Q23.F
def Q24:Laid Tryz.prog (AA [(5,[1,28,29])] []) false Tryz.f24:=laid
abbrev F24:VFn:=Q24.F
def Q25:Laid Tryz.prog (AA [(3,[0,6,21,22,23]),(21,[0,6,8,11,21,22,23,114,115,116]),(30,[0,6,8,14,21,22,23,154,155,156]),(11,[0,6,8,18,21,22,23,59,60,61])] [(1000021,[.bindrow 2 11 1]),(1000030,[.bindrow 2 14 1]),(1000011,[.bindrow 2 18 1,.bindrow 1 18 2])]) false Tryz.f25:=laid
abbrev F25:VFn:=Q25.F
def Q26:Laid Tryz.prog A0 false Tryz.f26:=laid
abbrev F26:VFn:=Q26.F
def Q27:Laid Tryz.prog (AA [(3,[1,3,19,20,21]),(8,[1,3,35,36,37]),(13,[3,51,52,53])] []) true Tryz.f27:=laid
abbrev F27:VFn:=Q27.F
def Q28:Laid Tryz.prog (AA [(3,[0,4,5,6,19,20,21]),(17,[0,4,5,6,13,19,20,21,62,63,64])] []) false Tryz.f28:=laid
abbrev F28:VFn:=Q28.F
def Q29:Laid Tryz.prog (AA [(4,[0,4,5,6,23,24,25]),(11,[0,4,5,55,56,57])] [(3,[.newrow 1 6])]) false Tryz.f29:=laid
abbrev F29:VFn:=Q29.F
def Q30:Laid Tryz.prog (AA [(2,[0,1,4,13,14,15]),(10,[0,4,8,59,60,61])] []) false Tryz.f30:=laid
abbrev F30:VFn:=Q30.F
def Q31:Laid Tryz.prog A0 false Tryz.f31:=laid
abbrev F31:VFn:=Q31.F
def Q40:Laid Tryz.prog (AA [(5,[1,2,5,42,43,44]),(11,[2,5,57,58,59])] []) false Tryz.f40:=laid
abbrev F40:VFn:=Q40.F
def Q41:Laid Tryz.prog (AA [(3,[1,4,16,17]),(8,[4,25,26,27]),(11,[4,6,25,26,27,33,34,35]),(19,[4,10])] [(23,[.freeze 4])]) false Tryz.f41:=laid
abbrev F41:VFn:=Q41.F
def Q42:Laid Tryz.prog (AA [(4,[1,5,6,7])] []) false Tryz.f42:=laid
abbrev F42:VFn:=Q42.F
def Q46:Laid Tryz.prog A0 false Tryz.f46:=laid
abbrev F46:VFn:=Q46.F
def Q47:Laid Tryz.prog (AA [(2,[0,1,5])] []) false Tryz.f47:=laid
abbrev F47:VFn:=Q47.F
def Q48:Laid Tryz.prog (AA [(2,[1,2,7]),(7,[1,2,8])] []) false Tryz.f48:=laid
abbrev F48:VFn:=Q48.F
def Q51:Laid Tryz.prog (AA [(6,[1,2,8,9]),(13,[1,2,8,9,11,14])] [(14,[.freeze 9]),(5,[.newrow 1 8])]) false Tryz.f51:=laid
abbrev F51:VFn:=Q51.F
def Q52:Laid Tryz.prog (AA [(8,[2,6,7,9,10,11,12])] []) false Tryz.f52:=laid
abbrev F52:VFn:=Q52.F
def Q53:Laid Tryz.prog A0 false Tryz.f53:=laid
abbrev F53:VFn:=Q53.F
def Q56:Laid Tryz.prog (AA [(9,[1,2,3,4,8,13,48,49,50]),(18,[1,2,3,4,8,13,77,78,79])] []) false Tryz.f56:=laid
abbrev F56:VFn:=Q56.F
def Q59:Laid Tryz.prog (AA [(8,[0,3,5,6])] [(7,[.newrow 5 5])]) false Tryz.f59:=laid
abbrev F59:VFn:=Q59.F
def Q60:Laid Tryz.prog A0 false Tryz.f60:=laid
abbrev F60:VFn:=Q60.F
def Q61:Laid Tryz.prog A0 false Tryz.f61:=laid
abbrev F61:VFn:=Q61.F
def Q62:Laid Tryz.prog A0 false Tryz.f62:=laid
abbrev F62:VFn:=Q62.F
def Q63:Laid Tryz.prog A0 false Tryz.f63:=laid
abbrev F63:VFn:=Q63.F
def Q64:Laid Tryz.prog (AA [(4,[1,3,4,5]),(7,[1,3,4,5,25,26,27])] []) false Tryz.f64:=laid
abbrev F64:VFn:=Q64.F
def Q65:Laid Tryz.prog (AA [(4,[1,2,3,4,5,6,7])] []) false Tryz.f65:=laid
abbrev F65:VFn:=Q65.F
def Q66:Laid Tryz.prog (AA [(3,[1,2,3,4]),(8,[1,2,3,4,5,6,7]),(20,[1,2,3,4,8,10]),(23,[1,2,3,4,8,10,11])] []) false Tryz.f66:=laid
abbrev F66:VFn:=Q66.F
def Q67:Laid Tryz.prog (AA [(4,[1,2,3,4,5]),(8,[1,2,3,4,5,6,7])] []) false Tryz.f67:=laid
abbrev F67:VFn:=Q67.F
def Q68:Laid Tryz.prog (AA [(4,[1,2,3,4,5]),(11,[1,2,3,4,5,6,7,8,9,10])] [(1000004,[.bindrow 2 3 0,.bindrow 2 3 1,.bindrow 5 3 2]),(10,[.newrow 2 7,.newrow 1 8])]) false Tryz.f68:=laid
abbrev F68:VFn:=Q68.F
def Q69:Laid Tryz.prog (AA [(3,[2,3,4,5,6]),(8,[2,3,4,5,7])] []) false Tryz.f69:=laid
abbrev F69:VFn:=Q69.F
def Q70:Laid Tryz.prog A0 false Tryz.f70:=laid
abbrev F70:VFn:=Q70.F
def Q71:Laid Tryz.prog (AA [(4,[0,1,12,13])] []) false Tryz.f71:=laid
abbrev F71:VFn:=Q71.F
def Q72:Laid Tryz.prog (AA [(5,[1,2,5,6,7,16,17,18])] [(4,[.newrow 1 6])]) false Tryz.f72:=laid
abbrev F72:VFn:=Q72.F
def Q73:Laid Tryz.prog (AA [(3,[1,4,15,16]),(8,[4,24,25,26]),(11,[4,6,24,25,26,32,33,34])] [(18,[.freeze 4])]) false Tryz.f73:=laid
abbrev F73:VFn:=Q73.F
def Q74:Laid Tryz.prog (AA [(5,[0,3,4])] []) false Tryz.f74:=laid
abbrev F74:VFn:=Q74.F
def Q75:Laid Tryz.prog (AA [(3,[0,3,4])] [(7,[.freeze 3])]) false Tryz.f75:=laid
abbrev F75:VFn:=Q75.F
def Q76:Laid Tryz.prog A0 false Tryz.f76:=laid
abbrev F76:VFn:=Q76.F
def Q77:Laid Tryz.prog A0 false Tryz.f77:=laid
abbrev F77:VFn:=Q77.F
def Q78:Laid Tryz.prog A0 false Tryz.f78:=laid
abbrev F78:VFn:=Q78.F
def Q79:Laid Tryz.prog A0 false Tryz.f79:=laid
abbrev F79:VFn:=Q79.F
def Q80:Laid Tryz.prog (AA [(5,[0,32,33,34])] []) false Tryz.f80:=laid
abbrev F80:VFn:=Q80.F
def Q81:Laid Tryz.prog (AA [(5,[0,33,34,35])] []) false Tryz.f81:=laid
abbrev F81:VFn:=Q81.F
def Q82:Laid Tryz.prog A0 false Tryz.f82:=laid
abbrev F82:VFn:=Q82.F
def Q83:Laid Tryz.prog A0 false Tryz.f83:=laid
abbrev F83:VFn:=Q83.F
def Q84:Laid Tryz.prog A0 false Tryz.f84:=laid
abbrev F84:VFn:=Q84.F
def Q85:Laid Tryz.prog A0 false Tryz.f85:=laid
abbrev F85:VFn:=Q85.F
def Q86:Laid Tryz.prog (AA [(7,[3,4,7,8]),(16,[3,4,7,9]),(23,[2,3,4,7,10,11]),(26,[2,3,4,7,10,11])] []) false Tryz.f86:=laid
abbrev F86:VFn:=Q86.F
def Q87:Laid Tryz.prog A0 false Tryz.f87:=laid
abbrev F87:VFn:=Q87.F
def Q89:Laid Tryz.prog (AA [(4,[0,3])] []) false Tryz.f89:=laid
abbrev F89:VFn:=Q89.F
def Q90:Laid Tryz.prog (AA [(2,[0,5,6,7])] []) false Tryz.f90:=laid
abbrev F90:VFn:=Q90.F
def Q92:Laid Tryz.prog (AA [(4,[0,16,17])] []) false Tryz.f92:=laid
abbrev F92:VFn:=Q92.F
def Q93:Laid Tryz.prog A0 false Tryz.f93:=laid
abbrev F93:VFn:=Q93.F
def Q95:Laid Tryz.prog (AA [(5,[8,31,32,33]),(13,[8,58,59,60])] [(2,[.newrow 1 8])]) false Tryz.f95:=laid
abbrev F95:VFn:=Q95.F
def Q96:Laid Tryz.prog A0 false Tryz.f96:=laid
abbrev F96:VFn:=Q96.F
def Q97:Laid Tryz.prog (AA [(2,[0,3])] []) false Tryz.f97:=laid
abbrev F97:VFn:=Q97.F
def Q98:Laid Tryz.prog (AA [(1,[0,1]),(7,[0,1])] []) false Tryz.f98:=laid
abbrev F98:VFn:=Q98.F
def Q99:Laid Tryz.prog (AA [(1,[0,1])] []) false Tryz.f99:=laid
abbrev F99:VFn:=Q99.F
def Q100:Laid Tryz.prog A0 false Tryz.f100:=laid
abbrev F100:VFn:=Q100.F
def Q101:Laid Tryz.prog (AA [(3,[0,1,4,5,6,7])] []) false Tryz.f101:=laid
abbrev F101:VFn:=Q101.F
def Q102:Laid Tryz.prog A0 false Tryz.f102:=laid
abbrev F102:VFn:=Q102.F
def Q103:Laid Tryz.prog A0 false Tryz.f103:=laid
abbrev F103:VFn:=Q103.F
def Q104:Laid Tryz.prog (AA [(2,[0,1,9,10,11]),(8,[0,1,32,33,34])] []) false Tryz.f104:=laid
abbrev F104:VFn:=Q104.F
def Q105:Laid Tryz.prog (AA [(26,[0,1,6,9])] []) false Tryz.f105:=laid
abbrev F105:VFn:=Q105.F
def Q106:Laid Tryz.prog A0 false Tryz.f106:=laid
abbrev F106:VFn:=Q106.F
def Q107:Laid Tryz.prog (AA [(5,[0,1,5,6])] [(1000005,[.bindrow 1 6 3])]) false Tryz.f107:=laid
abbrev F107:VFn:=Q107.F
def Q108:Laid Tryz.prog (AA [(5,[0,3,4])] [(1000005,[.bindrow 1 4 3])]) false Tryz.f108:=laid
abbrev F108:VFn:=Q108.F
def Q109:Laid Tryz.prog A0 false Tryz.f109:=laid
abbrev F109:VFn:=Q109.F
def Q110:Laid Tryz.prog A0 false Tryz.f110:=laid
abbrev F110:VFn:=Q110.F
def Q111:Laid Tryz.prog A0 false Tryz.f111:=laid
abbrev F111:VFn:=Q111.F
def Q112:Laid Tryz.prog (AA [(4,[1,3,4,5])] [(3,[.newrow 1 3])]) false Tryz.f112:=laid
abbrev F112:VFn:=Q112.F
def Q113:Laid Tryz.prog A0 false Tryz.f113:=laid
abbrev F113:VFn:=Q113.F
def Q114:Laid Tryz.prog A0 false Tryz.f114:=laid
abbrev F114:VFn:=Q114.F
def Q115:Laid Tryz.prog A0 false Tryz.f115:=laid
abbrev F115:VFn:=Q115.F
def Q116:Laid Tryz.prog A0 false Tryz.f116:=laid
abbrev F116:VFn:=Q116.F
def Q117:Laid Tryz.prog A0 false Tryz.f117:=laid
abbrev F117:VFn:=Q117.F
def Q118:Laid Tryz.prog A0 false Tryz.f118:=laid
abbrev F118:VFn:=Q118.F
def Q119:Laid Tryz.prog A0 false Tryz.f119:=laid
abbrev F119:VFn:=Q119.F
def Q120:Laid Tryz.prog A0 false Tryz.f120:=laid
abbrev F120:VFn:=Q120.F
def Q121:Laid Tryz.prog A0 false Tryz.f121:=laid
abbrev F121:VFn:=Q121.F
def Q122:Laid Tryz.prog A0 false Tryz.f122:=laid
abbrev F122:VFn:=Q122.F
def Q123:Laid Tryz.prog A0 false Tryz.f123:=laid
abbrev F123:VFn:=Q123.F
def Q124:Laid Tryz.prog (AA [(2,[0,3])] []) false Tryz.f124:=laid
abbrev F124:VFn:=Q124.F
def Q125:Laid Tryz.prog A0 false Tryz.f125:=laid
abbrev F125:VFn:=Q125.F
def Q126:Laid Tryz.prog A0 false Tryz.f126:=laid
abbrev F126:VFn:=Q126.F
def Q127:Laid Tryz.prog A0 false Tryz.f127:=laid
abbrev F127:VFn:=Q127.F
def Q128:Laid Tryz.prog A0 false Tryz.f128:=laid
abbrev F128:VFn:=Q128.F
def Q129:Laid Tryz.prog A0 false Tryz.f129:=laid
abbrev F129:VFn:=Q129.F
def Q132:Laid Tryz.prog (AA [(3,[0,4,5])] []) false Tryz.f132:=laid
abbrev F132:VFn:=Q132.F
def Q133:Laid Tryz.prog A0 false Tryz.f133:=laid
abbrev F133:VFn:=Q133.F
def Q134:Laid Tryz.prog A0 false Tryz.f134:=laid
abbrev F134:VFn:=Q134.F
def Q135:Laid Tryz.prog A0 false Tryz.f135:=laid
abbrev F135:VFn:=Q135.F
def Q136:Laid Tryz.prog A0 false Tryz.f136:=laid
abbrev F136:VFn:=Q136.F
def Q137:Laid Tryz.prog A0 false Tryz.f137:=laid
abbrev F137:VFn:=Q137.F
def Q138:Laid Tryz.prog A0 false Tryz.f138:=laid
abbrev F138:VFn:=Q138.F
def Q139:Laid Tryz.prog A0 false Tryz.f139:=laid
abbrev F139:VFn:=Q139.F
def Q140:Laid Tryz.prog A0 false Tryz.f140:=laid
abbrev F140:VFn:=Q140.F
def Q141:Laid Tryz.prog (AA [(5,[0,3,4])] [(1000005,[.bindrow 1 4 3])]) false Tryz.f141:=laid
abbrev F141:VFn:=Q141.F
def Q142:Laid Tryz.prog (AA [(4,[1,2,7,8])] []) false Tryz.f142:=laid
abbrev F142:VFn:=Q142.F
def Q143:Laid Tryz.prog A0 false Tryz.f143:=laid
abbrev F143:VFn:=Q143.F
def Q144:Laid Tryz.prog A0 false Tryz.f144:=laid
abbrev F144:VFn:=Q144.F
def Q145:Laid Tryz.prog A0 false Tryz.f145:=laid
abbrev F145:VFn:=Q145.F
def Q146:Laid Tryz.prog A0 false Tryz.f146:=laid
abbrev F146:VFn:=Q146.F
def Q147:Laid Tryz.prog A0 false Tryz.f147:=laid
abbrev F147:VFn:=Q147.F
def Q149:Laid Tryz.prog A0 false Tryz.f149:=laid
abbrev F149:VFn:=Q149.F
def Q150:Laid Tryz.prog A0 false Tryz.f150:=laid
abbrev F150:VFn:=Q150.F
def Q152:Laid Tryz.prog A0 false Tryz.f152:=laid
abbrev F152:VFn:=Q152.F
def Q153:Laid Tryz.prog A0 false Tryz.f153:=laid
abbrev F153:VFn:=Q153.F
def Q154:Laid Tryz.prog (AA [(2,[0,1,7,8])] []) false Tryz.f154:=laid
abbrev F154:VFn:=Q154.F
def Q155:Laid Tryz.prog A0 false Tryz.f155:=laid
abbrev F155:VFn:=Q155.F
def Q158:Laid Tryz.prog A0 false Tryz.f158:=laid
abbrev F158:VFn:=Q158.F
def Q159:Laid Tryz.prog A0 false Tryz.f159:=laid
abbrev F159:VFn:=Q159.F
def Q160:Laid Tryz.prog A0 false Tryz.f160:=laid
abbrev F160:VFn:=Q160.F
def Q163:Laid Tryz.prog A0 false Tryz.f163:=laid
abbrev F163:VFn:=Q163.F
def Q164:Laid Tryz.prog A0 false Tryz.f164:=laid
abbrev F164:VFn:=Q164.F
def Q165:Laid Tryz.prog A0 false Tryz.f165:=laid
abbrev F165:VFn:=Q165.F
def Q168:Laid Tryz.prog A0 false Tryz.f168:=laid
abbrev F168:VFn:=Q168.F
def Q169:Laid Tryz.prog A0 false Tryz.f169:=laid
abbrev F169:VFn:=Q169.F
def Q170:Laid Tryz.prog A0 false Tryz.f170:=laid
abbrev F170:VFn:=Q170.F
def Q171:Laid Tryz.prog A0 false Tryz.f171:=laid
abbrev F171:VFn:=Q171.F
def Q172:Laid Tryz.prog A0 false Tryz.f172:=laid
abbrev F172:VFn:=Q172.F
def Q175:Laid Tryz.prog (AA [(2,[0,1,7,8])] []) false Tryz.f175:=laid
abbrev F175:VFn:=Q175.F
def Q176:Laid Tryz.prog (AA [(2,[0,1,5])] []) false Tryz.f176:=laid
abbrev F176:VFn:=Q176.F
def Q177:Laid Tryz.prog (AA [(5,[0,1,2,7,8])] []) false Tryz.f177:=laid
abbrev F177:VFn:=Q177.F
def Q178:Laid Tryz.prog A0 false Tryz.f178:=laid
abbrev F178:VFn:=Q178.F
def Q182:Laid Tryz.prog A0 false Tryz.f182:=laid
abbrev F182:VFn:=Q182.F
def Q183:Laid Tryz.prog (AA [(3,[0,5,6])] []) false Tryz.f183:=laid
abbrev F183:VFn:=Q183.F
def Q184:Laid Tryz.prog A0 false Tryz.f184:=laid
abbrev F184:VFn:=Q184.F
def Q185:Laid Tryz.prog (AA [(6,[0,3,4])] []) false Tryz.f185:=laid
abbrev F185:VFn:=Q185.F
def Q187:Laid Tryz.prog (AA [(3,[0,5,6])] []) false Tryz.f187:=laid
abbrev F187:VFn:=Q187.F
def Q188:Laid Tryz.prog A0 false Tryz.f188:=laid
abbrev F188:VFn:=Q188.F
def Q189:Laid Tryz.prog A0 false Tryz.f189:=laid
abbrev F189:VFn:=Q189.F
def Q190:Laid Tryz.prog A0 false Tryz.f190:=laid
abbrev F190:VFn:=Q190.F
def Q191:Laid Tryz.prog A0 false Tryz.f191:=laid
abbrev F191:VFn:=Q191.F
def Q192:Laid Tryz.prog A0 false Tryz.f192:=laid
abbrev F192:VFn:=Q192.F
def Q193:Laid Tryz.prog (AA [(4,[0,1,8]),(11,[0,1,9])] [(1000004,[.bindrow 1 8 3]),(1000011,[.bindrow 1 9 3])]) false Tryz.f193:=laid
abbrev F193:VFn:=Q193.F
def Q194:Laid Tryz.prog A0 false Tryz.f194:=laid
abbrev F194:VFn:=Q194.F
def Q195:Laid Tryz.prog A0 false Tryz.f195:=laid
abbrev F195:VFn:=Q195.F
def Q55:Laid Tryz.prog (AA [(3,[1,2,3,7,8])] []) false Tryz.f55:=laid
def h9b:f0c ((b1y Q55.F.body).getD 0 .skip):=g3p
abbrev e4y:a0r:=h9b.c
def i0u:f0c ((b1y Q95.F.body).getD 0 .skip):=g3p
abbrev f4p:a0r:=i0u.c
def h9a:f0c ((b1y Q95.F.body).getD 1 .skip):=g3p
abbrev f1k:a0r:=h9a.c
def tbl (F:Nat->Option a0t):Nat->Option a0t
 |3=>some (.code F3)
 |7=>some (.code F7)
 |8=>some (.code F8)
 |9=>some (.code F9)
 |10=>some (.code F10)
 |12=>some (.code F12)
 |18=>some (.code F18)
 |19=>some (.code F19)
 |20=>some (.code F20)
 |21=>some (.code F21)
 |22=>some (.code F22)
 |23=>some (.code F23)
 |24=>some (.code F24)
 |25=>some (.code F25)
 |26=>some (.code F26)
 |27=>some (.code F27)
 |28=>some (.code F28)
 |29=>some (.code F29)
 |30=>some (.code F30)
 |31=>some (.code F31)
 |40=>some (.code F40)
 |41=>some (.code F41)
 |42=>some (.code F42)
 |46=>some (.code F46)
 |47=>some (.code F47)
 |48=>some (.code F48)
 |51=>some (.code F51)
 |52=>some (.code F52)
 |53=>some (.code F53)
 |56=>some (.code F56)
 |59=>some (.code F59)
 |60=>some (.code F60)
 |61=>some (.code F61)
 |62=>some (.code F62)
 |63=>some (.code F63)
 |64=>some (.code F64)
 |65=>some (.code F65)
 |66=>some (.code F66)
 |67=>some (.code F67)
 |68=>some (.code F68)
 |69=>some (.code F69)
 |70=>some (.code F70)
 |71=>some (.code F71)
 |72=>some (.code F72)
 |73=>some (.code F73)
 |74=>some (.code F74)
 |75=>some (.code F75)
 |76=>some (.code F76)
 |77=>some (.code F77)
 |78=>some (.code F78)
 |79=>some (.code F79)
 |80=>some (.code F80)
 |81=>some (.code F81)
 |82=>some (.code F82)
 |83=>some (.code F83)
 |84=>some (.code F84)
 |85=>some (.code F85)
 |86=>some (.code F86)
 |87=>some (.code F87)
 |89=>some (.code F89)
 |90=>some (.code F90)
 |92=>some (.code F92)
 |93=>some (.code F93)
 |95=>some (.code F95)
 |96=>some (.code F96)
 |97=>some (.code F97)
 |98=>some (.code F98)
 |99=>some (.code F99)
 |100=>some (.code F100)
 |101=>some (.code F101)
 |102=>some (.code F102)
 |103=>some (.code F103)
 |104=>some (.code F104)
 |105=>some (.code F105)
 |106=>some (.code F106)
 |107=>some (.code F107)
 |108=>some (.code F108)
 |109=>some (.code F109)
 |110=>some (.code F110)
 |111=>some (.code F111)
 |112=>some (.code F112)
 |113=>some (.code F113)
 |114=>some (.code F114)
 |115=>some (.code F115)
 |116=>some (.code F116)
 |117=>some (.code F117)
 |118=>some (.code F118)
 |119=>some (.code F119)
 |120=>some (.code F120)
 |121=>some (.code F121)
 |122=>some (.code F122)
 |123=>some (.code F123)
 |124=>some (.code F124)
 |125=>some (.code F125)
 |126=>some (.code F126)
 |127=>some (.code F127)
 |128=>some (.code F128)
 |129=>some (.code F129)
 |132=>some (.code F132)
 |133=>some (.code F133)
 |134=>some (.code F134)
 |135=>some (.code F135)
 |136=>some (.code F136)
 |137=>some (.code F137)
 |138=>some (.code F138)
 |139=>some (.code F139)
 |140=>some (.code F140)
 |141=>some (.code F141)
 |142=>some (.code F142)
 |143=>some (.code F143)
 |144=>some (.code F144)
 |145=>some (.code F145)
 |146=>some (.code F146)
 |147=>some (.code F147)
 |149=>some (.code F149)
 |150=>some (.code F150)
 |152=>some (.code F152)
 |153=>some (.code F153)
 |154=>some (.code F154)
 |155=>some (.code F155)
 |158=>some (.code F158)
 |159=>some (.code F159)
 |160=>some (.code F160)
 |163=>some (.code F163)
 |164=>some (.code F164)
 |165=>some (.code F165)
 |168=>some (.code F168)
 |169=>some (.code F169)
 |170=>some (.code F170)
 |171=>some (.code F171)
 |172=>some (.code F172)
 |175=>some (.code F175)
 |176=>some (.code F176)
 |177=>some (.code F177)
 |178=>some (.code F178)
 |182=>some (.code F182)
 |183=>some (.code F183)
 |184=>some (.code F184)
 |185=>some (.code F185)
 |187=>some (.code F187)
 |188=>some (.code F188)
 |189=>some (.code F189)
 |190=>some (.code F190)
 |191=>some (.code F191)
 |192=>some (.code F192)
 |193=>some (.code F193)
 |194=>some (.code F194)
 |195=>some (.code F195)
 |i=>F i
abbrev b7e:Nat:=3
theorem b7j {F:Nat->Option a0t}:(tbl F) 3=some (.code F3):=rfl
abbrev b2d:Nat:=7
theorem b9i {F:Nat->Option a0t}:(tbl F) 7=some (.code F7):=rfl
abbrev b6i:Nat:=8
theorem c6n {F:Nat->Option a0t}:(tbl F) 8=some (.code F8):=rfl
abbrev c3q:Nat:=9
theorem c4v {F:Nat->Option a0t}:(tbl F) 9=some (.code F9):=rfl
abbrev e7a:Nat:=10
theorem e4u {F:Nat->Option a0t}:(tbl F) 10=some (.code F10):=rfl
abbrev d2j:Nat:=12
theorem d0l {F:Nat->Option a0t}:(tbl F) 12=some (.code F12):=rfl
abbrev b8c:Nat:=18
theorem b8g {F:Nat->Option a0t}:(tbl F) 18=some (.code F18):=rfl
abbrev a8e:Nat:=19
theorem b5w {F:Nat->Option a0t}:(tbl F) 19=some (.code F19):=rfl
abbrev c4y:Nat:=20
theorem d8y {F:Nat->Option a0t}:(tbl F) 20=some (.code F20):=rfl
abbrev e5r:Nat:=22
theorem e5a {F:Nat->Option a0t}:(tbl F) 22=some (.code F22):=rfl
abbrev d0y:Nat:=23
theorem d1c {F:Nat->Option a0t}:(tbl F) 23=some (.code F23):=rfl
abbrev d6b:Nat:=24
theorem d5n {F:Nat->Option a0t}:(tbl F) 24=some (.code F24):=rfl
abbrev a6s:Nat:=25
theorem b2r {F:Nat->Option a0t}:(tbl F) 25=some (.code F25):=rfl
abbrev a2o:Nat:=26
theorem a9e {F:Nat->Option a0t}:(tbl F) 26=some (.code F26):=rfl
abbrev d0s:Nat:=27
theorem d2u {F:Nat->Option a0t}:(tbl F) 27=some (.code F27):=rfl
abbrev a8f:Nat:=28
theorem b5x {F:Nat->Option a0t}:(tbl F) 28=some (.code F28):=rfl
abbrev a8d:Nat:=29
theorem b5h {F:Nat->Option a0t}:(tbl F) 29=some (.code F29):=rfl
abbrev b5o:Nat:=30
theorem b5n {F:Nat->Option a0t}:(tbl F) 30=some (.code F30):=rfl
abbrev a1h:Nat:=31
theorem a6k {F:Nat->Option a0t}:(tbl F) 31=some (.code F31):=rfl
abbrev d3z:Nat:=40
theorem d5x {F:Nat->Option a0t}:(tbl F) 40=some (.code F40):=rfl
abbrev c5i:Nat:=41
theorem c3y {F:Nat->Option a0t}:(tbl F) 41=some (.code F41):=rfl
abbrev d7g:Nat:=42
theorem d5s {F:Nat->Option a0t}:(tbl F) 42=some (.code F42):=rfl
abbrev d7i:Nat:=46
theorem d3v {F:Nat->Option a0t}:(tbl F) 46=some (.code F46):=rfl
abbrev d7s:Nat:=47
theorem d7y {F:Nat->Option a0t}:(tbl F) 47=some (.code F47):=rfl
abbrev d0c:Nat:=48
theorem d1s {F:Nat->Option a0t}:(tbl F) 48=some (.code F48):=rfl
abbrev c3m:Nat:=51
theorem c5s {F:Nat->Option a0t}:(tbl F) 51=some (.code F51):=rfl
abbrev d6g:Nat:=52
theorem b4c {F:Nat->Option a0t}:(tbl F) 52=some (.code F52):=rfl
abbrev e5g:Nat:=53
theorem e5o {F:Nat->Option a0t}:(tbl F) 53=some (.code F53):=rfl
abbrev a8o:Nat:=56
theorem d1b {F:Nat->Option a0t}:(tbl F) 56=some (.code F56):=rfl
abbrev c6z:Nat:=59
theorem c6v {F:Nat->Option a0t}:(tbl F) 59=some (.code F59):=rfl
abbrev b1f:Nat:=60
theorem c0k {F:Nat->Option a0t}:(tbl F) 60=some (.code F60):=rfl
abbrev b7r:Nat:=61
theorem b8d {F:Nat->Option a0t}:(tbl F) 61=some (.code F61):=rfl
abbrev a5n:Nat:=62
theorem b7g {F:Nat->Option a0t}:(tbl F) 62=some (.code F62):=rfl
abbrev a9r:Nat:=63
theorem b7c {F:Nat->Option a0t}:(tbl F) 63=some (.code F63):=rfl
abbrev c6h:Nat:=64
theorem c4a {F:Nat->Option a0t}:(tbl F) 64=some (.code F64):=rfl
abbrev d4m:Nat:=65
theorem d5q {F:Nat->Option a0t}:(tbl F) 65=some (.code F65):=rfl
abbrev d0a:Nat:=66
theorem c9c {F:Nat->Option a0t}:(tbl F) 66=some (.code F66):=rfl
abbrev d1n:Nat:=67
theorem c9w {F:Nat->Option a0t}:(tbl F) 67=some (.code F67):=rfl
abbrev d3r:Nat:=68
theorem d3x {F:Nat->Option a0t}:(tbl F) 68=some (.code F68):=rfl
abbrev d0d:Nat:=69
theorem d2i {F:Nat->Option a0t}:(tbl F) 69=some (.code F69):=rfl
abbrev d5e:Nat:=70
theorem d4r {F:Nat->Option a0t}:(tbl F) 70=some (.code F70):=rfl
abbrev c6q:Nat:=71
theorem c6w {F:Nat->Option a0t}:(tbl F) 71=some (.code F71):=rfl
abbrev d9d:Nat:=72
theorem d8p {F:Nat->Option a0t}:(tbl F) 72=some (.code F72):=rfl
abbrev c6u:Nat:=73
theorem c7h {F:Nat->Option a0t}:(tbl F) 73=some (.code F73):=rfl
abbrev b5i:Nat:=74
theorem b5k {F:Nat->Option a0t}:(tbl F) 74=some (.code F74):=rfl
abbrev d1f:Nat:=75
theorem d2g {F:Nat->Option a0t}:(tbl F) 75=some (.code F75):=rfl
abbrev b5y:Nat:=76
theorem b5j {F:Nat->Option a0t}:(tbl F) 76=some (.code F76):=rfl
abbrev c1x:Nat:=77
theorem d5d {F:Nat->Option a0t}:(tbl F) 77=some (.code F77):=rfl
abbrev a2m:Nat:=78
theorem a6v {F:Nat->Option a0t}:(tbl F) 78=some (.code F78):=rfl
abbrev b6z:Nat:=79
theorem b7a {F:Nat->Option a0t}:(tbl F) 79=some (.code F79):=rfl
abbrev b2s:Nat:=80
theorem b3c {F:Nat->Option a0t}:(tbl F) 80=some (.code F80):=rfl
abbrev b5v:Nat:=81
theorem b5r {F:Nat->Option a0t}:(tbl F) 81=some (.code F81):=rfl
abbrev d1p:Nat:=82
theorem d0e {F:Nat->Option a0t}:(tbl F) 82=some (.code F82):=rfl
abbrev d1q:Nat:=83
theorem d2v {F:Nat->Option a0t}:(tbl F) 83=some (.code F83):=rfl
abbrev c5g:Nat:=84
theorem c4w {F:Nat->Option a0t}:(tbl F) 84=some (.code F84):=rfl
abbrev d0v:Nat:=85
theorem d2h {F:Nat->Option a0t}:(tbl F) 85=some (.code F85):=rfl
abbrev b0f:Nat:=86
theorem b4l {F:Nat->Option a0t}:(tbl F) 86=some (.code F86):=rfl
abbrev c9n:Nat:=87
theorem d2o {F:Nat->Option a0t}:(tbl F) 87=some (.code F87):=rfl
abbrev d2p:Nat:=89
theorem d2m {F:Nat->Option a0t}:(tbl F) 89=some (.code F89):=rfl
abbrev c1h:Nat:=90
theorem c1q {F:Nat->Option a0t}:(tbl F) 90=some (.code F90):=rfl
abbrev d8k:Nat:=92
theorem d7w {F:Nat->Option a0t}:(tbl F) 92=some (.code F92):=rfl
abbrev e5u:Nat:=93
theorem e5p {F:Nat->Option a0t}:(tbl F) 93=some (.code F93):=rfl
abbrev c1i:Nat:=95
theorem b3s {F:Nat->Option a0t}:(tbl F) 95=some (.code F95):=rfl
abbrev d6o:Nat:=96
theorem d4o {F:Nat->Option a0t}:(tbl F) 96=some (.code F96):=rfl
abbrev c5p:Nat:=97
theorem c5x {F:Nat->Option a0t}:(tbl F) 97=some (.code F97):=rfl
abbrev b9d:Nat:=98
theorem d0u {F:Nat->Option a0t}:(tbl F) 98=some (.code F98):=rfl
abbrev d9u:Nat:=99
theorem d8z {F:Nat->Option a0t}:(tbl F) 99=some (.code F99):=rfl
abbrev b8n:Nat:=100
theorem b8b {F:Nat->Option a0t}:(tbl F) 100=some (.code F100):=rfl
abbrev c2h:Nat:=101
theorem c2j {F:Nat->Option a0t}:(tbl F) 101=some (.code F101):=rfl
abbrev b6e:Nat:=102
theorem b6d {F:Nat->Option a0t}:(tbl F) 102=some (.code F102):=rfl
abbrev d1v:Nat:=103
theorem d2y {F:Nat->Option a0t}:(tbl F) 103=some (.code F103):=rfl
abbrev d6r:Nat:=104
theorem d7b {F:Nat->Option a0t}:(tbl F) 104=some (.code F104):=rfl
abbrev d6a:Nat:=105
theorem d4y {F:Nat->Option a0t}:(tbl F) 105=some (.code F105):=rfl
abbrev b1a:Nat:=106
theorem c0y {F:Nat->Option a0t}:(tbl F) 106=some (.code F106):=rfl
abbrev a4x:Nat:=107
theorem b5l {F:Nat->Option a0t}:(tbl F) 107=some (.code F107):=rfl
abbrev a3m:Nat:=108
theorem a3j {F:Nat->Option a0t}:(tbl F) 108=some (.code F108):=rfl
abbrev d2d:Nat:=109
theorem c9m {F:Nat->Option a0t}:(tbl F) 109=some (.code F109):=rfl
abbrev e6y:Nat:=110
theorem e6s {F:Nat->Option a0t}:(tbl F) 110=some (.code F110):=rfl
abbrev c5b:Nat:=111
theorem c4n {F:Nat->Option a0t}:(tbl F) 111=some (.code F111):=rfl
abbrev d2x:Nat:=112
theorem d2c {F:Nat->Option a0t}:(tbl F) 112=some (.code F112):=rfl
abbrev d1o:Nat:=113
theorem c9r {F:Nat->Option a0t}:(tbl F) 113=some (.code F113):=rfl
abbrev b2i:Nat:=114
theorem c2c {F:Nat->Option a0t}:(tbl F) 114=some (.code F114):=rfl
abbrev d3l:Nat:=115
theorem d5o {F:Nat->Option a0t}:(tbl F) 115=some (.code F115):=rfl
abbrev d9c:Nat:=116
theorem e0b {F:Nat->Option a0t}:(tbl F) 116=some (.code F116):=rfl
abbrev e4p:Nat:=117
theorem e6j {F:Nat->Option a0t}:(tbl F) 117=some (.code F117):=rfl
abbrev e0n:Nat:=118
theorem d8u {F:Nat->Option a0t}:(tbl F) 118=some (.code F118):=rfl
abbrev b0k:Nat:=119
theorem b0s {F:Nat->Option a0t}:(tbl F) 119=some (.code F119):=rfl
abbrev a8c:Nat:=120
theorem b6a {F:Nat->Option a0t}:(tbl F) 120=some (.code F120):=rfl
abbrev c7d:Nat:=121
theorem c7e {F:Nat->Option a0t}:(tbl F) 121=some (.code F121):=rfl
abbrev c7a:Nat:=122
theorem c6s {F:Nat->Option a0t}:(tbl F) 122=some (.code F122):=rfl
abbrev c0i:Nat:=123
theorem c1e {F:Nat->Option a0t}:(tbl F) 123=some (.code F123):=rfl
abbrev c7c:Nat:=124
theorem c6x {F:Nat->Option a0t}:(tbl F) 124=some (.code F124):=rfl
abbrev d4i:Nat:=125
theorem d6j {F:Nat->Option a0t}:(tbl F) 125=some (.code F125):=rfl
abbrev e5j:Nat:=126
theorem e5w {F:Nat->Option a0t}:(tbl F) 126=some (.code F126):=rfl
abbrev d7r:Nat:=127
theorem d9f {F:Nat->Option a0t}:(tbl F) 127=some (.code F127):=rfl
abbrev d7z:Nat:=128
theorem d7u {F:Nat->Option a0t}:(tbl F) 128=some (.code F128):=rfl
abbrev c2a:Nat:=129
theorem c1j {F:Nat->Option a0t}:(tbl F) 129=some (.code F129):=rfl
abbrev b6f:Nat:=132
theorem c6y {F:Nat->Option a0t}:(tbl F) 132=some (.code F132):=rfl
abbrev a5k:Nat:=133
theorem b6y {F:Nat->Option a0t}:(tbl F) 133=some (.code F133):=rfl
abbrev a5j:Nat:=134
theorem b6u {F:Nat->Option a0t}:(tbl F) 134=some (.code F134):=rfl
abbrev a4z:Nat:=135
theorem b5m {F:Nat->Option a0t}:(tbl F) 135=some (.code F135):=rfl
abbrev a4a:Nat:=136
theorem b2z {F:Nat->Option a0t}:(tbl F) 136=some (.code F136):=rfl
abbrev a5l:Nat:=137
theorem b7d {F:Nat->Option a0t}:(tbl F) 137=some (.code F137):=rfl
abbrev a9n:Nat:=138
theorem b7f {F:Nat->Option a0t}:(tbl F) 138=some (.code F138):=rfl
abbrev a4t:Nat:=139
theorem b5z {F:Nat->Option a0t}:(tbl F) 139=some (.code F139):=rfl
abbrev a5y:Nat:=140
theorem b9g {F:Nat->Option a0t}:(tbl F) 140=some (.code F140):=rfl
abbrev a4u:Nat:=141
theorem a8b {F:Nat->Option a0t}:(tbl F) 141=some (.code F141):=rfl
abbrev b3d:Nat:=142
theorem c5c {F:Nat->Option a0t}:(tbl F) 142=some (.code F142):=rfl
abbrev a6l:Nat:=143
theorem d0j {F:Nat->Option a0t}:(tbl F) 143=some (.code F143):=rfl
abbrev d3f:Nat:=144
theorem d1d {F:Nat->Option a0t}:(tbl F) 144=some (.code F144):=rfl
abbrev c9v:Nat:=145
theorem d0q {F:Nat->Option a0t}:(tbl F) 145=some (.code F145):=rfl
abbrev c2f:Nat:=146
theorem c2i {F:Nat->Option a0t}:(tbl F) 146=some (.code F146):=rfl
abbrev d0p:Nat:=147
theorem d2r {F:Nat->Option a0t}:(tbl F) 147=some (.code F147):=rfl
abbrev d9s:Nat:=149
theorem e0f {F:Nat->Option a0t}:(tbl F) 149=some (.code F149):=rfl
abbrev d6q:Nat:=150
theorem d6m {F:Nat->Option a0t}:(tbl F) 150=some (.code F150):=rfl
abbrev d8n:Nat:=152
theorem c4x {F:Nat->Option a0t}:(tbl F) 152=some (.code F152):=rfl
abbrev e4v:Nat:=153
theorem e4o {F:Nat->Option a0t}:(tbl F) 153=some (.code F153):=rfl
abbrev b3a:Nat:=154
theorem b2w {F:Nat->Option a0t}:(tbl F) 154=some (.code F154):=rfl
abbrev c6t:Nat:=155
theorem c7f {F:Nat->Option a0t}:(tbl F) 155=some (.code F155):=rfl
abbrev a9g:Nat:=158
theorem b6k {F:Nat->Option a0t}:(tbl F) 158=some (.code F158):=rfl
abbrev a4s:Nat:=159
theorem b5t {F:Nat->Option a0t}:(tbl F) 159=some (.code F159):=rfl
abbrev a5i:Nat:=160
theorem b7h {F:Nat->Option a0t}:(tbl F) 160=some (.code F160):=rfl
abbrev e7w:Nat:=163
theorem e7z {F:Nat->Option a0t}:(tbl F) 163=some (.code F163):=rfl
abbrev a7w:Nat:=164
theorem a7y {F:Nat->Option a0t}:(tbl F) 164=some (.code F164):=rfl
abbrev b0b:Nat:=165
theorem d3o {F:Nat->Option a0t}:(tbl F) 165=some (.code F165):=rfl
abbrev a7l:Nat:=168
theorem b4b {F:Nat->Option a0t}:(tbl F) 168=some (.code F168):=rfl
abbrev a6c:Nat:=169
theorem b9e {F:Nat->Option a0t}:(tbl F) 169=some (.code F169):=rfl
abbrev a5g:Nat:=170
theorem b7l {F:Nat->Option a0t}:(tbl F) 170=some (.code F170):=rfl
abbrev a7z:Nat:=171
theorem b5q {F:Nat->Option a0t}:(tbl F) 171=some (.code F171):=rfl
abbrev a4i:Nat:=172
theorem b4g {F:Nat->Option a0t}:(tbl F) 172=some (.code F172):=rfl
abbrev a9u:Nat:=175
theorem a9t {F:Nat->Option a0t}:(tbl F) 175=some (.code F175):=rfl
abbrev b0a:Nat:=176
theorem b8p {F:Nat->Option a0t}:(tbl F) 176=some (.code F176):=rfl
abbrev a6a:Nat:=177
theorem b0g {F:Nat->Option a0t}:(tbl F) 177=some (.code F177):=rfl
abbrev a4f:Nat:=178
theorem b4m {F:Nat->Option a0t}:(tbl F) 178=some (.code F178):=rfl
abbrev a4d:Nat:=182
theorem b3h {F:Nat->Option a0t}:(tbl F) 182=some (.code F182):=rfl
abbrev a9h:Nat:=183
theorem b6v {F:Nat->Option a0t}:(tbl F) 183=some (.code F183):=rfl
abbrev a5p:Nat:=184
theorem b6l {F:Nat->Option a0t}:(tbl F) 184=some (.code F184):=rfl
abbrev a4v:Nat:=185
theorem b5f {F:Nat->Option a0t}:(tbl F) 185=some (.code F185):=rfl
abbrev a3v:Nat:=187
theorem b2t {F:Nat->Option a0t}:(tbl F) 187=some (.code F187):=rfl
abbrev a3z:Nat:=188
theorem b2q {F:Nat->Option a0t}:(tbl F) 188=some (.code F188):=rfl
abbrev b9n:Nat:=189
theorem c9y {F:Nat->Option a0t}:(tbl F) 189=some (.code F189):=rfl
abbrev a6f:Nat:=190
theorem b8l {F:Nat->Option a0t}:(tbl F) 190=some (.code F190):=rfl
abbrev a3w:Nat:=191
theorem b2y {F:Nat->Option a0t}:(tbl F) 191=some (.code F191):=rfl
abbrev a3y:Nat:=192
theorem b3b {F:Nat->Option a0t}:(tbl F) 192=some (.code F192):=rfl
abbrev a4y:Nat:=193
theorem a2w {F:Nat->Option a0t}:(tbl F) 193=some (.code F193):=rfl
abbrev a2z:Nat:=194
theorem b1i {F:Nat->Option a0t}:(tbl F) 194=some (.code F194):=rfl
abbrev a5h:Nat:=195
theorem b6q {F:Nat->Option a0t}:(tbl F) 195=some (.code F195):=rfl
end Go.Vm.Ite
namespace Go.Vm
open Go.ChangeShapes Go.WideShapes Go.ChangeAt Go.RowKit
def contents (w:World) (b:Nat):List Value:=match w.heap[b]? with|some (.cells cur _ _)=>cur.toList|_=>[]
def gh0 (w:World):Gh:=⟨fun _=>none,contents w⟩
theorem d1m {w:World} {b off:Nat} {v:Value} {sp} (h:w.cell? ⟨b,off,sp⟩=some v):(contents w b)[off]? =some v:=by
 unfold World.cell? at h
 unfold contents
 split at h
 ·rename_i c t f hc
  split at h
  ·cases h
  ·simp only at hc
   rw[hc]
   simpa using h
 ·cases h
def d5r (cx:Cx) (w:World):Prop:=(∀ i,∃ vs,vs <+:contents w i/\a1q (contents w) (cx.gv i) vs)/\∀ i o,cx.fx i=some o->w.heap[i]? =some o
theorem inv0 {cx:Cx} {w:World} (h:d5r cx w):Inv cx (gh0 w) [] w:=by
 refine⟨fun i k b c c' h=>(nomatch h),fun i b c h=>(nomatch h),fun i b c o h=>(nomatch h),fun b hb=>?_,fun i c hi=>absurd hi (Nat.not_lt_zero _),h.1,fun i o hi=>⟨h.2 i o hi,fun k c hk=>(nomatch hk)⟩⟩
 simp only[gh0,contents]at hb⊢
 split at hb
 ·rename_i cur e fz hc
  exact⟨cur,e,fz,hc,List.prefix_refl _⟩
 ·exact absurd rfl hb
theorem front {P:Program} {pg:Pg} (hT:c2e P pg) (hmx:P.follows .mixedOrders=true) {f:Nat} {args:Array Value} {ds:List D} {W:World} (hg:d5r pg.toCx W) (hr:a1c (gh0 W) [] (ds.map V.d) args.toList)
 {H':Hp} (hev:evF pg f (ds.map V.d) []=some (.d (.bool true),H')):Calls P f args W fun e W'=>e= .returned (.bool true)/\Below W.heap.size W W':=by
 obtain⟨_,h⟩:=b7y hT hmx f (ds.map V.d) [] (.d (.bool true)) H' hev
 refine(h (gh0 W) W args (inv0 hg) hr (a8q _ ds)).mono fun e w' he=>?_
 obtain⟨g',x,h1,h2,h3,_,h5⟩:=he
 rw[b2f h3]at h1
 exact⟨h1,⟨h5.os,h5.tape,h5.output,h5.size,fun k hk=>(h5.frame k hk fun i c=>by simp[gh0]).1⟩⟩
def d3m (P:Program) (total:Nat):Nat->List Field->Bool
 |n,[]=>n==total
 |n,f::r=>f.offset==n && d3m P total (n+P.cellsOf f.type) r
section
variable {H:Type}
mutual
/-- What a reading says, as data. -/
def dwD:DataW H->D
 | .lit (.bool b)=> .bool b
 | .lit (.int k n)=> .int k n
 | .lit (.string s)=> .str s
 | .agg l=> .agg (b0t l)
 | .slice l _=> .sl (dwL l)
 |_=> .sl []
def dwL:List (DataW H)->List D
 |[]=>[]
 |x::r=>dwD x::dwL r
def b0t:List (DataW H)->List D
 |[]=>[]
 |x::r=>(dwD x).cells++b0t r
end
theorem f8s:∀ l:List (DataW H),dwL l=l.map dwD
 |[]=>rfl
 |x::r=>by simp[dwL,f8s r]
theorem b9y:∀ l:List (DataW H),b0t l=(l.map dwD).flatMap D.cells
 |[]=>rfl
 |x::r=>by simp[b0t,b9y r]
end
def b2h (P:Program):Nat->TypeId->Bool
 |0,_=>false
 |m+1,t=>match P.underlying t with
  |some .bool|some (.int _)|some .string=>P.cellsOf t==1
  |some (.slice e)=>P.cellsOf t==1 && decide (0 < P.cellsOf e) && b2h P m e
  |some (.struct fs)=>d3m P (P.cellsOf t) 0 fs.toList && fs.toList.all fun f=>b2h P m f.type
  |some (.array n e)=>P.cellsOf t==n*P.cellsOf e && b2h P m e
  |_=>false
def d3g (P:Program):Nat->TypeId->D->Prop
 |0,_,_=>False
 |m+1,t,x=>match P.underlying t with
  |some .bool=> ∃ b,x= .bool b
  |some (.int k)=> ∃ n,x= .int k n/\(Lit.int k n).wf=true
  |some .string=> ∃ s,x= .str s/\s.length<=maxLen
  |some (.slice e)=> ∃ l,x= .sl l/\l.length<=maxLen/\∀ y∈l,d3g P m e y
  |some (.struct fs)=> ∃ xs:List D,x= .agg (xs.flatMap D.cells)/\xs.length=fs.toList.length/\∀ (i:Nat) (f:Field) (y:D),fs.toList[i]? =some f->xs[i]? =some y->d3g P m f.type y
  |some (.array n e)=> ∃ xs:List D,x= .agg (xs.flatMap D.cells)/\xs.length=n/\∀ y∈xs,d3g P m e y
  |_=>False
theorem b3j {C:Nat->List Value}:∀ {l l':List D} {vs vs':List Value},a1q C l vs->a1q C l' vs'->a1q C (l++l') (vs++vs')
 |[],l',vs,vs',r,r'=>by simp only[a1q]at r;subst r;exact r'
 |d::ds,l',vs,vs',r,r'=>by
  simp only[a1q]at r
  obtain⟨y,ys,rfl,h1,h2,h3⟩:=r
  simp only[List.cons_append,a1q]
  exact⟨y,ys++vs',by simp,h1,h2,b3j h3 r'⟩
section
variable {H:Type} {enc:TypeId×Value->H} {P:Program} {w:World} {base:Nat} {spare:Nat->Bool} {held:Bool} {fuel:Nat}
theorem e1e {total m:Nat} (rec_:∀ t cs x,b2h P m t=true->DataW.trod enc P w base spare held fuel t cs=some x->d3g P m t (dwD x.1)/\a0v (contents w) (dwD x.1) cs):∀ (fs:List Field) (n:Nat) (cs:List Value) (xs:List (DataW H×List MemPlace)),d3m P total n fs=true->cs.length=total->
 (fs.all fun f=>b2h P m f.type)=true->(fs.mapM fun f=>DataW.trod enc P w base spare held fuel f.type ((cs.drop f.offset).take (P.cellsOf f.type)))=some xs->
 a1q (contents w) (b0t (xs.map (·.1))) (cs.drop n)/\xs.length=fs.length/\∀ (i:Nat) (f:Field) (y:D),fs[i]? =some f->(xs.map fun x=>dwD x.1)[i]? =some y->d3g P m f.type y
 |[],n,cs,xs,ho,hl,_,hx=>by
  simp only[d3m,beq_iff_eq]at ho
  simp only[List.mapM_nil,Option.pure_def,Option.some.injEq]at hx
  subst hx
  refine⟨?_,rfl,fun i f y h=>by simp at h⟩
  rw[List.drop_eq_nil_of_le om]
  simp[a1q,b0t]
 |f::fs,n,cs,xs,ho,hl,hp,hx=>by
  simp only[d3m,Bool.and_eq_true,beq_iff_eq]at ho
  simp only[List.all_cons,Bool.and_eq_true]at hp
  simp only[List.mapM_cons,Option.bind_eq_bind,Option.bind_eq_some_iff,Option.pure_def,Option.some.injEq]at hx
  obtain⟨x,hx1,xs',hx2,rfl⟩:=hx
  rw[ho.1]at hx1
  obtain⟨h1,h2⟩:=rec_ f.type _ x hp.1 hx1
  obtain⟨h3,h4,h5⟩:=e1e rec_ fs (n+P.cellsOf f.type) cs xs' ho.2 hl hp.2 hx2
  refine⟨?_,by simp[h4],fun i f' y hf hy=>?_⟩
  ·simp only[List.map_cons,b0t]
   have:=b3j (b6x h2) h3
   rw[<-List.drop_drop,List.take_append_drop]at this
   exact this
  ·cases i with
   |zero=>
    simp only[List.getElem?_cons_zero,Option.some.injEq,List.map_cons]at hf hy
    subst hf;subst hy
    exact h1
   |succ i=>exact h5 i f' y (by simpa using hf) (by simpa using hy)
theorem h2b {m sz:Nat} {e:TypeId} (rec_:∀ cs x,DataW.trod enc P w base spare held fuel e cs=some x->d3g P m e (dwD x.1)/\a0v (contents w) (dwD x.1) cs):∀ (len k:Nat) (cs:List Value) (xs:List (DataW H×List MemPlace)),cs.length=(k+len) *sz->
 ((List.range' k len).mapM fun i=>DataW.trod enc P w base spare held fuel e ((cs.drop (i*sz)).take sz))=some xs->
 a1q (contents w) (b0t (xs.map (·.1))) (cs.drop (k*sz))/\xs.length=len/\∀ y∈xs.map fun x=>dwD x.1,d3g P m e y
 |0,k,cs,xs,hl,h=>by
  simp only[List.range'_zero,List.mapM_nil,Option.pure_def,Option.some.injEq]at h
  subst h
  refine⟨?_,rfl,by simp⟩
  rw[List.drop_eq_nil_of_le (by rw[hl];simp)]
  simp[a1q,b0t]
 |len+1,k,cs,xs,hl,h=>by
  simp only[List.range'_succ,List.mapM_cons,Option.bind_eq_bind,Option.bind_eq_some_iff,Option.pure_def,Option.some.injEq]at h
  obtain⟨x,hx,xs',hxs,rfl⟩:=h
  obtain⟨h1,h2⟩:=rec_ _ x hx
  obtain⟨h3,h4,h5⟩:=h2b rec_ len (k+1) cs xs' (by rw[hl];congr 1;omega) hxs
  refine⟨?_,by simp[h4],fun y hy=>?_⟩
  ·simp only[List.map_cons,b0t]
   have:=b3j (b6x h2) h3
   rw[Nat.add_mul,Nat.one_mul,<-List.drop_drop,List.take_append_drop]at this
   exact this
  ·simp only[List.map_cons,List.mem_cons]at hy
   rcases hy with rfl|hy
   ·exact h1
   ·exact h5 y hy
theorem mapM_some_get {α β:Type} {F:α->Option β}:∀ {l:List α} {r:List β},l.mapM F=some r->r.length=l.length/\∀ (i:Nat) (x:α),l[i]? =some x->∃ y,F x=some y/\r[i]? =some y
 |[],r,h=>by
  simp only[List.mapM_nil,Option.pure_def,Option.some.injEq]at h
  subst h
  exact⟨rfl,fun i x h=>by simp at h⟩
 |a::l,r,h=>by
  simp only[List.mapM_cons,Option.bind_eq_bind,Option.bind_eq_some_iff,Option.pure_def,Option.some.injEq]at h
  obtain⟨y,hy,ys,hys,rfl⟩:=h
  obtain⟨h1,h2⟩:=mapM_some_get hys
  refine⟨by simp[h1],fun i x hx=>?_⟩
  cases i with
  |zero=>simp only[List.getElem?_cons_zero,Option.some.injEq]at hx;subst hx;exact⟨y,hy,rfl⟩
  |succ i=>exact h2 i x (by simpa using hx)
theorem e6d {a:Addr} {n:Nat} {cs:List Value} (h:w.cells? base a n=some cs):cs.length=n/\(0 < n->a.spot=none)/\cs <+:(contents w a.block).drop a.off:=by
 unfold World.cells? at h
 split at h
 ·obtain⟨h1,h2⟩:=mapM_some_get h
  have hl:cs.length=n:=by simpa using h1
  have hc:∀ i,i < n->∃ y,w.cell? (a.add i)=some y/\cs[i]? =some y:=fun i hi=>h2 i i (by simp[hi])
  refine⟨hl,fun hn=>?_,?_⟩
  ·obtain⟨y,hy,_⟩:=hc 0 hn
   exact World.cell?_spot (by simpa [Addr.add] using hy)
  ·rw[List.prefix_iff_eq_take]
   apply List.ext_getElem?
   intro i
   by_cases hi:i < n
   ·obtain⟨y,hy,hcy⟩:=hc i hi
    rw[hcy,List.getElem?_take,if_pos om,List.getElem?_drop]
    have hy':w.cell? ⟨a.block,a.off+i,none⟩=some y:=by
     by_cases h0:i=0
     ·subst h0
      have hs:=World.cell?_spot hy
      simp only[Addr.add,if_true]at hy hs
      obtain⟨b,o,sp⟩:=a
      simp only at hs
      subst hs
      simpa using hy
     ·simpa [Addr.add,h0] using hy
    exact(d1m hy').symm
   ·rw[List.getElem?_eq_none om,List.getElem?_eq_none (by rw[List.length_take];omega)]
 ·cases h
theorem g8e {m sz:Nat} {e:TypeId} {a:Addr} (hs:0 < sz) (rec_:∀ cs x,DataW.trod enc P w base spare held fuel e cs=some x->d3g P m e (dwD x.1)/\a0v (contents w) (dwD x.1) cs):∀ (len k:Nat) (xs:List (DataW H×List MemPlace)),
 ((List.range' k len).mapM fun i=>(w.cells? base (a.add (i*sz)) sz).bind (DataW.trod enc P w base spare held fuel e))=some xs->
 ∃ us:List Value,xs.length=len/\us <+:(contents w a.block).drop (a.off+k*sz)/\a1z (contents w) sz (xs.map fun x=>dwD x.1) us/\(∀ y∈xs.map fun x=>dwD x.1,d3g P m e y)/\(0 < len->k=0->a.spot=none)
 |0,k,xs,h=>by
  simp only[List.range'_zero,List.mapM_nil,Option.pure_def,Option.some.injEq]at h
  subst h
  exact⟨[],rfl,List.nil_prefix,by simp[a1z],by simp,om⟩
 |len+1,k,xs,h=>by
  simp only[List.range'_succ,List.mapM_cons,Option.bind_eq_bind,Option.bind_eq_some_iff,Option.pure_def,Option.some.injEq]at h
  obtain⟨x,⟨cs,hc,hx⟩,xs',hxs,rfl⟩:=h
  obtain⟨us,h1,h2,h3,h4,_⟩:=g8e hs rec_ len (k+1) xs' hxs
  obtain⟨d1,d2⟩:=rec_ cs x hx
  obtain⟨c1,c2,c3⟩:=e6d hc
  have hblk:(a.add (k*sz)).block=a.block:=by unfold Addr.add;split<;>rfl
  have hoff:(a.add (k*sz)).off=a.off+k*sz:=by unfold Addr.add;split<;>simp_all
  rw[hblk,hoff]at c3
  refine⟨cs++us,by simp[h1],?_,by simp only[List.map_cons,a1z];exact⟨cs,us,rfl,c1,d2,h3⟩,fun y hy=>?_,fun _ hk=>?_⟩
  ·obtain⟨t,ht⟩:=c3
   rw[Nat.add_mul,Nat.one_mul,<-Nat.add_assoc,<-List.drop_drop,<-ht,<-c1,List.drop_left]at h2
   obtain⟨t',rfl⟩:=h2
   exact⟨t',by rw[<-ht];simp⟩
  ·simp only[List.map_cons]at hy
   cases hy with
   |head=>exact d1
   |tail _ hm=>exact h4 y hm
  ·subst hk
   have:=c2 hs
   simpa [Addr.add] using this
theorem h2q:∀ (fuel m:Nat) (t:TypeId) (cs:List Value) (x:DataW H×List MemPlace),b2h P m t=true->DataW.trod enc P w base spare held fuel t cs=some x->d3g P m t (dwD x.1)/\a0v (contents w) (dwD x.1) cs:=by
 intro fuel
 induction fuel with
 |zero=>intro m t cs x _ h;simp[DataW.trod]at h
 |succ fuel ih=>
  intro m t cs x hp h
  cases m with
  |zero=>simp[b2h]at hp
  |succ m=>
   simp only[b2h]at hp
   simp only[d3g]
   have h':=h
   unfold DataW.trod at h'
   cases hu:P.underlying t with
   |none=>rw[hu]at hp;cases hp
   |some u=>
    rw[hu]at hp h'
    cases u with
    |bool=>
     split at h'<;>first|(rename_i q;cases q;done)|skip
     ·rename_i b _
      cases h'
      exact⟨⟨b,rfl⟩,by simp[a0v,dwD]⟩
     ·cases h'
    |int k=>
     obtain⟨n,rfl,rfl,hw⟩:=DataW.trod_int hu h
     exact⟨⟨n,rfl,hw⟩,by simp[a0v,dwD]⟩
    |string=>
     split at h'<;>first|(rename_i q;cases q;done)|skip
     ·rename_i s _
      split at h'
      ·rename_i hs
       cases h'
       exact⟨⟨s.data.toList,rfl,by simpa using hs⟩,by simp[a0v,dwD]⟩
      ·cases h'
     ·cases h'
    |slice e=>
     simp only[Bool.and_eq_true,decide_eq_true_eq]at hp
     split at h'<;>first|(rename_i q;cases q;done)|skip
     ·cases h'
      exact⟨⟨[],rfl,by simp,by simp⟩,by simp[a0v,dwD]⟩
     ·rename_i e' a len cap q
      cases q
      simp only at h'
      split at h'
      case isFalse=>cases h'
      rename_i hb
      obtain⟨hb,hlc,hcm⟩:=hb
      obtain⟨xs,hxs,hrest⟩:=Option.bind_eq_some_iff.1 h'
      obtain⟨rest,_,rfl⟩:=Option.map_eq_some_iff.1 hrest
      rw[List.range_eq_range']at hxs
      obtain⟨us,h1,h2,h3,h4,h5⟩:=g8e (m:=m) (sz:=P.cellsOf e) (e:=e) (a:=a) hp.1.2 (fun cs x hx=>ih m e cs x hp.2 hx) len 0 xs hxs
      have hd:dwD (DataW.slice (xs.map (·.1)) (rest.map (·.1)))= .sl (xs.map fun x=>dwD x.1):=by simp[dwD,f8s,Function.comp_def]
      rw[hd]
      refine⟨⟨_,rfl,by simp[h1];omega,h4⟩,?_⟩
      simp only[a0v]
      refine⟨some a,cap,by simp[h1],by simp[h1];omega,?_⟩
      by_cases hl0:len=0
      ·left
       exact List.length_eq_zero_iff.1 (by simp[h1];omega)
      ·right
       have hs:=h5 om rfl
       obtain⟨b,o,sp⟩:=a
       simp only at hs
       subst hs
       exact⟨b,o,_,us,rfl,hp.1.2,by simpa using h2,h3⟩
     ·cases h'
    |struct fs=>
     simp only[Bool.and_eq_true]at hp
     have hstr:(if cs.length=P.cellsOf t then(fs.toList.mapM fun f=>DataW.trod enc P w base spare held fuel f.type ((cs.drop f.offset).take (P.cellsOf f.type))).map fun xs=>(DataW.agg (xs.map (·.1)),xs.flatMap (·.2)) else none)=some x:=h'
     split at hstr
     ·rename_i hl
      obtain⟨xs,hxs,rfl⟩:=Option.map_eq_some_iff.1 hstr
      obtain⟨d1,d2,d3⟩:=e1e (m:=m) (fun t cs x hp hx=>ih m t cs x hp hx) fs.toList 0 cs xs hp.1 hl hp.2 hxs
      have hd:dwD (DataW.agg (xs.map (·.1)))= .agg ((xs.map fun x=>dwD x.1).flatMap D.cells):=by simp[dwD,b9y,Function.comp_def]
      refine⟨⟨xs.map fun x=>dwD x.1,hd,by simp[d2],d3⟩,?_⟩
      simp only[dwD,a0v]
      simpa using d1
     ·cases hstr
    |array n e=>
     simp only[Bool.and_eq_true,beq_iff_eq]at hp
     have harr:(if cs.length=P.cellsOf t then((List.range n).mapM fun i=>DataW.trod enc P w base spare held fuel e ((cs.drop (i*P.cellsOf e)).take (P.cellsOf e))).map fun xs=>(DataW.agg (xs.map (·.1)),xs.flatMap (·.2)) else none)=some x:=h'
     split at harr
     ·rename_i hl
      obtain⟨xs,hxs,rfl⟩:=Option.map_eq_some_iff.1 harr
      rw[List.range_eq_range']at hxs
      obtain⟨d1,d2,d3⟩:=h2b (m:=m) (sz:=P.cellsOf e) (e:=e) (fun cs x hx=>ih m e cs x hp.2 hx) n 0 cs xs (by rw[hl,hp.1];simp) hxs
      have hd:dwD (DataW.agg (xs.map (·.1)))= .agg ((xs.map fun x=>dwD x.1).flatMap D.cells):=by simp[dwD,b9y,Function.comp_def]
      refine⟨⟨xs.map fun x=>dwD x.1,hd,by simp[d2],d3⟩,?_⟩
      simp only[dwD,a0v]
      simpa using d1
     ·cases harr
    |_=>cases hp
theorem i1n {m:Nat} {t:TypeId} {v:Value} {d:DataW H} {ps:List MemPlace} {r:Reach} {b0:Nat} (hp:b2h P m t=true) (hval:Value.okWide P w r b0 t v) (h:DataW.Trod enc P w base spare held t v d ps):d3g P m t (dwD d)/\a3e (contents w) (dwD d) v:=by
 obtain⟨fuel,hf⟩:=h
 obtain⟨h1,h2⟩:=h2q fuel m t _ _ hp hf
 simp only at h1 h2
 refine⟨h1,?_⟩
 cases m with
 |zero=>simp[b2h]at hp
 |succ m=>
  simp only[d3g]at h1
  split at h1
  ·rename_i hu
   obtain⟨b,hb⟩:=h1
   rw[hb]at h2⊢
   obtain⟨b',rfl⟩:=okWide_bool hu hval
   simpa [Value.cells,a3e] using h2
  ·rename_i k hu
   obtain⟨n,hb,_⟩:=h1
   rw[hb]at h2⊢
   obtain⟨n',rfl⟩:=okWide_int hu hval
   simpa [Value.cells,a3e] using h2
  ·rename_i hu
   obtain⟨s,hb,_⟩:=h1
   rw[hb]at h2⊢
   obtain⟨s',rfl⟩:=okWide_string hu hval
   simpa [Value.cells,a3e] using h2
  ·rename_i e hu
   obtain⟨l,hb,_⟩:=h1
   rw[hb]at h2⊢
   obtain⟨a,len,cap,rfl⟩:=okWide_slice hu hval
   simpa [Value.cells,a3e] using h2
  ·rename_i fs hu
   obtain⟨xs,hb,_⟩:=h1
   rw[hb]at h2⊢
   obtain⟨cs,rfl,_⟩:=okWide_struct hu hval
   exact⟨cs,rfl,by simpa [a0v,Value.cells] using h2⟩
  ·rename_i n e hu
   obtain⟨xs,hb,_⟩:=h1
   rw[hb]at h2⊢
   have hval':=hval
   simp only[Value.okWide,hu]at hval'
   obtain⟨cs,rfl,_⟩:=hval'
   exact⟨cs,rfl,by simpa [a0v,Value.cells] using h2⟩
  ·exact h1.elim
theorem f9j {m:Nat} {base0:Nat} {r:Reach}:∀ {ts:List TypeId} {vs:List Value} {ds:List (DataW H)} {ps:List MemPlace},DataW.TrodAll enc P w base spare held ts vs ds ps->(∀ t∈ts,b2h P m t=true)->(∀ (j:Nat) t v,ts[j]? =some t->vs[j]? =some v->Value.okWide P w r base0 t v)->
 a1c (gh0 w) [] ((ds.map dwD).map V.d) vs/\ds.length=ts.length/\∀ (i:Nat) t x,ts[i]? =some t->ds[i]? =some x->d3g P m t (dwD x)
 |[],vs,ds,ps,h,_,_=>by
  obtain⟨rfl,rfl,rfl⟩:=trodAll_nil h
  exact⟨by simp[a1c],rfl,fun i t x h=>by simp at h⟩
 |t::ts,vs,ds,ps,h,hp,hv=>by
  obtain⟨v,vs1,d,ds1,a,b,rfl,rfl,rfl,h1,h2⟩:=trodAll_cons h
  obtain⟨x1,x2⟩:=i1n (hp t (by simp)) (hv 0 t v rfl rfl) h1
  obtain⟨y1,y2,y3⟩:=f9j h2 (fun t ht=>hp t (by simp[ht])) fun j t v ht hv'=>hv (j+1) t v (by simpa using ht) (by simpa using hv')
  refine⟨by simp only[List.map_cons,a1c,Rep];exact⟨v,vs1,rfl,x2,by simpa using y1⟩,by simp[y2],fun i t' x' ht hx=>?_⟩
  cases i with
  |zero=>
   simp only[List.getElem?_cons_zero,Option.some.injEq]at ht hx
   subst ht;subst hx
   exact x1
  |succ i=>exact y3 i t' x' (by simpa using ht) (by simpa using hx)
theorem b8y {W W':World} (hl:laidOutB P=true) (hb:Below W.heap.size W W'):∀ {ts:List TypeId} {vs:List Value} {ds:List (DataW H)} {ps:List MemPlace},(∀ t∈ts,P.readableRec t=true/\t < P.types.size)->DataW.TrodAll enc P W 0 (fun _=>true) true ts vs ds ps->(∀ x∈ps,x.block < W.heap.size)->
    DataW.TrodAll enc P W' 0 (fun b=>decide (b < W.heap.size)) true ts vs ds ps
  |[],vs,ds,ps,_,h,_=>by
   obtain⟨rfl,rfl,rfl⟩:=trodAll_nil h
   simp[DataW.TrodAll]
  |t::ts,vs,ds,ps,hr,h,hlt=>by
   obtain⟨v,vs1,d,ds1,a,b,rfl,rfl,rfl,h1,h2⟩:=trodAll_cons h
   exact⟨a,b,Below.trod hl (hr t (by simp)).1 (hr t (by simp)).2 h1 hb fun x hx=>hlt x (by simp[hx]),b8y hl hb (fun t ht=>hr t (by simp[ht])) h2 fun x hx=>hlt x (by simp[hx]),rfl⟩
theorem f0h {fn:Func} {s:ChangeSpec} {apart:Bool} {W W':World} {args:Array Value} {ds gs:List (DataW H)} {before:List MemPlace} {tb:TypeId} (hl:laidOutB P=true) (hb:Below W.heap.size W W')
 (hs:s.vars=[]) (hfn:∀ ds:List (DataW H),ds.length=fn.params.size->s.fn H ds={results:=[.lit (.bool true)],args:=ds })
 (hr:∀ t∈fn.params.toList,P.readableRec t=true/\t < P.types.size) (hres:fn.resultTypes= #[tb]) (htb:P.underlying tb=some .bool)
 (hW:DataW.Whole enc P fn.params.toList s.vars apart W args.toList ds gs before):
 s.post enc P fn apart true false false W args (.bool true) W':=by
 have hlt:=hW.lt
 have hW':=hW
 obtain⟨p,q,hA,hV,rfl,_,_⟩:=hW
 rw[hs]at hV
 obtain⟨rfl,rfl⟩:=trodVars_none hV
 have hlen:∀ {ts:List TypeId} {vs:List Value} {ds:List (DataW H)} {ps:List MemPlace},DataW.TrodAll enc P W 0 (fun _=>true) true ts vs ds ps->ds.length=ts.length:=by
   intro ts
   induction ts with
   |nil=>intro vs ds ps h;obtain⟨_,rfl,_⟩:=trodAll_nil h;rfl
   |cons t ts ih=>intro vs ds ps h;obtain⟨_,_,_,_,_,_,_,rfl,_,_,h2⟩:=trodAll_cons h;simp[ih h2]
 have e:=hfn ds (by rw[hlen hA];simp)
 refine⟨ds,[],p++[],[],p,[],hW',?_,?_,?_,hb.frame _,fun h=>by cases h⟩
 ·rw[List.append_nil,e,hres]
  exact trodAll_mk1 (shut_bool htb true)
 ·rw[List.append_nil,e]
  exact b8y hl hb hr hA fun x hx=>hlt x (by simp[hx])
 ·rw[List.append_nil,e,hs]
  rfl
end
end Go.Vm
namespace Go.Vm
open Go.ChangeShapes Go.WideShapes Go.ChangeAt Go.RowKit
section
variable {H:Type} {enc:TypeId×Value->H} {P:Program}
def h4r (l:List (Nat×List D)) (i:Nat):List D:=((l.find? (·.1==i)).map (·.2)).getD []
def d7v (w:World) (l:List Nat) (i:Nat):Option Obj:=if i∈l then w.heap[i]? else none
theorem f5o (w:World) (l:List Nat) (i:Nat) (o:Obj) (h:d7v w l i=some o):w.heap[i]? =some o:=by
 unfold d7v at h;split at h
 ·exact h
 ·cases h
theorem e9a {w:World} (l:List (Nat×List D)) {fx:Nat->Option Obj} (hfx:∀ i o,fx i=some o->w.heap[i]? =some o) (h:∀ p∈l,∃ vs,vs <+:contents w p.1/\a1q (contents w) p.2 vs):d5r ⟨h4r l,fx⟩ w:=by
 refine⟨fun i=>?_,hfx⟩
 show ∃ vs,vs <+:contents w i/\a1q (contents w) (h4r l i) vs
 unfold h4r
 cases hf:l.find? (·.1==i)with
 |none=>exact⟨[],List.nil_prefix,by simp[a1q]⟩
 |some p=>
  have hm:=List.mem_of_find?_eq_some hf
  have he:=List.find?_some hf
  simp only[beq_iff_eq]at he
  subst he
  exact h p hm
theorem d4z {pg:Pg} (hT:c2e P pg) (hmx:P.follows .mixedOrders=true) {f:Nat} {fn:Func} {s:ChangeSpec} {apart:Bool} {W:World} {base m:Nat} {args:Array Value} {ds gs:List (DataW H)} {before:List MemPlace} {tb:TypeId} (hl:laidOutB P=true)
 (hs:s.vars=[]) (hfn:∀ ds:List (DataW H),ds.length=fn.params.size->s.fn H ds={results:=[.lit (.bool true)],args:=ds })
 (hr:∀ t∈fn.params.toList,(P.readableRec t=true/\t < P.types.size)/\b2h P m t=true) (hres:fn.resultTypes= #[tb]) (htb:P.underlying tb=some .bool)
 (hval:∀ (j:Nat) t v,fn.params[j]? =some t->args[j]? =some v->Value.okWide P W .any base t v)
 (hW:DataW.Whole enc P fn.params.toList s.vars apart W args.toList ds gs before) (hg:d5r pg.toCx W)
 (hkey:ds.length=fn.params.size->(∀ (i:Nat) t x,fn.params[i]? =some t->ds[i]? =some x->d3g P m t (dwD x))->∃ H',evF pg f ((ds.map dwD).map V.d) []=some (.d (.bool true),H')):
 Calls P f args W fun e W'=> ∃ v,e= .returned v/\s.post enc P fn apart true false false W args v W':=by
 have hW':=hW
 obtain⟨p,q,hA,_⟩:=hW
 obtain⟨h1,h2,h3⟩:=f9j (m:=m) hA (fun t ht=>(hr t ht).2) (fun j t v ht hv=>hval j t v (by simpa using ht) (by simpa using hv))
 obtain⟨H',hev⟩:=hkey (by simpa using h2) fun i t x ht hx=>h3 i t x (by simpa using ht) hx
 refine(front hT hmx hg h1 hev).mono fun e W' he=>?_
 exact⟨_,he.1,f0h hl he.2 hs hfn (fun t ht=>(hr t ht).1) hres htb hW'⟩
end
end Go.Vm
namespace Go.Vm
open Go.RowKit
section
variable {P:Program} {cx:Cx} {g:Gh} {H:Hp} {w w':World}
theorem Inv.below (hI:Inv cx g H w) (h:Below w.heap.size w w'):Inv cx g H w'/\Ext H.length g H w g H w':=by
 have hk:Keep H.length g H g H:=Keep.refl _ _ _
 refine⟨⟨hI.inj,fun i b c hj=>⟨(hI.dom i b c hj).1,Nat.lt_of_lt_of_le (hI.dom i b c hj).2 h.size⟩,fun i b c o hj ho=>?_,fun b hb=>?_,hI.und,hI.glob,hI.fix.mono fun b hb hn=>⟨h.block b hb,hn⟩⟩,⟨h.os,h.tape,h.output,h.size,fun b hb _=>⟨h.block b hb,rfl⟩,hk,fun i b c hj _=>⟨i,c,hj⟩,fun _ _ h=>h,Nat.le_refl _⟩⟩
 ·have hd:=hI.dom i b c hj
  exact(hI.ob i b c o hj ho).ext hk.w (h.block b hd.2) rfl (by rintro c' rfl;exact hI.und i c' hd.1 ho)
 ·obtain⟨cur,e,fz,h1,h2⟩:=hI.imm b hb
  exact⟨cur,e,fz,by rw[h.block b (Array.getElem?_eq_some_iff.1 h1).1];exact h1,h2⟩
theorem g2d {f:Nat} {args:List V} {r:D} (hfn:∃ fn,P.funcs[f]? =some fn/\fn.body.isNone=false/\(fn.name== "runtime.NumGoroutine")=false)
 (hc:∀ g w (cargs:Array Value),Inv cx g H w->a1c g H args cargs.toList->Calls P f cargs w fun e w'=> ∃ x,e= .returned x/\a3e g.C r x/\Below w.heap.size w w'):a8a P cx f args H (.d r) H:=by
 refine⟨hfn,fun g w cargs hI ra ua=>(hc g w cargs hI ra).mono fun e w' he=>?_⟩
 obtain⟨x,h1,h2,h3⟩:=he
 obtain⟨k1,k2⟩:=hI.below h3
 exact⟨g,x,h1,k1,by simpa only[Rep] using h2,rfl,k2⟩
theorem d2n {s:List UInt8} {r:List V} {vs:List Value} (h:a1c g H (.d (.str s)::r) vs):∃ ys,vs= .string ⟨s.toArray⟩::ys/\a1c g H r ys:=by
 simp only[a1c]at h
 obtain⟨y,ys,rfl,h1,h2⟩:=h
 simp only[Rep,a3e,a0v,List.cons.injEq,and_true]at h1
 exact⟨ys,by rw[h1],h2⟩
theorem f4j {k:IntKind} {n:Int} {r:List V} {vs:List Value} (h:a1c g H (.d (.int k n)::r) vs):∃ ys,vs= .int k n::ys/\a1c g H r ys:=by
 simp only[a1c]at h
 obtain⟨y,ys,rfl,h1,h2⟩:=h
 simp only[Rep,a3e,a0v,List.cons.injEq,and_true]at h1
 exact⟨ys,by rw[h1],h2⟩
theorem e1r {vs:List Value} (h:a1c g H [] vs):vs=[]:=by simpa only[a1c] using h
end
end Go.Vm
namespace Go.Vm
open Go.RowKit
section
variable {P:Program} {cx:Cx}
def e2c (P:Program) (f:Nat):Prop:=∃ fn,P.funcs[f]? =some fn/\fn.body.isNone=false/\(fn.name== "runtime.NumGoroutine")=false
end
end Go.Vm
namespace Go.Vm
open Go.RowKit
def a4o:List V->Hp->Option (V×Hp)
 |[.d (.str s),.d (.int .u8 c)],H=>some (.d (.int .i64 (Lib.indexByte s c.toNat.toUInt8)),H)
 |_,_=>none
section
variable {P:Program} {cx:Cx}
theorem f6x {f:Nat} {args:List V} {H:Hp} {r:V} (hu:∀ n,r.und n=true) (hfn:e2c P f)
 (hc:∀ g w (cargs:Array Value),Inv cx g H w->a1c g H args cargs.toList->Calls P f cargs w fun e w'=> ∃ x,e= .returned x/\Rep g H r x/\Below w.heap.size w w'):a8a P cx f args H r H:=by
 refine⟨hfn,fun g w cargs hI ra ua=>(hc g w cargs hI ra).mono fun e w' he=>?_⟩
 obtain⟨x,h1,h2,h3⟩:=he
 obtain⟨k1,k2⟩:=hI.below h3
 exact⟨g,x,h1,k1,h2,hu _,k2⟩
theorem c7g {f:Nat} (hf:e2c P f)
 (hc:∀ (s:ByteArray) (c:Int) (w:World),Calls P f #[.string s,.int .u8 c] w fun e w'=>e= .returned (.int .i64 (Lib.indexByte s.data.toList c.toNat.toUInt8))/\w'=w):
 ∀ args H r H',a4o args H=some (r,H')->a8a P cx f args H r H':=by
 intro args H r H' h
 unfold a4o at h
 split at h
 ·rename_i H0 s c
  cases h
  refine g2d hf fun g w cargs hI ra=>?_
  obtain⟨ys,e1,r1⟩:=d2n ra
  obtain⟨zs,e2,r2⟩:=f4j r1
  rw[e1r r2]at e2
  rw[e2]at e1
  have:cargs= #[.string ⟨s.toArray⟩,.int .u8 c]:=by apply Array.toList_inj.1;exact e1
  subst this
  refine(hc ⟨s.toArray⟩ c w).mono fun e w' he=>?_
  obtain⟨e2,rfl⟩:=he
  exact⟨_,e2,by simp only[a3e,a0v],Below.refl _ _⟩
 ·cases h
def g8u (cx:Cx) (i:Nat):Prop:=∃ ev t fz,cx.fx i=some (.cells #[ev] t fz)/\(ev= .nilIface\/∃ te pe,ev= .iface te pe)
theorem g8u.cell {i:Nat} (h:g8u cx i) {g:Gh} {H:Hp} {w:World} (hI:Inv cx g H w):∃ ev,w.cell? ⟨i,0,none⟩=some ev/\(ev= .nilIface\/∃ te pe,ev= .iface te pe):=by
 obtain⟨ev,t,fz,h1,h2⟩:=h
 refine⟨ev,?_,h2⟩
 unfold World.cell?
 simp[(hI.fix i _ h1).1]
end
end Go.Vm
namespace Go.Vm
open Go.RowKit
def b9u:List V->Hp->Option (V×Hp)
 |[.d (.str s),.d (.str p)],H=>if s.length < 4294967281 then some (.tup [.d (.str (Lib.cut s p).1),.d (.str (Lib.cut s p).2.1),.d (.bool (Lib.cut s p).2.2)],H) else none
 |_,_=>none
section
variable {P:Program} {cx:Cx}
theorem below_drewN (w:World) (n:Nat):Below w.heap.size w (w.drewN n):=by
 induction n with
 |zero=>exact Below.refl _ w
 |succ n ih=>first|exact ih.drew|exact ih
theorem f7m {f:Nat} (hf:e2c P f) {T:World->Prop} (hT:∀ g H w,Inv cx g H w->T w)
 (hc:∀ (s p:ByteArray) (w:World),s.size < 4294967281->T w->Calls P f #[.string s,.string p] w fun e w'=>e= .returned (.tuple #[.string ⟨(Lib.cut s.data.toList p.data.toList).1.toArray⟩,.string ⟨(Lib.cut s.data.toList p.data.toList).2.1.toArray⟩,.bool (Lib.cut s.data.toList p.data.toList).2.2])/\∃ n,w'=w.drewN n):
 ∀ args H r H',b9u args H=some (r,H')->a8a P cx f args H r H':=by
 intro args H r H' h
 unfold b9u at h
 split at h
 ·rename_i H0 s p
  split at h
  ·rename_i hs
   cases h
   refine f6x (fun _=>rfl) hf fun g w cargs hI ra=>?_
   obtain⟨ys,e1,r1⟩:=d2n ra
   obtain⟨zs,e2,r2⟩:=d2n r1
   rw[e1r r2]at e2
   rw[e2]at e1
   have:cargs= #[.string ⟨s.toArray⟩,.string ⟨p.toArray⟩]:=by apply Array.toList_inj.1;exact e1
   subst this
   refine(hc ⟨s.toArray⟩ ⟨p.toArray⟩ w (by simpa [ByteArray.size] using hs) (hT g H w hI)).mono fun e w' he=>?_
   obtain⟨e3,k,rfl⟩:=he
   refine⟨_,e3,?_,below_drewN w k⟩
   simp only[Rep,a1c]
   exact⟨_,rfl,_,_,rfl,by simp only[a3e,a0v],_,_,rfl,by simp only[a3e,a0v],_,_,rfl,by simp only[a3e,a0v],rfl⟩
  ·cases h
 ·cases h
end
end Go.Vm
namespace Go.Vm
def g8c (F:List V->Hp->Option (V×Hp)):Prop:=∀ a h r h',F a h=some (r,h')->a1e 0 a=true/\r.und 0=true/\h'=h/\∀ H,F a H=some (r,H)
end Go.Vm
namespace Go.Vm.Ite
open Go Go.Vm Go.Proofs
theorem k3:a0b 3 Q3:={}
theorem k7:a0b 7 Q7:={}
theorem k8:a0b 8 Q8:={}
theorem k9:a0b 9 Q9:={}
theorem k10:a0b 10 Q10:={}
theorem k12:a0b 12 Q12:={}
theorem k18:a0b 18 Q18:={}
theorem k19:a0b 19 Q19:={}
theorem k20:a0b 20 Q20:={}
theorem k21:a0b 21 Q21:={}
theorem k22:a0b 22 Q22:={}
theorem k23:a0b 23 Q23:={}
theorem k24:a0b 24 Q24:={}
theorem k25:a0b 25 Q25:={}
theorem k26:a0b 26 Q26:={}
theorem k27:a0b 27 Q27:={}
theorem k28:a0b 28 Q28:={}
theorem k29:a0b 29 Q29:={}
theorem k30:a0b 30 Q30:={}
theorem k31:a0b 31 Q31:={}
theorem k40:a0b 40 Q40:={}
theorem k41:a0b 41 Q41:={}
theorem k42:a0b 42 Q42:={}
theorem k46:a0b 46 Q46:={}
theorem k47:a0b 47 Q47:={}
theorem k48:a0b 48 Q48:={}
theorem k51:a0b 51 Q51:={}
theorem k52:a0b 52 Q52:={}
theorem k53:a0b 53 Q53:={}
theorem k56:a0b 56 Q56:={}
theorem k59:a0b 59 Q59:={}
theorem k60:a0b 60 Q60:={}
theorem k61:a0b 61 Q61:={}
theorem k62:a0b 62 Q62:={}
theorem k63:a0b 63 Q63:={}
theorem k64:a0b 64 Q64:={}
theorem k65:a0b 65 Q65:={}
theorem k66:a0b 66 Q66:={}
theorem k67:a0b 67 Q67:={}
theorem k68:a0b 68 Q68:={}
theorem k69:a0b 69 Q69:={}
theorem k70:a0b 70 Q70:={}
theorem k71:a0b 71 Q71:={}
theorem k72:a0b 72 Q72:={}
theorem k73:a0b 73 Q73:={}
theorem k74:a0b 74 Q74:={}
theorem k75:a0b 75 Q75:={}
theorem k76:a0b 76 Q76:={}
theorem k77:a0b 77 Q77:={}
theorem k78:a0b 78 Q78:={}
theorem k79:a0b 79 Q79:={}
theorem k80:a0b 80 Q80:={}
theorem k81:a0b 81 Q81:={}
theorem k82:a0b 82 Q82:={}
theorem k83:a0b 83 Q83:={}
theorem k84:a0b 84 Q84:={}
theorem k85:a0b 85 Q85:={}
theorem k86:a0b 86 Q86:={}
theorem k87:a0b 87 Q87:={}
theorem k89:a0b 89 Q89:={}
theorem k90:a0b 90 Q90:={}
theorem k92:a0b 92 Q92:={}
theorem k93:a0b 93 Q93:={}
theorem k95:a0b 95 Q95:={}
theorem k96:a0b 96 Q96:={}
theorem k97:a0b 97 Q97:={}
theorem k98:a0b 98 Q98:={}
theorem k99:a0b 99 Q99:={}
theorem k100:a0b 100 Q100:={}
theorem k101:a0b 101 Q101:={}
theorem k102:a0b 102 Q102:={}
theorem k103:a0b 103 Q103:={}
theorem k104:a0b 104 Q104:={}
theorem k105:a0b 105 Q105:={}
theorem k106:a0b 106 Q106:={}
theorem k107:a0b 107 Q107:={}
theorem k108:a0b 108 Q108:={}
theorem k109:a0b 109 Q109:={}
theorem k110:a0b 110 Q110:={}
theorem k111:a0b 111 Q111:={}
theorem k112:a0b 112 Q112:={}
theorem k113:a0b 113 Q113:={}
theorem k114:a0b 114 Q114:={}
theorem k115:a0b 115 Q115:={}
theorem k116:a0b 116 Q116:={}
theorem k117:a0b 117 Q117:={}
theorem k118:a0b 118 Q118:={}
theorem k119:a0b 119 Q119:={}
theorem k120:a0b 120 Q120:={}
theorem k121:a0b 121 Q121:={}
theorem k122:a0b 122 Q122:={}
theorem k123:a0b 123 Q123:={}
theorem k124:a0b 124 Q124:={}
theorem k125:a0b 125 Q125:={}
theorem k126:a0b 126 Q126:={}
theorem k127:a0b 127 Q127:={}
theorem k128:a0b 128 Q128:={}
theorem k129:a0b 129 Q129:={}
theorem k132:a0b 132 Q132:={}
theorem k133:a0b 133 Q133:={}
theorem k134:a0b 134 Q134:={}
theorem k135:a0b 135 Q135:={}
theorem k136:a0b 136 Q136:={}
theorem k137:a0b 137 Q137:={}
theorem k138:a0b 138 Q138:={}
theorem k139:a0b 139 Q139:={}
theorem k140:a0b 140 Q140:={}
theorem k141:a0b 141 Q141:={}
theorem k142:a0b 142 Q142:={}
theorem k143:a0b 143 Q143:={}
theorem k144:a0b 144 Q144:={}
theorem k145:a0b 145 Q145:={}
theorem k146:a0b 146 Q146:={}
theorem k147:a0b 147 Q147:={}
theorem k149:a0b 149 Q149:={}
theorem k150:a0b 150 Q150:={}
theorem k152:a0b 152 Q152:={}
theorem k153:a0b 153 Q153:={}
theorem k154:a0b 154 Q154:={}
theorem k155:a0b 155 Q155:={}
theorem k158:a0b 158 Q158:={}
theorem k159:a0b 159 Q159:={}
theorem k160:a0b 160 Q160:={}
theorem k163:a0b 163 Q163:={}
theorem k164:a0b 164 Q164:={}
theorem k165:a0b 165 Q165:={}
theorem k168:a0b 168 Q168:={}
theorem k169:a0b 169 Q169:={}
theorem k170:a0b 170 Q170:={}
theorem k171:a0b 171 Q171:={}
theorem k172:a0b 172 Q172:={}
theorem k175:a0b 175 Q175:={}
theorem k176:a0b 176 Q176:={}
theorem k177:a0b 177 Q177:={}
theorem k178:a0b 178 Q178:={}
theorem k182:a0b 182 Q182:={}
theorem k183:a0b 183 Q183:={}
theorem k184:a0b 184 Q184:={}
theorem k185:a0b 185 Q185:={}
theorem k187:a0b 187 Q187:={}
theorem k188:a0b 188 Q188:={}
theorem k189:a0b 189 Q189:={}
theorem k190:a0b 190 Q190:={}
theorem k191:a0b 191 Q191:={}
theorem k192:a0b 192 Q192:={}
theorem k193:a0b 193 Q193:={}
theorem k194:a0b 194 Q194:={}
theorem k195:a0b 195 Q195:={}
theorem g7l (cx:Cx) (F:Nat->Option a0t) (hF:∀ f e,F f=some e->match e with| .prim p=> ∀ args H r H',p args H=some (r,H')->a8a Tryz.prog cx f args H r H'| .code _=>False):c2e Tryz.prog ⟨cx,(tbl F)⟩:=by
  intro f e h
  simp only at h
  unfold tbl at h
  split at h
  ·cases h;exact k3.ex Tryz.func3
  ·cases h;exact k7.ex Tryz.func7
  ·cases h;exact k8.ex Tryz.func8
  ·cases h;exact k9.ex Tryz.func9
  ·cases h;exact k10.ex Tryz.func10
  ·cases h;exact k12.ex Tryz.func12
  ·cases h;exact k18.ex Tryz.func18
  ·cases h;exact k19.ex Tryz.func19
  ·cases h;exact k20.ex Tryz.func20
  ·cases h;exact k21.ex Tryz.func21
  ·cases h;exact k22.ex Tryz.func22
  ·cases h;exact k23.ex Tryz.func23
  ·cases h;exact k24.ex Tryz.func24
  ·cases h;exact k25.ex Tryz.func25
  ·cases h;exact k26.ex Tryz.func26
  ·cases h;exact k27.ex Tryz.func27
  ·cases h;exact k28.ex Tryz.func28
  ·cases h;exact k29.ex Tryz.func29
  ·cases h;exact k30.ex Tryz.func30
  ·cases h;exact k31.ex Tryz.func31
  ·cases h;exact k40.ex Tryz.func40
  ·cases h;exact k41.ex Tryz.func41
  ·cases h;exact k42.ex Tryz.func42
  ·cases h;exact k46.ex Tryz.func46
  ·cases h;exact k47.ex Tryz.func47
  ·cases h;exact k48.ex Tryz.func48
  ·cases h;exact k51.ex Tryz.func51
  ·cases h;exact k52.ex Tryz.func52
  ·cases h;exact k53.ex Tryz.func53
  ·cases h;exact k56.ex Tryz.func56
  ·cases h;exact k59.ex Tryz.func59
  ·cases h;exact k60.ex Tryz.func60
  ·cases h;exact k61.ex Tryz.func61
  ·cases h;exact k62.ex Tryz.func62
  ·cases h;exact k63.ex Tryz.func63
  ·cases h;exact k64.ex Tryz.func64
  ·cases h;exact k65.ex Tryz.func65
  ·cases h;exact k66.ex Tryz.func66
  ·cases h;exact k67.ex Tryz.func67
  ·cases h;exact k68.ex Tryz.func68
  ·cases h;exact k69.ex Tryz.func69
  ·cases h;exact k70.ex Tryz.func70
  ·cases h;exact k71.ex Tryz.func71
  ·cases h;exact k72.ex Tryz.func72
  ·cases h;exact k73.ex Tryz.func73
  ·cases h;exact k74.ex Tryz.func74
  ·cases h;exact k75.ex Tryz.func75
  ·cases h;exact k76.ex Tryz.func76
  ·cases h;exact k77.ex Tryz.func77
  ·cases h;exact k78.ex Tryz.func78
  ·cases h;exact k79.ex Tryz.func79
  ·cases h;exact k80.ex Tryz.func80
  ·cases h;exact k81.ex Tryz.func81
  ·cases h;exact k82.ex Tryz.func82
  ·cases h;exact k83.ex Tryz.func83
  ·cases h;exact k84.ex Tryz.func84
  ·cases h;exact k85.ex Tryz.func85
  ·cases h;exact k86.ex Tryz.func86
  ·cases h;exact k87.ex Tryz.func87
  ·cases h;exact k89.ex Tryz.func89
  ·cases h;exact k90.ex Tryz.func90
  ·cases h;exact k92.ex Tryz.func92
  ·cases h;exact k93.ex Tryz.func93
  ·cases h;exact k95.ex Tryz.func95
  ·cases h;exact k96.ex Tryz.func96
  ·cases h;exact k97.ex Tryz.func97
  ·cases h;exact k98.ex Tryz.func98
  ·cases h;exact k99.ex Tryz.func99
  ·cases h;exact k100.ex Tryz.func100
  ·cases h;exact k101.ex Tryz.func101
  ·cases h;exact k102.ex Tryz.func102
  ·cases h;exact k103.ex Tryz.func103
  ·cases h;exact k104.ex Tryz.func104
  ·cases h;exact k105.ex Tryz.func105
  ·cases h;exact k106.ex Tryz.func106
  ·cases h;exact k107.ex Tryz.func107
  ·cases h;exact k108.ex Tryz.func108
  ·cases h;exact k109.ex Tryz.func109
  ·cases h;exact k110.ex Tryz.func110
  ·cases h;exact k111.ex Tryz.func111
  ·cases h;exact k112.ex Tryz.func112
  ·cases h;exact k113.ex Tryz.func113
  ·cases h;exact k114.ex Tryz.func114
  ·cases h;exact k115.ex Tryz.func115
  ·cases h;exact k116.ex Tryz.func116
  ·cases h;exact k117.ex Tryz.func117
  ·cases h;exact k118.ex Tryz.func118
  ·cases h;exact k119.ex Tryz.func119
  ·cases h;exact k120.ex Tryz.func120
  ·cases h;exact k121.ex Tryz.func121
  ·cases h;exact k122.ex Tryz.func122
  ·cases h;exact k123.ex Tryz.func123
  ·cases h;exact k124.ex Tryz.func124
  ·cases h;exact k125.ex Tryz.func125
  ·cases h;exact k126.ex Tryz.func126
  ·cases h;exact k127.ex Tryz.func127
  ·cases h;exact k128.ex Tryz.func128
  ·cases h;exact k129.ex Tryz.func129
  ·cases h;exact k132.ex Tryz.func132
  ·cases h;exact k133.ex Tryz.func133
  ·cases h;exact k134.ex Tryz.func134
  ·cases h;exact k135.ex Tryz.func135
  ·cases h;exact k136.ex Tryz.func136
  ·cases h;exact k137.ex Tryz.func137
  ·cases h;exact k138.ex Tryz.func138
  ·cases h;exact k139.ex Tryz.func139
  ·cases h;exact k140.ex Tryz.func140
  ·cases h;exact k141.ex Tryz.func141
  ·cases h;exact k142.ex Tryz.func142
  ·cases h;exact k143.ex Tryz.func143
  ·cases h;exact k144.ex Tryz.func144
  ·cases h;exact k145.ex Tryz.func145
  ·cases h;exact k146.ex Tryz.func146
  ·cases h;exact k147.ex Tryz.func147
  ·cases h;exact k149.ex Tryz.func149
  ·cases h;exact k150.ex Tryz.func150
  ·cases h;exact k152.ex Tryz.func152
  ·cases h;exact k153.ex Tryz.func153
  ·cases h;exact k154.ex Tryz.func154
  ·cases h;exact k155.ex Tryz.func155
  ·cases h;exact k158.ex Tryz.func158
  ·cases h;exact k159.ex Tryz.func159
  ·cases h;exact k160.ex Tryz.func160
  ·cases h;exact k163.ex Tryz.func163
  ·cases h;exact k164.ex Tryz.func164
  ·cases h;exact k165.ex Tryz.func165
  ·cases h;exact k168.ex Tryz.func168
  ·cases h;exact k169.ex Tryz.func169
  ·cases h;exact k170.ex Tryz.func170
  ·cases h;exact k171.ex Tryz.func171
  ·cases h;exact k172.ex Tryz.func172
  ·cases h;exact k175.ex Tryz.func175
  ·cases h;exact k176.ex Tryz.func176
  ·cases h;exact k177.ex Tryz.func177
  ·cases h;exact k178.ex Tryz.func178
  ·cases h;exact k182.ex Tryz.func182
  ·cases h;exact k183.ex Tryz.func183
  ·cases h;exact k184.ex Tryz.func184
  ·cases h;exact k185.ex Tryz.func185
  ·cases h;exact k187.ex Tryz.func187
  ·cases h;exact k188.ex Tryz.func188
  ·cases h;exact k189.ex Tryz.func189
  ·cases h;exact k190.ex Tryz.func190
  ·cases h;exact k191.ex Tryz.func191
  ·cases h;exact k192.ex Tryz.func192
  ·cases h;exact k193.ex Tryz.func193
  ·cases h;exact k194.ex Tryz.func194
  ·cases h;exact k195.ex Tryz.func195
  ·have:=hF f e h;split
   ·exact this
   ·exact absurd this id
theorem h0e (cx:Cx) (F:Nat->Option a0t) (hF:∀ f e,F f=some e->match e with| .prim p=>g8c p| .code _=>False):c8e ⟨cx,(tbl F)⟩:=by
  constructor
  ·intro f F h
   simp only at h
   unfold tbl at h
   split at h
   iterate 148 · cases h
   ·exact hF _ _ h
  ·intro f vf h
   simp only at h
   unfold tbl at h
   split at h
   ·cases h;exact k3.cst
   ·cases h;exact k7.cst
   ·cases h;exact k8.cst
   ·cases h;exact k9.cst
   ·cases h;exact k10.cst
   ·cases h;exact k12.cst
   ·cases h;exact k18.cst
   ·cases h;exact k19.cst
   ·cases h;exact k20.cst
   ·cases h;exact k21.cst
   ·cases h;exact k22.cst
   ·cases h;exact k23.cst
   ·cases h;exact k24.cst
   ·cases h;exact k25.cst
   ·cases h;exact k26.cst
   ·cases h;exact k27.cst
   ·cases h;exact k28.cst
   ·cases h;exact k29.cst
   ·cases h;exact k30.cst
   ·cases h;exact k31.cst
   ·cases h;exact k40.cst
   ·cases h;exact k41.cst
   ·cases h;exact k42.cst
   ·cases h;exact k46.cst
   ·cases h;exact k47.cst
   ·cases h;exact k48.cst
   ·cases h;exact k51.cst
   ·cases h;exact k52.cst
   ·cases h;exact k53.cst
   ·cases h;exact k56.cst
   ·cases h;exact k59.cst
   ·cases h;exact k60.cst
   ·cases h;exact k61.cst
   ·cases h;exact k62.cst
   ·cases h;exact k63.cst
   ·cases h;exact k64.cst
   ·cases h;exact k65.cst
   ·cases h;exact k66.cst
   ·cases h;exact k67.cst
   ·cases h;exact k68.cst
   ·cases h;exact k69.cst
   ·cases h;exact k70.cst
   ·cases h;exact k71.cst
   ·cases h;exact k72.cst
   ·cases h;exact k73.cst
   ·cases h;exact k74.cst
   ·cases h;exact k75.cst
   ·cases h;exact k76.cst
   ·cases h;exact k77.cst
   ·cases h;exact k78.cst
   ·cases h;exact k79.cst
   ·cases h;exact k80.cst
   ·cases h;exact k81.cst
   ·cases h;exact k82.cst
   ·cases h;exact k83.cst
   ·cases h;exact k84.cst
   ·cases h;exact k85.cst
   ·cases h;exact k86.cst
   ·cases h;exact k87.cst
   ·cases h;exact k89.cst
   ·cases h;exact k90.cst
   ·cases h;exact k92.cst
   ·cases h;exact k93.cst
   ·cases h;exact k95.cst
   ·cases h;exact k96.cst
   ·cases h;exact k97.cst
   ·cases h;exact k98.cst
   ·cases h;exact k99.cst
   ·cases h;exact k100.cst
   ·cases h;exact k101.cst
   ·cases h;exact k102.cst
   ·cases h;exact k103.cst
   ·cases h;exact k104.cst
   ·cases h;exact k105.cst
   ·cases h;exact k106.cst
   ·cases h;exact k107.cst
   ·cases h;exact k108.cst
   ·cases h;exact k109.cst
   ·cases h;exact k110.cst
   ·cases h;exact k111.cst
   ·cases h;exact k112.cst
   ·cases h;exact k113.cst
   ·cases h;exact k114.cst
   ·cases h;exact k115.cst
   ·cases h;exact k116.cst
   ·cases h;exact k117.cst
   ·cases h;exact k118.cst
   ·cases h;exact k119.cst
   ·cases h;exact k120.cst
   ·cases h;exact k121.cst
   ·cases h;exact k122.cst
   ·cases h;exact k123.cst
   ·cases h;exact k124.cst
   ·cases h;exact k125.cst
   ·cases h;exact k126.cst
   ·cases h;exact k127.cst
   ·cases h;exact k128.cst
   ·cases h;exact k129.cst
   ·cases h;exact k132.cst
   ·cases h;exact k133.cst
   ·cases h;exact k134.cst
   ·cases h;exact k135.cst
   ·cases h;exact k136.cst
   ·cases h;exact k137.cst
   ·cases h;exact k138.cst
   ·cases h;exact k139.cst
   ·cases h;exact k140.cst
   ·cases h;exact k141.cst
   ·cases h;exact k142.cst
   ·cases h;exact k143.cst
   ·cases h;exact k144.cst
   ·cases h;exact k145.cst
   ·cases h;exact k146.cst
   ·cases h;exact k147.cst
   ·cases h;exact k149.cst
   ·cases h;exact k150.cst
   ·cases h;exact k152.cst
   ·cases h;exact k153.cst
   ·cases h;exact k154.cst
   ·cases h;exact k155.cst
   ·cases h;exact k158.cst
   ·cases h;exact k159.cst
   ·cases h;exact k160.cst
   ·cases h;exact k163.cst
   ·cases h;exact k164.cst
   ·cases h;exact k165.cst
   ·cases h;exact k168.cst
   ·cases h;exact k169.cst
   ·cases h;exact k170.cst
   ·cases h;exact k171.cst
   ·cases h;exact k172.cst
   ·cases h;exact k175.cst
   ·cases h;exact k176.cst
   ·cases h;exact k177.cst
   ·cases h;exact k178.cst
   ·cases h;exact k182.cst
   ·cases h;exact k183.cst
   ·cases h;exact k184.cst
   ·cases h;exact k185.cst
   ·cases h;exact k187.cst
   ·cases h;exact k188.cst
   ·cases h;exact k189.cst
   ·cases h;exact k190.cst
   ·cases h;exact k191.cst
   ·cases h;exact k192.cst
   ·cases h;exact k193.cst
   ·cases h;exact k194.cst
   ·cases h;exact k195.cst
   ·exact absurd (hF _ _ h) id
end Go.Vm.Ite

namespace Go.Vm.Lex
def isL (c:UInt8):Bool:=decide (97<=c.toNat/\c.toNat<=122)||decide (65<=c.toNat/\c.toNat<=90)||decide (c.toNat=95)
def isD (c:UInt8):Bool:=decide (48<=c.toNat/\c.toNat<=57)
def b6s (c:UInt8):Bool:=isL c||isD c
def a6e:List (List UInt8):=[[102,110],[115,116,114,117,99,116],[101,110,117,109],[108,101,116],[109,117,116],[119,104,105,108,101],[105,102],[101,108,115,101],[109,97,116,99,104],[114,101,116,117,114,110],[98,114,101,97,107],[99,111,110,116,105,110,117,101],[116,114,117,101],[102,97,108,115,101],[105,54,52],[98,111,111,108],[66,111,120]]
def b8u (s:List UInt8):Bool:=decide (s∈a6e)
def hd0:List UInt8->UInt8
 |[]=>0
 |c::_=>c
def b2j (s:List UInt8):Bool:=decide (s≠[]) && decide (s≠[95]) && !isD (hd0 s) && s.all b6s
def a3c (s:List UInt8):Bool:=b2j s && decide (s.length<=64) && !b8u s
def a9m (s:List UInt8):Nat:=(s.takeWhile b6s).length
theorem c4d (c:UInt8) (r:List UInt8):a9m (c::r)=if b6s c then a9m r+1 else 0:=by
 unfold a9m;rw[List.takeWhile_cons];split<;>simp
theorem b9x:∀ s:List UInt8,a9m s<=s.length
 |[]=>Nat.le_refl _
 |c::r=>by rw[c4d];split<;>simp[b9x r]
theorem f3c {s:List UInt8} {i:Nat} {c:UInt8} (h:s[i]? =some c):a9m (s.drop i)=if b6s c then a9m (s.drop (i+1))+1 else 0:=by
 obtain⟨hi,he⟩:=List.getElem?_eq_some_iff.1 h
 rw[List.drop_eq_getElem_cons hi,he,c4d]
theorem f6l {s:List UInt8} {i:Nat} (h:s.length<=i):a9m (s.drop i)=0:=by rw[List.drop_eq_nil_of_le h];rfl
end Go.Vm.Lex
namespace Go.Vm.Ip
open Go.Vm.Lex
abbrev S:=List UInt8
structure Fld where
 n:S
 t:S
structure Nam where
 n:S
 fs:List Fld
structure Fnc where
 n:S
 ps:List Fld
 ms:List Bool
 r:S
 d:Int
structure Its where
 ss:List Nam
 es:List Nam
 fs:List Fnc
def Fld.D (x:Fld):D:= .agg [.str x.n,.str x.t]
def a2h (l:List Fld):D:= .sl (l.map Fld.D)
def Nam.D (x:Nam):D:= .agg [.str x.n,a2h x.fs]
def Fnc.D (x:Fnc):D:= .agg [.str x.n,a2h x.ps,.sl (x.ms.map .bool),.str x.r,.int .i64 x.d]
def Its.D (x:Its):D:= .agg [.sl (x.ss.map Nam.D),.sl (x.es.map Nam.D),.sl (x.fs.map Fnc.D)]
instance:Inhabited Fld:=⟨⟨[],[]⟩⟩
instance:Inhabited Nam:=⟨⟨[],[]⟩⟩
instance:Inhabited Fnc:=⟨⟨[],[],[],[],0⟩⟩
abbrev mx:Nat:=140737488355328
abbrev mf:Nat:=4398046511104
structure b0r (x:Its):Prop where
 ss:x.ss.length<=mx
 es:x.es.length<=mx
 fs:x.fs.length<=mx
 sf:∀ y∈x.ss,y.n.length<=mx/\y.fs.length<=mf/\∀ f∈y.fs,f.n.length<=mx/\f.t.length<=mx
 ef:∀ y∈x.es,y.n.length<=mx/\y.fs.length<=mf/\∀ f∈y.fs,f.n.length<=mx/\f.t.length<=mx
 ff:∀ y∈x.fs,y.n.length<=mx/\y.r.length<=mx/\y.ms.length<=mx/\y.ps.length<=mf/\(∀ f∈y.ps,f.n.length<=mx/\f.t.length<=mx)/\ -9223372036854775808<=y.d/\y.d<=9223372036854775807
def pos (l:List S) (s:S):Option Nat:=l.findIdx? (· ==s)
theorem b0i {l:List S} {s:S} {i:Nat} (h:pos l s=some i):l[i]? =some s/\∀ j,j < i->l[j]? ≠some s:=by
 unfold pos at h
 rw[List.findIdx?_eq_some_iff_getElem]at h
 obtain⟨h1,h2,h3⟩:=h
 refine⟨by rw[List.getElem?_eq_getElem h1];simpa using h2,fun j hj e=>?_⟩
 have:=h3 j hj
 rw[List.getElem?_eq_getElem om]at e
 simp only[Option.some.injEq]at e
 simp[e]at this
theorem e4a {l:List S} {s:S} (h:pos l s=none):s∉l:=by
 unfold pos at h
 rw[List.findIdx?_eq_none_iff]at h
 intro hm
 have:=h s hm
 simp at this
theorem f0x {l:List S} {s:S} {i:Nat} (h:l[i]? =some s) (h2:∀ j,j < i->l[j]? ≠some s):pos l s=some i:=by
 cases hp:pos l s with
 |none=>exact absurd (List.mem_of_getElem? h) (e4a hp)
 |some k=>
  obtain⟨a,b⟩:=b0i hp
  rcases Nat.lt_trichotomy i k with q|q|q
  ·exact absurd h (b i q)
  ·rw[q]
  ·exact absurd a (h2 k q)
theorem d8h {l:List S} {s:S}:s∈l↔∃ i,pos l s=some i:=by
 constructor
 ·intro h
  cases hp:pos l s with
  |none=>exact absurd h (e4a hp)
  |some k=>exact⟨k,rfl⟩
 ·rintro⟨i,hi⟩;exact List.mem_of_getElem? (b0i hi).1
theorem b2o {l:List S} {s:S} {i:Nat} (h:pos l s=some i):i < l.length:=(List.getElem?_eq_some_iff.1 (b0i h).1).1
theorem c9t {l:List S} {s:S} {k:Nat} {y:S} (hy:l[k]? =some y):pos (l.take (k+1)) s=match pos (l.take k) s with
 |some i=>some i
 |none=>if y=s then some k else none:=by
 have hk:=(List.getElem?_eq_some_iff.1 hy).1
 unfold pos
 rw[List.take_add_one,hy,List.findIdx?_append]
 cases h:List.findIdx? (fun x=>x==s) (List.take k l)with
 |some i=>simp
 |none=>
  by_cases e:y=s
  ·subst e;simp[Nat.min_eq_left (Nat.le_of_lt hk)]
  ·simp[e,beq_iff_eq]
theorem b3r (a b:S):eq1 (.str a) (.str b)=decide (a=b):=by rw[Bool.eq_iff_iff];simp[eq1]
theorem c8d (s y:S) (v:D):∀ l:List (D×D),a2k 2 l=true->a4e (.str s) (c1m (.str y) v l)=if s=y then some v else a4e (.str s) l
 |[],_=>by simp only[c1m,a4e,b3r];by_cases h:s=y<;>simp[h]
 |(a,x)::r,hk=>by
  simp only[a2k,List.all_cons,Bool.and_eq_true]at hk
  obtain⟨ha,hr⟩:=hk
  cases a with
  |str a=>
   simp only[c1m,b3r]
   by_cases h:y=a
   ·subst h
    simp only[decide_true,if_true,a4e,b3r]
    by_cases h2:s=y<;>simp[h2]
   ·simp only[h,decide_false,Bool.false_eq_true,if_false,a4e,b3r]
    rw[c8d s y v r hr]
    by_cases h2:s=a
    ·subst h2
     have:¬ s=y:=fun e=>h e.symm
     simp[this]
    ·simp[h2]
  |_=>cases ha
theorem d3q (y:S) (v:D):∀ l:List (D×D),a2k 2 l=true->a2k 2 (c1m (.str y) v l)=true
 |[],_=>rfl
 |(a,x)::r,hk=>by
  simp only[a2k,List.all_cons,Bool.and_eq_true]at hk
  obtain⟨ha,hr⟩:=hk
  simp only[c1m]
  split
  ·simp only[a2k,List.all_cons,Bool.and_eq_true];exact⟨ha,hr⟩
  ·simp only[a2k,List.all_cons,Bool.and_eq_true];exact⟨ha,d3q y v r hr⟩
def fmap (l:List S):Nat->List (D×D)
 |0=>[]
 |k+1=>match a4e (.str (l.getD k [])) (fmap l k)with
  |some _=>fmap l k
  |none=>c1m (.str (l.getD k [])) (.int .i64 k) (fmap l k)
theorem a6d (l:List S):∀ k,a2k 2 (fmap l k)=true
 |0=>rfl
 |k+1=>by
  simp only[fmap]
  split
  ·exact a6d l k
  ·exact d3q _ _ _ (a6d l k)
theorem a9a (l:List S) (s:S):∀ k,k<=l.length->a4e (.str s) (fmap l k)=(pos (l.take k) s).map fun i=> .int .i64 (i:Int)
  |0,_=>by simp[fmap,a4e,pos]
  |k+1,hk=>by
   have ih:=fun s=>a9a l s k om
   have hy:l[k]? =some (l.getD k []):=by rw[List.getElem?_eq_getElem om];simp[List.getD_eq_getElem?_getD,List.getElem?_eq_getElem (show k < l.length by omega)]
   rw[c9t hy]
   simp only[fmap]
   revert hy;generalize l.getD k []=y;intro hy
   split
   ·rename_i x hx
    rw[a9a l y k om]at hx
    obtain⟨j,hj,_⟩:=Option.map_eq_some_iff.1 hx
    rw[a9a l s k om]
    cases hs:pos (List.take k l) s with
    |some i=>rfl
    |none=>
     have:¬ y=s:=by rintro rfl;rw[hs]at hj;cases hj
     simp[this]
   ·rename_i hx
    rw[a9a l y k om]at hx
    rw[c8d _ _ _ _ (a6d l k),a9a l s k om]
    by_cases e:s=y
    ·subst e
     have hp:pos (List.take k l) s=none:=by
      cases hp:pos (List.take k l) s with
      |none=>rfl
      |some i=>rw[hp]at hx;cases hx
     simp[hp]
    ·have e':¬ y=s:=fun h=>e h.symm
     rw[if_neg e]
     cases pos (List.take k l) s with
     |some i=>rfl
     |none=>simp[e']
def a7e (l:List S):List (D×D):=fmap l l.length
theorem c5a (l:List S) (s:S):a4e (.str s) (a7e l)=(pos l s).map fun i=> .int .i64 (i:Int):=by
  unfold a7e;rw[a9a l s _ (Nat.le_refl _),List.take_length]
def nS (x:Its):List S:=x.ss.map Nam.n
def nE (x:Its):List S:=x.es.map Nam.n
def nF (x:Its):List S:=x.fs.map Fnc.n
end Go.Vm.Ip
namespace Go.Vm.Ip
def preB (s p:S):Bool:=decide (p.length<=s.length) && decide (s.take p.length=p)
def sufB (s q:S):Bool:=decide (q.length<=s.length) && decide (s.drop (s.length - q.length)=q)
def loc (l:List S) (s:S):Int:=match pos l s with|some i=>(i:Int)|none=>0
def known (l:List S) (s:S):Bool:=(pos l s).isSome
def boxT:S:=[66,111,120,60]
def mutT:S:=[38,109,117,116,32]
def i64T:S:=[105,54,52]
def boolT:S:=[98,111,111,108]
def d7d:S:=[40,41]
def f8y (kn:S->Bool):Nat->S->Bool
 |0,_=>false
 |f+1,s=>if preB s boxT then sufB (s.drop 4) [62] && f8y kn f ((s.drop 4).take ((s.drop 4).length - 1))
  else decide (s=i64T)||decide (s=boolT)||decide (s=d7d)||kn s
def e1d (kn:S->Bool) (s:S):Bool:=f8y kn (s.length+1) s
def h1u (kn:S->Bool) (s:S):Bool:=if preB s mutT then e1d kn (s.drop 5) else if preB s [38] then e1d kn (s.drop 1) else e1d kn s
def nam (l:List Nam) (s:S):Nam:=match pos (l.map Nam.n) s with
 |some i=>l.getD i default
 |none=>⟨[],[]⟩
end Go.Vm.Ip
namespace Go.Vm.Ip
open Go.Vm.Lex
def a8g (ns:List S):List (D×D):=ns.map fun n=>(.str n,.int .i64 1)
theorem b1l (ns:List S):a2k 2 (a8g ns)=true:=by
 unfold a2k a8g;rw[List.all_eq_true]
 intro p hp
 obtain⟨n,_,rfl⟩:=List.mem_map.1 hp
 rfl
theorem a8t (s:S):∀ ns:List S,a4e (.str s) (a8g ns)=if s∈ns then some (.int .i64 1) else none
 |[]=>rfl
 |n::r=>by
  show(if eq1 (.str s) (.str n) then _ else a4e _ (a8g r))=_
  rw[a8t s r,b3r]
  by_cases h:s=n
  ·simp[h]
  ·simp[h]
theorem b1p (s:S):∀ ns:List S,s∉ns->c1m (.str s) (.int .i64 1) (a8g ns)=a8g (ns++[s])
 |[],_=>rfl
 |n::r,h=>by
  simp only[List.mem_cons,not_or]at h
  show(if eq1 (.str s) (.str n) then _ else _::c1m _ _ (a8g r))=_
  rw[b1p s r h.2,b3r,decide_eq_false h.1];rfl
def rt (kn:S->Bool) (ref:Bool):S->Bool:=if ref then h1u kn else e1d kn
def b1m:S:=[112,114,105,110,116]
def c1d:S:=[114,101,97,100]
def b2k:S:=[112,97,110,105,99]
def b5p:S:=[109,97,105,110]
end Go.Vm.Ip
namespace Go.Vm.Ip
def kn (x:Its) (s:S):Bool:=known (nS x) s||known (nE x) s
def a1t (l:List Fld):List S:=(l.map Fld.t).filter fun t=>decide (t≠[])
theorem b7u (l:List Fld):(a1t l).length<=l.length:=by
 unfold a1t;have:=List.length_filter_le (fun t=>decide (t≠[])) (l.map Fld.t);simpa using this
def a1b (x:Its) (s:S):List S×Bool:=match pos (nS x) s with
 |some i=>((x.ss.getD i default).fs.map Fld.t,false)
 |none=>match pos (nE x) s with
  |some i=>(a1t (x.es.getD i default).fs,true)
  |none=>([],false)
def a6r (x:Its):Nat->S->Prop
 |0,_=>False
 |f+1,t=> ∀ y∈(a1b x t).1,a6r x f y
def b2n (a b:Int×Int):Int×Int:=(max a.1 (1+b.1),min (a.2+b.2) 1025)
def b2p (a b:Int×Int):Int×Int:=(min (a.1+b.1) 65,min (a.2+b.2) 1025)
def szF (x:Its):Nat->S->Int×Int
 |0,_=>(0,0)
 |f+1,s=>if(a1b x s).2 then(a1b x s).1.foldl (fun a y=>b2n a (szF x f y)) (1,1)
  else if known (nS x) s then(a1b x s).1.foldl (fun a y=>b2p a (szF x f y)) (0,1)
  else if s=d7d then(0,1) else(1,1)
theorem c5q (x:Its):∀ (f:Nat) (s:S),a6r x f s->a6r x (f+1) s
 |0,_,h=>h.elim
 |f+1,_,h=>fun y hy=>c5q x f y (h y hy)
theorem foldl_congr {α β:Type} {g h:α->β->α}:∀ {l:List β} {a:α},(∀ a,∀ y∈l,g a y=h a y)->l.foldl g a=l.foldl h a
 |[],_,_=>rfl
 |y::r,a,hh=>by
  simp only[List.foldl_cons]
  rw[hh a y (by simp)]
  exact foldl_congr fun a z hz=>hh a z (by simp[hz])
theorem f8r (x:Its):∀ (f:Nat) (s:S),a6r x f s->szF x (f+1) s=szF x f s
 |0,_,h=>h.elim
 |f+1,s,h=>by
  have key:∀ y∈(a1b x s).1,szF x (f+1) y=szF x f y:=fun y hy=>f8r x f y (h y hy)
  rw[szF,show szF x (f+1) s=_ from rfl,szF]
  split
  ·exact foldl_congr fun a y hy=>by rw[key y hy]
  split
  ·exact foldl_congr fun a y hy=>by rw[key y hy]
  rfl
theorem d7e {x:Its} {f g:Nat} {s:S} (h:a6r x f s) (hg:f<=g):a6r x g s:=by
 induction g with
 |zero=>obtain rfl:f=0:=om
        exact h
 |succ g ih=>
  by_cases e:f=g+1
  ·subst e;exact h
  ·exact c5q x g s (ih om)
theorem f1u {x:Its} {f g:Nat} {s:S} (h:a6r x f s) (hg:f<=g):szF x g s=szF x f s:=by
 induction g with
 |zero=>obtain rfl:f=0:=om
        rfl
 |succ g ih=>
  by_cases e:f=g+1
  ·subst e;rfl
  ·rw[f8r x g s (d7e h om),ih om]
theorem g1a {x:Its} {f g:Nat} {s:S} (h:a6r x f s) (h2:a6r x g s):szF x f s=szF x g s:=by
 rcases Nat.le_total f g with e|e
 ·exact(f1u h e).symm
 ·exact f1u h2 e
theorem c3h {x:Its} {f:Nat} {n:Int} (hb:∀ y,0<=(szF x f y).1/\(szF x f y).1<=n/\0<=(szF x f y).2/\(szF x f y).2<=1025) (hn:0<=n):∀ (l:List S) (a:Int×Int),0<=a.1->a.1<=n+1->0<=a.2->a.2<=1025->0<=(l.foldl (fun a y=>b2n a (szF x f y)) a).1/\(l.foldl (fun a y=>b2n a (szF x f y)) a).1<=n+1/\0<=(l.foldl (fun a y=>b2n a (szF x f y)) a).2/\(l.foldl (fun a y=>b2n a (szF x f y)) a).2<=1025
  |[],a,h1,h2,h3,h4=>⟨h1,h2,h3,h4⟩
  |y::r,a,h1,h2,h3,h4=>by
   obtain⟨b1,b2,b3,b4⟩:=hb y
   exact c3h hb hn r _ (by simp only[b2n];omega) (by simp only[b2n];omega) (by simp only[b2n];omega) (by simp only[b2n];omega)
theorem c5k {x:Its} {f:Nat} {n:Int} (hb:∀ y,0<=(szF x f y).1/\(szF x f y).1<=n/\0<=(szF x f y).2/\(szF x f y).2<=1025):∀ (l:List S) (a:Int×Int),0<=a.1->a.1<=65->0<=a.2->a.2<=1025->0<=(l.foldl (fun a y=>b2p a (szF x f y)) a).1/\(l.foldl (fun a y=>b2p a (szF x f y)) a).1<=65/\0<=(l.foldl (fun a y=>b2p a (szF x f y)) a).2/\(l.foldl (fun a y=>b2p a (szF x f y)) a).2<=1025
  |[],a,h1,h2,h3,h4=>⟨h1,h2,h3,h4⟩
  |y::r,a,h1,h2,h3,h4=>by
   obtain⟨b1,b2,b3,b4⟩:=hb y
   exact c5k hb r _ (by simp only[b2p];omega) (by simp only[b2p];omega) (by simp only[b2p];omega) (by simp only[b2p];omega)
theorem a5c (x:Its):∀ (f:Nat) (s:S),0<=(szF x f s).1/\(szF x f s).1<=65+f/\0<=(szF x f s).2/\(szF x f s).2<=1025
 |0,_=>⟨Int.le_refl _,by show(0:Int)<=_;omega,Int.le_refl _,by show(0:Int)<=_;omega⟩
 |f+1,s=>by
  have hb:=a5c x f
  rw[szF]
  split
  ·have:=c3h hb om (a1b x s).1 (1,1) (by decide) (by show(1:Int)<=_;omega) (by decide) (by decide)
   omega
  split
  ·have:=c5k hb (a1b x s).1 (0,1) (by decide) (by decide) (by decide) (by decide)
   omega
  split
  ·exact⟨by decide,by show(0:Int)<=_;omega,by decide,by decide⟩
  ·exact⟨by decide,by show(1:Int)<=_;omega,by decide,by decide⟩
def szM (d:List (S×Int×Int)):List (D×D):=d.map fun p=>(.str p.1,.agg [.int .i64 p.2.1,.int .i64 p.2.2])
theorem a8l (d:List (S×Int×Int)):a2k 2 (szM d)=true:=by
 unfold a2k szM;rw[List.all_eq_true]
 intro p hp
 obtain⟨n,_,rfl⟩:=List.mem_map.1 hp
 rfl
theorem e2s (s:S):∀ d:List (S×Int×Int),a4e (.str s) (szM d)=none\/∃ w p,(s,w,p)∈d/\a4e (.str s) (szM d)=some (.agg [.int .i64 w,.int .i64 p])
 |[]=> .inl rfl
 |(n,w,p)::r=>by
  have e:a4e (.str s) (szM ((n,w,p)::r))=if s=n then some (.agg [.int .i64 w,.int .i64 p]) else a4e (.str s) (szM r):=by
   show(if eq1 (.str s) (.str n) then _ else a4e _ (szM r))=_
   rw[b3r];by_cases h:s=n<;>simp[h]
  rw[e]
  by_cases h:s=n
  ·subst h;exact .inr ⟨w,p,by simp,if_pos rfl⟩
  ·rw[if_neg h]
   rcases e2s s r with h1|⟨w',p',h1,h2⟩
   ·exact .inl h1
   ·exact .inr ⟨w',p',by simp[h1],h2⟩
theorem f3l (s:S) (w p:Int):∀ d:List (S×Int×Int),∃ d',c1m (.str s) (.agg [.int .i64 w,.int .i64 p]) (szM d)=szM d'/\∀ q∈d',q∈d\/q=(s,w,p)
 |[]=>⟨[(s,w,p)],rfl,fun q hq=> .inr (by simpa using hq)⟩
 |(n,v)::r=>by
  have e:c1m (.str s) (.agg [.int .i64 w,.int .i64 p]) (szM ((n,v)::r))=if s=n then(.str n,.agg [.int .i64 w,.int .i64 p])::szM r else(.str n,.agg [.int .i64 v.1,.int .i64 v.2])::c1m (.str s) (.agg [.int .i64 w,.int .i64 p]) (szM r):=by
   show(if eq1 (.str s) (.str n) then _ else _::c1m _ _ (szM r))=_
   rw[b3r];by_cases h:s=n
   ·rw[decide_eq_true h];simp only[if_pos h,if_true];rfl
   ·rw[decide_eq_false h];simp only[if_neg h];rfl
  rw[e]
  by_cases h:s=n
  ·subst h
   refine⟨(s,w,p)::r,if_pos rfl,fun q hq=>?_⟩
   rcases List.mem_cons.1 hq with h|h
   ·exact .inr h
   ·exact .inl (List.mem_cons_of_mem _ h)
  ·obtain⟨d',h1,h2⟩:=f3l s w p r
   refine⟨(n,v)::d',by rw[if_neg h,h1];rfl,fun q hq=>?_⟩
   rcases List.mem_cons.1 hq with h|h
   ·exact .inl (by simp[h])
   ·rcases h2 q h with h|h
    ·exact .inl (List.mem_cons_of_mem _ h)
    ·exact .inr h
def f3t (x:Its) (N:Nat) (d:List (S×Int×Int)):Prop:=∀ q∈d,a6r x N q.1/\q.2=szF x N q.1
end Go.Vm.Ip
namespace Go.Vm.Ip
inductive Gets (x:Its) (s:S):S->Prop
 |one {y:S}:y∈(a1b x s).1->Gets x s y
 |step {y z:S}:Gets x s y->z∈(a1b x y).1->Gets x s z
noncomputable def c2s (x:Its) (s:S):Bool:= @decide (Gets x s s) (Classical.propDecidable _)
theorem c8o {x:Its} {s:S} (h:Gets x s s):c2s x s=true:=by unfold c2s;exact @decide_eq_true _ (Classical.propDecidable _) h
theorem e2y {x:Its} {s:S} (h:¬ Gets x s s):c2s x s=false:=by unfold c2s;exact @decide_eq_false _ (Classical.propDecidable _) h
structure Small (x:Its):Prop where
 ss:x.ss.length<=64
 es:x.es.length<=64
 sf:∀ y∈x.ss,y.fs.length<=16
 ef:∀ y∈x.es,y.fs.length<=16
theorem c0x {x:Its} (hx:Small x) (s:S):(a1b x s).1.length<=16:=by
 unfold a1b
 have hS:(nS x).length=x.ss.length:=by simp[nS]
 have hE:(nE x).length=x.es.length:=by simp[nE]
 split
 ·rename_i i hi
  have h:=b2o hi
  have:x.ss.getD i default∈x.ss:=by simp[List.getD_eq_getElem?_getD,List.getElem?_eq_getElem (show i < x.ss.length by omega)]
  have:=hx.sf _ this
  rw[List.length_map];exact this
 ·split
  ·rename_i i hi
   have h:=b2o hi
   have:x.es.getD i default∈x.es:=by simp[List.getD_eq_getElem?_getD,List.getElem?_eq_getElem (show i < x.es.length by omega)]
   exact Nat.le_trans (b7u _) (hx.ef _ this)
  ·exact Nat.zero_le _
theorem b9s {x:Its} {s z:S} (h:z∈(a1b x s).1):s∈nS x++nE x:=by
 unfold a1b at h
 split at h
 ·rename_i i hi;exact List.mem_append_left _ (d8h.2 ⟨i,hi⟩)
 ·split at h
  ·rename_i i hi;exact List.mem_append_right _ (d8h.2 ⟨i,hi⟩)
  ·cases h
def owed (x:Its) (seen:List S):List S->Nat
 |[]=>0
 |n::r=>(if n∈seen then 0 else(a1b x n).1.length)+owed x seen r
theorem e0l (x:Its) (seen:List S) (y:S):∀ l:List S,owed x (seen++[y]) l<=owed x seen l
 |[]=>Nat.le_refl _
 |n::r=>by
  have:=e0l x seen y r
  simp only[owed,List.mem_append,List.mem_singleton]
  by_cases h:n∈seen
  ·simp only[h,true_or,if_true];omega
  ·by_cases h2:n=y
   ·simp only[h2,or_true,if_true];omega
   ·simp only[h,h2,or_self,if_false];omega
theorem e8f (x:Its) {seen:List S} {y:S} (hy:y∉seen):∀ l:List S,y∈l->owed x (seen++[y]) l+(a1b x y).1.length<=owed x seen l
 |[],h=>by cases h
 |n::r,h=>by
  have hle:=e0l x seen y r
  simp only[owed,List.mem_append,List.mem_singleton]
  by_cases e:n=y
  ·subst e
   simp only[hy,or_true,if_true,if_false];omega
  ·have hr:y∈r:=by
    rcases List.mem_cons.1 h with q|q
    ·exact absurd q.symm e
    ·exact q
   have ih:=e8f x hy r hr
   by_cases h1:n∈seen
   ·simp only[h1,true_or,if_true];omega
   ·simp only[h1,e,or_self,if_false];omega
theorem f7t (x:Its) {seen:List S} {y:S} (hy:y∉seen):owed x (seen++[y]) (nS x++nE x)+(a1b x y).1.length<=owed x seen (nS x++nE x):=by
 by_cases h:(a1b x y).1=[]
 ·rw[h];exact e0l x seen y _
 ·obtain⟨z,hz⟩:=List.exists_mem_of_ne_nil _ h
  exact e8f x hy _ (b9s hz)
theorem c8w {x:Its} (hx:Small x) (seen:List S):∀ l:List S,owed x seen l<=16*l.length
 |[]=>Nat.le_refl _
 |n::r=>by
  have:=c8w hx seen r
  have:=c0x hx n
  simp only[owed,List.length_cons]
  split<;>omega
structure e7h (x:Its) (s:S) (seen todo:List S):Prop where
 r1:∀ y∈seen,Gets x s y
 r2:∀ y∈todo,Gets x s y
 c0:∀ z∈(a1b x s).1,z∈seen\/z∈todo
 c1:∀ y∈seen,∀ z∈(a1b x y).1,z∈seen\/z∈todo
 no:s∉seen
theorem e7h.start (x:Its) (s:S):e7h x s [] (a1b x s).1:=⟨by simp,fun _ h=> .one h,fun _ h=> .inr h,by simp,by simp⟩
theorem e7h.end {x:Its} {s:S} {seen:List S} (h:e7h x s seen []):¬ Gets x s s:=by
 have key:∀ y,Gets x s y->y∈seen:=by
  intro y hy
  induction hy with
  |one hz=>exact(h.c0 _ hz).resolve_right (by simp)
  |step _ hz ih=>exact(h.c1 _ ih _ hz).resolve_right (by simp)
 exact fun hr=>h.no (key s hr)
theorem e7h.old {x:Its} {s y:S} {seen todo:List S} (h:e7h x s seen (todo++[y])) (hy:y∈seen):e7h x s seen todo:=by
 refine⟨h.r1,fun z hz=>h.r2 z (List.mem_append_left _ hz),fun z hz=>?_,fun u hu z hz=>?_,h.no⟩
 ·rcases h.c0 z hz with q|q
  ·exact .inl q
  ·rcases List.mem_append.1 q with q|q
   ·exact .inr q
   ·rw[List.mem_singleton]at q;exact .inl (q ▸ hy)
 ·rcases h.c1 u hu z hz with q|q
  ·exact .inl q
  ·rcases List.mem_append.1 q with q|q
   ·exact .inr q
   ·rw[List.mem_singleton]at q;exact .inl (q ▸ hy)
theorem e7h.new {x:Its} {s y:S} {seen todo:List S} (h:e7h x s seen (todo++[y])) (hys:y≠s):e7h x s (seen++[y]) (todo++(a1b x y).1):=by
 have ry:Gets x s y:=h.r2 y (by simp)
 have mv:∀ z,z∈seen\/z∈todo++[y]->z∈seen++[y]\/z∈todo++(a1b x y).1:=fun z hz=>by
   simp only[List.mem_append,List.mem_singleton]at hz⊢
   rcases hz with q|q|q
   ·exact .inl (.inl q)
   ·exact .inr (.inl q)
   ·exact .inl (.inr q)
 refine⟨fun z hz=>?_,fun z hz=>?_,fun z hz=>mv z (h.c0 z hz),fun u hu z hz=>?_,?_⟩
 ·rcases List.mem_append.1 hz with q|q
  ·exact h.r1 z q
  ·rw[List.mem_singleton]at q;exact q ▸ ry
 ·rcases List.mem_append.1 hz with q|q
  ·exact h.r2 z (List.mem_append_left _ q)
  ·exact .step ry q
 ·rcases List.mem_append.1 hu with q|q
  ·exact mv z (h.c1 u q z hz)
  ·rw[List.mem_singleton]at q
   exact .inr (List.mem_append_right _ (q ▸ hz))
 ·intro hm
  rcases List.mem_append.1 hm with q|q
  ·exact h.no q
  ·rw[List.mem_singleton]at q;exact hys q.symm
end Go.Vm.Ip

namespace Go.Vm.Ip
theorem e3g {x:Its}:∀ (f:Nat) (s:S),¬ a6r x f s->∃ l:List S,l.length=f/\∀ (i:Nat) (a b:S),(s::l)[i]? =some a->(s::l)[i+1]? =some b->b∈(a1b x a).1
 |0,s,_=>⟨[],rfl,fun i a b _ h=>by simp at h⟩
 |f+1,s,h=>by
  have h':∃ y,y∈(a1b x s).1/\¬ a6r x f y:=Classical.byContradiction fun hc=>h fun y hy=>Classical.byContradiction fun hd=>hc ⟨y,hy,hd⟩
  obtain⟨y,hy,hd⟩:=h'
  obtain⟨l,h1,h2⟩:=e3g f y hd
  refine⟨y::l,by simp[h1],fun i a b ha hb=>?_⟩
  cases i with
  |zero=>
   simp at ha hb
   subst ha hb
   exact hy
  |succ i=>exact h2 i a b (by simpa using ha) (by simpa using hb)
theorem c8n {x:Its} {c:List S} (hc:∀ (i:Nat) (a b:S),c[i]? =some a->c[i+1]? =some b->b∈(a1b x a).1) {i:Nat} {a:S} (ha:c[i]? =some a):∀ (k:Nat) (b:S),c[i+1+k]? =some b->Gets x a b
 |0,b,hb=> .one (hc i a b ha hb)
 |k+1,b,hb=>by
  have hlt:=(List.getElem?_eq_some_iff.1 hb).1
  obtain⟨m,hm⟩:∃ m,c[i+1+k]? =some m:=⟨_,List.getElem?_eq_getElem om⟩
  exact .step (c8n hc ha k m hm) (hc (i+1+k) m b hm hb)
theorem e9f {x:Its} (h:∀ s∈nS x++nE x,¬ Gets x s s) (s:S):a6r x ((nS x++nE x).length+1) s:=by
 refine Classical.byContradiction fun hd=>?_
 obtain⟨l,hl,hc⟩:=e3g _ s hd
 have hlen:(s::l).length=(nS x++nE x).length+2:=by simp[hl]
 have hsub:((s::l).take ((nS x++nE x).length+1)) ⊆ nS x++nE x:=by
  intro a ha
  obtain⟨i,hi,he⟩:=List.getElem_of_mem ha
  simp only[List.length_take]at hi
  have h1:(s::l)[i]? =some a:=by
   rw[List.getElem_take]at he
   rw[List.getElem?_eq_getElem om,he]
  have h2:(s::l)[i+1]? =some ((s::l)[i+1]'om):=List.getElem?_eq_getElem _
  exact b9s (hc i _ _ h1 h2)
 have hnd:¬ ((s::l).take ((nS x++nE x).length+1)).Nodup:=fun hn=>by
   have:=List.Nodup.length_le_of_subset hn hsub
   simp only[List.length_take]at this
   omega
 refine hnd ?_
 rw[List.nodup_iff_pairwise_ne,List.pairwise_iff_getElem]
 intro i j hi hj hij e
 simp only[List.length_take]at hi hj
 rw[List.getElem_take,List.getElem_take]at e
 have h1:(s::l)[i]? =some ((s::l)[i]'om):=List.getElem?_eq_getElem _
 have h2:(s::l)[i+1+(j - i - 1)]? =some ((s::l)[j]'om):=by
   rw[show i+1+(j - i - 1)=j by omega];exact List.getElem?_eq_getElem _
 have hg:=c8n hc h1 (j - i - 1) _ h2
 rw[<-e]at hg
 have h3:(s::l)[i+1]? =some ((s::l)[i+1]'om):=List.getElem?_eq_getElem _
 exact h _ (b9s (hc i _ _ h1 h3)) hg
end Go.Vm.Ip
namespace Go.Vm.Ip
def d3b (v:Int×Int):Bool:=decide (v.1> 64)||decide (v.2> 1024)
def c4h (x:Its):Nat:=(nS x++nE x).length+1
end Go.Vm.Ip
namespace Go.Vm.Ip
theorem map_inj {α:Type} {f:α->D} (h:∀ a b,f a=f b->a=b):∀ {l m:List α},l.map f=m.map f->l=m
 |[],[],_=>rfl
 |[],b::m,e=>by simp at e
 |a::l,[],e=>by simp at e
 |a::l,b::m,e=>by
  simp only[List.map_cons,List.cons.injEq]at e
  rw[h a b e.1,map_inj h e.2]
theorem Fld.c9z (a b:Fld) (h:a.D=b.D):a=b:=by
 cases a;cases b
 simp only[Fld.D,D.agg.injEq,List.cons.injEq,D.str.injEq,and_true]at h
 rw[h.1,h.2]
theorem Nam.c9z (a b:Nam) (h:a.D=b.D):a=b:=by
 cases a;cases b
 simp only[Nam.D,a2h,D.agg.injEq,List.cons.injEq,D.str.injEq,D.sl.injEq,and_true]at h
 rw[h.1,map_inj Fld.c9z h.2]
theorem Fnc.c9z (a b:Fnc) (h:a.D=b.D):a=b:=by
 cases a;cases b
 simp only[Fnc.D,a2h,D.agg.injEq,List.cons.injEq,D.str.injEq,D.sl.injEq,D.int.injEq,true_and,and_true]at h
 rw[h.1,map_inj Fld.c9z h.2.1,map_inj (fun a b e=>by cases e;rfl) h.2.2.1,h.2.2.2.1,h.2.2.2.2]
theorem Its.c9z (a b:Its) (h:a.D=b.D):a=b:=by
 cases a;cases b
 simp only[Its.D,D.agg.injEq,List.cons.injEq,D.sl.injEq,and_true]at h
 rw[map_inj Nam.c9z h.1,map_inj Nam.c9z h.2.1,map_inj Fnc.c9z h.2.2]
end Go.Vm.Ip


namespace Go.Vm.Ip
open Go.Vm.Lex (a3c)
def flM (x:Its) (s:S):List Fld:=if known (nS x) s then(nam x.ss s).fs else if known (nE x) s then(nam x.es s).fs else[]
theorem c5u (x:Its) (s:S):a1b x s=if known (nS x) s then((flM x s).map Fld.t,false) else if known (nE x) s then(a1t (flM x s),true) else([],false):=by
 unfold a1b flM nam known
 rw[show x.ss.map Nam.n=nS x from rfl,show x.es.map Nam.n=nE x from rfl]
 cases pos (nS x) s with
 |some i=>rfl
 |none=>
  cases pos (nE x) s with
  |some i=>rfl
  |none=>rfl
theorem a7n {l:List S} {s:S}:known l s=true↔s∈l:=by
 unfold known
 rw[Option.isSome_iff_exists]
 exact d8h.symm
theorem d8v {l:List Nam} {s:S} (h:known (l.map Nam.n) s=true):nam l s∈l/\(nam l s).n=s:=by
 unfold known at h
 obtain⟨i,hi⟩:=Option.isSome_iff_exists.1 h
 unfold nam
 rw[hi]
 have h1:=b2o hi
 rw[List.length_map]at h1
 have h2:=(b0i hi).1
 rw[List.getElem?_map,List.getElem?_eq_getElem h1]at h2
 simp only[Option.map_some,Option.some.injEq]at h2
 simp only[List.getD_eq_getElem?_getD,List.getElem?_eq_getElem h1,Option.getD_some]
 exact⟨List.getElem_mem _,h2⟩
end Go.Vm.Ip
namespace Go.Vm.Ip
theorem f0m {l:List Fld} (h:∀ f∈l,f.t≠[]):a1t l=l.map Fld.t:=by
 unfold a1t
 rw[List.filter_eq_self]
 intro a ha
 obtain⟨f,hf,rfl⟩:=List.mem_map.1 ha
 simpa using h f hf
theorem b8i {l:List Fld} {t:S}:t∈a1t l↔t≠[]/\∃ f∈l,f.t=t:=by
 unfold a1t
 rw[List.mem_filter,List.mem_map]
 constructor
 ·rintro⟨⟨f,hf,rfl⟩,h⟩;exact⟨by simpa using h,f,hf,rfl⟩
 ·rintro⟨h,f,hf,rfl⟩;exact⟨⟨f,hf,rfl⟩,by simpa using h⟩
theorem h2a {x:Its} {s:S} (h:known (nS x) s=false) (h2:known (nE x) s=true):a1b x s=(a1t (flM x s),true):=by
 rw[c5u,h,h2];rfl
theorem f9a {x:Its} {s:S} (h:known (nS x) s=false) (h2:known (nE x) s=false):a1b x s=([],false):=by
 rw[c5u,h,h2];rfl
end Go.Vm.Ip



namespace Go.Vm.Ip
open Go.Vm.Lex (a3c)
def biB (s:S):Bool:=decide (s=b1m)||decide (s=c1d)||decide (s=b2k)
def enB (x:Its) (s:S):Bool:= !known (nS x) s && known (nE x) s
end Go.Vm.Ip

