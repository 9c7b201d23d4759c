import Derived.Test.YtkedogplneaaiaaGreatDoorProg
import Derived.Test.YtkedogplneaaiaaGreatDoorVmRun
import Derived.Test.YtkedogplneaaiaaGreatDoorVmFn
import Derived.ProofKit
import Derived.LaidMore
import Derived.Stop.Joined
import Derived.Below
import Derived.Lib.ItoaNum
import Derived.Lib.Join
import Derived.Lib.Fields
import Derived.Sort.Grow
import Derived.Lib.LaidTab
import Derived.Deep.Draws
import Derived.Lib.Bytealg
import Derived.Lib.LastIndexByte
import Derived.Lib.ParseIntB
import Derived.Lib.Strings
import Derived.Lib.CutLaws
import Derived.Test.YtkedogplneaaiaaGreatDoorVmOps2
set_option maxRecDepth 100000
set_option linter.unusedVariables false
set_option linter.unusedSimpArgs false
set_option maxHeartbeats 0
namespace Go.Vm.Ite
open Go Go.Vm Go.Proofs
abbrev A0:Ann:=AA [] []
def Q7:Laid Tryz.prog A0 false Tryz.f7:=laid
abbrev F7:VFn:=Q7.F
def Q8:Laid Tryz.prog A0 false Tryz.f8:=laid
abbrev F8:VFn:=Q8.F
def Q9:Laid Tryz.prog A0 false Tryz.f9:=laid
abbrev F9:VFn:=Q9.F
def Q11:Laid Tryz.prog A0 false Tryz.f11:=laid
abbrev F11:VFn:=Q11.F
def Q13:Laid Tryz.prog (AA [(8,[0,3,5,6])] [(7,[.newrow 5 5])]) false Tryz.f13:=laid
abbrev F13:VFn:=Q13.F
def Q14:Laid Tryz.prog (AA [] [(4,[.bindrow 6 4 3])]) false Tryz.f14:=laid
abbrev F14:VFn:=Q14.F
def Q15:Laid Tryz.prog A0 false Tryz.f15:=laid
abbrev F15:VFn:=Q15.F
def Q16:Laid Tryz.prog (AA [] [(4,[.bindrow 6 4 3])]) false Tryz.f16:=laid
abbrev F16:VFn:=Q16.F
def Q17:Laid Tryz.prog A0 false Tryz.f17:=laid
abbrev F17:VFn:=Q17.F
def Q18:Laid Tryz.prog (AA [] [(4,[.bindrow 6 4 3])]) false Tryz.f18:=laid
abbrev F18:VFn:=Q18.F
def Q19:Laid Tryz.prog (AA [(4,[3,16,17,18])] []) false Tryz.f19:=laid
abbrev F19:VFn:=Q19.F
def Q21:Laid Tryz.prog (AA [(2,[0,2,3])] [(1000002,[.bindrow 1 3 3])]) false Tryz.f21:=laid
abbrev F21:VFn:=Q21.F
def Q23:Laid Tryz.prog (AA [(4,[0,1,12,13])] []) false Tryz.f23:=laid
abbrev F23:VFn:=Q23.F
def Q24:Laid Tryz.prog A0 false Tryz.f24:=laid
abbrev F24:VFn:=Q24.F
def Q25:Laid Tryz.prog (AA [(2,[0,3])] []) false Tryz.f25:=laid
abbrev F25:VFn:=Q25.F
def Q26:Laid Tryz.prog (AA [(1,[0,1]),(7,[0,1])] []) false Tryz.f26:=laid
abbrev F26:VFn:=Q26.F
def Q27:Laid Tryz.prog (AA [(1,[0,1])] []) false Tryz.f27:=laid
abbrev F27:VFn:=Q27.F
def Q28:Laid Tryz.prog A0 false Tryz.f28:=laid
abbrev F28:VFn:=Q28.F
def Q29:Laid Tryz.prog (AA [(3,[0,1,4,5,6,7])] []) false Tryz.f29:=laid
abbrev F29:VFn:=Q29.F
def Q30:Laid Tryz.prog A0 false Tryz.f30:=laid
abbrev F30:VFn:=Q30.F
def Q31:Laid Tryz.prog A0 false Tryz.f31:=laid
abbrev F31:VFn:=Q31.F
def Q32:Laid Tryz.prog (AA [(2,[0,1,9,10,11]),(8,[0,1,32,33,34])] []) false Tryz.f32:=laid
abbrev F32:VFn:=Q32.F
def Q33:Laid Tryz.prog (AA [(26,[0,1,6,9])] []) false Tryz.f33:=laid
abbrev F33:VFn:=Q33.F
def Q34:Laid Tryz.prog A0 true Tryz.f34:=laid
abbrev F34:VFn:=Q34.F
def Q35:Laid Tryz.prog A0 false Tryz.f35:=laid
abbrev F35:VFn:=Q35.F
def Q36:Laid Tryz.prog A0 false Tryz.f36:=laid
abbrev F36:VFn:=Q36.F
def Q38:Laid Tryz.prog A0 false Tryz.f38:=laid
abbrev F38:VFn:=Q38.F
def Q40:Laid Tryz.prog A0 false Tryz.f40:=laid
abbrev F40:VFn:=Q40.F
def Q41:Laid Tryz.prog (AA [(8,[0,3,5,6])] [(7,[.newrow 5 5])]) false Tryz.f41:=laid
abbrev F41:VFn:=Q41.F
def Q45:Laid Tryz.prog A0 false Tryz.f45:=laid
abbrev F45:VFn:=Q45.F
def Q46:Laid Tryz.prog (AA [] [(6,[.bindrow 1 4 3]),(16,[.bindrow 1 4 3]),(20,[.bindrow 1 4 3])]) false Tryz.f46:=laid
abbrev F46:VFn:=Q46.F
def Q47:Laid Tryz.prog A0 false Tryz.f47:=laid
abbrev F47:VFn:=Q47.F
def Q48:Laid Tryz.prog A0 false Tryz.f48:=laid
abbrev F48:VFn:=Q48.F
def Q49:Laid Tryz.prog A0 false Tryz.f49:=laid
abbrev F49:VFn:=Q49.F
def Q50:Laid Tryz.prog A0 false Tryz.f50:=laid
abbrev F50:VFn:=Q50.F
def Q51:Laid Tryz.prog (AA [(4,[0,1,4,5])] []) false Tryz.f51:=laid
abbrev F51:VFn:=Q51.F
def Q52:Laid Tryz.prog (AA [(3,[0,4,5])] []) false Tryz.f52:=laid
abbrev F52:VFn:=Q52.F
def Q53:Laid Tryz.prog (AA [(2,[0,5,6,7])] []) false Tryz.f53:=laid
abbrev F53:VFn:=Q53.F
def Q54:Laid Tryz.prog A0 false Tryz.f54:=laid
abbrev F54:VFn:=Q54.F
def Q55:Laid Tryz.prog (AA [(5,[0,1,2,7,8])] []) false Tryz.f55:=laid
abbrev F55:VFn:=Q55.F
def Q56:Laid Tryz.prog A0 false Tryz.f56:=laid
abbrev F56:VFn:=Q56.F
def Q57:Laid Tryz.prog A0 false Tryz.f57:=laid
abbrev F57:VFn:=Q57.F
def Q58:Laid Tryz.prog A0 false Tryz.f58:=laid
abbrev F58:VFn:=Q58.F
def Q59:Laid Tryz.prog (AA [(4,[1,3,4,5]),(7,[1,3,4,5,25,26,27])] []) false Tryz.f59:=laid
abbrev F59:VFn:=Q59.F
def Q60:Laid Tryz.prog A0 false Tryz.f60:=laid
abbrev F60:VFn:=Q60.F
def Q61:Laid Tryz.prog A0 false Tryz.f61:=laid
abbrev F61:VFn:=Q61.F
def Q62:Laid Tryz.prog A0 false Tryz.f62:=laid
abbrev F62:VFn:=Q62.F
def Q63:Laid Tryz.prog A0 false Tryz.f63:=laid
abbrev F63:VFn:=Q63.F
def Q64:Laid Tryz.prog A0 false Tryz.f64:=laid
abbrev F64:VFn:=Q64.F
def Q65:Laid Tryz.prog A0 false Tryz.f65:=laid
abbrev F65:VFn:=Q65.F
def Q66:Laid Tryz.prog A0 false Tryz.f66:=laid
abbrev F66:VFn:=Q66.F
def Q67:Laid Tryz.prog A0 false Tryz.f67:=laid
abbrev F67:VFn:=Q67.F
def Q69:Laid Tryz.prog A0 false Tryz.f69:=laid
abbrev F69:VFn:=Q69.F
def Q71:Laid Tryz.prog (AA [(1,[0,1])] []) false Tryz.f71:=laid
abbrev F71:VFn:=Q71.F
def Q72:Laid Tryz.prog A0 false Tryz.f72:=laid
abbrev F72:VFn:=Q72.F
def Q79:Laid Tryz.prog A0 false Tryz.f79:=laid
abbrev F79:VFn:=Q79.F
def Q80:Laid Tryz.prog A0 false Tryz.f80:=laid
abbrev F80:VFn:=Q80.F
def Q81:Laid Tryz.prog A0 false Tryz.f81:=laid
abbrev F81:VFn:=Q81.F
def Q82:Laid Tryz.prog A0 false Tryz.f82:=laid
abbrev F82:VFn:=Q82.F
def Q84:Laid Tryz.prog A0 false Tryz.f84:=laid
abbrev F84:VFn:=Q84.F
def Q85:Laid Tryz.prog A0 false Tryz.f85:=laid
abbrev F85:VFn:=Q85.F
def Q86:Laid Tryz.prog A0 false Tryz.f86:=laid
abbrev F86:VFn:=Q86.F
def Q87:Laid Tryz.prog A0 false Tryz.f87:=laid
abbrev F87:VFn:=Q87.F
def Q89:Laid Tryz.prog A0 false Tryz.f89:=laid
abbrev F89:VFn:=Q89.F
def Q90:Laid Tryz.prog A0 false Tryz.f90:=laid
abbrev F90:VFn:=Q90.F
def Q91:Laid Tryz.prog A0 false Tryz.f91:=laid
abbrev F91:VFn:=Q91.F
def Q92:Laid Tryz.prog (AA [(3,[0,5,6])] []) false Tryz.f92:=laid
abbrev F92:VFn:=Q92.F
def Q93:Laid Tryz.prog A0 false Tryz.f93:=laid
abbrev F93:VFn:=Q93.F
def Q94:Laid Tryz.prog A0 false Tryz.f94:=laid
abbrev F94:VFn:=Q94.F
def Q95:Laid Tryz.prog A0 false Tryz.f95:=laid
abbrev F95:VFn:=Q95.F
def Q96:Laid Tryz.prog A0 false Tryz.f96:=laid
abbrev F96:VFn:=Q96.F
def Q97:Laid Tryz.prog A0 false Tryz.f97:=laid
abbrev F97:VFn:=Q97.F
def Q98:Laid Tryz.prog A0 false Tryz.f98:=laid
abbrev F98:VFn:=Q98.F
def Q101:Laid Tryz.prog A0 false Tryz.f101:=laid
abbrev F101:VFn:=Q101.F
def Q102:Laid Tryz.prog (AA [(2,[0,3])] []) false Tryz.f102:=laid
abbrev F102:VFn:=Q102.F
def Q103:Laid Tryz.prog A0 false Tryz.f103:=laid
abbrev F103:VFn:=Q103.F
def Q104:Laid Tryz.prog A0 false Tryz.f104:=laid
abbrev F104:VFn:=Q104.F
def Q105:Laid Tryz.prog A0 false Tryz.f105:=laid
abbrev F105:VFn:=Q105.F
def Q106:Laid Tryz.prog A0 false Tryz.f106:=laid
abbrev F106:VFn:=Q106.F
def Q111:Laid Tryz.prog A0 false Tryz.f111:=laid
abbrev F111:VFn:=Q111.F
def Q112:Laid Tryz.prog (AA [(0,[0,1,2])] []) false Tryz.f112:=laid
abbrev F112:VFn:=Q112.F
def Q113:Laid Tryz.prog (AA [(0,[0,1])] []) false Tryz.f113:=laid
abbrev F113:VFn:=Q113.F
def Q114:Laid Tryz.prog A0 false Tryz.f114:=laid
abbrev F114:VFn:=Q114.F
def Q115:Laid Tryz.prog (AA [(2,[0,2,3])] []) false Tryz.f115:=laid
abbrev F115:VFn:=Q115.F
def Q116:Laid Tryz.prog (AA [(2,[0,1,5])] []) false Tryz.f116:=laid
abbrev F116:VFn:=Q116.F
def Q117:Laid Tryz.prog (AA [(3,[0,5,6])] []) false Tryz.f117:=laid
abbrev F117:VFn:=Q117.F
def Q118:Laid Tryz.prog A0 false Tryz.f118:=laid
abbrev F118:VFn:=Q118.F
def Q119:Laid Tryz.prog A0 false Tryz.f119:=laid
abbrev F119:VFn:=Q119.F
def Q122:Laid Tryz.prog A0 false Tryz.f122:=laid
abbrev F122:VFn:=Q122.F
def Q123:Laid Tryz.prog A0 false Tryz.f123:=laid
abbrev F123:VFn:=Q123.F
def Q125:Laid Tryz.prog A0 false Tryz.f125:=laid
abbrev F125:VFn:=Q125.F
def Q126:Laid Tryz.prog A0 false Tryz.f126:=laid
abbrev F126:VFn:=Q126.F
def Q127:Laid Tryz.prog A0 false Tryz.f127:=laid
abbrev F127:VFn:=Q127.F
def Q128:Laid Tryz.prog A0 false Tryz.f128:=laid
abbrev F128:VFn:=Q128.F
def Q129:Laid Tryz.prog A0 false Tryz.f129:=laid
abbrev F129:VFn:=Q129.F
def Q130:Laid Tryz.prog A0 false Tryz.f130:=laid
abbrev F130:VFn:=Q130.F
def Q134:Laid Tryz.prog A0 false Tryz.f134:=laid
abbrev F134:VFn:=Q134.F
def Q135:Laid Tryz.prog A0 false Tryz.f135:=laid
abbrev F135:VFn:=Q135.F
def Q136:Laid Tryz.prog (AA [] [(5,[.bindrow 1 4 3]),(13,[.bindrow 1 4 3])]) false Tryz.f136:=laid
abbrev F136:VFn:=Q136.F
def Q137:Laid Tryz.prog A0 false Tryz.f137:=laid
abbrev F137:VFn:=Q137.F
def Q138:Laid Tryz.prog A0 false Tryz.f138:=laid
abbrev F138:VFn:=Q138.F
def Q139:Laid Tryz.prog A0 false Tryz.f139:=laid
abbrev F139:VFn:=Q139.F
def Q140:Laid Tryz.prog (AA [(4,[0,1,8]),(11,[0,1,9])] [(1000004,[.bindrow 1 8 3]),(1000011,[.bindrow 1 9 3])]) false Tryz.f140:=laid
abbrev F140:VFn:=Q140.F
def Q147:Laid Tryz.prog A0 false Tryz.f147:=laid
abbrev F147:VFn:=Q147.F
def Q148:Laid Tryz.prog A0 false Tryz.f148:=laid
abbrev F148:VFn:=Q148.F
def Q149:Laid Tryz.prog A0 false Tryz.f149:=laid
abbrev F149:VFn:=Q149.F
def Q150:Laid Tryz.prog A0 false Tryz.f150:=laid
abbrev F150:VFn:=Q150.F
def Q151:Laid Tryz.prog A0 false Tryz.f151:=laid
abbrev F151:VFn:=Q151.F
def Q152:Laid Tryz.prog A0 false Tryz.f152:=laid
abbrev F152:VFn:=Q152.F
def Q153:Laid Tryz.prog A0 false Tryz.f153:=laid
abbrev F153:VFn:=Q153.F
def Q154:Laid Tryz.prog (AA [(6,[0,3,4])] []) false Tryz.f154:=laid
abbrev F154:VFn:=Q154.F
def Q155:Laid Tryz.prog (AA [(5,[0,3,4])] [(1000005,[.bindrow 1 4 3])]) false Tryz.f155:=laid
abbrev F155:VFn:=Q155.F
def Q156:Laid Tryz.prog A0 false Tryz.f156:=laid
abbrev F156:VFn:=Q156.F
def Q160:Laid Tryz.prog (AA [(0,[0,1])] []) false Tryz.f160:=laid
abbrev F160:VFn:=Q160.F
def Q161:Laid Tryz.prog A0 false Tryz.f161:=laid
abbrev F161:VFn:=Q161.F
def Q162:Laid Tryz.prog A0 false Tryz.f162:=laid
abbrev F162:VFn:=Q162.F
def Q163:Laid Tryz.prog A0 false Tryz.f163:=laid
abbrev F163:VFn:=Q163.F
def Q165:Laid Tryz.prog A0 false Tryz.f165:=laid
abbrev F165:VFn:=Q165.F
def Q166:Laid Tryz.prog A0 false Tryz.f166:=laid
abbrev F166:VFn:=Q166.F
def Q167:Laid Tryz.prog A0 false Tryz.f167:=laid
abbrev F167:VFn:=Q167.F
def tbl (F:Nat->Option a0v):Nat->Option a0v
 |7=>some (.code F7)
 |8=>some (.code F8)
 |9=>some (.code F9)
 |11=>some (.code F11)
 |13=>some (.code F13)
 |14=>some (.code F14)
 |15=>some (.code F15)
 |16=>some (.code F16)
 |17=>some (.code F17)
 |18=>some (.code F18)
 |19=>some (.code F19)
 |21=>some (.code F21)
 |23=>some (.code F23)
 |24=>some (.code F24)
 |25=>some (.code F25)
 |26=>some (.code F26)
 |27=>some (.code F27)
 |28=>some (.code F28)
 |29=>some (.code F29)
 |30=>some (.code F30)
 |31=>some (.code F31)
 |32=>some (.code F32)
 |33=>some (.code F33)
 |34=>some (.code F34)
 |35=>some (.code F35)
 |36=>some (.code F36)
 |38=>some (.code F38)
 |40=>some (.code F40)
 |41=>some (.code F41)
 |45=>some (.code F45)
 |46=>some (.code F46)
 |47=>some (.code F47)
 |48=>some (.code F48)
 |49=>some (.code F49)
 |50=>some (.code F50)
 |51=>some (.code F51)
 |52=>some (.code F52)
 |53=>some (.code F53)
 |54=>some (.code F54)
 |55=>some (.code F55)
 |56=>some (.code F56)
 |57=>some (.code F57)
 |58=>some (.code F58)
 |59=>some (.code F59)
 |60=>some (.code F60)
 |61=>some (.code F61)
 |62=>some (.code F62)
 |63=>some (.code F63)
 |64=>some (.code F64)
 |65=>some (.code F65)
 |66=>some (.code F66)
 |67=>some (.code F67)
 |69=>some (.code F69)
 |71=>some (.code F71)
 |72=>some (.code F72)
 |79=>some (.code F79)
 |80=>some (.code F80)
 |81=>some (.code F81)
 |82=>some (.code F82)
 |84=>some (.code F84)
 |85=>some (.code F85)
 |86=>some (.code F86)
 |87=>some (.code F87)
 |89=>some (.code F89)
 |90=>some (.code F90)
 |91=>some (.code F91)
 |92=>some (.code F92)
 |93=>some (.code F93)
 |94=>some (.code F94)
 |95=>some (.code F95)
 |96=>some (.code F96)
 |97=>some (.code F97)
 |98=>some (.code F98)
 |101=>some (.code F101)
 |102=>some (.code F102)
 |103=>some (.code F103)
 |104=>some (.code F104)
 |105=>some (.code F105)
 |106=>some (.code F106)
 |111=>some (.code F111)
 |112=>some (.code F112)
 |113=>some (.code F113)
 |114=>some (.code F114)
 |115=>some (.code F115)
 |116=>some (.code F116)
 |117=>some (.code F117)
 |118=>some (.code F118)
 |119=>some (.code F119)
 |122=>some (.code F122)
 |123=>some (.code F123)
 |125=>some (.code F125)
 |126=>some (.code F126)
 |127=>some (.code F127)
 |128=>some (.code F128)
 |129=>some (.code F129)
 |130=>some (.code F130)
 |134=>some (.code F134)
 |135=>some (.code F135)
 |136=>some (.code F136)
 |137=>some (.code F137)
 |138=>some (.code F138)
 |139=>some (.code F139)
 |140=>some (.code F140)
 |147=>some (.code F147)
 |148=>some (.code F148)
 |149=>some (.code F149)
 |150=>some (.code F150)
 |151=>some (.code F151)
 |152=>some (.code F152)
 |153=>some (.code F153)
 |154=>some (.code F154)
 |155=>some (.code F155)
 |156=>some (.code F156)
 |160=>some (.code F160)
 |161=>some (.code F161)
 |162=>some (.code F162)
 |163=>some (.code F163)
 |165=>some (.code F165)
 |166=>some (.code F166)
 |167=>some (.code F167)
 |i=>F i
abbrev c2i:Nat:=7
theorem c2j {F:Nat->Option a0v}:(tbl F) 7=some (.code F7):=rfl
abbrev d1m:Nat:=8
theorem d1l {F:Nat->Option a0v}:(tbl F) 8=some (.code F8):=rfl
abbrev d5z:Nat:=9
theorem d5u {F:Nat->Option a0v}:(tbl F) 9=some (.code F9):=rfl
abbrev c9t:Nat:=11
theorem c9i {F:Nat->Option a0v}:(tbl F) 11=some (.code F11):=rfl
abbrev c9q:Nat:=13
theorem c9m {F:Nat->Option a0v}:(tbl F) 13=some (.code F13):=rfl
abbrev b5f:Nat:=14
theorem c4z {F:Nat->Option a0v}:(tbl F) 14=some (.code F14):=rfl
abbrev d4a:Nat:=15
theorem d7j {F:Nat->Option a0v}:(tbl F) 15=some (.code F15):=rfl
abbrev b5a:Nat:=16
theorem c4v {F:Nat->Option a0v}:(tbl F) 16=some (.code F16):=rfl
abbrev c6k:Nat:=17
theorem c6u {F:Nat->Option a0v}:(tbl F) 17=some (.code F17):=rfl
abbrev b0i:Nat:=18
theorem b6b {F:Nat->Option a0v}:(tbl F) 18=some (.code F18):=rfl
abbrev c4s:Nat:=19
theorem d3x {F:Nat->Option a0v}:(tbl F) 19=some (.code F19):=rfl
abbrev a9h:Nat:=21
theorem b7l {F:Nat->Option a0v}:(tbl F) 21=some (.code F21):=rfl
abbrev d5j:Nat:=23
theorem d4q {F:Nat->Option a0v}:(tbl F) 23=some (.code F23):=rfl
abbrev d4p:Nat:=24
theorem d6g {F:Nat->Option a0v}:(tbl F) 24=some (.code F24):=rfl
abbrev c8x:Nat:=25
theorem c7l {F:Nat->Option a0v}:(tbl F) 25=some (.code F25):=rfl
abbrev c1g:Nat:=26
theorem d3k {F:Nat->Option a0v}:(tbl F) 26=some (.code F26):=rfl
abbrev d8a:Nat:=27
theorem e0x {F:Nat->Option a0v}:(tbl F) 27=some (.code F27):=rfl
abbrev d3f:Nat:=28
theorem d3d {F:Nat->Option a0v}:(tbl F) 28=some (.code F28):=rfl
abbrev c5e:Nat:=29
theorem c5f {F:Nat->Option a0v}:(tbl F) 29=some (.code F29):=rfl
abbrev c9p:Nat:=30
theorem c9s {F:Nat->Option a0v}:(tbl F) 30=some (.code F30):=rfl
abbrev d3b:Nat:=31
theorem d3c {F:Nat->Option a0v}:(tbl F) 31=some (.code F31):=rfl
abbrev d3r:Nat:=32
theorem d5y {F:Nat->Option a0v}:(tbl F) 32=some (.code F32):=rfl
abbrev d5q:Nat:=33
theorem d5i {F:Nat->Option a0v}:(tbl F) 33=some (.code F33):=rfl
abbrev c2f:Nat:=34
theorem c1o {F:Nat->Option a0v}:(tbl F) 34=some (.code F34):=rfl
abbrev a3n:Nat:=35
theorem b8i {F:Nat->Option a0v}:(tbl F) 35=some (.code F35):=rfl
abbrev a3p:Nat:=36
theorem c7o {F:Nat->Option a0v}:(tbl F) 36=some (.code F36):=rfl
abbrev a4f:Nat:=38
theorem c0l {F:Nat->Option a0v}:(tbl F) 38=some (.code F38):=rfl
abbrev a2u:Nat:=40
theorem b4k {F:Nat->Option a0v}:(tbl F) 40=some (.code F40):=rfl
abbrev d6l:Nat:=41
theorem d5g {F:Nat->Option a0v}:(tbl F) 41=some (.code F41):=rfl
abbrev a6v:Nat:=45
theorem c2u {F:Nat->Option a0v}:(tbl F) 45=some (.code F45):=rfl
abbrev a5p:Nat:=46
theorem b8p {F:Nat->Option a0v}:(tbl F) 46=some (.code F46):=rfl
abbrev a5d:Nat:=47
theorem b7y {F:Nat->Option a0v}:(tbl F) 47=some (.code F47):=rfl
abbrev a3c:Nat:=48
theorem a5c {F:Nat->Option a0v}:(tbl F) 48=some (.code F48):=rfl
abbrev b5j:Nat:=49
theorem b5w {F:Nat->Option a0v}:(tbl F) 49=some (.code F49):=rfl
abbrev a8z:Nat:=50
theorem a5a {F:Nat->Option a0v}:(tbl F) 50=some (.code F50):=rfl
abbrev a0m:Nat:=51
theorem a1t {F:Nat->Option a0v}:(tbl F) 51=some (.code F51):=rfl
abbrev b8b:Nat:=52
theorem c9k {F:Nat->Option a0v}:(tbl F) 52=some (.code F52):=rfl
abbrev d6r:Nat:=53
theorem d4w {F:Nat->Option a0v}:(tbl F) 53=some (.code F53):=rfl
abbrev b0m:Nat:=54
theorem b9p {F:Nat->Option a0v}:(tbl F) 54=some (.code F54):=rfl
abbrev a6p:Nat:=55
theorem b1n {F:Nat->Option a0v}:(tbl F) 55=some (.code F55):=rfl
abbrev b2t:Nat:=56
theorem c2z {F:Nat->Option a0v}:(tbl F) 56=some (.code F56):=rfl
abbrev c2t:Nat:=57
theorem c1h {F:Nat->Option a0v}:(tbl F) 57=some (.code F57):=rfl
abbrev b1b:Nat:=58
theorem b8j {F:Nat->Option a0v}:(tbl F) 58=some (.code F58):=rfl
abbrev c6x:Nat:=59
theorem c7e {F:Nat->Option a0v}:(tbl F) 59=some (.code F59):=rfl
abbrev b2d:Nat:=60
theorem b1w {F:Nat->Option a0v}:(tbl F) 60=some (.code F60):=rfl
abbrev b0e:Nat:=61
theorem b8y {F:Nat->Option a0v}:(tbl F) 61=some (.code F61):=rfl
abbrev a6l:Nat:=62
theorem c1r {F:Nat->Option a0v}:(tbl F) 62=some (.code F62):=rfl
abbrev a5x:Nat:=63
theorem b0s {F:Nat->Option a0v}:(tbl F) 63=some (.code F63):=rfl
abbrev a3e:Nat:=64
theorem b7n {F:Nat->Option a0v}:(tbl F) 64=some (.code F64):=rfl
abbrev a5f:Nat:=65
theorem b7o {F:Nat->Option a0v}:(tbl F) 65=some (.code F65):=rfl
abbrev a4t:Nat:=66
theorem c3r {F:Nat->Option a0v}:(tbl F) 66=some (.code F66):=rfl
abbrev a3s:Nat:=67
theorem a6z {F:Nat->Option a0v}:(tbl F) 67=some (.code F67):=rfl
abbrev a3h:Nat:=69
theorem b3c {F:Nat->Option a0v}:(tbl F) 69=some (.code F69):=rfl
abbrev c9z:Nat:=71
theorem e4o {F:Nat->Option a0v}:(tbl F) 71=some (.code F71):=rfl
abbrev c8q:Nat:=72
theorem d9f {F:Nat->Option a0v}:(tbl F) 72=some (.code F72):=rfl
abbrev c1x:Nat:=79
theorem c1n {F:Nat->Option a0v}:(tbl F) 79=some (.code F79):=rfl
theorem b6i {F:Nat->Option a0v}:(tbl F) 80=some (.code F80):=rfl
abbrev a1y:Nat:=81
theorem a9f {F:Nat->Option a0v}:(tbl F) 81=some (.code F81):=rfl
abbrev c2r:Nat:=82
theorem c2d {F:Nat->Option a0v}:(tbl F) 82=some (.code F82):=rfl
theorem b5t {F:Nat->Option a0v}:(tbl F) 84=some (.code F84):=rfl
theorem b5z {F:Nat->Option a0v}:(tbl F) 85=some (.code F85):=rfl
abbrev a4c:Nat:=86
theorem b4p {F:Nat->Option a0v}:(tbl F) 86=some (.code F86):=rfl
abbrev a8m:Nat:=87
theorem b6r {F:Nat->Option a0v}:(tbl F) 87=some (.code F87):=rfl
abbrev c0d:Nat:=89
theorem c0f {F:Nat->Option a0v}:(tbl F) 89=some (.code F89):=rfl
abbrev a8l:Nat:=90
theorem b6c {F:Nat->Option a0v}:(tbl F) 90=some (.code F90):=rfl
abbrev a4l:Nat:=91
theorem b5x {F:Nat->Option a0v}:(tbl F) 91=some (.code F91):=rfl
abbrev b0n:Nat:=92
theorem c0h {F:Nat->Option a0v}:(tbl F) 92=some (.code F92):=rfl
abbrev b0h:Nat:=93
theorem b9f {F:Nat->Option a0v}:(tbl F) 93=some (.code F93):=rfl
abbrev b0z:Nat:=94
theorem c0c {F:Nat->Option a0v}:(tbl F) 94=some (.code F94):=rfl
abbrev a5z:Nat:=95
theorem b9n {F:Nat->Option a0v}:(tbl F) 95=some (.code F95):=rfl
abbrev a5s:Nat:=96
theorem b8t {F:Nat->Option a0v}:(tbl F) 96=some (.code F96):=rfl
abbrev a5o:Nat:=97
theorem b9z {F:Nat->Option a0v}:(tbl F) 97=some (.code F97):=rfl
abbrev b2v:Nat:=98
theorem c4k {F:Nat->Option a0v}:(tbl F) 98=some (.code F98):=rfl
abbrev b9g:Nat:=101
theorem b9a {F:Nat->Option a0v}:(tbl F) 101=some (.code F101):=rfl
abbrev e9z:Nat:=102
theorem e7q {F:Nat->Option a0v}:(tbl F) 102=some (.code F102):=rfl
abbrev e0e:Nat:=103
theorem d9s {F:Nat->Option a0v}:(tbl F) 103=some (.code F103):=rfl
abbrev d7e:Nat:=104
theorem d7h {F:Nat->Option a0v}:(tbl F) 104=some (.code F104):=rfl
abbrev e6k:Nat:=105
theorem e4z {F:Nat->Option a0v}:(tbl F) 105=some (.code F105):=rfl
abbrev e4l:Nat:=106
theorem e4w {F:Nat->Option a0v}:(tbl F) 106=some (.code F106):=rfl
abbrev a8f:Nat:=111
theorem a8h {F:Nat->Option a0v}:(tbl F) 111=some (.code F111):=rfl
abbrev b7x:Nat:=112
theorem b7t {F:Nat->Option a0v}:(tbl F) 112=some (.code F112):=rfl
abbrev b4l:Nat:=113
theorem b3z {F:Nat->Option a0v}:(tbl F) 113=some (.code F113):=rfl
abbrev a5n:Nat:=114
theorem b8l {F:Nat->Option a0v}:(tbl F) 114=some (.code F114):=rfl
abbrev a4b:Nat:=115
theorem b4e {F:Nat->Option a0v}:(tbl F) 115=some (.code F115):=rfl
abbrev b1s:Nat:=116
theorem c1v {F:Nat->Option a0v}:(tbl F) 116=some (.code F116):=rfl
abbrev a3y:Nat:=117
theorem b4f {F:Nat->Option a0v}:(tbl F) 117=some (.code F117):=rfl
abbrev a4a:Nat:=118
theorem b4m {F:Nat->Option a0v}:(tbl F) 118=some (.code F118):=rfl
abbrev c1d:Nat:=119
theorem d2p {F:Nat->Option a0v}:(tbl F) 119=some (.code F119):=rfl
abbrev a7d:Nat:=122
theorem a7c {F:Nat->Option a0v}:(tbl F) 122=some (.code F122):=rfl
abbrev d5l:Nat:=123
theorem d5m {F:Nat->Option a0v}:(tbl F) 123=some (.code F123):=rfl
abbrev e8q:Nat:=125
theorem f4a {F:Nat->Option a0v}:(tbl F) 125=some (.code F125):=rfl
abbrev c1s:Nat:=126
theorem c0n {F:Nat->Option a0v}:(tbl F) 126=some (.code F126):=rfl
abbrev b8k:Nat:=127
theorem b8w {F:Nat->Option a0v}:(tbl F) 127=some (.code F127):=rfl
abbrev a6g:Nat:=128
theorem b2r {F:Nat->Option a0v}:(tbl F) 128=some (.code F128):=rfl
abbrev a7i:Nat:=129
theorem b4i {F:Nat->Option a0v}:(tbl F) 129=some (.code F129):=rfl
abbrev a4d:Nat:=130
theorem b4o {F:Nat->Option a0v}:(tbl F) 130=some (.code F130):=rfl
theorem b6q {F:Nat->Option a0v}:(tbl F) 134=some (.code F134):=rfl
abbrev a4m:Nat:=135
theorem b6j {F:Nat->Option a0v}:(tbl F) 135=some (.code F135):=rfl
abbrev a9c:Nat:=136
theorem b7w {F:Nat->Option a0v}:(tbl F) 136=some (.code F136):=rfl
theorem b3a {F:Nat->Option a0v}:(tbl F) 137=some (.code F137):=rfl
theorem b2z {F:Nat->Option a0v}:(tbl F) 138=some (.code F138):=rfl
abbrev a4r:Nat:=139
theorem b6d {F:Nat->Option a0v}:(tbl F) 139=some (.code F139):=rfl
abbrev a5b:Nat:=140
theorem a3b {F:Nat->Option a0v}:(tbl F) 140=some (.code F140):=rfl
abbrev a7y:Nat:=147
theorem b5h {F:Nat->Option a0v}:(tbl F) 147=some (.code F147):=rfl
abbrev a8y:Nat:=148
theorem b7p {F:Nat->Option a0v}:(tbl F) 148=some (.code F148):=rfl
theorem b4b {F:Nat->Option a0v}:(tbl F) 149=some (.code F149):=rfl
theorem b4a {F:Nat->Option a0v}:(tbl F) 150=some (.code F150):=rfl
theorem b4j {F:Nat->Option a0v}:(tbl F) 151=some (.code F151):=rfl
abbrev a5u:Nat:=152
theorem b8s {F:Nat->Option a0v}:(tbl F) 152=some (.code F152):=rfl
abbrev a5v:Nat:=153
theorem b9u {F:Nat->Option a0v}:(tbl F) 153=some (.code F153):=rfl
abbrev a5g:Nat:=154
theorem b7q {F:Nat->Option a0v}:(tbl F) 154=some (.code F154):=rfl
abbrev a5h:Nat:=155
theorem a9a {F:Nat->Option a0v}:(tbl F) 155=some (.code F155):=rfl
abbrev a5t:Nat:=156
theorem b9d {F:Nat->Option a0v}:(tbl F) 156=some (.code F156):=rfl
abbrev b4g:Nat:=160
theorem b4h {F:Nat->Option a0v}:(tbl F) 160=some (.code F160):=rfl
abbrev a6k:Nat:=161
theorem c0y {F:Nat->Option a0v}:(tbl F) 161=some (.code F161):=rfl
abbrev a7a:Nat:=162
theorem c0v {F:Nat->Option a0v}:(tbl F) 162=some (.code F162):=rfl
abbrev a5m:Nat:=163
theorem c0g {F:Nat->Option a0v}:(tbl F) 163=some (.code F163):=rfl
abbrev a6x:Nat:=165
theorem c2q {F:Nat->Option a0v}:(tbl F) 165=some (.code F165):=rfl
abbrev a9e:Nat:=166
theorem b7m {F:Nat->Option a0v}:(tbl F) 166=some (.code F166):=rfl
abbrev a4i:Nat:=167
theorem b5b {F:Nat->Option a0v}:(tbl F) 167=some (.code F167):=rfl
end Go.Vm.Ite
namespace Go.Vm
open Go.ChangeShapes Go.WideShapes Go.ChangeAt Go.RowKit
def contents (w:World) (b:Nat):List Value:=match w.heap[b]? with|some (.cells cur _ _)=>cur.toList|_=>[]
def gh0 (w:World):Gh:=⟨fun _=>none,contents w⟩
theorem d2e {w:World} {b off:Nat} {v:Value} {sp} (h:w.cell? ⟨b,off,sp⟩=some v):(contents w b)[off]? =some v:=by
 unfold World.cell? at h
 unfold contents
 split at h
 ·rename_i c t f hc
  split at h
  ·cases h
  ·simp only at hc
   rw[hc]
   simpa using h
 ·cases h
def d6y (cx:Cx) (w:World):Prop:=(∀ i,∃ vs,vs <+:contents w i/\a1n (contents w) (cx.gv i) vs)/\∀ i o,cx.fx i=some o->w.heap[i]? =some o
theorem inv0 {cx:Cx} {w:World} (h:d6y cx w):Inv cx (gh0 w) [] w:=by
 refine⟨fun i k b c c' h=>(nomatch h),fun i b c h=>(nomatch h),fun i b c o h=>(nomatch h),fun b hb=>?_,fun i c hi=>absurd hi (Nat.not_lt_zero _),h.1,fun i o hi=>⟨h.2 i o hi,fun k c hk=>(nomatch hk)⟩⟩
 simp only[gh0,contents]at hb⊢
 split at hb
 ·rename_i cur e fz hc
  exact⟨cur,e,fz,hc,List.prefix_refl _⟩
 ·exact absurd rfl hb
theorem front {P:Program} {pg:Pg} (hT:a3i P pg) (hmx:P.follows .mixedOrders=true) {f:Nat} {args:Array Value} {ds:List D} {W:World} (hg:d6y pg.toCx W) (hr:a0w (gh0 W) [] (ds.map V.d) args.toList)
 {H':Hp} (hev:evF pg f (ds.map V.d) []=some (.d (.bool true),H')):Calls P f args W fun e W'=>e= .returned (.bool true)/\Below W.heap.size W W':=by
 obtain⟨_,h⟩:=c1u hT hmx f (ds.map V.d) [] (.d (.bool true)) H' hev
 refine(h (gh0 W) W args (inv0 hg) hr (a9z _ ds)).mono fun e w' he=>?_
 obtain⟨g',x,h1,h2,h3,_,h5⟩:=he
 rw[a9o h3]at h1
 exact⟨h1,⟨h5.os,h5.tape,h5.output,h5.size,fun k hk=>(h5.frame k hk fun i c=>by simp[gh0]).1⟩⟩
def d7o (P:Program) (total:Nat):Nat->List Field->Bool
 |n,[]=>n==total
 |n,f::r=>f.offset==n && d7o P total (n+P.cellsOf f.type) r
section
variable {H:Type}
mutual
/-- What a reading says, as data. -/
def dwD:DataW H->D
 | .lit (.bool b)=> .bool b
 | .lit (.int k n)=> .int k n
 | .lit (.string s)=> .str s
 | .agg l=> .agg (b1v l)
 | .slice l _=> .sl (dwL l)
 |_=> .sl []
def dwL:List (DataW H)->List D
 |[]=>[]
 |x::r=>dwD x::dwL r
def b1v:List (DataW H)->List D
 |[]=>[]
 |x::r=>(dwD x).cells++b1v r
end
theorem g2a:∀ l:List (DataW H),dwL l=l.map dwD
 |[]=>rfl
 |x::r=>by simp[dwL,g2a r]
theorem c3n:∀ l:List (DataW H),b1v l=(l.map dwD).flatMap D.cells
 |[]=>rfl
 |x::r=>by simp[b1v,c3n r]
end
def b3w (P:Program):Nat->TypeId->Bool
 |0,_=>false
 |m+1,t=>match P.underlying t with
  |some .bool|some (.int _)|some .string=>P.cellsOf t==1
  |some (.slice e)=>P.cellsOf t==1 && decide (0 < P.cellsOf e) && b3w P m e
  |some (.struct fs)=>d7o P (P.cellsOf t) 0 fs.toList && fs.toList.all fun f=>b3w P m f.type
  |some (.array n e)=>P.cellsOf t==n*P.cellsOf e && b3w P m e
  |_=>false
def d3o (P:Program):Nat->TypeId->D->Prop
 |0,_,_=>False
 |m+1,t,x=>match P.underlying t with
  |some .bool=> ∃ b,x= .bool b
  |some (.int k)=> ∃ n,x= .int k n/\(Lit.int k n).wf=true
  |some .string=> ∃ s,x= .str s/\s.length<=maxLen
  |some (.slice e)=> ∃ l,x= .sl l/\l.length<=maxLen/\∀ y∈l,d3o P m e y
  |some (.struct fs)=> ∃ xs:List D,x= .agg (xs.flatMap D.cells)/\xs.length=fs.toList.length/\∀ (i:Nat) (f:Field) (y:D),fs.toList[i]? =some f->xs[i]? =some y->d3o P m f.type y
  |some (.array n e)=> ∃ xs:List D,x= .agg (xs.flatMap D.cells)/\xs.length=n/\∀ y∈xs,d3o P m e y
  |_=>False
theorem b5d {C:Nat->List Value}:∀ {l l':List D} {vs vs':List Value},a1n C l vs->a1n C l' vs'->a1n C (l++l') (vs++vs')
 |[],l',vs,vs',r,r'=>by simp only[a1n]at r;subst r;exact r'
 |d::ds,l',vs,vs',r,r'=>by
  simp only[a1n]at r
  obtain⟨y,ys,rfl,h1,h2,h3⟩:=r
  simp only[List.cons_append,a1n]
  exact⟨y,ys++vs',by simp,h1,h2,b5d h3 r'⟩
section
variable {H:Type} {enc:TypeId×Value->H} {P:Program} {w:World} {base:Nat} {spare:Nat->Bool} {held:Bool} {fuel:Nat}
theorem e4e {total m:Nat} (rec_:∀ t cs x,b3w P m t=true->DataW.trod enc P w base spare held fuel t cs=some x->d3o P m t (dwD x.1)/\a0p (contents w) (dwD x.1) cs):∀ (fs:List Field) (n:Nat) (cs:List Value) (xs:List (DataW H×List MemPlace)),d7o P total n fs=true->cs.length=total->
 (fs.all fun f=>b3w P m f.type)=true->(fs.mapM fun f=>DataW.trod enc P w base spare held fuel f.type ((cs.drop f.offset).take (P.cellsOf f.type)))=some xs->
 a1n (contents w) (b1v (xs.map (·.1))) (cs.drop n)/\xs.length=fs.length/\∀ (i:Nat) (f:Field) (y:D),fs[i]? =some f->(xs.map fun x=>dwD x.1)[i]? =some y->d3o P m f.type y
 |[],n,cs,xs,ho,hl,_,hx=>by
  simp only[d7o,beq_iff_eq]at ho
  simp only[List.mapM_nil,Option.pure_def,Option.some.injEq]at hx
  subst hx
  refine⟨?_,rfl,fun i f y h=>by simp at h⟩
  rw[List.drop_eq_nil_of_le om]
  simp[a1n,b1v]
 |f::fs,n,cs,xs,ho,hl,hp,hx=>by
  simp only[d7o,Bool.and_eq_true,beq_iff_eq]at ho
  simp only[List.all_cons,Bool.and_eq_true]at hp
  simp only[List.mapM_cons,Option.bind_eq_bind,Option.bind_eq_some_iff,Option.pure_def,Option.some.injEq]at hx
  obtain⟨x,hx1,xs',hx2,rfl⟩:=hx
  rw[ho.1]at hx1
  obtain⟨h1,h2⟩:=rec_ f.type _ x hp.1 hx1
  obtain⟨h3,h4,h5⟩:=e4e rec_ fs (n+P.cellsOf f.type) cs xs' ho.2 hl hp.2 hx2
  refine⟨?_,by simp[h4],fun i f' y hf hy=>?_⟩
  ·simp only[List.map_cons,b1v]
   have:=b5d (b8v h2) h3
   rw[<-List.drop_drop,List.take_append_drop]at this
   exact this
  ·cases i with
   |zero=>
    simp only[List.getElem?_cons_zero,Option.some.injEq,List.map_cons]at hf hy
    subst hf;subst hy
    exact h1
   |succ i=>exact h5 i f' y (by simpa using hf) (by simpa using hy)
theorem h5v {m sz:Nat} {e:TypeId} (rec_:∀ cs x,DataW.trod enc P w base spare held fuel e cs=some x->d3o P m e (dwD x.1)/\a0p (contents w) (dwD x.1) cs):∀ (len k:Nat) (cs:List Value) (xs:List (DataW H×List MemPlace)),cs.length=(k+len) *sz->
 ((List.range' k len).mapM fun i=>DataW.trod enc P w base spare held fuel e ((cs.drop (i*sz)).take sz))=some xs->
 a1n (contents w) (b1v (xs.map (·.1))) (cs.drop (k*sz))/\xs.length=len/\∀ y∈xs.map fun x=>dwD x.1,d3o P m e y
 |0,k,cs,xs,hl,h=>by
  simp only[List.range'_zero,List.mapM_nil,Option.pure_def,Option.some.injEq]at h
  subst h
  refine⟨?_,rfl,by simp⟩
  rw[List.drop_eq_nil_of_le (by rw[hl];simp)]
  simp[a1n,b1v]
 |len+1,k,cs,xs,hl,h=>by
  simp only[List.range'_succ,List.mapM_cons,Option.bind_eq_bind,Option.bind_eq_some_iff,Option.pure_def,Option.some.injEq]at h
  obtain⟨x,hx,xs',hxs,rfl⟩:=h
  obtain⟨h1,h2⟩:=rec_ _ x hx
  obtain⟨h3,h4,h5⟩:=h5v rec_ len (k+1) cs xs' (by rw[hl];congr 1;omega) hxs
  refine⟨?_,by simp[h4],fun y hy=>?_⟩
  ·simp only[List.map_cons,b1v]
   have:=b5d (b8v h2) h3
   rw[Nat.add_mul,Nat.one_mul,<-List.drop_drop,List.take_append_drop]at this
   exact this
  ·simp only[List.map_cons,List.mem_cons]at hy
   rcases hy with rfl|hy
   ·exact h1
   ·exact h5 y hy
theorem mapM_some_get {α β:Type} {F:α->Option β}:∀ {l:List α} {r:List β},l.mapM F=some r->r.length=l.length/\∀ (i:Nat) (x:α),l[i]? =some x->∃ y,F x=some y/\r[i]? =some y
 |[],r,h=>by
  simp only[List.mapM_nil,Option.pure_def,Option.some.injEq]at h
  subst h
  exact⟨rfl,fun i x h=>by simp at h⟩
 |a::l,r,h=>by
  simp only[List.mapM_cons,Option.bind_eq_bind,Option.bind_eq_some_iff,Option.pure_def,Option.some.injEq]at h
  obtain⟨y,hy,ys,hys,rfl⟩:=h
  obtain⟨h1,h2⟩:=mapM_some_get hys
  refine⟨by simp[h1],fun i x hx=>?_⟩
  cases i with
  |zero=>simp only[List.getElem?_cons_zero,Option.some.injEq]at hx;subst hx;exact⟨y,hy,rfl⟩
  |succ i=>exact h2 i x (by simpa using hx)
theorem e5s {a:Addr} {n:Nat} {cs:List Value} (h:w.cells? base a n=some cs):cs.length=n/\(0 < n->a.spot=none)/\cs <+:(contents w a.block).drop a.off:=by
 unfold World.cells? at h
 split at h
 ·obtain⟨h1,h2⟩:=mapM_some_get h
  have hl:cs.length=n:=by simpa using h1
  have hc:∀ i,i < n->∃ y,w.cell? (a.add i)=some y/\cs[i]? =some y:=fun i hi=>h2 i i (by simp[hi])
  refine⟨hl,fun hn=>?_,?_⟩
  ·obtain⟨y,hy,_⟩:=hc 0 hn
   exact World.cell?_spot (by simpa [Addr.add] using hy)
  ·rw[List.prefix_iff_eq_take]
   apply List.ext_getElem?
   intro i
   by_cases hi:i < n
   ·obtain⟨y,hy,hcy⟩:=hc i hi
    rw[hcy,List.getElem?_take,if_pos om,List.getElem?_drop]
    have hy':w.cell? ⟨a.block,a.off+i,none⟩=some y:=by
     by_cases h0:i=0
     ·subst h0
      have hs:=World.cell?_spot hy
      simp only[Addr.add,if_true]at hy hs
      obtain⟨b,o,sp⟩:=a
      simp only at hs
      subst hs
      simpa using hy
     ·simpa [Addr.add,h0] using hy
    exact(d2e hy').symm
   ·rw[List.getElem?_eq_none om,List.getElem?_eq_none (by rw[List.length_take];omega)]
 ·cases h
theorem h1u {m sz:Nat} {e:TypeId} {a:Addr} (hs:0 < sz) (rec_:∀ cs x,DataW.trod enc P w base spare held fuel e cs=some x->d3o P m e (dwD x.1)/\a0p (contents w) (dwD x.1) cs):∀ (len k:Nat) (xs:List (DataW H×List MemPlace)),
 ((List.range' k len).mapM fun i=>(w.cells? base (a.add (i*sz)) sz).bind (DataW.trod enc P w base spare held fuel e))=some xs->
 ∃ us:List Value,xs.length=len/\us <+:(contents w a.block).drop (a.off+k*sz)/\a2a (contents w) sz (xs.map fun x=>dwD x.1) us/\(∀ y∈xs.map fun x=>dwD x.1,d3o P m e y)/\(0 < len->k=0->a.spot=none)
 |0,k,xs,h=>by
  simp only[List.range'_zero,List.mapM_nil,Option.pure_def,Option.some.injEq]at h
  subst h
  exact⟨[],rfl,List.nil_prefix,by simp[a2a],by simp,om⟩
 |len+1,k,xs,h=>by
  simp only[List.range'_succ,List.mapM_cons,Option.bind_eq_bind,Option.bind_eq_some_iff,Option.pure_def,Option.some.injEq]at h
  obtain⟨x,⟨cs,hc,hx⟩,xs',hxs,rfl⟩:=h
  obtain⟨us,h1,h2,h3,h4,_⟩:=h1u hs rec_ len (k+1) xs' hxs
  obtain⟨d1,d2⟩:=rec_ cs x hx
  obtain⟨c1,c2,c3⟩:=e5s hc
  have hblk:(a.add (k*sz)).block=a.block:=by unfold Addr.add;split<;>rfl
  have hoff:(a.add (k*sz)).off=a.off+k*sz:=by unfold Addr.add;split<;>simp_all
  rw[hblk,hoff]at c3
  refine⟨cs++us,by simp[h1],?_,by simp only[List.map_cons,a2a];exact⟨cs,us,rfl,c1,d2,h3⟩,fun y hy=>?_,fun _ hk=>?_⟩
  ·obtain⟨t,ht⟩:=c3
   rw[Nat.add_mul,Nat.one_mul,<-Nat.add_assoc,<-List.drop_drop,<-ht,<-c1,List.drop_left]at h2
   obtain⟨t',rfl⟩:=h2
   exact⟨t',by rw[<-ht];simp⟩
  ·simp only[List.map_cons]at hy
   cases hy with
   |head=>exact d1
   |tail _ hm=>exact h4 y hm
  ·subst hk
   have:=c2 hs
   simpa [Addr.add] using this
theorem h1s:∀ (fuel m:Nat) (t:TypeId) (cs:List Value) (x:DataW H×List MemPlace),b3w P m t=true->DataW.trod enc P w base spare held fuel t cs=some x->d3o P m t (dwD x.1)/\a0p (contents w) (dwD x.1) cs:=by
 intro fuel
 induction fuel with
 |zero=>intro m t cs x _ h;simp[DataW.trod]at h
 |succ fuel ih=>
  intro m t cs x hp h
  cases m with
  |zero=>simp[b3w]at hp
  |succ m=>
   simp only[b3w]at hp
   simp only[d3o]
   have h':=h
   unfold DataW.trod at h'
   cases hu:P.underlying t with
   |none=>rw[hu]at hp;cases hp
   |some u=>
    rw[hu]at hp h'
    cases u with
    |bool=>
     split at h'<;>first|(rename_i q;cases q;done)|skip
     ·rename_i b _
      cases h'
      exact⟨⟨b,rfl⟩,by simp[a0p,dwD]⟩
     ·cases h'
    |int k=>
     obtain⟨n,rfl,rfl,hw⟩:=DataW.trod_int hu h
     exact⟨⟨n,rfl,hw⟩,by simp[a0p,dwD]⟩
    |string=>
     split at h'<;>first|(rename_i q;cases q;done)|skip
     ·rename_i s _
      split at h'
      ·rename_i hs
       cases h'
       exact⟨⟨s.data.toList,rfl,by simpa using hs⟩,by simp[a0p,dwD]⟩
      ·cases h'
     ·cases h'
    |slice e=>
     simp only[Bool.and_eq_true,decide_eq_true_eq]at hp
     split at h'<;>first|(rename_i q;cases q;done)|skip
     ·cases h'
      exact⟨⟨[],rfl,by simp,by simp⟩,by simp[a0p,dwD]⟩
     ·rename_i e' a len cap q
      cases q
      simp only at h'
      split at h'
      case isFalse=>cases h'
      rename_i hb
      obtain⟨hb,hlc,hcm⟩:=hb
      obtain⟨xs,hxs,hrest⟩:=Option.bind_eq_some_iff.1 h'
      obtain⟨rest,_,rfl⟩:=Option.map_eq_some_iff.1 hrest
      rw[List.range_eq_range']at hxs
      obtain⟨us,h1,h2,h3,h4,h5⟩:=h1u (m:=m) (sz:=P.cellsOf e) (e:=e) (a:=a) hp.1.2 (fun cs x hx=>ih m e cs x hp.2 hx) len 0 xs hxs
      have hd:dwD (DataW.slice (xs.map (·.1)) (rest.map (·.1)))= .sl (xs.map fun x=>dwD x.1):=by simp[dwD,g2a,Function.comp_def]
      rw[hd]
      refine⟨⟨_,rfl,by simp[h1];omega,h4⟩,?_⟩
      simp only[a0p]
      refine⟨some a,cap,by simp[h1],by simp[h1];omega,?_⟩
      by_cases hl0:len=0
      ·left
       exact List.length_eq_zero_iff.1 (by simp[h1];omega)
      ·right
       have hs:=h5 om rfl
       obtain⟨b,o,sp⟩:=a
       simp only at hs
       subst hs
       exact⟨b,o,_,us,rfl,hp.1.2,by simpa using h2,h3⟩
     ·cases h'
    |struct fs=>
     simp only[Bool.and_eq_true]at hp
     have hstr:(if cs.length=P.cellsOf t then(fs.toList.mapM fun f=>DataW.trod enc P w base spare held fuel f.type ((cs.drop f.offset).take (P.cellsOf f.type))).map fun xs=>(DataW.agg (xs.map (·.1)),xs.flatMap (·.2)) else none)=some x:=h'
     split at hstr
     ·rename_i hl
      obtain⟨xs,hxs,rfl⟩:=Option.map_eq_some_iff.1 hstr
      obtain⟨d1,d2,d3⟩:=e4e (m:=m) (fun t cs x hp hx=>ih m t cs x hp hx) fs.toList 0 cs xs hp.1 hl hp.2 hxs
      have hd:dwD (DataW.agg (xs.map (·.1)))= .agg ((xs.map fun x=>dwD x.1).flatMap D.cells):=by simp[dwD,c3n,Function.comp_def]
      refine⟨⟨xs.map fun x=>dwD x.1,hd,by simp[d2],d3⟩,?_⟩
      simp only[dwD,a0p]
      simpa using d1
     ·cases hstr
    |array n e=>
     simp only[Bool.and_eq_true,beq_iff_eq]at hp
     have harr:(if cs.length=P.cellsOf t then((List.range n).mapM fun i=>DataW.trod enc P w base spare held fuel e ((cs.drop (i*P.cellsOf e)).take (P.cellsOf e))).map fun xs=>(DataW.agg (xs.map (·.1)),xs.flatMap (·.2)) else none)=some x:=h'
     split at harr
     ·rename_i hl
      obtain⟨xs,hxs,rfl⟩:=Option.map_eq_some_iff.1 harr
      rw[List.range_eq_range']at hxs
      obtain⟨d1,d2,d3⟩:=h5v (m:=m) (sz:=P.cellsOf e) (e:=e) (fun cs x hx=>ih m e cs x hp.2 hx) n 0 cs xs (by rw[hl,hp.1];simp) hxs
      have hd:dwD (DataW.agg (xs.map (·.1)))= .agg ((xs.map fun x=>dwD x.1).flatMap D.cells):=by simp[dwD,c3n,Function.comp_def]
      refine⟨⟨xs.map fun x=>dwD x.1,hd,by simp[d2],d3⟩,?_⟩
      simp only[dwD,a0p]
      simpa using d1
     ·cases harr
    |_=>cases hp
theorem i5b {m:Nat} {t:TypeId} {v:Value} {d:DataW H} {ps:List MemPlace} {r:Reach} {b0:Nat} (hp:b3w P m t=true) (hval:Value.okWide P w r b0 t v) (h:DataW.Trod enc P w base spare held t v d ps):d3o P m t (dwD d)/\a3d (contents w) (dwD d) v:=by
 obtain⟨fuel,hf⟩:=h
 obtain⟨h1,h2⟩:=h1s fuel m t _ _ hp hf
 simp only at h1 h2
 refine⟨h1,?_⟩
 cases m with
 |zero=>simp[b3w]at hp
 |succ m=>
  simp only[d3o]at h1
  split at h1
  ·rename_i hu
   obtain⟨b,hb⟩:=h1
   rw[hb]at h2⊢
   obtain⟨b',rfl⟩:=okWide_bool hu hval
   simpa [Value.cells,a3d] using h2
  ·rename_i k hu
   obtain⟨n,hb,_⟩:=h1
   rw[hb]at h2⊢
   obtain⟨n',rfl⟩:=okWide_int hu hval
   simpa [Value.cells,a3d] using h2
  ·rename_i hu
   obtain⟨s,hb,_⟩:=h1
   rw[hb]at h2⊢
   obtain⟨s',rfl⟩:=okWide_string hu hval
   simpa [Value.cells,a3d] using h2
  ·rename_i e hu
   obtain⟨l,hb,_⟩:=h1
   rw[hb]at h2⊢
   obtain⟨a,len,cap,rfl⟩:=okWide_slice hu hval
   simpa [Value.cells,a3d] using h2
  ·rename_i fs hu
   obtain⟨xs,hb,_⟩:=h1
   rw[hb]at h2⊢
   obtain⟨cs,rfl,_⟩:=okWide_struct hu hval
   exact⟨cs,rfl,by simpa [a0p,Value.cells] using h2⟩
  ·rename_i n e hu
   obtain⟨xs,hb,_⟩:=h1
   rw[hb]at h2⊢
   have hval':=hval
   simp only[Value.okWide,hu]at hval'
   obtain⟨cs,rfl,_⟩:=hval'
   exact⟨cs,rfl,by simpa [a0p,Value.cells] using h2⟩
  ·exact h1.elim
theorem g2h {m:Nat} {base0:Nat} {r:Reach}:∀ {ts:List TypeId} {vs:List Value} {ds:List (DataW H)} {ps:List MemPlace},DataW.TrodAll enc P w base spare held ts vs ds ps->(∀ t∈ts,b3w P m t=true)->(∀ (j:Nat) t v,ts[j]? =some t->vs[j]? =some v->Value.okWide P w r base0 t v)->
 a0w (gh0 w) [] ((ds.map dwD).map V.d) vs/\ds.length=ts.length/\∀ (i:Nat) t x,ts[i]? =some t->ds[i]? =some x->d3o P m t (dwD x)
 |[],vs,ds,ps,h,_,_=>by
  obtain⟨rfl,rfl,rfl⟩:=trodAll_nil h
  exact⟨by simp[a0w],rfl,fun i t x h=>by simp at h⟩
 |t::ts,vs,ds,ps,h,hp,hv=>by
  obtain⟨v,vs1,d,ds1,a,b,rfl,rfl,rfl,h1,h2⟩:=trodAll_cons h
  obtain⟨x1,x2⟩:=i5b (hp t (by simp)) (hv 0 t v rfl rfl) h1
  obtain⟨y1,y2,y3⟩:=g2h h2 (fun t ht=>hp t (by simp[ht])) fun j t v ht hv'=>hv (j+1) t v (by simpa using ht) (by simpa using hv')
  refine⟨by simp only[List.map_cons,a0w,Rep];exact⟨v,vs1,rfl,x2,by simpa using y1⟩,by simp[y2],fun i t' x' ht hx=>?_⟩
  cases i with
  |zero=>
   simp only[List.getElem?_cons_zero,Option.some.injEq]at ht hx
   subst ht;subst hx
   exact x1
  |succ i=>exact y3 i t' x' (by simpa using ht) (by simpa using hx)
theorem c0u {W W':World} (hl:laidOutB P=true) (hb:Below W.heap.size W W'):∀ {ts:List TypeId} {vs:List Value} {ds:List (DataW H)} {ps:List MemPlace},(∀ t∈ts,P.readableRec t=true/\t < P.types.size)->DataW.TrodAll enc P W 0 (fun _=>true) true ts vs ds ps->(∀ x∈ps,x.block < W.heap.size)->
    DataW.TrodAll enc P W' 0 (fun b=>decide (b < W.heap.size)) true ts vs ds ps
  |[],vs,ds,ps,_,h,_=>by
   obtain⟨rfl,rfl,rfl⟩:=trodAll_nil h
   simp[DataW.TrodAll]
  |t::ts,vs,ds,ps,hr,h,hlt=>by
   obtain⟨v,vs1,d,ds1,a,b,rfl,rfl,rfl,h1,h2⟩:=trodAll_cons h
   exact⟨a,b,Below.trod hl (hr t (by simp)).1 (hr t (by simp)).2 h1 hb fun x hx=>hlt x (by simp[hx]),c0u hl hb (fun t ht=>hr t (by simp[ht])) h2 fun x hx=>hlt x (by simp[hx]),rfl⟩
theorem f4p {fn:Func} {s:ChangeSpec} {apart:Bool} {W W':World} {args:Array Value} {ds gs:List (DataW H)} {before:List MemPlace} {tb:TypeId} (hl:laidOutB P=true) (hb:Below W.heap.size W W')
 (hs:s.vars=[]) (hfn:∀ ds:List (DataW H),ds.length=fn.params.size->s.fn H ds={results:=[.lit (.bool true)],args:=ds })
 (hr:∀ t∈fn.params.toList,P.readableRec t=true/\t < P.types.size) (hres:fn.resultTypes= #[tb]) (htb:P.underlying tb=some .bool)
 (hW:DataW.Whole enc P fn.params.toList s.vars apart W args.toList ds gs before):
 s.post enc P fn apart true false false W args (.bool true) W':=by
 have hlt:=hW.lt
 have hW':=hW
 obtain⟨p,q,hA,hV,rfl,_,_⟩:=hW
 rw[hs]at hV
 obtain⟨rfl,rfl⟩:=trodVars_none hV
 have hlen:∀ {ts:List TypeId} {vs:List Value} {ds:List (DataW H)} {ps:List MemPlace},DataW.TrodAll enc P W 0 (fun _=>true) true ts vs ds ps->ds.length=ts.length:=by
   intro ts
   induction ts with
   |nil=>intro vs ds ps h;obtain⟨_,rfl,_⟩:=trodAll_nil h;rfl
   |cons t ts ih=>intro vs ds ps h;obtain⟨_,_,_,_,_,_,_,rfl,_,_,h2⟩:=trodAll_cons h;simp[ih h2]
 have e:=hfn ds (by rw[hlen hA];simp)
 refine⟨ds,[],p++[],[],p,[],hW',?_,?_,?_,hb.frame _,fun h=>by cases h⟩
 ·rw[List.append_nil,e,hres]
  exact trodAll_mk1 (shut_bool htb true)
 ·rw[List.append_nil,e]
  exact c0u hl hb hr hA fun x hx=>hlt x (by simp[hx])
 ·rw[List.append_nil,e,hs]
  rfl
end
end Go.Vm
namespace Go.Vm
open Go.ChangeShapes Go.WideShapes Go.ChangeAt Go.RowKit
section
variable {H:Type} {enc:TypeId×Value->H} {P:Program}
def i4s (l:List (Nat×List D)) (i:Nat):List D:=((l.find? (·.1==i)).map (·.2)).getD []
def c5h (w:World) (l:List Nat) (i:Nat):Option Obj:=if i∈l then w.heap[i]? else none
theorem f8v (w:World) (l:List Nat) (i:Nat) (o:Obj) (h:c5h w l i=some o):w.heap[i]? =some o:=by
 unfold c5h at h;split at h
 ·exact h
 ·cases h
theorem f0r {w:World} (l:List (Nat×List D)) {fx:Nat->Option Obj} (hfx:∀ i o,fx i=some o->w.heap[i]? =some o) (h:∀ p∈l,∃ vs,vs <+:contents w p.1/\a1n (contents w) p.2 vs):d6y ⟨i4s l,fx⟩ w:=by
 refine⟨fun i=>?_,hfx⟩
 show ∃ vs,vs <+:contents w i/\a1n (contents w) (i4s l i) vs
 unfold i4s
 cases hf:l.find? (·.1==i)with
 |none=>exact⟨[],List.nil_prefix,by simp[a1n]⟩
 |some p=>
  have hm:=List.mem_of_find?_eq_some hf
  have he:=List.find?_some hf
  simp only[beq_iff_eq]at he
  subst he
  exact h p hm
theorem d6t {pg:Pg} (hT:a3i P pg) (hmx:P.follows .mixedOrders=true) {f:Nat} {fn:Func} {s:ChangeSpec} {apart:Bool} {W:World} {base m:Nat} {args:Array Value} {ds gs:List (DataW H)} {before:List MemPlace} {tb:TypeId} (hl:laidOutB P=true)
 (hs:s.vars=[]) (hfn:∀ ds:List (DataW H),ds.length=fn.params.size->s.fn H ds={results:=[.lit (.bool true)],args:=ds })
 (hr:∀ t∈fn.params.toList,(P.readableRec t=true/\t < P.types.size)/\b3w P m t=true) (hres:fn.resultTypes= #[tb]) (htb:P.underlying tb=some .bool)
 (hval:∀ (j:Nat) t v,fn.params[j]? =some t->args[j]? =some v->Value.okWide P W .any base t v)
 (hW:DataW.Whole enc P fn.params.toList s.vars apart W args.toList ds gs before) (hg:d6y pg.toCx W)
 (hkey:ds.length=fn.params.size->(∀ (i:Nat) t x,fn.params[i]? =some t->ds[i]? =some x->d3o P m t (dwD x))->∃ H',evF pg f ((ds.map dwD).map V.d) []=some (.d (.bool true),H')):
 Calls P f args W fun e W'=> ∃ v,e= .returned v/\s.post enc P fn apart true false false W args v W':=by
 have hW':=hW
 obtain⟨p,q,hA,_⟩:=hW
 obtain⟨h1,h2,h3⟩:=g2h (m:=m) hA (fun t ht=>(hr t ht).2) (fun j t v ht hv=>hval j t v (by simpa using ht) (by simpa using hv))
 obtain⟨H',hev⟩:=hkey (by simpa using h2) fun i t x ht hx=>h3 i t x (by simpa using ht) hx
 refine(front hT hmx hg h1 hev).mono fun e W' he=>?_
 exact⟨_,he.1,f4p hl he.2 hs hfn (fun t ht=>(hr t ht).1) hres htb hW'⟩
end
end Go.Vm
namespace Go.Vm
open Go.RowKit
section
variable {P:Program} {cx:Cx} {g:Gh} {H:Hp} {w w':World}
theorem Inv.below (hI:Inv cx g H w) (h:Below w.heap.size w w'):Inv cx g H w'/\Ext H.length g H w g H w':=by
 have hk:Keep H.length g H g H:=Keep.refl _ _ _
 refine⟨⟨hI.inj,fun i b c hj=>⟨(hI.dom i b c hj).1,Nat.lt_of_lt_of_le (hI.dom i b c hj).2 h.size⟩,fun i b c o hj ho=>?_,fun b hb=>?_,hI.und,hI.glob,hI.fix.mono fun b hb hn=>⟨h.block b hb,hn⟩⟩,⟨h.os,h.tape,h.output,h.size,fun b hb _=>⟨h.block b hb,rfl⟩,hk,fun i b c hj _=>⟨i,c,hj⟩,fun _ _ h=>h,Nat.le_refl _⟩⟩
 ·have hd:=hI.dom i b c hj
  exact(hI.ob i b c o hj ho).ext hk.w (h.block b hd.2) rfl (by rintro c' rfl;exact hI.und i c' hd.1 ho)
 ·obtain⟨cur,e,fz,h1,h2⟩:=hI.imm b hb
  exact⟨cur,e,fz,by rw[h.block b (Array.getElem?_eq_some_iff.1 h1).1];exact h1,h2⟩
theorem f4c {f:Nat} {args:List V} {r:D} (hfn:∃ fn,P.funcs[f]? =some fn/\fn.body.isNone=false/\(fn.name== "runtime.NumGoroutine")=false)
 (hc:∀ g w (cargs:Array Value),Inv cx g H w->a0w g H args cargs.toList->Calls P f cargs w fun e w'=> ∃ x,e= .returned x/\a3d g.C r x/\Below w.heap.size w w'):a1z P cx f args H (.d r) H:=by
 refine⟨hfn,fun g w cargs hI ra ua=>(hc g w cargs hI ra).mono fun e w' he=>?_⟩
 obtain⟨x,h1,h2,h3⟩:=he
 obtain⟨k1,k2⟩:=hI.below h3
 exact⟨g,x,h1,k1,by simpa only[Rep] using h2,rfl,k2⟩
theorem h1e (hI:Inv cx g H w) {n:String} {i:Nat} (hg:P.globalNamed n=some i) {cs:Array Value} {t:TypeId} {fz:Nat×Nat} (hf:cx.fx i=some (.cells cs t fz)):w.var? P n=some cs:=by
 unfold World.var?
 rw[hg]
 simp only[Option.bind_some,(hI.fix i _ hf).1]
theorem c5y {s:List UInt8} {r:List V} {vs:List Value} (h:a0w g H (.d (.str s)::r) vs):∃ ys,vs= .string ⟨s.toArray⟩::ys/\a0w g H r ys:=by
 simp only[a0w]at h
 obtain⟨y,ys,rfl,h1,h2⟩:=h
 simp only[Rep,a3d,a0p,List.cons.injEq,and_true]at h1
 exact⟨ys,by rw[h1],h2⟩
theorem d2h {k:IntKind} {n:Int} {r:List V} {vs:List Value} (h:a0w g H (.d (.int k n)::r) vs):∃ ys,vs= .int k n::ys/\a0w g H r ys:=by
 simp only[a0w]at h
 obtain⟨y,ys,rfl,h1,h2⟩:=h
 simp only[Rep,a3d,a0p,List.cons.injEq,and_true]at h1
 exact⟨ys,by rw[h1],h2⟩
theorem c5v {vs:List Value} (h:a0w g H [] vs):vs=[]:=by simpa only[a0w] using h
end
end Go.Vm
namespace Go.Vm
open Go.RowKit
section
variable {P:Program} {cx:Cx}
def d0k (P:Program) (f:Nat):Prop:=∃ fn,P.funcs[f]? =some fn/\fn.body.isNone=false/\(fn.name== "runtime.NumGoroutine")=false
def TabAt (P:Program) (cx:Cx) (name:String) (k:IntKind) (zs:List Int):Prop:=∃ i t fz,P.globalNamed name=some i/\cx.fx i=some (.cells (zs.map fun z=>Value.int k z).toArray t fz)
theorem TabAt.is {name:String} {k:IntKind} {zs:List Int} (h:TabAt P cx name k zs) {g:Gh} {H:Hp} {w:World} (hI:Inv cx g H w):Lib.TabIs P w name k zs:=by
 obtain⟨i,t,fz,h1,h2⟩:=h
 exact h1e hI h1 h2
end
end Go.Vm
namespace Go.Vm
open Go.RowKit
def a6s:List V->Hp->Option (V×Hp)
 |[.d (.str s),.d (.int .u8 c)],H=>some (.d (.int .i64 (Lib.indexByte s c.toNat.toUInt8)),H)
 |_,_=>none
def b6o:List V->Hp->Option (V×Hp)
 |[.d (.str s),.d (.int .i64 b),.d (.int .i64 n)],H=>if(b=10/\n=64)/\s.length<=281474976710656 then
    (match Lib.parseUintB 64 s with
      | .ok u=>some (.tup [.d (.int .u64 u),.ifc true],H)
      | .range=>some (.tup [.d (.int .u64 18446744073709551615),.ifc false],H)
      |_=>some (.tup [.d (.int .u64 0),.ifc false],H)) else none
 |_,_=>none
def c1w (s:ByteArray):Nat->Nat->Int
 |0,_=> -1
 |f+1,pos=>if pos < s.size then(if Utf8.decode s pos=(65533,1) then(pos:Int) else c1w s f (pos+(Utf8.decode s pos).2)) else -1
def c8c:List V->Hp->Option (V×Hp)
 |[.d (.str s)],H=>some (.d (.int .i64 (c1w ⟨s.toArray⟩ s.length 0)),H)
 |_,_=>none
def d9i (s:ByteArray):Nat×Nat:=if s.size=0 then(65533,0) else Utf8.decode s 0
def b3b:List V->Hp->Option (V×Hp)
 |[.d (.str s)],H=>some (.tup [.d (.int .i32 (d9i ⟨s.toArray⟩).1),.d (.int .i64 (d9i ⟨s.toArray⟩).2)],H)
 |_,_=>none
section
variable {P:Program} {cx:Cx}
theorem c5p {f:Nat} {args:List V} {H:Hp} {r:V} (hu:∀ n,r.und n=true) (hfn:d0k P f)
 (hc:∀ g w (cargs:Array Value),Inv cx g H w->a0w g H args cargs.toList->Calls P f cargs w fun e w'=> ∃ x,e= .returned x/\Rep g H r x/\Below w.heap.size w w'):a1z P cx f args H r H:=by
 refine⟨hfn,fun g w cargs hI ra ua=>(hc g w cargs hI ra).mono fun e w' he=>?_⟩
 obtain⟨x,h1,h2,h3⟩:=he
 obtain⟨k1,k2⟩:=hI.below h3
 exact⟨g,x,h1,k1,h2,hu _,k2⟩
theorem c9n {f:Nat} (hf:d0k P f)
 (hc:∀ (s:ByteArray) (c:Int) (w:World),Calls P f #[.string s,.int .u8 c] w fun e w'=>e= .returned (.int .i64 (Lib.indexByte s.data.toList c.toNat.toUInt8))/\w'=w):
 ∀ args H r H',a6s args H=some (r,H')->a1z P cx f args H r H':=by
 intro args H r H' h
 unfold a6s at h
 split at h
 ·rename_i H0 s c
  cases h
  refine f4c hf fun g w cargs hI ra=>?_
  obtain⟨ys,e1,r1⟩:=c5y ra
  obtain⟨zs,e2,r2⟩:=d2h r1
  rw[c5v r2]at e2
  rw[e2]at e1
  have:cargs= #[.string ⟨s.toArray⟩,.int .u8 c]:=by apply Array.toList_inj.1;exact e1
  subst this
  refine(hc ⟨s.toArray⟩ c w).mono fun e w' he=>?_
  obtain⟨e2,rfl⟩:=he
  exact⟨_,e2,by simp only[a3d,a0p],Below.refl _ _⟩
 ·cases h
theorem f7l {f:Nat} (hf:d0k P f) {T:World->Prop} (hT:∀ g H w,Inv cx g H w->T w)
 (hc:∀ (s:ByteArray) (w:World),T w->Calls P f #[.string s] w fun e w'=>e= .returned (.int .i64 (c1w s s.size 0))/\Below w.heap.size w w'):
 ∀ args H r H',c8c args H=some (r,H')->a1z P cx f args H r H':=by
 intro args H r H' h
 unfold c8c at h
 split at h
 ·rename_i H0 s
  cases h
  refine f4c hf fun g w cargs hI ra=>?_
  obtain⟨ys,e1,r1⟩:=c5y ra
  rw[c5v r1]at e1
  have:cargs= #[.string ⟨s.toArray⟩]:=by apply Array.toList_inj.1;exact e1
  subst this
  refine(hc ⟨s.toArray⟩ w (hT g H w hI)).mono fun e w' he=>?_
  obtain⟨e2,e3⟩:=he
  have e4:(⟨s.toArray⟩:ByteArray).size=s.length:=by simp[ByteArray.size]
  rw[e4]at e2
  exact⟨_,e2,by simp only[a3d,a0p],e3⟩
 ·cases h
theorem d8s {f:Nat} (hf:d0k P f) {T:World->Prop} (hT:∀ g H w,Inv cx g H w->T w)
 (hc:∀ (s:ByteArray) (w:World),T w->Calls P f #[.string s] w fun e w'=>e= .returned (.tuple #[.int .i32 (d9i s).1,.int .i64 (d9i s).2])/\Below w.heap.size w w'):
 ∀ args H r H',b3b args H=some (r,H')->a1z P cx f args H r H':=by
 intro args H r H' h
 unfold b3b at h
 split at h
 ·rename_i H0 s
  cases h
  refine c5p (fun _=>rfl) hf fun g w cargs hI ra=>?_
  obtain⟨ys,e1,r1⟩:=c5y ra
  rw[c5v r1]at e1
  have:cargs= #[.string ⟨s.toArray⟩]:=by apply Array.toList_inj.1;exact e1
  subst this
  refine(hc ⟨s.toArray⟩ w (hT g H w hI)).mono fun e w' he=>?_
  refine⟨_,he.1,?_,he.2⟩
  simp only[Rep,a0w]
  exact⟨_,rfl,_,_,rfl,by simp only[a3d,a0p],_,_,rfl,by simp only[a3d,a0p],rfl⟩
 ·cases h
def e0u (cx:Cx) (i:Nat):Prop:=∃ ev t fz,cx.fx i=some (.cells #[ev] t fz)/\(ev= .nilIface\/∃ te pe,ev= .iface te pe)
theorem e0u.cell {i:Nat} (h:e0u cx i) {g:Gh} {H:Hp} {w:World} (hI:Inv cx g H w):∃ ev,w.cell? ⟨i,0,none⟩=some ev/\(ev= .nilIface\/∃ te pe,ev= .iface te pe):=by
 obtain⟨ev,t,fz,h1,h2⟩:=h
 refine⟨ev,?_,h2⟩
 unfold World.cell?
 simp[(hI.fix i _ h1).1]
theorem e4q {f i j:Nat} (hf:d0k P f) (h1:e0u cx i) (h2:e0u cx j)
 (hok:∀ (s:ByteArray),s.size<=281474976710656->∀ (u:Nat),Lib.parseUintB 64 s.data.toList= .ok u->∀ (w:World),Calls P f #[.string s,.int .i64 10,.int .i64 64] w fun e w'=>e= .returned (.tuple #[.int .u64 u,.nilIface])/\Below w.heap.size w w')
 (hsy:∀ (s:ByteArray),s.size<=281474976710656->(∀ u,Lib.parseUintB 64 s.data.toList≠ .ok u)->Lib.parseUintB 64 s.data.toList≠ .range->∀ (ev:Value) (w:World),w.cell? ⟨i,0,none⟩=some ev->(ev= .nilIface\/∃ te pe,ev= .iface te pe)->Calls P f #[.string s,.int .i64 10,.int .i64 64] w fun e w'=> ∃ t p,e= .returned (.tuple #[.int .u64 0,.iface t p])/\Below w.heap.size w w')
 (hra:∀ (s:ByteArray),s.size<=281474976710656->Lib.parseUintB 64 s.data.toList= .range->∀ (ev:Value) (w:World),w.cell? ⟨j,0,none⟩=some ev->(ev= .nilIface\/∃ te pe,ev= .iface te pe)->Calls P f #[.string s,.int .i64 10,.int .i64 64] w fun e w'=> ∃ t p,e= .returned (.tuple #[.int .u64 18446744073709551615,.iface t p])/\Below w.heap.size w w'):
 ∀ args H r H',b6o args H=some (r,H')->a1z P cx f args H r H':=by
 intro args H r H' h
 unfold b6o at h
 split at h
 ·rename_i H0 s b n
  split at h
  ·rename_i hn
   obtain⟨⟨rfl,rfl⟩,hlen⟩:=hn
   have hsz:(⟨s.toArray⟩:ByteArray).size<=281474976710656:=by simpa [ByteArray.size] using hlen
   have hargs:∀ {g:Gh} {cargs:Array Value},a0w g H [.d (.str s),.d (.int .i64 10),.d (.int .i64 64)] cargs.toList->cargs= #[.string ⟨s.toArray⟩,.int .i64 10,.int .i64 64]:=by
    intro g cargs ra
    obtain⟨ys,e1,r1⟩:=c5y ra
    obtain⟨zs,e2,r2⟩:=d2h r1
    obtain⟨us,e3,r3⟩:=d2h r2
    rw[c5v r3]at e3
    rw[e3]at e2
    rw[e2]at e1
    apply Array.toList_inj.1;exact e1
   have rep:∀ (g:Gh) (u:Int) (b:Bool) (y:Value),((b=true/\y= .nilIface)\/(b=false/\∃ t p,y= .iface t p))->Rep g H (.tup [.d (.int .u64 u),.ifc b]) (.tuple #[.int .u64 u,y]):=by
    intro g u b y hy
    simp only[Rep,a0w]
    exact⟨_,rfl,_,_,rfl,by simp only[a3d,a0p],_,_,rfl,hy,rfl⟩
   split at h
   ·rename_i u hp
    cases h
    refine c5p (fun _=>rfl) hf fun g w cargs hI ra=>?_
    rw[hargs ra]
    refine(hok ⟨s.toArray⟩ hsz u hp w).mono fun e w' he=>?_
    exact⟨_,he.1,rep g u true _ (.inl ⟨rfl,rfl⟩),he.2⟩
   ·rename_i hp
    cases h
    refine c5p (fun _=>rfl) hf fun g w cargs hI ra=>?_
    rw[hargs ra]
    obtain⟨ev,hv,hev⟩:=h2.cell hI
    refine(hra ⟨s.toArray⟩ hsz hp ev w hv hev).mono fun e w' he=>?_
    obtain⟨t,p,h3,h4⟩:=he
    exact⟨_,h3,rep g _ false _ (.inr ⟨rfl,t,p,rfl⟩),h4⟩
   ·rename_i hp1 hp2
    cases h
    refine c5p (fun _=>rfl) hf fun g w cargs hI ra=>?_
    rw[hargs ra]
    obtain⟨ev,hv,hev⟩:=h1.cell hI
    refine(hsy ⟨s.toArray⟩ hsz hp1 hp2 ev w hv hev).mono fun e w' he=>?_
    obtain⟨t,p,h3,h4⟩:=he
    exact⟨_,h3,rep g 0 false _ (.inr ⟨rfl,t,p,rfl⟩),h4⟩
  ·cases h
 ·cases h
end
end Go.Vm

namespace Go.Vm
def h3g (F:List V->Hp->Option (V×Hp)):Prop:=∀ a h r h',F a h=some (r,h')->a0z 0 a=true/\r.und 0=true/\h'=h/\∀ H,F a H=some (r,H)
end Go.Vm
namespace Go.Vm.Ite
open Go Go.Vm Go.Proofs
theorem k7:a0b 7 Q7:={}
theorem k8:a0b 8 Q8:={}
theorem k9:a0b 9 Q9:={}
theorem k11:a0b 11 Q11:={}
theorem k13:a0b 13 Q13:={}
theorem k14:a0b 14 Q14:={}
theorem k15:a0b 15 Q15:={}
theorem k16:a0b 16 Q16:={}
theorem k17:a0b 17 Q17:={}
theorem k18:a0b 18 Q18:={}
theorem k19:a0b 19 Q19:={}
theorem k21:a0b 21 Q21:={}
theorem k23:a0b 23 Q23:={}
theorem k24:a0b 24 Q24:={}
theorem k25:a0b 25 Q25:={}
theorem k26:a0b 26 Q26:={}
theorem k27:a0b 27 Q27:={}
theorem k28:a0b 28 Q28:={}
theorem k29:a0b 29 Q29:={}
theorem k30:a0b 30 Q30:={}
theorem k31:a0b 31 Q31:={}
theorem k32:a0b 32 Q32:={}
theorem k33:a0b 33 Q33:={}
theorem k34:a0b 34 Q34:={}
theorem k35:a0b 35 Q35:={}
theorem k36:a0b 36 Q36:={}
theorem k38:a0b 38 Q38:={}
theorem k40:a0b 40 Q40:={}
theorem k41:a0b 41 Q41:={}
theorem k45:a0b 45 Q45:={}
theorem k46:a0b 46 Q46:={}
theorem k47:a0b 47 Q47:={}
theorem k48:a0b 48 Q48:={}
theorem k49:a0b 49 Q49:={}
theorem k50:a0b 50 Q50:={}
theorem k51:a0b 51 Q51:={}
theorem k52:a0b 52 Q52:={}
theorem k53:a0b 53 Q53:={}
theorem k54:a0b 54 Q54:={}
theorem k55:a0b 55 Q55:={}
theorem k56:a0b 56 Q56:={}
theorem k57:a0b 57 Q57:={}
theorem k58:a0b 58 Q58:={}
theorem k59:a0b 59 Q59:={}
theorem k60:a0b 60 Q60:={}
theorem k61:a0b 61 Q61:={}
theorem k62:a0b 62 Q62:={}
theorem k63:a0b 63 Q63:={}
theorem k64:a0b 64 Q64:={}
theorem k65:a0b 65 Q65:={}
theorem k66:a0b 66 Q66:={}
theorem k67:a0b 67 Q67:={}
theorem k69:a0b 69 Q69:={}
theorem k71:a0b 71 Q71:={}
theorem k72:a0b 72 Q72:={}
theorem k79:a0b 79 Q79:={}
theorem k80:a0b 80 Q80:={}
theorem k81:a0b 81 Q81:={}
theorem k82:a0b 82 Q82:={}
theorem k84:a0b 84 Q84:={}
theorem k85:a0b 85 Q85:={}
theorem k86:a0b 86 Q86:={}
theorem k87:a0b 87 Q87:={}
theorem k89:a0b 89 Q89:={}
theorem k90:a0b 90 Q90:={}
theorem k91:a0b 91 Q91:={}
theorem k92:a0b 92 Q92:={}
theorem k93:a0b 93 Q93:={}
theorem k94:a0b 94 Q94:={}
theorem k95:a0b 95 Q95:={}
theorem k96:a0b 96 Q96:={}
theorem k97:a0b 97 Q97:={}
theorem k98:a0b 98 Q98:={}
theorem k101:a0b 101 Q101:={}
theorem k102:a0b 102 Q102:={}
theorem k103:a0b 103 Q103:={}
theorem k104:a0b 104 Q104:={}
theorem k105:a0b 105 Q105:={}
theorem k106:a0b 106 Q106:={}
theorem k111:a0b 111 Q111:={}
theorem k112:a0b 112 Q112:={}
theorem k113:a0b 113 Q113:={}
theorem k114:a0b 114 Q114:={}
theorem k115:a0b 115 Q115:={}
theorem k116:a0b 116 Q116:={}
theorem k117:a0b 117 Q117:={}
theorem k118:a0b 118 Q118:={}
theorem k119:a0b 119 Q119:={}
theorem k122:a0b 122 Q122:={}
theorem k123:a0b 123 Q123:={}
theorem k125:a0b 125 Q125:={}
theorem k126:a0b 126 Q126:={}
theorem k127:a0b 127 Q127:={}
theorem k128:a0b 128 Q128:={}
theorem k129:a0b 129 Q129:={}
theorem k130:a0b 130 Q130:={}
theorem k134:a0b 134 Q134:={}
theorem k135:a0b 135 Q135:={}
theorem k136:a0b 136 Q136:={}
theorem k137:a0b 137 Q137:={}
theorem k138:a0b 138 Q138:={}
theorem k139:a0b 139 Q139:={}
theorem k140:a0b 140 Q140:={}
theorem k147:a0b 147 Q147:={}
theorem k148:a0b 148 Q148:={}
theorem k149:a0b 149 Q149:={}
theorem k150:a0b 150 Q150:={}
theorem k151:a0b 151 Q151:={}
theorem k152:a0b 152 Q152:={}
theorem k153:a0b 153 Q153:={}
theorem k154:a0b 154 Q154:={}
theorem k155:a0b 155 Q155:={}
theorem k156:a0b 156 Q156:={}
theorem k160:a0b 160 Q160:={}
theorem k161:a0b 161 Q161:={}
theorem k162:a0b 162 Q162:={}
theorem k163:a0b 163 Q163:={}
theorem k165:a0b 165 Q165:={}
theorem k166:a0b 166 Q166:={}
theorem k167:a0b 167 Q167:={}
theorem f8k (cx:Cx) (F:Nat->Option a0v) (hF:∀ f e,F f=some e->match e with| .prim p=> ∀ args H r H',p args H=some (r,H')->a1z Tryz.prog cx f args H r H'| .code _=>False):a3i Tryz.prog ⟨cx,(tbl F)⟩:=by
  intro f e h
  simp only at h
  unfold tbl at h
  split at h
  ·cases h;exact k7.ex Tryz.func7
  ·cases h;exact k8.ex Tryz.func8
  ·cases h;exact k9.ex Tryz.func9
  ·cases h;exact k11.ex Tryz.func11
  ·cases h;exact k13.ex Tryz.func13
  ·cases h;exact k14.ex Tryz.func14
  ·cases h;exact k15.ex Tryz.func15
  ·cases h;exact k16.ex Tryz.func16
  ·cases h;exact k17.ex Tryz.func17
  ·cases h;exact k18.ex Tryz.func18
  ·cases h;exact k19.ex Tryz.func19
  ·cases h;exact k21.ex Tryz.func21
  ·cases h;exact k23.ex Tryz.func23
  ·cases h;exact k24.ex Tryz.func24
  ·cases h;exact k25.ex Tryz.func25
  ·cases h;exact k26.ex Tryz.func26
  ·cases h;exact k27.ex Tryz.func27
  ·cases h;exact k28.ex Tryz.func28
  ·cases h;exact k29.ex Tryz.func29
  ·cases h;exact k30.ex Tryz.func30
  ·cases h;exact k31.ex Tryz.func31
  ·cases h;exact k32.ex Tryz.func32
  ·cases h;exact k33.ex Tryz.func33
  ·cases h;exact k34.ex Tryz.func34
  ·cases h;exact k35.ex Tryz.func35
  ·cases h;exact k36.ex Tryz.func36
  ·cases h;exact k38.ex Tryz.func38
  ·cases h;exact k40.ex Tryz.func40
  ·cases h;exact k41.ex Tryz.func41
  ·cases h;exact k45.ex Tryz.func45
  ·cases h;exact k46.ex Tryz.func46
  ·cases h;exact k47.ex Tryz.func47
  ·cases h;exact k48.ex Tryz.func48
  ·cases h;exact k49.ex Tryz.func49
  ·cases h;exact k50.ex Tryz.func50
  ·cases h;exact k51.ex Tryz.func51
  ·cases h;exact k52.ex Tryz.func52
  ·cases h;exact k53.ex Tryz.func53
  ·cases h;exact k54.ex Tryz.func54
  ·cases h;exact k55.ex Tryz.func55
  ·cases h;exact k56.ex Tryz.func56
  ·cases h;exact k57.ex Tryz.func57
  ·cases h;exact k58.ex Tryz.func58
  ·cases h;exact k59.ex Tryz.func59
  ·cases h;exact k60.ex Tryz.func60
  ·cases h;exact k61.ex Tryz.func61
  ·cases h;exact k62.ex Tryz.func62
  ·cases h;exact k63.ex Tryz.func63
  ·cases h;exact k64.ex Tryz.func64
  ·cases h;exact k65.ex Tryz.func65
  ·cases h;exact k66.ex Tryz.func66
  ·cases h;exact k67.ex Tryz.func67
  ·cases h;exact k69.ex Tryz.func69
  ·cases h;exact k71.ex Tryz.func71
  ·cases h;exact k72.ex Tryz.func72
  ·cases h;exact k79.ex Tryz.func79
  ·cases h;exact k80.ex Tryz.func80
  ·cases h;exact k81.ex Tryz.func81
  ·cases h;exact k82.ex Tryz.func82
  ·cases h;exact k84.ex Tryz.func84
  ·cases h;exact k85.ex Tryz.func85
  ·cases h;exact k86.ex Tryz.func86
  ·cases h;exact k87.ex Tryz.func87
  ·cases h;exact k89.ex Tryz.func89
  ·cases h;exact k90.ex Tryz.func90
  ·cases h;exact k91.ex Tryz.func91
  ·cases h;exact k92.ex Tryz.func92
  ·cases h;exact k93.ex Tryz.func93
  ·cases h;exact k94.ex Tryz.func94
  ·cases h;exact k95.ex Tryz.func95
  ·cases h;exact k96.ex Tryz.func96
  ·cases h;exact k97.ex Tryz.func97
  ·cases h;exact k98.ex Tryz.func98
  ·cases h;exact k101.ex Tryz.func101
  ·cases h;exact k102.ex Tryz.func102
  ·cases h;exact k103.ex Tryz.func103
  ·cases h;exact k104.ex Tryz.func104
  ·cases h;exact k105.ex Tryz.func105
  ·cases h;exact k106.ex Tryz.func106
  ·cases h;exact k111.ex Tryz.func111
  ·cases h;exact k112.ex Tryz.func112
  ·cases h;exact k113.ex Tryz.func113
  ·cases h;exact k114.ex Tryz.func114
  ·cases h;exact k115.ex Tryz.func115
  ·cases h;exact k116.ex Tryz.func116
  ·cases h;exact k117.ex Tryz.func117
  ·cases h;exact k118.ex Tryz.func118
  ·cases h;exact k119.ex Tryz.func119
  ·cases h;exact k122.ex Tryz.func122
  ·cases h;exact k123.ex Tryz.func123
  ·cases h;exact k125.ex Tryz.func125
  ·cases h;exact k126.ex Tryz.func126
  ·cases h;exact k127.ex Tryz.func127
  ·cases h;exact k128.ex Tryz.func128
  ·cases h;exact k129.ex Tryz.func129
  ·cases h;exact k130.ex Tryz.func130
  ·cases h;exact k134.ex Tryz.func134
  ·cases h;exact k135.ex Tryz.func135
  ·cases h;exact k136.ex Tryz.func136
  ·cases h;exact k137.ex Tryz.func137
  ·cases h;exact k138.ex Tryz.func138
  ·cases h;exact k139.ex Tryz.func139
  ·cases h;exact k140.ex Tryz.func140
  ·cases h;exact k147.ex Tryz.func147
  ·cases h;exact k148.ex Tryz.func148
  ·cases h;exact k149.ex Tryz.func149
  ·cases h;exact k150.ex Tryz.func150
  ·cases h;exact k151.ex Tryz.func151
  ·cases h;exact k152.ex Tryz.func152
  ·cases h;exact k153.ex Tryz.func153
  ·cases h;exact k154.ex Tryz.func154
  ·cases h;exact k155.ex Tryz.func155
  ·cases h;exact k156.ex Tryz.func156
  ·cases h;exact k160.ex Tryz.func160
  ·cases h;exact k161.ex Tryz.func161
  ·cases h;exact k162.ex Tryz.func162
  ·cases h;exact k163.ex Tryz.func163
  ·cases h;exact k165.ex Tryz.func165
  ·cases h;exact k166.ex Tryz.func166
  ·cases h;exact k167.ex Tryz.func167
  ·have:=hF f e h;split
   ·exact this
   ·exact absurd this id
theorem h2t (cx:Cx) (F:Nat->Option a0v) (hF:∀ f e,F f=some e->match e with| .prim p=>h3g p| .code _=>False):d0g ⟨cx,(tbl F)⟩:=by
  constructor
  ·intro f F h
   simp only at h
   unfold tbl at h
   split at h
   iterate 120 · cases h
   ·exact hF _ _ h
  ·intro f vf h
   simp only at h
   unfold tbl at h
   split at h
   ·cases h;exact k7.cst
   ·cases h;exact k8.cst
   ·cases h;exact k9.cst
   ·cases h;exact k11.cst
   ·cases h;exact k13.cst
   ·cases h;exact k14.cst
   ·cases h;exact k15.cst
   ·cases h;exact k16.cst
   ·cases h;exact k17.cst
   ·cases h;exact k18.cst
   ·cases h;exact k19.cst
   ·cases h;exact k21.cst
   ·cases h;exact k23.cst
   ·cases h;exact k24.cst
   ·cases h;exact k25.cst
   ·cases h;exact k26.cst
   ·cases h;exact k27.cst
   ·cases h;exact k28.cst
   ·cases h;exact k29.cst
   ·cases h;exact k30.cst
   ·cases h;exact k31.cst
   ·cases h;exact k32.cst
   ·cases h;exact k33.cst
   ·cases h;exact k34.cst
   ·cases h;exact k35.cst
   ·cases h;exact k36.cst
   ·cases h;exact k38.cst
   ·cases h;exact k40.cst
   ·cases h;exact k41.cst
   ·cases h;exact k45.cst
   ·cases h;exact k46.cst
   ·cases h;exact k47.cst
   ·cases h;exact k48.cst
   ·cases h;exact k49.cst
   ·cases h;exact k50.cst
   ·cases h;exact k51.cst
   ·cases h;exact k52.cst
   ·cases h;exact k53.cst
   ·cases h;exact k54.cst
   ·cases h;exact k55.cst
   ·cases h;exact k56.cst
   ·cases h;exact k57.cst
   ·cases h;exact k58.cst
   ·cases h;exact k59.cst
   ·cases h;exact k60.cst
   ·cases h;exact k61.cst
   ·cases h;exact k62.cst
   ·cases h;exact k63.cst
   ·cases h;exact k64.cst
   ·cases h;exact k65.cst
   ·cases h;exact k66.cst
   ·cases h;exact k67.cst
   ·cases h;exact k69.cst
   ·cases h;exact k71.cst
   ·cases h;exact k72.cst
   ·cases h;exact k79.cst
   ·cases h;exact k80.cst
   ·cases h;exact k81.cst
   ·cases h;exact k82.cst
   ·cases h;exact k84.cst
   ·cases h;exact k85.cst
   ·cases h;exact k86.cst
   ·cases h;exact k87.cst
   ·cases h;exact k89.cst
   ·cases h;exact k90.cst
   ·cases h;exact k91.cst
   ·cases h;exact k92.cst
   ·cases h;exact k93.cst
   ·cases h;exact k94.cst
   ·cases h;exact k95.cst
   ·cases h;exact k96.cst
   ·cases h;exact k97.cst
   ·cases h;exact k98.cst
   ·cases h;exact k101.cst
   ·cases h;exact k102.cst
   ·cases h;exact k103.cst
   ·cases h;exact k104.cst
   ·cases h;exact k105.cst
   ·cases h;exact k106.cst
   ·cases h;exact k111.cst
   ·cases h;exact k112.cst
   ·cases h;exact k113.cst
   ·cases h;exact k114.cst
   ·cases h;exact k115.cst
   ·cases h;exact k116.cst
   ·cases h;exact k117.cst
   ·cases h;exact k118.cst
   ·cases h;exact k119.cst
   ·cases h;exact k122.cst
   ·cases h;exact k123.cst
   ·cases h;exact k125.cst
   ·cases h;exact k126.cst
   ·cases h;exact k127.cst
   ·cases h;exact k128.cst
   ·cases h;exact k129.cst
   ·cases h;exact k130.cst
   ·cases h;exact k134.cst
   ·cases h;exact k135.cst
   ·cases h;exact k136.cst
   ·cases h;exact k137.cst
   ·cases h;exact k138.cst
   ·cases h;exact k139.cst
   ·cases h;exact k140.cst
   ·cases h;exact k147.cst
   ·cases h;exact k148.cst
   ·cases h;exact k149.cst
   ·cases h;exact k150.cst
   ·cases h;exact k151.cst
   ·cases h;exact k152.cst
   ·cases h;exact k153.cst
   ·cases h;exact k154.cst
   ·cases h;exact k155.cst
   ·cases h;exact k156.cst
   ·cases h;exact k160.cst
   ·cases h;exact k161.cst
   ·cases h;exact k162.cst
   ·cases h;exact k163.cst
   ·cases h;exact k165.cst
   ·cases h;exact k166.cst
   ·cases h;exact k167.cst
   ·exact absurd (hF _ _ h) id
end Go.Vm.Ite

namespace Go.Vm.Lex
def isL (c:UInt8):Bool:=decide (97<=c.toNat/\c.toNat<=122)||decide (65<=c.toNat/\c.toNat<=90)||decide (c.toNat=95)
def isD (c:UInt8):Bool:=decide (48<=c.toNat/\c.toNat<=57)
def c4c (c:UInt8):Bool:=isL c||isD c
def b8h:List (List UInt8):=[[102,110],[115,116,114,117,99,116],[101,110,117,109],[108,101,116],[109,117,116],[119,104,105,108,101],[105,102],[101,108,115,101],[109,97,116,99,104],[114,101,116,117,114,110],[98,114,101,97,107],[99,111,110,116,105,110,117,101],[116,114,117,101],[102,97,108,115,101],[105,54,52],[98,111,111,108],[66,111,120]]
def b9w (s:List UInt8):Bool:=decide (s∈b8h)
def hd0:List UInt8->UInt8
 |[]=>0
 |c::_=>c
def h0p (s:List UInt8):Bool:=decide (s≠[]) && decide (s≠[95]) && !isD (hd0 s) && s.all c4c
def g7u (s:List UInt8):Bool:=h0p s && decide (s.length<=64) && !b9w s
def a2q (s:List UInt8):Nat:=(s.takeWhile c4c).length
theorem c8i (c:UInt8) (r:List UInt8):a2q (c::r)=if c4c c then a2q r+1 else 0:=by
 unfold a2q;rw[List.takeWhile_cons];split<;>simp
theorem b2a:∀ s:List UInt8,a2q s<=s.length
 |[]=>Nat.le_refl _
 |c::r=>by rw[c8i];split<;>simp[b2a r]
theorem d5c {s:List UInt8} {i:Nat} {c:UInt8} (h:s[i]? =some c):a2q (s.drop i)=if c4c c then a2q (s.drop (i+1))+1 else 0:=by
 obtain⟨hi,he⟩:=List.getElem?_eq_some_iff.1 h
 rw[List.drop_eq_getElem_cons hi,he,c8i]
theorem e2m {s:List UInt8} {i:Nat} (h:s.length<=i):a2q (s.drop i)=0:=by rw[List.drop_eq_nil_of_le h];rfl
end Go.Vm.Lex
namespace Go.Vm.Ip
open Go.Vm.Lex
abbrev S:=List UInt8
structure Fld where
 n:S
 t:S
structure Nam where
 n:S
 fs:List Fld
structure Fnc where
 n:S
 ps:List Fld
 ms:List Bool
 r:S
 d:Int
structure Its where
 ss:List Nam
 es:List Nam
 fs:List Fnc
instance:Inhabited Fld:=⟨⟨[],[]⟩⟩
instance:Inhabited Nam:=⟨⟨[],[]⟩⟩
instance:Inhabited Fnc:=⟨⟨[],[],[],[],0⟩⟩
abbrev mx:Nat:=140737488355328
def pos (l:List S) (s:S):Option Nat:=l.findIdx? (· ==s)
def nS (x:Its):List S:=x.ss.map Nam.n
def nE (x:Its):List S:=x.es.map Nam.n
end Go.Vm.Ip
namespace Go.Vm
@[simp] theorem h7y (a b:V) (h:Hp):f0x (.d (.bool true)) a b h=some (a,h):=rfl
@[simp] theorem h9w (a b:V) (h:Hp):f0x (.d (.bool false)) a b h=some (b,h):=rfl
theorem e3h:∀ l:List D,b9e (l.map V.d)=some l
 |[]=>rfl
 |x::l=>by simp[b9e,e3h l]
@[simp] theorem d5r (l:List D):b1g (l.map V.d)= .d (.agg l):=by simp only[b1g,e3h]
@[simp] theorem h4q (n off:Nat) (l:List D):a6u (some n) (l.map V.d) off=if off+n<=l.length then some (.d (.agg ((l.drop off).take n))) else none:=by
 simp only[a6u,List.length_map]
 rw[<-List.map_drop,<-List.map_take,d5r]
@[simp] theorem g8t (off:Nat) (l:List D):a6u none (l.map V.d) off=(l[off]?).map V.d:=by simp[a6u]
theorem e8t (off:Nat) (l:List V):a6u none l off=l[off]? :=rfl
theorem e4t (n off:Nat) (l:List V):a6u (some n) l off=if off+n<=l.length then some (b1g ((l.drop off).take n)) else none:=rfl
def e2c (o:Option Ob) (n:Option Nat) (off:Nat):Option V:=match o with
 |some (.box c)=>a6u n c off
 |some (.frz c)=>a6u n (c.map V.d) off
 |_=>none
@[simp] theorem e4s (c:List V) (n:Option Nat) (off:Nat):e2c (some (.box c)) n off=a6u n c off:=rfl
@[simp] theorem e5l (c:List D) (n:Option Nat) (off:Nat):e2c (some (.frz c)) n off=a6u n (c.map V.d) off:=rfl
@[simp] theorem d6u (H:Hp) (n:Option Nat) (id off:Nat):b8m H n (.ptr id off)=e2c H[id]? n off:=by
 simp only[b8m,b0o,e2c]
 cases H[id]? with
 |none=>rfl
 |some o=>cases o<;>rfl
@[simp] theorem i0t (H:Hp) (n:Option Nat) (l:List D) (off:Nat):b8m H n (.ro l off)=a6u n (l.map V.d) off:=rfl
def e9a (b:Nat) (H:Hp) (n id off:Nat) (x:V) (o:Option Ob):Option Hp:=match o with
 |some (.box c)=>if x.cells.length=n/\off+n<=c.length/\x.cells.all V.one/\(a0z id x.cells||decide (b<=id)||b2b c off x.cells) then some (H.set id (.box (putAt c off x.cells))) else none
 |_=>none
@[simp] theorem g7p (b:Nat) (H:Hp) (n id off:Nat) (x:V) (c:List V):e9a b H n id off x (some (.box c))=if x.cells.length=n/\off+n<=c.length/\x.cells.all V.one/\(a0z id x.cells||decide (b<=id)||b2b c off x.cells) then some (H.set id (.box (putAt c off x.cells))) else none:=rfl
@[simp] theorem g8g (b:Nat) (H:Hp) (n id off:Nat) (x:V):c4w b H n (.ptr id off) x=e9a b H n id off x H[id]? :=rfl
@[simp] theorem h9g:b9e []=some []:=rfl
@[simp] theorem h3w (x:D) (l:List V):b9e (.d x::l)=(b9e l).map (x:: ·):=rfl
def g6r (o:Option (List D)) (l:List V):V:=match o with|some ds=> .d (.agg ds)|none=> .agg l
@[simp] theorem g9c (ds:List D) (l:List V):g6r (some ds) l= .d (.agg ds):=rfl
@[simp] theorem g8h (l:List V):g6r none l= .agg l:=rfl
@[simp] theorem i1k:b1g []= .d (.agg []):=rfl
@[simp] theorem i1u (x:V) (l:List V):b1g (x::l)=g6r (b9e (x::l)) (x::l):=rfl
@[simp] theorem i0d (i o:Nat) (l:List V):b9e (.ptr i o::l)=none:=rfl
@[simp] theorem h8v (i o:Nat) (l:List V):b9e (.row i o::l)=none:=rfl
@[simp] theorem h4m (l:List V):b9e (.nils::l)=none:=rfl
@[simp] theorem i0q (l:List V):b9e (.nul::l)=none:=rfl
@[simp] theorem i1n (f:Nat) (c l:List V):b9e (.fn f c::l)=none:=rfl
attribute [simp] e9l boxV
@[simp] theorem h5c (c:List V) (n:Nat):putAt c n []=c:=by cases c<;>cases n<;>rfl
@[simp] theorem g9i (c v:V) (cs vs:List V):putAt (c::cs) 0 (v::vs)=v::putAt cs 0 vs:=rfl
@[simp] theorem g8j (c v:V) (cs vs:List V) (n:Nat):putAt (c::cs) (n+1) (v::vs)=c::putAt cs n (v::vs):=rfl
@[simp] theorem e6l:∀ (c v:List V),v.length=c.length->putAt c 0 v=v
 |[],[],_=>rfl
 |[],_::_,h=>by simp at h
 |_::_,[],h=>by simp at h
 |c::cs,v::vs,h=>by simp[e6l cs vs (by simpa using h)]
@[simp] theorem h4p (n:Nat):a5e n []=true:=rfl
@[simp] theorem h0s (n:Nat) (c:List V) (l:Hp):a5e n (.box c::l)=(a0z n c && a5e n l):=rfl
@[simp] theorem h4g (n:Nat) (c:List D) (l:Hp):a5e n (.frz c::l)=a5e n l:=rfl
@[simp] theorem h3a (n z:Nat) (c:List D) (l:Hp):a5e n (.row z c::l)=a5e n l:=rfl
open Classical in
noncomputable def pre (h h':Hp):Bool:=decide (∃ l,h'=h++l)
@[simp] theorem pre_nil (h:Hp):pre [] h=true:=by simp[pre]
@[simp] theorem h9i (h:Hp):pre h h=true:=by simp[pre]
@[simp] theorem i4k (h l:Hp):pre h (h++l)=true:=by simp[pre]
@[simp] theorem h8p (o:Ob) (h h':Hp):pre (o::h) (o::h')=pre h h':=by simp[pre]
@[simp] theorem i0k (h l l':Hp):pre (h++l) (h++l')=pre l l':=by simp[pre]
theorem g4r (h h':Hp):grew h h'=(pre h h' && a5e h'.length (h'.drop h.length)):=rfl
@[simp] theorem g8u (k:IntKind) (n:Int):a4k (.d (.int k n))=if 0<=n then some n.toNat else none:=rfl
theorem f2r (v:V):oneOf [v]=v:=rfl
theorem f1g (u v:V) (l:List V):oneOf (u::v::l)= .tup (u::v::l):=rfl
@[simp] theorem f8l (n:Nat):∀ l:List D,a0z n (l.map V.d)=true
 |[]=>rfl
 |x::l=>by simp[f8l n l]
@[simp] theorem h1i (e:Env) (h:Hp):a9n e h []=some []:=rfl
def resC (v:Option V) (vs:Option (List V)):Option (List V):=match v,vs with|some v,some vs=>some (v::vs)|_,_=>none
@[simp] theorem d7d (v:V) (vs:List V):resC (some v) (some vs)=some (v::vs):=rfl
@[simp] theorem d0o (e:Env) (h:Hp) (r:d3p) (l:List d3p):a9n e h (r::l)=resC (e8o e h r) (a9n e h l):=rfl
@[simp] theorem f9r (e:Env) (h:Hp) (t:Nat):e8o e h (.tmp t)=some (a1l e t):=rfl
@[simp] theorem f3c (e:Env) (h:Hp) (t:Nat) (n:Option Nat):e8o e h (.cell t n)=b8m h n (a1l e t):=rfl
def lv (keep:Bool) (h0:Nat) (h:Hp) (r:Option (List V)):Option (V×Hp):=match r with
 |none=>none
 |some vs=>if keep then some (oneOf vs,h) else if a0z h0 (vs.map (toArg h)) then some (oneOf (vs.map (toArg h)),h.take h0) else none
@[simp] theorem g7b (h0:Nat) (h:Hp) (vs:List V):lv false h0 h (some vs)=if a0z h0 (vs.map (toArg h)) then some (oneOf (vs.map (toArg h)),h.take h0) else none:=rfl
@[simp] theorem i4m (h0:Nat) (h:Hp) (vs:List V):lv true h0 h (some vs)=some (oneOf vs,h):=rfl
@[simp] theorem f5e (vf:VFn) (h0:Nat) (s:St):leave vf h0 s=lv vf.keep h0 s.h (a9n s.e s.h vf.res):=by
 unfold leave lv
 cases a9n s.e s.h vf.res<;>rfl
attribute [simp] g4r f2r f1g e8t
attribute [simp low] e4t
@[simp] theorem h6v (l:List D) (n k:Nat):b1g (((l.map V.d).drop n).take k)= .d (.agg ((l.drop n).take k)):=by rw[<-List.map_drop,<-List.map_take,d5r]
def a8d:Nat->List V->Env
 |_,[]=>[]
 |k,v::l=>(k,v)::a8d (k+1) l
theorem c4u:∀ (l:List V) (k:Nat),a8d k l=(List.range' k l.length).map fun i=>(i,l.getD (i - k) .undef)
  |[],k=>rfl
  |v::l,k=>by
   simp only[a8d,List.length_cons,List.range'_succ,List.map_cons,Nat.sub_self,List.getD_cons_zero,List.cons.injEq,true_and]
   rw[c4u l (k+1)]
   apply List.map_congr_left
   intro i hi
   have:=List.mem_range'_1.1 hi
   rw[show i - k=(i - (k+1))+1 by omega,List.getD_cons_succ]
@[simp] theorem a4o (l:List V):a1d l=a8d 0 l:=by rw[c4u,a1d,List.range_eq_range'];rfl
@[simp] theorem f9p (k:Nat):a8d k []=[]:=rfl
@[simp] theorem f4r (k:Nat) (v:V) (l:List V):a8d k (v::l)=(k,v)::a8d (k+1) l:=rfl
def i2o (k:IntKind) (a b:Int):Int:=k.wrap (BitVec.ofInt k.bits a &&& BitVec.ofInt k.bits b).toNat
def orI (k:IntKind) (a b:Int):Int:=k.wrap (BitVec.ofInt k.bits a|||BitVec.ofInt k.bits b).toNat
def i4c (k:IntKind) (a b:Int):Int:=k.wrap (BitVec.ofInt k.bits a ^^^ BitVec.ofInt k.bits b).toNat
def i3s (k:IntKind) (a b:Int):Int:=k.wrap (BitVec.ofInt k.bits a &&& ~~~BitVec.ofInt k.bits b).toNat
def shlI (k:IntKind) (a b:Int):Int:=k.wrap (a*2 ^ (min b.toNat k.bits))
def shrI (k:IntKind) (a b:Int):Int:=a.fdiv (2 ^ (min b.toNat k.bits))
section
variable (k k':IntKind) (a b:Int)
@[simp] theorem h9k:a8q .add (.d (.int k a)) (.d (.int k b))=some (.d (.int k (k.wrap (a+b)))):=by simp[a8q]
@[simp] theorem i0g:a8q .sub (.d (.int k a)) (.d (.int k b))=some (.d (.int k (k.wrap (a - b)))):=by simp[a8q]
@[simp] theorem h9m:a8q .mul (.d (.int k a)) (.d (.int k b))=some (.d (.int k (k.wrap (a*b)))):=by simp[a8q]
@[simp] theorem h9j:a8q .quo (.d (.int k a)) (.d (.int k b))=if b=0 then none else some (.d (.int k (k.wrap (a.tdiv b)))):=by by_cases h:b=0<;>simp[a8q,h]
@[simp] theorem h9n:a8q .rem (.d (.int k a)) (.d (.int k b))=if b=0 then none else some (.d (.int k (a.tmod b))):=by by_cases h:b=0<;>simp[a8q,h]
@[simp] theorem h7x:a8q .and (.d (.int k a)) (.d (.int k b))=some (.d (.int k (i2o k a b))):=by simp[a8q,d1t,i2o]
@[simp] theorem i2j:a8q .or (.d (.int k a)) (.d (.int k b))=some (.d (.int k (orI k a b))):=by simp[a8q,d1t,orI]
@[simp] theorem h9e:a8q .xor (.d (.int k a)) (.d (.int k b))=some (.d (.int k (i4c k a b))):=by simp[a8q,d1t,i4c]
@[simp] theorem h8t:a8q .andNot (.d (.int k a)) (.d (.int k b))=some (.d (.int k (i3s k a b))):=by simp[a8q,d1t,i3s]
@[simp] theorem h7s:a8q .shl (.d (.int k a)) (.d (.int k' b))=if 0<=b then some (.d (.int k (shlI k a b))) else none:=rfl
@[simp] theorem h8n:a8q .shr (.d (.int k a)) (.d (.int k' b))=if 0<=b then some (.d (.int k (shrI k a b))) else none:=rfl
@[simp] theorem h9d:a8q .eql (.d (.int k a)) (.d (.int k b))=some (.d (.bool (decide (a=b)))):=by simp[a8q];by_cases h:a=b<;>simp[h]
@[simp] theorem h8y:a8q .neq (.d (.int k a)) (.d (.int k b))=some (.d (.bool (!decide (a=b)))):=by simp[a8q];by_cases h:a=b<;>simp[h,bne]
@[simp] theorem h9u:a8q .lss (.d (.int k a)) (.d (.int k b))=some (.d (.bool (decide (a < b)))):=by simp[a8q]
@[simp] theorem h9b:a8q .leq (.d (.int k a)) (.d (.int k b))=some (.d (.bool (decide (a<=b)))):=by simp[a8q]
@[simp] theorem h8u:a8q .gtr (.d (.int k a)) (.d (.int k b))=some (.d (.bool (decide (b < a)))):=by simp[a8q]
@[simp] theorem i0r:a8q .geq (.d (.int k a)) (.d (.int k b))=some (.d (.bool (decide (b<=a)))):=by simp[a8q]
@[simp] theorem h3s (s t:List UInt8):a8q .add (.d (.str s)) (.d (.str t))=if s.length+t.length<=9223372036854775807 then some (.d (.str (s++t))) else none:=rfl
@[simp] theorem h6b (s t:List UInt8):a8q .eql (.d (.str s)) (.d (.str t))=some (.d (.bool (decide (s=t)))):=by simp[a8q];by_cases h:s=t<;>simp[h]
@[simp] theorem h2o (s t:List UInt8):a8q .neq (.d (.str s)) (.d (.str t))=some (.d (.bool (!decide (s=t)))):=by simp[a8q];by_cases h:s=t<;>simp[h]
@[simp] theorem i5q:unV .neg (.d (.int k a))=some (.d (.int k (k.wrap (0 - a)))):=rfl
@[simp] theorem i5r (b:Bool):unV .not (.d (.bool b))=some (.d (.bool !b)):=rfl
end
end Go.Vm
namespace Go.Vm
theorem a3z {n:Int} (h: -9223372036854775808<=n/\n<=9223372036854775807):IntKind.i64.wrap n=n:=by
 simp only[IntKind.wrap,IntKind.bits,IntKind.signed];simp;omega
theorem i2g {n:Int} (h:0<=n/\n<=18446744073709551615):IntKind.u64.wrap n=n:=by
 simp only[IntKind.wrap,IntKind.bits,IntKind.signed];simp;omega
theorem u8w {n:Int} (h:0<=n/\n<=255):IntKind.u8.wrap n=n:=by
 simp only[IntKind.wrap,IntKind.bits,IntKind.signed];simp;omega
end Go.Vm
