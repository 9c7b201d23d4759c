import Derived.Test.YtpgpjenfnbcclaaVmNum
import Derived.Test.YtpgpjenfnbcclaaVmInv
set_option linter.unusedSimpArgs false
set_option linter.unusedVariables false
set_option maxRecDepth 100000
namespace Go.Vm.Typ
open Go Go.Vm
def keepOf (l : List (Nat × List Nat)) (i : Nat) : List Nat := ((l.find? (·.1 == i)).map (·.2)).getD []
def ghostOf (l : List (Nat × List VCode)) (i : Nat) : List VCode := ((l.find? (·.1 == i)).map (·.2)).getD []
abbrev O (d : Nat) (p : VOp) : VOper := ⟨some d, p, none⟩
abbrev P (p : VOp) : VOper := ⟨none, p, none⟩
abbrev G (d : Nat) (p : VOp) (i : Nat) (b : Bool) : VOper := ⟨some d, p, some (i, b)⟩
-- 3 patina/patinalaw15.TypesParts
def B3 : VCode :=
 (.seq (.reg [O 1 (.box (.t 0)),
 O 2 (.mv (.c (.d (.bool false))))])
 (.seq (.reg [O 12 (.fadr 0 (.t 1)),
 O 13 (.ld (some 3) (.t 12)),
 O 14 (.fadr 3 (.t 1)),
 O 15 (.ld none (.t 14)),
 O 16 (.fadr 4 (.t 1)),
 O 17 (.ld none (.t 16)),
 O 18 (.call 8 [(.t 13), (.t 15), (.t 17)]),
 O 11 (.mv (.t 18)),
 O 19 (.ext (.t 11) 0),
 O 20 (.ext (.t 11) 1),
 O 3 (.mv (.t 19)),
 O 4 (.mv (.t 20))])
 (.seq (.reg [O 22 (.fadr 0 (.t 1)),
 O 23 (.ld (some 3) (.t 22)),
 O 24 (.fadr 3 (.t 1)),
 O 25 (.ld none (.t 24)),
 O 26 (.fadr 4 (.t 1)),
 O 27 (.ld none (.t 26)),
 O 28 (.call 9 [(.t 23), (.t 25), (.t 27)]),
 O 21 (.mv (.t 28)),
 O 29 (.ext (.t 21) 0),
 O 30 (.ext (.t 21) 1),
 O 5 (.mv (.t 29)),
 O 6 (.mv (.t 30))])
 (.seq (.reg [O 32 (.fadr 0 (.t 1)),
 O 33 (.ld (some 3) (.t 32)),
 O 34 (.fadr 3 (.t 1)),
 O 35 (.ld none (.t 34)),
 O 36 (.fadr 5 (.t 1)),
 O 37 (.ld none (.t 36)),
 O 38 (.call 10 [(.t 33), (.t 35), (.t 37)]),
 O 31 (.mv (.t 38)),
 O 39 (.ext (.t 31) 0),
 O 40 (.ext (.t 31) 1),
 O 7 (.mv (.t 39)),
 O 8 (.mv (.t 40))])
 (.seq (.reg [O 42 (.fadr 0 (.t 1)),
 O 43 (.ld (some 3) (.t 42)),
 O 44 (.fadr 3 (.t 1)),
 O 45 (.ld none (.t 44)),
 O 46 (.fadr 5 (.t 1)),
 O 47 (.ld none (.t 46)),
 O 48 (.call 11 [(.t 43), (.t 45), (.t 47)]),
 O 41 (.mv (.t 48)),
 O 49 (.ext (.t 41) 0),
 O 50 (.ext (.t 41) 1),
 O 9 (.mv (.t 49)),
 O 10 (.mv (.t 50))])
 (.seq (.reg [O 51 (.mv (.t 3)),
 O 52 (.mv (.t 5)),
 O 53 (.bin .eql (.t 51) (.t 52)),
 O 54 (.mv (.t 53)),
 G 55 (.mv (.t 4)) 54 true,
 G 56 (.mv (.t 6)) 54 true,
 G 57 (.bin .eql (.t 55) (.t 56)) 54 true,
 O 58 (.pick (.t 54) (.t 57) (.c (.d (.bool false)))),
 O 59 (.mv (.t 58)),
 G 60 (.mv (.t 7)) 59 true,
 G 61 (.mv (.t 9)) 59 true,
 G 62 (.bin .eql (.t 60) (.t 61)) 59 true,
 O 63 (.pick (.t 59) (.t 62) (.c (.d (.bool false)))),
 O 64 (.mv (.t 63)),
 G 65 (.mv (.t 8)) 64 true,
 G 66 (.mv (.t 10)) 64 true,
 G 67 (.bin .eql (.t 65) (.t 66)) 64 true,
 O 68 (.pick (.t 64) (.t 67) (.c (.d (.bool false)))),
 O 69 (.mv (.t 68)),
 G 70 (.call 12 []) 69 true,
 O 71 (.pick (.t 69) (.t 70) (.c (.d (.bool false)))),
 O 2 (.mv (.t 71))])
 .ret))))))
def F3 : VFn := ⟨1, 72, B3, [.tmp 2], false⟩

def A3 : Ann := ⟨keepOf [], ghostOf []⟩
-- 4 patina/patinalaw15.TypesPaths
def B4 : VCode :=
 (.seq (.reg [O 2 (.box (.t 0)),
 O 4 (.mv (.c (.d (.bool false))))])
 (.seq (.reg [O 13 (.fadr 0 (.t 2)),
 O 14 (.ld (some 3) (.t 13)),
 O 15 (.fadr 3 (.t 2)),
 O 16 (.ld none (.t 15)),
 O 17 (.fadr 5 (.t 2)),
 O 18 (.ld none (.t 17)),
 O 19 (.call 10 [(.t 14), (.t 16), (.t 18)]),
 O 12 (.mv (.t 19)),
 O 20 (.ext (.t 12) 0),
 O 21 (.ext (.t 12) 1),
 O 5 (.mv (.t 20)),
 O 6 (.mv (.t 21))])
 (.seq (.seq (.reg [O 22 (.mv (.t 6)),
 O 23 (.bin .neq (.t 22) (.c (.d (.int .i64 0)))),
 O 24 (.mv (.t 23)),
 G 25 (.fadr 5 (.t 2)) 24 false,
 G 26 (.ld none (.t 25)) 24 false,
 G 27 (.len false (.t 26)) 24 false,
 G 28 (.mv (.t 1)) 24 false,
 G 29 (.len false (.t 28)) 24 false,
 G 30 (.bin .add (.t 27) (.t 29)) 24 false,
 G 31 (.bin .gtr (.t 30) (.c (.d (.int .i64 100)))) 24 false,
 O 32 (.pick (.t 24) (.c (.d (.bool true))) (.t 31))])
 (.cond (.t 32)
 (.seq (.reg [O 33 (.mv (.t 6)),
 O 34 (.bin .eql (.t 33) (.c (.d (.int .i64 0)))),
 O 35 (.mv (.t 34)),
 G 36 (.mv (.t 5)) 35 false,
 G 37 (.bin .eql (.t 36) (.c (.d (.str [])))) 35 false,
 O 38 (.pick (.t 35) (.c (.d (.bool true))) (.t 37)),
 O 39 (.mv (.t 38)),
 G 40 (.call 12 []) 39 true,
 O 41 (.pick (.t 39) (.t 40) (.c (.d (.bool false)))),
 O 4 (.mv (.t 41))])
 .ret)
 .skip))
 (.seq (.reg [O 7 (.mv (.c .nils))])
 (.seq (.seq (.newrow 1 7)
 (.reg [O 42 (.mv (.t 7)),
 O 43 (.fadr 5 (.t 2)),
 O 44 (.ld none (.t 43)),
 O 45 (.app 1 8 (.t 42) (.t 44)),
 O 7 (.mv (.t 45))]))
 (.seq (.reg [O 46 (.mv (.t 7)),
 O 47 (.mv (.t 1)),
 O 48 (.app 1 8 (.t 46) (.t 47)),
 O 7 (.mv (.t 48))])
 (.seq (.reg [O 50 (.fadr 0 (.t 2)),
 O 51 (.ld (some 3) (.t 50)),
 O 52 (.fadr 3 (.t 2)),
 O 53 (.ld none (.t 52)),
 O 54 (.mv (.t 7)),
 O 55 (.call 10 [(.t 51), (.t 53), (.t 54)]),
 O 49 (.mv (.t 55)),
 O 56 (.ext (.t 49) 0),
 O 57 (.ext (.t 49) 1),
 O 8 (.mv (.t 56)),
 O 9 (.mv (.t 57))])
 (.seq (.reg [O 59 (.fadr 0 (.t 2)),
 O 60 (.ld (some 3) (.t 59)),
 O 61 (.mv (.t 5)),
 O 62 (.mv (.t 1)),
 O 63 (.call 10 [(.t 60), (.t 61), (.t 62)]),
 O 58 (.mv (.t 63)),
 O 64 (.ext (.t 58) 0),
 O 65 (.ext (.t 58) 1),
 O 10 (.mv (.t 64)),
 O 11 (.mv (.t 65))])
 (.seq (.reg [O 66 (.mv (.t 8)),
 O 67 (.mv (.t 10)),
 O 68 (.bin .eql (.t 66) (.t 67)),
 O 69 (.mv (.t 68)),
 G 70 (.mv (.t 9)) 69 true,
 G 71 (.mv (.t 11)) 69 true,
 G 72 (.bin .eql (.t 70) (.t 71)) 69 true,
 O 73 (.pick (.t 69) (.t 72) (.c (.d (.bool false)))),
 O 74 (.mv (.t 73)),
 G 75 (.call 12 []) 74 true,
 O 76 (.pick (.t 74) (.t 75) (.c (.d (.bool false)))),
 O 4 (.mv (.t 76))])
 .ret)))))))))
def F4 : VFn := ⟨2, 77, B4, [.tmp 4], false⟩

def A4 : Ann := ⟨keepOf [], ghostOf [(5, [.newrow 1 7])]⟩
-- 5 patina/patinalaw15.TypesTexts
def B5 : VCode :=
 (.seq (.reg [O 4 (.mv (.c (.d (.bool false))))])
 (.seq (.reg [O 14 (.mv (.t 0)),
 O 15 (.call 13 [(.t 14)]),
 O 13 (.mv (.t 15)),
 O 16 (.ext (.t 13) 0),
 O 17 (.ext (.t 13) 1),
 O 5 (.mv (.t 16)),
 O 6 (.mv (.t 17))])
 (.seq (.reg [O 19 (.mv (.t 0)),
 O 20 (.call 14 [(.t 19)]),
 O 18 (.mv (.t 20)),
 O 21 (.ext (.t 18) 0),
 O 22 (.ext (.t 18) 1),
 O 7 (.mv (.t 21)),
 O 8 (.mv (.t 22))])
 (.seq (.reg [O 24 (.mv (.t 0)),
 O 25 (.call 15 [(.t 24)]),
 O 23 (.mv (.t 25)),
 O 26 (.ext (.t 23) 0),
 O 27 (.ext (.t 23) 1),
 O 9 (.mv (.t 26)),
 O 10 (.mv (.t 27))])
 (.seq (.reg [O 29 (.mv (.t 0)),
 O 30 (.call 16 [(.t 29)]),
 O 28 (.mv (.t 30)),
 O 31 (.ext (.t 28) 0),
 O 32 (.ext (.t 28) 1),
 O 11 (.mv (.t 31)),
 O 12 (.mv (.t 32))])
 (.seq (.reg [O 33 (.mv (.t 5)),
 O 34 (.mv (.t 7)),
 O 35 (.bin .eql (.t 33) (.t 34)),
 O 36 (.mv (.t 35)),
 G 37 (.mv (.t 6)) 36 true,
 G 38 (.mv (.t 8)) 36 true,
 G 39 (.eqb false (.t 37) (.t 38)) 36 true,
 O 40 (.pick (.t 36) (.t 39) (.c (.d (.bool false)))),
 O 41 (.mv (.t 40)),
 G 42 (.mv (.t 9)) 41 true,
 G 43 (.mv (.t 11)) 41 true,
 G 44 (.eqb false (.t 42) (.t 43)) 41 true,
 O 45 (.pick (.t 41) (.t 44) (.c (.d (.bool false)))),
 O 46 (.mv (.t 45)),
 G 47 (.mv (.t 10)) 46 true,
 G 48 (.mv (.t 12)) 46 true,
 G 49 (.eqb false (.t 47) (.t 48)) 46 true,
 O 50 (.pick (.t 46) (.t 49) (.c (.d (.bool false)))),
 O 51 (.mv (.t 50)),
 G 52 (.mv (.t 0)) 51 true,
 G 53 (.mv (.t 1)) 51 true,
 G 54 (.call 17 [(.t 52), (.t 53)]) 51 true,
 G 55 (.mv (.t 0)) 51 true,
 G 56 (.mv (.t 1)) 51 true,
 G 57 (.call 18 [(.t 55), (.t 56)]) 51 true,
 G 58 (.eqb false (.t 54) (.t 57)) 51 true,
 O 59 (.pick (.t 51) (.t 58) (.c (.d (.bool false)))),
 O 60 (.mv (.t 59)),
 G 61 (.call 12 []) 60 true,
 O 62 (.pick (.t 60) (.t 61) (.c (.d (.bool false)))),
 O 4 (.mv (.t 62))])
 .ret))))))
def F5 : VFn := ⟨2, 63, B5, [.tmp 4], false⟩

def A5 : Ann := ⟨keepOf [], ghostOf []⟩
-- 6 patina/patinalaw15.TypesTell
def B6 : VCode :=
 (.seq (.reg [O 2 (.box (.t 0)),
 O 4 (.mv (.c (.d (.bool false))))])
 (.seq (.reg [O 18 (.ld (some 3) (.t 2)),
 O 19 (.mv (.t 1)),
 O 20 (.call 19 [(.t 18), (.t 19)]),
 O 17 (.mv (.t 20)),
 O 21 (.ext (.t 17) 0),
 O 22 (.ext (.t 17) 1),
 O 5 (.mv (.t 21)),
 O 6 (.mv (.t 22))])
 (.seq (.reg [O 24 (.ld (some 3) (.t 2)),
 O 25 (.mv (.t 1)),
 O 26 (.call 20 [(.t 24), (.t 25)]),
 O 23 (.mv (.t 26)),
 O 27 (.ext (.t 23) 0),
 O 28 (.ext (.t 23) 1),
 O 7 (.mv (.t 27)),
 O 8 (.mv (.t 28))])
 (.seq (.reg [O 30 (.ld (some 3) (.t 2)),
 O 31 (.mv (.t 1)),
 O 32 (.call 21 [(.t 30), (.t 31)]),
 O 29 (.mv (.t 32)),
 O 33 (.ext (.t 29) 0),
 O 34 (.ext (.t 29) 1),
 O 9 (.mv (.t 33)),
 O 10 (.mv (.t 34))])
 (.seq (.reg [O 36 (.ld (some 3) (.t 2)),
 O 37 (.mv (.t 1)),
 O 38 (.call 22 [(.t 36), (.t 37)]),
 O 35 (.mv (.t 38)),
 O 39 (.ext (.t 35) 0),
 O 40 (.ext (.t 35) 1),
 O 11 (.mv (.t 39)),
 O 12 (.mv (.t 40))])
 (.seq (.reg [O 42 (.ld (some 3) (.t 2)),
 O 43 (.mv (.t 1)),
 O 44 (.call 23 [(.t 42), (.t 43)]),
 O 41 (.mv (.t 44)),
 O 45 (.ext (.t 41) 0),
 O 46 (.ext (.t 41) 1),
 O 13 (.mv (.t 45)),
 O 14 (.mv (.t 46))])
 (.seq (.reg [O 48 (.ld (some 3) (.t 2)),
 O 49 (.mv (.t 1)),
 O 50 (.call 24 [(.t 48), (.t 49)]),
 O 47 (.mv (.t 50)),
 O 51 (.ext (.t 47) 0),
 O 52 (.ext (.t 47) 1),
 O 15 (.mv (.t 51)),
 O 16 (.mv (.t 52))])
 (.seq (.draw 35 [O 53 (.ld (some 3) (.t 2)),
 O 54 (.mv (.t 1)),
 O 55 (.call 25 [(.t 53), (.t 54)]),
 O 56 (.ld (some 3) (.t 2)),
 O 57 (.mv (.t 1)),
 O 58 (.call 26 [(.t 56), (.t 57)]),
 O 59 (.eqb false (.t 55) (.t 58)),
 O 60 (.mv (.t 59)),
 G 61 (.mv (.t 5)) 60 true,
 G 62 (.mv (.t 7)) 60 true,
 G 63 (.eqb false (.t 61) (.t 62)) 60 true,
 O 64 (.pick (.t 60) (.t 63) (.c (.d (.bool false)))),
 O 65 (.mv (.t 64)),
 G 66 (.mv (.t 6)) 65 true,
 G 67 (.mv (.t 8)) 65 true,
 G 68 (.bin .eql (.t 66) (.t 67)) 65 true,
 O 69 (.pick (.t 65) (.t 68) (.c (.d (.bool false)))),
 O 70 (.mv (.t 69)),
 G 71 (.mv (.t 9)) 70 true,
 G 72 (.mv (.t 11)) 70 true,
 G 73 (.eqb false (.t 71) (.t 72)) 70 true,
 O 74 (.pick (.t 70) (.t 73) (.c (.d (.bool false)))),
 O 75 (.mv (.t 74)),
 G 76 (.mv (.t 10)) 75 true,
 G 77 (.mv (.t 12)) 75 true,
 G 78 (.bin .eql (.t 76) (.t 77)) 75 true,
 O 79 (.pick (.t 75) (.t 78) (.c (.d (.bool false)))),
 O 80 (.mv (.t 79)),
 G 81 (.mv (.t 13)) 80 true,
 G 82 (.mv (.t 15)) 80 true,
 G 83 (.bin .eql (.t 81) (.t 82)) 80 true,
 O 84 (.pick (.t 80) (.t 83) (.c (.d (.bool false)))),
 O 85 (.mv (.t 84)),
 G 86 (.mv (.t 14)) 85 true,
 G 87 (.mv (.t 16)) 85 true,
 G 88 (.bin .eql (.t 86) (.t 87)) 85 true,
 O 89 (.pick (.t 85) (.t 88) (.c (.d (.bool false)))),
 O 90 (.mv (.t 89)),
 G 91 (.call 12 []) 90 true,
 O 92 (.pick (.t 90) (.t 91) (.c (.d (.bool false)))),
 O 4 (.mv (.t 92))])
 .ret))))))))
def F6 : VFn := ⟨2, 93, B6, [.tmp 4], false⟩

def A6 : Ann := ⟨keepOf [], ghostOf []⟩
-- 7 patina/patinalaw15.TypesOwn
def B7 : VCode :=
 (.seq (.reg [O 2 (.box (.t 0)),
 O 4 (.mv (.c (.d (.bool false))))])
 (.seq (.reg [O 18 (.ld (some 3) (.t 2)),
 O 19 (.mv (.t 1)),
 O 20 (.call 19 [(.t 18), (.t 19)]),
 O 17 (.mv (.t 20)),
 O 21 (.ext (.t 17) 0),
 O 22 (.ext (.t 17) 1),
 O 5 (.mv (.t 21)),
 O 6 (.mv (.t 22))])
 (.seq (.reg [O 24 (.ld (some 3) (.t 2)),
 O 25 (.mv (.t 1)),
 O 26 (.call 21 [(.t 24), (.t 25)]),
 O 23 (.mv (.t 26)),
 O 27 (.ext (.t 23) 0),
 O 28 (.ext (.t 23) 1),
 O 7 (.mv (.t 27)),
 O 8 (.mv (.t 28))])
 (.seq (.reg [O 30 (.ld (some 3) (.t 2)),
 O 31 (.mv (.t 1)),
 O 32 (.call 23 [(.t 30), (.t 31)]),
 O 29 (.mv (.t 32)),
 O 33 (.ext (.t 29) 0),
 O 34 (.ext (.t 29) 1),
 O 9 (.mv (.t 33)),
 O 10 (.mv (.t 34))])
 (.seq (.seq (.reg [O 35 (.mv (.t 6)),
 O 36 (.bin .neq (.t 35) (.c (.d (.int .i64 0)))),
 O 37 (.mv (.t 36)),
 G 38 (.mv (.t 8)) 37 false,
 G 39 (.bin .neq (.t 38) (.c (.d (.int .i64 0)))) 37 false,
 O 40 (.pick (.t 37) (.c (.d (.bool true))) (.t 39)),
 O 41 (.mv (.t 40)),
 G 42 (.mv (.t 10)) 41 false,
 G 43 (.bin .neq (.t 42) (.c (.d (.int .i64 0)))) 41 false,
 O 44 (.pick (.t 41) (.c (.d (.bool true))) (.t 43))])
 (.cond (.t 44)
 (.seq (.reg [O 45 (.mv (.t 6)),
 O 46 (.mv (.t 8)),
 O 47 (.bin .eql (.t 45) (.t 46)),
 O 48 (.mv (.t 47)),
 G 49 (.mv (.t 8)) 48 true,
 G 50 (.mv (.t 10)) 48 true,
 G 51 (.bin .eql (.t 49) (.t 50)) 48 true,
 O 52 (.pick (.t 48) (.t 51) (.c (.d (.bool false)))),
 O 53 (.mv (.t 52)),
 G 54 (.call 12 []) 53 true,
 O 55 (.pick (.t 53) (.t 54) (.c (.d (.bool false)))),
 O 4 (.mv (.t 55))])
 .ret)
 .skip))
 (.seq (.seq (.reg [O 56 (.mv (.t 5)),
 O 57 (.mv (.t 56)),
 G 58 (.mv (.t 7)) 57 true,
 O 59 (.pick (.t 57) (.t 58) (.c (.d (.bool false)))),
 O 60 (.mv (.t 59)),
 G 61 (.mv (.t 9)) 60 false,
 G 62 (.bin .lss (.t 61) (.c (.d (.int .i64 0)))) 60 false,
 O 63 (.pick (.t 60) (.c (.d (.bool true))) (.t 62))])
 (.cond (.t 63)
 (.seq (.reg [O 4 (.mv (.c (.d (.bool false))))])
 .ret)
 .skip))
 (.seq (.reg [O 64 (.ld (some 3) (.t 2)),
 O 65 (.mv (.t 1)),
 O 66 (.call 27 [(.t 64), (.t 65)]),
 O 11 (.mv (.t 66))])
 (.seq (.seq (.reg [O 67 (.mv (.t 11)),
 O 68 (.bin .lss (.t 67) (.c (.d (.int .i64 0)))),
 O 69 (.mv (.t 68)),
 G 70 (.fadr 0 (.t 2)) 69 false,
 G 71 (.ld none (.t 70)) 69 false,
 G 72 (.mv (.t 11)) 69 false,
 G 73 (.iadr 2 (.t 71) (.t 72)) 69 false,
 G 74 (.fadr 1 (.t 73)) 69 false,
 G 75 (.ld none (.t 74)) 69 false,
 G 76 (.len false (.t 75)) 69 false,
 G 77 (.bin .eql (.t 76) (.c (.d (.int .i64 0)))) 69 false,
 O 78 (.pick (.t 69) (.c (.d (.bool true))) (.t 77))])
 (.cond (.t 78)
 (.seq (.reg [O 79 (.call 12 []),
 O 4 (.mv (.t 79))])
 .ret)
 .skip))
 (.seq (.reg [O 80 (.fadr 0 (.t 2)),
 O 81 (.ld none (.t 80)),
 O 82 (.mv (.t 11)),
 O 83 (.iadr 2 (.t 81) (.t 82)),
 O 84 (.fadr 1 (.t 83)),
 O 85 (.ld none (.t 84)),
 O 86 (.len false (.t 85)),
 O 87 (.bin .sub (.t 86) (.c (.d (.int .i64 1)))),
 O 12 (.mv (.t 87))])
 (.seq (.reg [O 89 (.ld (some 3) (.t 2)),
 O 90 (.mv (.t 1)),
 O 91 (.mv (.t 12)),
 O 92 (.call 8 [(.t 89), (.t 90), (.t 91)]),
 O 88 (.mv (.t 92)),
 O 93 (.ext (.t 88) 0),
 O 94 (.ext (.t 88) 1),
 O 13 (.mv (.t 93)),
 O 14 (.mv (.t 94))])
 (.seq (.draw 16 [O 96 (.ld (some 3) (.t 2)),
 O 97 (.fadr 0 (.t 2)),
 O 98 (.ld none (.t 97)),
 O 99 (.mv (.t 11)),
 O 100 (.iadr 2 (.t 98) (.t 99)),
 O 101 (.fadr 1 (.t 100)),
 O 102 (.ld none (.t 101)),
 O 103 (.mv (.t 12)),
 O 104 (.iadr 2 (.t 102) (.t 103)),
 O 105 (.fadr 1 (.t 104)),
 O 106 (.ld none (.t 105)),
 O 107 (.call 23 [(.t 96), (.t 106)]),
 O 95 (.mv (.t 107)),
 O 108 (.ext (.t 95) 0),
 O 109 (.ext (.t 95) 1),
 O 15 (.mv (.t 108)),
 O 16 (.mv (.t 109))])
 (.seq (.reg [O 110 (.mv (.t 14)),
 O 111 (.bin .eql (.t 110) (.c (.d (.int .i64 0)))),
 O 112 (.mv (.t 111)),
 G 113 (.mv (.t 16)) 112 true,
 G 114 (.bin .eql (.t 113) (.c (.d (.int .i64 0)))) 112 true,
 O 115 (.pick (.t 112) (.t 114) (.c (.d (.bool false)))),
 O 116 (.mv (.t 115)),
 G 117 (.mv (.t 13)) 116 true,
 G 118 (.mv (.t 15)) 116 true,
 G 119 (.bin .add (.t 117) (.t 118)) 116 true,
 G 120 (.mv (.t 9)) 116 true,
 G 121 (.bin .eql (.t 119) (.t 120)) 116 true,
 O 122 (.pick (.t 116) (.t 121) (.c (.d (.bool false)))),
 O 123 (.mv (.t 122)),
 G 124 (.call 12 []) 123 true,
 O 125 (.pick (.t 123) (.t 124) (.c (.d (.bool false)))),
 O 4 (.mv (.t 125))])
 .ret))))))))))))
def F7 : VFn := ⟨2, 126, B7, [.tmp 4], false⟩

def A7 : Ann := ⟨keepOf [], ghostOf []⟩
-- 8 patina/types.Offset
def K8_0 : List Nat := [3, 11, 42, 43, 44]
def L8_0 : VCode :=
 (.seq (.reg [O 45 (.bin .lss (.t 44) (.t 43))])
 (.seq (.cond (.t 45)
 .skip
 (.exit 0))
 (.seq (.block 1 (.seq (.reg [O 46 (.iadr 2 (.t 42) (.t 44)),
 O 47 (.ld (some 2) (.t 46)),
 O 13 (.zbox [(.d (.str [])), (.d (.str []))]),
 P (.st 2 (.t 13) (.t 47))])
 (.reg [O 48 (.mv (.t 11)),
 O 49 (.ld (some 3) (.t 3)),
 O 50 (.fadr 1 (.t 13)),
 O 51 (.ld none (.t 50)),
 O 52 (.call 30 [(.t 49), (.t 51)]),
 O 53 (.bin .add (.t 48) (.t 52)),
 O 11 (.mv (.t 53))])))
 (.reg [O 54 (.bin .add (.t 44) (.c (.d (.int .i64 1)))),
 O 44 (.mv (.t 54))]))))
def B8 : VCode :=
 (.seq (.reg [O 3 (.box (.t 0)),
 O 6 (.mv (.c (.d (.int .i64 0)))),
 O 7 (.mv (.c (.d (.int .i64 0))))])
 (.seq (.seq (.reg [O 14 (.ld (some 3) (.t 3)),
 O 15 (.mv (.t 1)),
 O 16 (.call 28 [(.t 14), (.t 15)]),
 O 8 (.mv (.t 16))])
 (.seq (.reg [O 17 (.mv (.t 8)),
 O 18 (.bin .neq (.t 17) (.c (.d (.int .i64 0))))])
 (.cond (.t 18)
 (.seq (.reg [O 19 (.mv (.t 8)),
 O 6 (.mv (.c (.d (.int .i64 0)))),
 O 7 (.mv (.t 19))])
 .ret)
 .skip)))
 (.seq (.reg [O 21 (.ld (some 3) (.t 3)),
 O 22 (.mv (.t 1)),
 O 23 (.call 29 [(.t 21), (.t 22)]),
 O 20 (.mv (.t 23)),
 O 24 (.ext (.t 20) 0),
 O 25 (.ext (.t 20) 1),
 O 9 (.zbox [(.d (.str [])), .nils]),
 P (.st 2 (.t 9) (.t 24)),
 O 10 (.mv (.t 25))])
 (.seq (.seq (.reg [O 26 (.mv (.t 10)),
 O 27 (.un .not (.t 26)),
 O 28 (.mv (.t 27)),
 G 29 (.mv (.t 2)) 28 false,
 G 30 (.bin .lss (.t 29) (.c (.d (.int .i64 0)))) 28 false,
 O 31 (.pick (.t 28) (.c (.d (.bool true))) (.t 30)),
 O 32 (.mv (.t 31)),
 G 33 (.mv (.t 2)) 32 false,
 G 34 (.fadr 1 (.t 9)) 32 false,
 G 35 (.ld none (.t 34)) 32 false,
 G 36 (.len false (.t 35)) 32 false,
 G 37 (.bin .geq (.t 33) (.t 36)) 32 false,
 O 38 (.pick (.t 32) (.c (.d (.bool true))) (.t 37))])
 (.cond (.t 38)
 (.seq (.reg [O 6 (.mv (.c (.d (.int .i64 0)))),
 O 7 (.mv (.c (.d (.int .i64 9))))])
 .ret)
 .skip))
 (.seq (.reg [O 11 (.mv (.c (.d (.int .i64 0))))])
 (.seq (.seq (.reg [O 39 (.fadr 1 (.t 9)),
 O 40 (.ld none (.t 39)),
 O 41 (.mv (.t 2)),
 O 42 (.slc 2 (.t 40) none (some (.t 41))),
 O 43 (.len false (.t 42)),
 O 44 (.mv (.c (.d (.int .i64 0))))])
 (.block 0 (.loop K8_0 L8_0)))
 (.seq (.reg [O 55 (.mv (.t 11)),
 O 6 (.mv (.t 55)),
 O 7 (.mv (.c (.d (.int .i64 0))))])
 .ret)))))))
def F8 : VFn := ⟨3, 56, B8, [.tmp 6, .tmp 7], false⟩

def A8 : Ann := ⟨keepOf [(9, [3, 11, 42, 43, 44])], ghostOf []⟩
-- 9 patina/patinaref15.Offset
def K9_0 : List Nat := [3, 10, 46, 47, 48]
def L9_0 : VCode :=
 (.seq (.reg [O 49 (.bin .lss (.t 48) (.t 47))])
 (.seq (.cond (.t 49)
 .skip
 (.exit 0))
 (.seq (.block 1 (.seq (.reg [O 50 (.iadr 2 (.t 46) (.t 48)),
 O 51 (.ld (some 2) (.t 50)),
 O 12 (.zbox [(.d (.str [])), (.d (.str []))]),
 P (.st 2 (.t 12) (.t 51))])
 (.reg [O 52 (.mv (.t 10)),
 O 53 (.ld (some 3) (.t 3)),
 O 54 (.fadr 1 (.t 12)),
 O 55 (.ld none (.t 54)),
 O 56 (.call 32 [(.t 53), (.t 55)]),
 O 57 (.bin .add (.t 52) (.t 56)),
 O 10 (.mv (.t 57))])))
 (.reg [O 58 (.bin .add (.t 48) (.c (.d (.int .i64 1)))),
 O 48 (.mv (.t 58))]))))
def B9 : VCode :=
 (.seq (.reg [O 3 (.box (.t 0)),
 O 6 (.mv (.c (.d (.int .i64 0)))),
 O 7 (.mv (.c (.d (.int .i64 0))))])
 (.seq (.seq (.reg [O 13 (.ld (some 3) (.t 3)),
 O 14 (.mv (.t 1)),
 O 15 (.call 31 [(.t 13), (.t 14)]),
 O 8 (.mv (.t 15))])
 (.seq (.reg [O 16 (.mv (.t 8)),
 O 17 (.bin .neq (.t 16) (.c (.d (.int .i64 0))))])
 (.cond (.t 17)
 (.seq (.reg [O 18 (.mv (.t 8)),
 O 6 (.mv (.c (.d (.int .i64 0)))),
 O 7 (.mv (.t 18))])
 .ret)
 .skip)))
 (.seq (.reg [O 19 (.ld (some 3) (.t 3)),
 O 20 (.mv (.t 1)),
 O 21 (.call 27 [(.t 19), (.t 20)]),
 O 9 (.mv (.t 21))])
 (.seq (.seq (.reg [O 22 (.mv (.t 9)),
 O 23 (.bin .lss (.t 22) (.c (.d (.int .i64 0)))),
 O 24 (.mv (.t 23)),
 G 25 (.mv (.t 2)) 24 false,
 G 26 (.bin .lss (.t 25) (.c (.d (.int .i64 0)))) 24 false,
 O 27 (.pick (.t 24) (.c (.d (.bool true))) (.t 26)),
 O 28 (.mv (.t 27)),
 G 29 (.mv (.t 2)) 28 false,
 G 30 (.fadr 0 (.t 3)) 28 false,
 G 31 (.ld none (.t 30)) 28 false,
 G 32 (.mv (.t 9)) 28 false,
 G 33 (.iadr 2 (.t 31) (.t 32)) 28 false,
 G 34 (.fadr 1 (.t 33)) 28 false,
 G 35 (.ld none (.t 34)) 28 false,
 G 36 (.len false (.t 35)) 28 false,
 G 37 (.bin .geq (.t 29) (.t 36)) 28 false,
 O 38 (.pick (.t 28) (.c (.d (.bool true))) (.t 37))])
 (.cond (.t 38)
 (.seq (.reg [O 6 (.mv (.c (.d (.int .i64 0)))),
 O 7 (.mv (.c (.d (.int .i64 9))))])
 .ret)
 .skip))
 (.seq (.reg [O 10 (.mv (.c (.d (.int .i64 0))))])
 (.seq (.seq (.reg [O 39 (.fadr 0 (.t 3)),
 O 40 (.ld none (.t 39)),
 O 41 (.mv (.t 9)),
 O 42 (.iadr 2 (.t 40) (.t 41)),
 O 43 (.fadr 1 (.t 42)),
 O 44 (.ld none (.t 43)),
 O 45 (.mv (.t 2)),
 O 46 (.slc 2 (.t 44) none (some (.t 45))),
 O 47 (.len false (.t 46)),
 O 48 (.mv (.c (.d (.int .i64 0))))])
 (.block 0 (.loop K9_0 L9_0)))
 (.seq (.reg [O 59 (.mv (.t 10)),
 O 6 (.mv (.t 59)),
 O 7 (.mv (.c (.d (.int .i64 0))))])
 .ret)))))))
def F9 : VFn := ⟨3, 60, B9, [.tmp 6, .tmp 7], false⟩

def A9 : Ann := ⟨keepOf [(9, [3, 10, 46, 47, 48])], ghostOf []⟩
-- 10 patina/types.At
def K10_0 : List Nat := [1, 3, 22, 23, 24]
def L10_0 : VCode :=
 (.seq (.reg [O 25 (.bin .lss (.t 24) (.t 23))])
 (.seq (.cond (.t 25)
 .skip
 (.exit 0))
 (.seq (.block 1 (.seq (.reg [O 26 (.iadr 1 (.t 22) (.t 24)),
 O 27 (.ld none (.t 26)),
 O 10 (.mv (.t 27))])
 (.seq (.reg [O 29 (.ld (some 3) (.t 3)),
 O 30 (.mv (.t 1)),
 O 31 (.mv (.t 10)),
 O 32 (.call 33 [(.t 29), (.t 30), (.t 31)]),
 O 28 (.mv (.t 32)),
 O 33 (.ext (.t 28) 0),
 O 34 (.ext (.t 28) 1),
 O 11 (.mv (.t 33)),
 O 12 (.mv (.t 34))])
 (.seq (.seq (.reg [O 35 (.mv (.t 12)),
 O 36 (.un .not (.t 35))])
 (.cond (.t 36)
 (.seq (.reg [O 6 (.mv (.c (.d (.str [])))),
 O 7 (.mv (.c (.d (.int .i64 9))))])
 .ret)
 .skip))
 (.reg [O 37 (.mv (.t 11)),
 O 1 (.mv (.t 37))])))))
 (.reg [O 38 (.bin .add (.t 24) (.c (.d (.int .i64 1)))),
 O 24 (.mv (.t 38))]))))
def B10 : VCode :=
 (.seq (.reg [O 3 (.box (.t 0)),
 O 6 (.mv (.c (.d (.str [])))),
 O 7 (.mv (.c (.d (.int .i64 0))))])
 (.seq (.seq (.reg [O 13 (.ld (some 3) (.t 3)),
 O 14 (.mv (.t 1)),
 O 15 (.call 28 [(.t 13), (.t 14)]),
 O 8 (.mv (.t 15))])
 (.seq (.reg [O 16 (.mv (.t 8)),
 O 17 (.bin .neq (.t 16) (.c (.d (.int .i64 0))))])
 (.cond (.t 17)
 (.seq (.reg [O 18 (.mv (.t 8)),
 O 6 (.mv (.c (.d (.str [])))),
 O 7 (.mv (.t 18))])
 .ret)
 .skip)))
 (.seq (.seq (.reg [O 19 (.mv (.t 2)),
 O 20 (.len false (.t 19)),
 O 21 (.bin .gtr (.t 20) (.c (.d (.int .i64 100))))])
 (.cond (.t 21)
 (.seq (.reg [O 6 (.mv (.c (.d (.str [])))),
 O 7 (.mv (.c (.d (.int .i64 2))))])
 .ret)
 .skip))
 (.seq (.seq (.reg [O 22 (.mv (.t 2)),
 O 23 (.len false (.t 22)),
 O 24 (.mv (.c (.d (.int .i64 0))))])
 (.block 0 (.loop K10_0 L10_0)))
 (.seq (.reg [O 39 (.mv (.t 1)),
 O 6 (.mv (.t 39)),
 O 7 (.mv (.c (.d (.int .i64 0))))])
 .ret)))))
def F10 : VFn := ⟨3, 40, B10, [.tmp 6, .tmp 7], false⟩

def A10 : Ann := ⟨keepOf [(7, [1, 3, 22, 23, 24])], ghostOf []⟩
-- 11 patina/patinaref15.At
def B11 : VCode :=
 (.seq (.reg [O 3 (.box (.t 0)),
 O 6 (.mv (.c (.d (.str [])))),
 O 7 (.mv (.c (.d (.int .i64 0))))])
 (.seq (.seq (.reg [O 11 (.ld (some 3) (.t 3)),
 O 12 (.mv (.t 1)),
 O 13 (.call 31 [(.t 11), (.t 12)]),
 O 8 (.mv (.t 13))])
 (.seq (.reg [O 14 (.mv (.t 8)),
 O 15 (.bin .neq (.t 14) (.c (.d (.int .i64 0))))])
 (.cond (.t 15)
 (.seq (.reg [O 16 (.mv (.t 8)),
 O 6 (.mv (.c (.d (.str [])))),
 O 7 (.mv (.t 16))])
 .ret)
 .skip)))
 (.seq (.seq (.reg [O 17 (.mv (.t 2)),
 O 18 (.len false (.t 17)),
 O 19 (.bin .gtr (.t 18) (.c (.d (.int .i64 100))))])
 (.cond (.t 19)
 (.seq (.reg [O 6 (.mv (.c (.d (.str [])))),
 O 7 (.mv (.c (.d (.int .i64 2))))])
 .ret)
 .skip))
 (.seq (.reg [O 21 (.ld (some 3) (.t 3)),
 O 22 (.mv (.t 1)),
 O 23 (.mv (.t 2)),
 O 24 (.call 34 [(.t 21), (.t 22), (.t 23)]),
 O 20 (.mv (.t 24)),
 O 25 (.ext (.t 20) 0),
 O 26 (.ext (.t 20) 1),
 O 9 (.mv (.t 25)),
 O 10 (.mv (.t 26))])
 (.seq (.seq (.reg [O 27 (.mv (.t 10)),
 O 28 (.un .not (.t 27))])
 (.cond (.t 28)
 (.seq (.reg [O 6 (.mv (.c (.d (.str [])))),
 O 7 (.mv (.c (.d (.int .i64 9))))])
 .ret)
 .skip))
 (.seq (.reg [O 29 (.mv (.t 9)),
 O 6 (.mv (.t 29)),
 O 7 (.mv (.c (.d (.int .i64 0))))])
 .ret))))))
def F11 : VFn := ⟨3, 30, B11, [.tmp 6, .tmp 7], false⟩

def A11 : Ann := ⟨keepOf [], ghostOf []⟩
-- 12 patina/patinalaw15.small
def B12 : VCode :=
 (.seq (.reg [O 0 (.mv (.c (.d (.bool false))))])
 (.seq (.reg [O 12 (.call 35 []),
 O 13 (.call 23 [(.t 12), (.c (.d (.str [83])))]),
 O 11 (.mv (.t 13)),
 O 14 (.ext (.t 11) 0),
 O 15 (.ext (.t 11) 1),
 O 1 (.mv (.t 14)),
 O 2 (.mv (.t 15))])
 (.seq (.reg [O 17 (.call 35 []),
 O 18 (.bslice 1 3 [(.c (.d (.int .i64 1))), (.c (.d (.int .i64 (-1)))), (.c (.d (.int .i64 0)))]),
 O 19 (.call 10 [(.t 17), (.c (.d (.str [83]))), (.t 18)]),
 O 16 (.mv (.t 19)),
 O 20 (.ext (.t 16) 0),
 O 21 (.ext (.t 16) 1),
 O 3 (.mv (.t 20)),
 O 4 (.mv (.t 21))])
 (.seq (.reg [O 23 (.call 35 []),
 O 24 (.call 21 [(.t 23), (.c (.d (.str [83])))]),
 O 22 (.mv (.t 24)),
 O 25 (.ext (.t 22) 0),
 O 26 (.ext (.t 22) 1),
 O 5 (.mv (.t 25)),
 O 6 (.mv (.t 26))])
 (.seq (.reg [O 28 (.call 35 []),
 O 29 (.call 8 [(.t 28), (.c (.d (.str [83]))), (.c (.d (.int .i64 1)))]),
 O 27 (.mv (.t 29)),
 O 30 (.ext (.t 27) 0),
 O 31 (.ext (.t 27) 1),
 O 7 (.mv (.t 30)),
 O 8 (.mv (.t 31))])
 (.seq (.reg [O 33 (.call 13 [(.c (.d (.str [38, 109, 117, 116, 32, 83])))]),
 O 32 (.mv (.t 33)),
 O 34 (.ext (.t 32) 0),
 O 35 (.ext (.t 32) 1),
 O 9 (.mv (.t 34)),
 O 10 (.mv (.t 35))])
 (.seq (.reg [O 36 (.mv (.t 2)),
 O 37 (.bin .eql (.t 36) (.c (.d (.int .i64 0)))),
 O 38 (.mv (.t 37)),
 G 39 (.mv (.t 4)) 38 true,
 G 40 (.bin .eql (.t 39) (.c (.d (.int .i64 0)))) 38 true,
 O 41 (.pick (.t 38) (.t 40) (.c (.d (.bool false)))),
 O 42 (.mv (.t 41)),
 G 43 (.mv (.t 6)) 42 true,
 G 44 (.bin .eql (.t 43) (.c (.d (.int .i64 0)))) 42 true,
 O 45 (.pick (.t 42) (.t 44) (.c (.d (.bool false)))),
 O 46 (.mv (.t 45)),
 G 47 (.mv (.t 8)) 46 true,
 G 48 (.bin .eql (.t 47) (.c (.d (.int .i64 0)))) 46 true,
 O 49 (.pick (.t 46) (.t 48) (.c (.d (.bool false)))),
 O 50 (.mv (.t 49)),
 G 51 (.mv (.t 1)) 50 true,
 G 52 (.bin .eql (.t 51) (.c (.d (.int .i64 2)))) 50 true,
 O 53 (.pick (.t 50) (.t 52) (.c (.d (.bool false)))),
 O 54 (.mv (.t 53)),
 G 55 (.mv (.t 3)) 54 true,
 G 56 (.bin .eql (.t 55) (.c (.d (.str [105, 54, 52])))) 54 true,
 O 57 (.pick (.t 54) (.t 56) (.c (.d (.bool false)))),
 O 58 (.mv (.t 57)),
 G 59 (.mv (.t 5)) 58 true,
 O 60 (.pick (.t 58) (.t 59) (.c (.d (.bool false)))),
 O 61 (.mv (.t 60)),
 G 62 (.mv (.t 7)) 61 true,
 G 63 (.bin .eql (.t 62) (.c (.d (.int .i64 1)))) 61 true,
 O 64 (.pick (.t 61) (.t 63) (.c (.d (.bool false)))),
 O 65 (.mv (.t 64)),
 G 66 (.mv (.t 10)) 65 true,
 O 67 (.pick (.t 65) (.t 66) (.c (.d (.bool false)))),
 O 68 (.mv (.t 67)),
 G 69 (.mv (.t 9)) 68 true,
 G 70 (.bin .eql (.t 69) (.c (.d (.str [83])))) 68 true,
 O 71 (.pick (.t 68) (.t 70) (.c (.d (.bool false)))),
 O 72 (.mv (.t 71)),
 G 73 (.call 17 [(.c (.d (.str [33]))), (.c (.d (.str [83])))]) 72 true,
 O 74 (.pick (.t 72) (.t 73) (.c (.d (.bool false)))),
 O 75 (.mv (.t 74)),
 G 76 (.call 35 []) 75 true,
 G 77 (.call 25 [(.t 76), (.c (.d (.str [38, 83])))]) 75 true,
 O 78 (.pick (.t 75) (.t 77) (.c (.d (.bool false)))),
 O 79 (.mv (.t 78)),
 G 80 (.call 35 []) 79 true,
 G 81 (.call 25 [(.t 80), (.c (.d (.str [84])))]) 79 true,
 G 82 (.un .not (.t 81)) 79 true,
 O 83 (.pick (.t 79) (.t 82) (.c (.d (.bool false)))),
 O 0 (.mv (.t 83))])
 .ret)))))))
def F12 : VFn := ⟨0, 84, B12, [.tmp 0], false⟩

def A12 : Ann := ⟨keepOf [], ghostOf []⟩
-- 13 patina/types.Inner
def K13_0 : List Nat := [0, 12, 13, 14]
def L13_0 : VCode :=
 (.seq (.reg [O 15 (.bin .lss (.t 14) (.t 13))])
 (.seq (.cond (.t 15)
 .skip
 (.exit 0))
 (.seq (.block 1 (.seq (.reg [O 16 (.iadr 1 (.t 12) (.t 14)),
 O 17 (.ld none (.t 16)),
 O 5 (.mv (.t 17))])
 (.seq (.reg [O 19 (.mv (.t 0)),
 O 20 (.mv (.t 5)),
 O 21 (.call 36 [(.t 19), (.t 20)]),
 O 18 (.mv (.t 21)),
 O 22 (.ext (.t 18) 0),
 O 23 (.ext (.t 18) 1),
 O 6 (.mv (.t 22)),
 O 7 (.mv (.t 23))])
 (.seq (.reg [O 24 (.mv (.t 7))])
 (.cond (.t 24)
 (.seq (.reg [O 25 (.mv (.t 6)),
 O 2 (.mv (.t 25)),
 O 3 (.mv (.c (.d (.bool true))))])
 .ret)
 .skip)))))
 (.reg [O 26 (.bin .add (.t 14) (.c (.d (.int .i64 1)))),
 O 14 (.mv (.t 26))]))))
def B13 : VCode :=
 (.seq (.reg [O 2 (.mv (.c (.d (.str [])))),
 O 3 (.mv (.c (.d (.bool false))))])
 (.seq (.seq (.reg [O 12 (.bslice 1 2 [(.c (.d (.str [38, 109, 117, 116, 32]))), (.c (.d (.str [38])))]),
 O 13 (.len false (.t 12)),
 O 14 (.mv (.c (.d (.int .i64 0))))])
 (.block 0 (.loop K13_0 L13_0)))
 (.seq (.seq (.reg [O 28 (.mv (.t 0)),
 O 29 (.call 36 [(.t 28), (.c (.d (.str [66, 111, 120, 60])))]),
 O 27 (.mv (.t 29)),
 O 30 (.ext (.t 27) 0),
 O 31 (.ext (.t 27) 1),
 O 8 (.mv (.t 30)),
 O 9 (.mv (.t 31))])
 (.seq (.reg [O 32 (.mv (.t 9))])
 (.cond (.t 32)
 (.seq (.reg [O 34 (.mv (.t 8)),
 O 35 (.call 37 [(.t 34), (.c (.d (.str [62])))]),
 O 33 (.mv (.t 35)),
 O 36 (.ext (.t 33) 0),
 O 37 (.ext (.t 33) 1),
 O 10 (.mv (.t 36)),
 O 11 (.mv (.t 37))])
 (.seq (.reg [O 38 (.mv (.t 11))])
 (.cond (.t 38)
 (.seq (.reg [O 39 (.mv (.t 10)),
 O 2 (.mv (.t 39)),
 O 3 (.mv (.c (.d (.bool true))))])
 .ret)
 .skip)))
 .skip)))
 (.seq (.reg [O 2 (.mv (.c (.d (.str [])))),
 O 3 (.mv (.c (.d (.bool false))))])
 .ret))))
def F13 : VFn := ⟨1, 40, B13, [.tmp 2, .tmp 3], false⟩

def A13 : Ann := ⟨keepOf [(2, [0, 12, 13, 14])], ghostOf []⟩
-- 14 patina/patinaref15.Inner
def B14 : VCode :=
 (.seq (.reg [O 2 (.mv (.c (.d (.str [])))),
 O 3 (.mv (.c (.d (.bool false))))])
 (.seq (.block 0 (.seq (.reg [O 5 (.mv (.t 0)),
 O 6 (.call 38 [(.t 5), (.c (.d (.str [38, 109, 117, 116, 32])))]),
 O 4 (.mv (.t 6))])
 (.cond (.t 4)
 (.seq (.reg [O 7 (.mv (.t 0)),
 O 8 (.slcs (.t 7) (some (.c (.d (.int .i64 5)))) none),
 O 2 (.mv (.t 8)),
 O 3 (.mv (.c (.d (.bool true))))])
 .ret)
 (.seq (.reg [O 10 (.mv (.t 0)),
 O 11 (.call 38 [(.t 10), (.c (.d (.str [38])))]),
 O 9 (.mv (.t 11))])
 (.cond (.t 9)
 (.seq (.reg [O 12 (.mv (.t 0)),
 O 13 (.slcs (.t 12) (some (.c (.d (.int .i64 1)))) none),
 O 2 (.mv (.t 13)),
 O 3 (.mv (.c (.d (.bool true))))])
 .ret)
 (.seq (.reg [O 15 (.mv (.t 0)),
 O 16 (.call 38 [(.t 15), (.c (.d (.str [66, 111, 120, 60])))]),
 O 17 (.mv (.t 16)),
 G 18 (.mv (.t 0)) 17 true,
 G 19 (.mv (.t 0)) 17 true,
 G 20 (.len true (.t 19)) 17 true,
 G 21 (.bin .sub (.t 20) (.c (.d (.int .i64 1)))) 17 true,
 G 22 (.idx (.t 18) (.t 21)) 17 true,
 G 23 (.bin .eql (.t 22) (.c (.d (.int .u8 62)))) 17 true,
 O 24 (.pick (.t 17) (.t 23) (.c (.d (.bool false)))),
 O 14 (.mv (.t 24))])
 (.cond (.t 14)
 (.seq (.reg [O 25 (.mv (.t 0)),
 O 26 (.mv (.t 0)),
 O 27 (.len true (.t 26)),
 O 28 (.bin .sub (.t 27) (.c (.d (.int .i64 1)))),
 O 29 (.slcs (.t 25) (some (.c (.d (.int .i64 4)))) (some (.t 28))),
 O 2 (.mv (.t 29)),
 O 3 (.mv (.c (.d (.bool true))))])
 .ret)
 .skip)))))))
 (.seq (.reg [O 2 (.mv (.c (.d (.str [])))),
 O 3 (.mv (.c (.d (.bool false))))])
 .ret)))
def F14 : VFn := ⟨1, 30, B14, [.tmp 2, .tmp 3], false⟩

def A14 : Ann := ⟨keepOf [], ghostOf []⟩
-- 15 patina/types.Ref
def B15 : VCode :=
 (.seq (.reg [O 2 (.mv (.c (.d (.bool false)))),
 O 3 (.mv (.c (.d (.bool false))))])
 (.seq (.reg [O 4 (.mv (.t 0)),
 O 5 (.call 39 [(.t 4), (.c (.d (.str [38])))]),
 O 6 (.mv (.t 0)),
 O 7 (.call 39 [(.t 6), (.c (.d (.str [38, 109, 117, 116, 32])))]),
 O 2 (.mv (.t 5)),
 O 3 (.mv (.t 7))])
 .ret))
def F15 : VFn := ⟨1, 8, B15, [.tmp 2, .tmp 3], false⟩

def A15 : Ann := ⟨keepOf [], ghostOf []⟩
-- 16 patina/patinaref15.Ref
def B16 : VCode :=
 (.seq (.reg [O 2 (.mv (.c (.d (.bool false)))),
 O 3 (.mv (.c (.d (.bool false))))])
 (.seq (.reg [O 4 (.mv (.t 0)),
 O 5 (.call 38 [(.t 4), (.c (.d (.str [38])))]),
 O 6 (.mv (.t 0)),
 O 7 (.call 38 [(.t 6), (.c (.d (.str [38, 109, 117, 116, 32])))]),
 O 2 (.mv (.t 5)),
 O 3 (.mv (.t 7))])
 .ret))
def F16 : VFn := ⟨1, 8, B16, [.tmp 2, .tmp 3], false⟩

def A16 : Ann := ⟨keepOf [], ghostOf []⟩
-- 17 patina/types.Fits
def B17 : VCode :=
 (.seq (.reg [O 4 (.mv (.c (.d (.bool false))))])
 (.seq (.reg [O 5 (.mv (.t 0)),
 O 6 (.mv (.t 1)),
 O 7 (.bin .eql (.t 5) (.t 6)),
 O 8 (.mv (.t 7)),
 G 9 (.mv (.t 0)) 8 false,
 G 10 (.bin .eql (.t 9) (.c (.d (.str [33])))) 8 false,
 O 11 (.pick (.t 8) (.c (.d (.bool true))) (.t 10)),
 O 4 (.mv (.t 11))])
 .ret))
def F17 : VFn := ⟨2, 12, B17, [.tmp 4], false⟩

def A17 : Ann := ⟨keepOf [], ghostOf []⟩
-- 18 patina/patinaref15.Fits
def B18 : VCode :=
 (.seq (.reg [O 4 (.mv (.c (.d (.bool false))))])
 (.seq (.reg [O 5 (.mv (.t 0)),
 O 6 (.mv (.t 1)),
 O 7 (.bin .eql (.t 5) (.t 6)),
 O 8 (.mv (.t 7)),
 G 9 (.mv (.t 0)) 8 false,
 G 10 (.bin .eql (.t 9) (.c (.d (.str [33])))) 8 false,
 O 11 (.pick (.t 8) (.c (.d (.bool true))) (.t 10)),
 O 4 (.mv (.t 11))])
 .ret))
def F18 : VFn := ⟨2, 12, B18, [.tmp 4], false⟩

def A18 : Ann := ⟨keepOf [], ghostOf []⟩
-- 19 patina/types.Copy
def B19 : VCode :=
 (.seq (.reg [O 2 (.box (.t 0)),
 O 4 (.mv (.c (.d (.bool false)))),
 O 5 (.mv (.c (.d (.int .i64 0))))])
 (.seq (.seq (.reg [O 9 (.ld (some 3) (.t 2)),
 O 10 (.mv (.t 1)),
 O 11 (.call 28 [(.t 9), (.t 10)]),
 O 6 (.mv (.t 11))])
 (.seq (.reg [O 12 (.mv (.t 6)),
 O 13 (.bin .neq (.t 12) (.c (.d (.int .i64 0))))])
 (.cond (.t 13)
 (.seq (.reg [O 14 (.mv (.t 6)),
 O 4 (.mv (.c (.d (.bool false)))),
 O 5 (.mv (.t 14))])
 .ret)
 .skip)))
 (.seq (.reg [O 16 (.mv (.t 1)),
 O 17 (.call 15 [(.t 16)]),
 O 15 (.mv (.t 17)),
 O 18 (.ext (.t 15) 0),
 O 19 (.ext (.t 15) 1),
 O 7 (.mv (.t 18)),
 O 8 (.mv (.t 19))])
 (.seq (.reg [O 20 (.mv (.t 1)),
 O 21 (.call 40 [(.t 20)]),
 O 22 (.mv (.t 21)),
 G 23 (.mv (.t 8)) 22 true,
 G 24 (.un .not (.t 23)) 22 true,
 O 25 (.pick (.t 22) (.t 24) (.c (.d (.bool false)))),
 O 26 (.mv (.t 25)),
 G 27 (.mv (.t 1)) 26 false,
 G 28 (.bin .eql (.t 27) (.c (.d (.str [105, 54, 52])))) 26 false,
 O 29 (.pick (.t 26) (.c (.d (.bool true))) (.t 28)),
 O 30 (.mv (.t 29)),
 G 31 (.mv (.t 1)) 30 false,
 G 32 (.bin .eql (.t 31) (.c (.d (.str [98, 111, 111, 108])))) 30 false,
 O 33 (.pick (.t 30) (.c (.d (.bool true))) (.t 32)),
 O 34 (.mv (.t 33)),
 G 35 (.mv (.t 1)) 34 false,
 G 36 (.bin .eql (.t 35) (.c (.d (.str [40, 41])))) 34 false,
 O 37 (.pick (.t 34) (.c (.d (.bool true))) (.t 36)),
 O 4 (.mv (.t 37)),
 O 5 (.mv (.c (.d (.int .i64 0))))])
 .ret))))
def F19 : VFn := ⟨2, 38, B19, [.tmp 4, .tmp 5], false⟩

def A19 : Ann := ⟨keepOf [], ghostOf []⟩
-- 20 patina/patinaref15.Copy
def B20 : VCode :=
 (.seq (.reg [O 2 (.box (.t 0)),
 O 4 (.mv (.c (.d (.bool false)))),
 O 5 (.mv (.c (.d (.int .i64 0))))])
 (.seq (.seq (.reg [O 7 (.ld (some 3) (.t 2)),
 O 8 (.mv (.t 1)),
 O 9 (.call 31 [(.t 7), (.t 8)]),
 O 6 (.mv (.t 9))])
 (.seq (.reg [O 10 (.mv (.t 6)),
 O 11 (.bin .neq (.t 10) (.c (.d (.int .i64 0))))])
 (.cond (.t 11)
 (.seq (.reg [O 12 (.mv (.t 6)),
 O 4 (.mv (.c (.d (.bool false)))),
 O 5 (.mv (.t 12))])
 .ret)
 .skip)))
 (.seq (.reg [O 13 (.mv (.t 1)),
 O 14 (.call 41 [(.t 13)]),
 O 4 (.mv (.t 14)),
 O 5 (.mv (.c (.d (.int .i64 0))))])
 .ret)))
def F20 : VFn := ⟨2, 15, B20, [.tmp 4, .tmp 5], false⟩

def A20 : Ann := ⟨keepOf [], ghostOf []⟩
-- 21 patina/types.Owns
def B21 : VCode :=
 (.seq (.reg [O 2 (.box (.t 0)),
 O 4 (.mv (.c (.d (.bool false)))),
 O 5 (.mv (.c (.d (.int .i64 0))))])
 (.seq (.seq (.reg [O 7 (.ld (some 3) (.t 2)),
 O 8 (.mv (.t 1)),
 O 9 (.call 28 [(.t 7), (.t 8)]),
 O 6 (.mv (.t 9))])
 (.seq (.reg [O 10 (.mv (.t 6)),
 O 11 (.bin .neq (.t 10) (.c (.d (.int .i64 0))))])
 (.cond (.t 11)
 (.seq (.reg [O 12 (.mv (.t 6)),
 O 4 (.mv (.c (.d (.bool false)))),
 O 5 (.mv (.t 12))])
 .ret)
 .skip)))
 (.seq (.reg [O 13 (.ld (some 3) (.t 2)),
 O 14 (.mv (.t 1)),
 O 15 (.call 42 [(.t 13), (.t 14)]),
 O 4 (.mv (.t 15)),
 O 5 (.mv (.c (.d (.int .i64 0))))])
 .ret)))
def F21 : VFn := ⟨2, 16, B21, [.tmp 4, .tmp 5], false⟩

def A21 : Ann := ⟨keepOf [], ghostOf []⟩
-- 22 patina/patinaref15.Owns
def B22 : VCode :=
 (.seq (.reg [O 2 (.box (.t 0)),
 O 4 (.mv (.c (.d (.bool false)))),
 O 5 (.mv (.c (.d (.int .i64 0))))])
 (.seq (.seq (.reg [O 7 (.ld (some 3) (.t 2)),
 O 8 (.mv (.t 1)),
 O 9 (.call 31 [(.t 7), (.t 8)]),
 O 6 (.mv (.t 9))])
 (.seq (.reg [O 10 (.mv (.t 6)),
 O 11 (.bin .neq (.t 10) (.c (.d (.int .i64 0))))])
 (.cond (.t 11)
 (.seq (.reg [O 12 (.mv (.t 6)),
 O 4 (.mv (.c (.d (.bool false)))),
 O 5 (.mv (.t 12))])
 .ret)
 .skip)))
 (.seq (.reg [O 13 (.ld (some 3) (.t 2)),
 O 14 (.mv (.t 1)),
 O 15 (.call 43 [(.t 13), (.t 14)]),
 O 4 (.mv (.t 15)),
 O 5 (.mv (.c (.d (.int .i64 0))))])
 .ret)))
def F22 : VFn := ⟨2, 16, B22, [.tmp 4, .tmp 5], false⟩

def A22 : Ann := ⟨keepOf [], ghostOf []⟩
-- 23 patina/types.Words
def B23 : VCode :=
 (.seq (.reg [O 2 (.box (.t 0)),
 O 4 (.mv (.c (.d (.int .i64 0)))),
 O 5 (.mv (.c (.d (.int .i64 0))))])
 (.seq (.seq (.reg [O 7 (.ld (some 3) (.t 2)),
 O 8 (.mv (.t 1)),
 O 9 (.call 28 [(.t 7), (.t 8)]),
 O 6 (.mv (.t 9))])
 (.seq (.reg [O 10 (.mv (.t 6)),
 O 11 (.bin .neq (.t 10) (.c (.d (.int .i64 0))))])
 (.cond (.t 11)
 (.seq (.reg [O 12 (.mv (.t 6)),
 O 4 (.mv (.c (.d (.int .i64 0)))),
 O 5 (.mv (.t 12))])
 .ret)
 .skip)))
 (.seq (.reg [O 13 (.ld (some 3) (.t 2)),
 O 14 (.mv (.t 1)),
 O 15 (.call 30 [(.t 13), (.t 14)]),
 O 4 (.mv (.t 15)),
 O 5 (.mv (.c (.d (.int .i64 0))))])
 .ret)))
def F23 : VFn := ⟨2, 16, B23, [.tmp 4, .tmp 5], false⟩

def A23 : Ann := ⟨keepOf [], ghostOf []⟩
-- 24 patina/patinaref15.Words
def B24 : VCode :=
 (.seq (.reg [O 2 (.box (.t 0)),
 O 4 (.mv (.c (.d (.int .i64 0)))),
 O 5 (.mv (.c (.d (.int .i64 0))))])
 (.seq (.seq (.reg [O 7 (.ld (some 3) (.t 2)),
 O 8 (.mv (.t 1)),
 O 9 (.call 31 [(.t 7), (.t 8)]),
 O 6 (.mv (.t 9))])
 (.seq (.reg [O 10 (.mv (.t 6)),
 O 11 (.bin .neq (.t 10) (.c (.d (.int .i64 0))))])
 (.cond (.t 11)
 (.seq (.reg [O 12 (.mv (.t 6)),
 O 4 (.mv (.c (.d (.int .i64 0)))),
 O 5 (.mv (.t 12))])
 .ret)
 .skip)))
 (.seq (.reg [O 13 (.ld (some 3) (.t 2)),
 O 14 (.mv (.t 1)),
 O 15 (.call 32 [(.t 13), (.t 14)]),
 O 4 (.mv (.t 15)),
 O 5 (.mv (.c (.d (.int .i64 0))))])
 .ret)))
def F24 : VFn := ⟨2, 16, B24, [.tmp 4, .tmp 5], false⟩

def A24 : Ann := ⟨keepOf [], ghostOf []⟩
-- 25 patina/types.Right
def B25 : VCode :=
 (.seq (.reg [O 2 (.box (.t 0)),
 O 4 (.mv (.c (.d (.bool false))))])
 (.seq (.reg [O 5 (.ld (some 3) (.t 2)),
 O 6 (.mv (.t 1)),
 O 7 (.call 28 [(.t 5), (.t 6)]),
 O 8 (.bin .eql (.t 7) (.c (.d (.int .i64 0)))),
 O 4 (.mv (.t 8))])
 .ret))
def F25 : VFn := ⟨2, 9, B25, [.tmp 4], false⟩

def A25 : Ann := ⟨keepOf [], ghostOf []⟩
-- 26 patina/patinaref15.Right
def B26 : VCode :=
 (.seq (.reg [O 2 (.box (.t 0)),
 O 4 (.mv (.c (.d (.bool false))))])
 (.seq (.reg [O 5 (.ld (some 3) (.t 2)),
 O 6 (.call 44 [(.t 5)]),
 O 7 (.mv (.t 6)),
 G 8 (.ld (some 3) (.t 2)) 7 true,
 G 9 (.mv (.t 1)) 7 true,
 G 10 (.call 45 [(.t 8), (.t 9)]) 7 true,
 O 11 (.pick (.t 7) (.t 10) (.c (.d (.bool false)))),
 O 4 (.mv (.t 11))])
 .ret))
def F26 : VFn := ⟨2, 12, B26, [.tmp 4], false⟩

def A26 : Ann := ⟨keepOf [], ghostOf []⟩
-- 27 patina/patinaref15.Struct
def K27_0 : List Nat := [1, 8, 9, 10]
def L27_0 : VCode :=
 (.seq (.reg [O 11 (.bin .lss (.t 10) (.t 9))])
 (.seq (.cond (.t 11)
 .skip
 (.exit 0))
 (.seq (.block 1 (.seq (.reg [O 12 (.mv (.t 10)),
 O 13 (.iadr 2 (.t 8) (.t 10)),
 O 14 (.ld (some 2) (.t 13)),
 O 6 (.zbox [(.d (.str [])), .nils]),
 O 5 (.mv (.t 12)),
 P (.st 2 (.t 6) (.t 14))])
 (.seq (.reg [O 15 (.fadr 0 (.t 6)),
 O 16 (.ld none (.t 15)),
 O 17 (.mv (.t 1)),
 O 18 (.bin .eql (.t 16) (.t 17))])
 (.cond (.t 18)
 (.seq (.reg [O 19 (.mv (.t 5)),
 O 4 (.mv (.t 19))])
 .ret)
 .skip))))
 (.reg [O 20 (.bin .add (.t 10) (.c (.d (.int .i64 1)))),
 O 10 (.mv (.t 20))]))))
def B27 : VCode :=
 (.seq (.reg [O 2 (.box (.t 0)),
 O 4 (.mv (.c (.d (.int .i64 0))))])
 (.seq (.seq (.reg [O 7 (.fadr 0 (.t 2)),
 O 8 (.ld none (.t 7)),
 O 9 (.len false (.t 8)),
 O 10 (.mv (.c (.d (.int .i64 0))))])
 (.block 0 (.loop K27_0 L27_0)))
 (.seq (.reg [O 4 (.mv (.c (.d (.int .i64 (-1)))))])
 .ret)))
def F27 : VFn := ⟨2, 21, B27, [.tmp 4], false⟩

def A27 : Ann := ⟨keepOf [(2, [1, 8, 9, 10])], ghostOf []⟩
-- 28 patina/types.fit
def B28 : VCode :=
 (.seq (.reg [O 2 (.box (.t 0)),
 O 4 (.mv (.c (.d (.int .i64 0))))])
 (.seq (.seq (.reg [O 6 (.ld (some 3) (.t 2)),
 O 7 (.call 46 [(.t 6)]),
 O 5 (.mv (.t 7))])
 (.seq (.reg [O 8 (.mv (.t 5)),
 O 9 (.bin .neq (.t 8) (.c (.d (.int .i64 0))))])
 (.cond (.t 9)
 (.seq (.reg [O 10 (.mv (.t 5)),
 O 4 (.mv (.t 10))])
 .ret)
 .skip)))
 (.seq (.seq (.reg [O 11 (.ld (some 3) (.t 2)),
 O 12 (.mv (.t 1)),
 O 13 (.call 47 [(.t 11), (.t 12)]),
 O 14 (.un .not (.t 13))])
 (.cond (.t 14)
 (.seq (.reg [O 4 (.mv (.c (.d (.int .i64 1))))])
 .ret)
 .skip))
 (.seq (.reg [O 4 (.mv (.c (.d (.int .i64 0))))])
 .ret))))
def F28 : VFn := ⟨2, 15, B28, [.tmp 4], false⟩

def A28 : Ann := ⟨keepOf [], ghostOf []⟩
-- 29 patina/items.Struct
def B29 : VCode :=
 (.seq (.reg [O 2 (.box (.t 0)),
 O 4 (.zbox [(.d (.str [])), .nils]),
 O 5 (.mv (.c (.d (.bool false))))])
 (.seq (.reg [O 10 (.ld (some 3) (.t 2)),
 O 11 (.call 48 [(.t 10)]),
 O 12 (.nilck (.t 11)),
 O 13 (.fadr 0 (.t 12)),
 O 14 (.mv (.t 1)),
 O 15 (.call 49 [(.t 13), (.t 14)]),
 O 9 (.mv (.t 15)),
 O 16 (.ext (.t 9) 0),
 O 17 (.ext (.t 9) 1),
 O 6 (.mv (.t 16)),
 O 7 (.mv (.t 17))])
 (.seq (.seq (.reg [O 18 (.mv (.t 7)),
 O 19 (.un .not (.t 18))])
 (.cond (.t 19)
 (.seq (.reg [O 20 (.build [(.d (.str [])), .nils] []),
 P (.st 2 (.t 4) (.t 20)),
 O 5 (.mv (.c (.d (.bool false))))])
 .ret)
 .skip))
 (.seq (.reg [O 21 (.fadr 0 (.t 2)),
 O 22 (.ld none (.t 21)),
 O 23 (.mv (.t 6)),
 O 24 (.iadr 2 (.t 22) (.t 23)),
 O 25 (.ld (some 2) (.t 24)),
 O 8 (.zbox [(.d (.str [])), .nils]),
 P (.st 2 (.t 8) (.t 25))])
 (.seq (.draw 5 [O 26 (.fadr 0 (.t 8)),
 O 27 (.ld none (.t 26)),
 O 28 (.fadr 1 (.t 8)),
 O 29 (.ld none (.t 28)),
 O 30 (.call 50 [(.t 29)]),
 O 31 (.build [(.d (.str [])), .nils] [(0, 1, (.t 27)), (1, 1, (.t 30))]),
 P (.st 2 (.t 4) (.t 31)),
 O 5 (.mv (.c (.d (.bool true))))])
 .ret)))))
def F29 : VFn := ⟨2, 32, B29, [.cell 4 (some 2), .tmp 5], false⟩

def A29 : Ann := ⟨keepOf [], ghostOf []⟩
-- 30 patina/types.words
def K30_0 : List Nat := [1, 2, 6, 7, 8, 18, 19, 20]
def L30_0 : VCode :=
 (.seq (.reg [O 21 (.bin .lss (.t 20) (.t 19))])
 (.seq (.cond (.t 21)
 .skip
 (.exit 0))
 (.seq (.block 1 (.seq (.reg [O 22 (.iadr 2 (.t 18) (.t 20)),
 O 23 (.ld (some 2) (.t 22)),
 O 10 (.zbox [(.d (.str [])), (.d (.str []))]),
 P (.st 2 (.t 10) (.t 23))])
 (.seq (.reg [O 24 (.fadr 1 (.t 10)),
 O 25 (.ld none (.t 24)),
 O 26 (.bin .neq (.t 25) (.c (.d (.str []))))])
 (.cond (.t 26)
 (.seq (.reg [O 27 (.ld (some 3) (.t 2)),
 O 28 (.fadr 1 (.t 10)),
 O 29 (.ld none (.t 28)),
 O 30 (.call 30 [(.t 27), (.t 29)]),
 O 11 (.mv (.t 30))])
 (.seq (.reg [O 31 (.mv (.t 7)),
 O 32 (.mv (.t 11)),
 O 33 (.bin .add (.t 31) (.t 32)),
 O 7 (.mv (.t 33))])
 (.reg [O 34 (.mv (.t 8)),
 O 35 (.mv (.t 11)),
 O 36 (.mm true (.t 34) (.t 35)),
 O 8 (.mv (.t 36))])))
 .skip))))
 (.reg [O 37 (.bin .add (.t 20) (.c (.d (.int .i64 1)))),
 O 20 (.mv (.t 37))]))))
def B30 : VCode :=
 (.seq (.reg [O 2 (.box (.t 0)),
 O 4 (.mv (.c (.d (.int .i64 0))))])
 (.seq (.reg [O 13 (.ld (some 3) (.t 2)),
 O 14 (.mv (.t 1)),
 O 15 (.call 51 [(.t 13), (.t 14)]),
 O 12 (.mv (.t 15)),
 O 16 (.ext (.t 12) 0),
 O 17 (.ext (.t 12) 1),
 O 5 (.mv (.t 16)),
 O 6 (.mv (.t 17))])
 (.seq (.reg [O 7 (.mv (.c (.d (.int .i64 0)))),
 O 8 (.mv (.c (.d (.int .i64 0))))])
 (.seq (.seq (.reg [O 18 (.mv (.t 5)),
 O 19 (.len false (.t 18)),
 O 20 (.mv (.c (.d (.int .i64 0))))])
 (.block 0 (.loop K30_0 L30_0)))
 (.seq (.block 2 (.seq (.reg [O 39 (.mv (.t 1)),
 O 40 (.bin .eql (.t 39) (.c (.d (.str [40, 41])))),
 O 38 (.mv (.t 40))])
 (.cond (.t 38)
 (.seq (.reg [O 4 (.mv (.c (.d (.int .i64 0))))])
 .ret)
 (.seq (.reg [O 42 (.mv (.t 6)),
 O 43 (.bin .eql (.t 42) (.c (.d (.int .i64 3)))),
 O 41 (.mv (.t 43))])
 (.cond (.t 41)
 (.seq (.reg [O 44 (.mv (.t 7)),
 O 4 (.mv (.t 44))])
 .ret)
 (.seq (.reg [O 46 (.mv (.t 6)),
 O 47 (.bin .eql (.t 46) (.c (.d (.int .i64 4)))),
 O 45 (.mv (.t 47))])
 (.cond (.t 45)
 (.seq (.reg [O 48 (.mv (.t 8)),
 O 49 (.bin .add (.c (.d (.int .i64 1))) (.t 48)),
 O 4 (.mv (.t 49))])
 .ret)
 .skip)))))))
 (.seq (.reg [O 4 (.mv (.c (.d (.int .i64 1))))])
 .ret))))))
def F30 : VFn := ⟨2, 50, B30, [.tmp 4], false⟩

def A30 : Ann := ⟨keepOf [(4, [1, 2, 6, 7, 8, 18, 19, 20])], ghostOf []⟩
-- 31 patina/patinaref15.Asked
def B31 : VCode :=
 (.seq (.reg [O 2 (.box (.t 0)),
 O 4 (.mv (.c (.d (.int .i64 0))))])
 (.seq (.seq (.reg [O 5 (.ld (some 3) (.t 2)),
 O 6 (.call 44 [(.t 5)]),
 O 7 (.un .not (.t 6))])
 (.cond (.t 7)
 (.seq (.reg [O 4 (.mv (.c (.d (.int .i64 7))))])
 .ret)
 .skip))
 (.seq (.seq (.reg [O 8 (.ld (some 3) (.t 2)),
 O 9 (.mv (.t 1)),
 O 10 (.call 45 [(.t 8), (.t 9)]),
 O 11 (.un .not (.t 10))])
 (.cond (.t 11)
 (.seq (.reg [O 4 (.mv (.c (.d (.int .i64 1))))])
 .ret)
 .skip))
 (.seq (.reg [O 4 (.mv (.c (.d (.int .i64 0))))])
 .ret))))
def F31 : VFn := ⟨2, 12, B31, [.tmp 4], false⟩

def A31 : Ann := ⟨keepOf [], ghostOf []⟩
-- 32 patina/patinaref15.Size
def K32_0 : List Nat := [2, 6, 26, 27, 28]
def L32_0 : VCode :=
 (.seq (.reg [O 29 (.bin .lss (.t 28) (.t 27))])
 (.seq (.cond (.t 29)
 .skip
 (.exit 0))
 (.seq (.block 1 (.seq (.reg [O 30 (.iadr 2 (.t 26) (.t 28)),
 O 31 (.ld (some 2) (.t 30)),
 O 8 (.zbox [(.d (.str [])), (.d (.str []))]),
 P (.st 2 (.t 8) (.t 31))])
 (.reg [O 32 (.mv (.t 6)),
 O 33 (.ld (some 3) (.t 2)),
 O 34 (.fadr 1 (.t 8)),
 O 35 (.ld none (.t 34)),
 O 36 (.call 32 [(.t 33), (.t 35)]),
 O 37 (.bin .add (.t 32) (.t 36)),
 O 6 (.mv (.t 37))])))
 (.reg [O 38 (.bin .add (.t 28) (.c (.d (.int .i64 1)))),
 O 28 (.mv (.t 38))]))))
def K32_1 : List Nat := [2, 10, 50, 51, 52]
def L32_1 : VCode :=
 (.seq (.reg [O 53 (.bin .lss (.t 52) (.t 51))])
 (.seq (.cond (.t 53)
 .skip
 (.exit 2))
 (.seq (.block 3 (.seq (.reg [O 54 (.iadr 2 (.t 50) (.t 52)),
 O 55 (.ld (some 2) (.t 54)),
 O 12 (.zbox [(.d (.str [])), (.d (.str []))]),
 P (.st 2 (.t 12) (.t 55))])
 (.seq (.seq (.reg [O 56 (.fadr 1 (.t 12)),
 O 57 (.ld none (.t 56)),
 O 58 (.bin .eql (.t 57) (.c (.d (.str []))))])
 (.cond (.t 58)
 (.exit 3)
 .skip))
 (.seq (.reg [O 59 (.ld (some 3) (.t 2)),
 O 60 (.fadr 1 (.t 12)),
 O 61 (.ld none (.t 60)),
 O 62 (.call 32 [(.t 59), (.t 61)]),
 O 13 (.mv (.t 62))])
 (.seq (.reg [O 63 (.mv (.t 13)),
 O 64 (.mv (.t 10)),
 O 65 (.bin .gtr (.t 63) (.t 64))])
 (.cond (.t 65)
 (.reg [O 66 (.mv (.t 13)),
 O 10 (.mv (.t 66))])
 .skip))))))
 (.reg [O 67 (.bin .add (.t 52) (.c (.d (.int .i64 1)))),
 O 52 (.mv (.t 67))]))))
def B32 : VCode :=
 (.seq (.reg [O 2 (.box (.t 0)),
 O 4 (.mv (.c (.d (.int .i64 0))))])
 (.seq (.seq (.reg [O 14 (.mv (.t 1)),
 O 15 (.bin .eql (.t 14) (.c (.d (.str [40, 41]))))])
 (.cond (.t 15)
 (.seq (.reg [O 4 (.mv (.c (.d (.int .i64 0))))])
 .ret)
 .skip))
 (.seq (.seq (.reg [O 16 (.ld (some 3) (.t 2)),
 O 17 (.mv (.t 1)),
 O 18 (.call 27 [(.t 16), (.t 17)]),
 O 5 (.mv (.t 18))])
 (.seq (.reg [O 19 (.mv (.t 5)),
 O 20 (.bin .geq (.t 19) (.c (.d (.int .i64 0))))])
 (.cond (.t 20)
 (.seq (.reg [O 6 (.mv (.c (.d (.int .i64 0))))])
 (.seq (.seq (.reg [O 21 (.fadr 0 (.t 2)),
 O 22 (.ld none (.t 21)),
 O 23 (.mv (.t 5)),
 O 24 (.iadr 2 (.t 22) (.t 23)),
 O 25 (.fadr 1 (.t 24)),
 O 26 (.ld none (.t 25)),
 O 27 (.len false (.t 26)),
 O 28 (.mv (.c (.d (.int .i64 0))))])
 (.block 0 (.loop K32_0 L32_0)))
 (.seq (.reg [O 39 (.mv (.t 6)),
 O 4 (.mv (.t 39))])
 .ret)))
 .skip)))
 (.seq (.seq (.reg [O 40 (.ld (some 3) (.t 2)),
 O 41 (.mv (.t 1)),
 O 42 (.call 52 [(.t 40), (.t 41)]),
 O 9 (.mv (.t 42))])
 (.seq (.reg [O 43 (.mv (.t 9)),
 O 44 (.bin .geq (.t 43) (.c (.d (.int .i64 0))))])
 (.cond (.t 44)
 (.seq (.reg [O 10 (.mv (.c (.d (.int .i64 0))))])
 (.seq (.seq (.reg [O 45 (.fadr 1 (.t 2)),
 O 46 (.ld none (.t 45)),
 O 47 (.mv (.t 9)),
 O 48 (.iadr 2 (.t 46) (.t 47)),
 O 49 (.fadr 1 (.t 48)),
 O 50 (.ld none (.t 49)),
 O 51 (.len false (.t 50)),
 O 52 (.mv (.c (.d (.int .i64 0))))])
 (.block 2 (.loop K32_1 L32_1)))
 (.seq (.reg [O 68 (.mv (.t 10)),
 O 69 (.bin .add (.t 68) (.c (.d (.int .i64 1)))),
 O 4 (.mv (.t 69))])
 .ret)))
 .skip)))
 (.seq (.reg [O 4 (.mv (.c (.d (.int .i64 1))))])
 .ret)))))
def F32 : VFn := ⟨2, 70, B32, [.tmp 4], false⟩

def A32 : Ann := ⟨keepOf [(7, [2, 6, 26, 27, 28]), (16, [2, 10, 50, 51, 52])], ghostOf []⟩
-- 33 patina/types.step
def B33 : VCode :=
 (.seq (.reg [O 3 (.box (.t 0)),
 O 6 (.mv (.c (.d (.str [])))),
 O 7 (.mv (.c (.d (.bool false))))])
 (.seq (.seq (.reg [O 11 (.mv (.t 2)),
 O 12 (.bin .eql (.t 11) (.c (.d (.int .i64 (-1)))))])
 (.cond (.t 12)
 (.seq (.reg [O 13 (.mv (.t 1)),
 O 14 (.call 13 [(.t 13)]),
 O 15 (.ext (.t 14) 0),
 O 16 (.ext (.t 14) 1),
 O 6 (.mv (.t 15)),
 O 7 (.mv (.t 16))])
 .ret)
 .skip))
 (.seq (.reg [O 18 (.ld (some 3) (.t 3)),
 O 19 (.mv (.t 1)),
 O 20 (.call 51 [(.t 18), (.t 19)]),
 O 17 (.mv (.t 20)),
 O 21 (.ext (.t 17) 0),
 O 22 (.ext (.t 17) 1),
 O 8 (.mv (.t 21)),
 O 9 (.mv (.t 22))])
 (.seq (.reg [O 23 (.mv (.t 2)),
 O 10 (.mv (.t 23))])
 (.seq (.seq (.reg [O 24 (.mv (.t 2)),
 O 25 (.bin .lss (.t 24) (.c (.d (.int .i64 0))))])
 (.cond (.t 25)
 (.reg [O 26 (.mv (.t 2)),
 O 27 (.bin .sub (.c (.d (.int .i64 (-2)))) (.t 26)),
 O 10 (.mv (.t 27))])
 .skip))
 (.seq (.seq (.reg [O 28 (.mv (.t 10)),
 O 29 (.mv (.t 8)),
 O 30 (.len false (.t 29)),
 O 31 (.bin .geq (.t 28) (.t 30)),
 O 32 (.mv (.t 31)),
 G 33 (.mv (.t 9)) 32 false,
 G 34 (.bin .eql (.t 33) (.c (.d (.int .i64 3)))) 32 false,
 G 35 (.mv (.t 2)) 32 false,
 G 36 (.bin .geq (.t 35) (.c (.d (.int .i64 0)))) 32 false,
 G 37 (.eqb true (.t 34) (.t 36)) 32 false,
 O 38 (.pick (.t 32) (.c (.d (.bool true))) (.t 37)),
 O 39 (.mv (.t 38)),
 G 40 (.mv (.t 8)) 39 false,
 G 41 (.mv (.t 10)) 39 false,
 G 42 (.iadr 2 (.t 40) (.t 41)) 39 false,
 G 43 (.fadr 1 (.t 42)) 39 false,
 G 44 (.ld none (.t 43)) 39 false,
 G 45 (.bin .eql (.t 44) (.c (.d (.str [])))) 39 false,
 O 46 (.pick (.t 39) (.c (.d (.bool true))) (.t 45))])
 (.cond (.t 46)
 (.seq (.reg [O 6 (.mv (.c (.d (.str [])))),
 O 7 (.mv (.c (.d (.bool false))))])
 .ret)
 .skip))
 (.seq (.reg [O 47 (.mv (.t 8)),
 O 48 (.mv (.t 10)),
 O 49 (.iadr 2 (.t 47) (.t 48)),
 O 50 (.fadr 1 (.t 49)),
 O 51 (.ld none (.t 50)),
 O 6 (.mv (.t 51)),
 O 7 (.mv (.c (.d (.bool true))))])
 .ret)))))))
def F33 : VFn := ⟨3, 52, B33, [.tmp 6, .tmp 7], false⟩

def A33 : Ann := ⟨keepOf [], ghostOf []⟩
-- 34 patina/patinaref15.Path
def K34_0 : List Nat := [1, 3, 12, 13, 14]
def L34_0 : VCode :=
 (.seq (.reg [O 15 (.bin .lss (.t 14) (.t 13))])
 (.seq (.cond (.t 15)
 .skip
 (.exit 0))
 (.seq (.block 1 (.seq (.reg [O 16 (.iadr 1 (.t 12) (.t 14)),
 O 17 (.ld none (.t 16)),
 O 9 (.mv (.t 17))])
 (.seq (.reg [O 19 (.ld (some 3) (.t 3)),
 O 20 (.mv (.t 1)),
 O 21 (.mv (.t 9)),
 O 22 (.call 53 [(.t 19), (.t 20), (.t 21)]),
 O 18 (.mv (.t 22)),
 O 23 (.ext (.t 18) 0),
 O 24 (.ext (.t 18) 1),
 O 10 (.mv (.t 23)),
 O 11 (.mv (.t 24))])
 (.seq (.seq (.reg [O 25 (.mv (.t 11)),
 O 26 (.un .not (.t 25))])
 (.cond (.t 26)
 (.seq (.reg [O 6 (.mv (.c (.d (.str [])))),
 O 7 (.mv (.c (.d (.bool false))))])
 .ret)
 .skip))
 (.reg [O 27 (.mv (.t 10)),
 O 1 (.mv (.t 27))])))))
 (.reg [O 28 (.bin .add (.t 14) (.c (.d (.int .i64 1)))),
 O 14 (.mv (.t 28))]))))
def B34 : VCode :=
 (.seq (.reg [O 3 (.box (.t 0)),
 O 6 (.mv (.c (.d (.str [])))),
 O 7 (.mv (.c (.d (.bool false))))])
 (.seq (.seq (.reg [O 12 (.mv (.t 2)),
 O 13 (.len false (.t 12)),
 O 14 (.mv (.c (.d (.int .i64 0))))])
 (.block 0 (.loop K34_0 L34_0)))
 (.seq (.reg [O 29 (.mv (.t 1)),
 O 6 (.mv (.t 29)),
 O 7 (.mv (.c (.d (.bool true))))])
 .ret)))
def F34 : VFn := ⟨3, 30, B34, [.tmp 6, .tmp 7], false⟩

def A34 : Ann := ⟨keepOf [(2, [1, 3, 12, 13, 14])], ghostOf []⟩
-- 35 patina/patinalaw15.items
def B35 : VCode :=
 (.seq (.reg [O 0 (.zbox [.nils, .nils, .nils])])
 (.seq (.reg [O 1 (.build [(.d (.str [])), (.d (.str []))] [(0, 1, (.c (.d (.str [97])))), (1, 1, (.c (.d (.str [105, 54, 52]))))]),
 O 2 (.build [(.d (.str [])), (.d (.str []))] [(0, 1, (.c (.d (.str [98])))), (1, 1, (.c (.d (.str [66, 111, 120, 60, 83, 62]))))]),
 O 3 (.bslice 2 2 [(.t 1), (.t 2)]),
 O 4 (.build [(.d (.str [])), .nils] [(0, 1, (.c (.d (.str [83])))), (1, 1, (.t 3))]),
 O 5 (.bslice 2 1 [(.t 4)]),
 O 6 (.build [(.d (.str [])), .nils, .nils, (.d (.str [])), (.d (.int .i64 0))] [(0, 1, (.c (.d (.str [109, 97, 105, 110])))), (3, 1, (.c (.d (.str [40, 41]))))]),
 O 7 (.bslice 5 1 [(.t 6)]),
 O 8 (.build [.nils, .nils, .nils] [(0, 1, (.t 5)), (2, 1, (.t 7))]),
 P (.st 3 (.t 0) (.t 8))])
 .ret))
def F35 : VFn := ⟨0, 9, B35, [.cell 0 (some 3)], false⟩

def A35 : Ann := ⟨keepOf [], ghostOf []⟩
-- 36 strings.CutPrefix
def B36 : VCode :=
 (.seq (.reg [O 4 (.mv (.c (.d (.str [])))),
 O 5 (.mv (.c (.d (.bool false))))])
 (.seq (.reg [O 6 (.mv (.t 0)),
 O 7 (.mv (.t 1)),
 O 8 (.call 54 [(.t 6), (.t 7)]),
 O 9 (.ext (.t 8) 0),
 O 10 (.ext (.t 8) 1),
 O 4 (.mv (.t 9)),
 O 5 (.mv (.t 10))])
 .ret))
def F36 : VFn := ⟨2, 11, B36, [.tmp 4, .tmp 5], false⟩

def A36 : Ann := ⟨keepOf [], ghostOf []⟩
-- 37 strings.CutSuffix
def B37 : VCode :=
 (.seq (.reg [O 4 (.mv (.c (.d (.str [])))),
 O 5 (.mv (.c (.d (.bool false))))])
 (.seq (.reg [O 6 (.mv (.t 0)),
 O 7 (.mv (.t 1)),
 O 8 (.call 55 [(.t 6), (.t 7)]),
 O 9 (.ext (.t 8) 0),
 O 10 (.ext (.t 8) 1),
 O 4 (.mv (.t 9)),
 O 5 (.mv (.t 10))])
 .ret))
def F37 : VFn := ⟨2, 11, B37, [.tmp 4, .tmp 5], false⟩

def A37 : Ann := ⟨keepOf [], ghostOf []⟩
-- 38 patina/patinaref15.starts
def B38 : VCode :=
 (.seq (.reg [O 4 (.mv (.c (.d (.bool false))))])
 (.seq (.reg [O 5 (.mv (.t 0)),
 O 6 (.len true (.t 5)),
 O 7 (.mv (.t 1)),
 O 8 (.len true (.t 7)),
 O 9 (.bin .geq (.t 6) (.t 8)),
 O 10 (.mv (.t 9)),
 G 11 (.mv (.t 0)) 10 true,
 G 12 (.mv (.t 1)) 10 true,
 G 13 (.len true (.t 12)) 10 true,
 G 14 (.slcs (.t 11) none (some (.t 13))) 10 true,
 G 15 (.mv (.t 1)) 10 true,
 G 16 (.bin .eql (.t 14) (.t 15)) 10 true,
 O 17 (.pick (.t 10) (.t 16) (.c (.d (.bool false)))),
 O 4 (.mv (.t 17))])
 .ret))
def F38 : VFn := ⟨2, 18, B38, [.tmp 4], false⟩

def A38 : Ann := ⟨keepOf [], ghostOf []⟩
-- 39 strings.HasPrefix
def B39 : VCode :=
 (.seq (.reg [O 4 (.mv (.c (.d (.bool false))))])
 (.seq (.reg [O 5 (.mv (.t 0)),
 O 6 (.mv (.t 1)),
 O 7 (.call 56 [(.t 5), (.t 6)]),
 O 4 (.mv (.t 7))])
 .ret))
def F39 : VFn := ⟨2, 8, B39, [.tmp 4], false⟩

def A39 : Ann := ⟨keepOf [], ghostOf []⟩
-- 40 patina/types.isRef
def B40 : VCode :=
 (.seq (.reg [O 2 (.mv (.c (.d (.bool false))))])
 (.seq (.reg [O 3 (.mv (.t 0)),
 O 4 (.call 39 [(.t 3), (.c (.d (.str [38])))]),
 O 2 (.mv (.t 4))])
 .ret))
def F40 : VFn := ⟨1, 5, B40, [.tmp 2], false⟩

def A40 : Ann := ⟨keepOf [], ghostOf []⟩
-- 41 patina/patinaref15.Copied
def B41 : VCode :=
 (.seq (.reg [O 2 (.mv (.c (.d (.bool false))))])
 (.seq (.reg [O 6 (.mv (.t 0)),
 O 7 (.call 16 [(.t 6)]),
 O 5 (.mv (.t 7)),
 O 8 (.ext (.t 5) 0),
 O 9 (.ext (.t 5) 1),
 O 3 (.mv (.t 8)),
 O 4 (.mv (.t 9))])
 (.seq (.reg [O 10 (.mv (.t 0)),
 O 11 (.bin .eql (.t 10) (.c (.d (.str [105, 54, 52])))),
 O 12 (.mv (.t 11)),
 G 13 (.mv (.t 0)) 12 false,
 G 14 (.bin .eql (.t 13) (.c (.d (.str [98, 111, 111, 108])))) 12 false,
 O 15 (.pick (.t 12) (.c (.d (.bool true))) (.t 14)),
 O 16 (.mv (.t 15)),
 G 17 (.mv (.t 0)) 16 false,
 G 18 (.bin .eql (.t 17) (.c (.d (.str [40, 41])))) 16 false,
 O 19 (.pick (.t 16) (.c (.d (.bool true))) (.t 18)),
 O 20 (.mv (.t 19)),
 G 21 (.mv (.t 3)) 20 false,
 G 22 (.mv (.t 21)) 20 false,
 G 23 (.mv (.t 4)) 22 true,
 G 24 (.un .not (.t 23)) 22 true,
 G 25 (.pick (.t 22) (.t 24) (.c (.d (.bool false)))) 20 false,
 O 26 (.pick (.t 20) (.c (.d (.bool true))) (.t 25)),
 O 2 (.mv (.t 26))])
 .ret)))
def F41 : VFn := ⟨1, 27, B41, [.tmp 2], false⟩

def A41 : Ann := ⟨keepOf [], ghostOf []⟩
-- 42 patina/types.owns
def B42 : VCode :=
 (.seq (.reg [O 2 (.box (.t 0)),
 O 4 (.mv (.c (.d (.bool false))))])
 (.seq (.seq (.reg [O 7 (.mv (.t 1)),
 O 8 (.call 39 [(.t 7), (.c (.d (.str [66, 111, 120, 60])))])])
 (.cond (.t 8)
 (.seq (.reg [O 4 (.mv (.c (.d (.bool true))))])
 .ret)
 .skip))
 (.seq (.reg [O 10 (.ld (some 3) (.t 2)),
 O 11 (.mv (.t 1)),
 O 12 (.call 51 [(.t 10), (.t 11)]),
 O 9 (.mv (.t 12)),
 O 13 (.ext (.t 9) 0),
 O 14 (.ext (.t 9) 1),
 O 5 (.mv (.t 13)),
 O 6 (.mv (.t 14))])
 (.seq (.reg [O 15 (.mv (.t 5)),
 O 16 (.mkfn 58 [(.t 2)]),
 O 17 (.call 57 [(.t 15), (.t 16)]),
 O 4 (.mv (.t 17))])
 .ret))))
def F42 : VFn := ⟨2, 18, B42, [.tmp 4], false⟩

def A42 : Ann := ⟨keepOf [], ghostOf []⟩
-- 43 patina/patinaref15.Owned
def K43_0 : List Nat := [1, 2, 23, 24, 25]
def L43_0 : VCode :=
 (.seq (.reg [O 26 (.bin .lss (.t 25) (.t 24))])
 (.seq (.cond (.t 26)
 .skip
 (.exit 0))
 (.seq (.block 1 (.seq (.reg [O 27 (.iadr 2 (.t 23) (.t 25)),
 O 28 (.ld (some 2) (.t 27)),
 O 7 (.zbox [(.d (.str [])), (.d (.str []))]),
 P (.st 2 (.t 7) (.t 28))])
 (.seq (.reg [O 29 (.ld (some 3) (.t 2)),
 O 30 (.fadr 1 (.t 7)),
 O 31 (.ld none (.t 30)),
 O 32 (.call 43 [(.t 29), (.t 31)])])
 (.cond (.t 32)
 (.seq (.reg [O 4 (.mv (.c (.d (.bool true))))])
 .ret)
 .skip))))
 (.reg [O 33 (.bin .add (.t 25) (.c (.d (.int .i64 1)))),
 O 25 (.mv (.t 33))]))))
def K43_1 : List Nat := [2, 44, 45, 46]
def L43_1 : VCode :=
 (.seq (.reg [O 47 (.bin .lss (.t 46) (.t 45))])
 (.seq (.cond (.t 47)
 .skip
 (.exit 2))
 (.seq (.block 3 (.seq (.reg [O 48 (.iadr 2 (.t 44) (.t 46)),
 O 49 (.ld (some 2) (.t 48)),
 O 10 (.zbox [(.d (.str [])), (.d (.str []))]),
 P (.st 2 (.t 10) (.t 49))])
 (.seq (.reg [O 50 (.fadr 1 (.t 10)),
 O 51 (.ld none (.t 50)),
 O 52 (.bin .neq (.t 51) (.c (.d (.str [])))),
 O 53 (.mv (.t 52)),
 G 54 (.ld (some 3) (.t 2)) 53 true,
 G 55 (.fadr 1 (.t 10)) 53 true,
 G 56 (.ld none (.t 55)) 53 true,
 G 57 (.call 43 [(.t 54), (.t 56)]) 53 true,
 O 58 (.pick (.t 53) (.t 57) (.c (.d (.bool false))))])
 (.cond (.t 58)
 (.seq (.reg [O 4 (.mv (.c (.d (.bool true))))])
 .ret)
 .skip))))
 (.reg [O 59 (.bin .add (.t 46) (.c (.d (.int .i64 1)))),
 O 46 (.mv (.t 59))]))))
def B43 : VCode :=
 (.seq (.reg [O 2 (.box (.t 0)),
 O 4 (.mv (.c (.d (.bool false))))])
 (.seq (.seq (.reg [O 11 (.mv (.t 1)),
 O 12 (.call 59 [(.t 11)])])
 (.cond (.t 12)
 (.seq (.reg [O 4 (.mv (.c (.d (.bool true))))])
 .ret)
 .skip))
 (.seq (.seq (.reg [O 13 (.ld (some 3) (.t 2)),
 O 14 (.mv (.t 1)),
 O 15 (.call 27 [(.t 13), (.t 14)]),
 O 5 (.mv (.t 15))])
 (.seq (.reg [O 16 (.mv (.t 5)),
 O 17 (.bin .geq (.t 16) (.c (.d (.int .i64 0))))])
 (.cond (.t 17)
 (.seq (.reg [O 18 (.fadr 0 (.t 2)),
 O 19 (.ld none (.t 18)),
 O 20 (.mv (.t 5)),
 O 21 (.iadr 2 (.t 19) (.t 20)),
 O 22 (.fadr 1 (.t 21)),
 O 23 (.ld none (.t 22)),
 O 24 (.len false (.t 23)),
 O 25 (.mv (.c (.d (.int .i64 0))))])
 (.block 0 (.loop K43_0 L43_0)))
 .skip)))
 (.seq (.seq (.reg [O 34 (.ld (some 3) (.t 2)),
 O 35 (.mv (.t 1)),
 O 36 (.call 52 [(.t 34), (.t 35)]),
 O 8 (.mv (.t 36))])
 (.seq (.reg [O 37 (.mv (.t 8)),
 O 38 (.bin .geq (.t 37) (.c (.d (.int .i64 0))))])
 (.cond (.t 38)
 (.seq (.reg [O 39 (.fadr 1 (.t 2)),
 O 40 (.ld none (.t 39)),
 O 41 (.mv (.t 8)),
 O 42 (.iadr 2 (.t 40) (.t 41)),
 O 43 (.fadr 1 (.t 42)),
 O 44 (.ld none (.t 43)),
 O 45 (.len false (.t 44)),
 O 46 (.mv (.c (.d (.int .i64 0))))])
 (.block 2 (.loop K43_1 L43_1)))
 .skip)))
 (.seq (.reg [O 4 (.mv (.c (.d (.bool false))))])
 .ret)))))
def F43 : VFn := ⟨2, 60, B43, [.tmp 4], false⟩

def A43 : Ann := ⟨keepOf [(6, [1, 2, 23, 24, 25]), (14, [2, 44, 45, 46])], ghostOf []⟩
-- 44 patina/patinaref14.Right
def K44_0 : List Nat := [1, 3, 4, 5, 6, 8]
def L44_0 : VCode :=
 (.seq (.seq (.reg [O 65 (.mv (.t 8)),
 O 66 (.mv (.t 5)),
 O 67 (.len false (.t 66)),
 O 68 (.bin .lss (.t 65) (.t 67))])
 (.cond (.t 68)
 .skip
 (.exit 2)))
 (.seq (.block 3 (.seq (.draw 13 [O 71 (.ld (some 3) (.t 1)),
 O 72 (.mv (.t 5)),
 O 73 (.mv (.t 8)),
 O 74 (.iadr 2 (.t 72) (.t 73)),
 O 75 (.fadr 1 (.t 74)),
 O 76 (.ld none (.t 75)),
 O 77 (.call 66 [(.t 71), (.t 76)]),
 O 78 (.un .not (.t 77)),
 O 79 (.mv (.t 78)),
 G 80 (.mv (.t 6)) 79 true,
 G 81 (.mv (.t 80)) 79 true,
 G 82 (.mv (.t 5)) 81 true,
 G 83 (.mv (.t 8)) 81 true,
 G 84 (.iadr 2 (.t 82) (.t 83)) 81 true,
 G 85 (.fadr 1 (.t 84)) 81 true,
 G 86 (.ld none (.t 85)) 81 true,
 G 87 (.bin .eql (.t 86) (.c (.d (.str [])))) 81 true,
 G 88 (.pick (.t 81) (.t 87) (.c (.d (.bool false)))) 79 true,
 G 89 (.un .not (.t 88)) 79 true,
 O 90 (.pick (.t 79) (.t 89) (.c (.d (.bool false))))])
 (.cond (.t 90)
 (.seq (.reg [O 2 (.mv (.c (.d (.bool false))))])
 .ret)
 .skip)))
 (.reg [O 69 (.mv (.t 8)),
 O 70 (.bin .add (.t 69) (.c (.d (.int .i64 1)))),
 O 8 (.mv (.t 70))])))
def K44_1 : List Nat := [1, 3, 4]
def L44_1 : VCode :=
 (.seq (.seq (.reg [O 30 (.mv (.t 4)),
 O 31 (.mv (.t 3)),
 O 32 (.len false (.t 31)),
 O 33 (.bin .lss (.t 30) (.t 32))])
 (.cond (.t 33)
 .skip
 (.exit 0)))
 (.seq (.block 1 (.seq (.seq (.draw 14 [O 36 (.mv (.t 3)),
 O 37 (.mv (.t 4)),
 O 38 (.iadr 1 (.t 36) (.t 37)),
 O 39 (.ld none (.t 38)),
 O 40 (.call 62 [(.t 39)]),
 O 41 (.un .not (.t 40)),
 O 42 (.mv (.t 41)),
 G 43 (.mv (.t 3)) 42 false,
 G 44 (.mv (.t 4)) 42 false,
 G 45 (.slc 1 (.t 43) none (some (.t 44))) 42 false,
 G 46 (.mv (.t 3)) 42 false,
 G 47 (.mv (.t 4)) 42 false,
 G 48 (.iadr 1 (.t 46) (.t 47)) 42 false,
 G 49 (.ld none (.t 48)) 42 false,
 G 50 (.call 63 [(.t 45), (.t 49)]) 42 false,
 O 51 (.pick (.t 42) (.c (.d (.bool true))) (.t 50))])
 (.cond (.t 51)
 (.seq (.reg [O 2 (.mv (.c (.d (.bool false))))])
 .ret)
 .skip))
 (.seq (.draw 12 [O 53 (.ld (some 3) (.t 1)),
 O 54 (.mv (.t 3)),
 O 55 (.mv (.t 4)),
 O 56 (.iadr 1 (.t 54) (.t 55)),
 O 57 (.ld none (.t 56)),
 O 58 (.call 64 [(.t 53), (.t 57)]),
 O 52 (.mv (.t 58)),
 O 59 (.ext (.t 52) 0),
 O 60 (.ext (.t 52) 1),
 O 61 (.ext (.t 52) 2),
 O 5 (.mv (.t 59)),
 O 6 (.mv (.t 60)),
 O 7 (.mv (.t 61))])
 (.seq (.seq (.reg [O 62 (.mv (.t 5)),
 O 63 (.call 65 [(.t 62), (.c (.d (.int .i64 16)))]),
 O 64 (.un .not (.t 63))])
 (.cond (.t 64)
 (.seq (.reg [O 2 (.mv (.c (.d (.bool false))))])
 .ret)
 .skip))
 (.seq (.reg [O 8 (.mv (.c (.d (.int .i64 0))))])
 (.block 2 (.loop K44_0 L44_0)))))))
 (.reg [O 34 (.mv (.t 4)),
 O 35 (.bin .add (.t 34) (.c (.d (.int .i64 1)))),
 O 4 (.mv (.t 35))])))
def K44_2 : List Nat := [1, 3, 9]
def L44_2 : VCode :=
 (.seq (.seq (.reg [O 91 (.mv (.t 9)),
 O 92 (.mv (.t 3)),
 O 93 (.len false (.t 92)),
 O 94 (.bin .lss (.t 91) (.t 93))])
 (.cond (.t 94)
 .skip
 (.exit 4)))
 (.seq (.block 5 (.seq (.draw 5 [O 97 (.ld (some 3) (.t 1)),
 O 98 (.mv (.t 3)),
 O 99 (.mv (.t 9)),
 O 100 (.iadr 1 (.t 98) (.t 99)),
 O 101 (.ld none (.t 100)),
 O 102 (.call 67 [(.t 97), (.t 101)])])
 (.cond (.t 102)
 (.seq (.reg [O 2 (.mv (.c (.d (.bool false))))])
 .ret)
 .skip)))
 (.reg [O 95 (.mv (.t 9)),
 O 96 (.bin .add (.t 95) (.c (.d (.int .i64 1)))),
 O 9 (.mv (.t 96))])))
def K44_3 : List Nat := [1, 3, 10]
def L44_3 : VCode :=
 (.seq (.seq (.reg [O 103 (.mv (.t 10)),
 O 104 (.mv (.t 3)),
 O 105 (.len false (.t 104)),
 O 106 (.bin .lss (.t 103) (.t 105))])
 (.cond (.t 106)
 .skip
 (.exit 6)))
 (.seq (.block 7 (.seq (.draw 10 [O 110 (.ld (some 3) (.t 1)),
 O 111 (.mv (.t 3)),
 O 112 (.mv (.t 10)),
 O 113 (.iadr 1 (.t 111) (.t 112)),
 O 114 (.ld none (.t 113)),
 O 115 (.call 68 [(.t 110), (.t 114)]),
 O 109 (.mv (.t 115)),
 O 116 (.ext (.t 109) 0),
 O 117 (.ext (.t 109) 1),
 O 11 (.mv (.t 116)),
 O 12 (.mv (.t 117))])
 (.seq (.reg [O 118 (.mv (.t 11)),
 O 119 (.bin .gtr (.t 118) (.c (.d (.int .i64 1024)))),
 O 120 (.mv (.t 119)),
 G 121 (.mv (.t 12)) 120 false,
 G 122 (.bin .gtr (.t 121) (.c (.d (.int .i64 64)))) 120 false,
 O 123 (.pick (.t 120) (.c (.d (.bool true))) (.t 122))])
 (.cond (.t 123)
 (.seq (.reg [O 2 (.mv (.c (.d (.bool false))))])
 .ret)
 .skip))))
 (.reg [O 107 (.mv (.t 10)),
 O 108 (.bin .add (.t 107) (.c (.d (.int .i64 1)))),
 O 10 (.mv (.t 108))])))
def B44 : VCode :=
 (.seq (.reg [O 1 (.box (.t 0)),
 O 2 (.mv (.c (.d (.bool false))))])
 (.seq (.seq (.reg [O 13 (.fadr 0 (.t 1)),
 O 14 (.ld none (.t 13)),
 O 15 (.len false (.t 14)),
 O 16 (.bin .gtr (.t 15) (.c (.d (.int .i64 64)))),
 O 17 (.mv (.t 16)),
 G 18 (.fadr 1 (.t 1)) 17 false,
 G 19 (.ld none (.t 18)) 17 false,
 G 20 (.len false (.t 19)) 17 false,
 G 21 (.bin .gtr (.t 20) (.c (.d (.int .i64 64)))) 17 false,
 O 22 (.pick (.t 17) (.c (.d (.bool true))) (.t 21)),
 O 23 (.mv (.t 22)),
 G 24 (.ld (some 3) (.t 1)) 23 false,
 G 25 (.call 60 [(.t 24)]) 23 false,
 G 26 (.un .not (.t 25)) 23 false,
 O 27 (.pick (.t 23) (.c (.d (.bool true))) (.t 26))])
 (.cond (.t 27)
 (.seq (.reg [O 2 (.mv (.c (.d (.bool false))))])
 .ret)
 .skip))
 (.seq (.reg [O 28 (.ld (some 3) (.t 1)),
 O 29 (.call 61 [(.t 28)]),
 O 3 (.mv (.t 29))])
 (.seq (.seq (.reg [O 4 (.mv (.c (.d (.int .i64 0))))])
 (.block 0 (.loop K44_1 L44_1)))
 (.seq (.seq (.reg [O 9 (.mv (.c (.d (.int .i64 0))))])
 (.block 4 (.loop K44_2 L44_2)))
 (.seq (.seq (.reg [O 10 (.mv (.c (.d (.int .i64 0))))])
 (.block 6 (.loop K44_3 L44_3)))
 (.seq (.reg [O 2 (.mv (.c (.d (.bool true))))])
 .ret)))))))
def F44 : VFn := ⟨1, 124, B44, [.tmp 2], false⟩

def A44 : Ann := ⟨keepOf [(5, [1, 3, 4]), (13, [1, 3, 4, 5, 6, 8]), (18, [1, 3, 9]), (23, [1, 3, 10])], ghostOf []⟩
-- 45 patina/patinaref15.Is
def B45 : VCode :=
 (.seq (.reg [O 2 (.box (.t 0)),
 O 4 (.mv (.c (.d (.bool false))))])
 (.seq (.seq (.reg [O 10 (.mv (.t 1)),
 O 11 (.call 16 [(.t 10)]),
 O 9 (.mv (.t 11)),
 O 12 (.ext (.t 9) 0),
 O 13 (.ext (.t 9) 1),
 O 5 (.mv (.t 12)),
 O 6 (.mv (.t 13))])
 (.seq (.reg [O 14 (.mv (.t 5))])
 (.cond (.t 14)
 (.seq (.reg [O 16 (.mv (.t 1)),
 O 17 (.call 14 [(.t 16)]),
 O 15 (.mv (.t 17)),
 O 18 (.ext (.t 15) 0),
 O 19 (.ext (.t 15) 1),
 O 7 (.mv (.t 18)),
 O 8 (.mv (.t 19))])
 (.seq (.reg [O 20 (.ld (some 3) (.t 2)),
 O 21 (.mv (.t 7)),
 O 22 (.call 69 [(.t 20), (.t 21)]),
 O 4 (.mv (.t 22))])
 .ret))
 .skip)))
 (.seq (.reg [O 23 (.ld (some 3) (.t 2)),
 O 24 (.mv (.t 1)),
 O 25 (.call 69 [(.t 23), (.t 24)]),
 O 4 (.mv (.t 25))])
 .ret)))
def F45 : VFn := ⟨2, 26, B45, [.tmp 4], false⟩

def A45 : Ann := ⟨keepOf [], ghostOf []⟩
-- 46 patina/items.Check
def K46_0 : List Nat := [1, 3, 4, 33, 34, 35]
def L46_0 : VCode :=
 (.seq (.reg [O 36 (.bin .lss (.t 35) (.t 34))])
 (.seq (.cond (.t 36)
 .skip
 (.exit 0))
 (.seq (.block 1 (.seq (.reg [O 37 (.iadr 2 (.t 33) (.t 35)),
 O 38 (.ld (some 2) (.t 37)),
 O 6 (.zbox [(.d (.str [])), .nils]),
 P (.st 2 (.t 6) (.t 38))])
 (.seq (.reg [O 39 (.mv (.t 4)),
 O 40 (.fadr 0 (.t 6)),
 O 41 (.ld none (.t 40)),
 O 42 (.mget 2 false (.int .i64 0) (.t 39) (.t 41)),
 O 43 (.bin .add (.t 42) (.c (.d (.int .i64 1)))),
 P (.mput 2 (.t 39) (.t 41) (.t 43))])
 (.seq (.reg [O 44 (.fadr 0 (.t 6)),
 O 45 (.ld none (.t 44)),
 O 46 (.call 70 [(.t 45)]),
 O 47 (.un .not (.t 46)),
 O 48 (.mv (.t 47)),
 G 49 (.mv (.t 4)) 48 false,
 G 50 (.fadr 0 (.t 6)) 48 false,
 G 51 (.ld none (.t 50)) 48 false,
 G 52 (.mget 2 false (.int .i64 0) (.t 49) (.t 51)) 48 false,
 G 53 (.bin .gtr (.t 52) (.c (.d (.int .i64 1)))) 48 false,
 O 54 (.pick (.t 48) (.c (.d (.bool true))) (.t 53)),
 O 55 (.mv (.t 54)),
 G 56 (.mv (.t 3)) 55 false,
 G 57 (.fadr 1 (.t 6)) 55 false,
 G 58 (.ld none (.t 57)) 55 false,
 G 59 (.call 71 [(.t 56), (.t 58), (.c (.d (.int .i64 16))), (.c (.d (.bool false))), (.c (.d (.bool false)))]) 55 false,
 G 60 (.un .not (.t 59)) 55 false,
 O 61 (.pick (.t 55) (.c (.d (.bool true))) (.t 60))])
 (.cond (.t 61)
 (.seq (.reg [O 2 (.mv (.c (.d (.int .i64 7))))])
 .ret)
 .skip)))))
 (.reg [O 62 (.bin .add (.t 35) (.c (.d (.int .i64 1)))),
 O 35 (.mv (.t 62))]))))
def K46_1 : List Nat := [1, 3, 4, 64, 65, 66]
def L46_1 : VCode :=
 (.seq (.reg [O 67 (.bin .lss (.t 66) (.t 65))])
 (.seq (.cond (.t 67)
 .skip
 (.exit 2))
 (.seq (.block 3 (.seq (.reg [O 68 (.iadr 2 (.t 64) (.t 66)),
 O 69 (.ld (some 2) (.t 68)),
 O 8 (.zbox [(.d (.str [])), .nils]),
 P (.st 2 (.t 8) (.t 69))])
 (.seq (.reg [O 70 (.mv (.t 4)),
 O 71 (.fadr 0 (.t 8)),
 O 72 (.ld none (.t 71)),
 O 73 (.mget 2 false (.int .i64 0) (.t 70) (.t 72)),
 O 74 (.bin .add (.t 73) (.c (.d (.int .i64 1)))),
 P (.mput 2 (.t 70) (.t 72) (.t 74))])
 (.seq (.reg [O 75 (.fadr 0 (.t 8)),
 O 76 (.ld none (.t 75)),
 O 77 (.call 70 [(.t 76)]),
 O 78 (.un .not (.t 77)),
 O 79 (.mv (.t 78)),
 G 80 (.mv (.t 4)) 79 false,
 G 81 (.fadr 0 (.t 8)) 79 false,
 G 82 (.ld none (.t 81)) 79 false,
 G 83 (.mget 2 false (.int .i64 0) (.t 80) (.t 82)) 79 false,
 G 84 (.bin .gtr (.t 83) (.c (.d (.int .i64 1)))) 79 false,
 O 85 (.pick (.t 79) (.c (.d (.bool true))) (.t 84)),
 O 86 (.mv (.t 85)),
 G 87 (.fadr 1 (.t 8)) 86 false,
 G 88 (.ld none (.t 87)) 86 false,
 G 89 (.len false (.t 88)) 86 false,
 G 90 (.bin .eql (.t 89) (.c (.d (.int .i64 0)))) 86 false,
 O 91 (.pick (.t 86) (.c (.d (.bool true))) (.t 90)),
 O 92 (.mv (.t 91)),
 G 93 (.mv (.t 3)) 92 false,
 G 94 (.fadr 1 (.t 8)) 92 false,
 G 95 (.ld none (.t 94)) 92 false,
 G 96 (.call 71 [(.t 93), (.t 95), (.c (.d (.int .i64 16))), (.c (.d (.bool false))), (.c (.d (.bool true)))]) 92 false,
 G 97 (.un .not (.t 96)) 92 false,
 O 98 (.pick (.t 92) (.c (.d (.bool true))) (.t 97))])
 (.cond (.t 98)
 (.seq (.reg [O 2 (.mv (.c (.d (.int .i64 7))))])
 .ret)
 .skip)))))
 (.reg [O 99 (.bin .add (.t 66) (.c (.d (.int .i64 1)))),
 O 66 (.mv (.t 99))]))))
def K46_2 : List Nat := [1, 3, 4, 9, 102]
def L46_2 : VCode :=
 (.seq (.reg [O 103 (.no),
 O 104 (.ext (.t 103) 0)])
 (.seq (.cond (.t 104)
 .skip
 (.exit 4))
 (.block 5 (.seq (.reg [O 105 (.no),
 O 106 (.ext (.t 105) 0),
 O 10 (.mv (.t 106))])
 (.seq (.reg [O 107 (.ld (some 3) (.t 1)),
 O 108 (.mv (.t 3)),
 O 109 (.mv (.t 10)),
 O 110 (.call 72 [(.t 107), (.t 108), (.t 109)])])
 (.cond (.t 110)
 (.seq (.reg [O 2 (.mv (.c (.d (.int .i64 7))))])
 .ret)
 .skip))))))
def K46_3 : List Nat := [1, 3, 9, 112]
def L46_3 : VCode :=
 (.seq (.reg [O 113 (.no),
 O 114 (.ext (.t 113) 0)])
 (.seq (.cond (.t 114)
 .skip
 (.exit 6))
 (.block 7 (.seq (.reg [O 115 (.no),
 O 116 (.ext (.t 115) 0),
 O 11 (.mv (.t 116))])
 (.seq (.reg [O 117 (.ld (some 3) (.t 1)),
 O 118 (.mv (.t 3)),
 O 119 (.mv (.t 11)),
 O 120 (.mv (.t 9)),
 O 121 (.call 73 [(.t 117), (.t 118), (.t 119), (.t 120)]),
 O 12 (.zbox [(.d (.int .i64 0)), (.d (.int .i64 0))]),
 P (.st 2 (.t 12) (.t 121))])
 (.seq (.reg [O 122 (.fadr 0 (.t 12)),
 O 123 (.ld none (.t 122)),
 O 124 (.bin .gtr (.t 123) (.c (.d (.int .i64 64)))),
 O 125 (.mv (.t 124)),
 G 126 (.fadr 1 (.t 12)) 125 false,
 G 127 (.ld none (.t 126)) 125 false,
 G 128 (.bin .gtr (.t 127) (.c (.d (.int .i64 1024)))) 125 false,
 O 129 (.pick (.t 125) (.c (.d (.bool true))) (.t 128))])
 (.cond (.t 129)
 (.seq (.reg [O 2 (.mv (.c (.d (.int .i64 7))))])
 .ret)
 .skip)))))))
def B46 : VCode :=
 (.seq (.reg [O 1 (.box (.t 0)),
 O 2 (.mv (.c (.d (.int .i64 0))))])
 (.seq (.seq (.reg [O 13 (.fadr 0 (.t 1)),
 O 14 (.ld none (.t 13)),
 O 15 (.len false (.t 14)),
 O 16 (.bin .gtr (.t 15) (.c (.d (.int .i64 64)))),
 O 17 (.mv (.t 16)),
 G 18 (.fadr 1 (.t 1)) 17 false,
 G 19 (.ld none (.t 18)) 17 false,
 G 20 (.len false (.t 19)) 17 false,
 G 21 (.bin .gtr (.t 20) (.c (.d (.int .i64 64)))) 17 false,
 O 22 (.pick (.t 17) (.c (.d (.bool true))) (.t 21)),
 O 23 (.mv (.t 22)),
 G 24 (.fadr 2 (.t 1)) 23 false,
 G 25 (.ld none (.t 24)) 23 false,
 G 26 (.len false (.t 25)) 23 false,
 G 27 (.bin .gtr (.t 26) (.c (.d (.int .i64 64)))) 23 false,
 O 28 (.pick (.t 23) (.c (.d (.bool true))) (.t 27))])
 (.cond (.t 28)
 (.seq (.reg [O 2 (.mv (.c (.d (.int .i64 7))))])
 .ret)
 .skip))
 (.seq (.reg [O 29 (.ld (some 3) (.t 1)),
 O 30 (.call 48 [(.t 29)]),
 O 3 (.mv (.t 30))])
 (.seq (.reg [O 31 (.mkm),
 O 4 (.mv (.t 31))])
 (.seq (.seq (.reg [O 32 (.fadr 0 (.t 1)),
 O 33 (.ld none (.t 32)),
 O 34 (.len false (.t 33)),
 O 35 (.mv (.c (.d (.int .i64 0))))])
 (.block 0 (.loop K46_0 L46_0)))
 (.seq (.seq (.reg [O 63 (.fadr 1 (.t 1)),
 O 64 (.ld none (.t 63)),
 O 65 (.len false (.t 64)),
 O 66 (.mv (.c (.d (.int .i64 0))))])
 (.block 2 (.loop K46_1 L46_1)))
 (.seq (.reg [O 100 (.mkm),
 O 9 (.mv (.t 100))])
 (.seq (.seq (.reg [O 101 (.mv (.t 4)),
 O 102 (.no)])
 (.block 4 (.loop K46_2 L46_2)))
 (.seq (.seq (.reg [O 111 (.mv (.t 4)),
 O 112 (.no)])
 (.block 6 (.loop K46_3 L46_3)))
 (.seq (.seq (.reg [O 130 (.ld (some 3) (.t 1)),
 O 131 (.mv (.t 3)),
 O 132 (.call 74 [(.t 130), (.t 131)]),
 O 133 (.un .not (.t 132))])
 (.cond (.t 133)
 (.seq (.reg [O 2 (.mv (.c (.d (.int .i64 7))))])
 .ret)
 .skip))
 (.seq (.reg [O 2 (.mv (.c (.d (.int .i64 0))))])
 .ret)))))))))))
def A46 : Ann := ⟨keepOf [(6, [1, 3, 4, 33, 34, 35]), (13, [1, 3, 4, 64, 65, 66]), (21, [1, 3, 4, 9, 102]), (26, [1, 3, 9, 112])], ghostOf []⟩
-- 47 patina/types.is
def B47 : VCode :=
 (.seq (.reg [O 2 (.box (.t 0)),
 O 4 (.mv (.c (.d (.bool false))))])
 (.seq (.seq (.reg [O 5 (.mv (.t 1)),
 O 6 (.call 40 [(.t 5)])])
 (.cond (.t 6)
 (.reg [O 8 (.mv (.t 1)),
 O 9 (.call 13 [(.t 8)]),
 O 7 (.mv (.t 9)),
 O 10 (.ext (.t 7) 0),
 O 11 (.ext (.t 7) 1),
 O 1 (.mv (.t 10))])
 .skip))
 (.seq (.reg [O 12 (.ld (some 3) (.t 2)),
 O 13 (.mv (.t 1)),
 O 14 (.call 75 [(.t 12), (.t 13)]),
 O 4 (.mv (.t 14))])
 .ret)))
def F47 : VFn := ⟨2, 15, B47, [.tmp 4], false⟩

def A47 : Ann := ⟨keepOf [], ghostOf []⟩
-- 48 patina/items.index
def K48_0 : List Nat := [1, 3, 19, 20, 21]
def L48_0 : VCode :=
 (.seq (.reg [O 22 (.bin .lss (.t 21) (.t 20))])
 (.seq (.cond (.t 22)
 .skip
 (.exit 0))
 (.seq (.block 1 (.seq (.reg [O 23 (.mv (.t 21)),
 O 24 (.iadr 2 (.t 19) (.t 21)),
 O 25 (.ld (some 2) (.t 24)),
 O 5 (.zbox [(.d (.str [])), .nils]),
 O 4 (.mv (.t 23)),
 P (.st 2 (.t 5) (.t 25))])
 (.draw 6 [O 26 (.mv (.t 3)),
 O 27 (.nilck (.t 26)),
 O 28 (.fadr 0 (.t 27)),
 O 29 (.fadr 0 (.t 5)),
 O 30 (.ld none (.t 29)),
 O 31 (.mv (.t 4)),
 O 32 (.call 76 [(.t 28), (.t 30), (.t 31)])])))
 (.reg [O 33 (.bin .add (.t 21) (.c (.d (.int .i64 1)))),
 O 21 (.mv (.t 33))]))))
def K48_1 : List Nat := [1, 3, 35, 36, 37]
def L48_1 : VCode :=
 (.seq (.reg [O 38 (.bin .lss (.t 37) (.t 36))])
 (.seq (.cond (.t 38)
 .skip
 (.exit 2))
 (.seq (.block 3 (.seq (.reg [O 39 (.mv (.t 37)),
 O 40 (.iadr 2 (.t 35) (.t 37)),
 O 41 (.ld (some 2) (.t 40)),
 O 7 (.zbox [(.d (.str [])), .nils]),
 O 6 (.mv (.t 39)),
 P (.st 2 (.t 7) (.t 41))])
 (.draw 6 [O 42 (.mv (.t 3)),
 O 43 (.nilck (.t 42)),
 O 44 (.fadr 1 (.t 43)),
 O 45 (.fadr 0 (.t 7)),
 O 46 (.ld none (.t 45)),
 O 47 (.mv (.t 6)),
 O 48 (.call 76 [(.t 44), (.t 46), (.t 47)])])))
 (.reg [O 49 (.bin .add (.t 37) (.c (.d (.int .i64 1)))),
 O 37 (.mv (.t 49))]))))
def K48_2 : List Nat := [3, 51, 52, 53]
def L48_2 : VCode :=
 (.seq (.reg [O 54 (.bin .lss (.t 53) (.t 52))])
 (.seq (.cond (.t 54)
 .skip
 (.exit 4))
 (.seq (.block 5 (.seq (.reg [O 55 (.mv (.t 53)),
 O 56 (.iadr 5 (.t 51) (.t 53)),
 O 57 (.ld (some 5) (.t 56)),
 O 9 (.zbox [(.d (.str [])), .nils, .nils, (.d (.str [])), (.d (.int .i64 0))]),
 O 8 (.mv (.t 55)),
 P (.st 5 (.t 9) (.t 57))])
 (.draw 6 [O 58 (.mv (.t 3)),
 O 59 (.nilck (.t 58)),
 O 60 (.fadr 2 (.t 59)),
 O 61 (.fadr 0 (.t 9)),
 O 62 (.ld none (.t 61)),
 O 63 (.mv (.t 8)),
 O 64 (.call 76 [(.t 60), (.t 62), (.t 63)])])))
 (.reg [O 65 (.bin .add (.t 53) (.c (.d (.int .i64 1)))),
 O 53 (.mv (.t 65))]))))
def B48 : VCode :=
 (.seq (.reg [O 1 (.box (.t 0)),
 O 2 (.mv (.c .nul))])
 (.seq (.reg [O 10 (.mkm),
 O 11 (.build [.nmp] [(0, 1, (.t 10))]),
 O 12 (.mkm),
 O 13 (.build [.nmp] [(0, 1, (.t 12))]),
 O 14 (.mkm),
 O 15 (.build [.nmp] [(0, 1, (.t 14))]),
 O 16 (.build [.nmp, .nmp, .nmp] [(0, 1, (.t 11)), (1, 1, (.t 13)), (2, 1, (.t 15))]),
 O 17 (.box (.t 16)),
 O 3 (.mv (.t 17))])
 (.seq (.seq (.reg [O 18 (.fadr 0 (.t 1)),
 O 19 (.ld none (.t 18)),
 O 20 (.len false (.t 19)),
 O 21 (.mv (.c (.d (.int .i64 0))))])
 (.block 0 (.loop K48_0 L48_0)))
 (.seq (.seq (.reg [O 34 (.fadr 1 (.t 1)),
 O 35 (.ld none (.t 34)),
 O 36 (.len false (.t 35)),
 O 37 (.mv (.c (.d (.int .i64 0))))])
 (.block 2 (.loop K48_1 L48_1)))
 (.seq (.seq (.reg [O 50 (.fadr 2 (.t 1)),
 O 51 (.ld none (.t 50)),
 O 52 (.len false (.t 51)),
 O 53 (.mv (.c (.d (.int .i64 0))))])
 (.block 4 (.loop K48_2 L48_2)))
 (.seq (.reg [O 66 (.mv (.t 3)),
 O 2 (.mv (.t 66))])
 .ret))))))
def F48 : VFn := ⟨1, 67, B48, [.tmp 2], true⟩

def A48 : Ann := ⟨keepOf [(3, [1, 3, 19, 20, 21]), (8, [1, 3, 35, 36, 37]), (13, [3, 51, 52, 53])], ghostOf []⟩
-- 49 (*patina/items.table).find
def B49 : VCode :=
 (.seq (.reg [O 4 (.mv (.c (.d (.int .i64 0)))),
 O 5 (.mv (.c (.d (.bool false))))])
 (.seq (.reg [O 9 (.mv (.t 0)),
 O 10 (.nilck (.t 9)),
 O 11 (.fadr 0 (.t 10)),
 O 12 (.ld none (.t 11)),
 O 13 (.mv (.t 1)),
 O 14 (.mget 2 true (.int .i64 0) (.t 12) (.t 13)),
 O 8 (.mv (.t 14)),
 O 15 (.ext (.t 8) 0),
 O 16 (.ext (.t 8) 1),
 O 6 (.mv (.t 15)),
 O 7 (.mv (.t 16))])
 (.seq (.reg [O 17 (.mv (.t 6)),
 O 18 (.mv (.t 7)),
 O 4 (.mv (.t 17)),
 O 5 (.mv (.t 18))])
 .ret)))
def F49 : VFn := ⟨2, 19, B49, [.tmp 4, .tmp 5], false⟩

def A49 : Ann := ⟨keepOf [], ghostOf []⟩
-- 50 slices.Clone[[]patina/api.Field,patina/api.Field]
def B50 : VCode :=
 (.seq (.reg [O 2 (.mv (.c .nils))])
 (.seq (.seq (.reg [O 3 (.mv (.t 0)),
 O 4 (.no)])
 (.cond (.t 4)
 (.seq (.reg [O 2 (.mv (.c .nils))])
 .ret)
 .skip))
 (.seq (.reg [O 5 (.brow 2),
 O 6 (.mv (.t 0)),
 O 7 (.app 2 32 (.t 5) (.t 6)),
 O 2 (.mv (.t 7))])
 .ret)))
-- 51 patina/types.fields
def B51 : VCode :=
 (.seq (.reg [O 2 (.box (.t 0)),
 O 4 (.mv (.c .nils)),
 O 5 (.mv (.c (.d (.int .i64 0))))])
 (.seq (.seq (.reg [O 11 (.ld (some 3) (.t 2)),
 O 12 (.mv (.t 1)),
 O 13 (.call 29 [(.t 11), (.t 12)]),
 O 10 (.mv (.t 13)),
 O 14 (.ext (.t 10) 0),
 O 15 (.ext (.t 10) 1),
 O 6 (.zbox [(.d (.str [])), .nils]),
 P (.st 2 (.t 6) (.t 14)),
 O 7 (.mv (.t 15))])
 (.seq (.reg [O 16 (.mv (.t 7))])
 (.cond (.t 16)
 (.seq (.reg [O 17 (.fadr 1 (.t 6)),
 O 18 (.ld none (.t 17)),
 O 4 (.mv (.t 18)),
 O 5 (.mv (.c (.d (.int .i64 3))))])
 .ret)
 .skip)))
 (.seq (.seq (.reg [O 20 (.ld (some 3) (.t 2)),
 O 21 (.mv (.t 1)),
 O 22 (.call 77 [(.t 20), (.t 21)]),
 O 19 (.mv (.t 22)),
 O 23 (.ext (.t 19) 0),
 O 24 (.ext (.t 19) 1),
 O 8 (.zbox [(.d (.str [])), .nils]),
 P (.st 2 (.t 8) (.t 23)),
 O 9 (.mv (.t 24))])
 (.seq (.reg [O 25 (.mv (.t 9))])
 (.cond (.t 25)
 (.seq (.reg [O 26 (.fadr 1 (.t 8)),
 O 27 (.ld none (.t 26)),
 O 4 (.mv (.t 27)),
 O 5 (.mv (.c (.d (.int .i64 4))))])
 .ret)
 .skip)))
 (.seq (.reg [O 4 (.mv (.c .nils)),
 O 5 (.mv (.c (.d (.int .i64 0))))])
 .ret))))
def F51 : VFn := ⟨2, 28, B51, [.tmp 4, .tmp 5], false⟩

def A51 : Ann := ⟨keepOf [], ghostOf []⟩
-- 52 patina/patinaref15.Enum
def K52_0 : List Nat := [1, 8, 9, 10]
def L52_0 : VCode :=
 (.seq (.reg [O 11 (.bin .lss (.t 10) (.t 9))])
 (.seq (.cond (.t 11)
 .skip
 (.exit 0))
 (.seq (.block 1 (.seq (.reg [O 12 (.mv (.t 10)),
 O 13 (.iadr 2 (.t 8) (.t 10)),
 O 14 (.ld (some 2) (.t 13)),
 O 6 (.zbox [(.d (.str [])), .nils]),
 O 5 (.mv (.t 12)),
 P (.st 2 (.t 6) (.t 14))])
 (.seq (.reg [O 15 (.fadr 0 (.t 6)),
 O 16 (.ld none (.t 15)),
 O 17 (.mv (.t 1)),
 O 18 (.bin .eql (.t 16) (.t 17))])
 (.cond (.t 18)
 (.seq (.reg [O 19 (.mv (.t 5)),
 O 4 (.mv (.t 19))])
 .ret)
 .skip))))
 (.reg [O 20 (.bin .add (.t 10) (.c (.d (.int .i64 1)))),
 O 10 (.mv (.t 20))]))))
def B52 : VCode :=
 (.seq (.reg [O 2 (.box (.t 0)),
 O 4 (.mv (.c (.d (.int .i64 0))))])
 (.seq (.seq (.reg [O 7 (.fadr 1 (.t 2)),
 O 8 (.ld none (.t 7)),
 O 9 (.len false (.t 8)),
 O 10 (.mv (.c (.d (.int .i64 0))))])
 (.block 0 (.loop K52_0 L52_0)))
 (.seq (.reg [O 4 (.mv (.c (.d (.int .i64 (-1)))))])
 .ret)))
def F52 : VFn := ⟨2, 21, B52, [.tmp 4], false⟩

def A52 : Ann := ⟨keepOf [(2, [1, 8, 9, 10])], ghostOf []⟩
-- 53 patina/patinaref15.Step
def B53 : VCode :=
 (.seq (.reg [O 3 (.box (.t 0)),
 O 6 (.mv (.c (.d (.str [])))),
 O 7 (.mv (.c (.d (.bool false))))])
 (.seq (.seq (.reg [O 10 (.mv (.t 2)),
 O 11 (.bin .geq (.t 10) (.c (.d (.int .i64 0))))])
 (.cond (.t 11)
 (.seq (.reg [O 12 (.ld (some 3) (.t 3)),
 O 13 (.mv (.t 1)),
 O 14 (.call 27 [(.t 12), (.t 13)]),
 O 8 (.mv (.t 14))])
 (.seq (.seq (.reg [O 15 (.mv (.t 8)),
 O 16 (.bin .lss (.t 15) (.c (.d (.int .i64 0)))),
 O 17 (.mv (.t 16)),
 G 18 (.mv (.t 2)) 17 false,
 G 19 (.fadr 0 (.t 3)) 17 false,
 G 20 (.ld none (.t 19)) 17 false,
 G 21 (.mv (.t 8)) 17 false,
 G 22 (.iadr 2 (.t 20) (.t 21)) 17 false,
 G 23 (.fadr 1 (.t 22)) 17 false,
 G 24 (.ld none (.t 23)) 17 false,
 G 25 (.len false (.t 24)) 17 false,
 G 26 (.bin .geq (.t 18) (.t 25)) 17 false,
 O 27 (.pick (.t 17) (.c (.d (.bool true))) (.t 26))])
 (.cond (.t 27)
 (.seq (.reg [O 6 (.mv (.c (.d (.str [])))),
 O 7 (.mv (.c (.d (.bool false))))])
 .ret)
 .skip))
 (.seq (.reg [O 28 (.fadr 0 (.t 3)),
 O 29 (.ld none (.t 28)),
 O 30 (.mv (.t 8)),
 O 31 (.iadr 2 (.t 29) (.t 30)),
 O 32 (.fadr 1 (.t 31)),
 O 33 (.ld none (.t 32)),
 O 34 (.mv (.t 2)),
 O 35 (.iadr 2 (.t 33) (.t 34)),
 O 36 (.fadr 1 (.t 35)),
 O 37 (.ld none (.t 36)),
 O 6 (.mv (.t 37)),
 O 7 (.mv (.c (.d (.bool true))))])
 .ret)))
 .skip))
 (.seq (.seq (.reg [O 38 (.mv (.t 2)),
 O 39 (.bin .eql (.t 38) (.c (.d (.int .i64 (-1)))))])
 (.cond (.t 39)
 (.seq (.reg [O 40 (.mv (.t 1)),
 O 41 (.call 14 [(.t 40)]),
 O 42 (.ext (.t 41) 0),
 O 43 (.ext (.t 41) 1),
 O 6 (.mv (.t 42)),
 O 7 (.mv (.t 43))])
 .ret)
 .skip))
 (.seq (.reg [O 44 (.ld (some 3) (.t 3)),
 O 45 (.mv (.t 1)),
 O 46 (.call 52 [(.t 44), (.t 45)]),
 O 9 (.mv (.t 46))])
 (.seq (.seq (.reg [O 47 (.mv (.t 9)),
 O 48 (.bin .lss (.t 47) (.c (.d (.int .i64 0)))),
 O 49 (.mv (.t 48)),
 G 50 (.mv (.t 2)) 49 false,
 G 51 (.fadr 1 (.t 3)) 49 false,
 G 52 (.ld none (.t 51)) 49 false,
 G 53 (.mv (.t 9)) 49 false,
 G 54 (.iadr 2 (.t 52) (.t 53)) 49 false,
 G 55 (.fadr 1 (.t 54)) 49 false,
 G 56 (.ld none (.t 55)) 49 false,
 G 57 (.len false (.t 56)) 49 false,
 G 58 (.bin .sub (.c (.d (.int .i64 (-2)))) (.t 57)) 49 false,
 G 59 (.bin .add (.t 58) (.c (.d (.int .i64 1)))) 49 false,
 G 60 (.bin .lss (.t 50) (.t 59)) 49 false,
 O 61 (.pick (.t 49) (.c (.d (.bool true))) (.t 60)),
 O 62 (.mv (.t 61)),
 G 63 (.fadr 1 (.t 3)) 62 false,
 G 64 (.ld none (.t 63)) 62 false,
 G 65 (.mv (.t 9)) 62 false,
 G 66 (.iadr 2 (.t 64) (.t 65)) 62 false,
 G 67 (.fadr 1 (.t 66)) 62 false,
 G 68 (.ld none (.t 67)) 62 false,
 G 69 (.mv (.t 2)) 62 false,
 G 70 (.bin .sub (.c (.d (.int .i64 (-2)))) (.t 69)) 62 false,
 G 71 (.iadr 2 (.t 68) (.t 70)) 62 false,
 G 72 (.fadr 1 (.t 71)) 62 false,
 G 73 (.ld none (.t 72)) 62 false,
 G 74 (.bin .eql (.t 73) (.c (.d (.str [])))) 62 false,
 O 75 (.pick (.t 62) (.c (.d (.bool true))) (.t 74))])
 (.cond (.t 75)
 (.seq (.reg [O 6 (.mv (.c (.d (.str [])))),
 O 7 (.mv (.c (.d (.bool false))))])
 .ret)
 .skip))
 (.seq (.reg [O 76 (.fadr 1 (.t 3)),
 O 77 (.ld none (.t 76)),
 O 78 (.mv (.t 9)),
 O 79 (.iadr 2 (.t 77) (.t 78)),
 O 80 (.fadr 1 (.t 79)),
 O 81 (.ld none (.t 80)),
 O 82 (.mv (.t 2)),
 O 83 (.bin .sub (.c (.d (.int .i64 (-2)))) (.t 82)),
 O 84 (.iadr 2 (.t 81) (.t 83)),
 O 85 (.fadr 1 (.t 84)),
 O 86 (.ld none (.t 85)),
 O 6 (.mv (.t 86)),
 O 7 (.mv (.c (.d (.bool true))))])
 .ret))))))
def F53 : VFn := ⟨3, 87, B53, [.tmp 6, .tmp 7], false⟩

def A53 : Ann := ⟨keepOf [], ghostOf []⟩
-- 54 internal/stringslite.CutPrefix
def B54 : VCode :=
 (.seq (.reg [O 4 (.mv (.c (.d (.str [])))),
 O 5 (.mv (.c (.d (.bool false))))])
 (.seq (.seq (.reg [O 6 (.mv (.t 0)),
 O 7 (.mv (.t 1)),
 O 8 (.call 56 [(.t 6), (.t 7)]),
 O 9 (.un .not (.t 8))])
 (.cond (.t 9)
 (.seq (.reg [O 10 (.mv (.t 0)),
 O 4 (.mv (.t 10)),
 O 5 (.mv (.c (.d (.bool false))))])
 .ret)
 .skip))
 (.seq (.reg [O 11 (.mv (.t 0)),
 O 12 (.mv (.t 1)),
 O 13 (.len true (.t 12)),
 O 14 (.slcs (.t 11) (some (.t 13)) none),
 O 4 (.mv (.t 14)),
 O 5 (.mv (.c (.d (.bool true))))])
 .ret)))
def F54 : VFn := ⟨2, 15, B54, [.tmp 4, .tmp 5], false⟩

def A54 : Ann := ⟨keepOf [], ghostOf []⟩
-- 55 internal/stringslite.CutSuffix
def B55 : VCode :=
 (.seq (.reg [O 4 (.mv (.c (.d (.str [])))),
 O 5 (.mv (.c (.d (.bool false))))])
 (.seq (.seq (.reg [O 6 (.mv (.t 0)),
 O 7 (.mv (.t 1)),
 O 8 (.call 78 [(.t 6), (.t 7)]),
 O 9 (.un .not (.t 8))])
 (.cond (.t 9)
 (.seq (.reg [O 10 (.mv (.t 0)),
 O 4 (.mv (.t 10)),
 O 5 (.mv (.c (.d (.bool false))))])
 .ret)
 .skip))
 (.seq (.reg [O 11 (.mv (.t 0)),
 O 12 (.mv (.t 0)),
 O 13 (.len true (.t 12)),
 O 14 (.mv (.t 1)),
 O 15 (.len true (.t 14)),
 O 16 (.bin .sub (.t 13) (.t 15)),
 O 17 (.slcs (.t 11) none (some (.t 16))),
 O 4 (.mv (.t 17)),
 O 5 (.mv (.c (.d (.bool true))))])
 .ret)))
def F55 : VFn := ⟨2, 18, B55, [.tmp 4, .tmp 5], false⟩

def A55 : Ann := ⟨keepOf [], ghostOf []⟩
-- 56 internal/stringslite.HasPrefix
def B56 : VCode :=
 (.seq (.reg [O 4 (.mv (.c (.d (.bool false))))])
 (.seq (.reg [O 5 (.mv (.t 0)),
 O 6 (.len true (.t 5)),
 O 7 (.mv (.t 1)),
 O 8 (.len true (.t 7)),
 O 9 (.bin .geq (.t 6) (.t 8)),
 O 10 (.mv (.t 9)),
 G 11 (.mv (.t 0)) 10 true,
 G 12 (.mv (.t 1)) 10 true,
 G 13 (.len true (.t 12)) 10 true,
 G 14 (.slcs (.t 11) none (some (.t 13))) 10 true,
 G 15 (.mv (.t 1)) 10 true,
 G 16 (.bin .eql (.t 14) (.t 15)) 10 true,
 O 17 (.pick (.t 10) (.t 16) (.c (.d (.bool false)))),
 O 4 (.mv (.t 17))])
 .ret))
def F56 : VFn := ⟨2, 18, B56, [.tmp 4], false⟩

def A56 : Ann := ⟨keepOf [], ghostOf []⟩
-- 57 slices.ContainsFunc[[]patina/api.Field,patina/api.Field]
def B57 : VCode :=
 (.seq (.reg [O 4 (.mv (.c (.d (.bool false))))])
 (.seq (.reg [O 5 (.mv (.t 0)),
 O 6 (.mv (.t 1)),
 O 7 (.call 79 [(.t 5), (.t 6)]),
 O 8 (.bin .geq (.t 7) (.c (.d (.int .i64 0)))),
 O 4 (.mv (.t 8))])
 .ret))
def F57 : VFn := ⟨2, 9, B57, [.tmp 4], false⟩

def A57 : Ann := ⟨keepOf [], ghostOf []⟩
-- 58 patina/types.owns$1
def B58 : VCode :=
 (.seq (.reg [O 2 (.box (.t 0)),
 O 3 (.mv (.c (.d (.bool false))))])
 (.seq (.reg [O 4 (.fadr 1 (.t 2)),
 O 5 (.ld none (.t 4)),
 O 6 (.bin .neq (.t 5) (.c (.d (.str [])))),
 O 7 (.mv (.t 6)),
 G 8 (.ld (some 3) (.t 1)) 7 true,
 G 9 (.fadr 1 (.t 2)) 7 true,
 G 10 (.ld none (.t 9)) 7 true,
 G 11 (.call 42 [(.t 8), (.t 10)]) 7 true,
 O 12 (.pick (.t 7) (.t 11) (.c (.d (.bool false)))),
 O 3 (.mv (.t 12))])
 .ret))
def F58 : VFn := ⟨2, 13, B58, [.tmp 3], false⟩

def A58 : Ann := ⟨keepOf [], ghostOf []⟩
-- 59 patina/patinaref15.Box
def B59 : VCode :=
 (.seq (.reg [O 2 (.mv (.c (.d (.bool false))))])
 (.seq (.reg [O 3 (.mv (.t 0)),
 O 4 (.call 38 [(.t 3), (.c (.d (.str [66, 111, 120, 60])))]),
 O 5 (.mv (.t 4)),
 G 6 (.mv (.t 0)) 5 true,
 G 7 (.mv (.t 0)) 5 true,
 G 8 (.len true (.t 7)) 5 true,
 G 9 (.bin .sub (.t 8) (.c (.d (.int .i64 1)))) 5 true,
 G 10 (.idx (.t 6) (.t 9)) 5 true,
 G 11 (.bin .eql (.t 10) (.c (.d (.int .u8 62)))) 5 true,
 O 12 (.pick (.t 5) (.t 11) (.c (.d (.bool false)))),
 O 2 (.mv (.t 12))])
 .ret))
def F59 : VFn := ⟨1, 13, B59, [.tmp 2], false⟩

def A59 : Ann := ⟨keepOf [], ghostOf []⟩
-- 60 patina/patinaref14.functions
def K60_0 : List Nat := [1, 3, 4, 5, 6]
def L60_0 : VCode :=
 (.seq (.seq (.reg [O 56 (.mv (.t 6)),
 O 57 (.mv (.t 4)),
 O 58 (.bin .lss (.t 56) (.t 57))])
 (.cond (.t 58)
 .skip
 (.exit 2)))
 (.seq (.block 3 (.seq (.draw 18 [O 61 (.fadr 2 (.t 1)),
 O 62 (.ld none (.t 61)),
 O 63 (.mv (.t 6)),
 O 64 (.iadr 5 (.t 62) (.t 63)),
 O 65 (.fadr 0 (.t 64)),
 O 66 (.ld none (.t 65)),
 O 67 (.fadr 0 (.t 5)),
 O 68 (.ld none (.t 67)),
 O 69 (.bin .eql (.t 66) (.t 68)),
 O 70 (.mv (.t 69)),
 G 71 (.fadr 2 (.t 1)) 70 false,
 G 72 (.ld none (.t 71)) 70 false,
 G 73 (.mv (.t 6)) 70 false,
 G 74 (.iadr 5 (.t 72) (.t 73)) 70 false,
 G 75 (.fadr 4 (.t 74)) 70 false,
 G 76 (.ld none (.t 75)) 70 false,
 G 77 (.fadr 4 (.t 5)) 70 false,
 G 78 (.ld none (.t 77)) 70 false,
 G 79 (.bin .eql (.t 76) (.t 78)) 70 false,
 O 80 (.pick (.t 70) (.c (.d (.bool true))) (.t 79))])
 (.cond (.t 80)
 (.seq (.reg [O 2 (.mv (.c (.d (.bool false))))])
 .ret)
 .skip)))
 (.reg [O 59 (.mv (.t 6)),
 O 60 (.bin .add (.t 59) (.c (.d (.int .i64 1)))),
 O 6 (.mv (.t 60))])))
def K60_1 : List Nat := [1, 3, 4, 5, 7]
def L60_1 : VCode :=
 (.seq (.seq (.reg [O 81 (.mv (.t 7)),
 O 82 (.fadr 1 (.t 5)),
 O 83 (.ld none (.t 82)),
 O 84 (.len false (.t 83)),
 O 85 (.bin .lss (.t 81) (.t 84))])
 (.cond (.t 85)
 .skip
 (.exit 4)))
 (.seq (.block 5 (.seq (.draw 7 [O 88 (.ld (some 3) (.t 1)),
 O 89 (.fadr 1 (.t 5)),
 O 90 (.ld none (.t 89)),
 O 91 (.mv (.t 7)),
 O 92 (.iadr 2 (.t 90) (.t 91)),
 O 93 (.fadr 1 (.t 92)),
 O 94 (.ld none (.t 93)),
 O 95 (.call 81 [(.t 88), (.t 94)]),
 O 96 (.un .not (.t 95))])
 (.cond (.t 96)
 (.seq (.reg [O 2 (.mv (.c (.d (.bool false))))])
 .ret)
 .skip)))
 (.reg [O 86 (.mv (.t 7)),
 O 87 (.bin .add (.t 86) (.c (.d (.int .i64 1)))),
 O 7 (.mv (.t 87))])))
def K60_2 : List Nat := [1, 3, 4]
def L60_2 : VCode :=
 (.seq (.seq (.reg [O 8 (.mv (.t 4)),
 O 9 (.fadr 2 (.t 1)),
 O 10 (.ld none (.t 9)),
 O 11 (.len false (.t 10)),
 O 12 (.bin .lss (.t 8) (.t 11))])
 (.cond (.t 12)
 .skip
 (.exit 0)))
 (.seq (.block 1 (.seq (.reg [O 15 (.fadr 2 (.t 1)),
 O 16 (.ld none (.t 15)),
 O 17 (.mv (.t 4)),
 O 18 (.iadr 5 (.t 16) (.t 17)),
 O 19 (.ld (some 5) (.t 18)),
 O 5 (.zbox [(.d (.str [])), .nils, .nils, (.d (.str [])), (.d (.int .i64 0))]),
 P (.st 5 (.t 5) (.t 19))])
 (.seq (.seq (.reg [O 20 (.fadr 0 (.t 5)),
 O 21 (.ld none (.t 20)),
 O 22 (.call 62 [(.t 21)]),
 O 23 (.un .not (.t 22)),
 O 24 (.mv (.t 23)),
 G 25 (.fadr 0 (.t 5)) 24 false,
 G 26 (.ld none (.t 25)) 24 false,
 G 27 (.call 80 [(.t 26)]) 24 false,
 O 28 (.pick (.t 24) (.c (.d (.bool true))) (.t 27)),
 O 29 (.mv (.t 28)),
 G 30 (.fadr 1 (.t 5)) 29 false,
 G 31 (.ld none (.t 30)) 29 false,
 G 32 (.call 65 [(.t 31), (.c (.d (.int .i64 6)))]) 29 false,
 G 33 (.un .not (.t 32)) 29 false,
 O 34 (.pick (.t 29) (.c (.d (.bool true))) (.t 33)),
 O 35 (.mv (.t 34)),
 G 36 (.fadr 2 (.t 5)) 35 false,
 G 37 (.ld none (.t 36)) 35 false,
 G 38 (.len false (.t 37)) 35 false,
 G 39 (.fadr 1 (.t 5)) 35 false,
 G 40 (.ld none (.t 39)) 35 false,
 G 41 (.len false (.t 40)) 35 false,
 G 42 (.bin .neq (.t 38) (.t 41)) 35 false,
 O 43 (.pick (.t 35) (.c (.d (.bool true))) (.t 42)),
 O 44 (.mv (.t 43)),
 G 45 (.ld (some 3) (.t 1)) 44 false,
 G 46 (.fadr 3 (.t 5)) 44 false,
 G 47 (.ld none (.t 46)) 44 false,
 G 48 (.call 81 [(.t 45), (.t 47)]) 44 false,
 G 49 (.un .not (.t 48)) 44 false,
 O 50 (.pick (.t 44) (.c (.d (.bool true))) (.t 49)),
 O 51 (.mv (.t 50)),
 G 52 (.fadr 4 (.t 5)) 51 false,
 G 53 (.ld none (.t 52)) 51 false,
 G 54 (.bin .lss (.t 53) (.c (.d (.int .i64 0)))) 51 false,
 O 55 (.pick (.t 51) (.c (.d (.bool true))) (.t 54))])
 (.cond (.t 55)
 (.seq (.reg [O 2 (.mv (.c (.d (.bool false))))])
 .ret)
 .skip))
 (.seq (.seq (.reg [O 6 (.mv (.c (.d (.int .i64 0))))])
 (.block 2 (.loop K60_0 L60_0)))
 (.seq (.seq (.reg [O 7 (.mv (.c (.d (.int .i64 0))))])
 (.block 4 (.loop K60_1 L60_1)))
 (.reg [O 97 (.mv (.t 3)),
 O 98 (.mv (.t 97)),
 G 99 (.fadr 0 (.t 5)) 98 false,
 G 100 (.ld none (.t 99)) 98 false,
 G 101 (.bin .eql (.t 100) (.c (.d (.str [109, 97, 105, 110])))) 98 false,
 G 102 (.mv (.t 101)) 98 false,
 G 103 (.fadr 1 (.t 5)) 102 true,
 G 104 (.ld none (.t 103)) 102 true,
 G 105 (.len false (.t 104)) 102 true,
 G 106 (.bin .eql (.t 105) (.c (.d (.int .i64 0)))) 102 true,
 G 107 (.pick (.t 102) (.t 106) (.c (.d (.bool false)))) 98 false,
 G 108 (.mv (.t 107)) 98 false,
 G 109 (.fadr 3 (.t 5)) 108 true,
 G 110 (.ld none (.t 109)) 108 true,
 G 111 (.bin .eql (.t 110) (.c (.d (.str [40, 41])))) 108 true,
 G 112 (.pick (.t 108) (.t 111) (.c (.d (.bool false)))) 98 false,
 O 113 (.pick (.t 98) (.c (.d (.bool true))) (.t 112)),
 O 3 (.mv (.t 113))]))))))
 (.reg [O 13 (.mv (.t 4)),
 O 14 (.bin .add (.t 13) (.c (.d (.int .i64 1)))),
 O 4 (.mv (.t 14))])))
def B60 : VCode :=
 (.seq (.reg [O 1 (.box (.t 0)),
 O 2 (.mv (.c (.d (.bool false))))])
 (.seq (.reg [O 3 (.mv (.c (.d (.bool false))))])
 (.seq (.seq (.reg [O 4 (.mv (.c (.d (.int .i64 0))))])
 (.block 0 (.loop K60_2 L60_2)))
 (.seq (.reg [O 114 (.mv (.t 3)),
 O 115 (.mv (.t 114)),
 G 116 (.fadr 2 (.t 1)) 115 true,
 G 117 (.ld none (.t 116)) 115 true,
 G 118 (.len false (.t 117)) 115 true,
 G 119 (.bin .leq (.t 118) (.c (.d (.int .i64 64)))) 115 true,
 O 120 (.pick (.t 115) (.t 119) (.c (.d (.bool false)))),
 O 2 (.mv (.t 120))])
 .ret))))
def F60 : VFn := ⟨1, 121, B60, [.tmp 2], false⟩

def A60 : Ann := ⟨keepOf [(3, [1, 3, 4]), (9, [1, 3, 4, 5, 6]), (14, [1, 3, 4, 5, 7])], ghostOf []⟩
-- 61 patina/patinaref14.all
def K61_0 : List Nat := [1, 3, 4]
def L61_0 : VCode :=
 (.seq (.seq (.reg [O 6 (.mv (.t 4)),
 O 7 (.fadr 0 (.t 1)),
 O 8 (.ld none (.t 7)),
 O 9 (.len false (.t 8)),
 O 10 (.bin .lss (.t 6) (.t 9))])
 (.cond (.t 10)
 .skip
 (.exit 0)))
 (.seq (.block 1 (.reg [O 13 (.mv (.t 3)),
 O 14 (.fadr 0 (.t 1)),
 O 15 (.ld none (.t 14)),
 O 16 (.mv (.t 4)),
 O 17 (.iadr 2 (.t 15) (.t 16)),
 O 18 (.fadr 0 (.t 17)),
 O 19 (.ld none (.t 18)),
 O 20 (.bslice 1 1 [(.t 19)]),
 O 21 (.app 1 16 (.t 13) (.t 20)),
 O 3 (.mv (.t 21))]))
 (.reg [O 11 (.mv (.t 4)),
 O 12 (.bin .add (.t 11) (.c (.d (.int .i64 1)))),
 O 4 (.mv (.t 12))])))
def K61_1 : List Nat := [1, 3, 5]
def L61_1 : VCode :=
 (.seq (.seq (.reg [O 22 (.mv (.t 5)),
 O 23 (.fadr 1 (.t 1)),
 O 24 (.ld none (.t 23)),
 O 25 (.len false (.t 24)),
 O 26 (.bin .lss (.t 22) (.t 25))])
 (.cond (.t 26)
 .skip
 (.exit 2)))
 (.seq (.block 3 (.reg [O 29 (.mv (.t 3)),
 O 30 (.fadr 1 (.t 1)),
 O 31 (.ld none (.t 30)),
 O 32 (.mv (.t 5)),
 O 33 (.iadr 2 (.t 31) (.t 32)),
 O 34 (.fadr 0 (.t 33)),
 O 35 (.ld none (.t 34)),
 O 36 (.bslice 1 1 [(.t 35)]),
 O 37 (.app 1 16 (.t 29) (.t 36)),
 O 3 (.mv (.t 37))]))
 (.reg [O 27 (.mv (.t 5)),
 O 28 (.bin .add (.t 27) (.c (.d (.int .i64 1)))),
 O 5 (.mv (.t 28))])))
def B61 : VCode :=
 (.seq (.reg [O 1 (.box (.t 0)),
 O 2 (.mv (.c .nils))])
 (.seq (.reg [O 3 (.mv (.c .nils))])
 (.seq (.seq (.seq (.newrow 1 3)
 (.reg [O 4 (.mv (.c (.d (.int .i64 0))))]))
 (.block 0 (.loop K61_0 L61_0)))
 (.seq (.seq (.reg [O 5 (.mv (.c (.d (.int .i64 0))))])
 (.block 2 (.loop K61_1 L61_1)))
 (.seq (.reg [O 38 (.mv (.t 3)),
 O 2 (.mv (.t 38))])
 .ret)))))
def F61 : VFn := ⟨1, 39, B61, [.tmp 2], false⟩

def A61 : Ann := ⟨keepOf [(3, [1, 3, 4]), (7, [1, 3, 5])], ghostOf [(2, [.newrow 1 3])]⟩
-- 62 patina/patinaref11.Name
def B62 : VCode :=
 (.seq (.reg [O 2 (.mv (.c (.d (.bool false))))])
 (.seq (.reg [O 3 (.mv (.t 0)),
 O 4 (.call 82 [(.t 3)]),
 O 5 (.mv (.t 4)),
 G 6 (.mv (.t 0)) 5 true,
 G 7 (.len true (.t 6)) 5 true,
 G 8 (.bin .leq (.t 7) (.c (.d (.int .i64 64)))) 5 true,
 O 9 (.pick (.t 5) (.t 8) (.c (.d (.bool false)))),
 O 10 (.mv (.t 9)),
 G 11 (.mv (.t 0)) 10 true,
 G 12 (.call 83 [(.t 11)]) 10 true,
 G 13 (.un .not (.t 12)) 10 true,
 O 14 (.pick (.t 10) (.t 13) (.c (.d (.bool false)))),
 O 2 (.mv (.t 14))])
 .ret))
def F62 : VFn := ⟨1, 15, B62, [.tmp 2], false⟩

def A62 : Ann := ⟨keepOf [], ghostOf []⟩
-- 63 patina/patinaref14.has
def K63_0 : List Nat := [0, 1, 5]
def L63_0 : VCode :=
 (.seq (.seq (.reg [O 6 (.mv (.t 5)),
 O 7 (.mv (.t 0)),
 O 8 (.len false (.t 7)),
 O 9 (.bin .lss (.t 6) (.t 8))])
 (.cond (.t 9)
 .skip
 (.exit 0)))
 (.seq (.block 1 (.seq (.reg [O 12 (.mv (.t 0)),
 O 13 (.mv (.t 5)),
 O 14 (.iadr 1 (.t 12) (.t 13)),
 O 15 (.ld none (.t 14)),
 O 16 (.mv (.t 1)),
 O 17 (.bin .eql (.t 15) (.t 16))])
 (.cond (.t 17)
 (.seq (.reg [O 4 (.mv (.c (.d (.bool true))))])
 .ret)
 .skip)))
 (.reg [O 10 (.mv (.t 5)),
 O 11 (.bin .add (.t 10) (.c (.d (.int .i64 1)))),
 O 5 (.mv (.t 11))])))
def B63 : VCode :=
 (.seq (.reg [O 4 (.mv (.c (.d (.bool false))))])
 (.seq (.seq (.reg [O 5 (.mv (.c (.d (.int .i64 0))))])
 (.block 0 (.loop K63_0 L63_0)))
 (.seq (.reg [O 4 (.mv (.c (.d (.bool false))))])
 .ret)))
def F63 : VFn := ⟨2, 18, B63, [.tmp 4], false⟩

def A63 : Ann := ⟨keepOf [(2, [0, 1, 5])], ghostOf []⟩
-- 64 patina/patinaref14.parts
def K64_0 : List Nat := [1, 2, 7]
def L64_0 : VCode :=
 (.seq (.seq (.reg [O 9 (.mv (.t 7)),
 O 10 (.fadr 0 (.t 2)),
 O 11 (.ld none (.t 10)),
 O 12 (.len false (.t 11)),
 O 13 (.bin .lss (.t 9) (.t 12))])
 (.cond (.t 13)
 .skip
 (.exit 0)))
 (.seq (.block 1 (.seq (.reg [O 16 (.fadr 0 (.t 2)),
 O 17 (.ld none (.t 16)),
 O 18 (.mv (.t 7)),
 O 19 (.iadr 2 (.t 17) (.t 18)),
 O 20 (.fadr 0 (.t 19)),
 O 21 (.ld none (.t 20)),
 O 22 (.mv (.t 1)),
 O 23 (.bin .eql (.t 21) (.t 22))])
 (.cond (.t 23)
 (.seq (.reg [O 24 (.fadr 0 (.t 2)),
 O 25 (.ld none (.t 24)),
 O 26 (.mv (.t 7)),
 O 27 (.iadr 2 (.t 25) (.t 26)),
 O 28 (.fadr 1 (.t 27)),
 O 29 (.ld none (.t 28)),
 O 4 (.mv (.t 29)),
 O 5 (.mv (.c (.d (.bool false)))),
 O 6 (.mv (.c (.d (.bool true))))])
 .ret)
 .skip)))
 (.reg [O 14 (.mv (.t 7)),
 O 15 (.bin .add (.t 14) (.c (.d (.int .i64 1)))),
 O 7 (.mv (.t 15))])))
def K64_1 : List Nat := [1, 2, 8]
def L64_1 : VCode :=
 (.seq (.seq (.reg [O 30 (.mv (.t 8)),
 O 31 (.fadr 1 (.t 2)),
 O 32 (.ld none (.t 31)),
 O 33 (.len false (.t 32)),
 O 34 (.bin .lss (.t 30) (.t 33))])
 (.cond (.t 34)
 .skip
 (.exit 2)))
 (.seq (.block 3 (.seq (.reg [O 37 (.fadr 1 (.t 2)),
 O 38 (.ld none (.t 37)),
 O 39 (.mv (.t 8)),
 O 40 (.iadr 2 (.t 38) (.t 39)),
 O 41 (.fadr 0 (.t 40)),
 O 42 (.ld none (.t 41)),
 O 43 (.mv (.t 1)),
 O 44 (.bin .eql (.t 42) (.t 43))])
 (.cond (.t 44)
 (.seq (.reg [O 45 (.fadr 1 (.t 2)),
 O 46 (.ld none (.t 45)),
 O 47 (.mv (.t 8)),
 O 48 (.iadr 2 (.t 46) (.t 47)),
 O 49 (.fadr 1 (.t 48)),
 O 50 (.ld none (.t 49)),
 O 4 (.mv (.t 50)),
 O 5 (.mv (.c (.d (.bool true)))),
 O 6 (.mv (.c (.d (.bool true))))])
 .ret)
 .skip)))
 (.reg [O 35 (.mv (.t 8)),
 O 36 (.bin .add (.t 35) (.c (.d (.int .i64 1)))),
 O 8 (.mv (.t 36))])))
def B64 : VCode :=
 (.seq (.reg [O 2 (.box (.t 0)),
 O 4 (.mv (.c .nils)),
 O 5 (.mv (.c (.d (.bool false)))),
 O 6 (.mv (.c (.d (.bool false))))])
 (.seq (.seq (.reg [O 7 (.mv (.c (.d (.int .i64 0))))])
 (.block 0 (.loop K64_0 L64_0)))
 (.seq (.seq (.reg [O 8 (.mv (.c (.d (.int .i64 0))))])
 (.block 2 (.loop K64_1 L64_1)))
 (.seq (.reg [O 4 (.mv (.c .nils)),
 O 5 (.mv (.c (.d (.bool false)))),
 O 6 (.mv (.c (.d (.bool false))))])
 .ret))))
def F64 : VFn := ⟨2, 51, B64, [.tmp 4, .tmp 5, .tmp 6], false⟩

def A64 : Ann := ⟨keepOf [(2, [1, 2, 7]), (7, [1, 2, 8])], ghostOf []⟩
-- 65 patina/patinaref14.fields
def K65_0 : List Nat := [0, 1, 5, 6]
def L65_0 : VCode :=
 (.seq (.seq (.reg [O 20 (.mv (.t 6)),
 O 21 (.mv (.t 5)),
 O 22 (.bin .lss (.t 20) (.t 21))])
 (.cond (.t 22)
 .skip
 (.exit 2)))
 (.seq (.block 3 (.seq (.draw 10 [O 25 (.mv (.t 0)),
 O 26 (.mv (.t 6)),
 O 27 (.iadr 2 (.t 25) (.t 26)),
 O 28 (.fadr 0 (.t 27)),
 O 29 (.ld none (.t 28)),
 O 30 (.mv (.t 0)),
 O 31 (.mv (.t 5)),
 O 32 (.iadr 2 (.t 30) (.t 31)),
 O 33 (.fadr 0 (.t 32)),
 O 34 (.ld none (.t 33)),
 O 35 (.bin .eql (.t 29) (.t 34))])
 (.cond (.t 35)
 (.seq (.reg [O 4 (.mv (.c (.d (.bool false))))])
 .ret)
 .skip)))
 (.reg [O 23 (.mv (.t 6)),
 O 24 (.bin .add (.t 23) (.c (.d (.int .i64 1)))),
 O 6 (.mv (.t 24))])))
def K65_1 : List Nat := [0, 1, 5]
def L65_1 : VCode :=
 (.seq (.seq (.reg [O 7 (.mv (.t 5)),
 O 8 (.mv (.t 0)),
 O 9 (.len false (.t 8)),
 O 10 (.bin .lss (.t 7) (.t 9))])
 (.cond (.t 10)
 .skip
 (.exit 0)))
 (.seq (.block 1 (.seq (.seq (.reg [O 13 (.mv (.t 0)),
 O 14 (.mv (.t 5)),
 O 15 (.iadr 2 (.t 13) (.t 14)),
 O 16 (.fadr 0 (.t 15)),
 O 17 (.ld none (.t 16)),
 O 18 (.call 62 [(.t 17)]),
 O 19 (.un .not (.t 18))])
 (.cond (.t 19)
 (.seq (.reg [O 4 (.mv (.c (.d (.bool false))))])
 .ret)
 .skip))
 (.seq (.reg [O 6 (.mv (.c (.d (.int .i64 0))))])
 (.block 2 (.loop K65_0 L65_0)))))
 (.reg [O 11 (.mv (.t 5)),
 O 12 (.bin .add (.t 11) (.c (.d (.int .i64 1)))),
 O 5 (.mv (.t 12))])))
def B65 : VCode :=
 (.seq (.reg [O 4 (.mv (.c (.d (.bool false))))])
 (.seq (.seq (.reg [O 5 (.mv (.c (.d (.int .i64 0))))])
 (.block 0 (.loop K65_1 L65_1)))
 (.seq (.reg [O 36 (.mv (.t 0)),
 O 37 (.len false (.t 36)),
 O 38 (.mv (.t 1)),
 O 39 (.bin .leq (.t 37) (.t 38)),
 O 4 (.mv (.t 39))])
 .ret)))
def F65 : VFn := ⟨2, 40, B65, [.tmp 4], false⟩

def A65 : Ann := ⟨keepOf [(2, [0, 1, 5]), (7, [0, 1, 5, 6])], ghostOf []⟩
-- 66 patina/patinaref14.typed
def K66_0 : List Nat := [1, 2]
def L66_0 : VCode :=
 (.seq (.seq (.reg [O 8 (.mv (.t 1)),
 O 9 (.call 84 [(.t 8), (.c (.d (.str [66, 111, 120, 60])))]),
 O 10 (.mv (.t 9)),
 G 11 (.mv (.t 1)) 10 true,
 G 12 (.mv (.t 1)) 10 true,
 G 13 (.len true (.t 12)) 10 true,
 G 14 (.bin .sub (.t 13) (.c (.d (.int .i64 1)))) 10 true,
 G 15 (.idx (.t 11) (.t 14)) 10 true,
 G 16 (.bin .eql (.t 15) (.c (.d (.int .u8 62)))) 10 true,
 O 17 (.pick (.t 10) (.t 16) (.c (.d (.bool false))))])
 (.cond (.t 17)
 .skip
 (.exit 0)))
 (.block 1 (.reg [O 18 (.mv (.t 1)),
 O 19 (.mv (.t 1)),
 O 20 (.len true (.t 19)),
 O 21 (.bin .sub (.t 20) (.c (.d (.int .i64 1)))),
 O 22 (.slcs (.t 18) (some (.c (.d (.int .i64 4)))) (some (.t 21))),
 O 1 (.mv (.t 22))])))
def B66 : VCode :=
 (.seq (.reg [O 2 (.box (.t 0)),
 O 4 (.mv (.c (.d (.bool false))))])
 (.seq (.block 0 (.loop K66_0 L66_0))
 (.seq (.reg [O 24 (.ld (some 3) (.t 2)),
 O 25 (.mv (.t 1)),
 O 26 (.call 64 [(.t 24), (.t 25)]),
 O 23 (.mv (.t 26)),
 O 27 (.ext (.t 23) 0),
 O 28 (.ext (.t 23) 1),
 O 29 (.ext (.t 23) 2),
 O 5 (.mv (.t 27)),
 O 6 (.mv (.t 28)),
 O 7 (.mv (.t 29))])
 (.seq (.reg [O 30 (.mv (.t 1)),
 O 31 (.bin .eql (.t 30) (.c (.d (.str [105, 54, 52])))),
 O 32 (.mv (.t 31)),
 G 33 (.mv (.t 1)) 32 false,
 G 34 (.bin .eql (.t 33) (.c (.d (.str [98, 111, 111, 108])))) 32 false,
 O 35 (.pick (.t 32) (.c (.d (.bool true))) (.t 34)),
 O 36 (.mv (.t 35)),
 G 37 (.mv (.t 1)) 36 false,
 G 38 (.bin .eql (.t 37) (.c (.d (.str [40, 41])))) 36 false,
 O 39 (.pick (.t 36) (.c (.d (.bool true))) (.t 38)),
 O 40 (.mv (.t 39)),
 G 41 (.mv (.t 7)) 40 false,
 O 42 (.pick (.t 40) (.c (.d (.bool true))) (.t 41)),
 O 4 (.mv (.t 42))])
 .ret))))
def F66 : VFn := ⟨2, 43, B66, [.tmp 4], false⟩

def A66 : Ann := ⟨keepOf [(1, [1, 2])], ghostOf []⟩
-- 67 patina/patinaref14.endless
def K67_0 : List Nat := [1, 2, 8, 9, 11, 14]
def L67_0 : VCode :=
 (.seq (.seq (.reg [O 56 (.mv (.t 14)),
 O 57 (.mv (.t 11)),
 O 58 (.len false (.t 57)),
 O 59 (.bin .lss (.t 56) (.t 58))])
 (.cond (.t 59)
 .skip
 (.exit 2)))
 (.seq (.block 3 (.seq (.seq (.reg [O 62 (.mv (.t 11)),
 O 63 (.mv (.t 14)),
 O 64 (.iadr 2 (.t 62) (.t 63)),
 O 65 (.fadr 1 (.t 64)),
 O 66 (.ld none (.t 65)),
 O 67 (.mv (.t 1)),
 O 68 (.bin .eql (.t 66) (.t 67))])
 (.cond (.t 68)
 (.seq (.reg [O 4 (.mv (.c (.d (.bool true))))])
 .ret)
 .skip))
 (.draw 9 [O 69 (.brow 1),
 O 70 (.mv (.t 9)),
 O 71 (.app 1 16 (.t 69) (.t 70)),
 O 72 (.mv (.t 11)),
 O 73 (.mv (.t 14)),
 O 74 (.iadr 2 (.t 72) (.t 73)),
 O 75 (.fadr 1 (.t 74)),
 O 76 (.ld none (.t 75)),
 O 77 (.bslice 1 1 [(.t 76)]),
 O 78 (.app 1 16 (.t 71) (.t 77)),
 O 9 (.mv (.t 78))])))
 (.seq (.freeze 9)
 (.reg [O 60 (.mv (.t 14)),
 O 61 (.bin .add (.t 60) (.c (.d (.int .i64 1)))),
 O 14 (.mv (.t 61))]))))
def K67_1 : List Nat := [1, 2, 8, 9]
def L67_1 : VCode :=
 (.seq (.seq (.reg [O 30 (.mv (.t 9)),
 O 31 (.len false (.t 30)),
 O 32 (.bin .gtr (.t 31) (.c (.d (.int .i64 0))))])
 (.cond (.t 32)
 .skip
 (.exit 0)))
 (.block 1 (.seq (.reg [O 33 (.mv (.t 9)),
 O 34 (.iadr 1 (.t 33) (.c (.d (.int .i64 0)))),
 O 35 (.ld none (.t 34)),
 O 10 (.mv (.t 35))])
 (.seq (.reg [O 36 (.mv (.t 9)),
 O 37 (.slc 1 (.t 36) (some (.c (.d (.int .i64 1)))) none),
 O 9 (.mv (.t 37))])
 (.seq (.reg [O 39 (.ld (some 3) (.t 2)),
 O 40 (.mv (.t 10)),
 O 41 (.call 64 [(.t 39), (.t 40)]),
 O 38 (.mv (.t 41)),
 O 42 (.ext (.t 38) 0),
 O 43 (.ext (.t 38) 1),
 O 44 (.ext (.t 38) 2),
 O 11 (.mv (.t 42)),
 O 12 (.mv (.t 43)),
 O 13 (.mv (.t 44))])
 (.seq (.seq (.reg [O 45 (.mv (.t 13)),
 O 46 (.un .not (.t 45)),
 O 47 (.mv (.t 46)),
 G 48 (.mv (.t 8)) 47 false,
 G 49 (.mv (.t 10)) 47 false,
 G 50 (.call 63 [(.t 48), (.t 49)]) 47 false,
 O 51 (.pick (.t 47) (.c (.d (.bool true))) (.t 50))])
 (.cond (.t 51)
 (.exit 1)
 .skip))
 (.seq (.reg [O 52 (.mv (.t 8)),
 O 53 (.mv (.t 10)),
 O 54 (.bslice 1 1 [(.t 53)]),
 O 55 (.app 1 16 (.t 52) (.t 54)),
 O 8 (.mv (.t 55))])
 (.seq (.reg [O 14 (.mv (.c (.d (.int .i64 0))))])
 (.block 2 (.loop K67_0 L67_0))))))))))
def B67 : VCode :=
 (.seq (.reg [O 2 (.box (.t 0)),
 O 4 (.mv (.c (.d (.bool false))))])
 (.seq (.reg [O 16 (.ld (some 3) (.t 2)),
 O 17 (.mv (.t 1)),
 O 18 (.call 64 [(.t 16), (.t 17)]),
 O 15 (.mv (.t 18)),
 O 19 (.ext (.t 15) 0),
 O 20 (.ext (.t 15) 1),
 O 21 (.ext (.t 15) 2),
 O 5 (.mv (.t 19)),
 O 6 (.mv (.t 20)),
 O 7 (.mv (.t 21))])
 (.seq (.seq (.reg [O 22 (.mv (.t 6)),
 O 23 (.mv (.t 22)),
 G 24 (.mv (.t 5)) 23 true,
 G 25 (.len false (.t 24)) 23 true,
 G 26 (.bin .eql (.t 25) (.c (.d (.int .i64 0)))) 23 true,
 O 27 (.pick (.t 23) (.t 26) (.c (.d (.bool false))))])
 (.cond (.t 27)
 (.seq (.reg [O 4 (.mv (.c (.d (.bool true))))])
 .ret)
 .skip))
 (.seq (.reg [O 8 (.mv (.c .nils))])
 (.seq (.seq (.newrow 1 8)
 (.reg [O 28 (.mv (.t 1)),
 O 29 (.bslice 1 1 [(.t 28)]),
 O 9 (.mv (.t 29))]))
 (.seq (.block 0 (.loop K67_1 L67_1))
 (.seq (.reg [O 4 (.mv (.c (.d (.bool false))))])
 .ret)))))))
def F67 : VFn := ⟨2, 79, B67, [.tmp 4], false⟩

def A67 : Ann := ⟨keepOf [(6, [1, 2, 8, 9]), (13, [1, 2, 8, 9, 11, 14])], ghostOf [(5, [.newrow 1 8]), (14, [.freeze 9])]⟩
-- 68 patina/patinaref14.size
def K68_0 : List Nat := [2, 6, 7, 9, 10, 11, 12]
def L68_0 : VCode :=
 (.seq (.seq (.reg [O 30 (.mv (.t 12)),
 O 31 (.mv (.t 6)),
 O 32 (.len false (.t 31)),
 O 33 (.bin .lss (.t 30) (.t 32))])
 (.cond (.t 33)
 .skip
 (.exit 0)))
 (.seq (.block 1 (.seq (.seq (.reg [O 36 (.mv (.t 6)),
 O 37 (.mv (.t 12)),
 O 38 (.iadr 2 (.t 36) (.t 37)),
 O 39 (.fadr 1 (.t 38)),
 O 40 (.ld none (.t 39)),
 O 41 (.bin .eql (.t 40) (.c (.d (.str []))))])
 (.cond (.t 41)
 (.exit 1)
 .skip))
 (.seq (.draw 11 [O 43 (.ld (some 3) (.t 2)),
 O 44 (.mv (.t 6)),
 O 45 (.mv (.t 12)),
 O 46 (.iadr 2 (.t 44) (.t 45)),
 O 47 (.fadr 1 (.t 46)),
 O 48 (.ld none (.t 47)),
 O 49 (.call 68 [(.t 43), (.t 48)]),
 O 42 (.mv (.t 49)),
 O 50 (.ext (.t 42) 0),
 O 51 (.ext (.t 42) 1),
 O 13 (.mv (.t 50)),
 O 14 (.mv (.t 51))])
 (.seq (.reg [O 52 (.mv (.t 9)),
 O 53 (.mv (.t 13)),
 O 54 (.bin .add (.t 52) (.t 53)),
 O 9 (.mv (.t 54))])
 (.seq (.seq (.reg [O 55 (.mv (.t 9)),
 O 56 (.bin .gtr (.t 55) (.c (.d (.int .i64 1024))))])
 (.cond (.t 56)
 (.seq (.reg [O 4 (.mv (.c (.d (.int .i64 1025)))),
 O 5 (.mv (.c (.d (.int .i64 0))))])
 .ret)
 .skip))
 (.seq (.reg [O 57 (.mv (.t 10)),
 O 58 (.mv (.t 14)),
 O 59 (.bin .add (.t 57) (.t 58)),
 O 10 (.mv (.t 59))])
 (.seq (.reg [O 60 (.mv (.t 14)),
 O 61 (.mv (.t 11)),
 O 62 (.bin .gtr (.t 60) (.t 61))])
 (.cond (.t 62)
 (.reg [O 63 (.mv (.t 14)),
 O 11 (.mv (.t 63))])
 .skip))))))))
 (.reg [O 34 (.mv (.t 12)),
 O 35 (.bin .add (.t 34) (.c (.d (.int .i64 1)))),
 O 12 (.mv (.t 35))])))
def B68 : VCode :=
 (.seq (.reg [O 2 (.box (.t 0)),
 O 4 (.mv (.c (.d (.int .i64 0)))),
 O 5 (.mv (.c (.d (.int .i64 0))))])
 (.seq (.reg [O 16 (.ld (some 3) (.t 2)),
 O 17 (.mv (.t 1)),
 O 18 (.call 64 [(.t 16), (.t 17)]),
 O 15 (.mv (.t 18)),
 O 19 (.ext (.t 15) 0),
 O 20 (.ext (.t 15) 1),
 O 21 (.ext (.t 15) 2),
 O 6 (.mv (.t 19)),
 O 7 (.mv (.t 20)),
 O 8 (.mv (.t 21))])
 (.seq (.seq (.reg [O 22 (.mv (.t 1)),
 O 23 (.bin .eql (.t 22) (.c (.d (.str [40, 41])))),
 O 24 (.mv (.t 23)),
 G 25 (.mv (.t 1)) 24 false,
 G 26 (.bin .eql (.t 25) (.c (.d (.str [])))) 24 false,
 O 27 (.pick (.t 24) (.c (.d (.bool true))) (.t 26))])
 (.cond (.t 27)
 (.seq (.reg [O 4 (.mv (.c (.d (.int .i64 1)))),
 O 5 (.mv (.c (.d (.int .i64 0))))])
 .ret)
 .skip))
 (.seq (.seq (.reg [O 28 (.mv (.t 8)),
 O 29 (.un .not (.t 28))])
 (.cond (.t 29)
 (.seq (.reg [O 4 (.mv (.c (.d (.int .i64 1)))),
 O 5 (.mv (.c (.d (.int .i64 1))))])
 .ret)
 .skip))
 (.seq (.reg [O 9 (.mv (.c (.d (.int .i64 1)))),
 O 10 (.mv (.c (.d (.int .i64 0)))),
 O 11 (.mv (.c (.d (.int .i64 0))))])
 (.seq (.seq (.reg [O 12 (.mv (.c (.d (.int .i64 0))))])
 (.block 0 (.loop K68_0 L68_0)))
 (.seq (.seq (.reg [O 64 (.mv (.t 7))])
 (.cond (.t 64)
 (.reg [O 65 (.mv (.t 11)),
 O 66 (.bin .add (.c (.d (.int .i64 1))) (.t 65)),
 O 10 (.mv (.t 66))])
 .skip))
 (.seq (.seq (.reg [O 67 (.mv (.t 10)),
 O 68 (.bin .gtr (.t 67) (.c (.d (.int .i64 64))))])
 (.cond (.t 68)
 (.reg [O 10 (.mv (.c (.d (.int .i64 65))))])
 .skip))
 (.seq (.reg [O 69 (.mv (.t 9)),
 O 70 (.mv (.t 10)),
 O 4 (.mv (.t 69)),
 O 5 (.mv (.t 70))])
 .ret)))))))))
def F68 : VFn := ⟨2, 71, B68, [.tmp 4, .tmp 5], false⟩

def A68 : Ann := ⟨keepOf [(8, [2, 6, 7, 9, 10, 11, 12])], ghostOf []⟩
-- 69 patina/patinaref15.Bare
def B69 : VCode :=
 (.seq (.reg [O 2 (.box (.t 0)),
 O 4 (.mv (.c (.d (.bool false))))])
 (.seq (.seq (.reg [O 7 (.mv (.t 1)),
 O 8 (.bin .eql (.t 7) (.c (.d (.str [105, 54, 52])))),
 O 9 (.mv (.t 8)),
 G 10 (.mv (.t 1)) 9 false,
 G 11 (.bin .eql (.t 10) (.c (.d (.str [98, 111, 111, 108])))) 9 false,
 O 12 (.pick (.t 9) (.c (.d (.bool true))) (.t 11)),
 O 13 (.mv (.t 12)),
 G 14 (.mv (.t 1)) 13 false,
 G 15 (.bin .eql (.t 14) (.c (.d (.str [40, 41])))) 13 false,
 O 16 (.pick (.t 13) (.c (.d (.bool true))) (.t 15)),
 O 17 (.mv (.t 16)),
 G 18 (.ld (some 3) (.t 2)) 17 false,
 G 19 (.mv (.t 1)) 17 false,
 G 20 (.call 27 [(.t 18), (.t 19)]) 17 false,
 G 21 (.bin .geq (.t 20) (.c (.d (.int .i64 0)))) 17 false,
 O 22 (.pick (.t 17) (.c (.d (.bool true))) (.t 21)),
 O 23 (.mv (.t 22)),
 G 24 (.ld (some 3) (.t 2)) 23 false,
 G 25 (.mv (.t 1)) 23 false,
 G 26 (.call 52 [(.t 24), (.t 25)]) 23 false,
 G 27 (.bin .geq (.t 26) (.c (.d (.int .i64 0)))) 23 false,
 O 28 (.pick (.t 23) (.c (.d (.bool true))) (.t 27))])
 (.cond (.t 28)
 (.seq (.reg [O 4 (.mv (.c (.d (.bool true))))])
 .ret)
 .skip))
 (.seq (.seq (.reg [O 29 (.mv (.t 1)),
 O 30 (.call 59 [(.t 29)])])
 (.cond (.t 30)
 (.seq (.reg [O 32 (.mv (.t 1)),
 O 33 (.call 14 [(.t 32)]),
 O 31 (.mv (.t 33)),
 O 34 (.ext (.t 31) 0),
 O 35 (.ext (.t 31) 1),
 O 5 (.mv (.t 34)),
 O 6 (.mv (.t 35))])
 (.seq (.reg [O 36 (.ld (some 3) (.t 2)),
 O 37 (.mv (.t 5)),
 O 38 (.call 69 [(.t 36), (.t 37)]),
 O 4 (.mv (.t 38))])
 .ret))
 .skip))
 (.seq (.reg [O 4 (.mv (.c (.d (.bool false))))])
 .ret))))
def F69 : VFn := ⟨2, 39, B69, [.tmp 4], false⟩

def A69 : Ann := ⟨keepOf [], ghostOf []⟩
-- 70 patina/lex.Name
def B70 : VCode :=
 (.seq (.reg [O 2 (.mv (.c (.d (.bool false))))])
 (.seq (.reg [O 3 (.mv (.t 0)),
 O 4 (.call 85 [(.t 3)]),
 O 5 (.mv (.t 4)),
 G 6 (.mv (.t 0)) 5 true,
 G 7 (.len true (.t 6)) 5 true,
 G 8 (.bin .leq (.t 7) (.c (.d (.int .i64 64)))) 5 true,
 O 9 (.pick (.t 5) (.t 8) (.c (.d (.bool false)))),
 O 10 (.mv (.t 9)),
 G 11 (.mv (.t 0)) 10 true,
 G 12 (.call 86 [(.t 11)]) 10 true,
 G 13 (.un .not (.t 12)) 10 true,
 O 14 (.pick (.t 10) (.t 13) (.c (.d (.bool false)))),
 O 2 (.mv (.t 14))])
 .ret))
def F70 : VFn := ⟨1, 15, B70, [.tmp 2], false⟩

def A70 : Ann := ⟨keepOf [], ghostOf []⟩
-- 71 (*patina/items.finder).listed
def K71_0 : List Nat := [0, 1, 2, 3, 4, 11, 15, 16, 17]
def L71_0 : VCode :=
 (.seq (.reg [O 18 (.bin .lss (.t 17) (.t 16))])
 (.seq (.cond (.t 18)
 .skip
 (.exit 0))
 (.seq (.block 1 (.seq (.reg [O 19 (.iadr 2 (.t 15) (.t 17)),
 O 20 (.ld (some 2) (.t 19)),
 O 13 (.zbox [(.d (.str [])), (.d (.str []))]),
 P (.st 2 (.t 13) (.t 20))])
 (.seq (.seq (.reg [O 21 (.fadr 0 (.t 13)),
 O 22 (.ld none (.t 21)),
 O 23 (.call 70 [(.t 22)]),
 O 24 (.un .not (.t 23)),
 O 25 (.mv (.t 24)),
 G 26 (.mv (.t 11)) 25 false,
 G 27 (.fadr 0 (.t 13)) 25 false,
 G 28 (.ld none (.t 27)) 25 false,
 G 29 (.mget 2 false (.int .i64 0) (.t 26) (.t 28)) 25 false,
 G 30 (.bin .gtr (.t 29) (.c (.d (.int .i64 0)))) 25 false,
 O 31 (.pick (.t 25) (.c (.d (.bool true))) (.t 30)),
 O 32 (.mv (.t 31)),
 G 33 (.mv (.t 0)) 32 false,
 G 34 (.fadr 1 (.t 13)) 32 false,
 G 35 (.ld none (.t 34)) 32 false,
 G 36 (.mv (.t 3)) 32 false,
 G 37 (.call 87 [(.t 33), (.t 35), (.t 36)]) 32 false,
 G 38 (.un .not (.t 37)) 32 false,
 G 39 (.mv (.t 38)) 32 false,
 G 40 (.mv (.t 4)) 39 true,
 G 41 (.mv (.t 40)) 39 true,
 G 42 (.fadr 1 (.t 13)) 41 true,
 G 43 (.ld none (.t 42)) 41 true,
 G 44 (.bin .eql (.t 43) (.c (.d (.str [])))) 41 true,
 G 45 (.pick (.t 41) (.t 44) (.c (.d (.bool false)))) 39 true,
 G 46 (.un .not (.t 45)) 39 true,
 G 47 (.pick (.t 39) (.t 46) (.c (.d (.bool false)))) 32 false,
 O 48 (.pick (.t 32) (.c (.d (.bool true))) (.t 47))])
 (.cond (.t 48)
 (.seq (.reg [O 10 (.mv (.c (.d (.bool false))))])
 .ret)
 .skip))
 (.reg [O 49 (.mv (.t 11)),
 O 50 (.fadr 0 (.t 13)),
 O 51 (.ld none (.t 50)),
 O 52 (.mget 2 false (.int .i64 0) (.t 49) (.t 51)),
 O 53 (.bin .add (.t 52) (.c (.d (.int .i64 1)))),
 P (.mput 2 (.t 49) (.t 51) (.t 53))]))))
 (.reg [O 54 (.bin .add (.t 17) (.c (.d (.int .i64 1)))),
 O 17 (.mv (.t 54))]))))
def B71 : VCode :=
 (.seq (.reg [O 10 (.mv (.c (.d (.bool false))))])
 (.seq (.reg [O 14 (.mkm),
 O 11 (.mv (.t 14))])
 (.seq (.seq (.reg [O 15 (.mv (.t 1)),
 O 16 (.len false (.t 15)),
 O 17 (.mv (.c (.d (.int .i64 0))))])
 (.block 0 (.loop K71_0 L71_0)))
 (.seq (.reg [O 55 (.mv (.t 1)),
 O 56 (.len false (.t 55)),
 O 57 (.mv (.t 2)),
 O 58 (.bin .leq (.t 56) (.t 57)),
 O 10 (.mv (.t 58))])
 .ret))))
def F71 : VFn := ⟨5, 59, B71, [.tmp 10], false⟩

def A71 : Ann := ⟨keepOf [(3, [0, 1, 2, 3, 4, 11, 15, 16, 17])], ghostOf []⟩
-- 72 patina/items.endless
def K72_0 : List Nat := [1, 2, 3, 7, 8]
def L72_0 : VCode :=
 (.seq (.seq (.reg [O 21 (.mv (.t 8)),
 O 22 (.len false (.t 21)),
 O 23 (.bin .gtr (.t 22) (.c (.d (.int .i64 0))))])
 (.cond (.t 23)
 .skip
 (.exit 0)))
 (.block 1 (.seq (.reg [O 24 (.mv (.t 8)),
 O 25 (.mv (.t 8)),
 O 26 (.len false (.t 25)),
 O 27 (.bin .sub (.t 26) (.c (.d (.int .i64 1)))),
 O 28 (.iadr 1 (.t 24) (.t 27)),
 O 29 (.ld none (.t 28)),
 O 10 (.mv (.t 29))])
 (.seq (.reg [O 30 (.mv (.t 8)),
 O 31 (.mv (.t 8)),
 O 32 (.len false (.t 31)),
 O 33 (.bin .sub (.t 32) (.c (.d (.int .i64 1)))),
 O 34 (.slc 1 (.t 30) none (some (.t 33))),
 O 8 (.mv (.t 34))])
 (.seq (.seq (.reg [O 35 (.mv (.t 10)),
 O 36 (.mv (.t 2)),
 O 37 (.bin .eql (.t 35) (.t 36))])
 (.cond (.t 37)
 (.seq (.reg [O 6 (.mv (.c (.d (.bool true))))])
 .ret)
 .skip))
 (.seq (.reg [O 38 (.mv (.t 7)),
 O 39 (.mv (.t 10)),
 O 40 (.mget 2 false (.int .i64 0) (.t 38) (.t 39)),
 O 41 (.bin .eql (.t 40) (.c (.d (.int .i64 0))))])
 (.cond (.t 41)
 (.seq (.reg [O 42 (.mv (.t 7)),
 O 43 (.mv (.t 10)),
 P (.mput 2 (.t 42) (.t 43) (.c (.d (.int .i64 1))))])
 (.seq (.reg [O 45 (.ld (some 3) (.t 3)),
 O 46 (.mv (.t 1)),
 O 47 (.mv (.t 10)),
 O 48 (.call 88 [(.t 45), (.t 46), (.t 47)]),
 O 44 (.mv (.t 48)),
 O 49 (.ext (.t 44) 0),
 O 50 (.ext (.t 44) 1),
 O 11 (.mv (.t 49)),
 O 12 (.mv (.t 50))])
 (.reg [O 51 (.mv (.t 8)),
 O 52 (.mv (.t 11)),
 O 53 (.app 1 16 (.t 51) (.t 52)),
 O 8 (.mv (.t 53))])))
 .skip)))))))
def B72 : VCode :=
 (.seq (.reg [O 3 (.box (.t 0)),
 O 6 (.mv (.c (.d (.bool false))))])
 (.seq (.reg [O 13 (.mkm),
 O 7 (.mv (.t 13))])
 (.seq (.reg [O 15 (.ld (some 3) (.t 3)),
 O 16 (.mv (.t 1)),
 O 17 (.mv (.t 2)),
 O 18 (.call 88 [(.t 15), (.t 16), (.t 17)]),
 O 14 (.mv (.t 18)),
 O 19 (.ext (.t 14) 0),
 O 20 (.ext (.t 14) 1),
 O 8 (.mv (.t 19)),
 O 9 (.mv (.t 20))])
 (.seq (.block 0 (.loop K72_0 L72_0))
 (.seq (.reg [O 6 (.mv (.c (.d (.bool false))))])
 .ret)))))
-- 73 patina/items.sized
def K73_0 : List Nat := [1, 2, 3, 4, 8, 13, 48, 49, 50]
def L73_0 : VCode :=
 (.seq (.reg [O 51 (.bin .lss (.t 50) (.t 49))])
 (.seq (.cond (.t 51)
 .skip
 (.exit 1))
 (.seq (.block 2 (.seq (.reg [O 52 (.iadr 1 (.t 48) (.t 50)),
 O 53 (.ld none (.t 52)),
 O 17 (.mv (.t 53))])
 (.seq (.reg [O 54 (.ld (some 3) (.t 4)),
 O 55 (.mv (.t 1)),
 O 56 (.mv (.t 17)),
 O 57 (.mv (.t 3)),
 O 58 (.call 73 [(.t 54), (.t 55), (.t 56), (.t 57)]),
 O 18 (.zbox [(.d (.int .i64 0)), (.d (.int .i64 0))]),
 P (.st 2 (.t 18) (.t 58))])
 (.seq (.reg [O 59 (.fadr 0 (.t 13)),
 O 60 (.ld none (.t 59)),
 O 61 (.fadr 0 (.t 18)),
 O 62 (.ld none (.t 61)),
 O 63 (.bin .add (.c (.d (.int .i64 1))) (.t 62)),
 O 64 (.mm true (.t 60) (.t 63)),
 O 65 (.fadr 0 (.t 13)),
 P (.st 1 (.t 65) (.t 64))])
 (.reg [O 66 (.fadr 1 (.t 13)),
 O 67 (.ld none (.t 66)),
 O 68 (.fadr 1 (.t 18)),
 O 69 (.ld none (.t 68)),
 O 70 (.bin .add (.t 67) (.t 69)),
 O 71 (.mm false (.t 70) (.c (.d (.int .i64 1025)))),
 O 72 (.fadr 1 (.t 13)),
 P (.st 1 (.t 72) (.t 71))])))))
 (.reg [O 73 (.bin .add (.t 50) (.c (.d (.int .i64 1)))),
 O 50 (.mv (.t 73))]))))
def K73_1 : List Nat := [1, 2, 3, 4, 8, 13, 77, 78, 79]
def L73_1 : VCode :=
 (.seq (.reg [O 80 (.bin .lss (.t 79) (.t 78))])
 (.seq (.cond (.t 80)
 .skip
 (.exit 3))
 (.seq (.block 4 (.seq (.reg [O 81 (.iadr 1 (.t 77) (.t 79)),
 O 82 (.ld none (.t 81)),
 O 20 (.mv (.t 82))])
 (.seq (.reg [O 83 (.ld (some 3) (.t 4)),
 O 84 (.mv (.t 1)),
 O 85 (.mv (.t 20)),
 O 86 (.mv (.t 3)),
 O 87 (.call 73 [(.t 83), (.t 84), (.t 85), (.t 86)]),
 O 21 (.zbox [(.d (.int .i64 0)), (.d (.int .i64 0))]),
 P (.st 2 (.t 21) (.t 87))])
 (.seq (.reg [O 88 (.fadr 0 (.t 13)),
 O 89 (.ld none (.t 88)),
 O 90 (.fadr 0 (.t 21)),
 O 91 (.ld none (.t 90)),
 O 92 (.bin .add (.t 89) (.t 91)),
 O 93 (.mm false (.t 92) (.c (.d (.int .i64 65)))),
 O 94 (.fadr 0 (.t 13)),
 P (.st 1 (.t 94) (.t 93))])
 (.reg [O 95 (.fadr 1 (.t 13)),
 O 96 (.ld none (.t 95)),
 O 97 (.fadr 1 (.t 21)),
 O 98 (.ld none (.t 97)),
 O 99 (.bin .add (.t 96) (.t 98)),
 O 100 (.mm false (.t 99) (.c (.d (.int .i64 1025)))),
 O 101 (.fadr 1 (.t 13)),
 P (.st 1 (.t 101) (.t 100))])))))
 (.reg [O 102 (.bin .add (.t 79) (.c (.d (.int .i64 1)))),
 O 79 (.mv (.t 102))]))))
def B73 : VCode :=
 (.seq (.reg [O 4 (.box (.t 0)),
 O 8 (.zbox [(.d (.int .i64 0)), (.d (.int .i64 0))])])
 (.seq (.seq (.reg [O 23 (.mv (.t 3)),
 O 24 (.mv (.t 2)),
 O 25 (.mget 2 true (.agg [(.int .i64 0), (.int .i64 0)]) (.t 23) (.t 24)),
 O 22 (.mv (.t 25)),
 O 26 (.ext (.t 22) 0),
 O 27 (.ext (.t 22) 1),
 O 9 (.zbox [(.d (.int .i64 0)), (.d (.int .i64 0))]),
 P (.st 2 (.t 9) (.t 26)),
 O 10 (.mv (.t 27))])
 (.seq (.reg [O 28 (.mv (.t 10))])
 (.cond (.t 28)
 (.seq (.reg [O 29 (.ld (some 2) (.t 9)),
 P (.st 2 (.t 8) (.t 29))])
 .ret)
 .skip)))
 (.seq (.reg [O 31 (.ld (some 3) (.t 4)),
 O 32 (.mv (.t 1)),
 O 33 (.mv (.t 2)),
 O 34 (.call 88 [(.t 31), (.t 32), (.t 33)]),
 O 30 (.mv (.t 34)),
 O 35 (.ext (.t 30) 0),
 O 36 (.ext (.t 30) 1),
 O 11 (.mv (.t 35)),
 O 12 (.mv (.t 36))])
 (.seq (.reg [O 37 (.build [(.d (.int .i64 0)), (.d (.int .i64 0))] [(0, 1, (.c (.d (.int .i64 1)))), (1, 1, (.c (.d (.int .i64 1))))]),
 O 13 (.zbox [(.d (.int .i64 0)), (.d (.int .i64 0))]),
 P (.st 2 (.t 13) (.t 37))])
 (.seq (.seq (.reg [O 39 (.mv (.t 1)),
 O 40 (.nilck (.t 39)),
 O 41 (.fadr 0 (.t 40)),
 O 42 (.mv (.t 2)),
 O 43 (.call 49 [(.t 41), (.t 42)]),
 O 38 (.mv (.t 43)),
 O 44 (.ext (.t 38) 0),
 O 45 (.ext (.t 38) 1),
 O 14 (.mv (.t 44)),
 O 15 (.mv (.t 45))])
 (.block 0 (.seq (.reg [O 47 (.mv (.t 12)),
 O 46 (.mv (.t 47))])
 (.cond (.t 46)
 (.seq (.reg [O 48 (.mv (.t 11)),
 O 49 (.len false (.t 48)),
 O 50 (.mv (.c (.d (.int .i64 0))))])
 (.block 1 (.loop K73_0 L73_0)))
 (.seq (.reg [O 75 (.mv (.t 15)),
 O 74 (.mv (.t 75))])
 (.cond (.t 74)
 (.seq (.reg [O 76 (.fadr 0 (.t 13)),
 P (.st 1 (.t 76) (.c (.d (.int .i64 0))))])
 (.seq (.reg [O 77 (.mv (.t 11)),
 O 78 (.len false (.t 77)),
 O 79 (.mv (.c (.d (.int .i64 0))))])
 (.block 3 (.loop K73_1 L73_1))))
 (.seq (.reg [O 104 (.mv (.t 2)),
 O 105 (.bin .eql (.t 104) (.c (.d (.str [40, 41])))),
 O 103 (.mv (.t 105))])
 (.cond (.t 103)
 (.reg [O 106 (.fadr 0 (.t 13)),
 P (.st 1 (.t 106) (.c (.d (.int .i64 0))))])
 .skip))))))))
 (.seq (.reg [O 107 (.mv (.t 3)),
 O 108 (.mv (.t 2)),
 O 109 (.ld (some 2) (.t 13)),
 P (.mput 2 (.t 107) (.t 108) (.t 109))])
 (.seq (.reg [O 110 (.ld (some 2) (.t 13)),
 P (.st 2 (.t 8) (.t 110))])
 .ret)))))))
def F73 : VFn := ⟨4, 111, B73, [.cell 8 (some 2)], false⟩

def A73 : Ann := ⟨keepOf [(9, [1, 2, 3, 4, 8, 13, 48, 49, 50]), (18, [1, 2, 3, 4, 8, 13, 77, 78, 79])], ghostOf []⟩
-- 74 patina/items.fns
def K74_0 : List Nat := [1, 2, 5, 6, 15, 16, 17]
def L74_0 : VCode :=
 (.seq (.reg [O 18 (.bin .lss (.t 17) (.t 16))])
 (.seq (.cond (.t 18)
 .skip
 (.exit 0))
 (.seq (.block 1 (.seq (.reg [O 19 (.iadr 5 (.t 15) (.t 17)),
 O 20 (.ld (some 5) (.t 19)),
 O 8 (.zbox [(.d (.str [])), .nils, .nils, (.d (.str [])), (.d (.int .i64 0))]),
 P (.st 5 (.t 8) (.t 20))])
 (.seq (.seq (.reg [O 21 (.fadr 0 (.t 8)),
 O 22 (.ld none (.t 21)),
 O 23 (.call 70 [(.t 22)]),
 O 24 (.un .not (.t 23)),
 O 25 (.mv (.t 24)),
 G 26 (.mv (.t 5)) 25 false,
 G 27 (.fadr 0 (.t 8)) 25 false,
 G 28 (.ld none (.t 27)) 25 false,
 G 29 (.mget 2 false (.int .i64 0) (.t 26) (.t 28)) 25 false,
 G 30 (.bin .gtr (.t 29) (.c (.d (.int .i64 0)))) 25 false,
 O 31 (.pick (.t 25) (.c (.d (.bool true))) (.t 30)),
 O 32 (.mv (.t 31)),
 G 33 (.fadr 2 (.t 8)) 32 false,
 G 34 (.ld none (.t 33)) 32 false,
 G 35 (.len false (.t 34)) 32 false,
 G 36 (.fadr 1 (.t 8)) 32 false,
 G 37 (.ld none (.t 36)) 32 false,
 G 38 (.len false (.t 37)) 32 false,
 G 39 (.bin .neq (.t 35) (.t 38)) 32 false,
 O 40 (.pick (.t 32) (.c (.d (.bool true))) (.t 39)),
 O 41 (.mv (.t 40)),
 G 42 (.mv (.t 1)) 41 false,
 G 43 (.fadr 1 (.t 8)) 41 false,
 G 44 (.ld none (.t 43)) 41 false,
 G 45 (.call 71 [(.t 42), (.t 44), (.c (.d (.int .i64 6))), (.c (.d (.bool true))), (.c (.d (.bool false)))]) 41 false,
 G 46 (.un .not (.t 45)) 41 false,
 O 47 (.pick (.t 41) (.c (.d (.bool true))) (.t 46)),
 O 48 (.mv (.t 47)),
 G 49 (.mv (.t 1)) 48 false,
 G 50 (.fadr 3 (.t 8)) 48 false,
 G 51 (.ld none (.t 50)) 48 false,
 G 52 (.call 87 [(.t 49), (.t 51), (.c (.d (.bool true)))]) 48 false,
 G 53 (.un .not (.t 52)) 48 false,
 O 54 (.pick (.t 48) (.c (.d (.bool true))) (.t 53)),
 O 55 (.mv (.t 54)),
 G 56 (.fadr 4 (.t 8)) 55 false,
 G 57 (.ld none (.t 56)) 55 false,
 G 58 (.bin .lss (.t 57) (.c (.d (.int .i64 0)))) 55 false,
 O 59 (.pick (.t 55) (.c (.d (.bool true))) (.t 58)),
 O 60 (.mv (.t 59)),
 G 61 (.mv (.t 6)) 60 false,
 G 62 (.fadr 4 (.t 8)) 60 false,
 G 63 (.ld none (.t 62)) 60 false,
 G 64 (.mget 1 false (.bool false) (.t 61) (.t 63)) 60 false,
 O 65 (.pick (.t 60) (.c (.d (.bool true))) (.t 64))])
 (.cond (.t 65)
 (.seq (.reg [O 4 (.mv (.c (.d (.bool false))))])
 .ret)
 .skip))
 (.seq (.reg [O 66 (.mv (.t 5)),
 O 67 (.fadr 0 (.t 8)),
 O 68 (.ld none (.t 67)),
 O 69 (.mget 2 false (.int .i64 0) (.t 66) (.t 68)),
 O 70 (.bin .add (.t 69) (.c (.d (.int .i64 1)))),
 P (.mput 2 (.t 66) (.t 68) (.t 70))])
 (.reg [O 71 (.mv (.t 6)),
 O 72 (.fadr 4 (.t 8)),
 O 73 (.ld none (.t 72)),
 P (.mput 1 (.t 71) (.t 73) (.c (.d (.bool true))))])))))
 (.reg [O 74 (.bin .add (.t 17) (.c (.d (.int .i64 1)))),
 O 17 (.mv (.t 74))]))))
def B74 : VCode :=
 (.seq (.reg [O 2 (.box (.t 0)),
 O 4 (.mv (.c (.d (.bool false))))])
 (.seq (.reg [O 11 (.mkm),
 P (.mput 2 (.t 11) (.c (.d (.str [112, 114, 105, 110, 116]))) (.c (.d (.int .i64 1)))),
 P (.mput 2 (.t 11) (.c (.d (.str [114, 101, 97, 100]))) (.c (.d (.int .i64 1)))),
 P (.mput 2 (.t 11) (.c (.d (.str [112, 97, 110, 105, 99]))) (.c (.d (.int .i64 1)))),
 O 12 (.mv (.t 11)),
 O 5 (.mv (.t 12))])
 (.seq (.reg [O 13 (.mkm),
 O 6 (.mv (.t 13))])
 (.seq (.seq (.reg [O 14 (.fadr 2 (.t 2)),
 O 15 (.ld none (.t 14)),
 O 16 (.len false (.t 15)),
 O 17 (.mv (.c (.d (.int .i64 0))))])
 (.block 0 (.loop K74_0 L74_0)))
 (.seq (.reg [O 76 (.mv (.t 1)),
 O 77 (.nilck (.t 76)),
 O 78 (.fadr 2 (.t 77)),
 O 79 (.call 49 [(.t 78), (.c (.d (.str [109, 97, 105, 110])))]),
 O 75 (.mv (.t 79)),
 O 80 (.ext (.t 75) 0),
 O 81 (.ext (.t 75) 1),
 O 9 (.mv (.t 80)),
 O 10 (.mv (.t 81))])
 (.seq (.reg [O 82 (.mv (.t 10)),
 O 83 (.mv (.t 82)),
 G 84 (.fadr 2 (.t 2)) 83 true,
 G 85 (.ld none (.t 84)) 83 true,
 G 86 (.mv (.t 9)) 83 true,
 G 87 (.iadr 5 (.t 85) (.t 86)) 83 true,
 G 88 (.fadr 1 (.t 87)) 83 true,
 G 89 (.ld none (.t 88)) 83 true,
 G 90 (.len false (.t 89)) 83 true,
 G 91 (.bin .eql (.t 90) (.c (.d (.int .i64 0)))) 83 true,
 O 92 (.pick (.t 83) (.t 91) (.c (.d (.bool false)))),
 O 93 (.mv (.t 92)),
 G 94 (.fadr 2 (.t 2)) 93 true,
 G 95 (.ld none (.t 94)) 93 true,
 G 96 (.mv (.t 9)) 93 true,
 G 97 (.iadr 5 (.t 95) (.t 96)) 93 true,
 G 98 (.fadr 3 (.t 97)) 93 true,
 G 99 (.ld none (.t 98)) 93 true,
 G 100 (.bin .eql (.t 99) (.c (.d (.str [40, 41])))) 93 true,
 O 101 (.pick (.t 93) (.t 100) (.c (.d (.bool false)))),
 O 4 (.mv (.t 101))])
 .ret))))))
def F74 : VFn := ⟨2, 102, B74, [.tmp 4], false⟩

def A74 : Ann := ⟨keepOf [(4, [1, 2, 5, 6, 15, 16, 17])], ghostOf []⟩
-- 75 patina/types.bare
def K75_0 : List Nat := [1, 2]
def L75_0 : VCode :=
 (.seq (.seq (.reg [O 7 (.mv (.t 1)),
 O 8 (.call 39 [(.t 7), (.c (.d (.str [66, 111, 120, 60])))]),
 O 9 (.mv (.t 8)),
 G 10 (.mv (.t 1)) 9 true,
 G 11 (.call 89 [(.t 10), (.c (.d (.str [62])))]) 9 true,
 O 12 (.pick (.t 9) (.t 11) (.c (.d (.bool false))))])
 (.cond (.t 12)
 .skip
 (.exit 0)))
 (.block 1 (.reg [O 13 (.mv (.t 1)),
 O 14 (.mv (.t 1)),
 O 15 (.len true (.t 14)),
 O 16 (.bin .sub (.t 15) (.c (.d (.int .i64 1)))),
 O 17 (.slcs (.t 13) (some (.c (.d (.int .i64 4)))) (some (.t 16))),
 O 1 (.mv (.t 17))])))
def B75 : VCode :=
 (.seq (.reg [O 2 (.box (.t 0)),
 O 4 (.mv (.c (.d (.bool false))))])
 (.seq (.block 0 (.loop K75_0 L75_0))
 (.seq (.seq (.reg [O 18 (.mv (.t 1))])
 (.block 2 (.seq (.block 4 (.block 3 (.seq (.seq (.seq (.seq (.reg [O 20 (.bin .eql (.t 18) (.c (.d (.str [105, 54, 52])))),
 O 19 (.mv (.t 20))])
 (.cond (.t 19)
 .skip
 (.reg [O 21 (.bin .eql (.t 18) (.c (.d (.str [98, 111, 111, 108])))),
 O 19 (.mv (.t 21))])))
 (.cond (.t 19)
 (.exit 3)
 .skip))
 (.seq (.reg [O 23 (.bin .eql (.t 18) (.c (.d (.str [40, 41])))),
 O 22 (.mv (.t 23))])
 (.cond (.t 22)
 (.exit 4)
 .skip)))
 (.exit 2))))
 (.seq (.seq (.reg [O 4 (.mv (.c (.d (.bool true))))])
 .ret)
 (.exit 2)))))
 (.seq (.reg [O 25 (.ld (some 3) (.t 2)),
 O 26 (.mv (.t 1)),
 O 27 (.call 51 [(.t 25), (.t 26)]),
 O 24 (.mv (.t 27)),
 O 28 (.ext (.t 24) 0),
 O 29 (.ext (.t 24) 1),
 O 5 (.mv (.t 28)),
 O 6 (.mv (.t 29))])
 (.seq (.reg [O 30 (.mv (.t 6)),
 O 31 (.bin .neq (.t 30) (.c (.d (.int .i64 0)))),
 O 4 (.mv (.t 31))])
 .ret)))))
def F75 : VFn := ⟨2, 32, B75, [.tmp 4], false⟩

def A75 : Ann := ⟨keepOf [(1, [1, 2])], ghostOf []⟩
-- 76 (*patina/items.table).put
def B76 : VCode :=
 (.seq (.reg [O 9 (.mv (.t 0)),
 O 10 (.nilck (.t 9)),
 O 11 (.fadr 0 (.t 10)),
 O 12 (.ld none (.t 11)),
 O 13 (.mv (.t 1)),
 O 14 (.mget 2 true (.int .i64 0) (.t 12) (.t 13)),
 O 8 (.mv (.t 14)),
 O 15 (.ext (.t 8) 0),
 O 16 (.ext (.t 8) 1),
 O 6 (.mv (.t 15)),
 O 7 (.mv (.t 16))])
 (.seq (.reg [O 17 (.mv (.t 7)),
 O 18 (.un .not (.t 17))])
 (.cond (.t 18)
 (.reg [O 19 (.mv (.t 0)),
 O 20 (.nilck (.t 19)),
 O 21 (.fadr 0 (.t 20)),
 O 22 (.ld none (.t 21)),
 O 23 (.mv (.t 1)),
 O 24 (.mv (.t 2)),
 P (.mput 2 (.t 22) (.t 23) (.t 24))])
 .skip)))
def F76 : VFn := ⟨3, 25, B76, [], false⟩

def A76 : Ann := ⟨keepOf [], ghostOf []⟩
-- 77 patina/items.Enum
def B77 : VCode :=
 (.seq (.reg [O 2 (.box (.t 0)),
 O 4 (.zbox [(.d (.str [])), .nils]),
 O 5 (.mv (.c (.d (.bool false))))])
 (.seq (.reg [O 10 (.ld (some 3) (.t 2)),
 O 11 (.call 48 [(.t 10)]),
 O 12 (.nilck (.t 11)),
 O 13 (.fadr 1 (.t 12)),
 O 14 (.mv (.t 1)),
 O 15 (.call 49 [(.t 13), (.t 14)]),
 O 9 (.mv (.t 15)),
 O 16 (.ext (.t 9) 0),
 O 17 (.ext (.t 9) 1),
 O 6 (.mv (.t 16)),
 O 7 (.mv (.t 17))])
 (.seq (.seq (.reg [O 18 (.mv (.t 7)),
 O 19 (.un .not (.t 18))])
 (.cond (.t 19)
 (.seq (.reg [O 20 (.build [(.d (.str [])), .nils] []),
 P (.st 2 (.t 4) (.t 20)),
 O 5 (.mv (.c (.d (.bool false))))])
 .ret)
 .skip))
 (.seq (.reg [O 21 (.fadr 1 (.t 2)),
 O 22 (.ld none (.t 21)),
 O 23 (.mv (.t 6)),
 O 24 (.iadr 2 (.t 22) (.t 23)),
 O 25 (.ld (some 2) (.t 24)),
 O 8 (.zbox [(.d (.str [])), .nils]),
 P (.st 2 (.t 8) (.t 25))])
 (.seq (.draw 5 [O 26 (.fadr 0 (.t 8)),
 O 27 (.ld none (.t 26)),
 O 28 (.fadr 1 (.t 8)),
 O 29 (.ld none (.t 28)),
 O 30 (.call 50 [(.t 29)]),
 O 31 (.build [(.d (.str [])), .nils] [(0, 1, (.t 27)), (1, 1, (.t 30))]),
 P (.st 2 (.t 4) (.t 31)),
 O 5 (.mv (.c (.d (.bool true))))])
 .ret)))))
def F77 : VFn := ⟨2, 32, B77, [.cell 4 (some 2), .tmp 5], false⟩

def A77 : Ann := ⟨keepOf [], ghostOf []⟩
-- 78 internal/stringslite.HasSuffix
def B78 : VCode :=
 (.seq (.reg [O 4 (.mv (.c (.d (.bool false))))])
 (.seq (.reg [O 5 (.mv (.t 0)),
 O 6 (.len true (.t 5)),
 O 7 (.mv (.t 1)),
 O 8 (.len true (.t 7)),
 O 9 (.bin .geq (.t 6) (.t 8)),
 O 10 (.mv (.t 9)),
 G 11 (.mv (.t 0)) 10 true,
 G 12 (.mv (.t 0)) 10 true,
 G 13 (.len true (.t 12)) 10 true,
 G 14 (.mv (.t 1)) 10 true,
 G 15 (.len true (.t 14)) 10 true,
 G 16 (.bin .sub (.t 13) (.t 15)) 10 true,
 G 17 (.slcs (.t 11) (some (.t 16)) none) 10 true,
 G 18 (.mv (.t 1)) 10 true,
 G 19 (.bin .eql (.t 17) (.t 18)) 10 true,
 O 20 (.pick (.t 10) (.t 19) (.c (.d (.bool false)))),
 O 4 (.mv (.t 20))])
 .ret))
def F78 : VFn := ⟨2, 21, B78, [.tmp 4], false⟩

def A78 : Ann := ⟨keepOf [], ghostOf []⟩
-- 79 slices.IndexFunc[[]patina/api.Field,patina/api.Field]
def K79_0 : List Nat := [0, 1, 7, 8]
def L79_0 : VCode :=
 (.seq (.reg [O 9 (.bin .lss (.t 8) (.t 7))])
 (.seq (.cond (.t 9)
 .skip
 (.exit 0))
 (.seq (.block 1 (.seq (.reg [O 10 (.mv (.t 8)),
 O 5 (.mv (.t 10))])
 (.seq (.reg [O 11 (.mv (.t 1)),
 O 12 (.mv (.t 0)),
 O 13 (.mv (.t 5)),
 O 14 (.iadr 2 (.t 12) (.t 13)),
 O 15 (.ld (some 2) (.t 14)),
 O 16 (.callv (.t 11) [(.t 15)])])
 (.cond (.t 16)
 (.seq (.reg [O 17 (.mv (.t 5)),
 O 4 (.mv (.t 17))])
 .ret)
 .skip))))
 (.reg [O 18 (.bin .add (.t 8) (.c (.d (.int .i64 1)))),
 O 8 (.mv (.t 18))]))))
def B79 : VCode :=
 (.seq (.reg [O 4 (.mv (.c (.d (.int .i64 0))))])
 (.seq (.seq (.reg [O 6 (.mv (.t 0)),
 O 7 (.len false (.t 6)),
 O 8 (.mv (.c (.d (.int .i64 0))))])
 (.block 0 (.loop K79_0 L79_0)))
 (.seq (.reg [O 4 (.mv (.c (.d (.int .i64 (-1)))))])
 .ret)))
def F79 : VFn := ⟨2, 19, B79, [.tmp 4], false⟩

def A79 : Ann := ⟨keepOf [(2, [0, 1, 7, 8])], ghostOf []⟩
-- 80 patina/patinaref14.built
def B80 : VCode :=
 (.seq (.reg [O 2 (.mv (.c (.d (.bool false))))])
 (.seq (.reg [O 3 (.mv (.t 0)),
 O 4 (.bin .eql (.t 3) (.c (.d (.str [112, 114, 105, 110, 116])))),
 O 5 (.mv (.t 4)),
 G 6 (.mv (.t 0)) 5 false,
 G 7 (.bin .eql (.t 6) (.c (.d (.str [114, 101, 97, 100])))) 5 false,
 O 8 (.pick (.t 5) (.c (.d (.bool true))) (.t 7)),
 O 9 (.mv (.t 8)),
 G 10 (.mv (.t 0)) 9 false,
 G 11 (.bin .eql (.t 10) (.c (.d (.str [112, 97, 110, 105, 99])))) 9 false,
 O 12 (.pick (.t 9) (.c (.d (.bool true))) (.t 11)),
 O 2 (.mv (.t 12))])
 .ret))
def F80 : VFn := ⟨1, 13, B80, [.tmp 2], false⟩

def A80 : Ann := ⟨keepOf [], ghostOf []⟩
-- 81 patina/patinaref14.outer
def B81 : VCode :=
 (.seq (.reg [O 2 (.box (.t 0)),
 O 4 (.mv (.c (.d (.bool false))))])
 (.seq (.seq (.reg [O 5 (.mv (.t 1)),
 O 6 (.call 84 [(.t 5), (.c (.d (.str [38, 109, 117, 116, 32])))])])
 (.cond (.t 6)
 (.seq (.draw 3 [O 7 (.ld (some 3) (.t 2)),
 O 8 (.mv (.t 1)),
 O 9 (.slcs (.t 8) (some (.c (.d (.int .i64 5)))) none),
 O 10 (.call 66 [(.t 7), (.t 9)]),
 O 4 (.mv (.t 10))])
 .ret)
 .skip))
 (.seq (.seq (.reg [O 11 (.mv (.t 1)),
 O 12 (.call 84 [(.t 11), (.c (.d (.str [38])))])])
 (.cond (.t 12)
 (.seq (.draw 3 [O 13 (.ld (some 3) (.t 2)),
 O 14 (.mv (.t 1)),
 O 15 (.slcs (.t 14) (some (.c (.d (.int .i64 1)))) none),
 O 16 (.call 66 [(.t 13), (.t 15)]),
 O 4 (.mv (.t 16))])
 .ret)
 .skip))
 (.seq (.reg [O 17 (.ld (some 3) (.t 2)),
 O 18 (.mv (.t 1)),
 O 19 (.call 66 [(.t 17), (.t 18)]),
 O 4 (.mv (.t 19))])
 .ret))))
def F81 : VFn := ⟨2, 20, B81, [.tmp 4], false⟩

def A81 : Ann := ⟨keepOf [], ghostOf []⟩
-- 82 patina/patinaref11.spelt
def K82_0 : List Nat := [0, 3]
def L82_0 : VCode :=
 (.seq (.seq (.reg [O 16 (.mv (.t 3)),
 O 17 (.mv (.t 0)),
 O 18 (.len true (.t 17)),
 O 19 (.bin .lss (.t 16) (.t 18))])
 (.cond (.t 19)
 .skip
 (.exit 0)))
 (.seq (.block 1 (.seq (.reg [O 22 (.mv (.t 0)),
 O 23 (.mv (.t 3)),
 O 24 (.idx (.t 22) (.t 23)),
 O 25 (.call 90 [(.t 24)]),
 O 26 (.un .not (.t 25)),
 O 27 (.mv (.t 26)),
 G 28 (.mv (.t 0)) 27 true,
 G 29 (.mv (.t 3)) 27 true,
 G 30 (.idx (.t 28) (.t 29)) 27 true,
 G 31 (.call 91 [(.t 30)]) 27 true,
 G 32 (.un .not (.t 31)) 27 true,
 O 33 (.pick (.t 27) (.t 32) (.c (.d (.bool false))))])
 (.cond (.t 33)
 (.seq (.reg [O 2 (.mv (.c (.d (.bool false))))])
 .ret)
 .skip)))
 (.reg [O 20 (.mv (.t 3)),
 O 21 (.bin .add (.t 20) (.c (.d (.int .i64 1)))),
 O 3 (.mv (.t 21))])))
def B82 : VCode :=
 (.seq (.reg [O 2 (.mv (.c (.d (.bool false))))])
 (.seq (.seq (.reg [O 4 (.mv (.t 0)),
 O 5 (.bin .eql (.t 4) (.c (.d (.str [])))),
 O 6 (.mv (.t 5)),
 G 7 (.mv (.t 0)) 6 false,
 G 8 (.bin .eql (.t 7) (.c (.d (.str [95])))) 6 false,
 O 9 (.pick (.t 6) (.c (.d (.bool true))) (.t 8)),
 O 10 (.mv (.t 9)),
 G 11 (.mv (.t 0)) 10 false,
 G 12 (.idx (.t 11) (.c (.d (.int .i64 0)))) 10 false,
 G 13 (.call 90 [(.t 12)]) 10 false,
 G 14 (.un .not (.t 13)) 10 false,
 O 15 (.pick (.t 10) (.c (.d (.bool true))) (.t 14))])
 (.cond (.t 15)
 (.seq (.reg [O 2 (.mv (.c (.d (.bool false))))])
 .ret)
 .skip))
 (.seq (.seq (.reg [O 3 (.mv (.c (.d (.int .i64 0))))])
 (.block 0 (.loop K82_0 L82_0)))
 (.seq (.reg [O 2 (.mv (.c (.d (.bool true))))])
 .ret))))
def F82 : VFn := ⟨1, 34, B82, [.tmp 2], false⟩

def A82 : Ann := ⟨keepOf [(4, [0, 3])], ghostOf []⟩
-- 83 patina/patinaref11.Word
def K83_0 : List Nat := [0, 5, 6, 7]
def L83_0 : VCode :=
 (.seq (.reg [O 8 (.bin .lss (.t 7) (.t 6))])
 (.seq (.cond (.t 8)
 .skip
 (.exit 0))
 (.seq (.block 1 (.seq (.reg [O 9 (.iadr 1 (.t 5) (.t 7)),
 O 10 (.ld none (.t 9)),
 O 4 (.mv (.t 10))])
 (.seq (.reg [O 11 (.mv (.t 0)),
 O 12 (.mv (.t 4)),
 O 13 (.bin .eql (.t 11) (.t 12))])
 (.cond (.t 13)
 (.seq (.reg [O 2 (.mv (.c (.d (.bool true))))])
 .ret)
 .skip))))
 (.reg [O 14 (.bin .add (.t 7) (.c (.d (.int .i64 1)))),
 O 7 (.mv (.t 14))]))))
def B83 : VCode :=
 (.seq (.reg [O 2 (.mv (.c (.d (.bool false))))])
 (.seq (.seq (.reg [O 5 (.bslice 1 17 [(.c (.d (.str [102, 110]))), (.c (.d (.str [115, 116, 114, 117, 99, 116]))), (.c (.d (.str [101, 110, 117, 109]))), (.c (.d (.str [108, 101, 116]))), (.c (.d (.str [109, 117, 116]))), (.c (.d (.str [119, 104, 105, 108, 101]))), (.c (.d (.str [105, 102]))), (.c (.d (.str [101, 108, 115, 101]))), (.c (.d (.str [109, 97, 116, 99, 104]))), (.c (.d (.str [114, 101, 116, 117, 114, 110]))), (.c (.d (.str [98, 114, 101, 97, 107]))), (.c (.d (.str [99, 111, 110, 116, 105, 110, 117, 101]))), (.c (.d (.str [116, 114, 117, 101]))), (.c (.d (.str [102, 97, 108, 115, 101]))), (.c (.d (.str [105, 54, 52]))), (.c (.d (.str [98, 111, 111, 108]))), (.c (.d (.str [66, 111, 120])))]),
 O 6 (.len false (.t 5)),
 O 7 (.mv (.c (.d (.int .i64 0))))])
 (.block 0 (.loop K83_0 L83_0)))
 (.seq (.reg [O 2 (.mv (.c (.d (.bool false))))])
 .ret)))
def F83 : VFn := ⟨1, 15, B83, [.tmp 2], false⟩

def A83 : Ann := ⟨keepOf [(2, [0, 5, 6, 7])], ghostOf []⟩
-- 84 patina/patinaref14.starts
def B84 : VCode :=
 (.seq (.reg [O 4 (.mv (.c (.d (.bool false))))])
 (.seq (.reg [O 5 (.mv (.t 0)),
 O 6 (.len true (.t 5)),
 O 7 (.mv (.t 1)),
 O 8 (.len true (.t 7)),
 O 9 (.bin .geq (.t 6) (.t 8)),
 O 10 (.mv (.t 9)),
 G 11 (.mv (.t 0)) 10 true,
 G 12 (.mv (.t 1)) 10 true,
 G 13 (.len true (.t 12)) 10 true,
 G 14 (.slcs (.t 11) none (some (.t 13))) 10 true,
 G 15 (.mv (.t 1)) 10 true,
 G 16 (.bin .eql (.t 14) (.t 15)) 10 true,
 O 17 (.pick (.t 10) (.t 16) (.c (.d (.bool false)))),
 O 4 (.mv (.t 17))])
 .ret))
def F84 : VFn := ⟨2, 18, B84, [.tmp 4], false⟩

def A84 : Ann := ⟨keepOf [], ghostOf []⟩
-- 85 patina/lex.spelt
def K85_0 : List Nat := [0, 16, 17]
def L85_0 : VCode :=
 (.seq (.reg [O 18 (.bin .lss (.t 17) (.t 16))])
 (.seq (.cond (.t 18)
 .skip
 (.exit 0))
 (.seq (.block 1 (.seq (.reg [O 19 (.mv (.t 17)),
 O 3 (.mv (.t 19))])
 (.seq (.reg [O 20 (.mv (.t 0)),
 O 21 (.mv (.t 3)),
 O 22 (.idx (.t 20) (.t 21)),
 O 23 (.call 93 [(.t 22)]),
 O 24 (.un .not (.t 23)),
 O 25 (.mv (.t 24)),
 G 26 (.mv (.t 0)) 25 true,
 G 27 (.mv (.t 3)) 25 true,
 G 28 (.idx (.t 26) (.t 27)) 25 true,
 G 29 (.call 92 [(.t 28)]) 25 true,
 G 30 (.un .not (.t 29)) 25 true,
 O 31 (.pick (.t 25) (.t 30) (.c (.d (.bool false))))])
 (.cond (.t 31)
 (.seq (.reg [O 2 (.mv (.c (.d (.bool false))))])
 .ret)
 .skip))))
 (.reg [O 32 (.bin .add (.t 17) (.c (.d (.int .i64 1)))),
 O 17 (.mv (.t 32))]))))
def B85 : VCode :=
 (.seq (.reg [O 2 (.mv (.c (.d (.bool false))))])
 (.seq (.seq (.reg [O 4 (.mv (.t 0)),
 O 5 (.bin .eql (.t 4) (.c (.d (.str [])))),
 O 6 (.mv (.t 5)),
 G 7 (.mv (.t 0)) 6 false,
 G 8 (.bin .eql (.t 7) (.c (.d (.str [95])))) 6 false,
 O 9 (.pick (.t 6) (.c (.d (.bool true))) (.t 8)),
 O 10 (.mv (.t 9)),
 G 11 (.mv (.t 0)) 10 false,
 G 12 (.idx (.t 11) (.c (.d (.int .i64 0)))) 10 false,
 G 13 (.call 92 [(.t 12)]) 10 false,
 O 14 (.pick (.t 10) (.c (.d (.bool true))) (.t 13))])
 (.cond (.t 14)
 (.seq (.reg [O 2 (.mv (.c (.d (.bool false))))])
 .ret)
 .skip))
 (.seq (.seq (.reg [O 15 (.mv (.t 0)),
 O 16 (.len true (.t 15)),
 O 17 (.mv (.c (.d (.int .i64 0))))])
 (.block 0 (.loop K85_0 L85_0)))
 (.seq (.reg [O 2 (.mv (.c (.d (.bool true))))])
 .ret))))
def F85 : VFn := ⟨1, 33, B85, [.tmp 2], false⟩

def A85 : Ann := ⟨keepOf [(4, [0, 16, 17])], ghostOf []⟩
-- 86 patina/lex.Word
def B86 : VCode :=
 (.seq (.reg [O 2 (.mv (.c (.d (.bool false))))])
 (.seq (.seq (.reg [O 3 (.mv (.t 0))])
 (.block 0 (.seq (.block 2 (.block 1 (.seq (.seq (.seq (.seq (.reg [O 5 (.bin .eql (.t 3) (.c (.d (.str [102, 110])))),
 O 4 (.mv (.t 5))])
 (.cond (.t 4)
 .skip
 (.seq (.reg [O 6 (.bin .eql (.t 3) (.c (.d (.str [115, 116, 114, 117, 99, 116])))),
 O 4 (.mv (.t 6))])
 (.cond (.t 4)
 .skip
 (.seq (.reg [O 7 (.bin .eql (.t 3) (.c (.d (.str [101, 110, 117, 109])))),
 O 4 (.mv (.t 7))])
 (.cond (.t 4)
 .skip
 (.seq (.reg [O 8 (.bin .eql (.t 3) (.c (.d (.str [108, 101, 116])))),
 O 4 (.mv (.t 8))])
 (.cond (.t 4)
 .skip
 (.seq (.reg [O 9 (.bin .eql (.t 3) (.c (.d (.str [109, 117, 116])))),
 O 4 (.mv (.t 9))])
 (.cond (.t 4)
 .skip
 (.seq (.reg [O 10 (.bin .eql (.t 3) (.c (.d (.str [119, 104, 105, 108, 101])))),
 O 4 (.mv (.t 10))])
 (.cond (.t 4)
 .skip
 (.seq (.reg [O 11 (.bin .eql (.t 3) (.c (.d (.str [105, 102])))),
 O 4 (.mv (.t 11))])
 (.cond (.t 4)
 .skip
 (.seq (.reg [O 12 (.bin .eql (.t 3) (.c (.d (.str [101, 108, 115, 101])))),
 O 4 (.mv (.t 12))])
 (.cond (.t 4)
 .skip
 (.reg [O 13 (.bin .eql (.t 3) (.c (.d (.str [109, 97, 116, 99, 104])))),
 O 4 (.mv (.t 13))])))))))))))))))))
 (.cond (.t 4)
 (.exit 1)
 .skip))
 (.seq (.seq (.reg [O 15 (.bin .eql (.t 3) (.c (.d (.str [114, 101, 116, 117, 114, 110])))),
 O 14 (.mv (.t 15))])
 (.cond (.t 14)
 .skip
 (.seq (.reg [O 16 (.bin .eql (.t 3) (.c (.d (.str [98, 114, 101, 97, 107])))),
 O 14 (.mv (.t 16))])
 (.cond (.t 14)
 .skip
 (.seq (.reg [O 17 (.bin .eql (.t 3) (.c (.d (.str [99, 111, 110, 116, 105, 110, 117, 101])))),
 O 14 (.mv (.t 17))])
 (.cond (.t 14)
 .skip
 (.seq (.reg [O 18 (.bin .eql (.t 3) (.c (.d (.str [116, 114, 117, 101])))),
 O 14 (.mv (.t 18))])
 (.cond (.t 14)
 .skip
 (.seq (.reg [O 19 (.bin .eql (.t 3) (.c (.d (.str [102, 97, 108, 115, 101])))),
 O 14 (.mv (.t 19))])
 (.cond (.t 14)
 .skip
 (.seq (.reg [O 20 (.bin .eql (.t 3) (.c (.d (.str [105, 54, 52])))),
 O 14 (.mv (.t 20))])
 (.cond (.t 14)
 .skip
 (.seq (.reg [O 21 (.bin .eql (.t 3) (.c (.d (.str [98, 111, 111, 108])))),
 O 14 (.mv (.t 21))])
 (.cond (.t 14)
 .skip
 (.reg [O 22 (.bin .eql (.t 3) (.c (.d (.str [66, 111, 120])))),
 O 14 (.mv (.t 22))])))))))))))))))
 (.cond (.t 14)
 (.exit 2)
 .skip)))
 (.exit 0))))
 (.seq (.seq (.reg [O 2 (.mv (.c (.d (.bool true))))])
 .ret)
 (.exit 0)))))
 (.seq (.reg [O 2 (.mv (.c (.d (.bool false))))])
 .ret)))
def F86 : VFn := ⟨1, 23, B86, [.tmp 2], false⟩

def A86 : Ann := ⟨keepOf [], ghostOf []⟩
-- 87 (*patina/items.finder).right
def B87 : VCode :=
 (.seq (.reg [O 6 (.mv (.c (.d (.bool false))))])
 (.seq (.seq (.reg [O 15 (.mv (.t 2))])
 (.cond (.t 15)
 (.seq (.seq (.reg [O 17 (.mv (.t 1)),
 O 18 (.call 36 [(.t 17), (.c (.d (.str [38, 109, 117, 116, 32])))]),
 O 16 (.mv (.t 18)),
 O 19 (.ext (.t 16) 0),
 O 20 (.ext (.t 16) 1),
 O 7 (.mv (.t 19)),
 O 8 (.mv (.t 20))])
 (.seq (.reg [O 21 (.mv (.t 8))])
 (.cond (.t 21)
 (.seq (.reg [O 22 (.mv (.t 0)),
 O 23 (.mv (.t 7)),
 O 24 (.call 87 [(.t 22), (.t 23), (.c (.d (.bool false)))]),
 O 6 (.mv (.t 24))])
 .ret)
 .skip)))
 (.seq (.reg [O 26 (.mv (.t 1)),
 O 27 (.call 36 [(.t 26), (.c (.d (.str [38])))]),
 O 25 (.mv (.t 27)),
 O 28 (.ext (.t 25) 0),
 O 29 (.ext (.t 25) 1),
 O 9 (.mv (.t 28)),
 O 10 (.mv (.t 29))])
 (.seq (.reg [O 30 (.mv (.t 10))])
 (.cond (.t 30)
 (.seq (.reg [O 31 (.mv (.t 0)),
 O 32 (.mv (.t 9)),
 O 33 (.call 87 [(.t 31), (.t 32), (.c (.d (.bool false)))]),
 O 6 (.mv (.t 33))])
 .ret)
 .skip))))
 .skip))
 (.seq (.seq (.reg [O 35 (.mv (.t 1)),
 O 36 (.call 36 [(.t 35), (.c (.d (.str [66, 111, 120, 60])))]),
 O 34 (.mv (.t 36)),
 O 37 (.ext (.t 34) 0),
 O 38 (.ext (.t 34) 1),
 O 11 (.mv (.t 37)),
 O 12 (.mv (.t 38))])
 (.seq (.reg [O 39 (.mv (.t 12))])
 (.cond (.t 39)
 (.seq (.reg [O 41 (.mv (.t 11)),
 O 42 (.call 37 [(.t 41), (.c (.d (.str [62])))]),
 O 40 (.mv (.t 42)),
 O 43 (.ext (.t 40) 0),
 O 44 (.ext (.t 40) 1),
 O 13 (.mv (.t 43)),
 O 14 (.mv (.t 44))])
 (.seq (.reg [O 45 (.mv (.t 14)),
 O 46 (.mv (.t 45)),
 G 47 (.mv (.t 0)) 46 true,
 G 48 (.mv (.t 13)) 46 true,
 G 49 (.call 87 [(.t 47), (.t 48), (.c (.d (.bool false)))]) 46 true,
 O 50 (.pick (.t 46) (.t 49) (.c (.d (.bool false)))),
 O 6 (.mv (.t 50))])
 .ret))
 .skip)))
 (.seq (.reg [O 51 (.mv (.t 1)),
 O 52 (.bin .eql (.t 51) (.c (.d (.str [105, 54, 52])))),
 O 53 (.mv (.t 52)),
 G 54 (.mv (.t 1)) 53 false,
 G 55 (.bin .eql (.t 54) (.c (.d (.str [98, 111, 111, 108])))) 53 false,
 O 56 (.pick (.t 53) (.c (.d (.bool true))) (.t 55)),
 O 57 (.mv (.t 56)),
 G 58 (.mv (.t 1)) 57 false,
 G 59 (.bin .eql (.t 58) (.c (.d (.str [40, 41])))) 57 false,
 O 60 (.pick (.t 57) (.c (.d (.bool true))) (.t 59)),
 O 61 (.mv (.t 60)),
 G 62 (.mv (.t 0)) 61 false,
 G 63 (.mv (.t 1)) 61 false,
 G 64 (.call 94 [(.t 62), (.t 63)]) 61 false,
 O 65 (.pick (.t 61) (.c (.d (.bool true))) (.t 64)),
 O 6 (.mv (.t 65))])
 .ret))))
def F87 : VFn := ⟨3, 66, B87, [.tmp 6], false⟩

def A87 : Ann := ⟨keepOf [], ghostOf []⟩
-- 88 patina/items.held
def K88_0 : List Nat := [8, 31, 32, 33]
def L88_0 : VCode :=
 (.seq (.reg [O 34 (.bin .lss (.t 33) (.t 32))])
 (.seq (.cond (.t 34)
 .skip
 (.exit 0))
 (.seq (.block 1 (.seq (.reg [O 35 (.iadr 2 (.t 31) (.t 33)),
 O 36 (.ld (some 2) (.t 35)),
 O 12 (.zbox [(.d (.str [])), (.d (.str []))]),
 P (.st 2 (.t 12) (.t 36))])
 (.reg [O 37 (.mv (.t 8)),
 O 38 (.fadr 1 (.t 12)),
 O 39 (.ld none (.t 38)),
 O 40 (.bslice 1 1 [(.t 39)]),
 O 41 (.app 1 16 (.t 37) (.t 40)),
 O 8 (.mv (.t 41))])))
 (.reg [O 42 (.bin .add (.t 33) (.c (.d (.int .i64 1)))),
 O 33 (.mv (.t 42))]))))
def K88_1 : List Nat := [8, 58, 59, 60]
def L88_1 : VCode :=
 (.seq (.reg [O 61 (.bin .lss (.t 60) (.t 59))])
 (.seq (.cond (.t 61)
 .skip
 (.exit 2))
 (.seq (.block 3 (.seq (.reg [O 62 (.iadr 2 (.t 58) (.t 60)),
 O 63 (.ld (some 2) (.t 62)),
 O 16 (.zbox [(.d (.str [])), (.d (.str []))]),
 P (.st 2 (.t 16) (.t 63))])
 (.seq (.reg [O 64 (.fadr 1 (.t 16)),
 O 65 (.ld none (.t 64)),
 O 66 (.bin .neq (.t 65) (.c (.d (.str []))))])
 (.cond (.t 66)
 (.reg [O 67 (.mv (.t 8)),
 O 68 (.fadr 1 (.t 16)),
 O 69 (.ld none (.t 68)),
 O 70 (.bslice 1 1 [(.t 69)]),
 O 71 (.app 1 16 (.t 67) (.t 70)),
 O 8 (.mv (.t 71))])
 .skip))))
 (.reg [O 72 (.bin .add (.t 60) (.c (.d (.int .i64 1)))),
 O 60 (.mv (.t 72))]))))
def B88 : VCode :=
 (.seq (.reg [O 3 (.box (.t 0)),
 O 6 (.mv (.c .nils)),
 O 7 (.mv (.c (.d (.bool false))))])
 (.seq (.reg [O 8 (.mv (.c .nils))])
 (.seq (.seq (.seq (.newrow 1 8)
 (.reg [O 18 (.mv (.t 1)),
 O 19 (.nilck (.t 18)),
 O 20 (.fadr 0 (.t 19)),
 O 21 (.mv (.t 2)),
 O 22 (.call 49 [(.t 20), (.t 21)]),
 O 17 (.mv (.t 22)),
 O 23 (.ext (.t 17) 0),
 O 24 (.ext (.t 17) 1),
 O 9 (.mv (.t 23)),
 O 10 (.mv (.t 24))]))
 (.seq (.reg [O 25 (.mv (.t 10))])
 (.cond (.t 25)
 (.seq (.seq (.reg [O 26 (.fadr 0 (.t 3)),
 O 27 (.ld none (.t 26)),
 O 28 (.mv (.t 9)),
 O 29 (.iadr 2 (.t 27) (.t 28)),
 O 30 (.fadr 1 (.t 29)),
 O 31 (.ld none (.t 30)),
 O 32 (.len false (.t 31)),
 O 33 (.mv (.c (.d (.int .i64 0))))])
 (.block 0 (.loop K88_0 L88_0)))
 (.seq (.reg [O 43 (.mv (.t 8)),
 O 6 (.mv (.t 43)),
 O 7 (.mv (.c (.d (.bool false))))])
 .ret))
 .skip)))
 (.seq (.seq (.reg [O 45 (.mv (.t 1)),
 O 46 (.nilck (.t 45)),
 O 47 (.fadr 1 (.t 46)),
 O 48 (.mv (.t 2)),
 O 49 (.call 49 [(.t 47), (.t 48)]),
 O 44 (.mv (.t 49)),
 O 50 (.ext (.t 44) 0),
 O 51 (.ext (.t 44) 1),
 O 13 (.mv (.t 50)),
 O 14 (.mv (.t 51))])
 (.seq (.reg [O 52 (.mv (.t 14))])
 (.cond (.t 52)
 (.seq (.seq (.reg [O 53 (.fadr 1 (.t 3)),
 O 54 (.ld none (.t 53)),
 O 55 (.mv (.t 13)),
 O 56 (.iadr 2 (.t 54) (.t 55)),
 O 57 (.fadr 1 (.t 56)),
 O 58 (.ld none (.t 57)),
 O 59 (.len false (.t 58)),
 O 60 (.mv (.c (.d (.int .i64 0))))])
 (.block 2 (.loop K88_1 L88_1)))
 (.seq (.reg [O 73 (.mv (.t 8)),
 O 6 (.mv (.t 73)),
 O 7 (.mv (.c (.d (.bool true))))])
 .ret))
 .skip)))
 (.seq (.reg [O 6 (.mv (.c .nils)),
 O 7 (.mv (.c (.d (.bool false))))])
 .ret)))))
def F88 : VFn := ⟨3, 74, B88, [.tmp 6, .tmp 7], false⟩

def A88 : Ann := ⟨keepOf [(5, [8, 31, 32, 33]), (13, [8, 58, 59, 60])], ghostOf [(2, [.newrow 1 8])]⟩
-- 89 strings.HasSuffix
def B89 : VCode :=
 (.seq (.reg [O 4 (.mv (.c (.d (.bool false))))])
 (.seq (.reg [O 5 (.mv (.t 0)),
 O 6 (.mv (.t 1)),
 O 7 (.call 78 [(.t 5), (.t 6)]),
 O 4 (.mv (.t 7))])
 .ret))
def F89 : VFn := ⟨2, 8, B89, [.tmp 4], false⟩

def A89 : Ann := ⟨keepOf [], ghostOf []⟩
-- 90 patina/patinaref11.letter
def B90 : VCode :=
 (.seq (.reg [O 2 (.mv (.c (.d (.bool false))))])
 (.seq (.reg [O 3 (.mv (.t 0)),
 O 4 (.bin .geq (.t 3) (.c (.d (.int .u8 65)))),
 O 5 (.mv (.t 4)),
 G 6 (.mv (.t 0)) 5 true,
 G 7 (.bin .leq (.t 6) (.c (.d (.int .u8 90)))) 5 true,
 O 8 (.pick (.t 5) (.t 7) (.c (.d (.bool false)))),
 O 9 (.mv (.t 8)),
 G 10 (.mv (.t 0)) 9 false,
 G 11 (.bin .geq (.t 10) (.c (.d (.int .u8 97)))) 9 false,
 G 12 (.mv (.t 11)) 9 false,
 G 13 (.mv (.t 0)) 12 true,
 G 14 (.bin .leq (.t 13) (.c (.d (.int .u8 122)))) 12 true,
 G 15 (.pick (.t 12) (.t 14) (.c (.d (.bool false)))) 9 false,
 O 16 (.pick (.t 9) (.c (.d (.bool true))) (.t 15)),
 O 17 (.mv (.t 16)),
 G 18 (.mv (.t 0)) 17 false,
 G 19 (.bin .eql (.t 18) (.c (.d (.int .u8 95)))) 17 false,
 O 20 (.pick (.t 17) (.c (.d (.bool true))) (.t 19)),
 O 2 (.mv (.t 20))])
 .ret))
def F90 : VFn := ⟨1, 21, B90, [.tmp 2], false⟩

def A90 : Ann := ⟨keepOf [], ghostOf []⟩
-- 91 patina/patinaref11.digit
def B91 : VCode :=
 (.seq (.reg [O 2 (.mv (.c (.d (.bool false))))])
 (.seq (.reg [O 3 (.mv (.t 0)),
 O 4 (.bin .geq (.t 3) (.c (.d (.int .u8 48)))),
 O 5 (.mv (.t 4)),
 G 6 (.mv (.t 0)) 5 true,
 G 7 (.bin .leq (.t 6) (.c (.d (.int .u8 57)))) 5 true,
 O 8 (.pick (.t 5) (.t 7) (.c (.d (.bool false)))),
 O 2 (.mv (.t 8))])
 .ret))
def F91 : VFn := ⟨1, 9, B91, [.tmp 2], false⟩

def A91 : Ann := ⟨keepOf [], ghostOf []⟩
-- 92 patina/lex.digit
def B92 : VCode :=
 (.seq (.reg [O 2 (.mv (.c (.d (.bool false))))])
 (.seq (.seq (.reg [O 3 (.mv (.t 0))])
 (.block 0 (.seq (.block 2 (.block 1 (.seq (.seq (.seq (.seq (.reg [O 5 (.bin .eql (.t 3) (.c (.d (.int .u8 48)))),
 O 4 (.mv (.t 5))])
 (.cond (.t 4)
 .skip
 (.seq (.reg [O 6 (.bin .eql (.t 3) (.c (.d (.int .u8 49)))),
 O 4 (.mv (.t 6))])
 (.cond (.t 4)
 .skip
 (.seq (.reg [O 7 (.bin .eql (.t 3) (.c (.d (.int .u8 50)))),
 O 4 (.mv (.t 7))])
 (.cond (.t 4)
 .skip
 (.seq (.reg [O 8 (.bin .eql (.t 3) (.c (.d (.int .u8 51)))),
 O 4 (.mv (.t 8))])
 (.cond (.t 4)
 .skip
 (.reg [O 9 (.bin .eql (.t 3) (.c (.d (.int .u8 52)))),
 O 4 (.mv (.t 9))])))))))))
 (.cond (.t 4)
 (.exit 1)
 .skip))
 (.seq (.seq (.reg [O 11 (.bin .eql (.t 3) (.c (.d (.int .u8 53)))),
 O 10 (.mv (.t 11))])
 (.cond (.t 10)
 .skip
 (.seq (.reg [O 12 (.bin .eql (.t 3) (.c (.d (.int .u8 54)))),
 O 10 (.mv (.t 12))])
 (.cond (.t 10)
 .skip
 (.seq (.reg [O 13 (.bin .eql (.t 3) (.c (.d (.int .u8 55)))),
 O 10 (.mv (.t 13))])
 (.cond (.t 10)
 .skip
 (.seq (.reg [O 14 (.bin .eql (.t 3) (.c (.d (.int .u8 56)))),
 O 10 (.mv (.t 14))])
 (.cond (.t 10)
 .skip
 (.reg [O 15 (.bin .eql (.t 3) (.c (.d (.int .u8 57)))),
 O 10 (.mv (.t 15))])))))))))
 (.cond (.t 10)
 (.exit 2)
 .skip)))
 (.exit 0))))
 (.seq (.seq (.reg [O 2 (.mv (.c (.d (.bool true))))])
 .ret)
 (.exit 0)))))
 (.seq (.reg [O 2 (.mv (.c (.d (.bool false))))])
 .ret)))
def F92 : VFn := ⟨1, 16, B92, [.tmp 2], false⟩

def A92 : Ann := ⟨keepOf [], ghostOf []⟩
-- 93 patina/lex.letter
def B93 : VCode :=
 (.seq (.reg [O 2 (.mv (.c (.d (.bool false))))])
 (.seq (.reg [O 3 (.mv (.t 0)),
 O 4 (.bin .geq (.t 3) (.c (.d (.int .u8 97)))),
 O 5 (.mv (.t 4)),
 G 6 (.mv (.t 0)) 5 true,
 G 7 (.bin .leq (.t 6) (.c (.d (.int .u8 122)))) 5 true,
 O 8 (.pick (.t 5) (.t 7) (.c (.d (.bool false)))),
 O 9 (.mv (.t 8)),
 G 10 (.mv (.t 0)) 9 false,
 G 11 (.bin .geq (.t 10) (.c (.d (.int .u8 65)))) 9 false,
 G 12 (.mv (.t 11)) 9 false,
 G 13 (.mv (.t 0)) 12 true,
 G 14 (.bin .leq (.t 13) (.c (.d (.int .u8 90)))) 12 true,
 G 15 (.pick (.t 12) (.t 14) (.c (.d (.bool false)))) 9 false,
 O 16 (.pick (.t 9) (.c (.d (.bool true))) (.t 15)),
 O 17 (.mv (.t 16)),
 G 18 (.mv (.t 0)) 17 false,
 G 19 (.bin .eql (.t 18) (.c (.d (.int .u8 95)))) 17 false,
 O 20 (.pick (.t 17) (.c (.d (.bool true))) (.t 19)),
 O 2 (.mv (.t 20))])
 .ret))
def F93 : VFn := ⟨1, 21, B93, [.tmp 2], false⟩

def A93 : Ann := ⟨keepOf [], ghostOf []⟩
-- 94 (*patina/items.finder).named
def B94 : VCode :=
 (.seq (.reg [O 4 (.mv (.c (.d (.bool false))))])
 (.seq (.reg [O 10 (.mv (.t 0)),
 O 11 (.nilck (.t 10)),
 O 12 (.fadr 0 (.t 11)),
 O 13 (.mv (.t 1)),
 O 14 (.call 49 [(.t 12), (.t 13)]),
 O 9 (.mv (.t 14)),
 O 15 (.ext (.t 9) 0),
 O 16 (.ext (.t 9) 1),
 O 5 (.mv (.t 15)),
 O 6 (.mv (.t 16))])
 (.seq (.reg [O 18 (.mv (.t 0)),
 O 19 (.nilck (.t 18)),
 O 20 (.fadr 1 (.t 19)),
 O 21 (.mv (.t 1)),
 O 22 (.call 49 [(.t 20), (.t 21)]),
 O 17 (.mv (.t 22)),
 O 23 (.ext (.t 17) 0),
 O 24 (.ext (.t 17) 1),
 O 7 (.mv (.t 23)),
 O 8 (.mv (.t 24))])
 (.seq (.reg [O 25 (.mv (.t 6)),
 O 26 (.mv (.t 25)),
 G 27 (.mv (.t 8)) 26 false,
 O 28 (.pick (.t 26) (.c (.d (.bool true))) (.t 27)),
 O 4 (.mv (.t 28))])
 .ret))))
def F94 : VFn := ⟨2, 29, B94, [.tmp 4], false⟩

def A94 : Ann := ⟨keepOf [], ghostOf []⟩
def tbl (F : Nat → Option VFun) : Nat → Option VFun
 | 3 => some (.code F3)
 | 4 => some (.code F4)
 | 5 => some (.code F5)
 | 6 => some (.code F6)
 | 7 => some (.code F7)
 | 8 => some (.code F8)
 | 9 => some (.code F9)
 | 10 => some (.code F10)
 | 11 => some (.code F11)
 | 12 => some (.code F12)
 | 13 => some (.code F13)
 | 14 => some (.code F14)
 | 15 => some (.code F15)
 | 16 => some (.code F16)
 | 17 => some (.code F17)
 | 18 => some (.code F18)
 | 19 => some (.code F19)
 | 20 => some (.code F20)
 | 21 => some (.code F21)
 | 22 => some (.code F22)
 | 23 => some (.code F23)
 | 24 => some (.code F24)
 | 25 => some (.code F25)
 | 26 => some (.code F26)
 | 27 => some (.code F27)
 | 28 => some (.code F28)
 | 29 => some (.code F29)
 | 30 => some (.code F30)
 | 31 => some (.code F31)
 | 32 => some (.code F32)
 | 33 => some (.code F33)
 | 34 => some (.code F34)
 | 35 => some (.code F35)
 | 36 => some (.code F36)
 | 37 => some (.code F37)
 | 38 => some (.code F38)
 | 39 => some (.code F39)
 | 40 => some (.code F40)
 | 41 => some (.code F41)
 | 42 => some (.code F42)
 | 43 => some (.code F43)
 | 44 => some (.code F44)
 | 45 => some (.code F45)
 | 47 => some (.code F47)
 | 48 => some (.code F48)
 | 49 => some (.code F49)
 | 51 => some (.code F51)
 | 52 => some (.code F52)
 | 53 => some (.code F53)
 | 54 => some (.code F54)
 | 55 => some (.code F55)
 | 56 => some (.code F56)
 | 57 => some (.code F57)
 | 58 => some (.code F58)
 | 59 => some (.code F59)
 | 60 => some (.code F60)
 | 61 => some (.code F61)
 | 62 => some (.code F62)
 | 63 => some (.code F63)
 | 64 => some (.code F64)
 | 65 => some (.code F65)
 | 66 => some (.code F66)
 | 67 => some (.code F67)
 | 68 => some (.code F68)
 | 69 => some (.code F69)
 | 70 => some (.code F70)
 | 71 => some (.code F71)
 | 73 => some (.code F73)
 | 74 => some (.code F74)
 | 75 => some (.code F75)
 | 76 => some (.code F76)
 | 77 => some (.code F77)
 | 78 => some (.code F78)
 | 79 => some (.code F79)
 | 80 => some (.code F80)
 | 81 => some (.code F81)
 | 82 => some (.code F82)
 | 83 => some (.code F83)
 | 84 => some (.code F84)
 | 85 => some (.code F85)
 | 86 => some (.code F86)
 | 87 => some (.code F87)
 | 88 => some (.code F88)
 | 89 => some (.code F89)
 | 90 => some (.code F90)
 | 91 => some (.code F91)
 | 92 => some (.code F92)
 | 93 => some (.code F93)
 | 94 => some (.code F94)
 | i => F i
abbrev n_law15_TypesPaths : Nat := 4
theorem t_law15_TypesPaths {F : Nat → Option VFun} : (tbl F) 4 = some (.code F4) := rfl
abbrev n_types_Offset : Nat := 8
theorem t_types_Offset {F : Nat → Option VFun} : (tbl F) 8 = some (.code F8) := rfl
abbrev n_types_At : Nat := 10
theorem t_types_At {F : Nat → Option VFun} : (tbl F) 10 = some (.code F10) := rfl
abbrev n_law15_small : Nat := 12
theorem t_law15_small {F : Nat → Option VFun} : (tbl F) 12 = some (.code F12) := rfl
abbrev n_types_Inner : Nat := 13
theorem t_types_Inner {F : Nat → Option VFun} : (tbl F) 13 = some (.code F13) := rfl
abbrev n_types_Fits : Nat := 17
theorem t_types_Fits {F : Nat → Option VFun} : (tbl F) 17 = some (.code F17) := rfl
abbrev n_types_Owns : Nat := 21
theorem t_types_Owns {F : Nat → Option VFun} : (tbl F) 21 = some (.code F21) := rfl
abbrev n_types_Words : Nat := 23
theorem t_types_Words {F : Nat → Option VFun} : (tbl F) 23 = some (.code F23) := rfl
abbrev n_types_Right : Nat := 25
theorem t_types_Right {F : Nat → Option VFun} : (tbl F) 25 = some (.code F25) := rfl
abbrev n_types_fit : Nat := 28
theorem t_types_fit {F : Nat → Option VFun} : (tbl F) 28 = some (.code F28) := rfl
abbrev n_items_Struct : Nat := 29
theorem t_items_Struct {F : Nat → Option VFun} : (tbl F) 29 = some (.code F29) := rfl
abbrev n_types_words : Nat := 30
theorem t_types_words {F : Nat → Option VFun} : (tbl F) 30 = some (.code F30) := rfl
abbrev n_types_step : Nat := 33
theorem t_types_step {F : Nat → Option VFun} : (tbl F) 33 = some (.code F33) := rfl
abbrev n_law15_items : Nat := 35
theorem t_law15_items {F : Nat → Option VFun} : (tbl F) 35 = some (.code F35) := rfl
abbrev n_strings_CutPrefix : Nat := 36
theorem t_strings_CutPrefix {F : Nat → Option VFun} : (tbl F) 36 = some (.code F36) := rfl
abbrev n_strings_CutSuffix : Nat := 37
theorem t_strings_CutSuffix {F : Nat → Option VFun} : (tbl F) 37 = some (.code F37) := rfl
abbrev n_strings_HasPrefix : Nat := 39
theorem t_strings_HasPrefix {F : Nat → Option VFun} : (tbl F) 39 = some (.code F39) := rfl
abbrev n_types_isRef : Nat := 40
theorem t_types_isRef {F : Nat → Option VFun} : (tbl F) 40 = some (.code F40) := rfl
abbrev n_types_owns : Nat := 42
theorem t_types_owns {F : Nat → Option VFun} : (tbl F) 42 = some (.code F42) := rfl
abbrev n_ref14_Right : Nat := 44
abbrev n_types_is : Nat := 47
theorem t_types_is {F : Nat → Option VFun} : (tbl F) 47 = some (.code F47) := rfl
abbrev n_items_index : Nat := 48
theorem t_items_index {F : Nat → Option VFun} : (tbl F) 48 = some (.code F48) := rfl
abbrev n_items_table_find : Nat := 49
theorem t_items_table_find {F : Nat → Option VFun} : (tbl F) 49 = some (.code F49) := rfl
abbrev n_types_fields : Nat := 51
theorem t_types_fields {F : Nat → Option VFun} : (tbl F) 51 = some (.code F51) := rfl
abbrev n_internal_stringslite_CutPrefix : Nat := 54
theorem t_internal_stringslite_CutPrefix {F : Nat → Option VFun} : (tbl F) 54 = some (.code F54) := rfl
abbrev n_internal_stringslite_CutSuffix : Nat := 55
theorem t_internal_stringslite_CutSuffix {F : Nat → Option VFun} : (tbl F) 55 = some (.code F55) := rfl
abbrev n_internal_stringslite_HasPrefix : Nat := 56
theorem t_internal_stringslite_HasPrefix {F : Nat → Option VFun} : (tbl F) 56 = some (.code F56) := rfl
abbrev n_slices_ContainsFunc_api_Field_api_Field : Nat := 57
theorem t_slices_ContainsFunc_api_Field_api_Field {F : Nat → Option VFun} : (tbl F) 57 = some (.code F57) := rfl
abbrev n_types_owns_1 : Nat := 58
theorem t_types_owns_1 {F : Nat → Option VFun} : (tbl F) 58 = some (.code F58) := rfl
abbrev n_lex_Name : Nat := 70
theorem t_lex_Name {F : Nat → Option VFun} : (tbl F) 70 = some (.code F70) := rfl
abbrev n_items_finder_listed : Nat := 71
theorem t_items_finder_listed {F : Nat → Option VFun} : (tbl F) 71 = some (.code F71) := rfl
abbrev n_items_sized : Nat := 73
theorem t_items_sized {F : Nat → Option VFun} : (tbl F) 73 = some (.code F73) := rfl
abbrev n_items_fns : Nat := 74
theorem t_items_fns {F : Nat → Option VFun} : (tbl F) 74 = some (.code F74) := rfl
abbrev n_types_bare : Nat := 75
theorem t_types_bare {F : Nat → Option VFun} : (tbl F) 75 = some (.code F75) := rfl
abbrev n_items_table_put : Nat := 76
theorem t_items_table_put {F : Nat → Option VFun} : (tbl F) 76 = some (.code F76) := rfl
abbrev n_items_Enum : Nat := 77
theorem t_items_Enum {F : Nat → Option VFun} : (tbl F) 77 = some (.code F77) := rfl
abbrev n_internal_stringslite_HasSuffix : Nat := 78
theorem t_internal_stringslite_HasSuffix {F : Nat → Option VFun} : (tbl F) 78 = some (.code F78) := rfl
abbrev n_slices_IndexFunc_api_Field_api_Field : Nat := 79
theorem t_slices_IndexFunc_api_Field_api_Field {F : Nat → Option VFun} : (tbl F) 79 = some (.code F79) := rfl
abbrev n_lex_spelt : Nat := 85
theorem t_lex_spelt {F : Nat → Option VFun} : (tbl F) 85 = some (.code F85) := rfl
abbrev n_lex_Word : Nat := 86
theorem t_lex_Word {F : Nat → Option VFun} : (tbl F) 86 = some (.code F86) := rfl
abbrev n_items_finder_right : Nat := 87
theorem t_items_finder_right {F : Nat → Option VFun} : (tbl F) 87 = some (.code F87) := rfl
abbrev n_items_held : Nat := 88
theorem t_items_held {F : Nat → Option VFun} : (tbl F) 88 = some (.code F88) := rfl
abbrev n_strings_HasSuffix : Nat := 89
theorem t_strings_HasSuffix {F : Nat → Option VFun} : (tbl F) 89 = some (.code F89) := rfl
abbrev n_lex_digit : Nat := 92
theorem t_lex_digit {F : Nat → Option VFun} : (tbl F) 92 = some (.code F92) := rfl
abbrev n_lex_letter : Nat := 93
theorem t_lex_letter {F : Nat → Option VFun} : (tbl F) 93 = some (.code F93) := rfl
abbrev n_items_finder_named : Nat := 94
theorem t_items_finder_named {F : Nat → Option VFun} : (tbl F) 94 = some (.code F94) := rfl
end Go.Vm.Typ
