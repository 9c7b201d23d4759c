import Derived.Test.YtbaoljbcdjdnlaaGreatDoorVmRun
import Derived.Test.YtbaoljbcdjdnlaaGreatDoorVmTr
import Derived.Test.YtbaoljbcdjdnlaaGreatDoorVmPrimCut
set_option linter.unusedSimpArgs false
set_option linter.unusedVariables false
set_option maxRecDepth 100000
namespace Go.Vm.Tre
open Go Go.Vm
def keepOf (l : List (Nat × List Nat)) (i : Nat) : List Nat := ((l.find? (·.1 == i)).map (·.2)).getD []
def ghostOf (l : List (Nat × List VCode)) (i : Nat) : List VCode := ((l.find? (·.1 == i)).map (·.2)).getD []
abbrev O (d : Nat) (p : VOp) : VOper := ⟨some d, p, none⟩
abbrev P (p : VOp) : VOper := ⟨none, p, none⟩
abbrev G (d : Nat) (p : VOp) (i : Nat) (b : Bool) : VOper := ⟨some d, p, some (i, b)⟩
-- 5 patina/patinalaw13.TreeParts
def B5 : VCode :=
 (.seq (.reg [O 2 (.box (.t 0)),
 O 4 (.mv (.c (.d (.bool false))))])
 (.seq (.reg [O 14 (.ld (some 1) (.t 2)),
 O 15 (.mv (.t 1)),
 O 16 (.call 16 [(.t 14), (.t 15)]),
 O 13 (.mv (.t 16)),
 O 17 (.ext (.t 13) 0),
 O 18 (.ext (.t 13) 1),
 O 5 (.zbox [.nils]),
 P (.st 1 (.t 5) (.t 17)),
 O 6 (.mv (.t 18))])
 (.seq (.reg [O 20 (.ld (some 1) (.t 2)),
 O 21 (.mv (.t 1)),
 O 22 (.call 17 [(.t 20), (.t 21)]),
 O 19 (.mv (.t 22)),
 O 23 (.ext (.t 19) 0),
 O 24 (.ext (.t 19) 1),
 O 7 (.zbox [.nils]),
 P (.st 1 (.t 7) (.t 23)),
 O 8 (.mv (.t 24))])
 (.seq (.reg [O 26 (.ld (some 1) (.t 2)),
 O 27 (.mv (.t 1)),
 O 28 (.call 18 [(.t 26), (.t 27)]),
 O 25 (.mv (.t 28)),
 O 29 (.ext (.t 25) 0),
 O 30 (.ext (.t 25) 1),
 O 9 (.mv (.t 29)),
 O 10 (.mv (.t 30))])
 (.seq (.reg [O 32 (.ld (some 1) (.t 2)),
 O 33 (.mv (.t 1)),
 O 34 (.call 19 [(.t 32), (.t 33)]),
 O 31 (.mv (.t 34)),
 O 35 (.ext (.t 31) 0),
 O 36 (.ext (.t 31) 1),
 O 11 (.mv (.t 35)),
 O 12 (.mv (.t 36))])
 (.seq (.reg [O 37 (.ld (some 1) (.t 5)),
 O 38 (.ld (some 1) (.t 7)),
 O 39 (.call 20 [(.t 37), (.t 38)]),
 O 40 (.mv (.t 39)),
 G 41 (.mv (.t 6)) 40 true,
 G 42 (.mv (.t 8)) 40 true,
 G 43 (.bin .eql (.t 41) (.t 42)) 40 true,
 O 44 (.pick (.t 40) (.t 43) (.c (.d (.bool false)))),
 O 45 (.mv (.t 44)),
 G 46 (.mv (.t 9)) 45 true,
 G 47 (.mv (.t 11)) 45 true,
 G 48 (.bin .eql (.t 46) (.t 47)) 45 true,
 O 49 (.pick (.t 45) (.t 48) (.c (.d (.bool false)))),
 O 50 (.mv (.t 49)),
 G 51 (.mv (.t 10)) 50 true,
 G 52 (.mv (.t 12)) 50 true,
 G 53 (.bin .eql (.t 51) (.t 52)) 50 true,
 O 54 (.pick (.t 50) (.t 53) (.c (.d (.bool false)))),
 O 55 (.mv (.t 54)),
 G 56 (.call 10 []) 55 true,
 O 57 (.pick (.t 55) (.t 56) (.c (.d (.bool false)))),
 O 4 (.mv (.t 57))])
 .ret))))))
def F5 : VFn := ⟨2, 58, B5, [.tmp 4], false⟩

def A5 : Ann := ⟨keepOf [], ghostOf []⟩
-- 6 patina/tree.Print
def B6 : VCode :=
 (.seq (.reg [O 1 (.box (.t 0)),
 O 2 (.mv (.c (.d (.str [])))),
 O 3 (.mv (.c (.d (.int .i64 0))))])
 (.seq (.seq (.reg [O 5 (.ld (some 1) (.t 1)),
 O 6 (.call 8 [(.t 5)]),
 O 7 (.bin .neq (.t 6) (.c (.d (.int .i64 0))))])
 (.cond (.t 7)
 (.seq (.reg [O 2 (.mv (.c (.d (.str [])))),
 O 3 (.mv (.c (.d (.int .i64 3))))])
 .ret)
 .skip))
 (.seq (.seq (.mkrow 1)
 (.reg [O 8 (.ld (some 1) (.t 1)),
 O 9 (.build [.nils, .nils] [(0, 1, (.t 8))]),
 O 10 (.box (.t 9)),
 O 4 (.mv (.t 10))]))
 (.seq (.seq (.bindto 4 1 1)
 (.reg [O 11 (.mv (.t 4)),
 O 12 (.fadr 0 (.t 1)),
 O 13 (.ld none (.t 12)),
 O 14 (.len false (.t 13)),
 O 15 (.bin .sub (.t 14) (.c (.d (.int .i64 1)))),
 O 16 (.call 21 [(.t 11), (.t 15)])]))
 (.seq (.reg [O 17 (.mv (.t 4)),
 O 18 (.nilck (.t 17)),
 O 19 (.fadr 1 (.t 18)),
 O 20 (.ld none (.t 19)),
 O 21 (.call 22 [(.t 20), (.c (.d (.str [32])))]),
 O 2 (.mv (.t 21)),
 O 3 (.mv (.c (.d (.int .i64 0))))])
 .ret)))))
def F6 : VFn := ⟨1, 22, B6, [.tmp 2, .tmp 3], false⟩

def A6 : Ann := ⟨keepOf [], ghostOf [(3, [.mkrow 1]), (4, [.bindto 4 1 1])]⟩
-- 8 patina/tree.Check
def K8_0 : List Nat := [1, 28, 29]
def L8_0 : VCode :=
 (.seq (.reg [O 30 (.bin .lss (.t 29) (.t 28))])
 (.seq (.cond (.t 30)
 .skip
 (.exit 0))
 (.seq (.block 1 (.seq (.reg [O 31 (.mv (.t 29)),
 O 4 (.mv (.t 31))])
 (.seq (.reg [O 32 (.ld (some 1) (.t 1)),
 O 33 (.mv (.t 4)),
 O 34 (.call 25 [(.t 32), (.t 33)]),
 O 35 (.un .not (.t 34))])
 (.cond (.t 35)
 (.seq (.reg [O 2 (.mv (.c (.d (.int .i64 3))))])
 .ret)
 .skip))))
 (.reg [O 36 (.bin .add (.t 29) (.c (.d (.int .i64 1)))),
 O 29 (.mv (.t 36))]))))
def B8 : VCode :=
 (.seq (.reg [O 1 (.box (.t 0)),
 O 2 (.mv (.c (.d (.int .i64 0))))])
 (.seq (.reg [O 7 (.fadr 0 (.t 1)),
 O 8 (.ld none (.t 7)),
 O 9 (.len false (.t 8)),
 O 3 (.mv (.t 9))])
 (.seq (.seq (.reg [O 10 (.mv (.t 3)),
 O 11 (.bin .lss (.t 10) (.c (.d (.int .i64 1)))),
 O 12 (.mv (.t 11)),
 G 13 (.mv (.t 3)) 12 false,
 G 14 (.bin .gtr (.t 13) (.c (.d (.int .i64 20000)))) 12 false,
 O 15 (.pick (.t 12) (.c (.d (.bool true))) (.t 14)),
 O 16 (.mv (.t 15)),
 G 17 (.fadr 0 (.t 1)) 16 false,
 G 18 (.ld none (.t 17)) 16 false,
 G 19 (.mv (.t 3)) 16 false,
 G 20 (.bin .sub (.t 19) (.c (.d (.int .i64 1)))) 16 false,
 G 21 (.iadr 6 (.t 18) (.t 20)) 16 false,
 G 22 (.fadr 0 (.t 21)) 16 false,
 G 23 (.ld none (.t 22)) 16 false,
 G 24 (.bin .neq (.t 23) (.c (.d (.int .i64 1)))) 16 false,
 O 25 (.pick (.t 16) (.c (.d (.bool true))) (.t 24))])
 (.cond (.t 25)
 (.seq (.reg [O 2 (.mv (.c (.d (.int .i64 3))))])
 .ret)
 .skip))
 (.seq (.seq (.reg [O 26 (.fadr 0 (.t 1)),
 O 27 (.ld none (.t 26)),
 O 28 (.len false (.t 27)),
 O 29 (.mv (.c (.d (.int .i64 0))))])
 (.block 0 (.loop K8_0 L8_0)))
 (.seq (.reg [O 38 (.ld (some 1) (.t 1)),
 O 39 (.call 26 [(.t 38)]),
 O 37 (.mv (.t 39)),
 O 40 (.ext (.t 37) 0),
 O 41 (.ext (.t 37) 1),
 O 5 (.mv (.t 40)),
 O 6 (.mv (.t 41))])
 (.seq (.seq (.reg [O 42 (.mv (.t 6)),
 O 43 (.un .not (.t 42)),
 O 44 (.mv (.t 43)),
 G 45 (.mv (.t 5)) 44 false,
 G 46 (.call 28 [(.t 45)]) 44 false,
 G 47 (.call 27 [(.t 46)]) 44 false,
 G 48 (.bin .gtr (.t 47) (.c (.d (.int .i64 400)))) 44 false,
 O 49 (.pick (.t 44) (.c (.d (.bool true))) (.t 48))])
 (.cond (.t 49)
 (.seq (.reg [O 2 (.mv (.c (.d (.int .i64 3))))])
 .ret)
 .skip))
 (.seq (.reg [O 2 (.mv (.c (.d (.int .i64 0))))])
 .ret)))))))
def F8 : VFn := ⟨1, 50, B8, [.tmp 2], false⟩

def A8 : Ann := ⟨keepOf [(5, [1, 28, 29])], ghostOf []⟩
-- 10 patina/patinalaw13.small
def B10 : VCode :=
 (.seq (.reg [O 0 (.mv (.c (.d (.bool false))))])
 (.seq (.reg [O 6 (.build [(.d (.int .i64 0)), (.d (.str [])), (.d (.int .i64 0)), .nils, (.d (.int .i64 0)), (.d (.int .i64 0))] [(0, 1, (.c (.d (.int .i64 12))))]),
 O 7 (.build [(.d (.int .i64 0)), (.d (.str [])), (.d (.int .i64 0)), .nils, (.d (.int .i64 0)), (.d (.int .i64 0))] [(0, 1, (.c (.d (.int .i64 20))))]),
 O 8 (.bslice 1 2 [(.c (.d (.int .i64 0))), (.c (.d (.int .i64 1)))]),
 O 9 (.build [(.d (.int .i64 0)), (.d (.str [])), (.d (.int .i64 0)), .nils, (.d (.int .i64 0)), (.d (.int .i64 0))] [(0, 1, (.c (.d (.int .i64 2)))), (1, 1, (.c (.d (.str [109, 97, 105, 110])))), (3, 1, (.t 8))]),
 O 10 (.bslice 1 1 [(.c (.d (.int .i64 2)))]),
 O 11 (.build [(.d (.int .i64 0)), (.d (.str [])), (.d (.int .i64 0)), .nils, (.d (.int .i64 0)), (.d (.int .i64 0))] [(0, 1, (.c (.d (.int .i64 1)))), (3, 1, (.t 10))]),
 O 12 (.bslice 6 4 [(.t 6), (.t 7), (.t 9), (.t 11)]),
 O 13 (.build [.nils] [(0, 1, (.t 12))]),
 O 1 (.zbox [.nils]),
 P (.st 1 (.t 1) (.t 13))])
 (.seq (.reg [O 15 (.ld (some 1) (.t 1)),
 O 16 (.call 6 [(.t 15)]),
 O 14 (.mv (.t 16)),
 O 17 (.ext (.t 14) 0),
 O 18 (.ext (.t 14) 1),
 O 2 (.mv (.t 17)),
 O 3 (.mv (.t 18))])
 (.seq (.reg [O 20 (.ld (some 1) (.t 1)),
 O 21 (.call 13 [(.t 20)]),
 O 19 (.mv (.t 21)),
 O 22 (.ext (.t 19) 0),
 O 23 (.ext (.t 19) 1),
 O 4 (.mv (.t 22)),
 O 5 (.mv (.t 23))])
 (.seq (.reg [O 24 (.mv (.t 3)),
 O 25 (.bin .eql (.t 24) (.c (.d (.int .i64 0)))),
 O 26 (.mv (.t 25)),
 G 27 (.mv (.t 2)) 26 true,
 G 28 (.bin .eql (.t 27) (.c (.d (.str [102, 110, 32, 109, 97, 105, 110, 32, 40, 32, 41, 32, 123, 32, 125])))) 26 true,
 O 29 (.pick (.t 26) (.t 28) (.c (.d (.bool false)))),
 O 30 (.mv (.t 29)),
 G 31 (.mv (.t 5)) 30 true,
 G 32 (.bin .eql (.t 31) (.c (.d (.int .i64 0)))) 30 true,
 O 33 (.pick (.t 30) (.t 32) (.c (.d (.bool false)))),
 O 34 (.mv (.t 33)),
 G 35 (.mv (.t 4)) 34 true,
 G 36 (.bin .eql (.t 35) (.c (.d (.int .i64 2)))) 34 true,
 O 37 (.pick (.t 34) (.t 36) (.c (.d (.bool false)))),
 O 38 (.mv (.t 37)),
 G 39 (.build [.nils] []) 38 true,
 G 40 (.call 8 [(.t 39)]) 38 true,
 G 41 (.bin .eql (.t 40) (.c (.d (.int .i64 3)))) 38 true,
 O 42 (.pick (.t 38) (.t 41) (.c (.d (.bool false)))),
 O 0 (.mv (.t 42))])
 .ret)))))
def F10 : VFn := ⟨0, 43, B10, [.tmp 0], false⟩

def A10 : Ann := ⟨keepOf [], ghostOf []⟩
-- 13 patina/tree.Depth
def B13 : VCode :=
 (.seq (.reg [O 1 (.box (.t 0)),
 O 2 (.mv (.c (.d (.int .i64 0)))),
 O 3 (.mv (.c (.d (.int .i64 0))))])
 (.seq (.seq (.reg [O 6 (.ld (some 1) (.t 1)),
 O 7 (.call 8 [(.t 6)]),
 O 8 (.bin .neq (.t 7) (.c (.d (.int .i64 0))))])
 (.cond (.t 8)
 (.seq (.reg [O 2 (.mv (.c (.d (.int .i64 0)))),
 O 3 (.mv (.c (.d (.int .i64 3))))])
 .ret)
 .skip))
 (.seq (.reg [O 10 (.ld (some 1) (.t 1)),
 O 11 (.call 26 [(.t 10)]),
 O 9 (.mv (.t 11)),
 O 12 (.ext (.t 9) 0),
 O 13 (.ext (.t 9) 1),
 O 4 (.mv (.t 12)),
 O 5 (.mv (.t 13))])
 (.seq (.reg [O 14 (.mv (.t 4)),
 O 15 (.call 28 [(.t 14)]),
 O 16 (.call 27 [(.t 15)]),
 O 2 (.mv (.t 16)),
 O 3 (.mv (.c (.d (.int .i64 0))))])
 .ret))))
def F13 : VFn := ⟨1, 17, B13, [.tmp 2, .tmp 3], false⟩

def A13 : Ann := ⟨keepOf [], ghostOf []⟩
-- 15 patina/patinaplain.Ints
def K15_0 : List Nat := [0, 1, 12, 13]
def L15_0 : VCode :=
 (.seq (.reg [O 14 (.bin .lss (.t 13) (.t 12))])
 (.seq (.cond (.t 14)
 .skip
 (.exit 0))
 (.seq (.block 1 (.seq (.reg [O 15 (.mv (.t 13)),
 O 5 (.mv (.t 15))])
 (.seq (.draw 8 [O 16 (.mv (.t 0)),
 O 17 (.mv (.t 5)),
 O 18 (.iadr 1 (.t 16) (.t 17)),
 O 19 (.ld none (.t 18)),
 O 20 (.mv (.t 1)),
 O 21 (.mv (.t 5)),
 O 22 (.iadr 1 (.t 20) (.t 21)),
 O 23 (.ld none (.t 22)),
 O 24 (.bin .neq (.t 19) (.t 23))])
 (.cond (.t 24)
 (.seq (.reg [O 4 (.mv (.c (.d (.bool false))))])
 .ret)
 .skip))))
 (.reg [O 25 (.bin .add (.t 13) (.c (.d (.int .i64 1)))),
 O 13 (.mv (.t 25))]))))
def B15 : VCode :=
 (.seq (.reg [O 4 (.mv (.c (.d (.bool false))))])
 (.seq (.seq (.reg [O 6 (.mv (.t 0)),
 O 7 (.len false (.t 6)),
 O 8 (.mv (.t 1)),
 O 9 (.len false (.t 8)),
 O 10 (.bin .neq (.t 7) (.t 9))])
 (.cond (.t 10)
 (.seq (.reg [O 4 (.mv (.c (.d (.bool false))))])
 .ret)
 .skip))
 (.seq (.seq (.reg [O 11 (.mv (.t 0)),
 O 12 (.len false (.t 11)),
 O 13 (.mv (.c (.d (.int .i64 0))))])
 (.block 0 (.loop K15_0 L15_0)))
 (.seq (.reg [O 4 (.mv (.c (.d (.bool true))))])
 .ret))))
def F15 : VFn := ⟨2, 26, B15, [.tmp 4], false⟩

def A15 : Ann := ⟨keepOf [(4, [0, 1, 12, 13])], ghostOf []⟩
-- 16 patina/tree.Sub
def K16_0 : List Nat := [1, 2, 4, 6, 8, 9, 10]
def L16_0 : VCode :=
 (.seq (.seq (.reg [O 42 (.mv (.t 10)),
 O 43 (.bin .geq (.t 42) (.c (.d (.int .i64 0))))])
 (.cond (.t 43)
 .skip
 (.exit 0)))
 (.seq (.block 1 (.reg [O 46 (.mv (.t 8)),
 O 47 (.mv (.t 10)),
 O 48 (.mv (.t 10)),
 O 49 (.mv (.t 1)),
 O 50 (.bin .eql (.t 48) (.t 49)),
 O 51 (.mv (.t 50)),
 G 52 (.mv (.t 6)) 51 false,
 G 53 (.mv (.t 10)) 51 false,
 G 54 (.iadr 1 (.t 52) (.t 53)) 51 false,
 G 55 (.ld none (.t 54)) 51 false,
 G 56 (.mv (.t 1)) 51 false,
 G 57 (.bin .leq (.t 55) (.t 56)) 51 false,
 G 58 (.mv (.t 57)) 51 false,
 G 59 (.mv (.t 6)) 58 true,
 G 60 (.mv (.t 10)) 58 true,
 G 61 (.iadr 1 (.t 59) (.t 60)) 58 true,
 G 62 (.ld none (.t 61)) 58 true,
 G 63 (.bin .geq (.t 62) (.c (.d (.int .i64 0)))) 58 true,
 G 64 (.pick (.t 58) (.t 63) (.c (.d (.bool false)))) 51 false,
 G 65 (.mv (.t 64)) 51 false,
 G 66 (.mv (.t 8)) 65 true,
 G 67 (.mv (.t 6)) 65 true,
 G 68 (.mv (.t 10)) 65 true,
 G 69 (.iadr 1 (.t 67) (.t 68)) 65 true,
 G 70 (.ld none (.t 69)) 65 true,
 G 71 (.iadr 1 (.t 66) (.t 70)) 65 true,
 G 72 (.ld none (.t 71)) 65 true,
 G 73 (.pick (.t 65) (.t 72) (.c (.d (.bool false)))) 51 false,
 O 74 (.pick (.t 51) (.c (.d (.bool true))) (.t 73)),
 O 75 (.iadr 1 (.t 46) (.t 47)),
 P (.st 1 (.t 75) (.t 74))]))
 (.reg [O 44 (.mv (.t 10)),
 O 45 (.bin .sub (.t 44) (.c (.d (.int .i64 1)))),
 O 10 (.mv (.t 45))])))
def K16_1 : List Nat := [2, 4, 8, 9, 11, 13, 77, 78, 103, 104, 105]
def L16_1 : VCode :=
 (.seq (.reg [O 106 (.bin .lss (.t 105) (.t 104))])
 (.seq (.cond (.t 106)
 .skip
 (.exit 4))
 (.seq (.block 5 (.seq (.reg [O 107 (.iadr 1 (.t 103) (.t 105)),
 O 108 (.ld none (.t 107)),
 O 15 (.mv (.t 108))])
 (.draw 7 [O 109 (.fadr 3 (.t 13)),
 O 110 (.ld none (.t 109)),
 O 111 (.mv (.t 9)),
 O 112 (.mv (.t 15)),
 O 113 (.iadr 1 (.t 111) (.t 112)),
 O 114 (.ld none (.t 113)),
 O 115 (.bslice 1 1 [(.t 114)]),
 O 116 (.app 1 8 (.t 110) (.t 115)),
 O 117 (.fadr 3 (.t 13)),
 P (.st 1 (.t 117) (.t 116))])))
 (.reg [O 118 (.bin .add (.t 105) (.c (.d (.int .i64 1)))),
 O 105 (.mv (.t 118))]))))
def K16_2 : List Nat := [2, 4, 8, 9, 11, 77, 78]
def L16_2 : VCode :=
 (.seq (.reg [O 79 (.bin .lss (.t 78) (.t 77))])
 (.seq (.cond (.t 79)
 .skip
 (.exit 2))
 (.seq (.block 3 (.seq (.reg [O 80 (.mv (.t 78)),
 O 12 (.mv (.t 80))])
 (.seq (.seq (.reg [O 81 (.mv (.t 8)),
 O 82 (.mv (.t 12)),
 O 83 (.iadr 1 (.t 81) (.t 82)),
 O 84 (.ld none (.t 83)),
 O 85 (.un .not (.t 84))])
 (.cond (.t 85)
 (.exit 3)
 .skip))
 (.seq (.reg [O 86 (.mv (.t 9)),
 O 87 (.mv (.t 12)),
 O 88 (.fadr 0 (.t 11)),
 O 89 (.ld none (.t 88)),
 O 90 (.len false (.t 89)),
 O 91 (.iadr 1 (.t 86) (.t 87)),
 P (.st 1 (.t 91) (.t 90))])
 (.seq (.seq (.mkrow 1)
 (.reg [O 92 (.fadr 0 (.t 2)),
 O 93 (.ld none (.t 92)),
 O 94 (.mv (.t 12)),
 O 95 (.iadr 6 (.t 93) (.t 94)),
 O 96 (.ld (some 6) (.t 95)),
 O 13 (.zbox [(.d (.int .i64 0)), (.d (.str [])), (.d (.int .i64 0)), .nils, (.d (.int .i64 0)), (.d (.int .i64 0))]),
 P (.st 6 (.t 13) (.t 96))]))
 (.seq (.reg [O 97 (.fadr 3 (.t 13)),
 P (.st 1 (.t 97) (.c .nils))])
 (.seq (.seq (.seq (.bindto 13 3 1)
 (.reg [O 98 (.fadr 0 (.t 2)),
 O 99 (.ld none (.t 98)),
 O 100 (.mv (.t 12)),
 O 101 (.iadr 6 (.t 99) (.t 100)),
 O 102 (.fadr 3 (.t 101)),
 O 103 (.ld none (.t 102)),
 O 104 (.len false (.t 103)),
 O 105 (.mv (.c (.d (.int .i64 0))))]))
 (.block 4 (.loop K16_1 L16_1)))
 (.reg [O 119 (.fadr 0 (.t 11)),
 O 120 (.ld none (.t 119)),
 O 121 (.ld (some 6) (.t 13)),
 O 122 (.bslice 6 1 [(.t 121)]),
 O 123 (.app 6 72 (.t 120) (.t 122)),
 O 124 (.fadr 0 (.t 11)),
 P (.st 1 (.t 124) (.t 123))]))))))))
 (.reg [O 125 (.bin .add (.t 78) (.c (.d (.int .i64 1)))),
 O 78 (.mv (.t 125))]))))
def B16 : VCode :=
 (.seq (.reg [O 2 (.box (.t 0)),
 O 4 (.zbox [.nils]),
 O 5 (.mv (.c (.d (.int .i64 0))))])
 (.seq (.seq (.reg [O 16 (.ld (some 1) (.t 2)),
 O 17 (.call 8 [(.t 16)]),
 O 18 (.bin .neq (.t 17) (.c (.d (.int .i64 0))))])
 (.cond (.t 18)
 (.seq (.reg [O 19 (.build [.nils] []),
 P (.st 1 (.t 4) (.t 19)),
 O 5 (.mv (.c (.d (.int .i64 3))))])
 .ret)
 .skip))
 (.seq (.seq (.reg [O 20 (.mv (.t 1)),
 O 21 (.bin .lss (.t 20) (.c (.d (.int .i64 0)))),
 O 22 (.mv (.t 21)),
 G 23 (.mv (.t 1)) 22 false,
 G 24 (.fadr 0 (.t 2)) 22 false,
 G 25 (.ld none (.t 24)) 22 false,
 G 26 (.len false (.t 25)) 22 false,
 G 27 (.bin .geq (.t 23) (.t 26)) 22 false,
 O 28 (.pick (.t 22) (.c (.d (.bool true))) (.t 27))])
 (.cond (.t 28)
 (.seq (.reg [O 29 (.build [.nils] []),
 P (.st 1 (.t 4) (.t 29)),
 O 5 (.mv (.c (.d (.int .i64 9))))])
 .ret)
 .skip))
 (.seq (.reg [O 31 (.ld (some 1) (.t 2)),
 O 32 (.call 26 [(.t 31)]),
 O 30 (.mv (.t 32)),
 O 33 (.ext (.t 30) 0),
 O 34 (.ext (.t 30) 1),
 O 6 (.mv (.t 33)),
 O 7 (.mv (.t 34))])
 (.seq (.reg [O 35 (.mv (.t 1)),
 O 36 (.bin .add (.t 35) (.c (.d (.int .i64 1)))),
 O 37 (.msl 1 1 [(.d (.bool false))] (.t 36)),
 O 8 (.mv (.t 37))])
 (.seq (.reg [O 38 (.mv (.t 1)),
 O 39 (.bin .add (.t 38) (.c (.d (.int .i64 1)))),
 O 40 (.msl 1 8 [(.d (.int .i64 0))] (.t 39)),
 O 9 (.mv (.t 40))])
 (.seq (.seq (.reg [O 41 (.mv (.t 1)),
 O 10 (.mv (.t 41))])
 (.block 0 (.loop K16_0 L16_0)))
 (.seq (.seq (.mkrow 6)
 (.reg [O 11 (.zbox [.nils])]))
 (.seq (.seq (.seq (.bindto 11 0 1)
 (.reg [O 76 (.mv (.t 8)),
 O 77 (.len false (.t 76)),
 O 78 (.mv (.c (.d (.int .i64 0))))]))
 (.block 2 (.loop K16_2 L16_2)))
 (.seq (.reg [O 126 (.ld (some 1) (.t 11)),
 P (.st 1 (.t 4) (.t 126)),
 O 5 (.mv (.c (.d (.int .i64 0))))])
 .ret))))))))))
def F16 : VFn := ⟨2, 127, B16, [.cell 4 (some 1), .tmp 5], false⟩

def A16 : Ann := ⟨keepOf [(9, [1, 2, 4, 6, 8, 9, 10]), (14, [2, 4, 8, 9, 11, 77, 78]), (21, [2, 4, 8, 9, 11, 13, 77, 78, 103, 104, 105])], ghostOf [(12, [.mkrow 6]), (13, [.bindto 11 0 1]), (18, [.mkrow 1]), (20, [.bindto 13 3 1])]⟩
-- 17 patina/patinaref13.Sub
def K17_0 : List Nat := [2, 4, 6, 7, 52, 53, 54]
def L17_0 : VCode :=
 (.seq (.reg [O 55 (.bin .lss (.t 54) (.t 53))])
 (.seq (.cond (.t 55)
 .skip
 (.exit 2))
 (.seq (.block 3 (.seq (.reg [O 56 (.iadr 1 (.t 52) (.t 54)),
 O 57 (.ld none (.t 56)),
 O 9 (.mv (.t 57))])
 (.reg [O 58 (.mv (.t 6)),
 O 59 (.mv (.t 9)),
 O 60 (.iadr 1 (.t 58) (.t 59)),
 P (.st 1 (.t 60) (.c (.d (.bool true))))])))
 (.reg [O 61 (.bin .add (.t 54) (.c (.d (.int .i64 1)))),
 O 54 (.mv (.t 61))]))))
def K17_1 : List Nat := [2, 4, 6, 7]
def L17_1 : VCode :=
 (.seq (.seq (.reg [O 39 (.mv (.t 7)),
 O 40 (.bin .geq (.t 39) (.c (.d (.int .i64 0))))])
 (.cond (.t 40)
 .skip
 (.exit 0)))
 (.seq (.block 1 (.seq (.reg [O 43 (.mv (.t 6)),
 O 44 (.mv (.t 7)),
 O 45 (.iadr 1 (.t 43) (.t 44)),
 O 46 (.ld none (.t 45))])
 (.cond (.t 46)
 (.seq (.reg [O 47 (.fadr 0 (.t 2)),
 O 48 (.ld none (.t 47)),
 O 49 (.mv (.t 7)),
 O 50 (.iadr 6 (.t 48) (.t 49)),
 O 51 (.fadr 3 (.t 50)),
 O 52 (.ld none (.t 51)),
 O 53 (.len false (.t 52)),
 O 54 (.mv (.c (.d (.int .i64 0))))])
 (.block 2 (.loop K17_0 L17_0)))
 .skip)))
 (.reg [O 41 (.mv (.t 7)),
 O 42 (.bin .sub (.t 41) (.c (.d (.int .i64 1)))),
 O 7 (.mv (.t 42))])))
def K17_2 : List Nat := [4, 6, 10, 11, 13, 14, 67, 68, 69, 86, 87, 88]
def L17_2 : VCode :=
 (.seq (.reg [O 89 (.bin .lss (.t 88) (.t 87))])
 (.seq (.cond (.t 89)
 .skip
 (.exit 6))
 (.seq (.block 7 (.seq (.reg [O 90 (.iadr 1 (.t 86) (.t 88)),
 O 91 (.ld none (.t 90)),
 O 16 (.mv (.t 91))])
 (.reg [O 92 (.mv (.t 14)),
 O 93 (.mv (.t 10)),
 O 94 (.mv (.t 16)),
 O 95 (.iadr 1 (.t 93) (.t 94)),
 O 96 (.ld none (.t 95)),
 O 97 (.bslice 1 1 [(.t 96)]),
 O 98 (.app 1 8 (.t 92) (.t 97)),
 O 14 (.mv (.t 98))])))
 (.reg [O 99 (.bin .add (.t 88) (.c (.d (.int .i64 1)))),
 O 88 (.mv (.t 99))]))))
def K17_3 : List Nat := [4, 6, 10, 11, 67, 68, 69]
def L17_3 : VCode :=
 (.seq (.reg [O 70 (.bin .lss (.t 69) (.t 68))])
 (.seq (.cond (.t 70)
 .skip
 (.exit 4))
 (.seq (.block 5 (.seq (.reg [O 71 (.mv (.t 69)),
 O 72 (.iadr 6 (.t 67) (.t 69)),
 O 73 (.ld (some 6) (.t 72)),
 O 13 (.zbox [(.d (.int .i64 0)), (.d (.str [])), (.d (.int .i64 0)), .nils, (.d (.int .i64 0)), (.d (.int .i64 0))]),
 O 12 (.mv (.t 71)),
 P (.st 6 (.t 13) (.t 73))])
 (.seq (.seq (.reg [O 74 (.mv (.t 6)),
 O 75 (.mv (.t 12)),
 O 76 (.iadr 1 (.t 74) (.t 75)),
 O 77 (.ld none (.t 76)),
 O 78 (.un .not (.t 77))])
 (.cond (.t 78)
 (.exit 5)
 .skip))
 (.seq (.reg [O 79 (.mv (.t 10)),
 O 80 (.mv (.t 12)),
 O 81 (.fadr 0 (.t 11)),
 O 82 (.ld none (.t 81)),
 O 83 (.len false (.t 82)),
 O 84 (.iadr 1 (.t 79) (.t 80)),
 P (.st 1 (.t 84) (.t 83))])
 (.seq (.reg [O 14 (.mv (.c .nils))])
 (.seq (.seq (.seq (.newrow 1 14)
 (.reg [O 85 (.fadr 3 (.t 13)),
 O 86 (.ld none (.t 85)),
 O 87 (.len false (.t 86)),
 O 88 (.mv (.c (.d (.int .i64 0))))]))
 (.block 6 (.loop K17_2 L17_2)))
 (.seq (.reg [O 100 (.mv (.t 14)),
 O 101 (.fadr 3 (.t 13)),
 P (.st 1 (.t 101) (.t 100))])
 (.reg [O 102 (.fadr 0 (.t 11)),
 O 103 (.ld none (.t 102)),
 O 104 (.ld (some 6) (.t 13)),
 O 105 (.bslice 6 1 [(.t 104)]),
 O 106 (.app 6 72 (.t 103) (.t 105)),
 O 107 (.fadr 0 (.t 11)),
 P (.st 1 (.t 107) (.t 106))]))))))))
 (.reg [O 108 (.bin .add (.t 69) (.c (.d (.int .i64 1)))),
 O 69 (.mv (.t 108))]))))
def B17 : VCode :=
 (.seq (.reg [O 2 (.box (.t 0)),
 O 4 (.zbox [.nils]),
 O 5 (.mv (.c (.d (.int .i64 0))))])
 (.seq (.seq (.reg [O 17 (.ld (some 1) (.t 2)),
 O 18 (.call 23 [(.t 17)]),
 O 19 (.un .not (.t 18))])
 (.cond (.t 19)
 (.seq (.reg [O 20 (.build [.nils] []),
 P (.st 1 (.t 4) (.t 20)),
 O 5 (.mv (.c (.d (.int .i64 3))))])
 .ret)
 .skip))
 (.seq (.seq (.reg [O 21 (.mv (.t 1)),
 O 22 (.bin .lss (.t 21) (.c (.d (.int .i64 0)))),
 O 23 (.mv (.t 22)),
 G 24 (.mv (.t 1)) 23 false,
 G 25 (.fadr 0 (.t 2)) 23 false,
 G 26 (.ld none (.t 25)) 23 false,
 G 27 (.len false (.t 26)) 23 false,
 G 28 (.bin .geq (.t 24) (.t 27)) 23 false,
 O 29 (.pick (.t 23) (.c (.d (.bool true))) (.t 28))])
 (.cond (.t 29)
 (.seq (.reg [O 30 (.build [.nils] []),
 P (.st 1 (.t 4) (.t 30)),
 O 5 (.mv (.c (.d (.int .i64 9))))])
 .ret)
 .skip))
 (.seq (.reg [O 31 (.fadr 0 (.t 2)),
 O 32 (.ld none (.t 31)),
 O 33 (.len false (.t 32)),
 O 34 (.msl 1 1 [(.d (.bool false))] (.t 33)),
 O 6 (.mv (.t 34))])
 (.seq (.reg [O 35 (.mv (.t 6)),
 O 36 (.mv (.t 1)),
 O 37 (.iadr 1 (.t 35) (.t 36)),
 P (.st 1 (.t 37) (.c (.d (.bool true))))])
 (.seq (.seq (.reg [O 38 (.mv (.t 1)),
 O 7 (.mv (.t 38))])
 (.block 0 (.loop K17_1 L17_1)))
 (.seq (.reg [O 62 (.fadr 0 (.t 2)),
 O 63 (.ld none (.t 62)),
 O 64 (.len false (.t 63)),
 O 65 (.msl 1 8 [(.d (.int .i64 0))] (.t 64)),
 O 10 (.mv (.t 65))])
 (.seq (.seq (.mkrow 6)
 (.reg [O 11 (.zbox [.nils])]))
 (.seq (.seq (.seq (.bindto 11 0 1)
 (.reg [O 66 (.fadr 0 (.t 2)),
 O 67 (.ld none (.t 66)),
 O 68 (.len false (.t 67)),
 O 69 (.mv (.c (.d (.int .i64 0))))]))
 (.block 4 (.loop K17_3 L17_3)))
 (.seq (.reg [O 109 (.ld (some 1) (.t 11)),
 P (.st 1 (.t 4) (.t 109)),
 O 5 (.mv (.c (.d (.int .i64 0))))])
 .ret))))))))))
def F17 : VFn := ⟨2, 110, B17, [.cell 4 (some 1), .tmp 5], false⟩

def A17 : Ann := ⟨keepOf [(8, [2, 4, 6, 7]), (12, [2, 4, 6, 7, 52, 53, 54]), (19, [4, 6, 10, 11, 67, 68, 69]), (25, [4, 6, 10, 11, 13, 14, 67, 68, 69, 86, 87, 88])], ghostOf [(17, [.mkrow 6]), (18, [.bindto 11 0 1]), (24, [.newrow 1 14])]⟩
-- 18 patina/tree.Type
def B18 : VCode :=
 (.seq (.reg [O 2 (.box (.t 0)),
 O 4 (.mv (.c (.d (.str [])))),
 O 5 (.mv (.c (.d (.int .i64 0))))])
 (.seq (.seq (.reg [O 6 (.ld (some 1) (.t 2)),
 O 7 (.call 8 [(.t 6)]),
 O 8 (.bin .neq (.t 7) (.c (.d (.int .i64 0))))])
 (.cond (.t 8)
 (.seq (.reg [O 4 (.mv (.c (.d (.str [])))),
 O 5 (.mv (.c (.d (.int .i64 3))))])
 .ret)
 .skip))
 (.seq (.seq (.reg [O 9 (.mv (.t 1)),
 O 10 (.bin .lss (.t 9) (.c (.d (.int .i64 0)))),
 O 11 (.mv (.t 10)),
 G 12 (.mv (.t 1)) 11 false,
 G 13 (.fadr 0 (.t 2)) 11 false,
 G 14 (.ld none (.t 13)) 11 false,
 G 15 (.len false (.t 14)) 11 false,
 G 16 (.bin .geq (.t 12) (.t 15)) 11 false,
 O 17 (.pick (.t 11) (.c (.d (.bool true))) (.t 16))])
 (.cond (.t 17)
 (.seq (.reg [O 4 (.mv (.c (.d (.str [])))),
 O 5 (.mv (.c (.d (.int .i64 9))))])
 .ret)
 .skip))
 (.seq (.seq (.reg [O 18 (.fadr 0 (.t 2)),
 O 19 (.ld none (.t 18)),
 O 20 (.mv (.t 1)),
 O 21 (.iadr 6 (.t 19) (.t 20)),
 O 22 (.fadr 0 (.t 21)),
 O 23 (.ld none (.t 22)),
 O 24 (.call 31 [(.t 23)]),
 O 25 (.un .not (.t 24))])
 (.cond (.t 25)
 (.seq (.reg [O 4 (.mv (.c (.d (.str [])))),
 O 5 (.mv (.c (.d (.int .i64 1))))])
 .ret)
 .skip))
 (.seq (.reg [O 26 (.ld (some 1) (.t 2)),
 O 27 (.mv (.t 1)),
 O 28 (.call 32 [(.t 26), (.t 27)]),
 O 4 (.mv (.t 28)),
 O 5 (.mv (.c (.d (.int .i64 0))))])
 .ret)))))
def F18 : VFn := ⟨2, 29, B18, [.tmp 4, .tmp 5], false⟩

def A18 : Ann := ⟨keepOf [], ghostOf []⟩
-- 19 patina/patinaref13.Type
def B19 : VCode :=
 (.seq (.reg [O 2 (.box (.t 0)),
 O 4 (.mv (.c (.d (.str [])))),
 O 5 (.mv (.c (.d (.int .i64 0))))])
 (.seq (.seq (.reg [O 6 (.ld (some 1) (.t 2)),
 O 7 (.call 23 [(.t 6)]),
 O 8 (.un .not (.t 7))])
 (.cond (.t 8)
 (.seq (.reg [O 4 (.mv (.c (.d (.str [])))),
 O 5 (.mv (.c (.d (.int .i64 3))))])
 .ret)
 .skip))
 (.seq (.seq (.reg [O 9 (.mv (.t 1)),
 O 10 (.bin .lss (.t 9) (.c (.d (.int .i64 0)))),
 O 11 (.mv (.t 10)),
 G 12 (.mv (.t 1)) 11 false,
 G 13 (.fadr 0 (.t 2)) 11 false,
 G 14 (.ld none (.t 13)) 11 false,
 G 15 (.len false (.t 14)) 11 false,
 G 16 (.bin .geq (.t 12) (.t 15)) 11 false,
 O 17 (.pick (.t 11) (.c (.d (.bool true))) (.t 16))])
 (.cond (.t 17)
 (.seq (.reg [O 4 (.mv (.c (.d (.str [])))),
 O 5 (.mv (.c (.d (.int .i64 9))))])
 .ret)
 .skip))
 (.seq (.seq (.reg [O 18 (.fadr 0 (.t 2)),
 O 19 (.ld none (.t 18)),
 O 20 (.mv (.t 1)),
 O 21 (.iadr 6 (.t 19) (.t 20)),
 O 22 (.fadr 0 (.t 21)),
 O 23 (.ld none (.t 22)),
 O 24 (.call 33 [(.t 23)]),
 O 25 (.un .not (.t 24))])
 (.cond (.t 25)
 (.seq (.reg [O 4 (.mv (.c (.d (.str [])))),
 O 5 (.mv (.c (.d (.int .i64 1))))])
 .ret)
 .skip))
 (.seq (.reg [O 26 (.ld (some 1) (.t 2)),
 O 27 (.mv (.t 1)),
 O 28 (.call 34 [(.t 26), (.t 27)]),
 O 4 (.mv (.t 28)),
 O 5 (.mv (.c (.d (.int .i64 0))))])
 .ret)))))
def F19 : VFn := ⟨2, 29, B19, [.tmp 4, .tmp 5], false⟩

def A19 : Ann := ⟨keepOf [], ghostOf []⟩
-- 20 patina/patinaplain.Tree
def K20_0 : List Nat := [3, 16, 17, 18]
def L20_0 : VCode :=
 (.seq (.reg [O 19 (.bin .lss (.t 18) (.t 17))])
 (.seq (.cond (.t 19)
 .skip
 (.exit 0))
 (.seq (.block 1 (.seq (.reg [O 20 (.mv (.t 18)),
 O 21 (.iadr 6 (.t 16) (.t 18)),
 O 22 (.ld (some 6) (.t 21)),
 O 6 (.zbox [(.d (.int .i64 0)), (.d (.str [])), (.d (.int .i64 0)), .nils, (.d (.int .i64 0)), (.d (.int .i64 0))]),
 O 5 (.mv (.t 20)),
 P (.st 6 (.t 6) (.t 22))])
 (.seq (.reg [O 23 (.fadr 0 (.t 3)),
 O 24 (.ld none (.t 23)),
 O 25 (.mv (.t 5)),
 O 26 (.iadr 6 (.t 24) (.t 25)),
 O 27 (.ld (some 6) (.t 26)),
 O 7 (.zbox [(.d (.int .i64 0)), (.d (.str [])), (.d (.int .i64 0)), .nils, (.d (.int .i64 0)), (.d (.int .i64 0))]),
 P (.st 6 (.t 7) (.t 27))])
 (.seq (.reg [O 28 (.fadr 0 (.t 6)),
 O 29 (.ld none (.t 28)),
 O 30 (.fadr 0 (.t 7)),
 O 31 (.ld none (.t 30)),
 O 32 (.bin .neq (.t 29) (.t 31)),
 O 33 (.mv (.t 32)),
 G 34 (.fadr 1 (.t 6)) 33 false,
 G 35 (.ld none (.t 34)) 33 false,
 G 36 (.fadr 1 (.t 7)) 33 false,
 G 37 (.ld none (.t 36)) 33 false,
 G 38 (.bin .neq (.t 35) (.t 37)) 33 false,
 O 39 (.pick (.t 33) (.c (.d (.bool true))) (.t 38)),
 O 40 (.mv (.t 39)),
 G 41 (.fadr 2 (.t 6)) 40 false,
 G 42 (.ld none (.t 41)) 40 false,
 G 43 (.fadr 2 (.t 7)) 40 false,
 G 44 (.ld none (.t 43)) 40 false,
 G 45 (.bin .neq (.t 42) (.t 44)) 40 false,
 O 46 (.pick (.t 40) (.c (.d (.bool true))) (.t 45)),
 O 47 (.mv (.t 46)),
 G 48 (.fadr 4 (.t 6)) 47 false,
 G 49 (.ld none (.t 48)) 47 false,
 G 50 (.fadr 4 (.t 7)) 47 false,
 G 51 (.ld none (.t 50)) 47 false,
 G 52 (.bin .neq (.t 49) (.t 51)) 47 false,
 O 53 (.pick (.t 47) (.c (.d (.bool true))) (.t 52)),
 O 54 (.mv (.t 53)),
 G 55 (.fadr 5 (.t 6)) 54 false,
 G 56 (.ld none (.t 55)) 54 false,
 G 57 (.fadr 5 (.t 7)) 54 false,
 G 58 (.ld none (.t 57)) 54 false,
 G 59 (.bin .neq (.t 56) (.t 58)) 54 false,
 O 60 (.pick (.t 54) (.c (.d (.bool true))) (.t 59)),
 O 61 (.mv (.t 60)),
 G 62 (.fadr 3 (.t 6)) 61 false,
 G 63 (.ld none (.t 62)) 61 false,
 G 64 (.fadr 3 (.t 7)) 61 false,
 G 65 (.ld none (.t 64)) 61 false,
 G 66 (.call 15 [(.t 63), (.t 65)]) 61 false,
 G 67 (.un .not (.t 66)) 61 false,
 O 68 (.pick (.t 61) (.c (.d (.bool true))) (.t 67))])
 (.cond (.t 68)
 (.seq (.reg [O 4 (.mv (.c (.d (.bool false))))])
 .ret)
 .skip)))))
 (.reg [O 69 (.bin .add (.t 18) (.c (.d (.int .i64 1)))),
 O 18 (.mv (.t 69))]))))
def B20 : VCode :=
 (.seq (.reg [O 2 (.box (.t 0)),
 O 3 (.box (.t 1)),
 O 4 (.mv (.c (.d (.bool false))))])
 (.seq (.seq (.reg [O 8 (.fadr 0 (.t 2)),
 O 9 (.ld none (.t 8)),
 O 10 (.len false (.t 9)),
 O 11 (.fadr 0 (.t 3)),
 O 12 (.ld none (.t 11)),
 O 13 (.len false (.t 12)),
 O 14 (.bin .neq (.t 10) (.t 13))])
 (.cond (.t 14)
 (.seq (.reg [O 4 (.mv (.c (.d (.bool false))))])
 .ret)
 .skip))
 (.seq (.seq (.reg [O 15 (.fadr 0 (.t 2)),
 O 16 (.ld none (.t 15)),
 O 17 (.len false (.t 16)),
 O 18 (.mv (.c (.d (.int .i64 0))))])
 (.block 0 (.loop K20_0 L20_0)))
 (.seq (.reg [O 4 (.mv (.c (.d (.bool true))))])
 .ret))))
def F20 : VFn := ⟨2, 70, B20, [.tmp 4], false⟩

def A20 : Ann := ⟨keepOf [(4, [3, 16, 17, 18])], ghostOf []⟩
-- 21 (*patina/tree.printer).node
def B21 : VCode :=
 (.seq (.reg [O 5 (.mv (.t 0)),
 O 6 (.nilck (.t 5)),
 O 7 (.fadr 0 (.t 6)),
 O 8 (.fadr 0 (.t 7)),
 O 9 (.ld none (.t 8)),
 O 10 (.mv (.t 1)),
 O 11 (.iadr 6 (.t 9) (.t 10)),
 O 12 (.ld (some 6) (.t 11)),
 O 4 (.zbox [(.d (.int .i64 0)), (.d (.str [])), (.d (.int .i64 0)), .nils, (.d (.int .i64 0)), (.d (.int .i64 0))]),
 P (.st 6 (.t 4) (.t 12))])
 (.block 0 (.seq (.reg [O 17 (.fadr 0 (.t 4)),
 O 18 (.ld none (.t 17)),
 O 19 (.bin .eql (.t 18) (.c (.d (.int .i64 20)))),
 O 16 (.mv (.t 19))])
 (.cond (.t 16)
 (.reg [O 20 (.mv (.t 0)),
 O 21 (.ld (some 6) (.t 4)),
 O 22 (.call 35 [(.t 20), (.t 21)])])
 (.seq (.reg [O 24 (.fadr 0 (.t 4)),
 O 25 (.ld none (.t 24)),
 O 26 (.bin .leq (.t 25) (.c (.d (.int .i64 7)))),
 O 23 (.mv (.t 26))])
 (.cond (.t 23)
 (.reg [O 27 (.mv (.t 0)),
 O 28 (.ld (some 6) (.t 4)),
 O 29 (.call 36 [(.t 27), (.t 28)])])
 (.seq (.reg [O 31 (.fadr 0 (.t 4)),
 O 32 (.ld none (.t 31)),
 O 33 (.call 31 [(.t 32)]),
 O 30 (.mv (.t 33))])
 (.cond (.t 30)
 (.reg [O 34 (.mv (.t 0)),
 O 35 (.ld (some 6) (.t 4)),
 O 36 (.call 37 [(.t 34), (.t 35)])])
 (.seq (.reg [O 38 (.fadr 0 (.t 4)),
 O 39 (.ld none (.t 38)),
 O 40 (.call 38 [(.t 39)]),
 O 37 (.mv (.t 40))])
 (.cond (.t 37)
 (.reg [O 41 (.mv (.t 0)),
 O 42 (.ld (some 6) (.t 4)),
 O 43 (.call 39 [(.t 41), (.t 42)])])
 (.seq (.reg [O 45 (.fadr 0 (.t 4)),
 O 46 (.ld none (.t 45)),
 O 47 (.bin .geq (.t 46) (.c (.d (.int .i64 38)))),
 O 48 (.mv (.t 47)),
 G 49 (.fadr 0 (.t 4)) 48 true,
 G 50 (.ld none (.t 49)) 48 true,
 G 51 (.bin .leq (.t 50) (.c (.d (.int .i64 43)))) 48 true,
 O 52 (.pick (.t 48) (.t 51) (.c (.d (.bool false)))),
 O 53 (.mv (.t 52)),
 G 54 (.fadr 0 (.t 4)) 53 false,
 G 55 (.ld none (.t 54)) 53 false,
 G 56 (.bin .eql (.t 55) (.c (.d (.int .i64 45)))) 53 false,
 O 57 (.pick (.t 53) (.c (.d (.bool true))) (.t 56)),
 O 58 (.mv (.t 57)),
 G 59 (.fadr 0 (.t 4)) 58 false,
 G 60 (.ld none (.t 59)) 58 false,
 G 61 (.bin .eql (.t 60) (.c (.d (.int .i64 46)))) 58 false,
 O 62 (.pick (.t 58) (.c (.d (.bool true))) (.t 61)),
 O 44 (.mv (.t 62))])
 (.cond (.t 44)
 (.reg [O 63 (.mv (.t 0)),
 O 64 (.ld (some 6) (.t 4)),
 O 65 (.call 40 [(.t 63), (.t 64)])])
 (.reg [O 13 (.mv (.t 0)),
 O 14 (.ld (some 6) (.t 4)),
 O 15 (.call 41 [(.t 13), (.t 14)])])))))))))))))
def F21 : VFn := ⟨2, 66, B21, [], false⟩

def A21 : Ann := ⟨keepOf [], ghostOf []⟩
-- 23 patina/patinaref13.Right
def K23_0 : List Nat := [1, 28, 29]
def L23_0 : VCode :=
 (.seq (.reg [O 30 (.bin .lss (.t 29) (.t 28))])
 (.seq (.cond (.t 30)
 .skip
 (.exit 0))
 (.seq (.block 1 (.seq (.reg [O 31 (.mv (.t 29)),
 O 4 (.mv (.t 31))])
 (.seq (.reg [O 32 (.ld (some 1) (.t 1)),
 O 33 (.mv (.t 4)),
 O 34 (.call 45 [(.t 32), (.t 33)]),
 O 35 (.un .not (.t 34))])
 (.cond (.t 35)
 (.seq (.reg [O 2 (.mv (.c (.d (.bool false))))])
 .ret)
 .skip))))
 (.reg [O 36 (.bin .add (.t 29) (.c (.d (.int .i64 1)))),
 O 29 (.mv (.t 36))]))))
def B23 : VCode :=
 (.seq (.reg [O 1 (.box (.t 0)),
 O 2 (.mv (.c (.d (.bool false))))])
 (.seq (.reg [O 7 (.fadr 0 (.t 1)),
 O 8 (.ld none (.t 7)),
 O 9 (.len false (.t 8)),
 O 3 (.mv (.t 9))])
 (.seq (.seq (.reg [O 10 (.mv (.t 3)),
 O 11 (.bin .lss (.t 10) (.c (.d (.int .i64 1)))),
 O 12 (.mv (.t 11)),
 G 13 (.mv (.t 3)) 12 false,
 G 14 (.bin .gtr (.t 13) (.c (.d (.int .i64 20000)))) 12 false,
 O 15 (.pick (.t 12) (.c (.d (.bool true))) (.t 14)),
 O 16 (.mv (.t 15)),
 G 17 (.fadr 0 (.t 1)) 16 false,
 G 18 (.ld none (.t 17)) 16 false,
 G 19 (.mv (.t 3)) 16 false,
 G 20 (.bin .sub (.t 19) (.c (.d (.int .i64 1)))) 16 false,
 G 21 (.iadr 6 (.t 18) (.t 20)) 16 false,
 G 22 (.fadr 0 (.t 21)) 16 false,
 G 23 (.ld none (.t 22)) 16 false,
 G 24 (.bin .neq (.t 23) (.c (.d (.int .i64 1)))) 16 false,
 O 25 (.pick (.t 16) (.c (.d (.bool true))) (.t 24))])
 (.cond (.t 25)
 (.seq (.reg [O 2 (.mv (.c (.d (.bool false))))])
 .ret)
 .skip))
 (.seq (.seq (.reg [O 26 (.fadr 0 (.t 1)),
 O 27 (.ld none (.t 26)),
 O 28 (.len false (.t 27)),
 O 29 (.mv (.c (.d (.int .i64 0))))])
 (.block 0 (.loop K23_0 L23_0)))
 (.seq (.reg [O 38 (.ld (some 1) (.t 1)),
 O 39 (.call 29 [(.t 38)]),
 O 37 (.mv (.t 39)),
 O 40 (.ext (.t 37) 0),
 O 41 (.ext (.t 37) 1),
 O 5 (.mv (.t 40)),
 O 6 (.mv (.t 41))])
 (.seq (.reg [O 42 (.mv (.t 6)),
 O 43 (.mv (.t 42)),
 G 44 (.ld (some 1) (.t 1)) 43 true,
 G 45 (.mv (.t 5)) 43 true,
 G 46 (.call 30 [(.t 44), (.t 45)]) 43 true,
 G 47 (.bin .leq (.t 46) (.c (.d (.int .i64 400)))) 43 true,
 O 48 (.pick (.t 43) (.t 47) (.c (.d (.bool false)))),
 O 2 (.mv (.t 48))])
 .ret))))))
def F23 : VFn := ⟨1, 49, B23, [.tmp 2], false⟩

def A23 : Ann := ⟨keepOf [(5, [1, 28, 29])], ghostOf []⟩
-- 25 patina/tree.node
def K25_0 : List Nat := [1, 2, 5, 6, 7, 16, 17, 18]
def L25_0 : VCode :=
 (.seq (.reg [O 19 (.bin .lss (.t 18) (.t 17))])
 (.seq (.cond (.t 19)
 .skip
 (.exit 0))
 (.seq (.block 1 (.seq (.reg [O 20 (.iadr 1 (.t 16) (.t 18)),
 O 21 (.ld none (.t 20)),
 O 9 (.mv (.t 21))])
 (.seq (.seq (.reg [O 22 (.mv (.t 9)),
 O 23 (.bin .lss (.t 22) (.c (.d (.int .i64 0)))),
 O 24 (.mv (.t 23)),
 G 25 (.mv (.t 9)) 24 false,
 G 26 (.mv (.t 1)) 24 false,
 G 27 (.bin .geq (.t 25) (.t 26)) 24 false,
 O 28 (.pick (.t 24) (.c (.d (.bool true))) (.t 27))])
 (.cond (.t 28)
 (.seq (.reg [O 4 (.mv (.c (.d (.bool false))))])
 .ret)
 .skip))
 (.seq (.reg [O 29 (.mv (.t 6)),
 O 30 (.fadr 0 (.t 2)),
 O 31 (.ld none (.t 30)),
 O 32 (.mv (.t 9)),
 O 33 (.iadr 6 (.t 31) (.t 32)),
 O 34 (.fadr 0 (.t 33)),
 O 35 (.ld none (.t 34)),
 O 36 (.bslice 1 1 [(.t 35)]),
 O 37 (.app 1 8 (.t 29) (.t 36)),
 O 6 (.mv (.t 37))])
 (.seq (.reg [O 38 (.fadr 0 (.t 2)),
 O 39 (.ld none (.t 38)),
 O 40 (.mv (.t 9)),
 O 41 (.iadr 6 (.t 39) (.t 40)),
 O 42 (.fadr 0 (.t 41)),
 O 43 (.ld none (.t 42)),
 O 44 (.bin .eql (.t 43) (.c (.d (.int .i64 7))))])
 (.cond (.t 44)
 (.reg [O 45 (.mv (.t 7)),
 O 46 (.bin .add (.t 45) (.c (.d (.int .i64 1)))),
 O 7 (.mv (.t 46))])
 .skip))))))
 (.reg [O 47 (.bin .add (.t 18) (.c (.d (.int .i64 1)))),
 O 18 (.mv (.t 47))]))))
def B25 : VCode :=
 (.seq (.reg [O 2 (.box (.t 0)),
 O 4 (.mv (.c (.d (.bool false))))])
 (.seq (.reg [O 10 (.fadr 0 (.t 2)),
 O 11 (.ld none (.t 10)),
 O 12 (.mv (.t 1)),
 O 13 (.iadr 6 (.t 11) (.t 12)),
 O 14 (.ld (some 6) (.t 13)),
 O 5 (.zbox [(.d (.int .i64 0)), (.d (.str [])), (.d (.int .i64 0)), .nils, (.d (.int .i64 0)), (.d (.int .i64 0))]),
 P (.st 6 (.t 5) (.t 14))])
 (.seq (.reg [O 6 (.mv (.c .nils))])
 (.seq (.reg [O 7 (.mv (.c (.d (.int .i64 0))))])
 (.seq (.seq (.seq (.newrow 1 6)
 (.reg [O 15 (.fadr 3 (.t 5)),
 O 16 (.ld none (.t 15)),
 O 17 (.len false (.t 16)),
 O 18 (.mv (.c (.d (.int .i64 0))))]))
 (.block 0 (.loop K25_0 L25_0)))
 (.seq (.reg [O 48 (.fadr 0 (.t 5)),
 O 49 (.ld none (.t 48)),
 O 50 (.call 57 [(.t 49)]),
 O 51 (.mv (.t 50)),
 G 52 (.ld (some 6) (.t 5)) 51 true,
 G 53 (.call 58 [(.t 52)]) 51 true,
 O 54 (.pick (.t 51) (.t 53) (.c (.d (.bool false)))),
 O 55 (.mv (.t 54)),
 G 56 (.ld (some 6) (.t 5)) 55 true,
 G 57 (.mv (.t 7)) 55 true,
 G 58 (.call 59 [(.t 56), (.t 57)]) 55 true,
 O 59 (.pick (.t 55) (.t 58) (.c (.d (.bool false)))),
 O 60 (.mv (.t 59)),
 G 61 (.fadr 4 (.t 5)) 60 true,
 G 62 (.ld none (.t 61)) 60 true,
 G 63 (.bin .geq (.t 62) (.c (.d (.int .i64 0)))) 60 true,
 O 64 (.pick (.t 60) (.t 63) (.c (.d (.bool false)))),
 O 65 (.mv (.t 64)),
 G 66 (.fadr 4 (.t 5)) 65 true,
 G 67 (.ld none (.t 66)) 65 true,
 G 68 (.fadr 5 (.t 5)) 65 true,
 G 69 (.ld none (.t 68)) 65 true,
 G 70 (.bin .leq (.t 67) (.t 69)) 65 true,
 O 71 (.pick (.t 65) (.t 70) (.c (.d (.bool false)))),
 O 72 (.mv (.t 71)),
 G 73 (.ld (some 6) (.t 5)) 72 true,
 G 74 (.mv (.t 6)) 72 true,
 G 75 (.call 60 [(.t 73), (.t 74)]) 72 true,
 O 76 (.pick (.t 72) (.t 75) (.c (.d (.bool false)))),
 O 4 (.mv (.t 76))])
 .ret))))))
def F25 : VFn := ⟨2, 77, B25, [.tmp 4], false⟩

def A25 : Ann := ⟨keepOf [(5, [1, 2, 5, 6, 7, 16, 17, 18])], ghostOf [(4, [.newrow 1 6])]⟩
-- 26 patina/tree.parents
def K26_0 : List Nat := [1, 4, 15, 16]
def L26_0 : VCode :=
 (.seq (.reg [O 17 (.bin .lss (.t 16) (.t 15))])
 (.seq (.cond (.t 17)
 .skip
 (.exit 0))
 (.seq (.block 1 (.seq (.reg [O 18 (.mv (.t 16)),
 O 5 (.mv (.t 18))])
 (.reg [O 19 (.mv (.t 4)),
 O 20 (.mv (.t 5)),
 O 21 (.iadr 1 (.t 19) (.t 20)),
 P (.st 1 (.t 21) (.c (.d (.int .i64 (-1)))))])))
 (.reg [O 22 (.bin .add (.t 16) (.c (.d (.int .i64 1)))),
 O 16 (.mv (.t 22))]))))
def K26_1 : List Nat := [4, 6, 24, 25, 26, 32, 33, 34]
def L26_1 : VCode :=
 (.seq (.reg [O 35 (.bin .lss (.t 34) (.t 33))])
 (.seq (.cond (.t 35)
 .skip
 (.exit 4))
 (.seq (.block 5 (.seq (.reg [O 36 (.iadr 1 (.t 32) (.t 34)),
 O 37 (.ld none (.t 36)),
 O 9 (.mv (.t 37))])
 (.seq (.seq (.reg [O 38 (.mv (.t 4)),
 O 39 (.mv (.t 9)),
 O 40 (.iadr 1 (.t 38) (.t 39)),
 O 41 (.ld none (.t 40)),
 O 42 (.bin .geq (.t 41) (.c (.d (.int .i64 0))))])
 (.cond (.t 42)
 (.seq (.reg [O 2 (.mv (.c .nils)),
 O 3 (.mv (.c (.d (.bool false))))])
 .ret)
 .skip))
 (.reg [O 43 (.mv (.t 4)),
 O 44 (.mv (.t 9)),
 O 45 (.mv (.t 6)),
 O 46 (.iadr 1 (.t 43) (.t 44)),
 P (.st 1 (.t 46) (.t 45))]))))
 (.reg [O 47 (.bin .add (.t 34) (.c (.d (.int .i64 1)))),
 O 34 (.mv (.t 47))]))))
def K26_2 : List Nat := [4, 24, 25, 26]
def L26_2 : VCode :=
 (.seq (.reg [O 27 (.bin .lss (.t 26) (.t 25))])
 (.seq (.cond (.t 27)
 .skip
 (.exit 2))
 (.seq (.block 3 (.seq (.reg [O 28 (.mv (.t 26)),
 O 29 (.iadr 6 (.t 24) (.t 26)),
 O 30 (.ld (some 6) (.t 29)),
 O 7 (.zbox [(.d (.int .i64 0)), (.d (.str [])), (.d (.int .i64 0)), .nils, (.d (.int .i64 0)), (.d (.int .i64 0))]),
 O 6 (.mv (.t 28)),
 P (.st 6 (.t 7) (.t 30))])
 (.seq (.reg [O 31 (.fadr 3 (.t 7)),
 O 32 (.ld none (.t 31)),
 O 33 (.len false (.t 32)),
 O 34 (.mv (.c (.d (.int .i64 0))))])
 (.block 4 (.loop K26_1 L26_1)))))
 (.reg [O 48 (.bin .add (.t 26) (.c (.d (.int .i64 1)))),
 O 26 (.mv (.t 48))]))))
def B26 : VCode :=
 (.seq (.reg [O 1 (.box (.t 0)),
 O 2 (.mv (.c .nils)),
 O 3 (.mv (.c (.d (.bool false))))])
 (.seq (.reg [O 10 (.fadr 0 (.t 1)),
 O 11 (.ld none (.t 10)),
 O 12 (.len false (.t 11)),
 O 13 (.msl 1 8 [(.d (.int .i64 0))] (.t 12)),
 O 4 (.mv (.t 13))])
 (.seq (.seq (.reg [O 14 (.mv (.t 4)),
 O 15 (.len false (.t 14)),
 O 16 (.mv (.c (.d (.int .i64 0))))])
 (.block 0 (.loop K26_0 L26_0)))
 (.seq (.seq (.reg [O 23 (.fadr 0 (.t 1)),
 O 24 (.ld none (.t 23)),
 O 25 (.len false (.t 24)),
 O 26 (.mv (.c (.d (.int .i64 0))))])
 (.block 2 (.loop K26_2 L26_2)))
 (.seq (.seq (.freeze 4)
 (.reg [O 49 (.mv (.t 4)),
 O 50 (.mv (.t 4)),
 O 51 (.len false (.t 50)),
 O 52 (.bin .eql (.t 51) (.c (.d (.int .i64 0)))),
 O 53 (.mv (.t 52)),
 G 54 (.mv (.t 4)) 53 false,
 G 55 (.mv (.t 4)) 53 false,
 G 56 (.len false (.t 55)) 53 false,
 G 57 (.bin .sub (.t 56) (.c (.d (.int .i64 1)))) 53 false,
 G 58 (.slc 1 (.t 54) none (some (.t 57))) 53 false,
 G 59 (.call 61 [(.t 58), (.c (.d (.int .i64 (-1))))]) 53 false,
 G 60 (.un .not (.t 59)) 53 false,
 O 61 (.pick (.t 53) (.c (.d (.bool true))) (.t 60)),
 O 2 (.mv (.t 49)),
 O 3 (.mv (.t 61))]))
 .ret)))))
def F26 : VFn := ⟨1, 62, B26, [.tmp 2, .tmp 3], false⟩

def A26 : Ann := ⟨keepOf [(3, [1, 4, 15, 16]), (8, [4, 24, 25, 26]), (11, [4, 6, 24, 25, 26, 32, 33, 34])], ghostOf [(18, [.freeze 4])]⟩
-- 27 slices.Max[[]int,int]
def K27_0 : List Nat := [0, 3, 4]
def L27_0 : VCode :=
 (.seq (.seq (.reg [O 12 (.mv (.t 4)),
 O 13 (.mv (.t 0)),
 O 14 (.len false (.t 13)),
 O 15 (.bin .lss (.t 12) (.t 14))])
 (.cond (.t 15)
 .skip
 (.exit 0)))
 (.seq (.block 1 (.reg [O 18 (.mv (.t 3)),
 O 19 (.mv (.t 0)),
 O 20 (.mv (.t 4)),
 O 21 (.iadr 1 (.t 19) (.t 20)),
 O 22 (.ld none (.t 21)),
 O 23 (.mm true (.t 18) (.t 22)),
 O 3 (.mv (.t 23))]))
 (.reg [O 16 (.mv (.t 4)),
 O 17 (.bin .add (.t 16) (.c (.d (.int .i64 1)))),
 O 4 (.mv (.t 17))])))
def B27 : VCode :=
 (.seq (.reg [O 2 (.mv (.c (.d (.int .i64 0))))])
 (.seq (.seq (.reg [O 5 (.mv (.t 0)),
 O 6 (.len false (.t 5)),
 O 7 (.bin .lss (.t 6) (.c (.d (.int .i64 1))))])
 (.cond (.t 7)
 (.reg [O 8 (.no),
 P (.no)])
 .skip))
 (.seq (.reg [O 9 (.mv (.t 0)),
 O 10 (.iadr 1 (.t 9) (.c (.d (.int .i64 0)))),
 O 11 (.ld none (.t 10)),
 O 3 (.mv (.t 11))])
 (.seq (.seq (.reg [O 4 (.mv (.c (.d (.int .i64 1))))])
 (.block 0 (.loop K27_0 L27_0)))
 (.seq (.reg [O 24 (.mv (.t 3)),
 O 2 (.mv (.t 24))])
 .ret)))))
def F27 : VFn := ⟨1, 25, B27, [.tmp 2], false⟩

def A27 : Ann := ⟨keepOf [(5, [0, 3, 4])], ghostOf []⟩
-- 28 patina/tree.depths
def K28_0 : List Nat := [0, 3, 4]
def L28_0 : VCode :=
 (.seq (.seq (.reg [O 11 (.mv (.t 4)),
 O 12 (.bin .geq (.t 11) (.c (.d (.int .i64 0))))])
 (.cond (.t 12)
 .skip
 (.exit 0)))
 (.seq (.block 1 (.seq (.reg [O 15 (.mv (.t 0)),
 O 16 (.mv (.t 4)),
 O 17 (.iadr 1 (.t 15) (.t 16)),
 O 18 (.ld none (.t 17)),
 O 19 (.bin .geq (.t 18) (.c (.d (.int .i64 0))))])
 (.cond (.t 19)
 (.reg [O 20 (.mv (.t 3)),
 O 21 (.mv (.t 4)),
 O 22 (.mv (.t 3)),
 O 23 (.mv (.t 0)),
 O 24 (.mv (.t 4)),
 O 25 (.iadr 1 (.t 23) (.t 24)),
 O 26 (.ld none (.t 25)),
 O 27 (.iadr 1 (.t 22) (.t 26)),
 O 28 (.ld none (.t 27)),
 O 29 (.bin .add (.t 28) (.c (.d (.int .i64 1)))),
 O 30 (.iadr 1 (.t 20) (.t 21)),
 P (.st 1 (.t 30) (.t 29))])
 .skip)))
 (.reg [O 13 (.mv (.t 4)),
 O 14 (.bin .sub (.t 13) (.c (.d (.int .i64 1)))),
 O 4 (.mv (.t 14))])))
def B28 : VCode :=
 (.seq (.reg [O 2 (.mv (.c .nils))])
 (.seq (.reg [O 5 (.mv (.t 0)),
 O 6 (.len false (.t 5)),
 O 7 (.msl 1 8 [(.d (.int .i64 0))] (.t 6)),
 O 3 (.mv (.t 7))])
 (.seq (.seq (.reg [O 8 (.mv (.t 0)),
 O 9 (.len false (.t 8)),
 O 10 (.bin .sub (.t 9) (.c (.d (.int .i64 1)))),
 O 4 (.mv (.t 10))])
 (.block 0 (.loop K28_0 L28_0)))
 (.seq (.seq (.freeze 3)
 (.reg [O 31 (.mv (.t 3)),
 O 2 (.mv (.t 31))]))
 .ret))))
def F28 : VFn := ⟨1, 32, B28, [.tmp 2], false⟩

def A28 : Ann := ⟨keepOf [(3, [0, 3, 4])], ghostOf [(7, [.freeze 3])]⟩
-- 29 patina/patinaref13.parents
def K29_0 : List Nat := [1, 4, 16, 17]
def L29_0 : VCode :=
 (.seq (.reg [O 18 (.bin .lss (.t 17) (.t 16))])
 (.seq (.cond (.t 18)
 .skip
 (.exit 0))
 (.seq (.block 1 (.seq (.reg [O 19 (.mv (.t 17)),
 O 5 (.mv (.t 19))])
 (.reg [O 20 (.mv (.t 4)),
 O 21 (.mv (.t 5)),
 O 22 (.iadr 1 (.t 20) (.t 21)),
 P (.st 1 (.t 22) (.c (.d (.int .i64 (-1)))))])))
 (.reg [O 23 (.bin .add (.t 17) (.c (.d (.int .i64 1)))),
 O 17 (.mv (.t 23))]))))
def K29_1 : List Nat := [4, 6, 25, 26, 27, 33, 34, 35]
def L29_1 : VCode :=
 (.seq (.reg [O 36 (.bin .lss (.t 35) (.t 34))])
 (.seq (.cond (.t 36)
 .skip
 (.exit 4))
 (.seq (.block 5 (.seq (.reg [O 37 (.iadr 1 (.t 33) (.t 35)),
 O 38 (.ld none (.t 37)),
 O 9 (.mv (.t 38))])
 (.seq (.seq (.reg [O 39 (.mv (.t 4)),
 O 40 (.mv (.t 9)),
 O 41 (.iadr 1 (.t 39) (.t 40)),
 O 42 (.ld none (.t 41)),
 O 43 (.bin .geq (.t 42) (.c (.d (.int .i64 0))))])
 (.cond (.t 43)
 (.seq (.reg [O 2 (.mv (.c .nils)),
 O 3 (.mv (.c (.d (.bool false))))])
 .ret)
 .skip))
 (.reg [O 44 (.mv (.t 4)),
 O 45 (.mv (.t 9)),
 O 46 (.mv (.t 6)),
 O 47 (.iadr 1 (.t 44) (.t 45)),
 P (.st 1 (.t 47) (.t 46))]))))
 (.reg [O 48 (.bin .add (.t 35) (.c (.d (.int .i64 1)))),
 O 35 (.mv (.t 48))]))))
def K29_2 : List Nat := [4, 25, 26, 27]
def L29_2 : VCode :=
 (.seq (.reg [O 28 (.bin .lss (.t 27) (.t 26))])
 (.seq (.cond (.t 28)
 .skip
 (.exit 2))
 (.seq (.block 3 (.seq (.reg [O 29 (.mv (.t 27)),
 O 30 (.iadr 6 (.t 25) (.t 27)),
 O 31 (.ld (some 6) (.t 30)),
 O 7 (.zbox [(.d (.int .i64 0)), (.d (.str [])), (.d (.int .i64 0)), .nils, (.d (.int .i64 0)), (.d (.int .i64 0))]),
 O 6 (.mv (.t 29)),
 P (.st 6 (.t 7) (.t 31))])
 (.seq (.reg [O 32 (.fadr 3 (.t 7)),
 O 33 (.ld none (.t 32)),
 O 34 (.len false (.t 33)),
 O 35 (.mv (.c (.d (.int .i64 0))))])
 (.block 4 (.loop K29_1 L29_1)))))
 (.reg [O 49 (.bin .add (.t 27) (.c (.d (.int .i64 1)))),
 O 27 (.mv (.t 49))]))))
def K29_3 : List Nat := [4, 10]
def L29_3 : VCode :=
 (.seq (.seq (.reg [O 50 (.mv (.t 10)),
 O 51 (.bin .add (.t 50) (.c (.d (.int .i64 1)))),
 O 52 (.mv (.t 4)),
 O 53 (.len false (.t 52)),
 O 54 (.bin .lss (.t 51) (.t 53))])
 (.cond (.t 54)
 .skip
 (.exit 6)))
 (.seq (.block 7 (.seq (.reg [O 57 (.mv (.t 4)),
 O 58 (.mv (.t 10)),
 O 59 (.iadr 1 (.t 57) (.t 58)),
 O 60 (.ld none (.t 59)),
 O 61 (.bin .lss (.t 60) (.c (.d (.int .i64 0))))])
 (.cond (.t 61)
 (.seq (.reg [O 2 (.mv (.c .nils)),
 O 3 (.mv (.c (.d (.bool false))))])
 .ret)
 .skip)))
 (.reg [O 55 (.mv (.t 10)),
 O 56 (.bin .add (.t 55) (.c (.d (.int .i64 1)))),
 O 10 (.mv (.t 56))])))
def B29 : VCode :=
 (.seq (.reg [O 1 (.box (.t 0)),
 O 2 (.mv (.c .nils)),
 O 3 (.mv (.c (.d (.bool false))))])
 (.seq (.reg [O 11 (.fadr 0 (.t 1)),
 O 12 (.ld none (.t 11)),
 O 13 (.len false (.t 12)),
 O 14 (.msl 1 8 [(.d (.int .i64 0))] (.t 13)),
 O 4 (.mv (.t 14))])
 (.seq (.seq (.reg [O 15 (.mv (.t 4)),
 O 16 (.len false (.t 15)),
 O 17 (.mv (.c (.d (.int .i64 0))))])
 (.block 0 (.loop K29_0 L29_0)))
 (.seq (.seq (.reg [O 24 (.fadr 0 (.t 1)),
 O 25 (.ld none (.t 24)),
 O 26 (.len false (.t 25)),
 O 27 (.mv (.c (.d (.int .i64 0))))])
 (.block 2 (.loop K29_2 L29_2)))
 (.seq (.seq (.reg [O 10 (.mv (.c (.d (.int .i64 0))))])
 (.block 6 (.loop K29_3 L29_3)))
 (.seq (.seq (.freeze 4)
 (.reg [O 62 (.mv (.t 4)),
 O 2 (.mv (.t 62)),
 O 3 (.mv (.c (.d (.bool true))))]))
 .ret))))))
def F29 : VFn := ⟨1, 63, B29, [.tmp 2, .tmp 3], false⟩

def A29 : Ann := ⟨keepOf [(3, [1, 4, 16, 17]), (8, [4, 25, 26, 27]), (11, [4, 6, 25, 26, 27, 33, 34, 35]), (19, [4, 10])], ghostOf [(23, [.freeze 4])]⟩
-- 30 patina/patinaref13.deep
def K30_0 : List Nat := [1, 5, 6, 7]
def L30_0 : VCode :=
 (.seq (.seq (.reg [O 14 (.mv (.t 7)),
 O 15 (.bin .geq (.t 14) (.c (.d (.int .i64 0))))])
 (.cond (.t 15)
 .skip
 (.exit 0)))
 (.seq (.block 1 (.seq (.reg [O 18 (.mv (.t 6)),
 O 19 (.mv (.t 7)),
 O 20 (.mv (.t 6)),
 O 21 (.mv (.t 1)),
 O 22 (.mv (.t 7)),
 O 23 (.iadr 1 (.t 21) (.t 22)),
 O 24 (.ld none (.t 23)),
 O 25 (.iadr 1 (.t 20) (.t 24)),
 O 26 (.ld none (.t 25)),
 O 27 (.bin .add (.t 26) (.c (.d (.int .i64 1)))),
 O 28 (.iadr 1 (.t 18) (.t 19)),
 P (.st 1 (.t 28) (.t 27))])
 (.seq (.reg [O 29 (.mv (.t 6)),
 O 30 (.mv (.t 7)),
 O 31 (.iadr 1 (.t 29) (.t 30)),
 O 32 (.ld none (.t 31)),
 O 33 (.mv (.t 5)),
 O 34 (.bin .gtr (.t 32) (.t 33))])
 (.cond (.t 34)
 (.reg [O 35 (.mv (.t 6)),
 O 36 (.mv (.t 7)),
 O 37 (.iadr 1 (.t 35) (.t 36)),
 O 38 (.ld none (.t 37)),
 O 5 (.mv (.t 38))])
 .skip))))
 (.reg [O 16 (.mv (.t 7)),
 O 17 (.bin .sub (.t 16) (.c (.d (.int .i64 1)))),
 O 7 (.mv (.t 17))])))
def B30 : VCode :=
 (.seq (.reg [O 2 (.box (.t 0)),
 O 4 (.mv (.c (.d (.int .i64 0))))])
 (.seq (.reg [O 5 (.mv (.c (.d (.int .i64 0))))])
 (.seq (.reg [O 8 (.mv (.t 1)),
 O 9 (.len false (.t 8)),
 O 10 (.msl 1 8 [(.d (.int .i64 0))] (.t 9)),
 O 6 (.mv (.t 10))])
 (.seq (.seq (.reg [O 11 (.mv (.t 1)),
 O 12 (.len false (.t 11)),
 O 13 (.bin .sub (.t 12) (.c (.d (.int .i64 2)))),
 O 7 (.mv (.t 13))])
 (.block 0 (.loop K30_0 L30_0)))
 (.seq (.reg [O 39 (.mv (.t 5)),
 O 4 (.mv (.t 39))])
 .ret)))))
def F30 : VFn := ⟨2, 40, B30, [.tmp 4], false⟩

def A30 : Ann := ⟨keepOf [(4, [1, 5, 6, 7])], ghostOf []⟩
-- 31 patina/tree.isType
def B31 : VCode :=
 (.seq (.reg [O 2 (.mv (.c (.d (.bool false))))])
 (.seq (.reg [O 3 (.mv (.t 0)),
 O 4 (.bin .geq (.t 3) (.c (.d (.int .i64 10)))),
 O 5 (.mv (.t 4)),
 G 6 (.mv (.t 0)) 5 true,
 G 7 (.bin .leq (.t 6) (.c (.d (.int .i64 16)))) 5 true,
 O 8 (.pick (.t 5) (.t 7) (.c (.d (.bool false)))),
 O 2 (.mv (.t 8))])
 .ret))
def F31 : VFn := ⟨1, 9, B31, [.tmp 2], false⟩

def A31 : Ann := ⟨keepOf [], ghostOf []⟩
-- 32 patina/tree.text
def B32 : VCode :=
 (.seq (.reg [O 2 (.box (.t 0)),
 O 4 (.mv (.c (.d (.str []))))])
 (.seq (.reg [O 6 (.fadr 0 (.t 2)),
 O 7 (.ld none (.t 6)),
 O 8 (.mv (.t 1)),
 O 9 (.iadr 6 (.t 7) (.t 8)),
 O 10 (.ld (some 6) (.t 9)),
 O 5 (.zbox [(.d (.int .i64 0)), (.d (.str [])), (.d (.int .i64 0)), .nils, (.d (.int .i64 0)), (.d (.int .i64 0))]),
 P (.st 6 (.t 5) (.t 10))])
 (.seq (.seq (.reg [O 11 (.fadr 0 (.t 5)),
 O 12 (.ld none (.t 11))])
 (.block 0 (.seq (.reg [O 14 (.bin .eql (.t 12) (.c (.d (.int .i64 10)))),
 O 13 (.mv (.t 14))])
 (.cond (.t 13)
 (.seq (.reg [O 4 (.mv (.c (.d (.str [105, 54, 52]))))])
 .ret)
 (.seq (.reg [O 16 (.bin .eql (.t 12) (.c (.d (.int .i64 11)))),
 O 15 (.mv (.t 16))])
 (.cond (.t 15)
 (.seq (.reg [O 4 (.mv (.c (.d (.str [98, 111, 111, 108]))))])
 .ret)
 (.seq (.reg [O 18 (.bin .eql (.t 12) (.c (.d (.int .i64 12)))),
 O 17 (.mv (.t 18))])
 (.cond (.t 17)
 (.seq (.reg [O 4 (.mv (.c (.d (.str [40, 41]))))])
 .ret)
 (.seq (.reg [O 20 (.bin .eql (.t 12) (.c (.d (.int .i64 14)))),
 O 19 (.mv (.t 20))])
 (.cond (.t 19)
 (.seq (.draw 5 [O 21 (.ld (some 1) (.t 2)),
 O 22 (.fadr 3 (.t 5)),
 O 23 (.ld none (.t 22)),
 O 24 (.iadr 1 (.t 23) (.c (.d (.int .i64 0)))),
 O 25 (.ld none (.t 24)),
 O 26 (.call 32 [(.t 21), (.t 25)]),
 O 27 (.bin .add (.c (.d (.str [38]))) (.t 26)),
 O 4 (.mv (.t 27))])
 .ret)
 (.seq (.reg [O 29 (.bin .eql (.t 12) (.c (.d (.int .i64 15)))),
 O 28 (.mv (.t 29))])
 (.cond (.t 28)
 (.seq (.draw 5 [O 30 (.ld (some 1) (.t 2)),
 O 31 (.fadr 3 (.t 5)),
 O 32 (.ld none (.t 31)),
 O 33 (.iadr 1 (.t 32) (.c (.d (.int .i64 0)))),
 O 34 (.ld none (.t 33)),
 O 35 (.call 32 [(.t 30), (.t 34)]),
 O 36 (.bin .add (.c (.d (.str [38, 109, 117, 116, 32]))) (.t 35)),
 O 4 (.mv (.t 36))])
 .ret)
 (.seq (.reg [O 38 (.bin .eql (.t 12) (.c (.d (.int .i64 16)))),
 O 37 (.mv (.t 38))])
 (.cond (.t 37)
 (.seq (.draw 5 [O 39 (.ld (some 1) (.t 2)),
 O 40 (.fadr 3 (.t 5)),
 O 41 (.ld none (.t 40)),
 O 42 (.iadr 1 (.t 41) (.c (.d (.int .i64 0)))),
 O 43 (.ld none (.t 42)),
 O 44 (.call 32 [(.t 39), (.t 43)]),
 O 45 (.bin .add (.c (.d (.str [66, 111, 120, 60]))) (.t 44)),
 O 46 (.bin .add (.t 45) (.c (.d (.str [62])))),
 O 4 (.mv (.t 46))])
 .ret)
 .skip))))))))))))))
 (.seq (.reg [O 47 (.fadr 1 (.t 5)),
 O 48 (.ld none (.t 47)),
 O 4 (.mv (.t 48))])
 .ret))))
def F32 : VFn := ⟨2, 49, B32, [.tmp 4], false⟩

def A32 : Ann := ⟨keepOf [], ghostOf []⟩
-- 33 patina/patinaref13.IsType
def B33 : VCode :=
 (.seq (.reg [O 2 (.mv (.c (.d (.bool false))))])
 (.seq (.reg [O 3 (.mv (.t 0)),
 O 4 (.bin .geq (.t 3) (.c (.d (.int .i64 10)))),
 O 5 (.mv (.t 4)),
 G 6 (.mv (.t 0)) 5 true,
 G 7 (.bin .leq (.t 6) (.c (.d (.int .i64 16)))) 5 true,
 O 8 (.pick (.t 5) (.t 7) (.c (.d (.bool false)))),
 O 2 (.mv (.t 8))])
 .ret))
def F33 : VFn := ⟨1, 9, B33, [.tmp 2], false⟩

def A33 : Ann := ⟨keepOf [], ghostOf []⟩
-- 34 patina/patinaref13.TypeText
def B34 : VCode :=
 (.seq (.reg [O 2 (.box (.t 0)),
 O 4 (.mv (.c (.d (.str []))))])
 (.seq (.reg [O 6 (.fadr 0 (.t 2)),
 O 7 (.ld none (.t 6)),
 O 8 (.mv (.t 1)),
 O 9 (.iadr 6 (.t 7) (.t 8)),
 O 10 (.ld (some 6) (.t 9)),
 O 5 (.zbox [(.d (.int .i64 0)), (.d (.str [])), (.d (.int .i64 0)), .nils, (.d (.int .i64 0)), (.d (.int .i64 0))]),
 P (.st 6 (.t 5) (.t 10))])
 (.seq (.seq (.reg [O 11 (.fadr 0 (.t 5)),
 O 12 (.ld none (.t 11))])
 (.block 0 (.seq (.reg [O 14 (.bin .eql (.t 12) (.c (.d (.int .i64 10)))),
 O 13 (.mv (.t 14))])
 (.cond (.t 13)
 (.seq (.reg [O 4 (.mv (.c (.d (.str [105, 54, 52]))))])
 .ret)
 (.seq (.reg [O 16 (.bin .eql (.t 12) (.c (.d (.int .i64 11)))),
 O 15 (.mv (.t 16))])
 (.cond (.t 15)
 (.seq (.reg [O 4 (.mv (.c (.d (.str [98, 111, 111, 108]))))])
 .ret)
 (.seq (.reg [O 18 (.bin .eql (.t 12) (.c (.d (.int .i64 12)))),
 O 17 (.mv (.t 18))])
 (.cond (.t 17)
 (.seq (.reg [O 4 (.mv (.c (.d (.str [40, 41]))))])
 .ret)
 (.seq (.reg [O 20 (.bin .eql (.t 12) (.c (.d (.int .i64 14)))),
 O 19 (.mv (.t 20))])
 (.cond (.t 19)
 (.seq (.draw 5 [O 21 (.ld (some 1) (.t 2)),
 O 22 (.fadr 3 (.t 5)),
 O 23 (.ld none (.t 22)),
 O 24 (.iadr 1 (.t 23) (.c (.d (.int .i64 0)))),
 O 25 (.ld none (.t 24)),
 O 26 (.call 34 [(.t 21), (.t 25)]),
 O 27 (.bin .add (.c (.d (.str [38]))) (.t 26)),
 O 4 (.mv (.t 27))])
 .ret)
 (.seq (.reg [O 29 (.bin .eql (.t 12) (.c (.d (.int .i64 15)))),
 O 28 (.mv (.t 29))])
 (.cond (.t 28)
 (.seq (.draw 5 [O 30 (.ld (some 1) (.t 2)),
 O 31 (.fadr 3 (.t 5)),
 O 32 (.ld none (.t 31)),
 O 33 (.iadr 1 (.t 32) (.c (.d (.int .i64 0)))),
 O 34 (.ld none (.t 33)),
 O 35 (.call 34 [(.t 30), (.t 34)]),
 O 36 (.bin .add (.c (.d (.str [38, 109, 117, 116, 32]))) (.t 35)),
 O 4 (.mv (.t 36))])
 .ret)
 (.seq (.reg [O 38 (.bin .eql (.t 12) (.c (.d (.int .i64 16)))),
 O 37 (.mv (.t 38))])
 (.cond (.t 37)
 (.seq (.draw 5 [O 39 (.ld (some 1) (.t 2)),
 O 40 (.fadr 3 (.t 5)),
 O 41 (.ld none (.t 40)),
 O 42 (.iadr 1 (.t 41) (.c (.d (.int .i64 0)))),
 O 43 (.ld none (.t 42)),
 O 44 (.call 34 [(.t 39), (.t 43)]),
 O 45 (.bin .add (.c (.d (.str [66, 111, 120, 60]))) (.t 44)),
 O 46 (.bin .add (.t 45) (.c (.d (.str [62])))),
 O 4 (.mv (.t 46))])
 .ret)
 .skip))))))))))))))
 (.seq (.reg [O 47 (.fadr 1 (.t 5)),
 O 48 (.ld none (.t 47)),
 O 4 (.mv (.t 48))])
 .ret))))
def F34 : VFn := ⟨2, 49, B34, [.tmp 4], false⟩

def A34 : Ann := ⟨keepOf [], ghostOf []⟩
-- 35 (*patina/tree.printer).block
def K35_0 : List Nat := [0, 10, 11, 12]
def L35_0 : VCode :=
 (.seq (.reg [O 13 (.bin .lss (.t 12) (.t 11))])
 (.seq (.cond (.t 13)
 .skip
 (.exit 0))
 (.seq (.block 1 (.seq (.reg [O 14 (.iadr 1 (.t 10) (.t 12)),
 O 15 (.ld none (.t 14)),
 O 5 (.mv (.t 15))])
 (.reg [O 16 (.mv (.t 0)),
 O 17 (.mv (.t 5)),
 O 18 (.call 21 [(.t 16), (.t 17)])])))
 (.reg [O 19 (.bin .add (.t 12) (.c (.d (.int .i64 1)))),
 O 12 (.mv (.t 19))]))))
def B35 : VCode :=
 (.seq (.reg [O 3 (.box (.t 1))])
 (.seq (.reg [O 6 (.mv (.t 0)),
 O 7 (.bslice 1 1 [(.c (.d (.str [123])))]),
 O 8 (.call 62 [(.t 6), (.t 7)])])
 (.seq (.seq (.reg [O 9 (.fadr 3 (.t 3)),
 O 10 (.ld none (.t 9)),
 O 11 (.len false (.t 10)),
 O 12 (.mv (.c (.d (.int .i64 0))))])
 (.block 0 (.loop K35_0 L35_0)))
 (.reg [O 20 (.mv (.t 0)),
 O 21 (.bslice 1 1 [(.c (.d (.str [125])))]),
 O 22 (.call 62 [(.t 20), (.t 21)])]))))
def F35 : VFn := ⟨2, 23, B35, [], false⟩

def A35 : Ann := ⟨keepOf [(3, [0, 10, 11, 12])], ghostOf []⟩
-- 36 (*patina/tree.printer).item
def K36_0 : List Nat := [0, 22, 23, 24]
def L36_0 : VCode :=
 (.seq (.reg [O 25 (.bin .lss (.t 24) (.t 23))])
 (.seq (.cond (.t 25)
 .skip
 (.exit 7))
 (.seq (.block 8 (.seq (.reg [O 26 (.iadr 1 (.t 22) (.t 24)),
 O 27 (.ld none (.t 26)),
 O 5 (.mv (.t 27))])
 (.reg [O 28 (.mv (.t 0)),
 O 29 (.mv (.t 5)),
 O 30 (.call 21 [(.t 28), (.t 29)])])))
 (.reg [O 31 (.bin .add (.t 24) (.c (.d (.int .i64 1)))),
 O 24 (.mv (.t 31))]))))
def B36 : VCode :=
 (.seq (.reg [O 3 (.box (.t 1))])
 (.seq (.reg [O 6 (.fadr 0 (.t 3)),
 O 7 (.ld none (.t 6))])
 (.block 0 (.seq (.block 6 (.seq (.block 5 (.seq (.block 4 (.seq (.block 3 (.seq (.block 2 (.seq (.block 1 (.seq (.seq (.seq (.reg [O 9 (.bin .eql (.t 7) (.c (.d (.int .i64 1)))),
 O 8 (.mv (.t 9))])
 (.cond (.t 8)
 (.exit 1)
 .skip))
 (.seq (.seq (.reg [O 11 (.bin .eql (.t 7) (.c (.d (.int .i64 2)))),
 O 10 (.mv (.t 11))])
 (.cond (.t 10)
 (.exit 2)
 .skip))
 (.seq (.seq (.seq (.reg [O 13 (.bin .eql (.t 7) (.c (.d (.int .i64 3)))),
 O 12 (.mv (.t 13))])
 (.cond (.t 12)
 .skip
 (.reg [O 14 (.bin .eql (.t 7) (.c (.d (.int .i64 4)))),
 O 12 (.mv (.t 14))])))
 (.cond (.t 12)
 (.exit 3)
 .skip))
 (.seq (.seq (.reg [O 16 (.bin .eql (.t 7) (.c (.d (.int .i64 6)))),
 O 15 (.mv (.t 16))])
 (.cond (.t 15)
 (.exit 4)
 .skip))
 (.seq (.seq (.reg [O 18 (.bin .eql (.t 7) (.c (.d (.int .i64 7)))),
 O 17 (.mv (.t 18))])
 (.cond (.t 17)
 (.exit 5)
 .skip))
 (.seq (.reg [O 20 (.bin .eql (.t 7) (.c (.d (.int .i64 5)))),
 O 19 (.mv (.t 20))])
 (.cond (.t 19)
 (.exit 6)
 .skip)))))))
 (.exit 0)))
 (.seq (.seq (.reg [O 21 (.fadr 3 (.t 3)),
 O 22 (.ld none (.t 21)),
 O 23 (.len false (.t 22)),
 O 24 (.mv (.c (.d (.int .i64 0))))])
 (.block 7 (.loop K36_0 L36_0)))
 (.exit 0))))
 (.seq (.reg [O 32 (.mv (.t 0)),
 O 33 (.ld (some 6) (.t 3)),
 O 34 (.call 63 [(.t 32), (.t 33)])])
 (.exit 0))))
 (.seq (.seq (.reg [O 35 (.mv (.t 0)),
 O 36 (.mkm),
 P (.mput 0 (.t 36) (.c (.d (.bool true))) (.c (.d (.str [115, 116, 114, 117, 99, 116])))),
 P (.mput 0 (.t 36) (.c (.d (.bool false))) (.c (.d (.str [101, 110, 117, 109])))),
 O 37 (.mv (.t 36)),
 O 38 (.fadr 0 (.t 3)),
 O 39 (.ld none (.t 38)),
 O 40 (.bin .eql (.t 39) (.c (.d (.int .i64 3)))),
 O 41 (.mget 0 false (.str []) (.t 37) (.t 40)),
 O 42 (.fadr 1 (.t 3)),
 O 43 (.ld none (.t 42)),
 O 44 (.bslice 1 3 [(.t 41), (.t 43), (.c (.d (.str [123])))]),
 O 45 (.call 62 [(.t 35), (.t 44)])])
 (.seq (.reg [O 46 (.mv (.t 0)),
 O 47 (.fadr 3 (.t 3)),
 O 48 (.ld none (.t 47)),
 O 49 (.call 64 [(.t 46), (.t 48)])])
 (.reg [O 50 (.mv (.t 0)),
 O 51 (.bslice 1 1 [(.c (.d (.str [125])))]),
 O 52 (.call 62 [(.t 50), (.t 51)])])))
 (.exit 0))))
 (.seq (.seq (.reg [O 53 (.mv (.t 0)),
 O 54 (.fadr 1 (.t 3)),
 O 55 (.ld none (.t 54)),
 O 56 (.bslice 1 1 [(.t 55)]),
 O 57 (.call 62 [(.t 53), (.t 56)])])
 (.reg [O 58 (.mv (.t 0)),
 O 59 (.fadr 3 (.t 3)),
 O 60 (.ld none (.t 59)),
 O 61 (.call 65 [(.t 58), (.t 60)])]))
 (.exit 0))))
 (.seq (.reg [O 62 (.fadr 2 (.t 3)),
 O 63 (.ld none (.t 62)),
 O 64 (.bin .eql (.t 63) (.c (.d (.int .i64 1))))])
 (.cond (.t 64)
 (.reg [O 65 (.mv (.t 0)),
 O 66 (.bslice 1 1 [(.c (.d (.str [109, 117, 116])))]),
 O 67 (.call 62 [(.t 65), (.t 66)])])
 .skip))))
 (.seq (.seq (.reg [O 68 (.mv (.t 0)),
 O 69 (.fadr 1 (.t 3)),
 O 70 (.ld none (.t 69)),
 O 71 (.bslice 1 2 [(.t 70), (.c (.d (.str [58])))]),
 O 72 (.call 62 [(.t 68), (.t 71)])])
 (.reg [O 73 (.mv (.t 0)),
 O 74 (.fadr 3 (.t 3)),
 O 75 (.ld none (.t 74)),
 O 76 (.iadr 1 (.t 75) (.c (.d (.int .i64 0)))),
 O 77 (.ld none (.t 76)),
 O 78 (.call 21 [(.t 73), (.t 77)])]))
 (.exit 0))))))
def F36 : VFn := ⟨2, 79, B36, [], false⟩

def A36 : Ann := ⟨keepOf [(10, [0, 22, 23, 24])], ghostOf []⟩
-- 37 (*patina/tree.printer).typ
def B37 : VCode :=
 (.seq (.reg [O 3 (.box (.t 1))])
 (.seq (.reg [O 4 (.fadr 0 (.t 3)),
 O 5 (.ld none (.t 4))])
 (.block 0 (.seq (.reg [O 7 (.bin .eql (.t 5) (.c (.d (.int .i64 10)))),
 O 6 (.mv (.t 7))])
 (.cond (.t 6)
 (.reg [O 8 (.mv (.t 0)),
 O 9 (.bslice 1 1 [(.c (.d (.str [105, 54, 52])))]),
 O 10 (.call 62 [(.t 8), (.t 9)])])
 (.seq (.reg [O 12 (.bin .eql (.t 5) (.c (.d (.int .i64 11)))),
 O 11 (.mv (.t 12))])
 (.cond (.t 11)
 (.reg [O 13 (.mv (.t 0)),
 O 14 (.bslice 1 1 [(.c (.d (.str [98, 111, 111, 108])))]),
 O 15 (.call 62 [(.t 13), (.t 14)])])
 (.seq (.reg [O 17 (.bin .eql (.t 5) (.c (.d (.int .i64 12)))),
 O 16 (.mv (.t 17))])
 (.cond (.t 16)
 (.reg [O 18 (.mv (.t 0)),
 O 19 (.bslice 1 2 [(.c (.d (.str [40]))), (.c (.d (.str [41])))]),
 O 20 (.call 62 [(.t 18), (.t 19)])])
 (.seq (.reg [O 22 (.bin .eql (.t 5) (.c (.d (.int .i64 13)))),
 O 21 (.mv (.t 22))])
 (.cond (.t 21)
 (.reg [O 23 (.mv (.t 0)),
 O 24 (.fadr 1 (.t 3)),
 O 25 (.ld none (.t 24)),
 O 26 (.bslice 1 1 [(.t 25)]),
 O 27 (.call 62 [(.t 23), (.t 26)])])
 (.seq (.reg [O 29 (.bin .eql (.t 5) (.c (.d (.int .i64 14)))),
 O 28 (.mv (.t 29))])
 (.cond (.t 28)
 (.seq (.reg [O 30 (.mv (.t 0)),
 O 31 (.bslice 1 1 [(.c (.d (.str [38])))]),
 O 32 (.call 62 [(.t 30), (.t 31)])])
 (.reg [O 33 (.mv (.t 0)),
 O 34 (.fadr 3 (.t 3)),
 O 35 (.ld none (.t 34)),
 O 36 (.iadr 1 (.t 35) (.c (.d (.int .i64 0)))),
 O 37 (.ld none (.t 36)),
 O 38 (.call 21 [(.t 33), (.t 37)])]))
 (.seq (.reg [O 40 (.bin .eql (.t 5) (.c (.d (.int .i64 15)))),
 O 39 (.mv (.t 40))])
 (.cond (.t 39)
 (.seq (.reg [O 41 (.mv (.t 0)),
 O 42 (.bslice 1 2 [(.c (.d (.str [38]))), (.c (.d (.str [109, 117, 116])))]),
 O 43 (.call 62 [(.t 41), (.t 42)])])
 (.reg [O 44 (.mv (.t 0)),
 O 45 (.fadr 3 (.t 3)),
 O 46 (.ld none (.t 45)),
 O 47 (.iadr 1 (.t 46) (.c (.d (.int .i64 0)))),
 O 48 (.ld none (.t 47)),
 O 49 (.call 21 [(.t 44), (.t 48)])]))
 (.seq (.reg [O 51 (.bin .eql (.t 5) (.c (.d (.int .i64 16)))),
 O 50 (.mv (.t 51))])
 (.cond (.t 50)
 (.seq (.reg [O 52 (.mv (.t 0)),
 O 53 (.bslice 1 2 [(.c (.d (.str [66, 111, 120]))), (.c (.d (.str [60])))]),
 O 54 (.call 62 [(.t 52), (.t 53)])])
 (.seq (.reg [O 55 (.mv (.t 0)),
 O 56 (.fadr 3 (.t 3)),
 O 57 (.ld none (.t 56)),
 O 58 (.iadr 1 (.t 57) (.c (.d (.int .i64 0)))),
 O 59 (.ld none (.t 58)),
 O 60 (.call 21 [(.t 55), (.t 59)])])
 (.reg [O 61 (.mv (.t 0)),
 O 62 (.bslice 1 1 [(.c (.d (.str [62])))]),
 O 63 (.call 62 [(.t 61), (.t 62)])])))
 .skip)))))))))))))))))
def F37 : VFn := ⟨2, 64, B37, [], false⟩

def A37 : Ann := ⟨keepOf [], ghostOf []⟩
-- 38 patina/tree.isStmt
def B38 : VCode :=
 (.seq (.reg [O 2 (.mv (.c (.d (.bool false))))])
 (.seq (.reg [O 3 (.mv (.t 0)),
 O 4 (.bin .geq (.t 3) (.c (.d (.int .i64 21)))),
 O 5 (.mv (.t 4)),
 G 6 (.mv (.t 0)) 5 true,
 G 7 (.bin .leq (.t 6) (.c (.d (.int .i64 27)))) 5 true,
 O 8 (.pick (.t 5) (.t 7) (.c (.d (.bool false)))),
 O 2 (.mv (.t 8))])
 .ret))
def F38 : VFn := ⟨1, 9, B38, [.tmp 2], false⟩

def A38 : Ann := ⟨keepOf [], ghostOf []⟩
-- 39 (*patina/tree.printer).stmt
def K39_0 : List Nat := [0, 67, 68, 69]
def L39_0 : VCode :=
 (.seq (.reg [O 70 (.bin .lss (.t 69) (.t 68))])
 (.seq (.cond (.t 70)
 .skip
 (.exit 1))
 (.seq (.block 2 (.seq (.reg [O 71 (.iadr 1 (.t 67) (.t 69)),
 O 72 (.ld none (.t 71)),
 O 5 (.mv (.t 72))])
 (.reg [O 73 (.mv (.t 0)),
 O 74 (.mv (.t 5)),
 O 75 (.call 21 [(.t 73), (.t 74)])])))
 (.reg [O 76 (.bin .add (.t 69) (.c (.d (.int .i64 1)))),
 O 69 (.mv (.t 76))]))))
def B39 : VCode :=
 (.seq (.reg [O 3 (.box (.t 1))])
 (.seq (.reg [O 6 (.fadr 0 (.t 3)),
 O 7 (.ld none (.t 6))])
 (.block 0 (.seq (.reg [O 9 (.bin .eql (.t 7) (.c (.d (.int .i64 21)))),
 O 8 (.mv (.t 9))])
 (.cond (.t 8)
 (.reg [O 10 (.mv (.t 0)),
 O 11 (.ld (some 6) (.t 3)),
 O 12 (.call 66 [(.t 10), (.t 11)])])
 (.seq (.reg [O 14 (.bin .eql (.t 7) (.c (.d (.int .i64 22)))),
 O 13 (.mv (.t 14))])
 (.cond (.t 13)
 (.seq (.reg [O 15 (.mv (.t 0)),
 O 16 (.fadr 3 (.t 3)),
 O 17 (.ld none (.t 16)),
 O 18 (.iadr 1 (.t 17) (.c (.d (.int .i64 0)))),
 O 19 (.ld none (.t 18)),
 O 20 (.call 21 [(.t 15), (.t 19)])])
 (.reg [O 21 (.mv (.t 0)),
 O 22 (.bslice 1 1 [(.c (.d (.str [59])))]),
 O 23 (.call 62 [(.t 21), (.t 22)])]))
 (.seq (.reg [O 25 (.bin .eql (.t 7) (.c (.d (.int .i64 23)))),
 O 24 (.mv (.t 25))])
 (.cond (.t 24)
 (.seq (.reg [O 26 (.mv (.t 0)),
 O 27 (.fadr 3 (.t 3)),
 O 28 (.ld none (.t 27)),
 O 29 (.iadr 1 (.t 28) (.c (.d (.int .i64 0)))),
 O 30 (.ld none (.t 29)),
 O 31 (.call 67 [(.t 26), (.t 30), (.c (.d (.bool false)))])])
 (.seq (.reg [O 32 (.mv (.t 0)),
 O 33 (.bslice 1 1 [(.c (.d (.str [61])))]),
 O 34 (.call 62 [(.t 32), (.t 33)])])
 (.seq (.reg [O 35 (.mv (.t 0)),
 O 36 (.fadr 3 (.t 3)),
 O 37 (.ld none (.t 36)),
 O 38 (.iadr 1 (.t 37) (.c (.d (.int .i64 1)))),
 O 39 (.ld none (.t 38)),
 O 40 (.call 67 [(.t 35), (.t 39), (.c (.d (.bool false)))])])
 (.reg [O 41 (.mv (.t 0)),
 O 42 (.bslice 1 1 [(.c (.d (.str [59])))]),
 O 43 (.call 62 [(.t 41), (.t 42)])]))))
 (.seq (.reg [O 45 (.bin .eql (.t 7) (.c (.d (.int .i64 24)))),
 O 44 (.mv (.t 45))])
 (.cond (.t 44)
 (.seq (.reg [O 46 (.mv (.t 0)),
 O 47 (.bslice 1 1 [(.c (.d (.str [119, 104, 105, 108, 101])))]),
 O 48 (.call 62 [(.t 46), (.t 47)])])
 (.seq (.reg [O 49 (.mv (.t 0)),
 O 50 (.fadr 3 (.t 3)),
 O 51 (.ld none (.t 50)),
 O 52 (.iadr 1 (.t 51) (.c (.d (.int .i64 0)))),
 O 53 (.ld none (.t 52)),
 O 54 (.call 67 [(.t 49), (.t 53), (.c (.d (.bool false)))])])
 (.reg [O 55 (.mv (.t 0)),
 O 56 (.fadr 3 (.t 3)),
 O 57 (.ld none (.t 56)),
 O 58 (.iadr 1 (.t 57) (.c (.d (.int .i64 1)))),
 O 59 (.ld none (.t 58)),
 O 60 (.call 21 [(.t 55), (.t 59)])])))
 (.seq (.reg [O 62 (.bin .eql (.t 7) (.c (.d (.int .i64 25)))),
 O 61 (.mv (.t 62))])
 (.cond (.t 61)
 (.seq (.reg [O 63 (.mv (.t 0)),
 O 64 (.bslice 1 1 [(.c (.d (.str [114, 101, 116, 117, 114, 110])))]),
 O 65 (.call 62 [(.t 63), (.t 64)])])
 (.seq (.seq (.reg [O 66 (.fadr 3 (.t 3)),
 O 67 (.ld none (.t 66)),
 O 68 (.len false (.t 67)),
 O 69 (.mv (.c (.d (.int .i64 0))))])
 (.block 1 (.loop K39_0 L39_0)))
 (.reg [O 77 (.mv (.t 0)),
 O 78 (.bslice 1 1 [(.c (.d (.str [59])))]),
 O 79 (.call 62 [(.t 77), (.t 78)])])))
 (.seq (.reg [O 81 (.bin .eql (.t 7) (.c (.d (.int .i64 26)))),
 O 80 (.mv (.t 81))])
 (.cond (.t 80)
 (.reg [O 82 (.mv (.t 0)),
 O 83 (.bslice 1 2 [(.c (.d (.str [98, 114, 101, 97, 107]))), (.c (.d (.str [59])))]),
 O 84 (.call 62 [(.t 82), (.t 83)])])
 (.seq (.reg [O 86 (.bin .eql (.t 7) (.c (.d (.int .i64 27)))),
 O 85 (.mv (.t 86))])
 (.cond (.t 85)
 (.reg [O 87 (.mv (.t 0)),
 O 88 (.bslice 1 2 [(.c (.d (.str [99, 111, 110, 116, 105, 110, 117, 101]))), (.c (.d (.str [59])))]),
 O 89 (.call 62 [(.t 87), (.t 88)])])
 .skip)))))))))))))))))
def F39 : VFn := ⟨2, 90, B39, [], false⟩

def A39 : Ann := ⟨keepOf [(19, [0, 67, 68, 69])], ghostOf []⟩
-- 40 (*patina/tree.printer).expr
def B40 : VCode :=
 (.seq (.reg [O 3 (.box (.t 1))])
 (.seq (.reg [O 4 (.fadr 0 (.t 3)),
 O 5 (.ld none (.t 4))])
 (.block 0 (.seq (.reg [O 7 (.bin .eql (.t 5) (.c (.d (.int .i64 38)))),
 O 6 (.mv (.t 7))])
 (.cond (.t 6)
 (.seq (.reg [O 8 (.mv (.t 0)),
 O 9 (.fadr 3 (.t 3)),
 O 10 (.ld none (.t 9)),
 O 11 (.iadr 1 (.t 10) (.c (.d (.int .i64 0)))),
 O 12 (.ld none (.t 11)),
 O 13 (.call 67 [(.t 8), (.t 12), (.c (.d (.bool false)))])])
 (.seq (.reg [O 14 (.mv (.t 0)),
 O 15 (.fadr 1 (.t 3)),
 O 16 (.ld none (.t 15)),
 O 17 (.bslice 1 1 [(.t 16)]),
 O 18 (.call 62 [(.t 14), (.t 17)])])
 (.reg [O 19 (.mv (.t 0)),
 O 20 (.fadr 3 (.t 3)),
 O 21 (.ld none (.t 20)),
 O 22 (.iadr 1 (.t 21) (.c (.d (.int .i64 1)))),
 O 23 (.ld none (.t 22)),
 O 24 (.call 67 [(.t 19), (.t 23), (.c (.d (.bool false)))])])))
 (.seq (.reg [O 26 (.bin .eql (.t 5) (.c (.d (.int .i64 39)))),
 O 25 (.mv (.t 26))])
 (.cond (.t 25)
 (.reg [O 27 (.mv (.t 0)),
 O 28 (.ld (some 6) (.t 3)),
 O 29 (.bslice 1 1 [(.c (.d (.str [45])))]),
 O 30 (.call 68 [(.t 27), (.t 28), (.t 29)])])
 (.seq (.reg [O 32 (.bin .eql (.t 5) (.c (.d (.int .i64 40)))),
 O 31 (.mv (.t 32))])
 (.cond (.t 31)
 (.reg [O 33 (.mv (.t 0)),
 O 34 (.ld (some 6) (.t 3)),
 O 35 (.bslice 1 1 [(.c (.d (.str [33])))]),
 O 36 (.call 68 [(.t 33), (.t 34), (.t 35)])])
 (.seq (.reg [O 38 (.bin .eql (.t 5) (.c (.d (.int .i64 42)))),
 O 37 (.mv (.t 38))])
 (.cond (.t 37)
 (.reg [O 39 (.mv (.t 0)),
 O 40 (.ld (some 6) (.t 3)),
 O 41 (.bslice 1 1 [(.c (.d (.str [42])))]),
 O 42 (.call 68 [(.t 39), (.t 40), (.t 41)])])
 (.seq (.reg [O 44 (.bin .eql (.t 5) (.c (.d (.int .i64 43)))),
 O 43 (.mv (.t 44))])
 (.cond (.t 43)
 (.seq (.reg [O 45 (.fadr 2 (.t 3)),
 O 46 (.ld none (.t 45)),
 O 47 (.bin .eql (.t 46) (.c (.d (.int .i64 1))))])
 (.cond (.t 47)
 (.reg [O 48 (.mv (.t 0)),
 O 49 (.ld (some 6) (.t 3)),
 O 50 (.bslice 1 2 [(.c (.d (.str [38]))), (.c (.d (.str [109, 117, 116])))]),
 O 51 (.call 68 [(.t 48), (.t 49), (.t 50)])])
 (.reg [O 52 (.mv (.t 0)),
 O 53 (.ld (some 6) (.t 3)),
 O 54 (.bslice 1 1 [(.c (.d (.str [38])))]),
 O 55 (.call 68 [(.t 52), (.t 53), (.t 54)])])))
 (.seq (.reg [O 57 (.bin .eql (.t 5) (.c (.d (.int .i64 41)))),
 O 56 (.mv (.t 57))])
 (.cond (.t 56)
 (.seq (.reg [O 58 (.mv (.t 0)),
 O 59 (.fadr 3 (.t 3)),
 O 60 (.ld none (.t 59)),
 O 61 (.iadr 1 (.t 60) (.c (.d (.int .i64 0)))),
 O 62 (.ld none (.t 61)),
 O 63 (.call 67 [(.t 58), (.t 62), (.c (.d (.bool true)))])])
 (.reg [O 64 (.mv (.t 0)),
 O 65 (.fadr 1 (.t 3)),
 O 66 (.ld none (.t 65)),
 O 67 (.bslice 1 2 [(.c (.d (.str [46]))), (.t 66)]),
 O 68 (.call 62 [(.t 64), (.t 67)])]))
 (.seq (.reg [O 70 (.bin .eql (.t 5) (.c (.d (.int .i64 45)))),
 O 69 (.mv (.t 70))])
 (.cond (.t 69)
 (.seq (.reg [O 71 (.mv (.t 0)),
 O 72 (.bslice 1 1 [(.c (.d (.str [105, 102])))]),
 O 73 (.call 62 [(.t 71), (.t 72)])])
 (.seq (.reg [O 74 (.mv (.t 0)),
 O 75 (.fadr 3 (.t 3)),
 O 76 (.ld none (.t 75)),
 O 77 (.iadr 1 (.t 76) (.c (.d (.int .i64 0)))),
 O 78 (.ld none (.t 77)),
 O 79 (.call 67 [(.t 74), (.t 78), (.c (.d (.bool false)))])])
 (.seq (.reg [O 80 (.mv (.t 0)),
 O 81 (.fadr 3 (.t 3)),
 O 82 (.ld none (.t 81)),
 O 83 (.iadr 1 (.t 82) (.c (.d (.int .i64 1)))),
 O 84 (.ld none (.t 83)),
 O 85 (.call 21 [(.t 80), (.t 84)])])
 (.seq (.reg [O 86 (.fadr 3 (.t 3)),
 O 87 (.ld none (.t 86)),
 O 88 (.len false (.t 87)),
 O 89 (.bin .eql (.t 88) (.c (.d (.int .i64 3))))])
 (.cond (.t 89)
 (.seq (.reg [O 90 (.mv (.t 0)),
 O 91 (.bslice 1 1 [(.c (.d (.str [101, 108, 115, 101])))]),
 O 92 (.call 62 [(.t 90), (.t 91)])])
 (.reg [O 93 (.mv (.t 0)),
 O 94 (.fadr 3 (.t 3)),
 O 95 (.ld none (.t 94)),
 O 96 (.iadr 1 (.t 95) (.c (.d (.int .i64 2)))),
 O 97 (.ld none (.t 96)),
 O 98 (.call 21 [(.t 93), (.t 97)])]))
 .skip)))))
 (.seq (.reg [O 100 (.bin .eql (.t 5) (.c (.d (.int .i64 46)))),
 O 99 (.mv (.t 100))])
 (.cond (.t 99)
 (.seq (.reg [O 101 (.mv (.t 0)),
 O 102 (.bslice 1 1 [(.c (.d (.str [109, 97, 116, 99, 104])))]),
 O 103 (.call 62 [(.t 101), (.t 102)])])
 (.seq (.reg [O 104 (.mv (.t 0)),
 O 105 (.fadr 3 (.t 3)),
 O 106 (.ld none (.t 105)),
 O 107 (.iadr 1 (.t 106) (.c (.d (.int .i64 0)))),
 O 108 (.ld none (.t 107)),
 O 109 (.call 67 [(.t 104), (.t 108), (.c (.d (.bool false)))])])
 (.seq (.reg [O 110 (.mv (.t 0)),
 O 111 (.bslice 1 1 [(.c (.d (.str [123])))]),
 O 112 (.call 62 [(.t 110), (.t 111)])])
 (.seq (.reg [O 113 (.mv (.t 0)),
 O 114 (.fadr 3 (.t 3)),
 O 115 (.ld none (.t 114)),
 O 116 (.slc 1 (.t 115) (some (.c (.d (.int .i64 1)))) none),
 O 117 (.call 64 [(.t 113), (.t 116)])])
 (.reg [O 118 (.mv (.t 0)),
 O 119 (.bslice 1 1 [(.c (.d (.str [125])))]),
 O 120 (.call 62 [(.t 118), (.t 119)])])))))
 .skip)))))))))))))))))))
def F40 : VFn := ⟨2, 121, B40, [], false⟩

def A40 : Ann := ⟨keepOf [], ghostOf []⟩
-- 41 (*patina/tree.printer).primary
def B41 : VCode :=
 (.seq (.reg [O 3 (.box (.t 1))])
 (.seq (.reg [O 4 (.fadr 0 (.t 3)),
 O 5 (.ld none (.t 4))])
 (.block 0 (.seq (.seq (.reg [O 7 (.bin .eql (.t 5) (.c (.d (.int .i64 30)))),
 O 6 (.mv (.t 7))])
 (.cond (.t 6)
 .skip
 (.reg [O 8 (.bin .eql (.t 5) (.c (.d (.int .i64 52)))),
 O 6 (.mv (.t 8))])))
 (.cond (.t 6)
 (.seq (.seq (.reg [O 9 (.fadr 2 (.t 3)),
 O 10 (.ld none (.t 9)),
 O 11 (.bin .lss (.t 10) (.c (.d (.int .i64 0))))])
 (.cond (.t 11)
 (.seq (.reg [O 12 (.mv (.t 0)),
 O 13 (.bslice 1 1 [(.c (.d (.str [45])))]),
 O 14 (.call 62 [(.t 12), (.t 13)])])
 (.reg [O 15 (.fadr 2 (.t 3)),
 O 16 (.ld none (.t 15)),
 O 17 (.un .neg (.t 16)),
 O 18 (.fadr 2 (.t 3)),
 P (.st 1 (.t 18) (.t 17))]))
 .skip))
 (.reg [O 19 (.mv (.t 0)),
 O 20 (.fadr 2 (.t 3)),
 O 21 (.ld none (.t 20)),
 O 22 (.call 69 [(.t 21), (.c (.d (.int .i64 10)))]),
 O 23 (.bslice 1 1 [(.t 22)]),
 O 24 (.call 62 [(.t 19), (.t 23)])]))
 (.seq (.seq (.reg [O 26 (.bin .eql (.t 5) (.c (.d (.int .i64 31)))),
 O 25 (.mv (.t 26))])
 (.cond (.t 25)
 .skip
 (.reg [O 27 (.bin .eql (.t 5) (.c (.d (.int .i64 53)))),
 O 25 (.mv (.t 27))])))
 (.cond (.t 25)
 (.reg [O 28 (.mv (.t 0)),
 O 29 (.fadr 2 (.t 3)),
 O 30 (.ld none (.t 29)),
 O 31 (.bin .eql (.t 30) (.c (.d (.int .i64 1)))),
 O 32 (.call 70 [(.t 31)]),
 O 33 (.bslice 1 1 [(.t 32)]),
 O 34 (.call 62 [(.t 28), (.t 33)])])
 (.seq (.reg [O 36 (.bin .eql (.t 5) (.c (.d (.int .i64 32)))),
 O 35 (.mv (.t 36))])
 (.cond (.t 35)
 (.reg [O 37 (.mv (.t 0)),
 O 38 (.bslice 1 2 [(.c (.d (.str [40]))), (.c (.d (.str [41])))]),
 O 39 (.call 62 [(.t 37), (.t 38)])])
 (.seq (.seq (.reg [O 41 (.bin .eql (.t 5) (.c (.d (.int .i64 33)))),
 O 40 (.mv (.t 41))])
 (.cond (.t 40)
 .skip
 (.reg [O 42 (.bin .eql (.t 5) (.c (.d (.int .i64 51)))),
 O 40 (.mv (.t 42))])))
 (.cond (.t 40)
 (.reg [O 43 (.mv (.t 0)),
 O 44 (.fadr 1 (.t 3)),
 O 45 (.ld none (.t 44)),
 O 46 (.bslice 1 1 [(.t 45)]),
 O 47 (.call 62 [(.t 43), (.t 46)])])
 (.seq (.reg [O 49 (.bin .eql (.t 5) (.c (.d (.int .i64 50)))),
 O 48 (.mv (.t 49))])
 (.cond (.t 48)
 (.reg [O 50 (.mv (.t 0)),
 O 51 (.bslice 1 1 [(.c (.d (.str [95])))]),
 O 52 (.call 62 [(.t 50), (.t 51)])])
 (.seq (.reg [O 54 (.bin .eql (.t 5) (.c (.d (.int .i64 34)))),
 O 53 (.mv (.t 54))])
 (.cond (.t 53)
 (.seq (.reg [O 55 (.mv (.t 0)),
 O 56 (.fadr 1 (.t 3)),
 O 57 (.ld none (.t 56)),
 O 58 (.bslice 1 2 [(.t 57), (.c (.d (.str [40])))]),
 O 59 (.call 62 [(.t 55), (.t 58)])])
 (.seq (.reg [O 60 (.mv (.t 0)),
 O 61 (.fadr 3 (.t 3)),
 O 62 (.ld none (.t 61)),
 O 63 (.call 64 [(.t 60), (.t 62)])])
 (.reg [O 64 (.mv (.t 0)),
 O 65 (.bslice 1 1 [(.c (.d (.str [41])))]),
 O 66 (.call 62 [(.t 64), (.t 65)])])))
 (.seq (.reg [O 68 (.bin .eql (.t 5) (.c (.d (.int .i64 35)))),
 O 67 (.mv (.t 68))])
 (.cond (.t 67)
 (.seq (.reg [O 69 (.mv (.t 0)),
 O 70 (.fadr 1 (.t 3)),
 O 71 (.ld none (.t 70)),
 O 72 (.bslice 1 2 [(.t 71), (.c (.d (.str [123])))]),
 O 73 (.call 62 [(.t 69), (.t 72)])])
 (.seq (.reg [O 74 (.mv (.t 0)),
 O 75 (.fadr 3 (.t 3)),
 O 76 (.ld none (.t 75)),
 O 77 (.call 64 [(.t 74), (.t 76)])])
 (.reg [O 78 (.mv (.t 0)),
 O 79 (.bslice 1 1 [(.c (.d (.str [125])))]),
 O 80 (.call 62 [(.t 78), (.t 79)])])))
 (.seq (.reg [O 82 (.bin .eql (.t 5) (.c (.d (.int .i64 36)))),
 O 81 (.mv (.t 82))])
 (.cond (.t 81)
 (.seq (.reg [O 83 (.mv (.t 0)),
 O 84 (.fadr 1 (.t 3)),
 O 85 (.ld none (.t 84)),
 O 86 (.bslice 1 2 [(.t 85), (.c (.d (.str [58])))]),
 O 87 (.call 62 [(.t 83), (.t 86)])])
 (.reg [O 88 (.mv (.t 0)),
 O 89 (.fadr 3 (.t 3)),
 O 90 (.ld none (.t 89)),
 O 91 (.iadr 1 (.t 90) (.c (.d (.int .i64 0)))),
 O 92 (.ld none (.t 91)),
 O 93 (.call 21 [(.t 88), (.t 92)])]))
 (.seq (.seq (.reg [O 95 (.bin .eql (.t 5) (.c (.d (.int .i64 37)))),
 O 94 (.mv (.t 95))])
 (.cond (.t 94)
 .skip
 (.reg [O 96 (.bin .eql (.t 5) (.c (.d (.int .i64 54)))),
 O 94 (.mv (.t 96))])))
 (.cond (.t 94)
 (.seq (.reg [O 97 (.mv (.t 0)),
 O 98 (.fadr 1 (.t 3)),
 O 99 (.ld none (.t 98)),
 O 100 (.call 71 [(.t 97), (.t 99)])])
 (.reg [O 101 (.mv (.t 0)),
 O 102 (.fadr 3 (.t 3)),
 O 103 (.ld none (.t 102)),
 O 104 (.call 65 [(.t 101), (.t 103)])]))
 (.seq (.reg [O 106 (.bin .eql (.t 5) (.c (.d (.int .i64 44)))),
 O 105 (.mv (.t 106))])
 (.cond (.t 105)
 (.seq (.reg [O 107 (.mv (.t 0)),
 O 108 (.bslice 1 3 [(.c (.d (.str [66, 111, 120]))), (.c (.d (.str [58, 58]))), (.c (.d (.str [110, 101, 119])))]),
 O 109 (.call 62 [(.t 107), (.t 108)])])
 (.reg [O 110 (.mv (.t 0)),
 O 111 (.fadr 3 (.t 3)),
 O 112 (.ld none (.t 111)),
 O 113 (.call 65 [(.t 110), (.t 112)])]))
 (.seq (.reg [O 115 (.bin .eql (.t 5) (.c (.d (.int .i64 47)))),
 O 114 (.mv (.t 115))])
 (.cond (.t 114)
 (.seq (.reg [O 116 (.mv (.t 0)),
 O 117 (.fadr 3 (.t 3)),
 O 118 (.ld none (.t 117)),
 O 119 (.iadr 1 (.t 118) (.c (.d (.int .i64 0)))),
 O 120 (.ld none (.t 119)),
 O 121 (.call 21 [(.t 116), (.t 120)])])
 (.seq (.reg [O 122 (.mv (.t 0)),
 O 123 (.bslice 1 1 [(.c (.d (.str [61, 62])))]),
 O 124 (.call 62 [(.t 122), (.t 123)])])
 (.reg [O 125 (.mv (.t 0)),
 O 126 (.fadr 3 (.t 3)),
 O 127 (.ld none (.t 126)),
 O 128 (.iadr 1 (.t 127) (.c (.d (.int .i64 1)))),
 O 129 (.ld none (.t 128)),
 O 130 (.call 21 [(.t 125), (.t 129)])])))
 .skip)))))))))))))))))))))))))
def F41 : VFn := ⟨2, 131, B41, [], false⟩

def A41 : Ann := ⟨keepOf [], ghostOf []⟩
-- 45 patina/patinaref13.node
def K45_0 : List Nat := [1, 2, 5, 42, 43, 44]
def L45_0 : VCode :=
 (.seq (.reg [O 45 (.bin .lss (.t 44) (.t 43))])
 (.seq (.cond (.t 45)
 .skip
 (.exit 0))
 (.seq (.block 1 (.seq (.reg [O 46 (.iadr 1 (.t 42) (.t 44)),
 O 47 (.ld none (.t 46)),
 O 7 (.mv (.t 47))])
 (.seq (.reg [O 48 (.mv (.t 7)),
 O 49 (.bin .lss (.t 48) (.c (.d (.int .i64 0)))),
 O 50 (.mv (.t 49)),
 G 51 (.mv (.t 7)) 50 false,
 G 52 (.mv (.t 1)) 50 false,
 G 53 (.bin .geq (.t 51) (.t 52)) 50 false,
 O 54 (.pick (.t 50) (.c (.d (.bool true))) (.t 53))])
 (.cond (.t 54)
 (.seq (.reg [O 4 (.mv (.c (.d (.bool false))))])
 .ret)
 .skip))))
 (.reg [O 55 (.bin .add (.t 44) (.c (.d (.int .i64 1)))),
 O 44 (.mv (.t 55))]))))
def K45_1 : List Nat := [2, 5, 57, 58, 59]
def L45_1 : VCode :=
 (.seq (.reg [O 60 (.bin .lss (.t 59) (.t 58))])
 (.seq (.cond (.t 60)
 .skip
 (.exit 2))
 (.seq (.block 3 (.seq (.reg [O 61 (.iadr 1 (.t 57) (.t 59)),
 O 62 (.ld none (.t 61)),
 O 9 (.mv (.t 62))])
 (.seq (.reg [O 63 (.ld (some 1) (.t 2)),
 O 64 (.ld (some 6) (.t 5)),
 O 65 (.mv (.t 9)),
 O 66 (.call 78 [(.t 63), (.t 64), (.t 65)])])
 (.cond (.t 66)
 (.seq (.reg [O 4 (.mv (.c (.d (.bool true))))])
 .ret)
 .skip))))
 (.reg [O 67 (.bin .add (.t 59) (.c (.d (.int .i64 1)))),
 O 59 (.mv (.t 67))]))))
def B45 : VCode :=
 (.seq (.reg [O 2 (.box (.t 0)),
 O 4 (.mv (.c (.d (.bool false))))])
 (.seq (.reg [O 10 (.fadr 0 (.t 2)),
 O 11 (.ld none (.t 10)),
 O 12 (.mv (.t 1)),
 O 13 (.iadr 6 (.t 11) (.t 12)),
 O 14 (.ld (some 6) (.t 13)),
 O 5 (.zbox [(.d (.int .i64 0)), (.d (.str [])), (.d (.int .i64 0)), .nils, (.d (.int .i64 0)), (.d (.int .i64 0))]),
 P (.st 6 (.t 5) (.t 14))])
 (.seq (.seq (.reg [O 15 (.fadr 0 (.t 5)),
 O 16 (.ld none (.t 15)),
 O 17 (.call 74 [(.t 16)]),
 O 18 (.un .not (.t 17)),
 O 19 (.mv (.t 18)),
 G 20 (.ld (some 6) (.t 5)) 19 false,
 G 21 (.call 75 [(.t 20)]) 19 false,
 G 22 (.un .not (.t 21)) 19 false,
 O 23 (.pick (.t 19) (.c (.d (.bool true))) (.t 22)),
 O 24 (.mv (.t 23)),
 G 25 (.ld (some 6) (.t 5)) 24 false,
 G 26 (.call 76 [(.t 25)]) 24 false,
 G 27 (.un .not (.t 26)) 24 false,
 O 28 (.pick (.t 24) (.c (.d (.bool true))) (.t 27)),
 O 29 (.mv (.t 28)),
 G 30 (.fadr 4 (.t 5)) 29 false,
 G 31 (.ld none (.t 30)) 29 false,
 G 32 (.bin .lss (.t 31) (.c (.d (.int .i64 0)))) 29 false,
 O 33 (.pick (.t 29) (.c (.d (.bool true))) (.t 32)),
 O 34 (.mv (.t 33)),
 G 35 (.fadr 5 (.t 5)) 34 false,
 G 36 (.ld none (.t 35)) 34 false,
 G 37 (.fadr 4 (.t 5)) 34 false,
 G 38 (.ld none (.t 37)) 34 false,
 G 39 (.bin .lss (.t 36) (.t 38)) 34 false,
 O 40 (.pick (.t 34) (.c (.d (.bool true))) (.t 39))])
 (.cond (.t 40)
 (.seq (.reg [O 4 (.mv (.c (.d (.bool false))))])
 .ret)
 .skip))
 (.seq (.seq (.reg [O 41 (.fadr 3 (.t 5)),
 O 42 (.ld none (.t 41)),
 O 43 (.len false (.t 42)),
 O 44 (.mv (.c (.d (.int .i64 0))))])
 (.block 0 (.loop K45_0 L45_0)))
 (.seq (.seq (.reg [O 56 (.ld (some 6) (.t 5)),
 O 57 (.call 77 [(.t 56)]),
 O 58 (.len false (.t 57)),
 O 59 (.mv (.c (.d (.int .i64 0))))])
 (.block 2 (.loop K45_1 L45_1)))
 (.seq (.reg [O 4 (.mv (.c (.d (.bool false))))])
 .ret))))))
def F45 : VFn := ⟨2, 68, B45, [.tmp 4], false⟩

def A45 : Ann := ⟨keepOf [(5, [1, 2, 5, 42, 43, 44]), (11, [2, 5, 57, 58, 59])], ghostOf []⟩
-- 48 patina/patinaref13.IsStmt
def B48 : VCode :=
 (.seq (.reg [O 2 (.mv (.c (.d (.bool false))))])
 (.seq (.reg [O 3 (.mv (.t 0)),
 O 4 (.bin .geq (.t 3) (.c (.d (.int .i64 21)))),
 O 5 (.mv (.t 4)),
 G 6 (.mv (.t 0)) 5 true,
 G 7 (.bin .leq (.t 6) (.c (.d (.int .i64 27)))) 5 true,
 O 8 (.pick (.t 5) (.t 7) (.c (.d (.bool false)))),
 O 2 (.mv (.t 8))])
 .ret))
def F48 : VFn := ⟨1, 9, B48, [.tmp 2], false⟩

def A48 : Ann := ⟨keepOf [], ghostOf []⟩
-- 57 patina/tree.known
def B57 : VCode :=
 (.seq (.reg [O 2 (.mv (.c (.d (.bool false))))])
 (.seq (.reg [O 3 (.mv (.t 0)),
 O 4 (.bin .geq (.t 3) (.c (.d (.int .i64 1)))),
 O 5 (.mv (.t 4)),
 G 6 (.mv (.t 0)) 5 true,
 G 7 (.bin .leq (.t 6) (.c (.d (.int .i64 7)))) 5 true,
 O 8 (.pick (.t 5) (.t 7) (.c (.d (.bool false)))),
 O 9 (.mv (.t 8)),
 G 10 (.mv (.t 0)) 9 false,
 G 11 (.call 31 [(.t 10)]) 9 false,
 O 12 (.pick (.t 9) (.c (.d (.bool true))) (.t 11)),
 O 13 (.mv (.t 12)),
 G 14 (.mv (.t 0)) 13 false,
 G 15 (.call 38 [(.t 14)]) 13 false,
 O 16 (.pick (.t 13) (.c (.d (.bool true))) (.t 15)),
 O 17 (.mv (.t 16)),
 G 18 (.mv (.t 0)) 17 false,
 G 19 (.call 81 [(.t 18)]) 17 false,
 O 20 (.pick (.t 17) (.c (.d (.bool true))) (.t 19)),
 O 21 (.mv (.t 20)),
 G 22 (.mv (.t 0)) 21 false,
 G 23 (.call 82 [(.t 22)]) 21 false,
 O 24 (.pick (.t 21) (.c (.d (.bool true))) (.t 23)),
 O 25 (.mv (.t 24)),
 G 26 (.mv (.t 0)) 25 false,
 G 27 (.bin .eql (.t 26) (.c (.d (.int .i64 36)))) 25 false,
 O 28 (.pick (.t 25) (.c (.d (.bool true))) (.t 27)),
 O 29 (.mv (.t 28)),
 G 30 (.mv (.t 0)) 29 false,
 G 31 (.bin .eql (.t 30) (.c (.d (.int .i64 47)))) 29 false,
 O 32 (.pick (.t 29) (.c (.d (.bool true))) (.t 31)),
 O 2 (.mv (.t 32))])
 .ret))
def F57 : VFn := ⟨1, 33, B57, [.tmp 2], false⟩

def A57 : Ann := ⟨keepOf [], ghostOf []⟩
-- 58 patina/tree.name
def B58 : VCode :=
 (.seq (.reg [O 1 (.box (.t 0)),
 O 2 (.mv (.c (.d (.bool false))))])
 (.seq (.seq (.reg [O 6 (.fadr 0 (.t 1)),
 O 7 (.ld none (.t 6))])
 (.block 0 (.seq (.seq (.reg [O 9 (.bin .eql (.t 7) (.c (.d (.int .i64 2)))),
 O 8 (.mv (.t 9))])
 (.cond (.t 8)
 .skip
 (.seq (.reg [O 10 (.bin .eql (.t 7) (.c (.d (.int .i64 3)))),
 O 8 (.mv (.t 10))])
 (.cond (.t 8)
 .skip
 (.seq (.reg [O 11 (.bin .eql (.t 7) (.c (.d (.int .i64 4)))),
 O 8 (.mv (.t 11))])
 (.cond (.t 8)
 .skip
 (.seq (.reg [O 12 (.bin .eql (.t 7) (.c (.d (.int .i64 5)))),
 O 8 (.mv (.t 12))])
 (.cond (.t 8)
 .skip
 (.seq (.reg [O 13 (.bin .eql (.t 7) (.c (.d (.int .i64 6)))),
 O 8 (.mv (.t 13))])
 (.cond (.t 8)
 .skip
 (.seq (.reg [O 14 (.bin .eql (.t 7) (.c (.d (.int .i64 7)))),
 O 8 (.mv (.t 14))])
 (.cond (.t 8)
 .skip
 (.seq (.reg [O 15 (.bin .eql (.t 7) (.c (.d (.int .i64 13)))),
 O 8 (.mv (.t 15))])
 (.cond (.t 8)
 .skip
 (.seq (.reg [O 16 (.bin .eql (.t 7) (.c (.d (.int .i64 21)))),
 O 8 (.mv (.t 16))])
 (.cond (.t 8)
 .skip
 (.seq (.reg [O 17 (.bin .eql (.t 7) (.c (.d (.int .i64 33)))),
 O 8 (.mv (.t 17))])
 (.cond (.t 8)
 .skip
 (.seq (.reg [O 18 (.bin .eql (.t 7) (.c (.d (.int .i64 34)))),
 O 8 (.mv (.t 18))])
 (.cond (.t 8)
 .skip
 (.seq (.reg [O 19 (.bin .eql (.t 7) (.c (.d (.int .i64 35)))),
 O 8 (.mv (.t 19))])
 (.cond (.t 8)
 .skip
 (.seq (.reg [O 20 (.bin .eql (.t 7) (.c (.d (.int .i64 36)))),
 O 8 (.mv (.t 20))])
 (.cond (.t 8)
 .skip
 (.seq (.reg [O 21 (.bin .eql (.t 7) (.c (.d (.int .i64 41)))),
 O 8 (.mv (.t 21))])
 (.cond (.t 8)
 .skip
 (.reg [O 22 (.bin .eql (.t 7) (.c (.d (.int .i64 51)))),
 O 8 (.mv (.t 22))])))))))))))))))))))))))))))
 (.cond (.t 8)
 (.seq (.reg [O 23 (.fadr 1 (.t 1)),
 O 24 (.ld none (.t 23)),
 O 25 (.call 83 [(.t 24)]),
 O 2 (.mv (.t 25))])
 .ret)
 (.seq (.seq (.reg [O 27 (.bin .eql (.t 7) (.c (.d (.int .i64 37)))),
 O 26 (.mv (.t 27))])
 (.cond (.t 26)
 .skip
 (.reg [O 28 (.bin .eql (.t 7) (.c (.d (.int .i64 54)))),
 O 26 (.mv (.t 28))])))
 (.cond (.t 26)
 (.seq (.reg [O 30 (.fadr 1 (.t 1)),
 O 31 (.ld none (.t 30)),
 O 32 (.call 84 [(.t 31), (.c (.d (.str [58, 58])))]),
 O 29 (.mv (.t 32)),
 O 33 (.ext (.t 29) 0),
 O 34 (.ext (.t 29) 1),
 O 35 (.ext (.t 29) 2),
 O 3 (.mv (.t 33)),
 O 4 (.mv (.t 34)),
 O 5 (.mv (.t 35))])
 (.seq (.reg [O 36 (.mv (.t 5)),
 O 37 (.mv (.t 36)),
 G 38 (.mv (.t 3)) 37 true,
 G 39 (.call 83 [(.t 38)]) 37 true,
 O 40 (.pick (.t 37) (.t 39) (.c (.d (.bool false)))),
 O 41 (.mv (.t 40)),
 G 42 (.mv (.t 4)) 41 true,
 G 43 (.call 83 [(.t 42)]) 41 true,
 O 44 (.pick (.t 41) (.t 43) (.c (.d (.bool false)))),
 O 2 (.mv (.t 44))])
 .ret))
 (.seq (.reg [O 46 (.bin .eql (.t 7) (.c (.d (.int .i64 38)))),
 O 45 (.mv (.t 46))])
 (.cond (.t 45)
 (.seq (.reg [O 47 (.fadr 1 (.t 1)),
 O 48 (.ld none (.t 47)),
 O 49 (.call 85 [(.t 48)]),
 O 2 (.mv (.t 49))])
 .ret)
 .skip))))))))
 (.seq (.reg [O 50 (.fadr 1 (.t 1)),
 O 51 (.ld none (.t 50)),
 O 52 (.bin .eql (.t 51) (.c (.d (.str [])))),
 O 2 (.mv (.t 52))])
 .ret)))
def F58 : VFn := ⟨1, 53, B58, [.tmp 2], false⟩

def A58 : Ann := ⟨keepOf [], ghostOf []⟩
-- 59 patina/tree.num
def B59 : VCode :=
 (.seq (.reg [O 2 (.box (.t 0)),
 O 4 (.mv (.c (.d (.bool false))))])
 (.seq (.seq (.reg [O 5 (.fadr 0 (.t 2)),
 O 6 (.ld none (.t 5))])
 (.block 0 (.seq (.reg [O 8 (.bin .eql (.t 6) (.c (.d (.int .i64 2)))),
 O 7 (.mv (.t 8))])
 (.cond (.t 7)
 (.seq (.reg [O 9 (.fadr 2 (.t 2)),
 O 10 (.ld none (.t 9)),
 O 11 (.mv (.t 1)),
 O 12 (.bin .eql (.t 10) (.t 11)),
 O 4 (.mv (.t 12))])
 .ret)
 (.seq (.seq (.reg [O 14 (.bin .eql (.t 6) (.c (.d (.int .i64 7)))),
 O 13 (.mv (.t 14))])
 (.cond (.t 13)
 .skip
 (.seq (.reg [O 15 (.bin .eql (.t 6) (.c (.d (.int .i64 20)))),
 O 13 (.mv (.t 15))])
 (.cond (.t 13)
 .skip
 (.seq (.reg [O 16 (.bin .eql (.t 6) (.c (.d (.int .i64 21)))),
 O 13 (.mv (.t 16))])
 (.cond (.t 13)
 .skip
 (.seq (.reg [O 17 (.bin .eql (.t 6) (.c (.d (.int .i64 31)))),
 O 13 (.mv (.t 17))])
 (.cond (.t 13)
 .skip
 (.seq (.reg [O 18 (.bin .eql (.t 6) (.c (.d (.int .i64 53)))),
 O 13 (.mv (.t 18))])
 (.cond (.t 13)
 .skip
 (.reg [O 19 (.bin .eql (.t 6) (.c (.d (.int .i64 43)))),
 O 13 (.mv (.t 19))])))))))))))
 (.cond (.t 13)
 (.seq (.reg [O 20 (.fadr 2 (.t 2)),
 O 21 (.ld none (.t 20)),
 O 22 (.bin .eql (.t 21) (.c (.d (.int .i64 0)))),
 O 23 (.mv (.t 22)),
 G 24 (.fadr 2 (.t 2)) 23 false,
 G 25 (.ld none (.t 24)) 23 false,
 G 26 (.bin .eql (.t 25) (.c (.d (.int .i64 1)))) 23 false,
 O 27 (.pick (.t 23) (.c (.d (.bool true))) (.t 26)),
 O 4 (.mv (.t 27))])
 .ret)
 (.seq (.reg [O 29 (.bin .eql (.t 6) (.c (.d (.int .i64 30)))),
 O 28 (.mv (.t 29))])
 (.cond (.t 28)
 (.seq (.reg [O 30 (.fadr 2 (.t 2)),
 O 31 (.ld none (.t 30)),
 O 32 (.bin .geq (.t 31) (.c (.d (.int .i64 0)))),
 O 4 (.mv (.t 32))])
 .ret)
 (.seq (.reg [O 34 (.bin .eql (.t 6) (.c (.d (.int .i64 52)))),
 O 33 (.mv (.t 34))])
 (.cond (.t 33)
 (.seq (.reg [O 35 (.fadr 2 (.t 2)),
 O 36 (.ld none (.t 35)),
 O 37 (.bin .gtr (.t 36) (.c (.d (.int .i64 (-9223372036854775808))))),
 O 4 (.mv (.t 37))])
 .ret)
 .skip))))))))))
 (.seq (.reg [O 38 (.fadr 2 (.t 2)),
 O 39 (.ld none (.t 38)),
 O 40 (.bin .eql (.t 39) (.c (.d (.int .i64 0)))),
 O 4 (.mv (.t 40))])
 .ret)))
def F59 : VFn := ⟨2, 41, B59, [.tmp 4], false⟩

def A59 : Ann := ⟨keepOf [], ghostOf []⟩
-- 60 patina/tree.fits
def B60 : VCode :=
 (.seq (.reg [O 2 (.box (.t 0)),
 O 4 (.mv (.c (.d (.bool false))))])
 (.seq (.reg [O 9 (.ld (some 6) (.t 2)),
 O 10 (.call 86 [(.t 9)]),
 O 5 (.mv (.t 10))])
 (.seq (.reg [O 11 (.mv (.t 5)),
 O 12 (.call 87 [(.t 11), (.c (.d (.int .u8 42)))]),
 O 6 (.mv (.t 12))])
 (.seq (.seq (.reg [O 13 (.mv (.t 6)),
 O 14 (.bin .lss (.t 13) (.c (.d (.int .i64 0))))])
 (.cond (.t 14)
 (.seq (.reg [O 15 (.mv (.t 5)),
 O 16 (.mv (.t 1)),
 O 17 (.call 88 [(.t 15), (.t 16)]),
 O 4 (.mv (.t 17))])
 .ret)
 .skip))
 (.seq (.reg [O 18 (.mv (.t 5)),
 O 19 (.len true (.t 18)),
 O 20 (.mv (.t 6)),
 O 21 (.bin .sub (.t 19) (.t 20)),
 O 22 (.bin .sub (.t 21) (.c (.d (.int .i64 2)))),
 O 7 (.mv (.t 22))])
 (.seq (.seq (.reg [O 23 (.mv (.t 1)),
 O 24 (.len false (.t 23)),
 O 25 (.mv (.t 6)),
 O 26 (.mv (.t 7)),
 O 27 (.bin .add (.t 25) (.t 26)),
 O 28 (.bin .lss (.t 24) (.t 27))])
 (.cond (.t 28)
 (.seq (.reg [O 4 (.mv (.c (.d (.bool false))))])
 .ret)
 .skip))
 (.seq (.reg [O 29 (.mv (.t 1)),
 O 30 (.len false (.t 29)),
 O 31 (.mv (.t 7)),
 O 32 (.bin .sub (.t 30) (.t 31)),
 O 8 (.mv (.t 32))])
 (.seq (.draw 26 [O 33 (.mv (.t 5)),
 O 34 (.mv (.t 6)),
 O 35 (.slcs (.t 33) none (some (.t 34))),
 O 36 (.mv (.t 1)),
 O 37 (.mv (.t 6)),
 O 38 (.slc 1 (.t 36) none (some (.t 37))),
 O 39 (.call 88 [(.t 35), (.t 38)]),
 O 40 (.mv (.t 39)),
 G 41 (.mv (.t 5)) 40 true,
 G 42 (.mv (.t 6)) 40 true,
 G 43 (.bin .add (.t 42) (.c (.d (.int .i64 1)))) 40 true,
 G 44 (.idx (.t 41) (.t 43)) 40 true,
 G 45 (.mv (.t 1)) 40 true,
 G 46 (.mv (.t 6)) 40 true,
 G 47 (.mv (.t 8)) 40 true,
 G 48 (.slc 1 (.t 45) (some (.t 46)) (some (.t 47))) 40 true,
 G 49 (.call 89 [(.t 44), (.t 48)]) 40 true,
 O 50 (.pick (.t 40) (.t 49) (.c (.d (.bool false)))),
 O 51 (.mv (.t 50)),
 G 52 (.mv (.t 5)) 51 true,
 G 53 (.mv (.t 6)) 51 true,
 G 54 (.bin .add (.t 53) (.c (.d (.int .i64 2)))) 51 true,
 G 55 (.slcs (.t 52) (some (.t 54)) none) 51 true,
 G 56 (.mv (.t 1)) 51 true,
 G 57 (.mv (.t 8)) 51 true,
 G 58 (.slc 1 (.t 56) (some (.t 57)) none) 51 true,
 G 59 (.call 88 [(.t 55), (.t 58)]) 51 true,
 O 60 (.pick (.t 51) (.t 59) (.c (.d (.bool false)))),
 O 4 (.mv (.t 60))])
 .ret))))))))
def F60 : VFn := ⟨2, 61, B60, [.tmp 4], false⟩

def A60 : Ann := ⟨keepOf [], ghostOf []⟩
-- 61 slices.Contains[[]int,int]
def B61 : VCode :=
 (.seq (.reg [O 4 (.mv (.c (.d (.bool false))))])
 (.seq (.reg [O 5 (.mv (.t 0)),
 O 6 (.mv (.t 1)),
 O 7 (.call 90 [(.t 5), (.t 6)]),
 O 8 (.bin .geq (.t 7) (.c (.d (.int .i64 0)))),
 O 4 (.mv (.t 8))])
 .ret))
def F61 : VFn := ⟨2, 9, B61, [.tmp 4], false⟩

def A61 : Ann := ⟨keepOf [], ghostOf []⟩
-- 62 (*patina/tree.printer).put
def B62 : VCode :=
 (.reg [O 4 (.mv (.t 0)),
 O 5 (.mv (.t 0)),
 O 6 (.nilck (.t 5)),
 O 7 (.fadr 1 (.t 6)),
 O 8 (.ld none (.t 7)),
 O 9 (.mv (.t 1)),
 O 10 (.app 1 16 (.t 8) (.t 9)),
 O 11 (.nilck (.t 4)),
 O 12 (.fadr 1 (.t 11)),
 P (.st 1 (.t 12) (.t 10))])
def F62 : VFn := ⟨2, 13, B62, [], false⟩

def A62 : Ann := ⟨keepOf [], ghostOf []⟩
-- 63 (*patina/tree.printer).function
def B63 : VCode :=
 (.seq (.reg [O 3 (.box (.t 1))])
 (.seq (.reg [O 5 (.fadr 2 (.t 3)),
 O 6 (.ld none (.t 5)),
 O 4 (.mv (.t 6))])
 (.seq (.reg [O 7 (.mv (.t 0)),
 O 8 (.fadr 1 (.t 3)),
 O 9 (.ld none (.t 8)),
 O 10 (.bslice 1 3 [(.c (.d (.str [102, 110]))), (.t 9), (.c (.d (.str [40])))]),
 O 11 (.call 62 [(.t 7), (.t 10)])])
 (.seq (.reg [O 12 (.mv (.t 0)),
 O 13 (.fadr 3 (.t 3)),
 O 14 (.ld none (.t 13)),
 O 15 (.mv (.t 4)),
 O 16 (.slc 1 (.t 14) none (some (.t 15))),
 O 17 (.call 64 [(.t 12), (.t 16)])])
 (.seq (.reg [O 18 (.mv (.t 0)),
 O 19 (.bslice 1 1 [(.c (.d (.str [41])))]),
 O 20 (.call 62 [(.t 18), (.t 19)])])
 (.seq (.seq (.draw 10 [O 21 (.mv (.t 0)),
 O 22 (.nilck (.t 21)),
 O 23 (.fadr 0 (.t 22)),
 O 24 (.fadr 0 (.t 23)),
 O 25 (.ld none (.t 24)),
 O 26 (.fadr 3 (.t 3)),
 O 27 (.ld none (.t 26)),
 O 28 (.mv (.t 4)),
 O 29 (.iadr 1 (.t 27) (.t 28)),
 O 30 (.ld none (.t 29)),
 O 31 (.iadr 6 (.t 25) (.t 30)),
 O 32 (.fadr 0 (.t 31)),
 O 33 (.ld none (.t 32)),
 O 34 (.bin .neq (.t 33) (.c (.d (.int .i64 12))))])
 (.cond (.t 34)
 (.seq (.reg [O 35 (.mv (.t 0)),
 O 36 (.bslice 1 1 [(.c (.d (.str [45, 62])))]),
 O 37 (.call 62 [(.t 35), (.t 36)])])
 (.reg [O 38 (.mv (.t 0)),
 O 39 (.fadr 3 (.t 3)),
 O 40 (.ld none (.t 39)),
 O 41 (.mv (.t 4)),
 O 42 (.iadr 1 (.t 40) (.t 41)),
 O 43 (.ld none (.t 42)),
 O 44 (.call 21 [(.t 38), (.t 43)])]))
 .skip))
 (.reg [O 45 (.mv (.t 0)),
 O 46 (.fadr 3 (.t 3)),
 O 47 (.ld none (.t 46)),
 O 48 (.mv (.t 4)),
 O 49 (.bin .add (.t 48) (.c (.d (.int .i64 1)))),
 O 50 (.iadr 1 (.t 47) (.t 49)),
 O 51 (.ld none (.t 50)),
 O 52 (.call 21 [(.t 45), (.t 51)])])))))))
def F63 : VFn := ⟨2, 53, B63, [], false⟩

def A63 : Ann := ⟨keepOf [], ghostOf []⟩
-- 64 (*patina/tree.printer).list
def K64_0 : List Nat := [0, 6, 7, 8]
def L64_0 : VCode :=
 (.seq (.reg [O 9 (.bin .lss (.t 8) (.t 7))])
 (.seq (.cond (.t 9)
 .skip
 (.exit 0))
 (.seq (.block 1 (.seq (.reg [O 10 (.mv (.t 8)),
 O 11 (.iadr 1 (.t 6) (.t 8)),
 O 12 (.ld none (.t 11)),
 O 4 (.mv (.t 10)),
 O 5 (.mv (.t 12))])
 (.seq (.seq (.reg [O 13 (.mv (.t 4)),
 O 14 (.bin .gtr (.t 13) (.c (.d (.int .i64 0))))])
 (.cond (.t 14)
 (.reg [O 15 (.mv (.t 0)),
 O 16 (.bslice 1 1 [(.c (.d (.str [44])))]),
 O 17 (.call 62 [(.t 15), (.t 16)])])
 .skip))
 (.reg [O 18 (.mv (.t 0)),
 O 19 (.mv (.t 5)),
 O 20 (.call 21 [(.t 18), (.t 19)])]))))
 (.reg [O 21 (.bin .add (.t 8) (.c (.d (.int .i64 1)))),
 O 8 (.mv (.t 21))]))))
def B64 : VCode :=
 (.seq (.reg [O 6 (.mv (.t 1)),
 O 7 (.len false (.t 6)),
 O 8 (.mv (.c (.d (.int .i64 0))))])
 (.block 0 (.loop K64_0 L64_0)))
def F64 : VFn := ⟨2, 22, B64, [], false⟩

def A64 : Ann := ⟨keepOf [(1, [0, 6, 7, 8])], ghostOf []⟩
-- 65 (*patina/tree.printer).perhaps
def B65 : VCode :=
 (.seq (.reg [O 4 (.mv (.t 1)),
 O 5 (.len false (.t 4)),
 O 6 (.bin .gtr (.t 5) (.c (.d (.int .i64 0))))])
 (.cond (.t 6)
 (.seq (.reg [O 7 (.mv (.t 0)),
 O 8 (.bslice 1 1 [(.c (.d (.str [40])))]),
 O 9 (.call 62 [(.t 7), (.t 8)])])
 (.seq (.reg [O 10 (.mv (.t 0)),
 O 11 (.mv (.t 1)),
 O 12 (.iadr 1 (.t 11) (.c (.d (.int .i64 0)))),
 O 13 (.ld none (.t 12)),
 O 14 (.call 21 [(.t 10), (.t 13)])])
 (.reg [O 15 (.mv (.t 0)),
 O 16 (.bslice 1 1 [(.c (.d (.str [41])))]),
 O 17 (.call 62 [(.t 15), (.t 16)])])))
 .skip))
def F65 : VFn := ⟨2, 18, B65, [], false⟩

def A65 : Ann := ⟨keepOf [], ghostOf []⟩
-- 66 (*patina/tree.printer).let
def B66 : VCode :=
 (.seq (.reg [O 3 (.box (.t 1))])
 (.seq (.reg [O 4 (.mv (.t 0)),
 O 5 (.bslice 1 1 [(.c (.d (.str [108, 101, 116])))]),
 O 6 (.call 62 [(.t 4), (.t 5)])])
 (.seq (.seq (.reg [O 7 (.fadr 2 (.t 3)),
 O 8 (.ld none (.t 7)),
 O 9 (.bin .eql (.t 8) (.c (.d (.int .i64 1))))])
 (.cond (.t 9)
 (.reg [O 10 (.mv (.t 0)),
 O 11 (.bslice 1 1 [(.c (.d (.str [109, 117, 116])))]),
 O 12 (.call 62 [(.t 10), (.t 11)])])
 .skip))
 (.seq (.reg [O 13 (.mv (.t 0)),
 O 14 (.fadr 1 (.t 3)),
 O 15 (.ld none (.t 14)),
 O 16 (.bslice 1 1 [(.t 15)]),
 O 17 (.call 62 [(.t 13), (.t 16)])])
 (.seq (.seq (.reg [O 18 (.fadr 3 (.t 3)),
 O 19 (.ld none (.t 18)),
 O 20 (.len false (.t 19)),
 O 21 (.bin .eql (.t 20) (.c (.d (.int .i64 2))))])
 (.cond (.t 21)
 (.seq (.reg [O 22 (.mv (.t 0)),
 O 23 (.bslice 1 1 [(.c (.d (.str [58])))]),
 O 24 (.call 62 [(.t 22), (.t 23)])])
 (.reg [O 25 (.mv (.t 0)),
 O 26 (.fadr 3 (.t 3)),
 O 27 (.ld none (.t 26)),
 O 28 (.iadr 1 (.t 27) (.c (.d (.int .i64 0)))),
 O 29 (.ld none (.t 28)),
 O 30 (.call 21 [(.t 25), (.t 29)])]))
 .skip))
 (.seq (.reg [O 31 (.mv (.t 0)),
 O 32 (.bslice 1 1 [(.c (.d (.str [61])))]),
 O 33 (.call 62 [(.t 31), (.t 32)])])
 (.seq (.reg [O 34 (.mv (.t 0)),
 O 35 (.fadr 3 (.t 3)),
 O 36 (.ld none (.t 35)),
 O 37 (.fadr 3 (.t 3)),
 O 38 (.ld none (.t 37)),
 O 39 (.len false (.t 38)),
 O 40 (.bin .sub (.t 39) (.c (.d (.int .i64 1)))),
 O 41 (.iadr 1 (.t 36) (.t 40)),
 O 42 (.ld none (.t 41)),
 O 43 (.call 21 [(.t 34), (.t 42)])])
 (.reg [O 44 (.mv (.t 0)),
 O 45 (.bslice 1 1 [(.c (.d (.str [59])))]),
 O 46 (.call 62 [(.t 44), (.t 45)])]))))))))
def F66 : VFn := ⟨2, 47, B66, [], false⟩

def A66 : Ann := ⟨keepOf [], ghostOf []⟩
-- 67 (*patina/tree.printer).operand
def B67 : VCode :=
 (.seq (.reg [O 7 (.mv (.t 0)),
 O 8 (.nilck (.t 7)),
 O 9 (.fadr 0 (.t 8)),
 O 10 (.fadr 0 (.t 9)),
 O 11 (.ld none (.t 10)),
 O 12 (.mv (.t 1)),
 O 13 (.iadr 6 (.t 11) (.t 12)),
 O 14 (.fadr 0 (.t 13)),
 O 15 (.ld none (.t 14)),
 O 6 (.mv (.t 15))])
 (.block 0 (.seq (.seq (.reg [O 26 (.mv (.t 6)),
 O 27 (.bin .geq (.t 26) (.c (.d (.int .i64 30)))),
 O 28 (.mv (.t 27)),
 G 29 (.mv (.t 6)) 28 true,
 G 30 (.bin .leq (.t 29) (.c (.d (.int .i64 34)))) 28 true,
 O 31 (.pick (.t 28) (.t 30) (.c (.d (.bool false)))),
 O 25 (.mv (.t 31))])
 (.cond (.t 25)
 .skip
 (.seq (.reg [O 32 (.mv (.t 6)),
 O 33 (.bin .eql (.t 32) (.c (.d (.int .i64 37)))),
 O 25 (.mv (.t 33))])
 (.cond (.t 25)
 .skip
 (.seq (.reg [O 34 (.mv (.t 6)),
 O 35 (.bin .eql (.t 34) (.c (.d (.int .i64 44)))),
 O 25 (.mv (.t 35))])
 (.cond (.t 25)
 .skip
 (.reg [O 36 (.mv (.t 2)),
 O 37 (.mv (.t 36)),
 G 38 (.mv (.t 6)) 37 true,
 G 39 (.bin .eql (.t 38) (.c (.d (.int .i64 41)))) 37 true,
 O 40 (.pick (.t 37) (.t 39) (.c (.d (.bool false)))),
 O 25 (.mv (.t 40))])))))))
 (.cond (.t 25)
 (.reg [O 41 (.mv (.t 0)),
 O 42 (.mv (.t 1)),
 O 43 (.call 21 [(.t 41), (.t 42)])])
 (.seq (.reg [O 16 (.mv (.t 0)),
 O 17 (.bslice 1 1 [(.c (.d (.str [40])))]),
 O 18 (.call 62 [(.t 16), (.t 17)])])
 (.seq (.reg [O 19 (.mv (.t 0)),
 O 20 (.mv (.t 1)),
 O 21 (.call 21 [(.t 19), (.t 20)])])
 (.reg [O 22 (.mv (.t 0)),
 O 23 (.bslice 1 1 [(.c (.d (.str [41])))]),
 O 24 (.call 62 [(.t 22), (.t 23)])])))))))
def F67 : VFn := ⟨3, 44, B67, [], false⟩

def A67 : Ann := ⟨keepOf [], ghostOf []⟩
-- 68 (*patina/tree.printer).ahead
def B68 : VCode :=
 (.seq (.reg [O 4 (.box (.t 1))])
 (.seq (.reg [O 6 (.mv (.t 0)),
 O 7 (.mv (.t 2)),
 O 8 (.call 62 [(.t 6), (.t 7)])])
 (.reg [O 9 (.mv (.t 0)),
 O 10 (.fadr 3 (.t 4)),
 O 11 (.ld none (.t 10)),
 O 12 (.iadr 1 (.t 11) (.c (.d (.int .i64 0)))),
 O 13 (.ld none (.t 12)),
 O 14 (.call 67 [(.t 9), (.t 13), (.c (.d (.bool false)))])])))
def F68 : VFn := ⟨3, 15, B68, [], false⟩

def A68 : Ann := ⟨keepOf [], ghostOf []⟩
-- 70 strconv.FormatBool
def B70 : VCode :=
 (.seq (.reg [O 2 (.mv (.c (.d (.str []))))])
 (.seq (.reg [O 3 (.mv (.t 0)),
 O 4 (.call 92 [(.t 3)]),
 O 2 (.mv (.t 4))])
 .ret))
def F70 : VFn := ⟨1, 5, B70, [.tmp 2], false⟩

def A70 : Ann := ⟨keepOf [], ghostOf []⟩
-- 71 (*patina/tree.printer).named
def B71 : VCode :=
 (.seq (.reg [O 8 (.mv (.t 1)),
 O 9 (.call 84 [(.t 8), (.c (.d (.str [58, 58])))]),
 O 7 (.mv (.t 9)),
 O 10 (.ext (.t 7) 0),
 O 11 (.ext (.t 7) 1),
 O 12 (.ext (.t 7) 2),
 O 4 (.mv (.t 10)),
 O 5 (.mv (.t 11)),
 O 6 (.mv (.t 12))])
 (.reg [O 13 (.mv (.t 0)),
 O 14 (.mv (.t 4)),
 O 15 (.mv (.t 5)),
 O 16 (.bslice 1 3 [(.t 14), (.c (.d (.str [58, 58]))), (.t 15)]),
 O 17 (.call 62 [(.t 13), (.t 16)])]))
def F71 : VFn := ⟨2, 18, B71, [], false⟩

def A71 : Ann := ⟨keepOf [], ghostOf []⟩
-- 74 patina/patinaref13.known
def B74 : VCode :=
 (.seq (.reg [O 2 (.mv (.c (.d (.bool false))))])
 (.seq (.reg [O 3 (.mv (.t 0)),
 O 4 (.bin .geq (.t 3) (.c (.d (.int .i64 1)))),
 O 5 (.mv (.t 4)),
 G 6 (.mv (.t 0)) 5 true,
 G 7 (.bin .leq (.t 6) (.c (.d (.int .i64 7)))) 5 true,
 O 8 (.pick (.t 5) (.t 7) (.c (.d (.bool false)))),
 O 9 (.mv (.t 8)),
 G 10 (.mv (.t 0)) 9 false,
 G 11 (.call 33 [(.t 10)]) 9 false,
 O 12 (.pick (.t 9) (.c (.d (.bool true))) (.t 11)),
 O 13 (.mv (.t 12)),
 G 14 (.mv (.t 0)) 13 false,
 G 15 (.bin .eql (.t 14) (.c (.d (.int .i64 20)))) 13 false,
 O 16 (.pick (.t 13) (.c (.d (.bool true))) (.t 15)),
 O 17 (.mv (.t 16)),
 G 18 (.mv (.t 0)) 17 false,
 G 19 (.call 48 [(.t 18)]) 17 false,
 O 20 (.pick (.t 17) (.c (.d (.bool true))) (.t 19)),
 O 21 (.mv (.t 20)),
 G 22 (.mv (.t 0)) 21 false,
 G 23 (.bin .geq (.t 22) (.c (.d (.int .i64 30)))) 21 false,
 G 24 (.mv (.t 23)) 21 false,
 G 25 (.mv (.t 0)) 24 true,
 G 26 (.bin .leq (.t 25) (.c (.d (.int .i64 47)))) 24 true,
 G 27 (.pick (.t 24) (.t 26) (.c (.d (.bool false)))) 21 false,
 O 28 (.pick (.t 21) (.c (.d (.bool true))) (.t 27)),
 O 29 (.mv (.t 28)),
 G 30 (.mv (.t 0)) 29 false,
 G 31 (.call 95 [(.t 30)]) 29 false,
 O 32 (.pick (.t 29) (.c (.d (.bool true))) (.t 31)),
 O 2 (.mv (.t 32))])
 .ret))
def F74 : VFn := ⟨1, 33, B74, [.tmp 2], false⟩

def A74 : Ann := ⟨keepOf [], ghostOf []⟩
-- 75 patina/patinaref13.named
def B75 : VCode :=
 (.seq (.reg [O 1 (.box (.t 0)),
 O 2 (.mv (.c (.d (.bool false))))])
 (.seq (.seq (.reg [O 3 (.fadr 0 (.t 1)),
 O 4 (.ld none (.t 3))])
 (.block 0 (.seq (.seq (.reg [O 6 (.bin .eql (.t 4) (.c (.d (.int .i64 2)))),
 O 5 (.mv (.t 6))])
 (.cond (.t 5)
 .skip
 (.seq (.reg [O 7 (.bin .eql (.t 4) (.c (.d (.int .i64 3)))),
 O 5 (.mv (.t 7))])
 (.cond (.t 5)
 .skip
 (.seq (.reg [O 8 (.bin .eql (.t 4) (.c (.d (.int .i64 4)))),
 O 5 (.mv (.t 8))])
 (.cond (.t 5)
 .skip
 (.seq (.reg [O 9 (.bin .eql (.t 4) (.c (.d (.int .i64 5)))),
 O 5 (.mv (.t 9))])
 (.cond (.t 5)
 .skip
 (.seq (.reg [O 10 (.bin .eql (.t 4) (.c (.d (.int .i64 6)))),
 O 5 (.mv (.t 10))])
 (.cond (.t 5)
 .skip
 (.seq (.reg [O 11 (.bin .eql (.t 4) (.c (.d (.int .i64 7)))),
 O 5 (.mv (.t 11))])
 (.cond (.t 5)
 .skip
 (.seq (.reg [O 12 (.bin .eql (.t 4) (.c (.d (.int .i64 13)))),
 O 5 (.mv (.t 12))])
 (.cond (.t 5)
 .skip
 (.seq (.reg [O 13 (.bin .eql (.t 4) (.c (.d (.int .i64 21)))),
 O 5 (.mv (.t 13))])
 (.cond (.t 5)
 .skip
 (.seq (.reg [O 14 (.bin .eql (.t 4) (.c (.d (.int .i64 33)))),
 O 5 (.mv (.t 14))])
 (.cond (.t 5)
 .skip
 (.seq (.reg [O 15 (.bin .eql (.t 4) (.c (.d (.int .i64 34)))),
 O 5 (.mv (.t 15))])
 (.cond (.t 5)
 .skip
 (.seq (.reg [O 16 (.bin .eql (.t 4) (.c (.d (.int .i64 35)))),
 O 5 (.mv (.t 16))])
 (.cond (.t 5)
 .skip
 (.seq (.reg [O 17 (.bin .eql (.t 4) (.c (.d (.int .i64 36)))),
 O 5 (.mv (.t 17))])
 (.cond (.t 5)
 .skip
 (.seq (.reg [O 18 (.bin .eql (.t 4) (.c (.d (.int .i64 41)))),
 O 5 (.mv (.t 18))])
 (.cond (.t 5)
 .skip
 (.reg [O 19 (.bin .eql (.t 4) (.c (.d (.int .i64 51)))),
 O 5 (.mv (.t 19))])))))))))))))))))))))))))))
 (.cond (.t 5)
 (.seq (.reg [O 20 (.fadr 1 (.t 1)),
 O 21 (.ld none (.t 20)),
 O 22 (.call 96 [(.t 21)]),
 O 2 (.mv (.t 22))])
 .ret)
 (.seq (.seq (.reg [O 24 (.bin .eql (.t 4) (.c (.d (.int .i64 37)))),
 O 23 (.mv (.t 24))])
 (.cond (.t 23)
 .skip
 (.reg [O 25 (.bin .eql (.t 4) (.c (.d (.int .i64 54)))),
 O 23 (.mv (.t 25))])))
 (.cond (.t 23)
 (.seq (.reg [O 26 (.fadr 1 (.t 1)),
 O 27 (.ld none (.t 26)),
 O 28 (.call 97 [(.t 27)]),
 O 2 (.mv (.t 28))])
 .ret)
 (.seq (.reg [O 30 (.bin .eql (.t 4) (.c (.d (.int .i64 38)))),
 O 29 (.mv (.t 30))])
 (.cond (.t 29)
 (.seq (.reg [O 31 (.fadr 1 (.t 1)),
 O 32 (.ld none (.t 31)),
 O 33 (.call 98 [(.t 32)]),
 O 34 (.bin .gtr (.t 33) (.c (.d (.int .i64 0)))),
 O 2 (.mv (.t 34))])
 .ret)
 .skip))))))))
 (.seq (.reg [O 35 (.fadr 1 (.t 1)),
 O 36 (.ld none (.t 35)),
 O 37 (.bin .eql (.t 36) (.c (.d (.str [])))),
 O 2 (.mv (.t 37))])
 .ret)))
def F75 : VFn := ⟨1, 38, B75, [.tmp 2], false⟩

def A75 : Ann := ⟨keepOf [], ghostOf []⟩
-- 76 patina/patinaref13.counted
def B76 : VCode :=
 (.seq (.reg [O 1 (.box (.t 0)),
 O 2 (.mv (.c (.d (.bool false))))])
 (.seq (.seq (.reg [O 3 (.fadr 0 (.t 1)),
 O 4 (.ld none (.t 3))])
 (.block 0 (.seq (.reg [O 6 (.bin .eql (.t 4) (.c (.d (.int .i64 2)))),
 O 5 (.mv (.t 6))])
 (.cond (.t 5)
 (.seq (.reg [O 2 (.mv (.c (.d (.bool true))))])
 .ret)
 (.seq (.seq (.reg [O 8 (.bin .eql (.t 4) (.c (.d (.int .i64 7)))),
 O 7 (.mv (.t 8))])
 (.cond (.t 7)
 .skip
 (.seq (.reg [O 9 (.bin .eql (.t 4) (.c (.d (.int .i64 20)))),
 O 7 (.mv (.t 9))])
 (.cond (.t 7)
 .skip
 (.seq (.reg [O 10 (.bin .eql (.t 4) (.c (.d (.int .i64 21)))),
 O 7 (.mv (.t 10))])
 (.cond (.t 7)
 .skip
 (.seq (.reg [O 11 (.bin .eql (.t 4) (.c (.d (.int .i64 31)))),
 O 7 (.mv (.t 11))])
 (.cond (.t 7)
 .skip
 (.seq (.reg [O 12 (.bin .eql (.t 4) (.c (.d (.int .i64 53)))),
 O 7 (.mv (.t 12))])
 (.cond (.t 7)
 .skip
 (.reg [O 13 (.bin .eql (.t 4) (.c (.d (.int .i64 43)))),
 O 7 (.mv (.t 13))])))))))))))
 (.cond (.t 7)
 (.seq (.reg [O 14 (.fadr 2 (.t 1)),
 O 15 (.ld none (.t 14)),
 O 16 (.bin .eql (.t 15) (.c (.d (.int .i64 0)))),
 O 17 (.mv (.t 16)),
 G 18 (.fadr 2 (.t 1)) 17 false,
 G 19 (.ld none (.t 18)) 17 false,
 G 20 (.bin .eql (.t 19) (.c (.d (.int .i64 1)))) 17 false,
 O 21 (.pick (.t 17) (.c (.d (.bool true))) (.t 20)),
 O 2 (.mv (.t 21))])
 .ret)
 (.seq (.reg [O 23 (.bin .eql (.t 4) (.c (.d (.int .i64 30)))),
 O 22 (.mv (.t 23))])
 (.cond (.t 22)
 (.seq (.reg [O 24 (.fadr 2 (.t 1)),
 O 25 (.ld none (.t 24)),
 O 26 (.bin .geq (.t 25) (.c (.d (.int .i64 0)))),
 O 2 (.mv (.t 26))])
 .ret)
 (.seq (.reg [O 28 (.bin .eql (.t 4) (.c (.d (.int .i64 52)))),
 O 27 (.mv (.t 28))])
 (.cond (.t 27)
 (.seq (.reg [O 29 (.fadr 2 (.t 1)),
 O 30 (.ld none (.t 29)),
 O 31 (.bin .neq (.t 30) (.c (.d (.int .i64 (-9223372036854775808))))),
 O 2 (.mv (.t 31))])
 .ret)
 .skip))))))))))
 (.seq (.reg [O 32 (.fadr 2 (.t 1)),
 O 33 (.ld none (.t 32)),
 O 34 (.bin .eql (.t 33) (.c (.d (.int .i64 0)))),
 O 2 (.mv (.t 34))])
 .ret)))
def F76 : VFn := ⟨1, 35, B76, [.tmp 2], false⟩

def A76 : Ann := ⟨keepOf [], ghostOf []⟩
-- 77 patina/patinaref13.forms
def B77 : VCode :=
 (.seq (.reg [O 1 (.box (.t 0)),
 O 2 (.mv (.c .nils))])
 (.seq (.seq (.reg [O 3 (.fadr 0 (.t 1)),
 O 4 (.ld none (.t 3))])
 (.block 0 (.seq (.reg [O 6 (.bin .eql (.t 4) (.c (.d (.int .i64 1)))),
 O 5 (.mv (.t 6))])
 (.cond (.t 5)
 (.seq (.reg [O 7 (.bslice 1 1 [(.c (.d (.str [42, 73])))]),
 O 2 (.mv (.t 7))])
 .ret)
 (.seq (.reg [O 9 (.bin .eql (.t 4) (.c (.d (.int .i64 2)))),
 O 8 (.mv (.t 9))])
 (.cond (.t 8)
 (.seq (.reg [O 10 (.bslice 1 1 [(.c (.d (.str [102, 110])))]),
 O 2 (.mv (.t 10))])
 .ret)
 (.seq (.reg [O 12 (.bin .eql (.t 4) (.c (.d (.int .i64 3)))),
 O 11 (.mv (.t 12))])
 (.cond (.t 11)
 (.seq (.reg [O 13 (.bslice 1 1 [(.c (.d (.str [42, 70])))]),
 O 2 (.mv (.t 13))])
 .ret)
 (.seq (.reg [O 15 (.bin .eql (.t 4) (.c (.d (.int .i64 4)))),
 O 14 (.mv (.t 15))])
 (.cond (.t 14)
 (.seq (.reg [O 16 (.bslice 1 1 [(.c (.d (.str [42, 86])))]),
 O 2 (.mv (.t 16))])
 .ret)
 (.seq (.seq (.reg [O 18 (.bin .eql (.t 4) (.c (.d (.int .i64 5)))),
 O 17 (.mv (.t 18))])
 (.cond (.t 17)
 .skip
 (.seq (.reg [O 19 (.bin .eql (.t 4) (.c (.d (.int .i64 7)))),
 O 17 (.mv (.t 19))])
 (.cond (.t 17)
 .skip
 (.seq (.reg [O 20 (.bin .eql (.t 4) (.c (.d (.int .i64 14)))),
 O 17 (.mv (.t 20))])
 (.cond (.t 17)
 .skip
 (.seq (.reg [O 21 (.bin .eql (.t 4) (.c (.d (.int .i64 15)))),
 O 17 (.mv (.t 21))])
 (.cond (.t 17)
 .skip
 (.reg [O 22 (.bin .eql (.t 4) (.c (.d (.int .i64 16)))),
 O 17 (.mv (.t 22))])))))))))
 (.cond (.t 17)
 (.seq (.reg [O 23 (.bslice 1 1 [(.c (.d (.str [84])))]),
 O 2 (.mv (.t 23))])
 .ret)
 (.seq (.reg [O 25 (.bin .eql (.t 4) (.c (.d (.int .i64 6)))),
 O 24 (.mv (.t 25))])
 (.cond (.t 24)
 (.seq (.reg [O 26 (.bslice 1 2 [(.c (.d (.str []))), (.c (.d (.str [84])))]),
 O 2 (.mv (.t 26))])
 .ret)
 (.seq (.reg [O 28 (.bin .eql (.t 4) (.c (.d (.int .i64 20)))),
 O 27 (.mv (.t 28))])
 (.cond (.t 27)
 (.seq (.reg [O 29 (.bslice 1 1 [(.c (.d (.str [98, 108, 111, 99, 107])))]),
 O 2 (.mv (.t 29))])
 .ret)
 (.seq (.reg [O 31 (.bin .eql (.t 4) (.c (.d (.int .i64 21)))),
 O 30 (.mv (.t 31))])
 (.cond (.t 30)
 (.seq (.reg [O 32 (.bslice 1 2 [(.c (.d (.str [69]))), (.c (.d (.str [84, 69])))]),
 O 2 (.mv (.t 32))])
 .ret)
 (.seq (.seq (.reg [O 34 (.bin .eql (.t 4) (.c (.d (.int .i64 22)))),
 O 33 (.mv (.t 34))])
 (.cond (.t 33)
 .skip
 (.seq (.reg [O 35 (.bin .eql (.t 4) (.c (.d (.int .i64 36)))),
 O 33 (.mv (.t 35))])
 (.cond (.t 33)
 .skip
 (.seq (.reg [O 36 (.bin .eql (.t 4) (.c (.d (.int .i64 41)))),
 O 33 (.mv (.t 36))])
 (.cond (.t 33)
 .skip
 (.seq (.reg [O 37 (.bin .eql (.t 4) (.c (.d (.int .i64 39)))),
 O 33 (.mv (.t 37))])
 (.cond (.t 33)
 .skip
 (.seq (.reg [O 38 (.bin .eql (.t 4) (.c (.d (.int .i64 40)))),
 O 33 (.mv (.t 38))])
 (.cond (.t 33)
 .skip
 (.seq (.reg [O 39 (.bin .eql (.t 4) (.c (.d (.int .i64 42)))),
 O 33 (.mv (.t 39))])
 (.cond (.t 33)
 .skip
 (.seq (.reg [O 40 (.bin .eql (.t 4) (.c (.d (.int .i64 44)))),
 O 33 (.mv (.t 40))])
 (.cond (.t 33)
 .skip
 (.reg [O 41 (.bin .eql (.t 4) (.c (.d (.int .i64 43)))),
 O 33 (.mv (.t 41))])))))))))))))))
 (.cond (.t 33)
 (.seq (.reg [O 42 (.bslice 1 1 [(.c (.d (.str [69])))]),
 O 2 (.mv (.t 42))])
 .ret)
 (.seq (.seq (.reg [O 44 (.bin .eql (.t 4) (.c (.d (.int .i64 23)))),
 O 43 (.mv (.t 44))])
 (.cond (.t 43)
 .skip
 (.reg [O 45 (.bin .eql (.t 4) (.c (.d (.int .i64 38)))),
 O 43 (.mv (.t 45))])))
 (.cond (.t 43)
 (.seq (.reg [O 46 (.bslice 1 1 [(.c (.d (.str [69, 69])))]),
 O 2 (.mv (.t 46))])
 .ret)
 (.seq (.reg [O 48 (.bin .eql (.t 4) (.c (.d (.int .i64 24)))),
 O 47 (.mv (.t 48))])
 (.cond (.t 47)
 (.seq (.reg [O 49 (.bslice 1 1 [(.c (.d (.str [69, 66])))]),
 O 2 (.mv (.t 49))])
 .ret)
 (.seq (.seq (.reg [O 51 (.bin .eql (.t 4) (.c (.d (.int .i64 25)))),
 O 50 (.mv (.t 51))])
 (.cond (.t 50)
 .skip
 (.reg [O 52 (.bin .eql (.t 4) (.c (.d (.int .i64 37)))),
 O 50 (.mv (.t 52))])))
 (.cond (.t 50)
 (.seq (.reg [O 53 (.bslice 1 2 [(.c (.d (.str []))), (.c (.d (.str [69])))]),
 O 2 (.mv (.t 53))])
 .ret)
 (.seq (.reg [O 55 (.bin .eql (.t 4) (.c (.d (.int .i64 34)))),
 O 54 (.mv (.t 55))])
 (.cond (.t 54)
 (.seq (.reg [O 56 (.bslice 1 1 [(.c (.d (.str [42, 69])))]),
 O 2 (.mv (.t 56))])
 .ret)
 (.seq (.reg [O 58 (.bin .eql (.t 4) (.c (.d (.int .i64 35)))),
 O 57 (.mv (.t 58))])
 (.cond (.t 57)
 (.seq (.reg [O 59 (.bslice 1 1 [(.c (.d (.str [42, 74])))]),
 O 2 (.mv (.t 59))])
 .ret)
 (.seq (.reg [O 61 (.bin .eql (.t 4) (.c (.d (.int .i64 45)))),
 O 60 (.mv (.t 61))])
 (.cond (.t 60)
 (.seq (.reg [O 62 (.bslice 1 2 [(.c (.d (.str [69, 66]))), (.c (.d (.str [69, 66, 88])))]),
 O 2 (.mv (.t 62))])
 .ret)
 (.seq (.reg [O 64 (.bin .eql (.t 4) (.c (.d (.int .i64 46)))),
 O 63 (.mv (.t 64))])
 (.cond (.t 63)
 (.seq (.reg [O 65 (.bslice 1 1 [(.c (.d (.str [69, 42, 65])))]),
 O 2 (.mv (.t 65))])
 .ret)
 (.seq (.reg [O 67 (.bin .eql (.t 4) (.c (.d (.int .i64 47)))),
 O 66 (.mv (.t 67))])
 (.cond (.t 66)
 (.seq (.reg [O 68 (.bslice 1 1 [(.c (.d (.str [80, 69])))]),
 O 2 (.mv (.t 68))])
 .ret)
 (.seq (.reg [O 70 (.bin .eql (.t 4) (.c (.d (.int .i64 54)))),
 O 69 (.mv (.t 70))])
 (.cond (.t 69)
 (.seq (.reg [O 71 (.bslice 1 2 [(.c (.d (.str []))), (.c (.d (.str [80])))]),
 O 2 (.mv (.t 71))])
 .ret)
 .skip))))))))))))))))))))))))))))))))))))))
 (.seq (.reg [O 72 (.bslice 1 1 [(.c (.d (.str [])))]),
 O 2 (.mv (.t 72))])
 .ret)))
def F77 : VFn := ⟨1, 73, B77, [.tmp 2], false⟩

def A77 : Ann := ⟨keepOf [], ghostOf []⟩
-- 78 patina/patinaref13.fits
def K78_0 : List Nat := [3, 4, 7, 8]
def L78_0 : VCode :=
 (.seq (.seq (.reg [O 45 (.mv (.t 8)),
 O 46 (.mv (.t 7)),
 O 47 (.bin .sub (.t 46) (.c (.d (.int .i64 2)))),
 O 48 (.bin .lss (.t 45) (.t 47))])
 (.cond (.t 48)
 .skip
 (.exit 1)))
 (.seq (.block 2 (.seq (.reg [O 51 (.ld (some 1) (.t 3)),
 O 52 (.ld (some 6) (.t 4)),
 O 53 (.mv (.t 8)),
 O 54 (.call 100 [(.t 51), (.t 52), (.t 53)]),
 O 55 (.call 99 [(.t 54), (.c (.d (.int .u8 77)))]),
 O 56 (.un .not (.t 55))])
 (.cond (.t 56)
 (.seq (.reg [O 6 (.mv (.c (.d (.bool false))))])
 .ret)
 .skip)))
 (.reg [O 49 (.mv (.t 8)),
 O 50 (.bin .add (.t 49) (.c (.d (.int .i64 1)))),
 O 8 (.mv (.t 50))])))
def K78_1 : List Nat := [3, 4, 7, 9]
def L78_1 : VCode :=
 (.seq (.seq (.reg [O 75 (.mv (.t 9)),
 O 76 (.mv (.t 7)),
 O 77 (.fadr 2 (.t 4)),
 O 78 (.ld none (.t 77)),
 O 79 (.bin .sub (.t 76) (.t 78)),
 O 80 (.bin .lss (.t 75) (.t 79))])
 (.cond (.t 80)
 .skip
 (.exit 3)))
 (.seq (.block 4 (.seq (.reg [O 83 (.ld (some 1) (.t 3)),
 O 84 (.ld (some 6) (.t 4)),
 O 85 (.mv (.t 9)),
 O 86 (.call 100 [(.t 83), (.t 84), (.t 85)]),
 O 87 (.call 99 [(.t 86), (.c (.d (.int .u8 83)))]),
 O 88 (.un .not (.t 87))])
 (.cond (.t 88)
 (.seq (.reg [O 6 (.mv (.c (.d (.bool false))))])
 .ret)
 .skip)))
 (.reg [O 81 (.mv (.t 9)),
 O 82 (.bin .add (.t 81) (.c (.d (.int .i64 1)))),
 O 9 (.mv (.t 82))])))
def K78_2 : List Nat := [2, 3, 4, 7, 10, 11]
def L78_2 : VCode :=
 (.seq (.seq (.reg [O 99 (.mv (.t 10)),
 O 100 (.mv (.t 7)),
 O 101 (.bin .lss (.t 99) (.t 100))])
 (.cond (.t 101)
 .skip
 (.exit 7)))
 (.seq (.block 8 (.seq (.draw 8 [O 104 (.ld (some 1) (.t 3)),
 O 105 (.ld (some 6) (.t 4)),
 O 106 (.mv (.t 10)),
 O 107 (.call 100 [(.t 104), (.t 105), (.t 106)]),
 O 108 (.mv (.t 2)),
 O 109 (.mv (.t 11)),
 O 110 (.bin .add (.t 109) (.c (.d (.int .i64 1)))),
 O 111 (.idx (.t 108) (.t 110)),
 O 112 (.call 99 [(.t 107), (.t 111)]),
 O 113 (.un .not (.t 112))])
 (.cond (.t 113)
 (.seq (.reg [O 6 (.mv (.c (.d (.bool false))))])
 .ret)
 .skip)))
 (.reg [O 102 (.mv (.t 10)),
 O 103 (.bin .add (.t 102) (.c (.d (.int .i64 1)))),
 O 10 (.mv (.t 103))])))
def K78_3 : List Nat := [2, 3, 4, 7, 10, 11]
def L78_3 : VCode :=
 (.seq (.seq (.reg [O 89 (.mv (.t 11)),
 O 90 (.mv (.t 2)),
 O 91 (.len true (.t 90)),
 O 92 (.bin .lss (.t 89) (.t 91))])
 (.cond (.t 92)
 .skip
 (.exit 5)))
 (.seq (.block 6 (.seq (.seq (.reg [O 95 (.mv (.t 2)),
 O 96 (.mv (.t 11)),
 O 97 (.idx (.t 95) (.t 96)),
 O 98 (.bin .eql (.t 97) (.c (.d (.int .u8 42))))])
 (.cond (.t 98)
 (.seq (.block 7 (.loop K78_2 L78_2))
 (.seq (.reg [O 6 (.mv (.c (.d (.bool true))))])
 .ret))
 .skip))
 (.seq (.seq (.draw 11 [O 114 (.mv (.t 10)),
 O 115 (.mv (.t 7)),
 O 116 (.bin .eql (.t 114) (.t 115)),
 O 117 (.mv (.t 116)),
 G 118 (.ld (some 1) (.t 3)) 117 false,
 G 119 (.ld (some 6) (.t 4)) 117 false,
 G 120 (.mv (.t 10)) 117 false,
 G 121 (.call 100 [(.t 118), (.t 119), (.t 120)]) 117 false,
 G 122 (.mv (.t 2)) 117 false,
 G 123 (.mv (.t 11)) 117 false,
 G 124 (.idx (.t 122) (.t 123)) 117 false,
 G 125 (.call 99 [(.t 121), (.t 124)]) 117 false,
 G 126 (.un .not (.t 125)) 117 false,
 O 127 (.pick (.t 117) (.c (.d (.bool true))) (.t 126))])
 (.cond (.t 127)
 (.seq (.reg [O 6 (.mv (.c (.d (.bool false))))])
 .ret)
 .skip))
 (.reg [O 128 (.mv (.t 10)),
 O 129 (.bin .add (.t 128) (.c (.d (.int .i64 1)))),
 O 10 (.mv (.t 129))]))))
 (.reg [O 93 (.mv (.t 11)),
 O 94 (.bin .add (.t 93) (.c (.d (.int .i64 1)))),
 O 11 (.mv (.t 94))])))
def B78 : VCode :=
 (.seq (.reg [O 3 (.box (.t 0)),
 O 4 (.box (.t 1)),
 O 6 (.mv (.c (.d (.bool false))))])
 (.seq (.reg [O 12 (.fadr 3 (.t 4)),
 O 13 (.ld none (.t 12)),
 O 14 (.len false (.t 13)),
 O 7 (.mv (.t 14))])
 (.seq (.seq (.reg [O 15 (.mv (.t 2))])
 (.block 0 (.seq (.reg [O 17 (.bin .eql (.t 15) (.c (.d (.str [102, 110])))),
 O 16 (.mv (.t 17))])
 (.cond (.t 16)
 (.seq (.seq (.reg [O 18 (.mv (.t 7)),
 O 19 (.bin .lss (.t 18) (.c (.d (.int .i64 2)))),
 O 20 (.mv (.t 19)),
 G 21 (.fadr 2 (.t 4)) 20 false,
 G 22 (.ld none (.t 21)) 20 false,
 G 23 (.mv (.t 7)) 20 false,
 G 24 (.bin .sub (.t 23) (.c (.d (.int .i64 2)))) 20 false,
 G 25 (.bin .neq (.t 22) (.t 24)) 20 false,
 O 26 (.pick (.t 20) (.c (.d (.bool true))) (.t 25)),
 O 27 (.mv (.t 26)),
 G 28 (.ld (some 1) (.t 3)) 27 false,
 G 29 (.ld (some 6) (.t 4)) 27 false,
 G 30 (.mv (.t 7)) 27 false,
 G 31 (.bin .sub (.t 30) (.c (.d (.int .i64 2)))) 27 false,
 G 32 (.call 100 [(.t 28), (.t 29), (.t 31)]) 27 false,
 G 33 (.call 99 [(.t 32), (.c (.d (.int .u8 84)))]) 27 false,
 G 34 (.un .not (.t 33)) 27 false,
 O 35 (.pick (.t 27) (.c (.d (.bool true))) (.t 34)),
 O 36 (.mv (.t 35)),
 G 37 (.ld (some 1) (.t 3)) 36 false,
 G 38 (.ld (some 6) (.t 4)) 36 false,
 G 39 (.mv (.t 7)) 36 false,
 G 40 (.bin .sub (.t 39) (.c (.d (.int .i64 1)))) 36 false,
 G 41 (.call 100 [(.t 37), (.t 38), (.t 40)]) 36 false,
 G 42 (.call 99 [(.t 41), (.c (.d (.int .u8 66)))]) 36 false,
 G 43 (.un .not (.t 42)) 36 false,
 O 44 (.pick (.t 36) (.c (.d (.bool true))) (.t 43))])
 (.cond (.t 44)
 (.seq (.reg [O 6 (.mv (.c (.d (.bool false))))])
 .ret)
 .skip))
 (.seq (.seq (.reg [O 8 (.mv (.c (.d (.int .i64 0))))])
 (.block 1 (.loop K78_0 L78_0)))
 (.seq (.reg [O 6 (.mv (.c (.d (.bool true))))])
 .ret)))
 (.seq (.reg [O 58 (.bin .eql (.t 15) (.c (.d (.str [98, 108, 111, 99, 107])))),
 O 57 (.mv (.t 58))])
 (.cond (.t 57)
 (.seq (.seq (.reg [O 59 (.fadr 2 (.t 4)),
 O 60 (.ld none (.t 59)),
 O 61 (.bin .eql (.t 60) (.c (.d (.int .i64 1)))),
 O 62 (.mv (.t 61)),
 G 63 (.mv (.t 7)) 62 true,
 G 64 (.bin .eql (.t 63) (.c (.d (.int .i64 0)))) 62 true,
 G 65 (.mv (.t 64)) 62 true,
 G 66 (.ld (some 1) (.t 3)) 65 false,
 G 67 (.ld (some 6) (.t 4)) 65 false,
 G 68 (.mv (.t 7)) 65 false,
 G 69 (.bin .sub (.t 68) (.c (.d (.int .i64 1)))) 65 false,
 G 70 (.call 100 [(.t 66), (.t 67), (.t 69)]) 65 false,
 G 71 (.call 99 [(.t 70), (.c (.d (.int .u8 69)))]) 65 false,
 G 72 (.un .not (.t 71)) 65 false,
 G 73 (.pick (.t 65) (.c (.d (.bool true))) (.t 72)) 62 true,
 O 74 (.pick (.t 62) (.t 73) (.c (.d (.bool false))))])
 (.cond (.t 74)
 (.seq (.reg [O 6 (.mv (.c (.d (.bool false))))])
 .ret)
 .skip))
 (.seq (.seq (.reg [O 9 (.mv (.c (.d (.int .i64 0))))])
 (.block 3 (.loop K78_1 L78_1)))
 (.seq (.reg [O 6 (.mv (.c (.d (.bool true))))])
 .ret)))
 .skip))))))
 (.seq (.reg [O 10 (.mv (.c (.d (.int .i64 0))))])
 (.seq (.seq (.reg [O 11 (.mv (.c (.d (.int .i64 0))))])
 (.block 5 (.loop K78_3 L78_3)))
 (.seq (.reg [O 130 (.mv (.t 10)),
 O 131 (.mv (.t 7)),
 O 132 (.bin .eql (.t 130) (.t 131)),
 O 6 (.mv (.t 132))])
 .ret))))))
def F78 : VFn := ⟨3, 133, B78, [.tmp 6], false⟩

def A78 : Ann := ⟨keepOf [(7, [3, 4, 7, 8]), (16, [3, 4, 7, 9]), (23, [2, 3, 4, 7, 10, 11]), (26, [2, 3, 4, 7, 10, 11])], ghostOf []⟩
-- 81 patina/tree.isPattern
def B81 : VCode :=
 (.seq (.reg [O 2 (.mv (.c (.d (.bool false))))])
 (.seq (.reg [O 3 (.mv (.t 0)),
 O 4 (.bin .geq (.t 3) (.c (.d (.int .i64 50)))),
 O 5 (.mv (.t 4)),
 G 6 (.mv (.t 0)) 5 true,
 G 7 (.bin .leq (.t 6) (.c (.d (.int .i64 54)))) 5 true,
 O 8 (.pick (.t 5) (.t 7) (.c (.d (.bool false)))),
 O 2 (.mv (.t 8))])
 .ret))
def F81 : VFn := ⟨1, 9, B81, [.tmp 2], false⟩

def A81 : Ann := ⟨keepOf [], ghostOf []⟩
-- 82 patina/tree.isExpr
def B82 : VCode :=
 (.seq (.reg [O 2 (.mv (.c (.d (.bool false))))])
 (.seq (.reg [O 3 (.mv (.t 0)),
 O 4 (.bin .eql (.t 3) (.c (.d (.int .i64 20)))),
 O 5 (.mv (.t 4)),
 G 6 (.mv (.t 0)) 5 false,
 G 7 (.bin .geq (.t 6) (.c (.d (.int .i64 30)))) 5 false,
 G 8 (.mv (.t 7)) 5 false,
 G 9 (.mv (.t 0)) 8 true,
 G 10 (.bin .leq (.t 9) (.c (.d (.int .i64 46)))) 8 true,
 G 11 (.pick (.t 8) (.t 10) (.c (.d (.bool false)))) 5 false,
 G 12 (.mv (.t 11)) 5 false,
 G 13 (.mv (.t 0)) 12 true,
 G 14 (.bin .neq (.t 13) (.c (.d (.int .i64 36)))) 12 true,
 G 15 (.pick (.t 12) (.t 14) (.c (.d (.bool false)))) 5 false,
 O 16 (.pick (.t 5) (.c (.d (.bool true))) (.t 15)),
 O 2 (.mv (.t 16))])
 .ret))
def F82 : VFn := ⟨1, 17, B82, [.tmp 2], false⟩

def A82 : Ann := ⟨keepOf [], ghostOf []⟩
-- 83 patina/lex.Name
def B83 : VCode :=
 (.seq (.reg [O 2 (.mv (.c (.d (.bool false))))])
 (.seq (.reg [O 3 (.mv (.t 0)),
 O 4 (.call 101 [(.t 3)]),
 O 5 (.mv (.t 4)),
 G 6 (.mv (.t 0)) 5 true,
 G 7 (.len true (.t 6)) 5 true,
 G 8 (.bin .leq (.t 7) (.c (.d (.int .i64 64)))) 5 true,
 O 9 (.pick (.t 5) (.t 8) (.c (.d (.bool false)))),
 O 10 (.mv (.t 9)),
 G 11 (.mv (.t 0)) 10 true,
 G 12 (.call 102 [(.t 11)]) 10 true,
 G 13 (.un .not (.t 12)) 10 true,
 O 14 (.pick (.t 10) (.t 13) (.c (.d (.bool false)))),
 O 2 (.mv (.t 14))])
 .ret))
def F83 : VFn := ⟨1, 15, B83, [.tmp 2], false⟩

def A83 : Ann := ⟨keepOf [], ghostOf []⟩
-- 85 patina/tree.sign
def B85 : VCode :=
 (.seq (.reg [O 2 (.mv (.c (.d (.bool false))))])
 (.seq (.seq (.reg [O 3 (.mv (.t 0))])
 (.block 0 (.seq (.block 2 (.block 1 (.seq (.seq (.seq (.seq (.reg [O 5 (.bin .eql (.t 3) (.c (.d (.str [124, 124])))),
 O 4 (.mv (.t 5))])
 (.cond (.t 4)
 .skip
 (.seq (.reg [O 6 (.bin .eql (.t 3) (.c (.d (.str [38, 38])))),
 O 4 (.mv (.t 6))])
 (.cond (.t 4)
 .skip
 (.seq (.reg [O 7 (.bin .eql (.t 3) (.c (.d (.str [61, 61])))),
 O 4 (.mv (.t 7))])
 (.cond (.t 4)
 .skip
 (.seq (.reg [O 8 (.bin .eql (.t 3) (.c (.d (.str [33, 61])))),
 O 4 (.mv (.t 8))])
 (.cond (.t 4)
 .skip
 (.seq (.reg [O 9 (.bin .eql (.t 3) (.c (.d (.str [60])))),
 O 4 (.mv (.t 9))])
 (.cond (.t 4)
 .skip
 (.seq (.reg [O 10 (.bin .eql (.t 3) (.c (.d (.str [62])))),
 O 4 (.mv (.t 10))])
 (.cond (.t 4)
 .skip
 (.seq (.reg [O 11 (.bin .eql (.t 3) (.c (.d (.str [60, 61])))),
 O 4 (.mv (.t 11))])
 (.cond (.t 4)
 .skip
 (.reg [O 12 (.bin .eql (.t 3) (.c (.d (.str [62, 61])))),
 O 4 (.mv (.t 12))])))))))))))))))
 (.cond (.t 4)
 (.exit 1)
 .skip))
 (.seq (.seq (.reg [O 14 (.bin .eql (.t 3) (.c (.d (.str [43])))),
 O 13 (.mv (.t 14))])
 (.cond (.t 13)
 .skip
 (.seq (.reg [O 15 (.bin .eql (.t 3) (.c (.d (.str [45])))),
 O 13 (.mv (.t 15))])
 (.cond (.t 13)
 .skip
 (.seq (.reg [O 16 (.bin .eql (.t 3) (.c (.d (.str [42])))),
 O 13 (.mv (.t 16))])
 (.cond (.t 13)
 .skip
 (.seq (.reg [O 17 (.bin .eql (.t 3) (.c (.d (.str [47])))),
 O 13 (.mv (.t 17))])
 (.cond (.t 13)
 .skip
 (.reg [O 18 (.bin .eql (.t 3) (.c (.d (.str [37])))),
 O 13 (.mv (.t 18))])))))))))
 (.cond (.t 13)
 (.exit 2)
 .skip)))
 (.exit 0))))
 (.seq (.seq (.reg [O 2 (.mv (.c (.d (.bool true))))])
 .ret)
 (.exit 0)))))
 (.seq (.reg [O 2 (.mv (.c (.d (.bool false))))])
 .ret)))
def F85 : VFn := ⟨1, 19, B85, [.tmp 2], false⟩

def A85 : Ann := ⟨keepOf [], ghostOf []⟩
-- 86 patina/tree.shape
def B86 : VCode :=
 (.seq (.reg [O 1 (.box (.t 0)),
 O 2 (.mv (.c (.d (.str []))))])
 (.seq (.seq (.reg [O 3 (.fadr 0 (.t 1)),
 O 4 (.ld none (.t 3))])
 (.block 0 (.seq (.block 20 (.seq (.block 19 (.seq (.block 18 (.seq (.block 17 (.seq (.block 16 (.block 15 (.seq (.block 14 (.seq (.block 13 (.seq (.block 12 (.seq (.block 11 (.seq (.block 10 (.seq (.block 9 (.seq (.block 8 (.seq (.block 7 (.seq (.block 6 (.block 5 (.seq (.block 4 (.seq (.block 3 (.seq (.block 2 (.seq (.block 1 (.seq (.seq (.seq (.reg [O 6 (.bin .eql (.t 4) (.c (.d (.int .i64 1)))),
 O 5 (.mv (.t 6))])
 (.cond (.t 5)
 (.exit 1)
 .skip))
 (.seq (.seq (.reg [O 8 (.bin .eql (.t 4) (.c (.d (.int .i64 2)))),
 O 7 (.mv (.t 8))])
 (.cond (.t 7)
 (.exit 2)
 .skip))
 (.seq (.seq (.reg [O 10 (.bin .eql (.t 4) (.c (.d (.int .i64 3)))),
 O 9 (.mv (.t 10))])
 (.cond (.t 9)
 (.exit 3)
 .skip))
 (.seq (.seq (.reg [O 12 (.bin .eql (.t 4) (.c (.d (.int .i64 4)))),
 O 11 (.mv (.t 12))])
 (.cond (.t 11)
 (.exit 4)
 .skip))
 (.seq (.seq (.seq (.reg [O 14 (.bin .eql (.t 4) (.c (.d (.int .i64 5)))),
 O 13 (.mv (.t 14))])
 (.cond (.t 13)
 .skip
 (.reg [O 15 (.bin .eql (.t 4) (.c (.d (.int .i64 7)))),
 O 13 (.mv (.t 15))])))
 (.cond (.t 13)
 (.exit 5)
 .skip))
 (.seq (.seq (.seq (.reg [O 17 (.bin .eql (.t 4) (.c (.d (.int .i64 14)))),
 O 16 (.mv (.t 17))])
 (.cond (.t 16)
 .skip
 (.seq (.reg [O 18 (.bin .eql (.t 4) (.c (.d (.int .i64 15)))),
 O 16 (.mv (.t 18))])
 (.cond (.t 16)
 .skip
 (.reg [O 19 (.bin .eql (.t 4) (.c (.d (.int .i64 16)))),
 O 16 (.mv (.t 19))])))))
 (.cond (.t 16)
 (.exit 6)
 .skip))
 (.seq (.seq (.reg [O 21 (.bin .eql (.t 4) (.c (.d (.int .i64 6)))),
 O 20 (.mv (.t 21))])
 (.cond (.t 20)
 (.exit 7)
 .skip))
 (.seq (.seq (.reg [O 23 (.bin .eql (.t 4) (.c (.d (.int .i64 20)))),
 O 22 (.mv (.t 23))])
 (.cond (.t 22)
 (.exit 8)
 .skip))
 (.seq (.seq (.reg [O 25 (.bin .eql (.t 4) (.c (.d (.int .i64 21)))),
 O 24 (.mv (.t 25))])
 (.cond (.t 24)
 (.exit 9)
 .skip))
 (.seq (.seq (.seq (.reg [O 27 (.bin .eql (.t 4) (.c (.d (.int .i64 23)))),
 O 26 (.mv (.t 27))])
 (.cond (.t 26)
 .skip
 (.reg [O 28 (.bin .eql (.t 4) (.c (.d (.int .i64 38)))),
 O 26 (.mv (.t 28))])))
 (.cond (.t 26)
 (.exit 10)
 .skip))
 (.seq (.seq (.reg [O 30 (.bin .eql (.t 4) (.c (.d (.int .i64 24)))),
 O 29 (.mv (.t 30))])
 (.cond (.t 29)
 (.exit 11)
 .skip))
 (.seq (.seq (.seq (.reg [O 32 (.bin .eql (.t 4) (.c (.d (.int .i64 25)))),
 O 31 (.mv (.t 32))])
 (.cond (.t 31)
 .skip
 (.reg [O 33 (.bin .eql (.t 4) (.c (.d (.int .i64 37)))),
 O 31 (.mv (.t 33))])))
 (.cond (.t 31)
 (.exit 12)
 .skip))
 (.seq (.seq (.reg [O 35 (.bin .eql (.t 4) (.c (.d (.int .i64 34)))),
 O 34 (.mv (.t 35))])
 (.cond (.t 34)
 (.exit 13)
 .skip))
 (.seq (.seq (.reg [O 37 (.bin .eql (.t 4) (.c (.d (.int .i64 35)))),
 O 36 (.mv (.t 37))])
 (.cond (.t 36)
 (.exit 14)
 .skip))
 (.seq (.seq (.seq (.reg [O 39 (.bin .eql (.t 4) (.c (.d (.int .i64 22)))),
 O 38 (.mv (.t 39))])
 (.cond (.t 38)
 .skip
 (.seq (.reg [O 40 (.bin .eql (.t 4) (.c (.d (.int .i64 36)))),
 O 38 (.mv (.t 40))])
 (.cond (.t 38)
 .skip
 (.seq (.reg [O 41 (.bin .eql (.t 4) (.c (.d (.int .i64 41)))),
 O 38 (.mv (.t 41))])
 (.cond (.t 38)
 .skip
 (.seq (.reg [O 42 (.bin .eql (.t 4) (.c (.d (.int .i64 39)))),
 O 38 (.mv (.t 42))])
 (.cond (.t 38)
 .skip
 (.reg [O 43 (.bin .eql (.t 4) (.c (.d (.int .i64 40)))),
 O 38 (.mv (.t 43))])))))))))
 (.cond (.t 38)
 (.exit 15)
 .skip))
 (.seq (.seq (.seq (.reg [O 45 (.bin .eql (.t 4) (.c (.d (.int .i64 42)))),
 O 44 (.mv (.t 45))])
 (.cond (.t 44)
 .skip
 (.seq (.reg [O 46 (.bin .eql (.t 4) (.c (.d (.int .i64 44)))),
 O 44 (.mv (.t 46))])
 (.cond (.t 44)
 .skip
 (.reg [O 47 (.bin .eql (.t 4) (.c (.d (.int .i64 43)))),
 O 44 (.mv (.t 47))])))))
 (.cond (.t 44)
 (.exit 16)
 .skip))
 (.seq (.seq (.reg [O 49 (.bin .eql (.t 4) (.c (.d (.int .i64 45)))),
 O 48 (.mv (.t 49))])
 (.cond (.t 48)
 (.exit 17)
 .skip))
 (.seq (.seq (.reg [O 51 (.bin .eql (.t 4) (.c (.d (.int .i64 46)))),
 O 50 (.mv (.t 51))])
 (.cond (.t 50)
 (.exit 18)
 .skip))
 (.seq (.seq (.reg [O 53 (.bin .eql (.t 4) (.c (.d (.int .i64 47)))),
 O 52 (.mv (.t 53))])
 (.cond (.t 52)
 (.exit 19)
 .skip))
 (.seq (.reg [O 55 (.bin .eql (.t 4) (.c (.d (.int .i64 54)))),
 O 54 (.mv (.t 55))])
 (.cond (.t 54)
 (.exit 20)
 .skip)))))))))))))))))))))
 (.exit 0)))
 (.seq (.seq (.reg [O 2 (.mv (.c (.d (.str [42, 105]))))])
 .ret)
 (.exit 0))))
 (.seq (.seq (.reg [O 2 (.mv (.c (.d (.str [42, 113, 116, 98]))))])
 .ret)
 (.exit 0))))
 (.seq (.seq (.reg [O 2 (.mv (.c (.d (.str [42, 102]))))])
 .ret)
 (.exit 0))))
 (.seq (.seq (.reg [O 2 (.mv (.c (.d (.str [42, 118]))))])
 .ret)
 (.exit 0)))))
 (.seq (.seq (.reg [O 2 (.mv (.c (.d (.str [116]))))])
 .ret)
 (.exit 0))))
 (.seq (.seq (.reg [O 2 (.mv (.c (.d (.str [63, 116]))))])
 .ret)
 (.exit 0))))
 (.seq (.seq (.seq (.reg [O 56 (.fadr 2 (.t 1)),
 O 57 (.ld none (.t 56)),
 O 58 (.bin .eql (.t 57) (.c (.d (.int .i64 1))))])
 (.cond (.t 58)
 (.seq (.reg [O 2 (.mv (.c (.d (.str [42, 115, 101]))))])
 .ret)
 .skip))
 (.seq (.reg [O 2 (.mv (.c (.d (.str [42, 115]))))])
 .ret))
 (.exit 0))))
 (.seq (.seq (.reg [O 2 (.mv (.c (.d (.str [63, 116, 101]))))])
 .ret)
 (.exit 0))))
 (.seq (.seq (.reg [O 2 (.mv (.c (.d (.str [101, 101]))))])
 .ret)
 (.exit 0))))
 (.seq (.seq (.reg [O 2 (.mv (.c (.d (.str [101, 98]))))])
 .ret)
 (.exit 0))))
 (.seq (.seq (.reg [O 2 (.mv (.c (.d (.str [63, 101]))))])
 .ret)
 (.exit 0))))
 (.seq (.seq (.reg [O 2 (.mv (.c (.d (.str [42, 101]))))])
 .ret)
 (.exit 0))))
 (.seq (.seq (.reg [O 2 (.mv (.c (.d (.str [42, 110]))))])
 .ret)
 (.exit 0)))))
 (.seq (.seq (.reg [O 2 (.mv (.c (.d (.str [101]))))])
 .ret)
 (.exit 0))))
 (.seq (.seq (.reg [O 2 (.mv (.c (.d (.str [101, 98, 63, 111]))))])
 .ret)
 (.exit 0))))
 (.seq (.seq (.reg [O 2 (.mv (.c (.d (.str [101, 42, 97]))))])
 .ret)
 (.exit 0))))
 (.seq (.seq (.reg [O 2 (.mv (.c (.d (.str [112, 101]))))])
 .ret)
 (.exit 0))))
 (.seq (.seq (.reg [O 2 (.mv (.c (.d (.str [63, 112]))))])
 .ret)
 (.exit 0)))))
 (.seq (.reg [O 2 (.mv (.c (.d (.str []))))])
 .ret)))
def F86 : VFn := ⟨1, 59, B86, [.tmp 2], false⟩

def A86 : Ann := ⟨keepOf [], ghostOf []⟩
-- 88 patina/tree.kids
def B88 : VCode :=
 (.seq (.reg [O 4 (.mv (.c (.d (.bool false))))])
 (.seq (.seq (.reg [O 5 (.mv (.t 0)),
 O 6 (.bin .eql (.t 5) (.c (.d (.str []))))])
 (.cond (.t 6)
 (.seq (.reg [O 7 (.mv (.t 1)),
 O 8 (.len false (.t 7)),
 O 9 (.bin .eql (.t 8) (.c (.d (.int .i64 0)))),
 O 4 (.mv (.t 9))])
 .ret)
 .skip))
 (.seq (.seq (.reg [O 10 (.mv (.t 0)),
 O 11 (.idx (.t 10) (.c (.d (.int .i64 0)))),
 O 12 (.bin .eql (.t 11) (.c (.d (.int .u8 63))))])
 (.cond (.t 12)
 (.seq (.draw 22 [O 13 (.mv (.t 1)),
 O 14 (.len false (.t 13)),
 O 15 (.bin .gtr (.t 14) (.c (.d (.int .i64 0)))),
 O 16 (.mv (.t 15)),
 G 17 (.mv (.t 0)) 16 true,
 G 18 (.idx (.t 17) (.c (.d (.int .i64 1)))) 16 true,
 G 19 (.mv (.t 1)) 16 true,
 G 20 (.iadr 1 (.t 19) (.c (.d (.int .i64 0)))) 16 true,
 G 21 (.ld none (.t 20)) 16 true,
 G 22 (.call 105 [(.t 18), (.t 21)]) 16 true,
 O 23 (.pick (.t 16) (.t 22) (.c (.d (.bool false)))),
 O 24 (.mv (.t 23)),
 G 25 (.mv (.t 0)) 24 true,
 G 26 (.slcs (.t 25) (some (.c (.d (.int .i64 2)))) none) 24 true,
 G 27 (.mv (.t 1)) 24 true,
 G 28 (.slc 1 (.t 27) (some (.c (.d (.int .i64 1)))) none) 24 true,
 G 29 (.call 88 [(.t 26), (.t 28)]) 24 true,
 O 30 (.pick (.t 24) (.t 29) (.c (.d (.bool false)))),
 O 31 (.mv (.t 30)),
 G 32 (.mv (.t 0)) 31 false,
 G 33 (.slcs (.t 32) (some (.c (.d (.int .i64 2)))) none) 31 false,
 G 34 (.mv (.t 1)) 31 false,
 G 35 (.call 88 [(.t 33), (.t 34)]) 31 false,
 O 36 (.pick (.t 31) (.c (.d (.bool true))) (.t 35)),
 O 4 (.mv (.t 36))])
 .ret)
 .skip))
 (.seq (.draw 16 [O 37 (.mv (.t 1)),
 O 38 (.len false (.t 37)),
 O 39 (.bin .gtr (.t 38) (.c (.d (.int .i64 0)))),
 O 40 (.mv (.t 39)),
 G 41 (.mv (.t 0)) 40 true,
 G 42 (.idx (.t 41) (.c (.d (.int .i64 0)))) 40 true,
 G 43 (.mv (.t 1)) 40 true,
 G 44 (.iadr 1 (.t 43) (.c (.d (.int .i64 0)))) 40 true,
 G 45 (.ld none (.t 44)) 40 true,
 G 46 (.call 105 [(.t 42), (.t 45)]) 40 true,
 O 47 (.pick (.t 40) (.t 46) (.c (.d (.bool false)))),
 O 48 (.mv (.t 47)),
 G 49 (.mv (.t 0)) 48 true,
 G 50 (.slcs (.t 49) (some (.c (.d (.int .i64 1)))) none) 48 true,
 G 51 (.mv (.t 1)) 48 true,
 G 52 (.slc 1 (.t 51) (some (.c (.d (.int .i64 1)))) none) 48 true,
 G 53 (.call 88 [(.t 50), (.t 52)]) 48 true,
 O 54 (.pick (.t 48) (.t 53) (.c (.d (.bool false)))),
 O 4 (.mv (.t 54))])
 .ret))))
def F88 : VFn := ⟨2, 55, B88, [.tmp 4], false⟩

def A88 : Ann := ⟨keepOf [], ghostOf []⟩
-- 89 patina/tree.all
def B89 : VCode :=
 (.seq (.reg [O 2 (.box (.t 0)),
 O 4 (.mv (.c (.d (.bool false))))])
 (.seq (.reg [O 5 (.mv (.t 1)),
 O 6 (.mkfn 107 [(.t 2)]),
 O 7 (.call 106 [(.t 5), (.t 6)]),
 O 8 (.un .not (.t 7)),
 O 4 (.mv (.t 8))])
 .ret))
def F89 : VFn := ⟨2, 9, B89, [.tmp 4], false⟩

def A89 : Ann := ⟨keepOf [], ghostOf []⟩
-- 90 slices.Index[[]int,int]
def K90_0 : List Nat := [0, 1, 7, 8]
def L90_0 : VCode :=
 (.seq (.reg [O 9 (.bin .lss (.t 8) (.t 7))])
 (.seq (.cond (.t 9)
 .skip
 (.exit 0))
 (.seq (.block 1 (.seq (.reg [O 10 (.mv (.t 8)),
 O 5 (.mv (.t 10))])
 (.seq (.reg [O 11 (.mv (.t 1)),
 O 12 (.mv (.t 0)),
 O 13 (.mv (.t 5)),
 O 14 (.iadr 1 (.t 12) (.t 13)),
 O 15 (.ld none (.t 14)),
 O 16 (.bin .eql (.t 11) (.t 15))])
 (.cond (.t 16)
 (.seq (.reg [O 17 (.mv (.t 5)),
 O 4 (.mv (.t 17))])
 .ret)
 .skip))))
 (.reg [O 18 (.bin .add (.t 8) (.c (.d (.int .i64 1)))),
 O 8 (.mv (.t 18))]))))
def B90 : VCode :=
 (.seq (.reg [O 4 (.mv (.c (.d (.int .i64 0))))])
 (.seq (.seq (.reg [O 6 (.mv (.t 0)),
 O 7 (.len false (.t 6)),
 O 8 (.mv (.c (.d (.int .i64 0))))])
 (.block 0 (.loop K90_0 L90_0)))
 (.seq (.reg [O 4 (.mv (.c (.d (.int .i64 (-1)))))])
 .ret)))
def F90 : VFn := ⟨2, 19, B90, [.tmp 4], false⟩

def A90 : Ann := ⟨keepOf [(2, [0, 1, 7, 8])], ghostOf []⟩
-- 92 internal/strconv.FormatBool
def B92 : VCode :=
 (.seq (.reg [O 2 (.mv (.c (.d (.str []))))])
 (.seq (.seq (.reg [O 3 (.mv (.t 0))])
 (.cond (.t 3)
 (.seq (.reg [O 2 (.mv (.c (.d (.str [116, 114, 117, 101]))))])
 .ret)
 .skip))
 (.seq (.reg [O 2 (.mv (.c (.d (.str [102, 97, 108, 115, 101]))))])
 .ret)))
def F92 : VFn := ⟨1, 4, B92, [.tmp 2], false⟩

def A92 : Ann := ⟨keepOf [], ghostOf []⟩
-- 95 patina/patinaref13.IsPattern
def B95 : VCode :=
 (.seq (.reg [O 2 (.mv (.c (.d (.bool false))))])
 (.seq (.reg [O 3 (.mv (.t 0)),
 O 4 (.bin .geq (.t 3) (.c (.d (.int .i64 50)))),
 O 5 (.mv (.t 4)),
 G 6 (.mv (.t 0)) 5 true,
 G 7 (.bin .leq (.t 6) (.c (.d (.int .i64 54)))) 5 true,
 O 8 (.pick (.t 5) (.t 7) (.c (.d (.bool false)))),
 O 2 (.mv (.t 8))])
 .ret))
def F95 : VFn := ⟨1, 9, B95, [.tmp 2], false⟩

def A95 : Ann := ⟨keepOf [], ghostOf []⟩
-- 96 patina/patinaref11.Name
def B96 : VCode :=
 (.seq (.reg [O 2 (.mv (.c (.d (.bool false))))])
 (.seq (.reg [O 3 (.mv (.t 0)),
 O 4 (.call 112 [(.t 3)]),
 O 5 (.mv (.t 4)),
 G 6 (.mv (.t 0)) 5 true,
 G 7 (.len true (.t 6)) 5 true,
 G 8 (.bin .leq (.t 7) (.c (.d (.int .i64 64)))) 5 true,
 O 9 (.pick (.t 5) (.t 8) (.c (.d (.bool false)))),
 O 10 (.mv (.t 9)),
 G 11 (.mv (.t 0)) 10 true,
 G 12 (.call 113 [(.t 11)]) 10 true,
 G 13 (.un .not (.t 12)) 10 true,
 O 14 (.pick (.t 10) (.t 13) (.c (.d (.bool false)))),
 O 2 (.mv (.t 14))])
 .ret))
def F96 : VFn := ⟨1, 15, B96, [.tmp 2], false⟩

def A96 : Ann := ⟨keepOf [], ghostOf []⟩
-- 97 patina/patinaref13.picked
def K97_0 : List Nat := [0, 3]
def L97_0 : VCode :=
 (.seq (.seq (.reg [O 4 (.mv (.t 3)),
 O 5 (.bin .add (.t 4) (.c (.d (.int .i64 1)))),
 O 6 (.mv (.t 0)),
 O 7 (.len true (.t 6)),
 O 8 (.bin .lss (.t 5) (.t 7))])
 (.cond (.t 8)
 .skip
 (.exit 0)))
 (.seq (.block 1 (.seq (.reg [O 11 (.mv (.t 0)),
 O 12 (.mv (.t 3)),
 O 13 (.mv (.t 3)),
 O 14 (.bin .add (.t 13) (.c (.d (.int .i64 2)))),
 O 15 (.slcs (.t 11) (some (.t 12)) (some (.t 14))),
 O 16 (.bin .eql (.t 15) (.c (.d (.str [58, 58]))))])
 (.cond (.t 16)
 (.seq (.reg [O 17 (.mv (.t 0)),
 O 18 (.mv (.t 3)),
 O 19 (.slcs (.t 17) none (some (.t 18))),
 O 20 (.call 96 [(.t 19)]),
 O 21 (.mv (.t 20)),
 G 22 (.mv (.t 0)) 21 true,
 G 23 (.mv (.t 3)) 21 true,
 G 24 (.bin .add (.t 23) (.c (.d (.int .i64 2)))) 21 true,
 G 25 (.slcs (.t 22) (some (.t 24)) none) 21 true,
 G 26 (.call 96 [(.t 25)]) 21 true,
 O 27 (.pick (.t 21) (.t 26) (.c (.d (.bool false)))),
 O 2 (.mv (.t 27))])
 .ret)
 .skip)))
 (.reg [O 9 (.mv (.t 3)),
 O 10 (.bin .add (.t 9) (.c (.d (.int .i64 1)))),
 O 3 (.mv (.t 10))])))
def B97 : VCode :=
 (.seq (.reg [O 2 (.mv (.c (.d (.bool false))))])
 (.seq (.seq (.reg [O 3 (.mv (.c (.d (.int .i64 0))))])
 (.block 0 (.loop K97_0 L97_0)))
 (.seq (.reg [O 2 (.mv (.c (.d (.bool false))))])
 .ret)))
def F97 : VFn := ⟨1, 28, B97, [.tmp 2], false⟩

def A97 : Ann := ⟨keepOf [(2, [0, 3])], ghostOf []⟩
-- 98 patina/patinaref13.Sign
def B98 : VCode :=
 (.seq (.reg [O 2 (.mv (.c (.d (.int .i64 0))))])
 (.seq (.seq (.reg [O 3 (.mv (.t 0))])
 (.block 0 (.seq (.reg [O 5 (.bin .eql (.t 3) (.c (.d (.str [124, 124])))),
 O 4 (.mv (.t 5))])
 (.cond (.t 4)
 (.seq (.reg [O 2 (.mv (.c (.d (.int .i64 1))))])
 .ret)
 (.seq (.reg [O 7 (.bin .eql (.t 3) (.c (.d (.str [38, 38])))),
 O 6 (.mv (.t 7))])
 (.cond (.t 6)
 (.seq (.reg [O 2 (.mv (.c (.d (.int .i64 2))))])
 .ret)
 (.seq (.seq (.reg [O 9 (.bin .eql (.t 3) (.c (.d (.str [61, 61])))),
 O 8 (.mv (.t 9))])
 (.cond (.t 8)
 .skip
 (.seq (.reg [O 10 (.bin .eql (.t 3) (.c (.d (.str [33, 61])))),
 O 8 (.mv (.t 10))])
 (.cond (.t 8)
 .skip
 (.seq (.reg [O 11 (.bin .eql (.t 3) (.c (.d (.str [60])))),
 O 8 (.mv (.t 11))])
 (.cond (.t 8)
 .skip
 (.seq (.reg [O 12 (.bin .eql (.t 3) (.c (.d (.str [62])))),
 O 8 (.mv (.t 12))])
 (.cond (.t 8)
 .skip
 (.seq (.reg [O 13 (.bin .eql (.t 3) (.c (.d (.str [60, 61])))),
 O 8 (.mv (.t 13))])
 (.cond (.t 8)
 .skip
 (.reg [O 14 (.bin .eql (.t 3) (.c (.d (.str [62, 61])))),
 O 8 (.mv (.t 14))])))))))))))
 (.cond (.t 8)
 (.seq (.reg [O 2 (.mv (.c (.d (.int .i64 3))))])
 .ret)
 (.seq (.seq (.reg [O 16 (.bin .eql (.t 3) (.c (.d (.str [43])))),
 O 15 (.mv (.t 16))])
 (.cond (.t 15)
 .skip
 (.reg [O 17 (.bin .eql (.t 3) (.c (.d (.str [45])))),
 O 15 (.mv (.t 17))])))
 (.cond (.t 15)
 (.seq (.reg [O 2 (.mv (.c (.d (.int .i64 4))))])
 .ret)
 (.seq (.seq (.reg [O 19 (.bin .eql (.t 3) (.c (.d (.str [42])))),
 O 18 (.mv (.t 19))])
 (.cond (.t 18)
 .skip
 (.seq (.reg [O 20 (.bin .eql (.t 3) (.c (.d (.str [47])))),
 O 18 (.mv (.t 20))])
 (.cond (.t 18)
 .skip
 (.reg [O 21 (.bin .eql (.t 3) (.c (.d (.str [37])))),
 O 18 (.mv (.t 21))])))))
 (.cond (.t 18)
 (.seq (.reg [O 2 (.mv (.c (.d (.int .i64 5))))])
 .ret)
 .skip))))))))))))
 (.seq (.reg [O 2 (.mv (.c (.d (.int .i64 0))))])
 .ret)))
def F98 : VFn := ⟨1, 22, B98, [.tmp 2], false⟩

def A98 : Ann := ⟨keepOf [], ghostOf []⟩
-- 99 patina/patinaref13.is
def B99 : VCode :=
 (.seq (.reg [O 4 (.mv (.c (.d (.bool false))))])
 (.seq (.seq (.reg [O 5 (.mv (.t 1))])
 (.block 0 (.seq (.reg [O 7 (.bin .eql (.t 5) (.c (.d (.int .u8 84)))),
 O 6 (.mv (.t 7))])
 (.cond (.t 6)
 (.seq (.reg [O 8 (.mv (.t 0)),
 O 9 (.call 33 [(.t 8)]),
 O 4 (.mv (.t 9))])
 .ret)
 (.seq (.reg [O 11 (.bin .eql (.t 5) (.c (.d (.int .u8 83)))),
 O 10 (.mv (.t 11))])
 (.cond (.t 10)
 (.seq (.reg [O 12 (.mv (.t 0)),
 O 13 (.call 48 [(.t 12)]),
 O 4 (.mv (.t 13))])
 .ret)
 (.seq (.reg [O 15 (.bin .eql (.t 5) (.c (.d (.int .u8 69)))),
 O 14 (.mv (.t 15))])
 (.cond (.t 14)
 (.seq (.reg [O 16 (.mv (.t 0)),
 O 17 (.call 114 [(.t 16)]),
 O 4 (.mv (.t 17))])
 .ret)
 (.seq (.reg [O 19 (.bin .eql (.t 5) (.c (.d (.int .u8 80)))),
 O 18 (.mv (.t 19))])
 (.cond (.t 18)
 (.seq (.reg [O 20 (.mv (.t 0)),
 O 21 (.call 95 [(.t 20)]),
 O 4 (.mv (.t 21))])
 .ret)
 (.seq (.reg [O 23 (.bin .eql (.t 5) (.c (.d (.int .u8 66)))),
 O 22 (.mv (.t 23))])
 (.cond (.t 22)
 (.seq (.reg [O 24 (.mv (.t 0)),
 O 25 (.bin .eql (.t 24) (.c (.d (.int .i64 20)))),
 O 4 (.mv (.t 25))])
 .ret)
 (.seq (.reg [O 27 (.bin .eql (.t 5) (.c (.d (.int .u8 73)))),
 O 26 (.mv (.t 27))])
 (.cond (.t 26)
 (.seq (.reg [O 28 (.mv (.t 0)),
 O 29 (.bin .eql (.t 28) (.c (.d (.int .i64 2)))),
 O 30 (.mv (.t 29)),
 G 31 (.mv (.t 0)) 30 false,
 G 32 (.bin .eql (.t 31) (.c (.d (.int .i64 3)))) 30 false,
 O 33 (.pick (.t 30) (.c (.d (.bool true))) (.t 32)),
 O 34 (.mv (.t 33)),
 G 35 (.mv (.t 0)) 34 false,
 G 36 (.bin .eql (.t 35) (.c (.d (.int .i64 4)))) 34 false,
 O 37 (.pick (.t 34) (.c (.d (.bool true))) (.t 36)),
 O 4 (.mv (.t 37))])
 .ret)
 (.seq (.reg [O 39 (.bin .eql (.t 5) (.c (.d (.int .u8 70)))),
 O 38 (.mv (.t 39))])
 (.cond (.t 38)
 (.seq (.reg [O 40 (.mv (.t 0)),
 O 41 (.bin .eql (.t 40) (.c (.d (.int .i64 5)))),
 O 4 (.mv (.t 41))])
 .ret)
 (.seq (.reg [O 43 (.bin .eql (.t 5) (.c (.d (.int .u8 86)))),
 O 42 (.mv (.t 43))])
 (.cond (.t 42)
 (.seq (.reg [O 44 (.mv (.t 0)),
 O 45 (.bin .eql (.t 44) (.c (.d (.int .i64 6)))),
 O 4 (.mv (.t 45))])
 .ret)
 (.seq (.reg [O 47 (.bin .eql (.t 5) (.c (.d (.int .u8 77)))),
 O 46 (.mv (.t 47))])
 (.cond (.t 46)
 (.seq (.reg [O 48 (.mv (.t 0)),
 O 49 (.bin .eql (.t 48) (.c (.d (.int .i64 7)))),
 O 4 (.mv (.t 49))])
 .ret)
 (.seq (.reg [O 51 (.bin .eql (.t 5) (.c (.d (.int .u8 65)))),
 O 50 (.mv (.t 51))])
 (.cond (.t 50)
 (.seq (.reg [O 52 (.mv (.t 0)),
 O 53 (.bin .eql (.t 52) (.c (.d (.int .i64 47)))),
 O 4 (.mv (.t 53))])
 .ret)
 (.seq (.reg [O 55 (.bin .eql (.t 5) (.c (.d (.int .u8 74)))),
 O 54 (.mv (.t 55))])
 (.cond (.t 54)
 (.seq (.reg [O 56 (.mv (.t 0)),
 O 57 (.bin .eql (.t 56) (.c (.d (.int .i64 36)))),
 O 4 (.mv (.t 57))])
 .ret)
 .skip))))))))))))))))))))))))
 (.seq (.reg [O 58 (.mv (.t 0)),
 O 59 (.bin .eql (.t 58) (.c (.d (.int .i64 20)))),
 O 60 (.mv (.t 59)),
 G 61 (.mv (.t 0)) 60 false,
 G 62 (.bin .eql (.t 61) (.c (.d (.int .i64 45)))) 60 false,
 O 63 (.pick (.t 60) (.c (.d (.bool true))) (.t 62)),
 O 4 (.mv (.t 63))])
 .ret)))
def F99 : VFn := ⟨2, 64, B99, [.tmp 4], false⟩

def A99 : Ann := ⟨keepOf [], ghostOf []⟩
-- 100 patina/patinaref13.kid
def B100 : VCode :=
 (.seq (.reg [O 3 (.box (.t 0)),
 O 4 (.box (.t 1)),
 O 6 (.mv (.c (.d (.int .i64 0))))])
 (.seq (.draw 7 [O 7 (.fadr 0 (.t 3)),
 O 8 (.ld none (.t 7)),
 O 9 (.fadr 3 (.t 4)),
 O 10 (.ld none (.t 9)),
 O 11 (.mv (.t 2)),
 O 12 (.iadr 1 (.t 10) (.t 11)),
 O 13 (.ld none (.t 12)),
 O 14 (.iadr 6 (.t 8) (.t 13)),
 O 15 (.fadr 0 (.t 14)),
 O 16 (.ld none (.t 15)),
 O 6 (.mv (.t 16))])
 .ret))
def F100 : VFn := ⟨3, 17, B100, [.tmp 6], false⟩

def A100 : Ann := ⟨keepOf [], ghostOf []⟩
-- 101 patina/lex.spelt
def K101_0 : List Nat := [0, 16, 17]
def L101_0 : VCode :=
 (.seq (.reg [O 18 (.bin .lss (.t 17) (.t 16))])
 (.seq (.cond (.t 18)
 .skip
 (.exit 0))
 (.seq (.block 1 (.seq (.reg [O 19 (.mv (.t 17)),
 O 3 (.mv (.t 19))])
 (.seq (.reg [O 20 (.mv (.t 0)),
 O 21 (.mv (.t 3)),
 O 22 (.idx (.t 20) (.t 21)),
 O 23 (.call 116 [(.t 22)]),
 O 24 (.un .not (.t 23)),
 O 25 (.mv (.t 24)),
 G 26 (.mv (.t 0)) 25 true,
 G 27 (.mv (.t 3)) 25 true,
 G 28 (.idx (.t 26) (.t 27)) 25 true,
 G 29 (.call 115 [(.t 28)]) 25 true,
 G 30 (.un .not (.t 29)) 25 true,
 O 31 (.pick (.t 25) (.t 30) (.c (.d (.bool false))))])
 (.cond (.t 31)
 (.seq (.reg [O 2 (.mv (.c (.d (.bool false))))])
 .ret)
 .skip))))
 (.reg [O 32 (.bin .add (.t 17) (.c (.d (.int .i64 1)))),
 O 17 (.mv (.t 32))]))))
def B101 : VCode :=
 (.seq (.reg [O 2 (.mv (.c (.d (.bool false))))])
 (.seq (.seq (.reg [O 4 (.mv (.t 0)),
 O 5 (.bin .eql (.t 4) (.c (.d (.str [])))),
 O 6 (.mv (.t 5)),
 G 7 (.mv (.t 0)) 6 false,
 G 8 (.bin .eql (.t 7) (.c (.d (.str [95])))) 6 false,
 O 9 (.pick (.t 6) (.c (.d (.bool true))) (.t 8)),
 O 10 (.mv (.t 9)),
 G 11 (.mv (.t 0)) 10 false,
 G 12 (.idx (.t 11) (.c (.d (.int .i64 0)))) 10 false,
 G 13 (.call 115 [(.t 12)]) 10 false,
 O 14 (.pick (.t 10) (.c (.d (.bool true))) (.t 13))])
 (.cond (.t 14)
 (.seq (.reg [O 2 (.mv (.c (.d (.bool false))))])
 .ret)
 .skip))
 (.seq (.seq (.reg [O 15 (.mv (.t 0)),
 O 16 (.len true (.t 15)),
 O 17 (.mv (.c (.d (.int .i64 0))))])
 (.block 0 (.loop K101_0 L101_0)))
 (.seq (.reg [O 2 (.mv (.c (.d (.bool true))))])
 .ret))))
def F101 : VFn := ⟨1, 33, B101, [.tmp 2], false⟩

def A101 : Ann := ⟨keepOf [(4, [0, 16, 17])], ghostOf []⟩
-- 102 patina/lex.Word
def B102 : VCode :=
 (.seq (.reg [O 2 (.mv (.c (.d (.bool false))))])
 (.seq (.seq (.reg [O 3 (.mv (.t 0))])
 (.block 0 (.seq (.block 2 (.block 1 (.seq (.seq (.seq (.seq (.reg [O 5 (.bin .eql (.t 3) (.c (.d (.str [102, 110])))),
 O 4 (.mv (.t 5))])
 (.cond (.t 4)
 .skip
 (.seq (.reg [O 6 (.bin .eql (.t 3) (.c (.d (.str [115, 116, 114, 117, 99, 116])))),
 O 4 (.mv (.t 6))])
 (.cond (.t 4)
 .skip
 (.seq (.reg [O 7 (.bin .eql (.t 3) (.c (.d (.str [101, 110, 117, 109])))),
 O 4 (.mv (.t 7))])
 (.cond (.t 4)
 .skip
 (.seq (.reg [O 8 (.bin .eql (.t 3) (.c (.d (.str [108, 101, 116])))),
 O 4 (.mv (.t 8))])
 (.cond (.t 4)
 .skip
 (.seq (.reg [O 9 (.bin .eql (.t 3) (.c (.d (.str [109, 117, 116])))),
 O 4 (.mv (.t 9))])
 (.cond (.t 4)
 .skip
 (.seq (.reg [O 10 (.bin .eql (.t 3) (.c (.d (.str [119, 104, 105, 108, 101])))),
 O 4 (.mv (.t 10))])
 (.cond (.t 4)
 .skip
 (.seq (.reg [O 11 (.bin .eql (.t 3) (.c (.d (.str [105, 102])))),
 O 4 (.mv (.t 11))])
 (.cond (.t 4)
 .skip
 (.seq (.reg [O 12 (.bin .eql (.t 3) (.c (.d (.str [101, 108, 115, 101])))),
 O 4 (.mv (.t 12))])
 (.cond (.t 4)
 .skip
 (.reg [O 13 (.bin .eql (.t 3) (.c (.d (.str [109, 97, 116, 99, 104])))),
 O 4 (.mv (.t 13))])))))))))))))))))
 (.cond (.t 4)
 (.exit 1)
 .skip))
 (.seq (.seq (.reg [O 15 (.bin .eql (.t 3) (.c (.d (.str [114, 101, 116, 117, 114, 110])))),
 O 14 (.mv (.t 15))])
 (.cond (.t 14)
 .skip
 (.seq (.reg [O 16 (.bin .eql (.t 3) (.c (.d (.str [98, 114, 101, 97, 107])))),
 O 14 (.mv (.t 16))])
 (.cond (.t 14)
 .skip
 (.seq (.reg [O 17 (.bin .eql (.t 3) (.c (.d (.str [99, 111, 110, 116, 105, 110, 117, 101])))),
 O 14 (.mv (.t 17))])
 (.cond (.t 14)
 .skip
 (.seq (.reg [O 18 (.bin .eql (.t 3) (.c (.d (.str [116, 114, 117, 101])))),
 O 14 (.mv (.t 18))])
 (.cond (.t 14)
 .skip
 (.seq (.reg [O 19 (.bin .eql (.t 3) (.c (.d (.str [102, 97, 108, 115, 101])))),
 O 14 (.mv (.t 19))])
 (.cond (.t 14)
 .skip
 (.seq (.reg [O 20 (.bin .eql (.t 3) (.c (.d (.str [105, 54, 52])))),
 O 14 (.mv (.t 20))])
 (.cond (.t 14)
 .skip
 (.seq (.reg [O 21 (.bin .eql (.t 3) (.c (.d (.str [98, 111, 111, 108])))),
 O 14 (.mv (.t 21))])
 (.cond (.t 14)
 .skip
 (.reg [O 22 (.bin .eql (.t 3) (.c (.d (.str [66, 111, 120])))),
 O 14 (.mv (.t 22))])))))))))))))))
 (.cond (.t 14)
 (.exit 2)
 .skip)))
 (.exit 0))))
 (.seq (.seq (.reg [O 2 (.mv (.c (.d (.bool true))))])
 .ret)
 (.exit 0)))))
 (.seq (.reg [O 2 (.mv (.c (.d (.bool false))))])
 .ret)))
def F102 : VFn := ⟨1, 23, B102, [.tmp 2], false⟩

def A102 : Ann := ⟨keepOf [], ghostOf []⟩
-- 105 patina/tree.is
def B105 : VCode :=
 (.seq (.reg [O 4 (.mv (.c (.d (.bool false))))])
 (.seq (.seq (.reg [O 5 (.mv (.t 0))])
 (.block 0 (.seq (.reg [O 7 (.bin .eql (.t 5) (.c (.d (.int .u8 105)))),
 O 6 (.mv (.t 7))])
 (.cond (.t 6)
 (.seq (.reg [O 8 (.mv (.t 1)),
 O 9 (.bin .eql (.t 8) (.c (.d (.int .i64 2)))),
 O 10 (.mv (.t 9)),
 G 11 (.mv (.t 1)) 10 false,
 G 12 (.bin .eql (.t 11) (.c (.d (.int .i64 3)))) 10 false,
 O 13 (.pick (.t 10) (.c (.d (.bool true))) (.t 12)),
 O 14 (.mv (.t 13)),
 G 15 (.mv (.t 1)) 14 false,
 G 16 (.bin .eql (.t 15) (.c (.d (.int .i64 4)))) 14 false,
 O 17 (.pick (.t 14) (.c (.d (.bool true))) (.t 16)),
 O 4 (.mv (.t 17))])
 .ret)
 (.seq (.reg [O 19 (.bin .eql (.t 5) (.c (.d (.int .u8 116)))),
 O 18 (.mv (.t 19))])
 (.cond (.t 18)
 (.seq (.reg [O 20 (.mv (.t 1)),
 O 21 (.call 31 [(.t 20)]),
 O 4 (.mv (.t 21))])
 .ret)
 (.seq (.reg [O 23 (.bin .eql (.t 5) (.c (.d (.int .u8 115)))),
 O 22 (.mv (.t 23))])
 (.cond (.t 22)
 (.seq (.reg [O 24 (.mv (.t 1)),
 O 25 (.call 38 [(.t 24)]),
 O 4 (.mv (.t 25))])
 .ret)
 (.seq (.reg [O 27 (.bin .eql (.t 5) (.c (.d (.int .u8 101)))),
 O 26 (.mv (.t 27))])
 (.cond (.t 26)
 (.seq (.reg [O 28 (.mv (.t 1)),
 O 29 (.call 82 [(.t 28)]),
 O 4 (.mv (.t 29))])
 .ret)
 (.seq (.reg [O 31 (.bin .eql (.t 5) (.c (.d (.int .u8 112)))),
 O 30 (.mv (.t 31))])
 (.cond (.t 30)
 (.seq (.reg [O 32 (.mv (.t 1)),
 O 33 (.call 81 [(.t 32)]),
 O 4 (.mv (.t 33))])
 .ret)
 (.seq (.reg [O 35 (.bin .eql (.t 5) (.c (.d (.int .u8 98)))),
 O 34 (.mv (.t 35))])
 (.cond (.t 34)
 (.seq (.reg [O 36 (.mv (.t 1)),
 O 37 (.bin .eql (.t 36) (.c (.d (.int .i64 20)))),
 O 4 (.mv (.t 37))])
 .ret)
 (.seq (.reg [O 39 (.bin .eql (.t 5) (.c (.d (.int .u8 102)))),
 O 38 (.mv (.t 39))])
 (.cond (.t 38)
 (.seq (.reg [O 40 (.mv (.t 1)),
 O 41 (.bin .eql (.t 40) (.c (.d (.int .i64 5)))),
 O 4 (.mv (.t 41))])
 .ret)
 (.seq (.reg [O 43 (.bin .eql (.t 5) (.c (.d (.int .u8 118)))),
 O 42 (.mv (.t 43))])
 (.cond (.t 42)
 (.seq (.reg [O 44 (.mv (.t 1)),
 O 45 (.bin .eql (.t 44) (.c (.d (.int .i64 6)))),
 O 4 (.mv (.t 45))])
 .ret)
 (.seq (.reg [O 47 (.bin .eql (.t 5) (.c (.d (.int .u8 110)))),
 O 46 (.mv (.t 47))])
 (.cond (.t 46)
 (.seq (.reg [O 48 (.mv (.t 1)),
 O 49 (.bin .eql (.t 48) (.c (.d (.int .i64 36)))),
 O 4 (.mv (.t 49))])
 .ret)
 (.seq (.reg [O 51 (.bin .eql (.t 5) (.c (.d (.int .u8 97)))),
 O 50 (.mv (.t 51))])
 (.cond (.t 50)
 (.seq (.reg [O 52 (.mv (.t 1)),
 O 53 (.bin .eql (.t 52) (.c (.d (.int .i64 47)))),
 O 4 (.mv (.t 53))])
 .ret)
 (.seq (.reg [O 55 (.bin .eql (.t 5) (.c (.d (.int .u8 113)))),
 O 54 (.mv (.t 55))])
 (.cond (.t 54)
 (.seq (.reg [O 56 (.mv (.t 1)),
 O 57 (.bin .eql (.t 56) (.c (.d (.int .i64 7)))),
 O 4 (.mv (.t 57))])
 .ret)
 (.seq (.reg [O 59 (.bin .eql (.t 5) (.c (.d (.int .u8 111)))),
 O 58 (.mv (.t 59))])
 (.cond (.t 58)
 (.seq (.reg [O 60 (.mv (.t 1)),
 O 61 (.bin .eql (.t 60) (.c (.d (.int .i64 20)))),
 O 62 (.mv (.t 61)),
 G 63 (.mv (.t 1)) 62 false,
 G 64 (.bin .eql (.t 63) (.c (.d (.int .i64 45)))) 62 false,
 O 65 (.pick (.t 62) (.c (.d (.bool true))) (.t 64)),
 O 4 (.mv (.t 65))])
 .ret)
 .skip))))))))))))))))))))))))))
 (.seq (.reg [O 4 (.mv (.c (.d (.bool false))))])
 .ret)))
def F105 : VFn := ⟨2, 66, B105, [.tmp 4], false⟩

def A105 : Ann := ⟨keepOf [], ghostOf []⟩
-- 106 slices.ContainsFunc[[]int,int]
def B106 : VCode :=
 (.seq (.reg [O 4 (.mv (.c (.d (.bool false))))])
 (.seq (.reg [O 5 (.mv (.t 0)),
 O 6 (.mv (.t 1)),
 O 7 (.call 119 [(.t 5), (.t 6)]),
 O 8 (.bin .geq (.t 7) (.c (.d (.int .i64 0)))),
 O 4 (.mv (.t 8))])
 .ret))
def F106 : VFn := ⟨2, 9, B106, [.tmp 4], false⟩

def A106 : Ann := ⟨keepOf [], ghostOf []⟩
-- 107 patina/tree.all$1
def B107 : VCode :=
 (.seq (.reg [O 3 (.mv (.c (.d (.bool false))))])
 (.seq (.reg [O 4 (.ld none (.t 1)),
 O 5 (.mv (.t 0)),
 O 6 (.call 105 [(.t 4), (.t 5)]),
 O 7 (.un .not (.t 6)),
 O 3 (.mv (.t 7))])
 .ret))
def F107 : VFn := ⟨2, 8, B107, [.tmp 3], false⟩

def A107 : Ann := ⟨keepOf [], ghostOf []⟩
-- 112 patina/patinaref11.spelt
def K112_0 : List Nat := [0, 3]
def L112_0 : VCode :=
 (.seq (.seq (.reg [O 16 (.mv (.t 3)),
 O 17 (.mv (.t 0)),
 O 18 (.len true (.t 17)),
 O 19 (.bin .lss (.t 16) (.t 18))])
 (.cond (.t 19)
 .skip
 (.exit 0)))
 (.seq (.block 1 (.seq (.reg [O 22 (.mv (.t 0)),
 O 23 (.mv (.t 3)),
 O 24 (.idx (.t 22) (.t 23)),
 O 25 (.call 125 [(.t 24)]),
 O 26 (.un .not (.t 25)),
 O 27 (.mv (.t 26)),
 G 28 (.mv (.t 0)) 27 true,
 G 29 (.mv (.t 3)) 27 true,
 G 30 (.idx (.t 28) (.t 29)) 27 true,
 G 31 (.call 126 [(.t 30)]) 27 true,
 G 32 (.un .not (.t 31)) 27 true,
 O 33 (.pick (.t 27) (.t 32) (.c (.d (.bool false))))])
 (.cond (.t 33)
 (.seq (.reg [O 2 (.mv (.c (.d (.bool false))))])
 .ret)
 .skip)))
 (.reg [O 20 (.mv (.t 3)),
 O 21 (.bin .add (.t 20) (.c (.d (.int .i64 1)))),
 O 3 (.mv (.t 21))])))
def B112 : VCode :=
 (.seq (.reg [O 2 (.mv (.c (.d (.bool false))))])
 (.seq (.seq (.reg [O 4 (.mv (.t 0)),
 O 5 (.bin .eql (.t 4) (.c (.d (.str [])))),
 O 6 (.mv (.t 5)),
 G 7 (.mv (.t 0)) 6 false,
 G 8 (.bin .eql (.t 7) (.c (.d (.str [95])))) 6 false,
 O 9 (.pick (.t 6) (.c (.d (.bool true))) (.t 8)),
 O 10 (.mv (.t 9)),
 G 11 (.mv (.t 0)) 10 false,
 G 12 (.idx (.t 11) (.c (.d (.int .i64 0)))) 10 false,
 G 13 (.call 125 [(.t 12)]) 10 false,
 G 14 (.un .not (.t 13)) 10 false,
 O 15 (.pick (.t 10) (.c (.d (.bool true))) (.t 14))])
 (.cond (.t 15)
 (.seq (.reg [O 2 (.mv (.c (.d (.bool false))))])
 .ret)
 .skip))
 (.seq (.seq (.reg [O 3 (.mv (.c (.d (.int .i64 0))))])
 (.block 0 (.loop K112_0 L112_0)))
 (.seq (.reg [O 2 (.mv (.c (.d (.bool true))))])
 .ret))))
def F112 : VFn := ⟨1, 34, B112, [.tmp 2], false⟩

def A112 : Ann := ⟨keepOf [(4, [0, 3])], ghostOf []⟩
-- 113 patina/patinaref11.Word
def K113_0 : List Nat := [0, 5, 6, 7]
def L113_0 : VCode :=
 (.seq (.reg [O 8 (.bin .lss (.t 7) (.t 6))])
 (.seq (.cond (.t 8)
 .skip
 (.exit 0))
 (.seq (.block 1 (.seq (.reg [O 9 (.iadr 1 (.t 5) (.t 7)),
 O 10 (.ld none (.t 9)),
 O 4 (.mv (.t 10))])
 (.seq (.reg [O 11 (.mv (.t 0)),
 O 12 (.mv (.t 4)),
 O 13 (.bin .eql (.t 11) (.t 12))])
 (.cond (.t 13)
 (.seq (.reg [O 2 (.mv (.c (.d (.bool true))))])
 .ret)
 .skip))))
 (.reg [O 14 (.bin .add (.t 7) (.c (.d (.int .i64 1)))),
 O 7 (.mv (.t 14))]))))
def B113 : VCode :=
 (.seq (.reg [O 2 (.mv (.c (.d (.bool false))))])
 (.seq (.seq (.reg [O 5 (.bslice 1 17 [(.c (.d (.str [102, 110]))), (.c (.d (.str [115, 116, 114, 117, 99, 116]))), (.c (.d (.str [101, 110, 117, 109]))), (.c (.d (.str [108, 101, 116]))), (.c (.d (.str [109, 117, 116]))), (.c (.d (.str [119, 104, 105, 108, 101]))), (.c (.d (.str [105, 102]))), (.c (.d (.str [101, 108, 115, 101]))), (.c (.d (.str [109, 97, 116, 99, 104]))), (.c (.d (.str [114, 101, 116, 117, 114, 110]))), (.c (.d (.str [98, 114, 101, 97, 107]))), (.c (.d (.str [99, 111, 110, 116, 105, 110, 117, 101]))), (.c (.d (.str [116, 114, 117, 101]))), (.c (.d (.str [102, 97, 108, 115, 101]))), (.c (.d (.str [105, 54, 52]))), (.c (.d (.str [98, 111, 111, 108]))), (.c (.d (.str [66, 111, 120])))]),
 O 6 (.len false (.t 5)),
 O 7 (.mv (.c (.d (.int .i64 0))))])
 (.block 0 (.loop K113_0 L113_0)))
 (.seq (.reg [O 2 (.mv (.c (.d (.bool false))))])
 .ret)))
def F113 : VFn := ⟨1, 15, B113, [.tmp 2], false⟩

def A113 : Ann := ⟨keepOf [(2, [0, 5, 6, 7])], ghostOf []⟩
-- 114 patina/patinaref13.IsExpr
def B114 : VCode :=
 (.seq (.reg [O 2 (.mv (.c (.d (.bool false))))])
 (.seq (.reg [O 3 (.mv (.t 0)),
 O 4 (.bin .eql (.t 3) (.c (.d (.int .i64 20)))),
 O 5 (.mv (.t 4)),
 G 6 (.mv (.t 0)) 5 false,
 G 7 (.bin .geq (.t 6) (.c (.d (.int .i64 30)))) 5 false,
 G 8 (.mv (.t 7)) 5 false,
 G 9 (.mv (.t 0)) 8 true,
 G 10 (.bin .leq (.t 9) (.c (.d (.int .i64 46)))) 8 true,
 G 11 (.pick (.t 8) (.t 10) (.c (.d (.bool false)))) 5 false,
 G 12 (.mv (.t 11)) 5 false,
 G 13 (.mv (.t 0)) 12 true,
 G 14 (.bin .neq (.t 13) (.c (.d (.int .i64 36)))) 12 true,
 G 15 (.pick (.t 12) (.t 14) (.c (.d (.bool false)))) 5 false,
 O 16 (.pick (.t 5) (.c (.d (.bool true))) (.t 15)),
 O 2 (.mv (.t 16))])
 .ret))
def F114 : VFn := ⟨1, 17, B114, [.tmp 2], false⟩

def A114 : Ann := ⟨keepOf [], ghostOf []⟩
-- 115 patina/lex.digit
def B115 : VCode :=
 (.seq (.reg [O 2 (.mv (.c (.d (.bool false))))])
 (.seq (.seq (.reg [O 3 (.mv (.t 0))])
 (.block 0 (.seq (.block 2 (.block 1 (.seq (.seq (.seq (.seq (.reg [O 5 (.bin .eql (.t 3) (.c (.d (.int .u8 48)))),
 O 4 (.mv (.t 5))])
 (.cond (.t 4)
 .skip
 (.seq (.reg [O 6 (.bin .eql (.t 3) (.c (.d (.int .u8 49)))),
 O 4 (.mv (.t 6))])
 (.cond (.t 4)
 .skip
 (.seq (.reg [O 7 (.bin .eql (.t 3) (.c (.d (.int .u8 50)))),
 O 4 (.mv (.t 7))])
 (.cond (.t 4)
 .skip
 (.seq (.reg [O 8 (.bin .eql (.t 3) (.c (.d (.int .u8 51)))),
 O 4 (.mv (.t 8))])
 (.cond (.t 4)
 .skip
 (.reg [O 9 (.bin .eql (.t 3) (.c (.d (.int .u8 52)))),
 O 4 (.mv (.t 9))])))))))))
 (.cond (.t 4)
 (.exit 1)
 .skip))
 (.seq (.seq (.reg [O 11 (.bin .eql (.t 3) (.c (.d (.int .u8 53)))),
 O 10 (.mv (.t 11))])
 (.cond (.t 10)
 .skip
 (.seq (.reg [O 12 (.bin .eql (.t 3) (.c (.d (.int .u8 54)))),
 O 10 (.mv (.t 12))])
 (.cond (.t 10)
 .skip
 (.seq (.reg [O 13 (.bin .eql (.t 3) (.c (.d (.int .u8 55)))),
 O 10 (.mv (.t 13))])
 (.cond (.t 10)
 .skip
 (.seq (.reg [O 14 (.bin .eql (.t 3) (.c (.d (.int .u8 56)))),
 O 10 (.mv (.t 14))])
 (.cond (.t 10)
 .skip
 (.reg [O 15 (.bin .eql (.t 3) (.c (.d (.int .u8 57)))),
 O 10 (.mv (.t 15))])))))))))
 (.cond (.t 10)
 (.exit 2)
 .skip)))
 (.exit 0))))
 (.seq (.seq (.reg [O 2 (.mv (.c (.d (.bool true))))])
 .ret)
 (.exit 0)))))
 (.seq (.reg [O 2 (.mv (.c (.d (.bool false))))])
 .ret)))
def F115 : VFn := ⟨1, 16, B115, [.tmp 2], false⟩

def A115 : Ann := ⟨keepOf [], ghostOf []⟩
-- 116 patina/lex.letter
def B116 : VCode :=
 (.seq (.reg [O 2 (.mv (.c (.d (.bool false))))])
 (.seq (.reg [O 3 (.mv (.t 0)),
 O 4 (.bin .geq (.t 3) (.c (.d (.int .u8 97)))),
 O 5 (.mv (.t 4)),
 G 6 (.mv (.t 0)) 5 true,
 G 7 (.bin .leq (.t 6) (.c (.d (.int .u8 122)))) 5 true,
 O 8 (.pick (.t 5) (.t 7) (.c (.d (.bool false)))),
 O 9 (.mv (.t 8)),
 G 10 (.mv (.t 0)) 9 false,
 G 11 (.bin .geq (.t 10) (.c (.d (.int .u8 65)))) 9 false,
 G 12 (.mv (.t 11)) 9 false,
 G 13 (.mv (.t 0)) 12 true,
 G 14 (.bin .leq (.t 13) (.c (.d (.int .u8 90)))) 12 true,
 G 15 (.pick (.t 12) (.t 14) (.c (.d (.bool false)))) 9 false,
 O 16 (.pick (.t 9) (.c (.d (.bool true))) (.t 15)),
 O 17 (.mv (.t 16)),
 G 18 (.mv (.t 0)) 17 false,
 G 19 (.bin .eql (.t 18) (.c (.d (.int .u8 95)))) 17 false,
 O 20 (.pick (.t 17) (.c (.d (.bool true))) (.t 19)),
 O 2 (.mv (.t 20))])
 .ret))
def F116 : VFn := ⟨1, 21, B116, [.tmp 2], false⟩

def A116 : Ann := ⟨keepOf [], ghostOf []⟩
-- 119 slices.IndexFunc[[]int,int]
def K119_0 : List Nat := [0, 1, 7, 8]
def L119_0 : VCode :=
 (.seq (.reg [O 9 (.bin .lss (.t 8) (.t 7))])
 (.seq (.cond (.t 9)
 .skip
 (.exit 0))
 (.seq (.block 1 (.seq (.reg [O 10 (.mv (.t 8)),
 O 5 (.mv (.t 10))])
 (.seq (.reg [O 11 (.mv (.t 1)),
 O 12 (.mv (.t 0)),
 O 13 (.mv (.t 5)),
 O 14 (.iadr 1 (.t 12) (.t 13)),
 O 15 (.ld none (.t 14)),
 O 16 (.callv (.t 11) [(.t 15)])])
 (.cond (.t 16)
 (.seq (.reg [O 17 (.mv (.t 5)),
 O 4 (.mv (.t 17))])
 .ret)
 .skip))))
 (.reg [O 18 (.bin .add (.t 8) (.c (.d (.int .i64 1)))),
 O 8 (.mv (.t 18))]))))
def B119 : VCode :=
 (.seq (.reg [O 4 (.mv (.c (.d (.int .i64 0))))])
 (.seq (.seq (.reg [O 6 (.mv (.t 0)),
 O 7 (.len false (.t 6)),
 O 8 (.mv (.c (.d (.int .i64 0))))])
 (.block 0 (.loop K119_0 L119_0)))
 (.seq (.reg [O 4 (.mv (.c (.d (.int .i64 (-1)))))])
 .ret)))
def F119 : VFn := ⟨2, 19, B119, [.tmp 4], false⟩

def A119 : Ann := ⟨keepOf [(2, [0, 1, 7, 8])], ghostOf []⟩
-- 125 patina/patinaref11.letter
def B125 : VCode :=
 (.seq (.reg [O 2 (.mv (.c (.d (.bool false))))])
 (.seq (.reg [O 3 (.mv (.t 0)),
 O 4 (.bin .geq (.t 3) (.c (.d (.int .u8 65)))),
 O 5 (.mv (.t 4)),
 G 6 (.mv (.t 0)) 5 true,
 G 7 (.bin .leq (.t 6) (.c (.d (.int .u8 90)))) 5 true,
 O 8 (.pick (.t 5) (.t 7) (.c (.d (.bool false)))),
 O 9 (.mv (.t 8)),
 G 10 (.mv (.t 0)) 9 false,
 G 11 (.bin .geq (.t 10) (.c (.d (.int .u8 97)))) 9 false,
 G 12 (.mv (.t 11)) 9 false,
 G 13 (.mv (.t 0)) 12 true,
 G 14 (.bin .leq (.t 13) (.c (.d (.int .u8 122)))) 12 true,
 G 15 (.pick (.t 12) (.t 14) (.c (.d (.bool false)))) 9 false,
 O 16 (.pick (.t 9) (.c (.d (.bool true))) (.t 15)),
 O 17 (.mv (.t 16)),
 G 18 (.mv (.t 0)) 17 false,
 G 19 (.bin .eql (.t 18) (.c (.d (.int .u8 95)))) 17 false,
 O 20 (.pick (.t 17) (.c (.d (.bool true))) (.t 19)),
 O 2 (.mv (.t 20))])
 .ret))
def F125 : VFn := ⟨1, 21, B125, [.tmp 2], false⟩

def A125 : Ann := ⟨keepOf [], ghostOf []⟩
-- 126 patina/patinaref11.digit
def B126 : VCode :=
 (.seq (.reg [O 2 (.mv (.c (.d (.bool false))))])
 (.seq (.reg [O 3 (.mv (.t 0)),
 O 4 (.bin .geq (.t 3) (.c (.d (.int .u8 48)))),
 O 5 (.mv (.t 4)),
 G 6 (.mv (.t 0)) 5 true,
 G 7 (.bin .leq (.t 6) (.c (.d (.int .u8 57)))) 5 true,
 O 8 (.pick (.t 5) (.t 7) (.c (.d (.bool false)))),
 O 2 (.mv (.t 8))])
 .ret))
def F126 : VFn := ⟨1, 9, B126, [.tmp 2], false⟩

def A126 : Ann := ⟨keepOf [], ghostOf []⟩
def tbl : Nat → Option VFun
 | 5 => some (.code F5)
 | 6 => some (.code F6)
 | 8 => some (.code F8)
 | 10 => some (.code F10)
 | 13 => some (.code F13)
 | 15 => some (.code F15)
 | 16 => some (.code F16)
 | 17 => some (.code F17)
 | 18 => some (.code F18)
 | 19 => some (.code F19)
 | 20 => some (.code F20)
 | 21 => some (.code F21)
 | 23 => some (.code F23)
 | 25 => some (.code F25)
 | 26 => some (.code F26)
 | 27 => some (.code F27)
 | 28 => some (.code F28)
 | 29 => some (.code F29)
 | 30 => some (.code F30)
 | 31 => some (.code F31)
 | 32 => some (.code F32)
 | 33 => some (.code F33)
 | 34 => some (.code F34)
 | 35 => some (.code F35)
 | 36 => some (.code F36)
 | 37 => some (.code F37)
 | 38 => some (.code F38)
 | 39 => some (.code F39)
 | 40 => some (.code F40)
 | 41 => some (.code F41)
 | 45 => some (.code F45)
 | 48 => some (.code F48)
 | 57 => some (.code F57)
 | 58 => some (.code F58)
 | 59 => some (.code F59)
 | 60 => some (.code F60)
 | 61 => some (.code F61)
 | 62 => some (.code F62)
 | 63 => some (.code F63)
 | 64 => some (.code F64)
 | 65 => some (.code F65)
 | 66 => some (.code F66)
 | 67 => some (.code F67)
 | 68 => some (.code F68)
 | 70 => some (.code F70)
 | 71 => some (.code F71)
 | 74 => some (.code F74)
 | 75 => some (.code F75)
 | 76 => some (.code F76)
 | 77 => some (.code F77)
 | 78 => some (.code F78)
 | 81 => some (.code F81)
 | 82 => some (.code F82)
 | 83 => some (.code F83)
 | 85 => some (.code F85)
 | 86 => some (.code F86)
 | 88 => some (.code F88)
 | 89 => some (.code F89)
 | 90 => some (.code F90)
 | 92 => some (.code F92)
 | 95 => some (.code F95)
 | 96 => some (.code F96)
 | 97 => some (.code F97)
 | 98 => some (.code F98)
 | 99 => some (.code F99)
 | 100 => some (.code F100)
 | 101 => some (.code F101)
 | 102 => some (.code F102)
 | 105 => some (.code F105)
 | 106 => some (.code F106)
 | 107 => some (.code F107)
 | 112 => some (.code F112)
 | 113 => some (.code F113)
 | 114 => some (.code F114)
 | 115 => some (.code F115)
 | 116 => some (.code F116)
 | 119 => some (.code F119)
 | 125 => some (.code F125)
 | 126 => some (.code F126)
 | 22 => some (.prim primJoin)
 | 69 => some (.prim primFmt)
 | 84 => some (.prim primCut)
 | 87 => some (.prim primIndexByte)
 | _ => none
abbrev n_law13_TreeParts : Nat := 5
theorem t_law13_TreeParts : tbl 5 = some (.code F5) := rfl
abbrev n_tree_Print : Nat := 6
theorem t_tree_Print : tbl 6 = some (.code F6) := rfl
abbrev n_tree_Check : Nat := 8
theorem t_tree_Check : tbl 8 = some (.code F8) := rfl
abbrev n_law13_small : Nat := 10
theorem t_law13_small : tbl 10 = some (.code F10) := rfl
abbrev n_tree_Depth : Nat := 13
theorem t_tree_Depth : tbl 13 = some (.code F13) := rfl
abbrev n_plain_Ints : Nat := 15
theorem t_plain_Ints : tbl 15 = some (.code F15) := rfl
abbrev n_tree_Sub : Nat := 16
theorem t_tree_Sub : tbl 16 = some (.code F16) := rfl
abbrev n_ref13_Sub : Nat := 17
theorem t_ref13_Sub : tbl 17 = some (.code F17) := rfl
abbrev n_tree_Type : Nat := 18
theorem t_tree_Type : tbl 18 = some (.code F18) := rfl
abbrev n_ref13_Type : Nat := 19
theorem t_ref13_Type : tbl 19 = some (.code F19) := rfl
abbrev n_plain_Tree : Nat := 20
theorem t_plain_Tree : tbl 20 = some (.code F20) := rfl
abbrev n_tree_printer_node : Nat := 21
theorem t_tree_printer_node : tbl 21 = some (.code F21) := rfl
abbrev n_ref13_Right : Nat := 23
theorem t_ref13_Right : tbl 23 = some (.code F23) := rfl
abbrev n_tree_node : Nat := 25
theorem t_tree_node : tbl 25 = some (.code F25) := rfl
abbrev n_tree_parents : Nat := 26
theorem t_tree_parents : tbl 26 = some (.code F26) := rfl
abbrev n_slices_Max_int_int : Nat := 27
theorem t_slices_Max_int_int : tbl 27 = some (.code F27) := rfl
abbrev n_tree_depths : Nat := 28
theorem t_tree_depths : tbl 28 = some (.code F28) := rfl
abbrev n_ref13_parents : Nat := 29
theorem t_ref13_parents : tbl 29 = some (.code F29) := rfl
abbrev n_ref13_deep : Nat := 30
theorem t_ref13_deep : tbl 30 = some (.code F30) := rfl
abbrev n_tree_isType : Nat := 31
theorem t_tree_isType : tbl 31 = some (.code F31) := rfl
abbrev n_tree_text : Nat := 32
theorem t_tree_text : tbl 32 = some (.code F32) := rfl
abbrev n_ref13_IsType : Nat := 33
theorem t_ref13_IsType : tbl 33 = some (.code F33) := rfl
abbrev n_ref13_TypeText : Nat := 34
theorem t_ref13_TypeText : tbl 34 = some (.code F34) := rfl
abbrev n_tree_printer_block : Nat := 35
theorem t_tree_printer_block : tbl 35 = some (.code F35) := rfl
abbrev n_tree_printer_item : Nat := 36
theorem t_tree_printer_item : tbl 36 = some (.code F36) := rfl
abbrev n_tree_printer_typ : Nat := 37
theorem t_tree_printer_typ : tbl 37 = some (.code F37) := rfl
abbrev n_tree_isStmt : Nat := 38
theorem t_tree_isStmt : tbl 38 = some (.code F38) := rfl
abbrev n_tree_printer_stmt : Nat := 39
theorem t_tree_printer_stmt : tbl 39 = some (.code F39) := rfl
abbrev n_tree_printer_expr : Nat := 40
theorem t_tree_printer_expr : tbl 40 = some (.code F40) := rfl
abbrev n_tree_printer_primary : Nat := 41
theorem t_tree_printer_primary : tbl 41 = some (.code F41) := rfl
abbrev n_ref13_node : Nat := 45
theorem t_ref13_node : tbl 45 = some (.code F45) := rfl
abbrev n_ref13_IsStmt : Nat := 48
theorem t_ref13_IsStmt : tbl 48 = some (.code F48) := rfl
abbrev n_tree_known : Nat := 57
theorem t_tree_known : tbl 57 = some (.code F57) := rfl
abbrev n_tree_name : Nat := 58
theorem t_tree_name : tbl 58 = some (.code F58) := rfl
abbrev n_tree_num : Nat := 59
theorem t_tree_num : tbl 59 = some (.code F59) := rfl
abbrev n_tree_fits : Nat := 60
theorem t_tree_fits : tbl 60 = some (.code F60) := rfl
abbrev n_slices_Contains_int_int : Nat := 61
theorem t_slices_Contains_int_int : tbl 61 = some (.code F61) := rfl
abbrev n_tree_printer_put : Nat := 62
theorem t_tree_printer_put : tbl 62 = some (.code F62) := rfl
abbrev n_tree_printer_function : Nat := 63
theorem t_tree_printer_function : tbl 63 = some (.code F63) := rfl
abbrev n_tree_printer_list : Nat := 64
theorem t_tree_printer_list : tbl 64 = some (.code F64) := rfl
abbrev n_tree_printer_perhaps : Nat := 65
theorem t_tree_printer_perhaps : tbl 65 = some (.code F65) := rfl
abbrev n_tree_printer_let : Nat := 66
theorem t_tree_printer_let : tbl 66 = some (.code F66) := rfl
abbrev n_tree_printer_operand : Nat := 67
theorem t_tree_printer_operand : tbl 67 = some (.code F67) := rfl
abbrev n_tree_printer_ahead : Nat := 68
theorem t_tree_printer_ahead : tbl 68 = some (.code F68) := rfl
abbrev n_strconv_FormatBool : Nat := 70
theorem t_strconv_FormatBool : tbl 70 = some (.code F70) := rfl
abbrev n_tree_printer_named : Nat := 71
theorem t_tree_printer_named : tbl 71 = some (.code F71) := rfl
abbrev n_ref13_known : Nat := 74
theorem t_ref13_known : tbl 74 = some (.code F74) := rfl
abbrev n_ref13_named : Nat := 75
theorem t_ref13_named : tbl 75 = some (.code F75) := rfl
abbrev n_ref13_counted : Nat := 76
theorem t_ref13_counted : tbl 76 = some (.code F76) := rfl
abbrev n_ref13_forms : Nat := 77
theorem t_ref13_forms : tbl 77 = some (.code F77) := rfl
abbrev n_ref13_fits : Nat := 78
theorem t_ref13_fits : tbl 78 = some (.code F78) := rfl
abbrev n_tree_isPattern : Nat := 81
theorem t_tree_isPattern : tbl 81 = some (.code F81) := rfl
abbrev n_tree_isExpr : Nat := 82
theorem t_tree_isExpr : tbl 82 = some (.code F82) := rfl
abbrev n_lex_Name : Nat := 83
theorem t_lex_Name : tbl 83 = some (.code F83) := rfl
abbrev n_tree_sign : Nat := 85
theorem t_tree_sign : tbl 85 = some (.code F85) := rfl
abbrev n_tree_shape : Nat := 86
theorem t_tree_shape : tbl 86 = some (.code F86) := rfl
abbrev n_tree_kids : Nat := 88
theorem t_tree_kids : tbl 88 = some (.code F88) := rfl
abbrev n_tree_all : Nat := 89
theorem t_tree_all : tbl 89 = some (.code F89) := rfl
abbrev n_slices_Index_int_int : Nat := 90
theorem t_slices_Index_int_int : tbl 90 = some (.code F90) := rfl
abbrev n_internal_strconv_FormatBool : Nat := 92
theorem t_internal_strconv_FormatBool : tbl 92 = some (.code F92) := rfl
abbrev n_ref13_IsPattern : Nat := 95
theorem t_ref13_IsPattern : tbl 95 = some (.code F95) := rfl
abbrev n_ref11_Name : Nat := 96
theorem t_ref11_Name : tbl 96 = some (.code F96) := rfl
abbrev n_ref13_picked : Nat := 97
theorem t_ref13_picked : tbl 97 = some (.code F97) := rfl
abbrev n_ref13_Sign : Nat := 98
theorem t_ref13_Sign : tbl 98 = some (.code F98) := rfl
abbrev n_ref13_is : Nat := 99
theorem t_ref13_is : tbl 99 = some (.code F99) := rfl
abbrev n_ref13_kid : Nat := 100
theorem t_ref13_kid : tbl 100 = some (.code F100) := rfl
abbrev n_lex_spelt : Nat := 101
theorem t_lex_spelt : tbl 101 = some (.code F101) := rfl
abbrev n_lex_Word : Nat := 102
theorem t_lex_Word : tbl 102 = some (.code F102) := rfl
abbrev n_tree_is : Nat := 105
theorem t_tree_is : tbl 105 = some (.code F105) := rfl
abbrev n_slices_ContainsFunc_int_int : Nat := 106
theorem t_slices_ContainsFunc_int_int : tbl 106 = some (.code F106) := rfl
abbrev n_tree_all_1 : Nat := 107
theorem t_tree_all_1 : tbl 107 = some (.code F107) := rfl
abbrev n_ref11_spelt : Nat := 112
theorem t_ref11_spelt : tbl 112 = some (.code F112) := rfl
abbrev n_ref11_Word : Nat := 113
theorem t_ref11_Word : tbl 113 = some (.code F113) := rfl
abbrev n_ref13_IsExpr : Nat := 114
theorem t_ref13_IsExpr : tbl 114 = some (.code F114) := rfl
abbrev n_lex_digit : Nat := 115
theorem t_lex_digit : tbl 115 = some (.code F115) := rfl
abbrev n_lex_letter : Nat := 116
theorem t_lex_letter : tbl 116 = some (.code F116) := rfl
abbrev n_slices_IndexFunc_int_int : Nat := 119
theorem t_slices_IndexFunc_int_int : tbl 119 = some (.code F119) := rfl
abbrev n_ref11_letter : Nat := 125
theorem t_ref11_letter : tbl 125 = some (.code F125) := rfl
abbrev n_ref11_digit : Nat := 126
theorem t_ref11_digit : tbl 126 = some (.code F126) := rfl
abbrev n_primJoin : Nat := 22
theorem t_primJoin : tbl 22 = some (.prim primJoin) := rfl
abbrev n_primFmt : Nat := 69
theorem t_primFmt : tbl 69 = some (.prim primFmt) := rfl
abbrev n_primCut : Nat := 84
theorem t_primCut : tbl 84 = some (.prim primCut) := rfl
abbrev n_primIndexByte : Nat := 87
theorem t_primIndexByte : tbl 87 = some (.prim primIndexByte) := rfl
end Go.Vm.Tre
