import Derived.Test.YtbaoljbcdjdnlaaGreatDoorVmRun
import Derived.Test.YtbaoljbcdjdnlaaGreatDoorVmTr
import Derived.Test.YtbaoljbcdjdnlaaGreatDoorVmPrimCut
set_option maxRecDepth 100000
namespace Go.Vm.Tre
open Go Go.Vm
def keepOf (l : List (Nat × List Nat)) (i : Nat) : List Nat := ((l.find? (·.1 == i)).map (·.2)).getD []
def ghostOf (l : List (Nat × List VCode)) (i : Nat) : List VCode := ((l.find? (·.1 == i)).map (·.2)).getD []
-- 4 patina/patinalaw13.TreeUps
def B4 : VCode :=
 (.seq (.reg [⟨(some 1), .box (.t 0), none⟩,
 ⟨(some 2), .mv (.c (.d (.bool false))), none⟩])
 (.seq (.reg [⟨(some 12), .ld (some 1) (.t 1), none⟩,
 ⟨(some 13), .call 11 [(.t 12)], none⟩,
 ⟨(some 11), .mv (.t 13), none⟩,
 ⟨(some 14), .ext (.t 11) 0, none⟩,
 ⟨(some 15), .ext (.t 11) 1, none⟩,
 ⟨(some 3), .mv (.t 14), none⟩,
 ⟨(some 4), .mv (.t 15), none⟩])
 (.seq (.reg [⟨(some 17), .ld (some 1) (.t 1), none⟩,
 ⟨(some 18), .call 12 [(.t 17)], none⟩,
 ⟨(some 16), .mv (.t 18), none⟩,
 ⟨(some 19), .ext (.t 16) 0, none⟩,
 ⟨(some 20), .ext (.t 16) 1, none⟩,
 ⟨(some 5), .mv (.t 19), none⟩,
 ⟨(some 6), .mv (.t 20), none⟩])
 (.seq (.reg [⟨(some 22), .ld (some 1) (.t 1), none⟩,
 ⟨(some 23), .call 13 [(.t 22)], none⟩,
 ⟨(some 21), .mv (.t 23), none⟩,
 ⟨(some 24), .ext (.t 21) 0, none⟩,
 ⟨(some 25), .ext (.t 21) 1, none⟩,
 ⟨(some 7), .mv (.t 24), none⟩,
 ⟨(some 8), .mv (.t 25), none⟩])
 (.seq (.reg [⟨(some 27), .ld (some 1) (.t 1), none⟩,
 ⟨(some 28), .call 14 [(.t 27)], none⟩,
 ⟨(some 26), .mv (.t 28), none⟩,
 ⟨(some 29), .ext (.t 26) 0, none⟩,
 ⟨(some 30), .ext (.t 26) 1, none⟩,
 ⟨(some 9), .mv (.t 29), none⟩,
 ⟨(some 10), .mv (.t 30), none⟩])
 (.seq (.reg [⟨(some 31), .mv (.t 3), none⟩,
 ⟨(some 32), .mv (.t 5), none⟩,
 ⟨(some 33), .call 15 [(.t 31), (.t 32)], none⟩,
 ⟨(some 34), .mv (.t 33), none⟩,
 ⟨(some 35), .mv (.t 4), some (34, true)⟩,
 ⟨(some 36), .mv (.t 6), some (34, true)⟩,
 ⟨(some 37), .bin .eql (.t 35) (.t 36), some (34, true)⟩,
 ⟨(some 38), .pick (.t 34) (.t 37) (.c (.d (.bool false))), none⟩,
 ⟨(some 39), .mv (.t 38), none⟩,
 ⟨(some 40), .mv (.t 7), some (39, true)⟩,
 ⟨(some 41), .mv (.t 9), some (39, true)⟩,
 ⟨(some 42), .bin .eql (.t 40) (.t 41), some (39, true)⟩,
 ⟨(some 43), .pick (.t 39) (.t 42) (.c (.d (.bool false))), none⟩,
 ⟨(some 44), .mv (.t 43), none⟩,
 ⟨(some 45), .mv (.t 8), some (44, true)⟩,
 ⟨(some 46), .mv (.t 10), some (44, true)⟩,
 ⟨(some 47), .bin .eql (.t 45) (.t 46), some (44, true)⟩,
 ⟨(some 48), .pick (.t 44) (.t 47) (.c (.d (.bool false))), none⟩,
 ⟨(some 49), .mv (.t 48), none⟩,
 ⟨(some 50), .call 10 [], some (49, true)⟩,
 ⟨(some 51), .pick (.t 49) (.t 50) (.c (.d (.bool false))), none⟩,
 ⟨(some 2), .mv (.t 51), none⟩])
 .ret))))))
def F4 : VFn := ⟨1, 52, B4, [.tmp 2], false⟩

def A4 : Ann := ⟨keepOf [], ghostOf []⟩
-- 6 patina/tree.Print
def B6 : VCode :=
 (.seq (.reg [⟨(some 1), .box (.t 0), none⟩,
 ⟨(some 2), .mv (.c (.d (.str []))), none⟩,
 ⟨(some 3), .mv (.c (.d (.int .i64 0))), none⟩])
 (.seq (.seq (.reg [⟨(some 5), .ld (some 1) (.t 1), none⟩,
 ⟨(some 6), .call 8 [(.t 5)], none⟩,
 ⟨(some 7), .bin .neq (.t 6) (.c (.d (.int .i64 0))), none⟩])
 (.cond (.t 7)
 (.seq (.reg [⟨(some 2), .mv (.c (.d (.str []))), none⟩,
 ⟨(some 3), .mv (.c (.d (.int .i64 3))), none⟩])
 .ret)
 .skip))
 (.seq (.seq (.mkrow 1)
 (.reg [⟨(some 8), .ld (some 1) (.t 1), none⟩,
 ⟨(some 9), .build [.nils, .nils] [(0, 1, (.t 8))], none⟩,
 ⟨(some 10), .box (.t 9), none⟩,
 ⟨(some 4), .mv (.t 10), none⟩]))
 (.seq (.seq (.bindto 4 1 1)
 (.reg [⟨(some 11), .mv (.t 4), none⟩,
 ⟨(some 12), .fadr 0 (.t 1), none⟩,
 ⟨(some 13), .ld none (.t 12), none⟩,
 ⟨(some 14), .len false (.t 13), none⟩,
 ⟨(some 15), .bin .sub (.t 14) (.c (.d (.int .i64 1))), none⟩,
 ⟨(some 16), .call 21 [(.t 11), (.t 15)], none⟩]))
 (.seq (.reg [⟨(some 17), .mv (.t 4), none⟩,
 ⟨(some 18), .nilck (.t 17), none⟩,
 ⟨(some 19), .fadr 1 (.t 18), none⟩,
 ⟨(some 20), .ld none (.t 19), none⟩,
 ⟨(some 21), .call 22 [(.t 20), (.c (.d (.str [32])))], none⟩,
 ⟨(some 2), .mv (.t 21), none⟩,
 ⟨(some 3), .mv (.c (.d (.int .i64 0))), none⟩])
 .ret)))))
def F6 : VFn := ⟨1, 22, B6, [.tmp 2, .tmp 3], false⟩

def A6 : Ann := ⟨keepOf [], ghostOf [(3, [.mkrow 1]), (4, [.bindto 4 1 1])]⟩
-- 8 patina/tree.Check
def K8_0 : List Nat := [1, 28, 29]
def L8_0 : VCode :=
 (.seq (.reg [⟨(some 30), .bin .lss (.t 29) (.t 28), none⟩])
 (.seq (.cond (.t 30)
 .skip
 (.exit 0))
 (.seq (.block 1 (.seq (.reg [⟨(some 31), .mv (.t 29), none⟩,
 ⟨(some 4), .mv (.t 31), none⟩])
 (.seq (.reg [⟨(some 32), .ld (some 1) (.t 1), none⟩,
 ⟨(some 33), .mv (.t 4), none⟩,
 ⟨(some 34), .call 25 [(.t 32), (.t 33)], none⟩,
 ⟨(some 35), .un .not (.t 34), none⟩])
 (.cond (.t 35)
 (.seq (.reg [⟨(some 2), .mv (.c (.d (.int .i64 3))), none⟩])
 .ret)
 .skip))))
 (.reg [⟨(some 36), .bin .add (.t 29) (.c (.d (.int .i64 1))), none⟩,
 ⟨(some 29), .mv (.t 36), none⟩]))))
def B8 : VCode :=
 (.seq (.reg [⟨(some 1), .box (.t 0), none⟩,
 ⟨(some 2), .mv (.c (.d (.int .i64 0))), none⟩])
 (.seq (.reg [⟨(some 7), .fadr 0 (.t 1), none⟩,
 ⟨(some 8), .ld none (.t 7), none⟩,
 ⟨(some 9), .len false (.t 8), none⟩,
 ⟨(some 3), .mv (.t 9), none⟩])
 (.seq (.seq (.reg [⟨(some 10), .mv (.t 3), none⟩,
 ⟨(some 11), .bin .lss (.t 10) (.c (.d (.int .i64 1))), none⟩,
 ⟨(some 12), .mv (.t 11), none⟩,
 ⟨(some 13), .mv (.t 3), some (12, false)⟩,
 ⟨(some 14), .bin .gtr (.t 13) (.c (.d (.int .i64 20000))), some (12, false)⟩,
 ⟨(some 15), .pick (.t 12) (.c (.d (.bool true))) (.t 14), none⟩,
 ⟨(some 16), .mv (.t 15), none⟩,
 ⟨(some 17), .fadr 0 (.t 1), some (16, false)⟩,
 ⟨(some 18), .ld none (.t 17), some (16, false)⟩,
 ⟨(some 19), .mv (.t 3), some (16, false)⟩,
 ⟨(some 20), .bin .sub (.t 19) (.c (.d (.int .i64 1))), some (16, false)⟩,
 ⟨(some 21), .iadr 6 (.t 18) (.t 20), some (16, false)⟩,
 ⟨(some 22), .fadr 0 (.t 21), some (16, false)⟩,
 ⟨(some 23), .ld none (.t 22), some (16, false)⟩,
 ⟨(some 24), .bin .neq (.t 23) (.c (.d (.int .i64 1))), some (16, false)⟩,
 ⟨(some 25), .pick (.t 16) (.c (.d (.bool true))) (.t 24), none⟩])
 (.cond (.t 25)
 (.seq (.reg [⟨(some 2), .mv (.c (.d (.int .i64 3))), none⟩])
 .ret)
 .skip))
 (.seq (.seq (.reg [⟨(some 26), .fadr 0 (.t 1), none⟩,
 ⟨(some 27), .ld none (.t 26), none⟩,
 ⟨(some 28), .len false (.t 27), none⟩,
 ⟨(some 29), .mv (.c (.d (.int .i64 0))), none⟩])
 (.block 0 (.loop K8_0 L8_0)))
 (.seq (.reg [⟨(some 38), .ld (some 1) (.t 1), none⟩,
 ⟨(some 39), .call 26 [(.t 38)], none⟩,
 ⟨(some 37), .mv (.t 39), none⟩,
 ⟨(some 40), .ext (.t 37) 0, none⟩,
 ⟨(some 41), .ext (.t 37) 1, none⟩,
 ⟨(some 5), .mv (.t 40), none⟩,
 ⟨(some 6), .mv (.t 41), none⟩])
 (.seq (.seq (.reg [⟨(some 42), .mv (.t 6), none⟩,
 ⟨(some 43), .un .not (.t 42), none⟩,
 ⟨(some 44), .mv (.t 43), none⟩,
 ⟨(some 45), .mv (.t 5), some (44, false)⟩,
 ⟨(some 46), .call 28 [(.t 45)], some (44, false)⟩,
 ⟨(some 47), .call 27 [(.t 46)], some (44, false)⟩,
 ⟨(some 48), .bin .gtr (.t 47) (.c (.d (.int .i64 400))), some (44, false)⟩,
 ⟨(some 49), .pick (.t 44) (.c (.d (.bool true))) (.t 48), none⟩])
 (.cond (.t 49)
 (.seq (.reg [⟨(some 2), .mv (.c (.d (.int .i64 3))), none⟩])
 .ret)
 .skip))
 (.seq (.reg [⟨(some 2), .mv (.c (.d (.int .i64 0))), none⟩])
 .ret)))))))
def F8 : VFn := ⟨1, 50, B8, [.tmp 2], false⟩

def A8 : Ann := ⟨keepOf [(5, [1, 28, 29])], ghostOf []⟩
-- 10 patina/patinalaw13.small
def B10 : VCode :=
 (.seq (.reg [⟨(some 0), .mv (.c (.d (.bool false))), none⟩])
 (.seq (.reg [⟨(some 6), .build [(.d (.int .i64 0)), (.d (.str [])), (.d (.int .i64 0)), .nils, (.d (.int .i64 0)), (.d (.int .i64 0))] [(0, 1, (.c (.d (.int .i64 12))))], none⟩,
 ⟨(some 7), .build [(.d (.int .i64 0)), (.d (.str [])), (.d (.int .i64 0)), .nils, (.d (.int .i64 0)), (.d (.int .i64 0))] [(0, 1, (.c (.d (.int .i64 20))))], none⟩,
 ⟨(some 8), .bslice 1 2 [(.c (.d (.int .i64 0))), (.c (.d (.int .i64 1)))], none⟩,
 ⟨(some 9), .build [(.d (.int .i64 0)), (.d (.str [])), (.d (.int .i64 0)), .nils, (.d (.int .i64 0)), (.d (.int .i64 0))] [(0, 1, (.c (.d (.int .i64 2)))), (1, 1, (.c (.d (.str [109, 97, 105, 110])))), (3, 1, (.t 8))], none⟩,
 ⟨(some 10), .bslice 1 1 [(.c (.d (.int .i64 2)))], none⟩,
 ⟨(some 11), .build [(.d (.int .i64 0)), (.d (.str [])), (.d (.int .i64 0)), .nils, (.d (.int .i64 0)), (.d (.int .i64 0))] [(0, 1, (.c (.d (.int .i64 1)))), (3, 1, (.t 10))], none⟩,
 ⟨(some 12), .bslice 6 4 [(.t 6), (.t 7), (.t 9), (.t 11)], none⟩,
 ⟨(some 13), .build [.nils] [(0, 1, (.t 12))], none⟩,
 ⟨(some 1), .zbox [.nils], none⟩,
 ⟨none, .st 1 (.t 1) (.t 13), none⟩])
 (.seq (.reg [⟨(some 15), .ld (some 1) (.t 1), none⟩,
 ⟨(some 16), .call 6 [(.t 15)], none⟩,
 ⟨(some 14), .mv (.t 16), none⟩,
 ⟨(some 17), .ext (.t 14) 0, none⟩,
 ⟨(some 18), .ext (.t 14) 1, none⟩,
 ⟨(some 2), .mv (.t 17), none⟩,
 ⟨(some 3), .mv (.t 18), none⟩])
 (.seq (.reg [⟨(some 20), .ld (some 1) (.t 1), none⟩,
 ⟨(some 21), .call 13 [(.t 20)], none⟩,
 ⟨(some 19), .mv (.t 21), none⟩,
 ⟨(some 22), .ext (.t 19) 0, none⟩,
 ⟨(some 23), .ext (.t 19) 1, none⟩,
 ⟨(some 4), .mv (.t 22), none⟩,
 ⟨(some 5), .mv (.t 23), none⟩])
 (.seq (.reg [⟨(some 24), .mv (.t 3), none⟩,
 ⟨(some 25), .bin .eql (.t 24) (.c (.d (.int .i64 0))), none⟩,
 ⟨(some 26), .mv (.t 25), none⟩,
 ⟨(some 27), .mv (.t 2), some (26, true)⟩,
 ⟨(some 28), .bin .eql (.t 27) (.c (.d (.str [102, 110, 32, 109, 97, 105, 110, 32, 40, 32, 41, 32, 123, 32, 125]))), some (26, true)⟩,
 ⟨(some 29), .pick (.t 26) (.t 28) (.c (.d (.bool false))), none⟩,
 ⟨(some 30), .mv (.t 29), none⟩,
 ⟨(some 31), .mv (.t 5), some (30, true)⟩,
 ⟨(some 32), .bin .eql (.t 31) (.c (.d (.int .i64 0))), some (30, true)⟩,
 ⟨(some 33), .pick (.t 30) (.t 32) (.c (.d (.bool false))), none⟩,
 ⟨(some 34), .mv (.t 33), none⟩,
 ⟨(some 35), .mv (.t 4), some (34, true)⟩,
 ⟨(some 36), .bin .eql (.t 35) (.c (.d (.int .i64 2))), some (34, true)⟩,
 ⟨(some 37), .pick (.t 34) (.t 36) (.c (.d (.bool false))), none⟩,
 ⟨(some 38), .mv (.t 37), none⟩,
 ⟨(some 39), .build [.nils] [], some (38, true)⟩,
 ⟨(some 40), .call 8 [(.t 39)], some (38, true)⟩,
 ⟨(some 41), .bin .eql (.t 40) (.c (.d (.int .i64 3))), some (38, true)⟩,
 ⟨(some 42), .pick (.t 38) (.t 41) (.c (.d (.bool false))), none⟩,
 ⟨(some 0), .mv (.t 42), none⟩])
 .ret)))))
def F10 : VFn := ⟨0, 43, B10, [.tmp 0], false⟩

def A10 : Ann := ⟨keepOf [], ghostOf []⟩
-- 11 patina/tree.Parents
def B11 : VCode :=
 (.seq (.reg [⟨(some 1), .box (.t 0), none⟩,
 ⟨(some 2), .mv (.c .nils), none⟩,
 ⟨(some 3), .mv (.c (.d (.int .i64 0))), none⟩])
 (.seq (.seq (.reg [⟨(some 6), .ld (some 1) (.t 1), none⟩,
 ⟨(some 7), .call 8 [(.t 6)], none⟩,
 ⟨(some 8), .bin .neq (.t 7) (.c (.d (.int .i64 0))), none⟩])
 (.cond (.t 8)
 (.seq (.reg [⟨(some 2), .mv (.c .nils), none⟩,
 ⟨(some 3), .mv (.c (.d (.int .i64 3))), none⟩])
 .ret)
 .skip))
 (.seq (.reg [⟨(some 10), .ld (some 1) (.t 1), none⟩,
 ⟨(some 11), .call 26 [(.t 10)], none⟩,
 ⟨(some 9), .mv (.t 11), none⟩,
 ⟨(some 12), .ext (.t 9) 0, none⟩,
 ⟨(some 13), .ext (.t 9) 1, none⟩,
 ⟨(some 4), .mv (.t 12), none⟩,
 ⟨(some 5), .mv (.t 13), none⟩])
 (.seq (.reg [⟨(some 14), .mv (.t 4), none⟩,
 ⟨(some 2), .mv (.t 14), none⟩,
 ⟨(some 3), .mv (.c (.d (.int .i64 0))), none⟩])
 .ret))))
def F11 : VFn := ⟨1, 15, B11, [.tmp 2, .tmp 3], false⟩

def A11 : Ann := ⟨keepOf [], ghostOf []⟩
-- 12 patina/patinaref13.Parents
def B12 : VCode :=
 (.seq (.reg [⟨(some 1), .box (.t 0), none⟩,
 ⟨(some 2), .mv (.c .nils), none⟩,
 ⟨(some 3), .mv (.c (.d (.int .i64 0))), none⟩])
 (.seq (.seq (.reg [⟨(some 6), .ld (some 1) (.t 1), none⟩,
 ⟨(some 7), .call 23 [(.t 6)], none⟩,
 ⟨(some 8), .un .not (.t 7), none⟩])
 (.cond (.t 8)
 (.seq (.reg [⟨(some 2), .mv (.c .nils), none⟩,
 ⟨(some 3), .mv (.c (.d (.int .i64 3))), none⟩])
 .ret)
 .skip))
 (.seq (.reg [⟨(some 10), .ld (some 1) (.t 1), none⟩,
 ⟨(some 11), .call 29 [(.t 10)], none⟩,
 ⟨(some 9), .mv (.t 11), none⟩,
 ⟨(some 12), .ext (.t 9) 0, none⟩,
 ⟨(some 13), .ext (.t 9) 1, none⟩,
 ⟨(some 4), .mv (.t 12), none⟩,
 ⟨(some 5), .mv (.t 13), none⟩])
 (.seq (.reg [⟨(some 14), .mv (.t 4), none⟩,
 ⟨(some 2), .mv (.t 14), none⟩,
 ⟨(some 3), .mv (.c (.d (.int .i64 0))), none⟩])
 .ret))))
def F12 : VFn := ⟨1, 15, B12, [.tmp 2, .tmp 3], false⟩

def A12 : Ann := ⟨keepOf [], ghostOf []⟩
-- 13 patina/tree.Depth
def B13 : VCode :=
 (.seq (.reg [⟨(some 1), .box (.t 0), none⟩,
 ⟨(some 2), .mv (.c (.d (.int .i64 0))), none⟩,
 ⟨(some 3), .mv (.c (.d (.int .i64 0))), none⟩])
 (.seq (.seq (.reg [⟨(some 6), .ld (some 1) (.t 1), none⟩,
 ⟨(some 7), .call 8 [(.t 6)], none⟩,
 ⟨(some 8), .bin .neq (.t 7) (.c (.d (.int .i64 0))), none⟩])
 (.cond (.t 8)
 (.seq (.reg [⟨(some 2), .mv (.c (.d (.int .i64 0))), none⟩,
 ⟨(some 3), .mv (.c (.d (.int .i64 3))), none⟩])
 .ret)
 .skip))
 (.seq (.reg [⟨(some 10), .ld (some 1) (.t 1), none⟩,
 ⟨(some 11), .call 26 [(.t 10)], none⟩,
 ⟨(some 9), .mv (.t 11), none⟩,
 ⟨(some 12), .ext (.t 9) 0, none⟩,
 ⟨(some 13), .ext (.t 9) 1, none⟩,
 ⟨(some 4), .mv (.t 12), none⟩,
 ⟨(some 5), .mv (.t 13), none⟩])
 (.seq (.reg [⟨(some 14), .mv (.t 4), none⟩,
 ⟨(some 15), .call 28 [(.t 14)], none⟩,
 ⟨(some 16), .call 27 [(.t 15)], none⟩,
 ⟨(some 2), .mv (.t 16), none⟩,
 ⟨(some 3), .mv (.c (.d (.int .i64 0))), none⟩])
 .ret))))
def F13 : VFn := ⟨1, 17, B13, [.tmp 2, .tmp 3], false⟩

def A13 : Ann := ⟨keepOf [], ghostOf []⟩
-- 14 patina/patinaref13.Depth
def B14 : VCode :=
 (.seq (.reg [⟨(some 1), .box (.t 0), none⟩,
 ⟨(some 2), .mv (.c (.d (.int .i64 0))), none⟩,
 ⟨(some 3), .mv (.c (.d (.int .i64 0))), none⟩])
 (.seq (.seq (.reg [⟨(some 6), .ld (some 1) (.t 1), none⟩,
 ⟨(some 7), .call 23 [(.t 6)], none⟩,
 ⟨(some 8), .un .not (.t 7), none⟩])
 (.cond (.t 8)
 (.seq (.reg [⟨(some 2), .mv (.c (.d (.int .i64 0))), none⟩,
 ⟨(some 3), .mv (.c (.d (.int .i64 3))), none⟩])
 .ret)
 .skip))
 (.seq (.reg [⟨(some 10), .ld (some 1) (.t 1), none⟩,
 ⟨(some 11), .call 29 [(.t 10)], none⟩,
 ⟨(some 9), .mv (.t 11), none⟩,
 ⟨(some 12), .ext (.t 9) 0, none⟩,
 ⟨(some 13), .ext (.t 9) 1, none⟩,
 ⟨(some 4), .mv (.t 12), none⟩,
 ⟨(some 5), .mv (.t 13), none⟩])
 (.seq (.reg [⟨(some 14), .ld (some 1) (.t 1), none⟩,
 ⟨(some 15), .mv (.t 4), none⟩,
 ⟨(some 16), .call 30 [(.t 14), (.t 15)], none⟩,
 ⟨(some 2), .mv (.t 16), none⟩,
 ⟨(some 3), .mv (.c (.d (.int .i64 0))), none⟩])
 .ret))))
def F14 : VFn := ⟨1, 17, B14, [.tmp 2, .tmp 3], false⟩

def A14 : Ann := ⟨keepOf [], ghostOf []⟩
-- 15 patina/patinaplain.Ints
def K15_0 : List Nat := [0, 1, 12, 13]
def L15_0 : VCode :=
 (.seq (.reg [⟨(some 14), .bin .lss (.t 13) (.t 12), none⟩])
 (.seq (.cond (.t 14)
 .skip
 (.exit 0))
 (.seq (.block 1 (.seq (.reg [⟨(some 15), .mv (.t 13), none⟩,
 ⟨(some 5), .mv (.t 15), none⟩])
 (.seq (.draw 8 [⟨(some 16), .mv (.t 0), none⟩,
 ⟨(some 17), .mv (.t 5), none⟩,
 ⟨(some 18), .iadr 1 (.t 16) (.t 17), none⟩,
 ⟨(some 19), .ld none (.t 18), none⟩,
 ⟨(some 20), .mv (.t 1), none⟩,
 ⟨(some 21), .mv (.t 5), none⟩,
 ⟨(some 22), .iadr 1 (.t 20) (.t 21), none⟩,
 ⟨(some 23), .ld none (.t 22), none⟩,
 ⟨(some 24), .bin .neq (.t 19) (.t 23), none⟩])
 (.cond (.t 24)
 (.seq (.reg [⟨(some 4), .mv (.c (.d (.bool false))), none⟩])
 .ret)
 .skip))))
 (.reg [⟨(some 25), .bin .add (.t 13) (.c (.d (.int .i64 1))), none⟩,
 ⟨(some 13), .mv (.t 25), none⟩]))))
def B15 : VCode :=
 (.seq (.reg [⟨(some 4), .mv (.c (.d (.bool false))), none⟩])
 (.seq (.seq (.reg [⟨(some 6), .mv (.t 0), none⟩,
 ⟨(some 7), .len false (.t 6), none⟩,
 ⟨(some 8), .mv (.t 1), none⟩,
 ⟨(some 9), .len false (.t 8), none⟩,
 ⟨(some 10), .bin .neq (.t 7) (.t 9), none⟩])
 (.cond (.t 10)
 (.seq (.reg [⟨(some 4), .mv (.c (.d (.bool false))), none⟩])
 .ret)
 .skip))
 (.seq (.seq (.reg [⟨(some 11), .mv (.t 0), none⟩,
 ⟨(some 12), .len false (.t 11), none⟩,
 ⟨(some 13), .mv (.c (.d (.int .i64 0))), none⟩])
 (.block 0 (.loop K15_0 L15_0)))
 (.seq (.reg [⟨(some 4), .mv (.c (.d (.bool true))), none⟩])
 .ret))))
def F15 : VFn := ⟨2, 26, B15, [.tmp 4], false⟩

def A15 : Ann := ⟨keepOf [(4, [0, 1, 12, 13])], ghostOf []⟩
-- 21 (*patina/tree.printer).node
def B21 : VCode :=
 (.seq (.reg [⟨(some 5), .mv (.t 0), none⟩,
 ⟨(some 6), .nilck (.t 5), none⟩,
 ⟨(some 7), .fadr 0 (.t 6), none⟩,
 ⟨(some 8), .fadr 0 (.t 7), none⟩,
 ⟨(some 9), .ld none (.t 8), none⟩,
 ⟨(some 10), .mv (.t 1), none⟩,
 ⟨(some 11), .iadr 6 (.t 9) (.t 10), none⟩,
 ⟨(some 12), .ld (some 6) (.t 11), none⟩,
 ⟨(some 4), .zbox [(.d (.int .i64 0)), (.d (.str [])), (.d (.int .i64 0)), .nils, (.d (.int .i64 0)), (.d (.int .i64 0))], none⟩,
 ⟨none, .st 6 (.t 4) (.t 12), none⟩])
 (.block 0 (.seq (.reg [⟨(some 17), .fadr 0 (.t 4), none⟩,
 ⟨(some 18), .ld none (.t 17), none⟩,
 ⟨(some 19), .bin .eql (.t 18) (.c (.d (.int .i64 20))), none⟩,
 ⟨(some 16), .mv (.t 19), none⟩])
 (.cond (.t 16)
 (.reg [⟨(some 20), .mv (.t 0), none⟩,
 ⟨(some 21), .ld (some 6) (.t 4), none⟩,
 ⟨(some 22), .call 35 [(.t 20), (.t 21)], none⟩])
 (.seq (.reg [⟨(some 24), .fadr 0 (.t 4), none⟩,
 ⟨(some 25), .ld none (.t 24), none⟩,
 ⟨(some 26), .bin .leq (.t 25) (.c (.d (.int .i64 7))), none⟩,
 ⟨(some 23), .mv (.t 26), none⟩])
 (.cond (.t 23)
 (.reg [⟨(some 27), .mv (.t 0), none⟩,
 ⟨(some 28), .ld (some 6) (.t 4), none⟩,
 ⟨(some 29), .call 36 [(.t 27), (.t 28)], none⟩])
 (.seq (.reg [⟨(some 31), .fadr 0 (.t 4), none⟩,
 ⟨(some 32), .ld none (.t 31), none⟩,
 ⟨(some 33), .call 31 [(.t 32)], none⟩,
 ⟨(some 30), .mv (.t 33), none⟩])
 (.cond (.t 30)
 (.reg [⟨(some 34), .mv (.t 0), none⟩,
 ⟨(some 35), .ld (some 6) (.t 4), none⟩,
 ⟨(some 36), .call 37 [(.t 34), (.t 35)], none⟩])
 (.seq (.reg [⟨(some 38), .fadr 0 (.t 4), none⟩,
 ⟨(some 39), .ld none (.t 38), none⟩,
 ⟨(some 40), .call 38 [(.t 39)], none⟩,
 ⟨(some 37), .mv (.t 40), none⟩])
 (.cond (.t 37)
 (.reg [⟨(some 41), .mv (.t 0), none⟩,
 ⟨(some 42), .ld (some 6) (.t 4), none⟩,
 ⟨(some 43), .call 39 [(.t 41), (.t 42)], none⟩])
 (.seq (.reg [⟨(some 45), .fadr 0 (.t 4), none⟩,
 ⟨(some 46), .ld none (.t 45), none⟩,
 ⟨(some 47), .bin .geq (.t 46) (.c (.d (.int .i64 38))), none⟩,
 ⟨(some 48), .mv (.t 47), none⟩,
 ⟨(some 49), .fadr 0 (.t 4), some (48, true)⟩,
 ⟨(some 50), .ld none (.t 49), some (48, true)⟩,
 ⟨(some 51), .bin .leq (.t 50) (.c (.d (.int .i64 43))), some (48, true)⟩,
 ⟨(some 52), .pick (.t 48) (.t 51) (.c (.d (.bool false))), none⟩,
 ⟨(some 53), .mv (.t 52), none⟩,
 ⟨(some 54), .fadr 0 (.t 4), some (53, false)⟩,
 ⟨(some 55), .ld none (.t 54), some (53, false)⟩,
 ⟨(some 56), .bin .eql (.t 55) (.c (.d (.int .i64 45))), some (53, false)⟩,
 ⟨(some 57), .pick (.t 53) (.c (.d (.bool true))) (.t 56), none⟩,
 ⟨(some 58), .mv (.t 57), none⟩,
 ⟨(some 59), .fadr 0 (.t 4), some (58, false)⟩,
 ⟨(some 60), .ld none (.t 59), some (58, false)⟩,
 ⟨(some 61), .bin .eql (.t 60) (.c (.d (.int .i64 46))), some (58, false)⟩,
 ⟨(some 62), .pick (.t 58) (.c (.d (.bool true))) (.t 61), none⟩,
 ⟨(some 44), .mv (.t 62), none⟩])
 (.cond (.t 44)
 (.reg [⟨(some 63), .mv (.t 0), none⟩,
 ⟨(some 64), .ld (some 6) (.t 4), none⟩,
 ⟨(some 65), .call 40 [(.t 63), (.t 64)], none⟩])
 (.reg [⟨(some 13), .mv (.t 0), none⟩,
 ⟨(some 14), .ld (some 6) (.t 4), none⟩,
 ⟨(some 15), .call 41 [(.t 13), (.t 14)], none⟩])))))))))))))
def F21 : VFn := ⟨2, 66, B21, [], false⟩

def A21 : Ann := ⟨keepOf [], ghostOf []⟩
-- 23 patina/patinaref13.Right
def K23_0 : List Nat := [1, 28, 29]
def L23_0 : VCode :=
 (.seq (.reg [⟨(some 30), .bin .lss (.t 29) (.t 28), none⟩])
 (.seq (.cond (.t 30)
 .skip
 (.exit 0))
 (.seq (.block 1 (.seq (.reg [⟨(some 31), .mv (.t 29), none⟩,
 ⟨(some 4), .mv (.t 31), none⟩])
 (.seq (.reg [⟨(some 32), .ld (some 1) (.t 1), none⟩,
 ⟨(some 33), .mv (.t 4), none⟩,
 ⟨(some 34), .call 45 [(.t 32), (.t 33)], none⟩,
 ⟨(some 35), .un .not (.t 34), none⟩])
 (.cond (.t 35)
 (.seq (.reg [⟨(some 2), .mv (.c (.d (.bool false))), none⟩])
 .ret)
 .skip))))
 (.reg [⟨(some 36), .bin .add (.t 29) (.c (.d (.int .i64 1))), none⟩,
 ⟨(some 29), .mv (.t 36), none⟩]))))
def B23 : VCode :=
 (.seq (.reg [⟨(some 1), .box (.t 0), none⟩,
 ⟨(some 2), .mv (.c (.d (.bool false))), none⟩])
 (.seq (.reg [⟨(some 7), .fadr 0 (.t 1), none⟩,
 ⟨(some 8), .ld none (.t 7), none⟩,
 ⟨(some 9), .len false (.t 8), none⟩,
 ⟨(some 3), .mv (.t 9), none⟩])
 (.seq (.seq (.reg [⟨(some 10), .mv (.t 3), none⟩,
 ⟨(some 11), .bin .lss (.t 10) (.c (.d (.int .i64 1))), none⟩,
 ⟨(some 12), .mv (.t 11), none⟩,
 ⟨(some 13), .mv (.t 3), some (12, false)⟩,
 ⟨(some 14), .bin .gtr (.t 13) (.c (.d (.int .i64 20000))), some (12, false)⟩,
 ⟨(some 15), .pick (.t 12) (.c (.d (.bool true))) (.t 14), none⟩,
 ⟨(some 16), .mv (.t 15), none⟩,
 ⟨(some 17), .fadr 0 (.t 1), some (16, false)⟩,
 ⟨(some 18), .ld none (.t 17), some (16, false)⟩,
 ⟨(some 19), .mv (.t 3), some (16, false)⟩,
 ⟨(some 20), .bin .sub (.t 19) (.c (.d (.int .i64 1))), some (16, false)⟩,
 ⟨(some 21), .iadr 6 (.t 18) (.t 20), some (16, false)⟩,
 ⟨(some 22), .fadr 0 (.t 21), some (16, false)⟩,
 ⟨(some 23), .ld none (.t 22), some (16, false)⟩,
 ⟨(some 24), .bin .neq (.t 23) (.c (.d (.int .i64 1))), some (16, false)⟩,
 ⟨(some 25), .pick (.t 16) (.c (.d (.bool true))) (.t 24), none⟩])
 (.cond (.t 25)
 (.seq (.reg [⟨(some 2), .mv (.c (.d (.bool false))), none⟩])
 .ret)
 .skip))
 (.seq (.seq (.reg [⟨(some 26), .fadr 0 (.t 1), none⟩,
 ⟨(some 27), .ld none (.t 26), none⟩,
 ⟨(some 28), .len false (.t 27), none⟩,
 ⟨(some 29), .mv (.c (.d (.int .i64 0))), none⟩])
 (.block 0 (.loop K23_0 L23_0)))
 (.seq (.reg [⟨(some 38), .ld (some 1) (.t 1), none⟩,
 ⟨(some 39), .call 29 [(.t 38)], none⟩,
 ⟨(some 37), .mv (.t 39), none⟩,
 ⟨(some 40), .ext (.t 37) 0, none⟩,
 ⟨(some 41), .ext (.t 37) 1, none⟩,
 ⟨(some 5), .mv (.t 40), none⟩,
 ⟨(some 6), .mv (.t 41), none⟩])
 (.seq (.reg [⟨(some 42), .mv (.t 6), none⟩,
 ⟨(some 43), .mv (.t 42), none⟩,
 ⟨(some 44), .ld (some 1) (.t 1), some (43, true)⟩,
 ⟨(some 45), .mv (.t 5), some (43, true)⟩,
 ⟨(some 46), .call 30 [(.t 44), (.t 45)], some (43, true)⟩,
 ⟨(some 47), .bin .leq (.t 46) (.c (.d (.int .i64 400))), some (43, true)⟩,
 ⟨(some 48), .pick (.t 43) (.t 47) (.c (.d (.bool false))), none⟩,
 ⟨(some 2), .mv (.t 48), none⟩])
 .ret))))))
def F23 : VFn := ⟨1, 49, B23, [.tmp 2], false⟩

def A23 : Ann := ⟨keepOf [(5, [1, 28, 29])], ghostOf []⟩
-- 25 patina/tree.node
def K25_0 : List Nat := [1, 2, 5, 6, 7, 16, 17, 18]
def L25_0 : VCode :=
 (.seq (.reg [⟨(some 19), .bin .lss (.t 18) (.t 17), none⟩])
 (.seq (.cond (.t 19)
 .skip
 (.exit 0))
 (.seq (.block 1 (.seq (.reg [⟨(some 20), .iadr 1 (.t 16) (.t 18), none⟩,
 ⟨(some 21), .ld none (.t 20), none⟩,
 ⟨(some 9), .mv (.t 21), none⟩])
 (.seq (.seq (.reg [⟨(some 22), .mv (.t 9), none⟩,
 ⟨(some 23), .bin .lss (.t 22) (.c (.d (.int .i64 0))), none⟩,
 ⟨(some 24), .mv (.t 23), none⟩,
 ⟨(some 25), .mv (.t 9), some (24, false)⟩,
 ⟨(some 26), .mv (.t 1), some (24, false)⟩,
 ⟨(some 27), .bin .geq (.t 25) (.t 26), some (24, false)⟩,
 ⟨(some 28), .pick (.t 24) (.c (.d (.bool true))) (.t 27), none⟩])
 (.cond (.t 28)
 (.seq (.reg [⟨(some 4), .mv (.c (.d (.bool false))), none⟩])
 .ret)
 .skip))
 (.seq (.reg [⟨(some 29), .mv (.t 6), none⟩,
 ⟨(some 30), .fadr 0 (.t 2), none⟩,
 ⟨(some 31), .ld none (.t 30), none⟩,
 ⟨(some 32), .mv (.t 9), none⟩,
 ⟨(some 33), .iadr 6 (.t 31) (.t 32), none⟩,
 ⟨(some 34), .fadr 0 (.t 33), none⟩,
 ⟨(some 35), .ld none (.t 34), none⟩,
 ⟨(some 36), .bslice 1 1 [(.t 35)], none⟩,
 ⟨(some 37), .app 1 8 (.t 29) (.t 36), none⟩,
 ⟨(some 6), .mv (.t 37), none⟩])
 (.seq (.reg [⟨(some 38), .fadr 0 (.t 2), none⟩,
 ⟨(some 39), .ld none (.t 38), none⟩,
 ⟨(some 40), .mv (.t 9), none⟩,
 ⟨(some 41), .iadr 6 (.t 39) (.t 40), none⟩,
 ⟨(some 42), .fadr 0 (.t 41), none⟩,
 ⟨(some 43), .ld none (.t 42), none⟩,
 ⟨(some 44), .bin .eql (.t 43) (.c (.d (.int .i64 7))), none⟩])
 (.cond (.t 44)
 (.reg [⟨(some 45), .mv (.t 7), none⟩,
 ⟨(some 46), .bin .add (.t 45) (.c (.d (.int .i64 1))), none⟩,
 ⟨(some 7), .mv (.t 46), none⟩])
 .skip))))))
 (.reg [⟨(some 47), .bin .add (.t 18) (.c (.d (.int .i64 1))), none⟩,
 ⟨(some 18), .mv (.t 47), none⟩]))))
def B25 : VCode :=
 (.seq (.reg [⟨(some 2), .box (.t 0), none⟩,
 ⟨(some 4), .mv (.c (.d (.bool false))), none⟩])
 (.seq (.reg [⟨(some 10), .fadr 0 (.t 2), none⟩,
 ⟨(some 11), .ld none (.t 10), none⟩,
 ⟨(some 12), .mv (.t 1), none⟩,
 ⟨(some 13), .iadr 6 (.t 11) (.t 12), none⟩,
 ⟨(some 14), .ld (some 6) (.t 13), none⟩,
 ⟨(some 5), .zbox [(.d (.int .i64 0)), (.d (.str [])), (.d (.int .i64 0)), .nils, (.d (.int .i64 0)), (.d (.int .i64 0))], none⟩,
 ⟨none, .st 6 (.t 5) (.t 14), none⟩])
 (.seq (.reg [⟨(some 6), .mv (.c .nils), none⟩])
 (.seq (.reg [⟨(some 7), .mv (.c (.d (.int .i64 0))), none⟩])
 (.seq (.seq (.seq (.newrow 1 6)
 (.reg [⟨(some 15), .fadr 3 (.t 5), none⟩,
 ⟨(some 16), .ld none (.t 15), none⟩,
 ⟨(some 17), .len false (.t 16), none⟩,
 ⟨(some 18), .mv (.c (.d (.int .i64 0))), none⟩]))
 (.block 0 (.loop K25_0 L25_0)))
 (.seq (.reg [⟨(some 48), .fadr 0 (.t 5), none⟩,
 ⟨(some 49), .ld none (.t 48), none⟩,
 ⟨(some 50), .call 57 [(.t 49)], none⟩,
 ⟨(some 51), .mv (.t 50), none⟩,
 ⟨(some 52), .ld (some 6) (.t 5), some (51, true)⟩,
 ⟨(some 53), .call 58 [(.t 52)], some (51, true)⟩,
 ⟨(some 54), .pick (.t 51) (.t 53) (.c (.d (.bool false))), none⟩,
 ⟨(some 55), .mv (.t 54), none⟩,
 ⟨(some 56), .ld (some 6) (.t 5), some (55, true)⟩,
 ⟨(some 57), .mv (.t 7), some (55, true)⟩,
 ⟨(some 58), .call 59 [(.t 56), (.t 57)], some (55, true)⟩,
 ⟨(some 59), .pick (.t 55) (.t 58) (.c (.d (.bool false))), none⟩,
 ⟨(some 60), .mv (.t 59), none⟩,
 ⟨(some 61), .fadr 4 (.t 5), some (60, true)⟩,
 ⟨(some 62), .ld none (.t 61), some (60, true)⟩,
 ⟨(some 63), .bin .geq (.t 62) (.c (.d (.int .i64 0))), some (60, true)⟩,
 ⟨(some 64), .pick (.t 60) (.t 63) (.c (.d (.bool false))), none⟩,
 ⟨(some 65), .mv (.t 64), none⟩,
 ⟨(some 66), .fadr 4 (.t 5), some (65, true)⟩,
 ⟨(some 67), .ld none (.t 66), some (65, true)⟩,
 ⟨(some 68), .fadr 5 (.t 5), some (65, true)⟩,
 ⟨(some 69), .ld none (.t 68), some (65, true)⟩,
 ⟨(some 70), .bin .leq (.t 67) (.t 69), some (65, true)⟩,
 ⟨(some 71), .pick (.t 65) (.t 70) (.c (.d (.bool false))), none⟩,
 ⟨(some 72), .mv (.t 71), none⟩,
 ⟨(some 73), .ld (some 6) (.t 5), some (72, true)⟩,
 ⟨(some 74), .mv (.t 6), some (72, true)⟩,
 ⟨(some 75), .call 60 [(.t 73), (.t 74)], some (72, true)⟩,
 ⟨(some 76), .pick (.t 72) (.t 75) (.c (.d (.bool false))), none⟩,
 ⟨(some 4), .mv (.t 76), none⟩])
 .ret))))))
def F25 : VFn := ⟨2, 77, B25, [.tmp 4], false⟩

def A25 : Ann := ⟨keepOf [(5, [1, 2, 5, 6, 7, 16, 17, 18])], ghostOf [(4, [.newrow 1 6])]⟩
-- 26 patina/tree.parents
def K26_0 : List Nat := [1, 4, 15, 16]
def L26_0 : VCode :=
 (.seq (.reg [⟨(some 17), .bin .lss (.t 16) (.t 15), none⟩])
 (.seq (.cond (.t 17)
 .skip
 (.exit 0))
 (.seq (.block 1 (.seq (.reg [⟨(some 18), .mv (.t 16), none⟩,
 ⟨(some 5), .mv (.t 18), none⟩])
 (.reg [⟨(some 19), .mv (.t 4), none⟩,
 ⟨(some 20), .mv (.t 5), none⟩,
 ⟨(some 21), .iadr 1 (.t 19) (.t 20), none⟩,
 ⟨none, .st 1 (.t 21) (.c (.d (.int .i64 (-1)))), none⟩])))
 (.reg [⟨(some 22), .bin .add (.t 16) (.c (.d (.int .i64 1))), none⟩,
 ⟨(some 16), .mv (.t 22), none⟩]))))
def K26_1 : List Nat := [4, 6, 24, 25, 26, 32, 33, 34]
def L26_1 : VCode :=
 (.seq (.reg [⟨(some 35), .bin .lss (.t 34) (.t 33), none⟩])
 (.seq (.cond (.t 35)
 .skip
 (.exit 4))
 (.seq (.block 5 (.seq (.reg [⟨(some 36), .iadr 1 (.t 32) (.t 34), none⟩,
 ⟨(some 37), .ld none (.t 36), none⟩,
 ⟨(some 9), .mv (.t 37), none⟩])
 (.seq (.seq (.reg [⟨(some 38), .mv (.t 4), none⟩,
 ⟨(some 39), .mv (.t 9), none⟩,
 ⟨(some 40), .iadr 1 (.t 38) (.t 39), none⟩,
 ⟨(some 41), .ld none (.t 40), none⟩,
 ⟨(some 42), .bin .geq (.t 41) (.c (.d (.int .i64 0))), none⟩])
 (.cond (.t 42)
 (.seq (.reg [⟨(some 2), .mv (.c .nils), none⟩,
 ⟨(some 3), .mv (.c (.d (.bool false))), none⟩])
 .ret)
 .skip))
 (.reg [⟨(some 43), .mv (.t 4), none⟩,
 ⟨(some 44), .mv (.t 9), none⟩,
 ⟨(some 45), .mv (.t 6), none⟩,
 ⟨(some 46), .iadr 1 (.t 43) (.t 44), none⟩,
 ⟨none, .st 1 (.t 46) (.t 45), none⟩]))))
 (.reg [⟨(some 47), .bin .add (.t 34) (.c (.d (.int .i64 1))), none⟩,
 ⟨(some 34), .mv (.t 47), none⟩]))))
def K26_2 : List Nat := [4, 24, 25, 26]
def L26_2 : VCode :=
 (.seq (.reg [⟨(some 27), .bin .lss (.t 26) (.t 25), none⟩])
 (.seq (.cond (.t 27)
 .skip
 (.exit 2))
 (.seq (.block 3 (.seq (.reg [⟨(some 28), .mv (.t 26), none⟩,
 ⟨(some 29), .iadr 6 (.t 24) (.t 26), none⟩,
 ⟨(some 30), .ld (some 6) (.t 29), none⟩,
 ⟨(some 7), .zbox [(.d (.int .i64 0)), (.d (.str [])), (.d (.int .i64 0)), .nils, (.d (.int .i64 0)), (.d (.int .i64 0))], none⟩,
 ⟨(some 6), .mv (.t 28), none⟩,
 ⟨none, .st 6 (.t 7) (.t 30), none⟩])
 (.seq (.reg [⟨(some 31), .fadr 3 (.t 7), none⟩,
 ⟨(some 32), .ld none (.t 31), none⟩,
 ⟨(some 33), .len false (.t 32), none⟩,
 ⟨(some 34), .mv (.c (.d (.int .i64 0))), none⟩])
 (.block 4 (.loop K26_1 L26_1)))))
 (.reg [⟨(some 48), .bin .add (.t 26) (.c (.d (.int .i64 1))), none⟩,
 ⟨(some 26), .mv (.t 48), none⟩]))))
def B26 : VCode :=
 (.seq (.reg [⟨(some 1), .box (.t 0), none⟩,
 ⟨(some 2), .mv (.c .nils), none⟩,
 ⟨(some 3), .mv (.c (.d (.bool false))), none⟩])
 (.seq (.reg [⟨(some 10), .fadr 0 (.t 1), none⟩,
 ⟨(some 11), .ld none (.t 10), none⟩,
 ⟨(some 12), .len false (.t 11), none⟩,
 ⟨(some 13), .msl 1 8 [(.d (.int .i64 0))] (.t 12), none⟩,
 ⟨(some 4), .mv (.t 13), none⟩])
 (.seq (.seq (.reg [⟨(some 14), .mv (.t 4), none⟩,
 ⟨(some 15), .len false (.t 14), none⟩,
 ⟨(some 16), .mv (.c (.d (.int .i64 0))), none⟩])
 (.block 0 (.loop K26_0 L26_0)))
 (.seq (.seq (.reg [⟨(some 23), .fadr 0 (.t 1), none⟩,
 ⟨(some 24), .ld none (.t 23), none⟩,
 ⟨(some 25), .len false (.t 24), none⟩,
 ⟨(some 26), .mv (.c (.d (.int .i64 0))), none⟩])
 (.block 2 (.loop K26_2 L26_2)))
 (.seq (.seq (.freeze 4)
 (.reg [⟨(some 49), .mv (.t 4), none⟩,
 ⟨(some 50), .mv (.t 4), none⟩,
 ⟨(some 51), .len false (.t 50), none⟩,
 ⟨(some 52), .bin .eql (.t 51) (.c (.d (.int .i64 0))), none⟩,
 ⟨(some 53), .mv (.t 52), none⟩,
 ⟨(some 54), .mv (.t 4), some (53, false)⟩,
 ⟨(some 55), .mv (.t 4), some (53, false)⟩,
 ⟨(some 56), .len false (.t 55), some (53, false)⟩,
 ⟨(some 57), .bin .sub (.t 56) (.c (.d (.int .i64 1))), some (53, false)⟩,
 ⟨(some 58), .slc 1 (.t 54) none (some (.t 57)), some (53, false)⟩,
 ⟨(some 59), .call 61 [(.t 58), (.c (.d (.int .i64 (-1))))], some (53, false)⟩,
 ⟨(some 60), .un .not (.t 59), some (53, false)⟩,
 ⟨(some 61), .pick (.t 53) (.c (.d (.bool true))) (.t 60), none⟩,
 ⟨(some 2), .mv (.t 49), none⟩,
 ⟨(some 3), .mv (.t 61), none⟩]))
 .ret)))))
def F26 : VFn := ⟨1, 62, B26, [.tmp 2, .tmp 3], false⟩

def A26 : Ann := ⟨keepOf [(3, [1, 4, 15, 16]), (8, [4, 24, 25, 26]), (11, [4, 6, 24, 25, 26, 32, 33, 34])], ghostOf [(18, [.freeze 4])]⟩
-- 27 slices.Max[[]int,int]
def K27_0 : List Nat := [0, 3, 4]
def L27_0 : VCode :=
 (.seq (.seq (.reg [⟨(some 12), .mv (.t 4), none⟩,
 ⟨(some 13), .mv (.t 0), none⟩,
 ⟨(some 14), .len false (.t 13), none⟩,
 ⟨(some 15), .bin .lss (.t 12) (.t 14), none⟩])
 (.cond (.t 15)
 .skip
 (.exit 0)))
 (.seq (.block 1 (.reg [⟨(some 18), .mv (.t 3), none⟩,
 ⟨(some 19), .mv (.t 0), none⟩,
 ⟨(some 20), .mv (.t 4), none⟩,
 ⟨(some 21), .iadr 1 (.t 19) (.t 20), none⟩,
 ⟨(some 22), .ld none (.t 21), none⟩,
 ⟨(some 23), .mm true (.t 18) (.t 22), none⟩,
 ⟨(some 3), .mv (.t 23), none⟩]))
 (.reg [⟨(some 16), .mv (.t 4), none⟩,
 ⟨(some 17), .bin .add (.t 16) (.c (.d (.int .i64 1))), none⟩,
 ⟨(some 4), .mv (.t 17), none⟩])))
def B27 : VCode :=
 (.seq (.reg [⟨(some 2), .mv (.c (.d (.int .i64 0))), none⟩])
 (.seq (.seq (.reg [⟨(some 5), .mv (.t 0), none⟩,
 ⟨(some 6), .len false (.t 5), none⟩,
 ⟨(some 7), .bin .lss (.t 6) (.c (.d (.int .i64 1))), none⟩])
 (.cond (.t 7)
 (.reg [⟨(some 8), .no, none⟩,
 ⟨none, .no, none⟩])
 .skip))
 (.seq (.reg [⟨(some 9), .mv (.t 0), none⟩,
 ⟨(some 10), .iadr 1 (.t 9) (.c (.d (.int .i64 0))), none⟩,
 ⟨(some 11), .ld none (.t 10), none⟩,
 ⟨(some 3), .mv (.t 11), none⟩])
 (.seq (.seq (.reg [⟨(some 4), .mv (.c (.d (.int .i64 1))), none⟩])
 (.block 0 (.loop K27_0 L27_0)))
 (.seq (.reg [⟨(some 24), .mv (.t 3), none⟩,
 ⟨(some 2), .mv (.t 24), none⟩])
 .ret)))))
def F27 : VFn := ⟨1, 25, B27, [.tmp 2], false⟩

def A27 : Ann := ⟨keepOf [(5, [0, 3, 4])], ghostOf []⟩
-- 28 patina/tree.depths
def K28_0 : List Nat := [0, 3, 4]
def L28_0 : VCode :=
 (.seq (.seq (.reg [⟨(some 11), .mv (.t 4), none⟩,
 ⟨(some 12), .bin .geq (.t 11) (.c (.d (.int .i64 0))), none⟩])
 (.cond (.t 12)
 .skip
 (.exit 0)))
 (.seq (.block 1 (.seq (.reg [⟨(some 15), .mv (.t 0), none⟩,
 ⟨(some 16), .mv (.t 4), none⟩,
 ⟨(some 17), .iadr 1 (.t 15) (.t 16), none⟩,
 ⟨(some 18), .ld none (.t 17), none⟩,
 ⟨(some 19), .bin .geq (.t 18) (.c (.d (.int .i64 0))), none⟩])
 (.cond (.t 19)
 (.reg [⟨(some 20), .mv (.t 3), none⟩,
 ⟨(some 21), .mv (.t 4), none⟩,
 ⟨(some 22), .mv (.t 3), none⟩,
 ⟨(some 23), .mv (.t 0), none⟩,
 ⟨(some 24), .mv (.t 4), none⟩,
 ⟨(some 25), .iadr 1 (.t 23) (.t 24), none⟩,
 ⟨(some 26), .ld none (.t 25), none⟩,
 ⟨(some 27), .iadr 1 (.t 22) (.t 26), none⟩,
 ⟨(some 28), .ld none (.t 27), none⟩,
 ⟨(some 29), .bin .add (.t 28) (.c (.d (.int .i64 1))), none⟩,
 ⟨(some 30), .iadr 1 (.t 20) (.t 21), none⟩,
 ⟨none, .st 1 (.t 30) (.t 29), none⟩])
 .skip)))
 (.reg [⟨(some 13), .mv (.t 4), none⟩,
 ⟨(some 14), .bin .sub (.t 13) (.c (.d (.int .i64 1))), none⟩,
 ⟨(some 4), .mv (.t 14), none⟩])))
def B28 : VCode :=
 (.seq (.reg [⟨(some 2), .mv (.c .nils), none⟩])
 (.seq (.reg [⟨(some 5), .mv (.t 0), none⟩,
 ⟨(some 6), .len false (.t 5), none⟩,
 ⟨(some 7), .msl 1 8 [(.d (.int .i64 0))] (.t 6), none⟩,
 ⟨(some 3), .mv (.t 7), none⟩])
 (.seq (.seq (.reg [⟨(some 8), .mv (.t 0), none⟩,
 ⟨(some 9), .len false (.t 8), none⟩,
 ⟨(some 10), .bin .sub (.t 9) (.c (.d (.int .i64 1))), none⟩,
 ⟨(some 4), .mv (.t 10), none⟩])
 (.block 0 (.loop K28_0 L28_0)))
 (.seq (.seq (.freeze 3)
 (.reg [⟨(some 31), .mv (.t 3), none⟩,
 ⟨(some 2), .mv (.t 31), none⟩]))
 .ret))))
def F28 : VFn := ⟨1, 32, B28, [.tmp 2], false⟩

def A28 : Ann := ⟨keepOf [(3, [0, 3, 4])], ghostOf [(7, [.freeze 3])]⟩
-- 29 patina/patinaref13.parents
def K29_0 : List Nat := [1, 4, 16, 17]
def L29_0 : VCode :=
 (.seq (.reg [⟨(some 18), .bin .lss (.t 17) (.t 16), none⟩])
 (.seq (.cond (.t 18)
 .skip
 (.exit 0))
 (.seq (.block 1 (.seq (.reg [⟨(some 19), .mv (.t 17), none⟩,
 ⟨(some 5), .mv (.t 19), none⟩])
 (.reg [⟨(some 20), .mv (.t 4), none⟩,
 ⟨(some 21), .mv (.t 5), none⟩,
 ⟨(some 22), .iadr 1 (.t 20) (.t 21), none⟩,
 ⟨none, .st 1 (.t 22) (.c (.d (.int .i64 (-1)))), none⟩])))
 (.reg [⟨(some 23), .bin .add (.t 17) (.c (.d (.int .i64 1))), none⟩,
 ⟨(some 17), .mv (.t 23), none⟩]))))
def K29_1 : List Nat := [4, 6, 25, 26, 27, 33, 34, 35]
def L29_1 : VCode :=
 (.seq (.reg [⟨(some 36), .bin .lss (.t 35) (.t 34), none⟩])
 (.seq (.cond (.t 36)
 .skip
 (.exit 4))
 (.seq (.block 5 (.seq (.reg [⟨(some 37), .iadr 1 (.t 33) (.t 35), none⟩,
 ⟨(some 38), .ld none (.t 37), none⟩,
 ⟨(some 9), .mv (.t 38), none⟩])
 (.seq (.seq (.reg [⟨(some 39), .mv (.t 4), none⟩,
 ⟨(some 40), .mv (.t 9), none⟩,
 ⟨(some 41), .iadr 1 (.t 39) (.t 40), none⟩,
 ⟨(some 42), .ld none (.t 41), none⟩,
 ⟨(some 43), .bin .geq (.t 42) (.c (.d (.int .i64 0))), none⟩])
 (.cond (.t 43)
 (.seq (.reg [⟨(some 2), .mv (.c .nils), none⟩,
 ⟨(some 3), .mv (.c (.d (.bool false))), none⟩])
 .ret)
 .skip))
 (.reg [⟨(some 44), .mv (.t 4), none⟩,
 ⟨(some 45), .mv (.t 9), none⟩,
 ⟨(some 46), .mv (.t 6), none⟩,
 ⟨(some 47), .iadr 1 (.t 44) (.t 45), none⟩,
 ⟨none, .st 1 (.t 47) (.t 46), none⟩]))))
 (.reg [⟨(some 48), .bin .add (.t 35) (.c (.d (.int .i64 1))), none⟩,
 ⟨(some 35), .mv (.t 48), none⟩]))))
def K29_2 : List Nat := [4, 25, 26, 27]
def L29_2 : VCode :=
 (.seq (.reg [⟨(some 28), .bin .lss (.t 27) (.t 26), none⟩])
 (.seq (.cond (.t 28)
 .skip
 (.exit 2))
 (.seq (.block 3 (.seq (.reg [⟨(some 29), .mv (.t 27), none⟩,
 ⟨(some 30), .iadr 6 (.t 25) (.t 27), none⟩,
 ⟨(some 31), .ld (some 6) (.t 30), none⟩,
 ⟨(some 7), .zbox [(.d (.int .i64 0)), (.d (.str [])), (.d (.int .i64 0)), .nils, (.d (.int .i64 0)), (.d (.int .i64 0))], none⟩,
 ⟨(some 6), .mv (.t 29), none⟩,
 ⟨none, .st 6 (.t 7) (.t 31), none⟩])
 (.seq (.reg [⟨(some 32), .fadr 3 (.t 7), none⟩,
 ⟨(some 33), .ld none (.t 32), none⟩,
 ⟨(some 34), .len false (.t 33), none⟩,
 ⟨(some 35), .mv (.c (.d (.int .i64 0))), none⟩])
 (.block 4 (.loop K29_1 L29_1)))))
 (.reg [⟨(some 49), .bin .add (.t 27) (.c (.d (.int .i64 1))), none⟩,
 ⟨(some 27), .mv (.t 49), none⟩]))))
def K29_3 : List Nat := [4, 10]
def L29_3 : VCode :=
 (.seq (.seq (.reg [⟨(some 50), .mv (.t 10), none⟩,
 ⟨(some 51), .bin .add (.t 50) (.c (.d (.int .i64 1))), none⟩,
 ⟨(some 52), .mv (.t 4), none⟩,
 ⟨(some 53), .len false (.t 52), none⟩,
 ⟨(some 54), .bin .lss (.t 51) (.t 53), none⟩])
 (.cond (.t 54)
 .skip
 (.exit 6)))
 (.seq (.block 7 (.seq (.reg [⟨(some 57), .mv (.t 4), none⟩,
 ⟨(some 58), .mv (.t 10), none⟩,
 ⟨(some 59), .iadr 1 (.t 57) (.t 58), none⟩,
 ⟨(some 60), .ld none (.t 59), none⟩,
 ⟨(some 61), .bin .lss (.t 60) (.c (.d (.int .i64 0))), none⟩])
 (.cond (.t 61)
 (.seq (.reg [⟨(some 2), .mv (.c .nils), none⟩,
 ⟨(some 3), .mv (.c (.d (.bool false))), none⟩])
 .ret)
 .skip)))
 (.reg [⟨(some 55), .mv (.t 10), none⟩,
 ⟨(some 56), .bin .add (.t 55) (.c (.d (.int .i64 1))), none⟩,
 ⟨(some 10), .mv (.t 56), none⟩])))
def B29 : VCode :=
 (.seq (.reg [⟨(some 1), .box (.t 0), none⟩,
 ⟨(some 2), .mv (.c .nils), none⟩,
 ⟨(some 3), .mv (.c (.d (.bool false))), none⟩])
 (.seq (.reg [⟨(some 11), .fadr 0 (.t 1), none⟩,
 ⟨(some 12), .ld none (.t 11), none⟩,
 ⟨(some 13), .len false (.t 12), none⟩,
 ⟨(some 14), .msl 1 8 [(.d (.int .i64 0))] (.t 13), none⟩,
 ⟨(some 4), .mv (.t 14), none⟩])
 (.seq (.seq (.reg [⟨(some 15), .mv (.t 4), none⟩,
 ⟨(some 16), .len false (.t 15), none⟩,
 ⟨(some 17), .mv (.c (.d (.int .i64 0))), none⟩])
 (.block 0 (.loop K29_0 L29_0)))
 (.seq (.seq (.reg [⟨(some 24), .fadr 0 (.t 1), none⟩,
 ⟨(some 25), .ld none (.t 24), none⟩,
 ⟨(some 26), .len false (.t 25), none⟩,
 ⟨(some 27), .mv (.c (.d (.int .i64 0))), none⟩])
 (.block 2 (.loop K29_2 L29_2)))
 (.seq (.seq (.reg [⟨(some 10), .mv (.c (.d (.int .i64 0))), none⟩])
 (.block 6 (.loop K29_3 L29_3)))
 (.seq (.seq (.freeze 4)
 (.reg [⟨(some 62), .mv (.t 4), none⟩,
 ⟨(some 2), .mv (.t 62), none⟩,
 ⟨(some 3), .mv (.c (.d (.bool true))), none⟩]))
 .ret))))))
def F29 : VFn := ⟨1, 63, B29, [.tmp 2, .tmp 3], false⟩

def A29 : Ann := ⟨keepOf [(3, [1, 4, 16, 17]), (8, [4, 25, 26, 27]), (11, [4, 6, 25, 26, 27, 33, 34, 35]), (19, [4, 10])], ghostOf [(23, [.freeze 4])]⟩
-- 30 patina/patinaref13.deep
def K30_0 : List Nat := [1, 5, 6, 7]
def L30_0 : VCode :=
 (.seq (.seq (.reg [⟨(some 14), .mv (.t 7), none⟩,
 ⟨(some 15), .bin .geq (.t 14) (.c (.d (.int .i64 0))), none⟩])
 (.cond (.t 15)
 .skip
 (.exit 0)))
 (.seq (.block 1 (.seq (.reg [⟨(some 18), .mv (.t 6), none⟩,
 ⟨(some 19), .mv (.t 7), none⟩,
 ⟨(some 20), .mv (.t 6), none⟩,
 ⟨(some 21), .mv (.t 1), none⟩,
 ⟨(some 22), .mv (.t 7), none⟩,
 ⟨(some 23), .iadr 1 (.t 21) (.t 22), none⟩,
 ⟨(some 24), .ld none (.t 23), none⟩,
 ⟨(some 25), .iadr 1 (.t 20) (.t 24), none⟩,
 ⟨(some 26), .ld none (.t 25), none⟩,
 ⟨(some 27), .bin .add (.t 26) (.c (.d (.int .i64 1))), none⟩,
 ⟨(some 28), .iadr 1 (.t 18) (.t 19), none⟩,
 ⟨none, .st 1 (.t 28) (.t 27), none⟩])
 (.seq (.reg [⟨(some 29), .mv (.t 6), none⟩,
 ⟨(some 30), .mv (.t 7), none⟩,
 ⟨(some 31), .iadr 1 (.t 29) (.t 30), none⟩,
 ⟨(some 32), .ld none (.t 31), none⟩,
 ⟨(some 33), .mv (.t 5), none⟩,
 ⟨(some 34), .bin .gtr (.t 32) (.t 33), none⟩])
 (.cond (.t 34)
 (.reg [⟨(some 35), .mv (.t 6), none⟩,
 ⟨(some 36), .mv (.t 7), none⟩,
 ⟨(some 37), .iadr 1 (.t 35) (.t 36), none⟩,
 ⟨(some 38), .ld none (.t 37), none⟩,
 ⟨(some 5), .mv (.t 38), none⟩])
 .skip))))
 (.reg [⟨(some 16), .mv (.t 7), none⟩,
 ⟨(some 17), .bin .sub (.t 16) (.c (.d (.int .i64 1))), none⟩,
 ⟨(some 7), .mv (.t 17), none⟩])))
def B30 : VCode :=
 (.seq (.reg [⟨(some 2), .box (.t 0), none⟩,
 ⟨(some 4), .mv (.c (.d (.int .i64 0))), none⟩])
 (.seq (.reg [⟨(some 5), .mv (.c (.d (.int .i64 0))), none⟩])
 (.seq (.reg [⟨(some 8), .mv (.t 1), none⟩,
 ⟨(some 9), .len false (.t 8), none⟩,
 ⟨(some 10), .msl 1 8 [(.d (.int .i64 0))] (.t 9), none⟩,
 ⟨(some 6), .mv (.t 10), none⟩])
 (.seq (.seq (.reg [⟨(some 11), .mv (.t 1), none⟩,
 ⟨(some 12), .len false (.t 11), none⟩,
 ⟨(some 13), .bin .sub (.t 12) (.c (.d (.int .i64 2))), none⟩,
 ⟨(some 7), .mv (.t 13), none⟩])
 (.block 0 (.loop K30_0 L30_0)))
 (.seq (.reg [⟨(some 39), .mv (.t 5), none⟩,
 ⟨(some 4), .mv (.t 39), none⟩])
 .ret)))))
def F30 : VFn := ⟨2, 40, B30, [.tmp 4], false⟩

def A30 : Ann := ⟨keepOf [(4, [1, 5, 6, 7])], ghostOf []⟩
-- 31 patina/tree.isType
def B31 : VCode :=
 (.seq (.reg [⟨(some 2), .mv (.c (.d (.bool false))), none⟩])
 (.seq (.reg [⟨(some 3), .mv (.t 0), none⟩,
 ⟨(some 4), .bin .geq (.t 3) (.c (.d (.int .i64 10))), none⟩,
 ⟨(some 5), .mv (.t 4), none⟩,
 ⟨(some 6), .mv (.t 0), some (5, true)⟩,
 ⟨(some 7), .bin .leq (.t 6) (.c (.d (.int .i64 16))), some (5, true)⟩,
 ⟨(some 8), .pick (.t 5) (.t 7) (.c (.d (.bool false))), none⟩,
 ⟨(some 2), .mv (.t 8), none⟩])
 .ret))
def F31 : VFn := ⟨1, 9, B31, [.tmp 2], false⟩

def A31 : Ann := ⟨keepOf [], ghostOf []⟩
-- 33 patina/patinaref13.IsType
def B33 : VCode :=
 (.seq (.reg [⟨(some 2), .mv (.c (.d (.bool false))), none⟩])
 (.seq (.reg [⟨(some 3), .mv (.t 0), none⟩,
 ⟨(some 4), .bin .geq (.t 3) (.c (.d (.int .i64 10))), none⟩,
 ⟨(some 5), .mv (.t 4), none⟩,
 ⟨(some 6), .mv (.t 0), some (5, true)⟩,
 ⟨(some 7), .bin .leq (.t 6) (.c (.d (.int .i64 16))), some (5, true)⟩,
 ⟨(some 8), .pick (.t 5) (.t 7) (.c (.d (.bool false))), none⟩,
 ⟨(some 2), .mv (.t 8), none⟩])
 .ret))
def F33 : VFn := ⟨1, 9, B33, [.tmp 2], false⟩

def A33 : Ann := ⟨keepOf [], ghostOf []⟩
-- 35 (*patina/tree.printer).block
def K35_0 : List Nat := [0, 10, 11, 12]
def L35_0 : VCode :=
 (.seq (.reg [⟨(some 13), .bin .lss (.t 12) (.t 11), none⟩])
 (.seq (.cond (.t 13)
 .skip
 (.exit 0))
 (.seq (.block 1 (.seq (.reg [⟨(some 14), .iadr 1 (.t 10) (.t 12), none⟩,
 ⟨(some 15), .ld none (.t 14), none⟩,
 ⟨(some 5), .mv (.t 15), none⟩])
 (.reg [⟨(some 16), .mv (.t 0), none⟩,
 ⟨(some 17), .mv (.t 5), none⟩,
 ⟨(some 18), .call 21 [(.t 16), (.t 17)], none⟩])))
 (.reg [⟨(some 19), .bin .add (.t 12) (.c (.d (.int .i64 1))), none⟩,
 ⟨(some 12), .mv (.t 19), none⟩]))))
def B35 : VCode :=
 (.seq (.reg [⟨(some 3), .box (.t 1), none⟩])
 (.seq (.reg [⟨(some 6), .mv (.t 0), none⟩,
 ⟨(some 7), .bslice 1 1 [(.c (.d (.str [123])))], none⟩,
 ⟨(some 8), .call 62 [(.t 6), (.t 7)], none⟩])
 (.seq (.seq (.reg [⟨(some 9), .fadr 3 (.t 3), none⟩,
 ⟨(some 10), .ld none (.t 9), none⟩,
 ⟨(some 11), .len false (.t 10), none⟩,
 ⟨(some 12), .mv (.c (.d (.int .i64 0))), none⟩])
 (.block 0 (.loop K35_0 L35_0)))
 (.reg [⟨(some 20), .mv (.t 0), none⟩,
 ⟨(some 21), .bslice 1 1 [(.c (.d (.str [125])))], none⟩,
 ⟨(some 22), .call 62 [(.t 20), (.t 21)], none⟩]))))
def F35 : VFn := ⟨2, 23, B35, [], false⟩

def A35 : Ann := ⟨keepOf [(3, [0, 10, 11, 12])], ghostOf []⟩
-- 36 (*patina/tree.printer).item
def K36_0 : List Nat := [0, 22, 23, 24]
def L36_0 : VCode :=
 (.seq (.reg [⟨(some 25), .bin .lss (.t 24) (.t 23), none⟩])
 (.seq (.cond (.t 25)
 .skip
 (.exit 7))
 (.seq (.block 8 (.seq (.reg [⟨(some 26), .iadr 1 (.t 22) (.t 24), none⟩,
 ⟨(some 27), .ld none (.t 26), none⟩,
 ⟨(some 5), .mv (.t 27), none⟩])
 (.reg [⟨(some 28), .mv (.t 0), none⟩,
 ⟨(some 29), .mv (.t 5), none⟩,
 ⟨(some 30), .call 21 [(.t 28), (.t 29)], none⟩])))
 (.reg [⟨(some 31), .bin .add (.t 24) (.c (.d (.int .i64 1))), none⟩,
 ⟨(some 24), .mv (.t 31), none⟩]))))
def B36 : VCode :=
 (.seq (.reg [⟨(some 3), .box (.t 1), none⟩])
 (.seq (.reg [⟨(some 6), .fadr 0 (.t 3), none⟩,
 ⟨(some 7), .ld none (.t 6), none⟩])
 (.block 0 (.seq (.block 6 (.seq (.block 5 (.seq (.block 4 (.seq (.block 3 (.seq (.block 2 (.seq (.block 1 (.seq (.seq (.seq (.reg [⟨(some 9), .bin .eql (.t 7) (.c (.d (.int .i64 1))), none⟩,
 ⟨(some 8), .mv (.t 9), none⟩])
 (.cond (.t 8)
 (.exit 1)
 .skip))
 (.seq (.seq (.reg [⟨(some 11), .bin .eql (.t 7) (.c (.d (.int .i64 2))), none⟩,
 ⟨(some 10), .mv (.t 11), none⟩])
 (.cond (.t 10)
 (.exit 2)
 .skip))
 (.seq (.seq (.seq (.reg [⟨(some 13), .bin .eql (.t 7) (.c (.d (.int .i64 3))), none⟩,
 ⟨(some 12), .mv (.t 13), none⟩])
 (.cond (.t 12)
 .skip
 (.reg [⟨(some 14), .bin .eql (.t 7) (.c (.d (.int .i64 4))), none⟩,
 ⟨(some 12), .mv (.t 14), none⟩])))
 (.cond (.t 12)
 (.exit 3)
 .skip))
 (.seq (.seq (.reg [⟨(some 16), .bin .eql (.t 7) (.c (.d (.int .i64 6))), none⟩,
 ⟨(some 15), .mv (.t 16), none⟩])
 (.cond (.t 15)
 (.exit 4)
 .skip))
 (.seq (.seq (.reg [⟨(some 18), .bin .eql (.t 7) (.c (.d (.int .i64 7))), none⟩,
 ⟨(some 17), .mv (.t 18), none⟩])
 (.cond (.t 17)
 (.exit 5)
 .skip))
 (.seq (.reg [⟨(some 20), .bin .eql (.t 7) (.c (.d (.int .i64 5))), none⟩,
 ⟨(some 19), .mv (.t 20), none⟩])
 (.cond (.t 19)
 (.exit 6)
 .skip)))))))
 (.exit 0)))
 (.seq (.seq (.reg [⟨(some 21), .fadr 3 (.t 3), none⟩,
 ⟨(some 22), .ld none (.t 21), none⟩,
 ⟨(some 23), .len false (.t 22), none⟩,
 ⟨(some 24), .mv (.c (.d (.int .i64 0))), none⟩])
 (.block 7 (.loop K36_0 L36_0)))
 (.exit 0))))
 (.seq (.reg [⟨(some 32), .mv (.t 0), none⟩,
 ⟨(some 33), .ld (some 6) (.t 3), none⟩,
 ⟨(some 34), .call 63 [(.t 32), (.t 33)], none⟩])
 (.exit 0))))
 (.seq (.seq (.reg [⟨(some 35), .mv (.t 0), none⟩,
 ⟨(some 36), .mkm, none⟩,
 ⟨none, .mput 0 (.t 36) (.c (.d (.bool true))) (.c (.d (.str [115, 116, 114, 117, 99, 116]))), none⟩,
 ⟨none, .mput 0 (.t 36) (.c (.d (.bool false))) (.c (.d (.str [101, 110, 117, 109]))), none⟩,
 ⟨(some 37), .mv (.t 36), none⟩,
 ⟨(some 38), .fadr 0 (.t 3), none⟩,
 ⟨(some 39), .ld none (.t 38), none⟩,
 ⟨(some 40), .bin .eql (.t 39) (.c (.d (.int .i64 3))), none⟩,
 ⟨(some 41), .mget 0 false (.str []) (.t 37) (.t 40), none⟩,
 ⟨(some 42), .fadr 1 (.t 3), none⟩,
 ⟨(some 43), .ld none (.t 42), none⟩,
 ⟨(some 44), .bslice 1 3 [(.t 41), (.t 43), (.c (.d (.str [123])))], none⟩,
 ⟨(some 45), .call 62 [(.t 35), (.t 44)], none⟩])
 (.seq (.reg [⟨(some 46), .mv (.t 0), none⟩,
 ⟨(some 47), .fadr 3 (.t 3), none⟩,
 ⟨(some 48), .ld none (.t 47), none⟩,
 ⟨(some 49), .call 64 [(.t 46), (.t 48)], none⟩])
 (.reg [⟨(some 50), .mv (.t 0), none⟩,
 ⟨(some 51), .bslice 1 1 [(.c (.d (.str [125])))], none⟩,
 ⟨(some 52), .call 62 [(.t 50), (.t 51)], none⟩])))
 (.exit 0))))
 (.seq (.seq (.reg [⟨(some 53), .mv (.t 0), none⟩,
 ⟨(some 54), .fadr 1 (.t 3), none⟩,
 ⟨(some 55), .ld none (.t 54), none⟩,
 ⟨(some 56), .bslice 1 1 [(.t 55)], none⟩,
 ⟨(some 57), .call 62 [(.t 53), (.t 56)], none⟩])
 (.reg [⟨(some 58), .mv (.t 0), none⟩,
 ⟨(some 59), .fadr 3 (.t 3), none⟩,
 ⟨(some 60), .ld none (.t 59), none⟩,
 ⟨(some 61), .call 65 [(.t 58), (.t 60)], none⟩]))
 (.exit 0))))
 (.seq (.reg [⟨(some 62), .fadr 2 (.t 3), none⟩,
 ⟨(some 63), .ld none (.t 62), none⟩,
 ⟨(some 64), .bin .eql (.t 63) (.c (.d (.int .i64 1))), none⟩])
 (.cond (.t 64)
 (.reg [⟨(some 65), .mv (.t 0), none⟩,
 ⟨(some 66), .bslice 1 1 [(.c (.d (.str [109, 117, 116])))], none⟩,
 ⟨(some 67), .call 62 [(.t 65), (.t 66)], none⟩])
 .skip))))
 (.seq (.seq (.reg [⟨(some 68), .mv (.t 0), none⟩,
 ⟨(some 69), .fadr 1 (.t 3), none⟩,
 ⟨(some 70), .ld none (.t 69), none⟩,
 ⟨(some 71), .bslice 1 2 [(.t 70), (.c (.d (.str [58])))], none⟩,
 ⟨(some 72), .call 62 [(.t 68), (.t 71)], none⟩])
 (.reg [⟨(some 73), .mv (.t 0), none⟩,
 ⟨(some 74), .fadr 3 (.t 3), none⟩,
 ⟨(some 75), .ld none (.t 74), none⟩,
 ⟨(some 76), .iadr 1 (.t 75) (.c (.d (.int .i64 0))), none⟩,
 ⟨(some 77), .ld none (.t 76), none⟩,
 ⟨(some 78), .call 21 [(.t 73), (.t 77)], none⟩]))
 (.exit 0))))))
def F36 : VFn := ⟨2, 79, B36, [], false⟩

def A36 : Ann := ⟨keepOf [(10, [0, 22, 23, 24])], ghostOf []⟩
-- 37 (*patina/tree.printer).typ
def B37 : VCode :=
 (.seq (.reg [⟨(some 3), .box (.t 1), none⟩])
 (.seq (.reg [⟨(some 4), .fadr 0 (.t 3), none⟩,
 ⟨(some 5), .ld none (.t 4), none⟩])
 (.block 0 (.seq (.reg [⟨(some 7), .bin .eql (.t 5) (.c (.d (.int .i64 10))), none⟩,
 ⟨(some 6), .mv (.t 7), none⟩])
 (.cond (.t 6)
 (.reg [⟨(some 8), .mv (.t 0), none⟩,
 ⟨(some 9), .bslice 1 1 [(.c (.d (.str [105, 54, 52])))], none⟩,
 ⟨(some 10), .call 62 [(.t 8), (.t 9)], none⟩])
 (.seq (.reg [⟨(some 12), .bin .eql (.t 5) (.c (.d (.int .i64 11))), none⟩,
 ⟨(some 11), .mv (.t 12), none⟩])
 (.cond (.t 11)
 (.reg [⟨(some 13), .mv (.t 0), none⟩,
 ⟨(some 14), .bslice 1 1 [(.c (.d (.str [98, 111, 111, 108])))], none⟩,
 ⟨(some 15), .call 62 [(.t 13), (.t 14)], none⟩])
 (.seq (.reg [⟨(some 17), .bin .eql (.t 5) (.c (.d (.int .i64 12))), none⟩,
 ⟨(some 16), .mv (.t 17), none⟩])
 (.cond (.t 16)
 (.reg [⟨(some 18), .mv (.t 0), none⟩,
 ⟨(some 19), .bslice 1 2 [(.c (.d (.str [40]))), (.c (.d (.str [41])))], none⟩,
 ⟨(some 20), .call 62 [(.t 18), (.t 19)], none⟩])
 (.seq (.reg [⟨(some 22), .bin .eql (.t 5) (.c (.d (.int .i64 13))), none⟩,
 ⟨(some 21), .mv (.t 22), none⟩])
 (.cond (.t 21)
 (.reg [⟨(some 23), .mv (.t 0), none⟩,
 ⟨(some 24), .fadr 1 (.t 3), none⟩,
 ⟨(some 25), .ld none (.t 24), none⟩,
 ⟨(some 26), .bslice 1 1 [(.t 25)], none⟩,
 ⟨(some 27), .call 62 [(.t 23), (.t 26)], none⟩])
 (.seq (.reg [⟨(some 29), .bin .eql (.t 5) (.c (.d (.int .i64 14))), none⟩,
 ⟨(some 28), .mv (.t 29), none⟩])
 (.cond (.t 28)
 (.seq (.reg [⟨(some 30), .mv (.t 0), none⟩,
 ⟨(some 31), .bslice 1 1 [(.c (.d (.str [38])))], none⟩,
 ⟨(some 32), .call 62 [(.t 30), (.t 31)], none⟩])
 (.reg [⟨(some 33), .mv (.t 0), none⟩,
 ⟨(some 34), .fadr 3 (.t 3), none⟩,
 ⟨(some 35), .ld none (.t 34), none⟩,
 ⟨(some 36), .iadr 1 (.t 35) (.c (.d (.int .i64 0))), none⟩,
 ⟨(some 37), .ld none (.t 36), none⟩,
 ⟨(some 38), .call 21 [(.t 33), (.t 37)], none⟩]))
 (.seq (.reg [⟨(some 40), .bin .eql (.t 5) (.c (.d (.int .i64 15))), none⟩,
 ⟨(some 39), .mv (.t 40), none⟩])
 (.cond (.t 39)
 (.seq (.reg [⟨(some 41), .mv (.t 0), none⟩,
 ⟨(some 42), .bslice 1 2 [(.c (.d (.str [38]))), (.c (.d (.str [109, 117, 116])))], none⟩,
 ⟨(some 43), .call 62 [(.t 41), (.t 42)], none⟩])
 (.reg [⟨(some 44), .mv (.t 0), none⟩,
 ⟨(some 45), .fadr 3 (.t 3), none⟩,
 ⟨(some 46), .ld none (.t 45), none⟩,
 ⟨(some 47), .iadr 1 (.t 46) (.c (.d (.int .i64 0))), none⟩,
 ⟨(some 48), .ld none (.t 47), none⟩,
 ⟨(some 49), .call 21 [(.t 44), (.t 48)], none⟩]))
 (.seq (.reg [⟨(some 51), .bin .eql (.t 5) (.c (.d (.int .i64 16))), none⟩,
 ⟨(some 50), .mv (.t 51), none⟩])
 (.cond (.t 50)
 (.seq (.reg [⟨(some 52), .mv (.t 0), none⟩,
 ⟨(some 53), .bslice 1 2 [(.c (.d (.str [66, 111, 120]))), (.c (.d (.str [60])))], none⟩,
 ⟨(some 54), .call 62 [(.t 52), (.t 53)], none⟩])
 (.seq (.reg [⟨(some 55), .mv (.t 0), none⟩,
 ⟨(some 56), .fadr 3 (.t 3), none⟩,
 ⟨(some 57), .ld none (.t 56), none⟩,
 ⟨(some 58), .iadr 1 (.t 57) (.c (.d (.int .i64 0))), none⟩,
 ⟨(some 59), .ld none (.t 58), none⟩,
 ⟨(some 60), .call 21 [(.t 55), (.t 59)], none⟩])
 (.reg [⟨(some 61), .mv (.t 0), none⟩,
 ⟨(some 62), .bslice 1 1 [(.c (.d (.str [62])))], none⟩,
 ⟨(some 63), .call 62 [(.t 61), (.t 62)], none⟩])))
 .skip)))))))))))))))))
def F37 : VFn := ⟨2, 64, B37, [], false⟩

def A37 : Ann := ⟨keepOf [], ghostOf []⟩
-- 38 patina/tree.isStmt
def B38 : VCode :=
 (.seq (.reg [⟨(some 2), .mv (.c (.d (.bool false))), none⟩])
 (.seq (.reg [⟨(some 3), .mv (.t 0), none⟩,
 ⟨(some 4), .bin .geq (.t 3) (.c (.d (.int .i64 21))), none⟩,
 ⟨(some 5), .mv (.t 4), none⟩,
 ⟨(some 6), .mv (.t 0), some (5, true)⟩,
 ⟨(some 7), .bin .leq (.t 6) (.c (.d (.int .i64 27))), some (5, true)⟩,
 ⟨(some 8), .pick (.t 5) (.t 7) (.c (.d (.bool false))), none⟩,
 ⟨(some 2), .mv (.t 8), none⟩])
 .ret))
def F38 : VFn := ⟨1, 9, B38, [.tmp 2], false⟩

def A38 : Ann := ⟨keepOf [], ghostOf []⟩
-- 39 (*patina/tree.printer).stmt
def K39_0 : List Nat := [0, 67, 68, 69]
def L39_0 : VCode :=
 (.seq (.reg [⟨(some 70), .bin .lss (.t 69) (.t 68), none⟩])
 (.seq (.cond (.t 70)
 .skip
 (.exit 1))
 (.seq (.block 2 (.seq (.reg [⟨(some 71), .iadr 1 (.t 67) (.t 69), none⟩,
 ⟨(some 72), .ld none (.t 71), none⟩,
 ⟨(some 5), .mv (.t 72), none⟩])
 (.reg [⟨(some 73), .mv (.t 0), none⟩,
 ⟨(some 74), .mv (.t 5), none⟩,
 ⟨(some 75), .call 21 [(.t 73), (.t 74)], none⟩])))
 (.reg [⟨(some 76), .bin .add (.t 69) (.c (.d (.int .i64 1))), none⟩,
 ⟨(some 69), .mv (.t 76), none⟩]))))
def B39 : VCode :=
 (.seq (.reg [⟨(some 3), .box (.t 1), none⟩])
 (.seq (.reg [⟨(some 6), .fadr 0 (.t 3), none⟩,
 ⟨(some 7), .ld none (.t 6), none⟩])
 (.block 0 (.seq (.reg [⟨(some 9), .bin .eql (.t 7) (.c (.d (.int .i64 21))), none⟩,
 ⟨(some 8), .mv (.t 9), none⟩])
 (.cond (.t 8)
 (.reg [⟨(some 10), .mv (.t 0), none⟩,
 ⟨(some 11), .ld (some 6) (.t 3), none⟩,
 ⟨(some 12), .call 66 [(.t 10), (.t 11)], none⟩])
 (.seq (.reg [⟨(some 14), .bin .eql (.t 7) (.c (.d (.int .i64 22))), none⟩,
 ⟨(some 13), .mv (.t 14), none⟩])
 (.cond (.t 13)
 (.seq (.reg [⟨(some 15), .mv (.t 0), none⟩,
 ⟨(some 16), .fadr 3 (.t 3), none⟩,
 ⟨(some 17), .ld none (.t 16), none⟩,
 ⟨(some 18), .iadr 1 (.t 17) (.c (.d (.int .i64 0))), none⟩,
 ⟨(some 19), .ld none (.t 18), none⟩,
 ⟨(some 20), .call 21 [(.t 15), (.t 19)], none⟩])
 (.reg [⟨(some 21), .mv (.t 0), none⟩,
 ⟨(some 22), .bslice 1 1 [(.c (.d (.str [59])))], none⟩,
 ⟨(some 23), .call 62 [(.t 21), (.t 22)], none⟩]))
 (.seq (.reg [⟨(some 25), .bin .eql (.t 7) (.c (.d (.int .i64 23))), none⟩,
 ⟨(some 24), .mv (.t 25), none⟩])
 (.cond (.t 24)
 (.seq (.reg [⟨(some 26), .mv (.t 0), none⟩,
 ⟨(some 27), .fadr 3 (.t 3), none⟩,
 ⟨(some 28), .ld none (.t 27), none⟩,
 ⟨(some 29), .iadr 1 (.t 28) (.c (.d (.int .i64 0))), none⟩,
 ⟨(some 30), .ld none (.t 29), none⟩,
 ⟨(some 31), .call 67 [(.t 26), (.t 30), (.c (.d (.bool false)))], none⟩])
 (.seq (.reg [⟨(some 32), .mv (.t 0), none⟩,
 ⟨(some 33), .bslice 1 1 [(.c (.d (.str [61])))], none⟩,
 ⟨(some 34), .call 62 [(.t 32), (.t 33)], none⟩])
 (.seq (.reg [⟨(some 35), .mv (.t 0), none⟩,
 ⟨(some 36), .fadr 3 (.t 3), none⟩,
 ⟨(some 37), .ld none (.t 36), none⟩,
 ⟨(some 38), .iadr 1 (.t 37) (.c (.d (.int .i64 1))), none⟩,
 ⟨(some 39), .ld none (.t 38), none⟩,
 ⟨(some 40), .call 67 [(.t 35), (.t 39), (.c (.d (.bool false)))], none⟩])
 (.reg [⟨(some 41), .mv (.t 0), none⟩,
 ⟨(some 42), .bslice 1 1 [(.c (.d (.str [59])))], none⟩,
 ⟨(some 43), .call 62 [(.t 41), (.t 42)], none⟩]))))
 (.seq (.reg [⟨(some 45), .bin .eql (.t 7) (.c (.d (.int .i64 24))), none⟩,
 ⟨(some 44), .mv (.t 45), none⟩])
 (.cond (.t 44)
 (.seq (.reg [⟨(some 46), .mv (.t 0), none⟩,
 ⟨(some 47), .bslice 1 1 [(.c (.d (.str [119, 104, 105, 108, 101])))], none⟩,
 ⟨(some 48), .call 62 [(.t 46), (.t 47)], none⟩])
 (.seq (.reg [⟨(some 49), .mv (.t 0), none⟩,
 ⟨(some 50), .fadr 3 (.t 3), none⟩,
 ⟨(some 51), .ld none (.t 50), none⟩,
 ⟨(some 52), .iadr 1 (.t 51) (.c (.d (.int .i64 0))), none⟩,
 ⟨(some 53), .ld none (.t 52), none⟩,
 ⟨(some 54), .call 67 [(.t 49), (.t 53), (.c (.d (.bool false)))], none⟩])
 (.reg [⟨(some 55), .mv (.t 0), none⟩,
 ⟨(some 56), .fadr 3 (.t 3), none⟩,
 ⟨(some 57), .ld none (.t 56), none⟩,
 ⟨(some 58), .iadr 1 (.t 57) (.c (.d (.int .i64 1))), none⟩,
 ⟨(some 59), .ld none (.t 58), none⟩,
 ⟨(some 60), .call 21 [(.t 55), (.t 59)], none⟩])))
 (.seq (.reg [⟨(some 62), .bin .eql (.t 7) (.c (.d (.int .i64 25))), none⟩,
 ⟨(some 61), .mv (.t 62), none⟩])
 (.cond (.t 61)
 (.seq (.reg [⟨(some 63), .mv (.t 0), none⟩,
 ⟨(some 64), .bslice 1 1 [(.c (.d (.str [114, 101, 116, 117, 114, 110])))], none⟩,
 ⟨(some 65), .call 62 [(.t 63), (.t 64)], none⟩])
 (.seq (.seq (.reg [⟨(some 66), .fadr 3 (.t 3), none⟩,
 ⟨(some 67), .ld none (.t 66), none⟩,
 ⟨(some 68), .len false (.t 67), none⟩,
 ⟨(some 69), .mv (.c (.d (.int .i64 0))), none⟩])
 (.block 1 (.loop K39_0 L39_0)))
 (.reg [⟨(some 77), .mv (.t 0), none⟩,
 ⟨(some 78), .bslice 1 1 [(.c (.d (.str [59])))], none⟩,
 ⟨(some 79), .call 62 [(.t 77), (.t 78)], none⟩])))
 (.seq (.reg [⟨(some 81), .bin .eql (.t 7) (.c (.d (.int .i64 26))), none⟩,
 ⟨(some 80), .mv (.t 81), none⟩])
 (.cond (.t 80)
 (.reg [⟨(some 82), .mv (.t 0), none⟩,
 ⟨(some 83), .bslice 1 2 [(.c (.d (.str [98, 114, 101, 97, 107]))), (.c (.d (.str [59])))], none⟩,
 ⟨(some 84), .call 62 [(.t 82), (.t 83)], none⟩])
 (.seq (.reg [⟨(some 86), .bin .eql (.t 7) (.c (.d (.int .i64 27))), none⟩,
 ⟨(some 85), .mv (.t 86), none⟩])
 (.cond (.t 85)
 (.reg [⟨(some 87), .mv (.t 0), none⟩,
 ⟨(some 88), .bslice 1 2 [(.c (.d (.str [99, 111, 110, 116, 105, 110, 117, 101]))), (.c (.d (.str [59])))], none⟩,
 ⟨(some 89), .call 62 [(.t 87), (.t 88)], none⟩])
 .skip)))))))))))))))))
def F39 : VFn := ⟨2, 90, B39, [], false⟩

def A39 : Ann := ⟨keepOf [(19, [0, 67, 68, 69])], ghostOf []⟩
-- 40 (*patina/tree.printer).expr
def B40 : VCode :=
 (.seq (.reg [⟨(some 3), .box (.t 1), none⟩])
 (.seq (.reg [⟨(some 4), .fadr 0 (.t 3), none⟩,
 ⟨(some 5), .ld none (.t 4), none⟩])
 (.block 0 (.seq (.reg [⟨(some 7), .bin .eql (.t 5) (.c (.d (.int .i64 38))), none⟩,
 ⟨(some 6), .mv (.t 7), none⟩])
 (.cond (.t 6)
 (.seq (.reg [⟨(some 8), .mv (.t 0), none⟩,
 ⟨(some 9), .fadr 3 (.t 3), none⟩,
 ⟨(some 10), .ld none (.t 9), none⟩,
 ⟨(some 11), .iadr 1 (.t 10) (.c (.d (.int .i64 0))), none⟩,
 ⟨(some 12), .ld none (.t 11), none⟩,
 ⟨(some 13), .call 67 [(.t 8), (.t 12), (.c (.d (.bool false)))], none⟩])
 (.seq (.reg [⟨(some 14), .mv (.t 0), none⟩,
 ⟨(some 15), .fadr 1 (.t 3), none⟩,
 ⟨(some 16), .ld none (.t 15), none⟩,
 ⟨(some 17), .bslice 1 1 [(.t 16)], none⟩,
 ⟨(some 18), .call 62 [(.t 14), (.t 17)], none⟩])
 (.reg [⟨(some 19), .mv (.t 0), none⟩,
 ⟨(some 20), .fadr 3 (.t 3), none⟩,
 ⟨(some 21), .ld none (.t 20), none⟩,
 ⟨(some 22), .iadr 1 (.t 21) (.c (.d (.int .i64 1))), none⟩,
 ⟨(some 23), .ld none (.t 22), none⟩,
 ⟨(some 24), .call 67 [(.t 19), (.t 23), (.c (.d (.bool false)))], none⟩])))
 (.seq (.reg [⟨(some 26), .bin .eql (.t 5) (.c (.d (.int .i64 39))), none⟩,
 ⟨(some 25), .mv (.t 26), none⟩])
 (.cond (.t 25)
 (.reg [⟨(some 27), .mv (.t 0), none⟩,
 ⟨(some 28), .ld (some 6) (.t 3), none⟩,
 ⟨(some 29), .bslice 1 1 [(.c (.d (.str [45])))], none⟩,
 ⟨(some 30), .call 68 [(.t 27), (.t 28), (.t 29)], none⟩])
 (.seq (.reg [⟨(some 32), .bin .eql (.t 5) (.c (.d (.int .i64 40))), none⟩,
 ⟨(some 31), .mv (.t 32), none⟩])
 (.cond (.t 31)
 (.reg [⟨(some 33), .mv (.t 0), none⟩,
 ⟨(some 34), .ld (some 6) (.t 3), none⟩,
 ⟨(some 35), .bslice 1 1 [(.c (.d (.str [33])))], none⟩,
 ⟨(some 36), .call 68 [(.t 33), (.t 34), (.t 35)], none⟩])
 (.seq (.reg [⟨(some 38), .bin .eql (.t 5) (.c (.d (.int .i64 42))), none⟩,
 ⟨(some 37), .mv (.t 38), none⟩])
 (.cond (.t 37)
 (.reg [⟨(some 39), .mv (.t 0), none⟩,
 ⟨(some 40), .ld (some 6) (.t 3), none⟩,
 ⟨(some 41), .bslice 1 1 [(.c (.d (.str [42])))], none⟩,
 ⟨(some 42), .call 68 [(.t 39), (.t 40), (.t 41)], none⟩])
 (.seq (.reg [⟨(some 44), .bin .eql (.t 5) (.c (.d (.int .i64 43))), none⟩,
 ⟨(some 43), .mv (.t 44), none⟩])
 (.cond (.t 43)
 (.seq (.reg [⟨(some 45), .fadr 2 (.t 3), none⟩,
 ⟨(some 46), .ld none (.t 45), none⟩,
 ⟨(some 47), .bin .eql (.t 46) (.c (.d (.int .i64 1))), none⟩])
 (.cond (.t 47)
 (.reg [⟨(some 48), .mv (.t 0), none⟩,
 ⟨(some 49), .ld (some 6) (.t 3), none⟩,
 ⟨(some 50), .bslice 1 2 [(.c (.d (.str [38]))), (.c (.d (.str [109, 117, 116])))], none⟩,
 ⟨(some 51), .call 68 [(.t 48), (.t 49), (.t 50)], none⟩])
 (.reg [⟨(some 52), .mv (.t 0), none⟩,
 ⟨(some 53), .ld (some 6) (.t 3), none⟩,
 ⟨(some 54), .bslice 1 1 [(.c (.d (.str [38])))], none⟩,
 ⟨(some 55), .call 68 [(.t 52), (.t 53), (.t 54)], none⟩])))
 (.seq (.reg [⟨(some 57), .bin .eql (.t 5) (.c (.d (.int .i64 41))), none⟩,
 ⟨(some 56), .mv (.t 57), none⟩])
 (.cond (.t 56)
 (.seq (.reg [⟨(some 58), .mv (.t 0), none⟩,
 ⟨(some 59), .fadr 3 (.t 3), none⟩,
 ⟨(some 60), .ld none (.t 59), none⟩,
 ⟨(some 61), .iadr 1 (.t 60) (.c (.d (.int .i64 0))), none⟩,
 ⟨(some 62), .ld none (.t 61), none⟩,
 ⟨(some 63), .call 67 [(.t 58), (.t 62), (.c (.d (.bool true)))], none⟩])
 (.reg [⟨(some 64), .mv (.t 0), none⟩,
 ⟨(some 65), .fadr 1 (.t 3), none⟩,
 ⟨(some 66), .ld none (.t 65), none⟩,
 ⟨(some 67), .bslice 1 2 [(.c (.d (.str [46]))), (.t 66)], none⟩,
 ⟨(some 68), .call 62 [(.t 64), (.t 67)], none⟩]))
 (.seq (.reg [⟨(some 70), .bin .eql (.t 5) (.c (.d (.int .i64 45))), none⟩,
 ⟨(some 69), .mv (.t 70), none⟩])
 (.cond (.t 69)
 (.seq (.reg [⟨(some 71), .mv (.t 0), none⟩,
 ⟨(some 72), .bslice 1 1 [(.c (.d (.str [105, 102])))], none⟩,
 ⟨(some 73), .call 62 [(.t 71), (.t 72)], none⟩])
 (.seq (.reg [⟨(some 74), .mv (.t 0), none⟩,
 ⟨(some 75), .fadr 3 (.t 3), none⟩,
 ⟨(some 76), .ld none (.t 75), none⟩,
 ⟨(some 77), .iadr 1 (.t 76) (.c (.d (.int .i64 0))), none⟩,
 ⟨(some 78), .ld none (.t 77), none⟩,
 ⟨(some 79), .call 67 [(.t 74), (.t 78), (.c (.d (.bool false)))], none⟩])
 (.seq (.reg [⟨(some 80), .mv (.t 0), none⟩,
 ⟨(some 81), .fadr 3 (.t 3), none⟩,
 ⟨(some 82), .ld none (.t 81), none⟩,
 ⟨(some 83), .iadr 1 (.t 82) (.c (.d (.int .i64 1))), none⟩,
 ⟨(some 84), .ld none (.t 83), none⟩,
 ⟨(some 85), .call 21 [(.t 80), (.t 84)], none⟩])
 (.seq (.reg [⟨(some 86), .fadr 3 (.t 3), none⟩,
 ⟨(some 87), .ld none (.t 86), none⟩,
 ⟨(some 88), .len false (.t 87), none⟩,
 ⟨(some 89), .bin .eql (.t 88) (.c (.d (.int .i64 3))), none⟩])
 (.cond (.t 89)
 (.seq (.reg [⟨(some 90), .mv (.t 0), none⟩,
 ⟨(some 91), .bslice 1 1 [(.c (.d (.str [101, 108, 115, 101])))], none⟩,
 ⟨(some 92), .call 62 [(.t 90), (.t 91)], none⟩])
 (.reg [⟨(some 93), .mv (.t 0), none⟩,
 ⟨(some 94), .fadr 3 (.t 3), none⟩,
 ⟨(some 95), .ld none (.t 94), none⟩,
 ⟨(some 96), .iadr 1 (.t 95) (.c (.d (.int .i64 2))), none⟩,
 ⟨(some 97), .ld none (.t 96), none⟩,
 ⟨(some 98), .call 21 [(.t 93), (.t 97)], none⟩]))
 .skip)))))
 (.seq (.reg [⟨(some 100), .bin .eql (.t 5) (.c (.d (.int .i64 46))), none⟩,
 ⟨(some 99), .mv (.t 100), none⟩])
 (.cond (.t 99)
 (.seq (.reg [⟨(some 101), .mv (.t 0), none⟩,
 ⟨(some 102), .bslice 1 1 [(.c (.d (.str [109, 97, 116, 99, 104])))], none⟩,
 ⟨(some 103), .call 62 [(.t 101), (.t 102)], none⟩])
 (.seq (.reg [⟨(some 104), .mv (.t 0), none⟩,
 ⟨(some 105), .fadr 3 (.t 3), none⟩,
 ⟨(some 106), .ld none (.t 105), none⟩,
 ⟨(some 107), .iadr 1 (.t 106) (.c (.d (.int .i64 0))), none⟩,
 ⟨(some 108), .ld none (.t 107), none⟩,
 ⟨(some 109), .call 67 [(.t 104), (.t 108), (.c (.d (.bool false)))], none⟩])
 (.seq (.reg [⟨(some 110), .mv (.t 0), none⟩,
 ⟨(some 111), .bslice 1 1 [(.c (.d (.str [123])))], none⟩,
 ⟨(some 112), .call 62 [(.t 110), (.t 111)], none⟩])
 (.seq (.reg [⟨(some 113), .mv (.t 0), none⟩,
 ⟨(some 114), .fadr 3 (.t 3), none⟩,
 ⟨(some 115), .ld none (.t 114), none⟩,
 ⟨(some 116), .slc 1 (.t 115) (some (.c (.d (.int .i64 1)))) none, none⟩,
 ⟨(some 117), .call 64 [(.t 113), (.t 116)], none⟩])
 (.reg [⟨(some 118), .mv (.t 0), none⟩,
 ⟨(some 119), .bslice 1 1 [(.c (.d (.str [125])))], none⟩,
 ⟨(some 120), .call 62 [(.t 118), (.t 119)], none⟩])))))
 .skip)))))))))))))))))))
def F40 : VFn := ⟨2, 121, B40, [], false⟩

def A40 : Ann := ⟨keepOf [], ghostOf []⟩
-- 41 (*patina/tree.printer).primary
def B41 : VCode :=
 (.seq (.reg [⟨(some 3), .box (.t 1), none⟩])
 (.seq (.reg [⟨(some 4), .fadr 0 (.t 3), none⟩,
 ⟨(some 5), .ld none (.t 4), none⟩])
 (.block 0 (.seq (.seq (.reg [⟨(some 7), .bin .eql (.t 5) (.c (.d (.int .i64 30))), none⟩,
 ⟨(some 6), .mv (.t 7), none⟩])
 (.cond (.t 6)
 .skip
 (.reg [⟨(some 8), .bin .eql (.t 5) (.c (.d (.int .i64 52))), none⟩,
 ⟨(some 6), .mv (.t 8), none⟩])))
 (.cond (.t 6)
 (.seq (.seq (.reg [⟨(some 9), .fadr 2 (.t 3), none⟩,
 ⟨(some 10), .ld none (.t 9), none⟩,
 ⟨(some 11), .bin .lss (.t 10) (.c (.d (.int .i64 0))), none⟩])
 (.cond (.t 11)
 (.seq (.reg [⟨(some 12), .mv (.t 0), none⟩,
 ⟨(some 13), .bslice 1 1 [(.c (.d (.str [45])))], none⟩,
 ⟨(some 14), .call 62 [(.t 12), (.t 13)], none⟩])
 (.reg [⟨(some 15), .fadr 2 (.t 3), none⟩,
 ⟨(some 16), .ld none (.t 15), none⟩,
 ⟨(some 17), .un .neg (.t 16), none⟩,
 ⟨(some 18), .fadr 2 (.t 3), none⟩,
 ⟨none, .st 1 (.t 18) (.t 17), none⟩]))
 .skip))
 (.reg [⟨(some 19), .mv (.t 0), none⟩,
 ⟨(some 20), .fadr 2 (.t 3), none⟩,
 ⟨(some 21), .ld none (.t 20), none⟩,
 ⟨(some 22), .call 69 [(.t 21), (.c (.d (.int .i64 10)))], none⟩,
 ⟨(some 23), .bslice 1 1 [(.t 22)], none⟩,
 ⟨(some 24), .call 62 [(.t 19), (.t 23)], none⟩]))
 (.seq (.seq (.reg [⟨(some 26), .bin .eql (.t 5) (.c (.d (.int .i64 31))), none⟩,
 ⟨(some 25), .mv (.t 26), none⟩])
 (.cond (.t 25)
 .skip
 (.reg [⟨(some 27), .bin .eql (.t 5) (.c (.d (.int .i64 53))), none⟩,
 ⟨(some 25), .mv (.t 27), none⟩])))
 (.cond (.t 25)
 (.reg [⟨(some 28), .mv (.t 0), none⟩,
 ⟨(some 29), .fadr 2 (.t 3), none⟩,
 ⟨(some 30), .ld none (.t 29), none⟩,
 ⟨(some 31), .bin .eql (.t 30) (.c (.d (.int .i64 1))), none⟩,
 ⟨(some 32), .call 70 [(.t 31)], none⟩,
 ⟨(some 33), .bslice 1 1 [(.t 32)], none⟩,
 ⟨(some 34), .call 62 [(.t 28), (.t 33)], none⟩])
 (.seq (.reg [⟨(some 36), .bin .eql (.t 5) (.c (.d (.int .i64 32))), none⟩,
 ⟨(some 35), .mv (.t 36), none⟩])
 (.cond (.t 35)
 (.reg [⟨(some 37), .mv (.t 0), none⟩,
 ⟨(some 38), .bslice 1 2 [(.c (.d (.str [40]))), (.c (.d (.str [41])))], none⟩,
 ⟨(some 39), .call 62 [(.t 37), (.t 38)], none⟩])
 (.seq (.seq (.reg [⟨(some 41), .bin .eql (.t 5) (.c (.d (.int .i64 33))), none⟩,
 ⟨(some 40), .mv (.t 41), none⟩])
 (.cond (.t 40)
 .skip
 (.reg [⟨(some 42), .bin .eql (.t 5) (.c (.d (.int .i64 51))), none⟩,
 ⟨(some 40), .mv (.t 42), none⟩])))
 (.cond (.t 40)
 (.reg [⟨(some 43), .mv (.t 0), none⟩,
 ⟨(some 44), .fadr 1 (.t 3), none⟩,
 ⟨(some 45), .ld none (.t 44), none⟩,
 ⟨(some 46), .bslice 1 1 [(.t 45)], none⟩,
 ⟨(some 47), .call 62 [(.t 43), (.t 46)], none⟩])
 (.seq (.reg [⟨(some 49), .bin .eql (.t 5) (.c (.d (.int .i64 50))), none⟩,
 ⟨(some 48), .mv (.t 49), none⟩])
 (.cond (.t 48)
 (.reg [⟨(some 50), .mv (.t 0), none⟩,
 ⟨(some 51), .bslice 1 1 [(.c (.d (.str [95])))], none⟩,
 ⟨(some 52), .call 62 [(.t 50), (.t 51)], none⟩])
 (.seq (.reg [⟨(some 54), .bin .eql (.t 5) (.c (.d (.int .i64 34))), none⟩,
 ⟨(some 53), .mv (.t 54), none⟩])
 (.cond (.t 53)
 (.seq (.reg [⟨(some 55), .mv (.t 0), none⟩,
 ⟨(some 56), .fadr 1 (.t 3), none⟩,
 ⟨(some 57), .ld none (.t 56), none⟩,
 ⟨(some 58), .bslice 1 2 [(.t 57), (.c (.d (.str [40])))], none⟩,
 ⟨(some 59), .call 62 [(.t 55), (.t 58)], none⟩])
 (.seq (.reg [⟨(some 60), .mv (.t 0), none⟩,
 ⟨(some 61), .fadr 3 (.t 3), none⟩,
 ⟨(some 62), .ld none (.t 61), none⟩,
 ⟨(some 63), .call 64 [(.t 60), (.t 62)], none⟩])
 (.reg [⟨(some 64), .mv (.t 0), none⟩,
 ⟨(some 65), .bslice 1 1 [(.c (.d (.str [41])))], none⟩,
 ⟨(some 66), .call 62 [(.t 64), (.t 65)], none⟩])))
 (.seq (.reg [⟨(some 68), .bin .eql (.t 5) (.c (.d (.int .i64 35))), none⟩,
 ⟨(some 67), .mv (.t 68), none⟩])
 (.cond (.t 67)
 (.seq (.reg [⟨(some 69), .mv (.t 0), none⟩,
 ⟨(some 70), .fadr 1 (.t 3), none⟩,
 ⟨(some 71), .ld none (.t 70), none⟩,
 ⟨(some 72), .bslice 1 2 [(.t 71), (.c (.d (.str [123])))], none⟩,
 ⟨(some 73), .call 62 [(.t 69), (.t 72)], none⟩])
 (.seq (.reg [⟨(some 74), .mv (.t 0), none⟩,
 ⟨(some 75), .fadr 3 (.t 3), none⟩,
 ⟨(some 76), .ld none (.t 75), none⟩,
 ⟨(some 77), .call 64 [(.t 74), (.t 76)], none⟩])
 (.reg [⟨(some 78), .mv (.t 0), none⟩,
 ⟨(some 79), .bslice 1 1 [(.c (.d (.str [125])))], none⟩,
 ⟨(some 80), .call 62 [(.t 78), (.t 79)], none⟩])))
 (.seq (.reg [⟨(some 82), .bin .eql (.t 5) (.c (.d (.int .i64 36))), none⟩,
 ⟨(some 81), .mv (.t 82), none⟩])
 (.cond (.t 81)
 (.seq (.reg [⟨(some 83), .mv (.t 0), none⟩,
 ⟨(some 84), .fadr 1 (.t 3), none⟩,
 ⟨(some 85), .ld none (.t 84), none⟩,
 ⟨(some 86), .bslice 1 2 [(.t 85), (.c (.d (.str [58])))], none⟩,
 ⟨(some 87), .call 62 [(.t 83), (.t 86)], none⟩])
 (.reg [⟨(some 88), .mv (.t 0), none⟩,
 ⟨(some 89), .fadr 3 (.t 3), none⟩,
 ⟨(some 90), .ld none (.t 89), none⟩,
 ⟨(some 91), .iadr 1 (.t 90) (.c (.d (.int .i64 0))), none⟩,
 ⟨(some 92), .ld none (.t 91), none⟩,
 ⟨(some 93), .call 21 [(.t 88), (.t 92)], none⟩]))
 (.seq (.seq (.reg [⟨(some 95), .bin .eql (.t 5) (.c (.d (.int .i64 37))), none⟩,
 ⟨(some 94), .mv (.t 95), none⟩])
 (.cond (.t 94)
 .skip
 (.reg [⟨(some 96), .bin .eql (.t 5) (.c (.d (.int .i64 54))), none⟩,
 ⟨(some 94), .mv (.t 96), none⟩])))
 (.cond (.t 94)
 (.seq (.reg [⟨(some 97), .mv (.t 0), none⟩,
 ⟨(some 98), .fadr 1 (.t 3), none⟩,
 ⟨(some 99), .ld none (.t 98), none⟩,
 ⟨(some 100), .call 71 [(.t 97), (.t 99)], none⟩])
 (.reg [⟨(some 101), .mv (.t 0), none⟩,
 ⟨(some 102), .fadr 3 (.t 3), none⟩,
 ⟨(some 103), .ld none (.t 102), none⟩,
 ⟨(some 104), .call 65 [(.t 101), (.t 103)], none⟩]))
 (.seq (.reg [⟨(some 106), .bin .eql (.t 5) (.c (.d (.int .i64 44))), none⟩,
 ⟨(some 105), .mv (.t 106), none⟩])
 (.cond (.t 105)
 (.seq (.reg [⟨(some 107), .mv (.t 0), none⟩,
 ⟨(some 108), .bslice 1 3 [(.c (.d (.str [66, 111, 120]))), (.c (.d (.str [58, 58]))), (.c (.d (.str [110, 101, 119])))], none⟩,
 ⟨(some 109), .call 62 [(.t 107), (.t 108)], none⟩])
 (.reg [⟨(some 110), .mv (.t 0), none⟩,
 ⟨(some 111), .fadr 3 (.t 3), none⟩,
 ⟨(some 112), .ld none (.t 111), none⟩,
 ⟨(some 113), .call 65 [(.t 110), (.t 112)], none⟩]))
 (.seq (.reg [⟨(some 115), .bin .eql (.t 5) (.c (.d (.int .i64 47))), none⟩,
 ⟨(some 114), .mv (.t 115), none⟩])
 (.cond (.t 114)
 (.seq (.reg [⟨(some 116), .mv (.t 0), none⟩,
 ⟨(some 117), .fadr 3 (.t 3), none⟩,
 ⟨(some 118), .ld none (.t 117), none⟩,
 ⟨(some 119), .iadr 1 (.t 118) (.c (.d (.int .i64 0))), none⟩,
 ⟨(some 120), .ld none (.t 119), none⟩,
 ⟨(some 121), .call 21 [(.t 116), (.t 120)], none⟩])
 (.seq (.reg [⟨(some 122), .mv (.t 0), none⟩,
 ⟨(some 123), .bslice 1 1 [(.c (.d (.str [61, 62])))], none⟩,
 ⟨(some 124), .call 62 [(.t 122), (.t 123)], none⟩])
 (.reg [⟨(some 125), .mv (.t 0), none⟩,
 ⟨(some 126), .fadr 3 (.t 3), none⟩,
 ⟨(some 127), .ld none (.t 126), none⟩,
 ⟨(some 128), .iadr 1 (.t 127) (.c (.d (.int .i64 1))), none⟩,
 ⟨(some 129), .ld none (.t 128), none⟩,
 ⟨(some 130), .call 21 [(.t 125), (.t 129)], none⟩])))
 .skip)))))))))))))))))))))))))
def F41 : VFn := ⟨2, 131, B41, [], false⟩

def A41 : Ann := ⟨keepOf [], ghostOf []⟩
-- 45 patina/patinaref13.node
def K45_0 : List Nat := [1, 2, 5, 42, 43, 44]
def L45_0 : VCode :=
 (.seq (.reg [⟨(some 45), .bin .lss (.t 44) (.t 43), none⟩])
 (.seq (.cond (.t 45)
 .skip
 (.exit 0))
 (.seq (.block 1 (.seq (.reg [⟨(some 46), .iadr 1 (.t 42) (.t 44), none⟩,
 ⟨(some 47), .ld none (.t 46), none⟩,
 ⟨(some 7), .mv (.t 47), none⟩])
 (.seq (.reg [⟨(some 48), .mv (.t 7), none⟩,
 ⟨(some 49), .bin .lss (.t 48) (.c (.d (.int .i64 0))), none⟩,
 ⟨(some 50), .mv (.t 49), none⟩,
 ⟨(some 51), .mv (.t 7), some (50, false)⟩,
 ⟨(some 52), .mv (.t 1), some (50, false)⟩,
 ⟨(some 53), .bin .geq (.t 51) (.t 52), some (50, false)⟩,
 ⟨(some 54), .pick (.t 50) (.c (.d (.bool true))) (.t 53), none⟩])
 (.cond (.t 54)
 (.seq (.reg [⟨(some 4), .mv (.c (.d (.bool false))), none⟩])
 .ret)
 .skip))))
 (.reg [⟨(some 55), .bin .add (.t 44) (.c (.d (.int .i64 1))), none⟩,
 ⟨(some 44), .mv (.t 55), none⟩]))))
def K45_1 : List Nat := [2, 5, 57, 58, 59]
def L45_1 : VCode :=
 (.seq (.reg [⟨(some 60), .bin .lss (.t 59) (.t 58), none⟩])
 (.seq (.cond (.t 60)
 .skip
 (.exit 2))
 (.seq (.block 3 (.seq (.reg [⟨(some 61), .iadr 1 (.t 57) (.t 59), none⟩,
 ⟨(some 62), .ld none (.t 61), none⟩,
 ⟨(some 9), .mv (.t 62), none⟩])
 (.seq (.reg [⟨(some 63), .ld (some 1) (.t 2), none⟩,
 ⟨(some 64), .ld (some 6) (.t 5), none⟩,
 ⟨(some 65), .mv (.t 9), none⟩,
 ⟨(some 66), .call 78 [(.t 63), (.t 64), (.t 65)], none⟩])
 (.cond (.t 66)
 (.seq (.reg [⟨(some 4), .mv (.c (.d (.bool true))), none⟩])
 .ret)
 .skip))))
 (.reg [⟨(some 67), .bin .add (.t 59) (.c (.d (.int .i64 1))), none⟩,
 ⟨(some 59), .mv (.t 67), none⟩]))))
def B45 : VCode :=
 (.seq (.reg [⟨(some 2), .box (.t 0), none⟩,
 ⟨(some 4), .mv (.c (.d (.bool false))), none⟩])
 (.seq (.reg [⟨(some 10), .fadr 0 (.t 2), none⟩,
 ⟨(some 11), .ld none (.t 10), none⟩,
 ⟨(some 12), .mv (.t 1), none⟩,
 ⟨(some 13), .iadr 6 (.t 11) (.t 12), none⟩,
 ⟨(some 14), .ld (some 6) (.t 13), none⟩,
 ⟨(some 5), .zbox [(.d (.int .i64 0)), (.d (.str [])), (.d (.int .i64 0)), .nils, (.d (.int .i64 0)), (.d (.int .i64 0))], none⟩,
 ⟨none, .st 6 (.t 5) (.t 14), none⟩])
 (.seq (.seq (.reg [⟨(some 15), .fadr 0 (.t 5), none⟩,
 ⟨(some 16), .ld none (.t 15), none⟩,
 ⟨(some 17), .call 74 [(.t 16)], none⟩,
 ⟨(some 18), .un .not (.t 17), none⟩,
 ⟨(some 19), .mv (.t 18), none⟩,
 ⟨(some 20), .ld (some 6) (.t 5), some (19, false)⟩,
 ⟨(some 21), .call 75 [(.t 20)], some (19, false)⟩,
 ⟨(some 22), .un .not (.t 21), some (19, false)⟩,
 ⟨(some 23), .pick (.t 19) (.c (.d (.bool true))) (.t 22), none⟩,
 ⟨(some 24), .mv (.t 23), none⟩,
 ⟨(some 25), .ld (some 6) (.t 5), some (24, false)⟩,
 ⟨(some 26), .call 76 [(.t 25)], some (24, false)⟩,
 ⟨(some 27), .un .not (.t 26), some (24, false)⟩,
 ⟨(some 28), .pick (.t 24) (.c (.d (.bool true))) (.t 27), none⟩,
 ⟨(some 29), .mv (.t 28), none⟩,
 ⟨(some 30), .fadr 4 (.t 5), some (29, false)⟩,
 ⟨(some 31), .ld none (.t 30), some (29, false)⟩,
 ⟨(some 32), .bin .lss (.t 31) (.c (.d (.int .i64 0))), some (29, false)⟩,
 ⟨(some 33), .pick (.t 29) (.c (.d (.bool true))) (.t 32), none⟩,
 ⟨(some 34), .mv (.t 33), none⟩,
 ⟨(some 35), .fadr 5 (.t 5), some (34, false)⟩,
 ⟨(some 36), .ld none (.t 35), some (34, false)⟩,
 ⟨(some 37), .fadr 4 (.t 5), some (34, false)⟩,
 ⟨(some 38), .ld none (.t 37), some (34, false)⟩,
 ⟨(some 39), .bin .lss (.t 36) (.t 38), some (34, false)⟩,
 ⟨(some 40), .pick (.t 34) (.c (.d (.bool true))) (.t 39), none⟩])
 (.cond (.t 40)
 (.seq (.reg [⟨(some 4), .mv (.c (.d (.bool false))), none⟩])
 .ret)
 .skip))
 (.seq (.seq (.reg [⟨(some 41), .fadr 3 (.t 5), none⟩,
 ⟨(some 42), .ld none (.t 41), none⟩,
 ⟨(some 43), .len false (.t 42), none⟩,
 ⟨(some 44), .mv (.c (.d (.int .i64 0))), none⟩])
 (.block 0 (.loop K45_0 L45_0)))
 (.seq (.seq (.reg [⟨(some 56), .ld (some 6) (.t 5), none⟩,
 ⟨(some 57), .call 77 [(.t 56)], none⟩,
 ⟨(some 58), .len false (.t 57), none⟩,
 ⟨(some 59), .mv (.c (.d (.int .i64 0))), none⟩])
 (.block 2 (.loop K45_1 L45_1)))
 (.seq (.reg [⟨(some 4), .mv (.c (.d (.bool false))), none⟩])
 .ret))))))
def F45 : VFn := ⟨2, 68, B45, [.tmp 4], false⟩

def A45 : Ann := ⟨keepOf [(5, [1, 2, 5, 42, 43, 44]), (11, [2, 5, 57, 58, 59])], ghostOf []⟩
-- 48 patina/patinaref13.IsStmt
def B48 : VCode :=
 (.seq (.reg [⟨(some 2), .mv (.c (.d (.bool false))), none⟩])
 (.seq (.reg [⟨(some 3), .mv (.t 0), none⟩,
 ⟨(some 4), .bin .geq (.t 3) (.c (.d (.int .i64 21))), none⟩,
 ⟨(some 5), .mv (.t 4), none⟩,
 ⟨(some 6), .mv (.t 0), some (5, true)⟩,
 ⟨(some 7), .bin .leq (.t 6) (.c (.d (.int .i64 27))), some (5, true)⟩,
 ⟨(some 8), .pick (.t 5) (.t 7) (.c (.d (.bool false))), none⟩,
 ⟨(some 2), .mv (.t 8), none⟩])
 .ret))
def F48 : VFn := ⟨1, 9, B48, [.tmp 2], false⟩

def A48 : Ann := ⟨keepOf [], ghostOf []⟩
-- 57 patina/tree.known
def B57 : VCode :=
 (.seq (.reg [⟨(some 2), .mv (.c (.d (.bool false))), none⟩])
 (.seq (.reg [⟨(some 3), .mv (.t 0), none⟩,
 ⟨(some 4), .bin .geq (.t 3) (.c (.d (.int .i64 1))), none⟩,
 ⟨(some 5), .mv (.t 4), none⟩,
 ⟨(some 6), .mv (.t 0), some (5, true)⟩,
 ⟨(some 7), .bin .leq (.t 6) (.c (.d (.int .i64 7))), some (5, true)⟩,
 ⟨(some 8), .pick (.t 5) (.t 7) (.c (.d (.bool false))), none⟩,
 ⟨(some 9), .mv (.t 8), none⟩,
 ⟨(some 10), .mv (.t 0), some (9, false)⟩,
 ⟨(some 11), .call 31 [(.t 10)], some (9, false)⟩,
 ⟨(some 12), .pick (.t 9) (.c (.d (.bool true))) (.t 11), none⟩,
 ⟨(some 13), .mv (.t 12), none⟩,
 ⟨(some 14), .mv (.t 0), some (13, false)⟩,
 ⟨(some 15), .call 38 [(.t 14)], some (13, false)⟩,
 ⟨(some 16), .pick (.t 13) (.c (.d (.bool true))) (.t 15), none⟩,
 ⟨(some 17), .mv (.t 16), none⟩,
 ⟨(some 18), .mv (.t 0), some (17, false)⟩,
 ⟨(some 19), .call 81 [(.t 18)], some (17, false)⟩,
 ⟨(some 20), .pick (.t 17) (.c (.d (.bool true))) (.t 19), none⟩,
 ⟨(some 21), .mv (.t 20), none⟩,
 ⟨(some 22), .mv (.t 0), some (21, false)⟩,
 ⟨(some 23), .call 82 [(.t 22)], some (21, false)⟩,
 ⟨(some 24), .pick (.t 21) (.c (.d (.bool true))) (.t 23), none⟩,
 ⟨(some 25), .mv (.t 24), none⟩,
 ⟨(some 26), .mv (.t 0), some (25, false)⟩,
 ⟨(some 27), .bin .eql (.t 26) (.c (.d (.int .i64 36))), some (25, false)⟩,
 ⟨(some 28), .pick (.t 25) (.c (.d (.bool true))) (.t 27), none⟩,
 ⟨(some 29), .mv (.t 28), none⟩,
 ⟨(some 30), .mv (.t 0), some (29, false)⟩,
 ⟨(some 31), .bin .eql (.t 30) (.c (.d (.int .i64 47))), some (29, false)⟩,
 ⟨(some 32), .pick (.t 29) (.c (.d (.bool true))) (.t 31), none⟩,
 ⟨(some 2), .mv (.t 32), none⟩])
 .ret))
def F57 : VFn := ⟨1, 33, B57, [.tmp 2], false⟩

def A57 : Ann := ⟨keepOf [], ghostOf []⟩
-- 58 patina/tree.name
def B58 : VCode :=
 (.seq (.reg [⟨(some 1), .box (.t 0), none⟩,
 ⟨(some 2), .mv (.c (.d (.bool false))), none⟩])
 (.seq (.seq (.reg [⟨(some 6), .fadr 0 (.t 1), none⟩,
 ⟨(some 7), .ld none (.t 6), none⟩])
 (.block 0 (.seq (.seq (.reg [⟨(some 9), .bin .eql (.t 7) (.c (.d (.int .i64 2))), none⟩,
 ⟨(some 8), .mv (.t 9), none⟩])
 (.cond (.t 8)
 .skip
 (.seq (.reg [⟨(some 10), .bin .eql (.t 7) (.c (.d (.int .i64 3))), none⟩,
 ⟨(some 8), .mv (.t 10), none⟩])
 (.cond (.t 8)
 .skip
 (.seq (.reg [⟨(some 11), .bin .eql (.t 7) (.c (.d (.int .i64 4))), none⟩,
 ⟨(some 8), .mv (.t 11), none⟩])
 (.cond (.t 8)
 .skip
 (.seq (.reg [⟨(some 12), .bin .eql (.t 7) (.c (.d (.int .i64 5))), none⟩,
 ⟨(some 8), .mv (.t 12), none⟩])
 (.cond (.t 8)
 .skip
 (.seq (.reg [⟨(some 13), .bin .eql (.t 7) (.c (.d (.int .i64 6))), none⟩,
 ⟨(some 8), .mv (.t 13), none⟩])
 (.cond (.t 8)
 .skip
 (.seq (.reg [⟨(some 14), .bin .eql (.t 7) (.c (.d (.int .i64 7))), none⟩,
 ⟨(some 8), .mv (.t 14), none⟩])
 (.cond (.t 8)
 .skip
 (.seq (.reg [⟨(some 15), .bin .eql (.t 7) (.c (.d (.int .i64 13))), none⟩,
 ⟨(some 8), .mv (.t 15), none⟩])
 (.cond (.t 8)
 .skip
 (.seq (.reg [⟨(some 16), .bin .eql (.t 7) (.c (.d (.int .i64 21))), none⟩,
 ⟨(some 8), .mv (.t 16), none⟩])
 (.cond (.t 8)
 .skip
 (.seq (.reg [⟨(some 17), .bin .eql (.t 7) (.c (.d (.int .i64 33))), none⟩,
 ⟨(some 8), .mv (.t 17), none⟩])
 (.cond (.t 8)
 .skip
 (.seq (.reg [⟨(some 18), .bin .eql (.t 7) (.c (.d (.int .i64 34))), none⟩,
 ⟨(some 8), .mv (.t 18), none⟩])
 (.cond (.t 8)
 .skip
 (.seq (.reg [⟨(some 19), .bin .eql (.t 7) (.c (.d (.int .i64 35))), none⟩,
 ⟨(some 8), .mv (.t 19), none⟩])
 (.cond (.t 8)
 .skip
 (.seq (.reg [⟨(some 20), .bin .eql (.t 7) (.c (.d (.int .i64 36))), none⟩,
 ⟨(some 8), .mv (.t 20), none⟩])
 (.cond (.t 8)
 .skip
 (.seq (.reg [⟨(some 21), .bin .eql (.t 7) (.c (.d (.int .i64 41))), none⟩,
 ⟨(some 8), .mv (.t 21), none⟩])
 (.cond (.t 8)
 .skip
 (.reg [⟨(some 22), .bin .eql (.t 7) (.c (.d (.int .i64 51))), none⟩,
 ⟨(some 8), .mv (.t 22), none⟩])))))))))))))))))))))))))))
 (.cond (.t 8)
 (.seq (.reg [⟨(some 23), .fadr 1 (.t 1), none⟩,
 ⟨(some 24), .ld none (.t 23), none⟩,
 ⟨(some 25), .call 83 [(.t 24)], none⟩,
 ⟨(some 2), .mv (.t 25), none⟩])
 .ret)
 (.seq (.seq (.reg [⟨(some 27), .bin .eql (.t 7) (.c (.d (.int .i64 37))), none⟩,
 ⟨(some 26), .mv (.t 27), none⟩])
 (.cond (.t 26)
 .skip
 (.reg [⟨(some 28), .bin .eql (.t 7) (.c (.d (.int .i64 54))), none⟩,
 ⟨(some 26), .mv (.t 28), none⟩])))
 (.cond (.t 26)
 (.seq (.reg [⟨(some 30), .fadr 1 (.t 1), none⟩,
 ⟨(some 31), .ld none (.t 30), none⟩,
 ⟨(some 32), .call 84 [(.t 31), (.c (.d (.str [58, 58])))], none⟩,
 ⟨(some 29), .mv (.t 32), none⟩,
 ⟨(some 33), .ext (.t 29) 0, none⟩,
 ⟨(some 34), .ext (.t 29) 1, none⟩,
 ⟨(some 35), .ext (.t 29) 2, none⟩,
 ⟨(some 3), .mv (.t 33), none⟩,
 ⟨(some 4), .mv (.t 34), none⟩,
 ⟨(some 5), .mv (.t 35), none⟩])
 (.seq (.reg [⟨(some 36), .mv (.t 5), none⟩,
 ⟨(some 37), .mv (.t 36), none⟩,
 ⟨(some 38), .mv (.t 3), some (37, true)⟩,
 ⟨(some 39), .call 83 [(.t 38)], some (37, true)⟩,
 ⟨(some 40), .pick (.t 37) (.t 39) (.c (.d (.bool false))), none⟩,
 ⟨(some 41), .mv (.t 40), none⟩,
 ⟨(some 42), .mv (.t 4), some (41, true)⟩,
 ⟨(some 43), .call 83 [(.t 42)], some (41, true)⟩,
 ⟨(some 44), .pick (.t 41) (.t 43) (.c (.d (.bool false))), none⟩,
 ⟨(some 2), .mv (.t 44), none⟩])
 .ret))
 (.seq (.reg [⟨(some 46), .bin .eql (.t 7) (.c (.d (.int .i64 38))), none⟩,
 ⟨(some 45), .mv (.t 46), none⟩])
 (.cond (.t 45)
 (.seq (.reg [⟨(some 47), .fadr 1 (.t 1), none⟩,
 ⟨(some 48), .ld none (.t 47), none⟩,
 ⟨(some 49), .call 85 [(.t 48)], none⟩,
 ⟨(some 2), .mv (.t 49), none⟩])
 .ret)
 .skip))))))))
 (.seq (.reg [⟨(some 50), .fadr 1 (.t 1), none⟩,
 ⟨(some 51), .ld none (.t 50), none⟩,
 ⟨(some 52), .bin .eql (.t 51) (.c (.d (.str []))), none⟩,
 ⟨(some 2), .mv (.t 52), none⟩])
 .ret)))
def F58 : VFn := ⟨1, 53, B58, [.tmp 2], false⟩

def A58 : Ann := ⟨keepOf [], ghostOf []⟩
-- 59 patina/tree.num
def B59 : VCode :=
 (.seq (.reg [⟨(some 2), .box (.t 0), none⟩,
 ⟨(some 4), .mv (.c (.d (.bool false))), none⟩])
 (.seq (.seq (.reg [⟨(some 5), .fadr 0 (.t 2), none⟩,
 ⟨(some 6), .ld none (.t 5), none⟩])
 (.block 0 (.seq (.reg [⟨(some 8), .bin .eql (.t 6) (.c (.d (.int .i64 2))), none⟩,
 ⟨(some 7), .mv (.t 8), none⟩])
 (.cond (.t 7)
 (.seq (.reg [⟨(some 9), .fadr 2 (.t 2), none⟩,
 ⟨(some 10), .ld none (.t 9), none⟩,
 ⟨(some 11), .mv (.t 1), none⟩,
 ⟨(some 12), .bin .eql (.t 10) (.t 11), none⟩,
 ⟨(some 4), .mv (.t 12), none⟩])
 .ret)
 (.seq (.seq (.reg [⟨(some 14), .bin .eql (.t 6) (.c (.d (.int .i64 7))), none⟩,
 ⟨(some 13), .mv (.t 14), none⟩])
 (.cond (.t 13)
 .skip
 (.seq (.reg [⟨(some 15), .bin .eql (.t 6) (.c (.d (.int .i64 20))), none⟩,
 ⟨(some 13), .mv (.t 15), none⟩])
 (.cond (.t 13)
 .skip
 (.seq (.reg [⟨(some 16), .bin .eql (.t 6) (.c (.d (.int .i64 21))), none⟩,
 ⟨(some 13), .mv (.t 16), none⟩])
 (.cond (.t 13)
 .skip
 (.seq (.reg [⟨(some 17), .bin .eql (.t 6) (.c (.d (.int .i64 31))), none⟩,
 ⟨(some 13), .mv (.t 17), none⟩])
 (.cond (.t 13)
 .skip
 (.seq (.reg [⟨(some 18), .bin .eql (.t 6) (.c (.d (.int .i64 53))), none⟩,
 ⟨(some 13), .mv (.t 18), none⟩])
 (.cond (.t 13)
 .skip
 (.reg [⟨(some 19), .bin .eql (.t 6) (.c (.d (.int .i64 43))), none⟩,
 ⟨(some 13), .mv (.t 19), none⟩])))))))))))
 (.cond (.t 13)
 (.seq (.reg [⟨(some 20), .fadr 2 (.t 2), none⟩,
 ⟨(some 21), .ld none (.t 20), none⟩,
 ⟨(some 22), .bin .eql (.t 21) (.c (.d (.int .i64 0))), none⟩,
 ⟨(some 23), .mv (.t 22), none⟩,
 ⟨(some 24), .fadr 2 (.t 2), some (23, false)⟩,
 ⟨(some 25), .ld none (.t 24), some (23, false)⟩,
 ⟨(some 26), .bin .eql (.t 25) (.c (.d (.int .i64 1))), some (23, false)⟩,
 ⟨(some 27), .pick (.t 23) (.c (.d (.bool true))) (.t 26), none⟩,
 ⟨(some 4), .mv (.t 27), none⟩])
 .ret)
 (.seq (.reg [⟨(some 29), .bin .eql (.t 6) (.c (.d (.int .i64 30))), none⟩,
 ⟨(some 28), .mv (.t 29), none⟩])
 (.cond (.t 28)
 (.seq (.reg [⟨(some 30), .fadr 2 (.t 2), none⟩,
 ⟨(some 31), .ld none (.t 30), none⟩,
 ⟨(some 32), .bin .geq (.t 31) (.c (.d (.int .i64 0))), none⟩,
 ⟨(some 4), .mv (.t 32), none⟩])
 .ret)
 (.seq (.reg [⟨(some 34), .bin .eql (.t 6) (.c (.d (.int .i64 52))), none⟩,
 ⟨(some 33), .mv (.t 34), none⟩])
 (.cond (.t 33)
 (.seq (.reg [⟨(some 35), .fadr 2 (.t 2), none⟩,
 ⟨(some 36), .ld none (.t 35), none⟩,
 ⟨(some 37), .bin .gtr (.t 36) (.c (.d (.int .i64 (-9223372036854775808)))), none⟩,
 ⟨(some 4), .mv (.t 37), none⟩])
 .ret)
 .skip))))))))))
 (.seq (.reg [⟨(some 38), .fadr 2 (.t 2), none⟩,
 ⟨(some 39), .ld none (.t 38), none⟩,
 ⟨(some 40), .bin .eql (.t 39) (.c (.d (.int .i64 0))), none⟩,
 ⟨(some 4), .mv (.t 40), none⟩])
 .ret)))
def F59 : VFn := ⟨2, 41, B59, [.tmp 4], false⟩

def A59 : Ann := ⟨keepOf [], ghostOf []⟩
-- 60 patina/tree.fits
def B60 : VCode :=
 (.seq (.reg [⟨(some 2), .box (.t 0), none⟩,
 ⟨(some 4), .mv (.c (.d (.bool false))), none⟩])
 (.seq (.reg [⟨(some 9), .ld (some 6) (.t 2), none⟩,
 ⟨(some 10), .call 86 [(.t 9)], none⟩,
 ⟨(some 5), .mv (.t 10), none⟩])
 (.seq (.reg [⟨(some 11), .mv (.t 5), none⟩,
 ⟨(some 12), .call 87 [(.t 11), (.c (.d (.int .u8 42)))], none⟩,
 ⟨(some 6), .mv (.t 12), none⟩])
 (.seq (.seq (.reg [⟨(some 13), .mv (.t 6), none⟩,
 ⟨(some 14), .bin .lss (.t 13) (.c (.d (.int .i64 0))), none⟩])
 (.cond (.t 14)
 (.seq (.reg [⟨(some 15), .mv (.t 5), none⟩,
 ⟨(some 16), .mv (.t 1), none⟩,
 ⟨(some 17), .call 88 [(.t 15), (.t 16)], none⟩,
 ⟨(some 4), .mv (.t 17), none⟩])
 .ret)
 .skip))
 (.seq (.reg [⟨(some 18), .mv (.t 5), none⟩,
 ⟨(some 19), .len true (.t 18), none⟩,
 ⟨(some 20), .mv (.t 6), none⟩,
 ⟨(some 21), .bin .sub (.t 19) (.t 20), none⟩,
 ⟨(some 22), .bin .sub (.t 21) (.c (.d (.int .i64 2))), none⟩,
 ⟨(some 7), .mv (.t 22), none⟩])
 (.seq (.seq (.reg [⟨(some 23), .mv (.t 1), none⟩,
 ⟨(some 24), .len false (.t 23), none⟩,
 ⟨(some 25), .mv (.t 6), none⟩,
 ⟨(some 26), .mv (.t 7), none⟩,
 ⟨(some 27), .bin .add (.t 25) (.t 26), none⟩,
 ⟨(some 28), .bin .lss (.t 24) (.t 27), none⟩])
 (.cond (.t 28)
 (.seq (.reg [⟨(some 4), .mv (.c (.d (.bool false))), none⟩])
 .ret)
 .skip))
 (.seq (.reg [⟨(some 29), .mv (.t 1), none⟩,
 ⟨(some 30), .len false (.t 29), none⟩,
 ⟨(some 31), .mv (.t 7), none⟩,
 ⟨(some 32), .bin .sub (.t 30) (.t 31), none⟩,
 ⟨(some 8), .mv (.t 32), none⟩])
 (.seq (.draw 26 [⟨(some 33), .mv (.t 5), none⟩,
 ⟨(some 34), .mv (.t 6), none⟩,
 ⟨(some 35), .slcs (.t 33) none (some (.t 34)), none⟩,
 ⟨(some 36), .mv (.t 1), none⟩,
 ⟨(some 37), .mv (.t 6), none⟩,
 ⟨(some 38), .slc 1 (.t 36) none (some (.t 37)), none⟩,
 ⟨(some 39), .call 88 [(.t 35), (.t 38)], none⟩,
 ⟨(some 40), .mv (.t 39), none⟩,
 ⟨(some 41), .mv (.t 5), some (40, true)⟩,
 ⟨(some 42), .mv (.t 6), some (40, true)⟩,
 ⟨(some 43), .bin .add (.t 42) (.c (.d (.int .i64 1))), some (40, true)⟩,
 ⟨(some 44), .idx (.t 41) (.t 43), some (40, true)⟩,
 ⟨(some 45), .mv (.t 1), some (40, true)⟩,
 ⟨(some 46), .mv (.t 6), some (40, true)⟩,
 ⟨(some 47), .mv (.t 8), some (40, true)⟩,
 ⟨(some 48), .slc 1 (.t 45) (some (.t 46)) (some (.t 47)), some (40, true)⟩,
 ⟨(some 49), .call 89 [(.t 44), (.t 48)], some (40, true)⟩,
 ⟨(some 50), .pick (.t 40) (.t 49) (.c (.d (.bool false))), none⟩,
 ⟨(some 51), .mv (.t 50), none⟩,
 ⟨(some 52), .mv (.t 5), some (51, true)⟩,
 ⟨(some 53), .mv (.t 6), some (51, true)⟩,
 ⟨(some 54), .bin .add (.t 53) (.c (.d (.int .i64 2))), some (51, true)⟩,
 ⟨(some 55), .slcs (.t 52) (some (.t 54)) none, some (51, true)⟩,
 ⟨(some 56), .mv (.t 1), some (51, true)⟩,
 ⟨(some 57), .mv (.t 8), some (51, true)⟩,
 ⟨(some 58), .slc 1 (.t 56) (some (.t 57)) none, some (51, true)⟩,
 ⟨(some 59), .call 88 [(.t 55), (.t 58)], some (51, true)⟩,
 ⟨(some 60), .pick (.t 51) (.t 59) (.c (.d (.bool false))), none⟩,
 ⟨(some 4), .mv (.t 60), none⟩])
 .ret))))))))
def F60 : VFn := ⟨2, 61, B60, [.tmp 4], false⟩

def A60 : Ann := ⟨keepOf [], ghostOf []⟩
-- 61 slices.Contains[[]int,int]
def B61 : VCode :=
 (.seq (.reg [⟨(some 4), .mv (.c (.d (.bool false))), none⟩])
 (.seq (.reg [⟨(some 5), .mv (.t 0), none⟩,
 ⟨(some 6), .mv (.t 1), none⟩,
 ⟨(some 7), .call 90 [(.t 5), (.t 6)], none⟩,
 ⟨(some 8), .bin .geq (.t 7) (.c (.d (.int .i64 0))), none⟩,
 ⟨(some 4), .mv (.t 8), none⟩])
 .ret))
def F61 : VFn := ⟨2, 9, B61, [.tmp 4], false⟩

def A61 : Ann := ⟨keepOf [], ghostOf []⟩
-- 62 (*patina/tree.printer).put
def B62 : VCode :=
 (.reg [⟨(some 4), .mv (.t 0), none⟩,
 ⟨(some 5), .mv (.t 0), none⟩,
 ⟨(some 6), .nilck (.t 5), none⟩,
 ⟨(some 7), .fadr 1 (.t 6), none⟩,
 ⟨(some 8), .ld none (.t 7), none⟩,
 ⟨(some 9), .mv (.t 1), none⟩,
 ⟨(some 10), .app 1 16 (.t 8) (.t 9), none⟩,
 ⟨(some 11), .nilck (.t 4), none⟩,
 ⟨(some 12), .fadr 1 (.t 11), none⟩,
 ⟨none, .st 1 (.t 12) (.t 10), none⟩])
def F62 : VFn := ⟨2, 13, B62, [], false⟩

def A62 : Ann := ⟨keepOf [], ghostOf []⟩
-- 63 (*patina/tree.printer).function
def B63 : VCode :=
 (.seq (.reg [⟨(some 3), .box (.t 1), none⟩])
 (.seq (.reg [⟨(some 5), .fadr 2 (.t 3), none⟩,
 ⟨(some 6), .ld none (.t 5), none⟩,
 ⟨(some 4), .mv (.t 6), none⟩])
 (.seq (.reg [⟨(some 7), .mv (.t 0), none⟩,
 ⟨(some 8), .fadr 1 (.t 3), none⟩,
 ⟨(some 9), .ld none (.t 8), none⟩,
 ⟨(some 10), .bslice 1 3 [(.c (.d (.str [102, 110]))), (.t 9), (.c (.d (.str [40])))], none⟩,
 ⟨(some 11), .call 62 [(.t 7), (.t 10)], none⟩])
 (.seq (.reg [⟨(some 12), .mv (.t 0), none⟩,
 ⟨(some 13), .fadr 3 (.t 3), none⟩,
 ⟨(some 14), .ld none (.t 13), none⟩,
 ⟨(some 15), .mv (.t 4), none⟩,
 ⟨(some 16), .slc 1 (.t 14) none (some (.t 15)), none⟩,
 ⟨(some 17), .call 64 [(.t 12), (.t 16)], none⟩])
 (.seq (.reg [⟨(some 18), .mv (.t 0), none⟩,
 ⟨(some 19), .bslice 1 1 [(.c (.d (.str [41])))], none⟩,
 ⟨(some 20), .call 62 [(.t 18), (.t 19)], none⟩])
 (.seq (.seq (.draw 10 [⟨(some 21), .mv (.t 0), none⟩,
 ⟨(some 22), .nilck (.t 21), none⟩,
 ⟨(some 23), .fadr 0 (.t 22), none⟩,
 ⟨(some 24), .fadr 0 (.t 23), none⟩,
 ⟨(some 25), .ld none (.t 24), none⟩,
 ⟨(some 26), .fadr 3 (.t 3), none⟩,
 ⟨(some 27), .ld none (.t 26), none⟩,
 ⟨(some 28), .mv (.t 4), none⟩,
 ⟨(some 29), .iadr 1 (.t 27) (.t 28), none⟩,
 ⟨(some 30), .ld none (.t 29), none⟩,
 ⟨(some 31), .iadr 6 (.t 25) (.t 30), none⟩,
 ⟨(some 32), .fadr 0 (.t 31), none⟩,
 ⟨(some 33), .ld none (.t 32), none⟩,
 ⟨(some 34), .bin .neq (.t 33) (.c (.d (.int .i64 12))), none⟩])
 (.cond (.t 34)
 (.seq (.reg [⟨(some 35), .mv (.t 0), none⟩,
 ⟨(some 36), .bslice 1 1 [(.c (.d (.str [45, 62])))], none⟩,
 ⟨(some 37), .call 62 [(.t 35), (.t 36)], none⟩])
 (.reg [⟨(some 38), .mv (.t 0), none⟩,
 ⟨(some 39), .fadr 3 (.t 3), none⟩,
 ⟨(some 40), .ld none (.t 39), none⟩,
 ⟨(some 41), .mv (.t 4), none⟩,
 ⟨(some 42), .iadr 1 (.t 40) (.t 41), none⟩,
 ⟨(some 43), .ld none (.t 42), none⟩,
 ⟨(some 44), .call 21 [(.t 38), (.t 43)], none⟩]))
 .skip))
 (.reg [⟨(some 45), .mv (.t 0), none⟩,
 ⟨(some 46), .fadr 3 (.t 3), none⟩,
 ⟨(some 47), .ld none (.t 46), none⟩,
 ⟨(some 48), .mv (.t 4), none⟩,
 ⟨(some 49), .bin .add (.t 48) (.c (.d (.int .i64 1))), none⟩,
 ⟨(some 50), .iadr 1 (.t 47) (.t 49), none⟩,
 ⟨(some 51), .ld none (.t 50), none⟩,
 ⟨(some 52), .call 21 [(.t 45), (.t 51)], none⟩])))))))
def F63 : VFn := ⟨2, 53, B63, [], false⟩

def A63 : Ann := ⟨keepOf [], ghostOf []⟩
-- 64 (*patina/tree.printer).list
def K64_0 : List Nat := [0, 6, 7, 8]
def L64_0 : VCode :=
 (.seq (.reg [⟨(some 9), .bin .lss (.t 8) (.t 7), none⟩])
 (.seq (.cond (.t 9)
 .skip
 (.exit 0))
 (.seq (.block 1 (.seq (.reg [⟨(some 10), .mv (.t 8), none⟩,
 ⟨(some 11), .iadr 1 (.t 6) (.t 8), none⟩,
 ⟨(some 12), .ld none (.t 11), none⟩,
 ⟨(some 4), .mv (.t 10), none⟩,
 ⟨(some 5), .mv (.t 12), none⟩])
 (.seq (.seq (.reg [⟨(some 13), .mv (.t 4), none⟩,
 ⟨(some 14), .bin .gtr (.t 13) (.c (.d (.int .i64 0))), none⟩])
 (.cond (.t 14)
 (.reg [⟨(some 15), .mv (.t 0), none⟩,
 ⟨(some 16), .bslice 1 1 [(.c (.d (.str [44])))], none⟩,
 ⟨(some 17), .call 62 [(.t 15), (.t 16)], none⟩])
 .skip))
 (.reg [⟨(some 18), .mv (.t 0), none⟩,
 ⟨(some 19), .mv (.t 5), none⟩,
 ⟨(some 20), .call 21 [(.t 18), (.t 19)], none⟩]))))
 (.reg [⟨(some 21), .bin .add (.t 8) (.c (.d (.int .i64 1))), none⟩,
 ⟨(some 8), .mv (.t 21), none⟩]))))
def B64 : VCode :=
 (.seq (.reg [⟨(some 6), .mv (.t 1), none⟩,
 ⟨(some 7), .len false (.t 6), none⟩,
 ⟨(some 8), .mv (.c (.d (.int .i64 0))), none⟩])
 (.block 0 (.loop K64_0 L64_0)))
def F64 : VFn := ⟨2, 22, B64, [], false⟩

def A64 : Ann := ⟨keepOf [(1, [0, 6, 7, 8])], ghostOf []⟩
-- 65 (*patina/tree.printer).perhaps
def B65 : VCode :=
 (.seq (.reg [⟨(some 4), .mv (.t 1), none⟩,
 ⟨(some 5), .len false (.t 4), none⟩,
 ⟨(some 6), .bin .gtr (.t 5) (.c (.d (.int .i64 0))), none⟩])
 (.cond (.t 6)
 (.seq (.reg [⟨(some 7), .mv (.t 0), none⟩,
 ⟨(some 8), .bslice 1 1 [(.c (.d (.str [40])))], none⟩,
 ⟨(some 9), .call 62 [(.t 7), (.t 8)], none⟩])
 (.seq (.reg [⟨(some 10), .mv (.t 0), none⟩,
 ⟨(some 11), .mv (.t 1), none⟩,
 ⟨(some 12), .iadr 1 (.t 11) (.c (.d (.int .i64 0))), none⟩,
 ⟨(some 13), .ld none (.t 12), none⟩,
 ⟨(some 14), .call 21 [(.t 10), (.t 13)], none⟩])
 (.reg [⟨(some 15), .mv (.t 0), none⟩,
 ⟨(some 16), .bslice 1 1 [(.c (.d (.str [41])))], none⟩,
 ⟨(some 17), .call 62 [(.t 15), (.t 16)], none⟩])))
 .skip))
def F65 : VFn := ⟨2, 18, B65, [], false⟩

def A65 : Ann := ⟨keepOf [], ghostOf []⟩
-- 66 (*patina/tree.printer).let
def B66 : VCode :=
 (.seq (.reg [⟨(some 3), .box (.t 1), none⟩])
 (.seq (.reg [⟨(some 4), .mv (.t 0), none⟩,
 ⟨(some 5), .bslice 1 1 [(.c (.d (.str [108, 101, 116])))], none⟩,
 ⟨(some 6), .call 62 [(.t 4), (.t 5)], none⟩])
 (.seq (.seq (.reg [⟨(some 7), .fadr 2 (.t 3), none⟩,
 ⟨(some 8), .ld none (.t 7), none⟩,
 ⟨(some 9), .bin .eql (.t 8) (.c (.d (.int .i64 1))), none⟩])
 (.cond (.t 9)
 (.reg [⟨(some 10), .mv (.t 0), none⟩,
 ⟨(some 11), .bslice 1 1 [(.c (.d (.str [109, 117, 116])))], none⟩,
 ⟨(some 12), .call 62 [(.t 10), (.t 11)], none⟩])
 .skip))
 (.seq (.reg [⟨(some 13), .mv (.t 0), none⟩,
 ⟨(some 14), .fadr 1 (.t 3), none⟩,
 ⟨(some 15), .ld none (.t 14), none⟩,
 ⟨(some 16), .bslice 1 1 [(.t 15)], none⟩,
 ⟨(some 17), .call 62 [(.t 13), (.t 16)], none⟩])
 (.seq (.seq (.reg [⟨(some 18), .fadr 3 (.t 3), none⟩,
 ⟨(some 19), .ld none (.t 18), none⟩,
 ⟨(some 20), .len false (.t 19), none⟩,
 ⟨(some 21), .bin .eql (.t 20) (.c (.d (.int .i64 2))), none⟩])
 (.cond (.t 21)
 (.seq (.reg [⟨(some 22), .mv (.t 0), none⟩,
 ⟨(some 23), .bslice 1 1 [(.c (.d (.str [58])))], none⟩,
 ⟨(some 24), .call 62 [(.t 22), (.t 23)], none⟩])
 (.reg [⟨(some 25), .mv (.t 0), none⟩,
 ⟨(some 26), .fadr 3 (.t 3), none⟩,
 ⟨(some 27), .ld none (.t 26), none⟩,
 ⟨(some 28), .iadr 1 (.t 27) (.c (.d (.int .i64 0))), none⟩,
 ⟨(some 29), .ld none (.t 28), none⟩,
 ⟨(some 30), .call 21 [(.t 25), (.t 29)], none⟩]))
 .skip))
 (.seq (.reg [⟨(some 31), .mv (.t 0), none⟩,
 ⟨(some 32), .bslice 1 1 [(.c (.d (.str [61])))], none⟩,
 ⟨(some 33), .call 62 [(.t 31), (.t 32)], none⟩])
 (.seq (.reg [⟨(some 34), .mv (.t 0), none⟩,
 ⟨(some 35), .fadr 3 (.t 3), none⟩,
 ⟨(some 36), .ld none (.t 35), none⟩,
 ⟨(some 37), .fadr 3 (.t 3), none⟩,
 ⟨(some 38), .ld none (.t 37), none⟩,
 ⟨(some 39), .len false (.t 38), none⟩,
 ⟨(some 40), .bin .sub (.t 39) (.c (.d (.int .i64 1))), none⟩,
 ⟨(some 41), .iadr 1 (.t 36) (.t 40), none⟩,
 ⟨(some 42), .ld none (.t 41), none⟩,
 ⟨(some 43), .call 21 [(.t 34), (.t 42)], none⟩])
 (.reg [⟨(some 44), .mv (.t 0), none⟩,
 ⟨(some 45), .bslice 1 1 [(.c (.d (.str [59])))], none⟩,
 ⟨(some 46), .call 62 [(.t 44), (.t 45)], none⟩]))))))))
def F66 : VFn := ⟨2, 47, B66, [], false⟩

def A66 : Ann := ⟨keepOf [], ghostOf []⟩
-- 67 (*patina/tree.printer).operand
def B67 : VCode :=
 (.seq (.reg [⟨(some 7), .mv (.t 0), none⟩,
 ⟨(some 8), .nilck (.t 7), none⟩,
 ⟨(some 9), .fadr 0 (.t 8), none⟩,
 ⟨(some 10), .fadr 0 (.t 9), none⟩,
 ⟨(some 11), .ld none (.t 10), none⟩,
 ⟨(some 12), .mv (.t 1), none⟩,
 ⟨(some 13), .iadr 6 (.t 11) (.t 12), none⟩,
 ⟨(some 14), .fadr 0 (.t 13), none⟩,
 ⟨(some 15), .ld none (.t 14), none⟩,
 ⟨(some 6), .mv (.t 15), none⟩])
 (.block 0 (.seq (.seq (.reg [⟨(some 26), .mv (.t 6), none⟩,
 ⟨(some 27), .bin .geq (.t 26) (.c (.d (.int .i64 30))), none⟩,
 ⟨(some 28), .mv (.t 27), none⟩,
 ⟨(some 29), .mv (.t 6), some (28, true)⟩,
 ⟨(some 30), .bin .leq (.t 29) (.c (.d (.int .i64 34))), some (28, true)⟩,
 ⟨(some 31), .pick (.t 28) (.t 30) (.c (.d (.bool false))), none⟩,
 ⟨(some 25), .mv (.t 31), none⟩])
 (.cond (.t 25)
 .skip
 (.seq (.reg [⟨(some 32), .mv (.t 6), none⟩,
 ⟨(some 33), .bin .eql (.t 32) (.c (.d (.int .i64 37))), none⟩,
 ⟨(some 25), .mv (.t 33), none⟩])
 (.cond (.t 25)
 .skip
 (.seq (.reg [⟨(some 34), .mv (.t 6), none⟩,
 ⟨(some 35), .bin .eql (.t 34) (.c (.d (.int .i64 44))), none⟩,
 ⟨(some 25), .mv (.t 35), none⟩])
 (.cond (.t 25)
 .skip
 (.reg [⟨(some 36), .mv (.t 2), none⟩,
 ⟨(some 37), .mv (.t 36), none⟩,
 ⟨(some 38), .mv (.t 6), some (37, true)⟩,
 ⟨(some 39), .bin .eql (.t 38) (.c (.d (.int .i64 41))), some (37, true)⟩,
 ⟨(some 40), .pick (.t 37) (.t 39) (.c (.d (.bool false))), none⟩,
 ⟨(some 25), .mv (.t 40), none⟩])))))))
 (.cond (.t 25)
 (.reg [⟨(some 41), .mv (.t 0), none⟩,
 ⟨(some 42), .mv (.t 1), none⟩,
 ⟨(some 43), .call 21 [(.t 41), (.t 42)], none⟩])
 (.seq (.reg [⟨(some 16), .mv (.t 0), none⟩,
 ⟨(some 17), .bslice 1 1 [(.c (.d (.str [40])))], none⟩,
 ⟨(some 18), .call 62 [(.t 16), (.t 17)], none⟩])
 (.seq (.reg [⟨(some 19), .mv (.t 0), none⟩,
 ⟨(some 20), .mv (.t 1), none⟩,
 ⟨(some 21), .call 21 [(.t 19), (.t 20)], none⟩])
 (.reg [⟨(some 22), .mv (.t 0), none⟩,
 ⟨(some 23), .bslice 1 1 [(.c (.d (.str [41])))], none⟩,
 ⟨(some 24), .call 62 [(.t 22), (.t 23)], none⟩])))))))
def F67 : VFn := ⟨3, 44, B67, [], false⟩

def A67 : Ann := ⟨keepOf [], ghostOf []⟩
-- 68 (*patina/tree.printer).ahead
def B68 : VCode :=
 (.seq (.reg [⟨(some 4), .box (.t 1), none⟩])
 (.seq (.reg [⟨(some 6), .mv (.t 0), none⟩,
 ⟨(some 7), .mv (.t 2), none⟩,
 ⟨(some 8), .call 62 [(.t 6), (.t 7)], none⟩])
 (.reg [⟨(some 9), .mv (.t 0), none⟩,
 ⟨(some 10), .fadr 3 (.t 4), none⟩,
 ⟨(some 11), .ld none (.t 10), none⟩,
 ⟨(some 12), .iadr 1 (.t 11) (.c (.d (.int .i64 0))), none⟩,
 ⟨(some 13), .ld none (.t 12), none⟩,
 ⟨(some 14), .call 67 [(.t 9), (.t 13), (.c (.d (.bool false)))], none⟩])))
def F68 : VFn := ⟨3, 15, B68, [], false⟩

def A68 : Ann := ⟨keepOf [], ghostOf []⟩
-- 70 strconv.FormatBool
def B70 : VCode :=
 (.seq (.reg [⟨(some 2), .mv (.c (.d (.str []))), none⟩])
 (.seq (.reg [⟨(some 3), .mv (.t 0), none⟩,
 ⟨(some 4), .call 92 [(.t 3)], none⟩,
 ⟨(some 2), .mv (.t 4), none⟩])
 .ret))
def F70 : VFn := ⟨1, 5, B70, [.tmp 2], false⟩

def A70 : Ann := ⟨keepOf [], ghostOf []⟩
-- 71 (*patina/tree.printer).named
def B71 : VCode :=
 (.seq (.reg [⟨(some 8), .mv (.t 1), none⟩,
 ⟨(some 9), .call 84 [(.t 8), (.c (.d (.str [58, 58])))], none⟩,
 ⟨(some 7), .mv (.t 9), none⟩,
 ⟨(some 10), .ext (.t 7) 0, none⟩,
 ⟨(some 11), .ext (.t 7) 1, none⟩,
 ⟨(some 12), .ext (.t 7) 2, none⟩,
 ⟨(some 4), .mv (.t 10), none⟩,
 ⟨(some 5), .mv (.t 11), none⟩,
 ⟨(some 6), .mv (.t 12), none⟩])
 (.reg [⟨(some 13), .mv (.t 0), none⟩,
 ⟨(some 14), .mv (.t 4), none⟩,
 ⟨(some 15), .mv (.t 5), none⟩,
 ⟨(some 16), .bslice 1 3 [(.t 14), (.c (.d (.str [58, 58]))), (.t 15)], none⟩,
 ⟨(some 17), .call 62 [(.t 13), (.t 16)], none⟩]))
def F71 : VFn := ⟨2, 18, B71, [], false⟩

def A71 : Ann := ⟨keepOf [], ghostOf []⟩
-- 74 patina/patinaref13.known
def B74 : VCode :=
 (.seq (.reg [⟨(some 2), .mv (.c (.d (.bool false))), none⟩])
 (.seq (.reg [⟨(some 3), .mv (.t 0), none⟩,
 ⟨(some 4), .bin .geq (.t 3) (.c (.d (.int .i64 1))), none⟩,
 ⟨(some 5), .mv (.t 4), none⟩,
 ⟨(some 6), .mv (.t 0), some (5, true)⟩,
 ⟨(some 7), .bin .leq (.t 6) (.c (.d (.int .i64 7))), some (5, true)⟩,
 ⟨(some 8), .pick (.t 5) (.t 7) (.c (.d (.bool false))), none⟩,
 ⟨(some 9), .mv (.t 8), none⟩,
 ⟨(some 10), .mv (.t 0), some (9, false)⟩,
 ⟨(some 11), .call 33 [(.t 10)], some (9, false)⟩,
 ⟨(some 12), .pick (.t 9) (.c (.d (.bool true))) (.t 11), none⟩,
 ⟨(some 13), .mv (.t 12), none⟩,
 ⟨(some 14), .mv (.t 0), some (13, false)⟩,
 ⟨(some 15), .bin .eql (.t 14) (.c (.d (.int .i64 20))), some (13, false)⟩,
 ⟨(some 16), .pick (.t 13) (.c (.d (.bool true))) (.t 15), none⟩,
 ⟨(some 17), .mv (.t 16), none⟩,
 ⟨(some 18), .mv (.t 0), some (17, false)⟩,
 ⟨(some 19), .call 48 [(.t 18)], some (17, false)⟩,
 ⟨(some 20), .pick (.t 17) (.c (.d (.bool true))) (.t 19), none⟩,
 ⟨(some 21), .mv (.t 20), none⟩,
 ⟨(some 22), .mv (.t 0), some (21, false)⟩,
 ⟨(some 23), .bin .geq (.t 22) (.c (.d (.int .i64 30))), some (21, false)⟩,
 ⟨(some 24), .mv (.t 23), some (21, false)⟩,
 ⟨(some 25), .mv (.t 0), some (24, true)⟩,
 ⟨(some 26), .bin .leq (.t 25) (.c (.d (.int .i64 47))), some (24, true)⟩,
 ⟨(some 27), .pick (.t 24) (.t 26) (.c (.d (.bool false))), some (21, false)⟩,
 ⟨(some 28), .pick (.t 21) (.c (.d (.bool true))) (.t 27), none⟩,
 ⟨(some 29), .mv (.t 28), none⟩,
 ⟨(some 30), .mv (.t 0), some (29, false)⟩,
 ⟨(some 31), .call 95 [(.t 30)], some (29, false)⟩,
 ⟨(some 32), .pick (.t 29) (.c (.d (.bool true))) (.t 31), none⟩,
 ⟨(some 2), .mv (.t 32), none⟩])
 .ret))
def F74 : VFn := ⟨1, 33, B74, [.tmp 2], false⟩

def A74 : Ann := ⟨keepOf [], ghostOf []⟩
-- 75 patina/patinaref13.named
def B75 : VCode :=
 (.seq (.reg [⟨(some 1), .box (.t 0), none⟩,
 ⟨(some 2), .mv (.c (.d (.bool false))), none⟩])
 (.seq (.seq (.reg [⟨(some 3), .fadr 0 (.t 1), none⟩,
 ⟨(some 4), .ld none (.t 3), none⟩])
 (.block 0 (.seq (.seq (.reg [⟨(some 6), .bin .eql (.t 4) (.c (.d (.int .i64 2))), none⟩,
 ⟨(some 5), .mv (.t 6), none⟩])
 (.cond (.t 5)
 .skip
 (.seq (.reg [⟨(some 7), .bin .eql (.t 4) (.c (.d (.int .i64 3))), none⟩,
 ⟨(some 5), .mv (.t 7), none⟩])
 (.cond (.t 5)
 .skip
 (.seq (.reg [⟨(some 8), .bin .eql (.t 4) (.c (.d (.int .i64 4))), none⟩,
 ⟨(some 5), .mv (.t 8), none⟩])
 (.cond (.t 5)
 .skip
 (.seq (.reg [⟨(some 9), .bin .eql (.t 4) (.c (.d (.int .i64 5))), none⟩,
 ⟨(some 5), .mv (.t 9), none⟩])
 (.cond (.t 5)
 .skip
 (.seq (.reg [⟨(some 10), .bin .eql (.t 4) (.c (.d (.int .i64 6))), none⟩,
 ⟨(some 5), .mv (.t 10), none⟩])
 (.cond (.t 5)
 .skip
 (.seq (.reg [⟨(some 11), .bin .eql (.t 4) (.c (.d (.int .i64 7))), none⟩,
 ⟨(some 5), .mv (.t 11), none⟩])
 (.cond (.t 5)
 .skip
 (.seq (.reg [⟨(some 12), .bin .eql (.t 4) (.c (.d (.int .i64 13))), none⟩,
 ⟨(some 5), .mv (.t 12), none⟩])
 (.cond (.t 5)
 .skip
 (.seq (.reg [⟨(some 13), .bin .eql (.t 4) (.c (.d (.int .i64 21))), none⟩,
 ⟨(some 5), .mv (.t 13), none⟩])
 (.cond (.t 5)
 .skip
 (.seq (.reg [⟨(some 14), .bin .eql (.t 4) (.c (.d (.int .i64 33))), none⟩,
 ⟨(some 5), .mv (.t 14), none⟩])
 (.cond (.t 5)
 .skip
 (.seq (.reg [⟨(some 15), .bin .eql (.t 4) (.c (.d (.int .i64 34))), none⟩,
 ⟨(some 5), .mv (.t 15), none⟩])
 (.cond (.t 5)
 .skip
 (.seq (.reg [⟨(some 16), .bin .eql (.t 4) (.c (.d (.int .i64 35))), none⟩,
 ⟨(some 5), .mv (.t 16), none⟩])
 (.cond (.t 5)
 .skip
 (.seq (.reg [⟨(some 17), .bin .eql (.t 4) (.c (.d (.int .i64 36))), none⟩,
 ⟨(some 5), .mv (.t 17), none⟩])
 (.cond (.t 5)
 .skip
 (.seq (.reg [⟨(some 18), .bin .eql (.t 4) (.c (.d (.int .i64 41))), none⟩,
 ⟨(some 5), .mv (.t 18), none⟩])
 (.cond (.t 5)
 .skip
 (.reg [⟨(some 19), .bin .eql (.t 4) (.c (.d (.int .i64 51))), none⟩,
 ⟨(some 5), .mv (.t 19), none⟩])))))))))))))))))))))))))))
 (.cond (.t 5)
 (.seq (.reg [⟨(some 20), .fadr 1 (.t 1), none⟩,
 ⟨(some 21), .ld none (.t 20), none⟩,
 ⟨(some 22), .call 96 [(.t 21)], none⟩,
 ⟨(some 2), .mv (.t 22), none⟩])
 .ret)
 (.seq (.seq (.reg [⟨(some 24), .bin .eql (.t 4) (.c (.d (.int .i64 37))), none⟩,
 ⟨(some 23), .mv (.t 24), none⟩])
 (.cond (.t 23)
 .skip
 (.reg [⟨(some 25), .bin .eql (.t 4) (.c (.d (.int .i64 54))), none⟩,
 ⟨(some 23), .mv (.t 25), none⟩])))
 (.cond (.t 23)
 (.seq (.reg [⟨(some 26), .fadr 1 (.t 1), none⟩,
 ⟨(some 27), .ld none (.t 26), none⟩,
 ⟨(some 28), .call 97 [(.t 27)], none⟩,
 ⟨(some 2), .mv (.t 28), none⟩])
 .ret)
 (.seq (.reg [⟨(some 30), .bin .eql (.t 4) (.c (.d (.int .i64 38))), none⟩,
 ⟨(some 29), .mv (.t 30), none⟩])
 (.cond (.t 29)
 (.seq (.reg [⟨(some 31), .fadr 1 (.t 1), none⟩,
 ⟨(some 32), .ld none (.t 31), none⟩,
 ⟨(some 33), .call 98 [(.t 32)], none⟩,
 ⟨(some 34), .bin .gtr (.t 33) (.c (.d (.int .i64 0))), none⟩,
 ⟨(some 2), .mv (.t 34), none⟩])
 .ret)
 .skip))))))))
 (.seq (.reg [⟨(some 35), .fadr 1 (.t 1), none⟩,
 ⟨(some 36), .ld none (.t 35), none⟩,
 ⟨(some 37), .bin .eql (.t 36) (.c (.d (.str []))), none⟩,
 ⟨(some 2), .mv (.t 37), none⟩])
 .ret)))
def F75 : VFn := ⟨1, 38, B75, [.tmp 2], false⟩

def A75 : Ann := ⟨keepOf [], ghostOf []⟩
-- 76 patina/patinaref13.counted
def B76 : VCode :=
 (.seq (.reg [⟨(some 1), .box (.t 0), none⟩,
 ⟨(some 2), .mv (.c (.d (.bool false))), none⟩])
 (.seq (.seq (.reg [⟨(some 3), .fadr 0 (.t 1), none⟩,
 ⟨(some 4), .ld none (.t 3), none⟩])
 (.block 0 (.seq (.reg [⟨(some 6), .bin .eql (.t 4) (.c (.d (.int .i64 2))), none⟩,
 ⟨(some 5), .mv (.t 6), none⟩])
 (.cond (.t 5)
 (.seq (.reg [⟨(some 2), .mv (.c (.d (.bool true))), none⟩])
 .ret)
 (.seq (.seq (.reg [⟨(some 8), .bin .eql (.t 4) (.c (.d (.int .i64 7))), none⟩,
 ⟨(some 7), .mv (.t 8), none⟩])
 (.cond (.t 7)
 .skip
 (.seq (.reg [⟨(some 9), .bin .eql (.t 4) (.c (.d (.int .i64 20))), none⟩,
 ⟨(some 7), .mv (.t 9), none⟩])
 (.cond (.t 7)
 .skip
 (.seq (.reg [⟨(some 10), .bin .eql (.t 4) (.c (.d (.int .i64 21))), none⟩,
 ⟨(some 7), .mv (.t 10), none⟩])
 (.cond (.t 7)
 .skip
 (.seq (.reg [⟨(some 11), .bin .eql (.t 4) (.c (.d (.int .i64 31))), none⟩,
 ⟨(some 7), .mv (.t 11), none⟩])
 (.cond (.t 7)
 .skip
 (.seq (.reg [⟨(some 12), .bin .eql (.t 4) (.c (.d (.int .i64 53))), none⟩,
 ⟨(some 7), .mv (.t 12), none⟩])
 (.cond (.t 7)
 .skip
 (.reg [⟨(some 13), .bin .eql (.t 4) (.c (.d (.int .i64 43))), none⟩,
 ⟨(some 7), .mv (.t 13), none⟩])))))))))))
 (.cond (.t 7)
 (.seq (.reg [⟨(some 14), .fadr 2 (.t 1), none⟩,
 ⟨(some 15), .ld none (.t 14), none⟩,
 ⟨(some 16), .bin .eql (.t 15) (.c (.d (.int .i64 0))), none⟩,
 ⟨(some 17), .mv (.t 16), none⟩,
 ⟨(some 18), .fadr 2 (.t 1), some (17, false)⟩,
 ⟨(some 19), .ld none (.t 18), some (17, false)⟩,
 ⟨(some 20), .bin .eql (.t 19) (.c (.d (.int .i64 1))), some (17, false)⟩,
 ⟨(some 21), .pick (.t 17) (.c (.d (.bool true))) (.t 20), none⟩,
 ⟨(some 2), .mv (.t 21), none⟩])
 .ret)
 (.seq (.reg [⟨(some 23), .bin .eql (.t 4) (.c (.d (.int .i64 30))), none⟩,
 ⟨(some 22), .mv (.t 23), none⟩])
 (.cond (.t 22)
 (.seq (.reg [⟨(some 24), .fadr 2 (.t 1), none⟩,
 ⟨(some 25), .ld none (.t 24), none⟩,
 ⟨(some 26), .bin .geq (.t 25) (.c (.d (.int .i64 0))), none⟩,
 ⟨(some 2), .mv (.t 26), none⟩])
 .ret)
 (.seq (.reg [⟨(some 28), .bin .eql (.t 4) (.c (.d (.int .i64 52))), none⟩,
 ⟨(some 27), .mv (.t 28), none⟩])
 (.cond (.t 27)
 (.seq (.reg [⟨(some 29), .fadr 2 (.t 1), none⟩,
 ⟨(some 30), .ld none (.t 29), none⟩,
 ⟨(some 31), .bin .neq (.t 30) (.c (.d (.int .i64 (-9223372036854775808)))), none⟩,
 ⟨(some 2), .mv (.t 31), none⟩])
 .ret)
 .skip))))))))))
 (.seq (.reg [⟨(some 32), .fadr 2 (.t 1), none⟩,
 ⟨(some 33), .ld none (.t 32), none⟩,
 ⟨(some 34), .bin .eql (.t 33) (.c (.d (.int .i64 0))), none⟩,
 ⟨(some 2), .mv (.t 34), none⟩])
 .ret)))
def F76 : VFn := ⟨1, 35, B76, [.tmp 2], false⟩

def A76 : Ann := ⟨keepOf [], ghostOf []⟩
-- 77 patina/patinaref13.forms
def B77 : VCode :=
 (.seq (.reg [⟨(some 1), .box (.t 0), none⟩,
 ⟨(some 2), .mv (.c .nils), none⟩])
 (.seq (.seq (.reg [⟨(some 3), .fadr 0 (.t 1), none⟩,
 ⟨(some 4), .ld none (.t 3), none⟩])
 (.block 0 (.seq (.reg [⟨(some 6), .bin .eql (.t 4) (.c (.d (.int .i64 1))), none⟩,
 ⟨(some 5), .mv (.t 6), none⟩])
 (.cond (.t 5)
 (.seq (.reg [⟨(some 7), .bslice 1 1 [(.c (.d (.str [42, 73])))], none⟩,
 ⟨(some 2), .mv (.t 7), none⟩])
 .ret)
 (.seq (.reg [⟨(some 9), .bin .eql (.t 4) (.c (.d (.int .i64 2))), none⟩,
 ⟨(some 8), .mv (.t 9), none⟩])
 (.cond (.t 8)
 (.seq (.reg [⟨(some 10), .bslice 1 1 [(.c (.d (.str [102, 110])))], none⟩,
 ⟨(some 2), .mv (.t 10), none⟩])
 .ret)
 (.seq (.reg [⟨(some 12), .bin .eql (.t 4) (.c (.d (.int .i64 3))), none⟩,
 ⟨(some 11), .mv (.t 12), none⟩])
 (.cond (.t 11)
 (.seq (.reg [⟨(some 13), .bslice 1 1 [(.c (.d (.str [42, 70])))], none⟩,
 ⟨(some 2), .mv (.t 13), none⟩])
 .ret)
 (.seq (.reg [⟨(some 15), .bin .eql (.t 4) (.c (.d (.int .i64 4))), none⟩,
 ⟨(some 14), .mv (.t 15), none⟩])
 (.cond (.t 14)
 (.seq (.reg [⟨(some 16), .bslice 1 1 [(.c (.d (.str [42, 86])))], none⟩,
 ⟨(some 2), .mv (.t 16), none⟩])
 .ret)
 (.seq (.seq (.reg [⟨(some 18), .bin .eql (.t 4) (.c (.d (.int .i64 5))), none⟩,
 ⟨(some 17), .mv (.t 18), none⟩])
 (.cond (.t 17)
 .skip
 (.seq (.reg [⟨(some 19), .bin .eql (.t 4) (.c (.d (.int .i64 7))), none⟩,
 ⟨(some 17), .mv (.t 19), none⟩])
 (.cond (.t 17)
 .skip
 (.seq (.reg [⟨(some 20), .bin .eql (.t 4) (.c (.d (.int .i64 14))), none⟩,
 ⟨(some 17), .mv (.t 20), none⟩])
 (.cond (.t 17)
 .skip
 (.seq (.reg [⟨(some 21), .bin .eql (.t 4) (.c (.d (.int .i64 15))), none⟩,
 ⟨(some 17), .mv (.t 21), none⟩])
 (.cond (.t 17)
 .skip
 (.reg [⟨(some 22), .bin .eql (.t 4) (.c (.d (.int .i64 16))), none⟩,
 ⟨(some 17), .mv (.t 22), none⟩])))))))))
 (.cond (.t 17)
 (.seq (.reg [⟨(some 23), .bslice 1 1 [(.c (.d (.str [84])))], none⟩,
 ⟨(some 2), .mv (.t 23), none⟩])
 .ret)
 (.seq (.reg [⟨(some 25), .bin .eql (.t 4) (.c (.d (.int .i64 6))), none⟩,
 ⟨(some 24), .mv (.t 25), none⟩])
 (.cond (.t 24)
 (.seq (.reg [⟨(some 26), .bslice 1 2 [(.c (.d (.str []))), (.c (.d (.str [84])))], none⟩,
 ⟨(some 2), .mv (.t 26), none⟩])
 .ret)
 (.seq (.reg [⟨(some 28), .bin .eql (.t 4) (.c (.d (.int .i64 20))), none⟩,
 ⟨(some 27), .mv (.t 28), none⟩])
 (.cond (.t 27)
 (.seq (.reg [⟨(some 29), .bslice 1 1 [(.c (.d (.str [98, 108, 111, 99, 107])))], none⟩,
 ⟨(some 2), .mv (.t 29), none⟩])
 .ret)
 (.seq (.reg [⟨(some 31), .bin .eql (.t 4) (.c (.d (.int .i64 21))), none⟩,
 ⟨(some 30), .mv (.t 31), none⟩])
 (.cond (.t 30)
 (.seq (.reg [⟨(some 32), .bslice 1 2 [(.c (.d (.str [69]))), (.c (.d (.str [84, 69])))], none⟩,
 ⟨(some 2), .mv (.t 32), none⟩])
 .ret)
 (.seq (.seq (.reg [⟨(some 34), .bin .eql (.t 4) (.c (.d (.int .i64 22))), none⟩,
 ⟨(some 33), .mv (.t 34), none⟩])
 (.cond (.t 33)
 .skip
 (.seq (.reg [⟨(some 35), .bin .eql (.t 4) (.c (.d (.int .i64 36))), none⟩,
 ⟨(some 33), .mv (.t 35), none⟩])
 (.cond (.t 33)
 .skip
 (.seq (.reg [⟨(some 36), .bin .eql (.t 4) (.c (.d (.int .i64 41))), none⟩,
 ⟨(some 33), .mv (.t 36), none⟩])
 (.cond (.t 33)
 .skip
 (.seq (.reg [⟨(some 37), .bin .eql (.t 4) (.c (.d (.int .i64 39))), none⟩,
 ⟨(some 33), .mv (.t 37), none⟩])
 (.cond (.t 33)
 .skip
 (.seq (.reg [⟨(some 38), .bin .eql (.t 4) (.c (.d (.int .i64 40))), none⟩,
 ⟨(some 33), .mv (.t 38), none⟩])
 (.cond (.t 33)
 .skip
 (.seq (.reg [⟨(some 39), .bin .eql (.t 4) (.c (.d (.int .i64 42))), none⟩,
 ⟨(some 33), .mv (.t 39), none⟩])
 (.cond (.t 33)
 .skip
 (.seq (.reg [⟨(some 40), .bin .eql (.t 4) (.c (.d (.int .i64 44))), none⟩,
 ⟨(some 33), .mv (.t 40), none⟩])
 (.cond (.t 33)
 .skip
 (.reg [⟨(some 41), .bin .eql (.t 4) (.c (.d (.int .i64 43))), none⟩,
 ⟨(some 33), .mv (.t 41), none⟩])))))))))))))))
 (.cond (.t 33)
 (.seq (.reg [⟨(some 42), .bslice 1 1 [(.c (.d (.str [69])))], none⟩,
 ⟨(some 2), .mv (.t 42), none⟩])
 .ret)
 (.seq (.seq (.reg [⟨(some 44), .bin .eql (.t 4) (.c (.d (.int .i64 23))), none⟩,
 ⟨(some 43), .mv (.t 44), none⟩])
 (.cond (.t 43)
 .skip
 (.reg [⟨(some 45), .bin .eql (.t 4) (.c (.d (.int .i64 38))), none⟩,
 ⟨(some 43), .mv (.t 45), none⟩])))
 (.cond (.t 43)
 (.seq (.reg [⟨(some 46), .bslice 1 1 [(.c (.d (.str [69, 69])))], none⟩,
 ⟨(some 2), .mv (.t 46), none⟩])
 .ret)
 (.seq (.reg [⟨(some 48), .bin .eql (.t 4) (.c (.d (.int .i64 24))), none⟩,
 ⟨(some 47), .mv (.t 48), none⟩])
 (.cond (.t 47)
 (.seq (.reg [⟨(some 49), .bslice 1 1 [(.c (.d (.str [69, 66])))], none⟩,
 ⟨(some 2), .mv (.t 49), none⟩])
 .ret)
 (.seq (.seq (.reg [⟨(some 51), .bin .eql (.t 4) (.c (.d (.int .i64 25))), none⟩,
 ⟨(some 50), .mv (.t 51), none⟩])
 (.cond (.t 50)
 .skip
 (.reg [⟨(some 52), .bin .eql (.t 4) (.c (.d (.int .i64 37))), none⟩,
 ⟨(some 50), .mv (.t 52), none⟩])))
 (.cond (.t 50)
 (.seq (.reg [⟨(some 53), .bslice 1 2 [(.c (.d (.str []))), (.c (.d (.str [69])))], none⟩,
 ⟨(some 2), .mv (.t 53), none⟩])
 .ret)
 (.seq (.reg [⟨(some 55), .bin .eql (.t 4) (.c (.d (.int .i64 34))), none⟩,
 ⟨(some 54), .mv (.t 55), none⟩])
 (.cond (.t 54)
 (.seq (.reg [⟨(some 56), .bslice 1 1 [(.c (.d (.str [42, 69])))], none⟩,
 ⟨(some 2), .mv (.t 56), none⟩])
 .ret)
 (.seq (.reg [⟨(some 58), .bin .eql (.t 4) (.c (.d (.int .i64 35))), none⟩,
 ⟨(some 57), .mv (.t 58), none⟩])
 (.cond (.t 57)
 (.seq (.reg [⟨(some 59), .bslice 1 1 [(.c (.d (.str [42, 74])))], none⟩,
 ⟨(some 2), .mv (.t 59), none⟩])
 .ret)
 (.seq (.reg [⟨(some 61), .bin .eql (.t 4) (.c (.d (.int .i64 45))), none⟩,
 ⟨(some 60), .mv (.t 61), none⟩])
 (.cond (.t 60)
 (.seq (.reg [⟨(some 62), .bslice 1 2 [(.c (.d (.str [69, 66]))), (.c (.d (.str [69, 66, 88])))], none⟩,
 ⟨(some 2), .mv (.t 62), none⟩])
 .ret)
 (.seq (.reg [⟨(some 64), .bin .eql (.t 4) (.c (.d (.int .i64 46))), none⟩,
 ⟨(some 63), .mv (.t 64), none⟩])
 (.cond (.t 63)
 (.seq (.reg [⟨(some 65), .bslice 1 1 [(.c (.d (.str [69, 42, 65])))], none⟩,
 ⟨(some 2), .mv (.t 65), none⟩])
 .ret)
 (.seq (.reg [⟨(some 67), .bin .eql (.t 4) (.c (.d (.int .i64 47))), none⟩,
 ⟨(some 66), .mv (.t 67), none⟩])
 (.cond (.t 66)
 (.seq (.reg [⟨(some 68), .bslice 1 1 [(.c (.d (.str [80, 69])))], none⟩,
 ⟨(some 2), .mv (.t 68), none⟩])
 .ret)
 (.seq (.reg [⟨(some 70), .bin .eql (.t 4) (.c (.d (.int .i64 54))), none⟩,
 ⟨(some 69), .mv (.t 70), none⟩])
 (.cond (.t 69)
 (.seq (.reg [⟨(some 71), .bslice 1 2 [(.c (.d (.str []))), (.c (.d (.str [80])))], none⟩,
 ⟨(some 2), .mv (.t 71), none⟩])
 .ret)
 .skip))))))))))))))))))))))))))))))))))))))
 (.seq (.reg [⟨(some 72), .bslice 1 1 [(.c (.d (.str [])))], none⟩,
 ⟨(some 2), .mv (.t 72), none⟩])
 .ret)))
def F77 : VFn := ⟨1, 73, B77, [.tmp 2], false⟩

def A77 : Ann := ⟨keepOf [], ghostOf []⟩
-- 78 patina/patinaref13.fits
def K78_0 : List Nat := [3, 4, 7, 8]
def L78_0 : VCode :=
 (.seq (.seq (.reg [⟨(some 45), .mv (.t 8), none⟩,
 ⟨(some 46), .mv (.t 7), none⟩,
 ⟨(some 47), .bin .sub (.t 46) (.c (.d (.int .i64 2))), none⟩,
 ⟨(some 48), .bin .lss (.t 45) (.t 47), none⟩])
 (.cond (.t 48)
 .skip
 (.exit 1)))
 (.seq (.block 2 (.seq (.reg [⟨(some 51), .ld (some 1) (.t 3), none⟩,
 ⟨(some 52), .ld (some 6) (.t 4), none⟩,
 ⟨(some 53), .mv (.t 8), none⟩,
 ⟨(some 54), .call 100 [(.t 51), (.t 52), (.t 53)], none⟩,
 ⟨(some 55), .call 99 [(.t 54), (.c (.d (.int .u8 77)))], none⟩,
 ⟨(some 56), .un .not (.t 55), none⟩])
 (.cond (.t 56)
 (.seq (.reg [⟨(some 6), .mv (.c (.d (.bool false))), none⟩])
 .ret)
 .skip)))
 (.reg [⟨(some 49), .mv (.t 8), none⟩,
 ⟨(some 50), .bin .add (.t 49) (.c (.d (.int .i64 1))), none⟩,
 ⟨(some 8), .mv (.t 50), none⟩])))
def K78_1 : List Nat := [3, 4, 7, 9]
def L78_1 : VCode :=
 (.seq (.seq (.reg [⟨(some 75), .mv (.t 9), none⟩,
 ⟨(some 76), .mv (.t 7), none⟩,
 ⟨(some 77), .fadr 2 (.t 4), none⟩,
 ⟨(some 78), .ld none (.t 77), none⟩,
 ⟨(some 79), .bin .sub (.t 76) (.t 78), none⟩,
 ⟨(some 80), .bin .lss (.t 75) (.t 79), none⟩])
 (.cond (.t 80)
 .skip
 (.exit 3)))
 (.seq (.block 4 (.seq (.reg [⟨(some 83), .ld (some 1) (.t 3), none⟩,
 ⟨(some 84), .ld (some 6) (.t 4), none⟩,
 ⟨(some 85), .mv (.t 9), none⟩,
 ⟨(some 86), .call 100 [(.t 83), (.t 84), (.t 85)], none⟩,
 ⟨(some 87), .call 99 [(.t 86), (.c (.d (.int .u8 83)))], none⟩,
 ⟨(some 88), .un .not (.t 87), none⟩])
 (.cond (.t 88)
 (.seq (.reg [⟨(some 6), .mv (.c (.d (.bool false))), none⟩])
 .ret)
 .skip)))
 (.reg [⟨(some 81), .mv (.t 9), none⟩,
 ⟨(some 82), .bin .add (.t 81) (.c (.d (.int .i64 1))), none⟩,
 ⟨(some 9), .mv (.t 82), none⟩])))
def K78_2 : List Nat := [2, 3, 4, 7, 10, 11]
def L78_2 : VCode :=
 (.seq (.seq (.reg [⟨(some 99), .mv (.t 10), none⟩,
 ⟨(some 100), .mv (.t 7), none⟩,
 ⟨(some 101), .bin .lss (.t 99) (.t 100), none⟩])
 (.cond (.t 101)
 .skip
 (.exit 7)))
 (.seq (.block 8 (.seq (.draw 8 [⟨(some 104), .ld (some 1) (.t 3), none⟩,
 ⟨(some 105), .ld (some 6) (.t 4), none⟩,
 ⟨(some 106), .mv (.t 10), none⟩,
 ⟨(some 107), .call 100 [(.t 104), (.t 105), (.t 106)], none⟩,
 ⟨(some 108), .mv (.t 2), none⟩,
 ⟨(some 109), .mv (.t 11), none⟩,
 ⟨(some 110), .bin .add (.t 109) (.c (.d (.int .i64 1))), none⟩,
 ⟨(some 111), .idx (.t 108) (.t 110), none⟩,
 ⟨(some 112), .call 99 [(.t 107), (.t 111)], none⟩,
 ⟨(some 113), .un .not (.t 112), none⟩])
 (.cond (.t 113)
 (.seq (.reg [⟨(some 6), .mv (.c (.d (.bool false))), none⟩])
 .ret)
 .skip)))
 (.reg [⟨(some 102), .mv (.t 10), none⟩,
 ⟨(some 103), .bin .add (.t 102) (.c (.d (.int .i64 1))), none⟩,
 ⟨(some 10), .mv (.t 103), none⟩])))
def K78_3 : List Nat := [2, 3, 4, 7, 10, 11]
def L78_3 : VCode :=
 (.seq (.seq (.reg [⟨(some 89), .mv (.t 11), none⟩,
 ⟨(some 90), .mv (.t 2), none⟩,
 ⟨(some 91), .len true (.t 90), none⟩,
 ⟨(some 92), .bin .lss (.t 89) (.t 91), none⟩])
 (.cond (.t 92)
 .skip
 (.exit 5)))
 (.seq (.block 6 (.seq (.seq (.reg [⟨(some 95), .mv (.t 2), none⟩,
 ⟨(some 96), .mv (.t 11), none⟩,
 ⟨(some 97), .idx (.t 95) (.t 96), none⟩,
 ⟨(some 98), .bin .eql (.t 97) (.c (.d (.int .u8 42))), none⟩])
 (.cond (.t 98)
 (.seq (.block 7 (.loop K78_2 L78_2))
 (.seq (.reg [⟨(some 6), .mv (.c (.d (.bool true))), none⟩])
 .ret))
 .skip))
 (.seq (.seq (.draw 11 [⟨(some 114), .mv (.t 10), none⟩,
 ⟨(some 115), .mv (.t 7), none⟩,
 ⟨(some 116), .bin .eql (.t 114) (.t 115), none⟩,
 ⟨(some 117), .mv (.t 116), none⟩,
 ⟨(some 118), .ld (some 1) (.t 3), some (117, false)⟩,
 ⟨(some 119), .ld (some 6) (.t 4), some (117, false)⟩,
 ⟨(some 120), .mv (.t 10), some (117, false)⟩,
 ⟨(some 121), .call 100 [(.t 118), (.t 119), (.t 120)], some (117, false)⟩,
 ⟨(some 122), .mv (.t 2), some (117, false)⟩,
 ⟨(some 123), .mv (.t 11), some (117, false)⟩,
 ⟨(some 124), .idx (.t 122) (.t 123), some (117, false)⟩,
 ⟨(some 125), .call 99 [(.t 121), (.t 124)], some (117, false)⟩,
 ⟨(some 126), .un .not (.t 125), some (117, false)⟩,
 ⟨(some 127), .pick (.t 117) (.c (.d (.bool true))) (.t 126), none⟩])
 (.cond (.t 127)
 (.seq (.reg [⟨(some 6), .mv (.c (.d (.bool false))), none⟩])
 .ret)
 .skip))
 (.reg [⟨(some 128), .mv (.t 10), none⟩,
 ⟨(some 129), .bin .add (.t 128) (.c (.d (.int .i64 1))), none⟩,
 ⟨(some 10), .mv (.t 129), none⟩]))))
 (.reg [⟨(some 93), .mv (.t 11), none⟩,
 ⟨(some 94), .bin .add (.t 93) (.c (.d (.int .i64 1))), none⟩,
 ⟨(some 11), .mv (.t 94), none⟩])))
def B78 : VCode :=
 (.seq (.reg [⟨(some 3), .box (.t 0), none⟩,
 ⟨(some 4), .box (.t 1), none⟩,
 ⟨(some 6), .mv (.c (.d (.bool false))), none⟩])
 (.seq (.reg [⟨(some 12), .fadr 3 (.t 4), none⟩,
 ⟨(some 13), .ld none (.t 12), none⟩,
 ⟨(some 14), .len false (.t 13), none⟩,
 ⟨(some 7), .mv (.t 14), none⟩])
 (.seq (.seq (.reg [⟨(some 15), .mv (.t 2), none⟩])
 (.block 0 (.seq (.reg [⟨(some 17), .bin .eql (.t 15) (.c (.d (.str [102, 110]))), none⟩,
 ⟨(some 16), .mv (.t 17), none⟩])
 (.cond (.t 16)
 (.seq (.seq (.reg [⟨(some 18), .mv (.t 7), none⟩,
 ⟨(some 19), .bin .lss (.t 18) (.c (.d (.int .i64 2))), none⟩,
 ⟨(some 20), .mv (.t 19), none⟩,
 ⟨(some 21), .fadr 2 (.t 4), some (20, false)⟩,
 ⟨(some 22), .ld none (.t 21), some (20, false)⟩,
 ⟨(some 23), .mv (.t 7), some (20, false)⟩,
 ⟨(some 24), .bin .sub (.t 23) (.c (.d (.int .i64 2))), some (20, false)⟩,
 ⟨(some 25), .bin .neq (.t 22) (.t 24), some (20, false)⟩,
 ⟨(some 26), .pick (.t 20) (.c (.d (.bool true))) (.t 25), none⟩,
 ⟨(some 27), .mv (.t 26), none⟩,
 ⟨(some 28), .ld (some 1) (.t 3), some (27, false)⟩,
 ⟨(some 29), .ld (some 6) (.t 4), some (27, false)⟩,
 ⟨(some 30), .mv (.t 7), some (27, false)⟩,
 ⟨(some 31), .bin .sub (.t 30) (.c (.d (.int .i64 2))), some (27, false)⟩,
 ⟨(some 32), .call 100 [(.t 28), (.t 29), (.t 31)], some (27, false)⟩,
 ⟨(some 33), .call 99 [(.t 32), (.c (.d (.int .u8 84)))], some (27, false)⟩,
 ⟨(some 34), .un .not (.t 33), some (27, false)⟩,
 ⟨(some 35), .pick (.t 27) (.c (.d (.bool true))) (.t 34), none⟩,
 ⟨(some 36), .mv (.t 35), none⟩,
 ⟨(some 37), .ld (some 1) (.t 3), some (36, false)⟩,
 ⟨(some 38), .ld (some 6) (.t 4), some (36, false)⟩,
 ⟨(some 39), .mv (.t 7), some (36, false)⟩,
 ⟨(some 40), .bin .sub (.t 39) (.c (.d (.int .i64 1))), some (36, false)⟩,
 ⟨(some 41), .call 100 [(.t 37), (.t 38), (.t 40)], some (36, false)⟩,
 ⟨(some 42), .call 99 [(.t 41), (.c (.d (.int .u8 66)))], some (36, false)⟩,
 ⟨(some 43), .un .not (.t 42), some (36, false)⟩,
 ⟨(some 44), .pick (.t 36) (.c (.d (.bool true))) (.t 43), none⟩])
 (.cond (.t 44)
 (.seq (.reg [⟨(some 6), .mv (.c (.d (.bool false))), none⟩])
 .ret)
 .skip))
 (.seq (.seq (.reg [⟨(some 8), .mv (.c (.d (.int .i64 0))), none⟩])
 (.block 1 (.loop K78_0 L78_0)))
 (.seq (.reg [⟨(some 6), .mv (.c (.d (.bool true))), none⟩])
 .ret)))
 (.seq (.reg [⟨(some 58), .bin .eql (.t 15) (.c (.d (.str [98, 108, 111, 99, 107]))), none⟩,
 ⟨(some 57), .mv (.t 58), none⟩])
 (.cond (.t 57)
 (.seq (.seq (.reg [⟨(some 59), .fadr 2 (.t 4), none⟩,
 ⟨(some 60), .ld none (.t 59), none⟩,
 ⟨(some 61), .bin .eql (.t 60) (.c (.d (.int .i64 1))), none⟩,
 ⟨(some 62), .mv (.t 61), none⟩,
 ⟨(some 63), .mv (.t 7), some (62, true)⟩,
 ⟨(some 64), .bin .eql (.t 63) (.c (.d (.int .i64 0))), some (62, true)⟩,
 ⟨(some 65), .mv (.t 64), some (62, true)⟩,
 ⟨(some 66), .ld (some 1) (.t 3), some (65, false)⟩,
 ⟨(some 67), .ld (some 6) (.t 4), some (65, false)⟩,
 ⟨(some 68), .mv (.t 7), some (65, false)⟩,
 ⟨(some 69), .bin .sub (.t 68) (.c (.d (.int .i64 1))), some (65, false)⟩,
 ⟨(some 70), .call 100 [(.t 66), (.t 67), (.t 69)], some (65, false)⟩,
 ⟨(some 71), .call 99 [(.t 70), (.c (.d (.int .u8 69)))], some (65, false)⟩,
 ⟨(some 72), .un .not (.t 71), some (65, false)⟩,
 ⟨(some 73), .pick (.t 65) (.c (.d (.bool true))) (.t 72), some (62, true)⟩,
 ⟨(some 74), .pick (.t 62) (.t 73) (.c (.d (.bool false))), none⟩])
 (.cond (.t 74)
 (.seq (.reg [⟨(some 6), .mv (.c (.d (.bool false))), none⟩])
 .ret)
 .skip))
 (.seq (.seq (.reg [⟨(some 9), .mv (.c (.d (.int .i64 0))), none⟩])
 (.block 3 (.loop K78_1 L78_1)))
 (.seq (.reg [⟨(some 6), .mv (.c (.d (.bool true))), none⟩])
 .ret)))
 .skip))))))
 (.seq (.reg [⟨(some 10), .mv (.c (.d (.int .i64 0))), none⟩])
 (.seq (.seq (.reg [⟨(some 11), .mv (.c (.d (.int .i64 0))), none⟩])
 (.block 5 (.loop K78_3 L78_3)))
 (.seq (.reg [⟨(some 130), .mv (.t 10), none⟩,
 ⟨(some 131), .mv (.t 7), none⟩,
 ⟨(some 132), .bin .eql (.t 130) (.t 131), none⟩,
 ⟨(some 6), .mv (.t 132), none⟩])
 .ret))))))
def F78 : VFn := ⟨3, 133, B78, [.tmp 6], false⟩

def A78 : Ann := ⟨keepOf [(7, [3, 4, 7, 8]), (16, [3, 4, 7, 9]), (23, [2, 3, 4, 7, 10, 11]), (26, [2, 3, 4, 7, 10, 11])], ghostOf []⟩
-- 81 patina/tree.isPattern
def B81 : VCode :=
 (.seq (.reg [⟨(some 2), .mv (.c (.d (.bool false))), none⟩])
 (.seq (.reg [⟨(some 3), .mv (.t 0), none⟩,
 ⟨(some 4), .bin .geq (.t 3) (.c (.d (.int .i64 50))), none⟩,
 ⟨(some 5), .mv (.t 4), none⟩,
 ⟨(some 6), .mv (.t 0), some (5, true)⟩,
 ⟨(some 7), .bin .leq (.t 6) (.c (.d (.int .i64 54))), some (5, true)⟩,
 ⟨(some 8), .pick (.t 5) (.t 7) (.c (.d (.bool false))), none⟩,
 ⟨(some 2), .mv (.t 8), none⟩])
 .ret))
def F81 : VFn := ⟨1, 9, B81, [.tmp 2], false⟩

def A81 : Ann := ⟨keepOf [], ghostOf []⟩
-- 82 patina/tree.isExpr
def B82 : VCode :=
 (.seq (.reg [⟨(some 2), .mv (.c (.d (.bool false))), none⟩])
 (.seq (.reg [⟨(some 3), .mv (.t 0), none⟩,
 ⟨(some 4), .bin .eql (.t 3) (.c (.d (.int .i64 20))), none⟩,
 ⟨(some 5), .mv (.t 4), none⟩,
 ⟨(some 6), .mv (.t 0), some (5, false)⟩,
 ⟨(some 7), .bin .geq (.t 6) (.c (.d (.int .i64 30))), some (5, false)⟩,
 ⟨(some 8), .mv (.t 7), some (5, false)⟩,
 ⟨(some 9), .mv (.t 0), some (8, true)⟩,
 ⟨(some 10), .bin .leq (.t 9) (.c (.d (.int .i64 46))), some (8, true)⟩,
 ⟨(some 11), .pick (.t 8) (.t 10) (.c (.d (.bool false))), some (5, false)⟩,
 ⟨(some 12), .mv (.t 11), some (5, false)⟩,
 ⟨(some 13), .mv (.t 0), some (12, true)⟩,
 ⟨(some 14), .bin .neq (.t 13) (.c (.d (.int .i64 36))), some (12, true)⟩,
 ⟨(some 15), .pick (.t 12) (.t 14) (.c (.d (.bool false))), some (5, false)⟩,
 ⟨(some 16), .pick (.t 5) (.c (.d (.bool true))) (.t 15), none⟩,
 ⟨(some 2), .mv (.t 16), none⟩])
 .ret))
def F82 : VFn := ⟨1, 17, B82, [.tmp 2], false⟩

def A82 : Ann := ⟨keepOf [], ghostOf []⟩
-- 83 patina/lex.Name
def B83 : VCode :=
 (.seq (.reg [⟨(some 2), .mv (.c (.d (.bool false))), none⟩])
 (.seq (.reg [⟨(some 3), .mv (.t 0), none⟩,
 ⟨(some 4), .call 101 [(.t 3)], none⟩,
 ⟨(some 5), .mv (.t 4), none⟩,
 ⟨(some 6), .mv (.t 0), some (5, true)⟩,
 ⟨(some 7), .len true (.t 6), some (5, true)⟩,
 ⟨(some 8), .bin .leq (.t 7) (.c (.d (.int .i64 64))), some (5, true)⟩,
 ⟨(some 9), .pick (.t 5) (.t 8) (.c (.d (.bool false))), none⟩,
 ⟨(some 10), .mv (.t 9), none⟩,
 ⟨(some 11), .mv (.t 0), some (10, true)⟩,
 ⟨(some 12), .call 102 [(.t 11)], some (10, true)⟩,
 ⟨(some 13), .un .not (.t 12), some (10, true)⟩,
 ⟨(some 14), .pick (.t 10) (.t 13) (.c (.d (.bool false))), none⟩,
 ⟨(some 2), .mv (.t 14), none⟩])
 .ret))
def F83 : VFn := ⟨1, 15, B83, [.tmp 2], false⟩

def A83 : Ann := ⟨keepOf [], ghostOf []⟩
-- 85 patina/tree.sign
def B85 : VCode :=
 (.seq (.reg [⟨(some 2), .mv (.c (.d (.bool false))), none⟩])
 (.seq (.seq (.reg [⟨(some 3), .mv (.t 0), none⟩])
 (.block 0 (.seq (.block 2 (.block 1 (.seq (.seq (.seq (.seq (.reg [⟨(some 5), .bin .eql (.t 3) (.c (.d (.str [124, 124]))), none⟩,
 ⟨(some 4), .mv (.t 5), none⟩])
 (.cond (.t 4)
 .skip
 (.seq (.reg [⟨(some 6), .bin .eql (.t 3) (.c (.d (.str [38, 38]))), none⟩,
 ⟨(some 4), .mv (.t 6), none⟩])
 (.cond (.t 4)
 .skip
 (.seq (.reg [⟨(some 7), .bin .eql (.t 3) (.c (.d (.str [61, 61]))), none⟩,
 ⟨(some 4), .mv (.t 7), none⟩])
 (.cond (.t 4)
 .skip
 (.seq (.reg [⟨(some 8), .bin .eql (.t 3) (.c (.d (.str [33, 61]))), none⟩,
 ⟨(some 4), .mv (.t 8), none⟩])
 (.cond (.t 4)
 .skip
 (.seq (.reg [⟨(some 9), .bin .eql (.t 3) (.c (.d (.str [60]))), none⟩,
 ⟨(some 4), .mv (.t 9), none⟩])
 (.cond (.t 4)
 .skip
 (.seq (.reg [⟨(some 10), .bin .eql (.t 3) (.c (.d (.str [62]))), none⟩,
 ⟨(some 4), .mv (.t 10), none⟩])
 (.cond (.t 4)
 .skip
 (.seq (.reg [⟨(some 11), .bin .eql (.t 3) (.c (.d (.str [60, 61]))), none⟩,
 ⟨(some 4), .mv (.t 11), none⟩])
 (.cond (.t 4)
 .skip
 (.reg [⟨(some 12), .bin .eql (.t 3) (.c (.d (.str [62, 61]))), none⟩,
 ⟨(some 4), .mv (.t 12), none⟩])))))))))))))))
 (.cond (.t 4)
 (.exit 1)
 .skip))
 (.seq (.seq (.reg [⟨(some 14), .bin .eql (.t 3) (.c (.d (.str [43]))), none⟩,
 ⟨(some 13), .mv (.t 14), none⟩])
 (.cond (.t 13)
 .skip
 (.seq (.reg [⟨(some 15), .bin .eql (.t 3) (.c (.d (.str [45]))), none⟩,
 ⟨(some 13), .mv (.t 15), none⟩])
 (.cond (.t 13)
 .skip
 (.seq (.reg [⟨(some 16), .bin .eql (.t 3) (.c (.d (.str [42]))), none⟩,
 ⟨(some 13), .mv (.t 16), none⟩])
 (.cond (.t 13)
 .skip
 (.seq (.reg [⟨(some 17), .bin .eql (.t 3) (.c (.d (.str [47]))), none⟩,
 ⟨(some 13), .mv (.t 17), none⟩])
 (.cond (.t 13)
 .skip
 (.reg [⟨(some 18), .bin .eql (.t 3) (.c (.d (.str [37]))), none⟩,
 ⟨(some 13), .mv (.t 18), none⟩])))))))))
 (.cond (.t 13)
 (.exit 2)
 .skip)))
 (.exit 0))))
 (.seq (.seq (.reg [⟨(some 2), .mv (.c (.d (.bool true))), none⟩])
 .ret)
 (.exit 0)))))
 (.seq (.reg [⟨(some 2), .mv (.c (.d (.bool false))), none⟩])
 .ret)))
def F85 : VFn := ⟨1, 19, B85, [.tmp 2], false⟩

def A85 : Ann := ⟨keepOf [], ghostOf []⟩
-- 86 patina/tree.shape
def B86 : VCode :=
 (.seq (.reg [⟨(some 1), .box (.t 0), none⟩,
 ⟨(some 2), .mv (.c (.d (.str []))), none⟩])
 (.seq (.seq (.reg [⟨(some 3), .fadr 0 (.t 1), none⟩,
 ⟨(some 4), .ld none (.t 3), none⟩])
 (.block 0 (.seq (.block 20 (.seq (.block 19 (.seq (.block 18 (.seq (.block 17 (.seq (.block 16 (.block 15 (.seq (.block 14 (.seq (.block 13 (.seq (.block 12 (.seq (.block 11 (.seq (.block 10 (.seq (.block 9 (.seq (.block 8 (.seq (.block 7 (.seq (.block 6 (.block 5 (.seq (.block 4 (.seq (.block 3 (.seq (.block 2 (.seq (.block 1 (.seq (.seq (.seq (.reg [⟨(some 6), .bin .eql (.t 4) (.c (.d (.int .i64 1))), none⟩,
 ⟨(some 5), .mv (.t 6), none⟩])
 (.cond (.t 5)
 (.exit 1)
 .skip))
 (.seq (.seq (.reg [⟨(some 8), .bin .eql (.t 4) (.c (.d (.int .i64 2))), none⟩,
 ⟨(some 7), .mv (.t 8), none⟩])
 (.cond (.t 7)
 (.exit 2)
 .skip))
 (.seq (.seq (.reg [⟨(some 10), .bin .eql (.t 4) (.c (.d (.int .i64 3))), none⟩,
 ⟨(some 9), .mv (.t 10), none⟩])
 (.cond (.t 9)
 (.exit 3)
 .skip))
 (.seq (.seq (.reg [⟨(some 12), .bin .eql (.t 4) (.c (.d (.int .i64 4))), none⟩,
 ⟨(some 11), .mv (.t 12), none⟩])
 (.cond (.t 11)
 (.exit 4)
 .skip))
 (.seq (.seq (.seq (.reg [⟨(some 14), .bin .eql (.t 4) (.c (.d (.int .i64 5))), none⟩,
 ⟨(some 13), .mv (.t 14), none⟩])
 (.cond (.t 13)
 .skip
 (.reg [⟨(some 15), .bin .eql (.t 4) (.c (.d (.int .i64 7))), none⟩,
 ⟨(some 13), .mv (.t 15), none⟩])))
 (.cond (.t 13)
 (.exit 5)
 .skip))
 (.seq (.seq (.seq (.reg [⟨(some 17), .bin .eql (.t 4) (.c (.d (.int .i64 14))), none⟩,
 ⟨(some 16), .mv (.t 17), none⟩])
 (.cond (.t 16)
 .skip
 (.seq (.reg [⟨(some 18), .bin .eql (.t 4) (.c (.d (.int .i64 15))), none⟩,
 ⟨(some 16), .mv (.t 18), none⟩])
 (.cond (.t 16)
 .skip
 (.reg [⟨(some 19), .bin .eql (.t 4) (.c (.d (.int .i64 16))), none⟩,
 ⟨(some 16), .mv (.t 19), none⟩])))))
 (.cond (.t 16)
 (.exit 6)
 .skip))
 (.seq (.seq (.reg [⟨(some 21), .bin .eql (.t 4) (.c (.d (.int .i64 6))), none⟩,
 ⟨(some 20), .mv (.t 21), none⟩])
 (.cond (.t 20)
 (.exit 7)
 .skip))
 (.seq (.seq (.reg [⟨(some 23), .bin .eql (.t 4) (.c (.d (.int .i64 20))), none⟩,
 ⟨(some 22), .mv (.t 23), none⟩])
 (.cond (.t 22)
 (.exit 8)
 .skip))
 (.seq (.seq (.reg [⟨(some 25), .bin .eql (.t 4) (.c (.d (.int .i64 21))), none⟩,
 ⟨(some 24), .mv (.t 25), none⟩])
 (.cond (.t 24)
 (.exit 9)
 .skip))
 (.seq (.seq (.seq (.reg [⟨(some 27), .bin .eql (.t 4) (.c (.d (.int .i64 23))), none⟩,
 ⟨(some 26), .mv (.t 27), none⟩])
 (.cond (.t 26)
 .skip
 (.reg [⟨(some 28), .bin .eql (.t 4) (.c (.d (.int .i64 38))), none⟩,
 ⟨(some 26), .mv (.t 28), none⟩])))
 (.cond (.t 26)
 (.exit 10)
 .skip))
 (.seq (.seq (.reg [⟨(some 30), .bin .eql (.t 4) (.c (.d (.int .i64 24))), none⟩,
 ⟨(some 29), .mv (.t 30), none⟩])
 (.cond (.t 29)
 (.exit 11)
 .skip))
 (.seq (.seq (.seq (.reg [⟨(some 32), .bin .eql (.t 4) (.c (.d (.int .i64 25))), none⟩,
 ⟨(some 31), .mv (.t 32), none⟩])
 (.cond (.t 31)
 .skip
 (.reg [⟨(some 33), .bin .eql (.t 4) (.c (.d (.int .i64 37))), none⟩,
 ⟨(some 31), .mv (.t 33), none⟩])))
 (.cond (.t 31)
 (.exit 12)
 .skip))
 (.seq (.seq (.reg [⟨(some 35), .bin .eql (.t 4) (.c (.d (.int .i64 34))), none⟩,
 ⟨(some 34), .mv (.t 35), none⟩])
 (.cond (.t 34)
 (.exit 13)
 .skip))
 (.seq (.seq (.reg [⟨(some 37), .bin .eql (.t 4) (.c (.d (.int .i64 35))), none⟩,
 ⟨(some 36), .mv (.t 37), none⟩])
 (.cond (.t 36)
 (.exit 14)
 .skip))
 (.seq (.seq (.seq (.reg [⟨(some 39), .bin .eql (.t 4) (.c (.d (.int .i64 22))), none⟩,
 ⟨(some 38), .mv (.t 39), none⟩])
 (.cond (.t 38)
 .skip
 (.seq (.reg [⟨(some 40), .bin .eql (.t 4) (.c (.d (.int .i64 36))), none⟩,
 ⟨(some 38), .mv (.t 40), none⟩])
 (.cond (.t 38)
 .skip
 (.seq (.reg [⟨(some 41), .bin .eql (.t 4) (.c (.d (.int .i64 41))), none⟩,
 ⟨(some 38), .mv (.t 41), none⟩])
 (.cond (.t 38)
 .skip
 (.seq (.reg [⟨(some 42), .bin .eql (.t 4) (.c (.d (.int .i64 39))), none⟩,
 ⟨(some 38), .mv (.t 42), none⟩])
 (.cond (.t 38)
 .skip
 (.reg [⟨(some 43), .bin .eql (.t 4) (.c (.d (.int .i64 40))), none⟩,
 ⟨(some 38), .mv (.t 43), none⟩])))))))))
 (.cond (.t 38)
 (.exit 15)
 .skip))
 (.seq (.seq (.seq (.reg [⟨(some 45), .bin .eql (.t 4) (.c (.d (.int .i64 42))), none⟩,
 ⟨(some 44), .mv (.t 45), none⟩])
 (.cond (.t 44)
 .skip
 (.seq (.reg [⟨(some 46), .bin .eql (.t 4) (.c (.d (.int .i64 44))), none⟩,
 ⟨(some 44), .mv (.t 46), none⟩])
 (.cond (.t 44)
 .skip
 (.reg [⟨(some 47), .bin .eql (.t 4) (.c (.d (.int .i64 43))), none⟩,
 ⟨(some 44), .mv (.t 47), none⟩])))))
 (.cond (.t 44)
 (.exit 16)
 .skip))
 (.seq (.seq (.reg [⟨(some 49), .bin .eql (.t 4) (.c (.d (.int .i64 45))), none⟩,
 ⟨(some 48), .mv (.t 49), none⟩])
 (.cond (.t 48)
 (.exit 17)
 .skip))
 (.seq (.seq (.reg [⟨(some 51), .bin .eql (.t 4) (.c (.d (.int .i64 46))), none⟩,
 ⟨(some 50), .mv (.t 51), none⟩])
 (.cond (.t 50)
 (.exit 18)
 .skip))
 (.seq (.seq (.reg [⟨(some 53), .bin .eql (.t 4) (.c (.d (.int .i64 47))), none⟩,
 ⟨(some 52), .mv (.t 53), none⟩])
 (.cond (.t 52)
 (.exit 19)
 .skip))
 (.seq (.reg [⟨(some 55), .bin .eql (.t 4) (.c (.d (.int .i64 54))), none⟩,
 ⟨(some 54), .mv (.t 55), none⟩])
 (.cond (.t 54)
 (.exit 20)
 .skip)))))))))))))))))))))
 (.exit 0)))
 (.seq (.seq (.reg [⟨(some 2), .mv (.c (.d (.str [42, 105]))), none⟩])
 .ret)
 (.exit 0))))
 (.seq (.seq (.reg [⟨(some 2), .mv (.c (.d (.str [42, 113, 116, 98]))), none⟩])
 .ret)
 (.exit 0))))
 (.seq (.seq (.reg [⟨(some 2), .mv (.c (.d (.str [42, 102]))), none⟩])
 .ret)
 (.exit 0))))
 (.seq (.seq (.reg [⟨(some 2), .mv (.c (.d (.str [42, 118]))), none⟩])
 .ret)
 (.exit 0)))))
 (.seq (.seq (.reg [⟨(some 2), .mv (.c (.d (.str [116]))), none⟩])
 .ret)
 (.exit 0))))
 (.seq (.seq (.reg [⟨(some 2), .mv (.c (.d (.str [63, 116]))), none⟩])
 .ret)
 (.exit 0))))
 (.seq (.seq (.seq (.reg [⟨(some 56), .fadr 2 (.t 1), none⟩,
 ⟨(some 57), .ld none (.t 56), none⟩,
 ⟨(some 58), .bin .eql (.t 57) (.c (.d (.int .i64 1))), none⟩])
 (.cond (.t 58)
 (.seq (.reg [⟨(some 2), .mv (.c (.d (.str [42, 115, 101]))), none⟩])
 .ret)
 .skip))
 (.seq (.reg [⟨(some 2), .mv (.c (.d (.str [42, 115]))), none⟩])
 .ret))
 (.exit 0))))
 (.seq (.seq (.reg [⟨(some 2), .mv (.c (.d (.str [63, 116, 101]))), none⟩])
 .ret)
 (.exit 0))))
 (.seq (.seq (.reg [⟨(some 2), .mv (.c (.d (.str [101, 101]))), none⟩])
 .ret)
 (.exit 0))))
 (.seq (.seq (.reg [⟨(some 2), .mv (.c (.d (.str [101, 98]))), none⟩])
 .ret)
 (.exit 0))))
 (.seq (.seq (.reg [⟨(some 2), .mv (.c (.d (.str [63, 101]))), none⟩])
 .ret)
 (.exit 0))))
 (.seq (.seq (.reg [⟨(some 2), .mv (.c (.d (.str [42, 101]))), none⟩])
 .ret)
 (.exit 0))))
 (.seq (.seq (.reg [⟨(some 2), .mv (.c (.d (.str [42, 110]))), none⟩])
 .ret)
 (.exit 0)))))
 (.seq (.seq (.reg [⟨(some 2), .mv (.c (.d (.str [101]))), none⟩])
 .ret)
 (.exit 0))))
 (.seq (.seq (.reg [⟨(some 2), .mv (.c (.d (.str [101, 98, 63, 111]))), none⟩])
 .ret)
 (.exit 0))))
 (.seq (.seq (.reg [⟨(some 2), .mv (.c (.d (.str [101, 42, 97]))), none⟩])
 .ret)
 (.exit 0))))
 (.seq (.seq (.reg [⟨(some 2), .mv (.c (.d (.str [112, 101]))), none⟩])
 .ret)
 (.exit 0))))
 (.seq (.seq (.reg [⟨(some 2), .mv (.c (.d (.str [63, 112]))), none⟩])
 .ret)
 (.exit 0)))))
 (.seq (.reg [⟨(some 2), .mv (.c (.d (.str []))), none⟩])
 .ret)))
def F86 : VFn := ⟨1, 59, B86, [.tmp 2], false⟩

def A86 : Ann := ⟨keepOf [], ghostOf []⟩
-- 88 patina/tree.kids
def B88 : VCode :=
 (.seq (.reg [⟨(some 4), .mv (.c (.d (.bool false))), none⟩])
 (.seq (.seq (.reg [⟨(some 5), .mv (.t 0), none⟩,
 ⟨(some 6), .bin .eql (.t 5) (.c (.d (.str []))), none⟩])
 (.cond (.t 6)
 (.seq (.reg [⟨(some 7), .mv (.t 1), none⟩,
 ⟨(some 8), .len false (.t 7), none⟩,
 ⟨(some 9), .bin .eql (.t 8) (.c (.d (.int .i64 0))), none⟩,
 ⟨(some 4), .mv (.t 9), none⟩])
 .ret)
 .skip))
 (.seq (.seq (.reg [⟨(some 10), .mv (.t 0), none⟩,
 ⟨(some 11), .idx (.t 10) (.c (.d (.int .i64 0))), none⟩,
 ⟨(some 12), .bin .eql (.t 11) (.c (.d (.int .u8 63))), none⟩])
 (.cond (.t 12)
 (.seq (.draw 22 [⟨(some 13), .mv (.t 1), none⟩,
 ⟨(some 14), .len false (.t 13), none⟩,
 ⟨(some 15), .bin .gtr (.t 14) (.c (.d (.int .i64 0))), none⟩,
 ⟨(some 16), .mv (.t 15), none⟩,
 ⟨(some 17), .mv (.t 0), some (16, true)⟩,
 ⟨(some 18), .idx (.t 17) (.c (.d (.int .i64 1))), some (16, true)⟩,
 ⟨(some 19), .mv (.t 1), some (16, true)⟩,
 ⟨(some 20), .iadr 1 (.t 19) (.c (.d (.int .i64 0))), some (16, true)⟩,
 ⟨(some 21), .ld none (.t 20), some (16, true)⟩,
 ⟨(some 22), .call 105 [(.t 18), (.t 21)], some (16, true)⟩,
 ⟨(some 23), .pick (.t 16) (.t 22) (.c (.d (.bool false))), none⟩,
 ⟨(some 24), .mv (.t 23), none⟩,
 ⟨(some 25), .mv (.t 0), some (24, true)⟩,
 ⟨(some 26), .slcs (.t 25) (some (.c (.d (.int .i64 2)))) none, some (24, true)⟩,
 ⟨(some 27), .mv (.t 1), some (24, true)⟩,
 ⟨(some 28), .slc 1 (.t 27) (some (.c (.d (.int .i64 1)))) none, some (24, true)⟩,
 ⟨(some 29), .call 88 [(.t 26), (.t 28)], some (24, true)⟩,
 ⟨(some 30), .pick (.t 24) (.t 29) (.c (.d (.bool false))), none⟩,
 ⟨(some 31), .mv (.t 30), none⟩,
 ⟨(some 32), .mv (.t 0), some (31, false)⟩,
 ⟨(some 33), .slcs (.t 32) (some (.c (.d (.int .i64 2)))) none, some (31, false)⟩,
 ⟨(some 34), .mv (.t 1), some (31, false)⟩,
 ⟨(some 35), .call 88 [(.t 33), (.t 34)], some (31, false)⟩,
 ⟨(some 36), .pick (.t 31) (.c (.d (.bool true))) (.t 35), none⟩,
 ⟨(some 4), .mv (.t 36), none⟩])
 .ret)
 .skip))
 (.seq (.draw 16 [⟨(some 37), .mv (.t 1), none⟩,
 ⟨(some 38), .len false (.t 37), none⟩,
 ⟨(some 39), .bin .gtr (.t 38) (.c (.d (.int .i64 0))), none⟩,
 ⟨(some 40), .mv (.t 39), none⟩,
 ⟨(some 41), .mv (.t 0), some (40, true)⟩,
 ⟨(some 42), .idx (.t 41) (.c (.d (.int .i64 0))), some (40, true)⟩,
 ⟨(some 43), .mv (.t 1), some (40, true)⟩,
 ⟨(some 44), .iadr 1 (.t 43) (.c (.d (.int .i64 0))), some (40, true)⟩,
 ⟨(some 45), .ld none (.t 44), some (40, true)⟩,
 ⟨(some 46), .call 105 [(.t 42), (.t 45)], some (40, true)⟩,
 ⟨(some 47), .pick (.t 40) (.t 46) (.c (.d (.bool false))), none⟩,
 ⟨(some 48), .mv (.t 47), none⟩,
 ⟨(some 49), .mv (.t 0), some (48, true)⟩,
 ⟨(some 50), .slcs (.t 49) (some (.c (.d (.int .i64 1)))) none, some (48, true)⟩,
 ⟨(some 51), .mv (.t 1), some (48, true)⟩,
 ⟨(some 52), .slc 1 (.t 51) (some (.c (.d (.int .i64 1)))) none, some (48, true)⟩,
 ⟨(some 53), .call 88 [(.t 50), (.t 52)], some (48, true)⟩,
 ⟨(some 54), .pick (.t 48) (.t 53) (.c (.d (.bool false))), none⟩,
 ⟨(some 4), .mv (.t 54), none⟩])
 .ret))))
def F88 : VFn := ⟨2, 55, B88, [.tmp 4], false⟩

def A88 : Ann := ⟨keepOf [], ghostOf []⟩
-- 89 patina/tree.all
def B89 : VCode :=
 (.seq (.reg [⟨(some 2), .box (.t 0), none⟩,
 ⟨(some 4), .mv (.c (.d (.bool false))), none⟩])
 (.seq (.reg [⟨(some 5), .mv (.t 1), none⟩,
 ⟨(some 6), .mkfn 107 [(.t 2)], none⟩,
 ⟨(some 7), .call 106 [(.t 5), (.t 6)], none⟩,
 ⟨(some 8), .un .not (.t 7), none⟩,
 ⟨(some 4), .mv (.t 8), none⟩])
 .ret))
def F89 : VFn := ⟨2, 9, B89, [.tmp 4], false⟩

def A89 : Ann := ⟨keepOf [], ghostOf []⟩
-- 90 slices.Index[[]int,int]
def K90_0 : List Nat := [0, 1, 7, 8]
def L90_0 : VCode :=
 (.seq (.reg [⟨(some 9), .bin .lss (.t 8) (.t 7), none⟩])
 (.seq (.cond (.t 9)
 .skip
 (.exit 0))
 (.seq (.block 1 (.seq (.reg [⟨(some 10), .mv (.t 8), none⟩,
 ⟨(some 5), .mv (.t 10), none⟩])
 (.seq (.reg [⟨(some 11), .mv (.t 1), none⟩,
 ⟨(some 12), .mv (.t 0), none⟩,
 ⟨(some 13), .mv (.t 5), none⟩,
 ⟨(some 14), .iadr 1 (.t 12) (.t 13), none⟩,
 ⟨(some 15), .ld none (.t 14), none⟩,
 ⟨(some 16), .bin .eql (.t 11) (.t 15), none⟩])
 (.cond (.t 16)
 (.seq (.reg [⟨(some 17), .mv (.t 5), none⟩,
 ⟨(some 4), .mv (.t 17), none⟩])
 .ret)
 .skip))))
 (.reg [⟨(some 18), .bin .add (.t 8) (.c (.d (.int .i64 1))), none⟩,
 ⟨(some 8), .mv (.t 18), none⟩]))))
def B90 : VCode :=
 (.seq (.reg [⟨(some 4), .mv (.c (.d (.int .i64 0))), none⟩])
 (.seq (.seq (.reg [⟨(some 6), .mv (.t 0), none⟩,
 ⟨(some 7), .len false (.t 6), none⟩,
 ⟨(some 8), .mv (.c (.d (.int .i64 0))), none⟩])
 (.block 0 (.loop K90_0 L90_0)))
 (.seq (.reg [⟨(some 4), .mv (.c (.d (.int .i64 (-1)))), none⟩])
 .ret)))
def F90 : VFn := ⟨2, 19, B90, [.tmp 4], false⟩

def A90 : Ann := ⟨keepOf [(2, [0, 1, 7, 8])], ghostOf []⟩
-- 92 internal/strconv.FormatBool
def B92 : VCode :=
 (.seq (.reg [⟨(some 2), .mv (.c (.d (.str []))), none⟩])
 (.seq (.seq (.reg [⟨(some 3), .mv (.t 0), none⟩])
 (.cond (.t 3)
 (.seq (.reg [⟨(some 2), .mv (.c (.d (.str [116, 114, 117, 101]))), none⟩])
 .ret)
 .skip))
 (.seq (.reg [⟨(some 2), .mv (.c (.d (.str [102, 97, 108, 115, 101]))), none⟩])
 .ret)))
def F92 : VFn := ⟨1, 4, B92, [.tmp 2], false⟩

def A92 : Ann := ⟨keepOf [], ghostOf []⟩
-- 95 patina/patinaref13.IsPattern
def B95 : VCode :=
 (.seq (.reg [⟨(some 2), .mv (.c (.d (.bool false))), none⟩])
 (.seq (.reg [⟨(some 3), .mv (.t 0), none⟩,
 ⟨(some 4), .bin .geq (.t 3) (.c (.d (.int .i64 50))), none⟩,
 ⟨(some 5), .mv (.t 4), none⟩,
 ⟨(some 6), .mv (.t 0), some (5, true)⟩,
 ⟨(some 7), .bin .leq (.t 6) (.c (.d (.int .i64 54))), some (5, true)⟩,
 ⟨(some 8), .pick (.t 5) (.t 7) (.c (.d (.bool false))), none⟩,
 ⟨(some 2), .mv (.t 8), none⟩])
 .ret))
def F95 : VFn := ⟨1, 9, B95, [.tmp 2], false⟩

def A95 : Ann := ⟨keepOf [], ghostOf []⟩
-- 96 patina/patinaref11.Name
def B96 : VCode :=
 (.seq (.reg [⟨(some 2), .mv (.c (.d (.bool false))), none⟩])
 (.seq (.reg [⟨(some 3), .mv (.t 0), none⟩,
 ⟨(some 4), .call 112 [(.t 3)], none⟩,
 ⟨(some 5), .mv (.t 4), none⟩,
 ⟨(some 6), .mv (.t 0), some (5, true)⟩,
 ⟨(some 7), .len true (.t 6), some (5, true)⟩,
 ⟨(some 8), .bin .leq (.t 7) (.c (.d (.int .i64 64))), some (5, true)⟩,
 ⟨(some 9), .pick (.t 5) (.t 8) (.c (.d (.bool false))), none⟩,
 ⟨(some 10), .mv (.t 9), none⟩,
 ⟨(some 11), .mv (.t 0), some (10, true)⟩,
 ⟨(some 12), .call 113 [(.t 11)], some (10, true)⟩,
 ⟨(some 13), .un .not (.t 12), some (10, true)⟩,
 ⟨(some 14), .pick (.t 10) (.t 13) (.c (.d (.bool false))), none⟩,
 ⟨(some 2), .mv (.t 14), none⟩])
 .ret))
def F96 : VFn := ⟨1, 15, B96, [.tmp 2], false⟩

def A96 : Ann := ⟨keepOf [], ghostOf []⟩
-- 97 patina/patinaref13.picked
def K97_0 : List Nat := [0, 3]
def L97_0 : VCode :=
 (.seq (.seq (.reg [⟨(some 4), .mv (.t 3), none⟩,
 ⟨(some 5), .bin .add (.t 4) (.c (.d (.int .i64 1))), none⟩,
 ⟨(some 6), .mv (.t 0), none⟩,
 ⟨(some 7), .len true (.t 6), none⟩,
 ⟨(some 8), .bin .lss (.t 5) (.t 7), none⟩])
 (.cond (.t 8)
 .skip
 (.exit 0)))
 (.seq (.block 1 (.seq (.reg [⟨(some 11), .mv (.t 0), none⟩,
 ⟨(some 12), .mv (.t 3), none⟩,
 ⟨(some 13), .mv (.t 3), none⟩,
 ⟨(some 14), .bin .add (.t 13) (.c (.d (.int .i64 2))), none⟩,
 ⟨(some 15), .slcs (.t 11) (some (.t 12)) (some (.t 14)), none⟩,
 ⟨(some 16), .bin .eql (.t 15) (.c (.d (.str [58, 58]))), none⟩])
 (.cond (.t 16)
 (.seq (.reg [⟨(some 17), .mv (.t 0), none⟩,
 ⟨(some 18), .mv (.t 3), none⟩,
 ⟨(some 19), .slcs (.t 17) none (some (.t 18)), none⟩,
 ⟨(some 20), .call 96 [(.t 19)], none⟩,
 ⟨(some 21), .mv (.t 20), none⟩,
 ⟨(some 22), .mv (.t 0), some (21, true)⟩,
 ⟨(some 23), .mv (.t 3), some (21, true)⟩,
 ⟨(some 24), .bin .add (.t 23) (.c (.d (.int .i64 2))), some (21, true)⟩,
 ⟨(some 25), .slcs (.t 22) (some (.t 24)) none, some (21, true)⟩,
 ⟨(some 26), .call 96 [(.t 25)], some (21, true)⟩,
 ⟨(some 27), .pick (.t 21) (.t 26) (.c (.d (.bool false))), none⟩,
 ⟨(some 2), .mv (.t 27), none⟩])
 .ret)
 .skip)))
 (.reg [⟨(some 9), .mv (.t 3), none⟩,
 ⟨(some 10), .bin .add (.t 9) (.c (.d (.int .i64 1))), none⟩,
 ⟨(some 3), .mv (.t 10), none⟩])))
def B97 : VCode :=
 (.seq (.reg [⟨(some 2), .mv (.c (.d (.bool false))), none⟩])
 (.seq (.seq (.reg [⟨(some 3), .mv (.c (.d (.int .i64 0))), none⟩])
 (.block 0 (.loop K97_0 L97_0)))
 (.seq (.reg [⟨(some 2), .mv (.c (.d (.bool false))), none⟩])
 .ret)))
def F97 : VFn := ⟨1, 28, B97, [.tmp 2], false⟩

def A97 : Ann := ⟨keepOf [(2, [0, 3])], ghostOf []⟩
-- 98 patina/patinaref13.Sign
def B98 : VCode :=
 (.seq (.reg [⟨(some 2), .mv (.c (.d (.int .i64 0))), none⟩])
 (.seq (.seq (.reg [⟨(some 3), .mv (.t 0), none⟩])
 (.block 0 (.seq (.reg [⟨(some 5), .bin .eql (.t 3) (.c (.d (.str [124, 124]))), none⟩,
 ⟨(some 4), .mv (.t 5), none⟩])
 (.cond (.t 4)
 (.seq (.reg [⟨(some 2), .mv (.c (.d (.int .i64 1))), none⟩])
 .ret)
 (.seq (.reg [⟨(some 7), .bin .eql (.t 3) (.c (.d (.str [38, 38]))), none⟩,
 ⟨(some 6), .mv (.t 7), none⟩])
 (.cond (.t 6)
 (.seq (.reg [⟨(some 2), .mv (.c (.d (.int .i64 2))), none⟩])
 .ret)
 (.seq (.seq (.reg [⟨(some 9), .bin .eql (.t 3) (.c (.d (.str [61, 61]))), none⟩,
 ⟨(some 8), .mv (.t 9), none⟩])
 (.cond (.t 8)
 .skip
 (.seq (.reg [⟨(some 10), .bin .eql (.t 3) (.c (.d (.str [33, 61]))), none⟩,
 ⟨(some 8), .mv (.t 10), none⟩])
 (.cond (.t 8)
 .skip
 (.seq (.reg [⟨(some 11), .bin .eql (.t 3) (.c (.d (.str [60]))), none⟩,
 ⟨(some 8), .mv (.t 11), none⟩])
 (.cond (.t 8)
 .skip
 (.seq (.reg [⟨(some 12), .bin .eql (.t 3) (.c (.d (.str [62]))), none⟩,
 ⟨(some 8), .mv (.t 12), none⟩])
 (.cond (.t 8)
 .skip
 (.seq (.reg [⟨(some 13), .bin .eql (.t 3) (.c (.d (.str [60, 61]))), none⟩,
 ⟨(some 8), .mv (.t 13), none⟩])
 (.cond (.t 8)
 .skip
 (.reg [⟨(some 14), .bin .eql (.t 3) (.c (.d (.str [62, 61]))), none⟩,
 ⟨(some 8), .mv (.t 14), none⟩])))))))))))
 (.cond (.t 8)
 (.seq (.reg [⟨(some 2), .mv (.c (.d (.int .i64 3))), none⟩])
 .ret)
 (.seq (.seq (.reg [⟨(some 16), .bin .eql (.t 3) (.c (.d (.str [43]))), none⟩,
 ⟨(some 15), .mv (.t 16), none⟩])
 (.cond (.t 15)
 .skip
 (.reg [⟨(some 17), .bin .eql (.t 3) (.c (.d (.str [45]))), none⟩,
 ⟨(some 15), .mv (.t 17), none⟩])))
 (.cond (.t 15)
 (.seq (.reg [⟨(some 2), .mv (.c (.d (.int .i64 4))), none⟩])
 .ret)
 (.seq (.seq (.reg [⟨(some 19), .bin .eql (.t 3) (.c (.d (.str [42]))), none⟩,
 ⟨(some 18), .mv (.t 19), none⟩])
 (.cond (.t 18)
 .skip
 (.seq (.reg [⟨(some 20), .bin .eql (.t 3) (.c (.d (.str [47]))), none⟩,
 ⟨(some 18), .mv (.t 20), none⟩])
 (.cond (.t 18)
 .skip
 (.reg [⟨(some 21), .bin .eql (.t 3) (.c (.d (.str [37]))), none⟩,
 ⟨(some 18), .mv (.t 21), none⟩])))))
 (.cond (.t 18)
 (.seq (.reg [⟨(some 2), .mv (.c (.d (.int .i64 5))), none⟩])
 .ret)
 .skip))))))))))))
 (.seq (.reg [⟨(some 2), .mv (.c (.d (.int .i64 0))), none⟩])
 .ret)))
def F98 : VFn := ⟨1, 22, B98, [.tmp 2], false⟩

def A98 : Ann := ⟨keepOf [], ghostOf []⟩
-- 99 patina/patinaref13.is
def B99 : VCode :=
 (.seq (.reg [⟨(some 4), .mv (.c (.d (.bool false))), none⟩])
 (.seq (.seq (.reg [⟨(some 5), .mv (.t 1), none⟩])
 (.block 0 (.seq (.reg [⟨(some 7), .bin .eql (.t 5) (.c (.d (.int .u8 84))), none⟩,
 ⟨(some 6), .mv (.t 7), none⟩])
 (.cond (.t 6)
 (.seq (.reg [⟨(some 8), .mv (.t 0), none⟩,
 ⟨(some 9), .call 33 [(.t 8)], none⟩,
 ⟨(some 4), .mv (.t 9), none⟩])
 .ret)
 (.seq (.reg [⟨(some 11), .bin .eql (.t 5) (.c (.d (.int .u8 83))), none⟩,
 ⟨(some 10), .mv (.t 11), none⟩])
 (.cond (.t 10)
 (.seq (.reg [⟨(some 12), .mv (.t 0), none⟩,
 ⟨(some 13), .call 48 [(.t 12)], none⟩,
 ⟨(some 4), .mv (.t 13), none⟩])
 .ret)
 (.seq (.reg [⟨(some 15), .bin .eql (.t 5) (.c (.d (.int .u8 69))), none⟩,
 ⟨(some 14), .mv (.t 15), none⟩])
 (.cond (.t 14)
 (.seq (.reg [⟨(some 16), .mv (.t 0), none⟩,
 ⟨(some 17), .call 114 [(.t 16)], none⟩,
 ⟨(some 4), .mv (.t 17), none⟩])
 .ret)
 (.seq (.reg [⟨(some 19), .bin .eql (.t 5) (.c (.d (.int .u8 80))), none⟩,
 ⟨(some 18), .mv (.t 19), none⟩])
 (.cond (.t 18)
 (.seq (.reg [⟨(some 20), .mv (.t 0), none⟩,
 ⟨(some 21), .call 95 [(.t 20)], none⟩,
 ⟨(some 4), .mv (.t 21), none⟩])
 .ret)
 (.seq (.reg [⟨(some 23), .bin .eql (.t 5) (.c (.d (.int .u8 66))), none⟩,
 ⟨(some 22), .mv (.t 23), none⟩])
 (.cond (.t 22)
 (.seq (.reg [⟨(some 24), .mv (.t 0), none⟩,
 ⟨(some 25), .bin .eql (.t 24) (.c (.d (.int .i64 20))), none⟩,
 ⟨(some 4), .mv (.t 25), none⟩])
 .ret)
 (.seq (.reg [⟨(some 27), .bin .eql (.t 5) (.c (.d (.int .u8 73))), none⟩,
 ⟨(some 26), .mv (.t 27), none⟩])
 (.cond (.t 26)
 (.seq (.reg [⟨(some 28), .mv (.t 0), none⟩,
 ⟨(some 29), .bin .eql (.t 28) (.c (.d (.int .i64 2))), none⟩,
 ⟨(some 30), .mv (.t 29), none⟩,
 ⟨(some 31), .mv (.t 0), some (30, false)⟩,
 ⟨(some 32), .bin .eql (.t 31) (.c (.d (.int .i64 3))), some (30, false)⟩,
 ⟨(some 33), .pick (.t 30) (.c (.d (.bool true))) (.t 32), none⟩,
 ⟨(some 34), .mv (.t 33), none⟩,
 ⟨(some 35), .mv (.t 0), some (34, false)⟩,
 ⟨(some 36), .bin .eql (.t 35) (.c (.d (.int .i64 4))), some (34, false)⟩,
 ⟨(some 37), .pick (.t 34) (.c (.d (.bool true))) (.t 36), none⟩,
 ⟨(some 4), .mv (.t 37), none⟩])
 .ret)
 (.seq (.reg [⟨(some 39), .bin .eql (.t 5) (.c (.d (.int .u8 70))), none⟩,
 ⟨(some 38), .mv (.t 39), none⟩])
 (.cond (.t 38)
 (.seq (.reg [⟨(some 40), .mv (.t 0), none⟩,
 ⟨(some 41), .bin .eql (.t 40) (.c (.d (.int .i64 5))), none⟩,
 ⟨(some 4), .mv (.t 41), none⟩])
 .ret)
 (.seq (.reg [⟨(some 43), .bin .eql (.t 5) (.c (.d (.int .u8 86))), none⟩,
 ⟨(some 42), .mv (.t 43), none⟩])
 (.cond (.t 42)
 (.seq (.reg [⟨(some 44), .mv (.t 0), none⟩,
 ⟨(some 45), .bin .eql (.t 44) (.c (.d (.int .i64 6))), none⟩,
 ⟨(some 4), .mv (.t 45), none⟩])
 .ret)
 (.seq (.reg [⟨(some 47), .bin .eql (.t 5) (.c (.d (.int .u8 77))), none⟩,
 ⟨(some 46), .mv (.t 47), none⟩])
 (.cond (.t 46)
 (.seq (.reg [⟨(some 48), .mv (.t 0), none⟩,
 ⟨(some 49), .bin .eql (.t 48) (.c (.d (.int .i64 7))), none⟩,
 ⟨(some 4), .mv (.t 49), none⟩])
 .ret)
 (.seq (.reg [⟨(some 51), .bin .eql (.t 5) (.c (.d (.int .u8 65))), none⟩,
 ⟨(some 50), .mv (.t 51), none⟩])
 (.cond (.t 50)
 (.seq (.reg [⟨(some 52), .mv (.t 0), none⟩,
 ⟨(some 53), .bin .eql (.t 52) (.c (.d (.int .i64 47))), none⟩,
 ⟨(some 4), .mv (.t 53), none⟩])
 .ret)
 (.seq (.reg [⟨(some 55), .bin .eql (.t 5) (.c (.d (.int .u8 74))), none⟩,
 ⟨(some 54), .mv (.t 55), none⟩])
 (.cond (.t 54)
 (.seq (.reg [⟨(some 56), .mv (.t 0), none⟩,
 ⟨(some 57), .bin .eql (.t 56) (.c (.d (.int .i64 36))), none⟩,
 ⟨(some 4), .mv (.t 57), none⟩])
 .ret)
 .skip))))))))))))))))))))))))
 (.seq (.reg [⟨(some 58), .mv (.t 0), none⟩,
 ⟨(some 59), .bin .eql (.t 58) (.c (.d (.int .i64 20))), none⟩,
 ⟨(some 60), .mv (.t 59), none⟩,
 ⟨(some 61), .mv (.t 0), some (60, false)⟩,
 ⟨(some 62), .bin .eql (.t 61) (.c (.d (.int .i64 45))), some (60, false)⟩,
 ⟨(some 63), .pick (.t 60) (.c (.d (.bool true))) (.t 62), none⟩,
 ⟨(some 4), .mv (.t 63), none⟩])
 .ret)))
def F99 : VFn := ⟨2, 64, B99, [.tmp 4], false⟩

def A99 : Ann := ⟨keepOf [], ghostOf []⟩
-- 100 patina/patinaref13.kid
def B100 : VCode :=
 (.seq (.reg [⟨(some 3), .box (.t 0), none⟩,
 ⟨(some 4), .box (.t 1), none⟩,
 ⟨(some 6), .mv (.c (.d (.int .i64 0))), none⟩])
 (.seq (.draw 7 [⟨(some 7), .fadr 0 (.t 3), none⟩,
 ⟨(some 8), .ld none (.t 7), none⟩,
 ⟨(some 9), .fadr 3 (.t 4), none⟩,
 ⟨(some 10), .ld none (.t 9), none⟩,
 ⟨(some 11), .mv (.t 2), none⟩,
 ⟨(some 12), .iadr 1 (.t 10) (.t 11), none⟩,
 ⟨(some 13), .ld none (.t 12), none⟩,
 ⟨(some 14), .iadr 6 (.t 8) (.t 13), none⟩,
 ⟨(some 15), .fadr 0 (.t 14), none⟩,
 ⟨(some 16), .ld none (.t 15), none⟩,
 ⟨(some 6), .mv (.t 16), none⟩])
 .ret))
def F100 : VFn := ⟨3, 17, B100, [.tmp 6], false⟩

def A100 : Ann := ⟨keepOf [], ghostOf []⟩
-- 101 patina/lex.spelt
def K101_0 : List Nat := [0, 16, 17]
def L101_0 : VCode :=
 (.seq (.reg [⟨(some 18), .bin .lss (.t 17) (.t 16), none⟩])
 (.seq (.cond (.t 18)
 .skip
 (.exit 0))
 (.seq (.block 1 (.seq (.reg [⟨(some 19), .mv (.t 17), none⟩,
 ⟨(some 3), .mv (.t 19), none⟩])
 (.seq (.reg [⟨(some 20), .mv (.t 0), none⟩,
 ⟨(some 21), .mv (.t 3), none⟩,
 ⟨(some 22), .idx (.t 20) (.t 21), none⟩,
 ⟨(some 23), .call 116 [(.t 22)], none⟩,
 ⟨(some 24), .un .not (.t 23), none⟩,
 ⟨(some 25), .mv (.t 24), none⟩,
 ⟨(some 26), .mv (.t 0), some (25, true)⟩,
 ⟨(some 27), .mv (.t 3), some (25, true)⟩,
 ⟨(some 28), .idx (.t 26) (.t 27), some (25, true)⟩,
 ⟨(some 29), .call 115 [(.t 28)], some (25, true)⟩,
 ⟨(some 30), .un .not (.t 29), some (25, true)⟩,
 ⟨(some 31), .pick (.t 25) (.t 30) (.c (.d (.bool false))), none⟩])
 (.cond (.t 31)
 (.seq (.reg [⟨(some 2), .mv (.c (.d (.bool false))), none⟩])
 .ret)
 .skip))))
 (.reg [⟨(some 32), .bin .add (.t 17) (.c (.d (.int .i64 1))), none⟩,
 ⟨(some 17), .mv (.t 32), none⟩]))))
def B101 : VCode :=
 (.seq (.reg [⟨(some 2), .mv (.c (.d (.bool false))), none⟩])
 (.seq (.seq (.reg [⟨(some 4), .mv (.t 0), none⟩,
 ⟨(some 5), .bin .eql (.t 4) (.c (.d (.str []))), none⟩,
 ⟨(some 6), .mv (.t 5), none⟩,
 ⟨(some 7), .mv (.t 0), some (6, false)⟩,
 ⟨(some 8), .bin .eql (.t 7) (.c (.d (.str [95]))), some (6, false)⟩,
 ⟨(some 9), .pick (.t 6) (.c (.d (.bool true))) (.t 8), none⟩,
 ⟨(some 10), .mv (.t 9), none⟩,
 ⟨(some 11), .mv (.t 0), some (10, false)⟩,
 ⟨(some 12), .idx (.t 11) (.c (.d (.int .i64 0))), some (10, false)⟩,
 ⟨(some 13), .call 115 [(.t 12)], some (10, false)⟩,
 ⟨(some 14), .pick (.t 10) (.c (.d (.bool true))) (.t 13), none⟩])
 (.cond (.t 14)
 (.seq (.reg [⟨(some 2), .mv (.c (.d (.bool false))), none⟩])
 .ret)
 .skip))
 (.seq (.seq (.reg [⟨(some 15), .mv (.t 0), none⟩,
 ⟨(some 16), .len true (.t 15), none⟩,
 ⟨(some 17), .mv (.c (.d (.int .i64 0))), none⟩])
 (.block 0 (.loop K101_0 L101_0)))
 (.seq (.reg [⟨(some 2), .mv (.c (.d (.bool true))), none⟩])
 .ret))))
def F101 : VFn := ⟨1, 33, B101, [.tmp 2], false⟩

def A101 : Ann := ⟨keepOf [(4, [0, 16, 17])], ghostOf []⟩
-- 102 patina/lex.Word
def B102 : VCode :=
 (.seq (.reg [⟨(some 2), .mv (.c (.d (.bool false))), none⟩])
 (.seq (.seq (.reg [⟨(some 3), .mv (.t 0), none⟩])
 (.block 0 (.seq (.block 2 (.block 1 (.seq (.seq (.seq (.seq (.reg [⟨(some 5), .bin .eql (.t 3) (.c (.d (.str [102, 110]))), none⟩,
 ⟨(some 4), .mv (.t 5), none⟩])
 (.cond (.t 4)
 .skip
 (.seq (.reg [⟨(some 6), .bin .eql (.t 3) (.c (.d (.str [115, 116, 114, 117, 99, 116]))), none⟩,
 ⟨(some 4), .mv (.t 6), none⟩])
 (.cond (.t 4)
 .skip
 (.seq (.reg [⟨(some 7), .bin .eql (.t 3) (.c (.d (.str [101, 110, 117, 109]))), none⟩,
 ⟨(some 4), .mv (.t 7), none⟩])
 (.cond (.t 4)
 .skip
 (.seq (.reg [⟨(some 8), .bin .eql (.t 3) (.c (.d (.str [108, 101, 116]))), none⟩,
 ⟨(some 4), .mv (.t 8), none⟩])
 (.cond (.t 4)
 .skip
 (.seq (.reg [⟨(some 9), .bin .eql (.t 3) (.c (.d (.str [109, 117, 116]))), none⟩,
 ⟨(some 4), .mv (.t 9), none⟩])
 (.cond (.t 4)
 .skip
 (.seq (.reg [⟨(some 10), .bin .eql (.t 3) (.c (.d (.str [119, 104, 105, 108, 101]))), none⟩,
 ⟨(some 4), .mv (.t 10), none⟩])
 (.cond (.t 4)
 .skip
 (.seq (.reg [⟨(some 11), .bin .eql (.t 3) (.c (.d (.str [105, 102]))), none⟩,
 ⟨(some 4), .mv (.t 11), none⟩])
 (.cond (.t 4)
 .skip
 (.seq (.reg [⟨(some 12), .bin .eql (.t 3) (.c (.d (.str [101, 108, 115, 101]))), none⟩,
 ⟨(some 4), .mv (.t 12), none⟩])
 (.cond (.t 4)
 .skip
 (.reg [⟨(some 13), .bin .eql (.t 3) (.c (.d (.str [109, 97, 116, 99, 104]))), none⟩,
 ⟨(some 4), .mv (.t 13), none⟩])))))))))))))))))
 (.cond (.t 4)
 (.exit 1)
 .skip))
 (.seq (.seq (.reg [⟨(some 15), .bin .eql (.t 3) (.c (.d (.str [114, 101, 116, 117, 114, 110]))), none⟩,
 ⟨(some 14), .mv (.t 15), none⟩])
 (.cond (.t 14)
 .skip
 (.seq (.reg [⟨(some 16), .bin .eql (.t 3) (.c (.d (.str [98, 114, 101, 97, 107]))), none⟩,
 ⟨(some 14), .mv (.t 16), none⟩])
 (.cond (.t 14)
 .skip
 (.seq (.reg [⟨(some 17), .bin .eql (.t 3) (.c (.d (.str [99, 111, 110, 116, 105, 110, 117, 101]))), none⟩,
 ⟨(some 14), .mv (.t 17), none⟩])
 (.cond (.t 14)
 .skip
 (.seq (.reg [⟨(some 18), .bin .eql (.t 3) (.c (.d (.str [116, 114, 117, 101]))), none⟩,
 ⟨(some 14), .mv (.t 18), none⟩])
 (.cond (.t 14)
 .skip
 (.seq (.reg [⟨(some 19), .bin .eql (.t 3) (.c (.d (.str [102, 97, 108, 115, 101]))), none⟩,
 ⟨(some 14), .mv (.t 19), none⟩])
 (.cond (.t 14)
 .skip
 (.seq (.reg [⟨(some 20), .bin .eql (.t 3) (.c (.d (.str [105, 54, 52]))), none⟩,
 ⟨(some 14), .mv (.t 20), none⟩])
 (.cond (.t 14)
 .skip
 (.seq (.reg [⟨(some 21), .bin .eql (.t 3) (.c (.d (.str [98, 111, 111, 108]))), none⟩,
 ⟨(some 14), .mv (.t 21), none⟩])
 (.cond (.t 14)
 .skip
 (.reg [⟨(some 22), .bin .eql (.t 3) (.c (.d (.str [66, 111, 120]))), none⟩,
 ⟨(some 14), .mv (.t 22), none⟩])))))))))))))))
 (.cond (.t 14)
 (.exit 2)
 .skip)))
 (.exit 0))))
 (.seq (.seq (.reg [⟨(some 2), .mv (.c (.d (.bool true))), none⟩])
 .ret)
 (.exit 0)))))
 (.seq (.reg [⟨(some 2), .mv (.c (.d (.bool false))), none⟩])
 .ret)))
def F102 : VFn := ⟨1, 23, B102, [.tmp 2], false⟩

def A102 : Ann := ⟨keepOf [], ghostOf []⟩
-- 105 patina/tree.is
def B105 : VCode :=
 (.seq (.reg [⟨(some 4), .mv (.c (.d (.bool false))), none⟩])
 (.seq (.seq (.reg [⟨(some 5), .mv (.t 0), none⟩])
 (.block 0 (.seq (.reg [⟨(some 7), .bin .eql (.t 5) (.c (.d (.int .u8 105))), none⟩,
 ⟨(some 6), .mv (.t 7), none⟩])
 (.cond (.t 6)
 (.seq (.reg [⟨(some 8), .mv (.t 1), none⟩,
 ⟨(some 9), .bin .eql (.t 8) (.c (.d (.int .i64 2))), none⟩,
 ⟨(some 10), .mv (.t 9), none⟩,
 ⟨(some 11), .mv (.t 1), some (10, false)⟩,
 ⟨(some 12), .bin .eql (.t 11) (.c (.d (.int .i64 3))), some (10, false)⟩,
 ⟨(some 13), .pick (.t 10) (.c (.d (.bool true))) (.t 12), none⟩,
 ⟨(some 14), .mv (.t 13), none⟩,
 ⟨(some 15), .mv (.t 1), some (14, false)⟩,
 ⟨(some 16), .bin .eql (.t 15) (.c (.d (.int .i64 4))), some (14, false)⟩,
 ⟨(some 17), .pick (.t 14) (.c (.d (.bool true))) (.t 16), none⟩,
 ⟨(some 4), .mv (.t 17), none⟩])
 .ret)
 (.seq (.reg [⟨(some 19), .bin .eql (.t 5) (.c (.d (.int .u8 116))), none⟩,
 ⟨(some 18), .mv (.t 19), none⟩])
 (.cond (.t 18)
 (.seq (.reg [⟨(some 20), .mv (.t 1), none⟩,
 ⟨(some 21), .call 31 [(.t 20)], none⟩,
 ⟨(some 4), .mv (.t 21), none⟩])
 .ret)
 (.seq (.reg [⟨(some 23), .bin .eql (.t 5) (.c (.d (.int .u8 115))), none⟩,
 ⟨(some 22), .mv (.t 23), none⟩])
 (.cond (.t 22)
 (.seq (.reg [⟨(some 24), .mv (.t 1), none⟩,
 ⟨(some 25), .call 38 [(.t 24)], none⟩,
 ⟨(some 4), .mv (.t 25), none⟩])
 .ret)
 (.seq (.reg [⟨(some 27), .bin .eql (.t 5) (.c (.d (.int .u8 101))), none⟩,
 ⟨(some 26), .mv (.t 27), none⟩])
 (.cond (.t 26)
 (.seq (.reg [⟨(some 28), .mv (.t 1), none⟩,
 ⟨(some 29), .call 82 [(.t 28)], none⟩,
 ⟨(some 4), .mv (.t 29), none⟩])
 .ret)
 (.seq (.reg [⟨(some 31), .bin .eql (.t 5) (.c (.d (.int .u8 112))), none⟩,
 ⟨(some 30), .mv (.t 31), none⟩])
 (.cond (.t 30)
 (.seq (.reg [⟨(some 32), .mv (.t 1), none⟩,
 ⟨(some 33), .call 81 [(.t 32)], none⟩,
 ⟨(some 4), .mv (.t 33), none⟩])
 .ret)
 (.seq (.reg [⟨(some 35), .bin .eql (.t 5) (.c (.d (.int .u8 98))), none⟩,
 ⟨(some 34), .mv (.t 35), none⟩])
 (.cond (.t 34)
 (.seq (.reg [⟨(some 36), .mv (.t 1), none⟩,
 ⟨(some 37), .bin .eql (.t 36) (.c (.d (.int .i64 20))), none⟩,
 ⟨(some 4), .mv (.t 37), none⟩])
 .ret)
 (.seq (.reg [⟨(some 39), .bin .eql (.t 5) (.c (.d (.int .u8 102))), none⟩,
 ⟨(some 38), .mv (.t 39), none⟩])
 (.cond (.t 38)
 (.seq (.reg [⟨(some 40), .mv (.t 1), none⟩,
 ⟨(some 41), .bin .eql (.t 40) (.c (.d (.int .i64 5))), none⟩,
 ⟨(some 4), .mv (.t 41), none⟩])
 .ret)
 (.seq (.reg [⟨(some 43), .bin .eql (.t 5) (.c (.d (.int .u8 118))), none⟩,
 ⟨(some 42), .mv (.t 43), none⟩])
 (.cond (.t 42)
 (.seq (.reg [⟨(some 44), .mv (.t 1), none⟩,
 ⟨(some 45), .bin .eql (.t 44) (.c (.d (.int .i64 6))), none⟩,
 ⟨(some 4), .mv (.t 45), none⟩])
 .ret)
 (.seq (.reg [⟨(some 47), .bin .eql (.t 5) (.c (.d (.int .u8 110))), none⟩,
 ⟨(some 46), .mv (.t 47), none⟩])
 (.cond (.t 46)
 (.seq (.reg [⟨(some 48), .mv (.t 1), none⟩,
 ⟨(some 49), .bin .eql (.t 48) (.c (.d (.int .i64 36))), none⟩,
 ⟨(some 4), .mv (.t 49), none⟩])
 .ret)
 (.seq (.reg [⟨(some 51), .bin .eql (.t 5) (.c (.d (.int .u8 97))), none⟩,
 ⟨(some 50), .mv (.t 51), none⟩])
 (.cond (.t 50)
 (.seq (.reg [⟨(some 52), .mv (.t 1), none⟩,
 ⟨(some 53), .bin .eql (.t 52) (.c (.d (.int .i64 47))), none⟩,
 ⟨(some 4), .mv (.t 53), none⟩])
 .ret)
 (.seq (.reg [⟨(some 55), .bin .eql (.t 5) (.c (.d (.int .u8 113))), none⟩,
 ⟨(some 54), .mv (.t 55), none⟩])
 (.cond (.t 54)
 (.seq (.reg [⟨(some 56), .mv (.t 1), none⟩,
 ⟨(some 57), .bin .eql (.t 56) (.c (.d (.int .i64 7))), none⟩,
 ⟨(some 4), .mv (.t 57), none⟩])
 .ret)
 (.seq (.reg [⟨(some 59), .bin .eql (.t 5) (.c (.d (.int .u8 111))), none⟩,
 ⟨(some 58), .mv (.t 59), none⟩])
 (.cond (.t 58)
 (.seq (.reg [⟨(some 60), .mv (.t 1), none⟩,
 ⟨(some 61), .bin .eql (.t 60) (.c (.d (.int .i64 20))), none⟩,
 ⟨(some 62), .mv (.t 61), none⟩,
 ⟨(some 63), .mv (.t 1), some (62, false)⟩,
 ⟨(some 64), .bin .eql (.t 63) (.c (.d (.int .i64 45))), some (62, false)⟩,
 ⟨(some 65), .pick (.t 62) (.c (.d (.bool true))) (.t 64), none⟩,
 ⟨(some 4), .mv (.t 65), none⟩])
 .ret)
 .skip))))))))))))))))))))))))))
 (.seq (.reg [⟨(some 4), .mv (.c (.d (.bool false))), none⟩])
 .ret)))
def F105 : VFn := ⟨2, 66, B105, [.tmp 4], false⟩

def A105 : Ann := ⟨keepOf [], ghostOf []⟩
-- 106 slices.ContainsFunc[[]int,int]
def B106 : VCode :=
 (.seq (.reg [⟨(some 4), .mv (.c (.d (.bool false))), none⟩])
 (.seq (.reg [⟨(some 5), .mv (.t 0), none⟩,
 ⟨(some 6), .mv (.t 1), none⟩,
 ⟨(some 7), .call 119 [(.t 5), (.t 6)], none⟩,
 ⟨(some 8), .bin .geq (.t 7) (.c (.d (.int .i64 0))), none⟩,
 ⟨(some 4), .mv (.t 8), none⟩])
 .ret))
def F106 : VFn := ⟨2, 9, B106, [.tmp 4], false⟩

def A106 : Ann := ⟨keepOf [], ghostOf []⟩
-- 107 patina/tree.all$1
def B107 : VCode :=
 (.seq (.reg [⟨(some 3), .mv (.c (.d (.bool false))), none⟩])
 (.seq (.reg [⟨(some 4), .ld none (.t 1), none⟩,
 ⟨(some 5), .mv (.t 0), none⟩,
 ⟨(some 6), .call 105 [(.t 4), (.t 5)], none⟩,
 ⟨(some 7), .un .not (.t 6), none⟩,
 ⟨(some 3), .mv (.t 7), none⟩])
 .ret))
def F107 : VFn := ⟨2, 8, B107, [.tmp 3], false⟩

def A107 : Ann := ⟨keepOf [], ghostOf []⟩
-- 112 patina/patinaref11.spelt
def K112_0 : List Nat := [0, 3]
def L112_0 : VCode :=
 (.seq (.seq (.reg [⟨(some 16), .mv (.t 3), none⟩,
 ⟨(some 17), .mv (.t 0), none⟩,
 ⟨(some 18), .len true (.t 17), none⟩,
 ⟨(some 19), .bin .lss (.t 16) (.t 18), none⟩])
 (.cond (.t 19)
 .skip
 (.exit 0)))
 (.seq (.block 1 (.seq (.reg [⟨(some 22), .mv (.t 0), none⟩,
 ⟨(some 23), .mv (.t 3), none⟩,
 ⟨(some 24), .idx (.t 22) (.t 23), none⟩,
 ⟨(some 25), .call 125 [(.t 24)], none⟩,
 ⟨(some 26), .un .not (.t 25), none⟩,
 ⟨(some 27), .mv (.t 26), none⟩,
 ⟨(some 28), .mv (.t 0), some (27, true)⟩,
 ⟨(some 29), .mv (.t 3), some (27, true)⟩,
 ⟨(some 30), .idx (.t 28) (.t 29), some (27, true)⟩,
 ⟨(some 31), .call 126 [(.t 30)], some (27, true)⟩,
 ⟨(some 32), .un .not (.t 31), some (27, true)⟩,
 ⟨(some 33), .pick (.t 27) (.t 32) (.c (.d (.bool false))), none⟩])
 (.cond (.t 33)
 (.seq (.reg [⟨(some 2), .mv (.c (.d (.bool false))), none⟩])
 .ret)
 .skip)))
 (.reg [⟨(some 20), .mv (.t 3), none⟩,
 ⟨(some 21), .bin .add (.t 20) (.c (.d (.int .i64 1))), none⟩,
 ⟨(some 3), .mv (.t 21), none⟩])))
def B112 : VCode :=
 (.seq (.reg [⟨(some 2), .mv (.c (.d (.bool false))), none⟩])
 (.seq (.seq (.reg [⟨(some 4), .mv (.t 0), none⟩,
 ⟨(some 5), .bin .eql (.t 4) (.c (.d (.str []))), none⟩,
 ⟨(some 6), .mv (.t 5), none⟩,
 ⟨(some 7), .mv (.t 0), some (6, false)⟩,
 ⟨(some 8), .bin .eql (.t 7) (.c (.d (.str [95]))), some (6, false)⟩,
 ⟨(some 9), .pick (.t 6) (.c (.d (.bool true))) (.t 8), none⟩,
 ⟨(some 10), .mv (.t 9), none⟩,
 ⟨(some 11), .mv (.t 0), some (10, false)⟩,
 ⟨(some 12), .idx (.t 11) (.c (.d (.int .i64 0))), some (10, false)⟩,
 ⟨(some 13), .call 125 [(.t 12)], some (10, false)⟩,
 ⟨(some 14), .un .not (.t 13), some (10, false)⟩,
 ⟨(some 15), .pick (.t 10) (.c (.d (.bool true))) (.t 14), none⟩])
 (.cond (.t 15)
 (.seq (.reg [⟨(some 2), .mv (.c (.d (.bool false))), none⟩])
 .ret)
 .skip))
 (.seq (.seq (.reg [⟨(some 3), .mv (.c (.d (.int .i64 0))), none⟩])
 (.block 0 (.loop K112_0 L112_0)))
 (.seq (.reg [⟨(some 2), .mv (.c (.d (.bool true))), none⟩])
 .ret))))
def F112 : VFn := ⟨1, 34, B112, [.tmp 2], false⟩

def A112 : Ann := ⟨keepOf [(4, [0, 3])], ghostOf []⟩
-- 113 patina/patinaref11.Word
def K113_0 : List Nat := [0, 5, 6, 7]
def L113_0 : VCode :=
 (.seq (.reg [⟨(some 8), .bin .lss (.t 7) (.t 6), none⟩])
 (.seq (.cond (.t 8)
 .skip
 (.exit 0))
 (.seq (.block 1 (.seq (.reg [⟨(some 9), .iadr 1 (.t 5) (.t 7), none⟩,
 ⟨(some 10), .ld none (.t 9), none⟩,
 ⟨(some 4), .mv (.t 10), none⟩])
 (.seq (.reg [⟨(some 11), .mv (.t 0), none⟩,
 ⟨(some 12), .mv (.t 4), none⟩,
 ⟨(some 13), .bin .eql (.t 11) (.t 12), none⟩])
 (.cond (.t 13)
 (.seq (.reg [⟨(some 2), .mv (.c (.d (.bool true))), none⟩])
 .ret)
 .skip))))
 (.reg [⟨(some 14), .bin .add (.t 7) (.c (.d (.int .i64 1))), none⟩,
 ⟨(some 7), .mv (.t 14), none⟩]))))
def B113 : VCode :=
 (.seq (.reg [⟨(some 2), .mv (.c (.d (.bool false))), none⟩])
 (.seq (.seq (.reg [⟨(some 5), .bslice 1 17 [(.c (.d (.str [102, 110]))), (.c (.d (.str [115, 116, 114, 117, 99, 116]))), (.c (.d (.str [101, 110, 117, 109]))), (.c (.d (.str [108, 101, 116]))), (.c (.d (.str [109, 117, 116]))), (.c (.d (.str [119, 104, 105, 108, 101]))), (.c (.d (.str [105, 102]))), (.c (.d (.str [101, 108, 115, 101]))), (.c (.d (.str [109, 97, 116, 99, 104]))), (.c (.d (.str [114, 101, 116, 117, 114, 110]))), (.c (.d (.str [98, 114, 101, 97, 107]))), (.c (.d (.str [99, 111, 110, 116, 105, 110, 117, 101]))), (.c (.d (.str [116, 114, 117, 101]))), (.c (.d (.str [102, 97, 108, 115, 101]))), (.c (.d (.str [105, 54, 52]))), (.c (.d (.str [98, 111, 111, 108]))), (.c (.d (.str [66, 111, 120])))], none⟩,
 ⟨(some 6), .len false (.t 5), none⟩,
 ⟨(some 7), .mv (.c (.d (.int .i64 0))), none⟩])
 (.block 0 (.loop K113_0 L113_0)))
 (.seq (.reg [⟨(some 2), .mv (.c (.d (.bool false))), none⟩])
 .ret)))
def F113 : VFn := ⟨1, 15, B113, [.tmp 2], false⟩

def A113 : Ann := ⟨keepOf [(2, [0, 5, 6, 7])], ghostOf []⟩
-- 114 patina/patinaref13.IsExpr
def B114 : VCode :=
 (.seq (.reg [⟨(some 2), .mv (.c (.d (.bool false))), none⟩])
 (.seq (.reg [⟨(some 3), .mv (.t 0), none⟩,
 ⟨(some 4), .bin .eql (.t 3) (.c (.d (.int .i64 20))), none⟩,
 ⟨(some 5), .mv (.t 4), none⟩,
 ⟨(some 6), .mv (.t 0), some (5, false)⟩,
 ⟨(some 7), .bin .geq (.t 6) (.c (.d (.int .i64 30))), some (5, false)⟩,
 ⟨(some 8), .mv (.t 7), some (5, false)⟩,
 ⟨(some 9), .mv (.t 0), some (8, true)⟩,
 ⟨(some 10), .bin .leq (.t 9) (.c (.d (.int .i64 46))), some (8, true)⟩,
 ⟨(some 11), .pick (.t 8) (.t 10) (.c (.d (.bool false))), some (5, false)⟩,
 ⟨(some 12), .mv (.t 11), some (5, false)⟩,
 ⟨(some 13), .mv (.t 0), some (12, true)⟩,
 ⟨(some 14), .bin .neq (.t 13) (.c (.d (.int .i64 36))), some (12, true)⟩,
 ⟨(some 15), .pick (.t 12) (.t 14) (.c (.d (.bool false))), some (5, false)⟩,
 ⟨(some 16), .pick (.t 5) (.c (.d (.bool true))) (.t 15), none⟩,
 ⟨(some 2), .mv (.t 16), none⟩])
 .ret))
def F114 : VFn := ⟨1, 17, B114, [.tmp 2], false⟩

def A114 : Ann := ⟨keepOf [], ghostOf []⟩
-- 115 patina/lex.digit
def B115 : VCode :=
 (.seq (.reg [⟨(some 2), .mv (.c (.d (.bool false))), none⟩])
 (.seq (.seq (.reg [⟨(some 3), .mv (.t 0), none⟩])
 (.block 0 (.seq (.block 2 (.block 1 (.seq (.seq (.seq (.seq (.reg [⟨(some 5), .bin .eql (.t 3) (.c (.d (.int .u8 48))), none⟩,
 ⟨(some 4), .mv (.t 5), none⟩])
 (.cond (.t 4)
 .skip
 (.seq (.reg [⟨(some 6), .bin .eql (.t 3) (.c (.d (.int .u8 49))), none⟩,
 ⟨(some 4), .mv (.t 6), none⟩])
 (.cond (.t 4)
 .skip
 (.seq (.reg [⟨(some 7), .bin .eql (.t 3) (.c (.d (.int .u8 50))), none⟩,
 ⟨(some 4), .mv (.t 7), none⟩])
 (.cond (.t 4)
 .skip
 (.seq (.reg [⟨(some 8), .bin .eql (.t 3) (.c (.d (.int .u8 51))), none⟩,
 ⟨(some 4), .mv (.t 8), none⟩])
 (.cond (.t 4)
 .skip
 (.reg [⟨(some 9), .bin .eql (.t 3) (.c (.d (.int .u8 52))), none⟩,
 ⟨(some 4), .mv (.t 9), none⟩])))))))))
 (.cond (.t 4)
 (.exit 1)
 .skip))
 (.seq (.seq (.reg [⟨(some 11), .bin .eql (.t 3) (.c (.d (.int .u8 53))), none⟩,
 ⟨(some 10), .mv (.t 11), none⟩])
 (.cond (.t 10)
 .skip
 (.seq (.reg [⟨(some 12), .bin .eql (.t 3) (.c (.d (.int .u8 54))), none⟩,
 ⟨(some 10), .mv (.t 12), none⟩])
 (.cond (.t 10)
 .skip
 (.seq (.reg [⟨(some 13), .bin .eql (.t 3) (.c (.d (.int .u8 55))), none⟩,
 ⟨(some 10), .mv (.t 13), none⟩])
 (.cond (.t 10)
 .skip
 (.seq (.reg [⟨(some 14), .bin .eql (.t 3) (.c (.d (.int .u8 56))), none⟩,
 ⟨(some 10), .mv (.t 14), none⟩])
 (.cond (.t 10)
 .skip
 (.reg [⟨(some 15), .bin .eql (.t 3) (.c (.d (.int .u8 57))), none⟩,
 ⟨(some 10), .mv (.t 15), none⟩])))))))))
 (.cond (.t 10)
 (.exit 2)
 .skip)))
 (.exit 0))))
 (.seq (.seq (.reg [⟨(some 2), .mv (.c (.d (.bool true))), none⟩])
 .ret)
 (.exit 0)))))
 (.seq (.reg [⟨(some 2), .mv (.c (.d (.bool false))), none⟩])
 .ret)))
def F115 : VFn := ⟨1, 16, B115, [.tmp 2], false⟩

def A115 : Ann := ⟨keepOf [], ghostOf []⟩
-- 116 patina/lex.letter
def B116 : VCode :=
 (.seq (.reg [⟨(some 2), .mv (.c (.d (.bool false))), none⟩])
 (.seq (.reg [⟨(some 3), .mv (.t 0), none⟩,
 ⟨(some 4), .bin .geq (.t 3) (.c (.d (.int .u8 97))), none⟩,
 ⟨(some 5), .mv (.t 4), none⟩,
 ⟨(some 6), .mv (.t 0), some (5, true)⟩,
 ⟨(some 7), .bin .leq (.t 6) (.c (.d (.int .u8 122))), some (5, true)⟩,
 ⟨(some 8), .pick (.t 5) (.t 7) (.c (.d (.bool false))), none⟩,
 ⟨(some 9), .mv (.t 8), none⟩,
 ⟨(some 10), .mv (.t 0), some (9, false)⟩,
 ⟨(some 11), .bin .geq (.t 10) (.c (.d (.int .u8 65))), some (9, false)⟩,
 ⟨(some 12), .mv (.t 11), some (9, false)⟩,
 ⟨(some 13), .mv (.t 0), some (12, true)⟩,
 ⟨(some 14), .bin .leq (.t 13) (.c (.d (.int .u8 90))), some (12, true)⟩,
 ⟨(some 15), .pick (.t 12) (.t 14) (.c (.d (.bool false))), some (9, false)⟩,
 ⟨(some 16), .pick (.t 9) (.c (.d (.bool true))) (.t 15), none⟩,
 ⟨(some 17), .mv (.t 16), none⟩,
 ⟨(some 18), .mv (.t 0), some (17, false)⟩,
 ⟨(some 19), .bin .eql (.t 18) (.c (.d (.int .u8 95))), some (17, false)⟩,
 ⟨(some 20), .pick (.t 17) (.c (.d (.bool true))) (.t 19), none⟩,
 ⟨(some 2), .mv (.t 20), none⟩])
 .ret))
def F116 : VFn := ⟨1, 21, B116, [.tmp 2], false⟩

def A116 : Ann := ⟨keepOf [], ghostOf []⟩
-- 119 slices.IndexFunc[[]int,int]
def K119_0 : List Nat := [0, 1, 7, 8]
def L119_0 : VCode :=
 (.seq (.reg [⟨(some 9), .bin .lss (.t 8) (.t 7), none⟩])
 (.seq (.cond (.t 9)
 .skip
 (.exit 0))
 (.seq (.block 1 (.seq (.reg [⟨(some 10), .mv (.t 8), none⟩,
 ⟨(some 5), .mv (.t 10), none⟩])
 (.seq (.reg [⟨(some 11), .mv (.t 1), none⟩,
 ⟨(some 12), .mv (.t 0), none⟩,
 ⟨(some 13), .mv (.t 5), none⟩,
 ⟨(some 14), .iadr 1 (.t 12) (.t 13), none⟩,
 ⟨(some 15), .ld none (.t 14), none⟩,
 ⟨(some 16), .callv (.t 11) [(.t 15)], none⟩])
 (.cond (.t 16)
 (.seq (.reg [⟨(some 17), .mv (.t 5), none⟩,
 ⟨(some 4), .mv (.t 17), none⟩])
 .ret)
 .skip))))
 (.reg [⟨(some 18), .bin .add (.t 8) (.c (.d (.int .i64 1))), none⟩,
 ⟨(some 8), .mv (.t 18), none⟩]))))
def B119 : VCode :=
 (.seq (.reg [⟨(some 4), .mv (.c (.d (.int .i64 0))), none⟩])
 (.seq (.seq (.reg [⟨(some 6), .mv (.t 0), none⟩,
 ⟨(some 7), .len false (.t 6), none⟩,
 ⟨(some 8), .mv (.c (.d (.int .i64 0))), none⟩])
 (.block 0 (.loop K119_0 L119_0)))
 (.seq (.reg [⟨(some 4), .mv (.c (.d (.int .i64 (-1)))), none⟩])
 .ret)))
def F119 : VFn := ⟨2, 19, B119, [.tmp 4], false⟩

def A119 : Ann := ⟨keepOf [(2, [0, 1, 7, 8])], ghostOf []⟩
-- 125 patina/patinaref11.letter
def B125 : VCode :=
 (.seq (.reg [⟨(some 2), .mv (.c (.d (.bool false))), none⟩])
 (.seq (.reg [⟨(some 3), .mv (.t 0), none⟩,
 ⟨(some 4), .bin .geq (.t 3) (.c (.d (.int .u8 65))), none⟩,
 ⟨(some 5), .mv (.t 4), none⟩,
 ⟨(some 6), .mv (.t 0), some (5, true)⟩,
 ⟨(some 7), .bin .leq (.t 6) (.c (.d (.int .u8 90))), some (5, true)⟩,
 ⟨(some 8), .pick (.t 5) (.t 7) (.c (.d (.bool false))), none⟩,
 ⟨(some 9), .mv (.t 8), none⟩,
 ⟨(some 10), .mv (.t 0), some (9, false)⟩,
 ⟨(some 11), .bin .geq (.t 10) (.c (.d (.int .u8 97))), some (9, false)⟩,
 ⟨(some 12), .mv (.t 11), some (9, false)⟩,
 ⟨(some 13), .mv (.t 0), some (12, true)⟩,
 ⟨(some 14), .bin .leq (.t 13) (.c (.d (.int .u8 122))), some (12, true)⟩,
 ⟨(some 15), .pick (.t 12) (.t 14) (.c (.d (.bool false))), some (9, false)⟩,
 ⟨(some 16), .pick (.t 9) (.c (.d (.bool true))) (.t 15), none⟩,
 ⟨(some 17), .mv (.t 16), none⟩,
 ⟨(some 18), .mv (.t 0), some (17, false)⟩,
 ⟨(some 19), .bin .eql (.t 18) (.c (.d (.int .u8 95))), some (17, false)⟩,
 ⟨(some 20), .pick (.t 17) (.c (.d (.bool true))) (.t 19), none⟩,
 ⟨(some 2), .mv (.t 20), none⟩])
 .ret))
def F125 : VFn := ⟨1, 21, B125, [.tmp 2], false⟩

def A125 : Ann := ⟨keepOf [], ghostOf []⟩
-- 126 patina/patinaref11.digit
def B126 : VCode :=
 (.seq (.reg [⟨(some 2), .mv (.c (.d (.bool false))), none⟩])
 (.seq (.reg [⟨(some 3), .mv (.t 0), none⟩,
 ⟨(some 4), .bin .geq (.t 3) (.c (.d (.int .u8 48))), none⟩,
 ⟨(some 5), .mv (.t 4), none⟩,
 ⟨(some 6), .mv (.t 0), some (5, true)⟩,
 ⟨(some 7), .bin .leq (.t 6) (.c (.d (.int .u8 57))), some (5, true)⟩,
 ⟨(some 8), .pick (.t 5) (.t 7) (.c (.d (.bool false))), none⟩,
 ⟨(some 2), .mv (.t 8), none⟩])
 .ret))
def F126 : VFn := ⟨1, 9, B126, [.tmp 2], false⟩

def A126 : Ann := ⟨keepOf [], ghostOf []⟩
def tbl : Nat → Option VFun
 | 4 => some (.code F4)
 | 6 => some (.code F6)
 | 8 => some (.code F8)
 | 10 => some (.code F10)
 | 11 => some (.code F11)
 | 12 => some (.code F12)
 | 13 => some (.code F13)
 | 14 => some (.code F14)
 | 15 => some (.code F15)
 | 21 => some (.code F21)
 | 23 => some (.code F23)
 | 25 => some (.code F25)
 | 26 => some (.code F26)
 | 27 => some (.code F27)
 | 28 => some (.code F28)
 | 29 => some (.code F29)
 | 30 => some (.code F30)
 | 31 => some (.code F31)
 | 33 => some (.code F33)
 | 35 => some (.code F35)
 | 36 => some (.code F36)
 | 37 => some (.code F37)
 | 38 => some (.code F38)
 | 39 => some (.code F39)
 | 40 => some (.code F40)
 | 41 => some (.code F41)
 | 45 => some (.code F45)
 | 48 => some (.code F48)
 | 57 => some (.code F57)
 | 58 => some (.code F58)
 | 59 => some (.code F59)
 | 60 => some (.code F60)
 | 61 => some (.code F61)
 | 62 => some (.code F62)
 | 63 => some (.code F63)
 | 64 => some (.code F64)
 | 65 => some (.code F65)
 | 66 => some (.code F66)
 | 67 => some (.code F67)
 | 68 => some (.code F68)
 | 70 => some (.code F70)
 | 71 => some (.code F71)
 | 74 => some (.code F74)
 | 75 => some (.code F75)
 | 76 => some (.code F76)
 | 77 => some (.code F77)
 | 78 => some (.code F78)
 | 81 => some (.code F81)
 | 82 => some (.code F82)
 | 83 => some (.code F83)
 | 85 => some (.code F85)
 | 86 => some (.code F86)
 | 88 => some (.code F88)
 | 89 => some (.code F89)
 | 90 => some (.code F90)
 | 92 => some (.code F92)
 | 95 => some (.code F95)
 | 96 => some (.code F96)
 | 97 => some (.code F97)
 | 98 => some (.code F98)
 | 99 => some (.code F99)
 | 100 => some (.code F100)
 | 101 => some (.code F101)
 | 102 => some (.code F102)
 | 105 => some (.code F105)
 | 106 => some (.code F106)
 | 107 => some (.code F107)
 | 112 => some (.code F112)
 | 113 => some (.code F113)
 | 114 => some (.code F114)
 | 115 => some (.code F115)
 | 116 => some (.code F116)
 | 119 => some (.code F119)
 | 125 => some (.code F125)
 | 126 => some (.code F126)
 | 22 => some (.prim primJoin)
 | 69 => some (.prim primFmt)
 | 84 => some (.prim primCut)
 | 87 => some (.prim primIndexByte)
 | _ => none
abbrev n_law13_TreeUps : Nat := 4
theorem t_law13_TreeUps : tbl 4 = some (.code F4) := rfl
abbrev n_tree_Print : Nat := 6
theorem t_tree_Print : tbl 6 = some (.code F6) := rfl
abbrev n_tree_Check : Nat := 8
theorem t_tree_Check : tbl 8 = some (.code F8) := rfl
abbrev n_law13_small : Nat := 10
theorem t_law13_small : tbl 10 = some (.code F10) := rfl
abbrev n_tree_Parents : Nat := 11
theorem t_tree_Parents : tbl 11 = some (.code F11) := rfl
abbrev n_ref13_Parents : Nat := 12
theorem t_ref13_Parents : tbl 12 = some (.code F12) := rfl
abbrev n_tree_Depth : Nat := 13
theorem t_tree_Depth : tbl 13 = some (.code F13) := rfl
abbrev n_ref13_Depth : Nat := 14
theorem t_ref13_Depth : tbl 14 = some (.code F14) := rfl
abbrev n_plain_Ints : Nat := 15
theorem t_plain_Ints : tbl 15 = some (.code F15) := rfl
abbrev n_tree_printer_node : Nat := 21
theorem t_tree_printer_node : tbl 21 = some (.code F21) := rfl
abbrev n_ref13_Right : Nat := 23
theorem t_ref13_Right : tbl 23 = some (.code F23) := rfl
abbrev n_tree_node : Nat := 25
theorem t_tree_node : tbl 25 = some (.code F25) := rfl
abbrev n_tree_parents : Nat := 26
theorem t_tree_parents : tbl 26 = some (.code F26) := rfl
abbrev n_slices_Max_int_int : Nat := 27
theorem t_slices_Max_int_int : tbl 27 = some (.code F27) := rfl
abbrev n_tree_depths : Nat := 28
theorem t_tree_depths : tbl 28 = some (.code F28) := rfl
abbrev n_ref13_parents : Nat := 29
theorem t_ref13_parents : tbl 29 = some (.code F29) := rfl
abbrev n_ref13_deep : Nat := 30
theorem t_ref13_deep : tbl 30 = some (.code F30) := rfl
abbrev n_tree_isType : Nat := 31
theorem t_tree_isType : tbl 31 = some (.code F31) := rfl
abbrev n_ref13_IsType : Nat := 33
theorem t_ref13_IsType : tbl 33 = some (.code F33) := rfl
abbrev n_tree_printer_block : Nat := 35
theorem t_tree_printer_block : tbl 35 = some (.code F35) := rfl
abbrev n_tree_printer_item : Nat := 36
theorem t_tree_printer_item : tbl 36 = some (.code F36) := rfl
abbrev n_tree_printer_typ : Nat := 37
theorem t_tree_printer_typ : tbl 37 = some (.code F37) := rfl
abbrev n_tree_isStmt : Nat := 38
theorem t_tree_isStmt : tbl 38 = some (.code F38) := rfl
abbrev n_tree_printer_stmt : Nat := 39
theorem t_tree_printer_stmt : tbl 39 = some (.code F39) := rfl
abbrev n_tree_printer_expr : Nat := 40
theorem t_tree_printer_expr : tbl 40 = some (.code F40) := rfl
abbrev n_tree_printer_primary : Nat := 41
theorem t_tree_printer_primary : tbl 41 = some (.code F41) := rfl
abbrev n_ref13_node : Nat := 45
theorem t_ref13_node : tbl 45 = some (.code F45) := rfl
abbrev n_ref13_IsStmt : Nat := 48
theorem t_ref13_IsStmt : tbl 48 = some (.code F48) := rfl
abbrev n_tree_known : Nat := 57
theorem t_tree_known : tbl 57 = some (.code F57) := rfl
abbrev n_tree_name : Nat := 58
theorem t_tree_name : tbl 58 = some (.code F58) := rfl
abbrev n_tree_num : Nat := 59
theorem t_tree_num : tbl 59 = some (.code F59) := rfl
abbrev n_tree_fits : Nat := 60
theorem t_tree_fits : tbl 60 = some (.code F60) := rfl
abbrev n_slices_Contains_int_int : Nat := 61
theorem t_slices_Contains_int_int : tbl 61 = some (.code F61) := rfl
abbrev n_tree_printer_put : Nat := 62
theorem t_tree_printer_put : tbl 62 = some (.code F62) := rfl
abbrev n_tree_printer_function : Nat := 63
theorem t_tree_printer_function : tbl 63 = some (.code F63) := rfl
abbrev n_tree_printer_list : Nat := 64
theorem t_tree_printer_list : tbl 64 = some (.code F64) := rfl
abbrev n_tree_printer_perhaps : Nat := 65
theorem t_tree_printer_perhaps : tbl 65 = some (.code F65) := rfl
abbrev n_tree_printer_let : Nat := 66
theorem t_tree_printer_let : tbl 66 = some (.code F66) := rfl
abbrev n_tree_printer_operand : Nat := 67
theorem t_tree_printer_operand : tbl 67 = some (.code F67) := rfl
abbrev n_tree_printer_ahead : Nat := 68
theorem t_tree_printer_ahead : tbl 68 = some (.code F68) := rfl
abbrev n_strconv_FormatBool : Nat := 70
theorem t_strconv_FormatBool : tbl 70 = some (.code F70) := rfl
abbrev n_tree_printer_named : Nat := 71
theorem t_tree_printer_named : tbl 71 = some (.code F71) := rfl
abbrev n_ref13_known : Nat := 74
theorem t_ref13_known : tbl 74 = some (.code F74) := rfl
abbrev n_ref13_named : Nat := 75
theorem t_ref13_named : tbl 75 = some (.code F75) := rfl
abbrev n_ref13_counted : Nat := 76
theorem t_ref13_counted : tbl 76 = some (.code F76) := rfl
abbrev n_ref13_forms : Nat := 77
theorem t_ref13_forms : tbl 77 = some (.code F77) := rfl
abbrev n_ref13_fits : Nat := 78
theorem t_ref13_fits : tbl 78 = some (.code F78) := rfl
abbrev n_tree_isPattern : Nat := 81
theorem t_tree_isPattern : tbl 81 = some (.code F81) := rfl
abbrev n_tree_isExpr : Nat := 82
theorem t_tree_isExpr : tbl 82 = some (.code F82) := rfl
abbrev n_lex_Name : Nat := 83
theorem t_lex_Name : tbl 83 = some (.code F83) := rfl
abbrev n_tree_sign : Nat := 85
theorem t_tree_sign : tbl 85 = some (.code F85) := rfl
abbrev n_tree_shape : Nat := 86
theorem t_tree_shape : tbl 86 = some (.code F86) := rfl
abbrev n_tree_kids : Nat := 88
theorem t_tree_kids : tbl 88 = some (.code F88) := rfl
abbrev n_tree_all : Nat := 89
theorem t_tree_all : tbl 89 = some (.code F89) := rfl
abbrev n_slices_Index_int_int : Nat := 90
theorem t_slices_Index_int_int : tbl 90 = some (.code F90) := rfl
abbrev n_internal_strconv_FormatBool : Nat := 92
theorem t_internal_strconv_FormatBool : tbl 92 = some (.code F92) := rfl
abbrev n_ref13_IsPattern : Nat := 95
theorem t_ref13_IsPattern : tbl 95 = some (.code F95) := rfl
abbrev n_ref11_Name : Nat := 96
theorem t_ref11_Name : tbl 96 = some (.code F96) := rfl
abbrev n_ref13_picked : Nat := 97
theorem t_ref13_picked : tbl 97 = some (.code F97) := rfl
abbrev n_ref13_Sign : Nat := 98
theorem t_ref13_Sign : tbl 98 = some (.code F98) := rfl
abbrev n_ref13_is : Nat := 99
theorem t_ref13_is : tbl 99 = some (.code F99) := rfl
abbrev n_ref13_kid : Nat := 100
theorem t_ref13_kid : tbl 100 = some (.code F100) := rfl
abbrev n_lex_spelt : Nat := 101
theorem t_lex_spelt : tbl 101 = some (.code F101) := rfl
abbrev n_lex_Word : Nat := 102
theorem t_lex_Word : tbl 102 = some (.code F102) := rfl
abbrev n_tree_is : Nat := 105
theorem t_tree_is : tbl 105 = some (.code F105) := rfl
abbrev n_slices_ContainsFunc_int_int : Nat := 106
theorem t_slices_ContainsFunc_int_int : tbl 106 = some (.code F106) := rfl
abbrev n_tree_all_1 : Nat := 107
theorem t_tree_all_1 : tbl 107 = some (.code F107) := rfl
abbrev n_ref11_spelt : Nat := 112
theorem t_ref11_spelt : tbl 112 = some (.code F112) := rfl
abbrev n_ref11_Word : Nat := 113
theorem t_ref11_Word : tbl 113 = some (.code F113) := rfl
abbrev n_ref13_IsExpr : Nat := 114
theorem t_ref13_IsExpr : tbl 114 = some (.code F114) := rfl
abbrev n_lex_digit : Nat := 115
theorem t_lex_digit : tbl 115 = some (.code F115) := rfl
abbrev n_lex_letter : Nat := 116
theorem t_lex_letter : tbl 116 = some (.code F116) := rfl
abbrev n_slices_IndexFunc_int_int : Nat := 119
theorem t_slices_IndexFunc_int_int : tbl 119 = some (.code F119) := rfl
abbrev n_ref11_letter : Nat := 125
theorem t_ref11_letter : tbl 125 = some (.code F125) := rfl
abbrev n_ref11_digit : Nat := 126
theorem t_ref11_digit : tbl 126 = some (.code F126) := rfl
abbrev n_primJoin : Nat := 22
theorem t_primJoin : tbl 22 = some (.prim primJoin) := rfl
abbrev n_primFmt : Nat := 69
theorem t_primFmt : tbl 69 = some (.prim primFmt) := rfl
abbrev n_primCut : Nat := 84
theorem t_primCut : tbl 84 = some (.prim primCut) := rfl
abbrev n_primIndexByte : Nat := 87
theorem t_primIndexByte : tbl 87 = some (.prim primIndexByte) := rfl
end Go.Vm.Tre
