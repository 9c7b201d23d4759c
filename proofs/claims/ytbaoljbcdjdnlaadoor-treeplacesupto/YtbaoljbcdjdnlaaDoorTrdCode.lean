import Derived.Test.YtbaoljbcdjdnlaaDoorVmRun
import Derived.Test.YtbaoljbcdjdnlaaDoorVmTr
import Derived.Test.YtbaoljbcdjdnlaaDoorVmPrimCut
set_option maxRecDepth 100000
namespace Go.Vm.Trd
open Go Go.Vm
def keepOf (l : List (Nat × List Nat)) (i : Nat) : List Nat := ((l.find? (·.1 == i)).map (·.2)).getD []
def ghostOf (l : List (Nat × List VCode)) (i : Nat) : List VCode := ((l.find? (·.1 == i)).map (·.2)).getD []
-- 3 patina/patinalaw13.TreeSames
def B3 : VCode :=
 (.seq (.reg [⟨(some 2), .box (.t 0), none⟩,
 ⟨(some 3), .box (.t 1), none⟩,
 ⟨(some 4), .mv (.c (.d (.bool false))), none⟩])
 (.seq (.draw 10 [⟨(some 5), .ld (some 1) (.t 2), none⟩,
 ⟨(some 6), .ld (some 1) (.t 3), none⟩,
 ⟨(some 7), .call 6 [(.t 5), (.t 6)], none⟩,
 ⟨(some 8), .ld (some 1) (.t 2), none⟩,
 ⟨(some 9), .ld (some 1) (.t 3), none⟩,
 ⟨(some 10), .call 7 [(.t 8), (.t 9)], none⟩,
 ⟨(some 11), .eqb false (.t 7) (.t 10), none⟩,
 ⟨(some 12), .mv (.t 11), none⟩,
 ⟨(some 13), .ld (some 1) (.t 2), some (12, true)⟩,
 ⟨(some 14), .ld (some 1) (.t 2), some (12, true)⟩,
 ⟨(some 15), .call 6 [(.t 13), (.t 14)], some (12, true)⟩,
 ⟨(some 16), .pick (.t 12) (.t 15) (.c (.d (.bool false))), none⟩,
 ⟨(some 17), .mv (.t 16), none⟩,
 ⟨(some 18), .call 8 [], some (17, true)⟩,
 ⟨(some 19), .pick (.t 17) (.t 18) (.c (.d (.bool false))), none⟩,
 ⟨(some 4), .mv (.t 19), none⟩])
 .ret))
def F3 : VFn := ⟨2, 20, B3, [.tmp 4], false⟩

def A3 : Ann := ⟨keepOf [], ghostOf []⟩
-- 4 patina/patinalaw13.TreePlaces
def K4_0 : List Nat := [1, 2, 5, 20, 21, 22]
def L4_0 : VCode :=
 (.seq (.reg [⟨(some 23), .bin .lss (.t 22) (.t 21), none⟩])
 (.seq (.cond (.t 23)
 .skip
 (.exit 0))
 (.seq (.block 1 (.seq (.reg [⟨(some 24), .iadr 6 (.t 20) (.t 22), none⟩,
 ⟨(some 25), .ld (some 6) (.t 24), none⟩,
 ⟨(some 7), .zbox [(.d (.int .i64 0)), (.d (.str [])), (.d (.int .i64 0)), .nils, (.d (.int .i64 0)), (.d (.int .i64 0))], none⟩,
 ⟨none, .st 6 (.t 7) (.t 25), none⟩])
 (.seq (.seq (.reg [⟨(some 26), .fadr 5 (.t 7), none⟩,
 ⟨(some 27), .ld none (.t 26), none⟩,
 ⟨(some 28), .bin .gtr (.t 27) (.c (.d (.int .i64 1099511627776))), none⟩,
 ⟨(some 29), .mv (.t 28), none⟩,
 ⟨(some 30), .fadr 4 (.t 7), some (29, false)⟩,
 ⟨(some 31), .ld none (.t 30), some (29, false)⟩,
 ⟨(some 32), .bin .gtr (.t 31) (.c (.d (.int .i64 1099511627776))), some (29, false)⟩,
 ⟨(some 33), .pick (.t 29) (.c (.d (.bool true))) (.t 32), none⟩])
 (.cond (.t 33)
 (.seq (.reg [⟨(some 34), .call 8 [], none⟩,
 ⟨(some 4), .mv (.t 34), none⟩])
 .ret)
 .skip))
 (.seq (.reg [⟨(some 35), .fadr 4 (.t 7), none⟩,
 ⟨(some 36), .ld none (.t 35), none⟩,
 ⟨(some 37), .mv (.t 1), none⟩,
 ⟨(some 38), .bin .add (.t 36) (.t 37), none⟩,
 ⟨(some 39), .fadr 4 (.t 7), none⟩,
 ⟨none, .st 1 (.t 39) (.t 38), none⟩])
 (.seq (.reg [⟨(some 40), .fadr 5 (.t 7), none⟩,
 ⟨(some 41), .ld none (.t 40), none⟩,
 ⟨(some 42), .mv (.t 1), none⟩,
 ⟨(some 43), .bin .add (.t 41) (.t 42), none⟩,
 ⟨(some 44), .fadr 5 (.t 7), none⟩,
 ⟨none, .st 1 (.t 44) (.t 43), none⟩])
 (.reg [⟨(some 45), .fadr 0 (.t 5), none⟩,
 ⟨(some 46), .ld none (.t 45), none⟩,
 ⟨(some 47), .ld (some 6) (.t 7), none⟩,
 ⟨(some 48), .bslice 6 1 [(.t 47)], none⟩,
 ⟨(some 49), .app 6 72 (.t 46) (.t 48), none⟩,
 ⟨(some 50), .fadr 0 (.t 5), none⟩,
 ⟨none, .st 1 (.t 50) (.t 49), none⟩]))))))
 (.reg [⟨(some 51), .bin .add (.t 22) (.c (.d (.int .i64 1))), none⟩,
 ⟨(some 22), .mv (.t 51), none⟩]))))
def B4 : VCode :=
 (.seq (.reg [⟨(some 2), .box (.t 0), none⟩,
 ⟨(some 4), .mv (.c (.d (.bool false))), none⟩])
 (.seq (.seq (.reg [⟨(some 12), .mv (.t 1), none⟩,
 ⟨(some 13), .bin .lss (.t 12) (.c (.d (.int .i64 0))), none⟩,
 ⟨(some 14), .mv (.t 13), none⟩,
 ⟨(some 15), .mv (.t 1), some (14, false)⟩,
 ⟨(some 16), .bin .gtr (.t 15) (.c (.d (.int .i64 1048576))), some (14, false)⟩,
 ⟨(some 17), .pick (.t 14) (.c (.d (.bool true))) (.t 16), none⟩])
 (.cond (.t 17)
 (.seq (.reg [⟨(some 18), .call 8 [], none⟩,
 ⟨(some 4), .mv (.t 18), none⟩])
 .ret)
 .skip))
 (.seq (.seq (.mkrow 6)
 (.reg [⟨(some 5), .zbox [.nils], none⟩]))
 (.seq (.seq (.seq (.bindto 5 0 1)
 (.reg [⟨(some 19), .fadr 0 (.t 2), none⟩,
 ⟨(some 20), .ld none (.t 19), none⟩,
 ⟨(some 21), .len false (.t 20), none⟩,
 ⟨(some 22), .mv (.c (.d (.int .i64 0))), none⟩]))
 (.block 0 (.loop K4_0 L4_0)))
 (.seq (.reg [⟨(some 53), .ld (some 1) (.t 2), none⟩,
 ⟨(some 54), .call 9 [(.t 53)], none⟩,
 ⟨(some 52), .mv (.t 54), none⟩,
 ⟨(some 55), .ext (.t 52) 0, none⟩,
 ⟨(some 56), .ext (.t 52) 1, none⟩,
 ⟨(some 8), .mv (.t 55), none⟩,
 ⟨(some 9), .mv (.t 56), none⟩])
 (.seq (.reg [⟨(some 58), .ld (some 1) (.t 5), none⟩,
 ⟨(some 59), .call 9 [(.t 58)], none⟩,
 ⟨(some 57), .mv (.t 59), none⟩,
 ⟨(some 60), .ext (.t 57) 0, none⟩,
 ⟨(some 61), .ext (.t 57) 1, none⟩,
 ⟨(some 10), .mv (.t 60), none⟩,
 ⟨(some 11), .mv (.t 61), none⟩])
 (.seq (.seq (.reg [⟨(some 62), .mv (.t 9), none⟩,
 ⟨(some 63), .bin .neq (.t 62) (.c (.d (.int .i64 0))), none⟩])
 (.cond (.t 63)
 (.seq (.reg [⟨(some 64), .mv (.t 8), none⟩,
 ⟨(some 65), .bin .eql (.t 64) (.c (.d (.str []))), none⟩,
 ⟨(some 66), .mv (.t 65), none⟩,
 ⟨(some 67), .call 8 [], some (66, true)⟩,
 ⟨(some 68), .pick (.t 66) (.t 67) (.c (.d (.bool false))), none⟩,
 ⟨(some 4), .mv (.t 68), none⟩])
 .ret)
 .skip))
 (.seq (.reg [⟨(some 69), .mv (.t 11), none⟩,
 ⟨(some 70), .bin .eql (.t 69) (.c (.d (.int .i64 0))), none⟩,
 ⟨(some 71), .mv (.t 70), none⟩,
 ⟨(some 72), .mv (.t 8), some (71, true)⟩,
 ⟨(some 73), .mv (.t 10), some (71, true)⟩,
 ⟨(some 74), .bin .eql (.t 72) (.t 73), some (71, true)⟩,
 ⟨(some 75), .pick (.t 71) (.t 74) (.c (.d (.bool false))), none⟩,
 ⟨(some 76), .mv (.t 75), none⟩,
 ⟨(some 77), .ld (some 1) (.t 2), some (76, true)⟩,
 ⟨(some 78), .ld (some 1) (.t 5), some (76, true)⟩,
 ⟨(some 79), .call 6 [(.t 77), (.t 78)], some (76, true)⟩,
 ⟨(some 80), .pick (.t 76) (.t 79) (.c (.d (.bool false))), none⟩,
 ⟨(some 81), .mv (.t 80), none⟩,
 ⟨(some 82), .call 8 [], some (81, true)⟩,
 ⟨(some 83), .pick (.t 81) (.t 82) (.c (.d (.bool false))), none⟩,
 ⟨(some 4), .mv (.t 83), none⟩])
 .ret))))))))
def F4 : VFn := ⟨2, 84, B4, [.tmp 4], false⟩

def A4 : Ann := ⟨keepOf [(5, [1, 2, 5, 20, 21, 22])], ghostOf [(3, [.mkrow 6]), (4, [.bindto 5 0 1])]⟩
-- 5 patina/patinalaw13.TreeKids
def K5_0 : List Nat := [1, 3, 28, 29, 30]
def L5_0 : VCode :=
 (.seq (.reg [⟨(some 31), .bin .lss (.t 30) (.t 29), none⟩])
 (.seq (.cond (.t 31)
 .skip
 (.exit 0))
 (.seq (.block 1 (.seq (.reg [⟨(some 32), .mv (.t 30), none⟩,
 ⟨(some 33), .iadr 1 (.t 28) (.t 30), none⟩,
 ⟨(some 34), .ld none (.t 33), none⟩,
 ⟨(some 5), .mv (.t 32), none⟩,
 ⟨(some 6), .mv (.t 34), none⟩])
 (.seq (.reg [⟨(some 35), .mv (.t 6), none⟩,
 ⟨(some 36), .bin .eql (.t 35) (.c (.d (.int .i64 (-1)))), none⟩,
 ⟨(some 37), .mv (.t 5), none⟩,
 ⟨(some 38), .mv (.t 3), none⟩,
 ⟨(some 39), .len false (.t 38), none⟩,
 ⟨(some 40), .bin .sub (.t 39) (.c (.d (.int .i64 1))), none⟩,
 ⟨(some 41), .bin .eql (.t 37) (.t 40), none⟩,
 ⟨(some 42), .eqb true (.t 36) (.t 41), none⟩,
 ⟨(some 43), .mv (.t 42), none⟩,
 ⟨(some 44), .mv (.t 6), some (43, false)⟩,
 ⟨(some 45), .bin .geq (.t 44) (.c (.d (.int .i64 0))), some (43, false)⟩,
 ⟨(some 46), .mv (.t 45), some (43, false)⟩,
 ⟨(some 47), .mv (.t 6), some (46, true)⟩,
 ⟨(some 48), .mv (.t 5), some (46, true)⟩,
 ⟨(some 49), .bin .leq (.t 47) (.t 48), some (46, true)⟩,
 ⟨(some 50), .pick (.t 46) (.t 49) (.c (.d (.bool false))), some (43, false)⟩,
 ⟨(some 51), .pick (.t 43) (.c (.d (.bool true))) (.t 50), none⟩])
 (.cond (.t 51)
 (.seq (.reg [⟨(some 2), .mv (.c (.d (.bool false))), none⟩])
 .ret)
 .skip))))
 (.reg [⟨(some 52), .bin .add (.t 30) (.c (.d (.int .i64 1))), none⟩,
 ⟨(some 30), .mv (.t 52), none⟩]))))
def B5 : VCode :=
 (.seq (.reg [⟨(some 1), .box (.t 0), none⟩,
 ⟨(some 2), .mv (.c (.d (.bool false))), none⟩])
 (.seq (.reg [⟨(some 10), .ld (some 1) (.t 1), none⟩,
 ⟨(some 11), .call 10 [(.t 10)], none⟩,
 ⟨(some 9), .mv (.t 11), none⟩,
 ⟨(some 12), .ext (.t 9) 0, none⟩,
 ⟨(some 13), .ext (.t 9) 1, none⟩,
 ⟨(some 3), .mv (.t 12), none⟩,
 ⟨(some 4), .mv (.t 13), none⟩])
 (.seq (.seq (.reg [⟨(some 14), .mv (.t 4), none⟩,
 ⟨(some 15), .bin .neq (.t 14) (.c (.d (.int .i64 0))), none⟩])
 (.cond (.t 15)
 (.seq (.reg [⟨(some 16), .mv (.t 3), none⟩,
 ⟨(some 17), .len false (.t 16), none⟩,
 ⟨(some 18), .bin .eql (.t 17) (.c (.d (.int .i64 0))), none⟩,
 ⟨(some 19), .mv (.t 18), none⟩,
 ⟨(some 20), .call 8 [], some (19, true)⟩,
 ⟨(some 21), .pick (.t 19) (.t 20) (.c (.d (.bool false))), none⟩,
 ⟨(some 2), .mv (.t 21), none⟩])
 .ret)
 .skip))
 (.seq (.seq (.reg [⟨(some 22), .mv (.t 3), none⟩,
 ⟨(some 23), .len false (.t 22), none⟩,
 ⟨(some 24), .fadr 0 (.t 1), none⟩,
 ⟨(some 25), .ld none (.t 24), none⟩,
 ⟨(some 26), .len false (.t 25), none⟩,
 ⟨(some 27), .bin .neq (.t 23) (.t 26), none⟩])
 (.cond (.t 27)
 (.seq (.reg [⟨(some 2), .mv (.c (.d (.bool false))), none⟩])
 .ret)
 .skip))
 (.seq (.seq (.reg [⟨(some 28), .mv (.t 3), none⟩,
 ⟨(some 29), .len false (.t 28), none⟩,
 ⟨(some 30), .mv (.c (.d (.int .i64 0))), none⟩])
 (.block 0 (.loop K5_0 L5_0)))
 (.seq (.reg [⟨(some 54), .ld (some 1) (.t 1), none⟩,
 ⟨(some 55), .fadr 0 (.t 1), none⟩,
 ⟨(some 56), .ld none (.t 55), none⟩,
 ⟨(some 57), .len false (.t 56), none⟩,
 ⟨(some 58), .bin .sub (.t 57) (.c (.d (.int .i64 1))), none⟩,
 ⟨(some 59), .call 11 [(.t 54), (.t 58)], none⟩,
 ⟨(some 53), .mv (.t 59), none⟩,
 ⟨(some 60), .ext (.t 53) 0, none⟩,
 ⟨(some 61), .ext (.t 53) 1, none⟩,
 ⟨(some 7), .zbox [.nils], none⟩,
 ⟨none, .st 1 (.t 7) (.t 60), none⟩,
 ⟨(some 8), .mv (.t 61), none⟩])
 (.seq (.reg [⟨(some 62), .mv (.t 8), none⟩,
 ⟨(some 63), .bin .eql (.t 62) (.c (.d (.int .i64 0))), none⟩,
 ⟨(some 64), .mv (.t 63), none⟩,
 ⟨(some 65), .ld (some 1) (.t 7), some (64, true)⟩,
 ⟨(some 66), .ld (some 1) (.t 1), some (64, true)⟩,
 ⟨(some 67), .call 12 [(.t 65), (.t 66)], some (64, true)⟩,
 ⟨(some 68), .pick (.t 64) (.t 67) (.c (.d (.bool false))), none⟩,
 ⟨(some 69), .mv (.t 68), none⟩,
 ⟨(some 70), .call 8 [], some (69, true)⟩,
 ⟨(some 71), .pick (.t 69) (.t 70) (.c (.d (.bool false))), none⟩,
 ⟨(some 2), .mv (.t 71), none⟩])
 .ret)))))))
def F5 : VFn := ⟨1, 72, B5, [.tmp 2], false⟩

def A5 : Ann := ⟨keepOf [(7, [1, 3, 28, 29, 30])], ghostOf []⟩
-- 6 patina/tree.Same
def B6 : VCode :=
 (.seq (.reg [⟨(some 2), .box (.t 0), none⟩,
 ⟨(some 3), .box (.t 1), none⟩,
 ⟨(some 4), .mv (.c (.d (.bool false))), none⟩])
 (.seq (.reg [⟨(some 5), .fadr 0 (.t 2), none⟩,
 ⟨(some 6), .ld none (.t 5), none⟩,
 ⟨(some 7), .fadr 0 (.t 3), none⟩,
 ⟨(some 8), .ld none (.t 7), none⟩,
 ⟨(some 9), .call 13 [(.t 6), (.t 8), (.f 14)], none⟩,
 ⟨(some 4), .mv (.t 9), none⟩])
 .ret))
def F6 : VFn := ⟨2, 10, B6, [.tmp 4], false⟩

def A6 : Ann := ⟨keepOf [], ghostOf []⟩
-- 7 patina/patinaref13.Same
def K7_0 : List Nat := [3, 6, 7, 17, 18, 19, 59, 60]
def L7_0 : VCode :=
 (.seq (.reg [⟨(some 61), .bin .lss (.t 60) (.t 59), none⟩])
 (.seq (.cond (.t 61)
 .skip
 (.exit 2))
 (.seq (.block 3 (.seq (.reg [⟨(some 62), .mv (.t 60), none⟩,
 ⟨(some 8), .mv (.t 62), none⟩])
 (.seq (.draw 10 [⟨(some 63), .fadr 3 (.t 6), none⟩,
 ⟨(some 64), .ld none (.t 63), none⟩,
 ⟨(some 65), .mv (.t 8), none⟩,
 ⟨(some 66), .iadr 1 (.t 64) (.t 65), none⟩,
 ⟨(some 67), .ld none (.t 66), none⟩,
 ⟨(some 68), .fadr 3 (.t 7), none⟩,
 ⟨(some 69), .ld none (.t 68), none⟩,
 ⟨(some 70), .mv (.t 8), none⟩,
 ⟨(some 71), .iadr 1 (.t 69) (.t 70), none⟩,
 ⟨(some 72), .ld none (.t 71), none⟩,
 ⟨(some 73), .bin .neq (.t 67) (.t 72), none⟩])
 (.cond (.t 73)
 (.seq (.reg [⟨(some 4), .mv (.c (.d (.bool false))), none⟩])
 .ret)
 .skip))))
 (.reg [⟨(some 74), .bin .add (.t 60) (.c (.d (.int .i64 1))), none⟩,
 ⟨(some 60), .mv (.t 74), none⟩]))))
def K7_1 : List Nat := [3, 17, 18, 19]
def L7_1 : VCode :=
 (.seq (.reg [⟨(some 20), .bin .lss (.t 19) (.t 18), none⟩])
 (.seq (.cond (.t 20)
 .skip
 (.exit 0))
 (.seq (.block 1 (.seq (.reg [⟨(some 21), .mv (.t 19), none⟩,
 ⟨(some 22), .iadr 6 (.t 17) (.t 19), none⟩,
 ⟨(some 23), .ld (some 6) (.t 22), none⟩,
 ⟨(some 6), .zbox [(.d (.int .i64 0)), (.d (.str [])), (.d (.int .i64 0)), .nils, (.d (.int .i64 0)), (.d (.int .i64 0))], none⟩,
 ⟨(some 5), .mv (.t 21), none⟩,
 ⟨none, .st 6 (.t 6) (.t 23), none⟩])
 (.seq (.reg [⟨(some 24), .fadr 0 (.t 3), none⟩,
 ⟨(some 25), .ld none (.t 24), none⟩,
 ⟨(some 26), .mv (.t 5), none⟩,
 ⟨(some 27), .iadr 6 (.t 25) (.t 26), none⟩,
 ⟨(some 28), .ld (some 6) (.t 27), none⟩,
 ⟨(some 7), .zbox [(.d (.int .i64 0)), (.d (.str [])), (.d (.int .i64 0)), .nils, (.d (.int .i64 0)), (.d (.int .i64 0))], none⟩,
 ⟨none, .st 6 (.t 7) (.t 28), none⟩])
 (.seq (.seq (.reg [⟨(some 29), .fadr 0 (.t 6), none⟩,
 ⟨(some 30), .ld none (.t 29), none⟩,
 ⟨(some 31), .fadr 0 (.t 7), none⟩,
 ⟨(some 32), .ld none (.t 31), none⟩,
 ⟨(some 33), .bin .neq (.t 30) (.t 32), none⟩,
 ⟨(some 34), .mv (.t 33), none⟩,
 ⟨(some 35), .fadr 1 (.t 6), some (34, false)⟩,
 ⟨(some 36), .ld none (.t 35), some (34, false)⟩,
 ⟨(some 37), .fadr 1 (.t 7), some (34, false)⟩,
 ⟨(some 38), .ld none (.t 37), some (34, false)⟩,
 ⟨(some 39), .bin .neq (.t 36) (.t 38), some (34, false)⟩,
 ⟨(some 40), .pick (.t 34) (.c (.d (.bool true))) (.t 39), none⟩,
 ⟨(some 41), .mv (.t 40), none⟩,
 ⟨(some 42), .fadr 2 (.t 6), some (41, false)⟩,
 ⟨(some 43), .ld none (.t 42), some (41, false)⟩,
 ⟨(some 44), .fadr 2 (.t 7), some (41, false)⟩,
 ⟨(some 45), .ld none (.t 44), some (41, false)⟩,
 ⟨(some 46), .bin .neq (.t 43) (.t 45), some (41, false)⟩,
 ⟨(some 47), .pick (.t 41) (.c (.d (.bool true))) (.t 46), none⟩,
 ⟨(some 48), .mv (.t 47), none⟩,
 ⟨(some 49), .fadr 3 (.t 6), some (48, false)⟩,
 ⟨(some 50), .ld none (.t 49), some (48, false)⟩,
 ⟨(some 51), .len false (.t 50), some (48, false)⟩,
 ⟨(some 52), .fadr 3 (.t 7), some (48, false)⟩,
 ⟨(some 53), .ld none (.t 52), some (48, false)⟩,
 ⟨(some 54), .len false (.t 53), some (48, false)⟩,
 ⟨(some 55), .bin .neq (.t 51) (.t 54), some (48, false)⟩,
 ⟨(some 56), .pick (.t 48) (.c (.d (.bool true))) (.t 55), none⟩])
 (.cond (.t 56)
 (.seq (.reg [⟨(some 4), .mv (.c (.d (.bool false))), none⟩])
 .ret)
 .skip))
 (.seq (.reg [⟨(some 57), .fadr 3 (.t 6), none⟩,
 ⟨(some 58), .ld none (.t 57), none⟩,
 ⟨(some 59), .len false (.t 58), none⟩,
 ⟨(some 60), .mv (.c (.d (.int .i64 0))), none⟩])
 (.block 2 (.loop K7_0 L7_0)))))))
 (.reg [⟨(some 75), .bin .add (.t 19) (.c (.d (.int .i64 1))), none⟩,
 ⟨(some 19), .mv (.t 75), none⟩]))))
def B7 : VCode :=
 (.seq (.reg [⟨(some 2), .box (.t 0), none⟩,
 ⟨(some 3), .box (.t 1), none⟩,
 ⟨(some 4), .mv (.c (.d (.bool false))), none⟩])
 (.seq (.seq (.reg [⟨(some 9), .fadr 0 (.t 2), none⟩,
 ⟨(some 10), .ld none (.t 9), none⟩,
 ⟨(some 11), .len false (.t 10), none⟩,
 ⟨(some 12), .fadr 0 (.t 3), none⟩,
 ⟨(some 13), .ld none (.t 12), none⟩,
 ⟨(some 14), .len false (.t 13), none⟩,
 ⟨(some 15), .bin .neq (.t 11) (.t 14), none⟩])
 (.cond (.t 15)
 (.seq (.reg [⟨(some 4), .mv (.c (.d (.bool false))), none⟩])
 .ret)
 .skip))
 (.seq (.seq (.reg [⟨(some 16), .fadr 0 (.t 2), none⟩,
 ⟨(some 17), .ld none (.t 16), none⟩,
 ⟨(some 18), .len false (.t 17), none⟩,
 ⟨(some 19), .mv (.c (.d (.int .i64 0))), none⟩])
 (.block 0 (.loop K7_1 L7_1)))
 (.seq (.reg [⟨(some 4), .mv (.c (.d (.bool true))), none⟩])
 .ret))))
def F7 : VFn := ⟨2, 76, B7, [.tmp 4], false⟩

def A7 : Ann := ⟨keepOf [(4, [3, 17, 18, 19]), (10, [3, 6, 7, 17, 18, 19, 59, 60])], ghostOf []⟩
-- 8 patina/patinalaw13.small
def B8 : VCode :=
 (.seq (.reg [⟨(some 0), .mv (.c (.d (.bool false))), none⟩])
 (.seq (.reg [⟨(some 6), .build [(.d (.int .i64 0)), (.d (.str [])), (.d (.int .i64 0)), .nils, (.d (.int .i64 0)), (.d (.int .i64 0))] [(0, 1, (.c (.d (.int .i64 12))))], none⟩,
 ⟨(some 7), .build [(.d (.int .i64 0)), (.d (.str [])), (.d (.int .i64 0)), .nils, (.d (.int .i64 0)), (.d (.int .i64 0))] [(0, 1, (.c (.d (.int .i64 20))))], none⟩,
 ⟨(some 8), .bslice 1 2 [(.c (.d (.int .i64 0))), (.c (.d (.int .i64 1)))], none⟩,
 ⟨(some 9), .build [(.d (.int .i64 0)), (.d (.str [])), (.d (.int .i64 0)), .nils, (.d (.int .i64 0)), (.d (.int .i64 0))] [(0, 1, (.c (.d (.int .i64 2)))), (1, 1, (.c (.d (.str [109, 97, 105, 110])))), (3, 1, (.t 8))], none⟩,
 ⟨(some 10), .bslice 1 1 [(.c (.d (.int .i64 2)))], none⟩,
 ⟨(some 11), .build [(.d (.int .i64 0)), (.d (.str [])), (.d (.int .i64 0)), .nils, (.d (.int .i64 0)), (.d (.int .i64 0))] [(0, 1, (.c (.d (.int .i64 1)))), (3, 1, (.t 10))], none⟩,
 ⟨(some 12), .bslice 6 4 [(.t 6), (.t 7), (.t 9), (.t 11)], none⟩,
 ⟨(some 13), .build [.nils] [(0, 1, (.t 12))], none⟩,
 ⟨(some 1), .zbox [.nils], none⟩,
 ⟨none, .st 1 (.t 1) (.t 13), none⟩])
 (.seq (.reg [⟨(some 15), .ld (some 1) (.t 1), none⟩,
 ⟨(some 16), .call 9 [(.t 15)], none⟩,
 ⟨(some 14), .mv (.t 16), none⟩,
 ⟨(some 17), .ext (.t 14) 0, none⟩,
 ⟨(some 18), .ext (.t 14) 1, none⟩,
 ⟨(some 2), .mv (.t 17), none⟩,
 ⟨(some 3), .mv (.t 18), none⟩])
 (.seq (.reg [⟨(some 20), .ld (some 1) (.t 1), none⟩,
 ⟨(some 21), .call 16 [(.t 20)], none⟩,
 ⟨(some 19), .mv (.t 21), none⟩,
 ⟨(some 22), .ext (.t 19) 0, none⟩,
 ⟨(some 23), .ext (.t 19) 1, none⟩,
 ⟨(some 4), .mv (.t 22), none⟩,
 ⟨(some 5), .mv (.t 23), none⟩])
 (.seq (.reg [⟨(some 24), .mv (.t 3), none⟩,
 ⟨(some 25), .bin .eql (.t 24) (.c (.d (.int .i64 0))), none⟩,
 ⟨(some 26), .mv (.t 25), none⟩,
 ⟨(some 27), .mv (.t 2), some (26, true)⟩,
 ⟨(some 28), .bin .eql (.t 27) (.c (.d (.str [102, 110, 32, 109, 97, 105, 110, 32, 40, 32, 41, 32, 123, 32, 125]))), some (26, true)⟩,
 ⟨(some 29), .pick (.t 26) (.t 28) (.c (.d (.bool false))), none⟩,
 ⟨(some 30), .mv (.t 29), none⟩,
 ⟨(some 31), .mv (.t 5), some (30, true)⟩,
 ⟨(some 32), .bin .eql (.t 31) (.c (.d (.int .i64 0))), some (30, true)⟩,
 ⟨(some 33), .pick (.t 30) (.t 32) (.c (.d (.bool false))), none⟩,
 ⟨(some 34), .mv (.t 33), none⟩,
 ⟨(some 35), .mv (.t 4), some (34, true)⟩,
 ⟨(some 36), .bin .eql (.t 35) (.c (.d (.int .i64 2))), some (34, true)⟩,
 ⟨(some 37), .pick (.t 34) (.t 36) (.c (.d (.bool false))), none⟩,
 ⟨(some 38), .mv (.t 37), none⟩,
 ⟨(some 39), .build [.nils] [], some (38, true)⟩,
 ⟨(some 40), .call 17 [(.t 39)], some (38, true)⟩,
 ⟨(some 41), .bin .eql (.t 40) (.c (.d (.int .i64 3))), some (38, true)⟩,
 ⟨(some 42), .pick (.t 38) (.t 41) (.c (.d (.bool false))), none⟩,
 ⟨(some 0), .mv (.t 42), none⟩])
 .ret)))))
def F8 : VFn := ⟨0, 43, B8, [.tmp 0], false⟩

def A8 : Ann := ⟨keepOf [], ghostOf []⟩
-- 9 patina/tree.Print
def B9 : VCode :=
 (.seq (.reg [⟨(some 1), .box (.t 0), none⟩,
 ⟨(some 2), .mv (.c (.d (.str []))), none⟩,
 ⟨(some 3), .mv (.c (.d (.int .i64 0))), none⟩])
 (.seq (.seq (.reg [⟨(some 5), .ld (some 1) (.t 1), none⟩,
 ⟨(some 6), .call 17 [(.t 5)], none⟩,
 ⟨(some 7), .bin .neq (.t 6) (.c (.d (.int .i64 0))), none⟩])
 (.cond (.t 7)
 (.seq (.reg [⟨(some 2), .mv (.c (.d (.str []))), none⟩,
 ⟨(some 3), .mv (.c (.d (.int .i64 3))), none⟩])
 .ret)
 .skip))
 (.seq (.seq (.mkrow 1)
 (.reg [⟨(some 8), .ld (some 1) (.t 1), none⟩,
 ⟨(some 9), .build [.nils, .nils] [(0, 1, (.t 8))], none⟩,
 ⟨(some 10), .box (.t 9), none⟩,
 ⟨(some 4), .mv (.t 10), none⟩]))
 (.seq (.seq (.bindto 4 1 1)
 (.reg [⟨(some 11), .mv (.t 4), none⟩,
 ⟨(some 12), .fadr 0 (.t 1), none⟩,
 ⟨(some 13), .ld none (.t 12), none⟩,
 ⟨(some 14), .len false (.t 13), none⟩,
 ⟨(some 15), .bin .sub (.t 14) (.c (.d (.int .i64 1))), none⟩,
 ⟨(some 16), .call 18 [(.t 11), (.t 15)], none⟩]))
 (.seq (.reg [⟨(some 17), .mv (.t 4), none⟩,
 ⟨(some 18), .nilck (.t 17), none⟩,
 ⟨(some 19), .fadr 1 (.t 18), none⟩,
 ⟨(some 20), .ld none (.t 19), none⟩,
 ⟨(some 21), .call 19 [(.t 20), (.c (.d (.str [32])))], none⟩,
 ⟨(some 2), .mv (.t 21), none⟩,
 ⟨(some 3), .mv (.c (.d (.int .i64 0))), none⟩])
 .ret)))))
def F9 : VFn := ⟨1, 22, B9, [.tmp 2, .tmp 3], false⟩

def A9 : Ann := ⟨keepOf [], ghostOf [(3, [.mkrow 1]), (4, [.bindto 4 1 1])]⟩
-- 10 patina/tree.Parents
def B10 : VCode :=
 (.seq (.reg [⟨(some 1), .box (.t 0), none⟩,
 ⟨(some 2), .mv (.c .nils), none⟩,
 ⟨(some 3), .mv (.c (.d (.int .i64 0))), none⟩])
 (.seq (.seq (.reg [⟨(some 6), .ld (some 1) (.t 1), none⟩,
 ⟨(some 7), .call 17 [(.t 6)], none⟩,
 ⟨(some 8), .bin .neq (.t 7) (.c (.d (.int .i64 0))), none⟩])
 (.cond (.t 8)
 (.seq (.reg [⟨(some 2), .mv (.c .nils), none⟩,
 ⟨(some 3), .mv (.c (.d (.int .i64 3))), none⟩])
 .ret)
 .skip))
 (.seq (.reg [⟨(some 10), .ld (some 1) (.t 1), none⟩,
 ⟨(some 11), .call 20 [(.t 10)], none⟩,
 ⟨(some 9), .mv (.t 11), none⟩,
 ⟨(some 12), .ext (.t 9) 0, none⟩,
 ⟨(some 13), .ext (.t 9) 1, none⟩,
 ⟨(some 4), .mv (.t 12), none⟩,
 ⟨(some 5), .mv (.t 13), none⟩])
 (.seq (.reg [⟨(some 14), .mv (.t 4), none⟩,
 ⟨(some 2), .mv (.t 14), none⟩,
 ⟨(some 3), .mv (.c (.d (.int .i64 0))), none⟩])
 .ret))))
def F10 : VFn := ⟨1, 15, B10, [.tmp 2, .tmp 3], false⟩

def A10 : Ann := ⟨keepOf [], ghostOf []⟩
-- 11 patina/tree.Sub
def K11_0 : List Nat := [1, 2, 4, 6, 8, 9, 10]
def L11_0 : VCode :=
 (.seq (.seq (.reg [⟨(some 42), .mv (.t 10), none⟩,
 ⟨(some 43), .bin .geq (.t 42) (.c (.d (.int .i64 0))), none⟩])
 (.cond (.t 43)
 .skip
 (.exit 0)))
 (.seq (.block 1 (.reg [⟨(some 46), .mv (.t 8), none⟩,
 ⟨(some 47), .mv (.t 10), none⟩,
 ⟨(some 48), .mv (.t 10), none⟩,
 ⟨(some 49), .mv (.t 1), none⟩,
 ⟨(some 50), .bin .eql (.t 48) (.t 49), none⟩,
 ⟨(some 51), .mv (.t 50), none⟩,
 ⟨(some 52), .mv (.t 6), some (51, false)⟩,
 ⟨(some 53), .mv (.t 10), some (51, false)⟩,
 ⟨(some 54), .iadr 1 (.t 52) (.t 53), some (51, false)⟩,
 ⟨(some 55), .ld none (.t 54), some (51, false)⟩,
 ⟨(some 56), .mv (.t 1), some (51, false)⟩,
 ⟨(some 57), .bin .leq (.t 55) (.t 56), some (51, false)⟩,
 ⟨(some 58), .mv (.t 57), some (51, false)⟩,
 ⟨(some 59), .mv (.t 6), some (58, true)⟩,
 ⟨(some 60), .mv (.t 10), some (58, true)⟩,
 ⟨(some 61), .iadr 1 (.t 59) (.t 60), some (58, true)⟩,
 ⟨(some 62), .ld none (.t 61), some (58, true)⟩,
 ⟨(some 63), .bin .geq (.t 62) (.c (.d (.int .i64 0))), some (58, true)⟩,
 ⟨(some 64), .pick (.t 58) (.t 63) (.c (.d (.bool false))), some (51, false)⟩,
 ⟨(some 65), .mv (.t 64), some (51, false)⟩,
 ⟨(some 66), .mv (.t 8), some (65, true)⟩,
 ⟨(some 67), .mv (.t 6), some (65, true)⟩,
 ⟨(some 68), .mv (.t 10), some (65, true)⟩,
 ⟨(some 69), .iadr 1 (.t 67) (.t 68), some (65, true)⟩,
 ⟨(some 70), .ld none (.t 69), some (65, true)⟩,
 ⟨(some 71), .iadr 1 (.t 66) (.t 70), some (65, true)⟩,
 ⟨(some 72), .ld none (.t 71), some (65, true)⟩,
 ⟨(some 73), .pick (.t 65) (.t 72) (.c (.d (.bool false))), some (51, false)⟩,
 ⟨(some 74), .pick (.t 51) (.c (.d (.bool true))) (.t 73), none⟩,
 ⟨(some 75), .iadr 1 (.t 46) (.t 47), none⟩,
 ⟨none, .st 1 (.t 75) (.t 74), none⟩]))
 (.reg [⟨(some 44), .mv (.t 10), none⟩,
 ⟨(some 45), .bin .sub (.t 44) (.c (.d (.int .i64 1))), none⟩,
 ⟨(some 10), .mv (.t 45), none⟩])))
def K11_1 : List Nat := [2, 4, 8, 9, 11, 13, 77, 78, 103, 104, 105]
def L11_1 : VCode :=
 (.seq (.reg [⟨(some 106), .bin .lss (.t 105) (.t 104), none⟩])
 (.seq (.cond (.t 106)
 .skip
 (.exit 4))
 (.seq (.block 5 (.seq (.reg [⟨(some 107), .iadr 1 (.t 103) (.t 105), none⟩,
 ⟨(some 108), .ld none (.t 107), none⟩,
 ⟨(some 15), .mv (.t 108), none⟩])
 (.draw 7 [⟨(some 109), .fadr 3 (.t 13), none⟩,
 ⟨(some 110), .ld none (.t 109), none⟩,
 ⟨(some 111), .mv (.t 9), none⟩,
 ⟨(some 112), .mv (.t 15), none⟩,
 ⟨(some 113), .iadr 1 (.t 111) (.t 112), none⟩,
 ⟨(some 114), .ld none (.t 113), none⟩,
 ⟨(some 115), .bslice 1 1 [(.t 114)], none⟩,
 ⟨(some 116), .app 1 8 (.t 110) (.t 115), none⟩,
 ⟨(some 117), .fadr 3 (.t 13), none⟩,
 ⟨none, .st 1 (.t 117) (.t 116), none⟩])))
 (.reg [⟨(some 118), .bin .add (.t 105) (.c (.d (.int .i64 1))), none⟩,
 ⟨(some 105), .mv (.t 118), none⟩]))))
def K11_2 : List Nat := [2, 4, 8, 9, 11, 77, 78]
def L11_2 : VCode :=
 (.seq (.reg [⟨(some 79), .bin .lss (.t 78) (.t 77), none⟩])
 (.seq (.cond (.t 79)
 .skip
 (.exit 2))
 (.seq (.block 3 (.seq (.reg [⟨(some 80), .mv (.t 78), none⟩,
 ⟨(some 12), .mv (.t 80), none⟩])
 (.seq (.seq (.reg [⟨(some 81), .mv (.t 8), none⟩,
 ⟨(some 82), .mv (.t 12), none⟩,
 ⟨(some 83), .iadr 1 (.t 81) (.t 82), none⟩,
 ⟨(some 84), .ld none (.t 83), none⟩,
 ⟨(some 85), .un .not (.t 84), none⟩])
 (.cond (.t 85)
 (.exit 3)
 .skip))
 (.seq (.reg [⟨(some 86), .mv (.t 9), none⟩,
 ⟨(some 87), .mv (.t 12), none⟩,
 ⟨(some 88), .fadr 0 (.t 11), none⟩,
 ⟨(some 89), .ld none (.t 88), none⟩,
 ⟨(some 90), .len false (.t 89), none⟩,
 ⟨(some 91), .iadr 1 (.t 86) (.t 87), none⟩,
 ⟨none, .st 1 (.t 91) (.t 90), none⟩])
 (.seq (.seq (.mkrow 1)
 (.reg [⟨(some 92), .fadr 0 (.t 2), none⟩,
 ⟨(some 93), .ld none (.t 92), none⟩,
 ⟨(some 94), .mv (.t 12), none⟩,
 ⟨(some 95), .iadr 6 (.t 93) (.t 94), none⟩,
 ⟨(some 96), .ld (some 6) (.t 95), none⟩,
 ⟨(some 13), .zbox [(.d (.int .i64 0)), (.d (.str [])), (.d (.int .i64 0)), .nils, (.d (.int .i64 0)), (.d (.int .i64 0))], none⟩,
 ⟨none, .st 6 (.t 13) (.t 96), none⟩]))
 (.seq (.reg [⟨(some 97), .fadr 3 (.t 13), none⟩,
 ⟨none, .st 1 (.t 97) (.c .nils), none⟩])
 (.seq (.seq (.seq (.bindto 13 3 1)
 (.reg [⟨(some 98), .fadr 0 (.t 2), none⟩,
 ⟨(some 99), .ld none (.t 98), none⟩,
 ⟨(some 100), .mv (.t 12), none⟩,
 ⟨(some 101), .iadr 6 (.t 99) (.t 100), none⟩,
 ⟨(some 102), .fadr 3 (.t 101), none⟩,
 ⟨(some 103), .ld none (.t 102), none⟩,
 ⟨(some 104), .len false (.t 103), none⟩,
 ⟨(some 105), .mv (.c (.d (.int .i64 0))), none⟩]))
 (.block 4 (.loop K11_1 L11_1)))
 (.reg [⟨(some 119), .fadr 0 (.t 11), none⟩,
 ⟨(some 120), .ld none (.t 119), none⟩,
 ⟨(some 121), .ld (some 6) (.t 13), none⟩,
 ⟨(some 122), .bslice 6 1 [(.t 121)], none⟩,
 ⟨(some 123), .app 6 72 (.t 120) (.t 122), none⟩,
 ⟨(some 124), .fadr 0 (.t 11), none⟩,
 ⟨none, .st 1 (.t 124) (.t 123), none⟩]))))))))
 (.reg [⟨(some 125), .bin .add (.t 78) (.c (.d (.int .i64 1))), none⟩,
 ⟨(some 78), .mv (.t 125), none⟩]))))
def B11 : VCode :=
 (.seq (.reg [⟨(some 2), .box (.t 0), none⟩,
 ⟨(some 4), .zbox [.nils], none⟩,
 ⟨(some 5), .mv (.c (.d (.int .i64 0))), none⟩])
 (.seq (.seq (.reg [⟨(some 16), .ld (some 1) (.t 2), none⟩,
 ⟨(some 17), .call 17 [(.t 16)], none⟩,
 ⟨(some 18), .bin .neq (.t 17) (.c (.d (.int .i64 0))), none⟩])
 (.cond (.t 18)
 (.seq (.reg [⟨(some 19), .build [.nils] [], none⟩,
 ⟨none, .st 1 (.t 4) (.t 19), none⟩,
 ⟨(some 5), .mv (.c (.d (.int .i64 3))), none⟩])
 .ret)
 .skip))
 (.seq (.seq (.reg [⟨(some 20), .mv (.t 1), none⟩,
 ⟨(some 21), .bin .lss (.t 20) (.c (.d (.int .i64 0))), none⟩,
 ⟨(some 22), .mv (.t 21), none⟩,
 ⟨(some 23), .mv (.t 1), some (22, false)⟩,
 ⟨(some 24), .fadr 0 (.t 2), some (22, false)⟩,
 ⟨(some 25), .ld none (.t 24), some (22, false)⟩,
 ⟨(some 26), .len false (.t 25), some (22, false)⟩,
 ⟨(some 27), .bin .geq (.t 23) (.t 26), some (22, false)⟩,
 ⟨(some 28), .pick (.t 22) (.c (.d (.bool true))) (.t 27), none⟩])
 (.cond (.t 28)
 (.seq (.reg [⟨(some 29), .build [.nils] [], none⟩,
 ⟨none, .st 1 (.t 4) (.t 29), none⟩,
 ⟨(some 5), .mv (.c (.d (.int .i64 9))), none⟩])
 .ret)
 .skip))
 (.seq (.reg [⟨(some 31), .ld (some 1) (.t 2), none⟩,
 ⟨(some 32), .call 20 [(.t 31)], none⟩,
 ⟨(some 30), .mv (.t 32), none⟩,
 ⟨(some 33), .ext (.t 30) 0, none⟩,
 ⟨(some 34), .ext (.t 30) 1, none⟩,
 ⟨(some 6), .mv (.t 33), none⟩,
 ⟨(some 7), .mv (.t 34), none⟩])
 (.seq (.reg [⟨(some 35), .mv (.t 1), none⟩,
 ⟨(some 36), .bin .add (.t 35) (.c (.d (.int .i64 1))), none⟩,
 ⟨(some 37), .msl 1 1 [(.d (.bool false))] (.t 36), none⟩,
 ⟨(some 8), .mv (.t 37), none⟩])
 (.seq (.reg [⟨(some 38), .mv (.t 1), none⟩,
 ⟨(some 39), .bin .add (.t 38) (.c (.d (.int .i64 1))), none⟩,
 ⟨(some 40), .msl 1 8 [(.d (.int .i64 0))] (.t 39), none⟩,
 ⟨(some 9), .mv (.t 40), none⟩])
 (.seq (.seq (.reg [⟨(some 41), .mv (.t 1), none⟩,
 ⟨(some 10), .mv (.t 41), none⟩])
 (.block 0 (.loop K11_0 L11_0)))
 (.seq (.seq (.mkrow 6)
 (.reg [⟨(some 11), .zbox [.nils], none⟩]))
 (.seq (.seq (.seq (.bindto 11 0 1)
 (.reg [⟨(some 76), .mv (.t 8), none⟩,
 ⟨(some 77), .len false (.t 76), none⟩,
 ⟨(some 78), .mv (.c (.d (.int .i64 0))), none⟩]))
 (.block 2 (.loop K11_2 L11_2)))
 (.seq (.reg [⟨(some 126), .ld (some 1) (.t 11), none⟩,
 ⟨none, .st 1 (.t 4) (.t 126), none⟩,
 ⟨(some 5), .mv (.c (.d (.int .i64 0))), none⟩])
 .ret))))))))))
def F11 : VFn := ⟨2, 127, B11, [.cell 4 (some 1), .tmp 5], false⟩

def A11 : Ann := ⟨keepOf [(9, [1, 2, 4, 6, 8, 9, 10]), (14, [2, 4, 8, 9, 11, 77, 78]), (21, [2, 4, 8, 9, 11, 13, 77, 78, 103, 104, 105])], ghostOf [(12, [.mkrow 6]), (13, [.bindto 11 0 1]), (18, [.mkrow 1]), (20, [.bindto 13 3 1])]⟩
-- 12 patina/patinaplain.Tree
def K12_0 : List Nat := [3, 16, 17, 18]
def L12_0 : VCode :=
 (.seq (.reg [⟨(some 19), .bin .lss (.t 18) (.t 17), none⟩])
 (.seq (.cond (.t 19)
 .skip
 (.exit 0))
 (.seq (.block 1 (.seq (.reg [⟨(some 20), .mv (.t 18), none⟩,
 ⟨(some 21), .iadr 6 (.t 16) (.t 18), none⟩,
 ⟨(some 22), .ld (some 6) (.t 21), none⟩,
 ⟨(some 6), .zbox [(.d (.int .i64 0)), (.d (.str [])), (.d (.int .i64 0)), .nils, (.d (.int .i64 0)), (.d (.int .i64 0))], none⟩,
 ⟨(some 5), .mv (.t 20), none⟩,
 ⟨none, .st 6 (.t 6) (.t 22), none⟩])
 (.seq (.reg [⟨(some 23), .fadr 0 (.t 3), none⟩,
 ⟨(some 24), .ld none (.t 23), none⟩,
 ⟨(some 25), .mv (.t 5), none⟩,
 ⟨(some 26), .iadr 6 (.t 24) (.t 25), none⟩,
 ⟨(some 27), .ld (some 6) (.t 26), none⟩,
 ⟨(some 7), .zbox [(.d (.int .i64 0)), (.d (.str [])), (.d (.int .i64 0)), .nils, (.d (.int .i64 0)), (.d (.int .i64 0))], none⟩,
 ⟨none, .st 6 (.t 7) (.t 27), none⟩])
 (.seq (.reg [⟨(some 28), .fadr 0 (.t 6), none⟩,
 ⟨(some 29), .ld none (.t 28), none⟩,
 ⟨(some 30), .fadr 0 (.t 7), none⟩,
 ⟨(some 31), .ld none (.t 30), none⟩,
 ⟨(some 32), .bin .neq (.t 29) (.t 31), none⟩,
 ⟨(some 33), .mv (.t 32), none⟩,
 ⟨(some 34), .fadr 1 (.t 6), some (33, false)⟩,
 ⟨(some 35), .ld none (.t 34), some (33, false)⟩,
 ⟨(some 36), .fadr 1 (.t 7), some (33, false)⟩,
 ⟨(some 37), .ld none (.t 36), some (33, false)⟩,
 ⟨(some 38), .bin .neq (.t 35) (.t 37), some (33, false)⟩,
 ⟨(some 39), .pick (.t 33) (.c (.d (.bool true))) (.t 38), none⟩,
 ⟨(some 40), .mv (.t 39), none⟩,
 ⟨(some 41), .fadr 2 (.t 6), some (40, false)⟩,
 ⟨(some 42), .ld none (.t 41), some (40, false)⟩,
 ⟨(some 43), .fadr 2 (.t 7), some (40, false)⟩,
 ⟨(some 44), .ld none (.t 43), some (40, false)⟩,
 ⟨(some 45), .bin .neq (.t 42) (.t 44), some (40, false)⟩,
 ⟨(some 46), .pick (.t 40) (.c (.d (.bool true))) (.t 45), none⟩,
 ⟨(some 47), .mv (.t 46), none⟩,
 ⟨(some 48), .fadr 4 (.t 6), some (47, false)⟩,
 ⟨(some 49), .ld none (.t 48), some (47, false)⟩,
 ⟨(some 50), .fadr 4 (.t 7), some (47, false)⟩,
 ⟨(some 51), .ld none (.t 50), some (47, false)⟩,
 ⟨(some 52), .bin .neq (.t 49) (.t 51), some (47, false)⟩,
 ⟨(some 53), .pick (.t 47) (.c (.d (.bool true))) (.t 52), none⟩,
 ⟨(some 54), .mv (.t 53), none⟩,
 ⟨(some 55), .fadr 5 (.t 6), some (54, false)⟩,
 ⟨(some 56), .ld none (.t 55), some (54, false)⟩,
 ⟨(some 57), .fadr 5 (.t 7), some (54, false)⟩,
 ⟨(some 58), .ld none (.t 57), some (54, false)⟩,
 ⟨(some 59), .bin .neq (.t 56) (.t 58), some (54, false)⟩,
 ⟨(some 60), .pick (.t 54) (.c (.d (.bool true))) (.t 59), none⟩,
 ⟨(some 61), .mv (.t 60), none⟩,
 ⟨(some 62), .fadr 3 (.t 6), some (61, false)⟩,
 ⟨(some 63), .ld none (.t 62), some (61, false)⟩,
 ⟨(some 64), .fadr 3 (.t 7), some (61, false)⟩,
 ⟨(some 65), .ld none (.t 64), some (61, false)⟩,
 ⟨(some 66), .call 21 [(.t 63), (.t 65)], some (61, false)⟩,
 ⟨(some 67), .un .not (.t 66), some (61, false)⟩,
 ⟨(some 68), .pick (.t 61) (.c (.d (.bool true))) (.t 67), none⟩])
 (.cond (.t 68)
 (.seq (.reg [⟨(some 4), .mv (.c (.d (.bool false))), none⟩])
 .ret)
 .skip)))))
 (.reg [⟨(some 69), .bin .add (.t 18) (.c (.d (.int .i64 1))), none⟩,
 ⟨(some 18), .mv (.t 69), none⟩]))))
def B12 : VCode :=
 (.seq (.reg [⟨(some 2), .box (.t 0), none⟩,
 ⟨(some 3), .box (.t 1), none⟩,
 ⟨(some 4), .mv (.c (.d (.bool false))), none⟩])
 (.seq (.seq (.reg [⟨(some 8), .fadr 0 (.t 2), none⟩,
 ⟨(some 9), .ld none (.t 8), none⟩,
 ⟨(some 10), .len false (.t 9), none⟩,
 ⟨(some 11), .fadr 0 (.t 3), none⟩,
 ⟨(some 12), .ld none (.t 11), none⟩,
 ⟨(some 13), .len false (.t 12), none⟩,
 ⟨(some 14), .bin .neq (.t 10) (.t 13), none⟩])
 (.cond (.t 14)
 (.seq (.reg [⟨(some 4), .mv (.c (.d (.bool false))), none⟩])
 .ret)
 .skip))
 (.seq (.seq (.reg [⟨(some 15), .fadr 0 (.t 2), none⟩,
 ⟨(some 16), .ld none (.t 15), none⟩,
 ⟨(some 17), .len false (.t 16), none⟩,
 ⟨(some 18), .mv (.c (.d (.int .i64 0))), none⟩])
 (.block 0 (.loop K12_0 L12_0)))
 (.seq (.reg [⟨(some 4), .mv (.c (.d (.bool true))), none⟩])
 .ret))))
def F12 : VFn := ⟨2, 70, B12, [.tmp 4], false⟩

def A12 : Ann := ⟨keepOf [(4, [3, 16, 17, 18])], ghostOf []⟩
-- 13 slices.EqualFunc[[]patina/api.Node,[]patina/api.Node,patina/api.Node,patina/api.Node]
def K13_0 : List Nat := [1, 2, 15, 16, 17]
def L13_0 : VCode :=
 (.seq (.reg [⟨(some 18), .bin .lss (.t 17) (.t 16), none⟩])
 (.seq (.cond (.t 18)
 .skip
 (.exit 0))
 (.seq (.block 1 (.seq (.reg [⟨(some 19), .mv (.t 17), none⟩,
 ⟨(some 20), .iadr 6 (.t 15) (.t 17), none⟩,
 ⟨(some 21), .ld (some 6) (.t 20), none⟩,
 ⟨(some 8), .zbox [(.d (.int .i64 0)), (.d (.str [])), (.d (.int .i64 0)), .nils, (.d (.int .i64 0)), (.d (.int .i64 0))], none⟩,
 ⟨(some 7), .mv (.t 19), none⟩,
 ⟨none, .st 6 (.t 8) (.t 21), none⟩])
 (.seq (.reg [⟨(some 22), .mv (.t 1), none⟩,
 ⟨(some 23), .mv (.t 7), none⟩,
 ⟨(some 24), .iadr 6 (.t 22) (.t 23), none⟩,
 ⟨(some 25), .ld (some 6) (.t 24), none⟩,
 ⟨(some 9), .zbox [(.d (.int .i64 0)), (.d (.str [])), (.d (.int .i64 0)), .nils, (.d (.int .i64 0)), (.d (.int .i64 0))], none⟩,
 ⟨none, .st 6 (.t 9) (.t 25), none⟩])
 (.seq (.reg [⟨(some 26), .mv (.t 2), none⟩,
 ⟨(some 27), .ld (some 6) (.t 8), none⟩,
 ⟨(some 28), .ld (some 6) (.t 9), none⟩,
 ⟨(some 29), .callv (.t 26) [(.t 27), (.t 28)], none⟩,
 ⟨(some 30), .un .not (.t 29), none⟩])
 (.cond (.t 30)
 (.seq (.reg [⟨(some 6), .mv (.c (.d (.bool false))), none⟩])
 .ret)
 .skip)))))
 (.reg [⟨(some 31), .bin .add (.t 17) (.c (.d (.int .i64 1))), none⟩,
 ⟨(some 17), .mv (.t 31), none⟩]))))
def B13 : VCode :=
 (.seq (.reg [⟨(some 6), .mv (.c (.d (.bool false))), none⟩])
 (.seq (.seq (.reg [⟨(some 10), .mv (.t 0), none⟩,
 ⟨(some 11), .len false (.t 10), none⟩,
 ⟨(some 12), .mv (.t 1), none⟩,
 ⟨(some 13), .len false (.t 12), none⟩,
 ⟨(some 14), .bin .neq (.t 11) (.t 13), none⟩])
 (.cond (.t 14)
 (.seq (.reg [⟨(some 6), .mv (.c (.d (.bool false))), none⟩])
 .ret)
 .skip))
 (.seq (.seq (.reg [⟨(some 15), .mv (.t 0), none⟩,
 ⟨(some 16), .len false (.t 15), none⟩,
 ⟨(some 17), .mv (.c (.d (.int .i64 0))), none⟩])
 (.block 0 (.loop K13_0 L13_0)))
 (.seq (.reg [⟨(some 6), .mv (.c (.d (.bool true))), none⟩])
 .ret))))
def F13 : VFn := ⟨3, 32, B13, [.tmp 6], false⟩

def A13 : Ann := ⟨keepOf [(4, [1, 2, 15, 16, 17])], ghostOf []⟩
-- 14 patina/tree.Same$1
def B14 : VCode :=
 (.seq (.reg [⟨(some 2), .box (.t 0), none⟩,
 ⟨(some 3), .box (.t 1), none⟩,
 ⟨(some 4), .mv (.c (.d (.bool false))), none⟩])
 (.seq (.reg [⟨(some 5), .fadr 0 (.t 2), none⟩,
 ⟨(some 6), .ld none (.t 5), none⟩,
 ⟨(some 7), .fadr 0 (.t 3), none⟩,
 ⟨(some 8), .ld none (.t 7), none⟩,
 ⟨(some 9), .bin .eql (.t 6) (.t 8), none⟩,
 ⟨(some 10), .mv (.t 9), none⟩,
 ⟨(some 11), .fadr 1 (.t 2), some (10, true)⟩,
 ⟨(some 12), .ld none (.t 11), some (10, true)⟩,
 ⟨(some 13), .fadr 1 (.t 3), some (10, true)⟩,
 ⟨(some 14), .ld none (.t 13), some (10, true)⟩,
 ⟨(some 15), .bin .eql (.t 12) (.t 14), some (10, true)⟩,
 ⟨(some 16), .pick (.t 10) (.t 15) (.c (.d (.bool false))), none⟩,
 ⟨(some 17), .mv (.t 16), none⟩,
 ⟨(some 18), .fadr 2 (.t 2), some (17, true)⟩,
 ⟨(some 19), .ld none (.t 18), some (17, true)⟩,
 ⟨(some 20), .fadr 2 (.t 3), some (17, true)⟩,
 ⟨(some 21), .ld none (.t 20), some (17, true)⟩,
 ⟨(some 22), .bin .eql (.t 19) (.t 21), some (17, true)⟩,
 ⟨(some 23), .pick (.t 17) (.t 22) (.c (.d (.bool false))), none⟩,
 ⟨(some 24), .mv (.t 23), none⟩,
 ⟨(some 25), .fadr 3 (.t 2), some (24, true)⟩,
 ⟨(some 26), .ld none (.t 25), some (24, true)⟩,
 ⟨(some 27), .fadr 3 (.t 3), some (24, true)⟩,
 ⟨(some 28), .ld none (.t 27), some (24, true)⟩,
 ⟨(some 29), .call 15 [(.t 26), (.t 28)], some (24, true)⟩,
 ⟨(some 30), .pick (.t 24) (.t 29) (.c (.d (.bool false))), none⟩,
 ⟨(some 4), .mv (.t 30), none⟩])
 .ret))
def F14 : VFn := ⟨2, 31, B14, [.tmp 4], false⟩

def A14 : Ann := ⟨keepOf [], ghostOf []⟩
-- 15 slices.Equal[[]int,int]
def K15_0 : List Nat := [0, 1, 12, 13]
def L15_0 : VCode :=
 (.seq (.reg [⟨(some 14), .bin .lss (.t 13) (.t 12), none⟩])
 (.seq (.cond (.t 14)
 .skip
 (.exit 0))
 (.seq (.block 1 (.seq (.reg [⟨(some 15), .mv (.t 13), none⟩,
 ⟨(some 5), .mv (.t 15), none⟩])
 (.seq (.draw 8 [⟨(some 16), .mv (.t 0), none⟩,
 ⟨(some 17), .mv (.t 5), none⟩,
 ⟨(some 18), .iadr 1 (.t 16) (.t 17), none⟩,
 ⟨(some 19), .ld none (.t 18), none⟩,
 ⟨(some 20), .mv (.t 1), none⟩,
 ⟨(some 21), .mv (.t 5), none⟩,
 ⟨(some 22), .iadr 1 (.t 20) (.t 21), none⟩,
 ⟨(some 23), .ld none (.t 22), none⟩,
 ⟨(some 24), .bin .neq (.t 19) (.t 23), none⟩])
 (.cond (.t 24)
 (.seq (.reg [⟨(some 4), .mv (.c (.d (.bool false))), none⟩])
 .ret)
 .skip))))
 (.reg [⟨(some 25), .bin .add (.t 13) (.c (.d (.int .i64 1))), none⟩,
 ⟨(some 13), .mv (.t 25), none⟩]))))
def B15 : VCode :=
 (.seq (.reg [⟨(some 4), .mv (.c (.d (.bool false))), none⟩])
 (.seq (.seq (.reg [⟨(some 6), .mv (.t 0), none⟩,
 ⟨(some 7), .len false (.t 6), none⟩,
 ⟨(some 8), .mv (.t 1), none⟩,
 ⟨(some 9), .len false (.t 8), none⟩,
 ⟨(some 10), .bin .neq (.t 7) (.t 9), none⟩])
 (.cond (.t 10)
 (.seq (.reg [⟨(some 4), .mv (.c (.d (.bool false))), none⟩])
 .ret)
 .skip))
 (.seq (.seq (.reg [⟨(some 11), .mv (.t 0), none⟩,
 ⟨(some 12), .len false (.t 11), none⟩,
 ⟨(some 13), .mv (.c (.d (.int .i64 0))), none⟩])
 (.block 0 (.loop K15_0 L15_0)))
 (.seq (.reg [⟨(some 4), .mv (.c (.d (.bool true))), none⟩])
 .ret))))
def F15 : VFn := ⟨2, 26, B15, [.tmp 4], false⟩

def A15 : Ann := ⟨keepOf [(4, [0, 1, 12, 13])], ghostOf []⟩
-- 16 patina/tree.Depth
def B16 : VCode :=
 (.seq (.reg [⟨(some 1), .box (.t 0), none⟩,
 ⟨(some 2), .mv (.c (.d (.int .i64 0))), none⟩,
 ⟨(some 3), .mv (.c (.d (.int .i64 0))), none⟩])
 (.seq (.seq (.reg [⟨(some 6), .ld (some 1) (.t 1), none⟩,
 ⟨(some 7), .call 17 [(.t 6)], none⟩,
 ⟨(some 8), .bin .neq (.t 7) (.c (.d (.int .i64 0))), none⟩])
 (.cond (.t 8)
 (.seq (.reg [⟨(some 2), .mv (.c (.d (.int .i64 0))), none⟩,
 ⟨(some 3), .mv (.c (.d (.int .i64 3))), none⟩])
 .ret)
 .skip))
 (.seq (.reg [⟨(some 10), .ld (some 1) (.t 1), none⟩,
 ⟨(some 11), .call 20 [(.t 10)], none⟩,
 ⟨(some 9), .mv (.t 11), none⟩,
 ⟨(some 12), .ext (.t 9) 0, none⟩,
 ⟨(some 13), .ext (.t 9) 1, none⟩,
 ⟨(some 4), .mv (.t 12), none⟩,
 ⟨(some 5), .mv (.t 13), none⟩])
 (.seq (.reg [⟨(some 14), .mv (.t 4), none⟩,
 ⟨(some 15), .call 23 [(.t 14)], none⟩,
 ⟨(some 16), .call 22 [(.t 15)], none⟩,
 ⟨(some 2), .mv (.t 16), none⟩,
 ⟨(some 3), .mv (.c (.d (.int .i64 0))), none⟩])
 .ret))))
def F16 : VFn := ⟨1, 17, B16, [.tmp 2, .tmp 3], false⟩

def A16 : Ann := ⟨keepOf [], ghostOf []⟩
-- 17 patina/tree.Check
def K17_0 : List Nat := [1, 28, 29]
def L17_0 : VCode :=
 (.seq (.reg [⟨(some 30), .bin .lss (.t 29) (.t 28), none⟩])
 (.seq (.cond (.t 30)
 .skip
 (.exit 0))
 (.seq (.block 1 (.seq (.reg [⟨(some 31), .mv (.t 29), none⟩,
 ⟨(some 4), .mv (.t 31), none⟩])
 (.seq (.reg [⟨(some 32), .ld (some 1) (.t 1), none⟩,
 ⟨(some 33), .mv (.t 4), none⟩,
 ⟨(some 34), .call 24 [(.t 32), (.t 33)], none⟩,
 ⟨(some 35), .un .not (.t 34), none⟩])
 (.cond (.t 35)
 (.seq (.reg [⟨(some 2), .mv (.c (.d (.int .i64 3))), none⟩])
 .ret)
 .skip))))
 (.reg [⟨(some 36), .bin .add (.t 29) (.c (.d (.int .i64 1))), none⟩,
 ⟨(some 29), .mv (.t 36), none⟩]))))
def B17 : VCode :=
 (.seq (.reg [⟨(some 1), .box (.t 0), none⟩,
 ⟨(some 2), .mv (.c (.d (.int .i64 0))), none⟩])
 (.seq (.reg [⟨(some 7), .fadr 0 (.t 1), none⟩,
 ⟨(some 8), .ld none (.t 7), none⟩,
 ⟨(some 9), .len false (.t 8), none⟩,
 ⟨(some 3), .mv (.t 9), none⟩])
 (.seq (.seq (.reg [⟨(some 10), .mv (.t 3), none⟩,
 ⟨(some 11), .bin .lss (.t 10) (.c (.d (.int .i64 1))), none⟩,
 ⟨(some 12), .mv (.t 11), none⟩,
 ⟨(some 13), .mv (.t 3), some (12, false)⟩,
 ⟨(some 14), .bin .gtr (.t 13) (.c (.d (.int .i64 20000))), some (12, false)⟩,
 ⟨(some 15), .pick (.t 12) (.c (.d (.bool true))) (.t 14), none⟩,
 ⟨(some 16), .mv (.t 15), none⟩,
 ⟨(some 17), .fadr 0 (.t 1), some (16, false)⟩,
 ⟨(some 18), .ld none (.t 17), some (16, false)⟩,
 ⟨(some 19), .mv (.t 3), some (16, false)⟩,
 ⟨(some 20), .bin .sub (.t 19) (.c (.d (.int .i64 1))), some (16, false)⟩,
 ⟨(some 21), .iadr 6 (.t 18) (.t 20), some (16, false)⟩,
 ⟨(some 22), .fadr 0 (.t 21), some (16, false)⟩,
 ⟨(some 23), .ld none (.t 22), some (16, false)⟩,
 ⟨(some 24), .bin .neq (.t 23) (.c (.d (.int .i64 1))), some (16, false)⟩,
 ⟨(some 25), .pick (.t 16) (.c (.d (.bool true))) (.t 24), none⟩])
 (.cond (.t 25)
 (.seq (.reg [⟨(some 2), .mv (.c (.d (.int .i64 3))), none⟩])
 .ret)
 .skip))
 (.seq (.seq (.reg [⟨(some 26), .fadr 0 (.t 1), none⟩,
 ⟨(some 27), .ld none (.t 26), none⟩,
 ⟨(some 28), .len false (.t 27), none⟩,
 ⟨(some 29), .mv (.c (.d (.int .i64 0))), none⟩])
 (.block 0 (.loop K17_0 L17_0)))
 (.seq (.reg [⟨(some 38), .ld (some 1) (.t 1), none⟩,
 ⟨(some 39), .call 20 [(.t 38)], none⟩,
 ⟨(some 37), .mv (.t 39), none⟩,
 ⟨(some 40), .ext (.t 37) 0, none⟩,
 ⟨(some 41), .ext (.t 37) 1, none⟩,
 ⟨(some 5), .mv (.t 40), none⟩,
 ⟨(some 6), .mv (.t 41), none⟩])
 (.seq (.seq (.reg [⟨(some 42), .mv (.t 6), none⟩,
 ⟨(some 43), .un .not (.t 42), none⟩,
 ⟨(some 44), .mv (.t 43), none⟩,
 ⟨(some 45), .mv (.t 5), some (44, false)⟩,
 ⟨(some 46), .call 23 [(.t 45)], some (44, false)⟩,
 ⟨(some 47), .call 22 [(.t 46)], some (44, false)⟩,
 ⟨(some 48), .bin .gtr (.t 47) (.c (.d (.int .i64 400))), some (44, false)⟩,
 ⟨(some 49), .pick (.t 44) (.c (.d (.bool true))) (.t 48), none⟩])
 (.cond (.t 49)
 (.seq (.reg [⟨(some 2), .mv (.c (.d (.int .i64 3))), none⟩])
 .ret)
 .skip))
 (.seq (.reg [⟨(some 2), .mv (.c (.d (.int .i64 0))), none⟩])
 .ret)))))))
def F17 : VFn := ⟨1, 50, B17, [.tmp 2], false⟩

def A17 : Ann := ⟨keepOf [(5, [1, 28, 29])], ghostOf []⟩
-- 18 (*patina/tree.printer).node
def B18 : VCode :=
 (.seq (.reg [⟨(some 5), .mv (.t 0), none⟩,
 ⟨(some 6), .nilck (.t 5), none⟩,
 ⟨(some 7), .fadr 0 (.t 6), none⟩,
 ⟨(some 8), .fadr 0 (.t 7), none⟩,
 ⟨(some 9), .ld none (.t 8), none⟩,
 ⟨(some 10), .mv (.t 1), none⟩,
 ⟨(some 11), .iadr 6 (.t 9) (.t 10), none⟩,
 ⟨(some 12), .ld (some 6) (.t 11), none⟩,
 ⟨(some 4), .zbox [(.d (.int .i64 0)), (.d (.str [])), (.d (.int .i64 0)), .nils, (.d (.int .i64 0)), (.d (.int .i64 0))], none⟩,
 ⟨none, .st 6 (.t 4) (.t 12), none⟩])
 (.block 0 (.seq (.reg [⟨(some 17), .fadr 0 (.t 4), none⟩,
 ⟨(some 18), .ld none (.t 17), none⟩,
 ⟨(some 19), .bin .eql (.t 18) (.c (.d (.int .i64 20))), none⟩,
 ⟨(some 16), .mv (.t 19), none⟩])
 (.cond (.t 16)
 (.reg [⟨(some 20), .mv (.t 0), none⟩,
 ⟨(some 21), .ld (some 6) (.t 4), none⟩,
 ⟨(some 22), .call 25 [(.t 20), (.t 21)], none⟩])
 (.seq (.reg [⟨(some 24), .fadr 0 (.t 4), none⟩,
 ⟨(some 25), .ld none (.t 24), none⟩,
 ⟨(some 26), .bin .leq (.t 25) (.c (.d (.int .i64 7))), none⟩,
 ⟨(some 23), .mv (.t 26), none⟩])
 (.cond (.t 23)
 (.reg [⟨(some 27), .mv (.t 0), none⟩,
 ⟨(some 28), .ld (some 6) (.t 4), none⟩,
 ⟨(some 29), .call 26 [(.t 27), (.t 28)], none⟩])
 (.seq (.reg [⟨(some 31), .fadr 0 (.t 4), none⟩,
 ⟨(some 32), .ld none (.t 31), none⟩,
 ⟨(some 33), .call 27 [(.t 32)], none⟩,
 ⟨(some 30), .mv (.t 33), none⟩])
 (.cond (.t 30)
 (.reg [⟨(some 34), .mv (.t 0), none⟩,
 ⟨(some 35), .ld (some 6) (.t 4), none⟩,
 ⟨(some 36), .call 28 [(.t 34), (.t 35)], none⟩])
 (.seq (.reg [⟨(some 38), .fadr 0 (.t 4), none⟩,
 ⟨(some 39), .ld none (.t 38), none⟩,
 ⟨(some 40), .call 29 [(.t 39)], none⟩,
 ⟨(some 37), .mv (.t 40), none⟩])
 (.cond (.t 37)
 (.reg [⟨(some 41), .mv (.t 0), none⟩,
 ⟨(some 42), .ld (some 6) (.t 4), none⟩,
 ⟨(some 43), .call 30 [(.t 41), (.t 42)], none⟩])
 (.seq (.reg [⟨(some 45), .fadr 0 (.t 4), none⟩,
 ⟨(some 46), .ld none (.t 45), none⟩,
 ⟨(some 47), .bin .geq (.t 46) (.c (.d (.int .i64 38))), none⟩,
 ⟨(some 48), .mv (.t 47), none⟩,
 ⟨(some 49), .fadr 0 (.t 4), some (48, true)⟩,
 ⟨(some 50), .ld none (.t 49), some (48, true)⟩,
 ⟨(some 51), .bin .leq (.t 50) (.c (.d (.int .i64 43))), some (48, true)⟩,
 ⟨(some 52), .pick (.t 48) (.t 51) (.c (.d (.bool false))), none⟩,
 ⟨(some 53), .mv (.t 52), none⟩,
 ⟨(some 54), .fadr 0 (.t 4), some (53, false)⟩,
 ⟨(some 55), .ld none (.t 54), some (53, false)⟩,
 ⟨(some 56), .bin .eql (.t 55) (.c (.d (.int .i64 45))), some (53, false)⟩,
 ⟨(some 57), .pick (.t 53) (.c (.d (.bool true))) (.t 56), none⟩,
 ⟨(some 58), .mv (.t 57), none⟩,
 ⟨(some 59), .fadr 0 (.t 4), some (58, false)⟩,
 ⟨(some 60), .ld none (.t 59), some (58, false)⟩,
 ⟨(some 61), .bin .eql (.t 60) (.c (.d (.int .i64 46))), some (58, false)⟩,
 ⟨(some 62), .pick (.t 58) (.c (.d (.bool true))) (.t 61), none⟩,
 ⟨(some 44), .mv (.t 62), none⟩])
 (.cond (.t 44)
 (.reg [⟨(some 63), .mv (.t 0), none⟩,
 ⟨(some 64), .ld (some 6) (.t 4), none⟩,
 ⟨(some 65), .call 31 [(.t 63), (.t 64)], none⟩])
 (.reg [⟨(some 13), .mv (.t 0), none⟩,
 ⟨(some 14), .ld (some 6) (.t 4), none⟩,
 ⟨(some 15), .call 32 [(.t 13), (.t 14)], none⟩])))))))))))))
def F18 : VFn := ⟨2, 66, B18, [], false⟩

def A18 : Ann := ⟨keepOf [], ghostOf []⟩
-- 20 patina/tree.parents
def K20_0 : List Nat := [1, 4, 15, 16]
def L20_0 : VCode :=
 (.seq (.reg [⟨(some 17), .bin .lss (.t 16) (.t 15), none⟩])
 (.seq (.cond (.t 17)
 .skip
 (.exit 0))
 (.seq (.block 1 (.seq (.reg [⟨(some 18), .mv (.t 16), none⟩,
 ⟨(some 5), .mv (.t 18), none⟩])
 (.reg [⟨(some 19), .mv (.t 4), none⟩,
 ⟨(some 20), .mv (.t 5), none⟩,
 ⟨(some 21), .iadr 1 (.t 19) (.t 20), none⟩,
 ⟨none, .st 1 (.t 21) (.c (.d (.int .i64 (-1)))), none⟩])))
 (.reg [⟨(some 22), .bin .add (.t 16) (.c (.d (.int .i64 1))), none⟩,
 ⟨(some 16), .mv (.t 22), none⟩]))))
def K20_1 : List Nat := [4, 6, 24, 25, 26, 32, 33, 34]
def L20_1 : VCode :=
 (.seq (.reg [⟨(some 35), .bin .lss (.t 34) (.t 33), none⟩])
 (.seq (.cond (.t 35)
 .skip
 (.exit 4))
 (.seq (.block 5 (.seq (.reg [⟨(some 36), .iadr 1 (.t 32) (.t 34), none⟩,
 ⟨(some 37), .ld none (.t 36), none⟩,
 ⟨(some 9), .mv (.t 37), none⟩])
 (.seq (.seq (.reg [⟨(some 38), .mv (.t 4), none⟩,
 ⟨(some 39), .mv (.t 9), none⟩,
 ⟨(some 40), .iadr 1 (.t 38) (.t 39), none⟩,
 ⟨(some 41), .ld none (.t 40), none⟩,
 ⟨(some 42), .bin .geq (.t 41) (.c (.d (.int .i64 0))), none⟩])
 (.cond (.t 42)
 (.seq (.reg [⟨(some 2), .mv (.c .nils), none⟩,
 ⟨(some 3), .mv (.c (.d (.bool false))), none⟩])
 .ret)
 .skip))
 (.reg [⟨(some 43), .mv (.t 4), none⟩,
 ⟨(some 44), .mv (.t 9), none⟩,
 ⟨(some 45), .mv (.t 6), none⟩,
 ⟨(some 46), .iadr 1 (.t 43) (.t 44), none⟩,
 ⟨none, .st 1 (.t 46) (.t 45), none⟩]))))
 (.reg [⟨(some 47), .bin .add (.t 34) (.c (.d (.int .i64 1))), none⟩,
 ⟨(some 34), .mv (.t 47), none⟩]))))
def K20_2 : List Nat := [4, 24, 25, 26]
def L20_2 : VCode :=
 (.seq (.reg [⟨(some 27), .bin .lss (.t 26) (.t 25), none⟩])
 (.seq (.cond (.t 27)
 .skip
 (.exit 2))
 (.seq (.block 3 (.seq (.reg [⟨(some 28), .mv (.t 26), none⟩,
 ⟨(some 29), .iadr 6 (.t 24) (.t 26), none⟩,
 ⟨(some 30), .ld (some 6) (.t 29), none⟩,
 ⟨(some 7), .zbox [(.d (.int .i64 0)), (.d (.str [])), (.d (.int .i64 0)), .nils, (.d (.int .i64 0)), (.d (.int .i64 0))], none⟩,
 ⟨(some 6), .mv (.t 28), none⟩,
 ⟨none, .st 6 (.t 7) (.t 30), none⟩])
 (.seq (.reg [⟨(some 31), .fadr 3 (.t 7), none⟩,
 ⟨(some 32), .ld none (.t 31), none⟩,
 ⟨(some 33), .len false (.t 32), none⟩,
 ⟨(some 34), .mv (.c (.d (.int .i64 0))), none⟩])
 (.block 4 (.loop K20_1 L20_1)))))
 (.reg [⟨(some 48), .bin .add (.t 26) (.c (.d (.int .i64 1))), none⟩,
 ⟨(some 26), .mv (.t 48), none⟩]))))
def B20 : VCode :=
 (.seq (.reg [⟨(some 1), .box (.t 0), none⟩,
 ⟨(some 2), .mv (.c .nils), none⟩,
 ⟨(some 3), .mv (.c (.d (.bool false))), none⟩])
 (.seq (.reg [⟨(some 10), .fadr 0 (.t 1), none⟩,
 ⟨(some 11), .ld none (.t 10), none⟩,
 ⟨(some 12), .len false (.t 11), none⟩,
 ⟨(some 13), .msl 1 8 [(.d (.int .i64 0))] (.t 12), none⟩,
 ⟨(some 4), .mv (.t 13), none⟩])
 (.seq (.seq (.reg [⟨(some 14), .mv (.t 4), none⟩,
 ⟨(some 15), .len false (.t 14), none⟩,
 ⟨(some 16), .mv (.c (.d (.int .i64 0))), none⟩])
 (.block 0 (.loop K20_0 L20_0)))
 (.seq (.seq (.reg [⟨(some 23), .fadr 0 (.t 1), none⟩,
 ⟨(some 24), .ld none (.t 23), none⟩,
 ⟨(some 25), .len false (.t 24), none⟩,
 ⟨(some 26), .mv (.c (.d (.int .i64 0))), none⟩])
 (.block 2 (.loop K20_2 L20_2)))
 (.seq (.seq (.freeze 4)
 (.reg [⟨(some 49), .mv (.t 4), none⟩,
 ⟨(some 50), .mv (.t 4), none⟩,
 ⟨(some 51), .len false (.t 50), none⟩,
 ⟨(some 52), .bin .eql (.t 51) (.c (.d (.int .i64 0))), none⟩,
 ⟨(some 53), .mv (.t 52), none⟩,
 ⟨(some 54), .mv (.t 4), some (53, false)⟩,
 ⟨(some 55), .mv (.t 4), some (53, false)⟩,
 ⟨(some 56), .len false (.t 55), some (53, false)⟩,
 ⟨(some 57), .bin .sub (.t 56) (.c (.d (.int .i64 1))), some (53, false)⟩,
 ⟨(some 58), .slc 1 (.t 54) none (some (.t 57)), some (53, false)⟩,
 ⟨(some 59), .call 36 [(.t 58), (.c (.d (.int .i64 (-1))))], some (53, false)⟩,
 ⟨(some 60), .un .not (.t 59), some (53, false)⟩,
 ⟨(some 61), .pick (.t 53) (.c (.d (.bool true))) (.t 60), none⟩,
 ⟨(some 2), .mv (.t 49), none⟩,
 ⟨(some 3), .mv (.t 61), none⟩]))
 .ret)))))
def F20 : VFn := ⟨1, 62, B20, [.tmp 2, .tmp 3], false⟩

def A20 : Ann := ⟨keepOf [(3, [1, 4, 15, 16]), (8, [4, 24, 25, 26]), (11, [4, 6, 24, 25, 26, 32, 33, 34])], ghostOf [(18, [.freeze 4])]⟩
-- 21 patina/patinaplain.Ints
def K21_0 : List Nat := [0, 1, 12, 13]
def L21_0 : VCode :=
 (.seq (.reg [⟨(some 14), .bin .lss (.t 13) (.t 12), none⟩])
 (.seq (.cond (.t 14)
 .skip
 (.exit 0))
 (.seq (.block 1 (.seq (.reg [⟨(some 15), .mv (.t 13), none⟩,
 ⟨(some 5), .mv (.t 15), none⟩])
 (.seq (.draw 8 [⟨(some 16), .mv (.t 0), none⟩,
 ⟨(some 17), .mv (.t 5), none⟩,
 ⟨(some 18), .iadr 1 (.t 16) (.t 17), none⟩,
 ⟨(some 19), .ld none (.t 18), none⟩,
 ⟨(some 20), .mv (.t 1), none⟩,
 ⟨(some 21), .mv (.t 5), none⟩,
 ⟨(some 22), .iadr 1 (.t 20) (.t 21), none⟩,
 ⟨(some 23), .ld none (.t 22), none⟩,
 ⟨(some 24), .bin .neq (.t 19) (.t 23), none⟩])
 (.cond (.t 24)
 (.seq (.reg [⟨(some 4), .mv (.c (.d (.bool false))), none⟩])
 .ret)
 .skip))))
 (.reg [⟨(some 25), .bin .add (.t 13) (.c (.d (.int .i64 1))), none⟩,
 ⟨(some 13), .mv (.t 25), none⟩]))))
def B21 : VCode :=
 (.seq (.reg [⟨(some 4), .mv (.c (.d (.bool false))), none⟩])
 (.seq (.seq (.reg [⟨(some 6), .mv (.t 0), none⟩,
 ⟨(some 7), .len false (.t 6), none⟩,
 ⟨(some 8), .mv (.t 1), none⟩,
 ⟨(some 9), .len false (.t 8), none⟩,
 ⟨(some 10), .bin .neq (.t 7) (.t 9), none⟩])
 (.cond (.t 10)
 (.seq (.reg [⟨(some 4), .mv (.c (.d (.bool false))), none⟩])
 .ret)
 .skip))
 (.seq (.seq (.reg [⟨(some 11), .mv (.t 0), none⟩,
 ⟨(some 12), .len false (.t 11), none⟩,
 ⟨(some 13), .mv (.c (.d (.int .i64 0))), none⟩])
 (.block 0 (.loop K21_0 L21_0)))
 (.seq (.reg [⟨(some 4), .mv (.c (.d (.bool true))), none⟩])
 .ret))))
def F21 : VFn := ⟨2, 26, B21, [.tmp 4], false⟩

def A21 : Ann := ⟨keepOf [(4, [0, 1, 12, 13])], ghostOf []⟩
-- 22 slices.Max[[]int,int]
def K22_0 : List Nat := [0, 3, 4]
def L22_0 : VCode :=
 (.seq (.seq (.reg [⟨(some 12), .mv (.t 4), none⟩,
 ⟨(some 13), .mv (.t 0), none⟩,
 ⟨(some 14), .len false (.t 13), none⟩,
 ⟨(some 15), .bin .lss (.t 12) (.t 14), none⟩])
 (.cond (.t 15)
 .skip
 (.exit 0)))
 (.seq (.block 1 (.reg [⟨(some 18), .mv (.t 3), none⟩,
 ⟨(some 19), .mv (.t 0), none⟩,
 ⟨(some 20), .mv (.t 4), none⟩,
 ⟨(some 21), .iadr 1 (.t 19) (.t 20), none⟩,
 ⟨(some 22), .ld none (.t 21), none⟩,
 ⟨(some 23), .mm true (.t 18) (.t 22), none⟩,
 ⟨(some 3), .mv (.t 23), none⟩]))
 (.reg [⟨(some 16), .mv (.t 4), none⟩,
 ⟨(some 17), .bin .add (.t 16) (.c (.d (.int .i64 1))), none⟩,
 ⟨(some 4), .mv (.t 17), none⟩])))
def B22 : VCode :=
 (.seq (.reg [⟨(some 2), .mv (.c (.d (.int .i64 0))), none⟩])
 (.seq (.seq (.reg [⟨(some 5), .mv (.t 0), none⟩,
 ⟨(some 6), .len false (.t 5), none⟩,
 ⟨(some 7), .bin .lss (.t 6) (.c (.d (.int .i64 1))), none⟩])
 (.cond (.t 7)
 (.reg [⟨(some 8), .no, none⟩,
 ⟨none, .no, none⟩])
 .skip))
 (.seq (.reg [⟨(some 9), .mv (.t 0), none⟩,
 ⟨(some 10), .iadr 1 (.t 9) (.c (.d (.int .i64 0))), none⟩,
 ⟨(some 11), .ld none (.t 10), none⟩,
 ⟨(some 3), .mv (.t 11), none⟩])
 (.seq (.seq (.reg [⟨(some 4), .mv (.c (.d (.int .i64 1))), none⟩])
 (.block 0 (.loop K22_0 L22_0)))
 (.seq (.reg [⟨(some 24), .mv (.t 3), none⟩,
 ⟨(some 2), .mv (.t 24), none⟩])
 .ret)))))
def F22 : VFn := ⟨1, 25, B22, [.tmp 2], false⟩

def A22 : Ann := ⟨keepOf [(5, [0, 3, 4])], ghostOf []⟩
-- 23 patina/tree.depths
def K23_0 : List Nat := [0, 3, 4]
def L23_0 : VCode :=
 (.seq (.seq (.reg [⟨(some 11), .mv (.t 4), none⟩,
 ⟨(some 12), .bin .geq (.t 11) (.c (.d (.int .i64 0))), none⟩])
 (.cond (.t 12)
 .skip
 (.exit 0)))
 (.seq (.block 1 (.seq (.reg [⟨(some 15), .mv (.t 0), none⟩,
 ⟨(some 16), .mv (.t 4), none⟩,
 ⟨(some 17), .iadr 1 (.t 15) (.t 16), none⟩,
 ⟨(some 18), .ld none (.t 17), none⟩,
 ⟨(some 19), .bin .geq (.t 18) (.c (.d (.int .i64 0))), none⟩])
 (.cond (.t 19)
 (.reg [⟨(some 20), .mv (.t 3), none⟩,
 ⟨(some 21), .mv (.t 4), none⟩,
 ⟨(some 22), .mv (.t 3), none⟩,
 ⟨(some 23), .mv (.t 0), none⟩,
 ⟨(some 24), .mv (.t 4), none⟩,
 ⟨(some 25), .iadr 1 (.t 23) (.t 24), none⟩,
 ⟨(some 26), .ld none (.t 25), none⟩,
 ⟨(some 27), .iadr 1 (.t 22) (.t 26), none⟩,
 ⟨(some 28), .ld none (.t 27), none⟩,
 ⟨(some 29), .bin .add (.t 28) (.c (.d (.int .i64 1))), none⟩,
 ⟨(some 30), .iadr 1 (.t 20) (.t 21), none⟩,
 ⟨none, .st 1 (.t 30) (.t 29), none⟩])
 .skip)))
 (.reg [⟨(some 13), .mv (.t 4), none⟩,
 ⟨(some 14), .bin .sub (.t 13) (.c (.d (.int .i64 1))), none⟩,
 ⟨(some 4), .mv (.t 14), none⟩])))
def B23 : VCode :=
 (.seq (.reg [⟨(some 2), .mv (.c .nils), none⟩])
 (.seq (.reg [⟨(some 5), .mv (.t 0), none⟩,
 ⟨(some 6), .len false (.t 5), none⟩,
 ⟨(some 7), .msl 1 8 [(.d (.int .i64 0))] (.t 6), none⟩,
 ⟨(some 3), .mv (.t 7), none⟩])
 (.seq (.seq (.reg [⟨(some 8), .mv (.t 0), none⟩,
 ⟨(some 9), .len false (.t 8), none⟩,
 ⟨(some 10), .bin .sub (.t 9) (.c (.d (.int .i64 1))), none⟩,
 ⟨(some 4), .mv (.t 10), none⟩])
 (.block 0 (.loop K23_0 L23_0)))
 (.seq (.seq (.freeze 3)
 (.reg [⟨(some 31), .mv (.t 3), none⟩,
 ⟨(some 2), .mv (.t 31), none⟩]))
 .ret))))
def F23 : VFn := ⟨1, 32, B23, [.tmp 2], false⟩

def A23 : Ann := ⟨keepOf [(3, [0, 3, 4])], ghostOf [(7, [.freeze 3])]⟩
-- 24 patina/tree.node
def K24_0 : List Nat := [1, 2, 5, 6, 7, 16, 17, 18]
def L24_0 : VCode :=
 (.seq (.reg [⟨(some 19), .bin .lss (.t 18) (.t 17), none⟩])
 (.seq (.cond (.t 19)
 .skip
 (.exit 0))
 (.seq (.block 1 (.seq (.reg [⟨(some 20), .iadr 1 (.t 16) (.t 18), none⟩,
 ⟨(some 21), .ld none (.t 20), none⟩,
 ⟨(some 9), .mv (.t 21), none⟩])
 (.seq (.seq (.reg [⟨(some 22), .mv (.t 9), none⟩,
 ⟨(some 23), .bin .lss (.t 22) (.c (.d (.int .i64 0))), none⟩,
 ⟨(some 24), .mv (.t 23), none⟩,
 ⟨(some 25), .mv (.t 9), some (24, false)⟩,
 ⟨(some 26), .mv (.t 1), some (24, false)⟩,
 ⟨(some 27), .bin .geq (.t 25) (.t 26), some (24, false)⟩,
 ⟨(some 28), .pick (.t 24) (.c (.d (.bool true))) (.t 27), none⟩])
 (.cond (.t 28)
 (.seq (.reg [⟨(some 4), .mv (.c (.d (.bool false))), none⟩])
 .ret)
 .skip))
 (.seq (.reg [⟨(some 29), .mv (.t 6), none⟩,
 ⟨(some 30), .fadr 0 (.t 2), none⟩,
 ⟨(some 31), .ld none (.t 30), none⟩,
 ⟨(some 32), .mv (.t 9), none⟩,
 ⟨(some 33), .iadr 6 (.t 31) (.t 32), none⟩,
 ⟨(some 34), .fadr 0 (.t 33), none⟩,
 ⟨(some 35), .ld none (.t 34), none⟩,
 ⟨(some 36), .bslice 1 1 [(.t 35)], none⟩,
 ⟨(some 37), .app 1 8 (.t 29) (.t 36), none⟩,
 ⟨(some 6), .mv (.t 37), none⟩])
 (.seq (.reg [⟨(some 38), .fadr 0 (.t 2), none⟩,
 ⟨(some 39), .ld none (.t 38), none⟩,
 ⟨(some 40), .mv (.t 9), none⟩,
 ⟨(some 41), .iadr 6 (.t 39) (.t 40), none⟩,
 ⟨(some 42), .fadr 0 (.t 41), none⟩,
 ⟨(some 43), .ld none (.t 42), none⟩,
 ⟨(some 44), .bin .eql (.t 43) (.c (.d (.int .i64 7))), none⟩])
 (.cond (.t 44)
 (.reg [⟨(some 45), .mv (.t 7), none⟩,
 ⟨(some 46), .bin .add (.t 45) (.c (.d (.int .i64 1))), none⟩,
 ⟨(some 7), .mv (.t 46), none⟩])
 .skip))))))
 (.reg [⟨(some 47), .bin .add (.t 18) (.c (.d (.int .i64 1))), none⟩,
 ⟨(some 18), .mv (.t 47), none⟩]))))
def B24 : VCode :=
 (.seq (.reg [⟨(some 2), .box (.t 0), none⟩,
 ⟨(some 4), .mv (.c (.d (.bool false))), none⟩])
 (.seq (.reg [⟨(some 10), .fadr 0 (.t 2), none⟩,
 ⟨(some 11), .ld none (.t 10), none⟩,
 ⟨(some 12), .mv (.t 1), none⟩,
 ⟨(some 13), .iadr 6 (.t 11) (.t 12), none⟩,
 ⟨(some 14), .ld (some 6) (.t 13), none⟩,
 ⟨(some 5), .zbox [(.d (.int .i64 0)), (.d (.str [])), (.d (.int .i64 0)), .nils, (.d (.int .i64 0)), (.d (.int .i64 0))], none⟩,
 ⟨none, .st 6 (.t 5) (.t 14), none⟩])
 (.seq (.reg [⟨(some 6), .mv (.c .nils), none⟩])
 (.seq (.reg [⟨(some 7), .mv (.c (.d (.int .i64 0))), none⟩])
 (.seq (.seq (.seq (.newrow 1 6)
 (.reg [⟨(some 15), .fadr 3 (.t 5), none⟩,
 ⟨(some 16), .ld none (.t 15), none⟩,
 ⟨(some 17), .len false (.t 16), none⟩,
 ⟨(some 18), .mv (.c (.d (.int .i64 0))), none⟩]))
 (.block 0 (.loop K24_0 L24_0)))
 (.seq (.reg [⟨(some 48), .fadr 0 (.t 5), none⟩,
 ⟨(some 49), .ld none (.t 48), none⟩,
 ⟨(some 50), .call 37 [(.t 49)], none⟩,
 ⟨(some 51), .mv (.t 50), none⟩,
 ⟨(some 52), .ld (some 6) (.t 5), some (51, true)⟩,
 ⟨(some 53), .call 38 [(.t 52)], some (51, true)⟩,
 ⟨(some 54), .pick (.t 51) (.t 53) (.c (.d (.bool false))), none⟩,
 ⟨(some 55), .mv (.t 54), none⟩,
 ⟨(some 56), .ld (some 6) (.t 5), some (55, true)⟩,
 ⟨(some 57), .mv (.t 7), some (55, true)⟩,
 ⟨(some 58), .call 39 [(.t 56), (.t 57)], some (55, true)⟩,
 ⟨(some 59), .pick (.t 55) (.t 58) (.c (.d (.bool false))), none⟩,
 ⟨(some 60), .mv (.t 59), none⟩,
 ⟨(some 61), .fadr 4 (.t 5), some (60, true)⟩,
 ⟨(some 62), .ld none (.t 61), some (60, true)⟩,
 ⟨(some 63), .bin .geq (.t 62) (.c (.d (.int .i64 0))), some (60, true)⟩,
 ⟨(some 64), .pick (.t 60) (.t 63) (.c (.d (.bool false))), none⟩,
 ⟨(some 65), .mv (.t 64), none⟩,
 ⟨(some 66), .fadr 4 (.t 5), some (65, true)⟩,
 ⟨(some 67), .ld none (.t 66), some (65, true)⟩,
 ⟨(some 68), .fadr 5 (.t 5), some (65, true)⟩,
 ⟨(some 69), .ld none (.t 68), some (65, true)⟩,
 ⟨(some 70), .bin .leq (.t 67) (.t 69), some (65, true)⟩,
 ⟨(some 71), .pick (.t 65) (.t 70) (.c (.d (.bool false))), none⟩,
 ⟨(some 72), .mv (.t 71), none⟩,
 ⟨(some 73), .ld (some 6) (.t 5), some (72, true)⟩,
 ⟨(some 74), .mv (.t 6), some (72, true)⟩,
 ⟨(some 75), .call 40 [(.t 73), (.t 74)], some (72, true)⟩,
 ⟨(some 76), .pick (.t 72) (.t 75) (.c (.d (.bool false))), none⟩,
 ⟨(some 4), .mv (.t 76), none⟩])
 .ret))))))
def F24 : VFn := ⟨2, 77, B24, [.tmp 4], false⟩

def A24 : Ann := ⟨keepOf [(5, [1, 2, 5, 6, 7, 16, 17, 18])], ghostOf [(4, [.newrow 1 6])]⟩
-- 25 (*patina/tree.printer).block
def K25_0 : List Nat := [0, 10, 11, 12]
def L25_0 : VCode :=
 (.seq (.reg [⟨(some 13), .bin .lss (.t 12) (.t 11), none⟩])
 (.seq (.cond (.t 13)
 .skip
 (.exit 0))
 (.seq (.block 1 (.seq (.reg [⟨(some 14), .iadr 1 (.t 10) (.t 12), none⟩,
 ⟨(some 15), .ld none (.t 14), none⟩,
 ⟨(some 5), .mv (.t 15), none⟩])
 (.reg [⟨(some 16), .mv (.t 0), none⟩,
 ⟨(some 17), .mv (.t 5), none⟩,
 ⟨(some 18), .call 18 [(.t 16), (.t 17)], none⟩])))
 (.reg [⟨(some 19), .bin .add (.t 12) (.c (.d (.int .i64 1))), none⟩,
 ⟨(some 12), .mv (.t 19), none⟩]))))
def B25 : VCode :=
 (.seq (.reg [⟨(some 3), .box (.t 1), none⟩])
 (.seq (.reg [⟨(some 6), .mv (.t 0), none⟩,
 ⟨(some 7), .bslice 1 1 [(.c (.d (.str [123])))], none⟩,
 ⟨(some 8), .call 41 [(.t 6), (.t 7)], none⟩])
 (.seq (.seq (.reg [⟨(some 9), .fadr 3 (.t 3), none⟩,
 ⟨(some 10), .ld none (.t 9), none⟩,
 ⟨(some 11), .len false (.t 10), none⟩,
 ⟨(some 12), .mv (.c (.d (.int .i64 0))), none⟩])
 (.block 0 (.loop K25_0 L25_0)))
 (.reg [⟨(some 20), .mv (.t 0), none⟩,
 ⟨(some 21), .bslice 1 1 [(.c (.d (.str [125])))], none⟩,
 ⟨(some 22), .call 41 [(.t 20), (.t 21)], none⟩]))))
def F25 : VFn := ⟨2, 23, B25, [], false⟩

def A25 : Ann := ⟨keepOf [(3, [0, 10, 11, 12])], ghostOf []⟩
-- 26 (*patina/tree.printer).item
def K26_0 : List Nat := [0, 22, 23, 24]
def L26_0 : VCode :=
 (.seq (.reg [⟨(some 25), .bin .lss (.t 24) (.t 23), none⟩])
 (.seq (.cond (.t 25)
 .skip
 (.exit 7))
 (.seq (.block 8 (.seq (.reg [⟨(some 26), .iadr 1 (.t 22) (.t 24), none⟩,
 ⟨(some 27), .ld none (.t 26), none⟩,
 ⟨(some 5), .mv (.t 27), none⟩])
 (.reg [⟨(some 28), .mv (.t 0), none⟩,
 ⟨(some 29), .mv (.t 5), none⟩,
 ⟨(some 30), .call 18 [(.t 28), (.t 29)], none⟩])))
 (.reg [⟨(some 31), .bin .add (.t 24) (.c (.d (.int .i64 1))), none⟩,
 ⟨(some 24), .mv (.t 31), none⟩]))))
def B26 : VCode :=
 (.seq (.reg [⟨(some 3), .box (.t 1), none⟩])
 (.seq (.reg [⟨(some 6), .fadr 0 (.t 3), none⟩,
 ⟨(some 7), .ld none (.t 6), none⟩])
 (.block 0 (.seq (.block 6 (.seq (.block 5 (.seq (.block 4 (.seq (.block 3 (.seq (.block 2 (.seq (.block 1 (.seq (.seq (.seq (.reg [⟨(some 9), .bin .eql (.t 7) (.c (.d (.int .i64 1))), none⟩,
 ⟨(some 8), .mv (.t 9), none⟩])
 (.cond (.t 8)
 (.exit 1)
 .skip))
 (.seq (.seq (.reg [⟨(some 11), .bin .eql (.t 7) (.c (.d (.int .i64 2))), none⟩,
 ⟨(some 10), .mv (.t 11), none⟩])
 (.cond (.t 10)
 (.exit 2)
 .skip))
 (.seq (.seq (.seq (.reg [⟨(some 13), .bin .eql (.t 7) (.c (.d (.int .i64 3))), none⟩,
 ⟨(some 12), .mv (.t 13), none⟩])
 (.cond (.t 12)
 .skip
 (.reg [⟨(some 14), .bin .eql (.t 7) (.c (.d (.int .i64 4))), none⟩,
 ⟨(some 12), .mv (.t 14), none⟩])))
 (.cond (.t 12)
 (.exit 3)
 .skip))
 (.seq (.seq (.reg [⟨(some 16), .bin .eql (.t 7) (.c (.d (.int .i64 6))), none⟩,
 ⟨(some 15), .mv (.t 16), none⟩])
 (.cond (.t 15)
 (.exit 4)
 .skip))
 (.seq (.seq (.reg [⟨(some 18), .bin .eql (.t 7) (.c (.d (.int .i64 7))), none⟩,
 ⟨(some 17), .mv (.t 18), none⟩])
 (.cond (.t 17)
 (.exit 5)
 .skip))
 (.seq (.reg [⟨(some 20), .bin .eql (.t 7) (.c (.d (.int .i64 5))), none⟩,
 ⟨(some 19), .mv (.t 20), none⟩])
 (.cond (.t 19)
 (.exit 6)
 .skip)))))))
 (.exit 0)))
 (.seq (.seq (.reg [⟨(some 21), .fadr 3 (.t 3), none⟩,
 ⟨(some 22), .ld none (.t 21), none⟩,
 ⟨(some 23), .len false (.t 22), none⟩,
 ⟨(some 24), .mv (.c (.d (.int .i64 0))), none⟩])
 (.block 7 (.loop K26_0 L26_0)))
 (.exit 0))))
 (.seq (.reg [⟨(some 32), .mv (.t 0), none⟩,
 ⟨(some 33), .ld (some 6) (.t 3), none⟩,
 ⟨(some 34), .call 42 [(.t 32), (.t 33)], none⟩])
 (.exit 0))))
 (.seq (.seq (.reg [⟨(some 35), .mv (.t 0), none⟩,
 ⟨(some 36), .mkm, none⟩,
 ⟨none, .mput 0 (.t 36) (.c (.d (.bool true))) (.c (.d (.str [115, 116, 114, 117, 99, 116]))), none⟩,
 ⟨none, .mput 0 (.t 36) (.c (.d (.bool false))) (.c (.d (.str [101, 110, 117, 109]))), none⟩,
 ⟨(some 37), .mv (.t 36), none⟩,
 ⟨(some 38), .fadr 0 (.t 3), none⟩,
 ⟨(some 39), .ld none (.t 38), none⟩,
 ⟨(some 40), .bin .eql (.t 39) (.c (.d (.int .i64 3))), none⟩,
 ⟨(some 41), .mget 0 false (.str []) (.t 37) (.t 40), none⟩,
 ⟨(some 42), .fadr 1 (.t 3), none⟩,
 ⟨(some 43), .ld none (.t 42), none⟩,
 ⟨(some 44), .bslice 1 3 [(.t 41), (.t 43), (.c (.d (.str [123])))], none⟩,
 ⟨(some 45), .call 41 [(.t 35), (.t 44)], none⟩])
 (.seq (.reg [⟨(some 46), .mv (.t 0), none⟩,
 ⟨(some 47), .fadr 3 (.t 3), none⟩,
 ⟨(some 48), .ld none (.t 47), none⟩,
 ⟨(some 49), .call 43 [(.t 46), (.t 48)], none⟩])
 (.reg [⟨(some 50), .mv (.t 0), none⟩,
 ⟨(some 51), .bslice 1 1 [(.c (.d (.str [125])))], none⟩,
 ⟨(some 52), .call 41 [(.t 50), (.t 51)], none⟩])))
 (.exit 0))))
 (.seq (.seq (.reg [⟨(some 53), .mv (.t 0), none⟩,
 ⟨(some 54), .fadr 1 (.t 3), none⟩,
 ⟨(some 55), .ld none (.t 54), none⟩,
 ⟨(some 56), .bslice 1 1 [(.t 55)], none⟩,
 ⟨(some 57), .call 41 [(.t 53), (.t 56)], none⟩])
 (.reg [⟨(some 58), .mv (.t 0), none⟩,
 ⟨(some 59), .fadr 3 (.t 3), none⟩,
 ⟨(some 60), .ld none (.t 59), none⟩,
 ⟨(some 61), .call 44 [(.t 58), (.t 60)], none⟩]))
 (.exit 0))))
 (.seq (.reg [⟨(some 62), .fadr 2 (.t 3), none⟩,
 ⟨(some 63), .ld none (.t 62), none⟩,
 ⟨(some 64), .bin .eql (.t 63) (.c (.d (.int .i64 1))), none⟩])
 (.cond (.t 64)
 (.reg [⟨(some 65), .mv (.t 0), none⟩,
 ⟨(some 66), .bslice 1 1 [(.c (.d (.str [109, 117, 116])))], none⟩,
 ⟨(some 67), .call 41 [(.t 65), (.t 66)], none⟩])
 .skip))))
 (.seq (.seq (.reg [⟨(some 68), .mv (.t 0), none⟩,
 ⟨(some 69), .fadr 1 (.t 3), none⟩,
 ⟨(some 70), .ld none (.t 69), none⟩,
 ⟨(some 71), .bslice 1 2 [(.t 70), (.c (.d (.str [58])))], none⟩,
 ⟨(some 72), .call 41 [(.t 68), (.t 71)], none⟩])
 (.reg [⟨(some 73), .mv (.t 0), none⟩,
 ⟨(some 74), .fadr 3 (.t 3), none⟩,
 ⟨(some 75), .ld none (.t 74), none⟩,
 ⟨(some 76), .iadr 1 (.t 75) (.c (.d (.int .i64 0))), none⟩,
 ⟨(some 77), .ld none (.t 76), none⟩,
 ⟨(some 78), .call 18 [(.t 73), (.t 77)], none⟩]))
 (.exit 0))))))
def F26 : VFn := ⟨2, 79, B26, [], false⟩

def A26 : Ann := ⟨keepOf [(10, [0, 22, 23, 24])], ghostOf []⟩
-- 27 patina/tree.isType
def B27 : VCode :=
 (.seq (.reg [⟨(some 2), .mv (.c (.d (.bool false))), none⟩])
 (.seq (.reg [⟨(some 3), .mv (.t 0), none⟩,
 ⟨(some 4), .bin .geq (.t 3) (.c (.d (.int .i64 10))), none⟩,
 ⟨(some 5), .mv (.t 4), none⟩,
 ⟨(some 6), .mv (.t 0), some (5, true)⟩,
 ⟨(some 7), .bin .leq (.t 6) (.c (.d (.int .i64 16))), some (5, true)⟩,
 ⟨(some 8), .pick (.t 5) (.t 7) (.c (.d (.bool false))), none⟩,
 ⟨(some 2), .mv (.t 8), none⟩])
 .ret))
def F27 : VFn := ⟨1, 9, B27, [.tmp 2], false⟩

def A27 : Ann := ⟨keepOf [], ghostOf []⟩
-- 28 (*patina/tree.printer).typ
def B28 : VCode :=
 (.seq (.reg [⟨(some 3), .box (.t 1), none⟩])
 (.seq (.reg [⟨(some 4), .fadr 0 (.t 3), none⟩,
 ⟨(some 5), .ld none (.t 4), none⟩])
 (.block 0 (.seq (.reg [⟨(some 7), .bin .eql (.t 5) (.c (.d (.int .i64 10))), none⟩,
 ⟨(some 6), .mv (.t 7), none⟩])
 (.cond (.t 6)
 (.reg [⟨(some 8), .mv (.t 0), none⟩,
 ⟨(some 9), .bslice 1 1 [(.c (.d (.str [105, 54, 52])))], none⟩,
 ⟨(some 10), .call 41 [(.t 8), (.t 9)], none⟩])
 (.seq (.reg [⟨(some 12), .bin .eql (.t 5) (.c (.d (.int .i64 11))), none⟩,
 ⟨(some 11), .mv (.t 12), none⟩])
 (.cond (.t 11)
 (.reg [⟨(some 13), .mv (.t 0), none⟩,
 ⟨(some 14), .bslice 1 1 [(.c (.d (.str [98, 111, 111, 108])))], none⟩,
 ⟨(some 15), .call 41 [(.t 13), (.t 14)], none⟩])
 (.seq (.reg [⟨(some 17), .bin .eql (.t 5) (.c (.d (.int .i64 12))), none⟩,
 ⟨(some 16), .mv (.t 17), none⟩])
 (.cond (.t 16)
 (.reg [⟨(some 18), .mv (.t 0), none⟩,
 ⟨(some 19), .bslice 1 2 [(.c (.d (.str [40]))), (.c (.d (.str [41])))], none⟩,
 ⟨(some 20), .call 41 [(.t 18), (.t 19)], none⟩])
 (.seq (.reg [⟨(some 22), .bin .eql (.t 5) (.c (.d (.int .i64 13))), none⟩,
 ⟨(some 21), .mv (.t 22), none⟩])
 (.cond (.t 21)
 (.reg [⟨(some 23), .mv (.t 0), none⟩,
 ⟨(some 24), .fadr 1 (.t 3), none⟩,
 ⟨(some 25), .ld none (.t 24), none⟩,
 ⟨(some 26), .bslice 1 1 [(.t 25)], none⟩,
 ⟨(some 27), .call 41 [(.t 23), (.t 26)], none⟩])
 (.seq (.reg [⟨(some 29), .bin .eql (.t 5) (.c (.d (.int .i64 14))), none⟩,
 ⟨(some 28), .mv (.t 29), none⟩])
 (.cond (.t 28)
 (.seq (.reg [⟨(some 30), .mv (.t 0), none⟩,
 ⟨(some 31), .bslice 1 1 [(.c (.d (.str [38])))], none⟩,
 ⟨(some 32), .call 41 [(.t 30), (.t 31)], none⟩])
 (.reg [⟨(some 33), .mv (.t 0), none⟩,
 ⟨(some 34), .fadr 3 (.t 3), none⟩,
 ⟨(some 35), .ld none (.t 34), none⟩,
 ⟨(some 36), .iadr 1 (.t 35) (.c (.d (.int .i64 0))), none⟩,
 ⟨(some 37), .ld none (.t 36), none⟩,
 ⟨(some 38), .call 18 [(.t 33), (.t 37)], none⟩]))
 (.seq (.reg [⟨(some 40), .bin .eql (.t 5) (.c (.d (.int .i64 15))), none⟩,
 ⟨(some 39), .mv (.t 40), none⟩])
 (.cond (.t 39)
 (.seq (.reg [⟨(some 41), .mv (.t 0), none⟩,
 ⟨(some 42), .bslice 1 2 [(.c (.d (.str [38]))), (.c (.d (.str [109, 117, 116])))], none⟩,
 ⟨(some 43), .call 41 [(.t 41), (.t 42)], none⟩])
 (.reg [⟨(some 44), .mv (.t 0), none⟩,
 ⟨(some 45), .fadr 3 (.t 3), none⟩,
 ⟨(some 46), .ld none (.t 45), none⟩,
 ⟨(some 47), .iadr 1 (.t 46) (.c (.d (.int .i64 0))), none⟩,
 ⟨(some 48), .ld none (.t 47), none⟩,
 ⟨(some 49), .call 18 [(.t 44), (.t 48)], none⟩]))
 (.seq (.reg [⟨(some 51), .bin .eql (.t 5) (.c (.d (.int .i64 16))), none⟩,
 ⟨(some 50), .mv (.t 51), none⟩])
 (.cond (.t 50)
 (.seq (.reg [⟨(some 52), .mv (.t 0), none⟩,
 ⟨(some 53), .bslice 1 2 [(.c (.d (.str [66, 111, 120]))), (.c (.d (.str [60])))], none⟩,
 ⟨(some 54), .call 41 [(.t 52), (.t 53)], none⟩])
 (.seq (.reg [⟨(some 55), .mv (.t 0), none⟩,
 ⟨(some 56), .fadr 3 (.t 3), none⟩,
 ⟨(some 57), .ld none (.t 56), none⟩,
 ⟨(some 58), .iadr 1 (.t 57) (.c (.d (.int .i64 0))), none⟩,
 ⟨(some 59), .ld none (.t 58), none⟩,
 ⟨(some 60), .call 18 [(.t 55), (.t 59)], none⟩])
 (.reg [⟨(some 61), .mv (.t 0), none⟩,
 ⟨(some 62), .bslice 1 1 [(.c (.d (.str [62])))], none⟩,
 ⟨(some 63), .call 41 [(.t 61), (.t 62)], none⟩])))
 .skip)))))))))))))))))
def F28 : VFn := ⟨2, 64, B28, [], false⟩

def A28 : Ann := ⟨keepOf [], ghostOf []⟩
-- 29 patina/tree.isStmt
def B29 : VCode :=
 (.seq (.reg [⟨(some 2), .mv (.c (.d (.bool false))), none⟩])
 (.seq (.reg [⟨(some 3), .mv (.t 0), none⟩,
 ⟨(some 4), .bin .geq (.t 3) (.c (.d (.int .i64 21))), none⟩,
 ⟨(some 5), .mv (.t 4), none⟩,
 ⟨(some 6), .mv (.t 0), some (5, true)⟩,
 ⟨(some 7), .bin .leq (.t 6) (.c (.d (.int .i64 27))), some (5, true)⟩,
 ⟨(some 8), .pick (.t 5) (.t 7) (.c (.d (.bool false))), none⟩,
 ⟨(some 2), .mv (.t 8), none⟩])
 .ret))
def F29 : VFn := ⟨1, 9, B29, [.tmp 2], false⟩

def A29 : Ann := ⟨keepOf [], ghostOf []⟩
-- 30 (*patina/tree.printer).stmt
def K30_0 : List Nat := [0, 67, 68, 69]
def L30_0 : VCode :=
 (.seq (.reg [⟨(some 70), .bin .lss (.t 69) (.t 68), none⟩])
 (.seq (.cond (.t 70)
 .skip
 (.exit 1))
 (.seq (.block 2 (.seq (.reg [⟨(some 71), .iadr 1 (.t 67) (.t 69), none⟩,
 ⟨(some 72), .ld none (.t 71), none⟩,
 ⟨(some 5), .mv (.t 72), none⟩])
 (.reg [⟨(some 73), .mv (.t 0), none⟩,
 ⟨(some 74), .mv (.t 5), none⟩,
 ⟨(some 75), .call 18 [(.t 73), (.t 74)], none⟩])))
 (.reg [⟨(some 76), .bin .add (.t 69) (.c (.d (.int .i64 1))), none⟩,
 ⟨(some 69), .mv (.t 76), none⟩]))))
def B30 : VCode :=
 (.seq (.reg [⟨(some 3), .box (.t 1), none⟩])
 (.seq (.reg [⟨(some 6), .fadr 0 (.t 3), none⟩,
 ⟨(some 7), .ld none (.t 6), none⟩])
 (.block 0 (.seq (.reg [⟨(some 9), .bin .eql (.t 7) (.c (.d (.int .i64 21))), none⟩,
 ⟨(some 8), .mv (.t 9), none⟩])
 (.cond (.t 8)
 (.reg [⟨(some 10), .mv (.t 0), none⟩,
 ⟨(some 11), .ld (some 6) (.t 3), none⟩,
 ⟨(some 12), .call 45 [(.t 10), (.t 11)], none⟩])
 (.seq (.reg [⟨(some 14), .bin .eql (.t 7) (.c (.d (.int .i64 22))), none⟩,
 ⟨(some 13), .mv (.t 14), none⟩])
 (.cond (.t 13)
 (.seq (.reg [⟨(some 15), .mv (.t 0), none⟩,
 ⟨(some 16), .fadr 3 (.t 3), none⟩,
 ⟨(some 17), .ld none (.t 16), none⟩,
 ⟨(some 18), .iadr 1 (.t 17) (.c (.d (.int .i64 0))), none⟩,
 ⟨(some 19), .ld none (.t 18), none⟩,
 ⟨(some 20), .call 18 [(.t 15), (.t 19)], none⟩])
 (.reg [⟨(some 21), .mv (.t 0), none⟩,
 ⟨(some 22), .bslice 1 1 [(.c (.d (.str [59])))], none⟩,
 ⟨(some 23), .call 41 [(.t 21), (.t 22)], none⟩]))
 (.seq (.reg [⟨(some 25), .bin .eql (.t 7) (.c (.d (.int .i64 23))), none⟩,
 ⟨(some 24), .mv (.t 25), none⟩])
 (.cond (.t 24)
 (.seq (.reg [⟨(some 26), .mv (.t 0), none⟩,
 ⟨(some 27), .fadr 3 (.t 3), none⟩,
 ⟨(some 28), .ld none (.t 27), none⟩,
 ⟨(some 29), .iadr 1 (.t 28) (.c (.d (.int .i64 0))), none⟩,
 ⟨(some 30), .ld none (.t 29), none⟩,
 ⟨(some 31), .call 46 [(.t 26), (.t 30), (.c (.d (.bool false)))], none⟩])
 (.seq (.reg [⟨(some 32), .mv (.t 0), none⟩,
 ⟨(some 33), .bslice 1 1 [(.c (.d (.str [61])))], none⟩,
 ⟨(some 34), .call 41 [(.t 32), (.t 33)], none⟩])
 (.seq (.reg [⟨(some 35), .mv (.t 0), none⟩,
 ⟨(some 36), .fadr 3 (.t 3), none⟩,
 ⟨(some 37), .ld none (.t 36), none⟩,
 ⟨(some 38), .iadr 1 (.t 37) (.c (.d (.int .i64 1))), none⟩,
 ⟨(some 39), .ld none (.t 38), none⟩,
 ⟨(some 40), .call 46 [(.t 35), (.t 39), (.c (.d (.bool false)))], none⟩])
 (.reg [⟨(some 41), .mv (.t 0), none⟩,
 ⟨(some 42), .bslice 1 1 [(.c (.d (.str [59])))], none⟩,
 ⟨(some 43), .call 41 [(.t 41), (.t 42)], none⟩]))))
 (.seq (.reg [⟨(some 45), .bin .eql (.t 7) (.c (.d (.int .i64 24))), none⟩,
 ⟨(some 44), .mv (.t 45), none⟩])
 (.cond (.t 44)
 (.seq (.reg [⟨(some 46), .mv (.t 0), none⟩,
 ⟨(some 47), .bslice 1 1 [(.c (.d (.str [119, 104, 105, 108, 101])))], none⟩,
 ⟨(some 48), .call 41 [(.t 46), (.t 47)], none⟩])
 (.seq (.reg [⟨(some 49), .mv (.t 0), none⟩,
 ⟨(some 50), .fadr 3 (.t 3), none⟩,
 ⟨(some 51), .ld none (.t 50), none⟩,
 ⟨(some 52), .iadr 1 (.t 51) (.c (.d (.int .i64 0))), none⟩,
 ⟨(some 53), .ld none (.t 52), none⟩,
 ⟨(some 54), .call 46 [(.t 49), (.t 53), (.c (.d (.bool false)))], none⟩])
 (.reg [⟨(some 55), .mv (.t 0), none⟩,
 ⟨(some 56), .fadr 3 (.t 3), none⟩,
 ⟨(some 57), .ld none (.t 56), none⟩,
 ⟨(some 58), .iadr 1 (.t 57) (.c (.d (.int .i64 1))), none⟩,
 ⟨(some 59), .ld none (.t 58), none⟩,
 ⟨(some 60), .call 18 [(.t 55), (.t 59)], none⟩])))
 (.seq (.reg [⟨(some 62), .bin .eql (.t 7) (.c (.d (.int .i64 25))), none⟩,
 ⟨(some 61), .mv (.t 62), none⟩])
 (.cond (.t 61)
 (.seq (.reg [⟨(some 63), .mv (.t 0), none⟩,
 ⟨(some 64), .bslice 1 1 [(.c (.d (.str [114, 101, 116, 117, 114, 110])))], none⟩,
 ⟨(some 65), .call 41 [(.t 63), (.t 64)], none⟩])
 (.seq (.seq (.reg [⟨(some 66), .fadr 3 (.t 3), none⟩,
 ⟨(some 67), .ld none (.t 66), none⟩,
 ⟨(some 68), .len false (.t 67), none⟩,
 ⟨(some 69), .mv (.c (.d (.int .i64 0))), none⟩])
 (.block 1 (.loop K30_0 L30_0)))
 (.reg [⟨(some 77), .mv (.t 0), none⟩,
 ⟨(some 78), .bslice 1 1 [(.c (.d (.str [59])))], none⟩,
 ⟨(some 79), .call 41 [(.t 77), (.t 78)], none⟩])))
 (.seq (.reg [⟨(some 81), .bin .eql (.t 7) (.c (.d (.int .i64 26))), none⟩,
 ⟨(some 80), .mv (.t 81), none⟩])
 (.cond (.t 80)
 (.reg [⟨(some 82), .mv (.t 0), none⟩,
 ⟨(some 83), .bslice 1 2 [(.c (.d (.str [98, 114, 101, 97, 107]))), (.c (.d (.str [59])))], none⟩,
 ⟨(some 84), .call 41 [(.t 82), (.t 83)], none⟩])
 (.seq (.reg [⟨(some 86), .bin .eql (.t 7) (.c (.d (.int .i64 27))), none⟩,
 ⟨(some 85), .mv (.t 86), none⟩])
 (.cond (.t 85)
 (.reg [⟨(some 87), .mv (.t 0), none⟩,
 ⟨(some 88), .bslice 1 2 [(.c (.d (.str [99, 111, 110, 116, 105, 110, 117, 101]))), (.c (.d (.str [59])))], none⟩,
 ⟨(some 89), .call 41 [(.t 87), (.t 88)], none⟩])
 .skip)))))))))))))))))
def F30 : VFn := ⟨2, 90, B30, [], false⟩

def A30 : Ann := ⟨keepOf [(19, [0, 67, 68, 69])], ghostOf []⟩
-- 31 (*patina/tree.printer).expr
def B31 : VCode :=
 (.seq (.reg [⟨(some 3), .box (.t 1), none⟩])
 (.seq (.reg [⟨(some 4), .fadr 0 (.t 3), none⟩,
 ⟨(some 5), .ld none (.t 4), none⟩])
 (.block 0 (.seq (.reg [⟨(some 7), .bin .eql (.t 5) (.c (.d (.int .i64 38))), none⟩,
 ⟨(some 6), .mv (.t 7), none⟩])
 (.cond (.t 6)
 (.seq (.reg [⟨(some 8), .mv (.t 0), none⟩,
 ⟨(some 9), .fadr 3 (.t 3), none⟩,
 ⟨(some 10), .ld none (.t 9), none⟩,
 ⟨(some 11), .iadr 1 (.t 10) (.c (.d (.int .i64 0))), none⟩,
 ⟨(some 12), .ld none (.t 11), none⟩,
 ⟨(some 13), .call 46 [(.t 8), (.t 12), (.c (.d (.bool false)))], none⟩])
 (.seq (.reg [⟨(some 14), .mv (.t 0), none⟩,
 ⟨(some 15), .fadr 1 (.t 3), none⟩,
 ⟨(some 16), .ld none (.t 15), none⟩,
 ⟨(some 17), .bslice 1 1 [(.t 16)], none⟩,
 ⟨(some 18), .call 41 [(.t 14), (.t 17)], none⟩])
 (.reg [⟨(some 19), .mv (.t 0), none⟩,
 ⟨(some 20), .fadr 3 (.t 3), none⟩,
 ⟨(some 21), .ld none (.t 20), none⟩,
 ⟨(some 22), .iadr 1 (.t 21) (.c (.d (.int .i64 1))), none⟩,
 ⟨(some 23), .ld none (.t 22), none⟩,
 ⟨(some 24), .call 46 [(.t 19), (.t 23), (.c (.d (.bool false)))], none⟩])))
 (.seq (.reg [⟨(some 26), .bin .eql (.t 5) (.c (.d (.int .i64 39))), none⟩,
 ⟨(some 25), .mv (.t 26), none⟩])
 (.cond (.t 25)
 (.reg [⟨(some 27), .mv (.t 0), none⟩,
 ⟨(some 28), .ld (some 6) (.t 3), none⟩,
 ⟨(some 29), .bslice 1 1 [(.c (.d (.str [45])))], none⟩,
 ⟨(some 30), .call 47 [(.t 27), (.t 28), (.t 29)], none⟩])
 (.seq (.reg [⟨(some 32), .bin .eql (.t 5) (.c (.d (.int .i64 40))), none⟩,
 ⟨(some 31), .mv (.t 32), none⟩])
 (.cond (.t 31)
 (.reg [⟨(some 33), .mv (.t 0), none⟩,
 ⟨(some 34), .ld (some 6) (.t 3), none⟩,
 ⟨(some 35), .bslice 1 1 [(.c (.d (.str [33])))], none⟩,
 ⟨(some 36), .call 47 [(.t 33), (.t 34), (.t 35)], none⟩])
 (.seq (.reg [⟨(some 38), .bin .eql (.t 5) (.c (.d (.int .i64 42))), none⟩,
 ⟨(some 37), .mv (.t 38), none⟩])
 (.cond (.t 37)
 (.reg [⟨(some 39), .mv (.t 0), none⟩,
 ⟨(some 40), .ld (some 6) (.t 3), none⟩,
 ⟨(some 41), .bslice 1 1 [(.c (.d (.str [42])))], none⟩,
 ⟨(some 42), .call 47 [(.t 39), (.t 40), (.t 41)], none⟩])
 (.seq (.reg [⟨(some 44), .bin .eql (.t 5) (.c (.d (.int .i64 43))), none⟩,
 ⟨(some 43), .mv (.t 44), none⟩])
 (.cond (.t 43)
 (.seq (.reg [⟨(some 45), .fadr 2 (.t 3), none⟩,
 ⟨(some 46), .ld none (.t 45), none⟩,
 ⟨(some 47), .bin .eql (.t 46) (.c (.d (.int .i64 1))), none⟩])
 (.cond (.t 47)
 (.reg [⟨(some 48), .mv (.t 0), none⟩,
 ⟨(some 49), .ld (some 6) (.t 3), none⟩,
 ⟨(some 50), .bslice 1 2 [(.c (.d (.str [38]))), (.c (.d (.str [109, 117, 116])))], none⟩,
 ⟨(some 51), .call 47 [(.t 48), (.t 49), (.t 50)], none⟩])
 (.reg [⟨(some 52), .mv (.t 0), none⟩,
 ⟨(some 53), .ld (some 6) (.t 3), none⟩,
 ⟨(some 54), .bslice 1 1 [(.c (.d (.str [38])))], none⟩,
 ⟨(some 55), .call 47 [(.t 52), (.t 53), (.t 54)], none⟩])))
 (.seq (.reg [⟨(some 57), .bin .eql (.t 5) (.c (.d (.int .i64 41))), none⟩,
 ⟨(some 56), .mv (.t 57), none⟩])
 (.cond (.t 56)
 (.seq (.reg [⟨(some 58), .mv (.t 0), none⟩,
 ⟨(some 59), .fadr 3 (.t 3), none⟩,
 ⟨(some 60), .ld none (.t 59), none⟩,
 ⟨(some 61), .iadr 1 (.t 60) (.c (.d (.int .i64 0))), none⟩,
 ⟨(some 62), .ld none (.t 61), none⟩,
 ⟨(some 63), .call 46 [(.t 58), (.t 62), (.c (.d (.bool true)))], none⟩])
 (.reg [⟨(some 64), .mv (.t 0), none⟩,
 ⟨(some 65), .fadr 1 (.t 3), none⟩,
 ⟨(some 66), .ld none (.t 65), none⟩,
 ⟨(some 67), .bslice 1 2 [(.c (.d (.str [46]))), (.t 66)], none⟩,
 ⟨(some 68), .call 41 [(.t 64), (.t 67)], none⟩]))
 (.seq (.reg [⟨(some 70), .bin .eql (.t 5) (.c (.d (.int .i64 45))), none⟩,
 ⟨(some 69), .mv (.t 70), none⟩])
 (.cond (.t 69)
 (.seq (.reg [⟨(some 71), .mv (.t 0), none⟩,
 ⟨(some 72), .bslice 1 1 [(.c (.d (.str [105, 102])))], none⟩,
 ⟨(some 73), .call 41 [(.t 71), (.t 72)], none⟩])
 (.seq (.reg [⟨(some 74), .mv (.t 0), none⟩,
 ⟨(some 75), .fadr 3 (.t 3), none⟩,
 ⟨(some 76), .ld none (.t 75), none⟩,
 ⟨(some 77), .iadr 1 (.t 76) (.c (.d (.int .i64 0))), none⟩,
 ⟨(some 78), .ld none (.t 77), none⟩,
 ⟨(some 79), .call 46 [(.t 74), (.t 78), (.c (.d (.bool false)))], none⟩])
 (.seq (.reg [⟨(some 80), .mv (.t 0), none⟩,
 ⟨(some 81), .fadr 3 (.t 3), none⟩,
 ⟨(some 82), .ld none (.t 81), none⟩,
 ⟨(some 83), .iadr 1 (.t 82) (.c (.d (.int .i64 1))), none⟩,
 ⟨(some 84), .ld none (.t 83), none⟩,
 ⟨(some 85), .call 18 [(.t 80), (.t 84)], none⟩])
 (.seq (.reg [⟨(some 86), .fadr 3 (.t 3), none⟩,
 ⟨(some 87), .ld none (.t 86), none⟩,
 ⟨(some 88), .len false (.t 87), none⟩,
 ⟨(some 89), .bin .eql (.t 88) (.c (.d (.int .i64 3))), none⟩])
 (.cond (.t 89)
 (.seq (.reg [⟨(some 90), .mv (.t 0), none⟩,
 ⟨(some 91), .bslice 1 1 [(.c (.d (.str [101, 108, 115, 101])))], none⟩,
 ⟨(some 92), .call 41 [(.t 90), (.t 91)], none⟩])
 (.reg [⟨(some 93), .mv (.t 0), none⟩,
 ⟨(some 94), .fadr 3 (.t 3), none⟩,
 ⟨(some 95), .ld none (.t 94), none⟩,
 ⟨(some 96), .iadr 1 (.t 95) (.c (.d (.int .i64 2))), none⟩,
 ⟨(some 97), .ld none (.t 96), none⟩,
 ⟨(some 98), .call 18 [(.t 93), (.t 97)], none⟩]))
 .skip)))))
 (.seq (.reg [⟨(some 100), .bin .eql (.t 5) (.c (.d (.int .i64 46))), none⟩,
 ⟨(some 99), .mv (.t 100), none⟩])
 (.cond (.t 99)
 (.seq (.reg [⟨(some 101), .mv (.t 0), none⟩,
 ⟨(some 102), .bslice 1 1 [(.c (.d (.str [109, 97, 116, 99, 104])))], none⟩,
 ⟨(some 103), .call 41 [(.t 101), (.t 102)], none⟩])
 (.seq (.reg [⟨(some 104), .mv (.t 0), none⟩,
 ⟨(some 105), .fadr 3 (.t 3), none⟩,
 ⟨(some 106), .ld none (.t 105), none⟩,
 ⟨(some 107), .iadr 1 (.t 106) (.c (.d (.int .i64 0))), none⟩,
 ⟨(some 108), .ld none (.t 107), none⟩,
 ⟨(some 109), .call 46 [(.t 104), (.t 108), (.c (.d (.bool false)))], none⟩])
 (.seq (.reg [⟨(some 110), .mv (.t 0), none⟩,
 ⟨(some 111), .bslice 1 1 [(.c (.d (.str [123])))], none⟩,
 ⟨(some 112), .call 41 [(.t 110), (.t 111)], none⟩])
 (.seq (.reg [⟨(some 113), .mv (.t 0), none⟩,
 ⟨(some 114), .fadr 3 (.t 3), none⟩,
 ⟨(some 115), .ld none (.t 114), none⟩,
 ⟨(some 116), .slc 1 (.t 115) (some (.c (.d (.int .i64 1)))) none, none⟩,
 ⟨(some 117), .call 43 [(.t 113), (.t 116)], none⟩])
 (.reg [⟨(some 118), .mv (.t 0), none⟩,
 ⟨(some 119), .bslice 1 1 [(.c (.d (.str [125])))], none⟩,
 ⟨(some 120), .call 41 [(.t 118), (.t 119)], none⟩])))))
 .skip)))))))))))))))))))
def F31 : VFn := ⟨2, 121, B31, [], false⟩

def A31 : Ann := ⟨keepOf [], ghostOf []⟩
-- 32 (*patina/tree.printer).primary
def B32 : VCode :=
 (.seq (.reg [⟨(some 3), .box (.t 1), none⟩])
 (.seq (.reg [⟨(some 4), .fadr 0 (.t 3), none⟩,
 ⟨(some 5), .ld none (.t 4), none⟩])
 (.block 0 (.seq (.seq (.reg [⟨(some 7), .bin .eql (.t 5) (.c (.d (.int .i64 30))), none⟩,
 ⟨(some 6), .mv (.t 7), none⟩])
 (.cond (.t 6)
 .skip
 (.reg [⟨(some 8), .bin .eql (.t 5) (.c (.d (.int .i64 52))), none⟩,
 ⟨(some 6), .mv (.t 8), none⟩])))
 (.cond (.t 6)
 (.seq (.seq (.reg [⟨(some 9), .fadr 2 (.t 3), none⟩,
 ⟨(some 10), .ld none (.t 9), none⟩,
 ⟨(some 11), .bin .lss (.t 10) (.c (.d (.int .i64 0))), none⟩])
 (.cond (.t 11)
 (.seq (.reg [⟨(some 12), .mv (.t 0), none⟩,
 ⟨(some 13), .bslice 1 1 [(.c (.d (.str [45])))], none⟩,
 ⟨(some 14), .call 41 [(.t 12), (.t 13)], none⟩])
 (.reg [⟨(some 15), .fadr 2 (.t 3), none⟩,
 ⟨(some 16), .ld none (.t 15), none⟩,
 ⟨(some 17), .un .neg (.t 16), none⟩,
 ⟨(some 18), .fadr 2 (.t 3), none⟩,
 ⟨none, .st 1 (.t 18) (.t 17), none⟩]))
 .skip))
 (.reg [⟨(some 19), .mv (.t 0), none⟩,
 ⟨(some 20), .fadr 2 (.t 3), none⟩,
 ⟨(some 21), .ld none (.t 20), none⟩,
 ⟨(some 22), .call 48 [(.t 21), (.c (.d (.int .i64 10)))], none⟩,
 ⟨(some 23), .bslice 1 1 [(.t 22)], none⟩,
 ⟨(some 24), .call 41 [(.t 19), (.t 23)], none⟩]))
 (.seq (.seq (.reg [⟨(some 26), .bin .eql (.t 5) (.c (.d (.int .i64 31))), none⟩,
 ⟨(some 25), .mv (.t 26), none⟩])
 (.cond (.t 25)
 .skip
 (.reg [⟨(some 27), .bin .eql (.t 5) (.c (.d (.int .i64 53))), none⟩,
 ⟨(some 25), .mv (.t 27), none⟩])))
 (.cond (.t 25)
 (.reg [⟨(some 28), .mv (.t 0), none⟩,
 ⟨(some 29), .fadr 2 (.t 3), none⟩,
 ⟨(some 30), .ld none (.t 29), none⟩,
 ⟨(some 31), .bin .eql (.t 30) (.c (.d (.int .i64 1))), none⟩,
 ⟨(some 32), .call 49 [(.t 31)], none⟩,
 ⟨(some 33), .bslice 1 1 [(.t 32)], none⟩,
 ⟨(some 34), .call 41 [(.t 28), (.t 33)], none⟩])
 (.seq (.reg [⟨(some 36), .bin .eql (.t 5) (.c (.d (.int .i64 32))), none⟩,
 ⟨(some 35), .mv (.t 36), none⟩])
 (.cond (.t 35)
 (.reg [⟨(some 37), .mv (.t 0), none⟩,
 ⟨(some 38), .bslice 1 2 [(.c (.d (.str [40]))), (.c (.d (.str [41])))], none⟩,
 ⟨(some 39), .call 41 [(.t 37), (.t 38)], none⟩])
 (.seq (.seq (.reg [⟨(some 41), .bin .eql (.t 5) (.c (.d (.int .i64 33))), none⟩,
 ⟨(some 40), .mv (.t 41), none⟩])
 (.cond (.t 40)
 .skip
 (.reg [⟨(some 42), .bin .eql (.t 5) (.c (.d (.int .i64 51))), none⟩,
 ⟨(some 40), .mv (.t 42), none⟩])))
 (.cond (.t 40)
 (.reg [⟨(some 43), .mv (.t 0), none⟩,
 ⟨(some 44), .fadr 1 (.t 3), none⟩,
 ⟨(some 45), .ld none (.t 44), none⟩,
 ⟨(some 46), .bslice 1 1 [(.t 45)], none⟩,
 ⟨(some 47), .call 41 [(.t 43), (.t 46)], none⟩])
 (.seq (.reg [⟨(some 49), .bin .eql (.t 5) (.c (.d (.int .i64 50))), none⟩,
 ⟨(some 48), .mv (.t 49), none⟩])
 (.cond (.t 48)
 (.reg [⟨(some 50), .mv (.t 0), none⟩,
 ⟨(some 51), .bslice 1 1 [(.c (.d (.str [95])))], none⟩,
 ⟨(some 52), .call 41 [(.t 50), (.t 51)], none⟩])
 (.seq (.reg [⟨(some 54), .bin .eql (.t 5) (.c (.d (.int .i64 34))), none⟩,
 ⟨(some 53), .mv (.t 54), none⟩])
 (.cond (.t 53)
 (.seq (.reg [⟨(some 55), .mv (.t 0), none⟩,
 ⟨(some 56), .fadr 1 (.t 3), none⟩,
 ⟨(some 57), .ld none (.t 56), none⟩,
 ⟨(some 58), .bslice 1 2 [(.t 57), (.c (.d (.str [40])))], none⟩,
 ⟨(some 59), .call 41 [(.t 55), (.t 58)], none⟩])
 (.seq (.reg [⟨(some 60), .mv (.t 0), none⟩,
 ⟨(some 61), .fadr 3 (.t 3), none⟩,
 ⟨(some 62), .ld none (.t 61), none⟩,
 ⟨(some 63), .call 43 [(.t 60), (.t 62)], none⟩])
 (.reg [⟨(some 64), .mv (.t 0), none⟩,
 ⟨(some 65), .bslice 1 1 [(.c (.d (.str [41])))], none⟩,
 ⟨(some 66), .call 41 [(.t 64), (.t 65)], none⟩])))
 (.seq (.reg [⟨(some 68), .bin .eql (.t 5) (.c (.d (.int .i64 35))), none⟩,
 ⟨(some 67), .mv (.t 68), none⟩])
 (.cond (.t 67)
 (.seq (.reg [⟨(some 69), .mv (.t 0), none⟩,
 ⟨(some 70), .fadr 1 (.t 3), none⟩,
 ⟨(some 71), .ld none (.t 70), none⟩,
 ⟨(some 72), .bslice 1 2 [(.t 71), (.c (.d (.str [123])))], none⟩,
 ⟨(some 73), .call 41 [(.t 69), (.t 72)], none⟩])
 (.seq (.reg [⟨(some 74), .mv (.t 0), none⟩,
 ⟨(some 75), .fadr 3 (.t 3), none⟩,
 ⟨(some 76), .ld none (.t 75), none⟩,
 ⟨(some 77), .call 43 [(.t 74), (.t 76)], none⟩])
 (.reg [⟨(some 78), .mv (.t 0), none⟩,
 ⟨(some 79), .bslice 1 1 [(.c (.d (.str [125])))], none⟩,
 ⟨(some 80), .call 41 [(.t 78), (.t 79)], none⟩])))
 (.seq (.reg [⟨(some 82), .bin .eql (.t 5) (.c (.d (.int .i64 36))), none⟩,
 ⟨(some 81), .mv (.t 82), none⟩])
 (.cond (.t 81)
 (.seq (.reg [⟨(some 83), .mv (.t 0), none⟩,
 ⟨(some 84), .fadr 1 (.t 3), none⟩,
 ⟨(some 85), .ld none (.t 84), none⟩,
 ⟨(some 86), .bslice 1 2 [(.t 85), (.c (.d (.str [58])))], none⟩,
 ⟨(some 87), .call 41 [(.t 83), (.t 86)], none⟩])
 (.reg [⟨(some 88), .mv (.t 0), none⟩,
 ⟨(some 89), .fadr 3 (.t 3), none⟩,
 ⟨(some 90), .ld none (.t 89), none⟩,
 ⟨(some 91), .iadr 1 (.t 90) (.c (.d (.int .i64 0))), none⟩,
 ⟨(some 92), .ld none (.t 91), none⟩,
 ⟨(some 93), .call 18 [(.t 88), (.t 92)], none⟩]))
 (.seq (.seq (.reg [⟨(some 95), .bin .eql (.t 5) (.c (.d (.int .i64 37))), none⟩,
 ⟨(some 94), .mv (.t 95), none⟩])
 (.cond (.t 94)
 .skip
 (.reg [⟨(some 96), .bin .eql (.t 5) (.c (.d (.int .i64 54))), none⟩,
 ⟨(some 94), .mv (.t 96), none⟩])))
 (.cond (.t 94)
 (.seq (.reg [⟨(some 97), .mv (.t 0), none⟩,
 ⟨(some 98), .fadr 1 (.t 3), none⟩,
 ⟨(some 99), .ld none (.t 98), none⟩,
 ⟨(some 100), .call 50 [(.t 97), (.t 99)], none⟩])
 (.reg [⟨(some 101), .mv (.t 0), none⟩,
 ⟨(some 102), .fadr 3 (.t 3), none⟩,
 ⟨(some 103), .ld none (.t 102), none⟩,
 ⟨(some 104), .call 44 [(.t 101), (.t 103)], none⟩]))
 (.seq (.reg [⟨(some 106), .bin .eql (.t 5) (.c (.d (.int .i64 44))), none⟩,
 ⟨(some 105), .mv (.t 106), none⟩])
 (.cond (.t 105)
 (.seq (.reg [⟨(some 107), .mv (.t 0), none⟩,
 ⟨(some 108), .bslice 1 3 [(.c (.d (.str [66, 111, 120]))), (.c (.d (.str [58, 58]))), (.c (.d (.str [110, 101, 119])))], none⟩,
 ⟨(some 109), .call 41 [(.t 107), (.t 108)], none⟩])
 (.reg [⟨(some 110), .mv (.t 0), none⟩,
 ⟨(some 111), .fadr 3 (.t 3), none⟩,
 ⟨(some 112), .ld none (.t 111), none⟩,
 ⟨(some 113), .call 44 [(.t 110), (.t 112)], none⟩]))
 (.seq (.reg [⟨(some 115), .bin .eql (.t 5) (.c (.d (.int .i64 47))), none⟩,
 ⟨(some 114), .mv (.t 115), none⟩])
 (.cond (.t 114)
 (.seq (.reg [⟨(some 116), .mv (.t 0), none⟩,
 ⟨(some 117), .fadr 3 (.t 3), none⟩,
 ⟨(some 118), .ld none (.t 117), none⟩,
 ⟨(some 119), .iadr 1 (.t 118) (.c (.d (.int .i64 0))), none⟩,
 ⟨(some 120), .ld none (.t 119), none⟩,
 ⟨(some 121), .call 18 [(.t 116), (.t 120)], none⟩])
 (.seq (.reg [⟨(some 122), .mv (.t 0), none⟩,
 ⟨(some 123), .bslice 1 1 [(.c (.d (.str [61, 62])))], none⟩,
 ⟨(some 124), .call 41 [(.t 122), (.t 123)], none⟩])
 (.reg [⟨(some 125), .mv (.t 0), none⟩,
 ⟨(some 126), .fadr 3 (.t 3), none⟩,
 ⟨(some 127), .ld none (.t 126), none⟩,
 ⟨(some 128), .iadr 1 (.t 127) (.c (.d (.int .i64 1))), none⟩,
 ⟨(some 129), .ld none (.t 128), none⟩,
 ⟨(some 130), .call 18 [(.t 125), (.t 129)], none⟩])))
 .skip)))))))))))))))))))))))))
def F32 : VFn := ⟨2, 131, B32, [], false⟩

def A32 : Ann := ⟨keepOf [], ghostOf []⟩
-- 36 slices.Contains[[]int,int]
def B36 : VCode :=
 (.seq (.reg [⟨(some 4), .mv (.c (.d (.bool false))), none⟩])
 (.seq (.reg [⟨(some 5), .mv (.t 0), none⟩,
 ⟨(some 6), .mv (.t 1), none⟩,
 ⟨(some 7), .call 53 [(.t 5), (.t 6)], none⟩,
 ⟨(some 8), .bin .geq (.t 7) (.c (.d (.int .i64 0))), none⟩,
 ⟨(some 4), .mv (.t 8), none⟩])
 .ret))
def F36 : VFn := ⟨2, 9, B36, [.tmp 4], false⟩

def A36 : Ann := ⟨keepOf [], ghostOf []⟩
-- 37 patina/tree.known
def B37 : VCode :=
 (.seq (.reg [⟨(some 2), .mv (.c (.d (.bool false))), none⟩])
 (.seq (.reg [⟨(some 3), .mv (.t 0), none⟩,
 ⟨(some 4), .bin .geq (.t 3) (.c (.d (.int .i64 1))), none⟩,
 ⟨(some 5), .mv (.t 4), none⟩,
 ⟨(some 6), .mv (.t 0), some (5, true)⟩,
 ⟨(some 7), .bin .leq (.t 6) (.c (.d (.int .i64 7))), some (5, true)⟩,
 ⟨(some 8), .pick (.t 5) (.t 7) (.c (.d (.bool false))), none⟩,
 ⟨(some 9), .mv (.t 8), none⟩,
 ⟨(some 10), .mv (.t 0), some (9, false)⟩,
 ⟨(some 11), .call 27 [(.t 10)], some (9, false)⟩,
 ⟨(some 12), .pick (.t 9) (.c (.d (.bool true))) (.t 11), none⟩,
 ⟨(some 13), .mv (.t 12), none⟩,
 ⟨(some 14), .mv (.t 0), some (13, false)⟩,
 ⟨(some 15), .call 29 [(.t 14)], some (13, false)⟩,
 ⟨(some 16), .pick (.t 13) (.c (.d (.bool true))) (.t 15), none⟩,
 ⟨(some 17), .mv (.t 16), none⟩,
 ⟨(some 18), .mv (.t 0), some (17, false)⟩,
 ⟨(some 19), .call 54 [(.t 18)], some (17, false)⟩,
 ⟨(some 20), .pick (.t 17) (.c (.d (.bool true))) (.t 19), none⟩,
 ⟨(some 21), .mv (.t 20), none⟩,
 ⟨(some 22), .mv (.t 0), some (21, false)⟩,
 ⟨(some 23), .call 55 [(.t 22)], some (21, false)⟩,
 ⟨(some 24), .pick (.t 21) (.c (.d (.bool true))) (.t 23), none⟩,
 ⟨(some 25), .mv (.t 24), none⟩,
 ⟨(some 26), .mv (.t 0), some (25, false)⟩,
 ⟨(some 27), .bin .eql (.t 26) (.c (.d (.int .i64 36))), some (25, false)⟩,
 ⟨(some 28), .pick (.t 25) (.c (.d (.bool true))) (.t 27), none⟩,
 ⟨(some 29), .mv (.t 28), none⟩,
 ⟨(some 30), .mv (.t 0), some (29, false)⟩,
 ⟨(some 31), .bin .eql (.t 30) (.c (.d (.int .i64 47))), some (29, false)⟩,
 ⟨(some 32), .pick (.t 29) (.c (.d (.bool true))) (.t 31), none⟩,
 ⟨(some 2), .mv (.t 32), none⟩])
 .ret))
def F37 : VFn := ⟨1, 33, B37, [.tmp 2], false⟩

def A37 : Ann := ⟨keepOf [], ghostOf []⟩
-- 38 patina/tree.name
def B38 : VCode :=
 (.seq (.reg [⟨(some 1), .box (.t 0), none⟩,
 ⟨(some 2), .mv (.c (.d (.bool false))), none⟩])
 (.seq (.seq (.reg [⟨(some 6), .fadr 0 (.t 1), none⟩,
 ⟨(some 7), .ld none (.t 6), none⟩])
 (.block 0 (.seq (.seq (.reg [⟨(some 9), .bin .eql (.t 7) (.c (.d (.int .i64 2))), none⟩,
 ⟨(some 8), .mv (.t 9), none⟩])
 (.cond (.t 8)
 .skip
 (.seq (.reg [⟨(some 10), .bin .eql (.t 7) (.c (.d (.int .i64 3))), none⟩,
 ⟨(some 8), .mv (.t 10), none⟩])
 (.cond (.t 8)
 .skip
 (.seq (.reg [⟨(some 11), .bin .eql (.t 7) (.c (.d (.int .i64 4))), none⟩,
 ⟨(some 8), .mv (.t 11), none⟩])
 (.cond (.t 8)
 .skip
 (.seq (.reg [⟨(some 12), .bin .eql (.t 7) (.c (.d (.int .i64 5))), none⟩,
 ⟨(some 8), .mv (.t 12), none⟩])
 (.cond (.t 8)
 .skip
 (.seq (.reg [⟨(some 13), .bin .eql (.t 7) (.c (.d (.int .i64 6))), none⟩,
 ⟨(some 8), .mv (.t 13), none⟩])
 (.cond (.t 8)
 .skip
 (.seq (.reg [⟨(some 14), .bin .eql (.t 7) (.c (.d (.int .i64 7))), none⟩,
 ⟨(some 8), .mv (.t 14), none⟩])
 (.cond (.t 8)
 .skip
 (.seq (.reg [⟨(some 15), .bin .eql (.t 7) (.c (.d (.int .i64 13))), none⟩,
 ⟨(some 8), .mv (.t 15), none⟩])
 (.cond (.t 8)
 .skip
 (.seq (.reg [⟨(some 16), .bin .eql (.t 7) (.c (.d (.int .i64 21))), none⟩,
 ⟨(some 8), .mv (.t 16), none⟩])
 (.cond (.t 8)
 .skip
 (.seq (.reg [⟨(some 17), .bin .eql (.t 7) (.c (.d (.int .i64 33))), none⟩,
 ⟨(some 8), .mv (.t 17), none⟩])
 (.cond (.t 8)
 .skip
 (.seq (.reg [⟨(some 18), .bin .eql (.t 7) (.c (.d (.int .i64 34))), none⟩,
 ⟨(some 8), .mv (.t 18), none⟩])
 (.cond (.t 8)
 .skip
 (.seq (.reg [⟨(some 19), .bin .eql (.t 7) (.c (.d (.int .i64 35))), none⟩,
 ⟨(some 8), .mv (.t 19), none⟩])
 (.cond (.t 8)
 .skip
 (.seq (.reg [⟨(some 20), .bin .eql (.t 7) (.c (.d (.int .i64 36))), none⟩,
 ⟨(some 8), .mv (.t 20), none⟩])
 (.cond (.t 8)
 .skip
 (.seq (.reg [⟨(some 21), .bin .eql (.t 7) (.c (.d (.int .i64 41))), none⟩,
 ⟨(some 8), .mv (.t 21), none⟩])
 (.cond (.t 8)
 .skip
 (.reg [⟨(some 22), .bin .eql (.t 7) (.c (.d (.int .i64 51))), none⟩,
 ⟨(some 8), .mv (.t 22), none⟩])))))))))))))))))))))))))))
 (.cond (.t 8)
 (.seq (.reg [⟨(some 23), .fadr 1 (.t 1), none⟩,
 ⟨(some 24), .ld none (.t 23), none⟩,
 ⟨(some 25), .call 56 [(.t 24)], none⟩,
 ⟨(some 2), .mv (.t 25), none⟩])
 .ret)
 (.seq (.seq (.reg [⟨(some 27), .bin .eql (.t 7) (.c (.d (.int .i64 37))), none⟩,
 ⟨(some 26), .mv (.t 27), none⟩])
 (.cond (.t 26)
 .skip
 (.reg [⟨(some 28), .bin .eql (.t 7) (.c (.d (.int .i64 54))), none⟩,
 ⟨(some 26), .mv (.t 28), none⟩])))
 (.cond (.t 26)
 (.seq (.reg [⟨(some 30), .fadr 1 (.t 1), none⟩,
 ⟨(some 31), .ld none (.t 30), none⟩,
 ⟨(some 32), .call 57 [(.t 31), (.c (.d (.str [58, 58])))], none⟩,
 ⟨(some 29), .mv (.t 32), none⟩,
 ⟨(some 33), .ext (.t 29) 0, none⟩,
 ⟨(some 34), .ext (.t 29) 1, none⟩,
 ⟨(some 35), .ext (.t 29) 2, none⟩,
 ⟨(some 3), .mv (.t 33), none⟩,
 ⟨(some 4), .mv (.t 34), none⟩,
 ⟨(some 5), .mv (.t 35), none⟩])
 (.seq (.reg [⟨(some 36), .mv (.t 5), none⟩,
 ⟨(some 37), .mv (.t 36), none⟩,
 ⟨(some 38), .mv (.t 3), some (37, true)⟩,
 ⟨(some 39), .call 56 [(.t 38)], some (37, true)⟩,
 ⟨(some 40), .pick (.t 37) (.t 39) (.c (.d (.bool false))), none⟩,
 ⟨(some 41), .mv (.t 40), none⟩,
 ⟨(some 42), .mv (.t 4), some (41, true)⟩,
 ⟨(some 43), .call 56 [(.t 42)], some (41, true)⟩,
 ⟨(some 44), .pick (.t 41) (.t 43) (.c (.d (.bool false))), none⟩,
 ⟨(some 2), .mv (.t 44), none⟩])
 .ret))
 (.seq (.reg [⟨(some 46), .bin .eql (.t 7) (.c (.d (.int .i64 38))), none⟩,
 ⟨(some 45), .mv (.t 46), none⟩])
 (.cond (.t 45)
 (.seq (.reg [⟨(some 47), .fadr 1 (.t 1), none⟩,
 ⟨(some 48), .ld none (.t 47), none⟩,
 ⟨(some 49), .call 58 [(.t 48)], none⟩,
 ⟨(some 2), .mv (.t 49), none⟩])
 .ret)
 .skip))))))))
 (.seq (.reg [⟨(some 50), .fadr 1 (.t 1), none⟩,
 ⟨(some 51), .ld none (.t 50), none⟩,
 ⟨(some 52), .bin .eql (.t 51) (.c (.d (.str []))), none⟩,
 ⟨(some 2), .mv (.t 52), none⟩])
 .ret)))
def F38 : VFn := ⟨1, 53, B38, [.tmp 2], false⟩

def A38 : Ann := ⟨keepOf [], ghostOf []⟩
-- 39 patina/tree.num
def B39 : VCode :=
 (.seq (.reg [⟨(some 2), .box (.t 0), none⟩,
 ⟨(some 4), .mv (.c (.d (.bool false))), none⟩])
 (.seq (.seq (.reg [⟨(some 5), .fadr 0 (.t 2), none⟩,
 ⟨(some 6), .ld none (.t 5), none⟩])
 (.block 0 (.seq (.reg [⟨(some 8), .bin .eql (.t 6) (.c (.d (.int .i64 2))), none⟩,
 ⟨(some 7), .mv (.t 8), none⟩])
 (.cond (.t 7)
 (.seq (.reg [⟨(some 9), .fadr 2 (.t 2), none⟩,
 ⟨(some 10), .ld none (.t 9), none⟩,
 ⟨(some 11), .mv (.t 1), none⟩,
 ⟨(some 12), .bin .eql (.t 10) (.t 11), none⟩,
 ⟨(some 4), .mv (.t 12), none⟩])
 .ret)
 (.seq (.seq (.reg [⟨(some 14), .bin .eql (.t 6) (.c (.d (.int .i64 7))), none⟩,
 ⟨(some 13), .mv (.t 14), none⟩])
 (.cond (.t 13)
 .skip
 (.seq (.reg [⟨(some 15), .bin .eql (.t 6) (.c (.d (.int .i64 20))), none⟩,
 ⟨(some 13), .mv (.t 15), none⟩])
 (.cond (.t 13)
 .skip
 (.seq (.reg [⟨(some 16), .bin .eql (.t 6) (.c (.d (.int .i64 21))), none⟩,
 ⟨(some 13), .mv (.t 16), none⟩])
 (.cond (.t 13)
 .skip
 (.seq (.reg [⟨(some 17), .bin .eql (.t 6) (.c (.d (.int .i64 31))), none⟩,
 ⟨(some 13), .mv (.t 17), none⟩])
 (.cond (.t 13)
 .skip
 (.seq (.reg [⟨(some 18), .bin .eql (.t 6) (.c (.d (.int .i64 53))), none⟩,
 ⟨(some 13), .mv (.t 18), none⟩])
 (.cond (.t 13)
 .skip
 (.reg [⟨(some 19), .bin .eql (.t 6) (.c (.d (.int .i64 43))), none⟩,
 ⟨(some 13), .mv (.t 19), none⟩])))))))))))
 (.cond (.t 13)
 (.seq (.reg [⟨(some 20), .fadr 2 (.t 2), none⟩,
 ⟨(some 21), .ld none (.t 20), none⟩,
 ⟨(some 22), .bin .eql (.t 21) (.c (.d (.int .i64 0))), none⟩,
 ⟨(some 23), .mv (.t 22), none⟩,
 ⟨(some 24), .fadr 2 (.t 2), some (23, false)⟩,
 ⟨(some 25), .ld none (.t 24), some (23, false)⟩,
 ⟨(some 26), .bin .eql (.t 25) (.c (.d (.int .i64 1))), some (23, false)⟩,
 ⟨(some 27), .pick (.t 23) (.c (.d (.bool true))) (.t 26), none⟩,
 ⟨(some 4), .mv (.t 27), none⟩])
 .ret)
 (.seq (.reg [⟨(some 29), .bin .eql (.t 6) (.c (.d (.int .i64 30))), none⟩,
 ⟨(some 28), .mv (.t 29), none⟩])
 (.cond (.t 28)
 (.seq (.reg [⟨(some 30), .fadr 2 (.t 2), none⟩,
 ⟨(some 31), .ld none (.t 30), none⟩,
 ⟨(some 32), .bin .geq (.t 31) (.c (.d (.int .i64 0))), none⟩,
 ⟨(some 4), .mv (.t 32), none⟩])
 .ret)
 (.seq (.reg [⟨(some 34), .bin .eql (.t 6) (.c (.d (.int .i64 52))), none⟩,
 ⟨(some 33), .mv (.t 34), none⟩])
 (.cond (.t 33)
 (.seq (.reg [⟨(some 35), .fadr 2 (.t 2), none⟩,
 ⟨(some 36), .ld none (.t 35), none⟩,
 ⟨(some 37), .bin .gtr (.t 36) (.c (.d (.int .i64 (-9223372036854775808)))), none⟩,
 ⟨(some 4), .mv (.t 37), none⟩])
 .ret)
 .skip))))))))))
 (.seq (.reg [⟨(some 38), .fadr 2 (.t 2), none⟩,
 ⟨(some 39), .ld none (.t 38), none⟩,
 ⟨(some 40), .bin .eql (.t 39) (.c (.d (.int .i64 0))), none⟩,
 ⟨(some 4), .mv (.t 40), none⟩])
 .ret)))
def F39 : VFn := ⟨2, 41, B39, [.tmp 4], false⟩

def A39 : Ann := ⟨keepOf [], ghostOf []⟩
-- 40 patina/tree.fits
def B40 : VCode :=
 (.seq (.reg [⟨(some 2), .box (.t 0), none⟩,
 ⟨(some 4), .mv (.c (.d (.bool false))), none⟩])
 (.seq (.reg [⟨(some 9), .ld (some 6) (.t 2), none⟩,
 ⟨(some 10), .call 59 [(.t 9)], none⟩,
 ⟨(some 5), .mv (.t 10), none⟩])
 (.seq (.reg [⟨(some 11), .mv (.t 5), none⟩,
 ⟨(some 12), .call 60 [(.t 11), (.c (.d (.int .u8 42)))], none⟩,
 ⟨(some 6), .mv (.t 12), none⟩])
 (.seq (.seq (.reg [⟨(some 13), .mv (.t 6), none⟩,
 ⟨(some 14), .bin .lss (.t 13) (.c (.d (.int .i64 0))), none⟩])
 (.cond (.t 14)
 (.seq (.reg [⟨(some 15), .mv (.t 5), none⟩,
 ⟨(some 16), .mv (.t 1), none⟩,
 ⟨(some 17), .call 61 [(.t 15), (.t 16)], none⟩,
 ⟨(some 4), .mv (.t 17), none⟩])
 .ret)
 .skip))
 (.seq (.reg [⟨(some 18), .mv (.t 5), none⟩,
 ⟨(some 19), .len true (.t 18), none⟩,
 ⟨(some 20), .mv (.t 6), none⟩,
 ⟨(some 21), .bin .sub (.t 19) (.t 20), none⟩,
 ⟨(some 22), .bin .sub (.t 21) (.c (.d (.int .i64 2))), none⟩,
 ⟨(some 7), .mv (.t 22), none⟩])
 (.seq (.seq (.reg [⟨(some 23), .mv (.t 1), none⟩,
 ⟨(some 24), .len false (.t 23), none⟩,
 ⟨(some 25), .mv (.t 6), none⟩,
 ⟨(some 26), .mv (.t 7), none⟩,
 ⟨(some 27), .bin .add (.t 25) (.t 26), none⟩,
 ⟨(some 28), .bin .lss (.t 24) (.t 27), none⟩])
 (.cond (.t 28)
 (.seq (.reg [⟨(some 4), .mv (.c (.d (.bool false))), none⟩])
 .ret)
 .skip))
 (.seq (.reg [⟨(some 29), .mv (.t 1), none⟩,
 ⟨(some 30), .len false (.t 29), none⟩,
 ⟨(some 31), .mv (.t 7), none⟩,
 ⟨(some 32), .bin .sub (.t 30) (.t 31), none⟩,
 ⟨(some 8), .mv (.t 32), none⟩])
 (.seq (.draw 26 [⟨(some 33), .mv (.t 5), none⟩,
 ⟨(some 34), .mv (.t 6), none⟩,
 ⟨(some 35), .slcs (.t 33) none (some (.t 34)), none⟩,
 ⟨(some 36), .mv (.t 1), none⟩,
 ⟨(some 37), .mv (.t 6), none⟩,
 ⟨(some 38), .slc 1 (.t 36) none (some (.t 37)), none⟩,
 ⟨(some 39), .call 61 [(.t 35), (.t 38)], none⟩,
 ⟨(some 40), .mv (.t 39), none⟩,
 ⟨(some 41), .mv (.t 5), some (40, true)⟩,
 ⟨(some 42), .mv (.t 6), some (40, true)⟩,
 ⟨(some 43), .bin .add (.t 42) (.c (.d (.int .i64 1))), some (40, true)⟩,
 ⟨(some 44), .idx (.t 41) (.t 43), some (40, true)⟩,
 ⟨(some 45), .mv (.t 1), some (40, true)⟩,
 ⟨(some 46), .mv (.t 6), some (40, true)⟩,
 ⟨(some 47), .mv (.t 8), some (40, true)⟩,
 ⟨(some 48), .slc 1 (.t 45) (some (.t 46)) (some (.t 47)), some (40, true)⟩,
 ⟨(some 49), .call 62 [(.t 44), (.t 48)], some (40, true)⟩,
 ⟨(some 50), .pick (.t 40) (.t 49) (.c (.d (.bool false))), none⟩,
 ⟨(some 51), .mv (.t 50), none⟩,
 ⟨(some 52), .mv (.t 5), some (51, true)⟩,
 ⟨(some 53), .mv (.t 6), some (51, true)⟩,
 ⟨(some 54), .bin .add (.t 53) (.c (.d (.int .i64 2))), some (51, true)⟩,
 ⟨(some 55), .slcs (.t 52) (some (.t 54)) none, some (51, true)⟩,
 ⟨(some 56), .mv (.t 1), some (51, true)⟩,
 ⟨(some 57), .mv (.t 8), some (51, true)⟩,
 ⟨(some 58), .slc 1 (.t 56) (some (.t 57)) none, some (51, true)⟩,
 ⟨(some 59), .call 61 [(.t 55), (.t 58)], some (51, true)⟩,
 ⟨(some 60), .pick (.t 51) (.t 59) (.c (.d (.bool false))), none⟩,
 ⟨(some 4), .mv (.t 60), none⟩])
 .ret))))))))
def F40 : VFn := ⟨2, 61, B40, [.tmp 4], false⟩

def A40 : Ann := ⟨keepOf [], ghostOf []⟩
-- 41 (*patina/tree.printer).put
def B41 : VCode :=
 (.reg [⟨(some 4), .mv (.t 0), none⟩,
 ⟨(some 5), .mv (.t 0), none⟩,
 ⟨(some 6), .nilck (.t 5), none⟩,
 ⟨(some 7), .fadr 1 (.t 6), none⟩,
 ⟨(some 8), .ld none (.t 7), none⟩,
 ⟨(some 9), .mv (.t 1), none⟩,
 ⟨(some 10), .app 1 16 (.t 8) (.t 9), none⟩,
 ⟨(some 11), .nilck (.t 4), none⟩,
 ⟨(some 12), .fadr 1 (.t 11), none⟩,
 ⟨none, .st 1 (.t 12) (.t 10), none⟩])
def F41 : VFn := ⟨2, 13, B41, [], false⟩

def A41 : Ann := ⟨keepOf [], ghostOf []⟩
-- 42 (*patina/tree.printer).function
def B42 : VCode :=
 (.seq (.reg [⟨(some 3), .box (.t 1), none⟩])
 (.seq (.reg [⟨(some 5), .fadr 2 (.t 3), none⟩,
 ⟨(some 6), .ld none (.t 5), none⟩,
 ⟨(some 4), .mv (.t 6), none⟩])
 (.seq (.reg [⟨(some 7), .mv (.t 0), none⟩,
 ⟨(some 8), .fadr 1 (.t 3), none⟩,
 ⟨(some 9), .ld none (.t 8), none⟩,
 ⟨(some 10), .bslice 1 3 [(.c (.d (.str [102, 110]))), (.t 9), (.c (.d (.str [40])))], none⟩,
 ⟨(some 11), .call 41 [(.t 7), (.t 10)], none⟩])
 (.seq (.reg [⟨(some 12), .mv (.t 0), none⟩,
 ⟨(some 13), .fadr 3 (.t 3), none⟩,
 ⟨(some 14), .ld none (.t 13), none⟩,
 ⟨(some 15), .mv (.t 4), none⟩,
 ⟨(some 16), .slc 1 (.t 14) none (some (.t 15)), none⟩,
 ⟨(some 17), .call 43 [(.t 12), (.t 16)], none⟩])
 (.seq (.reg [⟨(some 18), .mv (.t 0), none⟩,
 ⟨(some 19), .bslice 1 1 [(.c (.d (.str [41])))], none⟩,
 ⟨(some 20), .call 41 [(.t 18), (.t 19)], none⟩])
 (.seq (.seq (.draw 10 [⟨(some 21), .mv (.t 0), none⟩,
 ⟨(some 22), .nilck (.t 21), none⟩,
 ⟨(some 23), .fadr 0 (.t 22), none⟩,
 ⟨(some 24), .fadr 0 (.t 23), none⟩,
 ⟨(some 25), .ld none (.t 24), none⟩,
 ⟨(some 26), .fadr 3 (.t 3), none⟩,
 ⟨(some 27), .ld none (.t 26), none⟩,
 ⟨(some 28), .mv (.t 4), none⟩,
 ⟨(some 29), .iadr 1 (.t 27) (.t 28), none⟩,
 ⟨(some 30), .ld none (.t 29), none⟩,
 ⟨(some 31), .iadr 6 (.t 25) (.t 30), none⟩,
 ⟨(some 32), .fadr 0 (.t 31), none⟩,
 ⟨(some 33), .ld none (.t 32), none⟩,
 ⟨(some 34), .bin .neq (.t 33) (.c (.d (.int .i64 12))), none⟩])
 (.cond (.t 34)
 (.seq (.reg [⟨(some 35), .mv (.t 0), none⟩,
 ⟨(some 36), .bslice 1 1 [(.c (.d (.str [45, 62])))], none⟩,
 ⟨(some 37), .call 41 [(.t 35), (.t 36)], none⟩])
 (.reg [⟨(some 38), .mv (.t 0), none⟩,
 ⟨(some 39), .fadr 3 (.t 3), none⟩,
 ⟨(some 40), .ld none (.t 39), none⟩,
 ⟨(some 41), .mv (.t 4), none⟩,
 ⟨(some 42), .iadr 1 (.t 40) (.t 41), none⟩,
 ⟨(some 43), .ld none (.t 42), none⟩,
 ⟨(some 44), .call 18 [(.t 38), (.t 43)], none⟩]))
 .skip))
 (.reg [⟨(some 45), .mv (.t 0), none⟩,
 ⟨(some 46), .fadr 3 (.t 3), none⟩,
 ⟨(some 47), .ld none (.t 46), none⟩,
 ⟨(some 48), .mv (.t 4), none⟩,
 ⟨(some 49), .bin .add (.t 48) (.c (.d (.int .i64 1))), none⟩,
 ⟨(some 50), .iadr 1 (.t 47) (.t 49), none⟩,
 ⟨(some 51), .ld none (.t 50), none⟩,
 ⟨(some 52), .call 18 [(.t 45), (.t 51)], none⟩])))))))
def F42 : VFn := ⟨2, 53, B42, [], false⟩

def A42 : Ann := ⟨keepOf [], ghostOf []⟩
-- 43 (*patina/tree.printer).list
def K43_0 : List Nat := [0, 6, 7, 8]
def L43_0 : VCode :=
 (.seq (.reg [⟨(some 9), .bin .lss (.t 8) (.t 7), none⟩])
 (.seq (.cond (.t 9)
 .skip
 (.exit 0))
 (.seq (.block 1 (.seq (.reg [⟨(some 10), .mv (.t 8), none⟩,
 ⟨(some 11), .iadr 1 (.t 6) (.t 8), none⟩,
 ⟨(some 12), .ld none (.t 11), none⟩,
 ⟨(some 4), .mv (.t 10), none⟩,
 ⟨(some 5), .mv (.t 12), none⟩])
 (.seq (.seq (.reg [⟨(some 13), .mv (.t 4), none⟩,
 ⟨(some 14), .bin .gtr (.t 13) (.c (.d (.int .i64 0))), none⟩])
 (.cond (.t 14)
 (.reg [⟨(some 15), .mv (.t 0), none⟩,
 ⟨(some 16), .bslice 1 1 [(.c (.d (.str [44])))], none⟩,
 ⟨(some 17), .call 41 [(.t 15), (.t 16)], none⟩])
 .skip))
 (.reg [⟨(some 18), .mv (.t 0), none⟩,
 ⟨(some 19), .mv (.t 5), none⟩,
 ⟨(some 20), .call 18 [(.t 18), (.t 19)], none⟩]))))
 (.reg [⟨(some 21), .bin .add (.t 8) (.c (.d (.int .i64 1))), none⟩,
 ⟨(some 8), .mv (.t 21), none⟩]))))
def B43 : VCode :=
 (.seq (.reg [⟨(some 6), .mv (.t 1), none⟩,
 ⟨(some 7), .len false (.t 6), none⟩,
 ⟨(some 8), .mv (.c (.d (.int .i64 0))), none⟩])
 (.block 0 (.loop K43_0 L43_0)))
def F43 : VFn := ⟨2, 22, B43, [], false⟩

def A43 : Ann := ⟨keepOf [(1, [0, 6, 7, 8])], ghostOf []⟩
-- 44 (*patina/tree.printer).perhaps
def B44 : VCode :=
 (.seq (.reg [⟨(some 4), .mv (.t 1), none⟩,
 ⟨(some 5), .len false (.t 4), none⟩,
 ⟨(some 6), .bin .gtr (.t 5) (.c (.d (.int .i64 0))), none⟩])
 (.cond (.t 6)
 (.seq (.reg [⟨(some 7), .mv (.t 0), none⟩,
 ⟨(some 8), .bslice 1 1 [(.c (.d (.str [40])))], none⟩,
 ⟨(some 9), .call 41 [(.t 7), (.t 8)], none⟩])
 (.seq (.reg [⟨(some 10), .mv (.t 0), none⟩,
 ⟨(some 11), .mv (.t 1), none⟩,
 ⟨(some 12), .iadr 1 (.t 11) (.c (.d (.int .i64 0))), none⟩,
 ⟨(some 13), .ld none (.t 12), none⟩,
 ⟨(some 14), .call 18 [(.t 10), (.t 13)], none⟩])
 (.reg [⟨(some 15), .mv (.t 0), none⟩,
 ⟨(some 16), .bslice 1 1 [(.c (.d (.str [41])))], none⟩,
 ⟨(some 17), .call 41 [(.t 15), (.t 16)], none⟩])))
 .skip))
def F44 : VFn := ⟨2, 18, B44, [], false⟩

def A44 : Ann := ⟨keepOf [], ghostOf []⟩
-- 45 (*patina/tree.printer).let
def B45 : VCode :=
 (.seq (.reg [⟨(some 3), .box (.t 1), none⟩])
 (.seq (.reg [⟨(some 4), .mv (.t 0), none⟩,
 ⟨(some 5), .bslice 1 1 [(.c (.d (.str [108, 101, 116])))], none⟩,
 ⟨(some 6), .call 41 [(.t 4), (.t 5)], none⟩])
 (.seq (.seq (.reg [⟨(some 7), .fadr 2 (.t 3), none⟩,
 ⟨(some 8), .ld none (.t 7), none⟩,
 ⟨(some 9), .bin .eql (.t 8) (.c (.d (.int .i64 1))), none⟩])
 (.cond (.t 9)
 (.reg [⟨(some 10), .mv (.t 0), none⟩,
 ⟨(some 11), .bslice 1 1 [(.c (.d (.str [109, 117, 116])))], none⟩,
 ⟨(some 12), .call 41 [(.t 10), (.t 11)], none⟩])
 .skip))
 (.seq (.reg [⟨(some 13), .mv (.t 0), none⟩,
 ⟨(some 14), .fadr 1 (.t 3), none⟩,
 ⟨(some 15), .ld none (.t 14), none⟩,
 ⟨(some 16), .bslice 1 1 [(.t 15)], none⟩,
 ⟨(some 17), .call 41 [(.t 13), (.t 16)], none⟩])
 (.seq (.seq (.reg [⟨(some 18), .fadr 3 (.t 3), none⟩,
 ⟨(some 19), .ld none (.t 18), none⟩,
 ⟨(some 20), .len false (.t 19), none⟩,
 ⟨(some 21), .bin .eql (.t 20) (.c (.d (.int .i64 2))), none⟩])
 (.cond (.t 21)
 (.seq (.reg [⟨(some 22), .mv (.t 0), none⟩,
 ⟨(some 23), .bslice 1 1 [(.c (.d (.str [58])))], none⟩,
 ⟨(some 24), .call 41 [(.t 22), (.t 23)], none⟩])
 (.reg [⟨(some 25), .mv (.t 0), none⟩,
 ⟨(some 26), .fadr 3 (.t 3), none⟩,
 ⟨(some 27), .ld none (.t 26), none⟩,
 ⟨(some 28), .iadr 1 (.t 27) (.c (.d (.int .i64 0))), none⟩,
 ⟨(some 29), .ld none (.t 28), none⟩,
 ⟨(some 30), .call 18 [(.t 25), (.t 29)], none⟩]))
 .skip))
 (.seq (.reg [⟨(some 31), .mv (.t 0), none⟩,
 ⟨(some 32), .bslice 1 1 [(.c (.d (.str [61])))], none⟩,
 ⟨(some 33), .call 41 [(.t 31), (.t 32)], none⟩])
 (.seq (.reg [⟨(some 34), .mv (.t 0), none⟩,
 ⟨(some 35), .fadr 3 (.t 3), none⟩,
 ⟨(some 36), .ld none (.t 35), none⟩,
 ⟨(some 37), .fadr 3 (.t 3), none⟩,
 ⟨(some 38), .ld none (.t 37), none⟩,
 ⟨(some 39), .len false (.t 38), none⟩,
 ⟨(some 40), .bin .sub (.t 39) (.c (.d (.int .i64 1))), none⟩,
 ⟨(some 41), .iadr 1 (.t 36) (.t 40), none⟩,
 ⟨(some 42), .ld none (.t 41), none⟩,
 ⟨(some 43), .call 18 [(.t 34), (.t 42)], none⟩])
 (.reg [⟨(some 44), .mv (.t 0), none⟩,
 ⟨(some 45), .bslice 1 1 [(.c (.d (.str [59])))], none⟩,
 ⟨(some 46), .call 41 [(.t 44), (.t 45)], none⟩]))))))))
def F45 : VFn := ⟨2, 47, B45, [], false⟩

def A45 : Ann := ⟨keepOf [], ghostOf []⟩
-- 46 (*patina/tree.printer).operand
def B46 : VCode :=
 (.seq (.reg [⟨(some 7), .mv (.t 0), none⟩,
 ⟨(some 8), .nilck (.t 7), none⟩,
 ⟨(some 9), .fadr 0 (.t 8), none⟩,
 ⟨(some 10), .fadr 0 (.t 9), none⟩,
 ⟨(some 11), .ld none (.t 10), none⟩,
 ⟨(some 12), .mv (.t 1), none⟩,
 ⟨(some 13), .iadr 6 (.t 11) (.t 12), none⟩,
 ⟨(some 14), .fadr 0 (.t 13), none⟩,
 ⟨(some 15), .ld none (.t 14), none⟩,
 ⟨(some 6), .mv (.t 15), none⟩])
 (.block 0 (.seq (.seq (.reg [⟨(some 26), .mv (.t 6), none⟩,
 ⟨(some 27), .bin .geq (.t 26) (.c (.d (.int .i64 30))), none⟩,
 ⟨(some 28), .mv (.t 27), none⟩,
 ⟨(some 29), .mv (.t 6), some (28, true)⟩,
 ⟨(some 30), .bin .leq (.t 29) (.c (.d (.int .i64 34))), some (28, true)⟩,
 ⟨(some 31), .pick (.t 28) (.t 30) (.c (.d (.bool false))), none⟩,
 ⟨(some 25), .mv (.t 31), none⟩])
 (.cond (.t 25)
 .skip
 (.seq (.reg [⟨(some 32), .mv (.t 6), none⟩,
 ⟨(some 33), .bin .eql (.t 32) (.c (.d (.int .i64 37))), none⟩,
 ⟨(some 25), .mv (.t 33), none⟩])
 (.cond (.t 25)
 .skip
 (.seq (.reg [⟨(some 34), .mv (.t 6), none⟩,
 ⟨(some 35), .bin .eql (.t 34) (.c (.d (.int .i64 44))), none⟩,
 ⟨(some 25), .mv (.t 35), none⟩])
 (.cond (.t 25)
 .skip
 (.reg [⟨(some 36), .mv (.t 2), none⟩,
 ⟨(some 37), .mv (.t 36), none⟩,
 ⟨(some 38), .mv (.t 6), some (37, true)⟩,
 ⟨(some 39), .bin .eql (.t 38) (.c (.d (.int .i64 41))), some (37, true)⟩,
 ⟨(some 40), .pick (.t 37) (.t 39) (.c (.d (.bool false))), none⟩,
 ⟨(some 25), .mv (.t 40), none⟩])))))))
 (.cond (.t 25)
 (.reg [⟨(some 41), .mv (.t 0), none⟩,
 ⟨(some 42), .mv (.t 1), none⟩,
 ⟨(some 43), .call 18 [(.t 41), (.t 42)], none⟩])
 (.seq (.reg [⟨(some 16), .mv (.t 0), none⟩,
 ⟨(some 17), .bslice 1 1 [(.c (.d (.str [40])))], none⟩,
 ⟨(some 18), .call 41 [(.t 16), (.t 17)], none⟩])
 (.seq (.reg [⟨(some 19), .mv (.t 0), none⟩,
 ⟨(some 20), .mv (.t 1), none⟩,
 ⟨(some 21), .call 18 [(.t 19), (.t 20)], none⟩])
 (.reg [⟨(some 22), .mv (.t 0), none⟩,
 ⟨(some 23), .bslice 1 1 [(.c (.d (.str [41])))], none⟩,
 ⟨(some 24), .call 41 [(.t 22), (.t 23)], none⟩])))))))
def F46 : VFn := ⟨3, 44, B46, [], false⟩

def A46 : Ann := ⟨keepOf [], ghostOf []⟩
-- 47 (*patina/tree.printer).ahead
def B47 : VCode :=
 (.seq (.reg [⟨(some 4), .box (.t 1), none⟩])
 (.seq (.reg [⟨(some 6), .mv (.t 0), none⟩,
 ⟨(some 7), .mv (.t 2), none⟩,
 ⟨(some 8), .call 41 [(.t 6), (.t 7)], none⟩])
 (.reg [⟨(some 9), .mv (.t 0), none⟩,
 ⟨(some 10), .fadr 3 (.t 4), none⟩,
 ⟨(some 11), .ld none (.t 10), none⟩,
 ⟨(some 12), .iadr 1 (.t 11) (.c (.d (.int .i64 0))), none⟩,
 ⟨(some 13), .ld none (.t 12), none⟩,
 ⟨(some 14), .call 46 [(.t 9), (.t 13), (.c (.d (.bool false)))], none⟩])))
def F47 : VFn := ⟨3, 15, B47, [], false⟩

def A47 : Ann := ⟨keepOf [], ghostOf []⟩
-- 49 strconv.FormatBool
def B49 : VCode :=
 (.seq (.reg [⟨(some 2), .mv (.c (.d (.str []))), none⟩])
 (.seq (.reg [⟨(some 3), .mv (.t 0), none⟩,
 ⟨(some 4), .call 64 [(.t 3)], none⟩,
 ⟨(some 2), .mv (.t 4), none⟩])
 .ret))
def F49 : VFn := ⟨1, 5, B49, [.tmp 2], false⟩

def A49 : Ann := ⟨keepOf [], ghostOf []⟩
-- 50 (*patina/tree.printer).named
def B50 : VCode :=
 (.seq (.reg [⟨(some 8), .mv (.t 1), none⟩,
 ⟨(some 9), .call 57 [(.t 8), (.c (.d (.str [58, 58])))], none⟩,
 ⟨(some 7), .mv (.t 9), none⟩,
 ⟨(some 10), .ext (.t 7) 0, none⟩,
 ⟨(some 11), .ext (.t 7) 1, none⟩,
 ⟨(some 12), .ext (.t 7) 2, none⟩,
 ⟨(some 4), .mv (.t 10), none⟩,
 ⟨(some 5), .mv (.t 11), none⟩,
 ⟨(some 6), .mv (.t 12), none⟩])
 (.reg [⟨(some 13), .mv (.t 0), none⟩,
 ⟨(some 14), .mv (.t 4), none⟩,
 ⟨(some 15), .mv (.t 5), none⟩,
 ⟨(some 16), .bslice 1 3 [(.t 14), (.c (.d (.str [58, 58]))), (.t 15)], none⟩,
 ⟨(some 17), .call 41 [(.t 13), (.t 16)], none⟩]))
def F50 : VFn := ⟨2, 18, B50, [], false⟩

def A50 : Ann := ⟨keepOf [], ghostOf []⟩
-- 53 slices.Index[[]int,int]
def K53_0 : List Nat := [0, 1, 7, 8]
def L53_0 : VCode :=
 (.seq (.reg [⟨(some 9), .bin .lss (.t 8) (.t 7), none⟩])
 (.seq (.cond (.t 9)
 .skip
 (.exit 0))
 (.seq (.block 1 (.seq (.reg [⟨(some 10), .mv (.t 8), none⟩,
 ⟨(some 5), .mv (.t 10), none⟩])
 (.seq (.reg [⟨(some 11), .mv (.t 1), none⟩,
 ⟨(some 12), .mv (.t 0), none⟩,
 ⟨(some 13), .mv (.t 5), none⟩,
 ⟨(some 14), .iadr 1 (.t 12) (.t 13), none⟩,
 ⟨(some 15), .ld none (.t 14), none⟩,
 ⟨(some 16), .bin .eql (.t 11) (.t 15), none⟩])
 (.cond (.t 16)
 (.seq (.reg [⟨(some 17), .mv (.t 5), none⟩,
 ⟨(some 4), .mv (.t 17), none⟩])
 .ret)
 .skip))))
 (.reg [⟨(some 18), .bin .add (.t 8) (.c (.d (.int .i64 1))), none⟩,
 ⟨(some 8), .mv (.t 18), none⟩]))))
def B53 : VCode :=
 (.seq (.reg [⟨(some 4), .mv (.c (.d (.int .i64 0))), none⟩])
 (.seq (.seq (.reg [⟨(some 6), .mv (.t 0), none⟩,
 ⟨(some 7), .len false (.t 6), none⟩,
 ⟨(some 8), .mv (.c (.d (.int .i64 0))), none⟩])
 (.block 0 (.loop K53_0 L53_0)))
 (.seq (.reg [⟨(some 4), .mv (.c (.d (.int .i64 (-1)))), none⟩])
 .ret)))
def F53 : VFn := ⟨2, 19, B53, [.tmp 4], false⟩

def A53 : Ann := ⟨keepOf [(2, [0, 1, 7, 8])], ghostOf []⟩
-- 54 patina/tree.isPattern
def B54 : VCode :=
 (.seq (.reg [⟨(some 2), .mv (.c (.d (.bool false))), none⟩])
 (.seq (.reg [⟨(some 3), .mv (.t 0), none⟩,
 ⟨(some 4), .bin .geq (.t 3) (.c (.d (.int .i64 50))), none⟩,
 ⟨(some 5), .mv (.t 4), none⟩,
 ⟨(some 6), .mv (.t 0), some (5, true)⟩,
 ⟨(some 7), .bin .leq (.t 6) (.c (.d (.int .i64 54))), some (5, true)⟩,
 ⟨(some 8), .pick (.t 5) (.t 7) (.c (.d (.bool false))), none⟩,
 ⟨(some 2), .mv (.t 8), none⟩])
 .ret))
def F54 : VFn := ⟨1, 9, B54, [.tmp 2], false⟩

def A54 : Ann := ⟨keepOf [], ghostOf []⟩
-- 55 patina/tree.isExpr
def B55 : VCode :=
 (.seq (.reg [⟨(some 2), .mv (.c (.d (.bool false))), none⟩])
 (.seq (.reg [⟨(some 3), .mv (.t 0), none⟩,
 ⟨(some 4), .bin .eql (.t 3) (.c (.d (.int .i64 20))), none⟩,
 ⟨(some 5), .mv (.t 4), none⟩,
 ⟨(some 6), .mv (.t 0), some (5, false)⟩,
 ⟨(some 7), .bin .geq (.t 6) (.c (.d (.int .i64 30))), some (5, false)⟩,
 ⟨(some 8), .mv (.t 7), some (5, false)⟩,
 ⟨(some 9), .mv (.t 0), some (8, true)⟩,
 ⟨(some 10), .bin .leq (.t 9) (.c (.d (.int .i64 46))), some (8, true)⟩,
 ⟨(some 11), .pick (.t 8) (.t 10) (.c (.d (.bool false))), some (5, false)⟩,
 ⟨(some 12), .mv (.t 11), some (5, false)⟩,
 ⟨(some 13), .mv (.t 0), some (12, true)⟩,
 ⟨(some 14), .bin .neq (.t 13) (.c (.d (.int .i64 36))), some (12, true)⟩,
 ⟨(some 15), .pick (.t 12) (.t 14) (.c (.d (.bool false))), some (5, false)⟩,
 ⟨(some 16), .pick (.t 5) (.c (.d (.bool true))) (.t 15), none⟩,
 ⟨(some 2), .mv (.t 16), none⟩])
 .ret))
def F55 : VFn := ⟨1, 17, B55, [.tmp 2], false⟩

def A55 : Ann := ⟨keepOf [], ghostOf []⟩
-- 56 patina/lex.Name
def B56 : VCode :=
 (.seq (.reg [⟨(some 2), .mv (.c (.d (.bool false))), none⟩])
 (.seq (.reg [⟨(some 3), .mv (.t 0), none⟩,
 ⟨(some 4), .call 67 [(.t 3)], none⟩,
 ⟨(some 5), .mv (.t 4), none⟩,
 ⟨(some 6), .mv (.t 0), some (5, true)⟩,
 ⟨(some 7), .len true (.t 6), some (5, true)⟩,
 ⟨(some 8), .bin .leq (.t 7) (.c (.d (.int .i64 64))), some (5, true)⟩,
 ⟨(some 9), .pick (.t 5) (.t 8) (.c (.d (.bool false))), none⟩,
 ⟨(some 10), .mv (.t 9), none⟩,
 ⟨(some 11), .mv (.t 0), some (10, true)⟩,
 ⟨(some 12), .call 68 [(.t 11)], some (10, true)⟩,
 ⟨(some 13), .un .not (.t 12), some (10, true)⟩,
 ⟨(some 14), .pick (.t 10) (.t 13) (.c (.d (.bool false))), none⟩,
 ⟨(some 2), .mv (.t 14), none⟩])
 .ret))
def F56 : VFn := ⟨1, 15, B56, [.tmp 2], false⟩

def A56 : Ann := ⟨keepOf [], ghostOf []⟩
-- 58 patina/tree.sign
def B58 : VCode :=
 (.seq (.reg [⟨(some 2), .mv (.c (.d (.bool false))), none⟩])
 (.seq (.seq (.reg [⟨(some 3), .mv (.t 0), none⟩])
 (.block 0 (.seq (.block 2 (.block 1 (.seq (.seq (.seq (.seq (.reg [⟨(some 5), .bin .eql (.t 3) (.c (.d (.str [124, 124]))), none⟩,
 ⟨(some 4), .mv (.t 5), none⟩])
 (.cond (.t 4)
 .skip
 (.seq (.reg [⟨(some 6), .bin .eql (.t 3) (.c (.d (.str [38, 38]))), none⟩,
 ⟨(some 4), .mv (.t 6), none⟩])
 (.cond (.t 4)
 .skip
 (.seq (.reg [⟨(some 7), .bin .eql (.t 3) (.c (.d (.str [61, 61]))), none⟩,
 ⟨(some 4), .mv (.t 7), none⟩])
 (.cond (.t 4)
 .skip
 (.seq (.reg [⟨(some 8), .bin .eql (.t 3) (.c (.d (.str [33, 61]))), none⟩,
 ⟨(some 4), .mv (.t 8), none⟩])
 (.cond (.t 4)
 .skip
 (.seq (.reg [⟨(some 9), .bin .eql (.t 3) (.c (.d (.str [60]))), none⟩,
 ⟨(some 4), .mv (.t 9), none⟩])
 (.cond (.t 4)
 .skip
 (.seq (.reg [⟨(some 10), .bin .eql (.t 3) (.c (.d (.str [62]))), none⟩,
 ⟨(some 4), .mv (.t 10), none⟩])
 (.cond (.t 4)
 .skip
 (.seq (.reg [⟨(some 11), .bin .eql (.t 3) (.c (.d (.str [60, 61]))), none⟩,
 ⟨(some 4), .mv (.t 11), none⟩])
 (.cond (.t 4)
 .skip
 (.reg [⟨(some 12), .bin .eql (.t 3) (.c (.d (.str [62, 61]))), none⟩,
 ⟨(some 4), .mv (.t 12), none⟩])))))))))))))))
 (.cond (.t 4)
 (.exit 1)
 .skip))
 (.seq (.seq (.reg [⟨(some 14), .bin .eql (.t 3) (.c (.d (.str [43]))), none⟩,
 ⟨(some 13), .mv (.t 14), none⟩])
 (.cond (.t 13)
 .skip
 (.seq (.reg [⟨(some 15), .bin .eql (.t 3) (.c (.d (.str [45]))), none⟩,
 ⟨(some 13), .mv (.t 15), none⟩])
 (.cond (.t 13)
 .skip
 (.seq (.reg [⟨(some 16), .bin .eql (.t 3) (.c (.d (.str [42]))), none⟩,
 ⟨(some 13), .mv (.t 16), none⟩])
 (.cond (.t 13)
 .skip
 (.seq (.reg [⟨(some 17), .bin .eql (.t 3) (.c (.d (.str [47]))), none⟩,
 ⟨(some 13), .mv (.t 17), none⟩])
 (.cond (.t 13)
 .skip
 (.reg [⟨(some 18), .bin .eql (.t 3) (.c (.d (.str [37]))), none⟩,
 ⟨(some 13), .mv (.t 18), none⟩])))))))))
 (.cond (.t 13)
 (.exit 2)
 .skip)))
 (.exit 0))))
 (.seq (.seq (.reg [⟨(some 2), .mv (.c (.d (.bool true))), none⟩])
 .ret)
 (.exit 0)))))
 (.seq (.reg [⟨(some 2), .mv (.c (.d (.bool false))), none⟩])
 .ret)))
def F58 : VFn := ⟨1, 19, B58, [.tmp 2], false⟩

def A58 : Ann := ⟨keepOf [], ghostOf []⟩
-- 59 patina/tree.shape
def B59 : VCode :=
 (.seq (.reg [⟨(some 1), .box (.t 0), none⟩,
 ⟨(some 2), .mv (.c (.d (.str []))), none⟩])
 (.seq (.seq (.reg [⟨(some 3), .fadr 0 (.t 1), none⟩,
 ⟨(some 4), .ld none (.t 3), none⟩])
 (.block 0 (.seq (.block 20 (.seq (.block 19 (.seq (.block 18 (.seq (.block 17 (.seq (.block 16 (.block 15 (.seq (.block 14 (.seq (.block 13 (.seq (.block 12 (.seq (.block 11 (.seq (.block 10 (.seq (.block 9 (.seq (.block 8 (.seq (.block 7 (.seq (.block 6 (.block 5 (.seq (.block 4 (.seq (.block 3 (.seq (.block 2 (.seq (.block 1 (.seq (.seq (.seq (.reg [⟨(some 6), .bin .eql (.t 4) (.c (.d (.int .i64 1))), none⟩,
 ⟨(some 5), .mv (.t 6), none⟩])
 (.cond (.t 5)
 (.exit 1)
 .skip))
 (.seq (.seq (.reg [⟨(some 8), .bin .eql (.t 4) (.c (.d (.int .i64 2))), none⟩,
 ⟨(some 7), .mv (.t 8), none⟩])
 (.cond (.t 7)
 (.exit 2)
 .skip))
 (.seq (.seq (.reg [⟨(some 10), .bin .eql (.t 4) (.c (.d (.int .i64 3))), none⟩,
 ⟨(some 9), .mv (.t 10), none⟩])
 (.cond (.t 9)
 (.exit 3)
 .skip))
 (.seq (.seq (.reg [⟨(some 12), .bin .eql (.t 4) (.c (.d (.int .i64 4))), none⟩,
 ⟨(some 11), .mv (.t 12), none⟩])
 (.cond (.t 11)
 (.exit 4)
 .skip))
 (.seq (.seq (.seq (.reg [⟨(some 14), .bin .eql (.t 4) (.c (.d (.int .i64 5))), none⟩,
 ⟨(some 13), .mv (.t 14), none⟩])
 (.cond (.t 13)
 .skip
 (.reg [⟨(some 15), .bin .eql (.t 4) (.c (.d (.int .i64 7))), none⟩,
 ⟨(some 13), .mv (.t 15), none⟩])))
 (.cond (.t 13)
 (.exit 5)
 .skip))
 (.seq (.seq (.seq (.reg [⟨(some 17), .bin .eql (.t 4) (.c (.d (.int .i64 14))), none⟩,
 ⟨(some 16), .mv (.t 17), none⟩])
 (.cond (.t 16)
 .skip
 (.seq (.reg [⟨(some 18), .bin .eql (.t 4) (.c (.d (.int .i64 15))), none⟩,
 ⟨(some 16), .mv (.t 18), none⟩])
 (.cond (.t 16)
 .skip
 (.reg [⟨(some 19), .bin .eql (.t 4) (.c (.d (.int .i64 16))), none⟩,
 ⟨(some 16), .mv (.t 19), none⟩])))))
 (.cond (.t 16)
 (.exit 6)
 .skip))
 (.seq (.seq (.reg [⟨(some 21), .bin .eql (.t 4) (.c (.d (.int .i64 6))), none⟩,
 ⟨(some 20), .mv (.t 21), none⟩])
 (.cond (.t 20)
 (.exit 7)
 .skip))
 (.seq (.seq (.reg [⟨(some 23), .bin .eql (.t 4) (.c (.d (.int .i64 20))), none⟩,
 ⟨(some 22), .mv (.t 23), none⟩])
 (.cond (.t 22)
 (.exit 8)
 .skip))
 (.seq (.seq (.reg [⟨(some 25), .bin .eql (.t 4) (.c (.d (.int .i64 21))), none⟩,
 ⟨(some 24), .mv (.t 25), none⟩])
 (.cond (.t 24)
 (.exit 9)
 .skip))
 (.seq (.seq (.seq (.reg [⟨(some 27), .bin .eql (.t 4) (.c (.d (.int .i64 23))), none⟩,
 ⟨(some 26), .mv (.t 27), none⟩])
 (.cond (.t 26)
 .skip
 (.reg [⟨(some 28), .bin .eql (.t 4) (.c (.d (.int .i64 38))), none⟩,
 ⟨(some 26), .mv (.t 28), none⟩])))
 (.cond (.t 26)
 (.exit 10)
 .skip))
 (.seq (.seq (.reg [⟨(some 30), .bin .eql (.t 4) (.c (.d (.int .i64 24))), none⟩,
 ⟨(some 29), .mv (.t 30), none⟩])
 (.cond (.t 29)
 (.exit 11)
 .skip))
 (.seq (.seq (.seq (.reg [⟨(some 32), .bin .eql (.t 4) (.c (.d (.int .i64 25))), none⟩,
 ⟨(some 31), .mv (.t 32), none⟩])
 (.cond (.t 31)
 .skip
 (.reg [⟨(some 33), .bin .eql (.t 4) (.c (.d (.int .i64 37))), none⟩,
 ⟨(some 31), .mv (.t 33), none⟩])))
 (.cond (.t 31)
 (.exit 12)
 .skip))
 (.seq (.seq (.reg [⟨(some 35), .bin .eql (.t 4) (.c (.d (.int .i64 34))), none⟩,
 ⟨(some 34), .mv (.t 35), none⟩])
 (.cond (.t 34)
 (.exit 13)
 .skip))
 (.seq (.seq (.reg [⟨(some 37), .bin .eql (.t 4) (.c (.d (.int .i64 35))), none⟩,
 ⟨(some 36), .mv (.t 37), none⟩])
 (.cond (.t 36)
 (.exit 14)
 .skip))
 (.seq (.seq (.seq (.reg [⟨(some 39), .bin .eql (.t 4) (.c (.d (.int .i64 22))), none⟩,
 ⟨(some 38), .mv (.t 39), none⟩])
 (.cond (.t 38)
 .skip
 (.seq (.reg [⟨(some 40), .bin .eql (.t 4) (.c (.d (.int .i64 36))), none⟩,
 ⟨(some 38), .mv (.t 40), none⟩])
 (.cond (.t 38)
 .skip
 (.seq (.reg [⟨(some 41), .bin .eql (.t 4) (.c (.d (.int .i64 41))), none⟩,
 ⟨(some 38), .mv (.t 41), none⟩])
 (.cond (.t 38)
 .skip
 (.seq (.reg [⟨(some 42), .bin .eql (.t 4) (.c (.d (.int .i64 39))), none⟩,
 ⟨(some 38), .mv (.t 42), none⟩])
 (.cond (.t 38)
 .skip
 (.reg [⟨(some 43), .bin .eql (.t 4) (.c (.d (.int .i64 40))), none⟩,
 ⟨(some 38), .mv (.t 43), none⟩])))))))))
 (.cond (.t 38)
 (.exit 15)
 .skip))
 (.seq (.seq (.seq (.reg [⟨(some 45), .bin .eql (.t 4) (.c (.d (.int .i64 42))), none⟩,
 ⟨(some 44), .mv (.t 45), none⟩])
 (.cond (.t 44)
 .skip
 (.seq (.reg [⟨(some 46), .bin .eql (.t 4) (.c (.d (.int .i64 44))), none⟩,
 ⟨(some 44), .mv (.t 46), none⟩])
 (.cond (.t 44)
 .skip
 (.reg [⟨(some 47), .bin .eql (.t 4) (.c (.d (.int .i64 43))), none⟩,
 ⟨(some 44), .mv (.t 47), none⟩])))))
 (.cond (.t 44)
 (.exit 16)
 .skip))
 (.seq (.seq (.reg [⟨(some 49), .bin .eql (.t 4) (.c (.d (.int .i64 45))), none⟩,
 ⟨(some 48), .mv (.t 49), none⟩])
 (.cond (.t 48)
 (.exit 17)
 .skip))
 (.seq (.seq (.reg [⟨(some 51), .bin .eql (.t 4) (.c (.d (.int .i64 46))), none⟩,
 ⟨(some 50), .mv (.t 51), none⟩])
 (.cond (.t 50)
 (.exit 18)
 .skip))
 (.seq (.seq (.reg [⟨(some 53), .bin .eql (.t 4) (.c (.d (.int .i64 47))), none⟩,
 ⟨(some 52), .mv (.t 53), none⟩])
 (.cond (.t 52)
 (.exit 19)
 .skip))
 (.seq (.reg [⟨(some 55), .bin .eql (.t 4) (.c (.d (.int .i64 54))), none⟩,
 ⟨(some 54), .mv (.t 55), none⟩])
 (.cond (.t 54)
 (.exit 20)
 .skip)))))))))))))))))))))
 (.exit 0)))
 (.seq (.seq (.reg [⟨(some 2), .mv (.c (.d (.str [42, 105]))), none⟩])
 .ret)
 (.exit 0))))
 (.seq (.seq (.reg [⟨(some 2), .mv (.c (.d (.str [42, 113, 116, 98]))), none⟩])
 .ret)
 (.exit 0))))
 (.seq (.seq (.reg [⟨(some 2), .mv (.c (.d (.str [42, 102]))), none⟩])
 .ret)
 (.exit 0))))
 (.seq (.seq (.reg [⟨(some 2), .mv (.c (.d (.str [42, 118]))), none⟩])
 .ret)
 (.exit 0)))))
 (.seq (.seq (.reg [⟨(some 2), .mv (.c (.d (.str [116]))), none⟩])
 .ret)
 (.exit 0))))
 (.seq (.seq (.reg [⟨(some 2), .mv (.c (.d (.str [63, 116]))), none⟩])
 .ret)
 (.exit 0))))
 (.seq (.seq (.seq (.reg [⟨(some 56), .fadr 2 (.t 1), none⟩,
 ⟨(some 57), .ld none (.t 56), none⟩,
 ⟨(some 58), .bin .eql (.t 57) (.c (.d (.int .i64 1))), none⟩])
 (.cond (.t 58)
 (.seq (.reg [⟨(some 2), .mv (.c (.d (.str [42, 115, 101]))), none⟩])
 .ret)
 .skip))
 (.seq (.reg [⟨(some 2), .mv (.c (.d (.str [42, 115]))), none⟩])
 .ret))
 (.exit 0))))
 (.seq (.seq (.reg [⟨(some 2), .mv (.c (.d (.str [63, 116, 101]))), none⟩])
 .ret)
 (.exit 0))))
 (.seq (.seq (.reg [⟨(some 2), .mv (.c (.d (.str [101, 101]))), none⟩])
 .ret)
 (.exit 0))))
 (.seq (.seq (.reg [⟨(some 2), .mv (.c (.d (.str [101, 98]))), none⟩])
 .ret)
 (.exit 0))))
 (.seq (.seq (.reg [⟨(some 2), .mv (.c (.d (.str [63, 101]))), none⟩])
 .ret)
 (.exit 0))))
 (.seq (.seq (.reg [⟨(some 2), .mv (.c (.d (.str [42, 101]))), none⟩])
 .ret)
 (.exit 0))))
 (.seq (.seq (.reg [⟨(some 2), .mv (.c (.d (.str [42, 110]))), none⟩])
 .ret)
 (.exit 0)))))
 (.seq (.seq (.reg [⟨(some 2), .mv (.c (.d (.str [101]))), none⟩])
 .ret)
 (.exit 0))))
 (.seq (.seq (.reg [⟨(some 2), .mv (.c (.d (.str [101, 98, 63, 111]))), none⟩])
 .ret)
 (.exit 0))))
 (.seq (.seq (.reg [⟨(some 2), .mv (.c (.d (.str [101, 42, 97]))), none⟩])
 .ret)
 (.exit 0))))
 (.seq (.seq (.reg [⟨(some 2), .mv (.c (.d (.str [112, 101]))), none⟩])
 .ret)
 (.exit 0))))
 (.seq (.seq (.reg [⟨(some 2), .mv (.c (.d (.str [63, 112]))), none⟩])
 .ret)
 (.exit 0)))))
 (.seq (.reg [⟨(some 2), .mv (.c (.d (.str []))), none⟩])
 .ret)))
def F59 : VFn := ⟨1, 59, B59, [.tmp 2], false⟩

def A59 : Ann := ⟨keepOf [], ghostOf []⟩
-- 61 patina/tree.kids
def B61 : VCode :=
 (.seq (.reg [⟨(some 4), .mv (.c (.d (.bool false))), none⟩])
 (.seq (.seq (.reg [⟨(some 5), .mv (.t 0), none⟩,
 ⟨(some 6), .bin .eql (.t 5) (.c (.d (.str []))), none⟩])
 (.cond (.t 6)
 (.seq (.reg [⟨(some 7), .mv (.t 1), none⟩,
 ⟨(some 8), .len false (.t 7), none⟩,
 ⟨(some 9), .bin .eql (.t 8) (.c (.d (.int .i64 0))), none⟩,
 ⟨(some 4), .mv (.t 9), none⟩])
 .ret)
 .skip))
 (.seq (.seq (.reg [⟨(some 10), .mv (.t 0), none⟩,
 ⟨(some 11), .idx (.t 10) (.c (.d (.int .i64 0))), none⟩,
 ⟨(some 12), .bin .eql (.t 11) (.c (.d (.int .u8 63))), none⟩])
 (.cond (.t 12)
 (.seq (.draw 22 [⟨(some 13), .mv (.t 1), none⟩,
 ⟨(some 14), .len false (.t 13), none⟩,
 ⟨(some 15), .bin .gtr (.t 14) (.c (.d (.int .i64 0))), none⟩,
 ⟨(some 16), .mv (.t 15), none⟩,
 ⟨(some 17), .mv (.t 0), some (16, true)⟩,
 ⟨(some 18), .idx (.t 17) (.c (.d (.int .i64 1))), some (16, true)⟩,
 ⟨(some 19), .mv (.t 1), some (16, true)⟩,
 ⟨(some 20), .iadr 1 (.t 19) (.c (.d (.int .i64 0))), some (16, true)⟩,
 ⟨(some 21), .ld none (.t 20), some (16, true)⟩,
 ⟨(some 22), .call 71 [(.t 18), (.t 21)], some (16, true)⟩,
 ⟨(some 23), .pick (.t 16) (.t 22) (.c (.d (.bool false))), none⟩,
 ⟨(some 24), .mv (.t 23), none⟩,
 ⟨(some 25), .mv (.t 0), some (24, true)⟩,
 ⟨(some 26), .slcs (.t 25) (some (.c (.d (.int .i64 2)))) none, some (24, true)⟩,
 ⟨(some 27), .mv (.t 1), some (24, true)⟩,
 ⟨(some 28), .slc 1 (.t 27) (some (.c (.d (.int .i64 1)))) none, some (24, true)⟩,
 ⟨(some 29), .call 61 [(.t 26), (.t 28)], some (24, true)⟩,
 ⟨(some 30), .pick (.t 24) (.t 29) (.c (.d (.bool false))), none⟩,
 ⟨(some 31), .mv (.t 30), none⟩,
 ⟨(some 32), .mv (.t 0), some (31, false)⟩,
 ⟨(some 33), .slcs (.t 32) (some (.c (.d (.int .i64 2)))) none, some (31, false)⟩,
 ⟨(some 34), .mv (.t 1), some (31, false)⟩,
 ⟨(some 35), .call 61 [(.t 33), (.t 34)], some (31, false)⟩,
 ⟨(some 36), .pick (.t 31) (.c (.d (.bool true))) (.t 35), none⟩,
 ⟨(some 4), .mv (.t 36), none⟩])
 .ret)
 .skip))
 (.seq (.draw 16 [⟨(some 37), .mv (.t 1), none⟩,
 ⟨(some 38), .len false (.t 37), none⟩,
 ⟨(some 39), .bin .gtr (.t 38) (.c (.d (.int .i64 0))), none⟩,
 ⟨(some 40), .mv (.t 39), none⟩,
 ⟨(some 41), .mv (.t 0), some (40, true)⟩,
 ⟨(some 42), .idx (.t 41) (.c (.d (.int .i64 0))), some (40, true)⟩,
 ⟨(some 43), .mv (.t 1), some (40, true)⟩,
 ⟨(some 44), .iadr 1 (.t 43) (.c (.d (.int .i64 0))), some (40, true)⟩,
 ⟨(some 45), .ld none (.t 44), some (40, true)⟩,
 ⟨(some 46), .call 71 [(.t 42), (.t 45)], some (40, true)⟩,
 ⟨(some 47), .pick (.t 40) (.t 46) (.c (.d (.bool false))), none⟩,
 ⟨(some 48), .mv (.t 47), none⟩,
 ⟨(some 49), .mv (.t 0), some (48, true)⟩,
 ⟨(some 50), .slcs (.t 49) (some (.c (.d (.int .i64 1)))) none, some (48, true)⟩,
 ⟨(some 51), .mv (.t 1), some (48, true)⟩,
 ⟨(some 52), .slc 1 (.t 51) (some (.c (.d (.int .i64 1)))) none, some (48, true)⟩,
 ⟨(some 53), .call 61 [(.t 50), (.t 52)], some (48, true)⟩,
 ⟨(some 54), .pick (.t 48) (.t 53) (.c (.d (.bool false))), none⟩,
 ⟨(some 4), .mv (.t 54), none⟩])
 .ret))))
def F61 : VFn := ⟨2, 55, B61, [.tmp 4], false⟩

def A61 : Ann := ⟨keepOf [], ghostOf []⟩
-- 62 patina/tree.all
def B62 : VCode :=
 (.seq (.reg [⟨(some 2), .box (.t 0), none⟩,
 ⟨(some 4), .mv (.c (.d (.bool false))), none⟩])
 (.seq (.reg [⟨(some 5), .mv (.t 1), none⟩,
 ⟨(some 6), .mkfn 73 [(.t 2)], none⟩,
 ⟨(some 7), .call 72 [(.t 5), (.t 6)], none⟩,
 ⟨(some 8), .un .not (.t 7), none⟩,
 ⟨(some 4), .mv (.t 8), none⟩])
 .ret))
def F62 : VFn := ⟨2, 9, B62, [.tmp 4], false⟩

def A62 : Ann := ⟨keepOf [], ghostOf []⟩
-- 64 internal/strconv.FormatBool
def B64 : VCode :=
 (.seq (.reg [⟨(some 2), .mv (.c (.d (.str []))), none⟩])
 (.seq (.seq (.reg [⟨(some 3), .mv (.t 0), none⟩])
 (.cond (.t 3)
 (.seq (.reg [⟨(some 2), .mv (.c (.d (.str [116, 114, 117, 101]))), none⟩])
 .ret)
 .skip))
 (.seq (.reg [⟨(some 2), .mv (.c (.d (.str [102, 97, 108, 115, 101]))), none⟩])
 .ret)))
def F64 : VFn := ⟨1, 4, B64, [.tmp 2], false⟩

def A64 : Ann := ⟨keepOf [], ghostOf []⟩
-- 67 patina/lex.spelt
def K67_0 : List Nat := [0, 16, 17]
def L67_0 : VCode :=
 (.seq (.reg [⟨(some 18), .bin .lss (.t 17) (.t 16), none⟩])
 (.seq (.cond (.t 18)
 .skip
 (.exit 0))
 (.seq (.block 1 (.seq (.reg [⟨(some 19), .mv (.t 17), none⟩,
 ⟨(some 3), .mv (.t 19), none⟩])
 (.seq (.reg [⟨(some 20), .mv (.t 0), none⟩,
 ⟨(some 21), .mv (.t 3), none⟩,
 ⟨(some 22), .idx (.t 20) (.t 21), none⟩,
 ⟨(some 23), .call 79 [(.t 22)], none⟩,
 ⟨(some 24), .un .not (.t 23), none⟩,
 ⟨(some 25), .mv (.t 24), none⟩,
 ⟨(some 26), .mv (.t 0), some (25, true)⟩,
 ⟨(some 27), .mv (.t 3), some (25, true)⟩,
 ⟨(some 28), .idx (.t 26) (.t 27), some (25, true)⟩,
 ⟨(some 29), .call 78 [(.t 28)], some (25, true)⟩,
 ⟨(some 30), .un .not (.t 29), some (25, true)⟩,
 ⟨(some 31), .pick (.t 25) (.t 30) (.c (.d (.bool false))), none⟩])
 (.cond (.t 31)
 (.seq (.reg [⟨(some 2), .mv (.c (.d (.bool false))), none⟩])
 .ret)
 .skip))))
 (.reg [⟨(some 32), .bin .add (.t 17) (.c (.d (.int .i64 1))), none⟩,
 ⟨(some 17), .mv (.t 32), none⟩]))))
def B67 : VCode :=
 (.seq (.reg [⟨(some 2), .mv (.c (.d (.bool false))), none⟩])
 (.seq (.seq (.reg [⟨(some 4), .mv (.t 0), none⟩,
 ⟨(some 5), .bin .eql (.t 4) (.c (.d (.str []))), none⟩,
 ⟨(some 6), .mv (.t 5), none⟩,
 ⟨(some 7), .mv (.t 0), some (6, false)⟩,
 ⟨(some 8), .bin .eql (.t 7) (.c (.d (.str [95]))), some (6, false)⟩,
 ⟨(some 9), .pick (.t 6) (.c (.d (.bool true))) (.t 8), none⟩,
 ⟨(some 10), .mv (.t 9), none⟩,
 ⟨(some 11), .mv (.t 0), some (10, false)⟩,
 ⟨(some 12), .idx (.t 11) (.c (.d (.int .i64 0))), some (10, false)⟩,
 ⟨(some 13), .call 78 [(.t 12)], some (10, false)⟩,
 ⟨(some 14), .pick (.t 10) (.c (.d (.bool true))) (.t 13), none⟩])
 (.cond (.t 14)
 (.seq (.reg [⟨(some 2), .mv (.c (.d (.bool false))), none⟩])
 .ret)
 .skip))
 (.seq (.seq (.reg [⟨(some 15), .mv (.t 0), none⟩,
 ⟨(some 16), .len true (.t 15), none⟩,
 ⟨(some 17), .mv (.c (.d (.int .i64 0))), none⟩])
 (.block 0 (.loop K67_0 L67_0)))
 (.seq (.reg [⟨(some 2), .mv (.c (.d (.bool true))), none⟩])
 .ret))))
def F67 : VFn := ⟨1, 33, B67, [.tmp 2], false⟩

def A67 : Ann := ⟨keepOf [(4, [0, 16, 17])], ghostOf []⟩
-- 68 patina/lex.Word
def B68 : VCode :=
 (.seq (.reg [⟨(some 2), .mv (.c (.d (.bool false))), none⟩])
 (.seq (.seq (.reg [⟨(some 3), .mv (.t 0), none⟩])
 (.block 0 (.seq (.block 2 (.block 1 (.seq (.seq (.seq (.seq (.reg [⟨(some 5), .bin .eql (.t 3) (.c (.d (.str [102, 110]))), none⟩,
 ⟨(some 4), .mv (.t 5), none⟩])
 (.cond (.t 4)
 .skip
 (.seq (.reg [⟨(some 6), .bin .eql (.t 3) (.c (.d (.str [115, 116, 114, 117, 99, 116]))), none⟩,
 ⟨(some 4), .mv (.t 6), none⟩])
 (.cond (.t 4)
 .skip
 (.seq (.reg [⟨(some 7), .bin .eql (.t 3) (.c (.d (.str [101, 110, 117, 109]))), none⟩,
 ⟨(some 4), .mv (.t 7), none⟩])
 (.cond (.t 4)
 .skip
 (.seq (.reg [⟨(some 8), .bin .eql (.t 3) (.c (.d (.str [108, 101, 116]))), none⟩,
 ⟨(some 4), .mv (.t 8), none⟩])
 (.cond (.t 4)
 .skip
 (.seq (.reg [⟨(some 9), .bin .eql (.t 3) (.c (.d (.str [109, 117, 116]))), none⟩,
 ⟨(some 4), .mv (.t 9), none⟩])
 (.cond (.t 4)
 .skip
 (.seq (.reg [⟨(some 10), .bin .eql (.t 3) (.c (.d (.str [119, 104, 105, 108, 101]))), none⟩,
 ⟨(some 4), .mv (.t 10), none⟩])
 (.cond (.t 4)
 .skip
 (.seq (.reg [⟨(some 11), .bin .eql (.t 3) (.c (.d (.str [105, 102]))), none⟩,
 ⟨(some 4), .mv (.t 11), none⟩])
 (.cond (.t 4)
 .skip
 (.seq (.reg [⟨(some 12), .bin .eql (.t 3) (.c (.d (.str [101, 108, 115, 101]))), none⟩,
 ⟨(some 4), .mv (.t 12), none⟩])
 (.cond (.t 4)
 .skip
 (.reg [⟨(some 13), .bin .eql (.t 3) (.c (.d (.str [109, 97, 116, 99, 104]))), none⟩,
 ⟨(some 4), .mv (.t 13), none⟩])))))))))))))))))
 (.cond (.t 4)
 (.exit 1)
 .skip))
 (.seq (.seq (.reg [⟨(some 15), .bin .eql (.t 3) (.c (.d (.str [114, 101, 116, 117, 114, 110]))), none⟩,
 ⟨(some 14), .mv (.t 15), none⟩])
 (.cond (.t 14)
 .skip
 (.seq (.reg [⟨(some 16), .bin .eql (.t 3) (.c (.d (.str [98, 114, 101, 97, 107]))), none⟩,
 ⟨(some 14), .mv (.t 16), none⟩])
 (.cond (.t 14)
 .skip
 (.seq (.reg [⟨(some 17), .bin .eql (.t 3) (.c (.d (.str [99, 111, 110, 116, 105, 110, 117, 101]))), none⟩,
 ⟨(some 14), .mv (.t 17), none⟩])
 (.cond (.t 14)
 .skip
 (.seq (.reg [⟨(some 18), .bin .eql (.t 3) (.c (.d (.str [116, 114, 117, 101]))), none⟩,
 ⟨(some 14), .mv (.t 18), none⟩])
 (.cond (.t 14)
 .skip
 (.seq (.reg [⟨(some 19), .bin .eql (.t 3) (.c (.d (.str [102, 97, 108, 115, 101]))), none⟩,
 ⟨(some 14), .mv (.t 19), none⟩])
 (.cond (.t 14)
 .skip
 (.seq (.reg [⟨(some 20), .bin .eql (.t 3) (.c (.d (.str [105, 54, 52]))), none⟩,
 ⟨(some 14), .mv (.t 20), none⟩])
 (.cond (.t 14)
 .skip
 (.seq (.reg [⟨(some 21), .bin .eql (.t 3) (.c (.d (.str [98, 111, 111, 108]))), none⟩,
 ⟨(some 14), .mv (.t 21), none⟩])
 (.cond (.t 14)
 .skip
 (.reg [⟨(some 22), .bin .eql (.t 3) (.c (.d (.str [66, 111, 120]))), none⟩,
 ⟨(some 14), .mv (.t 22), none⟩])))))))))))))))
 (.cond (.t 14)
 (.exit 2)
 .skip)))
 (.exit 0))))
 (.seq (.seq (.reg [⟨(some 2), .mv (.c (.d (.bool true))), none⟩])
 .ret)
 (.exit 0)))))
 (.seq (.reg [⟨(some 2), .mv (.c (.d (.bool false))), none⟩])
 .ret)))
def F68 : VFn := ⟨1, 23, B68, [.tmp 2], false⟩

def A68 : Ann := ⟨keepOf [], ghostOf []⟩
-- 71 patina/tree.is
def B71 : VCode :=
 (.seq (.reg [⟨(some 4), .mv (.c (.d (.bool false))), none⟩])
 (.seq (.seq (.reg [⟨(some 5), .mv (.t 0), none⟩])
 (.block 0 (.seq (.reg [⟨(some 7), .bin .eql (.t 5) (.c (.d (.int .u8 105))), none⟩,
 ⟨(some 6), .mv (.t 7), none⟩])
 (.cond (.t 6)
 (.seq (.reg [⟨(some 8), .mv (.t 1), none⟩,
 ⟨(some 9), .bin .eql (.t 8) (.c (.d (.int .i64 2))), none⟩,
 ⟨(some 10), .mv (.t 9), none⟩,
 ⟨(some 11), .mv (.t 1), some (10, false)⟩,
 ⟨(some 12), .bin .eql (.t 11) (.c (.d (.int .i64 3))), some (10, false)⟩,
 ⟨(some 13), .pick (.t 10) (.c (.d (.bool true))) (.t 12), none⟩,
 ⟨(some 14), .mv (.t 13), none⟩,
 ⟨(some 15), .mv (.t 1), some (14, false)⟩,
 ⟨(some 16), .bin .eql (.t 15) (.c (.d (.int .i64 4))), some (14, false)⟩,
 ⟨(some 17), .pick (.t 14) (.c (.d (.bool true))) (.t 16), none⟩,
 ⟨(some 4), .mv (.t 17), none⟩])
 .ret)
 (.seq (.reg [⟨(some 19), .bin .eql (.t 5) (.c (.d (.int .u8 116))), none⟩,
 ⟨(some 18), .mv (.t 19), none⟩])
 (.cond (.t 18)
 (.seq (.reg [⟨(some 20), .mv (.t 1), none⟩,
 ⟨(some 21), .call 27 [(.t 20)], none⟩,
 ⟨(some 4), .mv (.t 21), none⟩])
 .ret)
 (.seq (.reg [⟨(some 23), .bin .eql (.t 5) (.c (.d (.int .u8 115))), none⟩,
 ⟨(some 22), .mv (.t 23), none⟩])
 (.cond (.t 22)
 (.seq (.reg [⟨(some 24), .mv (.t 1), none⟩,
 ⟨(some 25), .call 29 [(.t 24)], none⟩,
 ⟨(some 4), .mv (.t 25), none⟩])
 .ret)
 (.seq (.reg [⟨(some 27), .bin .eql (.t 5) (.c (.d (.int .u8 101))), none⟩,
 ⟨(some 26), .mv (.t 27), none⟩])
 (.cond (.t 26)
 (.seq (.reg [⟨(some 28), .mv (.t 1), none⟩,
 ⟨(some 29), .call 55 [(.t 28)], none⟩,
 ⟨(some 4), .mv (.t 29), none⟩])
 .ret)
 (.seq (.reg [⟨(some 31), .bin .eql (.t 5) (.c (.d (.int .u8 112))), none⟩,
 ⟨(some 30), .mv (.t 31), none⟩])
 (.cond (.t 30)
 (.seq (.reg [⟨(some 32), .mv (.t 1), none⟩,
 ⟨(some 33), .call 54 [(.t 32)], none⟩,
 ⟨(some 4), .mv (.t 33), none⟩])
 .ret)
 (.seq (.reg [⟨(some 35), .bin .eql (.t 5) (.c (.d (.int .u8 98))), none⟩,
 ⟨(some 34), .mv (.t 35), none⟩])
 (.cond (.t 34)
 (.seq (.reg [⟨(some 36), .mv (.t 1), none⟩,
 ⟨(some 37), .bin .eql (.t 36) (.c (.d (.int .i64 20))), none⟩,
 ⟨(some 4), .mv (.t 37), none⟩])
 .ret)
 (.seq (.reg [⟨(some 39), .bin .eql (.t 5) (.c (.d (.int .u8 102))), none⟩,
 ⟨(some 38), .mv (.t 39), none⟩])
 (.cond (.t 38)
 (.seq (.reg [⟨(some 40), .mv (.t 1), none⟩,
 ⟨(some 41), .bin .eql (.t 40) (.c (.d (.int .i64 5))), none⟩,
 ⟨(some 4), .mv (.t 41), none⟩])
 .ret)
 (.seq (.reg [⟨(some 43), .bin .eql (.t 5) (.c (.d (.int .u8 118))), none⟩,
 ⟨(some 42), .mv (.t 43), none⟩])
 (.cond (.t 42)
 (.seq (.reg [⟨(some 44), .mv (.t 1), none⟩,
 ⟨(some 45), .bin .eql (.t 44) (.c (.d (.int .i64 6))), none⟩,
 ⟨(some 4), .mv (.t 45), none⟩])
 .ret)
 (.seq (.reg [⟨(some 47), .bin .eql (.t 5) (.c (.d (.int .u8 110))), none⟩,
 ⟨(some 46), .mv (.t 47), none⟩])
 (.cond (.t 46)
 (.seq (.reg [⟨(some 48), .mv (.t 1), none⟩,
 ⟨(some 49), .bin .eql (.t 48) (.c (.d (.int .i64 36))), none⟩,
 ⟨(some 4), .mv (.t 49), none⟩])
 .ret)
 (.seq (.reg [⟨(some 51), .bin .eql (.t 5) (.c (.d (.int .u8 97))), none⟩,
 ⟨(some 50), .mv (.t 51), none⟩])
 (.cond (.t 50)
 (.seq (.reg [⟨(some 52), .mv (.t 1), none⟩,
 ⟨(some 53), .bin .eql (.t 52) (.c (.d (.int .i64 47))), none⟩,
 ⟨(some 4), .mv (.t 53), none⟩])
 .ret)
 (.seq (.reg [⟨(some 55), .bin .eql (.t 5) (.c (.d (.int .u8 113))), none⟩,
 ⟨(some 54), .mv (.t 55), none⟩])
 (.cond (.t 54)
 (.seq (.reg [⟨(some 56), .mv (.t 1), none⟩,
 ⟨(some 57), .bin .eql (.t 56) (.c (.d (.int .i64 7))), none⟩,
 ⟨(some 4), .mv (.t 57), none⟩])
 .ret)
 (.seq (.reg [⟨(some 59), .bin .eql (.t 5) (.c (.d (.int .u8 111))), none⟩,
 ⟨(some 58), .mv (.t 59), none⟩])
 (.cond (.t 58)
 (.seq (.reg [⟨(some 60), .mv (.t 1), none⟩,
 ⟨(some 61), .bin .eql (.t 60) (.c (.d (.int .i64 20))), none⟩,
 ⟨(some 62), .mv (.t 61), none⟩,
 ⟨(some 63), .mv (.t 1), some (62, false)⟩,
 ⟨(some 64), .bin .eql (.t 63) (.c (.d (.int .i64 45))), some (62, false)⟩,
 ⟨(some 65), .pick (.t 62) (.c (.d (.bool true))) (.t 64), none⟩,
 ⟨(some 4), .mv (.t 65), none⟩])
 .ret)
 .skip))))))))))))))))))))))))))
 (.seq (.reg [⟨(some 4), .mv (.c (.d (.bool false))), none⟩])
 .ret)))
def F71 : VFn := ⟨2, 66, B71, [.tmp 4], false⟩

def A71 : Ann := ⟨keepOf [], ghostOf []⟩
-- 72 slices.ContainsFunc[[]int,int]
def B72 : VCode :=
 (.seq (.reg [⟨(some 4), .mv (.c (.d (.bool false))), none⟩])
 (.seq (.reg [⟨(some 5), .mv (.t 0), none⟩,
 ⟨(some 6), .mv (.t 1), none⟩,
 ⟨(some 7), .call 82 [(.t 5), (.t 6)], none⟩,
 ⟨(some 8), .bin .geq (.t 7) (.c (.d (.int .i64 0))), none⟩,
 ⟨(some 4), .mv (.t 8), none⟩])
 .ret))
def F72 : VFn := ⟨2, 9, B72, [.tmp 4], false⟩

def A72 : Ann := ⟨keepOf [], ghostOf []⟩
-- 73 patina/tree.all$1
def B73 : VCode :=
 (.seq (.reg [⟨(some 3), .mv (.c (.d (.bool false))), none⟩])
 (.seq (.reg [⟨(some 4), .ld none (.t 1), none⟩,
 ⟨(some 5), .mv (.t 0), none⟩,
 ⟨(some 6), .call 71 [(.t 4), (.t 5)], none⟩,
 ⟨(some 7), .un .not (.t 6), none⟩,
 ⟨(some 3), .mv (.t 7), none⟩])
 .ret))
def F73 : VFn := ⟨2, 8, B73, [.tmp 3], false⟩

def A73 : Ann := ⟨keepOf [], ghostOf []⟩
-- 78 patina/lex.digit
def B78 : VCode :=
 (.seq (.reg [⟨(some 2), .mv (.c (.d (.bool false))), none⟩])
 (.seq (.seq (.reg [⟨(some 3), .mv (.t 0), none⟩])
 (.block 0 (.seq (.block 2 (.block 1 (.seq (.seq (.seq (.seq (.reg [⟨(some 5), .bin .eql (.t 3) (.c (.d (.int .u8 48))), none⟩,
 ⟨(some 4), .mv (.t 5), none⟩])
 (.cond (.t 4)
 .skip
 (.seq (.reg [⟨(some 6), .bin .eql (.t 3) (.c (.d (.int .u8 49))), none⟩,
 ⟨(some 4), .mv (.t 6), none⟩])
 (.cond (.t 4)
 .skip
 (.seq (.reg [⟨(some 7), .bin .eql (.t 3) (.c (.d (.int .u8 50))), none⟩,
 ⟨(some 4), .mv (.t 7), none⟩])
 (.cond (.t 4)
 .skip
 (.seq (.reg [⟨(some 8), .bin .eql (.t 3) (.c (.d (.int .u8 51))), none⟩,
 ⟨(some 4), .mv (.t 8), none⟩])
 (.cond (.t 4)
 .skip
 (.reg [⟨(some 9), .bin .eql (.t 3) (.c (.d (.int .u8 52))), none⟩,
 ⟨(some 4), .mv (.t 9), none⟩])))))))))
 (.cond (.t 4)
 (.exit 1)
 .skip))
 (.seq (.seq (.reg [⟨(some 11), .bin .eql (.t 3) (.c (.d (.int .u8 53))), none⟩,
 ⟨(some 10), .mv (.t 11), none⟩])
 (.cond (.t 10)
 .skip
 (.seq (.reg [⟨(some 12), .bin .eql (.t 3) (.c (.d (.int .u8 54))), none⟩,
 ⟨(some 10), .mv (.t 12), none⟩])
 (.cond (.t 10)
 .skip
 (.seq (.reg [⟨(some 13), .bin .eql (.t 3) (.c (.d (.int .u8 55))), none⟩,
 ⟨(some 10), .mv (.t 13), none⟩])
 (.cond (.t 10)
 .skip
 (.seq (.reg [⟨(some 14), .bin .eql (.t 3) (.c (.d (.int .u8 56))), none⟩,
 ⟨(some 10), .mv (.t 14), none⟩])
 (.cond (.t 10)
 .skip
 (.reg [⟨(some 15), .bin .eql (.t 3) (.c (.d (.int .u8 57))), none⟩,
 ⟨(some 10), .mv (.t 15), none⟩])))))))))
 (.cond (.t 10)
 (.exit 2)
 .skip)))
 (.exit 0))))
 (.seq (.seq (.reg [⟨(some 2), .mv (.c (.d (.bool true))), none⟩])
 .ret)
 (.exit 0)))))
 (.seq (.reg [⟨(some 2), .mv (.c (.d (.bool false))), none⟩])
 .ret)))
def F78 : VFn := ⟨1, 16, B78, [.tmp 2], false⟩

def A78 : Ann := ⟨keepOf [], ghostOf []⟩
-- 79 patina/lex.letter
def B79 : VCode :=
 (.seq (.reg [⟨(some 2), .mv (.c (.d (.bool false))), none⟩])
 (.seq (.reg [⟨(some 3), .mv (.t 0), none⟩,
 ⟨(some 4), .bin .geq (.t 3) (.c (.d (.int .u8 97))), none⟩,
 ⟨(some 5), .mv (.t 4), none⟩,
 ⟨(some 6), .mv (.t 0), some (5, true)⟩,
 ⟨(some 7), .bin .leq (.t 6) (.c (.d (.int .u8 122))), some (5, true)⟩,
 ⟨(some 8), .pick (.t 5) (.t 7) (.c (.d (.bool false))), none⟩,
 ⟨(some 9), .mv (.t 8), none⟩,
 ⟨(some 10), .mv (.t 0), some (9, false)⟩,
 ⟨(some 11), .bin .geq (.t 10) (.c (.d (.int .u8 65))), some (9, false)⟩,
 ⟨(some 12), .mv (.t 11), some (9, false)⟩,
 ⟨(some 13), .mv (.t 0), some (12, true)⟩,
 ⟨(some 14), .bin .leq (.t 13) (.c (.d (.int .u8 90))), some (12, true)⟩,
 ⟨(some 15), .pick (.t 12) (.t 14) (.c (.d (.bool false))), some (9, false)⟩,
 ⟨(some 16), .pick (.t 9) (.c (.d (.bool true))) (.t 15), none⟩,
 ⟨(some 17), .mv (.t 16), none⟩,
 ⟨(some 18), .mv (.t 0), some (17, false)⟩,
 ⟨(some 19), .bin .eql (.t 18) (.c (.d (.int .u8 95))), some (17, false)⟩,
 ⟨(some 20), .pick (.t 17) (.c (.d (.bool true))) (.t 19), none⟩,
 ⟨(some 2), .mv (.t 20), none⟩])
 .ret))
def F79 : VFn := ⟨1, 21, B79, [.tmp 2], false⟩

def A79 : Ann := ⟨keepOf [], ghostOf []⟩
-- 82 slices.IndexFunc[[]int,int]
def K82_0 : List Nat := [0, 1, 7, 8]
def L82_0 : VCode :=
 (.seq (.reg [⟨(some 9), .bin .lss (.t 8) (.t 7), none⟩])
 (.seq (.cond (.t 9)
 .skip
 (.exit 0))
 (.seq (.block 1 (.seq (.reg [⟨(some 10), .mv (.t 8), none⟩,
 ⟨(some 5), .mv (.t 10), none⟩])
 (.seq (.reg [⟨(some 11), .mv (.t 1), none⟩,
 ⟨(some 12), .mv (.t 0), none⟩,
 ⟨(some 13), .mv (.t 5), none⟩,
 ⟨(some 14), .iadr 1 (.t 12) (.t 13), none⟩,
 ⟨(some 15), .ld none (.t 14), none⟩,
 ⟨(some 16), .callv (.t 11) [(.t 15)], none⟩])
 (.cond (.t 16)
 (.seq (.reg [⟨(some 17), .mv (.t 5), none⟩,
 ⟨(some 4), .mv (.t 17), none⟩])
 .ret)
 .skip))))
 (.reg [⟨(some 18), .bin .add (.t 8) (.c (.d (.int .i64 1))), none⟩,
 ⟨(some 8), .mv (.t 18), none⟩]))))
def B82 : VCode :=
 (.seq (.reg [⟨(some 4), .mv (.c (.d (.int .i64 0))), none⟩])
 (.seq (.seq (.reg [⟨(some 6), .mv (.t 0), none⟩,
 ⟨(some 7), .len false (.t 6), none⟩,
 ⟨(some 8), .mv (.c (.d (.int .i64 0))), none⟩])
 (.block 0 (.loop K82_0 L82_0)))
 (.seq (.reg [⟨(some 4), .mv (.c (.d (.int .i64 (-1)))), none⟩])
 .ret)))
def F82 : VFn := ⟨2, 19, B82, [.tmp 4], false⟩

def A82 : Ann := ⟨keepOf [(2, [0, 1, 7, 8])], ghostOf []⟩
def tbl : Nat → Option VFun
 | 3 => some (.code F3)
 | 4 => some (.code F4)
 | 5 => some (.code F5)
 | 6 => some (.code F6)
 | 7 => some (.code F7)
 | 8 => some (.code F8)
 | 9 => some (.code F9)
 | 10 => some (.code F10)
 | 11 => some (.code F11)
 | 12 => some (.code F12)
 | 13 => some (.code F13)
 | 14 => some (.code F14)
 | 15 => some (.code F15)
 | 16 => some (.code F16)
 | 17 => some (.code F17)
 | 18 => some (.code F18)
 | 20 => some (.code F20)
 | 21 => some (.code F21)
 | 22 => some (.code F22)
 | 23 => some (.code F23)
 | 24 => some (.code F24)
 | 25 => some (.code F25)
 | 26 => some (.code F26)
 | 27 => some (.code F27)
 | 28 => some (.code F28)
 | 29 => some (.code F29)
 | 30 => some (.code F30)
 | 31 => some (.code F31)
 | 32 => some (.code F32)
 | 36 => some (.code F36)
 | 37 => some (.code F37)
 | 38 => some (.code F38)
 | 39 => some (.code F39)
 | 40 => some (.code F40)
 | 41 => some (.code F41)
 | 42 => some (.code F42)
 | 43 => some (.code F43)
 | 44 => some (.code F44)
 | 45 => some (.code F45)
 | 46 => some (.code F46)
 | 47 => some (.code F47)
 | 49 => some (.code F49)
 | 50 => some (.code F50)
 | 53 => some (.code F53)
 | 54 => some (.code F54)
 | 55 => some (.code F55)
 | 56 => some (.code F56)
 | 58 => some (.code F58)
 | 59 => some (.code F59)
 | 61 => some (.code F61)
 | 62 => some (.code F62)
 | 64 => some (.code F64)
 | 67 => some (.code F67)
 | 68 => some (.code F68)
 | 71 => some (.code F71)
 | 72 => some (.code F72)
 | 73 => some (.code F73)
 | 78 => some (.code F78)
 | 79 => some (.code F79)
 | 82 => some (.code F82)
 | 19 => some (.prim primJoin)
 | 48 => some (.prim primFmt)
 | 57 => some (.prim primCut)
 | 60 => some (.prim primIndexByte)
 | _ => none
theorem tbl3 : tbl 3 = some (.code F3) := rfl
theorem tbl4 : tbl 4 = some (.code F4) := rfl
theorem tbl5 : tbl 5 = some (.code F5) := rfl
theorem tbl6 : tbl 6 = some (.code F6) := rfl
theorem tbl7 : tbl 7 = some (.code F7) := rfl
theorem tbl8 : tbl 8 = some (.code F8) := rfl
theorem tbl9 : tbl 9 = some (.code F9) := rfl
theorem tbl10 : tbl 10 = some (.code F10) := rfl
theorem tbl11 : tbl 11 = some (.code F11) := rfl
theorem tbl12 : tbl 12 = some (.code F12) := rfl
theorem tbl13 : tbl 13 = some (.code F13) := rfl
theorem tbl14 : tbl 14 = some (.code F14) := rfl
theorem tbl15 : tbl 15 = some (.code F15) := rfl
theorem tbl16 : tbl 16 = some (.code F16) := rfl
theorem tbl17 : tbl 17 = some (.code F17) := rfl
theorem tbl18 : tbl 18 = some (.code F18) := rfl
theorem tbl20 : tbl 20 = some (.code F20) := rfl
theorem tbl21 : tbl 21 = some (.code F21) := rfl
theorem tbl22 : tbl 22 = some (.code F22) := rfl
theorem tbl23 : tbl 23 = some (.code F23) := rfl
theorem tbl24 : tbl 24 = some (.code F24) := rfl
theorem tbl25 : tbl 25 = some (.code F25) := rfl
theorem tbl26 : tbl 26 = some (.code F26) := rfl
theorem tbl27 : tbl 27 = some (.code F27) := rfl
theorem tbl28 : tbl 28 = some (.code F28) := rfl
theorem tbl29 : tbl 29 = some (.code F29) := rfl
theorem tbl30 : tbl 30 = some (.code F30) := rfl
theorem tbl31 : tbl 31 = some (.code F31) := rfl
theorem tbl32 : tbl 32 = some (.code F32) := rfl
theorem tbl36 : tbl 36 = some (.code F36) := rfl
theorem tbl37 : tbl 37 = some (.code F37) := rfl
theorem tbl38 : tbl 38 = some (.code F38) := rfl
theorem tbl39 : tbl 39 = some (.code F39) := rfl
theorem tbl40 : tbl 40 = some (.code F40) := rfl
theorem tbl41 : tbl 41 = some (.code F41) := rfl
theorem tbl42 : tbl 42 = some (.code F42) := rfl
theorem tbl43 : tbl 43 = some (.code F43) := rfl
theorem tbl44 : tbl 44 = some (.code F44) := rfl
theorem tbl45 : tbl 45 = some (.code F45) := rfl
theorem tbl46 : tbl 46 = some (.code F46) := rfl
theorem tbl47 : tbl 47 = some (.code F47) := rfl
theorem tbl49 : tbl 49 = some (.code F49) := rfl
theorem tbl50 : tbl 50 = some (.code F50) := rfl
theorem tbl53 : tbl 53 = some (.code F53) := rfl
theorem tbl54 : tbl 54 = some (.code F54) := rfl
theorem tbl55 : tbl 55 = some (.code F55) := rfl
theorem tbl56 : tbl 56 = some (.code F56) := rfl
theorem tbl58 : tbl 58 = some (.code F58) := rfl
theorem tbl59 : tbl 59 = some (.code F59) := rfl
theorem tbl61 : tbl 61 = some (.code F61) := rfl
theorem tbl62 : tbl 62 = some (.code F62) := rfl
theorem tbl64 : tbl 64 = some (.code F64) := rfl
theorem tbl67 : tbl 67 = some (.code F67) := rfl
theorem tbl68 : tbl 68 = some (.code F68) := rfl
theorem tbl71 : tbl 71 = some (.code F71) := rfl
theorem tbl72 : tbl 72 = some (.code F72) := rfl
theorem tbl73 : tbl 73 = some (.code F73) := rfl
theorem tbl78 : tbl 78 = some (.code F78) := rfl
theorem tbl79 : tbl 79 = some (.code F79) := rfl
theorem tbl82 : tbl 82 = some (.code F82) := rfl
abbrev n_law13_TreeSames : Nat := 3
theorem t_law13_TreeSames : tbl 3 = some (.code F3) := rfl
abbrev n_law13_TreePlaces : Nat := 4
theorem t_law13_TreePlaces : tbl 4 = some (.code F4) := rfl
abbrev n_law13_TreeKids : Nat := 5
theorem t_law13_TreeKids : tbl 5 = some (.code F5) := rfl
abbrev n_tree_Same : Nat := 6
theorem t_tree_Same : tbl 6 = some (.code F6) := rfl
abbrev n_ref13_Same : Nat := 7
theorem t_ref13_Same : tbl 7 = some (.code F7) := rfl
abbrev n_law13_small : Nat := 8
theorem t_law13_small : tbl 8 = some (.code F8) := rfl
abbrev n_tree_Print : Nat := 9
theorem t_tree_Print : tbl 9 = some (.code F9) := rfl
abbrev n_tree_Parents : Nat := 10
theorem t_tree_Parents : tbl 10 = some (.code F10) := rfl
abbrev n_tree_Sub : Nat := 11
theorem t_tree_Sub : tbl 11 = some (.code F11) := rfl
abbrev n_plain_Tree : Nat := 12
theorem t_plain_Tree : tbl 12 = some (.code F12) := rfl
abbrev n_slices_EqualFunc_api_Node_api_Node_api_Node_api_Node : Nat := 13
theorem t_slices_EqualFunc_api_Node_api_Node_api_Node_api_Node : tbl 13 = some (.code F13) := rfl
abbrev n_tree_Same_1 : Nat := 14
theorem t_tree_Same_1 : tbl 14 = some (.code F14) := rfl
abbrev n_slices_Equal_int_int : Nat := 15
theorem t_slices_Equal_int_int : tbl 15 = some (.code F15) := rfl
abbrev n_tree_Depth : Nat := 16
theorem t_tree_Depth : tbl 16 = some (.code F16) := rfl
abbrev n_tree_Check : Nat := 17
theorem t_tree_Check : tbl 17 = some (.code F17) := rfl
abbrev n_tree_printer_node : Nat := 18
theorem t_tree_printer_node : tbl 18 = some (.code F18) := rfl
abbrev n_tree_parents : Nat := 20
theorem t_tree_parents : tbl 20 = some (.code F20) := rfl
abbrev n_plain_Ints : Nat := 21
theorem t_plain_Ints : tbl 21 = some (.code F21) := rfl
abbrev n_slices_Max_int_int : Nat := 22
theorem t_slices_Max_int_int : tbl 22 = some (.code F22) := rfl
abbrev n_tree_depths : Nat := 23
theorem t_tree_depths : tbl 23 = some (.code F23) := rfl
abbrev n_tree_node : Nat := 24
theorem t_tree_node : tbl 24 = some (.code F24) := rfl
abbrev n_tree_printer_block : Nat := 25
theorem t_tree_printer_block : tbl 25 = some (.code F25) := rfl
abbrev n_tree_printer_item : Nat := 26
theorem t_tree_printer_item : tbl 26 = some (.code F26) := rfl
abbrev n_tree_isType : Nat := 27
theorem t_tree_isType : tbl 27 = some (.code F27) := rfl
abbrev n_tree_printer_typ : Nat := 28
theorem t_tree_printer_typ : tbl 28 = some (.code F28) := rfl
abbrev n_tree_isStmt : Nat := 29
theorem t_tree_isStmt : tbl 29 = some (.code F29) := rfl
abbrev n_tree_printer_stmt : Nat := 30
theorem t_tree_printer_stmt : tbl 30 = some (.code F30) := rfl
abbrev n_tree_printer_expr : Nat := 31
theorem t_tree_printer_expr : tbl 31 = some (.code F31) := rfl
abbrev n_tree_printer_primary : Nat := 32
theorem t_tree_printer_primary : tbl 32 = some (.code F32) := rfl
abbrev n_slices_Contains_int_int : Nat := 36
theorem t_slices_Contains_int_int : tbl 36 = some (.code F36) := rfl
abbrev n_tree_known : Nat := 37
theorem t_tree_known : tbl 37 = some (.code F37) := rfl
abbrev n_tree_name : Nat := 38
theorem t_tree_name : tbl 38 = some (.code F38) := rfl
abbrev n_tree_num : Nat := 39
theorem t_tree_num : tbl 39 = some (.code F39) := rfl
abbrev n_tree_fits : Nat := 40
theorem t_tree_fits : tbl 40 = some (.code F40) := rfl
abbrev n_tree_printer_put : Nat := 41
theorem t_tree_printer_put : tbl 41 = some (.code F41) := rfl
abbrev n_tree_printer_function : Nat := 42
theorem t_tree_printer_function : tbl 42 = some (.code F42) := rfl
abbrev n_tree_printer_list : Nat := 43
theorem t_tree_printer_list : tbl 43 = some (.code F43) := rfl
abbrev n_tree_printer_perhaps : Nat := 44
theorem t_tree_printer_perhaps : tbl 44 = some (.code F44) := rfl
abbrev n_tree_printer_let : Nat := 45
theorem t_tree_printer_let : tbl 45 = some (.code F45) := rfl
abbrev n_tree_printer_operand : Nat := 46
theorem t_tree_printer_operand : tbl 46 = some (.code F46) := rfl
abbrev n_tree_printer_ahead : Nat := 47
theorem t_tree_printer_ahead : tbl 47 = some (.code F47) := rfl
abbrev n_strconv_FormatBool : Nat := 49
theorem t_strconv_FormatBool : tbl 49 = some (.code F49) := rfl
abbrev n_tree_printer_named : Nat := 50
theorem t_tree_printer_named : tbl 50 = some (.code F50) := rfl
abbrev n_slices_Index_int_int : Nat := 53
theorem t_slices_Index_int_int : tbl 53 = some (.code F53) := rfl
abbrev n_tree_isPattern : Nat := 54
theorem t_tree_isPattern : tbl 54 = some (.code F54) := rfl
abbrev n_tree_isExpr : Nat := 55
theorem t_tree_isExpr : tbl 55 = some (.code F55) := rfl
abbrev n_lex_Name : Nat := 56
theorem t_lex_Name : tbl 56 = some (.code F56) := rfl
abbrev n_tree_sign : Nat := 58
theorem t_tree_sign : tbl 58 = some (.code F58) := rfl
abbrev n_tree_shape : Nat := 59
theorem t_tree_shape : tbl 59 = some (.code F59) := rfl
abbrev n_tree_kids : Nat := 61
theorem t_tree_kids : tbl 61 = some (.code F61) := rfl
abbrev n_tree_all : Nat := 62
theorem t_tree_all : tbl 62 = some (.code F62) := rfl
abbrev n_internal_strconv_FormatBool : Nat := 64
theorem t_internal_strconv_FormatBool : tbl 64 = some (.code F64) := rfl
abbrev n_lex_spelt : Nat := 67
theorem t_lex_spelt : tbl 67 = some (.code F67) := rfl
abbrev n_lex_Word : Nat := 68
theorem t_lex_Word : tbl 68 = some (.code F68) := rfl
abbrev n_tree_is : Nat := 71
theorem t_tree_is : tbl 71 = some (.code F71) := rfl
abbrev n_slices_ContainsFunc_int_int : Nat := 72
theorem t_slices_ContainsFunc_int_int : tbl 72 = some (.code F72) := rfl
abbrev n_tree_all_1 : Nat := 73
theorem t_tree_all_1 : tbl 73 = some (.code F73) := rfl
abbrev n_lex_digit : Nat := 78
theorem t_lex_digit : tbl 78 = some (.code F78) := rfl
abbrev n_lex_letter : Nat := 79
theorem t_lex_letter : tbl 79 = some (.code F79) := rfl
abbrev n_slices_IndexFunc_int_int : Nat := 82
theorem t_slices_IndexFunc_int_int : tbl 82 = some (.code F82) := rfl
abbrev n_primJoin : Nat := 19
theorem t_primJoin : tbl 19 = some (.prim primJoin) := rfl
abbrev n_primFmt : Nat := 48
theorem t_primFmt : tbl 48 = some (.prim primFmt) := rfl
abbrev n_primCut : Nat := 57
theorem t_primCut : tbl 57 = some (.prim primCut) := rfl
abbrev n_primIndexByte : Nat := 60
theorem t_primIndexByte : tbl 60 = some (.prim primIndexByte) := rfl
end Go.Vm.Trd
