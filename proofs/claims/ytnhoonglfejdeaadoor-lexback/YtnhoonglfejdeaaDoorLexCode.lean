import Derived.Test.YtnhoonglfejdeaaDoorVmRun
import Derived.Test.YtnhoonglfejdeaaDoorVmTr
import Derived.Test.YtnhoonglfejdeaaDoorVmPrimLex
set_option maxRecDepth 100000
namespace Go.Vm.Lex
open Go Go.Vm
def keepOf (l : List (Nat × List Nat)) (i : Nat) : List Nat := ((l.find? (·.1 == i)).map (·.2)).getD []
def ghostOf (l : List (Nat × List VCode)) (i : Nat) : List VCode := ((l.find? (·.1 == i)).map (·.2)).getD []
-- 3 patina/patinalaw11.LexTokens
def B3 : VCode :=
 (.seq (.reg [⟨(some 2), .mv (.c (.d (.bool false))), none⟩])
  (.seq (.reg [⟨(some 8), .mv (.t 0), none⟩,
     ⟨(some 9), .call 10 [(.t 8)], none⟩,
     ⟨(some 7), .mv (.t 9), none⟩,
     ⟨(some 10), .ext (.t 7) 0, none⟩,
     ⟨(some 11), .ext (.t 7) 1, none⟩,
     ⟨(some 4), .zbox [(.d (.int .i64 0)), (.d (.int .i64 0)), (.d (.int .i64 0))], none⟩,
     ⟨(some 3), .mv (.t 10), none⟩,
     ⟨none, .st 3 (.t 4) (.t 11), none⟩])
   (.seq (.reg [⟨(some 13), .mv (.t 0), none⟩,
      ⟨(some 14), .call 11 [(.t 13)], none⟩,
      ⟨(some 12), .mv (.t 14), none⟩,
      ⟨(some 15), .ext (.t 12) 0, none⟩,
      ⟨(some 16), .ext (.t 12) 1, none⟩,
      ⟨(some 6), .zbox [(.d (.int .i64 0)), (.d (.int .i64 0)), (.d (.int .i64 0))], none⟩,
      ⟨(some 5), .mv (.t 15), none⟩,
      ⟨none, .st 3 (.t 6) (.t 16), none⟩])
    (.seq (.reg [⟨(some 17), .mv (.t 3), none⟩,
       ⟨(some 18), .mv (.t 5), none⟩,
       ⟨(some 19), .call 12 [(.t 17), (.t 18)], none⟩,
       ⟨(some 20), .mv (.t 19), none⟩,
       ⟨(some 21), .ld (some 3) (.t 4), some (20, true)⟩,
       ⟨(some 22), .ld (some 3) (.t 6), some (20, true)⟩,
       ⟨(some 23), .eqa false [1, 1, 1] (.t 21) (.t 22), some (20, true)⟩,
       ⟨(some 24), .pick (.t 20) (.t 23) (.c (.d (.bool false))), none⟩,
       ⟨(some 25), .mv (.t 24), none⟩,
       ⟨(some 26), .call 13 [], some (25, true)⟩,
       ⟨(some 27), .pick (.t 25) (.t 26) (.c (.d (.bool false))), none⟩,
       ⟨(some 2), .mv (.t 27), none⟩])
     .ret))))
def F3 : VFn := ⟨1, 28, B3, [.tmp 2], false⟩

def A3 : Ann := ⟨keepOf [], ghostOf []⟩
-- 4 patina/patinalaw11.LexNames
def B4 : VCode :=
 (.seq (.reg [⟨(some 2), .mv (.c (.d (.bool false))), none⟩])
  (.seq (.reg [⟨(some 3), .mv (.t 0), none⟩,
     ⟨(some 4), .call 14 [(.t 3)], none⟩,
     ⟨(some 5), .mv (.t 0), none⟩,
     ⟨(some 6), .call 15 [(.t 5)], none⟩,
     ⟨(some 7), .eqb false (.t 4) (.t 6), none⟩,
     ⟨(some 8), .mv (.t 7), none⟩,
     ⟨(some 9), .mv (.t 0), some (8, true)⟩,
     ⟨(some 10), .call 16 [(.t 9)], some (8, true)⟩,
     ⟨(some 11), .mv (.t 0), some (8, true)⟩,
     ⟨(some 12), .call 17 [(.t 11)], some (8, true)⟩,
     ⟨(some 13), .eqb false (.t 10) (.t 12), some (8, true)⟩,
     ⟨(some 14), .pick (.t 8) (.t 13) (.c (.d (.bool false))), none⟩,
     ⟨(some 15), .mv (.t 14), none⟩,
     ⟨(some 16), .call 13 [], some (15, true)⟩,
     ⟨(some 17), .pick (.t 15) (.t 16) (.c (.d (.bool false))), none⟩,
     ⟨(some 2), .mv (.t 17), none⟩])
   .ret))
def F4 : VFn := ⟨1, 18, B4, [.tmp 2], false⟩

def A4 : Ann := ⟨keepOf [], ghostOf []⟩
-- 5 patina/patinalaw11.LexCovers
def K5_0 : List Nat := [0, 3, 5, 43, 44, 45]
def L5_0 : VCode :=
 (.seq (.reg [⟨(some 46), .bin .lss (.t 45) (.t 44), none⟩])
  (.seq (.cond (.t 46)
     .skip
     (.exit 0))
   (.seq (.block 1 (.seq (.reg [⟨(some 47), .mv (.t 45), none⟩,
        ⟨(some 48), .iadr 5 (.t 43) (.t 45), none⟩,
        ⟨(some 49), .ld (some 5) (.t 48), none⟩,
        ⟨(some 7), .zbox [(.d (.int .i64 0)), (.d (.str [])), (.d (.int .i64 0)), (.d (.int .i64 0)), (.d (.int .i64 0))], none⟩,
        ⟨(some 6), .mv (.t 47), none⟩,
        ⟨none, .st 5 (.t 7) (.t 49), none⟩])
      (.seq (.seq (.draw 38 [⟨(some 50), .fadr 3 (.t 7), none⟩,
          ⟨(some 51), .ld none (.t 50), none⟩,
          ⟨(some 52), .mv (.t 5), none⟩,
          ⟨(some 53), .bin .lss (.t 51) (.t 52), none⟩,
          ⟨(some 54), .mv (.t 53), none⟩,
          ⟨(some 55), .fadr 4 (.t 7), some (54, false)⟩,
          ⟨(some 56), .ld none (.t 55), some (54, false)⟩,
          ⟨(some 57), .fadr 3 (.t 7), some (54, false)⟩,
          ⟨(some 58), .ld none (.t 57), some (54, false)⟩,
          ⟨(some 59), .bin .lss (.t 56) (.t 58), some (54, false)⟩,
          ⟨(some 60), .pick (.t 54) (.c (.d (.bool true))) (.t 59), none⟩,
          ⟨(some 61), .mv (.t 60), none⟩,
          ⟨(some 62), .fadr 4 (.t 7), some (61, false)⟩,
          ⟨(some 63), .ld none (.t 62), some (61, false)⟩,
          ⟨(some 64), .mv (.t 0), some (61, false)⟩,
          ⟨(some 65), .len true (.t 64), some (61, false)⟩,
          ⟨(some 66), .bin .gtr (.t 63) (.t 65), some (61, false)⟩,
          ⟨(some 67), .pick (.t 61) (.c (.d (.bool true))) (.t 66), none⟩,
          ⟨(some 68), .mv (.t 67), none⟩,
          ⟨(some 69), .mv (.t 0), some (68, false)⟩,
          ⟨(some 70), .fadr 3 (.t 7), some (68, false)⟩,
          ⟨(some 71), .ld none (.t 70), some (68, false)⟩,
          ⟨(some 72), .fadr 4 (.t 7), some (68, false)⟩,
          ⟨(some 73), .ld none (.t 72), some (68, false)⟩,
          ⟨(some 74), .slcs (.t 69) (some (.t 71)) (some (.t 73)), some (68, false)⟩,
          ⟨(some 75), .fadr 1 (.t 7), some (68, false)⟩,
          ⟨(some 76), .ld none (.t 75), some (68, false)⟩,
          ⟨(some 77), .bin .neq (.t 74) (.t 76), some (68, false)⟩,
          ⟨(some 78), .pick (.t 68) (.c (.d (.bool true))) (.t 77), none⟩,
          ⟨(some 79), .mv (.t 78), none⟩,
          ⟨(some 80), .fadr 0 (.t 7), some (79, false)⟩,
          ⟨(some 81), .ld none (.t 80), some (79, false)⟩,
          ⟨(some 82), .bin .eql (.t 81) (.c (.d (.int .i64 5))), some (79, false)⟩,
          ⟨(some 83), .mv (.t 6), some (79, false)⟩,
          ⟨(some 84), .mv (.t 3), some (79, false)⟩,
          ⟨(some 85), .len false (.t 84), some (79, false)⟩,
          ⟨(some 86), .bin .sub (.t 85) (.c (.d (.int .i64 1))), some (79, false)⟩,
          ⟨(some 87), .bin .eql (.t 83) (.t 86), some (79, false)⟩,
          ⟨(some 88), .eqb true (.t 82) (.t 87), some (79, false)⟩,
          ⟨(some 89), .pick (.t 79) (.c (.d (.bool true))) (.t 88), none⟩])
        (.cond (.t 89)
          (.seq (.reg [⟨(some 2), .mv (.c (.d (.bool false))), none⟩])
           .ret)
          .skip))
       (.seq (.reg [⟨(some 91), .mv (.t 0), none⟩,
          ⟨(some 92), .mv (.t 5), none⟩,
          ⟨(some 93), .fadr 3 (.t 7), none⟩,
          ⟨(some 94), .ld none (.t 93), none⟩,
          ⟨(some 95), .slcs (.t 91) (some (.t 92)) (some (.t 94)), none⟩,
          ⟨(some 96), .call 11 [(.t 95)], none⟩,
          ⟨(some 90), .mv (.t 96), none⟩,
          ⟨(some 97), .ext (.t 90) 0, none⟩,
          ⟨(some 98), .ext (.t 90) 1, none⟩,
          ⟨(some 9), .zbox [(.d (.int .i64 0)), (.d (.int .i64 0)), (.d (.int .i64 0))], none⟩,
          ⟨(some 8), .mv (.t 97), none⟩,
          ⟨none, .st 3 (.t 9) (.t 98), none⟩])
        (.seq (.seq (.reg [⟨(some 99), .fadr 0 (.t 9), none⟩,
            ⟨(some 100), .ld none (.t 99), none⟩,
            ⟨(some 101), .bin .neq (.t 100) (.c (.d (.int .i64 0))), none⟩,
            ⟨(some 102), .mv (.t 101), none⟩,
            ⟨(some 103), .mv (.t 8), some (102, false)⟩,
            ⟨(some 104), .len false (.t 103), some (102, false)⟩,
            ⟨(some 105), .bin .neq (.t 104) (.c (.d (.int .i64 1))), some (102, false)⟩,
            ⟨(some 106), .pick (.t 102) (.c (.d (.bool true))) (.t 105), none⟩])
          (.cond (.t 106)
            (.seq (.reg [⟨(some 2), .mv (.c (.d (.bool false))), none⟩])
             .ret)
            .skip))
         (.reg [⟨(some 107), .fadr 4 (.t 7), none⟩,
           ⟨(some 108), .ld none (.t 107), none⟩,
           ⟨(some 5), .mv (.t 108), none⟩]))))))
    (.reg [⟨(some 109), .bin .add (.t 45) (.c (.d (.int .i64 1))), none⟩,
      ⟨(some 45), .mv (.t 109), none⟩]))))
def B5 : VCode :=
 (.seq (.reg [⟨(some 2), .mv (.c (.d (.bool false))), none⟩])
  (.seq (.reg [⟨(some 11), .mv (.t 0), none⟩,
     ⟨(some 12), .call 10 [(.t 11)], none⟩,
     ⟨(some 10), .mv (.t 12), none⟩,
     ⟨(some 13), .ext (.t 10) 0, none⟩,
     ⟨(some 14), .ext (.t 10) 1, none⟩,
     ⟨(some 4), .zbox [(.d (.int .i64 0)), (.d (.int .i64 0)), (.d (.int .i64 0))], none⟩,
     ⟨(some 3), .mv (.t 13), none⟩,
     ⟨none, .st 3 (.t 4) (.t 14), none⟩])
   (.seq (.seq (.reg [⟨(some 15), .fadr 0 (.t 4), none⟩,
       ⟨(some 16), .ld none (.t 15), none⟩,
       ⟨(some 17), .bin .neq (.t 16) (.c (.d (.int .i64 0))), none⟩])
     (.cond (.t 17)
       (.seq (.reg [⟨(some 18), .mv (.t 3), none⟩,
          ⟨(some 19), .len false (.t 18), none⟩,
          ⟨(some 20), .bin .eql (.t 19) (.c (.d (.int .i64 0))), none⟩,
          ⟨(some 21), .mv (.t 20), none⟩,
          ⟨(some 22), .fadr 1 (.t 4), some (21, true)⟩,
          ⟨(some 23), .ld none (.t 22), some (21, true)⟩,
          ⟨(some 24), .bin .geq (.t 23) (.c (.d (.int .i64 0))), some (21, true)⟩,
          ⟨(some 25), .pick (.t 21) (.t 24) (.c (.d (.bool false))), none⟩,
          ⟨(some 26), .mv (.t 25), none⟩,
          ⟨(some 27), .fadr 1 (.t 4), some (26, true)⟩,
          ⟨(some 28), .ld none (.t 27), some (26, true)⟩,
          ⟨(some 29), .fadr 2 (.t 4), some (26, true)⟩,
          ⟨(some 30), .ld none (.t 29), some (26, true)⟩,
          ⟨(some 31), .bin .leq (.t 28) (.t 30), some (26, true)⟩,
          ⟨(some 32), .pick (.t 26) (.t 31) (.c (.d (.bool false))), none⟩,
          ⟨(some 33), .mv (.t 32), none⟩,
          ⟨(some 34), .fadr 2 (.t 4), some (33, true)⟩,
          ⟨(some 35), .ld none (.t 34), some (33, true)⟩,
          ⟨(some 36), .mv (.t 0), some (33, true)⟩,
          ⟨(some 37), .len true (.t 36), some (33, true)⟩,
          ⟨(some 38), .bin .leq (.t 35) (.t 37), some (33, true)⟩,
          ⟨(some 39), .pick (.t 33) (.t 38) (.c (.d (.bool false))), none⟩,
          ⟨(some 40), .mv (.t 39), none⟩,
          ⟨(some 41), .call 13 [], some (40, true)⟩,
          ⟨(some 42), .pick (.t 40) (.t 41) (.c (.d (.bool false))), none⟩,
          ⟨(some 2), .mv (.t 42), none⟩])
        .ret)
       .skip))
    (.seq (.reg [⟨(some 5), .mv (.c (.d (.int .i64 0))), none⟩])
     (.seq (.seq (.reg [⟨(some 43), .mv (.t 3), none⟩,
         ⟨(some 44), .len false (.t 43), none⟩,
         ⟨(some 45), .mv (.c (.d (.int .i64 0))), none⟩])
       (.block 0 (.loop K5_0 L5_0)))
      (.seq (.reg [⟨(some 110), .mv (.t 5), none⟩,
         ⟨(some 111), .mv (.t 0), none⟩,
         ⟨(some 112), .len true (.t 111), none⟩,
         ⟨(some 113), .bin .eql (.t 110) (.t 112), none⟩,
         ⟨(some 114), .mv (.t 113), none⟩,
         ⟨(some 115), .call 13 [], some (114, true)⟩,
         ⟨(some 116), .pick (.t 114) (.t 115) (.c (.d (.bool false))), none⟩,
         ⟨(some 2), .mv (.t 116), none⟩])
       .ret))))))
def F5 : VFn := ⟨1, 117, B5, [.tmp 2], false⟩

def A5 : Ann := ⟨keepOf [(6, [0, 3, 5, 43, 44, 45])], ghostOf []⟩
-- 6 patina/patinalaw11.LexBlanks
def K6_0 : List Nat := [5, 7, 9, 80, 81]
def L6_0 : VCode :=
 (.seq (.reg [⟨(some 82), .bin .lss (.t 81) (.t 80), none⟩])
  (.seq (.cond (.t 82)
     .skip
     (.exit 0))
   (.seq (.block 1 (.seq (.reg [⟨(some 83), .mv (.t 81), none⟩,
        ⟨(some 11), .mv (.t 83), none⟩])
      (.seq (.draw 8 [⟨(some 84), .mv (.t 9), none⟩,
         ⟨(some 85), .mv (.t 11), none⟩,
         ⟨(some 86), .iadr 5 (.t 84) (.t 85), none⟩,
         ⟨(some 87), .ld (some 5) (.t 86), none⟩,
         ⟨(some 88), .mv (.t 5), none⟩,
         ⟨(some 89), .mv (.t 11), none⟩,
         ⟨(some 90), .iadr 5 (.t 88) (.t 89), none⟩,
         ⟨(some 91), .ld (some 5) (.t 90), none⟩,
         ⟨(some 92), .eqa true [1, 2, 1, 1, 1] (.t 87) (.t 91), none⟩])
       (.cond (.t 92)
         (.seq (.reg [⟨(some 4), .mv (.c (.d (.bool false))), none⟩])
          .ret)
         .skip))))
    (.reg [⟨(some 93), .bin .add (.t 81) (.c (.d (.int .i64 1))), none⟩,
      ⟨(some 81), .mv (.t 93), none⟩]))))
def K6_1 : List Nat := [5, 7, 9, 95, 96]
def L6_1 : VCode :=
 (.seq (.reg [⟨(some 97), .bin .lss (.t 96) (.t 95), none⟩])
  (.seq (.cond (.t 97)
     .skip
     (.exit 2))
   (.seq (.block 3 (.seq (.reg [⟨(some 98), .mv (.t 96), none⟩,
        ⟨(some 12), .mv (.t 98), none⟩])
      (.seq (.draw 13 [⟨(some 99), .mv (.t 9), none⟩,
         ⟨(some 100), .mv (.t 5), none⟩,
         ⟨(some 101), .len false (.t 100), none⟩,
         ⟨(some 102), .bin .sub (.t 101) (.c (.d (.int .i64 1))), none⟩,
         ⟨(some 103), .mv (.t 12), none⟩,
         ⟨(some 104), .bin .add (.t 102) (.t 103), none⟩,
         ⟨(some 105), .iadr 5 (.t 99) (.t 104), none⟩,
         ⟨(some 106), .ld (some 5) (.t 105), none⟩,
         ⟨(some 107), .call 18 [(.t 106)], none⟩,
         ⟨(some 108), .mv (.t 7), none⟩,
         ⟨(some 109), .mv (.t 12), none⟩,
         ⟨(some 110), .iadr 5 (.t 108) (.t 109), none⟩,
         ⟨(some 111), .ld (some 5) (.t 110), none⟩,
         ⟨(some 112), .call 18 [(.t 111)], none⟩,
         ⟨(some 113), .eqa true [1, 2, 1, 1, 1] (.t 107) (.t 112), none⟩])
       (.cond (.t 113)
         (.seq (.reg [⟨(some 4), .mv (.c (.d (.bool false))), none⟩])
          .ret)
         .skip))))
    (.reg [⟨(some 114), .bin .add (.t 96) (.c (.d (.int .i64 1))), none⟩,
      ⟨(some 96), .mv (.t 114), none⟩]))))
def B6 : VCode :=
 (.seq (.reg [⟨(some 4), .mv (.c (.d (.bool false))), none⟩])
  (.seq (.seq (.reg [⟨(some 13), .mv (.t 0), none⟩,
      ⟨(some 14), .len true (.t 13), none⟩,
      ⟨(some 15), .mv (.t 1), none⟩,
      ⟨(some 16), .len true (.t 15), none⟩,
      ⟨(some 17), .bin .add (.t 14) (.t 16), none⟩,
      ⟨(some 18), .bin .gtr (.t 17) (.c (.d (.int .i64 60000))), none⟩])
    (.cond (.t 18)
      (.seq (.reg [⟨(some 19), .call 13 [], none⟩,
         ⟨(some 4), .mv (.t 19), none⟩])
       .ret)
      .skip))
   (.seq (.reg [⟨(some 21), .mv (.t 0), none⟩,
      ⟨(some 22), .call 10 [(.t 21)], none⟩,
      ⟨(some 20), .mv (.t 22), none⟩,
      ⟨(some 23), .ext (.t 20) 0, none⟩,
      ⟨(some 24), .ext (.t 20) 1, none⟩,
      ⟨(some 6), .zbox [(.d (.int .i64 0)), (.d (.int .i64 0)), (.d (.int .i64 0))], none⟩,
      ⟨(some 5), .mv (.t 23), none⟩,
      ⟨none, .st 3 (.t 6) (.t 24), none⟩])
    (.seq (.reg [⟨(some 26), .mv (.t 1), none⟩,
       ⟨(some 27), .call 10 [(.t 26)], none⟩,
       ⟨(some 25), .mv (.t 27), none⟩,
       ⟨(some 28), .ext (.t 25) 0, none⟩,
       ⟨(some 29), .ext (.t 25) 1, none⟩,
       ⟨(some 8), .zbox [(.d (.int .i64 0)), (.d (.int .i64 0)), (.d (.int .i64 0))], none⟩,
       ⟨(some 7), .mv (.t 28), none⟩,
       ⟨none, .st 3 (.t 8) (.t 29), none⟩])
     (.seq (.reg [⟨(some 31), .mv (.t 0), none⟩,
        ⟨(some 32), .bin .add (.t 31) (.c (.d (.str [10, 47, 47, 32, 120, 10, 32, 9]))), none⟩,
        ⟨(some 33), .mv (.t 1), none⟩,
        ⟨(some 34), .bin .add (.t 32) (.t 33), none⟩,
        ⟨(some 35), .call 10 [(.t 34)], none⟩,
        ⟨(some 30), .mv (.t 35), none⟩,
        ⟨(some 36), .ext (.t 30) 0, none⟩,
        ⟨(some 37), .ext (.t 30) 1, none⟩,
        ⟨(some 10), .zbox [(.d (.int .i64 0)), (.d (.int .i64 0)), (.d (.int .i64 0))], none⟩,
        ⟨(some 9), .mv (.t 36), none⟩,
        ⟨none, .st 3 (.t 10) (.t 37), none⟩])
      (.seq (.seq (.reg [⟨(some 38), .fadr 0 (.t 6), none⟩,
          ⟨(some 39), .ld none (.t 38), none⟩,
          ⟨(some 40), .bin .neq (.t 39) (.c (.d (.int .i64 0))), none⟩])
        (.cond (.t 40)
          (.seq (.reg [⟨(some 41), .fadr 0 (.t 10), none⟩,
             ⟨(some 42), .ld none (.t 41), none⟩,
             ⟨(some 43), .bin .neq (.t 42) (.c (.d (.int .i64 0))), none⟩,
             ⟨(some 44), .mv (.t 43), none⟩,
             ⟨(some 45), .call 13 [], some (44, true)⟩,
             ⟨(some 46), .pick (.t 44) (.t 45) (.c (.d (.bool false))), none⟩,
             ⟨(some 4), .mv (.t 46), none⟩])
           .ret)
          .skip))
       (.seq (.seq (.reg [⟨(some 47), .fadr 0 (.t 8), none⟩,
           ⟨(some 48), .ld none (.t 47), none⟩,
           ⟨(some 49), .bin .neq (.t 48) (.c (.d (.int .i64 0))), none⟩])
         (.cond (.t 49)
           (.seq (.reg [⟨(some 50), .fadr 0 (.t 10), none⟩,
              ⟨(some 51), .ld none (.t 50), none⟩,
              ⟨(some 52), .bin .neq (.t 51) (.c (.d (.int .i64 0))), none⟩,
              ⟨(some 53), .mv (.t 52), none⟩,
              ⟨(some 54), .call 13 [], some (53, true)⟩,
              ⟨(some 55), .pick (.t 53) (.t 54) (.c (.d (.bool false))), none⟩,
              ⟨(some 4), .mv (.t 55), none⟩])
            .ret)
           .skip))
        (.seq (.seq (.reg [⟨(some 56), .fadr 0 (.t 10), none⟩,
            ⟨(some 57), .ld none (.t 56), none⟩,
            ⟨(some 58), .bin .neq (.t 57) (.c (.d (.int .i64 0))), none⟩,
            ⟨(some 59), .mv (.t 58), none⟩,
            ⟨(some 60), .mv (.t 5), some (59, false)⟩,
            ⟨(some 61), .len false (.t 60), some (59, false)⟩,
            ⟨(some 62), .bin .lss (.t 61) (.c (.d (.int .i64 1))), some (59, false)⟩,
            ⟨(some 63), .pick (.t 59) (.c (.d (.bool true))) (.t 62), none⟩,
            ⟨(some 64), .mv (.t 63), none⟩,
            ⟨(some 65), .mv (.t 9), some (64, false)⟩,
            ⟨(some 66), .len false (.t 65), some (64, false)⟩,
            ⟨(some 67), .mv (.t 5), some (64, false)⟩,
            ⟨(some 68), .len false (.t 67), some (64, false)⟩,
            ⟨(some 69), .mv (.t 7), some (64, false)⟩,
            ⟨(some 70), .len false (.t 69), some (64, false)⟩,
            ⟨(some 71), .bin .add (.t 68) (.t 70), some (64, false)⟩,
            ⟨(some 72), .bin .sub (.t 71) (.c (.d (.int .i64 1))), some (64, false)⟩,
            ⟨(some 73), .bin .neq (.t 66) (.t 72), some (64, false)⟩,
            ⟨(some 74), .pick (.t 64) (.c (.d (.bool true))) (.t 73), none⟩])
          (.cond (.t 74)
            (.seq (.reg [⟨(some 4), .mv (.c (.d (.bool false))), none⟩])
             .ret)
            .skip))
         (.seq (.seq (.reg [⟨(some 75), .mv (.t 5), none⟩,
             ⟨(some 76), .mv (.t 5), none⟩,
             ⟨(some 77), .len false (.t 76), none⟩,
             ⟨(some 78), .bin .sub (.t 77) (.c (.d (.int .i64 1))), none⟩,
             ⟨(some 79), .slc 5 (.t 75) none (some (.t 78)), none⟩,
             ⟨(some 80), .len false (.t 79), none⟩,
             ⟨(some 81), .mv (.c (.d (.int .i64 0))), none⟩])
           (.block 0 (.loop K6_0 L6_0)))
          (.seq (.seq (.reg [⟨(some 94), .mv (.t 7), none⟩,
              ⟨(some 95), .len false (.t 94), none⟩,
              ⟨(some 96), .mv (.c (.d (.int .i64 0))), none⟩])
            (.block 2 (.loop K6_1 L6_1)))
           (.seq (.reg [⟨(some 115), .call 13 [], none⟩,
              ⟨(some 4), .mv (.t 115), none⟩])
            .ret)))))))))))
def F6 : VFn := ⟨2, 116, B6, [.tmp 4], false⟩

def A6 : Ann := ⟨keepOf [(13, [5, 7, 9, 80, 81]), (19, [5, 7, 9, 95, 96])], ghostOf []⟩
-- 7 patina/patinalaw11.LexPrints
def B7 : VCode :=
 (.seq (.reg [⟨(some 2), .mv (.c (.d (.bool false))), none⟩])
  (.seq (.reg [⟨(some 8), .mv (.t 0), none⟩,
     ⟨(some 9), .call 19 [(.t 8)], none⟩,
     ⟨(some 7), .mv (.t 9), none⟩,
     ⟨(some 10), .ext (.t 7) 0, none⟩,
     ⟨(some 11), .ext (.t 7) 1, none⟩,
     ⟨(some 3), .mv (.t 10), none⟩,
     ⟨(some 4), .mv (.t 11), none⟩])
   (.seq (.reg [⟨(some 13), .mv (.t 0), none⟩,
      ⟨(some 14), .call 20 [(.t 13)], none⟩,
      ⟨(some 12), .mv (.t 14), none⟩,
      ⟨(some 15), .ext (.t 12) 0, none⟩,
      ⟨(some 16), .ext (.t 12) 1, none⟩,
      ⟨(some 5), .mv (.t 15), none⟩,
      ⟨(some 6), .mv (.t 16), none⟩])
    (.seq (.reg [⟨(some 17), .mv (.t 3), none⟩,
       ⟨(some 18), .mv (.t 5), none⟩,
       ⟨(some 19), .bin .eql (.t 17) (.t 18), none⟩,
       ⟨(some 20), .mv (.t 19), none⟩,
       ⟨(some 21), .mv (.t 4), some (20, true)⟩,
       ⟨(some 22), .mv (.t 6), some (20, true)⟩,
       ⟨(some 23), .bin .eql (.t 21) (.t 22), some (20, true)⟩,
       ⟨(some 24), .pick (.t 20) (.t 23) (.c (.d (.bool false))), none⟩,
       ⟨(some 25), .mv (.t 24), none⟩,
       ⟨(some 26), .call 13 [], some (25, true)⟩,
       ⟨(some 27), .pick (.t 25) (.t 26) (.c (.d (.bool false))), none⟩,
       ⟨(some 2), .mv (.t 27), none⟩])
     .ret))))
def F7 : VFn := ⟨1, 28, B7, [.tmp 2], false⟩

def A7 : Ann := ⟨keepOf [], ghostOf []⟩
-- 8 patina/patinalaw11.LexBack
def K8_0 : List Nat := [5, 7, 39, 40, 41]
def L8_0 : VCode :=
 (.seq (.reg [⟨(some 42), .bin .lss (.t 41) (.t 40), none⟩])
  (.seq (.cond (.t 42)
     .skip
     (.exit 0))
   (.seq (.block 1 (.seq (.reg [⟨(some 43), .iadr 5 (.t 39) (.t 41), none⟩,
        ⟨(some 44), .ld (some 5) (.t 43), none⟩,
        ⟨(some 9), .zbox [(.d (.int .i64 0)), (.d (.str [])), (.d (.int .i64 0)), (.d (.int .i64 0)), (.d (.int .i64 0))], none⟩,
        ⟨none, .st 5 (.t 9) (.t 44), none⟩])
      (.seq (.seq (.reg [⟨(some 45), .fadr 0 (.t 9), none⟩,
          ⟨(some 46), .ld none (.t 45), none⟩,
          ⟨(some 47), .bin .eql (.t 46) (.c (.d (.int .i64 5))), none⟩])
        (.cond (.t 47)
          (.exit 1)
          .skip))
       (.seq (.seq (.draw 11 [⟨(some 48), .mv (.t 7), none⟩,
           ⟨(some 49), .mv (.t 5), none⟩,
           ⟨(some 50), .len false (.t 49), none⟩,
           ⟨(some 51), .bin .geq (.t 48) (.t 50), none⟩,
           ⟨(some 52), .mv (.t 51), none⟩,
           ⟨(some 53), .mv (.t 5), some (52, false)⟩,
           ⟨(some 54), .mv (.t 7), some (52, false)⟩,
           ⟨(some 55), .iadr 5 (.t 53) (.t 54), some (52, false)⟩,
           ⟨(some 56), .ld (some 5) (.t 55), some (52, false)⟩,
           ⟨(some 57), .call 18 [(.t 56)], some (52, false)⟩,
           ⟨(some 58), .ld (some 5) (.t 9), some (52, false)⟩,
           ⟨(some 59), .call 18 [(.t 58)], some (52, false)⟩,
           ⟨(some 60), .eqa true [1, 2, 1, 1, 1] (.t 57) (.t 59), some (52, false)⟩,
           ⟨(some 61), .pick (.t 52) (.c (.d (.bool true))) (.t 60), none⟩])
         (.cond (.t 61)
           (.seq (.reg [⟨(some 2), .mv (.c (.d (.bool false))), none⟩])
            .ret)
           .skip))
        (.reg [⟨(some 62), .mv (.t 7), none⟩,
          ⟨(some 63), .bin .add (.t 62) (.c (.d (.int .i64 1))), none⟩,
          ⟨(some 7), .mv (.t 63), none⟩])))))
    (.reg [⟨(some 64), .bin .add (.t 41) (.c (.d (.int .i64 1))), none⟩,
      ⟨(some 41), .mv (.t 64), none⟩]))))
def B8 : VCode :=
 (.seq (.reg [⟨(some 2), .mv (.c (.d (.bool false))), none⟩])
  (.seq (.reg [⟨(some 11), .mv (.t 0), none⟩,
     ⟨(some 12), .call 19 [(.t 11)], none⟩,
     ⟨(some 10), .mv (.t 12), none⟩,
     ⟨(some 13), .ext (.t 10) 0, none⟩,
     ⟨(some 14), .ext (.t 10) 1, none⟩,
     ⟨(some 3), .mv (.t 13), none⟩,
     ⟨(some 4), .mv (.t 14), none⟩])
   (.seq (.seq (.reg [⟨(some 15), .mv (.t 4), none⟩,
       ⟨(some 16), .bin .neq (.t 15) (.c (.d (.int .i64 0))), none⟩,
       ⟨(some 17), .mv (.t 16), none⟩,
       ⟨(some 18), .mv (.t 3), some (17, false)⟩,
       ⟨(some 19), .len true (.t 18), some (17, false)⟩,
       ⟨(some 20), .bin .gtr (.t 19) (.c (.d (.int .i64 65536))), some (17, false)⟩,
       ⟨(some 21), .pick (.t 17) (.c (.d (.bool true))) (.t 20), none⟩])
     (.cond (.t 21)
       (.seq (.reg [⟨(some 22), .mv (.t 4), none⟩,
          ⟨(some 23), .bin .eql (.t 22) (.c (.d (.int .i64 0))), none⟩,
          ⟨(some 24), .mv (.t 23), none⟩,
          ⟨(some 25), .mv (.t 3), some (24, false)⟩,
          ⟨(some 26), .bin .eql (.t 25) (.c (.d (.str []))), some (24, false)⟩,
          ⟨(some 27), .pick (.t 24) (.c (.d (.bool true))) (.t 26), none⟩,
          ⟨(some 28), .mv (.t 27), none⟩,
          ⟨(some 29), .call 13 [], some (28, true)⟩,
          ⟨(some 30), .pick (.t 28) (.t 29) (.c (.d (.bool false))), none⟩,
          ⟨(some 2), .mv (.t 30), none⟩])
        .ret)
       .skip))
    (.seq (.reg [⟨(some 32), .mv (.t 3), none⟩,
       ⟨(some 33), .call 10 [(.t 32)], none⟩,
       ⟨(some 31), .mv (.t 33), none⟩,
       ⟨(some 34), .ext (.t 31) 0, none⟩,
       ⟨(some 35), .ext (.t 31) 1, none⟩,
       ⟨(some 6), .zbox [(.d (.int .i64 0)), (.d (.int .i64 0)), (.d (.int .i64 0))], none⟩,
       ⟨(some 5), .mv (.t 34), none⟩,
       ⟨none, .st 3 (.t 6) (.t 35), none⟩])
     (.seq (.seq (.reg [⟨(some 36), .fadr 0 (.t 6), none⟩,
         ⟨(some 37), .ld none (.t 36), none⟩,
         ⟨(some 38), .bin .neq (.t 37) (.c (.d (.int .i64 0))), none⟩])
       (.cond (.t 38)
         (.seq (.reg [⟨(some 2), .mv (.c (.d (.bool false))), none⟩])
          .ret)
         .skip))
      (.seq (.reg [⟨(some 7), .mv (.c (.d (.int .i64 0))), none⟩])
       (.seq (.seq (.reg [⟨(some 39), .mv (.t 0), none⟩,
           ⟨(some 40), .len false (.t 39), none⟩,
           ⟨(some 41), .mv (.c (.d (.int .i64 0))), none⟩])
         (.block 0 (.loop K8_0 L8_0)))
        (.seq (.reg [⟨(some 65), .mv (.t 7), none⟩,
           ⟨(some 66), .bin .add (.t 65) (.c (.d (.int .i64 1))), none⟩,
           ⟨(some 67), .mv (.t 5), none⟩,
           ⟨(some 68), .len false (.t 67), none⟩,
           ⟨(some 69), .bin .eql (.t 66) (.t 68), none⟩,
           ⟨(some 70), .mv (.t 69), none⟩,
           ⟨(some 71), .mv (.t 5), some (70, true)⟩,
           ⟨(some 72), .mv (.t 7), some (70, true)⟩,
           ⟨(some 73), .iadr 5 (.t 71) (.t 72), some (70, true)⟩,
           ⟨(some 74), .fadr 0 (.t 73), some (70, true)⟩,
           ⟨(some 75), .ld none (.t 74), some (70, true)⟩,
           ⟨(some 76), .bin .eql (.t 75) (.c (.d (.int .i64 5))), some (70, true)⟩,
           ⟨(some 77), .pick (.t 70) (.t 76) (.c (.d (.bool false))), none⟩,
           ⟨(some 78), .mv (.t 77), none⟩,
           ⟨(some 79), .call 13 [], some (78, true)⟩,
           ⟨(some 80), .pick (.t 78) (.t 79) (.c (.d (.bool false))), none⟩,
           ⟨(some 2), .mv (.t 80), none⟩])
         .ret))))))))
def F8 : VFn := ⟨1, 81, B8, [.tmp 2], false⟩

def A8 : Ann := ⟨keepOf [(9, [5, 7, 39, 40, 41])], ghostOf []⟩
-- 9 patina/patinalaw11.LexPlaces
def B9 : VCode :=
 (.seq (.reg [⟨(some 4), .mv (.c (.d (.bool false))), none⟩])
  (.seq (.reg [⟨(some 12), .mv (.t 0), none⟩,
     ⟨(some 13), .mv (.t 1), none⟩,
     ⟨(some 14), .call 21 [(.t 12), (.t 13)], none⟩,
     ⟨(some 11), .mv (.t 14), none⟩,
     ⟨(some 15), .ext (.t 11) 0, none⟩,
     ⟨(some 16), .ext (.t 11) 1, none⟩,
     ⟨(some 17), .ext (.t 11) 2, none⟩,
     ⟨(some 5), .mv (.t 15), none⟩,
     ⟨(some 6), .mv (.t 16), none⟩,
     ⟨(some 7), .mv (.t 17), none⟩])
   (.seq (.reg [⟨(some 19), .mv (.t 0), none⟩,
      ⟨(some 20), .mv (.t 1), none⟩,
      ⟨(some 21), .call 22 [(.t 19), (.t 20)], none⟩,
      ⟨(some 18), .mv (.t 21), none⟩,
      ⟨(some 22), .ext (.t 18) 0, none⟩,
      ⟨(some 23), .ext (.t 18) 1, none⟩,
      ⟨(some 24), .ext (.t 18) 2, none⟩,
      ⟨(some 8), .mv (.t 22), none⟩,
      ⟨(some 9), .mv (.t 23), none⟩,
      ⟨(some 10), .mv (.t 24), none⟩])
    (.seq (.reg [⟨(some 25), .mv (.t 5), none⟩,
       ⟨(some 26), .mv (.t 8), none⟩,
       ⟨(some 27), .bin .eql (.t 25) (.t 26), none⟩,
       ⟨(some 28), .mv (.t 27), none⟩,
       ⟨(some 29), .mv (.t 6), some (28, true)⟩,
       ⟨(some 30), .mv (.t 9), some (28, true)⟩,
       ⟨(some 31), .bin .eql (.t 29) (.t 30), some (28, true)⟩,
       ⟨(some 32), .pick (.t 28) (.t 31) (.c (.d (.bool false))), none⟩,
       ⟨(some 33), .mv (.t 32), none⟩,
       ⟨(some 34), .mv (.t 7), some (33, true)⟩,
       ⟨(some 35), .mv (.t 10), some (33, true)⟩,
       ⟨(some 36), .bin .eql (.t 34) (.t 35), some (33, true)⟩,
       ⟨(some 37), .pick (.t 33) (.t 36) (.c (.d (.bool false))), none⟩,
       ⟨(some 38), .mv (.t 37), none⟩,
       ⟨(some 39), .call 13 [], some (38, true)⟩,
       ⟨(some 40), .pick (.t 38) (.t 39) (.c (.d (.bool false))), none⟩,
       ⟨(some 4), .mv (.t 40), none⟩])
     .ret))))
def F9 : VFn := ⟨2, 41, B9, [.tmp 4], false⟩

def A9 : Ann := ⟨keepOf [], ghostOf []⟩
-- 10 patina/lex.Tokens
def K10_0 : List Nat := [0, 3, 5, 6]
def L10_0 : VCode :=
 (.seq (.seq (.reg [⟨(some 24), .mv (.t 6), none⟩,
     ⟨(some 25), .mv (.t 0), none⟩,
     ⟨(some 26), .len true (.t 25), none⟩,
     ⟨(some 27), .bin .lss (.t 24) (.t 26), none⟩])
   (.cond (.t 27)
     .skip
     (.exit 0)))
  (.seq (.block 1 (.seq (.reg [⟨(some 32), .mv (.t 0), none⟩,
       ⟨(some 33), .mv (.t 6), none⟩,
       ⟨(some 34), .slcs (.t 32) (some (.t 33)) none, none⟩,
       ⟨(some 35), .call 25 [(.t 34)], none⟩,
       ⟨(some 31), .mv (.t 35), none⟩,
       ⟨(some 36), .ext (.t 31) 0, none⟩,
       ⟨(some 37), .ext (.t 31) 1, none⟩,
       ⟨(some 38), .ext (.t 31) 2, none⟩,
       ⟨(some 7), .zbox [(.d (.int .i64 0)), (.d (.str [])), (.d (.int .i64 0)), (.d (.int .i64 0)), (.d (.int .i64 0))], none⟩,
       ⟨none, .st 5 (.t 7) (.t 36), none⟩,
       ⟨(some 8), .mv (.t 37), none⟩,
       ⟨(some 9), .mv (.t 38), none⟩])
     (.seq (.seq (.reg [⟨(some 39), .mv (.t 9), none⟩,
         ⟨(some 40), .bin .neq (.t 39) (.c (.d (.int .i64 0))), none⟩])
       (.cond (.t 40)
         (.seq (.reg [⟨(some 41), .mv (.t 9), none⟩,
            ⟨(some 42), .mv (.t 6), none⟩,
            ⟨(some 43), .mv (.t 6), none⟩,
            ⟨(some 44), .mv (.t 8), none⟩,
            ⟨(some 45), .bin .add (.t 43) (.t 44), none⟩,
            ⟨(some 46), .build [(.d (.int .i64 0)), (.d (.int .i64 0)), (.d (.int .i64 0))] [(0, 1, (.t 41)), (1, 1, (.t 42)), (2, 1, (.t 45))], none⟩,
            ⟨(some 2), .mv (.c .nils), none⟩,
            ⟨none, .st 3 (.t 3) (.t 46), none⟩])
          .ret)
         .skip))
      (.seq (.reg [⟨(some 47), .mv (.t 6), none⟩,
         ⟨(some 48), .mv (.t 6), none⟩,
         ⟨(some 49), .mv (.t 8), none⟩,
         ⟨(some 50), .bin .add (.t 48) (.t 49), none⟩,
         ⟨(some 51), .fadr 3 (.t 7), none⟩,
         ⟨none, .st 1 (.t 51) (.t 47), none⟩,
         ⟨(some 52), .fadr 4 (.t 7), none⟩,
         ⟨none, .st 1 (.t 52) (.t 50), none⟩])
       (.seq (.reg [⟨(some 53), .mv (.t 5), none⟩,
          ⟨(some 54), .ld (some 5) (.t 7), none⟩,
          ⟨(some 55), .bslice 5 1 [(.t 54)], none⟩,
          ⟨(some 56), .app 5 48 (.t 53) (.t 55), none⟩,
          ⟨(some 5), .mv (.t 56), none⟩])
        (.reg [⟨(some 57), .mv (.t 6), none⟩,
          ⟨(some 58), .mv (.t 8), none⟩,
          ⟨(some 59), .bin .add (.t 57) (.t 58), none⟩,
          ⟨(some 6), .mv (.t 59), none⟩]))))))
   (.reg [⟨(some 28), .mv (.t 0), none⟩,
     ⟨(some 29), .mv (.t 6), none⟩,
     ⟨(some 30), .call 24 [(.t 28), (.t 29)], none⟩,
     ⟨(some 6), .mv (.t 30), none⟩])))
def B10 : VCode :=
 (.seq (.reg [⟨(some 2), .mv (.c .nils), none⟩,
    ⟨(some 3), .zbox [(.d (.int .i64 0)), (.d (.int .i64 0)), (.d (.int .i64 0))], none⟩])
  (.seq (.seq (.reg [⟨(some 10), .mv (.t 0), none⟩,
      ⟨(some 11), .len true (.t 10), none⟩,
      ⟨(some 12), .bin .gtr (.t 11) (.c (.d (.int .i64 65536))), none⟩])
    (.cond (.t 12)
      (.seq (.reg [⟨(some 13), .build [(.d (.int .i64 0)), (.d (.int .i64 0)), (.d (.int .i64 0))] [(0, 1, (.c (.d (.int .i64 2))))], none⟩,
         ⟨(some 2), .mv (.c .nils), none⟩,
         ⟨none, .st 3 (.t 3) (.t 13), none⟩])
       .ret)
      .skip))
   (.seq (.seq (.reg [⟨(some 14), .mv (.t 0), none⟩,
       ⟨(some 15), .call 23 [(.t 14)], none⟩,
       ⟨(some 4), .mv (.t 15), none⟩])
     (.seq (.reg [⟨(some 16), .mv (.t 4), none⟩,
        ⟨(some 17), .bin .geq (.t 16) (.c (.d (.int .i64 0))), none⟩])
      (.cond (.t 17)
        (.seq (.reg [⟨(some 18), .mv (.t 4), none⟩,
           ⟨(some 19), .mv (.t 4), none⟩,
           ⟨(some 20), .bin .add (.t 19) (.c (.d (.int .i64 1))), none⟩,
           ⟨(some 21), .build [(.d (.int .i64 0)), (.d (.int .i64 0)), (.d (.int .i64 0))] [(0, 1, (.c (.d (.int .i64 110)))), (1, 1, (.t 18)), (2, 1, (.t 20))], none⟩,
           ⟨(some 2), .mv (.c .nils), none⟩,
           ⟨none, .st 3 (.t 3) (.t 21), none⟩])
         .ret)
        .skip)))
    (.seq (.reg [⟨(some 5), .mv (.c .nils), none⟩])
     (.seq (.seq (.seq (.newrow 5 5)
        (.reg [⟨(some 22), .mv (.t 0), none⟩,
          ⟨(some 23), .call 24 [(.t 22), (.c (.d (.int .i64 0)))], none⟩,
          ⟨(some 6), .mv (.t 23), none⟩]))
       (.block 0 (.loop K10_0 L10_0)))
      (.seq (.reg [⟨(some 60), .mv (.t 5), none⟩,
         ⟨(some 61), .mv (.t 0), none⟩,
         ⟨(some 62), .len true (.t 61), none⟩,
         ⟨(some 63), .mv (.t 0), none⟩,
         ⟨(some 64), .len true (.t 63), none⟩,
         ⟨(some 65), .build [(.d (.int .i64 0)), (.d (.str [])), (.d (.int .i64 0)), (.d (.int .i64 0)), (.d (.int .i64 0))] [(0, 1, (.c (.d (.int .i64 5)))), (3, 1, (.t 62)), (4, 1, (.t 64))], none⟩,
         ⟨(some 66), .bslice 5 1 [(.t 65)], none⟩,
         ⟨(some 67), .app 5 48 (.t 60) (.t 66), none⟩,
         ⟨(some 68), .build [(.d (.int .i64 0)), (.d (.int .i64 0)), (.d (.int .i64 0))] [], none⟩,
         ⟨(some 2), .mv (.t 67), none⟩,
         ⟨none, .st 3 (.t 3) (.t 68), none⟩])
       .ret))))))
def F10 : VFn := ⟨1, 69, B10, [.tmp 2, .cell 3 (some 3)], false⟩

def A10 : Ann := ⟨keepOf [(8, [0, 3, 5, 6])], ghostOf [(7, [.newrow 5 5])]⟩
-- 11 patina/patinaref11.Tokens
def K11_0 : List Nat := [0, 3, 5, 6]
def L11_0 : VCode :=
 (.seq (.seq (.reg [⟨(some 25), .mv (.t 6), none⟩,
     ⟨(some 26), .mv (.t 0), none⟩,
     ⟨(some 27), .len true (.t 26), none⟩,
     ⟨(some 28), .bin .lss (.t 25) (.t 27), none⟩])
   (.cond (.t 28)
     .skip
     (.exit 0)))
  (.seq (.block 1 (.seq (.reg [⟨(some 7), .zbox [(.d (.int .i64 0)), (.d (.str [])), (.d (.int .i64 0)), (.d (.int .i64 0)), (.d (.int .i64 0))], none⟩])
     (.seq (.reg [⟨(some 8), .zbox [(.d (.int .i64 0)), (.d (.int .i64 0)), (.d (.int .i64 0))], none⟩])
      (.seq (.reg [⟨(some 32), .mv (.t 0), none⟩,
         ⟨(some 33), .mv (.t 6), none⟩,
         ⟨(some 34), .idx (.t 32) (.t 33), none⟩,
         ⟨(some 35), .bin .eql (.t 34) (.c (.d (.int .u8 95))), none⟩,
         ⟨(some 36), .mv (.t 35), none⟩,
         ⟨(some 37), .mv (.t 0), some (36, true)⟩,
         ⟨(some 38), .mv (.t 6), some (36, true)⟩,
         ⟨(some 39), .call 29 [(.t 37), (.t 38)], some (36, true)⟩,
         ⟨(some 40), .mv (.t 6), some (36, true)⟩,
         ⟨(some 41), .bin .add (.t 40) (.c (.d (.int .i64 1))), some (36, true)⟩,
         ⟨(some 42), .bin .eql (.t 39) (.t 41), some (36, true)⟩,
         ⟨(some 43), .pick (.t 36) (.t 42) (.c (.d (.bool false))), none⟩,
         ⟨(some 9), .mv (.t 43), none⟩])
       (.seq (.block 2 (.seq (.reg [⟨(some 52), .mv (.t 0), none⟩,
            ⟨(some 53), .mv (.t 6), none⟩,
            ⟨(some 54), .idx (.t 52) (.t 53), none⟩,
            ⟨(some 55), .call 30 [(.t 54)], none⟩,
            ⟨(some 51), .mv (.t 55), none⟩])
          (.cond (.t 51)
            (.reg [⟨(some 57), .mv (.t 0), none⟩,
              ⟨(some 58), .mv (.t 6), none⟩,
              ⟨(some 59), .call 31 [(.t 57), (.t 58)], none⟩,
              ⟨(some 56), .mv (.t 59), none⟩,
              ⟨(some 60), .ext (.t 56) 0, none⟩,
              ⟨(some 61), .ext (.t 56) 1, none⟩,
              ⟨none, .st 5 (.t 7) (.t 60), none⟩,
              ⟨none, .st 3 (.t 8) (.t 61), none⟩])
            (.seq (.reg [⟨(some 63), .mv (.t 0), none⟩,
               ⟨(some 64), .mv (.t 6), none⟩,
               ⟨(some 65), .idx (.t 63) (.t 64), none⟩,
               ⟨(some 66), .call 32 [(.t 65)], none⟩,
               ⟨(some 67), .mv (.t 66), none⟩,
               ⟨(some 68), .mv (.t 9), some (67, true)⟩,
               ⟨(some 69), .un .not (.t 68), some (67, true)⟩,
               ⟨(some 70), .pick (.t 67) (.t 69) (.c (.d (.bool false))), none⟩,
               ⟨(some 62), .mv (.t 70), none⟩])
             (.cond (.t 62)
               (.reg [⟨(some 72), .mv (.t 0), none⟩,
                 ⟨(some 73), .mv (.t 6), none⟩,
                 ⟨(some 74), .call 33 [(.t 72), (.t 73)], none⟩,
                 ⟨(some 71), .mv (.t 74), none⟩,
                 ⟨(some 75), .ext (.t 71) 0, none⟩,
                 ⟨(some 76), .ext (.t 71) 1, none⟩,
                 ⟨none, .st 5 (.t 7) (.t 75), none⟩,
                 ⟨none, .st 3 (.t 8) (.t 76), none⟩])
               (.seq (.reg [⟨(some 78), .mv (.t 0), none⟩,
                  ⟨(some 79), .mv (.t 6), none⟩,
                  ⟨(some 80), .call 34 [(.t 78), (.t 79)], none⟩,
                  ⟨(some 81), .bin .neq (.t 80) (.c (.d (.str []))), none⟩,
                  ⟨(some 77), .mv (.t 81), none⟩])
                (.cond (.t 77)
                  (.seq (.reg [⟨(some 82), .mv (.t 0), none⟩,
                     ⟨(some 83), .mv (.t 6), none⟩,
                     ⟨(some 84), .call 34 [(.t 82), (.t 83)], none⟩,
                     ⟨(some 10), .mv (.t 84), none⟩])
                   (.reg [⟨(some 85), .mv (.t 10), none⟩,
                     ⟨(some 86), .mv (.t 6), none⟩,
                     ⟨(some 87), .mv (.t 6), none⟩,
                     ⟨(some 88), .mv (.t 10), none⟩,
                     ⟨(some 89), .len true (.t 88), none⟩,
                     ⟨(some 90), .bin .add (.t 87) (.t 89), none⟩,
                     ⟨(some 91), .build [(.d (.int .i64 0)), (.d (.str [])), (.d (.int .i64 0)), (.d (.int .i64 0)), (.d (.int .i64 0))] [(0, 1, (.c (.d (.int .i64 4)))), (1, 1, (.t 85)), (3, 1, (.t 86)), (4, 1, (.t 90))], none⟩,
                     ⟨none, .st 5 (.t 7) (.t 91), none⟩]))
                  (.reg [⟨(some 44), .mv (.t 6), none⟩,
                    ⟨(some 45), .mv (.t 6), none⟩,
                    ⟨(some 46), .mv (.t 0), none⟩,
                    ⟨(some 47), .mv (.t 6), none⟩,
                    ⟨(some 48), .call 35 [(.t 46), (.t 47)], none⟩,
                    ⟨(some 49), .bin .add (.t 45) (.t 48), none⟩,
                    ⟨(some 50), .call 26 [(.c (.d (.int .i64 111))), (.t 44), (.t 49)], none⟩,
                    ⟨none, .st 3 (.t 8) (.t 50), none⟩]))))))))
        (.seq (.seq (.reg [⟨(some 92), .fadr 0 (.t 8), none⟩,
            ⟨(some 93), .ld none (.t 92), none⟩,
            ⟨(some 94), .bin .neq (.t 93) (.c (.d (.int .i64 0))), none⟩])
          (.cond (.t 94)
            (.seq (.draw 2 [⟨(some 95), .ld (some 3) (.t 8), none⟩,
               ⟨(some 2), .mv (.c .nils), none⟩,
               ⟨none, .st 3 (.t 3) (.t 95), none⟩])
             .ret)
            .skip))
         (.seq (.reg [⟨(some 96), .mv (.t 5), none⟩,
            ⟨(some 97), .ld (some 5) (.t 7), none⟩,
            ⟨(some 98), .bslice 5 1 [(.t 97)], none⟩,
            ⟨(some 99), .app 5 48 (.t 96) (.t 98), none⟩,
            ⟨(some 5), .mv (.t 99), none⟩])
          (.reg [⟨(some 100), .fadr 4 (.t 7), none⟩,
            ⟨(some 101), .ld none (.t 100), none⟩,
            ⟨(some 6), .mv (.t 101), none⟩]))))))))
   (.reg [⟨(some 29), .mv (.t 0), none⟩,
     ⟨(some 30), .mv (.t 6), none⟩,
     ⟨(some 31), .call 28 [(.t 29), (.t 30)], none⟩,
     ⟨(some 6), .mv (.t 31), none⟩])))
def B11 : VCode :=
 (.seq (.reg [⟨(some 2), .mv (.c .nils), none⟩,
    ⟨(some 3), .zbox [(.d (.int .i64 0)), (.d (.int .i64 0)), (.d (.int .i64 0))], none⟩])
  (.seq (.seq (.reg [⟨(some 11), .mv (.t 0), none⟩,
      ⟨(some 12), .len true (.t 11), none⟩,
      ⟨(some 13), .bin .gtr (.t 12) (.c (.d (.int .i64 65536))), none⟩])
    (.cond (.t 13)
      (.seq (.reg [⟨(some 14), .call 26 [(.c (.d (.int .i64 2))), (.c (.d (.int .i64 0))), (.c (.d (.int .i64 0)))], none⟩,
         ⟨(some 2), .mv (.c .nils), none⟩,
         ⟨none, .st 3 (.t 3) (.t 14), none⟩])
       .ret)
      .skip))
   (.seq (.seq (.reg [⟨(some 15), .mv (.t 0), none⟩,
       ⟨(some 16), .call 27 [(.t 15)], none⟩,
       ⟨(some 4), .mv (.t 16), none⟩])
     (.seq (.reg [⟨(some 17), .mv (.t 4), none⟩,
        ⟨(some 18), .bin .geq (.t 17) (.c (.d (.int .i64 0))), none⟩])
      (.cond (.t 18)
        (.seq (.reg [⟨(some 19), .mv (.t 4), none⟩,
           ⟨(some 20), .mv (.t 4), none⟩,
           ⟨(some 21), .bin .add (.t 20) (.c (.d (.int .i64 1))), none⟩,
           ⟨(some 22), .call 26 [(.c (.d (.int .i64 110))), (.t 19), (.t 21)], none⟩,
           ⟨(some 2), .mv (.c .nils), none⟩,
           ⟨none, .st 3 (.t 3) (.t 22), none⟩])
         .ret)
        .skip)))
    (.seq (.reg [⟨(some 5), .mv (.c .nils), none⟩])
     (.seq (.seq (.seq (.newrow 5 5)
        (.reg [⟨(some 23), .mv (.t 0), none⟩,
          ⟨(some 24), .call 28 [(.t 23), (.c (.d (.int .i64 0)))], none⟩,
          ⟨(some 6), .mv (.t 24), none⟩]))
       (.block 0 (.loop K11_0 L11_0)))
      (.seq (.reg [⟨(some 102), .mv (.t 5), none⟩,
         ⟨(some 103), .mv (.t 0), none⟩,
         ⟨(some 104), .len true (.t 103), none⟩,
         ⟨(some 105), .mv (.t 0), none⟩,
         ⟨(some 106), .len true (.t 105), none⟩,
         ⟨(some 107), .build [(.d (.int .i64 0)), (.d (.str [])), (.d (.int .i64 0)), (.d (.int .i64 0)), (.d (.int .i64 0))] [(0, 1, (.c (.d (.int .i64 5)))), (3, 1, (.t 104)), (4, 1, (.t 106))], none⟩,
         ⟨(some 108), .bslice 5 1 [(.t 107)], none⟩,
         ⟨(some 109), .app 5 48 (.t 102) (.t 108), none⟩,
         ⟨(some 110), .build [(.d (.int .i64 0)), (.d (.int .i64 0)), (.d (.int .i64 0))] [], none⟩,
         ⟨(some 2), .mv (.t 109), none⟩,
         ⟨none, .st 3 (.t 3) (.t 110), none⟩])
       .ret))))))
def F11 : VFn := ⟨1, 111, B11, [.tmp 2, .cell 3 (some 3)], false⟩

def A11 : Ann := ⟨keepOf [(8, [0, 3, 5, 6])], ghostOf [(7, [.newrow 5 5])]⟩
-- 12 patina/patinaplain.Tokens
def K12_0 : List Nat := [0, 1, 12, 13]
def L12_0 : VCode :=
 (.seq (.reg [⟨(some 14), .bin .lss (.t 13) (.t 12), none⟩])
  (.seq (.cond (.t 14)
     .skip
     (.exit 0))
   (.seq (.block 1 (.seq (.reg [⟨(some 15), .mv (.t 13), none⟩,
        ⟨(some 5), .mv (.t 15), none⟩])
      (.seq (.draw 8 [⟨(some 16), .mv (.t 0), none⟩,
         ⟨(some 17), .mv (.t 5), none⟩,
         ⟨(some 18), .iadr 5 (.t 16) (.t 17), none⟩,
         ⟨(some 19), .ld (some 5) (.t 18), none⟩,
         ⟨(some 20), .mv (.t 1), none⟩,
         ⟨(some 21), .mv (.t 5), none⟩,
         ⟨(some 22), .iadr 5 (.t 20) (.t 21), none⟩,
         ⟨(some 23), .ld (some 5) (.t 22), none⟩,
         ⟨(some 24), .eqa true [1, 2, 1, 1, 1] (.t 19) (.t 23), none⟩])
       (.cond (.t 24)
         (.seq (.reg [⟨(some 4), .mv (.c (.d (.bool false))), none⟩])
          .ret)
         .skip))))
    (.reg [⟨(some 25), .bin .add (.t 13) (.c (.d (.int .i64 1))), none⟩,
      ⟨(some 13), .mv (.t 25), none⟩]))))
def B12 : VCode :=
 (.seq (.reg [⟨(some 4), .mv (.c (.d (.bool false))), none⟩])
  (.seq (.seq (.reg [⟨(some 6), .mv (.t 0), none⟩,
      ⟨(some 7), .len false (.t 6), none⟩,
      ⟨(some 8), .mv (.t 1), none⟩,
      ⟨(some 9), .len false (.t 8), none⟩,
      ⟨(some 10), .bin .neq (.t 7) (.t 9), none⟩])
    (.cond (.t 10)
      (.seq (.reg [⟨(some 4), .mv (.c (.d (.bool false))), none⟩])
       .ret)
      .skip))
   (.seq (.seq (.reg [⟨(some 11), .mv (.t 0), none⟩,
       ⟨(some 12), .len false (.t 11), none⟩,
       ⟨(some 13), .mv (.c (.d (.int .i64 0))), none⟩])
     (.block 0 (.loop K12_0 L12_0)))
    (.seq (.reg [⟨(some 4), .mv (.c (.d (.bool true))), none⟩])
     .ret))))
def F12 : VFn := ⟨2, 26, B12, [.tmp 4], false⟩

def A12 : Ann := ⟨keepOf [(4, [0, 1, 12, 13])], ghostOf []⟩
-- 13 patina/patinalaw11.small
def B13 : VCode :=
 (.seq (.reg [⟨(some 0), .mv (.c (.d (.bool false))), none⟩])
  (.seq (.reg [⟨(some 6), .call 10 [(.c (.d (.str [108, 101, 116, 32, 120, 61, 49, 50, 59, 47, 47, 32, 97])))], none⟩,
     ⟨(some 5), .mv (.t 6), none⟩,
     ⟨(some 7), .ext (.t 5) 0, none⟩,
     ⟨(some 8), .ext (.t 5) 1, none⟩,
     ⟨(some 2), .zbox [(.d (.int .i64 0)), (.d (.int .i64 0)), (.d (.int .i64 0))], none⟩,
     ⟨(some 1), .mv (.t 7), none⟩,
     ⟨none, .st 3 (.t 2) (.t 8), none⟩])
   (.seq (.reg [⟨(some 10), .call 10 [(.c (.d (.str [49, 97])))], none⟩,
      ⟨(some 9), .mv (.t 10), none⟩,
      ⟨(some 11), .ext (.t 9) 0, none⟩,
      ⟨(some 12), .ext (.t 9) 1, none⟩,
      ⟨(some 4), .zbox [(.d (.int .i64 0)), (.d (.int .i64 0)), (.d (.int .i64 0))], none⟩,
      ⟨(some 3), .mv (.t 11), none⟩,
      ⟨none, .st 3 (.t 4) (.t 12), none⟩])
    (.seq (.reg [⟨(some 13), .ld (some 3) (.t 2), none⟩,
       ⟨(some 14), .build [(.d (.int .i64 0)), (.d (.int .i64 0)), (.d (.int .i64 0))] [], none⟩,
       ⟨(some 15), .eqa false [1, 1, 1] (.t 13) (.t 14), none⟩,
       ⟨(some 16), .mv (.t 15), none⟩,
       ⟨(some 17), .mv (.t 1), some (16, true)⟩,
       ⟨(some 18), .len false (.t 17), some (16, true)⟩,
       ⟨(some 19), .bin .eql (.t 18) (.c (.d (.int .i64 6))), some (16, true)⟩,
       ⟨(some 20), .pick (.t 16) (.t 19) (.c (.d (.bool false))), none⟩,
       ⟨(some 21), .mv (.t 20), none⟩,
       ⟨(some 22), .mv (.t 1), some (21, true)⟩,
       ⟨(some 23), .iadr 5 (.t 22) (.c (.d (.int .i64 3))), some (21, true)⟩,
       ⟨(some 24), .fadr 2 (.t 23), some (21, true)⟩,
       ⟨(some 25), .ld none (.t 24), some (21, true)⟩,
       ⟨(some 26), .bin .eql (.t 25) (.c (.d (.int .i64 12))), some (21, true)⟩,
       ⟨(some 27), .pick (.t 21) (.t 26) (.c (.d (.bool false))), none⟩,
       ⟨(some 28), .mv (.t 27), none⟩,
       ⟨(some 29), .mv (.t 1), some (28, true)⟩,
       ⟨(some 30), .iadr 5 (.t 29) (.c (.d (.int .i64 5))), some (28, true)⟩,
       ⟨(some 31), .fadr 3 (.t 30), some (28, true)⟩,
       ⟨(some 32), .ld none (.t 31), some (28, true)⟩,
       ⟨(some 33), .bin .eql (.t 32) (.c (.d (.int .i64 13))), some (28, true)⟩,
       ⟨(some 34), .pick (.t 28) (.t 33) (.c (.d (.bool false))), none⟩,
       ⟨(some 35), .mv (.t 34), none⟩,
       ⟨(some 36), .ld (some 3) (.t 4), some (35, true)⟩,
       ⟨(some 37), .build [(.d (.int .i64 0)), (.d (.int .i64 0)), (.d (.int .i64 0))] [(0, 1, (.c (.d (.int .i64 112)))), (1, 1, (.c (.d (.int .i64 0)))), (2, 1, (.c (.d (.int .i64 2))))], some (35, true)⟩,
       ⟨(some 38), .eqa false [1, 1, 1] (.t 36) (.t 37), some (35, true)⟩,
       ⟨(some 39), .pick (.t 35) (.t 38) (.c (.d (.bool false))), none⟩,
       ⟨(some 40), .mv (.t 39), none⟩,
       ⟨(some 41), .call 14 [(.c (.d (.str [102, 110])))], some (40, true)⟩,
       ⟨(some 42), .pick (.t 40) (.t 41) (.c (.d (.bool false))), none⟩,
       ⟨(some 43), .mv (.t 42), none⟩,
       ⟨(some 44), .call 16 [(.c (.d (.str [102, 109])))], some (43, true)⟩,
       ⟨(some 45), .pick (.t 43) (.t 44) (.c (.d (.bool false))), none⟩,
       ⟨(some 0), .mv (.t 45), none⟩])
     .ret))))
def F13 : VFn := ⟨0, 46, B13, [.tmp 0], false⟩

def A13 : Ann := ⟨keepOf [], ghostOf []⟩
-- 14 patina/lex.Word
def B14 : VCode :=
 (.seq (.reg [⟨(some 2), .mv (.c (.d (.bool false))), none⟩])
  (.seq (.seq (.reg [⟨(some 3), .mv (.t 0), none⟩])
    (.block 0 (.seq (.block 2 (.block 1 (.seq (.seq (.seq (.seq (.reg [⟨(some 5), .bin .eql (.t 3) (.c (.d (.str [102, 110]))), none⟩,
              ⟨(some 4), .mv (.t 5), none⟩])
            (.cond (.t 4)
              .skip
              (.seq (.reg [⟨(some 6), .bin .eql (.t 3) (.c (.d (.str [115, 116, 114, 117, 99, 116]))), none⟩,
                 ⟨(some 4), .mv (.t 6), none⟩])
               (.cond (.t 4)
                 .skip
                 (.seq (.reg [⟨(some 7), .bin .eql (.t 3) (.c (.d (.str [101, 110, 117, 109]))), none⟩,
                    ⟨(some 4), .mv (.t 7), none⟩])
                  (.cond (.t 4)
                    .skip
                    (.seq (.reg [⟨(some 8), .bin .eql (.t 3) (.c (.d (.str [108, 101, 116]))), none⟩,
                       ⟨(some 4), .mv (.t 8), none⟩])
                     (.cond (.t 4)
                       .skip
                       (.seq (.reg [⟨(some 9), .bin .eql (.t 3) (.c (.d (.str [109, 117, 116]))), none⟩,
                          ⟨(some 4), .mv (.t 9), none⟩])
                        (.cond (.t 4)
                          .skip
                          (.seq (.reg [⟨(some 10), .bin .eql (.t 3) (.c (.d (.str [119, 104, 105, 108, 101]))), none⟩,
                             ⟨(some 4), .mv (.t 10), none⟩])
                           (.cond (.t 4)
                             .skip
                             (.seq (.reg [⟨(some 11), .bin .eql (.t 3) (.c (.d (.str [105, 102]))), none⟩,
                                ⟨(some 4), .mv (.t 11), none⟩])
                              (.cond (.t 4)
                                .skip
                                (.seq (.reg [⟨(some 12), .bin .eql (.t 3) (.c (.d (.str [101, 108, 115, 101]))), none⟩,
                                   ⟨(some 4), .mv (.t 12), none⟩])
                                 (.cond (.t 4)
                                   .skip
                                   (.reg [⟨(some 13), .bin .eql (.t 3) (.c (.d (.str [109, 97, 116, 99, 104]))), none⟩,
                                     ⟨(some 4), .mv (.t 13), none⟩])))))))))))))))))
           (.cond (.t 4)
             (.exit 1)
             .skip))
          (.seq (.seq (.reg [⟨(some 15), .bin .eql (.t 3) (.c (.d (.str [114, 101, 116, 117, 114, 110]))), none⟩,
              ⟨(some 14), .mv (.t 15), none⟩])
            (.cond (.t 14)
              .skip
              (.seq (.reg [⟨(some 16), .bin .eql (.t 3) (.c (.d (.str [98, 114, 101, 97, 107]))), none⟩,
                 ⟨(some 14), .mv (.t 16), none⟩])
               (.cond (.t 14)
                 .skip
                 (.seq (.reg [⟨(some 17), .bin .eql (.t 3) (.c (.d (.str [99, 111, 110, 116, 105, 110, 117, 101]))), none⟩,
                    ⟨(some 14), .mv (.t 17), none⟩])
                  (.cond (.t 14)
                    .skip
                    (.seq (.reg [⟨(some 18), .bin .eql (.t 3) (.c (.d (.str [116, 114, 117, 101]))), none⟩,
                       ⟨(some 14), .mv (.t 18), none⟩])
                     (.cond (.t 14)
                       .skip
                       (.seq (.reg [⟨(some 19), .bin .eql (.t 3) (.c (.d (.str [102, 97, 108, 115, 101]))), none⟩,
                          ⟨(some 14), .mv (.t 19), none⟩])
                        (.cond (.t 14)
                          .skip
                          (.seq (.reg [⟨(some 20), .bin .eql (.t 3) (.c (.d (.str [105, 54, 52]))), none⟩,
                             ⟨(some 14), .mv (.t 20), none⟩])
                           (.cond (.t 14)
                             .skip
                             (.seq (.reg [⟨(some 21), .bin .eql (.t 3) (.c (.d (.str [98, 111, 111, 108]))), none⟩,
                                ⟨(some 14), .mv (.t 21), none⟩])
                              (.cond (.t 14)
                                .skip
                                (.reg [⟨(some 22), .bin .eql (.t 3) (.c (.d (.str [66, 111, 120]))), none⟩,
                                  ⟨(some 14), .mv (.t 22), none⟩])))))))))))))))
           (.cond (.t 14)
             (.exit 2)
             .skip)))
         (.exit 0))))
      (.seq (.seq (.reg [⟨(some 2), .mv (.c (.d (.bool true))), none⟩])
        .ret)
       (.exit 0)))))
   (.seq (.reg [⟨(some 2), .mv (.c (.d (.bool false))), none⟩])
    .ret)))
def F14 : VFn := ⟨1, 23, B14, [.tmp 2], false⟩

def A14 : Ann := ⟨keepOf [], ghostOf []⟩
-- 15 patina/patinaref11.Word
def K15_0 : List Nat := [0, 5, 6, 7]
def L15_0 : VCode :=
 (.seq (.reg [⟨(some 8), .bin .lss (.t 7) (.t 6), none⟩])
  (.seq (.cond (.t 8)
     .skip
     (.exit 0))
   (.seq (.block 1 (.seq (.reg [⟨(some 9), .iadr 1 (.t 5) (.t 7), none⟩,
        ⟨(some 10), .ld none (.t 9), none⟩,
        ⟨(some 4), .mv (.t 10), none⟩])
      (.seq (.reg [⟨(some 11), .mv (.t 0), none⟩,
         ⟨(some 12), .mv (.t 4), none⟩,
         ⟨(some 13), .bin .eql (.t 11) (.t 12), none⟩])
       (.cond (.t 13)
         (.seq (.reg [⟨(some 2), .mv (.c (.d (.bool true))), none⟩])
          .ret)
         .skip))))
    (.reg [⟨(some 14), .bin .add (.t 7) (.c (.d (.int .i64 1))), none⟩,
      ⟨(some 7), .mv (.t 14), none⟩]))))
def B15 : VCode :=
 (.seq (.reg [⟨(some 2), .mv (.c (.d (.bool false))), none⟩])
  (.seq (.seq (.reg [⟨(some 5), .bslice 1 17 [(.c (.d (.str [102, 110]))), (.c (.d (.str [115, 116, 114, 117, 99, 116]))), (.c (.d (.str [101, 110, 117, 109]))), (.c (.d (.str [108, 101, 116]))), (.c (.d (.str [109, 117, 116]))), (.c (.d (.str [119, 104, 105, 108, 101]))), (.c (.d (.str [105, 102]))), (.c (.d (.str [101, 108, 115, 101]))), (.c (.d (.str [109, 97, 116, 99, 104]))), (.c (.d (.str [114, 101, 116, 117, 114, 110]))), (.c (.d (.str [98, 114, 101, 97, 107]))), (.c (.d (.str [99, 111, 110, 116, 105, 110, 117, 101]))), (.c (.d (.str [116, 114, 117, 101]))), (.c (.d (.str [102, 97, 108, 115, 101]))), (.c (.d (.str [105, 54, 52]))), (.c (.d (.str [98, 111, 111, 108]))), (.c (.d (.str [66, 111, 120])))], none⟩,
      ⟨(some 6), .len false (.t 5), none⟩,
      ⟨(some 7), .mv (.c (.d (.int .i64 0))), none⟩])
    (.block 0 (.loop K15_0 L15_0)))
   (.seq (.reg [⟨(some 2), .mv (.c (.d (.bool false))), none⟩])
    .ret)))
def F15 : VFn := ⟨1, 15, B15, [.tmp 2], false⟩

def A15 : Ann := ⟨keepOf [(2, [0, 5, 6, 7])], ghostOf []⟩
-- 16 patina/lex.Name
def B16 : VCode :=
 (.seq (.reg [⟨(some 2), .mv (.c (.d (.bool false))), none⟩])
  (.seq (.reg [⟨(some 3), .mv (.t 0), none⟩,
     ⟨(some 4), .call 36 [(.t 3)], none⟩,
     ⟨(some 5), .mv (.t 4), none⟩,
     ⟨(some 6), .mv (.t 0), some (5, true)⟩,
     ⟨(some 7), .len true (.t 6), some (5, true)⟩,
     ⟨(some 8), .bin .leq (.t 7) (.c (.d (.int .i64 64))), some (5, true)⟩,
     ⟨(some 9), .pick (.t 5) (.t 8) (.c (.d (.bool false))), none⟩,
     ⟨(some 10), .mv (.t 9), none⟩,
     ⟨(some 11), .mv (.t 0), some (10, true)⟩,
     ⟨(some 12), .call 14 [(.t 11)], some (10, true)⟩,
     ⟨(some 13), .un .not (.t 12), some (10, true)⟩,
     ⟨(some 14), .pick (.t 10) (.t 13) (.c (.d (.bool false))), none⟩,
     ⟨(some 2), .mv (.t 14), none⟩])
   .ret))
def F16 : VFn := ⟨1, 15, B16, [.tmp 2], false⟩

def A16 : Ann := ⟨keepOf [], ghostOf []⟩
-- 17 patina/patinaref11.Name
def B17 : VCode :=
 (.seq (.reg [⟨(some 2), .mv (.c (.d (.bool false))), none⟩])
  (.seq (.reg [⟨(some 3), .mv (.t 0), none⟩,
     ⟨(some 4), .call 37 [(.t 3)], none⟩,
     ⟨(some 5), .mv (.t 4), none⟩,
     ⟨(some 6), .mv (.t 0), some (5, true)⟩,
     ⟨(some 7), .len true (.t 6), some (5, true)⟩,
     ⟨(some 8), .bin .leq (.t 7) (.c (.d (.int .i64 64))), some (5, true)⟩,
     ⟨(some 9), .pick (.t 5) (.t 8) (.c (.d (.bool false))), none⟩,
     ⟨(some 10), .mv (.t 9), none⟩,
     ⟨(some 11), .mv (.t 0), some (10, true)⟩,
     ⟨(some 12), .call 15 [(.t 11)], some (10, true)⟩,
     ⟨(some 13), .un .not (.t 12), some (10, true)⟩,
     ⟨(some 14), .pick (.t 10) (.t 13) (.c (.d (.bool false))), none⟩,
     ⟨(some 2), .mv (.t 14), none⟩])
   .ret))
def F17 : VFn := ⟨1, 15, B17, [.tmp 2], false⟩

def A17 : Ann := ⟨keepOf [], ghostOf []⟩
-- 18 patina/patinalaw11.plain
def B18 : VCode :=
 (.seq (.reg [⟨(some 1), .box (.t 0), none⟩,
    ⟨(some 2), .zbox [(.d (.int .i64 0)), (.d (.str [])), (.d (.int .i64 0)), (.d (.int .i64 0)), (.d (.int .i64 0))], none⟩])
  (.seq (.reg [⟨(some 3), .fadr 3 (.t 1), none⟩,
     ⟨none, .st 1 (.t 3) (.c (.d (.int .i64 0))), none⟩])
   (.seq (.reg [⟨(some 4), .fadr 4 (.t 1), none⟩,
      ⟨none, .st 1 (.t 4) (.c (.d (.int .i64 0))), none⟩])
    (.seq (.seq (.reg [⟨(some 5), .fadr 0 (.t 1), none⟩,
        ⟨(some 6), .ld none (.t 5), none⟩,
        ⟨(some 7), .bin .neq (.t 6) (.c (.d (.int .i64 3))), none⟩])
      (.cond (.t 7)
        (.reg [⟨(some 8), .fadr 2 (.t 1), none⟩,
          ⟨none, .st 1 (.t 8) (.c (.d (.int .i64 0))), none⟩])
        .skip))
     (.seq (.reg [⟨(some 9), .ld (some 5) (.t 1), none⟩,
        ⟨none, .st 5 (.t 2) (.t 9), none⟩])
      .ret)))))
def F18 : VFn := ⟨1, 10, B18, [.cell 2 (some 5)], false⟩

def A18 : Ann := ⟨keepOf [], ghostOf []⟩
-- 19 patina/lex.Print
def K19_0 : List Nat := [4, 10, 11, 12]
def L19_0 : VCode :=
 (.seq (.reg [⟨(some 13), .bin .lss (.t 12) (.t 11), none⟩])
  (.seq (.cond (.t 13)
     .skip
     (.exit 0))
   (.seq (.block 1 (.seq (.reg [⟨(some 14), .iadr 5 (.t 10) (.t 12), none⟩,
        ⟨(some 15), .ld (some 5) (.t 14), none⟩,
        ⟨(some 6), .zbox [(.d (.int .i64 0)), (.d (.str [])), (.d (.int .i64 0)), (.d (.int .i64 0)), (.d (.int .i64 0))], none⟩,
        ⟨none, .st 5 (.t 6) (.t 15), none⟩])
      (.seq (.seq (.reg [⟨(some 16), .ld (some 5) (.t 6), none⟩,
          ⟨(some 17), .call 38 [(.t 16)], none⟩,
          ⟨(some 18), .un .not (.t 17), none⟩])
        (.cond (.t 18)
          (.seq (.reg [⟨(some 2), .mv (.c (.d (.str []))), none⟩,
             ⟨(some 3), .mv (.c (.d (.int .i64 8))), none⟩])
           .ret)
          .skip))
       (.seq (.reg [⟨(some 19), .fadr 0 (.t 6), none⟩,
          ⟨(some 20), .ld none (.t 19), none⟩,
          ⟨(some 21), .bin .neq (.t 20) (.c (.d (.int .i64 5))), none⟩])
        (.cond (.t 21)
          (.reg [⟨(some 22), .mv (.t 4), none⟩,
            ⟨(some 23), .fadr 1 (.t 6), none⟩,
            ⟨(some 24), .ld none (.t 23), none⟩,
            ⟨(some 25), .bslice 1 1 [(.t 24)], none⟩,
            ⟨(some 26), .app 1 16 (.t 22) (.t 25), none⟩,
            ⟨(some 4), .mv (.t 26), none⟩])
          .skip)))))
    (.reg [⟨(some 27), .bin .add (.t 12) (.c (.d (.int .i64 1))), none⟩,
      ⟨(some 12), .mv (.t 27), none⟩]))))
def B19 : VCode :=
 (.seq (.reg [⟨(some 2), .mv (.c (.d (.str []))), none⟩,
    ⟨(some 3), .mv (.c (.d (.int .i64 0))), none⟩])
  (.seq (.seq (.reg [⟨(some 7), .mv (.t 0), none⟩,
      ⟨(some 8), .len false (.t 7), none⟩,
      ⟨(some 9), .bin .gtr (.t 8) (.c (.d (.int .i64 65536))), none⟩])
    (.cond (.t 9)
      (.seq (.reg [⟨(some 2), .mv (.c (.d (.str []))), none⟩,
         ⟨(some 3), .mv (.c (.d (.int .i64 2))), none⟩])
       .ret)
      .skip))
   (.seq (.reg [⟨(some 4), .mv (.c .nils), none⟩])
    (.seq (.seq (.seq (.newrow 1 4)
       (.reg [⟨(some 10), .mv (.t 0), none⟩,
         ⟨(some 11), .len false (.t 10), none⟩,
         ⟨(some 12), .mv (.c (.d (.int .i64 0))), none⟩]))
      (.block 0 (.loop K19_0 L19_0)))
     (.seq (.reg [⟨(some 28), .mv (.t 4), none⟩,
        ⟨(some 29), .call 39 [(.t 28), (.c (.d (.str [32])))], none⟩,
        ⟨(some 2), .mv (.t 29), none⟩,
        ⟨(some 3), .mv (.c (.d (.int .i64 0))), none⟩])
      .ret)))))
def F19 : VFn := ⟨1, 30, B19, [.tmp 2, .tmp 3], false⟩

def A19 : Ann := ⟨keepOf [(5, [4, 10, 11, 12])], ghostOf [(4, [.newrow 1 4])]⟩
-- 20 patina/patinaref11.Print
def K20_0 : List Nat := [4, 10, 11, 12]
def L20_0 : VCode :=
 (.seq (.reg [⟨(some 13), .bin .lss (.t 12) (.t 11), none⟩])
  (.seq (.cond (.t 13)
     .skip
     (.exit 0))
   (.seq (.block 1 (.seq (.reg [⟨(some 14), .iadr 5 (.t 10) (.t 12), none⟩,
        ⟨(some 15), .ld (some 5) (.t 14), none⟩,
        ⟨(some 6), .zbox [(.d (.int .i64 0)), (.d (.str [])), (.d (.int .i64 0)), (.d (.int .i64 0)), (.d (.int .i64 0))], none⟩,
        ⟨none, .st 5 (.t 6) (.t 15), none⟩])
      (.seq (.seq (.reg [⟨(some 16), .ld (some 5) (.t 6), none⟩,
          ⟨(some 17), .call 40 [(.t 16)], none⟩,
          ⟨(some 18), .un .not (.t 17), none⟩,
          ⟨(some 19), .mv (.t 18), none⟩,
          ⟨(some 20), .fadr 0 (.t 6), some (19, false)⟩,
          ⟨(some 21), .ld none (.t 20), some (19, false)⟩,
          ⟨(some 22), .bin .eql (.t 21) (.c (.d (.int .i64 5))), some (19, false)⟩,
          ⟨(some 23), .mv (.t 22), some (19, false)⟩,
          ⟨(some 24), .fadr 1 (.t 6), some (23, true)⟩,
          ⟨(some 25), .ld none (.t 24), some (23, true)⟩,
          ⟨(some 26), .bin .neq (.t 25) (.c (.d (.str []))), some (23, true)⟩,
          ⟨(some 27), .pick (.t 23) (.t 26) (.c (.d (.bool false))), some (19, false)⟩,
          ⟨(some 28), .pick (.t 19) (.c (.d (.bool true))) (.t 27), none⟩])
        (.cond (.t 28)
          (.seq (.reg [⟨(some 2), .mv (.c (.d (.str []))), none⟩,
             ⟨(some 3), .mv (.c (.d (.int .i64 8))), none⟩])
           .ret)
          .skip))
       (.seq (.seq (.reg [⟨(some 29), .fadr 0 (.t 6), none⟩,
           ⟨(some 30), .ld none (.t 29), none⟩,
           ⟨(some 31), .bin .eql (.t 30) (.c (.d (.int .i64 5))), none⟩])
         (.cond (.t 31)
           (.exit 1)
           .skip))
        (.seq (.seq (.reg [⟨(some 32), .mv (.t 4), none⟩,
            ⟨(some 33), .bin .neq (.t 32) (.c (.d (.str []))), none⟩])
          (.cond (.t 33)
            (.reg [⟨(some 34), .mv (.t 4), none⟩,
              ⟨(some 35), .bin .add (.t 34) (.c (.d (.str [32]))), none⟩,
              ⟨(some 4), .mv (.t 35), none⟩])
            .skip))
         (.reg [⟨(some 36), .mv (.t 4), none⟩,
           ⟨(some 37), .fadr 1 (.t 6), none⟩,
           ⟨(some 38), .ld none (.t 37), none⟩,
           ⟨(some 39), .bin .add (.t 36) (.t 38), none⟩,
           ⟨(some 4), .mv (.t 39), none⟩]))))))
    (.reg [⟨(some 40), .bin .add (.t 12) (.c (.d (.int .i64 1))), none⟩,
      ⟨(some 12), .mv (.t 40), none⟩]))))
def B20 : VCode :=
 (.seq (.reg [⟨(some 2), .mv (.c (.d (.str []))), none⟩,
    ⟨(some 3), .mv (.c (.d (.int .i64 0))), none⟩])
  (.seq (.seq (.reg [⟨(some 7), .mv (.t 0), none⟩,
      ⟨(some 8), .len false (.t 7), none⟩,
      ⟨(some 9), .bin .gtr (.t 8) (.c (.d (.int .i64 65536))), none⟩])
    (.cond (.t 9)
      (.seq (.reg [⟨(some 2), .mv (.c (.d (.str []))), none⟩,
         ⟨(some 3), .mv (.c (.d (.int .i64 2))), none⟩])
       .ret)
      .skip))
   (.seq (.reg [⟨(some 4), .mv (.c (.d (.str []))), none⟩])
    (.seq (.seq (.reg [⟨(some 10), .mv (.t 0), none⟩,
        ⟨(some 11), .len false (.t 10), none⟩,
        ⟨(some 12), .mv (.c (.d (.int .i64 0))), none⟩])
      (.block 0 (.loop K20_0 L20_0)))
     (.seq (.reg [⟨(some 41), .mv (.t 4), none⟩,
        ⟨(some 2), .mv (.t 41), none⟩,
        ⟨(some 3), .mv (.c (.d (.int .i64 0))), none⟩])
      .ret)))))
def F20 : VFn := ⟨1, 42, B20, [.tmp 2, .tmp 3], false⟩

def A20 : Ann := ⟨keepOf [(5, [4, 10, 11, 12])], ghostOf []⟩
-- 21 patina/lex.Place
def B21 : VCode :=
 (.seq (.reg [⟨(some 4), .mv (.c (.d (.int .i64 0))), none⟩,
    ⟨(some 5), .mv (.c (.d (.int .i64 0))), none⟩,
    ⟨(some 6), .mv (.c (.d (.int .i64 0))), none⟩])
  (.seq (.seq (.reg [⟨(some 8), .mv (.t 0), none⟩,
      ⟨(some 9), .len true (.t 8), none⟩,
      ⟨(some 10), .bin .gtr (.t 9) (.c (.d (.int .i64 65536))), none⟩])
    (.cond (.t 10)
      (.seq (.reg [⟨(some 4), .mv (.c (.d (.int .i64 0))), none⟩,
         ⟨(some 5), .mv (.c (.d (.int .i64 0))), none⟩,
         ⟨(some 6), .mv (.c (.d (.int .i64 2))), none⟩])
       .ret)
      .skip))
   (.seq (.seq (.reg [⟨(some 11), .mv (.t 1), none⟩,
       ⟨(some 12), .bin .lss (.t 11) (.c (.d (.int .i64 0))), none⟩,
       ⟨(some 13), .mv (.t 12), none⟩,
       ⟨(some 14), .mv (.t 1), some (13, false)⟩,
       ⟨(some 15), .mv (.t 0), some (13, false)⟩,
       ⟨(some 16), .len true (.t 15), some (13, false)⟩,
       ⟨(some 17), .bin .gtr (.t 14) (.t 16), some (13, false)⟩,
       ⟨(some 18), .pick (.t 13) (.c (.d (.bool true))) (.t 17), none⟩])
     (.cond (.t 18)
       (.seq (.reg [⟨(some 4), .mv (.c (.d (.int .i64 0))), none⟩,
          ⟨(some 5), .mv (.c (.d (.int .i64 0))), none⟩,
          ⟨(some 6), .mv (.c (.d (.int .i64 1))), none⟩])
        .ret)
       .skip))
    (.seq (.reg [⟨(some 19), .mv (.t 0), none⟩,
       ⟨(some 20), .mv (.t 1), none⟩,
       ⟨(some 21), .slcs (.t 19) none (some (.t 20)), none⟩,
       ⟨(some 7), .mv (.t 21), none⟩])
     (.seq (.reg [⟨(some 22), .mv (.t 7), none⟩,
        ⟨(some 23), .call 41 [(.t 22), (.c (.d (.str [10])))], none⟩,
        ⟨(some 24), .bin .add (.c (.d (.int .i64 1))) (.t 23), none⟩,
        ⟨(some 25), .mv (.t 1), none⟩,
        ⟨(some 26), .mv (.t 7), none⟩,
        ⟨(some 27), .call 42 [(.t 26), (.c (.d (.int .u8 10)))], none⟩,
        ⟨(some 28), .bin .sub (.t 25) (.t 27), none⟩,
        ⟨(some 4), .mv (.t 24), none⟩,
        ⟨(some 5), .mv (.t 28), none⟩,
        ⟨(some 6), .mv (.c (.d (.int .i64 0))), none⟩])
      .ret)))))
def F21 : VFn := ⟨2, 29, B21, [.tmp 4, .tmp 5, .tmp 6], false⟩

def A21 : Ann := ⟨keepOf [], ghostOf []⟩
-- 22 patina/patinaref11.Place
def K22_0 : List Nat := [0, 1, 7, 8, 9]
def L22_0 : VCode :=
 (.seq (.seq (.reg [⟨(some 21), .mv (.t 9), none⟩,
     ⟨(some 22), .mv (.t 1), none⟩,
     ⟨(some 23), .bin .lss (.t 21) (.t 22), none⟩])
   (.cond (.t 23)
     .skip
     (.exit 0)))
  (.seq (.block 1 (.seq (.reg [⟨(some 26), .mv (.t 8), none⟩,
       ⟨(some 27), .bin .add (.t 26) (.c (.d (.int .i64 1))), none⟩,
       ⟨(some 8), .mv (.t 27), none⟩])
     (.seq (.reg [⟨(some 28), .mv (.t 0), none⟩,
        ⟨(some 29), .mv (.t 9), none⟩,
        ⟨(some 30), .idx (.t 28) (.t 29), none⟩,
        ⟨(some 31), .bin .eql (.t 30) (.c (.d (.int .u8 10))), none⟩])
      (.cond (.t 31)
        (.seq (.reg [⟨(some 32), .mv (.t 7), none⟩,
           ⟨(some 33), .bin .add (.t 32) (.c (.d (.int .i64 1))), none⟩,
           ⟨(some 7), .mv (.t 33), none⟩])
         (.reg [⟨(some 8), .mv (.c (.d (.int .i64 1))), none⟩]))
        .skip))))
   (.reg [⟨(some 24), .mv (.t 9), none⟩,
     ⟨(some 25), .bin .add (.t 24) (.c (.d (.int .i64 1))), none⟩,
     ⟨(some 9), .mv (.t 25), none⟩])))
def B22 : VCode :=
 (.seq (.reg [⟨(some 4), .mv (.c (.d (.int .i64 0))), none⟩,
    ⟨(some 5), .mv (.c (.d (.int .i64 0))), none⟩,
    ⟨(some 6), .mv (.c (.d (.int .i64 0))), none⟩])
  (.seq (.seq (.reg [⟨(some 10), .mv (.t 0), none⟩,
      ⟨(some 11), .len true (.t 10), none⟩,
      ⟨(some 12), .bin .gtr (.t 11) (.c (.d (.int .i64 65536))), none⟩])
    (.cond (.t 12)
      (.seq (.reg [⟨(some 4), .mv (.c (.d (.int .i64 0))), none⟩,
         ⟨(some 5), .mv (.c (.d (.int .i64 0))), none⟩,
         ⟨(some 6), .mv (.c (.d (.int .i64 2))), none⟩])
       .ret)
      .skip))
   (.seq (.seq (.reg [⟨(some 13), .mv (.t 1), none⟩,
       ⟨(some 14), .bin .lss (.t 13) (.c (.d (.int .i64 0))), none⟩,
       ⟨(some 15), .mv (.t 14), none⟩,
       ⟨(some 16), .mv (.t 1), some (15, false)⟩,
       ⟨(some 17), .mv (.t 0), some (15, false)⟩,
       ⟨(some 18), .len true (.t 17), some (15, false)⟩,
       ⟨(some 19), .bin .gtr (.t 16) (.t 18), some (15, false)⟩,
       ⟨(some 20), .pick (.t 15) (.c (.d (.bool true))) (.t 19), none⟩])
     (.cond (.t 20)
       (.seq (.reg [⟨(some 4), .mv (.c (.d (.int .i64 0))), none⟩,
          ⟨(some 5), .mv (.c (.d (.int .i64 0))), none⟩,
          ⟨(some 6), .mv (.c (.d (.int .i64 1))), none⟩])
        .ret)
       .skip))
    (.seq (.reg [⟨(some 7), .mv (.c (.d (.int .i64 1))), none⟩])
     (.seq (.reg [⟨(some 8), .mv (.c (.d (.int .i64 1))), none⟩])
      (.seq (.seq (.reg [⟨(some 9), .mv (.c (.d (.int .i64 0))), none⟩])
        (.block 0 (.loop K22_0 L22_0)))
       (.seq (.reg [⟨(some 34), .mv (.t 7), none⟩,
          ⟨(some 35), .mv (.t 8), none⟩,
          ⟨(some 4), .mv (.t 34), none⟩,
          ⟨(some 5), .mv (.t 35), none⟩,
          ⟨(some 6), .mv (.c (.d (.int .i64 0))), none⟩])
        .ret)))))))
def F22 : VFn := ⟨2, 36, B22, [.tmp 4, .tmp 5, .tmp 6], false⟩

def A22 : Ann := ⟨keepOf [(8, [0, 1, 7, 8, 9])], ghostOf []⟩
-- 24 patina/lex.skip
def K24_0 : List Nat := [0, 1]
def L24_0 : VCode :=
 (.seq (.seq (.reg [⟨(some 6), .mv (.t 1), none⟩,
     ⟨(some 7), .mv (.t 0), none⟩,
     ⟨(some 8), .len true (.t 7), none⟩,
     ⟨(some 9), .bin .lss (.t 6) (.t 8), none⟩])
   (.cond (.t 9)
     .skip
     (.exit 0)))
  (.block 1 (.seq (.block 2 (.seq (.reg [⟨(some 11), .mv (.t 0), none⟩,
        ⟨(some 12), .mv (.t 1), none⟩,
        ⟨(some 13), .idx (.t 11) (.t 12), none⟩,
        ⟨(some 14), .call 44 [(.c (.d (.str [32, 9, 10, 13]))), (.t 13)], none⟩,
        ⟨(some 15), .bin .geq (.t 14) (.c (.d (.int .i64 0))), none⟩,
        ⟨(some 10), .mv (.t 15), none⟩])
      (.cond (.t 10)
        (.seq (.reg [⟨(some 16), .mv (.t 1), none⟩,
           ⟨(some 17), .bin .add (.t 16) (.c (.d (.int .i64 1))), none⟩,
           ⟨(some 1), .mv (.t 17), none⟩])
         (.exit 1))
        (.seq (.reg [⟨(some 19), .mv (.t 0), none⟩,
           ⟨(some 20), .mv (.t 1), none⟩,
           ⟨(some 21), .slcs (.t 19) (some (.t 20)) none, none⟩,
           ⟨(some 22), .call 45 [(.t 21), (.c (.d (.str [47, 47])))], none⟩,
           ⟨(some 18), .mv (.t 22), none⟩])
         (.cond (.t 18)
           (.seq (.reg [⟨(some 23), .mv (.t 0), none⟩,
              ⟨(some 24), .mv (.t 1), none⟩,
              ⟨(some 25), .slcs (.t 23) (some (.t 24)) none, none⟩,
              ⟨(some 26), .call 44 [(.t 25), (.c (.d (.int .u8 10)))], none⟩,
              ⟨(some 5), .mv (.t 26), none⟩])
            (.seq (.seq (.reg [⟨(some 27), .mv (.t 5), none⟩,
                ⟨(some 28), .bin .lss (.t 27) (.c (.d (.int .i64 0))), none⟩])
              (.cond (.t 28)
                (.seq (.reg [⟨(some 29), .mv (.t 0), none⟩,
                   ⟨(some 30), .len true (.t 29), none⟩,
                   ⟨(some 4), .mv (.t 30), none⟩])
                 .ret)
                .skip))
             (.seq (.reg [⟨(some 31), .mv (.t 1), none⟩,
                ⟨(some 32), .mv (.t 5), none⟩,
                ⟨(some 33), .bin .add (.t 31) (.t 32), none⟩,
                ⟨(some 1), .mv (.t 33), none⟩])
              (.exit 1))))
           .skip)))))
    (.exit 0))))
def B24 : VCode :=
 (.seq (.reg [⟨(some 4), .mv (.c (.d (.int .i64 0))), none⟩])
  (.scope (.seq .skip
    (.seq (.block 0 (.loop K24_0 L24_0))
     (.seq (.reg [⟨(some 34), .mv (.t 1), none⟩,
        ⟨(some 4), .mv (.t 34), none⟩])
      .ret)))))
def F24 : VFn := ⟨2, 35, B24, [.tmp 4], false⟩

def A24 : Ann := ⟨keepOf [(1, [0, 1])], ghostOf []⟩
-- 25 patina/lex.token
def B25 : VCode :=
 (.seq (.reg [⟨(some 2), .zbox [(.d (.int .i64 0)), (.d (.str [])), (.d (.int .i64 0)), (.d (.int .i64 0)), (.d (.int .i64 0))], none⟩,
    ⟨(some 3), .mv (.c (.d (.int .i64 0))), none⟩,
    ⟨(some 4), .mv (.c (.d (.int .i64 0))), none⟩])
  (.seq (.reg [⟨(some 12), .mv (.t 0), none⟩,
     ⟨(some 13), .call 46 [(.t 12)], none⟩,
     ⟨(some 5), .mv (.t 13), none⟩])
   (.seq (.block 0 (.seq (.reg [⟨(some 15), .mv (.t 5), none⟩,
        ⟨(some 16), .bin .gtr (.t 15) (.c (.d (.int .i64 0))), none⟩,
        ⟨(some 17), .mv (.t 16), none⟩,
        ⟨(some 18), .mv (.t 0), some (17, true)⟩,
        ⟨(some 19), .idx (.t 18) (.c (.d (.int .i64 0))), some (17, true)⟩,
        ⟨(some 20), .call 47 [(.t 19)], some (17, true)⟩,
        ⟨(some 21), .pick (.t 17) (.t 20) (.c (.d (.bool false))), none⟩,
        ⟨(some 14), .mv (.t 21), none⟩])
      (.cond (.t 14)
        (.seq (.reg [⟨(some 23), .mv (.t 0), none⟩,
           ⟨(some 24), .mv (.t 5), none⟩,
           ⟨(some 25), .slcs (.t 23) none (some (.t 24)), none⟩,
           ⟨(some 26), .call 48 [(.t 25)], none⟩,
           ⟨(some 22), .mv (.t 26), none⟩,
           ⟨(some 27), .ext (.t 22) 0, none⟩,
           ⟨(some 28), .ext (.t 22) 1, none⟩,
           ⟨(some 6), .zbox [(.d (.int .i64 0)), (.d (.str [])), (.d (.int .i64 0)), (.d (.int .i64 0)), (.d (.int .i64 0))], none⟩,
           ⟨none, .st 5 (.t 6) (.t 27), none⟩,
           ⟨(some 7), .mv (.t 28), none⟩])
         (.seq (.reg [⟨(some 29), .ld (some 5) (.t 6), none⟩,
            ⟨(some 30), .mv (.t 5), none⟩,
            ⟨(some 31), .mv (.t 7), none⟩,
            ⟨none, .st 5 (.t 2) (.t 29), none⟩,
            ⟨(some 3), .mv (.t 30), none⟩,
            ⟨(some 4), .mv (.t 31), none⟩])
          .ret))
        (.seq (.reg [⟨(some 33), .mv (.t 5), none⟩,
           ⟨(some 34), .bin .gtr (.t 33) (.c (.d (.int .i64 0))), none⟩,
           ⟨(some 35), .mv (.t 34), none⟩,
           ⟨(some 36), .mv (.t 0), some (35, true)⟩,
           ⟨(some 37), .mv (.t 5), some (35, true)⟩,
           ⟨(some 38), .slcs (.t 36) none (some (.t 37)), some (35, true)⟩,
           ⟨(some 39), .bin .neq (.t 38) (.c (.d (.str [95]))), some (35, true)⟩,
           ⟨(some 40), .pick (.t 35) (.t 39) (.c (.d (.bool false))), none⟩,
           ⟨(some 32), .mv (.t 40), none⟩])
         (.cond (.t 32)
           (.seq (.reg [⟨(some 8), .mv (.c (.d (.int .i64 1))), none⟩])
            (.seq (.seq (.reg [⟨(some 41), .mv (.t 0), none⟩,
                ⟨(some 42), .mv (.t 5), none⟩,
                ⟨(some 43), .slcs (.t 41) none (some (.t 42)), none⟩,
                ⟨(some 44), .call 14 [(.t 43)], none⟩])
              (.cond (.t 44)
                (.reg [⟨(some 8), .mv (.c (.d (.int .i64 2))), none⟩])
                .skip))
             (.seq (.seq (.reg [⟨(some 45), .mv (.t 5), none⟩,
                 ⟨(some 46), .bin .gtr (.t 45) (.c (.d (.int .i64 64))), none⟩])
               (.cond (.t 46)
                 (.seq (.reg [⟨(some 47), .build [(.d (.int .i64 0)), (.d (.str [])), (.d (.int .i64 0)), (.d (.int .i64 0)), (.d (.int .i64 0))] [], none⟩,
                    ⟨(some 48), .mv (.t 5), none⟩,
                    ⟨none, .st 5 (.t 2) (.t 47), none⟩,
                    ⟨(some 3), .mv (.t 48), none⟩,
                    ⟨(some 4), .mv (.c (.d (.int .i64 2))), none⟩])
                  .ret)
                 .skip))
              (.seq (.reg [⟨(some 49), .mv (.t 8), none⟩,
                 ⟨(some 50), .mv (.t 0), none⟩,
                 ⟨(some 51), .mv (.t 5), none⟩,
                 ⟨(some 52), .slcs (.t 50) none (some (.t 51)), none⟩,
                 ⟨(some 53), .build [(.d (.int .i64 0)), (.d (.str [])), (.d (.int .i64 0)), (.d (.int .i64 0)), (.d (.int .i64 0))] [(0, 1, (.t 49)), (1, 1, (.t 52))], none⟩,
                 ⟨(some 54), .mv (.t 5), none⟩,
                 ⟨none, .st 5 (.t 2) (.t 53), none⟩,
                 ⟨(some 3), .mv (.t 54), none⟩,
                 ⟨(some 4), .mv (.c (.d (.int .i64 0))), none⟩])
               .ret))))
           .skip)))))
    (.seq (.seq (.reg [⟨(some 55), .mv (.t 0), none⟩,
        ⟨(some 56), .call 49 [(.t 55)], none⟩,
        ⟨(some 9), .mv (.t 56), none⟩])
      (.seq (.reg [⟨(some 57), .mv (.t 9), none⟩,
         ⟨(some 58), .bin .neq (.t 57) (.c (.d (.str []))), none⟩])
       (.cond (.t 58)
         (.seq (.reg [⟨(some 59), .mv (.t 9), none⟩,
            ⟨(some 60), .build [(.d (.int .i64 0)), (.d (.str [])), (.d (.int .i64 0)), (.d (.int .i64 0)), (.d (.int .i64 0))] [(0, 1, (.c (.d (.int .i64 4)))), (1, 1, (.t 59))], none⟩,
            ⟨(some 61), .mv (.t 9), none⟩,
            ⟨(some 62), .len true (.t 61), none⟩,
            ⟨none, .st 5 (.t 2) (.t 60), none⟩,
            ⟨(some 3), .mv (.t 62), none⟩,
            ⟨(some 4), .mv (.c (.d (.int .i64 0))), none⟩])
          .ret)
         .skip)))
     (.seq (.reg [⟨(some 64), .mv (.t 0), none⟩,
        ⟨(some 65), .call 43 [(.t 64)], none⟩,
        ⟨(some 63), .mv (.t 65), none⟩,
        ⟨(some 66), .ext (.t 63) 0, none⟩,
        ⟨(some 67), .ext (.t 63) 1, none⟩,
        ⟨(some 10), .mv (.t 66), none⟩,
        ⟨(some 11), .mv (.t 67), none⟩])
      (.seq (.reg [⟨(some 68), .build [(.d (.int .i64 0)), (.d (.str [])), (.d (.int .i64 0)), (.d (.int .i64 0)), (.d (.int .i64 0))] [], none⟩,
         ⟨(some 69), .mv (.t 11), none⟩,
         ⟨none, .st 5 (.t 2) (.t 68), none⟩,
         ⟨(some 3), .mv (.t 69), none⟩,
         ⟨(some 4), .mv (.c (.d (.int .i64 111))), none⟩])
       .ret))))))
def F25 : VFn := ⟨1, 70, B25, [.cell 2 (some 5), .tmp 3, .tmp 4], false⟩

def A25 : Ann := ⟨keepOf [], ghostOf []⟩
-- 26 patina/patinaref11.diag
def B26 : VCode :=
 (.seq (.reg [⟨(some 6), .zbox [(.d (.int .i64 0)), (.d (.int .i64 0)), (.d (.int .i64 0))], none⟩])
  (.seq (.reg [⟨(some 7), .mv (.t 0), none⟩,
     ⟨(some 8), .mv (.t 1), none⟩,
     ⟨(some 9), .mv (.t 2), none⟩,
     ⟨(some 10), .build [(.d (.int .i64 0)), (.d (.int .i64 0)), (.d (.int .i64 0))] [(0, 1, (.t 7)), (1, 1, (.t 8)), (2, 1, (.t 9))], none⟩,
     ⟨none, .st 3 (.t 6) (.t 10), none⟩])
   .ret))
def F26 : VFn := ⟨3, 11, B26, [.cell 6 (some 3)], false⟩

def A26 : Ann := ⟨keepOf [], ghostOf []⟩
-- 27 patina/patinaref11.strange
def K27_0 : List Nat := [0, 3]
def L27_0 : VCode :=
 (.seq (.seq (.reg [⟨(some 5), .mv (.t 3), none⟩,
     ⟨(some 6), .mv (.t 0), none⟩,
     ⟨(some 7), .len true (.t 6), none⟩,
     ⟨(some 8), .bin .lss (.t 5) (.t 7), none⟩])
   (.cond (.t 8)
     .skip
     (.exit 0)))
  (.block 1 (.seq (.reg [⟨(some 9), .mv (.t 0), none⟩,
      ⟨(some 10), .mv (.t 3), none⟩,
      ⟨(some 11), .call 35 [(.t 9), (.t 10)], none⟩,
      ⟨(some 4), .mv (.t 11), none⟩])
    (.seq (.seq (.reg [⟨(some 12), .mv (.t 4), none⟩,
        ⟨(some 13), .bin .eql (.t 12) (.c (.d (.int .i64 0))), none⟩])
      (.cond (.t 13)
        (.seq (.reg [⟨(some 14), .mv (.t 3), none⟩,
           ⟨(some 2), .mv (.t 14), none⟩])
         .ret)
        .skip))
     (.reg [⟨(some 15), .mv (.t 3), none⟩,
       ⟨(some 16), .mv (.t 4), none⟩,
       ⟨(some 17), .bin .add (.t 15) (.t 16), none⟩,
       ⟨(some 3), .mv (.t 17), none⟩])))))
def B27 : VCode :=
 (.seq (.reg [⟨(some 2), .mv (.c (.d (.int .i64 0))), none⟩])
  (.seq (.seq (.reg [⟨(some 3), .mv (.c (.d (.int .i64 0))), none⟩])
    (.block 0 (.loop K27_0 L27_0)))
   (.seq (.reg [⟨(some 2), .mv (.c (.d (.int .i64 (-1)))), none⟩])
    .ret)))
def F27 : VFn := ⟨1, 18, B27, [.tmp 2], false⟩

def A27 : Ann := ⟨keepOf [(2, [0, 3])], ghostOf []⟩
-- 28 patina/patinaref11.blank
def K28_0 : List Nat := [0, 1]
def L28_0 : VCode :=
 (.seq (.seq (.reg [⟨(some 46), .mv (.t 1), none⟩,
     ⟨(some 47), .mv (.t 0), none⟩,
     ⟨(some 48), .len true (.t 47), none⟩,
     ⟨(some 49), .bin .lss (.t 46) (.t 48), none⟩,
     ⟨(some 50), .mv (.t 49), none⟩,
     ⟨(some 51), .mv (.t 0), some (50, true)⟩,
     ⟨(some 52), .mv (.t 1), some (50, true)⟩,
     ⟨(some 53), .idx (.t 51) (.t 52), some (50, true)⟩,
     ⟨(some 54), .bin .neq (.t 53) (.c (.d (.int .u8 10))), some (50, true)⟩,
     ⟨(some 55), .pick (.t 50) (.t 54) (.c (.d (.bool false))), none⟩])
   (.cond (.t 55)
     .skip
     (.exit 2)))
  (.block 3 (.reg [⟨(some 56), .mv (.t 1), none⟩,
     ⟨(some 57), .bin .add (.t 56) (.c (.d (.int .i64 1))), none⟩,
     ⟨(some 1), .mv (.t 57), none⟩])))
def K28_1 : List Nat := [0, 1]
def L28_1 : VCode :=
 (.seq (.seq (.reg [⟨(some 6), .mv (.t 1), none⟩,
     ⟨(some 7), .mv (.t 0), none⟩,
     ⟨(some 8), .len true (.t 7), none⟩,
     ⟨(some 9), .bin .lss (.t 6) (.t 8), none⟩])
   (.cond (.t 9)
     .skip
     (.exit 0)))
  (.block 1 (.seq (.reg [⟨(some 10), .mv (.t 0), none⟩,
      ⟨(some 11), .mv (.t 1), none⟩,
      ⟨(some 12), .idx (.t 10) (.t 11), none⟩,
      ⟨(some 5), .mv (.t 12), none⟩])
    (.seq (.seq (.reg [⟨(some 13), .mv (.t 5), none⟩,
        ⟨(some 14), .bin .eql (.t 13) (.c (.d (.int .u8 32))), none⟩,
        ⟨(some 15), .mv (.t 14), none⟩,
        ⟨(some 16), .mv (.t 5), some (15, false)⟩,
        ⟨(some 17), .bin .eql (.t 16) (.c (.d (.int .u8 9))), some (15, false)⟩,
        ⟨(some 18), .pick (.t 15) (.c (.d (.bool true))) (.t 17), none⟩,
        ⟨(some 19), .mv (.t 18), none⟩,
        ⟨(some 20), .mv (.t 5), some (19, false)⟩,
        ⟨(some 21), .bin .eql (.t 20) (.c (.d (.int .u8 10))), some (19, false)⟩,
        ⟨(some 22), .pick (.t 19) (.c (.d (.bool true))) (.t 21), none⟩,
        ⟨(some 23), .mv (.t 22), none⟩,
        ⟨(some 24), .mv (.t 5), some (23, false)⟩,
        ⟨(some 25), .bin .eql (.t 24) (.c (.d (.int .u8 13))), some (23, false)⟩,
        ⟨(some 26), .pick (.t 23) (.c (.d (.bool true))) (.t 25), none⟩])
      (.cond (.t 26)
        (.seq (.reg [⟨(some 27), .mv (.t 1), none⟩,
           ⟨(some 28), .bin .add (.t 27) (.c (.d (.int .i64 1))), none⟩,
           ⟨(some 1), .mv (.t 28), none⟩])
         (.exit 1))
        .skip))
     (.seq (.seq (.reg [⟨(some 29), .mv (.t 5), none⟩,
         ⟨(some 30), .bin .neq (.t 29) (.c (.d (.int .u8 47))), none⟩,
         ⟨(some 31), .mv (.t 30), none⟩,
         ⟨(some 32), .mv (.t 1), some (31, false)⟩,
         ⟨(some 33), .bin .add (.t 32) (.c (.d (.int .i64 1))), some (31, false)⟩,
         ⟨(some 34), .mv (.t 0), some (31, false)⟩,
         ⟨(some 35), .len true (.t 34), some (31, false)⟩,
         ⟨(some 36), .bin .eql (.t 33) (.t 35), some (31, false)⟩,
         ⟨(some 37), .pick (.t 31) (.c (.d (.bool true))) (.t 36), none⟩,
         ⟨(some 38), .mv (.t 37), none⟩,
         ⟨(some 39), .mv (.t 0), some (38, false)⟩,
         ⟨(some 40), .mv (.t 1), some (38, false)⟩,
         ⟨(some 41), .bin .add (.t 40) (.c (.d (.int .i64 1))), some (38, false)⟩,
         ⟨(some 42), .idx (.t 39) (.t 41), some (38, false)⟩,
         ⟨(some 43), .bin .neq (.t 42) (.c (.d (.int .u8 47))), some (38, false)⟩,
         ⟨(some 44), .pick (.t 38) (.c (.d (.bool true))) (.t 43), none⟩])
       (.cond (.t 44)
         (.seq (.reg [⟨(some 45), .mv (.t 1), none⟩,
            ⟨(some 4), .mv (.t 45), none⟩])
          .ret)
         .skip))
      (.block 2 (.loop K28_0 L28_0)))))))
def B28 : VCode :=
 (.seq (.reg [⟨(some 4), .mv (.c (.d (.int .i64 0))), none⟩])
  (.seq (.block 0 (.loop K28_1 L28_1))
   (.seq (.reg [⟨(some 58), .mv (.t 1), none⟩,
      ⟨(some 4), .mv (.t 58), none⟩])
    .ret)))
def F28 : VFn := ⟨2, 59, B28, [.tmp 4], false⟩

def A28 : Ann := ⟨keepOf [(1, [0, 1]), (7, [0, 1])], ghostOf []⟩
-- 29 patina/patinaref11.run
def K29_0 : List Nat := [0, 1]
def L29_0 : VCode :=
 (.seq (.seq (.reg [⟨(some 5), .mv (.t 1), none⟩,
     ⟨(some 6), .mv (.t 0), none⟩,
     ⟨(some 7), .len true (.t 6), none⟩,
     ⟨(some 8), .bin .lss (.t 5) (.t 7), none⟩,
     ⟨(some 9), .mv (.t 8), none⟩,
     ⟨(some 10), .mv (.t 0), some (9, true)⟩,
     ⟨(some 11), .mv (.t 1), some (9, true)⟩,
     ⟨(some 12), .idx (.t 10) (.t 11), some (9, true)⟩,
     ⟨(some 13), .call 32 [(.t 12)], some (9, true)⟩,
     ⟨(some 14), .mv (.t 13), some (9, true)⟩,
     ⟨(some 15), .mv (.t 0), some (14, false)⟩,
     ⟨(some 16), .mv (.t 1), some (14, false)⟩,
     ⟨(some 17), .idx (.t 15) (.t 16), some (14, false)⟩,
     ⟨(some 18), .call 30 [(.t 17)], some (14, false)⟩,
     ⟨(some 19), .pick (.t 14) (.c (.d (.bool true))) (.t 18), some (9, true)⟩,
     ⟨(some 20), .pick (.t 9) (.t 19) (.c (.d (.bool false))), none⟩])
   (.cond (.t 20)
     .skip
     (.exit 0)))
  (.block 1 (.reg [⟨(some 21), .mv (.t 1), none⟩,
     ⟨(some 22), .bin .add (.t 21) (.c (.d (.int .i64 1))), none⟩,
     ⟨(some 1), .mv (.t 22), none⟩])))
def B29 : VCode :=
 (.seq (.reg [⟨(some 4), .mv (.c (.d (.int .i64 0))), none⟩])
  (.seq (.block 0 (.loop K29_0 L29_0))
   (.seq (.reg [⟨(some 23), .mv (.t 1), none⟩,
      ⟨(some 4), .mv (.t 23), none⟩])
    .ret)))
def F29 : VFn := ⟨2, 24, B29, [.tmp 4], false⟩

def A29 : Ann := ⟨keepOf [(1, [0, 1])], ghostOf []⟩
-- 30 patina/patinaref11.digit
def B30 : VCode :=
 (.seq (.reg [⟨(some 2), .mv (.c (.d (.bool false))), none⟩])
  (.seq (.reg [⟨(some 3), .mv (.t 0), none⟩,
     ⟨(some 4), .bin .geq (.t 3) (.c (.d (.int .u8 48))), none⟩,
     ⟨(some 5), .mv (.t 4), none⟩,
     ⟨(some 6), .mv (.t 0), some (5, true)⟩,
     ⟨(some 7), .bin .leq (.t 6) (.c (.d (.int .u8 57))), some (5, true)⟩,
     ⟨(some 8), .pick (.t 5) (.t 7) (.c (.d (.bool false))), none⟩,
     ⟨(some 2), .mv (.t 8), none⟩])
   .ret))
def F30 : VFn := ⟨1, 9, B30, [.tmp 2], false⟩

def A30 : Ann := ⟨keepOf [], ghostOf []⟩
-- 31 patina/patinaref11.numbered
def K31_0 : List Nat := [0, 1, 4, 5, 6, 7]
def L31_0 : VCode :=
 (.seq (.seq (.reg [⟨(some 14), .mv (.t 7), none⟩,
     ⟨(some 15), .mv (.t 6), none⟩,
     ⟨(some 16), .bin .lss (.t 14) (.t 15), none⟩])
   (.cond (.t 16)
     .skip
     (.exit 0)))
  (.seq (.block 1 (.seq (.reg [⟨(some 19), .mv (.t 0), none⟩,
       ⟨(some 20), .mv (.t 7), none⟩,
       ⟨(some 21), .idx (.t 19) (.t 20), none⟩,
       ⟨(some 22), .call 30 [(.t 21)], none⟩,
       ⟨(some 23), .un .not (.t 22), none⟩])
     (.cond (.t 23)
       (.seq (.reg [⟨(some 24), .build [(.d (.int .i64 0)), (.d (.str [])), (.d (.int .i64 0)), (.d (.int .i64 0)), (.d (.int .i64 0))] [], none⟩,
          ⟨(some 25), .mv (.t 1), none⟩,
          ⟨(some 26), .mv (.t 6), none⟩,
          ⟨(some 27), .call 26 [(.c (.d (.int .i64 112))), (.t 25), (.t 26)], none⟩,
          ⟨none, .st 5 (.t 4) (.t 24), none⟩,
          ⟨none, .st 3 (.t 5) (.t 27), none⟩])
        .ret)
       .skip)))
   (.reg [⟨(some 17), .mv (.t 7), none⟩,
     ⟨(some 18), .bin .add (.t 17) (.c (.d (.int .i64 1))), none⟩,
     ⟨(some 7), .mv (.t 18), none⟩])))
def B31 : VCode :=
 (.seq (.reg [⟨(some 4), .zbox [(.d (.int .i64 0)), (.d (.str [])), (.d (.int .i64 0)), (.d (.int .i64 0)), (.d (.int .i64 0))], none⟩,
    ⟨(some 5), .zbox [(.d (.int .i64 0)), (.d (.int .i64 0)), (.d (.int .i64 0))], none⟩])
  (.seq (.reg [⟨(some 10), .mv (.t 0), none⟩,
     ⟨(some 11), .mv (.t 1), none⟩,
     ⟨(some 12), .call 29 [(.t 10), (.t 11)], none⟩,
     ⟨(some 6), .mv (.t 12), none⟩])
   (.seq (.seq (.reg [⟨(some 13), .mv (.t 1), none⟩,
       ⟨(some 7), .mv (.t 13), none⟩])
     (.block 0 (.loop K31_0 L31_0)))
    (.seq (.reg [⟨(some 29), .mv (.t 0), none⟩,
       ⟨(some 30), .mv (.t 1), none⟩,
       ⟨(some 31), .mv (.t 6), none⟩,
       ⟨(some 32), .slcs (.t 29) (some (.t 30)) (some (.t 31)), none⟩,
       ⟨(some 33), .call 50 [(.t 32)], none⟩,
       ⟨(some 28), .mv (.t 33), none⟩,
       ⟨(some 34), .ext (.t 28) 0, none⟩,
       ⟨(some 35), .ext (.t 28) 1, none⟩,
       ⟨(some 8), .mv (.t 34), none⟩,
       ⟨(some 9), .mv (.t 35), none⟩])
     (.seq (.seq (.reg [⟨(some 36), .mv (.t 9), none⟩,
         ⟨(some 37), .un .not (.t 36), none⟩])
       (.cond (.t 37)
         (.seq (.reg [⟨(some 38), .build [(.d (.int .i64 0)), (.d (.str [])), (.d (.int .i64 0)), (.d (.int .i64 0)), (.d (.int .i64 0))] [], none⟩,
            ⟨(some 39), .mv (.t 1), none⟩,
            ⟨(some 40), .mv (.t 6), none⟩,
            ⟨(some 41), .call 26 [(.c (.d (.int .i64 112))), (.t 39), (.t 40)], none⟩,
            ⟨none, .st 5 (.t 4) (.t 38), none⟩,
            ⟨none, .st 3 (.t 5) (.t 41), none⟩])
          .ret)
         .skip))
      (.seq (.reg [⟨(some 42), .mv (.t 0), none⟩,
         ⟨(some 43), .mv (.t 1), none⟩,
         ⟨(some 44), .mv (.t 6), none⟩,
         ⟨(some 45), .slcs (.t 42) (some (.t 43)) (some (.t 44)), none⟩,
         ⟨(some 46), .mv (.t 8), none⟩,
         ⟨(some 47), .mv (.t 1), none⟩,
         ⟨(some 48), .mv (.t 6), none⟩,
         ⟨(some 49), .build [(.d (.int .i64 0)), (.d (.str [])), (.d (.int .i64 0)), (.d (.int .i64 0)), (.d (.int .i64 0))] [(0, 1, (.c (.d (.int .i64 3)))), (1, 1, (.t 45)), (2, 1, (.t 46)), (3, 1, (.t 47)), (4, 1, (.t 48))], none⟩,
         ⟨(some 50), .build [(.d (.int .i64 0)), (.d (.int .i64 0)), (.d (.int .i64 0))] [], none⟩,
         ⟨none, .st 5 (.t 4) (.t 49), none⟩,
         ⟨none, .st 3 (.t 5) (.t 50), none⟩])
       .ret))))))
def F31 : VFn := ⟨2, 51, B31, [.cell 4 (some 5), .cell 5 (some 3)], false⟩

def A31 : Ann := ⟨keepOf [(3, [0, 1, 4, 5, 6, 7])], ghostOf []⟩
-- 32 patina/patinaref11.letter
def B32 : VCode :=
 (.seq (.reg [⟨(some 2), .mv (.c (.d (.bool false))), none⟩])
  (.seq (.reg [⟨(some 3), .mv (.t 0), none⟩,
     ⟨(some 4), .bin .geq (.t 3) (.c (.d (.int .u8 65))), none⟩,
     ⟨(some 5), .mv (.t 4), none⟩,
     ⟨(some 6), .mv (.t 0), some (5, true)⟩,
     ⟨(some 7), .bin .leq (.t 6) (.c (.d (.int .u8 90))), some (5, true)⟩,
     ⟨(some 8), .pick (.t 5) (.t 7) (.c (.d (.bool false))), none⟩,
     ⟨(some 9), .mv (.t 8), none⟩,
     ⟨(some 10), .mv (.t 0), some (9, false)⟩,
     ⟨(some 11), .bin .geq (.t 10) (.c (.d (.int .u8 97))), some (9, false)⟩,
     ⟨(some 12), .mv (.t 11), some (9, false)⟩,
     ⟨(some 13), .mv (.t 0), some (12, true)⟩,
     ⟨(some 14), .bin .leq (.t 13) (.c (.d (.int .u8 122))), some (12, true)⟩,
     ⟨(some 15), .pick (.t 12) (.t 14) (.c (.d (.bool false))), some (9, false)⟩,
     ⟨(some 16), .pick (.t 9) (.c (.d (.bool true))) (.t 15), none⟩,
     ⟨(some 17), .mv (.t 16), none⟩,
     ⟨(some 18), .mv (.t 0), some (17, false)⟩,
     ⟨(some 19), .bin .eql (.t 18) (.c (.d (.int .u8 95))), some (17, false)⟩,
     ⟨(some 20), .pick (.t 17) (.c (.d (.bool true))) (.t 19), none⟩,
     ⟨(some 2), .mv (.t 20), none⟩])
   .ret))
def F32 : VFn := ⟨1, 21, B32, [.tmp 2], false⟩

def A32 : Ann := ⟨keepOf [], ghostOf []⟩
-- 33 patina/patinaref11.named
def B33 : VCode :=
 (.seq (.reg [⟨(some 4), .zbox [(.d (.int .i64 0)), (.d (.str [])), (.d (.int .i64 0)), (.d (.int .i64 0)), (.d (.int .i64 0))], none⟩,
    ⟨(some 5), .zbox [(.d (.int .i64 0)), (.d (.int .i64 0)), (.d (.int .i64 0))], none⟩])
  (.seq (.reg [⟨(some 8), .mv (.t 0), none⟩,
     ⟨(some 9), .mv (.t 1), none⟩,
     ⟨(some 10), .call 29 [(.t 8), (.t 9)], none⟩,
     ⟨(some 6), .mv (.t 10), none⟩])
   (.seq (.seq (.reg [⟨(some 11), .mv (.t 6), none⟩,
       ⟨(some 12), .mv (.t 1), none⟩,
       ⟨(some 13), .bin .sub (.t 11) (.t 12), none⟩,
       ⟨(some 14), .bin .gtr (.t 13) (.c (.d (.int .i64 64))), none⟩])
     (.cond (.t 14)
       (.seq (.reg [⟨(some 15), .build [(.d (.int .i64 0)), (.d (.str [])), (.d (.int .i64 0)), (.d (.int .i64 0)), (.d (.int .i64 0))] [], none⟩,
          ⟨(some 16), .mv (.t 1), none⟩,
          ⟨(some 17), .mv (.t 6), none⟩,
          ⟨(some 18), .call 26 [(.c (.d (.int .i64 2))), (.t 16), (.t 17)], none⟩,
          ⟨none, .st 5 (.t 4) (.t 15), none⟩,
          ⟨none, .st 3 (.t 5) (.t 18), none⟩])
        .ret)
       .skip))
    (.seq (.reg [⟨(some 7), .mv (.c (.d (.int .i64 1))), none⟩])
     (.seq (.seq (.reg [⟨(some 19), .mv (.t 0), none⟩,
         ⟨(some 20), .mv (.t 1), none⟩,
         ⟨(some 21), .mv (.t 6), none⟩,
         ⟨(some 22), .slcs (.t 19) (some (.t 20)) (some (.t 21)), none⟩,
         ⟨(some 23), .call 15 [(.t 22)], none⟩])
       (.cond (.t 23)
         (.reg [⟨(some 7), .mv (.c (.d (.int .i64 2))), none⟩])
         .skip))
      (.seq (.reg [⟨(some 24), .mv (.t 7), none⟩,
         ⟨(some 25), .mv (.t 0), none⟩,
         ⟨(some 26), .mv (.t 1), none⟩,
         ⟨(some 27), .mv (.t 6), none⟩,
         ⟨(some 28), .slcs (.t 25) (some (.t 26)) (some (.t 27)), none⟩,
         ⟨(some 29), .mv (.t 1), none⟩,
         ⟨(some 30), .mv (.t 6), none⟩,
         ⟨(some 31), .build [(.d (.int .i64 0)), (.d (.str [])), (.d (.int .i64 0)), (.d (.int .i64 0)), (.d (.int .i64 0))] [(0, 1, (.t 24)), (1, 1, (.t 28)), (3, 1, (.t 29)), (4, 1, (.t 30))], none⟩,
         ⟨(some 32), .build [(.d (.int .i64 0)), (.d (.int .i64 0)), (.d (.int .i64 0))] [], none⟩,
         ⟨none, .st 5 (.t 4) (.t 31), none⟩,
         ⟨none, .st 3 (.t 5) (.t 32), none⟩])
       .ret))))))
def F33 : VFn := ⟨2, 33, B33, [.cell 4 (some 5), .cell 5 (some 3)], false⟩

def A33 : Ann := ⟨keepOf [], ghostOf []⟩
-- 34 patina/patinaref11.sign
def K34_0 : List Nat := [0, 1, 9, 10, 11]
def L34_0 : VCode :=
 (.seq (.reg [⟨(some 12), .bin .lss (.t 11) (.t 10), none⟩])
  (.seq (.cond (.t 12)
     .skip
     (.exit 0))
   (.seq (.block 1 (.seq (.reg [⟨(some 13), .iadr 1 (.t 9) (.t 11), none⟩,
        ⟨(some 14), .ld none (.t 13), none⟩,
        ⟨(some 6), .mv (.t 14), none⟩])
      (.seq (.reg [⟨(some 15), .mv (.t 1), none⟩,
         ⟨(some 16), .bin .add (.t 15) (.c (.d (.int .i64 2))), none⟩,
         ⟨(some 17), .mv (.t 0), none⟩,
         ⟨(some 18), .len true (.t 17), none⟩,
         ⟨(some 19), .bin .leq (.t 16) (.t 18), none⟩,
         ⟨(some 20), .mv (.t 19), none⟩,
         ⟨(some 21), .mv (.t 0), some (20, true)⟩,
         ⟨(some 22), .mv (.t 1), some (20, true)⟩,
         ⟨(some 23), .mv (.t 1), some (20, true)⟩,
         ⟨(some 24), .bin .add (.t 23) (.c (.d (.int .i64 2))), some (20, true)⟩,
         ⟨(some 25), .slcs (.t 21) (some (.t 22)) (some (.t 24)), some (20, true)⟩,
         ⟨(some 26), .mv (.t 6), some (20, true)⟩,
         ⟨(some 27), .bin .eql (.t 25) (.t 26), some (20, true)⟩,
         ⟨(some 28), .pick (.t 20) (.t 27) (.c (.d (.bool false))), none⟩])
       (.cond (.t 28)
         (.seq (.reg [⟨(some 29), .mv (.t 6), none⟩,
            ⟨(some 4), .mv (.t 29), none⟩])
          .ret)
         .skip))))
    (.reg [⟨(some 30), .bin .add (.t 11) (.c (.d (.int .i64 1))), none⟩,
      ⟨(some 11), .mv (.t 30), none⟩]))))
def K34_1 : List Nat := [0, 1, 32, 33, 34]
def L34_1 : VCode :=
 (.seq (.reg [⟨(some 35), .bin .lss (.t 34) (.t 33), none⟩])
  (.seq (.cond (.t 35)
     .skip
     (.exit 2))
   (.seq (.block 3 (.seq (.reg [⟨(some 36), .iadr 1 (.t 32) (.t 34), none⟩,
        ⟨(some 37), .ld none (.t 36), none⟩,
        ⟨(some 8), .mv (.t 37), none⟩])
      (.seq (.reg [⟨(some 38), .mv (.t 0), none⟩,
         ⟨(some 39), .mv (.t 1), none⟩,
         ⟨(some 40), .idx (.t 38) (.t 39), none⟩,
         ⟨(some 41), .mv (.t 8), none⟩,
         ⟨(some 42), .bin .eql (.t 40) (.t 41), none⟩])
       (.cond (.t 42)
         (.seq (.reg [⟨(some 43), .mv (.t 0), none⟩,
            ⟨(some 44), .mv (.t 1), none⟩,
            ⟨(some 45), .mv (.t 1), none⟩,
            ⟨(some 46), .bin .add (.t 45) (.c (.d (.int .i64 1))), none⟩,
            ⟨(some 47), .slcs (.t 43) (some (.t 44)) (some (.t 46)), none⟩,
            ⟨(some 4), .mv (.t 47), none⟩])
          .ret)
         .skip))))
    (.reg [⟨(some 48), .bin .add (.t 34) (.c (.d (.int .i64 1))), none⟩,
      ⟨(some 34), .mv (.t 48), none⟩]))))
def B34 : VCode :=
 (.seq (.reg [⟨(some 4), .mv (.c (.d (.str []))), none⟩])
  (.seq (.seq (.reg [⟨(some 9), .bslice 1 9 [(.c (.d (.str [58, 58]))), (.c (.d (.str [45, 62]))), (.c (.d (.str [61, 62]))), (.c (.d (.str [61, 61]))), (.c (.d (.str [33, 61]))), (.c (.d (.str [60, 61]))), (.c (.d (.str [62, 61]))), (.c (.d (.str [38, 38]))), (.c (.d (.str [124, 124])))], none⟩,
      ⟨(some 10), .len false (.t 9), none⟩,
      ⟨(some 11), .mv (.c (.d (.int .i64 0))), none⟩])
    (.block 0 (.loop K34_0 L34_0)))
   (.seq (.seq (.reg [⟨(some 31), .abs 19 [(.c (.d (.int .u8 40))), (.c (.d (.int .u8 41))), (.c (.d (.int .u8 123))), (.c (.d (.int .u8 125))), (.c (.d (.int .u8 60))), (.c (.d (.int .u8 62))), (.c (.d (.int .u8 44))), (.c (.d (.int .u8 59))), (.c (.d (.int .u8 58))), (.c (.d (.int .u8 61))), (.c (.d (.int .u8 43))), (.c (.d (.int .u8 45))), (.c (.d (.int .u8 42))), (.c (.d (.int .u8 47))), (.c (.d (.int .u8 37))), (.c (.d (.int .u8 38))), (.c (.d (.int .u8 33))), (.c (.d (.int .u8 46))), (.c (.d (.int .u8 95)))], none⟩,
       ⟨(some 32), .mark (.t 31), none⟩,
       ⟨(some 33), .len false (.t 32), none⟩,
       ⟨(some 34), .mv (.c (.d (.int .i64 0))), none⟩])
     (.block 2 (.loop K34_1 L34_1)))
    (.seq (.reg [⟨(some 4), .mv (.c (.d (.str []))), none⟩])
     .ret))))
def F34 : VFn := ⟨2, 49, B34, [.tmp 4], false⟩

def A34 : Ann := ⟨keepOf [(2, [0, 1, 9, 10, 11]), (8, [0, 1, 32, 33, 34])], ghostOf []⟩
-- 35 patina/patinaref11.Size
def K35_0 : List Nat := [0, 1, 6, 9]
def L35_0 : VCode :=
 (.seq (.seq (.reg [⟨(some 68), .mv (.t 9), none⟩,
     ⟨(some 69), .mv (.t 6), none⟩,
     ⟨(some 70), .bin .lss (.t 68) (.t 69), none⟩])
   (.cond (.t 70)
     .skip
     (.exit 2)))
  (.seq (.block 3 (.seq (.reg [⟨(some 73), .mv (.t 0), none⟩,
       ⟨(some 74), .mv (.t 1), none⟩,
       ⟨(some 75), .mv (.t 9), none⟩,
       ⟨(some 76), .bin .add (.t 74) (.t 75), none⟩,
       ⟨(some 77), .idx (.t 73) (.t 76), none⟩,
       ⟨(some 78), .bin .lss (.t 77) (.c (.d (.int .u8 128))), none⟩,
       ⟨(some 79), .mv (.t 78), none⟩,
       ⟨(some 80), .mv (.t 0), some (79, false)⟩,
       ⟨(some 81), .mv (.t 1), some (79, false)⟩,
       ⟨(some 82), .mv (.t 9), some (79, false)⟩,
       ⟨(some 83), .bin .add (.t 81) (.t 82), some (79, false)⟩,
       ⟨(some 84), .idx (.t 80) (.t 83), some (79, false)⟩,
       ⟨(some 85), .bin .gtr (.t 84) (.c (.d (.int .u8 191))), some (79, false)⟩,
       ⟨(some 86), .pick (.t 79) (.c (.d (.bool true))) (.t 85), none⟩])
     (.cond (.t 86)
       (.seq (.reg [⟨(some 4), .mv (.c (.d (.int .i64 0))), none⟩])
        .ret)
       .skip)))
   (.reg [⟨(some 71), .mv (.t 9), none⟩,
     ⟨(some 72), .bin .add (.t 71) (.c (.d (.int .i64 1))), none⟩,
     ⟨(some 9), .mv (.t 72), none⟩])))
def B35 : VCode :=
 (.seq (.reg [⟨(some 4), .mv (.c (.d (.int .i64 0))), none⟩])
  (.seq (.reg [⟨(some 10), .mv (.t 0), none⟩,
     ⟨(some 11), .mv (.t 1), none⟩,
     ⟨(some 12), .idx (.t 10) (.t 11), none⟩,
     ⟨(some 5), .mv (.t 12), none⟩])
   (.seq (.reg [⟨(some 6), .mv (.c (.d (.int .i64 0))), none⟩])
    (.seq (.reg [⟨(some 7), .mv (.c (.d (.int .u8 128))), none⟩])
     (.seq (.reg [⟨(some 8), .mv (.c (.d (.int .u8 191))), none⟩])
      (.seq (.block 0 (.seq (.reg [⟨(some 14), .mv (.t 5), none⟩,
           ⟨(some 15), .bin .lss (.t 14) (.c (.d (.int .u8 128))), none⟩,
           ⟨(some 13), .mv (.t 15), none⟩])
         (.cond (.t 13)
           (.seq (.reg [⟨(some 4), .mv (.c (.d (.int .i64 1))), none⟩])
            .ret)
           (.seq (.reg [⟨(some 17), .mv (.t 5), none⟩,
              ⟨(some 18), .bin .geq (.t 17) (.c (.d (.int .u8 194))), none⟩,
              ⟨(some 19), .mv (.t 18), none⟩,
              ⟨(some 20), .mv (.t 5), some (19, true)⟩,
              ⟨(some 21), .bin .leq (.t 20) (.c (.d (.int .u8 223))), some (19, true)⟩,
              ⟨(some 22), .pick (.t 19) (.t 21) (.c (.d (.bool false))), none⟩,
              ⟨(some 16), .mv (.t 22), none⟩])
            (.cond (.t 16)
              (.reg [⟨(some 6), .mv (.c (.d (.int .i64 2))), none⟩])
              (.seq (.reg [⟨(some 24), .mv (.t 5), none⟩,
                 ⟨(some 25), .bin .geq (.t 24) (.c (.d (.int .u8 224))), none⟩,
                 ⟨(some 26), .mv (.t 25), none⟩,
                 ⟨(some 27), .mv (.t 5), some (26, true)⟩,
                 ⟨(some 28), .bin .leq (.t 27) (.c (.d (.int .u8 239))), some (26, true)⟩,
                 ⟨(some 29), .pick (.t 26) (.t 28) (.c (.d (.bool false))), none⟩,
                 ⟨(some 23), .mv (.t 29), none⟩])
               (.cond (.t 23)
                 (.reg [⟨(some 6), .mv (.c (.d (.int .i64 3))), none⟩])
                 (.seq (.reg [⟨(some 31), .mv (.t 5), none⟩,
                    ⟨(some 32), .bin .geq (.t 31) (.c (.d (.int .u8 240))), none⟩,
                    ⟨(some 33), .mv (.t 32), none⟩,
                    ⟨(some 34), .mv (.t 5), some (33, true)⟩,
                    ⟨(some 35), .bin .leq (.t 34) (.c (.d (.int .u8 244))), some (33, true)⟩,
                    ⟨(some 36), .pick (.t 33) (.t 35) (.c (.d (.bool false))), none⟩,
                    ⟨(some 30), .mv (.t 36), none⟩])
                  (.cond (.t 30)
                    (.reg [⟨(some 6), .mv (.c (.d (.int .i64 4))), none⟩])
                    (.seq (.reg [⟨(some 4), .mv (.c (.d (.int .i64 0))), none⟩])
                     .ret))))))))))
       (.seq (.seq (.reg [⟨(some 37), .mv (.t 5), none⟩])
         (.block 1 (.seq (.reg [⟨(some 39), .bin .eql (.t 37) (.c (.d (.int .u8 224))), none⟩,
             ⟨(some 38), .mv (.t 39), none⟩])
           (.cond (.t 38)
             (.reg [⟨(some 7), .mv (.c (.d (.int .u8 160))), none⟩])
             (.seq (.reg [⟨(some 41), .bin .eql (.t 37) (.c (.d (.int .u8 237))), none⟩,
                ⟨(some 40), .mv (.t 41), none⟩])
              (.cond (.t 40)
                (.reg [⟨(some 8), .mv (.c (.d (.int .u8 159))), none⟩])
                (.seq (.reg [⟨(some 43), .bin .eql (.t 37) (.c (.d (.int .u8 240))), none⟩,
                   ⟨(some 42), .mv (.t 43), none⟩])
                 (.cond (.t 42)
                   (.reg [⟨(some 7), .mv (.c (.d (.int .u8 144))), none⟩])
                   (.seq (.reg [⟨(some 45), .bin .eql (.t 37) (.c (.d (.int .u8 244))), none⟩,
                      ⟨(some 44), .mv (.t 45), none⟩])
                    (.cond (.t 44)
                      (.reg [⟨(some 8), .mv (.c (.d (.int .u8 143))), none⟩])
                      .skip))))))))))
        (.seq (.seq (.reg [⟨(some 46), .mv (.t 1), none⟩,
            ⟨(some 47), .mv (.t 6), none⟩,
            ⟨(some 48), .bin .add (.t 46) (.t 47), none⟩,
            ⟨(some 49), .mv (.t 0), none⟩,
            ⟨(some 50), .len true (.t 49), none⟩,
            ⟨(some 51), .bin .gtr (.t 48) (.t 50), none⟩,
            ⟨(some 52), .mv (.t 51), none⟩,
            ⟨(some 53), .mv (.t 0), some (52, false)⟩,
            ⟨(some 54), .mv (.t 1), some (52, false)⟩,
            ⟨(some 55), .bin .add (.t 54) (.c (.d (.int .i64 1))), some (52, false)⟩,
            ⟨(some 56), .idx (.t 53) (.t 55), some (52, false)⟩,
            ⟨(some 57), .mv (.t 7), some (52, false)⟩,
            ⟨(some 58), .bin .lss (.t 56) (.t 57), some (52, false)⟩,
            ⟨(some 59), .pick (.t 52) (.c (.d (.bool true))) (.t 58), none⟩,
            ⟨(some 60), .mv (.t 59), none⟩,
            ⟨(some 61), .mv (.t 0), some (60, false)⟩,
            ⟨(some 62), .mv (.t 1), some (60, false)⟩,
            ⟨(some 63), .bin .add (.t 62) (.c (.d (.int .i64 1))), some (60, false)⟩,
            ⟨(some 64), .idx (.t 61) (.t 63), some (60, false)⟩,
            ⟨(some 65), .mv (.t 8), some (60, false)⟩,
            ⟨(some 66), .bin .gtr (.t 64) (.t 65), some (60, false)⟩,
            ⟨(some 67), .pick (.t 60) (.c (.d (.bool true))) (.t 66), none⟩])
          (.cond (.t 67)
            (.seq (.reg [⟨(some 4), .mv (.c (.d (.int .i64 0))), none⟩])
             .ret)
            .skip))
         (.seq (.seq (.reg [⟨(some 9), .mv (.c (.d (.int .i64 2))), none⟩])
           (.block 2 (.loop K35_0 L35_0)))
          (.seq (.reg [⟨(some 87), .mv (.t 6), none⟩,
             ⟨(some 4), .mv (.t 87), none⟩])
           .ret))))))))))
def F35 : VFn := ⟨2, 88, B35, [.tmp 4], false⟩

def A35 : Ann := ⟨keepOf [(26, [0, 1, 6, 9])], ghostOf []⟩
-- 36 patina/lex.spelt
def K36_0 : List Nat := [0, 16, 17]
def L36_0 : VCode :=
 (.seq (.reg [⟨(some 18), .bin .lss (.t 17) (.t 16), none⟩])
  (.seq (.cond (.t 18)
     .skip
     (.exit 0))
   (.seq (.block 1 (.seq (.reg [⟨(some 19), .mv (.t 17), none⟩,
        ⟨(some 3), .mv (.t 19), none⟩])
      (.seq (.reg [⟨(some 20), .mv (.t 0), none⟩,
         ⟨(some 21), .mv (.t 3), none⟩,
         ⟨(some 22), .idx (.t 20) (.t 21), none⟩,
         ⟨(some 23), .call 51 [(.t 22)], none⟩,
         ⟨(some 24), .un .not (.t 23), none⟩,
         ⟨(some 25), .mv (.t 24), none⟩,
         ⟨(some 26), .mv (.t 0), some (25, true)⟩,
         ⟨(some 27), .mv (.t 3), some (25, true)⟩,
         ⟨(some 28), .idx (.t 26) (.t 27), some (25, true)⟩,
         ⟨(some 29), .call 47 [(.t 28)], some (25, true)⟩,
         ⟨(some 30), .un .not (.t 29), some (25, true)⟩,
         ⟨(some 31), .pick (.t 25) (.t 30) (.c (.d (.bool false))), none⟩])
       (.cond (.t 31)
         (.seq (.reg [⟨(some 2), .mv (.c (.d (.bool false))), none⟩])
          .ret)
         .skip))))
    (.reg [⟨(some 32), .bin .add (.t 17) (.c (.d (.int .i64 1))), none⟩,
      ⟨(some 17), .mv (.t 32), none⟩]))))
def B36 : VCode :=
 (.seq (.reg [⟨(some 2), .mv (.c (.d (.bool false))), none⟩])
  (.seq (.seq (.reg [⟨(some 4), .mv (.t 0), none⟩,
      ⟨(some 5), .bin .eql (.t 4) (.c (.d (.str []))), none⟩,
      ⟨(some 6), .mv (.t 5), none⟩,
      ⟨(some 7), .mv (.t 0), some (6, false)⟩,
      ⟨(some 8), .bin .eql (.t 7) (.c (.d (.str [95]))), some (6, false)⟩,
      ⟨(some 9), .pick (.t 6) (.c (.d (.bool true))) (.t 8), none⟩,
      ⟨(some 10), .mv (.t 9), none⟩,
      ⟨(some 11), .mv (.t 0), some (10, false)⟩,
      ⟨(some 12), .idx (.t 11) (.c (.d (.int .i64 0))), some (10, false)⟩,
      ⟨(some 13), .call 47 [(.t 12)], some (10, false)⟩,
      ⟨(some 14), .pick (.t 10) (.c (.d (.bool true))) (.t 13), none⟩])
    (.cond (.t 14)
      (.seq (.reg [⟨(some 2), .mv (.c (.d (.bool false))), none⟩])
       .ret)
      .skip))
   (.seq (.seq (.reg [⟨(some 15), .mv (.t 0), none⟩,
       ⟨(some 16), .len true (.t 15), none⟩,
       ⟨(some 17), .mv (.c (.d (.int .i64 0))), none⟩])
     (.block 0 (.loop K36_0 L36_0)))
    (.seq (.reg [⟨(some 2), .mv (.c (.d (.bool true))), none⟩])
     .ret))))
def F36 : VFn := ⟨1, 33, B36, [.tmp 2], false⟩

def A36 : Ann := ⟨keepOf [(4, [0, 16, 17])], ghostOf []⟩
-- 37 patina/patinaref11.spelt
def K37_0 : List Nat := [0, 3]
def L37_0 : VCode :=
 (.seq (.seq (.reg [⟨(some 16), .mv (.t 3), none⟩,
     ⟨(some 17), .mv (.t 0), none⟩,
     ⟨(some 18), .len true (.t 17), none⟩,
     ⟨(some 19), .bin .lss (.t 16) (.t 18), none⟩])
   (.cond (.t 19)
     .skip
     (.exit 0)))
  (.seq (.block 1 (.seq (.reg [⟨(some 22), .mv (.t 0), none⟩,
       ⟨(some 23), .mv (.t 3), none⟩,
       ⟨(some 24), .idx (.t 22) (.t 23), none⟩,
       ⟨(some 25), .call 32 [(.t 24)], none⟩,
       ⟨(some 26), .un .not (.t 25), none⟩,
       ⟨(some 27), .mv (.t 26), none⟩,
       ⟨(some 28), .mv (.t 0), some (27, true)⟩,
       ⟨(some 29), .mv (.t 3), some (27, true)⟩,
       ⟨(some 30), .idx (.t 28) (.t 29), some (27, true)⟩,
       ⟨(some 31), .call 30 [(.t 30)], some (27, true)⟩,
       ⟨(some 32), .un .not (.t 31), some (27, true)⟩,
       ⟨(some 33), .pick (.t 27) (.t 32) (.c (.d (.bool false))), none⟩])
     (.cond (.t 33)
       (.seq (.reg [⟨(some 2), .mv (.c (.d (.bool false))), none⟩])
        .ret)
       .skip)))
   (.reg [⟨(some 20), .mv (.t 3), none⟩,
     ⟨(some 21), .bin .add (.t 20) (.c (.d (.int .i64 1))), none⟩,
     ⟨(some 3), .mv (.t 21), none⟩])))
def B37 : VCode :=
 (.seq (.reg [⟨(some 2), .mv (.c (.d (.bool false))), none⟩])
  (.seq (.seq (.reg [⟨(some 4), .mv (.t 0), none⟩,
      ⟨(some 5), .bin .eql (.t 4) (.c (.d (.str []))), none⟩,
      ⟨(some 6), .mv (.t 5), none⟩,
      ⟨(some 7), .mv (.t 0), some (6, false)⟩,
      ⟨(some 8), .bin .eql (.t 7) (.c (.d (.str [95]))), some (6, false)⟩,
      ⟨(some 9), .pick (.t 6) (.c (.d (.bool true))) (.t 8), none⟩,
      ⟨(some 10), .mv (.t 9), none⟩,
      ⟨(some 11), .mv (.t 0), some (10, false)⟩,
      ⟨(some 12), .idx (.t 11) (.c (.d (.int .i64 0))), some (10, false)⟩,
      ⟨(some 13), .call 32 [(.t 12)], some (10, false)⟩,
      ⟨(some 14), .un .not (.t 13), some (10, false)⟩,
      ⟨(some 15), .pick (.t 10) (.c (.d (.bool true))) (.t 14), none⟩])
    (.cond (.t 15)
      (.seq (.reg [⟨(some 2), .mv (.c (.d (.bool false))), none⟩])
       .ret)
      .skip))
   (.seq (.seq (.reg [⟨(some 3), .mv (.c (.d (.int .i64 0))), none⟩])
     (.block 0 (.loop K37_0 L37_0)))
    (.seq (.reg [⟨(some 2), .mv (.c (.d (.bool true))), none⟩])
     .ret))))
def F37 : VFn := ⟨1, 34, B37, [.tmp 2], false⟩

def A37 : Ann := ⟨keepOf [(4, [0, 3])], ghostOf []⟩
-- 38 patina/lex.fits
def B38 : VCode :=
 (.seq (.reg [⟨(some 1), .box (.t 0), none⟩,
    ⟨(some 2), .mv (.c (.d (.bool false))), none⟩])
  (.seq (.seq (.reg [⟨(some 3), .fadr 0 (.t 1), none⟩,
      ⟨(some 4), .ld none (.t 3), none⟩])
    (.block 0 (.seq (.reg [⟨(some 6), .bin .eql (.t 4) (.c (.d (.int .i64 1))), none⟩,
        ⟨(some 5), .mv (.t 6), none⟩])
      (.cond (.t 5)
        (.seq (.reg [⟨(some 7), .fadr 1 (.t 1), none⟩,
           ⟨(some 8), .ld none (.t 7), none⟩,
           ⟨(some 9), .call 16 [(.t 8)], none⟩,
           ⟨(some 2), .mv (.t 9), none⟩])
         .ret)
        (.seq (.reg [⟨(some 11), .bin .eql (.t 4) (.c (.d (.int .i64 2))), none⟩,
           ⟨(some 10), .mv (.t 11), none⟩])
         (.cond (.t 10)
           (.seq (.reg [⟨(some 12), .fadr 1 (.t 1), none⟩,
              ⟨(some 13), .ld none (.t 12), none⟩,
              ⟨(some 14), .call 14 [(.t 13)], none⟩,
              ⟨(some 2), .mv (.t 14), none⟩])
            .ret)
           (.seq (.reg [⟨(some 16), .bin .eql (.t 4) (.c (.d (.int .i64 3))), none⟩,
              ⟨(some 15), .mv (.t 16), none⟩])
            (.cond (.t 15)
              (.seq (.draw 9 [⟨(some 17), .fadr 2 (.t 1), none⟩,
                 ⟨(some 18), .ld none (.t 17), none⟩,
                 ⟨(some 19), .bin .geq (.t 18) (.c (.d (.int .i64 0))), none⟩,
                 ⟨(some 20), .mv (.t 19), none⟩,
                 ⟨(some 21), .fadr 1 (.t 1), some (20, true)⟩,
                 ⟨(some 22), .ld none (.t 21), some (20, true)⟩,
                 ⟨(some 23), .fadr 2 (.t 1), some (20, true)⟩,
                 ⟨(some 24), .ld none (.t 23), some (20, true)⟩,
                 ⟨(some 25), .call 52 [(.t 24), (.c (.d (.int .i64 10)))], some (20, true)⟩,
                 ⟨(some 26), .bin .eql (.t 22) (.t 25), some (20, true)⟩,
                 ⟨(some 27), .pick (.t 20) (.t 26) (.c (.d (.bool false))), none⟩,
                 ⟨(some 2), .mv (.t 27), none⟩])
               .ret)
              (.seq (.reg [⟨(some 29), .bin .eql (.t 4) (.c (.d (.int .i64 4))), none⟩,
                 ⟨(some 28), .mv (.t 29), none⟩])
               (.cond (.t 28)
                 (.seq (.draw 9 [⟨(some 30), .fadr 1 (.t 1), none⟩,
                    ⟨(some 31), .ld none (.t 30), none⟩,
                    ⟨(some 32), .bin .neq (.t 31) (.c (.d (.str []))), none⟩,
                    ⟨(some 33), .mv (.t 32), none⟩,
                    ⟨(some 34), .fadr 1 (.t 1), some (33, true)⟩,
                    ⟨(some 35), .ld none (.t 34), some (33, true)⟩,
                    ⟨(some 36), .call 49 [(.t 35)], some (33, true)⟩,
                    ⟨(some 37), .fadr 1 (.t 1), some (33, true)⟩,
                    ⟨(some 38), .ld none (.t 37), some (33, true)⟩,
                    ⟨(some 39), .bin .eql (.t 36) (.t 38), some (33, true)⟩,
                    ⟨(some 40), .pick (.t 33) (.t 39) (.c (.d (.bool false))), none⟩,
                    ⟨(some 2), .mv (.t 40), none⟩])
                  .ret)
                 (.seq (.reg [⟨(some 42), .bin .eql (.t 4) (.c (.d (.int .i64 5))), none⟩,
                    ⟨(some 41), .mv (.t 42), none⟩])
                  (.cond (.t 41)
                    (.seq (.reg [⟨(some 43), .fadr 1 (.t 1), none⟩,
                       ⟨(some 44), .ld none (.t 43), none⟩,
                       ⟨(some 45), .bin .eql (.t 44) (.c (.d (.str []))), none⟩,
                       ⟨(some 2), .mv (.t 45), none⟩])
                     .ret)
                    .skip))))))))))))
   (.seq (.reg [⟨(some 2), .mv (.c (.d (.bool false))), none⟩])
    .ret)))
def F38 : VFn := ⟨1, 46, B38, [.tmp 2], false⟩

def A38 : Ann := ⟨keepOf [], ghostOf []⟩
-- 40 patina/patinaref11.right
def B40 : VCode :=
 (.seq (.reg [⟨(some 1), .box (.t 0), none⟩,
    ⟨(some 2), .mv (.c (.d (.bool false))), none⟩])
  (.seq (.seq (.reg [⟨(some 3), .fadr 0 (.t 1), none⟩,
      ⟨(some 4), .ld none (.t 3), none⟩])
    (.block 0 (.seq (.reg [⟨(some 6), .bin .eql (.t 4) (.c (.d (.int .i64 1))), none⟩,
        ⟨(some 5), .mv (.t 6), none⟩])
      (.cond (.t 5)
        (.seq (.reg [⟨(some 7), .fadr 1 (.t 1), none⟩,
           ⟨(some 8), .ld none (.t 7), none⟩,
           ⟨(some 9), .call 17 [(.t 8)], none⟩,
           ⟨(some 2), .mv (.t 9), none⟩])
         .ret)
        (.seq (.reg [⟨(some 11), .bin .eql (.t 4) (.c (.d (.int .i64 2))), none⟩,
           ⟨(some 10), .mv (.t 11), none⟩])
         (.cond (.t 10)
           (.seq (.reg [⟨(some 12), .fadr 1 (.t 1), none⟩,
              ⟨(some 13), .ld none (.t 12), none⟩,
              ⟨(some 14), .call 15 [(.t 13)], none⟩,
              ⟨(some 2), .mv (.t 14), none⟩])
            .ret)
           (.seq (.reg [⟨(some 16), .bin .eql (.t 4) (.c (.d (.int .i64 3))), none⟩,
              ⟨(some 15), .mv (.t 16), none⟩])
            (.cond (.t 15)
              (.seq (.draw 9 [⟨(some 17), .fadr 2 (.t 1), none⟩,
                 ⟨(some 18), .ld none (.t 17), none⟩,
                 ⟨(some 19), .bin .geq (.t 18) (.c (.d (.int .i64 0))), none⟩,
                 ⟨(some 20), .mv (.t 19), none⟩,
                 ⟨(some 21), .fadr 1 (.t 1), some (20, true)⟩,
                 ⟨(some 22), .ld none (.t 21), some (20, true)⟩,
                 ⟨(some 23), .fadr 2 (.t 1), some (20, true)⟩,
                 ⟨(some 24), .ld none (.t 23), some (20, true)⟩,
                 ⟨(some 25), .call 52 [(.t 24), (.c (.d (.int .i64 10)))], some (20, true)⟩,
                 ⟨(some 26), .bin .eql (.t 22) (.t 25), some (20, true)⟩,
                 ⟨(some 27), .pick (.t 20) (.t 26) (.c (.d (.bool false))), none⟩,
                 ⟨(some 2), .mv (.t 27), none⟩])
               .ret)
              (.seq (.reg [⟨(some 29), .bin .eql (.t 4) (.c (.d (.int .i64 4))), none⟩,
                 ⟨(some 28), .mv (.t 29), none⟩])
               (.cond (.t 28)
                 (.seq (.draw 9 [⟨(some 30), .fadr 1 (.t 1), none⟩,
                    ⟨(some 31), .ld none (.t 30), none⟩,
                    ⟨(some 32), .bin .neq (.t 31) (.c (.d (.str []))), none⟩,
                    ⟨(some 33), .mv (.t 32), none⟩,
                    ⟨(some 34), .fadr 1 (.t 1), some (33, true)⟩,
                    ⟨(some 35), .ld none (.t 34), some (33, true)⟩,
                    ⟨(some 36), .call 34 [(.t 35), (.c (.d (.int .i64 0)))], some (33, true)⟩,
                    ⟨(some 37), .fadr 1 (.t 1), some (33, true)⟩,
                    ⟨(some 38), .ld none (.t 37), some (33, true)⟩,
                    ⟨(some 39), .bin .eql (.t 36) (.t 38), some (33, true)⟩,
                    ⟨(some 40), .pick (.t 33) (.t 39) (.c (.d (.bool false))), none⟩,
                    ⟨(some 2), .mv (.t 40), none⟩])
                  .ret)
                 .skip))))))))))
   (.seq (.reg [⟨(some 41), .fadr 0 (.t 1), none⟩,
      ⟨(some 42), .ld none (.t 41), none⟩,
      ⟨(some 43), .bin .eql (.t 42) (.c (.d (.int .i64 5))), none⟩,
      ⟨(some 2), .mv (.t 43), none⟩])
    .ret)))
def F40 : VFn := ⟨1, 44, B40, [.tmp 2], false⟩

def A40 : Ann := ⟨keepOf [], ghostOf []⟩
-- 46 patina/lex.run
def K46_0 : List Nat := [0, 3]
def L46_0 : VCode :=
 (.seq (.seq (.reg [⟨(some 4), .mv (.t 3), none⟩,
     ⟨(some 5), .mv (.t 0), none⟩,
     ⟨(some 6), .len true (.t 5), none⟩,
     ⟨(some 7), .bin .lss (.t 4) (.t 6), none⟩,
     ⟨(some 8), .mv (.t 7), none⟩,
     ⟨(some 9), .mv (.t 0), some (8, true)⟩,
     ⟨(some 10), .mv (.t 3), some (8, true)⟩,
     ⟨(some 11), .idx (.t 9) (.t 10), some (8, true)⟩,
     ⟨(some 12), .call 51 [(.t 11)], some (8, true)⟩,
     ⟨(some 13), .mv (.t 12), some (8, true)⟩,
     ⟨(some 14), .mv (.t 0), some (13, false)⟩,
     ⟨(some 15), .mv (.t 3), some (13, false)⟩,
     ⟨(some 16), .idx (.t 14) (.t 15), some (13, false)⟩,
     ⟨(some 17), .call 47 [(.t 16)], some (13, false)⟩,
     ⟨(some 18), .pick (.t 13) (.c (.d (.bool true))) (.t 17), some (8, true)⟩,
     ⟨(some 19), .pick (.t 8) (.t 18) (.c (.d (.bool false))), none⟩])
   (.cond (.t 19)
     .skip
     (.exit 0)))
  (.block 1 (.reg [⟨(some 20), .mv (.t 3), none⟩,
     ⟨(some 21), .bin .add (.t 20) (.c (.d (.int .i64 1))), none⟩,
     ⟨(some 3), .mv (.t 21), none⟩])))
def B46 : VCode :=
 (.seq (.reg [⟨(some 2), .mv (.c (.d (.int .i64 0))), none⟩])
  (.seq (.reg [⟨(some 3), .mv (.c (.d (.int .i64 0))), none⟩])
   (.seq (.block 0 (.loop K46_0 L46_0))
    (.seq (.reg [⟨(some 22), .mv (.t 3), none⟩,
       ⟨(some 2), .mv (.t 22), none⟩])
     .ret))))
def F46 : VFn := ⟨1, 23, B46, [.tmp 2], false⟩

def A46 : Ann := ⟨keepOf [(2, [0, 3])], ghostOf []⟩
-- 47 patina/lex.digit
def B47 : VCode :=
 (.seq (.reg [⟨(some 2), .mv (.c (.d (.bool false))), none⟩])
  (.seq (.seq (.reg [⟨(some 3), .mv (.t 0), none⟩])
    (.block 0 (.seq (.block 2 (.block 1 (.seq (.seq (.seq (.seq (.reg [⟨(some 5), .bin .eql (.t 3) (.c (.d (.int .u8 48))), none⟩,
              ⟨(some 4), .mv (.t 5), none⟩])
            (.cond (.t 4)
              .skip
              (.seq (.reg [⟨(some 6), .bin .eql (.t 3) (.c (.d (.int .u8 49))), none⟩,
                 ⟨(some 4), .mv (.t 6), none⟩])
               (.cond (.t 4)
                 .skip
                 (.seq (.reg [⟨(some 7), .bin .eql (.t 3) (.c (.d (.int .u8 50))), none⟩,
                    ⟨(some 4), .mv (.t 7), none⟩])
                  (.cond (.t 4)
                    .skip
                    (.seq (.reg [⟨(some 8), .bin .eql (.t 3) (.c (.d (.int .u8 51))), none⟩,
                       ⟨(some 4), .mv (.t 8), none⟩])
                     (.cond (.t 4)
                       .skip
                       (.reg [⟨(some 9), .bin .eql (.t 3) (.c (.d (.int .u8 52))), none⟩,
                         ⟨(some 4), .mv (.t 9), none⟩])))))))))
           (.cond (.t 4)
             (.exit 1)
             .skip))
          (.seq (.seq (.reg [⟨(some 11), .bin .eql (.t 3) (.c (.d (.int .u8 53))), none⟩,
              ⟨(some 10), .mv (.t 11), none⟩])
            (.cond (.t 10)
              .skip
              (.seq (.reg [⟨(some 12), .bin .eql (.t 3) (.c (.d (.int .u8 54))), none⟩,
                 ⟨(some 10), .mv (.t 12), none⟩])
               (.cond (.t 10)
                 .skip
                 (.seq (.reg [⟨(some 13), .bin .eql (.t 3) (.c (.d (.int .u8 55))), none⟩,
                    ⟨(some 10), .mv (.t 13), none⟩])
                  (.cond (.t 10)
                    .skip
                    (.seq (.reg [⟨(some 14), .bin .eql (.t 3) (.c (.d (.int .u8 56))), none⟩,
                       ⟨(some 10), .mv (.t 14), none⟩])
                     (.cond (.t 10)
                       .skip
                       (.reg [⟨(some 15), .bin .eql (.t 3) (.c (.d (.int .u8 57))), none⟩,
                         ⟨(some 10), .mv (.t 15), none⟩])))))))))
           (.cond (.t 10)
             (.exit 2)
             .skip)))
         (.exit 0))))
      (.seq (.seq (.reg [⟨(some 2), .mv (.c (.d (.bool true))), none⟩])
        .ret)
       (.exit 0)))))
   (.seq (.reg [⟨(some 2), .mv (.c (.d (.bool false))), none⟩])
    .ret)))
def F47 : VFn := ⟨1, 16, B47, [.tmp 2], false⟩

def A47 : Ann := ⟨keepOf [], ghostOf []⟩
-- 48 patina/lex.number
def B48 : VCode :=
 (.seq (.reg [⟨(some 2), .zbox [(.d (.int .i64 0)), (.d (.str [])), (.d (.int .i64 0)), (.d (.int .i64 0)), (.d (.int .i64 0))], none⟩,
    ⟨(some 3), .mv (.c (.d (.int .i64 0))), none⟩])
  (.seq (.reg [⟨(some 7), .mv (.t 0), none⟩,
     ⟨(some 8), .call 63 [(.t 7), (.c (.d (.int .i64 10))), (.c (.d (.int .i64 64)))], none⟩,
     ⟨(some 6), .mv (.t 8), none⟩,
     ⟨(some 9), .ext (.t 6) 0, none⟩,
     ⟨(some 10), .ext (.t 6) 1, none⟩,
     ⟨(some 4), .mv (.t 9), none⟩,
     ⟨(some 5), .mv (.t 10), none⟩])
   (.seq (.seq (.reg [⟨(some 11), .mv (.t 5), none⟩,
       ⟨(some 12), .isnil true (.t 11), none⟩,
       ⟨(some 13), .mv (.t 12), none⟩,
       ⟨(some 14), .mv (.t 4), some (13, false)⟩,
       ⟨(some 15), .bin .gtr (.t 14) (.c (.d (.int .u64 9223372036854775807))), some (13, false)⟩,
       ⟨(some 16), .pick (.t 13) (.c (.d (.bool true))) (.t 15), none⟩])
     (.cond (.t 16)
       (.seq (.reg [⟨(some 17), .build [(.d (.int .i64 0)), (.d (.str [])), (.d (.int .i64 0)), (.d (.int .i64 0)), (.d (.int .i64 0))] [], none⟩,
          ⟨none, .st 5 (.t 2) (.t 17), none⟩,
          ⟨(some 3), .mv (.c (.d (.int .i64 112))), none⟩])
        .ret)
       .skip))
    (.seq (.reg [⟨(some 18), .mv (.t 0), none⟩,
       ⟨(some 19), .mv (.t 4), none⟩,
       ⟨(some 20), .conv .i64 (.t 19), none⟩,
       ⟨(some 21), .build [(.d (.int .i64 0)), (.d (.str [])), (.d (.int .i64 0)), (.d (.int .i64 0)), (.d (.int .i64 0))] [(0, 1, (.c (.d (.int .i64 3)))), (1, 1, (.t 18)), (2, 1, (.t 20))], none⟩,
       ⟨none, .st 5 (.t 2) (.t 21), none⟩,
       ⟨(some 3), .mv (.c (.d (.int .i64 0))), none⟩])
     .ret))))
def F48 : VFn := ⟨1, 22, B48, [.cell 2 (some 5), .tmp 3], false⟩

def A48 : Ann := ⟨keepOf [], ghostOf []⟩
-- 49 patina/lex.sign
def B49 : VCode :=
 (.seq (.reg [⟨(some 2), .mv (.c (.d (.str []))), none⟩])
  (.seq (.seq (.reg [⟨(some 3), .mv (.t 0), none⟩,
      ⟨(some 4), .len true (.t 3), none⟩,
      ⟨(some 5), .bin .gtr (.t 4) (.c (.d (.int .i64 1))), none⟩,
      ⟨(some 6), .mv (.t 5), none⟩,
      ⟨(some 7), .mv (.t 0), some (6, true)⟩,
      ⟨(some 8), .slcs (.t 7) none (some (.c (.d (.int .i64 2)))), some (6, true)⟩,
      ⟨(some 9), .call 64 [(.t 8)], some (6, true)⟩,
      ⟨(some 10), .pick (.t 6) (.t 9) (.c (.d (.bool false))), none⟩])
    (.cond (.t 10)
      (.seq (.reg [⟨(some 11), .mv (.t 0), none⟩,
         ⟨(some 12), .slcs (.t 11) none (some (.c (.d (.int .i64 2)))), none⟩,
         ⟨(some 2), .mv (.t 12), none⟩])
       .ret)
      .skip))
   (.seq (.seq (.reg [⟨(some 13), .mv (.t 0), none⟩,
       ⟨(some 14), .bin .neq (.t 13) (.c (.d (.str []))), none⟩,
       ⟨(some 15), .mv (.t 14), none⟩,
       ⟨(some 16), .mv (.t 0), some (15, true)⟩,
       ⟨(some 17), .idx (.t 16) (.c (.d (.int .i64 0))), some (15, true)⟩,
       ⟨(some 18), .call 44 [(.c (.d (.str [40, 41, 123, 125, 60, 62, 44, 59, 58, 61, 43, 45, 42, 47, 37, 38, 33, 46, 95]))), (.t 17)], some (15, true)⟩,
       ⟨(some 19), .bin .geq (.t 18) (.c (.d (.int .i64 0))), some (15, true)⟩,
       ⟨(some 20), .pick (.t 15) (.t 19) (.c (.d (.bool false))), none⟩])
     (.cond (.t 20)
       (.seq (.reg [⟨(some 21), .mv (.t 0), none⟩,
          ⟨(some 22), .slcs (.t 21) none (some (.c (.d (.int .i64 1)))), none⟩,
          ⟨(some 2), .mv (.t 22), none⟩])
        .ret)
       .skip))
    (.seq (.reg [⟨(some 2), .mv (.c (.d (.str []))), none⟩])
     .ret))))
def F49 : VFn := ⟨1, 23, B49, [.tmp 2], false⟩

def A49 : Ann := ⟨keepOf [], ghostOf []⟩
-- 50 patina/patinaref11.number
def K50_0 : List Nat := [0, 4, 5]
def L50_0 : VCode :=
 (.seq (.seq (.reg [⟨(some 6), .mv (.t 5), none⟩,
     ⟨(some 7), .mv (.t 0), none⟩,
     ⟨(some 8), .len true (.t 7), none⟩,
     ⟨(some 9), .bin .lss (.t 6) (.t 8), none⟩])
   (.cond (.t 9)
     .skip
     (.exit 0)))
  (.seq (.block 1 (.seq (.seq (.reg [⟨(some 12), .mv (.t 4), none⟩,
        ⟨(some 13), .bin .gtr (.t 12) (.c (.d (.int .u64 922337203685477580))), none⟩])
      (.cond (.t 13)
        (.seq (.reg [⟨(some 2), .mv (.c (.d (.int .i64 0))), none⟩,
           ⟨(some 3), .mv (.c (.d (.bool false))), none⟩])
         .ret)
        .skip))
     (.reg [⟨(some 14), .mv (.t 4), none⟩,
       ⟨(some 15), .bin .mul (.t 14) (.c (.d (.int .u64 10))), none⟩,
       ⟨(some 16), .mv (.t 0), none⟩,
       ⟨(some 17), .mv (.t 5), none⟩,
       ⟨(some 18), .idx (.t 16) (.t 17), none⟩,
       ⟨(some 19), .bin .sub (.t 18) (.c (.d (.int .u8 48))), none⟩,
       ⟨(some 20), .conv .u64 (.t 19), none⟩,
       ⟨(some 21), .bin .add (.t 15) (.t 20), none⟩,
       ⟨(some 4), .mv (.t 21), none⟩])))
   (.reg [⟨(some 10), .mv (.t 5), none⟩,
     ⟨(some 11), .bin .add (.t 10) (.c (.d (.int .i64 1))), none⟩,
     ⟨(some 5), .mv (.t 11), none⟩])))
def B50 : VCode :=
 (.seq (.reg [⟨(some 2), .mv (.c (.d (.int .i64 0))), none⟩,
    ⟨(some 3), .mv (.c (.d (.bool false))), none⟩])
  (.seq (.reg [⟨(some 4), .mv (.c (.d (.int .u64 0))), none⟩])
   (.seq (.seq (.reg [⟨(some 5), .mv (.c (.d (.int .i64 0))), none⟩])
     (.block 0 (.loop K50_0 L50_0)))
    (.seq (.reg [⟨(some 22), .mv (.t 4), none⟩,
       ⟨(some 23), .conv .i64 (.t 22), none⟩,
       ⟨(some 24), .mv (.t 4), none⟩,
       ⟨(some 25), .bin .leq (.t 24) (.c (.d (.int .u64 9223372036854775807))), none⟩,
       ⟨(some 2), .mv (.t 23), none⟩,
       ⟨(some 3), .mv (.t 25), none⟩])
     .ret))))
def F50 : VFn := ⟨1, 26, B50, [.tmp 2, .tmp 3], false⟩

def A50 : Ann := ⟨keepOf [(3, [0, 4, 5])], ghostOf []⟩
-- 51 patina/lex.letter
def B51 : VCode :=
 (.seq (.reg [⟨(some 2), .mv (.c (.d (.bool false))), none⟩])
  (.seq (.reg [⟨(some 3), .mv (.t 0), none⟩,
     ⟨(some 4), .bin .geq (.t 3) (.c (.d (.int .u8 97))), none⟩,
     ⟨(some 5), .mv (.t 4), none⟩,
     ⟨(some 6), .mv (.t 0), some (5, true)⟩,
     ⟨(some 7), .bin .leq (.t 6) (.c (.d (.int .u8 122))), some (5, true)⟩,
     ⟨(some 8), .pick (.t 5) (.t 7) (.c (.d (.bool false))), none⟩,
     ⟨(some 9), .mv (.t 8), none⟩,
     ⟨(some 10), .mv (.t 0), some (9, false)⟩,
     ⟨(some 11), .bin .geq (.t 10) (.c (.d (.int .u8 65))), some (9, false)⟩,
     ⟨(some 12), .mv (.t 11), some (9, false)⟩,
     ⟨(some 13), .mv (.t 0), some (12, true)⟩,
     ⟨(some 14), .bin .leq (.t 13) (.c (.d (.int .u8 90))), some (12, true)⟩,
     ⟨(some 15), .pick (.t 12) (.t 14) (.c (.d (.bool false))), some (9, false)⟩,
     ⟨(some 16), .pick (.t 9) (.c (.d (.bool true))) (.t 15), none⟩,
     ⟨(some 17), .mv (.t 16), none⟩,
     ⟨(some 18), .mv (.t 0), some (17, false)⟩,
     ⟨(some 19), .bin .eql (.t 18) (.c (.d (.int .u8 95))), some (17, false)⟩,
     ⟨(some 20), .pick (.t 17) (.c (.d (.bool true))) (.t 19), none⟩,
     ⟨(some 2), .mv (.t 20), none⟩])
   .ret))
def F51 : VFn := ⟨1, 21, B51, [.tmp 2], false⟩

def A51 : Ann := ⟨keepOf [], ghostOf []⟩
-- 64 patina/lex.two
def B64 : VCode :=
 (.seq (.reg [⟨(some 2), .mv (.c (.d (.bool false))), none⟩])
  (.seq (.seq (.reg [⟨(some 3), .mv (.t 0), none⟩])
    (.block 0 (.seq (.seq (.reg [⟨(some 5), .bin .eql (.t 3) (.c (.d (.str [58, 58]))), none⟩,
         ⟨(some 4), .mv (.t 5), none⟩])
       (.cond (.t 4)
         .skip
         (.seq (.reg [⟨(some 6), .bin .eql (.t 3) (.c (.d (.str [45, 62]))), none⟩,
            ⟨(some 4), .mv (.t 6), none⟩])
          (.cond (.t 4)
            .skip
            (.seq (.reg [⟨(some 7), .bin .eql (.t 3) (.c (.d (.str [61, 62]))), none⟩,
               ⟨(some 4), .mv (.t 7), none⟩])
             (.cond (.t 4)
               .skip
               (.seq (.reg [⟨(some 8), .bin .eql (.t 3) (.c (.d (.str [61, 61]))), none⟩,
                  ⟨(some 4), .mv (.t 8), none⟩])
                (.cond (.t 4)
                  .skip
                  (.seq (.reg [⟨(some 9), .bin .eql (.t 3) (.c (.d (.str [33, 61]))), none⟩,
                     ⟨(some 4), .mv (.t 9), none⟩])
                   (.cond (.t 4)
                     .skip
                     (.seq (.reg [⟨(some 10), .bin .eql (.t 3) (.c (.d (.str [60, 61]))), none⟩,
                        ⟨(some 4), .mv (.t 10), none⟩])
                      (.cond (.t 4)
                        .skip
                        (.seq (.reg [⟨(some 11), .bin .eql (.t 3) (.c (.d (.str [62, 61]))), none⟩,
                           ⟨(some 4), .mv (.t 11), none⟩])
                         (.cond (.t 4)
                           .skip
                           (.seq (.reg [⟨(some 12), .bin .eql (.t 3) (.c (.d (.str [38, 38]))), none⟩,
                              ⟨(some 4), .mv (.t 12), none⟩])
                            (.cond (.t 4)
                              .skip
                              (.reg [⟨(some 13), .bin .eql (.t 3) (.c (.d (.str [124, 124]))), none⟩,
                                ⟨(some 4), .mv (.t 13), none⟩])))))))))))))))))
      (.cond (.t 4)
        (.seq (.reg [⟨(some 2), .mv (.c (.d (.bool true))), none⟩])
         .ret)
        .skip))))
   (.seq (.reg [⟨(some 2), .mv (.c (.d (.bool false))), none⟩])
    .ret)))
def F64 : VFn := ⟨1, 14, B64, [.tmp 2], false⟩

def A64 : Ann := ⟨keepOf [], ghostOf []⟩
def tbl : Nat → Option VFun
  | 3 => some (.code F3)
  | 4 => some (.code F4)
  | 5 => some (.code F5)
  | 6 => some (.code F6)
  | 7 => some (.code F7)
  | 8 => some (.code F8)
  | 9 => some (.code F9)
  | 10 => some (.code F10)
  | 11 => some (.code F11)
  | 12 => some (.code F12)
  | 13 => some (.code F13)
  | 14 => some (.code F14)
  | 15 => some (.code F15)
  | 16 => some (.code F16)
  | 17 => some (.code F17)
  | 18 => some (.code F18)
  | 19 => some (.code F19)
  | 20 => some (.code F20)
  | 21 => some (.code F21)
  | 22 => some (.code F22)
  | 24 => some (.code F24)
  | 25 => some (.code F25)
  | 26 => some (.code F26)
  | 27 => some (.code F27)
  | 28 => some (.code F28)
  | 29 => some (.code F29)
  | 30 => some (.code F30)
  | 31 => some (.code F31)
  | 32 => some (.code F32)
  | 33 => some (.code F33)
  | 34 => some (.code F34)
  | 35 => some (.code F35)
  | 36 => some (.code F36)
  | 37 => some (.code F37)
  | 38 => some (.code F38)
  | 40 => some (.code F40)
  | 46 => some (.code F46)
  | 47 => some (.code F47)
  | 48 => some (.code F48)
  | 49 => some (.code F49)
  | 50 => some (.code F50)
  | 51 => some (.code F51)
  | 64 => some (.code F64)
  | 23 => some (.prim primUtf)
  | 39 => some (.prim primJoin)
  | 41 => some (.prim primCount1)
  | 42 => some (.prim primLastIndexByte)
  | 43 => some (.prim primDecode)
  | 44 => some (.prim primIndexByte)
  | 45 => some (.prim primHasPrefix)
  | 52 => some (.prim primFmt)
  | 63 => some (.prim primParse)
  | _ => none
theorem tbl3 : tbl 3 = some (.code F3) := rfl
theorem tbl4 : tbl 4 = some (.code F4) := rfl
theorem tbl5 : tbl 5 = some (.code F5) := rfl
theorem tbl6 : tbl 6 = some (.code F6) := rfl
theorem tbl7 : tbl 7 = some (.code F7) := rfl
theorem tbl8 : tbl 8 = some (.code F8) := rfl
theorem tbl9 : tbl 9 = some (.code F9) := rfl
theorem tbl10 : tbl 10 = some (.code F10) := rfl
theorem tbl11 : tbl 11 = some (.code F11) := rfl
theorem tbl12 : tbl 12 = some (.code F12) := rfl
theorem tbl13 : tbl 13 = some (.code F13) := rfl
theorem tbl14 : tbl 14 = some (.code F14) := rfl
theorem tbl15 : tbl 15 = some (.code F15) := rfl
theorem tbl16 : tbl 16 = some (.code F16) := rfl
theorem tbl17 : tbl 17 = some (.code F17) := rfl
theorem tbl18 : tbl 18 = some (.code F18) := rfl
theorem tbl19 : tbl 19 = some (.code F19) := rfl
theorem tbl20 : tbl 20 = some (.code F20) := rfl
theorem tbl21 : tbl 21 = some (.code F21) := rfl
theorem tbl22 : tbl 22 = some (.code F22) := rfl
theorem tbl24 : tbl 24 = some (.code F24) := rfl
theorem tbl25 : tbl 25 = some (.code F25) := rfl
theorem tbl26 : tbl 26 = some (.code F26) := rfl
theorem tbl27 : tbl 27 = some (.code F27) := rfl
theorem tbl28 : tbl 28 = some (.code F28) := rfl
theorem tbl29 : tbl 29 = some (.code F29) := rfl
theorem tbl30 : tbl 30 = some (.code F30) := rfl
theorem tbl31 : tbl 31 = some (.code F31) := rfl
theorem tbl32 : tbl 32 = some (.code F32) := rfl
theorem tbl33 : tbl 33 = some (.code F33) := rfl
theorem tbl34 : tbl 34 = some (.code F34) := rfl
theorem tbl35 : tbl 35 = some (.code F35) := rfl
theorem tbl36 : tbl 36 = some (.code F36) := rfl
theorem tbl37 : tbl 37 = some (.code F37) := rfl
theorem tbl38 : tbl 38 = some (.code F38) := rfl
theorem tbl40 : tbl 40 = some (.code F40) := rfl
theorem tbl46 : tbl 46 = some (.code F46) := rfl
theorem tbl47 : tbl 47 = some (.code F47) := rfl
theorem tbl48 : tbl 48 = some (.code F48) := rfl
theorem tbl49 : tbl 49 = some (.code F49) := rfl
theorem tbl50 : tbl 50 = some (.code F50) := rfl
theorem tbl51 : tbl 51 = some (.code F51) := rfl
theorem tbl64 : tbl 64 = some (.code F64) := rfl
abbrev n_law11_LexTokens : Nat := 3
theorem t_law11_LexTokens : tbl 3 = some (.code F3) := rfl
abbrev n_law11_LexNames : Nat := 4
theorem t_law11_LexNames : tbl 4 = some (.code F4) := rfl
abbrev n_law11_LexCovers : Nat := 5
theorem t_law11_LexCovers : tbl 5 = some (.code F5) := rfl
abbrev n_law11_LexBlanks : Nat := 6
theorem t_law11_LexBlanks : tbl 6 = some (.code F6) := rfl
abbrev n_law11_LexPrints : Nat := 7
theorem t_law11_LexPrints : tbl 7 = some (.code F7) := rfl
abbrev n_law11_LexBack : Nat := 8
theorem t_law11_LexBack : tbl 8 = some (.code F8) := rfl
abbrev n_law11_LexPlaces : Nat := 9
theorem t_law11_LexPlaces : tbl 9 = some (.code F9) := rfl
abbrev n_lex_Tokens : Nat := 10
theorem t_lex_Tokens : tbl 10 = some (.code F10) := rfl
abbrev n_ref11_Tokens : Nat := 11
theorem t_ref11_Tokens : tbl 11 = some (.code F11) := rfl
abbrev n_plain_Tokens : Nat := 12
theorem t_plain_Tokens : tbl 12 = some (.code F12) := rfl
abbrev n_law11_small : Nat := 13
theorem t_law11_small : tbl 13 = some (.code F13) := rfl
abbrev n_lex_Word : Nat := 14
theorem t_lex_Word : tbl 14 = some (.code F14) := rfl
abbrev n_ref11_Word : Nat := 15
theorem t_ref11_Word : tbl 15 = some (.code F15) := rfl
abbrev n_lex_Name : Nat := 16
theorem t_lex_Name : tbl 16 = some (.code F16) := rfl
abbrev n_ref11_Name : Nat := 17
theorem t_ref11_Name : tbl 17 = some (.code F17) := rfl
abbrev n_law11_plain : Nat := 18
theorem t_law11_plain : tbl 18 = some (.code F18) := rfl
abbrev n_lex_Print : Nat := 19
theorem t_lex_Print : tbl 19 = some (.code F19) := rfl
abbrev n_ref11_Print : Nat := 20
theorem t_ref11_Print : tbl 20 = some (.code F20) := rfl
abbrev n_lex_Place : Nat := 21
theorem t_lex_Place : tbl 21 = some (.code F21) := rfl
abbrev n_ref11_Place : Nat := 22
theorem t_ref11_Place : tbl 22 = some (.code F22) := rfl
abbrev n_lex_skip : Nat := 24
theorem t_lex_skip : tbl 24 = some (.code F24) := rfl
abbrev n_lex_token : Nat := 25
theorem t_lex_token : tbl 25 = some (.code F25) := rfl
abbrev n_ref11_diag : Nat := 26
theorem t_ref11_diag : tbl 26 = some (.code F26) := rfl
abbrev n_ref11_strange : Nat := 27
theorem t_ref11_strange : tbl 27 = some (.code F27) := rfl
abbrev n_ref11_blank : Nat := 28
theorem t_ref11_blank : tbl 28 = some (.code F28) := rfl
abbrev n_ref11_run : Nat := 29
theorem t_ref11_run : tbl 29 = some (.code F29) := rfl
abbrev n_ref11_digit : Nat := 30
theorem t_ref11_digit : tbl 30 = some (.code F30) := rfl
abbrev n_ref11_numbered : Nat := 31
theorem t_ref11_numbered : tbl 31 = some (.code F31) := rfl
abbrev n_ref11_letter : Nat := 32
theorem t_ref11_letter : tbl 32 = some (.code F32) := rfl
abbrev n_ref11_named : Nat := 33
theorem t_ref11_named : tbl 33 = some (.code F33) := rfl
abbrev n_ref11_sign : Nat := 34
theorem t_ref11_sign : tbl 34 = some (.code F34) := rfl
abbrev n_ref11_Size : Nat := 35
theorem t_ref11_Size : tbl 35 = some (.code F35) := rfl
abbrev n_lex_spelt : Nat := 36
theorem t_lex_spelt : tbl 36 = some (.code F36) := rfl
abbrev n_ref11_spelt : Nat := 37
theorem t_ref11_spelt : tbl 37 = some (.code F37) := rfl
abbrev n_lex_fits : Nat := 38
theorem t_lex_fits : tbl 38 = some (.code F38) := rfl
abbrev n_ref11_right : Nat := 40
theorem t_ref11_right : tbl 40 = some (.code F40) := rfl
abbrev n_lex_run : Nat := 46
theorem t_lex_run : tbl 46 = some (.code F46) := rfl
abbrev n_lex_digit : Nat := 47
theorem t_lex_digit : tbl 47 = some (.code F47) := rfl
abbrev n_lex_number : Nat := 48
theorem t_lex_number : tbl 48 = some (.code F48) := rfl
abbrev n_lex_sign : Nat := 49
theorem t_lex_sign : tbl 49 = some (.code F49) := rfl
abbrev n_ref11_number : Nat := 50
theorem t_ref11_number : tbl 50 = some (.code F50) := rfl
abbrev n_lex_letter : Nat := 51
theorem t_lex_letter : tbl 51 = some (.code F51) := rfl
abbrev n_lex_two : Nat := 64
theorem t_lex_two : tbl 64 = some (.code F64) := rfl
abbrev n_primUtf : Nat := 23
theorem t_primUtf : tbl 23 = some (.prim primUtf) := rfl
abbrev n_primJoin : Nat := 39
theorem t_primJoin : tbl 39 = some (.prim primJoin) := rfl
abbrev n_primCount1 : Nat := 41
theorem t_primCount1 : tbl 41 = some (.prim primCount1) := rfl
abbrev n_primLastIndexByte : Nat := 42
theorem t_primLastIndexByte : tbl 42 = some (.prim primLastIndexByte) := rfl
abbrev n_primDecode : Nat := 43
theorem t_primDecode : tbl 43 = some (.prim primDecode) := rfl
abbrev n_primIndexByte : Nat := 44
theorem t_primIndexByte : tbl 44 = some (.prim primIndexByte) := rfl
abbrev n_primHasPrefix : Nat := 45
theorem t_primHasPrefix : tbl 45 = some (.prim primHasPrefix) := rfl
abbrev n_primFmt : Nat := 52
theorem t_primFmt : tbl 52 = some (.prim primFmt) := rfl
abbrev n_primParse : Nat := 63
theorem t_primParse : tbl 63 = some (.prim primParse) := rfl
end Go.Vm.Lex
