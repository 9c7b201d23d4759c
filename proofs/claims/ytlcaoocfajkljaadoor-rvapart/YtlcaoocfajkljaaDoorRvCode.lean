import Derived.Test.YtlcaoocfajkljaaDoorVmRun
import Derived.Test.YtlcaoocfajkljaaDoorVmTr
import Derived.Test.YtlcaoocfajkljaaDoorVmPrimStr
set_option maxRecDepth 100000
namespace Go.Vm.Rv
open Go Go.Vm
def keepOf (l : List (Nat × List Nat)) (i : Nat) : List Nat := ((l.find? (·.1 == i)).map (·.2)).getD []
def ghostOf (l : List (Nat × List VCode)) (i : Nat) : List VCode := ((l.find? (·.1 == i)).map (·.2)).getD []
-- 3 patina/patinalaw01.RvEncodes
def B3 : VCode :=
 (.seq (.reg [⟨(some 1), .box (.t 0), none⟩,
    ⟨(some 2), .mv (.c (.d (.bool false))), none⟩])
  (.seq (.reg [⟨(some 8), .ld (some 5) (.t 1), none⟩,
     ⟨(some 9), .call 8 [(.t 8)], none⟩,
     ⟨(some 7), .mv (.t 9), none⟩,
     ⟨(some 10), .ext (.t 7) 0, none⟩,
     ⟨(some 11), .ext (.t 7) 1, none⟩,
     ⟨(some 3), .mv (.t 10), none⟩,
     ⟨(some 4), .mv (.t 11), none⟩])
   (.seq (.reg [⟨(some 13), .ld (some 5) (.t 1), none⟩,
      ⟨(some 14), .call 9 [(.t 13)], none⟩,
      ⟨(some 12), .mv (.t 14), none⟩,
      ⟨(some 15), .ext (.t 12) 0, none⟩,
      ⟨(some 16), .ext (.t 12) 1, none⟩,
      ⟨(some 5), .mv (.t 15), none⟩,
      ⟨(some 6), .mv (.t 16), none⟩])
    (.seq (.draw 12 [⟨(some 17), .mv (.t 3), none⟩,
       ⟨(some 18), .mv (.t 5), none⟩,
       ⟨(some 19), .bin .eql (.t 17) (.t 18), none⟩,
       ⟨(some 20), .mv (.t 19), none⟩,
       ⟨(some 21), .mv (.t 4), some (20, true)⟩,
       ⟨(some 22), .mv (.t 6), some (20, true)⟩,
       ⟨(some 23), .bin .eql (.t 21) (.t 22), some (20, true)⟩,
       ⟨(some 24), .pick (.t 20) (.t 23) (.c (.d (.bool false))), none⟩,
       ⟨(some 25), .mv (.t 24), none⟩,
       ⟨(some 26), .ld (some 5) (.t 1), some (25, true)⟩,
       ⟨(some 27), .call 10 [(.t 26)], some (25, true)⟩,
       ⟨(some 28), .ld (some 5) (.t 1), some (25, true)⟩,
       ⟨(some 29), .call 11 [(.t 28)], some (25, true)⟩,
       ⟨(some 30), .bin .eql (.t 27) (.t 29), some (25, true)⟩,
       ⟨(some 31), .pick (.t 25) (.t 30) (.c (.d (.bool false))), none⟩,
       ⟨(some 32), .mv (.t 31), none⟩,
       ⟨(some 33), .call 12 [], some (32, true)⟩,
       ⟨(some 34), .pick (.t 32) (.t 33) (.c (.d (.bool false))), none⟩,
       ⟨(some 2), .mv (.t 34), none⟩])
     .ret))))
def F3 : VFn := ⟨1, 35, B3, [.tmp 2], false⟩

def A3 : Ann := ⟨keepOf [], ghostOf []⟩
-- 4 patina/patinalaw01.RvDecodes
def B4 : VCode :=
 (.seq (.reg [⟨(some 2), .mv (.c (.d (.bool false))), none⟩])
  (.seq (.reg [⟨(some 8), .mv (.t 0), none⟩,
     ⟨(some 9), .call 13 [(.t 8)], none⟩,
     ⟨(some 7), .mv (.t 9), none⟩,
     ⟨(some 10), .ext (.t 7) 0, none⟩,
     ⟨(some 11), .ext (.t 7) 1, none⟩,
     ⟨(some 3), .zbox [(.d (.int .i64 0)), (.d (.int .i64 0)), (.d (.int .i64 0)), (.d (.int .i64 0)), (.d (.int .i64 0))], none⟩,
     ⟨none, .st 5 (.t 3) (.t 10), none⟩,
     ⟨(some 4), .mv (.t 11), none⟩])
   (.seq (.reg [⟨(some 13), .mv (.t 0), none⟩,
      ⟨(some 14), .call 14 [(.t 13)], none⟩,
      ⟨(some 12), .mv (.t 14), none⟩,
      ⟨(some 15), .ext (.t 12) 0, none⟩,
      ⟨(some 16), .ext (.t 12) 1, none⟩,
      ⟨(some 5), .zbox [(.d (.int .i64 0)), (.d (.int .i64 0)), (.d (.int .i64 0)), (.d (.int .i64 0)), (.d (.int .i64 0))], none⟩,
      ⟨none, .st 5 (.t 5) (.t 15), none⟩,
      ⟨(some 6), .mv (.t 16), none⟩])
    (.seq (.reg [⟨(some 17), .ld (some 5) (.t 3), none⟩,
       ⟨(some 18), .ld (some 5) (.t 5), none⟩,
       ⟨(some 19), .eqa false [1, 1, 1, 1, 1] (.t 17) (.t 18), none⟩,
       ⟨(some 20), .mv (.t 19), none⟩,
       ⟨(some 21), .mv (.t 4), some (20, true)⟩,
       ⟨(some 22), .mv (.t 6), some (20, true)⟩,
       ⟨(some 23), .bin .eql (.t 21) (.t 22), some (20, true)⟩,
       ⟨(some 24), .pick (.t 20) (.t 23) (.c (.d (.bool false))), none⟩,
       ⟨(some 25), .mv (.t 24), none⟩,
       ⟨(some 26), .call 12 [], some (25, true)⟩,
       ⟨(some 27), .pick (.t 25) (.t 26) (.c (.d (.bool false))), none⟩,
       ⟨(some 2), .mv (.t 27), none⟩])
     .ret))))
def F4 : VFn := ⟨1, 28, B4, [.tmp 2], false⟩

def A4 : Ann := ⟨keepOf [], ghostOf []⟩
-- 5 patina/patinalaw01.RvBack
def B5 : VCode :=
 (.seq (.reg [⟨(some 2), .box (.t 0), none⟩,
    ⟨(some 4), .mv (.c (.d (.bool false))), none⟩])
  (.seq (.reg [⟨(some 14), .ld (some 5) (.t 2), none⟩,
     ⟨(some 15), .call 8 [(.t 14)], none⟩,
     ⟨(some 13), .mv (.t 15), none⟩,
     ⟨(some 16), .ext (.t 13) 0, none⟩,
     ⟨(some 17), .ext (.t 13) 1, none⟩,
     ⟨(some 5), .mv (.t 16), none⟩,
     ⟨(some 6), .mv (.t 17), none⟩])
   (.seq (.seq (.reg [⟨(some 18), .mv (.t 6), none⟩,
       ⟨(some 19), .bin .eql (.t 18) (.c (.d (.int .i64 0))), none⟩,
       ⟨(some 20), .ld (some 5) (.t 2), none⟩,
       ⟨(some 21), .call 15 [(.t 20)], none⟩,
       ⟨(some 22), .eqb true (.t 19) (.t 21), none⟩])
     (.cond (.t 22)
       (.seq (.reg [⟨(some 4), .mv (.c (.d (.bool false))), none⟩])
        .ret)
       .skip))
    (.seq (.seq (.reg [⟨(some 23), .mv (.t 6), none⟩,
        ⟨(some 24), .bin .eql (.t 23) (.c (.d (.int .i64 0))), none⟩])
      (.cond (.t 24)
        (.seq (.reg [⟨(some 26), .mv (.t 5), none⟩,
           ⟨(some 27), .call 13 [(.t 26)], none⟩,
           ⟨(some 25), .mv (.t 27), none⟩,
           ⟨(some 28), .ext (.t 25) 0, none⟩,
           ⟨(some 29), .ext (.t 25) 1, none⟩,
           ⟨(some 7), .zbox [(.d (.int .i64 0)), (.d (.int .i64 0)), (.d (.int .i64 0)), (.d (.int .i64 0)), (.d (.int .i64 0))], none⟩,
           ⟨none, .st 5 (.t 7) (.t 28), none⟩,
           ⟨(some 8), .mv (.t 29), none⟩])
         (.seq (.reg [⟨(some 30), .mv (.t 8), none⟩,
            ⟨(some 31), .bin .neq (.t 30) (.c (.d (.int .i64 0))), none⟩,
            ⟨(some 32), .mv (.t 31), none⟩,
            ⟨(some 33), .ld (some 5) (.t 7), some (32, false)⟩,
            ⟨(some 34), .ld (some 5) (.t 2), some (32, false)⟩,
            ⟨(some 35), .eqa true [1, 1, 1, 1, 1] (.t 33) (.t 34), some (32, false)⟩,
            ⟨(some 36), .pick (.t 32) (.c (.d (.bool true))) (.t 35), none⟩])
          (.cond (.t 36)
            (.seq (.reg [⟨(some 4), .mv (.c (.d (.bool false))), none⟩])
             .ret)
            .skip)))
        .skip))
     (.seq (.reg [⟨(some 38), .mv (.t 1), none⟩,
        ⟨(some 39), .call 13 [(.t 38)], none⟩,
        ⟨(some 37), .mv (.t 39), none⟩,
        ⟨(some 40), .ext (.t 37) 0, none⟩,
        ⟨(some 41), .ext (.t 37) 1, none⟩,
        ⟨(some 9), .zbox [(.d (.int .i64 0)), (.d (.int .i64 0)), (.d (.int .i64 0)), (.d (.int .i64 0)), (.d (.int .i64 0))], none⟩,
        ⟨none, .st 5 (.t 9) (.t 40), none⟩,
        ⟨(some 10), .mv (.t 41), none⟩])
      (.seq (.seq (.reg [⟨(some 42), .mv (.t 10), none⟩,
          ⟨(some 43), .bin .neq (.t 42) (.c (.d (.int .i64 0))), none⟩])
        (.cond (.t 43)
          (.seq (.reg [⟨(some 44), .ld (some 5) (.t 9), none⟩,
             ⟨(some 45), .build [(.d (.int .i64 0)), (.d (.int .i64 0)), (.d (.int .i64 0)), (.d (.int .i64 0)), (.d (.int .i64 0))] [], none⟩,
             ⟨(some 46), .eqa false [1, 1, 1, 1, 1] (.t 44) (.t 45), none⟩,
             ⟨(some 47), .mv (.t 46), none⟩,
             ⟨(some 48), .call 12 [], some (47, true)⟩,
             ⟨(some 49), .pick (.t 47) (.t 48) (.c (.d (.bool false))), none⟩,
             ⟨(some 4), .mv (.t 49), none⟩])
           .ret)
          .skip))
       (.seq (.reg [⟨(some 51), .ld (some 5) (.t 9), none⟩,
          ⟨(some 52), .call 8 [(.t 51)], none⟩,
          ⟨(some 50), .mv (.t 52), none⟩,
          ⟨(some 53), .ext (.t 50) 0, none⟩,
          ⟨(some 54), .ext (.t 50) 1, none⟩,
          ⟨(some 11), .mv (.t 53), none⟩,
          ⟨(some 12), .mv (.t 54), none⟩])
        (.seq (.reg [⟨(some 55), .mv (.t 12), none⟩,
           ⟨(some 56), .bin .eql (.t 55) (.c (.d (.int .i64 0))), none⟩,
           ⟨(some 57), .mv (.t 56), none⟩,
           ⟨(some 58), .mv (.t 11), some (57, true)⟩,
           ⟨(some 59), .mv (.t 1), some (57, true)⟩,
           ⟨(some 60), .bin .eql (.t 58) (.t 59), some (57, true)⟩,
           ⟨(some 61), .pick (.t 57) (.t 60) (.c (.d (.bool false))), none⟩,
           ⟨(some 62), .mv (.t 61), none⟩,
           ⟨(some 63), .call 12 [], some (62, true)⟩,
           ⟨(some 64), .pick (.t 62) (.t 63) (.c (.d (.bool false))), none⟩,
           ⟨(some 4), .mv (.t 64), none⟩])
         .ret))))))))
def F5 : VFn := ⟨2, 65, B5, [.tmp 4], false⟩

def A5 : Ann := ⟨keepOf [], ghostOf []⟩
-- 6 patina/patinalaw01.RvApart
def B6 : VCode :=
 (.seq (.reg [⟨(some 2), .box (.t 0), none⟩,
    ⟨(some 3), .box (.t 1), none⟩,
    ⟨(some 4), .mv (.c (.d (.bool false))), none⟩])
  (.seq (.seq (.reg [⟨(some 13), .ld (some 5) (.t 2), none⟩,
      ⟨(some 14), .ld (some 5) (.t 3), none⟩,
      ⟨(some 15), .eqa false [1, 1, 1, 1, 1] (.t 13) (.t 14), none⟩,
      ⟨(some 16), .mv (.t 15), none⟩,
      ⟨(some 17), .ld (some 5) (.t 2), some (16, false)⟩,
      ⟨(some 18), .call 15 [(.t 17)], some (16, false)⟩,
      ⟨(some 19), .un .not (.t 18), some (16, false)⟩,
      ⟨(some 20), .pick (.t 16) (.c (.d (.bool true))) (.t 19), none⟩,
      ⟨(some 21), .mv (.t 20), none⟩,
      ⟨(some 22), .ld (some 5) (.t 3), some (21, false)⟩,
      ⟨(some 23), .call 15 [(.t 22)], some (21, false)⟩,
      ⟨(some 24), .un .not (.t 23), some (21, false)⟩,
      ⟨(some 25), .pick (.t 21) (.c (.d (.bool true))) (.t 24), none⟩])
    (.cond (.t 25)
      (.seq (.reg [⟨(some 26), .call 12 [], none⟩,
         ⟨(some 4), .mv (.t 26), none⟩])
       .ret)
      .skip))
   (.seq (.reg [⟨(some 28), .ld (some 5) (.t 2), none⟩,
      ⟨(some 29), .call 8 [(.t 28)], none⟩,
      ⟨(some 27), .mv (.t 29), none⟩,
      ⟨(some 30), .ext (.t 27) 0, none⟩,
      ⟨(some 31), .ext (.t 27) 1, none⟩,
      ⟨(some 5), .mv (.t 30), none⟩,
      ⟨(some 6), .mv (.t 31), none⟩])
    (.seq (.reg [⟨(some 33), .ld (some 5) (.t 3), none⟩,
       ⟨(some 34), .call 8 [(.t 33)], none⟩,
       ⟨(some 32), .mv (.t 34), none⟩,
       ⟨(some 35), .ext (.t 32) 0, none⟩,
       ⟨(some 36), .ext (.t 32) 1, none⟩,
       ⟨(some 7), .mv (.t 35), none⟩,
       ⟨(some 8), .mv (.t 36), none⟩])
     (.seq (.reg [⟨(some 38), .ld (some 5) (.t 2), none⟩,
        ⟨(some 39), .call 16 [(.t 38)], none⟩,
        ⟨(some 37), .mv (.t 39), none⟩,
        ⟨(some 40), .ext (.t 37) 0, none⟩,
        ⟨(some 41), .ext (.t 37) 1, none⟩,
        ⟨(some 9), .mv (.t 40), none⟩,
        ⟨(some 10), .mv (.t 41), none⟩])
      (.seq (.reg [⟨(some 43), .ld (some 5) (.t 3), none⟩,
         ⟨(some 44), .call 16 [(.t 43)], none⟩,
         ⟨(some 42), .mv (.t 44), none⟩,
         ⟨(some 45), .ext (.t 42) 0, none⟩,
         ⟨(some 46), .ext (.t 42) 1, none⟩,
         ⟨(some 11), .mv (.t 45), none⟩,
         ⟨(some 12), .mv (.t 46), none⟩])
       (.seq (.reg [⟨(some 47), .mv (.t 6), none⟩,
          ⟨(some 48), .bin .eql (.t 47) (.c (.d (.int .i64 0))), none⟩,
          ⟨(some 49), .mv (.t 48), none⟩,
          ⟨(some 50), .mv (.t 8), some (49, true)⟩,
          ⟨(some 51), .bin .eql (.t 50) (.c (.d (.int .i64 0))), some (49, true)⟩,
          ⟨(some 52), .pick (.t 49) (.t 51) (.c (.d (.bool false))), none⟩,
          ⟨(some 53), .mv (.t 52), none⟩,
          ⟨(some 54), .mv (.t 10), some (53, true)⟩,
          ⟨(some 55), .bin .eql (.t 54) (.c (.d (.int .i64 0))), some (53, true)⟩,
          ⟨(some 56), .pick (.t 53) (.t 55) (.c (.d (.bool false))), none⟩,
          ⟨(some 57), .mv (.t 56), none⟩,
          ⟨(some 58), .mv (.t 12), some (57, true)⟩,
          ⟨(some 59), .bin .eql (.t 58) (.c (.d (.int .i64 0))), some (57, true)⟩,
          ⟨(some 60), .pick (.t 57) (.t 59) (.c (.d (.bool false))), none⟩,
          ⟨(some 61), .mv (.t 60), none⟩,
          ⟨(some 62), .mv (.t 5), some (61, true)⟩,
          ⟨(some 63), .mv (.t 7), some (61, true)⟩,
          ⟨(some 64), .bin .neq (.t 62) (.t 63), some (61, true)⟩,
          ⟨(some 65), .pick (.t 61) (.t 64) (.c (.d (.bool false))), none⟩,
          ⟨(some 66), .mv (.t 65), none⟩,
          ⟨(some 67), .mv (.t 9), some (66, true)⟩,
          ⟨(some 68), .mv (.t 11), some (66, true)⟩,
          ⟨(some 69), .bin .neq (.t 67) (.t 68), some (66, true)⟩,
          ⟨(some 70), .pick (.t 66) (.t 69) (.c (.d (.bool false))), none⟩,
          ⟨(some 71), .mv (.t 70), none⟩,
          ⟨(some 72), .call 12 [], some (71, true)⟩,
          ⟨(some 73), .pick (.t 71) (.t 72) (.c (.d (.bool false))), none⟩,
          ⟨(some 4), .mv (.t 73), none⟩])
        .ret)))))))
def F6 : VFn := ⟨2, 74, B6, [.tmp 4], false⟩

def A6 : Ann := ⟨keepOf [], ghostOf []⟩
-- 7 patina/patinalaw01.RvTexts
def B7 : VCode :=
 (.seq (.reg [⟨(some 2), .box (.t 0), none⟩,
    ⟨(some 4), .mv (.c (.d (.bool false))), none⟩])
  (.seq (.reg [⟨(some 18), .ld (some 5) (.t 2), none⟩,
     ⟨(some 19), .call 16 [(.t 18)], none⟩,
     ⟨(some 17), .mv (.t 19), none⟩,
     ⟨(some 20), .ext (.t 17) 0, none⟩,
     ⟨(some 21), .ext (.t 17) 1, none⟩,
     ⟨(some 5), .mv (.t 20), none⟩,
     ⟨(some 6), .mv (.t 21), none⟩])
   (.seq (.reg [⟨(some 23), .ld (some 5) (.t 2), none⟩,
      ⟨(some 24), .call 17 [(.t 23)], none⟩,
      ⟨(some 22), .mv (.t 24), none⟩,
      ⟨(some 25), .ext (.t 22) 0, none⟩,
      ⟨(some 26), .ext (.t 22) 1, none⟩,
      ⟨(some 7), .mv (.t 25), none⟩,
      ⟨(some 8), .mv (.t 26), none⟩])
    (.seq (.reg [⟨(some 28), .ld (some 5) (.t 2), none⟩,
       ⟨(some 29), .call 18 [(.t 28)], none⟩,
       ⟨(some 27), .mv (.t 29), none⟩,
       ⟨(some 30), .ext (.t 27) 0, none⟩,
       ⟨(some 31), .ext (.t 27) 1, none⟩,
       ⟨(some 9), .mv (.t 30), none⟩,
       ⟨(some 10), .mv (.t 31), none⟩])
     (.seq (.reg [⟨(some 33), .ld (some 5) (.t 2), none⟩,
        ⟨(some 34), .call 19 [(.t 33)], none⟩,
        ⟨(some 32), .mv (.t 34), none⟩,
        ⟨(some 35), .ext (.t 32) 0, none⟩,
        ⟨(some 36), .ext (.t 32) 1, none⟩,
        ⟨(some 11), .mv (.t 35), none⟩,
        ⟨(some 12), .mv (.t 36), none⟩])
      (.seq (.reg [⟨(some 38), .ld (some 5) (.t 2), none⟩,
         ⟨(some 39), .call 20 [(.t 38)], none⟩,
         ⟨(some 37), .mv (.t 39), none⟩,
         ⟨(some 40), .ext (.t 37) 0, none⟩,
         ⟨(some 41), .ext (.t 37) 1, none⟩,
         ⟨(some 13), .mv (.t 40), none⟩,
         ⟨(some 14), .mv (.t 41), none⟩])
       (.seq (.reg [⟨(some 43), .ld (some 5) (.t 2), none⟩,
          ⟨(some 44), .call 21 [(.t 43)], none⟩,
          ⟨(some 42), .mv (.t 44), none⟩,
          ⟨(some 45), .ext (.t 42) 0, none⟩,
          ⟨(some 46), .ext (.t 42) 1, none⟩,
          ⟨(some 15), .mv (.t 45), none⟩,
          ⟨(some 16), .mv (.t 46), none⟩])
        (.seq (.reg [⟨(some 47), .mv (.t 5), none⟩,
           ⟨(some 48), .mv (.t 7), none⟩,
           ⟨(some 49), .bin .eql (.t 47) (.t 48), none⟩,
           ⟨(some 50), .mv (.t 49), none⟩,
           ⟨(some 51), .mv (.t 6), some (50, true)⟩,
           ⟨(some 52), .mv (.t 8), some (50, true)⟩,
           ⟨(some 53), .bin .eql (.t 51) (.t 52), some (50, true)⟩,
           ⟨(some 54), .pick (.t 50) (.t 53) (.c (.d (.bool false))), none⟩,
           ⟨(some 55), .mv (.t 54), none⟩,
           ⟨(some 56), .mv (.t 9), some (55, true)⟩,
           ⟨(some 57), .mv (.t 11), some (55, true)⟩,
           ⟨(some 58), .call 22 [(.t 56), (.t 57)], some (55, true)⟩,
           ⟨(some 59), .pick (.t 55) (.t 58) (.c (.d (.bool false))), none⟩,
           ⟨(some 60), .mv (.t 59), none⟩,
           ⟨(some 61), .mv (.t 10), some (60, true)⟩,
           ⟨(some 62), .mv (.t 12), some (60, true)⟩,
           ⟨(some 63), .bin .eql (.t 61) (.t 62), some (60, true)⟩,
           ⟨(some 64), .pick (.t 60) (.t 63) (.c (.d (.bool false))), none⟩,
           ⟨(some 65), .mv (.t 64), none⟩,
           ⟨(some 66), .mv (.t 13), some (65, true)⟩,
           ⟨(some 67), .mv (.t 15), some (65, true)⟩,
           ⟨(some 68), .bin .eql (.t 66) (.t 67), some (65, true)⟩,
           ⟨(some 69), .pick (.t 65) (.t 68) (.c (.d (.bool false))), none⟩,
           ⟨(some 70), .mv (.t 69), none⟩,
           ⟨(some 71), .mv (.t 14), some (70, true)⟩,
           ⟨(some 72), .mv (.t 16), some (70, true)⟩,
           ⟨(some 73), .bin .eql (.t 71) (.t 72), some (70, true)⟩,
           ⟨(some 74), .pick (.t 70) (.t 73) (.c (.d (.bool false))), none⟩,
           ⟨(some 75), .mv (.t 74), none⟩,
           ⟨(some 76), .mv (.t 1), some (75, true)⟩,
           ⟨(some 77), .call 23 [(.t 76)], some (75, true)⟩,
           ⟨(some 78), .mv (.t 1), some (75, true)⟩,
           ⟨(some 79), .call 24 [(.t 78)], some (75, true)⟩,
           ⟨(some 80), .bin .eql (.t 77) (.t 79), some (75, true)⟩,
           ⟨(some 81), .pick (.t 75) (.t 80) (.c (.d (.bool false))), none⟩,
           ⟨(some 82), .mv (.t 81), none⟩,
           ⟨(some 83), .call 12 [], some (82, true)⟩,
           ⟨(some 84), .pick (.t 82) (.t 83) (.c (.d (.bool false))), none⟩,
           ⟨(some 4), .mv (.t 84), none⟩])
         .ret))))))))
def F7 : VFn := ⟨2, 85, B7, [.tmp 4], false⟩

def A7 : Ann := ⟨keepOf [], ghostOf []⟩
-- 8 patina/rv.Encode
def B8 : VCode :=
 (.seq (.reg [⟨(some 1), .box (.t 0), none⟩,
    ⟨(some 2), .mv (.c (.d (.int .u32 0))), none⟩,
    ⟨(some 3), .mv (.c (.d (.int .i64 0))), none⟩])
  (.seq (.seq (.reg [⟨(some 8), .ld (some 5) (.t 1), none⟩,
      ⟨(some 9), .call 10 [(.t 8)], none⟩,
      ⟨(some 10), .bin .neq (.t 9) (.c (.d (.int .i64 0))), none⟩])
    (.cond (.t 10)
      (.seq (.reg [⟨(some 2), .mv (.c (.d (.int .u32 0))), none⟩,
         ⟨(some 3), .mv (.c (.d (.int .i64 11))), none⟩])
       .ret)
      .skip))
   (.seq (.reg [⟨(some 12), .fadr 0 (.t 1), none⟩,
      ⟨(some 13), .ld none (.t 12), none⟩,
      ⟨(some 14), .call 25 [(.t 13)], none⟩,
      ⟨(some 11), .mv (.t 14), none⟩,
      ⟨(some 15), .ext (.t 11) 0, none⟩,
      ⟨(some 16), .ext (.t 11) 1, none⟩,
      ⟨(some 4), .zbox [(.d (.int .u8 0)), (.d (.int .u32 0)), (.d (.int .u32 0)), (.d (.int .u32 0))], none⟩,
      ⟨none, .st 4 (.t 4) (.t 15), none⟩,
      ⟨(some 5), .mv (.t 16), none⟩])
    (.seq (.reg [⟨(some 17), .fadr 4 (.t 1), none⟩,
       ⟨(some 18), .ld none (.t 17), none⟩,
       ⟨(some 19), .conv .u32 (.t 18), none⟩,
       ⟨(some 6), .mv (.t 19), none⟩])
     (.seq (.reg [⟨(some 20), .fadr 1 (.t 4), none⟩,
        ⟨(some 21), .ld none (.t 20), none⟩,
        ⟨(some 22), .fadr 2 (.t 4), none⟩,
        ⟨(some 23), .ld none (.t 22), none⟩,
        ⟨(some 24), .bin .shl (.t 23) (.c (.d (.int .u64 12))), none⟩,
        ⟨(some 25), .bin .or (.t 21) (.t 24), none⟩,
        ⟨(some 26), .fadr 1 (.t 1), none⟩,
        ⟨(some 27), .ld none (.t 26), none⟩,
        ⟨(some 28), .conv .u32 (.t 27), none⟩,
        ⟨(some 29), .bin .shl (.t 28) (.c (.d (.int .u64 7))), none⟩,
        ⟨(some 30), .bin .or (.t 25) (.t 29), none⟩,
        ⟨(some 31), .fadr 2 (.t 1), none⟩,
        ⟨(some 32), .ld none (.t 31), none⟩,
        ⟨(some 33), .conv .u32 (.t 32), none⟩,
        ⟨(some 34), .bin .shl (.t 33) (.c (.d (.int .u64 15))), none⟩,
        ⟨(some 35), .bin .or (.t 30) (.t 34), none⟩,
        ⟨(some 36), .fadr 3 (.t 1), none⟩,
        ⟨(some 37), .ld none (.t 36), none⟩,
        ⟨(some 38), .conv .u32 (.t 37), none⟩,
        ⟨(some 39), .bin .shl (.t 38) (.c (.d (.int .u64 20))), none⟩,
        ⟨(some 40), .bin .or (.t 35) (.t 39), none⟩,
        ⟨(some 7), .mv (.t 40), none⟩])
      (.seq (.seq (.reg [⟨(some 41), .fadr 0 (.t 4), none⟩,
          ⟨(some 42), .ld none (.t 41), none⟩])
        (.block 0 (.seq (.reg [⟨(some 44), .bin .eql (.t 42) (.c (.d (.int .u8 82))), none⟩,
            ⟨(some 43), .mv (.t 44), none⟩])
          (.cond (.t 43)
            (.reg [⟨(some 45), .mv (.t 7), none⟩,
              ⟨(some 46), .fadr 3 (.t 4), none⟩,
              ⟨(some 47), .ld none (.t 46), none⟩,
              ⟨(some 48), .bin .shl (.t 47) (.c (.d (.int .u64 25))), none⟩,
              ⟨(some 49), .bin .or (.t 45) (.t 48), none⟩,
              ⟨(some 7), .mv (.t 49), none⟩])
            (.seq (.reg [⟨(some 51), .bin .eql (.t 42) (.c (.d (.int .u8 73))), none⟩,
               ⟨(some 50), .mv (.t 51), none⟩])
             (.cond (.t 50)
               (.reg [⟨(some 52), .mv (.t 7), none⟩,
                 ⟨(some 53), .mv (.t 6), none⟩,
                 ⟨(some 54), .call 26 [(.t 53), (.c (.d (.int .u64 0))), (.c (.d (.int .u64 12))), (.c (.d (.int .u64 20)))], none⟩,
                 ⟨(some 55), .bin .or (.t 52) (.t 54), none⟩,
                 ⟨(some 7), .mv (.t 55), none⟩])
               (.seq (.reg [⟨(some 57), .bin .eql (.t 42) (.c (.d (.int .u8 72))), none⟩,
                  ⟨(some 56), .mv (.t 57), none⟩])
                (.cond (.t 56)
                  (.draw 7 [⟨(some 58), .mv (.t 7), none⟩,
                    ⟨(some 59), .fadr 3 (.t 4), none⟩,
                    ⟨(some 60), .ld none (.t 59), none⟩,
                    ⟨(some 61), .bin .shl (.t 60) (.c (.d (.int .u64 25))), none⟩,
                    ⟨(some 62), .mv (.t 6), none⟩,
                    ⟨(some 63), .call 26 [(.t 62), (.c (.d (.int .u64 0))), (.c (.d (.int .u64 6))), (.c (.d (.int .u64 20)))], none⟩,
                    ⟨(some 64), .bin .or (.t 61) (.t 63), none⟩,
                    ⟨(some 65), .bin .or (.t 58) (.t 64), none⟩,
                    ⟨(some 7), .mv (.t 65), none⟩])
                  (.seq (.reg [⟨(some 67), .bin .eql (.t 42) (.c (.d (.int .u8 83))), none⟩,
                     ⟨(some 66), .mv (.t 67), none⟩])
                   (.cond (.t 66)
                     (.reg [⟨(some 68), .mv (.t 7), none⟩,
                       ⟨(some 69), .mv (.t 6), none⟩,
                       ⟨(some 70), .call 26 [(.t 69), (.c (.d (.int .u64 0))), (.c (.d (.int .u64 5))), (.c (.d (.int .u64 7)))], none⟩,
                       ⟨(some 71), .mv (.t 6), none⟩,
                       ⟨(some 72), .call 26 [(.t 71), (.c (.d (.int .u64 5))), (.c (.d (.int .u64 7))), (.c (.d (.int .u64 25)))], none⟩,
                       ⟨(some 73), .bin .or (.t 70) (.t 72), none⟩,
                       ⟨(some 74), .bin .or (.t 68) (.t 73), none⟩,
                       ⟨(some 7), .mv (.t 74), none⟩])
                     (.seq (.reg [⟨(some 76), .bin .eql (.t 42) (.c (.d (.int .u8 66))), none⟩,
                        ⟨(some 75), .mv (.t 76), none⟩])
                      (.cond (.t 75)
                        (.reg [⟨(some 77), .mv (.t 7), none⟩,
                          ⟨(some 78), .mv (.t 6), none⟩,
                          ⟨(some 79), .call 26 [(.t 78), (.c (.d (.int .u64 11))), (.c (.d (.int .u64 1))), (.c (.d (.int .u64 7)))], none⟩,
                          ⟨(some 80), .mv (.t 6), none⟩,
                          ⟨(some 81), .call 26 [(.t 80), (.c (.d (.int .u64 1))), (.c (.d (.int .u64 4))), (.c (.d (.int .u64 8)))], none⟩,
                          ⟨(some 82), .bin .or (.t 79) (.t 81), none⟩,
                          ⟨(some 83), .mv (.t 6), none⟩,
                          ⟨(some 84), .call 26 [(.t 83), (.c (.d (.int .u64 5))), (.c (.d (.int .u64 6))), (.c (.d (.int .u64 25)))], none⟩,
                          ⟨(some 85), .bin .or (.t 82) (.t 84), none⟩,
                          ⟨(some 86), .mv (.t 6), none⟩,
                          ⟨(some 87), .call 26 [(.t 86), (.c (.d (.int .u64 12))), (.c (.d (.int .u64 1))), (.c (.d (.int .u64 31)))], none⟩,
                          ⟨(some 88), .bin .or (.t 85) (.t 87), none⟩,
                          ⟨(some 89), .bin .or (.t 77) (.t 88), none⟩,
                          ⟨(some 7), .mv (.t 89), none⟩])
                        (.seq (.reg [⟨(some 91), .bin .eql (.t 42) (.c (.d (.int .u8 85))), none⟩,
                           ⟨(some 90), .mv (.t 91), none⟩])
                         (.cond (.t 90)
                           (.reg [⟨(some 92), .mv (.t 7), none⟩,
                             ⟨(some 93), .mv (.t 6), none⟩,
                             ⟨(some 94), .call 26 [(.t 93), (.c (.d (.int .u64 0))), (.c (.d (.int .u64 20))), (.c (.d (.int .u64 12)))], none⟩,
                             ⟨(some 95), .bin .or (.t 92) (.t 94), none⟩,
                             ⟨(some 7), .mv (.t 95), none⟩])
                           (.seq (.reg [⟨(some 97), .bin .eql (.t 42) (.c (.d (.int .u8 74))), none⟩,
                              ⟨(some 96), .mv (.t 97), none⟩])
                            (.cond (.t 96)
                              (.reg [⟨(some 98), .mv (.t 7), none⟩,
                                ⟨(some 99), .mv (.t 6), none⟩,
                                ⟨(some 100), .call 26 [(.t 99), (.c (.d (.int .u64 12))), (.c (.d (.int .u64 8))), (.c (.d (.int .u64 12)))], none⟩,
                                ⟨(some 101), .mv (.t 6), none⟩,
                                ⟨(some 102), .call 26 [(.t 101), (.c (.d (.int .u64 11))), (.c (.d (.int .u64 1))), (.c (.d (.int .u64 20)))], none⟩,
                                ⟨(some 103), .bin .or (.t 100) (.t 102), none⟩,
                                ⟨(some 104), .mv (.t 6), none⟩,
                                ⟨(some 105), .call 26 [(.t 104), (.c (.d (.int .u64 1))), (.c (.d (.int .u64 10))), (.c (.d (.int .u64 21)))], none⟩,
                                ⟨(some 106), .bin .or (.t 103) (.t 105), none⟩,
                                ⟨(some 107), .mv (.t 6), none⟩,
                                ⟨(some 108), .call 26 [(.t 107), (.c (.d (.int .u64 20))), (.c (.d (.int .u64 1))), (.c (.d (.int .u64 31)))], none⟩,
                                ⟨(some 109), .bin .or (.t 106) (.t 108), none⟩,
                                ⟨(some 110), .bin .or (.t 98) (.t 109), none⟩,
                                ⟨(some 7), .mv (.t 110), none⟩])
                              .skip))))))))))))))))
       (.seq (.reg [⟨(some 111), .mv (.t 7), none⟩,
          ⟨(some 2), .mv (.t 111), none⟩,
          ⟨(some 3), .mv (.c (.d (.int .i64 0))), none⟩])
        .ret)))))))
def F8 : VFn := ⟨1, 112, B8, [.tmp 2, .tmp 3], false⟩

def A8 : Ann := ⟨keepOf [], ghostOf []⟩
-- 9 patina/patinaref01.Encode
def B9 : VCode :=
 (.seq (.reg [⟨(some 1), .box (.t 0), none⟩,
    ⟨(some 2), .mv (.c (.d (.int .u32 0))), none⟩,
    ⟨(some 3), .mv (.c (.d (.int .i64 0))), none⟩])
  (.seq (.seq (.reg [⟨(some 4), .ld (some 5) (.t 1), none⟩,
      ⟨(some 5), .call 15 [(.t 4)], none⟩,
      ⟨(some 6), .un .not (.t 5), none⟩])
    (.cond (.t 6)
      (.seq (.reg [⟨(some 2), .mv (.c (.d (.int .u32 0))), none⟩,
         ⟨(some 3), .mv (.c (.d (.int .i64 11))), none⟩])
       .ret)
      .skip))
   (.seq (.reg [⟨(some 7), .ld (some 5) (.t 1), none⟩,
      ⟨(some 8), .call 27 [(.t 7)], none⟩,
      ⟨(some 2), .mv (.t 8), none⟩,
      ⟨(some 3), .mv (.c (.d (.int .i64 0))), none⟩])
    .ret)))
def F9 : VFn := ⟨1, 9, B9, [.tmp 2, .tmp 3], false⟩

def A9 : Ann := ⟨keepOf [], ghostOf []⟩
-- 10 patina/rv.Check
def B10 : VCode :=
 (.seq (.reg [⟨(some 1), .box (.t 0), none⟩,
    ⟨(some 2), .mv (.c (.d (.int .i64 0))), none⟩])
  (.seq (.reg [⟨(some 9), .fadr 0 (.t 1), none⟩,
     ⟨(some 10), .ld none (.t 9), none⟩,
     ⟨(some 11), .call 25 [(.t 10)], none⟩,
     ⟨(some 8), .mv (.t 11), none⟩,
     ⟨(some 12), .ext (.t 8) 0, none⟩,
     ⟨(some 13), .ext (.t 8) 1, none⟩,
     ⟨(some 3), .zbox [(.d (.int .u8 0)), (.d (.int .u32 0)), (.d (.int .u32 0)), (.d (.int .u32 0))], none⟩,
     ⟨none, .st 4 (.t 3) (.t 12), none⟩,
     ⟨(some 4), .mv (.t 13), none⟩])
   (.seq (.reg [⟨(some 15), .fadr 0 (.t 3), none⟩,
      ⟨(some 16), .ld none (.t 15), none⟩,
      ⟨(some 17), .call 28 [(.t 16)], none⟩,
      ⟨(some 14), .mv (.t 17), none⟩,
      ⟨(some 18), .ext (.t 14) 0, none⟩,
      ⟨(some 19), .ext (.t 14) 1, none⟩,
      ⟨(some 20), .ext (.t 14) 2, none⟩,
      ⟨(some 5), .mv (.t 18), none⟩,
      ⟨(some 6), .mv (.t 19), none⟩,
      ⟨(some 7), .mv (.t 20), none⟩])
    (.seq (.seq (.reg [⟨(some 21), .mv (.t 4), none⟩,
        ⟨(some 22), .un .not (.t 21), none⟩,
        ⟨(some 23), .mv (.t 22), none⟩,
        ⟨(some 24), .mv (.t 5), some (23, false)⟩,
        ⟨(some 25), .fadr 1 (.t 1), some (23, false)⟩,
        ⟨(some 26), .ld none (.t 25), some (23, false)⟩,
        ⟨(some 27), .call 29 [(.t 24), (.t 26)], some (23, false)⟩,
        ⟨(some 28), .un .not (.t 27), some (23, false)⟩,
        ⟨(some 29), .pick (.t 23) (.c (.d (.bool true))) (.t 28), none⟩,
        ⟨(some 30), .mv (.t 29), none⟩,
        ⟨(some 31), .mv (.t 6), some (30, false)⟩,
        ⟨(some 32), .fadr 2 (.t 1), some (30, false)⟩,
        ⟨(some 33), .ld none (.t 32), some (30, false)⟩,
        ⟨(some 34), .call 29 [(.t 31), (.t 33)], some (30, false)⟩,
        ⟨(some 35), .un .not (.t 34), some (30, false)⟩,
        ⟨(some 36), .pick (.t 30) (.c (.d (.bool true))) (.t 35), none⟩,
        ⟨(some 37), .mv (.t 36), none⟩,
        ⟨(some 38), .mv (.t 7), some (37, false)⟩,
        ⟨(some 39), .fadr 3 (.t 1), some (37, false)⟩,
        ⟨(some 40), .ld none (.t 39), some (37, false)⟩,
        ⟨(some 41), .call 29 [(.t 38), (.t 40)], some (37, false)⟩,
        ⟨(some 42), .un .not (.t 41), some (37, false)⟩,
        ⟨(some 43), .pick (.t 37) (.c (.d (.bool true))) (.t 42), none⟩,
        ⟨(some 44), .mv (.t 43), none⟩,
        ⟨(some 45), .ld (some 4) (.t 3), some (44, false)⟩,
        ⟨(some 46), .fadr 0 (.t 1), some (44, false)⟩,
        ⟨(some 47), .ld none (.t 46), some (44, false)⟩,
        ⟨(some 48), .fadr 4 (.t 1), some (44, false)⟩,
        ⟨(some 49), .ld none (.t 48), some (44, false)⟩,
        ⟨(some 50), .call 30 [(.t 45), (.t 47), (.t 49)], some (44, false)⟩,
        ⟨(some 51), .un .not (.t 50), some (44, false)⟩,
        ⟨(some 52), .pick (.t 44) (.c (.d (.bool true))) (.t 51), none⟩])
      (.cond (.t 52)
        (.seq (.reg [⟨(some 2), .mv (.c (.d (.int .i64 11))), none⟩])
         .ret)
        .skip))
     (.seq (.reg [⟨(some 2), .mv (.c (.d (.int .i64 0))), none⟩])
      .ret)))))
def F10 : VFn := ⟨1, 53, B10, [.tmp 2], false⟩

def A10 : Ann := ⟨keepOf [], ghostOf []⟩
-- 11 patina/patinaref01.Check
def B11 : VCode :=
 (.seq (.reg [⟨(some 1), .box (.t 0), none⟩,
    ⟨(some 2), .mv (.c (.d (.int .i64 0))), none⟩])
  (.seq (.seq (.reg [⟨(some 3), .ld (some 5) (.t 1), none⟩,
      ⟨(some 4), .call 15 [(.t 3)], none⟩])
    (.cond (.t 4)
      (.seq (.reg [⟨(some 2), .mv (.c (.d (.int .i64 0))), none⟩])
       .ret)
      .skip))
   (.seq (.reg [⟨(some 2), .mv (.c (.d (.int .i64 11))), none⟩])
    .ret)))
def F11 : VFn := ⟨1, 5, B11, [.tmp 2], false⟩

def A11 : Ann := ⟨keepOf [], ghostOf []⟩
-- 12 patina/patinalaw01.small
def B12 : VCode :=
 (.seq (.reg [⟨(some 0), .mv (.c (.d (.bool false))), none⟩])
  (.seq (.reg [⟨(some 8), .build [(.d (.int .i64 0)), (.d (.int .i64 0)), (.d (.int .i64 0)), (.d (.int .i64 0)), (.d (.int .i64 0))] [(0, 1, (.c (.d (.int .i64 22)))), (1, 1, (.c (.d (.int .i64 1)))), (2, 1, (.c (.d (.int .i64 2)))), (4, 1, (.c (.d (.int .i64 (-3)))))], none⟩,
     ⟨(some 1), .zbox [(.d (.int .i64 0)), (.d (.int .i64 0)), (.d (.int .i64 0)), (.d (.int .i64 0)), (.d (.int .i64 0))], none⟩,
     ⟨none, .st 5 (.t 1) (.t 8), none⟩])
   (.seq (.reg [⟨(some 10), .ld (some 5) (.t 1), none⟩,
      ⟨(some 11), .call 8 [(.t 10)], none⟩,
      ⟨(some 9), .mv (.t 11), none⟩,
      ⟨(some 12), .ext (.t 9) 0, none⟩,
      ⟨(some 13), .ext (.t 9) 1, none⟩,
      ⟨(some 2), .mv (.t 12), none⟩,
      ⟨(some 3), .mv (.t 13), none⟩])
    (.seq (.reg [⟨(some 15), .mv (.t 2), none⟩,
       ⟨(some 16), .call 13 [(.t 15)], none⟩,
       ⟨(some 14), .mv (.t 16), none⟩,
       ⟨(some 17), .ext (.t 14) 0, none⟩,
       ⟨(some 18), .ext (.t 14) 1, none⟩,
       ⟨(some 4), .zbox [(.d (.int .i64 0)), (.d (.int .i64 0)), (.d (.int .i64 0)), (.d (.int .i64 0)), (.d (.int .i64 0))], none⟩,
       ⟨none, .st 5 (.t 4) (.t 17), none⟩,
       ⟨(some 5), .mv (.t 18), none⟩])
     (.seq (.reg [⟨(some 20), .call 13 [(.c (.d (.int .u32 0)))], none⟩,
        ⟨(some 19), .mv (.t 20), none⟩,
        ⟨(some 21), .ext (.t 19) 0, none⟩,
        ⟨(some 22), .ext (.t 19) 1, none⟩,
        ⟨(some 6), .zbox [(.d (.int .i64 0)), (.d (.int .i64 0)), (.d (.int .i64 0)), (.d (.int .i64 0)), (.d (.int .i64 0))], none⟩,
        ⟨none, .st 5 (.t 6) (.t 21), none⟩,
        ⟨(some 7), .mv (.t 22), none⟩])
      (.seq (.reg [⟨(some 23), .mv (.t 3), none⟩,
         ⟨(some 24), .bin .eql (.t 23) (.c (.d (.int .i64 0))), none⟩,
         ⟨(some 25), .mv (.t 24), none⟩,
         ⟨(some 26), .mv (.t 5), some (25, true)⟩,
         ⟨(some 27), .bin .eql (.t 26) (.c (.d (.int .i64 0))), some (25, true)⟩,
         ⟨(some 28), .pick (.t 25) (.t 27) (.c (.d (.bool false))), none⟩,
         ⟨(some 29), .mv (.t 28), none⟩,
         ⟨(some 30), .mv (.t 7), some (29, true)⟩,
         ⟨(some 31), .bin .eql (.t 30) (.c (.d (.int .i64 10))), some (29, true)⟩,
         ⟨(some 32), .pick (.t 29) (.t 31) (.c (.d (.bool false))), none⟩,
         ⟨(some 33), .mv (.t 32), none⟩,
         ⟨(some 34), .mv (.t 2), some (33, true)⟩,
         ⟨(some 35), .bin .eql (.t 34) (.c (.d (.int .u32 4291887251))), some (33, true)⟩,
         ⟨(some 36), .pick (.t 33) (.t 35) (.c (.d (.bool false))), none⟩,
         ⟨(some 37), .mv (.t 36), none⟩,
         ⟨(some 38), .ld (some 5) (.t 4), some (37, true)⟩,
         ⟨(some 39), .ld (some 5) (.t 1), some (37, true)⟩,
         ⟨(some 40), .eqa false [1, 1, 1, 1, 1] (.t 38) (.t 39), some (37, true)⟩,
         ⟨(some 41), .pick (.t 37) (.t 40) (.c (.d (.bool false))), none⟩,
         ⟨(some 0), .mv (.t 41), none⟩])
       .ret))))))
def F12 : VFn := ⟨0, 42, B12, [.tmp 0], false⟩

def A12 : Ann := ⟨keepOf [], ghostOf []⟩
-- 13 patina/rv.Decode
def K13_0 : List Nat := [0, 2, 4]
def L13_0 : VCode :=
 (.seq (.seq (.reg [⟨(some 10), .mv (.t 4), none⟩,
     ⟨(some 11), .bin .leq (.t 10) (.c (.d (.int .i64 65))), none⟩])
   (.cond (.t 11)
     .skip
     (.exit 0)))
  (.seq (.block 1 (.seq (.reg [⟨(some 14), .mv (.t 4), none⟩,
       ⟨(some 15), .iadra 66 4 (.g 0) (.t 14), none⟩,
       ⟨(some 16), .ld (some 4) (.t 15), none⟩,
       ⟨(some 5), .zbox [(.d (.int .u8 0)), (.d (.int .u32 0)), (.d (.int .u32 0)), (.d (.int .u32 0))], none⟩,
       ⟨none, .st 4 (.t 5) (.t 16), none⟩])
     (.seq (.seq (.reg [⟨(some 17), .ld (some 4) (.t 5), none⟩,
         ⟨(some 18), .mv (.t 0), none⟩,
         ⟨(some 19), .call 31 [(.t 17), (.t 18)], none⟩,
         ⟨(some 20), .un .not (.t 19), none⟩])
       (.cond (.t 20)
         (.exit 1)
         .skip))
      (.seq (.reg [⟨(some 21), .mv (.t 4), none⟩,
         ⟨(some 22), .fadr 0 (.t 5), none⟩,
         ⟨(some 23), .ld none (.t 22), none⟩,
         ⟨(some 24), .mv (.t 0), none⟩,
         ⟨(some 25), .call 32 [(.t 23), (.t 24)], none⟩,
         ⟨(some 26), .build [(.d (.int .i64 0)), (.d (.int .i64 0)), (.d (.int .i64 0)), (.d (.int .i64 0)), (.d (.int .i64 0))] [(0, 1, (.t 21)), (4, 1, (.t 25))], none⟩,
         ⟨(some 6), .zbox [(.d (.int .i64 0)), (.d (.int .i64 0)), (.d (.int .i64 0)), (.d (.int .i64 0)), (.d (.int .i64 0))], none⟩,
         ⟨none, .st 5 (.t 6) (.t 26), none⟩])
       (.seq (.reg [⟨(some 28), .fadr 0 (.t 5), none⟩,
          ⟨(some 29), .ld none (.t 28), none⟩,
          ⟨(some 30), .call 28 [(.t 29)], none⟩,
          ⟨(some 27), .mv (.t 30), none⟩,
          ⟨(some 31), .ext (.t 27) 0, none⟩,
          ⟨(some 32), .ext (.t 27) 1, none⟩,
          ⟨(some 33), .ext (.t 27) 2, none⟩,
          ⟨(some 7), .mv (.t 31), none⟩,
          ⟨(some 8), .mv (.t 32), none⟩,
          ⟨(some 9), .mv (.t 33), none⟩])
        (.seq (.seq (.reg [⟨(some 34), .mv (.t 7), none⟩])
          (.cond (.t 34)
            (.reg [⟨(some 35), .mv (.t 0), none⟩,
              ⟨(some 36), .bin .shr (.t 35) (.c (.d (.int .u64 7))), none⟩,
              ⟨(some 37), .bin .and (.t 36) (.c (.d (.int .u32 31))), none⟩,
              ⟨(some 38), .conv .i64 (.t 37), none⟩,
              ⟨(some 39), .fadr 1 (.t 6), none⟩,
              ⟨none, .st 1 (.t 39) (.t 38), none⟩])
            .skip))
         (.seq (.seq (.reg [⟨(some 40), .mv (.t 8), none⟩])
           (.cond (.t 40)
             (.reg [⟨(some 41), .mv (.t 0), none⟩,
               ⟨(some 42), .bin .shr (.t 41) (.c (.d (.int .u64 15))), none⟩,
               ⟨(some 43), .bin .and (.t 42) (.c (.d (.int .u32 31))), none⟩,
               ⟨(some 44), .conv .i64 (.t 43), none⟩,
               ⟨(some 45), .fadr 2 (.t 6), none⟩,
               ⟨none, .st 1 (.t 45) (.t 44), none⟩])
             .skip))
          (.seq (.seq (.reg [⟨(some 46), .mv (.t 9), none⟩])
            (.cond (.t 46)
              (.reg [⟨(some 47), .mv (.t 0), none⟩,
                ⟨(some 48), .bin .shr (.t 47) (.c (.d (.int .u64 20))), none⟩,
                ⟨(some 49), .bin .and (.t 48) (.c (.d (.int .u32 31))), none⟩,
                ⟨(some 50), .conv .i64 (.t 49), none⟩,
                ⟨(some 51), .fadr 3 (.t 6), none⟩,
                ⟨none, .st 1 (.t 51) (.t 50), none⟩])
              .skip))
           (.seq (.reg [⟨(some 52), .ld (some 5) (.t 6), none⟩,
              ⟨none, .st 5 (.t 2) (.t 52), none⟩,
              ⟨(some 3), .mv (.c (.d (.int .i64 0))), none⟩])
            .ret)))))))))
   (.reg [⟨(some 12), .mv (.t 4), none⟩,
     ⟨(some 13), .bin .add (.t 12) (.c (.d (.int .i64 1))), none⟩,
     ⟨(some 4), .mv (.t 13), none⟩])))
def B13 : VCode :=
 (.seq (.reg [⟨(some 2), .zbox [(.d (.int .i64 0)), (.d (.int .i64 0)), (.d (.int .i64 0)), (.d (.int .i64 0)), (.d (.int .i64 0))], none⟩,
    ⟨(some 3), .mv (.c (.d (.int .i64 0))), none⟩])
  (.seq (.seq (.reg [⟨(some 4), .mv (.c (.d (.int .i64 1))), none⟩])
    (.block 0 (.loop K13_0 L13_0)))
   (.seq (.reg [⟨(some 53), .build [(.d (.int .i64 0)), (.d (.int .i64 0)), (.d (.int .i64 0)), (.d (.int .i64 0)), (.d (.int .i64 0))] [], none⟩,
      ⟨none, .st 5 (.t 2) (.t 53), none⟩,
      ⟨(some 3), .mv (.c (.d (.int .i64 10))), none⟩])
    .ret)))
def F13 : VFn := ⟨1, 54, B13, [.cell 2 (some 5), .tmp 3], false⟩

def A13 : Ann := ⟨keepOf [(2, [0, 2, 4])], ghostOf []⟩
-- 14 patina/patinaref01.Decode
def K14_0 : List Nat := [0, 2, 4]
def L14_0 : VCode :=
 (.seq (.seq (.reg [⟨(some 6), .mv (.t 4), none⟩,
     ⟨(some 7), .bin .leq (.t 6) (.c (.d (.int .i64 65))), none⟩])
   (.cond (.t 7)
     .skip
     (.exit 0)))
  (.seq (.block 1 (.seq (.reg [⟨(some 10), .mv (.t 4), none⟩,
       ⟨(some 11), .mv (.t 0), none⟩,
       ⟨(some 12), .call 33 [(.t 10), (.t 11)], none⟩,
       ⟨(some 5), .zbox [(.d (.int .i64 0)), (.d (.int .i64 0)), (.d (.int .i64 0)), (.d (.int .i64 0)), (.d (.int .i64 0))], none⟩,
       ⟨none, .st 5 (.t 5) (.t 12), none⟩])
     (.seq (.reg [⟨(some 13), .ld (some 5) (.t 5), none⟩,
        ⟨(some 14), .call 15 [(.t 13)], none⟩,
        ⟨(some 15), .mv (.t 14), none⟩,
        ⟨(some 16), .ld (some 5) (.t 5), some (15, true)⟩,
        ⟨(some 17), .call 27 [(.t 16)], some (15, true)⟩,
        ⟨(some 18), .mv (.t 0), some (15, true)⟩,
        ⟨(some 19), .bin .eql (.t 17) (.t 18), some (15, true)⟩,
        ⟨(some 20), .pick (.t 15) (.t 19) (.c (.d (.bool false))), none⟩])
      (.cond (.t 20)
        (.seq (.reg [⟨(some 21), .ld (some 5) (.t 5), none⟩,
           ⟨none, .st 5 (.t 2) (.t 21), none⟩,
           ⟨(some 3), .mv (.c (.d (.int .i64 0))), none⟩])
         .ret)
        .skip))))
   (.reg [⟨(some 8), .mv (.t 4), none⟩,
     ⟨(some 9), .bin .add (.t 8) (.c (.d (.int .i64 1))), none⟩,
     ⟨(some 4), .mv (.t 9), none⟩])))
def B14 : VCode :=
 (.seq (.reg [⟨(some 2), .zbox [(.d (.int .i64 0)), (.d (.int .i64 0)), (.d (.int .i64 0)), (.d (.int .i64 0)), (.d (.int .i64 0))], none⟩,
    ⟨(some 3), .mv (.c (.d (.int .i64 0))), none⟩])
  (.seq (.seq (.reg [⟨(some 4), .mv (.c (.d (.int .i64 1))), none⟩])
    (.block 0 (.loop K14_0 L14_0)))
   (.seq (.reg [⟨(some 22), .build [(.d (.int .i64 0)), (.d (.int .i64 0)), (.d (.int .i64 0)), (.d (.int .i64 0)), (.d (.int .i64 0))] [], none⟩,
      ⟨none, .st 5 (.t 2) (.t 22), none⟩,
      ⟨(some 3), .mv (.c (.d (.int .i64 10))), none⟩])
    .ret)))
def F14 : VFn := ⟨1, 23, B14, [.cell 2 (some 5), .tmp 3], false⟩

def A14 : Ann := ⟨keepOf [(2, [0, 2, 4])], ghostOf []⟩
-- 15 patina/patinaref01.Right
def B15 : VCode :=
 (.seq (.reg [⟨(some 1), .box (.t 0), none⟩,
    ⟨(some 2), .mv (.c (.d (.bool false))), none⟩])
  (.seq (.reg [⟨(some 7), .fadr 0 (.t 1), none⟩,
     ⟨(some 8), .ld none (.t 7), none⟩,
     ⟨(some 9), .call 34 [(.t 8)], none⟩,
     ⟨(some 3), .zbox [(.d (.int .u8 0)), (.d (.int .u32 0)), (.d (.int .u32 0)), (.d (.int .u32 0))], none⟩,
     ⟨none, .st 4 (.t 3) (.t 9), none⟩])
   (.seq (.reg [⟨(some 11), .fadr 0 (.t 3), none⟩,
      ⟨(some 12), .ld none (.t 11), none⟩,
      ⟨(some 13), .call 35 [(.t 12)], none⟩,
      ⟨(some 10), .mv (.t 13), none⟩,
      ⟨(some 14), .ext (.t 10) 0, none⟩,
      ⟨(some 15), .ext (.t 10) 1, none⟩,
      ⟨(some 16), .ext (.t 10) 2, none⟩,
      ⟨(some 4), .mv (.t 14), none⟩,
      ⟨(some 5), .mv (.t 15), none⟩,
      ⟨(some 6), .mv (.t 16), none⟩])
    (.seq (.reg [⟨(some 17), .fadr 0 (.t 3), none⟩,
       ⟨(some 18), .ld none (.t 17), none⟩,
       ⟨(some 19), .bin .neq (.t 18) (.c (.d (.int .u8 0))), none⟩,
       ⟨(some 20), .mv (.t 19), none⟩,
       ⟨(some 21), .fadr 1 (.t 1), some (20, true)⟩,
       ⟨(some 22), .ld none (.t 21), some (20, true)⟩,
       ⟨(some 23), .mv (.t 4), some (20, true)⟩,
       ⟨(some 24), .call 36 [(.t 22), (.t 23)], some (20, true)⟩,
       ⟨(some 25), .pick (.t 20) (.t 24) (.c (.d (.bool false))), none⟩,
       ⟨(some 26), .mv (.t 25), none⟩,
       ⟨(some 27), .fadr 2 (.t 1), some (26, true)⟩,
       ⟨(some 28), .ld none (.t 27), some (26, true)⟩,
       ⟨(some 29), .mv (.t 5), some (26, true)⟩,
       ⟨(some 30), .call 36 [(.t 28), (.t 29)], some (26, true)⟩,
       ⟨(some 31), .pick (.t 26) (.t 30) (.c (.d (.bool false))), none⟩,
       ⟨(some 32), .mv (.t 31), none⟩,
       ⟨(some 33), .fadr 3 (.t 1), some (32, true)⟩,
       ⟨(some 34), .ld none (.t 33), some (32, true)⟩,
       ⟨(some 35), .mv (.t 6), some (32, true)⟩,
       ⟨(some 36), .call 36 [(.t 34), (.t 35)], some (32, true)⟩,
       ⟨(some 37), .pick (.t 32) (.t 36) (.c (.d (.bool false))), none⟩,
       ⟨(some 38), .mv (.t 37), none⟩,
       ⟨(some 39), .fadr 0 (.t 3), some (38, true)⟩,
       ⟨(some 40), .ld none (.t 39), some (38, true)⟩,
       ⟨(some 41), .fadr 4 (.t 1), some (38, true)⟩,
       ⟨(some 42), .ld none (.t 41), some (38, true)⟩,
       ⟨(some 43), .call 37 [(.t 40), (.t 42)], some (38, true)⟩,
       ⟨(some 44), .pick (.t 38) (.t 43) (.c (.d (.bool false))), none⟩,
       ⟨(some 2), .mv (.t 44), none⟩])
     .ret))))
def F15 : VFn := ⟨1, 45, B15, [.tmp 2], false⟩

def A15 : Ann := ⟨keepOf [], ghostOf []⟩
-- 16 patina/rv.Text
def B16 : VCode :=
 (.seq (.reg [⟨(some 1), .box (.t 0), none⟩,
    ⟨(some 2), .mv (.c (.d (.str []))), none⟩,
    ⟨(some 3), .mv (.c (.d (.int .i64 0))), none⟩])
  (.seq (.seq (.reg [⟨(some 9), .ld (some 5) (.t 1), none⟩,
      ⟨(some 10), .call 10 [(.t 9)], none⟩,
      ⟨(some 11), .bin .neq (.t 10) (.c (.d (.int .i64 0))), none⟩])
    (.cond (.t 11)
      (.seq (.reg [⟨(some 2), .mv (.c (.d (.str []))), none⟩,
         ⟨(some 3), .mv (.c (.d (.int .i64 11))), none⟩])
       .ret)
      .skip))
   (.seq (.reg [⟨(some 13), .fadr 0 (.t 1), none⟩,
      ⟨(some 14), .ld none (.t 13), none⟩,
      ⟨(some 15), .call 25 [(.t 14)], none⟩,
      ⟨(some 12), .mv (.t 15), none⟩,
      ⟨(some 16), .ext (.t 12) 0, none⟩,
      ⟨(some 17), .ext (.t 12) 1, none⟩,
      ⟨(some 4), .zbox [(.d (.int .u8 0)), (.d (.int .u32 0)), (.d (.int .u32 0)), (.d (.int .u32 0))], none⟩,
      ⟨none, .st 4 (.t 4) (.t 16), none⟩,
      ⟨(some 5), .mv (.t 17), none⟩])
    (.seq (.reg [⟨(some 6), .mv (.f 38), none⟩])
     (.seq (.reg [⟨(some 18), .fadr 4 (.t 1), none⟩,
        ⟨(some 19), .ld none (.t 18), none⟩,
        ⟨(some 20), .call 40 [(.t 19), (.c (.d (.int .i64 10)))], none⟩,
        ⟨(some 7), .mv (.t 20), none⟩])
      (.seq (.reg [⟨(some 8), .mv (.c .nils), none⟩])
       (.seq (.block 0 (.seq (.reg [⟨(some 28), .fadr 0 (.t 4), none⟩,
            ⟨(some 29), .ld none (.t 28), none⟩,
            ⟨(some 30), .bin .eql (.t 29) (.c (.d (.int .u8 78))), none⟩,
            ⟨(some 27), .mv (.t 30), none⟩])
          (.cond (.t 27)
            (.seq (.reg [⟨(some 31), .fadr 0 (.t 1), none⟩,
               ⟨(some 32), .ld none (.t 31), none⟩,
               ⟨(some 33), .call 23 [(.t 32)], none⟩,
               ⟨(some 2), .mv (.t 33), none⟩,
               ⟨(some 3), .mv (.c (.d (.int .i64 0))), none⟩])
             .ret)
            (.seq (.reg [⟨(some 35), .fadr 0 (.t 4), none⟩,
               ⟨(some 36), .ld none (.t 35), none⟩,
               ⟨(some 37), .bin .eql (.t 36) (.c (.d (.int .u8 82))), none⟩,
               ⟨(some 34), .mv (.t 37), none⟩])
             (.cond (.t 34)
               (.draw 11 [⟨(some 38), .mv (.t 6), none⟩,
                 ⟨(some 39), .fadr 1 (.t 1), none⟩,
                 ⟨(some 40), .ld none (.t 39), none⟩,
                 ⟨(some 41), .callv (.t 38) [(.t 40)], none⟩,
                 ⟨(some 42), .mv (.t 6), none⟩,
                 ⟨(some 43), .fadr 2 (.t 1), none⟩,
                 ⟨(some 44), .ld none (.t 43), none⟩,
                 ⟨(some 45), .callv (.t 42) [(.t 44)], none⟩,
                 ⟨(some 46), .mv (.t 6), none⟩,
                 ⟨(some 47), .fadr 3 (.t 1), none⟩,
                 ⟨(some 48), .ld none (.t 47), none⟩,
                 ⟨(some 49), .callv (.t 46) [(.t 48)], none⟩,
                 ⟨(some 50), .bslice 1 3 [(.t 41), (.t 45), (.t 49)], none⟩,
                 ⟨(some 8), .mv (.t 50), none⟩])
               (.seq (.reg [⟨(some 52), .fadr 1 (.t 4), none⟩,
                  ⟨(some 53), .ld none (.t 52), none⟩,
                  ⟨(some 54), .bin .eql (.t 53) (.c (.d (.int .u32 3))), none⟩,
                  ⟨(some 55), .mv (.t 54), none⟩,
                  ⟨(some 56), .fadr 1 (.t 4), some (55, false)⟩,
                  ⟨(some 57), .ld none (.t 56), some (55, false)⟩,
                  ⟨(some 58), .bin .eql (.t 57) (.c (.d (.int .u32 103))), some (55, false)⟩,
                  ⟨(some 59), .pick (.t 55) (.c (.d (.bool true))) (.t 58), none⟩,
                  ⟨(some 51), .mv (.t 59), none⟩])
                (.cond (.t 51)
                  (.draw 10 [⟨(some 60), .mv (.t 6), none⟩,
                    ⟨(some 61), .fadr 1 (.t 1), none⟩,
                    ⟨(some 62), .ld none (.t 61), none⟩,
                    ⟨(some 63), .callv (.t 60) [(.t 62)], none⟩,
                    ⟨(some 64), .mv (.t 7), none⟩,
                    ⟨(some 65), .bin .add (.t 64) (.c (.d (.str [40]))), none⟩,
                    ⟨(some 66), .mv (.t 6), none⟩,
                    ⟨(some 67), .fadr 2 (.t 1), none⟩,
                    ⟨(some 68), .ld none (.t 67), none⟩,
                    ⟨(some 69), .callv (.t 66) [(.t 68)], none⟩,
                    ⟨(some 70), .bin .add (.t 65) (.t 69), none⟩,
                    ⟨(some 71), .bin .add (.t 70) (.c (.d (.str [41]))), none⟩,
                    ⟨(some 72), .bslice 1 2 [(.t 63), (.t 71)], none⟩,
                    ⟨(some 8), .mv (.t 72), none⟩])
                  (.seq (.reg [⟨(some 74), .fadr 0 (.t 4), none⟩,
                     ⟨(some 75), .ld none (.t 74), none⟩,
                     ⟨(some 76), .bin .eql (.t 75) (.c (.d (.int .u8 73))), none⟩,
                     ⟨(some 77), .mv (.t 76), none⟩,
                     ⟨(some 78), .fadr 0 (.t 4), some (77, false)⟩,
                     ⟨(some 79), .ld none (.t 78), some (77, false)⟩,
                     ⟨(some 80), .bin .eql (.t 79) (.c (.d (.int .u8 72))), some (77, false)⟩,
                     ⟨(some 81), .pick (.t 77) (.c (.d (.bool true))) (.t 80), none⟩,
                     ⟨(some 73), .mv (.t 81), none⟩])
                   (.cond (.t 73)
                     (.draw 9 [⟨(some 82), .mv (.t 6), none⟩,
                       ⟨(some 83), .fadr 1 (.t 1), none⟩,
                       ⟨(some 84), .ld none (.t 83), none⟩,
                       ⟨(some 85), .callv (.t 82) [(.t 84)], none⟩,
                       ⟨(some 86), .mv (.t 6), none⟩,
                       ⟨(some 87), .fadr 2 (.t 1), none⟩,
                       ⟨(some 88), .ld none (.t 87), none⟩,
                       ⟨(some 89), .callv (.t 86) [(.t 88)], none⟩,
                       ⟨(some 90), .mv (.t 7), none⟩,
                       ⟨(some 91), .bslice 1 3 [(.t 85), (.t 89), (.t 90)], none⟩,
                       ⟨(some 8), .mv (.t 91), none⟩])
                     (.seq (.reg [⟨(some 93), .fadr 0 (.t 4), none⟩,
                        ⟨(some 94), .ld none (.t 93), none⟩,
                        ⟨(some 95), .bin .eql (.t 94) (.c (.d (.int .u8 83))), none⟩,
                        ⟨(some 92), .mv (.t 95), none⟩])
                      (.cond (.t 92)
                        (.draw 10 [⟨(some 96), .mv (.t 6), none⟩,
                          ⟨(some 97), .fadr 3 (.t 1), none⟩,
                          ⟨(some 98), .ld none (.t 97), none⟩,
                          ⟨(some 99), .callv (.t 96) [(.t 98)], none⟩,
                          ⟨(some 100), .mv (.t 7), none⟩,
                          ⟨(some 101), .bin .add (.t 100) (.c (.d (.str [40]))), none⟩,
                          ⟨(some 102), .mv (.t 6), none⟩,
                          ⟨(some 103), .fadr 2 (.t 1), none⟩,
                          ⟨(some 104), .ld none (.t 103), none⟩,
                          ⟨(some 105), .callv (.t 102) [(.t 104)], none⟩,
                          ⟨(some 106), .bin .add (.t 101) (.t 105), none⟩,
                          ⟨(some 107), .bin .add (.t 106) (.c (.d (.str [41]))), none⟩,
                          ⟨(some 108), .bslice 1 2 [(.t 99), (.t 107)], none⟩,
                          ⟨(some 8), .mv (.t 108), none⟩])
                        (.seq (.reg [⟨(some 110), .fadr 0 (.t 4), none⟩,
                           ⟨(some 111), .ld none (.t 110), none⟩,
                           ⟨(some 112), .bin .eql (.t 111) (.c (.d (.int .u8 66))), none⟩,
                           ⟨(some 109), .mv (.t 112), none⟩])
                         (.cond (.t 109)
                           (.draw 9 [⟨(some 113), .mv (.t 6), none⟩,
                             ⟨(some 114), .fadr 2 (.t 1), none⟩,
                             ⟨(some 115), .ld none (.t 114), none⟩,
                             ⟨(some 116), .callv (.t 113) [(.t 115)], none⟩,
                             ⟨(some 117), .mv (.t 6), none⟩,
                             ⟨(some 118), .fadr 3 (.t 1), none⟩,
                             ⟨(some 119), .ld none (.t 118), none⟩,
                             ⟨(some 120), .callv (.t 117) [(.t 119)], none⟩,
                             ⟨(some 121), .mv (.t 7), none⟩,
                             ⟨(some 122), .bslice 1 3 [(.t 116), (.t 120), (.t 121)], none⟩,
                             ⟨(some 8), .mv (.t 122), none⟩])
                           (.reg [⟨(some 21), .mv (.t 6), none⟩,
                             ⟨(some 22), .fadr 1 (.t 1), none⟩,
                             ⟨(some 23), .ld none (.t 22), none⟩,
                             ⟨(some 24), .callv (.t 21) [(.t 23)], none⟩,
                             ⟨(some 25), .mv (.t 7), none⟩,
                             ⟨(some 26), .bslice 1 2 [(.t 24), (.t 25)], none⟩,
                             ⟨(some 8), .mv (.t 26), none⟩]))))))))))))))
        (.seq (.reg [⟨(some 123), .fadr 0 (.t 1), none⟩,
           ⟨(some 124), .ld none (.t 123), none⟩,
           ⟨(some 125), .call 23 [(.t 124)], none⟩,
           ⟨(some 126), .bin .add (.t 125) (.c (.d (.str [32]))), none⟩,
           ⟨(some 127), .mv (.t 8), none⟩,
           ⟨(some 128), .call 41 [(.t 127), (.c (.d (.str [44])))], none⟩,
           ⟨(some 129), .bin .add (.t 126) (.t 128), none⟩,
           ⟨(some 2), .mv (.t 129), none⟩,
           ⟨(some 3), .mv (.c (.d (.int .i64 0))), none⟩])
         .ret))))))))
def F16 : VFn := ⟨1, 130, B16, [.tmp 2, .tmp 3], false⟩

def A16 : Ann := ⟨keepOf [], ghostOf []⟩
-- 17 patina/patinaref01.Text
def B17 : VCode :=
 (.seq (.reg [⟨(some 1), .box (.t 0), none⟩,
    ⟨(some 2), .mv (.c (.d (.str []))), none⟩,
    ⟨(some 3), .mv (.c (.d (.int .i64 0))), none⟩])
  (.seq (.seq (.reg [⟨(some 6), .ld (some 5) (.t 1), none⟩,
      ⟨(some 7), .call 15 [(.t 6)], none⟩,
      ⟨(some 8), .un .not (.t 7), none⟩])
    (.cond (.t 8)
      (.seq (.reg [⟨(some 2), .mv (.c (.d (.str []))), none⟩,
         ⟨(some 3), .mv (.c (.d (.int .i64 11))), none⟩])
       .ret)
      .skip))
   (.seq (.reg [⟨(some 9), .fadr 4 (.t 1), none⟩,
      ⟨(some 10), .ld none (.t 9), none⟩,
      ⟨(some 11), .call 40 [(.t 10), (.c (.d (.int .i64 10)))], none⟩,
      ⟨(some 4), .mv (.t 11), none⟩])
    (.seq (.reg [⟨(some 12), .fadr 0 (.t 1), none⟩,
       ⟨(some 13), .ld none (.t 12), none⟩,
       ⟨(some 14), .call 24 [(.t 13)], none⟩,
       ⟨(some 15), .bin .add (.t 14) (.c (.d (.str [32]))), none⟩,
       ⟨(some 5), .mv (.t 15), none⟩])
     (.seq (.seq (.reg [⟨(some 16), .fadr 0 (.t 1), none⟩,
         ⟨(some 17), .ld none (.t 16), none⟩,
         ⟨(some 18), .call 34 [(.t 17)], none⟩,
         ⟨(some 19), .fld 0 none (.t 18), none⟩])
       (.block 0 (.seq (.reg [⟨(some 21), .bin .eql (.t 19) (.c (.d (.int .u8 82))), none⟩,
           ⟨(some 20), .mv (.t 21), none⟩])
         (.cond (.t 20)
           (.seq (.draw 14 [⟨(some 22), .mv (.t 5), none⟩,
              ⟨(some 23), .fadr 1 (.t 1), none⟩,
              ⟨(some 24), .ld none (.t 23), none⟩,
              ⟨(some 25), .call 42 [(.t 24)], none⟩,
              ⟨(some 26), .bin .add (.t 22) (.t 25), none⟩,
              ⟨(some 27), .bin .add (.t 26) (.c (.d (.str [44]))), none⟩,
              ⟨(some 28), .fadr 2 (.t 1), none⟩,
              ⟨(some 29), .ld none (.t 28), none⟩,
              ⟨(some 30), .call 42 [(.t 29)], none⟩,
              ⟨(some 31), .bin .add (.t 27) (.t 30), none⟩,
              ⟨(some 32), .bin .add (.t 31) (.c (.d (.str [44]))), none⟩,
              ⟨(some 33), .fadr 3 (.t 1), none⟩,
              ⟨(some 34), .ld none (.t 33), none⟩,
              ⟨(some 35), .call 42 [(.t 34)], none⟩,
              ⟨(some 36), .bin .add (.t 32) (.t 35), none⟩,
              ⟨(some 2), .mv (.t 36), none⟩,
              ⟨(some 3), .mv (.c (.d (.int .i64 0))), none⟩])
            .ret)
           (.seq (.reg [⟨(some 38), .bin .eql (.t 19) (.c (.d (.int .u8 73))), none⟩,
              ⟨(some 37), .mv (.t 38), none⟩])
            (.cond (.t 37)
              (.seq (.seq (.reg [⟨(some 39), .fadr 0 (.t 1), none⟩,
                  ⟨(some 40), .ld none (.t 39), none⟩,
                  ⟨(some 41), .bin .eql (.t 40) (.c (.d (.int .i64 4))), none⟩,
                  ⟨(some 42), .mv (.t 41), none⟩,
                  ⟨(some 43), .fadr 0 (.t 1), some (42, false)⟩,
                  ⟨(some 44), .ld none (.t 43), some (42, false)⟩,
                  ⟨(some 45), .bin .geq (.t 44) (.c (.d (.int .i64 11))), some (42, false)⟩,
                  ⟨(some 46), .mv (.t 45), some (42, false)⟩,
                  ⟨(some 47), .fadr 0 (.t 1), some (46, true)⟩,
                  ⟨(some 48), .ld none (.t 47), some (46, true)⟩,
                  ⟨(some 49), .bin .leq (.t 48) (.c (.d (.int .i64 17))), some (46, true)⟩,
                  ⟨(some 50), .pick (.t 46) (.t 49) (.c (.d (.bool false))), some (42, false)⟩,
                  ⟨(some 51), .pick (.t 42) (.c (.d (.bool true))) (.t 50), none⟩])
                (.cond (.t 51)
                  (.seq (.draw 12 [⟨(some 52), .mv (.t 5), none⟩,
                     ⟨(some 53), .fadr 1 (.t 1), none⟩,
                     ⟨(some 54), .ld none (.t 53), none⟩,
                     ⟨(some 55), .call 42 [(.t 54)], none⟩,
                     ⟨(some 56), .bin .add (.t 52) (.t 55), none⟩,
                     ⟨(some 57), .bin .add (.t 56) (.c (.d (.str [44]))), none⟩,
                     ⟨(some 58), .mv (.t 4), none⟩,
                     ⟨(some 59), .bin .add (.t 57) (.t 58), none⟩,
                     ⟨(some 60), .bin .add (.t 59) (.c (.d (.str [40]))), none⟩,
                     ⟨(some 61), .fadr 2 (.t 1), none⟩,
                     ⟨(some 62), .ld none (.t 61), none⟩,
                     ⟨(some 63), .call 42 [(.t 62)], none⟩,
                     ⟨(some 64), .bin .add (.t 60) (.t 63), none⟩,
                     ⟨(some 65), .bin .add (.t 64) (.c (.d (.str [41]))), none⟩,
                     ⟨(some 2), .mv (.t 65), none⟩,
                     ⟨(some 3), .mv (.c (.d (.int .i64 0))), none⟩])
                   .ret)
                  .skip))
               (.seq (.draw 12 [⟨(some 66), .mv (.t 5), none⟩,
                  ⟨(some 67), .fadr 1 (.t 1), none⟩,
                  ⟨(some 68), .ld none (.t 67), none⟩,
                  ⟨(some 69), .call 42 [(.t 68)], none⟩,
                  ⟨(some 70), .bin .add (.t 66) (.t 69), none⟩,
                  ⟨(some 71), .bin .add (.t 70) (.c (.d (.str [44]))), none⟩,
                  ⟨(some 72), .fadr 2 (.t 1), none⟩,
                  ⟨(some 73), .ld none (.t 72), none⟩,
                  ⟨(some 74), .call 42 [(.t 73)], none⟩,
                  ⟨(some 75), .bin .add (.t 71) (.t 74), none⟩,
                  ⟨(some 76), .bin .add (.t 75) (.c (.d (.str [44]))), none⟩,
                  ⟨(some 77), .mv (.t 4), none⟩,
                  ⟨(some 78), .bin .add (.t 76) (.t 77), none⟩,
                  ⟨(some 2), .mv (.t 78), none⟩,
                  ⟨(some 3), .mv (.c (.d (.int .i64 0))), none⟩])
                .ret))
              (.seq (.seq (.reg [⟨(some 80), .bin .eql (.t 19) (.c (.d (.int .u8 72))), none⟩,
                  ⟨(some 79), .mv (.t 80), none⟩])
                (.cond (.t 79)
                  .skip
                  (.reg [⟨(some 81), .bin .eql (.t 19) (.c (.d (.int .u8 104))), none⟩,
                    ⟨(some 79), .mv (.t 81), none⟩])))
               (.cond (.t 79)
                 (.seq (.draw 12 [⟨(some 82), .mv (.t 5), none⟩,
                    ⟨(some 83), .fadr 1 (.t 1), none⟩,
                    ⟨(some 84), .ld none (.t 83), none⟩,
                    ⟨(some 85), .call 42 [(.t 84)], none⟩,
                    ⟨(some 86), .bin .add (.t 82) (.t 85), none⟩,
                    ⟨(some 87), .bin .add (.t 86) (.c (.d (.str [44]))), none⟩,
                    ⟨(some 88), .fadr 2 (.t 1), none⟩,
                    ⟨(some 89), .ld none (.t 88), none⟩,
                    ⟨(some 90), .call 42 [(.t 89)], none⟩,
                    ⟨(some 91), .bin .add (.t 87) (.t 90), none⟩,
                    ⟨(some 92), .bin .add (.t 91) (.c (.d (.str [44]))), none⟩,
                    ⟨(some 93), .mv (.t 4), none⟩,
                    ⟨(some 94), .bin .add (.t 92) (.t 93), none⟩,
                    ⟨(some 2), .mv (.t 94), none⟩,
                    ⟨(some 3), .mv (.c (.d (.int .i64 0))), none⟩])
                  .ret)
                 (.seq (.reg [⟨(some 96), .bin .eql (.t 19) (.c (.d (.int .u8 83))), none⟩,
                    ⟨(some 95), .mv (.t 96), none⟩])
                  (.cond (.t 95)
                    (.seq (.draw 12 [⟨(some 97), .mv (.t 5), none⟩,
                       ⟨(some 98), .fadr 3 (.t 1), none⟩,
                       ⟨(some 99), .ld none (.t 98), none⟩,
                       ⟨(some 100), .call 42 [(.t 99)], none⟩,
                       ⟨(some 101), .bin .add (.t 97) (.t 100), none⟩,
                       ⟨(some 102), .bin .add (.t 101) (.c (.d (.str [44]))), none⟩,
                       ⟨(some 103), .mv (.t 4), none⟩,
                       ⟨(some 104), .bin .add (.t 102) (.t 103), none⟩,
                       ⟨(some 105), .bin .add (.t 104) (.c (.d (.str [40]))), none⟩,
                       ⟨(some 106), .fadr 2 (.t 1), none⟩,
                       ⟨(some 107), .ld none (.t 106), none⟩,
                       ⟨(some 108), .call 42 [(.t 107)], none⟩,
                       ⟨(some 109), .bin .add (.t 105) (.t 108), none⟩,
                       ⟨(some 110), .bin .add (.t 109) (.c (.d (.str [41]))), none⟩,
                       ⟨(some 2), .mv (.t 110), none⟩,
                       ⟨(some 3), .mv (.c (.d (.int .i64 0))), none⟩])
                     .ret)
                    (.seq (.reg [⟨(some 112), .bin .eql (.t 19) (.c (.d (.int .u8 66))), none⟩,
                       ⟨(some 111), .mv (.t 112), none⟩])
                     (.cond (.t 111)
                       (.seq (.draw 12 [⟨(some 113), .mv (.t 5), none⟩,
                          ⟨(some 114), .fadr 2 (.t 1), none⟩,
                          ⟨(some 115), .ld none (.t 114), none⟩,
                          ⟨(some 116), .call 42 [(.t 115)], none⟩,
                          ⟨(some 117), .bin .add (.t 113) (.t 116), none⟩,
                          ⟨(some 118), .bin .add (.t 117) (.c (.d (.str [44]))), none⟩,
                          ⟨(some 119), .fadr 3 (.t 1), none⟩,
                          ⟨(some 120), .ld none (.t 119), none⟩,
                          ⟨(some 121), .call 42 [(.t 120)], none⟩,
                          ⟨(some 122), .bin .add (.t 118) (.t 121), none⟩,
                          ⟨(some 123), .bin .add (.t 122) (.c (.d (.str [44]))), none⟩,
                          ⟨(some 124), .mv (.t 4), none⟩,
                          ⟨(some 125), .bin .add (.t 123) (.t 124), none⟩,
                          ⟨(some 2), .mv (.t 125), none⟩,
                          ⟨(some 3), .mv (.c (.d (.int .i64 0))), none⟩])
                        .ret)
                       (.seq (.seq (.reg [⟨(some 127), .bin .eql (.t 19) (.c (.d (.int .u8 85))), none⟩,
                           ⟨(some 126), .mv (.t 127), none⟩])
                         (.cond (.t 126)
                           .skip
                           (.reg [⟨(some 128), .bin .eql (.t 19) (.c (.d (.int .u8 74))), none⟩,
                             ⟨(some 126), .mv (.t 128), none⟩])))
                        (.cond (.t 126)
                          (.seq (.reg [⟨(some 129), .mv (.t 5), none⟩,
                             ⟨(some 130), .fadr 1 (.t 1), none⟩,
                             ⟨(some 131), .ld none (.t 130), none⟩,
                             ⟨(some 132), .call 42 [(.t 131)], none⟩,
                             ⟨(some 133), .bin .add (.t 129) (.t 132), none⟩,
                             ⟨(some 134), .bin .add (.t 133) (.c (.d (.str [44]))), none⟩,
                             ⟨(some 135), .mv (.t 4), none⟩,
                             ⟨(some 136), .bin .add (.t 134) (.t 135), none⟩,
                             ⟨(some 2), .mv (.t 136), none⟩,
                             ⟨(some 3), .mv (.c (.d (.int .i64 0))), none⟩])
                           .ret)
                          .skip))))))))))))))
      (.seq (.reg [⟨(some 137), .fadr 0 (.t 1), none⟩,
         ⟨(some 138), .ld none (.t 137), none⟩,
         ⟨(some 139), .call 24 [(.t 138)], none⟩,
         ⟨(some 2), .mv (.t 139), none⟩,
         ⟨(some 3), .mv (.c (.d (.int .i64 0))), none⟩])
       .ret))))))
def F17 : VFn := ⟨1, 140, B17, [.tmp 2, .tmp 3], false⟩

def A17 : Ann := ⟨keepOf [], ghostOf []⟩
-- 18 patina/rv.Reads
def K18_0 : List Nat := [1, 4, 5]
def L18_0 : VCode :=
 (.seq (.seq (.reg [⟨(some 13), .mv (.t 5), none⟩,
     ⟨(some 14), .bin .lss (.t 13) (.c (.d (.int .i64 32))), none⟩])
   (.cond (.t 14)
     .skip
     (.exit 0)))
  (.seq (.block 1 (.seq (.reg [⟨(some 17), .mv (.t 5), none⟩,
       ⟨(some 18), .fadr 2 (.t 1), none⟩,
       ⟨(some 19), .ld none (.t 18), none⟩,
       ⟨(some 20), .bin .eql (.t 17) (.t 19), none⟩,
       ⟨(some 21), .mv (.t 20), none⟩,
       ⟨(some 22), .mv (.t 5), some (21, false)⟩,
       ⟨(some 23), .fadr 3 (.t 1), some (21, false)⟩,
       ⟨(some 24), .ld none (.t 23), some (21, false)⟩,
       ⟨(some 25), .bin .eql (.t 22) (.t 24), some (21, false)⟩,
       ⟨(some 26), .pick (.t 21) (.c (.d (.bool true))) (.t 25), none⟩])
     (.cond (.t 26)
       (.reg [⟨(some 27), .mv (.t 4), none⟩,
         ⟨(some 28), .mv (.t 5), none⟩,
         ⟨(some 29), .bslice 1 1 [(.t 28)], none⟩,
         ⟨(some 30), .app 1 8 (.t 27) (.t 29), none⟩,
         ⟨(some 4), .mv (.t 30), none⟩])
       .skip)))
   (.reg [⟨(some 15), .mv (.t 5), none⟩,
     ⟨(some 16), .bin .add (.t 15) (.c (.d (.int .i64 1))), none⟩,
     ⟨(some 5), .mv (.t 16), none⟩])))
def B18 : VCode :=
 (.seq (.reg [⟨(some 1), .box (.t 0), none⟩,
    ⟨(some 2), .mv (.c .nils), none⟩,
    ⟨(some 3), .mv (.c (.d (.int .i64 0))), none⟩])
  (.seq (.seq (.reg [⟨(some 6), .ld (some 5) (.t 1), none⟩,
      ⟨(some 7), .call 10 [(.t 6)], none⟩,
      ⟨(some 8), .bin .neq (.t 7) (.c (.d (.int .i64 0))), none⟩])
    (.cond (.t 8)
      (.seq (.reg [⟨(some 2), .mv (.c .nils), none⟩,
         ⟨(some 3), .mv (.c (.d (.int .i64 11))), none⟩])
       .ret)
      .skip))
   (.seq (.seq (.reg [⟨(some 9), .fadr 0 (.t 1), none⟩,
       ⟨(some 10), .ld none (.t 9), none⟩,
       ⟨(some 11), .bin .eql (.t 10) (.c (.d (.int .i64 64))), none⟩])
     (.cond (.t 11)
       (.seq (.reg [⟨(some 12), .bslice 1 2 [(.c (.d (.int .i64 10))), (.c (.d (.int .i64 17)))], none⟩,
          ⟨(some 2), .mv (.t 12), none⟩,
          ⟨(some 3), .mv (.c (.d (.int .i64 0))), none⟩])
        .ret)
       .skip))
    (.seq (.reg [⟨(some 4), .mv (.c .nils), none⟩])
     (.seq (.seq (.seq (.newrow 1 4)
        (.reg [⟨(some 5), .mv (.c (.d (.int .i64 1))), none⟩]))
       (.block 0 (.loop K18_0 L18_0)))
      (.seq (.reg [⟨(some 31), .mv (.t 4), none⟩,
         ⟨(some 2), .mv (.t 31), none⟩,
         ⟨(some 3), .mv (.c (.d (.int .i64 0))), none⟩])
       .ret))))))
def F18 : VFn := ⟨1, 32, B18, [.tmp 2, .tmp 3], false⟩

def A18 : Ann := ⟨keepOf [(7, [1, 4, 5])], ghostOf [(6, [.newrow 1 4])]⟩
-- 19 patina/patinaref01.Reads
def K19_0 : List Nat := [1, 5, 6, 7, 8]
def L19_0 : VCode :=
 (.seq (.seq (.reg [⟨(some 25), .mv (.t 8), none⟩,
     ⟨(some 26), .bin .lss (.t 25) (.c (.d (.int .i64 32))), none⟩])
   (.cond (.t 26)
     .skip
     (.exit 0)))
  (.seq (.block 1 (.seq (.reg [⟨(some 29), .mv (.t 5), none⟩,
       ⟨(some 30), .mv (.t 29), none⟩,
       ⟨(some 31), .fadr 2 (.t 1), some (30, true)⟩,
       ⟨(some 32), .ld none (.t 31), some (30, true)⟩,
       ⟨(some 33), .mv (.t 8), some (30, true)⟩,
       ⟨(some 34), .bin .eql (.t 32) (.t 33), some (30, true)⟩,
       ⟨(some 35), .pick (.t 30) (.t 34) (.c (.d (.bool false))), none⟩,
       ⟨(some 36), .mv (.t 35), none⟩,
       ⟨(some 37), .mv (.t 6), some (36, false)⟩,
       ⟨(some 38), .mv (.t 37), some (36, false)⟩,
       ⟨(some 39), .fadr 3 (.t 1), some (38, true)⟩,
       ⟨(some 40), .ld none (.t 39), some (38, true)⟩,
       ⟨(some 41), .mv (.t 8), some (38, true)⟩,
       ⟨(some 42), .bin .eql (.t 40) (.t 41), some (38, true)⟩,
       ⟨(some 43), .pick (.t 38) (.t 42) (.c (.d (.bool false))), some (36, false)⟩,
       ⟨(some 44), .pick (.t 36) (.c (.d (.bool true))) (.t 43), none⟩])
     (.cond (.t 44)
       (.reg [⟨(some 45), .mv (.t 7), none⟩,
         ⟨(some 46), .mv (.t 8), none⟩,
         ⟨(some 47), .bslice 1 1 [(.t 46)], none⟩,
         ⟨(some 48), .app 1 8 (.t 45) (.t 47), none⟩,
         ⟨(some 7), .mv (.t 48), none⟩])
       .skip)))
   (.reg [⟨(some 27), .mv (.t 8), none⟩,
     ⟨(some 28), .bin .add (.t 27) (.c (.d (.int .i64 1))), none⟩,
     ⟨(some 8), .mv (.t 28), none⟩])))
def B19 : VCode :=
 (.seq (.reg [⟨(some 1), .box (.t 0), none⟩,
    ⟨(some 2), .mv (.c .nils), none⟩,
    ⟨(some 3), .mv (.c (.d (.int .i64 0))), none⟩])
  (.seq (.seq (.reg [⟨(some 9), .ld (some 5) (.t 1), none⟩,
      ⟨(some 10), .call 15 [(.t 9)], none⟩,
      ⟨(some 11), .un .not (.t 10), none⟩])
    (.cond (.t 11)
      (.seq (.reg [⟨(some 2), .mv (.c .nils), none⟩,
         ⟨(some 3), .mv (.c (.d (.int .i64 11))), none⟩])
       .ret)
      .skip))
   (.seq (.seq (.reg [⟨(some 12), .fadr 0 (.t 1), none⟩,
       ⟨(some 13), .ld none (.t 12), none⟩,
       ⟨(some 14), .bin .eql (.t 13) (.c (.d (.int .i64 64))), none⟩])
     (.cond (.t 14)
       (.seq (.reg [⟨(some 15), .bslice 1 2 [(.c (.d (.int .i64 10))), (.c (.d (.int .i64 17)))], none⟩,
          ⟨(some 2), .mv (.t 15), none⟩,
          ⟨(some 3), .mv (.c (.d (.int .i64 0))), none⟩])
        .ret)
       .skip))
    (.seq (.reg [⟨(some 17), .fadr 0 (.t 1), none⟩,
       ⟨(some 18), .ld none (.t 17), none⟩,
       ⟨(some 19), .call 34 [(.t 18)], none⟩,
       ⟨(some 20), .fld 0 none (.t 19), none⟩,
       ⟨(some 21), .call 35 [(.t 20)], none⟩,
       ⟨(some 16), .mv (.t 21), none⟩,
       ⟨(some 22), .ext (.t 16) 0, none⟩,
       ⟨(some 23), .ext (.t 16) 1, none⟩,
       ⟨(some 24), .ext (.t 16) 2, none⟩,
       ⟨(some 4), .mv (.t 22), none⟩,
       ⟨(some 5), .mv (.t 23), none⟩,
       ⟨(some 6), .mv (.t 24), none⟩])
     (.seq (.reg [⟨(some 7), .mv (.c .nils), none⟩])
      (.seq (.seq (.seq (.newrow 1 7)
         (.reg [⟨(some 8), .mv (.c (.d (.int .i64 1))), none⟩]))
        (.block 0 (.loop K19_0 L19_0)))
       (.seq (.reg [⟨(some 49), .mv (.t 7), none⟩,
          ⟨(some 2), .mv (.t 49), none⟩,
          ⟨(some 3), .mv (.c (.d (.int .i64 0))), none⟩])
        .ret)))))))
def F19 : VFn := ⟨1, 50, B19, [.tmp 2, .tmp 3], false⟩

def A19 : Ann := ⟨keepOf [(8, [1, 5, 6, 7, 8])], ghostOf [(7, [.newrow 1 7])]⟩
-- 20 patina/rv.Writes
def B20 : VCode :=
 (.seq (.reg [⟨(some 1), .box (.t 0), none⟩,
    ⟨(some 2), .mv (.c (.d (.int .i64 0))), none⟩,
    ⟨(some 3), .mv (.c (.d (.int .i64 0))), none⟩])
  (.seq (.seq (.reg [⟨(some 4), .ld (some 5) (.t 1), none⟩,
      ⟨(some 5), .call 10 [(.t 4)], none⟩,
      ⟨(some 6), .bin .neq (.t 5) (.c (.d (.int .i64 0))), none⟩])
    (.cond (.t 6)
      (.seq (.reg [⟨(some 2), .mv (.c (.d (.int .i64 0))), none⟩,
         ⟨(some 3), .mv (.c (.d (.int .i64 11))), none⟩])
       .ret)
      .skip))
   (.seq (.seq (.reg [⟨(some 7), .fadr 0 (.t 1), none⟩,
       ⟨(some 8), .ld none (.t 7), none⟩,
       ⟨(some 9), .bin .eql (.t 8) (.c (.d (.int .i64 64))), none⟩])
     (.cond (.t 9)
       (.seq (.reg [⟨(some 2), .mv (.c (.d (.int .i64 10))), none⟩,
          ⟨(some 3), .mv (.c (.d (.int .i64 0))), none⟩])
        .ret)
       .skip))
    (.seq (.reg [⟨(some 10), .fadr 1 (.t 1), none⟩,
       ⟨(some 11), .ld none (.t 10), none⟩,
       ⟨(some 2), .mv (.t 11), none⟩,
       ⟨(some 3), .mv (.c (.d (.int .i64 0))), none⟩])
     .ret))))
def F20 : VFn := ⟨1, 12, B20, [.tmp 2, .tmp 3], false⟩

def A20 : Ann := ⟨keepOf [], ghostOf []⟩
-- 21 patina/patinaref01.Writes
def B21 : VCode :=
 (.seq (.reg [⟨(some 1), .box (.t 0), none⟩,
    ⟨(some 2), .mv (.c (.d (.int .i64 0))), none⟩,
    ⟨(some 3), .mv (.c (.d (.int .i64 0))), none⟩])
  (.seq (.seq (.reg [⟨(some 4), .ld (some 5) (.t 1), none⟩,
      ⟨(some 5), .call 15 [(.t 4)], none⟩,
      ⟨(some 6), .un .not (.t 5), none⟩])
    (.cond (.t 6)
      (.seq (.reg [⟨(some 2), .mv (.c (.d (.int .i64 0))), none⟩,
         ⟨(some 3), .mv (.c (.d (.int .i64 11))), none⟩])
       .ret)
      .skip))
   (.seq (.seq (.reg [⟨(some 7), .fadr 0 (.t 1), none⟩,
       ⟨(some 8), .ld none (.t 7), none⟩,
       ⟨(some 9), .bin .eql (.t 8) (.c (.d (.int .i64 64))), none⟩])
     (.cond (.t 9)
       (.seq (.reg [⟨(some 2), .mv (.c (.d (.int .i64 10))), none⟩,
          ⟨(some 3), .mv (.c (.d (.int .i64 0))), none⟩])
        .ret)
       .skip))
    (.seq (.reg [⟨(some 10), .fadr 1 (.t 1), none⟩,
       ⟨(some 11), .ld none (.t 10), none⟩,
       ⟨(some 2), .mv (.t 11), none⟩,
       ⟨(some 3), .mv (.c (.d (.int .i64 0))), none⟩])
     .ret))))
def F21 : VFn := ⟨1, 12, B21, [.tmp 2, .tmp 3], false⟩

def A21 : Ann := ⟨keepOf [], ghostOf []⟩
-- 22 patina/patinaplain.Ints
def K22_0 : List Nat := [0, 1, 12, 13]
def L22_0 : VCode :=
 (.seq (.reg [⟨(some 14), .bin .lss (.t 13) (.t 12), none⟩])
  (.seq (.cond (.t 14)
     .skip
     (.exit 0))
   (.seq (.block 1 (.seq (.reg [⟨(some 15), .mv (.t 13), none⟩,
        ⟨(some 5), .mv (.t 15), none⟩])
      (.seq (.draw 8 [⟨(some 16), .mv (.t 0), none⟩,
         ⟨(some 17), .mv (.t 5), none⟩,
         ⟨(some 18), .iadr 1 (.t 16) (.t 17), none⟩,
         ⟨(some 19), .ld none (.t 18), none⟩,
         ⟨(some 20), .mv (.t 1), none⟩,
         ⟨(some 21), .mv (.t 5), none⟩,
         ⟨(some 22), .iadr 1 (.t 20) (.t 21), none⟩,
         ⟨(some 23), .ld none (.t 22), none⟩,
         ⟨(some 24), .bin .neq (.t 19) (.t 23), none⟩])
       (.cond (.t 24)
         (.seq (.reg [⟨(some 4), .mv (.c (.d (.bool false))), none⟩])
          .ret)
         .skip))))
    (.reg [⟨(some 25), .bin .add (.t 13) (.c (.d (.int .i64 1))), none⟩,
      ⟨(some 13), .mv (.t 25), none⟩]))))
def B22 : VCode :=
 (.seq (.reg [⟨(some 4), .mv (.c (.d (.bool false))), none⟩])
  (.seq (.seq (.reg [⟨(some 6), .mv (.t 0), none⟩,
      ⟨(some 7), .len false (.t 6), none⟩,
      ⟨(some 8), .mv (.t 1), none⟩,
      ⟨(some 9), .len false (.t 8), none⟩,
      ⟨(some 10), .bin .neq (.t 7) (.t 9), none⟩])
    (.cond (.t 10)
      (.seq (.reg [⟨(some 4), .mv (.c (.d (.bool false))), none⟩])
       .ret)
      .skip))
   (.seq (.seq (.reg [⟨(some 11), .mv (.t 0), none⟩,
       ⟨(some 12), .len false (.t 11), none⟩,
       ⟨(some 13), .mv (.c (.d (.int .i64 0))), none⟩])
     (.block 0 (.loop K22_0 L22_0)))
    (.seq (.reg [⟨(some 4), .mv (.c (.d (.bool true))), none⟩])
     .ret))))
def F22 : VFn := ⟨2, 26, B22, [.tmp 4], false⟩

def A22 : Ann := ⟨keepOf [(4, [0, 1, 12, 13])], ghostOf []⟩
-- 23 patina/rv.Name
def B23 : VCode :=
 (.seq (.reg [⟨(some 2), .mv (.c (.d (.str []))), none⟩])
  (.seq (.reg [⟨(some 4), .call 43 [(.c (.d (.str [108, 117, 105, 32, 97, 117, 105, 112, 99, 32, 106, 97, 108, 32, 106, 97, 108, 114, 32, 98, 101, 113, 32, 98, 110, 101, 32, 98, 108, 116, 32, 98, 103, 101, 32, 98, 108, 116, 117, 32, 98, 103, 101, 117, 32, 108, 98, 32, 108, 104, 32, 108, 119, 32, 108, 100, 32, 108, 98, 117, 32, 108, 104, 117, 32, 108, 119, 117, 32, 115, 98, 32, 115, 104, 32, 115, 119, 32, 115, 100, 32, 97, 100, 100, 105, 32, 115, 108, 116, 105, 32, 115, 108, 116, 105, 117, 32, 120, 111, 114, 105, 32, 111, 114, 105, 32, 97, 110, 100, 105, 32, 115, 108, 108, 105, 32, 115, 114, 108, 105, 32, 115, 114, 97, 105, 32, 97, 100, 100, 105, 119, 32, 115, 108, 108, 105, 119, 32, 115, 114, 108, 105, 119, 32, 115, 114, 97, 105, 119, 32, 97, 100, 100, 32, 115, 117, 98, 32, 115, 108, 108, 32, 115, 108, 116, 32, 115, 108, 116, 117, 32, 120, 111, 114, 32, 115, 114, 108, 32, 115, 114, 97, 32, 111, 114, 32, 97, 110, 100, 32, 97, 100, 100, 119, 32, 115, 117, 98, 119, 32, 115, 108, 108, 119, 32, 115, 114, 108, 119, 32, 115, 114, 97, 119, 32, 109, 117, 108, 32, 109, 117, 108, 104, 32, 109, 117, 108, 104, 115, 117, 32, 109, 117, 108, 104, 117, 32, 100, 105, 118, 32, 100, 105, 118, 117, 32, 114, 101, 109, 32, 114, 101, 109, 117, 32, 109, 117, 108, 119, 32, 100, 105, 118, 119, 32, 100, 105, 118, 117, 119, 32, 114, 101, 109, 119, 32, 114, 101, 109, 117, 119, 32, 102, 101, 110, 99, 101, 32, 101, 99, 97, 108, 108, 32, 101, 98, 114, 101, 97, 107])))], none⟩,
     ⟨(some 3), .mv (.t 4), none⟩])
   (.seq (.seq (.reg [⟨(some 5), .mv (.t 0), none⟩,
       ⟨(some 6), .bin .lss (.t 5) (.c (.d (.int .i64 1))), none⟩,
       ⟨(some 7), .mv (.t 6), none⟩,
       ⟨(some 8), .mv (.t 0), some (7, false)⟩,
       ⟨(some 9), .mv (.t 3), some (7, false)⟩,
       ⟨(some 10), .len false (.t 9), some (7, false)⟩,
       ⟨(some 11), .bin .gtr (.t 8) (.t 10), some (7, false)⟩,
       ⟨(some 12), .pick (.t 7) (.c (.d (.bool true))) (.t 11), none⟩])
     (.cond (.t 12)
       (.seq (.reg [⟨(some 2), .mv (.c (.d (.str []))), none⟩])
        .ret)
       .skip))
    (.seq (.reg [⟨(some 13), .mv (.t 3), none⟩,
       ⟨(some 14), .mv (.t 0), none⟩,
       ⟨(some 15), .bin .sub (.t 14) (.c (.d (.int .i64 1))), none⟩,
       ⟨(some 16), .iadr 1 (.t 13) (.t 15), none⟩,
       ⟨(some 17), .ld none (.t 16), none⟩,
       ⟨(some 2), .mv (.t 17), none⟩])
     .ret))))
def F23 : VFn := ⟨1, 18, B23, [.tmp 2], false⟩

def A23 : Ann := ⟨keepOf [], ghostOf []⟩
-- 24 patina/patinaref01.Name
def B24 : VCode :=
 (.seq (.reg [⟨(some 2), .mv (.c (.d (.str []))), none⟩])
  (.seq (.seq (.reg [⟨(some 4), .mv (.t 0), none⟩,
      ⟨(some 5), .bin .lss (.t 4) (.c (.d (.int .i64 1))), none⟩,
      ⟨(some 6), .mv (.t 5), none⟩,
      ⟨(some 7), .mv (.t 0), some (6, false)⟩,
      ⟨(some 8), .bin .gtr (.t 7) (.c (.d (.int .i64 65))), some (6, false)⟩,
      ⟨(some 9), .pick (.t 6) (.c (.d (.bool true))) (.t 8), none⟩])
    (.cond (.t 9)
      (.seq (.reg [⟨(some 2), .mv (.c (.d (.str []))), none⟩])
       .ret)
      .skip))
   (.seq (.reg [⟨(some 10), .bslice 1 65 [(.c (.d (.str [108, 117, 105]))), (.c (.d (.str [97, 117, 105, 112, 99]))), (.c (.d (.str [106, 97, 108]))), (.c (.d (.str [106, 97, 108, 114]))), (.c (.d (.str [98, 101, 113]))), (.c (.d (.str [98, 110, 101]))), (.c (.d (.str [98, 108, 116]))), (.c (.d (.str [98, 103, 101]))), (.c (.d (.str [98, 108, 116, 117]))), (.c (.d (.str [98, 103, 101, 117]))), (.c (.d (.str [108, 98]))), (.c (.d (.str [108, 104]))), (.c (.d (.str [108, 119]))), (.c (.d (.str [108, 100]))), (.c (.d (.str [108, 98, 117]))), (.c (.d (.str [108, 104, 117]))), (.c (.d (.str [108, 119, 117]))), (.c (.d (.str [115, 98]))), (.c (.d (.str [115, 104]))), (.c (.d (.str [115, 119]))), (.c (.d (.str [115, 100]))), (.c (.d (.str [97, 100, 100, 105]))), (.c (.d (.str [115, 108, 116, 105]))), (.c (.d (.str [115, 108, 116, 105, 117]))), (.c (.d (.str [120, 111, 114, 105]))), (.c (.d (.str [111, 114, 105]))), (.c (.d (.str [97, 110, 100, 105]))), (.c (.d (.str [115, 108, 108, 105]))), (.c (.d (.str [115, 114, 108, 105]))), (.c (.d (.str [115, 114, 97, 105]))), (.c (.d (.str [97, 100, 100, 105, 119]))), (.c (.d (.str [115, 108, 108, 105, 119]))), (.c (.d (.str [115, 114, 108, 105, 119]))), (.c (.d (.str [115, 114, 97, 105, 119]))), (.c (.d (.str [97, 100, 100]))), (.c (.d (.str [115, 117, 98]))), (.c (.d (.str [115, 108, 108]))), (.c (.d (.str [115, 108, 116]))), (.c (.d (.str [115, 108, 116, 117]))), (.c (.d (.str [120, 111, 114]))), (.c (.d (.str [115, 114, 108]))), (.c (.d (.str [115, 114, 97]))), (.c (.d (.str [111, 114]))), (.c (.d (.str [97, 110, 100]))), (.c (.d (.str [97, 100, 100, 119]))), (.c (.d (.str [115, 117, 98, 119]))), (.c (.d (.str [115, 108, 108, 119]))), (.c (.d (.str [115, 114, 108, 119]))), (.c (.d (.str [115, 114, 97, 119]))), (.c (.d (.str [109, 117, 108]))), (.c (.d (.str [109, 117, 108, 104]))), (.c (.d (.str [109, 117, 108, 104, 115, 117]))), (.c (.d (.str [109, 117, 108, 104, 117]))), (.c (.d (.str [100, 105, 118]))), (.c (.d (.str [100, 105, 118, 117]))), (.c (.d (.str [114, 101, 109]))), (.c (.d (.str [114, 101, 109, 117]))), (.c (.d (.str [109, 117, 108, 119]))), (.c (.d (.str [100, 105, 118, 119]))), (.c (.d (.str [100, 105, 118, 117, 119]))), (.c (.d (.str [114, 101, 109, 119]))), (.c (.d (.str [114, 101, 109, 117, 119]))), (.c (.d (.str [102, 101, 110, 99, 101]))), (.c (.d (.str [101, 99, 97, 108, 108]))), (.c (.d (.str [101, 98, 114, 101, 97, 107])))], none⟩,
      ⟨(some 3), .mv (.t 10), none⟩])
    (.seq (.reg [⟨(some 11), .mv (.t 3), none⟩,
       ⟨(some 12), .mv (.t 0), none⟩,
       ⟨(some 13), .bin .sub (.t 12) (.c (.d (.int .i64 1))), none⟩,
       ⟨(some 14), .iadr 1 (.t 11) (.t 13), none⟩,
       ⟨(some 15), .ld none (.t 14), none⟩,
       ⟨(some 2), .mv (.t 15), none⟩])
     .ret))))
def F24 : VFn := ⟨1, 16, B24, [.tmp 2], false⟩

def A24 : Ann := ⟨keepOf [], ghostOf []⟩
-- 25 patina/rv.of
def B25 : VCode :=
 (.seq (.reg [⟨(some 2), .zbox [(.d (.int .u8 0)), (.d (.int .u32 0)), (.d (.int .u32 0)), (.d (.int .u32 0))], none⟩,
    ⟨(some 3), .mv (.c (.d (.bool false))), none⟩])
  (.seq (.seq (.reg [⟨(some 4), .mv (.t 0), none⟩,
      ⟨(some 5), .bin .lss (.t 4) (.c (.d (.int .i64 1))), none⟩,
      ⟨(some 6), .mv (.t 5), none⟩,
      ⟨(some 7), .mv (.t 0), some (6, false)⟩,
      ⟨(some 8), .bin .gtr (.t 7) (.c (.d (.int .i64 65))), some (6, false)⟩,
      ⟨(some 9), .pick (.t 6) (.c (.d (.bool true))) (.t 8), none⟩])
    (.cond (.t 9)
      (.seq (.reg [⟨(some 10), .build [(.d (.int .u8 0)), (.d (.int .u32 0)), (.d (.int .u32 0)), (.d (.int .u32 0))] [], none⟩,
         ⟨none, .st 4 (.t 2) (.t 10), none⟩,
         ⟨(some 3), .mv (.c (.d (.bool false))), none⟩])
       .ret)
      .skip))
   (.seq (.reg [⟨(some 11), .mv (.t 0), none⟩,
      ⟨(some 12), .iadra 66 4 (.g 0) (.t 11), none⟩,
      ⟨(some 13), .ld (some 4) (.t 12), none⟩,
      ⟨none, .st 4 (.t 2) (.t 13), none⟩,
      ⟨(some 3), .mv (.c (.d (.bool true))), none⟩])
    .ret)))
def F25 : VFn := ⟨1, 14, B25, [.cell 2 (some 4), .tmp 3], false⟩

def A25 : Ann := ⟨keepOf [], ghostOf []⟩
-- 26 patina/rv.bits
def B26 : VCode :=
 (.seq (.reg [⟨(some 8), .mv (.c (.d (.int .u32 0))), none⟩])
  (.seq (.reg [⟨(some 9), .mv (.t 0), none⟩,
     ⟨(some 10), .mv (.t 1), none⟩,
     ⟨(some 11), .bin .shr (.t 9) (.t 10), none⟩,
     ⟨(some 12), .mv (.t 2), none⟩,
     ⟨(some 13), .bin .shl (.c (.d (.int .u32 1))) (.t 12), none⟩,
     ⟨(some 14), .bin .sub (.t 13) (.c (.d (.int .u32 1))), none⟩,
     ⟨(some 15), .bin .and (.t 11) (.t 14), none⟩,
     ⟨(some 16), .mv (.t 3), none⟩,
     ⟨(some 17), .bin .shl (.t 15) (.t 16), none⟩,
     ⟨(some 8), .mv (.t 17), none⟩])
   .ret))
def F26 : VFn := ⟨4, 18, B26, [.tmp 8], false⟩

def A26 : Ann := ⟨keepOf [], ghostOf []⟩
-- 27 patina/patinaref01.Word
def B27 : VCode :=
 (.seq (.reg [⟨(some 1), .box (.t 0), none⟩,
    ⟨(some 2), .mv (.c (.d (.int .u32 0))), none⟩])
  (.seq (.reg [⟨(some 5), .fadr 0 (.t 1), none⟩,
     ⟨(some 6), .ld none (.t 5), none⟩,
     ⟨(some 7), .call 34 [(.t 6)], none⟩,
     ⟨(some 3), .zbox [(.d (.int .u8 0)), (.d (.int .u32 0)), (.d (.int .u32 0)), (.d (.int .u32 0))], none⟩,
     ⟨none, .st 4 (.t 3) (.t 7), none⟩])
   (.seq (.reg [⟨(some 8), .fadr 1 (.t 3), none⟩,
      ⟨(some 9), .ld none (.t 8), none⟩,
      ⟨(some 10), .fadr 2 (.t 3), none⟩,
      ⟨(some 11), .ld none (.t 10), none⟩,
      ⟨(some 12), .bin .shl (.t 11) (.c (.d (.int .u64 12))), none⟩,
      ⟨(some 13), .bin .or (.t 9) (.t 12), none⟩,
      ⟨(some 14), .fadr 1 (.t 1), none⟩,
      ⟨(some 15), .ld none (.t 14), none⟩,
      ⟨(some 16), .conv .u32 (.t 15), none⟩,
      ⟨(some 17), .bin .shl (.t 16) (.c (.d (.int .u64 7))), none⟩,
      ⟨(some 18), .bin .or (.t 13) (.t 17), none⟩,
      ⟨(some 19), .fadr 2 (.t 1), none⟩,
      ⟨(some 20), .ld none (.t 19), none⟩,
      ⟨(some 21), .conv .u32 (.t 20), none⟩,
      ⟨(some 22), .bin .shl (.t 21) (.c (.d (.int .u64 15))), none⟩,
      ⟨(some 23), .bin .or (.t 18) (.t 22), none⟩,
      ⟨(some 24), .fadr 3 (.t 1), none⟩,
      ⟨(some 25), .ld none (.t 24), none⟩,
      ⟨(some 26), .conv .u32 (.t 25), none⟩,
      ⟨(some 27), .bin .shl (.t 26) (.c (.d (.int .u64 20))), none⟩,
      ⟨(some 28), .bin .or (.t 23) (.t 27), none⟩,
      ⟨(some 4), .mv (.t 28), none⟩])
    (.seq (.seq (.reg [⟨(some 29), .fadr 0 (.t 3), none⟩,
        ⟨(some 30), .ld none (.t 29), none⟩])
      (.block 0 (.seq (.reg [⟨(some 32), .bin .eql (.t 30) (.c (.d (.int .u8 82))), none⟩,
          ⟨(some 31), .mv (.t 32), none⟩])
        (.cond (.t 31)
          (.reg [⟨(some 33), .mv (.t 4), none⟩,
            ⟨(some 34), .fadr 3 (.t 3), none⟩,
            ⟨(some 35), .ld none (.t 34), none⟩,
            ⟨(some 36), .bin .shl (.t 35) (.c (.d (.int .u64 25))), none⟩,
            ⟨(some 37), .bin .or (.t 33) (.t 36), none⟩,
            ⟨(some 4), .mv (.t 37), none⟩])
          (.seq (.reg [⟨(some 39), .bin .eql (.t 30) (.c (.d (.int .u8 73))), none⟩,
             ⟨(some 38), .mv (.t 39), none⟩])
           (.cond (.t 38)
             (.reg [⟨(some 40), .mv (.t 4), none⟩,
               ⟨(some 41), .fadr 4 (.t 1), none⟩,
               ⟨(some 42), .ld none (.t 41), none⟩,
               ⟨(some 43), .call 44 [(.t 42), (.c (.d (.int .u32 0))), (.c (.d (.int .u32 12)))], none⟩,
               ⟨(some 44), .bin .shl (.t 43) (.c (.d (.int .u64 20))), none⟩,
               ⟨(some 45), .bin .or (.t 40) (.t 44), none⟩,
               ⟨(some 4), .mv (.t 45), none⟩])
             (.seq (.seq (.reg [⟨(some 47), .bin .eql (.t 30) (.c (.d (.int .u8 72))), none⟩,
                 ⟨(some 46), .mv (.t 47), none⟩])
               (.cond (.t 46)
                 .skip
                 (.reg [⟨(some 48), .bin .eql (.t 30) (.c (.d (.int .u8 104))), none⟩,
                   ⟨(some 46), .mv (.t 48), none⟩])))
              (.cond (.t 46)
                (.reg [⟨(some 49), .mv (.t 4), none⟩,
                  ⟨(some 50), .fadr 3 (.t 3), none⟩,
                  ⟨(some 51), .ld none (.t 50), none⟩,
                  ⟨(some 52), .bin .shl (.t 51) (.c (.d (.int .u64 25))), none⟩,
                  ⟨(some 53), .bin .or (.t 49) (.t 52), none⟩,
                  ⟨(some 54), .fadr 4 (.t 1), none⟩,
                  ⟨(some 55), .ld none (.t 54), none⟩,
                  ⟨(some 56), .conv .u32 (.t 55), none⟩,
                  ⟨(some 57), .bin .shl (.t 56) (.c (.d (.int .u64 20))), none⟩,
                  ⟨(some 58), .bin .or (.t 53) (.t 57), none⟩,
                  ⟨(some 4), .mv (.t 58), none⟩])
                (.seq (.reg [⟨(some 60), .bin .eql (.t 30) (.c (.d (.int .u8 83))), none⟩,
                   ⟨(some 59), .mv (.t 60), none⟩])
                 (.cond (.t 59)
                   (.draw 10 [⟨(some 61), .mv (.t 4), none⟩,
                     ⟨(some 62), .fadr 4 (.t 1), none⟩,
                     ⟨(some 63), .ld none (.t 62), none⟩,
                     ⟨(some 64), .call 44 [(.t 63), (.c (.d (.int .u32 0))), (.c (.d (.int .u32 5)))], none⟩,
                     ⟨(some 65), .bin .shl (.t 64) (.c (.d (.int .u64 7))), none⟩,
                     ⟨(some 66), .bin .or (.t 61) (.t 65), none⟩,
                     ⟨(some 67), .fadr 4 (.t 1), none⟩,
                     ⟨(some 68), .ld none (.t 67), none⟩,
                     ⟨(some 69), .call 44 [(.t 68), (.c (.d (.int .u32 5))), (.c (.d (.int .u32 7)))], none⟩,
                     ⟨(some 70), .bin .shl (.t 69) (.c (.d (.int .u64 25))), none⟩,
                     ⟨(some 71), .bin .or (.t 66) (.t 70), none⟩,
                     ⟨(some 4), .mv (.t 71), none⟩])
                   (.seq (.reg [⟨(some 73), .bin .eql (.t 30) (.c (.d (.int .u8 66))), none⟩,
                      ⟨(some 72), .mv (.t 73), none⟩])
                    (.cond (.t 72)
                      (.draw 20 [⟨(some 74), .mv (.t 4), none⟩,
                        ⟨(some 75), .fadr 4 (.t 1), none⟩,
                        ⟨(some 76), .ld none (.t 75), none⟩,
                        ⟨(some 77), .call 44 [(.t 76), (.c (.d (.int .u32 11))), (.c (.d (.int .u32 1)))], none⟩,
                        ⟨(some 78), .bin .shl (.t 77) (.c (.d (.int .u64 7))), none⟩,
                        ⟨(some 79), .bin .or (.t 74) (.t 78), none⟩,
                        ⟨(some 80), .fadr 4 (.t 1), none⟩,
                        ⟨(some 81), .ld none (.t 80), none⟩,
                        ⟨(some 82), .call 44 [(.t 81), (.c (.d (.int .u32 1))), (.c (.d (.int .u32 4)))], none⟩,
                        ⟨(some 83), .bin .shl (.t 82) (.c (.d (.int .u64 8))), none⟩,
                        ⟨(some 84), .bin .or (.t 79) (.t 83), none⟩,
                        ⟨(some 85), .fadr 4 (.t 1), none⟩,
                        ⟨(some 86), .ld none (.t 85), none⟩,
                        ⟨(some 87), .call 44 [(.t 86), (.c (.d (.int .u32 5))), (.c (.d (.int .u32 6)))], none⟩,
                        ⟨(some 88), .bin .shl (.t 87) (.c (.d (.int .u64 25))), none⟩,
                        ⟨(some 89), .bin .or (.t 84) (.t 88), none⟩,
                        ⟨(some 90), .fadr 4 (.t 1), none⟩,
                        ⟨(some 91), .ld none (.t 90), none⟩,
                        ⟨(some 92), .call 44 [(.t 91), (.c (.d (.int .u32 12))), (.c (.d (.int .u32 1)))], none⟩,
                        ⟨(some 93), .bin .shl (.t 92) (.c (.d (.int .u64 31))), none⟩,
                        ⟨(some 94), .bin .or (.t 89) (.t 93), none⟩,
                        ⟨(some 4), .mv (.t 94), none⟩])
                      (.seq (.reg [⟨(some 96), .bin .eql (.t 30) (.c (.d (.int .u8 85))), none⟩,
                         ⟨(some 95), .mv (.t 96), none⟩])
                       (.cond (.t 95)
                         (.reg [⟨(some 97), .mv (.t 4), none⟩,
                           ⟨(some 98), .fadr 4 (.t 1), none⟩,
                           ⟨(some 99), .ld none (.t 98), none⟩,
                           ⟨(some 100), .call 44 [(.t 99), (.c (.d (.int .u32 0))), (.c (.d (.int .u32 20)))], none⟩,
                           ⟨(some 101), .bin .shl (.t 100) (.c (.d (.int .u64 12))), none⟩,
                           ⟨(some 102), .bin .or (.t 97) (.t 101), none⟩,
                           ⟨(some 4), .mv (.t 102), none⟩])
                         (.seq (.reg [⟨(some 104), .bin .eql (.t 30) (.c (.d (.int .u8 74))), none⟩,
                            ⟨(some 103), .mv (.t 104), none⟩])
                          (.cond (.t 103)
                            (.draw 20 [⟨(some 105), .mv (.t 4), none⟩,
                              ⟨(some 106), .fadr 4 (.t 1), none⟩,
                              ⟨(some 107), .ld none (.t 106), none⟩,
                              ⟨(some 108), .call 44 [(.t 107), (.c (.d (.int .u32 12))), (.c (.d (.int .u32 8)))], none⟩,
                              ⟨(some 109), .bin .shl (.t 108) (.c (.d (.int .u64 12))), none⟩,
                              ⟨(some 110), .bin .or (.t 105) (.t 109), none⟩,
                              ⟨(some 111), .fadr 4 (.t 1), none⟩,
                              ⟨(some 112), .ld none (.t 111), none⟩,
                              ⟨(some 113), .call 44 [(.t 112), (.c (.d (.int .u32 11))), (.c (.d (.int .u32 1)))], none⟩,
                              ⟨(some 114), .bin .shl (.t 113) (.c (.d (.int .u64 20))), none⟩,
                              ⟨(some 115), .bin .or (.t 110) (.t 114), none⟩,
                              ⟨(some 116), .fadr 4 (.t 1), none⟩,
                              ⟨(some 117), .ld none (.t 116), none⟩,
                              ⟨(some 118), .call 44 [(.t 117), (.c (.d (.int .u32 1))), (.c (.d (.int .u32 10)))], none⟩,
                              ⟨(some 119), .bin .shl (.t 118) (.c (.d (.int .u64 21))), none⟩,
                              ⟨(some 120), .bin .or (.t 115) (.t 119), none⟩,
                              ⟨(some 121), .fadr 4 (.t 1), none⟩,
                              ⟨(some 122), .ld none (.t 121), none⟩,
                              ⟨(some 123), .call 44 [(.t 122), (.c (.d (.int .u32 20))), (.c (.d (.int .u32 1)))], none⟩,
                              ⟨(some 124), .bin .shl (.t 123) (.c (.d (.int .u64 31))), none⟩,
                              ⟨(some 125), .bin .or (.t 120) (.t 124), none⟩,
                              ⟨(some 4), .mv (.t 125), none⟩])
                            .skip))))))))))))))))
     (.seq (.reg [⟨(some 126), .mv (.t 4), none⟩,
        ⟨(some 2), .mv (.t 126), none⟩])
      .ret)))))
def F27 : VFn := ⟨1, 127, B27, [.tmp 2], false⟩

def A27 : Ann := ⟨keepOf [], ghostOf []⟩
-- 28 patina/rv.has
def B28 : VCode :=
 (.seq (.reg [⟨(some 2), .mv (.c (.d (.bool false))), none⟩,
    ⟨(some 3), .mv (.c (.d (.bool false))), none⟩,
    ⟨(some 4), .mv (.c (.d (.bool false))), none⟩])
  (.seq (.seq (.reg [⟨(some 5), .mv (.t 0), none⟩])
    (.block 0 (.seq (.block 4 (.seq (.block 3 (.seq (.block 2 (.seq (.block 1 (.seq (.seq (.seq (.reg [⟨(some 7), .bin .eql (.t 5) (.c (.d (.int .u8 82))), none⟩,
                  ⟨(some 6), .mv (.t 7), none⟩])
                (.cond (.t 6)
                  (.exit 1)
                  .skip))
               (.seq (.seq (.seq (.reg [⟨(some 9), .bin .eql (.t 5) (.c (.d (.int .u8 73))), none⟩,
                    ⟨(some 8), .mv (.t 9), none⟩])
                  (.cond (.t 8)
                    .skip
                    (.reg [⟨(some 10), .bin .eql (.t 5) (.c (.d (.int .u8 72))), none⟩,
                      ⟨(some 8), .mv (.t 10), none⟩])))
                 (.cond (.t 8)
                   (.exit 2)
                   .skip))
                (.seq (.seq (.seq (.reg [⟨(some 12), .bin .eql (.t 5) (.c (.d (.int .u8 85))), none⟩,
                     ⟨(some 11), .mv (.t 12), none⟩])
                   (.cond (.t 11)
                     .skip
                     (.reg [⟨(some 13), .bin .eql (.t 5) (.c (.d (.int .u8 74))), none⟩,
                       ⟨(some 11), .mv (.t 13), none⟩])))
                  (.cond (.t 11)
                    (.exit 3)
                    .skip))
                 (.seq (.seq (.reg [⟨(some 15), .bin .eql (.t 5) (.c (.d (.int .u8 66))), none⟩,
                     ⟨(some 14), .mv (.t 15), none⟩])
                   (.cond (.t 14)
                     .skip
                     (.reg [⟨(some 16), .bin .eql (.t 5) (.c (.d (.int .u8 83))), none⟩,
                       ⟨(some 14), .mv (.t 16), none⟩])))
                  (.cond (.t 14)
                    (.exit 4)
                    .skip)))))
              (.exit 0)))
            (.reg [⟨(some 4), .mv (.c (.d (.bool true))), none⟩])))
          (.reg [⟨(some 3), .mv (.c (.d (.bool true))), none⟩])))
        (.seq (.reg [⟨(some 2), .mv (.c (.d (.bool true))), none⟩])
         (.exit 0))))
      (.seq (.reg [⟨(some 3), .mv (.c (.d (.bool true))), none⟩,
         ⟨(some 4), .mv (.c (.d (.bool true))), none⟩])
       (.exit 0)))))
   (.seq (.reg [⟨(some 17), .mv (.t 2), none⟩,
      ⟨(some 18), .mv (.t 3), none⟩,
      ⟨(some 19), .mv (.t 4), none⟩,
      ⟨(some 2), .mv (.t 17), none⟩,
      ⟨(some 3), .mv (.t 18), none⟩,
      ⟨(some 4), .mv (.t 19), none⟩])
    .ret)))
def F28 : VFn := ⟨1, 20, B28, [.tmp 2, .tmp 3, .tmp 4], false⟩

def A28 : Ann := ⟨keepOf [], ghostOf []⟩
-- 29 patina/rv.register
def B29 : VCode :=
 (.seq (.reg [⟨(some 4), .mv (.c (.d (.bool false))), none⟩])
  (.seq (.reg [⟨(some 5), .mv (.t 1), none⟩,
     ⟨(some 6), .bin .eql (.t 5) (.c (.d (.int .i64 0))), none⟩,
     ⟨(some 7), .mv (.t 6), none⟩,
     ⟨(some 8), .mv (.t 0), some (7, false)⟩,
     ⟨(some 9), .mv (.t 8), some (7, false)⟩,
     ⟨(some 10), .mv (.t 1), some (9, true)⟩,
     ⟨(some 11), .bin .gtr (.t 10) (.c (.d (.int .i64 0))), some (9, true)⟩,
     ⟨(some 12), .pick (.t 9) (.t 11) (.c (.d (.bool false))), some (7, false)⟩,
     ⟨(some 13), .mv (.t 12), some (7, false)⟩,
     ⟨(some 14), .mv (.t 1), some (13, true)⟩,
     ⟨(some 15), .bin .lss (.t 14) (.c (.d (.int .i64 32))), some (13, true)⟩,
     ⟨(some 16), .pick (.t 13) (.t 15) (.c (.d (.bool false))), some (7, false)⟩,
     ⟨(some 17), .pick (.t 7) (.c (.d (.bool true))) (.t 16), none⟩,
     ⟨(some 4), .mv (.t 17), none⟩])
   .ret))
def F29 : VFn := ⟨2, 18, B29, [.tmp 4], false⟩

def A29 : Ann := ⟨keepOf [], ghostOf []⟩
-- 30 patina/rv.number
def B30 : VCode :=
 (.seq (.reg [⟨(some 3), .box (.t 0), none⟩,
    ⟨(some 5), .box (.t 2), none⟩,
    ⟨(some 6), .mv (.c (.d (.bool false))), none⟩])
  (.seq (.reg [⟨(some 8), .mkfn 45 [(.t 5)], none⟩,
     ⟨(some 7), .mv (.t 8), none⟩])
   (.seq (.seq (.reg [⟨(some 9), .fadr 0 (.t 3), none⟩,
       ⟨(some 10), .ld none (.t 9), none⟩])
     (.block 0 (.seq (.seq (.reg [⟨(some 12), .bin .eql (.t 10) (.c (.d (.int .u8 73))), none⟩,
          ⟨(some 11), .mv (.t 12), none⟩])
        (.cond (.t 11)
          .skip
          (.reg [⟨(some 13), .bin .eql (.t 10) (.c (.d (.int .u8 83))), none⟩,
            ⟨(some 11), .mv (.t 13), none⟩])))
       (.cond (.t 11)
         (.seq (.reg [⟨(some 14), .mv (.t 7), none⟩,
            ⟨(some 15), .callv (.t 14) [(.c (.d (.int .i64 (-2048)))), (.c (.d (.int .i64 2047)))], none⟩,
            ⟨(some 6), .mv (.t 15), none⟩])
          .ret)
         (.seq (.reg [⟨(some 17), .bin .eql (.t 10) (.c (.d (.int .u8 66))), none⟩,
            ⟨(some 16), .mv (.t 17), none⟩])
          (.cond (.t 16)
            (.seq (.reg [⟨(some 18), .mv (.t 7), none⟩,
               ⟨(some 19), .callv (.t 18) [(.c (.d (.int .i64 (-4096)))), (.c (.d (.int .i64 4094)))], none⟩,
               ⟨(some 20), .mv (.t 19), none⟩,
               ⟨(some 21), .ld none (.t 5), some (20, true)⟩,
               ⟨(some 22), .bin .rem (.t 21) (.c (.d (.int .i64 2))), some (20, true)⟩,
               ⟨(some 23), .bin .eql (.t 22) (.c (.d (.int .i64 0))), some (20, true)⟩,
               ⟨(some 24), .pick (.t 20) (.t 23) (.c (.d (.bool false))), none⟩,
               ⟨(some 6), .mv (.t 24), none⟩])
             .ret)
            (.seq (.reg [⟨(some 26), .bin .eql (.t 10) (.c (.d (.int .u8 74))), none⟩,
               ⟨(some 25), .mv (.t 26), none⟩])
             (.cond (.t 25)
               (.seq (.reg [⟨(some 27), .mv (.t 7), none⟩,
                  ⟨(some 28), .callv (.t 27) [(.c (.d (.int .i64 (-1048576)))), (.c (.d (.int .i64 1048574)))], none⟩,
                  ⟨(some 29), .mv (.t 28), none⟩,
                  ⟨(some 30), .ld none (.t 5), some (29, true)⟩,
                  ⟨(some 31), .bin .rem (.t 30) (.c (.d (.int .i64 2))), some (29, true)⟩,
                  ⟨(some 32), .bin .eql (.t 31) (.c (.d (.int .i64 0))), some (29, true)⟩,
                  ⟨(some 33), .pick (.t 29) (.t 32) (.c (.d (.bool false))), none⟩,
                  ⟨(some 6), .mv (.t 33), none⟩])
                .ret)
               (.seq (.reg [⟨(some 35), .bin .eql (.t 10) (.c (.d (.int .u8 85))), none⟩,
                  ⟨(some 34), .mv (.t 35), none⟩])
                (.cond (.t 34)
                  (.seq (.reg [⟨(some 36), .mv (.t 7), none⟩,
                     ⟨(some 37), .callv (.t 36) [(.c (.d (.int .i64 (-524288)))), (.c (.d (.int .i64 524287)))], none⟩,
                     ⟨(some 6), .mv (.t 37), none⟩])
                   .ret)
                  (.seq (.reg [⟨(some 39), .bin .eql (.t 10) (.c (.d (.int .u8 72))), none⟩,
                     ⟨(some 38), .mv (.t 39), none⟩])
                   (.cond (.t 38)
                     (.seq (.reg [⟨(some 40), .mv (.t 7), none⟩,
                        ⟨(some 41), .callv (.t 40) [(.c (.d (.int .i64 0))), (.c (.d (.int .i64 63)))], none⟩,
                        ⟨(some 42), .mv (.t 41), none⟩,
                        ⟨(some 43), .mv (.t 1), some (42, true)⟩,
                        ⟨(some 44), .bin .lss (.t 43) (.c (.d (.int .i64 32))), some (42, true)⟩,
                        ⟨(some 45), .mv (.t 44), some (42, true)⟩,
                        ⟨(some 46), .ld none (.t 5), some (45, false)⟩,
                        ⟨(some 47), .bin .lss (.t 46) (.c (.d (.int .i64 32))), some (45, false)⟩,
                        ⟨(some 48), .pick (.t 45) (.c (.d (.bool true))) (.t 47), some (42, true)⟩,
                        ⟨(some 49), .pick (.t 42) (.t 48) (.c (.d (.bool false))), none⟩,
                        ⟨(some 6), .mv (.t 49), none⟩])
                      .ret)
                     .skip))))))))))))
    (.seq (.reg [⟨(some 50), .ld none (.t 5), none⟩,
       ⟨(some 51), .bin .eql (.t 50) (.c (.d (.int .i64 0))), none⟩,
       ⟨(some 6), .mv (.t 51), none⟩])
     .ret))))
def F30 : VFn := ⟨3, 52, B30, [.tmp 6], false⟩

def A30 : Ann := ⟨keepOf [], ghostOf []⟩
-- 31 (patina/rv.row).fits
def B31 : VCode :=
 (.seq (.reg [⟨(some 2), .box (.t 0), none⟩,
    ⟨(some 4), .mv (.c (.d (.bool false))), none⟩])
  (.seq (.seq (.reg [⟨(some 6), .fadr 0 (.t 2), none⟩,
      ⟨(some 7), .ld none (.t 6), none⟩])
    (.block 0 (.seq (.reg [⟨(some 9), .bin .eql (.t 7) (.c (.d (.int .u8 78))), none⟩,
        ⟨(some 8), .mv (.t 9), none⟩])
      (.cond (.t 8)
        (.seq (.reg [⟨(some 10), .mv (.t 1), none⟩,
           ⟨(some 11), .fadr 1 (.t 2), none⟩,
           ⟨(some 12), .ld none (.t 11), none⟩,
           ⟨(some 13), .bin .eql (.t 10) (.t 12), none⟩,
           ⟨(some 4), .mv (.t 13), none⟩])
         .ret)
        (.seq (.reg [⟨(some 15), .bin .eql (.t 7) (.c (.d (.int .u8 72))), none⟩,
           ⟨(some 14), .mv (.t 15), none⟩])
         (.cond (.t 14)
           (.seq (.reg [⟨(some 16), .mv (.t 1), none⟩,
              ⟨(some 17), .bin .shr (.t 16) (.c (.d (.int .u64 26))), none⟩,
              ⟨(some 18), .bin .shl (.t 17) (.c (.d (.int .u64 1))), none⟩,
              ⟨(some 5), .mv (.t 18), none⟩])
            (.seq (.seq (.reg [⟨(some 19), .fadr 1 (.t 2), none⟩,
                ⟨(some 20), .ld none (.t 19), none⟩,
                ⟨(some 21), .bin .eql (.t 20) (.c (.d (.int .u32 27))), none⟩])
              (.cond (.t 21)
                (.reg [⟨(some 22), .mv (.t 1), none⟩,
                  ⟨(some 23), .bin .shr (.t 22) (.c (.d (.int .u64 25))), none⟩,
                  ⟨(some 5), .mv (.t 23), none⟩])
                .skip))
             (.seq (.reg [⟨(some 24), .mv (.t 5), none⟩,
                ⟨(some 25), .fadr 3 (.t 2), none⟩,
                ⟨(some 26), .ld none (.t 25), none⟩,
                ⟨(some 27), .bin .neq (.t 24) (.t 26), none⟩])
              (.cond (.t 27)
                (.seq (.reg [⟨(some 4), .mv (.c (.d (.bool false))), none⟩])
                 .ret)
                .skip))))
           (.seq (.reg [⟨(some 29), .bin .eql (.t 7) (.c (.d (.int .u8 82))), none⟩,
              ⟨(some 28), .mv (.t 29), none⟩])
            (.cond (.t 28)
              (.seq (.reg [⟨(some 30), .mv (.t 1), none⟩,
                 ⟨(some 31), .bin .shr (.t 30) (.c (.d (.int .u64 25))), none⟩,
                 ⟨(some 32), .fadr 3 (.t 2), none⟩,
                 ⟨(some 33), .ld none (.t 32), none⟩,
                 ⟨(some 34), .bin .neq (.t 31) (.t 33), none⟩])
               (.cond (.t 34)
                 (.seq (.reg [⟨(some 4), .mv (.c (.d (.bool false))), none⟩])
                  .ret)
                 .skip))
              .skip))))))))
   (.seq (.reg [⟨(some 35), .mv (.t 1), none⟩,
      ⟨(some 36), .bin .and (.t 35) (.c (.d (.int .u32 127))), none⟩,
      ⟨(some 37), .fadr 1 (.t 2), none⟩,
      ⟨(some 38), .ld none (.t 37), none⟩,
      ⟨(some 39), .bin .eql (.t 36) (.t 38), none⟩,
      ⟨(some 40), .mv (.t 39), none⟩,
      ⟨(some 41), .fadr 0 (.t 2), some (40, true)⟩,
      ⟨(some 42), .ld none (.t 41), some (40, true)⟩,
      ⟨(some 43), .bin .eql (.t 42) (.c (.d (.int .u8 85))), some (40, true)⟩,
      ⟨(some 44), .mv (.t 43), some (40, true)⟩,
      ⟨(some 45), .fadr 0 (.t 2), some (44, false)⟩,
      ⟨(some 46), .ld none (.t 45), some (44, false)⟩,
      ⟨(some 47), .bin .eql (.t 46) (.c (.d (.int .u8 74))), some (44, false)⟩,
      ⟨(some 48), .pick (.t 44) (.c (.d (.bool true))) (.t 47), some (40, true)⟩,
      ⟨(some 49), .mv (.t 48), some (40, true)⟩,
      ⟨(some 50), .mv (.t 1), some (49, false)⟩,
      ⟨(some 51), .bin .shr (.t 50) (.c (.d (.int .u64 12))), some (49, false)⟩,
      ⟨(some 52), .bin .and (.t 51) (.c (.d (.int .u32 7))), some (49, false)⟩,
      ⟨(some 53), .fadr 2 (.t 2), some (49, false)⟩,
      ⟨(some 54), .ld none (.t 53), some (49, false)⟩,
      ⟨(some 55), .bin .eql (.t 52) (.t 54), some (49, false)⟩,
      ⟨(some 56), .pick (.t 49) (.c (.d (.bool true))) (.t 55), some (40, true)⟩,
      ⟨(some 57), .pick (.t 40) (.t 56) (.c (.d (.bool false))), none⟩,
      ⟨(some 4), .mv (.t 57), none⟩])
    .ret)))
def F31 : VFn := ⟨2, 58, B31, [.tmp 4], false⟩

def A31 : Ann := ⟨keepOf [], ghostOf []⟩
-- 32 patina/rv.imm
def B32 : VCode :=
 (.seq (.reg [⟨(some 4), .mv (.c (.d (.int .i64 0))), none⟩])
  (.seq (.seq (.reg [⟨(some 5), .mv (.t 0), none⟩])
    (.block 0 (.seq (.reg [⟨(some 7), .bin .eql (.t 5) (.c (.d (.int .u8 73))), none⟩,
        ⟨(some 6), .mv (.t 7), none⟩])
      (.cond (.t 6)
        (.seq (.reg [⟨(some 8), .mv (.t 1), none⟩,
           ⟨(some 9), .bin .shr (.t 8) (.c (.d (.int .u64 20))), none⟩,
           ⟨(some 10), .call 46 [(.t 9), (.c (.d (.int .u64 12)))], none⟩,
           ⟨(some 4), .mv (.t 10), none⟩])
         .ret)
        (.seq (.reg [⟨(some 12), .bin .eql (.t 5) (.c (.d (.int .u8 72))), none⟩,
           ⟨(some 11), .mv (.t 12), none⟩])
         (.cond (.t 11)
           (.seq (.reg [⟨(some 13), .mv (.t 1), none⟩,
              ⟨(some 14), .bin .shr (.t 13) (.c (.d (.int .u64 20))), none⟩,
              ⟨(some 15), .bin .and (.t 14) (.c (.d (.int .u32 63))), none⟩,
              ⟨(some 16), .conv .i64 (.t 15), none⟩,
              ⟨(some 4), .mv (.t 16), none⟩])
            .ret)
           (.seq (.reg [⟨(some 18), .bin .eql (.t 5) (.c (.d (.int .u8 83))), none⟩,
              ⟨(some 17), .mv (.t 18), none⟩])
            (.cond (.t 17)
              (.seq (.reg [⟨(some 19), .mv (.t 1), none⟩,
                 ⟨(some 20), .call 26 [(.t 19), (.c (.d (.int .u64 7))), (.c (.d (.int .u64 5))), (.c (.d (.int .u64 0)))], none⟩,
                 ⟨(some 21), .mv (.t 1), none⟩,
                 ⟨(some 22), .call 26 [(.t 21), (.c (.d (.int .u64 25))), (.c (.d (.int .u64 7))), (.c (.d (.int .u64 5)))], none⟩,
                 ⟨(some 23), .bin .or (.t 20) (.t 22), none⟩,
                 ⟨(some 24), .call 46 [(.t 23), (.c (.d (.int .u64 12)))], none⟩,
                 ⟨(some 4), .mv (.t 24), none⟩])
               .ret)
              (.seq (.reg [⟨(some 26), .bin .eql (.t 5) (.c (.d (.int .u8 66))), none⟩,
                 ⟨(some 25), .mv (.t 26), none⟩])
               (.cond (.t 25)
                 (.seq (.reg [⟨(some 27), .mv (.t 1), none⟩,
                    ⟨(some 28), .call 26 [(.t 27), (.c (.d (.int .u64 7))), (.c (.d (.int .u64 1))), (.c (.d (.int .u64 11)))], none⟩,
                    ⟨(some 29), .mv (.t 1), none⟩,
                    ⟨(some 30), .call 26 [(.t 29), (.c (.d (.int .u64 8))), (.c (.d (.int .u64 4))), (.c (.d (.int .u64 1)))], none⟩,
                    ⟨(some 31), .bin .or (.t 28) (.t 30), none⟩,
                    ⟨(some 32), .mv (.t 1), none⟩,
                    ⟨(some 33), .call 26 [(.t 32), (.c (.d (.int .u64 25))), (.c (.d (.int .u64 6))), (.c (.d (.int .u64 5)))], none⟩,
                    ⟨(some 34), .bin .or (.t 31) (.t 33), none⟩,
                    ⟨(some 35), .mv (.t 1), none⟩,
                    ⟨(some 36), .call 26 [(.t 35), (.c (.d (.int .u64 31))), (.c (.d (.int .u64 1))), (.c (.d (.int .u64 12)))], none⟩,
                    ⟨(some 37), .bin .or (.t 34) (.t 36), none⟩,
                    ⟨(some 38), .call 46 [(.t 37), (.c (.d (.int .u64 13)))], none⟩,
                    ⟨(some 4), .mv (.t 38), none⟩])
                  .ret)
                 (.seq (.reg [⟨(some 40), .bin .eql (.t 5) (.c (.d (.int .u8 85))), none⟩,
                    ⟨(some 39), .mv (.t 40), none⟩])
                  (.cond (.t 39)
                    (.seq (.reg [⟨(some 41), .mv (.t 1), none⟩,
                       ⟨(some 42), .bin .shr (.t 41) (.c (.d (.int .u64 12))), none⟩,
                       ⟨(some 43), .call 46 [(.t 42), (.c (.d (.int .u64 20)))], none⟩,
                       ⟨(some 4), .mv (.t 43), none⟩])
                     .ret)
                    (.seq (.reg [⟨(some 45), .bin .eql (.t 5) (.c (.d (.int .u8 74))), none⟩,
                       ⟨(some 44), .mv (.t 45), none⟩])
                     (.cond (.t 44)
                       (.seq (.reg [⟨(some 46), .mv (.t 1), none⟩,
                          ⟨(some 47), .call 26 [(.t 46), (.c (.d (.int .u64 12))), (.c (.d (.int .u64 8))), (.c (.d (.int .u64 12)))], none⟩,
                          ⟨(some 48), .mv (.t 1), none⟩,
                          ⟨(some 49), .call 26 [(.t 48), (.c (.d (.int .u64 20))), (.c (.d (.int .u64 1))), (.c (.d (.int .u64 11)))], none⟩,
                          ⟨(some 50), .bin .or (.t 47) (.t 49), none⟩,
                          ⟨(some 51), .mv (.t 1), none⟩,
                          ⟨(some 52), .call 26 [(.t 51), (.c (.d (.int .u64 21))), (.c (.d (.int .u64 10))), (.c (.d (.int .u64 1)))], none⟩,
                          ⟨(some 53), .bin .or (.t 50) (.t 52), none⟩,
                          ⟨(some 54), .mv (.t 1), none⟩,
                          ⟨(some 55), .call 26 [(.t 54), (.c (.d (.int .u64 31))), (.c (.d (.int .u64 1))), (.c (.d (.int .u64 20)))], none⟩,
                          ⟨(some 56), .bin .or (.t 53) (.t 55), none⟩,
                          ⟨(some 57), .call 46 [(.t 56), (.c (.d (.int .u64 21)))], none⟩,
                          ⟨(some 4), .mv (.t 57), none⟩])
                        .ret)
                       .skip))))))))))))))
   (.seq (.reg [⟨(some 4), .mv (.c (.d (.int .i64 0))), none⟩])
    .ret)))
def F32 : VFn := ⟨2, 58, B32, [.tmp 4], false⟩

def A32 : Ann := ⟨keepOf [], ghostOf []⟩
-- 33 patina/patinaref01.guess
def B33 : VCode :=
 (.seq (.reg [⟨(some 4), .zbox [(.d (.int .i64 0)), (.d (.int .i64 0)), (.d (.int .i64 0)), (.d (.int .i64 0)), (.d (.int .i64 0))], none⟩])
  (.seq (.reg [⟨(some 10), .mv (.t 0), none⟩,
     ⟨(some 11), .call 34 [(.t 10)], none⟩,
     ⟨(some 5), .zbox [(.d (.int .u8 0)), (.d (.int .u32 0)), (.d (.int .u32 0)), (.d (.int .u32 0))], none⟩,
     ⟨none, .st 4 (.t 5) (.t 11), none⟩])
   (.seq (.reg [⟨(some 13), .fadr 0 (.t 5), none⟩,
      ⟨(some 14), .ld none (.t 13), none⟩,
      ⟨(some 15), .call 35 [(.t 14)], none⟩,
      ⟨(some 12), .mv (.t 15), none⟩,
      ⟨(some 16), .ext (.t 12) 0, none⟩,
      ⟨(some 17), .ext (.t 12) 1, none⟩,
      ⟨(some 18), .ext (.t 12) 2, none⟩,
      ⟨(some 6), .mv (.t 16), none⟩,
      ⟨(some 7), .mv (.t 17), none⟩,
      ⟨(some 8), .mv (.t 18), none⟩])
    (.seq (.reg [⟨(some 19), .mv (.t 0), none⟩,
       ⟨(some 20), .build [(.d (.int .i64 0)), (.d (.int .i64 0)), (.d (.int .i64 0)), (.d (.int .i64 0)), (.d (.int .i64 0))] [(0, 1, (.t 19))], none⟩,
       ⟨(some 9), .zbox [(.d (.int .i64 0)), (.d (.int .i64 0)), (.d (.int .i64 0)), (.d (.int .i64 0)), (.d (.int .i64 0))], none⟩,
       ⟨none, .st 5 (.t 9) (.t 20), none⟩])
     (.seq (.seq (.reg [⟨(some 21), .mv (.t 6), none⟩])
       (.cond (.t 21)
         (.reg [⟨(some 22), .mv (.t 1), none⟩,
           ⟨(some 23), .call 47 [(.t 22), (.c (.d (.int .u32 7))), (.c (.d (.int .u32 5)))], none⟩,
           ⟨(some 24), .conv .i64 (.t 23), none⟩,
           ⟨(some 25), .fadr 1 (.t 9), none⟩,
           ⟨none, .st 1 (.t 25) (.t 24), none⟩])
         .skip))
      (.seq (.seq (.reg [⟨(some 26), .mv (.t 7), none⟩])
        (.cond (.t 26)
          (.reg [⟨(some 27), .mv (.t 1), none⟩,
            ⟨(some 28), .call 47 [(.t 27), (.c (.d (.int .u32 15))), (.c (.d (.int .u32 5)))], none⟩,
            ⟨(some 29), .conv .i64 (.t 28), none⟩,
            ⟨(some 30), .fadr 2 (.t 9), none⟩,
            ⟨none, .st 1 (.t 30) (.t 29), none⟩])
          .skip))
       (.seq (.seq (.reg [⟨(some 31), .mv (.t 8), none⟩])
         (.cond (.t 31)
           (.reg [⟨(some 32), .mv (.t 1), none⟩,
             ⟨(some 33), .call 47 [(.t 32), (.c (.d (.int .u32 20))), (.c (.d (.int .u32 5)))], none⟩,
             ⟨(some 34), .conv .i64 (.t 33), none⟩,
             ⟨(some 35), .fadr 3 (.t 9), none⟩,
             ⟨none, .st 1 (.t 35) (.t 34), none⟩])
           .skip))
        (.seq (.seq (.reg [⟨(some 36), .fadr 0 (.t 5), none⟩,
            ⟨(some 37), .ld none (.t 36), none⟩])
          (.block 0 (.seq (.reg [⟨(some 39), .bin .eql (.t 37) (.c (.d (.int .u8 73))), none⟩,
              ⟨(some 38), .mv (.t 39), none⟩])
            (.cond (.t 38)
              (.reg [⟨(some 40), .mv (.t 1), none⟩,
                ⟨(some 41), .call 47 [(.t 40), (.c (.d (.int .u32 20))), (.c (.d (.int .u32 12)))], none⟩,
                ⟨(some 42), .call 48 [(.t 41), (.c (.d (.int .u32 12)))], none⟩,
                ⟨(some 43), .fadr 4 (.t 9), none⟩,
                ⟨none, .st 1 (.t 43) (.t 42), none⟩])
              (.seq (.reg [⟨(some 45), .bin .eql (.t 37) (.c (.d (.int .u8 72))), none⟩,
                 ⟨(some 44), .mv (.t 45), none⟩])
               (.cond (.t 44)
                 (.reg [⟨(some 46), .mv (.t 1), none⟩,
                   ⟨(some 47), .call 47 [(.t 46), (.c (.d (.int .u32 20))), (.c (.d (.int .u32 6)))], none⟩,
                   ⟨(some 48), .conv .i64 (.t 47), none⟩,
                   ⟨(some 49), .fadr 4 (.t 9), none⟩,
                   ⟨none, .st 1 (.t 49) (.t 48), none⟩])
                 (.seq (.reg [⟨(some 51), .bin .eql (.t 37) (.c (.d (.int .u8 104))), none⟩,
                    ⟨(some 50), .mv (.t 51), none⟩])
                  (.cond (.t 50)
                    (.reg [⟨(some 52), .mv (.t 1), none⟩,
                      ⟨(some 53), .call 47 [(.t 52), (.c (.d (.int .u32 20))), (.c (.d (.int .u32 5)))], none⟩,
                      ⟨(some 54), .conv .i64 (.t 53), none⟩,
                      ⟨(some 55), .fadr 4 (.t 9), none⟩,
                      ⟨none, .st 1 (.t 55) (.t 54), none⟩])
                    (.seq (.reg [⟨(some 57), .bin .eql (.t 37) (.c (.d (.int .u8 83))), none⟩,
                       ⟨(some 56), .mv (.t 57), none⟩])
                     (.cond (.t 56)
                       (.reg [⟨(some 58), .mv (.t 1), none⟩,
                         ⟨(some 59), .call 47 [(.t 58), (.c (.d (.int .u32 7))), (.c (.d (.int .u32 5)))], none⟩,
                         ⟨(some 60), .mv (.t 1), none⟩,
                         ⟨(some 61), .call 47 [(.t 60), (.c (.d (.int .u32 25))), (.c (.d (.int .u32 7)))], none⟩,
                         ⟨(some 62), .bin .shl (.t 61) (.c (.d (.int .u64 5))), none⟩,
                         ⟨(some 63), .bin .or (.t 59) (.t 62), none⟩,
                         ⟨(some 64), .call 48 [(.t 63), (.c (.d (.int .u32 12)))], none⟩,
                         ⟨(some 65), .fadr 4 (.t 9), none⟩,
                         ⟨none, .st 1 (.t 65) (.t 64), none⟩])
                       (.seq (.reg [⟨(some 67), .bin .eql (.t 37) (.c (.d (.int .u8 66))), none⟩,
                          ⟨(some 66), .mv (.t 67), none⟩])
                        (.cond (.t 66)
                          (.reg [⟨(some 68), .mv (.t 1), none⟩,
                            ⟨(some 69), .call 47 [(.t 68), (.c (.d (.int .u32 8))), (.c (.d (.int .u32 4)))], none⟩,
                            ⟨(some 70), .bin .shl (.t 69) (.c (.d (.int .u64 1))), none⟩,
                            ⟨(some 71), .mv (.t 1), none⟩,
                            ⟨(some 72), .call 47 [(.t 71), (.c (.d (.int .u32 25))), (.c (.d (.int .u32 6)))], none⟩,
                            ⟨(some 73), .bin .shl (.t 72) (.c (.d (.int .u64 5))), none⟩,
                            ⟨(some 74), .bin .or (.t 70) (.t 73), none⟩,
                            ⟨(some 75), .mv (.t 1), none⟩,
                            ⟨(some 76), .call 47 [(.t 75), (.c (.d (.int .u32 7))), (.c (.d (.int .u32 1)))], none⟩,
                            ⟨(some 77), .bin .shl (.t 76) (.c (.d (.int .u64 11))), none⟩,
                            ⟨(some 78), .bin .or (.t 74) (.t 77), none⟩,
                            ⟨(some 79), .mv (.t 1), none⟩,
                            ⟨(some 80), .call 47 [(.t 79), (.c (.d (.int .u32 31))), (.c (.d (.int .u32 1)))], none⟩,
                            ⟨(some 81), .bin .shl (.t 80) (.c (.d (.int .u64 12))), none⟩,
                            ⟨(some 82), .bin .or (.t 78) (.t 81), none⟩,
                            ⟨(some 83), .call 48 [(.t 82), (.c (.d (.int .u32 13)))], none⟩,
                            ⟨(some 84), .fadr 4 (.t 9), none⟩,
                            ⟨none, .st 1 (.t 84) (.t 83), none⟩])
                          (.seq (.reg [⟨(some 86), .bin .eql (.t 37) (.c (.d (.int .u8 85))), none⟩,
                             ⟨(some 85), .mv (.t 86), none⟩])
                           (.cond (.t 85)
                             (.reg [⟨(some 87), .mv (.t 1), none⟩,
                               ⟨(some 88), .call 47 [(.t 87), (.c (.d (.int .u32 12))), (.c (.d (.int .u32 20)))], none⟩,
                               ⟨(some 89), .call 48 [(.t 88), (.c (.d (.int .u32 20)))], none⟩,
                               ⟨(some 90), .fadr 4 (.t 9), none⟩,
                               ⟨none, .st 1 (.t 90) (.t 89), none⟩])
                             (.seq (.reg [⟨(some 92), .bin .eql (.t 37) (.c (.d (.int .u8 74))), none⟩,
                                ⟨(some 91), .mv (.t 92), none⟩])
                              (.cond (.t 91)
                                (.reg [⟨(some 93), .mv (.t 1), none⟩,
                                  ⟨(some 94), .call 47 [(.t 93), (.c (.d (.int .u32 21))), (.c (.d (.int .u32 10)))], none⟩,
                                  ⟨(some 95), .bin .shl (.t 94) (.c (.d (.int .u64 1))), none⟩,
                                  ⟨(some 96), .mv (.t 1), none⟩,
                                  ⟨(some 97), .call 47 [(.t 96), (.c (.d (.int .u32 20))), (.c (.d (.int .u32 1)))], none⟩,
                                  ⟨(some 98), .bin .shl (.t 97) (.c (.d (.int .u64 11))), none⟩,
                                  ⟨(some 99), .bin .or (.t 95) (.t 98), none⟩,
                                  ⟨(some 100), .mv (.t 1), none⟩,
                                  ⟨(some 101), .call 47 [(.t 100), (.c (.d (.int .u32 12))), (.c (.d (.int .u32 8)))], none⟩,
                                  ⟨(some 102), .bin .shl (.t 101) (.c (.d (.int .u64 12))), none⟩,
                                  ⟨(some 103), .bin .or (.t 99) (.t 102), none⟩,
                                  ⟨(some 104), .mv (.t 1), none⟩,
                                  ⟨(some 105), .call 47 [(.t 104), (.c (.d (.int .u32 31))), (.c (.d (.int .u32 1)))], none⟩,
                                  ⟨(some 106), .bin .shl (.t 105) (.c (.d (.int .u64 20))), none⟩,
                                  ⟨(some 107), .bin .or (.t 103) (.t 106), none⟩,
                                  ⟨(some 108), .call 48 [(.t 107), (.c (.d (.int .u32 21)))], none⟩,
                                  ⟨(some 109), .fadr 4 (.t 9), none⟩,
                                  ⟨none, .st 1 (.t 109) (.t 108), none⟩])
                                .skip))))))))))))))))
         (.seq (.reg [⟨(some 110), .ld (some 5) (.t 9), none⟩,
            ⟨none, .st 5 (.t 4) (.t 110), none⟩])
          .ret)))))))))
def F33 : VFn := ⟨2, 111, B33, [.cell 4 (some 5)], false⟩

def A33 : Ann := ⟨keepOf [], ghostOf []⟩
-- 34 patina/patinaref01.FormOf
def B34 : VCode :=
 (.seq (.reg [⟨(some 2), .zbox [(.d (.int .u8 0)), (.d (.int .u32 0)), (.d (.int .u32 0)), (.d (.int .u32 0))], none⟩])
  (.seq (.block 0 (.seq (.reg [⟨(some 4), .mv (.t 0), none⟩,
       ⟨(some 5), .bin .eql (.t 4) (.c (.d (.int .i64 1))), none⟩,
       ⟨(some 3), .mv (.t 5), none⟩])
     (.cond (.t 3)
       (.seq (.reg [⟨(some 6), .build [(.d (.int .u8 0)), (.d (.int .u32 0)), (.d (.int .u32 0)), (.d (.int .u32 0))] [(0, 1, (.c (.d (.int .u8 85)))), (1, 1, (.c (.d (.int .u32 55)))), (2, 1, (.c (.d (.int .u32 0)))), (3, 1, (.c (.d (.int .u32 0))))], none⟩,
          ⟨none, .st 4 (.t 2) (.t 6), none⟩])
        .ret)
       (.seq (.reg [⟨(some 8), .mv (.t 0), none⟩,
          ⟨(some 9), .bin .eql (.t 8) (.c (.d (.int .i64 2))), none⟩,
          ⟨(some 7), .mv (.t 9), none⟩])
        (.cond (.t 7)
          (.seq (.reg [⟨(some 10), .build [(.d (.int .u8 0)), (.d (.int .u32 0)), (.d (.int .u32 0)), (.d (.int .u32 0))] [(0, 1, (.c (.d (.int .u8 85)))), (1, 1, (.c (.d (.int .u32 23)))), (2, 1, (.c (.d (.int .u32 0)))), (3, 1, (.c (.d (.int .u32 0))))], none⟩,
             ⟨none, .st 4 (.t 2) (.t 10), none⟩])
           .ret)
          (.seq (.reg [⟨(some 12), .mv (.t 0), none⟩,
             ⟨(some 13), .bin .eql (.t 12) (.c (.d (.int .i64 3))), none⟩,
             ⟨(some 11), .mv (.t 13), none⟩])
           (.cond (.t 11)
             (.seq (.reg [⟨(some 14), .build [(.d (.int .u8 0)), (.d (.int .u32 0)), (.d (.int .u32 0)), (.d (.int .u32 0))] [(0, 1, (.c (.d (.int .u8 74)))), (1, 1, (.c (.d (.int .u32 111)))), (2, 1, (.c (.d (.int .u32 0)))), (3, 1, (.c (.d (.int .u32 0))))], none⟩,
                ⟨none, .st 4 (.t 2) (.t 14), none⟩])
              .ret)
             (.seq (.reg [⟨(some 16), .mv (.t 0), none⟩,
                ⟨(some 17), .bin .eql (.t 16) (.c (.d (.int .i64 4))), none⟩,
                ⟨(some 15), .mv (.t 17), none⟩])
              (.cond (.t 15)
                (.seq (.reg [⟨(some 18), .build [(.d (.int .u8 0)), (.d (.int .u32 0)), (.d (.int .u32 0)), (.d (.int .u32 0))] [(0, 1, (.c (.d (.int .u8 73)))), (1, 1, (.c (.d (.int .u32 103)))), (2, 1, (.c (.d (.int .u32 0)))), (3, 1, (.c (.d (.int .u32 0))))], none⟩,
                   ⟨none, .st 4 (.t 2) (.t 18), none⟩])
                 .ret)
                (.seq (.reg [⟨(some 20), .mv (.t 0), none⟩,
                   ⟨(some 21), .bin .geq (.t 20) (.c (.d (.int .i64 5))), none⟩,
                   ⟨(some 22), .mv (.t 21), none⟩,
                   ⟨(some 23), .mv (.t 0), some (22, true)⟩,
                   ⟨(some 24), .bin .leq (.t 23) (.c (.d (.int .i64 10))), some (22, true)⟩,
                   ⟨(some 25), .pick (.t 22) (.t 24) (.c (.d (.bool false))), none⟩,
                   ⟨(some 19), .mv (.t 25), none⟩])
                 (.cond (.t 19)
                   (.seq (.reg [⟨(some 26), .bslice 1 6 [(.c (.d (.int .u32 0))), (.c (.d (.int .u32 1))), (.c (.d (.int .u32 4))), (.c (.d (.int .u32 5))), (.c (.d (.int .u32 6))), (.c (.d (.int .u32 7)))], none⟩,
                      ⟨(some 27), .mv (.t 0), none⟩,
                      ⟨(some 28), .bin .sub (.t 27) (.c (.d (.int .i64 5))), none⟩,
                      ⟨(some 29), .iadr 1 (.t 26) (.t 28), none⟩,
                      ⟨(some 30), .ld none (.t 29), none⟩,
                      ⟨(some 31), .build [(.d (.int .u8 0)), (.d (.int .u32 0)), (.d (.int .u32 0)), (.d (.int .u32 0))] [(0, 1, (.c (.d (.int .u8 66)))), (1, 1, (.c (.d (.int .u32 99)))), (2, 1, (.t 30)), (3, 1, (.c (.d (.int .u32 0))))], none⟩,
                      ⟨none, .st 4 (.t 2) (.t 31), none⟩])
                    .ret)
                   (.seq (.reg [⟨(some 33), .mv (.t 0), none⟩,
                      ⟨(some 34), .bin .geq (.t 33) (.c (.d (.int .i64 11))), none⟩,
                      ⟨(some 35), .mv (.t 34), none⟩,
                      ⟨(some 36), .mv (.t 0), some (35, true)⟩,
                      ⟨(some 37), .bin .leq (.t 36) (.c (.d (.int .i64 17))), some (35, true)⟩,
                      ⟨(some 38), .pick (.t 35) (.t 37) (.c (.d (.bool false))), none⟩,
                      ⟨(some 32), .mv (.t 38), none⟩])
                    (.cond (.t 32)
                      (.seq (.reg [⟨(some 39), .mv (.t 0), none⟩,
                         ⟨(some 40), .bin .sub (.t 39) (.c (.d (.int .i64 11))), none⟩,
                         ⟨(some 41), .conv .u32 (.t 40), none⟩,
                         ⟨(some 42), .build [(.d (.int .u8 0)), (.d (.int .u32 0)), (.d (.int .u32 0)), (.d (.int .u32 0))] [(0, 1, (.c (.d (.int .u8 73)))), (1, 1, (.c (.d (.int .u32 3)))), (2, 1, (.t 41)), (3, 1, (.c (.d (.int .u32 0))))], none⟩,
                         ⟨none, .st 4 (.t 2) (.t 42), none⟩])
                       .ret)
                      (.seq (.reg [⟨(some 44), .mv (.t 0), none⟩,
                         ⟨(some 45), .bin .geq (.t 44) (.c (.d (.int .i64 18))), none⟩,
                         ⟨(some 46), .mv (.t 45), none⟩,
                         ⟨(some 47), .mv (.t 0), some (46, true)⟩,
                         ⟨(some 48), .bin .leq (.t 47) (.c (.d (.int .i64 21))), some (46, true)⟩,
                         ⟨(some 49), .pick (.t 46) (.t 48) (.c (.d (.bool false))), none⟩,
                         ⟨(some 43), .mv (.t 49), none⟩])
                       (.cond (.t 43)
                         (.seq (.reg [⟨(some 50), .mv (.t 0), none⟩,
                            ⟨(some 51), .bin .sub (.t 50) (.c (.d (.int .i64 18))), none⟩,
                            ⟨(some 52), .conv .u32 (.t 51), none⟩,
                            ⟨(some 53), .build [(.d (.int .u8 0)), (.d (.int .u32 0)), (.d (.int .u32 0)), (.d (.int .u32 0))] [(0, 1, (.c (.d (.int .u8 83)))), (1, 1, (.c (.d (.int .u32 35)))), (2, 1, (.t 52)), (3, 1, (.c (.d (.int .u32 0))))], none⟩,
                            ⟨none, .st 4 (.t 2) (.t 53), none⟩])
                          .ret)
                         (.seq (.reg [⟨(some 55), .mv (.t 0), none⟩,
                            ⟨(some 56), .bin .geq (.t 55) (.c (.d (.int .i64 22))), none⟩,
                            ⟨(some 57), .mv (.t 56), none⟩,
                            ⟨(some 58), .mv (.t 0), some (57, true)⟩,
                            ⟨(some 59), .bin .leq (.t 58) (.c (.d (.int .i64 27))), some (57, true)⟩,
                            ⟨(some 60), .pick (.t 57) (.t 59) (.c (.d (.bool false))), none⟩,
                            ⟨(some 54), .mv (.t 60), none⟩])
                          (.cond (.t 54)
                            (.seq (.reg [⟨(some 61), .bslice 1 6 [(.c (.d (.int .u32 0))), (.c (.d (.int .u32 2))), (.c (.d (.int .u32 3))), (.c (.d (.int .u32 4))), (.c (.d (.int .u32 6))), (.c (.d (.int .u32 7)))], none⟩,
                               ⟨(some 62), .mv (.t 0), none⟩,
                               ⟨(some 63), .bin .sub (.t 62) (.c (.d (.int .i64 22))), none⟩,
                               ⟨(some 64), .iadr 1 (.t 61) (.t 63), none⟩,
                               ⟨(some 65), .ld none (.t 64), none⟩,
                               ⟨(some 66), .build [(.d (.int .u8 0)), (.d (.int .u32 0)), (.d (.int .u32 0)), (.d (.int .u32 0))] [(0, 1, (.c (.d (.int .u8 73)))), (1, 1, (.c (.d (.int .u32 19)))), (2, 1, (.t 65)), (3, 1, (.c (.d (.int .u32 0))))], none⟩,
                               ⟨none, .st 4 (.t 2) (.t 66), none⟩])
                             .ret)
                            (.seq (.reg [⟨(some 68), .mv (.t 0), none⟩,
                               ⟨(some 69), .bin .geq (.t 68) (.c (.d (.int .i64 28))), none⟩,
                               ⟨(some 70), .mv (.t 69), none⟩,
                               ⟨(some 71), .mv (.t 0), some (70, true)⟩,
                               ⟨(some 72), .bin .leq (.t 71) (.c (.d (.int .i64 30))), some (70, true)⟩,
                               ⟨(some 73), .pick (.t 70) (.t 72) (.c (.d (.bool false))), none⟩,
                               ⟨(some 67), .mv (.t 73), none⟩])
                             (.cond (.t 67)
                               (.seq (.draw 10 [⟨(some 74), .bslice 1 3 [(.c (.d (.int .u32 1))), (.c (.d (.int .u32 5))), (.c (.d (.int .u32 5)))], none⟩,
                                  ⟨(some 75), .mv (.t 0), none⟩,
                                  ⟨(some 76), .bin .sub (.t 75) (.c (.d (.int .i64 28))), none⟩,
                                  ⟨(some 77), .iadr 1 (.t 74) (.t 76), none⟩,
                                  ⟨(some 78), .ld none (.t 77), none⟩,
                                  ⟨(some 79), .bslice 1 3 [(.c (.d (.int .u32 0))), (.c (.d (.int .u32 0))), (.c (.d (.int .u32 32)))], none⟩,
                                  ⟨(some 80), .mv (.t 0), none⟩,
                                  ⟨(some 81), .bin .sub (.t 80) (.c (.d (.int .i64 28))), none⟩,
                                  ⟨(some 82), .iadr 1 (.t 79) (.t 81), none⟩,
                                  ⟨(some 83), .ld none (.t 82), none⟩,
                                  ⟨(some 84), .build [(.d (.int .u8 0)), (.d (.int .u32 0)), (.d (.int .u32 0)), (.d (.int .u32 0))] [(0, 1, (.c (.d (.int .u8 72)))), (1, 1, (.c (.d (.int .u32 19)))), (2, 1, (.t 78)), (3, 1, (.t 83))], none⟩,
                                  ⟨none, .st 4 (.t 2) (.t 84), none⟩])
                                .ret)
                               (.seq (.reg [⟨(some 86), .mv (.t 0), none⟩,
                                  ⟨(some 87), .bin .eql (.t 86) (.c (.d (.int .i64 31))), none⟩,
                                  ⟨(some 85), .mv (.t 87), none⟩])
                                (.cond (.t 85)
                                  (.seq (.reg [⟨(some 88), .build [(.d (.int .u8 0)), (.d (.int .u32 0)), (.d (.int .u32 0)), (.d (.int .u32 0))] [(0, 1, (.c (.d (.int .u8 73)))), (1, 1, (.c (.d (.int .u32 27)))), (2, 1, (.c (.d (.int .u32 0)))), (3, 1, (.c (.d (.int .u32 0))))], none⟩,
                                     ⟨none, .st 4 (.t 2) (.t 88), none⟩])
                                   .ret)
                                  (.seq (.reg [⟨(some 90), .mv (.t 0), none⟩,
                                     ⟨(some 91), .bin .geq (.t 90) (.c (.d (.int .i64 32))), none⟩,
                                     ⟨(some 92), .mv (.t 91), none⟩,
                                     ⟨(some 93), .mv (.t 0), some (92, true)⟩,
                                     ⟨(some 94), .bin .leq (.t 93) (.c (.d (.int .i64 34))), some (92, true)⟩,
                                     ⟨(some 95), .pick (.t 92) (.t 94) (.c (.d (.bool false))), none⟩,
                                     ⟨(some 89), .mv (.t 95), none⟩])
                                   (.cond (.t 89)
                                     (.seq (.draw 10 [⟨(some 96), .bslice 1 3 [(.c (.d (.int .u32 1))), (.c (.d (.int .u32 5))), (.c (.d (.int .u32 5)))], none⟩,
                                        ⟨(some 97), .mv (.t 0), none⟩,
                                        ⟨(some 98), .bin .sub (.t 97) (.c (.d (.int .i64 32))), none⟩,
                                        ⟨(some 99), .iadr 1 (.t 96) (.t 98), none⟩,
                                        ⟨(some 100), .ld none (.t 99), none⟩,
                                        ⟨(some 101), .bslice 1 3 [(.c (.d (.int .u32 0))), (.c (.d (.int .u32 0))), (.c (.d (.int .u32 32)))], none⟩,
                                        ⟨(some 102), .mv (.t 0), none⟩,
                                        ⟨(some 103), .bin .sub (.t 102) (.c (.d (.int .i64 32))), none⟩,
                                        ⟨(some 104), .iadr 1 (.t 101) (.t 103), none⟩,
                                        ⟨(some 105), .ld none (.t 104), none⟩,
                                        ⟨(some 106), .build [(.d (.int .u8 0)), (.d (.int .u32 0)), (.d (.int .u32 0)), (.d (.int .u32 0))] [(0, 1, (.c (.d (.int .u8 104)))), (1, 1, (.c (.d (.int .u32 27)))), (2, 1, (.t 100)), (3, 1, (.t 105))], none⟩,
                                        ⟨none, .st 4 (.t 2) (.t 106), none⟩])
                                      .ret)
                                     (.seq (.reg [⟨(some 108), .mv (.t 0), none⟩,
                                        ⟨(some 109), .bin .geq (.t 108) (.c (.d (.int .i64 35))), none⟩,
                                        ⟨(some 110), .mv (.t 109), none⟩,
                                        ⟨(some 111), .mv (.t 0), some (110, true)⟩,
                                        ⟨(some 112), .bin .leq (.t 111) (.c (.d (.int .i64 44))), some (110, true)⟩,
                                        ⟨(some 113), .pick (.t 110) (.t 112) (.c (.d (.bool false))), none⟩,
                                        ⟨(some 107), .mv (.t 113), none⟩])
                                      (.cond (.t 107)
                                        (.seq (.draw 10 [⟨(some 114), .bslice 1 10 [(.c (.d (.int .u32 0))), (.c (.d (.int .u32 0))), (.c (.d (.int .u32 1))), (.c (.d (.int .u32 2))), (.c (.d (.int .u32 3))), (.c (.d (.int .u32 4))), (.c (.d (.int .u32 5))), (.c (.d (.int .u32 5))), (.c (.d (.int .u32 6))), (.c (.d (.int .u32 7)))], none⟩,
                                           ⟨(some 115), .mv (.t 0), none⟩,
                                           ⟨(some 116), .bin .sub (.t 115) (.c (.d (.int .i64 35))), none⟩,
                                           ⟨(some 117), .iadr 1 (.t 114) (.t 116), none⟩,
                                           ⟨(some 118), .ld none (.t 117), none⟩,
                                           ⟨(some 119), .bslice 1 10 [(.c (.d (.int .u32 0))), (.c (.d (.int .u32 32))), (.c (.d (.int .u32 0))), (.c (.d (.int .u32 0))), (.c (.d (.int .u32 0))), (.c (.d (.int .u32 0))), (.c (.d (.int .u32 0))), (.c (.d (.int .u32 32))), (.c (.d (.int .u32 0))), (.c (.d (.int .u32 0)))], none⟩,
                                           ⟨(some 120), .mv (.t 0), none⟩,
                                           ⟨(some 121), .bin .sub (.t 120) (.c (.d (.int .i64 35))), none⟩,
                                           ⟨(some 122), .iadr 1 (.t 119) (.t 121), none⟩,
                                           ⟨(some 123), .ld none (.t 122), none⟩,
                                           ⟨(some 124), .build [(.d (.int .u8 0)), (.d (.int .u32 0)), (.d (.int .u32 0)), (.d (.int .u32 0))] [(0, 1, (.c (.d (.int .u8 82)))), (1, 1, (.c (.d (.int .u32 51)))), (2, 1, (.t 118)), (3, 1, (.t 123))], none⟩,
                                           ⟨none, .st 4 (.t 2) (.t 124), none⟩])
                                         .ret)
                                        (.seq (.reg [⟨(some 126), .mv (.t 0), none⟩,
                                           ⟨(some 127), .bin .geq (.t 126) (.c (.d (.int .i64 45))), none⟩,
                                           ⟨(some 128), .mv (.t 127), none⟩,
                                           ⟨(some 129), .mv (.t 0), some (128, true)⟩,
                                           ⟨(some 130), .bin .leq (.t 129) (.c (.d (.int .i64 49))), some (128, true)⟩,
                                           ⟨(some 131), .pick (.t 128) (.t 130) (.c (.d (.bool false))), none⟩,
                                           ⟨(some 125), .mv (.t 131), none⟩])
                                         (.cond (.t 125)
                                           (.seq (.draw 10 [⟨(some 132), .bslice 1 5 [(.c (.d (.int .u32 0))), (.c (.d (.int .u32 0))), (.c (.d (.int .u32 1))), (.c (.d (.int .u32 5))), (.c (.d (.int .u32 5)))], none⟩,
                                              ⟨(some 133), .mv (.t 0), none⟩,
                                              ⟨(some 134), .bin .sub (.t 133) (.c (.d (.int .i64 45))), none⟩,
                                              ⟨(some 135), .iadr 1 (.t 132) (.t 134), none⟩,
                                              ⟨(some 136), .ld none (.t 135), none⟩,
                                              ⟨(some 137), .bslice 1 5 [(.c (.d (.int .u32 0))), (.c (.d (.int .u32 32))), (.c (.d (.int .u32 0))), (.c (.d (.int .u32 0))), (.c (.d (.int .u32 32)))], none⟩,
                                              ⟨(some 138), .mv (.t 0), none⟩,
                                              ⟨(some 139), .bin .sub (.t 138) (.c (.d (.int .i64 45))), none⟩,
                                              ⟨(some 140), .iadr 1 (.t 137) (.t 139), none⟩,
                                              ⟨(some 141), .ld none (.t 140), none⟩,
                                              ⟨(some 142), .build [(.d (.int .u8 0)), (.d (.int .u32 0)), (.d (.int .u32 0)), (.d (.int .u32 0))] [(0, 1, (.c (.d (.int .u8 82)))), (1, 1, (.c (.d (.int .u32 59)))), (2, 1, (.t 136)), (3, 1, (.t 141))], none⟩,
                                              ⟨none, .st 4 (.t 2) (.t 142), none⟩])
                                            .ret)
                                           (.seq (.reg [⟨(some 144), .mv (.t 0), none⟩,
                                              ⟨(some 145), .bin .geq (.t 144) (.c (.d (.int .i64 50))), none⟩,
                                              ⟨(some 146), .mv (.t 145), none⟩,
                                              ⟨(some 147), .mv (.t 0), some (146, true)⟩,
                                              ⟨(some 148), .bin .leq (.t 147) (.c (.d (.int .i64 57))), some (146, true)⟩,
                                              ⟨(some 149), .pick (.t 146) (.t 148) (.c (.d (.bool false))), none⟩,
                                              ⟨(some 143), .mv (.t 149), none⟩])
                                            (.cond (.t 143)
                                              (.seq (.reg [⟨(some 150), .mv (.t 0), none⟩,
                                                 ⟨(some 151), .bin .sub (.t 150) (.c (.d (.int .i64 50))), none⟩,
                                                 ⟨(some 152), .conv .u32 (.t 151), none⟩,
                                                 ⟨(some 153), .build [(.d (.int .u8 0)), (.d (.int .u32 0)), (.d (.int .u32 0)), (.d (.int .u32 0))] [(0, 1, (.c (.d (.int .u8 82)))), (1, 1, (.c (.d (.int .u32 51)))), (2, 1, (.t 152)), (3, 1, (.c (.d (.int .u32 1))))], none⟩,
                                                 ⟨none, .st 4 (.t 2) (.t 153), none⟩])
                                               .ret)
                                              (.seq (.reg [⟨(some 155), .mv (.t 0), none⟩,
                                                 ⟨(some 156), .bin .geq (.t 155) (.c (.d (.int .i64 58))), none⟩,
                                                 ⟨(some 157), .mv (.t 156), none⟩,
                                                 ⟨(some 158), .mv (.t 0), some (157, true)⟩,
                                                 ⟨(some 159), .bin .leq (.t 158) (.c (.d (.int .i64 62))), some (157, true)⟩,
                                                 ⟨(some 160), .pick (.t 157) (.t 159) (.c (.d (.bool false))), none⟩,
                                                 ⟨(some 154), .mv (.t 160), none⟩])
                                               (.cond (.t 154)
                                                 (.seq (.reg [⟨(some 161), .bslice 1 5 [(.c (.d (.int .u32 0))), (.c (.d (.int .u32 4))), (.c (.d (.int .u32 5))), (.c (.d (.int .u32 6))), (.c (.d (.int .u32 7)))], none⟩,
                                                    ⟨(some 162), .mv (.t 0), none⟩,
                                                    ⟨(some 163), .bin .sub (.t 162) (.c (.d (.int .i64 58))), none⟩,
                                                    ⟨(some 164), .iadr 1 (.t 161) (.t 163), none⟩,
                                                    ⟨(some 165), .ld none (.t 164), none⟩,
                                                    ⟨(some 166), .build [(.d (.int .u8 0)), (.d (.int .u32 0)), (.d (.int .u32 0)), (.d (.int .u32 0))] [(0, 1, (.c (.d (.int .u8 82)))), (1, 1, (.c (.d (.int .u32 59)))), (2, 1, (.t 165)), (3, 1, (.c (.d (.int .u32 1))))], none⟩,
                                                    ⟨none, .st 4 (.t 2) (.t 166), none⟩])
                                                  .ret)
                                                 (.seq (.reg [⟨(some 168), .mv (.t 0), none⟩,
                                                    ⟨(some 169), .bin .eql (.t 168) (.c (.d (.int .i64 63))), none⟩,
                                                    ⟨(some 167), .mv (.t 169), none⟩])
                                                  (.cond (.t 167)
                                                    (.seq (.reg [⟨(some 170), .build [(.d (.int .u8 0)), (.d (.int .u32 0)), (.d (.int .u32 0)), (.d (.int .u32 0))] [(0, 1, (.c (.d (.int .u8 78)))), (1, 1, (.c (.d (.int .u32 15)))), (2, 1, (.c (.d (.int .u32 0)))), (3, 1, (.c (.d (.int .u32 0))))], none⟩,
                                                       ⟨none, .st 4 (.t 2) (.t 170), none⟩])
                                                     .ret)
                                                    (.seq (.reg [⟨(some 172), .mv (.t 0), none⟩,
                                                       ⟨(some 173), .bin .eql (.t 172) (.c (.d (.int .i64 64))), none⟩,
                                                       ⟨(some 171), .mv (.t 173), none⟩])
                                                     (.cond (.t 171)
                                                       (.seq (.reg [⟨(some 174), .build [(.d (.int .u8 0)), (.d (.int .u32 0)), (.d (.int .u32 0)), (.d (.int .u32 0))] [(0, 1, (.c (.d (.int .u8 78)))), (1, 1, (.c (.d (.int .u32 115)))), (2, 1, (.c (.d (.int .u32 0)))), (3, 1, (.c (.d (.int .u32 0))))], none⟩,
                                                          ⟨none, .st 4 (.t 2) (.t 174), none⟩])
                                                        .ret)
                                                       (.seq (.reg [⟨(some 176), .mv (.t 0), none⟩,
                                                          ⟨(some 177), .bin .eql (.t 176) (.c (.d (.int .i64 65))), none⟩,
                                                          ⟨(some 175), .mv (.t 177), none⟩])
                                                        (.cond (.t 175)
                                                          (.seq (.reg [⟨(some 178), .build [(.d (.int .u8 0)), (.d (.int .u32 0)), (.d (.int .u32 0)), (.d (.int .u32 0))] [(0, 1, (.c (.d (.int .u8 78)))), (1, 1, (.c (.d (.int .u32 1048691)))), (2, 1, (.c (.d (.int .u32 0)))), (3, 1, (.c (.d (.int .u32 0))))], none⟩,
                                                             ⟨none, .st 4 (.t 2) (.t 178), none⟩])
                                                           .ret)
                                                          .skip)))))))))))))))))))))))))))))))))))))
   (.seq (.reg [⟨(some 179), .build [(.d (.int .u8 0)), (.d (.int .u32 0)), (.d (.int .u32 0)), (.d (.int .u32 0))] [], none⟩,
      ⟨none, .st 4 (.t 2) (.t 179), none⟩])
    .ret)))
def F34 : VFn := ⟨1, 180, B34, [.cell 2 (some 4)], false⟩

def A34 : Ann := ⟨keepOf [], ghostOf []⟩
-- 35 patina/patinaref01.Has
def B35 : VCode :=
 (.seq (.reg [⟨(some 2), .mv (.c (.d (.bool false))), none⟩,
    ⟨(some 3), .mv (.c (.d (.bool false))), none⟩,
    ⟨(some 4), .mv (.c (.d (.bool false))), none⟩])
  (.seq (.seq (.reg [⟨(some 5), .mv (.t 0), none⟩])
    (.block 0 (.seq (.seq (.reg [⟨(some 7), .bin .eql (.t 5) (.c (.d (.int .u8 85))), none⟩,
         ⟨(some 6), .mv (.t 7), none⟩])
       (.cond (.t 6)
         .skip
         (.reg [⟨(some 8), .bin .eql (.t 5) (.c (.d (.int .u8 74))), none⟩,
           ⟨(some 6), .mv (.t 8), none⟩])))
      (.cond (.t 6)
        (.seq (.reg [⟨(some 2), .mv (.c (.d (.bool true))), none⟩,
           ⟨(some 3), .mv (.c (.d (.bool false))), none⟩,
           ⟨(some 4), .mv (.c (.d (.bool false))), none⟩])
         .ret)
        (.seq (.seq (.reg [⟨(some 10), .bin .eql (.t 5) (.c (.d (.int .u8 73))), none⟩,
            ⟨(some 9), .mv (.t 10), none⟩])
          (.cond (.t 9)
            .skip
            (.seq (.reg [⟨(some 11), .bin .eql (.t 5) (.c (.d (.int .u8 72))), none⟩,
               ⟨(some 9), .mv (.t 11), none⟩])
             (.cond (.t 9)
               .skip
               (.reg [⟨(some 12), .bin .eql (.t 5) (.c (.d (.int .u8 104))), none⟩,
                 ⟨(some 9), .mv (.t 12), none⟩])))))
         (.cond (.t 9)
           (.seq (.reg [⟨(some 2), .mv (.c (.d (.bool true))), none⟩,
              ⟨(some 3), .mv (.c (.d (.bool true))), none⟩,
              ⟨(some 4), .mv (.c (.d (.bool false))), none⟩])
            .ret)
           (.seq (.reg [⟨(some 14), .bin .eql (.t 5) (.c (.d (.int .u8 82))), none⟩,
              ⟨(some 13), .mv (.t 14), none⟩])
            (.cond (.t 13)
              (.seq (.reg [⟨(some 2), .mv (.c (.d (.bool true))), none⟩,
                 ⟨(some 3), .mv (.c (.d (.bool true))), none⟩,
                 ⟨(some 4), .mv (.c (.d (.bool true))), none⟩])
               .ret)
              (.seq (.seq (.reg [⟨(some 16), .bin .eql (.t 5) (.c (.d (.int .u8 83))), none⟩,
                  ⟨(some 15), .mv (.t 16), none⟩])
                (.cond (.t 15)
                  .skip
                  (.reg [⟨(some 17), .bin .eql (.t 5) (.c (.d (.int .u8 66))), none⟩,
                    ⟨(some 15), .mv (.t 17), none⟩])))
               (.cond (.t 15)
                 (.seq (.reg [⟨(some 2), .mv (.c (.d (.bool false))), none⟩,
                    ⟨(some 3), .mv (.c (.d (.bool true))), none⟩,
                    ⟨(some 4), .mv (.c (.d (.bool true))), none⟩])
                  .ret)
                 .skip))))))))))
   (.seq (.reg [⟨(some 2), .mv (.c (.d (.bool false))), none⟩,
      ⟨(some 3), .mv (.c (.d (.bool false))), none⟩,
      ⟨(some 4), .mv (.c (.d (.bool false))), none⟩])
    .ret)))
def F35 : VFn := ⟨1, 18, B35, [.tmp 2, .tmp 3, .tmp 4], false⟩

def A35 : Ann := ⟨keepOf [], ghostOf []⟩
-- 36 patina/patinaref01.reg
def B36 : VCode :=
 (.seq (.reg [⟨(some 4), .mv (.c (.d (.bool false))), none⟩])
  (.seq (.seq (.reg [⟨(some 5), .mv (.t 1), none⟩])
    (.cond (.t 5)
      (.seq (.reg [⟨(some 6), .mv (.t 0), none⟩,
         ⟨(some 7), .bin .geq (.t 6) (.c (.d (.int .i64 0))), none⟩,
         ⟨(some 8), .mv (.t 7), none⟩,
         ⟨(some 9), .mv (.t 0), some (8, true)⟩,
         ⟨(some 10), .bin .leq (.t 9) (.c (.d (.int .i64 31))), some (8, true)⟩,
         ⟨(some 11), .pick (.t 8) (.t 10) (.c (.d (.bool false))), none⟩,
         ⟨(some 4), .mv (.t 11), none⟩])
       .ret)
      .skip))
   (.seq (.reg [⟨(some 12), .mv (.t 0), none⟩,
      ⟨(some 13), .bin .eql (.t 12) (.c (.d (.int .i64 0))), none⟩,
      ⟨(some 4), .mv (.t 13), none⟩])
    .ret)))
def F36 : VFn := ⟨2, 14, B36, [.tmp 4], false⟩

def A36 : Ann := ⟨keepOf [], ghostOf []⟩
-- 37 patina/patinaref01.imm
def B37 : VCode :=
 (.seq (.reg [⟨(some 4), .mv (.c (.d (.bool false))), none⟩])
  (.seq (.seq (.reg [⟨(some 5), .mv (.t 0), none⟩])
    (.block 0 (.seq (.seq (.reg [⟨(some 7), .bin .eql (.t 5) (.c (.d (.int .u8 73))), none⟩,
         ⟨(some 6), .mv (.t 7), none⟩])
       (.cond (.t 6)
         .skip
         (.reg [⟨(some 8), .bin .eql (.t 5) (.c (.d (.int .u8 83))), none⟩,
           ⟨(some 6), .mv (.t 8), none⟩])))
      (.cond (.t 6)
        (.seq (.reg [⟨(some 9), .mv (.t 1), none⟩,
           ⟨(some 10), .bin .geq (.t 9) (.c (.d (.int .i64 (-2048)))), none⟩,
           ⟨(some 11), .mv (.t 10), none⟩,
           ⟨(some 12), .mv (.t 1), some (11, true)⟩,
           ⟨(some 13), .bin .leq (.t 12) (.c (.d (.int .i64 2047))), some (11, true)⟩,
           ⟨(some 14), .pick (.t 11) (.t 13) (.c (.d (.bool false))), none⟩,
           ⟨(some 4), .mv (.t 14), none⟩])
         .ret)
        (.seq (.reg [⟨(some 16), .bin .eql (.t 5) (.c (.d (.int .u8 66))), none⟩,
           ⟨(some 15), .mv (.t 16), none⟩])
         (.cond (.t 15)
           (.seq (.reg [⟨(some 17), .mv (.t 1), none⟩,
              ⟨(some 18), .bin .geq (.t 17) (.c (.d (.int .i64 (-4096)))), none⟩,
              ⟨(some 19), .mv (.t 18), none⟩,
              ⟨(some 20), .mv (.t 1), some (19, true)⟩,
              ⟨(some 21), .bin .leq (.t 20) (.c (.d (.int .i64 4094))), some (19, true)⟩,
              ⟨(some 22), .pick (.t 19) (.t 21) (.c (.d (.bool false))), none⟩,
              ⟨(some 23), .mv (.t 22), none⟩,
              ⟨(some 24), .mv (.t 1), some (23, true)⟩,
              ⟨(some 25), .bin .rem (.t 24) (.c (.d (.int .i64 2))), some (23, true)⟩,
              ⟨(some 26), .bin .eql (.t 25) (.c (.d (.int .i64 0))), some (23, true)⟩,
              ⟨(some 27), .pick (.t 23) (.t 26) (.c (.d (.bool false))), none⟩,
              ⟨(some 4), .mv (.t 27), none⟩])
            .ret)
           (.seq (.reg [⟨(some 29), .bin .eql (.t 5) (.c (.d (.int .u8 74))), none⟩,
              ⟨(some 28), .mv (.t 29), none⟩])
            (.cond (.t 28)
              (.seq (.reg [⟨(some 30), .mv (.t 1), none⟩,
                 ⟨(some 31), .bin .geq (.t 30) (.c (.d (.int .i64 (-1048576)))), none⟩,
                 ⟨(some 32), .mv (.t 31), none⟩,
                 ⟨(some 33), .mv (.t 1), some (32, true)⟩,
                 ⟨(some 34), .bin .leq (.t 33) (.c (.d (.int .i64 1048574))), some (32, true)⟩,
                 ⟨(some 35), .pick (.t 32) (.t 34) (.c (.d (.bool false))), none⟩,
                 ⟨(some 36), .mv (.t 35), none⟩,
                 ⟨(some 37), .mv (.t 1), some (36, true)⟩,
                 ⟨(some 38), .bin .rem (.t 37) (.c (.d (.int .i64 2))), some (36, true)⟩,
                 ⟨(some 39), .bin .eql (.t 38) (.c (.d (.int .i64 0))), some (36, true)⟩,
                 ⟨(some 40), .pick (.t 36) (.t 39) (.c (.d (.bool false))), none⟩,
                 ⟨(some 4), .mv (.t 40), none⟩])
               .ret)
              (.seq (.reg [⟨(some 42), .bin .eql (.t 5) (.c (.d (.int .u8 85))), none⟩,
                 ⟨(some 41), .mv (.t 42), none⟩])
               (.cond (.t 41)
                 (.seq (.reg [⟨(some 43), .mv (.t 1), none⟩,
                    ⟨(some 44), .bin .geq (.t 43) (.c (.d (.int .i64 (-524288)))), none⟩,
                    ⟨(some 45), .mv (.t 44), none⟩,
                    ⟨(some 46), .mv (.t 1), some (45, true)⟩,
                    ⟨(some 47), .bin .leq (.t 46) (.c (.d (.int .i64 524287))), some (45, true)⟩,
                    ⟨(some 48), .pick (.t 45) (.t 47) (.c (.d (.bool false))), none⟩,
                    ⟨(some 4), .mv (.t 48), none⟩])
                  .ret)
                 (.seq (.reg [⟨(some 50), .bin .eql (.t 5) (.c (.d (.int .u8 72))), none⟩,
                    ⟨(some 49), .mv (.t 50), none⟩])
                  (.cond (.t 49)
                    (.seq (.reg [⟨(some 51), .mv (.t 1), none⟩,
                       ⟨(some 52), .bin .geq (.t 51) (.c (.d (.int .i64 0))), none⟩,
                       ⟨(some 53), .mv (.t 52), none⟩,
                       ⟨(some 54), .mv (.t 1), some (53, true)⟩,
                       ⟨(some 55), .bin .leq (.t 54) (.c (.d (.int .i64 63))), some (53, true)⟩,
                       ⟨(some 56), .pick (.t 53) (.t 55) (.c (.d (.bool false))), none⟩,
                       ⟨(some 4), .mv (.t 56), none⟩])
                     .ret)
                    (.seq (.reg [⟨(some 58), .bin .eql (.t 5) (.c (.d (.int .u8 104))), none⟩,
                       ⟨(some 57), .mv (.t 58), none⟩])
                     (.cond (.t 57)
                       (.seq (.reg [⟨(some 59), .mv (.t 1), none⟩,
                          ⟨(some 60), .bin .geq (.t 59) (.c (.d (.int .i64 0))), none⟩,
                          ⟨(some 61), .mv (.t 60), none⟩,
                          ⟨(some 62), .mv (.t 1), some (61, true)⟩,
                          ⟨(some 63), .bin .leq (.t 62) (.c (.d (.int .i64 31))), some (61, true)⟩,
                          ⟨(some 64), .pick (.t 61) (.t 63) (.c (.d (.bool false))), none⟩,
                          ⟨(some 4), .mv (.t 64), none⟩])
                        .ret)
                       .skip))))))))))))))
   (.seq (.reg [⟨(some 65), .mv (.t 1), none⟩,
      ⟨(some 66), .bin .eql (.t 65) (.c (.d (.int .i64 0))), none⟩,
      ⟨(some 4), .mv (.t 66), none⟩])
    .ret)))
def F37 : VFn := ⟨2, 67, B37, [.tmp 4], false⟩

def A37 : Ann := ⟨keepOf [], ghostOf []⟩
-- 38 patina/rv.Text$1
def B38 : VCode :=
 (.seq (.reg [⟨(some 2), .mv (.c (.d (.str []))), none⟩])
  (.seq (.reg [⟨(some 3), .mv (.t 0), none⟩,
     ⟨(some 4), .call 39 [(.t 3)], none⟩,
     ⟨(some 5), .bin .add (.c (.d (.str [120]))) (.t 4), none⟩,
     ⟨(some 2), .mv (.t 5), none⟩])
   .ret))
def F38 : VFn := ⟨1, 6, B38, [.tmp 2], false⟩

def A38 : Ann := ⟨keepOf [], ghostOf []⟩
-- 42 patina/patinaref01.x
def B42 : VCode :=
 (.seq (.reg [⟨(some 2), .mv (.c (.d (.str []))), none⟩])
  (.seq (.reg [⟨(some 3), .mv (.t 0), none⟩,
     ⟨(some 4), .call 39 [(.t 3)], none⟩,
     ⟨(some 5), .bin .add (.c (.d (.str [120]))) (.t 4), none⟩,
     ⟨(some 2), .mv (.t 5), none⟩])
   .ret))
def F42 : VFn := ⟨1, 6, B42, [.tmp 2], false⟩

def A42 : Ann := ⟨keepOf [], ghostOf []⟩
-- 44 patina/patinaref01.bits
def B44 : VCode :=
 (.seq (.reg [⟨(some 6), .mv (.c (.d (.int .u32 0))), none⟩])
  (.seq (.reg [⟨(some 7), .mv (.t 0), none⟩,
     ⟨(some 8), .mv (.t 1), none⟩,
     ⟨(some 9), .bin .shr (.t 7) (.t 8), none⟩,
     ⟨(some 10), .conv .u32 (.t 9), none⟩,
     ⟨(some 11), .mv (.t 2), none⟩,
     ⟨(some 12), .bin .shl (.c (.d (.int .u32 1))) (.t 11), none⟩,
     ⟨(some 13), .bin .sub (.t 12) (.c (.d (.int .u32 1))), none⟩,
     ⟨(some 14), .bin .and (.t 10) (.t 13), none⟩,
     ⟨(some 6), .mv (.t 14), none⟩])
   .ret))
def F44 : VFn := ⟨3, 15, B44, [.tmp 6], false⟩

def A44 : Ann := ⟨keepOf [], ghostOf []⟩
-- 45 patina/rv.number$1
def B45 : VCode :=
 (.seq (.reg [⟨(some 5), .mv (.c (.d (.bool false))), none⟩])
  (.seq (.reg [⟨(some 6), .ld none (.t 2), none⟩,
     ⟨(some 7), .mv (.t 0), none⟩,
     ⟨(some 8), .bin .geq (.t 6) (.t 7), none⟩,
     ⟨(some 9), .mv (.t 8), none⟩,
     ⟨(some 10), .ld none (.t 2), some (9, true)⟩,
     ⟨(some 11), .mv (.t 1), some (9, true)⟩,
     ⟨(some 12), .bin .leq (.t 10) (.t 11), some (9, true)⟩,
     ⟨(some 13), .pick (.t 9) (.t 12) (.c (.d (.bool false))), none⟩,
     ⟨(some 5), .mv (.t 13), none⟩])
   .ret))
def F45 : VFn := ⟨3, 14, B45, [.tmp 5], false⟩

def A45 : Ann := ⟨keepOf [], ghostOf []⟩
-- 46 patina/rv.signed
def B46 : VCode :=
 (.seq (.reg [⟨(some 4), .mv (.c (.d (.int .i64 0))), none⟩])
  (.seq (.reg [⟨(some 5), .mv (.t 0), none⟩,
     ⟨(some 6), .mv (.t 1), none⟩,
     ⟨(some 7), .bin .sub (.c (.d (.int .u64 32))) (.t 6), none⟩,
     ⟨(some 8), .bin .shl (.t 5) (.t 7), none⟩,
     ⟨(some 9), .conv .i32 (.t 8), none⟩,
     ⟨(some 10), .mv (.t 1), none⟩,
     ⟨(some 11), .bin .sub (.c (.d (.int .u64 32))) (.t 10), none⟩,
     ⟨(some 12), .bin .shr (.t 9) (.t 11), none⟩,
     ⟨(some 13), .conv .i64 (.t 12), none⟩,
     ⟨(some 4), .mv (.t 13), none⟩])
   .ret))
def F46 : VFn := ⟨2, 14, B46, [.tmp 4], false⟩

def A46 : Ann := ⟨keepOf [], ghostOf []⟩
-- 47 patina/patinaref01.part
def B47 : VCode :=
 (.seq (.reg [⟨(some 6), .mv (.c (.d (.int .u32 0))), none⟩])
  (.seq (.reg [⟨(some 7), .mv (.t 0), none⟩,
     ⟨(some 8), .mv (.t 1), none⟩,
     ⟨(some 9), .bin .shr (.t 7) (.t 8), none⟩,
     ⟨(some 10), .mv (.t 2), none⟩,
     ⟨(some 11), .bin .shl (.c (.d (.int .u32 1))) (.t 10), none⟩,
     ⟨(some 12), .bin .sub (.t 11) (.c (.d (.int .u32 1))), none⟩,
     ⟨(some 13), .bin .and (.t 9) (.t 12), none⟩,
     ⟨(some 6), .mv (.t 13), none⟩])
   .ret))
def F47 : VFn := ⟨3, 14, B47, [.tmp 6], false⟩

def A47 : Ann := ⟨keepOf [], ghostOf []⟩
-- 48 patina/patinaref01.signed
def B48 : VCode :=
 (.seq (.reg [⟨(some 4), .mv (.c (.d (.int .i64 0))), none⟩])
  (.seq (.seq (.reg [⟨(some 5), .mv (.t 0), none⟩,
      ⟨(some 6), .mv (.t 1), none⟩,
      ⟨(some 7), .bin .sub (.t 6) (.c (.d (.int .u32 1))), none⟩,
      ⟨(some 8), .bin .shr (.t 5) (.t 7), none⟩,
      ⟨(some 9), .bin .and (.t 8) (.c (.d (.int .u32 1))), none⟩,
      ⟨(some 10), .bin .eql (.t 9) (.c (.d (.int .u32 1))), none⟩])
    (.cond (.t 10)
      (.seq (.reg [⟨(some 11), .mv (.t 0), none⟩,
         ⟨(some 12), .conv .i64 (.t 11), none⟩,
         ⟨(some 13), .mv (.t 1), none⟩,
         ⟨(some 14), .bin .shl (.c (.d (.int .i64 1))) (.t 13), none⟩,
         ⟨(some 15), .bin .sub (.t 12) (.t 14), none⟩,
         ⟨(some 4), .mv (.t 15), none⟩])
       .ret)
      .skip))
   (.seq (.reg [⟨(some 16), .mv (.t 0), none⟩,
      ⟨(some 17), .conv .i64 (.t 16), none⟩,
      ⟨(some 4), .mv (.t 17), none⟩])
    .ret)))
def F48 : VFn := ⟨2, 18, B48, [.tmp 4], false⟩

def A48 : Ann := ⟨keepOf [], ghostOf []⟩
def tbl : Nat → Option VFun
  | 3 => some (.code F3)
  | 4 => some (.code F4)
  | 5 => some (.code F5)
  | 6 => some (.code F6)
  | 7 => some (.code F7)
  | 8 => some (.code F8)
  | 9 => some (.code F9)
  | 10 => some (.code F10)
  | 11 => some (.code F11)
  | 12 => some (.code F12)
  | 13 => some (.code F13)
  | 14 => some (.code F14)
  | 15 => some (.code F15)
  | 16 => some (.code F16)
  | 17 => some (.code F17)
  | 18 => some (.code F18)
  | 19 => some (.code F19)
  | 20 => some (.code F20)
  | 21 => some (.code F21)
  | 22 => some (.code F22)
  | 23 => some (.code F23)
  | 24 => some (.code F24)
  | 25 => some (.code F25)
  | 26 => some (.code F26)
  | 27 => some (.code F27)
  | 28 => some (.code F28)
  | 29 => some (.code F29)
  | 30 => some (.code F30)
  | 31 => some (.code F31)
  | 32 => some (.code F32)
  | 33 => some (.code F33)
  | 34 => some (.code F34)
  | 35 => some (.code F35)
  | 36 => some (.code F36)
  | 37 => some (.code F37)
  | 38 => some (.code F38)
  | 42 => some (.code F42)
  | 44 => some (.code F44)
  | 45 => some (.code F45)
  | 46 => some (.code F46)
  | 47 => some (.code F47)
  | 48 => some (.code F48)
  | 39 => some (.prim primItoa)
  | 40 => some (.prim primFmt)
  | 41 => some (.prim primJoin)
  | 43 => some (.prim primFields)
  | _ => none
theorem tbl3 : tbl 3 = some (.code F3) := rfl
theorem tbl4 : tbl 4 = some (.code F4) := rfl
theorem tbl5 : tbl 5 = some (.code F5) := rfl
theorem tbl6 : tbl 6 = some (.code F6) := rfl
theorem tbl7 : tbl 7 = some (.code F7) := rfl
theorem tbl8 : tbl 8 = some (.code F8) := rfl
theorem tbl9 : tbl 9 = some (.code F9) := rfl
theorem tbl10 : tbl 10 = some (.code F10) := rfl
theorem tbl11 : tbl 11 = some (.code F11) := rfl
theorem tbl12 : tbl 12 = some (.code F12) := rfl
theorem tbl13 : tbl 13 = some (.code F13) := rfl
theorem tbl14 : tbl 14 = some (.code F14) := rfl
theorem tbl15 : tbl 15 = some (.code F15) := rfl
theorem tbl16 : tbl 16 = some (.code F16) := rfl
theorem tbl17 : tbl 17 = some (.code F17) := rfl
theorem tbl18 : tbl 18 = some (.code F18) := rfl
theorem tbl19 : tbl 19 = some (.code F19) := rfl
theorem tbl20 : tbl 20 = some (.code F20) := rfl
theorem tbl21 : tbl 21 = some (.code F21) := rfl
theorem tbl22 : tbl 22 = some (.code F22) := rfl
theorem tbl23 : tbl 23 = some (.code F23) := rfl
theorem tbl24 : tbl 24 = some (.code F24) := rfl
theorem tbl25 : tbl 25 = some (.code F25) := rfl
theorem tbl26 : tbl 26 = some (.code F26) := rfl
theorem tbl27 : tbl 27 = some (.code F27) := rfl
theorem tbl28 : tbl 28 = some (.code F28) := rfl
theorem tbl29 : tbl 29 = some (.code F29) := rfl
theorem tbl30 : tbl 30 = some (.code F30) := rfl
theorem tbl31 : tbl 31 = some (.code F31) := rfl
theorem tbl32 : tbl 32 = some (.code F32) := rfl
theorem tbl33 : tbl 33 = some (.code F33) := rfl
theorem tbl34 : tbl 34 = some (.code F34) := rfl
theorem tbl35 : tbl 35 = some (.code F35) := rfl
theorem tbl36 : tbl 36 = some (.code F36) := rfl
theorem tbl37 : tbl 37 = some (.code F37) := rfl
theorem tbl38 : tbl 38 = some (.code F38) := rfl
theorem tbl42 : tbl 42 = some (.code F42) := rfl
theorem tbl44 : tbl 44 = some (.code F44) := rfl
theorem tbl45 : tbl 45 = some (.code F45) := rfl
theorem tbl46 : tbl 46 = some (.code F46) := rfl
theorem tbl47 : tbl 47 = some (.code F47) := rfl
theorem tbl48 : tbl 48 = some (.code F48) := rfl
end Go.Vm.Rv
