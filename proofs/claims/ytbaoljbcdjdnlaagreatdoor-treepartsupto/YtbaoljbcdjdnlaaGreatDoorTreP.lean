import Derived.Test.YtbaoljbcdjdnlaaGreatDoorLexP5
import Derived.Test.YtbaoljbcdjdnlaaGreatDoorVmFix
import Derived.Lib.IndexMore
set_option linter.unusedSimpArgs false
set_option linter.unusedVariables false
namespace Go.Vm.Tp
open Go.Vm.Lex
structure Nd where
  k : Int
  t : List UInt8
  v : Int
  kids : List Int
  f : Int
  e : Int
def Nd.D (x : Nd) : D := .agg [.int .i64 x.k, .str x.t, .int .i64 x.v, .sl (x.kids.map (D.int .i64)), .int .i64 x.f, .int .i64 x.e]
def treeD (t : List Nd) : D := .agg [.sl (t.map Nd.D)]
instance : Inhabited Nd := ⟨⟨0, [], 0, [], 0, 0⟩⟩
def I64 (n : Int) : Prop := -9223372036854775808 ≤ n ∧ n ≤ 9223372036854775807
structure Fine (t : List Nd) : Prop where
  len : t.length ≤ 1048576
  txt : ∀ x ∈ t, x.t.length ≤ 1048576
  kid : ∀ x ∈ t, x.kids.length ≤ 1048576
  ik : ∀ x ∈ t, ∀ k ∈ x.kids, I64 k
  iv : ∀ x ∈ t, I64 x.v
  ie : ∀ x ∈ t, I64 x.f ∧ I64 x.e
def isTy (k : Int) : Bool := decide (10 ≤ k) && decide (k ≤ 16)
def isSt (k : Int) : Bool := decide (21 ≤ k) && decide (k ≤ 27)
def isEx (k : Int) : Bool := decide (k = 20) || (decide (30 ≤ k) && decide (k ≤ 46) && !decide (k = 36))
def isPa (k : Int) : Bool := decide (50 ≤ k) && decide (k ≤ 54)
def lett (c : UInt8) (k : Int) : Bool :=
  if c = 105 then decide (k = 2 ∨ k = 3 ∨ k = 4)
  else if c = 116 then isTy k
  else if c = 115 then isSt k
  else if c = 101 then isEx k
  else if c = 112 then isPa k
  else if c = 98 then decide (k = 20)
  else if c = 102 then decide (k = 5)
  else if c = 118 then decide (k = 6)
  else if c = 110 then decide (k = 36)
  else if c = 97 then decide (k = 47)
  else if c = 113 then decide (k = 7)
  else if c = 111 then decide (k = 20 ∨ k = 45)
  else false
def shapeP (k v : Int) : List UInt8 × Option UInt8 × List UInt8 :=
  if k = 1 then ([], some 105, [])
  else if k = 2 then ([], some 113, [116, 98])
  else if k = 3 then ([], some 102, [])
  else if k = 4 then ([], some 118, [])
  else if k = 5 ∨ k = 7 ∨ k = 14 ∨ k = 15 ∨ k = 16 then ([116], none, [])
  else if k = 6 then ([63, 116], none, [])
  else if k = 20 then (if v = 1 then ([], some 115, [101]) else ([], some 115, []))
  else if k = 21 then ([63, 116, 101], none, [])
  else if k = 23 ∨ k = 38 then ([101, 101], none, [])
  else if k = 24 then ([101, 98], none, [])
  else if k = 25 ∨ k = 37 then ([63, 101], none, [])
  else if k = 34 then ([], some 101, [])
  else if k = 35 then ([], some 110, [])
  else if k = 22 ∨ k = 36 ∨ k = 41 ∨ k = 39 ∨ k = 40 ∨ k = 42 ∨ k = 44 ∨ k = 43 then ([101], none, [])
  else if k = 45 then ([101, 98, 63, 111], none, [])
  else if k = 46 then ([101], some 97, [])
  else if k = 47 then ([112, 101], none, [])
  else if k = 54 then ([63, 112], none, [])
  else ([], none, [])
def shapeOf : List UInt8 × Option UInt8 × List UInt8 → List UInt8
  | (a, none, _) => a
  | (a, some c, b) => a ++ 42 :: c :: b
def shapeL (k v : Int) : List UInt8 := shapeOf (shapeP k v)
def kidsB : List UInt8 → List Int → Bool
  | [], l => decide (l = [])
  | [c], l => match l with | [] => false | a :: r => lett c a && decide (r = [])
  | c :: d :: s, l => if c = 63 then (match l with | [] => false | a :: r => lett d a && kidsB s r) || kidsB s l else match l with | [] => false | a :: r => lett c a && kidsB (d :: s) r
def fitsB (k v : Int) (ks : List Int) : Bool := match shapeP k v with
  | (a, none, _) => kidsB a ks
  | (a, some c, b) => decide (a.length + b.length ≤ ks.length) && (kidsB a (ks.take a.length) && ((ks.take (ks.length - b.length)).drop a.length).all (lett c) && kidsB b (ks.drop (ks.length - b.length)))
def knownB (k : Int) : Bool := (decide (1 ≤ k) && decide (k ≤ 7)) || isTy k || isSt k || isPa k || isEx k || decide (k = 36) || decide (k = 47)
def signsL : List (List UInt8) := [[124, 124], [38, 38], [61, 61], [33, 61], [60], [62], [60, 61], [62, 61], [43], [45], [42], [47], [37]]
def cutT (s : List UInt8) : List UInt8 × List UInt8 × Bool := Lib.cut s [58, 58]
def nmB (k : Int) (t : List UInt8) : Bool :=
  if k = 2 ∨ k = 3 ∨ k = 4 ∨ k = 5 ∨ k = 6 ∨ k = 7 ∨ k = 13 ∨ k = 21 ∨ k = 33 ∨ k = 34 ∨ k = 35 ∨ k = 36 ∨ k = 41 ∨ k = 51 then nameB t
  else if k = 37 ∨ k = 54 then (cutT t).2.2 && nameB (cutT t).1 && nameB (cutT t).2.1
  else if k = 38 then decide (t ∈ signsL)
  else decide (t = [])
def numB (k v p : Int) : Bool :=
  if k = 2 then decide (v = p)
  else if k = 7 ∨ k = 20 ∨ k = 21 ∨ k = 31 ∨ k = 53 ∨ k = 43 then decide (v = 0) || decide (v = 1)
  else if k = 30 then decide (0 ≤ v)
  else if k = 52 then decide (-9223372036854775808 < v)
  else decide (v = 0)
def kindAt (t : List Nd) (i : Int) : Int := (t.getD i.toNat default).k
def kinds (t : List Nd) (l : List Int) : List Int := l.map (kindAt t)
def params (ks : List Int) : Int := (ks.filter fun k => decide (k = 7)).length
def nodeB (t : List Nd) (i : Nat) : Bool :=
  let x := t.getD i default
  x.kids.all (fun k => decide (0 ≤ k) && decide (k < i)) && (knownB x.k && nmB x.k x.t && numB x.k x.v (params (kinds t x.kids)) && decide (0 ≤ x.f) && decide (x.f ≤ x.e) && fitsB x.k x.v (kinds t x.kids))
end Go.Vm.Tp
