import Derived.Test.YtkedogplneaaiaaGreatDoorPlW7
import Derived.Shelf.Small.Strs
import Derived.Shelf.Strconv.Itoa0
import Derived.Shelf.Strconv.Itoa1
import Derived.Shelf.LaysM
import Derived.Shelf.Strconv.Itoa2
import Derived.Shelf.Strconv.Itoa3
import Derived.Shelf.Strconv.Clone
import Derived.Shelf.Strconv.SyntaxError
import Derived.Shelf.LaysC
import Derived.Shelf.Strconv.ToError
import Derived.Shelf.Strconv.Lower
import Derived.Shelf.Strconv.ParseUint10
import Derived.Shelf.Strconv.ParseUint10Empty
import Derived.Shelf.Strconv.ParseUint10Any
import Derived.Shelf.Strconv.RangeError
import Derived.Shelf.Strconv.ToErrorRange
import Derived.Shelf.Strconv.ParseUintEmpty
import Derived.Shelf.Strconv.ParseUint10b64
import Derived.Shelf.Strconv.ParseUint10b32
import Derived.Shelf.Strconv.ParseUint10b16
import Derived.Shelf.Strconv.ParseUint10b8
import Derived.Shelf.Strconv.ParseUint10At
import Derived.Ground.MpProg
import Derived.Shelf.Pu.ParseUintPublic10
import Derived.Shelf.Pu.ErrVarParseUint
import Derived.Shelf.Strings.Search1
import Derived.Shelf.Strings.Prefix
import Derived.Shelf.Unicode.Decode
import Derived.Shelf.Unicode.DecodeSlow
import Derived.Shelf.Unicode.DecodeAny
import Derived.Test.YtkedogplneaaiaaGreatDoorProg
import Derived.Tactics
import Derived.Tactics2
import Derived.StillTactics
import Derived.Laws.AppendOwn
import Derived.Laws.Runes
import Derived.Laws.CopyRow
import Derived.Laws.Shifts
import Derived.Laws.Rows
import Derived.Laws.BitsLemmas
import Derived.Laws.Tables
import Derived.Laws.NewBlocks
import Derived.Laws.Unary
import Derived.Laws.Strings
import Derived.Laws.NewFold
import Derived.Laws.ShiftsVarLaws
import Derived.Laws.Bits
import Derived.Laws.Alloc2
import Derived.Laws.Bits128
import Derived.Laws.Strings2
import Derived.Laws.Wrap64
import Derived.Laws.ShiftsVar
import Derived.Laws.Closers25
import Derived.Laws.RangeString
import Derived.Laws.Concat
import Derived.Laws.Cells
import Derived.Laws.NewDeep
import Derived.Laws.Pointers
import Derived.Laws.StructEq
import Derived.Laws.Closers25b
import Derived.Laws.StandIn
import Derived.Laws.Bits64b
import Derived.Laws.LoneSync
import Derived.Laws.ByValue
import Derived.Laws.MathBits
import Derived.Laws.Externs
import Derived.Laws.BitsAll
import Derived.Laws.BitsAllLaws
import Derived.Laws.Bits64
import Derived.Laws.OwnMore
import Derived.Laws.Build
import Derived.Laws.ResultCell
import Derived.Laws.Entries
import Derived.Laws.Append
import Derived.Laws.RangeAny
import Derived.Laws.World
import Derived.Laws.Strings3
import Derived.Laws.Sem
import Derived.Laws.Slices
import Derived.Laws.MakeOwn
import Derived.Laws.Small
import Derived.Laws.BytesString
import Derived.Scope
import Derived.FnLit
import Derived.LoopTactic
import Derived.Deep.LoopGhost
import Derived.Test.YtkedogplneaaiaaGreatDoorVmWp
import Derived.Lib.OthersKept
import Derived.Lib.TrimU
import Derived.Below
import Derived.WalkKit
import Derived.LaidEql
import Derived.Stop.Asserts
import Derived.RowKitTokens
import Derived.Test.YtkedogplneaaiaaGreatDoorVmOps9
import Derived.Test.YtkedogplneaaiaaGreatDoorVmOps2
import Derived.Lib.IndexMore
set_option maxRecDepth 100000
set_option linter.unusedVariables false
set_option linter.unusedSimpArgs false
namespace Go.Vm.Lex
open Go.Vm.Ite
theorem a1q {b:Bool} {X Y:Prop} (h:b=true) (x:X):(b=true->X)/\(b=false->Y):=⟨fun _=>x,fun e=>by rw[h]at e;cases e⟩
theorem a1v {b:Bool} {X Y:Prop} (h:b=false) (y:Y):(b=true->X)/\(b=false->Y):=⟨fun e=>by(rw[h]at e;cases e),fun _=>y⟩
theorem b7z {b:Bool} {X Y:Prop} (h:b=true) (x:X):(b=false->Y)/\(b=(!false)->X):=⟨fun e=>by(rw[h]at e;cases e),fun _=>x⟩
theorem c4q {b:Bool} {X Y:Prop} (h:b=false) (y:Y):(b=false->Y)/\(b=(!false)->X):=⟨fun _=>y,fun e=>by(rw[h]at e;cases e)⟩
def Hid (p:Prop):Prop:=p
theorem e0x {s:List UInt8} {a i:Nat} (hm:s.length<=4611686018427387904) (h:a+i < s.length) {k:UInt8->Prop} (hk:k s[a+i]):∃ c,(0<=IntKind.i64.wrap ((a:Int)+(i:Int))/\s[(IntKind.i64.wrap ((a:Int)+(i:Int))).toNat]? =some c)/\k c:=by
 rw[a2x om]
 exact⟨_,⟨om,by rw[show((a:Int)+i).toNat=a+i by omega,List.getElem?_eq_getElem h]⟩,hk⟩
section
variable {fx:Nat->Option Obj} {F:Nat->Option a1j} [HL F] (H:Hp)
set_option maxHeartbeats 4000000 in
theorem d5d (s:List UInt8) (hs:s.length<=4611686018427387904) (a:Nat) (ha:a < s.length):evF (pgL fx F) d3g [str s,i64 a] H=some (i64 (szL (s.drop a)),H):=by
 have _u:=(inferInstance:HL F)
 have hd:s.drop a=s[a]::s.drop (a+1):=List.drop_eq_getElem_cons ha
 have hne:s.drop a≠[]:=by rw[hd];exact List.cons_ne_nil _ _
 have h0:hd0 (s.drop a)=s[a]:=by rw[hd];rfl
 have hlen:(s.drop a).length=s.length - a:=List.length_drop ..
 have h1:∀ h:a+1 < s.length,hd1 (s.drop a)=s[a+1]:=by
  intro h
  rw[hd,List.drop_eq_getElem_cons h];rfl
 have hlt:=s[a].toNat_lt
 clear h0 hne
 refine a3v (d4e (F:=F)) rfl rfl ?_ H
 refine a7v ha ?_
 generalize hc:s[a].toNat=c at*
 have hz:szL (s.drop a)=(if c < 128 then 1 else if szN s[a]=0 then 0 else if s.length - a < szN s[a]\/(hd1 (s.drop a)).toNat < c6s s[a]\/c7b s[a] < (hd1 (s.drop a)).toNat then 0 else if(((s.drop a).take (szN s[a])).drop 2).all a1u then szN s[a] else 0):=by
  unfold szL
  have hne:s.drop a≠[]:=by rw[hd];exact List.cons_ne_nil _ _
  have h0:hd0 (s.drop a)=s[a]:=by rw[hd];rfl
  rw[if_neg hne,h0,hc,hlen]
 by_cases c1:c < 128
 ·rw[if_pos c1]at hz
  refine And.intro (fun h=>?_) (fun h=>?_)
  ·show _=_
   rw[hz];rfl
  ·have:=of_decide_eq_false h;omega
 rw[if_neg c1]at hz
 have ew:IntKind.i64.wrap ((a:Int)+1)=(a:Int)+1:=a2x om
 clear hd
 have hsplit:c < 194\/244 < c\/(194<=c/\c<=223)\/c=224\/(225<=c/\c<=239/\c≠237)\/c=237\/c=240\/(241<=c/\c<=243)\/c=244:=by clear hz;omega
 replace hz:Hid (szL (s.drop a)=_):=hz
 rcases hsplit with hc2|hc2|hc2|hc2|hc2|hc2|hc2|hc2|hc2
 ·have hN:szN s[a]=0:=by unfold szN;rw[hc,if_neg om,if_neg om,if_neg om]
  repeat' (first
    |refine a1v (decide_eq_false om) ?_
    |refine a1q (decide_eq_true om) ?_
    |refine a1v rfl ?_
    |refine a1q rfl ?_)
  unfold Hid at hz
  rw[if_pos hN]at hz
  show _=_
  rw[hz];rfl
 ·have hN:szN s[a]=0:=by unfold szN;rw[hc,if_neg om,if_neg om,if_neg om]
  repeat' (first
    |refine a1v (decide_eq_false om) ?_
    |refine a1q (decide_eq_true om) ?_
    |refine a1v rfl ?_
    |refine a1q rfl ?_)
  unfold Hid at hz
  rw[if_pos hN]at hz
  show _=_
  rw[hz];rfl
 ·have hN:szN s[a]=2:=by unfold szN;rw[hc,if_pos om]
  have hLo:c6s s[a]=128:=by unfold c6s;rw[hc,if_neg om,if_neg om]
  have hHi:c7b s[a]=191:=by unfold c7b;rw[hc,if_neg om,if_neg om]
  have en:IntKind.i64.wrap ((a:Int)+2)=(a:Int)+2:=a2x om
  unfold Hid at hz
  rw[hN,if_neg (by clear hz;omega),hLo,hHi]at hz
  clear hN hLo hHi
  have hz2:(s.length - a < 2->szL (s.drop a)=0)/\(¬ s.length - a < 2->((hd1 (s.drop a)).toNat < 128\/191 < (hd1 (s.drop a)).toNat)->szL (s.drop a)=0)/\(¬ s.length - a < 2->¬ ((hd1 (s.drop a)).toNat < 128\/191 < (hd1 (s.drop a)).toNat)->szL (s.drop a)=if(((s.drop a).take 2).drop 2).all a1u then 2 else 0):=
   ⟨fun h=>by rw[hz,if_pos (.inl h)],fun h h'=>by rw[hz,if_pos (.inr h')],fun h h'=>by rw[hz,if_neg (by intro e;rcases e with e|e;exact h e;exact h' e)]⟩
  clear hz
  obtain⟨z1,z2,z3⟩:=hz2
  replace z1:Hid _:=z1
  replace z2:Hid _:=z2
  replace z3:Hid _:=z3
  repeat' (first
    |refine a1v (decide_eq_false om) ?_
    |refine a1q (decide_eq_true om) ?_
    |refine a1v rfl ?_
    |refine a1q rfl ?_)
  by_cases hL:s.length < a+2
  ·refine b7z (decide_eq_true om) ?_
   refine b7z rfl ?_
   refine a1q rfl ?_
   show _=_
   rw[show szL (s.drop a)=0 from z1 om];rfl
  have hlt1:a+1 < s.length:=om
  rw[h1 hlt1]at z2 z3
  refine c4q (decide_eq_false om) ?_
  refine d5y om hlt1 ?_
  generalize hb:s[a+1].toNat=b at z2 z3
  by_cases hb1:b < 128
  ·refine b7z (decide_eq_true om) ?_
   refine a1q rfl ?_
   show _=_
   rw[show szL (s.drop a)=0 from z2 om om];rfl
  refine c4q (decide_eq_false om) ?_
  refine d5y om hlt1 ?_
  by_cases hb2:191 < b
  ·refine a1q (decide_eq_true om) ?_
   show _=_
   rw[show szL (s.drop a)=0 from z2 om om];rfl
  refine a1v (decide_eq_false om) ?_
  have hz:szL (s.drop a)=if(((s.drop a).take 2).drop 2).all a1u then 2 else 0:=z3 om om
  clear z1 z2 z3
  clear h1
  refine wp_loop (α:=Nat) (fun i=>2 - i) (fun i=>[(0,str s),(1,i64 a),(6,i64 2),(9,i64 i)]) (fun _=>[]) (fun i=>2<=i/\i<=2/\(((s.drop a).take i).drop 2).all a1u=true) ?_ 2 ⟨om,om,by simp⟩
  rintro i ⟨hi1,hi2,hall⟩
  replace hz:Hid _:=hz
  refine And.intro (fun hl=>?_) (fun hl=>?_)
  ·replace hl:=of_decide_eq_true hl
   have hlt:a+i < s.length:=om
   have hget:(s.drop a)[i]? =some s[a+i]:=by rw[List.getElem?_drop,List.getElem?_eq_getElem hlt]
   have bad:a1u s[a+i]=false->szL (s.drop a)=0:=by
    intro hcb
    unfold Hid at hz
    rw[hz,if_neg]
    intro hall2
    have hmem:s[a+i]∈((s.drop a).take 2).drop 2:=List.mem_iff_getElem?.2 ⟨i - 2,by
      rw[List.getElem?_drop,show 2+(i - 2)=i by omega,List.getElem?_take,if_pos om];exact hget⟩
    have:=List.all_eq_true.1 hall2 _ hmem
    rw[hcb]at this;cases this
   have good:a1u s[a+i]=true->(((s.drop a).take (i+1)).drop 2).all a1u=true:=by
    intro hcb
    rw[List.take_add_one,hget,List.drop_append_of_le_length (by rw[List.length_take];omega),List.all_append,hall]
    simp[hcb]
   have hcb:a1u s[a+i]=decide (128<=s[a+i].toNat/\s[a+i].toNat<=191):=rfl
   refine e0x hs hlt ?_
   by_cases h128:s[a+i].toNat < 128
   ·refine b7z (decide_eq_true om) ?_
    refine a1q rfl ?_
    show _=_
    rw[bad (by rw[hcb];exact decide_eq_false om)];rfl
   refine c4q (decide_eq_false om) ?_
   refine e0x hs hlt ?_
   by_cases h191:191 < s[a+i].toNat
   ·refine a1q (decide_eq_true om) ?_
    show _=_
    rw[bad (by rw[hcb];exact decide_eq_false om)];rfl
   refine a1v (decide_eq_false om) ?_
   refine⟨i+1,⟨om,om,good (by rw[hcb];exact decide_eq_true om)⟩,om,?_,rfl⟩
   rw[a2x om];rfl
  ·replace hl:=of_decide_eq_false hl
   have hi:i=2:=om
   subst hi
   unfold Hid at hz
   show _=_
   rw[hz,if_pos hall];rfl
 ·have hN:szN s[a]=3:=by unfold szN;rw[hc,if_neg om,if_pos om]
  have hLo:c6s s[a]=160:=by unfold c6s;rw[hc,if_pos om]
  have hHi:c7b s[a]=191:=by unfold c7b;rw[hc,if_neg om,if_neg om]
  have en:IntKind.i64.wrap ((a:Int)+3)=(a:Int)+3:=a2x om
  unfold Hid at hz
  rw[hN,if_neg (by clear hz;omega),hLo,hHi]at hz
  clear hN hLo hHi
  have hz2:(s.length - a < 3->szL (s.drop a)=0)/\(¬ s.length - a < 3->((hd1 (s.drop a)).toNat < 160\/191 < (hd1 (s.drop a)).toNat)->szL (s.drop a)=0)/\(¬ s.length - a < 3->¬ ((hd1 (s.drop a)).toNat < 160\/191 < (hd1 (s.drop a)).toNat)->szL (s.drop a)=if(((s.drop a).take 3).drop 2).all a1u then 3 else 0):=
   ⟨fun h=>by rw[hz,if_pos (.inl h)],fun h h'=>by rw[hz,if_pos (.inr h')],fun h h'=>by rw[hz,if_neg (by intro e;rcases e with e|e;exact h e;exact h' e)]⟩
  clear hz
  obtain⟨z1,z2,z3⟩:=hz2
  replace z1:Hid _:=z1
  replace z2:Hid _:=z2
  replace z3:Hid _:=z3
  repeat' (first
    |refine a1v (decide_eq_false om) ?_
    |refine a1q (decide_eq_true om) ?_
    |refine a1v rfl ?_
    |refine a1q rfl ?_)
  by_cases hL:s.length < a+3
  ·refine b7z (decide_eq_true om) ?_
   refine b7z rfl ?_
   refine a1q rfl ?_
   show _=_
   rw[show szL (s.drop a)=0 from z1 om];rfl
  have hlt1:a+1 < s.length:=om
  rw[h1 hlt1]at z2 z3
  refine c4q (decide_eq_false om) ?_
  refine d5y om hlt1 ?_
  generalize hb:s[a+1].toNat=b at z2 z3
  by_cases hb1:b < 160
  ·refine b7z (decide_eq_true om) ?_
   refine a1q rfl ?_
   show _=_
   rw[show szL (s.drop a)=0 from z2 om om];rfl
  refine c4q (decide_eq_false om) ?_
  refine d5y om hlt1 ?_
  by_cases hb2:191 < b
  ·refine a1q (decide_eq_true om) ?_
   show _=_
   rw[show szL (s.drop a)=0 from z2 om om];rfl
  refine a1v (decide_eq_false om) ?_
  have hz:szL (s.drop a)=if(((s.drop a).take 3).drop 2).all a1u then 3 else 0:=z3 om om
  clear z1 z2 z3
  clear h1
  refine wp_loop (α:=Nat) (fun i=>3 - i) (fun i=>[(0,str s),(1,i64 a),(6,i64 3),(9,i64 i)]) (fun _=>[]) (fun i=>2<=i/\i<=3/\(((s.drop a).take i).drop 2).all a1u=true) ?_ 2 ⟨om,om,by simp⟩
  rintro i ⟨hi1,hi2,hall⟩
  replace hz:Hid _:=hz
  refine And.intro (fun hl=>?_) (fun hl=>?_)
  ·replace hl:=of_decide_eq_true hl
   have hlt:a+i < s.length:=om
   have hget:(s.drop a)[i]? =some s[a+i]:=by rw[List.getElem?_drop,List.getElem?_eq_getElem hlt]
   have bad:a1u s[a+i]=false->szL (s.drop a)=0:=by
    intro hcb
    unfold Hid at hz
    rw[hz,if_neg]
    intro hall2
    have hmem:s[a+i]∈((s.drop a).take 3).drop 2:=List.mem_iff_getElem?.2 ⟨i - 2,by
      rw[List.getElem?_drop,show 2+(i - 2)=i by omega,List.getElem?_take,if_pos om];exact hget⟩
    have:=List.all_eq_true.1 hall2 _ hmem
    rw[hcb]at this;cases this
   have good:a1u s[a+i]=true->(((s.drop a).take (i+1)).drop 2).all a1u=true:=by
    intro hcb
    rw[List.take_add_one,hget,List.drop_append_of_le_length (by rw[List.length_take];omega),List.all_append,hall]
    simp[hcb]
   have hcb:a1u s[a+i]=decide (128<=s[a+i].toNat/\s[a+i].toNat<=191):=rfl
   refine e0x hs hlt ?_
   by_cases h128:s[a+i].toNat < 128
   ·refine b7z (decide_eq_true om) ?_
    refine a1q rfl ?_
    show _=_
    rw[bad (by rw[hcb];exact decide_eq_false om)];rfl
   refine c4q (decide_eq_false om) ?_
   refine e0x hs hlt ?_
   by_cases h191:191 < s[a+i].toNat
   ·refine a1q (decide_eq_true om) ?_
    show _=_
    rw[bad (by rw[hcb];exact decide_eq_false om)];rfl
   refine a1v (decide_eq_false om) ?_
   refine⟨i+1,⟨om,om,good (by rw[hcb];exact decide_eq_true om)⟩,om,?_,rfl⟩
   rw[a2x om];rfl
  ·replace hl:=of_decide_eq_false hl
   have hi:i=3:=om
   subst hi
   unfold Hid at hz
   show _=_
   rw[hz,if_pos hall];rfl
 ·have hN:szN s[a]=3:=by unfold szN;rw[hc,if_neg om,if_pos om]
  have hLo:c6s s[a]=128:=by unfold c6s;rw[hc,if_neg om,if_neg om]
  have hHi:c7b s[a]=191:=by unfold c7b;rw[hc,if_neg om,if_neg om]
  have en:IntKind.i64.wrap ((a:Int)+3)=(a:Int)+3:=a2x om
  unfold Hid at hz
  rw[hN,if_neg (by clear hz;omega),hLo,hHi]at hz
  clear hN hLo hHi
  have hz2:(s.length - a < 3->szL (s.drop a)=0)/\(¬ s.length - a < 3->((hd1 (s.drop a)).toNat < 128\/191 < (hd1 (s.drop a)).toNat)->szL (s.drop a)=0)/\(¬ s.length - a < 3->¬ ((hd1 (s.drop a)).toNat < 128\/191 < (hd1 (s.drop a)).toNat)->szL (s.drop a)=if(((s.drop a).take 3).drop 2).all a1u then 3 else 0):=
   ⟨fun h=>by rw[hz,if_pos (.inl h)],fun h h'=>by rw[hz,if_pos (.inr h')],fun h h'=>by rw[hz,if_neg (by intro e;rcases e with e|e;exact h e;exact h' e)]⟩
  clear hz
  obtain⟨z1,z2,z3⟩:=hz2
  replace z1:Hid _:=z1
  replace z2:Hid _:=z2
  replace z3:Hid _:=z3
  repeat' (first
    |refine a1v (decide_eq_false om) ?_
    |refine a1q (decide_eq_true om) ?_
    |refine a1v rfl ?_
    |refine a1q rfl ?_)
  by_cases hL:s.length < a+3
  ·refine b7z (decide_eq_true om) ?_
   refine b7z rfl ?_
   refine a1q rfl ?_
   show _=_
   rw[show szL (s.drop a)=0 from z1 om];rfl
  have hlt1:a+1 < s.length:=om
  rw[h1 hlt1]at z2 z3
  refine c4q (decide_eq_false om) ?_
  refine d5y om hlt1 ?_
  generalize hb:s[a+1].toNat=b at z2 z3
  by_cases hb1:b < 128
  ·refine b7z (decide_eq_true om) ?_
   refine a1q rfl ?_
   show _=_
   rw[show szL (s.drop a)=0 from z2 om om];rfl
  refine c4q (decide_eq_false om) ?_
  refine d5y om hlt1 ?_
  by_cases hb2:191 < b
  ·refine a1q (decide_eq_true om) ?_
   show _=_
   rw[show szL (s.drop a)=0 from z2 om om];rfl
  refine a1v (decide_eq_false om) ?_
  have hz:szL (s.drop a)=if(((s.drop a).take 3).drop 2).all a1u then 3 else 0:=z3 om om
  clear z1 z2 z3
  clear h1
  refine wp_loop (α:=Nat) (fun i=>3 - i) (fun i=>[(0,str s),(1,i64 a),(6,i64 3),(9,i64 i)]) (fun _=>[]) (fun i=>2<=i/\i<=3/\(((s.drop a).take i).drop 2).all a1u=true) ?_ 2 ⟨om,om,by simp⟩
  rintro i ⟨hi1,hi2,hall⟩
  replace hz:Hid _:=hz
  refine And.intro (fun hl=>?_) (fun hl=>?_)
  ·replace hl:=of_decide_eq_true hl
   have hlt:a+i < s.length:=om
   have hget:(s.drop a)[i]? =some s[a+i]:=by rw[List.getElem?_drop,List.getElem?_eq_getElem hlt]
   have bad:a1u s[a+i]=false->szL (s.drop a)=0:=by
    intro hcb
    unfold Hid at hz
    rw[hz,if_neg]
    intro hall2
    have hmem:s[a+i]∈((s.drop a).take 3).drop 2:=List.mem_iff_getElem?.2 ⟨i - 2,by
      rw[List.getElem?_drop,show 2+(i - 2)=i by omega,List.getElem?_take,if_pos om];exact hget⟩
    have:=List.all_eq_true.1 hall2 _ hmem
    rw[hcb]at this;cases this
   have good:a1u s[a+i]=true->(((s.drop a).take (i+1)).drop 2).all a1u=true:=by
    intro hcb
    rw[List.take_add_one,hget,List.drop_append_of_le_length (by rw[List.length_take];omega),List.all_append,hall]
    simp[hcb]
   have hcb:a1u s[a+i]=decide (128<=s[a+i].toNat/\s[a+i].toNat<=191):=rfl
   refine e0x hs hlt ?_
   by_cases h128:s[a+i].toNat < 128
   ·refine b7z (decide_eq_true om) ?_
    refine a1q rfl ?_
    show _=_
    rw[bad (by rw[hcb];exact decide_eq_false om)];rfl
   refine c4q (decide_eq_false om) ?_
   refine e0x hs hlt ?_
   by_cases h191:191 < s[a+i].toNat
   ·refine a1q (decide_eq_true om) ?_
    show _=_
    rw[bad (by rw[hcb];exact decide_eq_false om)];rfl
   refine a1v (decide_eq_false om) ?_
   refine⟨i+1,⟨om,om,good (by rw[hcb];exact decide_eq_true om)⟩,om,?_,rfl⟩
   rw[a2x om];rfl
  ·replace hl:=of_decide_eq_false hl
   have hi:i=3:=om
   subst hi
   unfold Hid at hz
   show _=_
   rw[hz,if_pos hall];rfl
 ·have hN:szN s[a]=3:=by unfold szN;rw[hc,if_neg om,if_pos om]
  have hLo:c6s s[a]=128:=by unfold c6s;rw[hc,if_neg om,if_neg om]
  have hHi:c7b s[a]=159:=by unfold c7b;rw[hc,if_pos om]
  have en:IntKind.i64.wrap ((a:Int)+3)=(a:Int)+3:=a2x om
  unfold Hid at hz
  rw[hN,if_neg (by clear hz;omega),hLo,hHi]at hz
  clear hN hLo hHi
  have hz2:(s.length - a < 3->szL (s.drop a)=0)/\(¬ s.length - a < 3->((hd1 (s.drop a)).toNat < 128\/159 < (hd1 (s.drop a)).toNat)->szL (s.drop a)=0)/\(¬ s.length - a < 3->¬ ((hd1 (s.drop a)).toNat < 128\/159 < (hd1 (s.drop a)).toNat)->szL (s.drop a)=if(((s.drop a).take 3).drop 2).all a1u then 3 else 0):=
   ⟨fun h=>by rw[hz,if_pos (.inl h)],fun h h'=>by rw[hz,if_pos (.inr h')],fun h h'=>by rw[hz,if_neg (by intro e;rcases e with e|e;exact h e;exact h' e)]⟩
  clear hz
  obtain⟨z1,z2,z3⟩:=hz2
  replace z1:Hid _:=z1
  replace z2:Hid _:=z2
  replace z3:Hid _:=z3
  repeat' (first
    |refine a1v (decide_eq_false om) ?_
    |refine a1q (decide_eq_true om) ?_
    |refine a1v rfl ?_
    |refine a1q rfl ?_)
  by_cases hL:s.length < a+3
  ·refine b7z (decide_eq_true om) ?_
   refine b7z rfl ?_
   refine a1q rfl ?_
   show _=_
   rw[show szL (s.drop a)=0 from z1 om];rfl
  have hlt1:a+1 < s.length:=om
  rw[h1 hlt1]at z2 z3
  refine c4q (decide_eq_false om) ?_
  refine d5y om hlt1 ?_
  generalize hb:s[a+1].toNat=b at z2 z3
  by_cases hb1:b < 128
  ·refine b7z (decide_eq_true om) ?_
   refine a1q rfl ?_
   show _=_
   rw[show szL (s.drop a)=0 from z2 om om];rfl
  refine c4q (decide_eq_false om) ?_
  refine d5y om hlt1 ?_
  by_cases hb2:159 < b
  ·refine a1q (decide_eq_true om) ?_
   show _=_
   rw[show szL (s.drop a)=0 from z2 om om];rfl
  refine a1v (decide_eq_false om) ?_
  have hz:szL (s.drop a)=if(((s.drop a).take 3).drop 2).all a1u then 3 else 0:=z3 om om
  clear z1 z2 z3
  clear h1
  refine wp_loop (α:=Nat) (fun i=>3 - i) (fun i=>[(0,str s),(1,i64 a),(6,i64 3),(9,i64 i)]) (fun _=>[]) (fun i=>2<=i/\i<=3/\(((s.drop a).take i).drop 2).all a1u=true) ?_ 2 ⟨om,om,by simp⟩
  rintro i ⟨hi1,hi2,hall⟩
  replace hz:Hid _:=hz
  refine And.intro (fun hl=>?_) (fun hl=>?_)
  ·replace hl:=of_decide_eq_true hl
   have hlt:a+i < s.length:=om
   have hget:(s.drop a)[i]? =some s[a+i]:=by rw[List.getElem?_drop,List.getElem?_eq_getElem hlt]
   have bad:a1u s[a+i]=false->szL (s.drop a)=0:=by
    intro hcb
    unfold Hid at hz
    rw[hz,if_neg]
    intro hall2
    have hmem:s[a+i]∈((s.drop a).take 3).drop 2:=List.mem_iff_getElem?.2 ⟨i - 2,by
      rw[List.getElem?_drop,show 2+(i - 2)=i by omega,List.getElem?_take,if_pos om];exact hget⟩
    have:=List.all_eq_true.1 hall2 _ hmem
    rw[hcb]at this;cases this
   have good:a1u s[a+i]=true->(((s.drop a).take (i+1)).drop 2).all a1u=true:=by
    intro hcb
    rw[List.take_add_one,hget,List.drop_append_of_le_length (by rw[List.length_take];omega),List.all_append,hall]
    simp[hcb]
   have hcb:a1u s[a+i]=decide (128<=s[a+i].toNat/\s[a+i].toNat<=191):=rfl
   refine e0x hs hlt ?_
   by_cases h128:s[a+i].toNat < 128
   ·refine b7z (decide_eq_true om) ?_
    refine a1q rfl ?_
    show _=_
    rw[bad (by rw[hcb];exact decide_eq_false om)];rfl
   refine c4q (decide_eq_false om) ?_
   refine e0x hs hlt ?_
   by_cases h191:191 < s[a+i].toNat
   ·refine a1q (decide_eq_true om) ?_
    show _=_
    rw[bad (by rw[hcb];exact decide_eq_false om)];rfl
   refine a1v (decide_eq_false om) ?_
   refine⟨i+1,⟨om,om,good (by rw[hcb];exact decide_eq_true om)⟩,om,?_,rfl⟩
   rw[a2x om];rfl
  ·replace hl:=of_decide_eq_false hl
   have hi:i=3:=om
   subst hi
   unfold Hid at hz
   show _=_
   rw[hz,if_pos hall];rfl
 ·have hN:szN s[a]=4:=by unfold szN;rw[hc,if_neg om,if_neg om,if_pos om]
  have hLo:c6s s[a]=144:=by unfold c6s;rw[hc,if_neg om,if_pos om]
  have hHi:c7b s[a]=191:=by unfold c7b;rw[hc,if_neg om,if_neg om]
  have en:IntKind.i64.wrap ((a:Int)+4)=(a:Int)+4:=a2x om
  unfold Hid at hz
  rw[hN,if_neg (by clear hz;omega),hLo,hHi]at hz
  clear hN hLo hHi
  have hz2:(s.length - a < 4->szL (s.drop a)=0)/\(¬ s.length - a < 4->((hd1 (s.drop a)).toNat < 144\/191 < (hd1 (s.drop a)).toNat)->szL (s.drop a)=0)/\(¬ s.length - a < 4->¬ ((hd1 (s.drop a)).toNat < 144\/191 < (hd1 (s.drop a)).toNat)->szL (s.drop a)=if(((s.drop a).take 4).drop 2).all a1u then 4 else 0):=
   ⟨fun h=>by rw[hz,if_pos (.inl h)],fun h h'=>by rw[hz,if_pos (.inr h')],fun h h'=>by rw[hz,if_neg (by intro e;rcases e with e|e;exact h e;exact h' e)]⟩
  clear hz
  obtain⟨z1,z2,z3⟩:=hz2
  replace z1:Hid _:=z1
  replace z2:Hid _:=z2
  replace z3:Hid _:=z3
  repeat' (first
    |refine a1v (decide_eq_false om) ?_
    |refine a1q (decide_eq_true om) ?_
    |refine a1v rfl ?_
    |refine a1q rfl ?_)
  by_cases hL:s.length < a+4
  ·refine b7z (decide_eq_true om) ?_
   refine b7z rfl ?_
   refine a1q rfl ?_
   show _=_
   rw[show szL (s.drop a)=0 from z1 om];rfl
  have hlt1:a+1 < s.length:=om
  rw[h1 hlt1]at z2 z3
  refine c4q (decide_eq_false om) ?_
  refine d5y om hlt1 ?_
  generalize hb:s[a+1].toNat=b at z2 z3
  by_cases hb1:b < 144
  ·refine b7z (decide_eq_true om) ?_
   refine a1q rfl ?_
   show _=_
   rw[show szL (s.drop a)=0 from z2 om om];rfl
  refine c4q (decide_eq_false om) ?_
  refine d5y om hlt1 ?_
  by_cases hb2:191 < b
  ·refine a1q (decide_eq_true om) ?_
   show _=_
   rw[show szL (s.drop a)=0 from z2 om om];rfl
  refine a1v (decide_eq_false om) ?_
  have hz:szL (s.drop a)=if(((s.drop a).take 4).drop 2).all a1u then 4 else 0:=z3 om om
  clear z1 z2 z3
  clear h1
  refine wp_loop (α:=Nat) (fun i=>4 - i) (fun i=>[(0,str s),(1,i64 a),(6,i64 4),(9,i64 i)]) (fun _=>[]) (fun i=>2<=i/\i<=4/\(((s.drop a).take i).drop 2).all a1u=true) ?_ 2 ⟨om,om,by simp⟩
  rintro i ⟨hi1,hi2,hall⟩
  replace hz:Hid _:=hz
  refine And.intro (fun hl=>?_) (fun hl=>?_)
  ·replace hl:=of_decide_eq_true hl
   have hlt:a+i < s.length:=om
   have hget:(s.drop a)[i]? =some s[a+i]:=by rw[List.getElem?_drop,List.getElem?_eq_getElem hlt]
   have bad:a1u s[a+i]=false->szL (s.drop a)=0:=by
    intro hcb
    unfold Hid at hz
    rw[hz,if_neg]
    intro hall2
    have hmem:s[a+i]∈((s.drop a).take 4).drop 2:=List.mem_iff_getElem?.2 ⟨i - 2,by
      rw[List.getElem?_drop,show 2+(i - 2)=i by omega,List.getElem?_take,if_pos om];exact hget⟩
    have:=List.all_eq_true.1 hall2 _ hmem
    rw[hcb]at this;cases this
   have good:a1u s[a+i]=true->(((s.drop a).take (i+1)).drop 2).all a1u=true:=by
    intro hcb
    rw[List.take_add_one,hget,List.drop_append_of_le_length (by rw[List.length_take];omega),List.all_append,hall]
    simp[hcb]
   have hcb:a1u s[a+i]=decide (128<=s[a+i].toNat/\s[a+i].toNat<=191):=rfl
   refine e0x hs hlt ?_
   by_cases h128:s[a+i].toNat < 128
   ·refine b7z (decide_eq_true om) ?_
    refine a1q rfl ?_
    show _=_
    rw[bad (by rw[hcb];exact decide_eq_false om)];rfl
   refine c4q (decide_eq_false om) ?_
   refine e0x hs hlt ?_
   by_cases h191:191 < s[a+i].toNat
   ·refine a1q (decide_eq_true om) ?_
    show _=_
    rw[bad (by rw[hcb];exact decide_eq_false om)];rfl
   refine a1v (decide_eq_false om) ?_
   refine⟨i+1,⟨om,om,good (by rw[hcb];exact decide_eq_true om)⟩,om,?_,rfl⟩
   rw[a2x om];rfl
  ·replace hl:=of_decide_eq_false hl
   have hi:i=4:=om
   subst hi
   unfold Hid at hz
   show _=_
   rw[hz,if_pos hall];rfl
 ·have hN:szN s[a]=4:=by unfold szN;rw[hc,if_neg om,if_neg om,if_pos om]
  have hLo:c6s s[a]=128:=by unfold c6s;rw[hc,if_neg om,if_neg om]
  have hHi:c7b s[a]=191:=by unfold c7b;rw[hc,if_neg om,if_neg om]
  have en:IntKind.i64.wrap ((a:Int)+4)=(a:Int)+4:=a2x om
  unfold Hid at hz
  rw[hN,if_neg (by clear hz;omega),hLo,hHi]at hz
  clear hN hLo hHi
  have hz2:(s.length - a < 4->szL (s.drop a)=0)/\(¬ s.length - a < 4->((hd1 (s.drop a)).toNat < 128\/191 < (hd1 (s.drop a)).toNat)->szL (s.drop a)=0)/\(¬ s.length - a < 4->¬ ((hd1 (s.drop a)).toNat < 128\/191 < (hd1 (s.drop a)).toNat)->szL (s.drop a)=if(((s.drop a).take 4).drop 2).all a1u then 4 else 0):=
   ⟨fun h=>by rw[hz,if_pos (.inl h)],fun h h'=>by rw[hz,if_pos (.inr h')],fun h h'=>by rw[hz,if_neg (by intro e;rcases e with e|e;exact h e;exact h' e)]⟩
  clear hz
  obtain⟨z1,z2,z3⟩:=hz2
  replace z1:Hid _:=z1
  replace z2:Hid _:=z2
  replace z3:Hid _:=z3
  repeat' (first
    |refine a1v (decide_eq_false om) ?_
    |refine a1q (decide_eq_true om) ?_
    |refine a1v rfl ?_
    |refine a1q rfl ?_)
  by_cases hL:s.length < a+4
  ·refine b7z (decide_eq_true om) ?_
   refine b7z rfl ?_
   refine a1q rfl ?_
   show _=_
   rw[show szL (s.drop a)=0 from z1 om];rfl
  have hlt1:a+1 < s.length:=om
  rw[h1 hlt1]at z2 z3
  refine c4q (decide_eq_false om) ?_
  refine d5y om hlt1 ?_
  generalize hb:s[a+1].toNat=b at z2 z3
  by_cases hb1:b < 128
  ·refine b7z (decide_eq_true om) ?_
   refine a1q rfl ?_
   show _=_
   rw[show szL (s.drop a)=0 from z2 om om];rfl
  refine c4q (decide_eq_false om) ?_
  refine d5y om hlt1 ?_
  by_cases hb2:191 < b
  ·refine a1q (decide_eq_true om) ?_
   show _=_
   rw[show szL (s.drop a)=0 from z2 om om];rfl
  refine a1v (decide_eq_false om) ?_
  have hz:szL (s.drop a)=if(((s.drop a).take 4).drop 2).all a1u then 4 else 0:=z3 om om
  clear z1 z2 z3
  clear h1
  refine wp_loop (α:=Nat) (fun i=>4 - i) (fun i=>[(0,str s),(1,i64 a),(6,i64 4),(9,i64 i)]) (fun _=>[]) (fun i=>2<=i/\i<=4/\(((s.drop a).take i).drop 2).all a1u=true) ?_ 2 ⟨om,om,by simp⟩
  rintro i ⟨hi1,hi2,hall⟩
  replace hz:Hid _:=hz
  refine And.intro (fun hl=>?_) (fun hl=>?_)
  ·replace hl:=of_decide_eq_true hl
   have hlt:a+i < s.length:=om
   have hget:(s.drop a)[i]? =some s[a+i]:=by rw[List.getElem?_drop,List.getElem?_eq_getElem hlt]
   have bad:a1u s[a+i]=false->szL (s.drop a)=0:=by
    intro hcb
    unfold Hid at hz
    rw[hz,if_neg]
    intro hall2
    have hmem:s[a+i]∈((s.drop a).take 4).drop 2:=List.mem_iff_getElem?.2 ⟨i - 2,by
      rw[List.getElem?_drop,show 2+(i - 2)=i by omega,List.getElem?_take,if_pos om];exact hget⟩
    have:=List.all_eq_true.1 hall2 _ hmem
    rw[hcb]at this;cases this
   have good:a1u s[a+i]=true->(((s.drop a).take (i+1)).drop 2).all a1u=true:=by
    intro hcb
    rw[List.take_add_one,hget,List.drop_append_of_le_length (by rw[List.length_take];omega),List.all_append,hall]
    simp[hcb]
   have hcb:a1u s[a+i]=decide (128<=s[a+i].toNat/\s[a+i].toNat<=191):=rfl
   refine e0x hs hlt ?_
   by_cases h128:s[a+i].toNat < 128
   ·refine b7z (decide_eq_true om) ?_
    refine a1q rfl ?_
    show _=_
    rw[bad (by rw[hcb];exact decide_eq_false om)];rfl
   refine c4q (decide_eq_false om) ?_
   refine e0x hs hlt ?_
   by_cases h191:191 < s[a+i].toNat
   ·refine a1q (decide_eq_true om) ?_
    show _=_
    rw[bad (by rw[hcb];exact decide_eq_false om)];rfl
   refine a1v (decide_eq_false om) ?_
   refine⟨i+1,⟨om,om,good (by rw[hcb];exact decide_eq_true om)⟩,om,?_,rfl⟩
   rw[a2x om];rfl
  ·replace hl:=of_decide_eq_false hl
   have hi:i=4:=om
   subst hi
   unfold Hid at hz
   show _=_
   rw[hz,if_pos hall];rfl
 ·have hN:szN s[a]=4:=by unfold szN;rw[hc,if_neg om,if_neg om,if_pos om]
  have hLo:c6s s[a]=128:=by unfold c6s;rw[hc,if_neg om,if_neg om]
  have hHi:c7b s[a]=143:=by unfold c7b;rw[hc,if_neg om,if_pos om]
  have en:IntKind.i64.wrap ((a:Int)+4)=(a:Int)+4:=a2x om
  unfold Hid at hz
  rw[hN,if_neg (by clear hz;omega),hLo,hHi]at hz
  clear hN hLo hHi
  have hz2:(s.length - a < 4->szL (s.drop a)=0)/\(¬ s.length - a < 4->((hd1 (s.drop a)).toNat < 128\/143 < (hd1 (s.drop a)).toNat)->szL (s.drop a)=0)/\(¬ s.length - a < 4->¬ ((hd1 (s.drop a)).toNat < 128\/143 < (hd1 (s.drop a)).toNat)->szL (s.drop a)=if(((s.drop a).take 4).drop 2).all a1u then 4 else 0):=
   ⟨fun h=>by rw[hz,if_pos (.inl h)],fun h h'=>by rw[hz,if_pos (.inr h')],fun h h'=>by rw[hz,if_neg (by intro e;rcases e with e|e;exact h e;exact h' e)]⟩
  clear hz
  obtain⟨z1,z2,z3⟩:=hz2
  replace z1:Hid _:=z1
  replace z2:Hid _:=z2
  replace z3:Hid _:=z3
  repeat' (first
    |refine a1v (decide_eq_false om) ?_
    |refine a1q (decide_eq_true om) ?_
    |refine a1v rfl ?_
    |refine a1q rfl ?_)
  by_cases hL:s.length < a+4
  ·refine b7z (decide_eq_true om) ?_
   refine b7z rfl ?_
   refine a1q rfl ?_
   show _=_
   rw[show szL (s.drop a)=0 from z1 om];rfl
  have hlt1:a+1 < s.length:=om
  rw[h1 hlt1]at z2 z3
  refine c4q (decide_eq_false om) ?_
  refine d5y om hlt1 ?_
  generalize hb:s[a+1].toNat=b at z2 z3
  by_cases hb1:b < 128
  ·refine b7z (decide_eq_true om) ?_
   refine a1q rfl ?_
   show _=_
   rw[show szL (s.drop a)=0 from z2 om om];rfl
  refine c4q (decide_eq_false om) ?_
  refine d5y om hlt1 ?_
  by_cases hb2:143 < b
  ·refine a1q (decide_eq_true om) ?_
   show _=_
   rw[show szL (s.drop a)=0 from z2 om om];rfl
  refine a1v (decide_eq_false om) ?_
  have hz:szL (s.drop a)=if(((s.drop a).take 4).drop 2).all a1u then 4 else 0:=z3 om om
  clear z1 z2 z3
  clear h1
  refine wp_loop (α:=Nat) (fun i=>4 - i) (fun i=>[(0,str s),(1,i64 a),(6,i64 4),(9,i64 i)]) (fun _=>[]) (fun i=>2<=i/\i<=4/\(((s.drop a).take i).drop 2).all a1u=true) ?_ 2 ⟨om,om,by simp⟩
  rintro i ⟨hi1,hi2,hall⟩
  replace hz:Hid _:=hz
  refine And.intro (fun hl=>?_) (fun hl=>?_)
  ·replace hl:=of_decide_eq_true hl
   have hlt:a+i < s.length:=om
   have hget:(s.drop a)[i]? =some s[a+i]:=by rw[List.getElem?_drop,List.getElem?_eq_getElem hlt]
   have bad:a1u s[a+i]=false->szL (s.drop a)=0:=by
    intro hcb
    unfold Hid at hz
    rw[hz,if_neg]
    intro hall2
    have hmem:s[a+i]∈((s.drop a).take 4).drop 2:=List.mem_iff_getElem?.2 ⟨i - 2,by
      rw[List.getElem?_drop,show 2+(i - 2)=i by omega,List.getElem?_take,if_pos om];exact hget⟩
    have:=List.all_eq_true.1 hall2 _ hmem
    rw[hcb]at this;cases this
   have good:a1u s[a+i]=true->(((s.drop a).take (i+1)).drop 2).all a1u=true:=by
    intro hcb
    rw[List.take_add_one,hget,List.drop_append_of_le_length (by rw[List.length_take];omega),List.all_append,hall]
    simp[hcb]
   have hcb:a1u s[a+i]=decide (128<=s[a+i].toNat/\s[a+i].toNat<=191):=rfl
   refine e0x hs hlt ?_
   by_cases h128:s[a+i].toNat < 128
   ·refine b7z (decide_eq_true om) ?_
    refine a1q rfl ?_
    show _=_
    rw[bad (by rw[hcb];exact decide_eq_false om)];rfl
   refine c4q (decide_eq_false om) ?_
   refine e0x hs hlt ?_
   by_cases h191:191 < s[a+i].toNat
   ·refine a1q (decide_eq_true om) ?_
    show _=_
    rw[bad (by rw[hcb];exact decide_eq_false om)];rfl
   refine a1v (decide_eq_false om) ?_
   refine⟨i+1,⟨om,om,good (by rw[hcb];exact decide_eq_true om)⟩,om,?_,rfl⟩
   rw[a2x om];rfl
  ·replace hl:=of_decide_eq_false hl
   have hi:i=4:=om
   subst hi
   unfold Hid at hz
   show _=_
   rw[hz,if_pos hall];rfl
end
end Go.Vm.Lex
namespace Go.Vm.Lex
def Val (s:List UInt8):Prop:=strange 0 s= -1
theorem d6w:∀ (n:Nat) (s:List UInt8) (a b:Nat),s.length<=n->(strange a s= -1↔strange b s= -1):=by
 intro n
 induction n with
 |zero=>intro s a b h;have:s=[]:=List.length_eq_zero_iff.1 om;subst this;rw[a2w,a2w]
 |succ n ih=>
  intro s a b h
  by_cases h0:s=[]
  ·subst h0;rw[a2w,a2w]
  ·by_cases h1:szL s=0
   ·rw[a6i a h0 h1,a6i b h0 h1];omega
   ·rw[a5h a h0 h1,a5h b h0 h1]
    exact ih _ _ _ (by have:=a9s s (by simp[h0,h1]);omega)
theorem h3q (a:Nat) (s:List UInt8):strange a s= -1↔Val s:=d6w _ s a 0 (Nat.le_refl _)
theorem b5k:∀ (n:Nat) (s:List UInt8) (a:Nat),s.length<=n->strange a s= -1\/((a:Int)<=strange a s/\strange a s < a+s.length):=by
 intro n
 induction n with
 |zero=>intro s a h;have:s=[]:=List.length_eq_zero_iff.1 om;subst this;rw[a2w];exact .inl rfl
 |succ n ih=>
  intro s a h
  by_cases h0:s=[]
  ·subst h0;rw[a2w];exact .inl rfl
  ·have hp:0 < s.length:=List.length_pos_iff.2 h0
   by_cases h1:szL s=0
   ·rw[a6i a h0 h1];omega
   ·rw[a5h a h0 h1]
    have:=ih (s.drop (szL s)) (a+szL s) (by have:=a9s s (by simp[h0,h1]);omega)
    have hl:=b6h s
    rw[List.length_drop]at this
    omega
theorem c1n:Val []:=a2w 0
theorem b1x {s:List UInt8} (h:s≠[]):Val s↔szL s≠0/\Val (s.drop (szL s)):=by
 by_cases h1:szL s=0
 ·unfold Val;rw[a6i 0 h h1];simp[h1]
 ·unfold Val;rw[a5h 0 h h1];simp[h1];exact h3q _ _
theorem d1d {c:UInt8} (h:c.toNat < 128) (r:List UInt8):szL (c::r)=1:=by
 unfold szL;rw[if_neg (List.cons_ne_nil _ _)];simp[hd0,h]
theorem c3y {c:UInt8} (h:c.toNat < 128) (r:List UInt8):Val (c::r)↔Val r:=by
 rw[b1x (List.cons_ne_nil _ _),d1d h];simp
theorem d1p (s:List UInt8) (h:szL s≠0):(szL s=1/\s≠[]/\(hd0 s).toNat < 128)\/(128<=(hd0 s).toNat/\szL s=szN (hd0 s)/\2<=szL s/\szL s<=s.length/\c6s (hd0 s)<=(hd1 s).toNat/\(hd1 s).toNat<=c7b (hd0 s)/\((s.take (szL s)).drop 2).all a1u=true):=by
 have hN:=g9b (hd0 s)
 unfold szL at h⊢
 split
 ·rename_i h0;rw[if_pos h0]at h;exact absurd rfl h
 ·rename_i h0
  rw[if_neg h0]at h
  split
  ·rename_i h1;exact .inl ⟨rfl,h0,h1⟩
  ·rename_i h1
   rw[if_neg h1]at h
   split
   ·rename_i h2;rw[if_pos h2]at h;exact absurd rfl h
   ·rename_i h2
    rw[if_neg h2]at h
    split
    ·rename_i h3;rw[if_pos h3]at h;exact absurd rfl h
    ·rename_i h3
     rw[if_neg h3]at h
     split
     ·rename_i h4
      right
      refine⟨om,rfl,om,om,om,om,?_⟩
      exact h4
     ·rename_i h4;rw[if_neg h4]at h;exact absurd rfl h
theorem g9a (s:List UInt8) (h:128<=(hd0 s).toNat) (hN:2<=szN (hd0 s)) (hl:szN (hd0 s)<=s.length) (h1:c6s (hd0 s)<=(hd1 s).toNat) (h2:(hd1 s).toNat<=c7b (hd0 s)) (h3:((s.take (szN (hd0 s))).drop 2).all a1u=true):szL s=szN (hd0 s):=by
 unfold szL
 rw[if_neg (by rintro rfl;simp at hl;omega),if_neg om,if_neg om,if_neg om,if_pos h3]
theorem e1u {s t:List UInt8} {n:Nat} (hn:1<=n) (h:s.take n=t.take n):hd0 s=hd0 t:=by
 obtain⟨m,rfl⟩:∃ m,n=m+1:=⟨n - 1,om⟩
 cases s<;>cases t<;>simp at h<;>simp[hd0,h]
theorem f5r {s t:List UInt8} {n:Nat} (hn:2<=n) (h:s.take n=t.take n):hd1 s=hd1 t:=by
 obtain⟨m,rfl⟩:∃ m,n=m+2:=⟨n - 2,om⟩
 match s,t with
 |[],[]=>rfl
 |[],_::_=>simp at h
 |_::_,[]=>simp at h
 |[a],[b]=>rfl
 |[a],b::c::t=>simp at h
 |a::d::s,[b]=>simp at h
 |a::d::s,b::c::t=>simp at h;simp[hd1,h]
theorem f0z {s t:List UInt8} (h:szL s≠0) (ht:szL s<=t.length) (he:s.take (szL s)=t.take (szL s)):szL t=szL s:=by
 rcases d1p s h with⟨h1,h2,h3⟩|⟨h1,h2,h3,h4,h5,h6,h7⟩
 ·have e0:=e1u om he
  have hne:t≠[]:=by rintro rfl;simp at ht;omega
  unfold szL
  rw[if_neg hne,if_pos (by rw[<-e0];exact h3)]
  rw[if_neg h2,if_pos h3]
 ·have e0:=e1u om he
  have e1:=f5r h3 he
  rw[g9a t (by rw[<-e0];exact h1) (by rw[<-e0];omega) (by rw[<-e0];omega) (by rw[<-e0,<-e1];exact h5) (by rw[<-e0,<-e1];exact h6) (by rw[<-e0,<-h2,<-he];exact h7),<-e0,h2]
theorem f1p {s:List UInt8} (h:szL s≠0) (t:List UInt8):szL (s++t)=szL s:=
 f0z h (by have:=b6h s;simp;omega) (by rw[List.take_append_of_le_length (b6h s)])
theorem f4l {s:List UInt8} (h:szL s≠0) {p:Nat} (hp:szL s<=p):szL (s.take p)=szL s:=
 f0z h (by have:=b6h s;simp;omega) (by rw[List.take_take,Nat.min_eq_left hp])
theorem f2c {s:List UInt8} {p:Nat} (hp:0 < p) (h:p < szL s):∀ c,s[p]? =some c->128<=c.toNat:=by
 intro c hc
 rcases d1p s om with⟨h1,_⟩|⟨h1,h2,h3,h4,h5,h6,h7⟩
 ·omega
 ·by_cases hp1:p=1
  ·subst hp1
   have:hd1 s=c:=by
    match s,hc with
    |a::b::r,hc=>simpa [hd1] using hc
   have hlo:128<=c6s (hd0 s):=by unfold c6s;repeat' split
                                 all_goals omega
   rw[this]at h5;omega
  ·have hm:c∈(s.take (szL s)).drop 2:=List.mem_iff_getElem?.2 ⟨p - 2,by
     rw[List.getElem?_drop,show 2+(p - 2)=p by omega,List.getElem?_take,if_pos h];exact hc⟩
   have:=List.all_eq_true.1 h7 c hm
   simp[a1u]at this;omega
theorem d3v:∀ (n:Nat) (s:List UInt8) (p:Nat),s.length<=n->Val s->(s.length<=p\/∃ c,s[p]? =some c/\c.toNat < 128)->Val (s.take p)/\Val (s.drop p):=by
 intro n
 induction n with
 |zero=>intro s p h hv _;have:s=[]:=List.length_eq_zero_iff.1 om;subst this;simp[c1n]
 |succ n ih=>
  intro s p h hv hb
  by_cases h0:s=[]
  ·subst h0;simp[c1n]
  ·by_cases hp:p=0
   ·subst hp;simp[c1n,hv]
   ·obtain⟨h1,h2⟩:=(b1x h0).1 hv
    have hge:szL s<=p:=by
     apply Classical.byContradiction
     intro hlt
     rcases hb with hb|⟨c,hc,hc2⟩
     ·have:=b6h s;omega
     ·have:=f2c (s:=s) (p:=p) om om c hc;omega
    have hd:=a9s s (by simp[h0,h1])
    obtain⟨k1,k2⟩:=ih (s.drop (szL s)) (p - szL s) om h2 (by
      rcases hb with hb|⟨c,hc,hc2⟩
      ·left;rw[List.length_drop];omega
      ·right;exact⟨c,by rw[List.getElem?_drop,show szL s+(p - szL s)=p by omega];exact hc,hc2⟩)
    constructor
    ·have hne:s.take p≠[]:=by intro e;rw[List.take_eq_nil_iff]at e;rcases e with e|e;exact hp e;exact h0 e
     rw[b1x hne,f4l h1 hge]
     refine⟨h1,?_⟩
     rw[List.drop_take];exact k1
    ·rw[List.drop_drop,show szL s+(p - szL s)=p by omega]at k2;exact k2
theorem g0o:∀ (n:Nat) (s t:List UInt8),s.length<=n->Val s->Val t->Val (s++t):=by
 intro n
 induction n with
 |zero=>intro s t h _ ht;have:s=[]:=List.length_eq_zero_iff.1 om;subst this;exact ht
 |succ n ih=>
  intro s t h hs ht
  by_cases h0:s=[]
  ·subst h0;exact ht
  ·obtain⟨h1,h2⟩:=(b1x h0).1 hs
   have hne:s++t≠[]:=by simp[h0]
   rw[b1x hne,f1p h1]
   refine⟨h1,?_⟩
   rw[List.drop_append_of_le_length (b6h s)]
   exact ih _ _ (by have:=a9s s (by simp[h0,h1]);omega) h2 ht
theorem c4a:∀ (n:Nat) (s:List UInt8),s.length<=n->Val s->Val (s.drop (a0c false s)):=by
 intro n
 induction n with
 |zero=>intro s h hv;have:s=[]:=List.length_eq_zero_iff.1 om;subst this;simp[c1n]
 |succ n ih=>
  intro s h hv
  cases s with
  |nil=>simpa using hv
  |cons c r=>
   rw[a2g]
   split
   ·rename_i hw
    have hc:c.toNat < 128:=by simp[wsB]at hw;rcases hw with rfl|rfl|rfl|rfl<;>decide
    rw[List.drop_succ_cons]
    exact ih r (by simpa using h) ((c3y hc r).1 hv)
   ·split
    ·rename_i hr
     have hc:c.toNat < 128:=by rw[hr.1];decide
     have hvr:=(c3y hc r).1 hv
     rw[List.drop_succ_cons,e8x]
     have hg:=Lib.indexByte_ge r 10
     split
     ·rw[List.drop_length];exact c1n
     ·rename_i hi
      rw[<-List.drop_drop]
      have hs:=Lib.indexByte_some (l:=r) (c:=10) (o:=(Lib.indexByte r 10).toNat) om
      refine ih _ (by rw[List.length_drop];simp at h;omega) ?_
      exact(d3v _ r _ (Nat.le_refl _) hvr (.inr ⟨10,hs.1,by decide⟩)).2
    ·exact hv
theorem c5e:∀ (n:Nat) (b:Bool) (s:List UInt8),s.length<=n->a0c false (s.drop (a0c b s))=0:=by
 intro n
 induction n with
 |zero=>intro b s h;have:s=[]:=List.length_eq_zero_iff.1 om;subst this;cases b<;>rfl
 |succ n ih=>
  intro b s h
  cases s with
  |nil=>cases b<;>rfl
  |cons c r=>
   have hr:r.length<=n:=by simpa using h
   cases b with
   |false=>
    rw[a2g]
    split
    ·rw[List.drop_succ_cons];exact ih _ r hr
    ·rename_i h1
     split
     ·rw[List.drop_succ_cons];exact ih _ r hr
     ·rename_i h2;rw[List.drop_zero,a2g,if_neg h1,if_neg h2]
   |true=>
    rw[a2s]
    split
    ·rw[List.drop_succ_cons];exact ih _ r hr
    ·rw[List.drop_succ_cons];exact ih _ r hr
end Go.Vm.Lex
namespace Go.Vm.Lex
theorem e1s {c:UInt8} (h:c0l c=true):c.toNat < 128:=by simp[c0l,isL,isD]at h;omega
theorem takeWhile_take:∀ (s:List UInt8),s.take (a2h s)=s.takeWhile c0l:=by
 intro s;unfold a2h
 induction s with
 |nil=>rfl
 |cons c r ih=>rw[List.takeWhile_cons];split<;>simp[ih]
theorem c9x (s:List UInt8):(s.take (a2h s)).all c0l=true:=by
 rw[takeWhile_take]
 induction s with
 |nil=>rfl
 |cons c r ih=>rw[List.takeWhile_cons];split<;>simp_all
theorem c5q (s:List UInt8):a2l s=[]\/(s.length≥2/\a2l s=s.take 2/\s.take 2∈a9x)\/(s≠[]/\a2l s=s.take 1/\hd0 s∈b8i/\¬ (1 < s.length/\s.take 2∈a9x)):=by
 unfold a2l
 split
 ·rename_i h;exact .inr (.inl ⟨h.1,rfl,h.2⟩)
 ·rename_i h0
  split
  ·rename_i h;exact .inr (.inr ⟨h.1,rfl,h.2,h0⟩)
  ·exact .inl rfl
theorem d8j:∀ t∈a9x,t.length=2/\∀ c∈t,c.toNat < 128:=by decide
theorem d9v:∀ c∈b8i,c.toNat < 128:=by decide
theorem b3q {w:List UInt8->Nat} {s:List UInt8} (h:(a1b w s).e=0):1<=(a1b w s).n/\(a1b w s).n<=s.length/\(a1b w s).t=s.take (a1b w s).n/\∀ c∈s.take (a1b w s).n,c.toNat < 128:=by
 have hrl:=a9p s
 have hra:∀ c∈s.take (a2h s),c.toNat < 128:=fun c hc=>e1s (List.all_eq_true.1 (c9x s) c hc)
 unfold a1b at h⊢
 split
 ·rename_i h1
  rw[if_pos h1]at h
  split
  ·exact⟨h1.1,hrl,rfl,hra⟩
  ·rename_i h2;rw[if_neg h2]at h;cases h
 ·rename_i h1
  rw[if_neg h1]at h
  split
  ·rename_i h2
   rw[if_pos h2]at h
   split
   ·rename_i h3;rw[if_pos h3]at h;cases h
   ·exact⟨h2.1,hrl,rfl,hra⟩
  ·rename_i h2
   rw[if_neg h2]at h
   split
   ·rename_i h3
    rcases c5q s with h4|⟨h4,h5,h6⟩|⟨h4,h5,h6,_⟩
    ·exact absurd h4 h3
    ·have hl:(a2l s).length=2:=by rw[h5,List.length_take];omega
     show 1<=(a2l s).length/\(a2l s).length<=s.length/\a2l s=s.take (a2l s).length/\_
     rw[hl]
     exact⟨om,h4,h5,(d8j _ h6).2⟩
    ·have hp:0 < s.length:=List.length_pos_iff.2 h4
     have hl:(a2l s).length=1:=by rw[h5,List.length_take];omega
     show 1<=(a2l s).length/\(a2l s).length<=s.length/\a2l s=s.take (a2l s).length/\∀ c∈s.take (a2l s).length,c.toNat < 128
     rw[hl]
     refine⟨om,om,h5,fun c hc=>?_⟩
     cases s with
     |nil=>exact absurd rfl h4
     |cons d r=>simp at hc;rw[hc];exact d9v _ h6
   ·rename_i h3;rw[if_neg h3]at h;cases h
theorem h3j {w w':List UInt8->Nat} (s:List UInt8) (h:w s=w' s):a1b w s=a1b w' s:=by unfold a1b;rw[h]
theorem c5x:∀ (s:List UInt8) (n:Nat),(∀ c∈s.take n,c.toNat < 128)->(Val s↔Val (s.drop n))
 |[],n,_=>by simp
 |c::r,0,_=>by simp
 |c::r,n+1,h=>by
  rw[c3y (h c (by simp)) r,List.drop_succ_cons]
  exact c5x r n fun d hd=>h d (by simp[hd])
structure Dg where
 c:Int
 f:Nat
 e:Nat
structure TokQ where
 k:Int
 t:List UInt8
 v:Int
 f:Nat
 e:Nat
def Dg.ok:Dg:=⟨0,0,0⟩
def after (out:List TokQ) (r:List TokQ×Dg):List TokQ×Dg:=if r.2.c=0 then(out++r.1,r.2) else([],r.2)
theorem b5d (s:List UInt8) (h:¬ (s.drop (a0c false s)=[]\/(a1b szL (s.drop (a0c false s))).e≠0)):(s.drop (a0c false s+(a1b szL (s.drop (a0c false s))).n)).length < s.length:=by
 have h1:s.drop (a0c false s)≠[]:=fun e=>h (.inl e)
 have h2:(a1b szL (s.drop (a0c false s))).e=0:=by
  apply Classical.byContradiction
  intro e;exact h (.inr e)
 obtain⟨h3,h4,_⟩:=b3q h2
 rw[List.length_drop]at h4⊢
 have:=List.length_pos_iff.2 h1
 rw[List.length_drop]at this
 omega
def toks (a:Nat) (s:List UInt8):List TokQ×Dg:=
 if h:s.drop (a0c false s)=[]\/(a1b szL (s.drop (a0c false s))).e≠0 then
  (if s.drop (a0c false s)=[] then([⟨5,[],0,a+s.length,a+s.length⟩],Dg.ok)
   else([],⟨(a1b szL (s.drop (a0c false s))).e,a+a0c false s,a+a0c false s+(a1b szL (s.drop (a0c false s))).n⟩))
 else after [⟨(a1b szL (s.drop (a0c false s))).k,(a1b szL (s.drop (a0c false s))).t,(a1b szL (s.drop (a0c false s))).v,a+a0c false s,a+a0c false s+(a1b szL (s.drop (a0c false s))).n⟩] (toks (a+(a0c false s+(a1b szL (s.drop (a0c false s))).n)) (s.drop (a0c false s+(a1b szL (s.drop (a0c false s))).n)))
termination_by s.length
decreasing_by exact b5d s h
theorem a1n (a:Nat) {s:List UInt8} (h:s.drop (a0c false s)=[]):toks a s=([⟨5,[],0,a+s.length,a+s.length⟩],Dg.ok):=by rw[toks];simp[h]
theorem a4g (a:Nat) {s:List UInt8} (h:s.drop (a0c false s)≠[]) (he:(a1b szL (s.drop (a0c false s))).e≠0):toks a s=([],⟨(a1b szL (s.drop (a0c false s))).e,a+a0c false s,a+a0c false s+(a1b szL (s.drop (a0c false s))).n⟩):=by rw[toks,dif_pos (.inr he),if_neg h]
theorem a4r (a:Nat) {s:List UInt8} (h:s.drop (a0c false s)≠[]) (he:(a1b szL (s.drop (a0c false s))).e=0):toks a s=after [⟨(a1b szL (s.drop (a0c false s))).k,(a1b szL (s.drop (a0c false s))).t,(a1b szL (s.drop (a0c false s))).v,a+a0c false s,a+a0c false s+(a1b szL (s.drop (a0c false s))).n⟩] (toks (a+(a0c false s+(a1b szL (s.drop (a0c false s))).n)) (s.drop (a0c false s+(a1b szL (s.drop (a0c false s))).n))):=by
 rw[toks,dif_neg (by simp[h,he])]
theorem b9p (a:Nat) (s:List UInt8):toks a s=toks (a+a0c false s) (s.drop (a0c false s)):=by
 have hi:=c5e _ false s (Nat.le_refl _)
 have hl:=a2e false s
 by_cases h:s.drop (a0c false s)=[]
 ·rw[a1n a h,a1n (a+a0c false s) (by rw[hi,List.drop_zero];exact h)]
  have e:(s.drop (a0c false s)).length=s.length - a0c false s:=List.length_drop ..
  have hl2:a+a0c false s+(s.drop (a0c false s)).length=a+s.length:=by rw[e];omega
  rw[hl2]
 ·by_cases he:(a1b szL (s.drop (a0c false s))).e=0
  ·rw[a4r a h he,a4r (a+a0c false s) (by rw[hi,List.drop_zero];exact h) (by rw[hi,List.drop_zero];exact he),hi]
   simp only[List.drop_zero,Nat.add_zero,List.drop_drop,Nat.zero_add,Nat.add_assoc]
  ·rw[a4g a h he,a4g (a+a0c false s) (by rw[hi,List.drop_zero];exact h) (by rw[hi,List.drop_zero];exact he),hi]
   simp only[List.drop_zero,Nat.add_zero]
theorem c5r (o1 o2:List TokQ) (r:List TokQ×Dg):after o1 (after o2 r)=after (o1++o2) r:=by
 unfold after
 by_cases h:r.2.c=0<;>simp[h]
theorem c5c (r:List TokQ×Dg) (h:r.2.c≠0->r.1=[]):after [] r=r:=by
 unfold after
 by_cases hc:r.2.c=0
 ·simp[hc]
 ·rw[if_neg hc,<-h hc]
theorem c3m:∀ (n:Nat) (a:Nat) (s:List UInt8),s.length<=n->(toks a s).2.c≠0->(toks a s).1=[]:=by
 intro n
 cases n with
 |zero=>
  intro a s h hc
  have:s=[]:=List.length_eq_zero_iff.1 om
  subst this
  rw[a1n a (by simp)]at hc;exact absurd rfl hc
 |succ n=>
  intro a s h hc
  by_cases h0:s.drop (a0c false s)=[]
  ·rw[a1n a h0]at hc;exact absurd rfl hc
  ·by_cases he:(a1b szL (s.drop (a0c false s))).e=0
   ·rw[a4r a h0 he]at hc⊢
    unfold after at hc⊢
    split
    ·rename_i hz;rw[if_pos hz]at hc;exact absurd hz hc
    ·rfl
   ·rw[a4g a h0 he]
def a0l (s:List UInt8):List TokQ×Dg:=if 65536 < s.length then([],⟨2,0,0⟩) else if 0<=strange 0 s then([],⟨110,(strange 0 s).toNat,(strange 0 s).toNat+1⟩) else toks 0 s
end Go.Vm.Lex
namespace Go.Vm.Lex
open Go.Vm.Ite
def TokQ.D (t:TokQ):D:=tkD t.k t.t t.v t.f t.e
def a5z (r:List TokQ×Dg):V:= .tup [.d (.sl (r.1.map TokQ.D)),.d (dgD r.2.c r.2.f r.2.e)]
theorem f3a (s:List UInt8):∀ (f i:Nat),s.length - i<=f->b9a ⟨s.toArray⟩ f i=strange i (s.drop i):=by
 intro f
 induction f with
 |zero=>
  intro i h
  rw[List.drop_eq_nil_of_le om,a2w];rfl
 |succ f ih=>
  intro i h
  have hsz:(⟨s.toArray⟩:ByteArray).size=s.length:=by simp[ByteArray.size]
  unfold b9a
  rw[hsz]
  split
  ·rename_i hlt
   obtain⟨h1,h2⟩:=f8t s i hlt
   have hne:s.drop i≠[]:=by intro e;have:=congrArg List.length e;simp at this;omega
   by_cases h0:szL (s.drop i)=0
   ·rw[if_pos (h1.2 h0),a6i i hne h0]
   ·rw[if_neg (fun e=>h0 (h1.1 e)),h2 h0,a5h i hne h0,List.drop_drop]
    exact ih _ om
  ·rw[List.drop_eq_nil_of_le om,a2w]
theorem i1a (s:List UInt8) (h:s≠[]) (h0:szL s≠0):wD s=szL s:=by
 have hp:=List.length_pos_iff.2 h
 obtain⟨h1,h2⟩:=f8t s 0 hp
 have hsz:(⟨s.toArray⟩:ByteArray).size=s.length:=by simp[ByteArray.size]
 unfold wD d7f
 rw[if_neg om]
 exact h2 h0
section
variable {fx:Nat->Option Obj} {F:Nat->Option a1j} [HL F] (H:Hp)
theorem g7d (s:List UInt8):evF (pgL fx F) d2s [str s] H=some (i64 (strange 0 s),H):=by
 rw[b1z (e6e (F:=F))]
 show some (V.d (D.int .i64 (b9a ⟨s.toArray⟩ s.length 0)),H)=_
 rw[f3a s s.length 0 om,List.drop_zero]
theorem e1z (s:List UInt8) (hs:s.length<=4611686018427387904):evF (pgL fx F) c6w [str s] H=some (i64 (strange 0 s),H):=by
 refine a3v (c5l (F:=F)) rfl rfl ?_ H
 refine wp_loop (α:=Nat) (fun i=>s.length - i) (fun i=>[(0,str s),(3,i64 i)]) (fun _=>[]) (fun i=>i<=s.length/\strange i (s.drop i)=strange 0 s) ?_ 0 ⟨om,by simp⟩
 rintro i ⟨hi,hr⟩
 refine And.intro (fun hl=>?_) (fun hl=>?_)
 ·replace hl:=of_decide_eq_true hl
  have hlt:i < s.length:=om
  have hne:s.drop i≠[]:=by intro e;have:=congrArg List.length e;simp at this;omega
  refine Exists.intro _ (Exists.intro _ (And.intro (d5d _ _ hs _ hlt) ?_))
  refine And.intro (fun h=>?_) (fun h=>?_)
  ·replace h:=of_decide_eq_true h
   rw[a6i i hne om]at hr
   show _=_
   rw[<-hr];rfl
  ·replace h:=of_decide_eq_false h
   rw[a5h i hne om,List.drop_drop]at hr
   have hle:=b6h (s.drop i)
   rw[List.length_drop]at hle
   refine⟨i+szL (s.drop i),⟨om,hr⟩,om,?_,rfl⟩
   rw[a2x om];rfl
 ·replace hl:=of_decide_eq_false hl
  rw[List.drop_eq_nil_of_le om,a2w]at hr
  show _=_
  rw[<-hr];rfl
structure Head (s:List UInt8) (i:Nat) (out:List TokQ):Prop where
 le:i<=s.length
 val:Val (s.drop i)
 sk:a0c false (s.drop i)=0
 ol:out.length<=i
 eq:after out (toks i (s.drop i))=toks 0 s
theorem Head.start {s:List UInt8} (h:Val s):Head s (a0c false s) []:=by
 refine⟨a2e _ _,c4a _ s (Nat.le_refl _) h,c5e _ _ _ (Nat.le_refl _),Nat.zero_le _,?_⟩
 rw[c5c _ (c3m _ _ _ (Nat.le_refl _))]
 have:=b9p 0 s
 rw[Nat.zero_add]at this
 exact this.symm
theorem Head.next {s:List UInt8} {i:Nat} {out:List TokQ} (h:Head s i out) (hlt:i < s.length) (he:(a1b szL (s.drop i)).e=0):
 Head s (i+(a1b szL (s.drop i)).n+a0c false (s.drop (i+(a1b szL (s.drop i)).n))) (out++[⟨(a1b szL (s.drop i)).k,(a1b szL (s.drop i)).t,(a1b szL (s.drop i)).v,i,i+(a1b szL (s.drop i)).n⟩]):=by
 obtain⟨h1,h2,h3,h4,h5⟩:=h
 obtain⟨k1,k2,k3,k4⟩:=b3q he
 rw[List.length_drop]at k2
 have hv:Val (s.drop (i+(a1b szL (s.drop i)).n)):=by rw[<-List.drop_drop];exact(c5x _ _ k4).1 h2
 have hsl:=a2e false (s.drop (i+(a1b szL (s.drop i)).n))
 rw[List.length_drop]at hsl
 refine⟨om,?_,?_,by simp;omega,?_⟩
 ·rw[<-List.drop_drop];exact c4a _ _ (Nat.le_refl _) hv
 ·rw[<-List.drop_drop];exact c5e _ _ _ (Nat.le_refl _)
 ·have hne:(s.drop i).drop (a0c false (s.drop i))≠[]:=by rw[h3,List.drop_zero];intro e;have:=congrArg List.length e;simp at this;omega
  rw[a4r i hne (by rw[h3,List.drop_zero];exact he),c5r]at h5
  simp only[h3,List.drop_zero,Nat.add_zero,Nat.zero_add,List.drop_drop]at h5
  rw[b9p,List.drop_drop]at h5
  exact h5
theorem Head.err {s:List UInt8} {i:Nat} {out:List TokQ} (h:Head s i out) (hlt:i < s.length) (he:(a1b szL (s.drop i)).e≠0):toks 0 s=([],⟨(a1b szL (s.drop i)).e,i,i+(a1b szL (s.drop i)).n⟩):=by
 obtain⟨h1,h2,h3,h4,h5⟩:=h
 have hne:(s.drop i).drop (a0c false (s.drop i))≠[]:=by rw[h3,List.drop_zero];intro e;have:=congrArg List.length e;simp at this;omega
 rw[<-h5,a4g i hne (by rw[h3,List.drop_zero];exact he),h3]
 simp only[List.drop_zero,Nat.add_zero]
 unfold after
 rw[if_neg he]
theorem Head.fin {s:List UInt8} {i:Nat} {out:List TokQ} (h:Head s i out) (hlt:¬ i < s.length):toks 0 s=(out++[⟨5,[],0,s.length,s.length⟩],Dg.ok):=by
 obtain⟨h1,h2,h3,h4,h5⟩:=h
 have hd:s.drop i=[]:=List.drop_eq_nil_of_le om
 rw[<-h5,hd,a1n i (by simp)]
 have:i=s.length:=om
 subst this
 simp[after,Dg.ok]
theorem g4f {s:List UInt8} (h:s≠[]) (hv:Val s):szL s≠0:=((b1x h).1 hv).1
def dg0:Ob:= .box [.d (.int .i64 0),.d (.int .i64 0),.d (.int .i64 0)]
set_option maxHeartbeats 1000000 in
theorem d1z (s:List UInt8) (hs:s.length<=maxLen):evF (pgL fx F) d3j [str s] H=some (a5z (a0l s),H):=by
 refine a3v (d1v (F:=F)) rfl rfl ?_ H
 refine And.intro (fun h=>?_) (fun h=>?_)
 ·replace h:=of_decide_eq_true h
  show _=_
  unfold a0l
  rw[if_pos om];rfl
 replace h:=of_decide_eq_false h
 have hm:s.length<=65536:=om
 have hL:a0l s=if 0<=strange 0 s then([],⟨110,(strange 0 s).toNat,(strange 0 s).toNat+1⟩) else toks 0 s:=by unfold a0l;rw[if_neg om]
 have hg:=b5k _ s 0 (Nat.le_refl _)
 refine Exists.intro _ (Exists.intro _ (And.intro (g7d _ _) ?_))
 refine And.intro (fun h2=>?_) (fun h2=>?_)
 ·replace h2:=of_decide_eq_true h2
  show _=_
  rw[hL,if_pos om,a2x om]
  simp only[oneOf,a5z,dgD,List.map_nil,Int.natCast_add,Int.toNat_of_nonneg h2];rfl
 replace h2:=of_decide_eq_false h2
 rw[if_neg om]at hL
 have hv:Val s:=by unfold Val;omega
 refine Exists.intro _ (Exists.intro _ (And.intro (e6a _ _ hs 0 om) ?_))
 rw[hL]
 simp only[List.drop_zero,Nat.zero_add]
 refine wp_loop (α:=Nat×List TokQ) (fun p=>s.length - p.1) (fun p=>[(0,str s),(3,.ptr 0 0),(5,.row 1 p.2.length),(6,i64 p.1)]) (fun p=>[dg0,.row 5 (p.2.map TokQ.D)]) (fun p=>Head s p.1 p.2) ?_ (a0c false s,[]) (Head.start hv)
 rintro⟨i,out⟩ hh
 have hle:=hh.le
 have hol:=hh.ol
 simp only at hh hle hol
 refine And.intro (fun hl=>?_) (fun hl=>?_)
 ·replace hl:=of_decide_eq_true hl
  have hlt:i < s.length:=om
  have hne:s.drop i≠[]:=by intro e;have:=congrArg List.length e;simp at this;omega
  refine And.intro om ?_
  refine And.intro ⟨om,om⟩ ?_
  have hn:=hh.next hlt
  have hx:=hh.err hlt
  have ht:a1b wD (s.drop i)=a1b szL (s.drop i):=h3j _ (i1a _ hne (g4f hne hh.val))
  have hk:(a1b szL (s.drop i)).e=0->1<=(a1b szL (s.drop i)).n/\(a1b szL (s.drop i)).n<=s.length - i:=fun e=>by
    obtain⟨k1,k2,_⟩:=b3q e
    rw[List.length_drop]at k2
    exact⟨k1,k2⟩
  have hnb:(a1b szL (s.drop i)).n<=s.length - i:=by
   have h1:=a9p (s.drop i)
   have h2:=b6h (s.drop i)
   rw[List.length_drop]at h1 h2
   by_cases e:(a1b szL (s.drop i)).e=0
   ·exact(hk e).2
   ·unfold a1b at e⊢
    repeat' split
    all_goals simp_all
    all_goals omega
  have tev:∀ H:Hp,evF (pgL fx F) c6b [str (List.drop (Int.toNat (i:Int)) (List.take s.length s))] H=some (.tup [.d (tkD (a1b szL (s.drop i)).k (a1b szL (s.drop i)).t (a1b szL (s.drop i)).v 0 0),i64 (a1b szL (s.drop i)).n,i64 (a1b szL (s.drop i)).e],H):=by
   intro H
   rw[c1k,f3q _ _ (by rw[List.length_drop];omega)]
   unfold f5t
   rw[ht]
  generalize a1b szL (s.drop i)=T at*
  refine Exists.intro _ (Exists.intro _ (And.intro (tev _) ?_))
  refine And.intro (fun h3=>?_) (fun h3=>?_)
  ·have he:T.e≠0:=by simpa using h3
   show _=_
   rw[hx he,a2x om]
   simp only[oneOf,a5z,dgD,List.map_nil,Int.natCast_add]
   try rfl
  ·have he:T.e=0:=by simpa using h3
   obtain⟨k1,k2⟩:=hk he
   have hn:=hn he
   have hsl:=a2e false (s.drop (i+T.n))
   rw[List.length_drop]at hsl
   refine And.intro ⟨rfl,by decide⟩ ?_
   refine And.intro ⟨rfl,by simp,⟨by simp;omega,by simp;omega⟩⟩ ?_
   have hw:IntKind.i64.wrap ((i:Int)+(T.n:Int))=((i+T.n:Nat):Int):=by rw[a2x om];omega
   refine Exists.intro _ (Exists.intro _ (And.intro (Eq.trans (congrArg (fun z=>evF (pgL fx F) c8b [str s,i64 z] _) hw) (e6a _ s hs (i+T.n) om)) ?_))
   refine⟨(_,_),hn,by simp only;omega,?_,?_⟩
   ·simp
   ·simp[TokQ.D,tkD,dg0,hw]
 ·replace hl:=of_decide_eq_false hl
  have hf:=hh.fin om
  refine And.intro ⟨rfl,by decide⟩ ?_
  refine And.intro ⟨rfl,by simp,⟨by simp;omega,by simp;omega⟩⟩ ?_
  refine And.intro (by simp) ?_
  show _=_
  rw[hf]
  simp[oneOf,a5z,dgD,TokQ.D,tkD,Dg.ok]
end
end Go.Vm.Lex
namespace Go.Vm.Lex
open Go.Vm.Ite
section
variable {fx:Nat->Option Obj} {F:Nat->Option a1j} [HL F] (H:Hp)
set_option maxHeartbeats 2000000 in
theorem e4d (s:List UInt8) (hs:s.length<=maxLen):evF (pgL fx F) c7c [str s] H=some (a5z (a0l s),H):=by
 refine a3v (c6z (F:=F)) rfl rfl ?_ H
 refine And.intro (fun h=>?_) (fun h=>?_)
 ·replace h:=of_decide_eq_true h
  refine Exists.intro _ (Exists.intro _ (And.intro (b7f _ 2 0 0) ?_))
  show _=_
  unfold a0l
  rw[if_pos om];rfl
 replace h:=of_decide_eq_false h
 have hm:s.length<=65536:=om
 have hs2:s.length<=4611686018427387904:=om
 have hL:a0l s=if 0<=strange 0 s then([],⟨110,(strange 0 s).toNat,(strange 0 s).toNat+1⟩) else toks 0 s:=by unfold a0l;rw[if_neg om]
 have hg:=b5k _ s 0 (Nat.le_refl _)
 refine Exists.intro _ (Exists.intro _ (And.intro (e1z _ _ hs2) ?_))
 refine And.intro (fun h2=>?_) (fun h2=>?_)
 ·replace h2:=of_decide_eq_true h2
  refine Exists.intro _ (Exists.intro _ (And.intro (b7f _ _ _ _) ?_))
  show _=_
  rw[hL,if_pos om,a2x om]
  simp only[oneOf,a5z,dgD,List.map_nil,Int.natCast_add,Int.toNat_of_nonneg h2];rfl
 replace h2:=of_decide_eq_false h2
 rw[if_neg om]at hL
 have hv:Val s:=by unfold Val;omega
 refine Exists.intro _ (Exists.intro _ (And.intro (e0n _ _ hs 0 om) ?_))
 rw[hL]
 simp only[List.drop_zero,Nat.zero_add]
 refine wp_loop (α:=Nat×List TokQ) (fun p=>s.length - p.1) (fun p=>[(0,str s),(3,.ptr 0 0),(5,.row 1 p.2.length),(6,i64 p.1)]) (fun p=>[dg0,.row 5 (p.2.map TokQ.D)]) (fun p=>Head s p.1 p.2) ?_ (a0c false s,[]) (Head.start hv)
 rintro⟨i,out⟩ hh
 have hle:=hh.le
 have hol:=hh.ol
 simp only at hh hle hol
 refine And.intro (fun hl=>?_) (fun hl=>?_)
 ·replace hl:=of_decide_eq_true hl
  have hlt:i < s.length:=om
  have hd:s.drop i=s[i]::s.drop (i+1):=List.drop_eq_getElem_cons hlt
  have hne:s.drop i≠[]:=by rw[hd];exact List.cons_ne_nil _ _
  have hh0:hd0 (s.drop i)=s[i]:=by rw[hd];rfl
  have hn:=hh.next hlt
  have hx:=hh.err hlt
  have hk:(a1b szL (s.drop i)).e=0->1<=(a1b szL (s.drop i)).n/\(a1b szL (s.drop i)).n<=s.length - i:=fun e=>by
    obtain⟨k1,k2,_⟩:=b3q e
    rw[List.length_drop]at k2
    exact⟨k1,k2⟩
  have hR0:0 < a2h (s.drop i)↔c0l s[i]=true:=by
   rw[hd,a9l]
   cases c0l s[i]<;>simp
  have hR1:s[i]=95->((s.drop i).take (a2h (s.drop i))=[95]↔a2h (s.drop i)=1):=by
   intro e
   have hpos:0 < a2h (s.drop i):=hR0.2 (by rw[e];rfl)
   constructor
   ·intro h1
    have h2:min (a2h (s.drop i)) (s.drop i).length=1:=by rw[<-List.length_take,h1];rfl
    have h3:=a9p (s.drop i)
    omega
   ·intro h1;rw[h1,hd,e];rfl
  have hR2:s[i]≠95->(s.drop i).take (a2h (s.drop i))≠[95]:=by
   intro e h1
   cases hr:a2h (s.drop i)with
   |zero=>rw[hr]at h1;simp at h1
   |succ n=>rw[hr,hd,List.take_succ_cons]at h1;injection h1 with h1 _;exact e h1
  have hrl:=a9p (s.drop i)
  have hszl:=b6h (s.drop i)
  rw[List.length_drop]at hrl hszl
  have bl:∀ (n:Nat),n<=s.length - i->∀ (z:Int),z=((i+n:Nat):Int)->∀ H:Hp,evF (pgL fx F) b9l [str s,i64 z] H=some (i64 ((i+n+a0c false (s.drop (i+n)):Nat)),H):=by
   intro n hn z hz H
   rw[hz];exact e0n _ _ hs _ om
  have ew1:IntKind.i64.wrap ((i:Int)+1)=(i:Int)+1:=a2x om
  generalize hR:a2h (s.drop i)=R at*
  refine a7v hlt ?_
  -- is it '_' alone?
  have hal:(decide ((s[i].toNat:Int)=95) && decide (((i+R:Nat):Int)=IntKind.i64.wrap ((i:Int)+1)))=decide (s[i]=95/\R=1):=by
   rw[ew1,<-Bool.decide_and]
   simp only[decide_eq_decide,f9d]
   constructor
   ·rintro⟨h1,h2⟩;exact⟨by show s[i].toNat=95;omega,om⟩
   ·rintro⟨h1,h2⟩;have h3:s[i].toNat=95:=h1;exact⟨om,om⟩
  have tail:∀ al:Bool,al=decide (s[i]=95/\R=1)->True:=fun _ _=>trivial
  clear tail
  refine And.intro (fun ha=>?_) (fun ha=>?_)
  ·refine Exists.intro _ (Exists.intro _ (And.intro (d6s _ _ i om hs) ?_))
   rw[hR]
   refine a7v hlt ?_
   refine Exists.intro _ (Exists.intro _ (And.intro (b9e _ _) ?_))
   refine And.intro (fun h4=>?_) (fun h4=>?_)
   ·have hpos:0 < R:=hR0.2 (by unfold c0l;rw[h4,Bool.or_true])
    have hbr:0 < R/\isD (hd0 (s.drop i))=true:=⟨hpos,by rw[hh0];exact h4⟩
    have hnum:=fun H:Hp=>c6j (fx:=fx) (F:=F) H s hs i om
    unfold e4l at hnum
    rw[hR]at hnum
    cases hb:b7y ((s.drop i).take R)with
    |true=>
     simp only[hb,if_true]at hnum
     have hT:a1b szL (s.drop i)=⟨3,(s.drop i).take R,b6w ((s.drop i).take R),R,0⟩:=by
      unfold a1b;rw[hR,if_pos hbr,if_pos hb]
     refine Exists.intro _ (Exists.intro _ (And.intro (hnum _) ?_))
     refine a1v rfl ?_
     have hn:=hn (by rw[hT])
     rw[hT]at hn
     have hk:=hk (by rw[hT])
     rw[hT]at hk
     simp only at hn hk
     have hsl:=a2e false (s.drop (i+R))
     rw[List.length_drop]at hsl
     refine And.intro ⟨rfl,by decide⟩ ?_
     refine And.intro ⟨rfl,by simp,⟨by simp;omega,by simp;omega⟩⟩ ?_
     refine Exists.intro _ (Exists.intro _ (And.intro (bl R om _ rfl _) ?_))
     refine⟨(_,_),hn,by simp only;omega,?_,?_⟩
     ·simp
     ·simp[TokQ.D,tkD,dg0]
    |false=>
     simp only[hb,if_false,Bool.false_eq_true]at hnum
     have hT:a1b szL (s.drop i)=⟨0,[],0,R,112⟩:=by
      unfold a1b;rw[hR,if_pos hbr,if_neg (by rw[hb];simp)]
     refine Exists.intro _ (Exists.intro _ (And.intro (hnum _) ?_))
     refine a1q rfl ?_
     show _=_
     rw[hx (by rw[hT];simp),hT]
     simp only[oneOf,a5z,dgD,List.map_nil,Int.natCast_add]
     try rfl
   ·refine a7v hlt ?_
    refine Exists.intro _ (Exists.intro _ (And.intro (c0s _ _) ?_))
    have h95:s[i]=95:=by rw[f9d];show s[i].toNat=95;have:=of_decide_eq_true ha;omega
    have hLt:isL s[i]=true:=by rw[h95];rfl
    rw[hLt]
    refine And.intro (fun _=>?_) (fun e=>by cases e)
    by_cases hR1':R=1
    ·have hnm:¬ (0 < R/\(s.drop i).take R≠[95]):=fun e=>e.2 ((hR1 h95).2 hR1')
     refine a1v (by simp[ew1,hR1']) ?_
     have hnb:¬ (0 < R/\isD (hd0 (s.drop i))=true):=by rw[hh0,h4];simp
     refine Exists.intro _ (Exists.intro _ (And.intro (c3s _ s i hlt om) ?_))
     by_cases hsg:a2l (s.drop i)=[]
     ·have hT:a1b szL (s.drop i)=⟨0,[],0,szL (s.drop i),111⟩:=by
       unfold a1b;rw[hR,if_neg hnb,if_neg hnm,if_neg (fun e=>e hsg)]
      refine a1v (by simp[hsg]) ?_
      refine Exists.intro _ (Exists.intro _ (And.intro (d5d _ s hs2 i hlt) ?_))
      refine Exists.intro _ (Exists.intro _ (And.intro (b7f _ 111 _ _) ?_))
      rw[show IntKind.i64.wrap ((i:Int)+(szL (s.drop i):Int))=((i+szL (s.drop i):Nat):Int)by rw[a2x om];omega]
      refine a1q rfl ?_
      show _=_
      rw[hx (by rw[hT];simp),hT]
      simp only[oneOf,a5z,dgD,List.map_nil,Int.natCast_add]
      try rfl
     ·have hT:a1b szL (s.drop i)=⟨4,a2l (s.drop i),0,(a2l (s.drop i)).length,0⟩:=by
       unfold a1b;rw[hR,if_neg hnb,if_neg hnm,if_pos hsg]
      have hsl2:(a2l (s.drop i)).length<=s.length - i:=by have:=hk (by rw[hT]);rw[hT]at this;exact this.2
      refine a1q (by simp[hsg]) ?_
      refine Exists.intro _ (Exists.intro _ (And.intro (c3s _ s i hlt om) ?_))
      have ews:IntKind.i64.wrap ((i:Int)+((a2l (s.drop i)).length:Int))=((i+(a2l (s.drop i)).length:Nat):Int):=by rw[a2x om];omega
      refine a1v rfl ?_
      have hn:=hn (by rw[hT])
      rw[hT]at hn
      have hk:=hk (by rw[hT])
      rw[hT]at hk
      simp only at hn hk
      have hsl:=a2e false (s.drop (i+(a2l (s.drop i)).length))
      rw[List.length_drop]at hsl
      refine And.intro ⟨rfl,by decide⟩ ?_
      refine And.intro ⟨rfl,by simp,⟨by simp;omega,by simp;omega⟩⟩ ?_
      refine Exists.intro _ (Exists.intro _ (And.intro (bl (a2l (s.drop i)).length hsl2 _ ews _) ?_))
      refine⟨(_,_),hn,by simp only;omega,?_,?_⟩
      ·simp
      ·simp[TokQ.D,tkD,dg0,ews]
    ·have hnm:0 < R/\(s.drop i).take R≠[95]:=⟨hR0.2 (by rw[h95];rfl),fun e=>hR1' ((hR1 h95).1 e)⟩
     refine a1q (by simp[ew1];omega) ?_
     have hnb:¬ (0 < R/\isD (hd0 (s.drop i))=true):=by rw[hh0,h4];simp
     have hnam:=fun H:Hp=>d9q (fx:=fx) (F:=F) H s hs i om
     unfold g7c at hnam
     rw[hR]at hnam
     by_cases h64:64 < R
     ·simp only[h64,if_true]at hnam
      have hT:a1b szL (s.drop i)=⟨0,[],0,R,2⟩:=by
       unfold a1b;rw[hR,if_neg hnb,if_pos hnm,if_pos h64]
      refine Exists.intro _ (Exists.intro _ (And.intro (hnam _) ?_))
      refine a1q rfl ?_
      show _=_
      rw[hx (by rw[hT];simp),hT]
      simp only[oneOf,a5z,dgD,List.map_nil,Int.natCast_add]
      try rfl
     ·simp only[h64,if_false]at hnam
      have hT:a1b szL (s.drop i)=⟨if b7n ((s.drop i).take R) then 2 else 1,(s.drop i).take R,0,R,0⟩:=by
       unfold a1b;rw[hR,if_neg hnb,if_pos hnm,if_neg h64]
      refine Exists.intro _ (Exists.intro _ (And.intro (hnam _) ?_))
      refine a1v rfl ?_
      have hn:=hn (by rw[hT])
      rw[hT]at hn
      have hk:=hk (by rw[hT])
      rw[hT]at hk
      simp only at hn hk
      have hsl:=a2e false (s.drop (i+R))
      rw[List.length_drop]at hsl
      refine And.intro ⟨rfl,by decide⟩ ?_
      refine And.intro ⟨rfl,by simp,⟨by simp;omega,by simp;omega⟩⟩ ?_
      refine Exists.intro _ (Exists.intro _ (And.intro (bl R om _ rfl _) ?_))
      refine⟨(_,_),hn,by simp only;omega,?_,?_⟩
      ·simp
      ·simp[TokQ.D,tkD,dg0]
  ·refine a7v hlt ?_
   refine Exists.intro _ (Exists.intro _ (And.intro (b9e _ _) ?_))
   refine And.intro (fun h4=>?_) (fun h4=>?_)
   ·have hpos:0 < R:=hR0.2 (by unfold c0l;rw[h4,Bool.or_true])
    have hbr:0 < R/\isD (hd0 (s.drop i))=true:=⟨hpos,by rw[hh0];exact h4⟩
    have hnum:=fun H:Hp=>c6j (fx:=fx) (F:=F) H s hs i om
    unfold e4l at hnum
    rw[hR]at hnum
    cases hb:b7y ((s.drop i).take R)with
    |true=>
     simp only[hb,if_true]at hnum
     have hT:a1b szL (s.drop i)=⟨3,(s.drop i).take R,b6w ((s.drop i).take R),R,0⟩:=by
      unfold a1b;rw[hR,if_pos hbr,if_pos hb]
     refine Exists.intro _ (Exists.intro _ (And.intro (hnum _) ?_))
     refine a1v rfl ?_
     have hn:=hn (by rw[hT])
     rw[hT]at hn
     have hk:=hk (by rw[hT])
     rw[hT]at hk
     simp only at hn hk
     have hsl:=a2e false (s.drop (i+R))
     rw[List.length_drop]at hsl
     refine And.intro ⟨rfl,by decide⟩ ?_
     refine And.intro ⟨rfl,by simp,⟨by simp;omega,by simp;omega⟩⟩ ?_
     refine Exists.intro _ (Exists.intro _ (And.intro (bl R om _ rfl _) ?_))
     refine⟨(_,_),hn,by simp only;omega,?_,?_⟩
     ·simp
     ·simp[TokQ.D,tkD,dg0]
    |false=>
     simp only[hb,if_false,Bool.false_eq_true]at hnum
     have hT:a1b szL (s.drop i)=⟨0,[],0,R,112⟩:=by
      unfold a1b;rw[hR,if_pos hbr,if_neg (by rw[hb];simp)]
     refine Exists.intro _ (Exists.intro _ (And.intro (hnum _) ?_))
     refine a1q rfl ?_
     show _=_
     rw[hx (by rw[hT];simp),hT]
     simp only[oneOf,a5z,dgD,List.map_nil,Int.natCast_add]
     try rfl
   ·refine a7v hlt ?_
    refine Exists.intro _ (Exists.intro _ (And.intro (c0s _ _) ?_))
    have h95:s[i]≠95:=by rw[ne_eq,f9d];show ¬ s[i].toNat=95;have:=of_decide_eq_false ha;omega
    cases hLt:isL s[i] with
    |true=>
     have hnm:0 < R/\(s.drop i).take R≠[95]:=⟨hR0.2 (by unfold c0l;rw[hLt,Bool.true_or]),hR2 h95⟩
     repeat' (first|refine a1q rfl ?_|refine And.intro (fun _=>?_) (fun e=>by cases e))
     have hnb:¬ (0 < R/\isD (hd0 (s.drop i))=true):=by rw[hh0,h4];simp
     have hnam:=fun H:Hp=>d9q (fx:=fx) (F:=F) H s hs i om
     unfold g7c at hnam
     rw[hR]at hnam
     by_cases h64:64 < R
     ·simp only[h64,if_true]at hnam
      have hT:a1b szL (s.drop i)=⟨0,[],0,R,2⟩:=by
       unfold a1b;rw[hR,if_neg hnb,if_pos hnm,if_pos h64]
      refine Exists.intro _ (Exists.intro _ (And.intro (hnam _) ?_))
      refine a1q rfl ?_
      show _=_
      rw[hx (by rw[hT];simp),hT]
      simp only[oneOf,a5z,dgD,List.map_nil,Int.natCast_add]
      try rfl
     ·simp only[h64,if_false]at hnam
      have hT:a1b szL (s.drop i)=⟨if b7n ((s.drop i).take R) then 2 else 1,(s.drop i).take R,0,R,0⟩:=by
       unfold a1b;rw[hR,if_neg hnb,if_pos hnm,if_neg h64]
      refine Exists.intro _ (Exists.intro _ (And.intro (hnam _) ?_))
      refine a1v rfl ?_
      have hn:=hn (by rw[hT])
      rw[hT]at hn
      have hk:=hk (by rw[hT])
      rw[hT]at hk
      simp only at hn hk
      have hsl:=a2e false (s.drop (i+R))
      rw[List.length_drop]at hsl
      refine And.intro ⟨rfl,by decide⟩ ?_
      refine And.intro ⟨rfl,by simp,⟨by simp;omega,by simp;omega⟩⟩ ?_
      refine Exists.intro _ (Exists.intro _ (And.intro (bl R om _ rfl _) ?_))
      refine⟨(_,_),hn,by simp only;omega,?_,?_⟩
      ·simp
      ·simp[TokQ.D,tkD,dg0]
    |false=>
     have hnm:¬ (0 < R/\(s.drop i).take R≠[95]):=fun e=>by
       have:=hR0.1 e.1
       unfold c0l at this;rw[hLt,h4]at this;cases this
     repeat' (first|refine a1v rfl ?_|refine And.intro (fun e=>by cases e) (fun _=>?_))
     have hnb:¬ (0 < R/\isD (hd0 (s.drop i))=true):=by rw[hh0,h4];simp
     refine Exists.intro _ (Exists.intro _ (And.intro (c3s _ s i hlt om) ?_))
     by_cases hsg:a2l (s.drop i)=[]
     ·have hT:a1b szL (s.drop i)=⟨0,[],0,szL (s.drop i),111⟩:=by
       unfold a1b;rw[hR,if_neg hnb,if_neg hnm,if_neg (fun e=>e hsg)]
      refine a1v (by simp[hsg]) ?_
      refine Exists.intro _ (Exists.intro _ (And.intro (d5d _ s hs2 i hlt) ?_))
      refine Exists.intro _ (Exists.intro _ (And.intro (b7f _ 111 _ _) ?_))
      rw[show IntKind.i64.wrap ((i:Int)+(szL (s.drop i):Int))=((i+szL (s.drop i):Nat):Int)by rw[a2x om];omega]
      refine a1q rfl ?_
      show _=_
      rw[hx (by rw[hT];simp),hT]
      simp only[oneOf,a5z,dgD,List.map_nil,Int.natCast_add]
      try rfl
     ·have hT:a1b szL (s.drop i)=⟨4,a2l (s.drop i),0,(a2l (s.drop i)).length,0⟩:=by
       unfold a1b;rw[hR,if_neg hnb,if_neg hnm,if_pos hsg]
      have hsl2:(a2l (s.drop i)).length<=s.length - i:=by have:=hk (by rw[hT]);rw[hT]at this;exact this.2
      refine a1q (by simp[hsg]) ?_
      refine Exists.intro _ (Exists.intro _ (And.intro (c3s _ s i hlt om) ?_))
      have ews:IntKind.i64.wrap ((i:Int)+((a2l (s.drop i)).length:Int))=((i+(a2l (s.drop i)).length:Nat):Int):=by rw[a2x om];omega
      refine a1v rfl ?_
      have hn:=hn (by rw[hT])
      rw[hT]at hn
      have hk:=hk (by rw[hT])
      rw[hT]at hk
      simp only at hn hk
      have hsl:=a2e false (s.drop (i+(a2l (s.drop i)).length))
      rw[List.length_drop]at hsl
      refine And.intro ⟨rfl,by decide⟩ ?_
      refine And.intro ⟨rfl,by simp,⟨by simp;omega,by simp;omega⟩⟩ ?_
      refine Exists.intro _ (Exists.intro _ (And.intro (bl (a2l (s.drop i)).length hsl2 _ ews _) ?_))
      refine⟨(_,_),hn,by simp only;omega,?_,?_⟩
      ·simp
      ·simp[TokQ.D,tkD,dg0,ews]
 ·replace hl:=of_decide_eq_false hl
  have hf:=hh.fin om
  refine And.intro ⟨rfl,by decide⟩ ?_
  refine And.intro ⟨rfl,by simp,⟨by simp;omega,by simp;omega⟩⟩ ?_
  refine And.intro (by simp) ?_
  show _=_
  rw[hf]
  simp[oneOf,a5z,dgD,TokQ.D,tkD,Dg.ok]
end
end Go.Vm.Lex
namespace Go.Proofs
open Go.Shelf
def Tryz.d7w:Go.Shelf.Ren:=⟨fun|137=>100|217=>121|266=>131|n=>n,fun|9=>9|5=>5|3=>3|n=>n,fun|n=>n⟩
theorem Tryz.g1r:Go.Proofs.Lays.n137 Tryz.prog Tryz.d7w:={
  mixed:=kr
  f137:=Tryz.func100.trans (congrArg some kr)
  f217:=Tryz.func121.trans (congrArg some kr)
  f266:=Tryz.func131.trans (congrArg some kr)
  t3:=Tryz.underlying3
  a3:=Tryz.isAgg3
  z3:=Tryz.sizeOf3
  v3:=Tryz.zeroValue3
  t5:=Tryz.underlying5
  a5:=Tryz.isAgg5
  z5:=Tryz.sizeOf5
  v5:=Tryz.zeroValue5
  t9:=Tryz.underlying9
  a9:=Tryz.isAgg9
  z9:=Tryz.sizeOf9
  v9:=Tryz.zeroValue9 }
open Go.RowKit in
theorem Tryz.strings_IndexByte (s:ByteArray) (c:Int) (w:World):
 Calls Tryz.prog 100 #[.string s,.int .u8 c] w fun e w'=>e= .returned (.int .i64 (Lib.indexByte s.data.toList c.toNat.toUInt8))/\w'=w:=Any.strings_IndexByte Tryz.g1r s c w
def Tryz.d2i:Go.Shelf.Ren:=⟨fun|14=>124|16=>132|17=>133|19=>141|20=>142|21=>143|22=>144|23=>145|24=>146|25=>157|27=>159|26=>158|28=>164|29=>168|30=>169|31=>170|32=>171|33=>172|35=>174|34=>173|36=>175|37=>176|38=>177|39=>178|40=>179|n=>n,fun|9=>9|3=>3|22=>109|24=>67|25=>141|4=>4|34=>149|5=>5|36=>144|37=>80|0=>0|39=>151|21=>21|44=>155|47=>159|50=>162|48=>160|2=>2|52=>165|55=>168|59=>170|60=>171|20=>20|61=>172|65=>176|66=>177|67=>113|n=>n,fun|0=>4|1=>5|2=>6|3=>7|4=>8|n=>n⟩
theorem Tryz.d0n:Go.Proofs.LaysPu.n14 Tryz.prog Tryz.d2i:={
  mixed:=kr
  f14:=Tryz.func124.trans (congrArg some kr)
  f16:=Tryz.func132.trans (congrArg some kr)
  f17:=Tryz.func133.trans (congrArg some kr)
  f19:=Tryz.func141.trans (congrArg some kr)
  f20:=Tryz.func142.trans (congrArg some kr)
  f21:=Tryz.func143.trans (congrArg some kr)
  f22:=Tryz.func144.trans (congrArg some kr)
  f23:=Tryz.func145.trans (congrArg some kr)
  f24:=Tryz.func146.trans (congrArg some kr)
  f25:=Tryz.func157.trans (congrArg some kr)
  f26:=Tryz.func158.trans (congrArg some kr)
  f27:=Tryz.func159.trans (congrArg some kr)
  f28:=Tryz.func164.trans (congrArg some kr)
  f29:=Tryz.func168.trans (congrArg some kr)
  f30:=Tryz.func169.trans (congrArg some kr)
  f31:=Tryz.func170.trans (congrArg some kr)
  f32:=Tryz.func171.trans (congrArg some kr)
  f33:=Tryz.func172.trans (congrArg some kr)
  f34:=Tryz.func173.trans (congrArg some kr)
  f35:=Tryz.func174.trans (congrArg some kr)
  f36:=Tryz.func175.trans (congrArg some kr)
  f37:=Tryz.func176.trans (congrArg some kr)
  f38:=Tryz.func177.trans (congrArg some kr)
  f39:=Tryz.func178.trans (congrArg some kr)
  f40:=Tryz.func179.trans (congrArg some kr)
  t0:=Tryz.underlying0
  a0:=Tryz.isAgg0
  z0:=Tryz.sizeOf0
  v0:=Tryz.zeroValue0
  i0:=kr
  t2:=Tryz.underlying2
  a2:=Tryz.isAgg2
  z2:=Tryz.sizeOf2
  v2:=Tryz.zeroValue2
  i2:=kr
  t3:=Tryz.underlying3
  a3:=Tryz.isAgg3
  z3:=Tryz.sizeOf3
  v3:=Tryz.zeroValue3
  i3:=kr
  t4:=Tryz.underlying4
  a4:=Tryz.isAgg4
  z4:=Tryz.sizeOf4
  v4:=Tryz.zeroValue4
  i4:=kr
  t5:=Tryz.underlying5
  a5:=Tryz.isAgg5
  z5:=Tryz.sizeOf5
  v5:=Tryz.zeroValue5
  i5:=kr
  t9:=Tryz.underlying9
  a9:=Tryz.isAgg9
  z9:=Tryz.sizeOf9
  v9:=Tryz.zeroValue9
  i9:=kr
  t20:=Tryz.underlying20
  a20:=Tryz.isAgg20
  z20:=Tryz.sizeOf20
  v20:=Tryz.zeroValue20
  i20:=kr
  t21:=Tryz.underlying21
  a21:=Tryz.isAgg21
  z21:=Tryz.sizeOf21
  v21:=Tryz.zeroValue21
  i21:=kr
  t22:=Tryz.underlying109
  a22:=Tryz.isAgg109
  z22:=Tryz.sizeOf109
  v22:=Tryz.zeroValue109
  i22:=kr
  t24:=Tryz.underlying67
  a24:=Tryz.isAgg67
  z24:=Tryz.sizeOf67
  v24:=Tryz.zeroValue67
  i24:=kr
  t25:=Tryz.underlying141
  a25:=Tryz.isAgg141
  z25:=Tryz.sizeOf141
  v25:=Tryz.zeroValue141
  i25:=kr
  t34:=Tryz.underlying149
  a34:=Tryz.isAgg149
  z34:=Tryz.sizeOf149
  v34:=Tryz.zeroValue149
  i34:=kr
  c34:=kr
  t36:=Tryz.underlying144
  a36:=Tryz.isAgg144
  z36:=Tryz.sizeOf144
  v36:=Tryz.zeroValue144
  i36:=kr
  t37:=Tryz.underlying80
  a37:=Tryz.isAgg80
  z37:=Tryz.sizeOf80
  v37:=Tryz.zeroValue80
  i37:=kr
  t39:=Tryz.underlying151
  a39:=Tryz.isAgg151
  z39:=Tryz.sizeOf151
  v39:=Tryz.zeroValue151
  i39:=kr
  t44:=Tryz.underlying155
  a44:=Tryz.isAgg155
  z44:=Tryz.sizeOf155
  v44:=Tryz.zeroValue155
  i44:=kr
  t47:=Tryz.underlying159
  a47:=Tryz.isAgg159
  z47:=Tryz.sizeOf159
  v47:=Tryz.zeroValue159
  i47:=kr
  t48:=Tryz.underlying160
  a48:=Tryz.isAgg160
  z48:=Tryz.sizeOf160
  v48:=Tryz.zeroValue160
  i48:=kr
  t50:=Tryz.underlying162
  a50:=Tryz.isAgg162
  z50:=Tryz.sizeOf162
  v50:=Tryz.zeroValue162
  i50:=kr
  t52:=Tryz.underlying165
  a52:=Tryz.isAgg165
  z52:=Tryz.sizeOf165
  v52:=Tryz.zeroValue165
  i52:=kr
  t55:=Tryz.underlying168
  a55:=Tryz.isAgg168
  z55:=Tryz.sizeOf168
  v55:=Tryz.zeroValue168
  i55:=kr
  t59:=Tryz.underlying170
  a59:=Tryz.isAgg170
  z59:=Tryz.sizeOf170
  v59:=Tryz.zeroValue170
  i59:=kr
  t60:=Tryz.underlying171
  a60:=Tryz.isAgg171
  z60:=Tryz.sizeOf171
  v60:=Tryz.zeroValue171
  i60:=kr
  t61:=Tryz.underlying172
  a61:=Tryz.isAgg172
  z61:=Tryz.sizeOf172
  t65:=Tryz.underlying176
  a65:=Tryz.isAgg176
  z65:=Tryz.sizeOf176
  v65:=Tryz.zeroValue176
  i65:=kr
  t66:=Tryz.underlying177
  a66:=Tryz.isAgg177
  z66:=Tryz.sizeOf177
  v66:=Tryz.zeroValue177
  i66:=kr
  t67:=Tryz.underlying113
  a67:=Tryz.isAgg113
  z67:=Tryz.sizeOf113
  v67:=Tryz.zeroValue113
  i67:=kr
  g0:=kr
  m0:=kr
  g1:=kr
  m1:=kr
  g2:=kr
  m2:=kr
  g3:=kr
  m3:=kr
  g4:=kr
  m4:=kr }
open Go.RowKit in
theorem Tryz.strconv_ParseUint_10_at64_ok (s:ByteArray) (hmax:s.size<=9223372036854775806) (u:Nat) (h:Lib.parseUintB 64 s.data.toList= .ok u) (w:World):
 Calls Tryz.prog 124 #[.string s,.int .i64 10,.int .i64 64] w fun e w'=>e= .returned (.tuple #[.int .u64 u,.nilIface])/\(w'=w\/w'=Lib.bytesWorld w 5 s):=Any.strconv_ParseUint_10_at64_ok Tryz.d0n s hmax u h w
open Go.RowKit in
theorem Tryz.strconv_ParseUint_10_at64_range (s:ByteArray) (hlim:s.size<=281474976710656) (h:Lib.parseUintB 64 s.data.toList= .range) (ev:Value) (w:World) (hv:w.cell? ⟨5,0,none⟩=some ev) (hev:ev= .nilIface\/∃ te pe,ev= .iface te pe):
 Calls Tryz.prog 124 #[.string s,.int .i64 10,.int .i64 64] w fun e w'=> ∃ N,e= .returned (.tuple #[.int .u64 18446744073709551615,.iface 151 (.pointer (some ⟨N,0,none⟩))])/\w.heap.size<=N/\w'.heap[N]? =some (.cells #[.string ⟨#[80,97,114,115,101,85,105,110,116]⟩,.string s,ev] 155 (0,0))/\Below w.heap.size w w':=Any.strconv_ParseUint_10_at64_range Tryz.d0n s hlim h ev w hv hev
def Tryz.c5g:Go.Shelf.Ren:=⟨fun|197=>99|260=>120|n=>n,fun|9=>9|21=>21|3=>3|4=>4|5=>5|105=>114|119=>143|0=>0|46=>144|139=>147|138=>146|n=>n,fun|3=>1|4=>2|n=>n⟩
theorem Tryz.e9m:Go.Proofs.Lays.n197 Tryz.prog Tryz.c5g:={
  mixed:=kr
  f197:=Tryz.func99.trans (congrArg some kr)
  f260:=Tryz.func120.trans (congrArg some kr)
  t0:=Tryz.underlying0
  a0:=Tryz.isAgg0
  z0:=Tryz.sizeOf0
  v0:=Tryz.zeroValue0
  t3:=Tryz.underlying3
  a3:=Tryz.isAgg3
  z3:=Tryz.sizeOf3
  v3:=Tryz.zeroValue3
  t4:=Tryz.underlying4
  a4:=Tryz.isAgg4
  z4:=Tryz.sizeOf4
  v4:=Tryz.zeroValue4
  t5:=Tryz.underlying5
  a5:=Tryz.isAgg5
  z5:=Tryz.sizeOf5
  v5:=Tryz.zeroValue5
  t9:=Tryz.underlying9
  a9:=Tryz.isAgg9
  z9:=Tryz.sizeOf9
  v9:=Tryz.zeroValue9
  t21:=Tryz.underlying21
  a21:=Tryz.isAgg21
  z21:=Tryz.sizeOf21
  v21:=Tryz.zeroValue21
  t46:=Tryz.underlying144
  a46:=Tryz.isAgg144
  z46:=Tryz.sizeOf144
  v46:=Tryz.zeroValue144
  t105:=Tryz.underlying114
  a105:=Tryz.isAgg114
  z105:=Tryz.sizeOf114
  v105:=Tryz.zeroValue114
  t119:=Tryz.underlying143
  a119:=Tryz.isAgg143
  z119:=Tryz.sizeOf143
  t138:=Tryz.underlying146
  a138:=Tryz.isAgg146
  z138:=Tryz.sizeOf146
  v138:=Tryz.zeroValue146
  t139:=Tryz.underlying147
  a139:=Tryz.isAgg147
  z139:=Tryz.sizeOf147
  v139:=Tryz.zeroValue147
  g3:=kr
  g4:=kr }
open Go.RowKit Go.Lib in
theorem Tryz.utf8_DecodeRuneInString (s:ByteArray) (w:World) (hT:Lib.Utf8Tabs 1 2 w):
 Calls Tryz.prog 99 #[.string s] w fun e w'=>e= .returned (.tuple #[.int .i32 (Lib.decodeGo s).1,.int .i64 (Lib.decodeGo s).2])/\Below w.heap.size w w':=Any.utf8_DecodeRuneInString Tryz.e9m s w hT
end Go.Proofs
namespace Go.Proofs.LexUtf
open Go.Vm (b9a)
open Go.RowKit
theorem g4t (s:ByteArray) (f pos:Nat) (h:¬ pos < s.size):b9a s f pos= -1:=by
 cases f with
 |zero=>rfl
 |succ f=>simp[b9a,h]
theorem f6v (s:ByteArray) (pos:Nat) (h:pos < s.size):Lib.decodeGo (s.extract pos s.size)=Utf8.decode s pos:=by
 have hg:∀ k,(s.extract pos s.size).get! (0+k)=s.get! (pos+k):=by
  intro k
  show(s.extract pos s.size).data[0+k]! =s.data[pos+k]!
  rw[getElem!_def,getElem!_def]
  have:(s.extract pos s.size).data[0+k]? =s.data[pos+k]? :=by
   rw[ByteArray.data_extract,Array.getElem?_extract]
   rw[Nat.zero_add]
   by_cases hk:k < s.data.size - pos
   ·rw[if_pos (by show k < min s.size s.data.size - pos;have:s.size=s.data.size:=rfl;omega)]
   ·rw[if_neg (by show ¬ k < min s.size s.data.size - pos;have:s.size=s.data.size:=rfl;omega),Array.getElem?_eq_none om]
  rw[this]
 have hsz:(s.extract pos s.size).size=s.size - pos:=by simp
 have hne:¬ (s.extract pos s.size).size=0:=om
 unfold Lib.decodeGo
 rw[if_neg hne,Lib.decode_at,Lib.decode_at,hsz]
 have h0:=hg 0
 simp only[Nat.add_zero,Nat.sub_zero]at h0⊢
 rw[h0,hg 1,hg 2,hg 3]
set_option maxHeartbeats 2000000 in
set_option maxRecDepth 1000000 in
theorem walk (s:ByteArray) (w:World) (hT:Lib.Utf8Tabs 1 2 w):
 Calls Tryz.prog 70 #[.string s] w fun e w'=>e= .returned (.int .i64 (b9a s s.size 0))/\Below w.heap.size w w':=by
 go_enter Tryz.func70,Tryz.ntmps70
 go_wp2
 go_loopg [] s.size (fun gf wx=> ∃ pos:Nat,wx.heap[w.heap.size]? =some (.stringIter s pos)/\Below w.heap.size w wx/\b9a s gf pos=b9a s s.size 0/\s.size<=pos+gf)
 case atStart=>exact⟨0,World.iter_heap w s 0,(Below.refl _ w).alloc (Nat.le_refl _) _,rfl,om⟩
 case round=>
  obtain⟨pos,hit,hbw,hleft,hfu⟩:=hrel
  by_cases hps:pos < s.size
  ·obtain⟨g',rfl⟩:∃ g',gk=g'+1:=⟨gk - 1,om⟩
   have hnx:∀ ty,(Instr.next (.pointer (some ⟨w.heap.size,0,none⟩)) true ty).run Tryz.prog wr=_:=fun ty=>Lib.run_next_any_at wr w.heap.size s pos ty hit hps
   have hwd:=Lib.width_pos s pos
   have hdt:=f6v s pos hps
   have hun:b9a s (g'+1) pos=if Utf8.decode s pos=(65533,1) then(pos:Int) else b9a s g' (pos+(Utf8.decode s pos).2):=by
    show(if pos < s.size then _ else _)=_
    rw[if_pos hps]
   rw[hun]at hleft
   clear hun
   obtain⟨R,hR⟩:∃ R,(Utf8.decode s pos).1=R:=⟨_,rfl⟩
   obtain⟨K,hK⟩:∃ K,(Utf8.decode s pos).2=K:=⟨_,rfl⟩
   have hRK:Utf8.decode s pos=(R,K):=by rw[<-hR,<-hK]
   rw[hRK]at hnx hwd hdt hleft
   clear hR hK hRK
   simp only at hwd hleft
   have hit2:=Lib.iterAt_heap wr w.heap.size s pos (pos+K) hit
   have hbw2:=Lib.below_iterAt hbw (k:=w.heap.size) (Nat.le_refl _) s (pos+K)
   obtain⟨W,hWd⟩:∃ W,wr.iterAt w.heap.size s (pos+K)=W:=⟨_,rfl⟩
   simp only at hnx
   rw[hWd]at hnx hit2 hbw2
   have hltW:w.heap.size < W.heap.size:=(Array.getElem?_eq_some_iff.1 hit2).1
   have hTW:Lib.Utf8Tabs 1 2 W:=by
    exact Utf8Tabs_below hT hbw2
   have cS:=Tryz.utf8_DecodeRuneInString (s.extract pos s.size) W hTW
   rw[hdt]at cS
   clear hdt hTW hT hWd
   go_wp2_with (go_at_call 99;refine cS.mono ?_;rintro e W' ⟨rfl,hbc⟩)
   ·have e:(R,K)=(65533,1):=by
     have h1:(R:Int)=65533:=by simpa using(show((R:Int)==65533)=true by assumption)
     have h2:(K:Int)=1:=by simpa using(show((K:Int)==1)=true by assumption)
     rw[Prod.mk.injEq];omega
    rw[if_pos e]at hleft
    go_ret
    exact⟨by rw[<-hleft]<;>rfl,hbw2.trans (hbc.mono hbw2.size)⟩
   ·have e:¬ (R,K)=(65533,1):=by
     have h2:¬ (K:Int)=1:=by simpa using(show((K:Int)==1)=false by assumption)
     rw[Prod.mk.injEq];omega
    rw[if_neg e]at hleft
    go_roundg g'
    case measure=>omega
    case rel=>exact⟨pos+K,(hbc.block _ hltW).trans hit2,hbw2.trans (hbc.mono hbw2.size),hleft,om⟩
   ·have e:¬ (R,K)=(65533,1):=by
     have h1:¬ (R:Int)=65533:=by simpa using(show((R:Int)==65533)=false by assumption)
     rw[Prod.mk.injEq];omega
    rw[if_neg e]at hleft
    go_roundg g'
    case measure=>omega
    case rel=>exact⟨pos+K,hit2,hbw2,hleft,om⟩
  ·have hnx:∀ ty,(Instr.next (.pointer (some ⟨w.heap.size,0,none⟩)) true ty).run Tryz.prog wr=_:=fun ty=>Lib.run_next_end_at wr w.heap.size s pos ty hit hps
   rw[g4t s gk pos hps]at hleft
   go_wp2
   go_ret
   exact⟨by rw[<-hleft]<;>rfl,hbw⟩
end Go.Proofs.LexUtf
namespace Go.Vm.Pj
open Go Go.Proofs Go.RowKit Go.Extern.Stop Go.Stop Go.Extern
theorem h1e (t:Value) (w:World):
 Calls Tryz.prog 42 #[.nilIface,t] w fun e w'=>e= .returned (.bool false)/\w'=w:=by
 go_enter Tryz.func42,Tryz.ntmps42
 go_wp2
 go_ret
 exact⟨rfl,rfl⟩
abbrev h7p (c f e:Int):Value:= .agg #[.int .i64 c,.int .i64 f,.int .i64 e]
abbrev cells3 (c f e:Int):Array Value:= #[.int .i64 c,.int .i64 f,.int .i64 e]
theorem f0o (t:Addr) (w:World):(ReflectliteValue.unpack (.iface 69 (.pointer (some t)))).run Tryz.prog w
 = .ok (.agg #[.pointer (some ⟨9,69,none⟩),.pointer (some ⟨w.heap.size,0,none⟩),.int .u64 150]) (w.alloc (.cells #[.pointer (some t)] 69)):=kr
theorem h2f (a:Addr) (w:World):(ReflectliteValue.methodAny (ReflectliteValue.valueError "reflectlite.Value.Type" 0) (fun t _ _ _=>ReflectliteType.toType t) #[.agg #[.pointer (some ⟨9,69,none⟩),.pointer (some a),.int .u64 150]]).run Tryz.prog w
    = .ok (.iface 122 (.agg #[.pointer (some ⟨9,69,none⟩)])) w:=kr
theorem e2j (h:Value) (w:World):(Go.method 304 122 (.agg #[h]) "Kind").run Tryz.prog w= .ok (194,h) w:=kr
theorem g8v (w:World):((ReflectliteType.abiMethod fun t=>Functor.map (fun a:Nat=>Value.int IntKind.u8 (a:Int)) (Rtype.kind t)) #[.pointer (some ⟨9,69,none⟩)]).run Tryz.prog w= .ok (.int .u8 22) w:=kr
theorem g9j (w:World):((ReflectliteType.abiMethod fun t=>Functor.map (fun a:Nat=>Value.int IntKind.u8 (a:Int)) (Rtype.kind t)) #[.pointer (some ⟨9,64,none⟩)]).run Tryz.prog w= .ok (.int .u8 25) w:=kr
theorem rlm (z:Sem Value) (f:TypeId->Addr->Nat->Nat->Sem Value) (v:Value):
 ReflectliteValue.method z f #[v]=(do match<-ReflectliteValue.parts v with|none=>z|some (t,a,fl)=>f t a fl (fl % 32)):=rfl
theorem f0v (a:Addr) (w:World):(ReflectliteValue.parts (.agg #[.pointer (some ⟨9,69,none⟩),.pointer (some a),.int .u64 150])).run Tryz.prog w= .ok (some (69,a,150)) w:=kr
theorem g3o (a p:Addr) (W:World) (ha:W.cell? a=some (.pointer (some p))):
 (ReflectliteValue.method (ReflectliteValue.valueError "reflectlite.Value.IsNil" 0) ReflectliteValue.isNil #[.agg #[.pointer (some ⟨9,69,none⟩),.pointer (some a),.int .u64 150]]).run Tryz.prog W= .ok (.bool false) W:=by
 rw[rlm]
 simp only[Sem.run_bind,f0v,Result.andThen]
 simp[ReflectliteValue.isNil,loadVar,isAgg,underlying,Tryz.underlying69,ha,Result.andThen]
theorem e2g (h:Value) (w:World):(Go.method 304 122 (.agg #[h]) "Elem").run Tryz.prog w= .ok (206,.agg #[h]) w:=kr
theorem c2u (h:Value) (w:World):(Go.method 304 122 (.agg #[h]) "Implements").run Tryz.prog w= .ok (207,.agg #[h]) w:=kr
theorem b9j (h:Value) (w:World):(Go.method 304 122 (.agg #[h]) "AssignableTo").run Tryz.prog w= .ok (204,.agg #[h]) w:=kr
theorem g7y (w:World):(ReflectliteType.method ReflectliteType.elem #[.agg #[.pointer (some ⟨9,69,none⟩)]]).run Tryz.prog w= .ok (.iface 122 (.agg #[.pointer (some ⟨9,64,none⟩)])) w:=kr
theorem d4w (w:World):(ReflectliteType.relation "Implements" ReflectliteType.implements_ #[.agg #[.pointer (some ⟨9,64,none⟩)],.iface 122 (.agg #[.pointer (some ⟨9,67,none⟩)])]).run Tryz.prog w= .ok (.bool true) w:=kr
theorem f6p (v:Value) (w:World):(ReflectliteType.typeOf #[.iface 64 v]).run Tryz.prog w= .ok (.iface 122 (.agg #[.pointer (some ⟨9,64,none⟩)])) w:=kr
theorem d4j (w:World):(ReflectliteType.relation "AssignableTo" ReflectliteType.assignableTo #[.agg #[.pointer (some ⟨9,64,none⟩)],.iface 122 (.agg #[.pointer (some ⟨9,64,none⟩)])]).run Tryz.prog w= .ok (.bool true) w:=kr
theorem e8j (c f e:Int) (w:World):(ReflectliteValue.unpack (.iface 64 (h7p c f e))).run Tryz.prog w
 = .ok (.agg #[.pointer (some ⟨9,64,none⟩),.pointer (some ⟨w.heap.size,0,none⟩),.int .u64 153]) (w.alloc (.cells (cells3 c f e) 64)):=kr
theorem f6m (w:World):(Rtype.elem? 69).run Tryz.prog w= .ok (some 64) w:=kr
theorem mk64 (p:Addr) (w:World):(ReflectliteValue.mk 64 p ReflectliteValue.flagAddr).run Tryz.prog w= .ok (.agg #[.pointer (some ⟨9,64,none⟩),.pointer (some p),.int .u64 409]) w:=kr
theorem g1p (a p:Addr) (W:World) (ha:W.cell? a=some (.pointer (some p))):
 (ReflectliteValue.method (ReflectliteValue.valueError "reflectlite.Value.Elem" 0) ReflectliteValue.elem #[.agg #[.pointer (some ⟨9,69,none⟩),.pointer (some a),.int .u64 150]]).run Tryz.prog W
  = .ok (.agg #[.pointer (some ⟨9,64,none⟩),.pointer (some p),.int .u64 409]) W:=by
 rw[rlm]
 simp only[Sem.run_bind,f0v,Result.andThen]
 simp[ReflectliteValue.elem,loadVar,isAgg,underlying,Tryz.underlying69,ha,Result.andThen,f6m,mk64]
theorem f6e (a:Addr) (w:World):(ReflectliteValue.parts (.agg #[.pointer (some ⟨9,64,none⟩),.pointer (some a),.int .u64 409])).run Tryz.prog w= .ok (some (64,a,409)) w:=kr
theorem f9w (a:Addr) (w:World):(ReflectliteValue.parts (.agg #[.pointer (some ⟨9,64,none⟩),.pointer (some a),.int .u64 153])).run Tryz.prog w= .ok (some (64,a,153)) w:=kr
theorem f2x (w:World):(Rtype.directlyAssignable 64 64).run Tryz.prog w= .ok true w:=kr
theorem f8l (w:World):(sizeOf 64).run Tryz.prog w= .ok 3 w:=kr
theorem h2u (b:Nat) (c f e:Int) (t:TypeId) (fz:Nat×Nat) (W:World) (hb:W.heap[b]? =some (.cells (cells3 c f e) t fz)):(loadVar 64 ⟨b,0,none⟩).run Tryz.prog W= .ok (h7p c f e) W:=by
 have hload:(loadCells ⟨b,0,none⟩ 3).run Tryz.prog W= .ok (cells3 c f e) W:=by
  have:=run_loadCells_list (P:=Tryz.prog) W ⟨b,0,none⟩ [.int .i64 c,.int .i64 f,.int .i64 e] (fun j v hj=>by
    have hadd:(⟨b,0,none⟩:Addr).add j=⟨b,j,none⟩:=by unfold Addr.add;split<;>simp_all
    have hcell:W.cell? ⟨b,j,none⟩=(cells3 c f e)[j]? :=by
     simp[World.cell?,hb]
    rw[hadd,hcell]
    simpa using hj)
  exact this
 have ha:(isAgg 64).run Tryz.prog W= .ok true W:=kr
 simp[loadVar,ha,f8l,hload,Result.andThen]
theorem g4g (b:Nat) (c f e:Int) (cur:Array Value) (t:TypeId) (W:World) (hb:W.heap[b]? =some (.cells cur t (0,0))) (hc:cur.size=3):(storeVar 64 ⟨b,0,none⟩ (h7p c f e)).run Tryz.prog W= .ok () (W.setRow b (cells3 c f e)):=by
 have hst:=run_storeCells_at Tryz.prog b 0 t [.int .i64 c,.int .i64 f,.int .i64 e] 0 cur W hb (by simp[hc]) (by simp;exact⟨rfl,rfl,rfl⟩)
 simp only[storeVar,Sem.run_bind,f8l,Result.andThen]
 rw[if_neg (by show ¬ 3≠3;simp)]
 have hd:List.drop (0+0+[Value.int .i64 c,Value.int .i64 f,Value.int .i64 e].length) cur.toList=[]:=List.drop_eq_nil_of_le (by simp[hc])
 rw[hd]at hst
 exact hst
theorem rls (v x:Value):ReflectliteValue.set #[v,x]=(do
    let(some (dst,a,fl),some (src,b,_)):=(<-ReflectliteValue.parts v,<-ReflectliteValue.parts x)
     |unsupported (.noEntry "extern/(internal/reflectlite.Value).Set.zeroValue")
    if fl / ReflectliteValue.flagAddr % 2==0 then unsupported (.noEntry "extern/(internal/reflectlite.Value).Set.unaddressable")
    let val<-loadVar src b
    if<-Rtype.directlyAssignable dst src then storeVar dst a val
    else if<-Rtype.implements dst src then
     if(<-Rtype.kind src)==20 then
      match val with
      | .nilIface=>unsupported (.noEntry "extern/reflectlite: a nil value of one interface type handed on as a value of another")
      |_=>storeVar dst a val
     else storeVar dst a (.iface src val)
    else panicString ("reflectlite.Set: value of type " ++(<-Rtype.spelt src)++ " is not assignable to type " ++(<-Rtype.spelt dst))
    pure (.tuple #[])):=rfl
theorem h9h (tb b:Nat) (c f e:Int) (cur:Array Value) (t t2:TypeId) (fz:Nat×Nat) (W:World) (hb:W.heap[b]? =some (.cells (cells3 c f e) t2 fz)) (ht:W.heap[tb]? =some (.cells cur t (0,0))) (hc:cur.size=3):
 (ReflectliteValue.set #[.agg #[.pointer (some ⟨9,64,none⟩),.pointer (some ⟨tb,0,none⟩),.int .u64 409],.agg #[.pointer (some ⟨9,64,none⟩),.pointer (some ⟨b,0,none⟩),.int .u64 153]]).run Tryz.prog W
  = .ok (.tuple #[]) (W.setRow tb (cells3 c f e)):=by
 rw[rls]
 simp only[Sem.run_bind,f6e,f9w,Result.andThen]
 simp[ReflectliteValue.flagAddr,h2u b c f e t2 fz W hb,Result.andThen,f2x,g4g tb c f e cur t W ht hc]
set_option maxHeartbeats 4000000 in
theorem h4h (c f e:Int) (tb:Nat) (cur:Array Value) (tt:TypeId) (w:World) (hg:w.cell? ⟨0,0,none⟩=some (.iface 122 (.agg #[.pointer (some ⟨9,67,none⟩)]))) (ht0:w.heap[tb]? =some (.cells cur tt (0,0))) (hcs:cur.size=3):
 Calls Tryz.prog 42 #[.iface 64 (h7p c f e),.iface 69 (.pointer (some ⟨tb,0,none⟩))] w fun ev w'=>ev= .returned (.bool true)/\w'=((((w.alloc (.cells #[.pointer (some ⟨tb,0,none⟩)] 69)).alloc (.cells #[.pointer (some ⟨9,69,none⟩),.pointer (some ⟨w.heap.size,0,none⟩),.int .u64 150] 94)).alloc (.cells #[.pointer (some ⟨9,69,none⟩),.pointer (some ⟨w.heap.size,0,none⟩),.int .u64 150] 94)).alloc (.cells (cells3 c f e) 64)).setRow tb (cells3 c f e):=by
 have h6:= @run_callFunc_extern Tryz.prog 73 _ (fun args=>ReflectliteValue.unpack (args.getD 0 (.tuple #[]))) Tryz.func73 kr kr kr kr
 have h7:= @run_callFunc_extern Tryz.prog 74 _ (ReflectliteValue.methodAny (ReflectliteValue.valueError "reflectlite.Value.Type" 0) (fun t _ _ _=>ReflectliteType.toType t)) Tryz.func74 kr kr kr kr
 have h8:= @run_callFunc_extern Tryz.prog 75 _ (ReflectliteValue.method (ReflectliteValue.valueError "reflectlite.Value.IsNil" 0) ReflectliteValue.isNil) Tryz.func75 kr kr kr kr
 have h27:= @run_callFunc_extern Tryz.prog 194 _ (ReflectliteType.abiMethod fun t=>do pure (.int .u8 (<-Rtype.kind t))) Tryz.func194 kr kr kr kr
 have h37:= @run_callFunc_extern Tryz.prog 206 _ (ReflectliteType.method ReflectliteType.elem) Tryz.func206 kr kr kr kr
 have h38:= @run_callFunc_extern Tryz.prog 207 _ (ReflectliteType.relation "Implements" ReflectliteType.implements_) Tryz.func207 kr kr kr kr
 have h10:= @run_callFunc_extern Tryz.prog 107 _ ReflectliteType.typeOf Tryz.func107 kr kr kr kr
 have h35:= @run_callFunc_extern Tryz.prog 204 _ (ReflectliteType.relation "AssignableTo" ReflectliteType.assignableTo) Tryz.func204 kr kr kr kr
 have h11:= @run_callFunc_extern Tryz.prog 108 _ (ReflectliteValue.method (ReflectliteValue.valueError "reflectlite.Value.Elem" 0) ReflectliteValue.elem) Tryz.func108 kr kr kr kr
 have h12:= @run_callFunc_extern Tryz.prog 109 _ ReflectliteValue.set Tryz.func109 kr kr kr kr
 have tO:=f6p
 have mA:=b9j
 have a64:=d4j
 have v64:=e8j
 have f6:=f0o
 have f7:=h2f
 have mK:=e2j
 have mE:=e2g
 have mI:=c2u
 have k69:=g8v
 have k64:=g9j
 have e69:=g7y
 have i64:=d4w
 have n8:=g3o ⟨w.heap.size,0,none⟩ ⟨tb,0,none⟩ ((w.alloc (.cells #[.pointer (some ⟨tb,0,none⟩)] 69)).alloc (.cells #[.pointer (some ⟨9,69,none⟩),.pointer (some ⟨w.heap.size,0,none⟩),.int .u64 150] 94)) (by simp)
 have hlt:0 < w.heap.size:=by
  rcases Nat.eq_zero_or_pos w.heap.size with h0|h
  ·simp[World.cell?,h0]at hg
  ·exact h
 have hg2:((w.alloc (.cells #[.pointer (some ⟨tb,0,none⟩)] 69)).alloc (.cells #[.pointer (some ⟨9,69,none⟩),.pointer (some ⟨w.heap.size,0,none⟩),.int .u64 150] 94)).cell? ⟨0,0,none⟩=some (.iface 122 (.agg #[.pointer (some ⟨9,67,none⟩)])):=by
  rw[World.cell?_alloc_lt _ _ ⟨0,0,none⟩ (by simp),World.cell?_alloc_lt _ _ ⟨0,0,none⟩ hlt];exact hg
 have htl:tb < w.heap.size:=by
  rcases Nat.lt_or_ge tb w.heap.size with h|h
  ·exact h
  ·rw[Array.getElem?_eq_none h]at ht0;cases ht0
 have el:=g1p ⟨w.heap.size,0,none⟩ ⟨tb,0,none⟩ (((w.alloc (.cells #[.pointer (some ⟨tb,0,none⟩)] 69)).alloc (.cells #[.pointer (some ⟨9,69,none⟩),.pointer (some ⟨w.heap.size,0,none⟩),.int .u64 150] 94)).alloc (.cells #[.pointer (some ⟨9,69,none⟩),.pointer (some ⟨w.heap.size,0,none⟩),.int .u64 150] 94)) (by rw[World.cell?_alloc_lt _ _ ⟨w.heap.size,0,none⟩ (by simp;omega)];simp)
 have st:=h9h tb (w.heap.size+1+1+1) c f e cur tt 64 (0,0) ((((w.alloc (.cells #[.pointer (some ⟨tb,0,none⟩)] 69)).alloc (.cells #[.pointer (some ⟨9,69,none⟩),.pointer (some ⟨w.heap.size,0,none⟩),.int .u64 150] 94)).alloc (.cells #[.pointer (some ⟨9,69,none⟩),.pointer (some ⟨w.heap.size,0,none⟩),.int .u64 150] 94)).alloc (.cells (cells3 c f e) 64))
  (by
    have:=heap_alloc_new (((w.alloc (.cells #[.pointer (some ⟨tb,0,none⟩)] 69)).alloc (.cells #[.pointer (some ⟨9,69,none⟩),.pointer (some ⟨w.heap.size,0,none⟩),.int .u64 150] 94)).alloc (.cells #[.pointer (some ⟨9,69,none⟩),.pointer (some ⟨w.heap.size,0,none⟩),.int .u64 150] 94)) (.cells (cells3 c f e) 64)
    simpa using this)
  (by rw[heap_alloc_old _ _ (by simp;omega),heap_alloc_old _ _ (by simp;omega),heap_alloc_old _ _ (by simp;omega),heap_alloc_old _ _ htl];exact ht0) hcs
 go_enter Tryz.func42,Tryz.ntmps42
 go_wp2
 refine wp_loop_rounds 1 ?_
 rw[rounds_succ]
 go_wp2
 go_ret
 exact⟨rfl,rfl⟩
end Go.Vm.Pj
namespace Go.Vm.Tp
open Go.Vm.Lex
structure Nd where
 k:Int
 t:List UInt8
 v:Int
 kids:List Int
 f:Int
 e:Int
def Nd.D (x:Nd):D:= .agg [.int .i64 x.k,.str x.t,.int .i64 x.v,.sl (x.kids.map (D.int .i64)),.int .i64 x.f,.int .i64 x.e]
def c0y (t:List Nd):D:= .agg [.sl (t.map Nd.D)]
instance:Inhabited Nd:=⟨⟨0,[],0,[],0,0⟩⟩
def I64 (n:Int):Prop:= -9223372036854775808<=n/\n<=9223372036854775807
def params (ks:List Int):Int:=(ks.filter fun k=>decide (k=7)).length
end Go.Vm.Tp
