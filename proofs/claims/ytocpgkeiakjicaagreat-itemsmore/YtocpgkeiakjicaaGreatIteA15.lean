import Derived.Test.YtocpgkeiakjicaaGreatItlW7
import Derived.Test.YtocpgkeiakjicaaGreatTreP
import Derived.Test.YtocpgkeiakjicaaGreatIteL
set_option maxRecDepth 100000
set_option linter.unusedVariables false
set_option linter.unusedSimpArgs false
namespace Go.Vm.Lex
open Go.Vm.Ite
theorem a0j {b:Bool} {X Y:Prop} (h:b=true) (x:X):(b=true->X)/\(b=false->Y):=⟨fun _=>x,fun e=>by rw[h]at e;cases e⟩
theorem a0h {b:Bool} {X Y:Prop} (h:b=false) (y:Y):(b=true->X)/\(b=false->Y):=⟨fun e=>by(rw[h]at e;cases e),fun _=>y⟩
theorem a4s {b:Bool} {X Y:Prop} (h:b=true) (x:X):(b=false->Y)/\(b=(!false)->X):=⟨fun e=>by(rw[h]at e;cases e),fun _=>x⟩
theorem a3u {b:Bool} {X Y:Prop} (h:b=false) (y:Y):(b=false->Y)/\(b=(!false)->X):=⟨fun _=>y,fun e=>by(rw[h]at e;cases e)⟩
def Hid (p:Prop):Prop:=p
theorem e2h {s:List UInt8} {a i:Nat} (hm:s.length<=4611686018427387904) (h:a+i < s.length) {k:UInt8->Prop} (hk:k s[a+i]):∃ c,(0<=IntKind.i64.wrap ((a:Int)+(i:Int))/\s[(IntKind.i64.wrap ((a:Int)+(i:Int))).toNat]? =some c)/\k c:=by
 rw[a1k om]
 exact⟨_,⟨om,by rw[show((a:Int)+i).toNat=a+i by omega,List.getElem?_eq_getElem h]⟩,hk⟩
section
variable {fx:Nat->Option Obj} {F:Nat->Option a0x} (H:Hp)
set_option maxHeartbeats 4000000 in
theorem d8u (s:List UInt8) (hs:s.length<=4611686018427387904) (a:Nat) (ha:a < s.length):evF (pgL fx F) d5k [str s,i64 a] H=some (i64 (szL (s.drop a)),H):=by
 have hd:s.drop a=s[a]::s.drop (a+1):=List.drop_eq_getElem_cons ha
 have hne:s.drop a≠[]:=by rw[hd];exact List.cons_ne_nil _ _
 have h0:hd0 (s.drop a)=s[a]:=by rw[hd];rfl
 have hlen:(s.drop a).length=s.length - a:=List.length_drop ..
 have h1:∀ h:a+1 < s.length,hd1 (s.drop a)=s[a+1]:=by
  intro h
  rw[hd,List.drop_eq_getElem_cons h];rfl
 have hlt:=s[a].toNat_lt
 clear h0 hne
 refine a1p (d5d (F:=F)) rfl rfl ?_ H
 refine a5u ha ?_
 generalize hc:s[a].toNat=c at*
 have hz:szL (s.drop a)=(if c < 128 then 1 else if szN s[a]=0 then 0 else if s.length - a < szN s[a]\/(hd1 (s.drop a)).toNat < c7u s[a]\/d2i s[a] < (hd1 (s.drop a)).toNat then 0 else if(((s.drop a).take (szN s[a])).drop 2).all a1v then szN s[a] else 0):=by
  unfold szL
  have hne:s.drop a≠[]:=by rw[hd];exact List.cons_ne_nil _ _
  have h0:hd0 (s.drop a)=s[a]:=by rw[hd];rfl
  rw[if_neg hne,h0,hc,hlen]
 by_cases c1:c < 128
 ·rw[if_pos c1]at hz
  refine And.intro (fun h=>?_) (fun h=>?_)
  ·show _=_
   rw[hz];rfl
  ·have:=of_decide_eq_false h;omega
 rw[if_neg c1]at hz
 have ew:IntKind.i64.wrap ((a:Int)+1)=(a:Int)+1:=a1k om
 clear hd
 have hsplit:c < 194\/244 < c\/(194<=c/\c<=223)\/c=224\/(225<=c/\c<=239/\c≠237)\/c=237\/c=240\/(241<=c/\c<=243)\/c=244:=by clear hz;omega
 replace hz:Hid (szL (s.drop a)=_):=hz
 rcases hsplit with hc2|hc2|hc2|hc2|hc2|hc2|hc2|hc2|hc2
 ·have hN:szN s[a]=0:=by unfold szN;rw[hc,if_neg om,if_neg om,if_neg om]
  repeat' (first
    |refine a0h (decide_eq_false om) ?_
    |refine a0j (decide_eq_true om) ?_
    |refine a0h rfl ?_
    |refine a0j rfl ?_)
  unfold Hid at hz
  rw[if_pos hN]at hz
  show _=_
  rw[hz];rfl
 ·have hN:szN s[a]=0:=by unfold szN;rw[hc,if_neg om,if_neg om,if_neg om]
  repeat' (first
    |refine a0h (decide_eq_false om) ?_
    |refine a0j (decide_eq_true om) ?_
    |refine a0h rfl ?_
    |refine a0j rfl ?_)
  unfold Hid at hz
  rw[if_pos hN]at hz
  show _=_
  rw[hz];rfl
 ·have hN:szN s[a]=2:=by unfold szN;rw[hc,if_pos om]
  have hLo:c7u s[a]=128:=by unfold c7u;rw[hc,if_neg om,if_neg om]
  have hHi:d2i s[a]=191:=by unfold d2i;rw[hc,if_neg om,if_neg om]
  have en:IntKind.i64.wrap ((a:Int)+2)=(a:Int)+2:=a1k om
  unfold Hid at hz
  rw[hN,if_neg (by clear hz;omega),hLo,hHi]at hz
  clear hN hLo hHi
  have hz2:(s.length - a < 2->szL (s.drop a)=0)/\(¬ s.length - a < 2->((hd1 (s.drop a)).toNat < 128\/191 < (hd1 (s.drop a)).toNat)->szL (s.drop a)=0)/\(¬ s.length - a < 2->¬ ((hd1 (s.drop a)).toNat < 128\/191 < (hd1 (s.drop a)).toNat)->szL (s.drop a)=if(((s.drop a).take 2).drop 2).all a1v then 2 else 0):=
   ⟨fun h=>by rw[hz,if_pos (.inl h)],fun h h'=>by rw[hz,if_pos (.inr h')],fun h h'=>by rw[hz,if_neg (by intro e;rcases e with e|e;exact h e;exact h' e)]⟩
  clear hz
  obtain⟨z1,z2,z3⟩:=hz2
  replace z1:Hid _:=z1
  replace z2:Hid _:=z2
  replace z3:Hid _:=z3
  repeat' (first
    |refine a0h (decide_eq_false om) ?_
    |refine a0j (decide_eq_true om) ?_
    |refine a0h rfl ?_
    |refine a0j rfl ?_)
  by_cases hL:s.length < a+2
  ·refine a4s (decide_eq_true om) ?_
   refine a4s rfl ?_
   refine a0j rfl ?_
   show _=_
   rw[show szL (s.drop a)=0 from z1 om];rfl
  have hlt1:a+1 < s.length:=om
  rw[h1 hlt1]at z2 z3
  refine a3u (decide_eq_false om) ?_
  refine d6e om hlt1 ?_
  generalize hb:s[a+1].toNat=b at z2 z3
  by_cases hb1:b < 128
  ·refine a4s (decide_eq_true om) ?_
   refine a0j rfl ?_
   show _=_
   rw[show szL (s.drop a)=0 from z2 om om];rfl
  refine a3u (decide_eq_false om) ?_
  refine d6e om hlt1 ?_
  by_cases hb2:191 < b
  ·refine a0j (decide_eq_true om) ?_
   show _=_
   rw[show szL (s.drop a)=0 from z2 om om];rfl
  refine a0h (decide_eq_false om) ?_
  have hz:szL (s.drop a)=if(((s.drop a).take 2).drop 2).all a1v then 2 else 0:=z3 om om
  clear z1 z2 z3
  clear h1
  refine wp_loop (α:=Nat) (fun i=>2 - i) (fun i=>[(0,str s),(1,i64 a),(6,i64 2),(9,i64 i)]) (fun _=>[]) (fun i=>2<=i/\i<=2/\(((s.drop a).take i).drop 2).all a1v=true) ?_ 2 ⟨om,om,by simp⟩
  rintro i ⟨hi1,hi2,hall⟩
  replace hz:Hid _:=hz
  refine And.intro (fun hl=>?_) (fun hl=>?_)
  ·replace hl:=of_decide_eq_true hl
   have hlt:a+i < s.length:=om
   have hget:(s.drop a)[i]? =some s[a+i]:=by rw[List.getElem?_drop,List.getElem?_eq_getElem hlt]
   have bad:a1v s[a+i]=false->szL (s.drop a)=0:=by
    intro hcb
    unfold Hid at hz
    rw[hz,if_neg]
    intro hall2
    have hmem:s[a+i]∈((s.drop a).take 2).drop 2:=List.mem_iff_getElem?.2 ⟨i - 2,by
      rw[List.getElem?_drop,show 2+(i - 2)=i by omega,List.getElem?_take,if_pos om];exact hget⟩
    have:=List.all_eq_true.1 hall2 _ hmem
    rw[hcb]at this;cases this
   have good:a1v s[a+i]=true->(((s.drop a).take (i+1)).drop 2).all a1v=true:=by
    intro hcb
    rw[List.take_add_one,hget,List.drop_append_of_le_length (by rw[List.length_take];omega),List.all_append,hall]
    simp[hcb]
   have hcb:a1v s[a+i]=decide (128<=s[a+i].toNat/\s[a+i].toNat<=191):=rfl
   refine e2h hs hlt ?_
   by_cases h128:s[a+i].toNat < 128
   ·refine a4s (decide_eq_true om) ?_
    refine a0j rfl ?_
    show _=_
    rw[bad (by rw[hcb];exact decide_eq_false om)];rfl
   refine a3u (decide_eq_false om) ?_
   refine e2h hs hlt ?_
   by_cases h191:191 < s[a+i].toNat
   ·refine a0j (decide_eq_true om) ?_
    show _=_
    rw[bad (by rw[hcb];exact decide_eq_false om)];rfl
   refine a0h (decide_eq_false om) ?_
   refine⟨i+1,⟨om,om,good (by rw[hcb];exact decide_eq_true om)⟩,om,?_,rfl⟩
   rw[a1k om];rfl
  ·replace hl:=of_decide_eq_false hl
   have hi:i=2:=om
   subst hi
   unfold Hid at hz
   show _=_
   rw[hz,if_pos hall];rfl
 ·have hN:szN s[a]=3:=by unfold szN;rw[hc,if_neg om,if_pos om]
  have hLo:c7u s[a]=160:=by unfold c7u;rw[hc,if_pos om]
  have hHi:d2i s[a]=191:=by unfold d2i;rw[hc,if_neg om,if_neg om]
  have en:IntKind.i64.wrap ((a:Int)+3)=(a:Int)+3:=a1k om
  unfold Hid at hz
  rw[hN,if_neg (by clear hz;omega),hLo,hHi]at hz
  clear hN hLo hHi
  have hz2:(s.length - a < 3->szL (s.drop a)=0)/\(¬ s.length - a < 3->((hd1 (s.drop a)).toNat < 160\/191 < (hd1 (s.drop a)).toNat)->szL (s.drop a)=0)/\(¬ s.length - a < 3->¬ ((hd1 (s.drop a)).toNat < 160\/191 < (hd1 (s.drop a)).toNat)->szL (s.drop a)=if(((s.drop a).take 3).drop 2).all a1v then 3 else 0):=
   ⟨fun h=>by rw[hz,if_pos (.inl h)],fun h h'=>by rw[hz,if_pos (.inr h')],fun h h'=>by rw[hz,if_neg (by intro e;rcases e with e|e;exact h e;exact h' e)]⟩
  clear hz
  obtain⟨z1,z2,z3⟩:=hz2
  replace z1:Hid _:=z1
  replace z2:Hid _:=z2
  replace z3:Hid _:=z3
  repeat' (first
    |refine a0h (decide_eq_false om) ?_
    |refine a0j (decide_eq_true om) ?_
    |refine a0h rfl ?_
    |refine a0j rfl ?_)
  by_cases hL:s.length < a+3
  ·refine a4s (decide_eq_true om) ?_
   refine a4s rfl ?_
   refine a0j rfl ?_
   show _=_
   rw[show szL (s.drop a)=0 from z1 om];rfl
  have hlt1:a+1 < s.length:=om
  rw[h1 hlt1]at z2 z3
  refine a3u (decide_eq_false om) ?_
  refine d6e om hlt1 ?_
  generalize hb:s[a+1].toNat=b at z2 z3
  by_cases hb1:b < 160
  ·refine a4s (decide_eq_true om) ?_
   refine a0j rfl ?_
   show _=_
   rw[show szL (s.drop a)=0 from z2 om om];rfl
  refine a3u (decide_eq_false om) ?_
  refine d6e om hlt1 ?_
  by_cases hb2:191 < b
  ·refine a0j (decide_eq_true om) ?_
   show _=_
   rw[show szL (s.drop a)=0 from z2 om om];rfl
  refine a0h (decide_eq_false om) ?_
  have hz:szL (s.drop a)=if(((s.drop a).take 3).drop 2).all a1v then 3 else 0:=z3 om om
  clear z1 z2 z3
  clear h1
  refine wp_loop (α:=Nat) (fun i=>3 - i) (fun i=>[(0,str s),(1,i64 a),(6,i64 3),(9,i64 i)]) (fun _=>[]) (fun i=>2<=i/\i<=3/\(((s.drop a).take i).drop 2).all a1v=true) ?_ 2 ⟨om,om,by simp⟩
  rintro i ⟨hi1,hi2,hall⟩
  replace hz:Hid _:=hz
  refine And.intro (fun hl=>?_) (fun hl=>?_)
  ·replace hl:=of_decide_eq_true hl
   have hlt:a+i < s.length:=om
   have hget:(s.drop a)[i]? =some s[a+i]:=by rw[List.getElem?_drop,List.getElem?_eq_getElem hlt]
   have bad:a1v s[a+i]=false->szL (s.drop a)=0:=by
    intro hcb
    unfold Hid at hz
    rw[hz,if_neg]
    intro hall2
    have hmem:s[a+i]∈((s.drop a).take 3).drop 2:=List.mem_iff_getElem?.2 ⟨i - 2,by
      rw[List.getElem?_drop,show 2+(i - 2)=i by omega,List.getElem?_take,if_pos om];exact hget⟩
    have:=List.all_eq_true.1 hall2 _ hmem
    rw[hcb]at this;cases this
   have good:a1v s[a+i]=true->(((s.drop a).take (i+1)).drop 2).all a1v=true:=by
    intro hcb
    rw[List.take_add_one,hget,List.drop_append_of_le_length (by rw[List.length_take];omega),List.all_append,hall]
    simp[hcb]
   have hcb:a1v s[a+i]=decide (128<=s[a+i].toNat/\s[a+i].toNat<=191):=rfl
   refine e2h hs hlt ?_
   by_cases h128:s[a+i].toNat < 128
   ·refine a4s (decide_eq_true om) ?_
    refine a0j rfl ?_
    show _=_
    rw[bad (by rw[hcb];exact decide_eq_false om)];rfl
   refine a3u (decide_eq_false om) ?_
   refine e2h hs hlt ?_
   by_cases h191:191 < s[a+i].toNat
   ·refine a0j (decide_eq_true om) ?_
    show _=_
    rw[bad (by rw[hcb];exact decide_eq_false om)];rfl
   refine a0h (decide_eq_false om) ?_
   refine⟨i+1,⟨om,om,good (by rw[hcb];exact decide_eq_true om)⟩,om,?_,rfl⟩
   rw[a1k om];rfl
  ·replace hl:=of_decide_eq_false hl
   have hi:i=3:=om
   subst hi
   unfold Hid at hz
   show _=_
   rw[hz,if_pos hall];rfl
 ·have hN:szN s[a]=3:=by unfold szN;rw[hc,if_neg om,if_pos om]
  have hLo:c7u s[a]=128:=by unfold c7u;rw[hc,if_neg om,if_neg om]
  have hHi:d2i s[a]=191:=by unfold d2i;rw[hc,if_neg om,if_neg om]
  have en:IntKind.i64.wrap ((a:Int)+3)=(a:Int)+3:=a1k om
  unfold Hid at hz
  rw[hN,if_neg (by clear hz;omega),hLo,hHi]at hz
  clear hN hLo hHi
  have hz2:(s.length - a < 3->szL (s.drop a)=0)/\(¬ s.length - a < 3->((hd1 (s.drop a)).toNat < 128\/191 < (hd1 (s.drop a)).toNat)->szL (s.drop a)=0)/\(¬ s.length - a < 3->¬ ((hd1 (s.drop a)).toNat < 128\/191 < (hd1 (s.drop a)).toNat)->szL (s.drop a)=if(((s.drop a).take 3).drop 2).all a1v then 3 else 0):=
   ⟨fun h=>by rw[hz,if_pos (.inl h)],fun h h'=>by rw[hz,if_pos (.inr h')],fun h h'=>by rw[hz,if_neg (by intro e;rcases e with e|e;exact h e;exact h' e)]⟩
  clear hz
  obtain⟨z1,z2,z3⟩:=hz2
  replace z1:Hid _:=z1
  replace z2:Hid _:=z2
  replace z3:Hid _:=z3
  repeat' (first
    |refine a0h (decide_eq_false om) ?_
    |refine a0j (decide_eq_true om) ?_
    |refine a0h rfl ?_
    |refine a0j rfl ?_)
  by_cases hL:s.length < a+3
  ·refine a4s (decide_eq_true om) ?_
   refine a4s rfl ?_
   refine a0j rfl ?_
   show _=_
   rw[show szL (s.drop a)=0 from z1 om];rfl
  have hlt1:a+1 < s.length:=om
  rw[h1 hlt1]at z2 z3
  refine a3u (decide_eq_false om) ?_
  refine d6e om hlt1 ?_
  generalize hb:s[a+1].toNat=b at z2 z3
  by_cases hb1:b < 128
  ·refine a4s (decide_eq_true om) ?_
   refine a0j rfl ?_
   show _=_
   rw[show szL (s.drop a)=0 from z2 om om];rfl
  refine a3u (decide_eq_false om) ?_
  refine d6e om hlt1 ?_
  by_cases hb2:191 < b
  ·refine a0j (decide_eq_true om) ?_
   show _=_
   rw[show szL (s.drop a)=0 from z2 om om];rfl
  refine a0h (decide_eq_false om) ?_
  have hz:szL (s.drop a)=if(((s.drop a).take 3).drop 2).all a1v then 3 else 0:=z3 om om
  clear z1 z2 z3
  clear h1
  refine wp_loop (α:=Nat) (fun i=>3 - i) (fun i=>[(0,str s),(1,i64 a),(6,i64 3),(9,i64 i)]) (fun _=>[]) (fun i=>2<=i/\i<=3/\(((s.drop a).take i).drop 2).all a1v=true) ?_ 2 ⟨om,om,by simp⟩
  rintro i ⟨hi1,hi2,hall⟩
  replace hz:Hid _:=hz
  refine And.intro (fun hl=>?_) (fun hl=>?_)
  ·replace hl:=of_decide_eq_true hl
   have hlt:a+i < s.length:=om
   have hget:(s.drop a)[i]? =some s[a+i]:=by rw[List.getElem?_drop,List.getElem?_eq_getElem hlt]
   have bad:a1v s[a+i]=false->szL (s.drop a)=0:=by
    intro hcb
    unfold Hid at hz
    rw[hz,if_neg]
    intro hall2
    have hmem:s[a+i]∈((s.drop a).take 3).drop 2:=List.mem_iff_getElem?.2 ⟨i - 2,by
      rw[List.getElem?_drop,show 2+(i - 2)=i by omega,List.getElem?_take,if_pos om];exact hget⟩
    have:=List.all_eq_true.1 hall2 _ hmem
    rw[hcb]at this;cases this
   have good:a1v s[a+i]=true->(((s.drop a).take (i+1)).drop 2).all a1v=true:=by
    intro hcb
    rw[List.take_add_one,hget,List.drop_append_of_le_length (by rw[List.length_take];omega),List.all_append,hall]
    simp[hcb]
   have hcb:a1v s[a+i]=decide (128<=s[a+i].toNat/\s[a+i].toNat<=191):=rfl
   refine e2h hs hlt ?_
   by_cases h128:s[a+i].toNat < 128
   ·refine a4s (decide_eq_true om) ?_
    refine a0j rfl ?_
    show _=_
    rw[bad (by rw[hcb];exact decide_eq_false om)];rfl
   refine a3u (decide_eq_false om) ?_
   refine e2h hs hlt ?_
   by_cases h191:191 < s[a+i].toNat
   ·refine a0j (decide_eq_true om) ?_
    show _=_
    rw[bad (by rw[hcb];exact decide_eq_false om)];rfl
   refine a0h (decide_eq_false om) ?_
   refine⟨i+1,⟨om,om,good (by rw[hcb];exact decide_eq_true om)⟩,om,?_,rfl⟩
   rw[a1k om];rfl
  ·replace hl:=of_decide_eq_false hl
   have hi:i=3:=om
   subst hi
   unfold Hid at hz
   show _=_
   rw[hz,if_pos hall];rfl
 ·have hN:szN s[a]=3:=by unfold szN;rw[hc,if_neg om,if_pos om]
  have hLo:c7u s[a]=128:=by unfold c7u;rw[hc,if_neg om,if_neg om]
  have hHi:d2i s[a]=159:=by unfold d2i;rw[hc,if_pos om]
  have en:IntKind.i64.wrap ((a:Int)+3)=(a:Int)+3:=a1k om
  unfold Hid at hz
  rw[hN,if_neg (by clear hz;omega),hLo,hHi]at hz
  clear hN hLo hHi
  have hz2:(s.length - a < 3->szL (s.drop a)=0)/\(¬ s.length - a < 3->((hd1 (s.drop a)).toNat < 128\/159 < (hd1 (s.drop a)).toNat)->szL (s.drop a)=0)/\(¬ s.length - a < 3->¬ ((hd1 (s.drop a)).toNat < 128\/159 < (hd1 (s.drop a)).toNat)->szL (s.drop a)=if(((s.drop a).take 3).drop 2).all a1v then 3 else 0):=
   ⟨fun h=>by rw[hz,if_pos (.inl h)],fun h h'=>by rw[hz,if_pos (.inr h')],fun h h'=>by rw[hz,if_neg (by intro e;rcases e with e|e;exact h e;exact h' e)]⟩
  clear hz
  obtain⟨z1,z2,z3⟩:=hz2
  replace z1:Hid _:=z1
  replace z2:Hid _:=z2
  replace z3:Hid _:=z3
  repeat' (first
    |refine a0h (decide_eq_false om) ?_
    |refine a0j (decide_eq_true om) ?_
    |refine a0h rfl ?_
    |refine a0j rfl ?_)
  by_cases hL:s.length < a+3
  ·refine a4s (decide_eq_true om) ?_
   refine a4s rfl ?_
   refine a0j rfl ?_
   show _=_
   rw[show szL (s.drop a)=0 from z1 om];rfl
  have hlt1:a+1 < s.length:=om
  rw[h1 hlt1]at z2 z3
  refine a3u (decide_eq_false om) ?_
  refine d6e om hlt1 ?_
  generalize hb:s[a+1].toNat=b at z2 z3
  by_cases hb1:b < 128
  ·refine a4s (decide_eq_true om) ?_
   refine a0j rfl ?_
   show _=_
   rw[show szL (s.drop a)=0 from z2 om om];rfl
  refine a3u (decide_eq_false om) ?_
  refine d6e om hlt1 ?_
  by_cases hb2:159 < b
  ·refine a0j (decide_eq_true om) ?_
   show _=_
   rw[show szL (s.drop a)=0 from z2 om om];rfl
  refine a0h (decide_eq_false om) ?_
  have hz:szL (s.drop a)=if(((s.drop a).take 3).drop 2).all a1v then 3 else 0:=z3 om om
  clear z1 z2 z3
  clear h1
  refine wp_loop (α:=Nat) (fun i=>3 - i) (fun i=>[(0,str s),(1,i64 a),(6,i64 3),(9,i64 i)]) (fun _=>[]) (fun i=>2<=i/\i<=3/\(((s.drop a).take i).drop 2).all a1v=true) ?_ 2 ⟨om,om,by simp⟩
  rintro i ⟨hi1,hi2,hall⟩
  replace hz:Hid _:=hz
  refine And.intro (fun hl=>?_) (fun hl=>?_)
  ·replace hl:=of_decide_eq_true hl
   have hlt:a+i < s.length:=om
   have hget:(s.drop a)[i]? =some s[a+i]:=by rw[List.getElem?_drop,List.getElem?_eq_getElem hlt]
   have bad:a1v s[a+i]=false->szL (s.drop a)=0:=by
    intro hcb
    unfold Hid at hz
    rw[hz,if_neg]
    intro hall2
    have hmem:s[a+i]∈((s.drop a).take 3).drop 2:=List.mem_iff_getElem?.2 ⟨i - 2,by
      rw[List.getElem?_drop,show 2+(i - 2)=i by omega,List.getElem?_take,if_pos om];exact hget⟩
    have:=List.all_eq_true.1 hall2 _ hmem
    rw[hcb]at this;cases this
   have good:a1v s[a+i]=true->(((s.drop a).take (i+1)).drop 2).all a1v=true:=by
    intro hcb
    rw[List.take_add_one,hget,List.drop_append_of_le_length (by rw[List.length_take];omega),List.all_append,hall]
    simp[hcb]
   have hcb:a1v s[a+i]=decide (128<=s[a+i].toNat/\s[a+i].toNat<=191):=rfl
   refine e2h hs hlt ?_
   by_cases h128:s[a+i].toNat < 128
   ·refine a4s (decide_eq_true om) ?_
    refine a0j rfl ?_
    show _=_
    rw[bad (by rw[hcb];exact decide_eq_false om)];rfl
   refine a3u (decide_eq_false om) ?_
   refine e2h hs hlt ?_
   by_cases h191:191 < s[a+i].toNat
   ·refine a0j (decide_eq_true om) ?_
    show _=_
    rw[bad (by rw[hcb];exact decide_eq_false om)];rfl
   refine a0h (decide_eq_false om) ?_
   refine⟨i+1,⟨om,om,good (by rw[hcb];exact decide_eq_true om)⟩,om,?_,rfl⟩
   rw[a1k om];rfl
  ·replace hl:=of_decide_eq_false hl
   have hi:i=3:=om
   subst hi
   unfold Hid at hz
   show _=_
   rw[hz,if_pos hall];rfl
 ·have hN:szN s[a]=4:=by unfold szN;rw[hc,if_neg om,if_neg om,if_pos om]
  have hLo:c7u s[a]=144:=by unfold c7u;rw[hc,if_neg om,if_pos om]
  have hHi:d2i s[a]=191:=by unfold d2i;rw[hc,if_neg om,if_neg om]
  have en:IntKind.i64.wrap ((a:Int)+4)=(a:Int)+4:=a1k om
  unfold Hid at hz
  rw[hN,if_neg (by clear hz;omega),hLo,hHi]at hz
  clear hN hLo hHi
  have hz2:(s.length - a < 4->szL (s.drop a)=0)/\(¬ s.length - a < 4->((hd1 (s.drop a)).toNat < 144\/191 < (hd1 (s.drop a)).toNat)->szL (s.drop a)=0)/\(¬ s.length - a < 4->¬ ((hd1 (s.drop a)).toNat < 144\/191 < (hd1 (s.drop a)).toNat)->szL (s.drop a)=if(((s.drop a).take 4).drop 2).all a1v then 4 else 0):=
   ⟨fun h=>by rw[hz,if_pos (.inl h)],fun h h'=>by rw[hz,if_pos (.inr h')],fun h h'=>by rw[hz,if_neg (by intro e;rcases e with e|e;exact h e;exact h' e)]⟩
  clear hz
  obtain⟨z1,z2,z3⟩:=hz2
  replace z1:Hid _:=z1
  replace z2:Hid _:=z2
  replace z3:Hid _:=z3
  repeat' (first
    |refine a0h (decide_eq_false om) ?_
    |refine a0j (decide_eq_true om) ?_
    |refine a0h rfl ?_
    |refine a0j rfl ?_)
  by_cases hL:s.length < a+4
  ·refine a4s (decide_eq_true om) ?_
   refine a4s rfl ?_
   refine a0j rfl ?_
   show _=_
   rw[show szL (s.drop a)=0 from z1 om];rfl
  have hlt1:a+1 < s.length:=om
  rw[h1 hlt1]at z2 z3
  refine a3u (decide_eq_false om) ?_
  refine d6e om hlt1 ?_
  generalize hb:s[a+1].toNat=b at z2 z3
  by_cases hb1:b < 144
  ·refine a4s (decide_eq_true om) ?_
   refine a0j rfl ?_
   show _=_
   rw[show szL (s.drop a)=0 from z2 om om];rfl
  refine a3u (decide_eq_false om) ?_
  refine d6e om hlt1 ?_
  by_cases hb2:191 < b
  ·refine a0j (decide_eq_true om) ?_
   show _=_
   rw[show szL (s.drop a)=0 from z2 om om];rfl
  refine a0h (decide_eq_false om) ?_
  have hz:szL (s.drop a)=if(((s.drop a).take 4).drop 2).all a1v then 4 else 0:=z3 om om
  clear z1 z2 z3
  clear h1
  refine wp_loop (α:=Nat) (fun i=>4 - i) (fun i=>[(0,str s),(1,i64 a),(6,i64 4),(9,i64 i)]) (fun _=>[]) (fun i=>2<=i/\i<=4/\(((s.drop a).take i).drop 2).all a1v=true) ?_ 2 ⟨om,om,by simp⟩
  rintro i ⟨hi1,hi2,hall⟩
  replace hz:Hid _:=hz
  refine And.intro (fun hl=>?_) (fun hl=>?_)
  ·replace hl:=of_decide_eq_true hl
   have hlt:a+i < s.length:=om
   have hget:(s.drop a)[i]? =some s[a+i]:=by rw[List.getElem?_drop,List.getElem?_eq_getElem hlt]
   have bad:a1v s[a+i]=false->szL (s.drop a)=0:=by
    intro hcb
    unfold Hid at hz
    rw[hz,if_neg]
    intro hall2
    have hmem:s[a+i]∈((s.drop a).take 4).drop 2:=List.mem_iff_getElem?.2 ⟨i - 2,by
      rw[List.getElem?_drop,show 2+(i - 2)=i by omega,List.getElem?_take,if_pos om];exact hget⟩
    have:=List.all_eq_true.1 hall2 _ hmem
    rw[hcb]at this;cases this
   have good:a1v s[a+i]=true->(((s.drop a).take (i+1)).drop 2).all a1v=true:=by
    intro hcb
    rw[List.take_add_one,hget,List.drop_append_of_le_length (by rw[List.length_take];omega),List.all_append,hall]
    simp[hcb]
   have hcb:a1v s[a+i]=decide (128<=s[a+i].toNat/\s[a+i].toNat<=191):=rfl
   refine e2h hs hlt ?_
   by_cases h128:s[a+i].toNat < 128
   ·refine a4s (decide_eq_true om) ?_
    refine a0j rfl ?_
    show _=_
    rw[bad (by rw[hcb];exact decide_eq_false om)];rfl
   refine a3u (decide_eq_false om) ?_
   refine e2h hs hlt ?_
   by_cases h191:191 < s[a+i].toNat
   ·refine a0j (decide_eq_true om) ?_
    show _=_
    rw[bad (by rw[hcb];exact decide_eq_false om)];rfl
   refine a0h (decide_eq_false om) ?_
   refine⟨i+1,⟨om,om,good (by rw[hcb];exact decide_eq_true om)⟩,om,?_,rfl⟩
   rw[a1k om];rfl
  ·replace hl:=of_decide_eq_false hl
   have hi:i=4:=om
   subst hi
   unfold Hid at hz
   show _=_
   rw[hz,if_pos hall];rfl
 ·have hN:szN s[a]=4:=by unfold szN;rw[hc,if_neg om,if_neg om,if_pos om]
  have hLo:c7u s[a]=128:=by unfold c7u;rw[hc,if_neg om,if_neg om]
  have hHi:d2i s[a]=191:=by unfold d2i;rw[hc,if_neg om,if_neg om]
  have en:IntKind.i64.wrap ((a:Int)+4)=(a:Int)+4:=a1k om
  unfold Hid at hz
  rw[hN,if_neg (by clear hz;omega),hLo,hHi]at hz
  clear hN hLo hHi
  have hz2:(s.length - a < 4->szL (s.drop a)=0)/\(¬ s.length - a < 4->((hd1 (s.drop a)).toNat < 128\/191 < (hd1 (s.drop a)).toNat)->szL (s.drop a)=0)/\(¬ s.length - a < 4->¬ ((hd1 (s.drop a)).toNat < 128\/191 < (hd1 (s.drop a)).toNat)->szL (s.drop a)=if(((s.drop a).take 4).drop 2).all a1v then 4 else 0):=
   ⟨fun h=>by rw[hz,if_pos (.inl h)],fun h h'=>by rw[hz,if_pos (.inr h')],fun h h'=>by rw[hz,if_neg (by intro e;rcases e with e|e;exact h e;exact h' e)]⟩
  clear hz
  obtain⟨z1,z2,z3⟩:=hz2
  replace z1:Hid _:=z1
  replace z2:Hid _:=z2
  replace z3:Hid _:=z3
  repeat' (first
    |refine a0h (decide_eq_false om) ?_
    |refine a0j (decide_eq_true om) ?_
    |refine a0h rfl ?_
    |refine a0j rfl ?_)
  by_cases hL:s.length < a+4
  ·refine a4s (decide_eq_true om) ?_
   refine a4s rfl ?_
   refine a0j rfl ?_
   show _=_
   rw[show szL (s.drop a)=0 from z1 om];rfl
  have hlt1:a+1 < s.length:=om
  rw[h1 hlt1]at z2 z3
  refine a3u (decide_eq_false om) ?_
  refine d6e om hlt1 ?_
  generalize hb:s[a+1].toNat=b at z2 z3
  by_cases hb1:b < 128
  ·refine a4s (decide_eq_true om) ?_
   refine a0j rfl ?_
   show _=_
   rw[show szL (s.drop a)=0 from z2 om om];rfl
  refine a3u (decide_eq_false om) ?_
  refine d6e om hlt1 ?_
  by_cases hb2:191 < b
  ·refine a0j (decide_eq_true om) ?_
   show _=_
   rw[show szL (s.drop a)=0 from z2 om om];rfl
  refine a0h (decide_eq_false om) ?_
  have hz:szL (s.drop a)=if(((s.drop a).take 4).drop 2).all a1v then 4 else 0:=z3 om om
  clear z1 z2 z3
  clear h1
  refine wp_loop (α:=Nat) (fun i=>4 - i) (fun i=>[(0,str s),(1,i64 a),(6,i64 4),(9,i64 i)]) (fun _=>[]) (fun i=>2<=i/\i<=4/\(((s.drop a).take i).drop 2).all a1v=true) ?_ 2 ⟨om,om,by simp⟩
  rintro i ⟨hi1,hi2,hall⟩
  replace hz:Hid _:=hz
  refine And.intro (fun hl=>?_) (fun hl=>?_)
  ·replace hl:=of_decide_eq_true hl
   have hlt:a+i < s.length:=om
   have hget:(s.drop a)[i]? =some s[a+i]:=by rw[List.getElem?_drop,List.getElem?_eq_getElem hlt]
   have bad:a1v s[a+i]=false->szL (s.drop a)=0:=by
    intro hcb
    unfold Hid at hz
    rw[hz,if_neg]
    intro hall2
    have hmem:s[a+i]∈((s.drop a).take 4).drop 2:=List.mem_iff_getElem?.2 ⟨i - 2,by
      rw[List.getElem?_drop,show 2+(i - 2)=i by omega,List.getElem?_take,if_pos om];exact hget⟩
    have:=List.all_eq_true.1 hall2 _ hmem
    rw[hcb]at this;cases this
   have good:a1v s[a+i]=true->(((s.drop a).take (i+1)).drop 2).all a1v=true:=by
    intro hcb
    rw[List.take_add_one,hget,List.drop_append_of_le_length (by rw[List.length_take];omega),List.all_append,hall]
    simp[hcb]
   have hcb:a1v s[a+i]=decide (128<=s[a+i].toNat/\s[a+i].toNat<=191):=rfl
   refine e2h hs hlt ?_
   by_cases h128:s[a+i].toNat < 128
   ·refine a4s (decide_eq_true om) ?_
    refine a0j rfl ?_
    show _=_
    rw[bad (by rw[hcb];exact decide_eq_false om)];rfl
   refine a3u (decide_eq_false om) ?_
   refine e2h hs hlt ?_
   by_cases h191:191 < s[a+i].toNat
   ·refine a0j (decide_eq_true om) ?_
    show _=_
    rw[bad (by rw[hcb];exact decide_eq_false om)];rfl
   refine a0h (decide_eq_false om) ?_
   refine⟨i+1,⟨om,om,good (by rw[hcb];exact decide_eq_true om)⟩,om,?_,rfl⟩
   rw[a1k om];rfl
  ·replace hl:=of_decide_eq_false hl
   have hi:i=4:=om
   subst hi
   unfold Hid at hz
   show _=_
   rw[hz,if_pos hall];rfl
 ·have hN:szN s[a]=4:=by unfold szN;rw[hc,if_neg om,if_neg om,if_pos om]
  have hLo:c7u s[a]=128:=by unfold c7u;rw[hc,if_neg om,if_neg om]
  have hHi:d2i s[a]=143:=by unfold d2i;rw[hc,if_neg om,if_pos om]
  have en:IntKind.i64.wrap ((a:Int)+4)=(a:Int)+4:=a1k om
  unfold Hid at hz
  rw[hN,if_neg (by clear hz;omega),hLo,hHi]at hz
  clear hN hLo hHi
  have hz2:(s.length - a < 4->szL (s.drop a)=0)/\(¬ s.length - a < 4->((hd1 (s.drop a)).toNat < 128\/143 < (hd1 (s.drop a)).toNat)->szL (s.drop a)=0)/\(¬ s.length - a < 4->¬ ((hd1 (s.drop a)).toNat < 128\/143 < (hd1 (s.drop a)).toNat)->szL (s.drop a)=if(((s.drop a).take 4).drop 2).all a1v then 4 else 0):=
   ⟨fun h=>by rw[hz,if_pos (.inl h)],fun h h'=>by rw[hz,if_pos (.inr h')],fun h h'=>by rw[hz,if_neg (by intro e;rcases e with e|e;exact h e;exact h' e)]⟩
  clear hz
  obtain⟨z1,z2,z3⟩:=hz2
  replace z1:Hid _:=z1
  replace z2:Hid _:=z2
  replace z3:Hid _:=z3
  repeat' (first
    |refine a0h (decide_eq_false om) ?_
    |refine a0j (decide_eq_true om) ?_
    |refine a0h rfl ?_
    |refine a0j rfl ?_)
  by_cases hL:s.length < a+4
  ·refine a4s (decide_eq_true om) ?_
   refine a4s rfl ?_
   refine a0j rfl ?_
   show _=_
   rw[show szL (s.drop a)=0 from z1 om];rfl
  have hlt1:a+1 < s.length:=om
  rw[h1 hlt1]at z2 z3
  refine a3u (decide_eq_false om) ?_
  refine d6e om hlt1 ?_
  generalize hb:s[a+1].toNat=b at z2 z3
  by_cases hb1:b < 128
  ·refine a4s (decide_eq_true om) ?_
   refine a0j rfl ?_
   show _=_
   rw[show szL (s.drop a)=0 from z2 om om];rfl
  refine a3u (decide_eq_false om) ?_
  refine d6e om hlt1 ?_
  by_cases hb2:143 < b
  ·refine a0j (decide_eq_true om) ?_
   show _=_
   rw[show szL (s.drop a)=0 from z2 om om];rfl
  refine a0h (decide_eq_false om) ?_
  have hz:szL (s.drop a)=if(((s.drop a).take 4).drop 2).all a1v then 4 else 0:=z3 om om
  clear z1 z2 z3
  clear h1
  refine wp_loop (α:=Nat) (fun i=>4 - i) (fun i=>[(0,str s),(1,i64 a),(6,i64 4),(9,i64 i)]) (fun _=>[]) (fun i=>2<=i/\i<=4/\(((s.drop a).take i).drop 2).all a1v=true) ?_ 2 ⟨om,om,by simp⟩
  rintro i ⟨hi1,hi2,hall⟩
  replace hz:Hid _:=hz
  refine And.intro (fun hl=>?_) (fun hl=>?_)
  ·replace hl:=of_decide_eq_true hl
   have hlt:a+i < s.length:=om
   have hget:(s.drop a)[i]? =some s[a+i]:=by rw[List.getElem?_drop,List.getElem?_eq_getElem hlt]
   have bad:a1v s[a+i]=false->szL (s.drop a)=0:=by
    intro hcb
    unfold Hid at hz
    rw[hz,if_neg]
    intro hall2
    have hmem:s[a+i]∈((s.drop a).take 4).drop 2:=List.mem_iff_getElem?.2 ⟨i - 2,by
      rw[List.getElem?_drop,show 2+(i - 2)=i by omega,List.getElem?_take,if_pos om];exact hget⟩
    have:=List.all_eq_true.1 hall2 _ hmem
    rw[hcb]at this;cases this
   have good:a1v s[a+i]=true->(((s.drop a).take (i+1)).drop 2).all a1v=true:=by
    intro hcb
    rw[List.take_add_one,hget,List.drop_append_of_le_length (by rw[List.length_take];omega),List.all_append,hall]
    simp[hcb]
   have hcb:a1v s[a+i]=decide (128<=s[a+i].toNat/\s[a+i].toNat<=191):=rfl
   refine e2h hs hlt ?_
   by_cases h128:s[a+i].toNat < 128
   ·refine a4s (decide_eq_true om) ?_
    refine a0j rfl ?_
    show _=_
    rw[bad (by rw[hcb];exact decide_eq_false om)];rfl
   refine a3u (decide_eq_false om) ?_
   refine e2h hs hlt ?_
   by_cases h191:191 < s[a+i].toNat
   ·refine a0j (decide_eq_true om) ?_
    show _=_
    rw[bad (by rw[hcb];exact decide_eq_false om)];rfl
   refine a0h (decide_eq_false om) ?_
   refine⟨i+1,⟨om,om,good (by rw[hcb];exact decide_eq_true om)⟩,om,?_,rfl⟩
   rw[a1k om];rfl
  ·replace hl:=of_decide_eq_false hl
   have hi:i=4:=om
   subst hi
   unfold Hid at hz
   show _=_
   rw[hz,if_pos hall];rfl
end
end Go.Vm.Lex
namespace Go.Vm.Lex
open Go.Vm.Ite
def TokQ.D (t:TokQ):D:=tkD t.k t.t t.v t.f t.e
def c7f (r:List TokQ×Dg):V:= .tup [.d (.sl (r.1.map TokQ.D)),.d (dgD r.2.c r.2.f r.2.e)]
section
variable {fx:Nat->Option Obj} {F:Nat->Option a0x} (H:Hp)
theorem e2x (s:List UInt8) (hs:s.length<=4611686018427387904):evF (pgL fx F) c5j [str s] H=some (i64 (strange 0 s),H):=by
 refine a1p (c6c (F:=F)) rfl rfl ?_ H
 refine wp_loop (α:=Nat) (fun i=>s.length - i) (fun i=>[(0,str s),(3,i64 i)]) (fun _=>[]) (fun i=>i<=s.length/\strange i (s.drop i)=strange 0 s) ?_ 0 ⟨om,by simp⟩
 rintro i ⟨hi,hr⟩
 refine And.intro (fun hl=>?_) (fun hl=>?_)
 ·replace hl:=of_decide_eq_true hl
  have hlt:i < s.length:=om
  have hne:s.drop i≠[]:=by intro e;have:=congrArg List.length e;simp at this;omega
  refine Exists.intro _ (Exists.intro _ (And.intro (d8u _ _ hs _ hlt) ?_))
  refine And.intro (fun h=>?_) (fun h=>?_)
  ·replace h:=of_decide_eq_true h
   rw[a9f i hne om]at hr
   show _=_
   rw[<-hr];rfl
  ·replace h:=of_decide_eq_false h
   rw[a7r i hne om,List.drop_drop]at hr
   have hle:=c3u (s.drop i)
   rw[List.length_drop]at hle
   refine⟨i+szL (s.drop i),⟨om,hr⟩,om,?_,rfl⟩
   rw[a1k om];rfl
 ·replace hl:=of_decide_eq_false hl
  rw[List.drop_eq_nil_of_le om,a4h]at hr
  show _=_
  rw[<-hr];rfl
structure Head (s:List UInt8) (i:Nat) (out:List TokQ):Prop where
 le:i<=s.length
 val:Val (s.drop i)
 sk:a0g false (s.drop i)=0
 ol:out.length<=i
 eq:after out (toks i (s.drop i))=toks 0 s
theorem Head.start {s:List UInt8} (h:Val s):Head s (a0g false s) []:=by
 refine⟨a2u _ _,c3k _ s (Nat.le_refl _) h,c4x _ _ _ (Nat.le_refl _),Nat.zero_le _,?_⟩
 rw[c5y _ (d0p _ _ _ (Nat.le_refl _))]
 have:=b8w 0 s
 rw[Nat.zero_add]at this
 exact this.symm
theorem Head.next {s:List UInt8} {i:Nat} {out:List TokQ} (h:Head s i out) (hlt:i < s.length) (he:(a2p szL (s.drop i)).e=0):
 Head s (i+(a2p szL (s.drop i)).n+a0g false (s.drop (i+(a2p szL (s.drop i)).n))) (out++[⟨(a2p szL (s.drop i)).k,(a2p szL (s.drop i)).t,(a2p szL (s.drop i)).v,i,i+(a2p szL (s.drop i)).n⟩]):=by
 obtain⟨h1,h2,h3,h4,h5⟩:=h
 obtain⟨k1,k2,k3,k4⟩:=c0s he
 rw[List.length_drop]at k2
 have hv:Val (s.drop (i+(a2p szL (s.drop i)).n)):=by rw[<-List.drop_drop];exact(d0r _ _ k4).1 h2
 have hsl:=a2u false (s.drop (i+(a2p szL (s.drop i)).n))
 rw[List.length_drop]at hsl
 refine⟨om,?_,?_,by simp;omega,?_⟩
 ·rw[<-List.drop_drop];exact c3k _ _ (Nat.le_refl _) hv
 ·rw[<-List.drop_drop];exact c4x _ _ _ (Nat.le_refl _)
 ·have hne:(s.drop i).drop (a0g false (s.drop i))≠[]:=by rw[h3,List.drop_zero];intro e;have:=congrArg List.length e;simp at this;omega
  rw[a9r i hne (by rw[h3,List.drop_zero];exact he),c5d]at h5
  simp only[h3,List.drop_zero,Nat.add_zero,Nat.zero_add,List.drop_drop]at h5
  rw[b8w,List.drop_drop]at h5
  exact h5
theorem Head.err {s:List UInt8} {i:Nat} {out:List TokQ} (h:Head s i out) (hlt:i < s.length) (he:(a2p szL (s.drop i)).e≠0):toks 0 s=([],⟨(a2p szL (s.drop i)).e,i,i+(a2p szL (s.drop i)).n⟩):=by
 obtain⟨h1,h2,h3,h4,h5⟩:=h
 have hne:(s.drop i).drop (a0g false (s.drop i))≠[]:=by rw[h3,List.drop_zero];intro e;have:=congrArg List.length e;simp at this;omega
 rw[<-h5,a7i i hne (by rw[h3,List.drop_zero];exact he),h3]
 simp only[List.drop_zero,Nat.add_zero]
 unfold after
 rw[if_neg he]
theorem Head.fin {s:List UInt8} {i:Nat} {out:List TokQ} (h:Head s i out) (hlt:¬ i < s.length):toks 0 s=(out++[⟨5,[],0,s.length,s.length⟩],Dg.ok):=by
 obtain⟨h1,h2,h3,h4,h5⟩:=h
 have hd:s.drop i=[]:=List.drop_eq_nil_of_le om
 rw[<-h5,hd,a2x i (by simp)]
 have:i=s.length:=om
 subst this
 simp[after,Dg.ok]
def dg0:Ob:= .box [.d (.int .i64 0),.d (.int .i64 0),.d (.int .i64 0)]
end
end Go.Vm.Lex
namespace Go.Vm.Lex
open Go.Vm.Ite
section
variable {fx:Nat->Option Obj} {F:Nat->Option a0x} (H:Hp)
set_option maxHeartbeats 2000000 in
theorem e4e (s:List UInt8) (hs:s.length<=maxLen):evF (pgL fx F) c6q [str s] H=some (c7f (a3c s),H):=by
 refine a1p (c7g (F:=F)) rfl rfl ?_ H
 refine And.intro (fun h=>?_) (fun h=>?_)
 ·replace h:=of_decide_eq_true h
  refine Exists.intro _ (Exists.intro _ (And.intro (b7a _ 2 0 0) ?_))
  show _=_
  unfold a3c
  rw[if_pos om];rfl
 replace h:=of_decide_eq_false h
 have hm:s.length<=65536:=om
 have hs2:s.length<=4611686018427387904:=om
 have hL:a3c s=if 0<=strange 0 s then([],⟨110,(strange 0 s).toNat,(strange 0 s).toNat+1⟩) else toks 0 s:=by unfold a3c;rw[if_neg om]
 have hg:=c8w _ s 0 (Nat.le_refl _)
 refine Exists.intro _ (Exists.intro _ (And.intro (e2x _ _ hs2) ?_))
 refine And.intro (fun h2=>?_) (fun h2=>?_)
 ·replace h2:=of_decide_eq_true h2
  refine Exists.intro _ (Exists.intro _ (And.intro (b7a _ _ _ _) ?_))
  show _=_
  rw[hL,if_pos om,a1k om]
  simp only[oneOf,c7f,dgD,List.map_nil,Int.natCast_add,Int.toNat_of_nonneg h2];rfl
 replace h2:=of_decide_eq_false h2
 rw[if_neg om]at hL
 have hv:Val s:=by unfold Val;omega
 refine Exists.intro _ (Exists.intro _ (And.intro (e2g _ _ hs 0 om) ?_))
 rw[hL]
 simp only[List.drop_zero,Nat.zero_add]
 refine wp_loop (α:=Nat×List TokQ) (fun p=>s.length - p.1) (fun p=>[(0,str s),(3,.ptr 0 0),(5,.row 1 p.2.length),(6,i64 p.1)]) (fun p=>[dg0,.row 5 (p.2.map TokQ.D)]) (fun p=>Head s p.1 p.2) ?_ (a0g false s,[]) (Head.start hv)
 rintro⟨i,out⟩ hh
 have hle:=hh.le
 have hol:=hh.ol
 simp only at hh hle hol
 refine And.intro (fun hl=>?_) (fun hl=>?_)
 ·replace hl:=of_decide_eq_true hl
  have hlt:i < s.length:=om
  have hd:s.drop i=s[i]::s.drop (i+1):=List.drop_eq_getElem_cons hlt
  have hne:s.drop i≠[]:=by rw[hd];exact List.cons_ne_nil _ _
  have hh0:hd0 (s.drop i)=s[i]:=by rw[hd];rfl
  have hn:=hh.next hlt
  have hx:=hh.err hlt
  have hk:(a2p szL (s.drop i)).e=0->1<=(a2p szL (s.drop i)).n/\(a2p szL (s.drop i)).n<=s.length - i:=fun e=>by
    obtain⟨k1,k2,_⟩:=c0s e
    rw[List.length_drop]at k2
    exact⟨k1,k2⟩
  have hR0:0 < a8p (s.drop i)↔c2e s[i]=true:=by
   rw[hd,b0z]
   cases c2e s[i]<;>simp
  have hR1:s[i]=95->((s.drop i).take (a8p (s.drop i))=[95]↔a8p (s.drop i)=1):=by
   intro e
   have hpos:0 < a8p (s.drop i):=hR0.2 (by rw[e];rfl)
   constructor
   ·intro h1
    have h2:min (a8p (s.drop i)) (s.drop i).length=1:=by rw[<-List.length_take,h1];rfl
    have h3:=b7q (s.drop i)
    omega
   ·intro h1;rw[h1,hd,e];rfl
  have hR2:s[i]≠95->(s.drop i).take (a8p (s.drop i))≠[95]:=by
   intro e h1
   cases hr:a8p (s.drop i)with
   |zero=>rw[hr]at h1;simp at h1
   |succ n=>rw[hr,hd,List.take_succ_cons]at h1;injection h1 with h1 _;exact e h1
  have hrl:=b7q (s.drop i)
  have hszl:=c3u (s.drop i)
  rw[List.length_drop]at hrl hszl
  have bl:∀ (n:Nat),n<=s.length - i->∀ (z:Int),z=((i+n:Nat):Int)->∀ H:Hp,evF (pgL fx F) b8j [str s,i64 z] H=some (i64 ((i+n+a0g false (s.drop (i+n)):Nat)),H):=by
   intro n hn z hz H
   rw[hz];exact e2g _ _ hs _ om
  have ew1:IntKind.i64.wrap ((i:Int)+1)=(i:Int)+1:=a1k om
  generalize hR:a8p (s.drop i)=R at*
  refine a5u hlt ?_
  -- is it '_' alone?
  have hal:(decide ((s[i].toNat:Int)=95) && decide (((i+R:Nat):Int)=IntKind.i64.wrap ((i:Int)+1)))=decide (s[i]=95/\R=1):=by
   rw[ew1,<-Bool.decide_and]
   simp only[decide_eq_decide,f8o]
   constructor
   ·rintro⟨h1,h2⟩;exact⟨by show s[i].toNat=95;omega,om⟩
   ·rintro⟨h1,h2⟩;have h3:s[i].toNat=95:=h1;exact⟨om,om⟩
  have tail:∀ al:Bool,al=decide (s[i]=95/\R=1)->True:=fun _ _=>trivial
  clear tail
  refine And.intro (fun ha=>?_) (fun ha=>?_)
  ·refine Exists.intro _ (Exists.intro _ (And.intro (d7z _ _ i om hs) ?_))
   rw[hR]
   refine a5u hlt ?_
   refine Exists.intro _ (Exists.intro _ (And.intro (b9u _ _) ?_))
   refine And.intro (fun h4=>?_) (fun h4=>?_)
   ·have hpos:0 < R:=hR0.2 (by unfold c2e;rw[h4,Bool.or_true])
    have hbr:0 < R/\isD (hd0 (s.drop i))=true:=⟨hpos,by rw[hh0];exact h4⟩
    have hnum:=fun H:Hp=>c5c (fx:=fx) (F:=F) H s hs i om
    unfold e3u at hnum
    rw[hR]at hnum
    cases hb:b6k ((s.drop i).take R)with
    |true=>
     simp only[hb,if_true]at hnum
     have hT:a2p szL (s.drop i)=⟨3,(s.drop i).take R,c0c ((s.drop i).take R),R,0⟩:=by
      unfold a2p;rw[hR,if_pos hbr,if_pos hb]
     refine Exists.intro _ (Exists.intro _ (And.intro (hnum _) ?_))
     refine a0h rfl ?_
     have hn:=hn (by rw[hT])
     rw[hT]at hn
     have hk:=hk (by rw[hT])
     rw[hT]at hk
     simp only at hn hk
     have hsl:=a2u false (s.drop (i+R))
     rw[List.length_drop]at hsl
     refine And.intro ⟨rfl,by decide⟩ ?_
     refine And.intro ⟨rfl,by simp,⟨by simp;omega,by simp;omega⟩⟩ ?_
     refine Exists.intro _ (Exists.intro _ (And.intro (bl R om _ rfl _) ?_))
     refine⟨(_,_),hn,by simp only;omega,?_,?_⟩
     ·simp
     ·simp[TokQ.D,tkD,dg0]
    |false=>
     simp only[hb,if_false,Bool.false_eq_true]at hnum
     have hT:a2p szL (s.drop i)=⟨0,[],0,R,112⟩:=by
      unfold a2p;rw[hR,if_pos hbr,if_neg (by rw[hb];simp)]
     refine Exists.intro _ (Exists.intro _ (And.intro (hnum _) ?_))
     refine a0j rfl ?_
     show _=_
     rw[hx (by rw[hT];simp),hT]
     simp only[oneOf,c7f,dgD,List.map_nil,Int.natCast_add]
     try rfl
   ·refine a5u hlt ?_
    refine Exists.intro _ (Exists.intro _ (And.intro (c0m _ _) ?_))
    have h95:s[i]=95:=by rw[f8o];show s[i].toNat=95;have:=of_decide_eq_true ha;omega
    have hLt:isL s[i]=true:=by rw[h95];rfl
    rw[hLt]
    refine And.intro (fun _=>?_) (fun e=>by cases e)
    by_cases hR1':R=1
    ·have hnm:¬ (0 < R/\(s.drop i).take R≠[95]):=fun e=>e.2 ((hR1 h95).2 hR1')
     refine a0h (by simp[ew1,hR1']) ?_
     have hnb:¬ (0 < R/\isD (hd0 (s.drop i))=true):=by rw[hh0,h4];simp
     refine Exists.intro _ (Exists.intro _ (And.intro (c3f _ s i hlt om) ?_))
     by_cases hsg:a2z (s.drop i)=[]
     ·have hT:a2p szL (s.drop i)=⟨0,[],0,szL (s.drop i),111⟩:=by
       unfold a2p;rw[hR,if_neg hnb,if_neg hnm,if_neg (fun e=>e hsg)]
      refine a0h (by simp[hsg]) ?_
      refine Exists.intro _ (Exists.intro _ (And.intro (d8u _ s hs2 i hlt) ?_))
      refine Exists.intro _ (Exists.intro _ (And.intro (b7a _ 111 _ _) ?_))
      rw[show IntKind.i64.wrap ((i:Int)+(szL (s.drop i):Int))=((i+szL (s.drop i):Nat):Int)by rw[a1k om];omega]
      refine a0j rfl ?_
      show _=_
      rw[hx (by rw[hT];simp),hT]
      simp only[oneOf,c7f,dgD,List.map_nil,Int.natCast_add]
      try rfl
     ·have hT:a2p szL (s.drop i)=⟨4,a2z (s.drop i),0,(a2z (s.drop i)).length,0⟩:=by
       unfold a2p;rw[hR,if_neg hnb,if_neg hnm,if_pos hsg]
      have hsl2:(a2z (s.drop i)).length<=s.length - i:=by have:=hk (by rw[hT]);rw[hT]at this;exact this.2
      refine a0j (by simp[hsg]) ?_
      refine Exists.intro _ (Exists.intro _ (And.intro (c3f _ s i hlt om) ?_))
      have ews:IntKind.i64.wrap ((i:Int)+((a2z (s.drop i)).length:Int))=((i+(a2z (s.drop i)).length:Nat):Int):=by rw[a1k om];omega
      refine a0h rfl ?_
      have hn:=hn (by rw[hT])
      rw[hT]at hn
      have hk:=hk (by rw[hT])
      rw[hT]at hk
      simp only at hn hk
      have hsl:=a2u false (s.drop (i+(a2z (s.drop i)).length))
      rw[List.length_drop]at hsl
      refine And.intro ⟨rfl,by decide⟩ ?_
      refine And.intro ⟨rfl,by simp,⟨by simp;omega,by simp;omega⟩⟩ ?_
      refine Exists.intro _ (Exists.intro _ (And.intro (bl (a2z (s.drop i)).length hsl2 _ ews _) ?_))
      refine⟨(_,_),hn,by simp only;omega,?_,?_⟩
      ·simp
      ·simp[TokQ.D,tkD,dg0,ews]
    ·have hnm:0 < R/\(s.drop i).take R≠[95]:=⟨hR0.2 (by rw[h95];rfl),fun e=>hR1' ((hR1 h95).1 e)⟩
     refine a0j (by simp[ew1];omega) ?_
     have hnb:¬ (0 < R/\isD (hd0 (s.drop i))=true):=by rw[hh0,h4];simp
     have hnam:=fun H:Hp=>d9l (fx:=fx) (F:=F) H s hs i om
     unfold h2j at hnam
     rw[hR]at hnam
     by_cases h64:64 < R
     ·simp only[h64,if_true]at hnam
      have hT:a2p szL (s.drop i)=⟨0,[],0,R,2⟩:=by
       unfold a2p;rw[hR,if_neg hnb,if_pos hnm,if_pos h64]
      refine Exists.intro _ (Exists.intro _ (And.intro (hnam _) ?_))
      refine a0j rfl ?_
      show _=_
      rw[hx (by rw[hT];simp),hT]
      simp only[oneOf,c7f,dgD,List.map_nil,Int.natCast_add]
      try rfl
     ·simp only[h64,if_false]at hnam
      have hT:a2p szL (s.drop i)=⟨if c6l ((s.drop i).take R) then 2 else 1,(s.drop i).take R,0,R,0⟩:=by
       unfold a2p;rw[hR,if_neg hnb,if_pos hnm,if_neg h64]
      refine Exists.intro _ (Exists.intro _ (And.intro (hnam _) ?_))
      refine a0h rfl ?_
      have hn:=hn (by rw[hT])
      rw[hT]at hn
      have hk:=hk (by rw[hT])
      rw[hT]at hk
      simp only at hn hk
      have hsl:=a2u false (s.drop (i+R))
      rw[List.length_drop]at hsl
      refine And.intro ⟨rfl,by decide⟩ ?_
      refine And.intro ⟨rfl,by simp,⟨by simp;omega,by simp;omega⟩⟩ ?_
      refine Exists.intro _ (Exists.intro _ (And.intro (bl R om _ rfl _) ?_))
      refine⟨(_,_),hn,by simp only;omega,?_,?_⟩
      ·simp
      ·simp[TokQ.D,tkD,dg0]
  ·refine a5u hlt ?_
   refine Exists.intro _ (Exists.intro _ (And.intro (b9u _ _) ?_))
   refine And.intro (fun h4=>?_) (fun h4=>?_)
   ·have hpos:0 < R:=hR0.2 (by unfold c2e;rw[h4,Bool.or_true])
    have hbr:0 < R/\isD (hd0 (s.drop i))=true:=⟨hpos,by rw[hh0];exact h4⟩
    have hnum:=fun H:Hp=>c5c (fx:=fx) (F:=F) H s hs i om
    unfold e3u at hnum
    rw[hR]at hnum
    cases hb:b6k ((s.drop i).take R)with
    |true=>
     simp only[hb,if_true]at hnum
     have hT:a2p szL (s.drop i)=⟨3,(s.drop i).take R,c0c ((s.drop i).take R),R,0⟩:=by
      unfold a2p;rw[hR,if_pos hbr,if_pos hb]
     refine Exists.intro _ (Exists.intro _ (And.intro (hnum _) ?_))
     refine a0h rfl ?_
     have hn:=hn (by rw[hT])
     rw[hT]at hn
     have hk:=hk (by rw[hT])
     rw[hT]at hk
     simp only at hn hk
     have hsl:=a2u false (s.drop (i+R))
     rw[List.length_drop]at hsl
     refine And.intro ⟨rfl,by decide⟩ ?_
     refine And.intro ⟨rfl,by simp,⟨by simp;omega,by simp;omega⟩⟩ ?_
     refine Exists.intro _ (Exists.intro _ (And.intro (bl R om _ rfl _) ?_))
     refine⟨(_,_),hn,by simp only;omega,?_,?_⟩
     ·simp
     ·simp[TokQ.D,tkD,dg0]
    |false=>
     simp only[hb,if_false,Bool.false_eq_true]at hnum
     have hT:a2p szL (s.drop i)=⟨0,[],0,R,112⟩:=by
      unfold a2p;rw[hR,if_pos hbr,if_neg (by rw[hb];simp)]
     refine Exists.intro _ (Exists.intro _ (And.intro (hnum _) ?_))
     refine a0j rfl ?_
     show _=_
     rw[hx (by rw[hT];simp),hT]
     simp only[oneOf,c7f,dgD,List.map_nil,Int.natCast_add]
     try rfl
   ·refine a5u hlt ?_
    refine Exists.intro _ (Exists.intro _ (And.intro (c0m _ _) ?_))
    have h95:s[i]≠95:=by rw[ne_eq,f8o];show ¬ s[i].toNat=95;have:=of_decide_eq_false ha;omega
    cases hLt:isL s[i] with
    |true=>
     have hnm:0 < R/\(s.drop i).take R≠[95]:=⟨hR0.2 (by unfold c2e;rw[hLt,Bool.true_or]),hR2 h95⟩
     repeat' (first|refine a0j rfl ?_|refine And.intro (fun _=>?_) (fun e=>by cases e))
     have hnb:¬ (0 < R/\isD (hd0 (s.drop i))=true):=by rw[hh0,h4];simp
     have hnam:=fun H:Hp=>d9l (fx:=fx) (F:=F) H s hs i om
     unfold h2j at hnam
     rw[hR]at hnam
     by_cases h64:64 < R
     ·simp only[h64,if_true]at hnam
      have hT:a2p szL (s.drop i)=⟨0,[],0,R,2⟩:=by
       unfold a2p;rw[hR,if_neg hnb,if_pos hnm,if_pos h64]
      refine Exists.intro _ (Exists.intro _ (And.intro (hnam _) ?_))
      refine a0j rfl ?_
      show _=_
      rw[hx (by rw[hT];simp),hT]
      simp only[oneOf,c7f,dgD,List.map_nil,Int.natCast_add]
      try rfl
     ·simp only[h64,if_false]at hnam
      have hT:a2p szL (s.drop i)=⟨if c6l ((s.drop i).take R) then 2 else 1,(s.drop i).take R,0,R,0⟩:=by
       unfold a2p;rw[hR,if_neg hnb,if_pos hnm,if_neg h64]
      refine Exists.intro _ (Exists.intro _ (And.intro (hnam _) ?_))
      refine a0h rfl ?_
      have hn:=hn (by rw[hT])
      rw[hT]at hn
      have hk:=hk (by rw[hT])
      rw[hT]at hk
      simp only at hn hk
      have hsl:=a2u false (s.drop (i+R))
      rw[List.length_drop]at hsl
      refine And.intro ⟨rfl,by decide⟩ ?_
      refine And.intro ⟨rfl,by simp,⟨by simp;omega,by simp;omega⟩⟩ ?_
      refine Exists.intro _ (Exists.intro _ (And.intro (bl R om _ rfl _) ?_))
      refine⟨(_,_),hn,by simp only;omega,?_,?_⟩
      ·simp
      ·simp[TokQ.D,tkD,dg0]
    |false=>
     have hnm:¬ (0 < R/\(s.drop i).take R≠[95]):=fun e=>by
       have:=hR0.1 e.1
       unfold c2e at this;rw[hLt,h4]at this;cases this
     repeat' (first|refine a0h rfl ?_|refine And.intro (fun e=>by cases e) (fun _=>?_))
     have hnb:¬ (0 < R/\isD (hd0 (s.drop i))=true):=by rw[hh0,h4];simp
     refine Exists.intro _ (Exists.intro _ (And.intro (c3f _ s i hlt om) ?_))
     by_cases hsg:a2z (s.drop i)=[]
     ·have hT:a2p szL (s.drop i)=⟨0,[],0,szL (s.drop i),111⟩:=by
       unfold a2p;rw[hR,if_neg hnb,if_neg hnm,if_neg (fun e=>e hsg)]
      refine a0h (by simp[hsg]) ?_
      refine Exists.intro _ (Exists.intro _ (And.intro (d8u _ s hs2 i hlt) ?_))
      refine Exists.intro _ (Exists.intro _ (And.intro (b7a _ 111 _ _) ?_))
      rw[show IntKind.i64.wrap ((i:Int)+(szL (s.drop i):Int))=((i+szL (s.drop i):Nat):Int)by rw[a1k om];omega]
      refine a0j rfl ?_
      show _=_
      rw[hx (by rw[hT];simp),hT]
      simp only[oneOf,c7f,dgD,List.map_nil,Int.natCast_add]
      try rfl
     ·have hT:a2p szL (s.drop i)=⟨4,a2z (s.drop i),0,(a2z (s.drop i)).length,0⟩:=by
       unfold a2p;rw[hR,if_neg hnb,if_neg hnm,if_pos hsg]
      have hsl2:(a2z (s.drop i)).length<=s.length - i:=by have:=hk (by rw[hT]);rw[hT]at this;exact this.2
      refine a0j (by simp[hsg]) ?_
      refine Exists.intro _ (Exists.intro _ (And.intro (c3f _ s i hlt om) ?_))
      have ews:IntKind.i64.wrap ((i:Int)+((a2z (s.drop i)).length:Int))=((i+(a2z (s.drop i)).length:Nat):Int):=by rw[a1k om];omega
      refine a0h rfl ?_
      have hn:=hn (by rw[hT])
      rw[hT]at hn
      have hk:=hk (by rw[hT])
      rw[hT]at hk
      simp only at hn hk
      have hsl:=a2u false (s.drop (i+(a2z (s.drop i)).length))
      rw[List.length_drop]at hsl
      refine And.intro ⟨rfl,by decide⟩ ?_
      refine And.intro ⟨rfl,by simp,⟨by simp;omega,by simp;omega⟩⟩ ?_
      refine Exists.intro _ (Exists.intro _ (And.intro (bl (a2z (s.drop i)).length hsl2 _ ews _) ?_))
      refine⟨(_,_),hn,by simp only;omega,?_,?_⟩
      ·simp
      ·simp[TokQ.D,tkD,dg0,ews]
 ·replace hl:=of_decide_eq_false hl
  have hf:=hh.fin om
  refine And.intro ⟨rfl,by decide⟩ ?_
  refine And.intro ⟨rfl,by simp,⟨by simp;omega,by simp;omega⟩⟩ ?_
  refine And.intro (by simp) ?_
  show _=_
  rw[hf]
  simp[oneOf,c7f,dgD,TokQ.D,tkD,Dg.ok]
end
end Go.Vm.Lex
namespace Go.Vm.Ite
open Go.Vm.Lex (TokQ)
open Go.Vm.Pa
set_option maxHeartbeats 4000000
def crS (ks:K) (e:Int) (q:PS):PS:={q with n:=q.n+1,ns:=q.ns++[N.D ⟨1,[],0,ks.l⟩ 0 e]}
section
variable {fx:Nat->Option Obj} {l:List TokQ} {s s1 s2:PS} {n:Nat} {r:R}
theorem g1r (hl:LOk l) {p:R} {e:Int} (hs:okS l s=true) (h:go l n (.items K.o) s=some (p,s1)) (ck:okK p.ks=true) (hn:s1.ns.length=s1.n) (hn2:s1.n < 1000000):evF (pgL fx F0) a8c [.ptr 0 0,.d (.int .i64 e)] [PB l s,PR s]=some (.tup [],[PB l (crS p.ks e s1),PR (crS p.ks e s1)]):=by
 have IH:∀ m,m<=n->Sp fx l m:=fun m _=>h4j hl m
 have hroom:roomy (s1.n+1) 72:=by unfold roomy;omega
 refine a0e (b5o (F:=F0)) rfl rfl rfl ?_
 repeat' (first|refine a2q ⟨?_⟩|refine a0a 3 (by decide) (by decide) ?_|fail)
 refine a0o (α:=Nat×K×PS) (fun a=>a.1) (fun a=>[(0,.ptr 0 0),(4,.ptr 2 0)]) (fun a=>[PB l a.2.2,PR a.2.2,.box [i64 1,str [],i64 0,.row 3 a.2.1.n,i64 0,i64 e],.row 1 a.2.1.l]) (fun a=>a.1<=n/\go l a.1 (.items a.2.1) a.2.2=some (p,s1)/\okS l a.2.2=true) ?_ (n,K.o,_) ⟨Nat.le_refl _,h,hs⟩ rfl rfl
 rintro⟨m,ks,q⟩ ⟨hm,h,hq⟩
 dsimp only at hm h hq
 cases m with
 |zero=>cases h
 |succ m=>
 change Go.Vm.Pa.step l (go l m) (.items ks) q=_ at h
 simp only[Go.Vm.Pa.step,Go.Vm.Pa.mk,Go.Vm.Pa.ret,Go.Vm.Pa.a8x,Go.Vm.Pa.deeper,Go.Vm.Pa.step.newS,Go.Vm.Pa.step.numS,Go.Vm.Pa.step.pickS]at h
 repeat' (first|(cases h;done)|split at h)
 all_goals first
   |(simp only[Option.some.injEq,Prod.mk.injEq]at h;obtain⟨rfl,rfl⟩:=h
     try have ck2:= ‹okK ks=true›
     have ht:toD [PB l q,PR q,.box [i64 1,str [],i64 0,.row 3 ks.n,i64 0,i64 e],.row 1 ks.l] (.agg [i64 1,str [],i64 0,.row 3 ks.n,i64 0,i64 e])=some (N.D ⟨1,.nil,0,ks.l⟩ 0 e):=by
      simp[toD,a9y,d8b,a1c ck,N.D,D.one]
     repeat' (first|refine a2q ⟨?_⟩|refine a0a 8 (by decide) (by decide) ?_|refine Exists.intro _ (And.intro ht ?_)|refine And.intro ⟨rfl,hn,hroom⟩ ?_|refine And.intro ⟨rfl,by decide⟩ ?_|refine ca (a6r (by with_reducible assumption)) ?_|refine ca (b6r okQ) ?_|refine ca (f9c IH (by with_reducible assumption) om okQ) ?_|refine a0a 3 (by decide) (by decide) ?_|fail)
     exact rfl)
   |(have ck2:= ‹okK ks=true›
     repeat' (first|refine a2q ⟨?_⟩|refine And.intro ⟨rfl,a1c ck2,a1i ck2⟩ ?_|refine And.intro ⟨rfl,by decide⟩ ?_|refine ca (a6r (by with_reducible assumption)) ?_|refine ca (b6r okQ) ?_|refine ca (f9c IH (by with_reducible assumption) om okQ) ?_|refine a0a 3 (by decide) (by decide) ?_|fail)
     exact⟨(m,_,_),⟨om,h,okQ⟩,by dsimp only;omega,rfl,rfl⟩)
def b8l (l:List TokQ) (s:PS):PS:=if okB s && !decide ((now l s).k=5) then a2n l 120 s else s
def d8x (l:List TokQ) (e:Int) (s:PS) (t:List Tp.Nd):List Tp.Nd×D:=
 if okB (b8l l s) then
  if 20000 < t.length then([],Lex.dgD 2 0 e)
  else if 400 < Itr.f4c t then([],Lex.dgD 121 0 e)
  else(t,Lex.dgD 0 0 0)
 else([],Lex.dgD (b8l l s).bc (b8l l s).bf (b8l l s).be)
theorem i2o {t:List Tp.Nd} {e:Int} (hs:okS l s=true) (ht:s.ns=t.map Tp.Nd.D) (hn:s.n=t.length) (h2:t.length<=1000000) (hkl:∀ x∈t,x.kids.length<=1048576) (hk:∀ x∈t,∀ k∈x.kids,0<=k/\k.toNat < t.length):evF (pgL fx F0) c5h [.ptr 0 0,.d (.int .i64 e)] [PB l s,PR s]=some (.tup [.d (Tp.a6q (d8x l e s t).1),.d (d8x l e s t).2],[PB l (b8l l s),PR (b8l l s)]):=by
 have hlen:s.ns.length=s.n:=by rw[ht,hn,List.length_map]
 refine a0e (d7t (F:=F0)) rfl rfl rfl ?_
 cases c1:okB s with
 |false=>
  have e1:b8l l s=s:=by unfold b8l;rw[c1];rfl
  unfold d8x
  rw[e1,c1]
  repeat' (first|refine a2q ⟨?_⟩|refine ca (a6r c1) ?_|refine ca (b6r hs) ?_|refine a0a 3 (by decide) (by decide) ?_|fail)
  exact rfl
 |true=>
  by_cases c2:(now l s).k=5
  ·have d2:(!decide ((now l s).k=5))=false:=by rw[decide_eq_true c2];rfl
   have e1:b8l l s=s:=by unfold b8l;rw[c1,d2];rfl
   unfold d8x
   rw[e1,c1,if_pos rfl]
   by_cases c3:20000 < t.length
   ·have d3:(20000:Int) < (s.n:Int):=om
    rw[if_pos c3]
    repeat' (first|refine a2q ⟨?_⟩|refine ca (a6r c1) ?_|refine ca (b6r hs) ?_|refine a0a 3 (by decide) (by decide) ?_|fail)
    exact rfl
   ·have d3:¬ (20000:Int) < (s.n:Int):=om
    rw[if_neg c3]
    have hd:=fun H=>Itr.e3r (fx:=fx) (F:=F0) H t om hkl hk
    rw[show Tp.a6q t= .agg [.sl s.ns] from by rw[ht];rfl]at hd
    by_cases c4:400 < Itr.f4c t
    ·rw[if_pos c4]
     repeat' (first|refine a2q ⟨?_⟩|refine ca (a6r c1) ?_|refine ca (b6r hs) ?_|refine ca (hd _) ?_|refine And.intro hlen ?_|refine a0a 3 (by decide) (by decide) ?_|fail)
     exact rfl
    ·rw[if_neg c4]
     repeat' (first|refine a2q ⟨?_⟩|refine ca (a6r c1) ?_|refine ca (b6r hs) ?_|refine ca (hd _) ?_|refine And.intro hlen ?_|refine a0a 3 (by decide) (by decide) ?_|fail)
     rw[show Tp.a6q t= .agg [.sl s.ns] from by rw[ht];rfl]
     first|exact rfl|exact⟨rfl,rfl⟩|(refine And.intro hlen ?_;exact⟨rfl,rfl⟩)
  ·have d2:(!decide ((now l s).k=5))=true:=by rw[decide_eq_false c2];rfl
   have e1:b8l l s=a2n l 120 s:=by unfold b8l;rw[c1,d2];rfl
   have c5:okB (a2n l 120 s)=false:=by unfold a2n;rw[c1,if_pos rfl];rfl
   unfold d8x
   rw[e1,c5]
   repeat' (first|refine a2q ⟨?_⟩|refine ca (a6r c1) ?_|refine ca (b6r hs) ?_|refine ca (c1x hs) ?_|refine ca (a6r c5) ?_|refine a0a 3 (by decide) (by decide) ?_|fail)
   exact rfl
end
end Go.Vm.Ite
namespace Go.Vm.Ite
open Go.Vm.Lex (TokQ Dg a3c c7f dgD)
open Go.Vm.Pa
set_option maxHeartbeats 4000000
def PS0:PS:=⟨0,0,[],0,0,0,0⟩
abbrev ZB:Ob:= .box [i64 0,i64 0,i64 0]
abbrev DB (c f e:Int):Ob:= .box [i64 c,i64 f,i64 e]
abbrev X0:Hp:=[.box [.nils],ZB]
abbrev PB6 (l:List TokQ) (s:PS):Ob:= .box [.d (.sl (l.map g2r)),.d (.int .i64 s.at_),.d (.int .i64 s.deep),.row 6 s.n,.d (.int .i64 s.bc),.d (.int .i64 s.bf),.d (.int .i64 s.be)]
abbrev X1 (l:List TokQ) (c f e:Int) (s:PS):Hp:=[.box [.nils],ZB,DB c f e,DB c f e,PB6 l s,DB c f e,PR s]
section
variable {fx:Nat->Option Obj} {l:List TokQ}
theorem e6p (src:S) (h:65536 < src.length):evF (pgL fx F0) b9o [str src] X0=some (.tup [.nul,.d (dgD 2 0 0)],X0++[DB 2 0 0]):=by
 refine c5q (b8h (F:=F0)) rfl rfl ?_
 have h':(65536:Int) < (src.length:Int):=om
 refine run ⟨?_⟩
 exact⟨_,rfl,rfl,rfl⟩
theorem e9r (src:S) (h:src.length<=65536):evF (pgL fx F0) b9o [str src] X0=some (.tup [.ptr 4 0,.d (dgD (a3c src).2.c (a3c src).2.f (a3c src).2.e)],X0++[DB (a3c src).2.c (a3c src).2.f (a3c src).2.e,DB (a3c src).2.c (a3c src).2.f (a3c src).2.e,.box [.d (.sl ((a3c src).1.map g2r)),i64 0,i64 0,.nils,i64 0,i64 0,i64 0]]):=by
 refine c5q (b8h (F:=F0)) rfl rfl ?_
 have h':¬ (65536:Int) < (src.length:Int):=om
 have tk:=fun H=>Lex.e4e (fx:=fx) (F:=F0) H src (by unfold maxLen;omega)
 have hg:grew (X0++[ZB,DB (a3c src).2.c (a3c src).2.f (a3c src).2.e]) ((X0++[ZB,DB (a3c src).2.c (a3c src).2.f (a3c src).2.e])++[.box [.d (.sl ((a3c src).1.map g2r)),i64 0,i64 0,.nils,i64 0,i64 0,i64 0]])=true:=(d3y _ _).trans rfl
 repeat' (first|refine run ⟨?_⟩|refine ca (tk _) ?_|refine And.intro hg ?_|fail)
 exact⟨_,rfl,rfl,rfl⟩
theorem d3o (src:S) (H:Hp) {c f e:Int} (hc:c≠0) (h:(65536 < src.length/\c=2/\f=0/\e=0)\/(src.length<=65536/\c=(a3c src).2.c/\f=(a3c src).2.f/\e=(a3c src).2.e)):evF (pgL fx F0) b2i [str src] H=some (.tup [.d (Tp.a6q []),.d (dgD c f e)],H):=by
 refine a5v (b8f (F:=F0)) rfl rfl ?_ H
 have hn:(!decide (c=0))=true:=by rw[decide_eq_false hc];rfl
 rcases h with⟨h1,rfl,rfl,rfl⟩|⟨h1,rfl,rfl,rfl⟩
 ·have hb:=e6p (fx:=fx) src h1
  repeat' (first|refine run ⟨?_⟩|refine ca (hb) ?_|fail)
  exact rfl
 ·have hb:=e9r (fx:=fx) src h1
  repeat' (first|refine run ⟨?_⟩|refine ca (hb) ?_|fail)
  exact rfl
theorem f6d (src:S) (H:Hp) (h1:src.length<=65536) (hc:(a3c src).2.c=0) (hl:l=(a3c src).1) (hok:LOk l) (h0:okS l PS0=true) {p:R} {s1:PS} {n:Nat} (hg:go l n (.items K.o) PS0=some (p,s1)) (ck:okK p.ks=true) (hn:s1.ns.length=s1.n) (hn2:s1.n < 1000000) (h3:okS l s1=true)
 {t:List Tp.Nd} (ht:(crS p.ks src.length s1).ns=t.map Tp.Nd.D) (hkl:∀ x∈t,x.kids.length<=1048576) (hk:∀ x∈t,∀ k∈x.kids,0<=k/\k.toNat < t.length):
 evF (pgL fx F0) b2i [str src] H=some (.tup [.d (Tp.a6q (d8x l src.length (crS p.ks src.length s1) t).1),.d (d8x l src.length (crS p.ks src.length s1) t).2],H):=by
 subst hl
 refine a5v (b8f (F:=F0)) rfl rfl ?_ H
 have hnb:(!decide ((a3c src).2.c=0))=false:=by rw[decide_eq_true hc];rfl
 have hb:=e9r (fx:=fx) src h1
 have htl:t.length=s1.n+1:=by
  have:=congrArg List.length ht
  rw[List.length_map]at this
  rw[<-this]
  show(s1.ns++[_]).length=_
  rw[List.length_append,hn];rfl
 have hcr:evF (pgL fx F0) a8c [.ptr 4 0,.d (.int .i64 (src.length:Int))] (X1 (a3c src).1 (a3c src).2.c (a3c src).2.f (a3c src).2.e PS0)=some (.tup [],X1 (a3c src).1 (a3c src).2.c (a3c src).2.f (a3c src).2.e (crS p.ks src.length s1)):=
  a2t (mv fx) [4,6] (g1r hok h0 hg ck hn hn2) rfl rfl rfl rfl rfl
 have hen:evF (pgL fx F0) c5h [.ptr 4 0,.d (.int .i64 (src.length:Int))] (X1 (a3c src).1 (a3c src).2.c (a3c src).2.f (a3c src).2.e (crS p.ks src.length s1))=some (.tup [.d (Tp.a6q (d8x (a3c src).1 src.length (crS p.ks src.length s1) t).1),.d (d8x (a3c src).1 src.length (crS p.ks src.length s1) t).2],X1 (a3c src).1 (a3c src).2.c (a3c src).2.f (a3c src).2.e (b8l (a3c src).1 (crS p.ks src.length s1))):=
  a2t (mv fx) [4,6] (i2o (s:=crS p.ks src.length s1) h3 ht htl.symm om hkl hk) rfl rfl rfl rfl rfl
 obtain⟨tt,cc,ff,ee,he⟩:∃ tt cc ff ee,d8x (a3c src).1 src.length (crS p.ks src.length s1) t=(tt,dgD cc ff ee):=by
  unfold d8x
  split
  ·split
   ·exact⟨_,_,_,_,rfl⟩
   ·split
    ·exact⟨_,_,_,_,rfl⟩
    ·exact⟨_,_,_,_,rfl⟩
  ·exact⟨_,_,_,_,rfl⟩
 rw[he]at hen⊢
 repeat' (first|refine run ⟨?_⟩|refine ca (hb) ?_|refine ca (hcr) ?_|refine ca (hen) ?_|fail)
 exact rfl
end
end Go.Vm.Ite
