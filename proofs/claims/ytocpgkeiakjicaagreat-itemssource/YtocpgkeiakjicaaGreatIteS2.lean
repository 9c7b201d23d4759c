import Derived.Test.YtocpgkeiakjicaaGreatTreP8
import Derived.Lib.IndexLaws
import Derived.Test.YtocpgkeiakjicaaGreatItlW5
import Derived.Test.YtocpgkeiakjicaaGreatTreP5
import Derived.Test.YtocpgkeiakjicaaGreatIteW9
set_option maxRecDepth 100000
set_option linter.unusedVariables false
set_option linter.unusedSimpArgs false
namespace Go.Vm.Tp
open Go.Vm.Lex
def a1v (c:UInt8) (k:Int):Bool:=
 if c=84 then a3x k
 else if c=83 then e7i k
 else if c=69 then d7p k
 else if c=80 then f3s k
 else if c=66 then decide (k=20)
 else if c=73 then decide (k=2\/k=3\/k=4)
 else if c=70 then decide (k=5)
 else if c=86 then decide (k=6)
 else if c=77 then decide (k=7)
 else if c=65 then decide (k=47)
 else if c=74 then decide (k=36)
 else decide (k=20\/k=45)
def a0h (k:Int):List (List UInt8):=
 if k=1 then[[42,73]]
 else if k=2 then[[102,110]]
 else if k=3 then[[42,70]]
 else if k=4 then[[42,86]]
 else if k=5\/k=7\/k=14\/k=15\/k=16 then[[84]]
 else if k=6 then[[],[84]]
 else if k=20 then[[98,108,111,99,107]]
 else if k=21 then[[69],[84,69]]
 else if k=22\/k=36\/k=41\/k=39\/k=40\/k=42\/k=44\/k=43 then[[69]]
 else if k=23\/k=38 then[[69,69]]
 else if k=24 then[[69,66]]
 else if k=25\/k=37 then[[],[69]]
 else if k=34 then[[42,69]]
 else if k=35 then[[42,74]]
 else if k=45 then[[69,66],[69,66,88]]
 else if k=46 then[[69,42,65]]
 else if k=47 then[[80,69]]
 else if k=54 then[[],[80]]
 else[[]]
def goR:List UInt8->List Int->Bool
 |[],l=>decide (l=[])
 |42::c::_,l=>l.all (a1v c)
 |c::s,l=>match l with|[]=>false|a::r=>a1v c a && goR s r
def fnR (v:Int) (ks:List Int):Bool:=decide (2<=ks.length) && decide (v=ks.length - 2) && a3x (ks.getD (ks.length - 2) 0) && decide (ks.getD (ks.length - 1) 0=20) && (ks.take (ks.length - 2)).all (a1v 77)
def c4q (v:Int) (ks:List Int):Bool:= !(decide (v=1) && (decide (ks.length=0)|| !d7p (ks.getD (ks.length - 1) 0))) && (ks.take (ks.length - v.toNat)).all (a1v 83)
def a0p (v:Int) (ks:List Int) (f:List UInt8):Bool:=if f=[102,110] then fnR v ks else if f=[98,108,111,99,107] then c4q v ks else goR f ks
def b1k (k v:Int):Bool:=
 if k=2 then true
 else if k=7\/k=20\/k=21\/k=31\/k=53\/k=43 then decide (v=0)||decide (v=1)
 else if k=30 then decide (0<=v)
 else if k=52 then !decide (v= -9223372036854775808)
 else decide (v=0)
theorem e7s {k v:Int} (hv:I64 v) (p:Int):b7m k v p=if k=2 then decide (v=p) else b1k k v:=by
 unfold b7m b1k
 by_cases h:k=2
 ·rw[if_pos h,if_pos h]
 rw[if_neg h,if_neg h,if_neg h]
 by_cases h5:k=52
 ·subst h5
  simp only[I64]at hv
  simp
  by_cases e:v= -9223372036854775808
  ·simp[e]
  ·rw[decide_eq_false e,decide_eq_true om];rfl
 ·simp only[h5,if_false]
theorem g8w (c:UInt8) (hc:c≠42) (s:List UInt8) (l:List Int):goR (c::s) l=match l with|[]=>false|a::r=>a1v c a && goR s r:=by
  cases s with
  |nil=>cases l<;>simp only[goR]
  |cons d s=>cases l<;>simp[goR,hc]
theorem g8t (v:Int) (ks:List Int):fnR v ks=(decide (v=params ks) && a0q 2 v ks):=by
 rw[Bool.eq_iff_iff]
 constructor
 ·intro h
  unfold fnR at h
  simp only[Bool.and_eq_true,decide_eq_true_eq]at h
  obtain⟨⟨⟨⟨h1,h2⟩,h3⟩,h4⟩,h5⟩:=h
  have hd:ks.drop (ks.length - 2)=[ks.getD (ks.length - 2) 0,ks.getD (ks.length - 1) 0]:=by
   have l1:ks.length - 2 < ks.length:=om
   have l2:ks.length - 2+1 < ks.length:=om
   rw[List.drop_eq_getElem_cons l1,List.drop_eq_getElem_cons l2,List.drop_of_length_le om]
   have e:ks.length - 2+1=ks.length - 1:=om
   simp only[e,List.getD_eq_getElem?_getD,List.getElem?_eq_getElem l1,Option.getD_some]
   rw[List.getElem?_eq_getElem (by omega:ks.length - 1 < ks.length)];rfl
  have h7:∀ k∈ks.take (ks.length - 2),k=7:=fun k hk=>by
    have:=List.all_eq_true.1 h5 k hk
    simpa [a1v] using this
  have hp:params ks=((ks.length - 2:Nat):Int):=by
   conv=>lhs;rw[<-List.take_append_drop (ks.length - 2) ks,hd]
   rw[c5d h7 h3 h4,List.length_take];omega
  rw[Bool.and_eq_true,decide_eq_true_eq,hp]
  refine⟨om,?_⟩
  have e:a0q 2 v ks=(decide (([]:List UInt8).length+([116,98]:List UInt8).length<=ks.length) && (a0k [] (ks.take ([]:List UInt8).length) && ((ks.take (ks.length - ([116,98]:List UInt8).length)).drop ([]:List UInt8).length).all (a4l 113) && a0k [116,98] (ks.drop (ks.length - ([116,98]:List UInt8).length)))):=rfl
  rw[e]
  simp only[Bool.and_eq_true,decide_eq_true_eq,List.length_nil,List.length_cons,List.drop_zero,Nat.zero_add,hd]
  refine⟨om,⟨⟨rfl,?_⟩,?_⟩⟩
  ·rw[List.all_eq_true];intro k hk;rw[h7 k hk];rfl
  ·rw[h4];simp only[a0k,a4l];rw[show a3x (ks.getD (ks.length - 2) 0)=true from h3];simp
 ·intro h
  simp only[Bool.and_eq_true,decide_eq_true_eq]at h
  obtain⟨h1,h2⟩:=h
  obtain⟨ps,a,b,rfl,h3,h4,h5⟩:=d1j h2
  rw[c5d h3 h4 h5]at h1
  unfold fnR
  have hl:(ps++[a,b]).length=ps.length+2:=by simp
  rw[hl]
  simp only[Bool.and_eq_true,decide_eq_true_eq]
  refine⟨⟨⟨⟨om,om⟩,?_⟩,?_⟩,?_⟩
  ·simpa using h4
  ·simpa using h5
  ·rw[show ps.length+2 - 2=ps.length by omega,List.take_left',List.all_eq_true]
   ·intro k hk;rw[h3 k hk];rfl
   ·rfl
theorem f0e (k:Int):a1v 83 k=e7i k:=by simp[a1v]
theorem f9i (k:Int):a4l 115 k=e7i k:=by simp[a4l]
theorem f6a (v:Int) (ks:List Int) (hv:v=0\/v=1):c4q v ks=a0q 20 v ks:=by
 rcases hv with rfl|rfl
 ·have e:a0q 20 0 ks=(decide (([]:List UInt8).length+([]:List UInt8).length<=ks.length) && (a0k [] (ks.take ([]:List UInt8).length) && ((ks.take (ks.length - ([]:List UInt8).length)).drop ([]:List UInt8).length).all (a4l 115) && a0k [] (ks.drop (ks.length - ([]:List UInt8).length)))):=rfl
  rw[e]
  unfold c4q
  have e3:(a1v 83)=a4l 115:=by funext k;rw[f0e,f9i]
  rw[e3]
  simp[a0k]
 ·have e:a0q 20 1 ks=(decide (([]:List UInt8).length+([101]:List UInt8).length<=ks.length) && (a0k [] (ks.take ([]:List UInt8).length) && ((ks.take (ks.length - ([101]:List UInt8).length)).drop ([]:List UInt8).length).all (a4l 115) && a0k [101] (ks.drop (ks.length - ([101]:List UInt8).length)))):=rfl
  rw[e]
  unfold c4q
  rcases Nat.eq_zero_or_pos ks.length with h0|h0
  ·have:ks=[]:=List.length_eq_zero_iff.1 h0
   subst this;rfl
  have l1:ks.length - 1 < ks.length:=om
  have hd:ks.drop (ks.length - 1)=[ks.getD (ks.length - 1) 0]:=by
   rw[List.drop_eq_getElem_cons l1,List.drop_of_length_le om]
   simp only[List.getD_eq_getElem?_getD,List.getElem?_eq_getElem l1,Option.getD_some]
  simp only[List.length_nil,List.length_cons,Nat.zero_add,List.drop_zero,hd]
  have e2:∀ a,a0k [101] [a]=d7p a:=fun a=>by simp[a0k,a4l]
  have e3:(a1v 83)=a4l 115:=by funext k;rw[f0e,f9i]
  rw[e2,e3]
  have n0:¬ ks.length=0:=om
  simp only[n0,decide_false,decide_true,Bool.true_and,Bool.false_or,Bool.not_not,decide_eq_true (by omega:1<=ks.length),show(1:Int).toNat=1 from rfl,List.take_zero]
  rw[show a0k [] ([]:List Int)=true from rfl]
  cases d7p (ks.getD (ks.length - 1) 0)<;>simp
theorem anyR {v:Int} {ks:List Int}:∀ k:Int,(k=2->v=params ks)->(k=20->v=0\/v=1)->(a0h k).any (a0p v ks)=a0q k v ks:=by
 intro k h2 h20
 have cT:∀ a,a1v 84 a=a4l 116 a:=fun a=>by simp[a1v,a4l]
 have cE:∀ a,a1v 69 a=a4l 101 a:=fun a=>by simp[a1v,a4l]
 have cP:∀ a,a1v 80 a=a4l 112 a:=fun a=>by simp[a1v,a4l]
 have cB:∀ a,a1v 66 a=a4l 98 a:=fun a=>by simp[a1v,a4l]
 have cX:∀ a,a1v 88 a=a4l 111 a:=fun a=>by simp[a1v,a4l]
 have cI:∀ a,a1v 73 a=a4l 105 a:=fun a=>by simp[a1v,a4l]
 have cF:∀ a,a1v 70 a=a4l 102 a:=fun a=>by simp[a1v,a4l]
 have cV:∀ a,a1v 86 a=a4l 118 a:=fun a=>by simp[a1v,a4l]
 have cA:∀ a,a1v 65 a=a4l 97 a:=fun a=>by simp[a1v,a4l]
 have cJ:∀ a,a1v 74 a=a4l 110 a:=fun a=>by simp[a1v,a4l]
 have star:∀ (c d:UInt8) (m:Bool),(∀ a,a1v c a=a4l d a)->goR [42,c] ks=(decide (0+0<=ks.length) && (a0k [] (ks.take 0) && ((ks.take (ks.length - 0)).drop 0).all (a4l d) && a0k [] (ks.drop (ks.length - 0)))):=by
  intro c d _ h
  simp[goR,a0k,List.drop_length]
  congr 1;funext a;exact h a
 by_cases k2:k=2
 ·subst k2
  have h2:=h2 rfl
  show(a0p v ks [102,110]||false)=_
  rw[Bool.or_false,show a0p v ks [102,110]=fnR v ks from rfl,g8t,decide_eq_true h2,Bool.true_and]
 by_cases k20:k=20
 ·subst k20
  show(a0p v ks [98,108,111,99,107]||false)=_
  rw[Bool.or_false,show a0p v ks [98,108,111,99,107]=c4q v ks from rfl,f6a v ks (h20 rfl)]
 by_cases k1:k=1
 ·subst k1
  show(a0p v ks [42,73]||false)=_
  rw[Bool.or_false]
  exact star 73 105 true cI
 by_cases k3:k=3
 ·subst k3
  show(a0p v ks [42,70]||false)=_
  rw[Bool.or_false]
  exact star 70 102 true cF
 by_cases k4:k=4
 ·subst k4
  show(a0p v ks [42,86]||false)=_
  rw[Bool.or_false]
  exact star 86 118 true cV
 by_cases k34:k=34
 ·subst k34
  show(a0p v ks [42,69]||false)=_
  rw[Bool.or_false]
  exact star 69 101 true cE
 by_cases k35:k=35
 ·subst k35
  show(a0p v ks [42,74]||false)=_
  rw[Bool.or_false]
  exact star 74 110 true cJ
 by_cases k5:k=5
 ·subst k5
  match ks with
  |[]=>rfl
  |[a]=>simp[a0h,a0p,goR,a0q,a0i,a0k,cT,cE,cP,cB,cX]
  |[a,b]=>simp[a0h,a0p,goR,a0q,a0i,a0k,cT,cE,cP,cB,cX]
  |[a,b,c]=>simp[a0h,a0p,goR,a0q,a0i,a0k,cT,cE,cP,cB,cX]
  |a::b::c::d::r=>simp[a0h,a0p,goR,a0q,a0i,a0k,cT,cE,cP,cB,cX]
 by_cases k7:k=7
 ·subst k7
  match ks with
  |[]=>rfl
  |[a]=>simp[a0h,a0p,goR,a0q,a0i,a0k,cT,cE,cP,cB,cX]
  |[a,b]=>simp[a0h,a0p,goR,a0q,a0i,a0k,cT,cE,cP,cB,cX]
  |[a,b,c]=>simp[a0h,a0p,goR,a0q,a0i,a0k,cT,cE,cP,cB,cX]
  |a::b::c::d::r=>simp[a0h,a0p,goR,a0q,a0i,a0k,cT,cE,cP,cB,cX]
 by_cases k14:k=14
 ·subst k14
  match ks with
  |[]=>rfl
  |[a]=>simp[a0h,a0p,goR,a0q,a0i,a0k,cT,cE,cP,cB,cX]
  |[a,b]=>simp[a0h,a0p,goR,a0q,a0i,a0k,cT,cE,cP,cB,cX]
  |[a,b,c]=>simp[a0h,a0p,goR,a0q,a0i,a0k,cT,cE,cP,cB,cX]
  |a::b::c::d::r=>simp[a0h,a0p,goR,a0q,a0i,a0k,cT,cE,cP,cB,cX]
 by_cases k15:k=15
 ·subst k15
  match ks with
  |[]=>rfl
  |[a]=>simp[a0h,a0p,goR,a0q,a0i,a0k,cT,cE,cP,cB,cX]
  |[a,b]=>simp[a0h,a0p,goR,a0q,a0i,a0k,cT,cE,cP,cB,cX]
  |[a,b,c]=>simp[a0h,a0p,goR,a0q,a0i,a0k,cT,cE,cP,cB,cX]
  |a::b::c::d::r=>simp[a0h,a0p,goR,a0q,a0i,a0k,cT,cE,cP,cB,cX]
 by_cases k16:k=16
 ·subst k16
  match ks with
  |[]=>rfl
  |[a]=>simp[a0h,a0p,goR,a0q,a0i,a0k,cT,cE,cP,cB,cX]
  |[a,b]=>simp[a0h,a0p,goR,a0q,a0i,a0k,cT,cE,cP,cB,cX]
  |[a,b,c]=>simp[a0h,a0p,goR,a0q,a0i,a0k,cT,cE,cP,cB,cX]
  |a::b::c::d::r=>simp[a0h,a0p,goR,a0q,a0i,a0k,cT,cE,cP,cB,cX]
 by_cases k6:k=6
 ·subst k6
  match ks with
  |[]=>rfl
  |[a]=>simp[a0h,a0p,goR,a0q,a0i,a0k,cT,cE,cP,cB,cX]
  |[a,b]=>simp[a0h,a0p,goR,a0q,a0i,a0k,cT,cE,cP,cB,cX]
  |[a,b,c]=>simp[a0h,a0p,goR,a0q,a0i,a0k,cT,cE,cP,cB,cX]
  |a::b::c::d::r=>simp[a0h,a0p,goR,a0q,a0i,a0k,cT,cE,cP,cB,cX]
 by_cases k21:k=21
 ·subst k21
  match ks with
  |[]=>rfl
  |[a]=>simp[a0h,a0p,goR,a0q,a0i,a0k,cT,cE,cP,cB,cX]
  |[a,b]=>simp[a0h,a0p,goR,a0q,a0i,a0k,cT,cE,cP,cB,cX]
  |[a,b,c]=>simp[a0h,a0p,goR,a0q,a0i,a0k,cT,cE,cP,cB,cX]
  |a::b::c::d::r=>simp[a0h,a0p,goR,a0q,a0i,a0k,cT,cE,cP,cB,cX]
 by_cases k22:k=22
 ·subst k22
  match ks with
  |[]=>rfl
  |[a]=>simp[a0h,a0p,goR,a0q,a0i,a0k,cT,cE,cP,cB,cX]
  |[a,b]=>simp[a0h,a0p,goR,a0q,a0i,a0k,cT,cE,cP,cB,cX]
  |[a,b,c]=>simp[a0h,a0p,goR,a0q,a0i,a0k,cT,cE,cP,cB,cX]
  |a::b::c::d::r=>simp[a0h,a0p,goR,a0q,a0i,a0k,cT,cE,cP,cB,cX]
 by_cases k36:k=36
 ·subst k36
  match ks with
  |[]=>rfl
  |[a]=>simp[a0h,a0p,goR,a0q,a0i,a0k,cT,cE,cP,cB,cX]
  |[a,b]=>simp[a0h,a0p,goR,a0q,a0i,a0k,cT,cE,cP,cB,cX]
  |[a,b,c]=>simp[a0h,a0p,goR,a0q,a0i,a0k,cT,cE,cP,cB,cX]
  |a::b::c::d::r=>simp[a0h,a0p,goR,a0q,a0i,a0k,cT,cE,cP,cB,cX]
 by_cases k41:k=41
 ·subst k41
  match ks with
  |[]=>rfl
  |[a]=>simp[a0h,a0p,goR,a0q,a0i,a0k,cT,cE,cP,cB,cX]
  |[a,b]=>simp[a0h,a0p,goR,a0q,a0i,a0k,cT,cE,cP,cB,cX]
  |[a,b,c]=>simp[a0h,a0p,goR,a0q,a0i,a0k,cT,cE,cP,cB,cX]
  |a::b::c::d::r=>simp[a0h,a0p,goR,a0q,a0i,a0k,cT,cE,cP,cB,cX]
 by_cases k39:k=39
 ·subst k39
  match ks with
  |[]=>rfl
  |[a]=>simp[a0h,a0p,goR,a0q,a0i,a0k,cT,cE,cP,cB,cX]
  |[a,b]=>simp[a0h,a0p,goR,a0q,a0i,a0k,cT,cE,cP,cB,cX]
  |[a,b,c]=>simp[a0h,a0p,goR,a0q,a0i,a0k,cT,cE,cP,cB,cX]
  |a::b::c::d::r=>simp[a0h,a0p,goR,a0q,a0i,a0k,cT,cE,cP,cB,cX]
 by_cases k40:k=40
 ·subst k40
  match ks with
  |[]=>rfl
  |[a]=>simp[a0h,a0p,goR,a0q,a0i,a0k,cT,cE,cP,cB,cX]
  |[a,b]=>simp[a0h,a0p,goR,a0q,a0i,a0k,cT,cE,cP,cB,cX]
  |[a,b,c]=>simp[a0h,a0p,goR,a0q,a0i,a0k,cT,cE,cP,cB,cX]
  |a::b::c::d::r=>simp[a0h,a0p,goR,a0q,a0i,a0k,cT,cE,cP,cB,cX]
 by_cases k42:k=42
 ·subst k42
  match ks with
  |[]=>rfl
  |[a]=>simp[a0h,a0p,goR,a0q,a0i,a0k,cT,cE,cP,cB,cX]
  |[a,b]=>simp[a0h,a0p,goR,a0q,a0i,a0k,cT,cE,cP,cB,cX]
  |[a,b,c]=>simp[a0h,a0p,goR,a0q,a0i,a0k,cT,cE,cP,cB,cX]
  |a::b::c::d::r=>simp[a0h,a0p,goR,a0q,a0i,a0k,cT,cE,cP,cB,cX]
 by_cases k44:k=44
 ·subst k44
  match ks with
  |[]=>rfl
  |[a]=>simp[a0h,a0p,goR,a0q,a0i,a0k,cT,cE,cP,cB,cX]
  |[a,b]=>simp[a0h,a0p,goR,a0q,a0i,a0k,cT,cE,cP,cB,cX]
  |[a,b,c]=>simp[a0h,a0p,goR,a0q,a0i,a0k,cT,cE,cP,cB,cX]
  |a::b::c::d::r=>simp[a0h,a0p,goR,a0q,a0i,a0k,cT,cE,cP,cB,cX]
 by_cases k43:k=43
 ·subst k43
  match ks with
  |[]=>rfl
  |[a]=>simp[a0h,a0p,goR,a0q,a0i,a0k,cT,cE,cP,cB,cX]
  |[a,b]=>simp[a0h,a0p,goR,a0q,a0i,a0k,cT,cE,cP,cB,cX]
  |[a,b,c]=>simp[a0h,a0p,goR,a0q,a0i,a0k,cT,cE,cP,cB,cX]
  |a::b::c::d::r=>simp[a0h,a0p,goR,a0q,a0i,a0k,cT,cE,cP,cB,cX]
 by_cases k23:k=23
 ·subst k23
  match ks with
  |[]=>rfl
  |[a]=>simp[a0h,a0p,goR,a0q,a0i,a0k,cT,cE,cP,cB,cX]
  |[a,b]=>simp[a0h,a0p,goR,a0q,a0i,a0k,cT,cE,cP,cB,cX]
  |[a,b,c]=>simp[a0h,a0p,goR,a0q,a0i,a0k,cT,cE,cP,cB,cX]
  |a::b::c::d::r=>simp[a0h,a0p,goR,a0q,a0i,a0k,cT,cE,cP,cB,cX]
 by_cases k38:k=38
 ·subst k38
  match ks with
  |[]=>rfl
  |[a]=>simp[a0h,a0p,goR,a0q,a0i,a0k,cT,cE,cP,cB,cX]
  |[a,b]=>simp[a0h,a0p,goR,a0q,a0i,a0k,cT,cE,cP,cB,cX]
  |[a,b,c]=>simp[a0h,a0p,goR,a0q,a0i,a0k,cT,cE,cP,cB,cX]
  |a::b::c::d::r=>simp[a0h,a0p,goR,a0q,a0i,a0k,cT,cE,cP,cB,cX]
 by_cases k24:k=24
 ·subst k24
  match ks with
  |[]=>rfl
  |[a]=>simp[a0h,a0p,goR,a0q,a0i,a0k,cT,cE,cP,cB,cX]
  |[a,b]=>simp[a0h,a0p,goR,a0q,a0i,a0k,cT,cE,cP,cB,cX]
  |[a,b,c]=>simp[a0h,a0p,goR,a0q,a0i,a0k,cT,cE,cP,cB,cX]
  |a::b::c::d::r=>simp[a0h,a0p,goR,a0q,a0i,a0k,cT,cE,cP,cB,cX]
 by_cases k25:k=25
 ·subst k25
  match ks with
  |[]=>rfl
  |[a]=>simp[a0h,a0p,goR,a0q,a0i,a0k,cT,cE,cP,cB,cX]
  |[a,b]=>simp[a0h,a0p,goR,a0q,a0i,a0k,cT,cE,cP,cB,cX]
  |[a,b,c]=>simp[a0h,a0p,goR,a0q,a0i,a0k,cT,cE,cP,cB,cX]
  |a::b::c::d::r=>simp[a0h,a0p,goR,a0q,a0i,a0k,cT,cE,cP,cB,cX]
 by_cases k37:k=37
 ·subst k37
  match ks with
  |[]=>rfl
  |[a]=>simp[a0h,a0p,goR,a0q,a0i,a0k,cT,cE,cP,cB,cX]
  |[a,b]=>simp[a0h,a0p,goR,a0q,a0i,a0k,cT,cE,cP,cB,cX]
  |[a,b,c]=>simp[a0h,a0p,goR,a0q,a0i,a0k,cT,cE,cP,cB,cX]
  |a::b::c::d::r=>simp[a0h,a0p,goR,a0q,a0i,a0k,cT,cE,cP,cB,cX]
 by_cases k45:k=45
 ·subst k45
  match ks with
  |[]=>rfl
  |[a]=>simp[a0h,a0p,goR,a0q,a0i,a0k,cT,cE,cP,cB,cX]
  |[a,b]=>simp[a0h,a0p,goR,a0q,a0i,a0k,cT,cE,cP,cB,cX]
  |[a,b,c]=>simp[a0h,a0p,goR,a0q,a0i,a0k,cT,cE,cP,cB,cX]
  |a::b::c::d::r=>simp[a0h,a0p,goR,a0q,a0i,a0k,cT,cE,cP,cB,cX]
 by_cases k47:k=47
 ·subst k47
  match ks with
  |[]=>rfl
  |[a]=>simp[a0h,a0p,goR,a0q,a0i,a0k,cT,cE,cP,cB,cX]
  |[a,b]=>simp[a0h,a0p,goR,a0q,a0i,a0k,cT,cE,cP,cB,cX]
  |[a,b,c]=>simp[a0h,a0p,goR,a0q,a0i,a0k,cT,cE,cP,cB,cX]
  |a::b::c::d::r=>simp[a0h,a0p,goR,a0q,a0i,a0k,cT,cE,cP,cB,cX]
 by_cases k54:k=54
 ·subst k54
  match ks with
  |[]=>rfl
  |[a]=>simp[a0h,a0p,goR,a0q,a0i,a0k,cT,cE,cP,cB,cX]
  |[a,b]=>simp[a0h,a0p,goR,a0q,a0i,a0k,cT,cE,cP,cB,cX]
  |[a,b,c]=>simp[a0h,a0p,goR,a0q,a0i,a0k,cT,cE,cP,cB,cX]
  |a::b::c::d::r=>simp[a0h,a0p,goR,a0q,a0i,a0k,cT,cE,cP,cB,cX]
 by_cases k46:k=46
 ·subst k46
  show(a0p v ks [69,42,65]||false)=(decide (1+0<=ks.length) && (a0k [101] (ks.take 1) && ((ks.take (ks.length - 0)).drop 1).all (a4l 97) && a0k [] (ks.drop (ks.length - 0))))
  rw[Bool.or_false]
  cases ks with
  |nil=>rfl
  |cons a r=>
   show(a1v 69 a && r.all (a1v 65))=_
   have e:a1v 65=a4l 97:=by funext a;exact cA a
   rw[cE,e]
   simp[a0k]
 have e1:a0h k=[[]]:=by unfold a0h;simp only[k1,k3,k4,k34,k35,k5,k7,k14,k15,k16,k6,k21,k22,k36,k41,k39,k40,k42,k44,k43,k23,k38,k24,k25,k37,k45,k47,k54,k46,k2,k20,if_false,or_self]
 have e2:a0q k v ks=a0k [] ks:=by unfold a0q a0i;simp only[k1,k3,k4,k34,k35,k5,k7,k14,k15,k16,k6,k21,k22,k36,k41,k39,k40,k42,k44,k43,k23,k38,k24,k25,k37,k45,k47,k54,k46,k2,k20,if_false,or_self]
 rw[e1,e2]
 show(goR [] ks||false)=_
 rw[Bool.or_false];rfl
def g0v (t:List Nd) (i:Nat):Bool:=
 let x:=t.getD i default
 a4b x.k && (nmB x.k x.t && (b1k x.k x.v && (decide (0<=x.f) && (decide (x.f<=x.e) && (x.kids.all (fun k=>decide (0<=k) && decide (k < i)) && (a0h x.k).any (a0p x.v (kinds t x.kids)))))))
theorem g3h (t:List Nd) (i:Nat) (hv:I64 (t.getD i default).v):g0v t i=a9x t i:=by
 unfold g0v a9x
 simp only
 generalize t.getD i default=x at hv
 obtain⟨q,tx,v,kids,f,e⟩:=x
 simp only at hv⊢
 rw[e7s hv]
 cases a4b q
 ·simp
 cases nmB q tx
 ·simp
 cases decide (0<=f)
 ·simp
 cases decide (f<=e)
 ·simp
 cases kids.all (fun k=>decide (0<=k) && decide (k < (i:Int)))
 ·simp
 simp only[Bool.true_and,Bool.and_true]
 by_cases k2:q=2
 ·subst k2
  rw[if_pos rfl,show b1k 2 v=true from rfl,Bool.true_and]
  show(a0p v (kinds t kids) [102,110]||false)=_
  rw[Bool.or_false,show a0p v (kinds t kids) [102,110]=fnR v (kinds t kids)from rfl,g8t]
 rw[if_neg k2]
 cases hc:b1k q v with
 |false=>simp
 |true=>
  simp only[Bool.true_and]
  refine anyR q (fun e=>absurd e k2) (fun e=>?_)
  subst e
  have:(decide (v=0)||decide (v=1))=true:=hc
  simpa using this
theorem b4y {p:Int->Bool} {ks:List Int} {n:Nat} (hn:n<=ks.length):(ks.take n).all p=true↔∀ j,j < n->p (ks.getD j 0)=true:=by
 rw[List.all_eq_true]
 constructor
 ·intro h j hj
  refine h _ ?_
  rw[List.getD_eq_getElem?_getD,List.getElem?_eq_getElem (by omega:j < ks.length)]
  exact List.mem_take_iff_getElem.2 ⟨j,om,rfl⟩
 ·intro h k hk
  obtain⟨j,hj,rfl⟩:=List.mem_take_iff_getElem.1 hk
  have:=h j om
  rwa [List.getD_eq_getElem?_getD,List.getElem?_eq_getElem (by omega:j < ks.length)]at this
theorem e2i {p:Int->Bool} {ks:List Int} {n:Nat}:(ks.drop n).all p=true↔∀ j,n<=j->j < ks.length->p (ks.getD j 0)=true:=by
 rw[List.all_eq_true]
 constructor
 ·intro h j hj hl
  refine h _ ?_
  rw[List.getD_eq_getElem?_getD,List.getElem?_eq_getElem hl]
  exact List.mem_drop_iff_getElem.2 ⟨j - n,om,by simp[show n+(j - n)=j by omega]⟩
 ·intro h k hk
  obtain⟨j,hj,rfl⟩:=List.mem_drop_iff_getElem.1 hk
  have:=h (n+j) om om
  rwa [List.getD_eq_getElem?_getD,List.getElem?_eq_getElem (by omega:n+j < ks.length)]at this
theorem c1b {α:Type} {p:α->Bool} {l:List α} (h:¬ l.all p=true):l.all p=false:=by
 cases hb:l.all p with
 |false=>rfl
 |true=>exact absurd hb h
theorem c3g {t:List Nd} {l:List Int} {i:Nat} (h:i < l.length):(kinds t l).getD i 0=b4e t (l.getD i 0):=by
 unfold kinds
 simp only[List.getD_eq_getElem?_getD,List.getElem?_map,List.getElem?_eq_getElem h,Option.map_some,Option.getD_some]
theorem c5m {t:List Nd} {l:List Int}:(kinds t l).length=l.length:=List.length_map ..
theorem occ2 (s:List UInt8) (i:Nat):decide ((s.take (i+2)).drop i=[58,58])=Lib.occAt s [58,58] i:=by
 rw[List.drop_take,show i+2 - i=2 by omega]
 unfold Lib.occAt
 match s.drop i with
 |[]=>rfl
 |[a]=>
  show decide (([a]:List UInt8)=[58,58])=(((58:UInt8)==a) && false)
  rw[Bool.and_false];exact decide_eq_false (by simp)
 |a::b::r=>
  show decide (([a,b]:List UInt8)=[58,58])=(((58:UInt8)==a) && (((58:UInt8)==b) && true))
  rw[Bool.eq_iff_iff]
  simp only[decide_eq_true_eq,List.cons.injEq,and_true,Bool.and_true,Bool.and_eq_true,beq_iff_eq]
  constructor
  ·rintro⟨h1,h2⟩;exact⟨h1.symm,h2.symm⟩
  ·rintro⟨h1,h2⟩;exact⟨h1.symm,h2.symm⟩
theorem g5a {s:List UInt8} {i:Nat} (h:Lib.NoOcc s [58,58] i) (hi:i+2<=s.length) (ho:Lib.occAt s [58,58] i=true):c3f s=(s.take i,s.drop (i+2),true):=by
 unfold c3f Lib.cut
 rw[Lib.index_hit h om ho,if_pos om]
 rfl
theorem f7j {s:List UInt8} {i:Nat} (h:Lib.NoOcc s [58,58] i) (hi:s.length < i+2):(c3f s).2.2=false:=by
 unfold c3f Lib.cut
 rw[Lib.index_past (by simp) h (by simpa using hi)]
 rfl
end Go.Vm.Tp
namespace Go.Vm.Itr
open Go.Vm.Ite
open Go.Vm.Tp
open Go.Vm.Lex (a3c)
section
variable {fx:Nat->Option Obj} {F:Nat->Option a0t} [HC F] (H:Hp)
theorem c8m (k:Int):evF (pgL fx F) c7d [i64 k] H=some (boo (a3x k),H):=by
 have _u:=(inferInstance:HC F)
 refine a1d (c7e (F:=F)) rfl rfl ?_ H
 unfold a3x
 by_cases h1:10<=k
 ·refine run ⟨?_⟩
  rw[decide_eq_true h1];exact rfl
 ·refine run ⟨?_⟩
  rw[decide_eq_false h1];exact rfl
theorem c8a (k:Int):evF (pgL fx F) c7a [i64 k] H=some (boo (e7i k),H):=by
 have _u:=(inferInstance:HC F)
 refine a1d (c6s (F:=F)) rfl rfl ?_ H
 unfold e7i
 by_cases h1:21<=k
 ·refine run ⟨?_⟩
  rw[decide_eq_true h1];exact rfl
 ·refine run ⟨?_⟩
  rw[decide_eq_false h1];exact rfl
theorem b7o (k:Int):evF (pgL fx F) c0i [i64 k] H=some (boo (f3s k),H):=by
 have _u:=(inferInstance:HC F)
 refine a1d (c1e (F:=F)) rfl rfl ?_ H
 unfold f3s
 by_cases h1:50<=k
 ·refine run ⟨?_⟩
  rw[decide_eq_true h1];exact rfl
 ·refine run ⟨?_⟩
  rw[decide_eq_false h1];exact rfl
theorem e5s (k:Int):evF (pgL fx F) c6t [i64 k] H=some (boo (d7p k),H):=by
 have _u:=(inferInstance:HC F)
 refine a1d (c7f (F:=F)) rfl rfl ?_ H
 unfold d7p
 by_cases h0:k=20
 ·refine run ⟨?_⟩
  rw[decide_eq_true h0];exact rfl
 by_cases h1:30<=k
 ·by_cases h2:k<=46
  ·refine run ⟨?_⟩
   rw[decide_eq_false h0,decide_eq_true h1,decide_eq_true h2];exact rfl
  ·refine run ⟨?_⟩
   rw[decide_eq_false h0,decide_eq_true h1,decide_eq_false h2];exact rfl
 ·refine run ⟨?_⟩
  rw[decide_eq_false h0,decide_eq_false h1];exact rfl
theorem b7s (k:Int) (c:UInt8):evF (pgL fx F) e5j [i64 k,u8 c] H=some (boo (a1v c k),H):=by
 refine a1d (e5w (F:=F)) rfl rfl ?_ H
 by_cases c84:c=84
 ·subst c84
  repeat' (first|refine run ⟨?_⟩|refine ca (c8m _ _) ?_|fail)
  exact rfl
 by_cases c83:c=83
 ·subst c83
  repeat' (first|refine run ⟨?_⟩|refine ca (c8a _ _) ?_|fail)
  exact rfl
 by_cases c69:c=69
 ·subst c69
  repeat' (first|refine run ⟨?_⟩|refine ca (e5s _ _) ?_|fail)
  exact rfl
 by_cases c80:c=80
 ·subst c80
  repeat' (first|refine run ⟨?_⟩|refine ca (b7o _ _) ?_|fail)
  exact rfl
 by_cases c66:c=66
 ·subst c66
  refine run ⟨?_⟩
  exact rfl
 by_cases c73:c=73
 ·subst c73
  by_cases k2:k=2
  ·subst k2
   refine run ⟨?_⟩
   exact rfl
  by_cases k3:k=3
  ·subst k3
   refine run ⟨?_⟩
   exact rfl
  rw[show a1v 73 k=decide (k=4)by simp[a1v,k2,k3]]
  refine run ⟨?_⟩
  exact rfl
 by_cases c70:c=70
 ·subst c70
  refine run ⟨?_⟩
  exact rfl
 by_cases c86:c=86
 ·subst c86
  refine run ⟨?_⟩
  exact rfl
 by_cases c77:c=77
 ·subst c77
  refine run ⟨?_⟩
  exact rfl
 by_cases c65:c=65
 ·subst c65
  refine run ⟨?_⟩
  exact rfl
 by_cases c74:c=74
 ·subst c74
  refine run ⟨?_⟩
  exact rfl
 have e:a1v c k=decide (k=20\/k=45):=by unfold a1v;simp[c84,c83,c69,c80,c66,c73,c70,c86,c77,c65,c74]
 rw[e]
 have n84:decide ((c.toNat:Int)=84)=false:=c2r c84 rfl
 have n83:decide ((c.toNat:Int)=83)=false:=c2r c83 rfl
 have n69:decide ((c.toNat:Int)=69)=false:=c2r c69 rfl
 have n80:decide ((c.toNat:Int)=80)=false:=c2r c80 rfl
 have n66:decide ((c.toNat:Int)=66)=false:=c2r c66 rfl
 have n73:decide ((c.toNat:Int)=73)=false:=c2r c73 rfl
 have n70:decide ((c.toNat:Int)=70)=false:=c2r c70 rfl
 have n86:decide ((c.toNat:Int)=86)=false:=c2r c86 rfl
 have n77:decide ((c.toNat:Int)=77)=false:=c2r c77 rfl
 have n65:decide ((c.toNat:Int)=65)=false:=c2r c65 rfl
 have n74:decide ((c.toNat:Int)=74)=false:=c2r c74 rfl
 by_cases k20:k=20
 ·subst k20
  refine run ⟨?_⟩
  exact rfl
 rw[show decide (k=20\/k=45)=decide (k=45)by simp[k20]]
 refine run ⟨?_⟩
 exact rfl
set_option maxHeartbeats 2000000 in
theorem f2q (x:Nd):evF (pgL fx F) d0v [ndV x] H=some (.d (.sl ((a0h x.k).map .str)),H):=by
 have _u:=(inferInstance:HC F)
 obtain⟨k,t,v,kids,f,e⟩:=x
 refine a1d (d2h (F:=F)) rfl rfl ?_ H
 by_cases c1:k=1
 ·subst c1
  refine run ⟨?_⟩
  exact rfl
 by_cases c2:k=2
 ·subst c2
  refine run ⟨?_⟩
  exact rfl
 by_cases c3:k=3
 ·subst c3
  refine run ⟨?_⟩
  exact rfl
 by_cases c4:k=4
 ·subst c4
  refine run ⟨?_⟩
  exact rfl
 by_cases c5:k=5
 ·subst c5
  refine run ⟨?_⟩
  exact rfl
 by_cases c7:k=7
 ·subst c7
  refine run ⟨?_⟩
  exact rfl
 by_cases c14:k=14
 ·subst c14
  refine run ⟨?_⟩
  exact rfl
 by_cases c15:k=15
 ·subst c15
  refine run ⟨?_⟩
  exact rfl
 by_cases c16:k=16
 ·subst c16
  refine run ⟨?_⟩
  exact rfl
 by_cases c6:k=6
 ·subst c6
  refine run ⟨?_⟩
  exact rfl
 by_cases c20:k=20
 ·subst c20
  refine run ⟨?_⟩
  exact rfl
 by_cases c21:k=21
 ·subst c21
  refine run ⟨?_⟩
  exact rfl
 by_cases c22:k=22
 ·subst c22
  refine run ⟨?_⟩
  exact rfl
 by_cases c36:k=36
 ·subst c36
  refine run ⟨?_⟩
  exact rfl
 by_cases c41:k=41
 ·subst c41
  refine run ⟨?_⟩
  exact rfl
 by_cases c39:k=39
 ·subst c39
  refine run ⟨?_⟩
  exact rfl
 by_cases c40:k=40
 ·subst c40
  refine run ⟨?_⟩
  exact rfl
 by_cases c42:k=42
 ·subst c42
  refine run ⟨?_⟩
  exact rfl
 by_cases c44:k=44
 ·subst c44
  refine run ⟨?_⟩
  exact rfl
 by_cases c43:k=43
 ·subst c43
  refine run ⟨?_⟩
  exact rfl
 by_cases c23:k=23
 ·subst c23
  refine run ⟨?_⟩
  exact rfl
 by_cases c38:k=38
 ·subst c38
  refine run ⟨?_⟩
  exact rfl
 by_cases c24:k=24
 ·subst c24
  refine run ⟨?_⟩
  exact rfl
 by_cases c25:k=25
 ·subst c25
  refine run ⟨?_⟩
  exact rfl
 by_cases c37:k=37
 ·subst c37
  refine run ⟨?_⟩
  exact rfl
 by_cases c34:k=34
 ·subst c34
  refine run ⟨?_⟩
  exact rfl
 by_cases c35:k=35
 ·subst c35
  refine run ⟨?_⟩
  exact rfl
 by_cases c45:k=45
 ·subst c45
  refine run ⟨?_⟩
  exact rfl
 by_cases c46:k=46
 ·subst c46
  refine run ⟨?_⟩
  exact rfl
 by_cases c47:k=47
 ·subst c47
  refine run ⟨?_⟩
  exact rfl
 by_cases c54:k=54
 ·subst c54
  refine run ⟨?_⟩
  exact rfl
 have e0:a0h k=[[]]:=by
  unfold a0h
  simp only[c1,c2,c3,c4,c5,c7,c14,c15,c16,c6,c20,c21,c22,c36,c41,c39,c40,c42,c44,c43,c23,c38,c24,c25,c37,c34,c35,c45,c46,c47,c54,if_false,or_self]
 rw[e0]
 refine run ⟨?_⟩
 exact rfl
theorem d9l (x:Nd):evF (pgL fx F) c5g [ndV x] H=some (boo (b1k x.k x.v),H):=by
 have _u:=(inferInstance:HC F)
 obtain⟨k,t,v,kids,f,e⟩:=x
 simp only
 refine a1d (c4w (F:=F)) rfl rfl ?_ H
 by_cases h2:k=2
 ·subst h2
  refine run ⟨?_⟩
  exact rfl
 by_cases hA:k=7\/k=20\/k=21\/k=31\/k=53\/k=43
 ·have e0:b1k k v=(decide (v=0)||decide (v=1)):=by unfold b1k;rw[if_neg h2,if_pos hA]
  rw[e0]
  rcases hA with rfl|rfl|rfl|rfl|rfl|rfl
  all_goals
   by_cases h0:v=0
   ·subst h0
    refine run ⟨?_⟩
    exact rfl
   ·refine run ⟨?_⟩
    rw[decide_eq_false h0];exact rfl
 have e1:b1k k v=(if k=30 then decide (0<=v) else if k=52 then !decide (v= -9223372036854775808) else decide (v=0)):=by unfold b1k;rw[if_neg h2,if_neg hA]
 rw[e1]
 simp only[not_or]at hA
 obtain⟨a1,a2,a3,a4,a5,a6⟩:=hA
 by_cases h30:k=30
 ·subst h30
  refine run ⟨?_⟩
  exact rfl
 rw[if_neg h30]
 by_cases h52:k=52
 ·subst h52
  refine run ⟨?_⟩
  exact rfl
 rw[if_neg h52]
 refine run ⟨?_⟩
 exact rfl
theorem f3i (k:Int):evF (pgL fx F) d1p [i64 k] H=some (boo (a4b k),H):=by
 refine a1d (d0e (F:=F)) rfl rfl ?_ H
 repeat' (first|refine run ⟨?_⟩|refine ca (c8m _ _) ?_|refine ca (c8a _ _) ?_|refine ca (b7o _ _) ?_|refine And.intro (fun h=>?_) (fun h=>?_)|fail)
 all_goals
  show V.d (D.bool _)=V.d (D.bool _)
  refine congrArg (fun b=>V.d (D.bool b)) ?_
  rw[Bool.eq_iff_iff]
  simp only[a4b,a3x,e7i,f3s,d7p,Bool.or_eq_true,Bool.and_eq_true,Bool.and_eq_false_iff,Bool.not_eq_true',Bool.not_false,Bool.not_true,decide_eq_true_eq,decide_eq_false_iff_not]at*
  constructor<;>intro hh<;>first|trivial|omega|exact absurd hh Bool.false_ne_true
def f2e (s:List UInt8):Int:=if s=[124,124] then 1 else if s=[38,38] then 2 else if s=[61,61]\/s=[33,61]\/s=[60]\/s=[62]\/s=[60,61]\/s=[62,61] then 3 else if s=[43]\/s=[45] then 4 else if s=[42]\/s=[47]\/s=[37] then 5 else 0
theorem b4r (s:List UInt8):evF (pgL fx F) d4i [str s] H=some (i64 (f2e s),H):=by
 have _u:=(inferInstance:HC F)
 refine a1d (d6j (F:=F)) rfl rfl ?_ H
 by_cases c0:s=[124,124]
 ·subst c0
  refine run ⟨?_⟩
  exact rfl
 by_cases c1:s=[38,38]
 ·subst c1
  refine run ⟨?_⟩
  exact rfl
 by_cases c2:s=[61,61]
 ·subst c2
  refine run ⟨?_⟩
  exact rfl
 by_cases c3:s=[33,61]
 ·subst c3
  refine run ⟨?_⟩
  exact rfl
 by_cases c4:s=[60]
 ·subst c4
  refine run ⟨?_⟩
  exact rfl
 by_cases c5:s=[62]
 ·subst c5
  refine run ⟨?_⟩
  exact rfl
 by_cases c6:s=[60,61]
 ·subst c6
  refine run ⟨?_⟩
  exact rfl
 by_cases c7:s=[62,61]
 ·subst c7
  refine run ⟨?_⟩
  exact rfl
 by_cases c8:s=[43]
 ·subst c8
  refine run ⟨?_⟩
  exact rfl
 by_cases c9:s=[45]
 ·subst c9
  refine run ⟨?_⟩
  exact rfl
 by_cases c10:s=[42]
 ·subst c10
  refine run ⟨?_⟩
  exact rfl
 by_cases c11:s=[47]
 ·subst c11
  refine run ⟨?_⟩
  exact rfl
 by_cases c12:s=[37]
 ·subst c12
  refine run ⟨?_⟩
  exact rfl
 have e0:f2e s=0:=by
  unfold f2e
  simp only[c0,c1,c2,c3,c4,c5,c6,c7,c8,c9,c10,c11,c12,if_false,or_self]
 rw[e0]
 refine run ⟨?_⟩
 exact rfl
end
end Go.Vm.Itr
namespace Go.Vm.Itr
open Go.Vm.Ite
open Go.Vm.Tp
open Go.Vm.Lex (a3c)
theorem gK {l:List Int} {j:Nat} (h:j < l.length):(l.map (D.int .i64))[j]? =some (.int .i64 (l.getD j 0)):=by rw[List.getElem?_map,a9z h 0];rfl
abbrev TB (t:List Nd):Ob:= .box [.d (.sl (t.map Nd.D))]
abbrev XB (x:Nd):Ob:= .box [i64 x.k,str x.t,i64 x.v,ints x.kids,i64 x.f,i64 x.e]
section
variable {fx:Nat->Option Obj} {F:Nat->Option a0t} [HC F] (H:Hp)
theorem e0u (t:List Nd) (x:Nd) (i:Nat) (hi:i < x.kids.length) (hk:∀ k∈x.kids,0<=k/\k < t.length):evF (pgL fx F) d7r [.d (a1r t),ndV x,i64 i] H=some (i64 (b4e t (x.kids.getD i 0)),H):=by
 have _u:=(inferInstance:HC F)
 refine a1d (d9f (F:=F)) rfl rfl ?_ H
 obtain⟨q,tx,v,kids,f,e⟩:=x
 simp only at hi hk⊢
 have h1:=hk _ (List.getElem_mem hi)
 have e1:kids.getD i 0=kids[i]:=by simp[hi]
 rw[<-e1]at h1
 repeat' (first|refine run ⟨?_⟩|refine a0a (d:= .int .i64 (kids.getD i 0)) ⟨om,gK hi⟩ ?_|refine a0a (d:=(nd t (kids.getD i 0).toNat).D) (b0w h1.1 h1.2) ?_|fail)
 exact rfl
set_option maxHeartbeats 1000000 in
theorem f6y (t:List Nd) (x:Nd) (hkl:x.kids.length<=1048576) (hk:∀ k∈x.kids,0<=k/\k < t.length):evF (pgL fx F) b0f [.d (a1r t),ndV x,str [102,110]] H=some (boo (fnR x.v (kinds t x.kids)),H):=by
 refine a1d (b4l (F:=F)) rfl rfl ?_ H
 have hkid:=fun(i:Nat) (hi:i < x.kids.length) (H:Hp)=>e0u (fx:=fx) (F:=F) H t x i hi hk
 have hg:=fun(i:Nat) (hi:i < x.kids.length)=>c3g (t:=t) hi
 have hl:=c5m (t:=t) (l:=x.kids)
 have hml:(x.kids.map (D.int .i64)).length=x.kids.length:=List.length_map ..
 unfold fnR
 rw[hl]
 obtain⟨ks,hks⟩:∃ ks,ks=kinds t x.kids:=⟨_,rfl⟩
 rw[<-hks]at hl hg⊢
 by_cases c1:x.kids.length < 2
 ·have d1:((x.kids.map (D.int .i64)).length:Int) < 2:=om
  refine run ⟨?_⟩
  rw[decide_eq_false (by omega:¬ 2<=x.kids.length)];exact rfl
 have d1:¬ ((x.kids.map (D.int .i64)).length:Int) < 2:=om
 have w1:IntKind.i64.wrap (((x.kids.map (D.int .i64)).length:Int) - 2)=((x.kids.length - 2:Nat):Int):=by rw[hml,a0w om];omega
 have w2:IntKind.i64.wrap (((x.kids.map (D.int .i64)).length:Int) - 1)=((x.kids.length - 1:Nat):Int):=by rw[hml,a0w om];omega
 rw[decide_eq_true (by omega:2<=x.kids.length)]
 by_cases c2:x.v=(x.kids.length:Int) - 2
 rotate_left
 ·have d2:(!decide (x.v=IntKind.i64.wrap (((x.kids.map (D.int .i64)).length:Int) - 2)))=true:=by rw[w1,decide_eq_false om];rfl
  refine run ⟨?_⟩
  rw[decide_eq_false c2];exact rfl
 have d2:(!decide (x.v=IntKind.i64.wrap (((x.kids.map (D.int .i64)).length:Int) - 2)))=false:=by rw[w1,decide_eq_true om];rfl
 rw[decide_eq_true c2]
 have hk2:=fun H=>hkid (x.kids.length - 2) om H
 rw[<-w1]at hk2
 rw[<-hg _ om]at hk2
 cases c3:a3x (ks.getD (x.kids.length - 2) 0)with
 |false=>
  have hr:=fun H=>b7s (fx:=fx) (F:=F) H (ks.getD (x.kids.length - 2) 0) 84
  rw[show a1v 84 (ks.getD (x.kids.length - 2) 0)=false from c3]at hr
  repeat' (first|refine run ⟨?_⟩|refine ca (hk2 _) ?_|refine ca (hr _) ?_|fail)
  exact rfl
 |true=>
  have hr:=fun H=>b7s (fx:=fx) (F:=F) H (ks.getD (x.kids.length - 2) 0) 84
  rw[show a1v 84 (ks.getD (x.kids.length - 2) 0)=true from c3]at hr
  have hk1:=fun H=>hkid (x.kids.length - 1) om H
  rw[<-w2]at hk1
  rw[<-hg _ om]at hk1
  have hr2:=fun H=>b7s (fx:=fx) (F:=F) H (ks.getD (x.kids.length - 1) 0) 66
  have e66:a1v 66 (ks.getD (x.kids.length - 1) 0)=decide (ks.getD (x.kids.length - 1) 0=20):=rfl
  by_cases c4:ks.getD (x.kids.length - 1) 0=20
  rotate_left
  ·rw[e66,decide_eq_false c4]at hr2
   repeat' (first|refine run ⟨?_⟩|refine ca (hk2 _) ?_|refine ca (hr _) ?_|refine ca (hk1 _) ?_|refine ca (hr2 _) ?_|fail)
   rw[decide_eq_false c4];exact rfl
  rw[e66,decide_eq_true c4]at hr2
  rw[decide_eq_true c4]
  repeat' (first|refine run ⟨?_⟩|refine ca (hk2 _) ?_|refine ca (hr _) ?_|refine ca (hk1 _) ?_|refine ca (hr2 _) ?_|fail)
  refine a0g (α:=Nat) (fun i=>x.kids.length - i) (fun i=>[(3,.ptr 0 0),(4,.ptr 1 0),(7,i64 x.kids.length),(8,i64 i)]) (fun _=>[TB t,XB x]) (fun i=>i<=x.kids.length - 2/\∀ j,j < i->a1v 77 (ks.getD j 0)=true) ?_ 0 ⟨om,om⟩ ?_ rfl
  ·rintro i ⟨hi,hall⟩
   have w3:IntKind.i64.wrap ((x.kids.length:Int) - 2)=((x.kids.length - 2:Nat):Int):=by rw[a0w om];omega
   by_cases h:i < x.kids.length - 2
   ·have h':(i:Int) < IntKind.i64.wrap ((x.kids.length:Int) - 2):=om
    have hki:=fun H=>hkid i om H
    rw[<-hg _ om]at hki
    have hri:=fun H=>b7s (fx:=fx) (F:=F) H (ks.getD i 0) 77
    cases hc:a1v 77 (ks.getD i 0)with
    |false=>
     rw[hc]at hri
     repeat' (first|refine run ⟨?_⟩|refine ca (hki _) ?_|refine ca (hri _) ?_|fail)
     rw[c1b (p:=a1v 77) (l:=ks.take (x.kids.length - 2)) (fun e=>by rw[b4y om]at e;have:=e i h;rw[hc]at this;cases this)];exact rfl
    |true=>
     rw[hc]at hri
     repeat' (first|refine run ⟨?_⟩|refine ca (hki _) ?_|refine ca (hri _) ?_|fail)
     refine⟨i+1,⟨om,fun j hj=>?_⟩,om,by rw[a0w om];rfl,rfl⟩
     by_cases e:j=i
     ·rw[e];exact hc
     ·exact hall j om
   ·have h':¬ (i:Int) < IntKind.i64.wrap ((x.kids.length:Int) - 2):=om
    refine run ⟨?_⟩
    rw[(b4y (p:=a1v 77) om).2 (fun j hj=>hall j om)];exact rfl
  ·show[_,_,(7,i64 ((x.kids.map (D.int .i64)).length:Int)),_]=_
   rw[hml];rfl
set_option maxHeartbeats 1000000 in
theorem d8a (t:List Nd) (x:Nd) (hkl:x.kids.length<=1048576) (hk:∀ k∈x.kids,0<=k/\k < t.length) (hv:x.v=0\/x.v=1):evF (pgL fx F) b0f [.d (a1r t),ndV x,str [98,108,111,99,107]] H=some (boo (c4q x.v (kinds t x.kids)),H):=by
 refine a1d (b4l (F:=F)) rfl rfl ?_ H
 have hkid:=fun(i:Nat) (hi:i < x.kids.length) (H:Hp)=>e0u (fx:=fx) (F:=F) H t x i hi hk
 have hg:=fun(i:Nat) (hi:i < x.kids.length)=>c3g (t:=t) hi
 have hl:=c5m (t:=t) (l:=x.kids)
 have hml:(x.kids.map (D.int .i64)).length=x.kids.length:=List.length_map ..
 unfold c4q
 rw[hl]
 obtain⟨ks,hks⟩:∃ ks,ks=kinds t x.kids:=⟨_,rfl⟩
 rw[<-hks]at hl hg⊢
 have loop:∀ Q:Prop,True:=fun _=>trivial
 by_cases c1:x.v=1
 ·by_cases c2:x.kids.length=0
  ·have d2:((x.kids.map (D.int .i64)).length:Int)=0:=om
   refine run ⟨?_⟩
   rw[decide_eq_true c1,decide_eq_true c2];exact rfl
  have d2:¬ ((x.kids.map (D.int .i64)).length:Int)=0:=om
  have w2:IntKind.i64.wrap (((x.kids.map (D.int .i64)).length:Int) - 1)=((x.kids.length - 1:Nat):Int):=by rw[hml,a0w om];omega
  have hk1:=fun H=>hkid (x.kids.length - 1) om H
  rw[<-w2]at hk1
  rw[<-hg _ om]at hk1
  have hr2:=fun H=>b7s (fx:=fx) (F:=F) H (ks.getD (x.kids.length - 1) 0) 69
  rw[show a1v 69 (ks.getD (x.kids.length - 1) 0)=d7p (ks.getD (x.kids.length - 1) 0)from rfl]at hr2
  cases c3:d7p (ks.getD (x.kids.length - 1) 0)with
  |false=>
   rw[c3]at hr2
   repeat' (first|refine run ⟨?_⟩|refine ca (hk1 _) ?_|refine ca (hr2 _) ?_|fail)
   rw[decide_eq_true c1,decide_eq_false c2];exact rfl
  |true=>
   rw[c3]at hr2
   repeat' (first|refine run ⟨?_⟩|refine ca (hk1 _) ?_|refine ca (hr2 _) ?_|fail)
   have hn:x.v.toNat<=x.kids.length:=om
   have w3:IntKind.i64.wrap ((x.kids.length:Int) - x.v)=((x.kids.length - x.v.toNat:Nat):Int):=by rw[a0w om];omega
   refine a0g (α:=Nat) (fun i=>x.kids.length - i) (fun i=>[(3,.ptr 0 0),(4,.ptr 1 0),(7,i64 x.kids.length),(9,i64 i)]) (fun _=>[TB t,XB x]) (fun i=>i<=x.kids.length - x.v.toNat/\∀ j,j < i->a1v 83 (ks.getD j 0)=true) ?_ 0 ⟨om,om⟩ ?_ rfl
   ·rintro i ⟨hi,hall⟩
    by_cases h:i < x.kids.length - x.v.toNat
    ·have h':(i:Int) < IntKind.i64.wrap ((x.kids.length:Int) - x.v):=om
     have hki:=fun H=>hkid i om H
     rw[<-hg _ om]at hki
     have hri:=fun H=>b7s (fx:=fx) (F:=F) H (ks.getD i 0) 83
     cases hc:a1v 83 (ks.getD i 0)with
     |false=>
      rw[hc]at hri
      repeat' (first|refine run ⟨?_⟩|refine ca (hki _) ?_|refine ca (hri _) ?_|fail)
      rw[c1b (p:=a1v 83) (l:=ks.take (x.kids.length - x.v.toNat)) (fun e=>by rw[b4y om]at e;have:=e i h;rw[hc]at this;cases this),Bool.and_false];exact rfl
     |true=>
      rw[hc]at hri
      repeat' (first|refine run ⟨?_⟩|refine ca (hki _) ?_|refine ca (hri _) ?_|fail)
      refine⟨i+1,⟨om,fun j hj=>?_⟩,om,by rw[a0w om];rfl,rfl⟩
      by_cases e:j=i
      ·rw[e];exact hc
      ·exact hall j om
    ·have h':¬ (i:Int) < IntKind.i64.wrap ((x.kids.length:Int) - x.v):=om
     refine run ⟨?_⟩
     rw[(b4y (p:=a1v 83) om).2 (fun j hj=>hall j om),decide_eq_true c1,decide_eq_false c2];exact rfl
   ·show[_,_,(7,i64 ((x.kids.map (D.int .i64)).length:Int)),_]=_
    rw[hml];rfl
 ·refine run ⟨?_⟩
  have hn:x.v.toNat<=x.kids.length:=om
  have w3:IntKind.i64.wrap ((x.kids.length:Int) - x.v)=((x.kids.length - x.v.toNat:Nat):Int):=by rw[a0w om];omega
  refine a0g (α:=Nat) (fun i=>x.kids.length - i) (fun i=>[(3,.ptr 0 0),(4,.ptr 1 0),(7,i64 x.kids.length),(9,i64 i)]) (fun _=>[TB t,XB x]) (fun i=>i<=x.kids.length - x.v.toNat/\∀ j,j < i->a1v 83 (ks.getD j 0)=true) ?_ 0 ⟨om,om⟩ ?_ rfl
  ·rintro i ⟨hi,hall⟩
   by_cases h:i < x.kids.length - x.v.toNat
   ·have h':(i:Int) < IntKind.i64.wrap ((x.kids.length:Int) - x.v):=om
    have hki:=fun H=>hkid i om H
    rw[<-hg _ om]at hki
    have hri:=fun H=>b7s (fx:=fx) (F:=F) H (ks.getD i 0) 83
    cases hc:a1v 83 (ks.getD i 0)with
    |false=>
     rw[hc]at hri
     repeat' (first|refine run ⟨?_⟩|refine ca (hki _) ?_|refine ca (hri _) ?_|fail)
     rw[c1b (p:=a1v 83) (l:=ks.take (x.kids.length - x.v.toNat)) (fun e=>by rw[b4y om]at e;have:=e i h;rw[hc]at this;cases this),Bool.and_false];exact rfl
    |true=>
     rw[hc]at hri
     repeat' (first|refine run ⟨?_⟩|refine ca (hki _) ?_|refine ca (hri _) ?_|fail)
     refine⟨i+1,⟨om,fun j hj=>?_⟩,om,by rw[a0w om];rfl,rfl⟩
     by_cases e:j=i
     ·rw[e];exact hc
     ·exact hall j om
   ·have h':¬ (i:Int) < IntKind.i64.wrap ((x.kids.length:Int) - x.v):=om
    refine run ⟨?_⟩
    rw[(b4y (p:=a1v 83) om).2 (fun j hj=>hall j om),decide_eq_false c1];exact rfl
  ·show[_,_,(7,i64 ((x.kids.map (D.int .i64)).length:Int)),_]=_
   rw[hml];rfl
set_option maxHeartbeats 1000000 in
theorem f4s (t:List Nd) (x:Nd) (hkl:x.kids.length<=1048576) (hk:∀ k∈x.kids,0<=k/\k < t.length) (s:List UInt8) (hs1:s≠[102,110]) (hs2:s≠[98,108,111,99,107]) (hst:∀ a,s≠a++[42]) (hsl:s.length<=1048576):evF (pgL fx F) b0f [.d (a1r t),ndV x,str s] H=some (boo (goR s (kinds t x.kids)),H):=by
 refine a1d (b4l (F:=F)) rfl rfl ?_ H
 have hkid:=fun(i:Nat) (hi:i < x.kids.length) (H:Hp)=>e0u (fx:=fx) (F:=F) H t x i hi hk
 have hg:=fun(i:Nat) (hi:i < x.kids.length)=>c3g (t:=t) hi
 have hl:=c5m (t:=t) (l:=x.kids)
 have hml:(x.kids.map (D.int .i64)).length=x.kids.length:=List.length_map ..
 obtain⟨ks,hks⟩:∃ ks,ks=kinds t x.kids:=⟨_,rfl⟩
 rw[<-hks]at hl hg⊢
 refine run ⟨?_⟩
 refine a0g (α:=Nat×Nat) (fun a=>s.length - a.2) (fun a=>[(2,str s),(3,.ptr 0 0),(4,.ptr 1 0),(7,i64 x.kids.length),(10,i64 a.1),(11,i64 a.2)]) (fun _=>[TB t,XB x]) (fun a=>a.1<=x.kids.length/\a.2<=s.length/\goR s ks=goR (s.drop a.2) (ks.drop a.1)) ?_ (0,0) ⟨Nat.zero_le _,Nat.zero_le _,rfl⟩ ?_ rfl
 ·rintro⟨i,k⟩ ⟨hi,hkk,hgo⟩
  simp only at hi hkk hgo⊢
  by_cases h:k < s.length
  ·have h':(k:Int) < (s.length:Int):=om
   have hdk:=List.drop_eq_getElem_cons h
   obtain⟨c,hc⟩:∃ c,c=s[k]:=⟨_,rfl⟩
   rw[<-hc]at hdk
   have hsk:s[k]? =some c:=by rw[List.getElem?_eq_getElem h,hc]
   rw[hdk]at hgo
   by_cases c42:c=42
   ·subst c42
    have hk1:k+1 < s.length:=by
     refine Nat.lt_of_not_le fun hge=>hst (s.take k) ?_
     have:=List.take_append_drop k s
     rw[hdk,List.drop_of_length_le hge]at this
     exact this.symm
    obtain⟨d,hd⟩:∃ d,d=s[k+1]:=⟨_,rfl⟩
    have hsd:s[k+1]? =some d:=by rw[List.getElem?_eq_getElem hk1,hd]
    rw[List.drop_eq_getElem_cons hk1,<-hd]at hgo
    have hgo:goR s ks=(ks.drop i).all (a1v d):=by rw[hgo];simp only[goR]
    repeat' (first|refine run ⟨?_⟩|refine a0a (d:=42) ⟨om,hsk⟩ ?_|fail)
    refine a0g (α:=Nat) (fun j=>x.kids.length - j) (fun j=>[(2,str s),(3,.ptr 0 0),(4,.ptr 1 0),(7,i64 x.kids.length),(10,i64 j),(11,i64 k)]) (fun _=>[TB t,XB x]) (fun j=>i<=j/\j<=x.kids.length/\∀ m,i<=m->m < j->a1v d (ks.getD m 0)=true) ?_ i ⟨Nat.le_refl _,hi,fun m h1 h2=>om⟩ rfl rfl
    rintro j ⟨ij,hj,hall⟩
    by_cases hjl:j < x.kids.length
    ·have hjl':(j:Int) < (x.kids.length:Int):=om
     have hki:=fun H=>hkid j om H
     rw[<-hg _ om]at hki
     have hri:=fun H=>b7s (fx:=fx) (F:=F) H (ks.getD j 0) d
     have w:IntKind.i64.wrap ((k:Int)+1)=((k+1:Nat):Int):=by rw[a0w om];rfl
     have pd:0<=IntKind.i64.wrap ((k:Int)+1)/\s[(IntKind.i64.wrap ((k:Int)+1)).toNat]? =some d:=by rw[w];exact⟨om,hsd⟩
     cases hc:a1v d (ks.getD j 0)with
     |false=>
      rw[hc]at hri
      repeat' (first|refine run ⟨?_⟩|refine ca (hki _) ?_|refine ca (hri _) ?_|refine a0a pd ?_|fail)
      rw[hgo,c1b (p:=a1v d) (l:=ks.drop i) (fun e=>by have:=e2i.1 e j ij om;rw[hc]at this;cases this)];exact rfl
     |true=>
      rw[hc]at hri
      repeat' (first|refine run ⟨?_⟩|refine ca (hki _) ?_|refine ca (hri _) ?_|refine a0a pd ?_|fail)
      refine⟨j+1,⟨om,om,fun m h1 h2=>?_⟩,om,by rw[a0w om];rfl,rfl⟩
      by_cases e:m=j
      ·rw[e];exact hc
      ·exact hall m h1 om
    ·have hjl':¬ (j:Int) < (x.kids.length:Int):=om
     refine run ⟨?_⟩
     rw[hgo,e2i.2 (fun m h1 h2=>hall m h1 om)];exact rfl
   ·have n42:¬ (c.toNat:Int)=42:=fun e=>c42 (UInt8.toNat_inj.1 (by have e2:(42:UInt8).toNat=42:=rfl;omega))
    rw[g8w c c42]at hgo
    by_cases hil:i < x.kids.length
    ·have hil':¬ (i:Int)=(x.kids.length:Int):=om
     have hki:=fun H=>hkid i om H
     rw[<-hg _ om]at hki
     have hri:=fun H=>b7s (fx:=fx) (F:=F) H (ks.getD i 0) c
     have hdi:ks.drop i=ks.getD i 0::ks.drop (i+1):=by
      rw[List.drop_eq_getElem_cons om]
      simp[show i < ks.length by omega]
     rw[hdi]at hgo
     simp only at hgo
     cases hc:a1v c (ks.getD i 0)with
     |false=>
      rw[hc]at hri hgo
      repeat' (first|refine run ⟨?_⟩|refine ca (hki _) ?_|refine ca (hri _) ?_|refine a0a (d:=c) ⟨om,hsk⟩ ?_|fail)
      rw[hgo];exact rfl
     |true=>
      rw[hc,Bool.true_and]at hgo
      rw[hc]at hri
      repeat' (first|refine run ⟨?_⟩|refine ca (hki _) ?_|refine ca (hri _) ?_|refine a0a (d:=c) ⟨om,hsk⟩ ?_|fail)
      exact⟨(i+1,k+1),⟨by show i+1<=_;omega,by show k+1<=_;omega,hgo⟩,by show s.length - (k+1) < s.length - k;omega,by rw[a0w om,a0w om];rfl,rfl⟩
    ·have hil':(i:Int)=(x.kids.length:Int):=om
     rw[List.drop_of_length_le (by omega:ks.length<=i)]at hgo
     repeat' (first|refine run ⟨?_⟩|refine a0a (d:=c) ⟨om,hsk⟩ ?_|fail)
     rw[hgo];exact rfl
  ·have h':¬ (k:Int) < (s.length:Int):=om
   refine run ⟨?_⟩
   rw[hgo,List.drop_of_length_le (by omega:s.length<=k)]
   by_cases e:i=x.kids.length
   ·rw[List.drop_of_length_le (by omega:ks.length<=i)]
    show V.d (.bool (decide ((i:Int)=(x.kids.length:Int))))=_
    rw[decide_eq_true om];rfl
   ·show V.d (.bool (decide ((i:Int)=(x.kids.length:Int))))=V.d (.bool (decide (ks.drop i=[])))
    rw[decide_eq_false om,decide_eq_false]
    intro e2
    have:=List.drop_eq_nil_iff.1 e2
    omega
 ·show[_,_,_,(7,i64 ((x.kids.map (D.int .i64)).length:Int)),_,_]=_
  rw[hml];rfl
end
end Go.Vm.Itr
namespace Go.Vm.Itr
open Go.Vm.Ite
open Go.Vm.Tp
open Go.Vm.Lex (a3c)
theorem g1d (s:List UInt8):decide (0 < f2e s)=decide (s∈a6h):=by
 unfold f2e a6h
 by_cases c0:s=[124,124]
 ·subst c0;decide
 by_cases c1:s=[38,38]
 ·subst c1;decide
 by_cases c2:s=[61,61]
 ·subst c2;decide
 by_cases c3:s=[33,61]
 ·subst c3;decide
 by_cases c4:s=[60]
 ·subst c4;decide
 by_cases c5:s=[62]
 ·subst c5;decide
 by_cases c6:s=[60,61]
 ·subst c6;decide
 by_cases c7:s=[62,61]
 ·subst c7;decide
 by_cases c8:s=[43]
 ·subst c8;decide
 by_cases c9:s=[45]
 ·subst c9;decide
 by_cases c10:s=[42]
 ·subst c10;decide
 by_cases c11:s=[47]
 ·subst c11;decide
 by_cases c12:s=[37]
 ·subst c12;decide
 simp only[c0,c1,c2,c3,c4,c5,c6,c7,c8,c9,c10,c11,c12,if_false,or_self,List.mem_cons,List.not_mem_nil]
 decide
section
variable {fx:Nat->Option Obj} {F:Nat->Option a0t} [HC F] (H:Hp)
theorem e6m (s:List UInt8) (hs:s.length<=1048576):evF (pgL fx F) c7c [str s] H=some (boo ((c3f s).2.2 && a3c (c3f s).1 && a3c (c3f s).2.1),H):=by
 have _u:=(inferInstance:HC F)
 refine a1d (c6x (F:=F)) rfl rfl ?_ H
 refine run ⟨?_⟩
 refine a0g (α:=Nat) (fun i=>s.length - i) (fun i=>[(0,str s),(3,i64 i)]) (fun _=>[]) (fun i=>i<=s.length/\Lib.NoOcc s [58,58] i) ?_ 0 ⟨Nat.zero_le _,fun j h=>absurd h (Nat.not_lt_zero _)⟩ rfl rfl
 rintro i ⟨hi,hno⟩
 have w1:IntKind.i64.wrap ((i:Int)+1)=((i+1:Nat):Int):=by rw[a0w om];rfl
 have w2:IntKind.i64.wrap ((i:Int)+2)=((i+2:Nat):Int):=by rw[a0w om];rfl
 by_cases h:i+1 < s.length
 ·have h':IntKind.i64.wrap ((i:Int)+1) < (s.length:Int):=om
  have p0:(0:Int)<=IntKind.i64.wrap ((i:Int)+2):=om
  have p1:(i:Int).toNat<=(IntKind.i64.wrap ((i:Int)+2)).toNat/\(IntKind.i64.wrap ((i:Int)+2)).toNat<=s.length:=om
  have ho:=occ2 s i
  have ho':decide (List.drop (i:Int).toNat (List.take (IntKind.i64.wrap ((i:Int)+2)).toNat s)=[58,58])=Lib.occAt s [58,58] i:=by rw[w2];exact ho
  have i0:(0:Int)<=(i:Int):=om
  cases hc:Lib.occAt s [58,58] i with
  |true=>
   rw[hc]at ho'
   have hcut:=g5a hno om hc
   have e1:List.drop 0 (List.take (i:Int).toNat s)=s.take i:=by rw[List.drop_zero];rfl
   have e2:List.drop (IntKind.i64.wrap ((i:Int)+2)).toNat (List.take s.length s)=s.drop (i+2):=by rw[List.take_length,w2];rfl
   have q1:0<=(i:Int).toNat/\(i:Int).toNat<=s.length:=om
   have q2:(IntKind.i64.wrap ((i:Int)+2)).toNat<=s.length/\s.length<=s.length:=om
   have n1:=fun H=>d0n (fx:=fx) (F:=F) H (s.take i) (by have:=List.length_take_le i s;unfold maxLen;omega)
   have n2:=fun H=>d0n (fx:=fx) (F:=F) H (s.drop (i+2)) (by have:(s.drop (i+2)).length<=s.length:=(by simp);unfold maxLen;omega)
   rw[hcut]
   simp only[Bool.true_and]
   cases hn:a3c (s.take i)with
   |false=>
    rw[hn,<-e1]at n1
    repeat' (first|refine run ⟨?_⟩|refine And.intro i0 ?_|refine And.intro p0 ?_|refine And.intro p1 ?_|refine a0m ho' ?_|refine And.intro q1 ?_|refine ca (n1 _) ?_|fail)
    exact rfl
   |true=>
    rw[hn,<-e1]at n1
    cases hm:a3c (s.drop (i+2))with
    |false=>
     rw[hm,<-e2]at n2
     repeat' (first|refine run ⟨?_⟩|refine And.intro i0 ?_|refine And.intro p0 ?_|refine And.intro p1 ?_|refine a0m ho' ?_|refine And.intro q1 ?_|refine ca (n1 _) ?_|refine And.intro q2 ?_|refine ca (n2 _) ?_|fail)
     exact rfl
    |true=>
     rw[hm,<-e2]at n2
     repeat' (first|refine run ⟨?_⟩|refine And.intro i0 ?_|refine And.intro p0 ?_|refine And.intro p1 ?_|refine a0m ho' ?_|refine And.intro q1 ?_|refine ca (n1 _) ?_|refine And.intro q2 ?_|refine ca (n2 _) ?_|fail)
     exact rfl
  |false=>
   rw[hc]at ho'
   repeat' (first|refine run ⟨?_⟩|refine And.intro i0 ?_|refine And.intro p0 ?_|refine And.intro p1 ?_|refine a0j ho' ?_|fail)
   refine⟨i+1,⟨om,fun j hj=>?_⟩,om,by rw[w1],rfl⟩
   by_cases e:j=i
   ·rw[e];exact hc
   ·exact hno j om
 ·have h':¬ IntKind.i64.wrap ((i:Int)+1) < (s.length:Int):=om
  refine run ⟨?_⟩
  rw[f7j hno om];exact rfl
theorem e7v (x:Nd) (hx:x.t.length<=1048576):evF (pgL fx F) d1q [ndV x] H=some (boo (nmB x.k x.t),H):=by
 obtain⟨k,t,v,kids,f,e⟩:=x
 simp only at hx⊢
 refine a1d (d2v (F:=F)) rfl rfl ?_ H
 have hn:=fun H=>d0n (fx:=fx) (F:=F) H t (by unfold maxLen;omega)
 by_cases hA:k=2\/k=3\/k=4\/k=5\/k=6\/k=7\/k=13\/k=21\/k=33\/k=34\/k=35\/k=36\/k=41\/k=51
 ·have e0:nmB k t=a3c t:=by unfold nmB;rw[if_pos hA]
  rw[e0]
  rcases hA with rfl|rfl|rfl|rfl|rfl|rfl|rfl|rfl|rfl|rfl|rfl|rfl|rfl|rfl
  all_goals
   repeat' (first|refine run ⟨?_⟩|refine ca (hn _) ?_|fail)
   exact rfl
 have e1:nmB k t=if k=37\/k=54 then(c3f t).2.2 && a3c (c3f t).1 && a3c (c3f t).2.1 else if k=38 then decide (t∈a6h) else decide (t=[]):=by unfold nmB;exact if_neg hA
 rw[e1]
 clear e1
 simp only[not_or]at hA
 obtain⟨a2,a3,a4,a5,a6,a7,a13,a21,a33,a34,a35,a36,a41,a51⟩:=hA
 by_cases hB:k=37\/k=54
 ·rw[if_pos hB]
  have hp:=fun H=>e6m (fx:=fx) (F:=F) H t hx
  rcases hB with rfl|rfl
  all_goals
   repeat' (first|refine run ⟨?_⟩|refine ca (hp _) ?_|fail)
   exact rfl
 rw[if_neg hB]
 simp only[not_or]at hB
 obtain⟨b1,b2⟩:=hB
 by_cases hC:k=38
 ·subst hC
  repeat' (first|refine run ⟨?_⟩|refine ca (b4r _ _) ?_|fail)
  rw[if_pos rfl,<-g1d]
  exact rfl
 rw[if_neg hC]
 refine run ⟨?_⟩
 exact rfl
end
end Go.Vm.Itr
namespace Go.Vm.Itr
open Go.Vm.Ite
open Go.Vm.Tp
theorem f3w {k:Int} {s:List UInt8} (h:s∈a0h k):(∀ a,s≠a++[42])/\s.length<=1048576:=by
 have key:∀ l:List (List UInt8),(l.all fun s=>decide (s.getLast?≠some 42) && decide (s.length<=1048576))=true->s∈l->(∀ a,s≠a++[42])/\s.length<=1048576:=by
   intro l hl hm
   have:=List.all_eq_true.1 hl s hm
   simp only[Bool.and_eq_true,decide_eq_true_eq]at this
   refine⟨fun a e=>this.1 ?_,this.2⟩
   rw[e];simp
 refine key _ ?_ h
 clear h key
 unfold a0h
 repeat' refine c9h (P:=fun l:List (List UInt8)=>(l.all fun s=>decide (s.getLast?≠some 42) && decide (s.length<=1048576))=true) ?_ ?_
 all_goals decide
theorem f4i {k:Int} (h:[98,108,111,99,107]∈a0h k):k=20:=by
 refine Decidable.byContradiction fun hk=>?_
 revert h
 have key:∀ l:List (List UInt8),(l.all fun s=>decide (s≠[98,108,111,99,107]))=true->¬ [98,108,111,99,107]∈l:=by
   intro l hl hm
   have:=List.all_eq_true.1 hl _ hm
   simp at this
 refine key _ ?_
 clear key
 unfold a0h
 simp only[hk,if_false]
 repeat' refine c9h (P:=fun l:List (List UInt8)=>(l.all fun s=>decide (s≠[98,108,111,99,107]))=true) ?_ ?_
 all_goals decide
theorem f0l (k:Int):(a0h k).length<=2:=by
 unfold a0h
 repeat' refine c9h (P:=fun l:List (List UInt8)=>l.length<=2) ?_ ?_
 all_goals decide
section
variable {fx:Nat->Option Obj} {F:Nat->Option a0t} [HC F] (H:Hp)
theorem f4y (t:List Nd) (x:Nd) (hkl:x.kids.length<=1048576) (hk:∀ k∈x.kids,0<=k/\k < t.length) (hc:b1k x.k x.v=true) (s:List UInt8) (hs:s∈a0h x.k):evF (pgL fx F) b0f [.d (a1r t),ndV x,str s] H=some (boo (a0p x.v (kinds t x.kids) s),H):=by
 unfold a0p
 by_cases c1:s=[102,110]
 ·subst c1;rw[if_pos rfl];exact f6y H t x hkl hk
 rw[if_neg c1]
 by_cases c2:s=[98,108,111,99,107]
 ·subst c2;rw[if_pos rfl]
  have h20:=f4i hs
  rw[h20]at hc
  have:(decide (x.v=0)||decide (x.v=1))=true:=hc
  exact d8a H t x hkl hk (by simpa using this)
 rw[if_neg c2]
 obtain⟨h1,h2⟩:=f3w hs
 exact f4s H t x hkl hk s c1 c2 h1 h2
set_option maxHeartbeats 2000000 in
theorem f4a (t:List Nd) (hf:b0r t) (i:Nat) (hi:i < t.length):evF (pgL fx F) d3z [.d (a1r t),i64 i] H=some (boo (g0v t i),H):=by
 refine a1d (d5x (F:=F)) rfl rfl ?_ H
 have htl:=hf.len
 have hg:=b0w (t:=t) (k:=(i:Int)) om om
 have hmem:=d4v hi
 have hkl:=hf.kid _ hmem
 have htx:=hf.txt _ hmem
 show b7t 0 _ fun e=>WQ _ _ _ _ _ _ (f8f _ _ fun v _=>v=boo (a4b (nd t i).k && (nmB (nd t i).k (nd t i).t && (b1k (nd t i).k (nd t i).v && (decide (0<=(nd t i).f) && (decide ((nd t i).f<=(nd t i).e) && ((nd t i).kids.all (a6n i) && (a0h (nd t i).k).any (a0p (nd t i).v (kinds t (nd t i).kids)))))))))
 change 0<=(i:Int)/\(t.map Nd.D)[(i:Int).toNat]? =some (nd t i).D at hg
 obtain⟨x,hx⟩:∃ x,x=nd t i:=⟨_,rfl⟩
 rw[<-hx]at hg hkl htx⊢
 clear hx hmem
 have e1:=fun H=>f3i (fx:=fx) (F:=F) H x.k
 have e2:=fun H=>e7v (fx:=fx) (F:=F) H x htx
 have e3:=fun H=>d9l (fx:=fx) (F:=F) H x
 cases c1:a4b x.k with
 |false=>
  rw[c1]at e1
  repeat' (first|refine run ⟨?_⟩|refine a0a hg ?_|refine ca (e1 _) ?_|fail)
  exact rfl
 |true=>
 rw[c1]at e1
 cases c2:nmB x.k x.t with
 |false=>
  rw[c2]at e2
  repeat' (first|refine run ⟨?_⟩|refine a0a hg ?_|refine ca (e1 _) ?_|refine ca (e2 _) ?_|fail)
  exact rfl
 |true=>
 rw[c2]at e2
 cases c3:b1k x.k x.v with
 |false=>
  rw[c3]at e3
  repeat' (first|refine run ⟨?_⟩|refine a0a hg ?_|refine ca (e1 _) ?_|refine ca (e2 _) ?_|refine ca (e3 _) ?_|fail)
  exact rfl
 |true=>
 rw[c3]at e3
 by_cases c4:x.f < 0
 ·repeat' (first|refine run ⟨?_⟩|refine a0a hg ?_|refine ca (e1 _) ?_|refine ca (e2 _) ?_|refine ca (e3 _) ?_|fail)
  rw[decide_eq_false (by omega:¬ 0<=x.f)];exact rfl
 by_cases c5:x.e < x.f
 ·repeat' (first|refine run ⟨?_⟩|refine a0a hg ?_|refine ca (e1 _) ?_|refine ca (e2 _) ?_|refine ca (e3 _) ?_|fail)
  rw[decide_eq_true (by omega:0<=x.f),decide_eq_false (by omega:¬ x.f<=x.e)];exact rfl
 repeat' (first|refine run ⟨?_⟩|refine a0a hg ?_|refine ca (e1 _) ?_|refine ca (e2 _) ?_|refine ca (e3 _) ?_|fail)
 rw[decide_eq_true (by omega:0<=x.f),decide_eq_true (by omega:x.f<=x.e)]
 simp only[Bool.true_and]
 refine a0g (α:=Nat) (fun j=>x.kids.length - j) (fun j=>[(1,i64 i),(2,.ptr 0 0),(5,.ptr 1 0),(42,ints x.kids),(43,i64 x.kids.length),(44,i64 j)]) (fun _=>[TB t,XB x]) (fun j=>j<=x.kids.length/\∀ k∈x.kids.take j,a6n i k=true) ?_ 0 ⟨Nat.zero_le _,by simp⟩ ?_ rfl
 ·rintro j ⟨hj,hall⟩
  by_cases h:j < x.kids.length
  ·have h':(j:Int) < (x.kids.length:Int):=om
   have pj:0<=(j:Int)/\(x.kids.map (D.int .i64))[(j:Int).toNat]? =some (.int .i64 (x.kids.getD j 0)):=⟨om,gK h⟩
   have ej:x.kids.getD j 0=x.kids[j]:=by simp[h]
   have bad:a6n i (x.kids.getD j 0)=false->x.kids.all (a6n i)=false:=fun hb=>c1b fun hc=>by
     have:=List.all_eq_true.1 hc _ (List.getElem_mem h);rw[<-ej,hb]at this;cases this
   by_cases k0:x.kids.getD j 0 < 0
   ·repeat' (first|refine run ⟨?_⟩|refine a0a pj ?_|fail)
    rw[bad (by unfold a6n;rw[decide_eq_false om];rfl)];exact rfl
   by_cases k1:(i:Int)<=x.kids.getD j 0
   ·repeat' (first|refine run ⟨?_⟩|refine a0a pj ?_|fail)
    rw[bad (by unfold a6n;rw[decide_eq_false (by omega:¬ x.kids.getD j 0 < (i:Int)),Bool.and_false])];exact rfl
   repeat' (first|refine run ⟨?_⟩|refine a0a pj ?_|fail)
   refine⟨j+1,⟨om,fun k hk=>?_⟩,om,by rw[a0w om];rfl,rfl⟩
   rw[List.take_add_one,List.getElem?_eq_getElem h,List.mem_append]at hk
   rcases hk with hk|hk
   ·exact hall k hk
   ·have:k=x.kids.getD j 0:=by rw[ej];simpa using hk
    rw[this];unfold a6n;rw[decide_eq_true om,decide_eq_true om];rfl
  ·have h':¬ (j:Int) < (x.kids.length:Int):=om
   rw[List.take_of_length_le om]at hall
   rw[List.all_eq_true.2 hall,Bool.true_and]
   have hk:∀ k∈x.kids,0<=k/\k < t.length:=fun k hk=>by
     have:=hall k hk
     simp only[a6n,Bool.and_eq_true,decide_eq_true_eq]at this
     omega
   have ef:=fun s hs H=>f4y (fx:=fx) (F:=F) H t x hkl hk c3 s hs
   have ei:=fun H=>f2q (fx:=fx) (F:=F) H x
   have hfl:=f0l x.k
   have hml:((a0h x.k).map D.str).length=(a0h x.k).length:=List.length_map ..
   obtain⟨l,hle⟩:∃ l,l=a0h x.k:=⟨_,rfl⟩
   rw[<-hle]at ef ei hfl hml⊢
   clear hle e1 e2 e3
   repeat' (first|refine run ⟨?_⟩|refine ca (ei _) ?_|fail)
   refine a0g (α:=Nat) (fun a=>l.length - a) (fun a=>[(2,.ptr 0 0),(5,.ptr 1 0),(57,.d (.sl (l.map .str))),(58,i64 l.length),(59,i64 a)]) (fun _=>[TB t,XB x]) (fun a=>a<=l.length/\∀ s∈l.take a,a0p x.v (kinds t x.kids) s=false) ?_ 0 ⟨Nat.zero_le _,by simp⟩ ?_ rfl
   ·rintro a ⟨ha,hno⟩
    by_cases h2:a < l.length
    ·have h2':(a:Int) < (l.length:Int):=om
     have pa:0<=(a:Int)/\(l.map D.str)[(a:Int).toNat]? =some (.str (l.getD a [])):=⟨om,by rw[List.getElem?_map,Int.toNat_natCast,a9z h2 []];rfl⟩
     have ea:l.getD a []=l[a]:=by simp[h2]
     have hfa:=ef (l.getD a []) (by rw[ea];exact List.getElem_mem _)
     cases hc:a0p x.v (kinds t x.kids) (l.getD a [])with
     |true=>
      rw[hc]at hfa
      repeat' (first|refine run ⟨?_⟩|refine a0a pa ?_|refine ca (hfa _) ?_|fail)
      rw[List.any_eq_true.2 ⟨l[a],List.getElem_mem _,by rw[<-ea];exact hc⟩];exact rfl
     |false=>
      rw[hc]at hfa
      repeat' (first|refine run ⟨?_⟩|refine a0a pa ?_|refine ca (hfa _) ?_|fail)
      refine⟨a+1,⟨om,fun s hs=>?_⟩,om,by rw[a0w om];rfl,rfl⟩
      rw[List.take_add_one,List.getElem?_eq_getElem h2,List.mem_append]at hs
      rcases hs with hs|hs
      ·exact hno s hs
      ·have:s=l.getD a []:=by rw[ea];simpa using hs
       rw[this];exact hc
    ·have h2':¬ (a:Int) < (l.length:Int):=om
     rw[List.take_of_length_le om]at hno
     refine run ⟨?_⟩
     have:l.any (a0p x.v (kinds t x.kids))=false:=List.any_eq_false.2 fun s hs=>by rw[hno s hs];simp
     rw[this];exact rfl
   ·show[_,_,_,(58,i64 ((l.map D.str).length:Int)),_]=_
    rw[hml];rfl
 ·show[_,_,_,_,(43,i64 ((x.kids.map (D.int .i64)).length:Int)),_]=_
  rw[List.length_map];rfl
end
end Go.Vm.Itr


namespace Go.Vm.Itr
open Go.Vm.Ite
open Go.Vm.Tp
def mx:List Int->Int
 |[]=>0
 |a::r=>if mx r < a then a else mx r
theorem h2t:∀ (r:List Int) (a:Int),0<=a->d3j (a::r)=max a (mx r)
 |[],a,h=>by simp only[d3j,List.foldl_nil,mx];omega
 |b::r,a,h=>by
  have e:d3j (a::b::r)=d3j (max a b::r):=rfl
  rw[e,h2t r (max a b) om]
  simp only[mx]
  split<;>omega
theorem g1g {l:List Int} (h:∀ (j:Nat) (v:Int),l[j]? =some v->0<=v) (hl:1<=l.length):d3j l=mx l:=by
 cases l with
 |nil=>simp at hl
 |cons a r=>
  rw[h2t r a (h 0 a rfl)]
  simp only[mx];split<;>omega
theorem f6w {t:List Nd} {up:List Int} (h:ups t=some up) (hk:e2h t) (h1:1<=t.length):up.getD (t.length - 1) (-1)= -1:=by
 have hl:=b8j h
 have hkp:∀ x∈t,∀ k∈x.kids,0<=k:=by
  intro x hx k hm
  obtain⟨i,hi,rfl⟩:=List.getElem_of_mem hx
  have:=List.all_eq_true.1 (hk i hi) k (by simpa [nd,hi] using hm)
  simp only[a6n,Bool.and_eq_true,decide_eq_true_eq]at this
  exact this.1
 have hr:=hl.2 (t.length - 1) (up.getD (t.length - 1) (-1)) (a9z om _)
 by_cases hj:0<=up.getD (t.length - 1) (-1)
 ·obtain⟨a,b⟩:=f1e h hkp _ hj
  have:=List.all_eq_true.1 (hk (up.getD (t.length - 1) (-1)).toNat om) _ b
  simp only[a6n,Bool.and_eq_true,decide_eq_true_eq]at this
  omega
 ·omega
theorem f3a {t:List Nd} {up:List Int} (h:ups t=some up):up.dropLast.contains (-1)=false↔∀ j,j+1 < up.length->0<=up.getD j 0:=by
 have hl:=b8j h
 constructor
 ·intro hc j hj
  have hr:=hl.2 j (up.getD j 0) (a9z om 0)
  refine Decidable.byContradiction fun hn=>?_
  have e:up.getD j 0= -1:=om
  have hm:(-1:Int)∈up.dropLast:=by
   rw[<-e,List.getD_eq_getElem?_getD,List.getElem?_eq_getElem (by omega:j < up.length),Option.getD_some]
   rw[List.dropLast_eq_take]
   exact List.mem_take_iff_getElem.2 ⟨j,om,rfl⟩
  rw[<-List.contains_iff_mem,hc]at hm;cases hm
 ·intro ha
  cases hb:up.dropLast.contains (-1)with
  |false=>rfl
  |true=>
   rw[List.contains_iff_mem,List.dropLast_eq_take]at hb
   obtain⟨j,hj,e⟩:=List.mem_take_iff_getElem.1 hb
   have:=ha j om
   rw[List.getD_eq_getElem?_getD,List.getElem?_eq_getElem (by omega:j < up.length),Option.getD_some,e]at this
   omega
section
variable {fx:Nat->Option Obj} {F:Nat->Option a0t} [HC F] (H:Hp)
set_option maxHeartbeats 4000000 in
theorem e0p (t:List Nd) (hf:b0r t) (hk:e2h t):evF (pgL fx F) c5i [.d (a1r t)] H=some (match ups t with|none=> .tup [.d (.sl []),boo false]|some up=>if up.dropLast.contains (-1)=true then .tup [.d (.sl []),boo false] else .tup [ints up,boo true],H):=by
  have _u:=(inferInstance:HC F)
  refine a1d (c3y (F:=F)) rfl rfl ?_ H
  have htl:=hf.len
  have hnl:(t.map Nd.D).length=t.length:=List.length_map ..
  have hmsl:0<=((t.map Nd.D).length:Int)/\roomy ((t.map Nd.D).length:Int).toNat 8:=⟨om,by unfold roomy;omega⟩
  repeat' (first|refine run ⟨?_⟩|refine And.intro hmsl ?_|fail)
  refine a0g (α:=Nat) (fun i=>t.length - i) (fun i=>[(1,.ptr 0 0),(4,.arr 1 0 t.length),(16,i64 t.length),(17,i64 i)])
    (fun i=>[TB t,.box (c0t (List.replicate i (-1)++List.replicate (t.length - i) 0))]) (fun i=>i<=t.length) ?_ 0 om ?_ ?_
  ·intro i hi
   by_cases h:i < t.length
   ·have h':(i:Int) < (t.length:Int):=om
    refine run ⟨?_⟩
    refine And.intro ⟨om,om⟩ ?_
    refine e7j (by simp;omega) ?_
    refine run ⟨?_⟩
    refine⟨i+1,om,om,?_,?_⟩
    ·rw[a0w om];rfl
    ·have e:(List.replicate i (-1:Int)++List.replicate (t.length - i) 0).set i (-1)=List.replicate (i+1) (-1)++List.replicate (t.length - (i+1)) 0:=by
      rw[List.set_append_right _ _ (by simp),List.length_replicate,Nat.sub_self,show t.length - i=(t.length - (i+1))+1 by omega,List.replicate_succ,List.set_cons_zero,List.replicate_succ',List.append_assoc];rfl
     have e2:=b1u (l:=List.replicate i (-1:Int)++List.replicate (t.length - i) 0) (i:=i) (by simp;omega) (-1)
     rw[e]at e2
     show[_,Ob.box (putAt _ (0+i*1) _)]=_
     rw[Nat.zero_add,Nat.mul_one,e2]
   ·have h':¬ (i:Int) < (t.length:Int):=om
    obtain rfl:i=t.length:=om
    rw[Nat.sub_self,List.replicate_zero,List.append_nil]
    refine run ⟨?_⟩
    refine a0g (α:=Nat×List Int) (fun a=>t.length - a.1) (fun a=>[(4,.arr 1 0 t.length),(25,.d (.sl (t.map Nd.D))),(26,i64 t.length),(27,i64 a.1)])
      (fun a=>[TB t,.box (c0t a.2)]) (fun a=>a.1<=t.length/\a.2.length=t.length/\b5d a.1 (t.drop a.1) a.2=ups t) ?_ (0,List.replicate t.length (-1)) ⟨om,by simp,rfl⟩ ?_ ?_
    ·rintro⟨i,out⟩ ⟨hi,hol,hup⟩
     simp only at hi hol hup⊢
     by_cases h:i < t.length
     ·have h':(i:Int) < (t.length:Int):=om
      obtain⟨x,hxe⟩:∃ x,x=nd t i:=⟨_,rfl⟩
      have hx:x∈t:=by rw[hxe];exact d4v h
      have hkl:=hf.kid x hx
      have hko:x.kids.all (a6n i)=true:=by rw[hxe];exact hk i h
      have hdr:t.drop i=x::t.drop (i+1):=by rw[hxe,List.drop_eq_getElem_cons h];congr 1;simp[nd,h]
      rw[hdr]at hup
      simp only[b5d]at hup
      have pi:0<=(i:Int)/\(t.map Nd.D)[(i:Int).toNat]? =some x.D:=by rw[hxe];exact b0w (k:=(i:Int)) om om
      repeat' (first|refine run ⟨?_⟩|refine a0a pi ?_|fail)
      refine a0g (α:=Nat×List Int) (fun a=>x.kids.length - a.1) (fun a=>[(4,.arr 1 0 t.length),(6,i64 i),(25,.d (.sl (t.map Nd.D))),(26,i64 t.length),(27,i64 i),(33,ints x.kids),(34,i64 x.kids.length),(35,i64 a.1)])
        (fun a=>[TB t,.box (c0t a.2),XB x]) (fun a=>a.1<=x.kids.length/\a.2.length=t.length/\a6t i (x.kids.drop a.1) a.2=a6t i x.kids out) ?_ (0,out) ⟨om,hol,rfl⟩ ?_ rfl
      ·rintro⟨j,o⟩ ⟨hj,hoj,hupj⟩
       simp only at hj hoj hupj⊢
       by_cases h2:j < x.kids.length
       ·have h2':(j:Int) < (x.kids.length:Int):=om
        have hkj:=List.all_eq_true.1 hko _ (List.getElem_mem h2)
        simp only[a6n,Bool.and_eq_true,decide_eq_true_eq]at hkj
        rw[List.drop_eq_getElem_cons h2]at hupj
        simp only[a6t]at hupj
        have hkn:x.kids[j].toNat < o.length:=om
        have pj:0<=(j:Int)/\(x.kids.map (D.int .i64))[(j:Int).toNat]? =some (.int .i64 x.kids[j]):=⟨om,by rw[List.getElem?_map,Int.toNat_natCast,List.getElem?_eq_getElem h2];rfl⟩
        have pb:0<=x.kids[j]/\x.kids[j].toNat < t.length:=om
        by_cases hc:0<=o.getD x.kids[j].toNat 0
        ·rw[if_pos hc]at hupj
         rw[<-hupj]at hup
         rw[<-hup]
         repeat' (first|refine run ⟨?_⟩|refine a0a pj ?_|refine And.intro pb ?_|refine a7a (a9c hkn) ?_|fail)
         exact rfl
        ·rw[if_neg hc]at hupj
         repeat' (first|refine run ⟨?_⟩|refine a0a pj ?_|refine And.intro pb ?_|refine a7a (a9c hkn) ?_|fail)
         refine e7j (by simp;omega) ?_
         refine run ⟨?_⟩
         refine⟨(j+1,o.set x.kids[j].toNat i),⟨by show j+1<=_;omega,by simp[hoj],hupj⟩,by show _ - (j+1) < _ - j;omega,?_,?_⟩
         ·rw[a0w om];rfl
         ·show[_,Ob.box (putAt _ (0+_*1) _),_]=_
          rw[Nat.zero_add,Nat.mul_one,b1u hkn]
       ·have h2':¬ (j:Int) < (x.kids.length:Int):=om
        rw[List.drop_of_length_le om]at hupj
        simp only[a6t]at hupj
        rw[<-hupj]at hup
        refine run ⟨?_⟩
        refine⟨(i+1,o),⟨by show i+1<=_;omega,hoj,hup⟩,by show _ - (i+1) < _ - i;omega,?_,rfl⟩
        rw[a0w om];rfl
      ·show[_,_,_,_,_,_,(34,i64 ((x.kids.map (D.int .i64)).length:Int)),_]=_
       rw[List.length_map];rfl
     ·have h':¬ (i:Int) < (t.length:Int):=om
      rw[List.drop_of_length_le om]at hup
      simp only[b5d]at hup
      have hup:=hup.symm
      rw[hup]
      simp only
      refine run ⟨?_⟩
      refine a0g (α:=Nat) (fun a=>t.length - a) (fun a=>[(4,.arr 1 0 t.length),(10,i64 a)]) (fun _=>[TB t,.box (c0t out)]) (fun a=>a<=t.length/\∀ j,j < a->0<=out.getD j 0) ?_ 0 ⟨om,om⟩ rfl rfl
      rintro a ⟨ha,hall⟩
      have w1:IntKind.i64.wrap ((a:Int)+1)=((a+1:Nat):Int):=by rw[a0w om];rfl
      by_cases h3:a+1 < t.length
      ·have h3':IntKind.i64.wrap ((a:Int)+1) < (t.length:Int):=om
       have pb:0<=(a:Int)/\(a:Int).toNat < t.length:=om
       have hao:a < out.length:=om
       by_cases hc:out.getD a 0 < 0
       ·have:out.dropLast.contains (-1)=true:=by
         cases hb:out.dropLast.contains (-1)with
         |true=>rfl
         |false=>have:=(f3a hup).1 hb a om;omega
        rw[if_pos this]
        repeat' (first|refine run ⟨?_⟩|refine And.intro pb ?_|refine a7a (a9c hao) ?_|fail)
        exact rfl
       ·repeat' (first|refine run ⟨?_⟩|refine And.intro pb ?_|refine a7a (a9c hao) ?_|fail)
        refine⟨a+1,⟨om,fun j hj=>?_⟩,om,by rw[w1],rfl⟩
        by_cases e:j=a
        ·rw[e];omega
        ·exact hall j om
      ·have h3':¬ IntKind.i64.wrap ((a:Int)+1) < (t.length:Int):=om
       have hdl:(out.map (D.int .i64)).length=t.length:=by rw[List.length_map,hol]
       have hds:List.take t.length (List.drop 0 (out.map (D.int .i64)))=out.map (D.int .i64):=by rw[List.drop_zero,<-hdl,List.take_length]
       have hno:out.dropLast.contains (-1)=false:=(f3a hup).2 fun j hj=>hall j om
       rw[if_neg (by rw[hno];simp)]
       repeat' (first|refine run ⟨?_⟩|refine fz (c4f out) ?_|fail)
       refine And.intro om ?_
       show _=_
       rw[hds];rfl
    ·show[_,_,(26,i64 ((t.map Nd.D).length:Int)),_]=_
     rw[hnl];rfl
    ·rfl
  ·show[_,(4,.arr 1 0 ((t.map Nd.D).length:Int).toNat),(16,i64 (((t.map Nd.D).length:Int).toNat:Int)),_]=_
   rw[hnl];rfl
  ·show[_,Ob.box (List.replicate ((t.map Nd.D).length:Int).toNat _)]=_
   simp[hnl]
end
end Go.Vm.Itr
namespace Go.Vm.Itr
open Go.Vm.Ite
open Go.Vm.Tp
theorem d4h (up:List Int):∀ (n:Nat) (out:List Int),(∀ (j:Nat) (v:Int),out[j]? =some v->0<=v)->∀ (j:Nat) (v:Int),(b5c up n out)[j]? =some v->0<=v
 |0,out,h=>h
 |n+1,out,h=>by
  simp only[b5c]
  refine d4h up n _ fun j v hv=>?_
  split at hv
  ·rw[List.getElem?_set]at hv
   split at hv
   ·split at hv
    ·cases hv
     have:0<=out.getD (up.getD n 0).toNat 0:=by
      rw[List.getD_eq_getElem?_getD]
      cases hg:out[(up.getD n 0).toNat]? with
      |none=>exact Int.le_refl _
      |some w=>exact h _ _ hg
     omega
    ·cases hv
   ·exact h j v hv
  ·exact h j v hv
theorem f6z (up:List Int):∀ (j:Nat) (v:Int),(deps up)[j]? =some v->0<=v:=
 d4h up _ _ fun j v hv=>by
   rw[List.getElem?_replicate]at hv
   split at hv
   ·cases hv;exact Int.le_refl _
   ·cases hv
section
variable {fx:Nat->Option Obj} {F:Nat->Option a0t} [HC F] (H:Hp)
set_option maxHeartbeats 4000000 in
theorem f4m (t:List Nd) (up:List Int) (h1:1<=up.length) (hl:up.length<=1048576) (hlast:up.getD (up.length - 1) (-1)= -1) (hin:∀ j,j+1 < up.length->0<=up.getD j 0/\up.getD j 0 < up.length):evF (pgL fx F) d7g [.d (a1r t),ints up] H=some (i64 (d3j (deps up)),H):=by
 have _u:=(inferInstance:HC F)
 refine a1d (d5s (F:=F)) rfl rfl ?_ H
 have hnl:(up.map (D.int .i64)).length=up.length:=List.length_map ..
 have hmsl:0<=((up.map (D.int .i64)).length:Int)/\roomy ((up.map (D.int .i64)).length:Int).toNat 8:=⟨om,by unfold roomy;omega⟩
 repeat' (first|refine run ⟨?_⟩|refine And.intro hmsl ?_|fail)
 refine a0g (α:=Nat×List Int×Int) (fun a=>a.1) (fun a=>[(1,ints up),(5,i64 a.2.2),(6,.arr 1 0 up.length),(7,i64 ((a.1:Int) - 1))]) (fun a=>[TB t,.box (c0t a.2.1)])
   (fun a=>a.1+1<=up.length/\a.2.1.length=up.length/\b5c up a.1 a.2.1=deps up/\a.2.2=mx (a.2.1.drop a.1)/\∀ (j:Nat) (v:Int),a.2.1[j]? =some v->0<=v/\v<=1048576 - a.1) ?_ (up.length - 1,List.replicate up.length 0,0) ⟨by show up.length - 1+1<=_;omega,by simp,?_,?_,fun j v hv=>?_⟩ ?_ ?_
 ·rintro⟨n,out,most⟩ ⟨hn,hol,hdp,hm,hbd⟩
  simp only at hn hol hdp hm hbd⊢
  cases n with
  |zero=>
   have h':¬ (0:Int)<=((0:Nat):Int) - 1:=om
   simp only[b5c]at hdp
   rw[List.drop_zero,hdp]at hm
   have e:d3j (deps up)=most:=by rw[hm];exact g1g (f6z up) (by rw[<-hdp,hol];exact h1)
   rw[e]
   refine run ⟨?_⟩
   exact rfl
  |succ i=>
   have e0:((((i+1:Nat):Int)) - 1)=(i:Int):=om
   rw[e0]
   have h':(0:Int)<=(i:Int):=om
   simp only[b5c]at hdp
   obtain⟨u0,u1⟩:=hin i om
   rw[f2v (show i < up.length by omega) (-1) 0,if_pos u0]at hdp
   have hk:(up.getD i 0).toNat < out.length:=om
   have hbv:=hbd _ _ (a9z hk 0)
   have pu:0<=(i:Int)/\(up.map (D.int .i64))[(i:Int).toNat]? =some (.int .i64 (up.getD i 0)):=⟨h',gK om⟩
   have pk1:0<=up.getD i 0/\(up.getD i 0).toNat < up.length:=om
   have pi:0<=(i:Int)/\(i:Int).toNat < up.length:=om
   obtain⟨d,hd⟩:∃ d,d=out.getD (up.getD i 0).toNat 0+1:=⟨_,rfl⟩
   rw[<-hd]at hdp
   have hio:i < out.length:=om
   have wd:IntKind.i64.wrap (out.getD (up.getD i 0).toNat 0+1)=d:=by rw[a0w om,hd]
   have hput:putAt (c0t out) (0+i*1) [i64 (IntKind.i64.wrap (out.getD (up.getD i 0).toNat 0+1))]=c0t (out.set i d):=by rw[wd,Nat.zero_add,Nat.mul_one,b1u hio]
   have hst:∀ {k:List V->Prop},k (c0t (out.set i d))->a1l (putAt (c0t out) (0+i*1) [i64 (IntKind.i64.wrap (out.getD (up.getD i 0).toNat 0+1))]) k:=fun hk=>by rw[a0x,hput];exact hk
   have hgd:(c0t (out.set i d))[0+i*1]? =some (i64 d):=by rw[a9c (by simpa using hio)];simp[hio]
   have hdr:(out.set i d).drop i=d::out.drop (i+1):=by
    rw[List.drop_eq_getElem_cons (by simpa using hio)]
    simp[List.drop_set_of_lt]
   have hnx:∀ (j:Nat) (v:Int),(out.set i d)[j]? =some v->0<=v/\v<=1048576 - (i:Int):=fun j v hv=>by
     rw[List.getElem?_set]at hv
     split at hv
     ·cases hv;omega
     ·have:=hbd _ _ hv;omega
   repeat' (first|refine run ⟨?_⟩|refine a0a pu ?_|refine And.intro pk1 ?_|refine a7a (a9c hk) ?_|refine And.intro pi ?_|fail)
   refine d6s (by simp;omega) (hst ?_)
   by_cases hc:most < d
   ·repeat' (first|refine run ⟨?_⟩|refine And.intro pi ?_|refine a7a hgd ?_|fail)
    exact⟨(i,out.set i d,d),⟨by show i+1<=_;omega,by simp[hol],hdp,by show d=mx _;rw[hdr];simp only[mx];rw[if_pos om],hnx⟩,by show i < i+1;omega,by rw[a0w (n:=(i:Int) - 1) om],rfl⟩
   ·repeat' (first|refine run ⟨?_⟩|refine And.intro pi ?_|refine a7a hgd ?_|fail)
    exact⟨(i,out.set i d,most),⟨by show i+1<=_;omega,by simp[hol],hdp,by show most=mx _;rw[hdr];simp only[mx];rw[if_neg om];exact hm,hnx⟩,by show i < i+1;omega,by rw[a0w (n:=(i:Int) - 1) om],rfl⟩
 ·show b5c up (up.length - 1) _=deps up
  unfold deps
  conv=>rhs;rw[show b5c up up.length=b5c up (up.length - 1+1)from by rw[show up.length - 1+1=up.length by omega]]
  simp only[b5c]
  rw[hlast,if_neg om]
 ·show(0:Int)=mx _
  rw[List.drop_replicate,show up.length - (up.length - 1)=1 by omega];rfl
 ·rw[List.getElem?_replicate]at hv
  split at hv
  ·cases hv;show(0:Int)<=0/\(0:Int)<=1048576 - ((up.length - 1:Nat):Int);omega
  ·cases hv
 ·have e:IntKind.i64.wrap (((up.map (D.int .i64)).length:Int) - 2)=((up.length - 1:Nat):Int) - 1:=by rw[hnl,a0w om];omega
  show[_,_,(6,.arr 1 0 ((up.map (D.int .i64)).length:Int).toNat),(7,i64 (IntKind.i64.wrap (((up.map (D.int .i64)).length:Int) - 2)))]=_
  rw[e,hnl];rfl
 ·show[_,Ob.box (List.replicate ((up.map (D.int .i64)).length:Int).toNat _)]=_
  simp[hnl]
set_option maxHeartbeats 2000000 in
theorem e9z (t:List Nd) (hf:b0r t):evF (pgL fx F) d2j [.d (a1r t)] H=some (boo (a1f t),H):=by
 refine a1d (d0l (F:=F)) rfl rfl ?_ H
 have htl:=hf.len
 have hnl:(t.map Nd.D).length=t.length:=List.length_map ..
 by_cases c1:t.length < 1
 ·have d1:((t.map Nd.D).length:Int) < 1:=om
  refine run ⟨?_⟩
  rw[show a1f t=false from by unfold a1f;rw[decide_eq_false (by omega:¬ 1<=t.length)];rfl];exact rfl
 have d1:¬ ((t.map Nd.D).length:Int) < 1:=om
 by_cases c2:20000 < t.length
 ·have d2:20000 < ((t.map Nd.D).length:Int):=om
  refine run ⟨?_⟩
  rw[show a1f t=false from by unfold a1f;rw[decide_eq_false (by omega:¬ t.length<=20000),Bool.and_false];rfl];exact rfl
 have d2:¬ 20000 < ((t.map Nd.D).length:Int):=om
 have hw:IntKind.i64.wrap (((t.map Nd.D).length:Int) - 1)=((t.length - 1:Nat):Int):=by rw[hnl,a0w om];omega
 have pl:0<=IntKind.i64.wrap (((t.map Nd.D).length:Int) - 1)/\(t.map Nd.D)[(IntKind.i64.wrap (((t.map Nd.D).length:Int) - 1)).toNat]? =some (nd t (t.length - 1)).D:=by rw[hw];exact b0w (k:=((t.length - 1:Nat):Int)) om om
 have hcb:a1f t=(decide ((nd t (t.length - 1)).k=1) && (List.range t.length).all (a9x t) && e9t t):=by
  unfold a1f
  rw[decide_eq_true (by omega:1<=t.length),decide_eq_true (by omega:t.length<=20000)];rfl
 rw[hcb]
 by_cases c3:(nd t (t.length - 1)).k=1
 rotate_left
 ·have d3:(!decide ((nd t (t.length - 1)).k=1))=true:=by rw[decide_eq_false c3];rfl
  repeat' (first|refine run ⟨?_⟩|refine a0a pl ?_|fail)
  rw[decide_eq_false c3];exact rfl
 have d3:(!decide ((nd t (t.length - 1)).k=1))=false:=by rw[decide_eq_true c3];rfl
 rw[decide_eq_true c3,Bool.true_and]
 repeat' (first|refine run ⟨?_⟩|refine a0a pl ?_|fail)
 refine a0g (α:=Nat) (fun i=>t.length - i) (fun i=>[(1,.ptr 0 0),(28,i64 t.length),(29,i64 i)]) (fun _=>[TB t]) (fun i=>i<=t.length/\∀ j,j < i->a9x t j=true) ?_ 0 ⟨om,om⟩ ?_ rfl
 ·rintro i ⟨hi,hall⟩
  by_cases h:i < t.length
  ·have h':(i:Int) < (t.length:Int):=om
   have hn:=fun H=>f4a (fx:=fx) (F:=F) H t hf i h
   rw[g3h t i (hf.iv _ (d4v h))]at hn
   cases hb:a9x t i with
   |false=>
    rw[hb]at hn
    repeat' (first|refine run ⟨?_⟩|refine ca (hn _) ?_|fail)
    rw[c1b (p:=a9x t) (l:=List.range t.length) (fun e=>by have:=List.all_eq_true.1 e i (List.mem_range.2 h);rw[hb]at this;cases this)];exact rfl
   |true=>
    rw[hb]at hn
    repeat' (first|refine run ⟨?_⟩|refine ca (hn _) ?_|fail)
    refine⟨i+1,⟨om,fun j hj=>?_⟩,om,by rw[a0w om];rfl,rfl⟩
    by_cases hji:j=i
    ·rw[hji];exact hb
    ·exact hall j om
  ·have h':¬ (i:Int) < (t.length:Int):=om
   have hnodes:(List.range t.length).all (a9x t)=true:=List.all_eq_true.2 fun j hj=>hall j (by have:=List.mem_range.1 hj;omega)
   rw[hnodes,Bool.true_and]
   have hko:=d4d hnodes
   have hp:=fun H=>e0p (fx:=fx) (F:=F) H t hf hko
   cases hu:ups t with
   |none=>
    rw[hu]at hp
    repeat' (first|refine run ⟨?_⟩|refine ca (hp _) ?_|fail)
    rw[show e9t t=false from by unfold e9t;rw[hu]];exact rfl
   |some up=>
    rw[hu]at hp
    simp only at hp
    have hupo:e9t t=((decide (up=[])|| !up.dropLast.contains (-1)) && decide (d3j (deps up)<=400)):=by unfold e9t;rw[hu]
    obtain⟨u1,u2⟩:=b8j hu
    have hne:decide (up=[])=false:=decide_eq_false fun e=>by rw[e]at u1;simp at u1;omega
    rw[hupo,hne,Bool.false_or]
    cases hc:up.dropLast.contains (-1)with
    |true=>
     rw[hc,if_pos rfl]at hp
     repeat' (first|refine run ⟨?_⟩|refine ca (hp _) ?_|fail)
     exact rfl
    |false=>
     rw[hc,if_neg Bool.false_ne_true]at hp
     have hno:=(f3a hu).1 hc
     have hd:=fun H=>f4m (fx:=fx) (F:=F) H t up om om (by rw[u1];exact f6w hu hko om) (fun j hj=>⟨hno j hj,by have:=u2 j (up.getD j 0) (a9z om 0);omega⟩)
     repeat' (first|refine run ⟨?_⟩|refine ca (hp _) ?_|refine ca (hd _) ?_|fail)
     exact rfl
 ·show[_,(28,i64 ((t.map Nd.D).length:Int)),_]=_
  rw[hnl];rfl
end
end Go.Vm.Itr
namespace Go.Vm.Ite
open Go.Vm.Tp (Nd a1r a1f a3x)
open Go.Vm.Ip
open Go.Vm.Io hiding S
section
variable {fx:Nat->Option Obj} {t:List Nd}
abbrev HO (t:List Nd) (x:Its):Hp:=[.box [.d (.sl (t.map Nd.D))],.box [.nils,.nils,.nils],.box [i64 0,i64 0,i64 0],.box [i64 0,i64 0,i64 0],IB x]
set_option maxHeartbeats 8000000 in
theorem g1h (hf:Tp.b0r t) (H:Hp):evF (pgL fx FT) e5r [.d (a1r t)] H=some (.tup [.d (ofP t).1.D,.d (ofP t).2],H):=by
 refine a1d (e5a (F:=FT)) rfl rfl ?_ H
 have hck:=fun H=>Itr.e9z (fx:=fx) (F:=FT) (H:=H) t hf
 unfold ofP
 cases hc:a1f t with
 |false=>
  rw[hc]at hck
  repeat' (first|refine run ⟨?_⟩|refine ca (hck _) ?_|fail)
  exact rfl
 |true=>
  rw[hc]at hck
  rw[if_pos rfl]
  have h:=g4k hf hc
  have hro:=c9g h
  have hrl:=c6g h
  have hmany:=fun H=>f2z (fx:=fx) (F:=FT) h.rt hrl hro H
  have hnames:=fun H=>e6o (fx:=fx) (F:=FT) h.rt h.kl hrl hro H
  have htypes:=fun H=>e5t (fx:=fx) (F:=FT) h.rt h.kl hrl hro H
  have hsaid:=fun H=>f1s (fx:=fx) (F:=FT) h hrl hro H
  rw[<-e8h (fun n hn=>(hro n hn).2)]at htypes
  unfold h6r at hmany
  unfold wrong
  by_cases hb:(col t (roots t)).2 < 0
  rotate_left
  ·rw[if_neg hb]at hmany⊢
   simp only[dgO]at hmany⊢
   repeat' (first|refine run ⟨?_⟩|refine ca (hck _) ?_|refine ca (hmany _) ?_|fail)
   exact rfl
  rw[if_pos hb]at hmany⊢
  simp only[dgO]at hmany
  cases hnn:b8v t [] [b1m,c1d,b2k] (roots t)with
  |some e=>
   obtain⟨c,n⟩:=e
   have hc0:=f1t hnn
   rw[hnn]at hnames
   have nc:(!decide (c=0))=true:=by rw[decide_eq_false hc0];rfl
   simp only[dgO]at hnames⊢
   repeat' (first|refine run ⟨?_⟩|refine ca (hck _) ?_|refine ca (hmany _) ?_|refine ca (hnames _) ?_|fail)
   exact rfl
  |none=>
   rw[hnn]at hnames
   simp only[dgO]at hnames
   cases htt:tyA t (kn (a0z t (roots t))) (roots t)with
   |some e=>
    obtain⟨c,n⟩:=e
    have hc0:c≠0:=g2t htt
    rw[htt]at htypes
    have nc:(!decide (c=0))=true:=by rw[decide_eq_false hc0];rfl
    simp only[dgO]at htypes⊢
    repeat' (first|refine run ⟨?_⟩|refine ca (hck _) ?_|refine ca (hmany _) ?_|refine ca (hnames _) ?_|refine ca (htypes _) ?_|fail)
    exact rfl
   |none=>
    rw[htt]at htypes
    simp only[dgO]at htypes
    have hk:=fun n (hn:n∈roots t)=>(hro n hn).2
    have hnd:=(c3n hnn).1
    have hfi:=d0x h hrl (fun n hn=>(hro n hn).1)
    have hsm:=d7c h (fun n hn=>(hro n hn).1) hb hnn
    have hnm:=g1s hc hro hnd
    have hl8:(nS (a0z t (roots t))++nE (a0z t (roots t))).length<=128:=by
     have:=hsm.ss
     have:=hsm.es
     unfold nS nE;rw[List.length_append,List.length_map,List.length_map];omega
    have hsz:=fun H=>e6n (fx:=fx) (F:=FT) h.rt hfi hnm (fl16 hsm) hl8 hrl hro (fun n hn k2=>h0i hk hn k2) (fun n hn k2=>f2i hk hnd hn k2) (d9o t (roots t)) H
    have hfs:∀ y∈(a0z t (roots t)).fs,In t y.d:=fun y hy=>by
      obtain⟨n,hn,rfl⟩:=List.mem_map.1 hy
      exact(hro n (List.mem_filter.1 hn).1).1
    generalize a0z t (roots t)=x at hsaid hsz hfs hfi
    have hfl:x.fs.length<=140737488355328:=hfi.fs
    simp only
    cases hw2:szA t x (roots t)with
    |some e=>
     obtain⟨c,n⟩:=e
     have hc0:=g4o hw2
     rw[hw2]at hsz
     have nc:(!decide (c=0))=true:=by rw[decide_eq_false hc0];rfl
     simp only[dgO]at hsz⊢
     repeat' (first|refine run ⟨?_⟩|refine ca (hck _) ?_|refine ca (hmany _) ?_|refine ca (hnames _) ?_|refine ca (htypes _) ?_|refine ca (hsaid _) ?_|refine ca (hsz _) ?_|fail)
     exact rfl
    |none=>
     rw[hw2]at hsz
     simp only[dgO]at hsz⊢
     have hflm:(x.fs.map Fnc.D).length=x.fs.length:=List.length_map ..
     repeat' (first|refine run ⟨?_⟩|refine ca (hck _) ?_|refine ca (hmany _) ?_|refine ca (hnames _) ?_|refine ca (htypes _) ?_|refine ca (hsaid _) ?_|refine ca (hsz _) ?_|fail)
     refine a0g (α:=Nat) (fun a=>x.fs.length - a) (fun a=>[(1,.ptr 0 0),(2,.ptr 1 0),(3,.ptr 2 0),(5,.ptr 4 0),(6,i64 a)]) (fun _=>HO t x) (fun a=>a<=x.fs.length/\∀ j,j < a->(nF x)[j]? ≠some b5p) ?_ 0 ⟨Nat.zero_le _,fun j hj=>absurd hj (Nat.not_lt_zero _)⟩ rfl rfl
     rintro a ⟨ha,hno⟩
     by_cases cA:a < x.fs.length
     ·have c1:(a:Int) < ((x.fs.map Fnc.D).length:Int):=om
      have pf:=gF cA
      have hfm:x.fs.getD a default∈x.fs:=by rw[List.getD_eq_getElem?_getD,List.getElem?_eq_getElem cA];exact List.getElem_mem _
      have hfd:=hfs _ hfm
      have hdg:=fun H=>a6j (fx:=fx) (F:=FT) hfd 144 H
      have hna:(nF x)[a]? =some (x.fs.getD a default).n:=by
       unfold nF
       rw[List.getElem?_map,List.getElem?_eq_getElem cA,List.getD_eq_getElem?_getD,List.getElem?_eq_getElem cA];rfl
      have wa:IntKind.i64.wrap ((a:Int)+1)=((a+1:Nat):Int):=by rw[a0w om];omega
      have hpos:(x.fs.getD a default).n=b5p->pos (nF x) b5p=some a:=fun e=>f0x (by rw[hna,e]) hno
      have hfg:x.fs.getD a default=x.fs.getD a default:=rfl
      revert pf hdg hna hpos hfg
      generalize hfe:x.fs.getD a default=f
      intro pf hdg hna hpos _
      have hpl:(f.ps.map Fld.D).length=f.ps.length:=List.length_map ..
      by_cases cm:f.n=b5p
      ·have cm':f.n=[109,97,105,110]:=cm
       rw[hpos cm]
       simp only[hfe]
       by_cases cp:0 < f.ps.length
       ·have dp:((f.ps.map Fld.D).length:Int) > 0:=om
        rw[if_pos (.inl cp)]
        repeat' (first|refine run ⟨?_⟩|refine a0a pf ?_|refine ca (hdg _) ?_|fail)
        exact rfl
       ·have dp:¬ ((f.ps.map Fld.D).length:Int) > 0:=om
        by_cases cr:f.r=d7d
        ·have dr:(!decide (f.r=[40,41]))=false:=by rw[decide_eq_true (show f.r=[40,41] from cr)];rfl
         rw[if_neg (by rintro(q|q);exact cp q;exact q cr)]
         repeat' (first|refine run ⟨?_⟩|refine a0a pf ?_|refine ca (hdg _) ?_|fail)
         first|exact rfl|exact⟨rfl,rfl⟩
        ·have dr:(!decide (f.r=[40,41]))=true:=by rw[decide_eq_false (show ¬ f.r=[40,41] from cr)];rfl
         rw[if_pos (.inr cr)]
         repeat' (first|refine run ⟨?_⟩|refine a0a pf ?_|refine ca (hdg _) ?_|fail)
         exact rfl
      ·have cm':¬ f.n=[109,97,105,110]:=cm
       repeat' (first|refine run ⟨?_⟩|refine a0a pf ?_|fail)
       refine⟨a+1,⟨om,fun j hj=>?_⟩,om,by rw[wa]<;>rfl,rfl⟩
       by_cases e:j=a
       ·rw[e,hna];intro q;exact cm (Option.some.inj q)
       ·exact hno j om
     ·have c1:¬ (a:Int) < ((x.fs.map Fnc.D).length:Int):=om
      obtain rfl:a=x.fs.length:=om
      have hp:pos (nF x) b5p=none:=by
       cases hp:pos (nF x) b5p with
       |none=>rfl
       |some i=>
        have h1:=(b0i hp).1
        have h2:=b2o hp
        unfold nF at h2
        rw[List.length_map]at h2
        exact absurd h1 (hno i h2)
      rw[hp]
      refine run ⟨?_⟩
      exact rfl
end
end Go.Vm.Ite
namespace Go.Vm.Ite
open Go.Vm.Tp (Nd a1r a1f a3x)
open Go.Vm.Ip
open Go.Vm.Io hiding S
section
variable {fx:Nat->Option Obj} {F:Nat->Option a0t}
theorem c4b (l:List Fld) (hl:l.length<=140737488355328) (H:Hp):evF (pgL fx F) c6q [.d (a2h l),.d (a2h l)] H=some (boo true,H):=by
 refine a1d (c6w (F:=F)) rfl rfl ?_ H
 have hlm:(l.map Fld.D).length=l.length:=List.length_map ..
 have q0:(!decide (((l.map Fld.D).length:Int)=((l.map Fld.D).length:Int)))=false:=by simp
 refine run ⟨?_⟩
 refine a0g (α:=Nat) (fun a=>l.length - a) (fun a=>[(0,.d (a2h l)),(1,.d (a2h l)),(12,i64 ((l.map Fld.D).length:Int)),(13,i64 a)]) (fun _=>[]) (fun a=>a<=l.length) ?_ 0 (Nat.zero_le _) rfl rfl
 intro a ha
 by_cases cA:a < l.length
 ·have c1:(a:Int) < ((l.map Fld.D).length:Int):=om
  have pf:=gFl cA
  have wa:IntKind.i64.wrap ((a:Int)+1)=((a+1:Nat):Int):=by rw[a0w om];omega
  generalize l.getD a default=f at pf
  have q1:(!eqL (D.cells f.D) (D.cells f.D))=false:=by rw[show eqL (D.cells f.D) (D.cells f.D)=eF f f from g3k f f,g3g];rfl
  repeat' (first|refine run ⟨?_⟩|refine a0a pf ?_|fail)
  exact⟨a+1,om,om,by rw[wa]<;>rfl,rfl⟩
 ·have c1:¬ (a:Int) < ((l.map Fld.D).length:Int):=om
  refine run ⟨?_⟩
  exact rfl
set_option maxHeartbeats 4000000 in
theorem f3o (x:Its) (hx:b0r x) (H:Hp):evF (pgL fx F) d0y [.d x.D,.d x.D,boo true] H=some (boo true,H):=by
 refine a1d (d1c (F:=F)) rfl rfl ?_ H
 have h1:(x.ss.map Nam.D).length=x.ss.length:=List.length_map ..
 have h2:(x.es.map Nam.D).length=x.es.length:=List.length_map ..
 have h3:(x.fs.map Fnc.D).length=x.fs.length:=List.length_map ..
 have l1:x.ss.length<=140737488355328:=hx.ss
 have l2:x.es.length<=140737488355328:=hx.es
 have l3:x.fs.length<=140737488355328:=hx.fs
 have q1:(!decide (((x.ss.map Nam.D).length:Int)=((x.ss.map Nam.D).length:Int)))=false:=by simp
 have q2:(!decide (((x.es.map Nam.D).length:Int)=((x.es.map Nam.D).length:Int)))=false:=by simp
 have q3:(!decide (((x.fs.map Fnc.D).length:Int)=((x.fs.map Fnc.D).length:Int)))=false:=by simp
 refine run ⟨?_⟩
 refine a0g (α:=Nat) (fun a=>x.ss.length - a) (fun a=>[(2,boo true),(3,.ptr 0 0),(4,.ptr 1 0),(40,i64 ((x.ss.map Nam.D).length:Int)),(41,i64 a)]) (fun _=>[IB x,IB x]) (fun a=>a<=x.ss.length) ?_ 0 (Nat.zero_le _) rfl rfl
 intro a ha
 by_cases cA:a < x.ss.length
 ·have c1:(a:Int) < ((x.ss.map Nam.D).length:Int):=om
  have pf:=gN cA
  have hm:x.ss.getD a default∈x.ss:=by rw[List.getD_eq_getElem?_getD,List.getElem?_eq_getElem cA];exact List.getElem_mem _
  have hfi:=hx.sf _ hm
  have wa:IntKind.i64.wrap ((a:Int)+1)=((a+1:Nat):Int):=by rw[a0w om];omega
  generalize x.ss.getD a default=y at pf hfi
  have hpf:=fun H=>c4b (fx:=fx) (F:=F) y.fs (Nat.le_trans hfi.2.1 (by decide)) H
  have q4:(!decide (y.n=y.n))=false:=by simp
  repeat' (first|refine run ⟨?_⟩|refine a0a pf ?_|refine ca (hpf _) ?_|fail)
  exact⟨a+1,om,om,by rw[wa]<;>rfl,rfl⟩
 have c1:¬ (a:Int) < ((x.ss.map Nam.D).length:Int):=om
 refine run ⟨?_⟩
 refine a0g (α:=Nat) (fun a=>x.es.length - a) (fun a=>[(2,boo true),(3,.ptr 0 0),(4,.ptr 1 0),(76,i64 ((x.es.map Nam.D).length:Int)),(77,i64 a)]) (fun _=>[IB x,IB x]) (fun a=>a<=x.es.length) ?_ 0 (Nat.zero_le _) rfl rfl
 intro a ha
 by_cases cA:a < x.es.length
 ·have c1:(a:Int) < ((x.es.map Nam.D).length:Int):=om
  have pf:=gN cA
  have hm:x.es.getD a default∈x.es:=by rw[List.getD_eq_getElem?_getD,List.getElem?_eq_getElem cA];exact List.getElem_mem _
  have hfi:=hx.ef _ hm
  have wa:IntKind.i64.wrap ((a:Int)+1)=((a+1:Nat):Int):=by rw[a0w om];omega
  generalize x.es.getD a default=y at pf hfi
  have hpf:=fun H=>c4b (fx:=fx) (F:=F) y.fs (Nat.le_trans hfi.2.1 (by decide)) H
  have q4:(!decide (y.n=y.n))=false:=by simp
  repeat' (first|refine run ⟨?_⟩|refine a0a pf ?_|refine ca (hpf _) ?_|fail)
  exact⟨a+1,om,om,by rw[wa]<;>rfl,rfl⟩
 have c1:¬ (a:Int) < ((x.es.map Nam.D).length:Int):=om
 refine run ⟨?_⟩
 refine a0g (α:=Nat) (fun a=>x.fs.length - a) (fun a=>[(2,boo true),(4,.ptr 1 0),(111,.d (.sl (x.fs.map Fnc.D))),(112,i64 ((x.fs.map Fnc.D).length:Int)),(113,i64 a)]) (fun _=>[IB x,IB x]) (fun a=>a<=x.fs.length) ?_ 0 (Nat.zero_le _) rfl rfl
 intro a ha
 by_cases cA:a < x.fs.length
 rotate_left
 ·have c1:¬ (a:Int) < ((x.fs.map Fnc.D).length:Int):=om
  refine run ⟨?_⟩
  exact rfl
 have c1:(a:Int) < ((x.fs.map Fnc.D).length:Int):=om
 have pf:=gF cA
 have hm:x.fs.getD a default∈x.fs:=by rw[List.getD_eq_getElem?_getD,List.getElem?_eq_getElem cA];exact List.getElem_mem _
 have hfi:=hx.ff _ hm
 have wa:IntKind.i64.wrap ((a:Int)+1)=((a+1:Nat):Int):=by rw[a0w om];omega
 generalize x.fs.getD a default=y at pf hfi
 have hpf:=fun H=>c4b (fx:=fx) (F:=F) y.ps (Nat.le_trans hfi.2.2.2.1 (by decide)) H
 have hml:y.ms.length<=140737488355328:=hfi.2.2.1
 have hmm:(y.ms.map D.bool).length=y.ms.length:=List.length_map ..
 have q4:(!decide (y.n=y.n))=false:=by simp
 have q5:(!decide (y.r=y.r))=false:=by simp
 have q6:(!decide (y.d=y.d))=false:=by simp
 have q7:(!decide (((y.ms.map D.bool).length:Int)=((y.ms.map D.bool).length:Int)))=false:=by simp
 repeat' (first|refine run ⟨?_⟩|refine a0a pf ?_|refine ca (hpf _) ?_|fail)
 refine a0g (α:=Nat) (fun b=>y.ms.length - b) (fun b=>[(2,boo true),(4,.ptr 1 0),(10,.ptr 2 0),(11,.ptr 3 0),(111,.d (.sl (x.fs.map Fnc.D))),(112,i64 ((x.fs.map Fnc.D).length:Int)),(113,i64 a),(164,i64 ((y.ms.map D.bool).length:Int)),(165,i64 b)]) (fun _=>[IB x,IB x,.box [str y.n,.d (a2h y.ps),.d (.sl (y.ms.map D.bool)),str y.r,i64 y.d],.box [str y.n,.d (a2h y.ps),.d (.sl (y.ms.map D.bool)),str y.r,i64 y.d]]) (fun b=>b<=y.ms.length) ?_ 0 (Nat.zero_le _) rfl rfl
 intro b hb
 by_cases cB:b < y.ms.length
 rotate_left
 ·have c2:¬ (b:Int) < ((y.ms.map D.bool).length:Int):=om
  refine run ⟨?_⟩
  exact⟨a+1,om,om,by rw[wa]<;>rfl,rfl⟩
 have c2:(b:Int) < ((y.ms.map D.bool).length:Int):=om
 have pb:0<=(b:Int)/\(y.ms.map D.bool)[(b:Int).toNat]? =some (.bool y.ms[b]):=⟨om,by rw[Int.toNat_natCast,List.getElem?_map,List.getElem?_eq_getElem cB];rfl⟩
 have wb:IntKind.i64.wrap ((b:Int)+1)=((b+1:Nat):Int):=by rw[a0w om];omega
 generalize y.ms[b]=z at pb
 have q8:(!(z==z))=false:=by simp
 repeat' (first|refine run ⟨?_⟩|refine a0a pb ?_|fail)
 exact⟨b+1,om,om,by rw[wb]<;>rfl,rfl⟩
end
end Go.Vm.Ite
