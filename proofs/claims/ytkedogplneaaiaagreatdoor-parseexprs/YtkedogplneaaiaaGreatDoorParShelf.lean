import Derived.Test.YtkedogplneaaiaaGreatDoorPlW3
import Derived.Test.YtkedogplneaaiaaGreatDoorVmNum
import Derived.Lib.DecodeN
import Derived.Shelf.Small.Strs
import Derived.Shelf.Strconv.Itoa0
import Derived.Shelf.Strconv.Itoa1
import Derived.Shelf.LaysM
import Derived.Shelf.Strconv.Itoa2
import Derived.Shelf.Strconv.Itoa3
import Derived.Shelf.Strconv.Clone
import Derived.Shelf.Strconv.SyntaxError
import Derived.Shelf.LaysC
import Derived.Shelf.Strconv.ToError
import Derived.Shelf.Strconv.Lower
import Derived.Shelf.Strconv.ParseUint10
import Derived.Shelf.Strconv.ParseUint10Empty
import Derived.Shelf.Strconv.ParseUint10Any
import Derived.Shelf.Strconv.RangeError
import Derived.Shelf.Strconv.ToErrorRange
import Derived.Shelf.Strconv.ParseUintEmpty
import Derived.Shelf.Strconv.ParseUint10b64
import Derived.Shelf.Strconv.ParseUint10b32
import Derived.Shelf.Strconv.ParseUint10b16
import Derived.Shelf.Strconv.ParseUint10b8
import Derived.Shelf.Strconv.ParseUint10At
import Derived.Ground.MpProg
import Derived.Shelf.Pu.ParseUintPublic10
import Derived.Shelf.Pu.ErrVarParseUint
import Derived.Shelf.Strings.Search1
import Derived.Shelf.Strings.Prefix
import Derived.Shelf.Unicode.Decode
import Derived.Shelf.Unicode.DecodeSlow
import Derived.Shelf.Unicode.DecodeAny
import Derived.Test.YtkedogplneaaiaaGreatDoorProg
set_option maxRecDepth 100000
set_option linter.unusedVariables false
set_option linter.unusedSimpArgs false
namespace Go.Vm.Lex
open Go.Vm.Ite
section
variable {fx:Nat->Option Obj} {F:Nat->Option a0v} [HL F] (H:Hp)
theorem g0a (c d:UInt8):c=d↔c.toNat=d.toNat:=UInt8.toNat_inj.symm
theorem e0q {s:List UInt8} {i:Nat} (hm:s.length<=9223372036854775807) (h:i+1 < s.length) {k:UInt8->Prop} (hk:k s[i+1]):∃ c,(0<=IntKind.i64.wrap ((i:Int)+1)/\s[(IntKind.i64.wrap ((i:Int)+1)).toNat]? =some c)/\k c:=by
 rw[a3z om]
 exact⟨_,⟨om,by rw[show((i:Int)+1).toNat=i+1 by omega,List.getElem?_eq_getElem h]⟩,hk⟩
set_option maxHeartbeats 2000000 in
theorem e2s (s:List UInt8) (hs:s.length<=maxLen) (at_:Nat) (ha:at_<=s.length):evF (pgL fx F) c1g [str s,i64 at_] H=some (i64 ((at_+a0j false (s.drop at_):Nat)),H):=by
 have _u:=(inferInstance:HL F)
 have hm:s.length<=9223372036854775807:=hs
 clear hs
 refine a4n (d3k (F:=F)) rfl rfl ?_ H
 generalize hT:at_+a0j false (s.drop at_)=T
 refine wp_loop (α:=Nat) (fun i=>s.length - i) (fun i=>[(0,str s),(1,i64 i)]) (fun _=>[]) (fun i=>i<=s.length/\i+a0j false (s.drop i)=T) ?_ at_ ⟨ha,hT⟩
 clear hT ha at_
 rintro i ⟨hi,hr⟩
 refine And.intro (fun hl=>?_) (fun hl=>?_)
 ·replace hl:=of_decide_eq_true hl
  have hlt:i < s.length:=om
  have hd:s.drop i=s[i]::s.drop (i+1):=List.drop_eq_getElem_cons hlt
  have w:wsB s[i]=true↔(s[i].toNat=32\/s[i].toNat=9\/s[i].toNat=10\/s[i].toNat=13):=by simp[wsB,g0a]
  have q:s[i]=47↔s[i].toNat=47:=g0a _ 47
  have ew:IntKind.i64.wrap ((i:Int)+1)=(i:Int)+1:=a3z om
  refine a9g hlt ?_
  repeat' (first
      |(refine And.intro (fun h=>?_) (fun h=>?_)<;>try(exfalso;(simp at h;done)))
      |refine e0q hm (by(have hx:¬ (IntKind.i64.wrap ((i:Int)+1)=(s.length:Int)):=of_decide_eq_false (by assumption));omega) ?_)
  all_goals simp only[Bool.not_true,Bool.not_false,Bool.not_eq_true',Bool.not_eq_false',decide_eq_true_eq,decide_eq_false_iff_not]at*
  all_goals first
    |(refine⟨i+1,⟨om,?_⟩,om,?_,rfl⟩
      ·rw[hd,a7j,if_pos (w.2 om)]at hr;omega
      ·rw[ew];rfl)
    |(show _=_
      have hn:¬ (s[i]=47/\(s.drop (i+1)).head? =some 47):=by
       rintro⟨h1,h2⟩
       rw[q]at h1
       rw[List.head?_drop]at h2
       obtain⟨h3,h4⟩:=List.getElem?_eq_some_iff.1 h2
       have h5:(s[i+1]'h3).toNat=47:=by rw[h4];rfl
       omega
      rw[hd,a7j,if_neg (fun e=>by have:=w.1 e;omega),if_neg hn]at hr
      simp only[oneOf]
      congr 3;done)
    |skip
  have hlt2:i+1 < s.length:=by
   have hx:¬ (IntKind.i64.wrap ((i:Int)+1)=(s.length:Int)):=of_decide_eq_false (by assumption)
   omega
  have hh:s[i]=47/\(s.drop (i+1)).head? =some 47:=by
   refine⟨q.2 om,?_⟩
   rw[List.head?_drop,List.getElem?_eq_getElem hlt2]
   congr 1
   rw[g0a]
   show s[i+1].toNat=47
   omega
  have hr2:i+a0j true (s.drop i)=T:=by rw[<-hr,hd,d4m _ _ hh]
  refine wp_loop (α:=Nat) (fun j=>s.length - j) (fun j=>[(0,str s),(1,i64 j)]) (fun _=>[]) (fun j=>i<=j/\j<=s.length/\j+a0j true (s.drop j)=T) ?_ i ⟨om,om,hr2⟩
  rintro j ⟨h1,h2,h3⟩
  refine And.intro (fun hj=>?_) (fun hj=>?_)
  ·replace hj:=of_decide_eq_true hj
   have hjt:j < s.length:=om
   have hdj:s.drop j=s[j]::s.drop (j+1):=List.drop_eq_getElem_cons hjt
   have qj:s[j]=10↔s[j].toNat=10:=g0a _ 10
   refine a9g hjt ?_
   rw[hdj,b5m]at h3
   refine And.intro (fun h=>?_) (fun h=>?_)
   ·simp only[Bool.not_eq_true',decide_eq_false_iff_not]at h
    rw[if_neg (fun e=>h (by rw[qj.1 e];rfl))]at h3
    refine⟨j+1,⟨om,om,om⟩,om,?_,rfl⟩
    rw[a3z om];rfl
   ·simp only[Bool.not_eq_false',decide_eq_true_eq]at h
    have h10:s[j]=10:=qj.2 om
    rw[if_pos h10]at h3
    have hne:i≠j:=by rintro rfl;omega
    refine⟨j,⟨om,?_⟩,om,rfl,rfl⟩
    rw[hdj,a7j,if_pos (by simp[wsB,h10])];omega
  ·replace hj:=of_decide_eq_false hj
   rw[List.drop_eq_nil_of_le om,b2m]at h3
   repeat' (refine And.intro (fun h=>?_) (fun h=>?_)<;>try(exfalso;simp at h;done))
   all_goals
    refine⟨j,⟨om,?_⟩,om,rfl,rfl⟩
    rw[List.drop_eq_nil_of_le om,b2m];omega
 ·replace hl:=of_decide_eq_false hl
  rw[List.drop_eq_nil_of_le om,b2m]at hr
  show _=_
  simp only[oneOf]
  congr 3
end
end Go.Vm.Lex
namespace Go.Vm.Lex
open Go.Vm.Ite
def tkD (k:Int) (t:List UInt8) (v f e:Int):D:= .agg [.int .i64 k,.str t,.int .i64 v,.int .i64 f,.int .i64 e]
def dgD (c f e:Int):D:= .agg [.int .i64 c,.int .i64 f,.int .i64 e]
def wD (s:List UInt8):Nat:=(d9i ⟨s.toArray⟩).2
def h9y (s:List UInt8):V:= .tup [.d (tkD (if c0i s then 3 else 0) (if c0i s then s else[]) (if c0i s then b9q s else 0) 0 0),i64 (if c0i s then 0 else 112)]
def f9m (s:List UInt8):V:= .tup [.d (tkD (a1k wD s).k (a1k wD s).t (a1k wD s).v 0 0),i64 (a1k wD s).n,i64 (a1k wD s).e]
section
variable {fx:Nat->Option Obj} {F:Nat->Option a0v} [HL F] (H:Hp)
theorem f2j (s:List UInt8) (hs:s.length<=281474976710656) (h0:s≠[]):evF (pgL fx F) d7e [str s] H=some (h9y s,H):=by
 have key:=e9o (M:=18446744073709551615) om s 0
 have hp:Lib.parseUintB 64 s=Lib.parseUintM 18446744073709551615 0 s:=by unfold Lib.parseUintB;rw[if_neg h0]
 have hpr:∀ H:Hp,evF (pgL fx F) c7p [str s,i64 10,i64 64] H=(match Lib.parseUintB 64 s with
       | .ok u=>some (.tup [.d (.int .u64 u),.ifc true],H)
       | .range=>some (.tup [.d (.int .u64 18446744073709551615),.ifc false],H)
       |_=>some (.tup [.d (.int .u64 0),.ifc false],H)):=by
   intro H
   rw[b3t (e0b (F:=F))]
   exact if_pos ⟨⟨rfl,rfl⟩,hs⟩
 rw[hp]at hpr
 refine a4n (d7h (F:=F)) rfl rfl ?_ H
 cases hr:Lib.parseUintM 18446744073709551615 0 s with
 |ok u=>
  rw[hr]at hpr key
  obtain⟨k1,k2⟩:=key
  refine Exists.intro _ (Exists.intro _ (And.intro (hpr _) ?_))
  by_cases hu:u<=9223372036854775807
  ·have hn:c0i s=true:=by simp[c0i,k1];show f0i 0 s<=_;omega
   repeat' (refine And.intro (fun h=>?_) (fun h=>?_)<;>try(exfalso;simp at h;done))
   all_goals first
     |(exfalso;have h1:=of_decide_eq_true h;omega)
     |(show _=_
       simp only[oneOf,h9y,hn,if_true,tkD]
       rw[a3z om,k2];rfl)
  ·have hn:c0i s=false:=by simp[c0i,k1];show _ < f0i 0 s;omega
   repeat' (refine And.intro (fun h=>?_) (fun h=>?_)<;>try(exfalso;simp at h;done))
   all_goals first
     |(exfalso;have h1:=of_decide_eq_false h;omega)
     |(show _=_
       simp only[oneOf,h9y,hn,tkD];rfl)
 |_=>
  rw[hr]at hpr key
  refine Exists.intro _ (Exists.intro _ (And.intro (hpr _) ?_))
  have hn:c0i s=false:=by
   cases hb:c0i s with
   |false=>rfl
   |true=>simp[c0i]at hb;exact absurd ⟨List.all_eq_true.2 hb.1,hb.2⟩ key
  repeat' (refine And.intro (fun h=>?_) (fun h=>?_)<;>try(exfalso;simp at h;done))
  all_goals
   show _=_
   simp only[oneOf,h9y,hn,tkD];try rfl
theorem g1r (s:List UInt8):evF (pgL fx F) c4y [str s] H=some (.tup [.d (.int .i32 (d9i ⟨s.toArray⟩).1),i64 (wD s)],H):=by
 rw[b3t (d5b (F:=F))];try rfl
theorem f9f (s:List UInt8) (hs:s.length<=281474976710656):evF (pgL fx F) c8q [str s] H=some (f9m s,H):=by
 have hm:s.length<=maxLen:=by unfold maxLen;omega
 have hrl:=b2a s
 have e1:List.drop 0 (List.take (Int.toNat ((a2q s:Nat):Int)) s)=s.take (a2q s):=by simp
 refine a4n (d9f (F:=F)) rfl rfl ?_ H
 refine Exists.intro _ (Exists.intro _ (And.intro (h1g _ _ hm) ?_))
 by_cases hr:0 < a2q s
 ·have hne:s≠[]:=by rintro rfl;simp[a2q]at hr
  refine And.intro (fun h=>?_) (fun h=>?_)
  ·refine e9r hne ?_
   refine Exists.intro _ (Exists.intro _ (And.intro (e3w _ _) ?_))
   refine And.intro (fun hd=>?_) (fun hd=>?_)
   ·refine And.intro om ?_
    refine And.intro ⟨om,om⟩ ?_
    have htn:s.take (a2q s)≠[]:=by
     intro e;rw[List.take_eq_nil_iff]at e;rcases e with e|e;omega;exact hne e
    refine Exists.intro _ (Exists.intro _ (And.intro (f2j _ _ (by rw[e1,List.length_take];omega) (by rw[e1];exact htn)) ?_))
    show _=_
    rw[e1]
    simp only[oneOf,f9m,a1k,if_pos (And.intro hr hd),tkD]
    cases c0i (s.take (a2q s))<;>rfl
   ·have hd':¬ (0 < a2q s/\isD (hd0 s)=true):=by rw[hd];simp
    refine And.intro (fun h3=>?_) (fun h3=>?_)
    ·refine And.intro om ?_
     refine And.intro ⟨om,om⟩ ?_
     refine And.intro (fun h4=>?_) (fun h4=>?_)
     ·rw[e1]at h4
      simp only[Bool.not_eq_true',decide_eq_false_iff_not]at h4
      refine And.intro om ?_
      refine And.intro ⟨om,om⟩ ?_
      refine Exists.intro _ (Exists.intro _ (And.intro (g6p _ _) ?_))
      rw[e1]
      refine And.intro (fun h5=>?_) (fun h5=>?_)
      all_goals
       refine And.intro (fun h6=>?_) (fun h6=>?_)
       ·replace h6:=of_decide_eq_true h6
        show _=_
        simp only[oneOf,f9m,a1k,if_neg hd',if_pos (And.intro hr h4),if_pos (show 64 < a2q s by omega),tkD];try rfl
       ·replace h6:=of_decide_eq_false h6
        refine And.intro om ?_
        refine And.intro ⟨om,om⟩ ?_
        show _=_
        rw[e1]
        simp only[oneOf,f9m,a1k,if_neg hd',if_pos (And.intro hr h4),if_neg (show ¬ 64 < a2q s by omega),h5,tkD];try rfl
     ·rw[e1]at h4
      simp only[Bool.not_eq_false',decide_eq_true_eq]at h4
      have h4':¬ (0 < a2q s/\s.take (a2q s)≠[95]):=fun e=>e.2 h4
      refine Exists.intro _ (Exists.intro _ (And.intro (f3e _ _) ?_))
      refine And.intro (fun h7=>?_) (fun h7=>?_)
      ·simp only[Bool.not_eq_true',decide_eq_false_iff_not]at h7
       show _=_
       simp only[oneOf,f9m,a1k,if_neg hd',if_neg h4',if_pos h7,tkD];try rfl
      ·simp only[Bool.not_eq_false',decide_eq_true_eq]at h7
       refine Exists.intro _ (Exists.intro _ (And.intro (g1r _ _) ?_))
       show _=_
       simp only[oneOf,f9m,a1k,if_neg hd',if_neg h4',h7,tkD,ne_eq,not_true,if_false];try rfl
    ·exfalso;simp at h3;omega
  ·exfalso;simp at h;omega
 ·have hd':¬ (0 < a2q s/\isD (hd0 s)=true):=fun e=>hr e.1
  have h4':¬ (0 < a2q s/\s.take (a2q s)≠[95]):=fun e=>hr e.1
  repeat' (first|(refine And.intro (fun h=>?_) (fun h=>?_)<;>first|(exfalso;simp at h;done)|(exfalso;simp at h;omega)|skip))
  refine Exists.intro _ (Exists.intro _ (And.intro (f3e _ _) ?_))
  refine And.intro (fun h7=>?_) (fun h7=>?_)
  ·simp only[Bool.not_eq_true',decide_eq_false_iff_not]at h7
   show _=_
   simp only[oneOf,f9m,a1k,if_neg hd',if_neg h4',if_pos h7,tkD];try rfl
  ·simp only[Bool.not_eq_false',decide_eq_true_eq]at h7
   refine Exists.intro _ (Exists.intro _ (And.intro (g1r _ _) ?_))
   show _=_
   simp only[oneOf,f9m,a1k,if_neg hd',if_neg h4',h7,tkD,ne_eq,not_true,if_false];try rfl
theorem c0e (c f e:Int):evF (pgL fx F) d4p [i64 c,i64 f,i64 e] H=some (.d (dgD c f e),H):=by
 have _u:=(inferInstance:HL F)
 refine a4n (d6g (F:=F)) rfl rfl ?_ H
 rfl
end
end Go.Vm.Lex
namespace Go.Vm.Lex
open Go.Vm.Ite
theorem c7i {s:List UInt8} {i:Nat} (h:i < s.length):b9q (s.take (i+1))=b9q (s.take i) *10+dig s[i]:=by
 unfold b9q f0i
 rw[List.take_add_one,List.getElem?_eq_getElem h,List.foldl_append];rfl
theorem f2c {s:List UInt8} (i:Nat):b9q (s.take i)<=b9q s:=by
 have h:b9q s=f0i (b9q (s.take i)) (s.drop i):=by
  unfold b9q f0i
  rw[<-List.foldl_append,List.take_append_drop]
 rw[h];exact d8q _ _
section
variable {fx:Nat->Option Obj} {F:Nat->Option a0v} [HL F] (H:Hp)
theorem e5h (s:List UInt8) (hs:s.length<=maxLen) (hd:s.all isD=true):∃ v:Int,(c0i s=true->v=b9q s)/\∀ H:Hp,evF (pgL fx F) b8b [str s] H=some (.tup [i64 v,boo (c0i s)],H):=by
 have _u:=(inferInstance:HL F)
 have hm:s.length<=9223372036854775807:=hs
 have hnb:c0i s=decide (b9q s<=9223372036854775807):=by simp[c0i,hd]
 have hdig:∀ i (h:i < s.length),48<=s[i].toNat/\s[i].toNat<=57:=by
  intro i h
  have:=List.all_eq_true.1 hd s[i] (List.getElem_mem _)
  simpa [isD] using this
 have key:∀ v:Int,(∃ j,j < s.length/\922337203685477580 < b9q (s.take j))/\v=0\/(∀ j,j < s.length->b9q (s.take j)<=922337203685477580)/\v=IntKind.i64.wrap (b9q s)->∀ H:Hp,evF (pgL fx F) b8b [str s] H=some (.tup [i64 v,boo (c0i s)],H):=by
  intro v hv H
  refine a4n (c9k (F:=F)) rfl rfl ?_ H
  refine wp_loop (α:=Nat) (fun i=>s.length - i) (fun i=>[(0,str s),(4,.d (.int .u64 (b9q (s.take i)))),(5,i64 i)]) (fun _=>[]) (fun i=>i<=s.length/\∀ j,j < i->b9q (s.take j)<=922337203685477580) ?_ 0 ⟨om,om⟩
  rintro i ⟨hi,hall⟩
  refine And.intro (fun hl=>?_) (fun hl=>?_)
  ·replace hl:=of_decide_eq_true hl
   have hlt:i < s.length:=om
   refine And.intro (fun h=>?_) (fun h=>?_)
   ·replace h:=of_decide_eq_true h
    have h1:=c7i hlt
    have h2:=f2c (s:=s) (i+1)
    have hb:c0i s=false:=by rw[hnb];simp;omega
    have hv0:v=0:=by
     rcases hv with⟨_,e⟩|⟨e,_⟩
     ·exact e
     ·have:=e i hlt;omega
    show _=_
    rw[hb,hv0];rfl
   ·replace h:=of_decide_eq_false h
    refine a9g hlt ?_
    obtain⟨d1,d2⟩:=hdig i hlt
    have h1:=c7i hlt
    have hdg:dig s[i]=s[i].toNat - 48:=rfl
    refine⟨i+1,⟨om,fun j hj=>?_⟩,om,?_,rfl⟩
    ·by_cases e:j=i
     ·subst e;omega
     ·exact hall j om
    ·rw[a3z om,i2g (n:=(b9q (s.take i):Int) *10) om,u8w om,i2g (n:=(s[i].toNat:Int) - 48) om,i2g om,h1,hdg]
     have e9:((b9q (s.take i):Int) *10+((s[i].toNat:Int) - 48))=((b9q (s.take i) *10+(s[i].toNat - 48):Nat):Int):=om
     rw[e9];rfl
  ·replace hl:=of_decide_eq_false hl
   have hi':i=s.length:=om
   subst hi'
   rw[List.take_length]
   have hv1:v=IntKind.i64.wrap (b9q s):=by
    rcases hv with⟨⟨j,h1,h2⟩,_⟩|⟨_,e⟩
    ·have:=hall j h1;omega
    ·exact e
   show _=_
   have eb:decide ((b9q s:Int)<=9223372036854775807)=decide (b9q s<=9223372036854775807):=by simp only[decide_eq_decide];omega
   rw[hv1,hnb,<-eb]
   rfl
 by_cases hx:∃ j,j < s.length/\922337203685477580 < b9q (s.take j)
 ·refine⟨0,fun h=>?_,key 0 (.inl ⟨hx,rfl⟩)⟩
  obtain⟨j,h1,h2⟩:=hx
  have h3:=c7i h1
  have h4:=f2c (s:=s) (j+1)
  rw[hnb]at h;simp at h;omega
 ·refine⟨IntKind.i64.wrap (b9q s),fun h=>?_,key _ (.inr ⟨fun j hj=>Nat.le_of_not_lt fun h=>hx ⟨j,hj,h⟩,rfl⟩)⟩
  rw[hnb]at h;simp at h
  exact a3z om
def e4m (s:List UInt8) (a:Nat):V:=
 if c0i ((s.drop a).take (a2q (s.drop a))) then .tup [.d (tkD 3 ((s.drop a).take (a2q (s.drop a))) (b9q ((s.drop a).take (a2q (s.drop a)))) a (a+a2q (s.drop a):Nat)),.d (dgD 0 0 0)]
 else .tup [.d (tkD 0 [] 0 0 0),.d (dgD 112 a (a+a2q (s.drop a):Nat))]
theorem e3x (s:List UInt8) (a n:Nat):List.drop (Int.toNat (a:Int)) (List.take (Int.toNat ((a+n:Nat):Int)) s)=(s.drop a).take n:=by
 simp only[Int.toNat_natCast]
 rw[List.drop_take];congr 1;omega
theorem c8o (s:List UInt8) (hs:s.length<=maxLen) (a:Nat) (ha:a<=s.length):evF (pgL fx F) c5e [str s,i64 a] H=some (e4m s a,H):=by
 have hm:s.length<=9223372036854775807:=hs
 have hrl:=b2a (s.drop a)
 rw[List.length_drop]at hrl
 refine a4n (c5f (F:=F)) rfl rfl ?_ H
 refine Exists.intro _ (Exists.intro _ (And.intro (d7y _ _ _ ha hs) ?_))
 generalize hn:a2q (s.drop a)=n at*
 refine wp_loop (α:=Nat) (fun i=>a+n - i) (fun i=>[(0,str s),(1,i64 a),(4,.ptr 0 0),(5,.ptr 1 0),(6,i64 (a+n:Nat)),(7,i64 i)]) (fun _=>[.box [.d (.int .i64 0),.d (.str []),.d (.int .i64 0),.d (.int .i64 0),.d (.int .i64 0)],.box [.d (.int .i64 0),.d (.int .i64 0),.d (.int .i64 0)]]) (fun i=>a<=i/\i<=a+n/\((s.drop a).take (i - a)).all isD=true) ?_ a ⟨om,om,by simp⟩
 rintro i ⟨h1,h2,hall⟩
 refine And.intro (fun hl=>?_) (fun hl=>?_)
 ·replace hl:=of_decide_eq_true hl
  have hlt:i < s.length:=om
  have hget:(s.drop a)[i - a]? =some s[i]:=by rw[List.getElem?_drop,show a+(i - a)=i by omega,List.getElem?_eq_getElem hlt]
  refine a9g hlt ?_
  refine Exists.intro _ (Exists.intro _ (And.intro (c1p _ _) ?_))
  refine And.intro (fun h=>?_) (fun h=>?_)
  ·refine Exists.intro _ (Exists.intro _ (And.intro (c0e _ _ _ _) ?_))
   have hb:c0i ((s.drop a).take n)=false:=by
    cases hb:c0i ((s.drop a).take n)with
    |false=>rfl
    |true=>
     simp only[c0i,Bool.and_eq_true,List.all_eq_true]at hb
     have:=hb.1 s[i] (List.mem_iff_getElem?.2 ⟨i - a,by rw[List.getElem?_take,if_pos om];exact hget⟩)
     rw[this]at h;cases h
   show _=_
   simp only[oneOf,e4m,hn,hb];rfl
  ·have hD:isD s[i]=true:=by simpa using h
   refine⟨i+1,⟨om,om,?_⟩,om,?_,rfl⟩
   ·rw[show i+1 - a=(i - a)+1 by omega,List.take_add_one,hget,List.all_append,hall]
    simp[hD]
   ·rw[a3z om];rfl
 ·replace hl:=of_decide_eq_false hl
  have hi:i - a=n:=om
  rw[hi]at hall
  refine And.intro om ?_
  refine And.intro om ?_
  refine And.intro ⟨om,om⟩ ?_
  rw[e3x]
  obtain⟨v,hv,hev⟩:=e5h (fx:=fx) (F:=F) ((s.drop a).take n) (by rw[List.length_take,List.length_drop];unfold maxLen;omega) hall
  refine Exists.intro _ (Exists.intro _ (And.intro (hev _) ?_))
  refine And.intro (fun h=>?_) (fun h=>?_)
  ·refine Exists.intro _ (Exists.intro _ (And.intro (c0e _ _ _ _) ?_))
   have hb:c0i ((s.drop a).take n)=false:=by simpa using h
   show _=_
   simp only[oneOf,e4m,hn,hb];rfl
  ·have hb:c0i ((s.drop a).take n)=true:=by simpa using h
   refine And.intro om ?_
   refine And.intro om ?_
   refine And.intro ⟨om,om⟩ ?_
   rw[e3x]
   show _=_
   simp only[oneOf,e4m,hn,hb,hv hb];rfl
def h7c (s:List UInt8) (a:Nat):V:=
 if 64 < a2q (s.drop a) then .tup [.d (tkD 0 [] 0 0 0),.d (dgD 2 a (a+a2q (s.drop a):Nat))]
 else .tup [.d (tkD (if b9w ((s.drop a).take (a2q (s.drop a))) then 2 else 1) ((s.drop a).take (a2q (s.drop a))) 0 a (a+a2q (s.drop a):Nat)),.d (dgD 0 0 0)]
theorem e1f (s:List UInt8) (hs:s.length<=maxLen) (a:Nat) (ha:a<=s.length):evF (pgL fx F) d3b [str s,i64 a] H=some (h7c s a,H):=by
 have hm:s.length<=9223372036854775807:=hs
 have hrl:=b2a (s.drop a)
 rw[List.length_drop]at hrl
 refine a4n (d3c (F:=F)) rfl rfl ?_ H
 refine Exists.intro _ (Exists.intro _ (And.intro (d7y _ _ _ ha hs) ?_))
 generalize hn:a2q (s.drop a)=n at*
 have ew:IntKind.i64.wrap (((a+n:Nat):Int) - (a:Int))=(n:Int):=by rw[a3z om];omega
 refine And.intro (fun h=>?_) (fun h=>?_)
 ·replace h:=of_decide_eq_true h
  rw[ew]at h
  refine Exists.intro _ (Exists.intro _ (And.intro (c0e _ _ _ _) ?_))
  show _=_
  simp only[oneOf,h7c,hn,if_pos (show 64 < n by omega)];rfl
 ·replace h:=of_decide_eq_false h
  rw[ew]at h
  refine And.intro om ?_
  refine And.intro om ?_
  refine And.intro ⟨om,om⟩ ?_
  rw[e3x]
  refine Exists.intro _ (Exists.intro _ (And.intro (f5z _ _) ?_))
  refine And.intro (fun h5=>?_) (fun h5=>?_)
  all_goals
   refine And.intro om ?_
   refine And.intro om ?_
   refine And.intro ⟨om,om⟩ ?_
   rw[e3x]
   show _=_
   simp only[oneOf,h7c,hn,if_neg (show ¬ 64 < n by omega),h5];rfl
end
end Go.Vm.Lex
namespace Go.Vm.Lex
theorem c5q (s:List UInt8) (i k:Nat):((⟨s.toArray⟩:ByteArray).get! (i+k))=(s.drop i).getD k 0:=by
 show(s.toArray)[i+k]! =_
 simp only[List.getElem!_toArray,List.getD_eq_getElem?_getD,List.getElem?_drop]
 rw[getElem!_def]
 cases h:s[i+k]? <;>simp<;>rfl
set_option maxHeartbeats 2000000 in
theorem g0z (s:List UInt8) (i:Nat) (hi:i < s.length):(Utf8.decode ⟨s.toArray⟩ i=(65533,1)↔szL (s.drop i)=0)/\(szL (s.drop i)≠0->(Utf8.decode ⟨s.toArray⟩ i).2=szL (s.drop i)):=by
 rw[Lib.decode_at]
 have e0:=c5q s i 0
 rw[c5q,c5q,c5q]
 rw[Nat.add_zero]at e0
 rw[e0]
 have hsz:(⟨s.toArray⟩:ByteArray).size - i=(s.drop i).length:=by simp[ByteArray.size]
 rw[hsz]
 have hne:s.drop i≠[]:=by intro h;have:=congrArg List.length h;simp at this;omega
 generalize s.drop i=l at hne
 cases l with
 |nil=>exact absurd rfl hne
 |cons c r=>
  have b0:=c.toNat_lt
  have hl:(c::r).length=r.length+1:=rfl
  rw[hl]
  simp only[List.getD_cons_zero,List.getD_cons_succ]
  have hb:∀ k,(r.getD k 0).toNat < 256:=fun k=>UInt8.toNat_lt _
  have b1:=hb 0;have b2:=hb 1;have b3:=hb 2
  -- what stands behind the lead byte
  have h1:(hd1 (c::r))=r.getD 0 0:=by cases r<;>rfl
  have a2:((c::r).take 2).drop 2=[]:=by simp
  have a3:(((c::r).take 3).drop 2).all a1v=(decide (r.length < 2)||a1v (r.getD 1 0)):=by
   match r with
   |[]=>rfl
   |[_]=>rfl
   |_::x::t=>simp[show ¬ (t.length+1+1 < 2)by omega]
  have a4:(((c::r).take 4).drop 2).all a1v=((decide (r.length < 2)||a1v (r.getD 1 0)) && (decide (r.length < 3)||a1v (r.getD 2 0))):=by
   match r with
   |[]=>rfl
   |[_]=>rfl
   |[_,x]=>simp
   |_::x::y::t=>simp[show ¬ (t.length+1+1+1 < 2)by omega,show ¬ (t.length+1+1+1 < 3)by omega]
  unfold szL
  rw[if_neg (List.cons_ne_nil _ _),h1]
  simp only[hd0,hl]
  generalize r.getD 0 0=x1 at*
  generalize r.getD 1 0=x2 at*
  generalize r.getD 2 0=x3 at*
  generalize r.length=n at*
  by_cases c1:c.toNat < 128
  ·simp[Lib.decodeN,c1]
   omega
  rw[if_neg c1]
  have hN:szN c=0/\(c.toNat < 194\/244 < c.toNat)\/szN c=2/\194<=c.toNat/\c.toNat<=223\/szN c=3/\224<=c.toNat/\c.toNat<=239\/szN c=4/\240<=c.toNat/\c.toNat<=244:=by
   unfold szN
   repeat' split
   all_goals omega
  rcases hN with⟨hN,hc⟩|⟨hN,hc⟩|⟨hN,hc⟩|⟨hN,hc⟩
  ·simp only[hN,if_true]
   refine⟨⟨fun _=>trivial,fun _=>?_⟩,fun h=>absurd rfl h⟩
   unfold Lib.decodeN
   repeat' split
   all_goals first|rfl|(exfalso;omega)
  ·simp only[hN,a2,c7r,c9v,List.all_nil,if_true]
   unfold Lib.decodeN
   repeat' split
   all_goals first|(exfalso;omega)|(simp;done)|(simp;omega)
  ·simp only[hN,a3,c7r,c9v,a1v,Bool.or_eq_true,decide_eq_true_eq]
   unfold Lib.decodeN
   repeat' split
   all_goals first|(exfalso;omega)|(simp;done)|(simp;omega)
  ·simp only[hN,a4,c7r,c9v,a1v,Bool.or_eq_true,Bool.and_eq_true,decide_eq_true_eq]
   unfold Lib.decodeN
   repeat' split
   all_goals first|(exfalso;omega)|(simp;done)|(simp;omega)
end Go.Vm.Lex
namespace Go.Vm.Lex
open Go.Vm.Ite
section
variable {fx:Nat->Option Obj} {F:Nat->Option a0v} [HL F] (H:Hp)
theorem e1b (s:List UInt8) (a n:Nat):List.drop (Int.toNat (a:Int)) (List.take (Int.toNat ((a:Int)+n)) s)=(s.drop a).take n:=by
 rw[show((a:Int)+n).toNat=a+n by omega,Int.toNat_natCast,List.drop_take];congr 1;omega
theorem c6i (s:List UInt8) (a:Nat) (ha:a < s.length) (hs:a+2<=9223372036854775807):evF (pgL fx F) d3r [str s,i64 a] H=some (str (a2x (s.drop a)),H):=by
 have _u:=(inferInstance:HL F)
 have hd:s.drop a=s[a]::s.drop (a+1):=List.drop_eq_getElem_cons ha
 have hl1:1 < (s.drop a).length↔a+2<=s.length:=by rw[List.length_drop];omega
 refine a4n (d5y (F:=F)) rfl rfl ?_ H
 refine wp_loop (α:=Nat) (fun i=>9 - i) (fun i=>[(0,str s),(1,i64 a),(9,.d (.sl (b5v.map .str))),(10,i64 9),(11,i64 i)]) (fun _=>[]) (fun i=>i<=9/\∀ x∈b5v.take i,¬ (a+2<=s.length/\(s.drop a).take 2=x)) ?_ 0 ⟨om,by simp⟩
 rintro i ⟨hi,hall⟩
 refine And.intro (fun hl=>?_) (fun hl=>?_)
 ·replace hl:=of_decide_eq_true hl
  have hlt:i < b5v.length:=by show i < 9;omega
  have hlt':i < (b5v.map D.str).length:=by rw[List.length_map];exact hlt
  refine a9g hlt' ?_
  rw[List.getElem_map]
  refine And.intro rfl ?_
  have ew:IntKind.i64.wrap ((a:Int)+2)=(a:Int)+2:=a3z om
  have next:¬ (a+2<=s.length/\(s.drop a).take 2=b5v[i])->∀ x∈b5v.take (i+1),¬ (a+2<=s.length/\(s.drop a).take 2=x):=by
   intro hn x hx
   rw[List.take_add_one,List.mem_append]at hx
   rcases hx with hx|hx
   ·exact hall x hx
   ·rw[List.getElem?_eq_getElem hlt]at hx
    simp only[Option.toList_some,List.mem_singleton]at hx
    rw[hx];exact hn
  refine And.intro (fun h=>?_) (fun h=>?_)
  ·replace h:=of_decide_eq_true h
   rw[ew]at h
   refine And.intro om ?_
   refine And.intro (by rw[ew];omega) ?_
   refine And.intro ⟨by rw[ew];omega,by rw[ew];omega⟩ ?_
   refine And.intro (fun h2=>?_) (fun h2=>?_)
   ·replace h2:=of_decide_eq_true h2
    rw[ew,show((a:Int)+2)=(a:Int)+(2:Nat)from rfl,e1b]at h2
    show _=_
    simp only[oneOf]
    unfold a2x
    rw[if_pos ⟨hl1.2 om,by rw[h2];exact List.getElem_mem _⟩,h2]
   ·replace h2:=of_decide_eq_false h2
    rw[ew,show((a:Int)+2)=(a:Int)+(2:Nat)from rfl,e1b]at h2
    refine⟨i+1,⟨om,next fun e=>h2 e.2⟩,om,?_,rfl⟩
    rw[a3z om];rfl
  ·replace h:=of_decide_eq_false h
   rw[ew]at h
   refine And.intro (fun h2=>?_) (fun h2=>?_)
   ·cases h2
   ·refine⟨i+1,⟨om,next fun e=>om⟩,om,?_,rfl⟩
    rw[a3z om];rfl
 ·replace hl:=of_decide_eq_false hl
  have hi9:i=9:=om
  subst hi9
  have hno:¬ (1 < (s.drop a).length/\(s.drop a).take 2∈b5v):=by
   rintro⟨h1,h2⟩
   exact hall _ (by rw[show b5v.take 9=b5v from rfl];exact h2) ⟨hl1.1 h1,rfl⟩
  obtain⟨fz,hfz⟩:∃ fz,fz=c2h.map fun c=>D.int .u8 c.toNat:=⟨_,rfl⟩
  refine Exists.intro (.arr 0 0 19) (Exists.intro [.frz fz] (And.intro (by rw[hfz];rfl) ?_))
  refine Exists.intro (.arr 0 0 19) (Exists.intro [.frz fz] (And.intro rfl ?_))
  refine wp_loop (α:=Nat) (fun j=>19 - j) (fun j=>[(0,str s),(1,i64 a),(32,.arr 0 0 19),(33,i64 19),(34,i64 j)]) (fun _=>[.frz fz]) (fun j=>j<=19/\∀ x∈c2h.take j,s[a]≠x) ?_ 0 ⟨om,by simp⟩
  rintro j ⟨hj,hjall⟩
  refine And.intro (fun hl=>?_) (fun hl=>?_)
  ·replace hl:=of_decide_eq_true hl
   have hjt:j < c2h.length:=by show j < 19;omega
   refine And.intro ⟨om,om⟩ ?_
   have hnth:(List.map V.d fz)[0+Int.toNat (j:Int) *1]? =some (V.d (.int .u8 c2h[j].toNat)):=by
    rw[show 0+Int.toNat (j:Int) *1=j by omega,hfz]
    simp[hjt]
   refine d2v hnth ?_
   refine a9g ha ?_
   refine And.intro (fun h=>?_) (fun h=>?_)
   ·replace h:=of_decide_eq_true h
    have hc:s[a]=c2h[j]:=by rw[g0a];omega
    have ew:IntKind.i64.wrap ((a:Int)+1)=(a:Int)+1:=a3z om
    refine And.intro om ?_
    refine And.intro (by rw[ew];omega) ?_
    refine And.intro ⟨by rw[ew];omega,by rw[ew];omega⟩ ?_
    rw[ew,show((a:Int)+1)=(a:Int)+(1:Nat)from rfl,e1b]
    show _=_
    simp only[oneOf]
    unfold a2x
    rw[if_neg hno,if_pos ⟨by rw[hd];exact List.cons_ne_nil _ _,by rw[hd];show s[a]∈c2h;rw[hc];exact List.getElem_mem _⟩]
   ·replace h:=of_decide_eq_false h
    refine⟨j+1,⟨om,fun x hx=>?_⟩,om,?_,rfl⟩
    ·rw[List.take_add_one,List.mem_append]at hx
     rcases hx with hx|hx
     ·exact hjall x hx
     ·rw[List.getElem?_eq_getElem hjt]at hx
      simp only[Option.toList_some,List.mem_singleton]at hx
      rw[hx];intro e;rw[e]at h;exact h rfl
    ·rw[a3z om];rfl
  ·replace hl:=of_decide_eq_false hl
   have hj9:j=19:=om
   subst hj9
   show _=_
   simp only[oneOf]
   unfold a2x
   rw[if_neg hno,if_neg (by
     rintro⟨_,h2⟩
     rw[hd]at h2
     exact hjall _ (by rw[show c2h.take 19=c2h from rfl];exact h2) rfl)]
end
end Go.Vm.Lex
namespace Go.Vm.Lex
open Go.Vm.Ite
theorem a1r {b:Bool} {X Y:Prop} (h:b=true) (x:X):(b=true->X)/\(b=false->Y):=⟨fun _=>x,fun e=>by rw[h]at e;cases e⟩
theorem a1x {b:Bool} {X Y:Prop} (h:b=false) (y:Y):(b=true->X)/\(b=false->Y):=⟨fun e=>by(rw[h]at e;cases e),fun _=>y⟩
theorem c0j {b:Bool} {X Y:Prop} (h:b=true) (x:X):(b=false->Y)/\(b=(!false)->X):=⟨fun e=>by(rw[h]at e;cases e),fun _=>x⟩
theorem c9d {b:Bool} {X Y:Prop} (h:b=false) (y:Y):(b=false->Y)/\(b=(!false)->X):=⟨fun _=>y,fun e=>by(rw[h]at e;cases e)⟩
def Hid (p:Prop):Prop:=p
theorem e3q {s:List UInt8} {a i:Nat} (hm:s.length<=4611686018427387904) (h:a+i < s.length) {k:UInt8->Prop} (hk:k s[a+i]):∃ c,(0<=IntKind.i64.wrap ((a:Int)+(i:Int))/\s[(IntKind.i64.wrap ((a:Int)+(i:Int))).toNat]? =some c)/\k c:=by
 rw[a3z om]
 exact⟨_,⟨om,by rw[show((a:Int)+i).toNat=a+i by omega,List.getElem?_eq_getElem h]⟩,hk⟩
section
variable {fx:Nat->Option Obj} {F:Nat->Option a0v} [HL F] (H:Hp)
set_option maxHeartbeats 4000000 in
theorem d8x (s:List UInt8) (hs:s.length<=4611686018427387904) (a:Nat) (ha:a < s.length):evF (pgL fx F) d5q [str s,i64 a] H=some (i64 (szL (s.drop a)),H):=by
 have _u:=(inferInstance:HL F)
 have hd:s.drop a=s[a]::s.drop (a+1):=List.drop_eq_getElem_cons ha
 have hne:s.drop a≠[]:=by rw[hd];exact List.cons_ne_nil _ _
 have h0:hd0 (s.drop a)=s[a]:=by rw[hd];rfl
 have hlen:(s.drop a).length=s.length - a:=List.length_drop ..
 have h1:∀ h:a+1 < s.length,hd1 (s.drop a)=s[a+1]:=by
  intro h
  rw[hd,List.drop_eq_getElem_cons h];rfl
 have hlt:=s[a].toNat_lt
 clear h0 hne
 refine a4n (d5i (F:=F)) rfl rfl ?_ H
 refine a9g ha ?_
 generalize hc:s[a].toNat=c at*
 have hz:szL (s.drop a)=(if c < 128 then 1 else if szN s[a]=0 then 0 else if s.length - a < szN s[a]\/(hd1 (s.drop a)).toNat < c7r s[a]\/c9v s[a] < (hd1 (s.drop a)).toNat then 0 else if(((s.drop a).take (szN s[a])).drop 2).all a1v then szN s[a] else 0):=by
  unfold szL
  have hne:s.drop a≠[]:=by rw[hd];exact List.cons_ne_nil _ _
  have h0:hd0 (s.drop a)=s[a]:=by rw[hd];rfl
  rw[if_neg hne,h0,hc,hlen]
 by_cases c1:c < 128
 ·rw[if_pos c1]at hz
  refine And.intro (fun h=>?_) (fun h=>?_)
  ·show _=_
   rw[hz];rfl
  ·have:=of_decide_eq_false h;omega
 rw[if_neg c1]at hz
 have ew:IntKind.i64.wrap ((a:Int)+1)=(a:Int)+1:=a3z om
 clear hd
 have hsplit:c < 194\/244 < c\/(194<=c/\c<=223)\/c=224\/(225<=c/\c<=239/\c≠237)\/c=237\/c=240\/(241<=c/\c<=243)\/c=244:=by clear hz;omega
 replace hz:Hid (szL (s.drop a)=_):=hz
 rcases hsplit with hc2|hc2|hc2|hc2|hc2|hc2|hc2|hc2|hc2
 ·have hN:szN s[a]=0:=by unfold szN;rw[hc,if_neg om,if_neg om,if_neg om]
  repeat' (first
    |refine a1x (decide_eq_false om) ?_
    |refine a1r (decide_eq_true om) ?_
    |refine a1x rfl ?_
    |refine a1r rfl ?_)
  unfold Hid at hz
  rw[if_pos hN]at hz
  show _=_
  rw[hz];rfl
 ·have hN:szN s[a]=0:=by unfold szN;rw[hc,if_neg om,if_neg om,if_neg om]
  repeat' (first
    |refine a1x (decide_eq_false om) ?_
    |refine a1r (decide_eq_true om) ?_
    |refine a1x rfl ?_
    |refine a1r rfl ?_)
  unfold Hid at hz
  rw[if_pos hN]at hz
  show _=_
  rw[hz];rfl
 ·have hN:szN s[a]=2:=by unfold szN;rw[hc,if_pos om]
  have hLo:c7r s[a]=128:=by unfold c7r;rw[hc,if_neg om,if_neg om]
  have hHi:c9v s[a]=191:=by unfold c9v;rw[hc,if_neg om,if_neg om]
  have en:IntKind.i64.wrap ((a:Int)+2)=(a:Int)+2:=a3z om
  unfold Hid at hz
  rw[hN,if_neg (by clear hz;omega),hLo,hHi]at hz
  clear hN hLo hHi
  have hz2:(s.length - a < 2->szL (s.drop a)=0)/\(¬ s.length - a < 2->((hd1 (s.drop a)).toNat < 128\/191 < (hd1 (s.drop a)).toNat)->szL (s.drop a)=0)/\(¬ s.length - a < 2->¬ ((hd1 (s.drop a)).toNat < 128\/191 < (hd1 (s.drop a)).toNat)->szL (s.drop a)=if(((s.drop a).take 2).drop 2).all a1v then 2 else 0):=
   ⟨fun h=>by rw[hz,if_pos (.inl h)],fun h h'=>by rw[hz,if_pos (.inr h')],fun h h'=>by rw[hz,if_neg (by intro e;rcases e with e|e;exact h e;exact h' e)]⟩
  clear hz
  obtain⟨z1,z2,z3⟩:=hz2
  replace z1:Hid _:=z1
  replace z2:Hid _:=z2
  replace z3:Hid _:=z3
  repeat' (first
    |refine a1x (decide_eq_false om) ?_
    |refine a1r (decide_eq_true om) ?_
    |refine a1x rfl ?_
    |refine a1r rfl ?_)
  by_cases hL:s.length < a+2
  ·refine c0j (decide_eq_true om) ?_
   refine c0j rfl ?_
   refine a1r rfl ?_
   show _=_
   rw[show szL (s.drop a)=0 from z1 om];rfl
  have hlt1:a+1 < s.length:=om
  rw[h1 hlt1]at z2 z3
  refine c9d (decide_eq_false om) ?_
  refine e0q om hlt1 ?_
  generalize hb:s[a+1].toNat=b at z2 z3
  by_cases hb1:b < 128
  ·refine c0j (decide_eq_true om) ?_
   refine a1r rfl ?_
   show _=_
   rw[show szL (s.drop a)=0 from z2 om om];rfl
  refine c9d (decide_eq_false om) ?_
  refine e0q om hlt1 ?_
  by_cases hb2:191 < b
  ·refine a1r (decide_eq_true om) ?_
   show _=_
   rw[show szL (s.drop a)=0 from z2 om om];rfl
  refine a1x (decide_eq_false om) ?_
  have hz:szL (s.drop a)=if(((s.drop a).take 2).drop 2).all a1v then 2 else 0:=z3 om om
  clear z1 z2 z3
  clear h1
  refine wp_loop (α:=Nat) (fun i=>2 - i) (fun i=>[(0,str s),(1,i64 a),(6,i64 2),(9,i64 i)]) (fun _=>[]) (fun i=>2<=i/\i<=2/\(((s.drop a).take i).drop 2).all a1v=true) ?_ 2 ⟨om,om,by simp⟩
  rintro i ⟨hi1,hi2,hall⟩
  replace hz:Hid _:=hz
  refine And.intro (fun hl=>?_) (fun hl=>?_)
  ·replace hl:=of_decide_eq_true hl
   have hlt:a+i < s.length:=om
   have hget:(s.drop a)[i]? =some s[a+i]:=by rw[List.getElem?_drop,List.getElem?_eq_getElem hlt]
   have bad:a1v s[a+i]=false->szL (s.drop a)=0:=by
    intro hcb
    unfold Hid at hz
    rw[hz,if_neg]
    intro hall2
    have hmem:s[a+i]∈((s.drop a).take 2).drop 2:=List.mem_iff_getElem?.2 ⟨i - 2,by
      rw[List.getElem?_drop,show 2+(i - 2)=i by omega,List.getElem?_take,if_pos om];exact hget⟩
    have:=List.all_eq_true.1 hall2 _ hmem
    rw[hcb]at this;cases this
   have good:a1v s[a+i]=true->(((s.drop a).take (i+1)).drop 2).all a1v=true:=by
    intro hcb
    rw[List.take_add_one,hget,List.drop_append_of_le_length (by rw[List.length_take];omega),List.all_append,hall]
    simp[hcb]
   have hcb:a1v s[a+i]=decide (128<=s[a+i].toNat/\s[a+i].toNat<=191):=rfl
   refine e3q hs hlt ?_
   by_cases h128:s[a+i].toNat < 128
   ·refine c0j (decide_eq_true om) ?_
    refine a1r rfl ?_
    show _=_
    rw[bad (by rw[hcb];exact decide_eq_false om)];rfl
   refine c9d (decide_eq_false om) ?_
   refine e3q hs hlt ?_
   by_cases h191:191 < s[a+i].toNat
   ·refine a1r (decide_eq_true om) ?_
    show _=_
    rw[bad (by rw[hcb];exact decide_eq_false om)];rfl
   refine a1x (decide_eq_false om) ?_
   refine⟨i+1,⟨om,om,good (by rw[hcb];exact decide_eq_true om)⟩,om,?_,rfl⟩
   rw[a3z om];rfl
  ·replace hl:=of_decide_eq_false hl
   have hi:i=2:=om
   subst hi
   unfold Hid at hz
   show _=_
   rw[hz,if_pos hall];rfl
 ·have hN:szN s[a]=3:=by unfold szN;rw[hc,if_neg om,if_pos om]
  have hLo:c7r s[a]=160:=by unfold c7r;rw[hc,if_pos om]
  have hHi:c9v s[a]=191:=by unfold c9v;rw[hc,if_neg om,if_neg om]
  have en:IntKind.i64.wrap ((a:Int)+3)=(a:Int)+3:=a3z om
  unfold Hid at hz
  rw[hN,if_neg (by clear hz;omega),hLo,hHi]at hz
  clear hN hLo hHi
  have hz2:(s.length - a < 3->szL (s.drop a)=0)/\(¬ s.length - a < 3->((hd1 (s.drop a)).toNat < 160\/191 < (hd1 (s.drop a)).toNat)->szL (s.drop a)=0)/\(¬ s.length - a < 3->¬ ((hd1 (s.drop a)).toNat < 160\/191 < (hd1 (s.drop a)).toNat)->szL (s.drop a)=if(((s.drop a).take 3).drop 2).all a1v then 3 else 0):=
   ⟨fun h=>by rw[hz,if_pos (.inl h)],fun h h'=>by rw[hz,if_pos (.inr h')],fun h h'=>by rw[hz,if_neg (by intro e;rcases e with e|e;exact h e;exact h' e)]⟩
  clear hz
  obtain⟨z1,z2,z3⟩:=hz2
  replace z1:Hid _:=z1
  replace z2:Hid _:=z2
  replace z3:Hid _:=z3
  repeat' (first
    |refine a1x (decide_eq_false om) ?_
    |refine a1r (decide_eq_true om) ?_
    |refine a1x rfl ?_
    |refine a1r rfl ?_)
  by_cases hL:s.length < a+3
  ·refine c0j (decide_eq_true om) ?_
   refine c0j rfl ?_
   refine a1r rfl ?_
   show _=_
   rw[show szL (s.drop a)=0 from z1 om];rfl
  have hlt1:a+1 < s.length:=om
  rw[h1 hlt1]at z2 z3
  refine c9d (decide_eq_false om) ?_
  refine e0q om hlt1 ?_
  generalize hb:s[a+1].toNat=b at z2 z3
  by_cases hb1:b < 160
  ·refine c0j (decide_eq_true om) ?_
   refine a1r rfl ?_
   show _=_
   rw[show szL (s.drop a)=0 from z2 om om];rfl
  refine c9d (decide_eq_false om) ?_
  refine e0q om hlt1 ?_
  by_cases hb2:191 < b
  ·refine a1r (decide_eq_true om) ?_
   show _=_
   rw[show szL (s.drop a)=0 from z2 om om];rfl
  refine a1x (decide_eq_false om) ?_
  have hz:szL (s.drop a)=if(((s.drop a).take 3).drop 2).all a1v then 3 else 0:=z3 om om
  clear z1 z2 z3
  clear h1
  refine wp_loop (α:=Nat) (fun i=>3 - i) (fun i=>[(0,str s),(1,i64 a),(6,i64 3),(9,i64 i)]) (fun _=>[]) (fun i=>2<=i/\i<=3/\(((s.drop a).take i).drop 2).all a1v=true) ?_ 2 ⟨om,om,by simp⟩
  rintro i ⟨hi1,hi2,hall⟩
  replace hz:Hid _:=hz
  refine And.intro (fun hl=>?_) (fun hl=>?_)
  ·replace hl:=of_decide_eq_true hl
   have hlt:a+i < s.length:=om
   have hget:(s.drop a)[i]? =some s[a+i]:=by rw[List.getElem?_drop,List.getElem?_eq_getElem hlt]
   have bad:a1v s[a+i]=false->szL (s.drop a)=0:=by
    intro hcb
    unfold Hid at hz
    rw[hz,if_neg]
    intro hall2
    have hmem:s[a+i]∈((s.drop a).take 3).drop 2:=List.mem_iff_getElem?.2 ⟨i - 2,by
      rw[List.getElem?_drop,show 2+(i - 2)=i by omega,List.getElem?_take,if_pos om];exact hget⟩
    have:=List.all_eq_true.1 hall2 _ hmem
    rw[hcb]at this;cases this
   have good:a1v s[a+i]=true->(((s.drop a).take (i+1)).drop 2).all a1v=true:=by
    intro hcb
    rw[List.take_add_one,hget,List.drop_append_of_le_length (by rw[List.length_take];omega),List.all_append,hall]
    simp[hcb]
   have hcb:a1v s[a+i]=decide (128<=s[a+i].toNat/\s[a+i].toNat<=191):=rfl
   refine e3q hs hlt ?_
   by_cases h128:s[a+i].toNat < 128
   ·refine c0j (decide_eq_true om) ?_
    refine a1r rfl ?_
    show _=_
    rw[bad (by rw[hcb];exact decide_eq_false om)];rfl
   refine c9d (decide_eq_false om) ?_
   refine e3q hs hlt ?_
   by_cases h191:191 < s[a+i].toNat
   ·refine a1r (decide_eq_true om) ?_
    show _=_
    rw[bad (by rw[hcb];exact decide_eq_false om)];rfl
   refine a1x (decide_eq_false om) ?_
   refine⟨i+1,⟨om,om,good (by rw[hcb];exact decide_eq_true om)⟩,om,?_,rfl⟩
   rw[a3z om];rfl
  ·replace hl:=of_decide_eq_false hl
   have hi:i=3:=om
   subst hi
   unfold Hid at hz
   show _=_
   rw[hz,if_pos hall];rfl
 ·have hN:szN s[a]=3:=by unfold szN;rw[hc,if_neg om,if_pos om]
  have hLo:c7r s[a]=128:=by unfold c7r;rw[hc,if_neg om,if_neg om]
  have hHi:c9v s[a]=191:=by unfold c9v;rw[hc,if_neg om,if_neg om]
  have en:IntKind.i64.wrap ((a:Int)+3)=(a:Int)+3:=a3z om
  unfold Hid at hz
  rw[hN,if_neg (by clear hz;omega),hLo,hHi]at hz
  clear hN hLo hHi
  have hz2:(s.length - a < 3->szL (s.drop a)=0)/\(¬ s.length - a < 3->((hd1 (s.drop a)).toNat < 128\/191 < (hd1 (s.drop a)).toNat)->szL (s.drop a)=0)/\(¬ s.length - a < 3->¬ ((hd1 (s.drop a)).toNat < 128\/191 < (hd1 (s.drop a)).toNat)->szL (s.drop a)=if(((s.drop a).take 3).drop 2).all a1v then 3 else 0):=
   ⟨fun h=>by rw[hz,if_pos (.inl h)],fun h h'=>by rw[hz,if_pos (.inr h')],fun h h'=>by rw[hz,if_neg (by intro e;rcases e with e|e;exact h e;exact h' e)]⟩
  clear hz
  obtain⟨z1,z2,z3⟩:=hz2
  replace z1:Hid _:=z1
  replace z2:Hid _:=z2
  replace z3:Hid _:=z3
  repeat' (first
    |refine a1x (decide_eq_false om) ?_
    |refine a1r (decide_eq_true om) ?_
    |refine a1x rfl ?_
    |refine a1r rfl ?_)
  by_cases hL:s.length < a+3
  ·refine c0j (decide_eq_true om) ?_
   refine c0j rfl ?_
   refine a1r rfl ?_
   show _=_
   rw[show szL (s.drop a)=0 from z1 om];rfl
  have hlt1:a+1 < s.length:=om
  rw[h1 hlt1]at z2 z3
  refine c9d (decide_eq_false om) ?_
  refine e0q om hlt1 ?_
  generalize hb:s[a+1].toNat=b at z2 z3
  by_cases hb1:b < 128
  ·refine c0j (decide_eq_true om) ?_
   refine a1r rfl ?_
   show _=_
   rw[show szL (s.drop a)=0 from z2 om om];rfl
  refine c9d (decide_eq_false om) ?_
  refine e0q om hlt1 ?_
  by_cases hb2:191 < b
  ·refine a1r (decide_eq_true om) ?_
   show _=_
   rw[show szL (s.drop a)=0 from z2 om om];rfl
  refine a1x (decide_eq_false om) ?_
  have hz:szL (s.drop a)=if(((s.drop a).take 3).drop 2).all a1v then 3 else 0:=z3 om om
  clear z1 z2 z3
  clear h1
  refine wp_loop (α:=Nat) (fun i=>3 - i) (fun i=>[(0,str s),(1,i64 a),(6,i64 3),(9,i64 i)]) (fun _=>[]) (fun i=>2<=i/\i<=3/\(((s.drop a).take i).drop 2).all a1v=true) ?_ 2 ⟨om,om,by simp⟩
  rintro i ⟨hi1,hi2,hall⟩
  replace hz:Hid _:=hz
  refine And.intro (fun hl=>?_) (fun hl=>?_)
  ·replace hl:=of_decide_eq_true hl
   have hlt:a+i < s.length:=om
   have hget:(s.drop a)[i]? =some s[a+i]:=by rw[List.getElem?_drop,List.getElem?_eq_getElem hlt]
   have bad:a1v s[a+i]=false->szL (s.drop a)=0:=by
    intro hcb
    unfold Hid at hz
    rw[hz,if_neg]
    intro hall2
    have hmem:s[a+i]∈((s.drop a).take 3).drop 2:=List.mem_iff_getElem?.2 ⟨i - 2,by
      rw[List.getElem?_drop,show 2+(i - 2)=i by omega,List.getElem?_take,if_pos om];exact hget⟩
    have:=List.all_eq_true.1 hall2 _ hmem
    rw[hcb]at this;cases this
   have good:a1v s[a+i]=true->(((s.drop a).take (i+1)).drop 2).all a1v=true:=by
    intro hcb
    rw[List.take_add_one,hget,List.drop_append_of_le_length (by rw[List.length_take];omega),List.all_append,hall]
    simp[hcb]
   have hcb:a1v s[a+i]=decide (128<=s[a+i].toNat/\s[a+i].toNat<=191):=rfl
   refine e3q hs hlt ?_
   by_cases h128:s[a+i].toNat < 128
   ·refine c0j (decide_eq_true om) ?_
    refine a1r rfl ?_
    show _=_
    rw[bad (by rw[hcb];exact decide_eq_false om)];rfl
   refine c9d (decide_eq_false om) ?_
   refine e3q hs hlt ?_
   by_cases h191:191 < s[a+i].toNat
   ·refine a1r (decide_eq_true om) ?_
    show _=_
    rw[bad (by rw[hcb];exact decide_eq_false om)];rfl
   refine a1x (decide_eq_false om) ?_
   refine⟨i+1,⟨om,om,good (by rw[hcb];exact decide_eq_true om)⟩,om,?_,rfl⟩
   rw[a3z om];rfl
  ·replace hl:=of_decide_eq_false hl
   have hi:i=3:=om
   subst hi
   unfold Hid at hz
   show _=_
   rw[hz,if_pos hall];rfl
 ·have hN:szN s[a]=3:=by unfold szN;rw[hc,if_neg om,if_pos om]
  have hLo:c7r s[a]=128:=by unfold c7r;rw[hc,if_neg om,if_neg om]
  have hHi:c9v s[a]=159:=by unfold c9v;rw[hc,if_pos om]
  have en:IntKind.i64.wrap ((a:Int)+3)=(a:Int)+3:=a3z om
  unfold Hid at hz
  rw[hN,if_neg (by clear hz;omega),hLo,hHi]at hz
  clear hN hLo hHi
  have hz2:(s.length - a < 3->szL (s.drop a)=0)/\(¬ s.length - a < 3->((hd1 (s.drop a)).toNat < 128\/159 < (hd1 (s.drop a)).toNat)->szL (s.drop a)=0)/\(¬ s.length - a < 3->¬ ((hd1 (s.drop a)).toNat < 128\/159 < (hd1 (s.drop a)).toNat)->szL (s.drop a)=if(((s.drop a).take 3).drop 2).all a1v then 3 else 0):=
   ⟨fun h=>by rw[hz,if_pos (.inl h)],fun h h'=>by rw[hz,if_pos (.inr h')],fun h h'=>by rw[hz,if_neg (by intro e;rcases e with e|e;exact h e;exact h' e)]⟩
  clear hz
  obtain⟨z1,z2,z3⟩:=hz2
  replace z1:Hid _:=z1
  replace z2:Hid _:=z2
  replace z3:Hid _:=z3
  repeat' (first
    |refine a1x (decide_eq_false om) ?_
    |refine a1r (decide_eq_true om) ?_
    |refine a1x rfl ?_
    |refine a1r rfl ?_)
  by_cases hL:s.length < a+3
  ·refine c0j (decide_eq_true om) ?_
   refine c0j rfl ?_
   refine a1r rfl ?_
   show _=_
   rw[show szL (s.drop a)=0 from z1 om];rfl
  have hlt1:a+1 < s.length:=om
  rw[h1 hlt1]at z2 z3
  refine c9d (decide_eq_false om) ?_
  refine e0q om hlt1 ?_
  generalize hb:s[a+1].toNat=b at z2 z3
  by_cases hb1:b < 128
  ·refine c0j (decide_eq_true om) ?_
   refine a1r rfl ?_
   show _=_
   rw[show szL (s.drop a)=0 from z2 om om];rfl
  refine c9d (decide_eq_false om) ?_
  refine e0q om hlt1 ?_
  by_cases hb2:159 < b
  ·refine a1r (decide_eq_true om) ?_
   show _=_
   rw[show szL (s.drop a)=0 from z2 om om];rfl
  refine a1x (decide_eq_false om) ?_
  have hz:szL (s.drop a)=if(((s.drop a).take 3).drop 2).all a1v then 3 else 0:=z3 om om
  clear z1 z2 z3
  clear h1
  refine wp_loop (α:=Nat) (fun i=>3 - i) (fun i=>[(0,str s),(1,i64 a),(6,i64 3),(9,i64 i)]) (fun _=>[]) (fun i=>2<=i/\i<=3/\(((s.drop a).take i).drop 2).all a1v=true) ?_ 2 ⟨om,om,by simp⟩
  rintro i ⟨hi1,hi2,hall⟩
  replace hz:Hid _:=hz
  refine And.intro (fun hl=>?_) (fun hl=>?_)
  ·replace hl:=of_decide_eq_true hl
   have hlt:a+i < s.length:=om
   have hget:(s.drop a)[i]? =some s[a+i]:=by rw[List.getElem?_drop,List.getElem?_eq_getElem hlt]
   have bad:a1v s[a+i]=false->szL (s.drop a)=0:=by
    intro hcb
    unfold Hid at hz
    rw[hz,if_neg]
    intro hall2
    have hmem:s[a+i]∈((s.drop a).take 3).drop 2:=List.mem_iff_getElem?.2 ⟨i - 2,by
      rw[List.getElem?_drop,show 2+(i - 2)=i by omega,List.getElem?_take,if_pos om];exact hget⟩
    have:=List.all_eq_true.1 hall2 _ hmem
    rw[hcb]at this;cases this
   have good:a1v s[a+i]=true->(((s.drop a).take (i+1)).drop 2).all a1v=true:=by
    intro hcb
    rw[List.take_add_one,hget,List.drop_append_of_le_length (by rw[List.length_take];omega),List.all_append,hall]
    simp[hcb]
   have hcb:a1v s[a+i]=decide (128<=s[a+i].toNat/\s[a+i].toNat<=191):=rfl
   refine e3q hs hlt ?_
   by_cases h128:s[a+i].toNat < 128
   ·refine c0j (decide_eq_true om) ?_
    refine a1r rfl ?_
    show _=_
    rw[bad (by rw[hcb];exact decide_eq_false om)];rfl
   refine c9d (decide_eq_false om) ?_
   refine e3q hs hlt ?_
   by_cases h191:191 < s[a+i].toNat
   ·refine a1r (decide_eq_true om) ?_
    show _=_
    rw[bad (by rw[hcb];exact decide_eq_false om)];rfl
   refine a1x (decide_eq_false om) ?_
   refine⟨i+1,⟨om,om,good (by rw[hcb];exact decide_eq_true om)⟩,om,?_,rfl⟩
   rw[a3z om];rfl
  ·replace hl:=of_decide_eq_false hl
   have hi:i=3:=om
   subst hi
   unfold Hid at hz
   show _=_
   rw[hz,if_pos hall];rfl
 ·have hN:szN s[a]=4:=by unfold szN;rw[hc,if_neg om,if_neg om,if_pos om]
  have hLo:c7r s[a]=144:=by unfold c7r;rw[hc,if_neg om,if_pos om]
  have hHi:c9v s[a]=191:=by unfold c9v;rw[hc,if_neg om,if_neg om]
  have en:IntKind.i64.wrap ((a:Int)+4)=(a:Int)+4:=a3z om
  unfold Hid at hz
  rw[hN,if_neg (by clear hz;omega),hLo,hHi]at hz
  clear hN hLo hHi
  have hz2:(s.length - a < 4->szL (s.drop a)=0)/\(¬ s.length - a < 4->((hd1 (s.drop a)).toNat < 144\/191 < (hd1 (s.drop a)).toNat)->szL (s.drop a)=0)/\(¬ s.length - a < 4->¬ ((hd1 (s.drop a)).toNat < 144\/191 < (hd1 (s.drop a)).toNat)->szL (s.drop a)=if(((s.drop a).take 4).drop 2).all a1v then 4 else 0):=
   ⟨fun h=>by rw[hz,if_pos (.inl h)],fun h h'=>by rw[hz,if_pos (.inr h')],fun h h'=>by rw[hz,if_neg (by intro e;rcases e with e|e;exact h e;exact h' e)]⟩
  clear hz
  obtain⟨z1,z2,z3⟩:=hz2
  replace z1:Hid _:=z1
  replace z2:Hid _:=z2
  replace z3:Hid _:=z3
  repeat' (first
    |refine a1x (decide_eq_false om) ?_
    |refine a1r (decide_eq_true om) ?_
    |refine a1x rfl ?_
    |refine a1r rfl ?_)
  by_cases hL:s.length < a+4
  ·refine c0j (decide_eq_true om) ?_
   refine c0j rfl ?_
   refine a1r rfl ?_
   show _=_
   rw[show szL (s.drop a)=0 from z1 om];rfl
  have hlt1:a+1 < s.length:=om
  rw[h1 hlt1]at z2 z3
  refine c9d (decide_eq_false om) ?_
  refine e0q om hlt1 ?_
  generalize hb:s[a+1].toNat=b at z2 z3
  by_cases hb1:b < 144
  ·refine c0j (decide_eq_true om) ?_
   refine a1r rfl ?_
   show _=_
   rw[show szL (s.drop a)=0 from z2 om om];rfl
  refine c9d (decide_eq_false om) ?_
  refine e0q om hlt1 ?_
  by_cases hb2:191 < b
  ·refine a1r (decide_eq_true om) ?_
   show _=_
   rw[show szL (s.drop a)=0 from z2 om om];rfl
  refine a1x (decide_eq_false om) ?_
  have hz:szL (s.drop a)=if(((s.drop a).take 4).drop 2).all a1v then 4 else 0:=z3 om om
  clear z1 z2 z3
  clear h1
  refine wp_loop (α:=Nat) (fun i=>4 - i) (fun i=>[(0,str s),(1,i64 a),(6,i64 4),(9,i64 i)]) (fun _=>[]) (fun i=>2<=i/\i<=4/\(((s.drop a).take i).drop 2).all a1v=true) ?_ 2 ⟨om,om,by simp⟩
  rintro i ⟨hi1,hi2,hall⟩
  replace hz:Hid _:=hz
  refine And.intro (fun hl=>?_) (fun hl=>?_)
  ·replace hl:=of_decide_eq_true hl
   have hlt:a+i < s.length:=om
   have hget:(s.drop a)[i]? =some s[a+i]:=by rw[List.getElem?_drop,List.getElem?_eq_getElem hlt]
   have bad:a1v s[a+i]=false->szL (s.drop a)=0:=by
    intro hcb
    unfold Hid at hz
    rw[hz,if_neg]
    intro hall2
    have hmem:s[a+i]∈((s.drop a).take 4).drop 2:=List.mem_iff_getElem?.2 ⟨i - 2,by
      rw[List.getElem?_drop,show 2+(i - 2)=i by omega,List.getElem?_take,if_pos om];exact hget⟩
    have:=List.all_eq_true.1 hall2 _ hmem
    rw[hcb]at this;cases this
   have good:a1v s[a+i]=true->(((s.drop a).take (i+1)).drop 2).all a1v=true:=by
    intro hcb
    rw[List.take_add_one,hget,List.drop_append_of_le_length (by rw[List.length_take];omega),List.all_append,hall]
    simp[hcb]
   have hcb:a1v s[a+i]=decide (128<=s[a+i].toNat/\s[a+i].toNat<=191):=rfl
   refine e3q hs hlt ?_
   by_cases h128:s[a+i].toNat < 128
   ·refine c0j (decide_eq_true om) ?_
    refine a1r rfl ?_
    show _=_
    rw[bad (by rw[hcb];exact decide_eq_false om)];rfl
   refine c9d (decide_eq_false om) ?_
   refine e3q hs hlt ?_
   by_cases h191:191 < s[a+i].toNat
   ·refine a1r (decide_eq_true om) ?_
    show _=_
    rw[bad (by rw[hcb];exact decide_eq_false om)];rfl
   refine a1x (decide_eq_false om) ?_
   refine⟨i+1,⟨om,om,good (by rw[hcb];exact decide_eq_true om)⟩,om,?_,rfl⟩
   rw[a3z om];rfl
  ·replace hl:=of_decide_eq_false hl
   have hi:i=4:=om
   subst hi
   unfold Hid at hz
   show _=_
   rw[hz,if_pos hall];rfl
 ·have hN:szN s[a]=4:=by unfold szN;rw[hc,if_neg om,if_neg om,if_pos om]
  have hLo:c7r s[a]=128:=by unfold c7r;rw[hc,if_neg om,if_neg om]
  have hHi:c9v s[a]=191:=by unfold c9v;rw[hc,if_neg om,if_neg om]
  have en:IntKind.i64.wrap ((a:Int)+4)=(a:Int)+4:=a3z om
  unfold Hid at hz
  rw[hN,if_neg (by clear hz;omega),hLo,hHi]at hz
  clear hN hLo hHi
  have hz2:(s.length - a < 4->szL (s.drop a)=0)/\(¬ s.length - a < 4->((hd1 (s.drop a)).toNat < 128\/191 < (hd1 (s.drop a)).toNat)->szL (s.drop a)=0)/\(¬ s.length - a < 4->¬ ((hd1 (s.drop a)).toNat < 128\/191 < (hd1 (s.drop a)).toNat)->szL (s.drop a)=if(((s.drop a).take 4).drop 2).all a1v then 4 else 0):=
   ⟨fun h=>by rw[hz,if_pos (.inl h)],fun h h'=>by rw[hz,if_pos (.inr h')],fun h h'=>by rw[hz,if_neg (by intro e;rcases e with e|e;exact h e;exact h' e)]⟩
  clear hz
  obtain⟨z1,z2,z3⟩:=hz2
  replace z1:Hid _:=z1
  replace z2:Hid _:=z2
  replace z3:Hid _:=z3
  repeat' (first
    |refine a1x (decide_eq_false om) ?_
    |refine a1r (decide_eq_true om) ?_
    |refine a1x rfl ?_
    |refine a1r rfl ?_)
  by_cases hL:s.length < a+4
  ·refine c0j (decide_eq_true om) ?_
   refine c0j rfl ?_
   refine a1r rfl ?_
   show _=_
   rw[show szL (s.drop a)=0 from z1 om];rfl
  have hlt1:a+1 < s.length:=om
  rw[h1 hlt1]at z2 z3
  refine c9d (decide_eq_false om) ?_
  refine e0q om hlt1 ?_
  generalize hb:s[a+1].toNat=b at z2 z3
  by_cases hb1:b < 128
  ·refine c0j (decide_eq_true om) ?_
   refine a1r rfl ?_
   show _=_
   rw[show szL (s.drop a)=0 from z2 om om];rfl
  refine c9d (decide_eq_false om) ?_
  refine e0q om hlt1 ?_
  by_cases hb2:191 < b
  ·refine a1r (decide_eq_true om) ?_
   show _=_
   rw[show szL (s.drop a)=0 from z2 om om];rfl
  refine a1x (decide_eq_false om) ?_
  have hz:szL (s.drop a)=if(((s.drop a).take 4).drop 2).all a1v then 4 else 0:=z3 om om
  clear z1 z2 z3
  clear h1
  refine wp_loop (α:=Nat) (fun i=>4 - i) (fun i=>[(0,str s),(1,i64 a),(6,i64 4),(9,i64 i)]) (fun _=>[]) (fun i=>2<=i/\i<=4/\(((s.drop a).take i).drop 2).all a1v=true) ?_ 2 ⟨om,om,by simp⟩
  rintro i ⟨hi1,hi2,hall⟩
  replace hz:Hid _:=hz
  refine And.intro (fun hl=>?_) (fun hl=>?_)
  ·replace hl:=of_decide_eq_true hl
   have hlt:a+i < s.length:=om
   have hget:(s.drop a)[i]? =some s[a+i]:=by rw[List.getElem?_drop,List.getElem?_eq_getElem hlt]
   have bad:a1v s[a+i]=false->szL (s.drop a)=0:=by
    intro hcb
    unfold Hid at hz
    rw[hz,if_neg]
    intro hall2
    have hmem:s[a+i]∈((s.drop a).take 4).drop 2:=List.mem_iff_getElem?.2 ⟨i - 2,by
      rw[List.getElem?_drop,show 2+(i - 2)=i by omega,List.getElem?_take,if_pos om];exact hget⟩
    have:=List.all_eq_true.1 hall2 _ hmem
    rw[hcb]at this;cases this
   have good:a1v s[a+i]=true->(((s.drop a).take (i+1)).drop 2).all a1v=true:=by
    intro hcb
    rw[List.take_add_one,hget,List.drop_append_of_le_length (by rw[List.length_take];omega),List.all_append,hall]
    simp[hcb]
   have hcb:a1v s[a+i]=decide (128<=s[a+i].toNat/\s[a+i].toNat<=191):=rfl
   refine e3q hs hlt ?_
   by_cases h128:s[a+i].toNat < 128
   ·refine c0j (decide_eq_true om) ?_
    refine a1r rfl ?_
    show _=_
    rw[bad (by rw[hcb];exact decide_eq_false om)];rfl
   refine c9d (decide_eq_false om) ?_
   refine e3q hs hlt ?_
   by_cases h191:191 < s[a+i].toNat
   ·refine a1r (decide_eq_true om) ?_
    show _=_
    rw[bad (by rw[hcb];exact decide_eq_false om)];rfl
   refine a1x (decide_eq_false om) ?_
   refine⟨i+1,⟨om,om,good (by rw[hcb];exact decide_eq_true om)⟩,om,?_,rfl⟩
   rw[a3z om];rfl
  ·replace hl:=of_decide_eq_false hl
   have hi:i=4:=om
   subst hi
   unfold Hid at hz
   show _=_
   rw[hz,if_pos hall];rfl
 ·have hN:szN s[a]=4:=by unfold szN;rw[hc,if_neg om,if_neg om,if_pos om]
  have hLo:c7r s[a]=128:=by unfold c7r;rw[hc,if_neg om,if_neg om]
  have hHi:c9v s[a]=143:=by unfold c9v;rw[hc,if_neg om,if_pos om]
  have en:IntKind.i64.wrap ((a:Int)+4)=(a:Int)+4:=a3z om
  unfold Hid at hz
  rw[hN,if_neg (by clear hz;omega),hLo,hHi]at hz
  clear hN hLo hHi
  have hz2:(s.length - a < 4->szL (s.drop a)=0)/\(¬ s.length - a < 4->((hd1 (s.drop a)).toNat < 128\/143 < (hd1 (s.drop a)).toNat)->szL (s.drop a)=0)/\(¬ s.length - a < 4->¬ ((hd1 (s.drop a)).toNat < 128\/143 < (hd1 (s.drop a)).toNat)->szL (s.drop a)=if(((s.drop a).take 4).drop 2).all a1v then 4 else 0):=
   ⟨fun h=>by rw[hz,if_pos (.inl h)],fun h h'=>by rw[hz,if_pos (.inr h')],fun h h'=>by rw[hz,if_neg (by intro e;rcases e with e|e;exact h e;exact h' e)]⟩
  clear hz
  obtain⟨z1,z2,z3⟩:=hz2
  replace z1:Hid _:=z1
  replace z2:Hid _:=z2
  replace z3:Hid _:=z3
  repeat' (first
    |refine a1x (decide_eq_false om) ?_
    |refine a1r (decide_eq_true om) ?_
    |refine a1x rfl ?_
    |refine a1r rfl ?_)
  by_cases hL:s.length < a+4
  ·refine c0j (decide_eq_true om) ?_
   refine c0j rfl ?_
   refine a1r rfl ?_
   show _=_
   rw[show szL (s.drop a)=0 from z1 om];rfl
  have hlt1:a+1 < s.length:=om
  rw[h1 hlt1]at z2 z3
  refine c9d (decide_eq_false om) ?_
  refine e0q om hlt1 ?_
  generalize hb:s[a+1].toNat=b at z2 z3
  by_cases hb1:b < 128
  ·refine c0j (decide_eq_true om) ?_
   refine a1r rfl ?_
   show _=_
   rw[show szL (s.drop a)=0 from z2 om om];rfl
  refine c9d (decide_eq_false om) ?_
  refine e0q om hlt1 ?_
  by_cases hb2:143 < b
  ·refine a1r (decide_eq_true om) ?_
   show _=_
   rw[show szL (s.drop a)=0 from z2 om om];rfl
  refine a1x (decide_eq_false om) ?_
  have hz:szL (s.drop a)=if(((s.drop a).take 4).drop 2).all a1v then 4 else 0:=z3 om om
  clear z1 z2 z3
  clear h1
  refine wp_loop (α:=Nat) (fun i=>4 - i) (fun i=>[(0,str s),(1,i64 a),(6,i64 4),(9,i64 i)]) (fun _=>[]) (fun i=>2<=i/\i<=4/\(((s.drop a).take i).drop 2).all a1v=true) ?_ 2 ⟨om,om,by simp⟩
  rintro i ⟨hi1,hi2,hall⟩
  replace hz:Hid _:=hz
  refine And.intro (fun hl=>?_) (fun hl=>?_)
  ·replace hl:=of_decide_eq_true hl
   have hlt:a+i < s.length:=om
   have hget:(s.drop a)[i]? =some s[a+i]:=by rw[List.getElem?_drop,List.getElem?_eq_getElem hlt]
   have bad:a1v s[a+i]=false->szL (s.drop a)=0:=by
    intro hcb
    unfold Hid at hz
    rw[hz,if_neg]
    intro hall2
    have hmem:s[a+i]∈((s.drop a).take 4).drop 2:=List.mem_iff_getElem?.2 ⟨i - 2,by
      rw[List.getElem?_drop,show 2+(i - 2)=i by omega,List.getElem?_take,if_pos om];exact hget⟩
    have:=List.all_eq_true.1 hall2 _ hmem
    rw[hcb]at this;cases this
   have good:a1v s[a+i]=true->(((s.drop a).take (i+1)).drop 2).all a1v=true:=by
    intro hcb
    rw[List.take_add_one,hget,List.drop_append_of_le_length (by rw[List.length_take];omega),List.all_append,hall]
    simp[hcb]
   have hcb:a1v s[a+i]=decide (128<=s[a+i].toNat/\s[a+i].toNat<=191):=rfl
   refine e3q hs hlt ?_
   by_cases h128:s[a+i].toNat < 128
   ·refine c0j (decide_eq_true om) ?_
    refine a1r rfl ?_
    show _=_
    rw[bad (by rw[hcb];exact decide_eq_false om)];rfl
   refine c9d (decide_eq_false om) ?_
   refine e3q hs hlt ?_
   by_cases h191:191 < s[a+i].toNat
   ·refine a1r (decide_eq_true om) ?_
    show _=_
    rw[bad (by rw[hcb];exact decide_eq_false om)];rfl
   refine a1x (decide_eq_false om) ?_
   refine⟨i+1,⟨om,om,good (by rw[hcb];exact decide_eq_true om)⟩,om,?_,rfl⟩
   rw[a3z om];rfl
  ·replace hl:=of_decide_eq_false hl
   have hi:i=4:=om
   subst hi
   unfold Hid at hz
   show _=_
   rw[hz,if_pos hall];rfl
end
end Go.Vm.Lex
namespace Go.Vm.Lex
def Val (s:List UInt8):Prop:=strange 0 s= -1
theorem e0p:∀ (n:Nat) (s:List UInt8) (a b:Nat),s.length<=n->(strange a s= -1↔strange b s= -1):=by
 intro n
 induction n with
 |zero=>intro s a b h;have:s=[]:=List.length_eq_zero_iff.1 om;subst this;rw[a2z,a2z]
 |succ n ih=>
  intro s a b h
  by_cases h0:s=[]
  ·subst h0;rw[a2z,a2z]
  ·by_cases h1:szL s=0
   ·rw[a7r a h0 h1,a7r b h0 h1];omega
   ·rw[a6c a h0 h1,a6c b h0 h1]
    exact ih _ _ _ (by have:=b3h s (by simp[h0,h1]);omega)
theorem h0d (a:Nat) (s:List UInt8):strange a s= -1↔Val s:=e0p _ s a 0 (Nat.le_refl _)
theorem b6u:∀ (n:Nat) (s:List UInt8) (a:Nat),s.length<=n->strange a s= -1\/((a:Int)<=strange a s/\strange a s < a+s.length):=by
 intro n
 induction n with
 |zero=>intro s a h;have:s=[]:=List.length_eq_zero_iff.1 om;subst this;rw[a2z];exact .inl rfl
 |succ n ih=>
  intro s a h
  by_cases h0:s=[]
  ·subst h0;rw[a2z];exact .inl rfl
  ·have hp:0 < s.length:=List.length_pos_iff.2 h0
   by_cases h1:szL s=0
   ·rw[a7r a h0 h1];omega
   ·rw[a6c a h0 h1]
    have:=ih (s.drop (szL s)) (a+szL s) (by have:=b3h s (by simp[h0,h1]);omega)
    have hl:=c7k s
    rw[List.length_drop]at this
    omega
theorem c3c:Val []:=a2z 0
theorem c6b {s:List UInt8} (h:s≠[]):Val s↔szL s≠0/\Val (s.drop (szL s)):=by
 by_cases h1:szL s=0
 ·unfold Val;rw[a7r 0 h h1];simp[h1]
 ·unfold Val;rw[a6c 0 h h1];simp[h1];exact h0d _ _
theorem f2s {c:UInt8} (h:c.toNat < 128) (r:List UInt8):szL (c::r)=1:=by
 unfold szL;rw[if_neg (List.cons_ne_nil _ _)];simp[hd0,h]
theorem d1k {c:UInt8} (h:c.toNat < 128) (r:List UInt8):Val (c::r)↔Val r:=by
 rw[c6b (List.cons_ne_nil _ _),f2s h];simp
theorem d6x (s:List UInt8) (h:szL s≠0):(szL s=1/\s≠[]/\(hd0 s).toNat < 128)\/(128<=(hd0 s).toNat/\szL s=szN (hd0 s)/\2<=szL s/\szL s<=s.length/\c7r (hd0 s)<=(hd1 s).toNat/\(hd1 s).toNat<=c9v (hd0 s)/\((s.take (szL s)).drop 2).all a1v=true):=by
 have hN:=h3i (hd0 s)
 unfold szL at h⊢
 split
 ·rename_i h0;rw[if_pos h0]at h;exact absurd rfl h
 ·rename_i h0
  rw[if_neg h0]at h
  split
  ·rename_i h1;exact .inl ⟨rfl,h0,h1⟩
  ·rename_i h1
   rw[if_neg h1]at h
   split
   ·rename_i h2;rw[if_pos h2]at h;exact absurd rfl h
   ·rename_i h2
    rw[if_neg h2]at h
    split
    ·rename_i h3;rw[if_pos h3]at h;exact absurd rfl h
    ·rename_i h3
     rw[if_neg h3]at h
     split
     ·rename_i h4
      right
      refine⟨om,rfl,om,om,om,om,?_⟩
      exact h4
     ·rename_i h4;rw[if_neg h4]at h;exact absurd rfl h
theorem g9w (s:List UInt8) (h:128<=(hd0 s).toNat) (hN:2<=szN (hd0 s)) (hl:szN (hd0 s)<=s.length) (h1:c7r (hd0 s)<=(hd1 s).toNat) (h2:(hd1 s).toNat<=c9v (hd0 s)) (h3:((s.take (szN (hd0 s))).drop 2).all a1v=true):szL s=szN (hd0 s):=by
 unfold szL
 rw[if_neg (by rintro rfl;simp at hl;omega),if_neg om,if_neg om,if_neg om,if_pos h3]
theorem e4i {s t:List UInt8} {n:Nat} (hn:1<=n) (h:s.take n=t.take n):hd0 s=hd0 t:=by
 obtain⟨m,rfl⟩:∃ m,n=m+1:=⟨n - 1,om⟩
 cases s<;>cases t<;>simp at h<;>simp[hd0,h]
theorem f5r {s t:List UInt8} {n:Nat} (hn:2<=n) (h:s.take n=t.take n):hd1 s=hd1 t:=by
 obtain⟨m,rfl⟩:∃ m,n=m+2:=⟨n - 2,om⟩
 match s,t with
 |[],[]=>rfl
 |[],_::_=>simp at h
 |_::_,[]=>simp at h
 |[a],[b]=>rfl
 |[a],b::c::t=>simp at h
 |a::d::s,[b]=>simp at h
 |a::d::s,b::c::t=>simp at h;simp[hd1,h]
theorem g4e {s t:List UInt8} (h:szL s≠0) (ht:szL s<=t.length) (he:s.take (szL s)=t.take (szL s)):szL t=szL s:=by
 rcases d6x s h with⟨h1,h2,h3⟩|⟨h1,h2,h3,h4,h5,h6,h7⟩
 ·have e0:=e4i om he
  have hne:t≠[]:=by rintro rfl;simp at ht;omega
  unfold szL
  rw[if_neg hne,if_pos (by rw[<-e0];exact h3)]
  rw[if_neg h2,if_pos h3]
 ·have e0:=e4i om he
  have e1:=f5r h3 he
  rw[g9w t (by rw[<-e0];exact h1) (by rw[<-e0];omega) (by rw[<-e0];omega) (by rw[<-e0,<-e1];exact h5) (by rw[<-e0,<-e1];exact h6) (by rw[<-e0,<-h2,<-he];exact h7),<-e0,h2]
theorem f4s {s:List UInt8} (h:szL s≠0) {p:Nat} (hp:szL s<=p):szL (s.take p)=szL s:=
 g4e h (by have:=c7k s;simp;omega) (by rw[List.take_take,Nat.min_eq_left hp])
theorem f6t {s:List UInt8} {p:Nat} (hp:0 < p) (h:p < szL s):∀ c,s[p]? =some c->128<=c.toNat:=by
 intro c hc
 rcases d6x s om with⟨h1,_⟩|⟨h1,h2,h3,h4,h5,h6,h7⟩
 ·omega
 ·by_cases hp1:p=1
  ·subst hp1
   have:hd1 s=c:=by
    match s,hc with
    |a::b::r,hc=>simpa [hd1] using hc
   have hlo:128<=c7r (hd0 s):=by unfold c7r;repeat' split
                                 all_goals omega
   rw[this]at h5;omega
  ·have hm:c∈(s.take (szL s)).drop 2:=List.mem_iff_getElem?.2 ⟨p - 2,by
     rw[List.getElem?_drop,show 2+(p - 2)=p by omega,List.getElem?_take,if_pos h];exact hc⟩
   have:=List.all_eq_true.1 h7 c hm
   simp[a1v]at this;omega
theorem d7c:∀ (n:Nat) (s:List UInt8) (p:Nat),s.length<=n->Val s->(s.length<=p\/∃ c,s[p]? =some c/\c.toNat < 128)->Val (s.take p)/\Val (s.drop p):=by
 intro n
 induction n with
 |zero=>intro s p h hv _;have:s=[]:=List.length_eq_zero_iff.1 om;subst this;simp[c3c]
 |succ n ih=>
  intro s p h hv hb
  by_cases h0:s=[]
  ·subst h0;simp[c3c]
  ·by_cases hp:p=0
   ·subst hp;simp[c3c,hv]
   ·obtain⟨h1,h2⟩:=(c6b h0).1 hv
    have hge:szL s<=p:=by
     apply Classical.byContradiction
     intro hlt
     rcases hb with hb|⟨c,hc,hc2⟩
     ·have:=c7k s;omega
     ·have:=f6t (s:=s) (p:=p) om om c hc;omega
    have hd:=b3h s (by simp[h0,h1])
    obtain⟨k1,k2⟩:=ih (s.drop (szL s)) (p - szL s) om h2 (by
      rcases hb with hb|⟨c,hc,hc2⟩
      ·left;rw[List.length_drop];omega
      ·right;exact⟨c,by rw[List.getElem?_drop,show szL s+(p - szL s)=p by omega];exact hc,hc2⟩)
    constructor
    ·have hne:s.take p≠[]:=by intro e;rw[List.take_eq_nil_iff]at e;rcases e with e|e;exact hp e;exact h0 e
     rw[c6b hne,f4s h1 hge]
     refine⟨h1,?_⟩
     rw[List.drop_take];exact k1
    ·rw[List.drop_drop,show szL s+(p - szL s)=p by omega]at k2;exact k2
theorem d3i:∀ (n:Nat) (s:List UInt8),s.length<=n->Val s->Val (s.drop (a0j false s)):=by
 intro n
 induction n with
 |zero=>intro s h hv;have:s=[]:=List.length_eq_zero_iff.1 om;subst this;simp[c3c]
 |succ n ih=>
  intro s h hv
  cases s with
  |nil=>simpa using hv
  |cons c r=>
   rw[a7j]
   split
   ·rename_i hw
    have hc:c.toNat < 128:=by simp[wsB]at hw;rcases hw with rfl|rfl|rfl|rfl<;>decide
    rw[List.drop_succ_cons]
    exact ih r (by simpa using h) ((d1k hc r).1 hv)
   ·split
    ·rename_i hr
     have hc:c.toNat < 128:=by rw[hr.1];decide
     have hvr:=(d1k hc r).1 hv
     rw[List.drop_succ_cons,e9v]
     have hg:=Lib.indexByte_ge r 10
     split
     ·rw[List.drop_length];exact c3c
     ·rename_i hi
      rw[<-List.drop_drop]
      have hs:=Lib.indexByte_some (l:=r) (c:=10) (o:=(Lib.indexByte r 10).toNat) om
      refine ih _ (by rw[List.length_drop];simp at h;omega) ?_
      exact(d7c _ r _ (Nat.le_refl _) hvr (.inr ⟨10,hs.1,by decide⟩)).2
    ·exact hv
theorem c9h:∀ (n:Nat) (b:Bool) (s:List UInt8),s.length<=n->a0j false (s.drop (a0j b s))=0:=by
 intro n
 induction n with
 |zero=>intro b s h;have:s=[]:=List.length_eq_zero_iff.1 om;subst this;cases b<;>rfl
 |succ n ih=>
  intro b s h
  cases s with
  |nil=>cases b<;>rfl
  |cons c r=>
   have hr:r.length<=n:=by simpa using h
   cases b with
   |false=>
    rw[a7j]
    split
    ·rw[List.drop_succ_cons];exact ih _ r hr
    ·rename_i h1
     split
     ·rw[List.drop_succ_cons];exact ih _ r hr
     ·rename_i h2;rw[List.drop_zero,a7j,if_neg h1,if_neg h2]
   |true=>
    rw[b5m]
    split
    ·rw[List.drop_succ_cons];exact ih _ r hr
    ·rw[List.drop_succ_cons];exact ih _ r hr
end Go.Vm.Lex
namespace Go.Vm.Lex
theorem e3z {c:UInt8} (h:c4c c=true):c.toNat < 128:=by simp[c4c,isL,isD]at h;omega
theorem takeWhile_take:∀ (s:List UInt8),s.take (a2q s)=s.takeWhile c4c:=by
 intro s;unfold a2q
 induction s with
 |nil=>rfl
 |cons c r ih=>rw[List.takeWhile_cons];split<;>simp[ih]
theorem d1o (s:List UInt8):(s.take (a2q s)).all c4c=true:=by
 rw[takeWhile_take]
 induction s with
 |nil=>rfl
 |cons c r ih=>rw[List.takeWhile_cons];split<;>simp_all
theorem c7a (s:List UInt8):a2x s=[]\/(s.length≥2/\a2x s=s.take 2/\s.take 2∈b5v)\/(s≠[]/\a2x s=s.take 1/\hd0 s∈c2h/\¬ (1 < s.length/\s.take 2∈b5v)):=by
 unfold a2x
 split
 ·rename_i h;exact .inr (.inl ⟨h.1,rfl,h.2⟩)
 ·rename_i h0
  split
  ·rename_i h;exact .inr (.inr ⟨h.1,rfl,h.2,h0⟩)
  ·exact .inl rfl
theorem e1c:∀ t∈b5v,t.length=2/\∀ c∈t,c.toNat < 128:=by decide
theorem e2p:∀ c∈c2h,c.toNat < 128:=by decide
theorem b8q {w:List UInt8->Nat} {s:List UInt8} (h:(a1k w s).e=0):1<=(a1k w s).n/\(a1k w s).n<=s.length/\(a1k w s).t=s.take (a1k w s).n/\∀ c∈s.take (a1k w s).n,c.toNat < 128:=by
 have hrl:=b2a s
 have hra:∀ c∈s.take (a2q s),c.toNat < 128:=fun c hc=>e3z (List.all_eq_true.1 (d1o s) c hc)
 unfold a1k at h⊢
 split
 ·rename_i h1
  rw[if_pos h1]at h
  split
  ·exact⟨h1.1,hrl,rfl,hra⟩
  ·rename_i h2;rw[if_neg h2]at h;cases h
 ·rename_i h1
  rw[if_neg h1]at h
  split
  ·rename_i h2
   rw[if_pos h2]at h
   split
   ·rename_i h3;rw[if_pos h3]at h;cases h
   ·exact⟨h2.1,hrl,rfl,hra⟩
  ·rename_i h2
   rw[if_neg h2]at h
   split
   ·rename_i h3
    rcases c7a s with h4|⟨h4,h5,h6⟩|⟨h4,h5,h6,_⟩
    ·exact absurd h4 h3
    ·have hl:(a2x s).length=2:=by rw[h5,List.length_take];omega
     show 1<=(a2x s).length/\(a2x s).length<=s.length/\a2x s=s.take (a2x s).length/\_
     rw[hl]
     exact⟨om,h4,h5,(e1c _ h6).2⟩
    ·have hp:0 < s.length:=List.length_pos_iff.2 h4
     have hl:(a2x s).length=1:=by rw[h5,List.length_take];omega
     show 1<=(a2x s).length/\(a2x s).length<=s.length/\a2x s=s.take (a2x s).length/\∀ c∈s.take (a2x s).length,c.toNat < 128
     rw[hl]
     refine⟨om,om,h5,fun c hc=>?_⟩
     cases s with
     |nil=>exact absurd rfl h4
     |cons d r=>simp at hc;rw[hc];exact e2p _ h6
   ·rename_i h3;rw[if_neg h3]at h;cases h
theorem h7a {w w':List UInt8->Nat} (s:List UInt8) (h:w s=w' s):a1k w s=a1k w' s:=by unfold a1k;rw[h]
theorem d1s:∀ (s:List UInt8) (n:Nat),(∀ c∈s.take n,c.toNat < 128)->(Val s↔Val (s.drop n))
 |[],n,_=>by simp
 |c::r,0,_=>by simp
 |c::r,n+1,h=>by
  rw[d1k (h c (by simp)) r,List.drop_succ_cons]
  exact d1s r n fun d hd=>h d (by simp[hd])
structure Dg where
 c:Int
 f:Nat
 e:Nat
structure TokQ where
 k:Int
 t:List UInt8
 v:Int
 f:Nat
 e:Nat
def Dg.ok:Dg:=⟨0,0,0⟩
def after (out:List TokQ) (r:List TokQ×Dg):List TokQ×Dg:=if r.2.c=0 then(out++r.1,r.2) else([],r.2)
theorem c6g (s:List UInt8) (h:¬ (s.drop (a0j false s)=[]\/(a1k szL (s.drop (a0j false s))).e≠0)):(s.drop (a0j false s+(a1k szL (s.drop (a0j false s))).n)).length < s.length:=by
 have h1:s.drop (a0j false s)≠[]:=fun e=>h (.inl e)
 have h2:(a1k szL (s.drop (a0j false s))).e=0:=by
  apply Classical.byContradiction
  intro e;exact h (.inr e)
 obtain⟨h3,h4,_⟩:=b8q h2
 rw[List.length_drop]at h4⊢
 have:=List.length_pos_iff.2 h1
 rw[List.length_drop]at this
 omega
def toks (a:Nat) (s:List UInt8):List TokQ×Dg:=
 if h:s.drop (a0j false s)=[]\/(a1k szL (s.drop (a0j false s))).e≠0 then
  (if s.drop (a0j false s)=[] then([⟨5,[],0,a+s.length,a+s.length⟩],Dg.ok)
   else([],⟨(a1k szL (s.drop (a0j false s))).e,a+a0j false s,a+a0j false s+(a1k szL (s.drop (a0j false s))).n⟩))
 else after [⟨(a1k szL (s.drop (a0j false s))).k,(a1k szL (s.drop (a0j false s))).t,(a1k szL (s.drop (a0j false s))).v,a+a0j false s,a+a0j false s+(a1k szL (s.drop (a0j false s))).n⟩] (toks (a+(a0j false s+(a1k szL (s.drop (a0j false s))).n)) (s.drop (a0j false s+(a1k szL (s.drop (a0j false s))).n)))
termination_by s.length
decreasing_by exact c6g s h
theorem a3u (a:Nat) {s:List UInt8} (h:s.drop (a0j false s)=[]):toks a s=([⟨5,[],0,a+s.length,a+s.length⟩],Dg.ok):=by rw[toks];simp[h]
theorem b1l (a:Nat) {s:List UInt8} (h:s.drop (a0j false s)≠[]) (he:(a1k szL (s.drop (a0j false s))).e≠0):toks a s=([],⟨(a1k szL (s.drop (a0j false s))).e,a+a0j false s,a+a0j false s+(a1k szL (s.drop (a0j false s))).n⟩):=by rw[toks,dif_pos (.inr he),if_neg h]
theorem b3i (a:Nat) {s:List UInt8} (h:s.drop (a0j false s)≠[]) (he:(a1k szL (s.drop (a0j false s))).e=0):toks a s=after [⟨(a1k szL (s.drop (a0j false s))).k,(a1k szL (s.drop (a0j false s))).t,(a1k szL (s.drop (a0j false s))).v,a+a0j false s,a+a0j false s+(a1k szL (s.drop (a0j false s))).n⟩] (toks (a+(a0j false s+(a1k szL (s.drop (a0j false s))).n)) (s.drop (a0j false s+(a1k szL (s.drop (a0j false s))).n))):=by
 rw[toks,dif_neg (by simp[h,he])]
theorem d7g (a:Nat) (s:List UInt8):toks a s=toks (a+a0j false s) (s.drop (a0j false s)):=by
 have hi:=c9h _ false s (Nat.le_refl _)
 have hl:=a2o false s
 by_cases h:s.drop (a0j false s)=[]
 ·rw[a3u a h,a3u (a+a0j false s) (by rw[hi,List.drop_zero];exact h)]
  have e:(s.drop (a0j false s)).length=s.length - a0j false s:=List.length_drop ..
  have hl2:a+a0j false s+(s.drop (a0j false s)).length=a+s.length:=by rw[e];omega
  rw[hl2]
 ·by_cases he:(a1k szL (s.drop (a0j false s))).e=0
  ·rw[b3i a h he,b3i (a+a0j false s) (by rw[hi,List.drop_zero];exact h) (by rw[hi,List.drop_zero];exact he),hi]
   simp only[List.drop_zero,Nat.add_zero,List.drop_drop,Nat.zero_add,Nat.add_assoc]
  ·rw[b1l a h he,b1l (a+a0j false s) (by rw[hi,List.drop_zero];exact h) (by rw[hi,List.drop_zero];exact he),hi]
   simp only[List.drop_zero,Nat.add_zero]
theorem e0z (o1 o2:List TokQ) (r:List TokQ×Dg):after o1 (after o2 r)=after (o1++o2) r:=by
 unfold after
 by_cases h:r.2.c=0<;>simp[h]
theorem f1h (r:List TokQ×Dg) (h:r.2.c≠0->r.1=[]):after [] r=r:=by
 unfold after
 by_cases hc:r.2.c=0
 ·simp[hc]
 ·rw[if_neg hc,<-h hc]
theorem e1d:∀ (n:Nat) (a:Nat) (s:List UInt8),s.length<=n->(toks a s).2.c≠0->(toks a s).1=[]:=by
 intro n
 cases n with
 |zero=>
  intro a s h hc
  have:s=[]:=List.length_eq_zero_iff.1 om
  subst this
  rw[a3u a (by simp)]at hc;exact absurd rfl hc
 |succ n=>
  intro a s h hc
  by_cases h0:s.drop (a0j false s)=[]
  ·rw[a3u a h0]at hc;exact absurd rfl hc
  ·by_cases he:(a1k szL (s.drop (a0j false s))).e=0
   ·rw[b3i a h0 he]at hc⊢
    unfold after at hc⊢
    split
    ·rename_i hz;rw[if_pos hz]at hc;exact absurd hz hc
    ·rfl
   ·rw[b1l a h0 he]
def a0k (s:List UInt8):List TokQ×Dg:=if 65536 < s.length then([],⟨2,0,0⟩) else if 0<=strange 0 s then([],⟨110,(strange 0 s).toNat,(strange 0 s).toNat+1⟩) else toks 0 s
end Go.Vm.Lex
namespace Go.Vm.Lex
open Go.Vm.Ite
def TokQ.D (t:TokQ):D:=tkD t.k t.t t.v t.f t.e
def a7b (r:List TokQ×Dg):V:= .tup [.d (.sl (r.1.map TokQ.D)),.d (dgD r.2.c r.2.f r.2.e)]
theorem f5h (s:List UInt8):∀ (f i:Nat),s.length - i<=f->c1w ⟨s.toArray⟩ f i=strange i (s.drop i):=by
 intro f
 induction f with
 |zero=>
  intro i h
  rw[List.drop_eq_nil_of_le om,a2z];rfl
 |succ f ih=>
  intro i h
  have hsz:(⟨s.toArray⟩:ByteArray).size=s.length:=by simp[ByteArray.size]
  unfold c1w
  rw[hsz]
  split
  ·rename_i hlt
   obtain⟨h1,h2⟩:=g0z s i hlt
   have hne:s.drop i≠[]:=by intro e;have:=congrArg List.length e;simp at this;omega
   by_cases h0:szL (s.drop i)=0
   ·rw[if_pos (h1.2 h0),a7r i hne h0]
   ·rw[if_neg (fun e=>h0 (h1.1 e)),h2 h0,a6c i hne h0,List.drop_drop]
    exact ih _ om
  ·rw[List.drop_eq_nil_of_le om,a2z]
theorem i1f (s:List UInt8) (h:s≠[]) (h0:szL s≠0):wD s=szL s:=by
 have hp:=List.length_pos_iff.2 h
 obtain⟨h1,h2⟩:=g0z s 0 hp
 have hsz:(⟨s.toArray⟩:ByteArray).size=s.length:=by simp[ByteArray.size]
 unfold wD d9i
 rw[if_neg om]
 exact h2 h0
section
variable {fx:Nat->Option Obj} {F:Nat->Option a0v} [HL F] (H:Hp)
theorem g9m (s:List UInt8):evF (pgL fx F) d4g [str s] H=some (i64 (strange 0 s),H):=by
 rw[b3t (f2z (F:=F))]
 show some (V.d (D.int .i64 (c1w ⟨s.toArray⟩ s.length 0)),H)=_
 rw[f5h s s.length 0 om,List.drop_zero]
theorem e4p (s:List UInt8) (hs:s.length<=4611686018427387904):evF (pgL fx F) c8x [str s] H=some (i64 (strange 0 s),H):=by
 refine a4n (c7l (F:=F)) rfl rfl ?_ H
 refine wp_loop (α:=Nat) (fun i=>s.length - i) (fun i=>[(0,str s),(3,i64 i)]) (fun _=>[]) (fun i=>i<=s.length/\strange i (s.drop i)=strange 0 s) ?_ 0 ⟨om,by simp⟩
 rintro i ⟨hi,hr⟩
 refine And.intro (fun hl=>?_) (fun hl=>?_)
 ·replace hl:=of_decide_eq_true hl
  have hlt:i < s.length:=om
  have hne:s.drop i≠[]:=by intro e;have:=congrArg List.length e;simp at this;omega
  refine Exists.intro _ (Exists.intro _ (And.intro (d8x _ _ hs _ hlt) ?_))
  refine And.intro (fun h=>?_) (fun h=>?_)
  ·replace h:=of_decide_eq_true h
   rw[a7r i hne om]at hr
   show _=_
   rw[<-hr];rfl
  ·replace h:=of_decide_eq_false h
   rw[a6c i hne om,List.drop_drop]at hr
   have hle:=c7k (s.drop i)
   rw[List.length_drop]at hle
   refine⟨i+szL (s.drop i),⟨om,hr⟩,om,?_,rfl⟩
   rw[a3z om];rfl
 ·replace hl:=of_decide_eq_false hl
  rw[List.drop_eq_nil_of_le om,a2z]at hr
  show _=_
  rw[<-hr];rfl
structure Head (s:List UInt8) (i:Nat) (out:List TokQ):Prop where
 le:i<=s.length
 val:Val (s.drop i)
 sk:a0j false (s.drop i)=0
 ol:out.length<=i
 eq:after out (toks i (s.drop i))=toks 0 s
theorem Head.start {s:List UInt8} (h:Val s):Head s (a0j false s) []:=by
 refine⟨a2o _ _,d3i _ s (Nat.le_refl _) h,c9h _ _ _ (Nat.le_refl _),Nat.zero_le _,?_⟩
 rw[f1h _ (e1d _ _ _ (Nat.le_refl _))]
 have:=d7g 0 s
 rw[Nat.zero_add]at this
 exact this.symm
theorem Head.next {s:List UInt8} {i:Nat} {out:List TokQ} (h:Head s i out) (hlt:i < s.length) (he:(a1k szL (s.drop i)).e=0):
 Head s (i+(a1k szL (s.drop i)).n+a0j false (s.drop (i+(a1k szL (s.drop i)).n))) (out++[⟨(a1k szL (s.drop i)).k,(a1k szL (s.drop i)).t,(a1k szL (s.drop i)).v,i,i+(a1k szL (s.drop i)).n⟩]):=by
 obtain⟨h1,h2,h3,h4,h5⟩:=h
 obtain⟨k1,k2,k3,k4⟩:=b8q he
 rw[List.length_drop]at k2
 have hv:Val (s.drop (i+(a1k szL (s.drop i)).n)):=by rw[<-List.drop_drop];exact(d1s _ _ k4).1 h2
 have hsl:=a2o false (s.drop (i+(a1k szL (s.drop i)).n))
 rw[List.length_drop]at hsl
 refine⟨om,?_,?_,by simp;omega,?_⟩
 ·rw[<-List.drop_drop];exact d3i _ _ (Nat.le_refl _) hv
 ·rw[<-List.drop_drop];exact c9h _ _ _ (Nat.le_refl _)
 ·have hne:(s.drop i).drop (a0j false (s.drop i))≠[]:=by rw[h3,List.drop_zero];intro e;have:=congrArg List.length e;simp at this;omega
  rw[b3i i hne (by rw[h3,List.drop_zero];exact he),e0z]at h5
  simp only[h3,List.drop_zero,Nat.add_zero,Nat.zero_add,List.drop_drop]at h5
  rw[d7g,List.drop_drop]at h5
  exact h5
theorem Head.err {s:List UInt8} {i:Nat} {out:List TokQ} (h:Head s i out) (hlt:i < s.length) (he:(a1k szL (s.drop i)).e≠0):toks 0 s=([],⟨(a1k szL (s.drop i)).e,i,i+(a1k szL (s.drop i)).n⟩):=by
 obtain⟨h1,h2,h3,h4,h5⟩:=h
 have hne:(s.drop i).drop (a0j false (s.drop i))≠[]:=by rw[h3,List.drop_zero];intro e;have:=congrArg List.length e;simp at this;omega
 rw[<-h5,b1l i hne (by rw[h3,List.drop_zero];exact he),h3]
 simp only[List.drop_zero,Nat.add_zero]
 unfold after
 rw[if_neg he]
theorem Head.fin {s:List UInt8} {i:Nat} {out:List TokQ} (h:Head s i out) (hlt:¬ i < s.length):toks 0 s=(out++[⟨5,[],0,s.length,s.length⟩],Dg.ok):=by
 obtain⟨h1,h2,h3,h4,h5⟩:=h
 have hd:s.drop i=[]:=List.drop_eq_nil_of_le om
 rw[<-h5,hd,a3u i (by simp)]
 have:i=s.length:=om
 subst this
 simp[after,Dg.ok]
theorem g2t {s:List UInt8} (h:s≠[]) (hv:Val s):szL s≠0:=((c6b h).1 hv).1
def dg0:Ob:= .box [.d (.int .i64 0),.d (.int .i64 0),.d (.int .i64 0)]
set_option maxHeartbeats 1000000 in
theorem d5e (s:List UInt8) (hs:s.length<=maxLen):evF (pgL fx F) d6l [str s] H=some (a7b (a0k s),H):=by
 refine a4n (d5g (F:=F)) rfl rfl ?_ H
 refine And.intro (fun h=>?_) (fun h=>?_)
 ·replace h:=of_decide_eq_true h
  show _=_
  unfold a0k
  rw[if_pos om];rfl
 replace h:=of_decide_eq_false h
 have hm:s.length<=65536:=om
 have hL:a0k s=if 0<=strange 0 s then([],⟨110,(strange 0 s).toNat,(strange 0 s).toNat+1⟩) else toks 0 s:=by unfold a0k;rw[if_neg om]
 have hg:=b6u _ s 0 (Nat.le_refl _)
 refine Exists.intro _ (Exists.intro _ (And.intro (g9m _ _) ?_))
 refine And.intro (fun h2=>?_) (fun h2=>?_)
 ·replace h2:=of_decide_eq_true h2
  show _=_
  rw[hL,if_pos om,a3z om]
  simp only[oneOf,a7b,dgD,List.map_nil,Int.natCast_add,Int.toNat_of_nonneg h2];rfl
 replace h2:=of_decide_eq_false h2
 rw[if_neg om]at hL
 have hv:Val s:=by unfold Val;omega
 refine Exists.intro _ (Exists.intro _ (And.intro (f1z _ _ hs 0 om) ?_))
 rw[hL]
 simp only[List.drop_zero,Nat.zero_add]
 refine wp_loop (α:=Nat×List TokQ) (fun p=>s.length - p.1) (fun p=>[(0,str s),(3,.ptr 0 0),(5,.row 1 p.2.length),(6,i64 p.1)]) (fun p=>[dg0,.row 5 (p.2.map TokQ.D)]) (fun p=>Head s p.1 p.2) ?_ (a0j false s,[]) (Head.start hv)
 rintro⟨i,out⟩ hh
 have hle:=hh.le
 have hol:=hh.ol
 simp only at hh hle hol
 refine And.intro (fun hl=>?_) (fun hl=>?_)
 ·replace hl:=of_decide_eq_true hl
  have hlt:i < s.length:=om
  have hne:s.drop i≠[]:=by intro e;have:=congrArg List.length e;simp at this;omega
  refine And.intro om ?_
  refine And.intro ⟨om,om⟩ ?_
  have hn:=hh.next hlt
  have hx:=hh.err hlt
  have ht:a1k wD (s.drop i)=a1k szL (s.drop i):=h7a _ (i1f _ hne (g2t hne hh.val))
  have hk:(a1k szL (s.drop i)).e=0->1<=(a1k szL (s.drop i)).n/\(a1k szL (s.drop i)).n<=s.length - i:=fun e=>by
    obtain⟨k1,k2,_⟩:=b8q e
    rw[List.length_drop]at k2
    exact⟨k1,k2⟩
  have hnb:(a1k szL (s.drop i)).n<=s.length - i:=by
   have h1:=b2a (s.drop i)
   have h2:=c7k (s.drop i)
   rw[List.length_drop]at h1 h2
   by_cases e:(a1k szL (s.drop i)).e=0
   ·exact(hk e).2
   ·unfold a1k at e⊢
    repeat' split
    all_goals simp_all
    all_goals omega
  have tev:∀ H:Hp,evF (pgL fx F) c8q [str (List.drop (Int.toNat (i:Int)) (List.take s.length s))] H=some (.tup [.d (tkD (a1k szL (s.drop i)).k (a1k szL (s.drop i)).t (a1k szL (s.drop i)).v 0 0),i64 (a1k szL (s.drop i)).n,i64 (a1k szL (s.drop i)).e],H):=by
   intro H
   rw[c4h,f9f _ _ (by rw[List.length_drop];omega)]
   unfold f9m
   rw[ht]
  generalize a1k szL (s.drop i)=T at*
  refine Exists.intro _ (Exists.intro _ (And.intro (tev _) ?_))
  refine And.intro (fun h3=>?_) (fun h3=>?_)
  ·have he:T.e≠0:=by simpa using h3
   show _=_
   rw[hx he,a3z om]
   simp only[oneOf,a7b,dgD,List.map_nil,Int.natCast_add]
   try rfl
  ·have he:T.e=0:=by simpa using h3
   obtain⟨k1,k2⟩:=hk he
   have hn:=hn he
   have hsl:=a2o false (s.drop (i+T.n))
   rw[List.length_drop]at hsl
   refine And.intro ⟨rfl,by decide⟩ ?_
   refine And.intro ⟨rfl,by simp,⟨by simp;omega,by simp;omega⟩⟩ ?_
   have hw:IntKind.i64.wrap ((i:Int)+(T.n:Int))=((i+T.n:Nat):Int):=by rw[a3z om];omega
   refine Exists.intro _ (Exists.intro _ (And.intro (Eq.trans (congrArg (fun z=>evF (pgL fx F) c9z [str s,i64 z] _) hw) (f1z _ s hs (i+T.n) om)) ?_))
   refine⟨(_,_),hn,by simp only;omega,?_,?_⟩
   ·simp
   ·simp[TokQ.D,tkD,dg0,hw]
 ·replace hl:=of_decide_eq_false hl
  have hf:=hh.fin om
  refine And.intro ⟨rfl,by decide⟩ ?_
  refine And.intro ⟨rfl,by simp,⟨by simp;omega,by simp;omega⟩⟩ ?_
  refine And.intro (by simp) ?_
  show _=_
  rw[hf]
  simp[oneOf,a7b,dgD,TokQ.D,tkD,Dg.ok]
end
end Go.Vm.Lex
namespace Go.Vm.Lex
open Go.Vm.Ite
section
variable {fx:Nat->Option Obj} {F:Nat->Option a0v} [HL F] (H:Hp)
set_option maxHeartbeats 2000000 in
theorem e5e (s:List UInt8) (hs:s.length<=maxLen):evF (pgL fx F) c9q [str s] H=some (a7b (a0k s),H):=by
 refine a4n (c9m (F:=F)) rfl rfl ?_ H
 refine And.intro (fun h=>?_) (fun h=>?_)
 ·replace h:=of_decide_eq_true h
  refine Exists.intro _ (Exists.intro _ (And.intro (c0e _ 2 0 0) ?_))
  show _=_
  unfold a0k
  rw[if_pos om];rfl
 replace h:=of_decide_eq_false h
 have hm:s.length<=65536:=om
 have hs2:s.length<=4611686018427387904:=om
 have hL:a0k s=if 0<=strange 0 s then([],⟨110,(strange 0 s).toNat,(strange 0 s).toNat+1⟩) else toks 0 s:=by unfold a0k;rw[if_neg om]
 have hg:=b6u _ s 0 (Nat.le_refl _)
 refine Exists.intro _ (Exists.intro _ (And.intro (e4p _ _ hs2) ?_))
 refine And.intro (fun h2=>?_) (fun h2=>?_)
 ·replace h2:=of_decide_eq_true h2
  refine Exists.intro _ (Exists.intro _ (And.intro (c0e _ _ _ _) ?_))
  show _=_
  rw[hL,if_pos om,a3z om]
  simp only[oneOf,a7b,dgD,List.map_nil,Int.natCast_add,Int.toNat_of_nonneg h2];rfl
 replace h2:=of_decide_eq_false h2
 rw[if_neg om]at hL
 have hv:Val s:=by unfold Val;omega
 refine Exists.intro _ (Exists.intro _ (And.intro (e2s _ _ hs 0 om) ?_))
 rw[hL]
 simp only[List.drop_zero,Nat.zero_add]
 refine wp_loop (α:=Nat×List TokQ) (fun p=>s.length - p.1) (fun p=>[(0,str s),(3,.ptr 0 0),(5,.row 1 p.2.length),(6,i64 p.1)]) (fun p=>[dg0,.row 5 (p.2.map TokQ.D)]) (fun p=>Head s p.1 p.2) ?_ (a0j false s,[]) (Head.start hv)
 rintro⟨i,out⟩ hh
 have hle:=hh.le
 have hol:=hh.ol
 simp only at hh hle hol
 refine And.intro (fun hl=>?_) (fun hl=>?_)
 ·replace hl:=of_decide_eq_true hl
  have hlt:i < s.length:=om
  have hd:s.drop i=s[i]::s.drop (i+1):=List.drop_eq_getElem_cons hlt
  have hne:s.drop i≠[]:=by rw[hd];exact List.cons_ne_nil _ _
  have hh0:hd0 (s.drop i)=s[i]:=by rw[hd];rfl
  have hn:=hh.next hlt
  have hx:=hh.err hlt
  have hk:(a1k szL (s.drop i)).e=0->1<=(a1k szL (s.drop i)).n/\(a1k szL (s.drop i)).n<=s.length - i:=fun e=>by
    obtain⟨k1,k2,_⟩:=b8q e
    rw[List.length_drop]at k2
    exact⟨k1,k2⟩
  have hR0:0 < a2q (s.drop i)↔c4c s[i]=true:=by
   rw[hd,c8i]
   cases c4c s[i]<;>simp
  have hR1:s[i]=95->((s.drop i).take (a2q (s.drop i))=[95]↔a2q (s.drop i)=1):=by
   intro e
   have hpos:0 < a2q (s.drop i):=hR0.2 (by rw[e];rfl)
   constructor
   ·intro h1
    have h2:min (a2q (s.drop i)) (s.drop i).length=1:=by rw[<-List.length_take,h1];rfl
    have h3:=b2a (s.drop i)
    omega
   ·intro h1;rw[h1,hd,e];rfl
  have hR2:s[i]≠95->(s.drop i).take (a2q (s.drop i))≠[95]:=by
   intro e h1
   cases hr:a2q (s.drop i)with
   |zero=>rw[hr]at h1;simp at h1
   |succ n=>rw[hr,hd,List.take_succ_cons]at h1;injection h1 with h1 _;exact e h1
  have hrl:=b2a (s.drop i)
  have hszl:=c7k (s.drop i)
  rw[List.length_drop]at hrl hszl
  have bl:∀ (n:Nat),n<=s.length - i->∀ (z:Int),z=((i+n:Nat):Int)->∀ H:Hp,evF (pgL fx F) c1g [str s,i64 z] H=some (i64 ((i+n+a0j false (s.drop (i+n)):Nat)),H):=by
   intro n hn z hz H
   rw[hz];exact e2s _ _ hs _ om
  have ew1:IntKind.i64.wrap ((i:Int)+1)=(i:Int)+1:=a3z om
  generalize hR:a2q (s.drop i)=R at*
  refine a9g hlt ?_
  -- is it '_' alone?
  have hal:(decide ((s[i].toNat:Int)=95) && decide (((i+R:Nat):Int)=IntKind.i64.wrap ((i:Int)+1)))=decide (s[i]=95/\R=1):=by
   rw[ew1,<-Bool.decide_and]
   simp only[decide_eq_decide,g0a]
   constructor
   ·rintro⟨h1,h2⟩;exact⟨by show s[i].toNat=95;omega,om⟩
   ·rintro⟨h1,h2⟩;have h3:s[i].toNat=95:=h1;exact⟨om,om⟩
  have tail:∀ al:Bool,al=decide (s[i]=95/\R=1)->True:=fun _ _=>trivial
  clear tail
  refine And.intro (fun ha=>?_) (fun ha=>?_)
  ·refine Exists.intro _ (Exists.intro _ (And.intro (d7y _ _ i om hs) ?_))
   rw[hR]
   refine a9g hlt ?_
   refine Exists.intro _ (Exists.intro _ (And.intro (c1p _ _) ?_))
   refine And.intro (fun h4=>?_) (fun h4=>?_)
   ·have hpos:0 < R:=hR0.2 (by unfold c4c;rw[h4,Bool.or_true])
    have hbr:0 < R/\isD (hd0 (s.drop i))=true:=⟨hpos,by rw[hh0];exact h4⟩
    have hnum:=fun H:Hp=>c8o (fx:=fx) (F:=F) H s hs i om
    unfold e4m at hnum
    rw[hR]at hnum
    cases hb:c0i ((s.drop i).take R)with
    |true=>
     simp only[hb,if_true]at hnum
     have hT:a1k szL (s.drop i)=⟨3,(s.drop i).take R,b9q ((s.drop i).take R),R,0⟩:=by
      unfold a1k;rw[hR,if_pos hbr,if_pos hb]
     refine Exists.intro _ (Exists.intro _ (And.intro (hnum _) ?_))
     refine a1x rfl ?_
     have hn:=hn (by rw[hT])
     rw[hT]at hn
     have hk:=hk (by rw[hT])
     rw[hT]at hk
     simp only at hn hk
     have hsl:=a2o false (s.drop (i+R))
     rw[List.length_drop]at hsl
     refine And.intro ⟨rfl,by decide⟩ ?_
     refine And.intro ⟨rfl,by simp,⟨by simp;omega,by simp;omega⟩⟩ ?_
     refine Exists.intro _ (Exists.intro _ (And.intro (bl R om _ rfl _) ?_))
     refine⟨(_,_),hn,by simp only;omega,?_,?_⟩
     ·simp
     ·simp[TokQ.D,tkD,dg0]
    |false=>
     simp only[hb,if_false,Bool.false_eq_true]at hnum
     have hT:a1k szL (s.drop i)=⟨0,[],0,R,112⟩:=by
      unfold a1k;rw[hR,if_pos hbr,if_neg (by rw[hb];simp)]
     refine Exists.intro _ (Exists.intro _ (And.intro (hnum _) ?_))
     refine a1r rfl ?_
     show _=_
     rw[hx (by rw[hT];simp),hT]
     simp only[oneOf,a7b,dgD,List.map_nil,Int.natCast_add]
     try rfl
   ·refine a9g hlt ?_
    refine Exists.intro _ (Exists.intro _ (And.intro (c4l _ _) ?_))
    have h95:s[i]=95:=by rw[g0a];show s[i].toNat=95;have:=of_decide_eq_true ha;omega
    have hLt:isL s[i]=true:=by rw[h95];rfl
    rw[hLt]
    refine And.intro (fun _=>?_) (fun e=>by cases e)
    by_cases hR1':R=1
    ·have hnm:¬ (0 < R/\(s.drop i).take R≠[95]):=fun e=>e.2 ((hR1 h95).2 hR1')
     refine a1x (by simp[ew1,hR1']) ?_
     have hnb:¬ (0 < R/\isD (hd0 (s.drop i))=true):=by rw[hh0,h4];simp
     refine Exists.intro _ (Exists.intro _ (And.intro (c6i _ s i hlt om) ?_))
     by_cases hsg:a2x (s.drop i)=[]
     ·have hT:a1k szL (s.drop i)=⟨0,[],0,szL (s.drop i),111⟩:=by
       unfold a1k;rw[hR,if_neg hnb,if_neg hnm,if_neg (fun e=>e hsg)]
      refine a1x (by simp[hsg]) ?_
      refine Exists.intro _ (Exists.intro _ (And.intro (d8x _ s hs2 i hlt) ?_))
      refine Exists.intro _ (Exists.intro _ (And.intro (c0e _ 111 _ _) ?_))
      rw[show IntKind.i64.wrap ((i:Int)+(szL (s.drop i):Int))=((i+szL (s.drop i):Nat):Int)by rw[a3z om];omega]
      refine a1r rfl ?_
      show _=_
      rw[hx (by rw[hT];simp),hT]
      simp only[oneOf,a7b,dgD,List.map_nil,Int.natCast_add]
      try rfl
     ·have hT:a1k szL (s.drop i)=⟨4,a2x (s.drop i),0,(a2x (s.drop i)).length,0⟩:=by
       unfold a1k;rw[hR,if_neg hnb,if_neg hnm,if_pos hsg]
      have hsl2:(a2x (s.drop i)).length<=s.length - i:=by have:=hk (by rw[hT]);rw[hT]at this;exact this.2
      refine a1r (by simp[hsg]) ?_
      refine Exists.intro _ (Exists.intro _ (And.intro (c6i _ s i hlt om) ?_))
      have ews:IntKind.i64.wrap ((i:Int)+((a2x (s.drop i)).length:Int))=((i+(a2x (s.drop i)).length:Nat):Int):=by rw[a3z om];omega
      refine a1x rfl ?_
      have hn:=hn (by rw[hT])
      rw[hT]at hn
      have hk:=hk (by rw[hT])
      rw[hT]at hk
      simp only at hn hk
      have hsl:=a2o false (s.drop (i+(a2x (s.drop i)).length))
      rw[List.length_drop]at hsl
      refine And.intro ⟨rfl,by decide⟩ ?_
      refine And.intro ⟨rfl,by simp,⟨by simp;omega,by simp;omega⟩⟩ ?_
      refine Exists.intro _ (Exists.intro _ (And.intro (bl (a2x (s.drop i)).length hsl2 _ ews _) ?_))
      refine⟨(_,_),hn,by simp only;omega,?_,?_⟩
      ·simp
      ·simp[TokQ.D,tkD,dg0,ews]
    ·have hnm:0 < R/\(s.drop i).take R≠[95]:=⟨hR0.2 (by rw[h95];rfl),fun e=>hR1' ((hR1 h95).1 e)⟩
     refine a1r (by simp[ew1];omega) ?_
     have hnb:¬ (0 < R/\isD (hd0 (s.drop i))=true):=by rw[hh0,h4];simp
     have hnam:=fun H:Hp=>e1f (fx:=fx) (F:=F) H s hs i om
     unfold h7c at hnam
     rw[hR]at hnam
     by_cases h64:64 < R
     ·simp only[h64,if_true]at hnam
      have hT:a1k szL (s.drop i)=⟨0,[],0,R,2⟩:=by
       unfold a1k;rw[hR,if_neg hnb,if_pos hnm,if_pos h64]
      refine Exists.intro _ (Exists.intro _ (And.intro (hnam _) ?_))
      refine a1r rfl ?_
      show _=_
      rw[hx (by rw[hT];simp),hT]
      simp only[oneOf,a7b,dgD,List.map_nil,Int.natCast_add]
      try rfl
     ·simp only[h64,if_false]at hnam
      have hT:a1k szL (s.drop i)=⟨if b9w ((s.drop i).take R) then 2 else 1,(s.drop i).take R,0,R,0⟩:=by
       unfold a1k;rw[hR,if_neg hnb,if_pos hnm,if_neg h64]
      refine Exists.intro _ (Exists.intro _ (And.intro (hnam _) ?_))
      refine a1x rfl ?_
      have hn:=hn (by rw[hT])
      rw[hT]at hn
      have hk:=hk (by rw[hT])
      rw[hT]at hk
      simp only at hn hk
      have hsl:=a2o false (s.drop (i+R))
      rw[List.length_drop]at hsl
      refine And.intro ⟨rfl,by decide⟩ ?_
      refine And.intro ⟨rfl,by simp,⟨by simp;omega,by simp;omega⟩⟩ ?_
      refine Exists.intro _ (Exists.intro _ (And.intro (bl R om _ rfl _) ?_))
      refine⟨(_,_),hn,by simp only;omega,?_,?_⟩
      ·simp
      ·simp[TokQ.D,tkD,dg0]
  ·refine a9g hlt ?_
   refine Exists.intro _ (Exists.intro _ (And.intro (c1p _ _) ?_))
   refine And.intro (fun h4=>?_) (fun h4=>?_)
   ·have hpos:0 < R:=hR0.2 (by unfold c4c;rw[h4,Bool.or_true])
    have hbr:0 < R/\isD (hd0 (s.drop i))=true:=⟨hpos,by rw[hh0];exact h4⟩
    have hnum:=fun H:Hp=>c8o (fx:=fx) (F:=F) H s hs i om
    unfold e4m at hnum
    rw[hR]at hnum
    cases hb:c0i ((s.drop i).take R)with
    |true=>
     simp only[hb,if_true]at hnum
     have hT:a1k szL (s.drop i)=⟨3,(s.drop i).take R,b9q ((s.drop i).take R),R,0⟩:=by
      unfold a1k;rw[hR,if_pos hbr,if_pos hb]
     refine Exists.intro _ (Exists.intro _ (And.intro (hnum _) ?_))
     refine a1x rfl ?_
     have hn:=hn (by rw[hT])
     rw[hT]at hn
     have hk:=hk (by rw[hT])
     rw[hT]at hk
     simp only at hn hk
     have hsl:=a2o false (s.drop (i+R))
     rw[List.length_drop]at hsl
     refine And.intro ⟨rfl,by decide⟩ ?_
     refine And.intro ⟨rfl,by simp,⟨by simp;omega,by simp;omega⟩⟩ ?_
     refine Exists.intro _ (Exists.intro _ (And.intro (bl R om _ rfl _) ?_))
     refine⟨(_,_),hn,by simp only;omega,?_,?_⟩
     ·simp
     ·simp[TokQ.D,tkD,dg0]
    |false=>
     simp only[hb,if_false,Bool.false_eq_true]at hnum
     have hT:a1k szL (s.drop i)=⟨0,[],0,R,112⟩:=by
      unfold a1k;rw[hR,if_pos hbr,if_neg (by rw[hb];simp)]
     refine Exists.intro _ (Exists.intro _ (And.intro (hnum _) ?_))
     refine a1r rfl ?_
     show _=_
     rw[hx (by rw[hT];simp),hT]
     simp only[oneOf,a7b,dgD,List.map_nil,Int.natCast_add]
     try rfl
   ·refine a9g hlt ?_
    refine Exists.intro _ (Exists.intro _ (And.intro (c4l _ _) ?_))
    have h95:s[i]≠95:=by rw[ne_eq,g0a];show ¬ s[i].toNat=95;have:=of_decide_eq_false ha;omega
    cases hLt:isL s[i] with
    |true=>
     have hnm:0 < R/\(s.drop i).take R≠[95]:=⟨hR0.2 (by unfold c4c;rw[hLt,Bool.true_or]),hR2 h95⟩
     repeat' (first|refine a1r rfl ?_|refine And.intro (fun _=>?_) (fun e=>by cases e))
     have hnb:¬ (0 < R/\isD (hd0 (s.drop i))=true):=by rw[hh0,h4];simp
     have hnam:=fun H:Hp=>e1f (fx:=fx) (F:=F) H s hs i om
     unfold h7c at hnam
     rw[hR]at hnam
     by_cases h64:64 < R
     ·simp only[h64,if_true]at hnam
      have hT:a1k szL (s.drop i)=⟨0,[],0,R,2⟩:=by
       unfold a1k;rw[hR,if_neg hnb,if_pos hnm,if_pos h64]
      refine Exists.intro _ (Exists.intro _ (And.intro (hnam _) ?_))
      refine a1r rfl ?_
      show _=_
      rw[hx (by rw[hT];simp),hT]
      simp only[oneOf,a7b,dgD,List.map_nil,Int.natCast_add]
      try rfl
     ·simp only[h64,if_false]at hnam
      have hT:a1k szL (s.drop i)=⟨if b9w ((s.drop i).take R) then 2 else 1,(s.drop i).take R,0,R,0⟩:=by
       unfold a1k;rw[hR,if_neg hnb,if_pos hnm,if_neg h64]
      refine Exists.intro _ (Exists.intro _ (And.intro (hnam _) ?_))
      refine a1x rfl ?_
      have hn:=hn (by rw[hT])
      rw[hT]at hn
      have hk:=hk (by rw[hT])
      rw[hT]at hk
      simp only at hn hk
      have hsl:=a2o false (s.drop (i+R))
      rw[List.length_drop]at hsl
      refine And.intro ⟨rfl,by decide⟩ ?_
      refine And.intro ⟨rfl,by simp,⟨by simp;omega,by simp;omega⟩⟩ ?_
      refine Exists.intro _ (Exists.intro _ (And.intro (bl R om _ rfl _) ?_))
      refine⟨(_,_),hn,by simp only;omega,?_,?_⟩
      ·simp
      ·simp[TokQ.D,tkD,dg0]
    |false=>
     have hnm:¬ (0 < R/\(s.drop i).take R≠[95]):=fun e=>by
       have:=hR0.1 e.1
       unfold c4c at this;rw[hLt,h4]at this;cases this
     repeat' (first|refine a1x rfl ?_|refine And.intro (fun e=>by cases e) (fun _=>?_))
     have hnb:¬ (0 < R/\isD (hd0 (s.drop i))=true):=by rw[hh0,h4];simp
     refine Exists.intro _ (Exists.intro _ (And.intro (c6i _ s i hlt om) ?_))
     by_cases hsg:a2x (s.drop i)=[]
     ·have hT:a1k szL (s.drop i)=⟨0,[],0,szL (s.drop i),111⟩:=by
       unfold a1k;rw[hR,if_neg hnb,if_neg hnm,if_neg (fun e=>e hsg)]
      refine a1x (by simp[hsg]) ?_
      refine Exists.intro _ (Exists.intro _ (And.intro (d8x _ s hs2 i hlt) ?_))
      refine Exists.intro _ (Exists.intro _ (And.intro (c0e _ 111 _ _) ?_))
      rw[show IntKind.i64.wrap ((i:Int)+(szL (s.drop i):Int))=((i+szL (s.drop i):Nat):Int)by rw[a3z om];omega]
      refine a1r rfl ?_
      show _=_
      rw[hx (by rw[hT];simp),hT]
      simp only[oneOf,a7b,dgD,List.map_nil,Int.natCast_add]
      try rfl
     ·have hT:a1k szL (s.drop i)=⟨4,a2x (s.drop i),0,(a2x (s.drop i)).length,0⟩:=by
       unfold a1k;rw[hR,if_neg hnb,if_neg hnm,if_pos hsg]
      have hsl2:(a2x (s.drop i)).length<=s.length - i:=by have:=hk (by rw[hT]);rw[hT]at this;exact this.2
      refine a1r (by simp[hsg]) ?_
      refine Exists.intro _ (Exists.intro _ (And.intro (c6i _ s i hlt om) ?_))
      have ews:IntKind.i64.wrap ((i:Int)+((a2x (s.drop i)).length:Int))=((i+(a2x (s.drop i)).length:Nat):Int):=by rw[a3z om];omega
      refine a1x rfl ?_
      have hn:=hn (by rw[hT])
      rw[hT]at hn
      have hk:=hk (by rw[hT])
      rw[hT]at hk
      simp only at hn hk
      have hsl:=a2o false (s.drop (i+(a2x (s.drop i)).length))
      rw[List.length_drop]at hsl
      refine And.intro ⟨rfl,by decide⟩ ?_
      refine And.intro ⟨rfl,by simp,⟨by simp;omega,by simp;omega⟩⟩ ?_
      refine Exists.intro _ (Exists.intro _ (And.intro (bl (a2x (s.drop i)).length hsl2 _ ews _) ?_))
      refine⟨(_,_),hn,by simp only;omega,?_,?_⟩
      ·simp
      ·simp[TokQ.D,tkD,dg0,ews]
 ·replace hl:=of_decide_eq_false hl
  have hf:=hh.fin om
  refine And.intro ⟨rfl,by decide⟩ ?_
  refine And.intro ⟨rfl,by simp,⟨by simp;omega,by simp;omega⟩⟩ ?_
  refine And.intro (by simp) ?_
  show _=_
  rw[hf]
  simp[oneOf,a7b,dgD,TokQ.D,tkD,Dg.ok]
end
end Go.Vm.Lex
namespace Go.Proofs
open Go.Shelf
def Tryz.d8c:Go.Shelf.Ren:=⟨fun|137=>100|217=>121|266=>131|n=>n,fun|9=>9|5=>5|3=>3|n=>n,fun|n=>n⟩
theorem Tryz.g3b:Go.Proofs.Lays.n137 Tryz.prog Tryz.d8c:={
  mixed:=kr
  f137:=Tryz.func100.trans (congrArg some kr)
  f217:=Tryz.func121.trans (congrArg some kr)
  f266:=Tryz.func131.trans (congrArg some kr)
  t3:=Tryz.underlying3
  a3:=Tryz.isAgg3
  z3:=Tryz.sizeOf3
  v3:=Tryz.zeroValue3
  t5:=Tryz.underlying5
  a5:=Tryz.isAgg5
  z5:=Tryz.sizeOf5
  v5:=Tryz.zeroValue5
  t9:=Tryz.underlying9
  a9:=Tryz.isAgg9
  z9:=Tryz.sizeOf9
  v9:=Tryz.zeroValue9 }
open Go.RowKit in
theorem Tryz.strings_IndexByte (s:ByteArray) (c:Int) (w:World):
 Calls Tryz.prog 100 #[.string s,.int .u8 c] w fun e w'=>e= .returned (.int .i64 (Lib.indexByte s.data.toList c.toNat.toUInt8))/\w'=w:=Any.strings_IndexByte Tryz.g3b s c w
def Tryz.d4v:Go.Shelf.Ren:=⟨fun|14=>124|16=>132|17=>133|19=>141|20=>142|21=>143|22=>144|23=>145|24=>146|25=>157|27=>159|26=>158|28=>164|29=>168|30=>169|31=>170|32=>171|33=>172|35=>174|34=>173|36=>175|37=>176|38=>177|39=>178|40=>179|n=>n,fun|9=>9|3=>3|22=>109|24=>67|25=>141|4=>4|34=>149|5=>5|36=>144|37=>80|0=>0|39=>151|21=>21|44=>155|47=>159|50=>162|48=>160|2=>2|52=>165|55=>168|59=>170|60=>171|20=>20|61=>172|65=>176|66=>177|67=>113|n=>n,fun|0=>4|1=>5|2=>6|3=>7|4=>8|n=>n⟩
theorem Tryz.d3h:Go.Proofs.LaysPu.n14 Tryz.prog Tryz.d4v:={
  mixed:=kr
  f14:=Tryz.func124.trans (congrArg some kr)
  f16:=Tryz.func132.trans (congrArg some kr)
  f17:=Tryz.func133.trans (congrArg some kr)
  f19:=Tryz.func141.trans (congrArg some kr)
  f20:=Tryz.func142.trans (congrArg some kr)
  f21:=Tryz.func143.trans (congrArg some kr)
  f22:=Tryz.func144.trans (congrArg some kr)
  f23:=Tryz.func145.trans (congrArg some kr)
  f24:=Tryz.func146.trans (congrArg some kr)
  f25:=Tryz.func157.trans (congrArg some kr)
  f26:=Tryz.func158.trans (congrArg some kr)
  f27:=Tryz.func159.trans (congrArg some kr)
  f28:=Tryz.func164.trans (congrArg some kr)
  f29:=Tryz.func168.trans (congrArg some kr)
  f30:=Tryz.func169.trans (congrArg some kr)
  f31:=Tryz.func170.trans (congrArg some kr)
  f32:=Tryz.func171.trans (congrArg some kr)
  f33:=Tryz.func172.trans (congrArg some kr)
  f34:=Tryz.func173.trans (congrArg some kr)
  f35:=Tryz.func174.trans (congrArg some kr)
  f36:=Tryz.func175.trans (congrArg some kr)
  f37:=Tryz.func176.trans (congrArg some kr)
  f38:=Tryz.func177.trans (congrArg some kr)
  f39:=Tryz.func178.trans (congrArg some kr)
  f40:=Tryz.func179.trans (congrArg some kr)
  t0:=Tryz.underlying0
  a0:=Tryz.isAgg0
  z0:=Tryz.sizeOf0
  v0:=Tryz.zeroValue0
  i0:=kr
  t2:=Tryz.underlying2
  a2:=Tryz.isAgg2
  z2:=Tryz.sizeOf2
  v2:=Tryz.zeroValue2
  i2:=kr
  t3:=Tryz.underlying3
  a3:=Tryz.isAgg3
  z3:=Tryz.sizeOf3
  v3:=Tryz.zeroValue3
  i3:=kr
  t4:=Tryz.underlying4
  a4:=Tryz.isAgg4
  z4:=Tryz.sizeOf4
  v4:=Tryz.zeroValue4
  i4:=kr
  t5:=Tryz.underlying5
  a5:=Tryz.isAgg5
  z5:=Tryz.sizeOf5
  v5:=Tryz.zeroValue5
  i5:=kr
  t9:=Tryz.underlying9
  a9:=Tryz.isAgg9
  z9:=Tryz.sizeOf9
  v9:=Tryz.zeroValue9
  i9:=kr
  t20:=Tryz.underlying20
  a20:=Tryz.isAgg20
  z20:=Tryz.sizeOf20
  v20:=Tryz.zeroValue20
  i20:=kr
  t21:=Tryz.underlying21
  a21:=Tryz.isAgg21
  z21:=Tryz.sizeOf21
  v21:=Tryz.zeroValue21
  i21:=kr
  t22:=Tryz.underlying109
  a22:=Tryz.isAgg109
  z22:=Tryz.sizeOf109
  v22:=Tryz.zeroValue109
  i22:=kr
  t24:=Tryz.underlying67
  a24:=Tryz.isAgg67
  z24:=Tryz.sizeOf67
  v24:=Tryz.zeroValue67
  i24:=kr
  t25:=Tryz.underlying141
  a25:=Tryz.isAgg141
  z25:=Tryz.sizeOf141
  v25:=Tryz.zeroValue141
  i25:=kr
  t34:=Tryz.underlying149
  a34:=Tryz.isAgg149
  z34:=Tryz.sizeOf149
  v34:=Tryz.zeroValue149
  i34:=kr
  c34:=kr
  t36:=Tryz.underlying144
  a36:=Tryz.isAgg144
  z36:=Tryz.sizeOf144
  v36:=Tryz.zeroValue144
  i36:=kr
  t37:=Tryz.underlying80
  a37:=Tryz.isAgg80
  z37:=Tryz.sizeOf80
  v37:=Tryz.zeroValue80
  i37:=kr
  t39:=Tryz.underlying151
  a39:=Tryz.isAgg151
  z39:=Tryz.sizeOf151
  v39:=Tryz.zeroValue151
  i39:=kr
  t44:=Tryz.underlying155
  a44:=Tryz.isAgg155
  z44:=Tryz.sizeOf155
  v44:=Tryz.zeroValue155
  i44:=kr
  t47:=Tryz.underlying159
  a47:=Tryz.isAgg159
  z47:=Tryz.sizeOf159
  v47:=Tryz.zeroValue159
  i47:=kr
  t48:=Tryz.underlying160
  a48:=Tryz.isAgg160
  z48:=Tryz.sizeOf160
  v48:=Tryz.zeroValue160
  i48:=kr
  t50:=Tryz.underlying162
  a50:=Tryz.isAgg162
  z50:=Tryz.sizeOf162
  v50:=Tryz.zeroValue162
  i50:=kr
  t52:=Tryz.underlying165
  a52:=Tryz.isAgg165
  z52:=Tryz.sizeOf165
  v52:=Tryz.zeroValue165
  i52:=kr
  t55:=Tryz.underlying168
  a55:=Tryz.isAgg168
  z55:=Tryz.sizeOf168
  v55:=Tryz.zeroValue168
  i55:=kr
  t59:=Tryz.underlying170
  a59:=Tryz.isAgg170
  z59:=Tryz.sizeOf170
  v59:=Tryz.zeroValue170
  i59:=kr
  t60:=Tryz.underlying171
  a60:=Tryz.isAgg171
  z60:=Tryz.sizeOf171
  v60:=Tryz.zeroValue171
  i60:=kr
  t61:=Tryz.underlying172
  a61:=Tryz.isAgg172
  z61:=Tryz.sizeOf172
  t65:=Tryz.underlying176
  a65:=Tryz.isAgg176
  z65:=Tryz.sizeOf176
  v65:=Tryz.zeroValue176
  i65:=kr
  t66:=Tryz.underlying177
  a66:=Tryz.isAgg177
  z66:=Tryz.sizeOf177
  v66:=Tryz.zeroValue177
  i66:=kr
  t67:=Tryz.underlying113
  a67:=Tryz.isAgg113
  z67:=Tryz.sizeOf113
  v67:=Tryz.zeroValue113
  i67:=kr
  g0:=kr
  m0:=kr
  g1:=kr
  m1:=kr
  g2:=kr
  m2:=kr
  g3:=kr
  m3:=kr
  g4:=kr
  m4:=kr }
open Go.RowKit in
theorem Tryz.strconv_ParseUint_10_at64_ok (s:ByteArray) (hmax:s.size<=9223372036854775806) (u:Nat) (h:Lib.parseUintB 64 s.data.toList= .ok u) (w:World):
 Calls Tryz.prog 124 #[.string s,.int .i64 10,.int .i64 64] w fun e w'=>e= .returned (.tuple #[.int .u64 u,.nilIface])/\(w'=w\/w'=Lib.bytesWorld w 5 s):=Any.strconv_ParseUint_10_at64_ok Tryz.d3h s hmax u h w
open Go.RowKit in
theorem Tryz.strconv_ParseUint_10_at64_range (s:ByteArray) (hlim:s.size<=281474976710656) (h:Lib.parseUintB 64 s.data.toList= .range) (ev:Value) (w:World) (hv:w.cell? ⟨5,0,none⟩=some ev) (hev:ev= .nilIface\/∃ te pe,ev= .iface te pe):
 Calls Tryz.prog 124 #[.string s,.int .i64 10,.int .i64 64] w fun e w'=> ∃ N,e= .returned (.tuple #[.int .u64 18446744073709551615,.iface 151 (.pointer (some ⟨N,0,none⟩))])/\w.heap.size<=N/\w'.heap[N]? =some (.cells #[.string ⟨#[80,97,114,115,101,85,105,110,116]⟩,.string s,ev] 155 (0,0))/\Below w.heap.size w w':=Any.strconv_ParseUint_10_at64_range Tryz.d3h s hlim h ev w hv hev
def Tryz.c7j:Go.Shelf.Ren:=⟨fun|197=>99|260=>120|n=>n,fun|9=>9|21=>21|3=>3|4=>4|5=>5|105=>114|119=>143|0=>0|46=>144|139=>147|138=>146|n=>n,fun|3=>1|4=>2|n=>n⟩
theorem Tryz.e8v:Go.Proofs.Lays.n197 Tryz.prog Tryz.c7j:={
  mixed:=kr
  f197:=Tryz.func99.trans (congrArg some kr)
  f260:=Tryz.func120.trans (congrArg some kr)
  t0:=Tryz.underlying0
  a0:=Tryz.isAgg0
  z0:=Tryz.sizeOf0
  v0:=Tryz.zeroValue0
  t3:=Tryz.underlying3
  a3:=Tryz.isAgg3
  z3:=Tryz.sizeOf3
  v3:=Tryz.zeroValue3
  t4:=Tryz.underlying4
  a4:=Tryz.isAgg4
  z4:=Tryz.sizeOf4
  v4:=Tryz.zeroValue4
  t5:=Tryz.underlying5
  a5:=Tryz.isAgg5
  z5:=Tryz.sizeOf5
  v5:=Tryz.zeroValue5
  t9:=Tryz.underlying9
  a9:=Tryz.isAgg9
  z9:=Tryz.sizeOf9
  v9:=Tryz.zeroValue9
  t21:=Tryz.underlying21
  a21:=Tryz.isAgg21
  z21:=Tryz.sizeOf21
  v21:=Tryz.zeroValue21
  t46:=Tryz.underlying144
  a46:=Tryz.isAgg144
  z46:=Tryz.sizeOf144
  v46:=Tryz.zeroValue144
  t105:=Tryz.underlying114
  a105:=Tryz.isAgg114
  z105:=Tryz.sizeOf114
  v105:=Tryz.zeroValue114
  t119:=Tryz.underlying143
  a119:=Tryz.isAgg143
  z119:=Tryz.sizeOf143
  t138:=Tryz.underlying146
  a138:=Tryz.isAgg146
  z138:=Tryz.sizeOf146
  v138:=Tryz.zeroValue146
  t139:=Tryz.underlying147
  a139:=Tryz.isAgg147
  z139:=Tryz.sizeOf147
  v139:=Tryz.zeroValue147
  g3:=kr
  g4:=kr }
open Go.RowKit Go.Lib in
theorem Tryz.utf8_DecodeRuneInString (s:ByteArray) (w:World) (hT:Lib.Utf8Tabs 1 2 w):
 Calls Tryz.prog 99 #[.string s] w fun e w'=>e= .returned (.tuple #[.int .i32 (Lib.decodeGo s).1,.int .i64 (Lib.decodeGo s).2])/\Below w.heap.size w w':=Any.utf8_DecodeRuneInString Tryz.e8v s w hT
end Go.Proofs
