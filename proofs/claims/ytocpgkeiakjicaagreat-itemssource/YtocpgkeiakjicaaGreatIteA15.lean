import Derived.Test.YtocpgkeiakjicaaGreatItlW8
import Derived.Test.YtocpgkeiakjicaaGreatIteA4
import Derived.Test.YtocpgkeiakjicaaGreatIteW9
set_option maxRecDepth 100000
set_option linter.unusedVariables false
set_option linter.unusedSimpArgs false
namespace Go.Vm.Lex
open Go.Vm.Ite
def TokQ.D (t:TokQ):D:=tkD t.k t.t t.v t.f t.e
def c6o (r:List TokQ×Dg):V:= .tup [.d (.sl (r.1.map TokQ.D)),.d (dgD r.2.c r.2.f r.2.e)]
section
variable {fx:Nat->Option Obj} {F:Nat->Option a0t} (H:Hp)
theorem e6h (s:List UInt8) (hs:s.length<=4611686018427387904):evF (pgL fx F) c5p [str s] H=some (i64 (strange 0 s),H):=by
 refine a1p (c5x (F:=F)) rfl rfl ?_ H
 refine wp_loop (α:=Nat) (fun i=>s.length - i) (fun i=>[(0,str s),(3,i64 i)]) (fun _=>[]) (fun i=>i<=s.length/\strange i (s.drop i)=strange 0 s) ?_ 0 ⟨om,by simp⟩
 rintro i ⟨hi,hr⟩
 refine And.intro (fun hl=>?_) (fun hl=>?_)
 ·replace hl:=of_decide_eq_true hl
  have hlt:i < s.length:=om
  have hne:s.drop i≠[]:=by intro e;have:=congrArg List.length e;simp at this;omega
  refine Exists.intro _ (Exists.intro _ (And.intro (d8d _ _ hs _ hlt) ?_))
  refine And.intro (fun h=>?_) (fun h=>?_)
  ·replace h:=of_decide_eq_true h
   rw[a9f i hne om]at hr
   show _=_
   rw[<-hr];rfl
  ·replace h:=of_decide_eq_false h
   rw[a7k i hne om,List.drop_drop]at hr
   have hle:=d4f (s.drop i)
   rw[List.length_drop]at hle
   refine⟨i+szL (s.drop i),⟨om,hr⟩,om,?_,rfl⟩
   rw[a0w om];rfl
 ·replace hl:=of_decide_eq_false hl
  rw[List.drop_eq_nil_of_le om,a4g]at hr
  show _=_
  rw[<-hr];rfl
structure Head (s:List UInt8) (i:Nat) (out:List TokQ):Prop where
 le:i<=s.length
 val:Val (s.drop i)
 sk:a0n false (s.drop i)=0
 ol:out.length<=i
 eq:after out (toks i (s.drop i))=toks 0 s
theorem Head.start {s:List UInt8} (h:Val s):Head s (a0n false s) []:=by
 refine⟨a2x _ _,d2b _ s (Nat.le_refl _) h,c4u _ _ _ (Nat.le_refl _),Nat.zero_le _,?_⟩
 rw[f1f _ (f5j _ _ _ (Nat.le_refl _))]
 have:=d5h 0 s
 rw[Nat.zero_add]at this
 exact this.symm
theorem Head.next {s:List UInt8} {i:Nat} {out:List TokQ} (h:Head s i out) (hlt:i < s.length) (he:(a3f szL (s.drop i)).e=0):
 Head s (i+(a3f szL (s.drop i)).n+a0n false (s.drop (i+(a3f szL (s.drop i)).n))) (out++[⟨(a3f szL (s.drop i)).k,(a3f szL (s.drop i)).t,(a3f szL (s.drop i)).v,i,i+(a3f szL (s.drop i)).n⟩]):=by
 obtain⟨h1,h2,h3,h4,h5⟩:=h
 obtain⟨k1,k2,k3,k4⟩:=c4e he
 rw[List.length_drop]at k2
 have hv:Val (s.drop (i+(a3f szL (s.drop i)).n)):=by rw[<-List.drop_drop];exact(d9k _ _ k4).1 h2
 have hsl:=a2x false (s.drop (i+(a3f szL (s.drop i)).n))
 rw[List.length_drop]at hsl
 refine⟨om,?_,?_,by simp;omega,?_⟩
 ·rw[<-List.drop_drop];exact d2b _ _ (Nat.le_refl _) hv
 ·rw[<-List.drop_drop];exact c4u _ _ _ (Nat.le_refl _)
 ·have hne:(s.drop i).drop (a0n false (s.drop i))≠[]:=by rw[h3,List.drop_zero];intro e;have:=congrArg List.length e;simp at this;omega
  rw[c0m i hne (by rw[h3,List.drop_zero];exact he),d9w]at h5
  simp only[h3,List.drop_zero,Nat.add_zero,Nat.zero_add,List.drop_drop]at h5
  rw[d5h,List.drop_drop]at h5
  exact h5
theorem Head.err {s:List UInt8} {i:Nat} {out:List TokQ} (h:Head s i out) (hlt:i < s.length) (he:(a3f szL (s.drop i)).e≠0):toks 0 s=([],⟨(a3f szL (s.drop i)).e,i,i+(a3f szL (s.drop i)).n⟩):=by
 obtain⟨h1,h2,h3,h4,h5⟩:=h
 have hne:(s.drop i).drop (a0n false (s.drop i))≠[]:=by rw[h3,List.drop_zero];intro e;have:=congrArg List.length e;simp at this;omega
 rw[<-h5,b5a i hne (by rw[h3,List.drop_zero];exact he),h3]
 simp only[List.drop_zero,Nat.add_zero]
 unfold after
 rw[if_neg he]
theorem Head.fin {s:List UInt8} {i:Nat} {out:List TokQ} (h:Head s i out) (hlt:¬ i < s.length):toks 0 s=(out++[⟨5,[],0,s.length,s.length⟩],Dg.ok):=by
 obtain⟨h1,h2,h3,h4,h5⟩:=h
 have hd:s.drop i=[]:=List.drop_eq_nil_of_le om
 rw[<-h5,hd,a7f i (by simp)]
 have:i=s.length:=om
 subst this
 simp[after,Dg.ok]
def dg0:Ob:= .box [.d (.int .i64 0),.d (.int .i64 0),.d (.int .i64 0)]
end
end Go.Vm.Lex
namespace Go.Vm.Lex
open Go.Vm.Ite
section
variable {fx:Nat->Option Obj} {F:Nat->Option a0t} (H:Hp)
set_option maxHeartbeats 2000000 in
theorem e6l (s:List UInt8) (hs:s.length<=maxLen):evF (pgL fx F) c6z [str s] H=some (c6o (a4w s),H):=by
 refine a1p (c6v (F:=F)) rfl rfl ?_ H
 refine And.intro (fun h=>?_) (fun h=>?_)
 ·replace h:=of_decide_eq_true h
  refine Exists.intro _ (Exists.intro _ (And.intro (b6t _ 2 0 0) ?_))
  show _=_
  unfold a4w
  rw[if_pos om];rfl
 replace h:=of_decide_eq_false h
 have hm:s.length<=65536:=om
 have hs2:s.length<=4611686018427387904:=om
 have hL:a4w s=if 0<=strange 0 s then([],⟨110,(strange 0 s).toNat,(strange 0 s).toNat+1⟩) else toks 0 s:=by unfold a4w;rw[if_neg om]
 have hg:=c7z _ s 0 (Nat.le_refl _)
 refine Exists.intro _ (Exists.intro _ (And.intro (e6h _ _ hs2) ?_))
 refine And.intro (fun h2=>?_) (fun h2=>?_)
 ·replace h2:=of_decide_eq_true h2
  refine Exists.intro _ (Exists.intro _ (And.intro (b6t _ _ _ _) ?_))
  show _=_
  rw[hL,if_pos om,a0w om]
  simp only[oneOf,c6o,dgD,List.map_nil,Int.natCast_add,Int.toNat_of_nonneg h2];rfl
 replace h2:=of_decide_eq_false h2
 rw[if_neg om]at hL
 have hv:Val s:=by unfold Val;omega
 refine Exists.intro _ (Exists.intro _ (And.intro (e3x _ _ hs 0 om) ?_))
 rw[hL]
 simp only[List.drop_zero,Nat.zero_add]
 refine wp_loop (α:=Nat×List TokQ) (fun p=>s.length - p.1) (fun p=>[(0,str s),(3,.ptr 0 0),(5,.row 1 p.2.length),(6,i64 p.1)]) (fun p=>[dg0,.row 5 (p.2.map TokQ.D)]) (fun p=>Head s p.1 p.2) ?_ (a0n false s,[]) (Head.start hv)
 rintro⟨i,out⟩ hh
 have hle:=hh.le
 have hol:=hh.ol
 simp only at hh hle hol
 refine And.intro (fun hl=>?_) (fun hl=>?_)
 ·replace hl:=of_decide_eq_true hl
  have hlt:i < s.length:=om
  have hd:s.drop i=s[i]::s.drop (i+1):=List.drop_eq_getElem_cons hlt
  have hne:s.drop i≠[]:=by rw[hd];exact List.cons_ne_nil _ _
  have hh0:hd0 (s.drop i)=s[i]:=by rw[hd];rfl
  have hn:=hh.next hlt
  have hx:=hh.err hlt
  have hk:(a3f szL (s.drop i)).e=0->1<=(a3f szL (s.drop i)).n/\(a3f szL (s.drop i)).n<=s.length - i:=fun e=>by
    obtain⟨k1,k2,_⟩:=c4e e
    rw[List.length_drop]at k2
    exact⟨k1,k2⟩
  have hR0:0 < a9m (s.drop i)↔b6s s[i]=true:=by
   rw[hd,c4d]
   cases b6s s[i]<;>simp
  have hR1:s[i]=95->((s.drop i).take (a9m (s.drop i))=[95]↔a9m (s.drop i)=1):=by
   intro e
   have hpos:0 < a9m (s.drop i):=hR0.2 (by rw[e];rfl)
   constructor
   ·intro h1
    have h2:min (a9m (s.drop i)) (s.drop i).length=1:=by rw[<-List.length_take,h1];rfl
    have h3:=b9x (s.drop i)
    omega
   ·intro h1;rw[h1,hd,e];rfl
  have hR2:s[i]≠95->(s.drop i).take (a9m (s.drop i))≠[95]:=by
   intro e h1
   cases hr:a9m (s.drop i)with
   |zero=>rw[hr]at h1;simp at h1
   |succ n=>rw[hr,hd,List.take_succ_cons]at h1;injection h1 with h1 _;exact e h1
  have hrl:=b9x (s.drop i)
  have hszl:=d4f (s.drop i)
  rw[List.length_drop]at hrl hszl
  have bl:∀ (n:Nat),n<=s.length - i->∀ (z:Int),z=((i+n:Nat):Int)->∀ H:Hp,evF (pgL fx F) b9d [str s,i64 z] H=some (i64 ((i+n+a0n false (s.drop (i+n)):Nat)),H):=by
   intro n hn z hz H
   rw[hz];exact e3x _ _ hs _ om
  have ew1:IntKind.i64.wrap ((i:Int)+1)=(i:Int)+1:=a0w om
  generalize hR:a9m (s.drop i)=R at*
  refine a4r hlt ?_
  -- is it '_' alone?
  have hal:(decide ((s[i].toNat:Int)=95) && decide (((i+R:Nat):Int)=IntKind.i64.wrap ((i:Int)+1)))=decide (s[i]=95/\R=1):=by
   rw[ew1,<-Bool.decide_and]
   simp only[decide_eq_decide,f9h]
   constructor
   ·rintro⟨h1,h2⟩;exact⟨by show s[i].toNat=95;omega,om⟩
   ·rintro⟨h1,h2⟩;have h3:s[i].toNat=95:=h1;exact⟨om,om⟩
  have tail:∀ al:Bool,al=decide (s[i]=95/\R=1)->True:=fun _ _=>trivial
  clear tail
  refine And.intro (fun ha=>?_) (fun ha=>?_)
  ·refine Exists.intro _ (Exists.intro _ (And.intro (e0a _ _ i om hs) ?_))
   rw[hR]
   refine a4r hlt ?_
   refine Exists.intro _ (Exists.intro _ (And.intro (a8x _ _) ?_))
   refine And.intro (fun h4=>?_) (fun h4=>?_)
   ·have hpos:0 < R:=hR0.2 (by unfold b6s;rw[h4,Bool.or_true])
    have hbr:0 < R/\isD (hd0 (s.drop i))=true:=⟨hpos,by rw[hh0];exact h4⟩
    have hnum:=fun H:Hp=>c4p (fx:=fx) (F:=F) H s hs i om
    unfold e5e at hnum
    rw[hR]at hnum
    cases hb:b7m ((s.drop i).take R)with
    |true=>
     simp only[hb,if_true]at hnum
     have hT:a3f szL (s.drop i)=⟨3,(s.drop i).take R,b9o ((s.drop i).take R),R,0⟩:=by
      unfold a3f;rw[hR,if_pos hbr,if_pos hb]
     refine Exists.intro _ (Exists.intro _ (And.intro (hnum _) ?_))
     refine a0j rfl ?_
     have hn:=hn (by rw[hT])
     rw[hT]at hn
     have hk:=hk (by rw[hT])
     rw[hT]at hk
     simp only at hn hk
     have hsl:=a2x false (s.drop (i+R))
     rw[List.length_drop]at hsl
     refine And.intro ⟨rfl,by decide⟩ ?_
     refine And.intro ⟨rfl,by simp,⟨by simp;omega,by simp;omega⟩⟩ ?_
     refine Exists.intro _ (Exists.intro _ (And.intro (bl R om _ rfl _) ?_))
     refine⟨(_,_),hn,by simp only;omega,?_,?_⟩
     ·simp
     ·simp[TokQ.D,tkD,dg0]
    |false=>
     simp only[hb,if_false,Bool.false_eq_true]at hnum
     have hT:a3f szL (s.drop i)=⟨0,[],0,R,112⟩:=by
      unfold a3f;rw[hR,if_pos hbr,if_neg (by rw[hb];simp)]
     refine Exists.intro _ (Exists.intro _ (And.intro (hnum _) ?_))
     refine a0m rfl ?_
     show _=_
     rw[hx (by rw[hT];simp),hT]
     simp only[oneOf,c6o,dgD,List.map_nil,Int.natCast_add]
     try rfl
   ·refine a4r hlt ?_
    refine Exists.intro _ (Exists.intro _ (And.intro (a8v _ _) ?_))
    have h95:s[i]=95:=by rw[f9h];show s[i].toNat=95;have:=of_decide_eq_true ha;omega
    have hLt:isL s[i]=true:=by rw[h95];rfl
    rw[hLt]
    refine And.intro (fun _=>?_) (fun e=>by cases e)
    by_cases hR1':R=1
    ·have hnm:¬ (0 < R/\(s.drop i).take R≠[95]):=fun e=>e.2 ((hR1 h95).2 hR1')
     refine a0j (by simp[ew1,hR1']) ?_
     have hnb:¬ (0 < R/\isD (hd0 (s.drop i))=true):=by rw[hh0,h4];simp
     refine Exists.intro _ (Exists.intro _ (And.intro (b4r _ s i hlt om) ?_))
     by_cases hsg:a3r (s.drop i)=[]
     ·have hT:a3f szL (s.drop i)=⟨0,[],0,szL (s.drop i),111⟩:=by
       unfold a3f;rw[hR,if_neg hnb,if_neg hnm,if_neg (fun e=>e hsg)]
      refine a0j (by simp[hsg]) ?_
      refine Exists.intro _ (Exists.intro _ (And.intro (d8d _ s hs2 i hlt) ?_))
      refine Exists.intro _ (Exists.intro _ (And.intro (b6t _ 111 _ _) ?_))
      rw[show IntKind.i64.wrap ((i:Int)+(szL (s.drop i):Int))=((i+szL (s.drop i):Nat):Int)by rw[a0w om];omega]
      refine a0m rfl ?_
      show _=_
      rw[hx (by rw[hT];simp),hT]
      simp only[oneOf,c6o,dgD,List.map_nil,Int.natCast_add]
      try rfl
     ·have hT:a3f szL (s.drop i)=⟨4,a3r (s.drop i),0,(a3r (s.drop i)).length,0⟩:=by
       unfold a3f;rw[hR,if_neg hnb,if_neg hnm,if_pos hsg]
      have hsl2:(a3r (s.drop i)).length<=s.length - i:=by have:=hk (by rw[hT]);rw[hT]at this;exact this.2
      refine a0m (by simp[hsg]) ?_
      refine Exists.intro _ (Exists.intro _ (And.intro (b4r _ s i hlt om) ?_))
      have ews:IntKind.i64.wrap ((i:Int)+((a3r (s.drop i)).length:Int))=((i+(a3r (s.drop i)).length:Nat):Int):=by rw[a0w om];omega
      refine a0j rfl ?_
      have hn:=hn (by rw[hT])
      rw[hT]at hn
      have hk:=hk (by rw[hT])
      rw[hT]at hk
      simp only at hn hk
      have hsl:=a2x false (s.drop (i+(a3r (s.drop i)).length))
      rw[List.length_drop]at hsl
      refine And.intro ⟨rfl,by decide⟩ ?_
      refine And.intro ⟨rfl,by simp,⟨by simp;omega,by simp;omega⟩⟩ ?_
      refine Exists.intro _ (Exists.intro _ (And.intro (bl (a3r (s.drop i)).length hsl2 _ ews _) ?_))
      refine⟨(_,_),hn,by simp only;omega,?_,?_⟩
      ·simp
      ·simp[TokQ.D,tkD,dg0,ews]
    ·have hnm:0 < R/\(s.drop i).take R≠[95]:=⟨hR0.2 (by rw[h95];rfl),fun e=>hR1' ((hR1 h95).1 e)⟩
     refine a0m (by simp[ew1];omega) ?_
     have hnb:¬ (0 < R/\isD (hd0 (s.drop i))=true):=by rw[hh0,h4];simp
     have hnam:=fun H:Hp=>e3t (fx:=fx) (F:=F) H s hs i om
     unfold h0a at hnam
     rw[hR]at hnam
     by_cases h64:64 < R
     ·simp only[h64,if_true]at hnam
      have hT:a3f szL (s.drop i)=⟨0,[],0,R,2⟩:=by
       unfold a3f;rw[hR,if_neg hnb,if_pos hnm,if_pos h64]
      refine Exists.intro _ (Exists.intro _ (And.intro (hnam _) ?_))
      refine a0m rfl ?_
      show _=_
      rw[hx (by rw[hT];simp),hT]
      simp only[oneOf,c6o,dgD,List.map_nil,Int.natCast_add]
      try rfl
     ·simp only[h64,if_false]at hnam
      have hT:a3f szL (s.drop i)=⟨if b8u ((s.drop i).take R) then 2 else 1,(s.drop i).take R,0,R,0⟩:=by
       unfold a3f;rw[hR,if_neg hnb,if_pos hnm,if_neg h64]
      refine Exists.intro _ (Exists.intro _ (And.intro (hnam _) ?_))
      refine a0j rfl ?_
      have hn:=hn (by rw[hT])
      rw[hT]at hn
      have hk:=hk (by rw[hT])
      rw[hT]at hk
      simp only at hn hk
      have hsl:=a2x false (s.drop (i+R))
      rw[List.length_drop]at hsl
      refine And.intro ⟨rfl,by decide⟩ ?_
      refine And.intro ⟨rfl,by simp,⟨by simp;omega,by simp;omega⟩⟩ ?_
      refine Exists.intro _ (Exists.intro _ (And.intro (bl R om _ rfl _) ?_))
      refine⟨(_,_),hn,by simp only;omega,?_,?_⟩
      ·simp
      ·simp[TokQ.D,tkD,dg0]
  ·refine a4r hlt ?_
   refine Exists.intro _ (Exists.intro _ (And.intro (a8x _ _) ?_))
   refine And.intro (fun h4=>?_) (fun h4=>?_)
   ·have hpos:0 < R:=hR0.2 (by unfold b6s;rw[h4,Bool.or_true])
    have hbr:0 < R/\isD (hd0 (s.drop i))=true:=⟨hpos,by rw[hh0];exact h4⟩
    have hnum:=fun H:Hp=>c4p (fx:=fx) (F:=F) H s hs i om
    unfold e5e at hnum
    rw[hR]at hnum
    cases hb:b7m ((s.drop i).take R)with
    |true=>
     simp only[hb,if_true]at hnum
     have hT:a3f szL (s.drop i)=⟨3,(s.drop i).take R,b9o ((s.drop i).take R),R,0⟩:=by
      unfold a3f;rw[hR,if_pos hbr,if_pos hb]
     refine Exists.intro _ (Exists.intro _ (And.intro (hnum _) ?_))
     refine a0j rfl ?_
     have hn:=hn (by rw[hT])
     rw[hT]at hn
     have hk:=hk (by rw[hT])
     rw[hT]at hk
     simp only at hn hk
     have hsl:=a2x false (s.drop (i+R))
     rw[List.length_drop]at hsl
     refine And.intro ⟨rfl,by decide⟩ ?_
     refine And.intro ⟨rfl,by simp,⟨by simp;omega,by simp;omega⟩⟩ ?_
     refine Exists.intro _ (Exists.intro _ (And.intro (bl R om _ rfl _) ?_))
     refine⟨(_,_),hn,by simp only;omega,?_,?_⟩
     ·simp
     ·simp[TokQ.D,tkD,dg0]
    |false=>
     simp only[hb,if_false,Bool.false_eq_true]at hnum
     have hT:a3f szL (s.drop i)=⟨0,[],0,R,112⟩:=by
      unfold a3f;rw[hR,if_pos hbr,if_neg (by rw[hb];simp)]
     refine Exists.intro _ (Exists.intro _ (And.intro (hnum _) ?_))
     refine a0m rfl ?_
     show _=_
     rw[hx (by rw[hT];simp),hT]
     simp only[oneOf,c6o,dgD,List.map_nil,Int.natCast_add]
     try rfl
   ·refine a4r hlt ?_
    refine Exists.intro _ (Exists.intro _ (And.intro (a8v _ _) ?_))
    have h95:s[i]≠95:=by rw[ne_eq,f9h];show ¬ s[i].toNat=95;have:=of_decide_eq_false ha;omega
    cases hLt:isL s[i] with
    |true=>
     have hnm:0 < R/\(s.drop i).take R≠[95]:=⟨hR0.2 (by unfold b6s;rw[hLt,Bool.true_or]),hR2 h95⟩
     repeat' (first|refine a0m rfl ?_|refine And.intro (fun _=>?_) (fun e=>by cases e))
     have hnb:¬ (0 < R/\isD (hd0 (s.drop i))=true):=by rw[hh0,h4];simp
     have hnam:=fun H:Hp=>e3t (fx:=fx) (F:=F) H s hs i om
     unfold h0a at hnam
     rw[hR]at hnam
     by_cases h64:64 < R
     ·simp only[h64,if_true]at hnam
      have hT:a3f szL (s.drop i)=⟨0,[],0,R,2⟩:=by
       unfold a3f;rw[hR,if_neg hnb,if_pos hnm,if_pos h64]
      refine Exists.intro _ (Exists.intro _ (And.intro (hnam _) ?_))
      refine a0m rfl ?_
      show _=_
      rw[hx (by rw[hT];simp),hT]
      simp only[oneOf,c6o,dgD,List.map_nil,Int.natCast_add]
      try rfl
     ·simp only[h64,if_false]at hnam
      have hT:a3f szL (s.drop i)=⟨if b8u ((s.drop i).take R) then 2 else 1,(s.drop i).take R,0,R,0⟩:=by
       unfold a3f;rw[hR,if_neg hnb,if_pos hnm,if_neg h64]
      refine Exists.intro _ (Exists.intro _ (And.intro (hnam _) ?_))
      refine a0j rfl ?_
      have hn:=hn (by rw[hT])
      rw[hT]at hn
      have hk:=hk (by rw[hT])
      rw[hT]at hk
      simp only at hn hk
      have hsl:=a2x false (s.drop (i+R))
      rw[List.length_drop]at hsl
      refine And.intro ⟨rfl,by decide⟩ ?_
      refine And.intro ⟨rfl,by simp,⟨by simp;omega,by simp;omega⟩⟩ ?_
      refine Exists.intro _ (Exists.intro _ (And.intro (bl R om _ rfl _) ?_))
      refine⟨(_,_),hn,by simp only;omega,?_,?_⟩
      ·simp
      ·simp[TokQ.D,tkD,dg0]
    |false=>
     have hnm:¬ (0 < R/\(s.drop i).take R≠[95]):=fun e=>by
       have:=hR0.1 e.1
       unfold b6s at this;rw[hLt,h4]at this;cases this
     repeat' (first|refine a0j rfl ?_|refine And.intro (fun e=>by cases e) (fun _=>?_))
     have hnb:¬ (0 < R/\isD (hd0 (s.drop i))=true):=by rw[hh0,h4];simp
     refine Exists.intro _ (Exists.intro _ (And.intro (b4r _ s i hlt om) ?_))
     by_cases hsg:a3r (s.drop i)=[]
     ·have hT:a3f szL (s.drop i)=⟨0,[],0,szL (s.drop i),111⟩:=by
       unfold a3f;rw[hR,if_neg hnb,if_neg hnm,if_neg (fun e=>e hsg)]
      refine a0j (by simp[hsg]) ?_
      refine Exists.intro _ (Exists.intro _ (And.intro (d8d _ s hs2 i hlt) ?_))
      refine Exists.intro _ (Exists.intro _ (And.intro (b6t _ 111 _ _) ?_))
      rw[show IntKind.i64.wrap ((i:Int)+(szL (s.drop i):Int))=((i+szL (s.drop i):Nat):Int)by rw[a0w om];omega]
      refine a0m rfl ?_
      show _=_
      rw[hx (by rw[hT];simp),hT]
      simp only[oneOf,c6o,dgD,List.map_nil,Int.natCast_add]
      try rfl
     ·have hT:a3f szL (s.drop i)=⟨4,a3r (s.drop i),0,(a3r (s.drop i)).length,0⟩:=by
       unfold a3f;rw[hR,if_neg hnb,if_neg hnm,if_pos hsg]
      have hsl2:(a3r (s.drop i)).length<=s.length - i:=by have:=hk (by rw[hT]);rw[hT]at this;exact this.2
      refine a0m (by simp[hsg]) ?_
      refine Exists.intro _ (Exists.intro _ (And.intro (b4r _ s i hlt om) ?_))
      have ews:IntKind.i64.wrap ((i:Int)+((a3r (s.drop i)).length:Int))=((i+(a3r (s.drop i)).length:Nat):Int):=by rw[a0w om];omega
      refine a0j rfl ?_
      have hn:=hn (by rw[hT])
      rw[hT]at hn
      have hk:=hk (by rw[hT])
      rw[hT]at hk
      simp only at hn hk
      have hsl:=a2x false (s.drop (i+(a3r (s.drop i)).length))
      rw[List.length_drop]at hsl
      refine And.intro ⟨rfl,by decide⟩ ?_
      refine And.intro ⟨rfl,by simp,⟨by simp;omega,by simp;omega⟩⟩ ?_
      refine Exists.intro _ (Exists.intro _ (And.intro (bl (a3r (s.drop i)).length hsl2 _ ews _) ?_))
      refine⟨(_,_),hn,by simp only;omega,?_,?_⟩
      ·simp
      ·simp[TokQ.D,tkD,dg0,ews]
 ·replace hl:=of_decide_eq_false hl
  have hf:=hh.fin om
  refine And.intro ⟨rfl,by decide⟩ ?_
  refine And.intro ⟨rfl,by simp,⟨by simp;omega,by simp;omega⟩⟩ ?_
  refine And.intro (by simp) ?_
  show _=_
  rw[hf]
  simp[oneOf,c6o,dgD,TokQ.D,tkD,Dg.ok]
end
end Go.Vm.Lex
namespace Go.Vm.Ite
open Go.Vm.Lex (TokQ)
open Go.Vm.Pa
set_option maxHeartbeats 4000000
def crS (ks:K) (e:Int) (q:PS):PS:={q with n:=q.n+1,ns:=q.ns++[N.D ⟨1,[],0,ks.l⟩ 0 e]}
section
variable {fx:Nat->Option Obj} {l:List TokQ} {s s1 s2:PS} {n:Nat} {r:R}
theorem g1u (hl:LOk l) {p:R} {e:Int} (hs:okS l s=true) (h:go l n (.items K.o) s=some (p,s1)) (ck:okK p.ks=true) (hn:s1.ns.length=s1.n) (hn2:s1.n < 1000000):evF (pgL fx F0) a8e [.ptr 0 0,.d (.int .i64 e)] [PB l s,PR s]=some (.tup [],[PB l (crS p.ks e s1),PR (crS p.ks e s1)]):=by
 have IH:∀ m,m<=n->Sp fx l m:=fun m _=>g8k hl m
 have hroom:roomy (s1.n+1) 72:=by unfold roomy;omega
 refine a0f (b5w (F:=F0)) rfl rfl rfl ?_
 repeat' (first|refine a2p ⟨?_⟩|refine a0c 3 (by decide) (by decide) ?_|fail)
 refine a0g (α:=Nat×K×PS) (fun a=>a.1) (fun a=>[(0,.ptr 0 0),(4,.ptr 2 0)]) (fun a=>[PB l a.2.2,PR a.2.2,.box [i64 1,str [],i64 0,.row 3 a.2.1.n,i64 0,i64 e],.row 1 a.2.1.l]) (fun a=>a.1<=n/\go l a.1 (.items a.2.1) a.2.2=some (p,s1)/\okS l a.2.2=true) ?_ (n,K.o,_) ⟨Nat.le_refl _,h,hs⟩ rfl rfl
 rintro⟨m,ks,q⟩ ⟨hm,h,hq⟩
 dsimp only at hm h hq
 cases m with
 |zero=>cases h
 |succ m=>
 change Go.Vm.Pa.step l (go l m) (.items ks) q=_ at h
 simp only[Go.Vm.Pa.step,Go.Vm.Pa.mk,Go.Vm.Pa.ret,Go.Vm.Pa.a9s,Go.Vm.Pa.deeper,Go.Vm.Pa.step.newS,Go.Vm.Pa.step.numS,Go.Vm.Pa.step.pickS]at h
 repeat' (first|(cases h;done)|split at h)
 all_goals first
   |(simp only[Option.some.injEq,Prod.mk.injEq]at h;obtain⟨rfl,rfl⟩:=h
     try have ck2:= ‹okK ks=true›
     have ht:toD [PB l q,PR q,.box [i64 1,str [],i64 0,.row 3 ks.n,i64 0,i64 e],.row 1 ks.l] (.agg [i64 1,str [],i64 0,.row 3 ks.n,i64 0,i64 e])=some (N.D ⟨1,.nil,0,ks.l⟩ 0 e):=by
      simp[toD,a8i,d3i,a1i ck,N.D,D.one]
     repeat' (first|refine a2p ⟨?_⟩|refine a0c 8 (by decide) (by decide) ?_|refine Exists.intro _ (And.intro ht ?_)|refine And.intro ⟨rfl,hn,hroom⟩ ?_|refine And.intro ⟨rfl,by decide⟩ ?_|refine ca (a6q (by with_reducible assumption)) ?_|refine ca (b7k okQ) ?_|refine ca (f9t IH (by with_reducible assumption) om okQ) ?_|refine a0c 3 (by decide) (by decide) ?_|fail)
     exact rfl)
   |(have ck2:= ‹okK ks=true›
     repeat' (first|refine a2p ⟨?_⟩|refine And.intro ⟨rfl,a1i ck2,a1o ck2⟩ ?_|refine And.intro ⟨rfl,by decide⟩ ?_|refine ca (a6q (by with_reducible assumption)) ?_|refine ca (b7k okQ) ?_|refine ca (f9t IH (by with_reducible assumption) om okQ) ?_|refine a0c 3 (by decide) (by decide) ?_|fail)
     exact⟨(m,_,_),⟨om,h,okQ⟩,by dsimp only;omega,rfl,rfl⟩)
def c0r (l:List TokQ) (s:PS):PS:=if okB s && !decide ((now l s).k=5) then a3k l 120 s else s
def e3h (l:List TokQ) (e:Int) (s:PS) (t:List Tp.Nd):List Tp.Nd×D:=
 if okB (c0r l s) then
  if 20000 < t.length then([],Lex.dgD 2 0 e)
  else if 400 < Itr.f8c t then([],Lex.dgD 121 0 e)
  else(t,Lex.dgD 0 0 0)
 else([],Lex.dgD (c0r l s).bc (c0r l s).bf (c0r l s).be)
theorem h7g {t:List Tp.Nd} {e:Int} (hs:okS l s=true) (ht:s.ns=t.map Tp.Nd.D) (hn:s.n=t.length) (h2:t.length<=1000000) (hkl:∀ x∈t,x.kids.length<=1048576) (hk:∀ x∈t,∀ k∈x.kids,0<=k/\k.toNat < t.length):evF (pgL fx F0) c4y [.ptr 0 0,.d (.int .i64 e)] [PB l s,PR s]=some (.tup [.d (Tp.a1r (e3h l e s t).1),.d (e3h l e s t).2],[PB l (c0r l s),PR (c0r l s)]):=by
 have hlen:s.ns.length=s.n:=by rw[ht,hn,List.length_map]
 refine a0f (d8y (F:=F0)) rfl rfl rfl ?_
 cases c1:okB s with
 |false=>
  have e1:c0r l s=s:=by unfold c0r;rw[c1];rfl
  unfold e3h
  rw[e1,c1]
  repeat' (first|refine a2p ⟨?_⟩|refine ca (a6q c1) ?_|refine ca (b7k hs) ?_|refine a0c 3 (by decide) (by decide) ?_|fail)
  exact rfl
 |true=>
  by_cases c2:(now l s).k=5
  ·have d2:(!decide ((now l s).k=5))=false:=by rw[decide_eq_true c2];rfl
   have e1:c0r l s=s:=by unfold c0r;rw[c1,d2];rfl
   unfold e3h
   rw[e1,c1,if_pos rfl]
   by_cases c3:20000 < t.length
   ·have d3:(20000:Int) < (s.n:Int):=om
    rw[if_pos c3]
    repeat' (first|refine a2p ⟨?_⟩|refine ca (a6q c1) ?_|refine ca (b7k hs) ?_|refine a0c 3 (by decide) (by decide) ?_|fail)
    exact rfl
   ·have d3:¬ (20000:Int) < (s.n:Int):=om
    rw[if_neg c3]
    have hd:=fun H=>Itr.e4z (fx:=fx) (F:=F0) H t om hkl hk
    rw[show Tp.a1r t= .agg [.sl s.ns] from by rw[ht];rfl]at hd
    by_cases c4:400 < Itr.f8c t
    ·rw[if_pos c4]
     repeat' (first|refine a2p ⟨?_⟩|refine ca (a6q c1) ?_|refine ca (b7k hs) ?_|refine ca (hd _) ?_|refine And.intro hlen ?_|refine a0c 3 (by decide) (by decide) ?_|fail)
     exact rfl
    ·rw[if_neg c4]
     repeat' (first|refine a2p ⟨?_⟩|refine ca (a6q c1) ?_|refine ca (b7k hs) ?_|refine ca (hd _) ?_|refine And.intro hlen ?_|refine a0c 3 (by decide) (by decide) ?_|fail)
     rw[show Tp.a1r t= .agg [.sl s.ns] from by rw[ht];rfl]
     first|exact rfl|exact⟨rfl,rfl⟩|(refine And.intro hlen ?_;exact⟨rfl,rfl⟩)
  ·have d2:(!decide ((now l s).k=5))=true:=by rw[decide_eq_false c2];rfl
   have e1:c0r l s=a3k l 120 s:=by unfold c0r;rw[c1,d2];rfl
   have c5:okB (a3k l 120 s)=false:=by unfold a3k;rw[c1,if_pos rfl];rfl
   unfold e3h
   rw[e1,c5]
   repeat' (first|refine a2p ⟨?_⟩|refine ca (a6q c1) ?_|refine ca (b7k hs) ?_|refine ca (c1v hs) ?_|refine ca (a6q c5) ?_|refine a0c 3 (by decide) (by decide) ?_|fail)
   exact rfl
end
end Go.Vm.Ite
namespace Go.Vm.Ite
open Go.Vm.Lex (TokQ Dg a4w c6o dgD)
open Go.Vm.Pa
set_option maxHeartbeats 4000000
def PS0:PS:=⟨0,0,[],0,0,0,0⟩
abbrev ZB:Ob:= .box [i64 0,i64 0,i64 0]
abbrev DB (c f e:Int):Ob:= .box [i64 c,i64 f,i64 e]
abbrev X0:Hp:=[.box [.nils],ZB]
abbrev PB6 (l:List TokQ) (s:PS):Ob:= .box [.d (.sl (l.map g3d)),.d (.int .i64 s.at_),.d (.int .i64 s.deep),.row 6 s.n,.d (.int .i64 s.bc),.d (.int .i64 s.bf),.d (.int .i64 s.be)]
abbrev X1 (l:List TokQ) (c f e:Int) (s:PS):Hp:=[.box [.nils],ZB,DB c f e,DB c f e,PB6 l s,DB c f e,PR s]
section
variable {fx:Nat->Option Obj} {l:List TokQ}
theorem f3g (src:S) (h:65536 < src.length):evF (pgL fx F0) b8c [str src] X0=some (.tup [.nul,.d (dgD 2 0 0)],X0++[DB 2 0 0]):=by
 refine d7o (b8g (F:=F0)) rfl rfl ?_
 have h':(65536:Int) < (src.length:Int):=om
 refine run ⟨?_⟩
 exact⟨_,rfl,rfl,rfl⟩
theorem e9e (src:S) (h:src.length<=65536):evF (pgL fx F0) b8c [str src] X0=some (.tup [.ptr 4 0,.d (dgD (a4w src).2.c (a4w src).2.f (a4w src).2.e)],X0++[DB (a4w src).2.c (a4w src).2.f (a4w src).2.e,DB (a4w src).2.c (a4w src).2.f (a4w src).2.e,.box [.d (.sl ((a4w src).1.map g3d)),i64 0,i64 0,.nils,i64 0,i64 0,i64 0]]):=by
 refine d7o (b8g (F:=F0)) rfl rfl ?_
 have h':¬ (65536:Int) < (src.length:Int):=om
 have tk:=fun H=>Lex.e6l (fx:=fx) (F:=F0) H src (by unfold maxLen;omega)
 have hg:grew (X0++[ZB,DB (a4w src).2.c (a4w src).2.f (a4w src).2.e]) ((X0++[ZB,DB (a4w src).2.c (a4w src).2.f (a4w src).2.e])++[.box [.d (.sl ((a4w src).1.map g3d)),i64 0,i64 0,.nils,i64 0,i64 0,i64 0]])=true:=(a7o _ _).trans rfl
 repeat' (first|refine run ⟨?_⟩|refine ca (tk _) ?_|refine And.intro hg ?_|fail)
 exact⟨_,rfl,rfl,rfl⟩
theorem d5g (src:S) (H:Hp) {c f e:Int} (hc:c≠0) (h:(65536 < src.length/\c=2/\f=0/\e=0)\/(src.length<=65536/\c=(a4w src).2.c/\f=(a4w src).2.f/\e=(a4w src).2.e)):evF (pgL fx F0) b2d [str src] H=some (.tup [.d (Tp.a1r []),.d (dgD c f e)],H):=by
 refine a1d (b9i (F:=F0)) rfl rfl ?_ H
 have hn:(!decide (c=0))=true:=by rw[decide_eq_false hc];rfl
 rcases h with⟨h1,rfl,rfl,rfl⟩|⟨h1,rfl,rfl,rfl⟩
 ·have hb:=f3g (fx:=fx) src h1
  repeat' (first|refine run ⟨?_⟩|refine ca (hb) ?_|fail)
  exact rfl
 ·have hb:=e9e (fx:=fx) src h1
  repeat' (first|refine run ⟨?_⟩|refine ca (hb) ?_|fail)
  exact rfl
theorem f6k (src:S) (H:Hp) (h1:src.length<=65536) (hc:(a4w src).2.c=0) (hl:l=(a4w src).1) (hok:LOk l) (h0:okS l PS0=true) {p:R} {s1:PS} {n:Nat} (hg:go l n (.items K.o) PS0=some (p,s1)) (ck:okK p.ks=true) (hn:s1.ns.length=s1.n) (hn2:s1.n < 1000000) (h3:okS l s1=true)
 {t:List Tp.Nd} (ht:(crS p.ks src.length s1).ns=t.map Tp.Nd.D) (hkl:∀ x∈t,x.kids.length<=1048576) (hk:∀ x∈t,∀ k∈x.kids,0<=k/\k.toNat < t.length):
 evF (pgL fx F0) b2d [str src] H=some (.tup [.d (Tp.a1r (e3h l src.length (crS p.ks src.length s1) t).1),.d (e3h l src.length (crS p.ks src.length s1) t).2],H):=by
 subst hl
 refine a1d (b9i (F:=F0)) rfl rfl ?_ H
 have hnb:(!decide ((a4w src).2.c=0))=false:=by rw[decide_eq_true hc];rfl
 have hb:=e9e (fx:=fx) src h1
 have htl:t.length=s1.n+1:=by
  have:=congrArg List.length ht
  rw[List.length_map]at this
  rw[<-this]
  show(s1.ns++[_]).length=_
  rw[List.length_append,hn];rfl
 have hcr:evF (pgL fx F0) a8e [.ptr 4 0,.d (.int .i64 (src.length:Int))] (X1 (a4w src).1 (a4w src).2.c (a4w src).2.f (a4w src).2.e PS0)=some (.tup [],X1 (a4w src).1 (a4w src).2.c (a4w src).2.f (a4w src).2.e (crS p.ks src.length s1)):=
  a5b (mv fx) [4,6] (g1u hok h0 hg ck hn hn2) rfl rfl rfl rfl rfl
 have hen:evF (pgL fx F0) c4y [.ptr 4 0,.d (.int .i64 (src.length:Int))] (X1 (a4w src).1 (a4w src).2.c (a4w src).2.f (a4w src).2.e (crS p.ks src.length s1))=some (.tup [.d (Tp.a1r (e3h (a4w src).1 src.length (crS p.ks src.length s1) t).1),.d (e3h (a4w src).1 src.length (crS p.ks src.length s1) t).2],X1 (a4w src).1 (a4w src).2.c (a4w src).2.f (a4w src).2.e (c0r (a4w src).1 (crS p.ks src.length s1))):=
  a5b (mv fx) [4,6] (h7g (s:=crS p.ks src.length s1) h3 ht htl.symm om hkl hk) rfl rfl rfl rfl rfl
 obtain⟨tt,cc,ff,ee,he⟩:∃ tt cc ff ee,e3h (a4w src).1 src.length (crS p.ks src.length s1) t=(tt,dgD cc ff ee):=by
  unfold e3h
  split
  ·split
   ·exact⟨_,_,_,_,rfl⟩
   ·split
    ·exact⟨_,_,_,_,rfl⟩
    ·exact⟨_,_,_,_,rfl⟩
  ·exact⟨_,_,_,_,rfl⟩
 rw[he]at hen⊢
 repeat' (first|refine run ⟨?_⟩|refine ca (hb) ?_|refine ca (hcr) ?_|refine ca (hen) ?_|fail)
 exact rfl
end
end Go.Vm.Ite
