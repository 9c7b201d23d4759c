import Derived.Test.YtkedogplneaaiaaGreatDoorPaT3a
import Derived.Test.YtkedogplneaaiaaGreatDoorPaT3b
import Derived.Test.YtkedogplneaaiaaGreatDoorPaT3d
import Derived.Test.YtkedogplneaaiaaGreatDoorParShelf
import Derived.Test.YtkedogplneaaiaaGreatDoorVmWx
import Derived.Lib.ItoaLen
import Derived.Lib.Join
import Derived.KernelRfl
import Derived.Test.YtkedogplneaaiaaGreatDoorVmOps2
import Derived.Test.YtkedogplneaaiaaGreatDoorPaG
import Derived.Test.YtkedogplneaaiaaGreatDoorIteA
import Derived.Test.YtkedogplneaaiaaGreatDoorVmNum
import Derived.Test.YtkedogplneaaiaaGreatDoorPlW3
import Derived.Lib.LaidU8
import Derived.LaidLaws
import Derived.LaidHandle
import Derived.Test.YtkedogplneaaiaaGreatDoorCards
import Derived.Test.YtkedogplneaaiaaGreatDoorTie
import Derived.SevenTiedAt
import Derived.Lay
set_option maxRecDepth 100000
set_option linter.unusedVariables false
set_option linter.unusedSimpArgs false
namespace Go.Vm.Pa
open Go.Vm.Lex (TokQ)
open Go.Vm.Tp (Nd I64)
theorem f2h {l:List TokQ} (hl:TOk l):∀ n,IHt l n
 |0=>fun q s p m=>by
  exfalso
  obtain⟨m1,m2⟩:=m
  have:=p.hi
  by_cases h:s.bc=0
  ·have h1:=m1 h
   have:0<=rQ q:=by
    cases q<;>try(simp only[rQ];omega)
    have:=p.ex
    simp only[Ext]at this
    simp only[rQ];omega
   omega
  ·have h1:=m2 h
   omega
 |n+1=>fun q s p m=>by
  have IH:=f2h hl n
  show G l q s (step l (go l n) q s)
  cases q with
  |typ=>exact i2u hl IH p m
  |typed fr=>exact g5o hl IH p m
  |param=>exact g2p hl IH p m
  |field=>exact g4y hl IH p m
  |variant=>exact e8e hl IH p m
  |params ks v=>exact f8n hl IH p m
  |function=>exact e6j hl IH p m
  |fields k ks=>exact f8p hl IH p m
  |parts k=>exact g4u hl IH p m
  |item=>exact h0a hl IH p m
  |items ks=>exact g3f hl IH p m
  |stmts ks=>exact g5j hl IH p m
  |block=>exact g7f hl IH p m
  |stmt=>exact h1m hl IH p m
  |let_ fr=>exact i5i hl IH p m
  |blocky fr=>exact f6n hl IH p m
  |branch=>exact f7b hl IH p m
  |cond=>exact h5n hl IH p m
  |match_=>exact g2v hl IH p m
  |arms ks=>exact h5j hl IH p m
  |arm=>exact i3f hl IH p m
  |pattern=>exact e9f hl IH p m
  |patterned fr=>exact d8z hl IH p m
  |expr bare=>exact h2e hl IH p m
  |row k bare=>exact i2i hl IH p m
  |rows k bare fr a=>exact h3m hl IH p m
  |operand bare=>exact e7m hl IH p m
  |prefix_ bare=>exact f9q hl IH p m
  |postfix_ bare=>exact e9w hl IH p m
  |gets fr a=>exact h7n hl IH p m
  |primary bare=>exact f3z hl IH p m
  |named fr bare=>exact g7q hl IH p m
  |args ks=>exact h1n hl IH p m
  |inits ks=>exact g6q hl IH p m
  |init=>exact h7g hl IH p m
end Go.Vm.Pa
namespace Go.Vm.Lex
theorem c2n:∀ (u:List UInt8) (b:Bool),a0j b (u.take (a0j b u))=a0j b u
 |[],b=>by cases b<;>rfl
 |c::r,false=>by
  rw[a7j]
  by_cases h:wsB c=true
  ·rw[if_pos h,List.take_succ_cons,a7j,if_pos h,c2n r false]
  ·rw[if_neg h]
   by_cases h2:c=47/\r.head? =some 47
   ·rw[if_pos h2,List.take_succ_cons,a7j,if_neg h]
    have hh:(r.take (a0j true r)).head? =some 47:=by
     cases r with
     |nil=>simp at h2
     |cons d r=>
      have hd:d=47:=by simpa using h2.2
      subst hd
      rw[b5m,if_neg (by decide),List.take_succ_cons];rfl
    rw[if_pos ⟨h2.1,hh⟩,c2n r true]
   ·rw[if_neg h2];rfl
 |c::r,true=>by
  rw[b5m]
  by_cases h:c=10
  ·rw[if_pos h,List.take_succ_cons,b5m,if_pos h,c2n r false]
  ·rw[if_neg h,List.take_succ_cons,b5m,if_neg h,c2n r true]
theorem e1l {s:List UInt8} (h:s.length<=65536) (hv:Val s):a0k s=toks 0 s:=by
 unfold a0k
 rw[if_neg om,if_neg (by unfold Val at hv;omega)]
def Gap (s:List UInt8) (a f:Nat):Prop:=a0k ((s.drop a).take (f - a))=([⟨5,[],0,f - a,f - a⟩],Dg.ok)
def Chain (s:List UInt8):Nat->List TokQ->Prop
 |a,[]=>a=s.length
 |a,x::r=>a<=x.f/\x.f<=x.e/\x.e<=s.length/\(s.drop x.f).take (x.e - x.f)=x.t/\(x.k=5↔r=[])/\Gap s a x.f/\Chain s x.e r
theorem e7k {s:List UInt8} {a:Nat} (hs:s.length<=65536) (hv:Val (s.drop a)) (hb:(s.drop a).length<=a0j false (s.drop a)\/∃ c,(s.drop a)[a0j false (s.drop a)]? =some c/\c.toNat < 128):Gap s a (a+a0j false (s.drop a)):=by
 unfold Gap
 rw[Nat.add_sub_cancel_left]
 have h1:=(d7c _ (s.drop a) _ (Nat.le_refl _) hv hb).1
 have hl:=a2o false (s.drop a)
 have hle:((s.drop a).take (a0j false (s.drop a))).length=a0j false (s.drop a):=by rw[List.length_take];omega
 rw[e1l (by rw[hle];rw[List.length_drop]at hl;omega) h1,a3u 0 (by rw[c2n];exact List.drop_eq_nil_of_le om),hle,Nat.zero_add]
theorem e9i {w:List UInt8->Nat} {s:List UInt8} (h:(a1k w s).e=0):(a1k w s).k≠5:=by
 unfold a1k at h⊢
 repeat' split
 all_goals simp_all
theorem e5d {s:List UInt8} (hs:s.length<=65536):∀ (n a:Nat),s.length - a<=n->a<=s.length->Val (s.drop a)->(toks a (s.drop a)).2.c=0->Chain s a (toks a (s.drop a)).1/\(toks a (s.drop a)).2=Dg.ok/\(toks a (s.drop a)).1≠[]:=by
 intro n
 induction n with
 |zero=>
  intro a h ha hv hc
  have e:s.drop a=[]:=List.drop_eq_nil_of_le om
  rw[a3u a (by rw[e];rfl)]at hc⊢
  have hl:a+(s.drop a).length=s.length:=by rw[List.length_drop];omega
  have ha':a=s.length:=om
  refine⟨?_,rfl,by simp⟩
  simp only[Chain,hl]
  refine⟨om,om,om,by simp,by simp,?_,trivial⟩
  have:=e7k hs hv (.inl (by rw[e];simp))
  rw[e,b2m,Nat.add_zero,ha']at this
  rw[ha'];exact this
 |succ n ih=>
  intro a h ha hv hc
  have hsl:=a2o false (s.drop a)
  by_cases h0:(s.drop a).drop (a0j false (s.drop a))=[]
  ·rw[a3u a h0]at hc⊢
   have hl:a+(s.drop a).length=s.length:=by rw[List.length_drop];omega
   have hk:a0j false (s.drop a)=(s.drop a).length:=by
    have:=congrArg List.length h0;rw[List.length_drop]at this;simp at this;rw[List.length_drop]at hsl⊢;omega
   refine⟨?_,rfl,by simp⟩
   simp only[Chain,hl]
   refine⟨om,om,om,by simp,by simp,?_,trivial⟩
   have:=e7k hs hv (.inl om)
   rw[hk,hl]at this;exact this
  ·by_cases he:(a1k szL ((s.drop a).drop (a0j false (s.drop a)))).e=0
   ·obtain⟨k1,k2,k3,k4⟩:=b8q he
    have hkd:=e9i he
    rw[b3i a h0 he]at hc⊢
    simp only[List.drop_drop]at hc k1 k2 k3 k4 hkd⊢
    generalize hT:a1k szL (s.drop (a+a0j false (s.drop a)))=T at*
    generalize hK:a0j false (s.drop a)=K at*
    rw[List.length_drop]at k2 hsl
    have hv2:Val (s.drop (a+(K+T.n))):=by
     have:=d3i _ (s.drop a) (Nat.le_refl _) hv
     rw[hK,List.drop_drop]at this
     rw[show a+(K+T.n)=(a+K)+T.n by omega,<-List.drop_drop]
     exact(d1s _ _ k4).1 this
    have hcc:(toks (a+(K+T.n)) (s.drop (a+(K+T.n)))).2.c=0:=by
     unfold after at hc
     split at hc
     ·assumption
     ·exact hc
    obtain⟨i1,i2,i3⟩:=ih (a+(K+T.n)) om om hv2 hcc
    unfold after
    rw[if_pos hcc]
    refine⟨?_,i2,by simp⟩
    simp only[List.singleton_append,Chain]
    have hb:(s.drop a)[K]? =s[a+K]? :=List.getElem?_drop ..
    refine⟨om,om,om,?_,?_,?_,?_⟩
    ·rw[Nat.add_sub_cancel_left,k3]
    ·exact⟨fun e=>absurd e hkd,fun e=>absurd e i3⟩
    ·have:=e7k hs hv (.inr ?_)
     ·rw[hK]at this;exact this
     ·rw[hK,hb]
      have hlt:a+K < s.length:=om
      refine⟨s[a+K],List.getElem?_eq_getElem hlt,k4 _ ?_⟩
      rw[List.mem_iff_getElem?]
      exact⟨0,by rw[List.getElem?_take,if_pos om,List.getElem?_drop,Nat.add_zero,List.getElem?_eq_getElem hlt]⟩
    ·rw[show a+K+T.n=a+(K+T.n)by omega];exact i1
   ·rw[b1l a h0 he]at hc;exact absurd hc he
theorem g7a (s:List UInt8):(a1k szL s).n<=s.length:=by
 have h1:=b2a s
 have h2:=c7k s
 by_cases e:(a1k szL s).e=0
 ·exact(b8q e).2.1
 ·unfold a1k at e⊢
  repeat' split
  all_goals simp_all
theorem e0y:∀ (n a:Nat) (s:List UInt8),s.length<=n->(toks a s).2.c≠0->a<=(toks a s).2.f/\(toks a s).2.f<=(toks a s).2.e/\(toks a s).2.e<=a+s.length:=by
 intro n
 induction n with
 |zero=>
  intro a s h hc
  have:s=[]:=List.length_eq_zero_iff.1 om
  subst this
  rw[a3u a (by simp)]at hc;exact absurd rfl hc
 |succ n ih=>
  intro a s h hc
  have hsl:=a2o false s
  have hnb:=g7a (s.drop (a0j false s))
  rw[List.length_drop]at hnb
  by_cases h0:s.drop (a0j false s)=[]
  ·rw[a3u a h0]at hc;exact absurd rfl hc
  ·by_cases he:(a1k szL (s.drop (a0j false s))).e=0
   ·have hd:=c6g s (by simp[h0,he])
    rw[b3i a h0 he]at hc⊢
    generalize(a1k szL (s.drop (a0j false s)))=T at*
    have hcc:(toks (a+(a0j false s+T.n)) (s.drop (a0j false s+T.n))).2.c≠0:=by
     unfold after at hc
     split at hc
     ·rename_i hz;exact absurd hz hc
     ·exact hc
    have i:=ih (a+(a0j false s+T.n)) (s.drop (a0j false s+T.n)) om hcc
    unfold after
    rw[if_neg hcc]
    rw[List.length_drop]at i
    simp only
    omega
   ·rw[b1l a h0 he]
    simp only
    omega
theorem d9l (s:List UInt8) (h:(a0k s).2.c≠0):(a0k s).1=[]/\(a0k s).2.f<=(a0k s).2.e/\(a0k s).2.e<=s.length:=by
 unfold a0k at h⊢
 split
 ·simp
 ·rename_i h1
  rw[if_neg h1]at h
  split
  ·rename_i h2
   have:=b6u _ s 0 (Nat.le_refl _)
   refine⟨rfl,by simp,?_⟩
   simp only
   omega
  ·rename_i h2
   rw[if_neg h2]at h
   have:=e0y _ 0 s (Nat.le_refl _) h
   exact⟨e1d _ _ _ (Nat.le_refl _) h,this.2.1,om⟩
theorem a9y (s:List UInt8) (h:(a0k s).2.c=0):s.length<=65536/\Val s/\a0k s=toks 0 s/\Chain s 0 (a0k s).1/\(a0k s).1≠[]/\(a0k s).2=Dg.ok:=by
 unfold a0k at h
 split at h
 ·cases h
 ·rename_i h1
  split at h
  ·cases h
  ·rename_i h2
   have hv:Val s:=by have:=b6u _ s 0 (Nat.le_refl _);unfold Val;omega
   have e:=e1l (by omega:s.length<=65536) hv
   have:=e5d (by omega:s.length<=65536) _ 0 (Nat.le_refl _) (Nat.zero_le _) (by rw[List.drop_zero];exact hv) (by rw[List.drop_zero];exact h)
   rw[List.drop_zero]at this
   rw[e]
   exact⟨om,hv,rfl,this.1,this.2.2,this.2.1⟩
end Go.Vm.Lex
namespace Go.Vm.Pa
open Go.Vm.Lex (TokQ toks a0k a1k szL a0j after Dg)
open Go.Vm.Tp (Nd I64)
theorem h6x {w:List UInt8->Nat} (s:List UInt8):I64 (a1k w s).v:=by
 unfold a1k I64
 (repeat' split)<;>dsimp only<;>(try omega)
 rename_i h
 simp only[Lex.c0i,Bool.and_eq_true,decide_eq_true_eq]at h
 have:=h.2
 omega
structure Small (m:Nat) (x:TokQ):Prop where
 t:x.t.length<=m
 v:I64 x.v
 f:x.f<=m
 e:x.e<=m
theorem e6h (m:Nat):∀ (n a:Nat) (s:List UInt8),s.length<=n->a+s.length<=m->(toks a s).2.c=0->(toks a s).1.length<=s.length+1/\(∀ x∈(toks a s).1,Small m x)/\(toks a s).1≠[]/\∀ i,i < (toks a s).1.length->((toks a s).1.getD i default).k≠5->i+1 < (toks a s).1.length:=by
 intro n
 induction n with
 |zero=>
  intro a s hs hm hc
  have e:s=[]:=List.eq_nil_of_length_eq_zero om
  subst e
  rw[Lex.a3u a rfl]
  refine⟨by simp,fun x hx=>?_,by simp,fun i hi h5=>?_⟩
  ·simp only[List.mem_singleton]at hx
   subst hx
   exact⟨Nat.zero_le _,by unfold I64;dsimp only;omega,hm,hm⟩
  ·simp only[List.length_singleton]at hi
   have:i=0:=om
   subst this
   exact absurd rfl h5
 |succ n ih=>
  intro a s hs hm hc
  have hsl:=Lex.a2o false s
  by_cases h0:s.drop (a0j false s)=[]
  ·rw[Lex.a3u a h0]
   refine⟨by simp,fun x hx=>?_,by simp,fun i hi h5=>?_⟩
   ·simp only[List.mem_singleton]at hx
    subst hx
    exact⟨Nat.zero_le _,by unfold I64;dsimp only;omega,hm,hm⟩
   ·simp only[List.length_singleton]at hi
    have:i=0:=om
    subst this
    exact absurd rfl h5
  ·by_cases he:(a1k szL (s.drop (a0j false s))).e=0
   ·obtain⟨k1,k2,k3,k4⟩:=Lex.b8q he
    have hv:=h6x (w:=szL) (s.drop (a0j false s))
    rw[Lex.b3i a h0 he]at hc⊢
    generalize hT:a1k szL (s.drop (a0j false s))=T at*
    rw[List.length_drop]at k2
    have hc2:(toks (a+(a0j false s+T.n)) (s.drop (a0j false s+T.n))).2.c=0:=by
     unfold after at hc
     split at hc
     ·assumption
     ·rename_i h;exact absurd hc h
    have hl:(s.drop (a0j false s+T.n)).length=s.length - (a0j false s+T.n):=List.length_drop ..
    obtain⟨i1,i2,i3,i4⟩:=ih (a+(a0j false s+T.n)) (s.drop (a0j false s+T.n)) om om hc2
    unfold after
    rw[if_pos hc2]
    dsimp only
    generalize(toks (a+(a0j false s+T.n)) (s.drop (a0j false s+T.n))).1=r at*
    refine⟨by rw[List.length_append,List.length_singleton];omega,fun x hx=>?_,by simp,fun i hi h5=>?_⟩
    ·rcases List.mem_append.1 hx with hx|hx
     ·simp only[List.mem_singleton]at hx
      subst hx
      refine⟨?_,hv,by dsimp only;omega,by dsimp only;omega⟩
      show T.t.length<=m
      rw[k3,List.length_take,List.length_drop];omega
     ·exact i2 x hx
    ·have hr:0 < r.length:=List.length_pos_iff.2 i3
     rw[List.length_append,List.length_singleton]at hi⊢
     cases i with
     |zero=>omega
     |succ i=>
      have:=i4 i om (by simpa [List.getD_eq_getElem?_getD] using h5)
      omega
   ·rw[Lex.b1l a h0 he]at hc
    exact absurd hc he
theorem e8p {s:List UInt8} (h:(a0k s).2.c=0):TOk (a0k s).1:=by
 obtain⟨h1,_,h3,_⟩:=Lex.a9y s h
 rw[h3]at h⊢
 obtain⟨i1,i2,i3,i4⟩:=e6h s.length s.length 0 s (Nat.le_refl _) om h
 have all:∀ i,Small 65536 ((toks 0 s).1.getD i default):=fun i=>by
   rw[List.getD_eq_getElem?_getD]
   cases c:(toks 0 s).1[i]? with
   |none=>exact⟨Nat.zero_le _,by unfold I64;decide,Nat.zero_le _,Nat.zero_le _⟩
   |some x=>
    have:=i2 x (List.mem_of_getElem? c)
    exact⟨Nat.le_trans this.t h1,this.v,Nat.le_trans this.f h1,Nat.le_trans this.e h1⟩
 exact⟨om,fun i=>(all i).t,fun i=>(all i).v,fun i=>⟨(all i).f,(all i).e⟩,i4⟩
end Go.Vm.Pa

namespace Go.Vm.Lex
theorem f0s (s:List UInt8) (h:∀ c∈s,c.toNat < 128):Val s:=by
 rw[d1s s s.length (by rw[List.take_length];exact h),List.drop_length];exact c3c
theorem g2y {s:List UInt8} (h:s.length<=65536) (hv:Val s):a0k s=toks 0 s:=by
 unfold a0k
 rw[if_neg om,if_neg (by unfold Val at hv;omega)]
structure TkA where
 k:Int
 t:List UInt8
 v:Int
 f:Int
 e:Int
theorem d6z {t:List UInt8} (h:t.all c4c=true):a2q t=t.length:=by
 unfold a2q
 induction t with
 |nil=>rfl
 |cons c r ih=>
  simp only[List.all_cons,Bool.and_eq_true]at h
  rw[List.takeWhile_cons,if_pos h.1,List.length_cons,List.length_cons,ih h.2]
theorem e6a {t:List UInt8} (hall:t.all c4c=true) (hne:t≠[]) (hd:isD (hd0 t)=false) (hu:t≠[95]) (hl:t.length<=64):a1k szL t=⟨if b9w t then 2 else 1,t,0,t.length,0⟩:=by
 have hr:=d6z hall
 have hp:=List.length_pos_iff.2 hne
 unfold a1k
 rw[hr,List.take_length,if_neg (by rw[hd];simp),if_pos ⟨hp,hu⟩,if_neg om]
theorem e5x:∀ t∈b5v,(a1k szL t).k=4/\(a1k szL t).t=t/\(a1k szL t).v=0/\(a1k szL t).n=t.length/\(a1k szL t).e=0/\wsB (hd0 t)=false/\hd0 t≠47:=by decide+kernel
theorem e5i:∀ c∈c2h,(a1k szL [c]).k=4/\(a1k szL [c]).t=[c]/\(a1k szL [c]).v=0/\(a1k szL [c]).n=1/\(a1k szL [c]).e=0/\wsB c=false:=by decide+kernel
theorem g0r {T:Tk} {k t v n e} (h1:T.k=k) (h2:T.t=t) (h3:T.v=v) (h4:T.n=n) (h5:T.e=e):T=⟨k,t,v,n,e⟩:=by
 cases T;subst h1;subst h2;subst h3;subst h4;subst h5;rfl
structure Good (k:Int) (t:List UInt8) (v:Int):Prop where
 ne:t≠[]
 low:∀ c∈t,c.toNat < 128
 ws:wsB (hd0 t)=false
 sl:hd0 t=47->t=[47]
 tok:a1k szL t=⟨k,t,if k=3 then v else 0,t.length,0⟩
theorem f7d {c:UInt8} (h:c4c c=true):wsB c=false/\c≠47:=by
 constructor
 ·simp[wsB]
  refine⟨?_,?_,?_,?_⟩<;>rintro rfl<;>exact absurd h (by decide)
 ·rintro rfl;exact absurd h (by decide)
theorem g6s {t:List UInt8} (h:t≠[]):hd0 t∈t:=by
 cases t with
 |nil=>exact absurd rfl h
 |cons c r=>simp[hd0]
def i3k (t:TokQ) (x:TkA):Prop:=t.k=x.k/\t.t=x.t/\t.v=if x.k=3 then x.v else 0
inductive Like:List TokQ->List TkA->Prop
 |nil:Like [] []
 |cons {t:TokQ} {x:TkA} {ts xs}:i3k t x->Like ts xs->Like (t::ts) (x::xs)
theorem Like.length {ts xs} (h:Like ts xs):ts.length=xs.length:=by
 induction h with
 |nil=>rfl
 |cons _ _ ih=>simp[ih]
end Go.Vm.Lex
namespace Go.Vm.Lex
structure Shape (x:TokQ):Prop where
 good:x.k≠5->Good x.k x.t x.v
 k1:x.k=1->b9w x.t=false/\x.t.all c4c=true
 k2:x.k=2->b9w x.t=true
 k3:x.k=3->x.t.all isD=true
 k4:x.k=4->x.t∈b5v\/∃ c∈c2h,x.t=[c]
 k5:x.k=5->x.t=[]
 kk:x.k=1\/x.k=2\/x.k=3\/x.k=4\/x.k=5
 v0:x.k≠3->x.v=0
theorem d7n {s:List UInt8} {n:Nat} (h:0 < n):hd0 (s.take n)=hd0 s:=by
 cases s with
 |nil=>simp
 |cons c r=>
  cases n with
  |zero=>omega
  |succ n=>rfl
theorem g5w {t:List UInt8} (h:t.all c4c=true):∀ c∈t,c.toNat < 128:=fun c hc=>e3z (List.all_eq_true.1 h c hc)
theorem e5k {s:List UInt8} (h:(a1k szL s).e=0) (f e:Nat):Shape ⟨(a1k szL s).k,(a1k szL s).t,(a1k szL s).v,f,e⟩:=by
 have hall:=d1o s
 have hle:=b2a s
 have hlen:(s.take (a2q s)).length=a2q s:=by rw[List.length_take];omega
 have ld:∀ k v,0 < a2q s->a1k szL (s.take (a2q s))=⟨k,s.take (a2q s),if k=3 then v else 0,(s.take (a2q s)).length,0⟩->Good k (s.take (a2q s)) v:=fun k v h0 ht=>by
   have hne:s.take (a2q s)≠[]:=fun e=>by rw[e]at hlen;simp at hlen;omega
   have h1:=f7d (List.all_eq_true.1 hall _ (g6s hne))
   exact⟨hne,g5w hall,h1.1,fun e=>absurd e h1.2,ht⟩
 by_cases c1:0 < a2q s/\isD (hd0 s)=true
 ·by_cases c2:c0i (s.take (a2q s))=true
  ·have e1:a1k szL s=⟨3,s.take (a2q s),b9q (s.take (a2q s)),a2q s,0⟩:=by unfold a1k;rw[if_pos c1,if_pos c2]
   rw[e1]
   have hr2:a2q (s.take (a2q s))=a2q s:=(d6z hall).trans hlen
   have e2:a1k szL (s.take (a2q s))=⟨3,s.take (a2q s),b9q (s.take (a2q s)),a2q s,0⟩:=by
    have ht:(s.take (a2q s)).take (a2q (s.take (a2q s)))=s.take (a2q s):=by rw[hr2,List.take_take,Nat.min_self]
    unfold a1k
    rw[if_pos ⟨by rw[hr2];exact c1.1,by rw[d7n c1.1];exact c1.2⟩,ht,if_pos c2,hr2]
   refine⟨fun _=>ld 3 _ c1.1 (by rw[e2,if_pos rfl,hlen]),by simp,by simp,fun _=>?_,by simp,by simp,by simp,by simp⟩
   simp only[c0i,Bool.and_eq_true]at c2
   exact c2.1
  ·have e1:(a1k szL s).e=112:=by unfold a1k;rw[if_pos c1,if_neg c2]
   rw[e1]at h;cases h
 ·by_cases c2:0 < a2q s/\s.take (a2q s)≠[95]
  ·by_cases c3:64 < a2q s
   ·have e1:(a1k szL s).e=2:=by unfold a1k;rw[if_neg c1,if_pos c2,if_pos c3]
    rw[e1]at h;cases h
   ·have e1:a1k szL s=⟨if b9w (s.take (a2q s)) then 2 else 1,s.take (a2q s),0,a2q s,0⟩:=by unfold a1k;rw[if_neg c1,if_pos c2,if_neg c3]
    rw[e1]
    have hne:s.take (a2q s)≠[]:=fun e=>by rw[e]at hlen;simp at hlen;omega
    have hd:isD (hd0 (s.take (a2q s)))=false:=by
     rw[d7n c2.1]
     cases hh:isD (hd0 s)with
     |false=>rfl
     |true=>exact absurd ⟨c2.1,hh⟩ c1
    have e2:=e6a hall hne hd c2.2 om
    cases hw:b9w (s.take (a2q s))with
    |true=>
     rw[hw]at e2
     exact⟨fun _=>ld 2 0 c2.1 (by simpa using e2),by simp,fun _=>hw,by simp,by simp,by simp,by simp,by simp⟩
    |false=>
     rw[hw]at e2
     exact⟨fun _=>ld 1 0 c2.1 (by simpa using e2),fun _=>⟨hw,hall⟩,by simp,by simp,by simp,by simp,by simp,by simp⟩
  ·by_cases c3:a2x s≠[]
   ·have e1:a1k szL s=⟨4,a2x s,0,(a2x s).length,0⟩:=by unfold a1k;rw[if_neg c1,if_neg c2,if_pos c3]
    rw[e1]
    rcases c7a s with h0|⟨_,h1,h2⟩|⟨h1,h2,h3,h4⟩
    ·exact absurd h0 c3
    ·rw[<-h1]at h2
     obtain⟨q1,q2,q3,q4,q5,q6,q7⟩:=e5x _ h2
     have hl:=(e1c _ h2)
     refine⟨fun _=>⟨c3,hl.2,q6,fun e=>absurd e q7,g0r q1 q2 q3 q4 q5⟩,by simp,by simp,by simp,fun _=> .inl h2,by simp,by simp,by simp⟩
    ·have h5:a2x s=[hd0 s]:=by
      rw[h2]
      cases s with
      |nil=>exact absurd rfl h1
      |cons c r=>rfl
     have q:=e5i _ h3
     rw[h5]
     obtain⟨q1,q2,q3,q4,q5,q6⟩:=q
     refine⟨fun _=>⟨by simp,fun c hc=>?_,q6,fun e=>?_,g0r q1 q2 q3 q4 q5⟩,by simp,by simp,by simp,fun _=> .inr ⟨_,h3,rfl⟩,by simp,by simp,by simp⟩
     ·rw[List.mem_singleton.1 hc];exact e2p _ h3
     ·have:hd0 s=47:=e
      rw[this]
   ·have e1:(a1k szL s).e=111:=by unfold a1k;rw[if_neg c1,if_neg c2,if_neg c3]
    rw[e1]at h;cases h
theorem e5n:∀ (n a:Nat) (s:List UInt8),s.length<=n->∀ x∈(toks a s).1,Shape x:=by
 have hend:∀ f e,Shape ⟨5,[],0,f,e⟩:=fun f e=>⟨by simp,by simp,by simp,by simp,by simp,by simp,by simp,by simp⟩
 intro n
 induction n with
 |zero=>
  intro a s hs x hx
  have e:s=[]:=List.eq_nil_of_length_eq_zero om
  subst e
  rw[a3u a rfl]at hx
  simp only[List.mem_singleton]at hx
  subst hx
  exact hend _ _
 |succ n ih=>
  intro a s hs x hx
  by_cases h0:s.drop (a0j false s)=[]
  ·rw[a3u a h0]at hx
   simp only[List.mem_singleton]at hx
   subst hx
   exact hend _ _
  ·by_cases he:(a1k szL (s.drop (a0j false s))).e=0
   ·have hd:=c6g s (by simp[h0,he])
    rw[b3i a h0 he]at hx
    unfold after at hx
    split at hx
    ·rcases List.mem_append.1 hx with h1|h1
     ·simp only[List.mem_singleton]at h1
      subst h1
      exact e5k he _ _
     ·exact ih _ _ om x h1
    ·cases hx
   ·rw[b1l a h0 he]at hx
    cases hx
theorem e6q {s:List UInt8}:∀ x∈(a0k s).1,Shape x:=by
 intro x hx
 unfold a0k at hx
 split at hx
 ·cases hx
 ·split at hx
  ·cases hx
  ·exact e5n _ _ _ (Nat.le_refl _) x hx
end Go.Vm.Lex
namespace Go.Vm.Pa
open Go.Vm.Lex (TokQ a0k)
abbrev S0:PS:=⟨0,0,[],0,0,0,0⟩
theorem lokT {src:S} (h:(a0k src).2.c=0):LOk (a0k src).1:=by
 have ht:=e8p h
 have all:∀ i,(a0k src).1.getD i default=default\/Lex.Shape ((a0k src).1.getD i default):=fun i=>by
   rw[List.getD_eq_getElem?_getD]
   cases c:(a0k src).1[i]? with
   |none=>exact .inl rfl
   |some x=>exact .inr (Lex.e6q x (List.mem_of_getElem? c))
 refine⟨by have:=ht.len;omega,fun i=>by have:=ht.txt i;omega,ht.last,fun i hk hm=>?_,fun i hk hm=>?_,fun i hk hm=>?_⟩
 ·rcases all i with e|s
  ·rw[e]at hk;cases hk
  ·obtain⟨h1,h2⟩:=s.k1 hk
   revert h1 h2 hm
   generalize((a0k src).1.getD i default).t=t
   intro hm
   simp only[f8o,List.mem_cons,List.not_mem_nil,or_false]at hm
   rcases hm with rfl|rfl|rfl|rfl|rfl<;>decide
 ·rcases all i with e|s
  ·rw[e]at hk;cases hk
  ·have h1:=s.k2 hk
   revert h1 hm
   generalize((a0k src).1.getD i default).t=t
   intro hm
   simp only[e6r,List.mem_cons,List.not_mem_nil,or_false]at hm
   rcases hm with rfl|rfl|rfl|rfl|rfl|rfl|rfl|rfl|rfl|rfl|rfl|rfl|rfl|rfl|rfl|rfl<;>decide
 ·rcases all i with e|s
  ·rw[e]at hk;cases hk
  ·have h1:=s.k4 hk
   revert h1 hm
   generalize((a0k src).1.getD i default).t=t
   intro hm
   simp only[List.mem_cons,List.not_mem_nil,or_false]at hm
   rintro(h1|⟨c,_,h1⟩)
   ·revert h1
    rcases hm with rfl|rfl|rfl<;>decide
   ·rcases hm with rfl|rfl|rfl<;>exact absurd (congrArg List.length h1) (by simp)
theorem c8g {s:S}:∀ {l:List TokQ} {a:Nat},Lex.Chain s a l->(∀ i,i < l.length->(l.getD i default).f<=(l.getD i default).e/\(l.getD i default).e<=s.length/\a<=(l.getD i default).f)/\∀ i,i+1 < l.length->(l.getD i default).e<=(l.getD (i+1) default).f
 |[],_,_=>⟨fun i hi=>by simp at hi,fun i hi=>by simp at hi⟩
 |x::r,a,h=>by
  obtain⟨h1,h2,h3,_,_,_,h7⟩:=h
  obtain⟨i1,i2⟩:=c8g h7
  refine⟨fun i hi=>?_,fun i hi=>?_⟩
  ·cases i with
   |zero=>exact⟨h2,h3,h1⟩
   |succ i=>
    have:=i1 i (by simpa using hi)
    simp only[List.getD_cons_succ]
    omega
  ·cases i with
   |zero=>
    have:=i1 0 (by simpa using hi)
    simp only[List.getD_cons_succ,List.getD_cons_zero]
    omega
   |succ i=>
    simp only[List.getD_cons_succ]
    exact i2 i (by simpa using hi)
theorem plcT {src:S} (h:(a0k src).2.c=0):Plc (a0k src).1:=by
 obtain⟨_,_,_,hc,_,_⟩:=Lex.a9y src h
 obtain⟨h1,h2⟩:=c8g hc
 exact⟨fun i hi=>(h1 i hi).1,h2⟩
theorem f1r {src:S} (h:(a0k src).2.c=0) (i:Nat):((a0k src).1.getD i default).f<=((a0k src).1.getD i default).e/\((a0k src).1.getD i default).e<=src.length:=by
 obtain⟨_,_,_,hc,_,_⟩:=Lex.a9y src h
 obtain⟨h1,_⟩:=c8g hc
 by_cases hi:i < (a0k src).1.length
 ·exact⟨(h1 i hi).1,(h1 i hi).2.1⟩
 ·rw[List.getD_eq_getElem?_getD,List.getElem?_eq_none om]
  exact⟨Nat.le_refl _,Nat.zero_le _⟩
def f1u (l:List TokQ) (x:EX):Prop:=∀ c f e,x= .bad c f e->(c=120\/c=121)/\∃ i:Nat,f=(l.getD i default).f/\e=(l.getD i default).e
section
variable {l:List TokQ}
theorem f1m {g:Q->PS->Option EX} (hg:∀ q s x,g q s=some x->f1u l x):∀ (p:Pr) (s:PS) (x:EX),a0c l g p s=some x->f1u l x:=by
 have hb:∀ (c:Int) (s:PS) (x:EX),c=120\/c=121->e7d l c s=some x->f1u l x:=fun c s x hc h=>by
   simp only[e7d,Option.some.injEq]at h
   subst h
   rintro c' f e h
   simp only[EX.bad.injEq]at h
   obtain⟨rfl,rfl,rfl⟩:=h
   exact⟨hc,s.at_.toNat,rfl,rfl⟩
 intro p
 induction p with
 |ret r=>intro s x h;simp only[a0c,Option.some.injEq]at h;subst h;intro c f e h;cases h
 |dead=>intro s x h;cases h
 |tail q=>intro s x h;exact hg q s x h
 |fail k ih=>intro s x h;exact hb 120 s x (.inl rfl) h
 |take y k ih=>intro s x h;simp only[a0c]at h;split at h<;>exact ih _ _ _ h
 |need y k ih=>intro s x h;simp only[a0c]at h;split at h<;>first|exact ih _ _ h|exact hb 120 s x (.inl rfl) h
 |name k ih=>intro s x h;simp only[a0c]at h;split at h<;>first|exact ih _ _ _ h|exact hb 120 s x (.inl rfl) h
 |is y k ih=>intro s x h;exact ih _ _ _ h
 |ok k ih=>intro s x h;exact ih _ _ _ h
 |kind y k ih=>intro s x h;exact ih _ _ _ h
 |text y k ih=>intro s x h;exact ih _ _ _ h
 |val k ih=>intro s x h;exact ih _ _ _ h
 |sign y k ih=>intro s x h;exact ih _ _ _ h
 |pos k ih=>intro s x h;exact ih _ _ _ h
 |down k ih=>intro s x h;exact ih _ _ h
 |adv k ih=>intro s x h;simp only[a0c]at h;split at h<;>first|exact ih _ _ h|cases h
 |into y k ih=>
  intro s x h
  simp only[a0c]at h
  split at h
  ·split at h
   ·exact hb 121 s x (.inr rfl) h
   ·exact ih _ _ _ h
  ·exact hb 120 s x (.inl rfl) h
 |node fr n k ih=>intro s x h;simp only[a0c]at h;split at h<;>first|exact ih _ _ _ h|cases h
 |unit k ih=>intro s x h;simp only[a0c]at h;split at h<;>first|exact ih _ _ _ h|cases h
 |call q k ih=>
  intro s x h
  simp only[a0c]at h
  split at h
  ·split at h
   ·exact ih _ _ _ h
   ·cases h
  ·exact hg _ _ _ h
theorem d7m:∀ (n:Nat) (q:Q) (s:PS) (x:EX),goE l n q s=some x->f1u l x
 |0,_,_,_,h=>by cases h
 |n+1,q,s,x,h=>f1m (fun q s x=>d7m n q s x) (prog q) s x h
end
def c7x (l:List TokQ):Option EX->Option EX
 |some (.ok r s1)=>match okS l s1 && okK r.ks && decide (s1.ns.length=s1.n) && decide (s1.n < 1000000)with
  |true=>some (.ok (rI (w (((s1.n+1:Nat):Int) - 1))) {s1 with n:=s1.n+1,ns:=s1.ns++[N.D ⟨1,[],0,r.ks.l⟩ 0 (now l s1).e]})
  |false=>none
 |x=>x
inductive Ru where
 |crate|expr|typ|pat
def Ru.q:Ru->Q
 | .crate=> .items K.o
 | .expr=> .expr false
 | .typ=> .typ
 | .pat=> .pattern
def Ru.run (l:List TokQ) (n:Nat):Ru->Option EX
 | .crate=>c7x l (goE l n (.items K.o) S0)
 | .expr=>goE l n (.expr false) S0
 | .typ=>goE l n .typ S0
 | .pat=>goE l n .pattern S0
theorem b9v {l:List TokQ} {o o':Option EX} (h:∀ x,o=some x->o'=some x):∀ x,c7x l o=some x->c7x l o'=some x:=by
 intro x hx
 cases o with
 |none=>cases hx
 |some y=>rw[h y rfl];exact hx
theorem Ru.mono {l:List TokQ} {n m:Nat} (hm:n<=m):∀ {u:Ru} {x:EX},u.run l n=some x->u.run l m=some x
 | .crate,x,h=>b9v (fun _ e=>a6r hm e) x h
 | .expr,_,h=>a6r hm h
 | .typ,_,h=>a6r hm h
 | .pat,_,h=>a6r hm h
theorem Ru.uniq {l:List TokQ} {n m:Nat} {u:Ru} {x y:EX} (h:u.run l n=some x) (h':u.run l m=some y):x=y:=by
 have h1:=Ru.mono (Nat.le_max_left n m) h
 have h2:=Ru.mono (Nat.le_max_right n m) h'
 exact Option.some.inj (h1.symm.trans h2)
structure Whole (l:List TokQ) (u:Ru) (s1:PS) (T:Fo):Prop where
 ok:okS l s1=true
 ns:s1.ns=T.lay 0
 n:s1.n=T.sz
 sz:T.sz<=1000000
 one:∃ k t v f e W,T= .cons k t v f e W .nil/\(u= .crate->k=1/\t=[]/\v=0/\f=0/\e=(now l s1).e)
 wi:T.wi 0 (eAt l l.length)
theorem f4f {l:List TokQ} (ht:TOk l) (hne:0 < l.length) (u:Ru):∃ r s1,go l (64*l.length+20) u.q S0=some (r,s1)/\Post l u.q S0 r s1:=by
 have hlen:=ht.len
 have p:Pre l u.q S0:=by
  refine⟨by show(0:Int)<=0;omega,by show(0:Int) < l.length;omega,⟨rfl,[],rfl,fun x hx=>by cases hx⟩,⟨fun _=>?_,fun h=>absurd rfl h⟩,fun _=>rfl,?_⟩
  ·show((0:Nat):Int)+15* ((l.length:Int) - 0)+(cQ u.q:Int)<=999990
   cases u<;>simp only[Ru.q,cQ]<;>omega
  ·cases u<;>first|trivial|exact⟨a7e _,by show((0:Nat):Int)<=0+3;omega,fun _=>by show((0:Nat):Int)<=0+2;omega⟩
 have m:Mu l u.q S0 (64*l.length+20):=by
  refine⟨fun _=>?_,fun h=>absurd rfl h⟩
  show 64* ((l.length:Int) - 0)+1+rQ u.q < ((64*l.length+20:Nat):Int)
  cases u<;>simp only[Ru.q,rQ]<;>omega
 exact f2h ht _ _ _ p m
theorem e5c {W:Fo} {n:Nat} {i:Int} (h:W.idx n=[.int .i64 i]):∃ k t v f e K,W= .cons k t v f e K .nil/\i=((n+K.sz:Nat):Int):=by
 cases W with
 |nil=>cases h
 |cons k t v f e a b=>
  simp only[Fo.idx,List.cons.injEq,D.int.injEq,true_and]at h
  obtain⟨h1,h2⟩:=h
  cases b with
  |nil=>exact⟨k,t,v,f,e,a,rfl,h1.symm⟩
  |cons _ _ _ _ _ _ _=>cases h2
theorem f3o {src:S} (h:(a0k src).2.c=0) (u:Ru):∃ n x,u.run (a0k src).1 n=some x/\f1u (a0k src).1 x/\∀ r s1,x= .ok r s1->∃ T,Whole (a0k src).1 u s1 T:=by
 have ht:=e8p h
 have hl:=lokT h
 have hp:=plcT h
 have hne:0 < (a0k src).1.length:=List.length_pos_iff.2 (Lex.a9y src h).2.2.2.2.1
 obtain⟨l,hll⟩:∃ l,(a0k src).1=l:=⟨_,rfl⟩
 rw[hll]at ht hl hp hne⊢
 have hlen:=ht.len
 obtain⟨r,s1,hg,P⟩:=f4f ht hne u
 have hal:=d2f _ _ _ _ _ hg rfl
 have hbad:=fun x=>d7m (l:=l) (64*l.length+20) u.q S0 x
 have hhi:=P.hi
 obtain⟨p1,p2,p3,p4,p5⟩:=P.num
 have hat:0<=s1.at_:=p1
 have ho:okS l s1=true:=by unfold okS;rw[decide_eq_true hat,decide_eq_true hhi];rfl
 by_cases hb:s1.bc=0
 ·have hE:=hal.1 hb
  have hn:s1.n<=990000:=by
   have:=p5 rfl
   simp only[show S0.at_=0 from rfl,show S0.n=0 from rfl]at this
   have hc:cQ u.q<=3:=by cases u<;>decide
   omega
  have sk:=h5i hl hp _ u.q S0 r s1 .nil 0 (by unfold okS;rw[decide_eq_true (show(0:Int)<=S0.at_ from Int.le_refl _),decide_eq_true (show S0.at_ < (l.length:Int)by show(0:Int) < _;omega)];rfl) (by
    refine⟨Int.le_refl _,?_⟩
    cases u<;>first|exact Int.le_refl _|exact⟨rfl,fun fr hf=>by cases hf⟩) (by cases u<;>exact⟨.nil,rfl,rfl,rfl,trivial⟩) hE
  obtain⟨W,w1,w2,w3,w4⟩:=sk
  have w1:s1.ns=W.lay 0:=w1
  have w2:s1.n=W.sz:=w2
  have w3:W.idx 0=(b7j u.q).fin r:=w3
  have h0f:(0:Int)<=fAt l 0:=by unfold fAt;omega
  have hle:eAt l s1.at_<=eAt l l.length:=c1c hp om (Int.le_refl _) hne
  have single:∀ (hu:(b7j u.q).fin r=[.int .i64 r.i]) (hu2:u≠ .crate),∃ T,Whole l u s1 T:=fun hu hu2=>by
    obtain⟨k,t,v,f,e,K,hW,_⟩:=e5c (w3.trans hu)
    exact⟨W,ho,w1,w2,om,⟨k,t,v,f,e,K,hW,fun hh=>absurd hh hu2⟩,Fo.b8u h0f hle w4⟩
  cases u with
  |crate=>
   obtain⟨⟨k1,il,k2,k3⟩,k4⟩:=P.rk
   have ck:okK r.ks=true:=by unfold okK;rw[decide_eq_true k1,decide_eq_true om];rfl
   refine⟨64*l.length+20,.ok (rI (w (((s1.n+1:Nat):Int) - 1))) {s1 with n:=s1.n+1,ns:=s1.ns++[N.D ⟨1,[],0,r.ks.l⟩ 0 (now l s1).e]},by
     show c7x l (goE l (64*l.length+20) (.items K.o) S0)=_
     rw[show goE l (64*l.length+20) (.items K.o) S0=_ from hE]
     simp only[c7x,ho,ck,decide_eq_true P.ns.1,decide_eq_true (show s1.n < 1000000 by omega),Bool.and_self],fun c f e hh=>(by cases hh),fun r' s' hh=>?_⟩
   simp only[EX.ok.injEq]at hh
   obtain⟨rfl,rfl⟩:=hh
   refine⟨.cons 1 [] 0 0 (now l s1).e W .nil,ho,?_,?_,?_,⟨_,_,_,_,_,_,rfl,fun _=>⟨rfl,rfl,rfl,rfl,rfl⟩⟩,?_⟩
   ·show s1.ns++[_]=_
    rw[w1]
    simp only[Fo.lay]
    rw[w3]
    rfl
   ·show s1.n+1=_
    rw[w2]
    rfl
   ·show W.sz+1+0<=_
    omega
   ·have e1:((now l s1).e:Int)=eAt l (s1.at_+1):=by unfold eAt now;rw[Int.add_sub_cancel]
    refine⟨Int.le_refl _,om,?_,?_,trivial⟩
    ·rw[e1];exact c1c hp om (Int.le_refl _) hne
    ·exact Fo.b8u h0f (by rw[e1];exact c1c hp om om hne) w4
  |expr=>exact⟨64*l.length+20,.ok r s1,hE,(fun c f e hh=>by cases hh),fun r' s' hh=>by cases hh;exact single rfl (by simp)⟩
  |typ=>exact⟨64*l.length+20,.ok r s1,hE,(fun c f e hh=>by cases hh),fun r' s' hh=>by cases hh;exact single rfl (by simp)⟩
  |pat=>exact⟨64*l.length+20,.ok r s1,hE,(fun c f e hh=>by cases hh),fun r' s' hh=>by cases hh;exact single rfl (by simp)⟩
 ·have hE:=hal.2 hb
  have hB:=hbad _ hE
  cases u with
  |crate=>
   refine⟨64*l.length+20,.bad s1.bc s1.bf s1.be,by
     show c7x l (goE l (64*l.length+20) (.items K.o) S0)=_
     rw[show goE l (64*l.length+20) (.items K.o) S0=_ from hE]
     rfl,hB,fun r' s' hh=>by cases hh⟩
  |expr=>exact⟨64*l.length+20,.bad s1.bc s1.bf s1.be,hE,hB,fun r' s' hh=>by cases hh⟩
  |typ=>exact⟨64*l.length+20,.bad s1.bc s1.bf s1.be,hE,hB,fun r' s' hh=>by cases hh⟩
  |pat=>exact⟨64*l.length+20,.bad s1.bc s1.bf s1.be,hE,hB,fun r' s' hh=>by cases hh⟩
end Go.Vm.Pa
namespace Go.Vm.Pa
open Go.Vm.Pk (Nd a2w)
def Fo.ix (n:Nat):Fo->List Nat
 | .nil=>[]
 | .cons _ _ _ _ _ a b=>(n+a.sz)::b.ix (n+a.sz+1)
def Fo.nds (n:Nat):Fo->List Nd
 | .nil=>[]
 | .cons k t v f e a b=>a.nds n++⟨k,t,v,a.ix n,f,e⟩::b.nds (n+a.sz+1)
theorem Fo.f1b:∀ (a:Fo) (n:Nat),a.idx n=(a.ix n).map fun k:Nat=>D.int .i64 (k:Int)
  | .nil,_=>rfl
  | .cons _ _ _ _ _ a b,n=>by simp only[Fo.idx,Fo.ix,List.map_cons,Fo.f1b b]
theorem Fo.c7v:∀ (a:Fo) (n:Nat),a.lay n=(a.nds n).map Nd.D
 | .nil,_=>rfl
 | .cons k t v f e a b,n=>by
   simp only[Fo.lay,Fo.nds,List.map_append,List.map_cons,Fo.c7v a,Fo.c7v b]
   rw[Fo.f1b]
   rfl
theorem Fo.b3f:∀ (a:Fo) (n:Nat),(a.nds n).length=a.sz
 | .nil,_=>rfl
 | .cons _ _ _ _ _ a b,n=>by simp only[Fo.nds,List.length_append,List.length_cons,Fo.b3f a,Fo.b3f b,Fo.sz];omega
theorem Fo.f7o:∀ (a:Fo) (n:Nat),(a.ix n).length<=a.sz/\∀ k∈a.ix n,n<=k/\k < n+a.sz
 | .nil,_=>⟨Nat.le_refl _,fun k hk=>by cases hk⟩
 | .cons _ _ _ _ _ a b,n=>by
   obtain⟨h1,h2⟩:=Fo.f7o b (n+a.sz+1)
   simp only[Fo.ix,Fo.sz,List.length_cons,List.mem_cons]
   refine⟨om,?_⟩
   rintro k (rfl|hk)
   ·omega
   ·have:=h2 k hk;omega
theorem Fo.e8b:∀ (a:Fo) (n j:Nat) (nd:Nd),(a.nds n)[j]? =some nd->nd.ks.length<=j/\∀ k∈nd.ks,n<=k/\k < n+j
 | .nil,_,_,_,h=>by simp[Fo.nds]at h
 | .cons k t v f e a b,n,j,nd,h=>by
   simp only[Fo.nds]at h
   have hl:=Fo.b3f a n
   by_cases h1:j < a.sz
   ·rw[List.getElem?_append_left om]at h
    exact Fo.e8b a n j nd h
   ·rw[List.getElem?_append_right om,hl]at h
    by_cases h2:j=a.sz
    ·subst h2
     rw[Nat.sub_self]at h
     simp only[List.getElem?_cons_zero,Option.some.injEq]at h
     subst h
     exact Fo.f7o a n
    ·obtain⟨m,hm⟩:∃ m,j - a.sz=m+1:=⟨j - a.sz - 1,om⟩
     rw[hm,List.getElem?_cons_succ]at h
     obtain⟨q1,q2⟩:=Fo.e8b b (n+a.sz+1) m nd h
     refine⟨om,fun k hk=>?_⟩
     have:=q2 k hk
     omega
def d9t (T:Fo) (len:Nat):Fo×Int×Int×Int:=if 20000 < T.sz then(.nil,2,0,len) else if 400 < a2w (T.nds 0) then(.nil,121,0,len) else(T,0,0,0)
end Go.Vm.Pa
namespace Go.Vm.Px
open Go.Vm.Lex (TokQ a0k a7b dgD)
open Go.Vm.Pa hiding go
open Go.Vm.Pk (Nd a2w)
open Go.Vm.Ite
open Go Go.Proofs Go.RowKit
def c7f (W:Fo):D:=c2y (W.nds 0)
def h9s (l:List TokQ) (u:Ru) (len:Nat):EX->Fo->Int->Int->Int->Prop
 | .bad c0 f0 e0,W,c,f,e=>W= .nil/\c=c0/\f=f0/\e=e0/\(c0=120\/c0=121)/\∃ i:Nat,f0=(l.getD i default).f/\e0=(l.getD i default).e
 | .ok _ s1,W,c,f,e=> ∃ T,Whole l u s1 T/\if(now l s1).k=5 then(W,c,f,e)=d9t T len else W= .nil/\c=120/\f=(now l s1).f/\e=(now l s1).e
def f3s (u:Ru) (src:S) (W:Fo) (c f e:Int):Prop:=
 (65536 < src.length/\W= .nil/\c=2/\f=0/\e=0)\/
 (src.length<=65536/\(a0k src).2.c≠0/\W= .nil/\c=(a0k src).2.c/\f=(a0k src).2.f/\e=(a0k src).2.e)\/
 (src.length<=65536/\(a0k src).2.c=0/\∃ n x,u.run (a0k src).1 n=some x/\h9s (a0k src).1 u src.length x W c f e)
def h5o:Ru->Nat
 | .crate=>21
 | .expr=>22
 | .typ=>37
 | .pat=>39
theorem d5f (l:List TokQ) (o:Option EX):b8a l o=c7x l o:=by
 cases o with
 |none=>rfl
 |some x=>cases x<;>rfl
section
variable {fx:Nat->Option Obj}
theorem f0l (T:Fo) (len:Nat):d9v (T.nds 0) len= .tup [.d (c7f (d9t T len).1),.d (dgD (d9t T len).2.1 (d9t T len).2.2.1 (d9t T len).2.2.2)]:=by
 unfold d9v d9t
 rw[Fo.b3f]
 split
 ·rfl
 ·split<;>rfl
theorem f2b {T:Fo} (h1:T.sz<=1000000) (h2:T≠ .nil):f2p (T.nds 0):=by
 refine⟨fun e=>h2 ?_,by rw[Fo.b3f];exact h1,fun j nd hj=>?_⟩
 ·cases T with
  |nil=>rfl
  |cons _ _ _ _ _ a b=>simp[Fo.nds]at e
 ·have hlt:=(List.getElem?_eq_some_iff.1 hj).1
  rw[Fo.b3f]at hlt
  obtain⟨q1,q2⟩:=Fo.e8b T 0 j nd hj
  exact⟨om,fun k hk=>by have:=q2 k hk;omega⟩
theorem b6z (X:e7g fx) (u:Ru) (src:S):∃ W c f e,f3s u src W c f e/\∀ H,a1z Tryz.prog ⟨fun _=>[],fx⟩ 20 [.d (.str src),.fn (h5o u) []] H (.tup [.d (c7f W),.d (dgD c f e)]) H:=by
  by_cases h1:65536 < src.length
  ·exact⟨.nil,2,0,0,.inl ⟨h1,rfl,rfl,rfl,rfl⟩,fun H=>e1t X src _ (by decide) (.inl ⟨h1,rfl,rfl,rfl⟩) H⟩
  by_cases hc:(a0k src).2.c=0
  rotate_left
  ·exact⟨.nil,(a0k src).2.c,(a0k src).2.f,(a0k src).2.e,.inr (.inl ⟨om,hc,rfl,rfl,rfl,rfl⟩),fun H=>e1t X src _ hc (.inr ⟨om,rfl,rfl,rfl⟩) H⟩
  obtain⟨n,x,hrun,hbad,hok⟩:=f3o hc u
  have hne:0 < (a0k src).1.length:=List.length_pos_iff.2 (Go.Vm.Lex.a9y src hc).2.2.2.2.1
  have A:AtP (H7 (a0k src).1 (a0k src).2.c (a0k src).2.f (a0k src).2.e P0) 3 4 (a0k src).1 P0 false:=⟨by decide,rfl,rfl⟩
  have G:Good (a0k src).1 P0:=⟨lokT hc,by unfold okS;rw[decide_eq_true (show(0:Int)<=P0.at_ from Int.le_refl _),decide_eq_true (show P0.at_ < ((a0k src).1.length:Int)by show(0:Int) < _;omega)];rfl,rfl,rfl,rfl⟩
  have hs:∀ s1,d0h (H7 (a0k src).1 (a0k src).2.c (a0k src).2.f (a0k src).2.e P0) 3 4 (a0k src).1 s1 false=H7 (a0k src).1 (a0k src).2.c (a0k src).2.f (a0k src).2.e s1:=fun _=>rfl
  cases x with
  |bad c f e=>
   obtain⟨q1,q2⟩:=hbad c f e rfl
   have hd:b2g Tryz.prog ⟨fun _=>[],fx⟩ (KP 3) f0o (h5o u) [.ptr 3 0] (H7 (a0k src).1 (a0k src).2.c (a0k src).2.f (a0k src).2.e P0) (c7z c f e):=by
     cases u with
     |crate=>
      refine e6s (n:=n) G A ?_
      rw[d5f]
      exact b9v (fun y hy=>a6r (Nat.le_succ n) hy) _ hrun
     |expr=>exact c8f (n:=n) (q:= .expr false) rfl G A hrun
     |typ=>exact c8f (n:=n) (q:= .typ) rfl G A hrun
     |pat=>exact c8f (n:=n) (q:= .pattern) rfl G A hrun
   exact⟨.nil,c,f,e,.inr (.inr ⟨om,hc,n,_,hrun,rfl,rfl,rfl,rfl,q1,q2⟩),fun H=>e1m X src _ om hc (d2u hd (by show 3 < 6;decide)) H⟩
  |ok r s1=>
   obtain⟨T,hT⟩:=hok r s1 rfl
   have hf:∃ v,a1z Tryz.prog ⟨fun _=>[],fx⟩ (h5o u) [.ptr 3 0] (H7 (a0k src).1 (a0k src).2.c (a0k src).2.f (a0k src).2.e P0) v (d0h (H7 (a0k src).1 (a0k src).2.c (a0k src).2.f (a0k src).2.e P0) 3 4 (a0k src).1 s1 false):=by
     cases u with
     |crate=>
      refine⟨_,f7f (n:=n) (R:=r) G A ?_⟩
      rw[d5f]
      exact b9v (fun y hy=>a6r (Nat.le_succ n) hy) _ hrun
     |expr=>exact⟨_,d8b (n:=n) (q:= .expr false) (.inl rfl) rfl G A hrun⟩
     |typ=>exact⟨_,d8b (n:=n) (q:= .typ) (.inr (.inl rfl)) rfl G A hrun⟩
     |pat=>exact⟨_,d8b (n:=n) (q:= .pattern) (.inr (.inr rfl)) rfl G A hrun⟩
   obtain⟨v,hf⟩:=hf
   by_cases h5:(now (a0k src).1 s1).k=5
   ·have hr:=d1o A hf hT.ok h5
    have hTn:T≠ .nil:=by obtain⟨_,_,_,_,_,_,rfl,_⟩:=hT.one;simp
    refine⟨(d9t T src.length).1,(d9t T src.length).2.1,(d9t T src.length).2.2.1,(d9t T src.length).2.2.2,.inr (.inr ⟨om,hc,n,_,hrun,T,hT,?_⟩),fun H=>?_⟩
    ·rw[if_pos h5]
    ·rw[<-f0l]
     exact e9s X src _ om hc (hT.ns.trans (Fo.c7v T 0)) (hT.n.trans (Fo.b3f T 0).symm) (f2b hT.sz hTn) hr H
   ·have hr:=f9d A hf hT.ok h5
    refine⟨.nil,120,(now (a0k src).1 s1).f,(now (a0k src).1 s1).e,.inr (.inr ⟨om,hc,n,_,hrun,T,hT,?_⟩),fun H=>e1m X src _ om hc hr H⟩
    rw[if_neg h5]
    exact⟨rfl,rfl,rfl,rfl⟩
end
end Go.Vm.Px
namespace Go.Vm.Px
open Go.Vm.Lex (TokQ a0k a7b dgD)
open Go.Vm.Pa hiding go
open Go.Vm.Pk (Nd a2w)
open Go.Vm.Ite
open Go Go.Proofs Go.RowKit
def h8o:Nat->Option Ru
 |21=>some .crate
 |22=>some .expr
 |37=>some .typ
 |39=>some .pat
 |_=>none
theorem g2m {n:Nat} {u:Ru} (h:h8o n=some u):n=h5o u:=by
 unfold h8o at h
 split at h<;>cases h<;>rfl
section
variable {fx:Nat->Option Obj} (X:e7g fx)
noncomputable def rdW (u:Ru) (s:S):Fo:=(b6z X u s).choose
noncomputable def rdC (u:Ru) (s:S):Int:=(b6z X u s).choose_spec.choose
noncomputable def rdF (u:Ru) (s:S):Int:=(b6z X u s).choose_spec.choose_spec.choose
noncomputable def rdE (u:Ru) (s:S):Int:=(b6z X u s).choose_spec.choose_spec.choose_spec.choose
theorem b3m (u:Ru) (s:S):f3s u s (rdW X u s) (rdC X u s) (rdF X u s) (rdE X u s):=(b6z X u s).choose_spec.choose_spec.choose_spec.choose_spec.1
noncomputable def rdV (u:Ru) (s:S):V:= .tup [.d (c7f (rdW X u s)),.d (dgD (rdC X u s) (rdF X u s) (rdE X u s))]
noncomputable def d1w:List V->Hp->Option (V×Hp)
 |[.d (.str s),.fn n []],H=>(h8o n).map fun u=>(rdV X u s,H)
 |_,_=>none
noncomputable def FW:Nat->Option a0v
 |20=>some (.prim (d1w X))
 |n=>FL n
theorem i5p:∀ f e,FW X f=some e->match e with| .prim p=> ∀ args H r H',p args H=some (r,H')->a1z Tryz.prog ⟨fun _=>[],fx⟩ f args H r H'| .code _=>False:=by
  intro f e h
  unfold FW at h
  split at h
  ·cases h
   intro args H r H' hh
   unfold d1w at hh
   split at hh
   ·rename_i H0 s n
    cases hr:h8o n with
    |none=>rw[hr]at hh;cases hh
    |some u=>
     rw[hr]at hh
     cases hh
     rw[g2m hr]
     exact(b6z X u s).choose_spec.choose_spec.choose_spec.choose_spec.2 _
   ·cases hh
  ·exact h5e X f e h
theorem tblW:a3i Tryz.prog (pgL fx (FW X)):=f8k ⟨fun _=>[],fx⟩ (FW X) (i5p X)
instance:HL (FW X):=⟨rfl,rfl,rfl,rfl⟩
theorem d2y (u:Ru) (s:S) (H:Hp):evF (pgL fx (FW X)) 20 [.d (.str s),.fn (h5o u) []] H=some (rdV X u s,H):=by
 rw[b3t (show(pgL fx (FW X)).tbl 20=some (.prim (d1w X))from rfl)]
 cases u<;>rfl
theorem f6x (s:S) (H:Hp):evF (pgL fx (FW X)) d1m [.d (.str s)] H=some (rdV X .crate s,H):=by
 refine a7h (d1l (F:=FW X)) rfl rfl ?_ H
 have h:=d2y X .crate s
 repeat' (first|refine run ⟨?_⟩|refine ca (h _) ?_|fail)
 exact rfl
theorem f2x (s:S) (H:Hp):evF (pgL fx (FW X)) d5z [.d (.str s)] H=some (rdV X .expr s,H):=by
 refine a7h (d5u (F:=FW X)) rfl rfl ?_ H
 have h:=d2y X .expr s
 repeat' (first|refine run ⟨?_⟩|refine ca (h _) ?_|fail)
 exact rfl
theorem g3s (s:S) (H:Hp):evF (pgL fx (FW X)) d4a [.d (.str s)] H=some (rdV X .typ s,H):=by
 refine a7h (d7j (F:=FW X)) rfl rfl ?_ H
 have h:=d2y X .typ s
 repeat' (first|refine run ⟨?_⟩|refine ca (h _) ?_|fail)
 exact rfl
theorem e5v (s:S) (H:Hp):evF (pgL fx (FW X)) c6k [.d (.str s)] H=some (rdV X .pat s,H):=by
 refine a7h (c6u (F:=FW X)) rfl rfl ?_ H
 have h:=d2y X .pat s
 repeat' (first|refine run ⟨?_⟩|refine ca (h _) ?_|fail)
 exact rfl
end
end Go.Vm.Px
namespace Go.Vm.Lex
def e8m:Nat->Nat->List UInt8->List TokQ×Dg
 |0,_,_=>([],Dg.ok)
 |n+1,a,s=>match s.drop (a0j false s)with
  |[]=>([⟨5,[],0,a+s.length,a+s.length⟩],Dg.ok)
  |c::r=>match a1k szL (c::r)with
   |⟨k,t,v,m,e⟩=>if e=0 then after [⟨k,t,v,a+a0j false s,a+a0j false s+m⟩] (e8m n (a+(a0j false s+m)) (s.drop (a0j false s+m))) else toks a s
theorem g1x:∀ (n a:Nat) (s:List UInt8),s.length < n->toks a s=e8m n a s
 |0,_,_,h=>om
 |n+1,a,s,h=>by
  cases hd:s.drop (a0j false s)with
  |nil=>rw[a3u a hd];unfold e8m;rw[hd]
  |cons c r=>
   unfold e8m
   rw[hd]
   simp only
   by_cases he:(a1k szL (s.drop (a0j false s))).e=0
   ·have h1:=c6g s (by simp[hd];rw[<-hd];exact he)
    rw[b3i a (by rw[hd];simp) he,g1x n _ _ om]
    rw[hd]at he⊢
    rw[if_pos he]
   ·rw[hd]at he
    rw[if_neg he]
theorem g2f {n:Nat} {s:List UInt8} (h:(∀ c∈s,c.toNat < 128)) (h1:s.length<=65536) (hn:s.length < n):a0k s=e8m n 0 s:=by
 rw[g2y h1 (f0s s h),g1x n 0 s hn]
end Go.Vm.Lex
namespace Go.Vm.Px
open Go.Vm.Lex (TokQ a0k a7b dgD Dg)
open Go.Vm.Pa hiding go
open Go.Vm.Pk (Nd a2w)
open Go.Vm.Ite
open Go Go.Proofs Go.RowKit
theorem h5f {nds:List Nd} (h:f2p nds):a2w nds<=nds.length:=by
 have h0:0 < nds.length:=List.length_pos_iff.2 h.ne
 have:=(Go.Vm.Pk.f2g (ks:=Go.Vm.Pk.b0k nds) (len:=nds.length) (fun j hj k hk=>by
   have e:nds[j]? =some nds[j]:=List.getElem?_eq_getElem hj
   have e2:Go.Vm.Pk.b0k nds j=nds[j].ks:=by simp[Go.Vm.Pk.b0k,e]
   rw[e2]at hk
   exact(h.kid j _ e).2 k hk) h0 (Go.Vm.Pk.back nds.length nds.length)).2
 rw[Go.Vm.Pk.c8u]at this
 exact this
theorem d1d {T:Fo} {len:Nat} (h:T.sz<=400) (hn:T≠ .nil):d9t T len=(T,0,0,0):=by
 have:=h5f (f2b (T:=T) om hn)
 rw[Fo.b3f]at this
 unfold d9t
 rw[if_neg om,if_neg om]
theorem _root_.Go.Vm.Pa.Whole.ne {l:List TokQ} {u:Ru} {s1:PS} {T:Fo} (h:Whole l u s1 T):T≠ .nil:=by
 obtain⟨_,_,_,_,_,_,rfl,_⟩:=h.one
 simp
theorem f3v {u:Ru} {src:S} {W:Fo} {c f e:Int} (h:f3s u src W c f e) {l:List TokQ} (h1:src.length<=65536) (h2:a0k src=(l,Dg.ok)) {n:Nat} {r:R} {s1:PS} (h3:u.run l n=some (.ok r s1)) (h4:(now l s1).k=5) (h5:s1.n<=400):W.lay 0=s1.ns/\c=0/\f=0/\e=0:=by
 rcases h with⟨q,_⟩|⟨_,q,_⟩|⟨_,_,n',x,hx,ho⟩
 ·omega
 ·rw[h2]at q;exact absurd rfl q
 ·rw[h2]at hx ho
  obtain rfl:=Ru.uniq h3 hx
  obtain⟨T,hT,ho⟩:=ho
  rw[if_pos h4,d1d (by have:=hT.n;omega) hT.ne]at ho
  cases ho
  exact⟨hT.ns.symm,rfl,rfl,rfl⟩
theorem e5y {u:Ru} {src:S} {W:Fo} {c f e:Int} (h:f3s u src W c f e) {l:List TokQ} (h1:src.length<=65536) (h2:a0k src=(l,Dg.ok)) {n:Nat} {c0 f0 e0:Int} (h3:u.run l n=some (.bad c0 f0 e0)):W= .nil/\c=c0/\f=f0/\e=e0:=by
 rcases h with⟨q,_⟩|⟨_,q,_⟩|⟨_,_,n',x,hx,ho⟩
 ·omega
 ·rw[h2]at q;exact absurd rfl q
 ·rw[h2]at hx ho
  obtain rfl:=Ru.uniq h3 hx
  exact⟨ho.1,ho.2.1,ho.2.2.1,ho.2.2.2.1⟩
def g3y:S:=[49,32,43,32,50,32,42,32,51]
def g3g:S:=[102,110,32,109,97,105,110,40,41,32,123,32,49,32,43,32,125]
def h3n:List TokQ:=[⟨3,[49],1,0,1⟩,⟨4,[43],0,2,3⟩,⟨3,[50],2,4,5⟩,⟨4,[42],0,6,7⟩,⟨3,[51],3,8,9⟩,⟨5,[],0,9,9⟩]
def h0y:List TokQ:=[⟨2,[102,110],0,0,2⟩,⟨1,[109,97,105,110],0,3,7⟩,⟨4,[40],0,7,8⟩,⟨4,[41],0,8,9⟩,⟨4,[123],0,10,11⟩,⟨3,[49],1,12,13⟩,⟨4,[43],0,14,15⟩,⟨4,[125],0,16,17⟩,⟨5,[],0,17,17⟩]
theorem lex1:a0k g3y=(h3n,Dg.ok):=by
 rw[Go.Vm.Lex.g2f (n:=30) (by decide) (by decide) (by decide)]
 kernel_rfl
theorem lex2:a0k g3g=(h0y,Dg.ok):=by
 rw[Go.Vm.Lex.g2f (n:=30) (by decide) (by decide) (by decide)]
 kernel_rfl
def nds1:List D:=[N.D ⟨30,[],1,[]⟩ 0 1,N.D ⟨30,[],2,[]⟩ 4 5,N.D ⟨30,[],3,[]⟩ 8 9,N.D ⟨38,[42],0,[.int .i64 1,.int .i64 2]⟩ 4 9,N.D ⟨38,[43],0,[.int .i64 0,.int .i64 3]⟩ 0 9]
theorem run1:Ru.expr.run h3n 60=some (.ok (rI 4) ⟨5,0,nds1,5,0,0,0⟩):=kr
theorem run2:Ru.crate.run h0y 60=some (.bad 120 16 17):=kr
section
variable {fx:Nat->Option Obj} (X:e7g fx)
theorem e7u (H:Hp):evF (pgL fx (FW X)) c9t [] H=some (boo true,H):=by
 have r1:=b3m X .expr g3y
 have r2:=b3m X .crate g3g
 have p1:=fun H=>f2x X g3y H
 have p2:=fun H=>f6x X g3g H
 unfold rdV at p1 p2
 revert r1 r2 p1 p2
 generalize rdW X .expr g3y=W1
 generalize rdC X .expr g3y=c1
 generalize rdF X .expr g3y=f1
 generalize rdE X .expr g3y=e1
 generalize rdW X .crate g3g=W2
 generalize rdC X .crate g3g=c2
 generalize rdF X .crate g3g=f2
 generalize rdE X .crate g3g=e2
 intro r1 r2 p1 p2
 obtain⟨q1,rfl,rfl,rfl⟩:=f3v r1 (by decide) lex1 run1 rfl (by decide)
 obtain⟨rfl,rfl,rfl,rfl⟩:=e5y r2 (by decide) lex2 run2
 have ht:c7f W1= .agg [.sl nds1]:=by unfold c7f c2y;rw[<-Fo.c7v,q1]
 rw[ht]at p1
 refine a7h (c9i (F:=FW X)) rfl rfl ?_ H
 repeat' (first|refine run ⟨?_⟩|refine ca (p1 _) ?_|refine ca (p2 _) ?_|fail)
 exact rfl
end
end Go.Vm.Px
namespace Go.Vm.Px
open Go.Vm.Lex (TokQ a0k a7b dgD Dg)
open Go.Vm.Ite
open Go.Vm.Tp (Nd a6q)
abbrev f4q (l:List Int):List V:=l.map fun n=>i64 n
theorem d2q {l:List Int} {i:Nat} (h:i < l.length):(f4q l)[0+i*1]? =some (i64 (l.getD i 0)):=by
 rw[Nat.zero_add,Nat.mul_one,List.getElem?_map,List.getElem?_eq_getElem h];simp[h]
theorem e3s {l:List Int} {i:Nat} (h:i < l.length) (n:Int):putAt (f4q l) i [i64 n]=f4q (l.set i n):=e7t (fun n=>i64 n) h
theorem i3c {t:List Nd} {i:Nat} (h:i < t.length):0<=(i:Int)/\(t.map Nd.D)[(i:Int).toNat]? =some (t.getD i default).D:=⟨om,by
  rw[Int.toNat_natCast,List.getElem?_map,List.getElem?_eq_getElem h]
  simp[List.getD_eq_getElem?_getD,List.getElem?_eq_getElem h]⟩
theorem i3h {l:List Int} {j:Nat} (h:j < l.length):0<=(j:Int)/\(l.map (D.int .i64))[(j:Int).toNat]? =some (.int .i64 (l.getD j 0)):=⟨om,by
  rw[Int.toNat_natCast,List.getElem?_map,List.getElem?_eq_getElem h]
  simp[List.getD_eq_getElem?_getD,List.getElem?_eq_getElem h]⟩
def d6b:List Int->List Int->List Int
 |[],tb=>tb
 |k::r,tb=>d6b r (tb.set k.toNat (IntKind.i64.wrap (tb.getD k.toNat 0+1)))
def d6a:List Nd->List Int->List Int
 |[],tb=>tb
 |x::r,tb=>d6a r (d6b x.kids tb)
theorem c3k:∀ (l tb:List Int),(d6b l tb).length=tb.length
 |[],_=>rfl
 |k::r,tb=>by rw[d6b,c3k r,List.length_set]
theorem d0x:∀ (l:List Nd) (tb:List Int),(d6a l tb).length=tb.length
 |[],_=>rfl
 |x::r,tb=>by rw[d6a,d0x r,c3k]
def g7k (l:List Int) (j:Nat):Int:=if j=0 then -1 else l.getD (j - 1) 0
structure Ord (t:List Nd):Prop where
 len:t.length<=1000000
 kl:∀ i,i < t.length->(t.getD i default).kids.length<=1000000
 kid:∀ i,i < t.length->∀ j,j < (t.getD i default).kids.length->g7k (t.getD i default).kids j < (t.getD i default).kids.getD j 0/\(t.getD i default).kids.getD j 0 < i
 last:∀ i,i < t.length->0 < (t.getD i default).kids.length->g7k (t.getD i default).kids (t.getD i default).kids.length=i - 1
 seen:∀ i,i < t.length->(d6a t (List.replicate t.length 0)).getD i 0=if i+1 < t.length then 1 else 0
end Go.Vm.Px
namespace Go.Vm.Pa
open Go.Vm.Px (d6b d6a g7k Ord c3k d0x)
open Go.Vm.Tp (Nd a6q)
def Fo.tn (n:Nat):Fo->List Nd
 | .nil=>[]
 | .cons k t v f e a b=>a.tn n++⟨k,t,v,(a.ix n).map fun k:Nat=>(k:Int),f,e⟩::b.tn (n+a.sz+1)
theorem Fo.e3i:∀ (a:Fo) (n:Nat),a.lay n=(a.tn n).map Nd.D
 | .nil,_=>rfl
 | .cons k t v f e a b,n=>by
   simp only[Fo.lay,Fo.tn,List.map_append,List.map_cons,Fo.e3i a,Fo.e3i b]
   rw[Fo.f1b]
   simp only[N.D,Nd.D,List.map_map]
   rfl
theorem Fo.b8g:∀ (a:Fo) (n:Nat),(a.tn n).length=a.sz
 | .nil,_=>rfl
 | .cons _ _ _ _ _ a b,n=>by simp only[Fo.tn,List.length_append,List.length_cons,Fo.b8g a,Fo.b8g b,Fo.sz];omega
theorem Fo.d3e:∀ (F:Fo) (n j:Nat) (nd:Nd),(F.tn n)[j]? =some nd->∃ (a:Fo) (m:Nat),nd.kids=(a.ix m).map (fun k:Nat=>(k:Int))/\m+a.sz=n+j/\n<=m
  | .nil,_,_,_,h=>by simp[Fo.tn]at h
  | .cons k t v f e a b,n,j,nd,h=>by
    simp only[Fo.tn]at h
    have hl:=Fo.b8g a n
    by_cases h1:j < a.sz
    ·rw[List.getElem?_append_left om]at h
     exact Fo.d3e a n j nd h
    ·rw[List.getElem?_append_right om,hl]at h
     by_cases h2:j=a.sz
     ·subst h2
      rw[Nat.sub_self]at h
      simp only[List.getElem?_cons_zero,Option.some.injEq]at h
      subst h
      exact⟨a,n,rfl,rfl,Nat.le_refl _⟩
     ·obtain⟨m,hm⟩:∃ m,j - a.sz=m+1:=⟨j - a.sz - 1,om⟩
      rw[hm,List.getElem?_cons_succ]at h
      obtain⟨c,p,q1,q2,q3⟩:=Fo.d3e b (n+a.sz+1) m nd h
      exact⟨c,p,q1,om,om⟩
end Go.Vm.Pa
namespace Go.Vm.Px
open Go.Vm.Lex (TokQ a0k a7b dgD Dg)
open Go.Vm.Pa hiding go
open Go.Vm.Ite
open Go.Vm.Tp (Nd a6q)
structure Bad (s:S) (W:Fo) (c f e:Int):Prop where
 c:c≠0
 W:W= .nil
 f0:0<=f
 fe:f<=e
 el:e<=s.length
structure Read (u:Ru) (s:S) (W:Fo) (c f e:Int):Prop where
 c:c=0
 f:f=0
 e:e=0
 sz:W.sz<=20000
 one:∃ k t v f e K,W= .cons k t v f e K .nil/\(u= .crate->k=1/\t=[]/\v=0/\f=0)
 wi:W.wi 0 s.length
 hl:s.length<=65536
theorem h6d {s:S} (h:(a0k s).2.c=0) (i:Int):eAt (a0k s).1 i<=s.length:=by
 unfold eAt
 have:=(f1r h (i - 1).toNat).2
 omega
theorem e6f {u:Ru} {s:S} {W:Fo} {c f e:Int} (h:f3s u s W c f e):Bad s W c f e\/Read u s W c f e:=by
 rcases h with⟨_,rfl,rfl,rfl,rfl⟩|⟨h1,h2,rfl,rfl,rfl,rfl⟩|⟨h1,h2,n,x,_,ho⟩
 ·exact .inl ⟨by decide,rfl,Int.le_refl _,Int.le_refl _,om⟩
 ·have:=(Go.Vm.Lex.d9l s h2).2
  exact .inl ⟨h2,rfl,om,om,om⟩
 ·cases x with
  |bad c0 f0 e0=>
   obtain⟨rfl,rfl,rfl,rfl,hc,i,hf,he⟩:=ho
   have:=f1r h2 i
   exact .inl ⟨om,rfl,om,om,om⟩
  |ok r s1=>
   obtain⟨T,hT,ho⟩:=ho
   split at ho
   ·unfold d9t at ho
    split at ho
    ·cases ho
     exact .inl ⟨by decide,rfl,Int.le_refl _,om,om⟩
    ·split at ho
     ·cases ho
      exact .inl ⟨by decide,rfl,Int.le_refl _,om,om⟩
     ·rename_i hn _
      cases ho
      obtain⟨k,t,v,f,e,K,hW,hu⟩:=hT.one
      exact .inr ⟨rfl,rfl,rfl,om,⟨k,t,v,f,e,K,hW,fun h=>by obtain⟨a,b,c,d,_⟩:=hu h;exact⟨a,b,c,d⟩⟩,Fo.b8u (Int.le_refl _) (h6d h2 _) hT.wi,h1⟩
   ·obtain⟨rfl,rfl,rfl,rfl⟩:=ho
    have:=f1r h2 s1.at_.toNat
    exact .inl ⟨by decide,rfl,by unfold now;omega,by unfold now;omega,by unfold now;omega⟩
theorem c1e (W:Fo):c7f W=a6q (W.tn 0):=by
 unfold c7f c2y a6q
 rw[<-Fo.c7v,Fo.e3i]
end Go.Vm.Px

namespace Go.Vm
variable {P:Program}
theorem f5g {m t:Nat} {x:D} (h:P.underlying t=some .string) (hx:d3o P (m+1) t x):∃ s,x= .str s/\s.length<=maxLen:=by
 unfold d3o at hx;rw[h]at hx;exact hx
def fieldsOf (P:Program) (t:Nat):Option (List Nat):=match P.underlying t with|some (.struct fs)=>some (fs.toList.map (·.type))|_=>none
end Go.Vm



namespace Go.Vm.Ip
def kn (x:Its) (s:S):Bool:=known (nS x) s||known (nE x) s
def f4x (l:List Fld):List S:=(l.map Fld.t).filter fun t=>decide (t≠[])
def c7y (x:Its) (s:S):List S×Bool:=match pos (nS x) s with
 |some i=>((x.ss.getD i default).fs.map Fld.t,false)
 |none=>match pos (nE x) s with
  |some i=>(f4x (x.es.getD i default).fs,true)
  |none=>([],false)
end Go.Vm.Ip
namespace Go.Vm.Ip
inductive Gets (x:Its) (s:S):S->Prop
 |one {y:S}:y∈(c7y x s).1->Gets x s y
 |step {y z:S}:Gets x s y->z∈(c7y x y).1->Gets x s z
structure i5j (x:Its) (s:S) (seen todo:List S):Prop where
 r1:∀ y∈seen,Gets x s y
 r2:∀ y∈todo,Gets x s y
 c0:∀ z∈(c7y x s).1,z∈seen\/z∈todo
 c1:∀ y∈seen,∀ z∈(c7y x y).1,z∈seen\/z∈todo
 no:s∉seen
theorem i5j.new {x:Its} {s y:S} {seen todo:List S} (h:i5j x s seen (todo++[y])) (hys:y≠s):i5j x s (seen++[y]) (todo++(c7y x y).1):=by
 have ry:Gets x s y:=h.r2 y (by simp)
 have mv:∀ z,z∈seen\/z∈todo++[y]->z∈seen++[y]\/z∈todo++(c7y x y).1:=fun z hz=>by
   simp only[List.mem_append,List.mem_singleton]at hz⊢
   rcases hz with q|q|q
   ·exact .inl (.inl q)
   ·exact .inr (.inl q)
   ·exact .inl (.inr q)
 refine⟨fun z hz=>?_,fun z hz=>?_,fun z hz=>mv z (h.c0 z hz),fun u hu z hz=>?_,?_⟩
 ·rcases List.mem_append.1 hz with q|q
  ·exact h.r1 z q
  ·rw[List.mem_singleton]at q;exact q ▸ ry
 ·rcases List.mem_append.1 hz with q|q
  ·exact h.r2 z (List.mem_append_left _ q)
  ·exact .step ry q
 ·rcases List.mem_append.1 hu with q|q
  ·exact mv z (h.c1 u q z hz)
  ·rw[List.mem_singleton]at q
   exact .inr (List.mem_append_right _ (q ▸ hz))
 ·intro hm
  rcases List.mem_append.1 hm with q|q
  ·exact h.no q
  ·rw[List.mem_singleton]at q;exact hys q.symm
end Go.Vm.Ip






namespace Go.Vm.Ip
open Go.Vm.Lex (g7u)
def flM (x:Its) (s:S):List Fld:=if known (nS x) s then(nam x.ss s).fs else if known (nE x) s then(nam x.es s).fs else[]
theorem f2q (x:Its) (s:S):c7y x s=if known (nS x) s then((flM x s).map Fld.t,false) else if known (nE x) s then(f4x (flM x s),true) else([],false):=by
 unfold c7y flM nam known
 rw[show x.ss.map Nam.n=nS x from rfl,show x.es.map Nam.n=nE x from rfl]
 cases pos (nS x) s with
 |some i=>rfl
 |none=>
  cases pos (nE x) s with
  |some i=>rfl
  |none=>rfl
end Go.Vm.Ip
namespace Go.Vm.Ip
theorem d4u {l:List Fld} {t:S}:t∈f4x l↔t≠[]/\∃ f∈l,f.t=t:=by
 unfold f4x
 rw[List.mem_filter,List.mem_map]
 constructor
 ·rintro⟨⟨f,hf,rfl⟩,h⟩;exact⟨by simpa using h,f,hf,rfl⟩
 ·rintro⟨h,f,hf,rfl⟩;exact⟨⟨f,hf,rfl⟩,by simpa using h⟩
end Go.Vm.Ip





namespace Go.Vm.Ip
open Go.Vm.Lex (g7u)
def flT (x:Its) (s:S):List S:=(flM x s).map Fld.t
theorem f5d {x:Its} {s z:S} (h:z∈(c7y x s).1):z∈flT x s:=by
 rw[f2q]at h
 split at h
 ·exact h
 split at h
 ·obtain⟨_,f,hf,e⟩:=d4u.1 h
  exact List.mem_map.2 ⟨f,hf,e⟩
 ·cases h
theorem f7i {x:Its} {s z:S} (h:z∈flT x s) (hz:z≠[]):z∈(c7y x s).1:=by
 rw[f2q]
 split
 ·exact h
 rename_i c1
 split
 ·obtain⟨f,hf,e⟩:=List.mem_map.1 h
  exact d4u.2 ⟨hz,f,hf,e⟩
 ·rename_i c2
  unfold flT flM at h
  rw[if_neg c1,if_neg c2]at h
  cases h
structure i3q (x:Its) (s:S) (seen todo:List S):Prop where
 a1:∀ y∈seen,y=s\/Gets x s y
 a2:∀ y∈todo,kn x y=true->y=s\/Gets x s y
 a3:s∈seen\/s∈todo
 c1:∀ y∈seen,∀ z∈(c7y x y).1,z≠s/\(z∈seen\/z∈todo\/kn x z=false)
theorem i3q.new {x:Its} {s y:S} {seen r:List S} (h:i3q x s seen (y::r)) (hnm:∀ s,kn x s=true->g7u s=true) (hy:kn x y=true) (ht:s∉flT x y):i3q x s (seen++[y]) (r++flT x y):=by
 have ry:=h.a2 y (by simp) hy
 refine⟨fun z hz=>?_,fun z hz hk=>?_,?_,fun u hu z hz=>?_⟩
 ·rcases List.mem_append.1 hz with q|q
  ·exact h.a1 z q
  ·rw[List.mem_singleton]at q;exact q ▸ ry
 ·rcases List.mem_append.1 hz with q|q
  ·exact h.a2 z (List.mem_cons_of_mem _ q) hk
  ·have hne:z≠[]:=fun e=>by
     have:=hnm z hk
     rw[e]at this
     exact absurd this (by decide)
   have:=f7i q hne
   rcases ry with e|e
   ·rw[e]at this;exact .inr (.one this)
   ·exact .inr (.step e this)
 ·rcases h.a3 with q|q
  ·exact .inl (List.mem_append_left _ q)
  ·rcases List.mem_cons.1 q with e|e
   ·exact .inl (by rw[e];simp)
   ·exact .inr (List.mem_append_left _ e)
 ·rcases List.mem_append.1 hu with q|q
  ·obtain⟨a,b⟩:=h.c1 u q z hz
   refine⟨a,?_⟩
   rcases b with q|q|q
   ·exact .inl (List.mem_append_left _ q)
   ·rcases List.mem_cons.1 q with e|e
    ·exact .inl (by rw[e];simp)
    ·exact .inr (.inl (List.mem_append_left _ e))
   ·exact .inr (.inr q)
  ·rw[List.mem_singleton]at q
   rw[q]at hz
   have:=f5d hz
   exact⟨fun e=>ht (e ▸ this),.inr (.inl (List.mem_append_right _ this))⟩
end Go.Vm.Ip






namespace Go.Vm.Ip
open Go Go.Vm
abbrev sf (P:Program) (t:Nat):Option (List Nat):=match P.underlying t with|some (.struct fs)=>some (fs.toList.map (·.type))|_=>none
structure Tys where
 it:Nat
 ss:Nat
 es:Nat
 fs:Nat
 s:Nat
 e:Nat
 f:Nat
 n:Nat
 fl:Nat
 fd:Nat
 bs:Nat
 b:Nat
 i:Nat
structure TysOk (P:Program) (t:Tys):Prop where
 it:sf P t.it=some [t.ss,t.es,t.fs]
 ss:P.underlying t.ss=some (.slice t.s)/\P.bytesOf t.s=40
 es:P.underlying t.es=some (.slice t.e)/\P.bytesOf t.e=40
 fs:P.underlying t.fs=some (.slice t.f)/\P.bytesOf t.f=88
 s:sf P t.s=some [t.n,t.fl]
 e:sf P t.e=some [t.n,t.fl]
 f:sf P t.f=some [t.n,t.fl,t.bs,t.n,t.i]
 n:P.underlying t.n=some .string
 fl:P.underlying t.fl=some (.slice t.fd)/\P.bytesOf t.fd=32
 fd:sf P t.fd=some [t.n,t.n]
 bs:P.underlying t.bs=some (.slice t.b)/\P.bytesOf t.b=1
 b:P.underlying t.b=some .bool
 i:P.underlying t.i=some (.int .i64)
theorem rb:reachBytes=140737488351232:=by decide
end Go.Vm.Ip
namespace Go.Proofs.YtkedogplneaaiaaGreatDoor
open Go Go.Vm Go.ChangeShapes Go.WideShapes Go.ChangeAt Go.RowKit Go.Vm.Px
theorem own:ownKnob Tryz.prog.godebug=none:=kr
theorem laidOut:laidOutB Tryz.prog=true:=kr
theorem mixed:Tryz.prog.follows .mixedOrders=true:=kr
def a8a:List (String×DataW Unit):=[("math/bits.deBruijn32tab",Rows.laid_math_bits_deBruijn32tab),("math/bits.deBruijn64tab",Rows.laid_math_bits_deBruijn64tab),("internal/strconv.uint64pow10",Rows.laid_internal_strconv_uint64pow10),("unicode/utf8.acceptRanges",Rows.laid_unicode_utf8_acceptRanges),("strconv.ErrRange",Rows.laid_strconv_ErrRange),("strconv.ErrSyntax",Rows.laid_strconv_ErrSyntax),("unicode/utf8.first",Rows.laid_unicode_utf8_first)]
def c6y:List (String×DataW Unit):=[("math/bits.deBruijn32tab",Rows.laid_math_bits_deBruijn32tab),("math/bits.deBruijn64tab",Rows.laid_math_bits_deBruijn64tab),("internal/strconv.uint64pow10",Rows.laid_internal_strconv_uint64pow10),("unicode/utf8.acceptRanges",Rows.laid_unicode_utf8_acceptRanges),("errors.errorType",Rows.laid_errors_errorType),("strconv.ErrRange",Rows.laid_strconv_ErrRange),("strconv.ErrSyntax",Rows.laid_strconv_ErrSyntax),("unicode/utf8.first",Rows.laid_unicode_utf8_first)]
theorem h6q {W:World} (h:laidMetH Tryz.prog c6y W):laidMet Tryz.prog a8a W/\handlesMet Tryz.prog [("errors.errorType",Rows.laid_errors_errorType)] W:=h
def fx5 (W:World):Nat->Option Obj:=c5h W [0,1,2,4,5]
theorem f7k:Rows.laid_unicode_utf8_first=Lib.firstData:=kr
theorem f2u:Rows.laid_unicode_utf8_acceptRanges (H:=Unit)=Lib.acceptData:=kr
theorem gErr:Tryz.prog.globalNamed "errors.errorType" =some 0:=kr
theorem h6t:Tryz.prog.globalNamed "unicode/utf8.first" =some 1:=kr
theorem gAcc:Tryz.prog.globalNamed "unicode/utf8.acceptRanges" =some 2:=kr
theorem gSyn:Tryz.prog.globalNamed "strconv.ErrSyntax" =some 4:=kr
theorem gRan:Tryz.prog.globalNamed "strconv.ErrRange" =some 5:=kr
theorem c3p {w:World} {n:String} {d:DataW Unit} (h:Lib.VarReads Tryz.prog w n d) {g:Nat} (hg:Tryz.prog.globalNamed n=some g):∃ cs t fz fuel p ty,w.heap[g]? =some (.cells cs t fz)/\(Tryz.prog.globals[g]?).map (·.type)=some ty/\DataW.trod (fun _=>()) Tryz.prog w 0 (fun _=>true) false fuel ty cs.toList=some (d,p):=by
  obtain⟨g',t,cs,fuel,p,h1,h2,h3,h4⟩:=h
  obtain rfl:=Option.some.inj (hg.symm.trans h1)
  unfold World.var? at h3
  rw[hg]at h3
  simp only[Option.bind_some]at h3
  split at h3
  ·rename_i c' t' f' hc
   cases h3
   exact⟨_,_,_,fuel,p,t,hc,h2,h4⟩
  ·cases h3
theorem g0p {W:World} {n nm:String} {d:DataW Unit} {g:Nat} (ty:Nat) {l:List Nat} (h:Lib.VarReads Tryz.prog W n (.iface nm d)) (hg:Tryz.prog.globalNamed n=some g) (hty:(Tryz.prog.globals[g]?).map (·.type)=some ty) (hu:(match Tryz.prog.underlying ty with|some (.interface _)=>true|_=>false)=true) (hm:g∈l):e0u ⟨fun _=>[],c5h W l⟩ g:=by
  obtain⟨cs,t,fz,fuel,p,ty',h1,h2,h3⟩:=c3p h hg
  obtain rfl:=Option.some.inj (hty.symm.trans h2)
  obtain⟨ms,hms⟩:∃ ms,Tryz.prog.underlying ty=some (.interface ms):=by
   cases hh:Tryz.prog.underlying ty with
   |none=>rw[hh]at hu;cases hu
   |some t=>rw[hh]at hu;cases t<;>first|exact⟨_,rfl⟩|cases hu
  obtain⟨f',u,v,h4,_,_⟩:=iface_of_trod hms h3
  refine⟨.iface u v,t,fz,?_,.inr ⟨u,v,rfl⟩⟩
  show c5h W l g=_
  unfold c5h
  rw[if_pos hm,h1]
  congr 2
  apply Array.toList_inj.1;exact h4
theorem e6o {W w:World} (h:Lib.Utf8Tabs 1 2 W) (h1:w.heap[1]? =W.heap[1]?) (h2:w.heap[2]? =W.heap[2]?):Lib.Utf8Tabs 1 2 w:=
 ⟨fun c hc=>by rw[World.cell?_of_block (w:=W) (a:=⟨1,c,none⟩) h1];exact h.1 c hc,fun i hi=>⟨by rw[World.cell?_of_block (w:=W) (a:=⟨2,2*i,none⟩) h2];exact(h.2 i hi).1,by rw[World.cell?_of_block (w:=W) (a:=⟨2,2*i+1,none⟩) h2];exact(h.2 i hi).2⟩⟩
theorem h0i {W:World} (h:laidMet Tryz.prog a8a W) {g:Gh} {H:Hp} {w:World} (hI:Inv ⟨fun _=>[],fx5 W⟩ g H w):Lib.Utf8Tabs 1 2 w:=by
  have r1:Lib.VarReads Tryz.prog W "unicode/utf8.first" Lib.firstData:=by rw[<-f7k];exact Lib.laidMet.reads h (by simp[a8a])
  have r2:Lib.VarReads Tryz.prog W "unicode/utf8.acceptRanges" Lib.acceptData:=by rw[<-f2u];exact Lib.laidMet.reads h (by simp[a8a])
  have hU:Lib.Utf8Tabs 1 2 W:=utf8Tabs_of_reads (ρ:=Tryz.c7j) {Tryz.e8v with } ⟨kr,kr,kr,kr,kr,kr,kr⟩ r1 r2
  obtain⟨c1,t1,z1,_,_,_,b1,_⟩:=c3p r1 h6t
  obtain⟨c2,t2,z2,_,_,_,b2,_⟩:=c3p r2 gAcc
  have k1:=(hI.fix 1 _ (by show c5h W [0,1,2,4,5] 1=_;unfold c5h;rw[if_pos (by decide)];exact b1)).1
  have k2:=(hI.fix 2 _ (by show c5h W [0,1,2,4,5] 2=_;unfold c5h;rw[if_pos (by decide)];exact b2)).1
  exact e6o hU (k1.trans b1.symm) (k2.trans b2.symm)
theorem rtT:(Tryz.prog.cutTypes.find? (·.1== "internal/reflectlite.rtype")).map (·.2)=some 122:=kr
theorem h7m:((List.range Tryz.prog.types.size).filter fun t=>Tryz.prog.rowNamed t [101,114,114,111,114])=[67]:=kr
theorem e7y {W:World} (h:handlesMet Tryz.prog [("errors.errorType",Rows.laid_errors_errorType)] W):∃ tt fz,W.heap[0]? =some (.cells #[.iface 122 (.agg #[.pointer (some ⟨9,67,none⟩)])] tt fz):=by
 obtain⟨name,u,ty,e1,e2,e3,e4,e5⟩:=h _ (List.mem_singleton.2 rfl)
 have en:name=[101,114,114,111,114]:=(Option.some.inj e1).symm
 subst en
 obtain rfl:=Option.some.inj (rtT.symm.trans e2)
 have hm:ty∈(List.range Tryz.prog.types.size).filter fun t=>Tryz.prog.rowNamed t [101,114,114,111,114]:=List.mem_filter.2 ⟨List.mem_range.2 e3,e4⟩
 rw[h7m]at hm
 obtain rfl:=List.mem_singleton.1 hm
 have hh:typeHandle Tryz.prog 67= .pointer (some ⟨9,67,none⟩):=kr
 rw[hh]at e5
 unfold World.var? at e5
 rw[gErr]at e5
 simp only[Option.bind_some]at e5
 split at e5
 ·rename_i c' t' f' hc
  cases e5
  exact⟨t',f',hc⟩
 ·cases e5
theorem i4y {W:World} (h:laidMetH Tryz.prog c6y W):e7g (fx5 W):=by
 obtain⟨h1,h2⟩:=h6q h
 have rS:Lib.VarReads Tryz.prog W "strconv.ErrSyntax" (Rows.laid_strconv_ErrSyntax (H:=Unit)):=Lib.laidMet.reads h1 (by simp[a8a])
 have rR:Lib.VarReads Tryz.prog W "strconv.ErrRange" (Rows.laid_strconv_ErrRange (H:=Unit)):=Lib.laidMet.reads h1 (by simp[a8a])
 obtain⟨tt,fz,b⟩:=e7y h2
 exact⟨fun g H w hI=>h0i h1 hI,g0p 67 rS gSyn kr kr (by decide),g0p 67 rR gRan kr kr (by decide),tt,fz,by show c5h W [0,1,2,4,5] 0=_;unfold c5h;rw[if_pos (by decide)];exact b⟩
noncomputable def pgW {W:World} (h:laidMetH Tryz.prog c6y W):Pg:=Go.Vm.Ite.pgL (fx5 W) (FW (i4y h))
theorem tOk {W:World} (h:laidMetH Tryz.prog c6y W):a3i Tryz.prog (pgW h):=tblW (i4y h)
theorem h6s {W:World} (h:laidMetH Tryz.prog c6y W):d6y (pgW h).toCx W:=f0r [] (f8v W _) fun p hp=>by cases hp
noncomputable def hand0 (os:Os):World:=
 {World.holding Tryz.prog os ⟨#[],#[],[]⟩with heap:=(World.holding Tryz.prog os ⟨#[],#[],[]⟩).heap.modify 0 fun
     | .cells _ t frozen=> .cells #[.iface 122 (.agg #[.pointer (some ⟨9,67,none⟩)])] t frozen
     |o=>o }
noncomputable def w8 (os:Os):World:=(hand0 os).layVars Tryz.prog a8a
theorem i4j (os:Os):(w8 os).os=os:=(World.layVars_os _ _ _).trans rfl
theorem f5q {os:Os} (hf:(hand0 os).layFits Tryz.prog a8a []=true) (hi:(hand0 os).layIfaces Tryz.prog a8a (w8 os)=true):laidMet Tryz.prog a8a (w8 os):=by
 have e1:(a8a.filter fun x=>(a8a.map (·.1)).contains x.1)=a8a:=List.filter_eq_self.2 fun x hx=>List.contains_iff_mem.2 (List.mem_map.2 ⟨x,hx,rfl⟩)
 have e2:(a8a.filter fun x=> !(a8a.map (·.1)).contains x.1)=[]:=List.filter_eq_nil_iff.2 fun x hx=>by rw[List.contains_iff_mem.2 (List.mem_map.2 ⟨x,hx,rfl⟩)];simp
 exact laidMet_layVars (w0:=hand0 os) (a8a.map (·.1)) [] (by rw[e1];rfl) (by rw[e1];exact hf) (by rw[e1];exact hi) (by rw[e2];exact LaidIn.none)
theorem f5o (os:Os) (args:Array Value):laidMetH Tryz.prog c6y ((w8 os).forCall (fun _ _=>0) ⟨#[],args,[]⟩).memory:=by
  refine laidMetH_of_parts ?_ kr
  have e:(c6y.filter fun x=>x.2.handleName?.isNone)=a8a:=kr
  rw[e]
  exact(f5q (os:=os) kr kr).of_heap (by simp[World.memory,World.forCall,Input.heap])
theorem f3p (os:Os):(w8 os).Shaped Tryz.prog:=World.shaped_of_ZipB kr kr
theorem h5r:Tryz.prog.underlying 9=some .string:=kr
end Go.Proofs.YtkedogplneaaiaaGreatDoor
namespace Go.Vm.Ite
open Go.Vm.Lex (TokQ)
open Go.Vm.Pa hiding go
theorem gSg {l:List S} {i:Nat} (h:i < l.length):0<=(i:Int)/\(l.map D.str)[(i:Int).toNat]? =some (D.str (l.getD i [])):=by
 refine⟨om,?_⟩
 rw[Int.toNat_natCast,List.getElem?_map,List.getElem?_eq_getElem h]
 simp[List.getD_eq_getElem?_getD,List.getElem?_eq_getElem h]
theorem f4k {l:List S} {i:Nat} (h:i < l.length):l.drop i=l.getD i []::l.drop (i+1):=by
 rw[List.drop_eq_getElem_cons h];simp[List.getD_eq_getElem?_getD,List.getElem?_eq_getElem h]
section
variable {fx:Nat->Option Obj} {F:Nat->Option a0v} {l:List TokQ} {s s1:PS} {X:Hp}
theorem i4i (h:okS l s=true) (xs:List S) (hx:xs.length<=1000):evF (pgL fx F0) b1s [.ptr 0 0,.d (.sl (xs.map D.str))] [PB l s,PR s]=some (boo (anyS l s xs),[PB l s,PR s]):=by
 have hlm:(xs.map D.str).length=xs.length:=List.length_map ..
 refine a0h (c1v (F:=F0)) rfl rfl rfl ?_
 refine run ⟨?_⟩
 refine a8p (α:=Nat) (fun i=>xs.length - i) (fun i=>[(0,.ptr 0 0),(1,.d (.sl (xs.map D.str))),(5,.d (.int .i64 (i:Int)))]) (fun _=>[PB l s,PR s]) (fun i=>i<=xs.length/\anyS l s xs=(xs.drop i).any (isS l s)) ?_ 0 ⟨Nat.zero_le _,rfl⟩ rfl rfl
 rintro i ⟨hi,hv⟩
 rw[hv]
 by_cases c:i < xs.length
 ·have c':(i:Int) < ((xs.map D.str).length:Int):=by rw[hlm];omega
  have pi:=gSg c
  rw[f4k c,List.any_cons]
  generalize xs.getD i []=y at pi⊢
  cases e:isS l s y with
  |true=>
   repeat' (first|refine run ⟨?_⟩|refine b5n pi ?_|refine ca (c2c h e) ?_|fail)
   exact rfl
  |false=>
   repeat' (first|refine run ⟨?_⟩|refine b5n pi ?_|refine ca (c2c h e) ?_|fail)
   refine⟨i+1,⟨c,rfl⟩,om,?_,rfl⟩
   ·rw[a3z om]<;>rfl
 ·have c':¬ (i:Int) < ((xs.map D.str).length:Int):=by rw[hlm];omega
  rw[List.drop_eq_nil_of_le om]
  refine run ⟨?_⟩
  exact rfl
theorem i1h (h:okS l s=true) {xs:List S} (hx:xs.length<=1000) {b:Bool} {A:V} (hA:A= .d (.sl (xs.map D.str))) (e:anyS l s xs=b):evF (pgL fx F) b1s [.ptr 0 0,A] (PB l s::PR s::X)=some (.d (.bool b),PB l s::PR s::X):=by
 subst e;subst hA;exact lift (i4i h xs hx) rfl rfl
theorem f6r (h:okS l s=true) (c:Int):evF (pgL fx F0) a8l [.ptr 0 0,.d (.int .u8 c)] [PB l s,PR s]=some (boo (a1w l c s),[PB l s,PR s]):=by
 refine a0h (b6c (F:=F0)) rfl rfl rfl ?_
 unfold a1w
 have e1:=fun xs hx A hA=>i1h (fx:=fx) (F:=F0) (X:=[]) h (xs:=xs) hx (A:=A) hA rfl
 cases c1:decide ((now l s).k=1)<;>cases c3:decide ((now l s).k=3)<;>
 by_cases d1:c=116
 all_goals first|rw[if_pos d1]|rw[if_neg d1]
 all_goals try(by_cases d2:c=101<;>first|rw[if_pos d2]|rw[if_neg d2])
 all_goals try(by_cases d3:c=112<;>first|rw[if_pos d3]|rw[if_neg d3])
 all_goals
  repeat' (first|refine run ⟨?_⟩|refine ca (c0t h) ?_|refine ca (e1 f8o (by decide) _ rfl) ?_|refine ca (e1 f9i (by decide) _ rfl) ?_|refine ca (e1 h3q (by decide) _ rfl) ?_|refine ca (c2c h rfl) ?_|fail)
  exact rfl
theorem f7u (h:okS l s=true) {c:Int} {b:Bool} (e:a1w l c s=b):evF (pgL fx F) a8l [.ptr 0 0,.d (.int .u8 c)] (PB l s::PR s::X)=some (.d (.bool b),PB l s::PR s::X):=by
 subst e;exact lift (f6r h c) rfl rfl
theorem c9f {c:Int} (h:okS l s=true):okS l (a2h l c s)=true:=by unfold a2h;split<;>exact h
theorem e2o {c:Int} (h:okS l s=true):okS l (a8r l c s)=true:=by unfold a8r;split<;>first|exact h|exact c9f h
theorem f7n (h:okS l s=true):okS l (b2f l s)=true:=by unfold b2f;split<;>first|exact h|exact c9f h
theorem h6p (h:okS l s=true) (c:Int):evF (pgL fx F0) b0m [.ptr 0 0,.d (.int .u8 c)] [PB l s,PR s]=some (boo (b3k l c s).1,[PB l (b3k l c s).2,PR (b3k l c s).2]):=by
 refine a0h (b9p (F:=F0)) rfl rfl rfl ?_
 unfold b3k
 obtain⟨s1,e1⟩:∃ s1,a8r l c s=s1:=⟨_,rfl⟩
 obtain⟨s2,e2⟩:∃ s2,b2f l s1=s2:=⟨_,rfl⟩
 obtain⟨b3,e3⟩:∃ b3,okB (a3t s2)=b3:=⟨_,rfl⟩
 rw[e1,e2,e3]
 have h1:okS l s1=true:=by rw[<-e1];exact e2o h
 have last:∀ {X:Hp},evF (pgL fx F0) b2t [.ptr 0 0] (PB l (a3t s2)::PR (a3t s2)::X)=some (boo b3,PB l (a3t s2)::PR (a3t s2)::X):=b2c e3
 have mid:∀ (s0:PS),(if okB s0 && !a1w l c s0 then a2h l 120 s0 else s0)=a8r l c s0:=fun _=>rfl
 cases a1:okB s<;>cases a2:a1w l c s<;>cases a3:okB s1<;>cases a4:decide (100<=s1.deep)
 all_goals(have f1:s1=(if okB s && !a1w l c s then a2h l 120 s else s):=e1.symm)
 all_goals(have f2:s2=(if okB s1 && decide (100<=s1.deep) then a2h l 121 s1 else s1):=e2.symm)
 all_goals rw[a1,a2]at f1
 all_goals rw[a3,a4]at f2
 all_goals simp only[Bool.not_true,Bool.not_false,Bool.and_true,Bool.and_false,Bool.true_and,Bool.false_and,if_true,if_false,Bool.false_eq_true]at f1 f2
 all_goals subst f2
 all_goals first|(subst f1)|skip
 all_goals try(rw[a1]at a3;cases a3;done)
 all_goals
  repeat' (first|refine run ⟨?_⟩|refine ca (b2c a1) ?_|refine ca (f7u h a2) ?_|refine ca (c5c h) ?_|refine ca (b2c a3) ?_|refine ca (c5c h1) ?_|refine ca (last) ?_|fail)
  exact rfl
theorem c1z (h:okS l s=true) {c:Int} {b:Bool} (e:b3k l c s=(b,s1)):evF (pgL fx F) b0m [.ptr 0 0,.d (.int .u8 c)] (PB l s::PR s::X)=some (.d (.bool b),PB l s1::PR s1::X):=by
 have:=lift (F:=F) (X:=X) (h6p (fx:=fx) h c) rfl rfl
 rw[e]at this;exact this
theorem g6n (r:Int) {X:Hp}:evF (pgL fx F) c1d [.d (.int .i64 r)] X=some (.d (.sl ((b1k r).map D.str)),X):=by
 refine a7h (d2p (F:=F)) rfl rfl ?_ X
 unfold b1k
 by_cases d1:r=0
 ·rw[if_pos d1]
  refine run ⟨?_⟩
  exact rfl
 ·rw[if_neg d1]
  by_cases d2:r=1
  ·rw[if_pos d2]
   refine run ⟨?_⟩
   exact rfl
  ·rw[if_neg d2]
   by_cases d3:r=2
   ·rw[if_pos d3]
    refine run ⟨?_⟩
    exact rfl
   ·rw[if_neg d3]
    by_cases d4:r=3
    ·rw[if_pos d4]
     refine run ⟨?_⟩
     exact rfl
    ·rw[if_neg d4]
     refine run ⟨?_⟩
     exact rfl
theorem f0v (r:Int):(b1k r).length<=10:=by unfold b1k;(repeat' split)<;>decide
theorem h4v (h:okS l s=true) (r:Int):evF (pgL fx F0) b0n [.ptr 0 0,.d (.int .i64 r)] [PB l s,PR s]=some (str (b7v l r s),[PB l s,PR s]):=by
 have hx:=f0v r
 unfold b7v
 have es:∀ {X:Hp},evF (pgL fx F0) c1d [.d (.int .i64 r)] X=some (.d (.sl ((b1k r).map D.str)),X):=g6n r
 revert es
 generalize b1k r=xs at hx⊢
 intro es
 have hlm:(xs.map D.str).length=xs.length:=List.length_map ..
 refine a0h (c0h (F:=F0)) rfl rfl rfl ?_
 repeat' (first|refine run ⟨?_⟩|refine ca (es) ?_|fail)
 obtain⟨res,hres⟩:∃ res,((xs.find? fun x=>okB s && isS l s x).getD [])=res:=⟨_,rfl⟩
 rw[hres]
 refine a8p (α:=Nat) (fun i=>xs.length - i) (fun i=>[(0,.ptr 0 0),(5,.d (.sl (xs.map D.str))),(6,.d (.int .i64 (i:Int)))]) (fun _=>[PB l s,PR s]) (fun i=>i<=xs.length/\(((xs.drop i).find? fun x=>okB s && isS l s x).getD [])=res) ?_ 0 ⟨Nat.zero_le _,hres⟩ rfl rfl
 rintro i ⟨hi,hv⟩
 by_cases c:i < xs.length
 ·have c':(i:Int) < ((xs.map D.str).length:Int):=by rw[hlm];omega
  have pi:=gSg c
  rw[f4k c,List.find?_cons]at hv
  generalize xs.getD i []=y at pi hv
  cases e0:okB s with
  |false=>
   rw[e0]at hv
   repeat' (first|refine run ⟨?_⟩|refine b5n pi ?_|refine ca (b2c e0) ?_|fail)
   refine⟨i+1,⟨c,by rw[<-hv];rfl⟩,om,?_,rfl⟩
   rw[a3z om]<;>rfl
  |true=>
   cases e:isS l s y with
   |true=>
    rw[e0,e]at hv
    subst hv
    repeat' (first|refine run ⟨?_⟩|refine b5n pi ?_|refine ca (b2c e0) ?_|refine ca (c2c h e) ?_|fail)
    exact rfl
   |false=>
    rw[e0,e]at hv
    repeat' (first|refine run ⟨?_⟩|refine b5n pi ?_|refine ca (b2c e0) ?_|refine ca (c2c h e) ?_|fail)
    refine⟨i+1,⟨c,by rw[<-hv];rfl⟩,om,?_,rfl⟩
    rw[a3z om]<;>rfl
 ·have c':¬ (i:Int) < ((xs.map D.str).length:Int):=by rw[hlm];omega
  rw[List.drop_eq_nil_of_le om]at hv
  subst hv
  refine run ⟨?_⟩
  exact rfl
theorem d0j (h:okS l s=true) {r:Int}:evF (pgL fx F) b0n [.ptr 0 0,.d (.int .i64 r)] (PB l s::PR s::X)=some (.d (.str (b7v l r s)),PB l s::PR s::X):=lift (h4v h r) rfl rfl
end
end Go.Vm.Ite
namespace Go.Vm.Ite
open Go.Vm.Lex (TokQ)
open Go.Vm.Pa hiding go
section
variable {fx:Nat->Option Obj} {F:Nat->Option a0v} {l:List TokQ} {s s1:PS} {X:Hp}
theorem b8c {fr i:Int} {n:N} (e:a2y l fr n s=some (i,s1)):evF (pgL fx F0) b0h [.ptr 0 0,.d (.int .i64 fr),.d (n.D 0 0)] [PB l s,PR s]=some (.d (.int .i64 i),[PB l s1,PR s1]):=by
 unfold a2y at e
 split at e
 ·rename_i hg
  obtain⟨hn,hn2,hf,ha⟩:=hg
  have gf:=c8j (g6y hf)
  have hroom:roomy (s.n+1) 72:=by unfold roomy;omega
  simp only[Option.some.injEq,Prod.mk.injEq]at e
  obtain⟨rfl,rfl⟩:=e
  refine a0h (b9f (F:=F0)) rfl rfl rfl ?_
  by_cases c:fr < s.at_
  ·have ga:=c8j (g6y (ha c))
   repeat' (first|refine a9j ⟨?_⟩|refine a0r 8 (by decide) (by decide) ?_|refine b5n gf ?_|refine b5n ga ?_|refine And.intro ⟨rfl,by decide⟩ ?_|refine And.intro ⟨rfl,hn,hroom⟩ ?_|refine a0r 3 (by decide) (by decide) ?_|fail)
   rw[if_pos c]
   exact rfl
  ·repeat' (first|refine a9j ⟨?_⟩|refine a0r 8 (by decide) (by decide) ?_|refine b5n gf ?_|refine And.intro ⟨rfl,by decide⟩ ?_|refine And.intro ⟨rfl,hn,hroom⟩ ?_|refine a0r 3 (by decide) (by decide) ?_|fail)
   rw[if_neg c]
   exact rfl
 ·cases e
theorem a2f {fr i:Int} {n:N} {A:D} (e:a2y l fr n s=some (i,s1)) (hA:A=n.D 0 0):evF (pgL fx F) b0h [.ptr 0 0,.d (.int .i64 fr),.d A] (PB l s::PR s::X)=some (.d (.int .i64 i),PB l s1::PR s1::X):=by
 subst hA;exact lift (b8c e) rfl rfl
end
end Go.Vm.Ite
namespace Go.Vm.Ite
open Go.Vm.Lex (TokQ)
open Go.Vm.Pa
structure LOk (l:List TokQ):Prop where
 len:l.length<=1000000
 txt:∀ i,(l.getD i default).t.length<=1000000
 last:∀ i,i < l.length->(l.getD i default).k≠5->i+1 < l.length
section
variable {fx:Nat->Option Obj} {F:Nat->Option a0v} {l:List TokQ} {s s1 s2:PS} {X:Hp} {n m:Nat} {r:R}
theorem a3o (hl:LOk l) (h:okS l s=true) (hk:(now l s).k≠5):okS l (adv s)=true:=by
 have hr:=a7l h
 have:=hl.last s.at_.toNat om hk
 have hlen:=hl.len
 have hw:(adv s).at_=s.at_+1:=a3z (n:=s.at_+1) om
 unfold okS
 rw[hw]
 simp only[Bool.and_eq_true,decide_eq_true_eq]
 omega
theorem d2c (hl:LOk l) (s:PS):(a3j l s).1.length<=1000000:=by
 unfold a3j
 split
 ·exact hl.txt _
 ·exact Nat.zero_le _
theorem i1e (hl:LOk l) {s:PS}:(a3j l s).1.length+([58,58]:S).length<=9223372036854775807:=by
 have:=d2c hl s
 simp only[List.length_cons,List.length_nil];omega
theorem i4w (hl:LOk l) {s s2:PS}:((a3j l s).1++([58,58]:S)).length+(a3j l s2).1.length<=9223372036854775807:=by
 have:=d2c hl s
 have:=d2c hl s2
 simp only[List.length_append,List.length_cons,List.length_nil];omega
theorem g0v:roomy 2 8:=by decide
theorem g1t:roomy 3 8:=by decide
theorem a8v {k:K} (h:okK k=true):k.l.length=k.n:=by
 unfold okK at h
 simp only[Bool.and_eq_true,decide_eq_true_eq]at h
 exact h.1
theorem b1h {k:K} (h:okK k=true):roomy (k.n+1) 8:=by
 unfold okK at h
 simp only[Bool.and_eq_true,decide_eq_true_eq]at h
 unfold roomy;omega
theorem is_k {x:S} (h:isS l s x=true):(now l s).k≠5:=by
 unfold isS at h
 simp only[Bool.and_eq_true,Bool.or_eq_true,decide_eq_true_eq]at h
 omega
theorem g6b (h:okS l s=true):okS l (down s)=true:=h
theorem f2o (hl:LOk l) {x:S} {b:Bool} (e:a1o l x s=(b,s1)) (h:okS l s=true):okS l s1=true:=by
 unfold a1o at e
 split at e
 ·rename_i c
  cases e
  simp only[Bool.and_eq_true]at c
  exact a3o hl h (is_k c.2)
 ·cases e;exact h
theorem f0e (hl:LOk l) {x:S} {b:Bool} (e:a2i l x s=(b,s1)) (h:okS l s=true):okS l s1=true:=by
 unfold a2i at e
 split at e
 ·rename_i c
  cases e
  simp only[Bool.and_eq_true]at c
  exact a3o hl h (is_k c.2)
 ·cases e;exact c9f h
theorem e7o (hl:LOk l) {x:S} (e:a3j l s=(x,s1)) (h:okS l s=true):okS l s1=true:=by
 unfold a3j at e
 split at e
 ·rename_i c
  cases e
  simp only[Bool.and_eq_true,decide_eq_true_eq]at c
  exact a3o hl h om
 ·cases e;exact c9f h
theorem g5b {c:Int} {b:Bool} (e:b3k l c s=(b,s1)) (h:okS l s=true):okS l s1=true:=by
 unfold b3k at e
 cases e
 exact f7n (e2o h)
theorem e7x {fr i:Int} {x:N} (e:a2y l fr x s=some (i,s1)) (h:okS l s=true):okS l s1=true:=by
 unfold a2y at e
 split at e
 ·cases e;exact h
 ·cases e
theorem c2x {g:Q->PS->M} {q:Q} (e:cl l g q s=some (r,s1)):g q s=some (r,s1)/\okS l s1=true:=by
 unfold cl at e
 split at e
 ·rename_i r2 s2 hg
  split at e
  ·rename_i ho;cases e;exact⟨hg,ho⟩
  ·cases e
 ·cases e
theorem i3g {g:Q->PS->M} {q:Q} (e:cl l g q s=some (r,s1)):okS l s1=true:=(c2x e).2
theorem g2w (hl:LOk l) {fr:Int} {x:N} (h:okS l s=true) (e:b1i l fr x s=some (r,s1)):evF (pgL fx F0) a9e [.ptr 0 0,.d (.int .i64 fr),.d (x.D 0 0)] [PB l s,PR s]=some (.d (.int .i64 r.i),[PB l s1,PR s1]):=by
 unfold b1i at e
 split at e
 ·cases e
 ·rename_i i s2 e1
  split at e
  rename_i b s3 e2
  cases e
  refine a0h (b7m (F:=F0)) rfl rfl rfl ?_
  repeat' (first|refine run ⟨?_⟩|refine ca (a2f e1 rfl) ?_|refine ca (a4g (e7x e1 h) e2) ?_|fail)
  exact rfl
theorem f2l (hl:LOk l) {fr:Int} {x:N} {A:D} (hA:A=x.D 0 0) (h:okS l s=true) (e:b1i l fr x s=some (r,s1)):evF (pgL fx F0) a9e [.ptr 0 0,.d (.int .i64 fr),.d A] (PB l s::PR s::X)=some (.d (.int .i64 r.i),PB l s1::PR s1::X):=by
 subst hA;exact lift (g2w hl h e) rfl rfl
theorem a4z (h:okS l s=true) {x:S}:evF (pgL fx F) a5s [.ptr 0 0,.d (.str x)] (PB l s::PR s::X)=some (.tup [],PB l (a2i l x s).2::PR (a2i l x s).2::X):=a4g h rfl
theorem a9b (h:okS l s=true) (hl:l.length<=1000000):evF (pgL fx F) a5o [.ptr 0 0] (PB l s::PR s::X)=some (.d (.str (a3j l s).1),PB l (a3j l s).2::PR (a3j l s).2::X):=a8n h hl rfl
theorem a6e (h:okS l s=true) {x:S}:evF (pgL fx F) a5z [.ptr 0 0,.d (.str x)] (PB l s::PR s::X)=some (.d (.bool (a1o l x s).1),PB l (a1o l x s).2::PR (a1o l x s).2::X):=a4q h rfl
theorem f7x (hl:LOk l) {x:S} (h:okS l s=true):okS l (a2i l x s).2=true:=f0e hl rfl h
theorem f9g (hl:LOk l) (h:okS l s=true):okS l (a3j l s).2=true:=e7o hl rfl h
theorem f9n (hl:LOk l) {x:S} (h:okS l s=true):okS l (a1o l x s).2=true:=f2o hl rfl h
theorem okQ (h:okS l s=true:=by with_reducible (repeat' (first|assumption|exact i3g (by assumption)|refine f2o (by assumption) (by assumption) ?_|refine f0e (by assumption) (by assumption) ?_|refine e7o (by assumption) (by assumption) ?_|refine g5b (by assumption) ?_|refine e7x (by assumption) ?_|refine f7x (by assumption) ?_|refine f9g (by assumption) ?_|refine f9n (by assumption) ?_|refine g6b ?_|refine c9f ?_))):okS l s=true:=h
theorem asm {P:Prop} (h:P:=by with_reducible assumption):P:=h
end
structure Sp (fx:Nat->Option Obj) (l:List TokQ) (n:Nat):Prop where
 typ:∀ {s s1:PS} {r:R},okS l s=true->go l n .typ s=some (r,s1)->evF (pgL fx F0) a4f [.ptr 0 0] [PB l s,PR s]=some (.d (.int .i64 r.i),[PB l s1,PR s1])
 typed:∀ (fr:Int) {s s1:PS} {r:R},okS l s=true->go l n (.typed fr) s=some (r,s1)->evF (pgL fx F0) a5f [.ptr 0 0,.d (.int .i64 fr)] [PB l s,PR s]=some (.d (.int .i64 r.i),[PB l s1,PR s1])
 block:∀ {s s1:PS} {r:R},okS l s=true->go l n .block s=some (r,s1)->evF (pgL fx F0) a5h [.ptr 0 0] [PB l s,PR s]=some (.d (.int .i64 r.i),[PB l s1,PR s1])
 stmt:∀ {s s1:PS} {r:R},okS l s=true->go l n .stmt s=some (r,s1)->evF (pgL fx F0) a5m [.ptr 0 0] [PB l s,PR s]=some (.tup [.d (.int .i64 r.i),.d (.bool r.b)],[PB l s1,PR s1])
 let_:∀ (fr:Int) {s s1:PS} {r:R},okS l s=true->go l n (.let_ fr) s=some (r,s1)->evF (pgL fx F0) a6x [.ptr 0 0,.d (.int .i64 fr)] [PB l s,PR s]=some (.d (.int .i64 r.i),[PB l s1,PR s1])
 blocky:∀ (fr:Int) {s s1:PS} {r:R},okS l s=true->go l n (.blocky fr) s=some (r,s1)->evF (pgL fx F0) a4i [.ptr 0 0,.d (.int .i64 fr)] [PB l s,PR s]=some (.tup [.d (.int .i64 r.i),.d (.bool r.b)],[PB l s1,PR s1])
 branch:∀ {s s1:PS} {r:R},okS l s=true->go l n .branch s=some (r,s1)->evF (pgL fx F0) a4r [.ptr 0 0] [PB l s,PR s]=some (.d (.int .i64 r.i),[PB l s1,PR s1])
 cond:∀ {s s1:PS} {r:R},okS l s=true->go l n .cond s=some (r,s1)->evF (pgL fx F0) a5v [.ptr 0 0] [PB l s,PR s]=some (.d (.int .i64 r.i),[PB l s1,PR s1])
 match_:∀ {s s1:PS} {r:R},okS l s=true->go l n .match_ s=some (r,s1)->evF (pgL fx F0) a5g [.ptr 0 0] [PB l s,PR s]=some (.d (.int .i64 r.i),[PB l s1,PR s1])
 arm:∀ {s s1:PS} {r:R},okS l s=true->go l n .arm s=some (r,s1)->evF (pgL fx F0) a7a [.ptr 0 0] [PB l s,PR s]=some (.d (.int .i64 r.i),[PB l s1,PR s1])
 pattern:∀ {s s1:PS} {r:R},okS l s=true->go l n .pattern s=some (r,s1)->evF (pgL fx F0) a2u [.ptr 0 0] [PB l s,PR s]=some (.d (.int .i64 r.i),[PB l s1,PR s1])
 patterned:∀ (fr:Int) {s s1:PS} {r:R},okS l s=true->go l n (.patterned fr) s=some (r,s1)->evF (pgL fx F0) a3h [.ptr 0 0,.d (.int .i64 fr)] [PB l s,PR s]=some (.d (.int .i64 r.i),[PB l s1,PR s1])
 expr:∀ (b:Bool) {s s1:PS} {r:R},okS l s=true->go l n (.expr b) s=some (r,s1)->evF (pgL fx F0) a3n [.ptr 0 0,.d (.bool b)] [PB l s,PR s]=some (.d (.int .i64 r.i),[PB l s1,PR s1])
 row:∀ (k:Int) (b:Bool) {s s1:PS} {r:R},okS l s=true->go l n (.row k b) s=some (r,s1)->evF (pgL fx F0) a6p [.ptr 0 0,.d (.int .i64 k),.d (.bool b)] [PB l s,PR s]=some (.d (.int .i64 r.i),[PB l s1,PR s1])
 operand:∀ (b:Bool) {s s1:PS} {r:R},okS l s=true->go l n (.operand b) s=some (r,s1)->evF (pgL fx F0) a4a [.ptr 0 0,.d (.bool b)] [PB l s,PR s]=some (.d (.int .i64 r.i),[PB l s1,PR s1])
 prefix_:∀ (b:Bool) {s s1:PS} {r:R},okS l s=true->go l n (.prefix_ b) s=some (r,s1)->evF (pgL fx F0) a4l [.ptr 0 0,.d (.bool b)] [PB l s,PR s]=some (.d (.int .i64 r.i),[PB l s1,PR s1])
 postfix_:∀ (b:Bool) {s s1:PS} {r:R},okS l s=true->go l n (.postfix_ b) s=some (r,s1)->evF (pgL fx F0) a3y [.ptr 0 0,.d (.bool b)] [PB l s,PR s]=some (.d (.int .i64 r.i),[PB l s1,PR s1])
 primary:∀ (b:Bool) {s s1:PS} {r:R},okS l s=true->go l n (.primary b) s=some (r,s1)->evF (pgL fx F0) a4d [.ptr 0 0,.d (.bool b)] [PB l s,PR s]=some (.d (.int .i64 r.i),[PB l s1,PR s1])
 named:∀ (fr:Int) (b:Bool) {s s1:PS} {r:R},okS l s=true->go l n (.named fr b) s=some (r,s1)->evF (pgL fx F0) a5b [.ptr 0 0,.d (.int .i64 fr),.d (.bool b)] [PB l s,PR s]=some (.d (.int .i64 r.i),[PB l s1,PR s1])
 init:∀ {s s1:PS} {r:R},okS l s=true->go l n .init s=some (r,s1)->evF (pgL fx F0) a5t [.ptr 0 0] [PB l s,PR s]=some (.d (.int .i64 r.i),[PB l s1,PR s1])
section
variable {fx:Nat->Option Obj} {l:List TokQ} {s s1 s2:PS} {X:Hp} {n m:Nat} {r:R}
theorem h1o (IH:∀ m,m<=n->Sp fx l m) (e:cl l (go l m) .typ s=some (r,s1)) (hm:m<=n) (h:okS l s=true):evF (pgL fx F0) a4f [.ptr 0 0] (PB l s::PR s::X)=some (.d (.int .i64 r.i),PB l s1::PR s1::X):=lift ((IH m hm).typ h (c2x e).1) rfl rfl
theorem g7r {fr:Int} (IH:∀ m,m<=n->Sp fx l m) (e:cl l (go l m) (.typed fr) s=some (r,s1)) (hm:m<=n) (h:okS l s=true):evF (pgL fx F0) a5f [.ptr 0 0,.d (.int .i64 fr)] (PB l s::PR s::X)=some (.d (.int .i64 r.i),PB l s1::PR s1::X):=lift ((IH m hm).typed fr h (c2x e).1) rfl rfl
theorem d1e (IH:∀ m,m<=n->Sp fx l m) (e:cl l (go l m) .block s=some (r,s1)) (hm:m<=n) (h:okS l s=true):evF (pgL fx F0) a5h [.ptr 0 0] (PB l s::PR s::X)=some (.d (.int .i64 r.i),PB l s1::PR s1::X):=lift ((IH m hm).block h (c2x e).1) rfl rfl
theorem e2w (IH:∀ m,m<=n->Sp fx l m) (e:cl l (go l m) .stmt s=some (r,s1)) (hm:m<=n) (h:okS l s=true):evF (pgL fx F0) a5m [.ptr 0 0] (PB l s::PR s::X)=some (.tup [.d (.int .i64 r.i),.d (.bool r.b)],PB l s1::PR s1::X):=lift ((IH m hm).stmt h (c2x e).1) rfl rfl
theorem h2h {fr:Int} (IH:∀ m,m<=n->Sp fx l m) (e:cl l (go l m) (.let_ fr) s=some (r,s1)) (hm:m<=n) (h:okS l s=true):evF (pgL fx F0) a6x [.ptr 0 0,.d (.int .i64 fr)] (PB l s::PR s::X)=some (.d (.int .i64 r.i),PB l s1::PR s1::X):=lift ((IH m hm).let_ fr h (c2x e).1) rfl rfl
theorem f9b {fr:Int} (IH:∀ m,m<=n->Sp fx l m) (e:cl l (go l m) (.blocky fr) s=some (r,s1)) (hm:m<=n) (h:okS l s=true):evF (pgL fx F0) a4i [.ptr 0 0,.d (.int .i64 fr)] (PB l s::PR s::X)=some (.tup [.d (.int .i64 r.i),.d (.bool r.b)],PB l s1::PR s1::X):=lift ((IH m hm).blocky fr h (c2x e).1) rfl rfl
theorem e3n (IH:∀ m,m<=n->Sp fx l m) (e:cl l (go l m) .branch s=some (r,s1)) (hm:m<=n) (h:okS l s=true):evF (pgL fx F0) a4r [.ptr 0 0] (PB l s::PR s::X)=some (.d (.int .i64 r.i),PB l s1::PR s1::X):=lift ((IH m hm).branch h (c2x e).1) rfl rfl
theorem g0b (IH:∀ m,m<=n->Sp fx l m) (e:cl l (go l m) .cond s=some (r,s1)) (hm:m<=n) (h:okS l s=true):evF (pgL fx F0) a5v [.ptr 0 0] (PB l s::PR s::X)=some (.d (.int .i64 r.i),PB l s1::PR s1::X):=lift ((IH m hm).cond h (c2x e).1) rfl rfl
theorem f6d (IH:∀ m,m<=n->Sp fx l m) (e:cl l (go l m) .match_ s=some (r,s1)) (hm:m<=n) (h:okS l s=true):evF (pgL fx F0) a5g [.ptr 0 0] (PB l s::PR s::X)=some (.d (.int .i64 r.i),PB l s1::PR s1::X):=lift ((IH m hm).match_ h (c2x e).1) rfl rfl
theorem g2k (IH:∀ m,m<=n->Sp fx l m) (e:cl l (go l m) .arm s=some (r,s1)) (hm:m<=n) (h:okS l s=true):evF (pgL fx F0) a7a [.ptr 0 0] (PB l s::PR s::X)=some (.d (.int .i64 r.i),PB l s1::PR s1::X):=lift ((IH m hm).arm h (c2x e).1) rfl rfl
theorem d5o (IH:∀ m,m<=n->Sp fx l m) (e:cl l (go l m) .pattern s=some (r,s1)) (hm:m<=n) (h:okS l s=true):evF (pgL fx F0) a2u [.ptr 0 0] (PB l s::PR s::X)=some (.d (.int .i64 r.i),PB l s1::PR s1::X):=lift ((IH m hm).pattern h (c2x e).1) rfl rfl
theorem d8o {fr:Int} (IH:∀ m,m<=n->Sp fx l m) (e:cl l (go l m) (.patterned fr) s=some (r,s1)) (hm:m<=n) (h:okS l s=true):evF (pgL fx F0) a3h [.ptr 0 0,.d (.int .i64 fr)] (PB l s::PR s::X)=some (.d (.int .i64 r.i),PB l s1::PR s1::X):=lift ((IH m hm).patterned fr h (c2x e).1) rfl rfl
theorem a8k {b:Bool} (IH:∀ m,m<=n->Sp fx l m) (e:cl l (go l m) (.expr b) s=some (r,s1)) (hm:m<=n) (h:okS l s=true):evF (pgL fx F0) a3n [.ptr 0 0,.d (.bool b)] (PB l s::PR s::X)=some (.d (.int .i64 r.i),PB l s1::PR s1::X):=lift ((IH m hm).expr b h (c2x e).1) rfl rfl
theorem d1v {k:Int} {b:Bool} (IH:∀ m,m<=n->Sp fx l m) (e:cl l (go l m) (.row k b) s=some (r,s1)) (hm:m<=n) (h:okS l s=true):evF (pgL fx F0) a6p [.ptr 0 0,.d (.int .i64 k),.d (.bool b)] (PB l s::PR s::X)=some (.d (.int .i64 r.i),PB l s1::PR s1::X):=lift ((IH m hm).row k b h (c2x e).1) rfl rfl
theorem f2t {b:Bool} (IH:∀ m,m<=n->Sp fx l m) (e:cl l (go l m) (.operand b) s=some (r,s1)) (hm:m<=n) (h:okS l s=true):evF (pgL fx F0) a4a [.ptr 0 0,.d (.bool b)] (PB l s::PR s::X)=some (.d (.int .i64 r.i),PB l s1::PR s1::X):=lift ((IH m hm).operand b h (c2x e).1) rfl rfl
theorem b0x {b:Bool} (IH:∀ m,m<=n->Sp fx l m) (e:cl l (go l m) (.prefix_ b) s=some (r,s1)) (hm:m<=n) (h:okS l s=true):evF (pgL fx F0) a4l [.ptr 0 0,.d (.bool b)] (PB l s::PR s::X)=some (.d (.int .i64 r.i),PB l s1::PR s1::X):=lift ((IH m hm).prefix_ b h (c2x e).1) rfl rfl
theorem e5w {b:Bool} (IH:∀ m,m<=n->Sp fx l m) (e:cl l (go l m) (.postfix_ b) s=some (r,s1)) (hm:m<=n) (h:okS l s=true):evF (pgL fx F0) a3y [.ptr 0 0,.d (.bool b)] (PB l s::PR s::X)=some (.d (.int .i64 r.i),PB l s1::PR s1::X):=lift ((IH m hm).postfix_ b h (c2x e).1) rfl rfl
theorem c6j {b:Bool} (IH:∀ m,m<=n->Sp fx l m) (e:cl l (go l m) (.primary b) s=some (r,s1)) (hm:m<=n) (h:okS l s=true):evF (pgL fx F0) a4d [.ptr 0 0,.d (.bool b)] (PB l s::PR s::X)=some (.d (.int .i64 r.i),PB l s1::PR s1::X):=lift ((IH m hm).primary b h (c2x e).1) rfl rfl
theorem g5v {fr:Int} {b:Bool} (IH:∀ m,m<=n->Sp fx l m) (e:cl l (go l m) (.named fr b) s=some (r,s1)) (hm:m<=n) (h:okS l s=true):evF (pgL fx F0) a5b [.ptr 0 0,.d (.int .i64 fr),.d (.bool b)] (PB l s::PR s::X)=some (.d (.int .i64 r.i),PB l s1::PR s1::X):=lift ((IH m hm).named fr b h (c2x e).1) rfl rfl
theorem c4t (IH:∀ m,m<=n->Sp fx l m) (e:cl l (go l m) .init s=some (r,s1)) (hm:m<=n) (h:okS l s=true):evF (pgL fx F0) a5t [.ptr 0 0] (PB l s::PR s::X)=some (.d (.int .i64 r.i),PB l s1::PR s1::X):=lift ((IH m hm).init h (c2x e).1) rfl rfl
end
end Go.Vm.Ite
namespace Go.Vm.Ite
open Go.Vm.Lex (TokQ)
open Go.Vm.Pa
set_option maxHeartbeats 4000000
section
variable {fx:Nat->Option Obj} {l:List TokQ} {s s1 s2:PS} {n:Nat} {r:R}
theorem i1b (hl:LOk l) (IH:∀ m,m<=n->Sp fx l m) (hs:okS l s=true) (h:go l (n+1) .typ s=some (r,s1)):evF (pgL fx F0) a4f [.ptr 0 0] [PB l s,PR s]=some (.d (.int .i64 r.i),[PB l s1,PR s1]):=by
 change Go.Vm.Pa.step l (go l n) .typ s=_ at h
 simp only[Go.Vm.Pa.step,Go.Vm.Pa.mk,Go.Vm.Pa.ret,Go.Vm.Pa.b4n,Go.Vm.Pa.deeper,Go.Vm.Pa.step.newS,Go.Vm.Pa.step.numS,Go.Vm.Pa.step.pickS]at h
 repeat' (first|(cases h;done)|split at h)
 all_goals(try(simp only[Option.some.injEq,Prod.mk.injEq]at h;obtain⟨rfl,rfl⟩:=h))
 all_goals
  refine a0h (c0l (F:=F0)) rfl rfl rfl ?_
  repeat' (first|refine a9j ⟨?_⟩|refine ca (c1z okQ asm) ?_|refine ca (g7r IH asm om okQ) ?_|refine a0r 3 (by decide) (by decide) ?_|fail)
  exact rfl
theorem g6f {fr:Int} (hl:LOk l) (IH:∀ m,m<=n->Sp fx l m) (hs:okS l s=true) (h:go l (n+1) (.typed fr) s=some (r,s1)):evF (pgL fx F0) a5f [.ptr 0 0,.d (.int .i64 fr)] [PB l s,PR s]=some (.d (.int .i64 r.i),[PB l s1,PR s1]):=by
 change Go.Vm.Pa.step l (go l n) (.typed fr) s=_ at h
 simp only[Go.Vm.Pa.step,Go.Vm.Pa.mk,Go.Vm.Pa.ret,Go.Vm.Pa.b4n,Go.Vm.Pa.deeper,Go.Vm.Pa.step.newS,Go.Vm.Pa.step.numS,Go.Vm.Pa.step.pickS]at h
 repeat' (first|(cases h;done)|split at h)
 all_goals(try(simp only[Option.some.injEq,Prod.mk.injEq]at h;obtain⟨rfl,rfl⟩:=h))
 all_goals
  refine a0h (b7o (F:=F0)) rfl rfl rfl ?_
  repeat' (first|refine a9j ⟨?_⟩|refine ca (a4q okQ asm) ?_|refine ca (a6e okQ) ?_|refine ca (a2f asm rfl) ?_|refine ca (a4g okQ asm) ?_|refine ca (a4z okQ) ?_|refine ca (h1o IH asm om okQ) ?_|refine ca (a8n okQ hl.len asm) ?_|refine ca (a9b okQ hl.len) ?_|refine a0r 3 (by decide) (by decide) ?_|fail)
  exact rfl
end
end Go.Vm.Ite
namespace Go.Vm.Ite
open Go.Vm.Lex (TokQ)
open Go.Vm.Pa
set_option maxHeartbeats 4000000
section
variable {fx:Nat->Option Obj} {l:List TokQ} {s s1 s2:PS} {n:Nat} {r:R}
theorem g9u (hl:LOk l) (IH:∀ m,m<=n->Sp fx l m) (hs:okS l s=true) (h:go l (n+1) .stmt s=some (r,s1)):evF (pgL fx F0) a5m [.ptr 0 0] [PB l s,PR s]=some (.tup [.d (.int .i64 r.i),.d (.bool r.b)],[PB l s1,PR s1]):=by
 change Go.Vm.Pa.step l (go l n) .stmt s=_ at h
 simp only[Go.Vm.Pa.step,Go.Vm.Pa.mk,Go.Vm.Pa.ret,Go.Vm.Pa.b4n,Go.Vm.Pa.deeper,Go.Vm.Pa.step.newS,Go.Vm.Pa.step.numS,Go.Vm.Pa.step.pickS]at h
 repeat' (first|(cases h;done)|split at h)
 all_goals(try(simp only[Option.some.injEq,Prod.mk.injEq]at h;obtain⟨rfl,rfl⟩:=h))
 all_goals
  refine a0h (c0g (F:=F0)) rfl rfl rfl ?_
  repeat' (first|refine a9j ⟨?_⟩|refine ca (c2c okQ asm) ?_|refine ca (h2h IH asm om okQ) ?_|refine ca (a4q okQ asm) ?_|refine ca (a6e okQ) ?_|refine ca (a8k IH asm om okQ) ?_|refine ca (d1e IH asm om okQ) ?_|refine ca (a2f asm rfl) ?_|refine ca (f2l hl rfl okQ asm) ?_|refine ca (f9b IH asm om okQ) ?_|refine a0r 3 (by decide) (by decide) ?_|fail)
  exact rfl
theorem h5u {fr:Int} (hl:LOk l) (IH:∀ m,m<=n->Sp fx l m) (hs:okS l s=true) (h:go l (n+1) (.let_ fr) s=some (r,s1)):evF (pgL fx F0) a6x [.ptr 0 0,.d (.int .i64 fr)] [PB l s,PR s]=some (.d (.int .i64 r.i),[PB l s1,PR s1]):=by
 change Go.Vm.Pa.step l (go l n) (.let_ fr) s=_ at h
 simp only[Go.Vm.Pa.step,Go.Vm.Pa.mk,Go.Vm.Pa.ret,Go.Vm.Pa.b4n,Go.Vm.Pa.deeper,Go.Vm.Pa.step.newS,Go.Vm.Pa.step.numS,Go.Vm.Pa.step.pickS]at h
 repeat' (first|(cases h;done)|split at h)
 all_goals(try(simp only[Option.some.injEq,Prod.mk.injEq]at h;obtain⟨rfl,rfl⟩:=h))
 all_goals
  refine a0h (c2q (F:=F0)) rfl rfl rfl ?_
  repeat' (first|refine a9j ⟨?_⟩|refine And.intro ⟨rfl,by decide⟩ ?_|refine Exists.intro _ (Exists.intro _ (And.intro rfl (And.intro rfl ?_)))|refine And.intro ⟨rfl,rfl,g0v⟩ ?_|refine And.intro ⟨rfl,rfl,g1t⟩ ?_|refine ca (a4g okQ asm) ?_|refine ca (a4z okQ) ?_|refine ca (a4q okQ asm) ?_|refine ca (a6e okQ) ?_|refine ca (a8n okQ hl.len asm) ?_|refine ca (a9b okQ hl.len) ?_|refine ca (h1o IH asm om okQ) ?_|refine ca (a8k IH asm om okQ) ?_|refine ca (f2l hl rfl okQ asm) ?_|refine a0r 3 (by decide) (by decide) ?_|fail)
  exact rfl
theorem f6b {fr:Int} (hl:LOk l) (IH:∀ m,m<=n->Sp fx l m) (hs:okS l s=true) (h:go l (n+1) (.blocky fr) s=some (r,s1)):evF (pgL fx F0) a4i [.ptr 0 0,.d (.int .i64 fr)] [PB l s,PR s]=some (.tup [.d (.int .i64 r.i),.d (.bool r.b)],[PB l s1,PR s1]):=by
 change Go.Vm.Pa.step l (go l n) (.blocky fr) s=_ at h
 simp only[Go.Vm.Pa.step,Go.Vm.Pa.mk,Go.Vm.Pa.ret,Go.Vm.Pa.b4n,Go.Vm.Pa.deeper,Go.Vm.Pa.step.newS,Go.Vm.Pa.step.numS,Go.Vm.Pa.step.pickS]at h
 repeat' (first|(cases h;done)|split at h)
 all_goals(try(simp only[Option.some.injEq,Prod.mk.injEq]at h;obtain⟨rfl,rfl⟩:=h))
 all_goals
  refine a0h (b5b (F:=F0)) rfl rfl rfl ?_
  repeat' (first|refine a9j ⟨?_⟩|refine ca (e3n IH asm om okQ) ?_|refine ca (c2c okQ asm) ?_|refine ca (a2f asm rfl) ?_|refine ca (a4q okQ asm) ?_|refine ca (a6e okQ) ?_|refine a0r 3 (by decide) (by decide) ?_|fail)
  exact rfl
theorem f9j (hl:LOk l) (IH:∀ m,m<=n->Sp fx l m) (hs:okS l s=true) (h:go l (n+1) .branch s=some (r,s1)):evF (pgL fx F0) a4r [.ptr 0 0] [PB l s,PR s]=some (.d (.int .i64 r.i),[PB l s1,PR s1]):=by
 change Go.Vm.Pa.step l (go l n) .branch s=_ at h
 simp only[Go.Vm.Pa.step,Go.Vm.Pa.mk,Go.Vm.Pa.ret,Go.Vm.Pa.b4n,Go.Vm.Pa.deeper,Go.Vm.Pa.step.newS,Go.Vm.Pa.step.numS,Go.Vm.Pa.step.pickS]at h
 repeat' (first|(cases h;done)|split at h)
 all_goals(try(simp only[Option.some.injEq,Prod.mk.injEq]at h;obtain⟨rfl,rfl⟩:=h))
 all_goals
  refine a0h (b6d (F:=F0)) rfl rfl rfl ?_
  repeat' (first|refine a9j ⟨?_⟩|refine ca (c2c okQ asm) ?_|refine ca (g0b IH asm om okQ) ?_|refine ca (f6d IH asm om okQ) ?_|refine ca (d1e IH asm om okQ) ?_|refine a0r 3 (by decide) (by decide) ?_|fail)
  exact rfl
theorem h5p (hl:LOk l) (IH:∀ m,m<=n->Sp fx l m) (hs:okS l s=true) (h:go l (n+1) .cond s=some (r,s1)):evF (pgL fx F0) a5v [.ptr 0 0] [PB l s,PR s]=some (.d (.int .i64 r.i),[PB l s1,PR s1]):=by
 change Go.Vm.Pa.step l (go l n) .cond s=_ at h
 simp only[Go.Vm.Pa.step,Go.Vm.Pa.mk,Go.Vm.Pa.ret,Go.Vm.Pa.b4n,Go.Vm.Pa.deeper,Go.Vm.Pa.step.newS,Go.Vm.Pa.step.numS,Go.Vm.Pa.step.pickS]at h
 repeat' (first|(cases h;done)|split at h)
 all_goals(try(simp only[Option.some.injEq,Prod.mk.injEq]at h;obtain⟨rfl,rfl⟩:=h))
 all_goals
  refine a0h (b9u (F:=F0)) rfl rfl rfl ?_
  repeat' (first|refine a9j ⟨?_⟩|refine And.intro ⟨rfl,by decide⟩ ?_|refine Exists.intro _ (Exists.intro _ (And.intro rfl (And.intro rfl ?_)))|refine And.intro ⟨rfl,rfl,g0v⟩ ?_|refine And.intro ⟨rfl,rfl,g1t⟩ ?_|refine ca (a4g okQ asm) ?_|refine ca (a4z okQ) ?_|refine ca (a8k IH asm om okQ) ?_|refine ca (d1e IH asm om okQ) ?_|refine ca (a4q okQ asm) ?_|refine ca (a6e okQ) ?_|refine ca (c2c okQ asm) ?_|refine ca (c1z okQ asm) ?_|refine ca (g0b IH asm om okQ) ?_|refine ca (a2f asm rfl) ?_|refine a0r 3 (by decide) (by decide) ?_|fail)
  exact rfl
end
end Go.Vm.Ite
namespace Go.Vm.Ite
open Go.Vm.Lex (TokQ)
open Go.Vm.Pa
set_option maxHeartbeats 4000000
section
variable {fx:Nat->Option Obj} {l:List TokQ} {s s1 s2:PS} {n:Nat} {r:R}
theorem i1d (hl:LOk l) (IH:∀ m,m<=n->Sp fx l m) (hs:okS l s=true) (h:go l (n+1) .arm s=some (r,s1)):evF (pgL fx F0) a7a [.ptr 0 0] [PB l s,PR s]=some (.d (.int .i64 r.i),[PB l s1,PR s1]):=by
 change Go.Vm.Pa.step l (go l n) .arm s=_ at h
 simp only[Go.Vm.Pa.step,Go.Vm.Pa.mk,Go.Vm.Pa.ret,Go.Vm.Pa.b4n,Go.Vm.Pa.deeper,Go.Vm.Pa.step.newS,Go.Vm.Pa.step.numS,Go.Vm.Pa.step.pickS]at h
 repeat' (first|(cases h;done)|split at h)
 all_goals(try(simp only[Option.some.injEq,Prod.mk.injEq]at h;obtain⟨rfl,rfl⟩:=h))
 all_goals
  refine a0h (c0v (F:=F0)) rfl rfl rfl ?_
  repeat' (first|refine a9j ⟨?_⟩|refine ca (d5o IH asm om okQ) ?_|refine ca (a4g okQ asm) ?_|refine ca (a4z okQ) ?_|refine ca (c2c okQ asm) ?_|refine ca (d1e IH asm om okQ) ?_|refine ca (a2f asm rfl) ?_|refine ca (a4q okQ asm) ?_|refine ca (a6e okQ) ?_|refine ca (a8k IH asm om okQ) ?_|refine a0r 3 (by decide) (by decide) ?_|fail)
  exact rfl
theorem f2k (hl:LOk l) (IH:∀ m,m<=n->Sp fx l m) (hs:okS l s=true) (h:go l (n+1) .pattern s=some (r,s1)):evF (pgL fx F0) a2u [.ptr 0 0] [PB l s,PR s]=some (.d (.int .i64 r.i),[PB l s1,PR s1]):=by
 change Go.Vm.Pa.step l (go l n) .pattern s=_ at h
 simp only[Go.Vm.Pa.step,Go.Vm.Pa.mk,Go.Vm.Pa.ret,Go.Vm.Pa.b4n,Go.Vm.Pa.deeper,Go.Vm.Pa.step.newS,Go.Vm.Pa.step.numS,Go.Vm.Pa.step.pickS]at h
 repeat' (first|(cases h;done)|split at h)
 all_goals(try(simp only[Option.some.injEq,Prod.mk.injEq]at h;obtain⟨rfl,rfl⟩:=h))
 all_goals
  refine a0h (b4k (F:=F0)) rfl rfl rfl ?_
  repeat' (first|refine a9j ⟨?_⟩|refine ca (c1z okQ asm) ?_|refine ca (d8o IH asm om okQ) ?_|refine a0r 3 (by decide) (by decide) ?_|fail)
  exact rfl
theorem d8t {fr:Int} (hl:LOk l) (IH:∀ m,m<=n->Sp fx l m) (hs:okS l s=true) (h:go l (n+1) (.patterned fr) s=some (r,s1)):evF (pgL fx F0) a3h [.ptr 0 0,.d (.int .i64 fr)] [PB l s,PR s]=some (.d (.int .i64 r.i),[PB l s1,PR s1]):=by
 change Go.Vm.Pa.step l (go l n) (.patterned fr) s=_ at h
 simp only[Go.Vm.Pa.step,Go.Vm.Pa.mk,Go.Vm.Pa.ret,Go.Vm.Pa.b4n,Go.Vm.Pa.deeper,Go.Vm.Pa.step.newS,Go.Vm.Pa.step.numS,Go.Vm.Pa.step.pickS]at h
 repeat' (first|(cases h;done)|split at h)
 all_goals(try(simp only[Option.some.injEq,Prod.mk.injEq]at h;obtain⟨rfl,rfl⟩:=h))
 all_goals
  refine a0h (b3c (F:=F0)) rfl rfl rfl ?_
  repeat' (first|refine a9j ⟨?_⟩|refine And.intro (i1e hl) ?_|refine And.intro (i4w hl) ?_|refine ca (a4q okQ asm) ?_|refine ca (a6e okQ) ?_|refine ca (a2f asm rfl) ?_|refine ca (c2c okQ asm) ?_|refine ca (c0t okQ) ?_|refine ca (c5c okQ) ?_|refine ca (a8n okQ hl.len asm) ?_|refine ca (a9b okQ hl.len) ?_|refine ca (d5o IH asm om okQ) ?_|refine ca (a4g okQ asm) ?_|refine ca (a4z okQ) ?_|refine a0r 3 (by decide) (by decide) ?_|fail)
  exact rfl
theorem h5m {b:Bool} (hl:LOk l) (IH:∀ m,m<=n->Sp fx l m) (hs:okS l s=true) (h:go l (n+1) (.expr b) s=some (r,s1)):evF (pgL fx F0) a3n [.ptr 0 0,.d (.bool b)] [PB l s,PR s]=some (.d (.int .i64 r.i),[PB l s1,PR s1]):=by
 change Go.Vm.Pa.step l (go l n) (.expr b) s=_ at h
 simp only[Go.Vm.Pa.step,Go.Vm.Pa.mk,Go.Vm.Pa.ret,Go.Vm.Pa.b4n,Go.Vm.Pa.deeper,Go.Vm.Pa.step.newS,Go.Vm.Pa.step.numS,Go.Vm.Pa.step.pickS]at h
 repeat' (first|(cases h;done)|split at h)
 all_goals(try(simp only[Option.some.injEq,Prod.mk.injEq]at h;obtain⟨rfl,rfl⟩:=h))
 all_goals
  refine a0h (b8i (F:=F0)) rfl rfl rfl ?_
  repeat' (first|refine a9j ⟨?_⟩|refine ca (c1z okQ asm) ?_|refine ca (d1v IH asm om okQ) ?_|refine a0r 3 (by decide) (by decide) ?_|fail)
  exact rfl
theorem f3x {b:Bool} (hl:LOk l) (IH:∀ m,m<=n->Sp fx l m) (hs:okS l s=true) (h:go l (n+1) (.operand b) s=some (r,s1)):evF (pgL fx F0) a4a [.ptr 0 0,.d (.bool b)] [PB l s,PR s]=some (.d (.int .i64 r.i),[PB l s1,PR s1]):=by
 change Go.Vm.Pa.step l (go l n) (.operand b) s=_ at h
 simp only[Go.Vm.Pa.step,Go.Vm.Pa.mk,Go.Vm.Pa.ret,Go.Vm.Pa.b4n,Go.Vm.Pa.deeper,Go.Vm.Pa.step.newS,Go.Vm.Pa.step.numS,Go.Vm.Pa.step.pickS]at h
 repeat' (first|(cases h;done)|split at h)
 all_goals(try(simp only[Option.some.injEq,Prod.mk.injEq]at h;obtain⟨rfl,rfl⟩:=h))
 all_goals
  refine a0h (b4m (F:=F0)) rfl rfl rfl ?_
  repeat' (first|refine a9j ⟨?_⟩|refine ca (c1z okQ asm) ?_|refine ca (b0x IH asm om okQ) ?_|refine a0r 3 (by decide) (by decide) ?_|fail)
  exact rfl
end
end Go.Vm.Ite
