/- The items of every source are the document's, or what is wrong first; no condition. -/
import Derived.Test.YtocpgkeiakjicaaGreatPaT3a
import Derived.Test.YtocpgkeiakjicaaGreatPaT3b
import Derived.Test.YtocpgkeiakjicaaGreatPaT3d
import Derived.Test.YtocpgkeiakjicaaGreatIteA4
import Derived.Test.YtocpgkeiakjicaaGreatPaG
import Derived.Test.YtocpgkeiakjicaaGreatIteA15
import Derived.Test.YtocpgkeiakjicaaGreatIteS2
import Derived.Test.YtocpgkeiakjicaaGreatTreP5
set_option maxRecDepth 100000
set_option linter.unusedVariables false
set_option linter.unusedSimpArgs false
namespace Go.Vm.Pa
open Go.Vm.Lex (TokQ)
open Go.Vm.Tp (Nd I64)
theorem e8e {l:List TokQ} (hl:TOk l):∀ n,IHt l n
 |0=>fun q s p m=>by
  exfalso
  obtain⟨m1,m2⟩:=m
  have:=p.hi
  by_cases h:s.bc=0
  ·have h1:=m1 h
   have:0<=rQ q:=by
    cases q<;>try(simp only[rQ];omega)
    have:=p.ex
    simp only[Ext]at this
    simp only[rQ];omega
   omega
  ·have h1:=m2 h
   omega
 |n+1=>fun q s p m=>by
  have IH:=e8e hl n
  show G l q s (step l (go l n) q s)
  cases q with
  |typ=>exact h8l hl IH p m
  |typed fr=>exact g4e hl IH p m
  |param=>exact g3w hl IH p m
  |field=>exact g4i hl IH p m
  |variant=>exact f0p hl IH p m
  |params ks v=>exact f7k hl IH p m
  |function=>exact e5v hl IH p m
  |fields k ks=>exact f7o hl IH p m
  |parts k=>exact g2j hl IH p m
  |item=>exact g9k hl IH p m
  |items ks=>exact g4z hl IH p m
  |stmts ks=>exact g2x hl IH p m
  |block=>exact g4s hl IH p m
  |stmt=>exact h3j hl IH p m
  |let_ fr=>exact h7z hl IH p m
  |blocky fr=>exact f5v hl IH p m
  |branch=>exact f7x hl IH p m
  |cond=>exact h1m hl IH p m
  |match_=>exact g4u hl IH p m
  |arms ks=>exact h3e hl IH p m
  |arm=>exact h7s hl IH p m
  |pattern=>exact f2c hl IH p m
  |patterned fr=>exact d8x hl IH p m
  |expr bare=>exact h2l hl IH p m
  |row k bare=>exact h8m hl IH p m
  |rows k bare fr a=>exact g9h hl IH p m
  |operand bare=>exact f0j hl IH p m
  |prefix_ bare=>exact f5g hl IH p m
  |postfix_ bare=>exact e8t hl IH p m
  |gets fr a=>exact g8f hl IH p m
  |primary bare=>exact e7l hl IH p m
  |named fr bare=>exact g3z hl IH p m
  |args ks=>exact g7z hl IH p m
  |inits ks=>exact g2r hl IH p m
  |init=>exact h2e hl IH p m
end Go.Vm.Pa
namespace Go.Vm.Lex
theorem b7z:∀ (u:List UInt8) (b:Bool),a0n b (u.take (a0n b u))=a0n b u
 |[],b=>by cases b<;>rfl
 |c::r,false=>by
  rw[a9b]
  by_cases h:wsB c=true
  ·rw[if_pos h,List.take_succ_cons,a9b,if_pos h,b7z r false]
  ·rw[if_neg h]
   by_cases h2:c=47/\r.head? =some 47
   ·rw[if_pos h2,List.take_succ_cons,a9b,if_neg h]
    have hh:(r.take (a0n true r)).head? =some 47:=by
     cases r with
     |nil=>simp at h2
     |cons d r=>
      have hd:d=47:=by simpa using h2.2
      subst hd
      rw[b3w,if_neg (by decide),List.take_succ_cons];rfl
    rw[if_pos ⟨h2.1,hh⟩,b7z r true]
   ·rw[if_neg h2];rfl
 |c::r,true=>by
  rw[b3w]
  by_cases h:c=10
  ·rw[if_pos h,List.take_succ_cons,b3w,if_pos h,b7z r false]
  ·rw[if_neg h,List.take_succ_cons,b3w,if_neg h,b7z r true]
theorem e1h {s:List UInt8} (h:s.length<=65536) (hv:Val s):a4w s=toks 0 s:=by
 unfold a4w
 rw[if_neg om,if_neg (by unfold Val at hv;omega)]
def Gap (s:List UInt8) (a f:Nat):Prop:=a4w ((s.drop a).take (f - a))=([⟨5,[],0,f - a,f - a⟩],Dg.ok)
def Chain (s:List UInt8):Nat->List TokQ->Prop
 |a,[]=>a=s.length
 |a,x::r=>a<=x.f/\x.f<=x.e/\x.e<=s.length/\(s.drop x.f).take (x.e - x.f)=x.t/\(x.k=5↔r=[])/\Gap s a x.f/\Chain s x.e r
theorem f3m {s:List UInt8} {a:Nat} (hs:s.length<=65536) (hv:Val (s.drop a)) (hb:(s.drop a).length<=a0n false (s.drop a)\/∃ c,(s.drop a)[a0n false (s.drop a)]? =some c/\c.toNat < 128):Gap s a (a+a0n false (s.drop a)):=by
 unfold Gap
 rw[Nat.add_sub_cancel_left]
 have h1:=(d4q _ (s.drop a) _ (Nat.le_refl _) hv hb).1
 have hl:=a2x false (s.drop a)
 have hle:((s.drop a).take (a0n false (s.drop a))).length=a0n false (s.drop a):=by rw[List.length_take];omega
 rw[e1h (by rw[hle];rw[List.length_drop]at hl;omega) h1,a7f 0 (by rw[b7z];exact List.drop_eq_nil_of_le om),hle,Nat.zero_add]
theorem f0s {w:List UInt8->Nat} {s:List UInt8} (h:(a3f w s).e=0):(a3f w s).k≠5:=by
 unfold a3f at h⊢
 repeat' split
 all_goals simp_all
theorem e5n {s:List UInt8} (hs:s.length<=65536):∀ (n a:Nat),s.length - a<=n->a<=s.length->Val (s.drop a)->(toks a (s.drop a)).2.c=0->Chain s a (toks a (s.drop a)).1/\(toks a (s.drop a)).2=Dg.ok/\(toks a (s.drop a)).1≠[]:=by
 intro n
 induction n with
 |zero=>
  intro a h ha hv hc
  have e:s.drop a=[]:=List.drop_eq_nil_of_le om
  rw[a7f a (by rw[e];rfl)]at hc⊢
  have hl:a+(s.drop a).length=s.length:=by rw[List.length_drop];omega
  have ha':a=s.length:=om
  refine⟨?_,rfl,by simp⟩
  simp only[Chain,hl]
  refine⟨om,om,om,by simp,by simp,?_,trivial⟩
  have:=f3m hs hv (.inl (by rw[e];simp))
  rw[e,b3u,Nat.add_zero,ha']at this
  rw[ha'];exact this
 |succ n ih=>
  intro a h ha hv hc
  have hsl:=a2x false (s.drop a)
  by_cases h0:(s.drop a).drop (a0n false (s.drop a))=[]
  ·rw[a7f a h0]at hc⊢
   have hl:a+(s.drop a).length=s.length:=by rw[List.length_drop];omega
   have hk:a0n false (s.drop a)=(s.drop a).length:=by
    have:=congrArg List.length h0;rw[List.length_drop]at this;simp at this;rw[List.length_drop]at hsl⊢;omega
   refine⟨?_,rfl,by simp⟩
   simp only[Chain,hl]
   refine⟨om,om,om,by simp,by simp,?_,trivial⟩
   have:=f3m hs hv (.inl om)
   rw[hk,hl]at this;exact this
  ·by_cases he:(a3f szL ((s.drop a).drop (a0n false (s.drop a)))).e=0
   ·obtain⟨k1,k2,k3,k4⟩:=c4e he
    have hkd:=f0s he
    rw[c0m a h0 he]at hc⊢
    simp only[List.drop_drop]at hc k1 k2 k3 k4 hkd⊢
    generalize hT:a3f szL (s.drop (a+a0n false (s.drop a)))=T at*
    generalize hK:a0n false (s.drop a)=K at*
    rw[List.length_drop]at k2 hsl
    have hv2:Val (s.drop (a+(K+T.n))):=by
     have:=d2b _ (s.drop a) (Nat.le_refl _) hv
     rw[hK,List.drop_drop]at this
     rw[show a+(K+T.n)=(a+K)+T.n by omega,<-List.drop_drop]
     exact(d9k _ _ k4).1 this
    have hcc:(toks (a+(K+T.n)) (s.drop (a+(K+T.n)))).2.c=0:=by
     unfold after at hc
     split at hc
     ·assumption
     ·exact hc
    obtain⟨i1,i2,i3⟩:=ih (a+(K+T.n)) om om hv2 hcc
    unfold after
    rw[if_pos hcc]
    refine⟨?_,i2,by simp⟩
    simp only[List.singleton_append,Chain]
    have hb:(s.drop a)[K]? =s[a+K]? :=List.getElem?_drop ..
    refine⟨om,om,om,?_,?_,?_,?_⟩
    ·rw[Nat.add_sub_cancel_left,k3]
    ·exact⟨fun e=>absurd e hkd,fun e=>absurd e i3⟩
    ·have:=f3m hs hv (.inr ?_)
     ·rw[hK]at this;exact this
     ·rw[hK,hb]
      have hlt:a+K < s.length:=om
      refine⟨s[a+K],List.getElem?_eq_getElem hlt,k4 _ ?_⟩
      rw[List.mem_iff_getElem?]
      exact⟨0,by rw[List.getElem?_take,if_pos om,List.getElem?_drop,Nat.add_zero,List.getElem?_eq_getElem hlt]⟩
    ·rw[show a+K+T.n=a+(K+T.n)by omega];exact i1
   ·rw[b5a a h0 he]at hc;exact absurd hc he
theorem c8y (s:List UInt8) (h:(a4w s).2.c=0):s.length<=65536/\Val s/\a4w s=toks 0 s/\Chain s 0 (a4w s).1/\(a4w s).1≠[]/\(a4w s).2=Dg.ok:=by
 unfold a4w at h
 split at h
 ·cases h
 ·rename_i h1
  split at h
  ·cases h
  ·rename_i h2
   have hv:Val s:=by have:=c7z _ s 0 (Nat.le_refl _);unfold Val;omega
   have e:=e1h (by omega:s.length<=65536) hv
   have:=e5n (by omega:s.length<=65536) _ 0 (Nat.le_refl _) (Nat.zero_le _) (by rw[List.drop_zero];exact hv) (by rw[List.drop_zero];exact h)
   rw[List.drop_zero]at this
   rw[e]
   exact⟨om,hv,rfl,this.1,this.2.2,this.2.1⟩
end Go.Vm.Lex
namespace Go.Vm.Pa
open Go.Vm.Lex (TokQ toks a4w a3f szL a0n after Dg)
open Go.Vm.Tp (Nd I64)
theorem h3g {w:List UInt8->Nat} (s:List UInt8):I64 (a3f w s).v:=by
 unfold a3f I64
 (repeat' split)<;>dsimp only<;>(try omega)
 rename_i h
 simp only[Lex.b7m,Bool.and_eq_true,decide_eq_true_eq]at h
 have:=h.2
 omega
structure Small (m:Nat) (x:TokQ):Prop where
 t:x.t.length<=m
 v:I64 x.v
 f:x.f<=m
 e:x.e<=m
theorem e4m (m:Nat):∀ (n a:Nat) (s:List UInt8),s.length<=n->a+s.length<=m->(toks a s).2.c=0->(toks a s).1.length<=s.length+1/\(∀ x∈(toks a s).1,Small m x)/\(toks a s).1≠[]/\∀ i,i < (toks a s).1.length->((toks a s).1.getD i default).k≠5->i+1 < (toks a s).1.length:=by
 intro n
 induction n with
 |zero=>
  intro a s hs hm hc
  have e:s=[]:=List.eq_nil_of_length_eq_zero om
  subst e
  rw[Lex.a7f a rfl]
  refine⟨by simp,fun x hx=>?_,by simp,fun i hi h5=>?_⟩
  ·simp only[List.mem_singleton]at hx
   subst hx
   exact⟨Nat.zero_le _,by unfold I64;dsimp only;omega,hm,hm⟩
  ·simp only[List.length_singleton]at hi
   have:i=0:=om
   subst this
   exact absurd rfl h5
 |succ n ih=>
  intro a s hs hm hc
  have hsl:=Lex.a2x false s
  by_cases h0:s.drop (a0n false s)=[]
  ·rw[Lex.a7f a h0]
   refine⟨by simp,fun x hx=>?_,by simp,fun i hi h5=>?_⟩
   ·simp only[List.mem_singleton]at hx
    subst hx
    exact⟨Nat.zero_le _,by unfold I64;dsimp only;omega,hm,hm⟩
   ·simp only[List.length_singleton]at hi
    have:i=0:=om
    subst this
    exact absurd rfl h5
  ·by_cases he:(a3f szL (s.drop (a0n false s))).e=0
   ·obtain⟨k1,k2,k3,k4⟩:=Lex.c4e he
    have hv:=h3g (w:=szL) (s.drop (a0n false s))
    rw[Lex.c0m a h0 he]at hc⊢
    generalize hT:a3f szL (s.drop (a0n false s))=T at*
    rw[List.length_drop]at k2
    have hc2:(toks (a+(a0n false s+T.n)) (s.drop (a0n false s+T.n))).2.c=0:=by
     unfold after at hc
     split at hc
     ·assumption
     ·rename_i h;exact absurd hc h
    have hl:(s.drop (a0n false s+T.n)).length=s.length - (a0n false s+T.n):=List.length_drop ..
    obtain⟨i1,i2,i3,i4⟩:=ih (a+(a0n false s+T.n)) (s.drop (a0n false s+T.n)) om om hc2
    unfold after
    rw[if_pos hc2]
    dsimp only
    generalize(toks (a+(a0n false s+T.n)) (s.drop (a0n false s+T.n))).1=r at*
    refine⟨by rw[List.length_append,List.length_singleton];omega,fun x hx=>?_,by simp,fun i hi h5=>?_⟩
    ·rcases List.mem_append.1 hx with hx|hx
     ·simp only[List.mem_singleton]at hx
      subst hx
      refine⟨?_,hv,by dsimp only;omega,by dsimp only;omega⟩
      show T.t.length<=m
      rw[k3,List.length_take,List.length_drop];omega
     ·exact i2 x hx
    ·have hr:0 < r.length:=List.length_pos_iff.2 i3
     rw[List.length_append,List.length_singleton]at hi⊢
     cases i with
     |zero=>omega
     |succ i=>
      have:=i4 i om (by simpa [List.getD_eq_getElem?_getD] using h5)
      omega
   ·rw[Lex.b5a a h0 he]at hc
    exact absurd hc he
theorem h2n {s:List UInt8} (h:(a4w s).2.c=0):TOk (a4w s).1:=by
 obtain⟨h1,_,h3,_⟩:=Lex.c8y s h
 rw[h3]at h⊢
 obtain⟨i1,i2,i3,i4⟩:=e4m s.length s.length 0 s (Nat.le_refl _) om h
 have all:∀ i,Small 65536 ((toks 0 s).1.getD i default):=fun i=>by
   rw[List.getD_eq_getElem?_getD]
   cases c:(toks 0 s).1[i]? with
   |none=>exact⟨Nat.zero_le _,by unfold I64;decide,Nat.zero_le _,Nat.zero_le _⟩
   |some x=>
    have:=i2 x (List.mem_of_getElem? c)
    exact⟨Nat.le_trans this.t h1,this.v,Nat.le_trans this.f h1,Nat.le_trans this.e h1⟩
 exact⟨om,fun i=>(all i).t,fun i=>(all i).v,fun i=>⟨(all i).f,(all i).e⟩,i4⟩
end Go.Vm.Pa
namespace Go.Vm.Ite
open Go.Vm.Lex (TokQ Dg a4w dgD)
open Go.Vm.Pa
open Go.Vm.Tp (Nd a1r)
theorem h0q {l:List TokQ} (h:TOk l):LOk l:=⟨by have:=h.len;omega,fun i=>by have:=h.txt i;omega,h.last⟩
theorem e9o {t:List Nd} {n:Nat} (hn:t.length<=1048576) (hk:n<=1048576) (h:∀ x∈t,f7d n x):Tp.b0r t where
 len:=hn
 txt:=fun x hx=>by have:=(h x hx).tl;omega
 kid:=fun x hx=>by have:=(h x hx).kl;omega
 ik:=fun x hx k hk=>by have:=(h x hx).kid k hk;unfold Tp.I64;omega
 iv:=fun x hx=>(h x hx).v
 ie:=fun x hx=>⟨(h x hx).f,(h x hx).e⟩
theorem b8m:Tp.b0r []:=⟨by simp,by simp,by simp,by simp,by simp,by simp⟩
theorem e8l {fx:Nat->Option Obj} (src:S):∃ t c f e,(∀ H,evF (pgL fx F0) b2d [str src] H=some (.tup [.d (a1r t),.d (dgD c f e)],H))/\Tp.b0r t:=by
 by_cases h1:65536 < src.length
 ·exact⟨[],2,0,0,fun H=>d5g src H (by decide) (.inl ⟨h1,rfl,rfl,rfl⟩),b8m⟩
 by_cases hc:(a4w src).2.c=0
 rotate_left
 ·exact⟨[],(a4w src).2.c,(a4w src).2.f,(a4w src).2.e,fun H=>d5g src H hc (.inr ⟨om,rfl,rfl,rfl⟩),b8m⟩
 have ht:=h2n hc
 have hne:0 < (a4w src).1.length:=List.length_pos_iff.2 (Lex.c8y src hc).2.2.2.2.1
 obtain⟨l,hl⟩:∃ l,(a4w src).1=l:=⟨_,rfl⟩
 rw[hl]at ht hne
 have hlen:=ht.len
 have p:Pre l (.items K.o) PS0:=⟨by show(0:Int)<=0;omega,by show(0:Int) < l.length;omega,⟨rfl,[],rfl,fun x hx=>by cases hx⟩,⟨fun _=>by show((0:Nat):Int)+15* ((l.length:Int) - 0)+((2:Nat):Int)<=999990;omega,fun h=>absurd rfl h⟩,fun h=>(by cases h),⟨a6o _,by show((0:Nat):Int)<=0+3;omega,fun _=>by show((0:Nat):Int)<=0+2;omega⟩⟩
 have m:Mu l (.items K.o) PS0 (64*l.length+10):=⟨fun _=>by show 64* ((l.length:Int) - 0)+1+2 < ((64*l.length+10:Nat):Int);omega,fun h=>absurd rfl h⟩
 obtain⟨r,s1,hg,P⟩:=e8e ht _ _ _ p m
 obtain⟨g1,t0,g2,g3⟩:=P.ns
 obtain⟨⟨k1,il,k2,k3⟩,k4⟩:=P.rk
 have hhi:=P.hi
 obtain⟨_,_,_,_,hcnt⟩:=P.num
 have hcnt:=hcnt rfl
 have hn:s1.n < 999999:=by
  simp only[cQ,dQ,show PS0.at_=0 from rfl,show PS0.n=0 from rfl]at hcnt
  omega
 have hat:0<=s1.at_:=P.num.1
 have ck:okK r.ks=true:=by unfold okK;rw[decide_eq_true k1,decide_eq_true om];rfl
 have h3:okS l s1=true:=by unfold okS;rw[decide_eq_true hat,decide_eq_true hhi];rfl
 have hil:il.length=r.ks.n:=by rw[<-k1,k2,List.length_map]
 have h0:okS l PS0=true:=by unfold okS;rw[decide_eq_true (show(0:Int)<=PS0.at_ from Int.le_refl _),decide_eq_true (show PS0.at_ < (l.length:Int)by show(0:Int) < _;omega)];rfl
 have htl:t0.length=s1.n:=by rw[<-g1,g2,List.length_map]
 have hgood:∀ x∈t0++[(⟨1,[],0,il,0,(src.length:Int)⟩:Nd)],f7d s1.n x:=by
  intro x hx
  rcases List.mem_append.1 hx with hx|hx
  ·exact g3 x hx
  ·rw[List.mem_singleton.1 hx]
   exact⟨k3,by show il.length<=_;omega,Nat.zero_le _,b5e,b5e,by unfold Tp.I64;dsimp only;omega⟩
 have hns:(crS r.ks src.length s1).ns=(t0++[(⟨1,[],0,il,0,(src.length:Int)⟩:Nd)]).map Nd.D:=by
  show s1.ns++[_]=_
  rw[g2,List.map_append,k2];rfl
 have hfl:(t0++[(⟨1,[],0,il,0,(src.length:Int)⟩:Nd)]).length=s1.n+1:=by rw[List.length_append,htl];rfl
 generalize t0++[(⟨1,[],0,il,0,(src.length:Int)⟩:Nd)]=t at hgood hns hfl
 have hf:Tp.b0r t:=e9o (n:=s1.n) om om hgood
 have ev:=fun H=>f6k (fx:=fx) src H om hc hl.symm (h0q ht) h0 hg ck g1 om h3 hns (fun x hx=>by have:=(hgood x hx).kl;omega) (fun x hx k hk=>⟨((hgood x hx).kid k hk).1,by have:=((hgood x hx).kid k hk).2;omega⟩)
 have hfin:Tp.b0r (e3h l src.length (crS r.ks src.length s1) t).1/\∃ c f e,(e3h l src.length (crS r.ks src.length s1) t).2=dgD c f e:=by
  unfold e3h
  (repeat' split)
  ·exact⟨b8m,_,_,_,rfl⟩
  ·exact⟨b8m,_,_,_,rfl⟩
  ·exact⟨hf,_,_,_,rfl⟩
  ·exact⟨b8m,_,_,_,rfl⟩
 obtain⟨hff,c,f,e,hd⟩:=hfin
 rw[hd]at ev
 exact⟨_,c,f,e,ev,hff⟩
end Go.Vm.Ite
namespace Go.Vm.Ite
open Go.Vm.Tp (Nd a1r a1f a3x)
open Go.Vm.Ip
open Go.Vm.Io hiding S
theorem f7y {t:List Nd} (hf:Tp.b0r t):b0r (ofP t).1:=by
 have e0:b0r eI:=⟨Nat.zero_le _,Nat.zero_le _,Nat.zero_le _,by simp,by simp,by simp⟩
 unfold ofP
 by_cases hc:a1f t=true
 ·rw[if_pos hc]
  have hr:=g4k hf hc
  (repeat' split)
  all_goals first|exact d0x hr (c6g hr) (fun n hn=>(c9g hr n hn).1)|exact e0
 ·rw[if_neg hc];exact e0
section
variable {fx:Nat->Option Obj}
theorem e6e {t:List Nd} (hf:Tp.b0r t) (H:Hp):evF (pgL fx FT) c3q [.d (a1r t)] H=some (boo true,H):=by
 refine a1d (c4v (F:=FT)) rfl rfl ?_ H
 have e1:=fun H=>h8p (fx:=fx) hf H
 have e2:=fun H=>g1h (fx:=fx) hf H
 have e3:=fun H=>f3o (fx:=fx) (F:=FT) (ofP t).1 (f7y hf) H
 have e4:=fun H=>c7t (fx:=fx) H
 obtain⟨c,f,e,hd⟩:∃ c f e,(ofP t).2=Lex.dgD c f e:=by
  rcases g6y t with⟨g,_⟩|⟨c,f,e,_,g⟩
  ·exact⟨_,_,_,g⟩
  ·exact⟨_,_,_,g⟩
 rw[hd]at e1 e2
 generalize(ofP t).1=x at e1 e2 e3
 have q:eqL [.int .i64 c,.int .i64 f,.int .i64 e] [.int .i64 c,.int .i64 f,.int .i64 e]=true:=by simp[eqL,eq1]
 repeat' (first|refine run ⟨?_⟩|refine ca (e1 _) ?_|refine ca (e2 _) ?_|refine ca (e3 _) ?_|refine ca (e4 _) ?_|fail)
 exact rfl
theorem e9s (src:S) (H:Hp):evF (pgL fx FT) b7e [str src] H=some (boo true,H):=by
 refine a1d (b7j (F:=FT)) rfl rfl ?_ H
 obtain⟨t,c,f,e,hp,hf⟩:=e8l (fx:=fx) src
 have e1:=fun H=>up (F:=FT) (hp H)
 have e2:=fun H=>e6e (fx:=fx) hf H
 have e4:=fun H=>c7t (fx:=fx) H
 by_cases hc:c=0
 ·have nc:(!decide (c=0))=false:=by rw[decide_eq_true hc];rfl
  repeat' (first|refine run ⟨?_⟩|refine ca (e1 _) ?_|refine ca (e2 _) ?_|fail)
  exact rfl
 ·have nc:(!decide (c=0))=true:=by rw[decide_eq_false hc];rfl
  repeat' (first|refine run ⟨?_⟩|refine ca (e1 _) ?_|refine ca (e4 _) ?_|fail)
  exact rfl
end
end Go.Vm.Ite
namespace Go.Proofs.YtocpgkeiakjicaaGreat
open Go Go.Vm Go.ChangeShapes Go.WideShapes Go.ChangeAt Go.RowKit Go.Vm.Tp
theorem c5z {H:Type} (W:World) (ds:List (DataW H)) (h1:ds.length=Tryz.f3.params.size) (h2:∀ (i:Nat) t x,Tryz.f3.params[i]? =some t->ds[i]? =some x->d3g Tryz.prog 8 t (dwD x)):∃ H',evF (pgW W) 3 ((ds.map dwD).map V.d) []=some (.d (.bool true),H'):=by
 have hp:Tryz.f3.params= #[9]:=Tryz.params3
 match ds,h1 with
 |[d0],_=>
  have hd0:=h2 0 9 d0 (by rw[hp];rfl) rfl
  obtain⟨s,e1,_⟩:=f5c h9p.n hd0
  exact⟨[],by rw[h8j];show evF _ 3 [.d (dwD d0)] []=_;rw[e1];exact Go.Vm.Ite.e9s s []⟩
theorem b8q (os:Os) (started:os.Started) (H:Type) (enc:TypeId×Value->H) (F:Stop.Interp):
 ReturnsInHanded {} Tryz.checked os 3 .any ((OpenSpec.ofChange Rows.itemsSourceSpec).preRow enc Tryz.prog Tryz.f3 Rows.itemsSourceRow.domain false Rows.itemsSourceRow.laid) (((OpenSpec.ofChange Rows.itemsSourceSpec).at F).post enc Tryz.prog Tryz.f3 false true false false):=by
 refine returnsInHanded_of_row (C:=Tryz.checked) (s:=OpenSpec.ofChange Rows.itemsSourceSpec) own started kr Tryz.func3
   (witness_row_at (enc:=enc) (C:=Tryz.checked) false (World.laidAll Tryz.prog os []) #[.string ⟨#[]⟩] (World.laidAll_os _ _ _) kr kr kr
     (OpenSpec.preRow_of_cond 8 (x:=([.lit (.string [])],[],[])) kr kr (fun k hk=>by cases hk) kr (f7e os _))) ?_
 intro W base args ds gs before hval hW _ hcond _ hL hsh _
 have hgs:gs=[]:=(trodVars_none hW.choose_spec.choose_spec.2.1).1
 refine d4z (s:=Rows.itemsSourceSpec) (m:=8) (tb:=4) (pg:=pgW W) (tOk hsh) mixed laidOut rfl (fun ds h=>?_) (fun t ht=>?_) kr Tryz.underlying4 hval hW h0b (fun h1 h2=>c5z W ds h1 h2)
 ·match ds,h with
  |[d0],_=>rfl
 ·rw[Tryz.params3]at ht
  simp only[List.mem_cons,List.not_mem_nil,or_false]at ht
  subst ht
  ·exact⟨⟨kr,of_decide_eq_true kr⟩,kr⟩
theorem itemsSource_holds:Rows.ItemsSourceSaid:=
 OpenClaim.holds_of_cond 3 Tryz.f3 rfl rfl rfl rfl rfl rfl rfl ⟨rfl,rfl,rfl,rfl,rfl⟩ rfl rfl rfl rfl rfl kr Tryz.func3 kr
   (of_decide_eq_true kr) (by unfold Func.isWrapper;first|(rw[if_pos (by decide+kernel)];kernel_rfl)|(rw[if_neg (by decide+kernel)];exact⟨rfl,rfl⟩))
   (fun os started H enc _ F=>by rw[OpenClaim.pre_eq_preRow];exact b8q os started H enc F)
end Go.Proofs.YtocpgkeiakjicaaGreat
