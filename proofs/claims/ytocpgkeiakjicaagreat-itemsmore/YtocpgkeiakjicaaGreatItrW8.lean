import Derived.Test.YtocpgkeiakjicaaGreatPaT3a
import Derived.Test.YtocpgkeiakjicaaGreatPaT3b
import Derived.Test.YtocpgkeiakjicaaGreatPaT3d
import Derived.Test.YtocpgkeiakjicaaGreatTreP
import Derived.Test.YtocpgkeiakjicaaGreatPaG
import Derived.Test.YtocpgkeiakjicaaGreatIteA15
import Derived.Test.YtocpgkeiakjicaaGreatItlW7
import Derived.Lib.ItoaLen
import Derived.Test.YtocpgkeiakjicaaGreatTypP25
set_option maxRecDepth 100000
set_option linter.unusedVariables false
set_option linter.unusedSimpArgs false
namespace Go.Vm.Pa
open Go.Vm.Lex (TokQ)
open Go.Vm.Tp (Nd I64)
theorem e8u {l:List TokQ} (hl:TOk l):∀ n,IHt l n
 |0=>fun q s p m=>by
  exfalso
  obtain⟨m1,m2⟩:=m
  have:=p.hi
  by_cases h:s.bc=0
  ·have h1:=m1 h
   have:0<=rQ q:=by
    cases q<;>try(simp only[rQ];omega)
    have:=p.ex
    simp only[Ext]at this
    simp only[rQ];omega
   omega
  ·have h1:=m2 h
   omega
 |n+1=>fun q s p m=>by
  have IH:=e8u hl n
  show G l q s (step l (go l n) q s)
  cases q with
  |typ=>exact h9g hl IH p m
  |typed fr=>exact g5e hl IH p m
  |param=>exact f9q hl IH p m
  |field=>exact g2l hl IH p m
  |variant=>exact e7n hl IH p m
  |params ks v=>exact f5i hl IH p m
  |function=>exact e4n hl IH p m
  |fields k ks=>exact f6w hl IH p m
  |parts k=>exact g0u hl IH p m
  |item=>exact h4h hl IH p m
  |items ks=>exact g3y hl IH p m
  |stmts ks=>exact g1f hl IH p m
  |block=>exact g3p hl IH p m
  |stmt=>exact h4t hl IH p m
  |let_ fr=>exact h9m hl IH p m
  |blocky fr=>exact f3f hl IH p m
  |branch=>exact f5q hl IH p m
  |cond=>exact h0i hl IH p m
  |match_=>exact g0z hl IH p m
  |arms ks=>exact h2e hl IH p m
  |arm=>exact h9v hl IH p m
  |pattern=>exact e9x hl IH p m
  |patterned fr=>exact d6x hl IH p m
  |expr bare=>exact g9f hl IH p m
  |row k bare=>exact i2z hl IH p m
  |rows k bare fr a=>exact g7j hl IH p m
  |operand bare=>exact e9k hl IH p m
  |prefix_ bare=>exact f3c hl IH p m
  |postfix_ bare=>exact e9o hl IH p m
  |gets fr a=>exact h1t hl IH p m
  |primary bare=>exact e9p hl IH p m
  |named fr bare=>exact g0j hl IH p m
  |args ks=>exact h4m hl IH p m
  |inits ks=>exact g5j hl IH p m
  |init=>exact h1w hl IH p m
end Go.Vm.Pa
namespace Go.Vm.Lex
theorem b9s:∀ (u:List UInt8) (b:Bool),a0g b (u.take (a0g b u))=a0g b u
 |[],b=>by cases b<;>rfl
 |c::r,false=>by
  rw[a6m]
  by_cases h:wsB c=true
  ·rw[if_pos h,List.take_succ_cons,a6m,if_pos h,b9s r false]
  ·rw[if_neg h]
   by_cases h2:c=47/\r.head? =some 47
   ·rw[if_pos h2,List.take_succ_cons,a6m,if_neg h]
    have hh:(r.take (a0g true r)).head? =some 47:=by
     cases r with
     |nil=>simp at h2
     |cons d r=>
      have hd:d=47:=by simpa using h2.2
      subst hd
      rw[a9p,if_neg (by decide),List.take_succ_cons];rfl
    rw[if_pos ⟨h2.1,hh⟩,b9s r true]
   ·rw[if_neg h2];rfl
 |c::r,true=>by
  rw[a9p]
  by_cases h:c=10
  ·rw[if_pos h,List.take_succ_cons,a9p,if_pos h,b9s r false]
  ·rw[if_neg h,List.take_succ_cons,a9p,if_neg h,b9s r true]
theorem d9s {s:List UInt8} (h:s.length<=65536) (hv:Val s):a3c s=toks 0 s:=by
 unfold a3c
 rw[if_neg om,if_neg (by unfold Val at hv;omega)]
def Gap (s:List UInt8) (a f:Nat):Prop:=a3c ((s.drop a).take (f - a))=([⟨5,[],0,f - a,f - a⟩],Dg.ok)
def Chain (s:List UInt8):Nat->List TokQ->Prop
 |a,[]=>a=s.length
 |a,x::r=>a<=x.f/\x.f<=x.e/\x.e<=s.length/\(s.drop x.f).take (x.e - x.f)=x.t/\(x.k=5↔r=[])/\Gap s a x.f/\Chain s x.e r
theorem f1d {s:List UInt8} {a:Nat} (hs:s.length<=65536) (hv:Val (s.drop a)) (hb:(s.drop a).length<=a0g false (s.drop a)\/∃ c,(s.drop a)[a0g false (s.drop a)]? =some c/\c.toNat < 128):Gap s a (a+a0g false (s.drop a)):=by
 unfold Gap
 rw[Nat.add_sub_cancel_left]
 have h1:=(d4e _ (s.drop a) _ (Nat.le_refl _) hv hb).1
 have hl:=a2u false (s.drop a)
 have hle:((s.drop a).take (a0g false (s.drop a))).length=a0g false (s.drop a):=by rw[List.length_take];omega
 rw[d9s (by rw[hle];rw[List.length_drop]at hl;omega) h1,a2x 0 (by rw[b9s];exact List.drop_eq_nil_of_le om),hle,Nat.zero_add]
theorem f2i {w:List UInt8->Nat} {s:List UInt8} (h:(a2p w s).e=0):(a2p w s).k≠5:=by
 unfold a2p at h⊢
 repeat' split
 all_goals simp_all
theorem e5l {s:List UInt8} (hs:s.length<=65536):∀ (n a:Nat),s.length - a<=n->a<=s.length->Val (s.drop a)->(toks a (s.drop a)).2.c=0->Chain s a (toks a (s.drop a)).1/\(toks a (s.drop a)).2=Dg.ok/\(toks a (s.drop a)).1≠[]:=by
 intro n
 induction n with
 |zero=>
  intro a h ha hv hc
  have e:s.drop a=[]:=List.drop_eq_nil_of_le om
  rw[a2x a (by rw[e];rfl)]at hc⊢
  have hl:a+(s.drop a).length=s.length:=by rw[List.length_drop];omega
  have ha':a=s.length:=om
  refine⟨?_,rfl,by simp⟩
  simp only[Chain,hl]
  refine⟨om,om,om,by simp,by simp,?_,trivial⟩
  have:=f1d hs hv (.inl (by rw[e];simp))
  rw[e,b1p,Nat.add_zero,ha']at this
  rw[ha'];exact this
 |succ n ih=>
  intro a h ha hv hc
  have hsl:=a2u false (s.drop a)
  by_cases h0:(s.drop a).drop (a0g false (s.drop a))=[]
  ·rw[a2x a h0]at hc⊢
   have hl:a+(s.drop a).length=s.length:=by rw[List.length_drop];omega
   have hk:a0g false (s.drop a)=(s.drop a).length:=by
    have:=congrArg List.length h0;rw[List.length_drop]at this;simp at this;rw[List.length_drop]at hsl⊢;omega
   refine⟨?_,rfl,by simp⟩
   simp only[Chain,hl]
   refine⟨om,om,om,by simp,by simp,?_,trivial⟩
   have:=f1d hs hv (.inl om)
   rw[hk,hl]at this;exact this
  ·by_cases he:(a2p szL ((s.drop a).drop (a0g false (s.drop a)))).e=0
   ·obtain⟨k1,k2,k3,k4⟩:=c0s he
    have hkd:=f2i he
    rw[a9r a h0 he]at hc⊢
    simp only[List.drop_drop]at hc k1 k2 k3 k4 hkd⊢
    generalize hT:a2p szL (s.drop (a+a0g false (s.drop a)))=T at*
    generalize hK:a0g false (s.drop a)=K at*
    rw[List.length_drop]at k2 hsl
    have hv2:Val (s.drop (a+(K+T.n))):=by
     have:=c3k _ (s.drop a) (Nat.le_refl _) hv
     rw[hK,List.drop_drop]at this
     rw[show a+(K+T.n)=(a+K)+T.n by omega,<-List.drop_drop]
     exact(d0r _ _ k4).1 this
    have hcc:(toks (a+(K+T.n)) (s.drop (a+(K+T.n)))).2.c=0:=by
     unfold after at hc
     split at hc
     ·assumption
     ·exact hc
    obtain⟨i1,i2,i3⟩:=ih (a+(K+T.n)) om om hv2 hcc
    unfold after
    rw[if_pos hcc]
    refine⟨?_,i2,by simp⟩
    simp only[List.singleton_append,Chain]
    have hb:(s.drop a)[K]? =s[a+K]? :=List.getElem?_drop ..
    refine⟨om,om,om,?_,?_,?_,?_⟩
    ·rw[Nat.add_sub_cancel_left,k3]
    ·exact⟨fun e=>absurd e hkd,fun e=>absurd e i3⟩
    ·have:=f1d hs hv (.inr ?_)
     ·rw[hK]at this;exact this
     ·rw[hK,hb]
      have hlt:a+K < s.length:=om
      refine⟨s[a+K],List.getElem?_eq_getElem hlt,k4 _ ?_⟩
      rw[List.mem_iff_getElem?]
      exact⟨0,by rw[List.getElem?_take,if_pos om,List.getElem?_drop,Nat.add_zero,List.getElem?_eq_getElem hlt]⟩
    ·rw[show a+K+T.n=a+(K+T.n)by omega];exact i1
   ·rw[a7i a h0 he]at hc;exact absurd hc he
theorem b1u (s:List UInt8) (h:(a3c s).2.c=0):s.length<=65536/\Val s/\a3c s=toks 0 s/\Chain s 0 (a3c s).1/\(a3c s).1≠[]/\(a3c s).2=Dg.ok:=by
 unfold a3c at h
 split at h
 ·cases h
 ·rename_i h1
  split at h
  ·cases h
  ·rename_i h2
   have hv:Val s:=by have:=c8w _ s 0 (Nat.le_refl _);unfold Val;omega
   have e:=d9s (by omega:s.length<=65536) hv
   have:=e5l (by omega:s.length<=65536) _ 0 (Nat.le_refl _) (Nat.zero_le _) (by rw[List.drop_zero];exact hv) (by rw[List.drop_zero];exact h)
   rw[List.drop_zero]at this
   rw[e]
   exact⟨om,hv,rfl,this.1,this.2.2,this.2.1⟩
end Go.Vm.Lex
namespace Go.Vm.Pa
open Go.Vm.Lex (TokQ toks a3c a2p szL a0g after Dg)
open Go.Vm.Tp (Nd I64)
theorem h3b {w:List UInt8->Nat} (s:List UInt8):I64 (a2p w s).v:=by
 unfold a2p I64
 (repeat' split)<;>dsimp only<;>(try omega)
 rename_i h
 simp only[Lex.b6k,Bool.and_eq_true,decide_eq_true_eq]at h
 have:=h.2
 omega
structure Small (m:Nat) (x:TokQ):Prop where
 t:x.t.length<=m
 v:I64 x.v
 f:x.f<=m
 e:x.e<=m
theorem e4p (m:Nat):∀ (n a:Nat) (s:List UInt8),s.length<=n->a+s.length<=m->(toks a s).2.c=0->(toks a s).1.length<=s.length+1/\(∀ x∈(toks a s).1,Small m x)/\(toks a s).1≠[]/\∀ i,i < (toks a s).1.length->((toks a s).1.getD i default).k≠5->i+1 < (toks a s).1.length:=by
 intro n
 induction n with
 |zero=>
  intro a s hs hm hc
  have e:s=[]:=List.eq_nil_of_length_eq_zero om
  subst e
  rw[Lex.a2x a rfl]
  refine⟨by simp,fun x hx=>?_,by simp,fun i hi h5=>?_⟩
  ·simp only[List.mem_singleton]at hx
   subst hx
   exact⟨Nat.zero_le _,by unfold I64;dsimp only;omega,hm,hm⟩
  ·simp only[List.length_singleton]at hi
   have:i=0:=om
   subst this
   exact absurd rfl h5
 |succ n ih=>
  intro a s hs hm hc
  have hsl:=Lex.a2u false s
  by_cases h0:s.drop (a0g false s)=[]
  ·rw[Lex.a2x a h0]
   refine⟨by simp,fun x hx=>?_,by simp,fun i hi h5=>?_⟩
   ·simp only[List.mem_singleton]at hx
    subst hx
    exact⟨Nat.zero_le _,by unfold I64;dsimp only;omega,hm,hm⟩
   ·simp only[List.length_singleton]at hi
    have:i=0:=om
    subst this
    exact absurd rfl h5
  ·by_cases he:(a2p szL (s.drop (a0g false s))).e=0
   ·obtain⟨k1,k2,k3,k4⟩:=Lex.c0s he
    have hv:=h3b (w:=szL) (s.drop (a0g false s))
    rw[Lex.a9r a h0 he]at hc⊢
    generalize hT:a2p szL (s.drop (a0g false s))=T at*
    rw[List.length_drop]at k2
    have hc2:(toks (a+(a0g false s+T.n)) (s.drop (a0g false s+T.n))).2.c=0:=by
     unfold after at hc
     split at hc
     ·assumption
     ·rename_i h;exact absurd hc h
    have hl:(s.drop (a0g false s+T.n)).length=s.length - (a0g false s+T.n):=List.length_drop ..
    obtain⟨i1,i2,i3,i4⟩:=ih (a+(a0g false s+T.n)) (s.drop (a0g false s+T.n)) om om hc2
    unfold after
    rw[if_pos hc2]
    dsimp only
    generalize(toks (a+(a0g false s+T.n)) (s.drop (a0g false s+T.n))).1=r at*
    refine⟨by rw[List.length_append,List.length_singleton];omega,fun x hx=>?_,by simp,fun i hi h5=>?_⟩
    ·rcases List.mem_append.1 hx with hx|hx
     ·simp only[List.mem_singleton]at hx
      subst hx
      refine⟨?_,hv,by dsimp only;omega,by dsimp only;omega⟩
      show T.t.length<=m
      rw[k3,List.length_take,List.length_drop];omega
     ·exact i2 x hx
    ·have hr:0 < r.length:=List.length_pos_iff.2 i3
     rw[List.length_append,List.length_singleton]at hi⊢
     cases i with
     |zero=>omega
     |succ i=>
      have:=i4 i om (by simpa [List.getD_eq_getElem?_getD] using h5)
      omega
   ·rw[Lex.a7i a h0 he]at hc
    exact absurd hc he
theorem e7g {s:List UInt8} (h:(a3c s).2.c=0):TOk (a3c s).1:=by
 obtain⟨h1,_,h3,_⟩:=Lex.b1u s h
 rw[h3]at h⊢
 obtain⟨i1,i2,i3,i4⟩:=e4p s.length s.length 0 s (Nat.le_refl _) om h
 have all:∀ i,Small 65536 ((toks 0 s).1.getD i default):=fun i=>by
   rw[List.getD_eq_getElem?_getD]
   cases c:(toks 0 s).1[i]? with
   |none=>exact⟨Nat.zero_le _,by unfold I64;decide,Nat.zero_le _,Nat.zero_le _⟩
   |some x=>
    have:=i2 x (List.mem_of_getElem? c)
    exact⟨Nat.le_trans this.t h1,this.v,Nat.le_trans this.f h1,Nat.le_trans this.e h1⟩
 exact⟨om,fun i=>(all i).t,fun i=>(all i).v,fun i=>⟨(all i).f,(all i).e⟩,i4⟩
end Go.Vm.Pa
namespace Go.Vm.Ite
open Go.Vm.Lex (TokQ Dg a3c dgD)
open Go.Vm.Pa
open Go.Vm.Tp (Nd a6q)
theorem h3r {l:List TokQ} (h:TOk l):LOk l:=⟨by have:=h.len;omega,fun i=>by have:=h.txt i;omega,h.last⟩
theorem f1h {t:List Nd} {n:Nat} (hn:t.length<=1048576) (hk:n<=1048576) (h:∀ x∈t,f5r n x):Tp.b2u t where
 len:=hn
 txt:=fun x hx=>by have:=(h x hx).tl;omega
 kid:=fun x hx=>by have:=(h x hx).kl;omega
 ik:=fun x hx k hk=>by have:=(h x hx).kid k hk;unfold Tp.I64;omega
 iv:=fun x hx=>(h x hx).v
 ie:=fun x hx=>⟨(h x hx).f,(h x hx).e⟩
theorem b9q:Tp.b2u []:=⟨by simp,by simp,by simp,by simp,by simp,by simp⟩
end Go.Vm.Ite
namespace Go.Vm.Pa
open Go.Vm.Lex (TokQ)
inductive Pr where
 |ret (r:R)
 |dead
 |take (x:S) (k:Bool->Pr)
 |need (x:S) (k:Pr)
 |name (k:S->Pr)
 |is (x:S) (k:Bool->Pr)
 |ok (k:Bool->Pr)
 |kind (c:Int) (k:Bool->Pr)
 |text (x:S) (k:Bool->Pr)
 |val (k:Int->Pr)
 |sign (r:Int) (k:S->Pr)
 |into (c:Int) (k:Bool->Pr)
 |down (k:Pr)
 |adv (k:Pr)
 |node (fr:Int) (n:N) (k:Int->Pr)
 |unit (k:Int->Pr)
 |fail (k:Pr)
 |pos (k:Int->Pr)
 |call (q:Q) (k:R->Pr)
 |tail (q:Q)
section
variable (l:List TokQ) (go:Q->PS->M)
def c2s (s:PS):Option (Int×PS):=
 if s.ns.length=s.n/\s.n < 1000000/\okF l (w (s.at_ - 1)) then
  some (w (((s.n+1:Nat):Int) - 1),{s with n:=s.n+1,ns:=s.ns++[N.D ⟨12,[],0,[]⟩ (l.getD (w (s.at_ - 1)).toNat default).e (l.getD (w (s.at_ - 1)).toNat default).e]})
 else none
def a1m:Pr->PS->M
 | .ret r,s=>some (r,s)
 | .dead,_=>none
 | .take x k,s=>a1m (k (a0y l x s).1) (a0y l x s).2
 | .need x k,s=>a1m k (a1n l x s).2
 | .name k,s=>a1m (k (a2c l s).1) (a2c l s).2
 | .is x k,s=>a1m (k (isS l s x)) s
 | .ok k,s=>a1m (k (okB s)) s
 | .kind c k,s=>a1m (k (decide ((now l s).k=c))) s
 | .text x k,s=>a1m (k (decide ((now l s).t=x))) s
 | .val k,s=>a1m (k (now l s).v) s
 | .sign r k,s=>a1m (k (b7y l r s)) s
 | .into c k,s=>a1m (k (a9c l c s).1) (a9c l c s).2
 | .down k,s=>a1m k (down s)
 | .adv k,s=>match okS l (adv s)with|true=>a1m k (adv s)|false=>none
 | .node fr n k,s=>match a3x l fr n s with|some (i,s1)=>a1m (k i) s1|none=>none
 | .unit k,s=>match c2s l s with|some (i,s1)=>a1m (k i) s1|none=>none
 | .fail k,s=>a1m k (a2n l 120 s)
 | .pos k,s=>a1m (k s.at_) s
 | .call q k,s=>match cl l go q s with|some (r,s1)=>a1m (k r) s1|none=>none
 | .tail q,s=>go q s
end
def guard (b:Bool) (p:Pr):Pr:=match b with|true=>p|false=> .dead
def mkP (fr:Int) (k:Int) (t:S) (v:Int) (ks:List D):Pr:= .node fr ⟨k,t,v,ks⟩ fun i=> .ret (rI i)
def endP (fr:Int) (n:N):Pr:= .node fr n fun i=> .need [59] (.ret (rI i))
def d1l (c:Int) (q:Q):Pr:= .into c fun b=>match b with
  |false=> .down (.ret (rI 0))
  |true=> .call q fun a=> .down (.ret (rI a.i))
def g6c (fr:Int):Pr:= .take [45] fun m=> .kind 3 fun b=>match b with
  |false=> .fail (.ret (rI 0))
  |true=> .val fun v=> .adv (match m with
   |true=>mkP fr 52 [] (w (0 - v)) []
   |false=>mkP fr 52 [] v [])
def newP (fr:Int):Pr:= .name fun _=> .need [40] (.call (.expr false) fun r=> .need [41] (mkP fr 44 [] 0 (one r.i)))
def e5i (fr:Int) (t:S):Pr:= .take [58,58] fun b=>match b with
  |false=>mkP fr 33 t 0 []
  |true=> .name fun u=> .take [40] fun b=>match b with
   |false=>mkP fr 37 (t++[58,58]++u) 0 []
   |true=> .call (.expr false) fun r=> .need [41] (mkP fr 37 (t++[58,58]++u) 0 (one r.i))
def rowP (x:S) (q:Q) (ks:K) (k:K->Q):Pr:= .ok fun b=>match b with
  |false=> .ret (rK ks)
  |true=> .is x fun b=>match b with
   |true=> .ret (rK ks)
   |false=> .call q fun r=>guard (okK ks) (.take [44] fun b=>match b with
    |true=> .tail (k (push ks r.i))
    |false=> .ret (rK (push ks r.i)))
def prog:Q->Pr
 | .typ=> .pos fun p=>d1l 116 (.typed p)
 | .typed fr=> .take [105,54,52] fun b=>match b with
   |true=>mkP fr 10 [] 0 []
   |false=> .take [98,111,111,108] fun b=>match b with
   |true=>mkP fr 11 [] 0 []
   |false=> .take [40] fun b=>match b with
   |true=> .need [41] (mkP fr 12 [] 0 [])
   |false=> .take [38] fun b=>match b with
   |true=> .take [109,117,116] fun b=>match b with
    |true=> .call .typ fun r=>mkP fr 15 [] 0 (one r.i)
    |false=> .call .typ fun r=>mkP fr 14 [] 0 (one r.i)
   |false=> .take [66,111,120] fun b=>match b with
   |true=> .need [60] (.call .typ fun r=> .need [62] (mkP fr 16 [] 0 (one r.i)))
   |false=> .name fun t=>mkP fr 13 t 0 []
 | .param=> .pos fun p=> .take [109,117,116] fun m=> .name fun t=> .need [58] (.call .typ fun r=>match m with
   |true=>mkP p 7 t 1 (one r.i)
   |false=>mkP p 7 t 0 (one r.i))
 | .field=> .pos fun p=> .name fun t=> .need [58] (.call .typ fun r=>mkP p 5 t 0 (one r.i))
 | .variant=> .pos fun p=> .name fun t=> .take [40] fun b=>match b with
   |true=> .call .typ fun r=> .need [41] (mkP p 6 t 0 (one r.i))
   |false=>mkP p 6 t 0 []
 | .params ks v=> .ok fun b=>match b with
   |false=> .ret ⟨0,false,ks,v⟩
   |true=> .is [41] fun b=>match b with
   |true=> .ret ⟨0,false,ks,v⟩
   |false=> .call .param fun r=>guard (okK ks) (.take [44] fun b=>match b with
    |true=> .tail (.params (push ks r.i) (w (v+1)))
    |false=> .ret ⟨0,false,push ks r.i,w (v+1)⟩)
 | .function=> .pos fun p0=> .need [102,110] (.name fun t=> .need [40] (.call (.params K.o 0) fun p=> .need [41] (.take [45,62] fun b=>match b with
   |true=> .call .typ fun r=>guard (okK p.ks) (.call .block fun q=>guard (okK (push p.ks r.i)) (guard (okK (push (push p.ks r.i) q.i)) (mkP p0 2 t p.v (push (push p.ks r.i) q.i).l)))
   |false=> .ok fun b=>match b with
    |true=> .unit fun i=>guard (okK p.ks) (.call .block fun q=>guard (okK (push p.ks i)) (guard (okK (push (push p.ks i) q.i)) (mkP p0 2 t p.v (push (push p.ks i) q.i).l)))
    |false=> .call .block fun q=>guard (okK p.ks) (guard (okK (push p.ks q.i)) (mkP p0 2 t p.v (push p.ks q.i).l)))))
 | .fields k ks=>match decide (k=3)with
   |true=>rowP [125] .field ks (.fields k)
   |false=>rowP [125] .variant ks (.fields k)
 | .parts k=> .pos fun p0=> .adv (.name fun t=> .need [123] (.call (.fields k K.o) fun p=> .need [125] (guard (okK p.ks) (mkP p0 k t 0 p.ks.l))))
 | .item=> .is [115,116,114,117,99,116] fun b=>match b with
   |true=> .call (.parts 3) .ret
   |false=> .is [101,110,117,109] fun b=>match b with
   |true=> .call (.parts 4) .ret
   |false=> .call .function .ret
 | .items ks=> .ok fun b=>match b with
   |false=> .ret (rK ks)
   |true=> .kind 5 fun b=>match b with
   |true=> .ret (rK ks)
   |false=> .call .item fun r=>guard (okK ks) (.tail (.items (push ks r.i)))
 | .stmts ks=> .ok fun b=>match b with
   |false=> .ret (rK ks)
   |true=> .is [125] fun b=>match b with
   |true=> .ret (rK ks)
   |false=> .call .stmt fun r=>guard (okK ks) (match r.b with
    |true=> .ret ⟨0,true,push ks r.i,1⟩
    |false=> .tail (.stmts (push ks r.i)))
 | .block=> .pos fun p0=> .into 98 fun b=>match b with
   |false=> .down (mkP p0 20 [] 0 [])
   |true=> .need [123] (.call (.stmts K.o) fun p=> .need [125] (guard (okK p.ks) (.down (mkP p0 20 [] p.v p.ks.l))))
 | .stmt=> .pos fun p0=> .is [108,101,116] fun b=>match b with
   |true=> .call (.let_ p0) fun r=> .ret (rI r.i)
   |false=> .take [119,104,105,108,101] fun b=>match b with
   |true=> .call (.expr true) fun x=> .call .block fun y=>mkP p0 24 [] 0 (two x.i y.i)
   |false=> .take [114,101,116,117,114,110] fun b=>match b with
   |true=> .is [59] fun b=>match b with
    |true=>endP p0 ⟨25,[],0,[]⟩
    |false=> .call (.expr false) fun x=>endP p0 ⟨25,[],0,one x.i⟩
   |false=> .take [98,114,101,97,107] fun b=>match b with
   |true=>endP p0 ⟨26,[],0,[]⟩
   |false=> .take [99,111,110,116,105,110,117,101] fun b=>match b with
   |true=>endP p0 ⟨27,[],0,[]⟩
   |false=> .is [105,102] fun b=>match b with
   |true=> .call (.blocky p0) .ret
   |false=> .is [109,97,116,99,104] fun b=>match b with
   |true=> .call (.blocky p0) .ret
   |false=> .is [123] fun b=>match b with
   |true=> .call (.blocky p0) .ret
   |false=> .call (.expr false) fun x=> .take [61] fun b=>match b with
   |true=> .call (.expr false) fun y=>endP p0 ⟨23,[],0,two x.i y.i⟩
   |false=> .is [125] fun b=>match b with
   |true=> .ret ⟨x.i,true,K.o,0⟩
   |false=>endP p0 ⟨22,[],0,one x.i⟩
 | .let_ fr=> .need [108,101,116] (.take [109,117,116] fun m=> .name fun t=> .take [58] fun b=>match b with
   |true=> .call .typ fun x=> .need [61] (.call (.expr false) fun y=>match m with
    |true=>endP fr ⟨21,t,1,two x.i y.i⟩
    |false=>endP fr ⟨21,t,0,two x.i y.i⟩)
   |false=> .need [61] (.call (.expr false) fun y=>match m with
    |true=>endP fr ⟨21,t,1,one y.i⟩
    |false=>endP fr ⟨21,t,0,one y.i⟩))
 | .blocky fr=> .call .branch fun k=> .is [125] fun b=>match b with
   |true=> .ret ⟨k.i,true,K.o,0⟩
   |false=> .node fr ⟨22,[],0,one k.i⟩ fun i=> .take [59] fun _=> .ret (rI i)
 | .branch=> .is [105,102] fun b=>match b with
   |true=> .call .cond .ret
   |false=> .is [109,97,116,99,104] fun b=>match b with
   |true=> .call .match_ .ret
   |false=> .call .block .ret
 | .cond=> .pos fun p0=> .need [105,102] (.call (.expr true) fun x=> .call .block fun y=> .take [101,108,115,101] fun b=>match b with
   |false=>mkP p0 45 [] 0 (two x.i y.i)
   |true=> .is [105,102] fun b=>match b with
    |false=> .call .block fun z=>mkP p0 45 [] 0 [.int .i64 x.i,.int .i64 y.i,.int .i64 z.i]
    |true=> .into 101 fun b=>match b with
     |false=> .down (mkP p0 45 [] 0 [.int .i64 x.i,.int .i64 y.i,.int .i64 0])
     |true=> .call .cond fun z=> .down (mkP p0 45 [] 0 [.int .i64 x.i,.int .i64 y.i,.int .i64 z.i]))
 | .match_=> .pos fun p0=> .need [109,97,116,99,104] (.call (.expr true) fun x=> .need [123] (.call (.arms ⟨one x.i,1⟩) fun p=> .need [125] (guard (okK p.ks) (mkP p0 46 [] 0 p.ks.l))))
 | .arms ks=> .ok fun b=>match b with
   |false=> .ret (rK ks)
   |true=> .is [125] fun b=>match b with
   |true=> .ret (rK ks)
   |false=> .call .arm fun r=>guard (okK ks) (.tail (.arms (push ks r.i)))
 | .arm=> .pos fun p0=> .call .pattern fun x=> .need [61,62] (.is [123] fun b=>match b with
   |true=> .call .block fun y=> .node p0 ⟨47,[],0,two x.i y.i⟩ fun i=> .take [44] fun _=> .ret (rI i)
   |false=> .call (.expr false) fun y=> .node p0 ⟨47,[],0,two x.i y.i⟩ fun i=> .is [125] fun b=>match b with
    |true=> .ret (rI i)
    |false=> .need [44] (.ret (rI i)))
 | .pattern=> .pos fun p=>d1l 112 (.patterned p)
 | .patterned fr=> .take [95] fun b=>match b with
   |true=>mkP fr 50 [] 0 []
   |false=> .take [116,114,117,101] fun b=>match b with
   |true=>mkP fr 53 [] 1 []
   |false=> .take [102,97,108,115,101] fun b=>match b with
   |true=>mkP fr 53 [] 0 []
   |false=> .is [45] fun b=>match b with
   |true=>g6c fr
   |false=> .kind 3 fun b=>match b with
   |true=>g6c fr
   |false=> .name fun t=> .take [58,58] fun b=>match b with
   |false=>mkP fr 51 t 0 []
   |true=> .name fun u=> .take [40] fun b=>match b with
   |false=>mkP fr 54 (t++[58,58]++u) 0 []
   |true=> .call .pattern fun r=> .need [41] (mkP fr 54 (t++[58,58]++u) 0 (one r.i))
 | .expr bare=>d1l 101 (.row 0 bare)
 | .row r bare=>match decide (r=5)with
   |true=> .call (.prefix_ bare) .ret
   |false=> .pos fun p=> .call (.row (w (r+1)) bare) fun a=> .call (.rows r bare p a.i) fun a=> .ret (rI a.i)
 | .rows r bare fr a=> .ok fun b=>match b with
   |false=> .ret (rI a)
   |true=> .sign r fun g=>match(!decide (g=[]))with
   |false=> .ret (rI a)
   |true=> .adv (.call (.row (w (r+1)) bare) fun b=> .node fr ⟨38,g,0,two a b.i⟩ fun i=>match decide (r=2)with
    |true=> .ret (rI i)
    |false=> .tail (.rows r bare fr i))
 | .operand bare=>d1l 101 (.prefix_ bare)
 | .prefix_ bare=> .pos fun p=> .take [45] fun b=>match b with
   |true=> .call (.operand bare) fun r=>mkP p 39 [] 0 (one r.i)
   |false=> .take [33] fun b=>match b with
   |true=> .call (.operand bare) fun r=>mkP p 40 [] 0 (one r.i)
   |false=> .take [42] fun b=>match b with
   |true=> .call (.operand bare) fun r=>mkP p 42 [] 0 (one r.i)
   |false=> .take [38] fun b=>match b with
   |true=> .take [109,117,116] fun b=>match b with
    |true=> .call (.operand bare) fun r=>mkP p 43 [] 1 (one r.i)
    |false=> .call (.operand bare) fun r=>mkP p 43 [] 0 (one r.i)
   |false=> .call (.postfix_ bare) .ret
 | .postfix_ bare=> .pos fun p=> .call (.primary bare) fun a=> .call (.gets p a.i) fun a=> .ret (rI a.i)
 | .gets fr a=> .take [46] fun b=>match b with
   |false=> .ret (rI a)
   |true=> .name fun t=> .node fr ⟨41,t,0,one a⟩ fun i=> .tail (.gets fr i)
 | .primary bare=> .ok fun b=>match b with
   |false=> .dead
   |true=> .pos fun p=> .kind 3 fun b=>match b with
   |true=> .val fun v=> .adv (mkP p 30 [] v [])
   |false=> .take [116,114,117,101] fun b=>match b with
   |true=>mkP p 31 [] 1 []
   |false=> .take [102,97,108,115,101] fun b=>match b with
   |true=>mkP p 31 [] 0 []
   |false=> .take [40] fun b=>match b with
   |true=> .take [41] fun b=>match b with
    |true=>mkP p 32 [] 0 []
    |false=> .call (.expr false) fun r=> .need [41] (.ret (rI r.i))
   |false=> .take [66,111,120] fun b=>match b with
   |true=> .need [58,58] (.ok fun b=>match b with
    |true=> .kind 1 fun b=>match b with
     |false=> .fail (newP p)
     |true=> .text [110,101,119] fun b=>match b with
      |false=> .fail (newP p)
      |true=>newP p
    |false=>newP p)
   |false=> .is [105,102] fun b=>match b with
   |true=> .call .branch .ret
   |false=> .is [109,97,116,99,104] fun b=>match b with
   |true=> .call .branch .ret
   |false=> .is [123] fun b=>match b with
   |true=> .call .branch .ret
   |false=> .call (.named p bare) .ret
 | .named fr bare=> .name fun t=> .take [40] fun b=>match b with
   |true=> .call (.args K.o) fun p=> .need [41] (guard (okK p.ks) (mkP fr 34 t 0 p.ks.l))
   |false=>match bare with
    |true=>e5i fr t
    |false=> .take [123] fun b=>match b with
     |true=> .call (.inits K.o) fun p=> .need [125] (guard (okK p.ks) (mkP fr 35 t 0 p.ks.l))
     |false=>e5i fr t
 | .args ks=>rowP [41] (.expr false) ks .args
 | .inits ks=>rowP [125] .init ks .inits
 | .init=> .pos fun p=> .name fun t=> .need [58] (.call (.expr false) fun r=>mkP p 36 t 0 (one r.i))
section
variable (l:List TokQ) (go:Q->PS->M)
theorem run_mk (fr:Int) (k:Int) (t:S) (v:Int) (ks:List D) (s:PS):a1m l go (mkP fr k t v ks) s=mk l fr k t v ks s:=by
 unfold mkP mk ret
 simp only[a1m]
 cases a3x l fr ⟨k,t,v,ks⟩ s<;>rfl
end
end Go.Vm.Pa
namespace Go.Vm.Pa
open Go.Vm.Lex (TokQ)
section
variable (l:List TokQ) (go:Q->PS->M)
theorem run_end (fr:Int) (n:N) (s:PS):a1m l go (endP fr n) s=b0k l fr n s:=by
 unfold endP b0k
 simp only[a1m]
 cases a3x l fr n s<;>rfl
theorem g0n (fr:Int) (n:N) (s:PS):a8x l fr n s=b0k l fr n s:=by
 unfold a8x b0k
 cases a3x l fr n s<;>rfl
theorem d0y (x:S) (q:Q) (ks:K) (k:K->Q) (s:PS):a1m l go (rowP x q ks k) s=(match okB s with
    |false=>some (rK ks,s)
    |true=>match isS l s x with
    |true=>some (rK ks,s)
    |false=>match cl l go q s with
    |none=>none
    |some (r,s1)=>match okK ks with
    |false=>none
    |true=>match a0y l [44] s1 with
    |(true,s2)=>go (k (push ks r.i)) s2
    |(false,s2)=>some (rK (push ks r.i),s2)):=by
  unfold rowP
  simp only[a1m]
  repeat' (first|rfl|contradiction|(split<;>simp_all only[a1m,guard])|fail)
theorem b5e (q:Q) (s:PS):step l go q s=a1m l go (prog q) s:=by
 cases q
 case fields k ks=>
  simp only[step,prog]
  by_cases c:k=3
  ·subst c
   simp only[d0y,decide_true]
   repeat' (first|rfl|contradiction|(split<;>simp_all only[a1m,guard])|fail)
  ·simp only[d0y,decide_eq_false c]
   repeat' (first|rfl|contradiction|(split<;>simp_all only[a1m,guard])|fail)
 all_goals(
   simp only[step,prog,deeper,g0n,step.numS,step.newS,step.pickS,d1l,g6c,newP,e5i,d0y,guard,a1m,run_mk,run_end]
   repeat' (first|rfl|contradiction|(split<;>simp_all only[a1m,guard,run_mk,run_end,g6c,newP,e5i,c2s,Bool.not_eq_eq_eq_not,Bool.not_true,Bool.not_false,if_true,if_false])|fail))
end
end Go.Vm.Pa
namespace Go.Vm.Pa
open Go.Vm.Lex (TokQ)
def FrQ (a:Int):Q->Prop
 | .typed fr| .let_ fr| .blocky fr| .patterned fr| .named fr _| .rows _ _ fr _| .gets fr _=>fr<=a
 |_=>True
def FrP (a:Int):Pr->Prop
 | .ret _| .dead=>True
 | .take _ k| .is _ k| .ok k| .kind _ k| .text _ k| .into _ k=> ∀ b,FrP a (k b)
 | .need _ k| .down k| .adv k| .fail k=>FrP a k
 | .name k| .sign _ k=> ∀ t,FrP a (k t)
 | .val k| .unit k=> ∀ i,FrP a (k i)
 | .node fr _ k=>fr<=a/\∀ i,FrP a (k i)
 | .pos k=> ∀ x,a<=x->FrP x (k x)
 | .call q k=>FrQ a q/\∀ r,FrP a (k r)
 | .tail q=>FrQ a q
theorem c9u {a b:Int} (h:a<=b) {q:Q} (hq:FrQ a q):FrQ b q:=by
 cases q<;>simp only[FrQ]at hq⊢ <;>omega
theorem f1z {a:Int} {b:Bool} {p:Pr} (h:FrP a p):FrP a (guard b p):=by cases b<;>first|exact h|trivial
theorem f8i {a fr:Int} {k:Int} {t:S} {v:Int} {ks:List D} (h:fr<=a):FrP a (mkP fr k t v ks):=⟨h,fun _=>trivial⟩
theorem f0t {a fr:Int} {n:N} (h:fr<=a):FrP a (endP fr n):=⟨h,fun _=>trivial⟩
theorem e9g {a:Int} {q:Q} (h:FrQ a q):FrP a (prog q):=by
 cases q
 all_goals(
   simp only[FrQ]at h
   simp only[prog,d1l,g6c,newP,e5i,rowP]
   repeat' (first|dsimp only|trivial|refine Bool.forall_bool.2 ⟨?_,?_⟩|exact Int.le_refl _|assumption|exact f8i (by assumption)|exact f0t (by assumption)|exact f8i (Int.le_refl _)|exact f0t (Int.le_refl _)|refine f1z ?_|(intro _)|constructor|split|(show _<=_;omega)|fail))
end Go.Vm.Pa
namespace Go.Vm.Pa
open Go.Vm.Lex (TokQ)
structure Mo (l:List TokQ) (s s1:PS):Prop where
 at_:s.at_<=s1.at_
 hi:s1.at_ < l.length
 bc:s.bc≠0->s1.bc≠0
structure In (l:List TokQ) (s:PS):Prop where
 lo:0<=s.at_
 hi:s.at_ < l.length
theorem Mo.trans {l:List TokQ} {s s1 s2:PS} (h:Mo l s s1) (g:Mo l s1 s2):Mo l s s2:=⟨by have:=h.at_;have:=g.at_;omega,g.hi,fun b=>g.bc (h.bc b)⟩
theorem Mo.in {l:List TokQ} {s s1:PS} (h:Mo l s s1) (i:In l s):In l s1:=⟨by have:=h.at_;have:=i.lo;omega,h.hi⟩
theorem a9w {l:List TokQ} {s s1:PS} (i:In l s) (h:s1.at_=s.at_) (b:s.bc≠0->s1.bc≠0):Mo l s s1:=⟨om,by have:=i.hi;omega,b⟩
section
variable {l:List TokQ} (hl:TOk l) {s s1:PS}
include hl
theorem f0d (x:S) (i:In l s):Mo l s (a0y l x s).2:=by
 unfold a0y
 split
 ·rename_i c
  simp only[Bool.and_eq_true]at c
  obtain⟨h1,h2⟩:=c9x hl (d6s c.2) i.lo i.hi
  exact⟨by show s.at_<=(adv s).at_;omega,by show(adv s).at_ < _;omega,fun h=>h⟩
 ·exact a9w i rfl id
theorem f0l (x:S) (i:In l s):Mo l s (a1n l x s).2:=by
 unfold a1n
 split
 ·rename_i c
  simp only[Bool.and_eq_true]at c
  obtain⟨h1,h2⟩:=c9x hl (d6s c.2) i.lo i.hi
  exact⟨by show s.at_<=(adv s).at_;omega,by show(adv s).at_ < _;omega,fun h=>h⟩
 ·exact a9w i a4n fun _=>a4x (by decide)
theorem e7o (i:In l s):Mo l s (a2c l s).2:=by
 unfold a2c
 split
 ·rename_i c
  simp only[Bool.and_eq_true,decide_eq_true_eq]at c
  obtain⟨h1,h2⟩:=c9x hl om i.lo i.hi
  exact⟨by show s.at_<=(adv s).at_;omega,by show(adv s).at_ < _;omega,fun h=>h⟩
 ·exact a9w i a4n fun _=>a4x (by decide)
omit hl in
theorem e9y (c:Int) (i:In l s):Mo l s (a9c l c s).2:=by
 have h1:(a4f l c s).at_=s.at_/\(s.bc≠0->(a4f l c s).bc≠0):=by
  unfold a4f
  split
  ·exact⟨a4n,fun _=>a4x (by decide)⟩
  ·exact⟨rfl,id⟩
 have h2:(b1n l (a4f l c s)).at_=s.at_/\(s.bc≠0->(b1n l (a4f l c s)).bc≠0):=by
  unfold b1n
  split
  ·exact⟨a4n.trans h1.1,fun _=>a4x (by decide)⟩
  ·exact h1
 exact a9w i h2.1 h2.2
theorem f7v (i:In l s) (h:okS l (adv s)=true):Mo l s (adv s)/\(adv s).at_=s.at_+1:=by
 have h1:=hl.len
 have h2:=i.lo
 have h3:=i.hi
 have e:(adv s).at_=s.at_+1:=a1k (n:=s.at_+1) om
 unfold okS at h
 simp only[Bool.and_eq_true,decide_eq_true_eq]at h
 exact⟨⟨om,h.2,fun h=>h⟩,e⟩
omit hl in
theorem e6j {fr:Int} {n:N} {k:Int} (i:In l s) (h:a3x l fr n s=some (k,s1)):Mo l s s1:=by
 unfold a3x at h
 split at h
 ·cases h;exact a9w i rfl id
 ·cases h
omit hl in
theorem e7b {k:Int} (i:In l s) (h:c2s l s=some (k,s1)):Mo l s s1:=by
 unfold c2s at h
 split at h
 ·cases h;exact a9w i rfl id
 ·cases h
end
structure Ag (l l':List TokQ) (m:Nat):Prop where
 eq:∀ i,i < m->l.getD i default=l'.getD i default
 lt:m < l.length
 le:l.length<=l'.length
 le2:l'.length<=1000000
section
variable {l l':List TokQ} {m:Nat} (ag:Ag l l' m) {s s1:PS} (lo:0<=s.at_) (hm:s.at_ < m)
include ag lo hm
theorem b4t:now l' s=now l s:=(ag.eq _ om).symm
theorem d6z (x:S):isS l' s x=isS l s x:=by unfold isS;rw[b4t ag lo hm]
theorem c0r (c:Int):a2n l' c s=a2n l c s:=by unfold a2n;rw[b4t ag lo hm]
theorem f1x (x:S):a0y l' x s=a0y l x s:=by unfold a0y;rw[d6z ag lo hm]
theorem d8v (x:S):a1n l' x s=a1n l x s:=by unfold a1n;rw[d6z ag lo hm,c0r ag lo hm]
theorem f0s:a2c l' s=a2c l s:=by unfold a2c;rw[b4t ag lo hm,c0r ag lo hm]
theorem e7r (xs:List S):anyS l' s xs=anyS l s xs:=by
 unfold anyS
 rw[show isS l' s=isS l s from funext fun x=>d6z ag lo hm x]
theorem f4w (c:Int):b2v l' c s=b2v l c s:=by
 unfold b2v
 rw[b4t ag lo hm,e7r ag lo hm,e7r ag lo hm,e7r ag lo hm,d6z ag lo hm]
theorem f0i (c:Int):a9c l' c s=a9c l c s:=by
 have h1:a4f l' c s=a4f l c s:=by unfold a4f;rw[f4w ag lo hm,c0r ag lo hm]
 have h0:(a4f l c s).at_=s.at_:=by
  unfold a4f
  split
  ·exact a4n
  ·rfl
 have h2:b1n l' (a4f l c s)=b1n l (a4f l c s):=by
  unfold b1n
  rw[c0r ag (s:=a4f l c s) om om]
 unfold a9c
 rw[h1,h2]
theorem e5x (r:Int):b7y l' r s=b7y l r s:=by
 unfold b7y
 rw[show(fun x=>okB s && isS l' s x)=(fun x=>okB s && isS l s x)from funext fun x=>by rw[d6z ag lo hm x]]
theorem f1c {fr:Int} (hf:fr<=s.at_) (n:N) {x:Int×PS} (h:a3x l fr n s=some x):a3x l' fr n s=some x:=by
 unfold a3x at h⊢
 split at h
 ·rename_i c
  have hlt:=ag.le
  have c1:=c.2.2.1
  unfold okF at c1
  simp only[Bool.and_eq_true,decide_eq_true_eq]at c1
  have g1:okF l' fr=true:=by unfold okF;simp only[Bool.and_eq_true,decide_eq_true_eq];omega
  have hle:=ag.le2
  have hlt:=ag.lt
  have e1:l'.getD fr.toNat default=l.getD fr.toNat default:=(ag.eq _ om).symm
  by_cases d:fr < s.at_
  ·have hw:w (s.at_ - 1)=s.at_ - 1:=a1k om
   have e2:l'.getD (w (s.at_ - 1)).toNat default=l.getD (w (s.at_ - 1)).toNat default:=(ag.eq _ om).symm
   have g2:okF l' (w (s.at_ - 1))=true:=by unfold okF;simp only[Bool.and_eq_true,decide_eq_true_eq];omega
   rw[if_pos ⟨c.1,c.2.1,g1,fun _=>g2⟩,e1,e2]
   exact h
  ·rw[if_pos ⟨c.1,c.2.1,g1,fun e=>absurd e d⟩,e1,if_neg d]
   rw[if_neg d]at h
   exact h
 ·cases h
theorem f0g {x:Int×PS} (h:c2s l s=some x):c2s l' s=some x:=by
 unfold c2s at h⊢
 split at h
 ·rename_i c
  have hlt:=ag.le
  have hle:=ag.le2
  have hl2:=ag.lt
  have c1:=c.2.2
  unfold okF at c1
  simp only[Bool.and_eq_true,decide_eq_true_eq]at c1
  have hw:w (s.at_ - 1)=s.at_ - 1:=a1k om
  have g1:okF l' (w (s.at_ - 1))=true:=by unfold okF;simp only[Bool.and_eq_true,decide_eq_true_eq];omega
  have e2:l'.getD (w (s.at_ - 1)).toNat default=l.getD (w (s.at_ - 1)).toNat default:=(ag.eq _ om).symm
  rw[if_pos ⟨c.1,c.2.1,g1⟩,e2]
  exact h
 ·cases h
end
section
variable {l l':List TokQ} {m:Nat} (hl:TOk l) (ag:Ag l l' m)
def i0t (l:List TokQ) (m:Nat) (go go':Q->PS->M):Prop:=∀ q s r s1,FrQ s.at_ q->go q s=some (r,s1)->In l s->Mo l s s1/\(s1.bc=0->s1.at_ < m->go' q s=some (r,s1))
include hl ag
theorem d0j {go go':Q->PS->M} (IH:i0t l m go go'):∀ (p:Pr) (a:Int) (s:PS) (r:R) (s1:PS),FrP a p->a<=s.at_->a1m l go p s=some (r,s1)->In l s->Mo l s s1/\(s1.bc=0->s1.at_ < m->a1m l' go' p s=some (r,s1)):=by
 intro p
 induction p with
 |ret x=>intro a s r s1 _ _ h i;simp only[a1m,Option.some.injEq,Prod.mk.injEq]at h⊢;obtain⟨rfl,rfl⟩:=h;exact⟨a9w i rfl id,fun _ _=>⟨rfl,rfl⟩⟩
 |dead=>intro a s r s1 _ _ h i;simp only[a1m]at h;cases h
 |take x k ih=>
  intro a s r s1 hf ha h i
  simp only[a1m]at h⊢
  have mo:=f0d hl x i
  obtain⟨g1,g2⟩:=ih _ a _ r s1 (hf _) (by have:=mo.at_;omega) h (mo.in i)
  exact⟨mo.trans g1,fun hb hm=>by rw[f1x ag i.lo (by have:=mo.at_;have:=g1.at_;omega)];exact g2 hb hm⟩
 |need x k ih=>
  intro a s r s1 hf ha h i
  simp only[a1m]at h⊢
  have mo:=f0l hl x i
  obtain⟨g1,g2⟩:=ih a _ r s1 hf (by have:=mo.at_;omega) h (mo.in i)
  exact⟨mo.trans g1,fun hb hm=>by rw[d8v ag i.lo (by have:=mo.at_;have:=g1.at_;omega)];exact g2 hb hm⟩
 |name k ih=>
  intro a s r s1 hf ha h i
  simp only[a1m]at h⊢
  have mo:=e7o hl i
  obtain⟨g1,g2⟩:=ih _ a _ r s1 (hf _) (by have:=mo.at_;omega) h (mo.in i)
  exact⟨mo.trans g1,fun hb hm=>by rw[f0s ag i.lo (by have:=mo.at_;have:=g1.at_;omega)];exact g2 hb hm⟩
 |is x k ih=>
  intro a s r s1 hf ha h i
  simp only[a1m]at h⊢
  obtain⟨g1,g2⟩:=ih _ a _ r s1 (hf _) ha h i
  exact⟨g1,fun hb hm=>by rw[d6z ag i.lo (by have:=g1.at_;omega)];exact g2 hb hm⟩
 |ok k ih=>
  intro a s r s1 hf ha h i
  simp only[a1m]at h⊢
  exact ih _ a _ r s1 (hf _) ha h i
 |kind c k ih=>
  intro a s r s1 hf ha h i
  simp only[a1m]at h⊢
  obtain⟨g1,g2⟩:=ih _ a _ r s1 (hf _) ha h i
  exact⟨g1,fun hb hm=>by rw[b4t ag i.lo (by have:=g1.at_;omega)];exact g2 hb hm⟩
 |text x k ih=>
  intro a s r s1 hf ha h i
  simp only[a1m]at h⊢
  obtain⟨g1,g2⟩:=ih _ a _ r s1 (hf _) ha h i
  exact⟨g1,fun hb hm=>by rw[b4t ag i.lo (by have:=g1.at_;omega)];exact g2 hb hm⟩
 |val k ih=>
  intro a s r s1 hf ha h i
  simp only[a1m]at h⊢
  obtain⟨g1,g2⟩:=ih _ a _ r s1 (hf _) ha h i
  exact⟨g1,fun hb hm=>by rw[b4t ag i.lo (by have:=g1.at_;omega)];exact g2 hb hm⟩
 |sign c k ih=>
  intro a s r s1 hf ha h i
  simp only[a1m]at h⊢
  obtain⟨g1,g2⟩:=ih _ a _ r s1 (hf _) ha h i
  exact⟨g1,fun hb hm=>by rw[e5x ag i.lo (by have:=g1.at_;omega)];exact g2 hb hm⟩
 |into c k ih=>
  intro a s r s1 hf ha h i
  simp only[a1m]at h⊢
  have mo:=e9y c i
  obtain⟨g1,g2⟩:=ih _ a _ r s1 (hf _) (by have:=mo.at_;omega) h (mo.in i)
  exact⟨mo.trans g1,fun hb hm=>by rw[f0i ag i.lo (by have:=mo.at_;have:=g1.at_;omega)];exact g2 hb hm⟩
 |down k ih=>
  intro a s r s1 hf ha h i
  simp only[a1m]at h⊢
  have mo:Mo l s (down s):=a9w i rfl id
  obtain⟨g1,g2⟩:=ih a _ r s1 hf (by have:=mo.at_;omega) h (mo.in i)
  exact⟨mo.trans g1,g2⟩
 |adv k ih=>
  intro a s r s1 hf ha h i
  simp only[a1m]at h⊢
  cases ho:okS l (adv s)with
  |false=>rw[ho]at h;cases h
  |true=>
   rw[ho]at h
   obtain⟨mo,_⟩:=f7v hl i ho
   obtain⟨g1,g2⟩:=ih a _ r s1 hf (by have:=mo.at_;omega) h (mo.in i)
   have ho':okS l' (adv s)=true:=by
    have:=ag.le
    unfold okS at ho⊢
    simp only[Bool.and_eq_true,decide_eq_true_eq]at ho⊢
    omega
   exact⟨mo.trans g1,fun hb hm=>by rw[ho'];exact g2 hb hm⟩
 |node fr n k ih=>
  intro a s r s1 hf ha h i
  simp only[a1m]at h⊢
  cases hn:a3x l fr n s with
  |none=>rw[hn]at h;cases h
  |some x=>
   obtain⟨j,s2⟩:=x
   rw[hn]at h
   have mo:=e6j i hn
   obtain⟨g1,g2⟩:=ih _ a _ r s1 (hf.2 _) (by have:=mo.at_;omega) h (mo.in i)
   exact⟨mo.trans g1,fun hb hm=>by rw[f1c ag i.lo (by have:=mo.at_;have:=g1.at_;omega) (by have:=hf.1;omega) n hn];exact g2 hb hm⟩
 |unit k ih=>
  intro a s r s1 hf ha h i
  simp only[a1m]at h⊢
  cases hn:c2s l s with
  |none=>rw[hn]at h;cases h
  |some x=>
   obtain⟨j,s2⟩:=x
   rw[hn]at h
   have mo:=e7b i hn
   obtain⟨g1,g2⟩:=ih _ a _ r s1 (hf _) (by have:=mo.at_;omega) h (mo.in i)
   exact⟨mo.trans g1,fun hb hm=>by rw[f0g ag i.lo (by have:=mo.at_;have:=g1.at_;omega) hn];exact g2 hb hm⟩
 |fail k ih=>
  intro a s r s1 hf ha h i
  simp only[a1m]at h⊢
  have mo:Mo l s (a2n l 120 s):=a9w i a4n fun _=>a4x (by decide)
  obtain⟨g1,g2⟩:=ih a _ r s1 hf (by have:=mo.at_;omega) h (mo.in i)
  exact⟨mo.trans g1,fun hb hm=>by rw[c0r ag i.lo (by have:=mo.at_;have:=g1.at_;omega)];exact g2 hb hm⟩
 |pos k ih=>
  intro a s r s1 hf ha h i
  simp only[a1m]at h⊢
  exact ih _ _ _ r s1 (hf _ ha) (Int.le_refl _) h i
 |call q k ih=>
  intro a s r s1 hf ha h i
  simp only[a1m,cl]at h⊢
  cases hg:go q s with
  |none=>rw[hg]at h;cases h
  |some x=>
   obtain⟨r2,s2⟩:=x
   rw[hg]at h
   obtain⟨mo,sm⟩:=IH q s r2 s2 (c9u ha hf.1) hg i
   have i2:=mo.in i
   have ho:okS l s2=true:=by unfold okS;simp only[Bool.and_eq_true,decide_eq_true_eq];exact⟨i2.lo,i2.hi⟩
   simp only[ho,if_true]at h
   obtain⟨g1,g2⟩:=ih _ a _ r s1 (hf.2 _) (by have:=mo.at_;omega) h i2
   refine⟨mo.trans g1,fun hb hm=>?_⟩
   have hb2:s2.bc=0:=Classical.byContradiction fun e=>g1.bc e hb
   have ho':okS l' s2=true:=by
    have:=ag.le
    have:=i2.lo
    have:=i2.hi
    unfold okS
    simp only[Bool.and_eq_true,decide_eq_true_eq]
    omega
   rw[sm hb2 (by have:=g1.at_;omega)]
   simp only[ho',if_true]
   exact g2 hb hm
 |tail q=>
  intro a s r s1 hf ha h i
  simp only[a1m]at h⊢
  exact IH q s r s1 (c9u ha hf) h i
theorem e1n:∀ n,i0t l m (go l n) (go l' n)
 |0=>fun q s r s1 _ h _=>by cases h
 |n+1=>fun q s r s1 hf h i=>by
  have h:step l (go l n) q s=some (r,s1):=h
  rw[b5e]at h
  obtain⟨g1,g2⟩:=d0j hl ag (e1n n) (prog q) s.at_ s r s1 (e9g hf) (Int.le_refl _) h i
  refine⟨g1,fun hb hm=>?_⟩
  show step l' (go l' n) q s=_
  rw[b5e]
  exact g2 hb hm
end
end Go.Vm.Pa
namespace Go.Vm.Pa
open Go.Vm.Lex (TokQ)
def g3f:Pr->Prop
 | .ret _| .dead=>True
 | .down k=>g3f k
 | .node _ _ k=> ∀ i,g3f (k i)
 |_=>False
def ClQ:Q->Prop
 | .block| .parts _| .function| .item=>True
 |_=>False
def Cl:Pr->Prop
 | .ret _=>False
 | .dead=>True
 | .take _ k| .is _ k| .kind _ k| .text _ k=> ∀ b,Cl (k b)
 | .ok k| .into _ k=>Cl (k true)
 | .need _ k=>Cl k\/g3f k
 | .down k| .adv k| .fail k=>Cl k
 | .name k| .sign _ k=> ∀ t,Cl (k t)
 | .val k| .unit k=> ∀ i,Cl (k i)
 | .node _ _ k=> ∀ i,Cl (k i)
 | .pos k=> ∀ x,Cl (k x)
 | .call q k=>(∀ r,Cl (k r))\/(ClQ q/\∀ r,g3f (k r))
 | .tail q=>ClQ q
theorem b5g {b:Bool} {p:Pr} (h:g3f p):g3f (guard b p):=by cases b<;>first|exact h|trivial
theorem e2l {b:Bool} {p:Pr} (h:Cl p):Cl (guard b p):=by cases b<;>first|exact h|trivial
theorem g2i {q:Q} (h:ClQ q):Cl (prog q):=by
 cases q<;>first|exact h.elim|skip
 ·refine fun x=> .inl fun t=> .inl (.inl fun r=> .inl (Bool.forall_bool.2 ⟨?_,?_⟩))
  ·show Cl (Pr.unit _)
   exact fun i=>e2l (.inr ⟨trivial,fun q=>b5g (b5g fun _=>trivial)⟩)
  ·exact .inl fun r2=>e2l (.inr ⟨trivial,fun q=>b5g (b5g fun _=>trivial)⟩)
 ·exact fun x t=> .inl (.inl fun r=> .inr (b5g fun _=>trivial))
 ·refine Bool.forall_bool.2 ⟨Bool.forall_bool.2 ⟨?_,?_⟩,?_⟩
  ·exact .inr ⟨trivial,fun _=>trivial⟩
  ·exact .inr ⟨trivial,fun _=>trivial⟩
  ·exact .inr ⟨trivial,fun _=>trivial⟩
 ·exact fun x=> .inl (.inl fun r=> .inr (b5g fun _=>trivial))
section
variable {l l':List TokQ} {m:Nat} (ag:Ag l l' m)
include ag
theorem f4u {s:PS} (lo:0<=s.at_) (hm:s.at_<=m) {fr:Int} (hf:fr < m) (n:N) {x:Int×PS} (h:a3x l fr n s=some x):a3x l' fr n s=some x:=by
 unfold a3x at h⊢
 split at h
 ·rename_i c
  have hlt:=ag.le
  have c1:=c.2.2.1
  unfold okF at c1
  simp only[Bool.and_eq_true,decide_eq_true_eq]at c1
  have g1:okF l' fr=true:=by unfold okF;simp only[Bool.and_eq_true,decide_eq_true_eq];omega
  have hle:=ag.le2
  have hlt:=ag.lt
  have e1:l'.getD fr.toNat default=l.getD fr.toNat default:=(ag.eq _ om).symm
  by_cases d:fr < s.at_
  ·have hw:w (s.at_ - 1)=s.at_ - 1:=a1k om
   have e2:l'.getD (w (s.at_ - 1)).toNat default=l.getD (w (s.at_ - 1)).toNat default:=(ag.eq _ om).symm
   have g2:okF l' (w (s.at_ - 1))=true:=by unfold okF;simp only[Bool.and_eq_true,decide_eq_true_eq];omega
   rw[if_pos ⟨c.1,c.2.1,g1,fun _=>g2⟩,e1,e2]
   exact h
  ·rw[if_pos ⟨c.1,c.2.1,g1,fun e=>absurd e d⟩,e1,if_neg d]
   rw[if_neg d]at h
   exact h
 ·cases h
theorem f9f {go go':Q->PS->M}:∀ (p:Pr) (a:Int) (s:PS) (r:R) (s1:PS),g3f p->FrP a p->a1m l go p s=some (r,s1)->0<=s.at_->s1.at_=s.at_/\s1.bc=s.bc/\(a < m->s.at_<=m->a1m l' go' p s=some (r,s1)):=by
 intro p
 induction p with
 |ret x=>intro a s r s1 _ _ h i;simp only[a1m,Option.some.injEq,Prod.mk.injEq]at h⊢;obtain⟨rfl,rfl⟩:=h;exact⟨rfl,rfl,fun _ _=>⟨rfl,rfl⟩⟩
 |dead=>intro a s r s1 _ _ h i;simp only[a1m]at h;cases h
 |down k ih=>
  intro a s r s1 hn hf h i
  simp only[a1m]at h⊢
  exact ih a (down s) r s1 hn hf h i
 |node fr n k ih=>
  intro a s r s1 hn hf h i
  simp only[a1m]at h⊢
  cases hx:a3x l fr n s with
  |none=>rw[hx]at h;cases h
  |some x=>
   obtain⟨j,s2⟩:=x
   rw[hx]at h
   have e:s2.at_=s.at_/\s2.bc=s.bc:=by
    unfold a3x at hx
    split at hx
    ·cases hx;exact⟨rfl,rfl⟩
    ·cases hx
   obtain⟨g1,g2,g3⟩:=ih j a s2 r s1 (hn j) (hf.2 j) h om
   refine⟨g1.trans e.1,g2.trans e.2,fun ha hm=>?_⟩
   rw[f4u ag i hm (by have:=hf.1;omega) n hx]
   exact g3 ha om
 |_=>intro a s r s1 hn;exact hn.elim
end
section
variable {l l':List TokQ} {m:Nat} (hl:TOk l) (ag:Ag l l' m)
def ClG (l:List TokQ) (m:Nat) (go go':Q->PS->M):Prop:=∀ q s r s1,ClQ q->go q s=some (r,s1)->In l s->s1.bc=0->s.at_ < s1.at_/\(s1.at_<=m->go' q s=some (r,s1))
include hl ag
theorem h2y {go go':Q->PS->M} (IH:i0t l m go go') (IC:ClG l m go go'):∀ (p:Pr) (a:Int) (s:PS) (r:R) (s1:PS),Cl p->FrP a p->a<=s.at_->a1m l go p s=some (r,s1)->In l s->s1.bc=0->s.at_ < s1.at_/\(s1.at_<=m->a1m l' go' p s=some (r,s1)):=by
 intro p
 induction p with
 |ret x=>intro a s r s1 hc;exact hc.elim
 |dead=>intro a s r s1 _ _ _ h i;simp only[a1m]at h;cases h
 |take x k ih=>
  intro a s r s1 hc hf ha h i hb
  simp only[a1m]at h⊢
  have mo:=f0d hl x i
  obtain⟨g1,g2⟩:=ih _ a _ r s1 (hc _) (hf _) (by have:=mo.at_;omega) h (mo.in i) hb
  exact⟨by have:=mo.at_;omega,fun hm=>by rw[f1x ag i.lo (by have:=mo.at_;omega)];exact g2 hm⟩
 |need x k ih=>
  intro a s r s1 hc hf ha h i hb
  simp only[a1m]at h⊢
  have mo:=f0l hl x i
  rcases hc with hc|hc
  ·obtain⟨g1,g2⟩:=ih a _ r s1 hc hf (by have:=mo.at_;omega) h (mo.in i) hb
   exact⟨by have:=mo.at_;omega,fun hm=>by rw[d8v ag i.lo (by have:=mo.at_;omega)];exact g2 hm⟩
  ·obtain⟨g1,g2,g3⟩:=f9f ag (go':=go') k a _ r s1 hc hf h (mo.in i).lo
   have hat:(a1n l x s).2.at_=s.at_+1:=by
    unfold a1n at g2⊢
    split
    ·rename_i c
     simp only[Bool.and_eq_true]at c
     exact(c9x hl (d6s c.2) i.lo i.hi).1
    ·rename_i c
     rw[if_neg c]at g2
     exact absurd (g2.symm.trans hb) (a4x (by decide))
   exact⟨om,fun hm=>by rw[d8v ag i.lo om];exact g3 om om⟩
 |name k ih=>
  intro a s r s1 hc hf ha h i hb
  simp only[a1m]at h⊢
  have mo:=e7o hl i
  obtain⟨g1,g2⟩:=ih _ a _ r s1 (hc _) (hf _) (by have:=mo.at_;omega) h (mo.in i) hb
  exact⟨by have:=mo.at_;omega,fun hm=>by rw[f0s ag i.lo (by have:=mo.at_;omega)];exact g2 hm⟩
 |is x k ih=>
  intro a s r s1 hc hf ha h i hb
  simp only[a1m]at h⊢
  obtain⟨g1,g2⟩:=ih _ a _ r s1 (hc _) (hf _) ha h i hb
  exact⟨g1,fun hm=>by rw[d6z ag i.lo om];exact g2 hm⟩
 |ok k ih=>
  intro a s r s1 hc hf ha h i hb
  simp only[a1m]at h⊢
  cases ho:okB s with
  |true=>
   rw[ho]at h
   exact ih _ a _ r s1 hc (hf _) ha h i hb
  |false=>
   rw[ho]at h
   exact absurd hb ((d0j hl ag IH _ a s r s1 (hf _) ha h i).1.bc (e3z ho))
 |kind c k ih=>
  intro a s r s1 hc hf ha h i hb
  simp only[a1m]at h⊢
  obtain⟨g1,g2⟩:=ih _ a _ r s1 (hc _) (hf _) ha h i hb
  exact⟨g1,fun hm=>by rw[b4t ag i.lo om];exact g2 hm⟩
 |text x k ih=>
  intro a s r s1 hc hf ha h i hb
  simp only[a1m]at h⊢
  obtain⟨g1,g2⟩:=ih _ a _ r s1 (hc _) (hf _) ha h i hb
  exact⟨g1,fun hm=>by rw[b4t ag i.lo om];exact g2 hm⟩
 |val k ih=>
  intro a s r s1 hc hf ha h i hb
  simp only[a1m]at h⊢
  obtain⟨g1,g2⟩:=ih _ a _ r s1 (hc _) (hf _) ha h i hb
  exact⟨g1,fun hm=>by rw[b4t ag i.lo om];exact g2 hm⟩
 |sign c k ih=>
  intro a s r s1 hc hf ha h i hb
  simp only[a1m]at h⊢
  obtain⟨g1,g2⟩:=ih _ a _ r s1 (hc _) (hf _) ha h i hb
  exact⟨g1,fun hm=>by rw[e5x ag i.lo om];exact g2 hm⟩
 |into c k ih=>
  intro a s r s1 hc hf ha h i hb
  simp only[a1m]at h⊢
  have mo:=e9y c i
  cases ho:(a9c l c s).1 with
  |true=>
   rw[ho]at h
   obtain⟨g1,g2⟩:=ih _ a _ r s1 hc (hf _) (by have:=mo.at_;omega) h (mo.in i) hb
   exact⟨by have:=mo.at_;omega,fun hm=>by rw[f0i ag i.lo (by have:=mo.at_;omega),ho];exact g2 hm⟩
  |false=>
   rw[ho]at h
   exact absurd hb ((d0j hl ag IH _ a _ r s1 (hf _) (by have:=mo.at_;omega) h (mo.in i)).1.bc (e3z ho))
 |down k ih=>
  intro a s r s1 hc hf ha h i hb
  simp only[a1m]at h⊢
  have mo:Mo l s (down s):=a9w i rfl id
  obtain⟨g1,g2⟩:=ih a _ r s1 hc hf (by have:=mo.at_;omega) h (mo.in i) hb
  exact⟨by have:=mo.at_;omega,g2⟩
 |adv k ih=>
  intro a s r s1 hc hf ha h i hb
  simp only[a1m]at h⊢
  cases ho:okS l (adv s)with
  |false=>rw[ho]at h;cases h
  |true=>
   rw[ho]at h
   obtain⟨mo,_⟩:=f7v hl i ho
   obtain⟨g1,g2⟩:=ih a _ r s1 hc hf (by have:=mo.at_;omega) h (mo.in i) hb
   have ho':okS l' (adv s)=true:=by
    have:=ag.le
    unfold okS at ho⊢
    simp only[Bool.and_eq_true,decide_eq_true_eq]at ho⊢
    omega
   exact⟨by have:=mo.at_;omega,fun hm=>by rw[ho'];exact g2 hm⟩
 |node fr n k ih=>
  intro a s r s1 hc hf ha h i hb
  simp only[a1m]at h⊢
  cases hn:a3x l fr n s with
  |none=>rw[hn]at h;cases h
  |some x=>
   obtain⟨j,s2⟩:=x
   rw[hn]at h
   have mo:=e6j i hn
   obtain⟨g1,g2⟩:=ih _ a _ r s1 (hc _) (hf.2 _) (by have:=mo.at_;omega) h (mo.in i) hb
   exact⟨by have:=mo.at_;omega,fun hm=>by rw[f1c ag i.lo (by have:=mo.at_;omega) (by have:=hf.1;omega) n hn];exact g2 hm⟩
 |unit k ih=>
  intro a s r s1 hc hf ha h i hb
  simp only[a1m]at h⊢
  cases hn:c2s l s with
  |none=>rw[hn]at h;cases h
  |some x=>
   obtain⟨j,s2⟩:=x
   rw[hn]at h
   have mo:=e7b i hn
   obtain⟨g1,g2⟩:=ih _ a _ r s1 (hc _) (hf _) (by have:=mo.at_;omega) h (mo.in i) hb
   exact⟨by have:=mo.at_;omega,fun hm=>by rw[f0g ag i.lo (by have:=mo.at_;omega) hn];exact g2 hm⟩
 |fail k ih=>
  intro a s r s1 hc hf ha h i hb
  simp only[a1m]at h⊢
  have mo:Mo l s (a2n l 120 s):=a9w i a4n fun _=>a4x (by decide)
  obtain⟨g1,g2⟩:=ih a _ r s1 hc hf (by have:=mo.at_;omega) h (mo.in i) hb
  exact⟨by have:=mo.at_;omega,fun hm=>by rw[c0r ag i.lo (by have:=mo.at_;omega)];exact g2 hm⟩
 |pos k ih=>
  intro a s r s1 hc hf ha h i hb
  simp only[a1m]at h⊢
  exact ih _ _ _ r s1 (hc _) (hf _ ha) (Int.le_refl _) h i hb
 |call q k ih=>
  intro a s r s1 hc hf ha h i hb
  simp only[a1m,cl]at h⊢
  cases hg:go q s with
  |none=>rw[hg]at h;cases h
  |some x=>
   obtain⟨r2,s2⟩:=x
   rw[hg]at h
   obtain⟨mo,sm⟩:=IH q s r2 s2 (c9u ha hf.1) hg i
   have i2:=mo.in i
   have ho:okS l s2=true:=by unfold okS;simp only[Bool.and_eq_true,decide_eq_true_eq];exact⟨i2.lo,i2.hi⟩
   have ho':okS l' s2=true:=by
    have:=ag.le
    have:=i2.lo
    have:=i2.hi
    unfold okS
    simp only[Bool.and_eq_true,decide_eq_true_eq]
    omega
   simp only[ho,if_true]at h
   rcases hc with hc|⟨hc1,hc2⟩
   ·obtain⟨g1,g2⟩:=ih _ a _ r s1 (hc _) (hf.2 _) (by have:=mo.at_;omega) h i2 hb
    have hb2:s2.bc=0:=Classical.byContradiction fun e=>(d0j hl ag IH _ a s2 r s1 (hf.2 _) (by have:=mo.at_;omega) h i2).1.bc e hb
    refine⟨by have:=mo.at_;omega,fun hm=>?_⟩
    rw[sm hb2 om]
    simp only[ho',if_true]
    exact g2 hm
   ·obtain⟨g1,g2,g3⟩:=f9f ag (go':=go') (k r2) a _ r s1 (hc2 _) (hf.2 _) h i2.lo
    obtain⟨q1,q2⟩:=IC q s r2 s2 hc1 hg i om
    refine⟨om,fun hm=>?_⟩
    rw[q2 om]
    simp only[ho',if_true]
    exact g3 om om
 |tail q=>
  intro a s r s1 hc hf ha h i hb
  simp only[a1m]at h⊢
  exact IC q s r s1 hc h i hb
theorem f8u:∀ n,ClG l m (go l n) (go l' n)
 |0=>fun q s r s1 _ h _=>by cases h
 |n+1=>fun q s r s1 hc h i hb=>by
  have h:step l (go l n) q s=some (r,s1):=h
  rw[b5e]at h
  have hf:FrQ s.at_ q:=by cases q<;>first|exact hc.elim|trivial
  obtain⟨g1,g2⟩:=h2y hl ag (e1n hl ag n) (f8u n) (prog q) s.at_ s r s1 (g2i hc) (e9g hf) (Int.le_refl _) h i hb
  refine⟨g1,fun hm=>?_⟩
  show step l' (go l' n) q s=_
  rw[b5e]
  exact g2 hm
end
theorem f4n {l:List TokQ} {go go':Q->PS->M} (IH:∀ q s x,go q s=some x->go' q s=some x):∀ (p:Pr) (s:PS) (x:R×PS),a1m l go p s=some x->a1m l go' p s=some x:=by
 intro p
 induction p with
 |ret r=>intro s x h;exact h
 |dead=>intro s x h;exact h
 |tail q=>intro s x h;exact IH q s x h
 |adv k ih=>
  intro s x h
  simp only[a1m]at h⊢
  cases ho:okS l (adv s)with
  |false=>rw[ho]at h;cases h
  |true=>rw[ho]at h;exact ih _ _ h
 |node fr n k ih=>
  intro s x h
  simp only[a1m]at h⊢
  cases hn:a3x l fr n s with
  |none=>rw[hn]at h;cases h
  |some y=>rw[hn]at h;exact ih _ _ _ h
 |unit k ih=>
  intro s x h
  simp only[a1m]at h⊢
  cases hn:c2s l s with
  |none=>rw[hn]at h;cases h
  |some y=>rw[hn]at h;exact ih _ _ _ h
 |call q k ih=>
  intro s x h
  simp only[a1m,cl]at h⊢
  cases hg:go q s with
  |none=>rw[hg]at h;cases h
  |some y=>
   obtain⟨r2,s2⟩:=y
   rw[hg]at h
   rw[IH q s _ hg]
   simp only at h⊢
   cases ho:okS l s2 with
   |false=>rw[ho]at h;cases h
   |true=>rw[ho]at h;exact ih _ _ _ h
 |need _ k ih|down k ih|fail k ih=>intro s x h;simp only[a1m]at h⊢;exact ih _ _ h
 |take _ k ih|name k ih|is _ k ih|ok k ih|kind _ k ih|text _ k ih|val k ih|sign _ k ih|into _ k ih|pos k ih=>intro s x h;simp only[a1m]at h⊢;exact ih _ _ _ h
theorem e2j (l:List TokQ):∀ (n:Nat) q s x,go l n q s=some x->go l (n+1) q s=some x
 |0=>fun _ _ _ h=>by cases h
 |n+1=>fun q s x h=>by
  have h:step l (go l n) q s=some x:=h
  show step l (go l (n+1)) q s=some x
  rw[b5e]at h⊢
  exact f4n (e2j l n) _ _ _ h
theorem c9s (l:List TokQ) {n:Nat} {q:Q} {s:PS} {x:R×PS} (h:go l n q s=some x):∀ k,go l (n+k) q s=some x
 |0=>h
 |k+1=>e2j l _ q s x (c9s l h k)
end Go.Vm.Pa
namespace Go.Vm.Lex
theorem f2a (b:Bool) (r:List UInt8):a0g b (10::r)=a0g false r+1:=by
 cases b
 ·rw[a6m,if_pos (by decide)]
 ·rw[a9p,if_pos rfl]
theorem b4q (r:List UInt8):∀ (u:List UInt8) (b:Bool),a0g b (u++10::r)=if a0g b u=u.length then u.length+a0g false (10::r) else a0g b u
 |[],b=>by simp[b1p,f2a]
 |c::u,false=>by
  have ihf:=b4q r u false
  have iht:=b4q r u true
  rw[List.cons_append,a6m,a6m]
  by_cases h:wsB c=true
  ·rw[if_pos h,if_pos h,ihf,List.length_cons]
   by_cases e:a0g false u=u.length
   ·rw[if_pos e,if_pos om];omega
   ·rw[if_neg e,if_neg om]
  ·rw[if_neg h,if_neg h]
   have hh:(c=47/\(u++10::r).head? =some 47)↔(c=47/\u.head? =some 47):=by
    cases u with
    |nil=>simp
    |cons d u=>simp
   by_cases h2:c=47/\u.head? =some 47
   ·rw[if_pos (hh.2 h2),if_pos h2,iht,List.length_cons]
    by_cases e:a0g true u=u.length
    ·rw[if_pos e,if_pos om];omega
    ·rw[if_neg e,if_neg om]
   ·rw[if_neg (fun e=>h2 (hh.1 e)),if_neg h2,if_neg (by simp)]
 |c::u,true=>by
  have ihf:=b4q r u false
  have iht:=b4q r u true
  rw[List.cons_append,a9p,a9p]
  by_cases h:c=10
  ·rw[if_pos h,if_pos h,ihf,List.length_cons]
   by_cases e:a0g false u=u.length
   ·rw[if_pos e,if_pos om];omega
   ·rw[if_neg e,if_neg om]
  ·rw[if_neg h,if_neg h,iht,List.length_cons]
   by_cases e:a0g true u=u.length
   ·rw[if_pos e,if_pos om];omega
   ·rw[if_neg e,if_neg om]
def Ends (d:UInt8):Prop:=c2e d=false/\∀ c:UInt8,¬ [c,d]∈b5s
theorem f3i:Ends 10:=⟨by decide,by intro c;simp[b5s]⟩
theorem e2v {d:UInt8} (hd:Ends d) (r:List UInt8):∀ u:List UInt8,a8p (u++d::r)=a8p u
 |[]=>by rw[List.nil_append,b0z,hd.1];rfl
 |c::u=>by rw[List.cons_append,b0z,b0z,e2v hd r u]
theorem f2b {d:UInt8} (hd:Ends d) (r:List UInt8) {u:List UInt8} (h:u≠[]):a2z (u++d::r)=a2z u:=by
 match u,h with
 |[c],_=>
  unfold a2z
  have:¬ [c,d]∈b5s:=hd.2 c
  simp[this,hd0]
 |c::e::u,_=>
  unfold a2z
  simp[hd0]
theorem f3a {d:UInt8} (hd:Ends d) (r:List UInt8) {u:List UInt8} (h:u≠[]) (hz:szL u≠0):a2p szL (u++d::r)=a2p szL u:=by
 have hh:hd0 (u++d::r)=hd0 u:=by cases u with
   |nil=>exact absurd rfl h
   |cons c u=>rfl
 unfold a2p
 rw[e2v hd r u,hh,List.take_append_of_le_length (b7q u),f2b hd r h,g4l hz]
theorem f3m (r:List UInt8):∀ (n p:Nat) (u:List UInt8),u.length<=n->Val u->
 ((toks p u).2.c=0->toks p (u++10::r)=after (toks p u).1.dropLast (toks (p+u.length) (10::r)))/\((toks p u).2.c≠0->(toks p (u++10::r)).2.c≠0):=by
 intro n
 induction n with
 |zero=>
  intro p u h _
  have:u=[]:=List.length_eq_zero_iff.1 om
  subst this
  rw[a2x p (by simp)]
  refine⟨fun _=>?_,fun h=>absurd rfl h⟩
  simp only[List.nil_append,List.length_nil,Nat.add_zero,List.dropLast_singleton]
  rw[c5y _ (d0p _ _ _ (Nat.le_refl _))]
 |succ n ih=>
  intro p u h hv
  have hsl:=a2u false u
  have hcat:=b4q r u false
  by_cases h0:u.drop (a0g false u)=[]
  ·have hk:a0g false u=u.length:=by have:=congrArg List.length h0;rw[List.length_drop]at this;simp at this;omega
   rw[if_pos hk]at hcat
   rw[a2x p h0]
   refine⟨fun _=>?_,fun h=>absurd rfl h⟩
   simp only[List.dropLast_singleton]
   rw[c5y _ (d0p _ _ _ (Nat.le_refl _)),b8w p,hcat,b8w (p+u.length),Nat.add_assoc,List.drop_append]
   rw[List.drop_eq_nil_of_le om,List.nil_append,Nat.add_sub_cancel_left]
  ·have hk:a0g false u≠u.length:=fun e=>h0 (List.drop_eq_nil_of_le om)
   rw[if_neg hk]at hcat
   have hv2:=c3k _ u (Nat.le_refl _) hv
   have hz:=(c3q h0).1 hv2
   have hda:(u++10::r).drop (a0g false (u++10::r))=u.drop (a0g false u)++10::r:=by rw[hcat,List.drop_append_of_le_length hsl]
   have hne:(u++10::r).drop (a0g false (u++10::r))≠[]:=by rw[hda];simp
   have htk:a2p szL ((u++10::r).drop (a0g false (u++10::r)))=a2p szL (u.drop (a0g false u)):=by rw[hda];exact f3a f3i r h0 hz.1
   by_cases he:(a2p szL (u.drop (a0g false u))).e=0
   ·obtain⟨k1,k2,k3,k4⟩:=c0s he
    rw[a9r p h0 he,a9r p hne (by rw[htk];exact he),htk,hcat]
    generalize a2p szL (u.drop (a0g false u))=T at*
    rw[List.length_drop]at k2
    have hdr:(u++10::r).drop (a0g false u+T.n)=u.drop (a0g false u+T.n)++10::r:=List.drop_append_of_le_length om
    rw[hdr]
    have hv3:Val (u.drop (a0g false u+T.n)):=by rw[<-List.drop_drop];exact(d0r _ _ k4).1 hv2
    obtain⟨i1,i2⟩:=ih (p+(a0g false u+T.n)) (u.drop (a0g false u+T.n)) (by rw[List.length_drop];omega) hv3
    have hlen:p+(a0g false u+T.n)+(u.drop (a0g false u+T.n)).length=p+u.length:=by rw[List.length_drop];omega
    rw[hlen]at i1
    constructor
    ·intro hc
     have hcc:(toks (p+(a0g false u+T.n)) (u.drop (a0g false u+T.n))).2.c=0:=by
      unfold after at hc
      split at hc
      ·assumption
      ·exact hc
     rw[i1 hcc,c5d]
     congr 1
     unfold after
     rw[if_pos hcc]
     have hne2:(toks (p+(a0g false u+T.n)) (u.drop (a0g false u+T.n))).1≠[]:=by
      rw[toks]at hcc⊢
      split
      ·split
       ·simp
       ·rename_i h1 h2
        rw[dif_pos h1,if_neg h2]at hcc
        rcases h1 with h1|h1
        ·exact absurd h1 h2
        ·exact absurd hcc h1
      ·rename_i h1
       rw[dif_neg h1]at hcc
       unfold after at hcc⊢
       split at hcc
       ·rename_i h3;rw[if_pos h3];simp
       ·exact absurd hcc (by assumption)
     simp only
     rw[List.dropLast_append_of_ne_nil hne2]
    ·intro hc
     have hcc:(toks (p+(a0g false u+T.n)) (u.drop (a0g false u+T.n))).2.c≠0:=by
      unfold after at hc
      split at hc
      ·rename_i hz0;exact absurd hz0 hc
      ·exact hc
     have:=i2 hcc
     unfold after
     rw[if_neg this];exact this
   ·rw[a7i p h0 he,a7i p hne (by rw[htk];exact he),htk]
    exact⟨fun hc=>absurd hc he,fun _=>he⟩
def b5y (q:Nat) (t:TokQ):TokQ:=⟨t.k,t.t,t.v,t.f+q,t.e+q⟩
theorem e5p (q:Nat):∀ (n p:Nat) (s:List UInt8),s.length<=n->(toks (p+q) s).1=(toks p s).1.map (b5y q)/\(toks (p+q) s).2.c=(toks p s).2.c:=by
 intro n
 induction n with
 |zero=>
  intro p s h
  have:s=[]:=List.length_eq_zero_iff.1 om
  subst this
  rw[a2x _ (by simp),a2x _ (by simp)]
  exact⟨by simp[b5y],rfl⟩
 |succ n ih=>
  intro p s h
  by_cases h0:s.drop (a0g false s)=[]
  ·rw[a2x _ h0,a2x _ h0]
   refine⟨?_,rfl⟩
   simp[b5y];omega
  ·by_cases he:(a2p szL (s.drop (a0g false s))).e=0
   ·have hd:=e1w s (by simp[h0,he])
    rw[a9r _ h0 he,a9r _ h0 he]
    generalize a2p szL (s.drop (a0g false s))=T at*
    have i:=ih (p+(a0g false s+T.n)) (s.drop (a0g false s+T.n)) om
    rw[show p+q+(a0g false s+T.n)=p+(a0g false s+T.n)+q by omega]
    unfold after
    rw[i.2]
    split
    ·refine⟨?_,i.2⟩
     simp only[List.map_append,i.1,List.map_cons,List.map_nil,b5y]
     congr 2
     simp;omega
    ·exact⟨rfl,i.2⟩
   ·rw[a7i _ h0 he,a7i _ h0 he]
    exact⟨rfl,rfl⟩
end Go.Vm.Lex
namespace Go.Vm.Pa
open Go.Vm.Lex (TokQ Tk toks a3c a2p szL a0g after Dg b5y Chain Val)
open Go.Vm.Tp (Nd I64)
theorem b3l (l:List TokQ) (n:Nat) (q:Q) (s:PS):go l (n+1) q s=a1m l (go l n) (prog q) s:=b5e l (go l n) q s
def Bal:Int->Pr->Prop
 |d,.ret _=>d=0
 |_,.dead=>True
 |d,.take _ k|d,.is _ k|d,.ok k|d,.kind _ k|d,.text _ k=> ∀ b,Bal d (k b)
 |d,.into _ k=> ∀ b,Bal (d+1) (k b)
 |d,.need _ k|d,.adv k|d,.fail k=>Bal d k
 |d,.down k=>Bal (d - 1) k
 |d,.name k|d,.sign _ k=> ∀ t,Bal d (k t)
 |d,.val k|d,.unit k=> ∀ i,Bal d (k i)
 |d,.node _ _ k=> ∀ i,Bal d (k i)
 |d,.pos k=> ∀ x,Bal d (k x)
 |d,.call _ k=> ∀ r,Bal d (k r)
 |d,.tail _=>d=0
theorem e6s {d:Int} {b:Bool} {p:Pr} (h:Bal d p):Bal d (guard b p):=by cases b<;>first|exact h|trivial
theorem h0p {fr:Int} {k:Int} {t:S} {v:Int} {ks:List D}:Bal 0 (mkP fr k t v ks):=fun _=>rfl
theorem g0h {fr:Int} {n:N}:Bal 0 (endP fr n):=fun _=>rfl
theorem f4v (q:Q):Bal 0 (prog q):=by
 cases q
 all_goals(
   simp only[prog,d1l,g6c,newP,e5i,rowP]
   repeat' (first|dsimp only|trivial|refine Bool.forall_bool.2 ⟨?_,?_⟩|exact h0p|exact g0h|refine e6s ?_|(intro _)|rfl|split|fail))
theorem w_w (a b:Int):w (w a+b)=w (a+b):=by
 unfold w
 simp only[IntKind.wrap,IntKind.bits,IntKind.signed]
 simp
 omega
theorem b3s {l:List TokQ} {s:PS} {c:Int}:(a2n l c s).deep=s.deep:=by unfold a2n;split<;>rfl
theorem f2d {l:List TokQ} {s:PS} {x:S}:(a0y l x s).2.deep=s.deep:=by unfold a0y;split<;>rfl
theorem e6f {l:List TokQ} {s:PS} {x:S}:(a1n l x s).2.deep=s.deep:=by
 unfold a1n
 split
 ·rfl
 ·exact b3s
theorem e7a {l:List TokQ} {s:PS}:(a2c l s).2.deep=s.deep:=by
 unfold a2c
 split
 ·rfl
 ·exact b3s
theorem e9f {l:List TokQ} {s:PS} {c:Int}:(a9c l c s).2.deep=w (s.deep+1):=by
 unfold a9c d0e
 show w ((b1n l (a4f l c s)).deep+1)=_
 have h1:(a4f l c s).deep=s.deep:=by unfold a4f;split<;>first|exact b3s|rfl
 have h2:(b1n l (a4f l c s)).deep=s.deep:=by unfold b1n;split<;>first|exact b3s.trans h1|exact h1
 rw[h2]
theorem w_i (a:Int):w (w a)=w a:=by have:=w_w a 0;rwa [Int.add_zero,Int.add_zero]at this
def Dp (d:Int) (s s1:PS):Prop:=w s1.deep=w (s.deep - d)/\(w s.deep=s.deep->w s1.deep=s1.deep)
theorem e4l {d:Int} {s s' s1:PS} (e:s'.deep=s.deep) (h:Dp d s' s1):Dp d s s1:=by unfold Dp at*;rwa [e]at h
theorem g1z {l:List TokQ} {go:Q->PS->M} (IH:∀ q s r s1,go q s=some (r,s1)->Dp 0 s s1):∀ (p:Pr) (d:Int) (s:PS) (r:R) (s1:PS),Bal d p->a1m l go p s=some (r,s1)->Dp d s s1:=by
 intro p
 induction p with
 |ret x=>intro d s r s1 hb h;simp only[a1m,Option.some.injEq,Prod.mk.injEq]at h;obtain⟨rfl,rfl⟩:=h;exact⟨by rw[show d=0 from hb,Int.sub_zero],id⟩
 |dead=>intro d s r s1 hb h;simp only[a1m]at h;cases h
 |take x k ih=>intro d s r s1 hb h;simp only[a1m]at h;exact e4l f2d (ih _ d _ r s1 (hb _) h)
 |need x k ih=>intro d s r s1 hb h;simp only[a1m]at h;exact e4l e6f (ih d _ r s1 hb h)
 |name k ih=>intro d s r s1 hb h;simp only[a1m]at h;exact e4l e7a (ih _ d _ r s1 (hb _) h)
 |is x k ih|ok k ih|kind x k ih|text x k ih|val k ih|sign x k ih|pos k ih=>intro d s r s1 hb h;simp only[a1m]at h;exact ih _ d _ r s1 (hb _) h
 |into c k ih=>
  intro d s r s1 hb h
  simp only[a1m]at h
  obtain⟨h1,h2⟩:=ih _ (d+1) _ r s1 (hb _) h
  rw[e9f]at h1 h2
  rw[show w (s.deep+1) - (d+1)=w (s.deep+1)+ -(d+1)by omega,w_w,show s.deep+1+ -(d+1)=s.deep - d by omega]at h1
  exact⟨h1,fun _=>h2 (w_i _)⟩
 |down k ih=>
  intro d s r s1 hb h
  simp only[a1m]at h
  obtain⟨h1,h2⟩:=ih (d - 1) _ r s1 hb h
  rw[show(down s).deep=w (s.deep - 1)from rfl]at h1 h2
  rw[show w (s.deep - 1) - (d - 1)=w (s.deep - 1)+ -(d - 1)by omega,w_w,show s.deep - 1+ -(d - 1)=s.deep - d by omega]at h1
  exact⟨h1,fun _=>h2 (w_i _)⟩
 |adv k ih=>
  intro d s r s1 hb h
  simp only[a1m]at h
  cases ho:okS l (adv s)with
  |false=>rw[ho]at h;cases h
  |true=>rw[ho]at h;exact ih d (adv s) r s1 hb h
 |node fr n k ih=>
  intro d s r s1 hb h
  simp only[a1m]at h
  cases hn:a3x l fr n s with
  |none=>rw[hn]at h;cases h
  |some y=>
   rw[hn]at h
   have e:y.2.deep=s.deep:=by
    unfold a3x at hn
    split at hn
    ·cases hn;rfl
    ·cases hn
   exact e4l e (ih _ d _ r s1 (hb _) h)
 |unit k ih=>
  intro d s r s1 hb h
  simp only[a1m]at h
  cases hn:c2s l s with
  |none=>rw[hn]at h;cases h
  |some y=>
   rw[hn]at h
   have e:y.2.deep=s.deep:=by
    unfold c2s at hn
    split at hn
    ·cases hn;rfl
    ·cases hn
   exact e4l e (ih _ d _ r s1 (hb _) h)
 |fail k ih=>intro d s r s1 hb h;simp only[a1m]at h;exact e4l b3s (ih d _ r s1 hb h)
 |call q k ih=>
  intro d s r s1 hb h
  simp only[a1m,cl]at h
  cases hg:go q s with
  |none=>rw[hg]at h;cases h
  |some y=>
   obtain⟨r2,s2⟩:=y
   rw[hg]at h
   simp only at h
   cases ho:okS l s2 with
   |false=>rw[ho]at h;cases h
   |true=>
    rw[ho]at h
    obtain⟨h1,h2⟩:=ih _ d _ r s1 (hb _) h
    obtain⟨g1,g2⟩:=IH q s r2 s2 hg
    rw[Int.sub_zero]at g1
    have e:∀ a:Int,w (a - d)=w (w a+ -d):=fun a=>by rw[w_w];rfl
    exact⟨by rw[h1,e,g1,<-e],fun q=>h2 (g2 q)⟩
 |tail q=>
  intro d s r s1 hb h
  simp only[a1m]at h
  rw[show d=0 from hb]
  exact IH q s r s1 h
theorem e6v (l:List TokQ):∀ (n:Nat) q s r s1,go l n q s=some (r,s1)->Dp 0 s s1
 |0=>fun _ _ _ _ h=>by cases h
 |n+1=>fun q s r s1 h=>by
  rw[b3l]at h
  exact g1z (e6v l n) (prog q) 0 s r s1 (f4v q) h
theorem h0n {l:List TokQ} {n:Nat} {q:Q} {s s1:PS} {r:R} (h:go l n q s=some (r,s1)) (h0:s.deep=0):s1.deep=0:=by
 obtain⟨h1,h2⟩:=e6v l n q s r s1 h
 rw[h0]at h1 h2
 rw[<-h2 (by decide),h1];decide
end Go.Vm.Pa
namespace Go.Vm.Pa
open Go.Vm.Lex (TokQ Tk toks a3c a2p szL a0g after Dg b5y Chain Val)
open Go.Vm.Tp (Nd I64)
def f7c:S:=[115,116,114,117,99,116,32,90,122,32,123,32,122,58,32,105,54,52,32,125]
def b0s:S:=10::f7c
def b6z:List TokQ:=[⟨2,[115,116,114,117,99,116],0,1,7⟩,⟨1,[90,122],0,8,10⟩,⟨4,[123],0,11,12⟩,⟨1,[122],0,13,14⟩,⟨4,[58],0,14,15⟩,⟨2,[105,54,52],0,16,19⟩,⟨4,[125],0,20,21⟩,⟨5,[],0,21,21⟩]
theorem a9m {a:Nat} {s:S} {T:Tk} {r:S} {o:List TokQ} {n d:Nat} (hn:a0g false s=n) (hT:a2p szL (s.drop n)=T) (hs:s.drop n≠[]) (he:T.e=0) (hr:s.drop (n+T.n)=r) (hd:n+T.n=d) (hk:toks (a+d) r=(o,Dg.ok)):toks a s=(⟨T.k,T.t,T.v,a+n,a+n+T.n⟩::o,Dg.ok):=by
 subst hn
 rw[Lex.a9r a hs (by rw[hT];exact he),hT,hr,hd,hk]
 rfl
theorem d2y:toks 0 b0s=(b6z,Dg.ok):=by
 refine a9m (n:=1) (d:=7) (T:=⟨2,[115,116,114,117,99,116],0,6,0⟩) rfl rfl (by decide) rfl rfl rfl ?_
 refine a9m (n:=1) (d:=3) (T:=⟨1,[90,122],0,2,0⟩) rfl rfl (by decide) rfl rfl rfl ?_
 refine a9m (n:=1) (d:=2) (T:=⟨4,[123],0,1,0⟩) rfl rfl (by decide) rfl rfl rfl ?_
 refine a9m (n:=1) (d:=2) (T:=⟨1,[122],0,1,0⟩) rfl rfl (by decide) rfl rfl rfl ?_
 refine a9m (n:=0) (d:=1) (T:=⟨4,[58],0,1,0⟩) rfl rfl (by decide) rfl rfl rfl ?_
 refine a9m (n:=1) (d:=4) (T:=⟨2,[105,54,52],0,3,0⟩) rfl rfl (by decide) rfl rfl rfl ?_
 refine a9m (n:=1) (d:=2) (T:=⟨4,[125],0,1,0⟩) rfl rfl (by decide) rfl rfl rfl ?_
 rw[Lex.a2x _ rfl]
 rfl
theorem e7f {s:S} (h1:(a3c s).2.c=0) (h2:(a3c (s++b0s)).2.c=0):(a3c (s++b0s)).1=(a3c s).1.dropLast++b6z.map (b5y s.length):=by
 obtain⟨_,v1,e1,_⟩:=Lex.b1u s h1
 obtain⟨_,v2,e2,_⟩:=Lex.b1u _ h2
 rw[e1]at h1⊢
 rw[e2]
 have hc:=(Lex.f3m f7c s.length 0 s (Nat.le_refl _) v1).1 h1
 have hs:=Lex.e5p s.length _ 0 b0s (Nat.le_refl _)
 rw[Nat.zero_add]at hc hs
 rw[show s++b0s=s++10::f7c from rfl,hc]
 unfold after
 rw[show(10:UInt8)::f7c=b0s from rfl,if_pos (by rw[hs.2,d2y];rfl),hs.1,d2y]
section
variable {l:List TokQ} {s:PS} {x:TokQ} (hn:now l s=x) (hb:s.bc=0)
include hn hb
theorem h4q (h:x.k=2\/x.k=4):a0y l x.t s=(true,adv s):=by
 unfold a0y isS okB
 rw[hn,hb]
 rcases h with h|h<;>simp[h]
theorem g2t {t:S} (h:x.t≠t):a0y l t s=(false,s):=by
 unfold a0y isS okB
 rw[hn,hb]
 simp[h]
theorem e9d (h:x.k=2\/x.k=4):a1n l x.t s=(true,adv s):=by
 unfold a1n isS okB
 rw[hn,hb]
 rcases h with h|h<;>simp[h]
theorem f9b (h:x.k=1):a2c l s=(x.t,adv s):=by
 unfold a2c okB
 rw[hn,hb]
 simp[h]
omit hb in
theorem is_y (h:x.k=2\/x.k=4):isS l s x.t=true:=by
 unfold isS
 rw[hn]
 rcases h with h|h<;>simp[h]
omit hb in
theorem i0u {t:S} (h:x.t≠t):isS l s t=false:=by
 unfold isS
 rw[hn]
 simp[h]
end
theorem i1v {s:PS} (h:s.bc=0):okB s=true:=by unfold okB;rw[h];rfl
end Go.Vm.Pa
namespace Go.Vm.Pa
open Go.Vm.Lex (TokQ Tk toks a3c a2p szL a0g after Dg b5y Chain Val)
theorem e7c {l:List TokQ} {s:PS} {fr:Int} (n:N) (h1:s.ns.length=s.n) (h2:s.n < 1000000) (h3:0<=fr) (h4:fr<=s.at_) (h5:s.at_ < l.length) (h6:l.length<=1000000):∃ f e:Int,a3x l fr n s=some ((s.n:Int),{s with n:=s.n+1,ns:=s.ns++[n.D f e]})/\f=((l.getD fr.toNat default).f:Int)/\(fr < s.at_->e=((l.getD (s.at_ - 1).toNat default).e:Int)):=by
 unfold a3x
 have hw:w (((s.n+1:Nat):Int) - 1)=(s.n:Int):=(a1k om).trans om
 have hv:w (s.at_ - 1)=s.at_ - 1:=a1k om
 rw[if_pos ⟨h1,h2,by unfold okF;simp only[Bool.and_eq_true,decide_eq_true_eq];omega,fun _=>by rw[hv];unfold okF;simp only[Bool.and_eq_true,decide_eq_true_eq];omega⟩,hw,hv]
 exact⟨_,_,rfl,rfl,fun h=>if_pos h⟩
section
variable {l:List TokQ} {m:Nat} (hlen:m+8<=l.length) (hmax:l.length<=1000000) {q:Nat} (hx:∀ j,j < 8->l.getD (m+j) default=b5y q (b6z.getD j default)) {ns:List D} {k:Nat} {bf be:Int} (hns:ns.length=k) (hk:k < 999990)
abbrev sM (m j:Nat) (d:Int) (ns:List D) (k:Nat) (bf be:Int):PS:=⟨((m+j:Nat):Int),d,ns,k,0,bf,be⟩
include hx in
theorem c2u (j:Nat) (h:j < 8) (d:Int) (ns:List D) (k:Nat) (bf be:Int):now l (sM m j d ns k bf be)=b5y q (b6z.getD j default):=by
 rw[<-hx j h]
 show l.getD ((m+j:Nat):Int).toNat default=_
 rw[Int.toNat_natCast]
include hlen hmax in
theorem d9b (j:Nat) (h:j < 8) (d:Int) (ns:List D) (k:Nat) (bf be:Int):adv (sM m j d ns k bf be)=sM m (j+1) d ns k bf be:=by
 unfold adv sM
 have:w (((m+j:Nat):Int)+1)=((m+(j+1):Nat):Int):=(a1k om).trans om
 simp only[this]
include hlen in
theorem d8c (j:Nat) (h:j < 8) (d:Int) (ns:List D) (k:Nat) (bf be:Int):okS l (sM m j d ns k bf be)=true:=by
 unfold okS
 simp only[Bool.and_eq_true,decide_eq_true_eq]
 omega
include hlen hmax hx
omit hmax hlen in
theorem i0d {i j:Nat} (hi:i < 8) (hj:j < 8) (hij:i<=j) (h8:((b6z.getD i default).f:Int)<=((b6z.getD j default).e:Int)) {f e:Int} (h1:f=((l.getD ((m+i:Nat):Int).toNat default).f:Int)) (h2:((m+i:Nat):Int) < ((m+(j+1):Nat):Int)->e=((l.getD (((m+(j+1):Nat):Int) - 1).toNat default).e:Int)):0<=f/\f<=e:=by
 have h2:=h2 om
 rw[show(((m+(j+1):Nat):Int) - 1).toNat=m+j by omega,hx j hj]at h2
 rw[Int.toNat_natCast,hx i hi]at h1
 have e1:(b5y q (b6z.getD i default)).f=(b6z.getD i default).f+q:=rfl
 have e2:(b5y q (b6z.getD j default)).e=(b6z.getD j default).e+q:=rfl
 rw[e1]at h1;rw[e2]at h2
 omega
theorem g2n {ns:List D} {k:Nat} (hns:ns.length=k) (hk:k < 999999) (n:Nat):∃ f e:Int,(0<=f/\f<=e)/\go l (n+1) (.typed ((m+5:Nat):Int)) (sM m 5 1 ns k bf be)=some (rI k,sM m 6 1 (ns++[N.D ⟨10,[],0,[]⟩ f e]) (k+1) bf be):=by
 obtain⟨f,e,h,h1,h2⟩:=e7c (l:=l) (s:=sM m 6 1 ns k bf be) (fr:=((m+5:Nat):Int)) ⟨10,[],0,[]⟩ hns (by show k < 1000000;omega) om (by show((m+5:Nat):Int)<=((m+6:Nat):Int);omega) (by show((m+6:Nat):Int) < _;omega) hmax
 refine⟨f,e,i0d (l:=l) (m:=m) hx (i:=5) (j:=5) om om om (by decide) h1 h2,?_⟩
 rw[b3l]
 simp only[prog,a1m]
 rw[h4q (x:=⟨2,[105,54,52],0,_,_⟩) (c2u hx 5 om ..) rfl (.inl rfl),d9b hlen hmax 5 om]
 show a1m l (go l n) (mkP _ 10 [] 0 []) _=_
 rw[run_mk]
 unfold mk ret
 rw[h]
theorem h9p {ns:List D} {k:Nat} (hns:ns.length=k) (hk:k < 999999) (n:Nat):∃ f e:Int,(0<=f/\f<=e)/\go l (n+2) .typ (sM m 5 0 ns k bf be)=some (rI k,sM m 6 0 (ns++[N.D ⟨10,[],0,[]⟩ f e]) (k+1) bf be):=by
 obtain⟨f,e,q1,h⟩:=g2n hlen hmax hx (bf:=bf) (be:=be) hns hk n
 refine⟨f,e,q1,?_⟩
 rw[b3l]
 have hi:a9c l 116 (sM m 5 0 ns k bf be)=(true,sM m 5 1 ns k bf be):=by
  have hb:b2v l 116 (sM m 5 0 ns k bf be)=true:=by
   unfold b2v
   rw[if_pos rfl]
   unfold anyS
   have:=is_y (l:=l) (x:=⟨2,[105,54,52],0,_,_⟩) (c2u hx 5 om 0 ns k bf be) (.inl rfl)
   rw[show h7u=[105,54,52]::h7u.tail from rfl,List.any_cons,this,Bool.true_or,Bool.or_true]
  have h1:a4f l 116 (sM m 5 0 ns k bf be)=sM m 5 0 ns k bf be:=by unfold a4f;rw[hb];rfl
  unfold a9c
  rw[h1]
  rfl
 show a1m l (go l (n+1)) (d1l 116 (.typed ((m+5:Nat):Int))) _=_
 unfold d1l
 simp only[a1m,hi,cl,h,d8c hlen 6 om,if_true]
 rfl
theorem g1j {ns:List D} {k:Nat} (hns:ns.length=k) (hk:k < 999998) (n:Nat):∃ a b c d:Int,(0<=a/\a<=b)/\(0<=c/\c<=d)/\go l (n+3) .field (sM m 3 0 ns k bf be)=some (rI (k+1:Nat),sM m 6 0 (ns++[N.D ⟨10,[],0,[]⟩ a b,N.D ⟨5,[122],0,one k⟩ c d]) (k+2) bf be):=by
 obtain⟨a,b,q1,h⟩:=h9p hlen hmax hx (bf:=bf) (be:=be) hns om n
 obtain⟨c,d,g,g1,g2⟩:=e7c (l:=l) (s:=sM m 6 0 (ns++[N.D ⟨10,[],0,[]⟩ a b]) (k+1) bf be) (fr:=((m+3:Nat):Int)) ⟨5,[122],0,one k⟩ (by show(_++[_]).length=k+1;rw[List.length_append,hns];rfl) (by show k+1 < 1000000;omega) om (by show((m+3:Nat):Int)<=((m+6:Nat):Int);omega) (by show((m+6:Nat):Int) < _;omega) hmax
 refine⟨a,b,c,d,q1,i0d (l:=l) (m:=m) hx (i:=3) (j:=5) om om om (by decide) g1 g2,?_⟩
 rw[b3l]
 simp only[prog,a1m]
 rw[f9b (x:=⟨1,[122],0,_,_⟩) (c2u hx 3 om ..) rfl rfl,d9b hlen hmax 3 om]
 simp only
 rw[e9d (x:=⟨4,[58],0,_,_⟩) (c2u hx 4 om ..) rfl (.inr rfl),d9b hlen hmax 4 om]
 simp only[cl,h,d8c hlen 6 om,if_true]
 rw[run_mk]
 unfold mk ret
 rw[g,List.append_assoc]
 rfl
theorem f6u {ns:List D} {k:Nat} (hns:ns.length=k) (hk:k < 999998) (n:Nat):∃ a b c d:Int,(0<=a/\a<=b)/\(0<=c/\c<=d)/\go l (n+4) (.fields 3 K.o) (sM m 3 0 ns k bf be)=some (rK (push K.o (k+1:Nat)),sM m 6 0 (ns++[N.D ⟨10,[],0,[]⟩ a b,N.D ⟨5,[122],0,one k⟩ c d]) (k+2) bf be):=by
 obtain⟨a,b,c,d,q1,q2,h⟩:=g1j hlen hmax hx (bf:=bf) (be:=be) hns hk n
 refine⟨a,b,c,d,q1,q2,?_⟩
 rw[b3l]
 show a1m l (go l (n+3)) (rowP [125] .field K.o (.fields 3)) _=_
 rw[d0y]
 rw[i1v rfl]
 simp only
 rw[i0u (c2u hx 3 om ..) (t:=[125]) (show([122]:S)≠[125] by decide)]
 simp only[cl,h,d8c hlen 6 om,if_true]
 rw[show okK K.o=true from rfl]
 simp only
 rw[g2t (c2u hx 6 om ..) rfl (t:=[44]) (show([125]:S)≠[44] by decide)]
theorem f9x {ns:List D} {k:Nat} (hns:ns.length=k) (hk:k < 999997) (n:Nat):∃ a b c d e f:Int,(0<=a/\a<=b)/\(0<=c/\c<=d)/\(0<=e/\e<=f)/\go l (n+5) (.parts 3) (sM m 0 0 ns k bf be)=some (rI (k+2:Nat),sM m 7 0 (ns++[N.D ⟨10,[],0,[]⟩ a b,N.D ⟨5,[122],0,one k⟩ c d,N.D ⟨3,[90,122],0,one (k+1:Nat)⟩ e f]) (k+3) bf be):=by
 obtain⟨a,b,c,d,q1,q2,h⟩:=f6u hlen hmax hx (bf:=bf) (be:=be) hns om n
 obtain⟨e,f,g,g1,g2⟩:=e7c (l:=l) (s:=sM m 7 0 (ns++[N.D ⟨10,[],0,[]⟩ a b,N.D ⟨5,[122],0,one k⟩ c d]) (k+2) bf be) (fr:=((m+0:Nat):Int)) ⟨3,[90,122],0,one (k+1:Nat)⟩ (by show(_++[_,_]).length=k+2;rw[List.length_append,hns];rfl) (by show k+2 < 1000000;omega) om (by show((m+0:Nat):Int)<=((m+7:Nat):Int);omega) (by show((m+7:Nat):Int) < _;omega) hmax
 refine⟨a,b,c,d,e,f,q1,q2,i0d (l:=l) (m:=m) hx (i:=0) (j:=6) om om om (by decide) g1 g2,?_⟩
 rw[b3l]
 simp only[prog,a1m]
 rw[d9b hlen hmax 0 om,d8c hlen 1 om]
 simp only
 rw[f9b (x:=⟨1,[90,122],0,_,_⟩) (c2u hx 1 om ..) rfl rfl,d9b hlen hmax 1 om]
 simp only
 rw[e9d (x:=⟨4,[123],0,_,_⟩) (c2u hx 2 om ..) rfl (.inr rfl),d9b hlen hmax 2 om]
 simp only[cl,h,d8c hlen 6 om,if_true]
 rw[e9d (x:=⟨4,[125],0,_,_⟩) (c2u hx 6 om ..) rfl (.inr rfl),d9b hlen hmax 6 om]
 simp only[guard,show okK (rK (push K.o ((k+1:Nat):Int))).ks=true from rfl]
 rw[run_mk]
 unfold mk ret
 rw[show(rK (push K.o ((k+1:Nat):Int))).ks.l=one ((k+1:Nat):Int)from rfl,g,List.append_assoc]
 rfl
theorem g8g {ns:List D} {k:Nat} (hns:ns.length=k) (hk:k < 999997) (n:Nat):∃ a b c d e f:Int,(0<=a/\a<=b)/\(0<=c/\c<=d)/\(0<=e/\e<=f)/\go l (n+6) .item (sM m 0 0 ns k bf be)=some (rI (k+2:Nat),sM m 7 0 (ns++[N.D ⟨10,[],0,[]⟩ a b,N.D ⟨5,[122],0,one k⟩ c d,N.D ⟨3,[90,122],0,one (k+1:Nat)⟩ e f]) (k+3) bf be):=by
 obtain⟨a,b,c,d,e,f,q1,q2,q3,h⟩:=f9x hlen hmax hx (bf:=bf) (be:=be) hns hk n
 refine⟨a,b,c,d,e,f,q1,q2,q3,?_⟩
 rw[b3l]
 simp only[prog,a1m]
 rw[is_y (x:=⟨2,[115,116,114,117,99,116],0,_,_⟩) (c2u hx 0 om ..) (.inl rfl)]
 simp only[a1m,cl,h,d8c hlen 7 om,if_true]
theorem g3k {ns:List D} {k:Nat} (hns:ns.length=k) (hk:k < 999997) {ks:K} (hks:okK ks=true) (n:Nat):∃ a b c d e f:Int,(0<=a/\a<=b)/\(0<=c/\c<=d)/\(0<=e/\e<=f)/\go l (n+7) (.items ks) (sM m 0 0 ns k bf be)=some (rK (push ks (k+2:Nat)),sM m 7 0 (ns++[N.D ⟨10,[],0,[]⟩ a b,N.D ⟨5,[122],0,one k⟩ c d,N.D ⟨3,[90,122],0,one (k+1:Nat)⟩ e f]) (k+3) bf be):=by
 obtain⟨a,b,c,d,e,f,q1,q2,q3,h⟩:=g8g hlen hmax hx (bf:=bf) (be:=be) hns hk n
 refine⟨a,b,c,d,e,f,q1,q2,q3,?_⟩
 rw[b3l]
 simp only[prog,a1m]
 rw[i1v rfl]
 simp only[a1m]
 rw[c2u hx 0 om ..,show decide ((b5y q (b6z.getD 0 default)).k=5)=false from rfl]
 simp only[a1m,cl,h,d8c hlen 7 om,if_true,guard,hks]
 rw[b3l]
 simp only[prog,a1m]
 rw[i1v rfl]
 simp only[a1m]
 rw[c2u hx 7 om ..,show decide ((b5y q (b6z.getD 7 default)).k=5)=true from rfl]
 rfl
end
end Go.Vm.Pa
namespace Go.Vm.Pa
open Go.Vm.Lex (TokQ Tk toks a3c a2p szL a0g after Dg b5y Chain Val)
theorem g8w {l:List TokQ} {n n':Nat} {q:Q} {s:PS} {x y:R×PS} (h:go l n q s=some x) (g:go l n' q s=some y):x=y:=by
 have h1:=c9s l h n'
 have g1:=c9s l g n
 rw[Nat.add_comm]at g1
 exact Option.some.inj (h1.symm.trans g1)
theorem e2n {s:S}:∀ {l:List TokQ} {a:Nat},Chain s a l->l≠[]->∀ i,i < l.length->((l.getD i default).k=5↔i+1=l.length)
 |[],_,_,h,_,_=>absurd rfl h
 |x::r,a,h,_,0,_=>by
  obtain⟨_,_,_,_,h5,_,_⟩:=h
  show x.k=5↔_
  rw[h5]
  cases r with
  |nil=>simp
  |cons y r=>simp
 |x::r,a,h,_,i+1,hi=>by
  obtain⟨_,_,_,_,_,_,hc⟩:=h
  have hr:r≠[]:=by rintro rfl;simp at hi
  have:=e2n hc hr i (by simpa using hi)
  simpa using this
section
variable {l l':List TokQ} {m:Nat} (hl:TOk l) (ag:Ag l l' m) (hm:l.length=m+1) (h5:∀ i,i < l.length->((l.getD i default).k=5↔i+1=l.length))
include hl ag hm h5
theorem c7k:∀ (n:Nat) (ks:K) (s:PS) (r:R) (s1:PS),go l n (.items ks) s=some (r,s1)->In l s->s1.bc=0->s1.at_=m/\okK ks=okK ks/\∀ N,n<=N->∃ n1,go l' N (.items ks) s=go l' n1 (.items r.ks) s1/\N<=n1+n/\r=rK r.ks
 |0,_,_,_,_,h,_,_=>by cases h
 |n+1,ks,s,r,s1,h,i,hb=>by
  rw[b3l]at h
  simp only[prog,a1m]at h
  cases ho:okB s with
  |false=>
   rw[ho]at h
   simp only[a1m,Option.some.injEq,Prod.mk.injEq]at h
   exact absurd hb (by rw[<-h.2];exact e3z ho)
  |true=>
   rw[ho]at h
   simp only[a1m]at h
   cases hk:decide ((now l s).k=5)with
   |true=>
    rw[hk]at h
    simp only[a1m,Option.some.injEq,Prod.mk.injEq]at h
    obtain⟨rfl,rfl⟩:=h
    have hat:=(h5 s.at_.toNat (by have:=i.lo;have:=i.hi;omega)).1 (of_decide_eq_true hk)
    exact⟨by have:=i.lo;omega,rfl,fun N hN=>⟨N,rfl,om,rfl⟩⟩
   |false=>
    rw[hk]at h
    simp only[a1m]at h
    cases hc:cl l (go l n) .item s with
    |none=>rw[hc]at h;cases h
    |some x=>
     obtain⟨r2,s2⟩:=x
     rw[hc]at h
     simp only at h
     cases hg:okK ks with
     |false=>rw[hg]at h;cases h
     |true=>
      rw[hg]at h
      simp only[guard,a1m]at h
      have hgo:go l n .item s=some (r2,s2):=by
       unfold cl at hc
       split at hc
       ·split at hc
        ·rename_i e _;cases hc;exact e
        ·cases hc
       ·cases hc
      have mo:=(e1n hl ag n .item s r2 s2 trivial hgo i).1
      have i2:=mo.in i
      obtain⟨e1,_,e2⟩:=c7k n (push ks r2.i) s2 r s1 h i2 hb
      have mo2:=(e1n hl ag n (.items (push ks r2.i)) s2 r s1 trivial h i2).1
      have hb2:s2.bc=0:=Classical.byContradiction fun e=>mo2.bc e hb
      obtain⟨c1,c2⟩:=f8u hl ag n .item s r2 s2 trivial hgo i hb2
      have c2:=c2 (by have:=mo2.at_;omega)
      refine⟨e1,rfl,fun N hN=>?_⟩
      obtain⟨N',rfl⟩:∃ N',N=N'+1:=⟨N - 1,om⟩
      obtain⟨n1,q1,q2,q3⟩:=e2 N' om
      refine⟨n1,?_,om,q3⟩
      have c3:go l' N' .item s=some (r2,s2):=by
       have:=c9s l' c2 (N' - n)
       rwa [show n+(N' - n)=N' by omega]at this
      have hok:okS l' s2=true:=by
       have:=ag.le
       have:=i2.lo
       have:=i2.hi
       unfold okS;simp only[Bool.and_eq_true,decide_eq_true_eq];omega
      rw[b3l]
      simp only[prog,a1m]
      rw[ho]
      simp only[a1m]
      rw[b4t ag i.lo (by have:=mo.at_;have:=mo2.at_;omega),hk]
      simp only[a1m,cl,c3,hok,if_true,guard,hg]
      exact q1
end
theorem f3k {s:S} (h1:(a3c s).2.c=0) (h2:(a3c (s++b0s)).2.c=0) {n n':Nat} {r r':R} {s1 s1':PS} (hg:go (a3c s).1 n (.items K.o) ⟨0,0,[],0,0,0,0⟩=some (r,s1)) (hg':go (a3c (s++b0s)).1 n' (.items K.o) ⟨0,0,[],0,0,0,0⟩=some (r',s1')) (hb:s1.bc=0) (hns:s1.ns.length=s1.n) (hn:s1.n < 999997) (hks:okK r.ks=true):
 ∃ a b c d e f:Int,(0<=a/\a<=b)/\(0<=c/\c<=d)/\(0<=e/\e<=f)/\r'=rK (push r.ks (s1.n+2:Nat))/\s1'.bc=0/\s1'.n=s1.n+3/\s1'.ns=s1.ns++[N.D ⟨10,[],0,[]⟩ a b,N.D ⟨5,[122],0,one s1.n⟩ c d,N.D ⟨3,[90,122],0,one (s1.n+1:Nat)⟩ e f]:=by
 obtain⟨lz,_,_,hch,hne,_⟩:=Lex.b1u s h1
 have hm:=e7f h1 h2
 have t1:=e7g h1
 have t2:=e7g h2
 generalize(a3c (s++b0s)).1=l' at*
 generalize(a3c s).1=l at*
 have h5:=e2n hch hne
 have hpos:0 < l.length:=List.length_pos_iff.2 hne
 have hdl:l.dropLast.length=l.length - 1:=List.length_dropLast
 have hl'len:l'.length=l.length - 1+8:=by rw[hm,List.length_append,hdl,List.length_map];rfl
 have ag:Ag l l' (l.length - 1):=by
  refine⟨fun i hi=>?_,om,om,by have:=t2.len;omega⟩
  rw[hm,List.getD_eq_getElem?_getD,List.getD_eq_getElem?_getD,List.getElem?_append_left om]
  rw[List.getElem?_dropLast,if_pos hi]
 have hx:∀ j,j < 8->l'.getD (l.length - 1+j) default=b5y s.length (b6z.getD j default):=fun j hj=>by
   rw[hm,List.getD_eq_getElem?_getD,List.getElem?_append_right om,hdl,Nat.add_sub_cancel_left,List.getElem?_map,List.getElem?_eq_getElem (show j < b6z.length from hj),List.getD_eq_getElem?_getD,List.getElem?_eq_getElem (show j < b6z.length from hj)]
   rfl
 obtain⟨e1,_,e2⟩:=c7k t1 ag om h5 n K.o _ r s1 hg ⟨Int.le_refl _,by show(0:Int) < _;omega⟩ hb
 obtain⟨n1,q1,q2,q3⟩:=e2 (n+7) om
 have hd:=h0n hg rfl
 obtain⟨n2,rfl⟩:∃ n2,n1=n2+7:=⟨n1 - 7,om⟩
 obtain⟨a,b,c,d,e,f,z1,z2,z3,g⟩:=g3k (l:=l') (m:=l.length - 1) om ag.le2 hx (bf:=s1.bf) (be:=s1.be) hns hn hks n2
 have es:s1=sM (l.length - 1) 0 0 s1.ns s1.n s1.bf s1.be:=by
  obtain⟨p1,p2,p3,p4,p5,p6,p7⟩:=s1
  simp only at e1 hd hb
  subst hd hb e1
  rfl
 rw[<-es]at g
 rw[g]at q1
 have:=g8w hg' q1
 cases this
 exact⟨a,b,c,d,e,f,z1,z2,z3,rfl,rfl,rfl,rfl⟩
end Go.Vm.Pa
namespace Go.Vm.Tp
open Go.Vm.Lex
abbrev Toks:=List (List UInt8)
abbrev kid (x:Nd) (i:Nat):Int:=x.kids.getD i 0
end Go.Vm.Tp

namespace Go.Vm.Tp
open Go.Vm.Lex
theorem e1p {v:Int} {ks:List Int} (h:b2e 2 v ks=true):∃ ps a b,ks=ps++[a,b]/\(∀ k∈ps,k=7)/\a7l a=true/\b=20:=by
 have e:b2e 2 v ks=(decide (([]:List UInt8).length+([116,98]:List UInt8).length<=ks.length) && (a5z [] (ks.take ([]:List UInt8).length) && ((ks.take (ks.length - ([116,98]:List UInt8).length)).drop ([]:List UInt8).length).all (b3i 113) && a5z [116,98] (ks.drop (ks.length - ([116,98]:List UInt8).length)))):=rfl
 rw[e]at h
 simp only[Bool.and_eq_true,decide_eq_true_eq,List.length_nil,List.length_cons,List.drop_zero,Nat.zero_add]at h
 obtain⟨h1,⟨_,h2⟩,h3⟩:=h
 refine⟨ks.take (ks.length - 2),?_⟩
 cases hd:ks.drop (ks.length - 2)with
 |nil=>rw[hd]at h3;cases h3
 |cons a r=>
  rw[hd]at h3
  cases r with
  |nil=>simp[a5z]at h3
  |cons b r=>
   have hl:(ks.drop (ks.length - 2)).length=2:=by rw[List.length_drop];omega
   rw[hd]at hl
   cases r with
   |cons c r=>simp at hl
   |nil=>
    refine⟨a,b,?_,?_,?_,?_⟩
    ·rw[<-hd,List.take_append_drop]
    ·intro k hk
     have:=List.all_eq_true.1 h2 k hk
     simpa [b3i] using this
    ·simp[a5z,b3i]at h3;exact h3.1
    ·simp[a5z,b3i]at h3;exact h3.2
theorem e8m {ps:List Int} {a b:Int} (h:∀ k∈ps,k=7) (ha:a7l a=true) (hb:b=20):params (ps++[a,b])=ps.length:=by
 unfold params
 rw[List.filter_append,List.filter_eq_self.2 (by intro k hk;simpa using h k hk)]
 have h7:a≠7:=by intro e;subst e;cases ha
 subst hb
 simp[h7]
theorem h1j {v:Int} {ks:List Int} (hn:b6k 2 v (params ks)=true) (hf:b2e 2 v ks=true):v=((ks.length - 2:Nat):Int)/\2<=ks.length:=by
 obtain⟨ps,a,b,rfl,h1,h2,h3⟩:=e1p hf
 rw[e8m h1 h2 h3]at hn
 have e:b6k 2 v ps.length=decide (v=ps.length):=rfl
 rw[e,decide_eq_true_eq]at hn
 simp only[List.length_append,List.length_cons,List.length_nil]
 constructor<;>omega
structure c4t (t:List Nd) (i:Nat) (x:Nd):Prop where
 kid:∀ k∈x.kids,0<=k/\k < i
 kn:a5c x.k=true
 nm:nmB x.k x.t=true
 num:b6k x.k x.v (params (kinds t x.kids))=true
 fe:0<=x.f/\x.f<=x.e
 fit:b2e x.k x.v (kinds t x.kids)=true
theorem h9x {t:List Nd} {i:Nat} (h:b0v t i=true):c4t t i (t.getD i default):=by
 unfold b0v at h
 simp only[Bool.and_eq_true,decide_eq_true_eq,List.all_eq_true]at h
 obtain⟨h1,⟨⟨⟨⟨h2,h3⟩,h4⟩,h5⟩,h6⟩,h7⟩:=h
 exact⟨h1,h2,h3,h4,⟨h5,h6⟩,h7⟩
theorem c4t.fn {t:List Nd} {i:Nat} {x:Nd} (h:c4t t i x) (hk:x.k=2):x.v=((x.kids.length - 2:Nat):Int)/\2<=x.kids.length:=by
 have h1:=h.num
 have h2:=h.fit
 rw[hk]at h1 h2
 have:=h1j h1 h2
 rwa [show(kinds t x.kids).length=x.kids.length from List.length_map ..]at this
structure b3o (t:List Nd) (up:List Int):Prop where
 lo:1<=t.length
 hi:t.length<=20000
 root:(t.getD (t.length - 1) default).k=1
 nod:∀ i,i < t.length->c4t t i (t.getD i default)
 ups:ups t=some up
 one:up.dropLast.contains (-1)=false
 deep:d9d (deps up)<=400
theorem c5m {t:List Nd} (h:a1l t=true):∃ up,b3o t up:=by
 unfold a1l at h
 simp only[Bool.and_eq_true,decide_eq_true_eq,List.all_eq_true]at h
 obtain⟨⟨⟨⟨h1,h2⟩,h3⟩,h4⟩,h5⟩:=h
 unfold f2r at h5
 cases hu:ups t with
 |none=>rw[hu]at h5;cases h5
 |some up=>
  rw[hu]at h5
  simp only[Bool.and_eq_true,decide_eq_true_eq,Bool.or_eq_true,Bool.not_eq_true']at h5
  refine⟨up,h1,h2,h3,fun i hi=>h9x (h4 i (List.mem_range.2 hi)),hu,?_,h5.2⟩
  rcases h5.1 with e|e
  ·subst e;rfl
  ·exact e
end Go.Vm.Tp
namespace Go.Vm.Io
open Go.Vm.Tp (Nd a9k kinds a1l b0v c4t a7l)
open Go.Vm.Ip (Fld Nam Fnc Its)
abbrev S:=List UInt8
def nd (t:List Nd) (i:Int):Nd:=t.getD i.toNat default
def In (t:List Nd) (i:Int):Prop:=0<=i/\i.toNat < t.length
structure Rt (t:List Nd):Prop where
 lo:1<=t.length
 hi:t.length<=20000
 kid:∀ i,In t i->∀ k∈(nd t i).kids,0<=k/\k < i
 root:∀ k∈(nd t ((t.length:Int) - 1)).kids,(nd t k).k=2\/(nd t k).k=3\/(nd t k).k=4
 st:∀ i,In t i->(nd t i).k=3->∀ k∈(nd t i).kids,(nd t k).k=5
 en:∀ i,In t i->(nd t i).k=4->∀ k∈(nd t i).kids,(nd t k).k=6
 fn:∀ i,In t i->(nd t i).k=2->∃ ps a b,(nd t i).kids=ps++[a,b]/\(∀ k∈ps,(nd t k).k=7)/\a7l (nd t a).k=true/\(nd t i).v=ps.length
 fd:∀ i,In t i->(nd t i).k=5\/(nd t i).k=7->∃ a,(nd t i).kids=[a]/\a7l (nd t a).k=true
 va:∀ i,In t i->(nd t i).k=6->(nd t i).kids=[]\/∃ a,(nd t i).kids=[a]/\a7l (nd t a).k=true
 leaf:∀ i,In t i->(nd t i).k=10\/(nd t i).k=11\/(nd t i).k=12\/(nd t i).k=13->(nd t i).kids=[]
 ref:∀ i,In t i->(nd t i).k=14\/(nd t i).k=15\/(nd t i).k=16->∃ a,(nd t i).kids=[a]/\a7l (nd t a).k=true
theorem In.lt {t:List Nd} {i:Int} (h:In t i):i < t.length:=by have:=h.1;have:=h.2;omega
theorem Rt.inK {t:List Nd} (h:Rt t) {i k:Int} (hi:In t i) (hk:k∈(nd t i).kids):In t k:=by
 obtain⟨h1,h2⟩:=h.kid i hi k hk
 have:=hi.1
 have:=hi.2
 exact⟨h1,om⟩
theorem kd (t:List Nd) (k:Int):a9k t k=(nd t k).k:=rfl
theorem e9j {t:List Nd} {l:List Int} {k:Int} (h:k∈l):(nd t k).k∈kinds t l:=List.mem_map.2 ⟨k,h,rfl⟩
theorem d9v {t:List Nd} {l:List Int} (h:Go.Vm.Tp.a5z [116] (kinds t l)=true):∃ a,l=[a]/\a7l (nd t a).k=true:=by
 cases l with
 |nil=>simp[kinds,Go.Vm.Tp.a5z]at h
 |cons a r=>
  cases r with
  |nil=>exact⟨a,rfl,by rw[<-kd];simpa [kinds,Go.Vm.Tp.a5z,Go.Vm.Tp.b3i] using h⟩
  |cons b r=>simp[kinds,Go.Vm.Tp.a5z]at h
theorem d2v {t:List Nd} (h:a1l t=true):Rt t:=by
 obtain⟨up,hT⟩:=Go.Vm.Tp.c5m h
 have hN:∀ i,In t i->c4t t i.toNat (nd t i):=fun i hi=>hT.nod i.toNat hi.2
 have hlo:=hT.lo
 have hroot:In t ((t.length:Int) - 1):=⟨om,om⟩
 have er:(nd t ((t.length:Int) - 1)).k=1:=by
  unfold nd
  rw[show((t.length:Int) - 1).toNat=t.length - 1 by omega]
  exact hT.root
 have all:∀ {c:UInt8} {ks:List Int} {v k:Int},Go.Vm.Tp.b6m k v=([],some c,[])->Go.Vm.Tp.b2e k v (kinds t ks)=true->∀ x∈ks,Go.Vm.Tp.b3i c (nd t x).k=true:=by
  intro c ks v k hs hf x hx
  unfold Go.Vm.Tp.b2e at hf
  rw[hs]at hf
  simp only[Bool.and_eq_true,List.length_nil,Nat.sub_zero,List.take_length,List.drop_zero]at hf
  exact List.all_eq_true.1 hf.2.1.2 _ (e9j hx)
 have lst:∀ {s:List UInt8} {ks:List Int} {v k:Int},Go.Vm.Tp.b6m k v=(s,none,[])->Go.Vm.Tp.b2e k v (kinds t ks)=true->Go.Vm.Tp.a5z s (kinds t ks)=true:=by
  intro s ks v k hs hf
  unfold Go.Vm.Tp.b2e at hf
  rw[hs]at hf
  exact hf
 refine⟨hlo,hT.hi,fun i hi k hk=>?_,fun k hk=>?_,fun i hi e k hk=>?_,fun i hi e k hk=>?_,fun i hi e=>?_,fun i hi e=>?_,fun i hi e=>?_,fun i hi e=>?_,fun i hi e=>?_⟩
 ·obtain⟨a,b⟩:=(hN i hi).kid k hk
  have:=hi.1
  exact⟨a,om⟩
 ·have hf:=(hN _ hroot).fit
  rw[er]at hf
  have:=all (c:=105) (by rfl) hf k hk
  simpa [Go.Vm.Tp.b3i] using this
 ·have hf:=(hN i hi).fit
  rw[e]at hf
  have:=all (c:=102) (by rfl) hf k hk
  simpa [Go.Vm.Tp.b3i] using this
 ·have hf:=(hN i hi).fit
  rw[e]at hf
  have:=all (c:=118) (by rfl) hf k hk
  simpa [Go.Vm.Tp.b3i] using this
 ·have hf:=(hN i hi).fit
  have hv:=((hN i hi).fn e).1
  rw[e]at hf
  obtain⟨ps,a,b,h1,h2,h3,h4⟩:=Go.Vm.Tp.e1p hf
  unfold kinds at h1
  obtain⟨q,r,e1,e2,e3⟩:=List.map_eq_append_iff.1 h1
  obtain⟨x,r2,rfl,e4,e5⟩:=List.map_eq_cons_iff.1 e3
  obtain⟨y,r3,rfl,e6,e7⟩:=List.map_eq_cons_iff.1 e5
  have:r3=[]:=by simpa using e7
  subst this
  refine⟨q,x,y,e1,fun k hk=>?_,by rw[<-kd,e4];exact h3,by rw[hv,e1];simp⟩
  exact h2 _ (by rw[<-e2];exact List.mem_map.2 ⟨k,hk,rfl⟩)
 ·have hf:=(hN i hi).fit
  refine d9v (lst (s:=[116]) (v:=(nd t i).v) (k:=(nd t i).k) ?_ hf)
  rcases e with e|e<;>rw[e]<;>rfl
 ·have hf:=(hN i hi).fit
  rw[e]at hf
  have:=lst (s:=[63,116]) (by rfl) hf
  generalize hl:(nd t i).kids=l at this
  cases l with
  |nil=>exact .inl rfl
  |cons a r=>
   cases r with
   |nil=>exact .inr ⟨a,rfl,by rw[<-kd];simpa [kinds,Go.Vm.Tp.a5z,Go.Vm.Tp.b3i] using this⟩
   |cons b r=>simp[kinds,Go.Vm.Tp.a5z]at this
 ·have hf:=(hN i hi).fit
  have:=lst (s:=[]) (v:=(nd t i).v) (k:=(nd t i).k) (by rcases e with e|e|e|e<;>rw[e]<;>rfl) hf
  simpa [kinds,Go.Vm.Tp.a5z] using this
 ·have hf:=(hN i hi).fit
  refine d9v (lst (s:=[116]) (v:=(nd t i).v) (k:=(nd t i).k) ?_ hf)
  rcases e with e|e|e<;>rw[e]<;>rfl
def txt (t:List Nd):Nat->Int->S
 |0,_=>[]
 |n+1,i=>
  if(nd t i).k=10 then[105,54,52]
  else if(nd t i).k=11 then[98,111,111,108]
  else if(nd t i).k=12 then[40,41]
  else if(nd t i).k=14 then[38]++txt t n ((nd t i).kids.getD 0 0)
  else if(nd t i).k=15 then[38,109,117,116,32]++txt t n ((nd t i).kids.getD 0 0)
  else if(nd t i).k=16 then[66,111,120,60]++txt t n ((nd t i).kids.getD 0 0)++[62]
  else(nd t i).t
def tx (t:List Nd) (i:Int):S:=txt t t.length i
def a3o (t:List Nd) (i:Int):Fld:=⟨(nd t i).t,match(nd t i).kids with|[]=>[]|a::_=>tx t a⟩
def mem (t:List Nd) (i:Int):List Int:=if(nd t i).k=2 then(nd t i).kids.take ((nd t i).kids.length - 2) else(nd t i).kids
def ret (t:List Nd) (i:Int):Int:=(nd t i).kids.getD ((nd t i).kids.length - 2) 0
def a3g (t:List Nd) (i:Int):Nam:=⟨(nd t i).t,(nd t i).kids.map (a3o t)⟩
def b0a (t:List Nd) (i:Int):Fnc:=⟨(nd t i).t,(mem t i).map (a3o t),(mem t i).map (fun k=>decide ((nd t k).v=1)),tx t (ret t i),i⟩
def roots (t:List Nd):List Int:=(nd t ((t.length:Int) - 1)).kids
def inn (t:List Nd):Nat->Bool->Int->Int
 |0,_,_=> -1
 |n+1,may,i=>if !may && (decide ((nd t i).k=14)||decide ((nd t i).k=15)) then i else match(nd t i).kids with
  |[]=> -1
  |a::_=>if 0<=inn t n false a then inn t n false a else -1
def unk (t:List Nd) (kn:S->Bool):Nat->Int->Int
 |0,_=> -1
 |n+1,i=>if decide ((nd t i).k=13) && !kn (nd t i).t then i else match(nd t i).kids with
  |[]=> -1
  |a::_=>if 0<=unk t kn n a then unk t kn n a else -1
theorem Rt.ty {t:List Nd} (h:Rt t) {i:Int} (hi:In t i) (hk:a7l (nd t i).k=true):(nd t i).kids=[]\/∃ a,(nd t i).kids=[a]/\a7l (nd t a).k=true:=by
 unfold a7l at hk
 simp only[Bool.and_eq_true,decide_eq_true_eq]at hk
 by_cases c:(nd t i).k=14\/(nd t i).k=15\/(nd t i).k=16
 ·exact .inr (h.ref i hi c)
 ·exact .inl (h.leaf i hi om)
def b8u (t:List Nd) (a:Its×Int) (n:Int):Its×Int:=
 if(nd t n).k=3 then(⟨a.1.ss++[a3g t n],a.1.es,a.1.fs⟩,if 64 < a.1.ss.length+1/\a.2 < 0 then n else a.2)
 else if(nd t n).k=4 then(⟨a.1.ss,a.1.es++[a3g t n],a.1.fs⟩,if 64 < a.1.es.length+1/\a.2 < 0 then n else a.2)
 else(⟨a.1.ss,a.1.es,a.1.fs++[b0a t n]⟩,if 64 < a.1.fs.length+1/\a.2 < 0 then n else a.2)
def col (t:List Nd) (l:List Int):Its×Int:=l.foldl (b8u t) (⟨[],[],[]⟩,-1)
def c7t (t:List Nd):List S->List Int->Option Int
 |_,[]=>none
 |seen,k::r=>if(nd t k).t∈seen then some k else c7t t (seen++[(nd t k).t]) r
def b7n (t:List Nd):List S->List S->List Int->Option (Int×Int)
 |_,_,[]=>none
 |ts,fs,n::r=>
  if(nd t n).k=2 then
   if(nd t n).t∈fs then some (140,n) else if 6 < (mem t n).length then some (2,n) else match c7t t [] (mem t n)with
    |some k=>some (140,k)
    |none=>b7n t ts (fs++[(nd t n).t]) r
  else
   if(nd t n).t∈ts then some (140,n) else if 16 < (mem t n).length then some (2,n) else match c7t t [] (mem t n)with
    |some k=>some (140,k)
    |none=>b7n t (ts++[(nd t n).t]) fs r
theorem a7f {t:List Nd} {n k:Int} (h:k∈mem t n):k∈(nd t n).kids:=by
 unfold mem at h
 split at h
 ·exact List.mem_of_mem_take h
 ·exact h
theorem b6x (t:List Nd) (n:Int):(mem t n).length<=(nd t n).kids.length:=by
 unfold mem
 split
 ·exact Nat.le_trans (List.length_take_le _ _) (Nat.sub_le _ _)
 ·exact Nat.le_refl _
theorem e1e {t:List Nd} (h:Rt t) (kn:S->Bool):∀ (n:Nat) (i:Int),In t i->0<=unk t kn n i->In t (unk t kn n i)
 |0,i,_,h0=>absurd h0 (by rw[unk];decide)
 |n+1,i,hi,h0=>by
  rw[unk]at h0⊢
  split
  ·exact hi
  ·rename_i c
   rw[if_neg c]at h0
   cases hk:(nd t i).kids with
   |nil=>rw[hk]at h0;exact absurd h0 (show ¬ (0:Int)<= -1 by decide)
   |cons a r=>
    rw[hk]at h0
    simp only at h0⊢
    by_cases hp:0<=unk t kn n a
    ·rw[if_pos hp];exact e1e h kn n a (h.inK hi (by rw[hk];exact List.mem_cons_self)) hp
    ·rw[if_neg hp]at h0;exact absurd h0 (by decide)
theorem e1y {t:List Nd} (h:Rt t):∀ (n:Nat) (b:Bool) (i:Int),In t i->0<=inn t n b i->In t (inn t n b i)
 |0,_,i,_,h0=>absurd h0 (by rw[inn];decide)
 |n+1,b,i,hi,h0=>by
  rw[inn]at h0⊢
  split
  ·exact hi
  ·rename_i c
   rw[if_neg c]at h0
   cases hk:(nd t i).kids with
   |nil=>rw[hk]at h0;exact absurd h0 (show ¬ (0:Int)<= -1 by decide)
   |cons a r=>
    rw[hk]at h0
    simp only at h0⊢
    by_cases hp:0<=inn t n false a
    ·rw[if_pos hp];exact e1y h n false a (h.inK hi (by rw[hk];exact List.mem_cons_self)) hp
    ·rw[if_neg hp]at h0;exact absurd h0 (by decide)
def tyl (t:List Nd) (n:Int):List Int:=((mem t n).map fun k=>(nd t k).kids).flatten++(if(nd t n).k=2 then[ret t n] else[])
def tyG (t:List Nd) (kn:S->Bool) (fn:Bool):List Int->Option (Int×Int)
 |[]=>none
 |a::r=>if 0<=unk t kn t.length a then some (141,unk t kn t.length a) else if 0<=inn t t.length fn a then some (142,inn t t.length fn a) else tyG t kn fn r
theorem Rt.h6a {t:List Nd} (h:Rt t) {n:Int} (hi:In t n) (hk:(nd t n).k=2\/(nd t n).k=3\/(nd t n).k=4) {k:Int} (hm:k∈mem t n):In t k/\((nd t k).kids=[]\/∃ a,(nd t k).kids=[a]/\a7l (nd t a).k=true):=by
 have hin:=h.inK hi (a7f hm)
 refine⟨hin,?_⟩
 rcases hk with e|e|e
 ·obtain⟨ps,a,b,e1,e2,_⟩:=h.fn n hi e
  have:mem t n=ps:=by unfold mem;rw[if_pos e,e1];simp
  rw[this]at hm
  exact .inr (h.fd k hin (.inr (e2 k hm)))
 ·exact .inr (h.fd k hin (.inl (h.st n hi e k (a7f hm))))
 ·exact h.va k hin (h.en n hi e k (a7f hm))
theorem Rt.h7g {t:List Nd} (h:Rt t) {n:Int} (hi:In t n) (hk:(nd t n).k=2):∃ ps b,(nd t n).kids=ps++[ret t n,b]/\mem t n=ps/\In t (ret t n)/\a7l (nd t (ret t n)).k=true:=by
 obtain⟨ps,a,b,e1,e2,e3,_⟩:=h.fn n hi hk
 have er:ret t n=a:=by unfold ret;rw[e1];simp
 refine⟨ps,b,by rw[er];exact e1,by unfold mem;rw[if_pos hk,e1];simp,?_,by rw[er];exact e3⟩
 rw[er];exact h.inK hi (by rw[e1];simp)
theorem Rt.tylk {t:List Nd} (h:Rt t) {n:Int} (hi:In t n) (hk:(nd t n).k=2\/(nd t n).k=3\/(nd t n).k=4) {a:Int} (ha:a∈tyl t n):In t a/\a7l (nd t a).k=true:=by
 unfold tyl at ha
 rcases List.mem_append.1 ha with q|q
 ·obtain⟨l,h1,h2⟩:=List.mem_flatten.1 q
  obtain⟨k,h3,rfl⟩:=List.mem_map.1 h1
  obtain⟨g1,g2⟩:=h.h6a hi hk h3
  rcases g2 with e|⟨b,e,eb⟩
  ·rw[e]at h2;cases h2
  ·have hin:=h.inK g1 h2
   rw[e]at h2
   simp only[List.mem_singleton]at h2
   subst h2
   exact⟨hin,eb⟩
 ·split at q
  ·rename_i e
   obtain⟨ps,b,_,_,g1,g2⟩:=h.h7g hi e
   simp only[List.mem_singleton]at q
   subst q
   exact⟨g1,g2⟩
  ·cases q
def c8o (t:List Nd) (e:S->Bool):List Int->Option (Int×Int)
 |[]=>none
 |n::r=>if((nd t n).k≠2/\e (nd t n).t=true)\/((nd t n).k=4/\(nd t n).kids=[]) then some (143,n) else c8o t e r
def c8i (t:List Nd) (b:S->Bool):List Int->Option (Int×Int)
 |[]=>none
 |n::r=>if(nd t n).k=2 then c8i t b r else if b (nd t n).t=true then some (2,n) else c8i t b r
theorem b9v {t:List Nd} {e:S->Bool}:∀ {l:List Int},c8o t e l=none->∀ n∈l,(nd t n).k≠2->e (nd t n).t=false
 |[],_,n,hn,_=>by cases hn
 |m::r,h,n,hn,hk=>by
  rw[c8o]at h
  split at h
  ·cases h
  ·rename_i c
   rcases List.mem_cons.1 hn with q|q
   ·subst q
    cases he:e (nd t n).t with
    |false=>rfl
    |true=>exact absurd (.inl ⟨hk,he⟩) c
   ·exact b9v h n q hk
end Go.Vm.Io
namespace Go.Vm.Itr
open Go.Vm.Ite
open Go.Vm.Tp
theorem e5v {t:List Nd} (h:(List.range t.length).all (b0v t)=true):f7x t:=by
 intro i hi
 have:=List.all_eq_true.1 h i (List.mem_range.2 hi)
 cases hb:(nd t i).kids.all (b6e i)with
 |true=>rfl
 |false=>rw[e4d hb]at this;cases this
theorem d7p {up:List Int} (h:1<=up.length):∃ a r,up=a::r:=by
 cases up with
 |nil=>simp at h
 |cons a r=>exact⟨a,r,rfl⟩
section
variable {fx:Nat->Option Obj} {F:Nat->Option a0x} [HC F] (H:Hp)
set_option maxHeartbeats 4000000 in
theorem f4r (t:List Nd) (hf:b2u t):evF (pgL fx F) d4m [.d (a6q t)] H=some (i64 (errT (a1l t)),H):=by
 refine a1p (d4b (F:=F)) rfl rfl ?_ H
 have htl:=hf.len
 have hnl:(t.map Nd.D).length=t.length:=List.length_map ..
 have bad:a1l t=false->(i64 3:V)=i64 (errT (a1l t)):=fun h=>by rw[h];rfl
 by_cases c1:(t.length:Int) < 1
 ·refine a4s (decide_eq_true (by rw[hnl];exact c1)) ?_
  repeat' (first|refine run ⟨?_⟩|fail)
  exact bad (by unfold a1l;rw[decide_eq_false (by omega:¬ 1<=t.length)];rfl)
 refine a3u (decide_eq_false (by rw[hnl];exact c1)) ?_
 by_cases c2:20000 < (t.length:Int)
 ·refine a4s (decide_eq_true (by rw[hnl];exact c2)) ?_
  repeat' (first|refine run ⟨?_⟩|fail)
  exact bad (by unfold a1l;rw[decide_eq_false (by omega:¬ t.length<=20000),Bool.and_false];rfl)
 refine a3u (decide_eq_false (by rw[hnl];exact c2)) ?_
 have hw:IntKind.i64.wrap (((t.map Nd.D).length:Int) - 1)=((t.length - 1:Nat):Int):=by rw[hnl,a1k om];omega
 refine a0f (d:=(nd t (t.length - 1)).D) (by rw[hw];exact b8z (k:=((t.length - 1:Nat):Int)) om om) ?_
 refine And.intro rfl ?_
 have hcb:a1l t=(decide ((nd t (t.length - 1)).k=1) && (List.range t.length).all (b0v t) && f2r t):=by
  unfold a1l
  rw[decide_eq_true (by omega:1<=t.length),decide_eq_true (by omega:t.length<=20000)];rfl
 rw[hcb]at bad⊢
 by_cases c3:(nd t (t.length - 1)).k=1
 ·refine a0h (by rw[c3];rfl) ?_
  rw[decide_eq_true c3,Bool.true_and]at bad⊢
  refine b5f (α:=Nat) (fun i=>t.length - i) (fun i=>[(1,.ptr 0 0),(28,i64 t.length),(29,i64 i)]) (fun _=>[.box [.d (.sl (t.map Nd.D))]]) (fun i=>i<=t.length/\∀ j,j < i->b0v t j=true) ?_ 0 ⟨om,om⟩ ?_ rfl
  ·rintro i ⟨hi,hall⟩
   refine And.intro (fun h=>?_) (fun h=>?_)
   ·replace h:=of_decide_eq_true h
    have hlt:i < t.length:=om
    refine ca (f5j _ t hf i hlt) ?_
    cases hb:b0v t i with
    |false=>
     refine a0j rfl ?_
     refine bad ?_
     cases hc:(List.range t.length).all (b0v t)with
     |false=>rfl
     |true=>have:=List.all_eq_true.1 hc i (List.mem_range.2 hlt);rw[hb]at this;cases this
    |true=>
     refine a0h rfl ?_
     refine⟨i+1,⟨om,fun j hj=>?_⟩,om,?_,rfl⟩
     ·by_cases hji:j=i
      ·rw[hji];exact hb
      ·exact hall j om
     ·rw[a1k om];rfl
   ·replace h:=of_decide_eq_false h
    have hi':i=t.length:=om
    subst hi'
    have hnodes:(List.range t.length).all (b0v t)=true:=List.all_eq_true.2 fun j hj=>hall j (List.mem_range.1 hj)
    rw[hnodes,Bool.true_and]at bad⊢
    refine ca (e4k _ t hf (e5v hnodes)) ?_
    cases hu:ups t with
    |none=>
     repeat' (first|refine run ⟨?_⟩|fail)
     exact bad (by unfold f2r;rw[hu])
    |some up=>
     have hupo:f2r t=((decide (up=[])|| !up.dropLast.contains (-1)) && decide (d9d (deps up)<=400)):=by unfold f2r;rw[hu]
     rw[hupo]at bad⊢
     obtain⟨u1,u2⟩:=c3t hu
     rcases Bool.eq_false_or_eq_true (decide (up=[])|| !up.dropLast.contains (-1))with hc|hc
     rotate_left
     ·rw[hc]at bad⊢
      refine a4s (by rw[hc];rfl) ?_
      refine a0j rfl ?_
      exact bad rfl
     ·rw[hc]at bad⊢
      refine a3u (by rw[hc];rfl) ?_
      refine ca (e6m _ up om (by rw[u1];exact u2)) ?_
      have hdl:(deps up).length=up.length:=by unfold deps;rw[c5t,List.length_replicate]
      obtain⟨a,r,hd⟩:=d7p (up:=deps up) om
      rw[hd]
      have hrl:r.length < 1048576:=by have:=congrArg List.length hd;simp at this;omega
      refine ca (g8b _ a r hrl) ?_
      rw[<-hd]
      by_cases hm:d9d (deps up)<=400
      ·refine a0h (decide_eq_false om) ?_
       show _=_
       rw[decide_eq_true hm];rfl
      ·refine a0j (decide_eq_true om) ?_
       exact bad (by rw[decide_eq_false hm];rfl)
  ·rw[hnl];rfl
 ·refine a0j (by simpa using c3) ?_
  exact bad (by rw[decide_eq_false c3];rfl)
end
end Go.Vm.Itr
