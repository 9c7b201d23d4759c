import Derived.Test.YtkedogplneaaiaaGreatDoorPaT3a
import Derived.Test.YtkedogplneaaiaaGreatDoorPaT3b
import Derived.Test.YtkedogplneaaiaaGreatDoorPaT3d
import Derived.Test.YtkedogplneaaiaaGreatDoorTreP
import Derived.Test.YtkedogplneaaiaaGreatDoorVmWx
import Derived.Lib.ItoaLen
import Derived.Lib.Join
import Derived.KernelRfl
import Derived.Test.YtkedogplneaaiaaGreatDoorVmOps2
import Derived.Test.YtkedogplneaaiaaGreatDoorPaG
import Derived.Test.YtkedogplneaaiaaGreatDoorVmWp
import Derived.Test.YtkedogplneaaiaaGreatDoorPlW7
import Derived.Lib.LaidU8
import Derived.LaidLaws
import Derived.LaidHandle
import Derived.Test.YtkedogplneaaiaaGreatDoorCards
import Derived.Test.YtkedogplneaaiaaGreatDoorTie
import Derived.SevenTiedAt
import Derived.Lay
set_option maxRecDepth 100000
set_option linter.unusedVariables false
set_option linter.unusedSimpArgs false
namespace Go.Vm.Pa
open Go.Vm.Lex (TokQ)
open Go.Vm.Tp (Nd I64)
theorem e7v {l:List TokQ} (hl:TOk l):∀ n,IHt l n
 |0=>fun q s p m=>by
  exfalso
  obtain⟨m1,m2⟩:=m
  have:=p.hi
  by_cases h:s.bc=0
  ·have h1:=m1 h
   have:0<=rQ q:=by
    cases q<;>try(simp only[rQ];omega)
    have:=p.ex
    simp only[Ext]at this
    simp only[rQ];omega
   omega
  ·have h1:=m2 h
   omega
 |n+1=>fun q s p m=>by
  have IH:=e7v hl n
  show G l q s (step l (go l n) q s)
  cases q with
  |typ=>exact h9m hl IH p m
  |typed fr=>exact g1h hl IH p m
  |param=>exact g3k hl IH p m
  |field=>exact g3y hl IH p m
  |variant=>exact f0x hl IH p m
  |params ks v=>exact f2p hl IH p m
  |function=>exact e3y hl IH p m
  |fields k ks=>exact f4a hl IH p m
  |parts k=>exact g0v hl IH p m
  |item=>exact h4c hl IH p m
  |items ks=>exact g4x hl IH p m
  |stmts ks=>exact f9m hl IH p m
  |block=>exact g3a hl IH p m
  |stmt=>exact h2w hl IH p m
  |let_ fr=>exact h9e hl IH p m
  |blocky fr=>exact f4p hl IH p m
  |branch=>exact f4n hl IH p m
  |cond=>exact g9i hl IH p m
  |match_=>exact g4m hl IH p m
  |arms ks=>exact g7i hl IH p m
  |arm=>exact i0k hl IH p m
  |pattern=>exact e5z hl IH p m
  |patterned fr=>exact d5h hl IH p m
  |expr bare=>exact g9q hl IH p m
  |row k bare=>exact h9t hl IH p m
  |rows k bare fr a=>exact h3i hl IH p m
  |operand bare=>exact e9x hl IH p m
  |prefix_ bare=>exact f6y hl IH p m
  |postfix_ bare=>exact e6z hl IH p m
  |gets fr a=>exact g8h hl IH p m
  |primary bare=>exact e8b hl IH p m
  |named fr bare=>exact g4y hl IH p m
  |args ks=>exact h1n hl IH p m
  |inits ks=>exact g0h hl IH p m
  |init=>exact g6x hl IH p m
end Go.Vm.Pa
namespace Go.Vm.Lex
theorem b8k:∀ (u:List UInt8) (b:Bool),a0c b (u.take (a0c b u))=a0c b u
 |[],b=>by cases b<;>rfl
 |c::r,false=>by
  rw[a2g]
  by_cases h:wsB c=true
  ·rw[if_pos h,List.take_succ_cons,a2g,if_pos h,b8k r false]
  ·rw[if_neg h]
   by_cases h2:c=47/\r.head? =some 47
   ·rw[if_pos h2,List.take_succ_cons,a2g,if_neg h]
    have hh:(r.take (a0c true r)).head? =some 47:=by
     cases r with
     |nil=>simp at h2
     |cons d r=>
      have hd:d=47:=by simpa using h2.2
      subst hd
      rw[a2s,if_neg (by decide),List.take_succ_cons];rfl
    rw[if_pos ⟨h2.1,hh⟩,b8k r true]
   ·rw[if_neg h2];rfl
 |c::r,true=>by
  rw[a2s]
  by_cases h:c=10
  ·rw[if_pos h,List.take_succ_cons,a2s,if_pos h,b8k r false]
  ·rw[if_neg h,List.take_succ_cons,a2s,if_neg h,b8k r true]
theorem d9b {s:List UInt8} (h:s.length<=65536) (hv:Val s):a0l s=toks 0 s:=by
 unfold a0l
 rw[if_neg om,if_neg (by unfold Val at hv;omega)]
def Gap (s:List UInt8) (a f:Nat):Prop:=a0l ((s.drop a).take (f - a))=([⟨5,[],0,f - a,f - a⟩],Dg.ok)
def Chain (s:List UInt8):Nat->List TokQ->Prop
 |a,[]=>a=s.length
 |a,x::r=>a<=x.f/\x.f<=x.e/\x.e<=s.length/\(s.drop x.f).take (x.e - x.f)=x.t/\(x.k=5↔r=[])/\Gap s a x.f/\Chain s x.e r
theorem e7g {s:List UInt8} {a:Nat} (hs:s.length<=65536) (hv:Val (s.drop a)) (hb:(s.drop a).length<=a0c false (s.drop a)\/∃ c,(s.drop a)[a0c false (s.drop a)]? =some c/\c.toNat < 128):Gap s a (a+a0c false (s.drop a)):=by
 unfold Gap
 rw[Nat.add_sub_cancel_left]
 have h1:=(d3v _ (s.drop a) _ (Nat.le_refl _) hv hb).1
 have hl:=a2e false (s.drop a)
 have hle:((s.drop a).take (a0c false (s.drop a))).length=a0c false (s.drop a):=by rw[List.length_take];omega
 rw[d9b (by rw[hle];rw[List.length_drop]at hl;omega) h1,a1n 0 (by rw[b8k];exact List.drop_eq_nil_of_le om),hle,Nat.zero_add]
theorem e8h {w:List UInt8->Nat} {s:List UInt8} (h:(a1b w s).e=0):(a1b w s).k≠5:=by
 unfold a1b at h⊢
 repeat' split
 all_goals simp_all
theorem e2l {s:List UInt8} (hs:s.length<=65536):∀ (n a:Nat),s.length - a<=n->a<=s.length->Val (s.drop a)->(toks a (s.drop a)).2.c=0->Chain s a (toks a (s.drop a)).1/\(toks a (s.drop a)).2=Dg.ok/\(toks a (s.drop a)).1≠[]:=by
 intro n
 induction n with
 |zero=>
  intro a h ha hv hc
  have e:s.drop a=[]:=List.drop_eq_nil_of_le om
  rw[a1n a (by rw[e];rfl)]at hc⊢
  have hl:a+(s.drop a).length=s.length:=by rw[List.length_drop];omega
  have ha':a=s.length:=om
  refine⟨?_,rfl,by simp⟩
  simp only[Chain,hl]
  refine⟨om,om,om,by simp,by simp,?_,trivial⟩
  have:=e7g hs hv (.inl (by rw[e];simp))
  rw[e,a7b,Nat.add_zero,ha']at this
  rw[ha'];exact this
 |succ n ih=>
  intro a h ha hv hc
  have hsl:=a2e false (s.drop a)
  by_cases h0:(s.drop a).drop (a0c false (s.drop a))=[]
  ·rw[a1n a h0]at hc⊢
   have hl:a+(s.drop a).length=s.length:=by rw[List.length_drop];omega
   have hk:a0c false (s.drop a)=(s.drop a).length:=by
    have:=congrArg List.length h0;rw[List.length_drop]at this;simp at this;rw[List.length_drop]at hsl⊢;omega
   refine⟨?_,rfl,by simp⟩
   simp only[Chain,hl]
   refine⟨om,om,om,by simp,by simp,?_,trivial⟩
   have:=e7g hs hv (.inl om)
   rw[hk,hl]at this;exact this
  ·by_cases he:(a1b szL ((s.drop a).drop (a0c false (s.drop a)))).e=0
   ·obtain⟨k1,k2,k3,k4⟩:=b3q he
    have hkd:=e8h he
    rw[a4r a h0 he]at hc⊢
    simp only[List.drop_drop]at hc k1 k2 k3 k4 hkd⊢
    generalize hT:a1b szL (s.drop (a+a0c false (s.drop a)))=T at*
    generalize hK:a0c false (s.drop a)=K at*
    rw[List.length_drop]at k2 hsl
    have hv2:Val (s.drop (a+(K+T.n))):=by
     have:=c4a _ (s.drop a) (Nat.le_refl _) hv
     rw[hK,List.drop_drop]at this
     rw[show a+(K+T.n)=(a+K)+T.n by omega,<-List.drop_drop]
     exact(c5x _ _ k4).1 this
    have hcc:(toks (a+(K+T.n)) (s.drop (a+(K+T.n)))).2.c=0:=by
     unfold after at hc
     split at hc
     ·assumption
     ·exact hc
    obtain⟨i1,i2,i3⟩:=ih (a+(K+T.n)) om om hv2 hcc
    unfold after
    rw[if_pos hcc]
    refine⟨?_,i2,by simp⟩
    simp only[List.singleton_append,Chain]
    have hb:(s.drop a)[K]? =s[a+K]? :=List.getElem?_drop ..
    refine⟨om,om,om,?_,?_,?_,?_⟩
    ·rw[Nat.add_sub_cancel_left,k3]
    ·exact⟨fun e=>absurd e hkd,fun e=>absurd e i3⟩
    ·have:=e7g hs hv (.inr ?_)
     ·rw[hK]at this;exact this
     ·rw[hK,hb]
      have hlt:a+K < s.length:=om
      refine⟨s[a+K],List.getElem?_eq_getElem hlt,k4 _ ?_⟩
      rw[List.mem_iff_getElem?]
      exact⟨0,by rw[List.getElem?_take,if_pos om,List.getElem?_drop,Nat.add_zero,List.getElem?_eq_getElem hlt]⟩
    ·rw[show a+K+T.n=a+(K+T.n)by omega];exact i1
   ·rw[a4g a h0 he]at hc;exact absurd hc he
theorem f9s (s:List UInt8):(a1b szL s).n<=s.length:=by
 have h1:=a9p s
 have h2:=b6h s
 by_cases e:(a1b szL s).e=0
 ·exact(b3q e).2.1
 ·unfold a1b at e⊢
  repeat' split
  all_goals simp_all
theorem d8f:∀ (n a:Nat) (s:List UInt8),s.length<=n->(toks a s).2.c≠0->a<=(toks a s).2.f/\(toks a s).2.f<=(toks a s).2.e/\(toks a s).2.e<=a+s.length:=by
 intro n
 induction n with
 |zero=>
  intro a s h hc
  have:s=[]:=List.length_eq_zero_iff.1 om
  subst this
  rw[a1n a (by simp)]at hc;exact absurd rfl hc
 |succ n ih=>
  intro a s h hc
  have hsl:=a2e false s
  have hnb:=f9s (s.drop (a0c false s))
  rw[List.length_drop]at hnb
  by_cases h0:s.drop (a0c false s)=[]
  ·rw[a1n a h0]at hc;exact absurd rfl hc
  ·by_cases he:(a1b szL (s.drop (a0c false s))).e=0
   ·have hd:=b5d s (by simp[h0,he])
    rw[a4r a h0 he]at hc⊢
    generalize(a1b szL (s.drop (a0c false s)))=T at*
    have hcc:(toks (a+(a0c false s+T.n)) (s.drop (a0c false s+T.n))).2.c≠0:=by
     unfold after at hc
     split at hc
     ·rename_i hz;exact absurd hz hc
     ·exact hc
    have i:=ih (a+(a0c false s+T.n)) (s.drop (a0c false s+T.n)) om hcc
    unfold after
    rw[if_neg hcc]
    rw[List.length_drop]at i
    simp only
    omega
   ·rw[a4g a h0 he]
    simp only
    omega
theorem d5k (s:List UInt8) (h:(a0l s).2.c≠0):(a0l s).1=[]/\(a0l s).2.f<=(a0l s).2.e/\(a0l s).2.e<=s.length:=by
 unfold a0l at h⊢
 split
 ·simp
 ·rename_i h1
  rw[if_neg h1]at h
  split
  ·rename_i h2
   have:=b5k _ s 0 (Nat.le_refl _)
   refine⟨rfl,by simp,?_⟩
   simp only
   omega
  ·rename_i h2
   rw[if_neg h2]at h
   have:=d8f _ 0 s (Nat.le_refl _) h
   exact⟨c3m _ _ _ (Nat.le_refl _) h,this.2.1,om⟩
theorem a6g (s:List UInt8) (h:(a0l s).2.c=0):s.length<=65536/\Val s/\a0l s=toks 0 s/\Chain s 0 (a0l s).1/\(a0l s).1≠[]/\(a0l s).2=Dg.ok:=by
 unfold a0l at h
 split at h
 ·cases h
 ·rename_i h1
  split at h
  ·cases h
  ·rename_i h2
   have hv:Val s:=by have:=b5k _ s 0 (Nat.le_refl _);unfold Val;omega
   have e:=d9b (by omega:s.length<=65536) hv
   have:=e2l (by omega:s.length<=65536) _ 0 (Nat.le_refl _) (Nat.zero_le _) (by rw[List.drop_zero];exact hv) (by rw[List.drop_zero];exact h)
   rw[List.drop_zero]at this
   rw[e]
   exact⟨om,hv,rfl,this.1,this.2.2,this.2.1⟩
end Go.Vm.Lex
namespace Go.Vm.Pa
open Go.Vm.Lex (TokQ toks a0l a1b szL a0c after Dg)
open Go.Vm.Tp (Nd I64)
theorem g8y {w:List UInt8->Nat} (s:List UInt8):I64 (a1b w s).v:=by
 unfold a1b I64
 (repeat' split)<;>dsimp only<;>(try omega)
 rename_i h
 simp only[Lex.b7y,Bool.and_eq_true,decide_eq_true_eq]at h
 have:=h.2
 omega
structure Small (m:Nat) (x:TokQ):Prop where
 t:x.t.length<=m
 v:I64 x.v
 f:x.f<=m
 e:x.e<=m
theorem e4m (m:Nat):∀ (n a:Nat) (s:List UInt8),s.length<=n->a+s.length<=m->(toks a s).2.c=0->(toks a s).1.length<=s.length+1/\(∀ x∈(toks a s).1,Small m x)/\(toks a s).1≠[]/\∀ i,i < (toks a s).1.length->((toks a s).1.getD i default).k≠5->i+1 < (toks a s).1.length:=by
 intro n
 induction n with
 |zero=>
  intro a s hs hm hc
  have e:s=[]:=List.eq_nil_of_length_eq_zero om
  subst e
  rw[Lex.a1n a rfl]
  refine⟨by simp,fun x hx=>?_,by simp,fun i hi h5=>?_⟩
  ·simp only[List.mem_singleton]at hx
   subst hx
   exact⟨Nat.zero_le _,by unfold I64;dsimp only;omega,hm,hm⟩
  ·simp only[List.length_singleton]at hi
   have:i=0:=om
   subst this
   exact absurd rfl h5
 |succ n ih=>
  intro a s hs hm hc
  have hsl:=Lex.a2e false s
  by_cases h0:s.drop (a0c false s)=[]
  ·rw[Lex.a1n a h0]
   refine⟨by simp,fun x hx=>?_,by simp,fun i hi h5=>?_⟩
   ·simp only[List.mem_singleton]at hx
    subst hx
    exact⟨Nat.zero_le _,by unfold I64;dsimp only;omega,hm,hm⟩
   ·simp only[List.length_singleton]at hi
    have:i=0:=om
    subst this
    exact absurd rfl h5
  ·by_cases he:(a1b szL (s.drop (a0c false s))).e=0
   ·obtain⟨k1,k2,k3,k4⟩:=Lex.b3q he
    have hv:=g8y (w:=szL) (s.drop (a0c false s))
    rw[Lex.a4r a h0 he]at hc⊢
    generalize hT:a1b szL (s.drop (a0c false s))=T at*
    rw[List.length_drop]at k2
    have hc2:(toks (a+(a0c false s+T.n)) (s.drop (a0c false s+T.n))).2.c=0:=by
     unfold after at hc
     split at hc
     ·assumption
     ·rename_i h;exact absurd hc h
    have hl:(s.drop (a0c false s+T.n)).length=s.length - (a0c false s+T.n):=List.length_drop ..
    obtain⟨i1,i2,i3,i4⟩:=ih (a+(a0c false s+T.n)) (s.drop (a0c false s+T.n)) om om hc2
    unfold after
    rw[if_pos hc2]
    dsimp only
    generalize(toks (a+(a0c false s+T.n)) (s.drop (a0c false s+T.n))).1=r at*
    refine⟨by rw[List.length_append,List.length_singleton];omega,fun x hx=>?_,by simp,fun i hi h5=>?_⟩
    ·rcases List.mem_append.1 hx with hx|hx
     ·simp only[List.mem_singleton]at hx
      subst hx
      refine⟨?_,hv,by dsimp only;omega,by dsimp only;omega⟩
      show T.t.length<=m
      rw[k3,List.length_take,List.length_drop];omega
     ·exact i2 x hx
    ·have hr:0 < r.length:=List.length_pos_iff.2 i3
     rw[List.length_append,List.length_singleton]at hi⊢
     cases i with
     |zero=>omega
     |succ i=>
      have:=i4 i om (by simpa [List.getD_eq_getElem?_getD] using h5)
      omega
   ·rw[Lex.a4g a h0 he]at hc
    exact absurd hc he
theorem f1q {s:List UInt8} (h:(a0l s).2.c=0):TOk (a0l s).1:=by
 obtain⟨h1,_,h3,_⟩:=Lex.a6g s h
 rw[h3]at h⊢
 obtain⟨i1,i2,i3,i4⟩:=e4m s.length s.length 0 s (Nat.le_refl _) om h
 have all:∀ i,Small 65536 ((toks 0 s).1.getD i default):=fun i=>by
   rw[List.getD_eq_getElem?_getD]
   cases c:(toks 0 s).1[i]? with
   |none=>exact⟨Nat.zero_le _,by unfold I64;decide,Nat.zero_le _,Nat.zero_le _⟩
   |some x=>
    have:=i2 x (List.mem_of_getElem? c)
    exact⟨Nat.le_trans this.t h1,this.v,Nat.le_trans this.f h1,Nat.le_trans this.e h1⟩
 exact⟨om,fun i=>(all i).t,fun i=>(all i).v,fun i=>⟨(all i).f,(all i).e⟩,i4⟩
end Go.Vm.Pa
namespace Go.Vm.Lex
theorem e5v (b:Bool) (r:List UInt8):a0c b (10::r)=a0c false r+1:=by
 cases b
 ·rw[a2g,if_pos (by decide)]
 ·rw[a2s,if_pos rfl]
theorem b3g (r:List UInt8):∀ (u:List UInt8) (b:Bool),a0c b (u++10::r)=if a0c b u=u.length then u.length+a0c false (10::r) else a0c b u
 |[],b=>by simp[a7b,e5v]
 |c::u,false=>by
  have ihf:=b3g r u false
  have iht:=b3g r u true
  rw[List.cons_append,a2g,a2g]
  by_cases h:wsB c=true
  ·rw[if_pos h,if_pos h,ihf,List.length_cons]
   by_cases e:a0c false u=u.length
   ·rw[if_pos e,if_pos om];omega
   ·rw[if_neg e,if_neg om]
  ·rw[if_neg h,if_neg h]
   have hh:(c=47/\(u++10::r).head? =some 47)↔(c=47/\u.head? =some 47):=by
    cases u with
    |nil=>simp
    |cons d u=>simp
   by_cases h2:c=47/\u.head? =some 47
   ·rw[if_pos (hh.2 h2),if_pos h2,iht,List.length_cons]
    by_cases e:a0c true u=u.length
    ·rw[if_pos e,if_pos om];omega
    ·rw[if_neg e,if_neg om]
   ·rw[if_neg (fun e=>h2 (hh.1 e)),if_neg h2,if_neg (by simp)]
 |c::u,true=>by
  have ihf:=b3g r u false
  have iht:=b3g r u true
  rw[List.cons_append,a2s,a2s]
  by_cases h:c=10
  ·rw[if_pos h,if_pos h,ihf,List.length_cons]
   by_cases e:a0c false u=u.length
   ·rw[if_pos e,if_pos om];omega
   ·rw[if_neg e,if_neg om]
  ·rw[if_neg h,if_neg h,iht,List.length_cons]
   by_cases e:a0c true u=u.length
   ·rw[if_pos e,if_pos om];omega
   ·rw[if_neg e,if_neg om]
def Ends (d:UInt8):Prop:=c0l d=false/\∀ c:UInt8,¬ [c,d]∈a9x
theorem f2t:Ends 10:=⟨by decide,by intro c;simp[a9x]⟩
theorem e4o:Ends 32:=⟨by decide,by intro c;simp[a9x]⟩
theorem e0c {d:UInt8} (hd:Ends d) (r:List UInt8):∀ u:List UInt8,a2h (u++d::r)=a2h u
 |[]=>by rw[List.nil_append,a9l,hd.1];rfl
 |c::u=>by rw[List.cons_append,a9l,a9l,e0c hd r u]
theorem e9p {d:UInt8} (hd:Ends d) (r:List UInt8) {u:List UInt8} (h:u≠[]):a2l (u++d::r)=a2l u:=by
 match u,h with
 |[c],_=>
  unfold a2l
  have:¬ [c,d]∈a9x:=hd.2 c
  simp[this,hd0]
 |c::e::u,_=>
  unfold a2l
  simp[hd0]
theorem d9l {d:UInt8} (hd:Ends d) (r:List UInt8) {u:List UInt8} (h:u≠[]) (hz:szL u≠0):a1b szL (u++d::r)=a1b szL u:=by
 have hh:hd0 (u++d::r)=hd0 u:=by cases u with
   |nil=>exact absurd rfl h
   |cons c u=>rfl
 unfold a1b
 rw[e0c hd r u,hh,List.take_append_of_le_length (a9p u),e9p hd r h,f1p hz]
theorem e1y (r:List UInt8):∀ (n p:Nat) (u:List UInt8),u.length<=n->Val u->
 ((toks p u).2.c=0->toks p (u++10::r)=after (toks p u).1.dropLast (toks (p+u.length) (10::r)))/\((toks p u).2.c≠0->(toks p (u++10::r)).2.c≠0):=by
 intro n
 induction n with
 |zero=>
  intro p u h _
  have:u=[]:=List.length_eq_zero_iff.1 om
  subst this
  rw[a1n p (by simp)]
  refine⟨fun _=>?_,fun h=>absurd rfl h⟩
  simp only[List.nil_append,List.length_nil,Nat.add_zero,List.dropLast_singleton]
  rw[c5c _ (c3m _ _ _ (Nat.le_refl _))]
 |succ n ih=>
  intro p u h hv
  have hsl:=a2e false u
  have hcat:=b3g r u false
  by_cases h0:u.drop (a0c false u)=[]
  ·have hk:a0c false u=u.length:=by have:=congrArg List.length h0;rw[List.length_drop]at this;simp at this;omega
   rw[if_pos hk]at hcat
   rw[a1n p h0]
   refine⟨fun _=>?_,fun h=>absurd rfl h⟩
   simp only[List.dropLast_singleton]
   rw[c5c _ (c3m _ _ _ (Nat.le_refl _)),b9p p,hcat,b9p (p+u.length),Nat.add_assoc,List.drop_append]
   rw[List.drop_eq_nil_of_le om,List.nil_append,Nat.add_sub_cancel_left]
  ·have hk:a0c false u≠u.length:=fun e=>h0 (List.drop_eq_nil_of_le om)
   rw[if_neg hk]at hcat
   have hv2:=c4a _ u (Nat.le_refl _) hv
   have hz:=(b1x h0).1 hv2
   have hda:(u++10::r).drop (a0c false (u++10::r))=u.drop (a0c false u)++10::r:=by rw[hcat,List.drop_append_of_le_length hsl]
   have hne:(u++10::r).drop (a0c false (u++10::r))≠[]:=by rw[hda];simp
   have htk:a1b szL ((u++10::r).drop (a0c false (u++10::r)))=a1b szL (u.drop (a0c false u)):=by rw[hda];exact d9l f2t r h0 hz.1
   by_cases he:(a1b szL (u.drop (a0c false u))).e=0
   ·obtain⟨k1,k2,k3,k4⟩:=b3q he
    rw[a4r p h0 he,a4r p hne (by rw[htk];exact he),htk,hcat]
    generalize a1b szL (u.drop (a0c false u))=T at*
    rw[List.length_drop]at k2
    have hdr:(u++10::r).drop (a0c false u+T.n)=u.drop (a0c false u+T.n)++10::r:=List.drop_append_of_le_length om
    rw[hdr]
    have hv3:Val (u.drop (a0c false u+T.n)):=by rw[<-List.drop_drop];exact(c5x _ _ k4).1 hv2
    obtain⟨i1,i2⟩:=ih (p+(a0c false u+T.n)) (u.drop (a0c false u+T.n)) (by rw[List.length_drop];omega) hv3
    have hlen:p+(a0c false u+T.n)+(u.drop (a0c false u+T.n)).length=p+u.length:=by rw[List.length_drop];omega
    rw[hlen]at i1
    constructor
    ·intro hc
     have hcc:(toks (p+(a0c false u+T.n)) (u.drop (a0c false u+T.n))).2.c=0:=by
      unfold after at hc
      split at hc
      ·assumption
      ·exact hc
     rw[i1 hcc,c5r]
     congr 1
     unfold after
     rw[if_pos hcc]
     have hne2:(toks (p+(a0c false u+T.n)) (u.drop (a0c false u+T.n))).1≠[]:=by
      rw[toks]at hcc⊢
      split
      ·split
       ·simp
       ·rename_i h1 h2
        rw[dif_pos h1,if_neg h2]at hcc
        rcases h1 with h1|h1
        ·exact absurd h1 h2
        ·exact absurd hcc h1
      ·rename_i h1
       rw[dif_neg h1]at hcc
       unfold after at hcc⊢
       split at hcc
       ·rename_i h3;rw[if_pos h3];simp
       ·exact absurd hcc (by assumption)
     simp only
     rw[List.dropLast_append_of_ne_nil hne2]
    ·intro hc
     have hcc:(toks (p+(a0c false u+T.n)) (u.drop (a0c false u+T.n))).2.c≠0:=by
      unfold after at hc
      split at hc
      ·rename_i hz0;exact absurd hz0 hc
      ·exact hc
     have:=i2 hcc
     unfold after
     rw[if_neg this];exact this
   ·rw[a4g p h0 he,a4g p hne (by rw[htk];exact he),htk]
    exact⟨fun hc=>absurd hc he,fun _=>he⟩
def d4l (q:Nat) (t:TokQ):TokQ:=⟨t.k,t.t,t.v,t.f+q,t.e+q⟩
theorem c7t (q:Nat):∀ (n p:Nat) (s:List UInt8),s.length<=n->(toks (p+q) s).1=(toks p s).1.map (d4l q)/\(toks (p+q) s).2.c=(toks p s).2.c:=by
 intro n
 induction n with
 |zero=>
  intro p s h
  have:s=[]:=List.length_eq_zero_iff.1 om
  subst this
  rw[a1n _ (by simp),a1n _ (by simp)]
  exact⟨by simp[d4l],rfl⟩
 |succ n ih=>
  intro p s h
  by_cases h0:s.drop (a0c false s)=[]
  ·rw[a1n _ h0,a1n _ h0]
   refine⟨?_,rfl⟩
   simp[d4l];omega
  ·by_cases he:(a1b szL (s.drop (a0c false s))).e=0
   ·have hd:=b5d s (by simp[h0,he])
    rw[a4r _ h0 he,a4r _ h0 he]
    generalize a1b szL (s.drop (a0c false s))=T at*
    have i:=ih (p+(a0c false s+T.n)) (s.drop (a0c false s+T.n)) om
    rw[show p+q+(a0c false s+T.n)=p+(a0c false s+T.n)+q by omega]
    unfold after
    rw[i.2]
    split
    ·refine⟨?_,i.2⟩
     simp only[List.map_append,i.1,List.map_cons,List.map_nil,d4l]
     congr 2
     simp;omega
    ·exact⟨rfl,i.2⟩
   ·rw[a4g _ h0 he,a4g _ h0 he]
    exact⟨rfl,rfl⟩
end Go.Vm.Lex
namespace Go.Vm.Lex
theorem b8t {a:Nat} {s:List UInt8} (k:Nat) (T:Tk) (h1:a0c false s=k) (h2:a1b szL (s.drop k)=T) (h3:T.e=0) (h:s.drop k≠[]):toks a s=after [⟨T.k,T.t,T.v,a+k,a+k+T.n⟩] (toks (a+(k+T.n)) (s.drop (k+T.n))):=by
 subst h1;subst h2;exact a4r a h h3
theorem c4z (s:List UInt8) (h:∀ c∈s,c.toNat < 128):Val s:=by
 rw[c5x s s.length (by rw[List.take_length];exact h),List.drop_length];exact c1n
theorem d6b {s:List UInt8} (h:s.length<=65536) (hv:Val s):a0l s=toks 0 s:=by
 unfold a0l
 rw[if_neg om,if_neg (by unfold Val at hv;omega)]
theorem e8e (n:Nat):∀ (a:Nat) (s:List UInt8),s.length<=n->(toks a s).1.length<=n+1:=by
 induction n with
 |zero=>
  intro a s h
  have:s=[]:=List.length_eq_zero_iff.1 om
  subst this
  rw[a1n a (by simp)];simp
 |succ n ih=>
  intro a s h
  by_cases h0:s.drop (a0c false s)=[]
  ·rw[a1n a h0];simp
  ·by_cases he:(a1b szL (s.drop (a0c false s))).e=0
   ·have hd:=b5d s (by simp[h0,he])
    rw[a4r a h0 he]
    have:=ih (a+(a0c false s+(a1b szL (s.drop (a0c false s))).n)) (s.drop (a0c false s+(a1b szL (s.drop (a0c false s))).n)) om
    unfold after
    split
    ·simp only[List.length_append,List.length_cons,List.length_nil];omega
    ·simp
   ·rw[a4g a h0 he];simp
theorem d8k (s:List UInt8):(a0l s).1.length<=65537:=by
 unfold a0l
 split
 ·simp
 ·split
  ·simp
  ·exact e8e 65536 0 s om
structure TkA where
 k:Int
 t:List UInt8
 v:Int
 f:Int
 e:Int
theorem d4a {t:List UInt8} (h:t.all c0l=true):a2h t=t.length:=by
 unfold a2h
 induction t with
 |nil=>rfl
 |cons c r ih=>
  simp only[List.all_cons,Bool.and_eq_true]at h
  rw[List.takeWhile_cons,if_pos h.1,List.length_cons,List.length_cons,ih h.2]
theorem e2o {t:List UInt8} (hall:t.all c0l=true) (hne:t≠[]) (hd:isD (hd0 t)=false) (hu:t≠[95]) (hl:t.length<=64):a1b szL t=⟨if b7n t then 2 else 1,t,0,t.length,0⟩:=by
 have hr:=d4a hall
 have hp:=List.length_pos_iff.2 hne
 unfold a1b
 rw[hr,List.take_length,if_neg (by rw[hd];simp),if_pos ⟨hp,hu⟩,if_neg om]
theorem e2c:∀ t∈a9x,(a1b szL t).k=4/\(a1b szL t).t=t/\(a1b szL t).v=0/\(a1b szL t).n=t.length/\(a1b szL t).e=0/\wsB (hd0 t)=false/\hd0 t≠47:=by decide+kernel
theorem c8j:∀ c∈b8i,(a1b szL [c]).k=4/\(a1b szL [c]).t=[c]/\(a1b szL [c]).v=0/\(a1b szL [c]).n=1/\(a1b szL [c]).e=0/\wsB c=false:=by decide+kernel
theorem f0f {T:Tk} {k t v n e} (h1:T.k=k) (h2:T.t=t) (h3:T.v=v) (h4:T.n=n) (h5:T.e=e):T=⟨k,t,v,n,e⟩:=by
 cases T;subst h1;subst h2;subst h3;subst h4;subst h5;rfl
structure Good (k:Int) (t:List UInt8) (v:Int):Prop where
 ne:t≠[]
 low:∀ c∈t,c.toNat < 128
 ws:wsB (hd0 t)=false
 sl:hd0 t=47->t=[47]
 tok:a1b szL t=⟨k,t,if k=3 then v else 0,t.length,0⟩
theorem f2f {c:UInt8} (h:c0l c=true):wsB c=false/\c≠47:=by
 constructor
 ·simp[wsB]
  refine⟨?_,?_,?_,?_⟩<;>rintro rfl<;>exact absurd h (by decide)
 ·rintro rfl;exact absurd h (by decide)
theorem e6p {t:List UInt8} (h:t≠[]):hd0 t∈t:=by
 cases t with
 |nil=>exact absurd rfl h
 |cons c r=>simp[hd0]
theorem f3t {k t v} (h:Good k t v):szL t≠0:=by
 have hl:=h.low _ (e6p h.ne)
 cases t with
 |nil=>exact absurd rfl h.ne
 |cons c r=>rw[d1d (c:=c) hl];decide
def Behind (r:List UInt8):Prop:=r=[]\/∃ q,r=32::q
theorem d9n {k t v} (h:Good k t v) {r:List UInt8} (hr:Behind r):a1b szL (t++r)=⟨k,t,if k=3 then v else 0,t.length,0⟩/\a0c false (t++r)=0:=by
 constructor
 ·rcases hr with rfl|⟨q,rfl⟩
  ·rw[List.append_nil];exact h.tok
  ·rw[d9l e4o q h.ne (f3t h)];exact h.tok
 ·cases t with
  |nil=>exact absurd rfl h.ne
  |cons c s=>
   have hw:wsB c=false:=h.ws
   rw[List.cons_append,a2g,if_neg (by rw[hw];simp),if_neg]
   rintro⟨e,hh⟩
   have:=h.sl e
   have hs:s=[]:=by simpa using congrArg List.tail this
   subst hs
   rcases hr with rfl|⟨q,rfl⟩
   ·simp at hh
   ·simp at hh
def i0i (t:TokQ) (x:TkA):Prop:=t.k=x.k/\t.t=x.t/\t.v=if x.k=3 then x.v else 0
inductive Like:List TokQ->List TkA->Prop
 |nil:Like [] []
 |cons {t:TokQ} {x:TkA} {ts xs}:i0i t x->Like ts xs->Like (t::ts) (x::xs)
theorem Like.length {ts xs} (h:Like ts xs):ts.length=xs.length:=by
 induction h with
 |nil=>rfl
 |cons _ _ ih=>simp[ih]
end Go.Vm.Lex
namespace Go.Vm.Lex
structure Shape (x:TokQ):Prop where
 good:x.k≠5->Good x.k x.t x.v
 k1:x.k=1->b7n x.t=false/\x.t.all c0l=true
 k2:x.k=2->b7n x.t=true
 k3:x.k=3->x.t.all isD=true
 k4:x.k=4->x.t∈a9x\/∃ c∈b8i,x.t=[c]
 k5:x.k=5->x.t=[]
 kk:x.k=1\/x.k=2\/x.k=3\/x.k=4\/x.k=5
 v0:x.k≠3->x.v=0
theorem d4f {s:List UInt8} {n:Nat} (h:0 < n):hd0 (s.take n)=hd0 s:=by
 cases s with
 |nil=>simp
 |cons c r=>
  cases n with
  |zero=>omega
  |succ n=>rfl
theorem g2i {t:List UInt8} (h:t.all c0l=true):∀ c∈t,c.toNat < 128:=fun c hc=>e1s (List.all_eq_true.1 h c hc)
theorem e4j {s:List UInt8} (h:(a1b szL s).e=0) (f e:Nat):Shape ⟨(a1b szL s).k,(a1b szL s).t,(a1b szL s).v,f,e⟩:=by
 have hall:=c9x s
 have hle:=a9p s
 have hlen:(s.take (a2h s)).length=a2h s:=by rw[List.length_take];omega
 have ld:∀ k v,0 < a2h s->a1b szL (s.take (a2h s))=⟨k,s.take (a2h s),if k=3 then v else 0,(s.take (a2h s)).length,0⟩->Good k (s.take (a2h s)) v:=fun k v h0 ht=>by
   have hne:s.take (a2h s)≠[]:=fun e=>by rw[e]at hlen;simp at hlen;omega
   have h1:=f2f (List.all_eq_true.1 hall _ (e6p hne))
   exact⟨hne,g2i hall,h1.1,fun e=>absurd e h1.2,ht⟩
 by_cases c1:0 < a2h s/\isD (hd0 s)=true
 ·by_cases c2:b7y (s.take (a2h s))=true
  ·have e1:a1b szL s=⟨3,s.take (a2h s),b6w (s.take (a2h s)),a2h s,0⟩:=by unfold a1b;rw[if_pos c1,if_pos c2]
   rw[e1]
   have hr2:a2h (s.take (a2h s))=a2h s:=(d4a hall).trans hlen
   have e2:a1b szL (s.take (a2h s))=⟨3,s.take (a2h s),b6w (s.take (a2h s)),a2h s,0⟩:=by
    have ht:(s.take (a2h s)).take (a2h (s.take (a2h s)))=s.take (a2h s):=by rw[hr2,List.take_take,Nat.min_self]
    unfold a1b
    rw[if_pos ⟨by rw[hr2];exact c1.1,by rw[d4f c1.1];exact c1.2⟩,ht,if_pos c2,hr2]
   refine⟨fun _=>ld 3 _ c1.1 (by rw[e2,if_pos rfl,hlen]),by simp,by simp,fun _=>?_,by simp,by simp,by simp,by simp⟩
   simp only[b7y,Bool.and_eq_true]at c2
   exact c2.1
  ·have e1:(a1b szL s).e=112:=by unfold a1b;rw[if_pos c1,if_neg c2]
   rw[e1]at h;cases h
 ·by_cases c2:0 < a2h s/\s.take (a2h s)≠[95]
  ·by_cases c3:64 < a2h s
   ·have e1:(a1b szL s).e=2:=by unfold a1b;rw[if_neg c1,if_pos c2,if_pos c3]
    rw[e1]at h;cases h
   ·have e1:a1b szL s=⟨if b7n (s.take (a2h s)) then 2 else 1,s.take (a2h s),0,a2h s,0⟩:=by unfold a1b;rw[if_neg c1,if_pos c2,if_neg c3]
    rw[e1]
    have hne:s.take (a2h s)≠[]:=fun e=>by rw[e]at hlen;simp at hlen;omega
    have hd:isD (hd0 (s.take (a2h s)))=false:=by
     rw[d4f c2.1]
     cases hh:isD (hd0 s)with
     |false=>rfl
     |true=>exact absurd ⟨c2.1,hh⟩ c1
    have e2:=e2o hall hne hd c2.2 om
    cases hw:b7n (s.take (a2h s))with
    |true=>
     rw[hw]at e2
     exact⟨fun _=>ld 2 0 c2.1 (by simpa using e2),by simp,fun _=>hw,by simp,by simp,by simp,by simp,by simp⟩
    |false=>
     rw[hw]at e2
     exact⟨fun _=>ld 1 0 c2.1 (by simpa using e2),fun _=>⟨hw,hall⟩,by simp,by simp,by simp,by simp,by simp,by simp⟩
  ·by_cases c3:a2l s≠[]
   ·have e1:a1b szL s=⟨4,a2l s,0,(a2l s).length,0⟩:=by unfold a1b;rw[if_neg c1,if_neg c2,if_pos c3]
    rw[e1]
    rcases c5q s with h0|⟨_,h1,h2⟩|⟨h1,h2,h3,h4⟩
    ·exact absurd h0 c3
    ·rw[<-h1]at h2
     obtain⟨q1,q2,q3,q4,q5,q6,q7⟩:=e2c _ h2
     have hl:=(d8j _ h2)
     refine⟨fun _=>⟨c3,hl.2,q6,fun e=>absurd e q7,f0f q1 q2 q3 q4 q5⟩,by simp,by simp,by simp,fun _=> .inl h2,by simp,by simp,by simp⟩
    ·have h5:a2l s=[hd0 s]:=by
      rw[h2]
      cases s with
      |nil=>exact absurd rfl h1
      |cons c r=>rfl
     have q:=c8j _ h3
     rw[h5]
     obtain⟨q1,q2,q3,q4,q5,q6⟩:=q
     refine⟨fun _=>⟨by simp,fun c hc=>?_,q6,fun e=>?_,f0f q1 q2 q3 q4 q5⟩,by simp,by simp,by simp,fun _=> .inr ⟨_,h3,rfl⟩,by simp,by simp,by simp⟩
     ·rw[List.mem_singleton.1 hc];exact d9v _ h3
     ·have:hd0 s=47:=e
      rw[this]
   ·have e1:(a1b szL s).e=111:=by unfold a1b;rw[if_neg c1,if_neg c2,if_neg c3]
    rw[e1]at h;cases h
theorem e3s:∀ (n a:Nat) (s:List UInt8),s.length<=n->∀ x∈(toks a s).1,Shape x:=by
 have hend:∀ f e,Shape ⟨5,[],0,f,e⟩:=fun f e=>⟨by simp,by simp,by simp,by simp,by simp,by simp,by simp,by simp⟩
 intro n
 induction n with
 |zero=>
  intro a s hs x hx
  have e:s=[]:=List.eq_nil_of_length_eq_zero om
  subst e
  rw[a1n a rfl]at hx
  simp only[List.mem_singleton]at hx
  subst hx
  exact hend _ _
 |succ n ih=>
  intro a s hs x hx
  by_cases h0:s.drop (a0c false s)=[]
  ·rw[a1n a h0]at hx
   simp only[List.mem_singleton]at hx
   subst hx
   exact hend _ _
  ·by_cases he:(a1b szL (s.drop (a0c false s))).e=0
   ·have hd:=b5d s (by simp[h0,he])
    rw[a4r a h0 he]at hx
    unfold after at hx
    split at hx
    ·rcases List.mem_append.1 hx with h1|h1
     ·simp only[List.mem_singleton]at h1
      subst h1
      exact e4j he _ _
     ·exact ih _ _ om x h1
    ·cases hx
   ·rw[a4g a h0 he]at hx
    cases hx
theorem c7r {s:List UInt8}:∀ x∈(a0l s).1,Shape x:=by
 intro x hx
 unfold a0l at hx
 split at hx
 ·cases hx
 ·split at hx
  ·cases hx
  ·exact e3s _ _ _ (Nat.le_refl _) x hx
end Go.Vm.Lex
namespace Go.Vm.Pa
open Go.Vm.Lex (TokQ a0l)
abbrev S0:PS:=⟨0,0,[],0,0,0,0⟩
theorem lokT {src:S} (h:(a0l src).2.c=0):LOk (a0l src).1:=by
 have ht:=f1q h
 have all:∀ i,(a0l src).1.getD i default=default\/Lex.Shape ((a0l src).1.getD i default):=fun i=>by
   rw[List.getD_eq_getElem?_getD]
   cases c:(a0l src).1[i]? with
   |none=>exact .inl rfl
   |some x=>exact .inr (Lex.c7r x (List.mem_of_getElem? c))
 refine⟨by have:=ht.len;omega,fun i=>by have:=ht.txt i;omega,ht.last,fun i hk hm=>?_,fun i hk hm=>?_,fun i hk hm=>?_⟩
 ·rcases all i with e|s
  ·rw[e]at hk;cases hk
  ·obtain⟨h1,h2⟩:=s.k1 hk
   revert h1 h2 hm
   generalize((a0l src).1.getD i default).t=t
   intro hm
   simp only[f9a,List.mem_cons,List.not_mem_nil,or_false]at hm
   rcases hm with rfl|rfl|rfl|rfl|rfl<;>decide
 ·rcases all i with e|s
  ·rw[e]at hk;cases hk
  ·have h1:=s.k2 hk
   revert h1 hm
   generalize((a0l src).1.getD i default).t=t
   intro hm
   simp only[e2f,List.mem_cons,List.not_mem_nil,or_false]at hm
   rcases hm with rfl|rfl|rfl|rfl|rfl|rfl|rfl|rfl|rfl|rfl|rfl|rfl|rfl|rfl|rfl|rfl<;>decide
 ·rcases all i with e|s
  ·rw[e]at hk;cases hk
  ·have h1:=s.k4 hk
   revert h1 hm
   generalize((a0l src).1.getD i default).t=t
   intro hm
   simp only[List.mem_cons,List.not_mem_nil,or_false]at hm
   rintro(h1|⟨c,_,h1⟩)
   ·revert h1
    rcases hm with rfl|rfl|rfl<;>decide
   ·rcases hm with rfl|rfl|rfl<;>exact absurd (congrArg List.length h1) (by simp)
theorem c5d {s:S}:∀ {l:List TokQ} {a:Nat},Lex.Chain s a l->(∀ i,i < l.length->(l.getD i default).f<=(l.getD i default).e/\(l.getD i default).e<=s.length/\a<=(l.getD i default).f)/\∀ i,i+1 < l.length->(l.getD i default).e<=(l.getD (i+1) default).f
 |[],_,_=>⟨fun i hi=>by simp at hi,fun i hi=>by simp at hi⟩
 |x::r,a,h=>by
  obtain⟨h1,h2,h3,_,_,_,h7⟩:=h
  obtain⟨i1,i2⟩:=c5d h7
  refine⟨fun i hi=>?_,fun i hi=>?_⟩
  ·cases i with
   |zero=>exact⟨h2,h3,h1⟩
   |succ i=>
    have:=i1 i (by simpa using hi)
    simp only[List.getD_cons_succ]
    omega
  ·cases i with
   |zero=>
    have:=i1 0 (by simpa using hi)
    simp only[List.getD_cons_succ,List.getD_cons_zero]
    omega
   |succ i=>
    simp only[List.getD_cons_succ]
    exact i2 i (by simpa using hi)
theorem plcT {src:S} (h:(a0l src).2.c=0):Plc (a0l src).1:=by
 obtain⟨_,_,_,hc,_,_⟩:=Lex.a6g src h
 obtain⟨h1,h2⟩:=c5d hc
 exact⟨fun i hi=>(h1 i hi).1,h2⟩
theorem e5o {src:S} (h:(a0l src).2.c=0) (i:Nat):((a0l src).1.getD i default).f<=((a0l src).1.getD i default).e/\((a0l src).1.getD i default).e<=src.length:=by
 obtain⟨_,_,_,hc,_,_⟩:=Lex.a6g src h
 obtain⟨h1,_⟩:=c5d hc
 by_cases hi:i < (a0l src).1.length
 ·exact⟨(h1 i hi).1,(h1 i hi).2.1⟩
 ·rw[List.getD_eq_getElem?_getD,List.getElem?_eq_none om]
  exact⟨Nat.le_refl _,Nat.zero_le _⟩
def e8s (l:List TokQ) (x:EX):Prop:=∀ c f e,x= .bad c f e->(c=120\/c=121)/\∃ i:Nat,f=(l.getD i default).f/\e=(l.getD i default).e
section
variable {l:List TokQ}
theorem f0b {g:Q->PS->Option EX} (hg:∀ q s x,g q s=some x->e8s l x):∀ (p:Pr) (s:PS) (x:EX),a0a l g p s=some x->e8s l x:=by
 have hb:∀ (c:Int) (s:PS) (x:EX),c=120\/c=121->c9y l c s=some x->e8s l x:=fun c s x hc h=>by
   simp only[c9y,Option.some.injEq]at h
   subst h
   rintro c' f e h
   simp only[EX.bad.injEq]at h
   obtain⟨rfl,rfl,rfl⟩:=h
   exact⟨hc,s.at_.toNat,rfl,rfl⟩
 intro p
 induction p with
 |ret r=>intro s x h;simp only[a0a,Option.some.injEq]at h;subst h;intro c f e h;cases h
 |dead=>intro s x h;cases h
 |tail q=>intro s x h;exact hg q s x h
 |fail k ih=>intro s x h;exact hb 120 s x (.inl rfl) h
 |take y k ih=>intro s x h;simp only[a0a]at h;split at h<;>exact ih _ _ _ h
 |need y k ih=>intro s x h;simp only[a0a]at h;split at h<;>first|exact ih _ _ h|exact hb 120 s x (.inl rfl) h
 |name k ih=>intro s x h;simp only[a0a]at h;split at h<;>first|exact ih _ _ _ h|exact hb 120 s x (.inl rfl) h
 |is y k ih=>intro s x h;exact ih _ _ _ h
 |ok k ih=>intro s x h;exact ih _ _ _ h
 |kind y k ih=>intro s x h;exact ih _ _ _ h
 |text y k ih=>intro s x h;exact ih _ _ _ h
 |val k ih=>intro s x h;exact ih _ _ _ h
 |sign y k ih=>intro s x h;exact ih _ _ _ h
 |pos k ih=>intro s x h;exact ih _ _ _ h
 |down k ih=>intro s x h;exact ih _ _ h
 |adv k ih=>intro s x h;simp only[a0a]at h;split at h<;>first|exact ih _ _ h|cases h
 |into y k ih=>
  intro s x h
  simp only[a0a]at h
  split at h
  ·split at h
   ·exact hb 121 s x (.inr rfl) h
   ·exact ih _ _ _ h
  ·exact hb 120 s x (.inl rfl) h
 |node fr n k ih=>intro s x h;simp only[a0a]at h;split at h<;>first|exact ih _ _ _ h|cases h
 |unit k ih=>intro s x h;simp only[a0a]at h;split at h<;>first|exact ih _ _ _ h|cases h
 |call q k ih=>
  intro s x h
  simp only[a0a]at h
  split at h
  ·split at h
   ·exact ih _ _ _ h
   ·cases h
  ·exact hg _ _ _ h
theorem d3e:∀ (n:Nat) (q:Q) (s:PS) (x:EX),goE l n q s=some x->e8s l x
 |0,_,_,_,h=>by cases h
 |n+1,q,s,x,h=>f0b (fun q s x=>d3e n q s x) (prog q) s x h
end
def c2c (l:List TokQ):Option EX->Option EX
 |some (.ok r s1)=>match okS l s1 && okK r.ks && decide (s1.ns.length=s1.n) && decide (s1.n < 1000000)with
  |true=>some (.ok (rI (w (((s1.n+1:Nat):Int) - 1))) {s1 with n:=s1.n+1,ns:=s1.ns++[N.D ⟨1,[],0,r.ks.l⟩ 0 (now l s1).e]})
  |false=>none
 |x=>x
inductive Ru where
 |crate|expr|typ|pat
def Ru.q:Ru->Q
 | .crate=> .items K.o
 | .expr=> .expr false
 | .typ=> .typ
 | .pat=> .pattern
def Ru.run (l:List TokQ) (n:Nat):Ru->Option EX
 | .crate=>c2c l (goE l n (.items K.o) S0)
 | .expr=>goE l n (.expr false) S0
 | .typ=>goE l n .typ S0
 | .pat=>goE l n .pattern S0
theorem b6r {l:List TokQ} {o o':Option EX} (h:∀ x,o=some x->o'=some x):∀ x,c2c l o=some x->c2c l o'=some x:=by
 intro x hx
 cases o with
 |none=>cases hx
 |some y=>rw[h y rfl];exact hx
theorem Ru.mono {l:List TokQ} {n m:Nat} (hm:n<=m):∀ {u:Ru} {x:EX},u.run l n=some x->u.run l m=some x
 | .crate,x,h=>b6r (fun _ e=>a5s hm e) x h
 | .expr,_,h=>a5s hm h
 | .typ,_,h=>a5s hm h
 | .pat,_,h=>a5s hm h
theorem Ru.uniq {l:List TokQ} {n m:Nat} {u:Ru} {x y:EX} (h:u.run l n=some x) (h':u.run l m=some y):x=y:=by
 have h1:=Ru.mono (Nat.le_max_left n m) h
 have h2:=Ru.mono (Nat.le_max_right n m) h'
 exact Option.some.inj (h1.symm.trans h2)
structure Whole (l:List TokQ) (u:Ru) (s1:PS) (T:Fo):Prop where
 ok:okS l s1=true
 ns:s1.ns=T.lay 0
 n:s1.n=T.sz
 sz:T.sz<=1000000
 one:∃ k t v f e W,T= .cons k t v f e W .nil/\(u= .crate->k=1/\t=[]/\v=0/\f=0/\e=(now l s1).e)
 wi:T.wi 0 (eAt l l.length)
theorem g1q {l:List TokQ} (ht:TOk l) (hne:0 < l.length) (u:Ru):∃ r s1,go l (64*l.length+20) u.q S0=some (r,s1)/\Post l u.q S0 r s1:=by
 have hlen:=ht.len
 have p:Pre l u.q S0:=by
  refine⟨by show(0:Int)<=0;omega,by show(0:Int) < l.length;omega,⟨rfl,[],rfl,fun x hx=>by cases hx⟩,⟨fun _=>?_,fun h=>absurd rfl h⟩,fun _=>rfl,?_⟩
  ·show((0:Nat):Int)+15* ((l.length:Int) - 0)+(cQ u.q:Int)<=999990
   cases u<;>simp only[Ru.q,cQ]<;>omega
  ·cases u<;>first|trivial|exact⟨a6c _,by show((0:Nat):Int)<=0+3;omega,fun _=>by show((0:Nat):Int)<=0+2;omega⟩
 have m:Mu l u.q S0 (64*l.length+20):=by
  refine⟨fun _=>?_,fun h=>absurd rfl h⟩
  show 64* ((l.length:Int) - 0)+1+rQ u.q < ((64*l.length+20:Nat):Int)
  cases u<;>simp only[Ru.q,rQ]<;>omega
 exact e7v ht _ _ _ p m
theorem e3p {W:Fo} {n:Nat} {i:Int} (h:W.idx n=[.int .i64 i]):∃ k t v f e K,W= .cons k t v f e K .nil/\i=((n+K.sz:Nat):Int):=by
 cases W with
 |nil=>cases h
 |cons k t v f e a b=>
  simp only[Fo.idx,List.cons.injEq,D.int.injEq,true_and]at h
  obtain⟨h1,h2⟩:=h
  cases b with
  |nil=>exact⟨k,t,v,f,e,a,rfl,h1.symm⟩
  |cons _ _ _ _ _ _ _=>cases h2
theorem e7e {src:S} (h:(a0l src).2.c=0) (u:Ru):∃ n x,u.run (a0l src).1 n=some x/\e8s (a0l src).1 x/\∀ r s1,x= .ok r s1->∃ T,Whole (a0l src).1 u s1 T:=by
 have ht:=f1q h
 have hl:=lokT h
 have hp:=plcT h
 have hne:0 < (a0l src).1.length:=List.length_pos_iff.2 (Lex.a6g src h).2.2.2.2.1
 obtain⟨l,hll⟩:∃ l,(a0l src).1=l:=⟨_,rfl⟩
 rw[hll]at ht hl hp hne⊢
 have hlen:=ht.len
 obtain⟨r,s1,hg,P⟩:=g1q ht hne u
 have hal:=e1o _ _ _ _ _ hg rfl
 have hbad:=fun x=>d3e (l:=l) (64*l.length+20) u.q S0 x
 have hhi:=P.hi
 obtain⟨p1,p2,p3,p4,p5⟩:=P.num
 have hat:0<=s1.at_:=p1
 have ho:okS l s1=true:=by unfold okS;rw[decide_eq_true hat,decide_eq_true hhi];rfl
 by_cases hb:s1.bc=0
 ·have hE:=hal.1 hb
  have hn:s1.n<=990000:=by
   have:=p5 rfl
   simp only[show S0.at_=0 from rfl,show S0.n=0 from rfl]at this
   have hc:cQ u.q<=3:=by cases u<;>decide
   omega
  have sk:=g9p hl hp _ u.q S0 r s1 .nil 0 (by unfold okS;rw[decide_eq_true (show(0:Int)<=S0.at_ from Int.le_refl _),decide_eq_true (show S0.at_ < (l.length:Int)by show(0:Int) < _;omega)];rfl) (by
    refine⟨Int.le_refl _,?_⟩
    cases u<;>first|exact Int.le_refl _|exact⟨rfl,fun fr hf=>by cases hf⟩) (by cases u<;>exact⟨.nil,rfl,rfl,rfl,trivial⟩) hE
  obtain⟨W,w1,w2,w3,w4⟩:=sk
  have w1:s1.ns=W.lay 0:=w1
  have w2:s1.n=W.sz:=w2
  have w3:W.idx 0=(b5r u.q).fin r:=w3
  have h0f:(0:Int)<=fAt l 0:=by unfold fAt;omega
  have hle:eAt l s1.at_<=eAt l l.length:=b8s hp om (Int.le_refl _) hne
  have single:∀ (hu:(b5r u.q).fin r=[.int .i64 r.i]) (hu2:u≠ .crate),∃ T,Whole l u s1 T:=fun hu hu2=>by
    obtain⟨k,t,v,f,e,K,hW,_⟩:=e3p (w3.trans hu)
    exact⟨W,ho,w1,w2,om,⟨k,t,v,f,e,K,hW,fun hh=>absurd hh hu2⟩,Fo.b7w h0f hle w4⟩
  cases u with
  |crate=>
   obtain⟨⟨k1,il,k2,k3⟩,k4⟩:=P.rk
   have ck:okK r.ks=true:=by unfold okK;rw[decide_eq_true k1,decide_eq_true om];rfl
   refine⟨64*l.length+20,.ok (rI (w (((s1.n+1:Nat):Int) - 1))) {s1 with n:=s1.n+1,ns:=s1.ns++[N.D ⟨1,[],0,r.ks.l⟩ 0 (now l s1).e]},by
     show c2c l (goE l (64*l.length+20) (.items K.o) S0)=_
     rw[show goE l (64*l.length+20) (.items K.o) S0=_ from hE]
     simp only[c2c,ho,ck,decide_eq_true P.ns.1,decide_eq_true (show s1.n < 1000000 by omega),Bool.and_self],fun c f e hh=>(by cases hh),fun r' s' hh=>?_⟩
   simp only[EX.ok.injEq]at hh
   obtain⟨rfl,rfl⟩:=hh
   refine⟨.cons 1 [] 0 0 (now l s1).e W .nil,ho,?_,?_,?_,⟨_,_,_,_,_,_,rfl,fun _=>⟨rfl,rfl,rfl,rfl,rfl⟩⟩,?_⟩
   ·show s1.ns++[_]=_
    rw[w1]
    simp only[Fo.lay]
    rw[w3]
    rfl
   ·show s1.n+1=_
    rw[w2]
    rfl
   ·show W.sz+1+0<=_
    omega
   ·have e1:((now l s1).e:Int)=eAt l (s1.at_+1):=by unfold eAt now;rw[Int.add_sub_cancel]
    refine⟨Int.le_refl _,om,?_,?_,trivial⟩
    ·rw[e1];exact b8s hp om (Int.le_refl _) hne
    ·exact Fo.b7w h0f (by rw[e1];exact b8s hp om om hne) w4
  |expr=>exact⟨64*l.length+20,.ok r s1,hE,(fun c f e hh=>by cases hh),fun r' s' hh=>by cases hh;exact single rfl (by simp)⟩
  |typ=>exact⟨64*l.length+20,.ok r s1,hE,(fun c f e hh=>by cases hh),fun r' s' hh=>by cases hh;exact single rfl (by simp)⟩
  |pat=>exact⟨64*l.length+20,.ok r s1,hE,(fun c f e hh=>by cases hh),fun r' s' hh=>by cases hh;exact single rfl (by simp)⟩
 ·have hE:=hal.2 hb
  have hB:=hbad _ hE
  cases u with
  |crate=>
   refine⟨64*l.length+20,.bad s1.bc s1.bf s1.be,by
     show c2c l (goE l (64*l.length+20) (.items K.o) S0)=_
     rw[show goE l (64*l.length+20) (.items K.o) S0=_ from hE]
     rfl,hB,fun r' s' hh=>by cases hh⟩
  |expr=>exact⟨64*l.length+20,.bad s1.bc s1.bf s1.be,hE,hB,fun r' s' hh=>by cases hh⟩
  |typ=>exact⟨64*l.length+20,.bad s1.bc s1.bf s1.be,hE,hB,fun r' s' hh=>by cases hh⟩
  |pat=>exact⟨64*l.length+20,.bad s1.bc s1.bf s1.be,hE,hB,fun r' s' hh=>by cases hh⟩
end Go.Vm.Pa
namespace Go.Vm.Pa
open Go.Vm.Pk (Nd a2v)
def Fo.ix (n:Nat):Fo->List Nat
 | .nil=>[]
 | .cons _ _ _ _ _ a b=>(n+a.sz)::b.ix (n+a.sz+1)
def Fo.nds (n:Nat):Fo->List Nd
 | .nil=>[]
 | .cons k t v f e a b=>a.nds n++⟨k,t,v,a.ix n,f,e⟩::b.nds (n+a.sz+1)
theorem Fo.e5k:∀ (a:Fo) (n:Nat),a.idx n=(a.ix n).map fun k:Nat=>D.int .i64 (k:Int)
  | .nil,_=>rfl
  | .cons _ _ _ _ _ a b,n=>by simp only[Fo.idx,Fo.ix,List.map_cons,Fo.e5k b]
theorem Fo.c5a:∀ (a:Fo) (n:Nat),a.lay n=(a.nds n).map Nd.D
 | .nil,_=>rfl
 | .cons k t v f e a b,n=>by
   simp only[Fo.lay,Fo.nds,List.map_append,List.map_cons,Fo.c5a a,Fo.c5a b]
   rw[Fo.e5k]
   rfl
theorem Fo.a6m:∀ (a:Fo) (n:Nat),(a.nds n).length=a.sz
 | .nil,_=>rfl
 | .cons _ _ _ _ _ a b,n=>by simp only[Fo.nds,List.length_append,List.length_cons,Fo.a6m a,Fo.a6m b,Fo.sz];omega
theorem Fo.c2z:∀ (a:Fo) (n:Nat),(a.ix n).length<=a.sz/\∀ k∈a.ix n,n<=k/\k < n+a.sz
 | .nil,_=>⟨Nat.le_refl _,fun k hk=>by cases hk⟩
 | .cons _ _ _ _ _ a b,n=>by
   obtain⟨h1,h2⟩:=Fo.c2z b (n+a.sz+1)
   simp only[Fo.ix,Fo.sz,List.length_cons,List.mem_cons]
   refine⟨om,?_⟩
   rintro k (rfl|hk)
   ·omega
   ·have:=h2 k hk;omega
theorem Fo.e8v:∀ (a:Fo) (n j:Nat) (nd:Nd),(a.nds n)[j]? =some nd->nd.ks.length<=j/\∀ k∈nd.ks,n<=k/\k < n+j
 | .nil,_,_,_,h=>by simp[Fo.nds]at h
 | .cons k t v f e a b,n,j,nd,h=>by
   simp only[Fo.nds]at h
   have hl:=Fo.a6m a n
   by_cases h1:j < a.sz
   ·rw[List.getElem?_append_left om]at h
    exact Fo.e8v a n j nd h
   ·rw[List.getElem?_append_right om,hl]at h
    by_cases h2:j=a.sz
    ·subst h2
     rw[Nat.sub_self]at h
     simp only[List.getElem?_cons_zero,Option.some.injEq]at h
     subst h
     exact Fo.c2z a n
    ·obtain⟨m,hm⟩:∃ m,j - a.sz=m+1:=⟨j - a.sz - 1,om⟩
     rw[hm,List.getElem?_cons_succ]at h
     obtain⟨q1,q2⟩:=Fo.e8v b (n+a.sz+1) m nd h
     refine⟨om,fun k hk=>?_⟩
     have:=q2 k hk
     omega
def d4y (T:Fo) (len:Nat):Fo×Int×Int×Int:=if 20000 < T.sz then(.nil,2,0,len) else if 400 < a2v (T.nds 0) then(.nil,121,0,len) else(T,0,0,0)
end Go.Vm.Pa
namespace Go.Vm.Px
open Go.Vm.Lex (TokQ a0l a5z dgD)
open Go.Vm.Pa hiding go
open Go.Vm.Pk (Nd a2v)
open Go.Vm.Ite
open Go Go.Proofs Go.RowKit
def d5p (W:Fo):D:=c2b (W.nds 0)
def OutX (l:List TokQ) (u:Ru) (len:Nat):EX->Fo->Int->Int->Int->Prop
 | .bad c0 f0 e0,W,c,f,e=>W= .nil/\c=c0/\f=f0/\e=e0/\(c0=120\/c0=121)/\∃ i:Nat,f0=(l.getD i default).f/\e0=(l.getD i default).e
 | .ok _ s1,W,c,f,e=> ∃ T,Whole l u s1 T/\if(now l s1).k=5 then(W,c,f,e)=d4y T len else W= .nil/\c=120/\f=(now l s1).f/\e=(now l s1).e
def f5a (u:Ru) (src:S) (W:Fo) (c f e:Int):Prop:=
 (65536 < src.length/\W= .nil/\c=2/\f=0/\e=0)\/
 (src.length<=65536/\(a0l src).2.c≠0/\W= .nil/\c=(a0l src).2.c/\f=(a0l src).2.f/\e=(a0l src).2.e)\/
 (src.length<=65536/\(a0l src).2.c=0/\∃ n x,u.run (a0l src).1 n=some x/\OutX (a0l src).1 u src.length x W c f e)
def g8b:Ru->Nat
 | .crate=>21
 | .expr=>22
 | .typ=>37
 | .pat=>39
theorem d4q (l:List TokQ) (o:Option EX):b6c l o=c2c l o:=by
 cases o with
 |none=>rfl
 |some x=>cases x<;>rfl
section
variable {fx:Nat->Option Obj}
theorem e9b (T:Fo) (len:Nat):d7z (T.nds 0) len= .tup [.d (d5p (d4y T len).1),.d (dgD (d4y T len).2.1 (d4y T len).2.2.1 (d4y T len).2.2.2)]:=by
 unfold d7z d4y
 rw[Fo.a6m]
 split
 ·rfl
 ·split<;>rfl
theorem f7p {T:Fo} (h1:T.sz<=1000000) (h2:T≠ .nil):e7n (T.nds 0):=by
 refine⟨fun e=>h2 ?_,by rw[Fo.a6m];exact h1,fun j nd hj=>?_⟩
 ·cases T with
  |nil=>rfl
  |cons _ _ _ _ _ a b=>simp[Fo.nds]at e
 ·have hlt:=(List.getElem?_eq_some_iff.1 hj).1
  rw[Fo.a6m]at hlt
  obtain⟨q1,q2⟩:=Fo.e8v T 0 j nd hj
  exact⟨om,fun k hk=>by have:=q2 k hk;omega⟩
theorem b4u (X:e0r fx) (u:Ru) (src:S):∃ W c f e,f5a u src W c f e/\∀ H,a1x Tryz.prog ⟨fun _=>[],fx⟩ 20 [.d (.str src),.fn (g8b u) []] H (.tup [.d (d5p W),.d (dgD c f e)]) H:=by
  by_cases h1:65536 < src.length
  ·exact⟨.nil,2,0,0,.inl ⟨h1,rfl,rfl,rfl,rfl⟩,fun H=>d9s X src _ (by decide) (.inl ⟨h1,rfl,rfl,rfl⟩) H⟩
  by_cases hc:(a0l src).2.c=0
  rotate_left
  ·exact⟨.nil,(a0l src).2.c,(a0l src).2.f,(a0l src).2.e,.inr (.inl ⟨om,hc,rfl,rfl,rfl,rfl⟩),fun H=>d9s X src _ hc (.inr ⟨om,rfl,rfl,rfl⟩) H⟩
  obtain⟨n,x,hrun,hbad,hok⟩:=e7e hc u
  have hne:0 < (a0l src).1.length:=List.length_pos_iff.2 (Go.Vm.Lex.a6g src hc).2.2.2.2.1
  have A:AtP (H7 (a0l src).1 (a0l src).2.c (a0l src).2.f (a0l src).2.e P0) 3 4 (a0l src).1 P0 false:=⟨by decide,rfl,rfl⟩
  have G:Good (a0l src).1 P0:=⟨lokT hc,by unfold okS;rw[decide_eq_true (show(0:Int)<=P0.at_ from Int.le_refl _),decide_eq_true (show P0.at_ < ((a0l src).1.length:Int)by show(0:Int) < _;omega)];rfl,rfl,rfl,rfl⟩
  have hs:∀ s1,c8c (H7 (a0l src).1 (a0l src).2.c (a0l src).2.f (a0l src).2.e P0) 3 4 (a0l src).1 s1 false=H7 (a0l src).1 (a0l src).2.c (a0l src).2.f (a0l src).2.e s1:=fun _=>rfl
  cases x with
  |bad c f e=>
   obtain⟨q1,q2⟩:=hbad c f e rfl
   have hd:b1l Tryz.prog ⟨fun _=>[],fx⟩ (KP 3) e6v (g8b u) [.ptr 3 0] (H7 (a0l src).1 (a0l src).2.c (a0l src).2.f (a0l src).2.e P0) (c4y c f e):=by
     cases u with
     |crate=>
      refine e3h (n:=n) G A ?_
      rw[d4q]
      exact b6r (fun y hy=>a5s (Nat.le_succ n) hy) _ hrun
     |expr=>exact c5u (n:=n) (q:= .expr false) rfl G A hrun
     |typ=>exact c5u (n:=n) (q:= .typ) rfl G A hrun
     |pat=>exact c5u (n:=n) (q:= .pattern) rfl G A hrun
   exact⟨.nil,c,f,e,.inr (.inr ⟨om,hc,n,_,hrun,rfl,rfl,rfl,rfl,q1,q2⟩),fun H=>d9f X src _ om hc (c9f hd (by show 3 < 6;decide)) H⟩
  |ok r s1=>
   obtain⟨T,hT⟩:=hok r s1 rfl
   have hf:∃ v,a1x Tryz.prog ⟨fun _=>[],fx⟩ (g8b u) [.ptr 3 0] (H7 (a0l src).1 (a0l src).2.c (a0l src).2.f (a0l src).2.e P0) v (c8c (H7 (a0l src).1 (a0l src).2.c (a0l src).2.f (a0l src).2.e P0) 3 4 (a0l src).1 s1 false):=by
     cases u with
     |crate=>
      refine⟨_,f3l (n:=n) (R:=r) G A ?_⟩
      rw[d4q]
      exact b6r (fun y hy=>a5s (Nat.le_succ n) hy) _ hrun
     |expr=>exact⟨_,d5j (n:=n) (q:= .expr false) (.inl rfl) rfl G A hrun⟩
     |typ=>exact⟨_,d5j (n:=n) (q:= .typ) (.inr (.inl rfl)) rfl G A hrun⟩
     |pat=>exact⟨_,d5j (n:=n) (q:= .pattern) (.inr (.inr rfl)) rfl G A hrun⟩
   obtain⟨v,hf⟩:=hf
   by_cases h5:(now (a0l src).1 s1).k=5
   ·have hr:=c9x A hf hT.ok h5
    have hTn:T≠ .nil:=by obtain⟨_,_,_,_,_,_,rfl,_⟩:=hT.one;simp
    refine⟨(d4y T src.length).1,(d4y T src.length).2.1,(d4y T src.length).2.2.1,(d4y T src.length).2.2.2,.inr (.inr ⟨om,hc,n,_,hrun,T,hT,?_⟩),fun H=>?_⟩
    ·rw[if_pos h5]
    ·rw[<-e9b]
     exact e9y X src _ om hc (hT.ns.trans (Fo.c5a T 0)) (hT.n.trans (Fo.a6m T 0).symm) (f7p hT.sz hTn) hr H
   ·have hr:=f6w A hf hT.ok h5
    refine⟨.nil,120,(now (a0l src).1 s1).f,(now (a0l src).1 s1).e,.inr (.inr ⟨om,hc,n,_,hrun,T,hT,?_⟩),fun H=>d9f X src _ om hc hr H⟩
    rw[if_neg h5]
    exact⟨rfl,rfl,rfl,rfl⟩
end
end Go.Vm.Px
namespace Go.Vm.Px
open Go.Vm.Lex (TokQ a0l a5z dgD)
open Go.Vm.Pa hiding go
open Go.Vm.Pk (Nd a2v)
open Go.Vm.Ite
open Go Go.Proofs Go.RowKit
def h6t:Nat->Option Ru
 |21=>some .crate
 |22=>some .expr
 |37=>some .typ
 |39=>some .pat
 |_=>none
theorem g4i {n:Nat} {u:Ru} (h:h6t n=some u):n=g8b u:=by
 unfold h6t at h
 split at h<;>cases h<;>rfl
section
variable {fx:Nat->Option Obj} (X:e0r fx)
noncomputable def rdW (u:Ru) (s:S):Fo:=(b4u X u s).choose
noncomputable def rdC (u:Ru) (s:S):Int:=(b4u X u s).choose_spec.choose
noncomputable def rdF (u:Ru) (s:S):Int:=(b4u X u s).choose_spec.choose_spec.choose
noncomputable def rdE (u:Ru) (s:S):Int:=(b4u X u s).choose_spec.choose_spec.choose_spec.choose
theorem b0r (u:Ru) (s:S):f5a u s (rdW X u s) (rdC X u s) (rdF X u s) (rdE X u s):=(b4u X u s).choose_spec.choose_spec.choose_spec.choose_spec.1
noncomputable def rdV (u:Ru) (s:S):V:= .tup [.d (d5p (rdW X u s)),.d (dgD (rdC X u s) (rdF X u s) (rdE X u s))]
noncomputable def c8q:List V->Hp->Option (V×Hp)
 |[.d (.str s),.fn n []],H=>(h6t n).map fun u=>(rdV X u s,H)
 |_,_=>none
noncomputable def FW:Nat->Option a1j
 |20=>some (.prim (c8q X))
 |n=>FL n
theorem i1f:∀ f e,FW X f=some e->match e with| .prim p=> ∀ args H r H',p args H=some (r,H')->a1x Tryz.prog ⟨fun _=>[],fx⟩ f args H r H'| .code _=>False:=by
  intro f e h
  unfold FW at h
  split at h
  ·cases h
   intro args H r H' hh
   unfold c8q at hh
   split at hh
   ·rename_i H0 s n
    cases hr:h6t n with
    |none=>rw[hr]at hh;cases hh
    |some u=>
     rw[hr]at hh
     cases hh
     rw[g4i hr]
     exact(b4u X u s).choose_spec.choose_spec.choose_spec.choose_spec.2 _
   ·cases hh
  ·exact h0v X f e h
theorem tblW:a3g Tryz.prog (pgL fx (FW X)):=f3i ⟨fun _=>[],fx⟩ (FW X) (i1f X)
instance:HL (FW X):=⟨rfl,rfl,rfl,rfl⟩
theorem e5p (u:Ru) (s:S) (H:Hp):evF (pgL fx (FW X)) 20 [.d (.str s),.fn (g8b u) []] H=some (rdV X u s,H):=by
 rw[b1z (show(pgL fx (FW X)).tbl 20=some (.prim (c8q X))from rfl)]
 cases u<;>rfl
theorem c3i (s:S) (H:Hp):evF (pgL fx (FW X)) d0e [.d (.str s)] H=some (rdV X .crate s,H):=by
 refine b2d (c8v (F:=FW X)) rfl rfl ?_ H
 have h:=e5p X .crate s
 repeat' (first|refine run ⟨?_⟩|refine ca (h _) ?_|fail)
 exact rfl
theorem d0t (s:S) (H:Hp):evF (pgL fx (FW X)) d3y [.d (.str s)] H=some (rdV X .expr s,H):=by
 refine b2d (d3n (F:=FW X)) rfl rfl ?_ H
 have h:=e5p X .expr s
 repeat' (first|refine run ⟨?_⟩|refine ca (h _) ?_|fail)
 exact rfl
end
end Go.Vm.Px
namespace Go.Vm.Lex
def e9v:Nat->Nat->List UInt8->List TokQ×Dg
 |0,_,_=>([],Dg.ok)
 |n+1,a,s=>match s.drop (a0c false s)with
  |[]=>([⟨5,[],0,a+s.length,a+s.length⟩],Dg.ok)
  |c::r=>match a1b szL (c::r)with
   |⟨k,t,v,m,e⟩=>if e=0 then after [⟨k,t,v,a+a0c false s,a+a0c false s+m⟩] (e9v n (a+(a0c false s+m)) (s.drop (a0c false s+m))) else toks a s
theorem f7c:∀ (n a:Nat) (s:List UInt8),s.length < n->toks a s=e9v n a s
 |0,_,_,h=>om
 |n+1,a,s,h=>by
  cases hd:s.drop (a0c false s)with
  |nil=>rw[a1n a hd];unfold e9v;rw[hd]
  |cons c r=>
   unfold e9v
   rw[hd]
   simp only
   by_cases he:(a1b szL (s.drop (a0c false s))).e=0
   ·have h1:=b5d s (by simp[hd];rw[<-hd];exact he)
    rw[a4r a (by rw[hd];simp) he,f7c n _ _ om]
    rw[hd]at he⊢
    rw[if_pos he]
   ·rw[hd]at he
    rw[if_neg he]
theorem f8n {n:Nat} {s:List UInt8} (h:(∀ c∈s,c.toNat < 128)) (h1:s.length<=65536) (hn:s.length < n):a0l s=e9v n 0 s:=by
 rw[d6b h1 (c4z s h),f7c n 0 s hn]
end Go.Vm.Lex
namespace Go.Vm.Px
open Go.Vm.Lex (TokQ a0l a5z dgD Dg)
open Go.Vm.Pa hiding go
open Go.Vm.Pk (Nd a2v)
open Go.Vm.Ite
open Go Go.Proofs Go.RowKit
theorem h0y {nds:List Nd} (h:e7n nds):a2v nds<=nds.length:=by
 have h0:0 < nds.length:=List.length_pos_iff.2 h.ne
 have:=(Go.Vm.Pk.e9i (ks:=Go.Vm.Pk.b2z nds) (len:=nds.length) (fun j hj k hk=>by
   have e:nds[j]? =some nds[j]:=List.getElem?_eq_getElem hj
   have e2:Go.Vm.Pk.b2z nds j=nds[j].ks:=by simp[Go.Vm.Pk.b2z,e]
   rw[e2]at hk
   exact(h.kid j _ e).2 k hk) h0 (Go.Vm.Pk.back nds.length nds.length)).2
 rw[Go.Vm.Pk.c6p]at this
 exact this
theorem e3g {T:Fo} {len:Nat} (h:T.sz<=400) (hn:T≠ .nil):d4y T len=(T,0,0,0):=by
 have:=h0y (f7p (T:=T) om hn)
 rw[Fo.a6m]at this
 unfold d4y
 rw[if_neg om,if_neg om]
theorem _root_.Go.Vm.Pa.Whole.ne {l:List TokQ} {u:Ru} {s1:PS} {T:Fo} (h:Whole l u s1 T):T≠ .nil:=by
 obtain⟨_,_,_,_,_,_,rfl,_⟩:=h.one
 simp
theorem f1k {u:Ru} {src:S} {W:Fo} {c f e:Int} (h:f5a u src W c f e) {l:List TokQ} (h1:src.length<=65536) (h2:a0l src=(l,Dg.ok)) {n:Nat} {r:R} {s1:PS} (h3:u.run l n=some (.ok r s1)) (h4:(now l s1).k=5) (h5:s1.n<=400):W.lay 0=s1.ns/\c=0/\f=0/\e=0:=by
 rcases h with⟨q,_⟩|⟨_,q,_⟩|⟨_,_,n',x,hx,ho⟩
 ·omega
 ·rw[h2]at q;exact absurd rfl q
 ·rw[h2]at hx ho
  obtain rfl:=Ru.uniq h3 hx
  obtain⟨T,hT,ho⟩:=ho
  rw[if_pos h4,e3g (by have:=hT.n;omega) hT.ne]at ho
  cases ho
  exact⟨hT.ns.symm,rfl,rfl,rfl⟩
theorem e4t {u:Ru} {src:S} {W:Fo} {c f e:Int} (h:f5a u src W c f e) {l:List TokQ} (h1:src.length<=65536) (h2:a0l src=(l,Dg.ok)) {n:Nat} {c0 f0 e0:Int} (h3:u.run l n=some (.bad c0 f0 e0)):W= .nil/\c=c0/\f=f0/\e=e0:=by
 rcases h with⟨q,_⟩|⟨_,q,_⟩|⟨_,_,n',x,hx,ho⟩
 ·omega
 ·rw[h2]at q;exact absurd rfl q
 ·rw[h2]at hx ho
  obtain rfl:=Ru.uniq h3 hx
  exact⟨ho.1,ho.2.1,ho.2.2.1,ho.2.2.2.1⟩
def g1g:S:=[49,32,43,32,50,32,42,32,51]
def g3v:S:=[102,110,32,109,97,105,110,40,41,32,123,32,49,32,43,32,125]
def h0w:List TokQ:=[⟨3,[49],1,0,1⟩,⟨4,[43],0,2,3⟩,⟨3,[50],2,4,5⟩,⟨4,[42],0,6,7⟩,⟨3,[51],3,8,9⟩,⟨5,[],0,9,9⟩]
def g9f:List TokQ:=[⟨2,[102,110],0,0,2⟩,⟨1,[109,97,105,110],0,3,7⟩,⟨4,[40],0,7,8⟩,⟨4,[41],0,8,9⟩,⟨4,[123],0,10,11⟩,⟨3,[49],1,12,13⟩,⟨4,[43],0,14,15⟩,⟨4,[125],0,16,17⟩,⟨5,[],0,17,17⟩]
theorem lex1:a0l g1g=(h0w,Dg.ok):=by
 rw[Go.Vm.Lex.f8n (n:=30) (by decide) (by decide) (by decide)]
 kernel_rfl
theorem lex2:a0l g3v=(g9f,Dg.ok):=by
 rw[Go.Vm.Lex.f8n (n:=30) (by decide) (by decide) (by decide)]
 kernel_rfl
def nds1:List D:=[N.D ⟨30,[],1,[]⟩ 0 1,N.D ⟨30,[],2,[]⟩ 4 5,N.D ⟨30,[],3,[]⟩ 8 9,N.D ⟨38,[42],0,[.int .i64 1,.int .i64 2]⟩ 4 9,N.D ⟨38,[43],0,[.int .i64 0,.int .i64 3]⟩ 0 9]
theorem run1:Ru.expr.run h0w 60=some (.ok (rI 4) ⟨5,0,nds1,5,0,0,0⟩):=kr
theorem run2:Ru.crate.run g9f 60=some (.bad 120 16 17):=kr
section
variable {fx:Nat->Option Obj} (X:e0r fx)
theorem b8u (H:Hp):evF (pgL fx (FW X)) c7g [] H=some (boo true,H):=by
 have r1:=b0r X .expr g1g
 have r2:=b0r X .crate g3v
 have p1:=fun H=>d0t X g1g H
 have p2:=fun H=>c3i X g3v H
 unfold rdV at p1 p2
 revert r1 r2 p1 p2
 generalize rdW X .expr g1g=W1
 generalize rdC X .expr g1g=c1
 generalize rdF X .expr g1g=f1
 generalize rdE X .expr g1g=e1
 generalize rdW X .crate g3v=W2
 generalize rdC X .crate g3v=c2
 generalize rdF X .crate g3v=f2
 generalize rdE X .crate g3v=e2
 intro r1 r2 p1 p2
 obtain⟨q1,rfl,rfl,rfl⟩:=f1k r1 (by decide) lex1 run1 rfl (by decide)
 obtain⟨rfl,rfl,rfl,rfl⟩:=e4t r2 (by decide) lex2 run2
 have ht:d5p W1= .agg [.sl nds1]:=by unfold d5p c2b;rw[<-Fo.c5a,q1]
 rw[ht]at p1
 refine b2d (c7j (F:=FW X)) rfl rfl ?_ H
 repeat' (first|refine run ⟨?_⟩|refine ca (p1 _) ?_|refine ca (p2 _) ?_|fail)
 exact rfl
end
end Go.Vm.Px
namespace Go.Vm.Px
open Go.Vm.Lex (TokQ a0l a5z dgD Dg)
open Go.Vm.Ite
open Go.Vm.Tp (Nd c0y)
abbrev f1x (l:List Int):List V:=l.map fun n=>i64 n
theorem d5g {l:List Int} {i:Nat} (h:i < l.length):(f1x l)[0+i*1]? =some (i64 (l.getD i 0)):=by
 rw[Nat.zero_add,Nat.mul_one,List.getElem?_map,List.getElem?_eq_getElem h];simp[h]
theorem f6u {l:List Int} {i:Nat} (h:i < l.length) (n:Int):putAt (f1x l) i [i64 n]=f1x (l.set i n):=e7i (fun n=>i64 n) h
theorem e3q {t:List Nd} {i:Nat} (h:i < t.length):0<=(i:Int)/\(t.map Nd.D)[(i:Int).toNat]? =some (t.getD i default).D:=⟨om,by
  rw[Int.toNat_natCast,List.getElem?_map,List.getElem?_eq_getElem h]
  simp[List.getD_eq_getElem?_getD,List.getElem?_eq_getElem h]⟩
theorem f4t {l:List Int} {j:Nat} (h:j < l.length):0<=(j:Int)/\(l.map (D.int .i64))[(j:Int).toNat]? =some (.int .i64 (l.getD j 0)):=⟨om,by
  rw[Int.toNat_natCast,List.getElem?_map,List.getElem?_eq_getElem h]
  simp[List.getD_eq_getElem?_getD,List.getElem?_eq_getElem h]⟩
def a9y:List Int->List Int->List Int
 |[],tb=>tb
 |k::r,tb=>a9y r (tb.set k.toNat (IntKind.i64.wrap (tb.getD k.toNat 0+1)))
def a5x:List Nd->List Int->List Int
 |[],tb=>tb
 |x::r,tb=>a5x r (a9y x.kids tb)
theorem b4v:∀ (l tb:List Int),(a9y l tb).length=tb.length
 |[],_=>rfl
 |k::r,tb=>by rw[a9y,b4v r,List.length_set]
theorem b5g:∀ (l:List Nd) (tb:List Int),(a5x l tb).length=tb.length
 |[],_=>rfl
 |x::r,tb=>by rw[a5x,b5g r,b4v]
def b8p (l:List Int) (j:Nat):Int:=if j=0 then -1 else l.getD (j - 1) 0
structure Ord (t:List Nd):Prop where
 len:t.length<=1000000
 kl:∀ i,i < t.length->(t.getD i default).kids.length<=1000000
 kid:∀ i,i < t.length->∀ j,j < (t.getD i default).kids.length->b8p (t.getD i default).kids j < (t.getD i default).kids.getD j 0/\(t.getD i default).kids.getD j 0 < i
 last:∀ i,i < t.length->0 < (t.getD i default).kids.length->b8p (t.getD i default).kids (t.getD i default).kids.length=i - 1
 seen:∀ i,i < t.length->(a5x t (List.replicate t.length 0)).getD i 0=if i+1 < t.length then 1 else 0
theorem d9h {l:List Int} {b:Int} (h:∀ j,j < l.length->b8p l j < l.getD j 0/\l.getD j 0 < b):∀ j,j<=l.length-> -1<=b8p l j
 |0,_=>by simp[b8p]
 |j+1,hj=>by
  have h1:=d9h h j om
  have h2:=(h j om).1
  simp only[b8p,Nat.add_sub_cancel]
  rw[if_neg om]
  omega
section
variable {fx:Nat->Option Obj} {F:Nat->Option a1j} (H:Hp)
set_option maxHeartbeats 4000000 in
theorem b1c (t:List Nd) (O:Ord t):evF (pgL fx F) c6k [.d (c0y t)] H=some (boo true,H):=by
 refine b2d (c4k (F:=F)) rfl rfl ?_ H
 have hl:=O.len
 have hnl:(t.map Nd.D).length=t.length:=List.length_map ..
 have hmsl:0<=((t.map Nd.D).length:Int)/\roomy ((t.map Nd.D).length:Int).toNat 8:=⟨om,by unfold roomy;omega⟩
 obtain⟨S,hS⟩:∃ S,a5x t (List.replicate t.length 0)=S:=⟨_,rfl⟩
 have hSl:S.length=t.length:=by rw[<-hS,b5g,List.length_replicate]
 have hseen:=O.seen
 rw[hS]at hseen
 repeat' (first|refine run ⟨?_⟩|refine And.intro hmsl ?_|fail)
 refine b3k (α:=Nat×List Int) (fun a=>t.length - a.1) (fun a=>[(1,.ptr 0 0),(3,.arr 1 0 t.length),(4,i64 (a.1:Int))]) (fun a=>[.box [.d (.sl (t.map Nd.D))],.box (f1x a.2)])
   (fun a=>a.1<=t.length/\a.2.length=t.length/\a5x (t.drop a.1) a.2=S) ?_ (0,List.replicate t.length 0) ⟨Nat.zero_le _,by simp,by rw[List.drop_zero];exact hS⟩ ?_ ?_
 ·rintro⟨i,tb⟩ ⟨hi,htl,hd⟩
  simp only at hi htl hd⊢
  by_cases hlt:i < t.length
  ·have h1:(i:Int) < ((t.map Nd.D).length:Int):=om
   have pn:=e3q hlt
   have hkids:=O.kid i hlt
   have hlast:=O.last i hlt
   have hkl:=O.kl i hlt
   rw[List.drop_eq_getElem_cons hlt,show t[i]=t.getD i default by simp[List.getD_eq_getElem?_getD,List.getElem?_eq_getElem hlt],a5x]at hd
   generalize t.getD i default=x at pn hkids hlast hd hkl
   have hkn:(x.kids.map (D.int .i64)).length=x.kids.length:=List.length_map ..
   repeat' (first|refine run ⟨?_⟩|refine b2t pn ?_|fail)
   refine b3k (α:=Nat×List Int) (fun a=>x.kids.length - a.1) (fun a=>[(1,.ptr 0 0),(3,.arr 1 0 t.length),(4,i64 (i:Int)),(5,.ptr 2 0),(6,i64 (b8p x.kids a.1)),(7,i64 (a.1:Int))]) (fun a=>[.box [.d (.sl (t.map Nd.D))],.box (f1x a.2),.box [i64 x.k,.d (.str x.t),i64 x.v,.d (.sl (x.kids.map (D.int .i64))),i64 x.f,i64 x.e]])
     (fun a=>a.1<=x.kids.length/\a.2.length=t.length/\a9y (x.kids.drop a.1) a.2=a9y x.kids tb) ?_ (0,tb) ⟨Nat.zero_le _,htl,by rw[List.drop_zero]⟩ ?_ rfl
   ·rintro⟨j,tc⟩ ⟨hj,htc,hkd⟩
    simp only at hj htc hkd⊢
    by_cases hlt2:j < x.kids.length
    ·have h2:(j:Int) < ((x.kids.map (D.int .i64)).length:Int):=om
     obtain⟨q1,q2⟩:=hkids j hlt2
     have q0:=d9h hkids j hj
     have pk:=f4t hlt2
     have hlk:b8p x.kids (j+1)=x.kids.getD j 0:=by simp[b8p]
     rw[List.drop_eq_getElem_cons hlt2,show x.kids[j]=x.kids.getD j 0 by simp[List.getD_eq_getElem?_getD,List.getElem?_eq_getElem hlt2],a9y]at hkd
     generalize x.kids.getD j 0=kk at q1 q2 pk hlk hkd
     have hc1:¬ kk<=b8p x.kids j:=om
     have hc2:¬ (i:Int)<=kk:=om
     have hkt:kk.toNat < tc.length:=om
     have pk2:0<=kk/\kk.toNat < t.length:=om
     repeat' (first|refine run ⟨?_⟩|refine b2t pk ?_|refine And.intro pk2 ?_|refine d0d (d5g hkt) ?_|fail)
     refine g8u (by simp;omega) ?_
     have hput:putAt (f1x tc) (0+kk.toNat*1) [i64 (IntKind.i64.wrap (tc.getD kk.toNat 0+1))]=f1x (tc.set kk.toNat (IntKind.i64.wrap (tc.getD kk.toNat 0+1))):=by rw[Nat.zero_add,Nat.mul_one,f6u hkt]
     have hst:∀ {k:List V->Prop},k (f1x (tc.set kk.toNat (IntKind.i64.wrap (tc.getD kk.toNat 0+1))))->a1g (putAt (f1x tc) (0+kk.toNat*1) [i64 (IntKind.i64.wrap (tc.getD kk.toNat 0+1))]) k:=fun hk=>by rw[a0o,hput];exact hk
     refine hst ?_
     refine run ⟨?_⟩
     exact⟨(j+1,_),⟨by show j+1<=_;omega,by simp[htc],hkd⟩,by show _ - (j+1) < _ - j;omega,by rw[a2x (n:=(j:Int)+1) om,hlk];rfl,rfl⟩
    ·have h2:¬ (j:Int) < ((x.kids.map (D.int .i64)).length:Int):=om
     have hj':j=x.kids.length:=om
     subst hj'
     rw[List.drop_length,a9y]at hkd
     subst hkd
     by_cases hz:0 < x.kids.length
     ·have h3:(0:Int) < ((x.kids.map (D.int .i64)).length:Int):=om
      have h4:=hlast hz
      have h5:(!decide (b8p x.kids x.kids.length=IntKind.i64.wrap ((i:Int) - 1)))=false:=by rw[a2x om,decide_eq_true h4];rfl
      refine run ⟨?_⟩
      exact⟨(i+1,_),⟨by show i+1<=_;omega,htc,hd⟩,by show _ - (i+1) < _ - i;omega,by rw[a2x (n:=(i:Int)+1) om];rfl,rfl⟩
     ·have h3:¬ (0:Int) < ((x.kids.map (D.int .i64)).length:Int):=om
      refine run ⟨?_⟩
      exact⟨(i+1,_),⟨by show i+1<=_;omega,htc,hd⟩,by show _ - (i+1) < _ - i;omega,by rw[a2x (n:=(i:Int)+1) om];rfl,rfl⟩
   ·rfl
  ·have h1:¬ (i:Int) < ((t.map Nd.D).length:Int):=om
   have hi':i=t.length:=om
   subst hi'
   rw[List.drop_length,a5x]at hd
   subst hd
   refine run ⟨?_⟩
   refine b3k (α:=Nat) (fun a=>t.length - a) (fun a=>[(3,.arr 1 0 t.length),(8,i64 (a:Int))]) (fun _=>[.box [.d (.sl (t.map Nd.D))],.box (f1x tb)]) (fun a=>a<=t.length) ?_ 0 (Nat.zero_le _) ?_ rfl
   ·intro m hm
    by_cases hlt:m < t.length
    ·have h1:(m:Int) < (t.length:Int):=om
     have hs:=hseen m hlt
     have hmt:m < tb.length:=om
     have pm:0<=(m:Int)/\(m:Int).toNat < t.length:=om
     have hw1:IntKind.i64.wrap ((t.length:Int) - 1)=(t.length:Int) - 1:=a2x om
     by_cases hz:m+1 < t.length
     ·rw[if_pos hz]at hs
      have e1:(!decide (tb.getD m 0=1))=false:=by rw[decide_eq_true hs];rfl
      have e2:(!decide (tb.getD m 0=0))=true:=by rw[decide_eq_false om];rfl
      have e3:¬ (m:Int)=IntKind.i64.wrap ((t.length:Int) - 1):=om
      repeat' (first|refine run ⟨?_⟩|refine And.intro pm ?_|refine d0d (d5g hmt) ?_|fail)
      exact⟨m+1,by show m+1<=_;omega,by show _ - (m+1) < _ - m;omega,by rw[a2x (n:=(m:Int)+1) om];rfl,rfl⟩
     ·rw[if_neg hz]at hs
      have e1:(!decide (tb.getD m 0=1))=true:=by rw[decide_eq_false om];rfl
      have e2:(!decide (tb.getD m 0=0))=false:=by rw[decide_eq_true hs];rfl
      have e3:¬ (m:Int) < IntKind.i64.wrap ((t.length:Int) - 1):=om
      repeat' (first|refine run ⟨?_⟩|refine And.intro pm ?_|refine d0d (d5g hmt) ?_|fail)
      exact⟨m+1,by show m+1<=_;omega,by show _ - (m+1) < _ - m;omega,by rw[a2x (n:=(m:Int)+1) om];rfl,rfl⟩
    ·have h1:¬ (m:Int) < (t.length:Int):=om
     refine run ⟨?_⟩
     exact rfl
   ·rfl
 ·show[_,(3,V.arr 1 0 ((t.map Nd.D).length:Int).toNat),_]=_
  rw[hnl];rfl
 ·show[_,Ob.box (List.replicate ((t.map Nd.D).length:Int).toNat _)]=_
  simp[hnl]
end
end Go.Vm.Px
namespace Go.Vm.Pa
open Go.Vm.Px (a9y a5x b8p Ord b4v b5g)
open Go.Vm.Tp (Nd c0y)
def Fo.tn (n:Nat):Fo->List Nd
 | .nil=>[]
 | .cons k t v f e a b=>a.tn n++⟨k,t,v,(a.ix n).map fun k:Nat=>(k:Int),f,e⟩::b.tn (n+a.sz+1)
theorem Fo.d4n:∀ (a:Fo) (n:Nat),a.lay n=(a.tn n).map Nd.D
 | .nil,_=>rfl
 | .cons k t v f e a b,n=>by
   simp only[Fo.lay,Fo.tn,List.map_append,List.map_cons,Fo.d4n a,Fo.d4n b]
   rw[Fo.e5k]
   simp only[N.D,Nd.D,List.map_map]
   rfl
theorem Fo.a8w:∀ (a:Fo) (n:Nat),(a.tn n).length=a.sz
 | .nil,_=>rfl
 | .cons _ _ _ _ _ a b,n=>by simp only[Fo.tn,List.length_append,List.length_cons,Fo.a8w a,Fo.a8w b,Fo.sz];omega
theorem Fo.d0m:∀ (F:Fo) (n j:Nat) (nd:Nd),(F.tn n)[j]? =some nd->∃ (a:Fo) (m:Nat),nd.kids=(a.ix m).map (fun k:Nat=>(k:Int))/\m+a.sz=n+j/\n<=m
  | .nil,_,_,_,h=>by simp[Fo.tn]at h
  | .cons k t v f e a b,n,j,nd,h=>by
    simp only[Fo.tn]at h
    have hl:=Fo.a8w a n
    by_cases h1:j < a.sz
    ·rw[List.getElem?_append_left om]at h
     exact Fo.d0m a n j nd h
    ·rw[List.getElem?_append_right om,hl]at h
     by_cases h2:j=a.sz
     ·subst h2
      rw[Nat.sub_self]at h
      simp only[List.getElem?_cons_zero,Option.some.injEq]at h
      subst h
      exact⟨a,n,rfl,rfl,Nat.le_refl _⟩
     ·obtain⟨m,hm⟩:∃ m,j - a.sz=m+1:=⟨j - a.sz - 1,om⟩
      rw[hm,List.getElem?_cons_succ]at h
      obtain⟨c,p,q1,q2,q3⟩:=Fo.d0m b (n+a.sz+1) m nd h
      exact⟨c,p,q1,om,om⟩
theorem Fo.g7n:∀ (a:Fo) (n j:Nat),j+1 < (a.ix n).length->(a.ix n).getD j 0 < (a.ix n).getD (j+1) 0
 | .nil,_,_,h=>by simp[Fo.ix]at h
 | .cons _ _ _ _ _ a b,n,j,h=>by
   simp only[Fo.ix,List.length_cons]at h⊢
   cases j with
   |zero=>
    have hm:(b.ix (n+a.sz+1)).getD 0 0∈b.ix (n+a.sz+1):=by
     rw[List.getD_eq_getElem?_getD,List.getElem?_eq_getElem om];exact List.getElem_mem _
    have:=((Fo.c2z b (n+a.sz+1)).2 _ hm).1
    simp only[List.getD_cons_zero,List.getD_cons_succ]
    omega
   |succ j=>
    simp only[List.getD_cons_succ]
    exact Fo.g7n b _ j om
theorem Fo.e5j:∀ (a:Fo) (n:Nat),0 < (a.ix n).length->(a.ix n).getD ((a.ix n).length - 1) 0+1=n+a.sz
 | .nil,_,h=>by simp[Fo.ix]at h
 | .cons k t v f e a b,n,_=>by
   simp only[Fo.ix,List.length_cons,Nat.add_sub_cancel,Fo.sz]
   cases hb:(b.ix (n+a.sz+1)).length with
   |zero=>
    have:b= .nil:=by
     cases b with
     |nil=>rfl
     |cons _ _ _ _ _ _ _=>simp[Fo.ix]at hb
    subst this
    simp only[List.getD_cons_zero,Fo.sz];omega
   |succ m=>
    have:=Fo.e5j b (n+a.sz+1) om
    rw[hb,Nat.add_sub_cancel]at this
    rw[List.getD_cons_succ]
    omega
theorem Fo.d9t:∀ (a:Fo) (n:Nat),(a.ix n).Nodup
 | .nil,_=>List.nodup_nil
 | .cons _ _ _ _ _ a b,n=>by
   simp only[Fo.ix,List.nodup_cons]
   exact⟨fun h=>by have:=((Fo.c2z b _).2 _ h).1;omega,Fo.d9t b _⟩
theorem w01:IntKind.i64.wrap (0+1)=1:=by decide
theorem d8o {l:List Int} {k i:Nat} {v:Int} (h:k < l.length):(l.set k v).getD i 0=if i=k then v else l.getD i 0:=by
 simp only[List.getD_eq_getElem?_getD,List.getElem?_set]
 by_cases e:k=i
 ·subst e;simp[h]
 ·rw[if_neg e,if_neg (fun h=>e h.symm)]
theorem e5w:∀ (ks:List Nat) (tb:List Int),ks.Nodup->(∀ k∈ks,k < tb.length/\tb.getD k 0=0)->∀ i,(a9y (ks.map fun k:Nat=>(k:Int)) tb).getD i 0=if i∈ks then 1 else tb.getD i 0
  |[],tb,_,_,i=>by simp[a9y]
  |k::r,tb,hn,h,i=>by
   obtain⟨h1,h2⟩:=List.nodup_cons.1 hn
   obtain⟨h3,h4⟩:=h k (by simp)
   simp only[List.map_cons,a9y,Int.toNat_natCast,h4,w01]
   rw[e5w r _ h2 (fun k' hk'=>?_) i]
   ·rw[d8o h3]
    simp only[List.mem_cons]
    by_cases e:i=k
    ·subst e;simp
    ·simp[e]
   ·obtain⟨h5,h6⟩:=h k' (by simp[hk'])
    rw[List.length_set,d8o h3,if_neg (fun e:k'=k=>h1 (by rw[<-e];exact hk'))]
    exact⟨h5,h6⟩
theorem c7o:∀ (l m:List Nd) (tb:List Int),a5x (l++m) tb=a5x m (a5x l tb)
 |[],_,_=>rfl
 |x::r,m,tb=>by simp only[List.cons_append,a5x,c7o r m]
theorem Fo.seen:∀ (F:Fo) (n:Nat) (tb:List Int),n+F.sz<=tb.length->(∀ i,n<=i->i < n+F.sz->tb.getD i 0=0)->∀ i,(a5x (F.tn n) tb).getD i 0=if n<=i/\i < n+F.sz/\i∉F.ix n then 1 else tb.getD i 0
 | .nil,n,tb,_,_,i=>by
   rw[if_neg (by show ¬ (n<=i/\i < n+0/\_);omega)]
   rfl
 | .cons k t v f e a b,n,tb,hl,h0,i=>by
   simp only[Fo.sz]at hl h0
   simp only[Fo.tn,c7o,a5x,Fo.sz,Fo.ix]
   have la:(a5x (a.tn n) tb).length=tb.length:=b5g _ _
   have ha:=Fo.seen a n tb om fun i h1 h2=>h0 i h1 om
   have hb1:=e5w (a.ix n) (a5x (a.tn n) tb) (Fo.d9t a n) fun k hk=>by
     have h1:=(Fo.c2z a n).2 k hk
     refine⟨om,?_⟩
     rw[ha,if_neg (fun h=>h.2.2 hk)]
     exact h0 k h1.1 om
   have lb:(a9y ((a.ix n).map fun k:Nat=>(k:Int)) (a5x (a.tn n) tb)).length=tb.length:=(b4v _ _).trans la
   have hx:∀ i,(a9y ((a.ix n).map fun k:Nat=>(k:Int)) (a5x (a.tn n) tb)).getD i 0=if n<=i/\i < n+a.sz then 1 else tb.getD i 0:=fun i=>by
     rw[hb1,ha]
     by_cases c1:i∈a.ix n
     ·have h1:=(Fo.c2z a n).2 i c1
      rw[if_pos c1,if_pos h1]
     ·rw[if_neg c1]
      by_cases c2:n<=i/\i < n+a.sz
      ·rw[if_pos c2,if_pos ⟨c2.1,c2.2,c1⟩]
      ·rw[if_neg c2,if_neg (fun h=>c2 ⟨h.1,h.2.1⟩)]
   rw[Fo.seen b (n+a.sz+1) _ om (fun i h1 h2=>by
     rw[hx,if_neg om]
     exact h0 i om om) i,hx]
   simp only[List.mem_cons,not_or]
   by_cases c1:n<=i/\i < n+a.sz
   ·rw[if_neg om,if_pos c1,if_pos ⟨c1.1,om,om,fun hm=>by have:=((Fo.c2z b _).2 _ hm).1;omega⟩]
   ·rw[if_neg c1]
    by_cases c2:n+a.sz+1<=i/\i < n+a.sz+1+b.sz/\i∉b.ix (n+a.sz+1)
    ·rw[if_pos c2,if_pos ⟨om,om,om,c2.2.2⟩]
    ·rw[if_neg c2,if_neg (fun h=>c2 ⟨om,om,h.2.2.2⟩)]
theorem c2j {F:Fo} {n i:Nat} (h:i < (F.tn n).length):(F.tn n)[i]? =some ((F.tn n).getD i default):=by
 rw[List.getD_eq_getElem?_getD,List.getElem?_eq_getElem h];rfl
theorem d0g (l:List Nat) (j:Nat):(l.map fun k:Nat=>(k:Int)).getD j 0=((l.getD j 0:Nat):Int):=by
  simp only[List.getD_eq_getElem?_getD,List.getElem?_map]
  cases l[j]? <;>rfl
theorem h0g {T:Fo} {k:Int} {t:S} {v f e:Int} {K:Fo} (hT:T= .cons k t v f e K .nil) (hs:T.sz<=1000000):Ord (T.tn 0):=by
 have hl:(T.tn 0).length=T.sz:=Fo.a8w T 0
 have ks:∀ i,i < (T.tn 0).length->∃ (a:Fo) (m:Nat),((T.tn 0).getD i default).kids=(a.ix m).map (fun k:Nat=>(k:Int))/\m+a.sz=i:=fun i hi=>by
   obtain⟨a,m,h1,h2,_⟩:=Fo.d0m T 0 i _ (c2j hi)
   exact⟨a,m,h1,om⟩
 refine⟨om,fun i hi=>?_,fun i hi j hj=>?_,fun i hi hp=>?_,fun i hi=>?_⟩
 ·obtain⟨a,m,h1,h2⟩:=ks i hi
  rw[h1,List.length_map]
  have:=(Fo.c2z a m).1
  omega
 ·obtain⟨a,m,h1,h2⟩:=ks i hi
  rw[h1]at hj⊢
  rw[List.length_map]at hj
  have hm:(a.ix m).getD j 0∈a.ix m:=by
   rw[List.getD_eq_getElem?_getD,List.getElem?_eq_getElem hj];exact List.getElem_mem _
  have h3:=(Fo.c2z a m).2 _ hm
  rw[d0g]
  refine⟨?_,om⟩
  unfold b8p
  by_cases c:j=0
  ·rw[if_pos c];omega
  ·rw[if_neg c,d0g]
   have:=Fo.g7n a m (j - 1) om
   rw[show j - 1+1=j by omega]at this
   omega
 ·obtain⟨a,m,h1,h2⟩:=ks i hi
  rw[h1,List.length_map]at hp⊢
  unfold b8p
  rw[if_neg om,d0g]
  have:=Fo.e5j a m hp
  omega
 ·have hr:∀ i,(List.replicate (T.tn 0).length (0:Int)).getD i 0=0:=fun i=>by
    rw[List.getD_eq_getElem?_getD,List.getElem?_replicate]
    split<;>rfl
  have:=Fo.seen T 0 (List.replicate (T.tn 0).length 0) (by rw[List.length_replicate];omega) (fun i _ _=>hr i) i
  rw[this]
  rw[hr]
  have hix:T.ix 0=[T.sz - 1]:=by
   subst hT
   simp[Fo.ix,Fo.sz]
  rw[hix]
  by_cases c:i+1 < (T.tn 0).length
  ·rw[if_pos c,if_pos ⟨om,om,by simp;omega⟩]
  ·rw[if_neg c,if_neg (fun h=>h.2.2 (by simp;omega))]
end Go.Vm.Pa
namespace Go.Vm.Px
open Go.Vm.Lex (TokQ a0l a5z dgD Dg)
open Go.Vm.Pa hiding go
open Go.Vm.Ite
open Go.Vm.Tp (Nd c0y)
structure Bad (s:S) (W:Fo) (c f e:Int):Prop where
 c:c≠0
 W:W= .nil
 f0:0<=f
 fe:f<=e
 el:e<=s.length
structure Read (u:Ru) (s:S) (W:Fo) (c f e:Int):Prop where
 c:c=0
 f:f=0
 e:e=0
 sz:W.sz<=20000
 one:∃ k t v f e K,W= .cons k t v f e K .nil/\(u= .crate->k=1/\t=[]/\v=0/\f=0)
 wi:W.wi 0 s.length
 hl:s.length<=65536
theorem h2s {s:S} (h:(a0l s).2.c=0) (i:Int):eAt (a0l s).1 i<=s.length:=by
 unfold eAt
 have:=(e5o h (i - 1).toNat).2
 omega
theorem b4y {u:Ru} {s:S} {W:Fo} {c f e:Int} (h:f5a u s W c f e):Bad s W c f e\/Read u s W c f e:=by
 rcases h with⟨_,rfl,rfl,rfl,rfl⟩|⟨h1,h2,rfl,rfl,rfl,rfl⟩|⟨h1,h2,n,x,_,ho⟩
 ·exact .inl ⟨by decide,rfl,Int.le_refl _,Int.le_refl _,om⟩
 ·have:=(Go.Vm.Lex.d5k s h2).2
  exact .inl ⟨h2,rfl,om,om,om⟩
 ·cases x with
  |bad c0 f0 e0=>
   obtain⟨rfl,rfl,rfl,rfl,hc,i,hf,he⟩:=ho
   have:=e5o h2 i
   exact .inl ⟨om,rfl,om,om,om⟩
  |ok r s1=>
   obtain⟨T,hT,ho⟩:=ho
   split at ho
   ·unfold d4y at ho
    split at ho
    ·cases ho
     exact .inl ⟨by decide,rfl,Int.le_refl _,om,om⟩
    ·split at ho
     ·cases ho
      exact .inl ⟨by decide,rfl,Int.le_refl _,om,om⟩
     ·rename_i hn _
      cases ho
      obtain⟨k,t,v,f,e,K,hW,hu⟩:=hT.one
      exact .inr ⟨rfl,rfl,rfl,om,⟨k,t,v,f,e,K,hW,fun h=>by obtain⟨a,b,c,d,_⟩:=hu h;exact⟨a,b,c,d⟩⟩,Fo.b7w (Int.le_refl _) (h2s h2 _) hT.wi,h1⟩
   ·obtain⟨rfl,rfl,rfl,rfl⟩:=ho
    have:=e5o h2 s1.at_.toNat
    exact .inl ⟨by decide,rfl,by unfold now;omega,by unfold now;omega,by unfold now;omega⟩
theorem c3f (W:Fo):d5p W=c0y (W.tn 0):=by
 unfold d5p c2b c0y
 rw[<-Fo.c5a,Fo.d4n]
theorem c0h {u:Ru} {s:S} {W:Fo} {c f e:Int} (h:Read u s W c f e):Ord (W.tn 0):=by
 obtain⟨k,t,v,f,e,K,hW,_⟩:=h.one
 exact h0g hW (by have:=h.sz;omega)
section
variable {fx:Nat->Option Obj} (X:e0r fx)
theorem e9q (s:S) (H:Hp):evF (pgL fx (FW X)) b7t [.d (.str s)] H=some (boo true,H):=by
 have p1:=fun H=>c3i X s H
 have p2:=fun H=>d0t X s H
 have sp:=fun H=>b8u X H
 have r1:=b4y (b0r X .crate s)
 have r2:=b4y (b0r X .expr s)
 unfold rdV at p1 p2
 revert r1 r2 p1 p2
 generalize rdW X .crate s=W1
 generalize rdC X .crate s=c1
 generalize rdF X .crate s=f1
 generalize rdE X .crate s=e1
 generalize rdW X .expr s=W2
 generalize rdC X .expr s=c2
 generalize rdF X .expr s=f2
 generalize rdE X .expr s=e2
 intro p1 p2 r1 r2
 rw[c3f]at p1 p2
 refine b2d (b6y (F:=FW X)) rfl rfl ?_ H
 rcases r1 with r1|r1<;>rcases r2 with r2|r2
 ·obtain rfl:=r1.W
  obtain rfl:=r2.W
  have n1:(!decide (c1=0))=true:=by rw[decide_eq_false r1.c];rfl
  have n2:(!decide (c2=0))=true:=by rw[decide_eq_false r2.c];rfl
  repeat' (first|refine run ⟨?_⟩|refine ca (p1 _) ?_|refine ca (p2 _) ?_|refine ca (sp _) ?_|fail)
  exact rfl
 ·obtain rfl:=r1.W
  obtain rfl:=r2.c
  have n1:(!decide (c1=0))=true:=by rw[decide_eq_false r1.c];rfl
  have o2:=fun H=>b1c (fx:=fx) (F:=FW X) H _ (c0h r2)
  repeat' (first|refine run ⟨?_⟩|refine ca (p1 _) ?_|refine ca (p2 _) ?_|refine ca (sp _) ?_|refine ca (o2 _) ?_|fail)
  exact rfl
 ·obtain rfl:=r2.W
  obtain rfl:=r1.c
  have n2:(!decide (c2=0))=true:=by rw[decide_eq_false r2.c];rfl
  have o1:=fun H=>b1c (fx:=fx) (F:=FW X) H _ (c0h r1)
  repeat' (first|refine run ⟨?_⟩|refine ca (p1 _) ?_|refine ca (p2 _) ?_|refine ca (sp _) ?_|refine ca (o1 _) ?_|fail)
  exact rfl
 ·obtain rfl:=r1.c
  obtain rfl:=r2.c
  have o1:=fun H=>b1c (fx:=fx) (F:=FW X) H _ (c0h r1)
  have o2:=fun H=>b1c (fx:=fx) (F:=FW X) H _ (c0h r2)
  repeat' (first|refine run ⟨?_⟩|refine ca (p1 _) ?_|refine ca (p2 _) ?_|refine ca (sp _) ?_|refine ca (o1 _) ?_|refine ca (o2 _) ?_|fail)
  exact rfl
end
end Go.Vm.Px
namespace Go.Vm.Pa
open Go.Vm.Tp (Nd c0y)
theorem Fo.roots:∀ (F:Fo) (n:Nat) (lo hi:Int),F.wi lo hi->∀ k∈F.ix n,∃ y,(F.tn n)[k - n]? =some y/\lo<=y.f/\y.f<=y.e/\y.e<=hi
 | .nil,_,_,_,_,k,hk=>by cases hk
 | .cons kk t v f e a b,n,lo,hi,h,k,hk=>by
   obtain⟨h1,h2,h3,h4,h5⟩:=h
   have hl:=Fo.a8w a n
   simp only[Fo.ix,List.mem_cons]at hk
   simp only[Fo.tn]
   rcases hk with rfl|hk
   ·rw[Nat.add_sub_cancel_left,List.getElem?_append_right om,hl,Nat.sub_self]
    exact⟨_,rfl,h1,h2,h3⟩
   ·obtain⟨y,q1,q2⟩:=Fo.roots b (n+a.sz+1) lo hi h5 k hk
    have:=((Fo.c2z b _).2 k hk).1
    rw[List.getElem?_append_right om,hl,show k - n - a.sz=(k - (n+a.sz+1))+1 by omega,List.getElem?_cons_succ]
    exact⟨y,q1,q2⟩
theorem Fo.within:∀ (F:Fo) (n:Nat) (lo hi:Int),F.wi lo hi->∀ (j:Nat) (nd:Nd),(F.tn n)[j]? =some nd->lo<=nd.f/\nd.f<=nd.e/\nd.e<=hi/\∀ k∈nd.kids,∃ y,(n:Int)<=k/\(F.tn n)[k.toNat - n]? =some y/\nd.f<=y.f/\y.e<=nd.e
 | .nil,_,_,_,_,_,_,h=>by simp[Fo.tn]at h
 | .cons kk t v f e a b,n,lo,hi,h,j,nd,hj=>by
   obtain⟨h1,h2,h3,h4,h5⟩:=h
   have hl:=Fo.a8w a n
   simp only[Fo.tn]at hj⊢
   by_cases c1:j < a.sz
   ·rw[List.getElem?_append_left om]at hj
    obtain⟨q1,q2,q3,q4⟩:=Fo.within a n f e h4 j nd hj
    refine⟨om,q2,om,fun k hk=>?_⟩
    obtain⟨y,y1,y2,y3⟩:=q4 k hk
    refine⟨y,y1,?_,y3⟩
    rw[List.getElem?_append_left (List.getElem?_eq_some_iff.1 y2).1]
    exact y2
   ·rw[List.getElem?_append_right om,hl]at hj
    by_cases c2:j=a.sz
    ·subst c2
     rw[Nat.sub_self]at hj
     simp only[List.getElem?_cons_zero,Option.some.injEq]at hj
     subst hj
     refine⟨h1,h2,h3,fun k hk=>?_⟩
     obtain⟨k',hk',rfl⟩:=List.mem_map.1 hk
     obtain⟨y,y1,y2,_,y4⟩:=Fo.roots a n f e h4 k' hk'
     have:=((Fo.c2z a n).2 k' hk').1
     refine⟨y,om,?_,y2,y4⟩
     rw[Int.toNat_natCast,List.getElem?_append_left (List.getElem?_eq_some_iff.1 y1).1]
     exact y1
    ·obtain⟨m,hm⟩:∃ m,j - a.sz=m+1:=⟨j - a.sz - 1,om⟩
     rw[hm,List.getElem?_cons_succ]at hj
     obtain⟨q1,q2,q3,q4⟩:=Fo.within b (n+a.sz+1) lo hi h5 m nd hj
     refine⟨q1,q2,q3,fun k hk=>?_⟩
     obtain⟨y,y1,y2,y3⟩:=q4 k hk
     refine⟨y,om,?_,y3⟩
     rw[List.getElem?_append_right om,hl,show k.toNat - n - a.sz=(k.toNat - (n+a.sz+1))+1 by omega,List.getElem?_cons_succ]
     exact y2
end Go.Vm.Pa
namespace Go.Vm.Px
open Go.Vm.Lex (TokQ a0l a5z dgD Dg)
open Go.Vm.Pa hiding go
open Go.Vm.Ite
open Go.Vm.Tp (Nd c0y)
structure Plcd (t:List Nd) (n:Int):Prop where
 nd:∀ i,i < t.length->0<=(t.getD i default).f/\(t.getD i default).f<=(t.getD i default).e/\(t.getD i default).e<=n
 kid:∀ i,i < t.length->∀ j,j < (t.getD i default).kids.length->0<=(t.getD i default).kids.getD j 0/\((t.getD i default).kids.getD j 0).toNat < t.length/\(t.getD i default).f<=(t.getD ((t.getD i default).kids.getD j 0).toNat default).f/\(t.getD ((t.getD i default).kids.getD j 0).toNat default).e<=(t.getD i default).e
theorem g1x {T:Fo} {n:Int} (h:T.wi 0 n):Plcd (T.tn 0) n:=by
 refine⟨fun i hi=>?_,fun i hi j hj=>?_⟩
 ·obtain⟨q1,q2,q3,_⟩:=Fo.within T 0 0 n h i _ (c2j hi)
  exact⟨q1,q2,q3⟩
 ·obtain⟨_,_,_,q⟩:=Fo.within T 0 0 n h i _ (c2j hi)
  have hm:((T.tn 0).getD i default).kids.getD j 0∈((T.tn 0).getD i default).kids:=by
   rw[List.getD_eq_getElem?_getD (l:=((T.tn 0).getD i default).kids),List.getElem?_eq_getElem hj];exact List.getElem_mem _
  obtain⟨y,y1,y2,y3,y4⟩:=q _ hm
  rw[Nat.sub_zero]at y2
  have hlt:=(List.getElem?_eq_some_iff.1 y2).1
  have he:(T.tn 0).getD (((T.tn 0).getD i default).kids.getD j 0).toNat default=y:=by rw[List.getD_eq_getElem?_getD,y2];rfl
  rw[he]
  exact⟨om,hlt,y3,y4⟩
theorem g2y {T:Fo} {k:Int} {t:S} {v f e:Int} {K:Fo} (h:T= .cons k t v f e K .nil):0 < (T.tn 0).length/\((T.tn 0).getD ((T.tn 0).length - 1) default).k=k:=by
 have hl:=Fo.a8w T 0
 subst h
 simp only[Fo.sz]at hl
 refine⟨om,?_⟩
 rw[hl]
 have hk:=Fo.a8w K 0
 simp only[Fo.tn]
 rw[List.getD_eq_getElem?_getD,List.getElem?_append_right om,hk,show K.sz+1+0 - 1 - K.sz=0 by omega]
 rfl
section
variable {fx:Nat->Option Obj} (X:e0r fx)
set_option maxHeartbeats 4000000 in
theorem f6n (s:S) (H:Hp):evF (pgL fx (FW X)) b9x [.d (.str s)] H=some (boo true,H):=by
 have p1:=fun H=>c3i X s H
 have sp:=fun H=>b8u X H
 have r1:=b4y (b0r X .crate s)
 unfold rdV at p1
 revert r1 p1
 generalize rdW X .crate s=W
 generalize rdC X .crate s=c
 generalize rdF X .crate s=f
 generalize rdE X .crate s=e
 intro p1 r1
 rw[c3f]at p1
 refine b2d (b8d (F:=FW X)) rfl rfl ?_ H
 rcases r1 with r1|r1
 ·obtain rfl:=r1.W
  have n1:(!decide (c=0))=true:=by rw[decide_eq_false r1.c];rfl
  have g1:0<=f:=r1.f0
  have g2:f<=e:=r1.fe
  have g3:e<=(s.length:Int):=r1.el
  repeat' (first|refine run ⟨?_⟩|refine ca (p1 _) ?_|refine ca (sp _) ?_|fail)
  exact rfl
 ·obtain rfl:=r1.c
  obtain rfl:=r1.f
  obtain rfl:=r1.e
  have O:=c0h r1
  have o1:=fun H=>b1c (fx:=fx) (F:=FW X) H _ O
  have P:=g1x r1.wi
  obtain⟨k,t,v,f,e,K,hW,hu⟩:=r1.one
  obtain⟨l1,l2⟩:=g2y hW
  rw[(hu rfl).1]at l2
  generalize W.tn 0=t at*
  have hl:=O.len
  have hnl:(t.map Nd.D).length=t.length:=List.length_map ..
  have pl:=e3q (t:=t) (i:=t.length - 1) om
  have hw:IntKind.i64.wrap (((t.map Nd.D).length:Int) - 1)=((t.length - 1:Nat):Int):=(a2x om).trans om
  rw[<-hw]at pl
  have h0:¬ ((t.map Nd.D).length:Int) < 1:=om
  have hk1:(!decide ((t.getD (t.length - 1) default).k=1))=false:=by rw[decide_eq_true l2];rfl
  repeat' (first|refine run ⟨?_⟩|refine ca (p1 _) ?_|refine ca (sp _) ?_|refine ca (o1 _) ?_|refine b2t pl ?_|fail)
  refine b3k (α:=Nat) (fun a=>t.length - a) (fun a=>[(0,.d (.str s)),(3,.ptr 0 0),(5,i64 (a:Int))]) (fun _=>[.box [.d (.sl (t.map Nd.D))],.box [i64 0,i64 0,i64 0]]) (fun a=>a<=t.length) ?_ 0 (Nat.zero_le _) rfl rfl
  intro i hi
  by_cases hlt:i < t.length
  ·have h1:(i:Int) < ((t.map Nd.D).length:Int):=om
   have pn:=e3q hlt
   obtain⟨q1,q2,q3⟩:=P.nd i hlt
   have hkid:=P.kid i hlt
   have hkl:=O.kl i hlt
   generalize t.getD i default=x at pn q1 q2 q3 hkid hkl
   have hkn:(x.kids.map (D.int .i64)).length=x.kids.length:=List.length_map ..
   have d1:¬ x.f < 0:=om
   have d2:¬ (s.length:Int) < x.e:=om
   have d3:¬ x.e < x.f:=om
   repeat' (first|refine run ⟨?_⟩|refine b2t pn ?_|fail)
   refine b3k (α:=Nat) (fun a=>x.kids.length - a) (fun a=>[(0,.d (.str s)),(3,.ptr 0 0),(5,i64 (i:Int)),(6,.ptr 2 0),(7,i64 (a:Int))]) (fun _=>[.box [.d (.sl (t.map Nd.D))],.box [i64 0,i64 0,i64 0],.box [i64 x.k,.d (.str x.t),i64 x.v,.d (.sl (x.kids.map (D.int .i64))),i64 x.f,i64 x.e]]) (fun a=>a<=x.kids.length) ?_ 0 (Nat.zero_le _) rfl rfl
   intro j hj
   by_cases hlt2:j < x.kids.length
   ·have h2:(j:Int) < ((x.kids.map (D.int .i64)).length:Int):=om
    have pk:=f4t hlt2
    obtain⟨k1,k2,k3,k4⟩:=hkid j hlt2
    generalize x.kids.getD j 0=kk at pk k1 k2 k3 k4
    have pn2:0<=kk/\(t.map Nd.D)[kk.toNat]? =some (t.getD kk.toNat default).D:=⟨k1,by have:=(e3q k2).2;rwa [Int.toNat_natCast]at this⟩
    generalize t.getD kk.toNat default=y at pn2 k3 k4
    have d4:¬ y.f < x.f:=om
    have d5:¬ x.e < y.e:=om
    have hgz:grew [.box [.d (.sl (t.map Nd.D))],.box [i64 0,i64 0,i64 0],.box [i64 x.k,.d (.str x.t),i64 x.v,.d (.sl (x.kids.map (D.int .i64))),i64 x.f,i64 x.e]] ([.box [.d (.sl (t.map Nd.D))],.box [i64 0,i64 0,i64 0],.box [i64 x.k,.d (.str x.t),i64 x.v,.d (.sl (x.kids.map (D.int .i64))),i64 x.f,i64 x.e]]++[.box [i64 0,.d (.str []),i64 0,.nils,i64 0,i64 0]])=true:=(c4g _ _).trans rfl
    repeat' (first|refine run ⟨?_⟩|refine b2t pk ?_|refine b2t pn2 ?_|refine And.intro (a9i _) ?_|refine And.intro hgz ?_|fail)
    exact⟨j+1,by show j+1<=_;omega,by show _ - (j+1) < _ - j;omega,by rw[a2x (n:=(j:Int)+1) om];rfl,rfl⟩
   ·have h2:¬ (j:Int) < ((x.kids.map (D.int .i64)).length:Int):=om
    refine run ⟨?_⟩
    exact⟨i+1,by show i+1<=_;omega,by show _ - (i+1) < _ - i;omega,by rw[a2x (n:=(i:Int)+1) om];rfl,rfl⟩
  ·have h1:¬ (i:Int) < ((t.map Nd.D).length:Int):=om
   repeat' (first|refine run ⟨?_⟩|refine ca (sp _) ?_|fail)
   exact rfl
end
end Go.Vm.Px
namespace Go.Vm
variable {P:Program}
theorem f2l {m t:Nat} {k:IntKind} {x:D} (h:P.underlying t=some (.int k)) (hx:c1o P (m+1) t x):∃ n,x= .int k n/\(Lit.int k n).wf=true:=by
 unfold c1o at hx;rw[h]at hx;exact hx
theorem c3w {m t:Nat} {x:D} (h:P.underlying t=some .string) (hx:c1o P (m+1) t x):∃ s,x= .str s/\s.length<=maxLen:=by
 unfold c1o at hx;rw[h]at hx;exact hx
theorem e4p {m t e:Nat} {x:D} (h:P.underlying t=some (.slice e)) (hx:c1o P (m+1) t x):∃ l,x= .sl l/\l.length<=maxLen/\∀ y∈l,c1o P m e y:=by
 unfold c1o at hx;rw[h]at hx;exact hx
def fieldsOf (P:Program) (t:Nat):Option (List Nat):=match P.underlying t with|some (.struct fs)=>some (fs.toList.map (·.type))|_=>none
end Go.Vm



namespace Go.Vm.Ip
def kn (x:Its) (s:S):Bool:=known (nS x) s||known (nE x) s
def f5x (l:List Fld):List S:=(l.map Fld.t).filter fun t=>decide (t≠[])
def c4c (x:Its) (s:S):List S×Bool:=match pos (nS x) s with
 |some i=>((x.ss.getD i default).fs.map Fld.t,false)
 |none=>match pos (nE x) s with
  |some i=>(f5x (x.es.getD i default).fs,true)
  |none=>([],false)
end Go.Vm.Ip
namespace Go.Vm.Ip
inductive Gets (x:Its) (s:S):S->Prop
 |one {y:S}:y∈(c4c x s).1->Gets x s y
 |step {y z:S}:Gets x s y->z∈(c4c x y).1->Gets x s z
structure i1n (x:Its) (s:S) (seen todo:List S):Prop where
 r1:∀ y∈seen,Gets x s y
 r2:∀ y∈todo,Gets x s y
 c0:∀ z∈(c4c x s).1,z∈seen\/z∈todo
 c1:∀ y∈seen,∀ z∈(c4c x y).1,z∈seen\/z∈todo
 no:s∉seen
theorem i1n.new {x:Its} {s y:S} {seen todo:List S} (h:i1n x s seen (todo++[y])) (hys:y≠s):i1n x s (seen++[y]) (todo++(c4c x y).1):=by
 have ry:Gets x s y:=h.r2 y (by simp)
 have mv:∀ z,z∈seen\/z∈todo++[y]->z∈seen++[y]\/z∈todo++(c4c x y).1:=fun z hz=>by
   simp only[List.mem_append,List.mem_singleton]at hz⊢
   rcases hz with q|q|q
   ·exact .inl (.inl q)
   ·exact .inr (.inl q)
   ·exact .inl (.inr q)
 refine⟨fun z hz=>?_,fun z hz=>?_,fun z hz=>mv z (h.c0 z hz),fun u hu z hz=>?_,?_⟩
 ·rcases List.mem_append.1 hz with q|q
  ·exact h.r1 z q
  ·rw[List.mem_singleton]at q;exact q ▸ ry
 ·rcases List.mem_append.1 hz with q|q
  ·exact h.r2 z (List.mem_append_left _ q)
  ·exact .step ry q
 ·rcases List.mem_append.1 hu with q|q
  ·exact mv z (h.c1 u q z hz)
  ·rw[List.mem_singleton]at q
   exact .inr (List.mem_append_right _ (q ▸ hz))
 ·intro hm
  rcases List.mem_append.1 hm with q|q
  ·exact h.no q
  ·rw[List.mem_singleton]at q;exact hys q.symm
end Go.Vm.Ip






namespace Go.Vm.Ip
open Go.Vm.Lex (g3g)
def flM (x:Its) (s:S):List Fld:=if known (nS x) s then(nam x.ss s).fs else if known (nE x) s then(nam x.es s).fs else[]
theorem f1b (x:Its) (s:S):c4c x s=if known (nS x) s then((flM x s).map Fld.t,false) else if known (nE x) s then(f5x (flM x s),true) else([],false):=by
 unfold c4c flM nam known
 rw[show x.ss.map Nam.n=nS x from rfl,show x.es.map Nam.n=nE x from rfl]
 cases pos (nS x) s with
 |some i=>rfl
 |none=>
  cases pos (nE x) s with
  |some i=>rfl
  |none=>rfl
end Go.Vm.Ip
namespace Go.Vm.Ip
theorem d0y {l:List Fld} {t:S}:t∈f5x l↔t≠[]/\∃ f∈l,f.t=t:=by
 unfold f5x
 rw[List.mem_filter,List.mem_map]
 constructor
 ·rintro⟨⟨f,hf,rfl⟩,h⟩;exact⟨by simpa using h,f,hf,rfl⟩
 ·rintro⟨h,f,hf,rfl⟩;exact⟨⟨f,hf,rfl⟩,by simpa using h⟩
end Go.Vm.Ip





namespace Go.Vm.Ip
open Go.Vm.Lex (g3g)
def flT (x:Its) (s:S):List S:=(flM x s).map Fld.t
theorem f5k {x:Its} {s z:S} (h:z∈(c4c x s).1):z∈flT x s:=by
 rw[f1b]at h
 split at h
 ·exact h
 split at h
 ·obtain⟨_,f,hf,e⟩:=d0y.1 h
  exact List.mem_map.2 ⟨f,hf,e⟩
 ·cases h
theorem f2b {x:Its} {s z:S} (h:z∈flT x s) (hz:z≠[]):z∈(c4c x s).1:=by
 rw[f1b]
 split
 ·exact h
 rename_i c1
 split
 ·obtain⟨f,hf,e⟩:=List.mem_map.1 h
  exact d0y.2 ⟨hz,f,hf,e⟩
 ·rename_i c2
  unfold flT flM at h
  rw[if_neg c1,if_neg c2]at h
  cases h
structure i0v (x:Its) (s:S) (seen todo:List S):Prop where
 a1:∀ y∈seen,y=s\/Gets x s y
 a2:∀ y∈todo,kn x y=true->y=s\/Gets x s y
 a3:s∈seen\/s∈todo
 c1:∀ y∈seen,∀ z∈(c4c x y).1,z≠s/\(z∈seen\/z∈todo\/kn x z=false)
theorem i0v.new {x:Its} {s y:S} {seen r:List S} (h:i0v x s seen (y::r)) (hnm:∀ s,kn x s=true->g3g s=true) (hy:kn x y=true) (ht:s∉flT x y):i0v x s (seen++[y]) (r++flT x y):=by
 have ry:=h.a2 y (by simp) hy
 refine⟨fun z hz=>?_,fun z hz hk=>?_,?_,fun u hu z hz=>?_⟩
 ·rcases List.mem_append.1 hz with q|q
  ·exact h.a1 z q
  ·rw[List.mem_singleton]at q;exact q ▸ ry
 ·rcases List.mem_append.1 hz with q|q
  ·exact h.a2 z (List.mem_cons_of_mem _ q) hk
  ·have hne:z≠[]:=fun e=>by
     have:=hnm z hk
     rw[e]at this
     exact absurd this (by decide)
   have:=f2b q hne
   rcases ry with e|e
   ·rw[e]at this;exact .inr (.one this)
   ·exact .inr (.step e this)
 ·rcases h.a3 with q|q
  ·exact .inl (List.mem_append_left _ q)
  ·rcases List.mem_cons.1 q with e|e
   ·exact .inl (by rw[e];simp)
   ·exact .inr (List.mem_append_left _ e)
 ·rcases List.mem_append.1 hu with q|q
  ·obtain⟨a,b⟩:=h.c1 u q z hz
   refine⟨a,?_⟩
   rcases b with q|q|q
   ·exact .inl (List.mem_append_left _ q)
   ·rcases List.mem_cons.1 q with e|e
    ·exact .inl (by rw[e];simp)
    ·exact .inr (.inl (List.mem_append_left _ e))
   ·exact .inr (.inr q)
  ·rw[List.mem_singleton]at q
   rw[q]at hz
   have:=f5k hz
   exact⟨fun e=>ht (e ▸ this),.inr (.inl (List.mem_append_right _ this))⟩
end Go.Vm.Ip






namespace Go.Vm.Ip
open Go Go.Vm
theorem f0g {α:Type} {f:α->D} {p:α->Prop}:∀ {l:List D},(∀ y∈l,∃ a,y=f a/\p a)->∃ aas:List α,l=aas.map f/\∀ a∈aas,p a
 |[],_=>⟨[],rfl,fun a h=>by cases h⟩
 |y::r,h=>by
  obtain⟨a,rfl,ha⟩:=h y (by simp)
  obtain⟨aas,rfl,has⟩:=f0g (l:=r) (f:=f) (p:=p) fun z hz=>h z (List.mem_cons_of_mem _ hz)
  exact⟨a::aas,rfl,fun b hb=>by
    rcases List.mem_cons.1 hb with q|q
    ·exact q ▸ ha
    ·exact has b q⟩
abbrev sf (P:Program) (t:Nat):Option (List Nat):=match P.underlying t with|some (.struct fs)=>some (fs.toList.map (·.type))|_=>none
structure Tys where
 it:Nat
 ss:Nat
 es:Nat
 fs:Nat
 s:Nat
 e:Nat
 f:Nat
 n:Nat
 fl:Nat
 fd:Nat
 bs:Nat
 b:Nat
 i:Nat
structure TysOk (P:Program) (t:Tys):Prop where
 it:sf P t.it=some [t.ss,t.es,t.fs]
 ss:P.underlying t.ss=some (.slice t.s)/\P.bytesOf t.s=40
 es:P.underlying t.es=some (.slice t.e)/\P.bytesOf t.e=40
 fs:P.underlying t.fs=some (.slice t.f)/\P.bytesOf t.f=88
 s:sf P t.s=some [t.n,t.fl]
 e:sf P t.e=some [t.n,t.fl]
 f:sf P t.f=some [t.n,t.fl,t.bs,t.n,t.i]
 n:P.underlying t.n=some .string
 fl:P.underlying t.fl=some (.slice t.fd)/\P.bytesOf t.fd=32
 fd:sf P t.fd=some [t.n,t.n]
 bs:P.underlying t.bs=some (.slice t.b)/\P.bytesOf t.b=1
 b:P.underlying t.b=some .bool
 i:P.underlying t.i=some (.int .i64)
theorem rb:reachBytes=140737488351232:=by decide
end Go.Vm.Ip
namespace Go.Proofs.YtkedogplneaaiaaGreatDoor
open Go Go.Vm Go.ChangeShapes Go.WideShapes Go.ChangeAt Go.RowKit Go.Vm.Px
theorem own:ownKnob Tryz.prog.godebug=none:=kr
theorem laidOut:laidOutB Tryz.prog=true:=kr
theorem mixed:Tryz.prog.follows .mixedOrders=true:=kr
def a7g:List (String×DataW Unit):=[("math/bits.deBruijn32tab",Rows.laid_math_bits_deBruijn32tab),("math/bits.deBruijn64tab",Rows.laid_math_bits_deBruijn64tab),("internal/strconv.uint64pow10",Rows.laid_internal_strconv_uint64pow10),("unicode/utf8.acceptRanges",Rows.laid_unicode_utf8_acceptRanges),("strconv.ErrRange",Rows.laid_strconv_ErrRange),("strconv.ErrSyntax",Rows.laid_strconv_ErrSyntax),("unicode/utf8.first",Rows.laid_unicode_utf8_first)]
def a9a:List (String×DataW Unit):=[("math/bits.deBruijn32tab",Rows.laid_math_bits_deBruijn32tab),("math/bits.deBruijn64tab",Rows.laid_math_bits_deBruijn64tab),("internal/strconv.uint64pow10",Rows.laid_internal_strconv_uint64pow10),("unicode/utf8.acceptRanges",Rows.laid_unicode_utf8_acceptRanges),("errors.errorType",Rows.laid_errors_errorType),("strconv.ErrRange",Rows.laid_strconv_ErrRange),("strconv.ErrSyntax",Rows.laid_strconv_ErrSyntax),("unicode/utf8.first",Rows.laid_unicode_utf8_first)]
theorem g7f {W:World} (h:laidMetH Tryz.prog a9a W):laidMet Tryz.prog a7g W/\handlesMet Tryz.prog [("errors.errorType",Rows.laid_errors_errorType)] W:=h
def fx5 (W:World):Nat->Option Obj:=c2o W [0,1,2,4,5]
theorem f2n:Rows.laid_unicode_utf8_first=Lib.firstData:=kr
theorem f0d:Rows.laid_unicode_utf8_acceptRanges (H:=Unit)=Lib.acceptData:=kr
theorem gErr:Tryz.prog.globalNamed "errors.errorType" =some 0:=kr
theorem h3b:Tryz.prog.globalNamed "unicode/utf8.first" =some 1:=kr
theorem gAcc:Tryz.prog.globalNamed "unicode/utf8.acceptRanges" =some 2:=kr
theorem gSyn:Tryz.prog.globalNamed "strconv.ErrSyntax" =some 4:=kr
theorem gRan:Tryz.prog.globalNamed "strconv.ErrRange" =some 5:=kr
theorem c0p {w:World} {n:String} {d:DataW Unit} (h:Lib.VarReads Tryz.prog w n d) {g:Nat} (hg:Tryz.prog.globalNamed n=some g):∃ cs t fz fuel p ty,w.heap[g]? =some (.cells cs t fz)/\(Tryz.prog.globals[g]?).map (·.type)=some ty/\DataW.trod (fun _=>()) Tryz.prog w 0 (fun _=>true) false fuel ty cs.toList=some (d,p):=by
  obtain⟨g',t,cs,fuel,p,h1,h2,h3,h4⟩:=h
  obtain rfl:=Option.some.inj (hg.symm.trans h1)
  unfold World.var? at h3
  rw[hg]at h3
  simp only[Option.bind_some]at h3
  split at h3
  ·rename_i c' t' f' hc
   cases h3
   exact⟨_,_,_,fuel,p,t,hc,h2,h4⟩
  ·cases h3
theorem f9g {W:World} {n nm:String} {d:DataW Unit} {g:Nat} (ty:Nat) {l:List Nat} (h:Lib.VarReads Tryz.prog W n (.iface nm d)) (hg:Tryz.prog.globalNamed n=some g) (hty:(Tryz.prog.globals[g]?).map (·.type)=some ty) (hu:(match Tryz.prog.underlying ty with|some (.interface _)=>true|_=>false)=true) (hm:g∈l):d7u ⟨fun _=>[],c2o W l⟩ g:=by
  obtain⟨cs,t,fz,fuel,p,ty',h1,h2,h3⟩:=c0p h hg
  obtain rfl:=Option.some.inj (hty.symm.trans h2)
  obtain⟨ms,hms⟩:∃ ms,Tryz.prog.underlying ty=some (.interface ms):=by
   cases hh:Tryz.prog.underlying ty with
   |none=>rw[hh]at hu;cases hu
   |some t=>rw[hh]at hu;cases t<;>first|exact⟨_,rfl⟩|cases hu
  obtain⟨f',u,v,h4,_,_⟩:=iface_of_trod hms h3
  refine⟨.iface u v,t,fz,?_,.inr ⟨u,v,rfl⟩⟩
  show c2o W l g=_
  unfold c2o
  rw[if_pos hm,h1]
  congr 2
  apply Array.toList_inj.1;exact h4
theorem e2e {W w:World} (h:Lib.Utf8Tabs 1 2 W) (h1:w.heap[1]? =W.heap[1]?) (h2:w.heap[2]? =W.heap[2]?):Lib.Utf8Tabs 1 2 w:=
 ⟨fun c hc=>by rw[World.cell?_of_block (w:=W) (a:=⟨1,c,none⟩) h1];exact h.1 c hc,fun i hi=>⟨by rw[World.cell?_of_block (w:=W) (a:=⟨2,2*i,none⟩) h2];exact(h.2 i hi).1,by rw[World.cell?_of_block (w:=W) (a:=⟨2,2*i+1,none⟩) h2];exact(h.2 i hi).2⟩⟩
theorem h2m {W:World} (h:laidMet Tryz.prog a7g W) {g:Gh} {H:Hp} {w:World} (hI:Inv ⟨fun _=>[],fx5 W⟩ g H w):Lib.Utf8Tabs 1 2 w:=by
  have r1:Lib.VarReads Tryz.prog W "unicode/utf8.first" Lib.firstData:=by rw[<-f2n];exact Lib.laidMet.reads h (by simp[a7g])
  have r2:Lib.VarReads Tryz.prog W "unicode/utf8.acceptRanges" Lib.acceptData:=by rw[<-f0d];exact Lib.laidMet.reads h (by simp[a7g])
  have hU:Lib.Utf8Tabs 1 2 W:=utf8Tabs_of_reads (ρ:=Tryz.c5g) {Tryz.e9m with } ⟨kr,kr,kr,kr,kr,kr,kr⟩ r1 r2
  obtain⟨c1,t1,z1,_,_,_,b1,_⟩:=c0p r1 h3b
  obtain⟨c2,t2,z2,_,_,_,b2,_⟩:=c0p r2 gAcc
  have k1:=(hI.fix 1 _ (by show c2o W [0,1,2,4,5] 1=_;unfold c2o;rw[if_pos (by decide)];exact b1)).1
  have k2:=(hI.fix 2 _ (by show c2o W [0,1,2,4,5] 2=_;unfold c2o;rw[if_pos (by decide)];exact b2)).1
  exact e2e hU (k1.trans b1.symm) (k2.trans b2.symm)
theorem rtT:(Tryz.prog.cutTypes.find? (·.1== "internal/reflectlite.rtype")).map (·.2)=some 122:=kr
theorem h2b:((List.range Tryz.prog.types.size).filter fun t=>Tryz.prog.rowNamed t [101,114,114,111,114])=[67]:=kr
theorem f1w {W:World} (h:handlesMet Tryz.prog [("errors.errorType",Rows.laid_errors_errorType)] W):∃ tt fz,W.heap[0]? =some (.cells #[.iface 122 (.agg #[.pointer (some ⟨9,67,none⟩)])] tt fz):=by
 obtain⟨name,u,ty,e1,e2,e3,e4,e5⟩:=h _ (List.mem_singleton.2 rfl)
 have en:name=[101,114,114,111,114]:=(Option.some.inj e1).symm
 subst en
 obtain rfl:=Option.some.inj (rtT.symm.trans e2)
 have hm:ty∈(List.range Tryz.prog.types.size).filter fun t=>Tryz.prog.rowNamed t [101,114,114,111,114]:=List.mem_filter.2 ⟨List.mem_range.2 e3,e4⟩
 rw[h2b]at hm
 obtain rfl:=List.mem_singleton.1 hm
 have hh:typeHandle Tryz.prog 67= .pointer (some ⟨9,67,none⟩):=kr
 rw[hh]at e5
 unfold World.var? at e5
 rw[gErr]at e5
 simp only[Option.bind_some]at e5
 split at e5
 ·rename_i c' t' f' hc
  cases e5
  exact⟨t',f',hc⟩
 ·cases e5
theorem g5a {W:World} (h:laidMetH Tryz.prog a9a W):e0r (fx5 W):=by
 obtain⟨h1,h2⟩:=g7f h
 have rS:Lib.VarReads Tryz.prog W "strconv.ErrSyntax" (Rows.laid_strconv_ErrSyntax (H:=Unit)):=Lib.laidMet.reads h1 (by simp[a7g])
 have rR:Lib.VarReads Tryz.prog W "strconv.ErrRange" (Rows.laid_strconv_ErrRange (H:=Unit)):=Lib.laidMet.reads h1 (by simp[a7g])
 obtain⟨tt,fz,b⟩:=f1w h2
 exact⟨fun g H w hI=>h2m h1 hI,f9g 67 rS gSyn kr kr (by decide),f9g 67 rR gRan kr kr (by decide),tt,fz,by show c2o W [0,1,2,4,5] 0=_;unfold c2o;rw[if_pos (by decide)];exact b⟩
noncomputable def pgW {W:World} (h:laidMetH Tryz.prog a9a W):Pg:=Go.Vm.Ite.pgL (fx5 W) (FW (g5a h))
theorem tOk {W:World} (h:laidMetH Tryz.prog a9a W):a3g Tryz.prog (pgW h):=tblW (g5a h)
theorem e0f {W:World} (h:laidMetH Tryz.prog a9a W):d4c (pgW h).toCx W:=e9j [] (f2k W _) fun p hp=>by cases hp
noncomputable def hand0 (os:Os):World:=
 {World.holding Tryz.prog os ⟨#[],#[],[]⟩with heap:=(World.holding Tryz.prog os ⟨#[],#[],[]⟩).heap.modify 0 fun
     | .cells _ t frozen=> .cells #[.iface 122 (.agg #[.pointer (some ⟨9,67,none⟩)])] t frozen
     |o=>o }
noncomputable def w8 (os:Os):World:=(hand0 os).layVars Tryz.prog a7g
theorem f3n (os:Os):(w8 os).os=os:=(World.layVars_os _ _ _).trans rfl
theorem f5d {os:Os} (hf:(hand0 os).layFits Tryz.prog a7g []=true) (hi:(hand0 os).layIfaces Tryz.prog a7g (w8 os)=true):laidMet Tryz.prog a7g (w8 os):=by
 have e1:(a7g.filter fun x=>(a7g.map (·.1)).contains x.1)=a7g:=List.filter_eq_self.2 fun x hx=>List.contains_iff_mem.2 (List.mem_map.2 ⟨x,hx,rfl⟩)
 have e2:(a7g.filter fun x=> !(a7g.map (·.1)).contains x.1)=[]:=List.filter_eq_nil_iff.2 fun x hx=>by rw[List.contains_iff_mem.2 (List.mem_map.2 ⟨x,hx,rfl⟩)];simp
 exact laidMet_layVars (w0:=hand0 os) (a7g.map (·.1)) [] (by rw[e1];rfl) (by rw[e1];exact hf) (by rw[e1];exact hi) (by rw[e2];exact LaidIn.none)
theorem c3l (os:Os) (args:Array Value):laidMetH Tryz.prog a9a ((w8 os).forCall (fun _ _=>0) ⟨#[],args,[]⟩).memory:=by
  refine laidMetH_of_parts ?_ kr
  have e:(a9a.filter fun x=>x.2.handleName?.isNone)=a7g:=kr
  rw[e]
  exact(f5d (os:=os) kr kr).of_heap (by simp[World.memory,World.forCall,Input.heap])
theorem c0d (os:Os):(w8 os).Shaped Tryz.prog:=World.shaped_of_ZipB kr kr
theorem d9z:Tryz.prog.underlying 9=some .string:=kr
end Go.Proofs.YtkedogplneaaiaaGreatDoor
namespace Go.Proofs.YtkedogplneaaiaaGreatDoor
open Go Go.Vm Go.ChangeShapes Go.WideShapes Go.ChangeAt Go.RowKit
theorem c5i {H:Type} {W:World} (hW:laidMetH Tryz.prog a9a W) (ds:List (DataW H)) (h1:ds.length=Tryz.f3.params.size) (h2:∀ (i:Nat) t x,Tryz.f3.params[i]? =some t->ds[i]? =some x->c1o Tryz.prog 8 t (dwD x)):∃ H',evF (pgW hW) 3 ((ds.map dwD).map V.d) []=some (.d (.bool true),H'):=by
 have hp:Tryz.f3.params= #[9]:=Tryz.params3
 match ds,h1 with
 |[d0],_=>
  have hd0:=h2 0 9 d0 (by rw[hp];rfl) rfl
  obtain⟨s,e,_⟩:=c3w d9z hd0
  exact⟨[],by show evF _ 3 [.d (dwD d0)] []=_;rw[e];exact Go.Vm.Px.e9q (Go.Proofs.YtkedogplneaaiaaGreatDoor.g5a hW) s []⟩
theorem b9g (os:Os) (started:os.Started) (H:Type) (enc:TypeId×Value->H):
 ReturnsInHanded {} Tryz.checked os 3 .any (fun w args=>(Rows.parseOrdersSpec.pre enc Tryz.prog Tryz.f3 [] false w args/\laidMetH Tryz.prog a9a w)/\sizedMet enc Tryz.prog Tryz.f3 (OpenSpec.ofChange Rows.parseOrdersSpec) false w args)
   (Rows.parseOrdersSpec.post enc Tryz.prog Tryz.f3 false true false false):=by
 refine returnsInHanded_of_change_and (C:=Tryz.checked) (X:=fun w _=>laidMetH Tryz.prog a9a w) (fun _ _ _ hh h=>h.of_heap hh) own started kr Tryz.func3
   (ChangeSpec.witness_shaped (enc:=enc) (C:=Tryz.checked) (os:=os) (X:=fun w _=>laidMetH Tryz.prog a9a w) false (w8 os) #[.string ⟨#[]⟩] 8 (f3n _) (c0d os) kr kr kr (c3l os _)) ?_
 intro W base args ds gs before hval hW _ _ hL _
 refine b0a (m:=8) (tb:=4) (pg:=pgW hL) (tOk hL) mixed laidOut rfl (fun ds h=>?_) (fun t ht=>?_) kr Tryz.underlying4 hval hW (e0f hL) (c5i hL ds)
 ·match ds,h with
  |[d0],_=>rfl
 ·rw[Tryz.params3]at ht
  simp only[List.mem_cons,List.not_mem_nil,or_false]at ht
  subst ht
  ·exact⟨⟨kr,of_decide_eq_true kr⟩,kr⟩
theorem c4e:Rows.ParseOrdersSaid:=
 OpenClaim.holds_of_wide 3 Tryz.f3 rfl rfl rfl rfl rfl rfl rfl ⟨rfl,rfl,rfl,rfl,rfl⟩ rfl rfl rfl rfl rfl kr Tryz.func3 kr
   (of_decide_eq_true kr) (by unfold Func.isWrapper;first|(rw[if_pos (by decide+kernel)];kernel_rfl)|(rw[if_neg (by decide+kernel)];exact⟨rfl,rfl⟩))
   (fun os started H enc _=>b9g os started H enc)
theorem parseOrders_holds:Rows.ParseOrdersCardSaid:=
 Claim7.holds_tied_plain_at .later [] [.data,.data,.data,.data,.handle,.sentinel,.sentinel,.pinned] true (true, "653402f5dad1351d736720f1617cfc36bd946f5f0e15fbc589575ddbaea529e7") true
  c4e (fun _ h=>by cases h) kr (fun _ h=>by cases h) parseOrders_row_tie rfl ⟨rfl,rfl⟩ kr rfl
  (fun f fn hf hfn=>by
    obtain rfl:f=3:=Option.some.inj ((show Tryz.prog.funcNamed "patina/patinalaw12.ParseOrders" =some 3 by kernel_rfl).symm.trans hf)|>.symm
    obtain rfl:fn=Tryz.f3:=(Option.some.inj (Tryz.func3.symm.trans hfn)).symm
    exact⟨kr,fun j t ht=>by
      rw[Tryz.params3]at ht
      have ht:=Array.mem_of_getElem? ht
      simp only[List.mem_toArray,List.mem_cons,List.not_mem_nil,or_false]at ht
      subst ht
      ·exact(show Tryz.prog.wantsStandIn 9=false by kernel_rfl)⟩)
  kr
end Go.Proofs.YtkedogplneaaiaaGreatDoor
