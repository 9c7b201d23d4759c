import Derived.Test.YtkedogplneaaiaaGreatDoorPxV
import Derived.Defers
import Derived.Test.YtkedogplneaaiaaGreatDoorVmFn
import Derived.Maps.RangeRun
import Derived.Test.YtkedogplneaaiaaGreatDoorPlW7
import Derived.Laws.Cover3
import Derived.Test.YtkedogplneaaiaaGreatDoorVmWx
set_option maxRecDepth 100000
set_option linter.unusedVariables false
set_option linter.unusedSimpArgs false
namespace Go.Vm.Px
open Go.Vm.Lex (TokQ)
open Go.Vm.Pa hiding go
open Go.Vm.Ite
set_option maxHeartbeats 4000000
section
variable {fx:Nat->Option Obj} {F:Nat->Option a1j} {l:List TokQ} {s s1:PS} {bb:Bool} {X:Hp} {base:Nat->a2u} {n:Nat} {o:Option EX} {b:Bool} {p:Int} {g:Q->PS->Option EX} {K:V->Hp->Prop}
theorem c3v.mono {m:Nat} (L:c3v fx F base l m) (hn:n<=m):c3v fx F base l n:=⟨L.typ.mono hn,L.pat.mono hn,L.expr.mono hn,L.block.mono hn,L.operand.mono hn,L.pre.mono hn⟩
theorem h1s (c:isS l s [105,102]=true):true=a1e l 101 s:=by
 simp[a1e,anyS,e3j,c]
theorem d9d (W:Wk fx F base l) (L:c3v fx F base l n):∀ m,m<=n+1->a9r fx F base l m a7a [] fun _ _=> .cond
  |0,_=>fun _ _ _ _=>trivial
  |m+1,hm=>by
   have IH:=d9d W L m om
   replace L:=L.mono (n:=m) om
   intro s bb h hb
   refine a5e (b3o (F:=F)) rfl rfl rfl fun N=>?_
   have A:=At.start h hb
   have E:a0a l (goE l m) (prog .cond) s=goE l (m+1) .cond s:=rfl
   generalize goE l (m+1) .cond s=o at E N⊢
   replace E:=c0i E
   repeat' (first|refine a2y ⟨?_⟩|(refine a2k A ?_)|(refine a2i A ?_)|(refine a0d W A E ?_;clear A E;intro A E)|(refine a1d W A E ?_;clear A E;intro A E)|(refine a0n W A E ?_ ?_<;>clear A E<;>intro A E)|(refine a0r W A E ?_ ?_<;>clear A E<;>intro A E)|(refine a7h A E ?_ ?_<;>clear E<;>intro c E)|(refine a7x A E ?_ ?_<;>clear E<;>intro c E)|(refine a0g W A E ?_ ?_<;>clear A E<;>intro A E)|(refine a1h A E ?_ ?_<;>clear E<;>intro c E)|(refine a0j A E ?_ ?_<;>clear E<;>intro E)|(refine a2f A E N rfl rfl ?_;clear A E;intro i s2 E hat A)|(refine a0m A E N rfl rfl rfl ?_;clear A E;intro i s2 E hat A)|(refine a1f W A E N ?_;clear A E;intro A E)|exact a1i W A E|(refine And.intro ⟨rfl,by decide⟩ ?_)|(refine a0v W A E N ((d5m W L) _ _ A.ok A.bc) rfl (fun _ _=>rfl) ?_;clear A E;intro r s1 G A E)|(refine a0v W A E N (L.block _ _ A.ok A.bc) rfl (fun _ _=>rfl) ?_;clear A E;intro r s1 G A E)|(refine a0v W A E N (IH _ _ A.ok A.bc) rfl (fun _ _=>rfl) ?_;clear A E;intro r s1 G A E)|(refine a7o W A (h1s c) E ?_;clear A E;intro hB A E)|(refine g3i A E ?_;clear A E;intro A E)|(refine a5p 3 (by decide) (by decide) rfl ?_ ?_)|exact trivial|(refine And.intro ⟨rfl,rfl,of_decide_eq_true rfl⟩ ?_)|fail)
   all_goals exact⟨_,_,E.symm,rfl⟩
theorem f4h (W:Wk fx F base l) (L:c3v fx F base l n) (LB:a9r fx F base l n a7a [] fun _ _=> .cond) (LM:a9r fx F base l n a7s [] fun _ _=> .match_):a9r fx F base l (n+1) a3x [] fun _ _=> .branch:=by
  intro s bb h hb
  refine a5e (b3z (F:=F)) rfl rfl rfl fun N=>?_
  have A:=At.start h hb
  have E:a0a l (goE l n) (prog .branch) s=goE l (n+1) .branch s:=rfl
  generalize goE l (n+1) .branch s=o at E N⊢
  repeat' (first|refine a2y ⟨?_⟩|(refine a2k A ?_)|(refine a2i A ?_)|(refine a0d W A E ?_;clear A E;intro A E)|(refine a1d W A E ?_;clear A E;intro A E)|(refine a0n W A E ?_ ?_<;>clear A E<;>intro A E)|(refine a0r W A E ?_ ?_<;>clear A E<;>intro A E)|(refine a7h A E ?_ ?_<;>clear E<;>intro c E)|(refine a7x A E ?_ ?_<;>clear E<;>intro c E)|(refine a0g W A E ?_ ?_<;>clear A E<;>intro A E)|(refine a1h A E ?_ ?_<;>clear E<;>intro c E)|(refine a0j A E ?_ ?_<;>clear E<;>intro E)|(refine a2f A E N rfl rfl ?_;clear A E;intro i s2 E hat A)|(refine a0m A E N rfl rfl rfl ?_;clear A E;intro i s2 E hat A)|(refine a1f W A E N ?_;clear A E;intro A E)|exact a1i W A E|(refine And.intro ⟨rfl,by decide⟩ ?_)|(refine a0v W A E N (LB _ _ A.ok A.bc) rfl (fun _ _=>rfl) ?_;clear A E;intro r s1 G A E)|(refine a0v W A E N (LM _ _ A.ok A.bc) rfl (fun _ _=>rfl) ?_;clear A E;intro r s1 G A E)|(refine a0v W A E N (L.block _ _ A.ok A.bc) rfl (fun _ _=>rfl) ?_;clear A E;intro r s1 G A E)|fail)
  all_goals exact⟨_,_,E.symm,rfl⟩
theorem f2y {x:S} {k:Bool->Pr} (E:a0a l g (.text x k) s=o) (c:(!decide ((now l s).t=x))=true):a0a l g (k false) s=o:=by
 have:decide ((now l s).t=x)=false:=by simpa using c
 simp only[a0a,this]at E
 exact E
theorem f6o {x:S} {k:Bool->Pr} (E:a0a l g (.text x k) s=o) (c:(!decide ((now l s).t=x))=false):a0a l g (k true) s=o:=by
 have:decide ((now l s).t=x)=true:=by simpa using c
 simp only[a0a,this]at E
 exact E
theorem At.okF (A:At l true p s) (hl:LOk l):okF l (w (s.at_ - 1))=true:=by
 have h1:=a9b A.ok
 have h2:=A.lt rfl
 have h3:=A.lo
 have hlen:=hl.len
 have e:w (s.at_ - 1)=s.at_ - 1:=a2x om
 unfold Pa.okF
 rw[e]
 simp only[Bool.and_eq_true,decide_eq_true_eq]
 omega
theorem e5f (W:Wk fx F base l) (L:c3v fx F base l n) (LN:∀ (s:PS) (bb:Bool),okS l s=true->Zf s->(now l s).k=1->Says (pgL fx F) (base 0) a7r [.ptr 0 0] [QB l s bb,PR s] (goE l n (.named s.at_ bb) s) (leftV l bb [] fun r s'=> .d (b1v l s r s'))) (LR:a9r fx F base l n a3x [] fun _ _=> .branch):a9r fx F base l (n+1) a6e [] fun _ b=> .primary b:=by
  intro s bb h hb
  refine a5e (b2h (F:=F)) rfl rfl rfl fun N=>?_
  have A:=At.start h hb
  have E:a0a l (goE l n) (f5b (now l s) s.at_ bb) s=goE l (n+1) (.primary bb) s:=h3w W.hl A N rfl
  generalize goE l (n+1) (.primary bb) s=o at E N⊢
  unfold f5b at E
  cases k1:decide ((now l s).k=1)with
  |true=>
   simp only[k1]at E
   repeat' (first|refine a2y ⟨?_⟩|(refine a2k A ?_)|(refine a2i A ?_)|(refine a0d W A E ?_;clear A E;intro A E)|(refine a1d W A E ?_;clear A E;intro A E)|(refine a0n W A E ?_ ?_<;>clear A E<;>intro A E)|(refine a0r W A E ?_ ?_<;>clear A E<;>intro A E)|(refine a7h A E ?_ ?_<;>clear E<;>intro c E)|(refine a7x A E ?_ ?_<;>clear E<;>intro c E)|(refine a0g W A E ?_ ?_<;>clear A E<;>intro A E)|(refine a1h A E ?_ ?_<;>clear E<;>intro c E)|(refine a0j A E ?_ ?_<;>clear E<;>intro E)|(refine a2f A E N rfl rfl ?_;clear A E;intro i s2 E hat A)|(refine a0m A E N rfl rfl rfl ?_;clear A E;intro i s2 E hat A)|(refine a1f W A E N ?_;clear A E;intro A E)|exact a1i W A E|(refine And.intro ⟨rfl,by decide⟩ ?_)|(refine a0v W A E N (LN _ _ A.ok A.bc (of_decide_eq_true k1)) rfl (fun _ _=>rfl) ?_;clear A E;intro r s1 G A E)|fail)
   all_goals exact⟨_,_,E.symm,rfl⟩
  |false=>
   simp only[k1]at E
   cases k3:decide ((now l s).k=3)with
   |true=>
    simp only[k3]at E
    obtain⟨hadv,E⟩:=c5v E N
    have A1:=A.c8y W.hl hadv
    repeat' (first|refine a2y ⟨?_⟩|(refine a2k A ?_)|(refine a2i A ?_)|(refine a0d W A E ?_;clear A E;intro A E)|(refine a1d W A E ?_;clear A E;intro A E)|(refine a0n W A E ?_ ?_<;>clear A E<;>intro A E)|(refine a0r W A E ?_ ?_<;>clear A E<;>intro A E)|(refine a7h A E ?_ ?_<;>clear E<;>intro c E)|(refine a7x A E ?_ ?_<;>clear E<;>intro c E)|(refine a0g W A E ?_ ?_<;>clear A E<;>intro A E)|(refine a1h A E ?_ ?_<;>clear E<;>intro c E)|(refine a0j A E ?_ ?_<;>clear E<;>intro E)|(refine a2f A E N rfl rfl ?_;clear A E;intro i s2 E hat A)|(refine a0m A E N rfl rfl rfl ?_;clear A E;intro i s2 E hat A)|(refine a1f W A E N ?_;clear A E;intro A E)|exact a1i W A E|(refine And.intro ⟨rfl,by decide⟩ ?_)|(refine a2f A1 E N rfl rfl ?_;clear A E;intro i s2 E hat A)|fail)
    all_goals exact⟨_,_,E.symm,rfl⟩
   |false=>
    simp only[k3]at E
    repeat' (first|refine a2y ⟨?_⟩|(refine a2k A ?_)|(refine a2i A ?_)|(refine a0d W A E ?_;clear A E;intro A E)|(refine a1d W A E ?_;clear A E;intro A E)|(refine a0n W A E ?_ ?_<;>clear A E<;>intro A E)|(refine a0r W A E ?_ ?_<;>clear A E<;>intro A E)|(refine a7h A E ?_ ?_<;>clear E<;>intro c E)|(refine a7x A E ?_ ?_<;>clear E<;>intro c E)|(refine a0g W A E ?_ ?_<;>clear A E<;>intro A E)|(refine a1h A E ?_ ?_<;>clear E<;>intro c E)|(refine a0j A E ?_ ?_<;>clear E<;>intro E)|(refine a2f A E N rfl rfl ?_;clear A E;intro i s2 E hat A)|(refine a0m A E N rfl rfl rfl ?_;clear A E;intro i s2 E hat A)|(refine a1f W A E N ?_;clear A E;intro A E)|exact a1i W A E|(refine And.intro ⟨rfl,by decide⟩ ?_)|(refine b3f ?_)|(refine b6x (b1m (F:=F)) rfl rfl rfl ?_)|(refine b6x (b1f (F:=F)) rfl rfl rfl ?_)|(refine a0v W A E N (L.expr _ _ A.ok A.bc) rfl (fun _ _=>rfl) ?_;clear A E;intro r s1 G A E)|(refine a0v W A E N (LR _ _ A.ok A.bc) rfl (fun _ _=>rfl) ?_;clear A E;intro r s1 G A E)|(refine⟨_,_,rfl,rfl,?_⟩)|(refine d0c ?_)|(refine ca (f5c (A.okF W.hl)) ?_)|(refine And.intro ?_ ?_<;>intro c2<;>first|replace E:=f2y E c2|replace E:=f6o E c2)|(obtain⟨hadv,E⟩:=c5v E N;replace A:=A.c8y W.hl hadv)|fail)
    all_goals exact⟨_,_,E.symm,rfl⟩
end
end Go.Vm.Px
namespace Go.Vm.Px
open Go.Vm.Lex (TokQ)
open Go.Vm.Pa hiding go
open Go.Vm.Ite
set_option maxHeartbeats 4000000
section
variable {fx:Nat->Option Obj} {F:Nat->Option a1j} {l:List TokQ} {s s1:PS} {bb:Bool} {X:Hp} {base:Nat->a2u} {n:Nat} {o:Option EX} {b:Bool} {p:Int} {g:Q->PS->Option EX} {K:V->Hp->Prop}
theorem f4u (hl:LOk l) (h:okS l s=true):((now l s).e:Int)=(l.getD (w ((adv s).at_ - 1)).toNat default).e:=by
 have e:=c7p hl h
 have hr:=a9b h
 have hlen:=hl.len
 have e2:w ((adv s).at_ - 1)=s.at_:=by rw[e];exact(a2x om).trans om
 rw[e2];rfl
def c0q (a f e:Int):Ob:= .box [.d (.int .i64 a),.d (.int .i64 f),.d (.int .i64 e)]
theorem e8r (W:Wk fx F base l) (LP:a9r fx F base l n a6e [] fun _ b=> .primary b):a9r fx F base l (n+1) a3r [] fun _ b=> .postfix_ b:=by
  intro s bb h hb
  refine a5e (b2k (F:=F)) rfl rfl rfl fun N=>?_
  have A:=At.start h hb
  have E:a0a l (goE l n) (prog (.postfix_ bb)) s=goE l (n+1) (.postfix_ bb) s:=rfl
  generalize goE l (n+1) (.postfix_ bb) s=o at E N⊢
  replace E:=c0i E
  repeat' (first|refine a2y ⟨?_⟩|(refine a2k A ?_)|(refine a2i A ?_)|(refine a0d W A E ?_;clear A E;intro A E)|(refine a1d W A E ?_;clear A E;intro A E)|(refine a0n W A E ?_ ?_<;>clear A E<;>intro A E)|(refine a0r W A E ?_ ?_<;>clear A E<;>intro A E)|(refine a7h A E ?_ ?_<;>clear E<;>intro c E)|(refine a7x A E ?_ ?_<;>clear E<;>intro c E)|(refine a0g W A E ?_ ?_<;>clear A E<;>intro A E)|(refine a1h A E ?_ ?_<;>clear E<;>intro c E)|(refine a0j A E ?_ ?_<;>clear E<;>intro E)|(refine a2f A E N rfl rfl ?_;clear A E;intro i s2 E hat A)|(refine a0m A E N rfl rfl rfl ?_;clear A E;intro i s2 E hat A)|(refine a1f W A E N ?_;clear A E;intro A E)|exact a1i W A E|(refine And.intro ⟨rfl,by decide⟩ ?_)|(refine a0v W A E N (LP _ _ A.ok A.bc) rfl (fun _ _=>rfl) ?_;clear A E;intro r s1 G A E)|fail)
  refine b0q (α:=Int×PS) (fun a=>(l.length - a.2.at_).toNat) (fun _=>[(0,.ptr 0 0),(2,.ptr 2 0),(3,.ptr 3 0)]) (fun a=>[QB l a.2 bb,PR a.2,c0q 0 0 0,c0q a.1 (l.getD s.at_.toNat default).f (l.getD (w (a.2.at_ - 1)).toNat default).e]) (fun a=>At l true s.at_ a.2/\a0a l (goE l n) (.call (.gets s.at_ a.1) fun a=> .ret (rI a.i)) a.2=o) ?_ (r.i,s1) ⟨A,E⟩ rfl rfl
  clear A E
  rintro⟨a,s2⟩ ⟨A,E⟩
  simp only at A E
  replace E:=a6d N E
  have A0:=A.here
  repeat' (first|refine a2y ⟨?_⟩|(refine a0n W A0 E ?_ ?_<;>clear E<;>intro A1 E)|(refine a0d W A1 E ?_;clear E;intro A2 E)|(refine a0m (A.trans A2) E N rfl rfl (f4u W.hl A1.ok) ?_;clear E;intro i s3 E hat A3)|(refine And.intro ⟨rfl,by decide⟩ ?_)|fail)
  ·have h4:=A2.lt rfl
   have h5:=a9b A.ok
   have h6:=a9b A2.ok
   refine⟨(i,s3),⟨A3,E⟩,?_,rfl,rfl⟩
   show(l.length - s3.at_).toNat < (l.length - s2.at_).toNat
   omega
  ·exact⟨_,_,E.symm,rfl⟩
theorem d0z (hl:LOk l) (A:At l b p s) {r r1 lv:Int} (hr:r=0\/r=1\/r=2\/r=3\/r=4) (hlv:lv=r+1) (hw:w (r+1)=r1) {p0 a:Int} (N:o≠none) {kk:R->Pr} (E:a0a l (goE l n) (.call (.rows r bb p0 a) kk) s=o):
 (f7m (now l s)=lv/\At l true p (adv s)/\a0a l (goE l n) (.call (.row r1 bb) fun b=> .node p0 ⟨38,(now l s).t,0,two a b.i⟩ fun i=>match decide (r=2)with|true=>kk (rI i)|false=> .call (.rows r bb p0 i) kk) (adv s)=o)\/(f7m (now l s)≠lv/\a0a l (goE l n) (kk (rI a)) s=o):=by
 subst hlv;subst hw
 have E:=g7k (a6d N E)
 rcases sign_eq hl A.bc hr with⟨h1,h2,h3⟩|⟨h1,h2⟩
 ·left
  have h4:(!decide ((now l s).t=[]))=true:=by simp[h3]
  simp only[a0a,a0z,h2,h4]at E
  cases c:okS l (adv s)with
  |false=>rw[c]at E;exact absurd E.symm N
  |true=>
   rw[c]at E
   refine⟨h1,A.c8y hl c,?_⟩
   simp only[a0a]at E⊢
   cases c2:goE l n (.row (w (r+1)) bb) (adv s)with
   |none=>rw[c2]at E;exact E
   |some y=>
    rw[c2]at E
    cases y with
    |bad _ _ _=>exact E
    |ok r2 s2=>
     simp only at E⊢
     cases c3:okS l s2 with
     |false=>rw[c3]at E;exact E
     |true=>
      rw[c3]at E
      simp only[a0a]at E⊢
      cases c4:a2p l p0 ⟨38,(now l s).t,0,two a r2.i⟩ s2 with
      |none=>rw[c4]at E;exact E
      |some y=>
       obtain⟨i,s3⟩:=y
       rw[c4]at E
       simp only at E⊢
       cases c5:decide (r=2)<;>rw[c5]at E<;>exact E
 ·right
  refine⟨h1,?_⟩
  have h4:(!decide (([]:S)=[]))=false:=by simp
  simp only[a0a,a0z,h2,h4]at E
  exact E
theorem f1v (W:Wk fx F base l) (L:c3v fx F base l n):a9r fx F base l (n+1) a0k [.d (.int .i64 6)] fun _ b=> .row 5 b:=by
  intro s bb h hb
  refine a5e (a1s (F:=F)) rfl rfl rfl fun N=>?_
  have A:=At.start h hb
  have E:a0a l (goE l n) (.call (.prefix_ bb) .ret) s=goE l (n+1) (.row 5 bb) s:=rfl
  generalize goE l (n+1) (.row 5 bb) s=o at E N⊢
  repeat' (first|refine a2y ⟨?_⟩|(refine a2k A ?_)|(refine a2i A ?_)|(refine a0d W A E ?_;clear A E;intro A E)|(refine a1d W A E ?_;clear A E;intro A E)|(refine a0n W A E ?_ ?_<;>clear A E<;>intro A E)|(refine a0r W A E ?_ ?_<;>clear A E<;>intro A E)|(refine a7h A E ?_ ?_<;>clear E<;>intro c E)|(refine a7x A E ?_ ?_<;>clear E<;>intro c E)|(refine a0g W A E ?_ ?_<;>clear A E<;>intro A E)|(refine a1h A E ?_ ?_<;>clear E<;>intro c E)|(refine a0j A E ?_ ?_<;>clear E<;>intro E)|(refine a2f A E N rfl rfl ?_;clear A E;intro i s2 E hat A)|(refine a0m A E N rfl rfl rfl ?_;clear A E;intro i s2 E hat A)|(refine a1f W A E N ?_;clear A E;intro A E)|exact a1i W A E|(refine And.intro ⟨rfl,by decide⟩ ?_)|(refine a0v W A E N (L.pre _ _ A.ok A.bc) rfl (fun _ _=>rfl) ?_;clear A E;intro r s1 G A E)|fail)
  all_goals exact⟨_,_,E.symm,rfl⟩
theorem e7t (W:Wk fx F base l) (LB:a9r fx F base l n a0k [.d (.int .i64 6)] fun _ b=> .row 5 b):a9r fx F base l (n+1) a0k [.d (.int .i64 5)] fun _ b=> .row 4 b:=by
  intro s bb h hb
  refine a5e (a1s (F:=F)) rfl rfl rfl fun N=>?_
  have A:=At.start h hb
  have E:a0a l (goE l n) (.call (.row 5 bb) fun a=> .call (.rows 4 bb s.at_ a.i) fun a=> .ret (rI a.i)) s=goE l (n+1) (.row 4 bb) s:=rfl
  generalize goE l (n+1) (.row 4 bb) s=o at E N⊢
  repeat' (first|refine a2y ⟨?_⟩|(refine a2k A ?_)|(refine a2i A ?_)|(refine a0d W A E ?_;clear A E;intro A E)|(refine a1d W A E ?_;clear A E;intro A E)|(refine a0n W A E ?_ ?_<;>clear A E<;>intro A E)|(refine a0r W A E ?_ ?_<;>clear A E<;>intro A E)|(refine a7h A E ?_ ?_<;>clear E<;>intro c E)|(refine a7x A E ?_ ?_<;>clear E<;>intro c E)|(refine a0g W A E ?_ ?_<;>clear A E<;>intro A E)|(refine a1h A E ?_ ?_<;>clear E<;>intro c E)|(refine a0j A E ?_ ?_<;>clear E<;>intro E)|(refine a2f A E N rfl rfl ?_;clear A E;intro i s2 E hat A)|(refine a0m A E N rfl rfl rfl ?_;clear A E;intro i s2 E hat A)|(refine a1f W A E N ?_;clear A E;intro A E)|exact a1i W A E|(refine And.intro ⟨rfl,by decide⟩ ?_)|(refine a0v W A E N (LB _ _ A.ok A.bc) rfl (fun _ _=>rfl) ?_;clear A E;intro r s1 G A E)|fail)
  refine b0q (α:=Int×PS) (fun a=>(l.length - a.2.at_).toNat) (fun _=>[(0,.ptr 0 0),(1,.d (.int .i64 5)),(4,.ptr 2 0),(5,.ptr 3 0)]) (fun a=>[QB l a.2 bb,PR a.2,c0q 0 0 0,c0q a.1 (l.getD s.at_.toNat default).f (l.getD (w (a.2.at_ - 1)).toNat default).e]) (fun a=>At l true s.at_ a.2/\a0a l (goE l n) (.call (.rows 4 bb s.at_ a.1) fun a=> .ret (rI a.i)) a.2=o) ?_ (r.i,s1) ⟨A,E⟩ rfl rfl
  clear A E
  rintro⟨a,s2⟩ ⟨A,E⟩
  simp only at A E
  rcases d0z (lv:=5) (r1:=5) W.hl A (by decide) rfl (by decide) N E with⟨c,A1,E1⟩|⟨c,E1⟩
  ·have A2:=A.here.c8y W.hl A1.ok
   repeat' (first|refine a2y ⟨?_⟩|refine cxq (b6a A.ok) ?_|refine cxq (b4o A.ok) ?_|(refine a0v W A2 E1 N (LB _ _ A2.ok A2.bc) rfl (fun _ _=>rfl) ?_;clear E1;intro r3 s3 G A3 E1)|(refine a0m (A.trans A3) E1 N rfl rfl rfl ?_;clear E1;intro i s4 E1 hat A4)|(refine And.intro ⟨rfl,by decide⟩ ?_)|fail)
   have h4:=A3.lt rfl
   have h5:=a9b A.ok
   have h6:=a9b A3.ok
   refine⟨(i,s4),⟨A4,E1⟩,?_,rfl,rfl⟩
   show(l.length - s4.at_).toNat < (l.length - s2.at_).toNat
   omega
  ·repeat' (first|refine a2y ⟨?_⟩|refine cxq (b6a A.ok) ?_|fail)
   exact⟨_,_,E1.symm,rfl⟩
theorem e7p (W:Wk fx F base l) (LB:a9r fx F base l n a0k [.d (.int .i64 5)] fun _ b=> .row 4 b):a9r fx F base l (n+1) a0k [.d (.int .i64 4)] fun _ b=> .row 3 b:=by
  intro s bb h hb
  refine a5e (a1s (F:=F)) rfl rfl rfl fun N=>?_
  have A:=At.start h hb
  have E:a0a l (goE l n) (.call (.row 4 bb) fun a=> .call (.rows 3 bb s.at_ a.i) fun a=> .ret (rI a.i)) s=goE l (n+1) (.row 3 bb) s:=rfl
  generalize goE l (n+1) (.row 3 bb) s=o at E N⊢
  repeat' (first|refine a2y ⟨?_⟩|(refine a2k A ?_)|(refine a2i A ?_)|(refine a0d W A E ?_;clear A E;intro A E)|(refine a1d W A E ?_;clear A E;intro A E)|(refine a0n W A E ?_ ?_<;>clear A E<;>intro A E)|(refine a0r W A E ?_ ?_<;>clear A E<;>intro A E)|(refine a7h A E ?_ ?_<;>clear E<;>intro c E)|(refine a7x A E ?_ ?_<;>clear E<;>intro c E)|(refine a0g W A E ?_ ?_<;>clear A E<;>intro A E)|(refine a1h A E ?_ ?_<;>clear E<;>intro c E)|(refine a0j A E ?_ ?_<;>clear E<;>intro E)|(refine a2f A E N rfl rfl ?_;clear A E;intro i s2 E hat A)|(refine a0m A E N rfl rfl rfl ?_;clear A E;intro i s2 E hat A)|(refine a1f W A E N ?_;clear A E;intro A E)|exact a1i W A E|(refine And.intro ⟨rfl,by decide⟩ ?_)|(refine a0v W A E N (LB _ _ A.ok A.bc) rfl (fun _ _=>rfl) ?_;clear A E;intro r s1 G A E)|fail)
  refine b0q (α:=Int×PS) (fun a=>(l.length - a.2.at_).toNat) (fun _=>[(0,.ptr 0 0),(1,.d (.int .i64 4)),(4,.ptr 2 0),(5,.ptr 3 0)]) (fun a=>[QB l a.2 bb,PR a.2,c0q 0 0 0,c0q a.1 (l.getD s.at_.toNat default).f (l.getD (w (a.2.at_ - 1)).toNat default).e]) (fun a=>At l true s.at_ a.2/\a0a l (goE l n) (.call (.rows 3 bb s.at_ a.1) fun a=> .ret (rI a.i)) a.2=o) ?_ (r.i,s1) ⟨A,E⟩ rfl rfl
  clear A E
  rintro⟨a,s2⟩ ⟨A,E⟩
  simp only at A E
  rcases d0z (lv:=4) (r1:=4) W.hl A (by decide) rfl (by decide) N E with⟨c,A1,E1⟩|⟨c,E1⟩
  ·have A2:=A.here.c8y W.hl A1.ok
   repeat' (first|refine a2y ⟨?_⟩|refine cxq (b6a A.ok) ?_|refine cxq (b4o A.ok) ?_|(refine a0v W A2 E1 N (LB _ _ A2.ok A2.bc) rfl (fun _ _=>rfl) ?_;clear E1;intro r3 s3 G A3 E1)|(refine a0m (A.trans A3) E1 N rfl rfl rfl ?_;clear E1;intro i s4 E1 hat A4)|(refine And.intro ⟨rfl,by decide⟩ ?_)|fail)
   have h4:=A3.lt rfl
   have h5:=a9b A.ok
   have h6:=a9b A3.ok
   refine⟨(i,s4),⟨A4,E1⟩,?_,rfl,rfl⟩
   show(l.length - s4.at_).toNat < (l.length - s2.at_).toNat
   omega
  ·repeat' (first|refine a2y ⟨?_⟩|refine cxq (b6a A.ok) ?_|fail)
   exact⟨_,_,E1.symm,rfl⟩
theorem f1j (W:Wk fx F base l) (LB:a9r fx F base l n a0k [.d (.int .i64 4)] fun _ b=> .row 3 b):a9r fx F base l (n+1) a0k [.d (.int .i64 3)] fun _ b=> .row 2 b:=by
  intro s bb h hb
  refine a5e (a1s (F:=F)) rfl rfl rfl fun N=>?_
  have A:=At.start h hb
  have E:a0a l (goE l n) (.call (.row 3 bb) fun a=> .call (.rows 2 bb s.at_ a.i) fun a=> .ret (rI a.i)) s=goE l (n+1) (.row 2 bb) s:=rfl
  generalize goE l (n+1) (.row 2 bb) s=o at E N⊢
  repeat' (first|refine a2y ⟨?_⟩|(refine a2k A ?_)|(refine a2i A ?_)|(refine a0d W A E ?_;clear A E;intro A E)|(refine a1d W A E ?_;clear A E;intro A E)|(refine a0n W A E ?_ ?_<;>clear A E<;>intro A E)|(refine a0r W A E ?_ ?_<;>clear A E<;>intro A E)|(refine a7h A E ?_ ?_<;>clear E<;>intro c E)|(refine a7x A E ?_ ?_<;>clear E<;>intro c E)|(refine a0g W A E ?_ ?_<;>clear A E<;>intro A E)|(refine a1h A E ?_ ?_<;>clear E<;>intro c E)|(refine a0j A E ?_ ?_<;>clear E<;>intro E)|(refine a2f A E N rfl rfl ?_;clear A E;intro i s2 E hat A)|(refine a0m A E N rfl rfl rfl ?_;clear A E;intro i s2 E hat A)|(refine a1f W A E N ?_;clear A E;intro A E)|exact a1i W A E|(refine And.intro ⟨rfl,by decide⟩ ?_)|(refine a0v W A E N (LB _ _ A.ok A.bc) rfl (fun _ _=>rfl) ?_;clear A E;intro r s1 G A E)|fail)
  refine b0q (α:=Int×PS) (fun a=>(l.length - a.2.at_).toNat) (fun _=>[(0,.ptr 0 0),(1,.d (.int .i64 3)),(4,.ptr 2 0),(5,.ptr 3 0)]) (fun a=>[QB l a.2 bb,PR a.2,c0q 0 0 0,c0q a.1 (l.getD s.at_.toNat default).f (l.getD (w (a.2.at_ - 1)).toNat default).e]) (fun a=>At l true s.at_ a.2/\a0a l (goE l n) (.call (.rows 2 bb s.at_ a.1) fun a=> .ret (rI a.i)) a.2=o) ?_ (r.i,s1) ⟨A,E⟩ rfl rfl
  clear A E
  rintro⟨a,s2⟩ ⟨A,E⟩
  simp only at A E
  rcases d0z (lv:=3) (r1:=3) W.hl A (by decide) rfl (by decide) N E with⟨c,A1,E1⟩|⟨c,E1⟩
  ·have A2:=A.here.c8y W.hl A1.ok
   repeat' (first|refine a2y ⟨?_⟩|refine cxq (b6a A.ok) ?_|refine cxq (b4o A.ok) ?_|(refine a0v W A2 E1 N (LB _ _ A2.ok A2.bc) rfl (fun _ _=>rfl) ?_;clear E1;intro r3 s3 G A3 E1)|(refine a0m (A.trans A3) E1 N rfl rfl rfl ?_;clear E1;intro i s4 E1 hat A4)|(refine And.intro ⟨rfl,by decide⟩ ?_)|fail)
   exact⟨_,_,E1.symm,rfl⟩
  ·repeat' (first|refine a2y ⟨?_⟩|refine cxq (b6a A.ok) ?_|fail)
   exact⟨_,_,E1.symm,rfl⟩
theorem e8w (W:Wk fx F base l) (LB:a9r fx F base l n a0k [.d (.int .i64 3)] fun _ b=> .row 2 b):a9r fx F base l (n+1) a0k [.d (.int .i64 2)] fun _ b=> .row 1 b:=by
  intro s bb h hb
  refine a5e (a1s (F:=F)) rfl rfl rfl fun N=>?_
  have A:=At.start h hb
  have E:a0a l (goE l n) (.call (.row 2 bb) fun a=> .call (.rows 1 bb s.at_ a.i) fun a=> .ret (rI a.i)) s=goE l (n+1) (.row 1 bb) s:=rfl
  generalize goE l (n+1) (.row 1 bb) s=o at E N⊢
  repeat' (first|refine a2y ⟨?_⟩|(refine a2k A ?_)|(refine a2i A ?_)|(refine a0d W A E ?_;clear A E;intro A E)|(refine a1d W A E ?_;clear A E;intro A E)|(refine a0n W A E ?_ ?_<;>clear A E<;>intro A E)|(refine a0r W A E ?_ ?_<;>clear A E<;>intro A E)|(refine a7h A E ?_ ?_<;>clear E<;>intro c E)|(refine a7x A E ?_ ?_<;>clear E<;>intro c E)|(refine a0g W A E ?_ ?_<;>clear A E<;>intro A E)|(refine a1h A E ?_ ?_<;>clear E<;>intro c E)|(refine a0j A E ?_ ?_<;>clear E<;>intro E)|(refine a2f A E N rfl rfl ?_;clear A E;intro i s2 E hat A)|(refine a0m A E N rfl rfl rfl ?_;clear A E;intro i s2 E hat A)|(refine a1f W A E N ?_;clear A E;intro A E)|exact a1i W A E|(refine And.intro ⟨rfl,by decide⟩ ?_)|(refine a0v W A E N (LB _ _ A.ok A.bc) rfl (fun _ _=>rfl) ?_;clear A E;intro r s1 G A E)|fail)
  refine b0q (α:=Int×PS) (fun a=>(l.length - a.2.at_).toNat) (fun _=>[(0,.ptr 0 0),(1,.d (.int .i64 2)),(4,.ptr 2 0),(5,.ptr 3 0)]) (fun a=>[QB l a.2 bb,PR a.2,c0q 0 0 0,c0q a.1 (l.getD s.at_.toNat default).f (l.getD (w (a.2.at_ - 1)).toNat default).e]) (fun a=>At l true s.at_ a.2/\a0a l (goE l n) (.call (.rows 1 bb s.at_ a.1) fun a=> .ret (rI a.i)) a.2=o) ?_ (r.i,s1) ⟨A,E⟩ rfl rfl
  clear A E
  rintro⟨a,s2⟩ ⟨A,E⟩
  simp only at A E
  rcases d0z (lv:=2) (r1:=2) W.hl A (by decide) rfl (by decide) N E with⟨c,A1,E1⟩|⟨c,E1⟩
  ·have A2:=A.here.c8y W.hl A1.ok
   repeat' (first|refine a2y ⟨?_⟩|refine cxq (b6a A.ok) ?_|refine cxq (b4o A.ok) ?_|(refine a0v W A2 E1 N (LB _ _ A2.ok A2.bc) rfl (fun _ _=>rfl) ?_;clear E1;intro r3 s3 G A3 E1)|(refine a0m (A.trans A3) E1 N rfl rfl rfl ?_;clear E1;intro i s4 E1 hat A4)|(refine And.intro ⟨rfl,by decide⟩ ?_)|fail)
   have h4:=A3.lt rfl
   have h5:=a9b A.ok
   have h6:=a9b A3.ok
   refine⟨(i,s4),⟨A4,E1⟩,?_,rfl,rfl⟩
   show(l.length - s4.at_).toNat < (l.length - s2.at_).toNat
   omega
  ·repeat' (first|refine a2y ⟨?_⟩|refine cxq (b6a A.ok) ?_|fail)
   exact⟨_,_,E1.symm,rfl⟩
theorem e5c (W:Wk fx F base l) (LB:a9r fx F base l n a0k [.d (.int .i64 2)] fun _ b=> .row 1 b):a9r fx F base l (n+1) a0k [.d (.int .i64 1)] fun _ b=> .row 0 b:=by
  intro s bb h hb
  refine a5e (a1s (F:=F)) rfl rfl rfl fun N=>?_
  have A:=At.start h hb
  have E:a0a l (goE l n) (.call (.row 1 bb) fun a=> .call (.rows 0 bb s.at_ a.i) fun a=> .ret (rI a.i)) s=goE l (n+1) (.row 0 bb) s:=rfl
  generalize goE l (n+1) (.row 0 bb) s=o at E N⊢
  repeat' (first|refine a2y ⟨?_⟩|(refine a2k A ?_)|(refine a2i A ?_)|(refine a0d W A E ?_;clear A E;intro A E)|(refine a1d W A E ?_;clear A E;intro A E)|(refine a0n W A E ?_ ?_<;>clear A E<;>intro A E)|(refine a0r W A E ?_ ?_<;>clear A E<;>intro A E)|(refine a7h A E ?_ ?_<;>clear E<;>intro c E)|(refine a7x A E ?_ ?_<;>clear E<;>intro c E)|(refine a0g W A E ?_ ?_<;>clear A E<;>intro A E)|(refine a1h A E ?_ ?_<;>clear E<;>intro c E)|(refine a0j A E ?_ ?_<;>clear E<;>intro E)|(refine a2f A E N rfl rfl ?_;clear A E;intro i s2 E hat A)|(refine a0m A E N rfl rfl rfl ?_;clear A E;intro i s2 E hat A)|(refine a1f W A E N ?_;clear A E;intro A E)|exact a1i W A E|(refine And.intro ⟨rfl,by decide⟩ ?_)|(refine a0v W A E N (LB _ _ A.ok A.bc) rfl (fun _ _=>rfl) ?_;clear A E;intro r s1 G A E)|fail)
  refine b0q (α:=Int×PS) (fun a=>(l.length - a.2.at_).toNat) (fun _=>[(0,.ptr 0 0),(1,.d (.int .i64 1)),(4,.ptr 2 0),(5,.ptr 3 0)]) (fun a=>[QB l a.2 bb,PR a.2,c0q 0 0 0,c0q a.1 (l.getD s.at_.toNat default).f (l.getD (w (a.2.at_ - 1)).toNat default).e]) (fun a=>At l true s.at_ a.2/\a0a l (goE l n) (.call (.rows 0 bb s.at_ a.1) fun a=> .ret (rI a.i)) a.2=o) ?_ (r.i,s1) ⟨A,E⟩ rfl rfl
  clear A E
  rintro⟨a,s2⟩ ⟨A,E⟩
  simp only at A E
  rcases d0z (lv:=1) (r1:=1) W.hl A (by decide) rfl (by decide) N E with⟨c,A1,E1⟩|⟨c,E1⟩
  ·have A2:=A.here.c8y W.hl A1.ok
   repeat' (first|refine a2y ⟨?_⟩|refine cxq (b6a A.ok) ?_|refine cxq (b4o A.ok) ?_|(refine a0v W A2 E1 N (LB _ _ A2.ok A2.bc) rfl (fun _ _=>rfl) ?_;clear E1;intro r3 s3 G A3 E1)|(refine a0m (A.trans A3) E1 N rfl rfl rfl ?_;clear E1;intro i s4 E1 hat A4)|(refine And.intro ⟨rfl,by decide⟩ ?_)|fail)
   have h4:=A3.lt rfl
   have h5:=a9b A.ok
   have h6:=a9b A3.ok
   refine⟨(i,s4),⟨A4,E1⟩,?_,rfl,rfl⟩
   show(l.length - s4.at_).toNat < (l.length - s2.at_).toNat
   omega
  ·repeat' (first|refine a2y ⟨?_⟩|refine cxq (b6a A.ok) ?_|fail)
   exact⟨_,_,E1.symm,rfl⟩
end
end Go.Vm.Px
namespace Go.Vm.Px
open Go.Vm.Lex (TokQ)
open Go.Vm.Pa hiding go
open Go.Vm.Ite
set_option maxHeartbeats 4000000
theorem stpy {P Q:Prop} (q:Q) (g:Q->P:=by
  first
   |exact g8k|exact e8c|exact h1i|exact f7d|exact f9i|exact g9c|exact f8j|exact f0m|exact f7k|exact e9e|exact e0i|exact d8s|exact e0q|exact d4v):P:=g q
theorem runy {P Q:Prop} (q:Left Q) (h:Left Q->P:=by
  intro q
  first
   |((with_reducible show WX _ _ _ _ _ _ _ _ _);refine stpy ?_)
   |((fail_if_success (with_reducible show WX _ _ _ _ _ _ _ _ _));(conv=>whnf);first|(with_reducible show WX _ _ _ _ _ _ _ _ _)|refine h4k ?_)
  repeat' (first
    |((with_reducible show WX _ _ _ _ _ _ _ _ _);refine stpy ?_)
    |((fail_if_success (with_reducible show WX _ _ _ _ _ _ _ _ _));(conv=>whnf);first|(with_reducible show WX _ _ _ _ _ _ _ _ _)|refine h4k ?_)
    |fail)
  exact q.f):P:=h q
def f7x (fr:Int) (k:Int->Pr):Pr:= .need [108,101,116] (.take [109,117,116] fun m=> .name fun t=> .take [58] fun b=>match b with
  |true=> .call .typ fun x=> .need [61] (.call (.expr false) fun y=>match m with
   |true=> .node fr ⟨21,t,1,two x.i y.i⟩ k
   |false=> .node fr ⟨21,t,0,two x.i y.i⟩ k)
  |false=> .need [61] (.call (.expr false) fun y=>match m with
   |true=> .node fr ⟨21,t,1,Pa.one y.i⟩ k
   |false=> .node fr ⟨21,t,0,Pa.one y.i⟩ k))
section
variable {fx:Nat->Option Obj} {F:Nat->Option a1j} {l:List TokQ} {s s1:PS} {bb:Bool} {X:Hp} {base:Nat->a2u} {n:Nat} {o:Option EX} {b:Bool} {p:Int} {g:Q->PS->Option EX} {K:V->Hp->Prop}
theorem h8b (W:Wk fx F base l) (L:c3v fx F base l n) (s:PS) (h:okS l s=true) (hb:Zf s):Says (pgL fx F) (base 0) b8y [.ptr 0 0] [QB l s false,PR s] (a0a l (goE l n) (f7x s.at_ fun i=> .ret (rI i)) s) (leftV l false [] fun r s'=> .d (b1v l s r s')):=by
  refine a5e (c0e (F:=F)) rfl rfl rfl fun N=>?_
  have A:=At.start h hb
  generalize E:a0a l (goE l n) (f7x s.at_ fun i=> .ret (rI i)) s=o at N⊢
  unfold f7x at E
  repeat' (first|refine a2y ⟨?_⟩|(refine a2k A ?_)|(refine a2i A ?_)|(refine a0d W A E ?_;clear A E;intro A E)|(refine a1d W A E ?_;clear A E;intro A E)|(refine a0n W A E ?_ ?_<;>clear A E<;>intro A E)|(refine a0r W A E ?_ ?_<;>clear A E<;>intro A E)|(refine a7h A E ?_ ?_<;>clear E<;>intro c E)|(refine a7x A E ?_ ?_<;>clear E<;>intro c E)|(refine a0g W A E ?_ ?_<;>clear A E<;>intro A E)|(refine a1h A E ?_ ?_<;>clear E<;>intro c E)|(refine a0j A E ?_ ?_<;>clear E<;>intro E)|(refine a2f A E N rfl rfl ?_;clear A E;intro i s2 E hat A)|(refine a0m A E N rfl rfl rfl ?_;clear A E;intro i s2 E hat A)|(refine a1f W A E N ?_;clear A E;intro A E)|exact a1i W A E|(refine And.intro ⟨rfl,by decide⟩ ?_)|(refine a0v W A E N (L.typ _ _ A.ok A.bc) rfl (fun _ _=>rfl) ?_;clear A E;intro r s1 G A E)|(refine a0v W A E N (L.expr _ _ A.ok A.bc) rfl (fun _ _=>rfl) ?_;clear A E;intro r s1 G A E)|(refine a5p 3 (by decide) (by decide) rfl ?_ ?_)|exact trivial|(refine And.intro ⟨rfl,rfl,of_decide_eq_true rfl⟩ ?_)|(refine Exists.intro _ (Exists.intro _ (And.intro rfl (And.intro rfl ?_))))|(refine Exists.intro _ (Exists.intro _ (And.intro rfl ?_)))|fail)
  all_goals exact⟨_,_,E.symm,rfl⟩
theorem h8k {p0:Int} (N:o≠none) (E:a0a l (goE l n) (.call (.let_ p0) fun r=> .ret (rI r.i)) s=o):a0a l (goE l n) (a0z (f7x p0 fun i=> .ret (rI i)) fun r=> .need [59] (.ret (rI r.i))) s=o:=by
  have E:=a6d N E
  have e:a0z (prog (.let_ p0)) (fun r=> .ret (rI r.i))=a0z (f7x p0 fun i=> .ret (rI i)) fun r=> .need [59] (.ret (rI r.i)):=by
    simp only[prog,f7x,endP,a0z]
    congr 2
    funext m
    congr 1
    funext t
    congr 1
    funext b
    cases b<;>cases m<;>simp only[a0z]
  rw[e]at E
  exact E
theorem i0j {P Q:Pr} (E:a0a l g (.is [105,102] fun b=>match b with|true=>P|false=> .is [109,97,116,99,104] fun b=>match b with|true=>P|false=> .is [123] fun b=>match b with|true=>P|false=>Q) s=o):a0a l g (isB fun b=>match b with|true=>P|false=>Q) s=o:=by
  simp only[isB,a0a]at E⊢
  cases c1:isS l s [105,102]<;>cases c2:isS l s [109,97,116,99,104]<;>cases c3:isS l s [123]<;>simp only[c1,c2,c3,a0a]at E⊢ <;>exact E
theorem i0g {P Q R:Pr} (E:a0a l g (.take [61] fun b=>match b with|true=>P|false=> .is [125] fun b=>match b with|true=>Q|false=>R) s=o):a0a l g (.is [125] fun b=>match b with|true=>Q|false=> .take [61] fun b=>match b with|true=>P|false=>R) s=o:=by
  simp only[a0a]at E⊢
  by_cases h:isS l s [61]=true
  ·have h2:=c8f h (y:=[125]) (by decide)
   simp only[h,h2,a0a]at E⊢
   exact E
  have h:=eq_false_of_ne_true h
  simp only[h,a0a]at E
  cases c:isS l s [125]<;>simp only[c,h,a0a]at E⊢ <;>exact E
theorem d2p (W:Wk fx F base l) (A:At l true p s) {D:Go.Vm.D->Prop} {x:S} {m:N} {k:Int->Pr} (E:a0a l g (.node p m fun i=> .take x fun _=>k i) s=o) (N:o≠none)
    (h:∀ b' s1,s.ns.length=s.n->s.n < 1000000->s1.ns=s.ns->s1.n=s.n->At l true p s1->a0a l g (k (w (((s.n+1:Nat):Int) - 1))) (c4m m (l.getD p.toNat default).f (l.getD (w (s.at_ - 1)).toNat default).e s1)=o->K (.d (.bool b')) (QB l s1 bb::PR s1::X)):
    a3u (pgL fx F) (a1p (pgL fx F) (base 0)) a3a [.ptr 0 0,.d (.str x)] (QB l s bb::PR s::X) K D:=by
  simp only[a0a]at E
  cases c:a2p l p m s with
  |none=>rw[c]at E;exact absurd E.symm N
  |some q=>
   obtain⟨i,s1⟩:=q
   rw[c]at E
   obtain⟨ha,hn,hn2,rfl,rfl⟩:=b5f c (A.lt rfl)
   simp only at E
   have e:isS l (c4m m (l.getD p.toNat default).f (l.getD (w (s.at_ - 1)).toNat default).e s) x=isS l s x:=rfl
   rw[e]at E
   cases c2:isS l s x with
   |true=>rw[c2]at E;exact cxq (c1p A.ok c2) (h true (adv s) hn hn2 rfl rfl (A.adv W.hl (b7e c2)) E)
   |false=>rw[c2]at E;exact cxq (c1p A.ok c2) (h false s hn hn2 rfl rfl A E)
abbrev doN (i:Int):N:=⟨22,[],0,Pa.one i⟩
theorem g0u {p0:Int} {k:Int->Pr}:Eat eats (f7x p0 k):=by simp[f7x,Eat]
theorem d5b (W:Wk fx F base l) (LR:a9r fx F base l n a3x [] fun _ _=> .branch):f8u fx F base l (n+1) a5i fun p=> .blocky p:=by
  intro s h hb
  refine f0c (b0x (F:=F)) rfl rfl rfl fun N=>?_
  have A:=At.start h hb
  have E:a0a l (goE l n) (prog (.blocky s.at_)) s=goE l (n+1) (.blocky s.at_) s:=rfl
  generalize goE l (n+1) (.blocky s.at_) s=o at E N⊢
  repeat' (first|refine a2y ⟨?_⟩|(refine a2k A ?_)|(refine a2i A ?_)|(refine a0d W A E ?_;clear A E;intro A E)|(refine a1d W A E ?_;clear A E;intro A E)|(refine a0n W A E ?_ ?_<;>clear A E<;>intro A E)|(refine a0r W A E ?_ ?_<;>clear A E<;>intro A E)|(refine a7h A E ?_ ?_<;>clear E<;>intro c E)|(refine a7x A E ?_ ?_<;>clear E<;>intro c E)|(refine a0g W A E ?_ ?_<;>clear A E<;>intro A E)|(refine a1h A E ?_ ?_<;>clear E<;>intro c E)|(refine a0j A E ?_ ?_<;>clear E<;>intro E)|(refine a2f A E N rfl rfl ?_;clear A E;intro i s2 E hat A)|(refine a0m A E N rfl rfl rfl ?_;clear A E;intro i s2 E hat A)|(refine a1f W A E N ?_;clear A E;intro A E)|exact a1i W A E|(refine And.intro ⟨rfl,by decide⟩ ?_)|(refine a0v W A E N (LR _ _ A.ok A.bc) rfl (fun _ _=>rfl) ?_;clear A E;intro r s1 G A E)|(refine d2p W A E N ?_;clear A E;intro b' s2 hn hn2 h1 h2 A E)|(refine cxq (c4s (h1.symm ▸ h2.symm ▸ hn) (h2.symm ▸ hn2) (doN r.i) 0 0 _ _) ?_)|fail)
  all_goals first|exact⟨_,_,E.symm,rfl,_,_,rfl⟩|(rw[<-h2]at E;exact⟨_,_,E.symm,rfl,_,_,rfl⟩)
theorem g8a (W:Wk fx F base l) (L:c3v fx F base l n) (LS:f8u fx F base l n a5i fun p=> .blocky p):f8u fx F base l (n+1) a4u fun _=> .stmt:=by
  intro s h hb
  refine f0c (b7q (F:=F)) rfl rfl rfl fun N=>?_
  have A:=At.start h hb
  have E:a0a l (goE l n) (prog .stmt) s=goE l (n+1) .stmt s:=rfl
  generalize goE l (n+1) .stmt s=o at E N⊢
  replace E:=c0i E
  repeat' (first|(refine a5p 6 (by decide) (by decide) rfl ?_ ?_)|refine runy ⟨?_⟩|(refine a2k A ?_)|(refine a2i A ?_)|(refine a0d W A E ?_;clear A E;intro A E)|(refine a1d W A E ?_;clear A E;intro A E)|(refine a0n W A E ?_ ?_<;>clear A E<;>intro A E)|(refine a0r W A E ?_ ?_<;>clear A E<;>intro A E)|(refine a7h A E ?_ ?_<;>clear E<;>intro c E)|(refine a7x A E ?_ ?_<;>clear E<;>intro c E)|(refine a0g W A E ?_ ?_<;>clear A E<;>intro A E)|(refine a1h A E ?_ ?_<;>clear E<;>intro c E)|(refine a0j A E ?_ ?_<;>clear E<;>intro E)|(refine a2f A E N rfl rfl ?_;clear A E;intro i s2 E hat A)|(refine a0m A E N rfl rfl rfl ?_;clear A E;intro i s2 E hat A)|(refine a1f W A E N ?_;clear A E;intro A E)|exact a1i W A E|(refine And.intro ⟨rfl,by decide⟩ ?_)|(refine a0v W A E N ((d5m W L) _ _ A.ok A.bc) rfl (fun _ _=>rfl) ?_;clear A E;intro r s1 G A E)|(refine a0v W A E N (L.block _ _ A.ok A.bc) rfl (fun _ _=>rfl) ?_;clear A E;intro r s1 G A E)|(refine a0v W A E N (L.expr _ _ A.ok A.bc) rfl (fun _ _=>rfl) ?_;clear A E;intro r s1 G A E)|(refine g8q W A (h8k N E) N (h8b W L _ A.ok A.bc) rfl (fun _ _=>rfl) g0u ?_;clear A E;intro r s1 A E)|(refine d6v W A E N (LS _ A.ok A.bc) rfl e0z ?_;clear A E;rintro r s1 v G ⟨_,f,e,rfl⟩ A E)|(replace E:=i0j E)|(replace E:=i0g E)|(refine cxq (f5c (A.okF W.hl)) ?_)|(refine a5p 3 (by decide) (by decide) rfl ?_ ?_)|exact trivial|(refine And.intro ⟨rfl,rfl,of_decide_eq_true rfl⟩ ?_)|fail)
  all_goals exact⟨_,_,E.symm,rfl,_,_,rfl⟩
end
end Go.Vm.Px
namespace Go.Vm.Px
open Go.Vm.Lex (TokQ)
open Go.Vm.Pa hiding go
open Go.Vm.Ite
set_option maxHeartbeats 4000000
section
variable {fx:Nat->Option Obj} {F:Nat->Option a1j} {l:List TokQ} {s s1:PS} {bb:Bool} {X:Hp} {base:Nat->a2u} {n:Nat} {o:Option EX} {b:Bool} {p:Int} {g:Q->PS->Option EX} {K:V->Hp->Prop}
def dn (d:Bool):Int:=match d with|true=>1|false=>0
def stE (l:List TokQ) (g:Q->PS->Option EX) (kk:R->Pr) (ks:Pa.K) (d:Bool) (s:PS):Option EX:=match d with
 |true=>a0a l g (kk ⟨0,true,ks,1⟩) s
 |false=>a0a l g (.call (.stmts ks) kk) s
theorem f3r (W:Wk fx F base l) (LS:f8u fx F base l n a4u fun _=> .stmt) {kk:R->Pr} (N:o≠none) {Z T:Ob} {k:Int} {t:S} {ks0:Pa.K}
    (A0:At l false p s) (E0:a0a l (goE l n) (.call (.stmts ks0) kk) s=o)
    (h:∀ r s1,At l false p s1->a0a l (goE l n) (kk r) s1=o->K (.tup []) (QB l s1 false::PR s1::XN Z T k t r.v r.ks [])):
    a3u (pgL fx F) (a1p (pgL fx F) (base 0)) b2s [.ptr 2 0,.ptr 5 0] (QB l s false::PR s::XN Z T k t 0 ks0 []) K (c7z o):=by
  refine b6x (b2l (F:=F)) rfl rfl rfl ?_
  repeat' (first|refine a2y ⟨?_⟩|fail)
  refine b0q (α:=Pa.K×Bool×PS) (fun a=>(l.length - a.2.2.at_).toNat) (fun _=>[(0,.ptr 2 0),(1,.ptr 5 0)]) (fun a=>QB l a.2.2 false::PR a.2.2::XN Z T k t (dn a.2.1) a.1 []) (fun a=>At l false p a.2.2/\stE l (goE l n) kk a.1 a.2.1 a.2.2=o) ?_ (ks0,false,s) ⟨A0,E0⟩ rfl rfl
  rintro⟨ks,d,s2⟩ ⟨A,E⟩
  simp only at A E
  cases d with
  |true=>
   cases c:isS l s2 [125]
   all_goals
    repeat' (first|refine a2y ⟨?_⟩|refine cxq (a4q A.ok c) ?_|fail)
    have:=h ⟨0,true,ks,1⟩ s2 A E
    exact this
  |false=>
   replace E:a0a l (goE l n) (.is [125] fun b=>match b with|true=>kk (rK ks)|false=> .call .stmt fun r=>a0z (guard (okK ks) (match r.b with|true=> .ret ⟨0,true,push ks r.i,1⟩|false=> .tail (.stmts (push ks r.i)))) kk) s2=o:=by
     have:=g7k (a6d N E)
     simp only[a0z,a0a]at this⊢
     cases c:isS l s2 [125]<;>rw[c]at this<;>first|exact this|simpa only[a0z] using this
   have A':=A.here
   repeat' (first|refine a2y ⟨?_⟩|(refine a7h A' E ?_ ?_<;>clear E<;>intro c E)|fail)
   ·have:=h (rK ks) s2 A E
    exact this
   ·have hk:=f5g N W.hl A' E
    repeat' (first|refine a2y ⟨?_⟩|(refine d6v W A' E N (LS _ A'.ok A'.bc) rfl e0z ?_;clear E;rintro r s3 v G ⟨_,f,e,rfl⟩ A3 E;have hg:=a2r (hk r s3 G);replace E:=c4b N E;cases hr:r.b<;>rw[hr]at E)|refine And.intro ⟨rfl,by decide⟩ ?_|refine And.intro ⟨rfl,hg.1,hg.2⟩ ?_|fail)
    all_goals
     have h3:=A3.lt rfl
     have h5:=a9b A3.ok
    ·refine⟨(push ks r.i,false,s3),⟨(A.trans A3).weak,E⟩,?_,rfl,rfl⟩
     show(l.length - s3.at_).toNat < (l.length - s2.at_).toNat
     omega
    ·refine⟨(push ks r.i,true,s3),⟨(A.trans A3).weak,E⟩,?_,rfl,rfl⟩
     show(l.length - s3.at_).toNat < (l.length - s2.at_).toNat
     omega
end
end Go.Vm.Px
namespace Go.Vm.Px
open Go.Vm.Lex (TokQ)
open Go.Vm.Pa hiding go
open Go.Vm.Ite
set_option maxHeartbeats 4000000
def pFn (p0:Int) (k:Int->Pr):Pr:= .name fun t=> .need [40] (.call (.params K.o ((K.o.n:Nat):Int)) fun p=> .need [41] (.take [45,62] fun b=>match b with
  |true=> .call .typ fun r=>guard (okK p.ks) (.call .block fun q=>guard (okK (push p.ks r.i)) (guard (okK (push (push p.ks r.i) q.i)) (.node p0 ⟨2,t,p.v,(push (push p.ks r.i) q.i).l⟩ k)))
  |false=> .unit fun i=>guard (okK p.ks) (.call .block fun q=>guard (okK (push p.ks i)) (guard (okK (push (push p.ks i) q.i)) (.node p0 ⟨2,t,p.v,(push (push p.ks i) q.i).l⟩ k)))))
def d1k (p0:Int) (n:Int) (k:Int->Pr):Pr:= .name fun t=> .need [123] (.call (.fields n K.o) fun p=> .need [125] (guard (okK p.ks) (.node p0 ⟨n,t,0,p.ks.l⟩ k)))
def f6h (p0:Int) (k:Int->Pr):Pr:= .take [102,110] fun b=>match b with
  |true=>pFn p0 k
  |false=> .take [115,116,114,117,99,116] fun b=>match b with
  |true=>d1k p0 3 k
  |false=> .take [101,110,117,109] fun b=>match b with
  |true=>d1k p0 4 k
  |false=> .fail .dead
section
variable {fx:Nat->Option Obj} {F:Nat->Option a1j} {l:List TokQ} {s s1:PS} {bb:Bool} {X:Hp} {base:Nat->a2u} {n:Nat} {o:Option EX} {b:Bool} {p:Int} {g:Q->PS->Option EX} {K:V->Hp->Prop}
theorem a6h {c:Bool} {q:Pr} {k:R->Pr}:a0z (Pa.guard c q) k=Pa.guard c (a0z q k):=by cases c<;>rfl
theorem fn_E {p0:Int} (E:a0a l g (a0z (prog .function) .ret) s=o) (h:isS l s [102,110]=true) (hp:p0=s.at_):a0a l g (pFn p0 fun i=> .ret (rI i)) (adv s)=o:=by
  subst hp
  unfold pFn
  simp only[prog,mkP,a0z,a6h,a0a,h]at E⊢
  cases c1:decide ((now l (adv s)).k=1)with
  |false=>rw[c1]at E;exact E
  |true=>
   rw[c1]at E
   simp only at E⊢
   cases c2:isS l (adv (adv s)) [40] with
   |false=>rw[c2]at E;exact E
   |true=>
    rw[c2]at E
    simp only at E⊢
    change (match g (Q.params K.o 0) (adv (adv (adv s)))with|some (EX.ok r s1)=>_|x=>x)=o
    cases c3:g (Q.params K.o 0) (adv (adv (adv s)))with
    |none=>rw[c3]at E;exact E
    |some y=>
     rw[c3]at E
     cases y with
     |bad _ _ _=>exact E
     |ok r s1=>
      simp only at E⊢
      cases c4:okS l s1 with
      |false=>rw[c4]at E;exact E
      |true=>
       rw[c4]at E
       simp only at E⊢
       cases c5:isS l s1 [41] with
       |false=>rw[c5]at E;exact E
       |true=>
        rw[c5]at E
        simp only at E⊢
        cases c6:isS l (adv s1) [45,62] with
        |false=>rw[c6]at E;simp only[a0z,a6h,a0a]at E⊢;exact E
        |true=>rw[c6]at E;simp only[a0z,a6h,a0a]at E⊢;exact E
theorem g7w (hl:LOk l) (A:At l b p s) (N:o≠none) (E:a0a l (goE l n) (prog .item) s=o):a0a l (goE l n) (f6h s.at_ fun i=> .ret (rI i)) s=o:=by
  unfold f6h
  simp only[prog,a0a]at E⊢
  by_cases h:isS l s [115,116,114,117,99,116]=true
  ·have h1:=c8f h (y:=[102,110]) (by decide)
   rw[h]at E
   have E:=a6d N E
   simp only[prog,mkP,a0z,a6h,a0a,a5a hl A.ok (b7e h)]at E
   simp only[h,h1,a0a,d1k]
   exact E
  have h:=eq_false_of_ne_true h
  rw[h]at E
  simp only[a0a]at E
  by_cases h2:isS l s [101,110,117,109]=true
  ·have h1:=c8f h2 (y:=[102,110]) (by decide)
   rw[h2]at E
   have E:=a6d N E
   simp only[prog,mkP,a0z,a6h,a0a,a5a hl A.ok (b7e h2)]at E
   simp only[h,h1,h2,a0a,d1k]
   exact E
  have h2:=eq_false_of_ne_true h2
  rw[h2]at E
  have E:=a6d N E
  cases h1:isS l s [102,110] with
  |false=>
   simp only[prog,mkP,a0z,a0a,h1]at E
   simp only[h,h2,a0a]
   exact E
  |true=>exact fn_E E h1 rfl
abbrev rP (ks:Pa.K):R:=⟨0,false,ks,(ks.n:Int)⟩
theorem f4j (N:o≠none) {kk:R->Pr} (ks:Pa.K) (s:PS) (E:a0a l (goE l n) (.call (.params ks ((ks.n:Nat):Int)) kk) s=o):a0a l (goE l n) (a0z (f8m [41] .param ks (fun ks=> .params ks ((ks.n:Nat):Int)) rP) kk) s=o:=by
  have E:=g7k (a6d N E)
  simp only[f8m,a0z,a6h,a0a]at E⊢
  cases c1:isS l s [41] with
  |true=>rw[c1]at E;exact E
  |false=>
   rw[c1]at E
   simp only[a0z,a6h,a0a]at E⊢
   cases c2:goE l n .param s with
   |none=>rw[c2]at E;exact E
   |some y=>
    rw[c2]at E
    cases y with
    |bad _ _ _=>exact E
    |ok r s1=>
     simp only at E⊢
     cases c3:okS l s1 with
     |false=>rw[c3]at E;exact E
     |true=>
      rw[c3]at E
      cases c4:okK ks with
      |false=>rw[c4]at E;exact absurd E.symm N
      |true=>
       rw[c4]at E
       simp only[Pa.guard,a0a]at E⊢
       have e:w ((ks.n:Int)+1)=((push ks r.i).n:Int):=by
        unfold okK at c4
        simp only[Bool.and_eq_true,decide_eq_true_eq]at c4
        show w ((ks.n:Int)+1)=((ks.n+1:Nat):Int)
        exact(a2x om).trans om
       rw[e]at E
       cases c5:isS l s1 [44] with
       |false=>rw[c5]at E;exact E
       |true=>rw[c5]at E;exact E
theorem e5g (N:o≠none) {kk:R->Pr} (ks:Pa.K) (s:PS) (E:a0a l (goE l n) (.call (.fields 3 ks) kk) s=o):a0a l (goE l n) (a0z (f8m [125] .field ks (.fields 3) rK) kk) s=o:=a6d N E
theorem f0n (N:o≠none) {kk:R->Pr} (ks:Pa.K) (s:PS) (E:a0a l (goE l n) (.call (.fields 4 ks) kk) s=o):a0a l (goE l n) (a0z (f8m [125] .variant ks (.fields 4) rK) kk) s=o:=a6d N E
theorem e4f {i:Int} (e:a6p l s=some (i,s1)):okF l (w (s.at_ - 1))=true/\s.ns.length=s.n/\s.n < 1000000/\i=w (((s.n+1:Nat):Int) - 1)/\s1=c4m ⟨12,[],0,[]⟩ (l.getD (w (s.at_ - 1)).toNat default).e (l.getD (w (s.at_ - 1)).toNat default).e s:=by
 unfold a6p at e
 split at e
 ·rename_i hg
  obtain⟨hn,hn2,ha⟩:=hg
  simp only[Option.some.injEq,Prod.mk.injEq]at e
  obtain⟨rfl,rfl⟩:=e
  exact⟨ha,hn,hn2,rfl,rfl⟩
 ·cases e
abbrev h0c:N:=⟨12,[],0,[]⟩
theorem h1g (A:At l b p s) {D:Go.Vm.D->Prop} {k:Int->Pr} (E:a0a l g (.unit k) s=o) (N:o≠none) {Y:Go.Vm.D} (hY:Y=h0c.D 0 0) {f:Int} (hf:f=(l.getD (w (s.at_ - 1)).toNat default).e)
 (h:∀ i s1,a0a l g (k i) s1=o->s1.at_=s.at_->At l b p s1->K (.d (c2x i f f)) (QB l s1 bb::PR s1::X)):
 a3u (pgL fx F) (a1p (pgL fx F) (base 0)) a4l [.ptr 0 0,.d Y,.d (.int .i64 f),.d (.int .i64 f)] (QB l s bb::PR s::X) K D:=by
 subst hY;subst hf
 simp only[a0a]at E
 cases c:a6p l s with
 |none=>rw[c]at E;exact absurd E.symm N
 |some q=>
  obtain⟨i,s1⟩:=q
  rw[c]at E
  obtain⟨ha,hn,hn2,rfl,rfl⟩:=e4f c
  refine cxq (c4s hn hn2 h0c 0 0 _ _) ?_
  have:=h _ _ E rfl (A.same rfl c0k.rfl')
  exact this
theorem g7g (W:Wk fx F base l) (L:c3v fx F base l n) (LP:a9r fx F base l n a1w [.d (.int .i64 7)] fun _ _=> .param) (LF:a9r fx F base l n a1w [.d (.int .i64 5)] fun _ _=> .field) (LV:a9r fx F base l n a3s [] fun _ _=> .variant):a9r fx F base l (n+1) a4s [] fun _ _=> .item:=by
  intro s bb h hb
  refine a5e (b6j (F:=F)) rfl rfl rfl fun N=>?_
  have A:=At.start h hb
  have E:a0a l (goE l n) (f6h s.at_ fun i=> .ret (rI i)) s=goE l (n+1) .item s:=g7w W.hl A N rfl
  generalize goE l (n+1) .item s=o at E N⊢
  unfold f6h pFn d1k at E
  repeat' (first|(refine a5p 6 (by decide) (by decide) rfl ?_ ?_)|(refine a5p 3 (by decide) (by decide) rfl ?_ ?_)|refine a2y ⟨?_⟩|(refine a2k A ?_)|(refine a2i A ?_)|(refine a0d W A E ?_;clear A E;intro A E)|(refine a1d W A E ?_;clear A E;intro A E)|(refine a0n W A E ?_ ?_<;>clear A E<;>intro A E)|(refine a0r W A E ?_ ?_<;>clear A E<;>intro A E)|(refine a7h A E ?_ ?_<;>clear E<;>intro c E)|(refine a7x A E ?_ ?_<;>clear E<;>intro c E)|(refine a0g W A E ?_ ?_<;>clear A E<;>intro A E)|(refine a1h A E ?_ ?_<;>clear E<;>intro c E)|(refine a0j A E ?_ ?_<;>clear E<;>intro E)|(refine a2f A E N rfl rfl ?_;clear A E;intro i s2 E hat A)|(refine a0m A E N rfl rfl rfl ?_;clear A E;intro i s2 E hat A)|(refine a1f W A E N ?_;clear A E;intro A E)|exact a1i W A E|(refine And.intro ⟨rfl,by decide⟩ ?_)|exact trivial|(refine e7o W (f4j N) N (e5h W LP) A E ?_;clear A E;intro ks s1 A E)|(refine e7o W (e5g N) N (f0l W LF) A E ?_;clear A E;intro ks s1 A E)|(refine e7o W (f0n N) N (d5i W LV) A E ?_;clear A E;intro ks s1 A E)|(refine a0v W A E N (L.typ _ _ A.ok A.bc) rfl (fun _ _=>rfl) ?_;clear A E;intro r s1 G A E)|(refine a0v W A E N (L.block _ _ A.ok A.bc) rfl (fun _ _=>rfl) ?_;clear A E;intro r s1 G A E)|(refine cxq (f5c (A.okF W.hl)) ?_)|(refine h1g A E N rfl rfl ?_;clear A E;intro i s2 E hat A)|(refine And.intro ⟨rfl,(a2r gk).1,(a2r gk).2⟩ ?_)|(refine And.intro (a2r gk).1 ?_)|(obtain⟨gk,E⟩:=c4r N E)|fail)
  all_goals exact⟨_,_,E.symm,rfl⟩
end
end Go.Vm.Px
namespace Go.Vm.Px
open Go.Vm.Lex (TokQ)
open Go.Vm.Pa hiding go
open Go.Vm.Ite
set_option maxHeartbeats 4000000
def b6c (l:List TokQ):Option EX->Option EX
 |some (.ok r s1)=>match okS l s1 && okK r.ks && decide (s1.ns.length=s1.n) && decide (s1.n < 1000000)with
  |true=>some (.ok (rI (w (((s1.n+1:Nat):Int) - 1))) (c4m ⟨1,[],0,r.ks.l⟩ 0 (now l s1).e s1))
  |false=>none
 |x=>x
section
variable {fx:Nat->Option Obj} {F:Nat->Option a1j} {l:List TokQ} {s s1:PS} {bb:Bool} {X:Hp} {base:Nat->a2u} {n:Nat} {o:Option EX} {b:Bool} {p:Int} {g:Q->PS->Option EX} {K:V->Hp->Prop}
theorem f9r {x:Go.Vm.D} (h:c7z o x):c7z (b6c l o) x:=by
 obtain⟨c,f,e,rfl,h2⟩:=h
 exact⟨c,f,e,rfl,h2⟩
theorem g2f (W:Wk fx F base l) (LI:a9r fx F base l n a4s [] fun _ _=> .item) (s:PS) (bb:Bool) (h:okS l s=true) (hb:Zf s):Says (pgL fx F) (base 0) a7t [.ptr 0 0] [QB l s bb,PR s] (b6c l (goE l n (.items Pa.K.o) s)) (leftV l bb [] fun r s'=> .d (c2x r.i 0 (now l s').e)):=by
  refine a5e (b5w (F:=F)) rfl rfl rfl fun N=>?_
  have A:=At.start h hb
  have E:=d8t (n:=n) W.hl A (.items Pa.K.o)
  generalize goE l n (.items Pa.K.o) s=o at E N⊢
  have N2:o≠none:=fun hn=>by rw[hn]at N;exact N rfl
  repeat' (first|refine a2y ⟨?_⟩|fail)
  refine b0q (α:=Pa.K×PS) (fun a=>(l.length - a.2.at_).toNat) (fun _=>[(0,.ptr 0 0),(2,.ptr 2 0),(3,.ptr 3 0)]) (fun a=>[QB l a.2 bb,PR a.2,c0q 0 0 0,g1s 0 [] 0 a.1.n 4,.row 1 a.1.l]) (fun a=>At l false s.at_ a.2/\a0a l (goE l n) (.call (.items a.1) .ret) a.2=o) ?_ (Pa.K.o,s) ⟨A,E⟩ rfl rfl
  clear E
  rintro⟨ks,s2⟩ ⟨A2,E⟩
  simp only at A2 E
  have E:=g7k (a6d N2 E)
  have A':=A2.here
  cases c:decide ((now l s2).k=5)with
  |true=>
   simp only[a0a,a0z,c]at E
   have hc:(!decide ((now l s2).k=5))=false:=by rw[c];rfl
   subst E
   have hN:(okS l s2 && okK ks && decide (s2.ns.length=s2.n) && decide (s2.n < 1000000))=true:=by
    cases h0:(okS l s2 && okK ks && decide (s2.ns.length=s2.n) && decide (s2.n < 1000000))with
    |true=>rfl
    |false=>exact absurd (by show b6c l (some (.ok (rK ks) s2))=none;simp only[b6c,h0]) N
   have hN2:=hN
   simp only[Bool.and_eq_true,decide_eq_true_eq]at hN2
   obtain⟨⟨⟨_,gk⟩,hn⟩,hn2⟩:=hN2
   repeat' (first|refine a2y ⟨?_⟩|refine cxq (a3k A2.ok) ?_|(refine d0c ?_)|refine ca (a3k A2.ok) ?_|refine And.intro (a2r gk).1 ?_|refine cxq (c4s hn hn2 ⟨1,[],0,ks.l⟩ 0 0 _ _) ?_|fail)
   refine⟨rI (w (((s2.n+1:Nat):Int) - 1)),c4m ⟨1,[],0,ks.l⟩ 0 (now l s2).e s2,?_,rfl⟩
   show b6c l (some (.ok (rK ks) s2))=_
   simp only[b6c,hN]
  |false=>
   simp only[a0a,c,a0z]at E
   replace E:a0a l (goE l n) (.call .item fun r=>a0z (guard (okK ks) (.tail (.items (push ks r.i)))) .ret) s2=o:=by
     simp only[a0a];exact E
   have hk:=f5g N2 W.hl A' E
   have hc:(!decide ((now l s2).k=5))=true:=by rw[c];rfl
   repeat' (first|refine a2y ⟨?_⟩|refine cxq (a3k A2.ok) ?_|(refine a5p 3 (by decide) (by decide) rfl ?_ ?_)|exact trivial|(refine d8c (a0v W A' E N2 (LI _ _ A'.ok A'.bc) rfl (fun _ _=>rfl) ?_) (fun _ _ h=>h) (fun _=>f9r);clear E;intro r s3 G A3 E;have hg:=a2r (hk r s3 G);replace E:=c4b N2 E)|refine And.intro ⟨rfl,by decide⟩ ?_|refine And.intro ⟨rfl,hg.1,hg.2⟩ ?_|fail)
   have h3:=A3.lt rfl
   have h5:=a9b A3.ok
   refine⟨(push ks r.i,s3),⟨(A2.trans A3).weak,E⟩,?_,rfl,rfl⟩
   show(l.length - s3.at_).toNat < (l.length - s2.at_).toNat
   omega
end
end Go.Vm.Px
namespace Go.Vm
def c5y (lv:Nat) (ops:List Oper):Option Nat:=match ops with
 |[_,o2]=>(match o2.op,o2.guard,o2.dst with
  | .defer c,none,none=>(match c.callee,c.args.toList with
    | .value (.func f),[.tmp t]=>if f=lv then some t else none
    |_,_=>none)
  |_,_,_=>none)
 |_=>none
section
variable {dl:List Deferred} {P:Program} {g:Gh} {w:World} {K:Hp->Prop} {pay:D->Value} {pg:Pg}
theorem c2e (hT:a3g P pg) (hmx:P.follows .mixedOrders=true) {lv t:Nat} {ops:Array Oper} {id:Nat} (hd:c5y lv ops.toList=some t) {v1 v2:a0b} (ht:a1l P ops ops.toList=some [v1,v2]) {N:Nat} (hN:v1.okN N=true) (htN:t < N) {s s1:St}
 (h:a0f pg.toCx (evF pg) v1 s=some s1) {a:Act} (ok:a0x [] pg.toCx N g s a w) {Q:Exit->Act->World->Prop}
 (hq:∀ g' a' w' y,a0x [{target:= .fn (.func lv) #[],args:= #[y]}] pg.toCx N g' s1 a' w'->Ext s.b g s.h w g' s1.h w'->Rep g' s1.h (a1k s1.e t) y->(a1k s1.e t).und s1.h.length=true->Q .normal a' w'):(Code.region id ops false).wp P Q a w:=by
 have hS:=b8e hT hmx
 unfold c5y at hd
 split at hd
 ·rename_i o1 o2 hops
  have hops':ops= #[o1,o2]:=by apply Array.ext';simpa using hops
  subst hops'
  split at hd
  ·rename_i c hop hg hdst
   split at hd
   ·rename_i f t' hcal hargs
    split at hd
    ·rename_i hf
     subst hf
     cases hd
     simp only[a1l]at ht
     split at ht
     ·rename_i u1 u2 hu1 hu2
      simp only[Option.some.injEq,List.cons.injEq]at ht
      obtain⟨rfl,rfl⟩:=ht
      apply wp_region
      show Go.wpOps P #[o1,o2] Q [0,1] a w
      rw[Go.wpOps_cons]
      refine a3d hS (i:=0) (co:=o1) (by simp) hu1 hN h ok fun g' x w' ok' ext'=>?_
      rw[Go.wpOps_cons]
      unfold wpOp
      simp only[show(#[o1,o2]:Array Oper)[1]? =some o2 by simp]
      rw[if_pos (by simp[Region.wanted,hg])]
      left
      unfold Oper.wp
      have hca:c.args= #[.tmp t]:=by apply Array.ext';simpa using hargs
      have hrun:(execOp (a.put o1.dst x).eval o2).run P w'= .ok (.defer {target:= .fn (.func f) #[],args:= #[(a.put o1.dst x).eval (.tmp t)]}) w':=by
       obtain⟨callee,ar,at'⟩:=c
       simp only at hcal hca
       subst hcal;subst hca
       simp[execOp,hop,resolve,Act.eval,Deferred.ofValue]
      rw[hrun,Oper.upon_defer]
      have he:=ok'.env.2 t htN
      refine hq g' _ w' ((a.put o1.dst x).eval (.tmp t)) ⟨ok'.inv,?_,?_,ok'.base⟩ ext' he.1 he.2
      ·rw[hdst];exact ok'.env
      ·rw[hdst]
       show _::(a.put o1.dst x).defers=_
       rw[ok'.defers]
     ·cases ht
    ·cases hd
   ·cases hd
  ·cases hd
 ·cases hd
theorem d1r (hT:a3g P pg) (hmx:P.follows .mixedOrders=true) {f:Nat} {vf:VFn} (ht:pg.tbl f=some (.code vf)) {args:List V} (hu:a0w 0 args=false) {H:Hp} {r:V} {H':Hp} (h:evF pg f args H=some (r,H')) (hI:Inv pg.toCx g H w) {cargs:Array Value} (ra:a0t g H args cargs.toList) (ua:a0w H.length args=true) (u:FrameMode):
 (invoke (.fn (.func f) #[]) cargs).run P w= .ok (.enter f cargs) w/\CallsD P f cargs u w fun e u' w'=>u'=u/\∃ g' x,e= .returned x/\Inv pg.toCx g' H' w'/\Rep g' H' r x/\r.und H'.length=true/\Ext H.length g H w g' H' w':=by
 obtain⟨n,hn⟩:=a5t.1 h
 cases n with
 |zero=>cases(a9e pg _ _ _).symm.trans hn
 |succ n=>
  obtain⟨hS,hL⟩:=b1y hT hmx n
  rw[a5m]at hn
  unfold c1y at hn
  rw[ht]at hn
  simp only at hn
  obtain⟨fn,A,hf,hname,htr,hok⟩:=hT f _ ht
  obtain⟨c0,hb0,_⟩:=a4f htr
  split at hn
  ·rename_i hl
   rw[hu]at hn
   simp only[Bool.false_and,bare]at hn
   obtain⟨c,hb,hw⟩:=e6k hS hmx hL hf htr hok hl hn hI ra ua
   refine⟨?_,callsD_of_wp hf hb hw⟩
   have:=a7e (P:=P) (w:=w) hf (by rw[hb];rfl) hname cargs
   simpa [invoke] using this
  ·cases hn
abbrev offD (lv:Nat) (y:Value):Deferred:={target:= .fn (.func lv) #[],args:= #[y]}
def Reach (P:Program) (pg:Pg) (lv N:Nat) (c:Code) (s:St) (t:Nat) (s1:St) (rest:Code):Prop:=∀ {g:Gh} {a:Act} {w:World},a0x [] pg.toCx N g s a w->∀ {Q:Exit->Act->World->Prop},
 (∀ g' a' w' y,a0x [offD lv y] pg.toCx N g' s1 a' w'->Ext s.b g s.h w g' s1.h w'->Rep g' s1.h (a1k s1.e t) y->(a1k s1.e t).und s1.h.length=true->rest.wp P Q a' w')->c.wp P Q a w
theorem c8d (hT:a3g P pg) (hmx:P.follows .mixedOrders=true) {lv t:Nat} {ops:Array Oper} {id:Nat} (hd:c5y lv ops.toList=some t) {v1 v2:a0b} (ht:a1l P ops ops.toList=some [v1,v2]) {N:Nat} (hN:v1.okN N=true) (htN:t < N) {s s1:St}
 (h:a0f pg.toCx (evF pg) v1 s=some s1) (rest:Code):Reach P pg lv N (.seq (.region id ops false) rest) s t s1 rest:=fun ok Q hq=>by
 apply wp_seq
 exact c2e hT hmx hd ht hN htN h ok fun g' a' w' y h1 h2 h3 h4=>hq g' a' w' y h1 h2 h3 h4
theorem b0w (hT:a3g P pg) (hmx:P.follows .mixedOrders=true) {lv t N:Nat} {A:Ann} {c d rest:Code} {v:a0e} (ht:tr P A c=some v) (hN:v.okN N=true) {s s' s1:St} (h:ev pg v s=some (.nrm,s')) (hr:Reach P pg lv N d s' t s1 rest):Reach P pg lv N (.seq c d) s t s1 rest:=fun ok Q hq=>by
  apply wp_seq
  have hb:=h1f hT hmx h
  refine b7s hT hmx ht hN h ok fun g1 a1 w1 ok1 e1=>?_
  exact hr ok1 fun g' a' w' y h1 h2 h3 h4=>hq g' a' w' y h1 (e1.trans h2 om) h3 h4
theorem g7u (hT:a3g P pg) (hmx:P.follows .mixedOrders=true) {f lv:Nat} {vl:VFn} (hlv:pg.tbl lv=some (.code vl)) {fn:Func} {A:Ann} {vf:VFn} {c rest:Code} {vrest:a0e} (hf:P.funcs[f]? =some fn) (hname:(fn.name== "runtime.NumGoroutine")=false) (hb:fn.body=some c)
 (hres:c1i P fn.results.toList=some vf.res) (k2:vf.res.all (d5w vf.nt)=true) (k3:vf.np<=vf.nt) (hnt:vf.nt=fn.ntmps) (htr:tr P A rest=some vrest) (hN:vrest.okN vf.nt=true) {args:List V} (hl:args.length=vf.np) {H:Hp} {t p:Nat} {s1 s2:St} {x:Ex} {H3 H':Hp} {r:V}
 (hR:Reach P pg lv vf.nt c ⟨a1a args,H,H.length⟩ t s1 rest) (hy:a1k s1.e t= .ptr p 0) (hb1:s1.b=H.length) (hev:ev pg vrest s1=some (x,s2)) (hx:x= .nrm\/x= .ret) (hlev:evF pg lv [.ptr p 0] s2.h=some (.tup [],H3)) (hlv':leave vf H.length ⟨s2.e,H3,s2.b⟩=some (r,H')):a1x P pg.toCx f args H r H':=by
 refine⟨⟨fn,hf,by rw[hb];rfl,hname⟩,fun g w cargs hI ra ua=>calls_of_wp_defers hf hb ?_⟩
 have ok0:a0x [] pg.toCx vf.nt g ⟨a1a args,H,H.length⟩ {tmps:=cargs++Array.replicate (fn.ntmps - cargs.size) undef,defers:=[]} w:=
  ⟨hI,by rw[<-hnt];exact a8i ra ua om,rfl,Nat.le_refl _⟩
 refine hR ok0 fun g1 a1 w1 y ok1 e1 ry uy=>?_
 refine b7s hT hmx htr hN hev ok1 fun g2 a2 w2 ok2 e2=>?_
 have goal:Leaves P fn a2.tmps (fun e w'=> ∃ g' x,e= .returned x/\Inv pg.toCx g' H' w'/\Rep g' H' r x/\r.und H'.length=true/\Ext H.length g H w g' H' w') a2.defers .returning w2:=by
   rw[ok2.defers]
   have e12:Ext H.length g H w g2 s2.h w2:=e1.trans (e2.le (by rw[hb1];exact Nat.le_refl _)) (Nat.le_refl _)
   rw[hy]at ry uy
   have ry2:Rep g2 s2.h (.ptr p 0) y:=a2m e2.keep.w _ _ uy ry
   have uy2:(V.ptr p 0).und s2.h.length=true:=V.a6b e2.len _ uy
   obtain⟨hinv,hcall⟩:=d1r hT hmx hlv (args:=[.ptr p 0]) rfl hlev ok2.inv (cargs:= #[y]) (by simp only[a0t];exact⟨y,[],rfl,ry2,rfl⟩) (by simp only[a0w,uy2,Bool.and_self]) .returning
   refine leaves_cons (by simp) hinv (hcall.mono fun e u' w3 he=>?_)
   obtain⟨rfl,g3,x3,rfl,i3,_,_,e3⟩:=he
   show ∃ v,(results fn a2.tmps).run P w3= .ok v w3/\_
   have e3':Ext H.length g2 s2.h w2 g3 H3 w3:=e3.le (by have:=e12.len;omega)
   have env3:a8g g3 H3 vf.nt s2.e a2.tmps:=ok2.env.ext e3
   have eAll:Ext H.length g H w g3 H3 w3:=e12.trans e3' (Nat.le_refl _)
   unfold leave at hlv'
   split at hlv'
   ·cases hlv'
   ·rename_i vs hvs
    obtain⟨ys,y1,y2,y3⟩:=b6z (P:=P) (fn:=fn) i3 env3 hres k2 hvs
    refine⟨_,y1,?_⟩
    split at hlv'
    ·cases hlv'
     exact⟨g3,_,rfl,i3,b3j y2,b4l y3,eAll⟩
    ·simp only at hlv'
     split at hlv'
     ·rename_i hu
      cases hlv'
      have hlen:H.length<=H3.length:=eAll.len
      have hc:=eAll.clean H.length (Nat.le_refl _) hI.und
      have ra':=a5c i3 y2
      have ra2:=a4c (a5o g3 H3 H.length) _ _ hu ra'
      refine⟨g3.cut H.length,_,rfl,i3.restrict hlen hc,b3j ra2,?_,eAll.cut rfl (Nat.le_refl _)⟩
      rw[List.length_take,Nat.min_eq_left hlen]
      exact b4l hu
     ·cases hlv'
 rcases hx with rfl|rfl<;>exact goal
theorem f4z (hT:a3g P pg) (hmx:P.follows .mixedOrders=true) {dd:a2u} (hD:b1a P pg.toCx K pay dd) {f lv:Nat} {vl:VFn} (hlv:pg.tbl lv=some (.code vl)) {fn:Func} {A:Ann} {np nt:Nat} {c rest:Code} {vrest:a0e} (hf:P.funcs[f]? =some fn) (hname:(fn.name== "runtime.NumGoroutine")=false) (hb:fn.body=some c)
 (k3:np<=nt) (hnt:nt=fn.ntmps) (htr:tr P A rest=some vrest) (hN:vrest.okN nt=true) {args:List V} (hl:args.length=np) {H:Hp} {t p:Nat} {s1:St} {x:D}
 (hR:Reach P pg lv nt c ⟨a1a args,H,H.length⟩ t s1 rest) (hy:a1k s1.e t= .ptr p 0) (hb1:s1.b=H.length) (hdie:a2b pg dd vrest s1 x) (hK:∀ H2,K H2->∃ H3,evF pg lv [.ptr p 0] H2=some (.tup [],H3)/\K H3):b1l P pg.toCx K pay f args H x:=by
 refine⟨⟨fn,hf,by rw[hb];rfl,hname⟩,fun g w cargs hI ra ua=>calls_of_wp_defers hf hb ?_⟩
 have ok0:a0x [] pg.toCx nt g ⟨a1a args,H,H.length⟩ {tmps:=cargs++Array.replicate (fn.ntmps - cargs.size) undef,defers:=[]} w:=
  ⟨hI,by rw[<-hnt];exact a8i ra ua om,rfl,Nat.le_refl _⟩
 refine hR ok0 fun g1 a1 w1 y ok1 e1 ry uy=>?_
 refine c1z hT hmx hD rest vrest htr hN hdie ok1 fun g2 H2 a2 w2 hdl i2 hk2 e2=>?_
 show Leaves P fn a2.tmps _ a2.defers (.panicking _) w2
 rw[hdl]
 obtain⟨H3,hlev,hk3⟩:=hK H2 hk2
 have e12:Ext H.length g H w g2 H2 w2:=e1.trans (e2.le (by rw[hb1];exact Nat.le_refl _)) (Nat.le_refl _)
 rw[hy]at ry uy
 have ry2:Rep g2 H2 (.ptr p 0) y:=a2m e2.keep.w _ _ uy ry
 have uy2:(V.ptr p 0).und H2.length=true:=V.a6b e2.len _ uy
 obtain⟨hinv,hcall⟩:=d1r hT hmx hlv (args:=[.ptr p 0]) rfl hlev i2 (cargs:= #[y]) (by simp only[a0t];exact⟨y,[],rfl,ry2,rfl⟩) (by simp only[a0w,uy2,Bool.and_self]) (.panicking [{v:=pay x,recovered:=false }])
 refine leaves_cons (by simp) hinv (hcall.mono fun e u' w3 he=>?_)
 obtain⟨rfl,g3,x3,rfl,i3,_,_,e3⟩:=he
 show ∃ g' H',_
 exact⟨g3,H3,rfl,i3,hk3,e12.trans (e3.le (by have:=e12.len;omega)) (Nat.le_refl _)⟩
end
end Go.Vm
namespace Go.Vm
open Go.ChangeMaps (setBlock)
section
variable {P:Program} {cx:Cx} {g:Gh} {H:Hp} {w:World}
theorem Inv.untr {w':World} (hI:Inv cx g H w) (hs:w.heap.size<=w'.heap.size) (hh:∀ b,((∃ i c,g.J i=some (b,c))\/g.C b≠[]\/cx.fx b≠none)->w'.heap[b]? =w.heap[b]?):Inv cx g H w':=by
 refine⟨hI.inj,fun i b c h=>⟨(hI.dom i b c h).1,Nat.lt_of_lt_of_le (hI.dom i b c h).2 hs⟩,fun i b c o h ho=>?_,fun b hb=>?_,hI.und,hI.glob,fun i o hi=>?_⟩
 ·exact(hI.ob i b c o h ho).ext (Keep.refl H.length g H).w (hh b (.inl ⟨i,c,h⟩)) rfl (by rintro c' rfl;exact hI.und i c' (hI.dom i b c h).1 ho)
 ·rw[hh b (.inr (.inl hb))];exact hI.imm b hb
 ·obtain⟨h1,h2⟩:=hI.fix i o hi
  exact⟨by rw[hh i (.inr (.inr (by rw[hi];simp)))];exact h1,h2⟩
theorem g4j {ops:Array Oper} {i:Nat} {op:Op} {dst:Option Nat} (h:(ops[i]?).map (fun o=>(o.op,o.dst,o.guard))=some (op,dst,none)) {Q:Exit->Act->World->Prop} {K:Act->World->Prop} {a:Act} {w':World} {x:Value} (hrun:∀ o:Oper,o.op=op->(execOp a.eval o).run P w= .ok (.value x) w') (hk:K (a.put dst x) w'):wpOp P ops Q i K a w:=by
  obtain⟨o,ho,he⟩:=Option.map_eq_some_iff.1 h
  simp only[Prod.mk.injEq]at he
  obtain⟨e1,e2,e3⟩:=he
  unfold wpOp
  simp only[ho]
  rw[if_pos (by simp[Region.wanted,e3])]
  refine .inl ?_
  unfold Oper.wp
  rw[hrun o e1,Oper.upon_value,e2]
  exact hk
theorem c9h {pg:Pg} (hT:a3g P pg) (hmx:P.follows .mixedOrders=true) {A:Ann} {N:Nat} (c:Code) (v:a0e) (ht:tr P A c=some v) (hN:v.okN N=true) {s:St} {a:Act} {x:Ex} {s':St} (h:ev pg v s=some (x,s')) (ok:c2r pg.toCx N g s a w)
 {Q:Exit->Act->World->Prop} (hq:∀ g' a' w',c2r pg.toCx N g' s' a' w'->Ext s.b g s.h w g' s'.h w'->Q x.out a' w'):c.wp P Q a w:=by
 obtain⟨n,hn⟩:=c1f h
 obtain⟨hS,hL⟩:=b1y hT hmx n
 exact b5i hS hmx hL c v ht hN hn ok hq
theorem b7h {f:Nat} {fn:Func} {c:Code} {rs:List d1x} {N:Nat} (hf:P.funcs[f]? =some fn) (hb:fn.body=some c) (hname:(fn.name== "runtime.NumGoroutine")=false) (hres:c1i P fn.results.toList=some rs) (hrs:rs.all (d5w N)=true) (hnt:N=fn.ntmps) {args:List V} (hl:args.length<=N) (hu:a0w 0 args=true) {r:V} (hr0:r.und 0=true)
 (hwp:∀ g w a,c2r cx N g ⟨a1a args,[],0⟩ a w->c.wp P (fun x a' w'=>(x= .normal\/x= .ret)/\∃ g' s' vs,c2r cx N g' s' a' w'/\Ext 0 g [] w g' s'.h w'/\a9u s'.e s'.h rs=some vs/\a0w 0 (vs.map (toArg s'.h))=true/\oneOf (vs.map (toArg s'.h))=r) a w) (H:Hp):a1x P cx f args H r H:=by
 refine⟨⟨fn,hf,by rw[hb];rfl,hname⟩,fun g w cargs hI ra ua=>?_⟩
 have hI0:Inv cx (g.cut 0) [] w:=by
  have:=hI.restrict (n:=0) (Nat.zero_le _) (fun i c hi=>om)
  simpa using this
 have ra0:a0t (g.cut 0) [] args cargs.toList:=by
  have:=a5o g H 0
  rw[List.take_zero]at this
  exact a4c this _ _ hu ra
 refine calls_of_wp hf hb ?_
 have ok0:c2r cx N (g.cut 0) ⟨a1a args,[],0⟩ {tmps:=cargs++Array.replicate (fn.ntmps - cargs.size) Go.undef,defers:=[]} w:=
  ⟨hI0,by rw[<-hnt];exact a8i ra0 hu hl,rfl,Nat.le_refl _⟩
 refine wp_mono (hwp _ _ _ ok0) fun x a1 w1 hx=>?_
 obtain⟨hxx,g1,s,vs,ok1,e1,hvs,hu2,hone⟩:=hx
 have goal:a1.defers=[]/\∃ v,(results fn a1.tmps).run P w1= .ok v w1/\∃ g' x,Ending.returned v= .returned x/\Inv cx g' H w1/\Rep g' H r x/\r.und H.length=true/\Ext H.length g H w g' H w1:=by
  refine⟨ok1.defers,?_⟩
  obtain⟨ys,y1,y2,y3⟩:=b6z (P:=P) (fn:=fn) ok1.inv ok1.env hres hrs hvs
  refine⟨_,y1,?_⟩
  have hlen:([]:Hp).length<=s.h.length:=e1.len
  have hc:=e1.clean 0 (Nat.le_refl _) hI0.und
  have ra':=a5c ok1.inv y2
  have ra2:=a4c (a5o g1 s.h 0) _ _ hu2 ra'
  have hinv:=ok1.inv.restrict (n:=0) (Nat.zero_le _) hc
  have hext:=e1.cut (n:=0) rfl (Nat.le_refl _)
  rw[List.take_zero]at ra2 hinv hext
  obtain⟨q1,q2⟩:=e1e (g':=g1.cut 0) hI hinv hext
  refine⟨⟨g.J,(g1.cut 0).C⟩,_,rfl,q1,?_,V.a6b (Nat.zero_le _) _ hr0,q2⟩
  have h3:=b3j ra2
  rw[hone]at h3
  exact a2m (n:=0) (g:=g1.cut 0) (H:=[]) (g':=⟨g.J,(g1.cut 0).C⟩) (H':=H) ⟨fun _=>List.prefix_refl _,fun i _ hi=>om,fun i _ _ hi=>om⟩ _ _ hr0 h3
 rcases hxx with rfl|rfl<;>exact goal
end
end Go.Vm
namespace Go.Vm
section
variable {P:Program} {cx:Cx} {g:Gh} {H:Hp} {w:World}
inductive Loose (cx:Cx) (g:Gh) (w:World) (n sz:Nat):Value->Nat->List Value->Prop
 |nil:Loose cx g w n sz (.slice none 0 0) 0 []
 |here(b cap:Nat) (cur:Array Value) (e:TypeId) (k:Nat) (us:List Value):w.heap[b]? =some (.cells cur e (0,0))->us <+:cur.toList->us.length=k*sz->k<=cap->cur.size=cap*sz->cap<=maxLen->(∀ k c,g.J k≠some (b,c))->g.C b=[]->cx.fx b=none->n<=b->Loose cx g w n sz (.slice (some ⟨b,0,none⟩) k cap) k us
theorem Loose.len {n sz k:Nat} {x:Value} {us:List Value} (h:Loose cx g w n sz x k us):∃ a c,x= .slice a k c:=by cases h<;>exact⟨_,_,rfl⟩
theorem e7u {orc:Orc} (hS:b5s P cx orc) {N:Nat} {ops:Array Oper} {rest:List Nat}:∀ (l:List Oper) (i:Nat) (vs:List a0b),(∀ k,k < l.length->ops[i+k]? =l[k]?)->a1l P ops l=some vs->vs.all (a0b.okN N)=true->∀ {g:Gh} {w:World} {s s':St},a0s cx orc vs s=some s'->∀ {a:Act},c2r cx N g s a w->
 ∀ {Q:Exit->Act->World->Prop},(∀ g' a' w',c2r cx N g' s' a' w'->Ext s.b g s.h w g' s'.h w'->Go.wpOps P ops Q rest a' w')->Go.wpOps P ops Q (List.range' i l.length++rest) a w
 |[],i,vs,_,ht,_,g,w,s,s',h,a,ok,Q,hq=>by
  simp only[a1l,Option.some.injEq]at ht
  subst ht
  simp only[a0s,Option.some.injEq]at h
  subst h
  exact hq g a w ok (Ext.refl ..)
 |co::l,i,vs,hl,ht,hok,g,w,s,s',h,a,ok,Q,hq=>by
  simp only[a1l]at ht
  split at ht
  ·rename_i v vs' hv hvs
   simp only[Option.some.injEq]at ht
   subst ht
   simp only[List.all_cons,Bool.and_eq_true]at hok
   simp only[a0s]at h
   cases h1:a0f cx orc v s with
   |none=>rw[h1]at h;cases h
   |some s1=>
    rw[h1]at h
    simp only[Option.bind_some]at h
    have hi:ops[i]? =some co:=by
     have:=hl 0 (by simp)
     simpa using this
    have hl':∀ k,k < l.length->ops[i+1+k]? =l[k]? :=fun k hk=>by
      have:=hl (k+1) (by simpa using hk)
      rw[show i+(k+1)=i+1+k by omega]at this
      simpa using this
    simp only[List.length_cons,List.range'_succ,List.cons_append]
    rw[Go.wpOps_cons]
    refine a3d hS hi hv hok.1 h1 ok fun g' x w' ok' ext'=>?_
    have hb:=a8a h1
    refine e7u hS l (i+1) vs' hl' hvs hok.2 h ok' fun g2 a2 w2 ok2 ext2=>?_
    exact hq g2 a2 w2 ok2 (ext'.trans ext2 om)
  ·cases ht
theorem Loose.freeze (hI:Inv cx g H w) {n sz k:Nat} {x:Value} {us:List Value} (h:Loose cx g w n sz x k us) {l:List D} (hl:a1y g.C sz l us) (hk:l.length=k) (hsz:0 < sz):
 ∃ g':Gh,g'.J=g.J/\(∀ b,g.C b <+:g'.C b)/\(∀ b,b < n->g'.C b=g.C b)/\Inv cx g' H w/\a2z g'.C (.sl l) x:=by
 cases h with
 |nil=>
  have:l=[]:=List.eq_nil_of_length_eq_zero hk
  subst this
  refine⟨g,rfl,fun _=>List.prefix_refl _,fun _ _=>rfl,hI,?_⟩
  simp only[a2z,a0p]
  exact⟨_,_,rfl,Nat.le_refl _,by simp⟩
 |here b cap cur e k us h1 h2 hk0 h3 h4 h5 h6 h7 h8 h9=>
  obtain⟨C',hC'⟩:∃ C':Nat->List Value,C'=fun i=>if i=b then us else g.C i:=⟨_,rfl⟩
  have hb:C' b=us:=by rw[hC'];exact if_pos rfl
  have ho:∀ i,i≠b->C' i=g.C i:=fun i hi=>by rw[hC'];exact if_neg hi
  have hC:∀ i,g.C i <+:C' i:=fun i=>by
    by_cases hi:i=b
    ·subst hi;rw[h7];exact List.nil_prefix
    ·rw[ho i hi];exact List.prefix_refl _
  have hkeep:c2s H.length g H ⟨g.J,C'⟩ H:=⟨hC,fun i o _ hio hr=>⟨fun p hp=>hp,o,hio,hr⟩,fun i sz l _ hio=>⟨l,hio,List.prefix_refl _,fun _ p hp=>hp⟩⟩
  refine⟨⟨g.J,C'⟩,rfl,hC,fun i hi=>ho i om,⟨hI.inj,hI.dom,fun i b' c o hj hio=>?_,fun i hi=>?_,hI.und,fun i=>?_,hI.fix⟩,?_⟩
  ·exact(hI.ob i b' c o hj hio).ext hkeep rfl (ho b' (fun e=>h6 i c (by rw[<-e];exact hj))) (by rintro c' rfl;exact hI.und i c' (hI.dom i b' c hj).1 hio)
  ·by_cases hib:i=b
   ·subst hib
    exact⟨cur,e,(0,0),h1,by show C' i <+:_;rw[hb];exact h2⟩
   ·have hi':g.C i≠[]:=by rw[<-ho i hib];exact hi
    obtain⟨cur',e',fz,q1,q2⟩:=hI.imm i hi'
    exact⟨cur',e',fz,q1,by show C' i <+:_;rw[ho i hib];exact q2⟩
  ·obtain⟨vs,q1,q2⟩:=hI.glob i
   exact⟨vs,q1.trans (hC i),a3f hC _ _ q2⟩
  ·simp only[a2z,a0p]
   refine⟨_,_,by rw[hk],om,.inr ⟨b,0,sz,us,rfl,hsz,?_,a4h hC sz l us hl⟩⟩
   rw[List.drop_zero,hb];exact List.prefix_refl _
end
end Go.Vm

namespace Go.Vm
open Go.RowKit
section
variable {P:Program} {cx:Cx} {g:Gh} {H:Hp} {w:World}
theorem chunk {pg:Pg} (hT:a3g P pg) (hmx:P.follows .mixedOrders=true) {A:Ann} {N:Nat} {c:Code} {v:a0e} (ht:tr P A c=some v) (hN:v.okN N=true) {e:Env} {b:Nat} {a:Act} (ok:c2r pg.toCx N g ⟨e,H,b⟩ a w) {R:Ex->Env->Hp->Prop} (h:WQ pg b v [] e H fun x _ e' H'=>R x e' H')
    {Q:Exit->Act->World->Prop} (hq:∀ x e' H' g' a' w',R x e' H'->c2r pg.toCx N g' ⟨e',H',b⟩ a' w'->Ext b g H w g' H' w'->Q x.out a' w'):c.wp P Q a w:=by
  obtain⟨x,kn,e',H',h1,_,h2⟩:=h.imp (a3p.nil _)
  exact c9h hT hmx c v ht hN h1 ok fun g' a' w' ok' ext'=>hq x e' H' g' a' w' h2 ok' ext'
theorem a0x.low {N:Nat} {s:St} {a:Act} {b:Nat} (ok:c2r cx N g s a w) (hb:b<=s.h.length):c2r cx N g ⟨s.e,s.h,b⟩ a w:=⟨ok.inv,ok.env,ok.defers,hb⟩
theorem a0x.forget {N:Nat} {e:Env} {H:Hp} {b:Nat} {a:Act} (ok:c2r cx N g ⟨e,H,b⟩ a w) (ks:List Nat):c2r cx N g ⟨a2d ks e,H,b⟩ a w:=(ok.keep ks).low ok.base
end
end Go.Vm
namespace Go.Vm
def cL:Code->Code| .seq a _=>a|c=>c
def cR:Code->Code| .seq _ b=>b|c=>c
def cA:Code->Code| .cond _ a _=>a|c=>c
def vL:a0e->a0e| .seq a _=>a|c=>c
def vR:a0e->a0e| .seq _ b=>b|c=>c
def vA:a0e->a0e| .cond _ a _=>a|c=>c
def f7g:Code->Array Oper| .region _ ops _=>ops|_=> #[]
def cId:Code->Nat| .region id _ _=>id| .block id _=>id|_=>0
section
variable {P:Program} {cx:Cx} {g:Gh} {H:Hp} {w:World}
theorem f1r {N:Nat} {ops:Array Oper} {i:Nat} {op:Op} {d:Nat} (h:(ops[i]?).map (fun o=>(o.op,o.dst,o.guard))=some (op,some d,none)) {s:St} {a:Act} (ok:c2r cx N g s a w) {x:Value} {v:V} (hrun:∀ o:Oper,o.op=op->(execOp a.eval o).run P w= .ok (.value x) w) (hd:d < N) (hr:Rep g s.h v x) (hu:v.und s.h.length=true)
    {Q:Exit->Act->World->Prop} {rest:List Nat} (hk:c2r cx N g ⟨a7y (some d) v s.e,s.h,s.b⟩ (a.put (some d) x) w->Go.wpOps P ops Q rest (a.put (some d) x) w):Go.wpOps P ops Q (i::rest) a w:=by
  rw[Go.wpOps_cons]
  exact g4j h hrun (hk (ok.put (fun k hk=>by cases hk;exact hd) ok.inv hr hu (Ext.refl ..)))
theorem d9e {f:Nat} {fn:Func} (hf:P.funcs[f]? =some fn) (hb:fn.body.isNone=false) (hn:(fn.name== "runtime.NumGoroutine")=false) {ops:Array Oper} {i:Nat} {ar:Array Operand} {at':Array TypeId} {d:Nat} (h:(ops[i]?).map (fun o=>(o.op,o.dst,o.guard))=some (.call {callee:= .value (.func f),args:=ar,argTypes:=at' },some d,none)) {a:Act} {R:Ending->World->Prop} (hc:Calls P f (ar.map a.eval) w R)
    {Q:Exit->Act->World->Prop} {rest:List Nat} (hk:∀ e w',R e w'->∃ x,e= .returned x/\Go.wpOps P ops Q rest (a.put (some d) x) w'):Go.wpOps P ops Q (i::rest) a w:=by
  rw[Go.wpOps_cons]
  obtain⟨o,ho,he⟩:=Option.map_eq_some_iff.1 h
  simp only[Prod.mk.injEq]at he
  obtain⟨e1,e2,e3⟩:=he
  have hrun:(execOp a.eval o).run P w= .ok (.enter f (ar.map a.eval)) w:=by
   have:(execOp a.eval o).run P w=(callFunc f (ar.map a.eval)).run P w:=by
    simp[execOp,e1,resolve,Act.eval,Deferred.ofValue,invoke]
   rw[this,a7e hf hb hn]
  unfold wpOp
  simp only[ho]
  rw[if_pos (by simp[Region.wanted,e3])]
  refine .inl ?_
  unfold Oper.wp
  rw[hrun,Oper.upon_enter]
  refine hc.mono fun e w' he=>?_
  obtain⟨x,rfl,hx⟩:=hk e w' he
  rw[e2]
  exact hx
theorem Loose.get {n k:Nat} {x:Value} {us:List Value} (h:Loose cx g w n 1 x k us) {i:Nat} {y:Value} (hy:us[i]? =some y):∃ b cap cur e,x= .slice (some ⟨b,0,none⟩) k cap/\w.heap[b]? =some (.cells cur e (0,0))/\cur[i]? =some y:=by
 cases h with
 |nil=>simp at hy
 |here b cap cur e k us h1 h2 hk0 h3 h4 h5 h6 h7 h8 h9=>
  refine⟨b,cap,cur,e,rfl,h1,?_⟩
  have:=a2a h2 hy
  simpa using this
theorem a0x.drop {N n:Nat} (ks:List Nat) {s1:St} {g1:Gh} {a1:Act} {w1:World} (hlen:n<=s1.h.length) (hc:Clean n s1.h) (hb0:s1.b<=n) (ok:c2r cx N g1 s1 a1 w1):
 c2r cx N (g1.cut n) ⟨cut n (a2d ks s1.e),s1.h.take n,s1.b⟩ a1 w1:=by
 refine⟨ok.inv.restrict hlen hc,⟨ok.env.1,fun k hk=>?_⟩,ok.defers,?_⟩
 ·rw[e1a]
  split
  ·rename_i hu
   rw[a5f]at hu⊢
   by_cases hks:k∈ks
   ·rw[if_pos hks]at hu⊢
    refine⟨a2m (a5o g1 s1.h n) _ _ hu (ok.env.2 k hk).1,?_⟩
    show V.und (s1.h.take n).length _=true
    rw[List.length_take,Nat.min_eq_left hlen]
    exact hu
   ·rw[if_neg hks]
    exact⟨by simp[Rep],rfl⟩
  ·exact⟨by simp[Rep],rfl⟩
 ·show s1.b<=(s1.h.take n).length
  rw[List.length_take,Nat.min_eq_left hlen]
  exact hb0
theorem valR {N:Nat} {s:St} {a:Act} (ok:c2r cx N g s a w) {i:Nat} (hi:i < N) {x:Value} (hv:a1k s.e i= .raw x):a.tmps.getD i Go.undef=x:=by
 have:=(ok.env.2 i hi).1
 rw[hv]at this
 simpa only[Rep] using this
theorem f1n {N:Nat} {s:St} {a:Act} (ok:c2r cx N g s a w) {i:Nat} (hi:i < N) {v:V} (hv:a1k s.e i=v):Rep g s.h v (a.tmps.getD i Go.undef):=by
 have:=(ok.env.2 i hi).1
 rw[hv]at this
 exact this
theorem d8i {N:Nat} {s:St} {a:Act} (ok:c2r cx N g s a w) {i:Nat} (hi:i < N) {b:Bool} (hv:a1k s.e i= .d (.bool b)):a.eval (.tmp i)= .bool b:=by
 have:=(ok.env.2 i hi).1
 rw[hv]at this
 simp only[Rep,a2z,a0p,List.cons.injEq,and_true]at this
 exact this
end
end Go.Vm
namespace Go.Vm
section
variable {P:Program} {pg:Pg} {K:Hp->Prop} {pay:D->Value}
theorem g3b (hT:a3g P pg) (hmx:P.follows .mixedOrders=true) {f:Nat} {fn:Func} {A:Ann} {vf:VFn} (hf:P.funcs[f]? =some fn) (hname:(fn.name== "runtime.NumGoroutine")=false) (htr:d7l P A vf.keep fn=some vf) (hok:vf.ok=true) {args:List V} (hl:args.length=vf.np) {H H':Hp} {r:V} {x:Ex} {s2:St}
 (hev:ev pg vf.body ⟨a1a args,H,H.length⟩=some (x,s2)) (hx:x= .nrm\/x= .ret) (hlv:leave vf H.length s2=some (r,H')):a1x P pg.toCx f args H r H':=by
 obtain⟨c,hb,_⟩:=a4f htr
 obtain⟨n,hn⟩:=c1f hev
 obtain⟨hS,hL⟩:=b1y hT hmx n
 refine⟨⟨fn,hf,by rw[hb];rfl,hname⟩,fun g w cargs hI ra ua=>c0t hS hmx hL hf htr hok hl ?_ hI ra ua⟩
 rw[hn]
 rcases hx with rfl|rfl<;>exact hlv
theorem d3t (hT:a3g P pg) (hmx:P.follows .mixedOrders=true) {dd:a2u} (hD:b1a P pg.toCx K pay dd) {f:Nat} {fn:Func} {A:Ann} {vf:VFn} (hf:P.funcs[f]? =some fn) (hname:(fn.name== "runtime.NumGoroutine")=false) (htr:d7l P A vf.keep fn=some vf) (hok:vf.ok=true) {args:List V} (hl:args.length=vf.np) {H:Hp} {x:D}
 (h:a2b pg dd vf.body ⟨a1a args,H,H.length⟩ x):b1l P pg.toCx K pay f args H x:=by
 obtain⟨c,hb,htc,hres,hnt,_⟩:=a4f htr
 obtain⟨k1,k2,k3⟩:=a8c hok
 refine⟨⟨fn,hf,by rw[hb];rfl,hname⟩,fun g w cargs hI ra ua=>calls_of_wp hf hb ?_⟩
 have ok0:a0x [] pg.toCx vf.nt g ⟨a1a args,H,H.length⟩ {tmps:=cargs++Array.replicate (fn.ntmps - cargs.size) undef,defers:=[]} w:=
  ⟨hI,by rw[<-hnt];exact a8i ra ua om,rfl,Nat.le_refl _⟩
 refine c1z hT hmx hD c vf.body htc k1 h ok0 fun g' H' a' w' q1 q2 q3 q4=>?_
 exact⟨q1,g',H',rfl,q2,q3,q4⟩
theorem d6c (hT:a3g P pg) (hmx:P.follows .mixedOrders=true) {lv t N k:Nat} {A:Ann} {c0 c rest:Code} {v0 v:a0e} (ht0:tr P A c0=some v0) (hN0:v0.okN N=true) (ht:tr P A c=some v) (hN:v.okN N=true) {ops:Array Oper} {id:Nat} (hd:c5y lv ops.toList=some t) {v1 v2:a0b} (hto:a1l P ops ops.toList=some [v1,v2]) (hN1:v1.okN N=true) (htN:t < N) (hkN:k < N)
 {s s0 s' s1:St} (h0:ev pg v0 s=some (.nrm,s0)) (hk:a1k s0.e k= .d (.bool true)) (h:ev pg v s0=some (.nrm,s')) (h1:a0f pg.toCx (evF pg) v1 s'=some s1):Reach P pg lv N (.seq (.seq c0 (.cond (.tmp k) (.seq c (.region id ops false)) .skip)) rest) s t s1 rest:=fun ok Q hq=>by
 apply wp_seq
 apply wp_seq
 have hb0:=h1f hT hmx h0
 refine b7s hT hmx ht0 hN0 h0 ok fun g0 a0 w0 ok0 e0=>?_
 have hr:=(ok0.env.2 k hkN).1
 rw[hk]at hr
 refine wp_cond (a8f hr) ?_
 simp only[if_true]
 apply wp_seq
 have hb:=h1f hT hmx h
 refine b7s hT hmx ht hN h ok0 fun g1 a1 w1 ok1 e1=>?_
 exact c2e hT hmx hd hto hN1 htN h1 ok1 fun g' a' w' y q1 q2 q3 q4=>hq g' a' w' y q1 (e0.trans (e1.trans q2 om) om) q3 q4
def f9h (pg:Pg) (pre rest:a0e) (t lv:Nat) (vf:VFn) (p:Nat) (args:List V) (H:Hp) (r:V) (H':Hp):Prop:=
 ∃ s1 x s2 H3,ev pg pre ⟨a1a args,H,H.length⟩=some (.nrm,s1)/\a1k s1.e t= .ptr p 0/\s1.b=H.length/\ev pg rest s1=some (x,s2)/\(x= .nrm\/x= .ret)/\evF pg lv [.ptr p 0] s2.h=some (.tup [],H3)/\leave vf H.length ⟨s2.e,H3,s2.b⟩=some (r,H')
def f7j (pg:Pg) (dd:a2u) (pre rest:a0e) (t p:Nat) (args:List V) (H:Hp) (x:D):Prop:=
 a2b pg dd pre ⟨a1a args,H,H.length⟩ x\/∃ s1,ev pg pre ⟨a1a args,H,H.length⟩=some (.nrm,s1)/\a1k s1.e t= .ptr p 0/\s1.b=H.length/\a2b pg dd rest s1 x
theorem h9v {dd:a2u} {pre rest:a0e} {t lv p:Nat} {vf:VFn} (hk:vf.keep=false) {args:List V} {H:Hp} {R:V->Hp->Prop} {D:D->Prop}
 (h:b0e 0 args fun e=>WX pg dd H.length pre [] e H (fun x _ e1 H1=>x= .nrm/\a1k e1 t= .ptr p 0/\WX pg dd H.length rest [] e1 H1 (fun x kn e2 H2=> ∃ H3,evF pg lv [.ptr p 0] H2=some (.tup [],H3)/\e4i vf.res H.length (fun v H'=>R v (H'.take H.length)) x kn e2 H3) D) D):
 (∃ r H',f9h pg pre rest t lv vf p args H r H'/\R r H')\/∃ x,f7j pg dd pre rest t p args H x/\D x:=by
 rw[a6x]at h
 rcases h.imp (a3p.nil _)with⟨x,kn,e1,H1,h1,_,rfl,h2,h3⟩|⟨x,h1,h2⟩
 ·rw[<-a4o]at h1
  rcases h3.imp (a3p.nil _)with⟨y,kn2,e2,H2,h4,_,H3,h5,h6⟩|⟨x,h4,h5⟩
  ·left
   obtain⟨r',h7,h8⟩:=b5j (b:=H.length) h6
   have hy:y= .nrm\/y= .ret:=by
    cases y with
    |nrm=>exact .inl rfl
    |ret=>exact .inr rfl
    |exit i=>cases h7
   refine⟨r',_,⟨⟨e1,H1,H.length⟩,y,⟨e2,H2,H.length⟩,H3,h1,h2,rfl,h4,hy,h5,?_⟩,h8⟩
   have:leave ⟨0,0,.skip,vf.res,false⟩ H.length ⟨e2,H3,H.length⟩=some (r',H3.take H.length):=by rcases hy with rfl|rfl<;>exact h7
   unfold leave at this⊢
   rw[hk]
   exact this
  ·exact .inr ⟨x,.inr ⟨_,h1,h2,rfl,h4⟩,h5⟩
 ·rw[<-a4o]at h1
  exact .inr ⟨x,.inl h1,h2⟩
section
variable {σ:Nat->Nat} {n:Nat} {HB:Hp}
theorem f9h.sh (hp:b0n pg) (hm:Mv σ n HB) {pre rest:a0e} (hc1:pre.cst=true) (hc2:rest.cst=true) {t lv p:Nat} {vf:VFn} {a:List V} {h H h':Hp} {r:V} (R:HR σ n HB h H) (hd:f9h pg pre rest t lv vf p a h r h'):∃ H',f9h pg pre rest t lv vf (σ p) (shL σ a) H (r.sh σ) H'/\HR σ n HB h' H':=by
 obtain⟨s1,x,s2,h3,q1,q2,q3,q4,q5,q6,q7⟩:=hd
 obtain⟨S1,w1,R1⟩:=d7i hm hp hc1 (S:=⟨a1a (shL σ a),H,H.length⟩) ⟨a6z a,R,R.len,R.le⟩ q1
 obtain⟨S2,w2,R2⟩:=d7i hm hp hc2 R1 q4
 obtain⟨H3,w3,R3⟩:=c0n hp hm R2.h q6
 obtain⟨H',w4,R4⟩:=c3a (vf:=vf) hm R.le (s:=⟨s2.e,h3,s2.b⟩) (S:=⟨S2.e,H3,S2.b⟩) ⟨R2.e,R3,R2.b,R2.le⟩ q7
 refine⟨H',⟨S1,x,S2,H3,w1,?_,?_,w2,q5,w3,?_⟩,R4⟩
 ·rw[R1.e,a7m,q2];rfl
 ·rw[R1.b,q3,R.len]
 ·rw[R.len];exact w4
theorem f7j.sh (hp:b0n pg) (hm:Mv σ n HB) {dd dd':a2u} (hdd:DSh σ n HB dd dd') {pre rest:a0e} (hc1:pre.cst=true) (hc2:rest.cst=true) {t p:Nat} {a:List V} {h H:Hp} {x:D} (R:HR σ n HB h H) (hd:f7j pg dd pre rest t p a h x):f7j pg dd' pre rest t (σ p) (shL σ a) H x:=by
 rcases hd with q|⟨s1,q1,q2,q3,q4⟩
 ·exact .inl (c3p hm hp hdd q hc1 ⟨a6z a,R,R.len,R.le⟩)
 ·obtain⟨S1,w1,R1⟩:=d7i hm hp hc1 (S:=⟨a1a (shL σ a),H,H.length⟩) ⟨a6z a,R,R.len,R.le⟩ q1
  refine .inr ⟨S1,w1,?_,?_,c3p hm hp hdd q4 hc2 R1⟩
  ·rw[R1.e,a7m,q2];rfl
  ·rw[R1.b,q3,R.len]
end
structure b2f (P:Program) (f lv t:Nat) (fn:Func) (vf:VFn) (pre rest:a0e):Prop where
 hf:P.funcs[f]? =some fn
 name:(fn.name== "runtime.NumGoroutine")=false
 trf:∃ A,d7l P A vf.keep fn=some vf
 ok:vf.ok=true
 keep:vf.keep=false
 body:∃ c crest A,fn.body=some c/\tr P A crest=some rest/\rest.okN vf.nt=true/\∀ {pg:Pg},a3g P pg->P.follows .mixedOrders=true->∀ {s s1:St},ev pg pre s=some (.nrm,s1)->Reach P pg lv vf.nt c s t s1 crest
 dies:∀ {pg:Pg} {dd:a2u} {s:St} {x:D},a2b pg dd pre s x->a2b pg dd vf.body s x
theorem f9h.spec {f lv t:Nat} {fn:Func} {vf:VFn} {pre rest:a0e} (S:b2f P f lv t fn vf pre rest) (hT:a3g P pg) (hmx:P.follows .mixedOrders=true) {vl:VFn} (hlv:pg.tbl lv=some (.code vl)) {p:Nat} {args:List V} (hl:args.length=vf.np) {H H':Hp} {r:V} (hd:f9h pg pre rest t lv vf p args H r H'):a1x P pg.toCx f args H r H':=by
 obtain⟨s1,x,s2,H3,q1,q2,q3,q4,q5,q6,q7⟩:=hd
 obtain⟨c,crest,A,hb,htr,hN,hR⟩:=S.body
 obtain⟨A',ht⟩:=S.trf
 obtain⟨c0,hb0,_,hres,hnt,_⟩:=a4f ht
 obtain⟨k1,k2,k3⟩:=a8c S.ok
 exact g7u hT hmx hlv S.hf S.name hb hres k2 k3 hnt htr hN hl (hR hT hmx q1) q2 q3 q4 q5 q6 q7
theorem f7j.spec {f lv t:Nat} {fn:Func} {vf:VFn} {pre rest:a0e} (S:b2f P f lv t fn vf pre rest) (hT:a3g P pg) (hmx:P.follows .mixedOrders=true) {dd:a2u} (hD:b1a P pg.toCx K pay dd) {vl:VFn} (hlv:pg.tbl lv=some (.code vl)) {p:Nat} {args:List V} (hl:args.length=vf.np) {H:Hp} {x:D} (hd:f7j pg dd pre rest t p args H x) (hK:∀ H2,K H2->∃ H3,evF pg lv [.ptr p 0] H2=some (.tup [],H3)/\K H3):b1l P pg.toCx K pay f args H x:=by
 obtain⟨A',ht⟩:=S.trf
 obtain⟨c0,hb0,_,hres,hnt,_⟩:=a4f ht
 obtain⟨k1,k2,k3⟩:=a8c S.ok
 rcases hd with q|⟨s1,q1,q2,q3,q4⟩
 ·exact d3t hT hmx hD S.hf S.name ht S.ok hl (S.dies q)
 ·obtain⟨c,crest,A,hb,htr,hN,hR⟩:=S.body
  exact f4z hT hmx hD hlv S.hf S.name hb k3 hnt htr hN hl (hR hT hmx q1) q2 q3 q4 hK
theorem a4e {a b:a0e} {s s2:St} (h:ev pg (.seq a b) s=some (.nrm,s2)):∃ s1,ev pg a s=some (.nrm,s1)/\ev pg b s1=some (.nrm,s2):=by
 rw[b6e]at h
 cases e1:ev pg a s with
 |none=>rw[e1]at h;cases h
 |some y=>
  obtain⟨x1,s1⟩:=y
  rw[e1]at h
  cases x1 with
  |exit i=>cases h
  |ret=>cases h
  |nrm=>exact⟨s1,rfl,h⟩
theorem d7c {w1:a0b} {s s1:St} (h:ev pg (.reg [w1]) s=some (.nrm,s1)):a0f pg.toCx (evF pg) w1 s=some s1:=by
 rw[d2w,evR,a0s]at h
 cases e3:a0f pg.toCx (evF pg) w1 s with
 |none=>rw[e3]at h;cases h
 |some s4=>rw[e3]at h;cases h;rfl
theorem c4o {dd:a2u} {w1:a0b} {l:List a0b} {s:St} {x:D} (h:a2b pg dd (.reg [w1]) s x):a2b pg dd (.reg (w1::l)) s x:=by
 cases h with
 |reg i1 i2 i3=>
  rename_i i o s'
  have hi:i=0:=by
   have:=(List.getElem?_eq_some_iff.1 i1).1
   simpa using this
  subst hi
  simp only[List.getElem?_cons_zero,Option.some.injEq]at i1
  subst i1
  exact .reg (i:=0) (by rfl) (by simpa using i2) i3
theorem a7i {dd:a2u} {a b b':a0e} {s:St} {x:D} (h:a2b pg dd (.seq a b) s x) (hb:∀ s,a2b pg dd b s x->a2b pg dd b' s x):a2b pg dd (.seq a b') s x:=by
 cases h with
 |seq1 h=>exact .seq1 h
 |seq2 e h=>exact .seq2 e (hb _ h)
theorem e7z {f lv t:Nat} {fn:Func} {A:Ann} {vf:VFn} {c1 c2 crest:Code} {id:Nat} {ops:Array Oper} {v1 v2 rest:a0e} {w1 w2:a0b} (hf:P.funcs[f]? =some fn) (hname:(fn.name== "runtime.NumGoroutine")=false) (htr:d7l P A vf.keep fn=some vf) (hok:vf.ok=true) (hk:vf.keep=false)
 (hb:fn.body=some (.seq c1 (.seq c2 (.seq (.region id ops false) crest)))) (hv:vf.body= .seq v1 (.seq v2 (.seq (.reg [w1,w2]) rest))) (h1:tr P A c1=some v1) (h2:tr P A c2=some v2) (h3:tr P A crest=some rest) (hd:c5y lv ops.toList=some t) (ht:a1l P ops ops.toList=some [w1,w2]) (htN:t < vf.nt):
 b2f P f lv t fn vf (.seq v1 (.seq v2 (.reg [w1]))) rest:=by
 obtain⟨k1,k2,k3⟩:=a8c hok
 rw[hv]at k1
 simp only[a0e.okN,Bool.and_eq_true,List.all_cons,List.all_nil]at k1
 obtain⟨n1,n2,⟨n3,_⟩,n4⟩:=k1
 refine⟨hf,hname,⟨A,htr⟩,hok,hk,⟨_,crest,A,hb,h3,n4,fun{pg} hT hmx {s s1} h=>?_⟩,fun{pg dd s x} h=>?_⟩
 ·obtain⟨s2,e1,h⟩:=a4e h
  obtain⟨s3,e2,h⟩:=a4e h
  exact b0w hT hmx h1 n1 e1 (b0w hT hmx h2 n2 e2 (c8d hT hmx hd ht n3 htN (d7c h) crest))
 ·rw[hv]
  exact a7i h fun _ h=>a7i h fun _ h=> .seq1 (c4o h)
theorem h2d {f lv t:Nat} {fn:Func} {A:Ann} {vf:VFn} {c1 c2 c3 crest:Code} {id:Nat} {ops:Array Oper} {v1 v2 v3 rest:a0e} {w1 w2:a0b} (hf:P.funcs[f]? =some fn) (hname:(fn.name== "runtime.NumGoroutine")=false) (htr:d7l P A vf.keep fn=some vf) (hok:vf.ok=true) (hk:vf.keep=false)
 (hb:fn.body=some (.seq c1 (.seq c2 (.seq c3 (.seq (.region id ops false) crest))))) (hv:vf.body= .seq v1 (.seq v2 (.seq v3 (.seq (.reg [w1,w2]) rest)))) (h1:tr P A c1=some v1) (h2:tr P A c2=some v2) (h2':tr P A c3=some v3) (h3:tr P A crest=some rest) (hd:c5y lv ops.toList=some t) (ht:a1l P ops ops.toList=some [w1,w2]) (htN:t < vf.nt):
 b2f P f lv t fn vf (.seq v1 (.seq v2 (.seq v3 (.reg [w1])))) rest:=by
 obtain⟨k1,k2,k3⟩:=a8c hok
 rw[hv]at k1
 simp only[a0e.okN,Bool.and_eq_true,List.all_cons,List.all_nil]at k1
 obtain⟨n1,n2,n2',⟨n3,_⟩,n4⟩:=k1
 refine⟨hf,hname,⟨A,htr⟩,hok,hk,⟨_,crest,A,hb,h3,n4,fun{pg} hT hmx {s s1} h=>?_⟩,fun{pg dd s x} h=>?_⟩
 ·obtain⟨s2,e1,h⟩:=a4e h
  obtain⟨s3,e2,h⟩:=a4e h
  obtain⟨s4,e3,h⟩:=a4e h
  exact b0w hT hmx h1 n1 e1 (b0w hT hmx h2 n2 e2 (b0w hT hmx h2' n2' e3 (c8d hT hmx hd ht n3 htN (d7c h) crest)))
 ·rw[hv]
  exact a7i h fun _ h=>a7i h fun _ h=>a7i h fun _ h=> .seq1 (c4o h)
theorem g9o {f lv t k:Nat} {fn:Func} {A:Ann} {vf:VFn} {c1 c2 c3 crest:Code} {id:Nat} {ops:Array Oper} {v1 v2 v3 rest:a0e} {w1 w2:a0b} (hf:P.funcs[f]? =some fn) (hname:(fn.name== "runtime.NumGoroutine")=false) (htr:d7l P A vf.keep fn=some vf) (hok:vf.ok=true) (hk:vf.keep=false)
 (hb:fn.body=some (.seq c1 (.seq (.seq c2 (.cond (.tmp k) (.seq c3 (.region id ops false)) .skip)) crest))) (hv:vf.body= .seq v1 (.seq (.seq v2 (.cond (.t k) (.seq v3 (.reg [w1,w2])) .skip)) rest)) (h1:tr P A c1=some v1) (h2:tr P A c2=some v2) (h2':tr P A c3=some v3) (h3:tr P A crest=some rest) (hd:c5y lv ops.toList=some t) (ht:a1l P ops ops.toList=some [w1,w2]) (htN:t < vf.nt) (hkN:k < vf.nt):
 b2f P f lv t fn vf (.seq v1 (.seq v2 (.cond (.t k) (.seq v3 (.reg [w1])) (.exit 0)))) rest:=by
 obtain⟨k1,k2,k3⟩:=a8c hok
 rw[hv]at k1
 simp only[a0e.okN,Bool.and_eq_true,List.all_cons,List.all_nil]at k1
 obtain⟨n1,⟨n2,⟨⟨_,n2',n3,_⟩,_⟩⟩,n4⟩:=k1
 refine⟨hf,hname,⟨A,htr⟩,hok,hk,⟨_,crest,A,hb,h3,n4,fun{pg} hT hmx {s s1} h=>?_⟩,fun{pg dd s x} h=>?_⟩
 ·obtain⟨s2,e1,h⟩:=a4e h
  obtain⟨s3,e2,h⟩:=a4e h
  rw[b7c]at h
  have hk:a1k s3.e k= .d (.bool true)/\ev pg (.seq v3 (.reg [w1])) s3=some (.nrm,s1):=by
   have e:evO pg.toCx s3.e (.t k)=a1k s3.e k:=rfl
   rw[e]at h
   cases hg:a1k s3.e k with
   |d y=>
    rw[hg]at h
    cases y with
    |bool b=>
     rw[b1r]at h
     cases b with
     |true=>exact⟨rfl,by simpa using h⟩
     |false=>simp only[Bool.false_eq_true,if_false]at h;cases h
    |_=>cases h
   |_=>rw[hg]at h;cases h
  obtain⟨s4,e3,h⟩:=a4e hk.2
  have r:Reach P pg lv vf.nt (.seq (.seq c2 (.cond (.tmp k) (.seq c3 (.region id ops false)) .skip)) crest) s2 t s1 crest:=by
   intro g a w ok Q hq
   exact d6c hT hmx h2 n2 h2' n2' hd ht n3 htN hkN e2 hk.1 e3 (d7c h) ok hq
  intro g a w ok Q hq
  exact b0w hT hmx h1 n1 e1 r ok hq
 ·rw[hv]
  refine a7i h fun _ h=> .seq1 (a7i h fun _ h=>?_)
  cases h with
  |cond hv h=>
   rename_i t
   cases t with
   |true=>exact .cond (t:=true) hv (a7i h fun _ h=>c4o h)
   |false=>cases h
def g5n (pg:Pg) (vf:VFn) (args:List V) (H:Hp) (r:V) (H':Hp):Prop:=∃ x s2,ev pg vf.body ⟨a1a args,H,H.length⟩=some (x,s2)/\(x= .nrm\/x= .ret)/\leave vf H.length s2=some (r,H')
def g6e (pg:Pg) (dd:a2u) (vf:VFn) (args:List V) (H:Hp) (x:D):Prop:=a2b pg dd vf.body ⟨a1a args,H,H.length⟩ x
theorem h7t {dd:a2u} {vf:VFn} (hk:vf.keep=false) {args:List V} {H:Hp} {R:V->Hp->Prop} {D:D->Prop}
 (h:b0e 0 args fun e=>WX pg dd H.length vf.body [] e H (e4i vf.res H.length fun v H'=>R v (H'.take H.length)) D):
 (∃ r H',g5n pg vf args H r H'/\R r H')\/∃ x,g6e pg dd vf args H x/\D x:=by
 rw[a6x]at h
 rcases h.imp (a3p.nil _)with⟨x,kn,e1,H1,h1,_,h3⟩|⟨x,h1,h2⟩
 ·rw[<-a4o]at h1
  left
  obtain⟨r',h7,h8⟩:=b5j (b:=H.length) h3
  have hy:x= .nrm\/x= .ret:=by
   cases x with
   |nrm=>exact .inl rfl
   |ret=>exact .inr rfl
   |exit i=>cases h7
  refine⟨r',_,⟨x,_,h1,hy,?_⟩,h8⟩
  have:leave ⟨0,0,.skip,vf.res,false⟩ H.length ⟨e1,H1,H.length⟩=some (r',H1.take H.length):=by rcases hy with rfl|rfl<;>exact h7
  unfold leave at this⊢
  rw[hk]
  exact this
 ·rw[<-a4o]at h1
  exact .inr ⟨x,h1,h2⟩
theorem g5n.sh {σ:Nat->Nat} {n:Nat} {HB:Hp} (hp:b0n pg) (hm:Mv σ n HB) {vf:VFn} (hc:vf.body.cst=true) {a:List V} {h H h':Hp} {r:V} (R:HR σ n HB h H) (hd:g5n pg vf a h r h'):∃ H',g5n pg vf (shL σ a) H (r.sh σ) H'/\HR σ n HB h' H':=by
 obtain⟨x,s2,q1,q2,q3⟩:=hd
 obtain⟨S2,w1,R1⟩:=d7i hm hp hc (S:=⟨a1a (shL σ a),H,H.length⟩) ⟨a6z a,R,R.len,R.le⟩ q1
 obtain⟨H',w4,R4⟩:=c3a (vf:=vf) hm R.le R1 q3
 exact⟨H',⟨x,S2,w1,q2,by rw[R.len];exact w4⟩,R4⟩
theorem g6e.sh {σ:Nat->Nat} {n:Nat} {HB:Hp} (hp:b0n pg) (hm:Mv σ n HB) {dd dd':a2u} (hdd:DSh σ n HB dd dd') {vf:VFn} (hc:vf.body.cst=true) {a:List V} {h H:Hp} {x:D} (R:HR σ n HB h H) (hd:g6e pg dd vf a h x):g6e pg dd' vf (shL σ a) H x:=
 c3p hm hp hdd hd hc ⟨a6z a,R,R.len,R.le⟩
end
end Go.Vm
set_option maxHeartbeats 0
namespace Go.Vm.Ite
open Go Go.Vm Go.Proofs
def Q22:Laid Tryz.prog (AA [] []) false Tryz.f22:=laid
def Q37:Laid Tryz.prog (AA [] []) false Tryz.f37:=laid
def Q39:Laid Tryz.prog (AA [] []) false Tryz.f39:=laid
def Q83:Laid Tryz.prog (AA [] [(5,[.bindrow 1 4 3])]) false Tryz.f83:=laid
def Q88:Laid Tryz.prog (AA [] []) false Tryz.f88:=laid
abbrev w1:a0e->a0b| .reg (w::_)=>w|_=>default
abbrev c9p (v:a0e):a0e:=vR (vR (vR v))
abbrev f2r (v:a0e):a0e:= .seq (vL v) (.seq (vL (vR v)) (.reg [w1 (vL (vR (vR v)))]))
abbrev g4e (v:a0e):a0e:=vR (vR (vR (vR v)))
abbrev i0o (v:a0e):a0e:= .seq (vL v) (.seq (vL (vR v)) (.seq (vL (vR (vR v))) (.reg [w1 (vL (vR (vR (vR v))))])))
theorem k22:a0i 22 Q22:={}
theorem k37:a0i 37 Q37:={}
theorem k39:a0i 39 Q39:={}
theorem k83:a0i 83 Q83:={}
theorem k88:a0i 88 Q88:={}
theorem S22:b2f Tryz.prog 22 50 7 Tryz.f22 Q22.F (f2r Q22.F.body) (c9p Q22.F.body):=e7z Tryz.func22 k22.name k22.tr k22.ok rfl rfl rfl kr kr kr kr kr (by decide)
theorem S37:b2f Tryz.prog 37 50 11 Tryz.f37 Q37.F (f2r Q37.F.body) (c9p Q37.F.body):=e7z Tryz.func37 k37.name k37.tr k37.ok rfl rfl rfl kr kr kr kr kr (by decide)
theorem S39:b2f Tryz.prog 39 50 33 Tryz.f39 Q39.F (i0o Q39.F.body) (g4e Q39.F.body):=h2d Tryz.func39 k39.name k39.tr k39.ok rfl rfl rfl kr kr kr kr kr kr (by decide)
theorem S83:b2f Tryz.prog 83 50 9 Tryz.f83 Q83.F (f2r Q83.F.body) (c9p Q83.F.body):=e7z Tryz.func83 k83.name k83.tr k83.ok rfl rfl rfl kr kr kr kr kr (by decide)
abbrev i2e (v:a0e):a0e:= .seq (vL v) (.seq (vL (vL (vR v))) (.cond (.t 8) (.seq (vL (vA (vR (vL (vR v))))) (.reg [w1 (vR (vA (vR (vL (vR v)))))])) (.exit 0)))
abbrev g2o (v:a0e):a0e:=vR (vR v)
theorem S88:b2f Tryz.prog 88 50 13 Tryz.f88 Q88.F (i2e Q88.F.body) (g2o Q88.F.body):=g9o Tryz.func88 k88.name k88.tr k88.ok rfl rfl rfl kr kr kr kr kr kr (by decide) (by decide)
end Go.Vm.Ite
namespace Go.Vm.Px
open Go.Vm.Lex (TokQ)
open Go.Vm.Pa hiding go
open Go.Vm.Ite
set_option maxHeartbeats 4000000
section
variable {fx:Nat->Option Obj} {F:Nat->Option a1j} {l:List TokQ} {s s1:PS} {bb:Bool} {X:Hp} {base:Nat->a2u} {n:Nat} {o:Option EX} {b:Bool} {p:Int} {g:Q->PS->Option EX} {K:V->Hp->Prop}
def c5b (fx:Nat->Option Obj) (F:Nat->Option a1j) (base:Nat->a2u) (l:List TokQ) (pre rest:a0e) (t:Nat) (vf:VFn) (a:List V) (s:PS) (bb:Bool) (o:Option EX):Prop:=match o with
 |some (.ok r s1)=>f9h (pgL fx F) pre rest t 50 vf 0 (.ptr 0 0::a) [QB l s bb,PR s] (.d (b1v l s r s1)) [QB l s1 bb,PR s1]
 |some (.bad c f e)=>f7j (pgL fx F) (a1p (pgL fx F) (base 0)) pre rest t 0 (.ptr 0 0::a) [QB l s bb,PR s] (c4y c f e)
 |none=>True
theorem b8g {pre rest:a0e} {t:Nat} {vf:VFn} (hk:vf.keep=false) {a:List V}
 (h:o≠none->b0e 0 (.ptr 0 0::a) fun e=>WX (pgL fx F) (a1p (pgL fx F) (base 0)) [QB l s bb,PR s].length pre [] e [QB l s bb,PR s] (fun x _ e1 H1=>x= .nrm/\a1k e1 t= .ptr 0 0/\WX (pgL fx F) (a1p (pgL fx F) (base 0)) [QB l s bb,PR s].length rest [] e1 H1 (fun x kn e2 H2=> ∃ H3,evF (pgL fx F) 50 [.ptr 0 0] H2=some (.tup [],H3)/\e4i vf.res [QB l s bb,PR s].length (fun v H'=> ∃ r s1,o=some (.ok r s1)/\leftV l bb [] (fun r s'=> .d (b1v l s r s')) r s1=(v,H'.take [QB l s bb,PR s].length)) x kn e2 H3) (c7z o)) (c7z o)):c5b fx F base l pre rest t vf a s bb o:=by
 cases o with
 |none=>trivial
 |some y=>
  rcases h9v (R:=fun v H'=> ∃ r s1,some y=some (EX.ok r s1)/\leftV l bb [] (fun r s'=> .d (b1v l s r s')) r s1=(v,H')) hk (h (by simp))with⟨r,H',h1,r',s',h2,h3⟩|⟨x,h1,c,f',e,h2,h3⟩
  ·cases h2
   cases h3
   exact h1
  ·cases h2
   subst h3
   exact h1
theorem a9h {k:Pr} (E:a0a l g (.down k) s=o):a0a l g k (down s)=o:=E
theorem g9z (W:Wk fx F base l) (LB:a9r fx F base l n a0k [.d (.int .i64 1)] fun _ b=> .row 0 b) (h:okS l s=true) (hb:Zf s):c5b fx F base l (f2r Q22.F.body) (c9p Q22.F.body) 7 Q22.F [] s bb (goE l (n+1) (.expr bb) s):=by
  refine b8g rfl fun N=>?_
  have A:=At.start h hb
  have E:a0a l (goE l n) (prog (.expr bb)) s=goE l (n+1) (.expr bb) s:=rfl
  generalize goE l (n+1) (.expr bb) s=o at E N⊢
  repeat' (first|refine a2y ⟨?_⟩|(refine a2k A ?_)|(refine a2i A ?_)|(refine a0d W A E ?_;clear A E;intro A E)|(refine a1d W A E ?_;clear A E;intro A E)|(refine a0n W A E ?_ ?_<;>clear A E<;>intro A E)|(refine a0r W A E ?_ ?_<;>clear A E<;>intro A E)|(refine a7h A E ?_ ?_<;>clear E<;>intro c E)|(refine a7x A E ?_ ?_<;>clear E<;>intro c E)|(refine a0g W A E ?_ ?_<;>clear A E<;>intro A E)|(refine a1h A E ?_ ?_<;>clear E<;>intro c E)|(refine a0j A E ?_ ?_<;>clear E<;>intro E)|(refine a2f A E N rfl rfl ?_;clear A E;intro i s2 E hat A)|(refine a0m A E N rfl rfl rfl ?_;clear A E;intro i s2 E hat A)|(refine a1f W A E N ?_;clear A E;intro A E)|exact a1i W A E|(refine And.intro ⟨rfl,by decide⟩ ?_)|(refine cxq (e1n A.ok) ?_)|(refine a7o W A (d3l W.hl) E ?_;clear A E;intro hB A E)|(refine a0v W A E N (LB _ _ A.ok A.bc) rfl (fun _ _=>rfl) ?_;clear A E;intro r s1 G A E)|(refine⟨rfl,rfl,?_⟩)|(refine⟨_,a3y,?_⟩)|fail)
  all_goals exact⟨_,_,(a9h E).symm,rfl⟩
end
end Go.Vm.Px
