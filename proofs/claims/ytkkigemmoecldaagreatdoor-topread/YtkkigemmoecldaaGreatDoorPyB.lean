import Derived.Test.YtkkigemmoecldaaGreatDoorPxG
set_option maxHeartbeats 0
set_option linter.unusedVariables false
set_option linter.unusedSimpArgs false
namespace Go.Vm.Px
open Go.Vm.Lex (TokQ)
open Go.Vm.Pa hiding go
open Go.Vm.Ite
set_option maxRecDepth 10000
structure At (l:List TokQ) (b:Bool) (p:Int) (s:PS):Prop where
 ok:fb l s=true
 lo:0<=p
 le:p<=s.at_
 lt:b=true->p < s.at_
 bc:Zf s
def qT (o:Option EX) (x:D):Prop:=∃ c f e,o=some (.bad c f e)/\x=pK c f e
def nF (l:List TokQ) (s:PS) (r:R) (s':PS):D:=su r.i (l.getD s.at_.toNat default).f (l.getD (w (s'.at_ - 1)).toNat default).e
def a2b (k:Bool->Pr):Pr:= .is [105,102] fun a=> .is [109,97,116,99,104] fun b=> .is [123] fun c=>k (a||b||c)
section
variable {l:List TokQ} {s s1:PS} {b:Bool} {p:Int}
theorem At.start (h:fb l s=true) (hb:Zf s):At l false s.at_ s:=⟨h,(jQ h).1,cI _,by simp,hb⟩
theorem At.sa (hl:vj l) (A:At l b p s) (h:fb l (dI s)=true):At l true p (dI s):=by
 have e:=KI hl A.ok;have h1:=A.le;exact⟨h,A.lo,om,fun _=>om,A.bc⟩
theorem At.dI (hl:vj l) (A:At l b p s) (h:(now l s).k≠5):At l true p (dI s):=A.sa hl (jZ hl A.ok h)
theorem At.down (A:At l b p s):At l b p (down s):=⟨A.ok,A.lo,A.le,A.lt,A.bc⟩
theorem At.into (A:At l b p s):At l b p (jf s):=⟨A.ok,A.lo,A.le,A.lt,A.bc⟩
theorem At.same (A:At l b p s) (h1:s1.at_=s.at_) (h2:mw s s1):At l b p s1:=⟨by have:=A.ok;unfold fb at this⊢;rw[h1];exact this,A.lo,by rw[h1];exact A.le,by rw[h1];exact A.lt,h2.zf A.bc⟩
theorem At.call {n:Nat} {q:Q} {r:R} (hl:vj l) (A:At l b p s) (h:cM l n q s=some (.ok r s1)) (h2:fb l s1=true):At l (b||eats q) p s1:=by
 have hr:=jQ A.ok;have:=vY hl n q s r s1 hr.1 om h;have h3:=this.1.le;have h4:=A.le;refine⟨h2,A.lo,om,fun hb=>?_,this.1.bc.zf A.bc⟩;rcases eb.1 hb with hb|hb
 ·have:=A.lt hb;omega
 ·have:=this.2 hb;omega
end
structure Wk (fx:Nat->Option Obj) (F:Nat->Option dF) (base:Nat->dk) (l:List TokQ):Prop where
 hF:ki (b9 fx F)
 hb:m5 base
 hl:vj l
section
variable {fx:Nat->Option Obj} {F:Nat->Option dF} {l:List TokQ} {s s1:PS} {bb:Bool} {X:Hp} {base:Nat->dk} {n:Nat} {b:Bool} {p:Int} {g:Q->PS->Option EX} {o:Option EX} {K:V->Hp->Prop}
theorem O0 (W:Wk fx F base l) (A:At l b p s) {x:S} {k:Pr} (E:aF l g (.need x k) s=o)
 (h:At l true p (dI s)->aF l g k (dI s)=o->K (.d (jL (now l s))) (QB l (dI s) bb::PR (dI s)::X)):
 ft (b9 fx F) (cY (b9 fx F) (base 0)) ko [.ptr 0 0,.d (.str x)] (QB l s bb::PR s::X) K (qT o):=by
 simp only[aF]at E;cases c:dj l s x with
 |true=>rw[c]at E;exact nk ((OZ W.hF W.hb A.ok c).1 rfl) (h (A.dI W.hl (nT c)) E)
 |false=>rw[c]at E;exact Oh ((OZ W.hF W.hb A.ok c).2 rfl) ⟨_,_,_,E.symm,rfl⟩
theorem zS (W:Wk fx F base l) (A:At l b p s) {k:S->Pr} (E:aF l g (.name k) s=o)
 (h:At l true p (dI s)->aF l g (k (now l s).t) (dI s)=o->K (.d (jL (now l s))) (QB l (dI s) bb::PR (dI s)::X)):
 ft (b9 fx F) (cY (b9 fx F) (base 0)) iB [.ptr 0 0] (QB l s bb::PR s::X) K (qT o):=by
 simp only[aF]at E;cases c:decide ((now l s).k=1)with
 |true=>rw[c]at E;exact nk ((qV W.hF W.hb A.ok c).1 rfl) (h (A.dI W.hl (by have:=af c;omega)) E)
 |false=>rw[c]at E;exact Oh ((qV W.hF W.hb A.ok c).2 rfl) ⟨_,_,_,E.symm,rfl⟩
theorem DX (W:Wk fx F base l) (A:At l b p s) {D:Go.Vm.D->Prop} {x:S} {k:Bool->Pr} (E:aF l g (.take x k) s=o)
 (h1:At l true p (dI s)->aF l g (k true) (dI s)=o->K (.d (.bool true)) (QB l (dI s) bb::PR (dI s)::X))
 (h2:At l b p s->aF l g (k false) s=o->K (.d (.bool false)) (QB l s bb::PR s::X)):
 ft (b9 fx F) (cY (b9 fx F) (base 0)) gJ [.ptr 0 0,.d (.str x)] (QB l s bb::PR s::X) K D:=by
 simp only[aF]at E;cases c:dj l s x with
 |true=>rw[c]at E;exact nk (uL A.ok c) (h1 (A.dI W.hl (nT c)) E)
 |false=>rw[c]at E;exact nk (uL A.ok c) (h2 A E)
theorem TH (A:At l b p s) {D:Go.Vm.D->Prop} {x:S} {k:Bool->Pr} (E:aF l g (.is x k) s=o)
 (h1:dj l s x=true->aF l g (k true) s=o->K (.d (.bool true)) (QB l s bb::PR s::X))
 (h2:dj l s x=false->aF l g (k false) s=o->K (.d (.bool false)) (QB l s bb::PR s::X)):
 ft (b9 fx F) (cY (b9 fx F) (base 0)) jE [.ptr 0 0,.d (.str x)] (QB l s bb::PR s::X) K D:=by
 simp only[aF]at E;cases c:dj l s x with
 |true=>rw[c]at E;exact nk (eN A.ok c) (h1 c E)
 |false=>rw[c]at E;exact nk (eN A.ok c) (h2 c E)
theorem MS (W:Wk fx F base l) (A:At l b p s) {D:Go.Vm.D->Prop} {x:S} {k:Bool->Pr} (E:aF l g (.take x k) s=o)
 (h1:At l true p (dI s)->aF l g (k true) (dI s)=o->K (.d (.bool true)) (QB l s bb::PR s::X))
 (h2:At l b p s->aF l g (k false) s=o->K (.d (.bool false)) (QB l s bb::PR s::X)):
 ft (b9 fx F) (cY (b9 fx F) (base 0)) jE [.ptr 0 0,.d (.str x)] (QB l s bb::PR s::X) K D:=by
 simp only[aF]at E;cases c:dj l s x with
 |true=>rw[c]at E;exact nk (eN A.ok c) (h1 (A.dI W.hl (nT c)) E)
 |false=>rw[c]at E;exact nk (eN A.ok c) (h2 A E)
theorem Xn (A:At l b p s) {D:Go.Vm.D->Prop} {k:Bool->Pr} (E:aF l g (.kind 1 k) s=o)
 (h1:(now l s).k=1->aF l g (k true) s=o->K (.d (.bool true)) (QB l s bb::PR s::X))
 (h2:(now l s).k≠1->aF l g (k false) s=o->K (.d (.bool false)) (QB l s bb::PR s::X)):
 ft (b9 fx F) (cY (b9 fx F) (base 0)) oy [.ptr 0 0] (QB l s bb::PR s::X) K D:=by
 simp only[aF]at E;cases c:decide ((now l s).k=1)with
 |true=>rw[c]at E;exact nk (vN A.ok c) (h1 (af c) E)
 |false=>rw[c]at E;exact nk (vN A.ok c) (h2 (bw c) E)
theorem bH (A:At l b p s) {D:Go.Vm.D->Prop} {k:Bool->Pr} (E:aF l g (a2b k) s=o)
 (h1:aF l g (k true) s=o->K (.d (.bool true)) (QB l s bb::PR s::X))
 (h2:aF l g (k false) s=o->K (.d (.bool false)) (QB l s bb::PR s::X)):
 ft (b9 fx F) (cY (b9 fx F) (base 0)) mB [.ptr 0 0] (QB l s bb::PR s::X) K D:=by
 simp only[aF,a2b]at E;cases c:(dj l s [105,102]||dj l s [109,97,116,99,104]||dj l s [123])with
 |true=>rw[c]at E;exact nk ((gj A.ok).trans (by rw[c])) (h1 E)
 |false=>rw[c]at E;exact nk ((gj A.ok).trans (by rw[c])) (h2 E)
theorem a3n (A:At l b p s) {D:Go.Vm.D->Prop} (h:K (.d (jL (now l s))) (QB l s bb::PR s::X)):
 ft (b9 fx F) (cY (b9 fx F) (base 0)) k6 [.ptr 0 0] (QB l s bb::PR s::X) K D:=nk (eX A.ok) h
theorem Xl (W:Wk fx F base l) (A:At l b p s) {D:Go.Vm.D->Prop} {k:Pr} (E:aF l g (.dI k) s=o) (N:o≠none)
 (h:At l true p (dI s)->aF l g k (dI s)=o->K (.d (jL (now l s))) (QB l (dI s) bb::PR (dI s)::X)):
 ft (b9 fx F) (cY (b9 fx F) (base 0)) ox [.ptr 0 0] (QB l s bb::PR s::X) K D:=by
 simp only[aF]at E;cases c:fb l (dI s)with
 |true=>rw[c]at E;exact nk (oU A.ok) (h (A.sa W.hl c) E)
 |false=>rw[c]at E;exact absurd E.symm N
theorem cZ (W:Wk fx F base l) (A:At l b p s) {k:Pr} (E:aF l g (.fail k) s=o):
 ft (b9 fx F) (cY (b9 fx F) (base 0)) oz [.ptr 0 0,.d (.int .i64 120)] (QB l s bb::PR s::X) K (qT o):=
 Oh (Bl W.hF W.hb A.ok 120) ⟨_,_,_,E.symm,rfl⟩
theorem kT (W:Wk fx F base l) (A:At l b p s) {c:Int} {t:Bool} (ht:t=dP l c s) {k:Bool->Pr} (E:aF l g (.into c k) s=o)
 (h:dP l c s=true->At l b p (jf s)->aF l g (k true) (jf s)=o->K (.tup []) (QB l (jf s) bb::PR (jf s)::X)):
 ft (b9 fx F) (cY (b9 fx F) (base 0)) gK [.ptr 0 0,.d (.bool t)] (QB l s bb::PR s::X) K (qT o):=by
 subst ht;simp only[aF]at E;cases c1:dP l c s with
 |false=>rw[c1]at E;exact Oh (Sj W.hF W.hb A.ok) ⟨_,_,_,E.symm,rfl⟩
 |true=>
  rw[c1]at E;simp only at E;cases c2:decide (100<=s.deep)with
  |true=>rw[c2]at E;exact Oh (Kd W.hF W.hb A.ok c2) ⟨_,_,_,E.symm,rfl⟩
  |false=>rw[c2]at E;exact nk (mb c2) (h c1 A.into E)
theorem TG (A:At l b p s) {D:Go.Vm.D->Prop} {k:Pr} (E:aF l g (.down k) s=o)
 (h:At l b p (down s)->aF l g k (down s)=o->K (.tup []) (QB l (down s) bb::PR (down s)::X)):
 ft (b9 fx F) (cY (b9 fx F) (base 0)) nL [.ptr 0 0] (QB l s bb::PR s::X) K D:=nk gL (h A.down E)
theorem rB {fr:Int} {m:N} {i:Int} (e:fA l fr m s=some (i,s1)) (hlt:fr < s.at_):
 okF l (w (s.at_ - 1))=true/\s.ns.length=s.n/\s.n < 1000000/\i=w (((s.n+1:Nat):Int) - 1)/\s1=tD m (l.getD fr.toNat default).f (l.getD (w (s.at_ - 1)).toNat default).e s:=by
 unfold fA at e;split at e
 ·rename_i hg;obtain⟨hn,hn2,_,ha⟩:=hg;simp only[aa,aN]at e;obtain⟨rfl,rfl⟩:=e;exact⟨ha hlt,hn,hn2,rfl,by unfold tD;first|rfl|rw[ay hlt]⟩
 ·cases e
theorem Wf (A:At l true p s) {D:Go.Vm.D->Prop} {m:N} {k:Int->Pr} (E:aF l g (.node p m k) s=o) (N:o≠none) {Y:Go.Vm.D} (hY:Y=m.D 0 0) {f:Int} (hf:f=(l.getD p.toNat default).f)
 (h:∀ i s1,aF l g (k i) s1=o->s1.at_=s.at_->At l true p s1->K (.d (su i f (l.getD (w (s1.at_ - 1)).toNat default).e)) (QB l s1 bb::PR s1::X)):
 ft (b9 fx F) (cY (b9 fx F) (base 0)) k9 [.ptr 0 0,.d Y,.d (.int .i64 f)] (QB l s bb::PR s::X) K D:=by
 subst hY;subst hf;simp only[aF]at E;cases c:fA l p m s with
 |none=>rw[c]at E;exact absurd E.symm N
 |some q=>
  obtain⟨i,s1⟩:=q;rw[c]at E;obtain⟨ha,hn,hn2,rfl,rfl⟩:=rB c (A.lt rfl);refine nk (W9 ha hn hn2 m 0 0 _) ?_;have:=h _ _ E rfl (A.same rfl mw.rfl');exact this
theorem qW (A:At l true p s) {D:Go.Vm.D->Prop} {m:N} {k:Int->Pr} (E:aF l g (.node p m k) s=o) (N:o≠none) {Y:Go.Vm.D} (hY:Y=m.D 0 0) {f e:Int} (hf:f=(l.getD p.toNat default).f) (he:e=(l.getD (w (s.at_ - 1)).toNat default).e)
 (h:∀ i s1,aF l g (k i) s1=o->s1.at_=s.at_->At l true p s1->K (.d (su i f (l.getD (w (s1.at_ - 1)).toNat default).e)) (QB l s1 bb::PR s1::X)):
 ft (b9 fx F) (cY (b9 fx F) (base 0)) jR [.ptr 0 0,.d Y,.d (.int .i64 f),.d (.int .i64 e)] (QB l s bb::PR s::X) K D:=by
 subst hY;subst hf;subst he;simp only[aF]at E;cases c:fA l p m s with
 |none=>rw[c]at E;exact absurd E.symm N
 |some q=>
  obtain⟨i,s1⟩:=q;rw[c]at E;obtain⟨ha,hn,hn2,rfl,rfl⟩:=rB c (A.lt rfl);refine nk (xN hn hn2 m 0 0 _ _) ?_;have:=h _ _ E rfl (A.same rfl mw.rfl');exact this
abbrev leftV (l:List TokQ) (bb:Bool) (X:Hp) (v:R->PS->V) (r:R) (s:PS):V×Hp:=(v r s,QB l s bb::PR s::X)
theorem WH (hF:ki (b9 fx F)) (hb:m5 base) {f:Nat} {a:List V} {o:Option EX} {v:R->PS->V} (h:Says (b9 fx F) (base 0) f a [QB l s bb,PR s] o (leftV l bb [] v)) (ha:br 2 a=true) (hv:∀ r s,(v r s).und 2=true):Says (b9 fx F) (base 0) f a (QB l s bb::PR s::X) o (leftV l bb X v):=by
 cases o with
 |none=>trivial
 |some y=>
  cases y with
  |ok r s'=>exact Bp hF (h:=[QB l s bb,PR s]) (h':=[QB l s' bb,PR s']) (X:=X) h ha rfl rfl rfl (hv r s')
  |bad c f' e=>exact Dp hF hb h ha
theorem ct (W:Wk fx F base l) (A:At l b p s) {q:Q} {k:R->Pr} (E:aF l (cM l n) (.call q k) s=o) (N:o≠none) {f:Nat} {a:List V} {v:R->PS->V} (S:Says (b9 fx F) (base 0) f a [QB l s bb,PR s] (cM l n q s) (leftV l bb [] v)) (ha:br 2 a=true) (hv:∀ r s,(v r s).und 2=true)
 (h:∀ r s1,cM l n q s=some (.ok r s1)->At l (b||eats q) p s1->aF l (cM l n) (k r) s1=o->K (v r s1) (QB l s1 bb::PR s1::X)):
 ft (b9 fx F) (cY (b9 fx F) (base 0)) f a (QB l s bb::PR s::X) K (qT o):=by
 have S':=WH (X:=X) W.hF W.hb S ha hv;simp only[aF]at E;cases c:cM l n q s with
 |none=>rw[c]at E;exact absurd E.symm N
 |some y=>
  rw[c]at E S';cases y with
  |bad c f e=>exact Oh S' ⟨_,_,_,E.symm,rfl⟩
  |ok r s1=>
   simp only at E;cases c2:fb l s1 with
   |false=>rw[c2]at E;exact absurd E.symm N
   |true=>rw[c2]at E;exact nk S' (h r s1 c (A.call W.hl c c2) E)
end
theorem iA {pg:Pg} {base:dk} {f:Nat} {a:List V} {H:Hp} {o:Option EX} {k:R->PS->V×Hp} {vf:kK}
 (h:o≠none->kA 0 a fun e=>WX pg (cY pg base) H.length vf.body [] e H (wL vf.res H.length fun v H'=> ∃ r s,o=some (.ok r s)/\k r s=(v,H'.take H.length)) (qT o)) (ht:pg.my f=some (.code vf):=by exact rfl) (hn:a.length=vf.np:=by exact rfl) (hk:vf.keep=false:=by exact rfl) (hu:br 0 a=false:=by exact rfl):Says pg base f a H o k:=T6 ht hn hk hu h
section
variable {l:List TokQ} {g:Q->PS->Option EX} {o:Option EX} {s:PS}
theorem p9 {k:Int->Pr} (E:aF l g (.pos k) s=o):aF l g (k s.at_) s=o:=E
theorem Sr {k:Bool->Pr} (E:aF l g (.ok k) s=o):aF l g (k true) s=o:=E
theorem a8x {k:Int->Pr} (E:aF l g (.val k) s=o):aF l g (k (now l s).v) s=o:=E
theorem tR {k:Pr} (E:aF l g (.dI k) s=o) (N:o≠none):fb l (dI s)=true/\aF l g k (dI s)=o:=by
 simp only[aF]at E;cases c:fb l (dI s)with
 |true=>rw[c]at E;exact⟨rfl,E⟩
 |false=>rw[c]at E;exact absurd E.symm N
theorem Ss {c:Int} {k:Bool->Pr} {t:Bool} (E:aF l g (.kind c k) s=o) (h:decide ((now l s).k=c)=t):aF l g (k t) s=o:=by subst h;exact E
theorem jv {n:Nat} {q:Q} {k:R->Pr} (N:o≠none) (E:aF l (cM l n) (.call q k) s=o):aF l (cM l n) (cj (prog q) k) s=o:=by
 cases o with
 |none=>exact absurd rfl N
 |some y=>exact VJ E
theorem xu {c:Bool} {q:Pr} (N:o≠none) (E:aF l g (Pa.guard c q) s=o):c=true/\aF l g q s=o:=by
 cases c with
 |true=>exact⟨rfl,E⟩
 |false=>exact absurd E.symm N
end
section
variable {pg:Pg} {base:dk} {D:D->Prop} {K:V->Hp->Prop}
theorem pz {f:Nat} {vf:kK} {a:List V} {H:Hp}
 (h:kA 0 a fun e=>WX pg (cY pg base) H.length vf.body [] e H (wL vf.res H.length fun v H'=>K v (H'.take H.length)) D) (ht:pg.my f=some (.code vf):=by exact rfl) (hn:a.length=vf.np:=by exact rfl) (hk:vf.keep=false:=by exact rfl) (hu:br 0 a=false:=by exact rfl):ft pg (cY pg base) f a H K D:=⟨Xi ht hn hk hu h⟩
end
section
variable {fx:Nat->Option Obj} {F:Nat->Option dF} {l:List TokQ} {s s1:PS} {bb:Bool} {X:Hp} {base:Nat->dk} {n:Nat} {b:Bool} {p:Int} {g:Q->PS->Option EX} {o:Option EX} {K:V->Hp->Prop}
theorem Ug (W:Wk fx F base l) (A:At l b p s) {x:S} {k:Bool->Pr} (E:aF l g (.take x k) s=o)
 (h1:At l true p (dI s)->aF l g (k true) (dI s)=o->K (.d (.bool true)) (QB l (dI s) bb::PR (dI s)::X))
 (h2:At l b p s->aF l g (k false) s=o->K (.d (.bool false)) (QB l s bb::PR s::X)):
 ∃ r H',cv (b9 fx F) gJ [.ptr 0 0,.d (.str x)] (QB l s bb::PR s::X)=some (r,H')/\K r H':=by
 simp only[aF]at E;cases c:dj l s x with
 |true=>rw[c]at E;exact⟨_,_,uL A.ok c,h1 (A.dI W.hl (nT c)) E⟩
 |false=>rw[c]at E;exact⟨_,_,uL A.ok c,h2 A E⟩
theorem q_is (A:At l b p s) {x:S} {k:Bool->Pr} (E:aF l g (.is x k) s=o)
 (h1:dj l s x=true->aF l g (k true) s=o->K (.d (.bool true)) (QB l s bb::PR s::X))
 (h2:dj l s x=false->aF l g (k false) s=o->K (.d (.bool false)) (QB l s bb::PR s::X)):
 ∃ r H',cv (b9 fx F) jE [.ptr 0 0,.d (.str x)] (QB l s bb::PR s::X)=some (r,H')/\K r H':=by
 simp only[aF]at E;cases c:dj l s x with
 |true=>rw[c]at E;exact⟨_,_,eN A.ok c,h1 c E⟩
 |false=>rw[c]at E;exact⟨_,_,eN A.ok c,h2 c E⟩
theorem a5z (A:At l b p s) (h:K (.d (jL (now l s))) (QB l s bb::PR s::X)):
 ∃ r H',cv (b9 fx F) k6 [.ptr 0 0] (QB l s bb::PR s::X)=some (r,H')/\K r H':=⟨_,_,eX A.ok,h⟩
def BS (pg:Pg) (base:dk) (f:Nat) (a:List V) (H:Hp) (o:Option EX) (k:R->PS->V->Hp->Prop):Prop:=match o with
 |some (.ok r s)=> ∃ v H',cv pg f a H=some (v,H')/\k r s v H'
 |some (.bad c f' e)=>cY pg base f a H (pK c f' e)
 |none=>True
theorem Jj {pg:Pg} {base:dk} {f:Nat} {a:List V} {H:Hp} {o:Option EX} {k:R->PS->V->Hp->Prop} {vf:kK}
 (h:o≠none->kA 0 a fun e=>WX pg (cY pg base) H.length vf.body [] e H (wL vf.res H.length fun v H'=> ∃ r s,o=some (.ok r s)/\k r s v (H'.take H.length)) (qT o)) (ht:pg.my f=some (.code vf):=by exact rfl) (hn:a.length=vf.np:=by exact rfl) (hk:vf.keep=false:=by exact rfl) (hu:br 0 a=false:=by exact rfl):BS pg base f a H o k:=by
 cases o with
 |none=>trivial
 |some y=>
  rcases Xi (R:=fun v H2=> ∃ r s,some y=some (EX.ok r s)/\k r s v H2) ht hn hk hu (h (by simp))with⟨r,H2,h1,r',s',h2,h3⟩|⟨x,h1,c,f',e,h2,h3⟩
  ·cases h2;exact⟨_,_,h1,h3⟩
  ·cases h2;subst h3;exact h1
theorem Xm (W:Wk fx F base l) (A:At l b p s) {pp:Pr} {k:R->Pr} (E:aF l (cM l n) (cj pp k) s=o) (N:o≠none) {f:Nat} {a:List V} {v:R->PS->V} (S:Says (b9 fx F) (base 0) f a [QB l s bb,PR s] (aF l (cM l n) pp s) (leftV l bb [] v)) (ha:br 2 a=true) (hv:∀ r s,(v r s).und 2=true) (he:Ca eats pp)
 (h:∀ r s1,At l true p s1->aF l (cM l n) (k r) s1=o->K (v r s1) (QB l s1 bb::PR s1::X)):
 ft (b9 fx F) (cY (b9 fx F) (base 0)) f a (QB l s bb::PR s::X) K (qT o):=by
 have S':=WH (X:=X) W.hF W.hb S ha hv;cases o with
 |none=>exact absurd rfl N
 |some y=>
  rcases KC _ _ E with⟨c,f',e,h1,rfl⟩|⟨r,s1,h1,h2⟩
  ·rw[h1]at S';exact Oh S' ⟨_,_,_,rfl,rfl⟩
  ·rw[h1]at S';have hr:=jQ A.ok;have hf:=Le W.hl (vY W.hl n) pp s r s1 hr.1 om h1;have h3:=hf.2 he;have h4:=A.le;exact nk S' (h r s1 ⟨hf.1.ok A.ok,A.lo,om,fun _=>om,hf.1.bc.zf A.bc⟩ h2)
theorem Says.mono {pg:Pg} {base:dk} {f:Nat} {a:List V} {H:Hp} {o o':Option EX} {k:R->PS->V×Hp} (h:Says pg base f a H o' k) (e:∀ y,o=some y->o'=some y):Says pg base f a H o k:=by
 cases o with
 |none=>trivial
 |some y=>rw[e y rfl]at h;exact h
theorem BS.mono {pg:Pg} {base:dk} {f:Nat} {a:List V} {H:Hp} {o o':Option EX} {k:R->PS->V->Hp->Prop} (h:BS pg base f a H o' k) (e:∀ y,o=some y->o'=some y):BS pg base f a H o k:=by
 cases o with
 |none=>trivial
 |some y=>rw[e y rfl]at h;exact h
def gm (fx:Nat->Option Obj) (F:Nat->Option dF) (base:Nat->dk) (l:List TokQ) (n:Nat) (f:Nat) (a:List V) (q:Int->Bool->Q):Prop:=∀ (s:PS) (bb:Bool),fb l s=true->Zf s->Says (b9 fx F) (base 0) f (.ptr 0 0::a) [QB l s bb,PR s] (cM l n (q s.at_ bb) s) (leftV l bb [] fun r s'=> .d (nF l s r s'))
theorem gm.mono {m f:Nat} {a:List V} {q:Int->Bool->Q} (h:gm fx F base l m f a q) (hn:n<=m):gm fx F base l n f a q:=fun s bb h1 h2=>(h s bb h1 h2).mono fun _ e=>kO hn e
end
theorem ot {P Q:Prop} (q:Q) (h:Q->P:=by first|exact a3n A|exact a5z A|exact ao ⟨rfl,by decide⟩):P:=h q
theorem oq {P Q:Prop} (q:Q) (h:Q->P:=by first|exact zS W A E|exact O0 W A E|exact Xl W A E N):P:=h q
theorem wq2 {P Q R:Prop} (q:Q) (r:R) (h:Q->R->P:=by first|exact DX W A E|exact Ug W A E|exact MS W A E):P:=h q r
theorem oj {P Q R:Prop} (q:Q) (r:R) (h:Q->R->P:=by first|exact TH A E|exact q_is A E|exact Xn A E):P:=h q r
theorem oi {P Q:Prop} (q:Q) (h:Q->P:=by first|exact Wf A E N rfl rfl|exact qW A E N rfl rfl rfl):P:=h q
section
variable {l:List TokQ} {s:PS}
theorem L9 (h:(now l s).k=2) (x:S):dj l s x=decide ((now l s).t=x):=by simp[dj,h]
theorem L8 (h:(now l s).k=4) (x:S):dj l s x=decide ((now l s).t=x):=by simp[dj,h]
theorem RF (h2:(now l s).k≠2) (h4:(now l s).k≠4) (x:S):dj l s x=false:=by simp[dj,h2,h4]
theorem C0 (hl:vj l):zw l s=dP l 101 s:=by
 unfold zw dP;have e1:((101:Int)=116)=False:=by simp
 simp only[e1,iE,cU,anyS,Mj,FF,List.any_cons,List.any_nil];by_cases k1:(now l s).k=1
 ·simp[k1]
 by_cases k3:(now l s).k=3
 ·simp[k3]
 by_cases k2:(now l s).k=2
 ·have:=hl.wd s.at_.toNat k2;change (now l s).t∉C2 at this;simp only[L9 k2,k2];generalize(now l s).t=t at this;simp only[C2,bs,cK,gR,not_or]at this;simp only[this]
  grind
 by_cases k4:(now l s).k=4
 ·have:=hl.sg s.at_.toNat k4;change (now l s).t∉_ at this;simp only[L8 k4,k4];generalize(now l s).t=t at this;simp only[bs,cK,gR,not_or]at this;simp only[this]
  grind
 simp[k1,k2,k3,k4,RF k2 k4]
def XC:List S:=[[124,124],[38,38],[60],[60,61],[62],[62,61],[61,61],[33,61],[43],[45],[42],[47],[37]]
theorem sign_eq (hl:vj l) (hb:Zf s) {r:Int} (hr:r=0\/r=1\/r=2\/r=3\/r=4):(Gi (now l s)=r+1/\nB l r s=(now l s).t/\(now l s).t≠[])\/(Gi (now l s)≠r+1/\nB l r s=[]):=by
 have ok:okB s=true:=YM hb.1;by_cases k4:(now l s).k=4
 ·unfold Gi nB;simp only[ok,L8 k4,k4,eE];generalize(now l s).t=t;by_cases ht:t∈XC
  ·simp only[XC,bs,cK,gR]at ht;rcases ht with rfl|rfl|rfl|rfl|rfl|rfl|rfl|rfl|rfl|rfl|rfl|rfl|rfl<;>rcases hr with rfl|rfl|rfl|rfl|rfl<;>decide
  ·simp only[XC,bs,cK,gR,not_or]at ht;right;refine⟨?_,?_⟩
   ·simp only[ht];simp;omega
   ·rcases hr with rfl|rfl|rfl|rfl|rfl<;>simp[iz,ht]
 ·right;refine⟨?_,?_⟩
  ·unfold Gi;simp[k4];omega
  ·unfold nB;by_cases k2:(now l s).k=2
   ·have:=hl.wd s.at_.toNat k2;change (now l s).t∉C2 at this;simp only[L9 k2,ok,eE];generalize(now l s).t=t at this;simp only[C2,bs,cK,gR,not_or]at this;rcases hr with rfl|rfl|rfl|rfl|rfl<;>simp[iz,this]
   ·rcases hr with rfl|rfl|rfl|rfl|rfl<;>simp[RF k2 k4,iz]
end
def YA (t:TokQ) (p:Int) (k:Int->Pr):Pr:= .dI (match decide (t.t=[105,54,52])with
  |true=> .node p ⟨10,[],0,[]⟩ k
  |false=>match decide (t.t=[98,111,111,108])with
  |true=> .node p ⟨11,[],0,[]⟩ k
  |false=>match decide (t.t=[40])with
  |true=> .need [41] (.node p ⟨12,[],0,[]⟩ k)
  |false=>match decide (t.t=[38])with
  |true=> .take [109,117,116] fun b=>match b with
   |true=> .call .typ fun r=> .node p ⟨15,[],0,Pa.one r.i⟩ k
   |false=> .call .typ fun r=> .node p ⟨14,[],0,Pa.one r.i⟩ k
  |false=>match decide (t.t=[66,111,120])with
  |true=> .need [60] (.call .typ fun r=> .need [62] (.node p ⟨16,[],0,Pa.one r.i⟩ k))
  |false=> .node p ⟨13,t.t,0,[]⟩ k)
def GF (t:TokQ) (p:Int) (k:Int->Pr):Pr:= .dI (match decide (t.k=3)with
  |true=> .node p ⟨52,[],t.v,[]⟩ k
  |false=>match decide (t.k=1)with
  |true=> .take [58,58] fun b=>match b with
   |false=> .node p ⟨51,t.t,0,[]⟩ k
   |true=> .name fun u=> .take [40] fun b=>match b with
    |false=> .node p ⟨54,t.t++[58,58]++u,0,[]⟩ k
    |true=> .call .pattern fun r=> .need [41] (.node p ⟨54,t.t++[58,58]++u,0,Pa.one r.i⟩ k)
  |false=>match decide (t.t=[45])with
  |true=> .kind 3 fun b=>match b with
   |false=> .fail .dead
   |true=> .val fun v=> .dI (.node p ⟨52,[],w (0 - v),[]⟩ k)
  |false=>match decide (t.t=[116,114,117,101])with
  |true=> .node p ⟨53,[],1,[]⟩ k
  |false=>match decide (t.t=[102,97,108,115,101])with
  |true=> .node p ⟨53,[],0,[]⟩ k
  |false=> .node p ⟨50,[],0,[]⟩ k)
def JC (t:TokQ) (p:Int) (bare:Bool) (k:Int->Pr):Pr:= .dI (.take [40] fun b=>match b with
  |true=> .call (.args K.o) fun q=> .need [41] (guard (jM q.ks) (.node p ⟨34,t.t,0,q.ks.l⟩ k))
  |false=> .take [58,58] fun b=>match b with
  |true=> .name fun u=> .take [40] fun b=>match b with
   |false=> .node p ⟨37,t.t++[58,58]++u,0,[]⟩ k
   |true=> .call (.expr false) fun r=> .need [41] (.node p ⟨37,t.t++[58,58]++u,0,Pa.one r.i⟩ k)
  |false=>match bare with
   |true=> .node p ⟨33,t.t,0,[]⟩ k
   |false=> .take [123] fun b=>match b with
    |true=> .call (.inits K.o) fun q=> .need [125] (guard (jM q.ks) (.node p ⟨35,t.t,0,q.ks.l⟩ k))
    |false=> .node p ⟨33,t.t,0,[]⟩ k)
def Ls (t:TokQ) (p:Int) (bare:Bool):Pr:=match decide (t.k=1)with
 |true=> .call (.named p bare) .ret
 |false=>match decide (t.k=3)with
 |true=> .dI (kN p 30 [] t.v [])
 |false=> .take [116,114,117,101] fun b=>match b with
 |true=>kN p 31 [] 1 []
 |false=> .take [102,97,108,115,101] fun b=>match b with
 |true=>kN p 31 [] 0 []
 |false=> .take [66,111,120] fun b=>match b with
 |true=> .need [58,58] (.kind 1 fun b=>match b with
  |false=> .fail .dead
  |true=> .text [110,101,119] fun b=>match b with
   |false=> .fail .dead
   |true=> .dI (.need [40] (.call (.expr false) fun r=> .need [41] (kN p 44 [] 0 (Pa.one r.i)))))
 |false=> .take [40] fun b=>match b with
 |true=> .take [41] fun b=>match b with
  |true=>kN p 32 [] 0 []
  |false=> .call (.expr false) fun r=> .need [41] (.ret (rI r.i))
 |false=>a2b fun b=>match b with
 |true=> .call .branch .ret
 |false=> .fail .dead
section
variable {l:List TokQ} {n:Nat} {o:Option EX} {s:PS} {b:Bool} {p p0:Int}
theorem yx {x y:S} (h:dj l s x=true) (hxy:x≠y):dj l s y=false:=by
 have:=Be h;unfold dj;rw[this];simp[hxy]
theorem ES {x:S} (h:¬ ((now l s).k=2\/(now l s).k=4)):dj l s x=false:=RF (fun h2=>h (.inl h2)) (fun h4=>h (.inr h4)) x
theorem Tg {k:Pr} (hl:vj l) (A:At l b p s) (h:(now l s).k≠5) {g:Q->PS->Option EX}:aF l g (.dI k) s=aF l g k (dI s):=by
 simp only[aF,jZ hl A.ok h]
theorem a3y (hl:vj l) (A:At l b p s) (hB:dP l 116 s=true) (N:o≠none) {k:R->Pr} (E:aF l (cM l n) (.call (.typed p0) k) s=o):aF l (cM l n) (YA (now l s) p0 fun i=>k (rI i)) s=o:=by
  have E:=jv N E;simp only[prog,kN,cj,aF]at E;have h5:(now l s).k≠5:=by
   intro h5;simp[dP,h5,anyS,D0,dj]at hB
  unfold YA;rw[Tg hl A h5];by_cases k1:(now l s).k=1
  ·have hn:=hl.nm s.at_.toNat k1;change (now l s).t∉D0 at hn;simp only[D0,bs,cK,gR,not_or]at hn;have hf:∀ x,dj l s x=false:=fun x=>ES om;simp only[hf,k1,iK]at E;simp only[hn,decide_false,aF];exact E
  ·have hB2:dj l s [105,54,52]=true\/dj l s [98,111,111,108]=true\/dj l s [40]=true\/dj l s [38]=true\/dj l s [66,111,120]=true:=by
    simpa [dP,k1,anyS,D0] using hB
   rcases hB2 with h|h|h|h|h
   all_goals
    have ht:=Be h;have hk:∀ y,dj l s y=decide ((now l s).t=y):=by
     rcases L7 h with h|h
     ·exact L9 h
     ·exact L8 h
    simp+decide only[hk,ht,aF,iK,decide_false]at E⊢;exact E
theorem Da (hl:vj l) (A:At l b p s) (hB:dP l 112 s=true) (N:o≠none) {k:R->Pr} (E:aF l (cM l n) (.call (.patterned p0) k) s=o):aF l (cM l n) (GF (now l s) p0 fun i=>k (rI i)) s=o:=by
  have E:=jv N E;simp only[prog,kN,QP,cj,aF]at E;have h5:(now l s).k≠5:=by
   intro h5;simp[dP,h5,anyS,Qu,dj]at hB
  unfold GF;rw[Tg hl A h5];have hadv:=jZ hl A.ok h5;by_cases k1:(now l s).k=1
  ·have hf:∀ x,dj l s x=false:=fun x=>ES om;have k3:decide ((now l s).k=3)=false:=ak om;have k1':decide ((now l s).k=1)=true:=au k1;simp only[hf,k1',k3,cj,aF]at E;simp only[k1',k3,aF];exact E
  by_cases k3:(now l s).k=3
  ·have hf:∀ x,dj l s x=false:=fun x=>ES om;have k3':decide ((now l s).k=3)=true:=au k3;simp only[hf,k3',cj,aF,hadv]at E;simp only[k3',aF];exact E
  have k1':decide ((now l s).k=1)=false:=ak k1;have k3':decide ((now l s).k=3)=false:=ak k3;have hB2:dj l s [95]=true\/dj l s [116,114,117,101]=true\/dj l s [102,97,108,115,101]=true\/dj l s [45]=true:=by
   simpa [dP,k1,k3,anyS,Qu] using hB
  rcases hB2 with h|h|h|h
  all_goals
   have ht:=Be h;have hk:∀ y,dj l s y=decide ((now l s).t=y):=by
    rcases L7 h with h|h
    ·exact L9 h
    ·exact L8 h
   simp+decide only[k1',k3',hk,ht,cj,aF,iK,decide_false]at E⊢
   first
    |exact E
    |(cases c:decide ((now l (dI s)).k=3)with
     |false=>rw[c]at E;exact E
     |true=>rw[c]at E;simp only[cj,aF]at E⊢;exact E)
theorem UM (hl:vj l) (A:At l b p s) (k1:(now l s).k=1) {bare:Bool} (E:aF l (cM l n) (prog (.named p0 bare)) s=o):aF l (cM l n) (JC (now l s) p0 bare fun i=> .ret (rI i)) s=o:=by
  unfold JC;rw[Tg hl A om];have k1':decide ((now l s).k=1)=true:=au k1;simp only[prog,kN,Lo,aF,k1']at E;simp only[aF];by_cases h:dj l (dI s) [40]=true
  ·simp only[h]at E⊢;exact E
  have h:=cz h;simp only[h]at E⊢;by_cases h2:dj l (dI s) [58,58]=true
  ·have h3:=yx h2 (y:=[123]) (by decide);cases bare<;>simp only[h2,h3,aF]at E⊢ <;>exact E
  have h2:=cz h2;cases bare
  ·by_cases h3:dj l (dI s) [123]=true
   ·simp only[h2,h3,aF]at E⊢;exact E
   have h3:=cz h3;simp only[h2,h3,aF]at E⊢;exact E
  ·simp only[h2,aF]at E⊢;exact E
theorem Yl (hl:vj l) (A:At l b p s) {bare:Bool} (N:o≠none) (E:aF l (cM l n) (prog (.primary bare)) s=o):aF l (cM l n) (Ls (now l s) s.at_ bare) s=o:=by
 unfold Ls;simp only[prog,aF]at E;by_cases k1:(now l s).k=1
 ·have hf:∀ x,dj l s x=false:=fun x=>ES om;have k3:decide ((now l s).k=3)=false:=ak om;have k1':decide ((now l s).k=1)=true:=au k1;simp only[hf,k3,aF]at E;simp only[k1',aF];exact E
 have k1':decide ((now l s).k=1)=false:=ak k1;simp only[k1'];by_cases k3:(now l s).k=3
 ·have k3':decide ((now l s).k=3)=true:=au k3;simp only[k3',aF,jZ hl A.ok om]at E;simp only[k3',aF,jZ hl A.ok (show(now l s).k≠5 by omega)];exact E
 have k3':decide ((now l s).k=3)=false:=ak k3;simp only[k3']at E⊢;simp only[aF]at E⊢;by_cases h:dj l s [116,114,117,101]=true
 ·simp only[h]at E⊢;exact E
 have h:=cz h;simp only[h,aF]at E⊢;by_cases h1:dj l s [102,97,108,115,101]=true
 ·simp only[h1]at E⊢;exact E
 have h1:=cz h1;simp only[h1,aF]at E⊢;by_cases h2:dj l s [66,111,120]=true
 ·have h3:=yx h2 (y:=[40]) (by decide);simp only[h2,h3,aF]at E⊢;cases c:dj l (dI s) [58,58] with
  |false=>rw[c]at E;exact E
  |true=>
   rw[c]at E;simp only at E⊢;cases c2:decide ((now l (dI (dI s))).k=1)with
   |false=>rw[c2]at E;exact E
   |true=>
    rw[c2]at E;simp only[aF]at E⊢;cases c3:decide ((now l (dI (dI s))).t=[110,101,119])with
    |false=>rw[c3]at E;exact E
    |true=>
     rw[c3]at E;have A1:=A.dI hl (nT h2);have A2:=A1.dI hl (nT c);have A3:=jZ hl A2.ok (by have:=af c2;omega);simp only[aF,newP,c2,A3]at E⊢;exact E
 have h2:=cz h2;simp only[h2,aF]at E⊢;by_cases h3:dj l s [40]=true
 ·simp only[h3]at E⊢;exact E
 have h3:=cz h3;simp only[h3,a2b,aF]at E⊢;by_cases h4:dj l s [105,102]=true
 ·simp only[h4,aF,Bool.true_or]at E⊢;exact E
 have h4:=cz h4;by_cases h5:dj l s [109,97,116,99,104]=true
 ·simp only[h4,h5,aF,Bool.false_or,Bool.true_or]at E⊢;exact E
 have h5:=cz h5;by_cases h6:dj l s [123]=true
 ·simp only[h4,h5,h6,aF,Bool.false_or]at E⊢;exact E
 have h6:=cz h6;simp only[h4,h5,h6,Bool.false_or,aF]at E⊢;have E:=jv N (show aF l (cM l n) (.call (.named s.at_ bare) .ret) s=o by simp only[aF];exact E);simp only[prog,cj,aF,k1']at E⊢;exact E
end
section
variable {fx:Nat->Option Obj} {F:Nat->Option dF} {l:List TokQ} {s s1:PS} {bb:Bool} {X:Hp} {base:Nat->dk} {n:Nat} {b:Bool} {p:Int} {g:Q->PS->Option EX} {o:Option EX} {K:V->Hp->Prop} {D:Go.Vm.D->Prop}
theorem Fu {pg:Pg} {dd:dk} {f:Nat} {a:List V} {H:Hp} {K K':V->Hp->Prop} {D D':Go.Vm.D->Prop} (h:ft pg dd f a H K' D') (hk:∀ v H',K' v H'->K v H') (hd:∀ x,D' x->D x):ft pg dd f a H K D:=by
 rcases h.or with⟨r,H',h1,h2⟩|⟨x,h1,h2⟩
 ·exact nk h1 (hk _ _ h2)
 ·exact Oh h1 (hd _ h2)
def OC (fx:Nat->Option Obj) (F:Nat->Option dF) (base:Nat->dk) (l:List TokQ) (n:Nat) (f:Nat) (a:List V) (q:Int->Q):Prop:=∀ (s:PS),fb l s=true->Zf s->Says (b9 fx F) (base 0) f (.ptr 0 0::a) [QB l s false,PR s] (cM l n (q s.at_) s) (leftV l false [] fun r s'=> .d (nF l s r s'))
theorem OC.mono {m f:Nat} {a:List V} {q:Int->Q} (h:OC fx F base l m f a q) (hn:n<=m):OC fx F base l n f a q:=fun s h1 h2=>(h s h1 h2).mono fun _ e=>kO hn e
def Xa (l:List TokQ) (bb b':Bool) (X:Hp) (K:V->Hp->Prop):V->Hp->Prop:=fun _ H'=> ∃ s1 X1,H'=QB l s1 b'::PR s1::X1/\X1.length=X.length/\K (.tup []) (QB l s1 bb::PR s1::X1)
theorem qv {c i j:Nat} {b':Bool} (h:ft (b9 fx F) (cY (b9 fx F) (base 0)) c [.ptr i 0,.ptr j 0] (QB l s b'::PR s::X) (Xa l bb b' X K) D):
 ft (b9 fx F) (cY (b9 fx F) (base 0)) gu [.ptr 0 0,.d (.bool b'),.fn c [.ptr i 0,.ptr j 0]] (QB l s bb::PR s::X) K D:=by
 refine pz (f:=gu) ?_
 repeat' (first|refine dA ⟨?_⟩|((conv=>whnf);refine Zp ?_)|(refine Fu h ?_ (fun _ h=>h);rintro v H' ⟨s1,X1,rfl,hX,hk⟩)|fail)
 show K (.tup []) (List.take (X.length+1+1) (QB l s1 bb::PR s1::X1));rw[bB (by simp only[aw];omega)];exact hk
theorem MR {c i j k:Nat} {b':Bool} (h:ft (b9 fx F) (cY (b9 fx F) (base 0)) c [.ptr i 0,.ptr j 0,.ptr k 0] (QB l s b'::PR s::X) (Xa l bb b' X K) D):
 ft (b9 fx F) (cY (b9 fx F) (base 0)) gu [.ptr 0 0,.d (.bool b'),.fn c [.ptr i 0,.ptr j 0,.ptr k 0]] (QB l s bb::PR s::X) K D:=by
 refine pz (f:=gu) ?_
 repeat' (first|refine dA ⟨?_⟩|((conv=>whnf);refine Zp ?_)|(refine Fu h ?_ (fun _ h=>h);rintro v H' ⟨s1,X1,rfl,hX,hk⟩)|fail)
 show K (.tup []) (List.take (X.length+1+1) (QB l s1 bb::PR s1::X1));rw[bB (by simp only[aw];omega)];exact hk
theorem At.trans {b':Bool} (A:At l b p s) (B:At l b' s.at_ s1):At l (b||b') p s1:=by
 have h1:=A.le;have h2:=B.le;refine⟨B.ok,A.lo,om,fun h=>?_,B.bc⟩;rcases eb.1 h with h|h
 ·have:=A.lt h;omega
 ·have:=B.lt h;omega
theorem At.here (A:At l b p s):At l false s.at_ s:=At.start A.ok A.bc
theorem At.weak (A:At l b p s):At l false p s:=⟨A.ok,A.lo,A.le,by simp,A.bc⟩
def je (k:Int) (t:S) (v:Int) (kn:Nat) (r:Nat):Ob:= .box [.d (.int .i64 k),.d (.str t),.d (.int .i64 v),.row r kn,.d (.int .i64 0),.d (.int .i64 0)]
abbrev XN (Z T:Ob) (k:Int) (t:S) (v:Int) (ks:Pa.K) (Y:Hp):Hp:= .box [.ptr 0 0]::Z::T::je k t v ks.n 6:: .row 1 ks.l::Y
def KN (fx:Nat->Option Obj) (F:Nat->Option dF) (base:Nat->dk) (l:List TokQ) (n:Nat) (c:Nat) (q:Q):Prop:=∀ {Z T:Ob} {k:Int} {t:S} {v:Int} {ks:Pa.K} {Y:Hp} {s:PS} {b:Bool} {p:Int} {o:Option EX} {kk:R->Pr} {K:V->Hp->Prop},At l b p s->aF l (cM l n) (.call q kk) s=o->o≠none->(∀ r s1,cM l n q s=some (.ok r s1)->jM ks=true)->
 (∀ r s1,At l (b||eats q) p s1->aF l (cM l n) (kk r) s1=o->K (.tup []) (QB l s1 false::PR s1::XN Z T k t v (push ks r.i) Y))->
 ft (b9 fx F) (cY (b9 fx F) (base 0)) c [.ptr 5 0,.ptr 2 0] (QB l s false::PR s::XN Z T k t v ks Y) K (qT o)
def Gn (x:S) (q:Q) (ks:Pa.K) (kQ:Pa.K->Q) (rr:Pa.K->R):Pr:= .is x fun b=>match b with
  |true=> .ret (rr ks)
  |false=> .call q fun r=>guard (jM ks) (.take [44] fun b=>match b with
   |true=> .tail (kQ (push ks r.i))
   |false=> .ret (rr (push ks r.i)))
theorem Mm {q:Q} {c:Bool} {k:R->Pr} {kk:R->Pr} (N:o≠none) (hl:vj l) (A:At l b p s) (E:aF l (cM l n) (.call q fun r=>cj (guard c (k r)) kk) s=o):∀ r s1,cM l n q s=some (.ok r s1)->c=true:=by
  intro r s1 h;simp only[aF,h]at E;cases c with
  |true=>rfl
  |false=>
   have hr:=jQ A.ok;have:=(vY hl n q s r s1 hr.1 om h).1.ok A.ok;rw[this]at E;exact absurd E.symm N
theorem xr {c:Bool} {q:Pr} {kk:R->Pr} (N:o≠none) (E:aF l g (cj (Pa.guard c q) kk) s=o):aF l g (cj q kk) s=o:=by
 cases c with
 |true=>exact E
 |false=>exact absurd E.symm N
theorem Yb (W:Wk fx F base l) {x:S} {q:Q} {kQ:Pa.K->Q} {rr:Pa.K->R} {kk:R->Pr} (hq:∀ ks s,aF l (cM l n) (.call (kQ ks) kk) s=o->aF l (cM l n) (cj (Gn x q ks kQ rr) kk) s=o) (N:o≠none) {c:Nat} (one:KN fx F base l n c q) {Z T:Ob} {k:Int} {t:S} {v:Int} {ks0:Pa.K}
 (A0:At l false p s) (E0:aF l (cM l n) (.call (kQ ks0) kk) s=o)
 (h:∀ ks s1,At l false p s1->aF l (cM l n) (kk (rr ks)) s1=o->K (.tup []) (QB l s1 false::PR s1::XN Z T k t v ks [.box [.ptr 0 0],.box [.d (.str x)],.box [.fn c [.ptr 5 0,.ptr 2 0]]])):
 ft (b9 fx F) (cY (b9 fx F) (base 0)) nH [.ptr 7 0,.ptr 8 0,.ptr 9 0] (QB l s false::PR s::XN Z T k t v ks0 [.box [.ptr 0 0],.box [.d (.str x)],.box [.fn c [.ptr 5 0,.ptr 2 0]]]) K (qT o):=by
 refine pz (f:=nH) ?_
 repeat' (first|refine dA ⟨?_⟩|fail)
 refine na (α:=Pa.K×PS) (fun a=>(l.length - a.2.at_).toNat) (fun _=>[(0,.ptr 7 0),(1,.ptr 8 0),(2,.ptr 9 0)]) (fun a=>QB l a.2 false::PR a.2::XN Z T k t v a.1 [.box [.ptr 0 0],.box [.d (.str x)],.box [.fn c [.ptr 5 0,.ptr 2 0]]]) (fun a=>At l false p a.2/\aF l (cM l n) (.call (kQ a.1) kk) a.2=o) ?_ (ks0,s) ⟨A0,E0⟩ rfl rfl;rintro⟨ks,s2⟩ ⟨A,E⟩;simp only at A E;replace E:=hq ks s2 E;have A':=A.here
 repeat' (first|refine dA ⟨?_⟩|(refine TH A' E ?_ ?_<;>clear E<;>intro c E)|fail)
 ·have:=h ks s2 A E;exact this
 ·have hk:=Mm N W.hl A' E
  repeat' (first|refine dA ⟨?_⟩|(refine one A' E N hk ?_;clear E;intro r s3 A3 E;replace E:=xr N E)|(refine DX W A3 E ?_ ?_<;>clear E<;>intro A4 E)|fail)
  ·have h3:=A3.le;have h4:=A4.lt rfl;have h5:=jQ A4.ok;have h6:=jQ A.ok;refine⟨(push ks r.i,dI s3),⟨(A.trans A4).weak,E⟩,?_,rfl,rfl⟩;show(l.length - (dI s3).at_).toNat < (l.length - s2.at_).toNat;omega
  ·have:=h (push ks r.i) s3 (A.trans A3).weak E;exact this
theorem FY (W:Wk fx F base l) {x:S} {q:Q} {kQ:Pa.K->Q} {rr:Pa.K->R} {kk:R->Pr} (hq:∀ ks s,aF l (cM l n) (.call (kQ ks) fun r=> .need x (kk r)) s=o->aF l (cM l n) (cj (Gn x q ks kQ rr) fun r=> .need x (kk r)) s=o) (N:o≠none) {c:Nat} (one:KN fx F base l n c q) {Z T:Ob} {k:Int} {t:S} {v:Int} {ks0:Pa.K}
    (A:At l b p s) (E:aF l (cM l n) (.call (kQ ks0) fun r=> .need x (kk r)) s=o)
    (h:∀ ks s1,At l true p s1->aF l (cM l n) (kk (rr ks)) s1=o->K (.tup []) (QB l s1 bb::PR s1::XN Z T k t v ks [])):
    ft (b9 fx F) (cY (b9 fx F) (base 0)) o7 [.ptr 0 0,.d (.str x),.fn c [.ptr 5 0,.ptr 2 0]] (QB l s bb::PR s::XN Z T k t v ks0 []) K (qT o):=by
  refine pz (f:=o7) ?_
  repeat' (first|refine dA ⟨?_⟩|(refine MR (Yb (Z:=Z) (T:=T) (k:=k) (t:=t) (v:=v) (ks0:=ks0) W hq N one A.weak E ?_);clear E;intro ks s1 A1 E;refine⟨_,_,rfl,rfl,?_⟩)|(refine O0 W A1 E ?_;clear A1 E;intro A1 E)|fail)
  have:=h ks _ A1 E;exact this
theorem fq {ks:Pa.K} (h:jM ks=true):ks.l.length=ks.n/\roomy (ks.n+1) 8:=by
 unfold jM at h;simp only[ab,an]at h;exact⟨h.1,by unfold roomy;omega⟩
theorem QL (W:Wk fx F base l) (L:gm fx F base l n 133 [] fun _ b=> .expr b):KN fx F base l n 178 (.expr false):=by
  intro Z T k t v ks Y s b p o kk K A E N hk h;refine pz (f:=rM) ?_
  repeat' (first|refine dA ⟨?_⟩|((conv=>whnf);refine Zp ?_)|(refine jB 3 (by decide) (by decide) rfl ?_ ?_)|exact trivial|(refine ct W A E N (L _ _ A.ok A.bc) rfl (fun _ _=>rfl) ?_;clear A E;intro r s1 G A E;have hg:=fq (hk r s1 G))|refine ao ⟨rfl,by decide⟩ ?_|refine ao ⟨rfl,hg.1,hg.2⟩ ?_|fail)
  show K (.tup []) (List.take (Y.length+1+1+1+1+1+1+1) (QB l s1 false::PR s1::XN Z T k t v (push ks r.i) Y));rw[bB (by simp only[aw];omega)];exact h r s1 A E
theorem QJ (W:Wk fx F base l) (L:OC fx F base l n kz [] fun _=> .init):KN fx F base l n 180 .init:=by
  intro Z T k t v ks Y s b p o kk K A E N hk h;refine pz (f:=rJ) ?_
  repeat' (first|refine dA ⟨?_⟩|((conv=>whnf);refine Zp ?_)|(refine jB 3 (by decide) (by decide) rfl ?_ ?_)|exact trivial|(refine ct W A E N (L _ A.ok A.bc) rfl (fun _ _=>rfl) ?_;clear A E;intro r s1 G A E;have hg:=fq (hk r s1 G))|refine ao ⟨rfl,by decide⟩ ?_|refine ao ⟨rfl,hg.1,hg.2⟩ ?_|fail)
  show K (.tup []) (List.take (Y.length+1+1+1+1+1+1+1) (QB l s1 false::PR s1::XN Z T k t v (push ks r.i) Y));rw[bB (by simp only[aw];omega)];exact h r s1 A E
theorem NC (W:Wk fx F base l) (L:gm fx F base l n eR [.d (.int .i64 7)] fun _ _=> .param):KN fx F base l n 72 .param:=by
  intro Z T k t v ks Y s b p o kk K A E N hk h;refine pz (f:=sI) ?_
  repeat' (first|refine dA ⟨?_⟩|((conv=>whnf);refine Zp ?_)|(refine jB 3 (by decide) (by decide) rfl ?_ ?_)|exact trivial|(refine ct W A E N (L _ _ A.ok A.bc) rfl (fun _ _=>rfl) ?_;clear A E;intro r s1 G A E;have hg:=fq (hk r s1 G))|refine ao ⟨rfl,by decide⟩ ?_|refine ao ⟨rfl,hg.1,hg.2⟩ ?_|fail)
  show K (.tup []) (List.take (Y.length+1+1+1+1+1+1+1) (QB l s1 false::PR s1::XN Z T k t v (push ks r.i) Y));rw[bB (by simp only[aw];omega)];exact h r s1 A E
theorem ND (W:Wk fx F base l) (L:gm fx F base l n eR [.d (.int .i64 5)] fun _ _=> .field):KN fx F base l n 77 .field:=by
  intro Z T k t v ks Y s b p o kk K A E N hk h;refine pz (f:=sH) ?_
  repeat' (first|refine dA ⟨?_⟩|((conv=>whnf);refine Zp ?_)|(refine jB 3 (by decide) (by decide) rfl ?_ ?_)|exact trivial|(refine ct W A E N (L _ _ A.ok A.bc) rfl (fun _ _=>rfl) ?_;clear A E;intro r s1 G A E;have hg:=fq (hk r s1 G))|refine ao ⟨rfl,by decide⟩ ?_|refine ao ⟨rfl,hg.1,hg.2⟩ ?_|fail)
  show K (.tup []) (List.take (Y.length+1+1+1+1+1+1+1) (QB l s1 false::PR s1::XN Z T k t v (push ks r.i) Y));rw[bB (by simp only[aw];omega)];exact h r s1 A E
theorem GN (W:Wk fx F base l) (L:gm fx F base l n iN [] fun _ _=> .variant):KN fx F base l n 78 .variant:=by
  intro Z T k t v ks Y s b p o kk K A E N hk h;refine pz (f:=sG) ?_
  repeat' (first|refine dA ⟨?_⟩|((conv=>whnf);refine Zp ?_)|(refine jB 3 (by decide) (by decide) rfl ?_ ?_)|exact trivial|(refine ct W A E N (L _ _ A.ok A.bc) rfl (fun _ _=>rfl) ?_;clear A E;intro r s1 G A E;have hg:=fq (hk r s1 G))|refine ao ⟨rfl,by decide⟩ ?_|refine ao ⟨rfl,hg.1,hg.2⟩ ?_|fail)
  show K (.tup []) (List.take (Y.length+1+1+1+1+1+1+1) (QB l s1 false::PR s1::XN Z T k t v (push ks r.i) Y));rw[bB (by simp only[aw];omega)];exact h r s1 A E
end
section
variable {fx:Nat->Option Obj} {F:Nat->Option dF} {l:List TokQ} {s s1:PS} {bb:Bool} {X:Hp} {base:Nat->dk} {n:Nat}
structure oK (fx:Nat->Option Obj) (F:Nat->Option dF) (base:Nat->dk) (l:List TokQ) (n:Nat):Prop where
 typ:gm fx F base l n 75 [] fun _ _=> .typ
 pat:gm fx F base l n 174 [] fun _ _=> .pattern
 expr:gm fx F base l n 133 [] fun _ b=> .expr b
 block:gm fx F base l n 76 [] fun _ _=> .block
 operand:gm fx F base l n 161 [.d (.bool true)] fun _ b=> .operand b
 pre:gm fx F base l n 161 [.d (.bool false)] fun _ b=> .prefix_ b
theorem MT (W:Wk fx F base l) (L:oK fx F base l n):gm fx F base l (n+1) iN [] fun _ _=> .variant:=by
  intro s bb h hb;refine iA fun N=>?_;have A:=At.start h hb;have E:aF l (cM l n) (prog .variant) s=cM l (n+1) .variant s:=rfl;generalize cM l (n+1) .variant s=o at E N⊢;replace E:=p9 E
  repeat' (first|refine dA ⟨?_⟩|refine ot ?_|(refine oq ?_;clear A E;intro A E)|(refine oj ?_ ?_<;>clear E<;>intro c E)|(refine wq2 ?_ ?_<;>clear A E<;>intro A E)|(refine bH A E ?_ ?_<;>clear E<;>intro E)|(refine oi ?_;clear A E;intro i s2 E hat A)|exact cZ W A E|(refine ct W A E N (L.typ _ _ A.ok A.bc) rfl (fun _ _=>rfl) ?_;clear A E;intro r s1 G A E)|fail)
  all_goals exact⟨_,_,E.symm,rfl⟩
theorem Uq (W:Wk fx F base l) (L:oK fx F base l n):gm fx F base l (n+1) eR [.d (.int .i64 7)] fun _ _=> .param:=by
  intro s bb h hb;refine iA fun N=>?_;have A:=At.start h hb;have E:aF l (cM l n) (prog .param) s=cM l (n+1) .param s:=rfl;generalize cM l (n+1) .param s=o at E N⊢;replace E:=p9 E
  repeat' (first|refine dA ⟨?_⟩|refine ot ?_|(refine oq ?_;clear A E;intro A E)|(refine oj ?_ ?_<;>clear E<;>intro c E)|(refine wq2 ?_ ?_<;>clear A E<;>intro A E)|(refine bH A E ?_ ?_<;>clear E<;>intro E)|(refine oi ?_;clear A E;intro i s2 E hat A)|exact cZ W A E|(refine ct W A E N (L.typ _ _ A.ok A.bc) rfl (fun _ _=>rfl) ?_;clear A E;intro r s1 G A E)|fail)
  all_goals exact⟨_,_,E.symm,rfl⟩
theorem Vx (W:Wk fx F base l) (L:oK fx F base l n):gm fx F base l (n+1) eR [.d (.int .i64 5)] fun _ _=> .field:=by
  intro s bb h hb;refine iA fun N=>?_;have A:=At.start h hb;have E:aF l (cM l n) (prog .field) s=cM l (n+1) .field s:=rfl;generalize cM l (n+1) .field s=o at E N⊢;replace E:=p9 E
  repeat' (first|refine dA ⟨?_⟩|refine ot ?_|(refine oq ?_;clear A E;intro A E)|(refine oj ?_ ?_<;>clear E<;>intro c E)|(refine wq2 ?_ ?_<;>clear A E<;>intro A E)|(refine bH A E ?_ ?_<;>clear E<;>intro E)|(refine oi ?_;clear A E;intro i s2 E hat A)|exact cZ W A E|(refine ct W A E N (L.typ _ _ A.ok A.bc) rfl (fun _ _=>rfl) ?_;clear A E;intro r s1 G A E)|fail)
  all_goals exact⟨_,_,E.symm,rfl⟩
theorem Ze (W:Wk fx F base l) (L:oK fx F base l n):OC fx F base l (n+1) kz [] fun _=> .init:=by
  intro s h hb;refine iA fun N=>?_;have A:=At.start h hb;have E:aF l (cM l n) (prog .init) s=cM l (n+1) .init s:=rfl;generalize cM l (n+1) .init s=o at E N⊢;replace E:=p9 E
  repeat' (first|refine dA ⟨?_⟩|refine ot ?_|(refine oq ?_;clear A E;intro A E)|(refine oj ?_ ?_<;>clear E<;>intro c E)|(refine wq2 ?_ ?_<;>clear A E<;>intro A E)|(refine bH A E ?_ ?_<;>clear E<;>intro E)|(refine oi ?_;clear A E;intro i s2 E hat A)|exact cZ W A E|(refine ct W A E N (L.expr _ _ A.ok A.bc) rfl (fun _ _=>rfl) ?_;clear A E;intro r s1 G A E)|fail)
  all_goals exact⟨_,_,E.symm,rfl⟩
end
section
variable {fx:Nat->Option Obj} {F:Nat->Option dF} {l:List TokQ} {s s1:PS} {bb:Bool} {X:Hp} {base:Nat->dk} {n:Nat} {o:Option EX} {b:Bool} {p:Int}
theorem HP (hl:vj l) (A:At l b p s) (q:Q):aF l (cM l n) (.call q .ret) s=cM l n q s:=by
 simp only[aF];cases c:cM l n q s with
 |none=>rfl
 |some y=>
  cases y with
  |bad _ _ _=>rfl
  |ok r s1=>
   have hr:=jQ A.ok;have:=(vY hl n q s r s1 hr.1 om c).1.ok A.ok;simp only[this]
theorem Ev (W:Wk fx F base l) (L:oK fx F base l n):gm fx F base l n vh [] fun _ _=> .expr true:=by
  intro s bb h hb;refine iA fun N=>?_;have A:=At.start h hb;have E:=HP (n:=n) W.hl A (.expr true);generalize cM l n (.expr true) s=o at E N⊢
  repeat' (first|refine dA ⟨?_⟩|refine ot ?_|(refine oq ?_;clear A E;intro A E)|(refine oj ?_ ?_<;>clear E<;>intro c E)|(refine wq2 ?_ ?_<;>clear A E<;>intro A E)|(refine bH A E ?_ ?_<;>clear E<;>intro E)|(refine oi ?_;clear A E;intro i s2 E hat A)|exact cZ W A E|(refine qv ?_)|(refine pz (f:=sJ) ?_)|(refine ct W A E N (L.expr _ _ A.ok A.bc) rfl (fun _ _=>rfl) ?_;clear A E;intro r s1 G A E)|(refine⟨_,_,rfl,rfl,?_⟩)|fail)
  all_goals exact⟨_,_,E.symm,rfl⟩
theorem tl1 (hl:vj l) {s:PS}:(now l s).t.length+([58,58]:S).length<=9223372036854775807:=by
 have:=hl.txt s.at_.toNat;have e:(now l s).t.length<=1000000:=this;simp only[aw,aH];omega
theorem tl2 (hl:vj l) {s s':PS}:((now l s).t++[58,58]).length+(now l s').t.length<=9223372036854775807:=by
 have e1:(now l s).t.length<=1000000:=hl.txt s.at_.toNat;have e2:(now l s').t.length<=1000000:=hl.txt s'.at_.toNat;simp only[ah,aw,aH];omega
theorem a0g (N:o≠none) {kk:R->Pr} (ks:Pa.K) (s:PS) (E:aF l (cM l n) (.call (.args ks) kk) s=o):aF l (cM l n) (cj (Gn [41] (.expr false) ks .args rK) kk) s=o:=jv N E
theorem Ve (N:o≠none) {kk:R->Pr} (ks:Pa.K) (s:PS) (E:aF l (cM l n) (.call (.inits ks) kk) s=o):aF l (cM l n) (cj (Gn [125] .init ks .inits rK) kk) s=o:=jv N E
theorem UL (W:Wk fx F base l) (L:oK fx F base l n) (LI:OC fx F base l n kz [] fun _=> .init) (s:PS) (bb:Bool) (h:fb l s=true) (hb:Zf s) (k1:(now l s).k=1):Says (b9 fx F) (base 0) nJ [.ptr 0 0] [QB l s bb,PR s] (cM l (n+1) (.named s.at_ bb) s) (leftV l bb [] fun r s'=> .d (nF l s r s')):=by
  refine iA fun N=>?_;have A:=At.start h hb;have E:aF l (cM l n) (JC (now l s) s.at_ bb fun i=> .ret (rI i)) s=cM l (n+1) (.named s.at_ bb) s:=UM W.hl A k1 rfl;generalize cM l (n+1) (.named s.at_ bb) s=o at E N⊢;cases bb
  all_goals
   repeat' (first|refine dA ⟨?_⟩|refine ot ?_|(refine oq ?_;clear A E;intro A E)|(refine oj ?_ ?_<;>clear E<;>intro c E)|(refine wq2 ?_ ?_<;>clear A E<;>intro A E)|(refine bH A E ?_ ?_<;>clear E<;>intro E)|(refine oi ?_;clear A E;intro i s2 E hat A)|exact cZ W A E|(refine FY W (a0g N) N (QL W L.expr) A E ?_;clear A E;intro ks s1 A E;obtain⟨gk,E⟩:=xu N E)|(refine FY W (Ve N) N (QJ W LI) A E ?_;clear A E;intro ks s1 A E;obtain⟨gk,E⟩:=xu N E)|(refine ao (fq gk).1 ?_)|(refine jB 4 (by decide) (by decide) rfl ?_ ?_)|exact trivial|(refine ao (tl1 W.hl) ?_)|(refine ao (tl2 W.hl) ?_)|(refine qv ?_)|(refine pz (f:=rL) ?_)|(refine ct W A E N (L.expr _ _ A.ok A.bc) rfl (fun _ _=>rfl) ?_;clear A E;intro r s1 G A E)|(refine⟨_,_,rfl,rfl,?_⟩)|fail)
   all_goals first|exact⟨_,_,E.symm,rfl⟩|skip
end
def a7r (l:List TokQ) (bb:Bool) (X:Hp):R->PS->V->Hp->Prop:=fun r s' v H'=>H'=QB l s' bb::PR s'::X/\∃ f e,v= .d (su r.i f e)
def a7s (l:List TokQ) (bb:Bool) (X:Hp):R->PS->V->Hp->Prop:=fun r s' v H'=>H'=QB l s' bb::PR s'::X/\∃ f e,v= .tup [.d (su r.i f e),.d (.bool r.b)]
section
variable {fx:Nat->Option Obj} {F:Nat->Option dF} {l:List TokQ} {s s1:PS} {bb:Bool} {X:Hp} {base:Nat->dk} {n:Nat} {o:Option EX} {b:Bool} {p:Int} {g:Q->PS->Option EX} {K:V->Hp->Prop}
def OB (fx:Nat->Option Obj) (F:Nat->Option dF) (base:Nat->dk) (l:List TokQ) (n:Nat) (f:Nat) (q:Int->Q):Prop:=∀ (s:PS),fb l s=true->Zf s->BS (b9 fx F) (base 0) f [.ptr 0 0] [QB l s false,PR s] (cM l n (q s.at_) s) (a7r l false [])
def Ix (fx:Nat->Option Obj) (F:Nat->Option dF) (base:Nat->dk) (l:List TokQ) (n:Nat) (f:Nat) (q:Int->Q):Prop:=∀ (s:PS),fb l s=true->Zf s->BS (b9 fx F) (base 0) f [.ptr 0 0] [QB l s false,PR s] (cM l n (q s.at_) s) (a7s l false [])
theorem OB.mono {m f:Nat} {q:Int->Q} (h:OB fx F base l m f q) (hn:n<=m):OB fx F base l n f q:=fun s h1 h2=>(h s h1 h2).mono fun _ e=>kO hn e
theorem Ix.mono {m f:Nat} {q:Int->Q} (h:Ix fx F base l m f q) (hn:n<=m):Ix fx F base l n f q:=fun s h1 h2=>(h s h1 h2).mono fun _ e=>kO hn e
theorem DY (W:Wk fx F base l) (A:At l b p s) {q:Q} {k:R->Pr} (E:aF l (cM l n) (.call q k) s=o) (N:o≠none) {f:Nat} {a:List V} {kv:R->PS->V->Hp->Prop} (S:BS (b9 fx F) (base 0) f a [QB l s bb,PR s] (cM l n q s) kv) (ha:br 2 a=true) (hv:∀ r s v H',kv r s v H'->H'=[QB l s bb,PR s]/\v.und 2=true)
 (h:∀ r s1 v,cM l n q s=some (.ok r s1)->kv r s1 v [QB l s1 bb,PR s1]->At l (b||eats q) p s1->aF l (cM l n) (k r) s1=o->K v (QB l s1 bb::PR s1::X)):
 ft (b9 fx F) (cY (b9 fx F) (base 0)) f a (QB l s bb::PR s::X) K (qT o):=by
 simp only[aF]at E;cases c:cM l n q s with
 |none=>rw[c]at E;exact absurd E.symm N
 |some y=>
  rw[c]at E S;cases y with
  |bad c f e=>exact Oh (Dp W.hF W.hb S ha) ⟨_,_,_,E.symm,rfl⟩
  |ok r s1=>
   simp only at E;cases c2:fb l s1 with
   |false=>rw[c2]at E;exact absurd E.symm N
   |true=>
    rw[c2]at E;obtain⟨v,H',h1,h2⟩:=S;obtain⟨rfl,h3⟩:=hv _ _ _ _ h2;exact nk (Bp W.hF (h:=[QB l s bb,PR s]) (h':=[QB l s1 bb,PR s1]) (X:=X) h1 ha rfl rfl rfl h3) (h r s1 v c h2 (A.call W.hl c c2) E)
theorem RA (r:R) (s:PS) (v:V) (H':Hp) (h:a7r l bb [] r s v H'):H'=[QB l s bb,PR s]/\v.und 2=true:=by
 obtain⟨h1,f,e,rfl⟩:=h;exact⟨h1,rfl⟩
theorem Hb (r:R) (s:PS) (v:V) (H':Hp) (h:a7s l bb [] r s v H'):H'=[QB l s bb,PR s]/\v.und 2=true:=by
 obtain⟨h1,f,e,rfl⟩:=h;exact⟨h1,rfl⟩
theorem b0i {i:Int} (E:aF l g (.is [125] fun b=>match b with|true=> .ret (rI i)|false=> .need [44] (.ret (rI i))) s=o):aF l g (.take [44] fun b=>match b with|true=> .ret (rI i)|false=> .is [125] fun b=>match b with|true=> .ret (rI i)|false=> .fail .dead) s=o:=by
  simp only[aF]at E⊢;by_cases h:dj l s [44]=true
  ·have h2:=yx h (y:=[125]) (by decide);simp only[h,h2,aF]at E⊢;exact E
  have h:=cz h;simp only[h,aF]at E⊢;cases c:dj l s [125]<;>simp only[c,h,aF]at E⊢ <;>exact E
theorem b0h (W:Wk fx F base l) (L:oK fx F base l n):OB fx F base l (n+1) k8 fun _=> .arm:=by
  intro s h hb;refine Jj fun N=>?_;have A:=At.start h hb;have E:aF l (cM l n) (prog .arm) s=cM l (n+1) .arm s:=rfl;generalize cM l (n+1) .arm s=o at E N⊢;replace E:=p9 E
  repeat' (first|refine dA ⟨?_⟩|refine ot ?_|(refine oq ?_;clear A E;intro A E)|(refine oj ?_ ?_<;>clear E<;>intro c E)|(refine wq2 ?_ ?_<;>clear A E<;>intro A E)|(refine bH A E ?_ ?_<;>clear E<;>intro E)|(refine oi ?_;clear A E;intro i s2 E hat A)|exact cZ W A E|(refine ct W A E N (L.pat _ _ A.ok A.bc) rfl (fun _ _=>rfl) ?_;clear A E;intro r s1 G A E)|(refine ct W A E N (L.expr _ _ A.ok A.bc) rfl (fun _ _=>rfl) ?_;clear A E;intro r s1 G A E)|(refine ct W A E N (L.block _ _ A.ok A.bc) rfl (fun _ _=>rfl) ?_;clear A E;intro r s1 G A E)|(replace E:=b0i E)|fail)
  all_goals exact⟨_,_,E.symm,rfl,_,_,rfl⟩
abbrev XM (Z T:Ob) (k:Int) (t:S) (v:Int) (ks:Pa.K):Hp:=[.box [.ptr 0 0],Z,T,.row 1 ks.l,je k t v ks.n 5]
theorem Q1 (W:Wk fx F base l) (LA:OB fx F base l n k8 fun _=> .arm) {kk:R->Pr} (N:o≠none) {Z T:Ob} {k:Int} {t:S} {v:Int} {ks0:Pa.K}
    (A0:At l false p s) (E0:aF l (cM l n) (.call (.arms ks0) kk) s=o)
    (h:∀ ks s1,At l false p s1->aF l (cM l n) (kk (rK ks)) s1=o->K (.tup []) (QB l s1 false::PR s1::XM Z T k t v ks)):
    ft (b9 fx F) (cY (b9 fx F) (base 0)) lU [.ptr 2 0,.ptr 6 0] (QB l s false::PR s::XM Z T k t v ks0) K (qT o):=by
  refine pz (f:=lU) ?_
  repeat' (first|refine dA ⟨?_⟩|fail)
  refine na (α:=Pa.K×PS) (fun a=>(l.length - a.2.at_).toNat) (fun _=>[(0,.ptr 2 0),(1,.ptr 6 0)]) (fun a=>QB l a.2 false::PR a.2::XM Z T k t v a.1) (fun a=>At l false p a.2/\aF l (cM l n) (.call (.arms a.1) kk) a.2=o) ?_ (ks0,s) ⟨A0,E0⟩ rfl rfl;rintro⟨ks,s2⟩ ⟨A,E⟩;simp only at A E;replace E:aF l (cM l n) (.is [125] fun b=>match b with|true=>kk (rK ks)|false=> .call .arm fun r=>cj (guard (jM ks) (.tail (.arms (push ks r.i)))) kk) s2=o:=by
    have:=Sr (jv N E);simp only[prog,cj,aF]at this⊢;cases c:dj l s2 [125]<;>rw[c]at this<;>simpa only[cj] using this
  have A':=A.here
  repeat' (first|refine dA ⟨?_⟩|(refine TH A' E ?_ ?_<;>clear E<;>intro c E)|fail)
  ·have:=h ks s2 A E;exact this
  ·have hk:=Mm N W.hl A' E
   repeat' (first|refine dA ⟨?_⟩|(refine jB 3 (by decide) (by decide) rfl ?_ ?_)|exact trivial|(refine DY W A' E N (LA _ A'.ok A'.bc) rfl RA ?_;clear E;rintro r s3 v G ⟨_,f,e,rfl⟩ A3 E;have hg:=fq (hk r s3 G);replace E:=xr N E)|refine ao ⟨rfl,by decide⟩ ?_|refine ao ⟨rfl,hg.1,hg.2⟩ ?_|fail)
   have h3:=A3.lt rfl;have h5:=jQ A3.ok;refine⟨(push ks r.i,s3),⟨(A.trans A3).weak,E⟩,?_,rfl,rfl⟩;show(l.length - s3.at_).toNat < (l.length - s2.at_).toNat;omega
theorem match_x (W:Wk fx F base l) (L:oK fx F base l n) (LA:OB fx F base l n k8 fun _=> .arm):gm fx F base l (n+1) nK [] fun _ _=> .match_:=by
  intro s bb h hb;refine iA fun N=>?_;have A:=At.start h hb;have E:aF l (cM l n) (prog .match_) s=cM l (n+1) .match_ s:=rfl;generalize cM l (n+1) .match_ s=o at E N⊢;replace E:=p9 E
  repeat' (first|refine dA ⟨?_⟩|refine ot ?_|(refine oq ?_;clear A E;intro A E)|(refine oj ?_ ?_<;>clear E<;>intro c E)|(refine wq2 ?_ ?_<;>clear A E<;>intro A E)|(refine bH A E ?_ ?_<;>clear E<;>intro E)|(refine oi ?_;clear A E;intro i s2 E hat A)|exact cZ W A E|(refine ct W A E N ((Ev W L) _ _ A.ok A.bc) rfl (fun _ _=>rfl) ?_;clear A E;intro r s1 G A E)|(refine qv (Q1 (ks0:=⟨Pa.one r.i,1⟩) W LA N A.weak E ?_);clear A E;intro ks s1 A E;refine⟨_,_,rfl,rfl,?_⟩)|(obtain⟨gk,E⟩:=xu N E)|(refine ao (fq gk).1 ?_)|fail)
  all_goals exact⟨_,_,E.symm,rfl⟩
end
section
variable {fx:Nat->Option Obj} {F:Nat->Option dF} {l:List TokQ} {s s1:PS} {bb:Bool} {X:Hp} {base:Nat->dk} {n:Nat} {o:Option EX} {b:Bool} {p:Int} {g:Q->PS->Option EX} {K:V->Hp->Prop}
theorem oK.mono {m:Nat} (L:oK fx F base l m) (hn:n<=m):oK fx F base l n:=⟨L.typ.mono hn,L.pat.mono hn,L.expr.mono hn,L.block.mono hn,L.operand.mono hn,L.pre.mono hn⟩
theorem a0a (c:dj l s [105,102]=true):true=dP l 101 s:=by
 simp[dP,anyS,Mj,c]
theorem Ii (W:Wk fx F base l) (L:oK fx F base l n):∀ m,m<=n+1->gm fx F base l m mz [] fun _ _=> .cond
  |0,_=>fun _ _ _ _=>trivial
  |m+1,hm=>by
   have IH:=Ii W L m om;replace L:=L.mono (n:=m) om;intro s bb h hb;refine iA fun N=>?_;have A:=At.start h hb;have E:aF l (cM l m) (prog .cond) s=cM l (m+1) .cond s:=rfl;generalize cM l (m+1) .cond s=o at E N⊢;replace E:=p9 E
   repeat' (first|refine dA ⟨?_⟩|refine ot ?_|(refine oq ?_;clear A E;intro A E)|(refine oj ?_ ?_<;>clear E<;>intro c E)|(refine wq2 ?_ ?_<;>clear A E<;>intro A E)|(refine bH A E ?_ ?_<;>clear E<;>intro E)|(refine oi ?_;clear A E;intro i s2 E hat A)|exact cZ W A E|(refine ct W A E N ((Ev W L) _ _ A.ok A.bc) rfl (fun _ _=>rfl) ?_;clear A E;intro r s1 G A E)|(refine ct W A E N (L.block _ _ A.ok A.bc) rfl (fun _ _=>rfl) ?_;clear A E;intro r s1 G A E)|(refine ct W A E N (IH _ _ A.ok A.bc) rfl (fun _ _=>rfl) ?_;clear A E;intro r s1 G A E)|(refine kT W A (a0a c) E ?_;clear A E;intro hB A E)|(refine TG A E ?_;clear A E;intro A E)|(refine jB 3 (by decide) (by decide) rfl ?_ ?_)|exact trivial|(refine ao ⟨rfl,rfl,af rfl⟩ ?_)|fail)
   all_goals exact⟨_,_,E.symm,rfl⟩
theorem SM (W:Wk fx F base l) (L:oK fx F base l n) (LB:gm fx F base l n mz [] fun _ _=> .cond) (LM:gm fx F base l n nK [] fun _ _=> .match_):gm fx F base l (n+1) js [] fun _ _=> .branch:=by
  intro s bb h hb;refine iA fun N=>?_;have A:=At.start h hb;have E:aF l (cM l n) (prog .branch) s=cM l (n+1) .branch s:=rfl;generalize cM l (n+1) .branch s=o at E N⊢
  repeat' (first|refine dA ⟨?_⟩|refine ot ?_|(refine oq ?_;clear A E;intro A E)|(refine oj ?_ ?_<;>clear E<;>intro c E)|(refine wq2 ?_ ?_<;>clear A E<;>intro A E)|(refine bH A E ?_ ?_<;>clear E<;>intro E)|(refine oi ?_;clear A E;intro i s2 E hat A)|exact cZ W A E|(refine ct W A E N (LB _ _ A.ok A.bc) rfl (fun _ _=>rfl) ?_;clear A E;intro r s1 G A E)|(refine ct W A E N (LM _ _ A.ok A.bc) rfl (fun _ _=>rfl) ?_;clear A E;intro r s1 G A E)|(refine ct W A E N (L.block _ _ A.ok A.bc) rfl (fun _ _=>rfl) ?_;clear A E;intro r s1 G A E)|fail)
  all_goals exact⟨_,_,E.symm,rfl⟩
theorem So {x:S} {k:Bool->Pr} (E:aF l g (.text x k) s=o) (c:(!decide ((now l s).t=x))=true):aF l g (k false) s=o:=by
 have:decide ((now l s).t=x)=false:=by simpa using c
 simp only[aF,this]at E;exact E
theorem Sp {x:S} {k:Bool->Pr} (E:aF l g (.text x k) s=o) (c:(!decide ((now l s).t=x))=false):aF l g (k true) s=o:=by
 have:decide ((now l s).t=x)=true:=by simpa using c
 simp only[aF,this]at E;exact E
theorem At.okF (A:At l true p s) (hl:vj l):okF l (w (s.at_ - 1))=true:=by
 have h1:=jQ A.ok;have h2:=A.lt rfl;have h3:=A.lo;have hlen:=hl.len;have e:w (s.at_ - 1)=s.at_ - 1:=eK om;unfold Pa.okF;rw[e];simp only[ab,an];omega
theorem Nn (W:Wk fx F base l) (L:oK fx F base l n) (LN:∀ (s:PS) (bb:Bool),fb l s=true->Zf s->(now l s).k=1->Says (b9 fx F) (base 0) nJ [.ptr 0 0] [QB l s bb,PR s] (cM l n (.named s.at_ bb) s) (leftV l bb [] fun r s'=> .d (nF l s r s'))) (LR:gm fx F base l n js [] fun _ _=> .branch):gm fx F base l (n+1) lT [] fun _ b=> .primary b:=by
  intro s bb h hb;refine iA fun N=>?_;have A:=At.start h hb;have E:aF l (cM l n) (Ls (now l s) s.at_ bb) s=cM l (n+1) (.primary bb) s:=Yl W.hl A N rfl;generalize cM l (n+1) (.primary bb) s=o at E N⊢;unfold Ls at E;cases k1:decide ((now l s).k=1)with
  |true=>
   simp only[k1]at E
   repeat' (first|refine dA ⟨?_⟩|refine ot ?_|(refine oq ?_;clear A E;intro A E)|(refine oj ?_ ?_<;>clear E<;>intro c E)|(refine wq2 ?_ ?_<;>clear A E<;>intro A E)|(refine bH A E ?_ ?_<;>clear E<;>intro E)|(refine oi ?_;clear A E;intro i s2 E hat A)|exact cZ W A E|(refine ct W A E N (LN _ _ A.ok A.bc (af k1)) rfl (fun _ _=>rfl) ?_;clear A E;intro r s1 G A E)|fail)
   all_goals exact⟨_,_,E.symm,rfl⟩
  |false=>
   simp only[k1]at E;cases k3:decide ((now l s).k=3)with
   |true=>
    simp only[k3]at E;obtain⟨hadv,E⟩:=tR E N;have A1:=A.sa W.hl hadv
    repeat' (first|refine dA ⟨?_⟩|refine ot ?_|(refine oq ?_;clear A E;intro A E)|(refine oj ?_ ?_<;>clear E<;>intro c E)|(refine wq2 ?_ ?_<;>clear A E<;>intro A E)|(refine bH A E ?_ ?_<;>clear E<;>intro E)|(refine oi ?_;clear A E;intro i s2 E hat A)|exact cZ W A E|(refine Wf A1 E N rfl rfl ?_;clear A E;intro i s2 E hat A)|fail)
    all_goals exact⟨_,_,E.symm,rfl⟩
   |false=>
    simp only[k3]at E
    repeat' (first|refine dA ⟨?_⟩|refine ot ?_|(refine oq ?_;clear A E;intro A E)|(refine oj ?_ ?_<;>clear E<;>intro c E)|(refine wq2 ?_ ?_<;>clear A E<;>intro A E)|(refine bH A E ?_ ?_<;>clear E<;>intro E)|(refine oi ?_;clear A E;intro i s2 E hat A)|exact cZ W A E|(refine qv ?_)|(refine pz (f:=ql) ?_)|(refine pz (f:=qk) ?_)|(refine ct W A E N (L.expr _ _ A.ok A.bc) rfl (fun _ _=>rfl) ?_;clear A E;intro r s1 G A E)|(refine ct W A E N (LR _ _ A.ok A.bc) rfl (fun _ _=>rfl) ?_;clear A E;intro r s1 G A E)|(refine⟨_,_,rfl,rfl,?_⟩)|(refine DS ?_)|(refine ca (Ml (A.okF W.hl)) ?_)|(refine ao ?_ ?_<;>intro c2<;>first|replace E:=So E c2|replace E:=Sp E c2)|(obtain⟨hadv,E⟩:=tR E N;replace A:=A.sa W.hl hadv)|fail)
    all_goals exact⟨_,_,E.symm,rfl⟩
end
section
variable {fx:Nat->Option Obj} {F:Nat->Option dF} {l:List TokQ} {s s1:PS} {bb:Bool} {X:Hp} {base:Nat->dk} {n:Nat} {o:Option EX} {b:Bool} {p:Int} {g:Q->PS->Option EX} {K:V->Hp->Prop}
theorem QR (hl:vj l) (h:fb l s=true):((now l s).e:Int)=(l.getD (w ((dI s).at_ - 1)).toNat default).e:=by
 have e:=KI hl h;have hr:=jQ h;have hlen:=hl.len;have e2:w ((dI s).at_ - 1)=s.at_:=by rw[e];exact(eK om).trans om
 rw[e2];rfl
def qE (a f e:Int):Ob:= .box [.d (.int .i64 a),.d (.int .i64 f),.d (.int .i64 e)]
theorem Np (W:Wk fx F base l) (LP:gm fx F base l n lT [] fun _ b=> .primary b):gm fx F base l (n+1) iO [] fun _ b=> .postfix_ b:=by
  intro s bb h hb;refine iA fun N=>?_;have A:=At.start h hb;have E:aF l (cM l n) (prog (.postfix_ bb)) s=cM l (n+1) (.postfix_ bb) s:=rfl;generalize cM l (n+1) (.postfix_ bb) s=o at E N⊢;replace E:=p9 E
  repeat' (first|refine dA ⟨?_⟩|refine ot ?_|(refine oq ?_;clear A E;intro A E)|(refine oj ?_ ?_<;>clear E<;>intro c E)|(refine wq2 ?_ ?_<;>clear A E<;>intro A E)|(refine bH A E ?_ ?_<;>clear E<;>intro E)|(refine oi ?_;clear A E;intro i s2 E hat A)|exact cZ W A E|(refine ct W A E N (LP _ _ A.ok A.bc) rfl (fun _ _=>rfl) ?_;clear A E;intro r s1 G A E)|fail)
  refine na (α:=Int×PS) (fun a=>(l.length - a.2.at_).toNat) (fun _=>[(0,.ptr 0 0),(2,.ptr 2 0),(3,.ptr 3 0)]) (fun a=>[QB l a.2 bb,PR a.2,qE 0 0 0,qE a.1 (l.getD s.at_.toNat default).f (l.getD (w (a.2.at_ - 1)).toNat default).e]) (fun a=>At l true s.at_ a.2/\aF l (cM l n) (.call (.gets s.at_ a.1) fun a=> .ret (rI a.i)) a.2=o) ?_ (r.i,s1) ⟨A,E⟩ rfl rfl;clear A E;rintro⟨a,s2⟩ ⟨A,E⟩;simp only at A E;replace E:=jv N E;have A0:=A.here
  repeat' (first|refine dA ⟨?_⟩|(refine DX W A0 E ?_ ?_<;>clear E<;>intro A1 E)|(refine zS W A1 E ?_;clear E;intro A2 E)|(refine qW (A.trans A2) E N rfl rfl (QR W.hl A1.ok) ?_;clear E;intro i s3 E hat A3)|(refine ao ⟨rfl,by decide⟩ ?_)|fail)
  ·have h4:=A2.lt rfl;have h5:=jQ A.ok;have h6:=jQ A2.ok;refine⟨(i,s3),⟨A3,E⟩,?_,rfl,rfl⟩;show(l.length - s3.at_).toNat < (l.length - s2.at_).toNat;omega
  ·exact⟨_,_,E.symm,rfl⟩
theorem As (hl:vj l) (A:At l b p s) {r r1 lv:Int} (hr:r=0\/r=1\/r=2\/r=3\/r=4) (hlv:lv=r+1) (hw:w (r+1)=r1) {p0 a:Int} (N:o≠none) {kk:R->Pr} (E:aF l (cM l n) (.call (.rows r bb p0 a) kk) s=o):
 (Gi (now l s)=lv/\At l true p (dI s)/\aF l (cM l n) (.call (.row r1 bb) fun b=> .node p0 ⟨38,(now l s).t,0,two a b.i⟩ fun i=>match decide (r=2)with|true=>kk (rI i)|false=> .call (.rows r bb p0 i) kk) (dI s)=o)\/(Gi (now l s)≠lv/\aF l (cM l n) (kk (rI a)) s=o):=by
 subst hlv;subst hw;have E:=Sr (jv N E);rcases sign_eq hl A.bc hr with⟨h1,h2,h3⟩|⟨h1,h2⟩
 ·left;have h4:(!decide ((now l s).t=[]))=true:=by simp[h3]
  simp only[aF,cj,h2,h4]at E;cases c:fb l (dI s)with
  |false=>rw[c]at E;exact absurd E.symm N
  |true=>
   rw[c]at E;refine⟨h1,A.sa hl c,?_⟩;simp only[aF]at E⊢;cases c2:cM l n (.row (w (r+1)) bb) (dI s)with
   |none=>rw[c2]at E;exact E
   |some y=>
    rw[c2]at E;cases y with
    |bad _ _ _=>exact E
    |ok r2 s2=>
     simp only at E⊢;cases c3:fb l s2 with
     |false=>rw[c3]at E;exact E
     |true=>
      rw[c3]at E;simp only[aF]at E⊢;cases c4:fA l p0 ⟨38,(now l s).t,0,two a r2.i⟩ s2 with
      |none=>rw[c4]at E;exact E
      |some y=>
       obtain⟨i,s3⟩:=y;rw[c4]at E;simp only at E⊢;cases c5:decide (r=2)<;>rw[c5]at E<;>exact E
 ·right;refine⟨h1,?_⟩;have h4:(!decide (([]:S)=[]))=false:=by simp
  simp only[aF,cj,h2,h4]at E;exact E
theorem Ok (W:Wk fx F base l) (L:oK fx F base l n):gm fx F base l (n+1) cu [.d (.int .i64 6)] fun _ b=> .row 5 b:=by
  intro s bb h hb;refine iA fun N=>?_;have A:=At.start h hb;have E:aF l (cM l n) (.call (.prefix_ bb) .ret) s=cM l (n+1) (.row 5 bb) s:=rfl;generalize cM l (n+1) (.row 5 bb) s=o at E N⊢
  repeat' (first|refine dA ⟨?_⟩|refine ot ?_|(refine oq ?_;clear A E;intro A E)|(refine oj ?_ ?_<;>clear E<;>intro c E)|(refine wq2 ?_ ?_<;>clear A E<;>intro A E)|(refine bH A E ?_ ?_<;>clear E<;>intro E)|(refine oi ?_;clear A E;intro i s2 E hat A)|exact cZ W A E|(refine ct W A E N (L.pre _ _ A.ok A.bc) rfl (fun _ _=>rfl) ?_;clear A E;intro r s1 G A E)|fail)
  all_goals exact⟨_,_,E.symm,rfl⟩
theorem Ol (W:Wk fx F base l) (LB:gm fx F base l n cu [.d (.int .i64 6)] fun _ b=> .row 5 b):gm fx F base l (n+1) cu [.d (.int .i64 5)] fun _ b=> .row 4 b:=by
  intro s bb h hb;refine iA fun N=>?_;have A:=At.start h hb;have E:aF l (cM l n) (.call (.row 5 bb) fun a=> .call (.rows 4 bb s.at_ a.i) fun a=> .ret (rI a.i)) s=cM l (n+1) (.row 4 bb) s:=rfl;generalize cM l (n+1) (.row 4 bb) s=o at E N⊢
  repeat' (first|refine dA ⟨?_⟩|refine ot ?_|(refine oq ?_;clear A E;intro A E)|(refine oj ?_ ?_<;>clear E<;>intro c E)|(refine wq2 ?_ ?_<;>clear A E<;>intro A E)|(refine bH A E ?_ ?_<;>clear E<;>intro E)|(refine oi ?_;clear A E;intro i s2 E hat A)|exact cZ W A E|(refine ct W A E N (LB _ _ A.ok A.bc) rfl (fun _ _=>rfl) ?_;clear A E;intro r s1 G A E)|fail)
  refine na (α:=Int×PS) (fun a=>(l.length - a.2.at_).toNat) (fun _=>[(0,.ptr 0 0),(1,.d (.int .i64 5)),(4,.ptr 2 0),(5,.ptr 3 0)]) (fun a=>[QB l a.2 bb,PR a.2,qE 0 0 0,qE a.1 (l.getD s.at_.toNat default).f (l.getD (w (a.2.at_ - 1)).toNat default).e]) (fun a=>At l true s.at_ a.2/\aF l (cM l n) (.call (.rows 4 bb s.at_ a.1) fun a=> .ret (rI a.i)) a.2=o) ?_ (r.i,s1) ⟨A,E⟩ rfl rfl;clear A E;rintro⟨a,s2⟩ ⟨A,E⟩;simp only at A E;rcases As (lv:=5) (r1:=5) W.hl A (by decide) rfl (by decide) N E with⟨c,A1,E1⟩|⟨c,E1⟩
  ·have A2:=A.here.sa W.hl A1.ok
   repeat' (first|refine dA ⟨?_⟩|refine nk (qh A.ok) ?_|refine nk (oU A.ok) ?_|(refine ct W A2 E1 N (LB _ _ A2.ok A2.bc) rfl (fun _ _=>rfl) ?_;clear E1;intro r3 s3 G A3 E1)|(refine qW (A.trans A3) E1 N rfl rfl rfl ?_;clear E1;intro i s4 E1 hat A4)|(refine ao ⟨rfl,by decide⟩ ?_)|fail)
   have h4:=A3.lt rfl;have h5:=jQ A.ok;have h6:=jQ A3.ok;refine⟨(i,s4),⟨A4,E1⟩,?_,rfl,rfl⟩;show(l.length - s4.at_).toNat < (l.length - s2.at_).toNat;omega
  ·repeat' (first|refine dA ⟨?_⟩|refine nk (qh A.ok) ?_|fail)
   exact⟨_,_,E1.symm,rfl⟩
theorem Om (W:Wk fx F base l) (LB:gm fx F base l n cu [.d (.int .i64 5)] fun _ b=> .row 4 b):gm fx F base l (n+1) cu [.d (.int .i64 4)] fun _ b=> .row 3 b:=by
  intro s bb h hb;refine iA fun N=>?_;have A:=At.start h hb;have E:aF l (cM l n) (.call (.row 4 bb) fun a=> .call (.rows 3 bb s.at_ a.i) fun a=> .ret (rI a.i)) s=cM l (n+1) (.row 3 bb) s:=rfl;generalize cM l (n+1) (.row 3 bb) s=o at E N⊢
  repeat' (first|refine dA ⟨?_⟩|refine ot ?_|(refine oq ?_;clear A E;intro A E)|(refine oj ?_ ?_<;>clear E<;>intro c E)|(refine wq2 ?_ ?_<;>clear A E<;>intro A E)|(refine bH A E ?_ ?_<;>clear E<;>intro E)|(refine oi ?_;clear A E;intro i s2 E hat A)|exact cZ W A E|(refine ct W A E N (LB _ _ A.ok A.bc) rfl (fun _ _=>rfl) ?_;clear A E;intro r s1 G A E)|fail)
  refine na (α:=Int×PS) (fun a=>(l.length - a.2.at_).toNat) (fun _=>[(0,.ptr 0 0),(1,.d (.int .i64 4)),(4,.ptr 2 0),(5,.ptr 3 0)]) (fun a=>[QB l a.2 bb,PR a.2,qE 0 0 0,qE a.1 (l.getD s.at_.toNat default).f (l.getD (w (a.2.at_ - 1)).toNat default).e]) (fun a=>At l true s.at_ a.2/\aF l (cM l n) (.call (.rows 3 bb s.at_ a.1) fun a=> .ret (rI a.i)) a.2=o) ?_ (r.i,s1) ⟨A,E⟩ rfl rfl;clear A E;rintro⟨a,s2⟩ ⟨A,E⟩;simp only at A E;rcases As (lv:=4) (r1:=4) W.hl A (by decide) rfl (by decide) N E with⟨c,A1,E1⟩|⟨c,E1⟩
  ·have A2:=A.here.sa W.hl A1.ok
   repeat' (first|refine dA ⟨?_⟩|refine nk (qh A.ok) ?_|refine nk (oU A.ok) ?_|(refine ct W A2 E1 N (LB _ _ A2.ok A2.bc) rfl (fun _ _=>rfl) ?_;clear E1;intro r3 s3 G A3 E1)|(refine qW (A.trans A3) E1 N rfl rfl rfl ?_;clear E1;intro i s4 E1 hat A4)|(refine ao ⟨rfl,by decide⟩ ?_)|fail)
   have h4:=A3.lt rfl;have h5:=jQ A.ok;have h6:=jQ A3.ok;refine⟨(i,s4),⟨A4,E1⟩,?_,rfl,rfl⟩;show(l.length - s4.at_).toNat < (l.length - s2.at_).toNat;omega
  ·repeat' (first|refine dA ⟨?_⟩|refine nk (qh A.ok) ?_|fail)
   exact⟨_,_,E1.symm,rfl⟩
theorem Oo (W:Wk fx F base l) (LB:gm fx F base l n cu [.d (.int .i64 4)] fun _ b=> .row 3 b):gm fx F base l (n+1) cu [.d (.int .i64 3)] fun _ b=> .row 2 b:=by
  intro s bb h hb;refine iA fun N=>?_;have A:=At.start h hb;have E:aF l (cM l n) (.call (.row 3 bb) fun a=> .call (.rows 2 bb s.at_ a.i) fun a=> .ret (rI a.i)) s=cM l (n+1) (.row 2 bb) s:=rfl;generalize cM l (n+1) (.row 2 bb) s=o at E N⊢
  repeat' (first|refine dA ⟨?_⟩|refine ot ?_|(refine oq ?_;clear A E;intro A E)|(refine oj ?_ ?_<;>clear E<;>intro c E)|(refine wq2 ?_ ?_<;>clear A E<;>intro A E)|(refine bH A E ?_ ?_<;>clear E<;>intro E)|(refine oi ?_;clear A E;intro i s2 E hat A)|exact cZ W A E|(refine ct W A E N (LB _ _ A.ok A.bc) rfl (fun _ _=>rfl) ?_;clear A E;intro r s1 G A E)|fail)
  refine na (α:=Int×PS) (fun a=>(l.length - a.2.at_).toNat) (fun _=>[(0,.ptr 0 0),(1,.d (.int .i64 3)),(4,.ptr 2 0),(5,.ptr 3 0)]) (fun a=>[QB l a.2 bb,PR a.2,qE 0 0 0,qE a.1 (l.getD s.at_.toNat default).f (l.getD (w (a.2.at_ - 1)).toNat default).e]) (fun a=>At l true s.at_ a.2/\aF l (cM l n) (.call (.rows 2 bb s.at_ a.1) fun a=> .ret (rI a.i)) a.2=o) ?_ (r.i,s1) ⟨A,E⟩ rfl rfl;clear A E;rintro⟨a,s2⟩ ⟨A,E⟩;simp only at A E;rcases As (lv:=3) (r1:=3) W.hl A (by decide) rfl (by decide) N E with⟨c,A1,E1⟩|⟨c,E1⟩
  ·have A2:=A.here.sa W.hl A1.ok
   repeat' (first|refine dA ⟨?_⟩|refine nk (qh A.ok) ?_|refine nk (oU A.ok) ?_|(refine ct W A2 E1 N (LB _ _ A2.ok A2.bc) rfl (fun _ _=>rfl) ?_;clear E1;intro r3 s3 G A3 E1)|(refine qW (A.trans A3) E1 N rfl rfl rfl ?_;clear E1;intro i s4 E1 hat A4)|(refine ao ⟨rfl,by decide⟩ ?_)|fail)
   exact⟨_,_,E1.symm,rfl⟩
  ·repeat' (first|refine dA ⟨?_⟩|refine nk (qh A.ok) ?_|fail)
   exact⟨_,_,E1.symm,rfl⟩
theorem Oq (W:Wk fx F base l) (LB:gm fx F base l n cu [.d (.int .i64 3)] fun _ b=> .row 2 b):gm fx F base l (n+1) cu [.d (.int .i64 2)] fun _ b=> .row 1 b:=by
  intro s bb h hb;refine iA fun N=>?_;have A:=At.start h hb;have E:aF l (cM l n) (.call (.row 2 bb) fun a=> .call (.rows 1 bb s.at_ a.i) fun a=> .ret (rI a.i)) s=cM l (n+1) (.row 1 bb) s:=rfl;generalize cM l (n+1) (.row 1 bb) s=o at E N⊢
  repeat' (first|refine dA ⟨?_⟩|refine ot ?_|(refine oq ?_;clear A E;intro A E)|(refine oj ?_ ?_<;>clear E<;>intro c E)|(refine wq2 ?_ ?_<;>clear A E<;>intro A E)|(refine bH A E ?_ ?_<;>clear E<;>intro E)|(refine oi ?_;clear A E;intro i s2 E hat A)|exact cZ W A E|(refine ct W A E N (LB _ _ A.ok A.bc) rfl (fun _ _=>rfl) ?_;clear A E;intro r s1 G A E)|fail)
  refine na (α:=Int×PS) (fun a=>(l.length - a.2.at_).toNat) (fun _=>[(0,.ptr 0 0),(1,.d (.int .i64 2)),(4,.ptr 2 0),(5,.ptr 3 0)]) (fun a=>[QB l a.2 bb,PR a.2,qE 0 0 0,qE a.1 (l.getD s.at_.toNat default).f (l.getD (w (a.2.at_ - 1)).toNat default).e]) (fun a=>At l true s.at_ a.2/\aF l (cM l n) (.call (.rows 1 bb s.at_ a.1) fun a=> .ret (rI a.i)) a.2=o) ?_ (r.i,s1) ⟨A,E⟩ rfl rfl;clear A E;rintro⟨a,s2⟩ ⟨A,E⟩;simp only at A E;rcases As (lv:=2) (r1:=2) W.hl A (by decide) rfl (by decide) N E with⟨c,A1,E1⟩|⟨c,E1⟩
  ·have A2:=A.here.sa W.hl A1.ok
   repeat' (first|refine dA ⟨?_⟩|refine nk (qh A.ok) ?_|refine nk (oU A.ok) ?_|(refine ct W A2 E1 N (LB _ _ A2.ok A2.bc) rfl (fun _ _=>rfl) ?_;clear E1;intro r3 s3 G A3 E1)|(refine qW (A.trans A3) E1 N rfl rfl rfl ?_;clear E1;intro i s4 E1 hat A4)|(refine ao ⟨rfl,by decide⟩ ?_)|fail)
   have h4:=A3.lt rfl;have h5:=jQ A.ok;have h6:=jQ A3.ok;refine⟨(i,s4),⟨A4,E1⟩,?_,rfl,rfl⟩;show(l.length - s4.at_).toNat < (l.length - s2.at_).toNat;omega
  ·repeat' (first|refine dA ⟨?_⟩|refine nk (qh A.ok) ?_|fail)
   exact⟨_,_,E1.symm,rfl⟩
theorem Ot (W:Wk fx F base l) (LB:gm fx F base l n cu [.d (.int .i64 2)] fun _ b=> .row 1 b):gm fx F base l (n+1) cu [.d (.int .i64 1)] fun _ b=> .row 0 b:=by
  intro s bb h hb;refine iA fun N=>?_;have A:=At.start h hb;have E:aF l (cM l n) (.call (.row 1 bb) fun a=> .call (.rows 0 bb s.at_ a.i) fun a=> .ret (rI a.i)) s=cM l (n+1) (.row 0 bb) s:=rfl;generalize cM l (n+1) (.row 0 bb) s=o at E N⊢
  repeat' (first|refine dA ⟨?_⟩|refine ot ?_|(refine oq ?_;clear A E;intro A E)|(refine oj ?_ ?_<;>clear E<;>intro c E)|(refine wq2 ?_ ?_<;>clear A E<;>intro A E)|(refine bH A E ?_ ?_<;>clear E<;>intro E)|(refine oi ?_;clear A E;intro i s2 E hat A)|exact cZ W A E|(refine ct W A E N (LB _ _ A.ok A.bc) rfl (fun _ _=>rfl) ?_;clear A E;intro r s1 G A E)|fail)
  refine na (α:=Int×PS) (fun a=>(l.length - a.2.at_).toNat) (fun _=>[(0,.ptr 0 0),(1,.d (.int .i64 1)),(4,.ptr 2 0),(5,.ptr 3 0)]) (fun a=>[QB l a.2 bb,PR a.2,qE 0 0 0,qE a.1 (l.getD s.at_.toNat default).f (l.getD (w (a.2.at_ - 1)).toNat default).e]) (fun a=>At l true s.at_ a.2/\aF l (cM l n) (.call (.rows 0 bb s.at_ a.1) fun a=> .ret (rI a.i)) a.2=o) ?_ (r.i,s1) ⟨A,E⟩ rfl rfl;clear A E;rintro⟨a,s2⟩ ⟨A,E⟩;simp only at A E;rcases As (lv:=1) (r1:=1) W.hl A (by decide) rfl (by decide) N E with⟨c,A1,E1⟩|⟨c,E1⟩
  ·have A2:=A.here.sa W.hl A1.ok
   repeat' (first|refine dA ⟨?_⟩|refine nk (qh A.ok) ?_|refine nk (oU A.ok) ?_|(refine ct W A2 E1 N (LB _ _ A2.ok A2.bc) rfl (fun _ _=>rfl) ?_;clear E1;intro r3 s3 G A3 E1)|(refine qW (A.trans A3) E1 N rfl rfl rfl ?_;clear E1;intro i s4 E1 hat A4)|(refine ao ⟨rfl,by decide⟩ ?_)|fail)
   have h4:=A3.lt rfl;have h5:=jQ A.ok;have h6:=jQ A3.ok;refine⟨(i,s4),⟨A4,E1⟩,?_,rfl,rfl⟩;show(l.length - s4.at_).toNat < (l.length - s2.at_).toNat;omega
  ·repeat' (first|refine dA ⟨?_⟩|refine nk (qh A.ok) ?_|fail)
   exact⟨_,_,E1.symm,rfl⟩
end
theorem a4x {P Q:Prop} (q:Q) (g:Q->P:=by
  first
   |exact V8|exact KV|exact Wa|exact OW|exact OV|exact V9|exact OT|exact x_scope|exact OU|exact x_mkrow|exact x_bindto|exact x_freeze|exact x_newrow|exact CC):P:=g q
theorem runy {P Q:Prop} (q:Left Q) (h:Left Q->P:=by
  intro q
  first
   |((with_reducible show WX _ _ _ _ _ _ _ _ _);refine a4x ?_)
   |((fail_if_success (with_reducible show WX _ _ _ _ _ _ _ _ _));(conv=>whnf);first|(with_reducible show WX _ _ _ _ _ _ _ _ _)|refine TT ?_)
  repeat' (first
    |((with_reducible show WX _ _ _ _ _ _ _ _ _);refine a4x ?_)
    |((fail_if_success (with_reducible show WX _ _ _ _ _ _ _ _ _));(conv=>whnf);first|(with_reducible show WX _ _ _ _ _ _ _ _ _)|refine TT ?_)
    |fail)
  exact q.f):P:=h q
def GG (fr:Int) (k:Int->Pr):Pr:= .need [108,101,116] (.take [109,117,116] fun m=> .name fun t=> .take [58] fun b=>match b with
  |true=> .call .typ fun x=> .need [61] (.call (.expr false) fun y=>match m with
   |true=> .node fr ⟨21,t,1,two x.i y.i⟩ k
   |false=> .node fr ⟨21,t,0,two x.i y.i⟩ k)
  |false=> .need [61] (.call (.expr false) fun y=>match m with
   |true=> .node fr ⟨21,t,1,Pa.one y.i⟩ k
   |false=> .node fr ⟨21,t,0,Pa.one y.i⟩ k))
section
variable {fx:Nat->Option Obj} {F:Nat->Option dF} {l:List TokQ} {s s1:PS} {bb:Bool} {X:Hp} {base:Nat->dk} {n:Nat} {o:Option EX} {b:Bool} {p:Int} {g:Q->PS->Option EX} {K:V->Hp->Prop}
theorem a7j (W:Wk fx F base l) (L:oK fx F base l n) (s:PS) (h:fb l s=true) (hb:Zf s):Says (b9 fx F) (base 0) vP [.ptr 0 0] [QB l s false,PR s] (aF l (cM l n) (GG s.at_ fun i=> .ret (rI i)) s) (leftV l false [] fun r s'=> .d (nF l s r s')):=by
  refine iA fun N=>?_;have A:=At.start h hb;generalize E:aF l (cM l n) (GG s.at_ fun i=> .ret (rI i)) s=o at N⊢;unfold GG at E
  repeat' (first|refine dA ⟨?_⟩|refine ot ?_|(refine oq ?_;clear A E;intro A E)|(refine oj ?_ ?_<;>clear E<;>intro c E)|(refine wq2 ?_ ?_<;>clear A E<;>intro A E)|(refine bH A E ?_ ?_<;>clear E<;>intro E)|(refine oi ?_;clear A E;intro i s2 E hat A)|exact cZ W A E|(refine ct W A E N (L.typ _ _ A.ok A.bc) rfl (fun _ _=>rfl) ?_;clear A E;intro r s1 G A E)|(refine ct W A E N (L.expr _ _ A.ok A.bc) rfl (fun _ _=>rfl) ?_;clear A E;intro r s1 G A E)|(refine jB 3 (by decide) (by decide) rfl ?_ ?_)|exact trivial|(refine ao ⟨rfl,rfl,af rfl⟩ ?_)|(refine aO _ (aO _ (ao rfl (ao rfl ?_))))|(refine aO _ (aO _ (ao rfl ?_)))|fail)
  all_goals exact⟨_,_,E.symm,rfl⟩
theorem a7l {p0:Int} (N:o≠none) (E:aF l (cM l n) (.call (.let_ p0) fun r=> .ret (rI r.i)) s=o):aF l (cM l n) (cj (GG p0 fun i=> .ret (rI i)) fun r=> .need [59] (.ret (rI r.i))) s=o:=by
  have E:=jv N E;have e:cj (prog (.let_ p0)) (fun r=> .ret (rI r.i))=cj (GG p0 fun i=> .ret (rI i)) fun r=> .need [59] (.ret (rI r.i)):=by
    simp only[prog,GG,endP,cj];congr 2;funext m;congr 1;funext t;congr 1;funext b;cases b<;>cases m<;>simp only[cj]
  rw[e]at E;exact E
theorem a7u {P Q:Pr} (E:aF l g (.is [105,102] fun b=>match b with|true=>P|false=> .is [109,97,116,99,104] fun b=>match b with|true=>P|false=> .is [123] fun b=>match b with|true=>P|false=>Q) s=o):aF l g (a2b fun b=>match b with|true=>P|false=>Q) s=o:=by
  simp only[a2b,aF]at E⊢;cases c1:dj l s [105,102]<;>cases c2:dj l s [109,97,116,99,104]<;>cases c3:dj l s [123]<;>simp only[c1,c2,c3,aF]at E⊢ <;>exact E
theorem a5j {P Q R:Pr} (E:aF l g (.take [61] fun b=>match b with|true=>P|false=> .is [125] fun b=>match b with|true=>Q|false=>R) s=o):aF l g (.is [125] fun b=>match b with|true=>Q|false=> .take [61] fun b=>match b with|true=>P|false=>R) s=o:=by
  simp only[aF]at E⊢;by_cases h:dj l s [61]=true
  ·have h2:=yx h (y:=[125]) (by decide);simp only[h,h2,aF]at E⊢;exact E
  have h:=cz h;simp only[h,aF]at E;cases c:dj l s [125]<;>simp only[c,h,aF]at E⊢ <;>exact E
theorem DW (W:Wk fx F base l) (A:At l true p s) {D:Go.Vm.D->Prop} {x:S} {m:N} {k:Int->Pr} (E:aF l g (.node p m fun i=> .take x fun _=>k i) s=o) (N:o≠none)
    (h:∀ b' s1,s.ns.length=s.n->s.n < 1000000->s1.ns=s.ns->s1.n=s.n->At l true p s1->aF l g (k (w (((s.n+1:Nat):Int) - 1))) (tD m (l.getD p.toNat default).f (l.getD (w (s.at_ - 1)).toNat default).e s1)=o->K (.d (.bool b')) (QB l s1 bb::PR s1::X)):
    ft (b9 fx F) (cY (b9 fx F) (base 0)) gJ [.ptr 0 0,.d (.str x)] (QB l s bb::PR s::X) K D:=by
  simp only[aF]at E;cases c:fA l p m s with
  |none=>rw[c]at E;exact absurd E.symm N
  |some q=>
   obtain⟨i,s1⟩:=q;rw[c]at E;obtain⟨ha,hn,hn2,rfl,rfl⟩:=rB c (A.lt rfl);simp only at E;have e:dj l (tD m (l.getD p.toNat default).f (l.getD (w (s.at_ - 1)).toNat default).e s) x=dj l s x:=rfl;rw[e]at E;cases c2:dj l s x with
   |true=>rw[c2]at E;exact nk (uL A.ok c2) (h true (dI s) hn hn2 rfl rfl (A.dI W.hl (nT c2)) E)
   |false=>rw[c2]at E;exact nk (uL A.ok c2) (h false s hn hn2 rfl rfl A E)
abbrev doN (i:Int):N:=⟨22,[],0,Pa.one i⟩
theorem VC {p0:Int} {k:Int->Pr}:Ca eats (GG p0 k):=by simp[GG,Ca]
theorem Ge (W:Wk fx F base l) (LR:gm fx F base l n js [] fun _ _=> .branch):Ix fx F base l (n+1) kM fun p=> .blocky p:=by
  intro s h hb;refine Jj fun N=>?_;have A:=At.start h hb;have E:aF l (cM l n) (prog (.blocky s.at_)) s=cM l (n+1) (.blocky s.at_) s:=rfl;generalize cM l (n+1) (.blocky s.at_) s=o at E N⊢
  repeat' (first|refine dA ⟨?_⟩|refine ot ?_|(refine oq ?_;clear A E;intro A E)|(refine oj ?_ ?_<;>clear E<;>intro c E)|(refine wq2 ?_ ?_<;>clear A E<;>intro A E)|(refine bH A E ?_ ?_<;>clear E<;>intro E)|(refine oi ?_;clear A E;intro i s2 E hat A)|exact cZ W A E|(refine ct W A E N (LR _ _ A.ok A.bc) rfl (fun _ _=>rfl) ?_;clear A E;intro r s1 G A E)|(refine DW W A E N ?_;clear A E;intro b' s2 hn hn2 h1 h2 A E)|(refine nk (xN (h1.symm ▸ h2.symm ▸ hn) (h2.symm ▸ hn2) (doN r.i) 0 0 _ _) ?_)|fail)
  all_goals first|exact⟨_,_,E.symm,rfl,_,_,rfl⟩|(rw[<-h2]at E;exact⟨_,_,E.symm,rfl,_,_,rfl⟩)
theorem XT (W:Wk fx F base l) (L:oK fx F base l n) (LS:Ix fx F base l n kM fun p=> .blocky p):Ix fx F base l (n+1) ku fun _=> .stmt:=by
  intro s h hb;refine Jj fun N=>?_;have A:=At.start h hb;have E:aF l (cM l n) (prog .stmt) s=cM l (n+1) .stmt s:=rfl;generalize cM l (n+1) .stmt s=o at E N⊢;replace E:=p9 E
  repeat' (first|(refine jB 6 (by decide) (by decide) rfl ?_ ?_)|refine runy ⟨?_⟩|refine ot ?_|(refine oq ?_;clear A E;intro A E)|(refine oj ?_ ?_<;>clear E<;>intro c E)|(refine wq2 ?_ ?_<;>clear A E<;>intro A E)|(refine bH A E ?_ ?_<;>clear E<;>intro E)|(refine oi ?_;clear A E;intro i s2 E hat A)|exact cZ W A E|(refine ct W A E N ((Ev W L) _ _ A.ok A.bc) rfl (fun _ _=>rfl) ?_;clear A E;intro r s1 G A E)|(refine ct W A E N (L.block _ _ A.ok A.bc) rfl (fun _ _=>rfl) ?_;clear A E;intro r s1 G A E)|(refine ct W A E N (L.expr _ _ A.ok A.bc) rfl (fun _ _=>rfl) ?_;clear A E;intro r s1 G A E)|(refine Xm W A (a7l N E) N (a7j W L _ A.ok A.bc) rfl (fun _ _=>rfl) VC ?_;clear A E;intro r s1 A E)|(refine DY W A E N (LS _ A.ok A.bc) rfl Hb ?_;clear A E;rintro r s1 v G ⟨_,f,e,rfl⟩ A E)|(replace E:=a7u E)|(replace E:=a5j E)|(refine nk (Ml (A.okF W.hl)) ?_)|(refine jB 3 (by decide) (by decide) rfl ?_ ?_)|exact trivial|(refine ao ⟨rfl,rfl,af rfl⟩ ?_)|fail)
  all_goals exact⟨_,_,E.symm,rfl,_,_,rfl⟩
end
section
variable {fx:Nat->Option Obj} {F:Nat->Option dF} {l:List TokQ} {s s1:PS} {bb:Bool} {X:Hp} {base:Nat->dk} {n:Nat} {o:Option EX} {b:Bool} {p:Int} {g:Q->PS->Option EX} {K:V->Hp->Prop}
def dn (d:Bool):Int:=match d with|true=>1|false=>0
def stE (l:List TokQ) (g:Q->PS->Option EX) (kk:R->Pr) (ks:Pa.K) (d:Bool) (s:PS):Option EX:=match d with
 |true=>aF l g (kk ⟨0,true,ks,1⟩) s
 |false=>aF l g (.call (.stmts ks) kk) s
theorem SV (W:Wk fx F base l) (LS:Ix fx F base l n ku fun _=> .stmt) {kk:R->Pr} (N:o≠none) {Z T:Ob} {k:Int} {t:S} {ks0:Pa.K}
    (A0:At l false p s) (E0:aF l (cM l n) (.call (.stmts ks0) kk) s=o)
    (h:∀ r s1,At l false p s1->aF l (cM l n) (kk r) s1=o->K (.tup []) (QB l s1 false::PR s1::XN Z T k t r.v r.ks [])):
    ft (b9 fx F) (cY (b9 fx F) (base 0)) lV [.ptr 2 0,.ptr 5 0] (QB l s false::PR s::XN Z T k t 0 ks0 []) K (qT o):=by
  refine pz (f:=lV) ?_
  repeat' (first|refine dA ⟨?_⟩|fail)
  refine na (α:=Pa.K×Bool×PS) (fun a=>(l.length - a.2.2.at_).toNat) (fun _=>[(0,.ptr 2 0),(1,.ptr 5 0)]) (fun a=>QB l a.2.2 false::PR a.2.2::XN Z T k t (dn a.2.1) a.1 []) (fun a=>At l false p a.2.2/\stE l (cM l n) kk a.1 a.2.1 a.2.2=o) ?_ (ks0,false,s) ⟨A0,E0⟩ rfl rfl;rintro⟨ks,d,s2⟩ ⟨A,E⟩;simp only at A E;cases d with
  |true=>
   cases c:dj l s2 [125]
   all_goals
    repeat' (first|refine dA ⟨?_⟩|refine nk (eN A.ok c) ?_|fail)
    have:=h ⟨0,true,ks,1⟩ s2 A E;exact this
  |false=>
   replace E:aF l (cM l n) (.is [125] fun b=>match b with|true=>kk (rK ks)|false=> .call .stmt fun r=>cj (guard (jM ks) (match r.b with|true=> .ret ⟨0,true,push ks r.i,1⟩|false=> .tail (.stmts (push ks r.i)))) kk) s2=o:=by
     have:=Sr (jv N E);simp only[cj,aF]at this⊢;cases c:dj l s2 [125]<;>rw[c]at this<;>first|exact this|simpa only[cj] using this
   have A':=A.here
   repeat' (first|refine dA ⟨?_⟩|(refine TH A' E ?_ ?_<;>clear E<;>intro c E)|fail)
   ·have:=h (rK ks) s2 A E;exact this
   ·have hk:=Mm N W.hl A' E
    repeat' (first|refine dA ⟨?_⟩|(refine DY W A' E N (LS _ A'.ok A'.bc) rfl Hb ?_;clear E;rintro r s3 v G ⟨_,f,e,rfl⟩ A3 E;have hg:=fq (hk r s3 G);replace E:=xr N E;cases hr:r.b<;>rw[hr]at E)|refine ao ⟨rfl,by decide⟩ ?_|refine ao ⟨rfl,hg.1,hg.2⟩ ?_|fail)
    all_goals
     have h3:=A3.lt rfl;have h5:=jQ A3.ok
    ·refine⟨(push ks r.i,false,s3),⟨(A.trans A3).weak,E⟩,?_,rfl,rfl⟩;show(l.length - s3.at_).toNat < (l.length - s2.at_).toNat;omega
    ·refine⟨(push ks r.i,true,s3),⟨(A.trans A3).weak,E⟩,?_,rfl,rfl⟩;show(l.length - s3.at_).toNat < (l.length - s2.at_).toNat;omega
end
def pFn (p0:Int) (k:Int->Pr):Pr:= .name fun t=> .need [40] (.call (.params K.o ((K.o.n:Nat):Int)) fun p=> .need [41] (.take [45,62] fun b=>match b with
  |true=> .call .typ fun r=>guard (jM p.ks) (.call .block fun q=>guard (jM (push p.ks r.i)) (guard (jM (push (push p.ks r.i) q.i)) (.node p0 ⟨2,t,p.v,(push (push p.ks r.i) q.i).l⟩ k)))
  |false=> .unit fun i=>guard (jM p.ks) (.call .block fun q=>guard (jM (push p.ks i)) (guard (jM (push (push p.ks i) q.i)) (.node p0 ⟨2,t,p.v,(push (push p.ks i) q.i).l⟩ k)))))
def AL (p0:Int) (n:Int) (k:Int->Pr):Pr:= .name fun t=> .need [123] (.call (.fields n K.o) fun p=> .need [125] (guard (jM p.ks) (.node p0 ⟨n,t,0,p.ks.l⟩ k)))
def Lt (p0:Int) (k:Int->Pr):Pr:= .take [102,110] fun b=>match b with
  |true=>pFn p0 k
  |false=> .take [115,116,114,117,99,116] fun b=>match b with
  |true=>AL p0 3 k
  |false=> .take [101,110,117,109] fun b=>match b with
  |true=>AL p0 4 k
  |false=> .fail .dead
section
variable {fx:Nat->Option Obj} {F:Nat->Option dF} {l:List TokQ} {s s1:PS} {bb:Bool} {X:Hp} {base:Nat->dk} {n:Nat} {o:Option EX} {b:Bool} {p:Int} {g:Q->PS->Option EX} {K:V->Hp->Prop}
theorem lh {c:Bool} {q:Pr} {k:R->Pr}:cj (Pa.guard c q) k=Pa.guard c (cj q k):=by cases c<;>rfl
theorem fn_E {p0:Int} (E:aF l g (cj (prog .function) .ret) s=o) (h:dj l s [102,110]=true) (hp:p0=s.at_):aF l g (pFn p0 fun i=> .ret (rI i)) (dI s)=o:=by
  subst hp;unfold pFn;simp only[prog,kN,cj,lh,aF,h]at E⊢;cases c1:decide ((now l (dI s)).k=1)with
  |false=>rw[c1]at E;exact E
  |true=>
   rw[c1]at E;simp only at E⊢;cases c2:dj l (dI (dI s)) [40] with
   |false=>rw[c2]at E;exact E
   |true=>
    rw[c2]at E;simp only at E⊢;change (match g (Q.params K.o 0) (dI (dI (dI s)))with|some (EX.ok r s1)=>_|x=>x)=o;cases c3:g (Q.params K.o 0) (dI (dI (dI s)))with
    |none=>rw[c3]at E;exact E
    |some y=>
     rw[c3]at E;cases y with
     |bad _ _ _=>exact E
     |ok r s1=>
      simp only at E⊢;cases c4:fb l s1 with
      |false=>rw[c4]at E;exact E
      |true=>
       rw[c4]at E;simp only at E⊢;cases c5:dj l s1 [41] with
       |false=>rw[c5]at E;exact E
       |true=>
        rw[c5]at E;simp only at E⊢;cases c6:dj l (dI s1) [45,62] with
        |false=>rw[c6]at E;simp only[cj,lh,aF]at E⊢;exact E
        |true=>rw[c6]at E;simp only[cj,lh,aF]at E⊢;exact E
theorem Zb (hl:vj l) (A:At l b p s) (N:o≠none) (E:aF l (cM l n) (prog .item) s=o):aF l (cM l n) (Lt s.at_ fun i=> .ret (rI i)) s=o:=by
  unfold Lt;simp only[prog,aF]at E⊢;by_cases h:dj l s [115,116,114,117,99,116]=true
  ·have h1:=yx h (y:=[102,110]) (by decide);rw[h]at E;have E:=jv N E;simp only[prog,kN,cj,lh,aF,jZ hl A.ok (nT h)]at E;simp only[h,h1,aF,AL];exact E
  have h:=cz h;rw[h]at E;simp only[aF]at E;by_cases h2:dj l s [101,110,117,109]=true
  ·have h1:=yx h2 (y:=[102,110]) (by decide);rw[h2]at E;have E:=jv N E;simp only[prog,kN,cj,lh,aF,jZ hl A.ok (nT h2)]at E;simp only[h,h1,h2,aF,AL];exact E
  have h2:=cz h2;rw[h2]at E;have E:=jv N E;cases h1:dj l s [102,110] with
  |false=>
   simp only[prog,kN,cj,aF,h1]at E;simp only[h,h2,aF];exact E
  |true=>exact fn_E E h1 rfl
abbrev rP (ks:Pa.K):R:=⟨0,false,ks,(ks.n:Int)⟩
theorem Qy (N:o≠none) {kk:R->Pr} (ks:Pa.K) (s:PS) (E:aF l (cM l n) (.call (.params ks ((ks.n:Nat):Int)) kk) s=o):aF l (cM l n) (cj (Gn [41] .param ks (fun ks=> .params ks ((ks.n:Nat):Int)) rP) kk) s=o:=by
  have E:=Sr (jv N E);simp only[Gn,cj,lh,aF]at E⊢;cases c1:dj l s [41] with
  |true=>rw[c1]at E;exact E
  |false=>
   rw[c1]at E;simp only[cj,lh,aF]at E⊢;cases c2:cM l n .param s with
   |none=>rw[c2]at E;exact E
   |some y=>
    rw[c2]at E;cases y with
    |bad _ _ _=>exact E
    |ok r s1=>
     simp only at E⊢;cases c3:fb l s1 with
     |false=>rw[c3]at E;exact E
     |true=>
      rw[c3]at E;cases c4:jM ks with
      |false=>rw[c4]at E;exact absurd E.symm N
      |true=>
       rw[c4]at E;simp only[Pa.guard,aF]at E⊢;have e:w ((ks.n:Int)+1)=((push ks r.i).n:Int):=by
        unfold jM at c4;simp only[ab,an]at c4;show w ((ks.n:Int)+1)=((ks.n+1:Nat):Int);exact(eK om).trans om
       rw[e]at E;cases c5:dj l s1 [44] with
       |false=>rw[c5]at E;exact E
       |true=>rw[c5]at E;exact E
theorem N3 (N:o≠none) {kk:R->Pr} (ks:Pa.K) (s:PS) (E:aF l (cM l n) (.call (.fields 3 ks) kk) s=o):aF l (cM l n) (cj (Gn [125] .field ks (.fields 3) rK) kk) s=o:=jv N E
theorem N1 (N:o≠none) {kk:R->Pr} (ks:Pa.K) (s:PS) (E:aF l (cM l n) (.call (.fields 4 ks) kk) s=o):aF l (cM l n) (cj (Gn [125] .variant ks (.fields 4) rK) kk) s=o:=jv N E
theorem I1 {i:Int} (e:ly l s=some (i,s1)):okF l (w (s.at_ - 1))=true/\s.ns.length=s.n/\s.n < 1000000/\i=w (((s.n+1:Nat):Int) - 1)/\s1=tD ⟨12,[],0,[]⟩ (l.getD (w (s.at_ - 1)).toNat default).e (l.getD (w (s.at_ - 1)).toNat default).e s:=by
 unfold ly at e;split at e
 ·rename_i hg;obtain⟨hn,hn2,ha⟩:=hg;simp only[aa,aN]at e;obtain⟨rfl,rfl⟩:=e;exact⟨ha,hn,hn2,rfl,rfl⟩
 ·cases e
abbrev Wi:N:=⟨12,[],0,[]⟩
theorem Xk (A:At l b p s) {D:Go.Vm.D->Prop} {k:Int->Pr} (E:aF l g (.unit k) s=o) (N:o≠none) {Y:Go.Vm.D} (hY:Y=Wi.D 0 0) {f:Int} (hf:f=(l.getD (w (s.at_ - 1)).toNat default).e)
 (h:∀ i s1,aF l g (k i) s1=o->s1.at_=s.at_->At l b p s1->K (.d (su i f f)) (QB l s1 bb::PR s1::X)):
 ft (b9 fx F) (cY (b9 fx F) (base 0)) jR [.ptr 0 0,.d Y,.d (.int .i64 f),.d (.int .i64 f)] (QB l s bb::PR s::X) K D:=by
 subst hY;subst hf;simp only[aF]at E;cases c:ly l s with
 |none=>rw[c]at E;exact absurd E.symm N
 |some q=>
  obtain⟨i,s1⟩:=q;rw[c]at E;obtain⟨ha,hn,hn2,rfl,rfl⟩:=I1 c;refine nk (xN hn hn2 Wi 0 0 _ _) ?_;have:=h _ _ E rfl (A.same rfl mw.rfl');exact this
theorem Y9 (W:Wk fx F base l) (L:oK fx F base l n) (LP:gm fx F base l n eR [.d (.int .i64 7)] fun _ _=> .param) (LF:gm fx F base l n eR [.d (.int .i64 5)] fun _ _=> .field) (LV:gm fx F base l n iN [] fun _ _=> .variant):gm fx F base l (n+1) ky [] fun _ _=> .item:=by
  intro s bb h hb;refine iA fun N=>?_;have A:=At.start h hb;have E:aF l (cM l n) (Lt s.at_ fun i=> .ret (rI i)) s=cM l (n+1) .item s:=Zb W.hl A N rfl;generalize cM l (n+1) .item s=o at E N⊢;unfold Lt pFn AL at E
  repeat' (first|(refine jB 6 (by decide) (by decide) rfl ?_ ?_)|(refine jB 3 (by decide) (by decide) rfl ?_ ?_)|refine dA ⟨?_⟩|refine ot ?_|(refine oq ?_;clear A E;intro A E)|(refine oj ?_ ?_<;>clear E<;>intro c E)|(refine wq2 ?_ ?_<;>clear A E<;>intro A E)|(refine bH A E ?_ ?_<;>clear E<;>intro E)|(refine oi ?_;clear A E;intro i s2 E hat A)|exact cZ W A E|exact trivial|(refine FY W (Qy N) N (NC W LP) A E ?_;clear A E;intro ks s1 A E)|(refine FY W (N3 N) N (ND W LF) A E ?_;clear A E;intro ks s1 A E)|(refine FY W (N1 N) N (GN W LV) A E ?_;clear A E;intro ks s1 A E)|(refine ct W A E N (L.typ _ _ A.ok A.bc) rfl (fun _ _=>rfl) ?_;clear A E;intro r s1 G A E)|(refine ct W A E N (L.block _ _ A.ok A.bc) rfl (fun _ _=>rfl) ?_;clear A E;intro r s1 G A E)|(refine nk (Ml (A.okF W.hl)) ?_)|(refine Xk A E N rfl rfl ?_;clear A E;intro i s2 E hat A)|(refine ao ⟨rfl,(fq gk).1,(fq gk).2⟩ ?_)|(refine ao (fq gk).1 ?_)|(obtain⟨gk,E⟩:=xu N E)|fail)
  all_goals exact⟨_,_,E.symm,rfl⟩
end
def qp (l:List TokQ):Option EX->Option EX
 |some (.ok r s1)=>match fb l s1 && jM r.ks && decide (s1.ns.length=s1.n) && decide (s1.n < 1000000)with
  |true=>some (.ok (rI (w (((s1.n+1:Nat):Int) - 1))) (tD ⟨1,[],0,r.ks.l⟩ 0 (now l s1).e s1))
  |false=>none
 |x=>x
section
variable {fx:Nat->Option Obj} {F:Nat->Option dF} {l:List TokQ} {s s1:PS} {bb:Bool} {X:Hp} {base:Nat->dk} {n:Nat} {o:Option EX} {b:Bool} {p:Int} {g:Q->PS->Option EX} {K:V->Hp->Prop}
theorem VH {x:Go.Vm.D} (h:qT o x):qT (qp l o) x:=by
 obtain⟨c,f,e,rfl,h2⟩:=h;exact⟨c,f,e,rfl,h2⟩
theorem VG (W:Wk fx F base l) (LI:gm fx F base l n ky [] fun _ _=> .item) (s:PS) (bb:Bool) (h:fb l s=true) (hb:Zf s):Says (b9 fx F) (base 0) nM [.ptr 0 0] [QB l s bb,PR s] (qp l (cM l n (.items Pa.K.o) s)) (leftV l bb [] fun r s'=> .d (su r.i 0 (now l s').e)):=by
  refine iA fun N=>?_;have A:=At.start h hb;have E:=HP (n:=n) W.hl A (.items Pa.K.o);generalize cM l n (.items Pa.K.o) s=o at E N⊢;have N2:o≠none:=fun hn=>by rw[hn]at N;exact N rfl
  repeat' (first|refine dA ⟨?_⟩|fail)
  refine na (α:=Pa.K×PS) (fun a=>(l.length - a.2.at_).toNat) (fun _=>[(0,.ptr 0 0),(2,.ptr 2 0),(3,.ptr 3 0)]) (fun a=>[QB l a.2 bb,PR a.2,qE 0 0 0,je 0 [] 0 a.1.n 4,.row 1 a.1.l]) (fun a=>At l false s.at_ a.2/\aF l (cM l n) (.call (.items a.1) .ret) a.2=o) ?_ (Pa.K.o,s) ⟨A,E⟩ rfl rfl;clear E;rintro⟨ks,s2⟩ ⟨A2,E⟩;simp only at A2 E;have E:=Sr (jv N2 E);have A':=A2.here;cases c:decide ((now l s2).k=5)with
  |true=>
   simp only[aF,cj,c]at E;have hc:(!decide ((now l s2).k=5))=false:=by rw[c];rfl
   subst E;have hN:(fb l s2 && jM ks && decide (s2.ns.length=s2.n) && decide (s2.n < 1000000))=true:=by
    cases h0:(fb l s2 && jM ks && decide (s2.ns.length=s2.n) && decide (s2.n < 1000000))with
    |true=>rfl
    |false=>exact absurd (by show qp l (some (.ok (rK ks) s2))=none;simp only[qp,h0]) N
   have hN2:=hN;simp only[ab,an]at hN2;obtain⟨⟨⟨_,gk⟩,hn⟩,hn2⟩:=hN2
   repeat' (first|refine dA ⟨?_⟩|refine nk (eX A2.ok) ?_|(refine DS ?_)|refine ca (eX A2.ok) ?_|refine ao (fq gk).1 ?_|refine nk (xN hn hn2 ⟨1,[],0,ks.l⟩ 0 0 _ _) ?_|fail)
   refine⟨rI (w (((s2.n+1:Nat):Int) - 1)),tD ⟨1,[],0,ks.l⟩ 0 (now l s2).e s2,?_,rfl⟩;show qp l (some (.ok (rK ks) s2))=_;simp only[qp,hN]
  |false=>
   simp only[aF,c,cj]at E;replace E:aF l (cM l n) (.call .item fun r=>cj (guard (jM ks) (.tail (.items (push ks r.i)))) .ret) s2=o:=by
     simp only[aF];exact E
   have hk:=Mm N2 W.hl A' E;have hc:(!decide ((now l s2).k=5))=true:=by rw[c];rfl
   repeat' (first|refine dA ⟨?_⟩|refine nk (eX A2.ok) ?_|(refine jB 3 (by decide) (by decide) rfl ?_ ?_)|exact trivial|(refine Fu (ct W A' E N2 (LI _ _ A'.ok A'.bc) rfl (fun _ _=>rfl) ?_) (fun _ _ h=>h) (fun _=>VH);clear E;intro r s3 G A3 E;have hg:=fq (hk r s3 G);replace E:=xr N2 E)|refine ao ⟨rfl,by decide⟩ ?_|refine ao ⟨rfl,hg.1,hg.2⟩ ?_|fail)
   have h3:=A3.lt rfl;have h5:=jQ A3.ok;refine⟨(push ks r.i,s3),⟨(A2.trans A3).weak,E⟩,?_,rfl,rfl⟩;show(l.length - s3.at_).toNat < (l.length - s2.at_).toNat;omega
end
end Go.Vm.Px
