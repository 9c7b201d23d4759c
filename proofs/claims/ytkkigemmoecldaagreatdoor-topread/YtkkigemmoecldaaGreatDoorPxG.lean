import Derived.Test.YtkkigemmoecldaaGreatDoorPaE
set_option maxRecDepth 100000
set_option maxHeartbeats 0
set_option linter.unusedVariables false
set_option linter.unusedSimpArgs false
namespace Go.Vm
set_option maxHeartbeats 1000000
abbrev dk:=Nat->List V->Hp->D->Prop
def og (P:Program) (cx:Cx) (K:Hp->Prop) (pay:D->Value) (f:Nat) (args:List V) (H:Hp) (x:D):Prop:=
 (∃ fn,P.funcs[f]? =some fn/\fn.body.isNone=false/\(fn.name== "runtime.NumGoroutine")=false)/\
 ∀ g w (cargs:Array Value),Inv cx g H w->bN g H args cargs.toList->br H.length args=true->
  Calls P f cargs w (fun e w'=> ∃ g' H',e= .panicked [{v:=pay x,recovered:=false }]/\Inv cx g' H' w'/\K H'/\Ext H.length g H w g' H' w')
def lK (P:Program) (cx:Cx) (K:Hp->Prop) (pay:D->Value) (dd:dk):Prop:=∀ f args H x,dd f args H x->og P cx K pay f args H x
def zp (cx:Cx) (K:Hp->Prop) (pay:D->Value) (dl:List Deferred) (nb:Nat) (g:Gh) (H:Hp) (w:World) (x:D) (Q:Exit->Act->World->Prop):Prop:=
 ∀ g' H' (a':Act) w',a'.defers=dl->Inv cx g' H' w'->K H'->Ext nb g H w g' H' w'->Q (.panic [{v:=pay x,recovered:=false }]) a' w'
def gi (cx:Cx) (dd:dk) (e:Env) (H:Hp) (o:aL) (x:D):Prop:=match o.guard with
 |some _=>False
 |none=>match o.op with
  | .call f args=>dd f (args.map fun x=>iX H (di cx e x)) H x
  | .callv f args=>match di cx e f with
    | .fn f c=>dd f (args.map (fun x=>iX H (di cx e x))++c) H x
    | .fm f a=>dd f (a++args.map (fun x=>iX H (di cx e x))) H x
    |_=>False
  |_=>False
def vD (ts:List Nat):List aL->Bool
 |[]=>true
 |o::r=>(o.names.any ts.contains) && vD (o.dst.toList++ts) r
structure b1f (cx:Cx) (orc:iH) (m:Nat) (ops:List aL) (s:St) (d a ta:Nat) (z:List V) (od:aL) (cl:Nat->Bool) (ε:Nat->Env) (val:Nat->V) (Hz:Bool->Hp):Prop where
 ld:d < m
 la:a < m
 le:m<=ops.length
 odx:ops[d]? =some od
 oax:ops[a]? =some ⟨some ta,.zbox z,none⟩
 cld:cl d=false
 cla:cl a=true
 zero:ε 0=s.e
 hz:∀ y,Hz y=if y then s.h++[.box z] else s.h
 taint:∀ i o,i < m->ops[i]? =some o->cl i=false->i≠d->∃ t,t∈o.names/\∃ n q,n < i/\ops[n]? =some q/\q.dst=some t/\cl n=false
 env:∀ i o,i < m->ops[i]? =some o->ε (i+1)=if cl i then fT o.dst (val i) (ε i) else ε i
 pur:∀ i o,i < m->ops[i]? =some o->cl i=true->i≠a->oZ o.op=true
 run:∀ i o y,i < m->ops[i]? =some o->cl i=true->i≠a->aW cx orc o ⟨ε i,Hz y,s.b⟩=some ⟨ε (i+1),Hz y,s.b⟩
 va:val a= .ptr s.h.length 0
inductive dO (pg:Pg) (dd:dk):aU->St->D->Prop
 |reg {i:Nat} {ops:List aL} {o:aL} {s s1:St} {x:D}:ops[i]? =some o->bQ pg.toCx (cv pg) (ops.take i) s=some s1->gi pg.toCx dd s1.e s1.h o x->dO pg dd (.reg ops) s x
 |draw {m i:Nat} {ops:List aL} {o:aL} {s s1:St} {x:D}:i < m->ops[i]? =some o->((ops.take i).all fun o=>oZ o.op)=true->eC pg.toCx (cv pg) i (ops.take i) s=some s1->
     vD o.dst.toList ((ops.take m).drop (i+1))=true->gi pg.toCx dd s1.e s1.h o x->dO pg dd (.draw m ops) s x
 |drawT {m i:Nat} {ops:List aL} {o:aL} {s s1:St} {x:D}:m<=i->ops[i]? =some o->eC pg.toCx (cv pg) m (ops.take i) s=some s1->gi pg.toCx dd s1.e s1.h o x->dO pg dd (.draw m ops) s x
 |drawZ {m:Nat} {ops:List aL} {s:St} {d a ta:Nat} {z:List V} {od:aL} {cl:Nat->Bool} {ε:Nat->Env} {val:Nat->V} {Hz:Bool->Hp} {x:D}:b1f pg.toCx (cv pg) m ops s d a ta z od cl ε val Hz->(∀ y,gi pg.toCx dd (ε d) (Hz y) od x)->dO pg dd (.draw m ops) s x
 |seq1 {a b:aU} {s:St} {x:D}:dO pg dd a s x->dO pg dd (.seq a b) s x
 |seq2 {a b:aU} {s s1:St} {x:D}:ev pg a s=some (.dN,s1)->dO pg dd b s1 x->dO pg dd (.seq a b) s x
 |cond {c:eo} {t:Bool} {a b:aU} {s:St} {x:D}:di pg.toCx s.e c= .d (.bool t)->dO pg dd (if t then a else b) s x->dO pg dd (.cond c a b) s x
 |block {i:Nat} {b:aU} {s:St} {x:D}:dO pg dd b s x->dO pg dd (.block i b) s x
 |scope {b:aU} {s:St} {x:D}:dO pg dd b s x->dO pg dd (.scope b) s x
 |loop1 {ks:List Nat} {b:aU} {s:St} {x:D}:dO pg dd b ⟨dU ks s.e,s.h,s.h.length⟩ x->dO pg dd (.loop ks b) s x
 |loop2 {ks:List Nat} {b:aU} {s s':St} {x:D}:ev pg b ⟨dU ks s.e,s.h,s.h.length⟩=some (.dN,s')->dO pg dd (.loop ks b) ⟨cut s.h.length (dU ks s'.e),s'.h.take s.h.length,s.b⟩ x->dO pg dd (.loop ks b) s x
section
variable {dl:List Deferred} {P:Program} {cx:Cx} {g:Gh} {w:World} {K:Hp->Prop} {pay:D->Value}
theorem yM {o:Op} {f:Nat} {args:List eo} {q:eo} (h:ny P o=some (.call f args)\/ny P o=some (.callv q args)):
 ∃ c,o= .call c/\ov c.args.toList=some args/\((c.callee= .value (.func f)/\ny P o=some (.call f args))\/∃ t,c.callee= .value (.tmp t)/\q= .t t/\ny P o=some (.callv q args)):=by
 have h0:=h;unfold ny at h;split at h
 case h_26 c=>
  split at h
  ·rename_i f' hc;rcases h with h|h
   ·obtain⟨l,hl,he⟩:=aj.1 h;cases he;refine⟨_,rfl,hl,.inl ⟨hc,?_⟩⟩;unfold ny;simp only[hc,hl,aI]
   ·obtain⟨l,hl,he⟩:=aj.1 h;cases he
  ·rename_i t hc;rcases h with h|h
   ·obtain⟨l,hl,he⟩:=aj.1 h;cases he
   ·obtain⟨l,hl,he⟩:=aj.1 h;cases he;refine⟨_,rfl,hl,.inr ⟨t,hc,rfl,?_⟩⟩;unfold ny;simp only[hc,hl,aI]
  all_goals(exfalso;repeat' split at h)
  all_goals simp_all
 all_goals(exfalso;repeat' split at h)
 all_goals simp_all
theorem Km {dd:dk} (hD:lK P cx K pay dd) {nb:Nat} {H:Hp} (hI:Inv cx g H w) (hnb:nb<=H.length) {f:Nat} {args:List V} {cargs:Array Value} {x:D} (h:dd f args H x) (ra:bN g H args cargs.toList) (ua:br H.length args=true)
 {o:Oper} {a:Act} (hrun:(execOp a.eval o).run P w=(callFunc f cargs).run P w) (hdl:a.defers=dl) {Kk:Act->World->Prop} {Q:Exit->Act->World->Prop} (hq:zp cx K pay dl nb g H w x Q):o.wp P a w Kk Q:=by
 obtain⟨⟨fn,h1,h2,h3⟩,h4⟩:=hD f args H x h;unfold Oper.wp;rw[hrun,lP h1 h2 h3,Oper.upon_enter];refine(h4 g w cargs hI ra ua).mono fun e w' he=>?_;obtain⟨g',H',rfl,i1,i2,i3⟩:=he;exact hq g' H' a w' hdl i1 i2 (i3.le hnb)
theorem uG {dd:dk} (hD:lK P cx K pay dd) {N:Nat} {ops:Array Oper} {i:Nat} {co:Oper} (hi:ops[i]? =some co) {o:aL} (ht:rb P ops co=some o) (hok:o.gx N=true) {s:St} {x:D} (h:gi cx dd s.e s.h o x) {a:Act} (ok:cg dl cx N g s a w)
 {Q:Exit->Act->World->Prop} {Kk:Act->World->Prop} (hq:zp cx K pay dl s.b g s.h w x Q):wpOp P ops Q i Kk a w:=by
 obtain⟨h1,h2,h3⟩:=q9 ht;obtain⟨k1,k2,k3⟩:=uI hok;unfold gi at h;have hg:co.guard=none:=by
  rcases h3 with⟨g1,_⟩|⟨j,b,sl,_,_,g3⟩
  ·exact g1
  ·rw[g3]at h;exact h.elim
 have hg':o.guard=none:=by
  rcases h3 with⟨_,g2⟩|⟨j,b,sl,_,_,g3⟩
  ·exact g2
  ·rw[g3]at h;exact h.elim
 rw[hg']at h;simp only at h;unfold wpOp;simp only[hi];rw[ay (by simp[Region.wanted,hg])];left;have ht0:∀ v,o.op=v->v≠ .no->(∀ a b c,v≠ .blit a b c)->ny P co.op=some v:=by
  intro v hv hn hnl;obtain⟨v0,h1,h2|⟨_,_,_,_,h2⟩⟩:=h1
  rotate_left
  ·exact absurd (hv.symm.trans h2) (hnl _ _ _)
  subst h2;unfold I3 at h1;cases hh:ny P co.op with
  |none=>rw[hh]at h1;simp only[Option.getD_none,aa]at h1;exact absurd (h1.trans hv).symm hn
  |some q=>rw[hh]at h1;simp only[j8,aa]at h1;rw[h1,hv]
 cases hop:o.op with
 |call f args=>
  rw[hop]at h k2;simp only at h;obtain⟨c,hc,hvs,hcc⟩:=yM (q:= .t 0) (.inl (ht0 _ hop (by simp) (by simp)));rcases hcc with⟨hcal,_⟩|⟨t,hcal,_,hbad⟩
  ·obtain⟨callee,ar,at'⟩:=c;simp only at hvs hcal;subst hcal;simp only[ij.fy]at k2;obtain⟨r1,r2⟩:=uH (a:=a) ok.inv ok.env hvs k2;have r1':=nZ ok.inv r1;have r2':=oT (H:=s.h) r2;simp only[cV,dh]at r1' r2';have hrun:(execOp a.eval co).run P w=(callFunc f (ar.map a.eval)).run P w:=by
    simp[execOp,hc,resolve,Act.eval,Deferred.ofValue,invoke]
   exact Km hD ok.inv ok.base h (by simpa using r1') r2' hrun ok.defers hq
  ·rw[ht0 _ hop (by simp) (by simp)]at hbad;cases hbad
 |callv q args=>
  rw[hop]at h k2;simp only at h;obtain⟨c,hc,hvs,hcc⟩:=yM (f:=0) (.inr (ht0 _ hop (by simp) (by simp)));rcases hcc with⟨hcal,hbad⟩|⟨t,hcal,rfl,_⟩
  ·rw[ht0 _ hop (by simp) (by simp)]at hbad;cases hbad
  ·obtain⟨callee,ar,at'⟩:=c;simp only at hvs hcal;subst hcal;simp only[ij.fy,aQ,ab]at k2;obtain⟨f1,f2⟩:=df (a:=a) (x:= .tmp t) ok.inv ok.env rfl k2.1;obtain⟨r1,r2⟩:=uH (a:=a) ok.inv ok.env hvs k2.2;have r1':=nZ ok.inv r1;have r2':=oT (H:=s.h) r2;simp only[cV,dh]at r1' r2';split at h
   ·rename_i f c hv;rw[hv]at f1 f2;simp only[bW]at f1;obtain⟨cs,hx,hcs⟩:=f1;have hrun:(execOp a.eval co).run P w=(callFunc f (ar.map a.eval++cs)).run P w:=by
     simp[execOp,hc,resolve,hx,Deferred.ofValue,invoke]
    refine Km hD ok.inv ok.base h ?_ (jN r2' (by simpa only[V.und] using f2)) hrun ok.defers hq;have:=mi r1' hcs;simpa using this
   ·rename_i f c hv;rw[hv]at f1 f2;simp only[bW]at f1;obtain⟨cs,hx,hcs⟩:=f1;have hrun:(execOp a.eval co).run P w=(callFunc f (cs++ar.map a.eval)).run P w:=by
     simp[execOp,hc,resolve,hx,Deferred.ofValue,invoke]
    refine Km hD ok.inv ok.base h ?_ (jN (by simpa only[V.und] using f2) r2') hrun ok.defers hq;have:=mi hcs r1';simpa using this
   ·exact h.elim
 |_=>rw[hop]at h;exact h.elim
theorem GJ {dd:dk} (hD:lK P cx K pay dd) {orc:iH} (hS:kE P cx orc) {N:Nat} {ops:Array Oper}:∀ (l:List Oper) (i:Nat) (vs:List aL),ops.toList.drop i=l->dq P ops l=some vs->vs.all (aL.gx N)=true->∀ {k:Nat} {o:aL},vs[k]? =some o->∀ {g:Gh} {w:World} {s s':St} {x:D},bQ cx orc (vs.take k) s=some s'->gi cx dd s'.e s'.h o x->∀ {a:Act},cg dl cx N g s a w->
 ∀ {Q:Exit->Act->World->Prop},zp cx K pay dl s.b g s.h w x Q->Go.wpOps P ops Q (List.range' i l.length) a w
 |[],i,vs,_,ht,_,k,o,ho,g,w,s,s',x,h,hd,a,ok,Q,hq=>by
  simp only[dq,aa]at ht;subst ht;simp at ho
 |co::l,i,vs,hl,ht,hok,k,o,ho,g,w,s,s',x,h,hd,a,ok,Q,hq=>by
  simp only[dq]at ht;split at ht
  ·rename_i v vs' hv hvs;simp only[aa]at ht;subst ht;simp only[aQ,ab]at hok;have hi:ops[i]? =some co:=by
    have:=aG (·[0]?) hl;simpa using this
   have hl':ops.toList.drop (i+1)=l:=by rw[<-cr,hl];rfl
   simp only[aw,fX];rw[Go.wpOps_cons];cases k with
   |zero=>
    simp only[aV,aa]at ho;subst ho;simp only[ml,bQ,aa]at h;subst h;exact uG hD hi hv hok.1 hd ok hq
   |succ k=>
    simp only[bR]at ho;simp only[cB,bQ]at h;cases h1:aW cx orc v s with
    |none=>rw[h1]at h;cases h
    |some s1=>
     rw[h1]at h;simp only[aP]at h;refine fZ hS hi hv hok.1 h1 ok fun g' y w' ok' ext'=>?_;have hb:=lZ h1;refine GJ hD hS l (i+1) vs' hl' hvs hok.2 ho h hd ok' fun g2 H2 a2 w2 hdl hI2 hK2 ext2=>?_;exact hq g2 H2 a2 w2 hdl hI2 hK2 (ext'.trans ext2 om)
  ·cases ht
theorem Qd {dd:dk} (hD:lK P cx K pay dd) {orc:iH} (hS:kE P cx orc) {N:Nat} {ops:Array Oper} {id:Nat} {vs:List aL} (ht:dq P ops ops.toList=some vs) (hok:vs.all (aL.gx N)=true) {k:Nat} {o:aL} (ho:vs[k]? =some o) {s s':St} {x:D}
 (h:bQ cx orc (vs.take k) s=some s') (hd:gi cx dd s'.e s'.h o x) {a:Act} (ok:cg dl cx N g s a w)
 {Q:Exit->Act->World->Prop} (hq:zp cx K pay dl s.b g s.h w x Q):(Code.region id ops false).wp P Q a w:=by
 apply wp_region;have:=GJ hD hS ops.toList 0 vs (by simp) ht hok ho h hd ok hq;simpa [eD] using this
theorem Ah:∀ {l:List aL} {ts:List Nat},vD ts l=true->∀ (k:Nat) (o:aL),l[k]? =some o->∃ t,t∈o.names/\(t∈ts\/∃ n p,n < k/\l[n]? =some p/\p.dst=some t)
 |[],ts,_,k,o,h=>by simp at h
 |q::l,ts,ht,0,o,h=>by
  simp only[aV,aa]at h;subst h;simp only[vD,ab,List.any_eq_true]at ht;obtain⟨t,h1,h2⟩:=ht.1;exact⟨t,h1,.inl (by simpa using h2)⟩
 |q::l,ts,ht,k+1,o,h=>by
  simp only[vD,ab]at ht;obtain⟨t,h1,h2⟩:=Ah ht.2 k o (by simpa using h);refine⟨t,h1,?_⟩;rcases h2 with h2|⟨n,p,h3,h4,h5⟩
  ·rcases cd.1 h2 with h2|h2
   ·exact .inr ⟨0,q,om,rfl,by simpa using h2⟩
   ·exact .inl h2
  ·exact .inr ⟨n+1,p,om,by simpa using h4,h5⟩
theorem za {dd:dk} {e e':Env} {H:Hp} {o:aL} {x:D} (h:∀ t∈o.names,bP e t=bP e' t) (hd:gi cx dd e H o x):gi cx dd e' H o x:=by
 unfold gi at hd⊢;split at hd
 ·exact hd.elim
 ·have ho:∀ y∈o.op.fy,di cx e y=di cx e' y:=fun y hy=>DD fun t ht=>h t (by
    simp only[aL.names,cd,List.mem_flatMap];exact .inl (.inr ⟨y,hy,ht⟩))
  cases hop:o.op with
  |call f args=>
   rw[hop]at hd ho;simp only at hd⊢;have e2:(args.map fun y=>iX H (di cx e y))=args.map fun y=>iX H (di cx e' y):=bJ fun y hy=>by rw[ho y (by simpa [ij.fy] using hy)]
   rw[<-e2];exact hd
  |callv f args=>
   rw[hop]at hd ho;simp only at hd⊢;have e1:=ho f (by simp[ij.fy]);have e2:(args.map fun y=>iX H (di cx e y))=args.map fun y=>iX H (di cx e' y):=bJ fun y hy=>by rw[ho y (by simp[ij.fy,hy])]
   rw[<-e1,<-e2];exact hd
  |_=>rw[hop]at hd;exact hd.elim
theorem N9 {dd:dk} (hD:lK P cx K pay dd) {orc:iH} (hS:kE P cx orc) (hmx:P.follows .mixedOrders=true) {N:Nat} {ops:Array Oper} {id m:Nat} {vs:List aL} (ht:dq P ops ops.toList=some vs) (hok:vs.all (aL.gx N)=true) (hord:oF ops vs m=true)
 {d:Nat} {o:aL} (hdm:d < m) (ho:vs[d]? =some o) (hp:((vs.take d).all fun o=>oZ o.op)=true) {s s':St} {x:D} (h:eC cx orc d (vs.take d) s=some s') (hta:vD o.dst.toList ((vs.take m).drop (d+1))=true) (hd:gi cx dd s'.e s'.h o x) {a:Act} (ok:cg dl cx N g s a w)
 {Q:Exit->Act->World->Prop} (hq:zp cx K pay dl s.b g s.h w x Q):(Code.region id ops true).wp P Q a w:=by
 have hO:=jP hord;have hml:=hO.le;obtain⟨hlen,hget⟩:=fw ht;have hlen':vs.length=ops.size:=by simpa using hlen
 have hdl:d<=(vs.take d).length:=by rw[bm];omega
 obtain⟨τ,val,T,he⟩:=px d (vs.take d) s s' hdl h;have hs':s'=τ d:=by
  rw[bU (by rw[bm];omega)]at he;simp only[bQ,aa]at he;exact he.symm
 subst hs';have T':Trace cx orc d vs s τ val:=⟨T.zero,fun i p hi hp'=>T.step i p hi (by rw[aZ,ay hi];exact hp')⟩;have G:=qZ (N:=N) T' om ok.inv.und fun k hk=>(ok.env.2 k hk).2;have hh:∀ j,j<=d->(τ j).h=s.h:=by
  intro j;induction j with
  |zero=>intro _;rw[T'.zero]
  |succ j ih=>
   intro hj;have hv:vs[j]? =some vs[j]:=ae om;have hpj:=(aC.1 hp) vs[j] (by rw[fp];exact⟨j,by rw[aZ,ay om];exact hv⟩);rw[vI hpj (T'.step j vs[j] om hv).1,ih om]
 have hdmm:∀ n o',vs[n]? =some o'->(vs.getD n default).dst=o'.dst:=fun n o' h=>by rw[av,h];rfl
 refine wp_region_any hmx ?_;have hl0:∀ i,iI (Array.replicate ops.size false) i=false:=fun i=>by simp[iI,Array.getD]
 refine ph ht hO (R:=fun L a' w'=>(∀ k,d<=k->k < m->L k=false)/\∃ g',Ts dl cx N d τ (fun n=>(vs.getD n default).dst) val g s w L g' a' w') (fun listed hs hall hlt a w D=>?_) (fun i co p him i3 hp' hto L L' i2 hL' hLo hA a1 w1 K1 D hk=>?_) ops.size _ (by simp) (nX ops.size fun i _=>hl0 i).symm (fun i _ h=>by rw[hl0]at h;cases h) (fun i o _ h=>by rw[hl0]at h;cases h) ⟨fun k _ _=>hl0 k,g,?_⟩
 ·have:=D.1 d (ai _) hdm;rw[hall d hdm]at this;cases this
 ·obtain⟨hL0,g1,D⟩:=D;have hokp:=(aC.1 hok) p (aT hp');rcases jH i d with hid|hid|hid
  ·refine yA hS T'.zero (fun n o hn h=>(T'.step n o hn h).2.1) G ok.base hid i3 hp' (T'.step i p hid hp').1 hto hokp (hdmm i p hp') hdmm om i2 hL' hLo (fun t htn=>⟨(hA t htn).1,fun n h1 h2=>(hA t htn).2 n h1 om⟩) D fun g' a' w' D'=>hk a' w' ⟨fun k h1 h2=>by rw[hLo k om];exact hL0 k h1 h2,g',D'⟩
  ·subst hid;rw[ho]at hp';cases hp';have hE:∀ n,n<=i->dg (fun _=>true) (fun n=>(vs.getD n default).dst) val s.e n=(τ n).e:=j6 (by rw[T'.zero]) (fun n hn=>by
     obtain⟨_,q,_⟩:=T'.step n vs[n] hn (ae om);rw[q,hdmm n _ (ae om)]) (fun _ _=>rfl)
   have hname:∀ t∈o.names,bP (dg L (fun n=>(vs.getD n default).dst) val s.e i) t=bP (τ i).e t:=by
     intro t htn;rw[<-hE i (ai _)];exact fB i fun k h1 h2=>by rw[(hA t htn).1 k h1 h2]
   have hok0:cg dl cx N g1 ⟨dU o.names (τ i).e,s.h,s.b⟩ a1 w1:=by
    have hI:=D.inv;rw[hh i (ai _)]at hI;refine⟨hI,⟨D.size,fun k hk=>?_⟩,D.defers,ok.base⟩;rw[lj];by_cases hkn:k∈o.names
    ·rw[ay hkn];have h1:=D.env k hk;have h2:=G.und i (ai _) k hk;rw[hh i (ai _)]at h1 h2;rw[hname k hkn]at h1;exact⟨h1,h2⟩
    ·rw[aA hkn];exact⟨by simp[bW],rfl⟩
   have hd':gi cx dd (dU o.names (τ i).e) s.h o x:=by
    rw[hh i (ai _)]at hd;exact za (fun t htn=>by rw[lj,ay htn]) hd
   refine uG hD i3 hto hokp hd' hok0 fun g' H' a' w' h1 h2 h3 h4=>?_;have E:=D.ext;rw[hh i (ai _)]at E;exact hq g' H' a' w' h1 h2 h3 (E.trans h4 (ai _))
  ·exfalso;have hk':((vs.take m).drop (d+1))[i - (d+1)]? =some p:=by
    rw[cw,show d+1+(i - (d+1))=i by omega,aZ,ay him];exact hp'
   obtain⟨t,t1,t2⟩:=Ah hta _ _ hk';have hbad:∀ n q,d<=n->n < i->vs[n]? =some q->q.dst=some t->False:=by
    intro n q h1 h2 h3 h4;have:=(hA t t1).1 n h2 (by rw[hdmm n q h3];exact h4);rw[hL0 n h1 om]at this;cases this
   rcases t2 with t2|⟨n,q,t3,t4,t5⟩
   ·exact hbad d o (ai _) hid ho (by simpa using t2)
   ·rw[cw,aZ,ay om]at t4;exact hbad (d+1+n) q om om t4 t5
 ·have hI:=ok.inv;refine⟨by rw[hh d (ai _)];exact hI.drawn _,ok.env.1,fun k hkN=>?_,ok.defers,?_,fun i hi _ id h1 h2=>?_⟩
  ·rw[jU d fun k _=>hl0 k,hh d (ai _)];exact(ok.env.2 k hkN).1
  ·rw[hh d (ai _)];exact⟨rfl,rfl,rfl,ai _,fun _ _ _=>⟨rfl,rfl⟩,⟨fun _=>aJ _,fun i o _ ho hr=>⟨rfl,o,ho,hr⟩,fun i sz l _ ho=>⟨l,ho,aJ _,fun _=>rfl⟩⟩,fun i _ c h _=>⟨i,c,h⟩,fun _ _ h=>h,ai _⟩
  ·rw[hh i om]at h1;rw[hh (i+1) om]at h2;omega
theorem Kg {dd:dk} (hD:lK P cx K pay dd) {orc:iH} (hS:kE P cx orc) (hmx:P.follows .mixedOrders=true) {N:Nat} {ops:Array Oper} {id m:Nat} {vs:List aL} (ht:dq P ops ops.toList=some vs) (hok:vs.all (aL.gx N)=true) (hord:oF ops vs m=true)
 {s:St} {d z ta:Nat} {zz:List V} {od:aL} {cl:Nat->Bool} {ε:Nat->Env} {val:Nat->V} {Hz:Bool->Hp} (Z:b1f cx orc m vs s d z ta zz od cl ε val Hz) {x:D} (hd:∀ y,gi cx dd (ε d) (Hz y) od x) {a:Act} (ok:cg dl cx N g s a w)
 {Q:Exit->Act->World->Prop} (hq:zp cx K pay dl s.b g s.h w x Q):(Code.region id ops true).wp P Q a w:=by
 have hO:=jP hord;obtain⟨hlen,hget⟩:=fw ht;have hlen':vs.length=ops.size:=by simpa using hlen
 have hml:=hO.le;have hdm:∀ n o',vs[n]? =some o'->(vs.getD n default).dst=o'.dst:=fun n o' h=>by rw[av,h];rfl
 have hE:∀ n,n<=m->dg cl (fun n=>(vs.getD n default).dst) val s.e n=ε n:=by
   intro n;induction n with
   |zero=>intro _;exact Z.zero.symm
   |succ n ih=>
    intro hn;have q:=Z.env n vs[n] om (ae om);simp only[dg];rw[ih om,q,hdm n _ (ae om)]
 have hz0:Hz false=s.h:=by rw[Z.hz];rfl
 have hz1:Hz true=s.h++[.box zz]:=by rw[Z.hz];rfl
 refine wp_region_any hmx ?_;have hl0:∀ i,iI (Array.replicate ops.size false) i=false:=fun i=>by simp[iI,Array.getD]
 refine ph ht hO (R:=fun L a w'=>(∀ k,k < m->cl k=false->L k=false)/\∃ g',cg dl cx N g' ⟨dg L (fun n=>(vs.getD n default).dst) val s.e m,Hz (L z),s.b⟩ a w'/\Ext s.b g s.h w g' (Hz (L z)) w') ?_ ?_ ops.size _ (by simp) (nX ops.size fun i _=>hl0 i).symm (fun i _ h=>by rw[hl0]at h;cases h) (fun i o _ h=>by rw[hl0]at h;cases h) ⟨fun k _ _=>hl0 k,?_⟩
 ·rintro listed hs hall hlt a w' ⟨hc,_⟩;have:=hc d Z.ld Z.cld;rw[hall d Z.ld]at this;cases this
 ·rintro i co o him i3 ho hto L L' hL hL' hLo hA a w' K' ⟨hc,g',ok',ext'⟩ hk;have hoki:o.gx N=true:=(aC.1 hok) _ (aT ho);have hdo:(vs.getD i default).dst=o.dst:=hdm i o ho;have hname:∀ t∈o.names,bP (ε i) t=bP (dg L (fun n=>(vs.getD n default).dst) val s.e m) t:=by
    intro t htn;obtain⟨q1,q2⟩:=hA t htn;have e1:bP (dg L (fun n=>(vs.getD n default).dst) val s.e m) t=bP (dg L (fun n=>(vs.getD n default).dst) val s.e i) t:=by
      have:=iU (L:=L) (dst:=fun n=>(vs.getD n default).dst) (val:=val) (e0:=s.e) (t:=t) (i:=i) (m - i) fun k h1 h2 h3=>by
        by_cases hki:k=i
        ·subst hki;exact hL
        ·exact q2 k om om h3
      rwa [show i+(m - i)=m by omega]at this
    rw[e1,<-hE i om];refine fB i fun k h1 h2=>?_;rw[q1 k h1 h2];cases hcl:cl k with
    |true=>rfl
    |false=>have:=hc k (by omega) hcl;rw[q1 k h1 h2]at this;cases this
  by_cases hid:i=d
  ·subst hid;rw[Z.odx]at ho;cases ho;refine uG hD i3 hto hoki (za hname (hd (L z))) ok' fun g2 H2 a2 w2 h1 h2 h3 h4=>?_;exact hq g2 H2 a2 w2 h1 h2 h3 (ext'.trans h4 (ai _))
  ·cases hcl:cl i with
   |false=>
    exfalso;obtain⟨t,t1,n,q,t2,t3,t4,t5⟩:=Z.taint i o him ho hcl hid;have:=(hA t t1).1 n t2 (by rw[hdm n q t3];exact t4);rw[hc n om t5]at this;cases this
   |true=>
    have hval0:=Z.env i o him ho;rw[hcl,ay rfl]at hval0;have hrun:aW cx orc o ⟨ε i,Hz (L z),s.b⟩=some ⟨ε (i+1),Hz (L' z),s.b⟩:=by
     by_cases hiz:i=z
     ·subst hiz;rw[Z.oax]at ho;cases ho;rw[hL,hL',hz0,hz1,hval0,Z.va];rfl
     ·rw[hLo z (fun e=>hiz e.symm)];exact Z.run i o (L z) him ho hcl hiz
    obtain⟨y,hx1,hx2⟩:=lY (e':=dg L (fun n=>(vs.getD n default).dst) val s.e m) (s:=⟨ε i,Hz (L z),s.b⟩) hname hrun;have hval:∀ k,o.dst=some k->val i=y:=by
     intro k hk';have e1:=aG (bP · k) (hval0.symm.trans hx1);simpa [ff,hk'] using e1
    refine fZ hS i3 hto hoki hx2 ok' fun g2 yv w2 ok2 ext2=>hk _ _ ⟨fun k hk1 hk2=>?_,g2,?_,ext'.trans ext2 (ai _)⟩
    ·rw[hLo k (by rintro rfl;rw[hcl]at hk2;cases hk2)];exact hc k hk1 hk2
    refine⟨ok2.inv,⟨ok2.env.1,fun k hkN=>?_⟩,ok2.defers,ok2.base⟩;have heq:bP (dg L' (fun n=>(vs.getD n default).dst) val s.e m) k=bP (fT o.dst y (dg L (fun n=>(vs.getD n default).dst) val s.e m)) k:=by
      rw[ff];by_cases hd':o.dst=some k
      ·rw[ay hd'];obtain⟨q1,q2⟩:=hA k (nh hd');have:=iU (L:=L') (dst:=fun n=>(vs.getD n default).dst) (val:=val) (e0:=s.e) (t:=k) (i:=i+1) (m - (i+1)) fun n h1 h2 h3=>by
         rw[hLo n om];exact q2 n om om h3
       rw[show i+1+(m - (i+1))=m by omega]at this;rw[this,iR,ay ⟨hL',hdo.trans hd'⟩];exact hval k hd'
      ·rw[aA hd'];exact fB m fun n h1 h2=>hLo n (by rintro rfl;exact hd' (hdo.symm.trans h2))
    have:=ok2.env.2 k hkN;rw[heq];exact this
 ·refine⟨g,?_,?_⟩
  ·rw[hl0 z,jU m fun k _=>hl0 k,hz0];exact⟨ok.inv.drawn _,ok.env,ok.defers,ok.base⟩
  ·rw[hl0 z,hz0];have e:=Ext.refl s.b g s.h w;exact⟨e.os,e.tape,e.output,e.size,e.frame,e.keep,e.jnew,e.clean,e.len⟩
theorem MY {dd:dk} (hD:lK P cx K pay dd) {orc:iH} (hS:kE P cx orc) {N:Nat} {ops:Array Oper} {vs:List aL} (ht:dq P ops ops.toList=some vs) (hok:vs.all (aL.gx N)=true) {m:Nat} (hO:qd ops vs m)
 {d:Nat} {od:aL} (hod:vs[d]? =some od) {s':St} {x:D} (hd:gi cx dd s'.e s'.h od x) {Q:Exit->Act->World->Prop}:∀ (fuel j:Nat),m<=j->j<=d->j+fuel=ops.size->∀ {listed:Array Bool},listed.size=ops.size->(∀ i,i < ops.size->(iI listed i=true↔i < j))->
 ∀ {s:St} {g:Gh} {a:Act} {w:World},bQ cx orc ((vs.take d).drop j) s=some s'->cg dl cx N g s a w->zp cx K pay dl s.b g s.h w x Q->wpAny P .any ops Q fuel listed a w:=by
 obtain⟨hlen,hget⟩:=fw ht;have hlen':vs.length=ops.size:=by simpa using hlen
 have hds:d < ops.size:=by have:=(az.1 hod).1;omega
 intro fuel;induction fuel with
 |zero=>intro j hm hjd hj;omega
 |succ fuel ih=>
  intro j hm hjd hj listed hs hL s g a w he ok hq;have hjs:j < ops.size:=om;have hoj:ops[j]? =some ops[j]:=eG hjs;obtain⟨o,ho,hto⟩:=hget j ops[j] (by simp);have hready:j∈Region.ready .any ops listed:=(mL hs).2 ⟨hjs,by
    cases h:iI listed j with
    |false=>rfl
    |true=>have:=(hL j hjs).1 h;omega,_,hoj,fun e he hb=>by
     have h1:=hO.back j _ hoj e he hb;exact(hL e.on om).2 h1⟩
  have hback:∀ (i:Nat) (o:Oper),ops[i]? =some o->iI listed i=true->∀ e∈o.after,Region.binds .any e=true->iI listed e.on=true:=by
   intro i o hi hl e he hb;have h1:=hO.back i o hi e he hb;have h2:=(aS.1 hi).1;have h3:=(hL i h2).1 hl;exact(hL e.on om).2 om
  refine⟨fun h=>by rw[h]at hready;simp at hready,fun i hi=>?_⟩;obtain⟨i1,i2,co,i3,i4⟩:=(mL hs).1 hi;have hij:i=j:=by
   have hge:j<=i:=m6 fun h=>by rw[(hL i i1).2 h]at i2;cases i2
   refine Nat.le_antisymm (m6 fun h=>?_) hge;have:=nr (L:=iI listed) hO.back hback i co i3 i4 j (hO.tail i i1 om j h);have:=(hL j hjs).1 this;omega
  subst hij;have hoki:o.gx N=true:=(aC.1 hok) _ (aT ho);rcases Nat.lt_or_eq_of_le hjd with hlt|heq
  ·have htl:(vs.take d)[i]? =some o:=by rw[aZ,ay hlt];exact ho
   have hil:i < (vs.take d).length:=(az.1 htl).1;rw[bV hil,(az.1 htl).2]at he;simp only[bQ]at he;cases h1:aW cx orc o s with
   |none=>rw[h1]at he;cases he
   |some s1=>
    rw[h1]at he;simp only[aP]at he;have hb:=lZ h1;refine fZ hS hoj hto hoki h1 ok fun g' y w' ok' ext'=>?_;refine ih (i+1) om om om (by simp[hs]) (fun k hk=>?_) he ok' fun g2 H2 a2 w2 q1 q2 q3 q4=>hq g2 H2 a2 w2 q1 q2 q3 (ext'.trans q4 om);by_cases hki:k=i
    ·subst hki;rw[wW (show k < listed.size by omega)];simp
    ·rw[rO hki,hL k hk];omega
  ·subst heq;rw[ho]at hod;cases hod;rw[bU (by rw[bm];omega)]at he;simp only[bQ,aa]at he;subst he;exact uG hD hoj hto hoki hd ok hq
theorem Kh {dd:dk} (hD:lK P cx K pay dd) {orc:iH} (hS:kE P cx orc) (hmx:P.follows .mixedOrders=true) {N:Nat} {ops:Array Oper} {id m:Nat} {vs:List aL} (ht:dq P ops ops.toList=some vs) (hok:vs.all (aL.gx N)=true) (hord:oF ops vs m=true)
 {d:Nat} {o:aL} (hdm:m<=d) (ho:vs[d]? =some o) {s s':St} {x:D} (h:eC cx orc m (vs.take d) s=some s') (hd:gi cx dd s'.e s'.h o x) {a:Act} (ok:cg dl cx N g s a w)
 {Q:Exit->Act->World->Prop} (hq:zp cx K pay dl s.b g s.h w x Q):(Code.region id ops true).wp P Q a w:=by
 have hO:=jP hord;have hml:=hO.le;obtain⟨hlen,hget⟩:=fw ht;have hlen':vs.length=ops.size:=by simpa using hlen
 have hdl:d < vs.length:=(az.1 ho).1;obtain⟨τ,val,T0,he⟩:=px m (vs.take d) s s' (by rw[bm];omega) h;have T:Trace cx orc m vs s τ val:=⟨T0.zero,fun i p hi hp'=>T0.step i p hi (by rw[aZ,ay om];exact hp')⟩;have G:=qZ (N:=N) T hO.le ok.inv.und fun k hk=>(ok.env.2 k hk).2;have hdmm:∀ n o',vs[n]? =some o'->(vs.getD n default).dst=o'.dst:=fun n o' h=>by rw[av,h];rfl
 refine wp_region_any hmx ?_;have hl0:∀ i,iI (Array.replicate ops.size false) i=false:=fun i=>by simp[iI,Array.getD]
 obtain⟨l,hl⟩:=G.grow 0 m (aR _) (ai _);rw[T.zero]at hl;have hk:=vW g s.h l;rw[<-hl]at hk;have hout:∀ id,s.h.length<=id->g.J id=none:=fun id hid=>by
   cases hj:g.J id with
   |none=>rfl
   |some p=>have:=(ok.inv.dom id p.1 p.2 hj).1;omega
 refine ph ht hO (R:=fun L a' w'=> ∃ g',Ts dl cx N m τ (fun n=>(vs.getD n default).dst) val g s w L g' a' w') (fun listed hs hall hlt a w D=>?_) (fun i co p him i3 hp' hto L L' i2 hL' hLo hA a1 w1 K1 D hk=>?_) ops.size _ (by simp) (nX ops.size fun i _=>hl0 i).symm (fun i _ h=>by rw[hl0]at h;cases h) (fun i o _ h=>by rw[hl0]at h;cases h) ⟨g,?_⟩
 ·obtain⟨g1,D⟩:=D;have hE:dg (iI listed) (fun n=>(vs.getD n default).dst) val s.e m=(τ m).e:=j6 (by rw[T.zero]) (fun n hn=>by
    obtain⟨_,q,_⟩:=T.step n vs[n] hn (ae om);rw[q,hdmm n _ (ae om)]) hall m (ai _)
  have hlm:s.h.length<=(τ m).h.length:=D.ext.len;have hb:s.b<=s.h.length:=ok.base;refine MY hD hS ht hok hO ho hd (ops.size - m) m (ai _) hdm om hs (fun i hi=>⟨hlt i hi,hall i⟩) he ⟨D.inv,⟨D.size,fun k hk=>⟨by rw[<-hE];exact D.env k hk,G.und m (ai _) k hk⟩⟩,D.defers,by rw[G.b m (ai _)];omega⟩ fun g' H' a' w' q1 q2 q3 q4=>?_;refine hq g' H' a' w' q1 q2 q3 (D.ext.trans q4 ?_);rw[G.b m (ai _)];exact ai _
 ·obtain⟨g1,D⟩:=D;exact Br hS T G ok.base him i3 hp' hto ((aC.1 hok) _ (aT hp')) (hdmm i p hp') hdmm hml i2 hL' hLo hA D fun g' a' w' D'=>hk a' w' ⟨g',D'⟩
 ·refine⟨?_,ok.env.1,fun k hkN=>?_,ok.defers,⟨rfl,rfl,rfl,ai _,fun _ _ _=>⟨rfl,rfl⟩,?_,fun i _ c h _=>⟨i,c,h⟩,fun n hn hc=>?_,by rw[hl];simp⟩,fun i hi _ id h1 h2=>hout id ?_⟩
  ·have hI:=ok.inv;refine⟨hI.inj,fun i b c hj=>⟨by rw[hl,ah];have:=(hI.dom i b c hj).1;omega,(hI.dom i b c hj).2⟩,fun i b c o hj ho=>?_,hI.imm,G.clean m (ai _),hI.glob,hI.fix⟩;have hi:=(hI.dom i b c hj).1;rw[hl,aD hi]at ho;exact(hI.ob i b c o hj ho).ext hk rfl rfl (by rintro c' rfl;exact hI.und i c' hi ho)
  ·rw[jU m fun k _=>hl0 k];exact fk hk _ _ (ok.env.2 k hkN).2 (ok.env.2 k hkN).1
  ·rw[hl];exact⟨fun _=>aJ _,fun i o hi ho hr=>⟨rfl,o,by rw[aD hi];exact ho,hr⟩,fun i sz r hi ho=>⟨r,by rw[aD hi];exact ho,aJ _,fun _=>rfl⟩⟩
  ·intro i c hi ho;have:=ok.base;rw[hl,aD om]at ho;exact hc i c hi ho
  ·obtain⟨l',hl'⟩:=G.grow 0 i (aR _) om;rw[T.zero]at hl';have:s.h.length<=(τ i).h.length:=by rw[hl'];simp
   omega
theorem Hq {pg:Pg} {dd:dk} {v:aU} (hv:v.j4=true) {s:St} {x:D} (h:dO pg dd v s x):False:=by
 cases h<;>cases hv
theorem tf {pg:Pg} {dd:dk} {N:Nat} {a:Act} {x:D} {c:aU}:∀ (l:List aU),l.all aU.j4=true->(jO l c).gx N=true->∀ {s:St} {g:Gh},dO pg dd (jO l c) s x->cg dl pg.toCx N g s a w->
 ∃ g1 s1,cg dl pg.toCx N g1 s1 a w/\Ext s.b g s.h w g1 s1.h w/\s1.b=s.b/\dO pg dd c s1 x/\c.gx N=true
 |[],_,hN,s,g,h,ok=>⟨g,s,ok,Ext.refl ..,rfl,h,hN⟩
 |v::l,hl,hN,s,g,h,ok=>by
  simp only[aQ,ab]at hl;simp only[jO,aU.gx,ab]at hN;simp only[jO]at h;cases h with
  |seq1 h=>exact(Hq hl.1 h).elim
  |seq2 h1 h=>
   obtain⟨_,g1,ok1,e1,b1⟩:=y0 hl.1 hN.1 h1 ok;obtain⟨g2,s2,ok2,e2,b2,h2,n2⟩:=tf l hl.2 hN.2 h ok1;exact⟨g2,s2,ok2,e1.trans e2 om,om,h2,n2⟩
theorem rZ {pg:Pg} (hT:eS P pg) (hmx:P.follows .mixedOrders=true) {A:vb} {N:Nat} {c:Code} {v:aU} (ht:tr P A c=some v) (hN:v.gx N=true) {s:St} {a:Act} {y:Ex} {s':St} (h:ev pg v s=some (y,s')) (ok:cg dl pg.toCx N g s a w)
 {Q:Exit->Act->World->Prop} (hq:∀ g' a' w',cg dl pg.toCx N g' s' a' w'->Ext s.b g s.h w g' s'.h w'->Q y.out a' w'):c.wp P Q a w:=by
 obtain⟨n,hn⟩:=uU h;obtain⟨hS,hL⟩:=pC hT hmx n;exact r7 hS hmx hL c v ht hN hn ok hq
theorem R9 {pg:Pg} (hT:eS P pg) (hmx:P.follows .mixedOrders=true) {v:aU} {s:St} {y:Ex} {s':St} (h:ev pg v s=some (y,s')):s'.b=s.b:=by
 obtain⟨n,hn⟩:=uU h;exact Sf (pC hT hmx n).2.1 hn
theorem NM {pg:Pg} (hT:eS P pg) (hmx:P.follows .mixedOrders=true) {dd:dk} {A:vb} {N:Nat} {c:Code} {v:aU} (ht:tr P A c=some v) (hN:v.gx N=true) {ks:List Nat}
 (ih:∀ {s:St} {x:D},dO pg dd v s x->∀ {g:Gh} {a:Act} {w:World},cg dl pg.toCx N g s a w->∀ {Q:Exit->Act->World->Prop},zp pg.toCx K pay dl s.b g s.h w x Q->c.wp P Q a w):
 ∀ {V:aU} {s:St} {x:D},dO pg dd V s x->V= .loop ks v->∃ n,∀ {g:Gh} {a:Act} {w:World},cg dl pg.toCx N g s a w->∀ {Q:Exit->Act->World->Prop},zp pg.toCx K pay dl s.b g s.h w x Q->Code.rounds P c Q n a w:=by
 intro V s x h;induction h with
 |loop1 h _=>
  intro e;cases e;refine⟨1,fun ok Q hq=>?_⟩;rw[rounds_succ];refine ih h (ok.keep _) fun g' H' a' w' h1 h2 h3 h4=>?_;exact hq g' H' a' w' h1 h2 h3 (h4.le ok.base)
 |loop2 h1 _ ih2=>
  intro e;cases e;obtain⟨n,hn⟩:=ih2 rfl;refine⟨n+1,fun ok Q hq=>?_⟩;rw[rounds_succ];refine rZ hT hmx ht hN h1 (ok.keep _) fun g1 a1 w1 ok1 e1=>?_;refine hn (g:=g1.cut _) (cg.back ok.inv.und ok.base ok1 e1) fun g' H' a' w' h1 h2 h3 h4=>?_;exact hq g' H' a' w' h1 h2 h3 (((e1.le ok.base).cut rfl ok.base).trans h4 (ai _))
 |_=>intro e;cases e
theorem wa {pg:Pg} (hT:eS P pg) (hmx:P.follows .mixedOrders=true) {dd:dk} (hD:lK P pg.toCx K pay dd) {A:vb} {N:Nat}:∀ (c:Code) (v:aU),tr P A c=some v->v.gx N=true->∀ {s:St} {x:D},dO pg dd v s x->∀ {g:Gh} {a:Act} {w:World},cg dl pg.toCx N g s a w->
 ∀ {Q:Exit->Act->World->Prop},zp pg.toCx K pay dl s.b g s.h w x Q->c.wp P Q a w:=by
 have hS:=tP hT hmx;intro c;induction c with
 |skip=>intro v ht hN s x h;simp only[tr,aa]at ht;subst ht;cases h
 |label l=>intro v ht hN s x h;simp only[tr,aa]at ht;subst ht;cases h
 |exit id=>intro v ht hN s x h;simp only[tr,aa]at ht;subst ht;cases h
 |ret=>intro v ht hN s x h;simp only[tr,aa]at ht;subst ht;cases h
 |region id ops draw=>
  intro v ht hN s x h g a w ok Q hq;obtain⟨vs,c,h1,rfl,h2,h3⟩:=CO ht;obtain⟨g1,s1,ok1,e1,b1,hc,hN1⟩:=tf _ h2 hN h ok;have hq1:zp pg.toCx K pay dl s1.b g1 s1.h w x Q:=fun g' H' a' w' q1 q2 q3 q4=>hq g' H' a' w' q1 q2 q3 (e1.trans q4 om);rcases h3 with⟨rfl,m,ho,rfl⟩|⟨rfl,rfl⟩
  ·cases hc with
   |draw a1 a2 a3 a4 a5 a6=>exact N9 hD hS hmx h1 (by simpa [aU.gx] using hN1) ho a1 a2 a3 a4 a5 a6 ok1 hq1
   |drawT a1 a2 a3 a4=>exact Kh hD hS hmx h1 (by simpa [aU.gx] using hN1) ho a1 a2 a3 a4 ok1 hq1
   |drawZ Z hz=>exact Kg hD hS hmx h1 (by simpa [aU.gx] using hN1) ho Z hz ok1 hq1
  ·cases hc with
   |reg a1 a2 a3=>exact Qd hD hS h1 (by simpa [aU.gx] using hN1) a1 a2 a3 ok1 hq1
 |seq c1 c2 ih1 ih2=>
  intro v ht hN s x h g a w ok Q hq;simp only[tr]at ht;split at ht
  ·rename_i v1 v2 ht1 ht2;cases ht;simp only[aU.gx,ab]at hN;apply wp_seq;cases h with
   |seq1 h=>exact ih1 v1 ht1 hN.1 h ok fun g' H' a' w' q1 q2 q3 q4=>hq g' H' a' w' q1 q2 q3 q4
   |seq2 hx h=>
    have hb:=R9 hT hmx hx;refine rZ hT hmx ht1 hN.1 hx ok fun g1 a1 w1 ok1 e1=>?_;exact ih2 v2 ht2 hN.2 h ok1 fun g' H' a' w' q1 q2 q3 q4=>hq g' H' a' w' q1 q2 q3 (e1.trans q4 om)
  ·cases ht
 |cond c c1 c2 ih1 ih2=>
  intro v ht hN s x h g a w ok Q hq;simp only[tr]at ht;split at ht
  ·rename_i vc v1 v2 hc ht1 ht2;cases ht;simp only[aU.gx,ab]at hN;cases h with
   |cond hv h=>
    rename_i t;have hr:=(df ok.inv ok.env hc hN.1.1).1;rw[hv]at hr;refine wp_cond (oW hr) ?_;cases t with
    |true=>exact ih1 v1 ht1 hN.1.2 (by simpa using h) ok hq
    |false=>exact ih2 v2 ht2 hN.2 (by simpa using h) ok hq
  ·cases ht
 |block id c ih=>
  intro v ht hN s x h g a w ok Q hq;simp only[tr]at ht;obtain⟨v1,ht1,rfl⟩:=aj.1 ht;simp only[aU.gx]at hN;apply wp_block;cases h with
  |block h=>exact ih v1 ht1 hN h ok fun g' H' a' w' q1 q2 q3 q4=>hq g' H' a' w' q1 q2 q3 q4
 |scope c ih=>
  intro v ht hN s x h g a w ok Q hq;simp only[tr]at ht;obtain⟨v1,ht1,rfl⟩:=aj.1 ht;simp only[aU.gx]at hN;apply wp_scope_straight;cases h with
  |scope h=>exact ih v1 ht1 hN h ok fun g' H' a' w' q1 q2 q3 q4=>hq g' H' a' w' q1 q2 q3 q4
 |loop c ih=>
  intro v ht hN s x h g a w ok Q hq;simp only[tr]at ht;split at ht
  ·cases ht
  rename_i hgh;obtain⟨v1,ht1,rfl⟩:=aj.1 ht;have hgh':(vU A c).all aU.j4=true:=by
   cases hh:(vU A c).all aU.j4 with
   |true=>rfl
   |false=>exact absurd hh hgh
  obtain⟨g0,s0,ok0,e0,b0,h,hN⟩:=tf _ hgh' hN h ok;simp only[aU.gx,ab]at hN;obtain⟨n,hn⟩:=NM hT hmx ht1 hN.2 (fun h=>ih v1 ht1 hN.2 h) h rfl;exact wp_loop_rounds n (hn ok0 fun g' H' a' w' q1 q2 q3 q4=>hq g' H' a' w' q1 q2 q3 (e0.trans q4 om))
 |_=>intro v ht;simp[tr]at ht
theorem Vr {pg:Pg} (hT:eS P pg) (hmx:P.follows .mixedOrders=true) {dd:dk} (hD:lK P pg.toCx K pay dd) {f:Nat} {vf:kK} (ht:pg.my f=some (.code vf)) {args:List V} (hl:args.length=vf.np) {H:Hp} {x:D}
 (h:dO pg dd vf.body ⟨cJ args,H,H.length⟩ x):og P pg.toCx K pay f args H x:=by
 obtain⟨fn,A,hf,hname,htr,hok⟩:=hT f _ ht;obtain⟨c,hb,htc,hres,hnt,_⟩:=iM htr;obtain⟨k1,k2,k3⟩:=lR hok;refine⟨⟨fn,hf,by rw[hb];rfl,hname⟩,fun g w cargs hI ra ua=>calls_of_wp hf hb ?_⟩
 have ok0:cg [] pg.toCx vf.nt g ⟨cJ args,H,H.length⟩ {tmps:=cargs++Array.replicate (fn.ntmps - cargs.size) undef,defers:=[]} w:=
  ⟨hI,by rw[<-hnt];exact mb ra ua om,rfl,ai _⟩
 refine wa hT hmx hD c vf.body htc k1 h ok0 fun g' H' a' w' q1 q2 q3 q4=>?_;exact⟨q1,g',H',rfl,q2,q3,q4⟩
def Fm (pg:Pg) (base:dk):Nat->dk
 |0=>base
 |n+1=>fun f args H x=>base f args H x\/∃ vf,pg.my f=some (.code vf)/\args.length=vf.np/\dO pg (Fm pg base n) vf.body ⟨cJ args,H,H.length⟩ x
def cY (pg:Pg) (base:dk):dk:=fun f args H x=> ∃ n,Fm pg base n f args H x
theorem Bz {pg:Pg} (hT:eS P pg) (hmx:P.follows .mixedOrders=true) {base:dk} (hD:lK P pg.toCx K pay base):∀ n,lK P pg.toCx K pay (Fm pg base n)
 |0=>hD
 |n+1=>fun f args H x h=>by
  rcases h with h|⟨vf,h1,h2,h3⟩
  ·exact hD f args H x h
  ·exact Vr hT hmx (Bz hT hmx hD n) h1 h2 h3
theorem tU {pg:Pg} (hT:eS P pg) (hmx:P.follows .mixedOrders=true) {base:dk} (hD:lK P pg.toCx K pay base):lK P pg.toCx K pay (cY pg base):=fun f args H x ⟨n,h⟩=>Bz hT hmx hD n f args H x h
theorem tV {cx:Cx} {dd:Nat->dk} {e:Env} {H:Hp} {o:aL} {x:D} (h:gi cx (fun f a H x=> ∃ n,dd n f a H x) e H o x):∃ n,gi cx (dd n) e H o x:=by
  unfold gi at h⊢;split at h
  ·exact h.elim
  ·cases hop:o.op with
   |call f args=>rw[hop]at h;exact h
   |callv f args=>
    rw[hop]at h;simp only at h⊢;split at h
    ·exact h
    ·exact h
    ·exact h.elim
   |_=>rw[hop]at h;exact h.elim
theorem mX {cx:Cx} {dd dd':dk} (hm:∀ f a H x,dd f a H x->dd' f a H x) {e:Env} {H:Hp} {o:aL} {x:D} (h:gi cx dd e H o x):gi cx dd' e H o x:=by
 unfold gi at h⊢;split at h
 ·exact h.elim
 ·cases hop:o.op with
  |call f args=>rw[hop]at h;exact hm _ _ _ _ h
  |callv f args=>
   rw[hop]at h;simp only at h⊢;split at h
   ·exact hm _ _ _ _ h
   ·exact hm _ _ _ _ h
   ·exact h.elim
  |_=>rw[hop]at h;exact h.elim
theorem Kl {pg:Pg} {dd dd':dk} (hm:∀ f a H x,dd f a H x->dd' f a H x) {v:aU} {s:St} {x:D} (h:dO pg dd v s x):dO pg dd' v s x:=by
 induction h with
 |reg a1 a2 a3=>exact .reg a1 a2 (mX hm a3)
 |draw a1 a2 a3 a4 a5 a6=>exact .draw a1 a2 a3 a4 a5 (mX hm a6)
 |drawT a1 a2 a3 a4=>exact .drawT a1 a2 a3 (mX hm a4)
 |drawZ a1 a2=>exact .drawZ a1 fun y=>mX hm (a2 y)
 |seq1 _ ih=>exact .seq1 ih
 |seq2 a _ ih=>exact .seq2 a ih
 |cond a _ ih=>exact .cond a ih
 |block _ ih=>exact .block ih
 |scope _ ih=>exact .scope ih
 |loop1 _ ih=>exact .loop1 ih
 |loop2 a _ ih=>exact .loop2 a ih
theorem DE {pg:Pg} {base:dk}:∀ n f a H x,Fm pg base n f a H x->Fm pg base (n+1) f a H x
 |0,_,_,_,_,h=> .inl h
 |n+1,f,a,H,x,h=>by
  rcases h with h|⟨vf,h1,h2,h3⟩
  ·exact .inl h
  ·exact .inr ⟨vf,h1,h2,Kl (DE n) h3⟩
theorem VF {pg:Pg} {base:dk} {n m:Nat} (h:n<=m):∀ f a H x,Fm pg base n f a H x->Fm pg base m f a H x:=by
 obtain⟨d,rfl⟩:=Nat.exists_eq_add_of_le h;clear h;induction d with
 |zero=>exact fun _ _ _ _ h=>h
 |succ d ih=>exact fun f a H x h=>DE _ _ _ _ _ (ih f a H x h)
theorem Sx {pg:Pg} {dd:Nat->dk} (hm:∀ n m,n<=m->∀ f a H x,dd n f a H x->dd m f a H x) {v:aU} {s:St} {x:D} (h:dO pg (fun f a H x=> ∃ n,dd n f a H x) v s x):∃ n,dO pg (dd n) v s x:=by
  induction h with
  |reg a1 a2 a3=>obtain⟨n,h⟩:=tV a3;exact⟨n,.reg a1 a2 h⟩
  |draw a1 a2 a3 a4 a5 a6=>obtain⟨n,h⟩:=tV a6;exact⟨n,.draw a1 a2 a3 a4 a5 h⟩
  |drawT a1 a2 a3 a4=>obtain⟨n,h⟩:=tV a4;exact⟨n,.drawT a1 a2 a3 h⟩
  |drawZ a1 a2=>
   obtain⟨n,h⟩:=tV (a2 true);obtain⟨n',h'⟩:=tV (a2 false);refine⟨max n n',.drawZ a1 fun y=>?_⟩;cases y with
   |true=>exact mX (hm n _ (cN ..)) h
   |false=>exact mX (hm n' _ (cn ..)) h'
  |seq1 _ ih=>obtain⟨n,h⟩:=ih;exact⟨n,.seq1 h⟩
  |seq2 a _ ih=>obtain⟨n,h⟩:=ih;exact⟨n,.seq2 a h⟩
  |cond a _ ih=>obtain⟨n,h⟩:=ih;exact⟨n,.cond a h⟩
  |block _ ih=>obtain⟨n,h⟩:=ih;exact⟨n,.block h⟩
  |scope _ ih=>obtain⟨n,h⟩:=ih;exact⟨n,.scope h⟩
  |loop1 _ ih=>obtain⟨n,h⟩:=ih;exact⟨n,.loop1 h⟩
  |loop2 a _ ih=>obtain⟨n,h⟩:=ih;exact⟨n,.loop2 a h⟩
theorem Bw {pg:Pg} {base:dk} {f:Nat} {args:List V} {H:Hp} {x:D} (h:base f args H x):cY pg base f args H x:=⟨0,h⟩
theorem Bv {pg:Pg} {base:dk} {f:Nat} {vf:kK} (ht:pg.my f=some (.code vf)) {args:List V} (hl:args.length=vf.np) {H:Hp} {x:D} (h:dO pg (cY pg base) vf.body ⟨cJ args,H,H.length⟩ x):cY pg base f args H x:=by
 obtain⟨n,h⟩:=Sx (fun _ _ h=>VF h) h;exact⟨n+1,.inr ⟨vf,ht,hl,h⟩⟩
end
section
variable (pg:Pg) (dd:dk)
structure ft (f:Nat) (vs:List V) (H:Hp) (k:V->Hp->Prop) (D:D->Prop):Prop where
 or:(∃ r H',cv pg f vs H=some (r,H')/\k r H')\/∃ x,dd f vs H x/\D x
noncomputable def goX (b:Nat) (dst:Option Nat) (op:ij) (kn:Kn) (e:Env) (H:Hp) (k:Kn->Env->Hp->Prop) (D:D->Prop):Prop:=
 match op with
 | .call f args=>zg pg.toCx e H args fun vs=>ft pg dd f vs H (fun v H'=>yd kn dst v e H' k) D
 | .callv f args=>(match gO pg.toCx e f with
   | .fn f c=>zg pg.toCx e H args fun vs=>da (vs++c) fun vs=>ft pg dd f vs H (fun v H'=>yd kn dst v e H' k) D
   | .fm f c=>zg pg.toCx e H args fun vs=>da (c++vs) fun vs=>ft pg dd f vs H (fun v H'=>yd kn dst v e H' k) D
   |_=>False)
 |op=>goK pg b dst op kn e H k
noncomputable def ue (b:Nat) (o:aL) (kn:Kn) (e:Env) (H:Hp) (k:Kn->Env->Hp->Prop) (D:D->Prop):Prop:=match o with
 |⟨dst,op,none⟩=>goX pg dd b dst op kn e H k D
 |⟨dst,op,some g⟩=>mG pg b ⟨dst,op,some g⟩ kn e H k
noncomputable def IQ (b:Nat) (l:List aL):Kn->Env->Hp->(Kn->Env->Hp->Prop)->(D->Prop)->Prop:=List.rec (motive:=fun _=>Kn->Env->Hp->(Kn->Env->Hp->Prop)->(D->Prop)->Prop) (fun kn e H K _=>K kn e H) (fun o _ ih kn e H K D=>ue pg dd b o kn e H (fun kn e H=>ih kn e H K D) D) l
noncomputable def ug (b:Nat) (m:Nat) (l:List aL):Kn->Env->Hp->(Kn->Env->Hp->Prop)->(D->Prop)->Prop:=List.rec (motive:=fun _=>Nat->Kn->Env->Hp->(Kn->Env->Hp->Prop)->(D->Prop)->Prop) (fun _ kn e H K _=>K kn e H) (fun o _ ih m kn e H K D=>match m with
  |0=>ue pg dd b o kn e H (fun kn e' H'=>ih 0 kn e' H' K D) D
  |m+1=>mG pg b o kn e H fun kn e' H'=>a2e (oZ o.op) H H' (HT o.dst e' H' (ih m kn e' H' K D))) l m
noncomputable def FW (b:Nat) (d m:Nat) (ops:List aL) (kn:Kn) (e:Env) (H:Hp) (K:Kn->Env->Hp->Prop) (D:D->Prop):Prop:=
 Xj pg b (ops.take d) (fun _ P=>P) kn e H fun jw kn e=>match ops[d]? with
   |some od=>ue pg dd b od kn e H (fun kn e H1=>jw H1 (TF pg b od.dst H ((ops.take m).drop (d+1)) kn e H1 fun kn e=>wpOps pg b (ops.drop m) kn e H1 K)) D
   |none=>False
def Qr (d m:Nat) (ops:List aL):Bool:=((ops.take d).all fun o=>oZ o.op) && match ops[d]? with
  |some od=>vD od.dst.toList ((ops.take m).drop (d+1))
  |none=>false
structure WX (b:Nat) (c:aU) (kn:Kn) (e:Env) (H:Hp) (Q:Ex->Kn->Env->Hp->Prop) (D:D->Prop):Prop where
 imp:dT kn e->(∃ x kn' e' H',ev pg c ⟨e,H,b⟩=some (x,⟨e',H',b⟩)/\dT kn' e'/\Q x kn' e' H')\/∃ x,dO pg dd c ⟨e,H,b⟩ x/\D x
structure KX (b:Nat) (d:aU) (Q:Ex->Kn->Env->Hp->Prop) (D:D->Prop) (x:Ex) (kn:Kn) (e:Env) (H:Hp):Prop where
 dN:x= .dN->WX pg dd b d kn e H Q D
 exit:∀ i,x= .exit i->Q (.exit i) kn e H
 ret:x= .ret->Q .ret kn e H
@[irreducible] def MG (b:Nat) (ks:List Nat) (c:aU) (e:Env) (H:Hp) (Q:Ex->Kn->Env->Hp->Prop) (D:D->Prop):Prop:=
 (∃ x e' H',ev pg (.loop ks c) ⟨e,H,b⟩=some (x,⟨e',H',b⟩)/\Q x [] e' H')\/∃ x,dO pg dd (.loop ks c) ⟨e,H,b⟩ x/\D x
end
section
variable {pg:Pg} {dd:dk} {b:Nat} {c d:aU} {Q:Ex->Kn->Env->Hp->Prop} {D:D->Prop} {kn:Kn} {e:Env} {H:Hp}
theorem nk {f:Nat} {vs:List V} {k:V->Hp->Prop} {r:V} {H':Hp} (h:cv pg f vs H=some (r,H')) (hk:k r H'):ft pg dd f vs H k D:=⟨.inl ⟨r,H',h,hk⟩⟩
theorem Oh {f:Nat} {vs:List V} {k:V->Hp->Prop} {x:Go.Vm.D} (h:dd f vs H x) (hk:D x):ft pg dd f vs H k D:=⟨.inr ⟨x,h,hk⟩⟩
theorem Y1 (h:WX pg dd b d kn e H Q D):KX pg dd b d Q D .dN kn e H:=by constructor<;>intros<;>simp_all
theorem U3 {i:Nat} (h:Q (.exit i) kn e H):KX pg dd b d Q D (.exit i) kn e H:=by constructor<;>intros<;>simp_all
theorem Y0 (h:Q .ret kn e H):KX pg dd b d Q D .ret kn e H:=by constructor<;>intros<;>simp_all
theorem OS (h:WQ pg b c kn e H Q):WX pg dd b c kn e H Q D:=⟨fun hk=> .inl (h.imp hk)⟩
theorem Vo {dst:Option Nat} {op:ij} {k:Kn->Env->Hp->Prop} (hk:dT kn e) (h:goX pg dd b dst op kn e H k D):
 (∃ kn' e' H',aW pg.toCx (cv pg) ⟨dst,op,none⟩ ⟨e,H,b⟩=some ⟨e',H',b⟩/\dT kn' e'/\k kn' e' H')\/∃ x,gi pg.toCx dd e H ⟨dst,op,none⟩ x/\D x:=by
 unfold goX at h;split at h
 ·rename_i f args;have h:=mY _ _ _ _ _ h;rcases h.or with⟨r,H',h1,h2⟩|⟨x,h1,h2⟩
  ·left;obtain⟨kn',e',H2,h3,h4,h5⟩:=oY (b:=b) hk h2;exact⟨kn',e',H2,by simp only[aW,bn];rw[h1];exact h3,h4,h5⟩
  ·exact .inr ⟨x,h1,h2⟩
 ·rename_i f args;rw[sx]at h;split at h
  ·rename_i f' c' hf;have h:=mY _ _ _ _ _ h;rw[cy]at h;rcases h.or with⟨r,H',h1,h2⟩|⟨x,h1,h2⟩
   ·left;obtain⟨kn',e',H2,h3,h4,h5⟩:=oY (b:=b) hk h2;exact⟨kn',e',H2,by simp only[aW,bn,hf];rw[h1];exact h3,h4,h5⟩
   ·exact .inr ⟨x,by unfold gi;simp only[hf];exact h1,h2⟩
  ·rename_i f' c' hf;have h:=mY _ _ _ _ _ h;rw[cy]at h;rcases h.or with⟨r,H',h1,h2⟩|⟨x,h1,h2⟩
   ·left;obtain⟨kn',e',H2,h3,h4,h5⟩:=oY (b:=b) hk h2;exact⟨kn',e',H2,by simp only[aW,bn,hf];rw[h1];exact h3,h4,h5⟩
   ·exact .inr ⟨x,by unfold gi;simp only[hf];exact h1,h2⟩
  ·cases h
 ·exact .inl (EY hk h)
theorem sL {o:aL} {k:Kn->Env->Hp->Prop} (hk:dT kn e) (h:ue pg dd b o kn e H k D):
 (∃ kn' e' H',aW pg.toCx (cv pg) o ⟨e,H,b⟩=some ⟨e',H',b⟩/\dT kn' e'/\k kn' e' H')\/∃ x,gi pg.toCx dd e H o x/\D x:=by
 obtain⟨dst,op,g⟩:=o;cases g with
 |none=>exact Vo hk h
 |some g=>exact .inl (gZ hk h)
theorem zO:∀ {l:List aL} {kn e H} {K:Kn->Env->Hp->Prop},dT kn e->IQ pg dd b l kn e H K D->
 (∃ kn' e' H',bQ pg.toCx (cv pg) l ⟨e,H,b⟩=some ⟨e',H',b⟩/\dT kn' e'/\K kn' e' H')\/∃ i o s1 x,l[i]? =some o/\bQ pg.toCx (cv pg) (l.take i) ⟨e,H,b⟩=some s1/\gi pg.toCx dd s1.e s1.h o x/\D x
 |[],_,_,_,_,hk,h=> .inl ⟨_,_,_,rfl,hk,h⟩
 |o::r,kn,e,H,K,hk,h=>by
  have h:ue pg dd b o kn e H (fun kn e H=>IQ pg dd b r kn e H K D) D:=h;rcases sL hk h with⟨kn',e',H',h1,h2,h3⟩|⟨x,h1,h2⟩
  ·rcases zO h2 h3 with⟨kn2,e2,H2,h4,hk2,h5⟩|⟨i,o',s1,x,h4,h5,h6,h7⟩
   ·exact .inl ⟨kn2,e2,H2,by simp only[bQ,h1,aP];exact h4,hk2,h5⟩
   ·exact .inr ⟨i+1,o',s1,x,by simpa using h4,by simp only[cB,bQ,h1,aP];exact h5,h6,h7⟩
  ·exact .inr ⟨0,o,⟨e,H,b⟩,x,rfl,rfl,h1,h2⟩
theorem sM:∀ {l:List aL} {m:Nat} {kn e H} {K:Kn->Env->Hp->Prop},dT kn e->ug pg dd b m l kn e H K D->
 (∃ kn' e' H',eC pg.toCx (cv pg) m l ⟨e,H,b⟩=some ⟨e',H',b⟩/\dT kn' e'/\K kn' e' H')\/∃ i o s1 x,m<=i/\l[i]? =some o/\eC pg.toCx (cv pg) m (l.take i) ⟨e,H,b⟩=some s1/\gi pg.toCx dd s1.e s1.h o x/\D x
 |[],m,_,_,_,_,hk,h=> .inl ⟨_,_,_,by cases m<;>rfl,hk,h⟩
 |o::r,0,kn,e,H,K,hk,h=>by
  have h:ue pg dd b o kn e H (fun kn e' H'=>ug pg dd b 0 r kn e' H' K D) D:=h;rcases sL hk h with⟨kn',e',H',h1,h2,h3⟩|⟨x,h1,h2⟩
  ·rcases sM (m:=0) h2 h3 with⟨kn2,e2,H2,h4,hk2,h5⟩|⟨i,o',s1,x,_,h4,h5,h6,h7⟩
   ·left;rw[lF]at h4;exact⟨kn2,e2,H2,by rw[lF];simp only[bQ,h1,aP,h4],hk2,h5⟩
   ·right;rw[lF]at h5;exact⟨i+1,o',s1,x,om,by simpa using h4,by rw[lF];simp only[cB,bQ,h1,aP];exact h5,h6,h7⟩
  ·exact .inr ⟨0,o,⟨e,H,b⟩,x,ai _,rfl,rfl,h1,h2⟩
 |o::r,m+1,kn,e,H,K,hk,h=>by
  have h:mG pg b o kn e H (fun kn e' H'=>a2e (oZ o.op) H H' (HT o.dst e' H' (ug pg dd b m r kn e' H' K D))):=h;obtain⟨kn',e',H',h1,h2,h3⟩:=gZ hk h;have hg:grew H H'=true/\HT o.dst e' H' (ug pg dd b m r kn' e' H' K D):=by
   unfold a2e at h3;cases hp:oZ o.op with
   |true=>
    rw[hp]at h3;rw[uD hp h1];exact⟨by simp,by rw[uD hp h1]at h3;exact h3⟩
   |false=>rw[hp]at h3;exact h3
  have hd:pw o.dst ⟨e',H',b⟩=true/\ug pg dd b m r kn' e' H' K D:=by
   have:=hg.2;unfold HT at this;unfold pw;cases hd:o.dst with
   |some d=>rw[hd]at this;simp only[eU,oC]at this;exact this
   |none=>rw[hd]at this;exact⟨rfl,this⟩
  rcases sM h2 hd.2 with⟨kn2,e2,H2,h4,hk2,h5⟩|⟨i,o',s1,x,h0,h4,h5,h6,h7⟩
  ·exact .inl ⟨kn2,e2,H2,by simp only[eC,h1,aP,hg.1,hd.1,cF,cU,h4],hk2,h5⟩
  ·exact .inr ⟨i+1,o',s1,x,om,by simpa using h4,by simp only[cB,eC,h1,aP,hg.1,hd.1,cF,cU,h5],h6,h7⟩
theorem OT (h:Q .dN kn e H):WX pg dd b .skip kn e H Q D:=OS (q_skip h)
theorem OV {i:Nat} (h:Q (.exit i) kn e H):WX pg dd b (.exit i) kn e H Q D:=OS (q_exit h)
theorem V9 (h:Q .ret kn e H):WX pg dd b .ret kn e H Q D:=OS (Qf h)
theorem DS {m:Nat} {ops:List aL} (h:ug pg dd b m ops kn e H (fun kn e H=>Q .dN kn e H) D):WX pg dd b (.draw m ops) kn e H Q D:=⟨fun hk=>by
  rcases sM hk h with⟨kn',e',H',h1,hk',h2⟩|⟨i,o,s1,x,h0,h1,h2,h3,h4⟩
  ·exact .inl ⟨_,kn',e',H',Fc pg h1,hk',h2⟩
  ·exact .inr ⟨x,.drawT h0 h1 h2 h3,h4⟩⟩
theorem Wa {ops:List aL} (h:IQ pg dd b ops kn e H (fun kn e H=>Q .dN kn e H) D):WX pg dd b (.reg ops) kn e H Q D:=⟨fun hk=>by
  rcases zO hk h with⟨kn',e',H',h1,hk',h2⟩|⟨i,o,s1,x,h1,h2,h3,h4⟩
  ·exact .inl ⟨_,kn',e',H',by rw[Bo,OJ,h1];rfl,hk',h2⟩
  ·exact .inr ⟨x,.reg h1 h2 h3,h4⟩⟩
theorem V8 (h:WX pg dd b c kn e H (KX pg dd b d Q D) D):WX pg dd b (.seq c d) kn e H Q D:=⟨fun hk=>by
  rcases h.imp hk with⟨x,kn',e',H',h1,hk',h2⟩|⟨x,h1,h2⟩
  ·cases x with
   |dN=>
    rcases(h2.dN rfl).imp hk' with⟨x2,kn2,e2,H2,h3,hk2,h4⟩|⟨x,h3,h4⟩
    ·exact .inl ⟨x2,kn2,e2,H2,by rw[qo,h1,Jc,h3],hk2,h4⟩
    ·exact .inr ⟨x,.seq2 h1 h3,h4⟩
   |exit i=>exact .inl ⟨_,kn',e',H',by rw[qo,h1,Eb],hk',h2.exit _ rfl⟩
   |ret=>exact .inl ⟨_,kn',e',H',by rw[qo,h1,Jb],hk',h2.ret rfl⟩
  ·exact .inr ⟨x,.seq1 h1,h2⟩⟩
theorem KV {id:Nat} (h:WX pg dd b c kn e H (KB id Q) D):WX pg dd b (.block id c) kn e H Q D:=⟨fun hk=>by
  rcases h.imp hk with h|⟨x,h1,h2⟩
  ·exact .inl ((El (pg:=pg) ⟨fun _=>h⟩).imp hk)
  ·exact .inr ⟨x,.block h1,h2⟩⟩
theorem OW {i:Nat} (h:match look kn i with
      |some true=>WX pg dd b c kn e H Q D
      |some false=>WX pg dd b d kn e H Q D
      |none=>match gE e i with
       | .d (.bool t)=>(t=true->WX pg dd b c ((i,true)::kn) e H Q D)/\(t=false->WX pg dd b d ((i,false)::kn) e H Q D)
       |_=>False):WX pg dd b (.cond (.t i) c d) kn e H Q D:=⟨fun hk=>by
  have yes:di pg.toCx e (.t i)= .d (.bool true)->∀ {kn},dT kn e->WX pg dd b c kn e H Q D->(∃ x kn' e' H',ev pg (.cond (.t i) c d) ⟨e,H,b⟩=some (x,⟨e',H',b⟩)/\dT kn' e'/\Q x kn' e' H')\/∃ x,dO pg dd (.cond (.t i) c d) ⟨e,H,b⟩ x/\D x:=by
   intro ht kn hk h;rcases h.imp hk with⟨x,kn',e',H',h1,hk',h2⟩|⟨x,h1,h2⟩
   ·exact .inl ⟨x,kn',e',H',by rw[rY];simp only[ht,pA,cU];exact h1,hk',h2⟩
   ·exact .inr ⟨x,.cond ht (by simpa using h1),h2⟩
  have no:di pg.toCx e (.t i)= .d (.bool false)->∀ {kn},dT kn e->WX pg dd b d kn e H Q D->(∃ x kn' e' H',ev pg (.cond (.t i) c d) ⟨e,H,b⟩=some (x,⟨e',H',b⟩)/\dT kn' e'/\Q x kn' e' H')\/∃ x,dO pg dd (.cond (.t i) c d) ⟨e,H,b⟩ x/\D x:=by
   intro ht kn hk h;rcases h.imp hk with⟨x,kn',e',H',h1,hk',h2⟩|⟨x,h1,h2⟩
   ·exact .inl ⟨x,kn',e',H',by rw[rY];simp only[ht,pA];exact h1,hk',h2⟩
   ·exact .inr ⟨x,.cond ht (by simpa using h1),h2⟩
  split at h
  ·rename_i ht;exact yes (hk i _ ht) hk h
  ·rename_i ht;exact no (hk i _ ht) hk h
  ·rw[oC]at h;split at h
   ·rename_i t ht;cases t with
    |true=>exact yes ht (hk.add ht) (h.1 rfl)
    |false=>exact no ht (hk.add ht) (h.2 rfl)
   ·cases h⟩
theorem CC {sz t o:Nat} (h:wp pg b (.bindrow sz t o) kn e H Q):WX pg dd b (.bindrow sz t o) kn e H Q D:=OS (Nl h)
theorem jB (i:Nat) {m:Nat} {ops:List aL} (hd:i < m) (hm:m<=ops.length) (hpl:Qr i m ops=true) (hdr:vv pg b i (ops.take i) kn e H fun _ _ _=>True)
    (h:FW pg dd b i m ops kn e H (fun kn e H=>Q .dN kn e H) D):WX pg dd b (.draw m ops) kn e H Q D:=⟨fun hk=>by
  unfold FW at h;unfold Qr at hpl;simp only[ab]at hpl;obtain⟨hp,hta⟩:=hpl;have A0:Xe (pg:=pg) b ⟨e,H,b⟩ [] e (fun _ P=>P):=⟨rfl,fun i q _ hq=>by simp only[List.take_nil,bQ,aa]at hq;rw[<-hq],fun H1 P hP=>⟨hP,fun i o q q' ho=>by simp at ho⟩⟩;obtain⟨jw,kn1,e1,A,hk1,h1⟩:=zR (s:=⟨e,H,b⟩) hk A0 h;rw[aq]at A;split at h1
  ·rename_i od ho;rw[ho]at hta;simp only at hta;rcases sL hk1 h1 with⟨kn2,e2,H1,h2,hk2,h3⟩|⟨x,h2,h3⟩
   ·left;obtain⟨h4,_⟩:=A.jw H1 _ h3;have hdl:(ops.take i).length=i:=by simp;omega
    have hpre:ops.take (i+1)=ops.take i++[od]:=by rw[dL,ho];rfl
    have hrun:=r0 A.run h2;rw[<-hpre]at hrun;have hl1:(ops.take (i+1)).length=i+1:=by simp;omega
    have B0:TB (pg:=pg) b ⟨e,H,b⟩ i od H1 (ops.take (i+1)) e2:=by
     refine⟨hrun,om,fun j q h1 h2 hq=>?_,fun j o q q' h1 ho'=>?_⟩
     ·have:j=i+1:=om;subst this;rw[bB om,hrun]at hq;cases hq;rfl
     ·have:=(az.1 ho').1;omega
    obtain⟨kn3,e3,B,hk3,h5⟩:=zQ (s:=⟨e,H,b⟩) hk2 B0 h4;have hall:ops.take (i+1)++(ops.take m).drop (i+1)=ops.take m:=by
     have:=bG (i+1) (ops.take m);rwa [gr,dr om]at this
    rw[hall]at B;obtain⟨kn4,e4,H4,h6,hk4,h7⟩:=qu hk3 h5;have hops:bQ pg.toCx (cv pg) ops ⟨e,H,b⟩=some ⟨e4,H4,b⟩:=by
     rw[<-bG m ops,oP,B.run];exact h6
    refine⟨.dN,kn4,e4,H4,?_,hk4,h7⟩;show(l8 pg.toCx (cv pg) m ops ⟨e,H,b⟩).map _=_;rw[gA.2 ⟨hops,.inr (HX rfl hm ho A h3 hd B hops)⟩];rfl
   ·right;obtain⟨kn',e',H',g1,_,_⟩:=oS hk hdr;have g2:=pv g1;rw[A.run]at g2;cases g2;exact⟨x,.draw hd ho hp g1 hta h2,h3⟩
  ·exact h1.elim⟩
theorem Od {ks:List Nat} {x:Go.Vm.D} (h:dO pg dd (.loop ks c) ⟨dU ks e,H,b⟩ x):dO pg dd (.loop ks c) ⟨e,H,b⟩ x:=by
 cases h with
 |loop1 h=>rw[pX]at h;exact .loop1 h
 |loop2 h1 h2=>rw[pX]at h1;exact .loop2 h1 h2
theorem OU {ks:List Nat} (h:tF e ks fun e=>MG pg dd b ks c e H Q D):WX pg dd b (.loop ks c) kn e H Q D:=⟨fun hk=>by
  rw[qK]at h;unfold MG at h;rcases h with⟨x,e',H',h1,h2⟩|⟨x,h1,h2⟩
  ·left;refine⟨x,[],e',H',?_,dT.nil _,h2⟩;rw[p7]at h1⊢;simp only[pX]at h1;exact h1
  ·exact .inr ⟨x,Od h1,h2⟩⟩
theorem na {ks:List Nat} {α:Type} (μ:α->Nat) (E:α->Env) (Hf:α->Hp) (P:α->Prop)
 (step:∀ a,P a->tE (Hf a) 0 fun n=>tF (E a) ks fun e=>WX pg dd n c [] e (Hf a) (fun x _ e' H'=>KL (fun e' H'=>ze n e' ks fun e2=>da (H'.take n) fun H2=> ∃ a',P a'/\μ a' < μ a/\e2=E a'/\H2=Hf a') Q x e' H') D) (a:α) (ha:P a) {e0:Env} {h0:Hp} (he:e0=E a) (hh:h0=Hf a):MG pg dd b ks c e0 h0 Q D:=by
 subst he;subst hh;have key:∀ n,∀ a,μ a < n->P a->(∃ x e' H',ev pg (.loop ks c) ⟨E a,Hf a,b⟩=some (x,⟨e',H',b⟩)/\Q x [] e' H')\/∃ x,dO pg dd (.loop ks c) ⟨E a,Hf a,b⟩ x/\D x:=by
  intro n;induction n with
  |zero=>intro a h;omega
  |succ n ih=>
   intro a hn ha;have st:=step a ha;rw[kU,qK,bt]at st;rcases st.imp (dT.nil _)with⟨x,kn',e',H',h1,_,h2⟩|⟨x,h1,h2⟩
   ·cases x with
    |dN=>
     have h2:=h2.dN rfl;simp only[xI,cy]at h2;obtain⟨a',h3,h4,h5,h6⟩:=h2;rcases ih a' om h3 with h|⟨x,h7,h8⟩
     ·left;rw[p7];simp only[h1,Ed,h5,h6];exact h
     ·right;refine⟨x,.loop2 h1 ?_,h8⟩;simp only[h5,h6];exact h7
    |exit i=>exact .inl ⟨_,e',H',by rw[p7];simp only[h1];rfl,h2.exit _ rfl⟩
    |ret=>exact .inl ⟨_,e',H',by rw[p7];simp only[h1];rfl,h2.ret rfl⟩
   ·exact .inr ⟨x,.loop1 h1,h2⟩
 unfold MG;exact key (μ a+1) a om ha
theorem Xi {base:dk} {f:Nat} {vf:kK} (ht:pg.my f=some (.code vf)) {a:List V} (hn:a.length=vf.np) (hk:vf.keep=false) (hu:br 0 a=false) {R:V->Hp->Prop}
 (h:kA 0 a fun e=>WX pg (cY pg base) H.length vf.body [] e H (wL vf.res H.length fun v H'=>R v (H'.take H.length)) D):
 (∃ r H2,cv pg f a H=some (r,H2)/\R r H2)\/∃ x,cY pg base f a H x/\D x:=by
 rw[jm]at h;rcases h.imp (dT.nil _)with⟨x,kn,e,H',h1,_,h2⟩|⟨x,h1,h2⟩
 ·left;obtain⟨r',h3,h4⟩:=oV (b:=H.length) h2;exact⟨r',H'.take H.length,by rw[Fg ht hn (by rw[hu];rfl),gB,h1,hk,h3],h4⟩
 ·exact .inr ⟨x,Bv ht hn (by rw[gB];exact h1),h2⟩
end
theorem DT {pg:Pg} {base:dk} {f:Nat} {vf:kK} {a:List V} {H:Hp} {x:D}
 (h:kA 0 a fun e=>WX pg (cY pg base) H.length vf.body [] e H (fun _ _ _ _=>False) fun y=>y=x) (ht:pg.my f=some (.code vf):=by exact rfl) (hn:a.length=vf.np:=by exact rfl):cY pg base f a H x:=by
 rw[jm]at h;rcases h.imp (dT.nil _)with⟨_,_,_,_,_,_,h2⟩|⟨y,h1,rfl⟩
 ·exact h2.elim
 ·exact Bv ht hn (by rw[gB];exact h1)
theorem a4y {P Q:Prop} (q:Q) (g:Q->P:=by
  first
   |exact V8|exact KV|exact Wa|exact OW|exact OV|exact V9|exact OT|exact x_scope|exact x_drawn rfl|exact OU|exact x_mkrow|exact x_bindto|exact x_freeze|exact x_newrow|exact CC):P:=g q
theorem TT {P Q:Prop} (q:Q) (g:Q->P:=by
  first
   |exact Y1|exact U3|exact Y0|exact RC|exact RD rfl|exact L6 rfl|exact RB|exact Rx|exact L2|exact kl_ret
   |exact ao (uQ _)
   |exact fun x=>b1 x|exact fun x=>b2 x|exact fun x=>b3 x|exact fun x=>b4 x|exact fun x=>b5 x|exact fun x=>b6 x
   |exact fun x=>pk x|exact ao rfl):P:=g q
theorem dA {P Q:Prop} (q:Left Q) (h:Left Q->P:=by
  intro q
  first
   |((with_reducible show WX _ _ _ _ _ _ _ _ _);refine a4y ?_)
   |((fail_if_success (with_reducible show WX _ _ _ _ _ _ _ _ _));(conv=>whnf);first|(with_reducible show WX _ _ _ _ _ _ _ _ _)|refine TT ?_)
  repeat' (first
    |((with_reducible show WX _ _ _ _ _ _ _ _ _);refine a4y ?_)
    |((fail_if_success (with_reducible show WX _ _ _ _ _ _ _ _ _));(conv=>whnf);first|(with_reducible show WX _ _ _ _ _ _ _ _ _)|refine TT ?_)
    |fail)
  exact q.f):P:=h q
def MK (σ:Nat->Nat) (n:Nat) (HB:Hp) (dd dd':dk):Prop:=∀ f a h x H,HR σ n HB h H->dd f a h x->dd' f (fM σ a) H x
section
variable {σ:Nat->Nat} {n:Nat} {HB:Hp} (hm:Mv σ n HB) {dd dd':dk} {pg:Pg} (hp:ki pg)
include hm
theorem xA {cx:Cx} (hd:MK σ n HB dd dd') {e:Env} {h H:Hp} {o:aL} {x:D} (hc:o.op.cst=true) (R:HR σ n HB h H) (h1:gi cx dd e h o x):gi cx dd' (rq σ e) H o x:=by
 unfold gi at h1⊢;split at h1
 ·exact h1.elim
 ·cases hop:o.op with
  |call f args=>
   rw[hop]at h1 hc;simp only[ij.cst,ij.Lv,bo]at hc;simp only at h1⊢;rw[uW hm R hc];exact hd _ _ _ _ _ R h1
  |callv f args=>
   rw[hop]at h1 hc;simp only[ij.cst,ij.Lv,bo,aQ,ab]at hc;simp only at h1⊢;rw[uW hm R hc.2,cC hc.1];split at h1
   ·rename_i f' c hv;rw[hv];simp only[V.sh];rw[<-rn];exact hd _ _ _ _ _ R h1
   ·rename_i f' c hv;rw[hv];simp only[V.sh];rw[<-rn];exact hd _ _ _ _ _ R h1
   ·exact h1.elim
  |_=>rw[hop]at h1;exact h1.elim
include hp
theorem uF:V1 σ n HB (cv pg) (cv pg):=fun f a h r h' H R hh=>p8 hp hm R hh
theorem UR:LSh σ n HB (OK pg) (OK pg):=fun ks c s x s' S hc R hh=>by
  obtain⟨k,hk⟩:=uT.1 hh;obtain⟨S',h1,h2⟩:=(KG hp hm k).2 ks c s x s' S hc R hk;exact⟨S',uT.2 ⟨k,h1⟩,h2⟩
theorem Bn {c:aU} {s:St} {x:Ex} {s' S:St} (hc:c.cst=true) (R:SR σ n HB s S) (h:ev pg c s=some (x,s')):∃ S',ev pg c S=some (x,S')/\SR σ n HB s' S':=
 Kc hm (uF hm hp) (UR hm hp) hc R h
theorem xz (hd:MK σ n HB dd dd') {c:aU} {s:St} {x:D} (h:dO pg dd c s x):∀ {S:St},c.cst=true->SR σ n HB s S->dO pg dd' c S x:=by
 have tk:∀ {ops:List aL} {i:Nat},(ops.all fun o=>o.op.cst)=true->((ops.take i).all fun o=>o.op.cst)=true:=fun h=>by
   simp only[aC]at h⊢;exact fun o ho=>h o (jW ho)
 induction h with
 |reg a1 a2 a3=>
  intro S hc R;simp only[aU.cst]at hc;obtain⟨S',e1,R1⟩:=tQ hm (uF hm hp) (tk hc) R a2;refine .reg a1 e1 ?_;rw[R1.e];exact xA hm hd ((aC.1 hc) _ (aT a1)) R1.h a3
 |draw a1 a2 a3 a4 a5 a6=>
  intro S hc R;simp only[aU.cst]at hc;obtain⟨S',e1,R1⟩:=qM hm (uF hm hp) (tk hc) R a4;refine .draw a1 a2 a3 e1 a5 ?_;rw[R1.e];exact xA hm hd ((aC.1 hc) _ (aT a2)) R1.h a6
 |drawT a1 a2 a3 a4=>
  intro S hc R;simp only[aU.cst]at hc;obtain⟨S',e1,R1⟩:=qM hm (uF hm hp) (tk hc) R a3;refine .drawT a1 a2 e1 ?_;rw[R1.e];exact xA hm hd ((aC.1 hc) _ (aT a2)) R1.h a4
 |drawZ Z hz=>
  intro S hc R;rename_i m ops s d a ta z od cl ε val Hz x;simp only[aU.cst]at hc;have hcst:∀ (i:Nat) (o:aL),ops[i]? =some o->o.op.cst=true:=fun i o h=>(aC.1 hc) _ (aT h);have hz0:Hz false=s.h:=by rw[Z.hz];rfl
  have hz1:Hz true=s.h++[.box z]:=by rw[Z.hz];rfl
  have RZ:HR σ n HB (s.h++[.box z]) (S.h++[.box z]):=by
   have h0:aW pg.toCx (cv pg) ⟨some ta,.zbox z,none⟩ ⟨s.e,s.h,s.b⟩=some ⟨fT (some ta) (.ptr s.h.length 0) s.e,s.h++[.box z],s.b⟩:=rfl;obtain⟨S',e1,R1⟩:=lE hm (uF hm hp) (hcst a _ Z.oax) (S:=S) R h0;have h1:aW pg.toCx (cv pg) ⟨some ta,.zbox z,none⟩ S=some ⟨fT (some ta) (.ptr S.h.length 0) S.e,S.h++[.box z],S.b⟩:=rfl;rw[h1]at e1;cases e1;exact R1.h
  refine .drawZ (d:=d) (a:=a) (ta:=ta) (z:=z) (od:=od) (cl:=cl) (ε:=fun i=>rq σ (ε i)) (val:=fun i=>(val i).sh σ) (Hz:=fun y=>if y then S.h++[.box z] else S.h) ⟨Z.ld,Z.la,Z.le,Z.odx,Z.oax,Z.cld,Z.cla,?_,fun _=>rfl,Z.taint,fun i o h1 h2=>?_,Z.pur,fun i o y h1 h2 h3 h4=>?_,?_⟩ fun y=>?_
  ·rw[Z.zero,R.e]
  ·rw[Z.env i o h1 h2];cases cl i with
   |true=>simp only[cU];exact uA _ _ _
   |false=>rfl
  ·have q:=Z.run i o y h1 h2 h3 h4;have RH:HR σ n HB (Hz y) (if y then S.h++[.box z] else S.h):=by
    cases y with
    |true=>rw[hz1];exact RZ
    |false=>rw[hz0];exact R.h
   obtain⟨S',e1,R1⟩:=lE hm (uF hm hp) (hcst i o h2) (s:=⟨ε i,Hz y,s.b⟩) (S:=⟨rq σ (ε i),if y then S.h++[.box z] else S.h,S.b⟩) ⟨rfl,RH,R.b,R.le⟩ q;have hh:=vI (Z.pur i o h1 h2 h3 h4) e1;rw[e1];obtain⟨e',h',b'⟩:=S';have r1:=R1.e;have r3:=R1.b;simp only at hh r1 r3;subst hh;subst r1;rw[r3,R.b]
  ·rw[Z.va,R.h.len];rfl
  ·have RH:HR σ n HB (Hz y) (if y then S.h++[.box z] else S.h):=by
    cases y with
    |true=>rw[hz1];exact RZ
    |false=>rw[hz0];exact R.h
   exact xA hm hd (hcst d od Z.odx) RH (hz y)
 |seq1 _ ih=>
  intro S hc R;simp only[aU.cst,ab]at hc;exact .seq1 (ih hc.1 R)
 |seq2 a _ ih=>
  intro S hc R;simp only[aU.cst,ab]at hc;obtain⟨S',e1,R1⟩:=Bn hm hp hc.1 R a;exact .seq2 e1 (ih hc.2 R1)
 |cond a _ ih=>
  intro S hc R;rename_i c t a' b' s' x' _;simp only[aU.cst,ab]at hc;refine .cond (t:=t) ?_ (ih (by cases t<;>simp[hc.2.1,hc.2.2]) R);rw[R.e,cC hc.1,a];rfl
 |block _ ih=>intro S hc R;exact .block (ih hc R)
 |scope _ ih=>intro S hc R;exact .scope (ih hc R)
 |loop1 _ ih=>
  intro S hc R;exact .loop1 (ih hc ⟨by rw[R.e,td],R.h,R.h.len,R.h.le⟩)
 |loop2 a _ ih=>
  intro S hc R;rename_i ks b' s' s1 x' _;obtain⟨S1,e1,R1⟩:=Bn hm hp (c:=b') (s:=⟨dU ks s'.e,s'.h,s'.h.length⟩) (S:=⟨dU ks S.e,S.h,S.h.length⟩) hc ⟨by rw[R.e,td],R.h,R.h.len,R.h.le⟩ a;refine .loop2 e1 (ih hc ⟨?_,?_,R.b,R.le⟩)
  ·show cut S.h.length (dU ks S1.e)=_;rw[R1.e,<-td,R.h.len,<-Lb hm]
  ·show HR σ n HB _ (S1.h.take S.h.length);rw[R.h.len];exact R1.h.take hm R.h.le
theorem Mo {base base':dk} (hd:MK σ n HB base base'):∀ k,MK σ n HB (Fm pg base k) (Fm pg base' k)
 |0=>hd
 |k+1=>fun f a h x H R hh=>by
  rcases hh with hh|⟨vf,h1,h2,h3⟩
  ·exact .inl (hd _ _ _ _ _ R hh)
  ·refine .inr ⟨vf,h1,by rw[mJ];exact h2,?_⟩;exact xz hm hp (Mo hd k) h3 (hp.code f vf h1) ⟨by rw[lH],R,R.len,R.le⟩
theorem xy {base base':dk} (hd:MK σ n HB base base'):MK σ n HB (cY pg base) (cY pg base'):=fun f a h x H R ⟨k,hk⟩=>⟨k,Mo hm hp hd k _ _ _ _ _ R hk⟩
end
theorem Vq {h X:Hp} (h1:fW h.length h=true):∃ σ:Nat->Nat,(∀ i,i < h.length->σ i=i)/\Mv σ h.length (h++X)/\HR σ h.length (h++X) h (h++X):=by
 let σ:Nat->Nat:=fun i=>if i < h.length then i else i+X.length
 have hσ:∀ i,i < h.length->σ i=i:=fun i hi=>ay hi;have hm:Mv σ h.length (h++X):=by
  constructor
  ·intro i j hij;show(if i < h.length then i else i+X.length) < (if j < h.length then j else j+X.length);split<;>split<;>omega
  ·intro j;show(if h.length+j < h.length then h.length+j else h.length+j+X.length)=_;rw[aA om,ah];omega
 refine⟨σ,hσ,hm,ai _,?_,fun i o ho=>?_,fun _ _ _=>rfl⟩
 ·show _=(if h.length < h.length then h.length else h.length+X.length);rw[aA om,ah]
 ·have hi:=(az.1 ho).1;rw[hσ i hi,aD hi,K9 hσ h1 o (aT ho)];exact ho
theorem Oe {pg:Pg} (hp:ki pg) {base base':dk} {f:Nat} {a:List V} {h X:Hp} {x:D} (hd:∀ {σ:Nat->Nat},(∀ i,i < h.length->σ i=i)->Mv σ h.length (h++X)->MK σ h.length (h++X) base base') (hh:cY pg base f a h x) (ha:br h.length a=true) (h1:fW h.length h=true):cY pg base' f a (h++X) x:=by
 obtain⟨σ,h2,h3,h4⟩:=Vq (X:=X) h1;have:=xy h3 hp (hd h2 h3) _ _ _ _ _ h4 hh;rw[pS h2 a ha]at this;exact this
end Go.Vm
namespace Go.Vm.Px
open Go.Vm.Lex (TokQ)
open Go.Vm.Pa hiding go
open Go.Vm.Ite
def QB (l:List TokQ) (s:PS) (b:Bool):Ob:= .box [.d (.sl (l.map jL)),.d (.int .i64 s.at_),.row 1 s.n,.d (.int .i64 s.deep),.d (.bool b)]
section
variable {fx:Nat->Option Obj} {F:Nat->Option dF} {l:List TokQ} {s s1:PS} {bb:Bool} {X:Hp}
theorem oA {f:Nat} {a:List V} {s':PS} {b':Bool} {r:V} (h:cv (b9 fx F0) f a [QB l s bb,PR s]=some (r,[QB l s' b',PR s'])) (ha:br 2 a=true) (hr:r.und 2=true):cv (b9 fx F) f a (QB l s bb::PR s::X)=some (r,QB l s' b'::PR s'::X):=by
 apply up;exact Fh (mv fx) h ha rfl rfl rfl hr
theorem eX (h:fb l s=true):cv (b9 fx F) k6 [.ptr 0 0] (QB l s bb::PR s::X)=some (.d (jL (now l s)),QB l s bb::PR s::X):=by
 refine oA ?_ rfl rfl;have hg:=RQ (jQ h);refine aY ?_
 repeat' (first|refine run ⟨?_⟩|refine eV hg ?_|fail)
 exact rfl
theorem eN (h:fb l s=true) {x:S} {b:Bool} (e:dj l s x=b):cv (b9 fx F) jE [.ptr 0 0,.d (.str x)] (QB l s bb::PR s::X)=some (.d (.bool b),QB l s bb::PR s::X):=by
 refine oA ?_ rfl rfl;refine aY ?_;subst e;cases c2:decide ((now l s).k=2)<;>cases c4:decide ((now l s).k=4)<;>unfold dj<;>rw[c2,c4]
 all_goals
  repeat' (first|refine run ⟨?_⟩|refine ca (eX h) ?_|fail)
  exact rfl
theorem vN (h:fb l s=true) {b:Bool} (e:decide ((now l s).k=1)=b):cv (b9 fx F) oy [.ptr 0 0] (QB l s bb::PR s::X)=some (.d (.bool b),QB l s bb::PR s::X):=by
 refine oA ?_ rfl rfl;refine aY ?_;subst e
 repeat' (first|refine run ⟨?_⟩|refine ca (eX h) ?_|fail)
 exact rfl
theorem oU (h:fb l s=true):cv (b9 fx F) ox [.ptr 0 0] (QB l s bb::PR s::X)=some (.d (jL (now l s)),QB l (dI s) bb::PR (dI s)::X):=by
 refine oA ?_ rfl rfl;refine aY ?_
 repeat' (first|refine run ⟨?_⟩|refine ca (eX h) ?_|fail)
 exact rfl
theorem uL (h:fb l s=true) {x:S} {b:Bool} (e:dj l s x=b):cv (b9 fx F) gJ [.ptr 0 0,.d (.str x)] (QB l s bb::PR s::X)=some (.d (.bool b),QB l (bif b then dI s else s) bb::PR (bif b then dI s else s)::X):=by
 refine oA ?_ rfl rfl;refine aY ?_;cases b with
 |true=>
  repeat' (first|refine run ⟨?_⟩|refine ca (eN h e) ?_|fail)
  exact rfl
 |false=>
  repeat' (first|refine run ⟨?_⟩|refine ca (eN h e) ?_|fail)
  exact rfl
theorem gL:cv (b9 fx F) nL [.ptr 0 0] (QB l s bb::PR s::X)=some (.tup [],QB l (down s) bb::PR (down s)::X):=by
 refine oA ?_ rfl rfl;refine aY ?_
 repeat' (first|refine run ⟨?_⟩|fail)
 exact rfl
theorem gj (h:fb l s=true):cv (b9 fx F) mB [.ptr 0 0] (QB l s bb::PR s::X)=some (.d (.bool (dj l s [105,102]||dj l s [109,97,116,99,104]||dj l s [123])),QB l s bb::PR s::X):=by
 refine oA ?_ rfl rfl;refine aY ?_;cases c1:dj l s [105,102]<;>cases c2:dj l s [109,97,116,99,104]<;>cases c3:dj l s [123]
 all_goals
  repeat' (first|refine run ⟨?_⟩|refine ca (eN h c1) ?_|refine ca (eN h c2) ?_|refine ca (eN h c3) ?_|fail)
  exact rfl
end
def pK (c f e:Int):D:= .agg [.int .i64 c,.int .i64 f,.int .i64 e]
abbrev oz:Nat:=66
def HI (p:Nat):dk:=fun f a H x=>f=66/\∃ (c:Int) (l:List TokQ) (s:PS) (b:Bool) (r:Nat),a=[.ptr p 0,.d (.int .i64 c)]/\p < r/\H[r]? =some (PR s)/\H[p]? =some (.box [.d (.sl (l.map jL)),.d (.int .i64 s.at_),.row r s.n,.d (.int .i64 s.deep),.d (.bool b)])/\fb l s=true/\x=pK c (now l s).f (now l s).e
theorem R5 {σ:Nat->Nat} {n:Nat} {HB:Hp} {p:Nat} (hm:Mv σ n HB):MK σ n HB (HI p) (HI (σ p)):=by
 rintro f a h x H R ⟨rfl,c,l,s,b,r,rfl,h4,h5,h1,h2,h3⟩;refine⟨rfl,c,l,s,b,σ r,rfl,hm.mono _ _ h4,?_,?_,h2,h3⟩
 ·rw[R.get? hm,h5];rfl
 ·rw[R.get? hm,h1];rfl
section
variable {fx:Nat->Option Obj} {F:Nat->Option dF} {l:List TokQ} {s s1:PS} {bb:Bool} {X:Hp} {base:Nat->dk}
structure m5 (base:Nat->dk):Prop where
 sh:∀ {σ:Nat->Nat} {n:Nat} {HB:Hp} {p:Nat},Mv σ n HB->MK σ n HB (base p) (base (σ p))
 fail:∀ p f a H x,HI p f a H x->base p f a H x
theorem Dp (hF:ki (b9 fx F)) (hb:m5 base) {f:Nat} {a:List V} {x:D} (h:cY (b9 fx F) (base 0) f a [QB l s bb,PR s] x) (ha:br 2 a=true):cY (b9 fx F) (base 0) f a (QB l s bb::PR s::X) x:=by
 refine Oe (h:=[QB l s bb,PR s]) hF (fun{σ} h1 h2=>?_) h ha rfl;have:=hb.sh (p:=0) h2;rw[h1 0 (by simp)]at this;exact this
theorem Bl (hF:ki (b9 fx F)) (hb:m5 base) (h:fb l s=true) (c:Int):cY (b9 fx F) (base 0) oz [.ptr 0 0,.d (.int .i64 c)] (QB l s bb::PR s::X) (pK c (now l s).f (now l s).e):=
 Bw (hb.fail _ _ _ _ _ ⟨rfl,c,l,s,bb,1,rfl,Nat.lt_succ_self 0,rfl,rfl,h,rfl⟩)
theorem OZ (hF:ki (b9 fx F)) (hb:m5 base) (h:fb l s=true) {x:S} {b:Bool} (e:dj l s x=b):(b=true->cv (b9 fx F) ko [.ptr 0 0,.d (.str x)] (QB l s bb::PR s::X)=some (.d (jL (now l s)),QB l (dI s) bb::PR (dI s)::X))/\
 (b=false->cY (b9 fx F) (base 0) ko [.ptr 0 0,.d (.str x)] (QB l s bb::PR s::X) (pK 120 (now l s).f (now l s).e)):=by
 refine⟨fun hbt=>?_,fun hbf=>?_⟩
 ·subst hbt;refine oA ?_ rfl rfl;refine aY ?_
  repeat' (first|refine run ⟨?_⟩|refine ca (eN h e) ?_|refine ca (oU h) ?_|fail)
  exact rfl
 ·subst hbf;refine Dp hF hb ?_ rfl;refine DT ?_
  repeat' (first|refine dA ⟨?_⟩|refine nk (eN h e) ?_|refine Oh (Bl hF hb h _) ?_|fail)
  exact rfl
theorem qV (hF:ki (b9 fx F)) (hb:m5 base) (h:fb l s=true) {b:Bool} (e:decide ((now l s).k=1)=b):(b=true->cv (b9 fx F) iB [.ptr 0 0] (QB l s bb::PR s::X)=some (.d (jL (now l s)),QB l (dI s) bb::PR (dI s)::X))/\
 (b=false->cY (b9 fx F) (base 0) iB [.ptr 0 0] (QB l s bb::PR s::X) (pK 120 (now l s).f (now l s).e)):=by
 refine⟨fun hbt=>?_,fun hbf=>?_⟩
 ·subst hbt;refine oA ?_ rfl rfl;refine aY ?_
  repeat' (first|refine run ⟨?_⟩|refine ca (vN h e) ?_|refine ca (oU h) ?_|fail)
  exact rfl
 ·subst hbf;refine Dp hF hb ?_ rfl;refine DT ?_
  repeat' (first|refine dA ⟨?_⟩|refine nk (vN h e) ?_|refine Oh (Bl hF hb h _) ?_|fail)
  exact rfl
end
def su (i f e:Int):D:= .agg [.int .i64 i,.int .i64 f,.int .i64 e]
def tD (n:N) (f e:Int) (s:PS):PS:={s with n:=s.n+1,ns:=s.ns++[n.D f e]}
section
variable {fx:Nat->Option Obj} {F:Nat->Option dF} {l:List TokQ} {s s1:PS} {bb:Bool} {X:Hp}
theorem xN (hn:s.ns.length=s.n) (hr:s.n < 1000000) (n:N) (f0 e0 f e:Int):cv (b9 fx F) jR [.ptr 0 0,.d (n.D f0 e0),.d (.int .i64 f),.d (.int .i64 e)] (QB l s bb::PR s::X)=some (.d (su (w (((s.n+1:Nat):Int) - 1)) f e),QB l (tD n f e s) bb::PR (tD n f e s)::X):=by
 refine oA ?_ rfl rfl;have hroom:roomy (s.n+1) 72:=by unfold roomy;omega
 refine aY ?_
 repeat' (first|refine a5l ⟨?_⟩|refine Ek 8 (by decide) (by decide) ?_|refine ao ⟨rfl,by decide⟩ ?_|refine ao ⟨rfl,hn,hroom⟩ ?_|fail)
 exact rfl
theorem Ml (h:okF l (w (s.at_ - 1))=true):cv (b9 fx F) vQ [.ptr 0 0] (QB l s bb::PR s::X)=some (.d (.int .i64 ((l.getD (w (s.at_ - 1)).toNat default).e:Int)),QB l s bb::PR s::X):=by
 refine oA ?_ rfl rfl;have hg:=RQ (a6v h);refine aY ?_
 repeat' (first|refine run ⟨?_⟩|refine eV hg ?_|fail)
 exact rfl
theorem W9 (h:okF l (w (s.at_ - 1))=true) (hn:s.ns.length=s.n) (hr:s.n < 1000000) (n:N) (f0 e0 f:Int):cv (b9 fx F) k9 [.ptr 0 0,.d (n.D f0 e0),.d (.int .i64 f)] (QB l s bb::PR s::X)=some (.d (su (w (((s.n+1:Nat):Int) - 1)) f (l.getD (w (s.at_ - 1)).toNat default).e),QB l (tD n f (l.getD (w (s.at_ - 1)).toNat default).e s) bb::PR (tD n f (l.getD (w (s.at_ - 1)).toNat default).e s)::X):=by
 refine oA ?_ rfl rfl;refine aY ?_
 repeat' (first|refine a5l ⟨?_⟩|refine Qh ?_|refine ca (Ml h) ?_|refine ca (xN hn hr n f0 e0 f _) ?_|fail)
 exact rfl
end
section
variable {fx:Nat->Option Obj} {F:Nat->Option dF} {l:List TokQ} {s s1:PS} {bb:Bool} {X:Hp} {base:Nat->dk}
theorem mb (hd:decide (100<=s.deep)=false):cv (b9 fx F) gK [.ptr 0 0,.d (.bool true)] (QB l s bb::PR s::X)=some (.tup [],QB l (jf s) bb::PR (jf s)::X):=by
 refine oA ?_ rfl rfl;refine aY ?_
 repeat' (first|refine run ⟨?_⟩|refine bz hd ?_|fail)
 exact rfl
theorem Sj (hF:ki (b9 fx F)) (hb:m5 base) (h:fb l s=true):cY (b9 fx F) (base 0) gK [.ptr 0 0,.d (.bool false)] (QB l s bb::PR s::X) (pK 120 (now l s).f (now l s).e):=by
 refine Dp hF hb ?_ rfl;refine DT ?_
 repeat' (first|refine dA ⟨?_⟩|refine Oh (Bl hF hb h _) ?_|fail)
 exact rfl
theorem Kd (hF:ki (b9 fx F)) (hb:m5 base) (h:fb l s=true) (hd:decide (100<=s.deep)=true):cY (b9 fx F) (base 0) gK [.ptr 0 0,.d (.bool true)] (QB l s bb::PR s::X) (pK 121 (now l s).f (now l s).e):=by
 refine Dp hF hb ?_ rfl;refine DT ?_
 repeat' (first|refine dA ⟨?_⟩|refine ej hd ?_|refine Oh (Bl hF hb h _) ?_|fail)
 exact rfl
theorem D8 (h:fb l s=true):cv (b9 fx F) pH [.ptr 0 0] (QB l s bb::PR s::X)=some (.d (.bool (dP l 116 s)),QB l s bb::PR s::X):=by
 refine oA ?_ rfl rfl;refine aY ?_;have hB:dP l 116 s=(decide ((now l s).k=1)||(dj l s [105,54,52]||(dj l s [98,111,111,108]||(dj l s [40]||(dj l s [38]||dj l s [66,111,120]))))):=by
  simp[dP,anyS,D0]
 rw[hB];cases c0:decide ((now l s).k=1)with
 |true=>
  repeat' (first|refine run ⟨?_⟩|refine ca (vN h c0) ?_|fail)
  exact rfl
 |false=>
  cases c1:dj l s [105,54,52] with
  |true=>
   repeat' (first|refine run ⟨?_⟩|refine ca (vN h c0) ?_|refine ca (eN h c1) ?_|fail)
   exact rfl
  |false=>
   cases c2:dj l s [98,111,111,108]<;>cases c3:dj l s [40]<;>cases c4:dj l s [38]<;>cases c5:dj l s [66,111,120]
   all_goals
    repeat' (first|refine run ⟨?_⟩|refine ca (vN h c0) ?_|refine ca (eN h c1) ?_|refine ca (eN h c2) ?_|refine ca (eN h c3) ?_|refine ca (eN h c4) ?_|refine ca (eN h c5) ?_|fail)
    exact rfl
end
def Gi (t:TokQ):Int:=bif !decide (t.k=4) then 0 else bif decide (t.t=[124,124]) then 1 else bif decide (t.t=[38,38]) then 2 else bif decide (t.t=[60]) then 3 else bif decide (t.t=[60,61]) then 3 else bif decide (t.t=[62]) then 3 else bif decide (t.t=[62,61]) then 3 else bif decide (t.t=[61,61]) then 3 else bif decide (t.t=[33,61]) then 3 else bif decide (t.t=[43]) then 4 else bif decide (t.t=[45]) then 4 else bif decide (t.t=[42]) then 5 else bif decide (t.t=[47]) then 5 else bif decide (t.t=[37]) then 5 else 0
section
variable {fx:Nat->Option Obj} {F:Nat->Option dF} {l:List TokQ} {s s1:PS} {bb:Bool} {X:Hp}
theorem qh (h:fb l s=true):cv (b9 fx F) vg [.ptr 0 0] (QB l s bb::PR s::X)=some (.d (.int .i64 (Gi (now l s))),QB l s bb::PR s::X):=by
 refine oA ?_ rfl rfl;refine aY ?_;have e:= @eX fx F0 l s bb;unfold Gi;cases c0:decide ((now l s).k=4)with
 |false=>
  repeat' (first|refine run ⟨?_⟩|refine ca (eX h) ?_|refine ej (by rw[c0];rfl) ?_|fail)
  exact rfl
 |true=>
  cases c1:decide ((now l s).t=[124,124])with
  |true=>
   repeat' (first|refine run ⟨?_⟩|refine ca (eX h) ?_|refine bz (by rw[c0];rfl) ?_|fail)
   exact rfl
  |false=>
   cases c2:decide ((now l s).t=[38,38])with
   |true=>
    repeat' (first|refine run ⟨?_⟩|refine ca (eX h) ?_|refine bz (by rw[c0];rfl) ?_|fail)
    exact rfl
   |false=>
    cases c3:decide ((now l s).t=[60])with
    |true=>
     repeat' (first|refine run ⟨?_⟩|refine ca (eX h) ?_|refine bz (by rw[c0];rfl) ?_|fail)
     exact rfl
    |false=>
     cases c4:decide ((now l s).t=[60,61])with
     |true=>
      repeat' (first|refine run ⟨?_⟩|refine ca (eX h) ?_|refine bz (by rw[c0];rfl) ?_|fail)
      exact rfl
     |false=>
      cases c5:decide ((now l s).t=[62])with
      |true=>
       repeat' (first|refine run ⟨?_⟩|refine ca (eX h) ?_|refine bz (by rw[c0];rfl) ?_|fail)
       exact rfl
      |false=>
       cases c6:decide ((now l s).t=[62,61])with
       |true=>
        repeat' (first|refine run ⟨?_⟩|refine ca (eX h) ?_|refine bz (by rw[c0];rfl) ?_|fail)
        exact rfl
       |false=>
        cases c7:decide ((now l s).t=[61,61])with
        |true=>
         repeat' (first|refine run ⟨?_⟩|refine ca (eX h) ?_|refine bz (by rw[c0];rfl) ?_|fail)
         exact rfl
        |false=>
         cases c8:decide ((now l s).t=[33,61])with
         |true=>
          repeat' (first|refine run ⟨?_⟩|refine ca (eX h) ?_|refine bz (by rw[c0];rfl) ?_|fail)
          exact rfl
         |false=>
          cases c9:decide ((now l s).t=[43])with
          |true=>
           repeat' (first|refine run ⟨?_⟩|refine ca (eX h) ?_|refine bz (by rw[c0];rfl) ?_|fail)
           exact rfl
          |false=>
           cases c10:decide ((now l s).t=[45])with
           |true=>
            repeat' (first|refine run ⟨?_⟩|refine ca (eX h) ?_|refine bz (by rw[c0];rfl) ?_|fail)
            exact rfl
           |false=>
            cases c11:decide ((now l s).t=[42])with
            |true=>
             repeat' (first|refine run ⟨?_⟩|refine ca (eX h) ?_|refine bz (by rw[c0];rfl) ?_|fail)
             exact rfl
            |false=>
             cases c12:decide ((now l s).t=[47])with
             |true=>
              repeat' (first|refine run ⟨?_⟩|refine ca (eX h) ?_|refine bz (by rw[c0];rfl) ?_|fail)
              exact rfl
             |false=>
              cases c13:decide ((now l s).t=[37])with
              |true=>
               repeat' (first|refine run ⟨?_⟩|refine ca (eX h) ?_|refine bz (by rw[c0];rfl) ?_|fail)
               exact rfl
              |false=>
               repeat' (first|refine run ⟨?_⟩|refine ca (eX h) ?_|refine bz (by rw[c0];rfl) ?_|fail)
               exact rfl
end
section
variable (l:List TokQ) (s:PS)
def FF:Bool:=dj l s [105,102]||dj l s [109,97,116,99,104]||dj l s [123]
def zw:Bool:=bif decide ((now l s).k=1) then true else bif decide ((now l s).k=3) then true else bif decide ((now l s).k=2) then(dj l s [116,114,117,101]||dj l s [102,97,108,115,101]||dj l s [66,111,120]||FF l s) else bif decide ((now l s).k=4) then(dj l s [40]||dj l s [45]||dj l s [33]||dj l s [42]||dj l s [38]||FF l s) else false
end
section
variable {fx:Nat->Option Obj} {F:Nat->Option dF} {l:List TokQ} {s s1:PS} {bb:Bool} {X:Hp}
theorem Gf (h:fb l s=true):cv (b9 fx F) sF [.ptr 0 0] (QB l s bb::PR s::X)=some (.d (.bool (zw l s)),QB l s bb::PR s::X):=by
 refine oA ?_ rfl rfl;refine aY ?_;unfold zw;cases c0:decide ((now l s).k=1)with
 |true=>
  repeat' (first|refine run ⟨?_⟩|refine ca (eX h) ?_|refine ca (gj h) ?_|fail)
  exact rfl
 |false=>
  cases c1:decide ((now l s).k=3)with
  |true=>
   repeat' (first|refine run ⟨?_⟩|refine ca (eX h) ?_|refine ca (gj h) ?_|fail)
   exact rfl
  |false=>
   cases c2:decide ((now l s).k=2)with
   |true=>
    cases d1:dj l s [116,114,117,101] with
    |true=>
     repeat' (first|refine run ⟨?_⟩|refine ca (eX h) ?_|refine ca (gj h) ?_|refine ca (eN h d1) ?_|fail)
     exact rfl
    |false=>
     cases d2:dj l s [102,97,108,115,101] with
     |true=>
      repeat' (first|refine run ⟨?_⟩|refine ca (eX h) ?_|refine ca (gj h) ?_|refine ca (eN h d1) ?_|refine ca (eN h d2) ?_|fail)
      exact rfl
     |false=>
      cases d3:dj l s [66,111,120] with
      |true=>
       repeat' (first|refine run ⟨?_⟩|refine ca (eX h) ?_|refine ca (gj h) ?_|refine ca (eN h d1) ?_|refine ca (eN h d2) ?_|refine ca (eN h d3) ?_|fail)
       exact rfl
      |false=>
       repeat' (first|refine run ⟨?_⟩|refine ca (eX h) ?_|refine ca (gj h) ?_|refine ca (eN h d1) ?_|refine ca (eN h d2) ?_|refine ca (eN h d3) ?_|fail)
       exact rfl
   |false=>
    cases c3:decide ((now l s).k=4)with
    |true=>
     cases d1:dj l s [40] with
     |true=>
      repeat' (first|refine run ⟨?_⟩|refine ca (eX h) ?_|refine ca (gj h) ?_|refine ca (eN h d1) ?_|fail)
      exact rfl
     |false=>
      cases d2:dj l s [45] with
      |true=>
       repeat' (first|refine run ⟨?_⟩|refine ca (eX h) ?_|refine ca (gj h) ?_|refine ca (eN h d1) ?_|refine ca (eN h d2) ?_|fail)
       exact rfl
      |false=>
       cases d3:dj l s [33] with
       |true=>
        repeat' (first|refine run ⟨?_⟩|refine ca (eX h) ?_|refine ca (gj h) ?_|refine ca (eN h d1) ?_|refine ca (eN h d2) ?_|refine ca (eN h d3) ?_|fail)
        exact rfl
       |false=>
        cases d4:dj l s [42] with
        |true=>
         repeat' (first|refine run ⟨?_⟩|refine ca (eX h) ?_|refine ca (gj h) ?_|refine ca (eN h d1) ?_|refine ca (eN h d2) ?_|refine ca (eN h d3) ?_|refine ca (eN h d4) ?_|fail)
         exact rfl
        |false=>
         cases d5:dj l s [38] with
         |true=>
          repeat' (first|refine run ⟨?_⟩|refine ca (eX h) ?_|refine ca (gj h) ?_|refine ca (eN h d1) ?_|refine ca (eN h d2) ?_|refine ca (eN h d3) ?_|refine ca (eN h d4) ?_|refine ca (eN h d5) ?_|fail)
          exact rfl
         |false=>
          repeat' (first|refine run ⟨?_⟩|refine ca (eX h) ?_|refine ca (gj h) ?_|refine ca (eN h d1) ?_|refine ca (eN h d2) ?_|refine ca (eN h d3) ?_|refine ca (eN h d4) ?_|refine ca (eN h d5) ?_|fail)
          exact rfl
    |false=>
     repeat' (first|refine run ⟨?_⟩|refine ca (eX h) ?_|refine ca (gj h) ?_|fail)
     exact rfl
end
def Says (pg:Pg) (base:dk) (f:Nat) (a:List V) (H:Hp) (o:Option EX) (k:R->PS->V×Hp):Prop:=match o with
 |some (.ok r s)=>cv pg f a H=some (k r s)
 |some (.bad c f' e)=>cY pg base f a H (pK c f' e)
 |none=>True
section
variable {pg:Pg} {base:dk} {f:Nat} {a:List V} {H:Hp} {o:Option EX} {k:R->PS->V×Hp}
theorem T6 {vf:kK} (ht:pg.my f=some (.code vf)) (hn:a.length=vf.np) (hk:vf.keep=false) (hu:br 0 a=false)
 (h:o≠none->kA 0 a fun e=>WX pg (cY pg base) H.length vf.body [] e H (wL vf.res H.length fun v H'=> ∃ r s,o=some (.ok r s)/\k r s=(v,H'.take H.length)) fun x=> ∃ c f e,o=some (.bad c f e)/\x=pK c f e):Says pg base f a H o k:=by
 cases o with
 |none=>trivial
 |some y=>
  rcases Xi (R:=fun v H2=> ∃ r s,some y=some (EX.ok r s)/\k r s=(v,H2)) ht hn hk hu (h (by simp))with⟨r,H2,h1,r',s',h2,h3⟩|⟨x,h1,c,f',e,h2,h3⟩
  ·cases h2;show cv pg f a H=some (k r' s');rw[h1,h3]
  ·cases h2;subst h3;exact h1
end
end Go.Vm.Px
namespace Go.Vm.Pa
open Go.Vm.Lex (TokQ)
section
variable {l:List TokQ}
theorem sw {s:PS} (h:fb l s=true):0<=s.at_/\s.at_ < l.length:=by simpa [fb] using h
theorem C3 {g g':Q->PS->Option EX} (h:∀ q s y,g q s=some y->g' q s=some y):∀ (p:Pr) (s:PS) (y:EX),aF l g p s=some y->aF l g' p s=some y:=by
 intro p;induction p with
 |ret r=>intro s y e;exact e
 |dead=>intro s y e;exact e
 |take x k ih=>
  intro s y e;simp only[aF]at e⊢;cases c:dj l s x<;>rw[c]at e<;>exact ih _ _ _ e
 |need x k ih=>
  intro s y e;simp only[aF]at e⊢;cases c:dj l s x<;>rw[c]at e
  ·exact e
  ·exact ih _ _ e
 |name k ih=>
  intro s y e;simp only[aF]at e⊢;cases c:decide ((now l s).k=1)<;>rw[c]at e
  ·exact e
  ·exact ih _ _ _ e
 |is x k ih=>intro s y e;exact ih _ _ _ e
 |ok k ih=>intro s y e;exact ih _ _ _ e
 |kind c k ih=>intro s y e;exact ih _ _ _ e
 |text c k ih=>intro s y e;exact ih _ _ _ e
 |val k ih=>intro s y e;exact ih _ _ _ e
 |sign c k ih=>intro s y e;exact ih _ _ _ e
 |into c k ih=>
  intro s y e;simp only[aF]at e⊢;cases c1:dP l c s<;>rw[c1]at e
  ·exact e
  ·cases c2:decide (100<=s.deep)<;>rw[c2]at e
   ·exact ih _ _ _ e
   ·exact e
 |down k ih=>intro s y e;exact ih _ _ e
 |dI k ih=>
  intro s y e;simp only[aF]at e⊢;cases c:fb l (dI s)<;>rw[c]at e
  ·exact e
  ·exact ih _ _ e
 |node fr n k ih=>
  intro s y e;simp only[aF]at e⊢;cases c:fA l fr n s with
  |none=>rw[c]at e;cases e
  |some p=>rw[c]at e;exact ih _ _ _ e
 |unit k ih=>
  intro s y e;simp only[aF]at e⊢;cases c:ly l s with
  |none=>rw[c]at e;cases e
  |some p=>rw[c]at e;exact ih _ _ _ e
 |fail k ih=>intro s y e;exact e
 |pos k ih=>intro s y e;exact ih _ _ _ e
 |call q k ih=>
  intro s y e;simp only[aF]at e⊢;cases c:g q s with
  |none=>rw[c]at e;cases e
  |some z=>
   rw[h _ _ _ c];rw[c]at e;cases z with
   |bad _ _ _=>exact e
   |ok r s1=>
    simp only at e⊢;cases c2:fb l s1<;>rw[c2]at e
    ·exact e
    ·exact ih _ _ _ e
 |tail q=>intro s y e;exact h _ _ _ e
theorem Bk:∀ (n:Nat) (q:Q) (s:PS) (y:EX),cM l n q s=some y->cM l (n+1) q s=some y
 |0,_,_,_,h=>by cases h
 |n+1,q,s,y,h=>C3 (Bk n) _ _ _ h
theorem kO {n m:Nat} (hm:n<=m) {q:Q} {s:PS} {y:EX} (h:cM l n q s=some y):cM l m q s=some y:=by
 obtain⟨d,rfl⟩:=Nat.exists_eq_add_of_le hm;clear hm;induction d with
 |zero=>exact h
 |succ d ih=>exact Bk _ _ _ _ ih
def cj:Pr->(R->Pr)->Pr
 | .ret r,k=>k r
 | .dead,_=> .dead
 | .take x f,k=> .take x fun b=>cj (f b) k
 | .need x f,k=> .need x (cj f k)
 | .name f,k=> .name fun b=>cj (f b) k
 | .is x f,k=> .is x fun b=>cj (f b) k
 | .ok f,k=> .ok fun b=>cj (f b) k
 | .kind x f,k=> .kind x fun b=>cj (f b) k
 | .text x f,k=> .text x fun b=>cj (f b) k
 | .val f,k=> .val fun b=>cj (f b) k
 | .sign x f,k=> .sign x fun b=>cj (f b) k
 | .into x f,k=> .into x fun b=>cj (f b) k
 | .down f,k=> .down (cj f k)
 | .dI f,k=> .dI (cj f k)
 | .node fr n f,k=> .node fr n fun b=>cj (f b) k
 | .unit f,k=> .unit fun b=>cj (f b) k
 | .fail f,k=> .fail (cj f k)
 | .pos f,k=> .pos fun b=>cj (f b) k
 | .call q f,k=> .call q fun b=>cj (f b) k
 | .tail q,k=> .call q k
def Ps (l:List TokQ) (g:Q->PS->Option EX) (k:R->Pr):Option EX->Option EX
 |some (.ok r s1)=>(match fb l s1 with|true=>aF l g (k r) s1|false=>none)
 |x=>x
theorem M9 {g:Q->PS->Option EX} {k:R->Pr}:∀ (p:Pr) (s:PS) (y:EX),Ps l g k (aF l g p s)=some y->aF l g (cj p k) s=some y:=by
 intro p;induction p with
 |ret r=>
  intro s y e;simp only[aF,Ps]at e;cases c:fb l s<;>rw[c]at e
  ·cases e
  ·exact e
 |dead=>intro s y e;exact e
 |take x k ih=>
  intro s y e;simp only[aF,cj]at e⊢;cases c:dj l s x<;>rw[c]at e<;>exact ih _ _ _ e
 |need x k ih=>
  intro s y e;simp only[aF,cj]at e⊢;cases c:dj l s x<;>rw[c]at e
  ·exact e
  ·exact ih _ _ e
 |name k ih=>
  intro s y e;simp only[aF,cj]at e⊢;cases c:decide ((now l s).k=1)<;>rw[c]at e
  ·exact e
  ·exact ih _ _ _ e
 |is x k ih=>intro s y e;exact ih _ _ _ e
 |ok k ih=>intro s y e;exact ih _ _ _ e
 |kind c k ih=>intro s y e;exact ih _ _ _ e
 |text c k ih=>intro s y e;exact ih _ _ _ e
 |val k ih=>intro s y e;exact ih _ _ _ e
 |sign c k ih=>intro s y e;exact ih _ _ _ e
 |into c k ih=>
  intro s y e;simp only[aF,cj]at e⊢;cases c1:dP l c s<;>rw[c1]at e
  ·exact e
  ·cases c2:decide (100<=s.deep)<;>rw[c2]at e
   ·exact ih _ _ _ e
   ·exact e
 |down k ih=>intro s y e;exact ih _ _ e
 |dI k ih=>
  intro s y e;simp only[aF,cj]at e⊢;cases c:fb l (dI s)<;>rw[c]at e
  ·exact e
  ·exact ih _ _ e
 |node fr n k ih=>
  intro s y e;simp only[aF,cj]at e⊢;cases c:fA l fr n s with
  |none=>rw[c]at e;cases e
  |some p=>rw[c]at e;exact ih _ _ _ e
 |unit k ih=>
  intro s y e;simp only[aF,cj]at e⊢;cases c:ly l s with
  |none=>rw[c]at e;cases e
  |some p=>rw[c]at e;exact ih _ _ _ e
 |fail k ih=>intro s y e;exact e
 |pos k ih=>intro s y e;exact ih _ _ _ e
 |call q k ih=>
  intro s y e;simp only[aF,cj]at e⊢;cases c:g q s with
  |none=>rw[c]at e;cases e
  |some z=>
   rw[c]at e;cases z with
   |bad _ _ _=>exact e
   |ok r s1=>
    simp only at e⊢;cases c2:fb l s1<;>rw[c2]at e
    ·cases e
    ·exact ih _ _ _ e
 |tail q=>
  intro s y e;simp only[aF,cj]at e⊢;cases c:g q s with
  |none=>rw[c]at e;cases e
  |some z=>rw[c]at e;cases z<;>exact e
theorem KC {g:Q->PS->Option EX} {k:R->Pr} {y:EX}:∀ (p:Pr) (s:PS),aF l g (cj p k) s=some y->(∃ c f e,aF l g p s=some (.bad c f e)/\y= .bad c f e)\/∃ r s1,aF l g p s=some (.ok r s1)/\aF l g (k r) s1=some y:=by
 intro p;induction p with
 |ret r=>intro s h;exact .inr ⟨_,_,rfl,h⟩
 |dead=>intro s h;cases h
 |take x k ih=>
  intro s h;simp only[aF,cj]at h⊢;cases c:dj l s x<;>rw[c]at h<;>exact ih _ _ h
 |need x k ih=>
  intro s h;simp only[aF,cj]at h⊢;cases c:dj l s x<;>rw[c]at h
  ·exact .inl ⟨_,_,_,rfl,(Option.some.inj h).symm⟩
  ·exact ih _ h
 |name k ih=>
  intro s h;simp only[aF,cj]at h⊢;cases c:decide ((now l s).k=1)<;>rw[c]at h
  ·exact .inl ⟨_,_,_,rfl,(Option.some.inj h).symm⟩
  ·exact ih _ _ h
 |is x k ih=>intro s h;exact ih _ _ h
 |ok k ih=>intro s h;exact ih _ _ h
 |kind c k ih=>intro s h;exact ih _ _ h
 |text c k ih=>intro s h;exact ih _ _ h
 |val k ih=>intro s h;exact ih _ _ h
 |sign c k ih=>intro s h;exact ih _ _ h
 |into c k ih=>
  intro s h;simp only[aF,cj]at h⊢;cases c1:dP l c s<;>rw[c1]at h
  ·exact .inl ⟨_,_,_,rfl,(Option.some.inj h).symm⟩
  ·cases c2:decide (100<=s.deep)<;>rw[c2]at h
   ·exact ih _ _ h
   ·exact .inl ⟨_,_,_,rfl,(Option.some.inj h).symm⟩
 |down k ih=>intro s h;exact ih _ h
 |dI k ih=>
  intro s h;simp only[aF,cj]at h⊢;cases c:fb l (dI s)<;>rw[c]at h
  ·cases h
  ·exact ih _ h
 |node fr n k ih=>
  intro s h;simp only[aF,cj]at h⊢;cases c:fA l fr n s with
  |none=>rw[c]at h;cases h
  |some p=>rw[c]at h;exact ih _ _ h
 |unit k ih=>
  intro s h;simp only[aF,cj]at h⊢;cases c:ly l s with
  |none=>rw[c]at h;cases h
  |some p=>rw[c]at h;exact ih _ _ h
 |fail k ih=>intro s h;exact .inl ⟨_,_,_,rfl,(Option.some.inj h).symm⟩
 |pos k ih=>intro s h;exact ih _ _ h
 |call q k ih=>
  intro s h;simp only[aF,cj]at h⊢;cases c:g q s with
  |none=>rw[c]at h;cases h
  |some z=>
   rw[c]at h;cases z with
   |bad _ _ _=>exact .inl ⟨_,_,_,rfl,(Option.some.inj h).symm⟩
   |ok r s1=>
    simp only at h⊢;cases c2:fb l s1<;>rw[c2]at h
    ·cases h
    ·exact ih _ _ h
 |tail q=>
  intro s h;simp only[aF,cj]at h⊢;cases c:g q s with
  |none=>rw[c]at h;cases h
  |some z=>
   rw[c]at h;cases z with
   |bad _ _ _=>exact .inl ⟨_,_,_,rfl,(Option.some.inj h).symm⟩
   |ok r s1=>
    simp only at h;split at h
    ·exact .inr ⟨_,_,rfl,h⟩
    ·cases h
theorem VJ {n:Nat} {q:Q} {k:R->Pr} {s:PS} {y:EX} (h:aF l (cM l n) (.call q k) s=some y):aF l (cM l n) (cj (prog q) k) s=some y:=by
 apply M9;have e:aF l (cM l n) (.call q k) s=Ps l (cM l n) k (cM l n q s):=by
  simp only[aF];cases c:cM l n q s with
  |none=>rfl
  |some z=>cases z<;>rfl
 rw[e]at h;cases c:cM l n q s with
 |none=>rw[c]at h;cases h
 |some z=>rw[c]at h;rw[show aF l (cM l n) (prog q) s=some z from Bk _ _ _ _ c];exact h
def Ca (e:Q->Bool):Pr->Prop
 | .ret _=>False
 | .dead=>True
 | .take _ k=>Ca e (k false)
 | .need _ _=>True
 | .name _=>True
 | .is _ k=> ∀ b,Ca e (k b)
 | .ok k=>Ca e (k true)
 | .kind _ k=> ∀ b,Ca e (k b)
 | .text _ k=> ∀ b,Ca e (k b)
 | .val k=> ∀ v,Ca e (k v)
 | .sign _ k=> ∀ g,Ca e (k g)
 | .into _ k=>Ca e (k true)
 | .down k=>Ca e k
 | .dI _=>True
 | .node _ _ k=> ∀ i,Ca e (k i)
 | .unit k=> ∀ i,Ca e (k i)
 | .fail _=>True
 | .pos k=> ∀ p,Ca e (k p)
 | .call q k=>e q=true\/∀ r,Ca e (k r)
 | .tail q=>e q=true
def eats:Q->Bool
 | .params _ _| .fields _ _| .items _| .stmts _| .arms _| .rows _ _ _ _| .gets _ _| .args _| .inits _=>false
 |_=>true
theorem Sn:∀ q,eats q=true->Ca eats (prog q):=by
 intro q h;cases q<;>first|(cases h;done)|skip
 case row r bare=>
  have e:∀ b:Bool,Ca eats (match b with
    |true=>Pr.call (Q.prefix_ bare) Pr.ret
    |false=>Pr.pos fun p=>Pr.call (Q.row (w (r+1)) bare) fun a=>Pr.call (Q.rows r bare p a.i) fun a=>Pr.ret (rI a.i)):=by
    intro b;cases b<;>simp[Ca,eats]
  exact e _
 case named fr bare=>
  simp[prog,Ca]
 all_goals simp[prog,Ca,eats,xD,QP,newP,kN,endP,guard]
def C2:List S:=[[40],[45],[33],[42],[38],[124,124],[38,38],[60],[60,61],[62],[62,61],[61,61],[33,61],[43],[47],[37]]
structure vj (l:List TokQ):Prop where
 len:l.length<=1000000
 txt:∀ i,(l.getD i default).t.length<=1000000
 last:∀ i,i < l.length->(l.getD i default).k≠5->i+1 < l.length
 nm:∀ i,(l.getD i default).k=1->(l.getD i default).t∉D0
 wd:∀ i,(l.getD i default).k=2->(l.getD i default).t∉C2
 sg:∀ i,(l.getD i default).k=4->(l.getD i default).t∉ [[116,114,117,101],[102,97,108,115,101],[66,111,120]]
theorem jZ {s:PS} (hl:vj l) (h:fb l s=true) (hk:(now l s).k≠5):fb l (dI s)=true:=by
 have hr:=sw h;have:=hl.last s.at_.toNat om hk;have hlen:=hl.len;have hw:(dI s).at_=s.at_+1:=eK (n:=s.at_+1) om;unfold fb;rw[hw];simp only[ab,an];omega
theorem L7 {s:PS} {x:S} (h:dj l s x=true):(now l s).k=2\/(now l s).k=4:=by
 unfold dj at h;simp only[ab,bg,an]at h;exact h.1
theorem Be {s:PS} {x:S} (h:dj l s x=true):(now l s).t=x:=by
 unfold dj at h;simp only[ab,bg,an]at h;exact h.2
theorem nT {s:PS} {x:S} (h:dj l s x=true):(now l s).k≠5:=by have:=L7 h;omega
theorem KI {s:PS} (hl:vj l) (h:fb l s=true):(dI s).at_=s.at_+1:=by
 have hr:=sw h;have hlen:=hl.len;exact eK (n:=s.at_+1) om
theorem QQ {s:PS} (h0:0<=s.at_) (h:(now l s).k≠0):s.at_ < l.length:=by
 by_cases c:s.at_ < l.length
 ·exact c
 ·have:now l s=default:=by
   unfold now;rw[av,bM om];rfl
  rw[this]at h;exact absurd rfl h
theorem Tf {s:PS} (hl:vj l) (h0:0<=s.at_) (h:s.at_<=l.length):(dI s).at_=s.at_+1:=by
 have hlen:=hl.len;exact eK (n:=s.at_+1) om
def mw (s s':PS):Prop:=s'.bc=s.bc/\s'.bf=s.bf/\s'.be=s.be
def Zf (s:PS):Prop:=s.bc=0/\s.bf=0/\s.be=0
theorem mw.rfl' {s:PS}:mw s s:=⟨rfl,rfl,rfl⟩
theorem mw.trans {s s1 s2:PS} (h:mw s s1) (h':mw s1 s2):mw s s2:=⟨h'.1.trans h.1,h'.2.1.trans h.2.1,h'.2.2.trans h.2.2⟩
theorem mw.zf {s s1:PS} (h:mw s s1) (hz:Zf s):Zf s1:=⟨h.1.trans hz.1,h.2.1.trans hz.2.1,h.2.2.trans hz.2.2⟩
theorem UJ {fr:Int} {m:N} {i:Int} {s s1:PS} (e:fA l fr m s=some (i,s1)):s1.at_=s.at_/\mw s s1:=by
 unfold fA at e;split at e
 ·cases e;exact⟨rfl,mw.rfl'⟩
 ·cases e
theorem TK {i:Int} {s s1:PS} (e:ly l s=some (i,s1)):s1.at_=s.at_/\mw s s1:=by
 unfold ly at e;split at e
 ·cases e;exact⟨rfl,mw.rfl'⟩
 ·cases e
structure Xb (l:List TokQ) (s s':PS):Prop where
 le:s.at_<=s'.at_
 len:s'.at_<=l.length
 bc:mw s s'
 ok:fb l s=true->fb l s'=true
theorem Le (hl:vj l) {g:Q->PS->Option EX} (hg:∀ (q:Q) (s:PS) (r:R) (s':PS),0<=s.at_->s.at_<=l.length->g q s=some (.ok r s')->Xb l s s'/\(eats q=true->s.at_ < s'.at_)):
 ∀ (p:Pr) (s:PS) (r:R) (s':PS),0<=s.at_->s.at_<=l.length->aF l g p s=some (.ok r s')->Xb l s s'/\(Ca eats p->s.at_ < s'.at_):=by
 intro p;have stepA:∀ {k:Pr} {s:PS} {r:R} {s':PS},(∀ (s:PS) (r:R) (s':PS),0<=s.at_->s.at_<=l.length->aF l g k s=some (.ok r s')->Xb l s s'/\(Ca eats k->s.at_ < s'.at_))->0<=s.at_->s.at_ < l.length->(fb l s=true->fb l (dI s)=true)->aF l g k (dI s)=some (.ok r s')->Xb l s s'/\s.at_ < s'.at_:=by
  intro k s r s' ih h0 h1 hk h;have e:=Tf hl h0 om;have:=ih (dI s) r s' om om h;have h2:=this.1.le;exact⟨⟨om,this.1.len,this.1.bc,fun ho=>this.1.ok (hk ho)⟩,om⟩
 have isl:∀ {s:PS} {x:S},0<=s.at_->dj l s x=true->s.at_ < l.length:=fun h0 c=>QQ h0 (by have:=L7 c;omega);have same:∀ {P P':Prop} {s s1 s':PS},s1.at_=s.at_->mw s s1->(Xb l s1 s'/\(P->s1.at_ < s'.at_))->(P'->P)->(Xb l s s'/\(P'->s.at_ < s'.at_)):=by
  intro P P' s s1 s' e1 e2 h hp;exact⟨⟨by rw[<-e1];exact h.1.le,h.1.len,e2.trans h.1.bc,fun ho=>h.1.ok (by unfold fb at ho⊢;rw[e1];exact ho)⟩,fun hh=>by rw[<-e1];exact h.2 (hp hh)⟩
 induction p with
 |ret r=>intro s r s' h0 h1 h;cases h;exact⟨⟨cI _,h1,mw.rfl',fun h=>h⟩,fun h=>h.elim⟩
 |dead=>intro s r s' h0 h1 h;cases h
 |take x k ih=>
  intro s r s' h0 h1 h;simp only[aF]at h;cases c:dj l s x with
  |true=>rw[c]at h;have:=stepA (ih true) h0 (isl h0 c) (fun ho=>jZ hl ho (nT c)) h;exact⟨this.1,fun _=>this.2⟩
  |false=>rw[c]at h;exact ih _ _ _ _ h0 h1 h
 |need x k ih=>
  intro s r s' h0 h1 h;simp only[aF]at h;cases c:dj l s x with
  |true=>rw[c]at h;have:=stepA ih h0 (isl h0 c) (fun ho=>jZ hl ho (nT c)) h;exact⟨this.1,fun _=>this.2⟩
  |false=>rw[c]at h;cases h
 |name k ih=>
  intro s r s' h0 h1 h;simp only[aF]at h;cases c:decide ((now l s).k=1)with
  |true=>rw[c]at h;have:=stepA (ih _) h0 (QQ h0 (by have:=af c;omega)) (fun ho=>jZ hl ho (by have:=af c;omega)) h;exact⟨this.1,fun _=>this.2⟩
  |false=>rw[c]at h;cases h
 |is x k ih=>intro s r s' h0 h1 h;exact same rfl mw.rfl' (ih _ s _ _ h0 h1 h) fun h=>h _
 |ok k ih=>intro s r s' h0 h1 h;exact ih _ _ _ _ h0 h1 h
 |kind c k ih=>intro s r s' h0 h1 h;exact same rfl mw.rfl' (ih _ s _ _ h0 h1 h) fun h=>h _
 |text c k ih=>intro s r s' h0 h1 h;exact same rfl mw.rfl' (ih _ s _ _ h0 h1 h) fun h=>h _
 |val k ih=>intro s r s' h0 h1 h;exact same rfl mw.rfl' (ih _ s _ _ h0 h1 h) fun h=>h _
 |sign c k ih=>intro s r s' h0 h1 h;exact same rfl mw.rfl' (ih _ s _ _ h0 h1 h) fun h=>h _
 |into c k ih=>
  intro s r s' h0 h1 h;simp only[aF]at h;split at h
  ·split at h
   ·cases h
   ·exact same (s1:=jf s) rfl mw.rfl' (ih _ (jf s) _ _ h0 h1 h) fun h=>h
  ·cases h
 |down k ih=>intro s r s' h0 h1 h;exact same (s1:=down s) rfl mw.rfl' (ih (down s) _ _ h0 h1 h) fun h=>h
 |dI k ih=>
  intro s r s' h0 h1 h;simp only[aF]at h;split at h
  ·rename_i c;have:=sw c;have e:=Tf hl h0 h1;have:=stepA ih h0 om (fun _=>c) h;exact⟨this.1,fun _=>this.2⟩
  ·cases h
 |node fr n k ih=>
  intro s r s' h0 h1 h;simp only[aF]at h;split at h
  ·rename_i i s1 c;have e:=UJ c;exact same e.1 e.2 (ih _ s1 _ _ om om h) fun h=>h _
  ·cases h
 |unit k ih=>
  intro s r s' h0 h1 h;simp only[aF]at h;split at h
  ·rename_i i s1 c;have e:=TK c;exact same e.1 e.2 (ih _ s1 _ _ om om h) fun h=>h _
  ·cases h
 |fail k ih=>intro s r s' h0 h1 h;cases h
 |pos k ih=>intro s r s' h0 h1 h;exact same rfl mw.rfl' (ih _ s _ _ h0 h1 h) fun h=>h _
 |call q k ih=>
  intro s r s' h0 h1 h;simp only[aF]at h;cases c:g q s with
  |none=>rw[c]at h;cases h
  |some y=>
   rw[c]at h;cases y with
   |bad _ _ _=>cases h
   |ok a s1=>
    simp only at h;split at h
    ·have e:=hg _ _ _ _ h0 h1 c;have e1:=e.1.le;have e2:=e.1.len;have:=ih _ s1 _ _ om om h;have e3:=this.1.le;refine⟨⟨om,this.1.len,e.1.bc.trans this.1.bc,fun ho=>this.1.ok (e.1.ok ho)⟩,fun hh=>?_⟩;rcases hh with hh|hh
     ·have:=e.2 hh;omega
     ·have:=this.2 (hh _);omega
    ·cases h
 |tail q=>intro s r s' h0 h1 h;exact hg _ _ _ _ h0 h1 h
theorem vY (hl:vj l):∀ (n:Nat) (q:Q) (s:PS) (r:R) (s':PS),0<=s.at_->s.at_<=l.length->cM l n q s=some (.ok r s')->Xb l s s'/\(eats q=true->s.at_ < s'.at_)
 |0,_,_,_,_,_,_,h=>by cases h
 |n+1,q,s,r,s',h0,h1,h=>by
  have:=Le hl (vY hl n) _ _ _ _ h0 h1 h;exact⟨this.1,fun hq=>this.2 (Sn q hq)⟩
end
end Go.Vm.Pa
