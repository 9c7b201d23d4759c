import Derived.Defers
import Derived.Maps.RangeRun
import Derived.Laws.Cover3
import Derived.Test.YtkkigemmoecldaaGreatDoorPyB
import Derived.Recover
set_option maxRecDepth 100000
set_option maxHeartbeats 0
set_option linter.unusedVariables false
set_option linter.unusedSimpArgs false
namespace Go.Vm
def wb (lv:Nat) (ops:List Oper):Option Nat:=match ops with
 |[_,o2]=>(match o2.op,o2.guard,o2.dst with
  | .defer c,none,none=>(match c.callee,c.args.toList with
    | .value (.func f),[.tmp t]=>if f=lv then some t else none
    |_,_=>none)
  |_,_,_=>none)
 |_=>none
section
variable {dl:List Deferred} {P:Program} {g:Gh} {w:World} {K:Hp->Prop} {pay:D->Value} {pg:Pg}
theorem xC (hT:eS P pg) (hmx:P.follows .mixedOrders=true) {lv t:Nat} {ops:Array Oper} {id:Nat} (hd:wb lv ops.toList=some t) {v1 v2:aL} (ht:dq P ops ops.toList=some [v1,v2]) {N:Nat} (hN:v1.gx N=true) (htN:t < N) {s s1:St}
 (h:aW pg.toCx (cv pg) v1 s=some s1) {a:Act} (ok:cg [] pg.toCx N g s a w) {Q:Exit->Act->World->Prop}
 (hq:∀ g' a' w' y,cg [{target:= .fn (.func lv) #[],args:= #[y]}] pg.toCx N g' s1 a' w'->Ext s.b g s.h w g' s1.h w'->bW g' s1.h (bP s1.e t) y->(bP s1.e t).und s1.h.length=true->Q .normal a' w'):(Code.region id ops false).wp P Q a w:=by
 have hS:=tP hT hmx;unfold wb at hd;split at hd
 ·rename_i o1 o2 hops;have hops':ops= #[o1,o2]:=by apply dH;simpa using hops
  subst hops';split at hd
  ·rename_i c hop hg hdst;split at hd
   ·rename_i f t' hcal hargs;split at hd
    ·rename_i hf;subst hf;cases hd;simp only[dq]at ht;split at ht
     ·rename_i u1 u2 hu1 hu2;simp only[aa,bS]at ht;obtain⟨rfl,rfl⟩:=ht;apply wp_region;show Go.wpOps P #[o1,o2] Q [0,1] a w;rw[Go.wpOps_cons];refine fZ hS (i:=0) (co:=o1) (by simp) hu1 hN h ok fun g' x w' ok' ext'=>?_;rw[Go.wpOps_cons];unfold wpOp;simp only[show(#[o1,o2]:Array Oper)[1]? =some o2 by simp];rw[ay (by simp[Region.wanted,hg])];left;unfold Oper.wp;have hca:c.args= #[.tmp t]:=by apply dH;simpa using hargs
      have hrun:(execOp (a.put o1.dst x).eval o2).run P w'= .ok (.defer {target:= .fn (.func f) #[],args:= #[(a.put o1.dst x).eval (.tmp t)]}) w':=by
       obtain⟨callee,ar,at'⟩:=c;simp only at hcal hca;subst hcal;subst hca;simp[execOp,hop,resolve,Act.eval,Deferred.ofValue]
      rw[hrun,Oper.upon_defer];have he:=ok'.env.2 t htN;refine hq g' _ w' ((a.put o1.dst x).eval (.tmp t)) ⟨ok'.inv,?_,?_,ok'.base⟩ ext' he.1 he.2
      ·rw[hdst];exact ok'.env
      ·rw[hdst];show _::(a.put o1.dst x).defers=_;rw[ok'.defers]
     ·cases ht
    ·cases hd
   ·cases hd
  ·cases hd
 ·cases hd
theorem DI (hT:eS P pg) (hmx:P.follows .mixedOrders=true) {f:Nat} {vf:kK} (ht:pg.my f=some (.code vf)) {args:List V} (hu:br 0 args=false) {H:Hp} {r:V} {H':Hp} (h:cv pg f args H=some (r,H')) (hI:Inv pg.toCx g H w) {cargs:Array Value} (ra:bN g H args cargs.toList) (ua:br H.length args=true) (u:FrameMode):
 (invoke (.fn (.func f) #[]) cargs).run P w= .ok (.enter f cargs) w/\CallsD P f cargs u w fun e u' w'=>u'=u/\∃ g' x,e= .returned x/\Inv pg.toCx g' H' w'/\bW g' H' r x/\r.und H'.length=true/\Ext H.length g H w g' H' w':=by
 obtain⟨n,hn⟩:=jG.1 h;cases n with
 |zero=>cases(mV pg _ _ _).symm.trans hn
 |succ n=>
  obtain⟨hS,hL⟩:=pC hT hmx n;rw[j5]at hn;unfold qB at hn;rw[ht]at hn;simp only at hn;obtain⟨fn,A,hf,hname,htr,hok⟩:=hT f _ ht;obtain⟨c0,hb0,_⟩:=iM htr;split at hn
  ·rename_i hl;rw[hu]at hn;simp only[Bool.false_and,bare]at hn;obtain⟨c,hb,hw⟩:=Mx hS hmx hL hf htr hok hl hn hI ra ua;refine⟨?_,callsD_of_wp hf hb hw⟩;have:=lP (P:=P) (w:=w) hf (by rw[hb];rfl) hname cargs;simpa [invoke] using this
  ·cases hn
abbrev offD (lv:Nat) (y:Value):Deferred:={target:= .fn (.func lv) #[],args:= #[y]}
def Reach (P:Program) (pg:Pg) (lv N:Nat) (c:Code) (s:St) (t:Nat) (s1:St) (rest:Code):Prop:=∀ {g:Gh} {a:Act} {w:World},cg [] pg.toCx N g s a w->∀ {Q:Exit->Act->World->Prop},
 (∀ g' a' w' y,cg [offD lv y] pg.toCx N g' s1 a' w'->Ext s.b g s.h w g' s1.h w'->bW g' s1.h (bP s1.e t) y->(bP s1.e t).und s1.h.length=true->rest.wp P Q a' w')->c.wp P Q a w
theorem AD (hT:eS P pg) (hmx:P.follows .mixedOrders=true) {lv t:Nat} {ops:Array Oper} {id:Nat} (hd:wb lv ops.toList=some t) {v1 v2:aL} (ht:dq P ops ops.toList=some [v1,v2]) {N:Nat} (hN:v1.gx N=true) (htN:t < N) {s s1:St}
 (h:aW pg.toCx (cv pg) v1 s=some s1) (rest:Code):Reach P pg lv N (.seq (.region id ops false) rest) s t s1 rest:=fun ok Q hq=>by
 apply wp_seq;exact xC hT hmx hd ht hN htN h ok fun g' a' w' y h1 h2 h3 h4=>hq g' a' w' y h1 h2 h3 h4
theorem oM (hT:eS P pg) (hmx:P.follows .mixedOrders=true) {lv t N:Nat} {A:vb} {c d rest:Code} {v:aU} (ht:tr P A c=some v) (hN:v.gx N=true) {s s' s1:St} (h:ev pg v s=some (.dN,s')) (hr:Reach P pg lv N d s' t s1 rest):Reach P pg lv N (.seq c d) s t s1 rest:=fun ok Q hq=>by
  apply wp_seq;have hb:=R9 hT hmx h;refine rZ hT hmx ht hN h ok fun g1 a1 w1 ok1 e1=>?_;exact hr ok1 fun g' a' w' y h1 h2 h3 h4=>hq g' a' w' y h1 (e1.trans h2 om) h3 h4
theorem ZN (hT:eS P pg) (hmx:P.follows .mixedOrders=true) {f lv:Nat} {vl:kK} (hlv:pg.my lv=some (.code vl)) {fn:Func} {A:vb} {vf:kK} {c rest:Code} {vrest:aU} (hf:P.funcs[f]? =some fn) (hname:(fn.name== "runtime.NumGoroutine")=false) (hb:fn.body=some c)
 (hres:qz P fn.results.toList=some vf.res) (k2:vf.res.all (Ax vf.nt)=true) (k3:vf.np<=vf.nt) (hnt:vf.nt=fn.ntmps) (htr:tr P A rest=some vrest) (hN:vrest.gx vf.nt=true) {args:List V} (hl:args.length=vf.np) {H:Hp} {t p:Nat} {s1 s2:St} {x:Ex} {H3 H':Hp} {r:V}
 (hR:Reach P pg lv vf.nt c ⟨cJ args,H,H.length⟩ t s1 rest) (hy:bP s1.e t= .ptr p 0) (hb1:s1.b=H.length) (hev:ev pg vrest s1=some (x,s2)) (hx:x= .dN\/x= .ret) (hlev:cv pg lv [.ptr p 0] s2.h=some (.tup [],H3)) (hlv':leave vf H.length ⟨s2.e,H3,s2.b⟩=some (r,H')):dw P pg.toCx f args H r H':=by
 refine⟨⟨fn,hf,by rw[hb];rfl,hname⟩,fun g w cargs hI ra ua=>calls_of_wp_defers hf hb ?_⟩
 have ok0:cg [] pg.toCx vf.nt g ⟨cJ args,H,H.length⟩ {tmps:=cargs++Array.replicate (fn.ntmps - cargs.size) undef,defers:=[]} w:=
  ⟨hI,by rw[<-hnt];exact mb ra ua om,rfl,ai _⟩
 refine hR ok0 fun g1 a1 w1 y ok1 e1 ry uy=>?_;refine rZ hT hmx htr hN hev ok1 fun g2 a2 w2 ok2 e2=>?_;have goal:Leaves P fn a2.tmps (fun e w'=> ∃ g' x,e= .returned x/\Inv pg.toCx g' H' w'/\bW g' H' r x/\r.und H'.length=true/\Ext H.length g H w g' H' w') a2.defers .returning w2:=by
   rw[ok2.defers];have e12:Ext H.length g H w g2 s2.h w2:=e1.trans (e2.le (by rw[hb1];exact ai _)) (ai _);rw[hy]at ry uy;have ry2:bW g2 s2.h (.ptr p 0) y:=fk e2.keep.w _ _ uy ry;have uy2:(V.ptr p 0).und s2.h.length=true:=V.jo e2.len _ uy;obtain⟨hinv,hcall⟩:=DI hT hmx hlv (args:=[.ptr p 0]) rfl hlev ok2.inv (cargs:= #[y]) (by simp only[bN];exact⟨y,[],rfl,ry2,rfl⟩) (by simp only[br,uy2,cF]) .returning;refine leaves_cons (by simp) hinv (hcall.mono fun e u' w3 he=>?_);obtain⟨rfl,g3,x3,rfl,i3,_,_,e3⟩:=he;show ∃ v,(results fn a2.tmps).run P w3= .ok v w3/\_;have e3':Ext H.length g2 s2.h w2 g3 H3 w3:=e3.le (by have:=e12.len;omega);have env3:kj g3 H3 vf.nt s2.e a2.tmps:=ok2.env.ext e3;have eAll:Ext H.length g H w g3 H3 w3:=e12.trans e3' (ai _);unfold leave at hlv';split at hlv'
   ·cases hlv'
   ·rename_i vs hvs;obtain⟨ys,y1,y2,y3⟩:=tj (P:=P) (fn:=fn) i3 env3 hres k2 hvs;refine⟨_,y1,?_⟩;split at hlv'
    ·cases hlv';exact⟨g3,_,rfl,i3,qH y2,qG y3,eAll⟩
    ·simp only at hlv';split at hlv'
     ·rename_i hu;cases hlv';have hlen:H.length<=H3.length:=eAll.len;have hc:=eAll.clean H.length (ai _) hI.und;have ra':=pE i3 y2;have ra2:=iY (lD g3 H3 H.length) _ _ hu ra';refine⟨g3.cut H.length,_,rfl,i3.restrict hlen hc,qH ra2,?_,eAll.cut rfl (ai _)⟩;rw[bm,dr hlen];exact qG hu
     ·cases hlv'
 rcases hx with rfl|rfl<;>exact goal
theorem Sz (hT:eS P pg) (hmx:P.follows .mixedOrders=true) {dd:dk} (hD:lK P pg.toCx K pay dd) {f lv:Nat} {vl:kK} (hlv:pg.my lv=some (.code vl)) {fn:Func} {A:vb} {np nt:Nat} {c rest:Code} {vrest:aU} (hf:P.funcs[f]? =some fn) (hname:(fn.name== "runtime.NumGoroutine")=false) (hb:fn.body=some c)
 (k3:np<=nt) (hnt:nt=fn.ntmps) (htr:tr P A rest=some vrest) (hN:vrest.gx nt=true) {args:List V} (hl:args.length=np) {H:Hp} {t p:Nat} {s1:St} {x:D}
 (hR:Reach P pg lv nt c ⟨cJ args,H,H.length⟩ t s1 rest) (hy:bP s1.e t= .ptr p 0) (hb1:s1.b=H.length) (hdie:dO pg dd vrest s1 x) (hK:∀ H2,K H2->∃ H3,cv pg lv [.ptr p 0] H2=some (.tup [],H3)/\K H3):og P pg.toCx K pay f args H x:=by
 refine⟨⟨fn,hf,by rw[hb];rfl,hname⟩,fun g w cargs hI ra ua=>calls_of_wp_defers hf hb ?_⟩
 have ok0:cg [] pg.toCx nt g ⟨cJ args,H,H.length⟩ {tmps:=cargs++Array.replicate (fn.ntmps - cargs.size) undef,defers:=[]} w:=
  ⟨hI,by rw[<-hnt];exact mb ra ua om,rfl,ai _⟩
 refine hR ok0 fun g1 a1 w1 y ok1 e1 ry uy=>?_;refine wa hT hmx hD rest vrest htr hN hdie ok1 fun g2 H2 a2 w2 hdl i2 hk2 e2=>?_;show Leaves P fn a2.tmps _ a2.defers (.panicking _) w2;rw[hdl];obtain⟨H3,hlev,hk3⟩:=hK H2 hk2;have e12:Ext H.length g H w g2 H2 w2:=e1.trans (e2.le (by rw[hb1];exact ai _)) (ai _);rw[hy]at ry uy;have ry2:bW g2 H2 (.ptr p 0) y:=fk e2.keep.w _ _ uy ry;have uy2:(V.ptr p 0).und H2.length=true:=V.jo e2.len _ uy;obtain⟨hinv,hcall⟩:=DI hT hmx hlv (args:=[.ptr p 0]) rfl hlev i2 (cargs:= #[y]) (by simp only[bN];exact⟨y,[],rfl,ry2,rfl⟩) (by simp only[br,uy2,cF]) (.panicking [{v:=pay x,recovered:=false }]);refine leaves_cons (by simp) hinv (hcall.mono fun e u' w3 he=>?_);obtain⟨rfl,g3,x3,rfl,i3,_,_,e3⟩:=he;show ∃ g' H',_;exact⟨g3,H3,rfl,i3,hk3,e12.trans (e3.le (by have:=e12.len;omega)) (ai _)⟩
end
end Go.Vm
namespace Go.Vm
open Go.ChangeMaps (setBlock)
section
variable {P:Program} {cx:Cx} {g:Gh} {H:Hp} {w:World}
theorem Inv.untr {w':World} (hI:Inv cx g H w) (hs:w.heap.size<=w'.heap.size) (hh:∀ b,((∃ i c,g.J i=some (b,c))\/g.C b≠[]\/cx.fx b≠none)->w'.heap[b]? =w.heap[b]?):Inv cx g H w':=by
 refine⟨hI.inj,fun i b c h=>⟨(hI.dom i b c h).1,ch (hI.dom i b c h).2 hs⟩,fun i b c o h ho=>?_,fun b hb=>?_,hI.und,hI.glob,fun i o hi=>?_⟩
 ·exact(hI.ob i b c o h ho).ext (Keep.refl H.length g H).w (hh b (.inl ⟨i,c,h⟩)) rfl (by rintro c' rfl;exact hI.und i c' (hI.dom i b c h).1 ho)
 ·rw[hh b (.inr (.inl hb))];exact hI.imm b hb
 ·obtain⟨h1,h2⟩:=hI.fix i o hi;exact⟨by rw[hh i (.inr (.inr (by rw[hi];simp)))];exact h1,h2⟩
theorem Uw {ops:Array Oper} {i:Nat} {op:Op} {dst:Option Nat} (h:(ops[i]?).map (fun o=>(o.op,o.dst,o.guard))=some (op,dst,none)) {Q:Exit->Act->World->Prop} {K:Act->World->Prop} {a:Act} {w':World} {x:Value} (hrun:∀ o:Oper,o.op=op->(execOp a.eval o).run P w= .ok (.value x) w') (hk:K (a.put dst x) w'):wpOp P ops Q i K a w:=by
  obtain⟨o,ho,he⟩:=aj.1 h;simp only[aN]at he;obtain⟨e1,e2,e3⟩:=he;unfold wpOp;simp only[ho];rw[ay (by simp[Region.wanted,e3])];refine .inl ?_;unfold Oper.wp;rw[hrun o e1,Oper.upon_value,e2];exact hk
theorem Cv {pg:Pg} (hT:eS P pg) (hmx:P.follows .mixedOrders=true) {A:vb} {N:Nat} (c:Code) (v:aU) (ht:tr P A c=some v) (hN:v.gx N=true) {s:St} {a:Act} {x:Ex} {s':St} (h:ev pg v s=some (x,s')) (ok:pD pg.toCx N g s a w)
 {Q:Exit->Act->World->Prop} (hq:∀ g' a' w',pD pg.toCx N g' s' a' w'->Ext s.b g s.h w g' s'.h w'->Q x.out a' w'):c.wp P Q a w:=by
 obtain⟨n,hn⟩:=uU h;obtain⟨hS,hL⟩:=pC hT hmx n;exact r7 hS hmx hL c v ht hN hn ok hq
theorem tL {f:Nat} {fn:Func} {c:Code} {rs:List sK} {N:Nat} (hf:P.funcs[f]? =some fn) (hb:fn.body=some c) (hname:(fn.name== "runtime.NumGoroutine")=false) (hres:qz P fn.results.toList=some rs) (hrs:rs.all (Ax N)=true) (hnt:N=fn.ntmps) {args:List V} (hl:args.length<=N) (hu:br 0 args=true) {r:V} (hr0:r.und 0=true)
 (hwp:∀ g w a,pD cx N g ⟨cJ args,[],0⟩ a w->c.wp P (fun x a' w'=>(x= .normal\/x= .ret)/\∃ g' s' vs,pD cx N g' s' a' w'/\Ext 0 g [] w g' s'.h w'/\jC s'.e s'.h rs=some vs/\br 0 (vs.map (toArg s'.h))=true/\oneOf (vs.map (toArg s'.h))=r) a w) (H:Hp):dw P cx f args H r H:=by
 refine⟨⟨fn,hf,by rw[hb];rfl,hname⟩,fun g w cargs hI ra ua=>?_⟩;have hI0:Inv cx (g.cut 0) [] w:=by
  have:=hI.restrict (n:=0) (aR _) (fun i c hi=>om);simpa using this
 have ra0:bN (g.cut 0) [] args cargs.toList:=by
  have:=lD g H 0;rw[ml]at this;exact iY this _ _ hu ra
 refine calls_of_wp hf hb ?_
 have ok0:pD cx N (g.cut 0) ⟨cJ args,[],0⟩ {tmps:=cargs++Array.replicate (fn.ntmps - cargs.size) Go.undef,defers:=[]} w:=
  ⟨hI0,by rw[<-hnt];exact mb ra0 hu hl,rfl,ai _⟩
 refine wp_mono (hwp _ _ _ ok0) fun x a1 w1 hx=>?_;obtain⟨hxx,g1,s,vs,ok1,e1,hvs,hu2,hone⟩:=hx;have goal:a1.defers=[]/\∃ v,(results fn a1.tmps).run P w1= .ok v w1/\∃ g' x,Ending.returned v= .returned x/\Inv cx g' H w1/\bW g' H r x/\r.und H.length=true/\Ext H.length g H w g' H w1:=by
  refine⟨ok1.defers,?_⟩;obtain⟨ys,y1,y2,y3⟩:=tj (P:=P) (fn:=fn) ok1.inv ok1.env hres hrs hvs;refine⟨_,y1,?_⟩;have hlen:([]:Hp).length<=s.h.length:=e1.len;have hc:=e1.clean 0 (ai _) hI0.und;have ra':=pE ok1.inv y2;have ra2:=iY (lD g1 s.h 0) _ _ hu2 ra';have hinv:=ok1.inv.restrict (n:=0) (aR _) hc;have hext:=e1.cut (n:=0) rfl (ai _);rw[ml]at ra2 hinv hext;obtain⟨q1,q2⟩:=G7 (g':=g1.cut 0) hI hinv hext;refine⟨⟨g.J,(g1.cut 0).C⟩,_,rfl,q1,?_,V.jo (aR _) _ hr0,q2⟩;have h3:=qH ra2;rw[hone]at h3;exact fk (n:=0) (g:=g1.cut 0) (H:=[]) (g':=⟨g.J,(g1.cut 0).C⟩) (H':=H) ⟨fun _=>aJ _,fun i _ hi=>om,fun i _ _ hi=>om⟩ _ _ hr0 h3
 rcases hxx with rfl|rfl<;>exact goal
end
section
variable {P:Program} {cx:Cx} {g:Gh} {H:Hp} {w:World}
inductive Loose (cx:Cx) (g:Gh) (w:World) (n sz:Nat):Value->Nat->List Value->Prop
 |nil:Loose cx g w n sz (.slice none 0 0) 0 []
 |here (b cap:Nat) (cur:Array Value) (e:TypeId) (k:Nat) (us:List Value):w.heap[b]? =some (.cells cur e (0,0))->us <+:cur.toList->us.length=k*sz->k<=cap->cur.size=cap*sz->cap<=maxLen->(∀ k c,g.J k≠some (b,c))->g.C b=[]->cx.fx b=none->n<=b->Loose cx g w n sz (.slice (some ⟨b,0,none⟩) k cap) k us
theorem Lu {orc:iH} (hS:kE P cx orc) {N:Nat} {ops:Array Oper} {rest:List Nat}:∀ (l:List Oper) (i:Nat) (vs:List aL),(∀ k,k < l.length->ops[i+k]? =l[k]?)->dq P ops l=some vs->vs.all (aL.gx N)=true->∀ {g:Gh} {w:World} {s s':St},bQ cx orc vs s=some s'->∀ {a:Act},pD cx N g s a w->
 ∀ {Q:Exit->Act->World->Prop},(∀ g' a' w',pD cx N g' s' a' w'->Ext s.b g s.h w g' s'.h w'->Go.wpOps P ops Q rest a' w')->Go.wpOps P ops Q (List.range' i l.length++rest) a w
 |[],i,vs,_,ht,_,g,w,s,s',h,a,ok,Q,hq=>by
  simp only[dq,aa]at ht;subst ht;simp only[bQ,aa]at h;subst h;exact hq g a w ok (Ext.refl ..)
 |co::l,i,vs,hl,ht,hok,g,w,s,s',h,a,ok,Q,hq=>by
  simp only[dq]at ht;split at ht
  ·rename_i v vs' hv hvs;simp only[aa]at ht;subst ht;simp only[aQ,ab]at hok;simp only[bQ]at h;cases h1:aW cx orc v s with
   |none=>rw[h1]at h;cases h
   |some s1=>
    rw[h1]at h;simp only[aP]at h;have hi:ops[i]? =some co:=by
     have:=hl 0 (by simp);simpa using this
    have hl':∀ k,k < l.length->ops[i+1+k]? =l[k]? :=fun k hk=>by
      have:=hl (k+1) (by simpa using hk);rw[show i+(k+1)=i+1+k by omega]at this;simpa using this
    simp only[aw,fX,al];rw[Go.wpOps_cons];refine fZ hS hi hv hok.1 h1 ok fun g' x w' ok' ext'=>?_;have hb:=lZ h1;refine Lu hS l (i+1) vs' hl' hvs hok.2 h ok' fun g2 a2 w2 ok2 ext2=>?_;exact hq g2 a2 w2 ok2 (ext'.trans ext2 om)
  ·cases ht
theorem Loose.freeze (hI:Inv cx g H w) {n sz k:Nat} {x:Value} {us:List Value} (h:Loose cx g w n sz x k us) {l:List D} (hl:dJ g.C sz l us) (hk:l.length=k) (hsz:0 < sz):
 ∃ g':Gh,g'.J=g.J/\(∀ b,g.C b <+:g'.C b)/\(∀ b,b < n->g'.C b=g.C b)/\Inv cx g' H w/\du g'.C (.sl l) x:=by
 cases h with
 |nil=>
  have:l=[]:=bZ hk;subst this;refine⟨g,rfl,fun _=>aJ _,fun _ _=>rfl,hI,?_⟩;simp only[du,bD];exact⟨_,_,rfl,ai _,by simp⟩
 |here b cap cur e k us h1 h2 hk0 h3 h4 h5 h6 h7 h8 h9=>
  obtain⟨C',hC'⟩:∃ C':Nat->List Value,C'=fun i=>if i=b then us else g.C i:=⟨_,rfl⟩
  have hb:C' b=us:=by rw[hC'];exact ay rfl
  have ho:∀ i,i≠b->C' i=g.C i:=fun i hi=>by rw[hC'];exact aA hi
  have hC:∀ i,g.C i <+:C' i:=fun i=>by
    by_cases hi:i=b
    ·subst hi;rw[h7];exact dV
    ·rw[ho i hi];exact aJ _
  have hkeep:sD H.length g H ⟨g.J,C'⟩ H:=⟨hC,fun i o _ hio hr=>⟨fun p hp=>hp,o,hio,hr⟩,fun i sz l _ hio=>⟨l,hio,aJ _,fun _ p hp=>hp⟩⟩;refine⟨⟨g.J,C'⟩,rfl,hC,fun i hi=>ho i om,⟨hI.inj,hI.dom,fun i b' c o hj hio=>?_,fun i hi=>?_,hI.und,fun i=>?_,hI.fix⟩,?_⟩
  ·exact(hI.ob i b' c o hj hio).ext hkeep rfl (ho b' (fun e=>h6 i c (by rw[<-e];exact hj))) (by rintro c' rfl;exact hI.und i c' (hI.dom i b' c hj).1 hio)
  ·by_cases hib:i=b
   ·subst hib;exact⟨cur,e,(0,0),h1,by show C' i <+:_;rw[hb];exact h2⟩
   ·have hi':g.C i≠[]:=by rw[<-ho i hib];exact hi
    obtain⟨cur',e',fz,q1,q2⟩:=hI.imm i hi';exact⟨cur',e',fz,q1,by show C' i <+:_;rw[ho i hib];exact q2⟩
  ·obtain⟨vs,q1,q2⟩:=hI.glob i;exact⟨vs,q1.trans (hC i),gq hC _ _ q2⟩
  ·simp only[du,bD];refine⟨_,_,by rw[hk],om,.inr ⟨b,0,sz,us,rfl,hsz,?_,jV hC sz l us hl⟩⟩;rw[bq,hb];exact aJ _
end
section
variable {pg:Pg}
def retQ (res:List sK) (R:List V->Hp->Prop):Ex->Kn->Env->Hp->Prop:=fun x _ e H=>match x with
  | .exit _=>False
  | .dN=> ∃ vs,jC e H res=some vs/\R vs H
  | .ret=> ∃ vs,jC e H res=some vs/\R vs H
end
end Go.Vm
namespace Go.Vm
open Go.RowKit
section
variable {P:Program} {cx:Cx} {g:Gh} {H:Hp} {w:World}
theorem chunk {pg:Pg} (hT:eS P pg) (hmx:P.follows .mixedOrders=true) {A:vb} {N:Nat} {c:Code} {v:aU} (ht:tr P A c=some v) (hN:v.gx N=true) {e:Env} {b:Nat} {a:Act} (ok:pD pg.toCx N g ⟨e,H,b⟩ a w) {R:Ex->Env->Hp->Prop} (h:WQ pg b v [] e H fun x _ e' H'=>R x e' H')
    {Q:Exit->Act->World->Prop} (hq:∀ x e' H' g' a' w',R x e' H'->pD pg.toCx N g' ⟨e',H',b⟩ a' w'->Ext b g H w g' H' w'->Q x.out a' w'):c.wp P Q a w:=by
  obtain⟨x,kn,e',H',h1,_,h2⟩:=h.imp (dT.nil _);exact Cv hT hmx c v ht hN h1 ok fun g' a' w' ok' ext'=>hq x e' H' g' a' w' h2 ok' ext'
theorem cg.low {N:Nat} {s:St} {a:Act} {b:Nat} (ok:pD cx N g s a w) (hb:b<=s.h.length):pD cx N g ⟨s.e,s.h,b⟩ a w:=⟨ok.inv,ok.env,ok.defers,hb⟩
theorem cg.forget {N:Nat} {e:Env} {H:Hp} {b:Nat} {a:Act} (ok:pD cx N g ⟨e,H,b⟩ a w) (ks:List Nat):pD cx N g ⟨dU ks e,H,b⟩ a w:=(ok.keep ks).low ok.base
end
def cL:Code->Code| .seq a _=>a|c=>c
def cR:Code->Code| .seq _ b=>b|c=>c
def cA:Code->Code| .cond _ a _=>a|c=>c
def vL:aU->aU| .seq a _=>a|c=>c
def vR:aU->aU| .seq _ b=>b|c=>c
def vA:aU->aU| .cond _ a _=>a|c=>c
def Ih:Code->Array Oper| .region _ ops _=>ops|_=> #[]
def cId:Code->Nat| .region id _ _=>id| .block id _=>id|_=>0
section
variable {P:Program} {cx:Cx} {g:Gh} {H:Hp} {w:World}
theorem JE {N:Nat} {ops:Array Oper} {i:Nat} {op:Op} {d:Nat} (h:(ops[i]?).map (fun o=>(o.op,o.dst,o.guard))=some (op,some d,none)) {s:St} {a:Act} (ok:pD cx N g s a w) {x:Value} {v:V} (hrun:∀ o:Oper,o.op=op->(execOp a.eval o).run P w= .ok (.value x) w) (hd:d < N) (hr:bW g s.h v x) (hu:v.und s.h.length=true)
    {Q:Exit->Act->World->Prop} {rest:List Nat} (hk:pD cx N g ⟨fT (some d) v s.e,s.h,s.b⟩ (a.put (some d) x) w->Go.wpOps P ops Q rest (a.put (some d) x) w):Go.wpOps P ops Q (i::rest) a w:=by
  rw[Go.wpOps_cons];exact Uw h hrun (hk (ok.put (fun k hk=>by cases hk;exact hd) ok.inv hr hu (Ext.refl ..)))
theorem GM {f:Nat} {fn:Func} (hf:P.funcs[f]? =some fn) (hb:fn.body.isNone=false) (hn:(fn.name== "runtime.NumGoroutine")=false) {ops:Array Oper} {i:Nat} {ar:Array Operand} {at':Array TypeId} {d:Nat} (h:(ops[i]?).map (fun o=>(o.op,o.dst,o.guard))=some (.call {callee:= .value (.func f),args:=ar,argTypes:=at' },some d,none)) {a:Act} {R:Ending->World->Prop} (hc:Calls P f (ar.map a.eval) w R)
    {Q:Exit->Act->World->Prop} {rest:List Nat} (hk:∀ e w',R e w'->∃ x,e= .returned x/\Go.wpOps P ops Q rest (a.put (some d) x) w'):Go.wpOps P ops Q (i::rest) a w:=by
  rw[Go.wpOps_cons];obtain⟨o,ho,he⟩:=aj.1 h;simp only[aN]at he;obtain⟨e1,e2,e3⟩:=he;have hrun:(execOp a.eval o).run P w= .ok (.enter f (ar.map a.eval)) w:=by
   have:(execOp a.eval o).run P w=(callFunc f (ar.map a.eval)).run P w:=by
    simp[execOp,e1,resolve,Act.eval,Deferred.ofValue,invoke]
   rw[this,lP hf hb hn]
  unfold wpOp;simp only[ho];rw[ay (by simp[Region.wanted,e3])];refine .inl ?_;unfold Oper.wp;rw[hrun,Oper.upon_enter];refine hc.mono fun e w' he=>?_;obtain⟨x,rfl,hx⟩:=hk e w' he;rw[e2];exact hx
theorem a3q {N:Nat} {s:St} {a:Act} (ok:pD cx N g s a w) {i:Nat} (hi:i < N) {x:Value} (hv:bP s.e i= .raw x):a.tmps.getD i Go.undef=x:=by
 have:=(ok.env.2 i hi).1;rw[hv]at this;simpa only[bW] using this
theorem Gr {N:Nat} {s:St} {a:Act} (ok:pD cx N g s a w) {i:Nat} (hi:i < N) {v:V} (hv:bP s.e i=v):bW g s.h v (a.tmps.getD i Go.undef):=by
 have:=(ok.env.2 i hi).1;rw[hv]at this;exact this
theorem Ie {N:Nat} {s:St} {a:Act} (ok:pD cx N g s a w) {i:Nat} (hi:i < N) {b:Bool} (hv:bP s.e i= .d (.bool b)):a.eval (.tmp i)= .bool b:=by
 have:=(ok.env.2 i hi).1;rw[hv]at this;simp only[bW,du,bD,bS,fQ]at this;exact this
end
section
variable {P:Program} {pg:Pg} {K:Hp->Prop} {pay:D->Value}
theorem U2 (hT:eS P pg) (hmx:P.follows .mixedOrders=true) {f:Nat} {fn:Func} {A:vb} {vf:kK} (hf:P.funcs[f]? =some fn) (hname:(fn.name== "runtime.NumGoroutine")=false) (htr:vB P A vf.keep fn=some vf) (hok:vf.ok=true) {args:List V} (hl:args.length=vf.np) {H H':Hp} {r:V} {x:Ex} {s2:St}
 (hev:ev pg vf.body ⟨cJ args,H,H.length⟩=some (x,s2)) (hx:x= .dN\/x= .ret) (hlv:leave vf H.length s2=some (r,H')):dw P pg.toCx f args H r H':=by
 obtain⟨c,hb,_⟩:=iM htr;obtain⟨n,hn⟩:=uU hev;obtain⟨hS,hL⟩:=pC hT hmx n;refine⟨⟨fn,hf,by rw[hb];rfl,hname⟩,fun g w cargs hI ra ua=>wj hS hmx hL hf htr hok hl ?_ hI ra ua⟩;rw[hn];rcases hx with rfl|rfl<;>exact hlv
theorem Ds (hT:eS P pg) (hmx:P.follows .mixedOrders=true) {dd:dk} (hD:lK P pg.toCx K pay dd) {f:Nat} {fn:Func} {A:vb} {vf:kK} (hf:P.funcs[f]? =some fn) (hname:(fn.name== "runtime.NumGoroutine")=false) (htr:vB P A vf.keep fn=some vf) (hok:vf.ok=true) {args:List V} (hl:args.length=vf.np) {H:Hp} {x:D}
 (h:dO pg dd vf.body ⟨cJ args,H,H.length⟩ x):og P pg.toCx K pay f args H x:=by
 obtain⟨c,hb,htc,hres,hnt,_⟩:=iM htr;obtain⟨k1,k2,k3⟩:=lR hok;refine⟨⟨fn,hf,by rw[hb];rfl,hname⟩,fun g w cargs hI ra ua=>calls_of_wp hf hb ?_⟩
 have ok0:cg [] pg.toCx vf.nt g ⟨cJ args,H,H.length⟩ {tmps:=cargs++Array.replicate (fn.ntmps - cargs.size) undef,defers:=[]} w:=
  ⟨hI,by rw[<-hnt];exact mb ra ua om,rfl,ai _⟩
 refine wa hT hmx hD c vf.body htc k1 h ok0 fun g' H' a' w' q1 q2 q3 q4=>?_;exact⟨q1,g',H',rfl,q2,q3,q4⟩
theorem Gu (hT:eS P pg) (hmx:P.follows .mixedOrders=true) {lv t N k:Nat} {A:vb} {c0 c rest:Code} {v0 v:aU} (ht0:tr P A c0=some v0) (hN0:v0.gx N=true) (ht:tr P A c=some v) (hN:v.gx N=true) {ops:Array Oper} {id:Nat} (hd:wb lv ops.toList=some t) {v1 v2:aL} (hto:dq P ops ops.toList=some [v1,v2]) (hN1:v1.gx N=true) (htN:t < N) (hkN:k < N)
 {s s0 s' s1:St} (h0:ev pg v0 s=some (.dN,s0)) (hk:bP s0.e k= .d (.bool true)) (h:ev pg v s0=some (.dN,s')) (h1:aW pg.toCx (cv pg) v1 s'=some s1):Reach P pg lv N (.seq (.seq c0 (.cond (.tmp k) (.seq c (.region id ops false)) .skip)) rest) s t s1 rest:=fun ok Q hq=>by
 apply wp_seq;apply wp_seq;have hb0:=R9 hT hmx h0;refine rZ hT hmx ht0 hN0 h0 ok fun g0 a0 w0 ok0 e0=>?_;have hr:=(ok0.env.2 k hkN).1;rw[hk]at hr;refine wp_cond (oW hr) ?_;simp only[cU];apply wp_seq;have hb:=R9 hT hmx h;refine rZ hT hmx ht hN h ok0 fun g1 a1 w1 ok1 e1=>?_;exact xC hT hmx hd hto hN1 htN h1 ok1 fun g' a' w' y q1 q2 q3 q4=>hq g' a' w' y q1 (e0.trans (e1.trans q2 om) om) q3 q4
def ID (pg:Pg) (pre rest:aU) (t lv:Nat) (vf:kK) (p:Nat) (args:List V) (H:Hp) (r:V) (H':Hp):Prop:=
 ∃ s1 x s2 H3,ev pg pre ⟨cJ args,H,H.length⟩=some (.dN,s1)/\bP s1.e t= .ptr p 0/\s1.b=H.length/\ev pg rest s1=some (x,s2)/\(x= .dN\/x= .ret)/\cv pg lv [.ptr p 0] s2.h=some (.tup [],H3)/\leave vf H.length ⟨s2.e,H3,s2.b⟩=some (r,H')
def IE (pg:Pg) (dd:dk) (pre rest:aU) (t p:Nat) (args:List V) (H:Hp) (x:D):Prop:=
 dO pg dd pre ⟨cJ args,H,H.length⟩ x\/∃ s1,ev pg pre ⟨cJ args,H,H.length⟩=some (.dN,s1)/\bP s1.e t= .ptr p 0/\s1.b=H.length/\dO pg dd rest s1 x
theorem a9b {dd:dk} {pre rest:aU} {t lv p:Nat} {vf:kK} (hk:vf.keep=false) {args:List V} {H:Hp} {R:V->Hp->Prop} {D:D->Prop}
 (h:kA 0 args fun e=>WX pg dd H.length pre [] e H (fun x _ e1 H1=>x= .dN/\bP e1 t= .ptr p 0/\WX pg dd H.length rest [] e1 H1 (fun x kn e2 H2=> ∃ H3,cv pg lv [.ptr p 0] H2=some (.tup [],H3)/\wL vf.res H.length (fun v H'=>R v (H'.take H.length)) x kn e2 H3) D) D):
 (∃ r H',ID pg pre rest t lv vf p args H r H'/\R r H')\/∃ x,IE pg dd pre rest t p args H x/\D x:=by
 rw[jm]at h;rcases h.imp (dT.nil _)with⟨x,kn,e1,H1,h1,_,rfl,h2,h3⟩|⟨x,h1,h2⟩
 ·rw[<-gB]at h1;rcases h3.imp (dT.nil _)with⟨y,kn2,e2,H2,h4,_,H3,h5,h6⟩|⟨x,h4,h5⟩
  ·left;obtain⟨r',h7,h8⟩:=oV (b:=H.length) h6;have hy:y= .dN\/y= .ret:=by
    cases y with
    |dN=>exact .inl rfl
    |ret=>exact .inr rfl
    |exit i=>cases h7
   refine⟨r',_,⟨⟨e1,H1,H.length⟩,y,⟨e2,H2,H.length⟩,H3,h1,h2,rfl,h4,hy,h5,?_⟩,h8⟩;have:leave ⟨0,0,.skip,vf.res,false⟩ H.length ⟨e2,H3,H.length⟩=some (r',H3.take H.length):=by rcases hy with rfl|rfl<;>exact h7
   unfold leave at this⊢;rw[hk];exact this
  ·exact .inr ⟨x,.inr ⟨_,h1,h2,rfl,h4⟩,h5⟩
 ·rw[<-gB]at h1;exact .inr ⟨x,.inl h1,h2⟩
section
variable {σ:Nat->Nat} {n:Nat} {HB:Hp}
theorem ID.sh (hp:ki pg) (hm:Mv σ n HB) {pre rest:aU} (hc1:pre.cst=true) (hc2:rest.cst=true) {t lv p:Nat} {vf:kK} {a:List V} {h H h':Hp} {r:V} (R:HR σ n HB h H) (hd:ID pg pre rest t lv vf p a h r h'):∃ H',ID pg pre rest t lv vf (σ p) (fM σ a) H (r.sh σ) H'/\HR σ n HB h' H':=by
 obtain⟨s1,x,s2,h3,q1,q2,q3,q4,q5,q6,q7⟩:=hd;obtain⟨S1,w1,R1⟩:=Bn hm hp hc1 (S:=⟨cJ (fM σ a),H,H.length⟩) ⟨lH a,R,R.len,R.le⟩ q1;obtain⟨S2,w2,R2⟩:=Bn hm hp hc2 R1 q4;obtain⟨H3,w3,R3⟩:=p8 hp hm R2.h q6;obtain⟨H',w4,R4⟩:=wZ (vf:=vf) hm R.le (s:=⟨s2.e,h3,s2.b⟩) (S:=⟨S2.e,H3,S2.b⟩) ⟨R2.e,R3,R2.b,R2.le⟩ q7;refine⟨H',⟨S1,x,S2,H3,w1,?_,?_,w2,q5,w3,?_⟩,R4⟩
 ·rw[R1.e,kV,q2];rfl
 ·rw[R1.b,q3,R.len]
 ·rw[R.len];exact w4
theorem IE.sh (hp:ki pg) (hm:Mv σ n HB) {dd dd':dk} (hdd:MK σ n HB dd dd') {pre rest:aU} (hc1:pre.cst=true) (hc2:rest.cst=true) {t p:Nat} {a:List V} {h H:Hp} {x:D} (R:HR σ n HB h H) (hd:IE pg dd pre rest t p a h x):IE pg dd' pre rest t (σ p) (fM σ a) H x:=by
 rcases hd with q|⟨s1,q1,q2,q3,q4⟩
 ·exact .inl (xz hm hp hdd q hc1 ⟨lH a,R,R.len,R.le⟩)
 ·obtain⟨S1,w1,R1⟩:=Bn hm hp hc1 (S:=⟨cJ (fM σ a),H,H.length⟩) ⟨lH a,R,R.len,R.le⟩ q1;refine .inr ⟨S1,w1,?_,?_,xz hm hp hdd q4 hc2 R1⟩
  ·rw[R1.e,kV,q2];rfl
  ·rw[R1.b,q3,R.len]
end
structure oh (P:Program) (f lv t:Nat) (fn:Func) (vf:kK) (pre rest:aU):Prop where
 hf:P.funcs[f]? =some fn
 name:(fn.name== "runtime.NumGoroutine")=false
 trf:∃ A,vB P A vf.keep fn=some vf
 ok:vf.ok=true
 keep:vf.keep=false
 body:∃ c crest A,fn.body=some c/\tr P A crest=some rest/\rest.gx vf.nt=true/\∀ {pg:Pg},eS P pg->P.follows .mixedOrders=true->∀ {s s1:St},ev pg pre s=some (.dN,s1)->Reach P pg lv vf.nt c s t s1 crest
 dies:∀ {pg:Pg} {dd:dk} {s:St} {x:D},dO pg dd pre s x->dO pg dd vf.body s x
theorem ID.spec {f lv t:Nat} {fn:Func} {vf:kK} {pre rest:aU} (S:oh P f lv t fn vf pre rest) (hT:eS P pg) (hmx:P.follows .mixedOrders=true) {vl:kK} (hlv:pg.my lv=some (.code vl)) {p:Nat} {args:List V} (hl:args.length=vf.np) {H H':Hp} {r:V} (hd:ID pg pre rest t lv vf p args H r H'):dw P pg.toCx f args H r H':=by
 obtain⟨s1,x,s2,H3,q1,q2,q3,q4,q5,q6,q7⟩:=hd;obtain⟨c,crest,A,hb,htr,hN,hR⟩:=S.body;obtain⟨A',ht⟩:=S.trf;obtain⟨c0,hb0,_,hres,hnt,_⟩:=iM ht;obtain⟨k1,k2,k3⟩:=lR S.ok;exact ZN hT hmx hlv S.hf S.name hb hres k2 k3 hnt htr hN hl (hR hT hmx q1) q2 q3 q4 q5 q6 q7
theorem IE.spec {f lv t:Nat} {fn:Func} {vf:kK} {pre rest:aU} (S:oh P f lv t fn vf pre rest) (hT:eS P pg) (hmx:P.follows .mixedOrders=true) {dd:dk} (hD:lK P pg.toCx K pay dd) {vl:kK} (hlv:pg.my lv=some (.code vl)) {p:Nat} {args:List V} (hl:args.length=vf.np) {H:Hp} {x:D} (hd:IE pg dd pre rest t p args H x) (hK:∀ H2,K H2->∃ H3,cv pg lv [.ptr p 0] H2=some (.tup [],H3)/\K H3):og P pg.toCx K pay f args H x:=by
 obtain⟨A',ht⟩:=S.trf;obtain⟨c0,hb0,_,hres,hnt,_⟩:=iM ht;obtain⟨k1,k2,k3⟩:=lR S.ok;rcases hd with q|⟨s1,q1,q2,q3,q4⟩
 ·exact Ds hT hmx hD S.hf S.name ht S.ok hl (S.dies q)
 ·obtain⟨c,crest,A,hb,htr,hN,hR⟩:=S.body;exact Sz hT hmx hD hlv S.hf S.name hb k3 hnt htr hN hl (hR hT hmx q1) q2 q3 q4 hK
theorem iT {a b:aU} {s s2:St} (h:ev pg (.seq a b) s=some (.dN,s2)):∃ s1,ev pg a s=some (.dN,s1)/\ev pg b s1=some (.dN,s2):=by
 rw[qo]at h;cases e1:ev pg a s with
 |none=>rw[e1]at h;cases h
 |some y=>
  obtain⟨x1,s1⟩:=y;rw[e1]at h;cases x1 with
  |exit i=>cases h
  |ret=>cases h
  |dN=>exact⟨s1,rfl,h⟩
theorem Fb {w1:aL} {s s1:St} (h:ev pg (.reg [w1]) s=some (.dN,s1)):aW pg.toCx (cv pg) w1 s=some s1:=by
 rw[Bo,OJ,bQ]at h;cases e3:aW pg.toCx (cv pg) w1 s with
 |none=>rw[e3]at h;cases h
 |some s4=>rw[e3]at h;cases h;rfl
theorem yC {dd:dk} {w1:aL} {l:List aL} {s:St} {x:D} (h:dO pg dd (.reg [w1]) s x):dO pg dd (.reg (w1::l)) s x:=by
 cases h with
 |reg i1 i2 i3=>
  rename_i i o s';have hi:i=0:=by
   have:=(az.1 i1).1;simpa using this
  subst hi;simp only[aV,aa]at i1;subst i1;exact .reg (i:=0) (by rfl) (by simpa using i2) i3
theorem lJ {dd:dk} {a b b':aU} {s:St} {x:D} (h:dO pg dd (.seq a b) s x) (hb:∀ s,dO pg dd b s x->dO pg dd b' s x):dO pg dd (.seq a b') s x:=by
 cases h with
 |seq1 h=>exact .seq1 h
 |seq2 e h=>exact .seq2 e (hb _ h)
theorem Jh {f lv t:Nat} {fn:Func} {A:vb} {vf:kK} {c1 c2 crest:Code} {id:Nat} {ops:Array Oper} {v1 v2 rest:aU} {w1 w2:aL} (hf:P.funcs[f]? =some fn) (hname:(fn.name== "runtime.NumGoroutine")=false) (htr:vB P A vf.keep fn=some vf) (hok:vf.ok=true) (hk:vf.keep=false)
 (hb:fn.body=some (.seq c1 (.seq c2 (.seq (.region id ops false) crest)))) (hv:vf.body= .seq v1 (.seq v2 (.seq (.reg [w1,w2]) rest))) (h1:tr P A c1=some v1) (h2:tr P A c2=some v2) (h3:tr P A crest=some rest) (hd:wb lv ops.toList=some t) (ht:dq P ops ops.toList=some [w1,w2]) (htN:t < vf.nt):
 oh P f lv t fn vf (.seq v1 (.seq v2 (.reg [w1]))) rest:=by
 obtain⟨k1,k2,k3⟩:=lR hok;rw[hv]at k1;simp only[aU.gx,ab,aQ,bO]at k1;obtain⟨n1,n2,⟨n3,_⟩,n4⟩:=k1;refine⟨hf,hname,⟨A,htr⟩,hok,hk,⟨_,crest,A,hb,h3,n4,fun{pg} hT hmx {s s1} h=>?_⟩,fun{pg dd s x} h=>?_⟩
 ·obtain⟨s2,e1,h⟩:=iT h;obtain⟨s3,e2,h⟩:=iT h;exact oM hT hmx h1 n1 e1 (oM hT hmx h2 n2 e2 (AD hT hmx hd ht n3 htN (Fb h) crest))
 ·rw[hv];exact lJ h fun _ h=>lJ h fun _ h=> .seq1 (yC h)
theorem X6 {f lv t:Nat} {fn:Func} {A:vb} {vf:kK} {c1 c2 c3 crest:Code} {id:Nat} {ops:Array Oper} {v1 v2 v3 rest:aU} {w1 w2:aL} (hf:P.funcs[f]? =some fn) (hname:(fn.name== "runtime.NumGoroutine")=false) (htr:vB P A vf.keep fn=some vf) (hok:vf.ok=true) (hk:vf.keep=false)
 (hb:fn.body=some (.seq c1 (.seq c2 (.seq c3 (.seq (.region id ops false) crest))))) (hv:vf.body= .seq v1 (.seq v2 (.seq v3 (.seq (.reg [w1,w2]) rest)))) (h1:tr P A c1=some v1) (h2:tr P A c2=some v2) (h2':tr P A c3=some v3) (h3:tr P A crest=some rest) (hd:wb lv ops.toList=some t) (ht:dq P ops ops.toList=some [w1,w2]) (htN:t < vf.nt):
 oh P f lv t fn vf (.seq v1 (.seq v2 (.seq v3 (.reg [w1])))) rest:=by
 obtain⟨k1,k2,k3⟩:=lR hok;rw[hv]at k1;simp only[aU.gx,ab,aQ,bO]at k1;obtain⟨n1,n2,n2',⟨n3,_⟩,n4⟩:=k1;refine⟨hf,hname,⟨A,htr⟩,hok,hk,⟨_,crest,A,hb,h3,n4,fun{pg} hT hmx {s s1} h=>?_⟩,fun{pg dd s x} h=>?_⟩
 ·obtain⟨s2,e1,h⟩:=iT h;obtain⟨s3,e2,h⟩:=iT h;obtain⟨s4,e3,h⟩:=iT h;exact oM hT hmx h1 n1 e1 (oM hT hmx h2 n2 e2 (oM hT hmx h2' n2' e3 (AD hT hmx hd ht n3 htN (Fb h) crest)))
 ·rw[hv];exact lJ h fun _ h=>lJ h fun _ h=>lJ h fun _ h=> .seq1 (yC h)
theorem X5 {f lv t k:Nat} {fn:Func} {A:vb} {vf:kK} {c1 c2 c3 crest:Code} {id:Nat} {ops:Array Oper} {v1 v2 v3 rest:aU} {w1 w2:aL} (hf:P.funcs[f]? =some fn) (hname:(fn.name== "runtime.NumGoroutine")=false) (htr:vB P A vf.keep fn=some vf) (hok:vf.ok=true) (hk:vf.keep=false)
 (hb:fn.body=some (.seq c1 (.seq (.seq c2 (.cond (.tmp k) (.seq c3 (.region id ops false)) .skip)) crest))) (hv:vf.body= .seq v1 (.seq (.seq v2 (.cond (.t k) (.seq v3 (.reg [w1,w2])) .skip)) rest)) (h1:tr P A c1=some v1) (h2:tr P A c2=some v2) (h2':tr P A c3=some v3) (h3:tr P A crest=some rest) (hd:wb lv ops.toList=some t) (ht:dq P ops ops.toList=some [w1,w2]) (htN:t < vf.nt) (hkN:k < vf.nt):
 oh P f lv t fn vf (.seq v1 (.seq v2 (.cond (.t k) (.seq v3 (.reg [w1])) (.exit 0)))) rest:=by
 obtain⟨k1,k2,k3⟩:=lR hok;rw[hv]at k1;simp only[aU.gx,ab,aQ,bO]at k1;obtain⟨n1,⟨n2,⟨⟨_,n2',n3,_⟩,_⟩⟩,n4⟩:=k1;refine⟨hf,hname,⟨A,htr⟩,hok,hk,⟨_,crest,A,hb,h3,n4,fun{pg} hT hmx {s s1} h=>?_⟩,fun{pg dd s x} h=>?_⟩
 ·obtain⟨s2,e1,h⟩:=iT h;obtain⟨s3,e2,h⟩:=iT h;rw[rY]at h;have hk:bP s3.e k= .d (.bool true)/\ev pg (.seq v3 (.reg [w1])) s3=some (.dN,s1):=by
   have e:di pg.toCx s3.e (.t k)=bP s3.e k:=rfl;rw[e]at h;cases hg:bP s3.e k with
   |d y=>
    rw[hg]at h;cases y with
    |bool b=>
     rw[pA]at h;cases b with
     |true=>exact⟨rfl,by simpa using h⟩
     |false=>simp only[eP,iE]at h;cases h
    |_=>cases h
   |_=>rw[hg]at h;cases h
  obtain⟨s4,e3,h⟩:=iT hk.2;have r:Reach P pg lv vf.nt (.seq (.seq c2 (.cond (.tmp k) (.seq c3 (.region id ops false)) .skip)) crest) s2 t s1 crest:=by
   intro g a w ok Q hq;exact Gu hT hmx h2 n2 h2' n2' hd ht n3 htN hkN e2 hk.1 e3 (Fb h) ok hq
  intro g a w ok Q hq;exact oM hT hmx h1 n1 e1 r ok hq
 ·rw[hv];refine lJ h fun _ h=> .seq1 (lJ h fun _ h=>?_);cases h with
  |cond hv h=>
   rename_i t;cases t with
   |true=>exact .cond (t:=true) hv (lJ h fun _ h=>yC h)
   |false=>cases h
def OE (pg:Pg) (vf:kK) (args:List V) (H:Hp) (r:V) (H':Hp):Prop:=∃ x s2,ev pg vf.body ⟨cJ args,H,H.length⟩=some (x,s2)/\(x= .dN\/x= .ret)/\leave vf H.length s2=some (r,H')
def OG (pg:Pg) (dd:dk) (vf:kK) (args:List V) (H:Hp) (x:D):Prop:=dO pg dd vf.body ⟨cJ args,H,H.length⟩ x
theorem a7i {dd:dk} {vf:kK} (hk:vf.keep=false) {args:List V} {H:Hp} {R:V->Hp->Prop} {D:D->Prop}
 (h:kA 0 args fun e=>WX pg dd H.length vf.body [] e H (wL vf.res H.length fun v H'=>R v (H'.take H.length)) D):
 (∃ r H',OE pg vf args H r H'/\R r H')\/∃ x,OG pg dd vf args H x/\D x:=by
 rw[jm]at h;rcases h.imp (dT.nil _)with⟨x,kn,e1,H1,h1,_,h3⟩|⟨x,h1,h2⟩
 ·rw[<-gB]at h1;left;obtain⟨r',h7,h8⟩:=oV (b:=H.length) h3;have hy:x= .dN\/x= .ret:=by
   cases x with
   |dN=>exact .inl rfl
   |ret=>exact .inr rfl
   |exit i=>cases h7
  refine⟨r',_,⟨x,_,h1,hy,?_⟩,h8⟩;have:leave ⟨0,0,.skip,vf.res,false⟩ H.length ⟨e1,H1,H.length⟩=some (r',H1.take H.length):=by rcases hy with rfl|rfl<;>exact h7
  unfold leave at this⊢;rw[hk];exact this
 ·rw[<-gB]at h1;exact .inr ⟨x,h1,h2⟩
theorem OE.sh {σ:Nat->Nat} {n:Nat} {HB:Hp} (hp:ki pg) (hm:Mv σ n HB) {vf:kK} (hc:vf.body.cst=true) {a:List V} {h H h':Hp} {r:V} (R:HR σ n HB h H) (hd:OE pg vf a h r h'):∃ H',OE pg vf (fM σ a) H (r.sh σ) H'/\HR σ n HB h' H':=by
 obtain⟨x,s2,q1,q2,q3⟩:=hd;obtain⟨S2,w1,R1⟩:=Bn hm hp hc (S:=⟨cJ (fM σ a),H,H.length⟩) ⟨lH a,R,R.len,R.le⟩ q1;obtain⟨H',w4,R4⟩:=wZ (vf:=vf) hm R.le R1 q3;exact⟨H',⟨x,S2,w1,q2,by rw[R.len];exact w4⟩,R4⟩
theorem OG.sh {σ:Nat->Nat} {n:Nat} {HB:Hp} (hp:ki pg) (hm:Mv σ n HB) {dd dd':dk} (hdd:MK σ n HB dd dd') {vf:kK} (hc:vf.body.cst=true) {a:List V} {h H:Hp} {x:D} (R:HR σ n HB h H) (hd:OG pg dd vf a h x):OG pg dd' vf (fM σ a) H x:=
 xz hm hp hdd hd hc ⟨lH a,R,R.len,R.le⟩
end
end Go.Vm
set_option maxHeartbeats 0
namespace Go.Vm.Ite
open Go Go.Vm Go.Proofs
def CB:Laid Tryz.prog (AA [] []) false Tryz.f133:=laid
def Tx:Laid Tryz.prog (AA [] []) false Tryz.f75:=laid
def CA:Laid Tryz.prog (AA [] []) false Tryz.f174:=laid
def Tw:Laid Tryz.prog (AA [] [(5,[.bindrow 1 4 3])]) false Tryz.f76:=laid
def zm:Laid Tryz.prog (AA [] []) false Tryz.f161:=laid
abbrev w1:aU->aL| .reg (w::_)=>w|_=>default
abbrev wM (v:aU):aU:=vR (vR (vR v))
abbrev Er (v:aU):aU:= .seq (vL v) (.seq (vL (vR v)) (.reg [w1 (vL (vR (vR v)))]))
abbrev Qb (v:aU):aU:=vR (vR (vR (vR v)))
abbrev Yn (v:aU):aU:= .seq (vL v) (.seq (vL (vR v)) (.seq (vL (vR (vR v))) (.reg [w1 (vL (vR (vR (vR v))))])))
theorem Y8:wq 133 CB:={}
theorem k75:wq 75 Tx:={}
theorem Y7:wq 174 CA:={}
theorem k76:wq 76 Tw:={}
theorem Bc:wq 161 zm:={}
theorem b0z:oh Tryz.prog 133 113 7 Tryz.f133 CB.F (Er CB.F.body) (wM CB.F.body):=Jh Tryz.func133 Y8.name Y8.tr Y8.ok rfl rfl rfl kr kr kr kr kr (by decide)
theorem S75:oh Tryz.prog 75 113 11 Tryz.f75 Tx.F (Er Tx.F.body) (wM Tx.F.body):=Jh Tryz.func75 k75.name k75.tr k75.ok rfl rfl rfl kr kr kr kr kr (by decide)
theorem b0x:oh Tryz.prog 174 113 33 Tryz.f174 CA.F (Yn CA.F.body) (Qb CA.F.body):=X6 Tryz.func174 Y7.name Y7.tr Y7.ok rfl rfl rfl kr kr kr kr kr kr (by decide)
theorem S76:oh Tryz.prog 76 113 9 Tryz.f76 Tw.F (Er Tw.F.body) (wM Tw.F.body):=Jh Tryz.func76 k76.name k76.tr k76.ok rfl rfl rfl kr kr kr kr kr (by decide)
abbrev Ym (v:aU):aU:= .seq (vL v) (.seq (vL (vL (vR v))) (.cond (.t 8) (.seq (vL (vA (vR (vL (vR v))))) (.reg [w1 (vR (vA (vR (vL (vR v)))))])) (.exit 0)))
abbrev Qa (v:aU):aU:=vR (vR v)
theorem b0y:oh Tryz.prog 161 113 13 Tryz.f161 zm.F (Ym zm.F.body) (Qa zm.F.body):=X5 Tryz.func161 Bc.name Bc.tr Bc.ok rfl rfl rfl kr kr kr kr kr kr (by decide) (by decide)
end Go.Vm.Ite
namespace Go.Vm.Px
open Go.Vm.Lex (TokQ)
open Go.Vm.Pa hiding go
open Go.Vm.Ite
set_option maxHeartbeats 4000000
section
variable {fx:Nat->Option Obj} {F:Nat->Option dF} {l:List TokQ} {s s1:PS} {bb:Bool} {X:Hp} {base:Nat->dk} {n:Nat} {o:Option EX} {b:Bool} {p:Int} {g:Q->PS->Option EX} {K:V->Hp->Prop}
def uc (fx:Nat->Option Obj) (F:Nat->Option dF) (base:Nat->dk) (l:List TokQ) (pre rest:aU) (t:Nat) (vf:kK) (a:List V) (s:PS) (bb:Bool) (o:Option EX):Prop:=match o with
 |some (.ok r s1)=>ID (b9 fx F) pre rest t 113 vf 0 (.ptr 0 0::a) [QB l s bb,PR s] (.d (nF l s r s1)) [QB l s1 bb,PR s1]
 |some (.bad c f e)=>IE (b9 fx F) (cY (b9 fx F) (base 0)) pre rest t 0 (.ptr 0 0::a) [QB l s bb,PR s] (pK c f e)
 |none=>True
theorem tg {pre rest:aU} {t:Nat} {vf:kK} (hk:vf.keep=false) {a:List V}
 (h:o≠none->kA 0 (.ptr 0 0::a) fun e=>WX (b9 fx F) (cY (b9 fx F) (base 0)) [QB l s bb,PR s].length pre [] e [QB l s bb,PR s] (fun x _ e1 H1=>x= .dN/\bP e1 t= .ptr 0 0/\WX (b9 fx F) (cY (b9 fx F) (base 0)) [QB l s bb,PR s].length rest [] e1 H1 (fun x kn e2 H2=> ∃ H3,cv (b9 fx F) 113 [.ptr 0 0] H2=some (.tup [],H3)/\wL vf.res [QB l s bb,PR s].length (fun v H'=> ∃ r s1,o=some (.ok r s1)/\leftV l bb [] (fun r s'=> .d (nF l s r s')) r s1=(v,H'.take [QB l s bb,PR s].length)) x kn e2 H3) (qT o)) (qT o)):uc fx F base l pre rest t vf a s bb o:=by
 cases o with
 |none=>trivial
 |some y=>
  rcases a9b (R:=fun v H'=> ∃ r s1,some y=some (EX.ok r s1)/\leftV l bb [] (fun r s'=> .d (nF l s r s')) r s1=(v,H')) hk (h (by simp))with⟨r,H',h1,r',s',h2,h3⟩|⟨x,h1,c,f',e,h2,h3⟩
  ·cases h2;cases h3;exact h1
  ·cases h2;subst h3;exact h1
theorem ll {k:Pr} (E:aF l g (.down k) s=o):aF l g k (down s)=o:=E
theorem Zu (W:Wk fx F base l) (LB:gm fx F base l n cu [.d (.int .i64 1)] fun _ b=> .row 0 b) (h:fb l s=true) (hb:Zf s):uc fx F base l (Er CB.F.body) (wM CB.F.body) 7 CB.F [] s bb (cM l (n+1) (.expr bb) s):=by
  refine tg rfl fun N=>?_;have A:=At.start h hb;have E:aF l (cM l n) (prog (.expr bb)) s=cM l (n+1) (.expr bb) s:=rfl;generalize cM l (n+1) (.expr bb) s=o at E N⊢
  repeat' (first|refine dA ⟨?_⟩|refine ot ?_|(refine oq ?_;clear A E;intro A E)|(refine oj ?_ ?_<;>clear E<;>intro c E)|(refine wq2 ?_ ?_<;>clear A E<;>intro A E)|(refine bH A E ?_ ?_<;>clear E<;>intro E)|(refine oi ?_;clear A E;intro i s2 E hat A)|exact cZ W A E|(refine nk (Gf A.ok) ?_)|(refine kT W A (C0 W.hl) E ?_;clear A E;intro hB A E)|(refine ct W A E N (LB _ _ A.ok A.bc) rfl (fun _ _=>rfl) ?_;clear A E;intro r s1 G A E)|(refine⟨rfl,rfl,?_⟩)|(refine⟨_,gL,?_⟩)|fail)
  all_goals exact⟨_,_,(ll E).symm,rfl⟩
end
section
variable {fx:Nat->Option Obj} {F:Nat->Option dF} {l:List TokQ} {s s1:PS} {bb:Bool} {X:Hp} {base:Nat->dk} {n:Nat} {o:Option EX} {b:Bool} {p:Int} {g:Q->PS->Option EX} {K:V->Hp->Prop}
theorem a3w (W:Wk fx F base l) (L:oK fx F base l n) (h:fb l s=true) (hb:Zf s):uc fx F base l (Er Tx.F.body) (wM Tx.F.body) 11 Tx.F [] s bb (cM l (n+1) .typ s):=by
 refine tg rfl fun N=>?_;have A:=At.start h hb;have E:aF l (cM l n) (prog .typ) s=cM l (n+1) .typ s:=rfl;generalize cM l (n+1) .typ s=o at E N⊢;replace E:=p9 E
 repeat' (first|refine dA ⟨?_⟩|refine ot ?_|(refine oq ?_;clear A E;intro A E)|(refine oj ?_ ?_<;>clear E<;>intro c E)|(refine wq2 ?_ ?_<;>clear A E<;>intro A E)|(refine bH A E ?_ ?_<;>clear E<;>intro E)|(refine oi ?_;clear A E;intro i s2 E hat A)|exact cZ W A E|(refine nk (D8 A.ok) ?_)|(refine kT W A rfl E ?_;clear A E;intro hB A E)|fail)
 replace E:=a3y W.hl A hB N E;unfold YA at E;replace E:=tR E N;obtain⟨hadv,E⟩:=E;have e0:now l (jf s)=now l s:=rfl;simp only[e0]at E;refine nk (oU A.ok) ?_;replace A:=A.sa W.hl hadv;cases c0:decide ((now l s).t=[105,54,52])with
 |true=>
  simp only[c0]at E
  repeat' (first|refine dA ⟨?_⟩|refine ot ?_|(refine oq ?_;clear A E;intro A E)|(refine oj ?_ ?_<;>clear E<;>intro c E)|(refine wq2 ?_ ?_<;>clear A E<;>intro A E)|(refine bH A E ?_ ?_<;>clear E<;>intro E)|(refine oi ?_;clear A E;intro i s2 E hat A)|exact cZ W A E|(refine ct W A E N (L.typ _ _ A.ok A.bc) rfl (fun _ _=>rfl) ?_;clear A E;intro r s1 G A E)|(refine⟨_,gL,?_⟩)|fail)
  all_goals exact⟨_,_,(ll E).symm,rfl⟩
 |false=>
  simp only[c0]at E;cases c1:decide ((now l s).t=[98,111,111,108])with
  |true=>
   simp only[c1]at E
   repeat' (first|refine dA ⟨?_⟩|refine ot ?_|(refine oq ?_;clear A E;intro A E)|(refine oj ?_ ?_<;>clear E<;>intro c E)|(refine wq2 ?_ ?_<;>clear A E<;>intro A E)|(refine bH A E ?_ ?_<;>clear E<;>intro E)|(refine oi ?_;clear A E;intro i s2 E hat A)|exact cZ W A E|(refine ct W A E N (L.typ _ _ A.ok A.bc) rfl (fun _ _=>rfl) ?_;clear A E;intro r s1 G A E)|(refine⟨_,gL,?_⟩)|fail)
   all_goals exact⟨_,_,(ll E).symm,rfl⟩
  |false=>
   simp only[c1]at E;cases c2:decide ((now l s).t=[40])with
   |true=>
    simp only[c2]at E
    repeat' (first|refine dA ⟨?_⟩|refine ot ?_|(refine oq ?_;clear A E;intro A E)|(refine oj ?_ ?_<;>clear E<;>intro c E)|(refine wq2 ?_ ?_<;>clear A E<;>intro A E)|(refine bH A E ?_ ?_<;>clear E<;>intro E)|(refine oi ?_;clear A E;intro i s2 E hat A)|exact cZ W A E|(refine ct W A E N (L.typ _ _ A.ok A.bc) rfl (fun _ _=>rfl) ?_;clear A E;intro r s1 G A E)|(refine⟨_,gL,?_⟩)|fail)
    all_goals exact⟨_,_,(ll E).symm,rfl⟩
   |false=>
    simp only[c2]at E;cases c3:decide ((now l s).t=[38])with
    |true=>
     simp only[c3]at E
     repeat' (first|refine dA ⟨?_⟩|refine ot ?_|(refine oq ?_;clear A E;intro A E)|(refine oj ?_ ?_<;>clear E<;>intro c E)|(refine wq2 ?_ ?_<;>clear A E<;>intro A E)|(refine bH A E ?_ ?_<;>clear E<;>intro E)|(refine oi ?_;clear A E;intro i s2 E hat A)|exact cZ W A E|(refine ct W A E N (L.typ _ _ A.ok A.bc) rfl (fun _ _=>rfl) ?_;clear A E;intro r s1 G A E)|(refine⟨_,gL,?_⟩)|fail)
     all_goals exact⟨_,_,(ll E).symm,rfl⟩
    |false=>
     simp only[c3]at E;cases c4:decide ((now l s).t=[66,111,120])with
     |true=>
      simp only[c4]at E
      repeat' (first|refine dA ⟨?_⟩|refine ot ?_|(refine oq ?_;clear A E;intro A E)|(refine oj ?_ ?_<;>clear E<;>intro c E)|(refine wq2 ?_ ?_<;>clear A E<;>intro A E)|(refine bH A E ?_ ?_<;>clear E<;>intro E)|(refine oi ?_;clear A E;intro i s2 E hat A)|exact cZ W A E|(refine ct W A E N (L.typ _ _ A.ok A.bc) rfl (fun _ _=>rfl) ?_;clear A E;intro r s1 G A E)|(refine⟨_,gL,?_⟩)|fail)
      all_goals exact⟨_,_,(ll E).symm,rfl⟩
     |false=>
      simp only[c4]at E
      repeat' (first|refine dA ⟨?_⟩|refine ot ?_|(refine oq ?_;clear A E;intro A E)|(refine oj ?_ ?_<;>clear E<;>intro c E)|(refine wq2 ?_ ?_<;>clear A E<;>intro A E)|(refine bH A E ?_ ?_<;>clear E<;>intro E)|(refine oi ?_;clear A E;intro i s2 E hat A)|exact cZ W A E|(refine ct W A E N (L.typ _ _ A.ok A.bc) rfl (fun _ _=>rfl) ?_;clear A E;intro r s1 G A E)|(refine⟨_,gL,?_⟩)|fail)
      all_goals exact⟨_,_,(ll E).symm,rfl⟩
theorem QT {x:S} {k:Pr} (hl:vj l) (A:At l b p s) (h:dj l s x=true):aF l g (.need x k) s=aF l g (.dI k) s:=by
 simp only[aF,h,jZ hl A.ok (nT h)]
theorem Oa {fr:Int} {m:N} {k:Int->Pr} (E:aF l g (.down (.node fr m k)) s=o):aF l g (.node fr m fun i=> .down (k i)) s=o:=by
  simp only[aF]at E⊢;have e:fA l fr m (down s)=(fA l fr m s).map fun q=>(q.1,down q.2):=by
    unfold fA;have e1:(down s).ns=s.ns:=rfl;have e2:(down s).n=s.n:=rfl;have e3:(down s).at_=s.at_:=rfl;simp only[e1,e2,e3];split<;>rfl
  rw[e]at E;cases c:fA l fr m s with
  |none=>rw[c]at E;exact E
  |some q=>rw[c]at E;exact E
theorem VM (W:Wk fx F base l) (LS:Ix fx F base l n ku fun _=> .stmt) (h:fb l s=true) (hb:Zf s):uc fx F base l (Er Tw.F.body) (wM Tw.F.body) 9 Tw.F [] s bb (cM l (n+1) .block s):=by
  refine tg rfl fun N=>?_;have A:=At.start h hb;have E:aF l (cM l n) (prog .block) s=cM l (n+1) .block s:=rfl;generalize cM l (n+1) .block s=o at E N⊢;replace E:=p9 E;have hbeg:dj l s [123]=dP l 98 s:=by simp[dP]
  repeat' (first|refine dA ⟨?_⟩|refine ot ?_|(refine oq ?_;clear A E;intro A E)|(refine oj ?_ ?_<;>clear E<;>intro c E)|(refine wq2 ?_ ?_<;>clear A E<;>intro A E)|(refine bH A E ?_ ?_<;>clear E<;>intro E)|(refine oi ?_;clear A E;intro i s2 E hat A)|exact cZ W A E|(refine DS ?_)|(refine ca (eN A.ok rfl) ?_)|(refine kT W A hbeg E ?_;clear A E;intro hB A E)|fail)
  have A0:=A;have h5:=nT (hbeg.trans hB);obtain⟨hadv,E⟩:=tR ((QT W.hl A0 (hbeg.trans hB)).symm.trans E) N;have A1:=A0.sa W.hl hadv;clear A;refine nk (oU A0.ok) ?_
  repeat' (first|refine dA ⟨?_⟩|refine ot ?_|(refine oq ?_;clear A E;intro A E)|(refine oj ?_ ?_<;>clear E<;>intro c E)|(refine wq2 ?_ ?_<;>clear A E<;>intro A E)|(refine bH A E ?_ ?_<;>clear E<;>intro E)|(refine oi ?_;clear A E;intro i s2 E hat A)|exact cZ W A E|(refine qv (SV W LS N A1.weak E ?_);clear E;intro r s1 A E;refine⟨_,_,rfl,rfl,?_⟩)|(obtain⟨gk,E⟩:=xu N E;replace E:=Oa E)|(refine ao (fq gk).1 ?_)|(refine⟨_,gL,?_⟩)|fail)
  all_goals exact⟨_,_,(ll E).symm,rfl⟩
theorem Nx (W:Wk fx F base l) (L:oK fx F base l n) (LP:gm fx F base l n iO [] fun _ b=> .postfix_ b) (h:fb l s=true) (hb:Zf s):uc fx F base l (Ym zm.F.body) (Qa zm.F.body) 13 zm.F [.d (.bool true)] s bb (cM l (n+1) (.operand bb) s):=by
  refine tg rfl fun N=>?_;have A:=At.start h hb;have E:aF l (cM l n) (prog (.operand bb)) s=cM l (n+1) (.operand bb) s:=rfl;generalize cM l (n+1) (.operand bb) s=o at E N⊢
  repeat' (first|refine dA ⟨?_⟩|refine ot ?_|(refine oq ?_;clear A E;intro A E)|(refine oj ?_ ?_<;>clear E<;>intro c E)|(refine wq2 ?_ ?_<;>clear A E<;>intro A E)|(refine bH A E ?_ ?_<;>clear E<;>intro E)|(refine oi ?_;clear A E;intro i s2 E hat A)|exact cZ W A E|(refine nk (Gf A.ok) ?_)|(refine kT W A (C0 W.hl) E ?_;clear A E;intro hB A E;replace E:=p9 (jv N E))|(refine ct W A E N (L.operand _ _ A.ok A.bc) rfl (fun _ _=>rfl) ?_;clear A E;intro r s1 G A E)|(refine ct W A E N (LP _ _ A.ok A.bc) rfl (fun _ _=>rfl) ?_;clear A E;intro r s1 G A E)|(refine⟨_,gL,?_⟩)|fail)
  all_goals exact⟨_,_,(ll E).symm,rfl⟩
def Th (fx:Nat->Option Obj) (F:Nat->Option dF) (base:Nat->dk) (l:List TokQ) (vf:kK) (a:List V) (s:PS) (bb:Bool) (o:Option EX):Prop:=match o with
 |some (.ok r s1)=>OE (b9 fx F) vf (.ptr 0 0::a) [QB l s bb,PR s] (.d (nF l s r s1)) [QB l s1 bb,PR s1]
 |some (.bad c f e)=>OG (b9 fx F) (cY (b9 fx F) (base 0)) vf (.ptr 0 0::a) [QB l s bb,PR s] (pK c f e)
 |none=>True
theorem PQ {vf:kK} (hk:vf.keep=false) {a:List V}
 (h:o≠none->kA 0 (.ptr 0 0::a) fun e=>WX (b9 fx F) (cY (b9 fx F) (base 0)) [QB l s bb,PR s].length vf.body [] e [QB l s bb,PR s] (wL vf.res [QB l s bb,PR s].length fun v H'=> ∃ r s1,o=some (.ok r s1)/\leftV l bb [] (fun r s'=> .d (nF l s r s')) r s1=(v,H'.take [QB l s bb,PR s].length)) (qT o)):Th fx F base l vf a s bb o:=by
 cases o with
 |none=>trivial
 |some y=>
  rcases a7i (R:=fun v H'=> ∃ r s1,some y=some (EX.ok r s1)/\leftV l bb [] (fun r s'=> .d (nF l s r s')) r s1=(v,H')) hk (h (by simp))with⟨r,H',h1,r',s',h2,h3⟩|⟨x,h1,c,f',e,h2,h3⟩
  ·cases h2;cases h3;exact h1
  ·cases h2;subst h3;exact h1
theorem a6c (W:Wk fx F base l) (L:oK fx F base l n) (LP:gm fx F base l n iO [] fun _ b=> .postfix_ b) (h:fb l s=true) (hb:Zf s):Th fx F base l zm.F [.d (.bool false)] s bb (cM l (n+1) (.prefix_ bb) s):=by
  refine PQ rfl fun N=>?_;have A:=At.start h hb;have E:aF l (cM l n) (prog (.prefix_ bb)) s=cM l (n+1) (.prefix_ bb) s:=rfl;generalize cM l (n+1) (.prefix_ bb) s=o at E N⊢;replace E:=p9 E
  repeat' (first|refine dA ⟨?_⟩|refine ot ?_|(refine oq ?_;clear A E;intro A E)|(refine oj ?_ ?_<;>clear E<;>intro c E)|(refine wq2 ?_ ?_<;>clear A E<;>intro A E)|(refine bH A E ?_ ?_<;>clear E<;>intro E)|(refine oi ?_;clear A E;intro i s2 E hat A)|exact cZ W A E|(refine ct W A E N (L.operand _ _ A.ok A.bc) rfl (fun _ _=>rfl) ?_;clear A E;intro r s1 G A E)|(refine ct W A E N (LP _ _ A.ok A.bc) rfl (fun _ _=>rfl) ?_;clear A E;intro r s1 G A E)|fail)
  all_goals exact⟨_,_,E.symm,rfl⟩
end
abbrev zP:List V:=[.d (.int .i64 0),.d (.str []),.d (.int .i64 0),.nils,.d (.int .i64 0),.d (.int .i64 0)]
abbrev Ut:List aL:=[⟨some 66,.fadr 1 (.t 3),none⟩,⟨some 67,.ld none (.t 66),none⟩,⟨some 68,.bin .add (.t 67) (.c (.d (.str [58,58]))),none⟩,⟨some 69,.mv (.t 0),none⟩,⟨some 70,.call 69 [.t 69],none⟩,⟨some 71,.fld 1 none (.t 70),none⟩,⟨some 72,.bin .add (.t 68) (.t 71),none⟩,⟨some 73,.build zP [(0,1,.c (.d (.int .i64 54))),(1,1,.t 72)],none⟩,⟨some 4,.zbox zP,none⟩,⟨none,.st 6 (.t 4) (.t 73),none⟩]
section
variable {fx:Nat->Option Obj} {F:Nat->Option dF} {l:List TokQ} {s s1:PS} {bb:Bool} {X:Hp} {base:Nat->dk} {n:Nat} {o:Option EX} {b:Bool} {p:Int} {g:Q->PS->Option EX}
def Xs (t u:S) (r:D):Nat->V
 |0=> .ptr 3 1
 |1=> .d (.str t)
 |2=> .d (.str (t++[58,58]))
 |3=> .ptr 0 0
 |4=> .d r
 |5=> .d (.str u)
 |6=> .d (.str (t++[58,58]++u))
 |7=> .agg [.d (.int .i64 54),.d (.str (t++[58,58]++u)),.d (.int .i64 0),.nils,.d (.int .i64 0),.d (.int .i64 0)]
 |_=> .ptr 4 0
def dstP:Nat->Nat
 |8=>4
 |i=>66+i
def v7 (t u:S) (r:D) (e:Env):Nat->Env
 |0=>e
 |n+1=>(dstP n,Xs t u r n)::v7 t u r e n
def sS (kk:Int) (t:S) (v f ee:D):Ob:= .box [.d (.int .i64 kk),.d (.str t),.d v,.d f,.d ee]
def WS (l:List TokQ) (s s1:PS) (bb:Bool) (Z T:Ob) (x y:Bool):Hp:=QB l (if x then s1 else s) bb::PR (if x then s1 else s)::Z::T::(if y then[.box zP] else[])
theorem Gk {orc:iH} {cx:Cx} {t:S} {q:TokQ} {e:Env} {Z:Ob} {kk:Int} {v f ee:D} (h0:bP e 0= .ptr 0 0) (h3:bP e 3= .ptr 3 0) (hl1:t.length+([58,58]:S).length<=9223372036854775807) (hl2:(t++[58,58]).length+q.t.length<=9223372036854775807)
 (i:Nat) (od:aL) (x y:Bool) (hi:i < 9) (ho:Ut[i]? =some od) (hi4:i≠4) (hi8:i≠8):
 aW cx orc od ⟨v7 t q.t (jL q) e i,WS l s s1 bb Z (sS kk t v f ee) x y,2⟩=some ⟨v7 t q.t (jL q) e (i+1),WS l s s1 bb Z (sS kk t v f ee) x y,2⟩:=by
 have hc:i=0\/i=1\/i=2\/i=3\/i=5\/i=6\/i=7:=om;rcases hc with rfl|rfl|rfl|rfl|rfl|rfl|rfl
 ·cases ho;simp only[aW,bn,di,v7,h3];rfl
 ·cases ho;cases x<;>cases y<;>rfl
 ·cases ho;show lay _ _ _ ((fJ .add (.d (.str t)) (.d (.str [58,58]))).map _)=_;simp only[fJ,ay hl1];rfl
 ·cases ho;show some (St.mk (fT (some 69) (bP e 0) _) _ _)=_;rw[h0];rfl
 ·cases ho;rfl
 ·cases ho;show lay _ _ _ ((fJ .add (.d (.str (t++[58,58]))) (.d (.str q.t))).map _)=_;simp only[fJ,ay hl2];rfl
 ·cases ho;rfl
theorem Wr {orc:iH} {cx:Cx} {t u:S} {r:D} {e:Env} {Z T:Ob} (x:Bool):aW cx orc ⟨some 4,.zbox zP,none⟩ ⟨v7 t u r e 8,WS l s s1 bb Z T x false,2⟩=some ⟨v7 t u r e 9,WS l s s1 bb Z T x true,2⟩:=by
 cases x<;>rfl
theorem AJ (W:Wk fx F base l) (A:At l b p s) {Qx:Ex->Kn->Env->Hp->Prop} {kn:Kn} {e:Env} {Z:Ob} {kk:Int} {v f ee:D} {t:S} (h0:bP e 0= .ptr 0 0) (h3:bP e 3= .ptr 3 0) (ht:t.length<=1000000) {k:S->Pr} (E:aF l g (.name k) s=o)
 (hQ:At l true p (dI s)->aF l g (k (now l s).t) (dI s)=o->Qx .dN [] (v7 t (now l s).t (jL (now l s)) e 9) [QB l (dI s) bb,PR (dI s),Z,sS kk t v f ee,.box [.d (.int .i64 54),.d (.str (t++[58,58]++(now l s).t)),.d (.int .i64 0),.nils,.d (.int .i64 0),.d (.int .i64 0)]]):
 WX (b9 fx F) (cY (b9 fx F) (base 0)) 2 (.draw 9 Ut) kn e [QB l s bb,PR s,Z,sS kk t v f ee] Qx (qT o):=by
 have hl1:t.length+([58,58]:S).length<=9223372036854775807:=by simp only[aw,aH];omega
 have hlu:(now l s).t.length<=1000000:=W.hl.txt s.at_.toNat;have hl2:(t++[58,58]).length+(now l s).t.length<=9223372036854775807:=by simp only[ah,aw,aH];omega
 have hrun:=fun(i:Nat) (od:aL) (x y:Bool) hi ho h4 h8=>Gk (l:=l) (s:=s) (s1:=dI s) (bb:=bb) (orc:=cv (b9 fx F)) (cx:=(b9 fx F).toCx) (t:=t) (q:=now l s) (e:=e) (Z:=Z) (kk:=kk) (v:=v) (f:=f) (ee:=ee) h0 h3 hl1 hl2 i od x y hi ho h4 h8;simp only[aF]at E;cases c:decide ((now l s).k=1)with
 |true=>
  rw[c]at E;have hcall:∀ y,aW (b9 fx F).toCx (cv (b9 fx F)) ⟨some 70,.call 69 [.t 69],none⟩ ⟨v7 t (now l s).t (jL (now l s)) e 4,WS l s (dI s) bb Z (sS kk t v f ee) false y,2⟩=some ⟨v7 t (now l s).t (jL (now l s)) e 5,WS l s (dI s) bb Z (sS kk t v f ee) true y,2⟩:=by
   intro y;have:=(qV (X:=Z::sS kk t v f ee::(if y then[.box zP] else[])) (bb:=bb) W.hF W.hb A.ok c).1 rfl;show lay _ _ _ (cv (b9 fx F) 69 [.ptr 0 0] (QB l s bb::PR s::Z::sS kk t v f ee::(if y then[.box zP] else[])))=_;rw[this];rfl
  have D:FQ (b9 fx F).toCx (cv (b9 fx F)) 9 Ut ⟨e,[QB l s bb,PR s,Z,sS kk t v f ee],2⟩ 4 8 (v7 t (now l s).t (jL (now l s)) e) (Xs t (now l s).t (jL (now l s))) (WS l s (dI s) bb Z (sS kk t v f ee)):=by
   refine⟨by decide,by decide,by decide,by decide,rfl,rfl,fun i od hi ho=>?_,fun i od x y hi ho h4 h8=>?_⟩
   ·have hc:i=0\/i=1\/i=2\/i=3\/i=4\/i=5\/i=6\/i=7\/i=8:=om;rcases hc with rfl|rfl|rfl|rfl|rfl|rfl|rfl|rfl|rfl<;>cases ho<;>rfl
   ·by_cases e4:i=4
    ·subst e4;cases ho;rw[h4 rfl,show(y||decide (4=8))=y by simp];exact hcall y
    ·by_cases e8:i=8
     ·subst e8;cases ho;rw[h8 rfl,show(x||decide (8=4))=x by simp];exact Wr x
     ·rw[ak e4,ak e8,nx,nx];exact hrun i od x y hi ho e4 e8
  refine⟨fun _=> .inl ⟨.dN,[],_,_,?_,dT.nil _,hQ (A.dI W.hl (by have:=af c;omega)) E⟩⟩;have q0:=hrun 0 _ false false (by decide) rfl (by decide) (by decide);have q1:=hrun 1 _ false false (by decide) rfl (by decide) (by decide);have q2:=hrun 2 _ false false (by decide) rfl (by decide) (by decide);have q3:=hrun 3 _ false false (by decide) rfl (by decide) (by decide);have q5:=hrun 5 _ true false (by decide) rfl (by decide) (by decide);have q6:=hrun 6 _ true false (by decide) rfl (by decide) (by decide);have q7:=hrun 7 _ true false (by decide) rfl (by decide) (by decide);have q8:=Wr (l:=l) (s:=s) (s1:=dI s) (bb:=bb) (orc:=cv (b9 fx F)) (cx:=(b9 fx F).toCx) (t:=t) (u:=(now l s).t) (r:=jL (now l s)) (e:=e) (Z:=Z) (T:=sS kk t v f ee) true;have hops:bQ (b9 fx F).toCx (cv (b9 fx F)) Ut ⟨e,[QB l s bb,PR s,Z,sS kk t v f ee],2⟩=some ⟨v7 t (now l s).t (jL (now l s)) e 9,[QB l (dI s) bb,PR (dI s),Z,sS kk t v f ee,.box [.d (.int .i64 54),.d (.str (t++[58,58]++(now l s).t)),.d (.int .i64 0),.nils,.d (.int .i64 0),.d (.int .i64 0)]],2⟩:=by
   show(aW _ _ _ ⟨v7 t (now l s).t (jL (now l s)) e 0,WS l s (dI s) bb Z (sS kk t v f ee) false false,2⟩).bind _=_;rw[q0,aP];show(aW _ _ _ _).bind _=_;rw[q1,aP];show(aW _ _ _ _).bind _=_;rw[q2,aP];show(aW _ _ _ _).bind _=_;rw[q3,aP];show(aW _ _ _ _).bind _=_;rw[hcall false,aP];show(aW _ _ _ _).bind _=_;rw[q5,aP];show(aW _ _ _ _).bind _=_;rw[q6,aP];show(aW _ _ _ _).bind _=_;rw[q7,aP];show(aW _ _ _ _).bind _=_;rw[q8,aP];rfl
  show(l8 _ _ _ _ _).map _=_;rw[gA.2 ⟨hops,.inr (.inr (.inl ⟨4,8,_,_,_,D⟩))⟩];rfl
 |false=>
  rw[c]at E;refine⟨fun _=> .inr ⟨_,.drawZ (d:=4) (a:=8) (ta:=4) (z:=zP) (od:=⟨some 70,.call 69 [.t 69],none⟩) (cl:=fun i=>decide (i < 4)||decide (i=8)) (ε:=fun i=>if i < 4 then v7 t [] (jL default) e i else if i < 9 then v7 t [] (jL default) e 4 else(4,.ptr 4 0)::v7 t [] (jL default) e 4) (val:=fun i=>Xs t [] (jL default) i) (Hz:=fun y=>if y then[QB l s bb,PR s,Z,sS kk t v f ee]++[.box zP] else[QB l s bb,PR s,Z,sS kk t v f ee]) ⟨by decide,by decide,by decide,rfl,rfl,rfl,rfl,rfl,fun _=>rfl,fun i od hi ho hc h4=>?_,fun i od hi ho=>?_,fun i od hi ho hc h8=>?_,fun i od y hi ho hc h8=>?_,rfl⟩ fun y=>?_,⟨_,_,_,E.symm,rfl⟩⟩⟩
  ·have hcc:i=5\/i=6\/i=7:=by
    simp only[Bool.or_eq_false_iff,bX]at hc;omega
   rcases hcc with rfl|rfl|rfl<;>cases ho
   ·exact⟨70,by decide,4,_,by decide,rfl,rfl,rfl⟩
   ·exact⟨71,by decide,5,_,by decide,rfl,rfl,rfl⟩
   ·exact⟨72,by decide,6,_,by decide,rfl,rfl,rfl⟩
  ·have hcc:i=0\/i=1\/i=2\/i=3\/i=4\/i=5\/i=6\/i=7\/i=8:=om;rcases hcc with rfl|rfl|rfl|rfl|rfl|rfl|rfl|rfl|rfl<;>cases ho<;>rfl
  ·have hcc:i=0\/i=1\/i=2\/i=3:=by
    simp only[bg,an]at hc;omega
   rcases hcc with rfl|rfl|rfl|rfl<;>cases ho<;>rfl
  ·have hcc:i=0\/i=1\/i=2\/i=3:=by
    simp only[bg,an]at hc;omega
   have hr:=Gk (l:=l) (s:=s) (s1:=dI s) (bb:=bb) (orc:=cv (b9 fx F)) (cx:=(b9 fx F).toCx) (t:=t) (q:=default) (e:=e) (Z:=Z) (kk:=kk) (v:=v) (f:=f) (ee:=ee) h0 h3 hl1 (by show(t++[58,58]).length+0<=_;simp only[ah,aw,aH];omega) i od false y om ho om om;rcases hcc with rfl|rfl|rfl|rfl<;>cases y<;>exact hr
  ·have hd:=(qV (X:=Z::sS kk t v f ee::(if y then[.box zP] else[])) (bb:=bb) W.hF W.hb A.ok c).2 rfl;cases y<;>exact hd
end
section
variable {fx:Nat->Option Obj} {F:Nat->Option dF} {l:List TokQ} {s s1:PS} {bb:Bool} {X:Hp} {base:Nat->dk} {n:Nat} {o:Option EX} {b:Bool} {p:Int} {g:Q->PS->Option EX} {K:V->Hp->Prop}
theorem a6a (A:At l true p s) {m:N} {k:Int->Pr} (E:aF l g (.node p m k) s=o) (N:o≠none) {Y:Go.Vm.D} (hY:Y=m.D 0 0) {f:Int} (hf:f=(l.getD p.toNat default).f)
 (h:∀ i s1,aF l g (k i) s1=o->s1.at_=s.at_->At l true p s1->K (.d (su i f (l.getD (w (s1.at_ - 1)).toNat default).e)) (QB l s1 bb::PR s1::X)):
 ∃ r H',cv (b9 fx F) k9 [.ptr 0 0,.d Y,.d (.int .i64 f)] (QB l s bb::PR s::X)=some (r,H')/\K r H':=by
 subst hY;subst hf;simp only[aF]at E;cases c:fA l p m s with
 |none=>rw[c]at E;exact absurd E.symm N
 |some q=>
  obtain⟨i,s1⟩:=q;rw[c]at E;obtain⟨ha,hn,hn2,rfl,rfl⟩:=rB c (A.lt rfl);refine⟨_,_,W9 ha hn hn2 m 0 0 _,?_⟩;have:=h _ _ E rfl (A.same rfl mw.rfl');exact this
theorem BL:dP l 112 s=(decide ((now l s).k=1)||decide ((now l s).k=3)||dj l s [95]||dj l s [116,114,117,101]||dj l s [102,97,108,115,101]||dj l s [45]):=by
 simp[dP,anyS,Qu,Bool.or_assoc]
theorem a6k (W:Wk fx F base l) (L:oK fx F base l n) (h:fb l s=true) (hb:Zf s):uc fx F base l (Yn CA.F.body) (Qb CA.F.body) 33 CA.F [] s bb (cM l (n+1) .pattern s):=by
 refine tg rfl fun N=>?_;have A:=At.start h hb;have E:aF l (cM l n) (prog .pattern) s=cM l (n+1) .pattern s:=rfl;generalize cM l (n+1) .pattern s=o at E N⊢;replace E:=p9 E;cases c1:decide ((now l s).k=1)with
 |true=>
  have c3:decide ((now l s).k=3)=false:=ak (by have:=af c1;omega);have hB0:true=dP l 112 s:=by simp[BL,c1]
  repeat' (first|refine dA ⟨?_⟩|refine ot ?_|(refine oq ?_;clear A E;intro A E)|(refine oj ?_ ?_<;>clear E<;>intro c E)|(refine wq2 ?_ ?_<;>clear A E<;>intro A E)|(refine bH A E ?_ ?_<;>clear E<;>intro E)|(refine oi ?_;clear A E;intro i s2 E hat A)|exact cZ W A E|(refine kT W A hB0 E ?_;clear A E;intro hB A E)|fail)
  replace E:=Da W.hl A hB N E;unfold GF at E;obtain⟨hadv,E⟩:=tR E N;have e0:now l (jf s)=now l s:=rfl;simp only[e0]at E;replace A:=A.sa W.hl hadv;simp only[c1,c3]at E
  repeat' (first|refine dA ⟨?_⟩|refine ot ?_|(refine oq ?_;clear A E;intro A E)|(refine oj ?_ ?_<;>clear E<;>intro c E)|(refine wq2 ?_ ?_<;>clear A E<;>intro A E)|(refine bH A E ?_ ?_<;>clear E<;>intro E)|(refine oi ?_;clear A E;intro i s2 E hat A)|exact cZ W A E|(refine ct W A E N (L.pat _ _ A.ok A.bc) rfl (fun _ _=>rfl) ?_;clear A E;intro r s1 G A E)|(refine AJ W A rfl rfl (W.hl.txt _) E ?_;clear A E;intro A E)|(refine⟨_,gL,?_⟩)|fail)
  all_goals exact⟨_,_,(ll E).symm,rfl⟩
 |false=>
  cases c3:decide ((now l s).k=3)with
  |true=>
   have hB0:true=dP l 112 s:=by simp[BL,c3]
   repeat' (first|refine dA ⟨?_⟩|refine ot ?_|(refine oq ?_;clear A E;intro A E)|(refine oj ?_ ?_<;>clear E<;>intro c E)|(refine wq2 ?_ ?_<;>clear A E<;>intro A E)|(refine bH A E ?_ ?_<;>clear E<;>intro E)|(refine oi ?_;clear A E;intro i s2 E hat A)|exact cZ W A E|(refine kT W A hB0 E ?_;clear A E;intro hB A E)|fail)
   replace E:=Da W.hl A hB N E;unfold GF at E;obtain⟨hadv,E⟩:=tR E N;have e0:now l (jf s)=now l s:=rfl;simp only[e0]at E;replace A:=A.sa W.hl hadv;simp only[c3]at E
   repeat' (first|refine dA ⟨?_⟩|refine ot ?_|(refine oq ?_;clear A E;intro A E)|(refine oj ?_ ?_<;>clear E<;>intro c E)|(refine wq2 ?_ ?_<;>clear A E<;>intro A E)|(refine bH A E ?_ ?_<;>clear E<;>intro E)|(refine oi ?_;clear A E;intro i s2 E hat A)|exact cZ W A E|(refine ct W A E N (L.pat _ _ A.ok A.bc) rfl (fun _ _=>rfl) ?_;clear A E;intro r s1 G A E)|(refine AJ W A rfl rfl (W.hl.txt _) E ?_;clear A E;intro A E)|(refine⟨_,gL,?_⟩)|fail)
   all_goals exact⟨_,_,(ll E).symm,rfl⟩
  |false=>
   cases u1:dj l s [95] with
   |true=>
    have ht:=Be u1;have d2:decide ((now l s).t=[45])=false:=by rw[ht];decide
    have d3:decide ((now l s).t=[116,114,117,101])=false:=by rw[ht];decide
    have d4:decide ((now l s).t=[102,97,108,115,101])=false:=by rw[ht];decide
    have hB0:true=dP l 112 s:=by simp[BL,u1]
    repeat' (first|refine dA ⟨?_⟩|refine ot ?_|(refine oq ?_;clear A E;intro A E)|(refine oj ?_ ?_<;>clear E<;>intro c E)|(refine wq2 ?_ ?_<;>clear A E<;>intro A E)|(refine bH A E ?_ ?_<;>clear E<;>intro E)|(refine oi ?_;clear A E;intro i s2 E hat A)|exact cZ W A E|(refine ca (eN A.ok u1) ?_)|(refine kT W A hB0 E ?_;clear A E;intro hB A E)|fail)
    replace E:=Da W.hl A hB N E;unfold GF at E;obtain⟨hadv,E⟩:=tR E N;have e0:now l (jf s)=now l s:=rfl;simp only[e0]at E;replace A:=A.sa W.hl hadv;simp only[c1,c3,d2,d3,d4]at E
    repeat' (first|refine dA ⟨?_⟩|refine ot ?_|(refine oq ?_;clear A E;intro A E)|(refine oj ?_ ?_<;>clear E<;>intro c E)|(refine wq2 ?_ ?_<;>clear A E<;>intro A E)|(refine bH A E ?_ ?_<;>clear E<;>intro E)|(refine oi ?_;clear A E;intro i s2 E hat A)|exact cZ W A E|(refine ct W A E N (L.pat _ _ A.ok A.bc) rfl (fun _ _=>rfl) ?_;clear A E;intro r s1 G A E)|(refine AJ W A rfl rfl (W.hl.txt _) E ?_;clear A E;intro A E)|(refine⟨_,gL,?_⟩)|fail)
    all_goals exact⟨_,_,(ll E).symm,rfl⟩
   |false=>
    cases u2:dj l s [45] with
    |true=>
     have ht:=Be u2;have d2:decide ((now l s).t=[45])=true:=by rw[ht];decide
     have d3:decide ((now l s).t=[116,114,117,101])=false:=by rw[ht];decide
     have d4:decide ((now l s).t=[102,97,108,115,101])=false:=by rw[ht];decide
     have hB0:true=dP l 112 s:=by simp[BL,u1,u2]
     repeat' (first|refine dA ⟨?_⟩|refine ot ?_|(refine oq ?_;clear A E;intro A E)|(refine oj ?_ ?_<;>clear E<;>intro c E)|(refine wq2 ?_ ?_<;>clear A E<;>intro A E)|(refine bH A E ?_ ?_<;>clear E<;>intro E)|(refine oi ?_;clear A E;intro i s2 E hat A)|exact cZ W A E|(refine ca (eN A.ok u1) ?_)|(refine ca (eN A.ok u2) ?_)|(refine kT W A hB0 E ?_;clear A E;intro hB A E)|fail)
     replace E:=Da W.hl A hB N E;unfold GF at E;obtain⟨hadv,E⟩:=tR E N;have e0:now l (jf s)=now l s:=rfl;simp only[e0]at E;replace A:=A.sa W.hl hadv;simp only[c1,c3,d2]at E;cases c9:decide ((now l (dI (jf s))).k=3)with
     |false=>
      replace E:=Ss E c9;have hc:(!decide ((now l (dI (jf s))).k=3))=true:=by rw[c9];rfl
      repeat' (first|refine dA ⟨?_⟩|refine ot ?_|(refine oq ?_;clear A E;intro A E)|(refine oj ?_ ?_<;>clear E<;>intro c E)|(refine wq2 ?_ ?_<;>clear A E<;>intro A E)|(refine bH A E ?_ ?_<;>clear E<;>intro E)|(refine oi ?_;clear A E;intro i s2 E hat A)|exact cZ W A E|fail)
     |true=>
      replace E:=Ss E c9;have hc:(!decide ((now l (dI (jf s))).k=3))=false:=by rw[c9];rfl
      obtain⟨hadv2,E⟩:=tR (a8x E) N;have A2:=A.sa W.hl hadv2
      repeat' (first|refine dA ⟨?_⟩|refine ot ?_|(refine oq ?_;clear A E;intro A E)|(refine oj ?_ ?_<;>clear E<;>intro c E)|(refine wq2 ?_ ?_<;>clear A E<;>intro A E)|(refine bH A E ?_ ?_<;>clear E<;>intro E)|(refine oi ?_;clear A E;intro i s2 E hat A)|exact cZ W A E|(refine OS (Ek 2 (by decide) (by decide) ?_))|(refine ca (oU A.ok) ?_)|(refine a6a A2 E N rfl rfl ?_;clear A E;intro i s2 E hat A)|(refine⟨_,gL,?_⟩)|fail)
      all_goals exact⟨_,_,(ll E).symm,rfl⟩
    |false=>
     cases u3:dj l s [116,114,117,101] with
     |true=>
      have ht:=Be u3;have d2:decide ((now l s).t=[45])=false:=by rw[ht];decide
      have d3:decide ((now l s).t=[116,114,117,101])=true:=by rw[ht];decide
      have d4:decide ((now l s).t=[102,97,108,115,101])=false:=by rw[ht];decide
      have hB0:true=dP l 112 s:=by simp[BL,u1,u2,u3]
      repeat' (first|refine dA ⟨?_⟩|refine ot ?_|(refine oq ?_;clear A E;intro A E)|(refine oj ?_ ?_<;>clear E<;>intro c E)|(refine wq2 ?_ ?_<;>clear A E<;>intro A E)|(refine bH A E ?_ ?_<;>clear E<;>intro E)|(refine oi ?_;clear A E;intro i s2 E hat A)|exact cZ W A E|(refine ca (eN A.ok u1) ?_)|(refine ca (eN A.ok u2) ?_)|(refine ca (eN A.ok u3) ?_)|(refine kT W A hB0 E ?_;clear A E;intro hB A E)|fail)
      replace E:=Da W.hl A hB N E;unfold GF at E;obtain⟨hadv,E⟩:=tR E N;have e0:now l (jf s)=now l s:=rfl;simp only[e0]at E;replace A:=A.sa W.hl hadv;simp only[c1,c3,d2,d3]at E
      repeat' (first|refine dA ⟨?_⟩|refine ot ?_|(refine oq ?_;clear A E;intro A E)|(refine oj ?_ ?_<;>clear E<;>intro c E)|(refine wq2 ?_ ?_<;>clear A E<;>intro A E)|(refine bH A E ?_ ?_<;>clear E<;>intro E)|(refine oi ?_;clear A E;intro i s2 E hat A)|exact cZ W A E|(refine ct W A E N (L.pat _ _ A.ok A.bc) rfl (fun _ _=>rfl) ?_;clear A E;intro r s1 G A E)|(refine AJ W A rfl rfl (W.hl.txt _) E ?_;clear A E;intro A E)|(refine⟨_,gL,?_⟩)|fail)
      all_goals exact⟨_,_,(ll E).symm,rfl⟩
     |false=>
      cases u4:dj l s [102,97,108,115,101] with
      |true=>
       have ht:=Be u4;have d2:decide ((now l s).t=[45])=false:=by rw[ht];decide
       have d3:decide ((now l s).t=[116,114,117,101])=false:=by rw[ht];decide
       have d4:decide ((now l s).t=[102,97,108,115,101])=true:=by rw[ht];decide
       have hB0:true=dP l 112 s:=by simp[BL,u1,u2,u3,u4]
       repeat' (first|refine dA ⟨?_⟩|refine ot ?_|(refine oq ?_;clear A E;intro A E)|(refine oj ?_ ?_<;>clear E<;>intro c E)|(refine wq2 ?_ ?_<;>clear A E<;>intro A E)|(refine bH A E ?_ ?_<;>clear E<;>intro E)|(refine oi ?_;clear A E;intro i s2 E hat A)|exact cZ W A E|(refine ca (eN A.ok u1) ?_)|(refine ca (eN A.ok u2) ?_)|(refine ca (eN A.ok u3) ?_)|(refine ca (eN A.ok u4) ?_)|(refine kT W A hB0 E ?_;clear A E;intro hB A E)|fail)
       replace E:=Da W.hl A hB N E;unfold GF at E;obtain⟨hadv,E⟩:=tR E N;have e0:now l (jf s)=now l s:=rfl;simp only[e0]at E;replace A:=A.sa W.hl hadv;simp only[c1,c3,d2,d3,d4]at E
       repeat' (first|refine dA ⟨?_⟩|refine ot ?_|(refine oq ?_;clear A E;intro A E)|(refine oj ?_ ?_<;>clear E<;>intro c E)|(refine wq2 ?_ ?_<;>clear A E<;>intro A E)|(refine bH A E ?_ ?_<;>clear E<;>intro E)|(refine oi ?_;clear A E;intro i s2 E hat A)|exact cZ W A E|(refine ct W A E N (L.pat _ _ A.ok A.bc) rfl (fun _ _=>rfl) ?_;clear A E;intro r s1 G A E)|(refine AJ W A rfl rfl (W.hl.txt _) E ?_;clear A E;intro A E)|(refine⟨_,gL,?_⟩)|fail)
       all_goals exact⟨_,_,(ll E).symm,rfl⟩
      |false=>
       have hB0:dP l 112 s=false:=by simp[BL,c1,c3,u1,u2,u3,u4]
       repeat' (first|refine dA ⟨?_⟩|refine ot ?_|(refine oq ?_;clear A E;intro A E)|(refine oj ?_ ?_<;>clear E<;>intro c E)|(refine wq2 ?_ ?_<;>clear A E<;>intro A E)|(refine bH A E ?_ ?_<;>clear E<;>intro E)|(refine oi ?_;clear A E;intro i s2 E hat A)|exact cZ W A E|(refine ca (eN A.ok u1) ?_)|(refine ca (eN A.ok u2) ?_)|(refine ca (eN A.ok u3) ?_)|(refine ca (eN A.ok u4) ?_)|(refine kT W A hB0.symm E ?_;clear A E;intro hB A E;exact absurd (hB0.symm.trans hB) (by decide))|fail)
end
end Go.Vm.Px
namespace Go.Vm.Px
open Go.Vm.Lex (TokQ)
open Go.Vm.Pa hiding go
open Go.Vm.Ite
open Go.Proofs
set_option maxHeartbeats 2000000
def a0r (l:List TokQ) (s:PS) (b:Bool) (r:Nat):Ob:= .box [.d (.sl (l.map jL)),.d (.int .i64 s.at_),.row r s.n,.d (.int .i64 s.deep),.d (.bool b)]
structure wv (H:Hp) (p r:Nat) (l:List TokQ) (s:PS) (bb:Bool):Prop where
 lt:p < r
 box:H[p]? =some (a0r l s bb r)
 row:H[r]? =some (PR s)
theorem Pm {a b:TokQ} (h:jL a=jL b):a=b:=by
 obtain⟨k,t,v,f,e⟩:=a;obtain⟨k',t',v',f',e'⟩:=b;simp only[jL,D.agg.injEq,bS,D.int.injEq,D.str.injEq,true_and,fQ]at h;obtain⟨rfl,rfl,rfl,h1,h2⟩:=h;have h1:f=f':=om;have h2:e=e':=om;rw[h1,h2]
theorem wv.uniq {H:Hp} {p r r':Nat} {l l':List TokQ} {s s':PS} {bb bb':Bool} (h:wv H p r l s bb) (h':wv H p r' l' s' bb') (hz:Zf s) (hz':Zf s'):r=r'/\l=l'/\s=s'/\bb=bb':=by
 have e:=h.box.symm.trans h'.box;simp only[a0r,aa,Ob.box.injEq,bS,V.d.injEq,D.sl.injEq,D.int.injEq,D.bool.injEq,V.row.injEq,true_and,fQ]at e;obtain⟨e1,e2,⟨rfl,e4⟩,e5,e6⟩:=e;have e7:=h.row.symm.trans h'.row;simp only[PR,aa,Ob.row.injEq,true_and]at e7;refine⟨rfl,?_,?_,e6⟩
 ·exact(List.map_inj_right fun _ _ h=>Pm h).1 e1
 ·obtain⟨a,d,ns,n,bc,bf,be⟩:=s;obtain⟨a',d',ns',n',bc',bf',be'⟩:=s';obtain⟨z1,z2,z3⟩:=hz;obtain⟨y1,y2,y3⟩:=hz';simp only at*;subst e2;subst e4;subst e5;subst e7;subst z1;subst z2;subst z3;subst y1;subst y2;subst y3;rfl
def vH (p r N:Nat):Nat->Nat:=fun i=>if i=0 then p else if i=1 then r else N+(i - 2)
theorem Uc {H:Hp} {p r:Nat} (hp:p < r) (hr:r < H.length):Mv (vH p r H.length) 2 H:=by
 refine⟨fun i j h=>?_,fun j=>?_⟩
 ·unfold vH;split<;>split<;>(try split)<;>(try split)<;>omega
 ·unfold vH;rw[aA om,aA om];omega
theorem wv.rl {H:Hp} {p r:Nat} {l:List TokQ} {s:PS} {bb:Bool} (h:wv H p r l s bb):r < H.length:=(az.1 h.row).1
theorem wv.mv {H:Hp} {p r:Nat} {l:List TokQ} {s:PS} {bb:Bool} (h:wv H p r l s bb):Mv (vH p r H.length) 2 H:=Uc h.lt h.rl
theorem wv.hr {H:Hp} {p r:Nat} {l:List TokQ} {s:PS} {bb:Bool} (h:wv H p r l s bb):HR (vH p r H.length) 2 H [QB l s bb,PR s] H:=by
 refine⟨ai _,rfl,fun i o hi=>?_,fun _ _ _=>rfl⟩;match i,hi with
 |0,hi=>cases hi;exact h.box
 |1,hi=>cases hi;exact h.row
def sE (H:Hp) (p r:Nat) (l:List TokQ) (s:PS) (bb:Bool):Hp:=(H.set p (a0r l s bb r)).set r (PR s)
theorem Bh {H H':Hp} {p r:Nat} {l:List TokQ} {s:PS} {bb:Bool} (hp:p < r) (hr:r < H.length) (h:HR (vH p r H.length) 2 H [QB l s bb,PR s] H'):H'=sE H p r l s bb:=by
 have hlen:H'.length=H.length:=h.len;have h0:H'[p]? =some (a0r l s bb r):=h.get 0 _ rfl;have h1:H'[r]? =some (PR s):=h.get 1 _ rfl;apply fa;intro j;unfold sE;rw[fG,fG];by_cases e1:r=j
 ·subst e1;rw[ay rfl,ay (by rw[cX];exact hr)];exact h1
 ·rw[aA e1];by_cases e2:p=j
  ·subst e2;rw[ay rfl,ay om];exact h0
  ·rw[aA e2];by_cases e3:j < H.length
   ·refine h.out j e3 fun i hi=>?_;unfold vH;split
    ·exact e2
    ·rw[ay om];exact e1
   ·rw[bM om,bM om]
def Yh (f:Nat) (a:List V) (bb:Bool):Option Q:=match f,a with
 |133,[]=>some (.expr bb)
 |75,[]=>some .typ
 |174,[]=>some .pattern
 |76,[]=>some .block
 |161,[.d (.bool true)]=>some (.operand bb)
 |161,[.d (.bool false)]=>some (.prefix_ bb)
 |_,_=>none
theorem Qi {σ:Nat->Nat} {f:Nat} {a:List V} {bb:Bool} {q:Q} (h:Yh f a bb=some q):fM σ a=a:=by
 unfold Yh at h;split at h<;>first|rfl|cases h
structure Good (l:List TokQ) (s:PS):Prop where
 gl:vj l
 gs:fb l s=true
 gz:Zf s
def gx (n f:Nat) (a:List V) (H:Hp) (r:V) (H':Hp):Prop:=∃ p rr a' l s bb q R s1,a= .ptr p 0::a'/\Yh f a' bb=some q/\Good l s/\wv H p rr l s bb/\cM l n q s=some (.ok R s1)/\r= .d (nF l s R s1)/\H'=sE H p rr l s1 bb
theorem QN {n f:Nat} {a:List V} {H H1 H2:Hp} {r1 r2:V} (h:gx n f a H r1 H1) (h':gx n f a H r2 H2):(r1,H1)=(r2,H2):=by
 obtain⟨p,rr,a',l,s,bb,q,R,s1,e1,e2,e3,e4,e5,rfl,rfl⟩:=h;obtain⟨p',rr',a'',l',s',bb',q',R',s1',e1',e2',e3',e4',e5',rfl,rfl⟩:=h';rw[e1]at e1';simp only[bS,V.ptr.injEq,fQ]at e1';obtain⟨rfl,rfl⟩:=e1';obtain⟨rfl,rfl,rfl,rfl⟩:=e4.uniq e4' e3.gz e3'.gz;rw[e2]at e2';cases e2';rw[e5]at e5';cases e5';rfl
open Classical in
noncomputable def wS (n f:Nat):List V->Hp->Option (V×Hp):=fun a H=>if h:∃ r:V×Hp,gx n f a H r.1 r.2 then some h.choose else none
theorem uE {n f:Nat} {a:List V} {H H':Hp} {r:V}:wS n f a H=some (r,H')↔gx n f a H r H':=by
 unfold wS;constructor
 ·intro h;split at h
  ·rename_i hx;have e:=hx.choose_spec;rw[aa]at h;rw[h]at e;exact e
  ·cases h
 ·intro h;have hx:∃ r:V×Hp,gx n f a H r.1 r.2:=⟨(r,H'),h⟩;rw[dif_pos hx];exact aG some (QN hx.choose_spec h)
theorem YL {n f k:Nat} {σ:Nat->Nat} {HB:Hp} (hm:Mv σ k HB) {a:List V} {H H' HH:Hp} {r:V} (R:HR σ k HB H HH) (h:gx n f a H r H'):∃ HH',gx n f (fM σ a) HH (r.sh σ) HH'/\HR σ k HB H' HH':=by
 obtain⟨p,rr,a',l,s,bb,q,Rr,s1,rfl,e2,e3,e4,e5,rfl,rfl⟩:=h;have hb:=R.get p _ e4.box;have hr:=R.get rr _ e4.row;have hpl:=(az.1 e4.box).1;refine⟨sE HH (σ p) (σ rr) l s1 bb,⟨σ p,σ rr,a',l,s,bb,q,Rr,s1,by rw[fM,Qi e2];rfl,e2,e3,⟨hm.mono _ _ e4.lt,hb,hr⟩,e5,rfl,rfl⟩,?_⟩;have q1:=R.set hm hpl (a0r l s1 bb rr);have q2:=q1.set hm (id:=rr) (by rw[cX];exact e4.rl) (PR s1);exact q2
def mD (n p:Nat):dk:=fun f a H x=>HI p f a H x\/∃ rr a' l s bb q c f' e,a= .ptr p 0::a'/\Yh f a' bb=some q/\Good l s/\wv H p rr l s bb/\cM l n q s=some (.bad c f' e)/\x=pK c f' e
theorem uV (n:Nat):m5 (mD n):=by
 refine⟨fun{σ k HB p} hm f a h x H R hh=>?_,fun p f a H x h=> .inl h⟩;rcases hh with h1|⟨rr,a',l,s,bb,q,c,f',e,rfl,e2,e3,e4,e5,rfl⟩
 ·exact .inl (R5 hm _ _ _ _ _ R h1)
 ·exact .inr ⟨σ rr,a',l,s,bb,q,c,f',e,by rw[fM,Qi e2];rfl,e2,e3,⟨hm.mono _ _ e4.lt,R.get p _ e4.box,R.get rr _ e4.row⟩,e5,rfl⟩
noncomputable def FN (n:Nat):Nat->Option dF
 |133=>some (.prim (wS n 133))
 |75=>some (.prim (wS n 75))
 |174=>some (.prim (wS n 174))
 |76=>some (.prim (wS n 76))
 |161=>some (.prim (wS n 161))
 |_=>none
theorem Pv {F:Nat->Option dF} {f:Nat} {vf:kK} (hF:∀ f vf,F f≠some (.code vf)) (h:my F f=some (.code vf)):my F0 f=some (.code vf):=by
 unfold my CV at h⊢;generalize List.find? _ codes=o at h⊢;cases o
 ·exact absurd h (hF _ _)
 ·exact h
theorem MJ (n f:Nat) (vf:kK):FN n f≠some (.code vf):=by
 intro h;unfold FN at h;split at h<;>cases h
theorem MI {n f:Nat} {F:List V->Hp->Option (V×Hp)} (h:FN n f=some (.prim F)):F=wS n f:=by
 unfold FN at h;split at h<;>cases h<;>rfl
theorem Pt {F:Nat->Option dF} {f:Nat} {p:List V->Hp->Option (V×Hp)} (h:my F f=some (.prim p)):F f=some (.prim p):=by
 rcases wJ h with⟨_,_,e⟩|h
 ·cases e
 ·exact h
theorem lf (n:Nat) (fx:Nat->Option Obj):ki (b9 fx (FN n)):=by
 refine⟨fun f F h=>?_,fun f vf h=>(mv fx).code f vf (Pv (MJ n) h)⟩;have:=MI (Pt h);subst this;intro σ k HB hm a H r H' HH R hh;obtain⟨HH',h1,h2⟩:=YL hm R (uE.1 hh);exact⟨HH',uE.2 h1,h2⟩
theorem yq {n:Nat} {fx:Nat->Option Obj} {l:List TokQ} (hl:vj l) {f:Nat} (ht:(b9 fx (FN n)).my f=some (.prim (wS n f))) {a:List V} {q:Bool->Q} (hq:∀ bb,Yh f a bb=some (q bb)) (s:PS) (bb:Bool) (h:fb l s=true) (hz:Zf s):Says (b9 fx (FN n)) (mD n 0) f (.ptr 0 0::a) [QB l s bb,PR s] (cM l n (q bb) s) (leftV l bb [] fun r s'=> .d (nF l s r s')):=by
  have A:wv [QB l s bb,PR s] 0 1 l s bb:=⟨by decide,rfl,rfl⟩;cases c:cM l n (q bb) s with
  |none=>trivial
  |some y=>
   cases y with
   |ok r s1=>
    show cv _ _ _ _=_;rw[jT ht];exact uE.2 ⟨0,1,a,l,s,bb,q bb,r,s1,rfl,hq bb,⟨hl,h,hz⟩,A,c,rfl,rfl⟩
   |bad c' f' e=>exact Bw (.inr ⟨1,a,l,s,bb,q bb,c',f',e,rfl,hq bb,⟨hl,h,hz⟩,A,c,rfl⟩)
theorem YV (n:Nat) (fx:Nat->Option Obj) {l:List TokQ} (hl:vj l):oK fx (FN n) (mD n) l n:=
 ⟨fun s bb h hz=>yq (q:=fun _=> .typ) hl rfl (fun _=>rfl) s bb h hz,fun s bb h hz=>yq (q:=fun _=> .pattern) hl rfl (fun _=>rfl) s bb h hz,fun s bb h hz=>yq (q:=fun b=> .expr b) hl rfl (fun _=>rfl) s bb h hz,fun s bb h hz=>yq (q:=fun _=> .block) hl rfl (fun _=>rfl) s bb h hz,fun s bb h hz=>yq (q:=fun b=> .operand b) hl rfl (fun _=>rfl) s bb h hz,fun s bb h hz=>yq (q:=fun b=> .prefix_ b) hl rfl (fun _=>rfl) s bb h hz⟩
end Go.Vm.Px
set_option maxHeartbeats 0
namespace Go.Vm.Ite
open Go Go.Vm Go.Proofs
def a3h:Laid Tryz.prog (AA [] []) false Tryz.f66:=laid
theorem k66:wq 66 a3h:={}
end Go.Vm.Ite
namespace Go.Vm.Px
open Go.Vm.Lex (TokQ)
open Go.Vm.Pa hiding go
open Go.Vm.Ite
open Go Go.Proofs
def Cm:D->Value
 | .agg [.int .i64 c,.int .i64 f,.int .i64 e]=> .iface 78 (.agg #[.int .i64 c,.int .i64 f,.int .i64 e])
 |_=> .nilIface
def KP (p:Nat) (H:Hp):Prop:=∃ r l s bb,wv H p r l s bb
abbrev Uu:List aL:=match vR a3h.F.body with| .reg l=>l.take 7|_=>[]
abbrev Wy:aU:= .seq (vL a3h.F.body) (.reg Uu)
section
variable {fx:Nat->Option Obj} {F:Nat->Option dF} {l:List TokQ} {s:PS} {bb:Bool}
theorem Ql (h:fb l s=true) (c:Int):∃ s2,ev (b9 fx F) Wy ⟨cJ [.ptr 0 0,.d (.int .i64 c)],[QB l s bb,PR s],2⟩=some (.dN,s2)/\bP s2.e 13= .d (pK c (now l s).f (now l s).e)/\s2.h.take 2=[QB l s bb,PR s]/\s2.b=2/\2<=s2.h.length:=by
 have hx:WQ (b9 fx F) 2 Wy [] [(0,.ptr 0 0),(1,.d (.int .i64 c))] [QB l s bb,PR s] fun x _ e H=>x= .dN/\bP e 13= .d (pK c (now l s).f (now l s).e)/\H.take 2=[QB l s bb,PR s]/\2<=H.length:=by
   repeat' (first|refine run ⟨?_⟩|refine ca (eX h) ?_|fail)
   all_goals first|exact⟨rfl,rfl,rfl,by simp⟩|simp
 obtain⟨x,kn,e',H',h1,_,rfl,h2,h3,h4⟩:=hx.imp (dT.nil _);exact⟨_,h1,h2,h3,rfl,h4⟩
theorem Ub {C:Nat->List Value} {c f e:Int} {v:Value} (h:du C (pK c f e) v):v= .agg #[.int .i64 c,.int .i64 f,.int .i64 e]:=by
 unfold pK du at h;obtain⟨cs,rfl,h⟩:=h;simp only[db,bD,bS,fQ]at h;obtain⟨y1,ys1,h1,_,rfl,y2,ys2,rfl,_,rfl,y3,ys3,rfl,_,rfl,rfl⟩:=h;have:cs= #[.int .i64 c,.int .i64 f,.int .i64 e]:=dH h1;rw[this]
theorem DA (hF:ki (b9 fx F)) (hT:eS Tryz.prog (b9 fx F)) (hmx:Tryz.prog.follows .mixedOrders=true) (p:Nat) (f:Nat) (a:List V) (H:Hp) (x:D) (h:HI p f a H x):og Tryz.prog (b9 fx F).toCx (KP p) Cm f a H x:=by
 obtain⟨rfl,c,l,s,bb,r,rfl,hlt,hr,hp,hs,rfl⟩:=h;have A:wv H p r l s bb:=⟨hlt,hp,hr⟩;obtain⟨s2,e1,e2,e3,e4,e5⟩:=Ql (fx:=fx) (F:=F) (bb:=bb) hs c;obtain⟨S2,E1,R2⟩:=Bn A.mv hF (s:=⟨cJ [.ptr 0 0,.d (.int .i64 c)],[QB l s bb,PR s],2⟩) (S:=⟨cJ [.ptr p 0,.d (.int .i64 c)],H,H.length⟩) (by rfl) ⟨lH (σ:=vH p r H.length) [.ptr 0 0,.d (.int .i64 c)],A.hr,rfl,ai _⟩ e1;have hbody:∃ c0:Code,Tryz.f66.body=some (.seq c0 (.region 1 (Ih (cR (Tryz.f66.body.getD .skip))) false))/\tr Tryz.prog (AA [] []) c0=some (vL a3h.F.body):=⟨_,rfl,kr⟩;obtain⟨c0,hb,ht0⟩:=hbody;obtain⟨c1,hb1,htr,hres,hnt,_⟩:=iM k66.tr;obtain⟨k1,k2,k3⟩:=lR k66.ok;refine⟨⟨Tryz.f66,Tryz.func66,by rw[hb];rfl,k66.name⟩,fun g w cargs hI ra ua=>calls_of_wp Tryz.func66 hb ?_⟩
 have ok0:cg [] (b9 fx F).toCx a3h.F.nt g ⟨cJ [.ptr p 0,.d (.int .i64 c)],H,H.length⟩ {tmps:=cargs++Array.replicate (Tryz.f66.ntmps - cargs.size) undef,defers:=[]} w:=
  ⟨hI,by rw[<-hnt];exact Go.Vm.mb ra ua (show 2<=a3h.F.nt by decide),rfl,ai _⟩
 obtain⟨S1,q1,q2⟩:=iT E1;apply wp_seq;refine rZ hT hmx ht0 (by decide) q1 ok0 fun g1 a1 w1 ok1 x1=>?_;have hb1':=R9 hT hmx q1;show(Code.region 1 _ false).wp _ _ a1 w1;apply wp_region;have q3:bQ (b9 fx F).toCx (cv (b9 fx F)) Uu S1=some S2:=by
  rw[Bo,OJ]at q2;cases hh:bQ (b9 fx F).toCx (cv (b9 fx F)) Uu S1 with
  |none=>rw[hh]at q2;cases q2
  |some y=>rw[hh]at q2;cases q2;rfl
 refine Lu (rest:=[7,8]) (tP hT hmx) ((Ih (cR (Tryz.f66.body.getD .skip))).toList.take 7) 0 Uu (fun k hk=>?_) kr (by decide) q3 ok1 fun g2 a2 w2 ok2 x2=>?_
 ·have hk7:k < 7:=hk;have hc:k=0\/k=1\/k=2\/k=3\/k=4\/k=5\/k=6:=om;rcases hc with rfl|rfl|rfl|rfl|rfl|rfl|rfl<;>rfl
 have hv:a2.tmps.getD 13 undef= .agg #[.int .i64 c,.int .i64 (now l s).f,.int .i64 (now l s).e]:=by
  have h1:=ok2.env.2 13 (by decide);have h2:bP S2.e 13= .d (pK c (now l s).f (now l s).e):=by rw[R2.e,kV,e2];rfl
  rw[h2]at h1;exact Ub h1.1
 have hK:wv S2.h p r l s bb:=by
  have g0:s2.h[0]? =some (QB l s bb):=by
   have:=aG (·[0]?) e3;simpa [aZ] using this
  have g1:s2.h[1]? =some (PR s):=by
   have:=aG (·[1]?) e3;simpa [aZ] using this
  exact⟨hlt,R2.h.get 0 _ g0,R2.h.get 1 _ g1⟩
 rw[wpOps_cons];unfold wpOp;refine .inl ?_;have h13:a2.eval (.tmp 13)= .agg #[.int .i64 c,.int .i64 (now l s).f,.int .i64 (now l s).e]:=hv;have hrun:(execOp a2.eval (Ih (cR (Tryz.f66.body.getD .skip)))[7]).run Tryz.prog w2= .ok (.value (.iface 78 (.agg #[.int .i64 c,.int .i64 (now l s).f,.int .i64 (now l s).e]))) w2:=by
  have ho:(Ih (cR (Tryz.f66.body.getD .skip)))[7].op= .makeInterface 78 (.tmp 13):=rfl;simp only[execOp,ho,h13];rfl
 unfold Oper.wp;rw[hrun,Oper.upon_value];rw[wpOps_cons];unfold wpOp;refine .inl ?_;have hrun2:(execOp (a2.put (some 14) (.iface 78 (.agg #[.int .i64 c,.int .i64 (now l s).f,.int .i64 (now l s).e]))).eval (Ih (cR (Tryz.f66.body.getD .skip)))[8]).run Tryz.prog w2= .halt (.panic (.iface 78 (.agg #[.int .i64 c,.int .i64 (now l s).f,.int .i64 (now l s).e]))) w2:=by
  have ho:(Ih (cR (Tryz.f66.body.getD .skip)))[8].op= .panic (.tmp 14):=rfl;have h14:(a2.put (some 14) (.iface 78 (.agg #[.int .i64 c,.int .i64 (now l s).f,.int .i64 (now l s).e]))).eval (.tmp 14)= .iface 78 (.agg #[.int .i64 c,.int .i64 (now l s).f,.int .i64 (now l s).e]):=by
   have hsz:=ok2.env.1;have hlt14:14 < a2.tmps.size:=by rw[hsz];decide
   simp[Act.put,Act.eval,Array.getD,hlt14]
  simp only[execOp,ho,h14];rfl
 unfold Oper.wp;rw[show(Ih (cR (Tryz.f66.body.getD .skip)))[7].dst=some 14 from rfl,hrun2,Oper.upon_panic];exact⟨ok2.defers,g2,S2.h,rfl,ok2.inv,⟨r,l,s,bb,hK⟩,x1.trans x2 (by rw[hb1'];exact ai _)⟩
end
structure AllW (fx:Nat->Option Obj) (F:Nat->Option dF) (base:Nat->dk) (l:List TokQ) (n:Nat):Prop where
 item:gm fx F base l (n+1) ky [] fun _ _=> .item
 expr:∀ s bb,fb l s=true->Zf s->uc fx F base l (Er CB.F.body) (wM CB.F.body) 7 CB.F [] s bb (cM l (n+1) (.expr bb) s)
 typ:∀ s bb,fb l s=true->Zf s->uc fx F base l (Er Tx.F.body) (wM Tx.F.body) 11 Tx.F [] s bb (cM l (n+1) .typ s)
 pat:∀ s bb,fb l s=true->Zf s->uc fx F base l (Yn CA.F.body) (Qb CA.F.body) 33 CA.F [] s bb (cM l (n+1) .pattern s)
 block:∀ s bb,fb l s=true->Zf s->uc fx F base l (Er Tw.F.body) (wM Tw.F.body) 9 Tw.F [] s bb (cM l (n+1) .block s)
 operand:∀ s bb,fb l s=true->Zf s->uc fx F base l (Ym zm.F.body) (Qa zm.F.body) 13 zm.F [.d (.bool true)] s bb (cM l (n+1) (.operand bb) s)
 pre:∀ s bb,fb l s=true->Zf s->Th fx F base l zm.F [.d (.bool false)] s bb (cM l (n+1) (.prefix_ bb) s)
section
variable {fx:Nat->Option Obj} {F:Nat->Option dF} {l:List TokQ} {base:Nat->dk} {n:Nat}
theorem a0o (W:Wk fx F base l) (L:oK fx F base l n):AllW fx F base l n:=by
 have h:n<=n+1:=Nat.le_succ n;have LI:=Ze W L;have LN:=UL W L (LI.mono h);have LA:=b0h W L;have LM:=match_x W L (LA.mono h);have LB:=Ii W L (n+1) (ai _);have LR:=SM W L (LB.mono h) (LM.mono h);have LP:=Nn W L (fun s bb h1 h2 h3=>(LN s bb h1 h2 h3).mono fun _ e=>kO h e) (LR.mono h);have LX:=Np W (LP.mono h);have B6:=Ok W L;have B5:=Ol W (B6.mono h);have B4:=Om W (B5.mono h);have B3:=Oo W (B4.mono h);have B2:=Oq W (B3.mono h);have B1:=Ot W (B2.mono h);have LS:=Ge W (LR.mono h);have LT:=XT W L (LS.mono h);exact⟨Y9 W L ((Uq W L).mono h) ((Vx W L).mono h) ((MT W L).mono h),fun s bb h1 h2=>Zu W (B1.mono h) h1 h2,fun s bb h1 h2=>a3w W L h1 h2,fun s bb h1 h2=>a6k W L h1 h2,fun s bb h1 h2=>VM W (LT.mono h) h1 h2,fun s bb h1 h2=>Nx W L (LX.mono h) h1 h2,fun s bb h1 h2=>a6c W L (LX.mono h) h1 h2⟩
end
section
variable {fx:Nat->Option Obj} {n:Nat}
structure Tn (fx:Nat->Option Obj) (n:Nat):Prop where
 my:eS Tryz.prog (b9 fx (FN n))
 dies:∀ p,lK Tryz.prog (b9 fx (FN n)).toCx (KP p) Cm (mD n p)
theorem Pu (h:∀ f a H r H',gx n f a H r H'->dw Tryz.prog ⟨fun _=>[],fx⟩ f a H r H'):eS Tryz.prog (b9 fx (FN n)):=by
  refine K4 ⟨fun _=>[],fx⟩ (FN n) fun f e hf=>?_;cases e with
  |code vf=>exact MJ n f vf hf
  |prim p=>
   have:=MI hf;subst this;exact fun args H r H' hh=>h _ _ _ _ _ (uE.1 hh)
theorem Ro {F:Nat->Option dF} (hF:ki (b9 fx F)) {p:Nat} {H:Hp} (h:KP p H):∃ H3,cv (b9 fx F) 113 [.ptr p 0] H=some (.tup [],H3)/\KP p H3:=by
 obtain⟨r,l,s,bb,A⟩:=h;have e:=gL (fx:=fx) (F:=F) (l:=l) (s:=s) (bb:=bb) (X:=[]);obtain⟨H3,h1,h2⟩:=p8 hF A.mv A.hr e;refine⟨H3,h1,r,l,down s,bb,?_⟩;rw[Bh A.lt A.rl h2];have hp:p < H.length:=by have:=A.lt;have:=A.rl;omega
 refine⟨A.lt,?_,?_⟩
 ·unfold sE;rw[aX (by have:=A.lt;omega),bu hp]
 ·unfold sE;rw[bu (by rw[cX];exact A.rl)]
theorem rW:Tryz.prog.follows .mixedOrders=true:=kr
theorem okD {f t:Nat} {fn:Func} {vf:kK} {pre rest:aU} (S:oh Tryz.prog f 113 t fn vf pre rest) (hT:eS Tryz.prog (b9 fx (FN n))) {a:List V} {H:Hp} {p r:Nat} {l:List TokQ} {s s1:PS} {bb:Bool} {R:R} (A:wv H p r l s bb) (hc1:pre.cst=true) (hc2:rest.cst=true) (hn:a.length+1=vf.np) (ha:∀ σ,fM σ a=a)
 (h:ID (b9 fx (FN n)) pre rest t 113 vf 0 (.ptr 0 0::a) [QB l s bb,PR s] (.d (nF l s R s1)) [QB l s1 bb,PR s1]):dw Tryz.prog ⟨fun _=>[],fx⟩ f (.ptr p 0::a) H (.d (nF l s R s1)) (sE H p r l s1 bb):=by
 obtain⟨H',h1,h2⟩:=h.sh (lf n fx) A.mv hc1 hc2 A.hr;rw[Bh A.lt A.rl h2]at h1;have e:fM (vH p r H.length) (.ptr 0 0::a)= .ptr p 0::a:=by rw[fM,ha];rfl
 rw[e]at h1;exact h1.spec S hT rW rfl (by simpa using hn)
theorem Sy {f t:Nat} {fn:Func} {vf:kK} {pre rest:aU} (S:oh Tryz.prog f 113 t fn vf pre rest) (hT:eS Tryz.prog (b9 fx (FN n))) {p:Nat} (hD:lK Tryz.prog (b9 fx (FN n)).toCx (KP p) Cm (mD n p)) {a:List V} {H:Hp} {r:Nat} {l:List TokQ} {s:PS} {bb:Bool} {x:D} (A:wv H p r l s bb) (hc1:pre.cst=true) (hc2:rest.cst=true) (hn:a.length+1=vf.np) (ha:∀ σ,fM σ a=a)
 (h:IE (b9 fx (FN n)) (cY (b9 fx (FN n)) (mD n 0)) pre rest t 0 (.ptr 0 0::a) [QB l s bb,PR s] x):og Tryz.prog ⟨fun _=>[],fx⟩ (KP p) Cm f (.ptr p 0::a) H x:=by
 have hdd:MK (vH p r H.length) 2 H (cY (b9 fx (FN n)) (mD n 0)) (cY (b9 fx (FN n)) (mD n p)):=xy A.mv (lf n fx) ((uV n).sh (p:=0) A.mv);have h1:=h.sh (lf n fx) A.mv hdd hc1 hc2 A.hr;have e:fM (vH p r H.length) (.ptr 0 0::a)= .ptr p 0::a:=by rw[fM,ha];rfl
 rw[e]at h1;exact h1.spec S hT rW (tU hT rW hD) rfl (by simpa using hn) fun H2 hK=>Ro (lf n fx) hK
theorem okL {vf:kK} {fn:Func} {A':vb} {f:Nat} (hf:Tryz.prog.funcs[f]? =some fn) (hname:(fn.name== "runtime.NumGoroutine")=false) (htr:vB Tryz.prog A' vf.keep fn=some vf) (hok:vf.ok=true) (hT:eS Tryz.prog (b9 fx (FN n))) {a:List V} {H:Hp} {p r:Nat} {l:List TokQ} {s s1:PS} {bb:Bool} {R:R} (A:wv H p r l s bb) (hc:vf.body.cst=true) (hn:a.length+1=vf.np) (ha:∀ σ,fM σ a=a)
 (h:OE (b9 fx (FN n)) vf (.ptr 0 0::a) [QB l s bb,PR s] (.d (nF l s R s1)) [QB l s1 bb,PR s1]):dw Tryz.prog ⟨fun _=>[],fx⟩ f (.ptr p 0::a) H (.d (nF l s R s1)) (sE H p r l s1 bb):=by
 obtain⟨H',h1,h2⟩:=h.sh (lf n fx) A.mv hc A.hr;rw[Bh A.lt A.rl h2]at h1;have e:fM (vH p r H.length) (.ptr 0 0::a)= .ptr p 0::a:=by rw[fM,ha];rfl
 rw[e]at h1;obtain⟨x,s2,q1,q2,q3⟩:=h1;exact U2 hT rW hf hname htr hok (by simpa using hn) q1 q2 q3
theorem dieL {vf:kK} {fn:Func} {A':vb} {f:Nat} (hf:Tryz.prog.funcs[f]? =some fn) (hname:(fn.name== "runtime.NumGoroutine")=false) (htr:vB Tryz.prog A' vf.keep fn=some vf) (hok:vf.ok=true) (hT:eS Tryz.prog (b9 fx (FN n))) {p:Nat} (hD:lK Tryz.prog (b9 fx (FN n)).toCx (KP p) Cm (mD n p)) {a:List V} {H:Hp} {r:Nat} {l:List TokQ} {s:PS} {bb:Bool} {x:D} (A:wv H p r l s bb) (hc:vf.body.cst=true) (hn:a.length+1=vf.np) (ha:∀ σ,fM σ a=a)
 (h:OG (b9 fx (FN n)) (cY (b9 fx (FN n)) (mD n 0)) vf (.ptr 0 0::a) [QB l s bb,PR s] x):og Tryz.prog ⟨fun _=>[],fx⟩ (KP p) Cm f (.ptr p 0::a) H x:=by
 have hdd:MK (vH p r H.length) 2 H (cY (b9 fx (FN n)) (mD n 0)) (cY (b9 fx (FN n)) (mD n p)):=xy A.mv (lf n fx) ((uV n).sh (p:=0) A.mv);have h1:=h.sh (lf n fx) A.mv hdd hc A.hr;have e:fM (vH p r H.length) (.ptr 0 0::a)= .ptr p 0::a:=by rw[fM,ha];rfl
 rw[e]at h1;exact Ds hT rW (tU hT rW hD) hf hname htr hok (by simpa using hn) h1
theorem Rj (L:Tn fx n):Tn fx (n+1):=by
 have hT:=L.my;have sh0:∀ σ:Nat->Nat,fM σ []=[]:=fun _=>rfl;have sh1:∀ (b:Bool) (σ:Nat->Nat),fM σ [.d (.bool b)]=[.d (.bool b)]:=fun _ _=>rfl;refine⟨Pu fun f a H r H' h=>?_,fun p f a H x h=>?_⟩
 ·obtain⟨p,rr,a',l,s,bb,q,R,s1,rfl,hq,hg,A,e,rfl,rfl⟩:=h;have W:Wk fx (FN n) (mD n) l:=⟨lf n fx,uV n,hg.gl⟩;have U:=a0o W (YV n fx hg.gl);unfold Yh at hq;split at hq<;>cases hq
  ·have:=U.expr s bb hg.gs hg.gz;rw[e]at this;exact okD b0z hT A kr kr rfl sh0 this
  ·have:=U.typ s bb hg.gs hg.gz;rw[e]at this;exact okD S75 hT A kr kr rfl sh0 this
  ·have:=U.pat s bb hg.gs hg.gz;rw[e]at this;exact okD b0x hT A kr kr rfl sh0 this
  ·have:=U.block s bb hg.gs hg.gz;rw[e]at this;exact okD S76 hT A kr kr rfl sh0 this
  ·have:=U.operand s bb hg.gs hg.gz;rw[e]at this;exact okD b0y hT A kr kr rfl (sh1 true) this
  ·have:=U.pre s bb hg.gs hg.gz;rw[e]at this;exact okL Tryz.func161 Bc.name Bc.tr Bc.ok hT A Bc.cst rfl (sh1 false) this
 ·rcases h with h|⟨rr,a',l,s,bb,q,c,f',e',rfl,hq,hg,A,e,rfl⟩
  ·exact DA (lf n fx) hT rW p f a H x h
  have W:Wk fx (FN n) (mD n) l:=⟨lf n fx,uV n,hg.gl⟩;have U:=a0o W (YV n fx hg.gl);unfold Yh at hq;split at hq<;>cases hq
  ·have:=U.expr s bb hg.gs hg.gz;rw[e]at this;exact Sy b0z hT (L.dies p) A kr kr rfl sh0 this
  ·have:=U.typ s bb hg.gs hg.gz;rw[e]at this;exact Sy S75 hT (L.dies p) A kr kr rfl sh0 this
  ·have:=U.pat s bb hg.gs hg.gz;rw[e]at this;exact Sy b0x hT (L.dies p) A kr kr rfl sh0 this
  ·have:=U.block s bb hg.gs hg.gz;rw[e]at this;exact Sy S76 hT (L.dies p) A kr kr rfl sh0 this
  ·have:=U.operand s bb hg.gs hg.gz;rw[e]at this;exact Sy b0y hT (L.dies p) A kr kr rfl (sh1 true) this
  ·have:=U.pre s bb hg.gs hg.gz;rw[e]at this;exact dieL Tryz.func161 Bc.name Bc.tr Bc.ok hT (L.dies p) A Bc.cst rfl (sh1 false) this
theorem uM (fx:Nat->Option Obj):∀ n,Tn fx n
 |0=>by
  have hT:eS Tryz.prog (b9 fx (FN 0)):=Pu fun f a H r H' h=>by
    obtain⟨_,_,_,_,_,_,_,_,_,_,_,_,_,e,_⟩:=h;cases e
  refine⟨hT,fun p f a H x h=>?_⟩;rcases h with h|⟨_,_,_,_,_,_,_,_,_,_,_,_,_,e,_⟩
  ·exact DA (lf 0 fx) hT rW p f a H x h
  ·cases e
 |n+1=>Rj (uM fx n)
end
end Go.Vm.Px
namespace Go.Vm.Pj
open Go Go.Proofs Go.RowKit
abbrev ou (c f e:Int):Value:= .agg #[.int .i64 c,.int .i64 f,.int .i64 e]
abbrev nq (c f e:Int):Array Value:= #[.int .i64 c,.int .i64 f,.int .i64 e]
theorem Kx (p:Addr) (w:World):
 CallsD Tryz.prog 65 #[.pointer (some p)] .returning w fun e u' w'=>e= .returned (.tuple #[])/\u'= .returning/\w'=w:=by
 refine callsD_of_wpS Tryz.func65 rfl fun c₀ cs hu=>?_;apply wpS_seq;apply wpS_region;simp[wpOpsS,go_sem,recoverD,hu,Tryz.ntmps65,Exit.thenS];apply wpS_seq;refine wpS_of_wp ?_
 go_wp2
 simp only[Exit.thenS];refine wpS_cond (t:=false) (by simp[Act.eval,Array.replicate]) ?_;simp only[eP,iE];refine wpS_of_wp (wp_skip ?_);cases c₀;simp_all[bodyPostS,results,Tryz.results65]
theorem S8 (c f e:Int) (w:World):(Instr.typeAssert (.iface 78 (ou c f e)) 20 78 true).run Tryz.prog w= .ok (.tuple #[ou c f e,.bool true]) w:=kr
set_option maxRecDepth 100000 in
theorem sA (p:Addr) (c f e0:Int) (u:Value) (older:List PanicEntry) (w:World) (hc:w.cell? p=some u) (hz:w.frozen? p=false):
 CallsD Tryz.prog 65 #[.pointer (some p)] (.panicking ({v:= .iface 78 (ou c f e0),recovered:=false }::older)) w fun e u' w'=>
  e= .returned (.tuple #[])/\u'= .panicking ({v:= .iface 78 (ou c f e0),recovered:=true }::older)/\w'=(w.alloc (.cells (nq c f e0) 78)).setCell p (.iface 78 (ou c f e0)):=by
 have ha:=S8;have hlt:p.block < w.heap.size:=by
  rcases Nat.lt_or_ge p.block w.heap.size with h|h
  ·exact h
  ·simp[World.cell?,mq h]at hc
 have hc2:(w.alloc (.cells (nq c f e0) 78)).cell? p=some u:=by rw[World.cell?_alloc_lt _ _ p hlt];exact hc
 have hz2:(w.alloc (.cells (nq c f e0) 78)).frozen? p=false:=by
  have h:=World.frozen?_alloc_old (w:=w) (a:=p) (o:= .cells (nq c f e0) 78) om;exact h.trans hz
 refine callsD_of_wpS Tryz.func65 rfl fun c₀ cs hu=>?_;apply wpS_seq;apply wpS_region;simp[wpOpsS,go_sem,recoverD,hu,Tryz.ntmps65,Exit.thenS];apply wpS_seq;refine wpS_of_wp ?_
 go_wp2
 simp only[Exit.thenS];refine wpS_cond (t:=true) (by simp[Act.eval,Array.replicate]) ?_;simp only[cU];refine wpS_of_wp ?_;simp only[gY,gX,jJ,aq,al,List.setIfInBounds_toArray,jb,lu,iu]
 go_wp2
 simp[bodyPostS,results,Tryz.results65]
abbrev FC (w:World):World:=w.alloc (.cells #[.nilIface] 68)
theorem Mi (k:Int) (a b c d:Value) (w:World):(Instr.field 86 (.agg #[.int .i64 k,a,b,c,d]) 0).run Tryz.prog w= .ok (.int .i64 k) w:=kr
set_option maxRecDepth 100000 in
theorem P1 (rf:Nat) (x0:Value) (w:World) (hcf:∀ W:World,(callFunc rf #[x0]).run Tryz.prog W= .ok (.enter rf #[x0]) W) (R1 R2:World->Prop)
 (h1:Calls Tryz.prog rf #[x0] (FC w) fun e w1=> ∃ v,e= .returned v/\R1 w1)
 (h2:∀ w1,R1 w1->Calls Tryz.prog 38 #[x0] w1 fun e w2=> ∃ a b c d,e= .returned (.agg #[.int .i64 5,a,b,c,d])/\R2 w2)
 (h3:∀ w2,R2 w2->w2.heap[w.heap.size]? =some (.cells #[.nilIface] 68 (0,0))):
 Calls Tryz.prog 36 #[x0,.func (.func rf) #[] #[]] w fun e w'=>e= .returned .nilIface/\∃ w2,R2 w2/\w'=w2.setCell ⟨w.heap.size,0,none⟩ .nilIface:=by
 have hmf:∀ (fn:Fn) (first cap:Array Value) (w:World),(Instr.makeFunc fn first cap).run Tryz.prog w= .ok (.func fn first cap) w:=fun _ _ _ _=>rfl;have hfd:=Mi
 go_enter_defers Tryz.func36,Tryz.ntmps36
 go_wp2
 refine h1.mono ?_;rintro e w1 ⟨v,rfl,r1⟩
 go_wp2_with (go_at_call 38;refine(h2 w1 r1).mono ?_;rintro e w2 ⟨a,b,c,d,rfl,r2⟩;have hc:w2.cell? ⟨w.heap.size,0,none⟩=some .nilIface:=(by simp[World.cell?,h3 w2 r2]);have hz:w2.frozen? ⟨w.heap.size,0,none⟩=false:=(by simp[World.frozen?,h3 w2 r2]))
 refine leaves_cons (f:=65) (args:= #[.pointer (some ⟨w.heap.size,0,none⟩)]) (by simp) (by simp[go_sem]) ?_;refine(Kx ⟨w.heap.size,0,none⟩ _).mono ?_;rintro e u' w'' ⟨rfl,rfl,rfl⟩;have hc2:(w2.setCell ⟨w.heap.size,0,none⟩ .nilIface).cell? ⟨w.heap.size,0,none⟩=some .nilIface:=World.cell?_setCell_same' _ _ _ (by rw[hc];rfl);simp[Leaves,settle,results,Tryz.results36,go_sem,hc2];exact⟨w2,r2,rfl⟩
abbrev a5w (c f e:Int):PanicEntry:={v:= .iface 78 (ou c f e),recovered:=false }
set_option maxRecDepth 100000 in
theorem PZ (rf:Nat) (x0:Value) (w:World) (c f e0:Int) (hcf:∀ W:World,(callFunc rf #[x0]).run Tryz.prog W= .ok (.enter rf #[x0]) W) (R1:World->Prop)
 (h1:Calls Tryz.prog rf #[x0] (FC w) fun e w1=>e= .panicked [a5w c f e0]/\R1 w1)
 (h3:∀ w2,R1 w2->w2.heap[w.heap.size]? =some (.cells #[.nilIface] 68 (0,0))):
 Calls Tryz.prog 36 #[x0,.func (.func rf) #[] #[]] w fun e w'=>e= .returned (.iface 78 (ou c f e0))/\∃ w2,R1 w2/\w'=(w2.alloc (.cells (nq c f e0) 78)).setCell ⟨w.heap.size,0,none⟩ (.iface 78 (ou c f e0)):=by
 have hmf:∀ (fn:Fn) (first cap:Array Value) (w:World),(Instr.makeFunc fn first cap).run Tryz.prog w= .ok (.func fn first cap) w:=fun _ _ _ _=>rfl
 go_enter_defers Tryz.func36,Tryz.ntmps36
 go_wp2
 refine h1.mono ?_;rintro e w1 ⟨rfl,r1⟩;have hb:=h3 w1 r1;have hlt:w.heap.size < w1.heap.size:=(aS.1 hb).1;have hc:w1.cell? ⟨w.heap.size,0,none⟩=some .nilIface:=by simp[World.cell?,hb]
 have hz:w1.frozen? ⟨w.heap.size,0,none⟩=false:=by simp[World.frozen?,hb]
 go_wp2
 refine leaves_cons (f:=65) (args:= #[.pointer (some ⟨w.heap.size,0,none⟩)]) (by simp) (by simp[go_sem]) ?_;refine(sA ⟨w.heap.size,0,none⟩ c f e0 _ [] _ hc hz).mono ?_;rintro e u' w'' ⟨rfl,rfl,rfl⟩;have hc2:((w1.alloc (.cells (nq c f e0) 78)).setCell ⟨w.heap.size,0,none⟩ (.iface 78 (ou c f e0))).cell? ⟨w.heap.size,0,none⟩=some (.iface 78 (ou c f e0)):=World.cell?_setCell_same' _ _ _ (by rw[World.cell?_alloc_lt _ _ ⟨w.heap.size,0,none⟩ hlt,hc];rfl);simp[Leaves,settle,results,Tryz.results36,go_sem,hc2];exact⟨w1,r1,rfl⟩
set_option maxRecDepth 100000 in
theorem PW (rf:Nat) (x0:Value) (w:World) (c f e0 k:Int) (hk:k≠5) (hcf:∀ W:World,(callFunc rf #[x0]).run Tryz.prog W= .ok (.enter rf #[x0]) W) (R1 R2 R3:World->Prop)
 (h1:Calls Tryz.prog rf #[x0] (FC w) fun e w1=> ∃ v,e= .returned v/\R1 w1)
 (h2:∀ w1,R1 w1->Calls Tryz.prog 38 #[x0] w1 fun e w2=> ∃ a b c d,e= .returned (.agg #[.int .i64 k,a,b,c,d])/\R2 w2)
 (h4:∀ w2,R2 w2->Calls Tryz.prog 66 #[x0,.int .i64 120] w2 fun e w3=>e= .panicked [a5w c f e0]/\R3 w3)
 (h3:∀ w2,R3 w2->w2.heap[w.heap.size]? =some (.cells #[.nilIface] 68 (0,0))):
 Calls Tryz.prog 36 #[x0,.func (.func rf) #[] #[]] w fun e w'=>e= .returned (.iface 78 (ou c f e0))/\∃ w2,R3 w2/\w'=(w2.alloc (.cells (nq c f e0) 78)).setCell ⟨w.heap.size,0,none⟩ (.iface 78 (ou c f e0)):=by
 have hmf:∀ (fn:Fn) (first cap:Array Value) (w:World),(Instr.makeFunc fn first cap).run Tryz.prog w= .ok (.func fn first cap) w:=fun _ _ _ _=>rfl;have hfd:=Mi
 go_enter_defers Tryz.func36,Tryz.ntmps36
 go_wp2
 refine h1.mono ?_;rintro e w1 ⟨v,rfl,r1⟩
 go_wp2_with (first|(go_at_call 38;refine(h2 w1 r1).mono ?_;rintro e w2 ⟨y1,y2,y3,y4,rfl,r2⟩)|(go_at_call 66;refine(h4 _ (by assumption)).mono ?_;rintro e w3 ⟨rfl,r3⟩))
 have hb:=h3 _ r3;have hlt:w.heap.size < w3.heap.size:=(aS.1 hb).1;have hc:w3.cell? ⟨w.heap.size,0,none⟩=some .nilIface:=by simp[World.cell?,hb]
 have hz:w3.frozen? ⟨w.heap.size,0,none⟩=false:=by simp[World.frozen?,hb]
 refine leaves_cons (f:=65) (args:= #[.pointer (some ⟨w.heap.size,0,none⟩)]) (by simp) (by simp[go_sem]) ?_;refine(sA ⟨w.heap.size,0,none⟩ c f e0 _ [] _ hc hz).mono ?_;rintro e u' w'' ⟨rfl,rfl,rfl⟩;have hc2:((w3.alloc (.cells (nq c f e0) 78)).setCell ⟨w.heap.size,0,none⟩ (.iface 78 (ou c f e0))).cell? ⟨w.heap.size,0,none⟩=some (.iface 78 (ou c f e0)):=World.cell?_setCell_same' _ _ _ (by rw[World.cell?_alloc_lt _ _ ⟨w.heap.size,0,none⟩ hlt,hc];rfl);simp[Leaves,settle,results,Tryz.results36,go_sem,hc2];exact⟨w3,r3,rfl⟩
end Go.Vm.Pj
