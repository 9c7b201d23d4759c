import Derived.Test.YtocpgkeiakjicaaGreatTypP25
import Derived.Test.YtocpgkeiakjicaaGreatVmFn
import Derived.Maps.RangeRun
import Derived.Test.YtocpgkeiakjicaaGreatVmRun
import Derived.Test.YtocpgkeiakjicaaGreatVmDrawSound
set_option linter.unusedVariables false
set_option linter.unusedSimpArgs false
namespace Go.Vm.Ip
open Go Go.Vm
abbrev sf (P:Program) (t:Nat):Option (List Nat):=match P.underlying t with|some (.struct fs)=>some (fs.toList.map (·.type))|_=>none
structure Tys where
 it:Nat
 ss:Nat
 es:Nat
 fs:Nat
 s:Nat
 e:Nat
 f:Nat
 n:Nat
 fl:Nat
 fd:Nat
 bs:Nat
 b:Nat
 i:Nat
structure i1p (P:Program) (t:Tys):Prop where
 it:sf P t.it=some [t.ss,t.es,t.fs]
 ss:P.underlying t.ss=some (.slice t.s)/\P.bytesOf t.s=40
 es:P.underlying t.es=some (.slice t.e)/\P.bytesOf t.e=40
 fs:P.underlying t.fs=some (.slice t.f)/\P.bytesOf t.f=88
 s:sf P t.s=some [t.n,t.fl]
 e:sf P t.e=some [t.n,t.fl]
 f:sf P t.f=some [t.n,t.fl,t.bs,t.n,t.i]
 n:P.underlying t.n=some .string
 fl:P.underlying t.fl=some (.slice t.fd)/\P.bytesOf t.fd=32
 fd:sf P t.fd=some [t.n,t.n]
 bs:P.underlying t.bs=some (.slice t.b)/\P.bytesOf t.b=1
 b:P.underlying t.b=some .bool
 i:P.underlying t.i=some (.int .i64)
theorem rb:reachBytes=140737488351232:=by decide
end Go.Vm.Ip
namespace Go.Vm
def a6d (a:List V) (h:Hp):Option (V×Hp):=match a with
 |[.d (.sl l)]=>if roomy l.length 32/\l.all (fun x=>x.cells.length==2)=true then some (.d (.sl l),h) else none
 |_=>none
end Go.Vm
namespace Go.Vm
open Go.ChangeMaps (setBlock)
section
variable {P:Program} {cx:Cx} {g:Gh} {H:Hp} {w:World}
theorem Inv.h6p {w':World} (hI:Inv cx g H w) (hs:w.heap.size<=w'.heap.size) (hh:∀ b,((∃ i c,g.J i=some (b,c))\/g.C b≠[]\/cx.fx b≠none)->w'.heap[b]? =w.heap[b]?):Inv cx g H w':=by
 refine⟨hI.inj,fun i b c h=>⟨(hI.dom i b c h).1,Nat.lt_of_lt_of_le (hI.dom i b c h).2 hs⟩,fun i b c o h ho=>?_,fun b hb=>?_,hI.und,hI.glob,fun i o hi=>?_⟩
 ·exact(hI.ob i b c o h ho).ext (Keep.refl H.length g H).w (hh b (.inl ⟨i,c,h⟩)) rfl (by rintro c' rfl;exact hI.und i c' (hI.dom i b c h).1 ho)
 ·rw[hh b (.inr (.inl hb))];exact hI.imm b hb
 ·obtain⟨h1,h2⟩:=hI.fix i o hi
  exact⟨by rw[hh i (.inr (.inr (by rw[hi];simp)))];exact h1,h2⟩
theorem Ext.h6p {nb:Nat} {g':Gh} {H':Hp} {w' w2:World} (h:Ext nb g H w g' H' w') (h1:w2.os=w'.os) (h2:w2.tape=w'.tape) (h3:w2.output=w'.output) (h4:w'.heap.size<=w2.heap.size) (h5:∀ b,b < w.heap.size->w2.heap[b]? =w'.heap[b]?):Ext nb g H w g' H' w2:=
 ⟨h1.trans h.os,h2.trans h.tape,h3.trans h.output,Nat.le_trans h.size h4,fun b hb hj=>⟨(h5 b hb).trans (h.frame b hb hj).1,(h.frame b hb hj).2⟩,h.keep,h.jnew,h.clean,h.len⟩
theorem g2c {ops:Array Oper} {i:Nat} {op:Op} {dst:Option Nat} (h:(ops[i]?).map (fun o=>(o.op,o.dst,o.guard))=some (op,dst,none)) {Q:Exit->Act->World->Prop} {K:Act->World->Prop} {a:Act} {w':World} {x:Value} (hrun:∀ o:Oper,o.op=op->(execOp a.eval o).run P w= .ok (.value x) w') (hk:K (a.put dst x) w'):wpOp P ops Q i K a w:=by
  obtain⟨o,ho,he⟩:=Option.map_eq_some_iff.1 h
  simp only[Prod.mk.injEq]at he
  obtain⟨e1,e2,e3⟩:=he
  unfold wpOp
  simp only[ho]
  rw[if_pos (by simp[Region.wanted,e3])]
  refine .inl ?_
  unfold Oper.wp
  rw[hrun o e1,Oper.upon_value,e2]
  exact hk
theorem h0y:List.range 2=[0,1]:=rfl
theorem g9r:List.range 3=[0,1,2]:=rfl
theorem d0a (k:Nat) (v:V) (e:Env):a1g ((k,v)::e) k=v:=by simp[a1g]
theorem b3q {k i:Nat} (h:k≠i) (v:V) (e:Env):a1g ((k,v)::e) i=a1g e i:=by simp[a1g,h]
theorem e0r (a:Act) (t:Nat):a.eval (.tmp t)=a.tmps.getD t Go.undef:=rfl
theorem c2g {a:Act} {t:Nat} {o:Oper} (h:o.op= .move (.tmp t)):(execOp a.eval o).run P w= .ok (.value (a.tmps.getD t Go.undef)) w:=by simp[execOp,h,Act.eval]
theorem c7m {a:Act} {t:Nat} {o:Oper} (h:o.op= .assign (.tmp t)):(execOp a.eval o).run P w= .ok (.value (a.tmps.getD t Go.undef)) w:=by simp[execOp,h,Act.eval]
theorem e0d {a:Act} {t i:Nat} {o:Oper} {cs:Array Value} {y:Value} (h:o.op= .extract (.tmp t) i) (hv:a.tmps.getD t Go.undef= .tuple cs) (hy:cs[i]? =some y):(execOp a.eval o).run P w= .ok (.value y) w:=by
 simp[execOp,h,Act.eval,hv,Instr.extract,hy]
theorem c9f {pg:Pg} (hT:c0x P pg) (hmx:P.follows .mixedOrders=true) {A:Ann} {N:Nat} (c:Code) (v:a0m) (ht:tr P A c=some v) (hN:v.okN N=true) {s:St} {a:Act} {x:Ex} {s':St} (h:ev pg v s=some (x,s')) (ok:a2b pg.toCx N g s a w)
 {Q:Exit->Act->World->Prop} (hq:∀ g' a' w',a2b pg.toCx N g' s' a' w'->Ext s.b g s.h w g' s'.h w'->Q x.out a' w'):c.wp P Q a w:=by
 obtain⟨n,hn⟩:=d6f h
 obtain⟨hS,hL⟩:=d0n hT hmx n
 exact c0z hS hmx hL c v ht hN hn ok hq
theorem d9e {f:Nat} {fn:Func} {c:Code} {rs:List d2j} {N:Nat} (hf:P.funcs[f]? =some fn) (hb:fn.body=some c) (hname:(fn.name== "runtime.NumGoroutine")=false) (hres:b9k P fn.results.toList=some rs) (hrs:rs.all (e3s N)=true) (hnt:N=fn.ntmps) {args:List V} (hl:args.length<=N) (hu:a1a 0 args=true) {r:V} (hr0:r.und 0=true)
 (hwp:∀ g w a,a2b cx N g ⟨a1z args,[],0⟩ a w->c.wp P (fun x a' w'=>(x= .normal\/x= .ret)/\∃ g' s' vs,a2b cx N g' s' a' w'/\Ext 0 g [] w g' s'.h w'/\a8j s'.e s'.h rs=some vs/\a1a 0 (vs.map (toArg s'.h))=true/\oneOf (vs.map (toArg s'.h))=r) a w) (H:Hp):a8g P cx f args H r H:=by
 refine⟨⟨fn,hf,by rw[hb];rfl,hname⟩,fun g w cargs hI ra ua=>?_⟩
 have hI0:Inv cx (g.cut 0) [] w:=by
  have:=hI.restrict (n:=0) (Nat.zero_le _) (fun i c hi=>om)
  simpa using this
 have ra0:a0z (g.cut 0) [] args cargs.toList:=by
  have:=a7s g H 0
  rw[List.take_zero]at this
  exact a5t this _ _ hu ra
 refine calls_of_wp hf hb ?_
 have ok0:a2b cx N (g.cut 0) ⟨a1z args,[],0⟩ {tmps:=cargs++Array.replicate (fn.ntmps - cargs.size) Go.undef,defers:=[]} w:=
  ⟨hI0,by rw[<-hnt];exact c3a ra0 hu hl,rfl,Nat.le_refl _⟩
 refine wp_mono (hwp _ _ _ ok0) fun x a1 w1 hx=>?_
 obtain⟨hxx,g1,s,vs,ok1,e1,hvs,hu2,hone⟩:=hx
 have goal:a1.defers=[]/\∃ v,(results fn a1.tmps).run P w1= .ok v w1/\∃ g' x,Ending.returned v= .returned x/\Inv cx g' H w1/\Rep g' H r x/\r.und H.length=true/\Ext H.length g H w g' H w1:=by
  refine⟨ok1.defers,?_⟩
  obtain⟨ys,y1,y2,y3⟩:=b2m (P:=P) (fn:=fn) ok1.inv ok1.env hres hrs hvs
  refine⟨_,y1,?_⟩
  have hlen:([]:Hp).length<=s.h.length:=e1.len
  have hc:=e1.clean 0 (Nat.le_refl _) hI0.und
  have ra':=b1g ok1.inv y2
  have ra2:=a5t (a7s g1 s.h 0) _ _ hu2 ra'
  have hinv:=ok1.inv.restrict (n:=0) (Nat.zero_le _) hc
  have hext:=e1.cut (n:=0) rfl (Nat.le_refl _)
  rw[List.take_zero]at ra2 hinv hext
  obtain⟨q1,q2⟩:=e2f (g':=g1.cut 0) hI hinv hext
  refine⟨⟨g.J,(g1.cut 0).C⟩,_,rfl,q1,?_,V.b1k (Nat.zero_le _) _ hr0,q2⟩
  have h3:=c3v ra2
  rw[hone]at h3
  exact a4p (n:=0) (g:=g1.cut 0) (H:=[]) (g':=⟨g.J,(g1.cut 0).C⟩) (H':=H) ⟨fun _=>List.prefix_refl _,fun i _ hi=>om,fun i _ _ hi=>om⟩ _ _ hr0 h3
 rcases hxx with rfl|rfl<;>exact goal
end
end Go.Vm
namespace Go.Vm
section
variable {P:Program} {cx:Cx} {g:Gh} {H:Hp} {w:World}
inductive Loose (cx:Cx) (g:Gh) (w:World) (n sz:Nat):Value->Nat->List Value->Prop
 |nil:Loose cx g w n sz (.slice none 0 0) 0 []
 |at(b cap:Nat) (cur:Array Value) (e:TypeId) (k:Nat) (us:List Value):w.heap[b]? =some (.cells cur e (0,0))->us <+:cur.toList->us.length=k*sz->k<=cap->cur.size=cap*sz->cap<=maxLen->(∀ k c,g.J k≠some (b,c))->g.C b=[]->cx.fx b=none->n<=b->Loose cx g w n sz (.slice (some ⟨b,0,none⟩) k cap) k us
theorem Loose.ext {n nb sz k:Nat} {x:Value} {us:List Value} {g':Gh} {H':Hp} {w':World} (h:Loose cx g w n sz x k us) (e:Ext nb g H w g' H' w'):Loose cx g' w' n sz x k us:=by
 cases h with
 |nil=>exact .nil
 |«at» b cap cur e0 k us h1 h2 hk0 h3 h4 h5 h6 h7 h8 h9=>
  have hlt:=(Array.getElem?_eq_some_iff.1 h1).1
  obtain⟨f1,f2⟩:=e.frame b hlt h6
  refine .at b cap cur e0 k us (f1.trans h1) h2 hk0 h3 h4 h5 (fun k c hk=>?_) (f2.trans h7) h8 h9
  obtain⟨k',c',hk'⟩:=e.jnew k b c hk hlt
  exact h6 k' c' hk'
theorem Loose.cut {n m sz k:Nat} {x:Value} {us:List Value} (h:Loose cx g w n sz x k us):Loose cx (g.cut m) w n sz x k us:=by
 cases h with
 |nil=>exact .nil
 |«at» b cap cur e0 k us h1 h2 hk0 h3 h4 h5 h6 h7 h8 h9=>exact .at b cap cur e0 k us h1 h2 hk0 h3 h4 h5 (fun k c hk=>h6 k c (a5e hk).2) h7 h8 h9
theorem Loose.len {n sz k:Nat} {x:Value} {us:List Value} (h:Loose cx g w n sz x k us):∃ a c,x= .slice a k c:=by cases h<;>exact⟨_,_,rfl⟩
theorem Loose.lens {n sz k:Nat} {x:Value} {us:List Value} (h:Loose cx g w n sz x k us):us.length=k*sz:=by
 cases h with
 |nil=>simp
 |«at» b cap cur e0 k us h1 h2 hk0=>exact hk0
theorem c3d (hI:Inv cx g H w) {b:Nat} (hb:(∃ i c,g.J i=some (b,c))\/g.C b≠[]\/cx.fx b≠none):b < w.heap.size:=by
 rcases hb with⟨k,c,h⟩|h|h
 ·exact(hI.dom k b c h).2
 ·obtain⟨cur,e,fz,h1,_⟩:=hI.imm b h
  exact(Array.getElem?_eq_some_iff.1 h1).1
 ·cases hf:cx.fx b with
  |none=>exact absurd hf h
  |some o=>exact(Array.getElem?_eq_some_iff.1 (hI.fix _ o hf).1).1
theorem d6o (hI:Inv cx g H w) {b:Nat} (hb:w.heap.size<=b):(∀ k c,g.J k≠some (b,c))/\g.C b=[]/\cx.fx b=none:=by
 refine⟨fun k c h=>?_,?_,?_⟩
 ·have:=c3d hI (.inl ⟨k,c,h⟩);omega
 ·by_cases h:g.C b=[]
  ·exact h
  ·have:=c3d hI (.inr (.inl h));omega
 ·by_cases h:cx.fx b=none
  ·exact h
  ·have:=c3d hI (.inr (.inr h));omega
def Stand (w:World) (sz:Nat) (y:Value) (m:Nat) (vs:List Value):Prop:=vs.length=m*sz/\∃ ad c,y= .slice ad m c/\(m=0\/∃ q,ad=some q/\∀ (j:Nat) u,vs[j]? =some u->w.cell? (q.add j)=some u)
theorem Loose.stand {n sz k:Nat} {x:Value} {us:List Value} (h:Loose cx g w n sz x k us):Stand w sz x k us:=by
 refine⟨h.lens,?_⟩
 cases h with
 |nil=>exact⟨_,_,rfl,.inl rfl⟩
 |«at» b cap cur e0 k us h1 h2 hk0 h3 h4 h5 h6 h7 h8 h9=>
  refine⟨_,_,rfl,.inr ⟨_,rfl,fun j u hj=>?_⟩⟩
  rw[c6f h1 j]
  have:=a2y h2 hj
  simpa using this
theorem e4a (hI:Inv cx g H w) {sz:Nat} {l:List D} {y:Value} (r:a3j g.C (.sl l) y) (hall:l.all (fun y=>y.cells.length==sz)=true):∃ vs,Stand w sz y l.length vs/\a1w g.C sz l vs:=by
  obtain⟨ad,cap,hx,_,_⟩:=b2p r
  by_cases hl:l=[]
  ·subst hl
   exact⟨[],⟨by simp,ad,cap,by rw[hx],.inl rfl⟩,by simp[a1w]⟩
  ·obtain⟨q,us,h1,h2,h3,h4⟩:=d9f (sz:=sz) hI hl (hx ▸ r) hall
   exact⟨us,⟨a3l h3,ad,cap,by rw[hx],.inr ⟨q,h1,h4⟩⟩,h3⟩
theorem e6g (hI:Inv cx g H w) {t e ty:TypeId} (ht:P.underlying t=some (.slice e)) {i:TypeInfo} (hi:P.info? e=some i) {z:Value} (hz:i.zero=some z) (hzs:z.cells.size=i.size) {n:Nat} {x:Value} {k m:Nat} {us:List Value} (hx:Loose cx g w n i.size x k us) (hn:n<=w.heap.size) {y:Value} {vs:List Value} (hy:Stand w i.size y m vs) (h1:∀ u∈vs,u.oneCell'=true) (hroom:roomy (k+m) i.bytes):
 ∃ x' w',(Builtin.append_ #[t,t] ty #[x,y]).run P w= .ok x' w'/\Loose cx g w' n i.size x' (k+m) (us++vs)/\Inv cx g H w'/\w'.os=w.os/\w'.tape=w.tape/\w'.output=w.output/\w.heap.size<=w'.heap.size/\∀ b,b < n->w'.heap[b]? =w.heap[b]? :=by
 obtain⟨hvl,ad,c,rfl,hst⟩:=hy
 by_cases hv:m=0
 ·subst hv
  have:vs=[]:=List.eq_nil_of_length_eq_zero om
  subst this
  rw[List.append_nil,Nat.add_zero]
  cases hx with
  |nil=>exact⟨_,w,a6h t ty e i ht hi none 0 0 ad c (Nat.le_refl _) (by simp),.nil,hI,rfl,rfl,rfl,Nat.le_refl _,fun _ _=>rfl⟩
  |«at» b cap cur e0 k us a1 a2 ak a3 a4 a5 a6 a7 a8 a9=>
   exact⟨_,w,a6h t ty e i ht hi _ _ cap ad c a3 (by simp),.at b cap cur e0 k us a1 a2 ak a3 a4 a5 a6 a7 a8 a9,hI,rfl,rfl,rfl,Nat.le_refl _,fun _ _=>rfl⟩
 obtain⟨q,rfl,hnews⟩:=hst.resolve_left hv
 obtain⟨r1,r2⟩:=hroom
 have hlenl:(us++vs).length=(k+m) *i.size:=by rw[List.length_append,hx.lens,hvl,Nat.add_mul]
 have fresh:∀ (cs:Array Value) (cap:Nat),(us++vs) <+:cs.toList->k+m<=cap->cs.size=cap*i.size->cap<=maxLen->Loose cx g (w.drew.alloc (.cells cs e)) n i.size (.slice (some ⟨w.heap.size,0,none⟩) (k+m) cap) (k+m) (us++vs)/\Inv cx g H (w.drew.alloc (.cells cs e)):=by
  intro cs cap p1 p2 p3 p4
  obtain⟨q1,q2,q3⟩:=d6o hI (Nat.le_refl _)
  refine⟨.at _ cap cs e _ _ (heap_alloc_new w.drew _) p1 hlenl p2 p3 p4 q1 q2 q3 hn,hI.h6p (by simp) fun b hb=>heap_alloc_old w.drew _ (c3d hI hb)⟩
 cases hx with
 |nil=>
  simp only[Nat.zero_add]at r1 r2 fresh⊢
  have hrun:=run_append_nil (P:=P) w t ty e i z ht hi hz q m c vs hvl hnews om om om
  refine⟨_,_,hrun,?_⟩
  have hge:=grownCap_ge w m 0 e
  obtain⟨f1,f2⟩:=fresh (vs.toArray++Builtin.zeroCells z.cells (grownCap w m 0 e - m)) (grownCap w m 0 e) (by simp) hge (by simp[size_zeroCells,hzs,hvl,<-Nat.add_mul];congr 1;omega) (grownCap_le_maxLen _ _ _ _ (by simp[maxLen];omega))
  exact⟨f1,f2,rfl,rfl,rfl,by simp,fun b hb=>heap_alloc_old w.drew _ (by show b < w.heap.size;omega)⟩
 |«at» b cap cur e0 k us a1 a2 ak a3 a4 a5 a6 a7 a8 a9=>
  by_cases hin:k+m<=cap
  ·have hmul:k*i.size+vs.length<=cur.size:=by rw[hvl,a4,<-Nat.add_mul];exact Nat.mul_le_mul_right _ hin
   have hrun:=b4i (P:=P) t ty e i ht hi b k cap cur e0 a1 q m c vs hvl hnews h1 hin hmul
   refine⟨_,_,hrun,?_⟩
   have htk:cur.toList.take (k*i.size)=us:=by rw[<-ak];exact(List.prefix_iff_eq_take.1 a2).symm
   have hb:∀ b',b'≠b->(w.setRow b (cur.toList.take (k*i.size)++vs++cur.toList.drop (k*i.size+vs.length)).toArray).heap[b']? =w.heap[b']? :=fun b' hb'=>setRow_other w b b' _ hb'
   refine⟨?_,hI.h6p (by simp) fun b' hb'=>hb b' (fun e=>by
     subst e
     rcases hb' with⟨k,c,h⟩|h|h
     ·exact a6 k c h
     ·exact h a7
     ·exact h a8),rfl,rfl,rfl,by simp,fun b' hb'=>hb b' om⟩
   refine .at b cap _ e0 _ _ (setRow_heap w b cur _ e0 (0,0) a1) ?_ hlenl hin ?_ a5 a6 a7 a8 a9
   ·rw[htk];exact List.prefix_append _ _
   ·simp only[List.size_toArray,List.length_append,List.length_take,List.length_drop,Array.length_toList];omega
  ·have holds:∀ (j:Nat) u,us[j]? =some u->w.cell? ((⟨b,0,none⟩:Addr).add j)=some u:=by
    intro j u hj
    rw[c6f a1 j]
    have:=a2y a2 hj
    simpa using this
   have hrun:=run_append_grow (P:=P) w t ty e i z ht hi hz ⟨b,0,none⟩ k cap us ak holds q m c vs hvl hnews om om (growslice_fits om om)
   refine⟨_,_,hrun,?_⟩
   have hge:=grownCap_ge w (k+m) cap e
   obtain⟨f1,f2⟩:=fresh (us.toArray++vs.toArray++Builtin.zeroCells z.cells (grownCap w (k+m) cap e - (k+m))) (grownCap w (k+m) cap e) (by simp) hge (by simp[size_zeroCells,hzs,hvl,ak,<-Nat.add_mul];congr 1;omega) (grownCap_le_maxLen _ _ _ _ (by simp[maxLen];omega))
   exact⟨f1,f2,rfl,rfl,rfl,by simp,fun b' hb=>heap_alloc_old w.drew _ (by show b' < w.heap.size;omega)⟩
theorem d0q {orc:Orc} (hS:c0h P cx orc) {N:Nat} {ops:Array Oper} {rest:List Nat}:∀ (l:List Oper) (i:Nat) (vs:List a0c),(∀ k,k < l.length->ops[i+k]? =l[k]?)->a1f P ops l=some vs->vs.all (a0c.okN N)=true->∀ {g:Gh} {w:World} {s s':St},a0k cx orc vs s=some s'->∀ {a:Act},a2b cx N g s a w->
 ∀ {Q:Exit->Act->World->Prop},(∀ g' a' w',a2b cx N g' s' a' w'->Ext s.b g s.h w g' s'.h w'->wpOps P ops Q rest a' w')->wpOps P ops Q (List.range' i l.length++rest) a w
 |[],i,vs,_,ht,_,g,w,s,s',h,a,ok,Q,hq=>by
  simp only[a1f,Option.some.injEq]at ht
  subst ht
  simp only[a0k,Option.some.injEq]at h
  subst h
  exact hq g a w ok (Ext.refl ..)
 |co::l,i,vs,hl,ht,hok,g,w,s,s',h,a,ok,Q,hq=>by
  simp only[a1f]at ht
  split at ht
  ·rename_i v vs' hv hvs
   simp only[Option.some.injEq]at ht
   subst ht
   simp only[List.all_cons,Bool.and_eq_true]at hok
   simp only[a0k]at h
   cases h1:a0b cx orc v s with
   |none=>rw[h1]at h;cases h
   |some s1=>
    rw[h1]at h
    simp only[Option.bind_some]at h
    have hi:ops[i]? =some co:=by
     have:=hl 0 (by simp)
     simpa using this
    have hl':∀ k,k < l.length->ops[i+1+k]? =l[k]? :=fun k hk=>by
      have:=hl (k+1) (by simpa using hk)
      rw[show i+(k+1)=i+1+k by omega]at this
      simpa using this
    simp only[List.length_cons,List.range'_succ,List.cons_append]
    rw[wpOps_cons]
    refine a7b hS hi hv hok.1 h1 ok fun g' x w' ok' ext'=>?_
    have hb:=a3q h1
    refine d0q hS l (i+1) vs' hl' hvs hok.2 h ok' fun g2 a2 w2 ok2 ext2=>?_
    exact hq g2 a2 w2 ok2 (ext'.trans ext2 om)
  ·cases ht
theorem b7g {c:Code} {Q:Exit->Act->World->Prop} (I:Nat->Act->World->Prop) (step:∀ k a w,I k a w->c.wp P (Exit.then (fun a' w'=> ∃ k',k' < k/\I k' a' w') Q) a w) {k:Nat} {a:Act} (h:I k a w):(Code.loop c).wp P Q a w:=by
  have key:∀ n k a w,k < n->I k a w->Code.rounds P c Q n a w:=by
   intro n
   induction n with
   |zero=>intro k a w hk;omega
   |succ n ih=>
    intro k a w hk hI
    rw[rounds_succ]
    refine wp_mono (step k a w hI) fun e a' w' he=>?_
    cases e with
    |normal=>
     obtain⟨k',hk',hI'⟩:=he
     exact ih k' a' w' om hI'
    |_=>exact he
  exact wp_loop_rounds (k+1) (key (k+1) k a w om h)
theorem Loose.freeze (hI:Inv cx g H w) {n sz k:Nat} {x:Value} {us:List Value} (h:Loose cx g w n sz x k us) {l:List D} (hl:a1w g.C sz l us) (hk:l.length=k) (hsz:0 < sz):
 ∃ g':Gh,g'.J=g.J/\(∀ b,g.C b <+:g'.C b)/\(∀ b,b < n->g'.C b=g.C b)/\Inv cx g' H w/\a3j g'.C (.sl l) x:=by
 cases h with
 |nil=>
  have:l=[]:=List.eq_nil_of_length_eq_zero hk
  subst this
  refine⟨g,rfl,fun _=>List.prefix_refl _,fun _ _=>rfl,hI,?_⟩
  simp only[a3j,a0q]
  exact⟨_,_,rfl,Nat.le_refl _,by simp⟩
 |«at» b cap cur e k us h1 h2 hk0 h3 h4 h5 h6 h7 h8 h9=>
  obtain⟨C',hC'⟩:∃ C':Nat->List Value,C'=fun i=>if i=b then us else g.C i:=⟨_,rfl⟩
  have hb:C' b=us:=by rw[hC'];exact if_pos rfl
  have ho:∀ i,i≠b->C' i=g.C i:=fun i hi=>by rw[hC'];exact if_neg hi
  have hC:∀ i,g.C i <+:C' i:=fun i=>by
    by_cases hi:i=b
    ·subst hi;rw[h7];exact List.nil_prefix
    ·rw[ho i hi];exact List.prefix_refl _
  have hkeep:c2n H.length g H ⟨g.J,C'⟩ H:=⟨hC,fun i o _ hio hr=>⟨fun p hp=>hp,o,hio,hr⟩,fun i sz l _ hio=>⟨l,hio,List.prefix_refl _,fun _ p hp=>hp⟩⟩
  refine⟨⟨g.J,C'⟩,rfl,hC,fun i hi=>ho i om,⟨hI.inj,hI.dom,fun i b' c o hj hio=>?_,fun i hi=>?_,hI.und,fun i=>?_,hI.fix⟩,?_⟩
  ·exact(hI.ob i b' c o hj hio).ext hkeep rfl (ho b' (fun e=>h6 i c (by rw[<-e];exact hj))) (by rintro c' rfl;exact hI.und i c' (hI.dom i b' c hj).1 hio)
  ·by_cases hib:i=b
   ·subst hib
    exact⟨cur,e,(0,0),h1,by show C' i <+:_;rw[hb];exact h2⟩
   ·have hi':g.C i≠[]:=by rw[<-ho i hib];exact hi
    obtain⟨cur',e',fz,q1,q2⟩:=hI.imm i hi'
    exact⟨cur',e',fz,q1,by show C' i <+:_;rw[ho i hib];exact q2⟩
  ·obtain⟨vs,q1,q2⟩:=hI.glob i
   exact⟨vs,q1.trans (hC i),a3e hC _ _ q2⟩
  ·simp only[a3j,a0q]
   refine⟨_,_,by rw[hk],om,.inr ⟨b,0,sz,us,rfl,hsz,?_,a5s hC sz l us hl⟩⟩
   rw[List.drop_zero,hb];exact List.prefix_refl _
end
end Go.Vm
namespace Go.Vm
@[simp] theorem h8e (a b:V) (h:Hp):f1r (.d (.bool true)) a b h=some (a,h):=rfl
@[simp] theorem h6s (a b:V) (h:Hp):f1r (.d (.bool false)) a b h=some (b,h):=rfl
theorem e0w:∀ l:List D,b4x (l.map V.d)=some l
 |[]=>rfl
 |x::l=>by simp[b4x,e0w l]
@[simp] theorem d2l (l:List D):a9z (l.map V.d)= .d (.agg l):=by simp only[a9z,e0w]
@[simp] theorem h3d (n off:Nat) (l:List D):a6e (some n) (l.map V.d) off=if off+n<=l.length then some (.d (.agg ((l.drop off).take n))) else none:=by
 simp only[a6e,List.length_map]
 rw[<-List.map_drop,<-List.map_take,d2l]
@[simp] theorem g5u (off:Nat) (l:List D):a6e none (l.map V.d) off=(l[off]?).map V.d:=by simp[a6e]
theorem e6w (off:Nat) (l:List V):a6e none l off=l[off]? :=rfl
theorem e4g (n off:Nat) (l:List V):a6e (some n) l off=if off+n<=l.length then some (a9z ((l.drop off).take n)) else none:=rfl
def e1h (o:Option Ob) (n:Option Nat) (off:Nat):Option V:=match o with
 |some (.box c)=>a6e n c off
 |some (.frz c)=>a6e n (c.map V.d) off
 |_=>none
@[simp] theorem e5f (c:List V) (n:Option Nat) (off:Nat):e1h (some (.box c)) n off=a6e n c off:=rfl
@[simp] theorem e5c (c:List D) (n:Option Nat) (off:Nat):e1h (some (.frz c)) n off=a6e n (c.map V.d) off:=rfl
@[simp] theorem d5o (H:Hp) (n:Option Nat) (id off:Nat):b7o H n (.ptr id off)=e1h H[id]? n off:=by
 simp only[b7o,a9s,e1h]
 cases H[id]? with
 |none=>rfl
 |some o=>cases o<;>rfl
@[simp] theorem h6r (H:Hp) (n:Option Nat) (l:List D) (off:Nat):b7o H n (.ro l off)=a6e n (l.map V.d) off:=rfl
def f2h (b:Nat) (H:Hp) (n id off:Nat) (x:V) (o:Option Ob):Option Hp:=match o with
 |some (.box c)=>if x.cells.length=n/\off+n<=c.length/\x.cells.all V.one/\(a1a id x.cells||decide (b<=id)||b0o c off x.cells) then some (H.set id (.box (putAt c off x.cells))) else none
 |_=>none
@[simp] theorem g5l (b:Nat) (H:Hp) (n id off:Nat) (x:V) (c:List V):f2h b H n id off x (some (.box c))=if x.cells.length=n/\off+n<=c.length/\x.cells.all V.one/\(a1a id x.cells||decide (b<=id)||b0o c off x.cells) then some (H.set id (.box (putAt c off x.cells))) else none:=rfl
@[simp] theorem g6r (b:Nat) (H:Hp) (n id off:Nat) (x:V):c1z b H n (.ptr id off) x=f2h b H n id off x H[id]? :=rfl
@[simp] theorem h8d:b4x []=some []:=rfl
@[simp] theorem h1e (x:D) (l:List V):b4x (.d x::l)=(b4x l).map (x:: ·):=rfl
def g3w (o:Option (List D)) (l:List V):V:=match o with|some ds=> .d (.agg ds)|none=> .agg l
@[simp] theorem g7a (ds:List D) (l:List V):g3w (some ds) l= .d (.agg ds):=rfl
@[simp] theorem g6g (l:List V):g3w none l= .agg l:=rfl
@[simp] theorem i3b:a9z []= .d (.agg []):=rfl
@[simp] theorem i2l (x:V) (l:List V):a9z (x::l)=g3w (b4x (x::l)) (x::l):=rfl
@[simp] theorem h6c (i o:Nat) (l:List V):b4x (.ptr i o::l)=none:=rfl
@[simp] theorem h6t (i o:Nat) (l:List V):b4x (.row i o::l)=none:=rfl
@[simp] theorem g7k (l:List V):b4x (.nils::l)=none:=rfl
@[simp] theorem h5c (l:List V):b4x (.nul::l)=none:=rfl
@[simp] theorem i0p (f:Nat) (c l:List V):b4x (.fn f c::l)=none:=rfl
attribute [simp] e7e boxV
@[simp] theorem h0a (c:List V) (n:Nat):putAt c n []=c:=by cases c<;>cases n<;>rfl
@[simp] theorem g6y (c v:V) (cs vs:List V):putAt (c::cs) 0 (v::vs)=v::putAt cs 0 vs:=rfl
@[simp] theorem g6u (c v:V) (cs vs:List V) (n:Nat):putAt (c::cs) (n+1) (v::vs)=c::putAt cs n (v::vs):=rfl
@[simp] theorem e4j:∀ (c v:List V),v.length=c.length->putAt c 0 v=v
 |[],[],_=>rfl
 |[],_::_,h=>by simp at h
 |_::_,[],h=>by simp at h
 |c::cs,v::vs,h=>by simp[e4j cs vs (by simpa using h)]
@[simp] theorem h3s (n:Nat):a5x n []=true:=rfl
@[simp] theorem g7t (n:Nat) (c:List V) (l:Hp):a5x n (.box c::l)=(a1a n c && a5x n l):=rfl
@[simp] theorem h2m (n:Nat) (c:List D) (l:Hp):a5x n (.frz c::l)=a5x n l:=rfl
@[simp] theorem h3h (n z:Nat) (c:List D) (l:Hp):a5x n (.row z c::l)=a5x n l:=rfl
open Classical in
noncomputable def pre (h h':Hp):Bool:=decide (∃ l,h'=h++l)
@[simp] theorem pre_nil (h:Hp):pre [] h=true:=by simp[pre]
@[simp] theorem h6i (h:Hp):pre h h=true:=by simp[pre]
@[simp] theorem i2y (h l:Hp):pre h (h++l)=true:=by simp[pre]
@[simp] theorem h8c (o:Ob) (h h':Hp):pre (o::h) (o::h')=pre h h':=by simp[pre]
@[simp] theorem h7i (h l l':Hp):pre (h++l) (h++l')=pre l l':=by simp[pre]
theorem g0d (h h':Hp):grew h h'=(pre h h' && a5x h'.length (h'.drop h.length)):=rfl
@[simp] theorem g7d (k:IntKind) (n:Int):a4d (.d (.int k n))=if 0<=n then some n.toNat else none:=rfl
theorem f0m (v:V):oneOf [v]=v:=rfl
theorem f1s (u v:V) (l:List V):oneOf (u::v::l)= .tup (u::v::l):=rfl
@[simp] theorem f4o (n:Nat):∀ l:List D,a1a n (l.map V.d)=true
 |[]=>rfl
 |x::l=>by simp[f4o n l]
@[simp] theorem h3f (e:Env) (h:Hp):a8j e h []=some []:=rfl
def resC (v:Option V) (vs:Option (List V)):Option (List V):=match v,vs with|some v,some vs=>some (v::vs)|_,_=>none
@[simp] theorem d4g (v:V) (vs:List V):resC (some v) (some vs)=some (v::vs):=rfl
@[simp] theorem c9e (e:Env) (h:Hp) (r:d2j) (l:List d2j):a8j e h (r::l)=resC (e2k e h r) (a8j e h l):=rfl
@[simp] theorem f3q (e:Env) (h:Hp) (t:Nat):e2k e h (.tmp t)=some (a1g e t):=rfl
@[simp] theorem f1f (e:Env) (h:Hp) (t:Nat) (n:Option Nat):e2k e h (.cell t n)=b7o h n (a1g e t):=rfl
def lv (keep:Bool) (h0:Nat) (h:Hp) (r:Option (List V)):Option (V×Hp):=match r with
 |none=>none
 |some vs=>if keep then some (oneOf vs,h) else if a1a h0 (vs.map (toArg h)) then some (oneOf (vs.map (toArg h)),h.take h0) else none
@[simp] theorem g4g (h0:Nat) (h:Hp) (vs:List V):lv false h0 h (some vs)=if a1a h0 (vs.map (toArg h)) then some (oneOf (vs.map (toArg h)),h.take h0) else none:=rfl
@[simp] theorem i1q (h0:Nat) (h:Hp) (vs:List V):lv true h0 h (some vs)=some (oneOf vs,h):=rfl
@[simp] theorem f6h (vf:VFn) (h0:Nat) (s:St):leave vf h0 s=lv vf.keep h0 s.h (a8j s.e s.h vf.res):=by
 unfold leave lv
 cases a8j s.e s.h vf.res<;>rfl
attribute [simp] g0d f0m f1s e6w
attribute [simp low] e4g
@[simp] theorem g8t (l:List D) (n k:Nat):a9z (((l.map V.d).drop n).take k)= .d (.agg ((l.drop n).take k)):=by rw[<-List.map_drop,<-List.map_take,d2l]
def a7v:Nat->List V->Env
 |_,[]=>[]
 |k,v::l=>(k,v)::a7v (k+1) l
theorem c2l:∀ (l:List V) (k:Nat),a7v k l=(List.range' k l.length).map fun i=>(i,l.getD (i - k) .undef)
  |[],k=>rfl
  |v::l,k=>by
   simp only[a7v,List.length_cons,List.range'_succ,List.map_cons,Nat.sub_self,List.getD_cons_zero,List.cons.injEq,true_and]
   rw[c2l l (k+1)]
   apply List.map_congr_left
   intro i hi
   have:=List.mem_range'_1.1 hi
   rw[show i - k=(i - (k+1))+1 by omega,List.getD_cons_succ]
@[simp] theorem b1q (l:List V):a1z l=a7v 0 l:=by rw[c2l,a1z,List.range_eq_range'];rfl
@[simp] theorem f7b (k:Nat):a7v k []=[]:=rfl
@[simp] theorem f2s (k:Nat) (v:V) (l:List V):a7v k (v::l)=(k,v)::a7v (k+1) l:=rfl
def i2k (k:IntKind) (a b:Int):Int:=k.wrap (BitVec.ofInt k.bits a &&& BitVec.ofInt k.bits b).toNat
def orI (k:IntKind) (a b:Int):Int:=k.wrap (BitVec.ofInt k.bits a|||BitVec.ofInt k.bits b).toNat
def h9l (k:IntKind) (a b:Int):Int:=k.wrap (BitVec.ofInt k.bits a ^^^ BitVec.ofInt k.bits b).toNat
def h9t (k:IntKind) (a b:Int):Int:=k.wrap (BitVec.ofInt k.bits a &&& ~~~BitVec.ofInt k.bits b).toNat
def shlI (k:IntKind) (a b:Int):Int:=k.wrap (a*2 ^ (min b.toNat k.bits))
def shrI (k:IntKind) (a b:Int):Int:=a.fdiv (2 ^ (min b.toNat k.bits))
section
variable (k k':IntKind) (a b:Int)
@[simp] theorem h7e:a9i .add (.d (.int k a)) (.d (.int k b))=some (.d (.int k (k.wrap (a+b)))):=by simp[a9i]
@[simp] theorem h6e:a9i .sub (.d (.int k a)) (.d (.int k b))=some (.d (.int k (k.wrap (a - b)))):=by simp[a9i]
@[simp] theorem h5q:a9i .mul (.d (.int k a)) (.d (.int k b))=some (.d (.int k (k.wrap (a*b)))):=by simp[a9i]
@[simp] theorem h8m:a9i .quo (.d (.int k a)) (.d (.int k b))=if b=0 then none else some (.d (.int k (k.wrap (a.tdiv b)))):=by by_cases h:b=0<;>simp[a9i,h]
@[simp] theorem h5n:a9i .rem (.d (.int k a)) (.d (.int k b))=if b=0 then none else some (.d (.int k (a.tmod b))):=by by_cases h:b=0<;>simp[a9i,h]
@[simp] theorem h5y:a9i .and (.d (.int k a)) (.d (.int k b))=some (.d (.int k (i2k k a b))):=by simp[a9i,d0v,i2k]
@[simp] theorem h9j:a9i .or (.d (.int k a)) (.d (.int k b))=some (.d (.int k (orI k a b))):=by simp[a9i,d0v,orI]
@[simp] theorem h7a:a9i .xor (.d (.int k a)) (.d (.int k b))=some (.d (.int k (h9l k a b))):=by simp[a9i,d0v,h9l]
@[simp] theorem h7r:a9i .andNot (.d (.int k a)) (.d (.int k b))=some (.d (.int k (h9t k a b))):=by simp[a9i,d0v,h9t]
@[simp] theorem h6f:a9i .shl (.d (.int k a)) (.d (.int k' b))=if 0<=b then some (.d (.int k (shlI k a b))) else none:=rfl
@[simp] theorem h6n:a9i .shr (.d (.int k a)) (.d (.int k' b))=if 0<=b then some (.d (.int k (shrI k a b))) else none:=rfl
@[simp] theorem h7j:a9i .eql (.d (.int k a)) (.d (.int k b))=some (.d (.bool (decide (a=b)))):=by simp[a9i];by_cases h:a=b<;>simp[h]
@[simp] theorem h5m:a9i .neq (.d (.int k a)) (.d (.int k b))=some (.d (.bool (!decide (a=b)))):=by simp[a9i];by_cases h:a=b<;>simp[h,bne]
@[simp] theorem h5k:a9i .lss (.d (.int k a)) (.d (.int k b))=some (.d (.bool (decide (a < b)))):=by simp[a9i]
@[simp] theorem h8k:a9i .leq (.d (.int k a)) (.d (.int k b))=some (.d (.bool (decide (a<=b)))):=by simp[a9i]
@[simp] theorem h5o:a9i .gtr (.d (.int k a)) (.d (.int k b))=some (.d (.bool (decide (b < a)))):=by simp[a9i]
@[simp] theorem h7t:a9i .geq (.d (.int k a)) (.d (.int k b))=some (.d (.bool (decide (b<=a)))):=by simp[a9i]
@[simp] theorem h4e (s t:List UInt8):a9i .add (.d (.str s)) (.d (.str t))=if s.length+t.length<=9223372036854775807 then some (.d (.str (s++t))) else none:=rfl
@[simp] theorem h3m (s t:List UInt8):a9i .eql (.d (.str s)) (.d (.str t))=some (.d (.bool (decide (s=t)))):=by simp[a9i];by_cases h:s=t<;>simp[h]
@[simp] theorem h3z (s t:List UInt8):a9i .neq (.d (.str s)) (.d (.str t))=some (.d (.bool (!decide (s=t)))):=by simp[a9i];by_cases h:s=t<;>simp[h]
@[simp] theorem i2e:unV .neg (.d (.int k a))=some (.d (.int k (k.wrap (0 - a)))):=rfl
@[simp] theorem i2h (b:Bool):unV .not (.d (.bool b))=some (.d (.bool !b)):=rfl
end
end Go.Vm
namespace Go.Vm
theorem a1k {n:Int} (h: -9223372036854775808<=n/\n<=9223372036854775807):IntKind.i64.wrap n=n:=by
 simp only[IntKind.wrap,IntKind.bits,IntKind.signed];simp;omega
theorem i2t {n:Int} (h:0<=n/\n<=18446744073709551615):IntKind.u64.wrap n=n:=by
 simp only[IntKind.wrap,IntKind.bits,IntKind.signed];simp;omega
theorem u8w {n:Int} (h:0<=n/\n<=255):IntKind.u8.wrap n=n:=by
 simp only[IntKind.wrap,IntKind.bits,IntKind.signed];simp;omega
end Go.Vm
namespace Go.Vm
theorem g6i {a b:Nat} (h:a=b):Nat.beq a b=true:=by subst h;exact Nat.beq_refl a
theorem g2y {a b:Nat} (h:a≠b):Nat.beq a b=false:=by
 cases hb:Nat.beq a b with
 |false=>rfl
 |true=>exact absurd (Nat.eq_of_beq_eq_true hb) h
noncomputable def gE (e:Env):Nat->V:=List.rec (motive:=fun _=>Nat->V) (fun _=> .undef) (fun p _ ih i=>match Nat.beq p.1 i with|true=>p.2|false=>ih i) e
theorem b8g:∀ (e:Env) (i:Nat),gE e i=a1g e i
 |[],_=>rfl
 |(k,v)::r,i=>by
  show(match Nat.beq k i with|true=>v|false=>gE r i)=a1g ((k,v)::r) i
  unfold a1g
  by_cases h:k=i
  ·rw[if_pos h,g6i h]
  ·rw[if_neg h,g2y h]
   exact b8g r i
noncomputable def gO (cx:Cx) (e:Env):Opd->V
 | .t i=>gE e i
 | .c v=>v
 | .g i=> .ro (cx.gv i) 0
 | .f i=> .fn i []
theorem c4p (cx:Cx) (e:Env) (o:Opd):gO cx e o=evO cx e o:=by cases o<;>simp only[gO,evO,b8g]
section
variable {α:Type}
noncomputable def a1h (l:List α):(List α->Prop)->Prop:=List.rec (motive:=fun _=>(List α->Prop)->Prop) (fun k=>k []) (fun a _ ih k=>ih fun r'=>k (a::r')) l
theorem a0u:∀ (l:List α) (k:List α->Prop),a1h l k=k l
 |[],_=>rfl
 |a::r,k=>a0u r fun r'=>k (a::r')
noncomputable def d8k (l:List α):Nat->(Nat->Prop)->Prop:=List.rec (motive:=fun _=>Nat->(Nat->Prop)->Prop) (fun n k=>k n) (fun _ _ ih n k=>ih (n+1) k) l
theorem b0r:∀ (l:List α) (n:Nat) (k:Nat->Prop),d8k l n k=k (n+l.length)
 |[],_,_=>rfl
 |a::r,n,k=>by rw[show d8k (a::r) n k=d8k r (n+1) k from rfl,b0r r,List.length_cons,Nat.add_assoc,Nat.add_comm 1]
noncomputable def b3b (l:List α):Nat->(α->Prop)->Prop:=List.rec (motive:=fun _=>Nat->(α->Prop)->Prop) (fun _ _=>False) (fun a _ ih n k=>match n with|0=>k a|n+1=>ih n k) l
theorem a1o:∀ (l:List α) (n:Nat) (k:α->Prop),b3b l n k↔∃ a,l[n]? =some a/\k a
 |[],n,k=>by rw[show b3b [] n k=False from rfl];simp
 |a::r,0,k=>by rw[show b3b (a::r) 0 k=k a from rfl];simp
 |a::r,n+1,k=>by rw[show b3b (a::r) (n+1) k=b3b r n k from rfl];simp[a1o r n k]
theorem c1b {l:List α} {n:Nat} {a:α} (h:l[n]? =some a) {k:α->Prop} (hk:k a):b3b l n k:=(a1o l n k).2 ⟨a,h,hk⟩
end
def b4f (v:V) (k:V->Prop):Prop:=match v with
 | .d (.bool b)=>k (.d (.bool b))
 | .d (.int kk n)=>k (.d (.int kk n))
 | .d (.str s)=>k (.d (.str s))
 | .d (.sl l)=>k (.d (.sl l))
 | .d (.agg l)=>k (.d (.agg l))
 | .agg l=>k (.agg l)
 | .tup l=>k (.tup l)
 | .nils=>k .nils
 | .row i n=>k (.row i n)
 | .arr i o n=>k (.arr i o n)
 | .ptr i o=>k (.ptr i o)
 | .ro l o=>k (.ro l o)
 | .fn f c=>k (.fn f c)
 | .fm f c=>k (.fm f c)
 | .nul=>k .nul
 | .nof=>k .nof
 | .ifc b=>k (.ifc b)
 | .raw x=>k (.raw x)
 | .nmp=>k .nmp
 | .nile=>k .nile
 | .mp i=>k (.mp i)
 | .undef=>k .undef
theorem b8d (v:V) (k:V->Prop):b4f v k=k v:=by
 cases v with
 |d x=>cases x<;>rfl
 |_=>rfl
def chk (b:Bool) (p:Prop):Prop:=match b with|true=>p|false=>False
theorem a2r (b:Bool) (p:Prop):chk b p↔b=true/\p:=by cases b<;>simp[chk]
theorem e2u {b:Bool} {p:Prop} (h:b=true) (hp:p):chk b p:=(a2r b p).2 ⟨h,hp⟩
noncomputable def h5d (l:List V) (k:V->Prop):Prop:=match b4x l with
 |some ds=>a1h ds fun ds=>k (.d (.agg ds))
 |none=>a1h l fun l=>k (.agg l)
theorem e7h (l:List V) (k:V->Prop):h5d l k=k (a9z l):=by
 unfold h5d a9z
 cases b4x l<;>simp only[a0u]
noncomputable def c4y (n:Option Nat) (c:List V) (off:Nat) (k:V->Prop):Prop:=match n with
 |none=>b3b c off k
 |some n=>chk (Nat.ble (off+n) c.length) (h5d ((c.drop off).take n) k)
theorem a9o (n:Option Nat) (c:List V) (off:Nat) (k:V->Prop):c4y n c off k↔∃ v,a6e n c off=some v/\k v:=by
 cases n with
 |none=>exact a1o ..
 |some n=>
  simp only[c4y,a6e,a2r,e7h,Nat.ble_eq]
  by_cases h:off+n<=c.length<;>simp[h]
noncomputable def h6y (H:Hp) (l:List V):(List D->Prop)->Prop->Prop:=List.rec (motive:=fun _=>(List D->Prop)->Prop->Prop) (fun k _=>k []) (fun v _ ih k alt=>match v with
  | .d x=>ih (fun ds=>k (x::ds)) alt
  | .nils=>ih (fun ds=>k (.sl []::ds)) alt
  | .nile=>ih (fun ds=>k (.sl []::ds)) alt
  | .row id len=>b3b H id fun o=>match o with
    | .row _ l=>l.length=len/\ih (fun ds=>k (.sl l::ds)) alt
    |_=>False
  |_=>alt) l
theorem e2e (H:Hp):∀ (l:List V) (k:List D->Prop) (alt:Prop),h6y H l k alt->(∃ ds,d8b H l=some ds/\k ds)\/alt
 |[],k,alt,h=> .inl ⟨[],rfl,h⟩
 |v::r,k,alt,h=>by
  have go:∀ x,a9y H v=some x->h6y H r (fun ds=>k (x::ds)) alt->(∃ ds,d8b H (v::r)=some ds/\k ds)\/alt:=by
    intro x hx h
    rcases e2e H r _ alt h with⟨ds,h1,h2⟩|h
    ·exact .inl ⟨x::ds,by simp only[d8b,hx,h1],h2⟩
    ·exact .inr h
  cases v with
  |d x=>exact go x rfl h
  |nils=>exact go _ rfl h
  |nile=>exact go _ rfl h
  |row id len=>
   have h:b3b H id fun o=>match o with
     | .row _ l=>l.length=len/\h6y H r (fun ds=>k (.sl l::ds)) alt
     |_=>False:=h
   obtain⟨o,ho,h⟩:=(a1o ..).1 h
   cases o with
   |row sz l=>
    obtain⟨h1,h2⟩:=h
    exact go (.sl l) (by simp only[a9y,ho,h1,if_true]) h2
   |_=>cases h
  |_=>exact .inr h
noncomputable def e6x (H:Hp) (v:V) (k:V->Prop):Prop:=match v with
 | .d x=>k (.d x)
 | .nils=>k (.d (.sl []))
 | .nile=>k (.d (.sl []))
 | .row id len=>b3b H id fun o=>match o with
   | .row _ l=>l.length=len/\k (.d (.sl l))
   |_=>False
 | .arr id off len=>b3b H id fun o=>match o with
   | .frz c=>off+len<=c.length/\k (.d (.sl ((c.drop off).take len)))
   |o=>k (toArg H (.arr id off len))
 | .ptr i o=>k (.ptr i o)
 | .fn f c=>k (.fn f c)
 | .fm f c=>k (.fm f c)
 | .nul=>k .nul
 | .nof=>k .nof
 | .ifc b=>k (.ifc b)
 | .raw x=>k (.raw x)
 | .nmp=>k .nmp
 | .mp i=>k (.mp i)
 | .agg l=>h6y H l (fun ds=>k (.d (.agg ds))) (k (toArg H (.agg l)))
 |v=>k (toArg H v)
theorem d0c (H:Hp) (v:V) (k:V->Prop) (h:e6x H v k):k (toArg H v):=by
 unfold e6x at h
 cases v with
 |row id len=>
  obtain⟨o,ho,h⟩:=(a1o ..).1 h
  cases o with
  |row sz l=>
   obtain⟨h1,h2⟩:=h
   simp only[toArg,toD,a9y,ho,h1,if_true];exact h2
  |_=>cases h
 |arr id off len=>
  obtain⟨o,ho,h⟩:=(a1o ..).1 h
  cases o with
  |frz c=>
   obtain⟨h1,h2⟩:=h
   simp only[toArg,toD,a9y,ho,if_pos h1];exact h2
  |_=>exact h
 |agg l=>
  rcases e2e H l _ _ h with⟨ds,h1,h2⟩|h
  ·simp only[toArg,toD,h1,Option.map_some];exact h2
  ·exact h
 |_=>exact h
noncomputable def e8o (cx:Cx) (e:Env) (H:Hp) (l:List Opd):(List V->Prop)->Prop:=List.rec (motive:=fun _=>(List V->Prop)->Prop) (fun k=>k []) (fun x _ ih k=>e6x H (gO cx e x) fun v=>ih fun vs=>k (v::vs)) l
theorem b9j (cx:Cx) (e:Env) (H:Hp):∀ (l:List Opd) (k:List V->Prop),e8o cx e H l k->k (l.map fun x=>toArg H (evO cx e x))
  |[],_,h=>h
  |x::r,k,h=>by
   have h:e6x H (gO cx e x) fun v=>e8o cx e H r fun vs=>k (v::vs):=h
   have:=b9j cx e H r _ (d0c _ _ _ h)
   rw[c4p]at this
   exact this
def g8l (y:Opd) (b:Int) (p:Prop):Prop:=match y with
 | .c _=>chk (decide (0<=b)) p
 |_=>0<=b/\p
theorem e0l (y:Opd) (b:Int) (p:Prop):g8l y b p↔0<=b/\p:=by cases y<;>simp[g8l,a2r]
def nzK (y:Opd) (b:Int) (p:Prop):Prop:=match y with
 | .c _=>chk (decide (b≠0)) p
 |_=>b≠0/\p
theorem g1x (y:Opd) (b:Int) (p:Prop):nzK y b p↔b≠0/\p:=by cases y<;>simp[nzK,a2r]
noncomputable def i1f (op:BinOp) (y:Opd) (vx vy:V) (k:V->Prop):Prop:=match vx,vy with
 | .d (.int k1 a),.d (.int k2 b)=>match op with
   | .shl=>g8l y b (k (.d (.int k1 (shlI k1 a b))))
   | .shr=>g8l y b (k (.d (.int k1 (shrI k1 a b))))
   | .add=>chk (decide (k1=k2)) (k (.d (.int k1 (k1.wrap (a+b)))))
   | .sub=>chk (decide (k1=k2)) (k (.d (.int k1 (k1.wrap (a - b)))))
   | .mul=>chk (decide (k1=k2)) (k (.d (.int k1 (k1.wrap (a*b)))))
   | .quo=>chk (decide (k1=k2)) (nzK y b (k (.d (.int k1 (k1.wrap (a.tdiv b))))))
   | .rem=>chk (decide (k1=k2)) (nzK y b (k (.d (.int k1 (a.tmod b)))))
   | .and=>chk (decide (k1=k2)) (k (.d (.int k1 (i2k k1 a b))))
   | .or=>chk (decide (k1=k2)) (k (.d (.int k1 (orI k1 a b))))
   | .xor=>chk (decide (k1=k2)) (k (.d (.int k1 (h9l k1 a b))))
   | .andNot=>chk (decide (k1=k2)) (k (.d (.int k1 (h9t k1 a b))))
   | .eql=>chk (decide (k1=k2)) (k (.d (.bool (decide (a=b)))))
   | .neq=>chk (decide (k1=k2)) (k (.d (.bool (!decide (a=b)))))
   | .lss=>chk (decide (k1=k2)) (k (.d (.bool (decide (a < b)))))
   | .leq=>chk (decide (k1=k2)) (k (.d (.bool (decide (a<=b)))))
   | .gtr=>chk (decide (k1=k2)) (k (.d (.bool (decide (b < a)))))
   | .geq=>chk (decide (k1=k2)) (k (.d (.bool (decide (b<=a)))))
 | .d (.str a),.d (.str b)=>match op with
   | .add=>a.length+b.length<=9223372036854775807/\k (.d (.str (a++b)))
   | .eql=>k (.d (.bool (decide (a=b))))
   | .neq=>k (.d (.bool (!decide (a=b))))
   |_=>False
 |_,_=>False
theorem f3p (op:BinOp) (y:Opd) (vx vy:V) (k:V->Prop) (h:i1f op y vx vy k):∃ v,a9i op vx vy=some v/\k v:=by
 unfold i1f at h
 split at h
 ·rename_i k1 a k2 b
  cases op<;>simp only[e0l,a2r,g1x,decide_eq_true_eq]at h<;>first
   |(obtain⟨rfl,h0,h⟩:=h;refine⟨_,?_,h⟩;simp[h0];done)
   |(obtain⟨rfl,h⟩:=h;refine⟨_,?_,h⟩;simp;done)
   |(obtain⟨h0,h⟩:=h;refine⟨_,?_,h⟩;simp[h0];done)
 ·rename_i a b
  cases op<;>first
   |(cases h;done)
   |(obtain⟨h0,h⟩:=h;refine⟨_,?_,h⟩;simp[h0];done)
   |(refine⟨_,?_,h⟩;simp;done)
 ·cases h
noncomputable def g7x (H:Hp) (v:V) (k:List D->Prop):Prop:=match v with
 | .d (.sl l)=>k l
 | .nils=>k []
 | .nile=>k []
 | .row id len=>b3b H id fun o=>match o with
   | .row _ l=>l.length=len/\k l
   |_=>False
 | .arr id off len=>b3b H id fun o=>match o with
   | .frz c=>off+len<=c.length/\k ((c.drop off).take len)
   |_=>False
 |v=> ∃ l,lsize H v=some l/\k l
theorem d1r (H:Hp) (v:V) (k:List D->Prop) (h:g7x H v k):∃ l,lsize H v=some l/\k l:=by
 unfold g7x at h
 split at h
 ·exact⟨_,rfl,h⟩
 ·exact⟨_,rfl,h⟩
 ·exact⟨_,rfl,h⟩
 ·rename_i id len
  obtain⟨o,ho,h⟩:=(a1o ..).1 h
  cases o with
  |row sz l=>
   obtain⟨h1,h2⟩:=h
   exact⟨l,by simp only[lsize,a9y,ho,h1,if_true],h2⟩
  |_=>cases h
 ·rename_i id off len
  obtain⟨o,ho,h⟩:=(a1o ..).1 h
  cases o with
  |frz c=>
   obtain⟨h1,h2⟩:=h
   exact⟨_,by simp only[lsize,a9y,ho,if_pos h1],h2⟩
  |_=>cases h
 ·exact h
noncomputable def c8t (cx:Cx) (e:Env) (d:Nat) (o:Option Opd) (k:Nat->Prop):Prop:=match o with
 |none=>k d
 |some x=>match gO cx e x with
  | .d (.int _ n)=>g8l x n (k n.toNat)
  |_=>False
theorem b5a (cx:Cx) (e:Env) (d:Nat) (o:Option Opd) (k:Nat->Prop) (h:c8t cx e d o k):∃ n,a0p.bound cx e d o=some n/\k n:=by
 unfold c8t at h
 split at h
 ·exact⟨_,rfl,h⟩
 ·rename_i x
  rw[c4p]at h
  split at h
  ·rename_i k n hx
   obtain⟨h0,h⟩:=(e0l ..).1 h
   exact⟨_,by simp only[a0p.bound,hx,a4d,if_pos h0],h⟩
  ·cases h
def dK (H:Hp) (v:V) (k:D->Prop):Prop:=match v with
 | .d x=>k x
 | .nils=>k (.sl [])
 | .nile=>k (.sl [])
 |v=> ∃ x,toD H v=some x/\k x
theorem e7j {H:Hp} {v:V} {k:D->Prop} (h:dK H v k):∃ x,toD H v=some x/\k x:=by
 unfold dK at h
 split at h
 ·exact⟨_,rfl,h⟩
 ·exact⟨_,rfl,h⟩
 ·exact⟨_,rfl,h⟩
 ·exact h
noncomputable def dsK (cx:Cx) (e:Env) (H:Hp) (l:List Opd):(List D->Prop)->Prop:=List.rec (motive:=fun _=>(List D->Prop)->Prop) (fun k=>k []) (fun x _ ih k=>dK H (gO cx e x) fun v=>ih fun vs=>k (v::vs)) l
theorem e6a {cx:Cx} {e:Env} {H:Hp}:∀ {l:List Opd} {k:List D->Prop},dsK cx e H l k->∃ ds,a0p.toDs' cx e H l=some ds/\k ds
 |[],_,h=>⟨[],rfl,h⟩
 |x::r,k,h=>by
  have h:dK H (gO cx e x) fun v=>dsK cx e H r fun vs=>k (v::vs):=h
  obtain⟨y,hy,h⟩:=e7j h
  obtain⟨ys,hys,h⟩:=e6a h
  rw[c4p]at hy
  exact⟨y::ys,by simp only[a0p.toDs',hy,hys],h⟩
noncomputable def look (l:List (Nat×Bool)):Nat->Option Bool:=List.rec (motive:=fun _=>Nat->Option Bool) (fun _=>none) (fun p _ ih i=>match Nat.beq p.1 i with|true=>some p.2|false=>ih i) l
theorem c5r (g:Nat) (b:Bool) (r:List (Nat×Bool)) (i:Nat):look ((g,b)::r) i=match Nat.beq g i with|true=>some b|false=>look r i:=rfl
noncomputable def forget (l:List (Nat×Bool)):Nat->List (Nat×Bool):=List.rec (motive:=fun _=>Nat->List (Nat×Bool)) (fun _=>[]) (fun p _ ih i=>match Nat.beq p.1 i with|true=>ih i|false=>p::ih i) l
theorem d8w (g:Nat) (b:Bool) (r:List (Nat×Bool)) (i:Nat):forget ((g,b)::r) i=match Nat.beq g i with|true=>forget r i|false=>(g,b)::forget r i:=rfl
section
variable (pg:Pg)
noncomputable def wpO (kn:List (Nat×Bool)) (b:Nat) (e:Env) (H:Hp) (o:VOp) (k:V->Hp->Prop):Prop:=match o with
 | .mv x=>b4f (gO pg.toCx e x) fun v=>k v H
 | .pick c x y=>match(match c with| .t i=>look kn i|_=>none)with
   |some true=>b4f (gO pg.toCx e x) fun v=>k v H
   |some false=>b4f (gO pg.toCx e y) fun v=>k v H
   |none=>match gO pg.toCx e c with
    | .d (.bool t)=>(t=true->b4f (gO pg.toCx e x) fun v=>k v H)/\(t=false->b4f (gO pg.toCx e y) fun v=>k v H)
    |_=>False
 | .zbox z=>d8k H 0 fun n=>a1h (H++[.box z]) fun H'=>k (.ptr n 0) H'
 | .box x=>a1h (gO pg.toCx e x).cells fun c=>chk (c.all V.one) (d8k H 0 fun n=>a1h (H++[.box c]) fun H'=>k (.ptr n 0) H')
 | .build z ps=>chk (ps.all fun p=>(gO pg.toCx e p.2.2).cells.all V.one) (match b9p z (ps.map fun p=>(p.1,p.2.1,gO pg.toCx e p.2.2))with
   |some c=>h5d c fun v=>k v H
   |none=>False)
 | .bslice sz len ps=>dsK pg.toCx e H ps fun l=>chk (Nat.beq l.length len && l.all (fun x=>x.cells.length==sz) && Nat.blt 0 sz && Nat.ble (len*sz) 16777216) (k (.d (.sl l)) H)
 | .ld n x=>match gO pg.toCx e x with
   | .ptr id off=>b3b H id fun ob=>match ob with
     | .box c=>c4y n c off fun v=>k v H
     | .frz c=>c4y n (c.map V.d) off fun v=>k v H
     |_=>False
   | .ro l off=>c4y n (l.map V.d) off fun v=>k v H
   |_=>False
 | .st n a x=>match gO pg.toCx e a with
   | .ptr id off=>b3b H id fun ob=>match ob with
     | .box c=>a1h (gO pg.toCx e x).cells fun xs=>chk (Nat.beq xs.length n && Nat.ble (off+n) c.length && xs.all V.one && (a1a id xs||Nat.ble b id||b0o c off xs)) (a1h (putAt c off xs) fun c'=>a1h (H.set id (.box c')) fun H'=>k .undef H')
     |_=>False
   |_=>False
 | .bin op x y=>i1f op y (gO pg.toCx e x) (gO pg.toCx e y) fun v=>k v H
 | .eqa neg ks x y=>match gO pg.toCx e x,gO pg.toCx e y with
   | .d (.agg c),.d (.agg d)=>chk (kindOk ks c d) (match neg with|true=>k (.d (.bool !eqL c d)) H|false=>k (.d (.bool (eqL c d))) H)
   |_,_=>False
 | .isnil neg x=>match gO pg.toCx e x with
   | .ifc b=>match neg with|true=>k (.d (.bool !b)) H|false=>k (.d (.bool b)) H
   |_=>False
 | .eqb neg x y=>match gO pg.toCx e x,gO pg.toCx e y with
   | .d (.bool c),.d (.bool d)=>match neg with|true=>k (.d (.bool !(c==d))) H|false=>k (.d (.bool (c==d))) H
   |_,_=>False
 | .un op x=>match op,gO pg.toCx e x with
   | .neg,.d (.int kk n)=>k (.d (.int kk (kk.wrap (0 - n)))) H
   | .not,.d (.bool t)=>k (.d (.bool !t)) H
   |_,_=>False
 | .conv kk x=>match gO pg.toCx e x with
   | .d (.int _ n)=>k (.d (.int kk (kk.wrap n))) H
   |_=>False
 | .mkfn f caps=>a1h (caps.map (gO pg.toCx e)) fun l=>k (.fn f l) H
 | .mkfm f caps=>a1h (caps.map (gO pg.toCx e)) fun l=>k (.fm f l) H
 | .fld off n x=>match gO pg.toCx e x with
   | .d (.agg c)=>c4y n (c.map V.d) off fun v=>k v H
   | .agg c=>c4y n c off fun v=>k v H
   |_=>False
 | .fadr off x=>match gO pg.toCx e x with
   | .ptr id o=>k (.ptr id (o+off)) H
   | .ro l o=>k (.ro l (o+off)) H
   |_=>False
 | .iadr sz x i=>match gO pg.toCx e i with
   | .d (.int _ n)=>match gO pg.toCx e x with
     | .arr id off len=>(0<=n/\n.toNat < len)/\k (.ptr id (off+n.toNat*sz)) H
     |v=>g7x H v fun l=> ∃ y,(0<=n/\l[n.toNat]? =some y)/\y.cells.length=sz/\k (.ro y.cells 0) H
   |_=>False
 | .iadra len sz x i=>match gO pg.toCx e i with
   | .d (.int _ n)=>(0<=n/\n.toNat < len)/\(match gO pg.toCx e x with
     | .ptr id o=>k (.ptr id (o+n.toNat*sz)) H
     | .ro l o=>k (.ro l (o+n.toNat*sz)) H
     |_=>False)
   |_=>False
 | .idx x i=>match gO pg.toCx e i,gO pg.toCx e x with
   | .d (.int _ n),.d (.str s)=> ∃ c,(0<=n/\s[n.toNat]? =some c)/\k (.d (.int .u8 c.toNat)) H
   |_,_=>False
 | .slcs x lo hi=>match gO pg.toCx e x with
   | .d (.str s)=>c8t pg.toCx e 0 lo fun l=>c8t pg.toCx e s.length hi fun h=>(l<=h/\h<=s.length)/\k (.d (.str ((s.take h).drop l))) H
   |_=>False
 | .slc sz x lo hi=>g7x H (gO pg.toCx e x) fun s=>c8t pg.toCx e 0 lo fun l=>c8t pg.toCx e s.length hi fun h=>(l<=h/\h<=s.length/\(lo.isNone||s.all (fun y=>y.cells.length==sz))=true)/\k (.d (.sl ((s.take h).drop l))) H
 | .ext x i=>match gO pg.toCx e x with
   | .tup l=>b3b l i fun v=>k v H
   |_=>False
 | .mkm=>d8k H 0 fun n=>a1h (H++[.map []]) fun H'=>k (.mp n) H'
 | .brow sz=>chk (Nat.blt 0 sz) (k .nile H)
 | .b9z kk m kx x=>match gO pg.toCx e m with
   | .mp id=>b3b H id fun ob=>match ob with
     | .map l=>(match gO pg.toCx e kx with
       | .d kd=>chk (a8u kk kd) (a2j kk l=true/\dK H (gO pg.toCx e x) fun x=>a1h (H.set id (.map (c1u kd x l))) fun H'=>k .undef H')
       |_=>False)
     |_=>False
   |_=>False
 | .mget kk ok z m kx=>match gO pg.toCx e m with
   | .mp id=>b3b H id fun ob=>match ob with
     | .map l=>(match gO pg.toCx e kx with
       | .d kd=>chk (a8u kk kd) (a2j kk l=true/\∃ r,a4m kd l=r/\k (h6j ok z r) H)
       |_=>False)
     |_=>False
   |_=>False
 | .ment kk z m kx=>match gO pg.toCx e m with
   | .mp id=>b3b H id fun ob=>match ob with
     | .map l=>(match gO pg.toCx e kx with
       | .d kd=>chk (a8u kk kd) (a2j kk l=true/\∃ r,a5w kd l=r/\(match r with
         |some i=> ∃ p,l[i]? =some p/\k (.tup [.d p.2,.d (.int .i64 i)]) H
         |none=>a1h (H.set id (.map (l++[(kd,z)]))) fun H'=>k (.tup [.d z,.d (.int .i64 l.length)]) H'))
       |_=>False)
     |_=>False
   |_=>False
 | .mest m s x=>match gO pg.toCx e m with
   | .mp id=>b3b H id fun ob=>match ob with
     | .map l=>(match gO pg.toCx e s with
       | .d (.int _ n)=>(0<=n/\n.toNat < l.length)/\dK H (gO pg.toCx e x) fun x=>a1h (H.set id (.map (b9z n.toNat x l))) fun H'=>k .undef H'
       |_=>False)
     |_=>False
   |_=>False
 | .call f args=>e8o pg.toCx e H args fun vs=> ∃ r H',evF pg f vs H=some (r,H')/\k r H'
 | .callv f args=>match gO pg.toCx e f with
   | .fn f c=>e8o pg.toCx e H args fun vs=>a1h (vs++c) fun vs=> ∃ r H',evF pg f vs H=some (r,H')/\k r H'
   | .fm f c=>e8o pg.toCx e H args fun vs=>a1h (c++vs) fun vs=> ∃ r H',evF pg f vs H=some (r,H')/\k r H'
   |_=>False
 | .len true x=>match gO pg.toCx e x with
   | .d (.str s)=>k (.d (.int .i64 s.length)) H
   |_=>False
 | .len false x=>match gO pg.toCx e x with
   | .d (.sl l)=>k (.d (.int .i64 l.length)) H
   | .nils=>k (.d (.int .i64 0)) H
   | .nile=>k (.d (.int .i64 0)) H
   | .row _ n=>k (.d (.int .i64 n)) H
   | .arr _ _ n=>k (.d (.int .i64 n)) H
   |_=>False
 | .app sz bytes x y=>g7x H (gO pg.toCx e y) fun ys=>((ys.all (fun y=>y.cells.length==sz))=true/\0 < sz)/\(match gO pg.toCx e x with
   | .row id len=>b3b H id fun ob=>match ob with
     | .row sz' l=>(sz'=sz/\l.length=len/\roomy (len+ys.length) bytes)/\a1h (H.set id (.row sz (l++ys))) fun H'=>k (.row id (len+ys.length)) H'
     |_=>False
   | .nile=>(ys=[]->k .nile H)/\(ys≠[]->roomy ys.length bytes/\d8k H 0 fun n=>a1h (H++[.row sz ys]) fun H'=>k (.row n ys.length) H')
   |v=> ∃ r H',a0p pg.toCx (evF pg) b e H (.app sz bytes x y)=some (r,H')/\(v=v/\k r H'))
 | .convs x=>match gO pg.toCx e x with
   | .d (.str s)=>k (.d (.str s)) H
   |_=>False
 | .nilck x=>match gO pg.toCx e x with
   | .ptr id off=>k (.ptr id off) H
   | .fn f c=>k (.fn f c) H
   | .fm f c=>k (.fm f c) H
   |_=>False
 | .msl sz bytes z n=>match gO pg.toCx e n with
   | .d (.int _ m)=>(0<=m/\roomy m.toNat bytes)/\chk (Nat.beq z.length 1 && Nat.beq sz 1) (d8k H 0 fun n0=>a1h (H++[.box (List.replicate m.toNat (z.headD .undef))]) fun H'=>k (.arr n0 0 m.toNat) H')
   |_=>False
 | .mm mx x y=>match gO pg.toCx e x,gO pg.toCx e y with
   | .d (.int k1 a),.d (.int k2 c)=>chk (decide (k1=k2)) (match mx with|true=>k (.d (.int k1 (max a c))) H|false=>k (.d (.int k1 (min a c))) H)
   |_,_=>False
 |o=> ∃ r H',a0p pg.toCx (evF pg) b e H o=some (r,H')/\k r H'
end
def a6p (kn:List (Nat×Bool)) (e:Env):Prop:=∀ i t,look kn i=some t->a1g e i= .d (.bool t)
theorem a6p.forget {kn:List (Nat×Bool)} {e:Env} (h:a6p kn e) (d:Nat) (v:V):a6p (forget kn d) ((d,v)::e):=by
 have key:∀ (kn:List (Nat×Bool)) i t,look (Vm.forget kn d) i=some t->i≠d/\look kn i=some t:=by
  intro kn
  induction kn with
  |nil=>intro i t h;cases h
  |cons p r ih=>
   obtain⟨g,b⟩:=p
   intro i t h
   rw[d8w]at h
   by_cases hg:g=d
   ·rw[g6i hg]at h
    obtain⟨h1,h2⟩:=ih i t h
    refine⟨h1,?_⟩
    rw[c5r,g2y (fun e=>h1 om)]
    exact h2
   ·rw[g2y hg]at h
    simp only[c5r]at h⊢
    by_cases hi:g=i
    ·rw[g6i hi]at h⊢
     exact⟨fun e=>hg om,h⟩
    ·rw[g2y hi]at h⊢
     exact ih i t h
 intro i t hi
 obtain⟨h1,h2⟩:=key kn i t hi
 unfold a1g
 rw[if_neg (fun e=>h1 e.symm)]
 exact h i t h2
theorem a6p.add {kn:List (Nat×Bool)} {e:Env} (h:a6p kn e) {g:Nat} {t:Bool} (hg:a1g e g= .d (.bool t)):a6p ((g,t)::kn) e:=by
 intro i u hi
 rw[c5r]at hi
 by_cases hgi:g=i
 ·rw[g6i hgi]at hi
  cases hi;rw[<-hgi];exact hg
 ·rw[g2y hgi]at hi
  exact h i u hi
theorem a6p.nil (e:Env):a6p [] e:=by intro i t h;cases h
section
variable {pg:Pg}
theorem f9u {kn:List (Nat×Bool)} {b:Nat} {e:Env} {H:Hp} {o:VOp} {k:V->Hp->Prop} (hk:a6p kn e) (h:wpO pg kn b e H o k):∃ v H',a0p pg.toCx (evF pg) b e H o=some (v,H')/\k v H':=by
 cases o<;>simp only[wpO,c4p,b8d]at h
 case mv x=>exact⟨_,_,rfl,h⟩
 case pick c x y=>
  have gen:∀ t,evO pg.toCx e c= .d (.bool t)->(if t then k (evO pg.toCx e x) H else k (evO pg.toCx e y) H)->∃ v H',a0p pg.toCx (evF pg) b e H (.pick c x y)=some (v,H')/\k v H':=by
   intro t hc hh
   refine⟨if t then evO pg.toCx e x else evO pg.toCx e y,H,by simp only[a0p,hc],?_⟩
   cases t
   ·simpa using hh
   ·simpa using hh
  split at h
  ·rename_i hc
   cases c with
   |t i=>exact gen true (hk i true hc) (by simpa using h)
   |_=>cases hc
  ·rename_i hc
   cases c with
   |t i=>exact gen false (hk i false hc) (by simpa using h)
   |_=>cases hc
  ·split at h
   ·rename_i t hc
    refine gen t hc ?_
    cases t
    ·simpa using h
    ·simpa using h
   ·cases h
 case zbox z=>
  simp only[b0r,a0u,Nat.zero_add]at h
  exact⟨_,_,rfl,h⟩
 case box x=>
  simp only[b0r,a0u,Nat.zero_add,a2r]at h
  exact⟨_,_,by simp only[a0p,h.1,if_true],h.2⟩
 case build z ps=>
  rw[a2r]at h
  obtain⟨h1,h⟩:=h
  split at h
  ·rename_i c hc
   rw[e7h]at h
   exact⟨_,_,by simp only[a0p,h1,if_true,hc,Option.map_some],h⟩
  ·cases h
 case bslice sz len ps=>
  obtain⟨l,hl,h⟩:=e6a h
  simp only[a2r,Bool.and_eq_true,Nat.beq_eq,Nat.ble_eq]at h
  obtain⟨⟨⟨⟨h1,h2⟩,h3⟩,h4⟩,h⟩:=h
  refine⟨_,_,?_,h⟩
  simp only[a0p,hl]
  rw[if_pos ⟨h1,h2,by simp[Nat.blt]at h3;omega,h4⟩]
 case ld n x=>
  split at h
  ·rename_i id off hx
   obtain⟨o,ho,h⟩:=(a1o ..).1 h
   cases o with
   |box c=>
    obtain⟨v,hv,h⟩:=(a9o ..).1 h
    exact⟨_,_,by simp only[a0p,hx,b7o,a9s,ho,hv,Option.map_some],h⟩
   |frz c=>
    obtain⟨v,hv,h⟩:=(a9o ..).1 h
    exact⟨_,_,by simp only[a0p,hx,b7o,a9s,ho,hv,Option.map_some],h⟩
   |_=>cases h
  ·rename_i l off hx
   obtain⟨v,hv,h⟩:=(a9o ..).1 h
   exact⟨_,_,by simp only[a0p,hx,b7o,a9s,hv,Option.map_some],h⟩
  ·cases h
 case st n a x=>
  split at h
  ·rename_i id off hx
   obtain⟨o,ho,h⟩:=(a1o ..).1 h
   cases o with
   |box c=>
    simp only[a0u,a2r,Bool.and_eq_true,Nat.beq_eq,Nat.ble_eq,Bool.or_eq_true]at h
    obtain⟨⟨⟨⟨h1,h2⟩,h3⟩,h4⟩,h⟩:=h
    refine⟨_,_,?_,h⟩
    simp only[a0p,hx,c1z,ho]
    rw[if_pos ⟨h1,h2,h3,by simpa using h4⟩];rfl
   |_=>cases h
  ·cases h
 case bin op x y=>
  obtain⟨v,hv,h⟩:=f3p _ _ _ _ _ h
  exact⟨_,_,by simp only[a0p,hv,Option.map_some],h⟩
 case eqa neg ks x y=>
  split at h
  ·rename_i c d hc hd
   rw[a2r]at h
   obtain⟨h1,h⟩:=h
   refine⟨.d (.bool (if neg then !eqL c d else eqL c d)),H,by simp only[a0p,hc,hd,if_pos h1],?_⟩
   cases neg<;>simpa using h
  ·cases h
 case isnil neg x=>
  split at h
  ·rename_i b hx
   refine⟨.d (.bool (if neg then !b else b)),H,by simp only[a0p,hx],?_⟩
   cases neg<;>simpa using h
  ·cases h
 case eqb neg x y=>
  split at h
  ·rename_i c d hc hd
   refine⟨.d (.bool (if neg then !(c==d) else c==d)),H,by simp only[a0p,hc,hd],?_⟩
   cases neg<;>simpa using h
  ·cases h
 case un op x=>
  split at h
  ·rename_i hx
   exact⟨_,_,by simp only[a0p,hx,unV,Option.map_some],h⟩
  ·rename_i hx
   exact⟨_,_,by simp only[a0p,hx,unV,Option.map_some],h⟩
  ·cases h
 case conv kk x=>
  split at h
  ·rename_i hx
   exact⟨_,_,by simp only[a0p,hx],h⟩
  ·cases h
 case mkfn f caps=>
  rw[a0u]at h
  exact⟨_,_,by simp only[a0p];rfl,(by simpa only[c4p,funext (c4p pg.toCx e)] using h)⟩
 case mkfm f caps=>
  rw[a0u]at h
  exact⟨_,_,by simp only[a0p];rfl,(by simpa only[c4p,funext (c4p pg.toCx e)] using h)⟩
 case fld off n x=>
  split at h
  ·rename_i hx
   obtain⟨v,hv,h⟩:=(a9o ..).1 h
   exact⟨_,_,by simp only[a0p,hx,hv,Option.map_some],h⟩
  ·rename_i hx
   obtain⟨v,hv,h⟩:=(a9o ..).1 h
   exact⟨_,_,by simp only[a0p,hx,hv,Option.map_some],h⟩
  ·cases h
 case fadr off x=>
  split at h
  ·rename_i hx;exact⟨_,_,by simp only[a0p,hx],h⟩
  ·rename_i hx;exact⟨_,_,by simp only[a0p,hx],h⟩
  ·cases h
 case iadr sz x i=>
  split at h
  ·rename_i kk n hi
   have gen:∀ v,evO pg.toCx e x=v->(∀ id off len,v≠ .arr id off len)->(∃ l,lsize H v=some l/\∃ y,(0<=n/\l[n.toNat]? =some y)/\y.cells.length=sz/\k (.ro y.cells 0) H)->∃ v H',a0p pg.toCx (evF pg) b e H (.iadr sz x i)=some (v,H')/\k v H':=by
    rintro v hv hna ⟨l,hl,y,⟨h0,hy⟩,hs,h⟩
    refine⟨_,_,?_,h⟩
    simp only[a0p,hi,a4d,if_pos h0,hv]
    cases v with
    |arr a b c=>exact absurd rfl (hna a b c)
    |_=>simp only[hl,hy,hs,if_true]
   split at h
   ·rename_i id off len hx
    exact⟨_,_,by simp only[a0p,hi,a4d,if_pos h.1.1,hx,if_pos h.1.2],h.2⟩
   ·rename_i v hna
    exact gen _ rfl (fun a b c hh=>hna a b c hh) (d1r _ _ _ h)
  ·cases h
 case iadra len sz x i=>
  split at h
  ·rename_i kk n hi
   obtain⟨⟨h0,h1⟩,h⟩:=h
   split at h
   ·rename_i hx
    exact⟨_,_,by simp only[a0p,hi,a4d,if_pos h0,if_pos h1,hx],h⟩
   ·rename_i hx
    exact⟨_,_,by simp only[a0p,hi,a4d,if_pos h0,if_pos h1,hx],h⟩
   ·cases h
  ·cases h
 case idx x i=>
  split at h
  ·rename_i hi hx
   obtain⟨c,⟨h0,hc⟩,h⟩:=h
   exact⟨_,_,by simp only[a0p,hi,a4d,if_pos h0,hx,hc,Option.map_some],h⟩
  ·cases h
 case slcs x lo hi=>
  split at h
  ·rename_i s hx
   obtain⟨l,hl,h⟩:=b5a _ _ _ _ _ h
   obtain⟨r,hr,h⟩:=b5a _ _ _ _ _ h
   exact⟨_,_,by simp only[a0p,hx,hl,hr,if_pos h.1],h.2⟩
  ·cases h
 case slc sz x lo hi=>
  obtain⟨s,hs,h⟩:=d1r _ _ _ h
  obtain⟨l,hl,h⟩:=b5a _ _ _ _ _ h
  obtain⟨r,hr,h⟩:=b5a _ _ _ _ _ h
  exact⟨_,_,by simp only[a0p,hs,hl,hr,if_pos h.1],h.2⟩
 case ext x i=>
  split at h
  ·rename_i l hx
   obtain⟨v,hv,h⟩:=(a1o ..).1 h
   exact⟨_,_,by simp only[a0p,hx,hv,Option.map_some],h⟩
  ·cases h
 case nilck x=>
  split at h
  ·rename_i hx;exact⟨_,_,by simp only[a0p,hx],h⟩
  ·rename_i hx;exact⟨_,_,by simp only[a0p,hx],h⟩
  ·rename_i hx;exact⟨_,_,by simp only[a0p,hx],h⟩
  ·cases h
 case msl sz bytes z n=>
  split at h
  ·rename_i m hn
   obtain⟨h1,h⟩:=h
   simp only[a2r,Bool.and_eq_true,Nat.beq_eq,b0r,a0u,Nat.zero_add]at h
   exact⟨_,_,by simp only[a0p,hn,if_pos (show 0<=m/\roomy m.toNat bytes/\z.length=1/\sz=1 from⟨h1.1,h1.2,h.1.1,h.1.2⟩)],h.2⟩
  ·cases h
 case mm mx x y=>
  split at h
  ·rename_i k1 a k2 c hx hy
   rw[a2r]at h
   obtain⟨h1,h⟩:=h
   refine⟨.d (.int k1 (if mx then max a c else min a c)),H,by simp only[a0p,hx,hy,if_pos (of_decide_eq_true h1)],?_⟩
   cases mx<;>simpa using h
  ·cases h
 case mkm=>
  simp only[b0r,a0u,Nat.zero_add]at h
  exact⟨_,_,rfl,h⟩
 case brow sz=>
  rw[a2r]at h
  obtain⟨h1,h⟩:=h
  have h1:0 < sz:=by simpa [Nat.blt_eq] using h1
  exact⟨_,_,by simp only[a0p,if_pos h1],h⟩
 case b9z kk m kx x=>
  split at h
  ·rename_i id hm
   obtain⟨ob,ho,h⟩:=(a1o ..).1 h
   cases ob with
   |map l=>
    simp only at h
    split at h
    ·rename_i kd hk
     rw[a2r]at h
     obtain⟨h1,h2,h⟩:=h
     obtain⟨x',hx,h⟩:=e7j h
     rw[a0u]at h
     exact⟨_,_,by simp only[a0p,hm,hk,hx,ho,h1,h2,Bool.and_self,if_true],h⟩
    ·cases h
   |_=>cases h
  ·cases h
 case mget kk ok z m kx=>
  split at h
  ·rename_i id hm
   obtain⟨ob,ho,h⟩:=(a1o ..).1 h
   cases ob with
   |map l=>
    simp only at h
    split at h
    ·rename_i kd hk
     rw[a2r]at h
     obtain⟨h1,h2,r,rfl,h⟩:=h
     exact⟨_,_,by simp only[a0p,hm,hk,ho,h1,h2,Bool.and_self,if_true],h⟩
    ·cases h
   |_=>cases h
  ·cases h
 case ment kk z m kx=>
  split at h
  ·rename_i id hm
   obtain⟨ob,ho,h⟩:=(a1o ..).1 h
   cases ob with
   |map l=>
    simp only at h
    split at h
    ·rename_i kd hk
     rw[a2r]at h
     obtain⟨h1,h2,r,hr,h⟩:=h
     cases r with
     |some i=>
      obtain⟨p,hp,h⟩:=h
      exact⟨_,_,by simp only[a0p,hm,hk,ho,h1,h2,Bool.and_self,if_true,hr,hp,Option.map_some],h⟩
     |none=>
      simp only[a0u]at h
      exact⟨_,_,by simp only[a0p,hm,hk,ho,h1,h2,Bool.and_self,if_true,hr],h⟩
    ·cases h
   |_=>cases h
  ·cases h
 case mest m s x=>
  split at h
  ·rename_i id hm
   obtain⟨ob,ho,h⟩:=(a1o ..).1 h
   cases ob with
   |map l=>
    simp only at h
    split at h
    ·rename_i n hs
     obtain⟨h1,h⟩:=h
     obtain⟨x',hx,h⟩:=e7j h
     rw[a0u]at h
     exact⟨_,_,by simp only[a0p,hm,hs,hx,ho,if_pos h1],h⟩
    ·cases h
   |_=>cases h
  ·cases h
 case call f args=>
  obtain⟨r,H',hr,h⟩:=b9j _ _ _ _ _ h
  exact⟨r,H',hr,h⟩
 case callv f args=>
  split at h
  ·rename_i f c hf
   have h:=b9j _ _ _ _ _ h
   rw[a0u]at h
   obtain⟨r,H',hr,h⟩:=h
   exact⟨r,H',by simp only[a0p,hf];exact hr,h⟩
  ·rename_i f c hf
   have h:=b9j _ _ _ _ _ h
   rw[a0u]at h
   obtain⟨r,H',hr,h⟩:=h
   exact⟨r,H',by simp only[a0p,hf];exact hr,h⟩
  ·cases h
 case len str x=>
  cases str
  ·simp only[c4p]at h
   split at h
   ·rename_i hx;exact⟨_,_,by simp only[a0p,hx,c9l,Option.map_some],h⟩
   ·rename_i hx;exact⟨_,_,by simp only[a0p,hx,c9l,Option.map_some];rfl,h⟩
   ·rename_i hx;exact⟨_,_,by simp only[a0p,hx,c9l,Option.map_some];rfl,h⟩
   ·rename_i hx;exact⟨_,_,by simp only[a0p,hx,c9l,Option.map_some],h⟩
   ·rename_i hx;exact⟨_,_,by simp only[a0p,hx,c9l,Option.map_some],h⟩
   ·cases h
  ·simp only[c4p]at h
   split at h
   ·rename_i hx;exact⟨_,_,by simp only[a0p,hx],h⟩
   ·cases h
 case convs x=>
  split at h
  ·rename_i hx;exact⟨_,_,by simp only[a0p,hx],h⟩
  ·cases h
 case app sz bytes x y=>
  obtain⟨ys,hys,⟨⟨h1,h2⟩,h⟩⟩:=d1r _ _ _ h
  split at h
  ·rename_i id len hx
   obtain⟨o,ho,h⟩:=(a1o ..).1 h
   cases o with
   |row sz' l=>
    obtain⟨⟨h3,h4,h5⟩,h⟩:=h
    rw[a0u]at h
    refine⟨_,_,?_,h⟩
    simp only[a0p,hys,hx,ho]
    rw[if_pos ⟨h1,h2⟩,if_pos ⟨h3,h4,h5⟩]
   |_=>cases h
  ·rename_i hx
   by_cases hy:ys=[]
   ·refine⟨_,_,?_,h.1 hy⟩
    simp only[a0p,hys,hx]
    rw[if_pos ⟨h1,h2⟩,if_pos hy]
   ·obtain⟨h3,h⟩:=h.2 hy
    simp only[b0r,a0u,Nat.zero_add]at h
    refine⟨_,_,?_,h⟩
    simp only[a0p,hys,hx]
    rw[if_pos ⟨h1,h2⟩,if_neg hy,if_pos h3]
  ·obtain⟨r,H',hr,_,h⟩:=h
   exact⟨r,H',hr,h⟩
 all_goals exact h
end
end Go.Vm
namespace Go.Vm
section
variable (pg:Pg)
noncomputable def f2q (kn:List (Nat×Bool)) (dst:Option Nat) (v:V) (e:Env) (H:Hp) (k:List (Nat×Bool)->Env->Hp->Prop):Prop:=match dst with
 |some d=>a1h (forget kn d) fun kn=>k kn ((d,v)::e) H
 |none=>k kn e H
noncomputable def goK (b:Nat) (dst:Option Nat) (op:VOp) (kn:List (Nat×Bool)) (e:Env) (H:Hp) (k:List (Nat×Bool)->Env->Hp->Prop):Prop:=
 match op with
 | .mv (.c (.d (.bool t)))=>(match dst with
   |some d=>a1h (forget kn d) fun kn=>k ((d,t)::kn) ((d,.d (.bool t))::e) H
   |none=>k kn e H)
 | .mv (.t i)=>(match dst,look kn i with
   |some d,some t=>a1h (forget kn d) fun kn=>k ((d,t)::kn) ((d,.d (.bool t))::e) H
   |dst,_=>b4f (gE e i) fun v=>f2q kn dst v e H k)
 |op=>wpO pg kn b e H op fun v H'=>f2q kn dst v e H' k
noncomputable def b0f (b:Nat) (o:a0c) (kn:List (Nat×Bool)) (e:Env) (H:Hp) (k:List (Nat×Bool)->Env->Hp->Prop):Prop:=match o with
 |⟨dst,op,none⟩=>goK pg b dst op kn e H k
 |⟨dst,op,some (g,bb)⟩=>match look kn g with
  |some t=>match t,bb with
   |true,true=>goK pg b dst op kn e H k
   |false,false=>goK pg b dst op kn e H k
   |true,false=>f2q kn dst (.tup []) e H k
   |false,true=>f2q kn dst (.tup []) e H k
  |none=>match gE e g with
   | .tup []=>f2q kn dst (.tup []) e H k
   | .d (.bool t)=>(t=bb->goK pg b dst op ((g,bb)::kn) e H k)/\(t=(!bb)->f2q ((g,!bb)::kn) dst (.tup []) e H k)
   |_=>False
abbrev Kn:=List (Nat×Bool)
noncomputable def wpOps (b:Nat) (l:List a0c):Kn->Env->Hp->(Kn->Env->Hp->Prop)->Prop:=List.rec (motive:=fun _=>Kn->Env->Hp->(Kn->Env->Hp->Prop)->Prop) (fun kn e H K=>K kn e H) (fun o _ ih kn e H K=>b0f pg b o kn e H fun kn e H=>ih kn e H K) l
noncomputable def grK (p:Bool) (H H':Hp) (q:Prop):Prop:=match p with|true=>q|false=>grew H H'=true/\q
noncomputable def h8a (d:Option Nat) (e:Env) (H:Hp) (q:Prop):Prop:=match d with|some d=>chk ((gE e d).und H.length) q|none=>q
noncomputable def c3w (b:Nat) (m:Nat) (l:List a0c):Kn->Env->Hp->(Kn->Env->Hp->Prop)->Prop:=List.rec (motive:=fun _=>Nat->Kn->Env->Hp->(Kn->Env->Hp->Prop)->Prop) (fun _ kn e H K=>K kn e H) (fun o _ ih m kn e H K=>b0f pg b o kn e H fun kn e' H'=>match m with
  |0=>ih 0 kn e' H' K
  |m+1=>grK (c1p o.op) H H' (h8a o.dst e' H' (ih m kn e' H' K))) l m
noncomputable def i0i (b:Nat) (l:List a0c):(Hp->Prop->Prop)->Kn->Env->Hp->((Hp->Prop->Prop)->Kn->Env->Prop)->Prop:=List.rec (motive:=fun _=>(Hp->Prop->Prop)->Kn->Env->Hp->((Hp->Prop->Prop)->Kn->Env->Prop)->Prop) (fun chk kn e _ K=>K chk kn e) (fun o _ ih chk kn e H K=>b0f pg b o kn e H fun kn' e' H'=>H'=H/\ih (fun H1 P=>b0f pg b o kn e H1 fun _ e2 H2=>e2=e'/\H2=H1/\chk H1 P) kn' e' H K) l
def d2q (d:Option Nat) (o:a0c):Bool:=match d with|some t=>o.names.contains t|none=>false
noncomputable def i0w (b:Nat) (d:Option Nat) (H0:Hp) (l:List a0c):Kn->Env->Hp->(Kn->Env->Prop)->Prop:=List.rec (motive:=fun _=>Kn->Env->Hp->(Kn->Env->Prop)->Prop) (fun kn e _ K=>K kn e) (fun o _ ih kn e H1 K=>b0f pg b o kn e H1 fun kn' e' H'=>H'=H1/\(match d2q d o with
  |true=>ih kn' e' H1 K
  |false=>b0f pg b o kn e H0 fun _ e2 H2=>e2=e'/\H2=H0/\ih kn' e' H1 K)) l
noncomputable def d6b (b:Nat) (d m:Nat) (ops:List a0c) (kn:Kn) (e:Env) (H:Hp) (K:Kn->Env->Hp->Prop):Prop:=
 i0i pg b (ops.take d) (fun _ P=>P) kn e H fun chk kn e=>match ops[d]? with
   |some od=>b0f pg b od kn e H fun kn e H1=>chk H1 (i0w pg b od.dst H ((ops.take m).drop (d+1)) kn e H1 fun kn e=>wpOps pg b (ops.drop m) kn e H1 K)
   |none=>False
noncomputable def c9i (b:Nat) (d:Nat) (ops:List a0c) (kn:Kn) (e:Env) (H:Hp) (K:Kn->Env->Hp->Prop):Prop:=
 i0i pg b (ops.take d) (fun _ P=>P) kn e H fun chk kn e=>match ops.drop d with
   |od::oz::r=>b0f pg b od kn e H fun kn1 e1 H10=>b0f pg b oz kn1 e1 H10 fun kn2 e2 H11=>b0f pg b oz kn1 e1 H fun _ e3 H01=>e3=e2/\b0f pg b od kn e H01 fun _ e4 H4=>e4=e1/\H4=H11/\chk H10 (chk H01 (chk H11 (wpOps pg b r kn2 e2 H11 K)))
   |_=>False
noncomputable def c9r (e:Env) (ks:List Nat):(Env->Prop)->Prop:=List.rec (motive:=fun _=>(Env->Prop)->Prop) (fun k=>k []) (fun i _ ih k=>b4f (gE e i) fun v=>ih fun r=>k ((i,v)::r)) ks
theorem c2y (e:Env):∀ (ks:List Nat) (k:Env->Prop),c9r e ks k=k (a1d ks e)
 |[],_=>rfl
 |i::r,k=>by
  rw[show c9r e (i::r) k=b4f (gE e i) (fun v=>c9r e r fun r=>k ((i,v)::r))from rfl,b8d,c2y e r,b8g]
  rfl
noncomputable def d8h (n:Nat) (e:Env) (ks:List Nat):(Env->Prop)->Prop:=List.rec (motive:=fun _=>(Env->Prop)->Prop) (fun k=>k []) (fun i _ ih k=>b4f (gE e i) fun v=>match v.und n with
  |true=>ih fun r=>k ((i,v)::r)
  |false=>ih fun r=>k ((i,.undef)::r)) ks
theorem c9z (n:Nat) (e:Env):∀ (ks:List Nat) (k:Env->Prop),d8h n e ks k=k (cut n (a1d ks e))
 |[],_=>rfl
 |i::r,k=>by
  rw[show d8h n e (i::r) k=b4f (gE e i) (fun v=>match v.und n with
    |true=>d8h n e r fun r=>k ((i,v)::r)
    |false=>d8h n e r fun r=>k ((i,.undef)::r))from rfl,b8d,b8g]
  have hc:cut n (a1d (i::r) e)=(i,if(a1g e i).und n then a1g e i else .undef)::cut n (a1d r e):=rfl
  rw[hc]
  cases hu:(a1g e i).und n<;>simp only[c9z n e r]<;>rfl
@[irreducible] def d2a (b:Nat) (ks:List Nat) (c:a0m) (e:Env) (H:Hp) (Q:Ex->Kn->Env->Hp->Prop):Prop:=∃ x e' H',ev pg (.loop ks c) ⟨e,H,b⟩=some (x,⟨e',H',b⟩)/\Q x [] e' H'
noncomputable def wp (b:Nat) (c:a0m):Kn->Env->Hp->(Ex->Kn->Env->Hp->Prop)->Prop:=a0m.rec (motive:=fun _=>Kn->Env->Hp->(Ex->Kn->Env->Hp->Prop)->Prop)
  (fun kn e H Q=>Q .nrm kn e H)
  (fun ops kn e H Q=>wpOps pg b ops kn e H fun kn e H=>Q .nrm kn e H)
  (fun m ops kn e H Q=>c3w pg b m ops kn e H fun kn e H=>Q .nrm kn e H)
  (fun _ _ ihc ihd kn e H Q=>ihc kn e H fun x kn' e' H'=>match x with
    | .nrm=>ihd kn' e' H' Q
    | .exit i=>Q (.exit i) kn' e' H'
    | .ret=>Q .ret kn' e' H')
  (fun o _ _ ihc ihd kn e H Q=>match o with
    | .t i=>(match look kn i with
      |some true=>ihc kn e H Q
      |some false=>ihd kn e H Q
      |none=>match gE e i with
       | .d (.bool t)=>(t=true->ihc ((i,true)::kn) e H Q)/\(t=false->ihd ((i,false)::kn) e H Q)
       |_=>False)
    |o=>match gO pg.toCx e o with
     | .d (.bool t)=>(t=true->ihc kn e H Q)/\(t=false->ihd kn e H Q)
     |_=>False)
  (fun id _ ih kn e H Q=>ih kn e H fun x kn' e' H'=>match x with
    | .exit i=>(match Nat.beq i id with|true=>Q .nrm kn' e' H'|false=>Q (.exit i) kn' e' H')
    | .nrm=>Q .nrm kn' e' H'
    | .ret=>Q .ret kn' e' H')
  (fun ks c _ _ e H Q=>c9r e ks fun e=>d2a pg b ks c e H Q)
  (fun _ ih kn e H Q=>ih kn e H Q)
  (fun i kn e H Q=>Q (.exit i) kn e H)
  (fun kn e H Q=>Q .ret kn e H)
  (fun sz t kn e H Q=>match gE e t with
    | .nils=>chk (Nat.blt 0 sz) (d8k H 0 fun n=>a1h (H++[.row sz []]) fun H'=>a1h (forget kn t) fun kn=>Q .nrm kn ((t,.row n 0)::e) H')
    |_=>False)
  (fun sz t off kn e H Q=>match gE e t with
    | .ptr id o=>b3b H id fun ob=>match ob with
      | .box c=>b3b c (o+off) fun v=>match v with
        | .nils=>chk (Nat.ble b id && Nat.blt 0 sz) (d8k H 0 fun n=>a1h (c.set (o+off) (.row n 0)) fun c'=>a1h (H.set id (.box c')++[.row sz []]) fun H'=>Q .nrm kn e H')
        |_=>False
      |_=>False
    |_=>False)
  (fun t kn e H Q=>match gE e t with
    | .arr id _ _=>b3b H id fun ob=>match ob with
      | .box c=> ∃ ds,b4x c=some ds/\a1h (H.set id (.frz ds)) fun H'=>Q .nrm kn e H'
      |_=>False
    | .row id len=>b3b H id fun ob=>match ob with
      | .row _ l=>l.length=len/\a1h (forget kn t) fun kn=>Q .nrm kn ((t,.d (.sl l))::e) H
      |_=>False
    |_=>False)
  (fun sz kn e H Q=>chk (Nat.blt 0 sz) (a1h (H++[.row sz []]) fun H'=>Q .nrm kn e H'))
  (fun t off k kn e H Q=>match gE e t with
    | .ptr id o=>b3b H id fun ob=>match ob with
      | .box c=>b3b c (o+off) fun v=>(match v with
        | .nils=>b3b H (id - k) fun ob=>(match ob with
          | .row _ []=>chk (Nat.blt 0 k && Nat.ble k id && Nat.ble b (id - k)) (a1h (c.set (o+off) (.row (id - k) 0)) fun c'=>a1h (H.set id (.box c')) fun H'=>Q .nrm kn e H')
          |_=>False)
        |_=>False)
      |_=>False
    |_=>False) c
theorem e9n (b i:Nat) (c d:a0m) (kn e H Q):wp pg b (.cond (.t i) c d) kn e H Q=(match look kn i with
      |some true=>wp pg b c kn e H Q
      |some false=>wp pg b d kn e H Q
      |none=>match gE e i with
       | .d (.bool t)=>(t=true->wp pg b c ((i,true)::kn) e H Q)/\(t=false->wp pg b d ((i,false)::kn) e H Q)
       |_=>False):=rfl
theorem e7u (b sz t:Nat) (kn e H Q):wp pg b (.newrow sz t) kn e H Q=(match gE e t with
    | .nils=>chk (Nat.blt 0 sz) (d8k H 0 fun n=>a1h (H++[.row sz []]) fun H'=>a1h (forget kn t) fun kn=>Q .nrm kn ((t,.row n 0)::e) H')
    |_=>False):=rfl
theorem e3t (b sz t off:Nat) (kn e H Q):wp pg b (.bindrow sz t off) kn e H Q=(match gE e t with
    | .ptr id o=>b3b H id fun ob=>match ob with
      | .box c=>b3b c (o+off) fun v=>match v with
        | .nils=>chk (Nat.ble b id && Nat.blt 0 sz) (d8k H 0 fun n=>a1h (c.set (o+off) (.row n 0)) fun c'=>a1h (H.set id (.box c')++[.row sz []]) fun H'=>Q .nrm kn e H')
        |_=>False
      |_=>False
    |_=>False):=rfl
theorem f4e (b sz:Nat) (kn e H Q):wp pg b (.mkrow sz) kn e H Q=chk (Nat.blt 0 sz) (a1h (H++[.row sz []]) fun H'=>Q .nrm kn e H'):=rfl
theorem e7m (b t off k:Nat) (kn e H Q):wp pg b (.bindto t off k) kn e H Q=(match gE e t with
    | .ptr id o=>b3b H id fun ob=>match ob with
      | .box c=>b3b c (o+off) fun v=>(match v with
        | .nils=>b3b H (id - k) fun ob=>(match ob with
          | .row _ []=>chk (Nat.blt 0 k && Nat.ble k id && Nat.ble b (id - k)) (a1h (c.set (o+off) (.row (id - k) 0)) fun c'=>a1h (H.set id (.box c')) fun H'=>Q .nrm kn e H')
          |_=>False)
        |_=>False)
      |_=>False
    |_=>False):=rfl
theorem e5y (b t:Nat) (kn e H Q):wp pg b (.freeze t) kn e H Q=(match gE e t with
    | .arr id _ _=>b3b H id fun ob=>match ob with
      | .box c=> ∃ ds,b4x c=some ds/\a1h (H.set id (.frz ds)) fun H'=>Q .nrm kn e H'
      |_=>False
    | .row id len=>b3b H id fun ob=>match ob with
      | .row _ l=>l.length=len/\a1h (forget kn t) fun kn=>Q .nrm kn ((t,.d (.sl l))::e) H
      |_=>False
    |_=>False):=rfl
end
section
variable {pg:Pg}
theorem c3n {kn dst v e H b} {k:List (Nat×Bool)->Env->Hp->Prop} (hk:a6p kn e) (h:f2q kn dst v e H k):∃ kn' e' H',lay dst e b (some (v,H))=some ⟨e',H',b⟩/\a6p kn' e'/\k kn' e' H':=by
 cases dst with
 |none=>exact⟨_,_,_,rfl,hk,h⟩
 |some d=>
  have h:k (forget kn d) ((d,v)::e) H:=by simpa only[f2q,a0u] using h
  exact⟨_,_,_,rfl,hk.forget d v,h⟩
theorem e8l {b dst op kn e H} {k:List (Nat×Bool)->Env->Hp->Prop} (hk:a6p kn e) (h:goK pg b dst op kn e H k):∃ kn' e' H',lay dst e b (a0p pg.toCx (evF pg) b e H op)=some ⟨e',H',b⟩/\a6p kn' e'/\k kn' e' H':=by
 have gen:∀ op,(wpO pg kn b e H op fun v H'=>f2q kn dst v e H' k)->∃ kn' e' H',lay dst e b (a0p pg.toCx (evF pg) b e H op)=some ⟨e',H',b⟩/\a6p kn' e'/\k kn' e' H':=by
   intro op h
   obtain⟨v,H',hv,h⟩:=f9u hk h
   rw[hv]
   exact c3n hk h
 unfold goK at h
 split at h
 ·rename_i t
  cases dst with
  |none=>exact⟨_,_,_,rfl,hk,h⟩
  |some d=>
   have h:k ((d,t)::forget kn d) ((d,.d (.bool t))::e) H:=by simpa only[a0u] using h
   exact⟨_,_,_,rfl,(hk.forget d _).add (by simp[a1g]),h⟩
 ·rename_i i
  split at h
  ·rename_i d t ht
   rw[a0u]at h
   exact⟨_,_,_,by simp only[a0p,evO,hk i t ht,e1l,a6w],(hk.forget d _).add (by simp[a1g]),h⟩
  ·rw[b8d,b8g]at h
   exact c3n hk h
 ·exact gen _ h
theorem a2s {b:Nat} {o:a0c} {kn e H} {k:List (Nat×Bool)->Env->Hp->Prop} (hk:a6p kn e) (h:b0f pg b o kn e H k):∃ kn' e' H',a0b pg.toCx (evF pg) o ⟨e,H,b⟩=some ⟨e',H',b⟩/\a6p kn' e'/\k kn' e' H':=by
 obtain⟨dst,op,g⟩:=o
 cases g with
 |none=>exact e8l hk h
 |some p=>
  obtain⟨g,bb⟩:=p
  have yes:∀ {kn},a6p kn e->a1g e g= .d (.bool bb)->goK pg b dst op kn e H k->∃ kn' e' H',a0b pg.toCx (evF pg) ⟨dst,op,some (g,bb)⟩ ⟨e,H,b⟩=some ⟨e',H',b⟩/\a6p kn' e'/\k kn' e' H':=by
   intro kn hk hg h
   simp only[a0b,hg,e2d,if_true]
   exact e8l hk h
  have no:∀ {kn},a6p kn e->a1g e g= .d (.bool !bb)->f2q kn dst (.tup []) e H k->∃ kn' e' H',a0b pg.toCx (evF pg) ⟨dst,op,some (g,bb)⟩ ⟨e,H,b⟩=some ⟨e',H',b⟩/\a6p kn' e'/\k kn' e' H':=by
   intro kn hk hg h
   simp only[a0b,hg,e2d]
   rw[if_neg (by cases bb<;>simp)]
   exact c3n (b:=b) hk h
  unfold b0f at h
  simp only at h
  split at h
  ·rename_i t ht
   have hg:=hk g t ht
   split at h
   ·exact yes hk hg h
   ·exact yes hk hg h
   ·exact no hk hg h
   ·exact no hk hg h
  ·rw[b8g]at h
   split at h
   ·rename_i hg
    simp only[a0b,hg,g2s]
    exact c3n (b:=b) hk h
   ·rename_i t hg
    by_cases ht:t=bb
    ·subst ht
     exact yes (hk.add hg) hg (h.1 rfl)
    ·have ht':t= !bb:=by cases t<;>cases bb<;>simp_all
     rw[ht']at hg
     exact no (hk.add hg) hg (h.2 ht')
   ·cases h
theorem b4n {b:Nat}:∀ {l:List a0c} {kn e H} {K:Kn->Env->Hp->Prop},a6p kn e->wpOps pg b l kn e H K->∃ kn' e' H',a0k pg.toCx (evF pg) l ⟨e,H,b⟩=some ⟨e',H',b⟩/\a6p kn' e'/\K kn' e' H'
 |[],_,_,_,_,hk,h=>⟨_,_,_,rfl,hk,h⟩
 |o::r,kn,e,H,K,hk,h=>by
  obtain⟨kn',e',H',h1,h2,h3⟩:=a2s hk h
  obtain⟨kn2,e2,H2,h4,hk2,h5⟩:=b4n h2 h3
  exact⟨kn2,e2,H2,by simp only[a0k,h1,Option.bind_some,h4],hk2,h5⟩
theorem f7w {b:Nat} {e:Env} {H:Hp} {o:VOp} {v:V} {H':Hp} (hp:c1p o=true) (h:a0p pg.toCx (evF pg) b e H o=some (v,H')):H'=H:=c5w hp h
theorem d3t {b:Nat} {e:Env} {H:Hp} {o:a0c} {e' H'} (hp:c1p o.op=true) (h:a0b pg.toCx (evF pg) o ⟨e,H,b⟩=some ⟨e',H',b⟩):H'=H:=by
 have key:∀ {dst:Option Nat} {r:Option (V×Hp)},(∀ v H',r=some (v,H')->H'=H)->lay dst e b r=some ⟨e',H',b⟩->H'=H:=by
  intro dst r hr h
  cases r with
  |none=>cases h
  |some q=>
   obtain⟨v,H2⟩:=q
   have:=hr v H2 rfl
   simp only[e1l,Option.some.injEq,St.mk.injEq]at h
   rw[<-h.2.1,this]
 obtain⟨dst,op,g⟩:=o
 cases g with
 |none=>exact key (fun v H' hh=>f7w hp hh) h
 |some p=>
  obtain⟨g,bb⟩:=p
  simp only[a0b]at h
  unfold grd at h
  split at h
  ·split at h
   ·exact key (fun v H' hh=>f7w hp hh) h
   ·simp only[Option.some.injEq,St.mk.injEq]at h;exact h.2.1.symm
  ·simp only[Option.some.injEq,St.mk.injEq]at h;exact h.2.1.symm
  ·cases h
theorem c5p (cx:Cx) (orc:Orc) (l:List a0c) (s:St):a2d cx orc 0 l s=a0k cx orc l s:=by cases l<;>simp[a2d,a0k]
theorem b4w {b:Nat}:∀ {l:List a0c} {m:Nat} {kn e H} {K:Kn->Env->Hp->Prop},a6p kn e->c3w pg b m l kn e H K->∃ kn' e' H',a2d pg.toCx (evF pg) m l ⟨e,H,b⟩=some ⟨e',H',b⟩/\a6p kn' e'/\K kn' e' H'
 |[],m,_,_,_,_,hk,h=>⟨_,_,_,by cases m<;>rfl,hk,h⟩
 |o::r,0,kn,e,H,K,hk,h=>by
  obtain⟨kn',e',H',h1,h2,h3⟩:=a2s hk h
  obtain⟨kn2,e2,H2,h4,hk2,h5⟩:=b4w (m:=0) h2 h3
  rw[c5p]at h4
  exact⟨kn2,e2,H2,by rw[c5p];simp only[a0k,h1,Option.bind_some,h4],hk2,h5⟩
 |o::r,m+1,kn,e,H,K,hk,h=>by
  obtain⟨kn',e',H',h1,h2,h3⟩:=a2s hk h
  have hg:grew H H'=true/\h8a o.dst e' H' (c3w pg b m r kn' e' H' K):=by
   have h3:grK (c1p o.op) H H' (h8a o.dst e' H' (c3w pg b m r kn' e' H' K)):=h3
   unfold grK at h3
   cases hp:c1p o.op with
   |true=>
    rw[hp]at h3
    rw[d3t hp h1]
    exact⟨by simp,by rw[d3t hp h1]at h3;exact h3⟩
   |false=>rw[hp]at h3;exact h3
  have hd:b6g o.dst ⟨e',H',b⟩=true/\c3w pg b m r kn' e' H' K:=by
   have:=hg.2
   unfold h8a at this
   unfold b6g
   cases hd:o.dst with
   |some d=>rw[hd]at this;simp only[a2r,b8g]at this;exact this
   |none=>rw[hd]at this;exact⟨rfl,this⟩
  obtain⟨kn2,e2,H2,h4,hk2,h5⟩:=b4w h2 hd.2
  exact⟨kn2,e2,H2,by simp only[a2d,h1,Option.bind_some,hg.1,hd.1,Bool.and_self,if_true,h4],hk2,h5⟩
theorem a3t {cx:Cx} {orc:Orc}:∀ {l l':List a0c} {s:St},a0k cx orc (l++l') s=(a0k cx orc l s).bind (a0k cx orc l')
 |[],_,_=>rfl
 |o::r,l',s=>by
  simp only[List.cons_append,a0k]
  cases a0b cx orc o s with
  |none=>rfl
  |some q=>exact a3t
theorem a3v {cx:Cx} {orc:Orc} {l:List a0c} {o:a0c} {s q r:St} (h:a0k cx orc l s=some q) (h1:a0b cx orc o q=some r):a0k cx orc (l++[o]) s=some r:=by
 rw[a3t,h];simp only[Option.bind_some,a0k,h1]
theorem a6f {l r:List a0c} {o:a0c} {i:Nat} (hi:i<=l.length):(l++o::r).take i=l.take i:=by rw[List.take_append_of_le_length hi]
structure Ahd (b:Nat) (s:St) (pre:List a0c) (e:Env) (chk:Hp->Prop->Prop):Prop where
 run:a0k pg.toCx (evF pg) pre s=some ⟨e,s.h,b⟩
 quiet:∀ i q,i<=pre.length->a0k pg.toCx (evF pg) (pre.take i) s=some q->q.h=s.h
 chk:∀ H1 P,chk H1 P->P/\∀ i o q q',pre[i]? =some o->a0k pg.toCx (evF pg) (pre.take i) s=some q->a0k pg.toCx (evF pg) (pre.take (i+1)) s=some q'->a0b pg.toCx (evF pg) o ⟨q.e,H1,b⟩=some ⟨q'.e,H1,b⟩
theorem Ahd.snoc {b:Nat} {s:St} {pre:List a0c} {e e':Env} {chk:Hp->Prop->Prop} (A:Ahd (pg:=pg) b s pre e chk) {kn:Kn} (hk:a6p kn e) {o:a0c} (h:a0b pg.toCx (evF pg) o ⟨e,s.h,b⟩=some ⟨e',s.h,b⟩):
 Ahd (pg:=pg) b s (pre++[o]) e' (fun H1 P=>b0f pg b o kn e H1 fun _ e2 H2=>e2=e'/\H2=H1/\chk H1 P):=by
 have hr:=a3v A.run h
 refine⟨hr,fun i q hi hq=>?_,fun H1 P hc=>?_⟩
 ·rw[List.length_append,List.length_singleton]at hi
  by_cases c:i<=pre.length
  ·rw[a6f c]at hq;exact A.quiet i q c hq
  ·have:i=pre.length+1:=om
   rw[this,List.take_of_length_le (by simp),hr]at hq
   cases hq;rfl
 ·obtain⟨_,e2,H2,h1,_,rfl,rfl,h4⟩:=a2s hk hc
  obtain⟨hP,hall⟩:=A.chk H2 P h4
  refine⟨hP,fun i p q q' hp hq hq'=>?_⟩
  by_cases c:i < pre.length
  ·rw[List.getElem?_append_left c]at hp
   rw[a6f om]at hq hq'
   exact hall i p q q' hp hq hq'
  ·have hi:i=pre.length:=by
    have:=(List.getElem?_eq_some_iff.1 hp).1
    rw[List.length_append,List.length_singleton]at this
    omega
   subst hi
   rw[List.getElem?_append_right (Nat.le_refl _),Nat.sub_self]at hp
   cases hp
   rw[a6f (Nat.le_refl _),List.take_of_length_le (Nat.le_refl _),A.run]at hq
   rw[List.take_of_length_le (by simp),hr]at hq'
   cases hq;cases hq'
   exact h1
theorem c9o {b:Nat} {s:St}:∀ {r pre:List a0c} {kn e chk} {K:(Hp->Prop->Prop)->Kn->Env->Prop},a6p kn e->Ahd (pg:=pg) b s pre e chk->i0i pg b r chk kn e s.h K->∃ chk' kn' e',Ahd (pg:=pg) b s (pre++r) e' chk'/\a6p kn' e'/\K chk' kn' e'
 |[],pre,kn,e,chk,K,hk,A,h=>⟨chk,kn,e,by rw[List.append_nil];exact A,hk,h⟩
 |o::r,pre,kn,e,chk,K,hk,A,h=>by
  obtain⟨kn',e',H',h1,h2,h3⟩:=a2s hk h
  obtain⟨rfl,h3⟩:=h3
  obtain⟨chk',kn2,e2,B,hk2,h5⟩:=c9o h2 (A.snoc hk h1) h3
  exact⟨chk',kn2,e2,by rw[List.append_assoc]at B;exact B,hk2,h5⟩
structure Bhd (b:Nat) (s:St) (d:Nat) (od:a0c) (H1:Hp) (pre:List a0c) (e:Env):Prop where
 run:a0k pg.toCx (evF pg) pre s=some ⟨e,H1,b⟩
 lt:d < pre.length
 quiet:∀ i q,d < i->i<=pre.length->a0k pg.toCx (evF pg) (pre.take i) s=some q->q.h=H1
 both:∀ i o q q',d < i->pre[i]? =some o->a0k pg.toCx (evF pg) (pre.take i) s=some q->a0k pg.toCx (evF pg) (pre.take (i+1)) s=some q'->(∃ t,od.dst=some t/\t∈o.names)\/a0b pg.toCx (evF pg) o ⟨q.e,s.h,b⟩=some ⟨q'.e,s.h,b⟩
theorem Bhd.snoc {b:Nat} {s:St} {d:Nat} {od:a0c} {H1:Hp} {pre:List a0c} {e e':Env} (B:Bhd (pg:=pg) b s d od H1 pre e) {o:a0c} (h:a0b pg.toCx (evF pg) o ⟨e,H1,b⟩=some ⟨e',H1,b⟩)
 (h2:(∃ t,od.dst=some t/\t∈o.names)\/a0b pg.toCx (evF pg) o ⟨e,s.h,b⟩=some ⟨e',s.h,b⟩):Bhd (pg:=pg) b s d od H1 (pre++[o]) e':=by
 have hr:=a3v B.run h
 refine⟨hr,by have:=B.lt;simp;omega,fun i q hd hi hq=>?_,fun i p q q' hd hp hq hq'=>?_⟩
 ·rw[List.length_append,List.length_singleton]at hi
  by_cases c:i<=pre.length
  ·rw[a6f c]at hq;exact B.quiet i q hd c hq
  ·have:i=pre.length+1:=om
   rw[this,List.take_of_length_le (by simp),hr]at hq
   cases hq;rfl
 ·by_cases c:i < pre.length
  ·rw[List.getElem?_append_left c]at hp
   rw[a6f om]at hq hq'
   exact B.both i p q q' hd hp hq hq'
  ·have hi:i=pre.length:=by
    have:=(List.getElem?_eq_some_iff.1 hp).1
    rw[List.length_append,List.length_singleton]at this
    omega
   subst hi
   rw[List.getElem?_append_right (Nat.le_refl _),Nat.sub_self]at hp
   cases hp
   rw[a6f (Nat.le_refl _),List.take_of_length_le (Nat.le_refl _),B.run]at hq
   rw[List.take_of_length_le (by simp),hr]at hq'
   cases hq;cases hq'
   exact h2
theorem d9w {d:Option Nat} {o:a0c} (h:d2q d o=true):∃ t,d=some t/\t∈o.names:=by
 unfold d2q at h
 split at h
 ·exact⟨_,rfl,by simpa using h⟩
 ·cases h
theorem e0n {b:Nat} {s:St} {d:Nat} {od:a0c} {H1:Hp}:∀ {r pre:List a0c} {kn e} {K:Kn->Env->Prop},a6p kn e->Bhd (pg:=pg) b s d od H1 pre e->i0w pg b od.dst s.h r kn e H1 K->∃ kn' e',Bhd (pg:=pg) b s d od H1 (pre++r) e'/\a6p kn' e'/\K kn' e'
 |[],pre,kn,e,K,hk,B,h=>⟨kn,e,by rw[List.append_nil];exact B,hk,h⟩
 |o::r,pre,kn,e,K,hk,B,h=>by
  obtain⟨kn',e',H',h1,h2,h3⟩:=a2s hk h
  obtain⟨rfl,h3⟩:=h3
  have fin:Bhd (pg:=pg) b s d od H' (pre++[o]) e'->i0w pg b od.dst s.h r kn' e' H' K->∃ kn' e',Bhd (pg:=pg) b s d od H' (pre++o::r) e'/\a6p kn' e'/\K kn' e':=by
   intro C h4
   obtain⟨kn2,e2,C',hk2,h5⟩:=e0n h2 C h4
   exact⟨kn2,e2,by rw[List.append_assoc]at C';exact C',hk2,h5⟩
  cases hn:d2q od.dst o with
  |true=>
   rw[hn]at h3
   exact fin (B.snoc h1 (.inl (d9w hn))) h3
  |false=>
   rw[hn]at h3
   obtain⟨_,e2,H2,g1,_,rfl,rfl,g4⟩:=a2s hk h3
   exact fin (B.snoc h1 (.inr g1)) g4
theorem e1a {b:Nat} {s s':St} (hb:s.b=b) {ops:List a0c} {d m:Nat} (hm:m<=ops.length) {od:a0c} (ho:ops[d]? =some od) {e1 e2:Env} {H1:Hp} {chk:Hp->Prop->Prop} {P:Prop}
 (A:Ahd (pg:=pg) b s (ops.take d) e1 chk) (hc:chk H1 P) (hd:d < m) (B:Bhd (pg:=pg) b s d od H1 (ops.take m) e2) (h:a0k pg.toCx (evF pg) ops s=some s'):c6w pg.toCx (evF pg) m ops s:=by
 have pref:∀ i,∃ q,a0k pg.toCx (evF pg) (ops.take i) s=some q:=by
  intro i
  rw[<-List.take_append_drop i ops,a3t]at h
  cases hq:a0k pg.toCx (evF pg) (ops.take i) s with
  |none=>rw[hq]at h;cases h
  |some q=>exact⟨q,rfl⟩
 have one:∀ {i o q q'},ops[i]? =some o->a0k pg.toCx (evF pg) (ops.take i) s=some q->a0k pg.toCx (evF pg) (ops.take (i+1)) s=some q'->a0b pg.toCx (evF pg) o q=some q':=by
  intro i o q q' ho hq hq'
  rw[List.take_add_one,a3t,hq,ho]at hq'
  simp only[Option.toList,Option.bind_some,a0k]at hq'
  cases hx:a0b pg.toCx (evF pg) o q with
  |none=>rw[hx]at hq';cases hq'
  |some y=>rw[hx]at hq';exact hq'
 obtain⟨τ,hτ⟩:∃ τ:Nat->St,∀ i,a0k pg.toCx (evF pg) (ops.take i) s=some (τ i):=⟨fun i=>(pref i).choose,fun i=>(pref i).choose_spec⟩
 have hv:∀ i,∃ x,∀ o,ops[i]? =some o->(τ (i+1)).e=a6w o.dst x (τ i).e:=by
  intro i
  cases ho:ops[i]? with
  |none=>exact⟨.undef,fun o h=>by cases h⟩
  |some o=>
   obtain⟨x,hx⟩:=a7k (one ho (hτ i) (hτ (i+1)))
   exact⟨x,fun o' h=>by cases h;exact hx⟩
 obtain⟨val,hval⟩:∃ val:Nat->V,∀ i o,ops[i]? =some o->(τ (i+1)).e=a6w o.dst (val i) (τ i).e:=⟨fun i=>(hv i).choose,fun i=>(hv i).choose_spec⟩
 have hml:(ops.take m).length=m:=by simp;omega
 have hdl:(ops.take d).length=d:=by simp;omega
 have tk:∀ {i j},i<=j->(ops.take j).take i=ops.take i:=fun{i j} h=>by rw[List.take_take,Nat.min_eq_left h]
 have gt:∀ {i j},i < j->(ops.take j)[i]? =ops[i]? :=fun{i j} h=>by rw[List.getElem?_take,if_pos h]
 have h0:τ 0=s:=by have:=hτ 0;simp only[List.take_zero,a0k,Option.some.injEq]at this;exact this.symm
 have lo:∀ i,i<=d->(τ i).h=s.h:=fun i hi=>A.quiet i _ om (by rw[tk hi];exact hτ i)
 have hi:∀ i,d < i->i<=m->(τ i).h=H1:=fun i h1 h2=>B.quiet i _ h1 om (by rw[tk h2];exact hτ i)
 refine .inl ⟨d,od,τ,val,hd,hm,ho,h0,fun i o _ hq=>⟨one hq (hτ i) (hτ (i+1)),hval i o hq⟩,fun i o him _ hne=>?_,fun i o hid hq=>?_,fun i o hdi him hq=>?_⟩
 ·by_cases c:i < d
  ·rw[lo i om,lo (i+1) om]
  ·rw[hi i om om,hi (i+1) om om]
 ·rw[hi (d+1) om om,hb]
  exact(A.chk H1 P hc).2 i o _ _ (by rw[gt hid];exact hq) (by rw[tk om];exact hτ i) (by rw[tk om];exact hτ (i+1))
 ·rw[hb]
  exact B.both i o _ _ hdi (by rw[gt him];exact hq) (by rw[tk om];exact hτ i) (by rw[tk om];exact hτ (i+1))
theorem d8z {b:Nat} {ops:List a0c} {d m:Nat} (hd:d < m) (hm:m<=ops.length) {kn e H} {K:Kn->Env->Hp->Prop} (hk:a6p kn e) (h:d6b pg b d m ops kn e H K):∃ kn' e' H',b0x pg.toCx (evF pg) m ops ⟨e,H,b⟩=some ⟨e',H',b⟩/\a6p kn' e'/\K kn' e' H':=by
 unfold d6b at h
 have A0:Ahd (pg:=pg) b ⟨e,H,b⟩ [] e (fun _ P=>P):=⟨rfl,fun i q _ hq=>by simp only[List.take_nil,a0k,Option.some.injEq]at hq;rw[<-hq],fun H1 P hP=>⟨hP,fun i o q q' ho=>by simp at ho⟩⟩
 obtain⟨chk,kn1,e1,A,hk1,h1⟩:=c9o (s:=⟨e,H,b⟩) hk A0 h
 rw[List.nil_append]at A
 split at h1
 ·rename_i od ho
  obtain⟨kn2,e2,H1,h2,hk2,h3⟩:=a2s hk1 h1
  obtain⟨h4,_⟩:=A.chk H1 _ h3
  have hdl:(ops.take d).length=d:=by simp;omega
  have hpre:ops.take (d+1)=ops.take d++[od]:=by rw[List.take_add_one,ho];rfl
  have hrun:=a3v A.run h2
  rw[<-hpre]at hrun
  have hl1:(ops.take (d+1)).length=d+1:=by simp;omega
  have B0:Bhd (pg:=pg) b ⟨e,H,b⟩ d od H1 (ops.take (d+1)) e2:=by
   refine⟨hrun,om,fun i q h1 h2 hq=>?_,fun i o q q' h1 ho'=>?_⟩
   ·have:i=d+1:=om
    subst this
    rw[List.take_of_length_le om,hrun]at hq
    cases hq;rfl
   ·have:=(List.getElem?_eq_some_iff.1 ho').1
    omega
  obtain⟨kn3,e3,B,hk3,h5⟩:=e0n (s:=⟨e,H,b⟩) hk2 B0 h4
  have hall:ops.take (d+1)++(ops.take m).drop (d+1)=ops.take m:=by
   have:=List.take_append_drop (d+1) (ops.take m)
   rwa [List.take_take,Nat.min_eq_left om]at this
  rw[hall]at B
  obtain⟨kn4,e4,H4,h6,hk4,h7⟩:=b4n hk3 h5
  have hops:a0k pg.toCx (evF pg) ops ⟨e,H,b⟩=some ⟨e4,H4,b⟩:=by
   rw[<-List.take_append_drop m ops,a3t,B.run];exact h6
  exact⟨kn4,e4,H4,a3h.2 ⟨hops,.inr (e1a rfl hm ho A h3 hd B hops)⟩,hk4,h7⟩
 ·exact h1.elim
theorem d2m {b:Nat} {ops:List a0c} {d m:Nat} (hm:m=d+2) {kn e H} {K:Kn->Env->Hp->Prop} (hk:a6p kn e) (h:c9i pg b d ops kn e H K):∃ kn' e' H',b0x pg.toCx (evF pg) m ops ⟨e,H,b⟩=some ⟨e',H',b⟩/\a6p kn' e'/\K kn' e' H':=by
 subst hm
 unfold c9i at h
 have A0:Ahd (pg:=pg) b ⟨e,H,b⟩ [] e (fun _ P=>P):=⟨rfl,fun i q _ hq=>by simp only[List.take_nil,a0k,Option.some.injEq]at hq;rw[<-hq],fun H1 P hP=>⟨hP,fun i o q q' ho=>by simp at ho⟩⟩
 obtain⟨chk,kn1,e1,A,hk1,h1⟩:=c9o (s:=⟨e,H,b⟩) hk A0 h
 rw[List.nil_append]at A
 split at h1
 ·rename_i od oz r hdr
  have hdl:d < ops.length:=by
   have:=congrArg List.length hdr
   rw[List.length_drop]at this
   simp only[List.length_cons]at this
   omega
  have hlen:d+2<=ops.length:=by
   have:=congrArg List.length hdr
   rw[List.length_drop]at this
   simp only[List.length_cons]at this
   omega
  have htd:(ops.take d).length=d:=by rw[List.length_take];omega
  have hod:ops[d]? =some od:=by have:=congrArg (·[0]?) hdr;simpa using this
  have hoz:ops[d+1]? =some oz:=by have:=congrArg (·[1]?) hdr;simpa using this
  have hrr:ops.drop (d+2)=r:=by
   rw[show d+2=d+1+1 from rfl,<-List.drop_drop,<-List.drop_drop,hdr];rfl
  obtain⟨kn2,e2,H10,g1,hk2,h2⟩:=a2s hk1 h1
  obtain⟨kn3,e3,H11,g2,hk3,h3⟩:=a2s hk2 h2
  obtain⟨_,e4,H01,g3,_,rfl,h4⟩:=a2s hk2 h3
  obtain⟨_,e5,H5,g4,_,rfl,rfl,h5⟩:=a2s hk1 h4
  obtain⟨h6,c10⟩:=A.chk _ _ h5
  obtain⟨h7,c01⟩:=A.chk _ _ h6
  obtain⟨h8,c11⟩:=A.chk _ _ h7
  obtain⟨kn4,e6,H6,g6,hk4,h9⟩:=b4n hk3 h8
  have r1:a0k pg.toCx (evF pg) (ops.take (d+1)) ⟨e,H,b⟩=some ⟨e5,H10,b⟩:=by
   rw[List.take_add_one,hod];exact a3v A.run g1
  have r2:a0k pg.toCx (evF pg) (ops.take (d+2)) ⟨e,H,b⟩=some ⟨e4,H5,b⟩:=by
   rw[show d+2=d+1+1 from rfl,List.take_add_one,hoz];exact a3v r1 g2
  have hops:a0k pg.toCx (evF pg) ops ⟨e,H,b⟩=some ⟨e6,H6,b⟩:=by
   rw[<-List.take_append_drop (d+2) ops,a3t,r2,hrr];exact g6
  refine⟨kn4,e6,H6,a3h.2 ⟨hops,.inr (.inr (.inl ?_))⟩,hk4,h9⟩
  have pref:∀ i,∃ q,a0k pg.toCx (evF pg) (ops.take i) ⟨e,H,b⟩=some q:=by
   intro i
   have h:=hops
   rw[<-List.take_append_drop i ops,a3t]at h
   cases hq:a0k pg.toCx (evF pg) (ops.take i) ⟨e,H,b⟩with
   |none=>rw[hq]at h;cases h
   |some q=>exact⟨q,rfl⟩
  have one:∀ {i o q q'},ops[i]? =some o->a0k pg.toCx (evF pg) (ops.take i) ⟨e,H,b⟩=some q->a0k pg.toCx (evF pg) (ops.take (i+1)) ⟨e,H,b⟩=some q'->a0b pg.toCx (evF pg) o q=some q':=by
   intro i o q q' ho hq hq'
   rw[List.take_add_one,a3t,hq,ho]at hq'
   simp only[Option.toList,Option.bind_some,a0k]at hq'
   cases hx:a0b pg.toCx (evF pg) o q with
   |none=>rw[hx]at hq';cases hq'
   |some y=>rw[hx]at hq';exact hq'
  obtain⟨τ,hτ⟩:∃ τ:Nat->St,∀ i,a0k pg.toCx (evF pg) (ops.take i) ⟨e,H,b⟩=some (τ i):=⟨fun i=>(pref i).choose,fun i=>(pref i).choose_spec⟩
  have hv:∀ i,∃ x,∀ o,ops[i]? =some o->(τ (i+1)).e=a6w o.dst x (τ i).e:=by
   intro i
   cases ho:ops[i]? with
   |none=>exact⟨.undef,fun o h=>by cases h⟩
   |some o=>
    obtain⟨x,hx⟩:=a7k (one ho (hτ i) (hτ (i+1)))
    exact⟨x,fun o' h=>by cases h;exact hx⟩
  obtain⟨val,hval⟩:∃ val:Nat->V,∀ i o,ops[i]? =some o->(τ (i+1)).e=a6w o.dst (val i) (τ i).e:=⟨fun i=>(hv i).choose,fun i=>(hv i).choose_spec⟩
  have t0:τ 0=⟨e,H,b⟩:=by have:=hτ 0;simp only[List.take_zero,a0k,Option.some.injEq]at this;exact this.symm
  have td:τ d=⟨e1,H,b⟩:=by have:=hτ d;rw[A.run]at this;simpa using this.symm
  have td1:τ (d+1)=⟨e5,H10,b⟩:=by have:=hτ (d+1);rw[r1]at this;simpa using this.symm
  have td2:τ (d+2)=⟨e4,H5,b⟩:=by have:=hτ (d+2);rw[r2]at this;simpa using this.symm
  have tk:∀ {i j},i<=j->(ops.take j).take i=ops.take i:=fun{i j} h=>by rw[List.take_take,Nat.min_eq_left h]
  have gt:∀ {i j},i < j->(ops.take j)[i]? =ops[i]? :=fun{i j} h=>by rw[List.getElem?_take,if_pos h]
  have lo:∀ i,i<=d->(τ i).h=H:=fun i hi=>A.quiet i _ om (by rw[tk hi];exact hτ i)
  have hb:∀ i,(τ i).b=b:=by
   intro i
   induction i with
   |zero=>rw[t0]
   |succ i ih=>
    cases ho:ops[i]? with
    |none=>
     have e1:ops.take (i+1)=ops.take i:=by
      have:ops.length<=i:=List.getElem?_eq_none_iff.1 ho
      rw[List.take_of_length_le this,List.take_of_length_le om]
     have:=hτ (i+1)
     rw[e1,hτ i]at this
     simp only[Option.some.injEq]at this
     rw[<-this,ih]
    |some o=>rw[a3q (one ho (hτ i) (hτ (i+1))),ih]
  refine⟨d,d+1,fun i=>(τ i).e,val,fun x y=>match x,y with|false,false=>H|true,false=>H10|false,true=>H01|true,true=>H5,om,om,om,hlen,by rw[t0],rfl,fun i o _ ho=>hval i o ho,fun i o x y hi ho hx hy=>?_⟩
  have cs:i < d\/i=d\/i=d+1:=om
  rcases cs with c|rfl|rfl
  ·rw[decide_eq_false om,decide_eq_false om,Bool.or_false,Bool.or_false]
   have all:∀ H1,(∀ (i:Nat) (o:a0c) (q q':St),(ops.take d)[i]? =some o->a0k pg.toCx (evF pg) ((ops.take d).take i) ⟨e,H,b⟩=some q->a0k pg.toCx (evF pg) ((ops.take d).take (i+1)) ⟨e,H,b⟩=some q'->a0b pg.toCx (evF pg) o ⟨q.e,H1,b⟩=some ⟨q'.e,H1,b⟩)->a0b pg.toCx (evF pg) o ⟨(τ i).e,H1,b⟩=some ⟨(τ (i+1)).e,H1,b⟩:=fun H1 hh=>
    hh i o _ _ (by rw[gt c];exact ho) (by rw[tk om];exact hτ i) (by rw[tk om];exact hτ (i+1))
   cases x<;>cases y
   ·have:=one ho (hτ i) (hτ (i+1))
    rw[show τ i=⟨(τ i).e,(τ i).h,(τ i).b⟩from rfl,show τ (i+1)=⟨(τ (i+1)).e,(τ (i+1)).h,(τ (i+1)).b⟩from rfl,lo i om,lo (i+1) om,hb,hb]at this
    exact this
   ·exact all _ c01
   ·exact all _ c10
   ·exact all _ c11
  ·rw[hod]at ho;cases ho
   have hx:=hx rfl
   subst hx
   simp only[decide_eq_true rfl,Bool.or_true,td,td1]
   rw[decide_eq_false (show ¬ i=i+1 by omega),Bool.or_false]
   cases y
   ·exact g1
   ·exact g4
  ·rw[hoz]at ho;cases ho
   have hy:=hy rfl
   subst hy
   simp only[decide_eq_true rfl,Bool.or_true,td1,td2]
   rw[decide_eq_false (show ¬ d+1=d by omega),Bool.or_false]
   cases x
   ·exact g3
   ·exact g2
 ·exact h1.elim
theorem d8j (ks:List Nat) (e:Env):a1d ks (a1d ks e)=a1d ks e:=by
 have key:∀ i,i∈ks->a1g (a1d ks e) i=a1g e i:=fun i hi=>by rw[a8w,if_pos hi]
 show(ks.map fun k=>(k,a1g (a1d ks e) k))=ks.map fun k=>(k,a1g e k)
 apply List.map_congr_left
 intro i hi
 rw[key i hi]
theorem b6o {b:Nat}:∀ {c:a0m} {kn e H} {Q:Ex->Kn->Env->Hp->Prop},a6p kn e->wp pg b c kn e H Q->∃ x kn' e' H',ev pg c ⟨e,H,b⟩=some (x,⟨e',H',b⟩)/\a6p kn' e'/\Q x kn' e' H'
 | .skip,_,_,_,_,hk,h=>⟨_,_,_,_,rfl,hk,h⟩
 | .reg ops,kn,e,H,Q,hk,h=>by
   obtain⟨kn',e',H',h1,hk',h2⟩:=b4n hk h
   exact⟨_,kn',e',H',by rw[f8j,evR,h1];rfl,hk',h2⟩
 | .draw m ops,kn,e,H,Q,hk,h=>by
   obtain⟨kn',e',H',h1,hk',h2⟩:=b4w hk h
   exact⟨_,kn',e',H',f1v pg h1,hk',h2⟩
 | .seq c d,kn,e,H,Q,hk,h=>by
   obtain⟨x,kn',e',H',h1,hk',h2⟩:=b6o (c:=c) hk h
   cases x with
   |nrm=>
    obtain⟨x2,kn2,e2,H2,h3,hk2,h4⟩:=b6o (c:=d) hk' h2
    exact⟨x2,kn2,e2,H2,by rw[c8n,h1,f9j,h3],hk2,h4⟩
   |exit i=>exact⟨_,kn',e',H',by rw[c8n,h1,e7x],hk',h2⟩
   |ret=>exact⟨_,kn',e',H',by rw[c8n,h1,f9a],hk',h2⟩
 | .cond o c d,kn,e,H,Q,hk,h=>by
   have yes:evO pg.toCx e o= .d (.bool true)->∀ {kn},a6p kn e->wp pg b c kn e H Q->∃ x kn' e' H',ev pg (.cond o c d) ⟨e,H,b⟩=some (x,⟨e',H',b⟩)/\a6p kn' e'/\Q x kn' e' H':=by
    intro ht kn hk h
    obtain⟨x,kn',e',H',h1,hk',h2⟩:=b6o (c:=c) hk h
    exact⟨x,kn',e',H',by rw[c9n];simp only[ht,c3l,if_true];exact h1,hk',h2⟩
   have no:evO pg.toCx e o= .d (.bool false)->∀ {kn},a6p kn e->wp pg b d kn e H Q->∃ x kn' e' H',ev pg (.cond o c d) ⟨e,H,b⟩=some (x,⟨e',H',b⟩)/\a6p kn' e'/\Q x kn' e' H':=by
    intro ht kn hk h
    obtain⟨x,kn',e',H',h1,hk',h2⟩:=b6o (c:=d) hk h
    exact⟨x,kn',e',H',by rw[c9n];simp only[ht,c3l];exact h1,hk',h2⟩
   have gen:∀ {f:Bool->Kn},(match gO pg.toCx e o with| .d (.bool t)=>(t=true->wp pg b c (f true) e H Q)/\(t=false->wp pg b d (f false) e H Q)|_=>False)->(∀ t,evO pg.toCx e o= .d (.bool t)->a6p (f t) e)->∃ x kn' e' H',ev pg (.cond o c d) ⟨e,H,b⟩=some (x,⟨e',H',b⟩)/\a6p kn' e'/\Q x kn' e' H':=by
     intro f h hf
     rw[c4p]at h
     split at h
     ·rename_i t ht
      cases t with
      |true=>exact yes ht (hf _ ht) (h.1 rfl)
      |false=>exact no ht (hf _ ht) (h.2 rfl)
     ·cases h
   cases o with
   |t i=>
    rw[e9n]at h
    split at h
    ·rename_i ht;exact yes (hk i _ ht) hk h
    ·rename_i ht;exact no (hk i _ ht) hk h
    ·exact gen (f:=fun t=>(i,t)::kn) h fun t ht=>hk.add ht
   |c v=>exact gen (f:=fun _=>kn) h fun _ _=>hk
   |g v=>exact gen (f:=fun _=>kn) h fun _ _=>hk
   |f v=>exact gen (f:=fun _=>kn) h fun _ _=>hk
 | .block id c,kn,e,H,Q,hk,h=>by
   obtain⟨x,kn',e',H',h1,hk',h2⟩:=b6o (c:=c) hk h
   cases x with
   |nrm=>exact⟨_,kn',e',H',by rw[b0h,h1,e5s],hk',h2⟩
   |ret=>exact⟨_,kn',e',H',by rw[b0h,h1,f0x],hk',h2⟩
   |exit i=>
    simp only at h2
    by_cases hi:i=id
    ·rw[g6i hi]at h2
     exact⟨_,kn',e',H',by rw[b0h,h1,c2v,if_pos hi],hk',h2⟩
    ·rw[g2y hi]at h2
     exact⟨_,kn',e',H',by rw[b0h,h1,c2v,if_neg hi],hk',h2⟩
 | .scope c,kn,e,H,Q,hk,h=>by
   obtain⟨x,kn',e',H',h1,hk',h2⟩:=b6o (c:=c) hk h
   exact⟨x,kn',e',H',by rw[d9g,h1],hk',h2⟩
 | .loop ks c,kn,e,H,Q,hk,h=>by
   have h:c9r e ks fun e=>d2a pg b ks c e H Q:=h
   rw[c2y]at h
   unfold d2a at h
   obtain⟨x,e',H',h1,h2⟩:=h
   rw[d1m]at h1
   refine⟨x,[],e',H',?_,a6p.nil e',h2⟩
   rw[d1m,<-h1]
   simp only[d8j]
 | .exit i,_,_,_,_,hk,h=>⟨_,_,_,_,rfl,hk,h⟩
 | .ret,_,_,_,_,hk,h=>⟨_,_,_,_,rfl,hk,h⟩
 | .newrow sz t,kn,e,H,Q,hk,h=>by
   rw[e7u]at h
   rw[b8g]at h
   split at h
   ·rename_i ht
    simp only[a2r,b0r,a0u,Nat.zero_add]at h
    have hs:0 < sz:=by have:=h.1;simp[Nat.blt]at this;omega
    exact⟨_,_,_,_,by rw[e8b];simp only[ht,f5f,if_pos hs],hk.forget t _,h.2⟩
   ·cases h
 | .bindrow sz t off,kn,e,H,Q,hk,h=>by
   rw[e3t]at h
   rw[b8g]at h
   split at h
   ·rename_i id o ht
    obtain⟨ob,ho,h⟩:=(a1o ..).1 h
    cases ob with
    |box c=>
     obtain⟨v,hv,h⟩:=(a1o ..).1 h
     cases v with
     |nils=>
      simp only[a2r,b0r,a0u,Nat.zero_add,Bool.and_eq_true,Nat.ble_eq]at h
      have hs:0 < sz:=by have:=h.1.2;simp[Nat.blt]at this;omega
      refine⟨_,_,_,_,?_,hk,h.2⟩
      simp only[ev,evC,ht,ho,hv]
      rw[if_pos ⟨h.1.1,hs⟩]
     |_=>cases h
    |_=>cases h
   ·cases h
 | .mkrow sz,kn,e,H,Q,hk,h=>by
   rw[f4e]at h
   simp only[a2r,a0u]at h
   have hs:0 < sz:=by have:=h.1;simp[Nat.blt]at this;omega
   exact⟨_,_,_,_,by simp only[ev,evC,if_pos hs],hk,h.2⟩
 | .bindto t off k,kn,e,H,Q,hk,h=>by
   rw[e7m]at h
   rw[b8g]at h
   split at h
   ·rename_i id o ht
    obtain⟨ob,ho,h⟩:=(a1o ..).1 h
    cases ob with
    |box c=>
     obtain⟨v,hv,h⟩:=(a1o ..).1 h
     cases v with
     |nils=>
      obtain⟨ob2,ho2,h⟩:=(a1o ..).1 h
      split at h
      ·simp only[a2r,a0u,Bool.and_eq_true,Nat.ble_eq]at h
       have hs:0 < k:=by have:=h.1.1.1;simp[Nat.blt]at this;omega
       refine⟨_,_,_,_,?_,hk,h.2⟩
       simp only[ev,evC,ht,ho,hv,ho2]
       rw[if_pos ⟨hs,h.1.1.2,h.1.2⟩]
      ·cases h
     |_=>cases h
    |_=>cases h
   ·cases h
 | .freeze t,kn,e,H,Q,hk,h=>by
   rw[e5y]at h
   rw[b8g]at h
   split at h
   ·rename_i id o l ht
    obtain⟨ob,ho,h⟩:=(a1o ..).1 h
    cases ob with
    |box c=>
     obtain⟨ds,hd,h⟩:=h
     rw[a0u]at h
     exact⟨_,_,_,_,by simp only[ev,evC,ht,ho,hd],hk,h⟩
    |_=>cases h
   ·rename_i id len ht
    obtain⟨ob,ho,h⟩:=(a1o ..).1 h
    cases ob with
    |row sz l=>
     obtain⟨hl,h⟩:=h
     rw[a0u]at h
     exact⟨_,_,_,_,by simp only[ev,evC,ht,ho,if_pos hl],hk.forget t _,h⟩
    |_=>cases h
   ·cases h
theorem wp_loop {ks:List Nat} {c:a0m} {b:Nat} {α:Type} (μ:α->Nat) (E:α->Env) (Hf:α->Hp) (P:α->Prop) {Q:Ex->Kn->Env->Hp->Prop}
 (step:∀ a,P a->d8k (Hf a) 0 fun n=>c9r (E a) ks fun e=>wp pg n c [] e (Hf a) (fun x _ e' H'=>match x with
   | .nrm=>d8h n e' ks fun e2=>a1h (H'.take n) fun H2=> ∃ a',P a'/\μ a' < μ a/\e2=E a'/\H2=Hf a'
   | .exit i=>Q (.exit i) [] e' H'
   | .ret=>Q .ret [] e' H')) (a:α) (ha:P a):d2a pg b ks c (E a) (Hf a) Q:=by
 have key:∀ n,∀ a,μ a < n->P a->∃ x e' H',ev pg (.loop ks c) ⟨E a,Hf a,b⟩=some (x,⟨e',H',b⟩)/\Q x [] e' H':=by
  intro n
  induction n with
  |zero=>intro a h;omega
  |succ n ih=>
   intro a hn ha
   have st:=step a ha
   rw[b0r,c2y,Nat.zero_add]at st
   obtain⟨x,kn',e',H',h1,_,h2⟩:=b6o (a6p.nil _) st
   rw[d1m]
   simp only[h1]
   cases x with
   |nrm=>
    simp only[c9z,a0u]at h2
    obtain⟨a',h3,h4,h5,h6⟩:=h2
    simp only[e7i,h5,h6]
    exact ih a' om h3
   |exit i=>exact⟨_,e',H',rfl,h2⟩
   |ret=>exact⟨_,e',H',rfl,h2⟩
 unfold d2a
 exact key (μ a+1) a om ha
noncomputable def f4m (e:Env) (H:Hp) (l:List d2j):(List V->Prop)->Prop:=List.rec (motive:=fun _=>(List V->Prop)->Prop) (fun k=>k []) (fun o _ ih k=>match o with
  | .tmp t=>e6x H (gE e t) fun v=>ih fun vs=>k (v::vs)
  | .cell t n=>(match gE e t with
    | .ptr id off=>b3b H id fun ob=>match ob with
      | .box c=>c4y n c off fun v=>e6x H v fun v=>ih fun vs=>k (v::vs)
      | .frz c=>c4y n (c.map V.d) off fun v=>e6x H v fun v=>ih fun vs=>k (v::vs)
      |_=>False
    |_=>False)) l
theorem e9e (e:Env) (H:Hp) (t n) (r:List d2j) (k:List V->Prop):f4m e H (.cell t n::r) k=(match gE e t with
    | .ptr id off=>b3b H id fun ob=>match ob with
      | .box c=>c4y n c off fun v=>e6x H v fun v=>f4m e H r fun vs=>k (v::vs)
      | .frz c=>c4y n (c.map V.d) off fun v=>e6x H v fun v=>f4m e H r fun vs=>k (v::vs)
      |_=>False
    |_=>False):=rfl
theorem d2g {e:Env} {H:Hp}:∀ {l:List d2j} {k:List V->Prop},f4m e H l k->∃ vs,a8j e H l=some vs/\k (vs.map (toArg H))
 |[],_,h=>⟨[],rfl,h⟩
 | .tmp t::r,k,h=>by
   have h:e6x H (gE e t) fun v=>f4m e H r fun vs=>k (v::vs):=h
   have h:=d0c _ _ _ h
   obtain⟨vs,h1,h2⟩:=d2g h
   rw[b8g]at h2
   exact⟨a1g e t::vs,by simp only[c9e,f3q,h1,d4g],h2⟩
 | .cell t n::r,k,h=>by
   rw[e9e]at h
   rw[b8g]at h
   have fin:∀ {v id off},a1g e t= .ptr id off->b7o H n (.ptr id off)=some v->(e6x H v fun v=>f4m e H r fun vs=>k (v::vs))->∃ vs,a8j e H (.cell t n::r)=some vs/\k (vs.map (toArg H)):=by
     intro v id off ht hl h
     have h:=d0c _ _ _ h
     obtain⟨vs,h1,h2⟩:=d2g h
     exact⟨v::vs,by simp only[c9e,f1f,ht,hl,h1,d4g],h2⟩
   split at h
   ·rename_i id off ht
    obtain⟨ob,ho,h⟩:=(a1o ..).1 h
    cases ob with
    |box c=>
     obtain⟨v,hv,h⟩:=(a9o ..).1 h
     exact fin ht (by simp only[d5o,ho,e5f,hv]) h
    |frz c=>
     obtain⟨v,hv,h⟩:=(a9o ..).1 h
     exact fin ht (by simp only[d5o,ho,e5c,hv]) h
    |_=>cases h
   ·cases h
noncomputable def g5z (res:List d2j) (n:Nat) (R:V->Hp->Prop):Ex->Kn->Env->Hp->Prop:=fun x _ e H=>match x with
  | .exit _=>False
  | .nrm=>f4m e H res fun vs=>chk (a1a n vs) (R (oneOf vs) H)
  | .ret=>f4m e H res fun vs=>chk (a1a n vs) (R (oneOf vs) H)
theorem b8o {res:List d2j} {n:Nat} {R:V->Hp->Prop} {x kn e H b} (h:g5z res n R x kn e H):∃ r,b3v false res n (some (x,⟨e,H,b⟩))=some (r,H.take n)/\R r H:=by
 have fin:(f4m e H res fun vs=>chk (a1a n vs) (R (oneOf vs) H))->∃ r,leave ⟨0,0,.skip,res,false⟩ n ⟨e,H,b⟩=some (r,H.take n)/\R r H:=by
   intro h
   obtain⟨vs,h1,h2⟩:=d2g h
   rw[a2r]at h2
   exact⟨_,by simp only[f6h,h1,g4g,h2.1,if_true],h2.2⟩
 cases x with
 |nrm=>exact fin h
 |ret=>exact fin h
 |exit i=>cases h
noncomputable def c4q (i:Nat) (l:List V):(Env->Prop)->Prop:=List.rec (motive:=fun _=>Nat->(Env->Prop)->Prop) (fun _ k=>k []) (fun v _ ih i k=>ih (i+1) fun e=>k ((i,v)::e)) l i
theorem a9x:∀ (i:Nat) (l:List V) (k:Env->Prop),c4q i l k=k (a7v i l)
 |_,[],_=>rfl
 |i,v::r,k=>a9x (i+1) r fun e=>k ((i,v)::e)
theorem a1p {f:Nat} {vf:VFn} (ht:pg.tbl f=some (.code vf)) {a:List V} (hn:a.length=vf.np) (hu:(a1a 0 a && !vf.keep)=true) {r:V} (h:c4q 0 a fun e=>wp pg 0 vf.body [] e [] (g5z vf.res 0 fun v _=>v=r)) (H:Hp):evF pg f a H=some (r,H):=by
  rw[a9x]at h
  obtain⟨x,kn,e,H',h1,_,h2⟩:=b6o (a6p.nil _) h
  obtain⟨r',h3,h4⟩:=b8o (b:=0) h2
  have hk:vf.keep=false:=by cases hh:vf.keep<;>simp_all
  refine f7p ht hn hu (h':=H'.take 0) ?_ H
  rw[b1q,h1,hk,h3,h4]
theorem d0b {f:Nat} {vf:VFn} (ht:pg.tbl f=some (.code vf)) {a:List V} (hn:a.length=vf.np) (hk:vf.keep=false) (hu:a1a 0 a=false) {r:V} {H H2:Hp} (h:c4q 0 a fun e=>wp pg H.length vf.body [] e H (g5z vf.res H.length fun v H'=>v=r/\H'.take H.length=H2)):evF pg f a H=some (r,H2):=by
  rw[a9x]at h
  obtain⟨x,kn,e,H',h1,_,h2⟩:=b6o (a6p.nil _) h
  obtain⟨r',h3,h4,h5⟩:=b8o (b:=H.length) h2
  rw[d9h ht hn (by rw[hu];rfl),b1q,h1,hk,h3,h4,h5]
end
end Go.Vm
