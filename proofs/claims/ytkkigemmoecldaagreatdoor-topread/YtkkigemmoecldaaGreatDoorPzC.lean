import Derived.Test.YtkkigemmoecldaaGreatDoorPyS
import Derived.RangeFuncBox
set_option maxRecDepth 100000
set_option maxHeartbeats 0
set_option linter.unusedVariables false
set_option linter.unusedSimpArgs false
namespace Go.Vm
section
variable {P:Program} {cx:Cx} {g g':Gh} {H H':Hp} {w w':World}
open Classical in
noncomputable def Gh.hide (g:Gh) (S:Nat->Prop):Gh:=⟨fun i=>if S i then none else g.J i,g.C⟩
open Classical in
noncomputable def Gh.back (g' g:Gh) (S:Nat->Prop):Gh:=⟨fun i=>if S i then g.J i else g'.J i,g'.C⟩
open Classical in
noncomputable def Hp.back (H' H:Hp) (S:Nat->Prop):Hp:=(List.range H'.length).map fun i=>if S i then H.getD i default else H'.getD i default
theorem Md {S:Nat->Prop} {i:Nat} (h:S i):(g.hide S).J i=none:=ay h
theorem tJ {S:Nat->Prop} {i:Nat} (h:¬ S i):(g.hide S).J i=g.J i:=aA h
theorem mf {S:Nat->Prop} {i:Nat} (h:S i):(g'.back g S).J i=g.J i:=ay h
theorem jg {S:Nat->Prop} {i:Nat} (h:¬ S i):(g'.back g S).J i=g'.J i:=aA h
theorem jl {S:Nat->Prop} {i:Nat} {p:Nat×Nat} (h:(g.hide S).J i=some p):¬ S i/\g.J i=some p:=by
 by_cases hs:S i
 ·rw[Md hs]at h;cases h
 ·rw[tJ hs]at h;exact⟨hs,h⟩
theorem yz {S:Nat->Prop}:(Hp.back H' H S).length=H'.length:=by simp[Hp.back]
theorem Hk {S:Nat->Prop} {i:Nat} (h:S i) (hi:i < H.length) (hl:H.length<=H'.length):(Hp.back H' H S)[i]? =H[i]? :=by
 unfold Hp.back;rw[bE,List.getElem?_range om];simp[h,hi,av]
theorem mU {S:Nat->Prop} {i:Nat} (h:¬ S i):(Hp.back H' H S)[i]? =H'[i]? :=by
 unfold Hp.back;rw[bE];by_cases hi:i < H'.length
 ·rw[List.getElem?_range hi];simp[h,hi,av]
 ·rw[bM (by simpa using hi),bM om];rfl
theorem Inv.hide (hI:Inv cx g H w) {S:Nat->Prop} (hob:∀ i b c o,¬ S i->g.J i=some (b,c)->H[i]? =some o->zn (g.hide S) H w b c o):Inv cx (g.hide S) H w:=
 ⟨fun i k b c c' h1 h2=>hI.inj i k b c c' (jl h1).2 (jl h2).2,fun i b c h=>hI.dom i b c (jl h).2,fun i b c o h ho=>hob i b c o (jl h).1 (jl h).2 ho,hI.imm,hI.und,hI.glob,fun i o hi=>⟨(hI.fix i o hi).1,fun k c h=>(hI.fix i o hi).2 k c (jl h).2⟩⟩
theorem Inv.back (hI:Inv cx g H w) (hI':Inv cx g' H' w') {S:Nat->Prop} (hS:∀ i,S i->i < H.length/\∀ sz l,H[i]? ≠some (.row sz l)) (e:Ext H.length (g.hide S) H w g' H' w'):Inv cx (g'.back g S) (Hp.back H' H S) w'/\Ext H.length g H w (g'.back g S) (Hp.back H' H S) w':=by
 have hin:∀ {i},S i->(Hp.back H' H S)[i]? =H[i]? :=fun h=>Hk h (hS _ h).1 e.len;have hsm:∀ {i b c},S i->g.J i=some (b,c)->w'.heap[b]? =w.heap[b]? /\g'.C b=g.C b:=fun{i b c} h hj=>e.frame b (hI.dom i b c hj).2 fun k c' hk=>by
   obtain⟨h1,h2⟩:=jl hk;obtain rfl:=hI.inj k i b c' c h2 hj;exact h1 h
 have hmix:∀ {i k b c c'},S i->g.J i=some (b,c)->g'.J k=some (b,c')->False:=fun{i k b c c'} h hj hk=>by
   obtain⟨k2,c2,h2⟩:=e.jnew k b c' hk (hI.dom i b c hj).2;obtain⟨h3,h4⟩:=jl h2;obtain rfl:=hI.inj k2 i b c2 c h4 hj;exact h3 h
 have hkeep:Keep H.length g H (g'.back g S) (Hp.back H' H S):=by
  refine⟨e.keep.C,fun i o hi ho hr=>?_,fun i sz l hi ho=>?_⟩
  ·by_cases hs:S i
   ·exact⟨mf hs,o,(hin hs).trans ho,hr⟩
   ·obtain⟨h1,o',h2,h3⟩:=e.keep.obj i o hi ho hr;exact⟨(jg hs).trans (h1.trans (tJ hs)),o',(mU hs).trans h2,h3⟩
  ·have hs:¬ S i:=fun h=>(hS i h).2 sz l ho;obtain⟨l',h1,h2,h3⟩:=e.keep.row i sz l hi ho;exact⟨l',(mU hs).trans h1,h2,fun hl=>(jg hs).trans ((h3 hl).trans (tJ hs))⟩
 have hkw:sD H'.length g' H' (g'.back g S) (Hp.back H' H S):=by
  refine⟨fun _=>aJ _,fun i o hi ho hr=>?_,fun i sz l hi ho=>?_⟩
  ·by_cases hs:S i
   ·obtain⟨hl,hn⟩:=hS i hs;have hiH:H[i]? =some H[i]:=ae hl;obtain⟨h1,_⟩:=e.keep.obj i _ hl hiH fun sz l hh=>hn sz l (by rw[hiH,hh]);refine⟨fun p hp=>?_,H[i],(hin hs).trans hiH,fun sz l hh=>hn sz l (by rw[hiH,hh])⟩;rw[h1,Md hs]at hp;cases hp
   ·exact⟨fun p hp=>(jg hs).trans hp,o,(mU hs).trans ho,hr⟩
  ·by_cases hs:S i
   ·obtain⟨hl,hn⟩:=hS i hs;have hiH:H[i]? =some H[i]:=ae hl;obtain⟨_,o',h2,h3⟩:=e.keep.obj i _ hl hiH fun sz l hh=>hn sz l (by rw[hiH,hh]);rw[ho]at h2;cases h2;exact absurd rfl (h3 sz l)
   ·exact⟨l,(mU hs).trans ho,aJ _,fun _ p hp=>(jg hs).trans hp⟩
 refine⟨⟨fun i k b c c' h1 h2=>?_,fun i b c h=>?_,fun i b c o h ho=>?_,hI'.imm,fun i c hi h=>?_,hI'.glob,fun i o hi=>⟨(hI'.fix i o hi).1,fun k c h=>?_⟩⟩,e.os,e.tape,e.output,e.size,fun b hb hj=>?_,hkeep,fun i b c h hb=>?_,fun n hn hc i c hi h=>?_,by rw[yz];exact e.len⟩
 ·by_cases hs:S i<;>by_cases hk:S k
  ·rw[mf hs]at h1;rw[mf hk]at h2;exact hI.inj i k b c c' h1 h2
  ·rw[mf hs]at h1;rw[jg hk]at h2;exact(hmix hs h1 h2).elim
  ·rw[jg hs]at h1;rw[mf hk]at h2;exact(hmix hk h2 h1).elim
  ·rw[jg hs]at h1;rw[jg hk]at h2;exact hI'.inj i k b c c' h1 h2
 ·rw[yz];by_cases hs:S i
  ·rw[mf hs]at h;obtain⟨h1,h2⟩:=hI.dom i b c h;exact⟨ch h1 e.len,ch h2 e.size⟩
  ·rw[jg hs]at h;exact hI'.dom i b c h
 ·by_cases hs:S i
  ·rw[mf hs]at h;rw[hin hs]at ho;obtain⟨h1,h2⟩:=hsm hs h;exact(hI.ob i b c o h ho).ext hkeep.w h1 h2 (by rintro c' rfl;exact hI.und i c' (hI.dom i b c h).1 ho)
  ·rw[jg hs]at h;rw[mU hs]at ho;exact(hI'.ob i b c o h ho).ext hkw rfl rfl (by rintro c' rfl;exact hI'.und i c' (hI'.dom i b c h).1 ho)
 ·rw[yz]at hi⊢;by_cases hs:S i
  ·rw[hin hs]at h;exact fE e.len c (hI.und i c (hS i hs).1 h)
  ·rw[mU hs]at h;exact hI'.und i c hi h
 ·by_cases hs:S k
  ·rw[mf hs]at h;obtain⟨o1,h1⟩:∃ o1,cx.fx i=some o1:=⟨o,hi⟩;exact(hI.fix i o hi).2 k c h
  ·rw[jg hs]at h;exact(hI'.fix i o hi).2 k c h
 ·exact e.frame b hb fun i c h=>hj i c (jl h).2
 ·by_cases hs:S i
  ·rw[mf hs]at h;exact⟨i,c,h⟩
  ·rw[jg hs]at h;obtain⟨k,c',hk⟩:=e.jnew i b c h hb;exact⟨k,c',(jl hk).2⟩
 ·by_cases hs:S i
  ·rw[hin hs]at h;exact hc i c hi h
  ·rw[mU hs]at h;exact e.clean n hn hc i c hi h
end
end Go.Vm
namespace Go.Vm.Px
open Go.Vm.Lex (TokQ)
open Go.Vm.Pa hiding go
open Go.Vm.Ite
open Go Go.Proofs Go.RowKit
set_option maxHeartbeats 2000000
section
variable {cx:Cx} {g g2:Gh} {H H2:Hp} {w w2 w4:World}
theorem zJ (hI:Inv cx g H w) (o:Obj):Inv cx g H (w.alloc o)/\Ext H.length g H w g H (w.alloc o):=hI.below ((Below.refl _ w).alloc (ai _) o)
theorem BK (hI:Inv cx g H w) {o:Obj} (e:Ext H.length g H (w.alloc o) g2 H2 w2):w2.heap[w.heap.size]? =some o:=by
 have h:=(e.frame w.heap.size (by simp) fun i c=>hI.Tr (ai _) i c).1;rw[h];exact World.alloc_heap_new w o
theorem Ec (hI:Inv cx g H w) {o:Obj} (hI2:Inv cx g2 H2 w2) (e:Ext H.length g H (w.alloc o) g2 H2 w2) (e1:w4.os=w2.os) (e2:w4.tape=w2.tape) (e3:w4.output=w2.output) (e4:w2.heap.size<=w4.heap.size) (e5:∀ b,b < w2.heap.size->b≠w.heap.size->w4.heap[b]? =w2.heap[b]?):
 Inv cx g2 H2 w4/\Ext H.length g H w g2 H2 w4:=by
 have hj:∀ i c,g2.J i≠some (w.heap.size,c):=fun i c h=>by
   obtain⟨k,c',hk⟩:=e.jnew i _ c h (by simp);exact hI.Tr (ai _) k c' hk
 have hC:g2.C w.heap.size=[]:=(e.frame w.heap.size (by simp) fun i c=>hI.Tr (ai _) i c).2.trans (hI.DO (ai _));have e0:Ext H.length g H w g2 H2 w2:=(zJ hI o).2.trans e (ai _);have hsz:=e0.size;refine⟨hI2.untr e4 fun b hb=>?_,e1.trans e0.os,e2.trans e0.tape,e3.trans e0.output,dD e0.size e4,fun b hb hj'=>?_,e0.keep,e0.jnew,e0.clean,e0.len⟩
 ·rcases hb with⟨i,c,h⟩|h|h
  ·exact e5 b (hI2.dom i b c h).2 fun hh=>by subst hh;exact hj i c h
  ·obtain⟨cur,t,fz,h1,_⟩:=hI2.imm b h;exact e5 b (aS.1 h1).1 fun hh=>by subst hh;exact h hC
  ·obtain⟨o',ho⟩:=Option.ne_none_iff_exists'.1 h;have h1:=(aS.1 (hI.fix b o' ho).1).1;exact e5 b om om
 ·obtain⟨h1,h2⟩:=e0.frame b hb hj';exact⟨(e5 b om om).trans h1,h2⟩
end
theorem K2 {C:Nat->List Value} {t:TokQ} {x:Value} (h:du C (jL t) x):∃ a b c d,x= .agg #[.int .i64 t.k,a,b,c,d]:=by
 unfold jL du at h;obtain⟨cs,rfl,h⟩:=h;simp only[db,bD,bS,fQ]at h;obtain⟨y1,ys1,h1,_,rfl,y2,ys2,rfl,_,e2,y3,ys3,rfl,_,e3,y4,ys4,rfl,_,e4,y5,ys5,rfl,_,e5,rfl⟩:=h;have:cs= #[.int .i64 t.k,y2,y3,y4,y5]:=dH h1;exact⟨y2,y3,y4,y5,by rw[this]⟩
section
variable {cx:Cx}
theorem SL {f:Nat} (h:∃ fn,Tryz.prog.funcs[f]? =some fn/\fn.body.isNone=false/\(fn.name== "runtime.NumGoroutine")=false) (a:Array Value) (W:World):(callFunc f a).run Tryz.prog W= .ok (.enter f a) W:=by
 obtain⟨fn,h1,h2,h3⟩:=h;exact lP h1 h2 h3 a
theorem Eg {g:Gh} {H:Hp} {p rf:Nat} {cargs:Array Value} (ra:bN g H [.ptr p 0,.fn rf []] cargs.toList):∃ x0,cargs= #[x0,.func (.func rf) #[] #[]]/\bW g H (.ptr p 0) x0:=by
 simp only[bN]at ra;obtain⟨x0,ys,e1,h0,x1,zs,rfl,h1,rfl⟩:=ra;simp only[bW,bN]at h1;obtain⟨cs,rfl,h2⟩:=h1;have e2:cs= #[]:=dH h2;subst e2;exact⟨x0,dH e1,h0⟩
theorem PV {rf p:Nat} {H H1:Hp} {v:V} {t:TokQ} (hR:dw Tryz.prog cx rf [.ptr p 0] H v H1) (hN:dw Tryz.prog cx 38 [.ptr p 0] H1 (.d (jL t)) H1) (hk:t.k=5) (hp:p < H.length):dw Tryz.prog cx 36 [.ptr p 0,.fn rf []] H (.ifc true) H1:=by
 refine⟨⟨Tryz.f36,Tryz.func36,rfl,by decide⟩,fun g w cargs hI ra ua=>?_⟩;obtain⟨x0,rfl,h0⟩:=Eg ra;obtain⟨i1,e1⟩:=zJ hI (.cells #[.nilIface] 68);have up:br H.length [.ptr p 0]=true:=by simp[br,V.und,hp]
 have one:∀ {g:Gh} {H:Hp},bW g H (.ptr p 0) x0->bN g H [.ptr p 0] [x0]:=fun h=>by simp only[bN];exact⟨x0,[],rfl,h,rfl⟩
 have u0:(V.ptr p 0).und H.length=true:=by simp[V.und,hp]
 refine(Pj.P1 rf x0 w (SL hR.1 _) (fun w1=> ∃ g1,Inv cx g1 H1 w1/\Ext H.length g H (Pj.FC w) g1 H1 w1) (fun w1=> ∃ g1,Inv cx g1 H1 w1/\Ext H.length g H (Pj.FC w) g1 H1 w1) ((hR.2 g _ #[x0] i1 (one h0) up).mono ?_) (fun w1 h=>?_) (fun w2 ⟨g2,_,j2⟩=>BK hI j2)).mono ?_
 ·rintro e w1 ⟨g1,x,rfl,j1,_,_,j2⟩;exact⟨x,rfl,g1,j1,j2⟩
 ·obtain⟨g1,j1,j2⟩:=h;refine(hN.2 g1 w1 #[x0] j1 (one (fk j2.keep.w _ _ u0 h0)) (by simp only[br,V.jo j2.len _ u0,cF])).mono ?_;rintro e w2 ⟨g2,x,rfl,k1,k2,_,k3⟩;obtain⟨a,b,c,d,rfl⟩:=K2 k2;rw[hk];exact⟨a,b,c,d,rfl,g2,k1,j2.trans (k3.le j2.len) (ai _)⟩
 ·rintro e w' ⟨rfl,w2,⟨g2,j1,j2⟩,rfl⟩;obtain⟨q1,q2⟩:=Ec (w4:=w2.setCell ⟨w.heap.size,0,none⟩ .nilIface) hI j1 j2 rfl rfl rfl (by simp) fun b _ hb=>heap_setCell_other _ _ _ _ hb;exact⟨g2,_,rfl,q1,.inl ⟨rfl,rfl⟩,rfl,q2⟩
def uY (cx:Cx) (K:Hp->Prop) (rf p:Nat) (H:Hp) (c f e:Int):Prop:=∀ g w (cargs:Array Value),Inv cx g H w->bN g H [.ptr p 0,.fn rf []] cargs.toList->br H.length [.ptr p 0,.fn rf []]=true->
 Calls Tryz.prog 36 cargs w (fun ev w'=> ∃ g' H',ev= .returned (.iface 78 (.agg #[.int .i64 c,.int .i64 f,.int .i64 e]))/\Inv cx g' H' w'/\K H'/\Ext H.length g H w g' H' w')
theorem a6l {w w2:World} (a:Obj) (v:Value):∀ b,b < w2.heap.size->b≠w.heap.size->((w2.alloc a).setCell ⟨w.heap.size,0,none⟩ v).heap[b]? =w2.heap[b]? :=fun b hb hne=>
 (heap_setCell_other _ _ _ _ hne).trans (Below.heap_alloc w2 a b hb)
theorem Cj {K:Hp->Prop} {rf p:Nat} {H:Hp} {c f e:Int} (hR:og Tryz.prog cx K Cm rf [.ptr p 0] H (pK c f e)) (hp:p < H.length):uY cx K rf p H c f e:=by
 intro g w cargs hI ra ua;obtain⟨x0,rfl,h0⟩:=Eg ra;obtain⟨i1,e1⟩:=zJ hI (.cells #[.nilIface] 68);have up:br H.length [.ptr p 0]=true:=by simp[br,V.und,hp]
 have one:∀ {g:Gh} {H:Hp},bW g H (.ptr p 0) x0->bN g H [.ptr p 0] [x0]:=fun h=>by simp only[bN];exact⟨x0,[],rfl,h,rfl⟩
 refine(Pj.PZ rf x0 w c f e (SL hR.1 _) (fun w1=> ∃ g1 H1,Inv cx g1 H1 w1/\K H1/\Ext H.length g H (Pj.FC w) g1 H1 w1) ((hR.2 g _ #[x0] i1 (one h0) up).mono ?_) (fun w2 ⟨g2,H2,_,_,j2⟩=>BK hI j2)).mono ?_
 ·rintro e w1 ⟨g1,H1,rfl,j1,j2,j3⟩;exact⟨rfl,g1,H1,j1,j2,j3⟩
 ·rintro ev w' ⟨rfl,w2,⟨g2,H2,j1,j2,j3⟩,rfl⟩;obtain⟨q1,q2⟩:=Ec (w4:=(w2.alloc (.cells (Pj.nq c f e) 78)).setCell ⟨w.heap.size,0,none⟩ (.iface 78 (Pj.ou c f e))) hI j1 j3 rfl rfl rfl (by simp) (a6l _ _);exact⟨g2,H2,rfl,q1,j2,q2⟩
theorem Ch {K:Hp->Prop} {rf p:Nat} {H H1:Hp} {v:V} {t:TokQ} {c f e:Int} (hR:dw Tryz.prog cx rf [.ptr p 0] H v H1) (hN:dw Tryz.prog cx 38 [.ptr p 0] H1 (.d (jL t)) H1) (hk:t.k≠5) (hF:og Tryz.prog cx K Cm 66 [.ptr p 0,.d (.int .i64 120)] H1 (pK c f e)) (hp:p < H.length):uY cx K rf p H c f e:=by
 intro g w cargs hI ra ua;obtain⟨x0,rfl,h0⟩:=Eg ra;obtain⟨i1,e1⟩:=zJ hI (.cells #[.nilIface] 68);have up:br H.length [.ptr p 0]=true:=by simp[br,V.und,hp]
 have one:∀ {g:Gh} {H:Hp},bW g H (.ptr p 0) x0->bN g H [.ptr p 0] [x0]:=fun h=>by simp only[bN];exact⟨x0,[],rfl,h,rfl⟩
 have u0:(V.ptr p 0).und H.length=true:=by simp[V.und,hp]
 refine(Pj.PW rf x0 w c f e t.k hk (SL hR.1 _) (fun w1=> ∃ g1,Inv cx g1 H1 w1/\Ext H.length g H (Pj.FC w) g1 H1 w1) (fun w1=> ∃ g1,Inv cx g1 H1 w1/\Ext H.length g H (Pj.FC w) g1 H1 w1) (fun w1=> ∃ g1 H2,Inv cx g1 H2 w1/\K H2/\Ext H.length g H (Pj.FC w) g1 H2 w1) ((hR.2 g _ #[x0] i1 (one h0) up).mono ?_) (fun w1 h=>?_) (fun w2 h=>?_) (fun w2 ⟨g2,H2,_,_,j2⟩=>BK hI j2)).mono ?_
 ·rintro e w1 ⟨g1,x,rfl,j1,_,_,j2⟩;exact⟨x,rfl,g1,j1,j2⟩
 ·obtain⟨g1,j1,j2⟩:=h;refine(hN.2 g1 w1 #[x0] j1 (one (fk j2.keep.w _ _ u0 h0)) (by simp only[br,V.jo j2.len _ u0,cF])).mono ?_;rintro e w2 ⟨g2,x,rfl,k1,k2,_,k3⟩;obtain⟨a,b,c,d,rfl⟩:=K2 k2;exact⟨a,b,c,d,rfl,g2,k1,j2.trans (k3.le j2.len) (ai _)⟩
 ·obtain⟨g1,j1,j2⟩:=h;refine(hF.2 g1 w2 #[x0,.int .i64 120] j1 (by simp only[bN];exact⟨x0,_,rfl,fk j2.keep.w _ _ u0 h0,_,[],rfl,rfl,rfl⟩) (by simp only[br,V.jo j2.len _ u0];rfl)).mono ?_;rintro ev w3 ⟨g3,H3,rfl,k1,k2,k3⟩;exact⟨rfl,g3,H3,k1,k2,j2.trans (k3.le j2.len) (ai _)⟩
 ·rintro ev w' ⟨rfl,w2,⟨g2,H2,j1,j2,j3⟩,rfl⟩;obtain⟨q1,q2⟩:=Ec (w4:=(w2.alloc (.cells (Pj.nq c f e) 78)).setCell ⟨w.heap.size,0,none⟩ (.iface 78 (Pj.ou c f e))) hI j1 j3 rfl rfl rfl (by simp) (a6l _ _);exact⟨g2,H2,rfl,q1,j2,q2⟩
theorem uY.hidden {K:Hp->Prop} {rf p:Nat} {H:Hp} {c f e:Int} (h:uY cx K rf p H c f e) {S:Nat->Prop} (hS:∀ i,S i->i < H.length/\∀ sz l,H[i]? ≠some (.row sz l)) (hp:¬ S p) {g:Gh} {w:World} {cargs:Array Value} (hI:Inv cx g H w) (hob:∀ i b c o,¬ S i->g.J i=some (b,c)->H[i]? =some o->zn (g.hide S) H w b c o) (ra:bN g H [.ptr p 0,.fn rf []] cargs.toList) (ua:br H.length [.ptr p 0,.fn rf []]=true):
 Calls Tryz.prog 36 cargs w (fun ev w'=> ∃ g' H',ev= .returned (.iface 78 (.agg #[.int .i64 c,.int .i64 f,.int .i64 e]))/\Inv cx g' H' w'/\(∀ i,S i->H'[i]? =H[i]?)/\Ext H.length g H w g' H' w'):=by
 have ra':bN (g.hide S) H [.ptr p 0,.fn rf []] cargs.toList:=by
  simp only[bN,bW]at ra⊢;obtain⟨x0,ys,e1,⟨h1,b,c',h2,h3⟩,h4⟩:=ra;exact⟨x0,ys,e1,⟨h1,b,c',(tJ hp).trans h2,h3⟩,h4⟩
 refine(h _ w cargs (hI.hide hob) ra' ua).mono ?_;rintro ev w' ⟨g',H',rfl,i1,_,i3⟩;obtain⟨q1,q2⟩:=Inv.back hI i1 hS i3;exact⟨_,_,rfl,q1,fun i hs=>Hk hs (hS i hs).1 i3.len,q2⟩
end
section
variable {cx:Cx} {g:Gh} {H:Hp} {w:World}
abbrev Z4 (a b c:Int):Ob:= .box [.d (.int .i64 a),.d (.int .i64 b),.d (.int .i64 c)]
theorem Is (hI:Inv cx g H w) {fz:Nat×Nat} {tt:TypeId} (hg:cx.fx 0=some (.cells #[.iface 145 (.agg #[.pointer (some ⟨9,68,none⟩)])] tt fz)) {id tb cap:Nat} (hJ:g.J id=some (tb,cap)) {a b d:Int} (ho:H[id]? =some (Z4 a b d)) (c f e:Int):
 Calls Tryz.prog 35 #[.iface 78 (.agg #[.int .i64 c,.int .i64 f,.int .i64 e]),.iface 81 (.pointer (some ⟨tb,0,none⟩))] w fun ev w'=>ev= .returned (.bool true)/\Inv cx g (H.set id (Z4 c f e)) w'/\Ext H.length g H w g (H.set id (Z4 c f e)) w':=by
 obtain⟨h0,_⟩:=hI.fix 0 _ hg;have hc0:w.cell? ⟨0,0,none⟩=some (.iface 145 (.agg #[.pointer (some ⟨9,68,none⟩)])):=by simp[World.cell?,h0]
 obtain⟨cur,t2,p1,p2,p3⟩:=hI.ob id tb cap _ hJ ho;have hcs:cur.size=3:=by
  simp only[cP]at p2;obtain⟨y1,z1,e1,_,_,y2,z2,rfl,_,_,y3,z3,rfl,_,_,rfl⟩:=p2;have:=aG List.length e1;simpa using this
 refine(Pj.a0f c f e tb cur t2 w hc0 p1 hcs).mono ?_;rintro ev w' ⟨rfl,hw⟩;have htl:tb < w.heap.size:=(hI.dom id tb cap hJ).2
 have hB:Below w.heap.size w ((((w.alloc (.cells #[.pointer (some ⟨tb,0,none⟩)] 81)).alloc (.cells #[.pointer (some ⟨9,81,none⟩),.pointer (some ⟨w.heap.size,0,none⟩),.int .u64 150] 109)).alloc (.cells #[.pointer (some ⟨9,81,none⟩),.pointer (some ⟨w.heap.size,0,none⟩),.int .u64 150] 109)).alloc (.cells (Pj.cells3 c f e) 78)):=
  ((((Below.refl _ w).alloc (ai _) _).alloc (by simp) _).alloc (by simp;omega) _).alloc (by simp;omega) _
 obtain⟨W5,e5⟩:∃ W5,W5=((((w.alloc (.cells #[.pointer (some ⟨tb,0,none⟩)] 81)).alloc (.cells #[.pointer (some ⟨9,81,none⟩),.pointer (some ⟨w.heap.size,0,none⟩),.int .u64 150] 109)).alloc (.cells #[.pointer (some ⟨9,81,none⟩),.pointer (some ⟨w.heap.size,0,none⟩),.int .u64 150] 109)).alloc (.cells (Pj.cells3 c f e) 78)):=⟨_,rfl⟩;rw[<-e5]at hw hB;subst hw;clear e5;obtain⟨i1,e1⟩:=hI.below hB;have hb1:=(hB.block tb htl).trans p1
 obtain⟨i2,e2⟩:=i1.PN (nb:=H.length) hJ ho (c':=[.d (.int .i64 c),.d (.int .i64 f),.d (.int .i64 e)]) (w':=W5.setRow tb (Pj.cells3 c f e)) rfl rfl rfl (by simp[World.setRow]) (fun k hk=>setRow_other _ _ _ _ hk)
   ⟨_,_,setRow_heap _ _ _ _ _ _ hb1,by simp only[cP,bW,du,bD];exact⟨_,_,rfl,rfl,rfl,_,_,rfl,rfl,rfl,_,_,rfl,rfl,rfl,rfl⟩,p3⟩ rfl (fun n _ _ _=>rfl)
 exact⟨rfl,i2,e1.trans e2 (ai _)⟩
theorem Ir {v:V}:dw Tryz.prog cx 35 [.ifc true,v] H (.d (.bool false)) H:=by
 refine⟨⟨Tryz.f35,Tryz.func35,rfl,by decide⟩,fun g w cargs hI ra ua=>?_⟩;simp only[bN]at ra;obtain⟨x0,ys,e1,h0,x1,zs,rfl,h1,rfl⟩:=ra;simp only[bW]at h0;have hx:x0= .nilIface:=by
  rcases h0 with⟨_,h⟩|⟨h,_⟩
  ·exact h
  ·cases h
 subst hx;have hc:cargs= #[.nilIface,x1]:=dH e1;subst hc;refine(Pj.a0e x1 w).mono ?_;rintro e w' ⟨rfl,rfl⟩;exact⟨g,_,rfl,hI,rfl,rfl,Ext.refl _ _ _ _⟩
end
section
variable {fx:Nat->Option Obj} {n:Nat}
theorem HM {F:Nat->Option dF} (hT:eS Tryz.prog (b9 fx F)) {f:Nat} {a:List V} {H:Hp} {r:V} {H':Hp} (h:cv (b9 fx F) f a H=some (r,H')):dw Tryz.prog ⟨fun _=>[],fx⟩ f a H r H':=tP hT rW f a H r H' h
theorem GP {H:Hp} {p r:Nat} {l:List TokQ} {s:PS} {bb:Bool} (A:wv H p r l s bb) (hs:fb l s=true):dw Tryz.prog ⟨fun _=>[],fx⟩ 38 [.ptr p 0] H (.d (jL (now l s))) H:=by
  have e:=eX (fx:=fx) (F:=FN 0) (l:=l) (s:=s) (bb:=bb) (X:=[]) hs;obtain⟨H3,h1,h2⟩:=p8 (lf 0 fx) A.mv A.hr e;have h3:H3=H:=by
   rw[Bh A.lt A.rl h2];have hp:p < H.length:=by have:=A.lt;have:=A.rl;omega
   unfold sE;apply fa;intro j;rw[fG,fG];by_cases e1:r=j
   ·subst e1;rw[ay rfl,ay (by rw[cX];exact A.rl)];exact A.row.symm
   ·rw[aA e1];by_cases e2:p=j
    ·subst e2;rw[ay rfl,ay hp];exact A.box.symm
    ·rw[aA e2]
  rw[h3]at h1;exact HM (uM fx 0).my h1
theorem wv.set {H:Hp} {p r:Nat} {l:List TokQ} {s:PS} {bb:Bool} (A:wv H p r l s bb) (s1:PS):wv (sE H p r l s1 bb) p r l s1 bb:=by
 have hp:p < H.length:=by have:=A.lt;have:=A.rl;omega
 refine⟨A.lt,?_,?_⟩
 ·unfold sE;rw[aX (by have:=A.lt;omega),bu hp]
 ·unfold sE;rw[bu (by rw[cX];exact A.rl)]
theorem wv.pl {H:Hp} {p r:Nat} {l:List TokQ} {s:PS} {bb:Bool} (A:wv H p r l s bb):p < H.length:=by have:=A.lt;have:=A.rl;omega
theorem zy {f p r:Nat} {H:Hp} {l:List TokQ} {s s1:PS} {bb:Bool} {v:V} (A:wv H p r l s bb) (h:dw Tryz.prog ⟨fun _=>[],fx⟩ f [.ptr p 0] H v (sE H p r l s1 bb)) (hs:fb l s1=true) (hk:(now l s1).k=5):dw Tryz.prog ⟨fun _=>[],fx⟩ 36 [.ptr p 0,.fn f []] H (.ifc true) (sE H p r l s1 bb):=
  PV h (GP (A.set s1) hs) hk A.pl
theorem PY {f p r:Nat} {H:Hp} {l:List TokQ} {s s1:PS} {bb:Bool} {v:V} (A:wv H p r l s bb) (h:dw Tryz.prog ⟨fun _=>[],fx⟩ f [.ptr p 0] H v (sE H p r l s1 bb)) (hs:fb l s1=true) (hk:(now l s1).k≠5):uY ⟨fun _=>[],fx⟩ (KP p) f p H 120 (now l s1).f (now l s1).e:=
  Ch h (GP (A.set s1) hs) hk ((uM fx 0).dies p 66 _ _ _ (.inl ⟨rfl,120,l,s1,bb,r,rfl,A.lt,(A.set s1).row,(A.set s1).box,hs,rfl⟩)) A.pl
theorem BE {l:List TokQ} {s:PS} {bb:Bool} (G:Good l s):Says (b9 fx (FN n)) (mD n 0) nM [.ptr 0 0] [QB l s bb,PR s] (qp l (cM l (n+1) (.items Pa.K.o) s)) (leftV l bb [] fun r s'=> .d (su r.i 0 (now l s').e)):=
  have W:Wk fx (FN n) (mD n) l:=⟨lf n fx,uV n,G.gl⟩
  VG W (a0o W (YV n fx G.gl)).item s bb G.gs G.gz
theorem SI {p r:Nat} {H:Hp} {l:List TokQ} {s s1:PS} {bb:Bool} {R:R} (G:Good l s) (A:wv H p r l s bb) (e:qp l (cM l (n+1) (.items Pa.K.o) s)=some (.ok R s1)):dw Tryz.prog ⟨fun _=>[],fx⟩ 14 [.ptr p 0] H (.d (su R.i 0 (now l s1).e)) (sE H p r l s1 bb):=by
  have h:=BE (fx:=fx) (n:=n) (bb:=bb) G;rw[e]at h;obtain⟨H3,h1,h2⟩:=p8 (lf n fx) A.mv A.hr h;rw[Bh A.lt A.rl h2]at h1;exact HM (uM fx n).my h1
theorem Ks {p r:Nat} {H:Hp} {l:List TokQ} {s:PS} {bb:Bool} {c a b:Int} (G:Good l s) (A:wv H p r l s bb) (e:qp l (cM l (n+1) (.items Pa.K.o) s)=some (.bad c a b)):og Tryz.prog ⟨fun _=>[],fx⟩ (KP p) Cm 14 [.ptr p 0] H (pK c a b):=by
  have h:=BE (fx:=fx) (n:=n) (bb:=bb) G;rw[e]at h;have hdd:MK (vH p r H.length) 2 H (cY (b9 fx (FN n)) (mD n 0)) (cY (b9 fx (FN n)) (mD n p)):=xy A.mv (lf n fx) ((uV n).sh (p:=0) A.mv);exact tU (uM fx n).my rW ((uM fx n).dies p) _ _ _ _ (hdd _ _ _ _ _ A.hr h)
end
theorem BG (f:Nat) {fn:Func} (h:Tryz.prog.funcs[f]? =some fn) (h1:fn.body.isNone=false) (h2:(fn.name== "runtime.NumGoroutine")=false):si Tryz.prog f:=⟨fn,h,h1,h2⟩
structure zo (fx:Nat->Option Obj):Prop where
 utf:∀ g H w,Inv ⟨fun _=>[],fx⟩ g H w->Lib.Utf8Tabs 3 4 w
 er4:B9 ⟨fun _=>[],fx⟩ 7
 er5:B9 ⟨fun _=>[],fx⟩ 8
 ty:∃ tt fz,fx 0=some (.cells #[.iface 145 (.agg #[.pointer (some ⟨9,68,none⟩)])] tt fz)
theorem Ik (w:World) (s:ByteArray):Below w.heap.size w (Lib.bytesWorld w 5 s):=by
 have hb:Below w.heap.size w (w.drew.alloc (.cells (Lib.bytesCells w 5 s) 5)):=(Below.refl _ w).drew.alloc (ai _) _;unfold Lib.bytesWorld World.freeze;rw[aA (by decide)];refine hb.trans ⟨rfl,rfl,rfl,by simp,fun k hk=>?_⟩;show(Array.modify _ _ _)[k]? =_;rw[Array.getElem?_modify,aA (fun e=>by have e':w.heap.size=k:=e;omega)]
def FL:Nat->Option dF
 |58=>some (.prim rA)
 |95=>some (.prim kY)
 |87=>some (.prim ia)
 |129=>some (.prim lA)
 |_=>none
instance:HL FL:=⟨rfl,rfl,rfl,rfl⟩
section
variable {fx:Nat->Option Obj}
theorem Wx (X:zo fx):∀ f e,FL f=some e->match e with| .prim p=> ∀ args H r H',p args H=some (r,H')->dw Tryz.prog ⟨fun _=>[],fx⟩ f args H r H'| .code _=>False:=by
  intro f e h;unfold FL at h;split at h
  ·cases h;exact O5 (BG 58 Tryz.func58 kr kr) X.utf fun s w hw=>LexUtf.walk s w hw
  ·cases h;exact HZ (BG 95 Tryz.func95 kr kr) X.utf fun s w hw=>Tryz.utf8_DecodeRuneInString s w hw
  ·cases h;exact Bg (BG 87 Tryz.func87 kr kr) Tryz.strings_IndexByte
  ·cases h;refine Jy (BG 129 Tryz.func129 kr kr) X.er4 X.er5 (fun s hs u hu w=>?_) (fun s hs hu1 hu2 ev w hv hev=>?_) (fun s hs hu ev w hv hev=>?_)
   ·refine(Tryz.strconv_ParseUint_10_at64_ok s om u hu w).mono ?_;rintro e w' ⟨rfl,rfl|rfl⟩
    ·exact⟨rfl,Below.refl _ _⟩
    ·exact⟨rfl,Ik _ _⟩
   ·cases hu:Lib.parseUintB 64 s.data.toList with
    |ok u=>exact absurd hu (hu1 u)
    |range=>exact absurd hu hu2
    |_=>
     refine(Any.strconv_ParseUint_10_at64_syntax Tryz.Ba s hs hu ev w hv hev).mono ?_;rintro e w' ⟨N,rfl,_,_,hb⟩;exact⟨_,_,rfl,hb⟩
   ·refine(Tryz.strconv_ParseUint_10_at64_range s hs hu ev w hv hev).mono ?_;rintro e w' ⟨N,rfl,_,_,hb⟩;exact⟨_,_,rfl,hb⟩
  ·cases h
theorem XL (X:zo fx):eS Tryz.prog (b9 fx FL):=K4 ⟨fun _=>[],fx⟩ FL (Wx X)
end
end Go.Vm.Px
namespace Go.Vm.Px
open Go.Vm.Lex (TokQ bF qA zk)
open Go.Vm.Pa hiding go
open Go.Vm.Ite
open Go Go.Proofs Go.RowKit
def Q13:Laid Tryz.prog (AA [] [(7,[.bindrow 6 8 2])]) false Tryz.f13:=laid
abbrev V4:vb:=AA [] [(7,[.bindrow 6 8 2])]
noncomputable def c20:Code:=(Tryz.f13.body).getD .skip
theorem b20:Tryz.f13.body=some c20:=kr
noncomputable def cD:Code->Nat->Code
 |c,0=>c
 |c,n+1=>cD (cR c) n
theorem q20:c20= .seq (cL c20) (.seq (cL (cD c20 1)) (.seq (cL (cD c20 2)) (.seq (cL (cD c20 3)) (.seq (cL (cD c20 4)) (.seq (cL (cD c20 5)) (.seq (cL (cD c20 6)) (cD c20 7))))))):=kr
abbrev SE:aU:=Q13.F.body
theorem a4u:tr Tryz.prog V4 (cL c20)=some (vL SE):=kr
theorem a4t:tr Tryz.prog V4 (cL (cD c20 1))=some (vL (vR SE)):=kr
theorem a4s:tr Tryz.prog V4 (cL (cD c20 2))=some (vL (vR (vR SE))):=kr
theorem a4r:tr Tryz.prog V4 (cL (cD c20 3))=some (vL (vR (vR (vR SE)))):=kr
theorem a4q:tr Tryz.prog V4 (cL (cD c20 4))=some (vL (vR (vR (vR (vR SE))))):=kr
theorem a4p:tr Tryz.prog V4 (cL (cD c20 5))=some (vL (vR (vR (vR (vR (vR SE)))))):=kr
theorem a4o:tr Tryz.prog V4 (cD c20 7)=some (vR (vR (vR (vR (vR (vR (vR SE))))))):=kr
noncomputable abbrev AM:Array Oper:=Ih (cL (cL (cD c20 6)))
theorem Ww:cL (cD c20 6)= .seq (.region (cId (cL (cL (cD c20 6)))) AM false) (.cond (.tmp 33) (cA (cR (cL (cD c20 6)))) .skip):=kr
theorem a4n:tr Tryz.prog V4 (cA (cR (cL (cD c20 6))))=some (vA (vR (vL (vR (vR (vR (vR (vR (vR SE))))))))):=kr
theorem r20:qz Tryz.prog Tryz.f13.results.toList=some [.cell 4 (some 1),.cell 5 (some 3)]:=kr
def P0:PS:=⟨0,0,[],0,0,0,0⟩
abbrev ZB:Ob:= .box [.d (.int .i64 0),.d (.int .i64 0),.d (.int .i64 0)]
abbrev DB (c f e:Int):Ob:= .box [.d (.int .i64 c),.d (.int .i64 f),.d (.int .i64 e)]
abbrev H7 (l:List TokQ) (c f e:Int) (s:PS):Hp:=[.box [.nils],ZB,DB c f e,a0r l s false 4,PR s,ZB]
abbrev E7 (src:S) (rf:Nat):Env:=[(0,.d (.str src)),(1,.fn rf []),(4,.ptr 0 0),(5,.ptr 1 0),(8,.ptr 3 0),(9,.ptr 5 0)]
section
variable {fx:Nat->Option Obj}
theorem Wz (X:zo fx) (src:S) (rf:Nat) (h1:src.length<=65536) (hc:(bF src).2.c=0) {g:Gh} {w:World} {a:Act} (ok:pD ⟨fun _=>[],fx⟩ 66 g ⟨cJ [.d (.str src),.fn rf []],[],0⟩ a w) {Q:Exit->Act->World->Prop}
    (hq:∀ g' a' w',pD ⟨fun _=>[],fx⟩ 66 g' ⟨E7 src rf,H7 (bF src).1 (bF src).2.c (bF src).2.f (bF src).2.e P0,0⟩ a' w'->Ext 0 g [] w g' (H7 (bF src).1 (bF src).2.c (bF src).2.f (bF src).2.e P0) w'->(Code.seq (cL (cD c20 6)) (cD c20 7)).wp Tryz.prog Q a' w'):c20.wp Tryz.prog Q a w:=by
  have hT:=XL X;have ok:=ok.forget [0,1];rw[show dU [0,1] (cJ [.d (.str src),.fn rf []])=[(0,.d (.str src)),(1,.fn rf [])] from rfl]at ok;rw[q20];apply wp_seq;refine chunk hT rW a4u kr ok (R:=fun x1 e' H'=>x1= .dN/\dU [0,1,4,5] e'=[(0,.d (.str src)),(1,.fn rf []),(4,.ptr 0 0),(5,.ptr 1 0)]/\H'=[.box [.nils],ZB]) ?_ ?_
  ·refine run ⟨?_⟩;exact rfl
  rintro x1 e' H' g1 a1 w1 ⟨rfl,he,rfl⟩ ok1 E1;have ok1:=ok1.forget [0,1,4,5];rw[he]at ok1;clear he ok;show(Code.seq _ _).wp _ _ _ _;apply wp_seq;have h1':¬ (65536:Int) < (src.length:Int):=om;refine chunk hT rW a4t kr ok1 (R:=fun x1 e' H'=>x1= .dN/\dU [0,1,4,5] e'=[(0,.d (.str src)),(1,.fn rf []),(4,.ptr 0 0),(5,.ptr 1 0)]/\H'=[.box [.nils],ZB]) ?_ ?_
  ·refine run ⟨?_⟩;exact rfl
  rintro x1 e' H' g2 a2 w2 ⟨rfl,he,rfl⟩ ok2 E2;have ok2:=ok2.forget [0,1,4,5];rw[he]at ok2;have E2:=E1.trans E2 (ai _);clear he ok1 E1;show(Code.seq _ _).wp _ _ _ _;apply wp_seq;have tk:=fun H=>Go.Vm.Lex.CS (fx:=fx) (F:=FL) H src (by unfold maxLen;omega);refine chunk hT rW a4s kr ok2 (R:=fun x1 e' H'=>x1= .dN/\dU [0,1,4,5,6,7] e'=[(0,.d (.str src)),(1,.fn rf []),(4,.ptr 0 0),(5,.ptr 1 0),(6,.d (.sl ((bF src).1.map TokQ.D))),(7,.ptr 2 0)]/\H'=[.box [.nils],ZB,DB (bF src).2.c (bF src).2.f (bF src).2.e]) ?_ ?_
  ·repeat' (first|refine run ⟨?_⟩|refine ca (tk _) ?_|fail)
   exact rfl
  rintro x1 e' H' g3 a3 w3 ⟨rfl,he,rfl⟩ ok3 E3;have ok3:=ok3.forget [0,1,4,5,6,7];rw[he]at ok3;have E3:=E2.trans E3 (ai _);clear he ok2 E2;show(Code.seq _ _).wp _ _ _ _;apply wp_seq;have hn:(!decide ((bF src).2.c=0))=false:=by rw[au hc];rfl
  refine chunk hT rW a4r kr ok3 (R:=fun x1 e' H'=>x1= .dN/\dU [0,1,4,5,6] e'=[(0,.d (.str src)),(1,.fn rf []),(4,.ptr 0 0),(5,.ptr 1 0),(6,.d (.sl ((bF src).1.map TokQ.D)))]/\H'=[.box [.nils],ZB,DB (bF src).2.c (bF src).2.f (bF src).2.e]) ?_ ?_
  ·refine run ⟨?_⟩;exact rfl
  rintro x1 e' H' g4 a4 w4 ⟨rfl,he,rfl⟩ ok4 E4;have ok4:=ok4.forget [0,1,4,5,6];rw[he]at ok4;have E4:=E3.trans E4 (ai _);clear he ok3 E3;show(Code.seq _ _).wp _ _ _ _;apply wp_seq;refine chunk hT rW a4q kr ok4 (R:=fun x1 e' H'=>x1= .dN/\dU [0,1,4,5,8] e'=[(0,.d (.str src)),(1,.fn rf []),(4,.ptr 0 0),(5,.ptr 1 0),(8,.ptr 3 0)]/\H'=[.box [.nils],ZB,DB (bF src).2.c (bF src).2.f (bF src).2.e,.box [.d (.sl ((bF src).1.map TokQ.D)),.d (.int .i64 0),.nils,.d (.int .i64 0),.d (.bool false)]]) ?_ ?_
  ·refine run ⟨?_⟩;exact rfl
  rintro x1 e' H' g5 a5 w5 ⟨rfl,he,rfl⟩ ok5 E5;have ok5:=ok5.forget [0,1,4,5,8];rw[he]at ok5;have E5:=E4.trans E5 (ai _);clear he ok4 E4;show(Code.seq _ _).wp _ _ _ _;apply wp_seq;refine chunk hT rW a4p kr ok5 (R:=fun x1 e' H'=>x1= .dN/\dU [0,1,4,5,8,9] e'=E7 src rf/\H'=H7 (bF src).1 (bF src).2.c (bF src).2.f (bF src).2.e P0) ?_ ?_
  ·refine run ⟨?_⟩;exact rfl
  rintro x1 e' H' g6 a6 w6 ⟨rfl,he,rfl⟩ ok6 E6;have ok6:=ok6.forget [0,1,4,5,8,9];rw[he]at ok6;exact hq g6 a6 w6 ok6 (E5.trans E6 (ai _))
end
theorem mk69 (y:Value) (w:World):(Instr.makeInterface 81 y).run Tryz.prog w= .ok (.iface 81 y) w:=kr
theorem PX {w:World} {a:Act} {o:Oper} {y:Value} (hy:a.tmps.getD 9 Go.undef=y) (ho:o.op= .makeInterface 81 (.tmp 9)):(execOp a.eval o).run Tryz.prog w= .ok (.value (.iface 81 y)) w:=by
 have h1:a.eval (.tmp 9)=y:=hy;simp only[execOp,ho,h1];exact nC (mk69 y w)
theorem LQ {f:Operand->Value} {x y:Operand}:(Array.map f #[x,y]).toList=[f x,f y]:=by simp
theorem Ld {w:World} {a:Act} {o:Oper} {t:Nat} (ho:o.op= .move (.tmp t)):(execOp a.eval o).run Tryz.prog w= .ok (.value (a.tmps.getD t Go.undef)) w:=by
 have h1:a.eval (.tmp t)=a.tmps.getD t Go.undef:=rfl;simp only[execOp,ho,h1];rfl
theorem o8_0:(AM[0]?).map (fun o=>(o.op,o.dst,o.guard))=some (.move (.tmp 8),some 29,none):=kr
theorem o8_1:(AM[1]?).map (fun o=>(o.op,o.dst,o.guard))=some (.move (.tmp 1),some 30,none):=kr
theorem o8_2:(AM[2]?).map (fun o=>(o.op,o.dst,o.guard))=some (.call {callee:= .value (.func 36),args:= #[.tmp 29,.tmp 30],argTypes:= #[47,45]},some 31,none):=kr
theorem o8_3:(AM[3]?).map (fun o=>(o.op,o.dst,o.guard))=some (.makeInterface 81 (.tmp 9),some 32,none):=kr
theorem o8_4:(AM[4]?).map (fun o=>(o.op,o.dst,o.guard))=some (.call {callee:= .value (.func 35),args:= #[.tmp 31,.tmp 32],argTypes:= #[68,20]},some 33,none):=kr
theorem o8_s:AM.size=5:=kr
section
variable {cx:Cx} {src:S} {rf:Nat} {H:Hp} {g:Gh} {w:World} {a:Act}
theorem a5v (ok:pD cx 66 g ⟨E7 src rf,H,0⟩ a w) {Q:Exit->Act->World->Prop} {K:Gh->Hp->Value->World->Prop}
 (h43:∀ cargs:Array Value,bN g H [.ptr 3 0,.fn rf []] cargs.toList->Calls Tryz.prog 36 cargs w fun e w'=> ∃ g' H' x,e= .returned x/\Inv cx g' H' w'/\Ext H.length g H w g' H' w'/\K g' H' x w')
 (h42:∀ g' H' x w' p,K g' H' x w'->Inv cx g' H' w'->Ext H.length g H w g' H' w'->bW g' H' (.ptr 5 0) p->Calls Tryz.prog 35 #[x,.iface 81 p] w' fun e w2=> ∃ (b:Bool) (g2:Gh) (H2:Hp),e= .returned (.bool b)/\Inv cx g2 H2 w2/\Ext 0 g' H' w' g2 H2 w2/\
   ∀ a2,pD cx 66 g2 ⟨(33,.d (.bool b))::E7 src rf,H2,0⟩ a2 w2->Q .normal a2 w2):(cL (cL (cD c20 6))).wp Tryz.prog Q a w:=by
 have e0:cL (cL (cD c20 6))= .region (cId (cL (cL (cD c20 6)))) AM false:=kr;rw[e0];apply wp_region;have hr:List.range AM.size=[0,1,2,3,4]:=by rw[o8_s];rfl
 rw[hr];refine JE o8_0 ok (fun o ho=>Ld ho) (d:=29) (by decide) (v:= .ptr 3 0) (Gr ok (by decide) rfl) (ok.env.2 8 (by decide)).2 fun ok=>?_;refine JE o8_1 ok (fun o ho=>Ld ho) (d:=30) (by decide) (v:= .fn rf []) (Gr ok (by decide) rfl) (ok.env.2 1 (by decide)).2 fun ok=>?_;have hp:=Gr ok (i:=29) (by decide) rfl;have hf:=Gr ok (i:=30) (by decide) rfl;refine GM Tryz.func36 kr kr o8_2 (h43 _ (by
   rw[LQ];simp only[bN];exact⟨_,_,rfl,hp,_,_,rfl,hf,rfl⟩)) ?_
 rintro e w' ⟨g',H',x,rfl,hI',hE',hK⟩;refine⟨x,rfl,?_⟩;have hu31:(V.raw x).und H'.length=true:=rfl;have ok1:=ok.put (d:=some 31) (v:= .raw x) (x:=x) (fun k hk=>by cases hk;decide) hI' (by simp only[bW]) hu31 (hE'.le (aR _));have h9:=Gr ok1 (i:=9) (v:= .ptr 5 0) (by decide) rfl;generalize hy:(a.put _ _|>.put _ _|>.put _ _).tmps.getD 9 Go.undef=y at h9;refine JE o8_3 ok1 (fun o ho=>PX hy ho) (d:=32) (by decide) (v:= .raw (.iface 81 y)) (by simp only[bW]) rfl fun ok2=>?_;have e31:=a3q ok2 (i:=31) (by decide) rfl;have e32:=a3q ok2 (i:=32) (by decide) rfl
 refine GM Tryz.func35 kr kr o8_4 (R:=fun e w2=> ∃ (b:Bool) (g2:Gh) (H2:Hp),e= .returned (.bool b)/\Inv cx g2 H2 w2/\Ext 0 g' H' w' g2 H2 w2/\
     ∀ a2,pD cx 66 g2 ⟨(33,.d (.bool b))::E7 src rf,H2,0⟩ a2 w2->Q .normal a2 w2) ?_ ?_
 ·have h:=h42 g' H' x w' _ hK hI' hE' h9;have ea:∀ b:Act,b.tmps.getD 31 Go.undef=x->b.tmps.getD 32 Go.undef= .iface 81 y->Array.map b.eval #[.tmp 31,.tmp 32]= #[x,.iface 81 y]:=fun b h1 h2=>by
    apply dH;rw[LQ];show[_,_]=[_,_];rw[show b.eval (.tmp 31)=x from h1,show b.eval (.tmp 32)= .iface 81 y from h2]
  rw[ea _ e31 e32];exact h
 ·rintro e w2 ⟨b,g2,H2,rfl,hI2,hE2,hq⟩;refine⟨_,rfl,?_⟩;have ok3:=ok2.put (d:=some 33) (v:= .d (.bool b)) (x:= .bool b) (fun k hk=>by cases hk;decide) hI2 (by simp only[bW,du,bD]) rfl hE2;refine hq _ ?_;have ok4:=ok3.forget [33,0,1,4,5,8,9];exact ok4
end
end Go.Vm.Px
