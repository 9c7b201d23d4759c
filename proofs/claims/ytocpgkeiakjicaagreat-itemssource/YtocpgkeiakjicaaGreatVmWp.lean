import Derived.Test.YtocpgkeiakjicaaGreatTypP18
import Derived.Test.YtocpgkeiakjicaaGreatVmFn
import Derived.Maps.RangeRun
import Derived.Test.YtocpgkeiakjicaaGreatVmRun
set_option linter.unusedVariables false
set_option linter.unusedSimpArgs false
namespace Go.Vm.Ip
open Go.Vm.Lex (a3c)
def flT (x:Its) (s:S):List S:=(flM x s).map Fld.t
theorem f5w {x:Its} {s z:S} (h:z∈(a1b x s).1):z∈flT x s:=by
 rw[c5u]at h
 split at h
 ·exact h
 split at h
 ·obtain⟨_,f,hf,e⟩:=b8i.1 h
  exact List.mem_map.2 ⟨f,hf,e⟩
 ·cases h
theorem e0z {x:Its} {s z:S} (h:z∈flT x s) (hz:z≠[]):z∈(a1b x s).1:=by
 rw[c5u]
 split
 ·exact h
 rename_i c1
 split
 ·obtain⟨f,hf,e⟩:=List.mem_map.1 h
  exact b8i.2 ⟨hz,f,hf,e⟩
 ·rename_i c2
  unfold flT flM at h
  rw[if_neg c1,if_neg c2]at h
  cases h
structure c7k (x:Its) (s:S) (seen todo:List S):Prop where
 a1:∀ y∈seen,y=s\/Gets x s y
 a2:∀ y∈todo,kn x y=true->y=s\/Gets x s y
 a3:s∈seen\/s∈todo
 c1:∀ y∈seen,∀ z∈(a1b x y).1,z≠s/\(z∈seen\/z∈todo\/kn x z=false)
theorem c7k.start (x:Its) (s:S):c7k x s [] [s]:=⟨by simp,fun y hy _=> .inl (by simpa using hy),.inr (by simp),by simp⟩
theorem f1i {x:Its} {s:S} (h:kn x s=false):(a1b x s).1=[]:=by
 unfold kn at h
 rw[Bool.or_eq_false_iff]at h
 rw[f9a h.1 h.2]
theorem c7k.end {x:Its} {s:S} {seen:List S} (h:c7k x s seen []):¬ Gets x s s:=by
 have h0:s∈seen:=h.a3.resolve_right (by simp)
 have key:∀ y,Gets x s y->y≠s/\(y∈seen\/kn x y=false):=by
  intro y hy
  induction hy with
  |one hz=>
   obtain⟨a,b⟩:=h.c1 s h0 _ hz
   exact⟨a,b.imp id fun q=>q.resolve_left (by simp)⟩
  |step _ hz ih=>
   rcases ih.2 with q|q
   ·obtain⟨a,b⟩:=h.c1 _ q _ hz
    exact⟨a,b.imp id fun q=>q.resolve_left (by simp)⟩
   ·rw[f1i q]at hz;cases hz
 exact fun hr=>(key s hr).1 rfl
theorem c7k.old {x:Its} {s y:S} {seen r:List S} (h:c7k x s seen (y::r)) (hk:kn x s=true) (hy:kn x y=false\/y∈seen):c7k x s seen r:=by
 refine⟨h.a1,fun z hz=>h.a2 z (List.mem_cons_of_mem _ hz),?_,fun u hu z hz=>?_⟩
 ·rcases h.a3 with q|q
  ·exact .inl q
  ·rcases List.mem_cons.1 q with e|e
   ·rcases hy with c|c
    ·rw[<-e,hk]at c;cases c
    ·exact .inl (e ▸ c)
   ·exact .inr e
 ·obtain⟨a,b⟩:=h.c1 u hu z hz
  refine⟨a,?_⟩
  rcases b with q|q|q
  ·exact .inl q
  ·rcases List.mem_cons.1 q with e|e
   ·rcases hy with c|c
    ·exact .inr (.inr (e ▸ c))
    ·exact .inl (e ▸ c)
   ·exact .inr (.inl e)
  ·exact .inr (.inr q)
theorem c7k.found {x:Its} {s y:S} {seen r:List S} (h:c7k x s seen (y::r)) (hn:s≠[]) (hy:kn x y=true) (ht:s∈flT x y):Gets x s s:=by
 have:=e0z ht hn
 rcases h.a2 y (by simp) hy with q|q
 ·rw[q]at this;exact .one this
 ·exact .step q this
theorem c7k.new {x:Its} {s y:S} {seen r:List S} (h:c7k x s seen (y::r)) (hnm:∀ s,kn x s=true->a3c s=true) (hy:kn x y=true) (ht:s∉flT x y):c7k x s (seen++[y]) (r++flT x y):=by
 have ry:=h.a2 y (by simp) hy
 refine⟨fun z hz=>?_,fun z hz hk=>?_,?_,fun u hu z hz=>?_⟩
 ·rcases List.mem_append.1 hz with q|q
  ·exact h.a1 z q
  ·rw[List.mem_singleton]at q;exact q ▸ ry
 ·rcases List.mem_append.1 hz with q|q
  ·exact h.a2 z (List.mem_cons_of_mem _ q) hk
  ·have hne:z≠[]:=fun e=>by
     have:=hnm z hk
     rw[e]at this
     exact absurd this (by decide)
   have:=e0z q hne
   rcases ry with e|e
   ·rw[e]at this;exact .inr (.one this)
   ·exact .inr (.step e this)
 ·rcases h.a3 with q|q
  ·exact .inl (List.mem_append_left _ q)
  ·rcases List.mem_cons.1 q with e|e
   ·exact .inl (by rw[e];simp)
   ·exact .inr (List.mem_append_left _ e)
 ·rcases List.mem_append.1 hu with q|q
  ·obtain⟨a,b⟩:=h.c1 u q z hz
   refine⟨a,?_⟩
   rcases b with q|q|q
   ·exact .inl (List.mem_append_left _ q)
   ·rcases List.mem_cons.1 q with e|e
    ·exact .inl (by rw[e];simp)
    ·exact .inr (.inl (List.mem_append_left _ e))
   ·exact .inr (.inr q)
  ·rw[List.mem_singleton]at q
   rw[q]at hz
   have:=f5w hz
   exact⟨fun e=>ht (e ▸ this),.inr (.inl (List.mem_append_right _ this))⟩
def owG (g:S->Nat) (seen:List S):List S->Nat
 |[]=>0
 |n::r=>(if n∈seen then 0 else g n)+owG g seen r
theorem f8q (g:S->Nat) (seen:List S) (y:S):∀ l:List S,owG g (seen++[y]) l<=owG g seen l
 |[]=>Nat.le_refl _
 |n::r=>by
  have:=f8q g seen y r
  simp only[owG,List.mem_append,List.mem_singleton]
  by_cases h:n∈seen
  ·simp only[h,true_or,if_true];omega
  ·by_cases h2:n=y
   ·simp only[h2,or_true,if_true];omega
   ·simp only[h,h2,or_self,if_false];omega
theorem f0y (g:S->Nat) {seen:List S} {y:S} (hy:y∉seen):∀ l:List S,y∈l->owG g (seen++[y]) l+g y<=owG g seen l
 |[],h=>by cases h
 |n::r,h=>by
  have hle:=f8q g seen y r
  simp only[owG,List.mem_append,List.mem_singleton]
  by_cases e:n=y
  ·subst e
   simp only[hy,or_true,if_true,if_false];omega
  ·have hr:y∈r:=by
    rcases List.mem_cons.1 h with q|q
    ·exact absurd q.symm e
    ·exact q
   have ih:=f0y g hy r hr
   by_cases h1:n∈seen
   ·simp only[h1,true_or,if_true];omega
   ·simp only[h1,e,or_self,if_false];omega
theorem d4t {g:S->Nat} {b:Nat} (hg:∀ n,g n<=b) (seen:List S):∀ l:List S,owG g seen l<=b*l.length
 |[]=>Nat.zero_le _
 |n::r=>by
  have:=d4t hg seen r
  have:=hg n
  simp only[owG,List.length_cons,Nat.mul_add,Nat.mul_one]
  split<;>omega
theorem e1g {x:Its} {s:S}:kn x s=true↔s∈nS x++nE x:=by
 unfold kn
 rw[Bool.or_eq_true,a7n,a7n,List.mem_append]
noncomputable def e6x (x:Its) (s:S):Bool:=(enB x s && decide (flM x s=[]))||c2s x s
end Go.Vm.Ip
namespace Go.Vm.Ip
open Go.Vm.Lex (a3c)
def tgt (v:Int×Int):Int×Int:=if v.2<=1024 then(v.2,min v.1 65) else(1025,0)
structure Nmd (x:Its):Prop where
 nm:∀ s,kn x s=true->a3c s=true
 ne:∀ s,known (nS x) s=true->∀ f∈flM x s,f.t≠[]
theorem Nmd.h3d {x:Its} (h:Nmd x) {s:S} (c:known (nS x) s=true):a1b x s=(a1t (flM x s),false):=by
 rw[c5u,if_pos c,f0m (h.ne s c)]
theorem Nmd.nu {x:Its} (h:Nmd x) {s:S} (c:kn x s=true):s≠d7d/\s≠[]:=⟨fun e=>by
  have:=h.nm s c
  rw[e]at this
  exact absurd this (by decide),fun e=>by
  have:=h.nm s c
  rw[e]at this
  exact absurd this (by decide)⟩
theorem e3r {g:S->Int×Int} (hg:∀ y,0<=(g y).2):∀ (l:List S) (a:Int×Int),a.2<=1025->a.2<=(l.foldl (fun a y=>b2p a (g y)) a).2/\(l.foldl (fun a y=>b2p a (g y)) a).2<=1025
  |[],a,h=>⟨Int.le_refl _,h⟩
  |y::r,a,h=>by
   have h0:=hg y
   have:=e3r hg r (b2p a (g y)) (by simp only[b2p];omega)
   simp only[List.foldl_cons]
   simp only[b2p]at this⊢
   omega
theorem e2v {g:S->Int×Int} (hg:∀ y,0<=(g y).2):∀ (l:List S) (a:Int×Int),a.2<=1025->a.2<=(l.foldl (fun a y=>b2n a (g y)) a).2/\(l.foldl (fun a y=>b2n a (g y)) a).2<=1025
  |[],a,h=>⟨Int.le_refl _,h⟩
  |y::r,a,h=>by
   have h0:=hg y
   have:=e2v hg r (b2n a (g y)) (by simp only[b2n];omega)
   simp only[List.foldl_cons]
   simp only[b2n]at this⊢
   omega
theorem c0f {v:Int×Int} (h:1025<=v.2):tgt v=(1025,0):=by unfold tgt;rw[if_neg om]
theorem c1u {v:Int×Int} (h:v.2<=1024):tgt v=(v.2,min v.1 65):=by unfold tgt;rw[if_pos h]
end Go.Vm.Ip
namespace Go.Vm.Ip
open Go.Vm.Lex (a3c)
def g4n (v:Int×Int):Bool:=decide (1024 < v.1)||decide (64 < v.2)
end Go.Vm.Ip
namespace Go.Vm.Ip
open Go.Vm.Lex (a3c)
theorem g5c (v:Int×Int):g4n (tgt v)=d3b v:=by
 rw[Bool.eq_iff_iff]
 unfold g4n d3b tgt
 by_cases h:v.2<=1024
 ·rw[if_pos h]
  simp only[Bool.or_eq_true,decide_eq_true_eq]
  omega
 ·rw[if_neg h]
  simp only[Bool.or_eq_true,decide_eq_true_eq]
  omega
theorem e3c {l:List Nam} (hn:(l.map Nam.n).Nodup) {y:Nam} (hy:y∈l):nam l y.n=y:=by
 have hk:known (l.map Nam.n) y.n=true:=a7n.2 (List.mem_map.2 ⟨y,hy,rfl⟩)
 obtain⟨h1,h2⟩:=d8v hk
 clear hk
 induction l with
 |nil=>cases hy
 |cons a r ih=>
  rw[List.map_cons,List.nodup_cons]at hn
  have e:nam (a::r) y.n=if a.n=y.n then a else nam r y.n:=by
   unfold nam
   rw[List.map_cons]
   unfold pos
   rw[List.findIdx?_cons]
   by_cases c:a.n=y.n
   ·rw[if_pos c,show(a.n==y.n)=true by simp[c]];rfl
   ·rw[if_neg c,show(a.n==y.n)=false by simp[c]]
    simp only[Bool.false_eq_true,if_false]
    cases List.findIdx? (fun x=>x==y.n) (r.map Nam.n)with
    |none=>rfl
    |some i=>rfl
  rw[e]at h1 h2⊢
  by_cases c:a.n=y.n
  ·rw[if_pos c]
   rcases List.mem_cons.1 hy with q|q
   ·exact q.symm
   ·exact absurd (List.mem_map.2 ⟨y,q,c.symm⟩) hn.1
  ·rw[if_neg c]at h1 h2⊢
   have hyr:y∈r:=by
    rcases List.mem_cons.1 hy with q|q
    ·exact absurd (congrArg Nam.n q).symm c
    ·exact q
   have hk:known (r.map Nam.n) y.n=true:=a7n.2 (List.mem_map.2 ⟨y,hyr,rfl⟩)
   obtain⟨a1,a2⟩:=d8v hk
   exact ih hn.2 hyr a1 a2
theorem i1k {x:Its} (hn:(nS x).Nodup) {y:Nam} (hy:y∈x.ss):flM x y.n=y.fs/\enB x y.n=false:=by
 have hk:known (nS x) y.n=true:=a7n.2 (List.mem_map.2 ⟨y,hy,rfl⟩)
 unfold flM enB
 rw[hk,if_pos rfl,e3c hn hy];exact⟨rfl,rfl⟩
theorem h9i {x:Its} (hn:(nE x).Nodup) (hd:∀ s∈nE x,s∉nS x) {y:Nam} (hy:y∈x.es):flM x y.n=y.fs/\enB x y.n=true:=by
 have hm:y.n∈nE x:=List.mem_map.2 ⟨y,hy,rfl⟩
 have hk:known (nE x) y.n=true:=a7n.2 hm
 have hk2:known (nS x) y.n=false:=by
  cases c:known (nS x) y.n with
  |false=>rfl
  |true=>exact absurd (a7n.1 c) (hd _ hm)
 unfold flM enB
 rw[hk,hk2,e3c hn hy];exact⟨rfl,rfl⟩
end Go.Vm.Ip



namespace Go.Vm.Ip
open Go Go.Vm
abbrev sf (P:Program) (t:Nat):Option (List Nat):=match P.underlying t with|some (.struct fs)=>some (fs.toList.map (·.type))|_=>none
structure Tys where
 it:Nat
 ss:Nat
 es:Nat
 fs:Nat
 s:Nat
 e:Nat
 f:Nat
 n:Nat
 fl:Nat
 fd:Nat
 bs:Nat
 b:Nat
 i:Nat
structure i0h (P:Program) (t:Tys):Prop where
 it:sf P t.it=some [t.ss,t.es,t.fs]
 ss:P.underlying t.ss=some (.slice t.s)/\P.bytesOf t.s=40
 es:P.underlying t.es=some (.slice t.e)/\P.bytesOf t.e=40
 fs:P.underlying t.fs=some (.slice t.f)/\P.bytesOf t.f=88
 s:sf P t.s=some [t.n,t.fl]
 e:sf P t.e=some [t.n,t.fl]
 f:sf P t.f=some [t.n,t.fl,t.bs,t.n,t.i]
 n:P.underlying t.n=some .string
 fl:P.underlying t.fl=some (.slice t.fd)/\P.bytesOf t.fd=32
 fd:sf P t.fd=some [t.n,t.n]
 bs:P.underlying t.bs=some (.slice t.b)/\P.bytesOf t.b=1
 b:P.underlying t.b=some .bool
 i:P.underlying t.i=some (.int .i64)
theorem rb:reachBytes=140737488351232:=by decide
end Go.Vm.Ip
namespace Go.Vm
def c4s (a:List V) (h:Hp):Option (V×Hp):=match a with
 |[.d (.sl l)]=>if roomy l.length 32/\l.all (fun x=>x.cells.length==2)=true then some (.d (.sl l),h) else none
 |_=>none
end Go.Vm
namespace Go.Vm
open Go.ChangeMaps (setBlock)
section
variable {P:Program} {cx:Cx} {g:Gh} {H:Hp} {w:World}
theorem Inv.h5h {w':World} (hI:Inv cx g H w) (hs:w.heap.size<=w'.heap.size) (hh:∀ b,((∃ i c,g.J i=some (b,c))\/g.C b≠[]\/cx.fx b≠none)->w'.heap[b]? =w.heap[b]?):Inv cx g H w':=by
 refine⟨hI.inj,fun i b c h=>⟨(hI.dom i b c h).1,Nat.lt_of_lt_of_le (hI.dom i b c h).2 hs⟩,fun i b c o h ho=>?_,fun b hb=>?_,hI.und,hI.glob,fun i o hi=>?_⟩
 ·exact(hI.ob i b c o h ho).ext (Keep.refl H.length g H).w (hh b (.inl ⟨i,c,h⟩)) rfl (by rintro c' rfl;exact hI.und i c' (hI.dom i b c h).1 ho)
 ·rw[hh b (.inr (.inl hb))];exact hI.imm b hb
 ·obtain⟨h1,h2⟩:=hI.fix i o hi
  exact⟨by rw[hh i (.inr (.inr (by rw[hi];simp)))];exact h1,h2⟩
theorem Ext.h5h {nb:Nat} {g':Gh} {H':Hp} {w' w2:World} (h:Ext nb g H w g' H' w') (h1:w2.os=w'.os) (h2:w2.tape=w'.tape) (h3:w2.output=w'.output) (h4:w'.heap.size<=w2.heap.size) (h5:∀ b,b < w.heap.size->w2.heap[b]? =w'.heap[b]?):Ext nb g H w g' H' w2:=
 ⟨h1.trans h.os,h2.trans h.tape,h3.trans h.output,Nat.le_trans h.size h4,fun b hb hj=>⟨(h5 b hb).trans (h.frame b hb hj).1,(h.frame b hb hj).2⟩,h.keep,h.jnew,h.clean,h.len⟩
theorem g2a {ops:Array Oper} {i:Nat} {op:Op} {dst:Option Nat} (h:(ops[i]?).map (fun o=>(o.op,o.dst,o.guard))=some (op,dst,none)) {Q:Exit->Act->World->Prop} {K:Act->World->Prop} {a:Act} {w':World} {x:Value} (hrun:∀ o:Oper,o.op=op->(execOp a.eval o).run P w= .ok (.value x) w') (hk:K (a.put dst x) w'):wpOp P ops Q i K a w:=by
  obtain⟨o,ho,he⟩:=Option.map_eq_some_iff.1 h
  simp only[Prod.mk.injEq]at he
  obtain⟨e1,e2,e3⟩:=he
  unfold wpOp
  simp only[ho]
  rw[if_pos (by simp[Region.wanted,e3])]
  refine .inl ?_
  unfold Oper.wp
  rw[hrun o e1,Oper.upon_value,e2]
  exact hk
theorem g8j:List.range 2=[0,1]:=rfl
theorem g9i:List.range 3=[0,1,2]:=rfl
theorem d1r (k:Nat) (v:V) (e:Env):a1n ((k,v)::e) k=v:=by simp[a1n]
theorem b3v {k i:Nat} (h:k≠i) (v:V) (e:Env):a1n ((k,v)::e) i=a1n e i:=by simp[a1n,h]
theorem e3o (a:Act) (t:Nat):a.eval (.tmp t)=a.tmps.getD t Go.undef:=rfl
theorem c2b {a:Act} {t:Nat} {o:Oper} (h:o.op= .move (.tmp t)):(execOp a.eval o).run P w= .ok (.value (a.tmps.getD t Go.undef)) w:=by simp[execOp,h,Act.eval]
theorem c7n {a:Act} {t:Nat} {o:Oper} (h:o.op= .assign (.tmp t)):(execOp a.eval o).run P w= .ok (.value (a.tmps.getD t Go.undef)) w:=by simp[execOp,h,Act.eval]
theorem e3k {a:Act} {t i:Nat} {o:Oper} {cs:Array Value} {y:Value} (h:o.op= .extract (.tmp t) i) (hv:a.tmps.getD t Go.undef= .tuple cs) (hy:cs[i]? =some y):(execOp a.eval o).run P w= .ok (.value y) w:=by
 simp[execOp,h,Act.eval,hv,Instr.extract,hy]
theorem c9p {pg:Pg} (hT:c2e P pg) (hmx:P.follows .mixedOrders=true) {A:Ann} {N:Nat} (c:Code) (v:a0r) (ht:tr P A c=some v) (hN:v.okN N=true) {s:St} {a:Act} {x:Ex} {s':St} (h:ev pg v s=some (x,s')) (ok:a2e pg.toCx N g s a w)
 {Q:Exit->Act->World->Prop} (hq:∀ g' a' w',a2e pg.toCx N g' s' a' w'->Ext s.b g s.h w g' s'.h w'->Q x.out a' w'):c.wp P Q a w:=by
 obtain⟨n,hn⟩:=e0m h
 obtain⟨hS,hL⟩:=c9l hT hmx n
 exact c0n hS hmx hL c v ht hN hn ok hq
theorem d9r {f:Nat} {fn:Func} {c:Code} {rs:List d3k} {N:Nat} (hf:P.funcs[f]? =some fn) (hb:fn.body=some c) (hname:(fn.name== "runtime.NumGoroutine")=false) (hres:b9l P fn.results.toList=some rs) (hrs:rs.all (e6w N)=true) (hnt:N=fn.ntmps) {args:List V} (hl:args.length<=N) (hu:a1e 0 args=true) {r:V} (hr0:r.und 0=true)
 (hwp:∀ g w a,a2e cx N g ⟨a2b args,[],0⟩ a w->c.wp P (fun x a' w'=>(x= .normal\/x= .ret)/\∃ g' s' vs,a2e cx N g' s' a' w'/\Ext 0 g [] w g' s'.h w'/\a8h s'.e s'.h rs=some vs/\a1e 0 (vs.map (toArg s'.h))=true/\oneOf (vs.map (toArg s'.h))=r) a w) (H:Hp):a8a P cx f args H r H:=by
 refine⟨⟨fn,hf,by rw[hb];rfl,hname⟩,fun g w cargs hI ra ua=>?_⟩
 have hI0:Inv cx (g.cut 0) [] w:=by
  have:=hI.restrict (n:=0) (Nat.zero_le _) (fun i c hi=>om)
  simpa using this
 have ra0:a1c (g.cut 0) [] args cargs.toList:=by
  have:=a7t g H 0
  rw[List.take_zero]at this
  exact a5s this _ _ hu ra
 refine calls_of_wp hf hb ?_
 have ok0:a2e cx N (g.cut 0) ⟨a2b args,[],0⟩ {tmps:=cargs++Array.replicate (fn.ntmps - cargs.size) Go.undef,defers:=[]} w:=
  ⟨hI0,by rw[<-hnt];exact c2o ra0 hu hl,rfl,Nat.le_refl _⟩
 refine wp_mono (hwp _ _ _ ok0) fun x a1 w1 hx=>?_
 obtain⟨hxx,g1,s,vs,ok1,e1,hvs,hu2,hone⟩:=hx
 have goal:a1.defers=[]/\∃ v,(results fn a1.tmps).run P w1= .ok v w1/\∃ g' x,Ending.returned v= .returned x/\Inv cx g' H w1/\Rep g' H r x/\r.und H.length=true/\Ext H.length g H w g' H w1:=by
  refine⟨ok1.defers,?_⟩
  obtain⟨ys,y1,y2,y3⟩:=b1z (P:=P) (fn:=fn) ok1.inv ok1.env hres hrs hvs
  refine⟨_,y1,?_⟩
  have hlen:([]:Hp).length<=s.h.length:=e1.len
  have hc:=e1.clean 0 (Nat.le_refl _) hI0.und
  have ra':=b0y ok1.inv y2
  have ra2:=a5s (a7t g1 s.h 0) _ _ hu2 ra'
  have hinv:=ok1.inv.restrict (n:=0) (Nat.zero_le _) hc
  have hext:=e1.cut (n:=0) rfl (Nat.le_refl _)
  rw[List.take_zero]at ra2 hinv hext
  obtain⟨q1,q2⟩:=e2j (g':=g1.cut 0) hI hinv hext
  refine⟨⟨g.J,(g1.cut 0).C⟩,_,rfl,q1,?_,V.b1h (Nat.zero_le _) _ hr0,q2⟩
  have h3:=c6a ra2
  rw[hone]at h3
  exact a4p (n:=0) (g:=g1.cut 0) (H:=[]) (g':=⟨g.J,(g1.cut 0).C⟩) (H':=H) ⟨fun _=>List.prefix_refl _,fun i _ hi=>om,fun i _ _ hi=>om⟩ _ _ hr0 h3
 rcases hxx with rfl|rfl<;>exact goal
end
end Go.Vm
namespace Go.Vm
section
variable {P:Program} {cx:Cx} {g:Gh} {H:Hp} {w:World}
inductive Loose (cx:Cx) (g:Gh) (w:World) (n sz:Nat):Value->Nat->List Value->Prop
 |nil:Loose cx g w n sz (.slice none 0 0) 0 []
 |at(b cap:Nat) (cur:Array Value) (e:TypeId) (k:Nat) (us:List Value):w.heap[b]? =some (.cells cur e (0,0))->us <+:cur.toList->us.length=k*sz->k<=cap->cur.size=cap*sz->cap<=maxLen->(∀ k c,g.J k≠some (b,c))->g.C b=[]->cx.fx b=none->n<=b->Loose cx g w n sz (.slice (some ⟨b,0,none⟩) k cap) k us
theorem Loose.ext {n nb sz k:Nat} {x:Value} {us:List Value} {g':Gh} {H':Hp} {w':World} (h:Loose cx g w n sz x k us) (e:Ext nb g H w g' H' w'):Loose cx g' w' n sz x k us:=by
 cases h with
 |nil=>exact .nil
 |«at» b cap cur e0 k us h1 h2 hk0 h3 h4 h5 h6 h7 h8 h9=>
  have hlt:=(Array.getElem?_eq_some_iff.1 h1).1
  obtain⟨f1,f2⟩:=e.frame b hlt h6
  refine .at b cap cur e0 k us (f1.trans h1) h2 hk0 h3 h4 h5 (fun k c hk=>?_) (f2.trans h7) h8 h9
  obtain⟨k',c',hk'⟩:=e.jnew k b c hk hlt
  exact h6 k' c' hk'
theorem Loose.cut {n m sz k:Nat} {x:Value} {us:List Value} (h:Loose cx g w n sz x k us):Loose cx (g.cut m) w n sz x k us:=by
 cases h with
 |nil=>exact .nil
 |«at» b cap cur e0 k us h1 h2 hk0 h3 h4 h5 h6 h7 h8 h9=>exact .at b cap cur e0 k us h1 h2 hk0 h3 h4 h5 (fun k c hk=>h6 k c (a5e hk).2) h7 h8 h9
theorem Loose.len {n sz k:Nat} {x:Value} {us:List Value} (h:Loose cx g w n sz x k us):∃ a c,x= .slice a k c:=by cases h<;>exact⟨_,_,rfl⟩
theorem Loose.lens {n sz k:Nat} {x:Value} {us:List Value} (h:Loose cx g w n sz x k us):us.length=k*sz:=by
 cases h with
 |nil=>simp
 |«at» b cap cur e0 k us h1 h2 hk0=>exact hk0
theorem c3c (hI:Inv cx g H w) {b:Nat} (hb:(∃ i c,g.J i=some (b,c))\/g.C b≠[]\/cx.fx b≠none):b < w.heap.size:=by
 rcases hb with⟨k,c,h⟩|h|h
 ·exact(hI.dom k b c h).2
 ·obtain⟨cur,e,fz,h1,_⟩:=hI.imm b h
  exact(Array.getElem?_eq_some_iff.1 h1).1
 ·cases hf:cx.fx b with
  |none=>exact absurd hf h
  |some o=>exact(Array.getElem?_eq_some_iff.1 (hI.fix _ o hf).1).1
theorem e0i (hI:Inv cx g H w) {b:Nat} (hb:w.heap.size<=b):(∀ k c,g.J k≠some (b,c))/\g.C b=[]/\cx.fx b=none:=by
 refine⟨fun k c h=>?_,?_,?_⟩
 ·have:=c3c hI (.inl ⟨k,c,h⟩);omega
 ·by_cases h:g.C b=[]
  ·exact h
  ·have:=c3c hI (.inr (.inl h));omega
 ·by_cases h:cx.fx b=none
  ·exact h
  ·have:=c3c hI (.inr (.inr h));omega
def Stand (w:World) (sz:Nat) (y:Value) (m:Nat) (vs:List Value):Prop:=vs.length=m*sz/\∃ ad c,y= .slice ad m c/\(m=0\/∃ q,ad=some q/\∀ (j:Nat) u,vs[j]? =some u->w.cell? (q.add j)=some u)
theorem Loose.stand {n sz k:Nat} {x:Value} {us:List Value} (h:Loose cx g w n sz x k us):Stand w sz x k us:=by
 refine⟨h.lens,?_⟩
 cases h with
 |nil=>exact⟨_,_,rfl,.inl rfl⟩
 |«at» b cap cur e0 k us h1 h2 hk0 h3 h4 h5 h6 h7 h8 h9=>
  refine⟨_,_,rfl,.inr ⟨_,rfl,fun j u hj=>?_⟩⟩
  rw[c5v h1 j]
  have:=a2u h2 hj
  simpa using this
theorem e6c (hI:Inv cx g H w) {sz:Nat} {l:List D} {y:Value} (r:a3e g.C (.sl l) y) (hall:l.all (fun y=>y.cells.length==sz)=true):∃ vs,Stand w sz y l.length vs/\a1z g.C sz l vs:=by
  obtain⟨ad,cap,hx,_,_⟩:=b1v r
  by_cases hl:l=[]
  ·subst hl
   exact⟨[],⟨by simp,ad,cap,by rw[hx],.inl rfl⟩,by simp[a1z]⟩
  ·obtain⟨q,us,h1,h2,h3,h4⟩:=d9g (sz:=sz) hI hl (hx ▸ r) hall
   exact⟨us,⟨a3g h3,ad,cap,by rw[hx],.inr ⟨q,h1,h4⟩⟩,h3⟩
theorem e8m (hI:Inv cx g H w) {t e ty:TypeId} (ht:P.underlying t=some (.slice e)) {i:TypeInfo} (hi:P.info? e=some i) {z:Value} (hz:i.zero=some z) (hzs:z.cells.size=i.size) {n:Nat} {x:Value} {k m:Nat} {us:List Value} (hx:Loose cx g w n i.size x k us) (hn:n<=w.heap.size) {y:Value} {vs:List Value} (hy:Stand w i.size y m vs) (h1:∀ u∈vs,u.oneCell'=true) (hroom:roomy (k+m) i.bytes):
 ∃ x' w',(Builtin.append_ #[t,t] ty #[x,y]).run P w= .ok x' w'/\Loose cx g w' n i.size x' (k+m) (us++vs)/\Inv cx g H w'/\w'.os=w.os/\w'.tape=w.tape/\w'.output=w.output/\w.heap.size<=w'.heap.size/\∀ b,b < n->w'.heap[b]? =w.heap[b]? :=by
 obtain⟨hvl,ad,c,rfl,hst⟩:=hy
 by_cases hv:m=0
 ·subst hv
  have:vs=[]:=List.eq_nil_of_length_eq_zero om
  subst this
  rw[List.append_nil,Nat.add_zero]
  cases hx with
  |nil=>exact⟨_,w,a6i t ty e i ht hi none 0 0 ad c (Nat.le_refl _) (by simp),.nil,hI,rfl,rfl,rfl,Nat.le_refl _,fun _ _=>rfl⟩
  |«at» b cap cur e0 k us a1 a2 ak a3 a4 a5 a6 a7 a8 a9=>
   exact⟨_,w,a6i t ty e i ht hi _ _ cap ad c a3 (by simp),.at b cap cur e0 k us a1 a2 ak a3 a4 a5 a6 a7 a8 a9,hI,rfl,rfl,rfl,Nat.le_refl _,fun _ _=>rfl⟩
 obtain⟨q,rfl,hnews⟩:=hst.resolve_left hv
 obtain⟨r1,r2⟩:=hroom
 have hlenl:(us++vs).length=(k+m) *i.size:=by rw[List.length_append,hx.lens,hvl,Nat.add_mul]
 have fresh:∀ (cs:Array Value) (cap:Nat),(us++vs) <+:cs.toList->k+m<=cap->cs.size=cap*i.size->cap<=maxLen->Loose cx g (w.drew.alloc (.cells cs e)) n i.size (.slice (some ⟨w.heap.size,0,none⟩) (k+m) cap) (k+m) (us++vs)/\Inv cx g H (w.drew.alloc (.cells cs e)):=by
  intro cs cap p1 p2 p3 p4
  obtain⟨q1,q2,q3⟩:=e0i hI (Nat.le_refl _)
  refine⟨.at _ cap cs e _ _ (heap_alloc_new w.drew _) p1 hlenl p2 p3 p4 q1 q2 q3 hn,hI.h5h (by simp) fun b hb=>heap_alloc_old w.drew _ (c3c hI hb)⟩
 cases hx with
 |nil=>
  simp only[Nat.zero_add]at r1 r2 fresh⊢
  have hrun:=run_append_nil (P:=P) w t ty e i z ht hi hz q m c vs hvl hnews om om om
  refine⟨_,_,hrun,?_⟩
  have hge:=grownCap_ge w m 0 e
  obtain⟨f1,f2⟩:=fresh (vs.toArray++Builtin.zeroCells z.cells (grownCap w m 0 e - m)) (grownCap w m 0 e) (by simp) hge (by simp[size_zeroCells,hzs,hvl,<-Nat.add_mul];congr 1;omega) (grownCap_le_maxLen _ _ _ _ (by simp[maxLen];omega))
  exact⟨f1,f2,rfl,rfl,rfl,by simp,fun b hb=>heap_alloc_old w.drew _ (by show b < w.heap.size;omega)⟩
 |«at» b cap cur e0 k us a1 a2 ak a3 a4 a5 a6 a7 a8 a9=>
  by_cases hin:k+m<=cap
  ·have hmul:k*i.size+vs.length<=cur.size:=by rw[hvl,a4,<-Nat.add_mul];exact Nat.mul_le_mul_right _ hin
   have hrun:=b3l (P:=P) t ty e i ht hi b k cap cur e0 a1 q m c vs hvl hnews h1 hin hmul
   refine⟨_,_,hrun,?_⟩
   have htk:cur.toList.take (k*i.size)=us:=by rw[<-ak];exact(List.prefix_iff_eq_take.1 a2).symm
   have hb:∀ b',b'≠b->(w.setRow b (cur.toList.take (k*i.size)++vs++cur.toList.drop (k*i.size+vs.length)).toArray).heap[b']? =w.heap[b']? :=fun b' hb'=>setRow_other w b b' _ hb'
   refine⟨?_,hI.h5h (by simp) fun b' hb'=>hb b' (fun e=>by
     subst e
     rcases hb' with⟨k,c,h⟩|h|h
     ·exact a6 k c h
     ·exact h a7
     ·exact h a8),rfl,rfl,rfl,by simp,fun b' hb'=>hb b' om⟩
   refine .at b cap _ e0 _ _ (setRow_heap w b cur _ e0 (0,0) a1) ?_ hlenl hin ?_ a5 a6 a7 a8 a9
   ·rw[htk];exact List.prefix_append _ _
   ·simp only[List.size_toArray,List.length_append,List.length_take,List.length_drop,Array.length_toList];omega
  ·have holds:∀ (j:Nat) u,us[j]? =some u->w.cell? ((⟨b,0,none⟩:Addr).add j)=some u:=by
    intro j u hj
    rw[c5v a1 j]
    have:=a2u a2 hj
    simpa using this
   have hrun:=run_append_grow (P:=P) w t ty e i z ht hi hz ⟨b,0,none⟩ k cap us ak holds q m c vs hvl hnews om om (growslice_fits om om)
   refine⟨_,_,hrun,?_⟩
   have hge:=grownCap_ge w (k+m) cap e
   obtain⟨f1,f2⟩:=fresh (us.toArray++vs.toArray++Builtin.zeroCells z.cells (grownCap w (k+m) cap e - (k+m))) (grownCap w (k+m) cap e) (by simp) hge (by simp[size_zeroCells,hzs,hvl,ak,<-Nat.add_mul];congr 1;omega) (grownCap_le_maxLen _ _ _ _ (by simp[maxLen];omega))
   exact⟨f1,f2,rfl,rfl,rfl,by simp,fun b' hb=>heap_alloc_old w.drew _ (by show b' < w.heap.size;omega)⟩
theorem d1y {orc:Orc} (hS:c0s P cx orc) {N:Nat} {ops:Array Oper} {rest:List Nat}:∀ (l:List Oper) (i:Nat) (vs:List a0e),(∀ k,k < l.length->ops[i+k]? =l[k]?)->a1m P ops l=some vs->vs.all (a0e.okN N)=true->∀ {g:Gh} {w:World} {s s':St},a0o cx orc vs s=some s'->∀ {a:Act},a2e cx N g s a w->
 ∀ {Q:Exit->Act->World->Prop},(∀ g' a' w',a2e cx N g' s' a' w'->Ext s.b g s.h w g' s'.h w'->wpOps P ops Q rest a' w')->wpOps P ops Q (List.range' i l.length++rest) a w
 |[],i,vs,_,ht,_,g,w,s,s',h,a,ok,Q,hq=>by
  simp only[a1m,Option.some.injEq]at ht
  subst ht
  simp only[a0o,Option.some.injEq]at h
  subst h
  exact hq g a w ok (Ext.refl ..)
 |co::l,i,vs,hl,ht,hok,g,w,s,s',h,a,ok,Q,hq=>by
  simp only[a1m]at ht
  split at ht
  ·rename_i v vs' hv hvs
   simp only[Option.some.injEq]at ht
   subst ht
   simp only[List.all_cons,Bool.and_eq_true]at hok
   simp only[a0o]at h
   cases h1:a0d cx orc v s with
   |none=>rw[h1]at h;cases h
   |some s1=>
    rw[h1]at h
    simp only[Option.bind_some]at h
    have hi:ops[i]? =some co:=by
     have:=hl 0 (by simp)
     simpa using this
    have hl':∀ k,k < l.length->ops[i+1+k]? =l[k]? :=fun k hk=>by
      have:=hl (k+1) (by simpa using hk)
      rw[show i+(k+1)=i+1+k by omega]at this
      simpa using this
    simp only[List.length_cons,List.range'_succ,List.cons_append]
    rw[wpOps_cons]
    refine a6x hS hi hv hok.1 h1 ok fun g' x w' ok' ext'=>?_
    have hb:=a3o h1
    refine d1y hS l (i+1) vs' hl' hvs hok.2 h ok' fun g2 a2 w2 ok2 ext2=>?_
    exact hq g2 a2 w2 ok2 (ext'.trans ext2 om)
  ·cases ht
theorem b6m {c:Code} {Q:Exit->Act->World->Prop} (I:Nat->Act->World->Prop) (step:∀ k a w,I k a w->c.wp P (Exit.then (fun a' w'=> ∃ k',k' < k/\I k' a' w') Q) a w) {k:Nat} {a:Act} (h:I k a w):(Code.loop c).wp P Q a w:=by
  have key:∀ n k a w,k < n->I k a w->Code.rounds P c Q n a w:=by
   intro n
   induction n with
   |zero=>intro k a w hk;omega
   |succ n ih=>
    intro k a w hk hI
    rw[rounds_succ]
    refine wp_mono (step k a w hI) fun e a' w' he=>?_
    cases e with
    |normal=>
     obtain⟨k',hk',hI'⟩:=he
     exact ih k' a' w' om hI'
    |_=>exact he
  exact wp_loop_rounds (k+1) (key (k+1) k a w om h)
theorem Loose.freeze (hI:Inv cx g H w) {n sz k:Nat} {x:Value} {us:List Value} (h:Loose cx g w n sz x k us) {l:List D} (hl:a1z g.C sz l us) (hk:l.length=k) (hsz:0 < sz):
 ∃ g':Gh,g'.J=g.J/\(∀ b,g.C b <+:g'.C b)/\(∀ b,b < n->g'.C b=g.C b)/\Inv cx g' H w/\a3e g'.C (.sl l) x:=by
 cases h with
 |nil=>
  have:l=[]:=List.eq_nil_of_length_eq_zero hk
  subst this
  refine⟨g,rfl,fun _=>List.prefix_refl _,fun _ _=>rfl,hI,?_⟩
  simp only[a3e,a0v]
  exact⟨_,_,rfl,Nat.le_refl _,by simp⟩
 |«at» b cap cur e k us h1 h2 hk0 h3 h4 h5 h6 h7 h8 h9=>
  obtain⟨C',hC'⟩:∃ C':Nat->List Value,C'=fun i=>if i=b then us else g.C i:=⟨_,rfl⟩
  have hb:C' b=us:=by rw[hC'];exact if_pos rfl
  have ho:∀ i,i≠b->C' i=g.C i:=fun i hi=>by rw[hC'];exact if_neg hi
  have hC:∀ i,g.C i <+:C' i:=fun i=>by
    by_cases hi:i=b
    ·subst hi;rw[h7];exact List.nil_prefix
    ·rw[ho i hi];exact List.prefix_refl _
  have hkeep:c2g H.length g H ⟨g.J,C'⟩ H:=⟨hC,fun i o _ hio hr=>⟨fun p hp=>hp,o,hio,hr⟩,fun i sz l _ hio=>⟨l,hio,List.prefix_refl _,fun _ p hp=>hp⟩⟩
  refine⟨⟨g.J,C'⟩,rfl,hC,fun i hi=>ho i om,⟨hI.inj,hI.dom,fun i b' c o hj hio=>?_,fun i hi=>?_,hI.und,fun i=>?_,hI.fix⟩,?_⟩
  ·exact(hI.ob i b' c o hj hio).ext hkeep rfl (ho b' (fun e=>h6 i c (by rw[<-e];exact hj))) (by rintro c' rfl;exact hI.und i c' (hI.dom i b' c hj).1 hio)
  ·by_cases hib:i=b
   ·subst hib
    exact⟨cur,e,(0,0),h1,by show C' i <+:_;rw[hb];exact h2⟩
   ·have hi':g.C i≠[]:=by rw[<-ho i hib];exact hi
    obtain⟨cur',e',fz,q1,q2⟩:=hI.imm i hi'
    exact⟨cur',e',fz,q1,by show C' i <+:_;rw[ho i hib];exact q2⟩
  ·obtain⟨vs,q1,q2⟩:=hI.glob i
   exact⟨vs,q1.trans (hC i),a3b hC _ _ q2⟩
  ·simp only[a3e,a0v]
   refine⟨_,_,by rw[hk],om,.inr ⟨b,0,sz,us,rfl,hsz,?_,a5t hC sz l us hl⟩⟩
   rw[List.drop_zero,hb];exact List.prefix_refl _
end
end Go.Vm
namespace Go.Vm
@[simp] theorem h6f (a b:V) (h:Hp):f0k (.d (.bool true)) a b h=some (a,h):=rfl
@[simp] theorem h5b (a b:V) (h:Hp):f0k (.d (.bool false)) a b h=some (b,h):=rfl
theorem e2e:∀ l:List D,b4x (l.map V.d)=some l
 |[]=>rfl
 |x::l=>by simp[b4x,e2e l]
@[simp] theorem d6t (l:List D):a9v (l.map V.d)= .d (.agg l):=by simp only[a9v,e2e]
@[simp] theorem h0v (n off:Nat) (l:List D):a6b (some n) (l.map V.d) off=if off+n<=l.length then some (.d (.agg ((l.drop off).take n))) else none:=by
 simp only[a6b,List.length_map]
 rw[<-List.map_drop,<-List.map_take,d6t]
@[simp] theorem g6d (off:Nat) (l:List D):a6b none (l.map V.d) off=(l[off]?).map V.d:=by simp[a6b]
theorem e8o (off:Nat) (l:List V):a6b none l off=l[off]? :=rfl
theorem e6i (n off:Nat) (l:List V):a6b (some n) l off=if off+n<=l.length then some (a9v ((l.drop off).take n)) else none:=rfl
def e3s (o:Option Ob) (n:Option Nat) (off:Nat):Option V:=match o with
 |some (.box c)=>a6b n c off
 |some (.frz c)=>a6b n (c.map V.d) off
 |_=>none
@[simp] theorem e5m (c:List V) (n:Option Nat) (off:Nat):e3s (some (.box c)) n off=a6b n c off:=rfl
@[simp] theorem e4t (c:List D) (n:Option Nat) (off:Nat):e3s (some (.frz c)) n off=a6b n (c.map V.d) off:=rfl
@[simp] theorem d3n (H:Hp) (n:Option Nat) (id off:Nat):b7i H n (.ptr id off)=e3s H[id]? n off:=by
 simp only[b7i,a9q,e3s]
 cases H[id]? with
 |none=>rfl
 |some o=>cases o<;>rfl
@[simp] theorem h5u (H:Hp) (n:Option Nat) (l:List D) (off:Nat):b7i H n (.ro l off)=a6b n (l.map V.d) off:=rfl
def e9j (b:Nat) (H:Hp) (n id off:Nat) (x:V) (o:Option Ob):Option Hp:=match o with
 |some (.box c)=>if x.cells.length=n/\off+n<=c.length/\x.cells.all V.one/\(a1e id x.cells||decide (b<=id)||b0q c off x.cells) then some (H.set id (.box (putAt c off x.cells))) else none
 |_=>none
@[simp] theorem g1z (b:Nat) (H:Hp) (n id off:Nat) (x:V) (c:List V):e9j b H n id off x (some (.box c))=if x.cells.length=n/\off+n<=c.length/\x.cells.all V.one/\(a1e id x.cells||decide (b<=id)||b0q c off x.cells) then some (H.set id (.box (putAt c off x.cells))) else none:=rfl
@[simp] theorem g5u (b:Nat) (H:Hp) (n id off:Nat) (x:V):c1k b H n (.ptr id off) x=e9j b H n id off x H[id]? :=rfl
@[simp] theorem h6q:b4x []=some []:=rfl
@[simp] theorem h2w (x:D) (l:List V):b4x (.d x::l)=(b4x l).map (x:: ·):=rfl
def g4w (o:Option (List D)) (l:List V):V:=match o with|some ds=> .d (.agg ds)|none=> .agg l
@[simp] theorem g6c (ds:List D) (l:List V):g4w (some ds) l= .d (.agg ds):=rfl
@[simp] theorem g5g (l:List V):g4w none l= .agg l:=rfl
@[simp] theorem h7o:a9v []= .d (.agg []):=rfl
@[simp] theorem h9q (x:V) (l:List V):a9v (x::l)=g4w (b4x (x::l)) (x::l):=rfl
@[simp] theorem h4w (i o:Nat) (l:List V):b4x (.ptr i o::l)=none:=rfl
@[simp] theorem h4b (i o:Nat) (l:List V):b4x (.row i o::l)=none:=rfl
@[simp] theorem g9o (l:List V):b4x (.nils::l)=none:=rfl
@[simp] theorem h5r (l:List V):b4x (.nul::l)=none:=rfl
@[simp] theorem h7n (f:Nat) (c l:List V):b4x (.fn f c::l)=none:=rfl
attribute [simp] e8n boxV
@[simp] theorem g9c (c:List V) (n:Nat):putAt c n []=c:=by cases c<;>cases n<;>rfl
@[simp] theorem g5t (c v:V) (cs vs:List V):putAt (c::cs) 0 (v::vs)=v::putAt cs 0 vs:=rfl
@[simp] theorem g6b (c v:V) (cs vs:List V) (n:Nat):putAt (c::cs) (n+1) (v::vs)=c::putAt cs n (v::vs):=rfl
@[simp] theorem e6k:∀ (c v:List V),v.length=c.length->putAt c 0 v=v
 |[],[],_=>rfl
 |[],_::_,h=>by simp at h
 |_::_,[],h=>by simp at h
 |c::cs,v::vs,h=>by simp[e6k cs vs (by simpa using h)]
@[simp] theorem h3o (n:Nat):a5w n []=true:=rfl
@[simp] theorem h0x (n:Nat) (c:List V) (l:Hp):a5w n (.box c::l)=(a1e n c && a5w n l):=rfl
@[simp] theorem g8i (n:Nat) (c:List D) (l:Hp):a5w n (.frz c::l)=a5w n l:=rfl
@[simp] theorem h3p (n z:Nat) (c:List D) (l:Hp):a5w n (.row z c::l)=a5w n l:=rfl
open Classical in
noncomputable def pre (h h':Hp):Bool:=decide (∃ l,h'=h++l)
@[simp] theorem pre_nil (h:Hp):pre [] h=true:=by simp[pre]
@[simp] theorem h3u (h:Hp):pre h h=true:=by simp[pre]
@[simp] theorem h8r (h l:Hp):pre h (h++l)=true:=by simp[pre]
@[simp] theorem h5x (o:Ob) (h h':Hp):pre (o::h) (o::h')=pre h h':=by simp[pre]
@[simp] theorem h6p (h l l':Hp):pre (h++l) (h++l')=pre l l':=by simp[pre]
theorem g0h (h h':Hp):grew h h'=(pre h h' && a5w h'.length (h'.drop h.length)):=rfl
@[simp] theorem g6e (k:IntKind) (n:Int):a4j (.d (.int k n))=if 0<=n then some n.toNat else none:=rfl
theorem e9l (v:V):oneOf [v]=v:=rfl
theorem f3n (u v:V) (l:List V):oneOf (u::v::l)= .tup (u::v::l):=rfl
@[simp] theorem f5r (n:Nat):∀ l:List D,a1e n (l.map V.d)=true
 |[]=>rfl
 |x::l=>by simp[f5r n l]
@[simp] theorem g8l (e:Env) (h:Hp):a8h e h []=some []:=rfl
def resC (v:Option V) (vs:Option (List V)):Option (List V):=match v,vs with|some v,some vs=>some (v::vs)|_,_=>none
@[simp] theorem d5l (v:V) (vs:List V):resC (some v) (some vs)=some (v::vs):=rfl
@[simp] theorem c8q (e:Env) (h:Hp) (r:d3k) (l:List d3k):a8h e h (r::l)=resC (e3d e h r) (a8h e h l):=rfl
@[simp] theorem f6j (e:Env) (h:Hp) (t:Nat):e3d e h (.tmp t)=some (a1n e t):=rfl
@[simp] theorem e7t (e:Env) (h:Hp) (t:Nat) (n:Option Nat):e3d e h (.cell t n)=b7i h n (a1n e t):=rfl
def lv (keep:Bool) (h0:Nat) (h:Hp) (r:Option (List V)):Option (V×Hp):=match r with
 |none=>none
 |some vs=>if keep then some (oneOf vs,h) else if a1e h0 (vs.map (toArg h)) then some (oneOf (vs.map (toArg h)),h.take h0) else none
@[simp] theorem g0b (h0:Nat) (h:Hp) (vs:List V):lv false h0 h (some vs)=if a1e h0 (vs.map (toArg h)) then some (oneOf (vs.map (toArg h)),h.take h0) else none:=rfl
@[simp] theorem h7q (h0:Nat) (h:Hp) (vs:List V):lv true h0 h (some vs)=some (oneOf vs,h):=rfl
@[simp] theorem f7p (vf:VFn) (h0:Nat) (s:St):leave vf h0 s=lv vf.keep h0 s.h (a8h s.e s.h vf.res):=by
 unfold leave lv
 cases a8h s.e s.h vf.res<;>rfl
attribute [simp] g0h e9l f3n e8o
attribute [simp low] e6i
@[simp] theorem g7a (l:List D) (n k:Nat):a9v (((l.map V.d).drop n).take k)= .d (.agg ((l.drop n).take k)):=by rw[<-List.map_drop,<-List.map_take,d6t]
def a7u:Nat->List V->Env
 |_,[]=>[]
 |k,v::l=>(k,v)::a7u (k+1) l
theorem c1o:∀ (l:List V) (k:Nat),a7u k l=(List.range' k l.length).map fun i=>(i,l.getD (i - k) .undef)
  |[],k=>rfl
  |v::l,k=>by
   simp only[a7u,List.length_cons,List.range'_succ,List.map_cons,Nat.sub_self,List.getD_cons_zero,List.cons.injEq,true_and]
   rw[c1o l (k+1)]
   apply List.map_congr_left
   intro i hi
   have:=List.mem_range'_1.1 hi
   rw[show i - k=(i - (k+1))+1 by omega,List.getD_cons_succ]
@[simp] theorem b1o (l:List V):a2b l=a7u 0 l:=by rw[c1o,a2b,List.range_eq_range'];rfl
@[simp] theorem f7b (k:Nat):a7u k []=[]:=rfl
@[simp] theorem f3u (k:Nat) (v:V) (l:List V):a7u k (v::l)=(k,v)::a7u (k+1) l:=rfl
def i0r (k:IntKind) (a b:Int):Int:=k.wrap (BitVec.ofInt k.bits a &&& BitVec.ofInt k.bits b).toNat
def orI (k:IntKind) (a b:Int):Int:=k.wrap (BitVec.ofInt k.bits a|||BitVec.ofInt k.bits b).toNat
def i0n (k:IntKind) (a b:Int):Int:=k.wrap (BitVec.ofInt k.bits a ^^^ BitVec.ofInt k.bits b).toNat
def i0q (k:IntKind) (a b:Int):Int:=k.wrap (BitVec.ofInt k.bits a &&& ~~~BitVec.ofInt k.bits b).toNat
def shlI (k:IntKind) (a b:Int):Int:=k.wrap (a*2 ^ (min b.toNat k.bits))
def shrI (k:IntKind) (a b:Int):Int:=a.fdiv (2 ^ (min b.toNat k.bits))
section
variable (k k':IntKind) (a b:Int)
@[simp] theorem h7b:a9p .add (.d (.int k a)) (.d (.int k b))=some (.d (.int k (k.wrap (a+b)))):=by simp[a9p]
@[simp] theorem h6j:a9p .sub (.d (.int k a)) (.d (.int k b))=some (.d (.int k (k.wrap (a - b)))):=by simp[a9p]
@[simp] theorem h6g:a9p .mul (.d (.int k a)) (.d (.int k b))=some (.d (.int k (k.wrap (a*b)))):=by simp[a9p]
@[simp] theorem h3v:a9p .quo (.d (.int k a)) (.d (.int k b))=if b=0 then none else some (.d (.int k (k.wrap (a.tdiv b)))):=by by_cases h:b=0<;>simp[a9p,h]
@[simp] theorem h4s:a9p .rem (.d (.int k a)) (.d (.int k b))=if b=0 then none else some (.d (.int k (a.tmod b))):=by by_cases h:b=0<;>simp[a9p,h]
@[simp] theorem h4q:a9p .and (.d (.int k a)) (.d (.int k b))=some (.d (.int k (i0r k a b))):=by simp[a9p,d0g,i0r]
@[simp] theorem h8o:a9p .or (.d (.int k a)) (.d (.int k b))=some (.d (.int k (orI k a b))):=by simp[a9p,d0g,orI]
@[simp] theorem h6k:a9p .xor (.d (.int k a)) (.d (.int k b))=some (.d (.int k (i0n k a b))):=by simp[a9p,d0g,i0n]
@[simp] theorem h4l:a9p .andNot (.d (.int k a)) (.d (.int k b))=some (.d (.int k (i0q k a b))):=by simp[a9p,d0g,i0q]
@[simp] theorem h5s:a9p .shl (.d (.int k a)) (.d (.int k' b))=if 0<=b then some (.d (.int k (shlI k a b))) else none:=rfl
@[simp] theorem h5d:a9p .shr (.d (.int k a)) (.d (.int k' b))=if 0<=b then some (.d (.int k (shrI k a b))) else none:=rfl
@[simp] theorem h7d:a9p .eql (.d (.int k a)) (.d (.int k b))=some (.d (.bool (decide (a=b)))):=by simp[a9p];by_cases h:a=b<;>simp[h]
@[simp] theorem h6c:a9p .neq (.d (.int k a)) (.d (.int k b))=some (.d (.bool (!decide (a=b)))):=by simp[a9p];by_cases h:a=b<;>simp[h,bne]
@[simp] theorem h6y:a9p .lss (.d (.int k a)) (.d (.int k b))=some (.d (.bool (decide (a < b)))):=by simp[a9p]
@[simp] theorem h7e:a9p .leq (.d (.int k a)) (.d (.int k b))=some (.d (.bool (decide (a<=b)))):=by simp[a9p]
@[simp] theorem h5l:a9p .gtr (.d (.int k a)) (.d (.int k b))=some (.d (.bool (decide (b < a)))):=by simp[a9p]
@[simp] theorem h4j:a9p .geq (.d (.int k a)) (.d (.int k b))=some (.d (.bool (decide (b<=a)))):=by simp[a9p]
@[simp] theorem h2f (s t:List UInt8):a9p .add (.d (.str s)) (.d (.str t))=if s.length+t.length<=9223372036854775807 then some (.d (.str (s++t))) else none:=rfl
@[simp] theorem g9v (s t:List UInt8):a9p .eql (.d (.str s)) (.d (.str t))=some (.d (.bool (decide (s=t)))):=by simp[a9p];by_cases h:s=t<;>simp[h]
@[simp] theorem g9y (s t:List UInt8):a9p .neq (.d (.str s)) (.d (.str t))=some (.d (.bool (!decide (s=t)))):=by simp[a9p];by_cases h:s=t<;>simp[h]
@[simp] theorem h9u:unV .neg (.d (.int k a))=some (.d (.int k (k.wrap (0 - a)))):=rfl
@[simp] theorem h9k (b:Bool):unV .not (.d (.bool b))=some (.d (.bool !b)):=rfl
end
end Go.Vm
namespace Go.Vm
theorem a0w {n:Int} (h: -9223372036854775808<=n/\n<=9223372036854775807):IntKind.i64.wrap n=n:=by
 simp only[IntKind.wrap,IntKind.bits,IntKind.signed];simp;omega
theorem h9d {n:Int} (h:0<=n/\n<=18446744073709551615):IntKind.u64.wrap n=n:=by
 simp only[IntKind.wrap,IntKind.bits,IntKind.signed];simp;omega
theorem u8w {n:Int} (h:0<=n/\n<=255):IntKind.u8.wrap n=n:=by
 simp only[IntKind.wrap,IntKind.bits,IntKind.signed];simp;omega
end Go.Vm
namespace Go.Vm
theorem g5q {a b:Nat} (h:a=b):Nat.beq a b=true:=by subst h;exact Nat.beq_refl a
theorem g1l {a b:Nat} (h:a≠b):Nat.beq a b=false:=by
 cases hb:Nat.beq a b with
 |false=>rfl
 |true=>exact absurd (Nat.eq_of_beq_eq_true hb) h
noncomputable def gE (e:Env):Nat->V:=List.rec (motive:=fun _=>Nat->V) (fun _=> .undef) (fun p _ ih i=>match Nat.beq p.1 i with|true=>p.2|false=>ih i) e
theorem b9h:∀ (e:Env) (i:Nat),gE e i=a1n e i
 |[],_=>rfl
 |(k,v)::r,i=>by
  show(match Nat.beq k i with|true=>v|false=>gE r i)=a1n ((k,v)::r) i
  unfold a1n
  by_cases h:k=i
  ·rw[if_pos h,g5q h]
  ·rw[if_neg h,g1l h]
   exact b9h r i
noncomputable def gO (cx:Cx) (e:Env):Opd->V
 | .t i=>gE e i
 | .c v=>v
 | .g i=> .ro (cx.gv i) 0
 | .f i=> .fn i []
theorem c4j (cx:Cx) (e:Env) (o:Opd):gO cx e o=evO cx e o:=by cases o<;>simp only[gO,evO,b9h]
section
variable {α:Type}
noncomputable def a1l (l:List α):(List α->Prop)->Prop:=List.rec (motive:=fun _=>(List α->Prop)->Prop) (fun k=>k []) (fun a _ ih k=>ih fun r'=>k (a::r')) l
theorem a0x:∀ (l:List α) (k:List α->Prop),a1l l k=k l
 |[],_=>rfl
 |a::r,k=>a0x r fun r'=>k (a::r')
noncomputable def e0k (l:List α):Nat->(Nat->Prop)->Prop:=List.rec (motive:=fun _=>Nat->(Nat->Prop)->Prop) (fun n k=>k n) (fun _ _ ih n k=>ih (n+1) k) l
theorem b0u:∀ (l:List α) (n:Nat) (k:Nat->Prop),e0k l n k=k (n+l.length)
 |[],_,_=>rfl
 |a::r,n,k=>by rw[show e0k (a::r) n k=e0k r (n+1) k from rfl,b0u r,List.length_cons,Nat.add_assoc,Nat.add_comm 1]
noncomputable def b2x (l:List α):Nat->(α->Prop)->Prop:=List.rec (motive:=fun _=>Nat->(α->Prop)->Prop) (fun _ _=>False) (fun a _ ih n k=>match n with|0=>k a|n+1=>ih n k) l
theorem a1u:∀ (l:List α) (n:Nat) (k:α->Prop),b2x l n k↔∃ a,l[n]? =some a/\k a
 |[],n,k=>by rw[show b2x [] n k=False from rfl];simp
 |a::r,0,k=>by rw[show b2x (a::r) 0 k=k a from rfl];simp
 |a::r,n+1,k=>by rw[show b2x (a::r) (n+1) k=b2x r n k from rfl];simp[a1u r n k]
theorem a7a {l:List α} {n:Nat} {a:α} (h:l[n]? =some a) {k:α->Prop} (hk:k a):b2x l n k:=(a1u l n k).2 ⟨a,h,hk⟩
end
def b3q (v:V) (k:V->Prop):Prop:=match v with
 | .d (.bool b)=>k (.d (.bool b))
 | .d (.int kk n)=>k (.d (.int kk n))
 | .d (.str s)=>k (.d (.str s))
 | .d (.sl l)=>k (.d (.sl l))
 | .d (.agg l)=>k (.d (.agg l))
 | .agg l=>k (.agg l)
 | .tup l=>k (.tup l)
 | .nils=>k .nils
 | .row i n=>k (.row i n)
 | .arr i o n=>k (.arr i o n)
 | .ptr i o=>k (.ptr i o)
 | .ro l o=>k (.ro l o)
 | .fn f c=>k (.fn f c)
 | .fm f c=>k (.fm f c)
 | .nul=>k .nul
 | .nof=>k .nof
 | .ifc b=>k (.ifc b)
 | .raw x=>k (.raw x)
 | .nmp=>k .nmp
 | .nile=>k .nile
 | .mp i=>k (.mp i)
 | .undef=>k .undef
theorem b8o (v:V) (k:V->Prop):b3q v k=k v:=by
 cases v with
 |d x=>cases x<;>rfl
 |_=>rfl
def chk (b:Bool) (p:Prop):Prop:=match b with|true=>p|false=>False
theorem a2q (b:Bool) (p:Prop):chk b p↔b=true/\p:=by cases b<;>simp[chk]
theorem d6s {b:Bool} {p:Prop} (h:b=true) (hp:p):chk b p:=(a2q b p).2 ⟨h,hp⟩
noncomputable def h4d (l:List V) (k:V->Prop):Prop:=match b4x l with
 |some ds=>a1l ds fun ds=>k (.d (.agg ds))
 |none=>a1l l fun l=>k (.agg l)
theorem f1l (l:List V) (k:V->Prop):h4d l k=k (a9v l):=by
 unfold h4d a9v
 cases b4x l<;>simp only[a0x]
noncomputable def c4l (n:Option Nat) (c:List V) (off:Nat) (k:V->Prop):Prop:=match n with
 |none=>b2x c off k
 |some n=>chk (Nat.ble (off+n) c.length) (h4d ((c.drop off).take n) k)
theorem a9i (n:Option Nat) (c:List V) (off:Nat) (k:V->Prop):c4l n c off k↔∃ v,a6b n c off=some v/\k v:=by
 cases n with
 |none=>exact a1u ..
 |some n=>
  simp only[c4l,a6b,a2q,f1l,Nat.ble_eq]
  by_cases h:off+n<=c.length<;>simp[h]
noncomputable def h6s (H:Hp) (l:List V):(List D->Prop)->Prop->Prop:=List.rec (motive:=fun _=>(List D->Prop)->Prop->Prop) (fun k _=>k []) (fun v _ ih k alt=>match v with
  | .d x=>ih (fun ds=>k (x::ds)) alt
  | .nils=>ih (fun ds=>k (.sl []::ds)) alt
  | .nile=>ih (fun ds=>k (.sl []::ds)) alt
  | .row id len=>b2x H id fun o=>match o with
    | .row _ l=>l.length=len/\ih (fun ds=>k (.sl l::ds)) alt
    |_=>False
  |_=>alt) l
theorem e3v (H:Hp):∀ (l:List V) (k:List D->Prop) (alt:Prop),h6s H l k alt->(∃ ds,d3i H l=some ds/\k ds)\/alt
 |[],k,alt,h=> .inl ⟨[],rfl,h⟩
 |v::r,k,alt,h=>by
  have go:∀ x,a8i H v=some x->h6s H r (fun ds=>k (x::ds)) alt->(∃ ds,d3i H (v::r)=some ds/\k ds)\/alt:=by
    intro x hx h
    rcases e3v H r _ alt h with⟨ds,h1,h2⟩|h
    ·exact .inl ⟨x::ds,by simp only[d3i,hx,h1],h2⟩
    ·exact .inr h
  cases v with
  |d x=>exact go x rfl h
  |nils=>exact go _ rfl h
  |nile=>exact go _ rfl h
  |row id len=>
   have h:b2x H id fun o=>match o with
     | .row _ l=>l.length=len/\h6s H r (fun ds=>k (.sl l::ds)) alt
     |_=>False:=h
   obtain⟨o,ho,h⟩:=(a1u ..).1 h
   cases o with
   |row sz l=>
    obtain⟨h1,h2⟩:=h
    exact go (.sl l) (by simp only[a8i,ho,h1,if_true]) h2
   |_=>cases h
  |_=>exact .inr h
noncomputable def f0f (H:Hp) (v:V) (k:V->Prop):Prop:=match v with
 | .d x=>k (.d x)
 | .nils=>k (.d (.sl []))
 | .nile=>k (.d (.sl []))
 | .row id len=>b2x H id fun o=>match o with
   | .row _ l=>l.length=len/\k (.d (.sl l))
   |_=>False
 | .arr id off len=>b2x H id fun o=>match o with
   | .frz c=>off+len<=c.length/\k (.d (.sl ((c.drop off).take len)))
   |o=>k (toArg H (.arr id off len))
 | .ptr i o=>k (.ptr i o)
 | .fn f c=>k (.fn f c)
 | .fm f c=>k (.fm f c)
 | .nul=>k .nul
 | .nof=>k .nof
 | .ifc b=>k (.ifc b)
 | .raw x=>k (.raw x)
 | .nmp=>k .nmp
 | .mp i=>k (.mp i)
 | .agg l=>h6s H l (fun ds=>k (.d (.agg ds))) (k (toArg H (.agg l)))
 |v=>k (toArg H v)
theorem d0r (H:Hp) (v:V) (k:V->Prop) (h:f0f H v k):k (toArg H v):=by
 unfold f0f at h
 cases v with
 |row id len=>
  obtain⟨o,ho,h⟩:=(a1u ..).1 h
  cases o with
  |row sz l=>
   obtain⟨h1,h2⟩:=h
   simp only[toArg,toD,a8i,ho,h1,if_true];exact h2
  |_=>cases h
 |arr id off len=>
  obtain⟨o,ho,h⟩:=(a1u ..).1 h
  cases o with
  |frz c=>
   obtain⟨h1,h2⟩:=h
   simp only[toArg,toD,a8i,ho,if_pos h1];exact h2
  |_=>exact h
 |agg l=>
  rcases e3v H l _ _ h with⟨ds,h1,h2⟩|h
  ·simp only[toArg,toD,h1,Option.map_some];exact h2
  ·exact h
 |_=>exact h
noncomputable def e7k (cx:Cx) (e:Env) (H:Hp) (l:List Opd):(List V->Prop)->Prop:=List.rec (motive:=fun _=>(List V->Prop)->Prop) (fun k=>k []) (fun x _ ih k=>f0f H (gO cx e x) fun v=>ih fun vs=>k (v::vs)) l
theorem b9j (cx:Cx) (e:Env) (H:Hp):∀ (l:List Opd) (k:List V->Prop),e7k cx e H l k->k (l.map fun x=>toArg H (evO cx e x))
  |[],_,h=>h
  |x::r,k,h=>by
   have h:f0f H (gO cx e x) fun v=>e7k cx e H r fun vs=>k (v::vs):=h
   have:=b9j cx e H r _ (d0r _ _ _ h)
   rw[c4j]at this
   exact this
def h1n (y:Opd) (b:Int) (p:Prop):Prop:=match y with
 | .c _=>chk (decide (0<=b)) p
 |_=>0<=b/\p
theorem e2o (y:Opd) (b:Int) (p:Prop):h1n y b p↔0<=b/\p:=by cases y<;>simp[h1n,a2q]
def nzK (y:Opd) (b:Int) (p:Prop):Prop:=match y with
 | .c _=>chk (decide (b≠0)) p
 |_=>b≠0/\p
theorem g5b (y:Opd) (b:Int) (p:Prop):nzK y b p↔b≠0/\p:=by cases y<;>simp[nzK,a2q]
noncomputable def i1l (op:BinOp) (y:Opd) (vx vy:V) (k:V->Prop):Prop:=match vx,vy with
 | .d (.int k1 a),.d (.int k2 b)=>match op with
   | .shl=>h1n y b (k (.d (.int k1 (shlI k1 a b))))
   | .shr=>h1n y b (k (.d (.int k1 (shrI k1 a b))))
   | .add=>chk (decide (k1=k2)) (k (.d (.int k1 (k1.wrap (a+b)))))
   | .sub=>chk (decide (k1=k2)) (k (.d (.int k1 (k1.wrap (a - b)))))
   | .mul=>chk (decide (k1=k2)) (k (.d (.int k1 (k1.wrap (a*b)))))
   | .quo=>chk (decide (k1=k2)) (nzK y b (k (.d (.int k1 (k1.wrap (a.tdiv b))))))
   | .rem=>chk (decide (k1=k2)) (nzK y b (k (.d (.int k1 (a.tmod b)))))
   | .and=>chk (decide (k1=k2)) (k (.d (.int k1 (i0r k1 a b))))
   | .or=>chk (decide (k1=k2)) (k (.d (.int k1 (orI k1 a b))))
   | .xor=>chk (decide (k1=k2)) (k (.d (.int k1 (i0n k1 a b))))
   | .andNot=>chk (decide (k1=k2)) (k (.d (.int k1 (i0q k1 a b))))
   | .eql=>chk (decide (k1=k2)) (k (.d (.bool (decide (a=b)))))
   | .neq=>chk (decide (k1=k2)) (k (.d (.bool (!decide (a=b)))))
   | .lss=>chk (decide (k1=k2)) (k (.d (.bool (decide (a < b)))))
   | .leq=>chk (decide (k1=k2)) (k (.d (.bool (decide (a<=b)))))
   | .gtr=>chk (decide (k1=k2)) (k (.d (.bool (decide (b < a)))))
   | .geq=>chk (decide (k1=k2)) (k (.d (.bool (decide (b<=a)))))
 | .d (.str a),.d (.str b)=>match op with
   | .add=>a.length+b.length<=9223372036854775807/\k (.d (.str (a++b)))
   | .eql=>k (.d (.bool (decide (a=b))))
   | .neq=>k (.d (.bool (!decide (a=b))))
   |_=>False
 |_,_=>False
theorem f4r (op:BinOp) (y:Opd) (vx vy:V) (k:V->Prop) (h:i1l op y vx vy k):∃ v,a9p op vx vy=some v/\k v:=by
 unfold i1l at h
 split at h
 ·rename_i k1 a k2 b
  cases op<;>simp only[e2o,a2q,g5b,decide_eq_true_eq]at h<;>first
   |(obtain⟨rfl,h0,h⟩:=h;refine⟨_,?_,h⟩;simp[h0];done)
   |(obtain⟨rfl,h⟩:=h;refine⟨_,?_,h⟩;simp;done)
   |(obtain⟨h0,h⟩:=h;refine⟨_,?_,h⟩;simp[h0];done)
 ·rename_i a b
  cases op<;>first
   |(cases h;done)
   |(obtain⟨h0,h⟩:=h;refine⟨_,?_,h⟩;simp[h0];done)
   |(refine⟨_,?_,h⟩;simp;done)
 ·cases h
noncomputable def h1f (H:Hp) (v:V) (k:List D->Prop):Prop:=match v with
 | .d (.sl l)=>k l
 | .nils=>k []
 | .nile=>k []
 | .row id len=>b2x H id fun o=>match o with
   | .row _ l=>l.length=len/\k l
   |_=>False
 | .arr id off len=>b2x H id fun o=>match o with
   | .frz c=>off+len<=c.length/\k ((c.drop off).take len)
   |_=>False
 |v=> ∃ l,lsize H v=some l/\k l
theorem d0k (H:Hp) (v:V) (k:List D->Prop) (h:h1f H v k):∃ l,lsize H v=some l/\k l:=by
 unfold h1f at h
 split at h
 ·exact⟨_,rfl,h⟩
 ·exact⟨_,rfl,h⟩
 ·exact⟨_,rfl,h⟩
 ·rename_i id len
  obtain⟨o,ho,h⟩:=(a1u ..).1 h
  cases o with
  |row sz l=>
   obtain⟨h1,h2⟩:=h
   exact⟨l,by simp only[lsize,a8i,ho,h1,if_true],h2⟩
  |_=>cases h
 ·rename_i id off len
  obtain⟨o,ho,h⟩:=(a1u ..).1 h
  cases o with
  |frz c=>
   obtain⟨h1,h2⟩:=h
   exact⟨_,by simp only[lsize,a8i,ho,if_pos h1],h2⟩
  |_=>cases h
 ·exact h
noncomputable def c7x (cx:Cx) (e:Env) (d:Nat) (o:Option Opd) (k:Nat->Prop):Prop:=match o with
 |none=>k d
 |some x=>match gO cx e x with
  | .d (.int _ n)=>h1n x n (k n.toNat)
  |_=>False
theorem b4n (cx:Cx) (e:Env) (d:Nat) (o:Option Opd) (k:Nat->Prop) (h:c7x cx e d o k):∃ n,a0u.bound cx e d o=some n/\k n:=by
 unfold c7x at h
 split at h
 ·exact⟨_,rfl,h⟩
 ·rename_i x
  rw[c4j]at h
  split at h
  ·rename_i k n hx
   obtain⟨h0,h⟩:=(e2o ..).1 h
   exact⟨_,by simp only[a0u.bound,hx,a4j,if_pos h0],h⟩
  ·cases h
def dK (H:Hp) (v:V) (k:D->Prop):Prop:=match v with
 | .d x=>k x
 | .nils=>k (.sl [])
 | .nile=>k (.sl [])
 |v=> ∃ x,toD H v=some x/\k x
theorem e9k {H:Hp} {v:V} {k:D->Prop} (h:dK H v k):∃ x,toD H v=some x/\k x:=by
 unfold dK at h
 split at h
 ·exact⟨_,rfl,h⟩
 ·exact⟨_,rfl,h⟩
 ·exact⟨_,rfl,h⟩
 ·exact h
noncomputable def dsK (cx:Cx) (e:Env) (H:Hp) (l:List Opd):(List D->Prop)->Prop:=List.rec (motive:=fun _=>(List D->Prop)->Prop) (fun k=>k []) (fun x _ ih k=>dK H (gO cx e x) fun v=>ih fun vs=>k (v::vs)) l
theorem f2m {cx:Cx} {e:Env} {H:Hp}:∀ {l:List Opd} {k:List D->Prop},dsK cx e H l k->∃ ds,a0u.toDs' cx e H l=some ds/\k ds
 |[],_,h=>⟨[],rfl,h⟩
 |x::r,k,h=>by
  have h:dK H (gO cx e x) fun v=>dsK cx e H r fun vs=>k (v::vs):=h
  obtain⟨y,hy,h⟩:=e9k h
  obtain⟨ys,hys,h⟩:=f2m h
  rw[c4j]at hy
  exact⟨y::ys,by simp only[a0u.toDs',hy,hys],h⟩
noncomputable def look (l:List (Nat×Bool)):Nat->Option Bool:=List.rec (motive:=fun _=>Nat->Option Bool) (fun _=>none) (fun p _ ih i=>match Nat.beq p.1 i with|true=>some p.2|false=>ih i) l
theorem c3p (g:Nat) (b:Bool) (r:List (Nat×Bool)) (i:Nat):look ((g,b)::r) i=match Nat.beq g i with|true=>some b|false=>look r i:=rfl
noncomputable def forget (l:List (Nat×Bool)):Nat->List (Nat×Bool):=List.rec (motive:=fun _=>Nat->List (Nat×Bool)) (fun _=>[]) (fun p _ ih i=>match Nat.beq p.1 i with|true=>ih i|false=>p::ih i) l
theorem e0h (g:Nat) (b:Bool) (r:List (Nat×Bool)) (i:Nat):forget ((g,b)::r) i=match Nat.beq g i with|true=>forget r i|false=>(g,b)::forget r i:=rfl
section
variable (pg:Pg)
noncomputable def wpO (kn:List (Nat×Bool)) (b:Nat) (e:Env) (H:Hp) (o:VOp) (k:V->Hp->Prop):Prop:=match o with
 | .mv x=>b3q (gO pg.toCx e x) fun v=>k v H
 | .pick c x y=>match(match c with| .t i=>look kn i|_=>none)with
   |some true=>b3q (gO pg.toCx e x) fun v=>k v H
   |some false=>b3q (gO pg.toCx e y) fun v=>k v H
   |none=>match gO pg.toCx e c with
    | .d (.bool t)=>(t=true->b3q (gO pg.toCx e x) fun v=>k v H)/\(t=false->b3q (gO pg.toCx e y) fun v=>k v H)
    |_=>False
 | .zbox z=>e0k H 0 fun n=>a1l (H++[.box z]) fun H'=>k (.ptr n 0) H'
 | .box x=>a1l (gO pg.toCx e x).cells fun c=>chk (c.all V.one) (e0k H 0 fun n=>a1l (H++[.box c]) fun H'=>k (.ptr n 0) H')
 | .build z ps=>chk (ps.all fun p=>(gO pg.toCx e p.2.2).cells.all V.one) (match b7q z (ps.map fun p=>(p.1,p.2.1,gO pg.toCx e p.2.2))with
   |some c=>h4d c fun v=>k v H
   |none=>False)
 | .bslice sz len ps=>dsK pg.toCx e H ps fun l=>chk (Nat.beq l.length len && l.all (fun x=>x.cells.length==sz) && Nat.blt 0 sz && Nat.ble (len*sz) 16777216) (k (.d (.sl l)) H)
 | .ld n x=>match gO pg.toCx e x with
   | .ptr id off=>b2x H id fun ob=>match ob with
     | .box c=>c4l n c off fun v=>k v H
     | .frz c=>c4l n (c.map V.d) off fun v=>k v H
     |_=>False
   | .ro l off=>c4l n (l.map V.d) off fun v=>k v H
   |_=>False
 | .st n a x=>match gO pg.toCx e a with
   | .ptr id off=>b2x H id fun ob=>match ob with
     | .box c=>a1l (gO pg.toCx e x).cells fun xs=>chk (Nat.beq xs.length n && Nat.ble (off+n) c.length && xs.all V.one && (a1e id xs||Nat.ble b id||b0q c off xs)) (a1l (putAt c off xs) fun c'=>a1l (H.set id (.box c')) fun H'=>k .undef H')
     |_=>False
   |_=>False
 | .bin op x y=>i1l op y (gO pg.toCx e x) (gO pg.toCx e y) fun v=>k v H
 | .eqa neg ks x y=>match gO pg.toCx e x,gO pg.toCx e y with
   | .d (.agg c),.d (.agg d)=>chk (kindOk ks c d) (match neg with|true=>k (.d (.bool !eqL c d)) H|false=>k (.d (.bool (eqL c d))) H)
   |_,_=>False
 | .isnil neg x=>match gO pg.toCx e x with
   | .ifc b=>match neg with|true=>k (.d (.bool !b)) H|false=>k (.d (.bool b)) H
   |_=>False
 | .eqb neg x y=>match gO pg.toCx e x,gO pg.toCx e y with
   | .d (.bool c),.d (.bool d)=>match neg with|true=>k (.d (.bool !(c==d))) H|false=>k (.d (.bool (c==d))) H
   |_,_=>False
 | .un op x=>match op,gO pg.toCx e x with
   | .neg,.d (.int kk n)=>k (.d (.int kk (kk.wrap (0 - n)))) H
   | .not,.d (.bool t)=>k (.d (.bool !t)) H
   |_,_=>False
 | .conv kk x=>match gO pg.toCx e x with
   | .d (.int _ n)=>k (.d (.int kk (kk.wrap n))) H
   |_=>False
 | .mkfn f caps=>a1l (caps.map (gO pg.toCx e)) fun l=>k (.fn f l) H
 | .mkfm f caps=>a1l (caps.map (gO pg.toCx e)) fun l=>k (.fm f l) H
 | .fld off n x=>match gO pg.toCx e x with
   | .d (.agg c)=>c4l n (c.map V.d) off fun v=>k v H
   | .agg c=>c4l n c off fun v=>k v H
   |_=>False
 | .fadr off x=>match gO pg.toCx e x with
   | .ptr id o=>k (.ptr id (o+off)) H
   | .ro l o=>k (.ro l (o+off)) H
   |_=>False
 | .iadr sz x i=>match gO pg.toCx e i with
   | .d (.int _ n)=>match gO pg.toCx e x with
     | .arr id off len=>(0<=n/\n.toNat < len)/\k (.ptr id (off+n.toNat*sz)) H
     |v=>h1f H v fun l=> ∃ y,(0<=n/\l[n.toNat]? =some y)/\y.cells.length=sz/\k (.ro y.cells 0) H
   |_=>False
 | .iadra len sz x i=>match gO pg.toCx e i with
   | .d (.int _ n)=>(0<=n/\n.toNat < len)/\(match gO pg.toCx e x with
     | .ptr id o=>k (.ptr id (o+n.toNat*sz)) H
     | .ro l o=>k (.ro l (o+n.toNat*sz)) H
     |_=>False)
   |_=>False
 | .idx x i=>match gO pg.toCx e i,gO pg.toCx e x with
   | .d (.int _ n),.d (.str s)=> ∃ c,(0<=n/\s[n.toNat]? =some c)/\k (.d (.int .u8 c.toNat)) H
   |_,_=>False
 | .slcs x lo hi=>match gO pg.toCx e x with
   | .d (.str s)=>c7x pg.toCx e 0 lo fun l=>c7x pg.toCx e s.length hi fun h=>(l<=h/\h<=s.length)/\k (.d (.str ((s.take h).drop l))) H
   |_=>False
 | .slc sz x lo hi=>h1f H (gO pg.toCx e x) fun s=>c7x pg.toCx e 0 lo fun l=>c7x pg.toCx e s.length hi fun h=>(l<=h/\h<=s.length/\(lo.isNone||s.all (fun y=>y.cells.length==sz))=true)/\k (.d (.sl ((s.take h).drop l))) H
 | .ext x i=>match gO pg.toCx e x with
   | .tup l=>b2x l i fun v=>k v H
   |_=>False
 | .mkm=>e0k H 0 fun n=>a1l (H++[.map []]) fun H'=>k (.mp n) H'
 | .brow sz=>chk (Nat.blt 0 sz) (k .nile H)
 | .b9p kk m kx x=>match gO pg.toCx e m with
   | .mp id=>b2x H id fun ob=>match ob with
     | .map l=>(match gO pg.toCx e kx with
       | .d kd=>chk (a8m kk kd) (a2k kk l=true/\dK H (gO pg.toCx e x) fun x=>a1l (H.set id (.map (c1m kd x l))) fun H'=>k .undef H')
       |_=>False)
     |_=>False
   |_=>False
 | .mget kk ok z m kx=>match gO pg.toCx e m with
   | .mp id=>b2x H id fun ob=>match ob with
     | .map l=>(match gO pg.toCx e kx with
       | .d kd=>chk (a8m kk kd) (a2k kk l=true/\∃ r,a4e kd l=r/\k (h4a ok z r) H)
       |_=>False)
     |_=>False
   |_=>False
 | .ment kk z m kx=>match gO pg.toCx e m with
   | .mp id=>b2x H id fun ob=>match ob with
     | .map l=>(match gO pg.toCx e kx with
       | .d kd=>chk (a8m kk kd) (a2k kk l=true/\∃ r,a5u kd l=r/\(match r with
         |some i=> ∃ p,l[i]? =some p/\k (.tup [.d p.2,.d (.int .i64 i)]) H
         |none=>a1l (H.set id (.map (l++[(kd,z)]))) fun H'=>k (.tup [.d z,.d (.int .i64 l.length)]) H'))
       |_=>False)
     |_=>False
   |_=>False
 | .mest m s x=>match gO pg.toCx e m with
   | .mp id=>b2x H id fun ob=>match ob with
     | .map l=>(match gO pg.toCx e s with
       | .d (.int _ n)=>(0<=n/\n.toNat < l.length)/\dK H (gO pg.toCx e x) fun x=>a1l (H.set id (.map (b9p n.toNat x l))) fun H'=>k .undef H'
       |_=>False)
     |_=>False
   |_=>False
 | .call f args=>e7k pg.toCx e H args fun vs=> ∃ r H',evF pg f vs H=some (r,H')/\k r H'
 | .callv f args=>match gO pg.toCx e f with
   | .fn f c=>e7k pg.toCx e H args fun vs=>a1l (vs++c) fun vs=> ∃ r H',evF pg f vs H=some (r,H')/\k r H'
   | .fm f c=>e7k pg.toCx e H args fun vs=>a1l (c++vs) fun vs=> ∃ r H',evF pg f vs H=some (r,H')/\k r H'
   |_=>False
 | .len true x=>match gO pg.toCx e x with
   | .d (.str s)=>k (.d (.int .i64 s.length)) H
   |_=>False
 | .len false x=>match gO pg.toCx e x with
   | .d (.sl l)=>k (.d (.int .i64 l.length)) H
   | .nils=>k (.d (.int .i64 0)) H
   | .nile=>k (.d (.int .i64 0)) H
   | .row _ n=>k (.d (.int .i64 n)) H
   | .arr _ _ n=>k (.d (.int .i64 n)) H
   |_=>False
 | .app sz bytes x y=>h1f H (gO pg.toCx e y) fun ys=>((ys.all (fun y=>y.cells.length==sz))=true/\0 < sz)/\(match gO pg.toCx e x with
   | .row id len=>b2x H id fun ob=>match ob with
     | .row sz' l=>(sz'=sz/\l.length=len/\roomy (len+ys.length) bytes)/\a1l (H.set id (.row sz (l++ys))) fun H'=>k (.row id (len+ys.length)) H'
     |_=>False
   | .nile=>(ys=[]->k .nile H)/\(ys≠[]->roomy ys.length bytes/\e0k H 0 fun n=>a1l (H++[.row sz ys]) fun H'=>k (.row n ys.length) H')
   |v=> ∃ r H',a0u pg.toCx (evF pg) b e H (.app sz bytes x y)=some (r,H')/\(v=v/\k r H'))
 | .convs x=>match gO pg.toCx e x with
   | .d (.str s)=>k (.d (.str s)) H
   |_=>False
 | .nilck x=>match gO pg.toCx e x with
   | .ptr id off=>k (.ptr id off) H
   | .fn f c=>k (.fn f c) H
   | .fm f c=>k (.fm f c) H
   |_=>False
 | .msl sz bytes z n=>match gO pg.toCx e n with
   | .d (.int _ m)=>(0<=m/\roomy m.toNat bytes)/\chk (Nat.beq z.length 1 && Nat.beq sz 1) (e0k H 0 fun n0=>a1l (H++[.box (List.replicate m.toNat (z.headD .undef))]) fun H'=>k (.arr n0 0 m.toNat) H')
   |_=>False
 | .mm mx x y=>match gO pg.toCx e x,gO pg.toCx e y with
   | .d (.int k1 a),.d (.int k2 c)=>chk (decide (k1=k2)) (match mx with|true=>k (.d (.int k1 (max a c))) H|false=>k (.d (.int k1 (min a c))) H)
   |_,_=>False
 |o=> ∃ r H',a0u pg.toCx (evF pg) b e H o=some (r,H')/\k r H'
end
def a6m (kn:List (Nat×Bool)) (e:Env):Prop:=∀ i t,look kn i=some t->a1n e i= .d (.bool t)
theorem a6m.forget {kn:List (Nat×Bool)} {e:Env} (h:a6m kn e) (d:Nat) (v:V):a6m (forget kn d) ((d,v)::e):=by
 have key:∀ (kn:List (Nat×Bool)) i t,look (Vm.forget kn d) i=some t->i≠d/\look kn i=some t:=by
  intro kn
  induction kn with
  |nil=>intro i t h;cases h
  |cons p r ih=>
   obtain⟨g,b⟩:=p
   intro i t h
   rw[e0h]at h
   by_cases hg:g=d
   ·rw[g5q hg]at h
    obtain⟨h1,h2⟩:=ih i t h
    refine⟨h1,?_⟩
    rw[c3p,g1l (fun e=>h1 om)]
    exact h2
   ·rw[g1l hg]at h
    simp only[c3p]at h⊢
    by_cases hi:g=i
    ·rw[g5q hi]at h⊢
     exact⟨fun e=>hg om,h⟩
    ·rw[g1l hi]at h⊢
     exact ih i t h
 intro i t hi
 obtain⟨h1,h2⟩:=key kn i t hi
 unfold a1n
 rw[if_neg (fun e=>h1 e.symm)]
 exact h i t h2
theorem a6m.add {kn:List (Nat×Bool)} {e:Env} (h:a6m kn e) {g:Nat} {t:Bool} (hg:a1n e g= .d (.bool t)):a6m ((g,t)::kn) e:=by
 intro i u hi
 rw[c3p]at hi
 by_cases hgi:g=i
 ·rw[g5q hgi]at hi
  cases hi;rw[<-hgi];exact hg
 ·rw[g1l hgi]at hi
  exact h i u hi
theorem a6m.nil (e:Env):a6m [] e:=by intro i t h;cases h
section
variable {pg:Pg}
theorem g3m {kn:List (Nat×Bool)} {b:Nat} {e:Env} {H:Hp} {o:VOp} {k:V->Hp->Prop} (hk:a6m kn e) (h:wpO pg kn b e H o k):∃ v H',a0u pg.toCx (evF pg) b e H o=some (v,H')/\k v H':=by
 cases o<;>simp only[wpO,c4j,b8o]at h
 case mv x=>exact⟨_,_,rfl,h⟩
 case pick c x y=>
  have gen:∀ t,evO pg.toCx e c= .d (.bool t)->(if t then k (evO pg.toCx e x) H else k (evO pg.toCx e y) H)->∃ v H',a0u pg.toCx (evF pg) b e H (.pick c x y)=some (v,H')/\k v H':=by
   intro t hc hh
   refine⟨if t then evO pg.toCx e x else evO pg.toCx e y,H,by simp only[a0u,hc],?_⟩
   cases t
   ·simpa using hh
   ·simpa using hh
  split at h
  ·rename_i hc
   cases c with
   |t i=>exact gen true (hk i true hc) (by simpa using h)
   |_=>cases hc
  ·rename_i hc
   cases c with
   |t i=>exact gen false (hk i false hc) (by simpa using h)
   |_=>cases hc
  ·split at h
   ·rename_i t hc
    refine gen t hc ?_
    cases t
    ·simpa using h
    ·simpa using h
   ·cases h
 case zbox z=>
  simp only[b0u,a0x,Nat.zero_add]at h
  exact⟨_,_,rfl,h⟩
 case box x=>
  simp only[b0u,a0x,Nat.zero_add,a2q]at h
  exact⟨_,_,by simp only[a0u,h.1,if_true],h.2⟩
 case build z ps=>
  rw[a2q]at h
  obtain⟨h1,h⟩:=h
  split at h
  ·rename_i c hc
   rw[f1l]at h
   exact⟨_,_,by simp only[a0u,h1,if_true,hc,Option.map_some],h⟩
  ·cases h
 case bslice sz len ps=>
  obtain⟨l,hl,h⟩:=f2m h
  simp only[a2q,Bool.and_eq_true,Nat.beq_eq,Nat.ble_eq]at h
  obtain⟨⟨⟨⟨h1,h2⟩,h3⟩,h4⟩,h⟩:=h
  refine⟨_,_,?_,h⟩
  simp only[a0u,hl]
  rw[if_pos ⟨h1,h2,by simp[Nat.blt]at h3;omega,h4⟩]
 case ld n x=>
  split at h
  ·rename_i id off hx
   obtain⟨o,ho,h⟩:=(a1u ..).1 h
   cases o with
   |box c=>
    obtain⟨v,hv,h⟩:=(a9i ..).1 h
    exact⟨_,_,by simp only[a0u,hx,b7i,a9q,ho,hv,Option.map_some],h⟩
   |frz c=>
    obtain⟨v,hv,h⟩:=(a9i ..).1 h
    exact⟨_,_,by simp only[a0u,hx,b7i,a9q,ho,hv,Option.map_some],h⟩
   |_=>cases h
  ·rename_i l off hx
   obtain⟨v,hv,h⟩:=(a9i ..).1 h
   exact⟨_,_,by simp only[a0u,hx,b7i,a9q,hv,Option.map_some],h⟩
  ·cases h
 case st n a x=>
  split at h
  ·rename_i id off hx
   obtain⟨o,ho,h⟩:=(a1u ..).1 h
   cases o with
   |box c=>
    simp only[a0x,a2q,Bool.and_eq_true,Nat.beq_eq,Nat.ble_eq,Bool.or_eq_true]at h
    obtain⟨⟨⟨⟨h1,h2⟩,h3⟩,h4⟩,h⟩:=h
    refine⟨_,_,?_,h⟩
    simp only[a0u,hx,c1k,ho]
    rw[if_pos ⟨h1,h2,h3,by simpa using h4⟩];rfl
   |_=>cases h
  ·cases h
 case bin op x y=>
  obtain⟨v,hv,h⟩:=f4r _ _ _ _ _ h
  exact⟨_,_,by simp only[a0u,hv,Option.map_some],h⟩
 case eqa neg ks x y=>
  split at h
  ·rename_i c d hc hd
   rw[a2q]at h
   obtain⟨h1,h⟩:=h
   refine⟨.d (.bool (if neg then !eqL c d else eqL c d)),H,by simp only[a0u,hc,hd,if_pos h1],?_⟩
   cases neg<;>simpa using h
  ·cases h
 case isnil neg x=>
  split at h
  ·rename_i b hx
   refine⟨.d (.bool (if neg then !b else b)),H,by simp only[a0u,hx],?_⟩
   cases neg<;>simpa using h
  ·cases h
 case eqb neg x y=>
  split at h
  ·rename_i c d hc hd
   refine⟨.d (.bool (if neg then !(c==d) else c==d)),H,by simp only[a0u,hc,hd],?_⟩
   cases neg<;>simpa using h
  ·cases h
 case un op x=>
  split at h
  ·rename_i hx
   exact⟨_,_,by simp only[a0u,hx,unV,Option.map_some],h⟩
  ·rename_i hx
   exact⟨_,_,by simp only[a0u,hx,unV,Option.map_some],h⟩
  ·cases h
 case conv kk x=>
  split at h
  ·rename_i hx
   exact⟨_,_,by simp only[a0u,hx],h⟩
  ·cases h
 case mkfn f caps=>
  rw[a0x]at h
  exact⟨_,_,by simp only[a0u];rfl,(by simpa only[c4j,funext (c4j pg.toCx e)] using h)⟩
 case mkfm f caps=>
  rw[a0x]at h
  exact⟨_,_,by simp only[a0u];rfl,(by simpa only[c4j,funext (c4j pg.toCx e)] using h)⟩
 case fld off n x=>
  split at h
  ·rename_i hx
   obtain⟨v,hv,h⟩:=(a9i ..).1 h
   exact⟨_,_,by simp only[a0u,hx,hv,Option.map_some],h⟩
  ·rename_i hx
   obtain⟨v,hv,h⟩:=(a9i ..).1 h
   exact⟨_,_,by simp only[a0u,hx,hv,Option.map_some],h⟩
  ·cases h
 case fadr off x=>
  split at h
  ·rename_i hx;exact⟨_,_,by simp only[a0u,hx],h⟩
  ·rename_i hx;exact⟨_,_,by simp only[a0u,hx],h⟩
  ·cases h
 case iadr sz x i=>
  split at h
  ·rename_i kk n hi
   have gen:∀ v,evO pg.toCx e x=v->(∀ id off len,v≠ .arr id off len)->(∃ l,lsize H v=some l/\∃ y,(0<=n/\l[n.toNat]? =some y)/\y.cells.length=sz/\k (.ro y.cells 0) H)->∃ v H',a0u pg.toCx (evF pg) b e H (.iadr sz x i)=some (v,H')/\k v H':=by
    rintro v hv hna ⟨l,hl,y,⟨h0,hy⟩,hs,h⟩
    refine⟨_,_,?_,h⟩
    simp only[a0u,hi,a4j,if_pos h0,hv]
    cases v with
    |arr a b c=>exact absurd rfl (hna a b c)
    |_=>simp only[hl,hy,hs,if_true]
   split at h
   ·rename_i id off len hx
    exact⟨_,_,by simp only[a0u,hi,a4j,if_pos h.1.1,hx,if_pos h.1.2],h.2⟩
   ·rename_i v hna
    exact gen _ rfl (fun a b c hh=>hna a b c hh) (d0k _ _ _ h)
  ·cases h
 case iadra len sz x i=>
  split at h
  ·rename_i kk n hi
   obtain⟨⟨h0,h1⟩,h⟩:=h
   split at h
   ·rename_i hx
    exact⟨_,_,by simp only[a0u,hi,a4j,if_pos h0,if_pos h1,hx],h⟩
   ·rename_i hx
    exact⟨_,_,by simp only[a0u,hi,a4j,if_pos h0,if_pos h1,hx],h⟩
   ·cases h
  ·cases h
 case idx x i=>
  split at h
  ·rename_i hi hx
   obtain⟨c,⟨h0,hc⟩,h⟩:=h
   exact⟨_,_,by simp only[a0u,hi,a4j,if_pos h0,hx,hc,Option.map_some],h⟩
  ·cases h
 case slcs x lo hi=>
  split at h
  ·rename_i s hx
   obtain⟨l,hl,h⟩:=b4n _ _ _ _ _ h
   obtain⟨r,hr,h⟩:=b4n _ _ _ _ _ h
   exact⟨_,_,by simp only[a0u,hx,hl,hr,if_pos h.1],h.2⟩
  ·cases h
 case slc sz x lo hi=>
  obtain⟨s,hs,h⟩:=d0k _ _ _ h
  obtain⟨l,hl,h⟩:=b4n _ _ _ _ _ h
  obtain⟨r,hr,h⟩:=b4n _ _ _ _ _ h
  exact⟨_,_,by simp only[a0u,hs,hl,hr,if_pos h.1],h.2⟩
 case ext x i=>
  split at h
  ·rename_i l hx
   obtain⟨v,hv,h⟩:=(a1u ..).1 h
   exact⟨_,_,by simp only[a0u,hx,hv,Option.map_some],h⟩
  ·cases h
 case nilck x=>
  split at h
  ·rename_i hx;exact⟨_,_,by simp only[a0u,hx],h⟩
  ·rename_i hx;exact⟨_,_,by simp only[a0u,hx],h⟩
  ·rename_i hx;exact⟨_,_,by simp only[a0u,hx],h⟩
  ·cases h
 case msl sz bytes z n=>
  split at h
  ·rename_i m hn
   obtain⟨h1,h⟩:=h
   simp only[a2q,Bool.and_eq_true,Nat.beq_eq,b0u,a0x,Nat.zero_add]at h
   exact⟨_,_,by simp only[a0u,hn,if_pos (show 0<=m/\roomy m.toNat bytes/\z.length=1/\sz=1 from⟨h1.1,h1.2,h.1.1,h.1.2⟩)],h.2⟩
  ·cases h
 case mm mx x y=>
  split at h
  ·rename_i k1 a k2 c hx hy
   rw[a2q]at h
   obtain⟨h1,h⟩:=h
   refine⟨.d (.int k1 (if mx then max a c else min a c)),H,by simp only[a0u,hx,hy,if_pos (of_decide_eq_true h1)],?_⟩
   cases mx<;>simpa using h
  ·cases h
 case mkm=>
  simp only[b0u,a0x,Nat.zero_add]at h
  exact⟨_,_,rfl,h⟩
 case brow sz=>
  rw[a2q]at h
  obtain⟨h1,h⟩:=h
  have h1:0 < sz:=by simpa [Nat.blt_eq] using h1
  exact⟨_,_,by simp only[a0u,if_pos h1],h⟩
 case b9p kk m kx x=>
  split at h
  ·rename_i id hm
   obtain⟨ob,ho,h⟩:=(a1u ..).1 h
   cases ob with
   |map l=>
    simp only at h
    split at h
    ·rename_i kd hk
     rw[a2q]at h
     obtain⟨h1,h2,h⟩:=h
     obtain⟨x',hx,h⟩:=e9k h
     rw[a0x]at h
     exact⟨_,_,by simp only[a0u,hm,hk,hx,ho,h1,h2,Bool.and_self,if_true],h⟩
    ·cases h
   |_=>cases h
  ·cases h
 case mget kk ok z m kx=>
  split at h
  ·rename_i id hm
   obtain⟨ob,ho,h⟩:=(a1u ..).1 h
   cases ob with
   |map l=>
    simp only at h
    split at h
    ·rename_i kd hk
     rw[a2q]at h
     obtain⟨h1,h2,r,rfl,h⟩:=h
     exact⟨_,_,by simp only[a0u,hm,hk,ho,h1,h2,Bool.and_self,if_true],h⟩
    ·cases h
   |_=>cases h
  ·cases h
 case ment kk z m kx=>
  split at h
  ·rename_i id hm
   obtain⟨ob,ho,h⟩:=(a1u ..).1 h
   cases ob with
   |map l=>
    simp only at h
    split at h
    ·rename_i kd hk
     rw[a2q]at h
     obtain⟨h1,h2,r,hr,h⟩:=h
     cases r with
     |some i=>
      obtain⟨p,hp,h⟩:=h
      exact⟨_,_,by simp only[a0u,hm,hk,ho,h1,h2,Bool.and_self,if_true,hr,hp,Option.map_some],h⟩
     |none=>
      simp only[a0x]at h
      exact⟨_,_,by simp only[a0u,hm,hk,ho,h1,h2,Bool.and_self,if_true,hr],h⟩
    ·cases h
   |_=>cases h
  ·cases h
 case mest m s x=>
  split at h
  ·rename_i id hm
   obtain⟨ob,ho,h⟩:=(a1u ..).1 h
   cases ob with
   |map l=>
    simp only at h
    split at h
    ·rename_i n hs
     obtain⟨h1,h⟩:=h
     obtain⟨x',hx,h⟩:=e9k h
     rw[a0x]at h
     exact⟨_,_,by simp only[a0u,hm,hs,hx,ho,if_pos h1],h⟩
    ·cases h
   |_=>cases h
  ·cases h
 case call f args=>
  obtain⟨r,H',hr,h⟩:=b9j _ _ _ _ _ h
  exact⟨r,H',hr,h⟩
 case callv f args=>
  split at h
  ·rename_i f c hf
   have h:=b9j _ _ _ _ _ h
   rw[a0x]at h
   obtain⟨r,H',hr,h⟩:=h
   exact⟨r,H',by simp only[a0u,hf];exact hr,h⟩
  ·rename_i f c hf
   have h:=b9j _ _ _ _ _ h
   rw[a0x]at h
   obtain⟨r,H',hr,h⟩:=h
   exact⟨r,H',by simp only[a0u,hf];exact hr,h⟩
  ·cases h
 case len str x=>
  cases str
  ·simp only[c4j]at h
   split at h
   ·rename_i hx;exact⟨_,_,by simp only[a0u,hx,c9j,Option.map_some],h⟩
   ·rename_i hx;exact⟨_,_,by simp only[a0u,hx,c9j,Option.map_some];rfl,h⟩
   ·rename_i hx;exact⟨_,_,by simp only[a0u,hx,c9j,Option.map_some];rfl,h⟩
   ·rename_i hx;exact⟨_,_,by simp only[a0u,hx,c9j,Option.map_some],h⟩
   ·rename_i hx;exact⟨_,_,by simp only[a0u,hx,c9j,Option.map_some],h⟩
   ·cases h
  ·simp only[c4j]at h
   split at h
   ·rename_i hx;exact⟨_,_,by simp only[a0u,hx],h⟩
   ·cases h
 case convs x=>
  split at h
  ·rename_i hx;exact⟨_,_,by simp only[a0u,hx],h⟩
  ·cases h
 case app sz bytes x y=>
  obtain⟨ys,hys,⟨⟨h1,h2⟩,h⟩⟩:=d0k _ _ _ h
  split at h
  ·rename_i id len hx
   obtain⟨o,ho,h⟩:=(a1u ..).1 h
   cases o with
   |row sz' l=>
    obtain⟨⟨h3,h4,h5⟩,h⟩:=h
    rw[a0x]at h
    refine⟨_,_,?_,h⟩
    simp only[a0u,hys,hx,ho]
    rw[if_pos ⟨h1,h2⟩,if_pos ⟨h3,h4,h5⟩]
   |_=>cases h
  ·rename_i hx
   by_cases hy:ys=[]
   ·refine⟨_,_,?_,h.1 hy⟩
    simp only[a0u,hys,hx]
    rw[if_pos ⟨h1,h2⟩,if_pos hy]
   ·obtain⟨h3,h⟩:=h.2 hy
    simp only[b0u,a0x,Nat.zero_add]at h
    refine⟨_,_,?_,h⟩
    simp only[a0u,hys,hx]
    rw[if_pos ⟨h1,h2⟩,if_neg hy,if_pos h3]
  ·obtain⟨r,H',hr,_,h⟩:=h
   exact⟨r,H',hr,h⟩
 all_goals exact h
end
end Go.Vm
