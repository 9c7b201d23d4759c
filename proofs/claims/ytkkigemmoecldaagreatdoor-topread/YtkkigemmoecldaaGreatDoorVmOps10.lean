import Derived.Test.YtkkigemmoecldaaGreatDoorVmOps2
import Derived.MapKept
set_option maxHeartbeats 0
set_option linter.unusedVariables false
set_option linter.unusedSimpArgs false
namespace Go.Vm
section
variable {P:Program} {cx:Cx} {nb:Nat} {g:Gh} {H:Hp} {w:World}
theorem zn.ext {n:Nat} {g':Gh} {H':Hp} {w':World} {b cap:Nat} {o:Ob} (h:zn g H w b cap o) (hk:sD n g H g' H') (hh:w'.heap[b]? =w.heap[b]?) (hC:g'.C b=g.C b)
 (hu:∀ c,o= .box c->br n c=true):zn g' H' w' b cap o:=by
 cases o with
 |box c=>
  obtain⟨cur,e,h1,h2,h3⟩:=h;exact⟨cur,e,hh.trans h1,lr hk _ _ (hu c rfl) h2,hC.trans h3⟩
 |frz c=>simp only[zn]at h⊢;rw[hC];exact gq hk.C _ _ h
 |map l=>
  obtain⟨⟨es,h1,h2,h3⟩,h4⟩:=h;exact⟨⟨es,hh.trans h1,h2,fun i p e hp he=>by obtain⟨r1,r2,r3⟩:=h3 i p e hp he;exact⟨yJ hk.C r1,yJ hk.C r2,r3⟩⟩,hC.trans h4⟩
 |row sz l=>
  obtain⟨cur,e,h1,h2,h3⟩:=h;exact⟨cur,e,hh.trans h1,by rw[hC];exact jV hk.C _ _ _ h2,h3⟩
theorem Inv.DO (hI:Inv cx g H w) {b:Nat} (hb:w.heap.size<=b):g.C b=[]:=by
 by_cases h:g.C b=[]
 ·exact h
 ·obtain⟨cur,e,fz,h1,_⟩:=hI.imm b h;have:=(aS.1 h1).1;omega
theorem Inv.Tr (hI:Inv cx g H w) {b:Nat} (hb:w.heap.size<=b) (i c:Nat):g.J i≠some (b,c):=fun h=>by
  have:=(hI.dom i b c h).2;omega
theorem xT (hI:Inv cx g H w) {i:Nat} {o:Ob} (h:H[i]? =some o):∀ c,o= .box c->br H.length c=true:=by
 rintro c rfl;exact hI.und i c (az.1 h).1 h
theorem jS (H:Hp) (o:Ob) (i:Nat) (h:i < H.length):(H++[o])[i]? =H[i]? :=aD h
theorem iC (H:Hp) (o:Ob):(H++[o])[H.length]? =some o:=by simp
theorem uP (n:Nat) (g g':Gh) (H:Hp) (o:Ob) (hn:n<=H.length) (hC:∀ b,g.C b <+:g'.C b) (hJ:∀ i,i < H.length->g'.J i=g.J i):Keep n g H g' (H++[o]):=by
 refine⟨hC,fun i o' hi ho hr=>⟨hJ i om,o',by rw[jS H o i om];exact ho,hr⟩,fun i sz l hi ho=>⟨l,by rw[jS H o i om];exact ho,aJ _,fun _=>hJ i om⟩⟩
theorem r8 {n:Nat} {H:Hp} {o:Ob} (hn:n<=H.length) (h:Clean n H):Clean n (H++[o]):=by
 intro i c hi ho;rw[jS H o i om]at ho;exact h i c hi ho
theorem Inv.alloc (hI:Inv cx g H w) (hnb:nb<=H.length) {w1:World} (hw1:w1.heap=w.heap) (ho:w1.os=w.os) (ht:w1.tape=w.tape) (hp:w1.output=w.output)
 {cs:Array Value} {T:TypeId} {o:Ob} {cap:Nat} {vs:List Value} (hvs:vs <+:cs.toList) (hu:∀ c,o= .box c->br H.length c=true)
 (hob:∀ (g':Gh) (w':World),Keep H.length g H g' (H++[o])->g'.C w.heap.size=vs->w'.heap[w.heap.size]? =some (.cells cs T (0,0))->zn g' (H++[o]) w' w.heap.size cap o):
 ∃ g',Inv cx g' (H++[o]) (w1.alloc (.cells cs T))/\Ext nb g H w g' (H++[o]) (w1.alloc (.cells cs T))/\g'.J H.length=some (w.heap.size,cap)/\g'.C w.heap.size=vs:=by
 let g':Gh:={J:=fun i=>if i=H.length then some (w.heap.size,cap) else g.J i,C:=fun b=>if b=w.heap.size then vs else g.C b };have hsz:w1.heap.size=w.heap.size:=by rw[hw1]
 have hC:∀ b,g.C b <+:g'.C b:=by
  intro b;show _ <+:if b=w.heap.size then vs else g.C b
  split
  ·rename_i hb;subst hb;rw[hI.DO (ai _)];exact dV
  ·exact aJ _
 have hJ:∀ i,i < H.length->g'.J i=g.J i:=fun i hi=>aA om;have hJn:g'.J H.length=some (w.heap.size,cap):=ay rfl;have hCn:g'.C w.heap.size=vs:=ay rfl;have hCo:∀ b,b≠w.heap.size->g'.C b=g.C b:=fun b hb=>aA hb;have hold:∀ b,b < w.heap.size->(w1.alloc (.cells cs T)).heap[b]? =w.heap[b]? :=fun b hb=>by rw[heap_alloc_old _ _ om,hw1]
 have hnew:(w1.alloc (.cells cs T)).heap[w.heap.size]? =some (.cells cs T (0,0)):=by rw[<-hsz];exact heap_alloc_new _ _
 have hkeep:Keep H.length g H g' (H++[o]):=uP _ _ _ _ _ (ai _) hC hJ;have hJc:∀ i b c,g'.J i=some (b,c)->(i=H.length/\b=w.heap.size/\c=cap)\/(i < H.length/\g.J i=some (b,c)):=by
  intro i b c h;by_cases hi:i=H.length
  ·subst hi;rw[hJn]at h;cases h;exact .inl ⟨rfl,rfl,rfl⟩
  ·have h':g.J i=some (b,c):=by simpa only[g',aA hi] using h
   exact .inr ⟨(hI.dom i b c h').1,h'⟩
 refine⟨g',⟨?_,?_,?_,?_,?_,?_,hI.fix.mono fun b hb hn=>⟨hold b hb,fun k c hk=>by rcases hJc k b c hk with⟨_,e2,_⟩|⟨_,e2⟩;omega;exact hn k c e2⟩⟩,⟨ho,ht,hp,by simp[hsz],?_,hkeep,?_,?_,by simp⟩,hJn,hCn⟩
 ·intro i k b c c' h1 h2;rcases hJc i b c h1 with⟨e1,e2,_⟩|⟨e1,e2⟩<;>rcases hJc k b c' h2 with⟨f1,f2,_⟩|⟨f1,f2⟩
  ·omega
  ·have:=(hI.dom _ _ _ f2).2;omega
  ·have:=(hI.dom _ _ _ e2).2;omega
  ·exact hI.inj i k b c c' e2 f2
 ·intro i b c h;rcases hJc i b c h with⟨rfl,rfl,_⟩|⟨e1,e2⟩
  ·simp[hsz]
  ·have:=hI.dom _ _ _ e2;simp[hsz];omega
 ·intro i b c o' h h';rcases hJc i b c h with⟨rfl,rfl,rfl⟩|⟨e1,e2⟩
  ·rw[iC]at h';cases h';exact hob g' _ hkeep hCn hnew
  ·rw[jS H o i e1]at h';have hd:=hI.dom _ _ _ e2;exact(hI.ob i b c o' e2 h').ext hkeep.w (hold b hd.2) (hCo b om) (xT hI h')
 ·intro b hb;by_cases hbs:b=w.heap.size
  ·subst hbs;rw[hCn];exact⟨cs,T,(0,0),hnew,hvs⟩
  ·rw[hCo b hbs]at hb⊢;obtain⟨cur,e,fz,h1,h2⟩:=hI.imm b hb;have:=(aS.1 h1).1;exact⟨cur,e,fz,by rw[hold b this];exact h1,h2⟩
 ·intro i c hi hc;by_cases hil:i=H.length
  ·subst hil;rw[iC]at hc;cases hc;exact fE (by simp) _ (hu c rfl)
  ·have hil':i < H.length:=by simp at hi;omega
   rw[jS H o i hil']at hc;exact fE (by simp) _ (hI.und i c hil' hc)
 ·intro i;obtain⟨us,h1,h2⟩:=hI.glob i;exact⟨us,h1.trans (hC i),gq hC _ _ h2⟩
 ·intro b hb hj;exact⟨hold b hb,hCo b om⟩
 ·intro i b c h hb;rcases hJc i b c h with⟨_,e2,_⟩|⟨e1,e2⟩
  ·omega
  ·exact⟨i,c,e2⟩
 ·intro n hn hc;exact r8 om hc
theorem Inv.lit (hI:Inv cx g H w) {cs:Array Value} {T:TypeId}:
 ∃ g',Inv cx g' H (w.alloc (.cells cs T))/\Ext nb g H w g' H (w.alloc (.cells cs T))/\g'.C w.heap.size=cs.toList:=by
 let g':Gh:={J:=g.J,C:=fun b=>if b=w.heap.size then cs.toList else g.C b };have hC:∀ b,g.C b <+:g'.C b:=by
  intro b;show _ <+:if b=w.heap.size then cs.toList else g.C b
  split
  ·rename_i hb;subst hb;rw[hI.DO (ai _)];exact dV
  ·exact aJ _
 have hCn:g'.C w.heap.size=cs.toList:=ay rfl;have hCo:∀ b,b≠w.heap.size->g'.C b=g.C b:=fun b hb=>aA hb;have hold:∀ b,b < w.heap.size->(w.alloc (.cells cs T)).heap[b]? =w.heap[b]? :=fun b hb=>heap_alloc_old _ _ hb;have hnew:(w.alloc (.cells cs T)).heap[w.heap.size]? =some (.cells cs T (0,0)):=heap_alloc_new _ _;have hkeep:Keep H.length g H g' H:=⟨hC,fun i o hi ho hr=>⟨rfl,o,ho,hr⟩,fun i sz l hi ho=>⟨l,ho,aJ _,fun _=>rfl⟩⟩;refine⟨g',⟨hI.inj,fun i b c h=>?_,fun i b c o h h'=>?_,fun b hb=>?_,hI.und,fun i=>?_,hI.fix.mono fun b hb hn=>⟨hold b hb,hn⟩⟩,⟨rfl,rfl,rfl,by simp,fun b hb _=>⟨hold b hb,hCo b om⟩,hkeep,fun i b c h _=>⟨i,c,h⟩,fun _ _ h=>h,ai _⟩,hCn⟩
 ·have:=hI.dom i b c h;simp;omega
 ·have hd:=hI.dom i b c h;exact(hI.ob i b c o h h').ext hkeep.w (hold b hd.2) (hCo b om) (xT hI h')
 ·by_cases hbs:b=w.heap.size
  ·subst hbs;rw[hCn];exact⟨cs,T,(0,0),hnew,aJ _⟩
  ·rw[hCo b hbs]at hb⊢;obtain⟨cur,e,fz,h1,h2⟩:=hI.imm b hb;have:=(aS.1 h1).1;exact⟨cur,e,fz,by rw[hold b this];exact h1,h2⟩
 ·obtain⟨us,h1,h2⟩:=hI.glob i;exact⟨us,h1.trans (hC i),gq hC _ _ h2⟩
end
section
variable {P:Program} {cx:Cx} {nb:Nat} {g:Gh} {H:Hp} {w:World} {o:Oper} {a:Act}
theorem nC {s:Sem Value} {x:Value} {w':World} (h:s.run P w= .ok x w'):(do pure (Next.value (<-s)):Sem Next).run P w= .ok (.value x) w':=by
 simp[h]
theorem PU {s:Sem Unit} {w':World} (h:s.run P w= .ok () w'):(do s;pure Next.skip:Sem Next).run P w= .ok .skip w':=by
 simp[h]
theorem WD (hI:Inv cx g H w) {x:Operand} (hop:o.op= .move x\/o.op= .assign x) {v:V} (hr:bW g H v (a.eval x)) (hu:v.und H.length=true):
 bK P cx nb g H w v H ((execOp a.eval o).run P w):=by
 refine bK.pure hI ?_ hr hu;rcases hop with h|h<;>simp[execOp,h]
theorem Uy (hI:Inv cx g H w) {c x y:Operand} (hop:o.op= .pick c x y) {t:Bool} {vx vy:V} (hc:bW g H (.d (.bool t)) (a.eval c)) (hx:bW g H vx (a.eval x)) (hy:bW g H vy (a.eval y))
 (ux:vx.und H.length=true) (uy:vy.und H.length=true):bK P cx nb g H w (if t then vx else vy) H ((execOp a.eval o).run P w):=by
 have hc':=oW hc;refine bK.pure (x:=if t then a.eval x else a.eval y) hI ?_ ?_ ?_
 ·simp[execOp,hop,hc',asBool]
 ·cases t<;>simp_all
 ·cases t<;>simp_all
theorem oR {t:TypeId} {z:List V} (h:zeroCells P t=some z):∃ i zv,P.info? t=some i/\i.zero=some zv/\qa zv.cells.toList=some z:=by
 unfold zeroCells at h;split at h
 ·rename_i i hi;split at h
  ·rename_i zv hz;exact⟨i,zv,hi,hz,h⟩
  ·cases h
 ·cases h
theorem Uv (hI:Inv cx g H w) (hnb:nb<=H.length) {t:TypeId} (hop:o.op= .alloc t) {z:List V} (hz:zeroCells P t=some z):
 bK P cx nb g H w (.ptr H.length 0) (H++[.box z]) ((execOp a.eval o).run P w):=by
 obtain⟨i,zv,hi,hzv,hc⟩:=oR hz;have hrun:(execOp a.eval o).run P w= .ok (.value (.pointer (some ⟨w.heap.size,0,none⟩))) (w.alloc (.cells zv.cells t)):=by
  simp[execOp,hop,Instr.alloc,zeroValue,typeInfo,hi,hzv,newVar,newRow]
 obtain⟨_,hu⟩:=iJ (g:=g) (H:=H) hc
 obtain⟨g',h1,h2,h3,h4⟩:=hI.alloc (nb:=nb) hnb (w1:=w) rfl rfl rfl rfl (cs:=zv.cells) (T:=t) (o:= .box z) (cap:=0) (vs:=[]) dV
  (by rintro c ⟨⟩;exact fE (aR _) _ hu)
  (fun g' w' hk hC hw=>⟨_,_,hw,(iJ hc).1,hC⟩)
 rw[hrun];refine .val g' _ _ h1 ?_ ?_ h2
 ·simp only[bW];exact⟨⟨_,iC H _,by simp⟩,_,_,h3,rfl⟩
 ·simp[V.und]
theorem YG (hI:Inv cx g H w) (hnb:nb<=H.length) {t:TypeId} {x:Operand} (hop:o.op= .box t x) {v:V} (hr:bW g H v (a.eval x)) (hu:v.und H.length=true) (ho:v.cells.all V.one=true):
 bK P cx nb g H w (.ptr H.length 0) (H++[.box v.cells]) ((execOp a.eval o).run P w):=by
 have hrun:(execOp a.eval o).run P w= .ok (.value (.pointer (some ⟨w.heap.size,0,none⟩))) (w.alloc (.cells (a.eval x).cells t)):=by
  simp[execOp,hop,Instr.box,newVar,newRow]
 have hcs:=yI ho hr;have huc:=uj hu ho
 obtain⟨g',h1,h2,h3,h4⟩:=hI.alloc (nb:=nb) hnb (w1:=w) rfl rfl rfl rfl (cs:=(a.eval x).cells) (T:=t) (o:= .box v.cells) (cap:=0) (vs:=[]) dV
  (by rintro c ⟨⟩;exact huc)
  (fun g' w' hk hC hw=>⟨_,_,hw,lr hk.w _ _ huc hcs,hC⟩)
 rw[hrun];refine .val g' _ _ h1 ?_ ?_ h2
 ·simp only[bW];exact⟨⟨_,iC H _,by simp⟩,_,_,h3,rfl⟩
 ·simp[V.und]
theorem AN (hI:Inv cx g H w) {x:Operand} (hop:o.op= .nilCheck x) {v:V} (hv:(∃ id off,v= .ptr id off)\/(∃ f c,v= .fn f c)\/∃ f c,v= .fm f c) (hr:bW g H v (a.eval x)) (hu:v.und H.length=true):
 bK P cx nb g H w v H ((execOp a.eval o).run P w):=by
 refine bK.pure hI ?_ hr hu;rcases hv with⟨id,off,rfl⟩|⟨f,c,rfl⟩|⟨f,c,rfl⟩
 ·simp only[bW]at hr;obtain⟨_,b,c,_,hx⟩:=hr;simp[execOp,hop,hx]
 ·simp only[bW]at hr;obtain⟨cs,hx,_⟩:=hr;simp[execOp,hop,hx]
 ·simp only[bW]at hr;obtain⟨cs,hx,_⟩:=hr;simp[execOp,hop,hx]
theorem YH (hI:Inv cx g H w) {op:BinOp} {t u:TypeId} {x y:Operand} (hop:o.op= .binOp op t x y u) {vx vy r:V} (h:fJ op vx vy=some r) (rx:bW g H vx (a.eval x)) (ry:bW g H vy (a.eval y)):
 bK P cx nb g H w r H ((execOp a.eval o).run P w):=by
 obtain⟨z,h1,h2,h3⟩:=VQ (P:=P) (w:=w) t h rx ry x y;refine bK.pure hI ?_ h2 h3;simp only[execOp,hop];exact nC h1
theorem Ci {t:TypeId} {ms} (ht:P.underlying t=some (.interface ms)) (x:Value) (b:Bool) (hx:(b=true/\x= .nilIface)\/(b=false/\∃ u y,x= .iface u y)):(Op.equal t x .nilIface).run P w= .ok b w:=by
 show(Op.equalIn Op.maxDepth t x .nilIface).run P w=_;generalize hd:Op.maxDepth=d;cases d with
 |zero=>cases hd
 |succ d=>rcases hx with⟨rfl,rfl⟩|⟨rfl,u,y,rfl⟩<;>(rw[Op.equalIn];simp[run_underlying ht])
theorem QE (hI:Inv cx g H w) {neg:Bool} {t u:TypeId} {x:Operand} (hop:o.op= .binOp (if neg then .neq else .eql) t x (.const .nilIface) u) {ms} (ht:P.underlying t=some (.interface ms)) {b:Bool} (rx:bW g H (.ifc b) (a.eval x)):
 bK P cx nb g H w (.d (.bool (if neg then !b else b))) H ((execOp a.eval o).run P w):=by
 simp only[bW]at rx;have he:=Ci (w:=w) ht (a.eval x) b rx;refine bK.pure hI ?_ (qN _) rfl;simp only[execOp,hop];refine nC ?_;rcases rx with⟨rfl,hx⟩|⟨rfl,v,y,hx⟩<;>rw[hx]at he⊢ <;>cases neg<;>simp[eqGuard,binOp,Act.eval,he]
theorem a6m (hI:Inv cx g H w) {op:UnOp} {t:TypeId} {x:Operand} (hop:o.op= .unOp op t x) {v r:V} (h:OH op v=some r) (rx:bW g H v (a.eval x)):
 bK P cx nb g H w r H ((execOp a.eval o).run P w):=by
 unfold OH at h;split at h
 ·rename_i k n;cases op<;>simp only at h<;>cases h;refine bK.pure hI ?_ (lX _ _) rfl;simp[execOp,hop,ng rx,Op.unary,Op.intArith]
 ·rename_i b;cases op<;>simp only at h<;>cases h;refine bK.pure hI ?_ (qN _) rfl;simp[execOp,hop,oW rx,Op.unary]
 ·cases h
theorem UB (hI:Inv cx g H w) {s t:TypeId} {x:Operand} (hop:o.op= .convert s t x) {k k0:IntKind} (hs:P.underlying s=some (.int k0)) (ht:P.underlying t=some (.int k)) {k':IntKind} {n:Int} (rx:bW g H (.d (.int k' n)) (a.eval x)):
 bK P cx nb g H w (.d (.int k (k.wrap n))) H ((execOp a.eval o).run P w):=by
 refine bK.pure hI ?_ (lX _ _) rfl;simp only[execOp,hop,ng rx];refine nC ?_;simp[convert,run_underlying hs,run_underlying ht,Conv.intToInt]
theorem Uz (hI:Inv cx g H w) {f:Nat} {first caps:Array Operand} (hop:o.op= .makeFunc (.func f) first caps) (hf:first.isEmpty=true) {c:List V} (hr:bN g H c (caps.toList.map a.eval)) (hu:br H.length c=true):
 bK P cx nb g H w (.fn f c) H ((execOp a.eval o).run P w):=by
 have:first= #[]:=by simpa using hf
 subst this;refine bK.pure (x:= .func (.func f) #[] (caps.map a.eval)) hI ?_ ?_ ?_
 ·simp[execOp,hop,Instr.makeFunc]
 ·simp only[bW];exact⟨_,rfl,by simpa using hr⟩
 ·simpa only[V.und] using hu
theorem YF (hI:Inv cx g H w) {x:Operand} {i:Nat} (hop:o.op= .extract x i) {l:List V} {v:V} (hl:l[i]? =some v) (hr:bW g H (.tup l) (a.eval x)) (hu:(V.tup l).und H.length=true):
 bK P cx nb g H w v H ((execOp a.eval o).run P w):=by
 simp only[bW]at hr;obtain⟨cs,hx,hr⟩:=hr;have get:∀ {l:List V} {vs:List Value} {i:Nat} {v:V},bN g H l vs->l[i]? =some v->∃ y,vs[i]? =some y/\bW g H v y:=by
  intro l;induction l with
  |nil=>intro vs i v _ h;simp at h
  |cons q l ih=>
   intro vs i v r h;simp only[bN]at r;obtain⟨y,ys,rfl,h1,h2⟩:=r;cases i with
   |zero=>simp only[aV,aa]at h;subst h;exact⟨y,rfl,h1⟩
   |succ i=>simp only[bR]at h⊢;exact ih h2 h
 obtain⟨y,h1,h2⟩:=get hr hl;refine bK.pure (x:=y) hI ?_ h2 (sQ (by simpa only[V.und] using hu) hl);have h1':cs[i]? =some y:=by simpa using h1
 simp[execOp,hop,hx,Instr.extract,h1']
theorem Fx {b off:Nat} {cur:Array Value} {e:TypeId} {fz:Nat×Nat} (h:w.heap[b]? =some (.cells cur e fz)) (j:Nat):w.cell? ((⟨b,off,none⟩:Addr).add j)=cur[off+j]? :=by
 rw[Addr.add_lit,cell_of_row w b (off+j) cur e fz h]
theorem Kw (hI:Inv cx g H w) {v:V} {x:Value} {c:List V} {off:Nat} (h:mc H v=some (c,off)) (r:bW g H v x) (hu:v.und H.length=true):
 ∃ b o',x= .pointer (some ⟨b,o'+off,none⟩)/\br H.length c=true/\(c=[]\/∃ cur e fz vs,w.heap[b]? =some (.cells cur e fz)/\vs <+:cur.toList.drop o'/\cP g H c vs):=by
 unfold mc at h;split at h
 ·rename_i id off';simp only[bW]at r;obtain⟨⟨ob,ho,_⟩,b,cap,hJ,rfl⟩:=r;split at h
  ·rename_i c' hc;simp only[aa,aN]at h;obtain⟨rfl,rfl⟩:=h;obtain⟨cur,e,h1,h2,_⟩:=hI.ob id b cap _ hJ hc;exact⟨b,0,by simp,hI.und id _ (az.1 hc).1 hc,.inr ⟨cur,e,(0,0),cur.toList,h1,by simp,h2⟩⟩
  ·rename_i c' hc;simp only[aa,aN]at h;obtain⟨rfl,rfl⟩:=h;have hob:db g.C c' (g.C b):=hI.ob id b cap _ hJ hc;refine⟨b,0,by simp,mH _ _,?_⟩;by_cases hn:g.C b=[]
   ·rw[hn]at hob;have hl:=oJ hob;left;have:c'=[]:=bZ (by simpa using hl.symm);subst this;rfl
   ·obtain⟨cur,e,fz,h1,h2⟩:=hI.imm b hn;exact .inr ⟨cur,e,fz,g.C b,h1,by simpa using h2,nY hob⟩
  ·cases h
 ·rename_i l off';simp only[aa,aN]at h;obtain⟨rfl,rfl⟩:=h;simp only[bW]at r;obtain⟨b,o',vs,rfl,h1,h2⟩:=r;refine⟨b,o',rfl,mH _ _,?_⟩;by_cases hn:g.C b=[]
  ·rw[hn,List.drop_nil]at h1;have hv:vs=[]:=List.prefix_nil.1 h1;subst hv;have hl:=oJ h2;left;have:l=[]:=bZ (by simpa using hl.symm);subst this;rfl
  ·obtain⟨cur,e,fz,h3,h4⟩:=hI.imm b hn;exact .inr ⟨cur,e,fz,vs,h3,h1.trans (lB h4 o'),nY h2⟩
 ·cases h
theorem yO {t:TypeId} {n:Option Nat} (h:rj P t=some n):
 (n=none/\(∀ w,(isAgg t).run P w= .ok false w)/\∃ i,P.info? t=some i/\i.size=1)\/
 (∃ k,n=some k/\(∀ w,(isAgg t).run P w= .ok true w)/\∃ i,P.info? t=some i/\i.size=k):=by
 unfold rj b0s at h;cases hu:P.underlying t with
 |none=>rw[hu]at h;cases h
 |some d=>
  rw[hu]at h;have ha:∀ w,(isAgg t).run P w= .ok (match d with| .struct _| .array _ _=>true|_=>false) w:=by
    intro w;simp only[isAgg,Sem.run_bind,run_underlying hu,Result.andThen_ok];cases d<;>rfl
  simp only[aI,sizeT]at h;cases hi:P.info? t with
  |none=>cases d<;>simp[hi]at h
  |some i=>
   cases d<;>simp[hi]at h<;>first
    |(obtain⟨h1,h2⟩:=h;exact .inl ⟨h2.symm,ha,i,rfl,h1⟩)
    |(exact .inr ⟨i.size,h.symm,ha,i,rfl,rfl⟩)
theorem G6 (hI:Inv cx g H w) {t:TypeId} {n:Option Nat} (hs:rj P t=some n) {p r:V} {x:Value} (h:o8 H n p=some r) (hr:bW g H p x) (hu:p.und H.length=true):
 ∃ b off z,x= .pointer (some ⟨b,off,none⟩)/\(loadVar t ⟨b,off,none⟩).run P w= .ok z w/\bW g H r z/\r.und H.length=true:=by
 unfold o8 at h;split at h
 ·cases h
 ·rename_i c off hc;obtain⟨b,o',rfl,huc,hcs⟩:=Kw hI hc hr hu;rcases yO hs with⟨rfl,ha,_⟩|⟨k,rfl,ha,i,hi,hk⟩
  ·simp only[gI]at h;rcases hcs with rfl|⟨cur,e,fz,vs,h1,h2,h3⟩
   ·simp at h
   ·obtain⟨y,hy,_,hr⟩:=qR h3 h;have hy':=eJ h2 hy;rw[cw]at hy';refine⟨b,_,y,rfl,?_,hr,sQ huc h⟩;have hcell:w.cell? ⟨b,o'+off,none⟩=some y:=by
     rw[cell_of_row w b (o'+off) cur e fz h1];simpa using hy'
    simp[loadVar,ha,hcell]
  ·simp only[gI]at h;split at h
   ·rename_i hlen;simp only[aa]at h;subst h;rcases hcs with rfl|⟨cur,e,fz,vs,h1,h2,h3⟩
    ·simp only[aH,Nat.le_zero]at hlen;obtain rfl:k=0:=om;refine⟨b,_,.agg #[],rfl,?_,?_,?_⟩
     ·simp[loadVar,ha,sizeOf,typeInfo,hi,hk,loadCells,loadCellsFrom]
     ·simp[kb,kC,bW,du,db]
     ·simp[kb,kC,V.und]
    ·have hvl:=gM h3;have hl:((vs.drop off).take k).length=k:=by simp;omega
     refine⟨b,_,.agg ((vs.drop off).take k).toArray,rfl,?_,uK (sb k (sc off h3)),uJ (uk k (um off huc))⟩;have hload:(loadCells ⟨b,o'+off,none⟩ k).run P w= .ok ((vs.drop off).take k).toArray w:=by
      have:=run_loadCells_list (P:=P) w ⟨b,o'+off,none⟩ ((vs.drop off).take k) (fun j v hj=>by
        rw[Fx h1 j];rw[aZ]at hj;split at hj
        ·rw[cw]at hj;have:=eJ h2 hj;rw[cw]at this;rw[eM];simpa using this
        ·cases hj)
      rwa [hl]at this
     simp[loadVar,ha,sizeOf,typeInfo,hi,hk,hload]
   ·cases h
theorem a6o (hI:Inv cx g H w) {t:TypeId} {x:Operand} (hop:o.op= .load t x) {n:Option Nat} (hs:rj P t=some n) {p r:V} (h:o8 H n p=some r) (hr:bW g H p (a.eval x)) (hu:p.und H.length=true):
 bK P cx nb g H w r H ((execOp a.eval o).run P w):=by
 obtain⟨b,off,z,hx,h1,h2,h3⟩:=G6 (P:=P) hI hs h hr hu;refine bK.pure hI ?_ h2 h3;simp only[execOp,hop,hx];exact nC (by simp[Instr.loadAt,Instr.sureAddr,h1])
end
section
variable {P:Program} {cx:Cx} {nb:Nat} {g:Gh} {H:Hp} {w:World} {o:Oper} {a:Act}
theorem Jd {t:TypeId} {n:Nat} (h:sizeT P t=some n):∃ i,P.info? t=some i/\i.size=n:=by
 unfold sizeT at h;obtain⟨i,hi,hn⟩:=aj.1 h;exact⟨i,hi,hn⟩
theorem run_sizeOf {t:TypeId} {n:Nat} (h:sizeT P t=some n):(sizeOf t).run P w= .ok n w:=by
 obtain⟨i,hi,rfl⟩:=Jd h;simp[sizeOf,typeInfo,hi]
theorem Ly (hI:Inv cx g H w) {s:TypeId} {x:Operand} {k:Nat} (hop:o.op= .fieldAddr s x k) {fs:Array Field} (hs:P.underlying s=some (.struct fs)) {f:Field} (hf:fs[k]? =some f)
 {n:Nat} (hn:sizeT P f.type=some n) (h0:n≠0) {v r:V}
 (h:(∃ id off,v= .ptr id off/\r= .ptr id (off+f.offset))\/(∃ l off,v= .ro l off/\r= .ro l (off+f.offset))) (hr:bW g H v (a.eval x)) (hu:v.und H.length=true):
 bK P cx nb g H w r H ((execOp a.eval o).run P w):=by
 have run:∀ b p,a.eval x= .pointer (some ⟨b,p,none⟩)->(execOp a.eval o).run P w= .ok (.value (.pointer (some ⟨b,p+f.offset,none⟩))) w:=by
  intro b p hx;simp only[execOp,hop,hx];refine nC ?_;simp[Instr.fieldAt,run_underlying hs,hf,Instr.sureAddr,fieldPlace,run_sizeOf hn,h0,Addr.add_lit]
 rcases h with⟨id,off,rfl,rfl⟩|⟨l,off,rfl,rfl⟩
 ·simp only[bW]at hr;obtain⟨ho,b,c,hJ,hx⟩:=hr;refine bK.pure hI (run b off hx) ?_ hu;simp only[bW];exact⟨ho,b,c,hJ,rfl⟩
 ·simp only[bW]at hr;obtain⟨b,p,vs,hx,h1,h2⟩:=hr;refine bK.pure hI (run b (p+off) hx) ?_ rfl;simp only[bW];exact⟨b,p,vs,by rw[eM],h1,h2⟩
theorem Uo {t:TypeId} {n:Option Nat} (hs:rj P t=some n) {l:List V} {cs:Array Value} {off:Nat} (hr:cP g H l cs.toList) (hu:br H.length l=true) {r:V}
 (h:gI n l off=some r):
 ∃ z,(part t cs off).run P w= .ok z w/\bW g H r z/\r.und H.length=true:=by
 rcases yO hs with⟨rfl,ha,_⟩|⟨k,rfl,ha,i,hi,hk⟩
 ·simp only[gI]at h;obtain⟨y,hy,_,hr⟩:=qR hr h;have hy':cs[off]? =some y:=by simpa using hy
  exact⟨y,by simp[part,ha,hy'],hr,sQ hu h⟩
 ·simp only[gI]at h;split at h
  ·rename_i hlen;simp only[aa]at h;subst h;refine⟨.agg ((cs.toList.drop off).take k).toArray,?_,uK (sb k (sc off hr)),uJ (uk k (um off hu))⟩;have:cs.extract off (off+k)=((cs.toList.drop off).take k).toArray:=by
    apply dH;simp[Array.toList_extract,List.extract_eq_take_drop]
   simp[part,ha,sizeOf,typeInfo,hi,hk,this]
  ·cases h
theorem QF (hI:Inv cx g H w) {t:TypeId} {x:Operand} {k:Nat} (hop:o.op= .field t x k) {fs:Array Field} (hs:P.underlying t=some (.struct fs)) {f:Field} (hf:fs[k]? =some f)
 {n:Option Nat} (hn:rj P f.type=some n) {l:List V} {v r:V} (hv:v= .agg l\/∃ ds,v= .d (.agg ds)/\l=ds.map V.d)
 (h:gI n l f.offset=some r) (hr:bW g H v (a.eval x)) (hu:v.und H.length=true):
 bK P cx nb g H w r H ((execOp a.eval o).run P w):=by
 have hh:∃ cs:Array Value,a.eval x= .agg cs/\cP g H l cs.toList/\br H.length l=true:=by
  rcases hv with rfl|⟨ds,rfl,rfl⟩
  ·simp only[bW]at hr;obtain⟨cs,h1,h2⟩:=hr;exact⟨cs,h1,h2,by simpa only[V.und] using hu⟩
  ·simp only[bW,du]at hr;obtain⟨cs,h1,h2⟩:=hr;exact⟨cs,h1,nY h2,mH _ _⟩
 obtain⟨cs,hx,hr',hu'⟩:=hh;obtain⟨z,h1,h2,h3⟩:=Uo (P:=P) (w:=w) hn hr' hu' h;refine bK.pure hI ?_ h2 h3;simp only[execOp,hop,hx];exact nC (by simp[Instr.field,run_underlying hs,hf,asAgg,h1])
theorem zF {v:V} {n:Nat} {x:Value} (h:gy v=some n) (r:bW g H v x):∃ k,x= .int k (n:Int):=by
 unfold gy at h;split at h
 ·rename_i k m;split at h
  ·rename_i hm;simp only[aa]at h;refine⟨k,(ng r).trans ?_⟩;congr 1;omega
  ·cases h
 ·cases h
theorem YE (hI:Inv cx g H w) {t:TypeId} {x i:Operand} (hop:o.op= .index t x i) (ht:P.underlying t=some .string) {vi:V} {n:Nat} (hi:gy vi=some n) (ri:bW g H vi (a.eval i)) {s:List UInt8} {b:UInt8} (hb:s[n]? =some b)
 (rx:bW g H (.d (.str s)) (a.eval x)):bK P cx nb g H w (.d (.int .u8 b.toNat)) H ((execOp a.eval o).run P w):=by
 obtain⟨k,hk⟩:=zF hi ri;refine bK.pure hI ?_ (lX _ _) rfl;simp only[execOp,hop,wN rx,hk];refine nC ?_;have hb':(⟨s.toArray⟩:ByteArray)[n]? =some b:=by
  obtain⟨hlt,he⟩:=az.1 hb;have hlt':n < (⟨s.toArray⟩:ByteArray).size:=by simpa [ByteArray.size] using hlt
  rw[ByteArray.getElem?_lt' _ _ hlt'];congr 1
 simp[Instr.index,asIntOf,run_underlying ht,hb']
theorem yn (hI:Inv cx g H w) {v:V} {l:List D} {x:Value} (h:lsize H v=some l) (r:bW g H v x):du g.C (.sl l) x:=by
 unfold lsize at h;split at h
 ·rename_i l' hl;simp only[aa]at h;subst h;exact wH hI hl r
 ·cases h
theorem sY {l:List D} {x:Value} (r:du g.C (.sl l) x):∃ ad cap,x= .slice ad l.length cap/\l.length<=cap/\(l=[]\/∃ b off sz us,ad=some ⟨b,off,none⟩/\0 < sz/\us <+:(g.C b).drop off/\dJ g.C sz l us):=by
 simp only[du,bD]at r;obtain⟨ad,cap,h,r⟩:=r;cases h;exact⟨ad,cap,rfl,r⟩
theorem JG (hI:Inv cx g H w) {t e:TypeId} {x i:Operand} (hop:o.op= .indexAddr t x i) (ht:P.underlying t=some (.slice e)) {sz:Nat} (hsz:sizeT P e=some sz) {vi:V} {n:Nat} (hi:gy vi=some n) (ri:bW g H vi (a.eval i))
 {v:V} {l:List D} {y:D} (hl:lsize H v=some l) (hy:l[n]? =some y) (hc:y.cells.length=sz) (rx:bW g H v (a.eval x)):bK P cx nb g H w (.ro y.cells 0) H ((execOp a.eval o).run P w):=by
 obtain⟨k,hk⟩:=zF hi ri;obtain⟨ad,cap,hx,_,hr⟩:=sY (yn hI hl rx);have hn:=(az.1 hy).1;rcases hr with rfl|⟨b,off,sz',us,rfl,h0,h1,h2⟩
 ·simp at hn
 ·have hg:=qS h2 hy;have hlen:=mj hg;have husl:=gP h2;have hsz':sz'=sz:=by
   rw[hc]at hlen;have:(n+1) *sz'<=l.length*sz':=gT _ om;rw[eH,iL]at this;simp only[bm,bh]at hlen;omega
  subst hsz';refine bK.pure (x:= .pointer (some ⟨b,off+n*sz',none⟩)) hI ?_ ?_ rfl
  ·simp only[execOp,hop,hx,hk];refine nC ?_;simp[Instr.indexAt,asIntOf,run_underlying ht,run_sizeOf hsz,Addr.add_lit];omega
  ·simp only[bW];refine⟨b,off+n*sz',(us.drop (n*sz')).take sz',by simp,?_,qc hg⟩;refine(m7 _ _).trans ?_;rw[<-cr];exact lB h1 _
theorem GL (hI:Inv cx g H w) {t e:TypeId} {x i:Operand} (hop:o.op= .indexAddr t x i) (ht:P.underlying t=some (.slice e)) {sz:Nat} (hsz:sizeT P e=some sz) {vi:V} {n:Nat} (hi:gy vi=some n) (ri:bW g H vi (a.eval i))
 {id off len:Nat} (hn:n < len) (rx:bW g H (.arr id off len) (a.eval x)) (hu:(V.arr id off len).und H.length=true):bK P cx nb g H w (.ptr id (off+n*sz)) H ((execOp a.eval o).run P w):=by
 obtain⟨k,hk⟩:=zF hi ri;simp only[bW]at rx;obtain⟨ho,b,c,cap,hJ,hx,_⟩:=rx;refine bK.pure (x:= .pointer (some ⟨b,off+n*sz,none⟩)) hI ?_ ?_ hu
 ·simp only[execOp,hop,hx,hk];refine nC ?_;simp[Instr.indexAt,asIntOf,run_underlying ht,run_sizeOf hsz,Addr.add_lit,hn]
 ·simp only[bW];exact⟨ho,b,c,hJ,rfl⟩
theorem JF (hI:Inv cx g H w) {x:Operand} {t:TypeId} {ar:Array Operand} {at':Array TypeId} (hop:o.op= .call {callee:= .builtin .len,args:=ar,argTypes:=at' }) (har:ar.toList=[x]) (hat:at'.toList=[t])
 (ht:P.underlying t=some .string) {s:List UInt8} (hr:bW g H (.d (.str s)) (a.eval x)):
 bK P cx nb g H w (.d (.int .i64 s.length)) H ((execOp a.eval o).run P w):=by
 obtain rfl:ar= #[x]:=by apply dH;simpa using har
 obtain rfl:at'= #[t]:=by apply dH;simpa using hat
 refine bK.pure hI ?_ (lX _ _) rfl;simp[execOp,hop,resolve,invoke,builtin,wN hr,run_len_string,ht,ByteArray.size,goInt]
theorem Rl {v:V} {n:Nat} {x:Value} (h:rT v=some n) (r:bW g H v x):∃ ad cap,x= .slice ad n cap:=by
 cases v with
 |d d=>
  cases d with
  |sl l=>simp only[rT,aa]at h;subst h;simp only[bW]at r;obtain⟨ad,cap,hx,_⟩:=sY r;exact⟨ad,cap,hx⟩
  |_=>simp[rT]at h
 |nils=>simp only[rT,aa]at h;subst h;simp only[bW]at r;exact⟨_,_,r⟩
 |nile=>simp only[rT,aa]at h;subst h;simp only[bW]at r;obtain⟨a,r,_⟩:=r;exact⟨_,_,r⟩
 |row id len=>simp only[rT,aa]at h;subst h;simp only[bW]at r;obtain⟨ad,cap,_,_,hx,_⟩:=r;exact⟨ad,cap,hx⟩
 |arr id off len=>simp only[rT,aa]at h;subst h;simp only[bW]at r;obtain⟨_,b,c,cap,_,hx,_⟩:=r;exact⟨_,_,hx⟩
 |_=>simp[rT]at h
theorem NA (hI:Inv cx g H w) {x:Operand} {t e:TypeId} {ar:Array Operand} {at':Array TypeId} (hop:o.op= .call {callee:= .builtin .len,args:=ar,argTypes:=at' }) (har:ar.toList=[x]) (hat:at'.toList=[t])
 (ht:P.underlying t=some (.slice e)) {v:V} {n:Nat} (h:rT v=some n) (hr:bW g H v (a.eval x)):
 bK P cx nb g H w (.d (.int .i64 n)) H ((execOp a.eval o).run P w):=by
 obtain rfl:ar= #[x]:=by apply dH;simpa using har
 obtain rfl:at'= #[t]:=by apply dH;simpa using hat
 obtain⟨ad,cap,hx⟩:=Rl h hr;refine bK.pure hI ?_ (lX _ _) rfl;simp[execOp,hop,resolve,invoke,builtin,hx,Builtin.len_,run_underlying ht,goInt]
theorem WE (hI:Inv cx g H w) {x y:Operand} {mx:Bool} {ar:Array Operand} {at':Array TypeId} (hop:o.op= .call {callee:= .builtin (if mx then .max else .min),args:=ar,argTypes:=at' }) (har:ar.toList=[x,y])
 {k:IntKind} {p q:Int} (rx:bW g H (.d (.int k p)) (a.eval x)) (ry:bW g H (.d (.int k q)) (a.eval y)):
 bK P cx nb g H w (.d (.int k (if mx then max p q else min p q))) H ((execOp a.eval o).run P w):=by
 obtain rfl:ar= #[x,y]:=by apply dH;simpa using har
 refine bK.pure hI ?_ (lX _ _) rfl;cases mx
 ·simp only[eP,iE]at hop⊢;have:min p q=if q < p then q else p:=om
  simp[execOp,hop,resolve,invoke,builtin,ng rx,ng ry,run_min_int2,this]
 ·simp only[cU]at hop⊢;have:max p q=if q> p then q else p:=om
  simp[execOp,hop,resolve,invoke,builtin,ng rx,ng ry,run_max_int2,this]
theorem lz {y code} {k:IntKind} {n:Nat} (h:n<=y):(Instr.sliceBound (.int k (n:Int)) y code).run P w= .ok n w:=by
 simp[Instr.sliceBound,asIntOf,h]
theorem Cu (s:List UInt8) (l h:Nat):(⟨s.toArray⟩:ByteArray).extract l h=⟨((s.take h).drop l).toArray⟩:=by
 apply ByteArray.ext;apply dH;simp[ByteArray.data_extract,List.extract_eq_take_drop,List.drop_take]
theorem Ux (hI:Inv cx g H w) {t:TypeId} {x:Operand} {lo hi:Option Operand} (hop:o.op= .slice t x lo hi none) (ht:P.underlying t=some .string) {s:List UInt8} (rx:bW g H (.d (.str s)) (a.eval x))
 {l h:Nat} (hl:(lo=none/\l=0)\/∃ y k,lo=some y/\a.eval y= .int k (l:Int)) (hh:(hi=none/\h=s.length)\/∃ y k,hi=some y/\a.eval y= .int k (h:Int)) (h1:l<=h) (h2:h<=s.length):
 bK P cx nb g H w (.d (.str ((s.take h).drop l))) H ((execOp a.eval o).run P w):=by
 refine bK.pure hI ?_ (K7 _) rfl;simp only[execOp,hop,wN rx];refine nC ?_;have hsz:(⟨s.toArray⟩:ByteArray).size=s.length:=by simp[ByteArray.size]
 rw[<-Cu];rcases hl with⟨rfl,rfl⟩|⟨yl,kl,rfl,el⟩<;>rcases hh with⟨rfl,rfl⟩|⟨yh,kh,rfl,eh⟩
 ·simp[Instr.sliceAt,run_underlying ht,Instr.slice,Instr.sliceBounds,<-hsz]
 ·simp[Instr.sliceAt,run_underlying ht,Instr.slice,Instr.sliceBounds,hsz,eh,lz h2]
 ·simp[Instr.sliceAt,run_underlying ht,Instr.slice,Instr.sliceBounds,hsz,el,lz h1]
 ·simp[Instr.sliceAt,run_underlying ht,Instr.slice,Instr.sliceBounds,hsz,el,eh,lz h1,lz h2]
theorem YB (hI:Inv cx g H w) {t e:TypeId} {x:Operand} {lo hi:Option Operand} (hop:o.op= .slice t x lo hi none) (ht:P.underlying t=some (.slice e)) {sz:Nat} (hsz:sizeT P e=some sz) {v:V} {s:List D} (hs:lsize H v=some s) (rx:bW g H v (a.eval x))
 {l h:Nat} (hl:(lo=none/\l=0)\/∃ y k,lo=some y/\a.eval y= .int k (l:Int)) (hh:(hi=none/\h=s.length)\/∃ y k,hi=some y/\a.eval y= .int k (h:Int)) (h1:l<=h) (h2:h<=s.length)
 (hall:l=0\/s.all (fun y=>y.cells.length==sz)=true):
 bK P cx nb g H w (.d (.sl ((s.take h).drop l))) H ((execOp a.eval o).run P w):=by
 obtain⟨ad,cap,hx,hlc,hr⟩:=sY (yn hI hs rx);have hrun:(execOp a.eval o).run P w= .ok (.value (.slice (if cap=l then ad else ad.map (·.add (l*sz))) (h - l) (cap - l))) w:=by
  simp only[execOp,hop,hx];refine nC ?_;have h3:h<=cap:=om;rcases hl with⟨rfl,rfl⟩|⟨yl,kl,rfl,el⟩<;>rcases hh with⟨rfl,rfl⟩|⟨yh,kh,rfl,eh⟩
  ·simp[Instr.sliceAt,run_underlying ht,Instr.slice,Instr.sliceBounds,run_sizeOf hsz]
  ·simp[Instr.sliceAt,run_underlying ht,Instr.slice,Instr.sliceBounds,run_sizeOf hsz,eh,lz h3]
  ·simp[Instr.sliceAt,run_underlying ht,Instr.slice,Instr.sliceBounds,run_sizeOf hsz,el,lz h1]
  ·simp[Instr.sliceAt,run_underlying ht,Instr.slice,Instr.sliceBounds,run_sizeOf hsz,el,eh,lz h1,lz h3]
 refine bK.pure hI hrun ?_ rfl;simp only[bW,du,bD];have hlen:((s.take h).drop l).length=h - l:=by simp;omega
 refine⟨_,_,by rw[hlen],by rw[hlen];omega,?_⟩;by_cases he:h=l
 ·left;subst he;apply bZ;rw[hlen];omega
 ·right;rcases hr with rfl|⟨b,off,sz',us,rfl,h0,hp,hel⟩
  ·simp at h2;omega
  ·have hcap:cap≠l:=om;rw[aA hcap];have hel2:=BW l (BU h hel);have hus:=gP hel;by_cases hl0:l=0
   ·subst hl0;refine⟨b,off,sz',us.take (h*sz'),?_,h0,(m7 _ _).trans hp,by simpa using hel2⟩;simp[Addr.add_lit]
   ·have hszz:sz'=sz:=by
     have hall':=hall.resolve_left hl0;have hs0:0 < s.length:=om;have hg:=mj (qS hel (ae hs0));have hc:(s[0]).cells.length=sz:=by
      have:=aC.1 hall' _ (dG hs0);simpa using this
     rw[hc]at hg;have:1*sz'<=s.length*sz':=gT _ om;simp only[Nat.zero_mul,bq,bm]at hg;omega
    subst hszz;refine⟨b,off+l*sz',sz',(us.take (h*sz')).drop (l*sz'),by simp[Addr.add_lit],h0,?_,hel2⟩;rw[<-cr];exact lB ((m7 _ _).trans hp) _
end
section
variable {P:Program} {cx:Cx} {nb:Nat} {g:Gh} {H:Hp} {w:World} {o:Oper} {a:Act}
theorem wQ:∀ (c:List V) (off:Nat) (vs:List V),off+vs.length<=c.length->putAt c off vs=c.take off++vs++c.drop (off+vs.length)
 |c,off,[],h=>by cases c<;>cases off<;>simp[putAt]
 |[],off,v::vs,h=>by simp at h
 |x::c,0,v::vs,h=>by
  simp only[putAt];rw[wQ c 0 vs (by simp at h⊢;omega)];simp
 |x::c,n+1,v::vs,h=>by
  simp only[putAt];rw[wQ c n (v::vs) (by simp at h⊢;omega)];have e:n+1+(v::vs).length=(n+(v::vs).length)+1:=om;rw[e];simp only[cB,cm,al]
theorem sd:∀ {l l':List V} {vs vs':List Value},cP g H l vs->cP g H l' vs'->cP g H (l++l') (vs++vs')
 |[],l',vs,vs',r,r'=>by simp only[cP]at r;subst r;exact r'
 |v::l,l',vs,vs',r,r'=>by
  simp only[cP]at r;obtain⟨y,ys,rfl,h0,h1,h2⟩:=r;simp only[al,cP];exact⟨y,ys++vs',rfl,h0,h1,sd h2 r'⟩
theorem DL {c vs:List V} {cs xs:List Value} {off:Nat} (hc:cP g H c cs) (hv:cP g H vs xs) (h:off+vs.length<=c.length):
 cP g H (putAt c off vs) (cs.take off++xs++cs.drop (off+xs.length)):=by
 rw[wQ c off vs h,<-gM hv];exact sd (sd (sb off hc) hv) (sc _ hc)
theorem sP {n:Nat} {c vs:List V} {off:Nat} (h:off+vs.length<=c.length) (hc:br n c=true) (hv:br n vs=true):br n (putAt c off vs)=true:=by
 rw[wQ c off vs h];exact jN (jN (uk _ hc) hv) (um _ hc)
theorem Keep.set {n:Nat} {id:Nat} {o':Ob} (ho:∃ q,H[id]? =some q/\∀ sz l,q≠ .row sz l) (hr:∀ sz l,o'≠ .row sz l):Keep n g H g (H.set id o'):=by
 obtain⟨q,hq,hqr⟩:=ho;have hid:=(az.1 hq).1;refine⟨fun _=>aJ _,fun i x _ hx hxr=>⟨rfl,?_⟩,fun i sz l _ hx=>⟨l,?_,aJ _,fun _=>rfl⟩⟩
 ·by_cases hi:id=i
  ·subst hi;exact⟨o',by simp[hid],hr⟩
  ·exact⟨x,by rw[aX hi];exact hx,hxr⟩
 ·by_cases hi:id=i
  ·subst hi;rw[hq]at hx;cases hx;exact absurd rfl (hqr _ _)
  ·rw[aX hi];exact hx
theorem Inv.PN (hI:Inv cx g H w) {id b cap:Nat} (hJ:g.J id=some (b,cap)) {c c':List V} (ho:H[id]? =some (.box c)) {w':World} (hos:w'.os=w.os) (ht:w'.tape=w.tape) (hp:w'.output=w.output)
 (hsz:w'.heap.size=w.heap.size) (hheap:∀ k,k≠b->w'.heap[k]? =w.heap[k]?) (hob:zn g (H.set id (.box c')) w' b cap (.box c')) (hu:br H.length c'=true)
 (hcl:∀ n,n<=nb->id < n->br n c=true->br n c'=true):
 Inv cx g (H.set id (.box c')) w'/\Ext nb g H w g (H.set id (.box c')) w':=by
 have hid:=(az.1 ho).1;have hkeep:Keep H.length g H g (H.set id (.box c')):=Keep.set ⟨_,ho,by simp⟩ (by simp);have hCb:g.C b=[]:=by obtain⟨_,_,_,_,h⟩:=hI.ob id b cap _ hJ ho;exact h
 refine⟨⟨hI.inj,fun i b' c'' h=>?_,fun i b' c'' q h hq=>?_,fun b' hb'=>?_,fun i q hi hq=>?_,hI.glob,hI.fix.mono fun b' _ hn=>⟨hheap b' fun e=>hn id cap (e ▸ hJ),hn⟩⟩,⟨hos,ht,hp,om,fun b' hb' hj=>⟨hheap b' fun e=>hj id cap (e ▸ hJ),rfl⟩,hkeep,fun i b' c'' h _=>⟨i,c'',h⟩,fun n hn hc i q hi hq=>?_,by simp⟩⟩
 ·have:=hI.dom i b' c'' h;simp;omega
 ·by_cases hi:id=i
  ·subst hi;rw[hJ]at h;cases h;simp only[bu hid,aa]at hq;subst hq;exact hob
  ·rw[aX hi]at hq;have hne:b'≠b:=fun e=>hi (hI.inj _ _ _ _ _ hJ (e ▸ h));exact(hI.ob i b' c'' q h hq).ext hkeep.w (hheap b' hne) rfl (xT hI hq)
 ·have hne:b'≠b:=fun e=>hb' (e ▸ hCb);rw[hheap b' hne];exact hI.imm b' hb'
 ·simp only[cX]at hi⊢;by_cases hii:id=i
  ·subst hii;simp only[bu hid,aa,Ob.box.injEq]at hq;subst hq;exact hu
  ·rw[aX hii]at hq;exact hI.und i q hi hq
 ·by_cases hii:id=i
  ·subst hii;simp only[bu hid,aa,Ob.box.injEq]at hq;subst hq;exact hcl n hn hi (hc id c hi ho)
  ·rw[aX hii]at hq;exact hc i q hi hq
theorem Gj {c:List V} {off m:Nat}:∀ {xs:List V},nf c off xs=true->br m c=true->br m xs=true
 |[],h,_=>by cases h
 |_::_::_,h,_=>by
  unfold nf at h;split at h
  ·rename_i hh;cases hh
  ·cases h
 |[v],h,hc=>by
  unfold nf at h;split at h
  ·rename_i i n hv;cases hv;split at h
   ·rename_i j k hj;have:=sQ hc hj;have e:i=j:=Nat.eq_of_beq_eq_true h;subst e;simp only[V.und]at this;simp only[br,V.und,this,cF]
   ·cases h
  ·cases h
theorem a6n (hI:Inv cx g H w) {t:TypeId} {x y:Operand} (hop:o.op= .store t x y) {n:Nat} (hn:sizeT P t=some n) {p v:V} {H':Hp} (h:sW nb H n p v=some H') (rp:bW g H p (a.eval x)) (rv:bW g H v (a.eval y)) (uv:v.und H.length=true):
 bK P cx nb g H w .undef H' ((execOp a.eval o).run P w):=by
 unfold sW at h;split at h
 ·rename_i id off;split at h
  ·rename_i c hc;split at h
   ·rename_i hcond;obtain⟨h1,h2,h3,h4⟩:=hcond;simp only[aa]at h;subst h;simp only[bW]at rp;obtain⟨_,b,cap,hJ,hx⟩:=rp;obtain⟨cur,e,hb,hcur,hC⟩:=hI.ob id b cap _ hJ hc;have hxs:=yI h3 rv;have hxl:=gM hxs;have hcl:=gM hcur;have hlen:off+v.cells.length<=c.length:=om;have hrun:(execOp a.eval o).run P w= .ok .skip (w.setRow b (cur.toList.take off++(a.eval y).cells.toList++cur.toList.drop (off+(a.eval y).cells.toList.length)).toArray):=by
     simp only[execOp,hop,hx];refine PU ?_;have hst:=run_storeCells_at P b off e (a.eval y).cells.toList 0 cur w hb (by simp at hxl hcl⊢;omega) (BT hxs);simp only[ep]at hst;have hsz:(a.eval y).cells.size=n:=by simp at hxl;omega
     simp only[kJ]at hst;simp[Instr.storeAt,Instr.sureAddr,storeVar,run_sizeOf hn,hsz];simpa [hsz] using hst
    rw[hrun];have hu':=uj uv h3
    obtain⟨i1,i2⟩:=hI.PN (nb:=nb) hJ hc (c':=putAt c off v.cells) (w':=w.setRow b (cur.toList.take off++(a.eval y).cells.toList++cur.toList.drop (off+(a.eval y).cells.toList.length)).toArray) rfl rfl rfl (setRow_size w b _) (fun k hk=>setRow_other w b k _ hk)
      ⟨_,e,setRow_heap w b cur _ e (0,0) hb,lr (Keep.set (n:=H.length) ⟨_,hc,by simp⟩ (by simp)).w _ _ (sP hlen (hI.und id c (az.1 hc).1 hc) hu') (DL hcur hxs hlen),hC⟩
      (sP hlen (hI.und id c (az.1 hc).1 hc) hu')
      (fun m hm hidm hcm=>sP hlen hcm (by
        rcases eb.1 h4 with h4|h4
        ·rcases eb.1 h4 with h4|h4
         ·exact fE om _ h4
         ·simp at h4;omega
        ·exact Gj h4 hcm))
    exact .skip g _ i1 rfl i2
   ·cases h
  ·cases h
 ·cases h
end
section
variable {P:Program} {cx:Cx} {nb:Nat} {g:Gh} {H:Hp} {w:World} {o:Oper} {a:Act}
theorem foldl_set (off:Nat):∀ (vs:List Value) (k:Nat) (cs:Array Value),off+k+vs.length<=cs.size->
 ((vs.zipIdx k).foldl (fun(cs:Array Value) (q:Value×Nat)=>cs.setIfInBounds (off+q.2) q.1) cs).toList=cs.toList.take (off+k)++vs++cs.toList.drop (off+k+vs.length)
 |[],k,cs,h=>by simp
 |v::vs,k,cs,h=>by
  simp only[List.zipIdx_cons,fL];simp only[aw]at h;rw[foldl_set off vs (k+1) _ (by simp;omega)];simp only[Array.toList_setIfInBounds,aw];have h1:off+k < cs.toList.length:=by simp;omega
  rw[<-eM,List.take_set,List.drop_set_of_lt om];have e:(cs.toList.take (off+k+1)).set (off+k) v=cs.toList.take (off+k)++[v]:=by
   have hm:(cs.toList.take (off+k)).length=off+k:=by simp at h1⊢;omega
   rw[List.take_succ_eq_append_getElem h1,mF _ _ om,hm,dR];rfl
  rw[e];simp[eM,ja 1]
theorem Dz {place:Nat->Option (Nat×Nat)} {cells:Array Value} {i:Nat} {v:Value} {rest:List (Nat×Value)} {off size:Nat} (hp:place i=some (off,size)) (hs:v.cells.size=size) (hl:off+size<=cells.size):
 Instr.fill place cells ((i,v)::rest)=Instr.fill place (cells.toList.take off++v.cells.toList++cells.toList.drop (off+size)).toArray rest:=by
 have e:(v.cells.zipIdx.foldl (fun(cs:Array Value) (x:Value×Nat)=>match x with|(c,j)=>cs.setIfInBounds (off+j) c) cells)=(cells.toList.take off++v.cells.toList++cells.toList.drop (off+size)).toArray:=by
   apply dH;have:=foldl_set off v.cells.toList 0 cells (by simp;omega);rw[<-Array.foldl_toList,Array.toList_zipIdx];simp only[ep,kJ,hs]at this;exact this
 simp only[Instr.fill,hp];rw[aA (by simp[hs];omega)];exact aG (fun c=>Instr.fill place c rest) e
theorem HF {place:Nat->Option (Nat×Nat)}:∀ {ps:List (Nat×Nat×V)} {qs:List (Nat×Value)} {z c:List V} {cells:Array Value},p6 z ps=some c->cP g H z cells.toList->br H.length z=true->
 (List.length ps=qs.length)->(∀ (i:Nat) (p:Nat×Nat×V) (q:Nat×Value),ps[i]? =some p->qs[i]? =some q->place q.1=some (p.1,p.2.1)/\p.2.2.cells.all V.one=true/\bW g H p.2.2 q.2/\p.2.2.und H.length=true)->
 ∃ cells',Instr.fill place cells qs=some cells'/\cP g H c cells'.toList/\br H.length c=true
 |[],qs,z,c,cells,h,rz,uz,hlen,_=>by
  simp only[p6,aa]at h;subst h;obtain rfl:qs=[]:=bZ hlen.symm;exact⟨cells,rfl,rz,uz⟩
 |(off,n,v)::ps,qs,z,c,cells,h,rz,uz,hlen,hall=>by
  match qs,hlen with
  |(i,x)::qs,hlen=>
   simp only[p6]at h;split at h
   ·rename_i hc;obtain⟨h1,h2⟩:=hc;obtain⟨p1,p2,p3,p4⟩:=hall 0 _ _ rfl rfl;dsimp only at p1 p2 p3 p4;have hxs:=yI p2 p3;have hxl:=gM hxs;have hzl:=gM rz;have hs:x.cells.size=n:=by simp at hxl;omega
    rw[Dz p1 hs (by simp at hzl;omega)];refine HF h ?_ (sP om uz (uj p4 p2)) (by simpa using hlen) (fun k p q hp hq=>hall (k+1) p q (by simpa using hp) (by simpa using hq));have:=DL (off:=off) rz hxs om;simpa [hs] using this
   ·cases h
theorem Db {fs:Array Field}:∀ {ps:List (Nat×Operand)} {vs:List (Nat×Nat×eo)},yf fs P ps=some vs->ps.length=vs.length/\∀ (i:Nat) (p:Nat×Operand) (v:Nat×Nat×eo),ps[i]? =some p->vs[i]? =some v->∃ f:Field,fs[p.1]? =some f/\sizeT P f.type=some v.2.1/\v.1=f.offset/\iq p.2=some v.2.2
 |[],vs,h=>by simp only[yf,aa]at h;subst h;exact⟨rfl,by simp⟩
 |(i,x)::ps,vs,h=>by
  simp only[yf]at h;split at h
  ·rename_i f v vs' hf hv hvs;obtain⟨n,hn,rfl⟩:=aj.1 h;obtain⟨h1,h2⟩:=Db hvs;refine⟨by simp[h1],fun k p q hp hq=>?_⟩;cases k with
   |zero=>simp at hp hq;subst hp;subst hq;exact⟨f,hf,hn,rfl,hv⟩
   |succ k=>exact h2 k p q (by simpa using hp) (by simpa using hq)
  ·cases h
theorem C9:∀ (fs:List Field),fs.all (fun f=>(P.info? f.type).isSome)=true->∃ pl,fs.mapM (fun f=>(P.info? f.type).map fun i=>(f.offset,i.size))=some pl/\∀ (i:Nat) (f:Field) (n:Nat),fs[i]? =some f->sizeT P f.type=some n->pl[i]? =some (f.offset,n)
  |[],_=>⟨[],by simp,by simp⟩
  |f::fs,h=>by
   simp only[aQ,ab]at h;obtain⟨i,hi⟩:=Option.isSome_iff_exists.1 h.1;obtain⟨pl,h1,h2⟩:=C9 fs h.2;refine⟨(f.offset,i.size)::pl,by simp[iF,hi,h1],fun k f' n hk hn=>?_⟩;cases k with
   |zero=>simp only[aV,aa]at hk⊢;subst hk;simp[sizeT,hi]at hn;simp[hn]
   |succ k=>exact h2 k f' n (by simpa using hk) hn
theorem QI (hI:Inv cx g H w) {N:Nat} {e:Env} (hE:kj g H N e a.tmps) {t:TypeId} {ps:Array (Nat×Operand)} (hop:o.op= .build t ps) {fs:Array Field} (hu:P.underlying t=some (.struct fs)) {z:List V} (hz:zeroCells P t=some z)
 (hall:fs.toList.all (fun f=>(P.info? f.type).isSome)=true) {vs:List (Nat×Nat×eo)} (hvs:yf fs P ps.toList=some vs) (hlt:vs.all (fun p=>p.2.2.lt N)=true) {c:List V}
 (hone:vs.all (fun p=>(di cx e p.2.2).cells.all V.one)=true)
 (h:p6 z (vs.map fun p=>(p.1,p.2.1,di cx e p.2.2))=some c):bK P cx nb g H w (kb c) H ((execOp a.eval o).run P w):=by
 obtain⟨it,zv,hi,hzv,hc⟩:=oR hz;obtain⟨hzr,hzu⟩:=iJ (g:=g) (H:=H) hc;obtain⟨hlen,hparts⟩:=Db hvs;obtain⟨pl,hpl,hplg⟩:=C9 fs.toList hall;obtain⟨cells,h1,h2,h3⟩:=HF (place:=(pl.toArray[·]?)) (qs:=ps.toList.map fun p=>(p.1,a.eval p.2)) h hzr (fE (aR _) _ hzu) (by simp at hlen⊢;omega) (by
   intro i p q hp hq;simp only[bE,aj]at hp hq;obtain⟨v,hv,rfl⟩:=hp;obtain⟨u,hu',rfl⟩:=hq;obtain⟨f,f1,f2,f3,f4⟩:=hparts i u v hu' hv;have hmem:=aT hv;obtain⟨r1,r2⟩:=df (a:=a) hI hE f4 (aC.1 hlt v hmem);refine⟨?_,aC.1 hone v hmem,r1,r2⟩;have:=hplg u.1 f v.2.1 (by simpa using f1) f2;simpa [f3] using this)
 refine bK.pure (x:= .agg cells) hI ?_ ?_ (uJ h3)
 ·have hb:P.built t ((ps.map fun(q:Nat×Operand)=>(q.1,a.eval q.2)).toList)=some cells:=by
    simp only[Program.built,hi,hu,hzv,hpl];simpa using h1
  simp only[execOp,hop];exact nC (run_build w t _ cells hb)
 ·have:=uK h2;simpa using this
end
section
variable {P:Program} {cx:Cx} {nb:Nat} {g:Gh} {H:Hp} {w:World} {o:Oper} {a:Act}
theorem HE (sz:Nat) {C:Nat->List Value}:∀ (ds:List D) (xs:List Value) (k:Nat) (cells:Array Value) (pre:List Value),ds.length=xs.length->(∀ (i:Nat) (d:D) (x:Value),ds[i]? =some d->xs[i]? =some x->bD C d x.cells.toList/\d.cells.length=sz)->
 cells.toList.take (k*sz)=pre->cells.size=(k+xs.length) *sz->
 ∃ cells' us,Instr.fill (fun i=>some (i*sz,sz)) cells ((xs.zipIdx k).map fun p=>(p.2,p.1))=some cells'/\cells'.toList=pre++us/\dJ C sz ds us
 |[],[],k,cells,pre,_,_,hp,hs=>by
  refine⟨cells,[],rfl,?_,by simp[dJ]⟩;simp only[aH,ep]at hs;rw[<-hp,bC,bB (by simp[hs])]
 |d::ds,x::xs,k,cells,pre,hl,hall,hp,hs=>by
  obtain⟨r,hd⟩:=hall 0 d x rfl rfl;have hxl:=mj r;have hxs:x.cells.size=sz:=by simp at hxl;omega
  simp only[aw]at hs hl;have e1:(k+(xs.length+1)) *sz=k*sz+sz+xs.length*sz:=by rw[eH,eH,iL];omega
  have e2:(k+1) *sz=k*sz+sz:=by rw[eH,iL]
  have hsz:cells.size=k*sz+sz+xs.length*sz:=om;have hpl:pre.length=k*sz:=by rw[<-hp];simp;omega
  simp only[List.zipIdx_cons,aB];rw[Dz (off:=k*sz) (size:=sz) rfl hxs om]
  obtain⟨cells',us,h1,h2,h3⟩:=HE sz ds xs (k+1) (cells.toList.take (k*sz)++x.cells.toList++cells.toList.drop (k*sz+sz)).toArray (pre++x.cells.toList) om
    (fun i d' x' h h'=>hall (i+1) d' x' (by simpa using h) (by simpa using h')) (by
      simp only[hp];rw[e2,fC (by simp[hpl,hxs])];exact bB (by simp[hpl,hxs])) (by
      have e3:(k+1+xs.length) *sz=k*sz+sz+xs.length*sz:=by rw[eH,eH,iL]
      simp[hp,hpl,hxs];omega)
  refine⟨cells',x.cells.toList++us,h1,by rw[h2,ag],?_⟩;simp only[dJ];exact⟨_,_,rfl,by simpa using hxs,r,h3⟩
theorem yY:∀ (ps:List (Nat×Operand)) (k:Nat),pY k ps=true->ps=((ps.map (·.2)).zipIdx k).map fun p=>(p.2,p.1)
  |[],_,_=>rfl
  |(i,x)::ps,k,h=>by
   simp only[pY,ab,iZ]at h;obtain⟨rfl,h⟩:=h;simp only[aB,List.zipIdx_cons];rw[<-yY ps (i+1) h]
theorem F8 {N:Nat} {e:Env} (hI:Inv cx g H w) (hE:kj g H N e a.tmps):∀ {xs:List Operand} {vs:List eo} {ds:List D},ov xs=some vs->vs.all (eo.lt N)=true->bn.toDs' cx e H vs=some ds->
 ds.length=xs.length/\∀ (i:Nat) (d:D) (x:Operand),ds[i]? =some d->xs[i]? =some x->du g.C d (a.eval x)
 |[],vs,ds,h,_,hd=>by
  simp only[ov,aa]at h;subst h;simp only[bn.toDs',aa]at hd;subst hd;exact⟨rfl,by simp⟩
 |x::xs,vs,ds,h,hl,hd=>by
  simp only[ov]at h;split at h
  ·rename_i v vs' hv hvs;simp only[aa]at h;subst h;simp only[aQ,ab]at hl;simp only[bn.toDs']at hd;split at hd
   ·rename_i y ys hy hys;simp only[aa]at hd;subst hd;obtain⟨h1,h2⟩:=F8 hI hE hvs hl.2 hys;refine⟨by simp[h1],fun i d q hi hq=>?_⟩;cases i with
    |zero=>simp at hi hq;subst hi;subst hq;exact zu hI hy (df hI hE hv hl.1).1
    |succ i=>exact h2 i d q (by simpa using hi) (by simpa using hq)
   ·cases hd
  ·cases h
theorem Aq (hI:Inv cx g H w) {N:Nat} {e:Env} (hE:kj g H N e a.tmps) {t el:TypeId} {len:Nat} {ps:Array (Nat×Operand)} (hop:o.op= .buildSlice t len ps) (hu:P.underlying t=some (.slice el)) {sz:Nat} (hsz:sizeT P el=some sz)
 {vs:List eo} (hvs:ov (ps.toList.map (·.2))=some vs) (hord:pY 0 ps.toList=true) (hz:(zeroCells P el).isSome=true) (hlt:vs.all (eo.lt N)=true)
 {ds:List D} (hds:bn.toDs' cx e H vs=some ds) (hl:ds.length=len) (hall:ds.all (fun x=>x.cells.length==sz)=true) (_h0:0 < sz) (hmax:len*sz<=16777216):
 ∃ (cells:Array Value) (us:List Value),(execOp a.eval o).run P w= .ok (.value (.slice (some ⟨w.heap.size,0,none⟩) len len)) (w.alloc (.cells cells el))/\cells.toList=us/\dJ g.C sz ds us:=by
 obtain⟨z,hz⟩:=Option.isSome_iff_exists.1 hz;obtain⟨it,zv,hi,hzv,_⟩:=oR hz;obtain⟨h1,h2⟩:=F8 hI hE hvs hlt hds;have hpl:ps.size=len:=by rw[<-hl,h1];simp
 obtain⟨cells,us,hf,hc,hel⟩:=HE sz (C:=g.C) ds (ps.toList.map fun p=>a.eval p.2) 0 ((Array.range (len*sz)).map (fun i=>(if len*sz=0 then #[] else zv.cells)[i % (if len*sz=0 then #[] else zv.cells).size]!)) [] (by simp;omega)
   (by
     intro i d x hd hx;simp only[bE,aj]at hx;obtain⟨p,hp,rfl⟩:=hx;refine⟨KK (h2 i d p.2 hd (by simp[hp])),?_⟩;have:=aC.1 hall d (aT hd);simpa using this) (by simp) (by simp[hpl])
 have hparts:(ps.map fun(q:Nat×Operand)=>(q.1,a.eval q.2)).toList=((ps.toList.map fun p=>a.eval p.2).zipIdx 0).map fun p=>(p.2,p.1):=by
   have:=yY ps.toList 0 hord;rw[Array.toList_map]
   conv=>lhs;rw[this]
   simp[List.zipIdx_map,cV,dh]
 have hrun:(execOp a.eval o).run P w= .ok (.value (.slice (some ⟨w.heap.size,0,none⟩) len len)) (w.alloc (.cells cells el)):=by
  simp only[execOp,hop];refine nC ?_;have hbig:¬ (len*sz> 2 ^ 24):=om;simp only[Instr.buildSlice,Sem.run_bind,run_underlying hu,Result.andThen_ok,run_sizeOf hsz];rw[aA hbig];by_cases hz0:len*sz=0
  ·simp only[ay hz0]at hf⊢;simp only[Sem.run_bind,Sem.run_pure,Result.andThen_ok];rw[hparts,hf];simp[newRow]
  ·simp only[aA hz0]at hf⊢;have hzr:(zeroValue el).run P w= .ok zv w:=by simp[zeroValue,typeInfo,hi,hzv]
   simp only[Sem.run_bind,Sem.run_pure,hzr,Result.andThen_ok];rw[hparts,hf];simp[newRow]
 exact⟨cells,us,hrun,by simpa using hc,hel⟩
theorem NB (hI:Inv cx g H w) {N:Nat} {e:Env} (hE:kj g H N e a.tmps) {t el:TypeId} {len:Nat} {ps:Array (Nat×Operand)} (hop:o.op= .buildSlice t len ps) (hu:P.underlying t=some (.slice el)) {sz:Nat} (hsz:sizeT P el=some sz)
 {vs:List eo} (hvs:ov (ps.toList.map (·.2))=some vs) (hord:pY 0 ps.toList=true) (hz:(zeroCells P el).isSome=true) (hlt:vs.all (eo.lt N)=true)
 {ds:List D} (hds:bn.toDs' cx e H vs=some ds) (hl:ds.length=len) (hall:ds.all (fun x=>x.cells.length==sz)=true) (h0:0 < sz) (hmax:len*sz<=16777216):
 bK P cx nb g H w (.d (.sl ds)) H ((execOp a.eval o).run P w):=by
 obtain⟨cells,us,hrun,hc,hel⟩:=Aq hI hE hop hu hsz hvs hord hz hlt hds hl hall h0 hmax;obtain⟨g',i1,i2,i3⟩:=hI.lit (nb:=nb) (cs:=cells) (T:=el);rw[hrun];refine .val g' _ _ i1 ?_ rfl i2;simp only[bW,du,bD];refine⟨_,_,by rw[hl],om,.inr ⟨w.heap.size,0,sz,us,rfl,h0,?_,jV i2.keep.C _ _ _ hel⟩⟩;rw[i3,hc];simp
def dw (P:Program) (cx:Cx) (f:Nat) (args:List V) (H:Hp) (r:V) (H':Hp):Prop:=
 (∃ fn,P.funcs[f]? =some fn/\fn.body.isNone=false/\(fn.name== "runtime.NumGoroutine")=false)/\
 ∀ g w (cargs:Array Value),Inv cx g H w->bN g H args cargs.toList->br H.length args=true->
  Calls P f cargs w (fun e w'=> ∃ g' x,e= .returned x/\Inv cx g' H' w'/\bW g' H' r x/\r.und H'.length=true/\Ext H.length g H w g' H' w')
def kE (P:Program) (cx:Cx) (orc:iH):Prop:=∀ f args H r H',orc f args H=some (r,H')->dw P cx f args H r H'
theorem lP {f:Nat} {fn:Func} (hf:P.funcs[f]? =some fn) (hb:fn.body.isNone=false) (hn:(fn.name== "runtime.NumGoroutine")=false) (args:Array Value):(callFunc f args).run P w= .ok (.enter f args) w:=by
 have hn':fn.name≠ "runtime.NumGoroutine" :=by simpa using hn
 have hb':fn.body≠none:=by intro h;rw[h]at hb;cases hb
 simp[callFunc,hf,hb',hn']
theorem xZ {orc:iH} (hS:kE P cx orc) (hI:Inv cx g H w) (hnb:nb<=H.length) {f:Nat} {args:List V} {cargs:Array Value} {r:V} {H':Hp} (h:orc f args H=some (r,H')) (ra:bN g H args cargs.toList) (ua:br H.length args=true):
 bK P cx nb g H w r H' ((callFunc f cargs).run P w):=by
 obtain⟨⟨fn,h1,h2,h3⟩,h4⟩:=hS f args H r H' h;rw[lP h1 h2 h3];refine .call _ _ ((h4 g w cargs hI ra ua).mono ?_);rintro e w' ⟨g',x,rfl,i1,i2,i3,i4⟩;exact⟨g',x,rfl,i1,i2,i3,i4.le hnb⟩
theorem UC {orc:iH} (hS:kE P cx orc) (hI:Inv cx g H w) (hnb:nb<=H.length) {f:Nat} {ar:Array Operand} {at':Array TypeId} (hop:o.op= .call {callee:= .value (.func f),args:=ar,argTypes:=at' }) {args:List V} {r:V} {H':Hp}
 (h:orc f args H=some (r,H')) (ra:bN g H args (ar.toList.map a.eval)) (ua:br H.length args=true):bK P cx nb g H w r H' ((execOp a.eval o).run P w):=by
 have hrun:(execOp a.eval o).run P w=(callFunc f (ar.map a.eval)).run P w:=by
  simp[execOp,hop,resolve,Act.eval,Deferred.ofValue,invoke]
 rw[hrun];exact xZ hS hI hnb h (by simpa using ra) ua
theorem QG {orc:iH} (hS:kE P cx orc) (hI:Inv cx g H w) (hnb:nb<=H.length) {t:Nat} {ar:Array Operand} {at':Array TypeId} (hop:o.op= .call {callee:= .value (.tmp t),args:=ar,argTypes:=at' }) {f:Nat} {c args:List V} {r:V} {H':Hp}
 (hf:bW g H (.fn f c) (a.eval (.tmp t))) (uf:(V.fn f c).und H.length=true) (h:orc f (args++c) H=some (r,H')) (ra:bN g H args (ar.toList.map a.eval)) (ua:br H.length args=true):bK P cx nb g H w r H' ((execOp a.eval o).run P w):=by
 simp only[bW]at hf;obtain⟨cs,hx,hc⟩:=hf;have hrun:(execOp a.eval o).run P w=(callFunc f (ar.map a.eval++cs)).run P w:=by
  simp[execOp,hop,resolve,hx,Deferred.ofValue,invoke]
 rw[hrun];refine xZ hS hI hnb h ?_ (jN ua (by simpa only[V.und] using uf));have:=mi ra hc;simpa using this
theorem QH {orc:iH} (hS:kE P cx orc) (hI:Inv cx g H w) (hnb:nb<=H.length) {t:Nat} {ar:Array Operand} {at':Array TypeId} (hop:o.op= .call {callee:= .value (.tmp t),args:=ar,argTypes:=at' }) {f:Nat} {c args:List V} {r:V} {H':Hp}
 (hf:bW g H (.fm f c) (a.eval (.tmp t))) (uf:(V.fm f c).und H.length=true) (h:orc f (c++args) H=some (r,H')) (ra:bN g H args (ar.toList.map a.eval)) (ua:br H.length args=true):bK P cx nb g H w r H' ((execOp a.eval o).run P w):=by
 simp only[bW]at hf;obtain⟨cs,hx,hc⟩:=hf;have hrun:(execOp a.eval o).run P w=(callFunc f (cs++ar.map a.eval)).run P w:=by
  simp[execOp,hop,resolve,hx,Deferred.ofValue,invoke]
 rw[hrun];refine xZ hS hI hnb h ?_ (jN (by simpa only[V.und] using uf) ua);have:=mi hc ra;simpa using this
end
section
variable {P:Program} {cx:Cx} {nb:Nat} {g:Gh} {H:Hp} {w:World} {o:Oper} {a:Act}
theorem Inv.Vj (hI:Inv cx g H w) {id sz:Nat} {l ys:List D} (ho:H[id]? =some (.row sz l)) (hys:ys≠[]) {w':World} {b' cap':Nat} {cur':Array Value} {e':TypeId} {vs':List Value}
 (hos:w'.os=w.os) (ht:w'.tape=w.tape) (hp:w'.output=w.output) (hsz:w.heap.size<=w'.heap.size)
 (hother:∀ k,k < w.heap.size->k≠b'->w'.heap[k]? =w.heap[k]?) (hb:w'.heap[b']? =some (.cells cur' e' (0,0))) (hvs:vs' <+:cur'.toList) (hC':g.C b' <+:vs')
 (hel:dJ g.C sz (l++ys) vs') (h0:0 < sz) (hcap:(l++ys).length<=cap') (hcs:cur'.size=cap'*sz) (hm:cap'<=maxLen) (hfresh:w.heap.size<=b'\/∃ c,g.J id=some (b',c)):
 ∃ g',Inv cx g' (H.set id (.row sz (l++ys))) w'/\Ext nb g H w g' (H.set id (.row sz (l++ys))) w'/\g'.J id=some (b',cap'):=by
 let g':Gh:={J:=fun i=>if i=id then some (b',cap') else g.J i,C:=fun b=>if b=b' then vs' else g.C b };have hid:=(az.1 ho).1;have hb'lt:b' < w'.heap.size:=(aS.1 hb).1;have hJn:g'.J id=some (b',cap'):=ay rfl;have hJo:∀ i,i≠id->g'.J i=g.J i:=fun i hi=>aA hi;have hCn:g'.C b'=vs':=ay rfl;have hCo:∀ b,b≠b'->g'.C b=g.C b:=fun b hb=>aA hb;have hC:∀ b,g.C b <+:g'.C b:=by
  intro b;by_cases hbb:b=b'
  ·subst hbb;rw[hCn];exact hC'
  ·rw[hCo b hbb];exact aJ _
 have hne:∀ i b c,i≠id->g.J i=some (b,c)->b≠b':=by
  rintro i b c hi h rfl;rcases hfresh with hf|⟨c',hf⟩
  ·have:=(hI.dom i b c h).2;omega
  ·exact hi (hI.inj i id b c c' h hf)
 have hset:∀ i,i≠id->(H.set id (.row sz (l++ys)))[i]? =H[i]? :=fun i hi=>aX (Ne.symm hi);have hself:(H.set id (.row sz (l++ys)))[id]? =some (.row sz (l++ys)):=by simp[hid]
 have hkeep:Keep H.length g H g' (H.set id (.row sz (l++ys))):=by
  refine⟨hC,fun i q _ hq hr=>?_,fun i s q _ hq=>?_⟩
  ·have hi:i≠id:=by rintro rfl;rw[ho]at hq;cases hq;exact hr _ _ rfl
   exact⟨hJo i hi,q,by rw[hset i hi];exact hq,hr⟩
  ·by_cases hi:i=id
   ·subst hi;rw[ho]at hq;cases hq;refine⟨_,hself,lx _ _,fun he=>?_⟩;simp at he;exact absurd he hys
   ·exact⟨q,by rw[hset i hi];exact hq,aJ _,fun _=>hJo i hi⟩
 have hfx:∀ b,b < w.heap.size->(∀ k c,g.J k≠some (b,c))->w'.heap[b]? =w.heap[b]? /\∀ k c,g'.J k≠some (b,c):=by
  intro b hbl hn;have hbb:b≠b':=by
   rintro rfl;rcases hfresh with hf|⟨c,hf⟩
   ·omega
   ·exact hn id c hf
  refine⟨hother b hbl hbb,fun k c hk=>?_⟩;by_cases hi:k=id
  ·subst hi;rw[hJn]at hk;cases hk;exact hbb rfl
  ·rw[hJo k hi]at hk;exact hn k c hk
 refine⟨g',⟨?_,?_,?_,?_,?_,?_,hI.fix.mono hfx⟩,⟨hos,ht,hp,hsz,?_,hkeep,?_,?_,by simp⟩,hJn⟩
 ·intro i k b c c' h1 h2;by_cases hi:i=id<;>by_cases hk:k=id
  ·rw[hi,hk]
  ·subst hi;rw[hJn]at h1;cases h1;rw[hJo k hk]at h2;exact absurd rfl (hne k _ _ hk h2)
  ·subst hk;rw[hJn]at h2;cases h2;rw[hJo i hi]at h1;exact absurd rfl (hne i _ _ hi h1)
  ·rw[hJo i hi]at h1;rw[hJo k hk]at h2;exact hI.inj i k b c c' h1 h2
 ·intro i b c h;by_cases hi:i=id
  ·subst hi;rw[hJn]at h;cases h;simp;exact⟨hid,hb'lt⟩
  ·rw[hJo i hi]at h;have:=hI.dom i b c h;simp;omega
 ·intro i b c q h hq;by_cases hi:i=id
  ·subst hi;rw[hJn]at h;cases h;rw[hself]at hq;cases hq;exact⟨cur',e',hb,by rw[hCn];exact jV hC _ _ _ hel,h0,hcap,hcs,hm⟩
  ·rw[hJo i hi]at h;rw[hset i hi]at hq;have hbb:=hne i b c hi h;exact(hI.ob i b c q h hq).ext hkeep.w (hother b (hI.dom i b c h).2 hbb) (hCo b hbb) (xT hI hq)
 ·intro b hbn;by_cases hbb:b=b'
  ·subst hbb;rw[hCn];exact⟨cur',e',(0,0),hb,hvs⟩
  ·rw[hCo b hbb]at hbn⊢;obtain⟨cur,e,fz,h1,h2⟩:=hI.imm b hbn;exact⟨cur,e,fz,by rw[hother b (aS.1 h1).1 hbb];exact h1,h2⟩
 ·intro i c hi hq;simp only[cX]at hi⊢;by_cases hii:i=id
  ·subst hii;rw[hself]at hq;cases hq
  ·rw[hset i hii]at hq;exact hI.und i c hi hq
 ·intro i;obtain⟨us,h1,h2⟩:=hI.glob i;exact⟨us,h1.trans (hC i),gq hC _ _ h2⟩
 ·intro b hbl hj;have hbb:b≠b':=by
   rintro rfl;rcases hfresh with hf|⟨c,hf⟩
   ·omega
   ·exact hj id c hf
  exact⟨hother b hbl hbb,hCo b hbb⟩
 ·intro i b c h hbl;by_cases hi:i=id
  ·subst hi;rw[hJn]at h;cases h;rcases hfresh with hf|⟨c,hf⟩
   ·omega
   ·exact⟨i,c,hf⟩
  ·rw[hJo i hi]at h;exact⟨i,c,h⟩
 ·intro n _ hc i c hi hq;by_cases hii:i=id
  ·subst hii;rw[hself]at hq;cases hq
  ·rw[hset i hii]at hq;exact hc i c hi hq
theorem zj (t ty e:TypeId) (i:TypeInfo) (ht:P.underlying t=some (.slice e)) (hi:P.info? e=some i) (b sLen sCap:Nat) (cur:Array Value) (e':TypeId) (hb:w.heap[b]? =some (.cells cur e' (0,0)))
 (ad:Addr) (m c:Nat) (news:List Value) (hl:news.length=m*i.size) (hnews:∀ j u,news[j]? =some u->w.cell? (ad.add j)=some u) (h1:∀ u∈news,u.oneCell'=true)
 (hroom:sLen+m<=sCap) (hfit:sLen*i.size+news.length<=cur.size):
 (Builtin.append_ #[t,t] ty #[.slice (some ⟨b,0,none⟩) sLen sCap,.slice (some ad) m c]).run P w=
  .ok (.slice (some ⟨b,0,none⟩) (sLen+m) sCap) (w.setRow b (cur.toList.take (sLen*i.size)++news++cur.toList.drop (sLen*i.size+news.length)).toArray):=by
 have hf:=run_firstCells_some (P:=P) w i.size m ad m c news hl hnews;have hst:=run_storeCells_at P b (sLen*i.size) e' news 0 cur w hb (by simpa using hfit) h1;simp only[ep]at hst;simp[Builtin.append_,run_underlying ht,sizeOf,typeInfo,hi,Builtin.lenOf,hroom,hf,Addr.add_lit,hst]
theorem so (t ty e:TypeId) (i:TypeInfo) (ht:P.underlying t=some (.slice e)) (hi:P.info? e=some i) (base:Option Addr) (sLen sCap:Nat) (ad:Option Addr) (c:Nat) (hc:sLen<=sCap) (hb:∀ q,base=some q->q.spot=none):
 (Builtin.append_ #[t,t] ty #[.slice base sLen sCap,.slice ad 0 c]).run P w= .ok (.slice base sLen sCap) w:=by
 cases base with
 |none=>cases ad<;>simp[Builtin.append_,run_underlying ht,sizeOf,typeInfo,hi,Builtin.lenOf,hc,Builtin.firstCells,loadCells,loadCellsFrom]
 |some q=>cases ad<;>simp[Builtin.append_,run_underlying ht,sizeOf,typeInfo,hi,Builtin.lenOf,hc,Builtin.firstCells,loadCells,loadCellsFrom,storeCells]
theorem LK {sz:Nat} {l:List D} {ad:Option Addr} {m cap:Nat} (hI:Inv cx g H w) (hl:l≠[]) (r:du g.C (.sl l) (.slice ad m cap)) (hall:l.all (fun y=>y.cells.length==sz)=true):
    ∃ q us,ad=some q/\m=l.length/\dJ g.C sz l us/\(∀ j u,us[j]? =some u->w.cell? (q.add j)=some u):=by
  obtain⟨ad',cap',hx,_,hr⟩:=sY r;simp only[Value.slice.injEq]at hx;obtain⟨rfl,rfl,rfl⟩:=hx;rcases hr with h|⟨b,off,sz',us,rfl,h0,h1,h2⟩
  ·exact absurd h hl
  ·have hs0:0 < l.length:=dc.2 hl;have hus:=gP h2;have hszz:sz'=sz:=by
    have hg:=mj (qS h2 (ae hs0));have hc:(l[0]).cells.length=sz:=by
     have:=aC.1 hall _ (dG hs0);simpa using this
    rw[hc]at hg;have:1*sz'<=l.length*sz':=gT _ om;simp only[Nat.zero_mul,bq,bm]at hg;omega
   subst hszz;refine⟨_,us,rfl,rfl,h2,fun j u hj=>?_⟩;have hne:g.C b≠[]:=by
    intro hn;rw[hn,List.drop_nil]at h1;have:=List.prefix_nil.1 h1;subst this;simp at hj
   obtain⟨cur,e,fz,h3,h4⟩:=hI.imm b hne;rw[Fx h3 j];have:=eJ (h1.trans (lB h4 off)) hj;rw[cw]at this;simpa using this
theorem YI (hI:Inv cx g H w) (hnb:nb<=H.length) {x y:Operand} {t e:TypeId} {ar:Array Operand} {at':Array TypeId} (hop:o.op= .call {callee:= .builtin .append,args:=ar,argTypes:=at' }) (har:ar.toList=[x,y]) (hat:at'.toList=[t,t])
 (ht:P.underlying t=some (.slice e)) {i:TypeInfo} (hi:P.info? e=some i) (hz:(zeroCells P e).map (·.length)=some i.size) {v vy:V} {ys:List D} (hys:lsize H vy=some ys) (hall:ys.all (fun q=>q.cells.length==i.size)=true) (h0:0 < i.size) (rx:bW g H v (a.eval x)) (ry:bW g H vy (a.eval y)) (ux:v.und H.length=true) {r:V} {H':Hp}
 (h:((v= .nils\/v= .nile)/\((ys=[]/\r=v/\H'=H)\/(ys≠[]/\roomy ys.length i.bytes/\r= .row H.length ys.length/\H'=H++[.row i.size ys])))\/
   (∃ id len l,v= .row id len/\H[id]? =some (.row i.size l)/\l.length=len/\roomy (len+ys.length) i.bytes/\r= .row id (len+ys.length)/\H'=H.set id (.row i.size (l++ys)))):
 bK P cx nb g H w r H' ((execOp a.eval o).run P w):=by
 obtain rfl:ar= #[x,y]:=by apply dH;simpa using har
 obtain rfl:at'= #[t,t]:=by apply dH;simpa using hat
 obtain⟨z,hz',hzl⟩:=aj.1 hz;obtain⟨it,zv,hi',hzv,hcz⟩:=oR hz';obtain rfl:it=i:=by rw[hi]at hi';exact(Option.some.inj hi').symm
 have hzs:zv.cells.size=it.size:=by
  have:=gM (iJ (g:=g) (H:=H) hcz).1;simp at this;omega
 have hx:(execOp a.eval o).run P w=((Builtin.append_ #[t,t] o.type #[a.eval x,a.eval y]).run P w).andThen (fun v w'=> .ok (.value v) w'):=by
   simp[execOp,hop,resolve,invoke,builtin]
 have hy:=yn hI hys ry;obtain⟨ady,capy,hey,_,_⟩:=sY hy
 have newrow:∀ (hne:ys≠[]) (hroom:roomy ys.length it.bytes),∃ (us:List Value) (cap:Nat) (cs:Array Value),dJ g.C it.size ys us/\ys.length<=cap/\cap<=maxLen/\us <+:cs.toList/\cs.size=cap*it.size/\
  ∀ base:Option Addr,(Builtin.append_ #[t,t] o.type #[.slice base 0 0,a.eval y]).run P w= .ok (.slice (some ⟨w.heap.size,0,none⟩) ys.length cap) (w.drew.alloc (.cells cs e)):=by
  intro hne hroom;obtain⟨q,us,hq,hm,hel,hnews⟩:=LK (sz:=it.size) hI hne (hey ▸ hy) hall;have hus:=gP hel;have hlen:0 < ys.length:=dc.2 hne;have hrun:=run_append_nil (P:=P) w t o.type e it zv ht hi hzv q ys.length capy us hus hnews hlen (by have:=hroom.2;omega) (by have:=hroom.1;omega);refine⟨us,grownCap w ys.length 0 e,us.toArray++Builtin.zeroCells zv.cells (grownCap w ys.length 0 e - ys.length),hel,grownCap_ge ..,grownCap_le_maxLen _ _ _ _ (by have:=hroom.2;simp[maxLen];omega),?_,?_,fun base=>?_⟩
  rotate_left 2
  ·rw[hey,hq];cases base with
   |none=>exact hrun
   |some b=>
    have hg:=run_append_grow (P:=P) (w:=w) t o.type e it zv ht hi hzv b 0 0 [] (by simp) (by simp) q ys.length capy us hus hnews om (by have:=hroom.2;omega) (by rw[bt,nextslicecap_zero hlen];have:=hroom.1;omega);simpa using hg
  ·simp
  ·have:=grownCap_ge w ys.length 0 e;simp[size_zeroCells,hus,hzs,<-eH];congr 1;omega
 rw[hx];rcases h with⟨hv,h⟩|⟨id,len,l,rfl,ho,rfl,hroom,rfl,rfl⟩
 ·obtain⟨base,hbase,hsp⟩:∃ base:Option Addr,a.eval x= .slice base 0 0/\∀ q,base=some q->q.spot=none:=by
   rcases hv with rfl|rfl
   ·simp only[bW]at rx;exact⟨none,rx,by simp⟩
   ·simp only[bW]at rx;exact rx
  rcases h with⟨rfl,rfl,rfl⟩|⟨hne,hroom,rfl,rfl⟩
  ·rw[hbase,hey,aH];rw[so t o.type e it ht hi base 0 0 ady capy (ai _) hsp];exact bK.pure hI rfl (hbase ▸ rx) (by rcases hv with rfl|rfl<;>rfl)
  ·obtain⟨us,cap,cs,h1,h2,h3,h4,h5,h6⟩:=newrow hne hroom;rw[hbase,h6]
   obtain⟨g',i1,i2,i3,i4⟩:=hI.alloc (nb:=nb) hnb (w1:=w.drew) rfl rfl rfl rfl (cs:=cs) (T:=e) (o:= .row it.size ys) (cap:=cap) (vs:=us) h4 (by simp)
     (fun g' w' hk hC hw=>⟨_,_,hw,by rw[hC];exact jV hk.C _ _ _ h1,h0,h2,h5,h3⟩)
   refine .val g' _ _ i1 ?_ (by simp[V.und]) i2;simp only[bW];exact⟨_,_,_,_,rfl,iC H _,ai _,fun _=> .inr ⟨_,i3,rfl⟩⟩
 ·simp only[bW]at rx;obtain⟨ad,cap,sz,l',hxv,ho',_,hrep⟩:=rx;rw[ho]at ho';simp only[aa,Ob.row.injEq]at ho';obtain⟨rfl,rfl⟩:=ho';have hid:=(az.1 ho).1;rw[hxv];by_cases hne:ys=[]
  ·subst hne;simp only[bC,aH,ep];have hset:H.set id (.row it.size l)=H:=by
    apply fa;intro k;by_cases hk:id=k
    ·subst hk;simp[hid];exact((az.1 ho).2).symm
    ·rw[aX hk]
   rw[hset,hey,aH];have hle:l.length<=cap:=by
    rcases hrep rfl with⟨h1,_,_⟩|⟨b,hJ,_⟩
    ·omega
    ·obtain⟨_,_,_,_,_,h,_⟩:=hI.ob id b cap _ hJ ho;exact h
   have hsp:∀ q,ad=some q->q.spot=none:=by
    rcases hrep rfl with⟨_,rfl,_⟩|⟨b,_,rfl⟩<;>simp
   rw[so t o.type e it ht hi ad l.length cap ady capy hle hsp];refine bK.pure hI rfl ?_ ux;simp only[bW];exact⟨_,_,_,_,rfl,ho,ai _,hrep⟩
  ·obtain⟨q,us,hq,hm,hel,hnews⟩:=LK (sz:=it.size) hI hne (hey ▸ hy) hall;have hus:=gP hel
   have finish:∀ (w':World) (b' cap':Nat) (cur':Array Value) (e':TypeId) (vs':List Value),w'.os=w.os->w'.tape=w.tape->w'.output=w.output->w.heap.size<=w'.heap.size->(∀ k,k < w.heap.size->k≠b'->w'.heap[k]? =w.heap[k]?)->
    w'.heap[b']? =some (.cells cur' e' (0,0))->vs' <+:cur'.toList->g.C b' <+:vs'->dJ g.C it.size (l++ys) vs'->(l++ys).length<=cap'->cur'.size=cap'*it.size->cap'<=maxLen->(w.heap.size<=b'\/∃ c,g.J id=some (b',c))->
    bK P cx nb g H w (.row id (l.length+ys.length)) (H.set id (.row it.size (l++ys))) (.ok (.value (.slice (some ⟨b',0,none⟩) (l.length+ys.length) cap')) w'):=by
    intro w' b' cap' cur' e' vs' a1 a2 a3 a4 a5 a6 a7 a8 a9 a10 a11 a12 a13;obtain⟨g',i1,i2,i3⟩:=hI.Vj (nb:=nb) ho hne a1 a2 a3 a4 a5 a6 a7 a8 a9 h0 a10 a11 a12 a13;refine .val g' _ _ i1 ?_ (by simpa [V.und] using hid) i2;simp only[bW];exact⟨some ⟨b',0,none⟩,cap',it.size,l++ys,rfl,by simp[hid],by simp,fun _=> .inr ⟨_,i3,rfl⟩⟩
   rcases hrep rfl with⟨hl0,rfl,rfl⟩|⟨b,hJ,rfl⟩
   ·have hl:l=[]:=bZ hl0;subst hl;simp only[aH,bt]at hroom⊢;obtain⟨us,cap,cs,h1,h2,h3,h4,h5,h6⟩:=newrow hne hroom;rw[h6];have:=finish (w.drew.alloc (.cells cs e)) w.heap.size cap cs e us rfl rfl rfl (by simp) (fun k hk _=>heap_alloc_old _ _ hk) (heap_alloc_new w.drew _) h4 (by rw[hI.DO (ai _)];exact dV) (by simpa using h1) (by simpa using h2) h5 h3 (.inl (ai _));simpa using this
   ·obtain⟨cur,e',hb,hC,_,hlc,hcs,hcm⟩:=hI.ob id b cap _ hJ ho;have hCl:=gP hC;have hCp:g.C b <+:cur.toList:=by
     by_cases hn:g.C b=[]
     ·rw[hn];exact dV
     ·obtain⟨cur2,e2,fz2,h3,h4⟩:=hI.imm b hn;rw[hb]at h3;cases h3;exact h4
    have hCt:cur.toList.take (l.length*it.size)=g.C b:=by rw[<-hCl];exact(List.prefix_iff_eq_take.1 hCp).symm
    rw[hey,hq];by_cases hin:l.length+ys.length<=cap
    ·have hfit:l.length*it.size+us.length<=cur.size:=by
      rw[hus,hcs,<-eH];exact gT _ hin
     rw[zj t o.type e it ht hi b l.length cap cur e' hb q ys.length capy us hus hnews (BV hel) hin hfit];refine finish _ b cap _ e' (g.C b++us) rfl rfl rfl (by simp) (fun k _ hk=>setRow_other w b k _ hk) (setRow_heap w b cur _ e' (0,0) hb) ?_ (lx _ _) (se hC hel) (by simpa using hin) ?_ hcm (.inr ⟨cap,hJ⟩)
     ·rw[hCt];exact lx _ _
     ·simp only[jI,ah,bm,bh,kJ];omega
    ·have holds:∀ j u,(g.C b)[j]? =some u->w.cell? ((⟨b,0,none⟩:Addr).add j)=some u:=by
      intro j u hj;rw[Fx hb j];have:=eJ hCp hj;simpa using this
     have hrun:=run_append_grow (P:=P) w t o.type e it zv ht hi hzv ⟨b,0,none⟩ l.length cap (g.C b) hCl holds q ys.length capy us hus hnews om (by have:=hroom.2;omega) (growslice_fits om (by have:=hroom.1;omega));rw[hrun];have hge:=grownCap_ge w (l.length+ys.length) cap e;refine finish _ w.heap.size _ _ e (g.C b++us) rfl rfl rfl (by simp) (fun k hk _=>heap_alloc_old _ _ hk) (heap_alloc_new w.drew _) ?_ (by rw[hI.DO (ai _)];exact dV) (se hC hel) (by simpa using hge) ?_ (grownCap_le_maxLen _ _ _ _ (by have:=hroom.2;simp[maxLen];omega)) (.inl (ai _))
     ·simp
     ·simp[size_zeroCells,hCl,hus,hzs,<-eH];congr 1;omega
theorem UD (hI:Inv cx g H w) (hnb:nb<=H.length) {N:Nat} {e:Env} (hE:kj g H N e a.tmps) {t el:TypeId} {len:Nat} {ps:Array (Nat×Operand)} (hop:o.op= .buildSlice t len ps) (hu:P.underlying t=some (.slice el)) {sz:Nat} (hsz:sizeT P el=some sz)
 {vs:List eo} (hvs:ov (ps.toList.map (·.2))=some vs) (hord:pY 0 ps.toList=true) (hz:(zeroCells P el).isSome=true) (hlt:vs.all (eo.lt N)=true)
 {ds:List D} (hds:bn.toDs' cx e H vs=some ds) (hl:ds.length=len) (hall:ds.all (fun x=>x.cells.length==sz)=true) (h0:0 < sz) (hmax:len*sz<=16777216):
 bK P cx nb g H w (.row H.length len) (H++[.row sz ds]) ((execOp a.eval o).run P w):=by
 obtain⟨cells,us,hrun,hc,hel⟩:=Aq hI hE hop hu hsz hvs hord hz hlt hds hl hall h0 hmax;have hus:=gP hel;have hsize:cells.size=len*sz:=by rw[<-kJ,hc,hus,hl]
 have hlm:len<=maxLen:=by
  have:len<=len*sz:=Nat.le_mul_of_pos_right _ h0;simp only[maxLen];omega
 rw[hrun]
 obtain⟨g',i1,i2,i3,i4⟩:=hI.alloc (nb:=nb) hnb (w1:=w) rfl rfl rfl rfl (cs:=cells) (T:=el) (o:= .row sz ds) (cap:=len) (vs:=us) (by rw[hc];exact aJ _) (by simp)
   (fun g' w' hk hC hw=>⟨_,_,hw,by rw[hC];exact jV hk.C _ _ _ hel,h0,om,hsize,hlm⟩)
 refine .val g' _ _ i1 ?_ (by simp[V.und]) i2;simp only[bW];exact⟨_,_,_,_,rfl,iC H _,om,fun _=> .inr ⟨_,i3,rfl⟩⟩
end
section
variable {P:Program} {cx:Cx} {nb:Nat} {g:Gh} {H:Hp} {w:World} {o:Oper} {a:Act}
theorem wrap_i64 {n:Int} (h0:0<=n) (h1:n<=9223372036854775807):IntKind.i64.wrap n=n:=by
 have e:n % (18446744073709551616:Int)=n:=Int.emod_eq_of_lt h0 om;simp only[IntKind.wrap,IntKind.bits,IntKind.signed];simp only[show((2:Int) ^ 64)=18446744073709551616 from rfl,show((2:Int) ^ (64 - 1))=9223372036854775808 from rfl,e];simp;omega
theorem sB {v:V} {x:Value} (hv:v.one=true) (h:bW g H v x):∀ n,cP g H (List.replicate n v) (List.replicate n x)
 |0=>by simp[cP]
 |n+1=>by simp only[List.replicate_succ,cP];exact⟨_,_,rfl,hv,h,sB hv h n⟩
theorem sO {m:Nat} {v:V} (h:v.und m=true):∀ n,br m (List.replicate n v)=true
 |0=>rfl
 |n+1=>by simp only[List.replicate_succ,br,h,sO h n,cF]
theorem YC (hI:Inv cx g H w) (hnb:nb<=H.length) {t e:TypeId} {l:Nat} (hop:o.op= .makeSlice t (.tmp l) (.tmp l)) (ht:P.underlying t=some (.slice e)) {i:TypeInfo} (hi:P.info? e=some i) (hs:i.size=1) {z:V} (hz:zeroCells P e=some [z])
 {k:IntKind} {n:Int} (h0:0<=n) (hr:roomy n.toNat i.bytes) (rl:bW g H (.d (.int k n)) (a.eval (.tmp l))):bK P cx nb g H w (.arr H.length 0 n.toNat) (H++[.box (List.replicate n.toNat z)]) ((execOp a.eval o).run P w):=by
 obtain⟨it,zv,hi',hzv,hc⟩:=oR hz;obtain rfl:it=i:=by rw[hi]at hi';exact(Option.some.inj hi').symm
 obtain⟨hzr,hzu⟩:=iJ (g:=g) (H:=H) hc;simp only[cP]at hzr;obtain⟨y,ys,hzc,hone,hrz,rfl⟩:=hzr;simp only[br,bo]at hzu;have hn1:n<=9223372036854775807:=by have:=hr.2;omega
 have hw:=wrap_i64 h0 hn1;have hcells:zv.cells= #[y]:=by apply dH;simpa using hzc
 have hb:¬ ((it.bytes:Int) *n> 2 ^ 48):=by
  have h1:=hr.1;have e1:((n.toNat*it.bytes:Nat):Int)=n*it.bytes:=by rw[Int.natCast_mul,Int.toNat_of_nonneg h0]
  rw[Int.mul_comm];have:(2:Int) ^ 48=281474976710656:=rfl;omega
 have hrun:(execOp a.eval o).run P w= .ok (.value (.slice (some ⟨w.heap.size,0,none⟩) n.toNat n.toNat)) (w.alloc (.cells (List.replicate n.toNat y).toArray e)):=by
  simp only[execOp,hop,ng rl];refine nC ?_;have harr:∀ m,(Array.range m).map (fun j=>(#[y]:Array Value)[j % (#[y]:Array Value).size]!)=(List.replicate m y).toArray:=by
    intro m;apply Array.ext
    ·simp
    ·intro j h1 h2;simp[Nat.mod_one]
  simp only[Instr.makeSlice,Sem.run_bind,run_underlying ht,Result.andThen_ok,asInt,asIntOf,Sem.run_pure,typeInfo,run_program,hi,hw];have hb':(it.bytes:Int) *n<=281474976710656:=by
   have:(2:Int) ^ 48=281474976710656:=rfl;omega
  have hn0':¬ n < 0:=om;rw[aA (by simp[hb',hn0'])];simp only[Sem.run_bind,run_askRoom,Result.andThen_ok,sizeOf,typeInfo,run_program,hi,hs,Sem.run_pure,n7];by_cases hn0:n.toNat=0
  ·simp[hn0,newRow];congr 2;apply Array.ext<;>simp
  ·have hzrun:(zeroValue e).run P w= .ok zv w:=by simp[zeroValue,typeInfo,hi,hzv]
   rw[aA hn0];simp only[Sem.run_bind,hzrun,Result.andThen_ok,Sem.run_pure,hcells,harr,newRow,run_newObj,World.alloc_eq]
 obtain⟨g',h1,h2,h3,h4⟩:=hI.alloc (nb:=nb) hnb (w1:=w) rfl rfl rfl rfl (cs:=(List.replicate n.toNat y).toArray) (T:=e) (o:= .box (List.replicate n.toNat z)) (cap:=0) (vs:=[]) dV
  (by rintro c ⟨⟩;exact sO (V.jo (aR _) _ hzu) _)
  (fun g' w' hk hC hw=>⟨_,_,hw,sB hone (fk hk.w _ _ (V.jo (aR _) _ hzu) hrz) _,hC⟩)
 rw[hrun];refine .val g' _ _ h1 ?_ (by simp[V.und]) h2;simp only[bW];exact⟨⟨_,iC H _,by simp⟩,_,_,_,h3,rfl,ai _⟩
end
end Go.Vm
namespace Go.Vm
open Go.MapKept
def pd:D->Value
 | .bool b=> .bool b
 | .int k n=> .int k n
 | .str s=> .string ⟨s.toArray⟩
 |_=>undef
def KD:Nat->TypeDesc->Prop
 |0,d=>d= .bool
 |1,d=>d= .int .i64
 |2,d=>d= .string
 |_,_=>False
theorem L5 {P:Program} {t:TypeId} {kk:Nat} (h:NR P t=some kk):∃ d,P.underlying t=some d/\KD kk d:=by
 unfold NR at h;split at h<;>first|(cases h;exact⟨_,by assumption,rfl⟩)|cases h
theorem xb {C:Nat->List Value} {kk:Nat} {k:D} {x:Value} (h:ke kk k=true) (r:du C k x):x=pd k:=by
 unfold ke at h;split at h
 ·simp only[du,bD]at r;cases r;rfl
 ·simp only[du,bD]at r;cases r;rfl
 ·simp only[du,bD]at r;cases r;rfl
 ·cases h
theorem Hc {C:Nat->List Value} {kk:Nat} {k:D} (h:ke kk k=true):du C k (pd k):=by
 unfold ke at h;split at h
 ·simp[du,bD,pd]
 ·simp[du,bD,pd]
 ·simp[du,bD,pd]
 ·cases h
theorem rU {kk:Nat} {d:TypeDesc} {k:D} (hd:KD kk d) (h:ke kk k=true):IsKey d (pd k):=by
 unfold ke at h;split at h
 ·cases hd;trivial
 ·cases hd;rfl
 ·cases hd;trivial
 ·cases h
theorem L4 {kk:Nat} {a b:D} (ha:ke kk a=true) (hb:ke kk b=true):eq1 a b=true↔pd b=pd a:=by
 unfold ke at ha hb;split at ha
 ·split at hb<;>first|contradiction|(simp_all[eq1,pd];done)|(simp[eq1,pd];exact eq_comm)|cases hb
 ·split at hb<;>first|contradiction|(simp_all[eq1,pd];done)|(simp[eq1,pd];exact eq_comm)|cases hb
 ·split at hb<;>first|contradiction|(simp_all[eq1,pd];done)|(simp[eq1,pd];exact eq_comm)|cases hb
 ·cases ha
theorem yS {k:D}:∀ {l:List (D×D)} {j:Nat},iP k l=some j->∃ p,l[j]? =some p/\eq1 k p.1=true/\wV k l=some p.2
 |[],j,h=>by cases h
 |(a,v)::r,j,h=>by
  simp only[iP,wV]at h⊢;split at h
  ·rename_i hk;cases h;exact⟨(a,v),rfl,hk,by rw[ay hk]⟩
  ·rename_i hk;obtain⟨i,hi,rfl⟩:=aj.1 h;obtain⟨p,h1,h2,h3⟩:=yS hi;exact⟨p,by simpa using h1,h2,by rw[aA hk];exact h3⟩
theorem yT {k:D}:∀ {l:List (D×D)},iP k l=none->wV k l=none/\∀ p∈l,eq1 k p.1=false
 |[],_=>⟨rfl,by simp⟩
 |(a,v)::r,h=>by
  simp only[iP,wV]at h⊢;split at h
  ·cases h
  ·rename_i hk;have h':iP k r=none:=by simpa using h
   obtain⟨h1,h2⟩:=yT h';refine⟨by rw[aA hk];exact h1,fun p hp=>?_⟩;rcases bs.1 hp with rfl|hp
   ·simpa using hk
   ·exact h2 p hp
theorem Dj {k v:D}:∀ {l:List (D×D)} {j:Nat},iP k l=some j->G2 k v l=rN j v l
 |[],j,h=>by cases h
 |(a,x)::r,j,h=>by
  simp only[iP,G2,rN]at h⊢;split at h
  ·rename_i hk;cases h;rw[ay hk];rfl
  ·rename_i hk;obtain⟨i,hi,rfl⟩:=aj.1 h;rw[aA hk,Dj hi];rfl
theorem Dk {k v:D}:∀ {l:List (D×D)},iP k l=none->G2 k v l=l++[(k,v)]
 |[],_=>rfl
 |(a,x)::r,h=>by
  simp only[iP,G2]at h⊢;split at h
  ·cases h
  ·rename_i hk;rw[aA hk,Dk (by simpa using h)];rfl
theorem Dx {C:Nat->List Value} {kk:Nat} {d:TypeDesc} {k:D} (hd:KD kk d) (hk:ke kk k=true):∀ (l:List (D×D)) (es:List MapEntry) (i:Nat),es.length=l.length->pc kk l=true->
 (∀ (j:Nat) p e,l[j]? =some p->es[j]? =some e->du C p.1 e.key)->Instr.findNow d (pd k) es i=some ((iP k l).bind fun j=>(es[j]?).map fun e=>(i+j,e.val))
 |[],[],i,_,_,_=>rfl
 |[],_::_,_,h,_,_=>by simp at h
 |_::_,[],_,h,_,_=>by simp at h
 |p::l,e::es,i,hl,hks,hr=>by
  simp only[pc,aQ,ab]at hks;have he:=xb hks.1 (hr 0 p e rfl rfl);obtain⟨r,h1,h2⟩:=sameNow_of_keys (rU hd hk) (rU hd hks.1);have h3:=L4 hk hks.1;have ih:=Dx hd hk l es (i+1) (by simpa using hl) hks.2 fun j p e h4 h5=>hr (j+1) p e (by simpa using h4) (by simpa using h5);cases r with
  |true=>
   have:eq1 k p.1=true:=h3.2 (h2.1 rfl).symm;obtain⟨a,v⟩:=p;simp only at this he h1;simp[Instr.findNow,he,h1,iP,this]
  |false=>
   have:eq1 k p.1=false:=by
    cases hb:eq1 k p.1 with
    |false=>rfl
    |true=>exact absurd (h2.2 (h3.1 hb).symm) (by simp)
   obtain⟨a,v⟩:=p;simp only at this he h1;simp only[Instr.findNow,he,h1,ih,iP,this];cases iP k l with
   |none=>rfl
   |some j=>
    simp only[eP,iE,aI,aP,bR];congr 2;funext e;congr 1;omega
section
variable {P:Program} {cx:Cx} {nb:Nat} {g:Gh} {H:Hp} {w:World} {o:Oper} {a:Act}
theorem Inv.a0m (hI:Inv cx g H w) (hnb:nb<=H.length) {ob:Obj} {o:Ob} {cap:Nat} (hu:∀ c,o= .box c->br H.length c=true)
 (hob:∀ (g':Gh) (w':World),Keep H.length g H g' (H++[o])->g'.C w.heap.size=[]->w'.heap[w.heap.size]? =some ob->zn g' (H++[o]) w' w.heap.size cap o):
 ∃ g',Inv cx g' (H++[o]) (w.alloc ob)/\Ext nb g H w g' (H++[o]) (w.alloc ob)/\g'.J H.length=some (w.heap.size,cap):=by
 let g':Gh:={J:=fun i=>if i=H.length then some (w.heap.size,cap) else g.J i,C:=g.C };have hC:∀ b,g.C b <+:g'.C b:=fun b=>aJ _;have hJ:∀ i,i < H.length->g'.J i=g.J i:=fun i hi=>aA om;have hJn:g'.J H.length=some (w.heap.size,cap):=ay rfl;have hold:∀ b,b < w.heap.size->(w.alloc ob).heap[b]? =w.heap[b]? :=fun b hb=>(heap_alloc w ob).2 b hb;have hnew:(w.alloc ob).heap[w.heap.size]? =some ob:=(heap_alloc w ob).1;have hsize:(w.alloc ob).heap.size=w.heap.size+1:=by show(w.heap.push ob).size=_;simp
 have hkeep:Keep H.length g H g' (H++[o]):=uP _ _ _ _ _ (ai _) hC hJ;have hJc:∀ i b c,g'.J i=some (b,c)->(i=H.length/\b=w.heap.size/\c=cap)\/(i < H.length/\g.J i=some (b,c)):=by
  intro i b c h;by_cases hi:i=H.length
  ·subst hi;rw[hJn]at h;cases h;exact .inl ⟨rfl,rfl,rfl⟩
  ·have h':g.J i=some (b,c):=by simpa only[g',aA hi] using h
   exact .inr ⟨(hI.dom i b c h').1,h'⟩
 refine⟨g',⟨?_,?_,?_,?_,?_,hI.glob,hI.fix.mono fun b hb hn=>⟨hold b hb,fun k c hk=>by rcases hJc k b c hk with⟨_,e2,_⟩|⟨_,e2⟩;omega;exact hn k c e2⟩⟩,⟨rfl,rfl,rfl,om,?_,hkeep,?_,?_,by simp⟩,hJn⟩
 ·intro i k b c c' h1 h2;rcases hJc i b c h1 with⟨e1,e2,_⟩|⟨e1,e2⟩<;>rcases hJc k b c' h2 with⟨f1,f2,_⟩|⟨f1,f2⟩
  ·omega
  ·have:=(hI.dom _ _ _ f2).2;omega
  ·have:=(hI.dom _ _ _ e2).2;omega
  ·exact hI.inj i k b c c' e2 f2
 ·intro i b c h;rcases hJc i b c h with⟨rfl,rfl,_⟩|⟨e1,e2⟩
  ·simp[hsize]
  ·have:=hI.dom _ _ _ e2;simp;omega
 ·intro i b c o' h h';rcases hJc i b c h with⟨rfl,rfl,rfl⟩|⟨e1,e2⟩
  ·rw[iC]at h';cases h';exact hob g' _ hkeep (hI.DO (ai _)) hnew
  ·rw[jS H o i e1]at h';have hd:=hI.dom _ _ _ e2;exact(hI.ob i b c o' e2 h').ext hkeep.w (hold b hd.2) rfl (xT hI h')
 ·intro b hb;obtain⟨cur,e,fz,h1,h2⟩:=hI.imm b hb;exact⟨cur,e,fz,by rw[hold b (aS.1 h1).1];exact h1,h2⟩
 ·intro i c hi hc;by_cases hil:i=H.length
  ·subst hil;rw[iC]at hc;cases hc;exact fE (by simp) _ (hu c rfl)
  ·have hil':i < H.length:=by simp at hi;omega
   rw[jS H o i hil']at hc;exact fE (by simp) _ (hI.und i c hil' hc)
 ·intro b hb hj;exact⟨hold b hb,rfl⟩
 ·intro i b c h hb;rcases hJc i b c h with⟨_,e2,_⟩|⟨e1,e2⟩
  ·omega
  ·exact⟨i,c,e2⟩
 ·intro n hn hc;exact r8 om hc
theorem Inv.PM (hI:Inv cx g H w) {id b cap:Nat} (hJ:g.J id=some (b,cap)) {l l':List (D×D)} (ho:H[id]? =some (.map l)) {es':Array MapEntry} (hr:Iy g.C l' es'.toList):
 Inv cx g (H.set id (.map l')) {w with heap:=w.heap.setIfInBounds b (.map es' l'.length)}/\Ext nb g H w g (H.set id (.map l')) {w with heap:=w.heap.setIfInBounds b (.map es' l'.length)}:=by
 have hid:=(az.1 ho).1;have hkeep:Keep H.length g H g (H.set id (.map l')):=Keep.set ⟨_,ho,by simp⟩ (by simp);obtain⟨⟨es,hb,_⟩,hCb⟩:=hI.ob id b cap _ hJ ho;have hheap:∀ k,k≠b->(w.heap.setIfInBounds b (.map es' l'.length))[k]? =w.heap[k]? :=fun k hk=>(heap_set hb).2 k hk;have hself:(w.heap.setIfInBounds b (.map es' l'.length))[b]? =some (.map es' l'.length):=(heap_set hb).1;refine⟨⟨hI.inj,fun i b' c'' h=>?_,fun i b' c'' q h hq=>?_,fun b' hb'=>?_,fun i q hi hq=>?_,hI.glob,hI.fix.mono fun b' _ hn=>⟨hheap b' fun e=>hn id cap (e ▸ hJ),hn⟩⟩,⟨rfl,rfl,rfl,by simp,fun b' hb' hj=>⟨hheap b' fun e=>hj id cap (e ▸ hJ),rfl⟩,hkeep,fun i b' c' h _=>⟨i,c',h⟩,fun n hn hc i q hi hq=>?_,by simp⟩⟩
 ·have:=hI.dom i b' c'' h;simp;omega
 ·by_cases hi:id=i
  ·subst hi;rw[hJ]at h;cases h;simp only[bu hid,aa]at hq;subst hq;exact⟨⟨es',hself,hr⟩,hCb⟩
  ·rw[aX hi]at hq;have hne:b'≠b:=fun e=>hi (hI.inj _ _ _ _ _ hJ (e ▸ h));exact(hI.ob i b' c'' q h hq).ext hkeep.w (hheap b' hne) rfl (xT hI hq)
 ·have hne:b'≠b:=fun e=>hb' (e ▸ hCb);rw[hheap b' hne];exact hI.imm b' hb'
 ·simp only[cX]at hi⊢;by_cases hii:id=i
  ·subst hii;simp[bu hid]at hq
  ·rw[aX hii]at hq;exact hI.und i q hi hq
 ·by_cases hii:id=i
  ·subst hii;simp[bu hid]at hq
  ·rw[aX hii]at hq;exact hc i q hi hq
theorem Ti {C:Nat->List Value} {l:List (D×D)} {es:Array MapEntry} (h:Iy C l es.toList) {j:Nat} {f:MapEntry->MapEntry} {v:D} (hf:∀ p e,l[j]? =some p->es[j]? =some e->du C p.1 (f e).key/\du C v (f e).val/\(f e).born=e.born):Iy C (rN j v l) (es.modify j f).toList:=by
 obtain⟨h1,h2⟩:=h;refine⟨by simpa [rN] using h1,fun i p e hp he=>?_⟩;unfold rN at hp;rw[List.getElem?_modify]at hp;rw[jA,Array.getElem?_modify]at he;by_cases hj:j=i
 ·subst hj;simp only[cU]at hp he;obtain⟨p0,hp0,rfl⟩:=aj.1 hp;obtain⟨e0,he0,rfl⟩:=aj.1 he;obtain⟨r1,r2,r3⟩:=hf p0 e0 hp0 he0;exact⟨r1,r2,r3.trans (h2 j p0 e0 hp0 (by rw[jA];exact he0)).2.2⟩
 ·simp only[aA hj]at hp he;exact h2 i p e (by simpa using hp) (by rw[jA];exact he)
theorem OD {C:Nat->List Value} {l:List (D×D)} {es:Array MapEntry} (h:Iy C l es.toList) {k v:D} {x y:Value} (hk:du C k x) (hv:du C v y):Iy C (l++[(k,v)]) (es.push {key:=x,val:=y,born:=l.length }).toList:=by
 obtain⟨h1,h2⟩:=h;refine⟨by simpa using h1,fun i p e hp he=>?_⟩;rw[Array.toList_push]at he;by_cases hi:i < l.length
 ·rw[aD hi]at hp;rw[aD om]at he;exact h2 i p e hp he
 ·rw[aK om]at hp;rw[aK om,h1]at he;have hi0:i - l.length=0:=by
   cases hq:i - l.length with
   |zero=>rfl
   |succ n=>rw[hq]at hp;simp at hp
  rw[hi0]at hp he;simp at hp he;subst hp;subst he;exact⟨hk,hv,by show l.length=i;omega⟩
theorem YD (hI:Inv cx g H w) (hnb:nb<=H.length) {t:TypeId} (hop:o.op= .makeMap t none):bK P cx nb g H w (.mp H.length) (H++[.map []]) ((execOp a.eval o).run P w):=by
 have hrun:(execOp a.eval o).run P w= .ok (.value (.map (some w.heap.size))) (w.alloc (.map #[] 0)):=by
  simp[execOp,hop,Instr.makeMap,Result.andThen]
 obtain⟨g',h1,h2,h3⟩:=hI.a0m (nb:=nb) hnb (ob:= .map #[] 0) (o:= .map []) (cap:=0) (by rintro c ⟨⟩)
   (fun g' w' hk hC hw=>⟨⟨#[],hw,rfl,fun i p e hp _=>by simp at hp⟩,hC⟩)
 rw[hrun];refine .val g' _ _ h1 ?_ ?_ h2
 ·simp only[bW];exact⟨⟨_,iC H _,by simp⟩,_,_,h3,rfl⟩
 ·simp[V.und]
theorem OO {t:TypeId} {z:D} (h:KQ P t=some z):∃ zv,(∀ w,(zeroValue t).run P w= .ok zv w)/\∀ C,du C z zv:=by
 unfold KQ at h;have run:∀ zv,(P.info? t).bind (·.zero)=some zv->∀ w,(zeroValue t).run P w= .ok zv w:=by
  intro zv hz w;obtain⟨i,hi,hzv⟩:=bY.1 hz;simp[zeroValue,typeInfo,hi,hzv]
 split at h
 ·rename_i c hz;obtain⟨ds,hd,rfl⟩:=aj.1 h;obtain⟨l,hl,hd⟩:=bY.1 hd;refine⟨_,run _ hz,fun C=>⟨c,rfl,?_⟩⟩;exact xL (g:=⟨fun _=>none,C⟩) (H:=[]) hd (iJ hl).1
 ·rename_i v hz hv;split at h
  ·rename_i x hx;cases h;refine⟨_,run _ hv,fun C=>?_⟩;obtain⟨r,_,_⟩:=wc (g:=⟨fun _=>none,C⟩) (H:=[]) hx;simp only[bW]at r;exact r
  ·cases h
 ·cases h
theorem Q2 (hI:Inv cx g H w) {id:Nat} {l:List (D×D)} (ho:H[id]? =some (.map l)) {x:Value} (r:bW g H (.mp id) x):∃ b cap es,g.J id=some (b,cap)/\x= .map (some b)/\w.heap[b]? =some (.map es l.length)/\Iy g.C l es.toList:=by
 simp only[bW]at r;obtain⟨_,b,c,hJ,rfl⟩:=r;obtain⟨⟨es,h1,h2⟩,_⟩:=hI.ob id b c _ hJ ho;exact⟨b,c,es,hJ,rfl,h1,h2⟩
theorem y7 {C:Nat->List Value} {kk:Nat} {d:TypeDesc} {k:D} (hd:KD kk d) (hk:ke kk k=true) {l:List (D×D)} {es:Array MapEntry} (hr:Iy C l es.toList) (hks:pc kk l=true):
 (iP k l=none/\Instr.findNow d (pd k) es.toList 0=some none)\/∃ j p e,iP k l=some j/\l[j]? =some p/\es[j]? =some e/\wV k l=some p.2/\e.key=pd k/\du C p.2 e.val/\e.born=j/\Instr.findNow d (pd k) es.toList 0=some (some (j,e.val)):=by
 have h:=Dx (C:=C) hd hk l es.toList 0 hr.1 hks fun j p e h1 h2=>(hr.2 j p e h1 h2).1;cases hw:iP k l with
 |none=>rw[hw]at h;exact .inl ⟨rfl,h⟩
 |some j=>
  obtain⟨p,h1,h2,h3⟩:=yS hw;have hj:=(az.1 h1).1;have hes:j < es.toList.length:=by rw[hr.1];exact hj
  obtain⟨e,he⟩:∃ e,es.toList[j]? =some e:=⟨_,ae hes⟩;obtain⟨r1,r2,r3⟩:=hr.2 j p e h1 he;have hkp:ke kk p.1=true:=aC.1 hks p (aT h1);rw[hw]at h;simp only[aP,he,aI,bt]at h;refine .inr ⟨j,p,e,rfl,h1,by simpa using he,h3,?_,r2,r3,h⟩;rw[xb hkp r1];exact(L4 hk hkp).1 h2
theorem Lx (hI:Inv cx g H w) {t kt et:TypeId} {m k v:Operand} (hop:o.op= .mapUpdate t m k v\/o.op= .insert t m k v) (ht:P.underlying t=some (.map kt et)) {kk:Nat} (hkt:NR P kt=some kk) {id:Nat} {kd x:D} {l:List (D×D)} (ho:H[id]? =some (.map l)) (hk:ke kk kd=true) (hks:pc kk l=true)
 (rm:bW g H (.mp id) (a.eval m)) (rk:bW g H (.d kd) (a.eval k)) (rv:du g.C x (a.eval v)):bK P cx nb g H w .undef (H.set id (.map (G2 kd x l))) ((execOp a.eval o).run P w):=by
 obtain⟨d,hud,hd⟩:=L5 hkt;obtain⟨b,cap,es,hJ,hm,hb,hr⟩:=Q2 hI ho rm;have ek:=xb hk rk;have hK:=rU hd hk;rcases y7 hd hk hr hks with⟨h1,h2⟩|⟨j,p,e,h1,hp,he,h3,h4,h5,h6,h7⟩
 ·have hrun:(execOp a.eval o).run P w= .ok .skip {w with heap:=w.heap.setIfInBounds b (.map (es.push {key:=pd kd,val:=a.eval v,born:=l.length }) (l++[(kd,x)]).length)}:=by
   have:(Instr.mapUpdate t (a.eval m) (a.eval k) (a.eval v)).run P w= .ok () {w with heap:=w.heap.setIfInBounds b (.map (es.push {key:=pd kd,val:=a.eval v,born:=l.length }) (l++[(kd,x)]).length)}:=by
    rw[hm,ek];simp[Instr.mapUpdate,run_underlying ht,MapKept.run_getObj_map hb,run_checkKey hud hK,run_findKey hud h2,MapKept.run_setObj_map _ hb,Result.andThen]
   rcases hop with hop|hop<;>(simp only[execOp,hop];exact PU this)
  rw[hrun,Dk h1];obtain⟨i1,i2⟩:=hI.PM (nb:=nb) hJ ho (OD hr (Hc hk) rv);exact .skip g _ i1 rfl i2
 ·have hrun:(execOp a.eval o).run P w= .ok .skip {w with heap:=w.heap.setIfInBounds b (.map (es.modify j fun e=>{e with key:=pd kd,val:=a.eval v }) (rN j x l).length)}:=by
    have:(Instr.mapUpdate t (a.eval m) (a.eval k) (a.eval v)).run P w= .ok () {w with heap:=w.heap.setIfInBounds b (.map (es.modify j fun e=>{e with key:=pd kd,val:=a.eval v }) (rN j x l).length)}:=by
      rw[hm,ek];simp[Instr.mapUpdate,run_underlying ht,MapKept.run_getObj_map hb,run_checkKey hud hK,run_findKey hud h7,he,h4,run_keyThatStays hK,MapKept.run_setObj_map _ hb,Result.andThen,rN]
    rcases hop with hop|hop<;>(simp only[execOp,hop];exact PU this)
  rw[hrun,Dj h1];have hkp:ke kk p.1=true:=aC.1 hks p (aT hp);obtain⟨i1,i2⟩:=hI.PM (nb:=nb) hJ ho (l':=rN j x l) (Ti hr (j:=j) (v:=x) (f:=fun e=>{e with key:=pd kd,val:=a.eval v }) fun p' e' hp' he'=>by
    rw[hp]at hp';cases hp';rw[he]at he';cases he';have:=(hr.2 j p e hp (by simpa using he)).1;rw[xb hkp this]at h4;exact⟨by rw[<-h4];exact Hc hkp,rv,rfl⟩)
  exact .skip g _ i1 rfl i2
theorem UA (hI:Inv cx g H w) {t kt et:TypeId} {m k:Operand} {ok:Bool} (hop:o.op= .lookup t m k ok) (ht:P.underlying t=some (.map kt et)) {kk:Nat} (hkt:NR P kt=some kk) {z:D} (hz:KQ P et=some z) {id:Nat} {kd:D} {l:List (D×D)} (ho:H[id]? =some (.map l)) (hk:ke kk kd=true) (hks:pc kk l=true)
 (rm:bW g H (.mp id) (a.eval m)) (rk:bW g H (.d kd) (a.eval k)):bK P cx nb g H w (UN ok z (wV kd l)) H ((execOp a.eval o).run P w):=by
 obtain⟨d,hud,hd⟩:=L5 hkt;obtain⟨b,cap,es,hJ,hm,hb,hr⟩:=Q2 hI ho rm;have ek:=xb hk rk;have hK:=rU hd hk;obtain⟨zv,hzv,hzr⟩:=OO hz;have two:∀ (v:D) (x:Value) (q:Bool),du g.C v x->bW g H (if ok then .tup [.d v,.d (.bool q)] else .d v) (if ok then .tuple #[x,.bool q] else x):=by
  intro v x q r;cases ok
  ·simp only[eP,iE,bW];exact r
  ·simp only[cU,bW];exact⟨_,rfl,by simp only[bN];exact⟨x,[.bool q],rfl,by simp only[bW];exact r,_,[],rfl,qN q,rfl⟩⟩
 rcases y7 hd hk hr hks with⟨h1,h2⟩|⟨j,p,e,h1,hp,he,h3,h4,h5,h6,h7⟩
 ·have hf:=(yT h1).1;refine bK.pure (x:=if ok then .tuple #[zv,.bool false] else zv) hI ?_ ?_ ?_
  ·simp only[execOp,hop];refine nC ?_;rw[hm,ek];simp[Instr.lookup,run_underlying ht,MapKept.run_getObj_map hb,run_checkKey hud hK,run_findKey hud h2,hzv,Result.andThen]
  ·rw[hf];have:=two z zv false (hzr _);cases ok<;>exact this
  ·rw[hf];cases ok<;>rfl
 ·refine bK.pure (x:=if ok then .tuple #[e.val,.bool true] else e.val) hI ?_ ?_ ?_
  ·simp only[execOp,hop];refine nC ?_;rw[hm,ek];simp[Instr.lookup,run_underlying ht,MapKept.run_getObj_map hb,run_checkKey hud hK,run_findKey hud h7,Result.andThen]
  ·rw[h3];have:=two p.2 e.val true h5;cases ok<;>exact this
  ·rw[h3];cases ok<;>rfl
end
end Go.Vm
