import Derived.Test.YtkedogplneaaiaaGreatDoorVmOps2
set_option linter.unusedVariables false
set_option linter.unusedSimpArgs false
namespace Go.Vm
section
variable {P:Program} {cx:Cx} {nb:Nat} {g:Gh} {H:Hp} {w:World}
theorem e2r.ext {n:Nat} {g':Gh} {H':Hp} {w':World} {b cap:Nat} {o:Ob} (h:e2r g H w b cap o) (hk:c5k n g H g' H') (hh:w'.heap[b]? =w.heap[b]?) (hC:g'.C b=g.C b)
 (hu:∀ c,o= .box c->a0z n c=true):e2r g' H' w' b cap o:=by
 cases o with
 |box c=>
  obtain⟨cur,e,h1,h2,h3⟩:=h
  exact⟨cur,e,hh.trans h1,a7n hk _ _ (hu c rfl) h2,hC.trans h3⟩
 |frz c=>simp only[e2r]at h⊢;rw[hC];exact a3f hk.C _ _ h
 |map l=>
  obtain⟨⟨es,h1,h2,h3⟩,h4⟩:=h
  exact⟨⟨es,hh.trans h1,h2,fun i p e hp he=>by obtain⟨r1,r2,r3⟩:=h3 i p e hp he;exact⟨c6p hk.C r1,c6p hk.C r2,r3⟩⟩,hC.trans h4⟩
 |row sz l=>
  obtain⟨cur,e,h1,h2,h3⟩:=h
  exact⟨cur,e,hh.trans h1,by rw[hC];exact a4w hk.C _ _ _ h2,h3⟩
theorem Inv.e6u (hI:Inv cx g H w) {b:Nat} (hb:w.heap.size<=b):g.C b=[]:=by
 by_cases h:g.C b=[]
 ·exact h
 ·obtain⟨cur,e,fz,h1,_⟩:=hI.imm b h
  have:=(Array.getElem?_eq_some_iff.1 h1).1
  omega
theorem Inv.g2u (hI:Inv cx g H w) {b:Nat} (hb:w.heap.size<=b) (i c:Nat):g.J i≠some (b,c):=fun h=>by
  have:=(hI.dom i b c h).2
  omega
theorem c6t (hI:Inv cx g H w) {i:Nat} {o:Ob} (h:H[i]? =some o):∀ c,o= .box c->a0z H.length c=true:=by
 rintro c rfl
 exact hI.und i c (List.getElem?_eq_some_iff.1 h).1 h
theorem a6j (H:Hp) (o:Ob) (i:Nat) (h:i < H.length):(H++[o])[i]? =H[i]? :=List.getElem?_append_left h
theorem a4e (H:Hp) (o:Ob):(H++[o])[H.length]? =some o:=by simp
theorem c0k (n:Nat) (g g':Gh) (H:Hp) (o:Ob) (hn:n<=H.length) (hC:∀ b,g.C b <+:g'.C b) (hJ:∀ i,i < H.length->g'.J i=g.J i):Keep n g H g' (H++[o]):=by
 refine⟨hC,fun i o' hi ho hr=>⟨hJ i om,o',by rw[a6j H o i om];exact ho,hr⟩,fun i sz l hi ho=>⟨l,by rw[a6j H o i om];exact ho,List.prefix_refl _,fun _=>hJ i om⟩⟩
theorem b7g {n:Nat} {H:Hp} {o:Ob} (hn:n<=H.length) (h:Clean n H):Clean n (H++[o]):=by
 intro i c hi ho
 rw[a6j H o i om]at ho
 exact h i c hi ho
theorem Inv.alloc (hI:Inv cx g H w) (hnb:nb<=H.length) {w1:World} (hw1:w1.heap=w.heap) (ho:w1.os=w.os) (ht:w1.tape=w.tape) (hp:w1.output=w.output)
 {cs:Array Value} {T:TypeId} {o:Ob} {cap:Nat} {vs:List Value} (hvs:vs <+:cs.toList) (hu:∀ c,o= .box c->a0z H.length c=true)
 (hob:∀ (g':Gh) (w':World),Keep H.length g H g' (H++[o])->g'.C w.heap.size=vs->w'.heap[w.heap.size]? =some (.cells cs T (0,0))->e2r g' (H++[o]) w' w.heap.size cap o):
 ∃ g',Inv cx g' (H++[o]) (w1.alloc (.cells cs T))/\Ext nb g H w g' (H++[o]) (w1.alloc (.cells cs T))/\g'.J H.length=some (w.heap.size,cap)/\g'.C w.heap.size=vs:=by
 let g':Gh:={J:=fun i=>if i=H.length then some (w.heap.size,cap) else g.J i,C:=fun b=>if b=w.heap.size then vs else g.C b }
 have hsz:w1.heap.size=w.heap.size:=by rw[hw1]
 have hC:∀ b,g.C b <+:g'.C b:=by
  intro b
  show _ <+:if b=w.heap.size then vs else g.C b
  split
  ·rename_i hb;subst hb;rw[hI.e6u (Nat.le_refl _)];exact List.nil_prefix
  ·exact List.prefix_refl _
 have hJ:∀ i,i < H.length->g'.J i=g.J i:=fun i hi=>if_neg om
 have hJn:g'.J H.length=some (w.heap.size,cap):=if_pos rfl
 have hCn:g'.C w.heap.size=vs:=if_pos rfl
 have hCo:∀ b,b≠w.heap.size->g'.C b=g.C b:=fun b hb=>if_neg hb
 have hold:∀ b,b < w.heap.size->(w1.alloc (.cells cs T)).heap[b]? =w.heap[b]? :=fun b hb=>by rw[heap_alloc_old _ _ om,hw1]
 have hnew:(w1.alloc (.cells cs T)).heap[w.heap.size]? =some (.cells cs T (0,0)):=by rw[<-hsz];exact heap_alloc_new _ _
 have hkeep:Keep H.length g H g' (H++[o]):=c0k _ _ _ _ _ (Nat.le_refl _) hC hJ
 have hJc:∀ i b c,g'.J i=some (b,c)->(i=H.length/\b=w.heap.size/\c=cap)\/(i < H.length/\g.J i=some (b,c)):=by
  intro i b c h
  by_cases hi:i=H.length
  ·subst hi;rw[hJn]at h;cases h;exact .inl ⟨rfl,rfl,rfl⟩
  ·have h':g.J i=some (b,c):=by simpa only[g',if_neg hi] using h
   exact .inr ⟨(hI.dom i b c h').1,h'⟩
 refine⟨g',⟨?_,?_,?_,?_,?_,?_,hI.fix.mono fun b hb hn=>⟨hold b hb,fun k c hk=>by rcases hJc k b c hk with⟨_,e2,_⟩|⟨_,e2⟩;omega;exact hn k c e2⟩⟩,⟨ho,ht,hp,by simp[hsz],?_,hkeep,?_,?_,by simp⟩,hJn,hCn⟩
 ·intro i k b c c' h1 h2
  rcases hJc i b c h1 with⟨e1,e2,_⟩|⟨e1,e2⟩<;>rcases hJc k b c' h2 with⟨f1,f2,_⟩|⟨f1,f2⟩
  ·omega
  ·have:=(hI.dom _ _ _ f2).2;omega
  ·have:=(hI.dom _ _ _ e2).2;omega
  ·exact hI.inj i k b c c' e2 f2
 ·intro i b c h
  rcases hJc i b c h with⟨rfl,rfl,_⟩|⟨e1,e2⟩
  ·simp[hsz]
  ·have:=hI.dom _ _ _ e2;simp[hsz];omega
 ·intro i b c o' h h'
  rcases hJc i b c h with⟨rfl,rfl,rfl⟩|⟨e1,e2⟩
  ·rw[a4e]at h';cases h'
   exact hob g' _ hkeep hCn hnew
  ·rw[a6j H o i e1]at h'
   have hd:=hI.dom _ _ _ e2
   exact(hI.ob i b c o' e2 h').ext hkeep.w (hold b hd.2) (hCo b om) (c6t hI h')
 ·intro b hb
  by_cases hbs:b=w.heap.size
  ·subst hbs;rw[hCn];exact⟨cs,T,(0,0),hnew,hvs⟩
  ·rw[hCo b hbs]at hb⊢
   obtain⟨cur,e,fz,h1,h2⟩:=hI.imm b hb
   have:=(Array.getElem?_eq_some_iff.1 h1).1
   exact⟨cur,e,fz,by rw[hold b this];exact h1,h2⟩
 ·intro i c hi hc
  by_cases hil:i=H.length
  ·subst hil;rw[a4e]at hc;cases hc
   exact a3q (by simp) _ (hu c rfl)
  ·have hil':i < H.length:=by simp at hi;omega
   rw[a6j H o i hil']at hc
   exact a3q (by simp) _ (hI.und i c hil' hc)
 ·intro i
  obtain⟨us,h1,h2⟩:=hI.glob i
  exact⟨us,h1.trans (hC i),a3f hC _ _ h2⟩
 ·intro b hb hj
  exact⟨hold b hb,hCo b om⟩
 ·intro i b c h hb
  rcases hJc i b c h with⟨_,e2,_⟩|⟨e1,e2⟩
  ·omega
  ·exact⟨i,c,e2⟩
 ·intro n hn hc
  exact b7g om hc
theorem Inv.lit (hI:Inv cx g H w) {cs:Array Value} {T:TypeId}:
 ∃ g',Inv cx g' H (w.alloc (.cells cs T))/\Ext nb g H w g' H (w.alloc (.cells cs T))/\g'.C w.heap.size=cs.toList:=by
 let g':Gh:={J:=g.J,C:=fun b=>if b=w.heap.size then cs.toList else g.C b }
 have hC:∀ b,g.C b <+:g'.C b:=by
  intro b
  show _ <+:if b=w.heap.size then cs.toList else g.C b
  split
  ·rename_i hb;subst hb;rw[hI.e6u (Nat.le_refl _)];exact List.nil_prefix
  ·exact List.prefix_refl _
 have hCn:g'.C w.heap.size=cs.toList:=if_pos rfl
 have hCo:∀ b,b≠w.heap.size->g'.C b=g.C b:=fun b hb=>if_neg hb
 have hold:∀ b,b < w.heap.size->(w.alloc (.cells cs T)).heap[b]? =w.heap[b]? :=fun b hb=>heap_alloc_old _ _ hb
 have hnew:(w.alloc (.cells cs T)).heap[w.heap.size]? =some (.cells cs T (0,0)):=heap_alloc_new _ _
 have hkeep:Keep H.length g H g' H:=⟨hC,fun i o hi ho hr=>⟨rfl,o,ho,hr⟩,fun i sz l hi ho=>⟨l,ho,List.prefix_refl _,fun _=>rfl⟩⟩
 refine⟨g',⟨hI.inj,fun i b c h=>?_,fun i b c o h h'=>?_,fun b hb=>?_,hI.und,fun i=>?_,hI.fix.mono fun b hb hn=>⟨hold b hb,hn⟩⟩,⟨rfl,rfl,rfl,by simp,fun b hb _=>⟨hold b hb,hCo b om⟩,hkeep,fun i b c h _=>⟨i,c,h⟩,fun _ _ h=>h,Nat.le_refl _⟩,hCn⟩
 ·have:=hI.dom i b c h;simp;omega
 ·have hd:=hI.dom i b c h
  exact(hI.ob i b c o h h').ext hkeep.w (hold b hd.2) (hCo b om) (c6t hI h')
 ·by_cases hbs:b=w.heap.size
  ·subst hbs;rw[hCn];exact⟨cs,T,(0,0),hnew,List.prefix_refl _⟩
  ·rw[hCo b hbs]at hb⊢
   obtain⟨cur,e,fz,h1,h2⟩:=hI.imm b hb
   have:=(Array.getElem?_eq_some_iff.1 h1).1
   exact⟨cur,e,fz,by rw[hold b this];exact h1,h2⟩
 ·obtain⟨us,h1,h2⟩:=hI.glob i
  exact⟨us,h1.trans (hC i),a3f hC _ _ h2⟩
end
end Go.Vm
namespace Go.Vm
section
variable {P:Program} {cx:Cx} {nb:Nat} {g:Gh} {H:Hp} {w:World} {o:Oper} {a:Act}
theorem a9m {s:Sem Value} {x:Value} {w':World} (h:s.run P w= .ok x w'):(do pure (Next.value (<-s)):Sem Next).run P w= .ok (.value x) w':=by
 simp[h]
theorem f5j {s:Sem Unit} {w':World} (h:s.run P w= .ok () w'):(do s;pure Next.skip:Sem Next).run P w= .ok .skip w':=by
 simp[h]
theorem h3f (hI:Inv cx g H w) {x:Operand} (hop:o.op= .move x\/o.op= .assign x) {v:V} (hr:Rep g H v (a.eval x)) (hu:v.und H.length=true):
 a0i P cx nb g H w v H ((execOp a.eval o).run P w):=by
 refine a0i.pure hI ?_ hr hu
 rcases hop with h|h<;>simp[execOp,h]
theorem g5z (hI:Inv cx g H w) {c x y:Operand} (hop:o.op= .pick c x y) {t:Bool} {vx vy:V} (hc:Rep g H (.d (.bool t)) (a.eval c)) (hx:Rep g H vx (a.eval x)) (hy:Rep g H vy (a.eval y))
 (ux:vx.und H.length=true) (uy:vy.und H.length=true):a0i P cx nb g H w (if t then vx else vy) H ((execOp a.eval o).run P w):=by
 have hc':=a9o hc
 refine a0i.pure (x:=if t then a.eval x else a.eval y) hI ?_ ?_ ?_
 ·simp[execOp,hop,hc',asBool]
 ·cases t<;>simp_all
 ·cases t<;>simp_all
theorem b2s {t:TypeId} {z:List V} (h:zeroCells P t=some z):∃ i zv,P.info? t=some i/\i.zero=some zv/\b6g zv.cells.toList=some z:=by
 unfold zeroCells at h
 split at h
 ·rename_i i hi
  split at h
  ·rename_i zv hz;exact⟨i,zv,hi,hz,h⟩
  ·cases h
 ·cases h
theorem g4n (hI:Inv cx g H w) (hnb:nb<=H.length) {t:TypeId} (hop:o.op= .alloc t) {z:List V} (hz:zeroCells P t=some z):
 a0i P cx nb g H w (.ptr H.length 0) (H++[.box z]) ((execOp a.eval o).run P w):=by
 obtain⟨i,zv,hi,hzv,hc⟩:=b2s hz
 have hrun:(execOp a.eval o).run P w= .ok (.value (.pointer (some ⟨w.heap.size,0,none⟩))) (w.alloc (.cells zv.cells t)):=by
  simp[execOp,hop,Instr.alloc,zeroValue,typeInfo,hi,hzv,newVar,newRow]
 obtain⟨_,hu⟩:=a4j (g:=g) (H:=H) hc
 obtain⟨g',h1,h2,h3,h4⟩:=hI.alloc (nb:=nb) hnb (w1:=w) rfl rfl rfl rfl (cs:=zv.cells) (T:=t) (o:= .box z) (cap:=0) (vs:=[]) List.nil_prefix
  (by rintro c ⟨⟩;exact a3q (Nat.zero_le _) _ hu)
  (fun g' w' hk hC hw=>⟨_,_,hw,(a4j hc).1,hC⟩)
 rw[hrun]
 refine .val g' _ _ h1 ?_ ?_ h2
 ·simp only[Rep];exact⟨⟨_,a4e H _,by simp⟩,_,_,h3,rfl⟩
 ·simp[V.und]
theorem h7o (hI:Inv cx g H w) (hnb:nb<=H.length) {t:TypeId} {x:Operand} (hop:o.op= .box t x) {v:V} (hr:Rep g H v (a.eval x)) (hu:v.und H.length=true) (ho:v.cells.all V.one=true):
 a0i P cx nb g H w (.ptr H.length 0) (H++[.box v.cells]) ((execOp a.eval o).run P w):=by
 have hrun:(execOp a.eval o).run P w= .ok (.value (.pointer (some ⟨w.heap.size,0,none⟩))) (w.alloc (.cells (a.eval x).cells t)):=by
  simp[execOp,hop,Instr.box,newVar,newRow]
 have hcs:=c6z ho hr
 have huc:=c2s hu ho
 obtain⟨g',h1,h2,h3,h4⟩:=hI.alloc (nb:=nb) hnb (w1:=w) rfl rfl rfl rfl (cs:=(a.eval x).cells) (T:=t) (o:= .box v.cells) (cap:=0) (vs:=[]) List.nil_prefix
  (by rintro c ⟨⟩;exact huc)
  (fun g' w' hk hC hw=>⟨_,_,hw,a7n hk.w _ _ huc hcs,hC⟩)
 rw[hrun]
 refine .val g' _ _ h1 ?_ ?_ h2
 ·simp only[Rep];exact⟨⟨_,a4e H _,by simp⟩,_,_,h3,rfl⟩
 ·simp[V.und]
theorem d1x (hI:Inv cx g H w) {x:Operand} (hop:o.op= .nilCheck x) {v:V} (hv:(∃ id off,v= .ptr id off)\/(∃ f c,v= .fn f c)\/∃ f c,v= .fm f c) (hr:Rep g H v (a.eval x)) (hu:v.und H.length=true):
 a0i P cx nb g H w v H ((execOp a.eval o).run P w):=by
 refine a0i.pure hI ?_ hr hu
 rcases hv with⟨id,off,rfl⟩|⟨f,c,rfl⟩|⟨f,c,rfl⟩
 ·simp only[Rep]at hr
  obtain⟨_,b,c,_,hx⟩:=hr
  simp[execOp,hop,hx]
 ·simp only[Rep]at hr
  obtain⟨cs,hx,_⟩:=hr
  simp[execOp,hop,hx]
 ·simp only[Rep]at hr
  obtain⟨cs,hx,_⟩:=hr
  simp[execOp,hop,hx]
theorem h5d (hI:Inv cx g H w) {op:BinOp} {t u:TypeId} {x y:Operand} (hop:o.op= .binOp op t x y u) {vx vy r:V} (h:a8q op vx vy=some r) (rx:Rep g H vx (a.eval x)) (ry:Rep g H vy (a.eval y)):
 a0i P cx nb g H w r H ((execOp a.eval o).run P w):=by
 obtain⟨z,h1,h2,h3⟩:=g6j (P:=P) (w:=w) t h rx ry x y
 refine a0i.pure hI ?_ h2 h3
 simp only[execOp,hop]
 exact a9m h1
theorem h2u (hI:Inv cx g H w) {neg:Bool} {t u:TypeId} {x y:Operand} (hop:o.op= .binOp (if neg then .neq else .eql) t x y u) (ht:P.underlying t=some .bool) {p q:Bool} (rx:Rep g H (.d (.bool p)) (a.eval x)) (ry:Rep g H (.d (.bool q)) (a.eval y)):
 a0i P cx nb g H w (.d (.bool (if neg then !(p==q) else p==q))) H ((execOp a.eval o).run P w):=by
 refine a0i.pure hI ?_ (b1p _) rfl
 simp only[execOp,hop,a9o rx,a9o ry]
 refine a9m ?_
 cases neg
 ·simp only[Bool.false_eq_true,if_false,Sem.run_bind]
  simp[eqGuard,run_eql_bool w t p q ht]
 ·simp only[if_true,Sem.run_bind]
  simp[eqGuard,run_neq_bool w t p q ht]
theorem d3m {t:TypeId} {ms} (ht:P.underlying t=some (.interface ms)) (x:Value) (b:Bool) (hx:(b=true/\x= .nilIface)\/(b=false/\∃ u y,x= .iface u y)):(Op.equal t x .nilIface).run P w= .ok b w:=by
 show(Op.equalIn Op.maxDepth t x .nilIface).run P w=_
 generalize hd:Op.maxDepth=d
 cases d with
 |zero=>cases hd
 |succ d=>rcases hx with⟨rfl,rfl⟩|⟨rfl,u,y,rfl⟩<;>(rw[Op.equalIn];simp[run_underlying ht])
theorem f8t (hI:Inv cx g H w) {neg:Bool} {t u:TypeId} {x:Operand} (hop:o.op= .binOp (if neg then .neq else .eql) t x (.const .nilIface) u) {ms} (ht:P.underlying t=some (.interface ms)) {b:Bool} (rx:Rep g H (.ifc b) (a.eval x)):
 a0i P cx nb g H w (.d (.bool (if neg then !b else b))) H ((execOp a.eval o).run P w):=by
 simp only[Rep]at rx
 have he:=d3m (w:=w) ht (a.eval x) b rx
 refine a0i.pure hI ?_ (b1p _) rfl
 simp only[execOp,hop]
 refine a9m ?_
 rcases rx with⟨rfl,hx⟩|⟨rfl,v,y,hx⟩<;>rw[hx]at he⊢ <;>cases neg<;>simp[eqGuard,binOp,Act.eval,he]
theorem i4e (hI:Inv cx g H w) {op:UnOp} {t:TypeId} {x:Operand} (hop:o.op= .unOp op t x) {v r:V} (h:unV op v=some r) (rx:Rep g H v (a.eval x)):
 a0i P cx nb g H w r H ((execOp a.eval o).run P w):=by
 unfold unV at h
 split at h
 ·rename_i k n
  cases op<;>simp only at h<;>cases h
  refine a0i.pure hI ?_ (a8s _ _) rfl
  simp[execOp,hop,b0d rx,Op.unary,Op.intArith]
 ·rename_i b
  cases op<;>simp only at h<;>cases h
  refine a0i.pure hI ?_ (b1p _) rfl
  simp[execOp,hop,a9o rx,Op.unary]
 ·cases h
theorem g4x (hI:Inv cx g H w) {s t:TypeId} {x:Operand} (hop:o.op= .convert s t x) {k k0:IntKind} (hs:P.underlying s=some (.int k0)) (ht:P.underlying t=some (.int k)) {k':IntKind} {n:Int} (rx:Rep g H (.d (.int k' n)) (a.eval x)):
 a0i P cx nb g H w (.d (.int k (k.wrap n))) H ((execOp a.eval o).run P w):=by
 refine a0i.pure hI ?_ (a8s _ _) rfl
 simp only[execOp,hop,b0d rx]
 refine a9m ?_
 simp[convert,run_underlying hs,run_underlying ht,Conv.intToInt]
theorem f6z (hI:Inv cx g H w) {s t:TypeId} {x:Operand} (hop:o.op= .convert s t x) (hs:P.underlying s=some .string) (ht:P.underlying t=some .string) {l:List UInt8} (rx:Rep g H (.d (.str l)) (a.eval x)):
 a0i P cx nb g H w (.d (.str l)) H ((execOp a.eval o).run P w):=by
 refine a0i.pure hI ?_ (d7x _) rfl
 simp only[execOp,hop,c4a rx]
 refine a9m ?_
 simp[convert,run_underlying hs,run_underlying ht]
theorem g5p (hI:Inv cx g H w) {f:Nat} {first caps:Array Operand} (hop:o.op= .makeFunc (.func f) first caps) (hf:first.isEmpty=true) {c:List V} (hr:a0w g H c (caps.toList.map a.eval)) (hu:a0z H.length c=true):
 a0i P cx nb g H w (.fn f c) H ((execOp a.eval o).run P w):=by
 have:first= #[]:=by simpa using hf
 subst this
 refine a0i.pure (x:= .func (.func f) #[] (caps.map a.eval)) hI ?_ ?_ ?_
 ·simp[execOp,hop,Instr.makeFunc]
 ·simp only[Rep];exact⟨_,rfl,by simpa using hr⟩
 ·simpa only[V.und] using hu
theorem g4c (hI:Inv cx g H w) {f:Nat} {first caps:Array Operand} (hop:o.op= .makeFunc (.func f) first caps) (hf:caps.isEmpty=true) {c:List V} (hr:a0w g H c (first.toList.map a.eval)) (hu:a0z H.length c=true):
 a0i P cx nb g H w (.fm f c) H ((execOp a.eval o).run P w):=by
 have:caps= #[]:=by simpa using hf
 subst this
 refine a0i.pure (x:= .func (.func f) (first.map a.eval) #[]) hI ?_ ?_ ?_
 ·simp[execOp,hop,Instr.makeFunc]
 ·simp only[Rep];exact⟨_,rfl,by simpa using hr⟩
 ·simpa only[V.und] using hu
theorem h3b (hI:Inv cx g H w) {x:Operand} {i:Nat} (hop:o.op= .extract x i) {l:List V} {v:V} (hl:l[i]? =some v) (hr:Rep g H (.tup l) (a.eval x)) (hu:(V.tup l).und H.length=true):
 a0i P cx nb g H w v H ((execOp a.eval o).run P w):=by
 simp only[Rep]at hr
 obtain⟨cs,hx,hr⟩:=hr
 have get:∀ {l:List V} {vs:List Value} {i:Nat} {v:V},a0w g H l vs->l[i]? =some v->∃ y,vs[i]? =some y/\Rep g H v y:=by
  intro l
  induction l with
  |nil=>intro vs i v _ h;simp at h
  |cons q l ih=>
   intro vs i v r h
   simp only[a0w]at r
   obtain⟨y,ys,rfl,h1,h2⟩:=r
   cases i with
   |zero=>simp only[List.getElem?_cons_zero,Option.some.injEq]at h;subst h;exact⟨y,rfl,h1⟩
   |succ i=>simp only[List.getElem?_cons_succ]at h⊢;exact ih h2 h
 obtain⟨y,h1,h2⟩:=get hr hl
 refine a0i.pure (x:=y) hI ?_ h2 (c0m (by simpa only[V.und] using hu) hl)
 have h1':cs[i]? =some y:=by simpa using h1
 simp[execOp,hop,hx,Instr.extract,h1']
theorem d9u {b off:Nat} {cur:Array Value} {e:TypeId} {fz:Nat×Nat} (h:w.heap[b]? =some (.cells cur e fz)) (j:Nat):w.cell? ((⟨b,off,none⟩:Addr).add j)=cur[off+j]? :=by
 rw[Addr.add_lit,cell_of_row w b (off+j) cur e fz h]
theorem e7b (hI:Inv cx g H w) {v:V} {x:Value} {c:List V} {off:Nat} (h:b0o H v=some (c,off)) (r:Rep g H v x) (hu:v.und H.length=true):
 ∃ b o',x= .pointer (some ⟨b,o'+off,none⟩)/\a0z H.length c=true/\(c=[]\/∃ cur e fz vs,w.heap[b]? =some (.cells cur e fz)/\vs <+:cur.toList.drop o'/\a1p g H c vs):=by
 unfold b0o at h
 split at h
 ·rename_i id off'
  simp only[Rep]at r
  obtain⟨⟨ob,ho,_⟩,b,cap,hJ,rfl⟩:=r
  split at h
  ·rename_i c' hc
   simp only[Option.some.injEq,Prod.mk.injEq]at h
   obtain⟨rfl,rfl⟩:=h
   obtain⟨cur,e,h1,h2,_⟩:=hI.ob id b cap _ hJ hc
   exact⟨b,0,by simp,hI.und id _ (List.getElem?_eq_some_iff.1 hc).1 hc,.inr ⟨cur,e,(0,0),cur.toList,h1,by simp,h2⟩⟩
  ·rename_i c' hc
   simp only[Option.some.injEq,Prod.mk.injEq]at h
   obtain⟨rfl,rfl⟩:=h
   have hob:a1n g.C c' (g.C b):=hI.ob id b cap _ hJ hc
   refine⟨b,0,by simp,a9z _ _,?_⟩
   by_cases hn:g.C b=[]
   ·rw[hn]at hob
    have hl:=b1j hob
    left
    have:c'=[]:=List.eq_nil_of_length_eq_zero (by simpa using hl.symm)
    subst this;rfl
   ·obtain⟨cur,e,fz,h1,h2⟩:=hI.imm b hn
    exact .inr ⟨cur,e,fz,g.C b,h1,by simpa using h2,b0w hob⟩
  ·cases h
 ·rename_i l off'
  simp only[Option.some.injEq,Prod.mk.injEq]at h
  obtain⟨rfl,rfl⟩:=h
  simp only[Rep]at r
  obtain⟨b,o',vs,rfl,h1,h2⟩:=r
  refine⟨b,o',rfl,a9z _ _,?_⟩
  by_cases hn:g.C b=[]
  ·rw[hn,List.drop_nil]at h1
   have hv:vs=[]:=List.prefix_nil.1 h1
   subst hv
   have hl:=b1j h2
   left
   have:l=[]:=List.eq_nil_of_length_eq_zero (by simpa using hl.symm)
   subst this;rfl
  ·obtain⟨cur,e,fz,h3,h4⟩:=hI.imm b hn
   exact .inr ⟨cur,e,fz,vs,h3,h1.trans (a7k h4 o'),b0w h2⟩
 ·cases h
theorem c6s {t:TypeId} {n:Option Nat} (h:c0x P t=some n):
 (n=none/\(∀ w,(isAgg t).run P w= .ok false w)/\∃ i,P.info? t=some i/\i.size=1)\/
 (∃ k,n=some k/\(∀ w,(isAgg t).run P w= .ok true w)/\∃ i,P.info? t=some i/\i.size=k):=by
 unfold c0x aggT at h
 cases hu:P.underlying t with
 |none=>rw[hu]at h;cases h
 |some d=>
  rw[hu]at h
  have ha:∀ w,(isAgg t).run P w= .ok (match d with| .struct _| .array _ _=>true|_=>false) w:=by
    intro w
    simp only[isAgg,Sem.run_bind,run_underlying hu,Result.andThen_ok]
    cases d<;>rfl
  simp only[Option.map_some,sizeT]at h
  cases hi:P.info? t with
  |none=>cases d<;>simp[hi]at h
  |some i=>
   cases d<;>simp[hi]at h<;>first
    |(obtain⟨h1,h2⟩:=h;exact .inl ⟨h2.symm,ha,i,rfl,h1⟩)
    |(exact .inr ⟨i.size,h.symm,ha,i,rfl,rfl⟩)
theorem e1u (hI:Inv cx g H w) {t:TypeId} {n:Option Nat} (hs:c0x P t=some n) {p r:V} {x:Value} (h:b8m H n p=some r) (hr:Rep g H p x) (hu:p.und H.length=true):
 ∃ b off z,x= .pointer (some ⟨b,off,none⟩)/\(loadVar t ⟨b,off,none⟩).run P w= .ok z w/\Rep g H r z/\r.und H.length=true:=by
 unfold b8m at h
 split at h
 ·cases h
 ·rename_i c off hc
  obtain⟨b,o',rfl,huc,hcs⟩:=e7b hI hc hr hu
  rcases c6s hs with⟨rfl,ha,_⟩|⟨k,rfl,ha,i,hi,hk⟩
  ·simp only[a6u]at h
   rcases hcs with rfl|⟨cur,e,fz,vs,h1,h2,h3⟩
   ·simp at h
   ·obtain⟨y,hy,_,hr⟩:=b5r h3 h
    have hy':=a2b h2 hy
    rw[List.getElem?_drop]at hy'
    refine⟨b,_,y,rfl,?_,hr,c0m huc h⟩
    have hcell:w.cell? ⟨b,o'+off,none⟩=some y:=by
     rw[cell_of_row w b (o'+off) cur e fz h1];simpa using hy'
    simp[loadVar,ha,hcell]
  ·simp only[a6u]at h
   split at h
   ·rename_i hlen
    simp only[Option.some.injEq]at h
    subst h
    rcases hcs with rfl|⟨cur,e,fz,vs,h1,h2,h3⟩
    ·simp only[List.length_nil,Nat.le_zero]at hlen
     obtain rfl:k=0:=om
     refine⟨b,_,.agg #[],rfl,?_,?_,?_⟩
     ·simp[loadVar,ha,sizeOf,typeInfo,hi,hk,loadCells,loadCellsFrom]
     ·simp[b1g,b9e,Rep,a3d,a1n]
     ·simp[b1g,b9e,V.und]
    ·have hvl:=a3k h3
     have hl:((vs.drop off).take k).length=k:=by simp;omega
     refine⟨b,_,.agg ((vs.drop off).take k).toArray,rfl,?_,c0w (b6y k (b7b off h3)),c1j (c0q k (c0p off huc))⟩
     have hload:(loadCells ⟨b,o'+off,none⟩ k).run P w= .ok ((vs.drop off).take k).toArray w:=by
      have:=run_loadCells_list (P:=P) w ⟨b,o'+off,none⟩ ((vs.drop off).take k) (fun j v hj=>by
        rw[d9u h1 j]
        rw[List.getElem?_take]at hj
        split at hj
        ·rw[List.getElem?_drop]at hj
         have:=a2b h2 hj
         rw[List.getElem?_drop]at this
         rw[Nat.add_assoc]
         simpa using this
        ·cases hj)
      rwa [hl]at this
     simp[loadVar,ha,sizeOf,typeInfo,hi,hk,hload]
   ·cases h
theorem i2b (hI:Inv cx g H w) {t:TypeId} {x:Operand} (hop:o.op= .load t x) {n:Option Nat} (hs:c0x P t=some n) {p r:V} (h:b8m H n p=some r) (hr:Rep g H p (a.eval x)) (hu:p.und H.length=true):
 a0i P cx nb g H w r H ((execOp a.eval o).run P w):=by
 obtain⟨b,off,z,hx,h1,h2,h3⟩:=e1u (P:=P) hI hs h hr hu
 refine a0i.pure hI ?_ h2 h3
 simp only[execOp,hop,hx]
 exact a9m (by simp[Instr.loadAt,Instr.sureAddr,h1])
end
end Go.Vm
namespace Go.Vm
section
variable {P:Program} {cx:Cx} {nb:Nat} {g:Gh} {H:Hp} {w:World} {o:Oper} {a:Act}
theorem e5j {t:TypeId} {n:Nat} (h:sizeT P t=some n):∃ i,P.info? t=some i/\i.size=n:=by
 unfold sizeT at h
 obtain⟨i,hi,hn⟩:=Option.map_eq_some_iff.1 h
 exact⟨i,hi,hn⟩
theorem run_sizeOf {t:TypeId} {n:Nat} (h:sizeT P t=some n):(sizeOf t).run P w= .ok n w:=by
 obtain⟨i,hi,rfl⟩:=e5j h
 simp[sizeOf,typeInfo,hi]
theorem f3d (hI:Inv cx g H w) {s:TypeId} {x:Operand} {k:Nat} (hop:o.op= .fieldAddr s x k) {fs:Array Field} (hs:P.underlying s=some (.struct fs)) {f:Field} (hf:fs[k]? =some f)
 {n:Nat} (hn:sizeT P f.type=some n) (h0:n≠0) {v r:V}
 (h:(∃ id off,v= .ptr id off/\r= .ptr id (off+f.offset))\/(∃ l off,v= .ro l off/\r= .ro l (off+f.offset))) (hr:Rep g H v (a.eval x)) (hu:v.und H.length=true):
 a0i P cx nb g H w r H ((execOp a.eval o).run P w):=by
 have run:∀ b p,a.eval x= .pointer (some ⟨b,p,none⟩)->(execOp a.eval o).run P w= .ok (.value (.pointer (some ⟨b,p+f.offset,none⟩))) w:=by
  intro b p hx
  simp only[execOp,hop,hx]
  refine a9m ?_
  simp[Instr.fieldAt,run_underlying hs,hf,Instr.sureAddr,fieldPlace,run_sizeOf hn,h0,Addr.add_lit]
 rcases h with⟨id,off,rfl,rfl⟩|⟨l,off,rfl,rfl⟩
 ·simp only[Rep]at hr
  obtain⟨ho,b,c,hJ,hx⟩:=hr
  refine a0i.pure hI (run b off hx) ?_ hu
  simp only[Rep];exact⟨ho,b,c,hJ,rfl⟩
 ·simp only[Rep]at hr
  obtain⟨b,p,vs,hx,h1,h2⟩:=hr
  refine a0i.pure hI (run b (p+off) hx) ?_ rfl
  simp only[Rep];exact⟨b,p,vs,by rw[Nat.add_assoc],h1,h2⟩
theorem g5d {t:TypeId} {n:Option Nat} (hs:c0x P t=some n) {l:List V} {cs:Array Value} {off:Nat} (hr:a1p g H l cs.toList) (hu:a0z H.length l=true) {r:V}
 (h:a6u n l off=some r):
 ∃ z,(part t cs off).run P w= .ok z w/\Rep g H r z/\r.und H.length=true:=by
 rcases c6s hs with⟨rfl,ha,_⟩|⟨k,rfl,ha,i,hi,hk⟩
 ·simp only[a6u]at h
  obtain⟨y,hy,_,hr⟩:=b5r hr h
  have hy':cs[off]? =some y:=by simpa using hy
  exact⟨y,by simp[part,ha,hy'],hr,c0m hu h⟩
 ·simp only[a6u]at h
  split at h
  ·rename_i hlen
   simp only[Option.some.injEq]at h
   subst h
   refine⟨.agg ((cs.toList.drop off).take k).toArray,?_,c0w (b6y k (b7b off hr)),c1j (c0q k (c0p off hu))⟩
   have:cs.extract off (off+k)=((cs.toList.drop off).take k).toArray:=by
    apply Array.ext'
    simp[Array.toList_extract,List.extract_eq_take_drop]
   simp[part,ha,sizeOf,typeInfo,hi,hk,this]
  ·cases h
theorem g1a (hI:Inv cx g H w) {t:TypeId} {x:Operand} {k:Nat} (hop:o.op= .field t x k) {fs:Array Field} (hs:P.underlying t=some (.struct fs)) {f:Field} (hf:fs[k]? =some f)
 {n:Option Nat} (hn:c0x P f.type=some n) {l:List V} {v r:V} (hv:v= .agg l\/∃ ds,v= .d (.agg ds)/\l=ds.map V.d)
 (h:a6u n l f.offset=some r) (hr:Rep g H v (a.eval x)) (hu:v.und H.length=true):
 a0i P cx nb g H w r H ((execOp a.eval o).run P w):=by
 have hh:∃ cs:Array Value,a.eval x= .agg cs/\a1p g H l cs.toList/\a0z H.length l=true:=by
  rcases hv with rfl|⟨ds,rfl,rfl⟩
  ·simp only[Rep]at hr
   obtain⟨cs,h1,h2⟩:=hr
   exact⟨cs,h1,h2,by simpa only[V.und] using hu⟩
  ·simp only[Rep,a3d]at hr
   obtain⟨cs,h1,h2⟩:=hr
   exact⟨cs,h1,b0w h2,a9z _ _⟩
 obtain⟨cs,hx,hr',hu'⟩:=hh
 obtain⟨z,h1,h2,h3⟩:=g5d (P:=P) (w:=w) hn hr' hu' h
 refine a0i.pure hI ?_ h2 h3
 simp only[execOp,hop,hx]
 exact a9m (by simp[Instr.field,run_underlying hs,hf,asAgg,h1])
theorem c8m {v:V} {n:Nat} {x:Value} (h:a4k v=some n) (r:Rep g H v x):∃ k,x= .int k (n:Int):=by
 unfold a4k at h
 split at h
 ·rename_i k m
  split at h
  ·rename_i hm
   simp only[Option.some.injEq]at h
   refine⟨k,(b0d r).trans ?_⟩
   congr 1;omega
  ·cases h
 ·cases h
theorem h4t (hI:Inv cx g H w) {t:TypeId} {x i:Operand} (hop:o.op= .index t x i) (ht:P.underlying t=some .string) {vi:V} {n:Nat} (hi:a4k vi=some n) (ri:Rep g H vi (a.eval i)) {s:List UInt8} {b:UInt8} (hb:s[n]? =some b)
 (rx:Rep g H (.d (.str s)) (a.eval x)):a0i P cx nb g H w (.d (.int .u8 b.toNat)) H ((execOp a.eval o).run P w):=by
 obtain⟨k,hk⟩:=c8m hi ri
 refine a0i.pure hI ?_ (a8s _ _) rfl
 simp only[execOp,hop,c4a rx,hk]
 refine a9m ?_
 have hb':(⟨s.toArray⟩:ByteArray)[n]? =some b:=by
  obtain⟨hlt,he⟩:=List.getElem?_eq_some_iff.1 hb
  have hlt':n < (⟨s.toArray⟩:ByteArray).size:=by simpa [ByteArray.size] using hlt
  rw[ByteArray.getElem?_lt' _ _ hlt']
  congr 1
 simp[Instr.index,asIntOf,run_underlying ht,hb']
theorem c8s (hI:Inv cx g H w) {v:V} {l:List D} {x:Value} (h:lsize H v=some l) (r:Rep g H v x):a3d g.C (.sl l) x:=by
 unfold lsize at h
 split at h
 ·rename_i l' hl
  simp only[Option.some.injEq]at h
  subst h
  exact c6f hI hl r
 ·cases h
theorem c0r {l:List D} {x:Value} (r:a3d g.C (.sl l) x):∃ ad cap,x= .slice ad l.length cap/\l.length<=cap/\(l=[]\/∃ b off sz us,ad=some ⟨b,off,none⟩/\0 < sz/\us <+:(g.C b).drop off/\a2a g.C sz l us):=by
 simp only[a3d,a0p]at r
 obtain⟨ad,cap,h,r⟩:=r
 cases h
 exact⟨ad,cap,rfl,r⟩
theorem e6t (hI:Inv cx g H w) {t e:TypeId} {x i:Operand} (hop:o.op= .indexAddr t x i) (ht:P.underlying t=some (.slice e)) {sz:Nat} (hsz:sizeT P e=some sz) {vi:V} {n:Nat} (hi:a4k vi=some n) (ri:Rep g H vi (a.eval i))
 {v:V} {l:List D} {y:D} (hl:lsize H v=some l) (hy:l[n]? =some y) (hc:y.cells.length=sz) (rx:Rep g H v (a.eval x)):a0i P cx nb g H w (.ro y.cells 0) H ((execOp a.eval o).run P w):=by
 obtain⟨k,hk⟩:=c8m hi ri
 obtain⟨ad,cap,hx,_,hr⟩:=c0r (c8s hI hl rx)
 have hn:=(List.getElem?_eq_some_iff.1 hy).1
 rcases hr with rfl|⟨b,off,sz',us,rfl,h0,h1,h2⟩
 ·simp at hn
 ·have hg:=b6e h2 hy
  have hlen:=a8c hg
  have husl:=a3l h2
  have hsz':sz'=sz:=by
   rw[hc]at hlen
   have:(n+1) *sz'<=l.length*sz':=Nat.mul_le_mul_right _ om
   rw[Nat.add_mul,Nat.one_mul]at this
   simp only[List.length_take,List.length_drop]at hlen
   omega
  subst hsz'
  refine a0i.pure (x:= .pointer (some ⟨b,off+n*sz',none⟩)) hI ?_ ?_ rfl
  ·simp only[execOp,hop,hx,hk]
   refine a9m ?_
   simp[Instr.indexAt,asIntOf,run_underlying ht,run_sizeOf hsz,Addr.add_lit]
   omega
  ·simp only[Rep]
   refine⟨b,off+n*sz',(us.drop (n*sz')).take sz',by simp,?_,b8v hg⟩
   refine(List.take_prefix _ _).trans ?_
   rw[<-List.drop_drop]
   exact a7k h1 _
theorem d9b (hI:Inv cx g H w) {t e:TypeId} {x i:Operand} (hop:o.op= .indexAddr t x i) (ht:P.underlying t=some (.slice e)) {sz:Nat} (hsz:sizeT P e=some sz) {vi:V} {n:Nat} (hi:a4k vi=some n) (ri:Rep g H vi (a.eval i))
 {id off len:Nat} (hn:n < len) (rx:Rep g H (.arr id off len) (a.eval x)) (hu:(V.arr id off len).und H.length=true):a0i P cx nb g H w (.ptr id (off+n*sz)) H ((execOp a.eval o).run P w):=by
 obtain⟨k,hk⟩:=c8m hi ri
 simp only[Rep]at rx
 obtain⟨ho,b,c,cap,hJ,hx,_⟩:=rx
 refine a0i.pure (x:= .pointer (some ⟨b,off+n*sz,none⟩)) hI ?_ ?_ hu
 ·simp only[execOp,hop,hx,hk]
  refine a9m ?_
  simp[Instr.indexAt,asIntOf,run_underlying ht,run_sizeOf hsz,Addr.add_lit,hn]
 ·simp only[Rep];exact⟨ho,b,c,hJ,rfl⟩
theorem e3a (hI:Inv cx g H w) {t e:TypeId} {x i:Operand} (hop:o.op= .indexAddr t x i) {len:Nat} (ht:P.underlying t=some (.array len e)) {sz:Nat} (hsz:sizeT P e=some sz) {vi:V} {n:Nat} (hi:a4k vi=some n) (ri:Rep g H vi (a.eval i)) (hn:n < len)
 {v r:V} (h:(∃ id off,v= .ptr id off/\r= .ptr id (off+n*sz))\/(∃ l off,v= .ro l off/\r= .ro l (off+n*sz))) (hr:Rep g H v (a.eval x)) (hu:v.und H.length=true):
 a0i P cx nb g H w r H ((execOp a.eval o).run P w):=by
 obtain⟨k,hk⟩:=c8m hi ri
 have run:∀ b p,a.eval x= .pointer (some ⟨b,p,none⟩)->(execOp a.eval o).run P w= .ok (.value (.pointer (some ⟨b,p+n*sz,none⟩))) w:=by
  intro b p hx
  simp only[execOp,hop,hx,hk]
  refine a9m ?_
  simp[Instr.indexAt,asIntOf,run_underlying ht,run_sizeOf hsz,Addr.add_lit,Instr.sureAddr,hn]
 rcases h with⟨id,off,rfl,rfl⟩|⟨l,off,rfl,rfl⟩
 ·simp only[Rep]at hr
  obtain⟨ho,b,c,hJ,hx⟩:=hr
  refine a0i.pure hI (run b off hx) ?_ hu
  simp only[Rep];exact⟨ho,b,c,hJ,rfl⟩
 ·simp only[Rep]at hr
  obtain⟨b,p,vs,hx,h1,h2⟩:=hr
  refine a0i.pure hI (run b (p+off) hx) ?_ rfl
  simp only[Rep];exact⟨b,p,vs,by rw[Nat.add_assoc],h1,h2⟩
theorem e4v (hI:Inv cx g H w) {x:Operand} {t:TypeId} {ar:Array Operand} {at':Array TypeId} (hop:o.op= .call {callee:= .builtin .len,args:=ar,argTypes:=at' }) (har:ar.toList=[x]) (hat:at'.toList=[t])
 (ht:P.underlying t=some .string) {s:List UInt8} (hr:Rep g H (.d (.str s)) (a.eval x)):
 a0i P cx nb g H w (.d (.int .i64 s.length)) H ((execOp a.eval o).run P w):=by
 obtain rfl:ar= #[x]:=by apply Array.ext';simpa using har
 obtain rfl:at'= #[t]:=by apply Array.ext';simpa using hat
 refine a0i.pure hI ?_ (a8s _ _) rfl
 simp[execOp,hop,resolve,invoke,builtin,c4a hr,run_len_string,ht,ByteArray.size,goInt]
theorem f6m {v:V} {n:Nat} {x:Value} (h:d1h v=some n) (r:Rep g H v x):∃ ad cap,x= .slice ad n cap:=by
 cases v with
 |d d=>
  cases d with
  |sl l=>simp only[d1h,Option.some.injEq]at h;subst h;simp only[Rep]at r;obtain⟨ad,cap,hx,_⟩:=c0r r;exact⟨ad,cap,hx⟩
  |_=>simp[d1h]at h
 |nils=>simp only[d1h,Option.some.injEq]at h;subst h;simp only[Rep]at r;exact⟨_,_,r⟩
 |nile=>simp only[d1h,Option.some.injEq]at h;subst h;simp only[Rep]at r;obtain⟨a,r,_⟩:=r;exact⟨_,_,r⟩
 |row id len=>simp only[d1h,Option.some.injEq]at h;subst h;simp only[Rep]at r;obtain⟨ad,cap,_,_,hx,_⟩:=r;exact⟨ad,cap,hx⟩
 |arr id off len=>simp only[d1h,Option.some.injEq]at h;subst h;simp only[Rep]at r;obtain⟨_,b,c,cap,_,hx,_⟩:=r;exact⟨_,_,hx⟩
 |_=>simp[d1h]at h
theorem f0d (hI:Inv cx g H w) {x:Operand} {t e:TypeId} {ar:Array Operand} {at':Array TypeId} (hop:o.op= .call {callee:= .builtin .len,args:=ar,argTypes:=at' }) (har:ar.toList=[x]) (hat:at'.toList=[t])
 (ht:P.underlying t=some (.slice e)) {v:V} {n:Nat} (h:d1h v=some n) (hr:Rep g H v (a.eval x)):
 a0i P cx nb g H w (.d (.int .i64 n)) H ((execOp a.eval o).run P w):=by
 obtain rfl:ar= #[x]:=by apply Array.ext';simpa using har
 obtain rfl:at'= #[t]:=by apply Array.ext';simpa using hat
 obtain⟨ad,cap,hx⟩:=f6m h hr
 refine a0i.pure hI ?_ (a8s _ _) rfl
 simp[execOp,hop,resolve,invoke,builtin,hx,Builtin.len_,run_underlying ht,goInt]
theorem g9q (hI:Inv cx g H w) {x y:Operand} {mx:Bool} {ar:Array Operand} {at':Array TypeId} (hop:o.op= .call {callee:= .builtin (if mx then .max else .min),args:=ar,argTypes:=at' }) (har:ar.toList=[x,y])
 {k:IntKind} {p q:Int} (rx:Rep g H (.d (.int k p)) (a.eval x)) (ry:Rep g H (.d (.int k q)) (a.eval y)):
 a0i P cx nb g H w (.d (.int k (if mx then max p q else min p q))) H ((execOp a.eval o).run P w):=by
 obtain rfl:ar= #[x,y]:=by apply Array.ext';simpa using har
 refine a0i.pure hI ?_ (a8s _ _) rfl
 cases mx
 ·simp only[Bool.false_eq_true,if_false]at hop⊢
  have:min p q=if q < p then q else p:=om
  simp[execOp,hop,resolve,invoke,builtin,b0d rx,b0d ry,run_min_int2,this]
 ·simp only[if_true]at hop⊢
  have:max p q=if q> p then q else p:=om
  simp[execOp,hop,resolve,invoke,builtin,b0d rx,b0d ry,run_max_int2,this]
theorem a8o {y code} {k:IntKind} {n:Nat} (h:n<=y):(Instr.sliceBound (.int k (n:Int)) y code).run P w= .ok n w:=by
 simp[Instr.sliceBound,asIntOf,h]
theorem d3n (s:List UInt8) (l h:Nat):(⟨s.toArray⟩:ByteArray).extract l h=⟨((s.take h).drop l).toArray⟩:=by
 apply ByteArray.ext
 apply Array.ext'
 simp[ByteArray.data_extract,List.extract_eq_take_drop,List.drop_take]
theorem g3z (hI:Inv cx g H w) {t:TypeId} {x:Operand} {lo hi:Option Operand} (hop:o.op= .slice t x lo hi none) (ht:P.underlying t=some .string) {s:List UInt8} (rx:Rep g H (.d (.str s)) (a.eval x))
 {l h:Nat} (hl:(lo=none/\l=0)\/∃ y k,lo=some y/\a.eval y= .int k (l:Int)) (hh:(hi=none/\h=s.length)\/∃ y k,hi=some y/\a.eval y= .int k (h:Int)) (h1:l<=h) (h2:h<=s.length):
 a0i P cx nb g H w (.d (.str ((s.take h).drop l))) H ((execOp a.eval o).run P w):=by
 refine a0i.pure hI ?_ (d7x _) rfl
 simp only[execOp,hop,c4a rx]
 refine a9m ?_
 have hsz:(⟨s.toArray⟩:ByteArray).size=s.length:=by simp[ByteArray.size]
 rw[<-d3n]
 rcases hl with⟨rfl,rfl⟩|⟨yl,kl,rfl,el⟩<;>rcases hh with⟨rfl,rfl⟩|⟨yh,kh,rfl,eh⟩
 ·simp[Instr.sliceAt,run_underlying ht,Instr.slice,Instr.sliceBounds,<-hsz]
 ·simp[Instr.sliceAt,run_underlying ht,Instr.slice,Instr.sliceBounds,hsz,eh,a8o h2]
 ·simp[Instr.sliceAt,run_underlying ht,Instr.slice,Instr.sliceBounds,hsz,el,a8o h1]
 ·simp[Instr.sliceAt,run_underlying ht,Instr.slice,Instr.sliceBounds,hsz,el,eh,a8o h1,a8o h2]
theorem g9v (hI:Inv cx g H w) {t e:TypeId} {x:Operand} {lo hi:Option Operand} (hop:o.op= .slice t x lo hi none) (ht:P.underlying t=some (.slice e)) {sz:Nat} (hsz:sizeT P e=some sz) {v:V} {s:List D} (hs:lsize H v=some s) (rx:Rep g H v (a.eval x))
 {l h:Nat} (hl:(lo=none/\l=0)\/∃ y k,lo=some y/\a.eval y= .int k (l:Int)) (hh:(hi=none/\h=s.length)\/∃ y k,hi=some y/\a.eval y= .int k (h:Int)) (h1:l<=h) (h2:h<=s.length)
 (hall:l=0\/s.all (fun y=>y.cells.length==sz)=true):
 a0i P cx nb g H w (.d (.sl ((s.take h).drop l))) H ((execOp a.eval o).run P w):=by
 obtain⟨ad,cap,hx,hlc,hr⟩:=c0r (c8s hI hs rx)
 have hrun:(execOp a.eval o).run P w= .ok (.value (.slice (if cap=l then ad else ad.map (·.add (l*sz))) (h - l) (cap - l))) w:=by
  simp only[execOp,hop,hx]
  refine a9m ?_
  have h3:h<=cap:=om
  rcases hl with⟨rfl,rfl⟩|⟨yl,kl,rfl,el⟩<;>rcases hh with⟨rfl,rfl⟩|⟨yh,kh,rfl,eh⟩
  ·simp[Instr.sliceAt,run_underlying ht,Instr.slice,Instr.sliceBounds,run_sizeOf hsz]
  ·simp[Instr.sliceAt,run_underlying ht,Instr.slice,Instr.sliceBounds,run_sizeOf hsz,eh,a8o h3]
  ·simp[Instr.sliceAt,run_underlying ht,Instr.slice,Instr.sliceBounds,run_sizeOf hsz,el,a8o h1]
  ·simp[Instr.sliceAt,run_underlying ht,Instr.slice,Instr.sliceBounds,run_sizeOf hsz,el,eh,a8o h1,a8o h3]
 refine a0i.pure hI hrun ?_ rfl
 simp only[Rep,a3d,a0p]
 have hlen:((s.take h).drop l).length=h - l:=by simp;omega
 refine⟨_,_,by rw[hlen],by rw[hlen];omega,?_⟩
 by_cases he:h=l
 ·left;subst he;apply List.eq_nil_of_length_eq_zero;rw[hlen];omega
 ·right
  rcases hr with rfl|⟨b,off,sz',us,rfl,h0,hp,hel⟩
  ·simp at h2;omega
  ·have hcap:cap≠l:=om
   rw[if_neg hcap]
   have hel2:=c9w l (d0u h hel)
   have hus:=a3l hel
   by_cases hl0:l=0
   ·subst hl0
    refine⟨b,off,sz',us.take (h*sz'),?_,h0,(List.take_prefix _ _).trans hp,by simpa using hel2⟩
    simp[Addr.add_lit]
   ·have hszz:sz'=sz:=by
     have hall':=hall.resolve_left hl0
     have hs0:0 < s.length:=om
     have hg:=a8c (b6e hel (List.getElem?_eq_getElem hs0))
     have hc:(s[0]).cells.length=sz:=by
      have:=List.all_eq_true.1 hall' _ (List.getElem_mem hs0)
      simpa using this
     rw[hc]at hg
     have:1*sz'<=s.length*sz':=Nat.mul_le_mul_right _ om
     simp only[Nat.zero_mul,List.drop_zero,List.length_take]at hg
     omega
    subst hszz
    refine⟨b,off+l*sz',sz',(us.take (h*sz')).drop (l*sz'),by simp[Addr.add_lit],h0,?_,hel2⟩
    rw[<-List.drop_drop]
    exact a7k ((List.take_prefix _ _).trans hp) _
end
end Go.Vm
namespace Go.Vm
section
variable {P:Program} {cx:Cx} {nb:Nat} {g:Gh} {H:Hp} {w:World} {o:Oper} {a:Act}
theorem c1q {xs ys:Array Value} {C:Nat->List Value} (d:Nat):∀ (fs:List Field) (n:Nat) (ks:List Nat) (A B:List D),c3w P n fs=some ks->kindOk ks A B=true->
 a1n C A (xs.toList.drop n)->a1n C B (ys.toList.drop n)->(Op.eqFields (d+1) xs ys fs).run P w= .ok (eqL A B) w
 |[],n,ks,A,B,hk,hok,ra,rb=>by
  simp only[c3w,Option.some.injEq]at hk
  subst hk
  cases A<;>cases B<;>first|(simp[kindOk]at hok;done)|simp[Op.eqFields,eqL]
 |f::fs,n,ks,A,B,hk,hok,ra,rb=>by
  simp only[c3w]at hk
  split at hk
  ·rename_i hf
   obtain⟨hoff,hname⟩:=hf
   have next:∀ (ks':List Nat) (A' B':List D) (q:D) (q':D),A=q::A'->B=q'::B'->∃ p p',xs[n]? =some p/\ys[n]? =some p'/\a0p C q [p]/\a0p C q' [p']/\a1n C A' (xs.toList.drop (n+1))/\a1n C B' (ys.toList.drop (n+1)):=by
    rintro ks' A' B' q q' rfl rfl
    simp only[a1n]at ra rb
    obtain⟨p,pr,e1,_,h1,h2⟩:=ra
    obtain⟨p',pr',e2,_,h3,h4⟩:=rb
    have g1:xs.toList[n]? =some p:=by
     have:=congrArg (·[0]?) e1
     simpa using this
    have g2:ys.toList[n]? =some p':=by
     have:=congrArg (·[0]?) e2
     simpa using this
    have d1:xs.toList.drop (n+1)=pr:=by rw[<-List.drop_drop,e1];rfl
    have d2:ys.toList.drop (n+1)=pr':=by rw[<-List.drop_drop,e2];rfl
    refine⟨p,p',by simpa using g1,by simpa using g2,h1,h3,by rw[d1];exact h2,by rw[d2];exact h4⟩
   have hagg:∀ dsc,P.underlying f.type=some dsc->(dsc= .bool\/(∃ k,dsc= .int k)\/dsc= .string)->(isAgg f.type).run P w= .ok false w:=by
    intro dsc hu hd
    rcases hd with rfl|⟨k,rfl⟩|rfl<;>simp[isAgg,run_underlying hu]
   split at hk
   ·rename_i ks' hu hks'
    simp only[Option.some.injEq]at hk;subst hk
    match A,B,hok with
    | .bool p::A',.bool q::B',hok=>
     obtain⟨x,y,hx,hy,rx,ry,ra',rb'⟩:=next ks' A' B' _ _ rfl rfl
     simp only[a0p]at rx ry;cases rx;cases ry
     have ih:=c1q d fs (n+1) ks' A' B' hks' (by simpa [kindOk] using hok) ra' rb'
     subst hoff
     simp[Op.eqFields,hname,part,hagg _ hu (.inl rfl),hx,hy,run_equalIn_bool' w d _ p q hu,ih,eqL,eq1]
     cases p<;>cases q<;>simp
   ·rename_i k0 ks' hu hks'
    simp only[Option.some.injEq]at hk;subst hk
    match A,B,hok with
    | .int k p::A',.int k' q::B',hok=>
     obtain⟨x,y,hx,hy,rx,ry,ra',rb'⟩:=next ks' A' B' _ _ rfl rfl
     simp only[a0p]at rx ry;cases rx;cases ry
     simp only[kindOk,Bool.and_eq_true,beq_iff_eq]at hok
     obtain⟨rfl,hok⟩:=hok
     have ih:=c1q d fs (n+1) ks' A' B' hks' hok ra' rb'
     subst hoff
     simp[Op.eqFields,hname,part,hagg _ hu (.inr (.inl ⟨_,rfl⟩)),hx,hy,run_equalIn_int w d _ k _ p q hu,ih,eqL,eq1]
     by_cases hpq:p=q<;>simp[hpq]
   ·rename_i ks' hu hks'
    simp only[Option.some.injEq]at hk;subst hk
    match A,B,hok with
    | .str p::A',.str q::B',hok=>
     obtain⟨x,y,hx,hy,rx,ry,ra',rb'⟩:=next ks' A' B' _ _ rfl rfl
     simp only[a0p]at rx ry;cases rx;cases ry
     have ih:=c1q d fs (n+1) ks' A' B' hks' (by simpa [kindOk] using hok) ra' rb'
     subst hoff
     simp[Op.eqFields,hname,part,hagg _ hu (.inr (.inr rfl)),hx,hy,run_equalIn_string w d _ _ _ hu,ih,eqL,eq1]
     by_cases hpq:p=q<;>simp[hpq]
   ·cases hk
  ·cases hk
theorem h2s (hI:Inv cx g H w) {neg:Bool} {t u:TypeId} {x y:Operand} (hop:o.op= .binOp (if neg then .neq else .eql) t x y u) {ks:List Nat} (hks:d4l P t=some ks) {A B:List D} (hok:kindOk ks A B=true) (rx:Rep g H (.d (.agg A)) (a.eval x)) (ry:Rep g H (.d (.agg B)) (a.eval y)):
 a0i P cx nb g H w (.d (.bool (if neg then !eqL A B else eqL A B))) H ((execOp a.eval o).run P w):=by
 simp only[Rep,a3d]at rx ry
 obtain⟨xs,hx,ra⟩:=rx
 obtain⟨ys,hy,rb⟩:=ry
 unfold d4l at hks
 split at hks
 ·rename_i fs hu
  split at hks
  ·rename_i hp
   have hfo:P.fieldsOf t=fs:=by simp[Program.fieldsOf,hu]
   have heq:(Op.equal t (.agg xs) (.agg ys)).run P w= .ok (eqL A B) w:=by
    have:=run_equalIn_struct (P:=P) w 9999 t xs ys (by rw[hfo];exact hu) hp.1
    rw[hfo,c1q (w:=w) 9998 fs.toList 0 ks A B hks hok (by simpa using ra) (by simpa using rb)]at this
    exact this
   have hgd:∀ op,(eqGuard op t x y (.agg xs) (.agg ys)).run P w= .ok () w:=fun op=>run_eqGuard_agg w op t x y xs ys hp.2
   refine a0i.pure hI ?_ (b1p _) rfl
   simp only[execOp,hop,hx,hy]
   refine a9m ?_
   cases neg
   ·simp[hgd,binOp,heq]
   ·simp[hgd,binOp,heq]
  ·cases hks
 ·cases hks
theorem c6d:∀ (c:List V) (off:Nat) (vs:List V),off+vs.length<=c.length->putAt c off vs=c.take off++vs++c.drop (off+vs.length)
 |c,off,[],h=>by cases c<;>cases off<;>simp[putAt]
 |[],off,v::vs,h=>by simp at h
 |x::c,0,v::vs,h=>by
  simp only[putAt]
  rw[c6d c 0 vs (by simp at h⊢;omega)]
  simp
 |x::c,n+1,v::vs,h=>by
  simp only[putAt]
  rw[c6d c n (v::vs) (by simp at h⊢;omega)]
  have e:n+1+(v::vs).length=(n+(v::vs).length)+1:=om
  rw[e]
  simp only[List.take_succ_cons,List.drop_succ_cons,List.cons_append]
theorem b5q:∀ {l l':List V} {vs vs':List Value},a1p g H l vs->a1p g H l' vs'->a1p g H (l++l') (vs++vs')
 |[],l',vs,vs',r,r'=>by simp only[a1p]at r;subst r;exact r'
 |v::l,l',vs,vs',r,r'=>by
  simp only[a1p]at r
  obtain⟨y,ys,rfl,h0,h1,h2⟩:=r
  simp only[List.cons_append,a1p]
  exact⟨y,ys++vs',rfl,h0,h1,b5q h2 r'⟩
theorem d4x {c vs:List V} {cs xs:List Value} {off:Nat} (hc:a1p g H c cs) (hv:a1p g H vs xs) (h:off+vs.length<=c.length):
 a1p g H (putAt c off vs) (cs.take off++xs++cs.drop (off+xs.length)):=by
 rw[c6d c off vs h,<-a3k hv]
 exact b5q (b5q (b6y off hc) hv) (b7b _ hc)
theorem c0z {n:Nat} {c vs:List V} {off:Nat} (h:off+vs.length<=c.length) (hc:a0z n c=true) (hv:a0z n vs=true):a0z n (putAt c off vs)=true:=by
 rw[c6d c off vs h]
 exact a5q (a5q (c0q _ hc) hv) (c0p _ hc)
theorem Keep.set {n:Nat} {id:Nat} {o':Ob} (ho:∃ q,H[id]? =some q/\∀ sz l,q≠ .row sz l) (hr:∀ sz l,o'≠ .row sz l):Keep n g H g (H.set id o'):=by
 obtain⟨q,hq,hqr⟩:=ho
 have hid:=(List.getElem?_eq_some_iff.1 hq).1
 refine⟨fun _=>List.prefix_refl _,fun i x _ hx hxr=>⟨rfl,?_⟩,fun i sz l _ hx=>⟨l,?_,List.prefix_refl _,fun _=>rfl⟩⟩
 ·by_cases hi:id=i
  ·subst hi;exact⟨o',by simp[hid],hr⟩
  ·exact⟨x,by rw[List.getElem?_set_ne hi];exact hx,hxr⟩
 ·by_cases hi:id=i
  ·subst hi;rw[hq]at hx;cases hx;exact absurd rfl (hqr _ _)
  ·rw[List.getElem?_set_ne hi];exact hx
theorem Inv.g1n (hI:Inv cx g H w) {id b cap:Nat} (hJ:g.J id=some (b,cap)) {c c':List V} (ho:H[id]? =some (.box c)) {w':World} (hos:w'.os=w.os) (ht:w'.tape=w.tape) (hp:w'.output=w.output)
 (hsz:w'.heap.size=w.heap.size) (hheap:∀ k,k≠b->w'.heap[k]? =w.heap[k]?) (hob:e2r g (H.set id (.box c')) w' b cap (.box c')) (hu:a0z H.length c'=true)
 (hcl:∀ n,n<=nb->id < n->a0z n c=true->a0z n c'=true):
 Inv cx g (H.set id (.box c')) w'/\Ext nb g H w g (H.set id (.box c')) w':=by
 have hid:=(List.getElem?_eq_some_iff.1 ho).1
 have hkeep:Keep H.length g H g (H.set id (.box c')):=Keep.set ⟨_,ho,by simp⟩ (by simp)
 have hCb:g.C b=[]:=by obtain⟨_,_,_,_,h⟩:=hI.ob id b cap _ hJ ho;exact h
 refine⟨⟨hI.inj,fun i b' c'' h=>?_,fun i b' c'' q h hq=>?_,fun b' hb'=>?_,fun i q hi hq=>?_,hI.glob,hI.fix.mono fun b' _ hn=>⟨hheap b' fun e=>hn id cap (e ▸ hJ),hn⟩⟩,⟨hos,ht,hp,om,fun b' hb' hj=>⟨hheap b' fun e=>hj id cap (e ▸ hJ),rfl⟩,hkeep,fun i b' c'' h _=>⟨i,c'',h⟩,fun n hn hc i q hi hq=>?_,by simp⟩⟩
 ·have:=hI.dom i b' c'' h;simp;omega
 ·by_cases hi:id=i
  ·subst hi
   rw[hJ]at h;cases h
   simp only[List.getElem?_set_self hid,Option.some.injEq]at hq
   subst hq;exact hob
  ·rw[List.getElem?_set_ne hi]at hq
   have hne:b'≠b:=fun e=>hi (hI.inj _ _ _ _ _ hJ (e ▸ h))
   exact(hI.ob i b' c'' q h hq).ext hkeep.w (hheap b' hne) rfl (c6t hI hq)
 ·have hne:b'≠b:=fun e=>hb' (e ▸ hCb)
  rw[hheap b' hne];exact hI.imm b' hb'
 ·simp only[List.length_set]at hi⊢
  by_cases hii:id=i
  ·subst hii;simp only[List.getElem?_set_self hid,Option.some.injEq,Ob.box.injEq]at hq;subst hq;exact hu
  ·rw[List.getElem?_set_ne hii]at hq;exact hI.und i q hi hq
 ·by_cases hii:id=i
  ·subst hii
   simp only[List.getElem?_set_self hid,Option.some.injEq,Ob.box.injEq]at hq;subst hq
   exact hcl n hn hi (hc id c hi ho)
  ·rw[List.getElem?_set_ne hii]at hq;exact hc i q hi hq
theorem d9e {c:List V} {off m:Nat}:∀ {xs:List V},b2b c off xs=true->a0z m c=true->a0z m xs=true
 |[],h,_=>by cases h
 |_::_::_,h,_=>by
  unfold b2b at h
  split at h
  ·rename_i hh;cases hh
  ·cases h
 |[v],h,hc=>by
  unfold b2b at h
  split at h
  ·rename_i i n hv
   cases hv
   split at h
   ·rename_i j k hj
    have:=c0m hc hj
    have e:i=j:=Nat.eq_of_beq_eq_true h
    subst e
    simp only[V.und]at this
    simp only[a0z,V.und,this,Bool.and_self]
   ·cases h
  ·cases h
theorem i4d (hI:Inv cx g H w) {t:TypeId} {x y:Operand} (hop:o.op= .store t x y) {n:Nat} (hn:sizeT P t=some n) {p v:V} {H':Hp} (h:c4w nb H n p v=some H') (rp:Rep g H p (a.eval x)) (rv:Rep g H v (a.eval y)) (uv:v.und H.length=true):
 a0i P cx nb g H w .undef H' ((execOp a.eval o).run P w):=by
 unfold c4w at h
 split at h
 ·rename_i id off
  split at h
  ·rename_i c hc
   split at h
   ·rename_i hcond
    obtain⟨h1,h2,h3,h4⟩:=hcond
    simp only[Option.some.injEq]at h
    subst h
    simp only[Rep]at rp
    obtain⟨_,b,cap,hJ,hx⟩:=rp
    obtain⟨cur,e,hb,hcur,hC⟩:=hI.ob id b cap _ hJ hc
    have hxs:=c6z h3 rv
    have hxl:=a3k hxs
    have hcl:=a3k hcur
    have hlen:off+v.cells.length<=c.length:=om
    have hrun:(execOp a.eval o).run P w= .ok .skip (w.setRow b (cur.toList.take off++(a.eval y).cells.toList++cur.toList.drop (off+(a.eval y).cells.toList.length)).toArray):=by
     simp only[execOp,hop,hx]
     refine f5j ?_
     have hst:=run_storeCells_at P b off e (a.eval y).cells.toList 0 cur w hb (by simp at hxl hcl⊢;omega) (d1a hxs)
     simp only[Nat.add_zero]at hst
     have hsz:(a.eval y).cells.size=n:=by simp at hxl;omega
     simp only[Array.length_toList]at hst
     simp[Instr.storeAt,Instr.sureAddr,storeVar,run_sizeOf hn,hsz]
     simpa [hsz] using hst
    rw[hrun]
    have hu':=c2s uv h3
    obtain⟨i1,i2⟩:=hI.g1n (nb:=nb) hJ hc (c':=putAt c off v.cells) (w':=w.setRow b (cur.toList.take off++(a.eval y).cells.toList++cur.toList.drop (off+(a.eval y).cells.toList.length)).toArray) rfl rfl rfl (setRow_size w b _) (fun k hk=>setRow_other w b k _ hk)
      ⟨_,e,setRow_heap w b cur _ e (0,0) hb,a7n (Keep.set (n:=H.length) ⟨_,hc,by simp⟩ (by simp)).w _ _ (c0z hlen (hI.und id c (List.getElem?_eq_some_iff.1 hc).1 hc) hu') (d4x hcur hxs hlen),hC⟩
      (c0z hlen (hI.und id c (List.getElem?_eq_some_iff.1 hc).1 hc) hu')
      (fun m hm hidm hcm=>c0z hlen hcm (by
        rcases Bool.or_eq_true_iff.1 h4 with h4|h4
        ·rcases Bool.or_eq_true_iff.1 h4 with h4|h4
         ·exact a3q om _ h4
         ·simp at h4;omega
        ·exact d9e h4 hcm))
    exact .skip g _ i1 rfl i2
   ·cases h
  ·cases h
 ·cases h
end
end Go.Vm
namespace Go.Vm
section
variable {P:Program} {cx:Cx} {nb:Nat} {g:Gh} {H:Hp} {w:World} {o:Oper} {a:Act}
theorem foldl_set (off:Nat):∀ (vs:List Value) (k:Nat) (cs:Array Value),off+k+vs.length<=cs.size->
 ((vs.zipIdx k).foldl (fun(cs:Array Value) (q:Value×Nat)=>cs.setIfInBounds (off+q.2) q.1) cs).toList=cs.toList.take (off+k)++vs++cs.toList.drop (off+k+vs.length)
 |[],k,cs,h=>by simp
 |v::vs,k,cs,h=>by
  simp only[List.zipIdx_cons,List.foldl_cons]
  simp only[List.length_cons]at h
  rw[foldl_set off vs (k+1) _ (by simp;omega)]
  simp only[Array.toList_setIfInBounds,List.length_cons]
  have h1:off+k < cs.toList.length:=by simp;omega
  rw[<-Nat.add_assoc,List.take_set,List.drop_set_of_lt om]
  have e:(cs.toList.take (off+k+1)).set (off+k) v=cs.toList.take (off+k)++[v]:=by
   have hm:(cs.toList.take (off+k)).length=off+k:=by simp at h1⊢;omega
   rw[List.take_succ_eq_append_getElem h1,List.set_append_right _ _ om,hm,Nat.sub_self]
   rfl
  rw[e]
  simp[Nat.add_assoc,Nat.add_comm 1]
theorem d5t {place:Nat->Option (Nat×Nat)} {cells:Array Value} {i:Nat} {v:Value} {rest:List (Nat×Value)} {off size:Nat} (hp:place i=some (off,size)) (hs:v.cells.size=size) (hl:off+size<=cells.size):
 Instr.fill place cells ((i,v)::rest)=Instr.fill place (cells.toList.take off++v.cells.toList++cells.toList.drop (off+size)).toArray rest:=by
 have e:(v.cells.zipIdx.foldl (fun(cs:Array Value) (x:Value×Nat)=>match x with|(c,j)=>cs.setIfInBounds (off+j) c) cells)=(cells.toList.take off++v.cells.toList++cells.toList.drop (off+size)).toArray:=by
   apply Array.ext'
   have:=foldl_set off v.cells.toList 0 cells (by simp;omega)
   rw[<-Array.foldl_toList,Array.toList_zipIdx]
   simp only[Nat.add_zero,Array.length_toList,hs]at this
   exact this
 simp only[Instr.fill,hp]
 rw[if_neg (by simp[hs];omega)]
 exact congrArg (fun c=>Instr.fill place c rest) e
theorem e3l {place:Nat->Option (Nat×Nat)}:∀ {ps:List (Nat×Nat×V)} {qs:List (Nat×Value)} {z c:List V} {cells:Array Value},c2m z ps=some c->a1p g H z cells.toList->a0z H.length z=true->
 (List.length ps=qs.length)->(∀ (i:Nat) (p:Nat×Nat×V) (q:Nat×Value),ps[i]? =some p->qs[i]? =some q->place q.1=some (p.1,p.2.1)/\p.2.2.cells.all V.one=true/\Rep g H p.2.2 q.2/\p.2.2.und H.length=true)->
 ∃ cells',Instr.fill place cells qs=some cells'/\a1p g H c cells'.toList/\a0z H.length c=true
 |[],qs,z,c,cells,h,rz,uz,hlen,_=>by
  simp only[c2m,Option.some.injEq]at h
  subst h
  obtain rfl:qs=[]:=List.eq_nil_of_length_eq_zero hlen.symm
  exact⟨cells,rfl,rz,uz⟩
 |(off,n,v)::ps,qs,z,c,cells,h,rz,uz,hlen,hall=>by
  match qs,hlen with
  |(i,x)::qs,hlen=>
   simp only[c2m]at h
   split at h
   ·rename_i hc
    obtain⟨h1,h2⟩:=hc
    obtain⟨p1,p2,p3,p4⟩:=hall 0 _ _ rfl rfl
    dsimp only at p1 p2 p3 p4
    have hxs:=c6z p2 p3
    have hxl:=a3k hxs
    have hzl:=a3k rz
    have hs:x.cells.size=n:=by simp at hxl;omega
    rw[d5t p1 hs (by simp at hzl;omega)]
    refine e3l h ?_ (c0z om uz (c2s p4 p2)) (by simpa using hlen) (fun k p q hp hq=>hall (k+1) p q (by simpa using hp) (by simpa using hq))
    have:=d4x (off:=off) rz hxs om
    simpa [hs] using this
   ·cases h
theorem d4k {fs:Array Field}:∀ {ps:List (Nat×Operand)} {vs:List (Nat×Nat×Opd)},d0v fs P ps=some vs->ps.length=vs.length/\∀ (i:Nat) (p:Nat×Operand) (v:Nat×Nat×Opd),ps[i]? =some p->vs[i]? =some v->∃ f:Field,fs[p.1]? =some f/\sizeT P f.type=some v.2.1/\v.1=f.offset/\a9q p.2=some v.2.2
 |[],vs,h=>by simp only[d0v,Option.some.injEq]at h;subst h;exact⟨rfl,by simp⟩
 |(i,x)::ps,vs,h=>by
  simp only[d0v]at h
  split at h
  ·rename_i f v vs' hf hv hvs
   obtain⟨n,hn,rfl⟩:=Option.map_eq_some_iff.1 h
   obtain⟨h1,h2⟩:=d4k hvs
   refine⟨by simp[h1],fun k p q hp hq=>?_⟩
   cases k with
   |zero=>simp at hp hq;subst hp;subst hq;exact⟨f,hf,hn,rfl,hv⟩
   |succ k=>exact h2 k p q (by simpa using hp) (by simpa using hq)
  ·cases h
theorem d7f:∀ (fs:List Field),fs.all (fun f=>(P.info? f.type).isSome)=true->∃ pl,fs.mapM (fun f=>(P.info? f.type).map fun i=>(f.offset,i.size))=some pl/\∀ (i:Nat) (f:Field) (n:Nat),fs[i]? =some f->sizeT P f.type=some n->pl[i]? =some (f.offset,n)
  |[],_=>⟨[],by simp,by simp⟩
  |f::fs,h=>by
   simp only[List.all_cons,Bool.and_eq_true]at h
   obtain⟨i,hi⟩:=Option.isSome_iff_exists.1 h.1
   obtain⟨pl,h1,h2⟩:=d7f fs h.2
   refine⟨(f.offset,i.size)::pl,by simp[List.mapM_cons,hi,h1],fun k f' n hk hn=>?_⟩
   cases k with
   |zero=>simp only[List.getElem?_cons_zero,Option.some.injEq]at hk⊢;subst hk;simp[sizeT,hi]at hn;simp[hn]
   |succ k=>exact h2 k f' n (by simpa using hk) hn
theorem f8i (hI:Inv cx g H w) {N:Nat} {e:Env} (hE:a9t g H N e a.tmps) {t:TypeId} {ps:Array (Nat×Operand)} (hop:o.op= .build t ps) {fs:Array Field} (hu:P.underlying t=some (.struct fs)) {z:List V} (hz:zeroCells P t=some z)
 (hall:fs.toList.all (fun f=>(P.info? f.type).isSome)=true) {vs:List (Nat×Nat×Opd)} (hvs:d0v fs P ps.toList=some vs) (hlt:vs.all (fun p=>p.2.2.lt N)=true) {c:List V}
 (hone:vs.all (fun p=>(evO cx e p.2.2).cells.all V.one)=true)
 (h:c2m z (vs.map fun p=>(p.1,p.2.1,evO cx e p.2.2))=some c):a0i P cx nb g H w (b1g c) H ((execOp a.eval o).run P w):=by
 obtain⟨it,zv,hi,hzv,hc⟩:=b2s hz
 obtain⟨hzr,hzu⟩:=a4j (g:=g) (H:=H) hc
 obtain⟨hlen,hparts⟩:=d4k hvs
 obtain⟨pl,hpl,hplg⟩:=d7f fs.toList hall
 obtain⟨cells,h1,h2,h3⟩:=e3l (place:=(pl.toArray[·]?)) (qs:=ps.toList.map fun p=>(p.1,a.eval p.2)) h hzr (a3q (Nat.zero_le _) _ hzu) (by simp at hlen⊢;omega) (by
   intro i p q hp hq
   simp only[List.getElem?_map,Option.map_eq_some_iff]at hp hq
   obtain⟨v,hv,rfl⟩:=hp
   obtain⟨u,hu',rfl⟩:=hq
   obtain⟨f,f1,f2,f3,f4⟩:=hparts i u v hu' hv
   have hmem:=List.mem_of_getElem? hv
   obtain⟨r1,r2⟩:=a0x (a:=a) hI hE f4 (List.all_eq_true.1 hlt v hmem)
   refine⟨?_,List.all_eq_true.1 hone v hmem,r1,r2⟩
   have:=hplg u.1 f v.2.1 (by simpa using f1) f2
   simpa [f3] using this)
 refine a0i.pure (x:= .agg cells) hI ?_ ?_ (c1j h3)
 ·have hb:P.built t ((ps.map fun(q:Nat×Operand)=>(q.1,a.eval q.2)).toList)=some cells:=by
    simp only[Program.built,hi,hu,hzv,hpl]
    simpa using h1
  simp only[execOp,hop]
  exact a9m (run_build w t _ cells hb)
 ·have:=c0w h2
  simpa using this
end
end Go.Vm
namespace Go.Vm
section
variable {P:Program} {cx:Cx} {nb:Nat} {g:Gh} {H:Hp} {w:World} {o:Oper} {a:Act}
theorem e1j (sz:Nat) {C:Nat->List Value}:∀ (ds:List D) (xs:List Value) (k:Nat) (cells:Array Value) (pre:List Value),ds.length=xs.length->(∀ (i:Nat) (d:D) (x:Value),ds[i]? =some d->xs[i]? =some x->a0p C d x.cells.toList/\d.cells.length=sz)->
 cells.toList.take (k*sz)=pre->cells.size=(k+xs.length) *sz->
 ∃ cells' us,Instr.fill (fun i=>some (i*sz,sz)) cells ((xs.zipIdx k).map fun p=>(p.2,p.1))=some cells'/\cells'.toList=pre++us/\a2a C sz ds us
 |[],[],k,cells,pre,_,_,hp,hs=>by
  refine⟨cells,[],rfl,?_,by simp[a2a]⟩
  simp only[List.length_nil,Nat.add_zero]at hs
  rw[<-hp,List.append_nil,List.take_of_length_le (by simp[hs])]
 |d::ds,x::xs,k,cells,pre,hl,hall,hp,hs=>by
  obtain⟨r,hd⟩:=hall 0 d x rfl rfl
  have hxl:=a8c r
  have hxs:x.cells.size=sz:=by simp at hxl;omega
  simp only[List.length_cons]at hs hl
  have e1:(k+(xs.length+1)) *sz=k*sz+sz+xs.length*sz:=by rw[Nat.add_mul,Nat.add_mul,Nat.one_mul];omega
  have e2:(k+1) *sz=k*sz+sz:=by rw[Nat.add_mul,Nat.one_mul]
  have hsz:cells.size=k*sz+sz+xs.length*sz:=om
  have hpl:pre.length=k*sz:=by rw[<-hp];simp;omega
  simp only[List.zipIdx_cons,List.map_cons]
  rw[d5t (off:=k*sz) (size:=sz) rfl hxs om]
  obtain⟨cells',us,h1,h2,h3⟩:=e1j sz ds xs (k+1) (cells.toList.take (k*sz)++x.cells.toList++cells.toList.drop (k*sz+sz)).toArray (pre++x.cells.toList) om
    (fun i d' x' h h'=>hall (i+1) d' x' (by simpa using h) (by simpa using h')) (by
      simp only[hp]
      rw[e2,List.take_append_of_le_length (by simp[hpl,hxs])]
      exact List.take_of_length_le (by simp[hpl,hxs])) (by
      have e3:(k+1+xs.length) *sz=k*sz+sz+xs.length*sz:=by rw[Nat.add_mul,Nat.add_mul,Nat.one_mul]
      simp[hp,hpl,hxs];omega)
  refine⟨cells',x.cells.toList++us,h1,by rw[h2,List.append_assoc],?_⟩
  simp only[a2a]
  exact⟨_,_,rfl,by simpa using hxs,r,h3⟩
theorem c9a:∀ (ps:List (Nat×Operand)) (k:Nat),b1z k ps=true->ps=((ps.map (·.2)).zipIdx k).map fun p=>(p.2,p.1)
  |[],_,_=>rfl
  |(i,x)::ps,k,h=>by
   simp only[b1z,Bool.and_eq_true,beq_iff_eq]at h
   obtain⟨rfl,h⟩:=h
   simp only[List.map_cons,List.zipIdx_cons]
   rw[<-c9a ps (i+1) h]
theorem e2j {N:Nat} {e:Env} (hI:Inv cx g H w) (hE:a9t g H N e a.tmps):∀ {xs:List Operand} {vs:List Opd} {ds:List D},b3n xs=some vs->vs.all (Opd.lt N)=true->a0s.toDs' cx e H vs=some ds->
 ds.length=xs.length/\∀ (i:Nat) (d:D) (x:Operand),ds[i]? =some d->xs[i]? =some x->a3d g.C d (a.eval x)
 |[],vs,ds,h,_,hd=>by
  simp only[b3n,Option.some.injEq]at h;subst h
  simp only[a0s.toDs',Option.some.injEq]at hd;subst hd
  exact⟨rfl,by simp⟩
 |x::xs,vs,ds,h,hl,hd=>by
  simp only[b3n]at h
  split at h
  ·rename_i v vs' hv hvs
   simp only[Option.some.injEq]at h
   subst h
   simp only[List.all_cons,Bool.and_eq_true]at hl
   simp only[a0s.toDs']at hd
   split at hd
   ·rename_i y ys hy hys
    simp only[Option.some.injEq]at hd
    subst hd
    obtain⟨h1,h2⟩:=e2j hI hE hvs hl.2 hys
    refine⟨by simp[h1],fun i d q hi hq=>?_⟩
    cases i with
    |zero=>simp at hi hq;subst hi;subst hq;exact c8d hI hy (a0x hI hE hv hl.1).1
    |succ i=>exact h2 i d q (by simpa using hi) (by simpa using hq)
   ·cases hd
  ·cases h
theorem b7d (hI:Inv cx g H w) {N:Nat} {e:Env} (hE:a9t g H N e a.tmps) {t el:TypeId} {len:Nat} {ps:Array (Nat×Operand)} (hop:o.op= .buildSlice t len ps) (hu:P.underlying t=some (.slice el)) {sz:Nat} (hsz:sizeT P el=some sz)
 {vs:List Opd} (hvs:b3n (ps.toList.map (·.2))=some vs) (hord:b1z 0 ps.toList=true) (hz:(zeroCells P el).isSome=true) (hlt:vs.all (Opd.lt N)=true)
 {ds:List D} (hds:a0s.toDs' cx e H vs=some ds) (hl:ds.length=len) (hall:ds.all (fun x=>x.cells.length==sz)=true) (_h0:0 < sz) (hmax:len*sz<=16777216):
 ∃ (cells:Array Value) (us:List Value),(execOp a.eval o).run P w= .ok (.value (.slice (some ⟨w.heap.size,0,none⟩) len len)) (w.alloc (.cells cells el))/\cells.toList=us/\a2a g.C sz ds us:=by
 obtain⟨z,hz⟩:=Option.isSome_iff_exists.1 hz
 obtain⟨it,zv,hi,hzv,_⟩:=b2s hz
 obtain⟨h1,h2⟩:=e2j hI hE hvs hlt hds
 have hpl:ps.size=len:=by rw[<-hl,h1];simp
 obtain⟨cells,us,hf,hc,hel⟩:=e1j sz (C:=g.C) ds (ps.toList.map fun p=>a.eval p.2) 0 ((Array.range (len*sz)).map (fun i=>(if len*sz=0 then #[] else zv.cells)[i % (if len*sz=0 then #[] else zv.cells).size]!)) [] (by simp;omega)
   (by
     intro i d x hd hx
     simp only[List.getElem?_map,Option.map_eq_some_iff]at hx
     obtain⟨p,hp,rfl⟩:=hx
     refine⟨e5o (h2 i d p.2 hd (by simp[hp])),?_⟩
     have:=List.all_eq_true.1 hall d (List.mem_of_getElem? hd)
     simpa using this) (by simp) (by simp[hpl])
 have hparts:(ps.map fun(q:Nat×Operand)=>(q.1,a.eval q.2)).toList=((ps.toList.map fun p=>a.eval p.2).zipIdx 0).map fun p=>(p.2,p.1):=by
   have:=c9a ps.toList 0 hord
   rw[Array.toList_map]
   conv=>lhs;rw[this]
   simp[List.zipIdx_map,List.map_map,Function.comp_def]
 have hrun:(execOp a.eval o).run P w= .ok (.value (.slice (some ⟨w.heap.size,0,none⟩) len len)) (w.alloc (.cells cells el)):=by
  simp only[execOp,hop]
  refine a9m ?_
  have hbig:¬ (len*sz> 2 ^ 24):=om
  simp only[Instr.buildSlice,Sem.run_bind,run_underlying hu,Result.andThen_ok,run_sizeOf hsz]
  rw[if_neg hbig]
  by_cases hz0:len*sz=0
  ·simp only[if_pos hz0]at hf⊢
   simp only[Sem.run_bind,Sem.run_pure,Result.andThen_ok]
   rw[hparts,hf]
   simp[newRow]
  ·simp only[if_neg hz0]at hf⊢
   have hzr:(zeroValue el).run P w= .ok zv w:=by simp[zeroValue,typeInfo,hi,hzv]
   simp only[Sem.run_bind,Sem.run_pure,hzr,Result.andThen_ok]
   rw[hparts,hf]
   simp[newRow]
 exact⟨cells,us,hrun,by simpa using hc,hel⟩
theorem e9j (hI:Inv cx g H w) {N:Nat} {e:Env} (hE:a9t g H N e a.tmps) {t el:TypeId} {len:Nat} {ps:Array (Nat×Operand)} (hop:o.op= .buildSlice t len ps) (hu:P.underlying t=some (.slice el)) {sz:Nat} (hsz:sizeT P el=some sz)
 {vs:List Opd} (hvs:b3n (ps.toList.map (·.2))=some vs) (hord:b1z 0 ps.toList=true) (hz:(zeroCells P el).isSome=true) (hlt:vs.all (Opd.lt N)=true)
 {ds:List D} (hds:a0s.toDs' cx e H vs=some ds) (hl:ds.length=len) (hall:ds.all (fun x=>x.cells.length==sz)=true) (h0:0 < sz) (hmax:len*sz<=16777216):
 a0i P cx nb g H w (.d (.sl ds)) H ((execOp a.eval o).run P w):=by
 obtain⟨cells,us,hrun,hc,hel⟩:=b7d hI hE hop hu hsz hvs hord hz hlt hds hl hall h0 hmax
 obtain⟨g',i1,i2,i3⟩:=hI.lit (nb:=nb) (cs:=cells) (T:=el)
 rw[hrun]
 refine .val g' _ _ i1 ?_ rfl i2
 simp only[Rep,a3d,a0p]
 refine⟨_,_,by rw[hl],om,.inr ⟨w.heap.size,0,sz,us,rfl,h0,?_,a4w i2.keep.C _ _ _ hel⟩⟩
 rw[i3,hc];simp
theorem g5a (hI:Inv cx g H w) (hnb:nb<=H.length) {N:Nat} {e:Env} (hE:a9t g H N e a.tmps) {t el:TypeId} {ps:Array (Nat×Operand)} (hop:o.op= .buildSlice t 0 ps) (hu:P.underlying t=some (.slice el)) {sz:Nat} (hsz:sizeT P el=some sz)
 {vs:List Opd} (hvs:b3n (ps.toList.map (·.2))=some vs) (hord:b1z 0 ps.toList=true) (hv0:vs=[]) (hz:(zeroCells P el).isSome=true) (h0:0 < sz):
 a0i P cx nb g H w .nile H ((execOp a.eval o).run P w):=by
 subst hv0
 obtain⟨cells,us,hrun,hc,hel⟩:=b7d hI hE hop hu hsz hvs hord hz rfl (ds:=[]) rfl rfl rfl h0 (by simp)
 obtain⟨g',i1,i2,i3⟩:=hI.lit (nb:=nb) (cs:=cells) (T:=el)
 rw[hrun]
 refine .val g' _ _ i1 ?_ rfl i2
 simp only[Rep]
 exact⟨_,rfl,fun q hq=>by cases hq;rfl⟩
theorem c7m {C:Nat->List Value}:∀ {ds:List D} {us:List Value},ds.all D.one=true->a2a C 1 ds us->a1n C ds us
 |[],us,_,h=>by simpa [a2a,a1n] using h
 |d::ds,us,ho,h=>by
  simp only[List.all_cons,Bool.and_eq_true]at ho
  simp only[a2a]at h
  obtain⟨v1,v2,rfl,h1,h2,h3⟩:=h
  obtain⟨y,rfl⟩:=List.length_eq_one_iff.1 h1
  simp only[a1n]
  exact⟨y,v2,rfl,ho.1,h2,c7m ho.2 h3⟩
theorem h1l (hI:Inv cx g H w) (hnb:nb<=H.length) {N:Nat} {e:Env} (hE:a9t g H N e a.tmps) {t el:TypeId} {len:Nat} {ps:Array (Nat×Operand)} (hop:o.op= .buildSlice t len ps) (hu:P.underlying t=some (.slice el)) (hsz:sizeT P el=some 1)
 {vs:List Opd} (hvs:b3n (ps.toList.map (·.2))=some vs) (hord:b1z 0 ps.toList=true) (hz:(zeroCells P el).isSome=true) (hlt:vs.all (Opd.lt N)=true)
 {ds:List D} (hds:a0s.toDs' cx e H vs=some ds) (hl:ds.length=len) (hall:ds.all D.one=true) (hmax:len<=16777216):
 a0i P cx nb g H w (.arr H.length 0 len) (H++[.frz ds]) ((execOp a.eval o).run P w):=by
 have hall1:ds.all (fun x=>x.cells.length==1)=true:=by
   rw[List.all_eq_true]at hall⊢
   intro x hx
   have:=hall x hx
   cases x<;>first|rfl|(simp[D.one]at this)
 obtain⟨cells,us,hrun,hc,hel⟩:=b7d hI hE hop hu hsz hvs hord hz hlt hds hl hall1 om om
 obtain⟨g',h1,h2,h3,h4⟩:=hI.alloc (nb:=nb) hnb (w1:=w) rfl rfl rfl rfl (cs:=cells) (T:=el) (o:= .frz ds) (cap:=len) (vs:=us) (by rw[hc];exact List.prefix_refl _)
   (by rintro c ⟨⟩)
   (fun g' w' hk hC hw=>by
     simp only[e2r]
     rw[hC]
     exact c7m hall (a4w hk.C _ _ _ hel))
 rw[hrun]
 refine .val g' _ _ h1 ?_ (by simp[V.und]) h2
 simp only[Rep]
 exact⟨⟨_,a4e H _,by simp⟩,_,_,_,h3,rfl,Nat.le_refl _⟩
def a1z (P:Program) (cx:Cx) (f:Nat) (args:List V) (H:Hp) (r:V) (H':Hp):Prop:=
 (∃ fn,P.funcs[f]? =some fn/\fn.body.isNone=false/\(fn.name== "runtime.NumGoroutine")=false)/\
 ∀ g w (cargs:Array Value),Inv cx g H w->a0w g H args cargs.toList->a0z H.length args=true->
  Calls P f cargs w (fun e w'=> ∃ g' x,e= .returned x/\Inv cx g' H' w'/\Rep g' H' r x/\r.und H'.length=true/\Ext H.length g H w g' H' w')
def b7r (P:Program) (cx:Cx) (orc:Orc):Prop:=∀ f args H r H',orc f args H=some (r,H')->a1z P cx f args H r H'
theorem a8b {f:Nat} {fn:Func} (hf:P.funcs[f]? =some fn) (hb:fn.body.isNone=false) (hn:(fn.name== "runtime.NumGoroutine")=false) (args:Array Value):(callFunc f args).run P w= .ok (.enter f args) w:=by
 have hn':fn.name≠ "runtime.NumGoroutine" :=by simpa using hn
 have hb':fn.body≠none:=by intro h;rw[h]at hb;cases hb
 simp[callFunc,hf,hb',hn']
theorem c8p {orc:Orc} (hS:b7r P cx orc) (hI:Inv cx g H w) (hnb:nb<=H.length) {f:Nat} {args:List V} {cargs:Array Value} {r:V} {H':Hp} (h:orc f args H=some (r,H')) (ra:a0w g H args cargs.toList) (ua:a0z H.length args=true):
 a0i P cx nb g H w r H' ((callFunc f cargs).run P w):=by
 obtain⟨⟨fn,h1,h2,h3⟩,h4⟩:=hS f args H r H' h
 rw[a8b h1 h2 h3]
 refine .call _ _ ((h4 g w cargs hI ra ua).mono ?_)
 rintro e w' ⟨g',x,rfl,i1,i2,i3,i4⟩
 exact⟨g',x,rfl,i1,i2,i3,i4.le hnb⟩
theorem g2o {orc:Orc} (hS:b7r P cx orc) (hI:Inv cx g H w) (hnb:nb<=H.length) {f:Nat} {ar:Array Operand} {at':Array TypeId} (hop:o.op= .call {callee:= .value (.func f),args:=ar,argTypes:=at' }) {args:List V} {r:V} {H':Hp}
 (h:orc f args H=some (r,H')) (ra:a0w g H args (ar.toList.map a.eval)) (ua:a0z H.length args=true):a0i P cx nb g H w r H' ((execOp a.eval o).run P w):=by
 have hrun:(execOp a.eval o).run P w=(callFunc f (ar.map a.eval)).run P w:=by
  simp[execOp,hop,resolve,Act.eval,Deferred.ofValue,invoke]
 rw[hrun]
 exact c8p hS hI hnb h (by simpa using ra) ua
theorem f7e {orc:Orc} (hS:b7r P cx orc) (hI:Inv cx g H w) (hnb:nb<=H.length) {t:Nat} {ar:Array Operand} {at':Array TypeId} (hop:o.op= .call {callee:= .value (.tmp t),args:=ar,argTypes:=at' }) {f:Nat} {c args:List V} {r:V} {H':Hp}
 (hf:Rep g H (.fn f c) (a.eval (.tmp t))) (uf:(V.fn f c).und H.length=true) (h:orc f (args++c) H=some (r,H')) (ra:a0w g H args (ar.toList.map a.eval)) (ua:a0z H.length args=true):a0i P cx nb g H w r H' ((execOp a.eval o).run P w):=by
 simp only[Rep]at hf
 obtain⟨cs,hx,hc⟩:=hf
 have hrun:(execOp a.eval o).run P w=(callFunc f (ar.map a.eval++cs)).run P w:=by
  simp[execOp,hop,resolve,hx,Deferred.ofValue,invoke]
 rw[hrun]
 refine c8p hS hI hnb h ?_ (a5q ua (by simpa only[V.und] using uf))
 have:=a7v ra hc
 simpa using this
theorem f4u {orc:Orc} (hS:b7r P cx orc) (hI:Inv cx g H w) (hnb:nb<=H.length) {t:Nat} {ar:Array Operand} {at':Array TypeId} (hop:o.op= .call {callee:= .value (.tmp t),args:=ar,argTypes:=at' }) {f:Nat} {c args:List V} {r:V} {H':Hp}
 (hf:Rep g H (.fm f c) (a.eval (.tmp t))) (uf:(V.fm f c).und H.length=true) (h:orc f (c++args) H=some (r,H')) (ra:a0w g H args (ar.toList.map a.eval)) (ua:a0z H.length args=true):a0i P cx nb g H w r H' ((execOp a.eval o).run P w):=by
 simp only[Rep]at hf
 obtain⟨cs,hx,hc⟩:=hf
 have hrun:(execOp a.eval o).run P w=(callFunc f (cs++ar.map a.eval)).run P w:=by
  simp[execOp,hop,resolve,hx,Deferred.ofValue,invoke]
 rw[hrun]
 refine c8p hS hI hnb h ?_ (a5q (by simpa only[V.und] using uf) ua)
 have:=a7v hc ra
 simpa using this
end
end Go.Vm
namespace Go.Vm
section
variable {P:Program} {cx:Cx} {nb:Nat} {g:Gh} {H:Hp} {w:World} {o:Oper} {a:Act}
theorem Inv.g2l (hI:Inv cx g H w) {id sz:Nat} {l ys:List D} (ho:H[id]? =some (.row sz l)) (hys:ys≠[]) {w':World} {b' cap':Nat} {cur':Array Value} {e':TypeId} {vs':List Value}
 (hos:w'.os=w.os) (ht:w'.tape=w.tape) (hp:w'.output=w.output) (hsz:w.heap.size<=w'.heap.size)
 (hother:∀ k,k < w.heap.size->k≠b'->w'.heap[k]? =w.heap[k]?) (hb:w'.heap[b']? =some (.cells cur' e' (0,0))) (hvs:vs' <+:cur'.toList) (hC':g.C b' <+:vs')
 (hel:a2a g.C sz (l++ys) vs') (h0:0 < sz) (hcap:(l++ys).length<=cap') (hcs:cur'.size=cap'*sz) (hm:cap'<=maxLen) (hfresh:w.heap.size<=b'\/∃ c,g.J id=some (b',c)):
 ∃ g',Inv cx g' (H.set id (.row sz (l++ys))) w'/\Ext nb g H w g' (H.set id (.row sz (l++ys))) w'/\g'.J id=some (b',cap'):=by
 let g':Gh:={J:=fun i=>if i=id then some (b',cap') else g.J i,C:=fun b=>if b=b' then vs' else g.C b }
 have hid:=(List.getElem?_eq_some_iff.1 ho).1
 have hb'lt:b' < w'.heap.size:=(Array.getElem?_eq_some_iff.1 hb).1
 have hJn:g'.J id=some (b',cap'):=if_pos rfl
 have hJo:∀ i,i≠id->g'.J i=g.J i:=fun i hi=>if_neg hi
 have hCn:g'.C b'=vs':=if_pos rfl
 have hCo:∀ b,b≠b'->g'.C b=g.C b:=fun b hb=>if_neg hb
 have hC:∀ b,g.C b <+:g'.C b:=by
  intro b
  by_cases hbb:b=b'
  ·subst hbb;rw[hCn];exact hC'
  ·rw[hCo b hbb];exact List.prefix_refl _
 have hne:∀ i b c,i≠id->g.J i=some (b,c)->b≠b':=by
  rintro i b c hi h rfl
  rcases hfresh with hf|⟨c',hf⟩
  ·have:=(hI.dom i b c h).2;omega
  ·exact hi (hI.inj i id b c c' h hf)
 have hset:∀ i,i≠id->(H.set id (.row sz (l++ys)))[i]? =H[i]? :=fun i hi=>List.getElem?_set_ne (Ne.symm hi)
 have hself:(H.set id (.row sz (l++ys)))[id]? =some (.row sz (l++ys)):=by simp[hid]
 have hkeep:Keep H.length g H g' (H.set id (.row sz (l++ys))):=by
  refine⟨hC,fun i q _ hq hr=>?_,fun i s q _ hq=>?_⟩
  ·have hi:i≠id:=by rintro rfl;rw[ho]at hq;cases hq;exact hr _ _ rfl
   exact⟨hJo i hi,q,by rw[hset i hi];exact hq,hr⟩
  ·by_cases hi:i=id
   ·subst hi
    rw[ho]at hq;cases hq
    refine⟨_,hself,List.prefix_append _ _,fun he=>?_⟩
    simp at he;exact absurd he hys
   ·exact⟨q,by rw[hset i hi];exact hq,List.prefix_refl _,fun _=>hJo i hi⟩
 have hfx:∀ b,b < w.heap.size->(∀ k c,g.J k≠some (b,c))->w'.heap[b]? =w.heap[b]? /\∀ k c,g'.J k≠some (b,c):=by
  intro b hbl hn
  have hbb:b≠b':=by
   rintro rfl
   rcases hfresh with hf|⟨c,hf⟩
   ·omega
   ·exact hn id c hf
  refine⟨hother b hbl hbb,fun k c hk=>?_⟩
  by_cases hi:k=id
  ·subst hi;rw[hJn]at hk;cases hk;exact hbb rfl
  ·rw[hJo k hi]at hk;exact hn k c hk
 refine⟨g',⟨?_,?_,?_,?_,?_,?_,hI.fix.mono hfx⟩,⟨hos,ht,hp,hsz,?_,hkeep,?_,?_,by simp⟩,hJn⟩
 ·intro i k b c c' h1 h2
  by_cases hi:i=id<;>by_cases hk:k=id
  ·rw[hi,hk]
  ·subst hi;rw[hJn]at h1;cases h1;rw[hJo k hk]at h2;exact absurd rfl (hne k _ _ hk h2)
  ·subst hk;rw[hJn]at h2;cases h2;rw[hJo i hi]at h1;exact absurd rfl (hne i _ _ hi h1)
  ·rw[hJo i hi]at h1;rw[hJo k hk]at h2;exact hI.inj i k b c c' h1 h2
 ·intro i b c h
  by_cases hi:i=id
  ·subst hi;rw[hJn]at h;cases h;simp;exact⟨hid,hb'lt⟩
  ·rw[hJo i hi]at h;have:=hI.dom i b c h;simp;omega
 ·intro i b c q h hq
  by_cases hi:i=id
  ·subst hi
   rw[hJn]at h;cases h
   rw[hself]at hq;cases hq
   exact⟨cur',e',hb,by rw[hCn];exact a4w hC _ _ _ hel,h0,hcap,hcs,hm⟩
  ·rw[hJo i hi]at h
   rw[hset i hi]at hq
   have hbb:=hne i b c hi h
   exact(hI.ob i b c q h hq).ext hkeep.w (hother b (hI.dom i b c h).2 hbb) (hCo b hbb) (c6t hI hq)
 ·intro b hbn
  by_cases hbb:b=b'
  ·subst hbb;rw[hCn];exact⟨cur',e',(0,0),hb,hvs⟩
  ·rw[hCo b hbb]at hbn⊢
   obtain⟨cur,e,fz,h1,h2⟩:=hI.imm b hbn
   exact⟨cur,e,fz,by rw[hother b (Array.getElem?_eq_some_iff.1 h1).1 hbb];exact h1,h2⟩
 ·intro i c hi hq
  simp only[List.length_set]at hi⊢
  by_cases hii:i=id
  ·subst hii;rw[hself]at hq;cases hq
  ·rw[hset i hii]at hq;exact hI.und i c hi hq
 ·intro i
  obtain⟨us,h1,h2⟩:=hI.glob i
  exact⟨us,h1.trans (hC i),a3f hC _ _ h2⟩
 ·intro b hbl hj
  have hbb:b≠b':=by
   rintro rfl
   rcases hfresh with hf|⟨c,hf⟩
   ·omega
   ·exact hj id c hf
  exact⟨hother b hbl hbb,hCo b hbb⟩
 ·intro i b c h hbl
  by_cases hi:i=id
  ·subst hi;rw[hJn]at h;cases h
   rcases hfresh with hf|⟨c,hf⟩
   ·omega
   ·exact⟨i,c,hf⟩
  ·rw[hJo i hi]at h;exact⟨i,c,h⟩
 ·intro n _ hc i c hi hq
  by_cases hii:i=id
  ·subst hii;rw[hself]at hq;cases hq
  ·rw[hset i hii]at hq;exact hc i c hi hq
theorem c8t (t ty e:TypeId) (i:TypeInfo) (ht:P.underlying t=some (.slice e)) (hi:P.info? e=some i) (b sLen sCap:Nat) (cur:Array Value) (e':TypeId) (hb:w.heap[b]? =some (.cells cur e' (0,0)))
 (ad:Addr) (m c:Nat) (news:List Value) (hl:news.length=m*i.size) (hnews:∀ j u,news[j]? =some u->w.cell? (ad.add j)=some u) (h1:∀ u∈news,u.oneCell'=true)
 (hroom:sLen+m<=sCap) (hfit:sLen*i.size+news.length<=cur.size):
 (Builtin.append_ #[t,t] ty #[.slice (some ⟨b,0,none⟩) sLen sCap,.slice (some ad) m c]).run P w=
  .ok (.slice (some ⟨b,0,none⟩) (sLen+m) sCap) (w.setRow b (cur.toList.take (sLen*i.size)++news++cur.toList.drop (sLen*i.size+news.length)).toArray):=by
 have hf:=run_firstCells_some (P:=P) w i.size m ad m c news hl hnews
 have hst:=run_storeCells_at P b (sLen*i.size) e' news 0 cur w hb (by simpa using hfit) h1
 simp only[Nat.add_zero]at hst
 simp[Builtin.append_,run_underlying ht,sizeOf,typeInfo,hi,Builtin.lenOf,hroom,hf,Addr.add_lit,hst]
theorem b5o (t ty e:TypeId) (i:TypeInfo) (ht:P.underlying t=some (.slice e)) (hi:P.info? e=some i) (base:Option Addr) (sLen sCap:Nat) (ad:Option Addr) (c:Nat) (hc:sLen<=sCap) (hb:∀ q,base=some q->q.spot=none):
 (Builtin.append_ #[t,t] ty #[.slice base sLen sCap,.slice ad 0 c]).run P w= .ok (.slice base sLen sCap) w:=by
 cases base with
 |none=>cases ad<;>simp[Builtin.append_,run_underlying ht,sizeOf,typeInfo,hi,Builtin.lenOf,hc,Builtin.firstCells,loadCells,loadCellsFrom]
 |some q=>cases ad<;>simp[Builtin.append_,run_underlying ht,sizeOf,typeInfo,hi,Builtin.lenOf,hc,Builtin.firstCells,loadCells,loadCellsFrom,storeCells]
theorem e9n {sz:Nat} {l:List D} {ad:Option Addr} {m cap:Nat} (hI:Inv cx g H w) (hl:l≠[]) (r:a3d g.C (.sl l) (.slice ad m cap)) (hall:l.all (fun y=>y.cells.length==sz)=true):
    ∃ q us,ad=some q/\m=l.length/\a2a g.C sz l us/\(∀ j u,us[j]? =some u->w.cell? (q.add j)=some u):=by
  obtain⟨ad',cap',hx,_,hr⟩:=c0r r
  simp only[Value.slice.injEq]at hx
  obtain⟨rfl,rfl,rfl⟩:=hx
  rcases hr with h|⟨b,off,sz',us,rfl,h0,h1,h2⟩
  ·exact absurd h hl
  ·have hs0:0 < l.length:=List.length_pos_iff.2 hl
   have hus:=a3l h2
   have hszz:sz'=sz:=by
    have hg:=a8c (b6e h2 (List.getElem?_eq_getElem hs0))
    have hc:(l[0]).cells.length=sz:=by
     have:=List.all_eq_true.1 hall _ (List.getElem_mem hs0)
     simpa using this
    rw[hc]at hg
    have:1*sz'<=l.length*sz':=Nat.mul_le_mul_right _ om
    simp only[Nat.zero_mul,List.drop_zero,List.length_take]at hg
    omega
   subst hszz
   refine⟨_,us,rfl,rfl,h2,fun j u hj=>?_⟩
   have hne:g.C b≠[]:=by
    intro hn
    rw[hn,List.drop_nil]at h1
    have:=List.prefix_nil.1 h1
    subst this;simp at hj
   obtain⟨cur,e,fz,h3,h4⟩:=hI.imm b hne
   rw[d9u h3 j]
   have:=a2b (h1.trans (a7k h4 off)) hj
   rw[List.getElem?_drop]at this
   simpa using this
theorem h6h (hI:Inv cx g H w) (hnb:nb<=H.length) {x y:Operand} {t e:TypeId} {ar:Array Operand} {at':Array TypeId} (hop:o.op= .call {callee:= .builtin .append,args:=ar,argTypes:=at' }) (har:ar.toList=[x,y]) (hat:at'.toList=[t,t])
 (ht:P.underlying t=some (.slice e)) {i:TypeInfo} (hi:P.info? e=some i) (hz:(zeroCells P e).map (·.length)=some i.size) {v vy:V} {ys:List D} (hys:lsize H vy=some ys) (hall:ys.all (fun q=>q.cells.length==i.size)=true) (h0:0 < i.size) (rx:Rep g H v (a.eval x)) (ry:Rep g H vy (a.eval y)) (ux:v.und H.length=true) {r:V} {H':Hp}
 (h:((v= .nils\/v= .nile)/\((ys=[]/\r=v/\H'=H)\/(ys≠[]/\roomy ys.length i.bytes/\r= .row H.length ys.length/\H'=H++[.row i.size ys])))\/
   (∃ id len l,v= .row id len/\H[id]? =some (.row i.size l)/\l.length=len/\roomy (len+ys.length) i.bytes/\r= .row id (len+ys.length)/\H'=H.set id (.row i.size (l++ys)))):
 a0i P cx nb g H w r H' ((execOp a.eval o).run P w):=by
 obtain rfl:ar= #[x,y]:=by apply Array.ext';simpa using har
 obtain rfl:at'= #[t,t]:=by apply Array.ext';simpa using hat
 obtain⟨z,hz',hzl⟩:=Option.map_eq_some_iff.1 hz
 obtain⟨it,zv,hi',hzv,hcz⟩:=b2s hz'
 obtain rfl:it=i:=by rw[hi]at hi';exact(Option.some.inj hi').symm
 have hzs:zv.cells.size=it.size:=by
  have:=a3k (a4j (g:=g) (H:=H) hcz).1
  simp at this;omega
 have hx:(execOp a.eval o).run P w=((Builtin.append_ #[t,t] o.type #[a.eval x,a.eval y]).run P w).andThen (fun v w'=> .ok (.value v) w'):=by
   simp[execOp,hop,resolve,invoke,builtin]
 have hy:=c8s hI hys ry
 obtain⟨ady,capy,hey,_,_⟩:=c0r hy
 have newrow:∀ (hne:ys≠[]) (hroom:roomy ys.length it.bytes),∃ (us:List Value) (cap:Nat) (cs:Array Value),a2a g.C it.size ys us/\ys.length<=cap/\cap<=maxLen/\us <+:cs.toList/\cs.size=cap*it.size/\
  ∀ base:Option Addr,(Builtin.append_ #[t,t] o.type #[.slice base 0 0,a.eval y]).run P w= .ok (.slice (some ⟨w.heap.size,0,none⟩) ys.length cap) (w.drew.alloc (.cells cs e)):=by
  intro hne hroom
  obtain⟨q,us,hq,hm,hel,hnews⟩:=e9n (sz:=it.size) hI hne (hey ▸ hy) hall
  have hus:=a3l hel
  have hlen:0 < ys.length:=List.length_pos_iff.2 hne
  have hrun:=run_append_nil (P:=P) w t o.type e it zv ht hi hzv q ys.length capy us hus hnews hlen (by have:=hroom.2;omega) (by have:=hroom.1;omega)
  refine⟨us,grownCap w ys.length 0 e,us.toArray++Builtin.zeroCells zv.cells (grownCap w ys.length 0 e - ys.length),hel,grownCap_ge ..,grownCap_le_maxLen _ _ _ _ (by have:=hroom.2;simp[maxLen];omega),?_,?_,fun base=>?_⟩
  rotate_left 2
  ·rw[hey,hq]
   cases base with
   |none=>exact hrun
   |some b=>
    have hg:=run_append_grow (P:=P) (w:=w) t o.type e it zv ht hi hzv b 0 0 [] (by simp) (by simp) q ys.length capy us hus hnews om (by have:=hroom.2;omega) (by rw[Nat.zero_add,nextslicecap_zero hlen];have:=hroom.1;omega)
    simpa using hg
  ·simp
  ·have:=grownCap_ge w ys.length 0 e
   simp[size_zeroCells,hus,hzs,<-Nat.add_mul]
   congr 1;omega
 rw[hx]
 rcases h with⟨hv,h⟩|⟨id,len,l,rfl,ho,rfl,hroom,rfl,rfl⟩
 ·obtain⟨base,hbase,hsp⟩:∃ base:Option Addr,a.eval x= .slice base 0 0/\∀ q,base=some q->q.spot=none:=by
   rcases hv with rfl|rfl
   ·simp only[Rep]at rx;exact⟨none,rx,by simp⟩
   ·simp only[Rep]at rx;exact rx
  rcases h with⟨rfl,rfl,rfl⟩|⟨hne,hroom,rfl,rfl⟩
  ·rw[hbase,hey,List.length_nil]
   rw[b5o t o.type e it ht hi base 0 0 ady capy (Nat.le_refl _) hsp]
   exact a0i.pure hI rfl (hbase ▸ rx) (by rcases hv with rfl|rfl<;>rfl)
  ·obtain⟨us,cap,cs,h1,h2,h3,h4,h5,h6⟩:=newrow hne hroom
   rw[hbase,h6]
   obtain⟨g',i1,i2,i3,i4⟩:=hI.alloc (nb:=nb) hnb (w1:=w.drew) rfl rfl rfl rfl (cs:=cs) (T:=e) (o:= .row it.size ys) (cap:=cap) (vs:=us) h4 (by simp)
     (fun g' w' hk hC hw=>⟨_,_,hw,by rw[hC];exact a4w hk.C _ _ _ h1,h0,h2,h5,h3⟩)
   refine .val g' _ _ i1 ?_ (by simp[V.und]) i2
   simp only[Rep]
   exact⟨_,_,_,_,rfl,a4e H _,Nat.le_refl _,fun _=> .inr ⟨_,i3,rfl⟩⟩
 ·simp only[Rep]at rx
  obtain⟨ad,cap,sz,l',hxv,ho',_,hrep⟩:=rx
  rw[ho]at ho'
  simp only[Option.some.injEq,Ob.row.injEq]at ho'
  obtain⟨rfl,rfl⟩:=ho'
  have hid:=(List.getElem?_eq_some_iff.1 ho).1
  rw[hxv]
  by_cases hne:ys=[]
  ·subst hne
   simp only[List.append_nil,List.length_nil,Nat.add_zero]
   have hset:H.set id (.row it.size l)=H:=by
    apply List.ext_getElem?
    intro k
    by_cases hk:id=k
    ·subst hk;simp[hid]
     exact((List.getElem?_eq_some_iff.1 ho).2).symm
    ·rw[List.getElem?_set_ne hk]
   rw[hset,hey,List.length_nil]
   have hle:l.length<=cap:=by
    rcases hrep rfl with⟨h1,_,_⟩|⟨b,hJ,_⟩
    ·omega
    ·obtain⟨_,_,_,_,_,h,_⟩:=hI.ob id b cap _ hJ ho;exact h
   have hsp:∀ q,ad=some q->q.spot=none:=by
    rcases hrep rfl with⟨_,rfl,_⟩|⟨b,_,rfl⟩<;>simp
   rw[b5o t o.type e it ht hi ad l.length cap ady capy hle hsp]
   refine a0i.pure hI rfl ?_ ux
   simp only[Rep]
   exact⟨_,_,_,_,rfl,ho,Nat.le_refl _,hrep⟩
  ·obtain⟨q,us,hq,hm,hel,hnews⟩:=e9n (sz:=it.size) hI hne (hey ▸ hy) hall
   have hus:=a3l hel
   have finish:∀ (w':World) (b' cap':Nat) (cur':Array Value) (e':TypeId) (vs':List Value),w'.os=w.os->w'.tape=w.tape->w'.output=w.output->w.heap.size<=w'.heap.size->(∀ k,k < w.heap.size->k≠b'->w'.heap[k]? =w.heap[k]?)->
    w'.heap[b']? =some (.cells cur' e' (0,0))->vs' <+:cur'.toList->g.C b' <+:vs'->a2a g.C it.size (l++ys) vs'->(l++ys).length<=cap'->cur'.size=cap'*it.size->cap'<=maxLen->(w.heap.size<=b'\/∃ c,g.J id=some (b',c))->
    a0i P cx nb g H w (.row id (l.length+ys.length)) (H.set id (.row it.size (l++ys))) (.ok (.value (.slice (some ⟨b',0,none⟩) (l.length+ys.length) cap')) w'):=by
    intro w' b' cap' cur' e' vs' a1 a2 a3 a4 a5 a6 a7 a8 a9 a10 a11 a12 a13
    obtain⟨g',i1,i2,i3⟩:=hI.g2l (nb:=nb) ho hne a1 a2 a3 a4 a5 a6 a7 a8 a9 h0 a10 a11 a12 a13
    refine .val g' _ _ i1 ?_ (by simpa [V.und] using hid) i2
    simp only[Rep]
    exact⟨some ⟨b',0,none⟩,cap',it.size,l++ys,rfl,by simp[hid],by simp,fun _=> .inr ⟨_,i3,rfl⟩⟩
   rcases hrep rfl with⟨hl0,rfl,rfl⟩|⟨b,hJ,rfl⟩
   ·have hl:l=[]:=List.eq_nil_of_length_eq_zero hl0
    subst hl
    simp only[List.length_nil,Nat.zero_add]at hroom⊢
    obtain⟨us,cap,cs,h1,h2,h3,h4,h5,h6⟩:=newrow hne hroom
    rw[h6]
    have:=finish (w.drew.alloc (.cells cs e)) w.heap.size cap cs e us rfl rfl rfl (by simp) (fun k hk _=>heap_alloc_old _ _ hk) (heap_alloc_new w.drew _) h4 (by rw[hI.e6u (Nat.le_refl _)];exact List.nil_prefix) (by simpa using h1) (by simpa using h2) h5 h3 (.inl (Nat.le_refl _))
    simpa using this
   ·obtain⟨cur,e',hb,hC,_,hlc,hcs,hcm⟩:=hI.ob id b cap _ hJ ho
    have hCl:=a3l hC
    have hCp:g.C b <+:cur.toList:=by
     by_cases hn:g.C b=[]
     ·rw[hn];exact List.nil_prefix
     ·obtain⟨cur2,e2,fz2,h3,h4⟩:=hI.imm b hn
      rw[hb]at h3;cases h3;exact h4
    have hCt:cur.toList.take (l.length*it.size)=g.C b:=by rw[<-hCl];exact(List.prefix_iff_eq_take.1 hCp).symm
    rw[hey,hq]
    by_cases hin:l.length+ys.length<=cap
    ·have hfit:l.length*it.size+us.length<=cur.size:=by
      rw[hus,hcs,<-Nat.add_mul];exact Nat.mul_le_mul_right _ hin
     rw[c8t t o.type e it ht hi b l.length cap cur e' hb q ys.length capy us hus hnews (d1c hel) hin hfit]
     refine finish _ b cap _ e' (g.C b++us) rfl rfl rfl (by simp) (fun k _ hk=>setRow_other w b k _ hk) (setRow_heap w b cur _ e' (0,0) hb) ?_ (List.prefix_append _ _) (b4y hC hel) (by simpa using hin) ?_ hcm (.inr ⟨cap,hJ⟩)
     ·rw[hCt];exact List.prefix_append _ _
     ·simp only[List.size_toArray,List.length_append,List.length_take,List.length_drop,Array.length_toList];omega
    ·have holds:∀ j u,(g.C b)[j]? =some u->w.cell? ((⟨b,0,none⟩:Addr).add j)=some u:=by
      intro j u hj
      rw[d9u hb j]
      have:=a2b hCp hj
      simpa using this
     have hrun:=run_append_grow (P:=P) w t o.type e it zv ht hi hzv ⟨b,0,none⟩ l.length cap (g.C b) hCl holds q ys.length capy us hus hnews om (by have:=hroom.2;omega) (growslice_fits om (by have:=hroom.1;omega))
     rw[hrun]
     have hge:=grownCap_ge w (l.length+ys.length) cap e
     refine finish _ w.heap.size _ _ e (g.C b++us) rfl rfl rfl (by simp) (fun k hk _=>heap_alloc_old _ _ hk) (heap_alloc_new w.drew _) ?_ (by rw[hI.e6u (Nat.le_refl _)];exact List.nil_prefix) (b4y hC hel) (by simpa using hge) ?_ (grownCap_le_maxLen _ _ _ _ (by have:=hroom.2;simp[maxLen];omega)) (.inl (Nat.le_refl _))
     ·simp
     ·simp[size_zeroCells,hCl,hus,hzs,<-Nat.add_mul]
      congr 1;omega
theorem g6l (hI:Inv cx g H w) (hnb:nb<=H.length) {N:Nat} {e:Env} (hE:a9t g H N e a.tmps) {t el:TypeId} {len:Nat} {ps:Array (Nat×Operand)} (hop:o.op= .buildSlice t len ps) (hu:P.underlying t=some (.slice el)) {sz:Nat} (hsz:sizeT P el=some sz)
 {vs:List Opd} (hvs:b3n (ps.toList.map (·.2))=some vs) (hord:b1z 0 ps.toList=true) (hz:(zeroCells P el).isSome=true) (hlt:vs.all (Opd.lt N)=true)
 {ds:List D} (hds:a0s.toDs' cx e H vs=some ds) (hl:ds.length=len) (hall:ds.all (fun x=>x.cells.length==sz)=true) (h0:0 < sz) (hmax:len*sz<=16777216):
 a0i P cx nb g H w (.row H.length len) (H++[.row sz ds]) ((execOp a.eval o).run P w):=by
 obtain⟨cells,us,hrun,hc,hel⟩:=b7d hI hE hop hu hsz hvs hord hz hlt hds hl hall h0 hmax
 have hus:=a3l hel
 have hsize:cells.size=len*sz:=by rw[<-Array.length_toList,hc,hus,hl]
 have hlm:len<=maxLen:=by
  have:len<=len*sz:=Nat.le_mul_of_pos_right _ h0
  simp only[maxLen];omega
 rw[hrun]
 obtain⟨g',i1,i2,i3,i4⟩:=hI.alloc (nb:=nb) hnb (w1:=w) rfl rfl rfl rfl (cs:=cells) (T:=el) (o:= .row sz ds) (cap:=len) (vs:=us) (by rw[hc];exact List.prefix_refl _) (by simp)
   (fun g' w' hk hC hw=>⟨_,_,hw,by rw[hC];exact a4w hk.C _ _ _ hel,h0,om,hsize,hlm⟩)
 refine .val g' _ _ i1 ?_ (by simp[V.und]) i2
 simp only[Rep]
 exact⟨_,_,_,_,rfl,a4e H _,om,fun _=> .inr ⟨_,i3,rfl⟩⟩
end
end Go.Vm
namespace Go.Vm
section
variable {P:Program} {cx:Cx} {nb:Nat} {g:Gh} {H:Hp} {w:World} {o:Oper} {a:Act}
theorem wrap_i64 {n:Int} (h0:0<=n) (h1:n<=9223372036854775807):IntKind.i64.wrap n=n:=by
 have e:n % (18446744073709551616:Int)=n:=Int.emod_eq_of_lt h0 om
 simp only[IntKind.wrap,IntKind.bits,IntKind.signed]
 simp only[show((2:Int) ^ 64)=18446744073709551616 from rfl,show((2:Int) ^ (64 - 1))=9223372036854775808 from rfl,e]
 simp
 omega
theorem b6m {v:V} {x:Value} (hv:v.one=true) (h:Rep g H v x):∀ n,a1p g H (List.replicate n v) (List.replicate n x)
 |0=>by simp[a1p]
 |n+1=>by simp only[List.replicate_succ,a1p];exact⟨_,_,rfl,hv,h,b6m hv h n⟩
theorem b7z {m:Nat} {v:V} (h:v.und m=true):∀ n,a0z m (List.replicate n v)=true
 |0=>rfl
 |n+1=>by simp only[List.replicate_succ,a0z,h,b7z h n,Bool.and_self]
theorem h4x (hI:Inv cx g H w) (hnb:nb<=H.length) {t e:TypeId} {l:Nat} (hop:o.op= .makeSlice t (.tmp l) (.tmp l)) (ht:P.underlying t=some (.slice e)) {i:TypeInfo} (hi:P.info? e=some i) (hs:i.size=1) {z:V} (hz:zeroCells P e=some [z])
 {k:IntKind} {n:Int} (h0:0<=n) (hr:roomy n.toNat i.bytes) (rl:Rep g H (.d (.int k n)) (a.eval (.tmp l))):a0i P cx nb g H w (.arr H.length 0 n.toNat) (H++[.box (List.replicate n.toNat z)]) ((execOp a.eval o).run P w):=by
 obtain⟨it,zv,hi',hzv,hc⟩:=b2s hz
 obtain rfl:it=i:=by rw[hi]at hi';exact(Option.some.inj hi').symm
 obtain⟨hzr,hzu⟩:=a4j (g:=g) (H:=H) hc
 simp only[a1p]at hzr
 obtain⟨y,ys,hzc,hone,hrz,rfl⟩:=hzr
 simp only[a0z,Bool.and_true]at hzu
 have hn1:n<=9223372036854775807:=by have:=hr.2;omega
 have hw:=wrap_i64 h0 hn1
 have hcells:zv.cells= #[y]:=by apply Array.ext';simpa using hzc
 have hb:¬ ((it.bytes:Int) *n> 2 ^ 48):=by
  have h1:=hr.1
  have e1:((n.toNat*it.bytes:Nat):Int)=n*it.bytes:=by rw[Int.natCast_mul,Int.toNat_of_nonneg h0]
  rw[Int.mul_comm]
  have:(2:Int) ^ 48=281474976710656:=rfl
  omega
 have hrun:(execOp a.eval o).run P w= .ok (.value (.slice (some ⟨w.heap.size,0,none⟩) n.toNat n.toNat)) (w.alloc (.cells (List.replicate n.toNat y).toArray e)):=by
  simp only[execOp,hop,b0d rl]
  refine a9m ?_
  have harr:∀ m,(Array.range m).map (fun j=>(#[y]:Array Value)[j % (#[y]:Array Value).size]!)=(List.replicate m y).toArray:=by
    intro m
    apply Array.ext
    ·simp
    ·intro j h1 h2
     simp[Nat.mod_one]
  simp only[Instr.makeSlice,Sem.run_bind,run_underlying ht,Result.andThen_ok,asInt,asIntOf,Sem.run_pure,typeInfo,run_program,hi,hw]
  have hb':(it.bytes:Int) *n<=281474976710656:=by
   have:(2:Int) ^ 48=281474976710656:=rfl
   omega
  have hn0':¬ n < 0:=om
  rw[if_neg (by simp[hb',hn0'])]
  simp only[Sem.run_bind,run_askRoom,Result.andThen_ok,sizeOf,typeInfo,run_program,hi,hs,Sem.run_pure,Nat.mul_one]
  by_cases hn0:n.toNat=0
  ·simp[hn0,newRow]
   congr 2
   apply Array.ext<;>simp
  ·have hzrun:(zeroValue e).run P w= .ok zv w:=by simp[zeroValue,typeInfo,hi,hzv]
   rw[if_neg hn0]
   simp only[Sem.run_bind,hzrun,Result.andThen_ok,Sem.run_pure,hcells,harr,newRow,run_newObj,World.alloc_eq]
 obtain⟨g',h1,h2,h3,h4⟩:=hI.alloc (nb:=nb) hnb (w1:=w) rfl rfl rfl rfl (cs:=(List.replicate n.toNat y).toArray) (T:=e) (o:= .box (List.replicate n.toNat z)) (cap:=0) (vs:=[]) List.nil_prefix
  (by rintro c ⟨⟩;exact b7z (V.a7f (Nat.zero_le _) _ hzu) _)
  (fun g' w' hk hC hw=>⟨_,_,hw,b6m hone (a2n hk.w _ _ (V.a7f (Nat.zero_le _) _ hzu) hrz) _,hC⟩)
 rw[hrun]
 refine .val g' _ _ h1 ?_ (by simp[V.und]) h2
 simp only[Rep]
 exact⟨⟨_,a4e H _,by simp⟩,_,_,_,h3,rfl,Nat.le_refl _⟩
theorem c3m (e':Addr):∃ w',(markStringish e').run P w= .ok () w'/\w'.os=w.os/\w'.tape=w.tape/\w'.output=w.output/\w'.heap.size=w.heap.size/\(∀ b,b≠e'.block->w'.heap[b]? =w.heap[b]?)/\
 (∀ cur e fz,w.heap[e'.block]? =some (.cells cur e fz)->∃ fz',w'.heap[e'.block]? =some (.cells cur e fz')):=by
 have hr:(markStringish e').run P w= .ok () (match w.shape? e'.block with|some (_,n)=>w.freeze ⟨e'.block,n,none⟩ 1|none=>w):=by
   unfold markStringish
   cases h:w.shape? e'.block with
   |none=>simp[h]
   |some p=>obtain⟨t,n⟩:=p;simp[h]
 refine⟨_,hr,?_⟩
 cases h:w.shape? e'.block with
 |none=>exact⟨rfl,rfl,rfl,rfl,fun _ _=>rfl,fun cur e fz hh=>⟨fz,hh⟩⟩
 |some p=>
  obtain⟨t,n⟩:=p
  simp only[World.freeze]
  rw[if_neg (by decide)]
  refine⟨rfl,rfl,rfl,by simp,fun b hb=>?_,fun cur e fz hh=>?_⟩
  ·simp only[Array.getElem?_modify]
   rw[if_neg (fun e=>hb e.symm)]
  ·obtain⟨lo,hi⟩:=fz
   simp only[Array.getElem?_modify,if_true,hh,Option.map_some]
   exact⟨_,rfl⟩
theorem g3w (hI:Inv cx g H w) {t e:TypeId} {x:Operand} (hop:o.op= .convert t t x) (ht:P.underlying t=some (.slice e)) (he:P.underlying e=some (.int .u8)) {id off len:Nat} {c:List D} (hH:H[id]? =some (.frz c))
 (rx:Rep g H (.arr id off len) (a.eval x)) (ux:(V.arr id off len).und H.length=true):a0i P cx nb g H w (.arr id off len) H ((execOp a.eval o).run P w):=by
 have rx':=rx
 simp only[Rep]at rx
 obtain⟨_,b,c',cap,hJ,hx,hlen⟩:=rx
 obtain⟨w',h1,h2,h3,h4,h5,h6,h7⟩:=c3m (P:=P) (w:=w) ⟨b,off,none⟩
 have hrun:(execOp a.eval o).run P w= .ok (.value (.slice (some ⟨b,off,none⟩) len cap)) w':=by
  simp only[execOp,hop,hx]
  refine a9m ?_
  simp[convert,run_underlying ht,run_underlying he,h1]
 rw[hrun]
 have hkeep:Keep H.length g H g H:=Keep.refl _ _ _
 refine .val g _ w' ⟨hI.inj,fun i b1 c1 h=>?_,fun i b1 c1 o1 h h'=>?_,fun b1 hb1=>?_,hI.und,hI.glob,?_⟩ (by rw[<-hx];exact rx') ux ⟨h2,h3,h4,om,fun b1 _ hn=>⟨h6 b1 (by rintro rfl;exact hn id c' hJ),rfl⟩,hkeep,fun i b1 c1 h _=>⟨i,c1,h⟩,fun _ _ h=>h,Nat.le_refl _⟩
 ·have:=hI.dom i b1 c1 h;rw[h5];exact this
 ·by_cases hb:b1=b
  ·subst hb
   obtain rfl:=hI.inj _ _ _ _ _ h hJ
   rw[hH]at h';cases h'
   have:=hI.ob _ _ _ _ h hH
   simpa only[e2r] using this
  ·have hd:=hI.dom i b1 c1 h
   exact(hI.ob i b1 c1 o1 h h').ext hkeep.w (h6 b1 hb) rfl (c6t hI h')
 ·obtain⟨cur,e1,fz,h8,h9⟩:=hI.imm b1 hb1
  by_cases hb:b1=b
  ·subst hb
   obtain⟨fz',h10⟩:=h7 cur e1 fz h8
   exact⟨cur,e1,fz',h10,h9⟩
  ·exact⟨cur,e1,fz,by rw[h6 b1 hb];exact h8,h9⟩
 ·exact hI.fix.mono fun b1 hb1 hn=>⟨h6 b1 (by rintro rfl;exact hn id c' hJ),hn⟩
end
end Go.Vm
