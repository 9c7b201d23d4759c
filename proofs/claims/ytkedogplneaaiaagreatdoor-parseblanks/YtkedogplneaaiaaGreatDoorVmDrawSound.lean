import Derived.Test.YtkedogplneaaiaaGreatDoorVmOps9
import Derived.MapKept
import Derived.Orders
set_option linter.unusedVariables false
set_option linter.unusedSimpArgs false
namespace Go.Vm
open Go.MapKept
def c2h:D->Value
 | .bool b=> .bool b
 | .int k n=> .int k n
 | .str s=> .string ⟨s.toArray⟩
 |_=>undef
def KD:Nat->TypeDesc->Prop
 |0,d=>d= .bool
 |1,d=>d= .int .i64
 |2,d=>d= .string
 |_,_=>False
theorem d6h {P:Program} {t:TypeId} {kk:Nat} (h:f9f P t=some kk):∃ d,P.underlying t=some d/\KD kk d:=by
 unfold f9f at h
 split at h<;>first|(cases h;exact⟨_,by assumption,rfl⟩)|cases h
theorem b6p {C:Nat->List Value} {kk:Nat} {k:D} {x:Value} (h:a8e kk k=true) (r:a2z C k x):x=c2h k:=by
 unfold a8e at h
 split at h
 ·simp only[a2z,a0p]at r;cases r;rfl
 ·simp only[a2z,a0p]at r;cases r;rfl
 ·simp only[a2z,a0p]at r;cases r;rfl
 ·cases h
theorem c3q {C:Nat->List Value} {kk:Nat} {k:D} (h:a8e kk k=true):a2z C k (c2h k):=by
 unfold a8e at h
 split at h
 ·simp[a2z,a0p,c2h]
 ·simp[a2z,a0p,c2h]
 ·simp[a2z,a0p,c2h]
 ·cases h
theorem b1d {kk:Nat} {d:TypeDesc} {k:D} (hd:KD kk d) (h:a8e kk k=true):IsKey d (c2h k):=by
 unfold a8e at h
 split at h
 ·cases hd;trivial
 ·cases hd;rfl
 ·cases hd;trivial
 ·cases h
theorem e9s {kk:Nat} {a b:D} (ha:a8e kk a=true) (hb:a8e kk b=true):eq1 a b=true↔c2h b=c2h a:=by
 unfold a8e at ha hb
 split at ha
 ·split at hb<;>first|contradiction|(simp_all[eq1,c2h];done)|(simp[eq1,c2h];exact eq_comm)|cases hb
 ·split at hb<;>first|contradiction|(simp_all[eq1,c2h];done)|(simp[eq1,c2h];exact eq_comm)|cases hb
 ·split at hb<;>first|contradiction|(simp_all[eq1,c2h];done)|(simp[eq1,c2h];exact eq_comm)|cases hb
 ·cases ha
theorem c6d {k:D}:∀ {l:List (D×D)} {j:Nat},a5j k l=some j->∃ p,l[j]? =some p/\eq1 k p.1=true/\c9r k l=some p.2
 |[],j,h=>by cases h
 |(a,v)::r,j,h=>by
  simp only[a5j,c9r]at h⊢
  split at h
  ·rename_i hk;cases h;exact⟨(a,v),rfl,hk,by rw[if_pos hk]⟩
  ·rename_i hk
   obtain⟨i,hi,rfl⟩:=Option.map_eq_some_iff.1 h
   obtain⟨p,h1,h2,h3⟩:=c6d hi
   exact⟨p,by simpa using h1,h2,by rw[if_neg hk];exact h3⟩
theorem c5o {k:D}:∀ {l:List (D×D)},a5j k l=none->c9r k l=none/\∀ p∈l,eq1 k p.1=false
 |[],_=>⟨rfl,by simp⟩
 |(a,v)::r,h=>by
  simp only[a5j,c9r]at h⊢
  split at h
  ·cases h
  ·rename_i hk
   have h':a5j k r=none:=by simpa using h
   obtain⟨h1,h2⟩:=c5o h'
   refine⟨by rw[if_neg hk];exact h1,fun p hp=>?_⟩
   rcases List.mem_cons.1 hp with rfl|hp
   ·simpa using hk
   ·exact h2 p hp
theorem d0w {k v:D}:∀ {l:List (D×D)} {j:Nat},a5j k l=some j->f8i k v l=c0m j v l
 |[],j,h=>by cases h
 |(a,x)::r,j,h=>by
  simp only[a5j,f8i,c0m]at h⊢
  split at h
  ·rename_i hk;cases h;rw[if_pos hk];rfl
  ·rename_i hk
   obtain⟨i,hi,rfl⟩:=Option.map_eq_some_iff.1 h
   rw[if_neg hk,d0w hi];rfl
theorem d1i {k v:D}:∀ {l:List (D×D)},a5j k l=none->f8i k v l=l++[(k,v)]
 |[],_=>rfl
 |(a,x)::r,h=>by
  simp only[a5j,f8i]at h⊢
  split at h
  ·cases h
  ·rename_i hk
   rw[if_neg hk,d1i (by simpa using h)];rfl
theorem d4b {C:Nat->List Value} {kk:Nat} {d:TypeDesc} {k:D} (hd:KD kk d) (hk:a8e kk k=true):∀ (l:List (D×D)) (es:List MapEntry) (i:Nat),es.length=l.length->b2c kk l=true->
 (∀ (j:Nat) p e,l[j]? =some p->es[j]? =some e->a2z C p.1 e.key)->Instr.findNow d (c2h k) es i=some ((a5j k l).bind fun j=>(es[j]?).map fun e=>(i+j,e.val))
 |[],[],i,_,_,_=>rfl
 |[],_::_,_,h,_,_=>by simp at h
 |_::_,[],_,h,_,_=>by simp at h
 |p::l,e::es,i,hl,hks,hr=>by
  simp only[b2c,List.all_cons,Bool.and_eq_true]at hks
  have he:=b6p hks.1 (hr 0 p e rfl rfl)
  obtain⟨r,h1,h2⟩:=sameNow_of_keys (b1d hd hk) (b1d hd hks.1)
  have h3:=e9s hk hks.1
  have ih:=d4b hd hk l es (i+1) (by simpa using hl) hks.2 fun j p e h4 h5=>hr (j+1) p e (by simpa using h4) (by simpa using h5)
  cases r with
  |true=>
   have:eq1 k p.1=true:=h3.2 (h2.1 rfl).symm
   obtain⟨a,v⟩:=p
   simp only at this he h1
   simp[Instr.findNow,he,h1,a5j,this]
  |false=>
   have:eq1 k p.1=false:=by
    cases hb:eq1 k p.1 with
    |false=>rfl
    |true=>exact absurd (h2.2 (h3.1 hb).symm) (by simp)
   obtain⟨a,v⟩:=p
   simp only at this he h1
   simp only[Instr.findNow,he,h1,ih,a5j,this]
   cases a5j k l with
   |none=>rfl
   |some j=>
    simp only[Bool.false_eq_true,if_false,Option.map_some,Option.bind_some,List.getElem?_cons_succ]
    congr 2
    funext e
    congr 1;omega
section
variable {P:Program} {cx:Cx} {nb:Nat} {g:Gh} {H:Hp} {w:World} {o:Oper} {a:Act}
theorem Inv.g8o (hI:Inv cx g H w) (hnb:nb<=H.length) {ob:Obj} {o:Ob} {cap:Nat} (hu:∀ c,o= .box c->a0w H.length c=true)
 (hob:∀ (g':Gh) (w':World),Keep H.length g H g' (H++[o])->g'.C w.heap.size=[]->w'.heap[w.heap.size]? =some ob->e1w g' (H++[o]) w' w.heap.size cap o):
 ∃ g',Inv cx g' (H++[o]) (w.alloc ob)/\Ext nb g H w g' (H++[o]) (w.alloc ob)/\g'.J H.length=some (w.heap.size,cap):=by
 let g':Gh:={J:=fun i=>if i=H.length then some (w.heap.size,cap) else g.J i,C:=g.C }
 have hC:∀ b,g.C b <+:g'.C b:=fun b=>List.prefix_refl _
 have hJ:∀ i,i < H.length->g'.J i=g.J i:=fun i hi=>if_neg om
 have hJn:g'.J H.length=some (w.heap.size,cap):=if_pos rfl
 have hold:∀ b,b < w.heap.size->(w.alloc ob).heap[b]? =w.heap[b]? :=fun b hb=>(heap_alloc w ob).2 b hb
 have hnew:(w.alloc ob).heap[w.heap.size]? =some ob:=(heap_alloc w ob).1
 have hsize:(w.alloc ob).heap.size=w.heap.size+1:=by show(w.heap.push ob).size=_;simp
 have hkeep:Keep H.length g H g' (H++[o]):=b9r _ _ _ _ _ (Nat.le_refl _) hC hJ
 have hJc:∀ i b c,g'.J i=some (b,c)->(i=H.length/\b=w.heap.size/\c=cap)\/(i < H.length/\g.J i=some (b,c)):=by
  intro i b c h
  by_cases hi:i=H.length
  ·subst hi;rw[hJn]at h;cases h;exact .inl ⟨rfl,rfl,rfl⟩
  ·have h':g.J i=some (b,c):=by simpa only[g',if_neg hi] using h
   exact .inr ⟨(hI.dom i b c h').1,h'⟩
 refine⟨g',⟨?_,?_,?_,?_,?_,hI.glob,hI.fix.mono fun b hb hn=>⟨hold b hb,fun k c hk=>by rcases hJc k b c hk with⟨_,e2,_⟩|⟨_,e2⟩;omega;exact hn k c e2⟩⟩,⟨rfl,rfl,rfl,om,?_,hkeep,?_,?_,by simp⟩,hJn⟩
 ·intro i k b c c' h1 h2
  rcases hJc i b c h1 with⟨e1,e2,_⟩|⟨e1,e2⟩<;>rcases hJc k b c' h2 with⟨f1,f2,_⟩|⟨f1,f2⟩
  ·omega
  ·have:=(hI.dom _ _ _ f2).2;omega
  ·have:=(hI.dom _ _ _ e2).2;omega
  ·exact hI.inj i k b c c' e2 f2
 ·intro i b c h
  rcases hJc i b c h with⟨rfl,rfl,_⟩|⟨e1,e2⟩
  ·simp[hsize]
  ·have:=hI.dom _ _ _ e2;simp;omega
 ·intro i b c o' h h'
  rcases hJc i b c h with⟨rfl,rfl,rfl⟩|⟨e1,e2⟩
  ·rw[a3t]at h';cases h'
   exact hob g' _ hkeep (hI.e3l (Nat.le_refl _)) hnew
  ·rw[a5v H o i e1]at h'
   have hd:=hI.dom _ _ _ e2
   exact(hI.ob i b c o' e2 h').ext hkeep.w (hold b hd.2) rfl (c5f hI h')
 ·intro b hb
  obtain⟨cur,e,fz,h1,h2⟩:=hI.imm b hb
  exact⟨cur,e,fz,by rw[hold b (Array.getElem?_eq_some_iff.1 h1).1];exact h1,h2⟩
 ·intro i c hi hc
  by_cases hil:i=H.length
  ·subst hil;rw[a3t]at hc;cases hc
   exact a3l (by simp) _ (hu c rfl)
  ·have hil':i < H.length:=by simp at hi;omega
   rw[a5v H o i hil']at hc
   exact a3l (by simp) _ (hI.und i c hil' hc)
 ·intro b hb hj
  exact⟨hold b hb,rfl⟩
 ·intro i b c h hb
  rcases hJc i b c h with⟨_,e2,_⟩|⟨e1,e2⟩
  ·omega
  ·exact⟨i,c,e2⟩
 ·intro n hn hc
  exact b4w om hc
theorem Inv.d3x (hI:Inv cx g H w) {id b cap:Nat} (hJ:g.J id=some (b,cap)) {l l':List (D×D)} (ho:H[id]? =some (.map l)) {es':Array MapEntry} (hr:f8x g.C l' es'.toList):
 Inv cx g (H.set id (.map l')) {w with heap:=w.heap.setIfInBounds b (.map es' l'.length)}/\Ext nb g H w g (H.set id (.map l')) {w with heap:=w.heap.setIfInBounds b (.map es' l'.length)}:=by
 have hid:=(List.getElem?_eq_some_iff.1 ho).1
 have hkeep:Keep H.length g H g (H.set id (.map l')):=Keep.set ⟨_,ho,by simp⟩ (by simp)
 obtain⟨⟨es,hb,_⟩,hCb⟩:=hI.ob id b cap _ hJ ho
 have hheap:∀ k,k≠b->(w.heap.setIfInBounds b (.map es' l'.length))[k]? =w.heap[k]? :=fun k hk=>(heap_set hb).2 k hk
 have hself:(w.heap.setIfInBounds b (.map es' l'.length))[b]? =some (.map es' l'.length):=(heap_set hb).1
 refine⟨⟨hI.inj,fun i b' c'' h=>?_,fun i b' c'' q h hq=>?_,fun b' hb'=>?_,fun i q hi hq=>?_,hI.glob,hI.fix.mono fun b' _ hn=>⟨hheap b' fun e=>hn id cap (e ▸ hJ),hn⟩⟩,⟨rfl,rfl,rfl,by simp,fun b' hb' hj=>⟨hheap b' fun e=>hj id cap (e ▸ hJ),rfl⟩,hkeep,fun i b' c' h _=>⟨i,c',h⟩,fun n hn hc i q hi hq=>?_,by simp⟩⟩
 ·have:=hI.dom i b' c'' h;simp;omega
 ·by_cases hi:id=i
  ·subst hi
   rw[hJ]at h;cases h
   simp only[List.getElem?_set_self hid,Option.some.injEq]at hq
   subst hq
   exact⟨⟨es',hself,hr⟩,hCb⟩
  ·rw[List.getElem?_set_ne hi]at hq
   have hne:b'≠b:=fun e=>hi (hI.inj _ _ _ _ _ hJ (e ▸ h))
   exact(hI.ob i b' c'' q h hq).ext hkeep.w (hheap b' hne) rfl (c5f hI hq)
 ·have hne:b'≠b:=fun e=>hb' (e ▸ hCb)
  rw[hheap b' hne];exact hI.imm b' hb'
 ·simp only[List.length_set]at hi⊢
  by_cases hii:id=i
  ·subst hii;simp[List.getElem?_set_self hid]at hq
  ·rw[List.getElem?_set_ne hii]at hq;exact hI.und i q hi hq
 ·by_cases hii:id=i
  ·subst hii;simp[List.getElem?_set_self hid]at hq
  ·rw[List.getElem?_set_ne hii]at hq;exact hc i q hi hq
theorem d0k {C:Nat->List Value} {l:List (D×D)} {es:Array MapEntry} (h:f8x C l es.toList) {j:Nat} {f:MapEntry->MapEntry} {v:D} (hf:∀ p e,l[j]? =some p->es[j]? =some e->a2z C p.1 (f e).key/\a2z C v (f e).val/\(f e).born=e.born):f8x C (c0m j v l) (es.modify j f).toList:=by
 obtain⟨h1,h2⟩:=h
 refine⟨by simpa [c0m] using h1,fun i p e hp he=>?_⟩
 unfold c0m at hp
 rw[List.getElem?_modify]at hp
 rw[Array.getElem?_toList,Array.getElem?_modify]at he
 by_cases hj:j=i
 ·subst hj
  simp only[if_true]at hp he
  obtain⟨p0,hp0,rfl⟩:=Option.map_eq_some_iff.1 hp
  obtain⟨e0,he0,rfl⟩:=Option.map_eq_some_iff.1 he
  obtain⟨r1,r2,r3⟩:=hf p0 e0 hp0 he0
  exact⟨r1,r2,r3.trans (h2 j p0 e0 hp0 (by rw[Array.getElem?_toList];exact he0)).2.2⟩
 ·simp only[if_neg hj]at hp he
  exact h2 i p e (by simpa using hp) (by rw[Array.getElem?_toList];exact he)
theorem d2l {C:Nat->List Value} {l:List (D×D)} {es:Array MapEntry} (h:f8x C l es.toList) {k v:D} {x y:Value} (hk:a2z C k x) (hv:a2z C v y):f8x C (l++[(k,v)]) (es.push {key:=x,val:=y,born:=l.length }).toList:=by
 obtain⟨h1,h2⟩:=h
 refine⟨by simpa using h1,fun i p e hp he=>?_⟩
 rw[Array.toList_push]at he
 by_cases hi:i < l.length
 ·rw[List.getElem?_append_left hi]at hp
  rw[List.getElem?_append_left om]at he
  exact h2 i p e hp he
 ·rw[List.getElem?_append_right om]at hp
  rw[List.getElem?_append_right om,h1]at he
  have hi0:i - l.length=0:=by
   cases hq:i - l.length with
   |zero=>rfl
   |succ n=>rw[hq]at hp;simp at hp
  rw[hi0]at hp he
  simp at hp he
  subst hp;subst he
  exact⟨hk,hv,by show l.length=i;omega⟩
theorem g6t (hI:Inv cx g H w) (hnb:nb<=H.length) {t:TypeId} (hop:o.op= .makeMap t none):a0h P cx nb g H w (.mp H.length) (H++[.map []]) ((execOp a.eval o).run P w):=by
 have hrun:(execOp a.eval o).run P w= .ok (.value (.map (some w.heap.size))) (w.alloc (.map #[] 0)):=by
  simp[execOp,hop,Instr.makeMap,Result.andThen]
 obtain⟨g',h1,h2,h3⟩:=hI.g8o (nb:=nb) hnb (ob:= .map #[] 0) (o:= .map []) (cap:=0) (by rintro c ⟨⟩)
   (fun g' w' hk hC hw=>⟨⟨#[],hw,rfl,fun i p e hp _=>by simp at hp⟩,hC⟩)
 rw[hrun]
 refine .val g' _ _ h1 ?_ ?_ h2
 ·simp only[Rep];exact⟨⟨_,a3t H _,by simp⟩,_,_,h3,rfl⟩
 ·simp[V.und]
theorem e1x {t:TypeId} {z:D} (h:e3r P t=some z):∃ zv,(∀ w,(zeroValue t).run P w= .ok zv w)/\∀ C,a2z C z zv:=by
 unfold e3r at h
 have run:∀ zv,(P.info? t).bind (·.zero)=some zv->∀ w,(zeroValue t).run P w= .ok zv w:=by
  intro zv hz w
  obtain⟨i,hi,hzv⟩:=Option.bind_eq_some_iff.1 hz
  simp[zeroValue,typeInfo,hi,hzv]
 split at h
 ·rename_i c hz
  obtain⟨ds,hd,rfl⟩:=Option.map_eq_some_iff.1 h
  obtain⟨l,hl,hd⟩:=Option.bind_eq_some_iff.1 hd
  refine⟨_,run _ hz,fun C=>⟨c,rfl,?_⟩⟩
  exact c3h (g:=⟨fun _=>none,C⟩) (H:=[]) hd (a3w hl).1
 ·rename_i v hz hv
  split at h
  ·rename_i x hx
   cases h
   refine⟨_,run _ hv,fun C=>?_⟩
   obtain⟨r,_,_⟩:=c1m (g:=⟨fun _=>none,C⟩) (H:=[]) hx
   simp only[Rep]at r;exact r
  ·cases h
 ·cases h
theorem e1h (hI:Inv cx g H w) {id:Nat} {l:List (D×D)} (ho:H[id]? =some (.map l)) {x:Value} (r:Rep g H (.mp id) x):∃ b cap es,g.J id=some (b,cap)/\x= .map (some b)/\w.heap[b]? =some (.map es l.length)/\f8x g.C l es.toList:=by
 simp only[Rep]at r
 obtain⟨_,b,c,hJ,rfl⟩:=r
 obtain⟨⟨es,h1,h2⟩,_⟩:=hI.ob id b c _ hJ ho
 exact⟨b,c,es,hJ,rfl,h1,h2⟩
theorem b7u {C:Nat->List Value} {kk:Nat} {d:TypeDesc} {k:D} (hd:KD kk d) (hk:a8e kk k=true) {l:List (D×D)} {es:Array MapEntry} (hr:f8x C l es.toList) (hks:b2c kk l=true):
 (a5j k l=none/\Instr.findNow d (c2h k) es.toList 0=some none)\/∃ j p e,a5j k l=some j/\l[j]? =some p/\es[j]? =some e/\c9r k l=some p.2/\e.key=c2h k/\a2z C p.2 e.val/\e.born=j/\Instr.findNow d (c2h k) es.toList 0=some (some (j,e.val)):=by
 have h:=d4b (C:=C) hd hk l es.toList 0 hr.1 hks fun j p e h1 h2=>(hr.2 j p e h1 h2).1
 cases hw:a5j k l with
 |none=>rw[hw]at h;exact .inl ⟨rfl,h⟩
 |some j=>
  obtain⟨p,h1,h2,h3⟩:=c6d hw
  have hj:=(List.getElem?_eq_some_iff.1 h1).1
  have hes:j < es.toList.length:=by rw[hr.1];exact hj
  obtain⟨e,he⟩:∃ e,es.toList[j]? =some e:=⟨_,List.getElem?_eq_getElem hes⟩
  obtain⟨r1,r2,r3⟩:=hr.2 j p e h1 he
  have hkp:a8e kk p.1=true:=List.all_eq_true.1 hks p (List.mem_of_getElem? h1)
  rw[hw]at h
  simp only[Option.bind_some,he,Option.map_some,Nat.zero_add]at h
  refine .inr ⟨j,p,e,rfl,h1,by simpa using he,h3,?_,r2,r3,h⟩
  rw[b6p hkp r1]
  exact(e9s hk hkp).1 h2
theorem e5n (hI:Inv cx g H w) {t kt et:TypeId} {m k v:Operand} (hop:o.op= .mapUpdate t m k v\/o.op= .insert t m k v) (ht:P.underlying t=some (.map kt et)) {kk:Nat} (hkt:f9f P kt=some kk) {id:Nat} {kd x:D} {l:List (D×D)} (ho:H[id]? =some (.map l)) (hk:a8e kk kd=true) (hks:b2c kk l=true)
 (rm:Rep g H (.mp id) (a.eval m)) (rk:Rep g H (.d kd) (a.eval k)) (rv:a2z g.C x (a.eval v)):a0h P cx nb g H w .undef (H.set id (.map (f8i kd x l))) ((execOp a.eval o).run P w):=by
 obtain⟨d,hud,hd⟩:=d6h hkt
 obtain⟨b,cap,es,hJ,hm,hb,hr⟩:=e1h hI ho rm
 have ek:=b6p hk rk
 have hK:=b1d hd hk
 rcases b7u hd hk hr hks with⟨h1,h2⟩|⟨j,p,e,h1,hp,he,h3,h4,h5,h6,h7⟩
 ·have hrun:(execOp a.eval o).run P w= .ok .skip {w with heap:=w.heap.setIfInBounds b (.map (es.push {key:=c2h kd,val:=a.eval v,born:=l.length }) (l++[(kd,x)]).length)}:=by
   have:(Instr.mapUpdate t (a.eval m) (a.eval k) (a.eval v)).run P w= .ok () {w with heap:=w.heap.setIfInBounds b (.map (es.push {key:=c2h kd,val:=a.eval v,born:=l.length }) (l++[(kd,x)]).length)}:=by
    rw[hm,ek]
    simp[Instr.mapUpdate,run_underlying ht,MapKept.run_getObj_map hb,run_checkKey hud hK,run_findKey hud h2,MapKept.run_setObj_map _ hb,Result.andThen]
   rcases hop with hop|hop<;>(simp only[execOp,hop];exact f3d this)
  rw[hrun,d1i h1]
  obtain⟨i1,i2⟩:=hI.d3x (nb:=nb) hJ ho (d2l hr (c3q hk) rv)
  exact .skip g _ i1 rfl i2
 ·have hrun:(execOp a.eval o).run P w= .ok .skip {w with heap:=w.heap.setIfInBounds b (.map (es.modify j fun e=>{e with key:=c2h kd,val:=a.eval v }) (c0m j x l).length)}:=by
    have:(Instr.mapUpdate t (a.eval m) (a.eval k) (a.eval v)).run P w= .ok () {w with heap:=w.heap.setIfInBounds b (.map (es.modify j fun e=>{e with key:=c2h kd,val:=a.eval v }) (c0m j x l).length)}:=by
      rw[hm,ek]
      simp[Instr.mapUpdate,run_underlying ht,MapKept.run_getObj_map hb,run_checkKey hud hK,run_findKey hud h7,he,h4,run_keyThatStays hK,MapKept.run_setObj_map _ hb,Result.andThen,c0m]
    rcases hop with hop|hop<;>(simp only[execOp,hop];exact f3d this)
  rw[hrun,d0w h1]
  have hkp:a8e kk p.1=true:=List.all_eq_true.1 hks p (List.mem_of_getElem? hp)
  obtain⟨i1,i2⟩:=hI.d3x (nb:=nb) hJ ho (l':=c0m j x l) (d0k hr (j:=j) (v:=x) (f:=fun e=>{e with key:=c2h kd,val:=a.eval v }) fun p' e' hp' he'=>by
    rw[hp]at hp';cases hp'
    rw[he]at he';cases he'
    have:=(hr.2 j p e hp (by simpa using he)).1
    rw[b6p hkp this]at h4
    exact⟨by rw[<-h4];exact c3q hkp,rv,rfl⟩)
  exact .skip g _ i1 rfl i2
theorem g0q (hI:Inv cx g H w) {t kt et:TypeId} {m k:Operand} {ok:Bool} (hop:o.op= .lookup t m k ok) (ht:P.underlying t=some (.map kt et)) {kk:Nat} (hkt:f9f P kt=some kk) {z:D} (hz:e3r P et=some z) {id:Nat} {kd:D} {l:List (D×D)} (ho:H[id]? =some (.map l)) (hk:a8e kk kd=true) (hks:b2c kk l=true)
 (rm:Rep g H (.mp id) (a.eval m)) (rk:Rep g H (.d kd) (a.eval k)):a0h P cx nb g H w (h4p ok z (c9r kd l)) H ((execOp a.eval o).run P w):=by
 obtain⟨d,hud,hd⟩:=d6h hkt
 obtain⟨b,cap,es,hJ,hm,hb,hr⟩:=e1h hI ho rm
 have ek:=b6p hk rk
 have hK:=b1d hd hk
 obtain⟨zv,hzv,hzr⟩:=e1x hz
 have two:∀ (v:D) (x:Value) (q:Bool),a2z g.C v x->Rep g H (if ok then .tup [.d v,.d (.bool q)] else .d v) (if ok then .tuple #[x,.bool q] else x):=by
  intro v x q r
  cases ok
  ·simp only[Bool.false_eq_true,if_false,Rep];exact r
  ·simp only[if_true,Rep]
   exact⟨_,rfl,by simp only[a0t];exact⟨x,[.bool q],rfl,by simp only[Rep];exact r,_,[],rfl,a9z q,rfl⟩⟩
 rcases b7u hd hk hr hks with⟨h1,h2⟩|⟨j,p,e,h1,hp,he,h3,h4,h5,h6,h7⟩
 ·have hf:=(c5o h1).1
  refine a0h.pure (x:=if ok then .tuple #[zv,.bool false] else zv) hI ?_ ?_ ?_
  ·simp only[execOp,hop]
   refine a8d ?_
   rw[hm,ek]
   simp[Instr.lookup,run_underlying ht,MapKept.run_getObj_map hb,run_checkKey hud hK,run_findKey hud h2,hzv,Result.andThen]
  ·rw[hf]
   have:=two z zv false (hzr _)
   cases ok<;>exact this
  ·rw[hf];cases ok<;>rfl
 ·refine a0h.pure (x:=if ok then .tuple #[e.val,.bool true] else e.val) hI ?_ ?_ ?_
  ·simp only[execOp,hop]
   refine a8d ?_
   rw[hm,ek]
   simp[Instr.lookup,run_underlying ht,MapKept.run_getObj_map hb,run_checkKey hud hK,run_findKey hud h7,Result.andThen]
  ·rw[h3]
   have:=two p.2 e.val true h5
   cases ok<;>exact this
  ·rw[h3];cases ok<;>rfl
theorem g0k (hI:Inv cx g H w) {t kt et:TypeId} {m k:Operand} (hop:o.op= .mapEntry t m k) (ht:P.underlying t=some (.map kt et)) {kk:Nat} (hkt:f9f P kt=some kk) {z:D} (hz:e3r P et=some z) {id:Nat} {kd:D} {l:List (D×D)} (ho:H[id]? =some (.map l)) (hk:a8e kk kd=true) (hks:b2c kk l=true)
 (rm:Rep g H (.mp id) (a.eval m)) (rk:Rep g H (.d kd) (a.eval k)) {r:V} {H':Hp} (h:(match a5j kd l with
    |some i=>(l[i]?).map fun p=>(V.tup [.d p.2,.d (.int .i64 i)],H)
    |none=>some (.tup [.d z,.d (.int .i64 l.length)],H.set id (.map (l++[(kd,z)]))))=some (r,H')):a0h P cx nb g H w r H' ((execOp a.eval o).run P w):=by
 obtain⟨d,hud,hd⟩:=d6h hkt
 obtain⟨b,cap,es,hJ,hm,hb,hr⟩:=e1h hI ho rm
 have ek:=b6p hk rk
 have hK:=b1d hd hk
 obtain⟨zv,hzv,hzr⟩:=e1x hz
 have two:∀ (g':Gh) (H':Hp) (v:D) (x:Value) (n:Nat),a2z g'.C v x->Rep g' H' (.tup [.d v,.d (.int .i64 n)]) (.tuple #[x,goInt n]):=by
  intro g' H' v x n r
  simp only[Rep]
  exact⟨_,rfl,by simp only[a0t];exact⟨x,[goInt n],rfl,by simp only[Rep];exact r,_,[],rfl,a7l _ _,rfl⟩⟩
 rcases b7u hd hk hr hks with⟨h1,h2⟩|⟨j,p,e,h1,hp,he,h3,h4,h5,h6,h7⟩
 ·rw[h1]at h
  simp only[Option.some.injEq,Prod.mk.injEq]at h
  obtain⟨rfl,rfl⟩:=h
  have hrun:(execOp a.eval o).run P w= .ok (.value (.tuple #[zv,goInt l.length])) {w with heap:=w.heap.setIfInBounds b (.map (es.push {key:=c2h kd,val:=zv,born:=l.length }) (l++[(kd,z)]).length)}:=by
   simp only[execOp,hop]
   refine a8d ?_
   rw[hm,ek]
   simp[Instr.mapEntry,run_underlying ht,MapKept.run_getObj_map hb,run_checkKey hud hK,run_findKey hud h2,hzv,MapKept.run_setObj_map _ hb,Result.andThen]
  rw[hrun]
  obtain⟨i1,i2⟩:=hI.d3x (nb:=nb) hJ ho (d2l hr (c3q hk) (hzr _))
  exact .val g _ _ i1 (two _ _ _ _ _ (hzr _)) rfl i2
 ·rw[h1]at h
  simp only[hp,Option.map_some,Option.some.injEq,Prod.mk.injEq]at h
  obtain⟨rfl,rfl⟩:=h
  have hrun:(execOp a.eval o).run P w= .ok (.value (.tuple #[e.val,goInt j])) {w with heap:=w.heap.setIfInBounds b (.map (es.modify j fun e=>{e with key:=c2h kd }) (c0m j p.2 l).length)}:=by
    simp only[execOp,hop]
    refine a8d ?_
    rw[hm,ek]
    simp[Instr.mapEntry,run_underlying ht,MapKept.run_getObj_map hb,run_checkKey hud hK,run_findKey hud h7,he,h4,run_keyThatStays hK,MapKept.run_setObj_map _ hb,Result.andThen,c0m,h6]
  have hkp:a8e kk p.1=true:=List.all_eq_true.1 hks p (List.mem_of_getElem? hp)
  have hsame:c0m j p.2 l=l:=by
   unfold c0m
   apply List.ext_getElem?
   intro i
   rw[List.getElem?_modify]
   by_cases hji:j=i
   ·subst hji;rw[hp];simp
   ·simp[hji]
  obtain⟨i1,i2⟩:=hI.d3x (nb:=nb) hJ ho (l':=c0m j p.2 l) (d0k hr (j:=j) (v:=p.2) (f:=fun e=>{e with key:=c2h kd }) fun p' e' hp' he'=>by
    rw[hp]at hp';cases hp'
    rw[he]at he';cases he'
    have:=(hr.2 j p e hp (by simpa using he)).1
    rw[b6p hkp this]at h4
    exact⟨by rw[<-h4];exact c3q hkp,h5,rfl⟩)
  rw[hrun]
  have hset:H.set id (.map l)=H:=by
   apply List.ext_getElem?
   intro i
   by_cases hii:id=i
   ·subst hii;rw[List.getElem?_set_self (List.getElem?_eq_some_iff.1 ho).1,ho]
   ·rw[List.getElem?_set_ne hii]
  rw[hsame]at i1 i2⊢
  rw[hset]at i1 i2
  exact .val g _ _ i1 (two _ _ _ _ _ h5) rfl i2
theorem g2z (hI:Inv cx g H w) {t:TypeId} {m s v:Operand} (hop:o.op= .entryStore t m s v) {id:Nat} {ik:IntKind} {n:Int} {x:D} {l:List (D×D)} (ho:H[id]? =some (.map l)) (hn:0<=n/\n.toNat < l.length)
 (rm:Rep g H (.mp id) (a.eval m)) (rs:Rep g H (.d (.int ik n)) (a.eval s)) (rv:a2z g.C x (a.eval v)):a0h P cx nb g H w .undef (H.set id (.map (c0m n.toNat x l))) ((execOp a.eval o).run P w):=by
 obtain⟨b,cap,es,hJ,hm,hb,hr⟩:=e1h hI ho rm
 have es_len:es.size=l.length:=by simpa using hr.1
 have hfind:es.findIdx? (fun e=>(e.born:Int)==n)=some n.toNat:=by
   rw[Array.findIdx?_eq_some_iff_getElem]
   have hlt:n.toNat < es.size:=om
   have hb':∀ j (hj:j < es.size),es[j].born=j:=by
    intro j hj
    have hjl:j < l.length:=om
    exact(hr.2 j l[j] es[j] (List.getElem?_eq_getElem hjl) (by simp[hj])).2.2
   refine⟨hlt,?_,fun j hj=>?_⟩
   ·rw[hb' _ hlt];simp;omega
   ·rw[hb' j om];simp;omega
 have hrun:(execOp a.eval o).run P w= .ok .skip {w with heap:=w.heap.setIfInBounds b (.map (es.modify n.toNat fun e=>{e with val:=a.eval v }) (c0m n.toNat x l).length)}:=by
   simp only[execOp,hop]
   refine f3d ?_
   rw[hm,a9q rs]
   simp[Instr.entryStore,MapKept.run_getObj_map hb,asInt,asIntOf,hfind,MapKept.run_setObj_map _ hb,Result.andThen,c0m]
 rw[hrun]
 obtain⟨i1,i2⟩:=hI.d3x (nb:=nb) hJ ho (l':=c0m n.toNat x l) (d0k hr (j:=n.toNat) (v:=x) (f:=fun e=>{e with val:=a.eval v }) fun p' e' hp' he'=>
   ⟨(hr.2 _ p' e' hp' (by simpa using he')).1,rv,rfl⟩)
 exact .skip g _ i1 rfl i2
end
end Go.Vm
namespace Go.Vm
section
variable {P:Program} {cx:Cx} {nb:Nat} {g:Gh} {H:Hp} {w:World} {o:Oper} {a:Act}
theorem b2a {N:Nat} {e:Env} (hI:Inv cx g H w) (hE:a8g g H N e a.tmps) {lo:Option Operand} {ol:Option Opd} (hlo:g7h lo=some ol) (hl:∀ v,ol=some v->v.lt N=true) {d n:Nat} (h:a0q.bound cx e d ol=some n):
 (lo=none/\n=d)\/∃ y k,lo=some y/\a.eval y= .int k (n:Int):=by
 cases lo with
 |none=>
  simp only[g7h,Option.some.injEq]at hlo
  subst hlo
  simp only[a0q.bound,Option.some.injEq]at h
  exact .inl ⟨rfl,h.symm⟩
 |some y=>
  simp only[g7h]at hlo
  obtain⟨v,hv,rfl⟩:=Option.map_eq_some_iff.1 hlo
  simp only[a0q.bound]at h
  obtain⟨k,hk⟩:=c4p h (a0u (a:=a) hI hE hv (hl v rfl)).1
  exact .inr ⟨y,k,rfl,hk⟩
set_option maxHeartbeats 1000000 in
theorem e5r {orc:Orc} (hS:b5s P cx orc) (hI:Inv cx g H w) {N:Nat} {e:Env} (hE:a8g g H N e a.tmps) (hnb:nb<=H.length) {vop:VOp} (ht:b2i P o.op=some vop) (hok:vop.a5g.all (Opd.lt N)=true) {r:V} {H':Hp} (h:a0q cx orc nb e H vop=some (r,H')):
 a0h P cx nb g H w r H' ((execOp a.eval o).run P w):=by
 unfold b2i at ht
 split at ht
 ·
  rename_i x hop
  obtain⟨vx,hx,rfl⟩:=Option.map_eq_some_iff.1 ht
  simp only[VOp.a5g,List.all_cons,List.all_nil,Bool.and_true]at hok
  simp only[a0q,Option.some.injEq,Prod.mk.injEq]at h
  obtain⟨rfl,rfl⟩:=h
  obtain⟨r1,r2⟩:=a0u (a:=a) hI hE hx hok
  exact h3t hI (.inl hop) r1 r2
 ·
  rename_i x hop
  obtain⟨vx,hx,rfl⟩:=Option.map_eq_some_iff.1 ht
  simp only[VOp.a5g,List.all_cons,List.all_nil,Bool.and_true]at hok
  simp only[a0q,Option.some.injEq,Prod.mk.injEq]at h
  obtain⟨rfl,rfl⟩:=h
  obtain⟨r1,r2⟩:=a0u (a:=a) hI hE hx hok
  exact h3t hI (.inr hop) r1 r2
 ·
  rename_i c x y hop
  split at ht
  ·rename_i vc vx vy hc hx hy
   simp only[Option.some.injEq]at ht
   subst ht
   simp only[VOp.a5g,List.all_cons,List.all_nil,Bool.and_true,Bool.and_eq_true]at hok
   simp only[a0q]at h
   split at h
   ·rename_i t hvt
    simp only[Option.some.injEq,Prod.mk.injEq]at h
    obtain⟨rfl,rfl⟩:=h
    obtain⟨c1,_⟩:=a0u (a:=a) hI hE hc hok.1
    obtain⟨x1,x2⟩:=a0u (a:=a) hI hE hx hok.2.1
    obtain⟨y1,y2⟩:=a0u (a:=a) hI hE hy hok.2.2
    exact g1w hI hop (hvt ▸ c1) x1 y1 x2 y2
   ·cases h
  ·cases ht
 ·
  rename_i t hop
  obtain⟨z,hz,rfl⟩:=Option.map_eq_some_iff.1 ht
  simp only[a0q,Option.some.injEq,Prod.mk.injEq]at h
  obtain⟨rfl,rfl⟩:=h
  exact g3r hI hnb hop hz
 ·
  rename_i t x hop
  obtain⟨vx,hx,rfl⟩:=Option.map_eq_some_iff.1 ht
  simp only[VOp.a5g,List.all_cons,List.all_nil,Bool.and_true]at hok
  simp only[a0q]at h
  split at h
  ·rename_i hone
   simp only[Option.some.injEq,Prod.mk.injEq]at h
   obtain⟨rfl,rfl⟩:=h
   obtain⟨r1,r2⟩:=a0u (a:=a) hI hE hx hok
   exact h1j hI hnb hop r1 r2 hone
  ·cases h
 ·
  rename_i t ps hop
  split at ht
  ·rename_i fs z hu hz
   split at ht
   ·rename_i hall
    obtain⟨vs,hvs,rfl⟩:=Option.map_eq_some_iff.1 ht
    simp only[VOp.a5g,List.all_map]at hok
    simp only[a0q]at h
    split at h
    ·rename_i hone
     obtain⟨c,hc,he⟩:=Option.map_eq_some_iff.1 h
     simp only[Prod.mk.injEq]at he
     obtain⟨rfl,rfl⟩:=he
     exact f4e hI hE hop hu hz hall hvs hok hone hc
    ·cases h
   ·cases ht
  ·cases ht
 ·
  rename_i t len ps hop
  split at ht
  ·rename_i el hu
   split at ht
   ·rename_i sz vs hsz hvs
    split at ht
    ·rename_i hc
     simp only[Bool.and_eq_true,beq_iff_eq]at hc
     split at ht
     ·rename_i hu8
      split at ht
      ·rename_i hs1
       subst hs1
       simp only[Option.some.injEq]at ht
       subst ht
       simp only[VOp.a5g]at hok
       simp only[a0q]at h
       split at h
       ·rename_i ds hds
        split at h
        ·rename_i hcond
         simp only[Option.some.injEq,Prod.mk.injEq]at h
         obtain⟨rfl,rfl⟩:=h
         exact g7t hI hnb hE hop hu hsz hvs hc.1.1 hc.2 hok hds hcond.1 hcond.2.1 hcond.2.2
        ·cases h
       ·cases h
      ·cases ht
     ·split at ht
      ·rename_i h00
       obtain⟨rfl,hs0⟩:=h00
       simp only[Option.some.injEq]at ht
       subst ht
       simp only[a0q,if_pos hs0,Option.some.injEq,Prod.mk.injEq]at h
       obtain⟨rfl,rfl⟩:=h
       exact g4r hI hnb hE hop hu hsz hvs hc.1.1 (List.eq_nil_of_length_eq_zero hc.1.2) hc.2 hs0
      simp only[Option.some.injEq]at ht
      subst ht
      simp only[VOp.a5g]at hok
      simp only[a0q]at h
      split at h
      ·rename_i ds hds
       split at h
       ·rename_i hcond
        simp only[Option.some.injEq,Prod.mk.injEq]at h
        obtain⟨rfl,rfl⟩:=h
        exact e6f hI hE hop hu hsz hvs hc.1.1 hc.2 hok hds hcond.1 hcond.2.1 hcond.2.2.1 hcond.2.2.2
       ·cases h
      ·cases h
    ·cases ht
   ·cases ht
  ·cases ht
 ·
  rename_i t x hop
  split at ht
  ·rename_i n vx hs hx
   simp only[Option.some.injEq]at ht
   subst ht
   simp only[VOp.a5g,List.all_cons,List.all_nil,Bool.and_true]at hok
   simp only[a0q]at h
   obtain⟨q,hq,he⟩:=Option.map_eq_some_iff.1 h
   simp only[Prod.mk.injEq]at he
   obtain⟨rfl,rfl⟩:=he
   obtain⟨r1,r2⟩:=a0u (a:=a) hI hE hx hok
   exact i0p hI hop hs hq r1 r2
  ·cases ht
 ·
  rename_i t x y hop
  split at ht
  ·rename_i n vx vy hn hx hy
   simp only[Option.some.injEq]at ht
   subst ht
   simp only[VOp.a5g,List.all_cons,List.all_nil,Bool.and_true,Bool.and_eq_true]at hok
   simp only[a0q]at h
   obtain⟨q,hq,he⟩:=Option.map_eq_some_iff.1 h
   simp only[Prod.mk.injEq]at he
   obtain⟨rfl,rfl⟩:=he
   obtain⟨r1,r2⟩:=a0u (a:=a) hI hE hx hok.1
   obtain⟨s1,s2⟩:=a0u (a:=a) hI hE hy hok.2
   exact h9i hI hop hn hq r1 s1 s2
  ·cases ht
 ·
  rename_i x hop
  obtain⟨vx,hx,rfl⟩:=Option.map_eq_some_iff.1 ht
  simp only[VOp.a5g,List.all_cons,List.all_nil,Bool.and_true]at hok
  obtain⟨r1,r2⟩:=a0u (a:=a) hI hE hx hok
  simp only[a0q]at h
  split at h
  ·rename_i id off hv
   simp only[Option.some.injEq,Prod.mk.injEq]at h
   obtain⟨rfl,rfl⟩:=h
   rw[hv]at r1 r2
   exact d0q hI hop (.inl ⟨_,_,rfl⟩) r1 r2
  ·rename_i f c hv
   simp only[Option.some.injEq,Prod.mk.injEq]at h
   obtain⟨rfl,rfl⟩:=h
   rw[hv]at r1 r2
   exact d0q hI hop (.inr (.inl ⟨_,_,rfl⟩)) r1 r2
  ·rename_i f c hv
   simp only[Option.some.injEq,Prod.mk.injEq]at h
   obtain⟨rfl,rfl⟩:=h
   rw[hv]at r1 r2
   exact d0q hI hop (.inr (.inr ⟨_,_,rfl⟩)) r1 r2
  ·cases h
 ·
  rename_i op t x y u hop
  split at ht
  ·rename_i vx vy hx hy
   have fin:∀ neg,op=(if neg then .neq else .eql)->∀ ks,d3h P t=some ks->vop= .eqa neg ks vx vy->a0h P cx nb g H w r H' ((execOp a.eval o).run P w):=by
    rintro neg hopn ks hks rfl
    simp only[VOp.a5g,List.all_cons,List.all_nil,Bool.and_true,Bool.and_eq_true]at hok
    obtain⟨r1,r2⟩:=a0u (a:=a) hI hE hx hok.1
    obtain⟨s1,s2⟩:=a0u (a:=a) hI hE hy hok.2
    simp only[a0q]at h
    split at h
    ·rename_i A B hA hB
     split at h
     ·rename_i hk
      simp only[Option.some.injEq,Prod.mk.injEq]at h
      obtain⟨rfl,rfl⟩:=h
      subst hopn
      exact h0q hI hop hks hk (hA ▸ r1) (hB ▸ s1)
     ·cases h
    ·cases h
   have finb:∀ neg,op=(if neg then .neq else .eql)->P.underlying t=some .bool->vop= .eqb neg vx vy->a0h P cx nb g H w r H' ((execOp a.eval o).run P w):=by
    rintro neg hopn hub rfl
    simp only[VOp.a5g,List.all_cons,List.all_nil,Bool.and_true,Bool.and_eq_true]at hok
    obtain⟨r1,r2⟩:=a0u (a:=a) hI hE hx hok.1
    obtain⟨s1,s2⟩:=a0u (a:=a) hI hE hy hok.2
    simp only[a0q]at h
    split at h
    ·rename_i A B hA hB
     simp only[Option.some.injEq,Prod.mk.injEq]at h
     obtain⟨rfl,rfl⟩:=h
     subst hopn
     exact g8c hI hop hub (hA ▸ r1) (hB ▸ s1)
    ·cases h
   have finn:vop= .bin op vx vy->a0h P cx nb g H w r H' ((execOp a.eval o).run P w):=by
    rintro rfl
    simp only[VOp.a5g,List.all_cons,List.all_nil,Bool.and_true,Bool.and_eq_true]at hok
    obtain⟨r1,r2⟩:=a0u (a:=a) hI hE hx hok.1
    obtain⟨s1,s2⟩:=a0u (a:=a) hI hE hy hok.2
    simp only[a0q]at h
    obtain⟨q,hq,he⟩:=Option.map_eq_some_iff.1 h
    simp only[Prod.mk.injEq]at he
    obtain⟨rfl,rfl⟩:=he
    exact h3o hI hop hq r1 s1
   have fini:∀ {ms} (neg:Bool),op=(if neg then .neq else .eql)->y= .const .nilIface->P.underlying t=some (.interface ms)->vop= .isnil neg vx->a0h P cx nb g H w r H' ((execOp a.eval o).run P w):=by
    rintro ms neg rfl rfl hui rfl
    simp only[VOp.a5g,List.all_cons,List.all_nil,Bool.and_true]at hok
    have r1:=(a0u (a:=a) hI hE hx hok).1
    simp only[a0q]at h
    split at h
    ·rename_i b hA
     simp only[Option.some.injEq,Prod.mk.injEq]at h
     obtain⟨rfl,rfl⟩:=h
     exact f5e hI hop hui (hA ▸ r1)
    ·cases h
   split at ht
   ·exact finn (Option.some.inj ht).symm
   ·exact finn (Option.some.inj ht).symm
   ·rename_i hub
    split at ht
    ·exact finb false rfl hub (Option.some.inj ht).symm
    ·exact finb true rfl hub (Option.some.inj ht).symm
    ·cases ht
   ·split at ht
    ·obtain⟨ks,hks,he⟩:=Option.map_eq_some_iff.1 ht;exact fin false rfl ks hks he.symm
    ·obtain⟨ks,hks,he⟩:=Option.map_eq_some_iff.1 ht;exact fin true rfl ks hks he.symm
    ·cases ht
   ·rename_i ms hui
    split at ht
    ·exact fini false rfl rfl hui (Option.some.inj ht).symm
    ·exact fini true rfl rfl hui (Option.some.inj ht).symm
    ·cases ht
   ·cases ht
  ·cases ht
 ·
  rename_i op t x hop
  obtain⟨vx,hx,rfl⟩:=Option.map_eq_some_iff.1 ht
  simp only[VOp.a5g,List.all_cons,List.all_nil,Bool.and_true]at hok
  simp only[a0q]at h
  obtain⟨q,hq,he⟩:=Option.map_eq_some_iff.1 h
  simp only[Prod.mk.injEq]at he
  obtain⟨rfl,rfl⟩:=he
  exact h8i hI hop hq (a0u (a:=a) hI hE hx hok).1
 ·
  rename_i s t x hop
  split at ht
  ·rename_i k0 k vx hs hd hx
   simp only[Option.some.injEq]at ht
   subst ht
   simp only[VOp.a5g,List.all_cons,List.all_nil,Bool.and_true]at hok
   have r1:=(a0u (a:=a) hI hE hx hok).1
   simp only[a0q]at h
   split at h
   ·rename_i k' n hv
    simp only[Option.some.injEq,Prod.mk.injEq]at h
    obtain⟨rfl,rfl⟩:=h
    exact g1f hI hop hs hd (hv ▸ r1)
   ·cases h
  ·rename_i vx hs hd hx
   simp only[Option.some.injEq]at ht
   subst ht
   simp only[VOp.a5g,List.all_cons,List.all_nil,Bool.and_true]at hok
   have r1:=(a0u (a:=a) hI hE hx hok).1
   simp only[a0q]at h
   split at h
   ·rename_i l hv
    simp only[Option.some.injEq,Prod.mk.injEq]at h
    obtain⟨rfl,rfl⟩:=h
    exact f3g hI hop hs hd (hv ▸ r1)
   ·cases h
  ·rename_i el vx hs hx
   split at ht
   ·rename_i hst
    subst hst
    split at ht
    ·rename_i hc
     simp only[Option.some.injEq]at ht
     subst ht
     simp only[VOp.a5g,List.all_cons,List.all_nil,Bool.and_true]at hok
     obtain⟨r1,r2⟩:=a0u (a:=a) hI hE hx hok
     simp only[a0q]at h
     split at h
     ·rename_i id off len hv
      split at h
      ·rename_i c hH
       simp only[Option.some.injEq,Prod.mk.injEq]at h
       obtain⟨rfl,rfl⟩:=h
       exact g2b hI hop hs hc hH (hv ▸ r1) (hv ▸ r2)
      ·cases h
     ·cases h
    ·cases ht
   ·cases ht
  ·cases ht
 ·
  rename_i f first caps hop
  split at ht
  ·rename_i hf
   obtain⟨vs,hvs,rfl⟩:=Option.map_eq_some_iff.1 ht
   simp only[VOp.a5g]at hok
   simp only[a0q,Option.some.injEq,Prod.mk.injEq]at h
   obtain⟨rfl,rfl⟩:=h
   obtain⟨r1,r2⟩:=b7v (a:=a) hI hE hvs hok
   exact f9y hI hop hf r1 r2
  ·split at ht
   ·rename_i hf
    obtain⟨vs,hvs,rfl⟩:=Option.map_eq_some_iff.1 ht
    simp only[VOp.a5g]at hok
    simp only[a0q,Option.some.injEq,Prod.mk.injEq]at h
    obtain⟨rfl,rfl⟩:=h
    obtain⟨r1,r2⟩:=b7v (a:=a) hI hE hvs hok
    exact g3d hI hop hf r1 r2
   ·cases ht
 ·
  rename_i t l c hop
  split at ht
  ·rename_i e' hu
   split at ht
   ·rename_i i z hi hz
    split at ht
    ·rename_i hlc
     simp only[Option.some.injEq]at ht
     subst ht
     obtain rfl:l=c:=by simpa using hlc
     simp only[VOp.a5g,List.all_cons,List.all_nil,Bool.and_true]at hok
     have r1:=(a0u (a:=a) (x:= .tmp l) hI hE rfl hok).1
     simp only[a0q]at h
     split at h
     ·rename_i k n hv
      split at h
      ·rename_i hcond
       obtain⟨h0,h1,h2,h3⟩:=hcond
       simp only[Option.some.injEq,Prod.mk.injEq]at h
       obtain⟨rfl,rfl⟩:=h
       obtain⟨z0,rfl⟩:=List.length_eq_one_iff.1 h2
       exact g7b hI hnb hop hu hi h3 hz h0 h1 (hv ▸ r1)
      ·cases h
     ·cases h
    ·cases ht
   ·cases ht
  ·cases ht
 ·
  rename_i t x lo hi hop
  split at ht
  ·rename_i vx vlo vhi hx elo ehi
   split at ht
   ·rename_i hu
    simp only[Option.some.injEq]at ht
    subst ht
    simp only[VOp.a5g,List.all_cons,List.all_append,Bool.and_eq_true]at hok
    have r1:=(a0u (a:=a) hI hE hx hok.1).1
    simp only[a0q]at h
    split at h
    ·rename_i s l hv hl
     split at h
     ·rename_i hh' hh
      split at h
      ·rename_i hcond
       simp only[Option.some.injEq,Prod.mk.injEq]at h
       obtain⟨rfl,rfl⟩:=h
       exact g1a hI hop hu (hv ▸ r1) (b2a hI hE elo (fun v hv=>List.all_eq_true.1 hok.2.1 v (by rw[hv];simp)) hl) (b2a hI hE ehi (fun v hv=>List.all_eq_true.1 hok.2.2 v (by rw[hv];simp)) hh) hcond.1 hcond.2
      ·cases h
     ·cases h
    ·cases h
   ·rename_i e' hu
    obtain⟨sz,hsz,rfl⟩:=Option.map_eq_some_iff.1 ht
    simp only[VOp.a5g,List.all_cons,List.all_append,Bool.and_eq_true]at hok
    have r1:=(a0u (a:=a) hI hE hx hok.1).1
    simp only[a0q]at h
    split at h
    ·rename_i s l hv hl
     split at h
     ·rename_i hh' hh
      split at h
      ·rename_i hcond
       simp only[Option.some.injEq,Prod.mk.injEq]at h
       obtain⟨rfl,rfl⟩:=h
       refine h2y hI hop hu hsz hv r1 (b2a hI hE elo (fun v hv=>List.all_eq_true.1 hok.2.1 v (by rw[hv];simp)) hl) (b2a hI hE ehi (fun v hv=>List.all_eq_true.1 hok.2.2 v (by rw[hv];simp)) hh) hcond.1 hcond.2.1 ?_
       rcases Bool.or_eq_true_iff.1 hcond.2.2 with hn|hn
       ·left
        have:vlo=none:=by simpa using hn
        rw[this]at hl
        simp only[a0q.bound,Option.some.injEq]at hl
        exact hl.symm
       ·exact .inr hn
      ·cases h
     ·cases h
    ·cases h
   ·cases ht
  ·cases ht
 ·
  rename_i s x k hop
  split at ht
  ·rename_i fs vx hs hx
   split at ht
   ·rename_i f hf
    split at ht
    ·cases ht
    ·rename_i hne
     split at ht
     ·cases ht
     ·rename_i hsome
      simp only[Option.some.injEq]at ht
      subst ht
      simp only[VOp.a5g,List.all_cons,List.all_nil,Bool.and_true]at hok
      obtain⟨r1,r2⟩:=a0u (a:=a) hI hE hx hok
      obtain⟨n,hn⟩:∃ n,sizeT P f.type=some n:=by
       cases hq:sizeT P f.type with
       |none=>rw[hq]at hsome;simp at hsome
       |some n=>exact⟨n,rfl⟩
      have hn0:n≠0:=by rintro rfl;exact hne hn
      simp only[a0q]at h
      split at h
      ·rename_i id off hv
       simp only[Option.some.injEq,Prod.mk.injEq]at h
       obtain⟨rfl,rfl⟩:=h
       rw[hv]at r1 r2
       exact f1h hI hop hs hf hn hn0 (.inl ⟨_,_,rfl,rfl⟩) r1 r2
      ·rename_i l off hv
       simp only[Option.some.injEq,Prod.mk.injEq]at h
       obtain⟨rfl,rfl⟩:=h
       rw[hv]at r1 r2
       exact f1h hI hop hs hf hn hn0 (.inr ⟨_,_,rfl,rfl⟩) r1 r2
      ·cases h
   ·cases ht
  ·cases ht
 ·
  rename_i t x k hop
  split at ht
  ·rename_i fs vx hs hx
   split at ht
   ·rename_i f hf
    obtain⟨n,hn,rfl⟩:=Option.map_eq_some_iff.1 ht
    simp only[VOp.a5g,List.all_cons,List.all_nil,Bool.and_true]at hok
    obtain⟨r1,r2⟩:=a0u (a:=a) hI hE hx hok
    simp only[a0q]at h
    split at h
    ·rename_i c hv
     obtain⟨q,hq,he⟩:=Option.map_eq_some_iff.1 h
     simp only[Prod.mk.injEq]at he
     obtain⟨rfl,rfl⟩:=he
     rw[hv]at r1 r2
     exact f9c hI hop hs hf hn (.inr ⟨c,rfl,rfl⟩) hq r1 r2
    ·rename_i c hv
     obtain⟨q,hq,he⟩:=Option.map_eq_some_iff.1 h
     simp only[Prod.mk.injEq]at he
     obtain⟨rfl,rfl⟩:=he
     rw[hv]at r1 r2
     exact f9c hI hop hs hf hn (.inl rfl) hq r1 r2
    ·cases h
   ·cases ht
  ·cases ht
 ·
  rename_i t x i hop
  split at ht
  ·rename_i e' vx vi hu hx hi
   obtain⟨sz,hsz,rfl⟩:=Option.map_eq_some_iff.1 ht
   simp only[VOp.a5g,List.all_cons,List.all_nil,Bool.and_true,Bool.and_eq_true]at hok
   obtain⟨r1,r2⟩:=a0u (a:=a) hI hE hx hok.1
   obtain⟨s1,s2⟩:=a0u (a:=a) hI hE hi hok.2
   simp only[a0q]at h
   split at h
   ·cases h
   ·rename_i n hn
    split at h
    ·rename_i id off len hv
     split at h
     ·rename_i hlt
      simp only[Option.some.injEq,Prod.mk.injEq]at h
      obtain⟨rfl,rfl⟩:=h
      rw[hv]at r1 r2
      exact d5x hI hop hu hsz hn s1 hlt r1 r2
     ·cases h
    ·split at h
     ·rename_i l hl
      split at h
      ·rename_i y hy
       split at h
       ·rename_i hc
        simp only[Option.some.injEq,Prod.mk.injEq]at h
        obtain⟨rfl,rfl⟩:=h
        exact e3w hI hop hu hsz hn s1 hl hy hc r1
       ·cases h
      ·cases h
     ·cases h
  ·rename_i len e' vx vi hu hx hi
   obtain⟨sz,hsz,rfl⟩:=Option.map_eq_some_iff.1 ht
   simp only[VOp.a5g,List.all_cons,List.all_nil,Bool.and_true,Bool.and_eq_true]at hok
   obtain⟨r1,r2⟩:=a0u (a:=a) hI hE hx hok.1
   obtain⟨s1,s2⟩:=a0u (a:=a) hI hE hi hok.2
   simp only[a0q]at h
   split at h
   ·cases h
   ·rename_i n hn
    split at h
    ·rename_i hlt
     split at h
     ·rename_i id off hv
      simp only[Option.some.injEq,Prod.mk.injEq]at h
      obtain⟨rfl,rfl⟩:=h
      rw[hv]at r1 r2
      exact e1f hI hop hu hsz hn s1 hlt (.inl ⟨_,_,rfl,rfl⟩) r1 r2
     ·rename_i l off hv
      simp only[Option.some.injEq,Prod.mk.injEq]at h
      obtain⟨rfl,rfl⟩:=h
      rw[hv]at r1 r2
      exact e1f hI hop hu hsz hn s1 hlt (.inr ⟨_,_,rfl,rfl⟩) r1 r2
     ·cases h
    ·cases h
  ·cases ht
 ·
  rename_i t x i hop
  split at ht
  ·rename_i vx vi hu hx hi
   simp only[Option.some.injEq]at ht
   subst ht
   simp only[VOp.a5g,List.all_cons,List.all_nil,Bool.and_true,Bool.and_eq_true]at hok
   obtain⟨r1,r2⟩:=a0u (a:=a) hI hE hx hok.1
   obtain⟨s1,s2⟩:=a0u (a:=a) hI hE hi hok.2
   simp only[a0q]at h
   split at h
   ·rename_i n s hn hv
    obtain⟨q,hq,he⟩:=Option.map_eq_some_iff.1 h
    simp only[Prod.mk.injEq]at he
    obtain⟨rfl,rfl⟩:=he
    exact h2l hI hop hu hn s1 hq (hv ▸ r1)
   ·cases h
  ·cases ht
 ·
  rename_i x i hop
  obtain⟨vx,hx,rfl⟩:=Option.map_eq_some_iff.1 ht
  simp only[VOp.a5g,List.all_cons,List.all_nil,Bool.and_true]at hok
  obtain⟨r1,r2⟩:=a0u (a:=a) hI hE hx hok
  simp only[a0q]at h
  split at h
  ·rename_i l hv
   obtain⟨q,hq,he⟩:=Option.map_eq_some_iff.1 h
   simp only[Prod.mk.injEq]at he
   obtain⟨rfl,rfl⟩:=he
   rw[hv]at r1 r2
   exact h2j hI hop hq r1 r2
  ·cases h
 ·
  rename_i t hop
  simp only[Option.some.injEq]at ht
  subst ht
  simp only[a0q,Option.some.injEq,Prod.mk.injEq]at h
  obtain⟨rfl,rfl⟩:=h
  exact g6t hI hnb hop
 ·
  rename_i t m k x hop
  split at ht
  ·rename_i kt et vm vk vx hu hm hk hx
   obtain⟨kk,hkk,rfl⟩:=Option.map_eq_some_iff.1 ht
   simp only[VOp.a5g,List.all_cons,List.all_nil,Bool.and_true,Bool.and_eq_true]at hok
   obtain⟨m1,_⟩:=a0u (a:=a) hI hE hm hok.1
   obtain⟨k1,_⟩:=a0u (a:=a) hI hE hk hok.2.1
   obtain⟨x1,_⟩:=a0u (a:=a) hI hE hx hok.2.2
   simp only[a0q]at h
   split at h
   ·rename_i id kd xd em ek ex
    split at h
    ·rename_i l hl
     split at h
     ·rename_i hc
      simp only[Bool.and_eq_true]at hc
      simp only[Option.some.injEq,Prod.mk.injEq]at h
      obtain⟨rfl,rfl⟩:=h
      exact e5n hI (.inl hop) hu hkk hl hc.1 hc.2 (em ▸ m1) (ek ▸ k1) (c4x hI ex x1)
     ·cases h
    ·cases h
   ·cases h
  ·cases ht
 ·
  rename_i t m k x hop
  split at ht
  ·rename_i kt et vm vk vx hu hm hk hx
   obtain⟨kk,hkk,rfl⟩:=Option.map_eq_some_iff.1 ht
   simp only[VOp.a5g,List.all_cons,List.all_nil,Bool.and_true,Bool.and_eq_true]at hok
   obtain⟨m1,_⟩:=a0u (a:=a) hI hE hm hok.1
   obtain⟨k1,_⟩:=a0u (a:=a) hI hE hk hok.2.1
   obtain⟨x1,_⟩:=a0u (a:=a) hI hE hx hok.2.2
   simp only[a0q]at h
   split at h
   ·rename_i id kd xd em ek ex
    split at h
    ·rename_i l hl
     split at h
     ·rename_i hc
      simp only[Bool.and_eq_true]at hc
      simp only[Option.some.injEq,Prod.mk.injEq]at h
      obtain⟨rfl,rfl⟩:=h
      exact e5n hI (.inr hop) hu hkk hl hc.1 hc.2 (em ▸ m1) (ek ▸ k1) (c4x hI ex x1)
     ·cases h
    ·cases h
   ·cases h
  ·cases ht
 ·
  rename_i t m k ok hop
  split at ht
  ·rename_i kt et vm vk hu hm hk
   split at ht
   ·rename_i kk z hkk hz
    simp only[Option.some.injEq]at ht
    subst ht
    simp only[VOp.a5g,List.all_cons,List.all_nil,Bool.and_true,Bool.and_eq_true]at hok
    obtain⟨m1,_⟩:=a0u (a:=a) hI hE hm hok.1
    obtain⟨k1,_⟩:=a0u (a:=a) hI hE hk hok.2
    simp only[a0q]at h
    split at h
    ·rename_i id kd em ek
     split at h
     ·rename_i l hl
      split at h
      ·rename_i hc
       simp only[Bool.and_eq_true]at hc
       simp only[Option.some.injEq,Prod.mk.injEq]at h
       obtain⟨rfl,rfl⟩:=h
       exact g0q hI hop hu hkk hz hl hc.1 hc.2 (em ▸ m1) (ek ▸ k1)
      ·cases h
     ·cases h
    ·cases h
   ·cases ht
  ·cases ht
 ·
  rename_i t m k hop
  split at ht
  ·rename_i kt et vm vk hu hm hk
   split at ht
   ·rename_i kk z hkk hz
    simp only[Option.some.injEq]at ht
    subst ht
    simp only[VOp.a5g,List.all_cons,List.all_nil,Bool.and_true,Bool.and_eq_true]at hok
    obtain⟨m1,_⟩:=a0u (a:=a) hI hE hm hok.1
    obtain⟨k1,_⟩:=a0u (a:=a) hI hE hk hok.2
    simp only[a0q]at h
    split at h
    ·rename_i id kd em ek
     split at h
     ·rename_i l hl
      split at h
      ·rename_i hc
       simp only[Bool.and_eq_true]at hc
       exact g0k hI hop hu hkk hz hl hc.1 hc.2 (em ▸ m1) (ek ▸ k1) h
      ·cases h
     ·cases h
    ·cases h
   ·cases ht
  ·cases ht
 ·
  rename_i t m s x hop
  split at ht
  ·rename_i vm vs vx hm hs hx
   simp only[Option.some.injEq]at ht
   subst ht
   simp only[VOp.a5g,List.all_cons,List.all_nil,Bool.and_true,Bool.and_eq_true]at hok
   obtain⟨m1,_⟩:=a0u (a:=a) hI hE hm hok.1
   obtain⟨s1,_⟩:=a0u (a:=a) hI hE hs hok.2.1
   obtain⟨x1,_⟩:=a0u (a:=a) hI hE hx hok.2.2
   simp only[a0q]at h
   split at h
   ·rename_i id ik n xd em es ex
    split at h
    ·rename_i l hl
     split at h
     ·rename_i hc
      simp only[Option.some.injEq,Prod.mk.injEq]at h
      obtain⟨rfl,rfl⟩:=h
      exact g2z hI hop hl hc (em ▸ m1) (es ▸ s1) (c4x hI ex x1)
     ·cases h
    ·cases h
   ·cases h
  ·cases ht
 ·
  rename_i c hop
  obtain⟨callee,ar,at'⟩:=c
  simp only at ht
  split at ht
  ·rename_i f
   obtain⟨vs,hvs,rfl⟩:=Option.map_eq_some_iff.1 ht
   simp only[VOp.a5g]at hok
   simp only[a0q]at h
   obtain⟨r1,r2⟩:=b7v (a:=a) hI hE hvs hok
   have r1':=a5c hI r1
   have r2':=b3n (H:=H) r2
   simp only[List.map_map,Function.comp_def]at r1' r2'
   exact f9o hS hI hnb hop h r1' r2'
  ·rename_i t
   obtain⟨vs,hvs,rfl⟩:=Option.map_eq_some_iff.1 ht
   simp only[VOp.a5g,List.all_cons,Bool.and_eq_true]at hok
   obtain⟨f1,f2⟩:=a0u (a:=a) (x:= .tmp t) hI hE rfl hok.1
   obtain⟨r1,r2⟩:=b7v (a:=a) hI hE hvs hok.2
   have r1':=a5c hI r1
   have r2':=b3n (H:=H) r2
   simp only[List.map_map,Function.comp_def]at r1' r2'
   simp only[a0q]at h
   split at h
   ·rename_i f c hv
    rw[hv]at f1 f2
    exact f6g hS hI hnb hop f1 f2 h r1' r2'
   ·rename_i f c hv
    rw[hv]at f1 f2
    exact f3f hS hI hnb hop f1 f2 h r1' r2'
   ·cases h
  ·split at ht
   ·rename_i x t har hat
    split at ht
    ·rename_i hu
     obtain⟨vx,hx,rfl⟩:=Option.map_eq_some_iff.1 ht
     simp only[VOp.a5g,List.all_cons,List.all_nil,Bool.and_true]at hok
     obtain⟨r1,r2⟩:=a0u (a:=a) hI hE hx hok
     simp only[a0q]at h
     split at h
     ·rename_i s hb hv
      simp only[Option.some.injEq,Prod.mk.injEq]at h
      obtain⟨rfl,rfl⟩:=h
      exact e2q hI hop har hat hu (hv ▸ r1)
     ·rename_i hb;cases hb
     ·cases h
    ·rename_i e' hu
     obtain⟨vx,hx,rfl⟩:=Option.map_eq_some_iff.1 ht
     simp only[VOp.a5g,List.all_cons,List.all_nil,Bool.and_true]at hok
     obtain⟨r1,r2⟩:=a0u (a:=a) hI hE hx hok
     simp only[a0q]at h
     obtain⟨q,hq,he⟩:=Option.map_eq_some_iff.1 h
     simp only[Prod.mk.injEq]at he
     obtain⟨rfl,rfl⟩:=he
     exact f1d hI hop har hat hu hq r1
    ·cases ht
   ·cases ht
  ·split at ht
   ·rename_i x y t u har hat
    split at ht
    ·rename_i e' e2 vx vy hu hu2 hx hy
     split at ht
     ·rename_i i hi
      split at ht
      ·rename_i hc
       simp only[Option.some.injEq]at ht
       subst ht
       obtain⟨hz,rfl⟩:=hc
       simp only[VOp.a5g,List.all_cons,List.all_nil,Bool.and_true,Bool.and_eq_true]at hok
       obtain⟨r1,r2⟩:=a0u (a:=a) hI hE hx hok.1
       obtain⟨s1,s2⟩:=a0u (a:=a) hI hE hy hok.2
       simp only[a0q]at h
       split at h
       ·cases h
       ·rename_i ys hys
        split at h
        ·rename_i hcond
         refine h0x hI hnb hop har hat hu hi hz hys hcond.1 hcond.2 r1 s1 r2 ?_
         split at h
         ·rename_i hv
          left
          refine⟨.inr hv,?_⟩
          split at h
          ·rename_i hy0
           simp only[Option.some.injEq,Prod.mk.injEq]at h
           exact .inl ⟨hy0,by rw[hv];exact h.1.symm,h.2.symm⟩
          ·rename_i hy0
           split at h
           ·rename_i hroom
            simp only[Option.some.injEq,Prod.mk.injEq]at h
            exact .inr ⟨hy0,hroom,h.1.symm,h.2.symm⟩
           ·cases h
         ·rename_i hv
          left
          refine⟨.inl hv,?_⟩
          split at h
          ·rename_i hy0
           simp only[Option.some.injEq,Prod.mk.injEq]at h
           exact .inl ⟨hy0,by rw[hv];exact h.1.symm,h.2.symm⟩
          ·rename_i hy0
           split at h
           ·rename_i hroom
            simp only[Option.some.injEq,Prod.mk.injEq]at h
            exact .inr ⟨hy0,hroom,h.1.symm,h.2.symm⟩
           ·cases h
         ·rename_i id len hv
          right
          split at h
          ·rename_i sz' l hl
           split at h
           ·rename_i hc2
            obtain⟨rfl,h2,h3⟩:=hc2
            simp only[Option.some.injEq,Prod.mk.injEq]at h
            exact⟨id,len,l,hv,hl,h2,h3,h.1.symm,h.2.symm⟩
           ·cases h
          ·cases h
         ·cases h
        ·cases h
      ·cases ht
     ·cases ht
    ·cases ht
   ·cases ht
  ·split at ht
   ·rename_i x y har
    split at ht
    ·rename_i vx vy hx hy
     simp only[Option.some.injEq]at ht
     subst ht
     simp only[VOp.a5g,List.all_cons,List.all_nil,Bool.and_true,Bool.and_eq_true]at hok
     obtain⟨r1,r2⟩:=a0u (a:=a) hI hE hx hok.1
     obtain⟨s1,s2⟩:=a0u (a:=a) hI hE hy hok.2
     simp only[a0q]at h
     split at h
     ·rename_i k p k' q hp hq
      split at h
      ·rename_i hk
       subst hk
       simp only[Option.some.injEq,Prod.mk.injEq]at h
       obtain⟨rfl,rfl⟩:=h
       exact h1o (mx:=true) hI hop har (hp ▸ r1) (hq ▸ s1)
      ·cases h
     ·cases h
    ·cases ht
   ·cases ht
  ·split at ht
   ·rename_i x y har
    split at ht
    ·rename_i vx vy hx hy
     simp only[Option.some.injEq]at ht
     subst ht
     simp only[VOp.a5g,List.all_cons,List.all_nil,Bool.and_true,Bool.and_eq_true]at hok
     obtain⟨r1,r2⟩:=a0u (a:=a) hI hE hx hok.1
     obtain⟨s1,s2⟩:=a0u (a:=a) hI hE hy hok.2
     simp only[a0q]at h
     split at h
     ·rename_i k p k' q hp hq
      split at h
      ·rename_i hk
       subst hk
       simp only[Option.some.injEq,Prod.mk.injEq]at h
       obtain⟨rfl,rfl⟩:=h
       exact h1o (mx:=false) hI hop har (hp ▸ r1) (hq ▸ s1)
      ·cases h
     ·cases h
    ·cases ht
   ·cases ht
  ·cases ht
 ·cases ht
theorem f6s {orc:Orc} (hS:b5s P cx orc) (hI:Inv cx g H w) {N:Nat} {e:Env} (hE:a8g g H N e a.tmps) (hnb:nb<=H.length) {vop:VOp} (ht:g4a P o.op=some vop) (hok:vop.a5g.all (Opd.lt N)=true) {r:V} {H':Hp} (h:a0q cx orc nb e H vop=some (r,H')):
 a0h P cx nb g H w r H' ((execOp a.eval o).run P w):=by
 unfold g4a at ht
 cases h0:b2i P o.op with
 |none=>
  rw[h0]at ht
  simp only[Option.getD_none,Option.some.injEq]at ht
  subst ht
  cases h
 |some v=>
  rw[h0]at ht
  simp only[Option.getD_some,Option.some.injEq]at ht
  subst ht
  exact e5r hS hI hE hnb h0 hok h
theorem d1j {o:Op} {sz len:Nat} {vs:List Opd} (h:b2i P o=some (.bslice sz len vs)):
 ∃ t ps el,o= .buildSlice t len ps/\P.underlying t=some (.slice el)/\sizeT P el=some sz/\b1q (ps.toList.map (·.2))=some vs/\b0u 0 ps.toList=true/\(zeroCells P el).isSome=true:=by
 unfold b2i at h
 split at h
 case h_7 t len ps=>
  split at h
  ·rename_i el hu
   split at h
   ·rename_i sz' vs' hsz hvs
    split at h
    ·rename_i hc
     simp only[Bool.and_eq_true,beq_iff_eq]at hc
     split at h
     ·split at h<;>cases h
     ·split at h
      ·cases h
      ·cases h
       exact⟨_,_,el,rfl,hu,hsz,hvs,hc.1.1,hc.2⟩
    ·cases h
   ·cases h
  ·cases h
 all_goals(exfalso;repeat' split at h)
 all_goals simp_all
def g2k (P:Program) (o:Op) (v:VOp):Prop:=∃ v0,g4a P o=some v0/\(v=v0\/∃ sz len ps,v0= .bslice sz len ps/\v= .blit sz len ps)
theorem f5z {P:Program} {o:Op} {b:Bool} {v:VOp} (h:(g4a P o).map (g9d b)=some v):g2k P o v:=by
 obtain⟨v0,h0,rfl⟩:=Option.map_eq_some_iff.1 h
 refine⟨v0,h0,?_⟩
 unfold g9d
 split
 ·exact .inr ⟨_,_,_,rfl,rfl⟩
 ·exact .inl rfl
theorem e9f {orc:Orc} (hS:b5s P cx orc) (hI:Inv cx g H w) {N:Nat} {e:Env} (hE:a8g g H N e a.tmps) (hnb:nb<=H.length) {vop:VOp} (ht:g2k P o.op vop) (hok:vop.a5g.all (Opd.lt N)=true) {r:V} {H':Hp} (h:a0q cx orc nb e H vop=some (r,H')):
 a0h P cx nb g H w r H' ((execOp a.eval o).run P w):=by
 obtain⟨v0,h0,rfl|⟨sz,len,ps,rfl,rfl⟩⟩:=ht
 ·exact f6s hS hI hE hnb h0 hok h
 ·unfold g4a at h0
  cases h1:b2i P o.op with
  |none=>rw[h1]at h0;simp at h0
  |some v=>
   rw[h1]at h0
   simp only[Option.getD_some,Option.some.injEq]at h0
   subst h0
   obtain⟨t,qs,el,hop,hu,hsz,hvs,hord,hz⟩:=d1j h1
   simp only[VOp.a5g]at hok
   simp only[a0q]at h
   split at h
   ·rename_i ds hds
    split at h
    ·rename_i hcond
     simp only[Option.some.injEq,Prod.mk.injEq]at h
     obtain⟨rfl,rfl⟩:=h
     exact g2s hI hnb hE hop hu hsz hvs hord hz hok hds hcond.1 hcond.2.1 hcond.2.2.1 hcond.2.2.2
    ·cases h
   ·cases h
end
end Go.Vm
namespace Go.Vm
section
variable {dl:List Deferred} {P:Program} {cx:Cx} {g:Gh} {w:World}
structure a0x (dl:List Deferred) (cx:Cx) (N:Nat) (g:Gh) (s:St) (a:Act) (w:World):Prop where
 inv:Inv cx g s.h w
 env:a8g g s.h N s.e a.tmps
 defers:a.defers=dl
 base:s.b<=s.h.length
abbrev c2r:=a0x []
theorem c9t (a:Act) (d:Option Nat) (x:Value):(a.put d x).tmps=g3x d x a.tmps:=by cases d<;>rfl
theorem put_defers (a:Act) (d:Option Nat) (x:Value):(a.put d x).defers=a.defers:=by cases d<;>rfl
theorem a0x.put {N:Nat} {s:St} {a:Act} {d:Option Nat} {v:V} {x:Value} {h':Hp} {g':Gh} {w':World} (ok:a0x dl cx N g s a w) (hd:∀ k,d=some k->k < N) (hI:Inv cx g' h' w') (hr:Rep g' h' v x) (hu:v.und h'.length=true) (he:Ext s.b g s.h w g' h' w'):
 a0x dl cx N g' ⟨a7y d v s.e,h',s.b⟩ (a.put d x) w':=
 ⟨hI,by rw[c9t];exact(ok.env.ext he).put hd hr hu,by rw[put_defers];exact ok.defers,Nat.le_trans ok.base he.len⟩
theorem a0x.put' {N:Nat} {s:St} {a:Act} {d d':Option Nat} {v:V} {x:Value} {h':Hp} {g':Gh} {w':World} (hdd:d'=d) (ok:a0x dl cx N g s a w) (hd:∀ k,d=some k->k < N) (hI:Inv cx g' h' w') (hr:Rep g' h' v x) (hu:v.und h'.length=true) (he:Ext s.b g s.h w g' h' w'):
 a0x dl cx N g' ⟨a7y d v s.e,h',s.b⟩ (a.put d' x) w':=by
 subst hdd
 exact ok.put hd hI hr hu he
theorem b4r {ops:Array Oper} {co:Oper} {o:a0b} (h:b8v P ops co=some o):g2k P co.op o.op/\o.dst=co.dst/\((co.guard=none/\o.guard=none)\/∃ j b s,co.guard=some (j,b)/\(ops[j]?).bind (·.dst)=some s/\o.guard=some (s,b)):=by
 unfold b8v at h
 split at h
 ·cases h
 ·rename_i v hv
  replace hv:=f5z hv
  split at h
  ·rename_i hg
   simp only[Option.some.injEq]at h
   subst h
   exact⟨hv,rfl,.inl ⟨hg,rfl⟩⟩
  ·rename_i j b hg
   split at h
   ·rename_i s hs
    simp only[Option.some.injEq]at h
    subst h
    exact⟨hv,rfl,.inr ⟨j,b,s,hg,hs,rfl⟩⟩
   ·cases h
theorem b8m {N:Nat} {o:a0b} (h:o.okN N=true):(∀ k,o.dst=some k->k < N)/\o.op.a5g.all (Opd.lt N)=true/\∀ s b,o.guard=some (s,b)->s < N:=by
 unfold a0b.okN at h
 simp only[Bool.and_eq_true]at h
 obtain⟨⟨h1,h2⟩,h3⟩:=h
 refine⟨fun k hk=>?_,h2,fun s b hs=>?_⟩
 ·rw[hk]at h1;simpa using h1
 ·rw[hs]at h3;simpa using h3
theorem e4n {ops:Array Oper} {t:Array Value} {j s N:Nat} (hs:(ops[j]?).bind (·.dst)=some s) (hN:t.size=N) (hlt:s < N):yielded ops t j=match t.getD s Go.undef with| .bool b=>some b|_=>none:=by
  unfold yielded
  rw[hs]
  have:t[s]? =some (t.getD s Go.undef):=by
   simp[Array.getD,hN,hlt]
  simp only[Option.bind_some,this]
  generalize t.getD s Go.undef=v
  cases v<;>rfl
theorem a3d {orc:Orc} (hS:b5s P cx orc) {N:Nat} {ops:Array Oper} {i:Nat} {co:Oper} (hi:ops[i]? =some co) {o:a0b} (ht:b8v P ops co=some o) (hok:o.okN N=true) {s s':St} (h:a0f cx orc o s=some s') {a:Act} (ok:a0x dl cx N g s a w)
 {Q:Exit->Act->World->Prop} {K:Act->World->Prop} (hk:∀ g' x w',a0x dl cx N g' s' (a.put co.dst x) w'->Ext s.b g s.h w g' s'.h w'->K (a.put co.dst x) w'):wpOp P ops Q i K a w:=by
 obtain⟨h1,h2,h3⟩:=b4r ht
 obtain⟨k1,k2,k3⟩:=b8m hok
 have run:∀ r:V×Hp,a0q cx orc s.b s.e s.h o.op=some r->s'=⟨a7y o.dst r.1 s.e,r.2,s.b⟩->co.wp P a w K Q:=by
  rintro⟨r,h'⟩ hr rfl
  refine(e9f hS ok.inv ok.env ok.base h1 k2 hr).wp fun g' x w' i1 i2 i3 i4=>?_
  exact hk g' x w' (ok.put' h2.symm k1 i1 i2 i3 i4) i4
 have skip:s'=⟨a7y o.dst (.tup []) s.e,s.h,s.b⟩->K (a.put co.dst Go.undef) w:=by
  rintro rfl
  exact hk g Go.undef w (ok.put' (v:= .tup []) (x:=Go.undef) h2.symm k1 ok.inv (by simp[Rep,a0t,Go.undef]) (by simp[V.und,a0w]) (Ext.refl ..)) (Ext.refl ..)
 unfold wpOp
 simp only[hi]
 unfold a0f at h
 rcases h3 with⟨g1,g2⟩|⟨j,b,sl,g1,g2,g3⟩
 ·simp only[g2,lay]at h
  obtain⟨r,hr,rfl⟩:=Option.map_eq_some_iff.1 h
  rw[if_pos (by simp[Region.wanted,g1])]
  exact .inl (run r hr rfl)
 ·simp only[g3]at h
  have hlt:=k3 sl b g3
  have hy:=e4n (t:=a.tmps) g2 ok.env.1 hlt
  obtain⟨e1,_⟩:=ok.env.2 sl hlt
  unfold grd at h
  split at h
  ·rename_i t hv
   rw[hv]at e1
   have hb:=a8f e1
   rw[hb]at hy
   split at h
   ·rename_i htb
    subst htb
    obtain⟨r,hr,rfl⟩:=Option.map_eq_some_iff.1 h
    rw[if_pos (by simp[Region.wanted,g1,hy])]
    exact .inl (run r hr rfl)
   ·rename_i htb
    simp only[Option.some.injEq]at h
    rw[if_neg (by simp[Region.wanted,g1,hy,htb])]
    exact skip h.symm
  ·rename_i hv
   rw[hv]at e1
   simp only[Rep,a0t]at e1
   obtain⟨cs,hx,hcs⟩:=e1
   rw[hx]at hy
   simp only[Option.some.injEq]at h
   rw[if_neg (by simp[Region.wanted,g1,hy])]
   exact skip h.symm
  ·cases h
theorem a8a {orc:Orc} {v:a0b} {s s1:St} (h1:a0f cx orc v s=some s1):s1.b=s.b:=by
 unfold a0f at h1
 split at h1
 ·obtain⟨r,_,rfl⟩:=Option.map_eq_some_iff.1 h1;rfl
 ·unfold grd at h1
  split at h1
  ·split at h1
   ·obtain⟨r,_,rfl⟩:=Option.map_eq_some_iff.1 h1;rfl
   ·simp only[Option.some.injEq]at h1;subst h1;rfl
  ·simp only[Option.some.injEq]at h1;subst h1;rfl
  ·cases h1
theorem d1t {orc:Orc} (hS:b5s P cx orc) {N:Nat} {ops:Array Oper}:∀ (l:List Oper) (i:Nat) (vs:List a0b),ops.toList.drop i=l->a1l P ops l=some vs->vs.all (a0b.okN N)=true->∀ {g:Gh} {w:World} {s s':St},a0s cx orc vs s=some s'->∀ {a:Act},a0x dl cx N g s a w->
 ∀ {Q:Exit->Act->World->Prop},(∀ g' a' w',a0x dl cx N g' s' a' w'->Ext s.b g s.h w g' s'.h w'->Q .normal a' w')->wpOps P ops Q (List.range' i l.length) a w
 |[],i,vs,_,ht,_,g,w,s,s',h,a,ok,Q,hq=>by
  simp only[a1l,Option.some.injEq]at ht
  subst ht
  simp only[a0s,Option.some.injEq]at h
  subst h
  exact hq g a w ok (Ext.refl ..)
 |co::l,i,vs,hl,ht,hok,g,w,s,s',h,a,ok,Q,hq=>by
  simp only[a1l]at ht
  split at ht
  ·rename_i v vs' hv hvs
   simp only[Option.some.injEq]at ht
   subst ht
   simp only[List.all_cons,Bool.and_eq_true]at hok
   simp only[a0s]at h
   cases h1:a0f cx orc v s with
   |none=>rw[h1]at h;cases h
   |some s1=>
    rw[h1]at h
    simp only[Option.bind_some]at h
    have hi:ops[i]? =some co:=by
     have:=congrArg (·[0]?) hl
     simpa using this
    have hl':ops.toList.drop (i+1)=l:=by rw[<-List.drop_drop,hl];rfl
    simp only[List.length_cons,List.range'_succ]
    rw[wpOps_cons]
    refine a3d hS hi hv hok.1 h1 ok fun g' x w' ok' ext'=>?_
    have hb:=a8a h1
    refine d1t hS l (i+1) vs' hl' hvs hok.2 h ok' fun g2 a2 w2 ok2 ext2=>?_
    exact hq g2 a2 w2 ok2 (ext'.trans ext2 om)
  ·cases ht
theorem f1m {orc:Orc} (hS:b5s P cx orc) {N:Nat} {ops:Array Oper} {id:Nat} {vs:List a0b} (ht:a1l P ops ops.toList=some vs) (hok:vs.all (a0b.okN N)=true) {s s':St} (h:a0s cx orc vs s=some s') {a:Act} (ok:a0x dl cx N g s a w)
 {Q:Exit->Act->World->Prop} (hq:∀ g' a' w',a0x dl cx N g' s' a' w'->Ext s.b g s.h w g' s'.h w'->Q .normal a' w'):(Code.region id ops false).wp P Q a w:=by
 apply wp_region
 have:=d1t hS ops.toList 0 vs (by simp) ht hok h ok hq
 simpa [List.range_eq_range'] using this
end
end Go.Vm
namespace Go.Vm
theorem d7k:∀ (ops:List Oper) (acc:List Nat),(a4y.go ops acc).take acc.length=acc
 |[],acc=>by simp[a4y.go]
 |o::r,acc=>by
  rw[a4y.go]
  have:=d7k r (acc++[o.after.toList.foldl (fun s e=>if Region.binds .any e then s|||2 ^ e.on|||acc.getD e.on 0 else s) 0])
  have h2:=congrArg (·.take acc.length) this
  simp only[List.length_append,List.length_cons,List.length_nil,List.take_take]at h2
  rw[Nat.min_eq_left om]at h2
  rw[h2]
  simp
theorem go_get:∀ (ops:List Oper) (acc:List Nat) (i:Nat) (o:Oper),ops[i]? =some o->
 (a4y.go ops acc)[acc.length+i]? =some (o.after.toList.foldl (fun s e=>if Region.binds .any e then s|||2 ^ e.on|||((a4y.go ops acc).take (acc.length+i)).getD e.on 0 else s) 0)
 |[],acc,i,o,h=>by simp at h
 |p::r,acc,0,o,h=>by
  simp only[List.getElem?_cons_zero,Option.some.injEq]at h
  subst h
  simp only[Nat.add_zero]
  rw[d7k]
  rw[a4y.go]
  have:=d7k r (acc++[p.after.toList.foldl (fun s e=>if Region.binds .any e then s|||2 ^ e.on|||acc.getD e.on 0 else s) 0])
  have h2:=congrArg (·[acc.length]?) this
  simpa [List.getElem?_take] using h2
 |p::r,acc,i+1,o,h=>by
  simp only[List.getElem?_cons_succ]at h
  rw[a4y.go]
  have:=go_get r (acc++[p.after.toList.foldl (fun s e=>if Region.binds .any e then s|||2 ^ e.on|||acc.getD e.on 0 else s) 0]) i o h
  simp only[List.length_append,List.length_cons,List.length_nil]at this
  rw[show acc.length+(0+1)+i=acc.length+(i+1)by omega]at this
  exact this
theorem e0e {A:Nat->Nat} {k:Nat}:∀ (l:List Edge) (s:Nat),(l.foldl (fun s e=>if Region.binds .any e then s|||2 ^ e.on|||A e.on else s) s).testBit k=true->s.testBit k=true\/∃ e∈l,Region.binds .any e=true/\(k=e.on\/(A e.on).testBit k=true)
  |[],s,h=> .inl h
  |e::l,s,h=>by
   simp only[List.foldl_cons]at h
   rcases e0e l _ h with h|⟨e',h1,h2⟩
   ·split at h
    ·rename_i hb
     simp only[Nat.testBit_or,Bool.or_eq_true,Nat.testBit_two_pow,decide_eq_true_eq]at h
     rcases h with(h|h)|h
     ·exact .inl h
     ·exact .inr ⟨e,by simp,hb,.inl h.symm⟩
     ·exact .inr ⟨e,by simp,hb,.inr h⟩
    ·exact .inl h
   ·exact .inr ⟨e',by simp[h1],h2⟩
theorem a7z {ops:Array Oper} {L:Nat->Bool} (hback:∀ (i:Nat) (o:Oper),ops[i]? =some o->∀ e∈o.after,Region.binds .any e=true->e.on < i) (hcl:∀ (i:Nat) (o:Oper),ops[i]? =some o->L i=true->∀ e∈o.after,Region.binds .any e=true->L e.on=true):
 ∀ (i:Nat) (o:Oper),ops[i]? =some o->(∀ e∈o.after,Region.binds .any e=true->L e.on=true)->∀ k,((a4y ops.toList).getD i 0).testBit k=true->L k=true:=by
 intro i
 induction i using Nat.strongRecOn with
 |_ i ih=>
  intro o ho hl k hk
  have hg:=go_get ops.toList [] i o (by simpa using ho)
  simp only[List.length_nil,Nat.zero_add]at hg
  rw[List.getD_eq_getElem?_getD,a4y,hg]at hk
  simp only[Option.getD_some]at hk
  rcases e0e (A:=fun j=>(List.take i (a4y.go ops.toList [])).getD j 0) _ _ hk with h|⟨e,he,hb,h⟩
  ·simp at h
  ·have he':e∈o.after:=by simpa using he
   have hlt:=hback i o ho e he' hb
   rcases h with rfl|h
   ·exact hl e he' hb
   ·have hin:=(Array.getElem?_eq_some_iff.1 ho).1
    have hon:ops[e.on]? =some ops[e.on]:=Array.getElem?_eq_getElem om
    refine ih e.on hlt _ hon (hcl e.on _ hon (hl e he' hb)) k ?_
    rw[List.getD_eq_getElem?_getD,List.getElem?_take,if_pos hlt]at h
    rw[List.getD_eq_getElem?_getD]
    exact h
def cnt (L:Nat->Bool):Nat->Nat
 |0=>0
 |n+1=>cnt L n+(if L n then 0 else 1)
theorem d4i {L L':Nat->Bool}:∀ n,(∀ i,i < n->L i=L' i)->cnt L n=cnt L' n
 |0,_=>rfl
 |n+1,h=>by simp only[cnt];rw[d4i n fun i hi=>h i om,h n om]
theorem e5t {L L':Nat->Bool} {i:Nat} (h0:L i=false) (h1:L' i=true) (ho:∀ k,k≠i->L' k=L k):∀ n,i < n->cnt L' n+1=cnt L n
 |0,h=>om
 |n+1,h=>by
  simp only[cnt]
  by_cases hi:i=n
  ·subst hi
   rw[h0,h1,d4i i fun k hk=>ho k om]
   simp
  ·have:=e5t h0 h1 ho n om
   rw[ho n (Ne.symm hi)]
   omega
theorem e0d {L:Nat->Bool}:∀ n,cnt L n=0->∀ i,i < n->L i=true
 |0,_,i,h=>om
 |n+1,h,i,hi=>by
  simp only[cnt]at h
  by_cases hin:i=n
  ·subst hin
   by_cases hl:L i=true
   ·exact hl
   ·rw[if_neg hl]at h;omega
  ·exact e0d n om i om
theorem b0b {L:Nat->Bool}:∀ n,(∀ i,i < n->L i=false)->cnt L n=n
 |0,_=>rfl
 |n+1,h=>by simp only[cnt];rw[b0b n fun i hi=>h i om,h n om];rfl
end Go.Vm
namespace Go.Vm
section congr
variable {cx:Cx} {orc:Orc} {b:Nat} {e e':Env} {H:Hp}
theorem d1e {x:Opd} (h:∀ t∈x.slots,a1k e t=a1k e' t):evO cx e x=evO cx e' x:=by
 cases x with
 |t i=>exact h i (by simp[Opd.slots])
 |_=>rfl
theorem b1w:∀ {l:List Opd},(∀ x∈l,evO cx e x=evO cx e' x)->a0q.toDs' cx e H l=a0q.toDs' cx e' H l
 |[],_=>rfl
 |x::r,h=>by
  simp only[a0q.toDs']
  rw[h x (by simp),b1w (l:=r) fun y hy=>h y (by simp[hy])]
theorem b1u {d:Nat} {x:Option Opd} (h:∀ y∈x.toList,evO cx e y=evO cx e' y):a0q.bound cx e d x=a0q.bound cx e' d x:=by
 cases x with
 |none=>rfl
 |some y=>simp only[a0q.bound];rw[h y (by simp)]
theorem e2v {op:VOp} (h:∀ x∈op.a5g,evO cx e x=evO cx e' x):a0q cx orc b e H op=a0q cx orc b e' H op:=by
 cases op with
 |build z ps=>
  simp only[VOp.a5g,List.mem_map]at h
  have h1:∀ p∈ps,evO cx e p.2.2=evO cx e' p.2.2:=fun p hp=>h _ ⟨p,hp,rfl⟩
  have e1:(ps.all fun p=>(evO cx e p.2.2).cells.all V.one)=ps.all fun p=>(evO cx e' p.2.2).cells.all V.one:=by
    apply Bool.eq_iff_iff.2
    simp only[List.all_eq_true]
    exact⟨fun q p hp=>by have:=q p hp;rwa [h1 p hp]at this,fun q p hp=>by have:=q p hp;rwa [<-h1 p hp]at this⟩
  have e2:(ps.map fun p=>(p.1,p.2.1,evO cx e p.2.2))=ps.map fun p=>(p.1,p.2.1,evO cx e' p.2.2):=List.map_congr_left fun p hp=>by rw[h1 p hp]
  simp only[a0q]
  rw[e1,e2]
 |bslice sz len ps=>
  simp only[a0q]
  rw[b1w (l:=ps) h]
 |abs len ps=>
  simp only[a0q]
  rw[b1w (l:=ps) h]
 |blit sz len ps=>
  simp only[a0q]
  rw[b1w (l:=ps) h]
 |mkfn f caps=>
  simp only[a0q]
  rw[List.map_congr_left (l:=caps) h]
 |mkfm f caps=>
  simp only[a0q]
  rw[List.map_congr_left (l:=caps) h]
 |call f args=>
  simp only[a0q]
  rw[List.map_congr_left fun x hx=>by rw[h x hx]]
 |callv f args=>
  simp only[VOp.a5g]at h
  simp only[a0q]
  rw[h f (by simp)]
  rw[List.map_congr_left (g:=fun x=>toArg H (evO cx e' x)) fun x hx=>by rw[h x (by simp[hx])]]
 |slcs x lo hi=>
  simp only[VOp.a5g]at h
  simp only[a0q]
  rw[h x (by simp),b1u (x:=lo) fun y hy=>h y (by simp[List.mem_append.2 (.inl hy)])]
  have:∀ d,a0q.bound cx e d hi=a0q.bound cx e' d hi:=fun d=>b1u (x:=hi) fun y hy=>h y (by simp[List.mem_append.2 (.inr hy)])
  simp only[this]
 |slc sz x lo hi=>
  simp only[VOp.a5g]at h
  simp only[a0q]
  rw[h x (by simp),b1u (x:=lo) fun y hy=>h y (by simp[List.mem_append.2 (.inl hy)])]
  have:∀ d,a0q.bound cx e d hi=a0q.bound cx e' d hi:=fun d=>b1u (x:=hi) fun y hy=>h y (by simp[List.mem_append.2 (.inr hy)])
  simp only[this]
 |zbox z=>rfl
 |_=>simp only[VOp.a5g,List.mem_cons,List.not_mem_nil,or_false,forall_eq_or_imp,forall_eq]at h;simp only[a0q,h]
theorem e1q {v:a0b} {s s1:St} (h1:a0f cx orc v s=some s1):∃ x,s1.e=a7y v.dst x s.e:=by
 unfold a0f at h1
 split at h1
 ·obtain⟨r,_,rfl⟩:=Option.map_eq_some_iff.1 h1;exact⟨_,rfl⟩
 ·unfold grd at h1
  split at h1
  ·split at h1
   ·obtain⟨r,_,rfl⟩:=Option.map_eq_some_iff.1 h1;exact⟨_,rfl⟩
   ·simp only[Option.some.injEq]at h1;subst h1;exact⟨_,rfl⟩
  ·simp only[Option.some.injEq]at h1;subst h1;exact⟨_,rfl⟩
  ·cases h1
theorem a7c {o:a0b} {s s1:St} (h:∀ t∈o.names,a1k s.e t=a1k e' t) (h1:a0f cx orc o s=some s1):
 ∃ x,s1.e=a7y o.dst x s.e/\a0f cx orc o ⟨e',s.h,s.b⟩=some ⟨a7y o.dst x e',s1.h,s1.b⟩:=by
 have hop:a0q cx orc s.b s.e s.h o.op=a0q cx orc s.b e' s.h o.op:=e2v fun x hx=>d1e fun t ht=>h t (by
   simp only[a0b.names,List.mem_append,List.mem_flatMap]
   exact .inl (.inr ⟨x,hx,ht⟩))
 unfold a0f at h1⊢
 cases hg:o.guard with
 |none=>
  rw[hg]at h1
  simp only at h1⊢
  obtain⟨r,hr,rfl⟩:=Option.map_eq_some_iff.1 h1
  refine⟨r.1,rfl,?_⟩
  rw[<-hop,hr];rfl
 |some gb=>
  obtain⟨gs,b⟩:=gb
  rw[hg]at h1
  simp only at h1⊢
  have e1:=h gs (by simp[a0b.names,hg])
  rw[<-e1,<-hop]
  unfold grd at h1⊢
  split at h1
  ·split at h1
   ·rename_i htb
    obtain⟨r,hr,rfl⟩:=Option.map_eq_some_iff.1 h1
    refine⟨r.1,rfl,?_⟩
    simp only[if_pos htb,hr];rfl
   ·rename_i htb
    simp only[Option.some.injEq]at h1;subst h1
    exact⟨_,rfl,if_neg htb⟩
  ·simp only[Option.some.injEq]at h1;subst h1;exact⟨_,rfl,rfl⟩
  ·cases h1
end congr
theorem a5f (ks:List Nat) (e:Env) (t:Nat):a1k (a2d ks e) t=if t∈ks then a1k e t else .undef:=by
 unfold a2d
 induction ks with
 |nil=>rfl
 |cons k ks ih=>
  simp only[List.map_cons,a1k,ih,List.mem_cons]
  by_cases hk:k=t
  ·subst hk;simp
  ·rw[if_neg hk]
   by_cases ht:t∈ks
   ·simp[ht]
   ·have:¬ (t=k\/t∈ks):=by rintro(h|h);exact hk h.symm;exact ht h
    rw[if_neg ht,if_neg this]
theorem a2j (d:Option Nat) (v:V) (e:Env) (t:Nat):a1k (a7y d v e) t=if d=some t then v else a1k e t:=by
 cases d with
 |none=>simp[a7y]
 |some d=>simp only[a7y,a1k,Option.some.injEq]
def a1r (L:Nat->Bool) (dst:Nat->Option Nat) (val:Nat->V) (e0:Env):Nat->Env
 |0=>e0
 |n+1=>if L n then a7y (dst n) (val n) (a1r L dst val e0 n) else a1r L dst val e0 n
section a1r
variable {L L':Nat->Bool} {dst:Nat->Option Nat} {val:Nat->V} {e0:Env}
theorem a4d (n t:Nat):a1k (a1r L dst val e0 (n+1)) t=if L n=true/\dst n=some t then val n else a1k (a1r L dst val e0 n) t:=by
 simp only[a1r]
 by_cases h:L n=true
 ·rw[if_pos h,a2j]
  simp[h]
 ·rw[if_neg h,if_neg (fun q=>h q.1)]
theorem a2q {t:Nat}:∀ n,(∀ k,k < n->dst k=some t->L k=L' k)->a1k (a1r L dst val e0 n) t=a1k (a1r L' dst val e0 n) t
 |0,_=>rfl
 |n+1,h=>by
  rw[a4d,a4d,a2q n fun k hk=>h k om]
  by_cases hd:dst n=some t
  ·rw[h n om hd]
  ·simp[hd]
theorem a4b {t i:Nat}:∀ d,(∀ k,i<=k->k < i+d->dst k=some t->L k=false)->a1k (a1r L dst val e0 (i+d)) t=a1k (a1r L dst val e0 i) t
 |0,_=>rfl
 |d+1,h=>by
  rw[show i+(d+1)=(i+d)+1 by omega,a4d,a4b d fun k h1 h2=>h k h1 om]
  rw[if_neg]
  rintro⟨h1,h2⟩
  have:=h (i+d) om om h2
  rw[h1]at this;cases this
theorem a5u {τ:Nat->St} {m:Nat} (h0:(τ 0).e=e0) (hs:∀ n,n < m->(τ (n+1)).e=a7y (dst n) (val n) (τ n).e) (hL:∀ n,n < m->L n=true):∀ n,n<=m->a1r L dst val e0 n=(τ n).e
 |0,_=>h0.symm
 |n+1,h=>by simp only[a1r];rw[if_pos (hL n om),a5u h0 hs hL n om,hs n om]
theorem a5d:∀ n,(∀ k,k < n->L k=false)->a1r L dst val e0 n=e0
 |0,_=>rfl
 |n+1,h=>by simp only[a1r];rw[if_neg (by rw[h n om];simp),a5d n fun k hk=>h k om]
end a1r
structure Trace (cx:Cx) (orc:Orc) (m:Nat) (vs:List a0b) (s:St) (τ:Nat->St) (val:Nat->V):Prop where
 zero:τ 0=s
 step:∀ i o,i < m->vs[i]? =some o->a0f cx orc o (τ i)=some (τ (i+1))/\(τ (i+1)).e=a7y o.dst (val i) (τ i).e/\grew (τ i).h (τ (i+1)).h=true/\b7i o.dst (τ (i+1))=true
theorem b1n {cx:Cx} {orc:Orc}:∀ (m:Nat) (vs:List a0b) (s s':St),m<=vs.length->a2c cx orc m vs s=some s'->∃ τ val,Trace cx orc m vs s τ val/\a0s cx orc (vs.drop m) (τ m)=some s'
 |0,vs,s,s',_,h=>⟨fun _=>s,fun _=> .undef,⟨rfl,fun i o hi=>om⟩,by cases vs<;>exact h⟩
 |m+1,[],s,s',hm,h=>by simp at hm
 |m+1,o::r,s,s',hm,h=>by
  simp only[a2c]at h
  cases h1:a0f cx orc o s with
  |none=>rw[h1]at h;cases h
  |some s1=>
   rw[h1]at h
   simp only[Option.bind_some]at h
   split at h
   ·rename_i hg
    simp only[Bool.and_eq_true]at hg
    obtain⟨τ,val,ht,he⟩:=b1n m r s1 s' (by simpa using hm) h
    obtain⟨x,hx⟩:=e1q h1
    refine⟨fun i=>match i with|0=>s|i+1=>τ i,fun i=>match i with|0=>x|i+1=>val i,⟨rfl,fun i p hi hp=>?_⟩,he⟩
    cases i with
    |zero=>
     simp only[List.getElem?_cons_zero,Option.some.injEq]at hp
     subst hp
     show a0f cx orc o s=some (τ 0)/\(τ 0).e=a7y o.dst x s.e/\grew s.h (τ 0).h=true/\b7i o.dst (τ 0)=true
     rw[ht.zero]
     exact⟨h1,hx,hg⟩
    |succ i=>exact ht.step i p om (by simpa using hp)
   ·cases h
end Go.Vm
namespace Go.Vm
section
variable {dl:List Deferred} {P:Program} {cx:Cx} {g:Gh} {w:World} {H:Hp}
theorem c1u (g:Gh) (H l:Hp):c2s H.length g H g (H++l):=
 ⟨fun _=>List.prefix_refl _,fun i o hi ho hr=>⟨fun _ h=>h,o,by rw[List.getElem?_append_left hi];exact ho,hr⟩,fun i sz l' hi ho=>⟨l',by rw[List.getElem?_append_left hi];exact ho,List.prefix_refl _,fun _ _ h=>h⟩⟩
def Gh.cut (g:Gh) (n:Nat):Gh:=⟨fun i=>if i < n then g.J i else none,g.C⟩
theorem a6q {n i:Nat} {p:Nat×Nat} (h:(g.cut n).J i=some p):i < n/\g.J i=some p:=by
 simp only[Gh.cut]at h
 split at h
 ·exact⟨by assumption,h⟩
 ·cases h
theorem d2r {n i:Nat} (h:i < n):(g.cut n).J i=g.J i:=if_pos h
theorem a5o (g:Gh) (H:Hp) (n:Nat):c2s n g H (g.cut n) (H.take n):=by
 refine⟨fun _=>List.prefix_refl _,fun i o hi ho hr=>⟨fun p h=>by rw[d2r hi];exact h,o,?_,hr⟩,fun i sz l hi ho=>⟨l,?_,List.prefix_refl _,fun _ p h=>by rw[d2r hi];exact h⟩⟩<;>
 rw[List.getElem?_take,if_pos hi]<;>exact ho
theorem Inv.restrict (hI:Inv cx g H w) {n:Nat} (hn:n<=H.length) (hc:Clean n H):Inv cx (g.cut n) (H.take n) w:=by
 refine⟨fun i k b c c' h1 h2=>hI.inj i k b c c' (a6q h1).2 (a6q h2).2,fun i b c h=>?_,fun i b c o h ho=>?_,hI.imm,?_,hI.glob,fun i o h=>⟨(hI.fix i o h).1,fun k c hk=>(hI.fix i o h).2 k c (a6q hk).2⟩⟩
 ·obtain⟨h1,h2⟩:=a6q h
  exact⟨by rw[List.length_take];omega,(hI.dom i b c h2).2⟩
 ·obtain⟨h1,h2⟩:=a6q h
  rw[List.getElem?_take,if_pos h1]at ho
  exact(hI.ob i b c o h2 ho).ext (a5o g H n) rfl rfl (by rintro c rfl;exact hc i c h1 ho)
 ·intro i c hi ho
  rw[List.length_take,Nat.min_eq_left hn]at hi⊢
  rw[List.getElem?_take,if_pos hi]at ho
  exact hc i c hi ho
theorem Inv.drawn (hI:Inv cx g H w) (d:Nat):Inv cx g H {w with drawn:=d }:=
 ⟨hI.inj,hI.dom,fun i b c o h1 h2=>(hI.ob i b c o h1 h2),hI.imm,hI.und,hI.glob,hI.fix⟩
theorem d8z {h h':Hp} (x:grew h h'=true):∃ l,h'=h++l/\a4k h'.length l=true:=by
 unfold grew at x
 simp only[Bool.and_eq_true,decide_eq_true_eq]at x
 obtain⟨⟨l,rfl⟩,h2⟩:=x
 rw[List.drop_left]at h2
 exact⟨l,rfl,h2⟩
theorem d4p {n:Nat}:∀ {l:Hp} {i:Nat} {c:List V},a4k n l=true->l[i]? =some (.box c)->a0w n c=true
 |[],i,c,_,h=>by simp at h
 |o::l,0,c,h,ho=>by
  simp only[List.getElem?_cons_zero,Option.some.injEq]at ho
  subst ho
  simp only[a4k,Bool.and_eq_true]at h
  exact h.1
 |o::l,i+1,c,h,ho=>by
  have h':a4k n l=true:=by
   cases o<;>simp only[a4k,Bool.and_eq_true]at h<;>first|exact h.2|exact h
  exact d4p h' (by simpa using ho)
theorem d0r {n m:Nat} (h:Clean n H) (hn:n<=m) (l:Hp) (hl:H.length=n) (ho:a4k m l=true):Clean m (H++l):=by
 intro i c hi hb
 by_cases hin:i < n
 ·rw[List.getElem?_append_left om]at hb
  exact a3l hn _ (h i c hin hb)
 ·rw[List.getElem?_append_right om]at hb
  exact d4p ho hb
structure Good (N m:Nat) (s:St) (τ:Nat->St):Prop where
 clean:∀ i,i<=m->Clean (τ i).h.length (τ i).h
 und:∀ i,i<=m->∀ k,k < N->(a1k (τ i).e k).und (τ i).h.length=true
 b:∀ i,i<=m->(τ i).b=s.b
 grow:∀ i k,i<=k->k<=m->∃ l,(τ k).h=(τ i).h++l
theorem b5h {orc:Orc} {N m:Nat} {vs:List a0b} {s:St} {τ:Nat->St} {val:Nat->V} (T:Trace cx orc m vs s τ val) (hm:m<=vs.length)
 (hc:Clean s.h.length s.h) (hu:∀ k,k < N->(a1k s.e k).und s.h.length=true):Good N m s τ:=by
 have key:∀ i,i<=m->Clean (τ i).h.length (τ i).h/\(∀ k,k < N->(a1k (τ i).e k).und (τ i).h.length=true)/\(τ i).b=s.b:=by
  intro i
  induction i with
  |zero=>intro _;rw[T.zero];exact⟨hc,hu,rfl⟩
  |succ i ih=>
   intro hi
   obtain⟨a1,a2,a3⟩:=ih om
   obtain⟨b1,b2,b3,b4⟩:=T.step i vs[i] om (List.getElem?_eq_getElem om)
   obtain⟨l,hl,hn⟩:=d8z b3
   have hle:(τ i).h.length<=(τ (i+1)).h.length:=by rw[hl];simp
   refine⟨?_,?_,by rw[a8a b1,a3]⟩
   ·rw[hl]at hn⊢
    exact d0r a1 (by simp) l rfl hn
   ·intro k hk
    by_cases hd:vs[i].dst=some k
    ·unfold b7i at b4
     rw[hd]at b4
     exact b4
    ·rw[b2,a2j,if_neg hd]
     exact V.a6b hle _ (a2 k hk)
 refine⟨fun i hi=>(key i hi).1,fun i hi=>(key i hi).2.1,fun i hi=>(key i hi).2.2,fun i k hik=>?_⟩
 induction hik with
 |refl=>intro _;exact⟨[],by simp⟩
 |step hik ih=>
  rename_i k
  intro hk
  obtain⟨l,hl⟩:=ih om
  obtain⟨b1,b2,b3,b4⟩:=T.step k vs[k] om (List.getElem?_eq_getElem om)
  obtain⟨l',hl',_⟩:=d8z b3
  exact⟨l++l',by rw[hl',hl,List.append_assoc]⟩
structure Dst (dl:List Deferred) (cx:Cx) (N m:Nat) (τ:Nat->St) (dst:Nat->Option Nat) (val:Nat->V) (g0:Gh) (s:St) (w0:World) (L:Nat->Bool) (g:Gh) (a:Act) (w:World):Prop where
 inv:Inv cx g (τ m).h w
 size:a.tmps.size=N
 env:∀ k,k < N->Rep g (τ m).h (a1k (a1r L dst val s.e m) k) (a.tmps.getD k undef)
 defers:a.defers=dl
 ext:Ext s.b g0 s.h w0 g (τ m).h w
 unl:∀ i,i < m->L i=false->∀ id,(τ i).h.length<=id->id < (τ (i+1)).h.length->g.J id=none
theorem f3c {nb:Nat} {g':Gh} {H':Hp} {w':World} {l:Hp} (e:Ext nb g H w g' H' w') (hl:H'=H++l) {i:Nat} (hi:i < H.length):g'.J i=g.J i:=by
 have hg:H[i]? =some H[i]:=List.getElem?_eq_getElem hi
 have hg':H'[i]? =some H[i]:=by rw[hl,List.getElem?_append_left hi];exact hg
 cases ho:H[i] with
 |row sz r=>
  rw[ho]at hg hg'
  obtain⟨l',h1,h2,h3⟩:=e.keep.row i sz r hi hg
  rw[hg']at h1
  cases h1
  exact h3 rfl
 |box c=>rw[ho]at hg;exact(e.keep.obj i _ hi hg (by simp)).1
 |frz c=>rw[ho]at hg;exact(e.keep.obj i _ hi hg (by simp)).1
 |map c=>rw[ho]at hg;exact(e.keep.obj i _ hi hg (by simp)).1
theorem a8l {o:a0b} {k:Nat} (h:o.dst=some k):k∈o.names:=by simp[a0b.names,h]
theorem c5w {orc:Orc} (hS:b5s P cx orc) {N m:Nat} {vs:List a0b} {s:St} {τ:Nat->St} {val:Nat->V} (T0:τ 0=s) (TE:∀ n o,n < m->vs[n]? =some o->(τ (n+1)).e=a7y o.dst (val n) (τ n).e) (G:Good N m s τ) (hsb:s.b<=s.h.length)
 {ops:Array Oper} {i:Nat} (him:i < m) {co:Oper} (hco:ops[i]? =some co) {o:a0b} (ho:vs[i]? =some o) (TI:a0f cx orc o (τ i)=some (τ (i+1))) (ht:b8v P ops co=some o) (hok:o.okN N=true)
 {dst:Nat->Option Nat} (hdst:dst i=o.dst) (hdm:∀ n o',vs[n]? =some o'->dst n=o'.dst) (hml:m<=vs.length) {L L':Nat->Bool} (hL:L i=false) (hL':L' i=true) (hLo:∀ k,k≠i->L' k=L k)
 (hA:∀ t∈o.names,(∀ n,n < i->dst n=some t->L n=true)/\(∀ n,i < n->n < m->dst n=some t->L n=false))
 {g0:Gh} {w0:World} {a:Act} (D:Dst dl cx N m τ dst val g0 s w0 L g a w) {Q:Exit->Act->World->Prop} {K:Act->World->Prop}
 (hk:∀ g' a' w',Dst dl cx N m τ dst val g0 s w0 L' g' a' w'->K a' w'):wpOp P ops Q i K a w:=by
 have s1:=TI
 have s2:=TE i o him ho
 have hlen:∀ j,j<=m->(τ j).h.length<=(τ m).h.length:=fun j hj=>by
   obtain⟨l,hl⟩:=G.grow j m hj (Nat.le_refl _)
   rw[hl];simp
 obtain⟨lm,hlm⟩:=G.grow i m om (Nat.le_refl _)
 obtain⟨ln,hln⟩:=G.grow (i+1) m om (Nat.le_refl _)
 obtain⟨l1,hl1⟩:=G.grow i (i+1) om om
 have hle1:(τ i).h.length<=(τ (i+1)).h.length:=by rw[hl1];simp
 have htk:(τ m).h.take (τ i).h.length=(τ i).h:=by rw[hlm];simp
 have he:∀ n,n<=m->a1r (fun _=>true) dst val s.e n=(τ n).e:=a5u (by rw[T0]) (fun n hn=>by
   have q:=TE n vs[n] hn (List.getElem?_eq_getElem om)
   rw[q,hdm n _ (List.getElem?_eq_getElem om)]) (fun _ _=>rfl)
 -- the slots that are named
 have hname:∀ t∈o.names,a1k (a1r L dst val s.e m) t=a1k (τ i).e t:=by
  intro t htn
  obtain⟨q1,q2⟩:=hA t htn
  have e1:a1k (a1r L dst val s.e m) t=a1k (a1r L dst val s.e i) t:=by
   have:=a4b (L:=L) (dst:=dst) (val:=val) (e0:=s.e) (t:=t) (i:=i) (m - i) fun k h1 h2 h3=>by
     by_cases hki:k=i
     ·subst hki;exact hL
     ·exact q2 k om om h3
   rwa [show i+(m - i)=m by omega]at this
  rw[e1,<-he i om]
  exact a2q i fun k h1 h2=>by rw[q1 k h1 h2]
 obtain⟨x,hx1,hx2⟩:=a7c (e':=a2d o.names (τ i).e) (fun t htn=>by rw[a5f,if_pos htn]) s1
 have hbi:(τ i).b=s.b:=G.b i om
 have hInv0:Inv cx (g.cut (τ i).h.length) (τ i).h w:=by
  have:=D.inv.restrict (n:=(τ i).h.length) (hlen i om) (by
    intro k c hk hb
    have:=G.clean i om k c hk
    rw[hlm,List.getElem?_append_left hk]at hb
    exact this hb)
  rwa [htk]at this
 have hcutW:c2s (τ i).h.length g (τ m).h (g.cut (τ i).h.length) (τ i).h:=by
  have:=a5o g (τ m).h (τ i).h.length
  rwa [htk]at this
 have hok0:a0x dl cx N (g.cut (τ i).h.length) ⟨a2d o.names (τ i).e,(τ i).h,(τ i).b⟩ a w:=by
  refine⟨hInv0,⟨D.size,fun k hk=>?_⟩,D.defers,?_⟩
  ·rw[a5f]
   by_cases hkn:k∈o.names
   ·rw[if_pos hkn]
    have hu:=G.und i om k hk
    refine⟨a2m hcutW _ _ hu ?_,hu⟩
    rw[<-hname k hkn]
    exact D.env k hk
   ·rw[if_neg hkn]
    exact⟨by simp[Rep],rfl⟩
  ·rw[hbi]
   obtain⟨l0,hl0⟩:=G.grow 0 i om om
   rw[T0]at hl0
   show s.b<=(τ i).h.length
   rw[hl0];simp;omega
 refine a3d hS hco ht hok hx2 hok0 fun g' y w' ok' ext'=>?_
 have hdd:=(b4r ht).2.1
 have hkk:=(b8m hok).1
 refine hk ⟨fun id=>if id < (τ (i+1)).h.length then g'.J id else g.J id,g'.C⟩ _ _ ?_
 generalize hg2:(⟨fun id=>if id < (τ (i+1)).h.length then g'.J id else g.J id,g'.C⟩:Gh)=g2
 have hlo:∀ id,id < (τ (i+1)).h.length->g2.J id=g'.J id:=fun id h=>by rw[<-hg2];exact if_pos h
 have hhi:∀ id,(τ (i+1)).h.length<=id->g2.J id=g.J id:=fun id h=>by rw[<-hg2];exact if_neg om
 have hC2:g2.C=g'.C:=by rw[<-hg2]
 have hold:∀ id,id < (τ i).h.length->g'.J id=g.J id:=fun id h=>by rw[f3c ext' hl1 h,d2r h]
 have hnew:∀ id,(τ i).h.length<=id->id < (τ (i+1)).h.length->g.J id=none:=D.unl i him hL
 have hCm:∀ b,g.C b <+:g2.C b:=fun b=>by rw[hC2];exact ext'.keep.C b
 have hkeepM:∀ n,n<=(τ m).h.length->c2s n g (τ m).h g2 (τ m).h:=by
  intro n hn
  have hJ:∀ id p,g.J id=some p->g2.J id=some p:=by
   intro id p hp
   by_cases h1:id < (τ i).h.length
   ·rw[hlo id om,hold id h1];exact hp
   ·by_cases h2:id < (τ (i+1)).h.length
    ·rw[hnew id om h2]at hp;cases hp
    ·rw[hhi id om];exact hp
  exact⟨hCm,fun id o hi ho hr=>⟨hJ id,o,ho,hr⟩,fun id sz l hi ho=>⟨l,ho,List.prefix_refl _,fun _=>hJ id⟩⟩
 have hkeep1:c2s (τ (i+1)).h.length g' (τ (i+1)).h g2 (τ m).h:=by
  rw[hln]
  refine⟨fun b=>by rw[hC2];exact List.prefix_refl _,fun id o hi ho hr=>⟨fun p hp=>by rw[hlo id hi];exact hp,o,by rw[List.getElem?_append_left hi];exact ho,hr⟩,fun id sz l hi ho=>⟨l,by rw[List.getElem?_append_left hi];exact ho,List.prefix_refl _,fun _ p hp=>by rw[hlo id hi];exact hp⟩⟩
 have hjn:∀ id b c,g2.J id=some (b,c)->b < w.heap.size->∃ k c',k < (τ m).h.length/\g.J k=some (b,c')/\((id < (τ (i+1)).h.length/\k < (τ i).h.length)\/((τ (i+1)).h.length<=id/\k=id)):=by
  intro id b c h hb
  by_cases h2:id < (τ (i+1)).h.length
  ·rw[hlo id h2]at h
   obtain⟨k,c',hk'⟩:=ext'.jnew id b c h hb
   obtain⟨q1,q2⟩:=a6q hk'
   exact⟨k,c',(D.inv.dom k b c' q2).1,q2,.inl ⟨h2,q1⟩⟩
  ·rw[hhi id om]at h
   exact⟨id,c,(D.inv.dom id b c h).1,h,.inr ⟨om,rfl⟩⟩
 have hframe:∀ b,b < w.heap.size->(∀ id c,id < (τ i).h.length->g.J id≠some (b,c))->w'.heap[b]? =w.heap[b]? /\g2.C b=g.C b:=by
  intro b hb hn
  rw[hC2]
  exact ext'.frame b hb fun id c h=>hn id c (a6q h).1 (a6q h).2
 have hI2:Inv cx g2 (τ m).h w':=by
  refine⟨fun i1 i2 b c c' h1 h2=>?_,fun id b c h=>?_,fun id b c ob h hob=>?_,fun b hb=>?_,D.inv.und,fun k=>?_,D.inv.fix.mono fun b hb hn=>⟨(hframe b hb fun id c _=>hn id c).1,fun k c hk=>by obtain⟨k',c',_,q2,_⟩:=hjn k b c hk hb;exact hn k' c' q2⟩⟩
  ·by_cases a1:i1 < (τ (i+1)).h.length<;>by_cases a2:i2 < (τ (i+1)).h.length
   ·rw[hlo _ a1]at h1;rw[hlo _ a2]at h2
    exact ok'.inv.inj _ _ _ _ _ h1 h2
   ·rw[hhi i2 om]at h2
    have hb:=(D.inv.dom _ _ _ h2).2
    obtain⟨k,c'',_,q2,q3⟩:=hjn i1 b c h1 hb
    have:=D.inv.inj _ _ _ _ _ q2 h2
    omega
   ·rw[hhi i1 om]at h1
    have hb:=(D.inv.dom _ _ _ h1).2
    obtain⟨k,c'',_,q2,q3⟩:=hjn i2 b c' h2 hb
    have:=D.inv.inj _ _ _ _ _ q2 h1
    omega
   ·rw[hhi _ om]at h1 h2
    exact D.inv.inj _ _ _ _ _ h1 h2
  ·by_cases a1:id < (τ (i+1)).h.length
   ·rw[hlo _ a1]at h
    have:=ok'.inv.dom _ _ _ h
    have:=hlen (i+1) om
    exact⟨om,om⟩
   ·rw[hhi _ om]at h
    have:=D.inv.dom _ _ _ h
    exact⟨this.1,Nat.lt_of_lt_of_le this.2 ext'.size⟩
  ·by_cases a1:id < (τ (i+1)).h.length
   ·rw[hlo _ a1]at h
    have hob':(τ (i+1)).h[id]? =some ob:=by rw[hln,List.getElem?_append_left a1]at hob;exact hob
    exact(ok'.inv.ob id b c ob h hob').ext hkeep1 rfl (by rw[hC2]) (by rintro cc rfl;exact G.clean (i+1) om id cc a1 hob')
   ·rw[hhi _ om]at h
    have hd:=D.inv.dom _ _ _ h
    obtain⟨f1,f2⟩:=hframe b hd.2 fun k c' hk' hkc=>by
      have:=D.inv.inj _ _ _ _ _ hkc h
      omega
    exact(D.inv.ob id b c ob h hob).ext (hkeepM _ (Nat.le_refl _)) f1 f2 (by rintro cc rfl;exact G.clean m (Nat.le_refl _) id cc hd.1 hob)
  ·rw[hC2]at hb⊢
   exact ok'.inv.imm b hb
  ·rw[hC2]
   exact ok'.inv.glob k
 have hundL:∀ t,t < N->(a1k (a1r L dst val s.e m) t).und (τ m).h.length=true:=by
  intro t htN
  have:∀ n,n<=m->(a1k (a1r L dst val s.e n) t).und (τ m).h.length=true:=by
   intro n
   induction n with
   |zero=>
    intro _
    have:=G.und 0 om t htN
    rw[T0]at this
    have h0:=hlen 0 om
    rw[T0]at h0
    exact V.a6b h0 _ this
   |succ n ih=>
    intro hn
    rw[a4d]
    split
    ·rename_i h
     have h1:=G.und (n+1) hn t htN
     have q:=TE n vs[n] om (List.getElem?_eq_getElem om)
     rw[q,a2j,<-hdm n _ (List.getElem?_eq_getElem om),if_pos h.2]at h1
     exact V.a6b (hlen (n+1) hn) _ h1
    ·exact ih om
  exact this m (Nat.le_refl _)
 have hval:∀ k,o.dst=some k->val i=x:=by
  intro k hk'
  have e1:=congrArg (a1k · k) (s2.symm.trans hx1)
  simpa [a2j,hk'] using e1
 refine⟨hI2,by rw[c9t];cases co.dst<;>simp[g3x,D.size],fun k hk'=>?_,by rw[put_defers];exact D.defers,?_,fun i' hi' hL'' id h1 h2=>?_⟩
 ·by_cases hd:o.dst=some k
  ·have e1:a1k (a1r L' dst val s.e m) k=x:=by
    obtain⟨q1,q2⟩:=hA k (a8l hd)
    have:=a4b (L:=L') (dst:=dst) (val:=val) (e0:=s.e) (t:=k) (i:=i+1) (m - (i+1)) fun n h1 h2 h3=>by
      rw[hLo n om]
      exact q2 n om om h3
    rw[show i+1+(m - (i+1))=m by omega]at this
    rw[this,a4d,if_pos ⟨hL',hdst.trans hd⟩]
    exact hval k hd
   rw[e1]
   obtain⟨r1,r2⟩:=ok'.env.2 k hk'
   simp only[a2j,if_pos hd]at r1 r2
   exact a2m hkeep1 _ _ r2 r1
  ·have e1:a1k (a1r L' dst val s.e m) k=a1k (a1r L dst val s.e m) k:=a2q m fun n h1 h2=>hLo n (by rintro rfl;rw[hdst]at h2;exact hd h2)
   rw[e1]
   have e2:(a.put co.dst y).tmps.getD k undef=a.tmps.getD k undef:=by
    rw[c9t,<-hdd]
    cases hod:o.dst with
    |none=>rfl
    |some d=>
     have hdk:d≠k:=by rintro rfl;exact hd hod
     simp only[g3x,Array.getD_eq_getD_getElem?,Array.getElem?_setIfInBounds,if_neg hdk]
   rw[e2]
   exact a2m (hkeepM _ (Nat.le_refl _)) _ _ (hundL k hk') (D.env k hk')
 ·have E:=D.ext
  have hs0:s.h.length<=(τ m).h.length:=E.len
  refine⟨ext'.os.trans E.os,ext'.tape.trans E.tape,ext'.output.trans E.output,Nat.le_trans E.size ext'.size,fun b hb hn=>?_,?_,fun id b c h hb=>?_,E.clean,E.len⟩
  ·obtain⟨f1,f2⟩:=E.frame b hb hn
   obtain⟨f3,f4⟩:=hframe b (Nat.lt_of_lt_of_le hb E.size) fun id c _ h=>by
     obtain⟨k,c',hk'⟩:=E.jnew id b c h hb
     exact hn k c' hk'
   exact⟨f3.trans f1,f4.trans f2⟩
  ·obtain⟨l0,hl0⟩:=G.grow 0 i om om
   rw[T0]at hl0
   have hsi:s.h.length<=(τ i).h.length:=by rw[hl0];simp
   refine E.keep.trans (m:=s.h.length) ⟨hCm,fun id o' hid hob hr=>⟨?_,o',hob,hr⟩,fun id sz l hid hob=>⟨l,hob,List.prefix_refl _,fun _=>?_⟩⟩ (Nat.le_refl _)<;>
   rw[hlo id om,hold id om]
  ·obtain⟨k,c',_,q2,_⟩:=hjn id b c h (Nat.lt_of_lt_of_le hb E.size)
   exact E.jnew k b c' q2 hb
 ·have hne:i'≠i:=by rintro rfl;rw[hL']at hL'';cases hL''
  have hL0:L i'=false:=by rw[<-hLo i' hne];exact hL''
  have:=D.unl i' hi' hL0 id h1 h2
  by_cases hgt:i < i'
  ·obtain⟨l',hl'⟩:=G.grow (i+1) i' om om
   have:(τ (i+1)).h.length<=(τ i').h.length:=by rw[hl'];simp
   rw[hhi id om]
   assumption
  ·obtain⟨l',hl'⟩:=G.grow (i'+1) i om om
   have:(τ (i'+1)).h.length<=(τ i).h.length:=by rw[hl'];simp
   rw[hlo id om,hold id om]
   assumption
theorem d0i {orc:Orc} (hS:b5s P cx orc) {N m:Nat} {vs:List a0b} {s:St} {τ:Nat->St} {val:Nat->V} (T:Trace cx orc m vs s τ val) (G:Good N m s τ) (hsb:s.b<=s.h.length)
 {ops:Array Oper} {i:Nat} (him:i < m) {co:Oper} (hco:ops[i]? =some co) {o:a0b} (ho:vs[i]? =some o) (ht:b8v P ops co=some o) (hok:o.okN N=true)
 {dst:Nat->Option Nat} (hdst:dst i=o.dst) (hdm:∀ n o',vs[n]? =some o'->dst n=o'.dst) (hml:m<=vs.length) {L L':Nat->Bool} (hL:L i=false) (hL':L' i=true) (hLo:∀ k,k≠i->L' k=L k)
 (hA:∀ t∈o.names,(∀ n,n < i->dst n=some t->L n=true)/\(∀ n,i < n->n < m->dst n=some t->L n=false))
 {g0:Gh} {w0:World} {a:Act} (D:Dst dl cx N m τ dst val g0 s w0 L g a w) {Q:Exit->Act->World->Prop} {K:Act->World->Prop}
 (hk:∀ g' a' w',Dst dl cx N m τ dst val g0 s w0 L' g' a' w'->K a' w'):wpOp P ops Q i K a w:=
 c5w hS T.zero (fun n o hn h=>(T.step n o hn h).2.1) G hsb him hco ho (T.step i o him ho).1 ht hok hdst hdm hml hL hL' hLo hA D hk
end
end Go.Vm
