import Derived.Test.YtkedogplneaaiaaGreatDoorVmDrawSound
import Derived.Scope
import Derived.LoopN
set_option linter.unusedVariables false
set_option linter.unusedSimpArgs false
namespace Go.Vm
section
variable {dl:List Deferred} {P:Program} {cx:Cx} {g:Gh} {w:World} {H:Hp}
theorem a2t {ops:Array Oper}:∀ {l:List Oper} {vs:List a0b},a1l P ops l=some vs->vs.length=l.length/\∀ (i:Nat) (co:Oper),l[i]? =some co->∃ o,vs[i]? =some o/\b8v P ops co=some o
 |[],vs,h=>by
  simp only[a1l,Option.some.injEq]at h
  subst h
  exact⟨rfl,fun i co h=>by simp at h⟩
 |c::l,vs,h=>by
  simp only[a1l]at h
  split at h
  ·rename_i v vs' hv hvs
   simp only[Option.some.injEq]at h
   subst h
   obtain⟨h1,h2⟩:=a2t hvs
   refine⟨by simp[h1],fun i co hi=>?_⟩
   cases i with
   |zero=>simp only[List.getElem?_cons_zero,Option.some.injEq]at hi;subst hi;exact⟨v,rfl,hv⟩
   |succ i=>exact h2 i co (by simpa using hi)
  ·cases h
structure b3b (ops:Array Oper) (vs:List a0b) (m:Nat):Prop where
 back:∀ (i:Nat) (o:Oper),ops[i]? =some o->∀ e∈o.after,Region.binds .any e=true->e.on < i
 tail:∀ i,i < ops.size->m<=i->∀ k,k < i->((a4y ops.toList).getD i 0).testBit k=true
 free:∀ i o,i < m->vs[i]? =some o->∀ t∈o.names,∀ k p,k < m->vs[k]? =some p->k≠i->p.dst=some t->(if k < i then((a4y ops.toList).getD i 0).testBit k else((a4y ops.toList).getD k 0).testBit i)=true
 le:m<=vs.length
theorem a4x {ops:Array Oper} {vs:List a0b} {m:Nat} (h:b1p ops vs m=true):b3b ops vs m:=by
 unfold b1p at h
 simp only[Bool.and_eq_true,List.all_eq_true,decide_eq_true_eq]at h
 obtain⟨⟨⟨h1,h2⟩,h3⟩,h4⟩:=h
 have hz:∀ {α:Type} (l:List α) (i:Nat) (x:α),l[i]? =some x->(x,i)∈l.zipIdx:=by
  intro α l i x hx
  rw[List.mem_iff_getElem?]
  exact⟨i,by simp[List.getElem?_zipIdx,hx]⟩
 refine⟨fun i o hi e he hb=>?_,fun i hi hm k hk=>?_,fun i o hi ho t ht k p hk hp hne hd=>?_,h4⟩
 ·have:=h1 (o,i) (hz ops.toList i o (by simpa using hi))
  simp only[Array.all_eq_true_iff_forall_mem,Bool.or_eq_true,Bool.not_eq_true',decide_eq_true_eq]at this
  exact(this e he).resolve_left (by rw[hb];simp)
 ·have:=h2 (ops[i],i) (hz ops.toList i _ (by simp[hi]))
  simp only[Bool.or_eq_true,decide_eq_true_eq,List.all_eq_true,List.mem_range]at this
  exact(this.resolve_left om) k hk
 ·have:=h3 (o,i) (hz (vs.take m) i o (by rw[List.getElem?_take,if_pos hi];exact ho)) t ht (p,k) (hz (vs.take m) k p (by rw[List.getElem?_take,if_pos hk];exact hp))
  simp only[Bool.or_eq_true,beq_iff_eq,bne_iff_ne]at this
  rcases this with(h|h)|h
  ·exact absurd h hne
  ·exact absurd hd h
  ·exact h
def lst (listed:Array Bool) (i:Nat):Bool:=listed.getD i false
theorem b6t {listed:Array Bool} {i k:Nat} (h:k≠i):lst (listed.setIfInBounds i true) k=lst listed k:=getD_set_ne false (Ne.symm h)
theorem c3b {listed:Array Bool} {i:Nat} (h:i < listed.size):lst (listed.setIfInBounds i true) i=true:=by simp[lst,h]
theorem a8u {ops:Array Oper} {listed:Array Bool} (hs:listed.size=ops.size) {j:Nat}:j∈Region.ready .any ops listed↔
 j < ops.size/\lst listed j=false/\∃ o,ops[j]? =some o/\∀ e∈o.after,Region.binds .any e=true->lst listed e.on=true:=by
 rw[mem_ready]
 constructor
 ·rintro⟨h1,o,h2,h3⟩
  have hj:=(Array.getElem?_eq_some_iff.1 h2).1
  refine⟨hj,?_,o,h2,h3⟩
  simp only[lst,Array.getD,hs,hj]at h1⊢
  simpa using h1
 ·rintro⟨hj,h1,o,h2,h3⟩
  refine⟨?_,o,h2,h3⟩
  simp only[lst,Array.getD,hs,hj]at h1⊢
  simpa using h1
theorem b4s {orc:Orc} (hS:b5s P cx orc) {N:Nat} {ops:Array Oper} {vs:List a0b} (ht:a1l P ops ops.toList=some vs) (hok:vs.all (a0b.okN N)=true) {m:Nat} (hO:b3b ops vs m)
 {s':St} {Q:Exit->Act->World->Prop}:∀ (fuel j:Nat),m<=j->j+fuel=ops.size->∀ {listed:Array Bool},listed.size=ops.size->(∀ i,i < ops.size->(lst listed i=true↔i < j))->
 ∀ {s:St} {g:Gh} {a:Act} {w:World},a0s cx orc (vs.drop j) s=some s'->a0x dl cx N g s a w->(∀ g' a' w',a0x dl cx N g' s' a' w'->Ext s.b g s.h w g' s'.h w'->Q .normal a' w')->wpAny P .any ops Q fuel listed a w:=by
 obtain⟨hlen,hget⟩:=a2t ht
 have hlen':vs.length=ops.size:=by simpa using hlen
 intro fuel
 induction fuel with
 |zero=>
  intro j hm hj listed hs hL s g a w he ok hq
  have hnil:Region.ready .any ops listed=[]:=by
   apply List.eq_nil_iff_forall_not_mem.2
   intro k hk
   obtain⟨k1,k2,_⟩:=(a8u hs).1 hk
   rw[(hL k k1).2 om]at k2
   cases k2
  rw[List.drop_eq_nil_of_le om]at he
  simp only[a0s,Option.some.injEq]at he
  subst he
  exact⟨hnil,hq g a w ok (Ext.refl ..)⟩
 |succ fuel ih=>
  intro j hm hj listed hs hL s g a w he ok hq
  have hjs:j < ops.size:=om
  have hoj:ops[j]? =some ops[j]:=Array.getElem?_eq_getElem hjs
  obtain⟨o,ho,hto⟩:=hget j ops[j] (by simp)
  have hready:j∈Region.ready .any ops listed:=(a8u hs).2 ⟨hjs,by
    cases h:lst listed j with
    |false=>rfl
    |true=>have:=(hL j hjs).1 h;omega,_,hoj,fun e he hb=>by
     have h1:=hO.back j _ hoj e he hb
     exact(hL e.on om).2 h1⟩
  have hback:∀ (i:Nat) (o:Oper),ops[i]? =some o->lst listed i=true->∀ e∈o.after,Region.binds .any e=true->lst listed e.on=true:=by
   intro i o hi hl e he hb
   have h1:=hO.back i o hi e he hb
   have h2:=(Array.getElem?_eq_some_iff.1 hi).1
   have h3:=(hL i h2).1 hl
   exact(hL e.on om).2 om
  refine⟨fun h=>by rw[h]at hready;simp at hready,fun i hi=>?_⟩
  obtain⟨i1,i2,co,i3,i4⟩:=(a8u hs).1 hi
  have hij:i=j:=by
   have hge:j<=i:=Nat.le_of_not_lt fun h=>by rw[(hL i i1).2 h]at i2;cases i2
   refine Nat.le_antisymm (Nat.le_of_not_lt fun h=>?_) hge
   have:=a7z (L:=lst listed) hO.back hback i co i3 i4 j (hO.tail i i1 om j h)
   have:=(hL j hjs).1 this
   omega
  subst hij
  rw[List.drop_eq_getElem_cons om]at he
  obtain rfl:vs[i]=o:=by rw[List.getElem?_eq_getElem om]at ho;exact Option.some.inj ho
  simp only[a0s]at he
  cases h1:a0f cx orc vs[i] s with
  |none=>rw[h1]at he;cases he
  |some s1=>
   rw[h1]at he
   simp only[Option.bind_some]at he
   have hoki:vs[i].okN N=true:=(List.all_eq_true.1 hok) _ (List.getElem_mem _)
   have hb:=a8a h1
   refine a3d hS hoj hto hoki h1 ok fun g' x w' ok' ext'=>?_
   refine ih (i+1) om om (by simp[hs]) (fun k hk=>?_) he ok' fun g2 a2 w2 ok2 ext2=>hq g2 a2 w2 ok2 (ext'.trans ext2 om)
   by_cases hki:k=i
   ·subst hki;rw[c3b (show k < listed.size by omega)];simp
   ·rw[b6t hki,hL k hk];omega
theorem b1t {ops:Array Oper} {vs:List a0b} (ht:a1l P ops ops.toList=some vs) {m:Nat} (hO:b3b ops vs m)
 {Q:Exit->Act->World->Prop} {R:(Nat->Bool)->Act->World->Prop}
 (full:∀ (listed:Array Bool),listed.size=ops.size->(∀ i,i < m->lst listed i=true)->(∀ i,i < ops.size->lst listed i=true->i < m)->∀ {a:Act} {w:World},R (lst listed) a w->wpAny P .any ops Q (ops.size - m) listed a w)
 (step:∀ (i:Nat) (co:Oper) (o:a0b),i < m->ops[i]? =some co->vs[i]? =some o->b8v P ops co=some o->∀ {L L':Nat->Bool},L i=false->L' i=true->(∀ k,k≠i->L' k=L k)->
   (∀ t∈o.names,(∀ n,n < i->(vs.getD n default).dst=some t->L n=true)/\(∀ n,i < n->n < m->(vs.getD n default).dst=some t->L n=false))->
   ∀ {a:Act} {w:World} {K:Act->World->Prop},R L a w->(∀ a' w',R L' a' w'->K a' w')->wpOp P ops Q i K a w):
 ∀ (fuel:Nat) (listed:Array Bool),listed.size=ops.size->fuel=cnt (lst listed) ops.size->(∀ i,i < ops.size->lst listed i=true->i < m)->
 (∀ (i:Nat) (o:Oper),ops[i]? =some o->lst listed i=true->∀ e∈o.after,Region.binds .any e=true->lst listed e.on=true)->
 ∀ {a:Act} {w:World},R (lst listed) a w->wpAny P .any ops Q fuel listed a w:=by
 obtain⟨hlen,hget⟩:=a2t ht
 have hlen':vs.length=ops.size:=by simpa using hlen
 have hml:=hO.le
 have hdm:∀ n o',vs[n]? =some o'->(vs.getD n default).dst=o'.dst:=fun n o' h=>by rw[List.getD_eq_getElem?_getD,h];rfl
 intro fuel
 induction fuel with
 |zero=>
  intro listed hs hf hlt hcl a w D
  have hz:=e0d ops.size hf.symm
  have hm0:ops.size - m=0:=by
   rcases Nat.lt_or_ge m ops.size with h|h
   ·have:=hlt m h (hz m h);omega
   ·omega
  have:=full listed hs (fun i hi=>hz i om) hlt D
  rwa [hm0]at this
 |succ fuel ih=>
  intro listed hs hf hlt hcl a w D
  by_cases hall:∀ i,i < m->lst listed i=true
  ·have hc:ops.size - m=fuel+1:=by
    rw[hf]
    have:∀ d,m+d<=ops.size->cnt (lst listed) (m+d)=d:=by
     intro d
     induction d with
     |zero=>
      intro _
      have:∀ n,n<=m->cnt (lst listed) n=0:=by
       intro n
       induction n with
       |zero=>intro _;rfl
       |succ n ihn=>intro hn;simp only[cnt];rw[ihn om,hall n om];rfl
      exact this m (Nat.le_refl _)
     |succ d ihd=>
      intro hd
      show cnt (lst listed) (m+d)+(if lst listed (m+d)=true then 0 else 1)=d+1
      rw[ihd om]
      have:lst listed (m+d)=false:=by
       cases h:lst listed (m+d)with
       |false=>rfl
       |true=>have:=hlt (m+d) om h;omega
      rw[this];rfl
    have:=this (ops.size - m) om
    rwa [show m+(ops.size - m)=ops.size by omega,eq_comm]at this
   have:=full listed hs hall hlt D
   rwa [hc]at this
  ·
   have hex:∃ i,i < m/\lst listed i=false/\∀ k,k < i->lst listed k=true:=by
    have hne:∃ i,i < m/\lst listed i=false:=by
     apply Classical.byContradiction
     intro h
     apply hall
     intro i hi
     cases hl:lst listed i with
     |true=>rfl
     |false=>exact absurd ⟨i,hi,hl⟩ h
    obtain⟨i,hi⟩:=hne
    induction i using Nat.strongRecOn with
    |_ i ihi=>
     by_cases h:∀ k,k < i->lst listed k=true
     ·exact⟨i,hi.1,hi.2,h⟩
     ·have:∃ k,k < i/\lst listed k=false:=by
       apply Classical.byContradiction
       intro h2
       apply h
       intro k hk
       cases hl:lst listed k with
       |true=>rfl
       |false=>exact absurd ⟨k,hk,hl⟩ h2
      obtain⟨k,hk,hkl⟩:=this
      exact ihi k hk ⟨om,hkl⟩
   obtain⟨i0,hi0,hl0,hk0⟩:=hex
   have hready0:i0∈Region.ready .any ops listed:=(a8u hs).2 ⟨om,hl0,ops[i0],Array.getElem?_eq_getElem om,fun e he hb=>hk0 _ (hO.back i0 _ (Array.getElem?_eq_getElem om) e he hb)⟩
   refine⟨fun h=>by rw[h]at hready0;simp at hready0,fun i hi=>?_⟩
   obtain⟨i1,i2,co,i3,i4⟩:=(a8u hs).1 hi
   have hbef:=a7z (L:=lst listed) hO.back hcl i co i3 i4
   have him:i < m:=by
    apply Nat.lt_of_not_le
    intro hge
    have:=hbef i0 (hO.tail i i1 hge i0 om)
    rw[hl0]at this;cases this
   obtain⟨o,ho,hto⟩:=hget i co (by simpa using i3)
   have hcl':∀ (k:Nat) (o:Oper),ops[k]? =some o->lst (listed.setIfInBounds i true) k=true->∀ e∈o.after,Region.binds .any e=true->lst (listed.setIfInBounds i true) e.on=true:=by
    intro k p hk hl e he hb
    have hmono:∀ x,lst listed x=true->lst (listed.setIfInBounds i true) x=true:=fun x hx=>by
      by_cases hxi:x=i
      ·subst hxi;rw[i2]at hx;cases hx
      ·rw[b6t hxi];exact hx
    by_cases hki:k=i
    ·subst hki
     rw[i3]at hk;cases hk
     exact hmono _ (i4 e he hb)
    ·rw[b6t hki]at hl
     exact hmono _ (hcl k p hk hl e he hb)
   refine step i co o him i3 ho hto i2 (c3b (show i < listed.size by omega)) (fun k hk=>b6t hk) (fun t htn=>⟨fun n hn hd=>?_,fun n hn hnm hd=>?_⟩) D fun a' w' D'=>?_
   ·have hvn:vs[n]? =some vs[n]:=List.getElem?_eq_getElem om
    have hd':vs[n].dst=some t:=by rw[<-hdm n _ hvn];exact hd
    have:=hO.free i o him ho t htn n vs[n] om hvn om hd'
    rw[if_pos hn]at this
    exact hbef n this
   ·have hvn:vs[n]? =some vs[n]:=List.getElem?_eq_getElem om
    have hd':vs[n].dst=some t:=by rw[<-hdm n _ hvn];exact hd
    have:=hO.free i o him ho t htn n vs[n] hnm hvn om hd'
    rw[if_neg om]at this
    cases hln:lst listed n with
    |false=>rfl
    |true=>
     have hon:ops[n]? =some ops[n]:=Array.getElem?_eq_getElem om
     have:=a7z (L:=lst listed) hO.back hcl n _ hon (hcl n _ hon hln) i this
     rw[i2]at this;cases this
   ·refine ih _ (by simpa using hs) ?_ (fun k hk hl=>?_) hcl' D'
    ·have:=e5t (L:=lst listed) (L':=lst (listed.setIfInBounds i true)) (i:=i) i2 (c3b (show i < listed.size by omega)) (fun k hk=>b6t hk) ops.size i1
     omega
    ·by_cases hki:k=i
     ·subst hki;exact him
     ·rw[b6t hki]at hl;exact hlt k hk hl
theorem e3o {orc:Orc} (hS:b5s P cx orc) {N:Nat} {ops:Array Oper} {vs:List a0b} (ht:a1l P ops ops.toList=some vs) (hok:vs.all (a0b.okN N)=true) {m:Nat} (hO:b3b ops vs m)
 {s s':St} {τ:Nat->St} {val:Nat->V} (T:Trace cx orc m vs s τ val) (G:Good N m s τ) (hsb:s.b<=s.h.length) (he:a0s cx orc (vs.drop m) (τ m)=some s')
 {g0:Gh} {w0:World} {Q:Exit->Act->World->Prop} (hq:∀ g' a' w',a0x dl cx N g' s' a' w'->Ext s.b g0 s.h w0 g' s'.h w'->Q .normal a' w'):
 ∀ (fuel:Nat) (listed:Array Bool),listed.size=ops.size->fuel=cnt (lst listed) ops.size->(∀ i,i < ops.size->lst listed i=true->i < m)->
 (∀ (i:Nat) (o:Oper),ops[i]? =some o->lst listed i=true->∀ e∈o.after,Region.binds .any e=true->lst listed e.on=true)->
 ∀ {g:Gh} {a:Act} {w:World},Dst dl cx N m τ (fun n=>(vs.getD n default).dst) val g0 s w0 (lst listed) g a w->wpAny P .any ops Q fuel listed a w:=by
 obtain⟨hlen,hget⟩:=a2t ht
 have hlen':vs.length=ops.size:=by simpa using hlen
 have hml:=hO.le
 have hdm:∀ n o',vs[n]? =some o'->(vs.getD n default).dst=o'.dst:=fun n o' h=>by rw[List.getD_eq_getElem?_getD,h];rfl
 -- all of the free ones are there
 have full:∀ (listed:Array Bool),listed.size=ops.size->(∀ i,i < m->lst listed i=true)->(∀ i,i < ops.size->lst listed i=true->i < m)->
  ∀ {g:Gh} {a:Act} {w:World},Dst dl cx N m τ (fun n=>(vs.getD n default).dst) val g0 s w0 (lst listed) g a w->wpAny P .any ops Q (ops.size - m) listed a w:=by
  intro listed hs hall hlt g a w D
  have hE:a1r (lst listed) (fun n=>(vs.getD n default).dst) val s.e m=(τ m).e:=a5u (by rw[T.zero]) (fun n hn=>by
    obtain⟨_,q,_⟩:=T.step n vs[n] hn (List.getElem?_eq_getElem om)
    rw[q,hdm n _ (List.getElem?_eq_getElem om)]) hall m (Nat.le_refl _)
  have hlm:s.h.length<=(τ m).h.length:=D.ext.len
  refine b4s hS ht hok hO (ops.size - m) m (Nat.le_refl _) om hs (fun i hi=>⟨hlt i hi,hall i⟩) he ⟨D.inv,⟨D.size,fun k hk=>⟨by rw[<-hE];exact D.env k hk,G.und m (Nat.le_refl _) k hk⟩⟩,D.defers,by rw[G.b m (Nat.le_refl _)];omega⟩ fun g' a' w' ok' ext'=>?_
  refine hq g' a' w' ok' (D.ext.trans ext' ?_)
  rw[G.b m (Nat.le_refl _)]
  exact Nat.le_refl _
 intro fuel listed hs hf hlt hcl g a w D
 refine b1t ht hO (R:=fun L a w=> ∃ g,Dst dl cx N m τ (fun n=>(vs.getD n default).dst) val g0 s w0 L g a w) (fun listed hs hall hlt a w D=>?_) (fun i co o him i3 ho hto L L' i2 hL' hLo hA a w K D hk=>?_) fuel listed hs hf hlt hcl ⟨g,D⟩
 ·obtain⟨g,D⟩:=D;exact full listed hs hall hlt D
 ·obtain⟨g,D⟩:=D
  exact d0i hS T G hsb him i3 ho hto ((List.all_eq_true.1 hok) _ (List.mem_of_getElem? ho)) (hdm i o ho) hdm hml i2 hL' hLo hA D fun g' a' w' D'=>hk a' w' ⟨g',D'⟩
theorem e4q {orc:Orc} (hS:b5s P cx orc) (hmx:P.follows .mixedOrders=true) {N:Nat} {ops:Array Oper} {id m:Nat} {vs:List a0b} (ht:a1l P ops ops.toList=some vs) (hok:vs.all (a0b.okN N)=true) (hord:b1p ops vs m=true)
 {s s':St} (h:a2c cx orc m vs s=some s') {a:Act} (ok:a0x dl cx N g s a w)
 {Q:Exit->Act->World->Prop} (hq:∀ g' a' w',a0x dl cx N g' s' a' w'->Ext s.b g s.h w g' s'.h w'->Q .normal a' w'):(Code.region id ops true).wp P Q a w:=by
 have hO:=a4x hord
 obtain⟨τ,val,T,he⟩:=b1n m vs s s' hO.le h
 have G:=b5h (N:=N) T hO.le ok.inv.und fun k hk=>(ok.env.2 k hk).2
 refine wp_region_any hmx ?_
 have hl0:∀ i,lst (Array.replicate ops.size false) i=false:=fun i=>by simp[lst,Array.getD]
 obtain⟨l,hl⟩:=G.grow 0 m (Nat.zero_le _) (Nat.le_refl _)
 rw[T.zero]at hl
 have hk:=c1u g s.h l
 rw[<-hl]at hk
 have hout:∀ id,s.h.length<=id->g.J id=none:=fun id hid=>by
   cases hj:g.J id with
   |none=>rfl
   |some p=>have:=(ok.inv.dom id p.1 p.2 hj).1;omega
 refine e3o hS ht hok hO T G ok.base he (g0:=g) (w0:=w) hq ops.size _ (by simp) (b0b ops.size fun i _=>hl0 i).symm (fun i _ h=>by rw[hl0]at h;cases h) (fun i o _ h=>by rw[hl0]at h;cases h) (g:=g) ⟨?_,ok.env.1,fun k hkN=>?_,ok.defers,⟨rfl,rfl,rfl,Nat.le_refl _,fun _ _ _=>⟨rfl,rfl⟩,?_,fun i _ c h _=>⟨i,c,h⟩,fun n hn hc=>?_,by rw[hl];simp⟩,fun i hi _ id h1 h2=>hout id ?_⟩
 ·have hI:=ok.inv
  refine⟨hI.inj,fun i b c hj=>⟨by rw[hl,List.length_append];have:=(hI.dom i b c hj).1;omega,(hI.dom i b c hj).2⟩,fun i b c o hj ho=>?_,hI.imm,G.clean m (Nat.le_refl _),hI.glob,hI.fix⟩
  have hi:=(hI.dom i b c hj).1
  rw[hl,List.getElem?_append_left hi]at ho
  exact(hI.ob i b c o hj ho).ext hk rfl rfl (by rintro c' rfl;exact hI.und i c' hi ho)
 ·rw[a5d m fun k _=>hl0 k]
  exact a2m hk _ _ (ok.env.2 k hkN).2 (ok.env.2 k hkN).1
 ·rw[hl]
  exact⟨fun _=>List.prefix_refl _,fun i o hi ho hr=>⟨rfl,o,by rw[List.getElem?_append_left hi];exact ho,hr⟩,fun i sz r hi ho=>⟨r,by rw[List.getElem?_append_left hi];exact ho,List.prefix_refl _,fun _=>rfl⟩⟩
 ·intro i c hi ho
  have:=ok.base
  rw[hl,List.getElem?_append_left om]at ho
  exact hc i c hi ho
 ·obtain⟨l',hl'⟩:=G.grow 0 i (Nat.zero_le _) om
  rw[T.zero]at hl'
  have:s.h.length<=(τ i).h.length:=by rw[hl'];simp
  omega
theorem c6a {orc:Orc} {vs:List a0b} {m:Nat} {τ:Nat->St} {s':St} (hm:m<=vs.length) (step:∀ i o,i < m->vs[i]? =some o->a0f cx orc o (τ i)=some (τ (i+1))):∀ k j,j+k=m->a0s cx orc (vs.drop j) (τ j)=some s'->a0s cx orc (vs.drop m) (τ m)=some s'
 |0,j,h,he=>by
  have:j=m:=om
  subst this;exact he
 |k+1,j,h,he=>by
  rw[List.drop_eq_getElem_cons om]at he
  simp only[a0s]at he
  rw[step j _ om (List.getElem?_eq_getElem om)]at he
  exact c6a hm step k (j+1) om he
theorem e3v {orc:Orc} {vs:List a0b} {m:Nat} {s s':St} {d:Nat} {od:a0b} {τ:Nat->St} {val:Nat->V} (D:d8g cx orc m vs s d od τ val) (h:a0s cx orc vs s=some s'):a0s cx orc (vs.drop m) (τ m)=some s':=
 c6a D.le (fun i o hi ho=>(D.step i o hi ho).1) m 0 om (by rw[D.zero];exact h)
theorem d6o {orc:Orc} (hS:b5s P cx orc) (hmx:P.follows .mixedOrders=true) {N:Nat} {ops:Array Oper} {id m:Nat} {vs:List a0b} (ht:a1l P ops ops.toList=some vs) (hok:vs.all (a0b.okN N)=true) (hO:b3b ops vs m)
 {s s':St} {d:Nat} {od:a0b} {τ:Nat->St} {val:Nat->V} (D:d8g cx orc m vs s d od τ val) (he:a0s cx orc (vs.drop m) (τ m)=some s') {a:Act} {g:Gh} {w:World} (ok:a0x dl cx N g s a w)
 {Q:Exit->Act->World->Prop} (hq:∀ g' a' w',a0x dl cx N g' s' a' w'->Ext s.b g s.h w g' s'.h w'->Q .normal a' w'):(Code.region id ops true).wp P Q a w:=by
 obtain⟨hlen,hget⟩:=a2t ht
 have hlen':vs.length=ops.size:=by simpa using hlen
 have hml:=hO.le
 have hdm:∀ n o',vs[n]? =some o'->(vs.getD n default).dst=o'.dst:=fun n o' h=>by rw[List.getD_eq_getElem?_getD,h];rfl
 have hb:∀ i,i<=m->(τ i).b=s.b:=by
  intro i
  induction i with
  |zero=>intro _;rw[D.zero]
  |succ i ih=>
   intro hi
   have:=(D.step i vs[i] om (List.getElem?_eq_getElem om)).1
   rw[a8a this,ih om]
 have hlo:∀ i,i<=d->(τ i).h=s.h:=by
  intro i
  induction i with
  |zero=>intro _;rw[D.zero]
  |succ i ih=>
   intro hi
   have hd:=D.lt
   have hil:i < vs.length:=om
   rw[D.quiet i vs[i] om (List.getElem?_eq_getElem hil) om,ih om]
 have hhi:∀ i,d < i->i<=m->(τ i).h=(τ (d+1)).h:=by
  intro i hi
  induction hi with
  |refl=>intro _;rfl
  |step h ih=>
   rename_i i
   intro hm
   rw[D.quiet i vs[i] om (List.getElem?_eq_getElem om) (by simp only[Nat.succ_eq_add_one,Nat.le_eq]at h;omega),ih om]
 have hE:∀ {L:Nat->Bool} n,n<=m->(∀ k,k < n->L k=true)->a1r L (fun n=>(vs.getD n default).dst) val s.e n=(τ n).e:=by
   intro L n hn hL
   refine a5u (m:=n) (by rw[D.zero]) (fun k hk=>?_) hL n (Nat.le_refl _)
   have q:=(D.step k vs[k] om (List.getElem?_eq_getElem om)).2
   rw[q,hdm k _ (List.getElem?_eq_getElem om)]
 refine wp_region_any hmx ?_
 have hl0:∀ i,lst (Array.replicate ops.size false) i=false:=fun i=>by simp[lst,Array.getD]
 refine b1t ht hO (R:=fun L a w'=> ∃ g',a0x dl cx N g' ⟨a1r L (fun n=>(vs.getD n default).dst) val s.e m,if L d=true then(τ (d+1)).h else s.h,s.b⟩ a w'/\Ext s.b g s.h w g' (if L d=true then(τ (d+1)).h else s.h) w') ?_ ?_ ops.size _ (by simp) (b0b ops.size fun i _=>hl0 i).symm (fun i _ h=>by rw[hl0]at h;cases h) (fun i o _ h=>by rw[hl0]at h;cases h) ?_
 ·rintro listed hs hall hlt a w' ⟨g',ok',ext'⟩
  have hm:=D.lt
  rw[hE m (Nat.le_refl _) hall,if_pos (hall d hm),<-hhi m hm (Nat.le_refl _),<-hb m (Nat.le_refl _)]at ok'
  rw[if_pos (hall d hm),<-hhi m hm (Nat.le_refl _)]at ext'
  refine b4s hS ht hok hO (ops.size - m) m (Nat.le_refl _) om hs (fun i hi=>⟨hlt i hi,hall i⟩) he ok' fun g2 a2 w2 ok2 ext2=>?_
  refine hq g2 a2 w2 ok2 (ext'.trans ext2 ?_)
  rw[hb m (Nat.le_refl _)]
  exact Nat.le_refl _
 ·rintro i co o him i3 ho hto L L' hL hL' hLo hA a w' K ⟨g',ok',ext'⟩ hk
  have hoki:o.okN N=true:=(List.all_eq_true.1 hok) _ (List.mem_of_getElem? ho)
  have hdo:(vs.getD i default).dst=o.dst:=hdm i o ho
  have hdo':(vs.getD d default).dst=od.dst:=hdm d od D.odx
  -- the slots that are named
  have hname:∀ t∈o.names,a1k (τ i).e t=a1k (a1r L (fun n=>(vs.getD n default).dst) val s.e m) t:=by
    intro t htn
    obtain⟨q1,q2⟩:=hA t htn
    have e1:a1k (a1r L (fun n=>(vs.getD n default).dst) val s.e m) t=a1k (a1r L (fun n=>(vs.getD n default).dst) val s.e i) t:=by
      have:=a4b (L:=L) (dst:=fun n=>(vs.getD n default).dst) (val:=val) (e0:=s.e) (t:=t) (i:=i) (m - i) fun k h1 h2 h3=>by
        by_cases hki:k=i
        ·subst hki;exact hL
        ·exact q2 k om om h3
      rwa [show i+(m - i)=m by omega]at this
    rw[e1,<-hE (L:=fun _=>true) i om (fun _ _=>rfl)]
    exact a2q i fun k h1 h2=>by rw[q1 k h1 h2]
  obtain⟨s1,s2⟩:=D.step i o him ho
  have hrun:a0f cx orc o ⟨(τ i).e,if L d=true then(τ (d+1)).h else s.h,s.b⟩=some ⟨(τ (i+1)).e,if L' d=true then(τ (d+1)).h else s.h,s.b⟩:=by
   have eta:∀ q:St,q=⟨q.e,q.h,q.b⟩:=fun _=>rfl
   have hb0:=hb i om
   have hb1:=hb (i+1) om
   rw[eta (τ i),eta (τ (i+1))]at s1
   rcases Nat.lt_trichotomy i d with c|c|c
   ·rw[hLo d om]
    by_cases hd:L d=true
    ·rw[if_pos hd];exact D.ahead i o c ho
    ·rw[if_neg hd]
     rw[hlo i om,hlo (i+1) om,hb0,hb1]at s1
     exact s1
   ·subst c
    rw[if_neg (by rw[hL];simp),if_pos hL']
    rw[hlo i om,hb0,hb1]at s1
    exact s1
   ·rw[hLo d om]
    by_cases hd:L d=true
    ·rw[if_pos hd]
     rw[hhi i c om,hhi (i+1) om om,hb0,hb1]at s1
     exact s1
    ·rw[if_neg hd]
     rcases D.behind i o c him ho with⟨t,ht1,ht2⟩|h
     ·exact absurd ((hA t ht2).1 d c (hdo'.trans ht1)) hd
     ·exact h
  obtain⟨x,hx1,hx2⟩:=a7c (e':=a1r L (fun n=>(vs.getD n default).dst) val s.e m) (s:=⟨(τ i).e,if L d=true then(τ (d+1)).h else s.h,s.b⟩) hname hrun
  have hval:∀ k,o.dst=some k->val i=x:=by
   intro k hk'
   have e1:=congrArg (a1k · k) (s2.symm.trans hx1)
   simpa [a2j,hk'] using e1
  refine a3d hS i3 hto hoki hx2 ok' fun g2 y w2 ok2 ext2=>hk _ _ ⟨g2,?_,ext'.trans ext2 (Nat.le_refl _)⟩
  refine⟨ok2.inv,⟨ok2.env.1,fun k hkN=>?_⟩,ok2.defers,ok2.base⟩
  have heq:a1k (a1r L' (fun n=>(vs.getD n default).dst) val s.e m) k=a1k (a7y o.dst x (a1r L (fun n=>(vs.getD n default).dst) val s.e m)) k:=by
    rw[a2j]
    by_cases hd:o.dst=some k
    ·rw[if_pos hd]
     obtain⟨q1,q2⟩:=hA k (a8l hd)
     have:=a4b (L:=L') (dst:=fun n=>(vs.getD n default).dst) (val:=val) (e0:=s.e) (t:=k) (i:=i+1) (m - (i+1)) fun n h1 h2 h3=>by
       rw[hLo n om]
       exact q2 n om om h3
     rw[show i+1+(m - (i+1))=m by omega]at this
     rw[this,a4d,if_pos ⟨hL',hdo.trans hd⟩]
     exact hval k hd
    ·rw[if_neg hd]
     exact a2q m fun n h1 h2=>hLo n (by rintro rfl;exact hd (hdo.symm.trans h2))
  have:=ok2.env.2 k hkN
  rw[heq]
  exact this
 ·refine⟨g,?_,?_⟩
  ·rw[hl0 d,a5d m fun k _=>hl0 k]
   exact⟨ok.inv.drawn _,ok.env,ok.defers,ok.base⟩
  ·rw[hl0 d]
   have e:=Ext.refl s.b g s.h w
   exact⟨e.os,e.tape,e.output,e.size,e.frame,e.keep,e.jnew,e.clean,e.len⟩
theorem e3n {orc:Orc} {vs:List a0b} {m:Nat} {s:St} {d a:Nat} {ε:Nat->Env} {val:Nat->V} {Hs:Bool->Bool->Hp} (D:e1m cx orc m vs s d a ε val Hs) {s':St} (h:a0s cx orc vs s=some s'):a0s cx orc (vs.drop m) ⟨ε m,Hs true true,s.b⟩=some s':=by
 have e:=c6a (cx:=cx) (orc:=orc) (vs:=vs) (m:=m) (τ:=fun i=>⟨ε i,Hs (decide (d < i)) (decide (a < i)),s.b⟩) (s':=s') D.le (fun i o hi ho=>by
   have:=D.run i o (decide (d < i)) (decide (a < i)) hi ho (fun e=>by rw[e];exact decide_eq_false (Nat.lt_irrefl _)) (fun e=>by rw[e];exact decide_eq_false (Nat.lt_irrefl _))
   have e1:(decide (d < i)||decide (i=d))=decide (d < i+1):=by
    rw[Bool.eq_iff_iff];simp only[Bool.or_eq_true,decide_eq_true_eq];omega
   have e2:(decide (a < i)||decide (i=a))=decide (a < i+1):=by
    rw[Bool.eq_iff_iff];simp only[Bool.or_eq_true,decide_eq_true_eq];omega
   rw[e1,e2]at this
   exact this) m 0 om (by
     have e0:(⟨ε 0,Hs (decide (d < 0)) (decide (a < 0)),s.b⟩:St)=s:=by
      rw[decide_eq_false (Nat.not_lt_zero _),decide_eq_false (Nat.not_lt_zero _),D.h0,D.zero]
     show a0s cx orc (vs.drop 0) ⟨ε 0,Hs (decide (d < 0)) (decide (a < 0)),s.b⟩=_
     rw[e0];exact h)
 have:=D.ld
 have:=D.la
 simp only[decide_eq_true D.ld,decide_eq_true D.la]at e
 exact e
theorem d3i {orc:Orc} (hS:b5s P cx orc) (hmx:P.follows .mixedOrders=true) {N:Nat} {ops:Array Oper} {id m:Nat} {vs:List a0b} (ht:a1l P ops ops.toList=some vs) (hok:vs.all (a0b.okN N)=true) (hO:b3b ops vs m)
 {s s':St} {d z:Nat} {ε:Nat->Env} {val:Nat->V} {Hs:Bool->Bool->Hp} (D:e1m cx orc m vs s d z ε val Hs) (he:a0s cx orc (vs.drop m) ⟨ε m,Hs true true,s.b⟩=some s') {a:Act} {g:Gh} {w:World} (ok:a0x dl cx N g s a w)
 {Q:Exit->Act->World->Prop} (hq:∀ g' a' w',a0x dl cx N g' s' a' w'->Ext s.b g s.h w g' s'.h w'->Q .normal a' w'):(Code.region id ops true).wp P Q a w:=by
 obtain⟨hlen,hget⟩:=a2t ht
 have hlen':vs.length=ops.size:=by simpa using hlen
 have hml:=hO.le
 have hdm:∀ n o',vs[n]? =some o'->(vs.getD n default).dst=o'.dst:=fun n o' h=>by rw[List.getD_eq_getElem?_getD,h];rfl
 have hE:∀ {L:Nat->Bool} n,n<=m->(∀ k,k < n->L k=true)->a1r L (fun n=>(vs.getD n default).dst) val s.e n=ε n:=by
   intro L n hn hL
   refine a5u (τ:=fun i=>⟨ε i,[],0⟩) (m:=n) D.zero (fun k hk=>?_) hL n (Nat.le_refl _)
   have q:=D.env k vs[k] om (List.getElem?_eq_getElem om)
   show ε (k+1)=_
   rw[q,hdm k _ (List.getElem?_eq_getElem om)]
 refine wp_region_any hmx ?_
 have hl0:∀ i,lst (Array.replicate ops.size false) i=false:=fun i=>by simp[lst,Array.getD]
 refine b1t ht hO (R:=fun L a w'=> ∃ g',a0x dl cx N g' ⟨a1r L (fun n=>(vs.getD n default).dst) val s.e m,Hs (L d) (L z),s.b⟩ a w'/\Ext s.b g s.h w g' (Hs (L d) (L z)) w') ?_ ?_ ops.size _ (by simp) (b0b ops.size fun i _=>hl0 i).symm (fun i _ h=>by rw[hl0]at h;cases h) (fun i o _ h=>by rw[hl0]at h;cases h) ?_
 ·rintro listed hs hall hlt a w' ⟨g',ok',ext'⟩
  rw[hE m (Nat.le_refl _) hall,hall d D.ld,hall z D.la]at ok'
  rw[hall d D.ld,hall z D.la]at ext'
  refine b4s hS ht hok hO (ops.size - m) m (Nat.le_refl _) om hs (fun i hi=>⟨hlt i hi,hall i⟩) he ok' fun g2 a2 w2 ok2 ext2=>?_
  exact hq g2 a2 w2 ok2 (ext'.trans ext2 (Nat.le_refl _))
 ·rintro i co o him i3 ho hto L L' hL hL' hLo hA a w' K ⟨g',ok',ext'⟩ hk
  have hoki:o.okN N=true:=(List.all_eq_true.1 hok) _ (List.mem_of_getElem? ho)
  have hdo:(vs.getD i default).dst=o.dst:=hdm i o ho
  have hname:∀ t∈o.names,a1k (ε i) t=a1k (a1r L (fun n=>(vs.getD n default).dst) val s.e m) t:=by
    intro t htn
    obtain⟨q1,q2⟩:=hA t htn
    have e1:a1k (a1r L (fun n=>(vs.getD n default).dst) val s.e m) t=a1k (a1r L (fun n=>(vs.getD n default).dst) val s.e i) t:=by
      have:=a4b (L:=L) (dst:=fun n=>(vs.getD n default).dst) (val:=val) (e0:=s.e) (t:=t) (i:=i) (m - i) fun k h1 h2 h3=>by
        by_cases hki:k=i
        ·subst hki;exact hL
        ·exact q2 k om om h3
      rwa [show i+(m - i)=m by omega]at this
    rw[e1,<-hE (L:=fun _=>true) i om (fun _ _=>rfl)]
    exact a2q i fun k h1 h2=>by rw[q1 k h1 h2]
  have hrun:a0f cx orc o ⟨ε i,Hs (L d) (L z),s.b⟩=some ⟨ε (i+1),Hs (L' d) (L' z),s.b⟩:=by
   have r:=D.run i o (L d) (L z) him ho (fun e=>by rw[<-e];exact hL) (fun e=>by rw[<-e];exact hL)
   have e1:(L d||decide (i=d))=L' d:=by
    by_cases c:i=d
    ·rw[<-c,hL',decide_eq_true rfl,Bool.or_true]
    ·rw[decide_eq_false c,Bool.or_false,hLo d (fun e=>c e.symm)]
   have e2:(L z||decide (i=z))=L' z:=by
    by_cases c:i=z
    ·rw[<-c,hL',decide_eq_true rfl,Bool.or_true]
    ·rw[decide_eq_false c,Bool.or_false,hLo z (fun e=>c e.symm)]
   rw[e1,e2]at r
   exact r
  obtain⟨x,hx1,hx2⟩:=a7c (e':=a1r L (fun n=>(vs.getD n default).dst) val s.e m) (s:=⟨ε i,Hs (L d) (L z),s.b⟩) hname hrun
  have hval:∀ k,o.dst=some k->val i=x:=by
   intro k hk'
   have e1:=congrArg (a1k · k) ((D.env i o him ho).symm.trans hx1)
   simpa [a2j,hk'] using e1
  refine a3d hS i3 hto hoki hx2 ok' fun g2 y w2 ok2 ext2=>hk _ _ ⟨g2,?_,ext'.trans ext2 (Nat.le_refl _)⟩
  refine⟨ok2.inv,⟨ok2.env.1,fun k hkN=>?_⟩,ok2.defers,ok2.base⟩
  have heq:a1k (a1r L' (fun n=>(vs.getD n default).dst) val s.e m) k=a1k (a7y o.dst x (a1r L (fun n=>(vs.getD n default).dst) val s.e m)) k:=by
    rw[a2j]
    by_cases hd:o.dst=some k
    ·rw[if_pos hd]
     obtain⟨q1,q2⟩:=hA k (a8l hd)
     have:=a4b (L:=L') (dst:=fun n=>(vs.getD n default).dst) (val:=val) (e0:=s.e) (t:=k) (i:=i+1) (m - (i+1)) fun n h1 h2 h3=>by
       rw[hLo n om]
       exact q2 n om om h3
     rw[show i+1+(m - (i+1))=m by omega]at this
     rw[this,a4d,if_pos ⟨hL',hdo.trans hd⟩]
     exact hval k hd
    ·rw[if_neg hd]
     exact a2q m fun n h1 h2=>hLo n (by rintro rfl;exact hd (hdo.symm.trans h2))
  have:=ok2.env.2 k hkN
  rw[heq]
  exact this
 ·refine⟨g,?_,?_⟩
  ·rw[hl0 d,hl0 z,a5d m fun k _=>hl0 k,D.h0]
   exact⟨ok.inv.drawn _,ok.env,ok.defers,ok.base⟩
  ·rw[hl0 d,hl0 z,D.h0]
   have e:=Ext.refl s.b g s.h w
   exact⟨e.os,e.tape,e.output,e.size,e.frame,e.keep,e.jnew,e.clean,e.len⟩
theorem c1l {orc:Orc} {o:a0b} {s s':St} (hp:b7j o.op=true) (h:a0f cx orc o s=some s'):s'.h=s.h:=by
 have key:∀ {dst:Option Nat} {r:Option (V×Hp)},(∀ v H',r=some (v,H')->H'=s.h)->lay dst s.e s.b r=some s'->s'.h=s.h:=by
  intro dst r hr h
  cases r with
  |none=>cases h
  |some q=>
   obtain⟨v,H2⟩:=q
   have:=hr v H2 rfl
   simp only[lay,Option.map_some,Option.some.injEq]at h
   rw[<-h];exact this
 obtain⟨dst,op,g⟩:=o
 cases g with
 |none=>exact key (fun v H' hr=>d7m hp hr) h
 |some gb=>
  obtain⟨g,b⟩:=gb
  simp only[a0f,grd]at h
  split at h
  ·split at h
   ·exact key (fun v H' hr=>d7m hp hr) h
   ·cases h;rfl
  ·cases h;rfl
  ·cases h
theorem c6m {L L':Nat->Bool} {dst:Nat->Option Nat} {val:Nat->V} {e0:Env}:∀ n,(∀ k,k < n->L k=L' k)->a1r L dst val e0 n=a1r L' dst val e0 n
 |0,_=>rfl
 |n+1,h=>by simp only[a1r];rw[h n om,c6m n fun k hk=>h k om]
theorem d7j {orc:Orc} (hS:b5s P cx orc) (hmx:P.follows .mixedOrders=true) {N:Nat} {ops:Array Oper} {id m:Nat} {vs:List a0b} (ht:a1l P ops ops.toList=some vs) (hok:vs.all (a0b.okN N)=true) (hO:b3b ops vs m)
 {s s' r:St} {z:Nat} (hm:m=z+3) (hsh:d3s z vs=true) (hr:a2c cx orc (z+2) vs s=some r) (hev:a0s cx orc vs s=some s') {a:Act} {g:Gh} {w:World} (ok:a0x dl cx N g s a w)
 {Q:Exit->Act->World->Prop} (hq:∀ g' a' w',a0x dl cx N g' s' a' w'->Ext s.b g s.h w g' s'.h w'->Q .normal a' w'):(Code.region id ops true).wp P Q a w:=by
 have hrs:r=s':=by have:=a8r hr;rw[hev]at this;exact(Option.some.inj this).symm
 subst hrs
 subst hm
 obtain⟨hlen,hget⟩:=a2t ht
 have hlen':vs.length=ops.size:=by simpa using hlen
 have hml:=hO.le
 have hdm:∀ n o',vs[n]? =some o'->(vs.getD n default).dst=o'.dst:=fun n o' h=>by rw[List.getD_eq_getElem?_getD,h];rfl
 unfold d3s at hsh
 rw[Bool.and_eq_true]at hsh
 obtain⟨hpu,hsh⟩:=hsh
 split at hsh
 rotate_left
 ·cases hsh
 rename_i k1 z1 k2 z2 sz p v rest hdr
 simp only[Bool.and_eq_true,beq_iff_eq,bne_iff_ne]at hsh
 obtain⟨⟨⟨rfl,hk12⟩,hv1⟩,hv2⟩:=hsh
 have o1:vs[z]? =some ⟨some p,.zbox z1,none⟩:=by have:=congrArg (·[0]?) hdr;simpa using this
 have o2:vs[z+1]? =some ⟨some k2,.zbox z2,none⟩:=by have:=congrArg (·[1]?) hdr;simpa using this
 have o3:vs[z+2]? =some ⟨none,.st sz (.t p) (.t v),none⟩:=by have:=congrArg (·[2]?) hdr;simpa using this
 obtain⟨τ,val,T,he⟩:=b1n (z+2) vs s r om hr
 have G:=b5h (N:=N) T om ok.inv.und fun k hk=>(ok.env.2 k hk).2
 have TE:∀ n o,n < z+2->vs[n]? =some o->(τ (n+1)).e=a7y o.dst (val n) (τ n).e:=fun n o hn ho=>(T.step n o hn ho).2.1
 have lo:∀ i,i<=z->(τ i).h=s.h:=by
  intro i
  induction i with
  |zero=>intro _;rw[T.zero]
  |succ i ih=>
   intro hi
   have hl:i < vs.length:=om
   have hp:=(List.all_eq_true.1 hpu) vs[i] (by rw[List.mem_iff_getElem?];exact⟨i,by rw[List.getElem?_take,if_pos om];exact List.getElem?_eq_getElem hl⟩)
   rw[c1l hp (T.step i vs[i] om (List.getElem?_eq_getElem hl)).1,ih om]
 have t1:τ (z+1)=⟨a7y (some p) (.ptr s.h.length 0) (τ z).e,s.h++[.box z1],s.b⟩:=by
  have:=(T.step z _ om o1).1
  simp only[a0f,a0q,lay,Option.map_some,Option.some.injEq]at this
  rw[<-this,lo z (Nat.le_refl _),G.b z om]
 have t2:τ (z+2)=⟨a7y (some k2) (.ptr (s.h.length+1) 0) (τ (z+1)).e,s.h++[.box z1,.box z2],s.b⟩:=by
  have:=(T.step (z+1) _ om o2).1
  simp only[a0f,a0q,lay,Option.map_some,Option.some.injEq]at this
  rw[show z+2=z+1+1 from rfl,<-this,t1];simp
 -- the store
 rw[List.drop_eq_getElem_cons om]at he
 have o3':vs[z+2]=⟨none,.st sz (.t p) (.t v),none⟩:=by rw[List.getElem?_eq_getElem om]at o3;exact Option.some.inj o3
 rw[o3']at he
 simp only[a0s]at he
 obtain⟨q,hq3,he⟩:=Option.bind_eq_some_iff.1 he
 have gp:a1k (τ (z+2)).e p= .ptr s.h.length 0:=by
  rw[t2];simp only[a2j]
  rw[if_neg (by simpa using fun h=>hk12 h.symm),t1];simp only[a2j];simp
 have gv:a1k (τ (z+2)).e v=a1k (τ z).e v:=by
  rw[t2];simp only[a2j]
  rw[if_neg (by simpa using fun h=>hv2 h.symm),t1];simp only[a2j]
  rw[if_neg (by simpa using fun h=>hv1 h.symm)]
 generalize hx:a1k (τ z).e v=x at gv
 have hqs:∃ c',q=⟨(τ (z+2)).e,s.h++[.box c',.box z2],s.b⟩/\(x.und s.h.length=true->a0w (s.h.length+1) z1=true->a0w (s.h.length+1) c'=true):=by
  simp only[a0f,a0q,evO,gp,gv,c2g]at hq3
  rw[t2]at hq3
  simp only at hq3
  have hg:(s.h++[Ob.box z1,Ob.box z2])[s.h.length]? =some (.box z1):=by rw[List.getElem?_append_right (Nat.le_refl _)];simp
  rw[hg]at hq3
  simp only at hq3
  split at hq3
  ·rename_i hc
   simp only[Option.map_some,lay,Option.some.injEq]at hq3
   refine⟨putAt z1 0 x.cells,?_,fun hu hz=>?_⟩
   ·rw[<-hq3,t2];simp[a7y]
   ·exact b8j (by have:=hc.2.1;rw[hc.1];exact this) hz (a3l (Nat.le_succ _) _ (b8o hu hc.2.2.1))
  ·cases hq3
 obtain⟨c',rfl,hcu⟩:=hqs
 -- the other trace
 obtain⟨τ',hτ'⟩:∃ τ':Nat->St,τ'=fun i=>if i<=z then τ i else if i=z+1 then⟨(τ (z+1)).e,s.h++[.box c'],s.b⟩ else⟨(τ (z+2)).e,s.h++[.box c',.box z2],s.b⟩:=⟨_,rfl⟩
 have p0:∀ i,i<=z->τ' i=τ i:=fun i hi=>by rw[hτ'];exact if_pos hi
 have p1:τ' (z+1)=⟨(τ (z+1)).e,s.h++[.box c'],s.b⟩:=by rw[hτ'];show(if _ then _ else _)=_;rw[if_neg om,if_pos rfl]
 have p2:τ' (z+2)=⟨(τ (z+2)).e,s.h++[.box c',.box z2],s.b⟩:=by rw[hτ'];show(if _ then _ else _)=_;rw[if_neg om,if_neg om]
 have cas:∀ i,i<=z+2->i<=z\/i=z+1\/i=z+2:=fun i hi=>om
 have pe:∀ i,i<=z+2->(τ' i).e=(τ i).e:=fun i hi=>by
   rcases cas i hi with h|rfl|rfl
   ·rw[p0 i h]
   ·rw[p1]
   ·rw[p2]
 have pl:∀ i,i<=z+2->(τ' i).h.length=(τ i).h.length:=fun i hi=>by
   rcases cas i hi with h|rfl|rfl
   ·rw[p0 i h]
   ·rw[p1,t1];simp
   ·rw[p2,t2];simp
 have TE':∀ n o,n < z+2->vs[n]? =some o->(τ' (n+1)).e=a7y o.dst (val n) (τ' n).e:=fun n o hn ho=>by
   rw[pe (n+1) om,pe n om];exact TE n o hn ho
 have hvN:v < N:=by
  have hoki:(⟨none,.st sz (.t p) (.t v),none⟩:a0b).okN N=true:=(List.all_eq_true.1 hok) _ (List.mem_of_getElem? o3)
  have:=(b8m hoki).2.1
  simp[VOp.a5g,Opd.lt]at this
  exact this.2
 have hcu1:a0w (s.h.length+1) c'=true:=hcu (by
     have:=G.und z om v hvN
     rwa [hx,lo z (Nat.le_refl _)]at this) (by
     have:=G.clean (z+1) om s.h.length z1 (by rw[t1];simp) (by rw[t1];simp)
     rw[t1]at this;simpa using this)
 have C1:Clean (s.h.length+1) (s.h++[.box c']):=by
  have h0:=G.clean 0 om
  rw[T.zero]at h0
  exact d0r h0 (Nat.le_succ _) _ rfl (by simp only[a4k,Bool.and_true];exact hcu1)
 have G':Good N (z+2) s τ':=by
  refine⟨fun i hi=>?_,fun i hi k hk=>?_,fun i hi=>?_,fun i k hik hk=>?_⟩
  ·rcases cas i hi with h|rfl|rfl
   ·rw[p0 i h];exact G.clean i hi
   ·rw[p1]
    show Clean (s.h++[Ob.box c']).length _
    rw[List.length_append];exact C1
   ·rw[p2]
    show Clean (s.h++[Ob.box c',Ob.box z2]).length (s.h++[Ob.box c',Ob.box z2])
    rw[show s.h++[Ob.box c',Ob.box z2]=(s.h++[Ob.box c'])++[Ob.box z2] by simp]
    refine d0r (n:=s.h.length+1) C1 (by simp) _ (by simp) ?_
    simp only[a4k,Bool.and_true]
    have:=G.clean (z+2) om (s.h.length+1) z2 (by rw[t2];simp) (by rw[t2];rw[List.getElem?_append_right om];simp)
    rw[t2]at this
    simpa using this
  ·rw[pe i hi,pl i hi];exact G.und i hi k hk
  ·rcases cas i hi with h|rfl|rfl
   ·rw[p0 i h];exact G.b i hi
   ·rw[p1]
   ·rw[p2]
  ·rcases cas i om with h|rfl|rfl
   ·rcases cas k hk with h2|rfl|rfl
    ·rw[p0 i h,p0 k h2,lo i h,lo k h2];exact⟨[],by simp⟩
    ·rw[p0 i h,p1,lo i h];exact⟨_,rfl⟩
    ·rw[p0 i h,p2,lo i h];exact⟨_,rfl⟩
   ·rcases cas k hk with h2|rfl|rfl
    ·omega
    ·exact⟨[],by simp⟩
    ·rw[p1,p2];exact⟨[.box z2],by simp⟩
   ·obtain rfl:k=z+2:=om
    exact⟨[],by simp⟩
 refine wp_region_any hmx ?_
 have hl0:∀ i,lst (Array.replicate ops.size false) i=false:=fun i=>by simp[lst,Array.getD]
 obtain⟨l,hl⟩:=G.grow 0 (z+2) (Nat.zero_le _) (Nat.le_refl _)
 rw[T.zero]at hl
 have hk:=c1u g s.h l
 rw[<-hl]at hk
 have hout:∀ id,s.h.length<=id->g.J id=none:=fun id hid=>by
   cases hj:g.J id with
   |none=>rfl
   |some p=>have:=(ok.inv.dom id p.1 p.2 hj).1;omega
 let dst:Nat->Option Nat:=fun n=>(vs.getD n default).dst
 have dz:dst z=some p:=hdm z _ o1
 have dd:dst (z+2)=none:=hdm _ _ o3
 refine b1t ht hO (R:=fun L a w'=> ∃ g',(L (z+2)=false/\Dst dl cx N (z+2) τ dst val g s w L g' a w')\/(L (z+2)=true/\L z=true/\Dst dl cx N (z+2) τ' dst val g s w L g' a w')) ?_ ?_ ops.size _ (by simp) (b0b ops.size fun i _=>hl0 i).symm (fun i _ h=>by rw[hl0]at h;cases h) (fun i o _ h=>by rw[hl0]at h;cases h) ?_
 ·rintro listed hs hall hlt a w' ⟨g',D⟩
  have hd:=hall (z+2) om
  rcases D with⟨h,_⟩|⟨_,_,D⟩
  ·rw[hd]at h;cases h
  have hE:a1r (lst listed) dst val s.e (z+2)=(τ' (z+2)).e:=a5u (by rw[p0 0 om,T.zero]) (fun n hn=>by
    rw[TE' n vs[n] hn (List.getElem?_eq_getElem om)]
    show a7y _ _ _=a7y (dst n) _ _
    rw[show dst n=vs[n].dst from hdm n _ (List.getElem?_eq_getElem om)]) (fun i hi=>hall i om) (z+2) (Nat.le_refl _)
  have hlm:s.h.length<=(τ' (z+2)).h.length:=D.ext.len
  refine b4s hS ht hok hO (ops.size - (z+3)) (z+3) (Nat.le_refl _) om hs (fun i hi=>⟨hlt i hi,hall i⟩) (s:=τ' (z+2)) (by rw[p2];exact he) ⟨D.inv,⟨D.size,fun k hk=>⟨by rw[<-hE];exact D.env k hk,G'.und (z+2) (Nat.le_refl _) k hk⟩⟩,D.defers,by rw[G'.b (z+2) (Nat.le_refl _)];have:=ok.base;omega⟩ fun g' a' w' ok' ext'=>?_
  refine hq g' a' w' ok' (D.ext.trans ext' ?_)
  rw[G'.b (z+2) (Nat.le_refl _)]
  exact Nat.le_refl _
 ·rintro i co o him i3 ho hto L L' hL hL' hLo hA a w' K ⟨g',D⟩ hk
  have hoki:o.okN N=true:=(List.all_eq_true.1 hok) _ (List.mem_of_getElem? ho)
  have hdo:dst i=o.dst:=hdm i o ho
  by_cases hi:i=z+2
  ·subst hi
   rcases D with⟨_,D⟩|⟨h,_⟩
   rotate_left
   ·rw[hL]at h;cases h
   obtain rfl:(⟨none,.st sz (.t p) (.t v),none⟩:a0b)=o:=by rw[o3]at ho;exact Option.some.inj ho
   have hnp:p∈(⟨none,.st sz (.t p) (.t v),none⟩:a0b).names:=by simp[a0b.names,VOp.a5g,Opd.slots]
   have hname:∀ t∈(⟨none,.st sz (.t p) (.t v),none⟩:a0b).names,a1k (τ (z+2)).e t=a1k (a1r L dst val s.e (z+2)) t:=by
    intro t htn
    obtain⟨q1,q2⟩:=hA t htn
    rw[<-a5u (L:=fun _=>true) (dst:=dst) (val:=val) (e0:=s.e) (τ:=τ) (m:=z+2) (by rw[T.zero]) (fun n hn=>by
      rw[TE n vs[n] hn (List.getElem?_eq_getElem om)]
      show a7y _ _ _=a7y (dst n) _ _
      rw[show dst n=vs[n].dst from hdm n _ (List.getElem?_eq_getElem om)]) (fun _ _=>rfl) (z+2) (Nat.le_refl _)]
    exact a2q (z+2) fun k h1 h2=>by rw[q1 k h1 h2]
   have hundL:∀ t,t < N->(a1k (a1r L dst val s.e (z+2)) t).und (τ (z+2)).h.length=true:=by
    intro t htN
    have:∀ n,n<=z+2->(a1k (a1r L dst val s.e n) t).und (τ (z+2)).h.length=true:=by
     have hlen:∀ j,j<=z+2->(τ j).h.length<=(τ (z+2)).h.length:=fun j hj=>by
       obtain⟨l,hl⟩:=G.grow j (z+2) hj (Nat.le_refl _)
       rw[hl];simp
     intro n
     induction n with
     |zero=>
      intro _
      have:=G.und 0 om t htN
      rw[T.zero]at this
      have h0:=hlen 0 om
      rw[T.zero]at h0
      exact V.a6b h0 _ this
     |succ n ih=>
      intro hn
      rw[a4d]
      split
      ·rename_i h
       have h1:=G.und (n+1) hn t htN
       rw[TE n vs[n] om (List.getElem?_eq_getElem om),a2j,<-hdm n _ (List.getElem?_eq_getElem om),if_pos h.2]at h1
       exact V.a6b (hlen (n+1) hn) _ h1
      ·exact ih om
    exact this (z+2) (Nat.le_refl _)
   obtain⟨x',hx1,hx2⟩:=a7c (e':=a1r L dst val s.e (z+2)) (s:=⟨(τ (z+2)).e,(τ (z+2)).h,s.b⟩) hname (show a0f cx orc _ _=some ⟨(τ (z+2)).e,s.h++[.box c',.box z2],s.b⟩by rw[<-hq3];rw[show(⟨(τ (z+2)).e,(τ (z+2)).h,s.b⟩:St)=τ (z+2)by rw[t2]])
   have hb:s.b<=(τ (z+2)).h.length:=Nat.le_trans ok.base D.ext.len
   refine a3d hS i3 hto hoki hx2 (s:=⟨a1r L dst val s.e (z+2),(τ (z+2)).h,s.b⟩) ⟨D.inv,⟨D.size,fun k hk=>⟨D.env k hk,hundL k hk⟩⟩,D.defers,hb⟩ fun g2 y w2 ok2 ext2=>hk _ _ ⟨g2,.inr ⟨hL',?_,?_⟩⟩
   ·rw[hLo z om]
    exact(hA p hnp).1 z om dz
   ·have hJ:∀ id,s.h.length<=id->id < (τ (z+2)).h.length->g2.J id=g'.J id:=fun id h1 h2=>by
      have hb2:∃ c,(τ (z+2)).h[id]? =some (.box c):=by
       rw[t2]at h2⊢
       simp only[List.length_append,List.length_cons,List.length_nil]at h2
       show ∃ c,(s.h++[Ob.box z1,Ob.box z2])[id]? =some (.box c)
       rw[List.getElem?_append_right h1]
       rcases(by omega:id - s.h.length=0\/id - s.h.length=1)with e|e<;>rw[e]<;>exact⟨_,rfl⟩
      obtain⟨c,hc⟩:=hb2
      exact(ext2.keep.obj id _ h2 hc (by simp)).1
    have hE':a1r L' dst val s.e (z+2)=a1r L dst val s.e (z+2):=by
     refine c6m (z+2) fun n hn=>hLo n om
    have hp2h:(τ' (z+2)).h=s.h++[.box c',.box z2]:=by rw[p2]
    refine⟨by rw[hp2h];exact ok2.inv,ok2.env.1,fun k hkN=>?_,ok2.defers,?_,fun i' hi' hL'' id h1 h2=>?_⟩
    ·rw[hE',hp2h]
     have:=(ok2.env.2 k hkN).1
     exact this
    ·rw[hp2h];exact D.ext.trans ext2 (Nat.le_refl _)
    ·rw[pl i' om]at h1
     rw[pl (i'+1) om]at h2
     have h3:s.h.length<=id:=by
      obtain⟨l',hl'⟩:=G.grow 0 i' (Nat.zero_le _) om
      rw[T.zero]at hl'
      have:s.h.length<=(τ i').h.length:=by rw[hl'];simp
      omega
     have h4:id < (τ (z+2)).h.length:=by
      obtain⟨l',hl'⟩:=G.grow (i'+1) (z+2) om (Nat.le_refl _)
      have:(τ (i'+1)).h.length<=(τ (z+2)).h.length:=by rw[hl'];simp
      omega
     rw[hJ id h3 h4]
     exact D.unl i' hi' (by rw[<-hLo i' om];exact hL'') id h1 h2
  ·have hA':∀ t∈o.names,(∀ n,n < i->dst n=some t->L n=true)/\(∀ n,i < n->n < z+2->dst n=some t->L n=false):=fun t htn=>⟨(hA t htn).1,fun n h1 h2=>(hA t htn).2 n h1 om⟩
   rcases D with⟨h,D⟩|⟨h,hz,D⟩
   ·exact d0i hS T G ok.base om i3 ho hto hoki hdo hdm om hL hL' hLo hA' D fun g2 a2 w2 D2=>hk _ _ ⟨g2,.inl ⟨by rw[hLo (z+2) (Ne.symm hi)];exact h,D2⟩⟩
   ·have hiz:i≠z:=by rintro rfl;rw[hL]at hz;cases hz
    have TI:a0f cx orc o (τ' i)=some (τ' (i+1)):=by
     rcases cas i om with h1|rfl|rfl
     ·rw[p0 i h1,p0 (i+1) om];exact(T.step i o om ho).1
     ·obtain rfl:(⟨some k2,.zbox z2,none⟩:a0b)=o:=by rw[o2]at ho;exact Option.some.inj ho
      rw[p1,p2,t2]
      simp[a0f,a0q,lay]
     ·exact absurd rfl hi
    exact c5w hS (by rw[p0 0 om,T.zero]) TE' G' ok.base om i3 ho TI hto hoki hdo hdm om hL hL' hLo hA' D fun g2 a2 w2 D2=>hk _ _ ⟨g2,.inr ⟨by rw[hLo (z+2) (Ne.symm hi)];exact h,by rw[hLo z (Ne.symm hiz)];exact hz,D2⟩⟩
 ·refine⟨g,.inl ⟨hl0 _,?_,ok.env.1,fun k hkN=>?_,ok.defers,⟨rfl,rfl,rfl,Nat.le_refl _,fun _ _ _=>⟨rfl,rfl⟩,?_,fun i _ c h _=>⟨i,c,h⟩,fun n hn hc=>?_,by rw[hl];simp⟩,fun i hi _ id h1 h2=>hout id ?_⟩⟩
  ·have hI:=ok.inv
   refine⟨hI.inj,fun i b c hj=>⟨by rw[hl,List.length_append];have:=(hI.dom i b c hj).1;omega,(hI.dom i b c hj).2⟩,fun i b c o hj ho=>?_,hI.imm,G.clean (z+2) (Nat.le_refl _),hI.glob,hI.fix⟩
   have hi:=(hI.dom i b c hj).1
   rw[hl,List.getElem?_append_left hi]at ho
   exact(hI.ob i b c o hj ho).ext hk rfl rfl (by rintro c' rfl;exact hI.und i c' hi ho)
  ·rw[a5d (z+2) fun k _=>hl0 k]
   exact a2m hk _ _ (ok.env.2 k hkN).2 (ok.env.2 k hkN).1
  ·rw[hl]
   exact⟨fun _=>List.prefix_refl _,fun i o hi ho hr=>⟨rfl,o,by rw[List.getElem?_append_left hi];exact ho,hr⟩,fun i sz r hi ho=>⟨r,by rw[List.getElem?_append_left hi];exact ho,List.prefix_refl _,fun _=>rfl⟩⟩
  ·intro i c hi ho
   have:=ok.base
   rw[hl,List.getElem?_append_left om]at ho
   exact hc i c hi ho
  ·obtain⟨l',hl'⟩:=G.grow 0 i (Nat.zero_le _) om
   rw[T.zero]at hl'
   have:s.h.length<=(τ i).h.length:=by rw[hl'];simp
   omega
theorem f0q {orc:Orc} (hS:b5s P cx orc) (hmx:P.follows .mixedOrders=true) {N:Nat} {ops:Array Oper} {id m:Nat} {vs:List a0b} (ht:a1l P ops ops.toList=some vs) (hok:vs.all (a0b.okN N)=true) (hord:b1p ops vs m=true)
 {s s':St} (h:b1e cx orc m vs s=some s') {a:Act} (ok:a0x dl cx N g s a w)
 {Q:Exit->Act->World->Prop} (hq:∀ g' a' w',a0x dl cx N g' s' a' w'->Ext s.b g s.h w g' s'.h w'->Q .normal a' w'):(Code.region id ops true).wp P Q a w:=by
 obtain⟨h1,h2⟩:=a3e.1 h
 rcases h2 with⟨r,hr⟩|⟨d,od,τ,val,D⟩|⟨d,z,ε,val,Hs,D⟩|⟨z,hm,hsh,r,hr⟩
 ·have:=a8r hr
  rw[h1]at this
  cases this
  exact e4q hS hmx ht hok hord hr ok hq
 ·exact d6o hS hmx ht hok (a4x hord) D (e3v D h1) ok hq
 ·exact d3i hS hmx ht hok (a4x hord) D (e3n D h1) ok hq
 ·exact d7j hS hmx ht hok (a4x hord) hm hsh hr h1 ok hq
end
end Go.Vm
namespace Go.Vm
section
variable {dl:List Deferred} {P:Program} {cx:Cx} {g:Gh} {w:World} {H:Hp}
theorem d1q {orc:Orc} {lp:Lp} {N sz t:Nat} {s s':St} {x:Ex} {a:Act} (hN:t < N) (h:evC cx orc lp (.newrow sz t) s=some (x,s')) (ok:a0x dl cx N g s a w):
 x= .nrm/\a0x dl cx N g s' a w/\Ext s.b g s.h w g s'.h w/\s'.b=s.b:=by
 simp only[evC]at h
 split at h
 ·rename_i hv
  split at h
  ·rename_i hsz
   cases h
   have hI:=ok.inv
   obtain⟨e1,e2⟩:=ok.env.2 t hN
   rw[hv]at e1
   simp only[Rep]at e1
   have hout:∀ p,g.J s.h.length≠some p:=fun p hp=>by have:=(hI.dom _ p.1 p.2 hp).1;omega
   have hext:Ext s.b g s.h w g (s.h++[.row sz []]) w:=⟨rfl,rfl,rfl,Nat.le_refl _,fun _ _ _=>⟨rfl,rfl⟩,b9r _ _ _ _ _ (Nat.le_refl _) (fun _=>List.prefix_refl _) (fun _ _=>rfl),fun i _ c h _=>⟨i,c,h⟩,fun n hn hc=>b4w (by have:=ok.base;omega) hc,by simp⟩
   refine⟨rfl,⟨?_,?_,ok.defers,by have:=ok.base;simp;omega⟩,hext,rfl⟩
   ·refine⟨hI.inj,fun i b c hj=>⟨by simp;have:=(hI.dom i b c hj).1;omega,(hI.dom i b c hj).2⟩,fun i b c o hj ho=>?_,hI.imm,?_,hI.glob,hI.fix⟩
    ·have hi:=(hI.dom i b c hj).1
     rw[a5v _ _ i hi]at ho
     exact(hI.ob i b c o hj ho).ext hext.keep.w rfl rfl (by rintro c' rfl;exact hI.und i c' hi ho)
    ·intro i c hi ho
     by_cases hlt:i < s.h.length
     ·rw[a5v _ _ i hlt]at ho
      exact a3l (by simp) _ (hI.und i c hlt ho)
     ·have:i=s.h.length:=by simp at hi;omega
      subst this
      rw[a3t]at ho
      cases ho
   ·have:=(ok.env.ext hext).put (d:=some t) (v:= .row s.h.length 0) (x:=a.tmps.getD t undef) (fun k hk=>by cases hk;exact hN) (by
      simp only[Rep]
      exact⟨none,0,sz,[],e1,a3t _ _,by simp,fun _=> .inl (by simp)⟩) (by simp[V.und])
    have e3:g3x (some t) (a.tmps.getD t undef) a.tmps=a.tmps:=by
     simp only[g3x]
     apply Array.ext
     ·simp
     ·intro i h1 h2
      by_cases hti:t=i
      ·subst hti;simp[Array.getD,h2]
      ·rw[Array.getElem_setIfInBounds_ne h2 hti]
    rw[e3]at this
    exact this
  ·cases h
 ·cases h
theorem d4o {l:List V} {vs:List Value} (r:a1o g H l vs) {k:Nat} {v:V} {y:Value} (hy:vs[k]? =some y) (h1:v.one=true) (h2:Rep g H v y):a1o g H (l.set k v) vs:=by
 induction l generalizing vs k with
 |nil=>simpa using r
 |cons x xs ih=>
  simp only[a1o]at r
  obtain⟨z,zs,rfl,r1,r2,r3⟩:=r
  cases k with
  |zero=>
   simp only[List.getElem?_cons_zero,Option.some.injEq]at hy
   subst hy
   simp only[List.set_cons_zero,a1o]
   exact⟨_,_,rfl,h1,h2,r3⟩
  |succ k=>
   simp only[List.getElem?_cons_succ]at hy
   simp only[List.set_cons_succ,a1o]
   exact⟨_,_,rfl,r1,r2,ih r3 hy⟩
theorem c9v {n:Nat}:∀ {l:List V} (k:Nat) {v:V},a0w n l=true->v.und n=true->a0w n (l.set k v)=true
 |[],k,v,_,_=>by cases k<;>rfl
 |x::xs,0,v,h,hv=>by simp only[a0w,Bool.and_eq_true]at h;simp only[List.set_cons_zero,a0w,hv,h.2,Bool.and_self]
 |x::xs,k+1,v,h,hv=>by simp only[a0w,Bool.and_eq_true]at h;simp only[List.set_cons_succ,a0w,h.1,c9v k h.2 hv,Bool.and_self]
theorem c9q {orc:Orc} {lp:Lp} {N sz t off:Nat} {s s':St} {x:Ex} {a:Act} (hN:t < N) (h:evC cx orc lp (.bindrow sz t off) s=some (x,s')) (ok:a0x dl cx N g s a w):
 x= .nrm/\a0x dl cx N g s' a w/\Ext s.b g s.h w g s'.h w/\s'.b=s.b:=by
 simp only[evC]at h
 split at h
 ·rename_i id o hv
  split at h
  ·rename_i c hc
   split at h
   ·rename_i hnil
    split at h
    ·rename_i hb
     cases h
     have hI:=ok.inv
     have hid:=(List.getElem?_eq_some_iff.1 hc).1
     -- the heap's two steps in one
     generalize hH':s.h.set id (.box (c.set (o+off) (.row s.h.length 0)))++[Ob.row sz []]=H'
     have hlen:H'.length=s.h.length+1:=by rw[<-hH'];simp
     have hold:∀ i,i < s.h.length->i≠id->H'[i]? =s.h[i]? :=fun i hi hne=>by
       rw[<-hH',List.getElem?_append_left (by simpa using hi),List.getElem?_set_ne (Ne.symm hne)]
     have hself:H'[id]? =some (.box (c.set (o+off) (.row s.h.length 0))):=by
      rw[<-hH',List.getElem?_append_left (by simpa using hid),List.getElem?_set_self hid]
     have hlast:H'[s.h.length]? =some (.row sz []):=by rw[<-hH'];simp
     have hkeep:Keep s.h.length g s.h g H':=by
      refine⟨fun _=>List.prefix_refl _,fun i ob hi ho hr=>⟨rfl,?_⟩,fun i sz' l hi ho=>?_⟩
      ·by_cases he:i=id
       ·subst he;exact⟨_,hself,by simp⟩
       ·exact⟨ob,by rw[hold i hi he];exact ho,hr⟩
      ·by_cases he:i=id
       ·subst he;rw[hc]at ho;cases ho
       ·exact⟨l,by rw[hold i hi he];exact ho,List.prefix_refl _,fun _=>rfl⟩
     have hund:Clean H'.length H':=by
      intro i ci hi ho
      by_cases he:i=id
      ·subst he
       rw[hself]at ho
       cases ho
       exact c9v _ (a3l om _ (hI.und i c hid hc)) (by simp[V.und,hlen])
      ·by_cases hlt:i < s.h.length
       ·rw[hold i hlt he]at ho
        exact a3l om _ (hI.und i ci hlt ho)
       ·have:i=s.h.length:=by have hi':i < H'.length:=hi;omega
        rw[this,hlast]at ho;cases ho
     have hext:Ext s.b g s.h w g H' w:=⟨rfl,rfl,rfl,Nat.le_refl _,fun _ _ _=>⟨rfl,rfl⟩,hkeep,fun i _ c h _=>⟨i,c,h⟩,fun n hn hcl=>by
       intro i ci hi ho
       have hbs:=ok.base
       rw[hold i om om]at ho
       exact hcl i ci hi ho,om⟩
     refine⟨rfl,⟨?_,ok.env.ext hext,ok.defers,by have:=ok.base;show s.b<=H'.length;omega⟩,hext,rfl⟩
     refine⟨hI.inj,fun i b c hj=>⟨by have:=(hI.dom i b c hj).1;show i < H'.length;omega,(hI.dom i b c hj).2⟩,fun i b cap ob hj ho=>?_,hI.imm,hund,hI.glob,hI.fix⟩
     have hi:=(hI.dom i b cap hj).1
     by_cases he:i=id
     ·subst he
      rw[hself]at ho
      cases ho
      have hob:=hI.ob i b cap _ hj hc
      obtain⟨cur,e,q1,q2,q3⟩:=hob
      have r1:=a6n hkeep.w c _ (hI.und i c hid hc) q2
      refine⟨cur,e,q1,?_,q3⟩
      obtain⟨y,y1,y2,y3⟩:=b3h q2 hnil
      simp only[Rep]at y3
      refine d4o r1 y1 rfl ?_
      simp only[Rep]
      exact⟨none,0,sz,[],y3,hlast,by simp,fun _=> .inl (by simp)⟩
     ·rw[hold i hi he]at ho
      exact(hI.ob i b cap ob hj ho).ext hkeep.w rfl rfl (by rintro c' rfl;exact hI.und i c' hi ho)
    ·cases h
   ·cases h
  ·cases h
 ·cases h
theorem d6n {orc:Orc} {lp:Lp} {N sz:Nat} {s s':St} {x:Ex} {a:Act} (h:evC cx orc lp (.mkrow sz) s=some (x,s')) (ok:a0x dl cx N g s a w):
 x= .nrm/\a0x dl cx N g s' a w/\Ext s.b g s.h w g s'.h w/\s'.b=s.b:=by
 simp only[evC]at h
 split at h
 ·cases h
  have hI:=ok.inv
  have hext:Ext s.b g s.h w g (s.h++[.row sz []]) w:=⟨rfl,rfl,rfl,Nat.le_refl _,fun _ _ _=>⟨rfl,rfl⟩,b9r _ _ _ _ _ (Nat.le_refl _) (fun _=>List.prefix_refl _) (fun _ _=>rfl),fun i _ c h _=>⟨i,c,h⟩,fun n hn hc=>b4w (by have:=ok.base;omega) hc,by simp⟩
  refine⟨rfl,⟨?_,ok.env.ext hext,ok.defers,by have:=ok.base;simp;omega⟩,hext,rfl⟩
  refine⟨hI.inj,fun i b c hj=>⟨by simp;have:=(hI.dom i b c hj).1;omega,(hI.dom i b c hj).2⟩,fun i b c o hj ho=>?_,hI.imm,?_,hI.glob,hI.fix⟩
  ·have hi:=(hI.dom i b c hj).1
   rw[a5v _ _ i hi]at ho
   exact(hI.ob i b c o hj ho).ext hext.keep.w rfl rfl (by rintro c' rfl;exact hI.und i c' hi ho)
  ·intro i c hi ho
   by_cases hlt:i < s.h.length
   ·rw[a5v _ _ i hlt]at ho
    exact a3l (by simp) _ (hI.und i c hlt ho)
   ·have:i=s.h.length:=by simp at hi;omega
    subst this
    rw[a3t]at ho
    cases ho
 ·cases h
theorem d3o {orc:Orc} {lp:Lp} {N t off k:Nat} {s s':St} {x:Ex} {a:Act} (h:evC cx orc lp (.bindto t off k) s=some (x,s')) (ok:a0x dl cx N g s a w):
 x= .nrm/\a0x dl cx N g s' a w/\Ext s.b g s.h w g s'.h w/\s'.b=s.b:=by
 simp only[evC]at h
 split at h
 ·rename_i id o hv
  split at h
  ·rename_i c hc
   split at h
   ·rename_i sz hnil hrow
    split at h
    ·rename_i hk
     cases h
     have hI:=ok.inv
     have hid:=(List.getElem?_eq_some_iff.1 hc).1
     generalize hH':s.h.set id (.box (c.set (o+off) (.row (id - k) 0)))=H'
     have hlen:H'.length=s.h.length:=by rw[<-hH'];simp
     have hold:∀ i,i≠id->H'[i]? =s.h[i]? :=fun i hne=>by rw[<-hH',List.getElem?_set_ne (Ne.symm hne)]
     have hself:H'[id]? =some (.box (c.set (o+off) (.row (id - k) 0))):=by rw[<-hH',List.getElem?_set_self hid]
     have hkeep:Keep s.h.length g s.h g H':=by
      refine⟨fun _=>List.prefix_refl _,fun i ob hi ho hr=>⟨rfl,?_⟩,fun i sz' l hi ho=>?_⟩
      ·by_cases he:i=id
       ·subst he;exact⟨_,hself,by simp⟩
       ·exact⟨ob,by rw[hold i he];exact ho,hr⟩
      ·by_cases he:i=id
       ·subst he;rw[hc]at ho;cases ho
       ·exact⟨l,by rw[hold i he];exact ho,List.prefix_refl _,fun _=>rfl⟩
     have hcl:∀ n,id < n->a0w n c=true->a0w n (c.set (o+off) (.row (id - k) 0))=true:=fun n hn hu=>c9v _ hu (by simp[V.und];omega)
     have hund:Clean H'.length H':=by
      intro i ci hi ho
      by_cases he:i=id
      ·subst he
       rw[hself]at ho
       cases ho
       rw[hlen]
       exact hcl _ hid (hI.und i c hid hc)
      ·rw[hold i he]at ho
       rw[hlen]at hi⊢
       exact hI.und i ci hi ho
     have hext:Ext s.b g s.h w g H' w:=⟨rfl,rfl,rfl,Nat.le_refl _,fun _ _ _=>⟨rfl,rfl⟩,hkeep,fun i _ c h _=>⟨i,c,h⟩,fun n hn hcln=>by
       intro i ci hi ho
       by_cases he:i=id
       ·subst he
        rw[hself]at ho
        cases ho
        exact hcl n hi (hcln i c hi hc)
       ·rw[hold i he]at ho
        exact hcln i ci hi ho,om⟩
     refine⟨rfl,⟨?_,ok.env.ext hext,ok.defers,by have:=ok.base;show s.b<=H'.length;omega⟩,hext,rfl⟩
     refine⟨hI.inj,fun i b c hj=>⟨by have:=(hI.dom i b c hj).1;show i < H'.length;omega,(hI.dom i b c hj).2⟩,fun i b cap ob hj ho=>?_,hI.imm,hund,hI.glob,hI.fix⟩
     have hi:=(hI.dom i b cap hj).1
     by_cases he:i=id
     ·subst he
      rw[hself]at ho
      cases ho
      have hob:=hI.ob i b cap _ hj hc
      obtain⟨cur,e,q1,q2,q3⟩:=hob
      have r1:=a6n hkeep.w c _ (hI.und i c hid hc) q2
      refine⟨cur,e,q1,?_,q3⟩
      obtain⟨y,y1,y2,y3⟩:=b3h q2 hnil
      simp only[Rep]at y3
      refine d4o r1 y1 rfl ?_
      simp only[Rep]
      exact⟨none,0,sz,[],y3,by rw[hold _ om];exact hrow,by simp,fun _=> .inl (by simp)⟩
     ·rw[hold i he]at ho
      exact(hI.ob i b cap ob hj ho).ext hkeep.w rfl rfl (by rintro c' rfl;exact hI.und i c' hi ho)
    ·cases h
   ·cases h
  ·cases h
 ·cases h
theorem d3b {orc:Orc} {lp:Lp} {N t:Nat} {s s':St} {x:Ex} {a:Act} (h:evC cx orc lp (.freeze t) s=some (x,s')) (ok:a0x dl cx N g s a w):
 x= .nrm/\∃ g',a0x dl cx N g' s' a w/\Ext s.b g s.h w g' s'.h w/\s'.b=s.b:=by
 simp only[evC]at h
 split at h
 ·rename_i id o l hv
  split at h
  ·rename_i c hc
   split at h
   ·rename_i ds hds
    cases h
    have hI:=ok.inv
    have hid:=(List.getElem?_eq_some_iff.1 hc).1
    have hold:∀ i,i≠id->(s.h.set id (.frz ds))[i]? =s.h[i]? :=fun i hne=>List.getElem?_set_ne (Ne.symm hne)
    have hself:(s.h.set id (.frz ds))[id]? =some (.frz ds):=List.getElem?_set_self hid
    have hclean:∀ n,Clean n s.h->Clean n (s.h.set id (.frz ds)):=by
     intro n hcl i ci hi ho
     by_cases he:i=id
     ·subst he;rw[hself]at ho;cases ho
     ·rw[hold i he]at ho;exact hcl i ci hi ho
    have hrow:∀ (i sz:Nat) (l:List D),s.h[i]? =some (Ob.row sz l)->(s.h.set id (.frz ds))[i]? =some (Ob.row sz l):=by
     intro i sz l ho
     by_cases he:i=id
     ·subst he;rw[hc]at ho;cases ho
     ·rw[hold i he];exact ho
    have hobj:∀ (i:Nat) (ob:Ob),s.h[i]? =some ob->(∀ sz l,ob≠ .row sz l)->∃ o',(s.h.set id (.frz ds))[i]? =some o'/\∀ sz l,o'≠ .row sz l:=by
     intro i ob ho hr
     by_cases he:i=id
     ·subst he;exact⟨_,hself,by simp⟩
     ·exact⟨ob,by rw[hold i he];exact ho,hr⟩
    cases hj:g.J id with
    |none=>
     have hkeep:Keep s.h.length g s.h g (s.h.set id (.frz ds)):=⟨fun _=>List.prefix_refl _,fun i ob hi ho hr=>⟨rfl,hobj i ob ho hr⟩,fun i sz l hi ho=>⟨l,hrow i sz l ho,List.prefix_refl _,fun _=>rfl⟩⟩
     have hext:Ext s.b g s.h w g (s.h.set id (.frz ds)) w:=⟨rfl,rfl,rfl,Nat.le_refl _,fun _ _ _=>⟨rfl,rfl⟩,hkeep,fun i _ c h _=>⟨i,c,h⟩,fun n _ hcl=>hclean n hcl,by simp⟩
     refine⟨rfl,g,⟨?_,ok.env.ext hext,ok.defers,by simpa using ok.base⟩,hext,rfl⟩
     refine⟨hI.inj,fun i b c hj=>⟨by simpa using(hI.dom i b c hj).1,(hI.dom i b c hj).2⟩,fun i b cap ob hj' ho=>?_,hI.imm,by rw[List.length_set];exact hclean _ hI.und,hI.glob,hI.fix⟩
     have he:i≠id:=by rintro rfl;rw[hj]at hj';cases hj'
     rw[hold i he]at ho
     exact(hI.ob i b cap ob hj' ho).ext hkeep.w rfl rfl (by rintro c' rfl;exact hI.und i c' (hI.dom i b cap hj').1 ho)
    |some p=>
     obtain⟨b,cap⟩:=p
     obtain⟨cur,e,q1,q2,q3⟩:=hI.ob id b cap _ hj hc
     have hC:∀ b',g.C b' <+:(if b'=b then cur.toList else g.C b'):=fun b'=>by
       split
       ·rename_i he;subst he;rw[q3];exact List.nil_prefix
       ·exact List.prefix_refl _
     generalize hg':(⟨g.J,fun b'=>if b'=b then cur.toList else g.C b'⟩:Gh)=g'
     have hgJ:g'.J=g.J:=by rw[<-hg']
     have hgC:∀ b',g.C b' <+:g'.C b':=by rw[<-hg'];exact hC
     have hgb:g'.C b=cur.toList:=by rw[<-hg'];exact if_pos rfl
     have hgo:∀ b',b'≠b->g'.C b'=g.C b':=fun b' he=>by rw[<-hg'];exact if_neg he
     have hkeep:Keep s.h.length g s.h g' (s.h.set id (.frz ds)):=⟨hgC,fun i ob hi ho hr=>⟨by rw[hgJ],hobj i ob ho hr⟩,fun i sz l hi ho=>⟨l,hrow i sz l ho,List.prefix_refl _,fun _=>by rw[hgJ]⟩⟩
     have hext:Ext s.b g s.h w g' (s.h.set id (.frz ds)) w:=⟨rfl,rfl,rfl,Nat.le_refl _,fun b' _ hn=>⟨rfl,hgo b' (by rintro rfl;exact hn id cap hj)⟩,hkeep,fun i b' c h _=>⟨i,c,by rw[<-hgJ];exact h⟩,fun n _ hcl=>hclean n hcl,by simp⟩
     refine⟨rfl,g',⟨?_,ok.env.ext hext,ok.defers,by simpa using ok.base⟩,hext,rfl⟩
     refine⟨by rw[hgJ];exact hI.inj,fun i b c hj=>by rw[hgJ]at hj;exact⟨by simpa using(hI.dom i b c hj).1,(hI.dom i b c hj).2⟩,fun i b' cap' ob hj' ho=>?_,fun b' hb'=>?_,by rw[List.length_set];exact hclean _ hI.und,fun k=>?_,hI.fix.mono fun b' _ hn=>⟨rfl,by rw[hgJ];exact hn⟩⟩
     ·rw[hgJ]at hj'
      by_cases he:i=id
      ·subst he
       rw[hself]at ho
       cases ho
       rw[hj]at hj'
       cases hj'
       simp only[e1w]
       rw[hgb]
       exact a3f hgC _ _ (c3h hds q2)
      ·rw[hold i he]at ho
       have hbb:b'≠b:=by rintro rfl;exact he (hI.inj _ _ _ _ _ hj' hj)
       exact(hI.ob i b' cap' ob hj' ho).ext hkeep.w rfl (hgo b' hbb) (by rintro c' rfl;exact hI.und i c' (hI.dom i b' cap' hj').1 ho)
     ·by_cases hbb:b'=b
      ·subst hbb;rw[hgb];exact⟨cur,e,_,q1,List.prefix_refl _⟩
      ·rw[hgo b' hbb]at hb'⊢;exact hI.imm b' hb'
     ·obtain⟨vs,h1,h2⟩:=hI.glob k
      exact⟨vs,h1.trans (hgC k),a3f hgC _ _ h2⟩
   ·cases h
  ·cases h
 ·rename_i id len hv
  split at h
  ·rename_i sz l ho
   split at h
   ·rename_i hl
    cases h
    refine⟨rfl,g,⟨ok.inv,⟨ok.env.1,fun k hk=>?_⟩,ok.defers,ok.base⟩,Ext.refl ..,rfl⟩
    show Rep g s.h (a1k ((t,.d (.sl l))::s.e) k) _/\(a1k ((t,.d (.sl l))::s.e) k).und s.h.length=true
    by_cases e:t=k
    ·subst e
     rw[show a1k ((t,V.d (.sl l))::s.e) t= .d (.sl l)by simp[a1k]]
     have hr:=(ok.env.2 t hk).1
     rw[hv]at hr
     have:=c3u ok.inv (d:= .sl l) (by simp only[b1i,ho,hl,if_true]) hr
     exact⟨by simpa only[Rep] using this,rfl⟩
    ·rw[show a1k ((t,V.d (.sl l))::s.e) k=a1k s.e k by simp[a1k,e]];exact ok.env.2 k hk
   ·cases h
  ·cases h
 ·cases h
theorem c4l {orc:Orc} {lp:Lp} {N:Nat} {v:a0e} (hv:v.a6k=true) (hN:v.okN N=true) {s s':St} {x:Ex} {a:Act} (h:evC cx orc lp v s=some (x,s')) (ok:a0x dl cx N g s a w):
 x= .nrm/\∃ g',a0x dl cx N g' s' a w/\Ext s.b g s.h w g' s'.h w/\s'.b=s.b:=by
 cases v with
 |newrow sz t=>
  obtain⟨h1,h2,h3,h4⟩:=d1q (by simpa [a0e.okN] using hN) h ok
  exact⟨h1,g,h2,h3,h4⟩
 |bindrow sz t off=>
  obtain⟨h1,h2,h3,h4⟩:=c9q (by simpa [a0e.okN] using hN) h ok
  exact⟨h1,g,h2,h3,h4⟩
 |mkrow sz=>
  obtain⟨h1,h2,h3,h4⟩:=d6n h ok
  exact⟨h1,g,h2,h3,h4⟩
 |bindto t off k=>
  obtain⟨h1,h2,h3,h4⟩:=d3o h ok
  exact⟨h1,g,h2,h3,h4⟩
 |freeze t=>exact d3b h ok
 |_=>cases hv
theorem b4c {orc:Orc} {lp:Lp} {N:Nat} {w:World} {a:Act} {x:Ex} {s':St} {c:a0e}:∀ (l:List a0e),l.all a0e.a6k=true->(a7d l c).okN N=true->∀ {s:St} {g:Gh},evC cx orc lp (a7d l c) s=some (x,s')->a0x dl cx N g s a w->
 ∃ g1 s1,a0x dl cx N g1 s1 a w/\Ext s.b g s.h w g1 s1.h w/\s1.b=s.b/\evC cx orc lp c s1=some (x,s')/\c.okN N=true
 |[],_,hN,s,g,h,ok=>⟨g,s,ok,Ext.refl ..,rfl,h,hN⟩
 |v::l,hl,hN,s,g,h,ok=>by
  simp only[List.all_cons,Bool.and_eq_true]at hl
  simp only[a7d,a0e.okN,Bool.and_eq_true]at hN
  simp only[a7d,evC]at h
  cases h1:evC cx orc lp v s with
  |none=>rw[h1]at h;cases h
  |some q=>
   obtain⟨y,s1⟩:=q
   obtain⟨rfl,g1,ok1,e1,b1⟩:=c4l hl.1 hN.1 h1 ok
   rw[h1]at h
   have h:evC cx orc lp (a7d l c) s1=some (x,s'):=h
   obtain⟨g2,s2,ok2,e2,b2,h2,n2⟩:=b4c l hl.2 hN.2 h ok1
   exact⟨g2,s2,ok2,e1.trans e2 om,om,h2,n2⟩
end
end Go.Vm
namespace Go.Vm
section
variable {dl:List Deferred} {P:Program} {cx:Cx} {g:Gh} {w:World} {H:Hp}
def Ex.out:Ex->Exit
 | .nrm=> .normal
 | .exit i=> .exit i
 | .ret=> .ret
theorem d5f {orc:Orc}:∀ {l:List a0b} {s s':St},a0s cx orc l s=some s'->s'.b=s.b
 |[],s,s',h=>by simp only[a0s,Option.some.injEq]at h;rw[h]
 |o::l,s,s',h=>by
  simp only[a0s]at h
  cases h1:a0f cx orc o s with
  |none=>rw[h1]at h;cases h
  |some s1=>rw[h1]at h;rw[d5f h,a8a h1]
theorem g2m {orc:Orc} {lp:Lp} (hl:∀ ks b s r,lp ks b s=some r->r.2.b=s.b):∀ {c:a0e} {s:St} {x:Ex} {s':St},evC cx orc lp c s=some (x,s')->s'.b=s.b:=by
 intro c
 induction c with
 |skip=>intro s x s' h;cases h;rfl
 |reg ops=>
  intro s x s' h;simp only[evC]at h
  obtain⟨q,hq,he⟩:=Option.map_eq_some_iff.1 h
  cases he;exact d5f hq
 |draw m ops=>
  intro s x s' h;simp only[evC]at h
  obtain⟨q,hq,he⟩:=Option.map_eq_some_iff.1 h
  cases he;exact d5f (a3e.1 hq).1
 |seq a b iha ihb=>
  intro s x s' h;simp only[evC]at h
  cases hx:evC cx orc lp a s with
  |none=>rw[hx]at h;cases h
  |some q=>
   obtain⟨y,s1⟩:=q
   rw[hx]at h
   cases y with
   |nrm=>have h':evC cx orc lp b s1=some (x,s'):=h;rw[ihb h',iha hx]
   |exit i=>have h':some (Ex.exit i,s1)=some (x,s'):=h;cases h';exact iha hx
   |ret=>have h':some (Ex.ret,s1)=some (x,s'):=h;cases h';exact iha hx
 |cond c a b iha ihb=>
  intro s x s' h;simp only[evC]at h
  split at h
  ·split at h
   ·exact iha h
   ·exact ihb h
  ·cases h
 |block id b ih=>
  intro s x s' h;simp only[evC]at h
  cases hx:evC cx orc lp b s with
  |none=>rw[hx]at h;cases h
  |some q=>
   obtain⟨y,s1⟩:=q
   rw[hx]at h
   cases y with
   |nrm=>cases h;exact ih hx
   |ret=>cases h;exact ih hx
   |exit i=>
    simp only at h
    split at h<;>(cases h;exact ih hx)
 |scope b ih=>intro s x s' h;simp only[evC]at h;exact ih h
 |loop k b ih=>
  intro s x s' h;simp only[evC]at h
  cases hx:evC cx orc lp b ⟨a2d k s.e,s.h,s.h.length⟩with
  |none=>rw[hx]at h;cases h
  |some q=>
   obtain⟨y,s1⟩:=q
   rw[hx]at h
   cases y with
   |nrm=>exact hl _ _ _ _ h
   |exit i=>cases h;rfl
   |ret=>cases h;rfl
 |exit i=>intro s x s' h;cases h;rfl
 |ret=>intro s x s' h;cases h;rfl
 |newrow a b=>
  intro s x s' h;simp only[evC]at h
  split at h
  ·split at h
   ·cases h;rfl
   ·cases h
  ·cases h
 |bindrow a b c=>
  intro s x s' h;simp only[evC]at h
  split at h
  ·split at h
   ·split at h
    ·split at h
     ·cases h;rfl
     ·cases h
    ·cases h
   ·cases h
  ·cases h
 |mkrow a=>
  intro s x s' h;simp only[evC]at h
  split at h
  ·cases h;rfl
  ·cases h
 |bindto a b c=>
  intro s x s' h;simp only[evC]at h
  split at h
  ·split at h
   ·split at h
    ·split at h
     ·cases h;rfl
     ·cases h
    ·cases h
   ·cases h
  ·cases h
 |freeze a=>
  intro s x s' h;simp only[evC]at h
  split at h
  ·split at h
   ·split at h
    ·cases h;rfl
    ·cases h
   ·cases h
  ·split at h
   ·split at h
    ·cases h;rfl
    ·cases h
   ·cases h
  ·cases h
theorem e1a (n:Nat) (e:Env) (t:Nat):a1k (cut n e) t=if(a1k e t).und n=true then a1k e t else .undef:=by
 induction e with
 |nil=>exact(if_pos rfl).symm
 |cons p r ih=>
  obtain⟨k,v⟩:=p
  simp only[cut,List.map_cons,a1k]at ih⊢
  by_cases hk:k=t
  ·simp[hk]
  ·simp only[if_neg hk]
   exact ih
theorem Ext.cut {nb n:Nat} {g':Gh} {H':Hp} {w':World} (h:Ext nb g H w g' H' w') (hn:n=H.length) (hnb:nb<=n):Ext nb g H w (g'.cut n) (H'.take n) w':=by
 have hlen:=h.len
 have hget:∀ i,i < n->(H'.take n)[i]? =H'[i]? :=fun i hi=>by rw[List.getElem?_take,if_pos hi]
 refine⟨h.os,h.tape,h.output,h.size,h.frame,⟨h.keep.C,fun i o hi ho hr=>?_,fun i sz l hi ho=>?_⟩,fun i b c hj hb=>h.jnew i b c (a6q hj).2 hb,fun m hm hc i c hi ho=>?_,by rw[List.length_take];omega⟩
 ·obtain⟨h1,o',h2,h3⟩:=h.keep.obj i o hi ho hr
  exact⟨by rw[d2r om];exact h1,o',by rw[hget i om];exact h2,h3⟩
 ·obtain⟨l',h1,h2,h3⟩:=h.keep.row i sz l hi ho
  exact⟨l',by rw[hget i om];exact h1,h2,fun he=>by rw[d2r om];exact h3 he⟩
 ·rw[hget i om]at ho
  exact h.clean m hm hc i c hi ho
theorem a0x.keep {N:Nat} {s:St} {a:Act} {w:World} (ok:a0x dl cx N g s a w) (ks:List Nat):a0x dl cx N g ⟨a2d ks s.e,s.h,s.h.length⟩ a w:=by
 refine⟨ok.inv,⟨ok.env.1,fun k hk=>?_⟩,ok.defers,Nat.le_refl _⟩
 rw[a5f]
 by_cases hks:k∈ks
 ·rw[if_pos hks];exact ok.env.2 k hk
 ·rw[if_neg hks];exact⟨by simp[Rep],rfl⟩
theorem a0x.back {N:Nat} {ks:List Nat} {s s1:St} {g1:Gh} {a1:Act} {w1:World} {b0:Nat} (hI:Clean s.h.length s.h) (hb0:b0<=s.h.length) (ok:a0x dl cx N g1 s1 a1 w1) (e:Ext s.h.length g s.h w g1 s1.h w1):
 a0x dl cx N (g1.cut s.h.length) ⟨cut s.h.length (a2d ks s1.e),s1.h.take s.h.length,b0⟩ a1 w1:=by
 have hlen:=e.len
 have hc:=e.clean s.h.length (Nat.le_refl _) hI
 refine⟨ok.inv.restrict hlen hc,⟨ok.env.1,fun k hk=>?_⟩,ok.defers,?_⟩
 ·rw[e1a]
  split
  ·rename_i hu
   rw[a5f]at hu⊢
   by_cases hks:k∈ks
   ·rw[if_pos hks]at hu⊢
    refine⟨a2m (a5o g1 s1.h s.h.length) _ _ hu (ok.env.2 k hk).1,?_⟩
    show V.und (s1.h.take s.h.length).length _=true
    rw[List.length_take,Nat.min_eq_left hlen]
    exact hu
   ·rw[if_neg hks]
    exact⟨by simp[Rep],rfl⟩
  ·exact⟨by simp[Rep],rfl⟩
 ·show b0<=(s1.h.take s.h.length).length
  rw[List.length_take,Nat.min_eq_left hlen]
  exact hb0
def SLp (P:Program) (cx:Cx) (n:Nat) (lp:Lp):Prop:=
 (∀ ks b s r,lp ks b s=some r->r.2.b=s.b)/\
 ∀ (dl:List Deferred) (A:Ann) (N:Nat) (c:Code) (v:a0e) (ks:List Nat),tr P A c=some v->v.okN N=true->∀ (g:Gh) (s:St) (a:Act) (w:World) (x:Ex) (s':St),lp ks v s=some (x,s')->a0x dl cx N g s a w->
  ∀ Q:Exit->Act->World->Prop,(∀ g' a' w',a0x dl cx N g' s' a' w'->Ext s.b g s.h w g' s'.h w'->Q x.out a' w')->Code.rounds P c Q n a w
theorem d2e {A:Ann} {id:Nat} {ops:Array Oper} {draw:Bool} {v:a0e} (h:tr P A (.region id ops draw)=some v):
 ∃ vs c,a1l P ops ops.toList=some vs/\v=a7d (A.ghost id) c/\(A.ghost id).all a0e.a6k=true/\
  ((draw=true/\∃ m,b1p ops vs m=true/\c= .draw m vs)\/(draw=false/\c= .reg vs)):=by
 simp only[tr]at h
 split at h
 ·cases h
 ·rename_i vs hvs
  split at h
  ·cases h
  ·rename_i hg
   have hg':(A.ghost id).all a0e.a6k=true:=by
    cases hh:(A.ghost id).all a0e.a6k with
    |true=>rfl
    |false=>exact absurd hh hg
   split at h
   ·rename_i hd
    split at h
    ·rename_i ho
     cases h
     exact⟨vs,_,hvs,rfl,hg',.inl ⟨hd,_,ho,rfl⟩⟩
    ·cases h
   ·rename_i hd
    cases h
    exact⟨vs,_,hvs,rfl,hg',.inr ⟨by simpa using hd,rfl⟩⟩
theorem b5i {orc:Orc} (hS:b5s P cx orc) (hmx:P.follows .mixedOrders=true) {n:Nat} {lp:Lp} (hL:SLp P cx n lp) {A:Ann} {N:Nat}:∀ (c:Code) (v:a0e),tr P A c=some v->v.okN N=true->∀ {g:Gh} {s:St} {a:Act} {w:World} {x:Ex} {s':St},evC cx orc lp v s=some (x,s')->a0x dl cx N g s a w->
 ∀ {Q:Exit->Act->World->Prop},(∀ g' a' w',a0x dl cx N g' s' a' w'->Ext s.b g s.h w g' s'.h w'->Q x.out a' w')->c.wp P Q a w:=by
 intro c
 induction c with
 |skip=>
  intro v ht hN g s a w x s' h ok Q hq
  simp only[tr,Option.some.injEq]at ht
  subst ht
  cases h
  exact wp_skip (hq g a w ok (Ext.refl ..))
 |label l=>
  intro v ht hN g s a w x s' h ok Q hq
  simp only[tr,Option.some.injEq]at ht
  subst ht
  cases h
  exact wp_label (hq g a w ok (Ext.refl ..))
 |exit id=>
  intro v ht hN g s a w x s' h ok Q hq
  simp only[tr,Option.some.injEq]at ht
  subst ht
  cases h
  exact wp_exit (hq g a w ok (Ext.refl ..))
 |ret=>
  intro v ht hN g s a w x s' h ok Q hq
  simp only[tr,Option.some.injEq]at ht
  subst ht
  cases h
  exact wp_ret (hq g a w ok (Ext.refl ..))
 |region id ops draw=>
  intro v ht hN g s a w x s' h ok Q hq
  obtain⟨vs,c,h1,rfl,h2,h3⟩:=d2e ht
  obtain⟨g1,s1,ok1,e1,b1,hc,hN1⟩:=b4c _ h2 hN h ok
  rcases h3 with⟨rfl,m,ho,rfl⟩|⟨rfl,rfl⟩
  ·simp only[evC]at hc
   obtain⟨q,hq',he⟩:=Option.map_eq_some_iff.1 hc
   cases he
   exact f0q hS hmx h1 (by simpa [a0e.okN] using hN1) ho hq' ok1 fun g' a' w' ok' e'=>hq g' a' w' ok' (e1.trans e' om)
  ·simp only[evC]at hc
   obtain⟨q,hq',he⟩:=Option.map_eq_some_iff.1 hc
   cases he
   exact f1m hS h1 (by simpa [a0e.okN] using hN1) hq' ok1 fun g' a' w' ok' e'=>hq g' a' w' ok' (e1.trans e' om)
 |seq c1 c2 ih1 ih2=>
  intro v ht hN g s a w x s' h ok Q hq
  simp only[tr]at ht
  split at ht
  ·rename_i v1 v2 ht1 ht2
   cases ht
   simp only[a0e.okN,Bool.and_eq_true]at hN
   simp only[evC]at h
   apply wp_seq
   cases hx:evC cx orc lp v1 s with
   |none=>rw[hx]at h;cases h
   |some q=>
    obtain⟨y,s1⟩:=q
    rw[hx]at h
    have hb:=g2m hL.1 hx
    refine ih1 v1 ht1 hN.1 hx ok fun g1 a1 w1 ok1 e1=>?_
    cases y with
    |nrm=>exact ih2 v2 ht2 hN.2 h ok1 fun g' a' w' ok' e'=>hq g' a' w' ok' (e1.trans e' om)
    |exit i=>have h':some (Ex.exit i,s1)=some (x,s'):=h;cases h';exact hq g1 a1 w1 ok1 e1
    |ret=>have h':some (Ex.ret,s1)=some (x,s'):=h;cases h';exact hq g1 a1 w1 ok1 e1
  ·cases ht
 |cond c c1 c2 ih1 ih2=>
  intro v ht hN g s a w x s' h ok Q hq
  simp only[tr]at ht
  split at ht
  ·rename_i vc v1 v2 hc ht1 ht2
   cases ht
   simp only[a0e.okN,Bool.and_eq_true]at hN
   simp only[evC]at h
   split at h
   ·rename_i t hv
    have hr:=(a0u ok.inv ok.env hc hN.1.1).1
    rw[hv]at hr
    refine wp_cond (a8f hr) ?_
    cases t with
    |true=>exact ih1 v1 ht1 hN.1.2 (by simpa using h) ok hq
    |false=>exact ih2 v2 ht2 hN.2 (by simpa using h) ok hq
   ·cases h
  ·cases ht
 |block id c ih=>
  intro v ht hN g s a w x s' h ok Q hq
  simp only[tr]at ht
  obtain⟨v1,ht1,rfl⟩:=Option.map_eq_some_iff.1 ht
  simp only[a0e.okN]at hN
  simp only[evC]at h
  apply wp_block
  cases hx:evC cx orc lp v1 s with
  |none=>rw[hx]at h;cases h
  |some q=>
   obtain⟨y,s1⟩:=q
   rw[hx]at h
   refine ih v1 ht1 hN hx ok fun g1 a1 w1 ok1 e1=>?_
   cases y with
   |nrm=>cases h;exact hq g1 a1 w1 ok1 e1
   |ret=>cases h;exact hq g1 a1 w1 ok1 e1
   |exit i=>
    simp only at h
    split at h
    ·rename_i hi
     cases h
     simp only[Ex.out,Exit.inBlock,hi,if_true]
     exact hq g1 a1 w1 ok1 e1
    ·rename_i hi
     cases h
     simp only[Ex.out,Exit.inBlock,hi,if_false]
     exact hq g1 a1 w1 ok1 e1
 |scope c ih=>
  intro v ht hN g s a w x s' h ok Q hq
  simp only[tr]at ht
  obtain⟨v1,ht1,rfl⟩:=Option.map_eq_some_iff.1 ht
  simp only[a0e.okN]at hN
  simp only[evC]at h
  apply wp_scope_straight
  refine ih v1 ht1 hN h ok fun g1 a1 w1 ok1 e1=>?_
  have:=hq g1 a1 w1 ok1 e1
  cases x<;>exact this
 |loop c ih=>
  intro v ht hN g s a w x s' h ok Q hq
  simp only[tr]at ht
  split at ht
  ·cases ht
  rename_i hgh
  obtain⟨v1,ht1,rfl⟩:=Option.map_eq_some_iff.1 ht
  have hgh':(c6q A c).all a0e.a6k=true:=by
   cases hh:(c6q A c).all a0e.a6k with
   |true=>rfl
   |false=>exact absurd hh hgh
  obtain⟨g0,s0,ok0,e0,b0,h,hN⟩:=b4c _ hgh' hN h ok
  have hq0:=hq
  replace hq:∀ g' a' w',a0x dl cx N g' s' a' w'->Ext s0.b g0 s0.h w g' s'.h w'->Q x.out a' w':=fun g' a' w' ok' e'=>hq0 g' a' w' ok' (e0.trans e' om)
  clear hq0 e0 b0 ok hgh hgh'
  replace ok:=ok0
  clear ok0
  generalize s0=s at*
  generalize g0=g at*
  simp only[a0e.okN,Bool.and_eq_true]at hN
  simp only[evC]at h
  apply wp_loop_rounds (n+1)
  rw[rounds_succ]
  cases hx:evC cx orc lp v1 ⟨a2d _ s.e,s.h,s.h.length⟩with
  |none=>rw[hx]at h;cases h
  |some q=>
   obtain⟨y,s1⟩:=q
   rw[hx]at h
   refine ih v1 ht1 hN.2 hx (ok.keep _) fun g1 a1 w1 ok1 e1=>?_
   have e1':Ext s.b g s.h w g1 s1.h w1:=e1.le ok.base
   have hlen:=e1.len
   have hbase:=ok.base
   cases y with
   |nrm=>
    refine hL.2 _ A N c v1 _ ht1 hN.2 (g1.cut s.h.length) _ a1 w1 x s' h (a0x.back ok.inv.und ok.base ok1 e1) Q fun g' a' w' ok' e'=>?_
    exact hq g' a' w' ok' ((e1'.cut rfl ok.base).trans e' (Nat.le_refl _))
   |exit i=>
    cases h
    exact hq g1 a1 w1 ⟨ok1.inv,ok1.env,ok1.defers,by simp only at hlen⊢;omega⟩ e1'
   |ret=>
    cases h
    exact hq g1 a1 w1 ⟨ok1.inv,ok1.env,ok1.defers,by simp only at hlen⊢;omega⟩ e1'
 |_=>intro v ht;simp[tr]at ht
end
end Go.Vm
namespace Go.Vm
section
variable {dl:List Deferred} {P:Program} {cx:Cx} {g:Gh} {w:World} {H:Hp}
def a3g (P:Program) (pg:Pg):Prop:=∀ f e,pg.tbl f=some e->
 match e with
 | .prim F=> ∀ args H r H',F args H=some (r,H')->a1x P pg.toCx f args H r H'
 | .code vf=> ∃ fn A,P.funcs[f]? =some fn/\(fn.name== "runtime.NumGoroutine")=false/\d7l P A vf.keep fn=some vf/\vf.ok=true
theorem e5y (args:List V) (i:Nat):a1k (a1a args) i=args.getD i .undef:=by
 have key:∀ (l:List Nat) (f:Nat->V),a1k (l.map fun i=>(i,f i)) i=if i∈l then f i else .undef:=by
   intro l f
   induction l with
   |nil=>rfl
   |cons k l ih=>
    simp only[List.map_cons,a1k,ih,List.mem_cons]
    by_cases hk:k=i
    ·subst hk;simp
    ·rw[if_neg hk]
     by_cases hl:i∈l
     ·simp[hl]
     ·rw[if_neg hl,if_neg (by rintro(h|h);exact hk h.symm;exact hl h)]
 rw[a1a,key]
 simp only[List.mem_range]
 split
 ·rfl
 ·rename_i h
  rw[List.getD_eq_getElem?_getD,List.getElem?_eq_none om];rfl
theorem d1y:∀ {l:List V} {vs:List Value} (i:Nat),a0t g H l vs->i < l.length->Rep g H (l.getD i .undef) (vs.getD i undef)
 |[],vs,i,_,h=>by simp at h
 |v::l,vs,0,r,_=>by
  simp only[a0t]at r
  obtain⟨y,ys,rfl,r1,_⟩:=r
  exact r1
 |v::l,vs,i+1,r,h=>by
  simp only[a0t]at r
  obtain⟨y,ys,rfl,_,r2⟩:=r
  have:=d1y i r2 (by simpa using h)
  simpa using this
theorem c2i:∀ {l:List V} {vs:List Value},a0t g H l vs->vs.length=l.length
 |[],vs,r=>by simp only[a0t]at r;subst r;rfl
 |v::l,vs,r=>by
  simp only[a0t]at r
  obtain⟨y,ys,rfl,_,r2⟩:=r
  simp[c2i r2]
theorem d1c {n:Nat}:∀ {l:List V} (i:Nat),a0w n l=true->(l.getD i .undef).und n=true
 |[],i,_=>by simp[V.und]
 |v::l,0,h=>by simp only[a0w,Bool.and_eq_true]at h;exact h.1
 |v::l,i+1,h=>by simp only[a0w,Bool.and_eq_true]at h;simpa using d1c i h.2
theorem a8i {N:Nat} {args:List V} {cargs:Array Value} (ra:a0t g H args cargs.toList) (ua:a0w H.length args=true) (hN:args.length<=N):a8g g H N (a1a args) (cargs++Array.replicate (N - cargs.size) undef):=by
 have hl:cargs.size=args.length:=by simpa using c2i ra
 refine⟨by simp;omega,fun i hi=>?_⟩
 rw[e5y]
 refine⟨?_,d1c i ua⟩
 by_cases h:i < args.length
 ·have:=d1y i ra h
  have e:(cargs++Array.replicate (N - cargs.size) undef).getD i undef=cargs.toList.getD i undef:=by
   simp only[Array.getD_eq_getD_getElem?,List.getD_eq_getElem?_getD,Array.getElem?_append_left (show i < cargs.size by omega),Array.getElem?_toList]
  rw[e];exact this
 ·rw[List.getD_eq_getElem?_getD,List.getElem?_eq_none om]
  simp[Rep]
def e1i (t:Array Value):ResultVar->Sem Value
 | .tmp i=>pure (t.getD i undef)
 | .cell a ty=>do loadVar ty (<-asAddr (t.getD a undef))
def d5w (N:Nat):d1x->Bool
 | .tmp t=>decide (t < N)
 | .cell t _=>decide (t < N)
theorem c5j {N:Nat} (hI:Inv cx g H w) {e:Env} {t:Array Value} (hE:a8g g H N e t):∀ {l:List ResultVar} {rs:List d1x} {vs:List V},c1i P l=some rs->rs.all (d5w N)=true->a9u e H rs=some vs->
 ∃ ys:List Value,(l.mapM (e1i t)).run P w=Result.ok ys w/\a0t g H vs ys/\a0w H.length vs=true
 |[],rs,vs,h,_,hr=>by
  simp only[c1i,Option.some.injEq]at h
  subst h
  simp only[a9u,Option.some.injEq]at hr
  subst hr
  exact⟨[],by simp[List.mapM_nil],by simp[a0t],rfl⟩
 | .tmp i::l,rs,vs,h,hl,hr=>by
   simp only[c1i]at h
   obtain⟨rs',h',rfl⟩:=Option.map_eq_some_iff.1 h
   simp only[List.all_cons,Bool.and_eq_true,d5w,decide_eq_true_eq]at hl
   simp only[a9u,f1u]at hr
   split at hr
   ·rename_i v vs' hv hvs
    cases hv
    cases hr
    obtain⟨ys,y1,y2,y3⟩:=c5j hI hE h' hl.2 hvs
    obtain⟨z1,z2⟩:=hE.2 i hl.1
    refine⟨t.getD i undef::ys,?_,by simp only[a0t];exact⟨_,_,rfl,z1,y2⟩,by simp only[a0w,z2,y3,Bool.and_self]⟩
    simp only[List.mapM_cons,Sem.run_bind,e1i,Sem.run_pure,Result.andThen_ok]
    rw[y1]
    rfl
   ·cases hr
 | .cell a ty::l,rs,vs,h,hl,hr=>by
   simp only[c1i]at h
   split at h
   ·rename_i n rs' hn h'
    cases h
    simp only[List.all_cons,Bool.and_eq_true,d5w,decide_eq_true_eq]at hl
    simp only[a9u,f1u]at hr
    split at hr
    ·rename_i v vs' hv hvs
     cases hr
     obtain⟨ys,y1,y2,y3⟩:=c5j hI hE h' hl.2 hvs
     obtain⟨z1,z2⟩:=hE.2 a hl.1
     obtain⟨b,off,z,q1,q2,q3,q4⟩:=d8v (P:=P) hI hn hv z1 z2
     refine⟨z::ys,?_,by simp only[a0t];exact⟨_,_,rfl,q3,y2⟩,by simp only[a0w,q4,y3,Bool.and_self]⟩
     simp only[List.mapM_cons,Sem.run_bind,e1i,q1,asAddr,Sem.run_pure,Result.andThen_ok,q2]
     rw[y1]
     rfl
    ·cases hr
   ·cases h
theorem b3j {vs:List V} {ys:List Value} (r:a0t g H vs ys):Rep g H (oneOf vs) (if h:ys.toArray.size=1 then ys.toArray[0] else .tuple ys.toArray):=by
 match vs,ys,r with
 |[],ys,r=>
  simp only[a0t]at r
  subst r
  simp only[oneOf,Rep]
  exact⟨#[],rfl,by simp[a0t]⟩
 |[v],ys,r=>
  simp only[a0t]at r
  obtain⟨y,_,rfl,h1,rfl⟩:=r
  exact h1
 |v::v'::vs,ys,r=>
  have r':=r
  simp only[a0t]at r
  obtain⟨y,_,rfl,_,y',ys',rfl,_,_⟩:=r
  rw[dif_neg (by simp)]
  simp only[oneOf,Rep]
  exact⟨_,rfl,r'⟩
theorem b4l {n:Nat} {vs:List V} (h:a0w n vs=true):(oneOf vs).und n=true:=by
 match vs,h with
 |[],_=>rfl
 |[v],h=>simpa [a0w,oneOf] using h
 |v::v'::vs,h=>simpa only[oneOf,V.und] using h
theorem b6z {fn:Func} {N:Nat} (hI:Inv cx g H w) {e:Env} {t:Array Value} (hE:a8g g H N e t) {rs:List d1x} {vs:List V} (h:c1i P fn.results.toList=some rs) (hl:rs.all (d5w N)=true) (hr:a9u e H rs=some vs):
 ∃ ys:List Value,(results fn t).run P w=Result.ok (if h:ys.toArray.size=1 then ys.toArray[0] else .tuple ys.toArray) w/\a0t g H vs ys/\a0w H.length vs=true:=by
 obtain⟨ys,h1,h2,h3⟩:=c5j (P:=P) hI hE h hl hr
 refine⟨ys,?_,h2,h3⟩
 have e1:results fn t=(fn.results.mapM (e1i t) >>=fun vs=>pure (if h:vs.size=1 then vs[0] else .tuple vs)):=rfl
 rw[e1,Array.mapM_eq_mapM_toList,Sem.run_bind,Sem.run_map,h1]
 rfl
theorem a4f {A:Ann} {keep:Bool} {fn:Func} {vf:VFn} (h:d7l P A keep fn=some vf):∃ c,fn.body=some c/\tr P A c=some vf.body/\c1i P fn.results.toList=some vf.res/\vf.nt=fn.ntmps/\vf.keep=keep:=by
 unfold d7l at h
 split at h
 ·cases h
 ·rename_i c hc
  split at h
  ·rename_i b rs hb hrs
   cases h
   exact⟨c,hc,hb,hrs,rfl,rfl⟩
  ·cases h
theorem a8c {vf:VFn} (h:vf.ok=true):vf.body.okN vf.nt=true/\vf.res.all (d5w vf.nt)=true/\vf.np<=vf.nt:=by
 unfold VFn.ok at h
 simp only[Bool.and_eq_true,decide_eq_true_eq]at h
 refine⟨h.1.1,?_,h.2⟩
 have:=h.1.2
 simp only[List.all_eq_true]at this⊢
 intro x hx
 have:=this x hx
 cases x<;>exact this
theorem e6k {orc:Orc} (hS:b5s P cx orc) (hmx:P.follows .mixedOrders=true) {n:Nat} {lp:Lp} (hL:SLp P cx n lp) {f:Nat} {fn:Func} {A:Ann} {vf:VFn} (hf:P.funcs[f]? =some fn) (ht:d7l P A vf.keep fn=some vf) (hok:vf.ok=true)
 {args:List V} (hl:args.length=vf.np) {H:Hp} {r:V} {H':Hp} (h:(match evC cx orc lp vf.body ⟨a1a args,H,H.length⟩with
   |some (.nrm,s)|some (.ret,s)=>leave vf H.length s
   |_=>none)=some (r,H')) {g:Gh} {w:World} {cargs:Array Value} (hI:Inv cx g H w) (ra:a0t g H args cargs.toList) (ua:a0w H.length args=true):
 ∃ c,fn.body=some c/\c.wp P (bodyPost P fn fun e w'=> ∃ g' x,e= .returned x/\Inv cx g' H' w'/\Rep g' H' r x/\r.und H'.length=true/\Ext H.length g H w g' H' w') {tmps:=cargs++Array.replicate (fn.ntmps - cargs.size) undef,defers:=[]} w:=by
 obtain⟨c,hb,htr,hres,hnt,_⟩:=a4f ht
 obtain⟨k1,k2,k3⟩:=a8c hok
 refine⟨c,hb,?_⟩
 have key:∀ x s,evC cx orc lp vf.body ⟨a1a args,H,H.length⟩=some (x,s)->(x= .nrm\/x= .ret)->leave vf H.length s=some (r,H')->
  c.wp P (bodyPost P fn fun e w'=> ∃ g' x,e= .returned x/\Inv cx g' H' w'/\Rep g' H' r x/\r.und H'.length=true/\Ext H.length g H w g' H' w') {tmps:=cargs++Array.replicate (fn.ntmps - cargs.size) undef,defers:=[]} w:=by
  intro x s hx hxx hlv
  have ok0:a0x [] cx vf.nt g ⟨a1a args,H,H.length⟩ {tmps:=cargs++Array.replicate (fn.ntmps - cargs.size) undef,defers:=[]} w:=
   ⟨hI,by rw[<-hnt];exact a8i ra ua om,rfl,Nat.le_refl _⟩
  refine b5i hS hmx hL c vf.body htr k1 hx ok0 fun g1 a1 w1 ok1 e1=>?_
  have goal:a1.defers=[]/\∃ v,(results fn a1.tmps).run P w1= .ok v w1/\∃ g' x,Ending.returned v= .returned x/\Inv cx g' H' w1/\Rep g' H' r x/\r.und H'.length=true/\Ext H.length g H w g' H' w1:=by
   refine⟨ok1.defers,?_⟩
   unfold leave at hlv
   split at hlv
   ·cases hlv
   ·rename_i vs hvs
    obtain⟨ys,y1,y2,y3⟩:=b6z (P:=P) (fn:=fn) ok1.inv ok1.env hres k2 hvs
    refine⟨_,y1,?_⟩
    split at hlv
    ·cases hlv
     exact⟨g1,_,rfl,ok1.inv,b3j y2,b4l y3,e1⟩
    ·simp only at hlv
     split at hlv
     ·rename_i hu
      cases hlv
      have hlen:H.length<=s.h.length:=e1.len
      have hc:=e1.clean H.length (Nat.le_refl _) hI.und
      have ra':=a5c ok1.inv y2
      have ra2:=a4c (a5o g1 s.h H.length) _ _ hu ra'
      refine⟨g1.cut H.length,_,rfl,ok1.inv.restrict hlen hc,b3j ra2,?_,e1.cut rfl (Nat.le_refl _)⟩
      rw[List.length_take,Nat.min_eq_left hlen]
      exact b4l hu
     ·cases hlv
  rcases hxx with rfl|rfl<;>exact goal
 cases hx:evC cx orc lp vf.body ⟨a1a args,H,H.length⟩with
 |none=>rw[hx]at h;cases h
 |some q=>
  obtain⟨x,s⟩:=q
  rw[hx]at h
  cases x with
  |nrm=>exact key _ _ hx (.inl rfl) h
  |ret=>exact key _ _ hx (.inr rfl) h
  |exit i=>cases h
theorem c0t {orc:Orc} (hS:b5s P cx orc) (hmx:P.follows .mixedOrders=true) {n:Nat} {lp:Lp} (hL:SLp P cx n lp) {f:Nat} {fn:Func} {A:Ann} {vf:VFn} (hf:P.funcs[f]? =some fn) (ht:d7l P A vf.keep fn=some vf) (hok:vf.ok=true)
 {args:List V} (hl:args.length=vf.np) {H:Hp} {r:V} {H':Hp} (h:(match evC cx orc lp vf.body ⟨a1a args,H,H.length⟩with
   |some (.nrm,s)|some (.ret,s)=>leave vf H.length s
   |_=>none)=some (r,H')) {g:Gh} {w:World} {cargs:Array Value} (hI:Inv cx g H w) (ra:a0t g H args cargs.toList) (ua:a0w H.length args=true):
 Calls P f cargs w (fun e w'=> ∃ g' x,e= .returned x/\Inv cx g' H' w'/\Rep g' H' r x/\r.und H'.length=true/\Ext H.length g H w g' H' w'):=by
 obtain⟨c,hb,hw⟩:=e6k hS hmx hL hf ht hok hl h hI ra ua
 exact calls_of_wp hf hb hw
theorem f6f (g:Gh):∀ i p,(g.cut 0).J i≠some p:=fun i p h=>by have:=(a6q h).1;omega
theorem e1e {g':Gh} {w':World} (hI:Inv cx g H w) (hI':Inv cx g' [] w') (e:Ext 0 (g.cut 0) [] w g' [] w'):
 Inv cx ⟨g.J,g'.C⟩ H w'/\Ext H.length g H w ⟨g.J,g'.C⟩ H w':=by
 have hC:∀ b,g.C b <+:g'.C b:=e.keep.C
 have hfr:∀ b,b < w.heap.size->w'.heap[b]? =w.heap[b]? /\g'.C b=g.C b:=fun b hb=>e.frame b hb fun i c=>f6f g i _
 have hk:Keep H.length g H ⟨g.J,g'.C⟩ H:=⟨hC,fun i o _ ho hr=>⟨rfl,o,ho,hr⟩,fun i sz l _ ho=>⟨l,ho,List.prefix_refl _,fun _=>rfl⟩⟩
 refine⟨⟨hI.inj,fun i b c h=>⟨(hI.dom i b c h).1,Nat.lt_of_lt_of_le (hI.dom i b c h).2 e.size⟩,fun i b c o h ho=>?_,hI'.imm,hI.und,hI'.glob,hI.fix.mono fun b hb hn=>⟨(hfr b hb).1,hn⟩⟩,⟨e.os,e.tape,e.output,e.size,fun b hb _=>hfr b hb,hk,fun i b c h _=>⟨i,c,h⟩,fun _ _ h=>h,Nat.le_refl _⟩⟩
 obtain⟨f1,f2⟩:=hfr b (hI.dom i b c h).2
 exact(hI.ob i b c o h ho).ext hk.w f1 f2 (by rintro c' rfl;exact hI.und i c' (hI.dom i b c h).1 ho)
theorem e2u {pg:Pg} (hT:a3g P pg) (hmx:P.follows .mixedOrders=true) {orc:Orc} (hS:b5s P pg.toCx orc) {n:Nat} {lp:Lp} (hL:SLp P pg.toCx n lp):b5s P pg.toCx (c1y pg orc lp):=by
 intro f args H r H' h
 unfold c1y at h
 split at h
 ·cases h
 ·rename_i F ht
  exact hT f _ ht args H r H' h
 ·rename_i vf ht
  obtain⟨fn,A,hf,hname,htr,hok⟩:=hT f _ ht
  obtain⟨c,hb,_⟩:=a4f htr
  split at h
  ·rename_i hl
   refine⟨⟨fn,hf,by rw[hb];rfl,hname⟩,fun g w cargs hI ra ua=>?_⟩
   cases hbare:(a0w 0 args && !vf.keep)with
   |false=>
    rw[hbare]at h
    exact c0t hS hmx hL hf htr hok hl h hI ra ua
   |true=>
    rw[hbare]at h
    simp only[bare]at h
    obtain⟨q,hq,he⟩:=Option.map_eq_some_iff.1 h
    cases he
    obtain⟨r,H1⟩:=q
    simp only[Bool.and_eq_true,Bool.not_eq_true']at hbare
    have hI0:Inv pg.toCx (g.cut 0) [] w:=by
     have:=hI.restrict (n:=0) (Nat.zero_le _) (fun i c hi=>om)
     simpa using this
    have ra0:a0t (g.cut 0) [] args cargs.toList:=by
     have:=a5o g H 0
     rw[List.take_zero]at this
     exact a4c this _ _ hbare.1 ra
    have hH1:H1=[]/\r.und 0=true:=by
     have:∀ s,leave vf ([]:Hp).length s=some (r,H1)->H1=[]/\r.und 0=true:=by
      intro s hs
      unfold leave at hs
      split at hs
      ·cases hs
      ·rw[if_neg (by rw[hbare.2];simp)]at hs
       simp only at hs
       split at hs
       ·rename_i hu
        cases hs
        exact⟨by simp,b4l hu⟩
       ·cases hs
     split at hq
     ·exact this _ hq
     ·exact this _ hq
     ·cases hq
    obtain⟨rfl,hu0⟩:=hH1
    refine(c0t hS hmx hL hf htr hok hl hq hI0 ra0 hbare.1).mono fun e w' he=>?_
    obtain⟨g',x,h1,h2,h3,h4,h5⟩:=he
    obtain⟨q1,q2⟩:=e1e hI h2 h5
    refine⟨⟨g.J,g'.C⟩,x,h1,q1,?_,V.a6b (Nat.zero_le _) _ hu0,q2⟩
    exact a2m (n:=0) (g:=g') (H:=[]) (g':=⟨g.J,g'.C⟩) (H':=H) ⟨fun _=>List.prefix_refl _,fun i _ hi=>om,fun i _ _ hi=>om⟩ _ _ hu0 h3
  ·cases h
theorem b1y {pg:Pg} (hT:a3g P pg) (hmx:P.follows .mixedOrders=true):∀ n,b5s P pg.toCx (b0v pg n)/\SLp P pg.toCx n (c2n pg n)
 |0=>⟨fun f args H r H' h=>(nomatch ((a9e pg _ _ _).symm.trans h)),fun ks b s r h=>(nomatch ((b1k pg _ _ _).symm.trans h)),fun _ A N c v ks _ _ g s a w x s' h=>(nomatch ((b1k pg _ _ _).symm.trans h))⟩
 |n+1=>by
  obtain⟨hS,hL⟩:=b1y hT hmx n
  refine⟨e2u hT hmx hS hL,fun ks b s r h=>?_,fun dl A N c v ks ht hN g s a w x s' h ok Q hq=>?_⟩
  ·rw[a9m]at h
   exact g2m hL.1 h
  ·rw[a9m]at h
   rw[rounds_succ]
   simp only[evC]at h
   cases hx:evC pg.toCx (b0v pg n) (c2n pg n) v ⟨a2d ks s.e,s.h,s.h.length⟩with
   |none=>rw[hx]at h;cases h
   |some q=>
    obtain⟨y,s1⟩:=q
    rw[hx]at h
    refine b5i hS hmx hL c v ht hN hx (ok.keep _) fun g1 a1 w1 ok1 e1=>?_
    have e1':Ext s.b g s.h w g1 s1.h w1:=e1.le ok.base
    have hlen:=e1.len
    have hbase:=ok.base
    cases y with
    |nrm=>
     refine hL.2 _ A N c v ks ht hN (g1.cut s.h.length) _ a1 w1 x s' h (a0x.back ok.inv.und ok.base ok1 e1) Q fun g' a' w' ok' e'=>?_
     exact hq g' a' w' ok' ((e1'.cut rfl ok.base).trans e' (Nat.le_refl _))
    |exit i=>
     cases h
     exact hq g1 a1 w1 ⟨ok1.inv,ok1.env,ok1.defers,by simp only at hlen⊢;omega⟩ e1'
    |ret=>
     cases h
     exact hq g1 a1 w1 ⟨ok1.inv,ok1.env,ok1.defers,by simp only at hlen⊢;omega⟩ e1'
theorem b8e {pg:Pg} (hT:a3g P pg) (hmx:P.follows .mixedOrders=true):b5s P pg.toCx (evF pg):=fun f args H r H' h=>by
  obtain⟨n,hn⟩:=a5t.1 h
  exact(b1y hT hmx n).1 f args H r H' hn
end
end Go.Vm
