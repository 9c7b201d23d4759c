import Derived.Test.YtocpgkeiakjicaaGreatIteW9
import Derived.Test.YtocpgkeiakjicaaGreatTreP5
import Derived.Test.YtocpgkeiakjicaaGreatItlW5
set_option maxRecDepth 100000
set_option linter.unusedVariables false
set_option linter.unusedSimpArgs false
namespace Go.Vm
mutual
def eqD:D->D->Bool
 | .bool a,.bool b=>a==b
 | .int k a,.int j b=>decide (k=j) && decide (a=b)
 | .str a,.str b=>decide (a=b)
 | .sl a,.sl b=>f7w a b
 | .agg a,.agg b=>f7w a b
 |_,_=>false
def f7w:List D->List D->Bool
 |[],[]=>true
 |a::l,b::m=>eqD a b && f7w l m
 |_,_=>false
end
mutual
theorem c7y:∀ (a b:D),eqD a b=true->a=b
 | .bool a,b,h=>by cases b<;>simp only[eqD,beq_iff_eq,Bool.false_eq_true]at h;rw[h]
 | .int k a,b,h=>by cases b<;>simp only[eqD,Bool.and_eq_true,decide_eq_true_eq,Bool.false_eq_true]at h;rw[h.1,h.2]
 | .str a,b,h=>by cases b<;>simp only[eqD,decide_eq_true_eq,Bool.false_eq_true]at h;rw[h]
 | .sl a,b,h=>by cases b<;>simp only[eqD,Bool.false_eq_true]at h;rw[b9r _ _ h]
 | .agg a,b,h=>by cases b<;>simp only[eqD,Bool.false_eq_true]at h;rw[b9r _ _ h]
theorem b9r:∀ (a b:List D),f7w a b=true->a=b
 |[],b,h=>by cases b<;>simp only[f7w,Bool.false_eq_true]at h;rfl
 |a::l,b,h=>by cases b<;>simp only[f7w,Bool.and_eq_true,Bool.false_eq_true]at h;rw[c7y _ _ h.1,b9r _ _ h.2]
end
mutual
def eqV:V->V->Bool
 | .d a,.d b=>eqD a b
 | .agg a,.agg b=>f7i a b
 | .tup a,.tup b=>f7i a b
 | .nils,.nils=>true
 | .row a b,.row c d=>decide (a=c) && decide (b=d)
 | .arr a b c,.arr d e f=>decide (a=d) && (decide (b=e) && decide (c=f))
 | .ptr a b,.ptr c d=>decide (a=c) && decide (b=d)
 | .ro a b,.ro c d=>f7w a c && decide (b=d)
 | .fn a b,.fn c d=>decide (a=c) && f7i b d
 | .fm a b,.fm c d=>decide (a=c) && f7i b d
 | .nul,.nul=>true
 | .nof,.nof=>true
 | .ifc a,.ifc b=>a==b
 | .nmp,.nmp=>true
 | .nile,.nile=>true
 | .mp a,.mp b=>decide (a=b)
 | .undef,.undef=>true
 |_,_=>false
def f7i:List V->List V->Bool
 |[],[]=>true
 |a::l,b::m=>eqV a b && f7i l m
 |_,_=>false
end
mutual
theorem f2b:∀ (a b:V),eqV a b=true->a=b
 | .d a,b,h=>by cases b<;>simp only[eqV,Bool.false_eq_true]at h;rw[c7y _ _ h]
 | .agg a,b,h=>by cases b<;>simp only[eqV,Bool.false_eq_true]at h;rw[b9v _ _ h]
 | .tup a,b,h=>by cases b<;>simp only[eqV,Bool.false_eq_true]at h;rw[b9v _ _ h]
 | .nils,b,h=>by cases b<;>simp only[eqV,Bool.false_eq_true]at h;rfl
 | .row ..,b,h=>by cases b<;>simp only[eqV,Bool.and_eq_true,decide_eq_true_eq,Bool.false_eq_true]at h;rw[h.1,h.2]
 | .arr ..,b,h=>by cases b<;>simp only[eqV,Bool.and_eq_true,decide_eq_true_eq,Bool.false_eq_true]at h;rw[h.1,h.2.1,h.2.2]
 | .ptr ..,b,h=>by cases b<;>simp only[eqV,Bool.and_eq_true,decide_eq_true_eq,Bool.false_eq_true]at h;rw[h.1,h.2]
 | .ro ..,b,h=>by cases b<;>simp only[eqV,Bool.and_eq_true,decide_eq_true_eq,Bool.false_eq_true]at h;rw[b9r _ _ h.1,h.2]
 | .fn _ c,b,h=>by cases b<;>simp only[eqV,Bool.and_eq_true,decide_eq_true_eq,Bool.false_eq_true]at h;rw[h.1,b9v c _ h.2]
 | .fm _ c,b,h=>by cases b<;>simp only[eqV,Bool.and_eq_true,decide_eq_true_eq,Bool.false_eq_true]at h;rw[h.1,b9v c _ h.2]
 | .nul,b,h=>by cases b<;>simp only[eqV,Bool.false_eq_true]at h;rfl
 | .nof,b,h=>by cases b<;>simp only[eqV,Bool.false_eq_true]at h;rfl
 | .ifc a,b,h=>by cases b<;>simp only[eqV,beq_iff_eq,Bool.false_eq_true]at h;rw[h]
 | .raw a,b,h=>by cases b<;>simp only[eqV,Bool.false_eq_true]at h
 | .nmp,b,h=>by cases b<;>simp only[eqV,Bool.false_eq_true]at h;rfl
 | .nile,b,h=>by cases b<;>simp only[eqV,Bool.false_eq_true]at h;rfl
 | .mp ..,b,h=>by cases b<;>simp only[eqV,decide_eq_true_eq,Bool.false_eq_true]at h;rw[h]
 | .undef,b,h=>by cases b<;>simp only[eqV,Bool.false_eq_true]at h;rfl
theorem b9v:∀ (a b:List V),f7i a b=true->a=b
 |[],b,h=>by cases b<;>simp only[f7i,Bool.false_eq_true]at h;rfl
 |a::l,b,h=>by cases b<;>simp only[f7i,Bool.and_eq_true,Bool.false_eq_true]at h;rw[f2b _ _ h.1,b9v _ _ h.2]
end
def g2k:List (D×D)->List (D×D)->Bool
 |[],[]=>true
 |a::l,b::m=>eqD a.1 b.1 && (eqD a.2 b.2 && g2k l m)
 |_,_=>false
theorem e0c:∀ (a b:List (D×D)),g2k a b=true->a=b
 |[],b,h=>by cases b<;>simp only[g2k,Bool.false_eq_true]at h;rfl
 |(x,y)::l,b,h=>by
  cases b with
  |nil=>simp only[g2k,Bool.false_eq_true]at h
  |cons z m=>
   obtain⟨z1,z2⟩:=z
   simp only[g2k,Bool.and_eq_true]at h
   rw[c7y _ _ h.1,c7y _ _ h.2.1,e0c _ _ h.2.2]
def h7h:Ob->Ob->Bool
 | .box a,.box b=>f7i a b
 | .frz a,.frz b=>f7w a b
 | .row n a,.row m b=>decide (n=m) && f7w a b
 | .map a,.map b=>g2k a b
 |_,_=>false
theorem g1m {a b:Ob} (h:h7h a b=true):a=b:=by
 cases a<;>cases b<;>simp only[h7h,Bool.and_eq_true,decide_eq_true_eq,Bool.false_eq_true]at h
 ·rw[b9v _ _ h]
 ·rw[b9r _ _ h]
 ·rw[h.1,b9r _ _ h.2]
 ·rw[e0c _ _ h]
def f7z:Hp->Hp->Bool
 |[],[]=>true
 |a::l,b::m=>h7h a b && f7z l m
 |_,_=>false
theorem c1c:∀ (a b:Hp),f7z a b=true->a=b
 |[],b,h=>by cases b<;>simp only[f7z,Bool.false_eq_true]at h;rfl
 |a::l,b,h=>by cases b<;>simp only[f7z,Bool.and_eq_true,Bool.false_eq_true]at h;rw[g1m h.1,c1c _ _ h.2]
def f4v (h h':Hp):Bool:=f7z h (h'.take h.length) && a5w h'.length (h'.drop h.length)
theorem f2y {h h':Hp} (x:f4v h h'=true):grew h h'=true:=by
 simp only[f4v,Bool.and_eq_true]at x
 simp only[grew,Bool.and_eq_true,decide_eq_true_eq]
 exact⟨⟨h'.drop h.length,by conv=>lhs;rw[<-List.take_append_drop h.length h',<-c1c _ _ x.1]⟩,x.2⟩
def hdE:Env->V
 |(_,v)::_=>v
 |[]=> .undef
def h5m (o:a0e) (x:Option St) (q:St) (H1:Hp):Bool:=match x with
 |some y=>(b9z o.op||f7z y.h H1) && (match o.dst with|none=>true|some _=>eqV (hdE y.e) (hdE q.e))
 |none=>false
variable {cx:Cx} {orc:Orc}
theorem d3c {o:a0e} {s q:St} (h:a0d cx orc o s=some q) (hp:b9z o.op=true):q.h=s.h:=by
 unfold a0d at h
 split at h
 ·obtain⟨r,hr,rfl⟩:=Option.map_eq_some_iff.1 h
  exact c3l hp (v:=r.1) (H':=r.2) hr
 ·unfold grd at h
  split at h
  ·split at h
   ·obtain⟨r,hr,rfl⟩:=Option.map_eq_some_iff.1 h
    exact c3l hp (v:=r.1) (H':=r.2) hr
   ·cases h;rfl
  ·cases h;rfl
  ·cases h
theorem same_eq {o:a0e} {s q:St} {H1:Hp} (h:a0d cx orc o s=some q) (hs:h5m o (a0d cx orc o ⟨s.e,H1,s.b⟩) q H1=true):a0d cx orc o ⟨s.e,H1,s.b⟩=some ⟨q.e,H1,s.b⟩:=by
 unfold h5m at hs
 split at hs
 ·rename_i y hy
  simp only[Bool.and_eq_true,Bool.or_eq_true]at hs
  have hh:y.h=H1:=hs.1.elim (fun p=>d3c hy p) (fun p=>c1c _ _ p)
  obtain⟨v,hv⟩:=a7h h
  obtain⟨w,hw⟩:=a7h hy
  have he:y.e=q.e:=by
   rw[hv,hw]
   cases hd:o.dst with
   |none=>rfl
   |some d=>
    have h2:=hs.2
    rw[hd]at h2
    simp only[hv,hw,hd,a6p,hdE]at h2
    rw[f2b _ _ h2]
  rw[hy,<-he,<-hh,<-a3o hy]
 ·cases hs
def f4g (cx:Cx) (orc:Orc):Nat->List a0e->St->Option St
 |_,[],s=>some s
 |0,r,s=>a0o cx orc r s
 |m+1,o::r,s=>(a0d cx orc o s).bind fun s'=>if(b9z o.op||f4v s.h s'.h) && b5g o.dst s' then f4g cx orc m r s' else none
theorem e1v:∀ {m:Nat} {r:List a0e} {s q:St},f4g cx orc m r s=some q->a2f cx orc m r s=some q
 |0,[],_,_,h=>h
 |_+1,[],_,_,h=>h
 |0,_::_,_,_,h=>h
 |m+1,o::r,s,q,h=>by
  simp only[f4g]at h
  simp only[a2f]
  cases hx:a0d cx orc o s with
  |none=>rw[hx]at h;cases h
  |some s1=>
   rw[hx]at h
   simp only[Option.bind_some]at h⊢
   split at h
   ·rename_i hc
    simp only[Bool.and_eq_true,Bool.or_eq_true]at hc
    have hg:grew s.h s1.h=true:=hc.1.elim (fun p=>by rw[d3c hx p];exact c5r _) f2y
    rw[if_pos (by rw[hg,hc.2];rfl)]
    exact e1v h
   ·cases h
def cBh (cx:Cx) (orc:Orc) (d:Option Nat) (H0:Hp):Nat->List a0e->St->Option St
 |_,[],s=>some s
 |0,r,s=>a0o cx orc r s
 |m+1,o::r,s=>(a0d cx orc o s).bind fun s'=>if(b9z o.op||f7z s'.h s.h) && (d5p d o||h5m o (a0d cx orc o ⟨s.e,H0,s.b⟩) s' H0) then cBh cx orc d H0 m r s' else none
def g0k (cx:Cx) (orc:Orc) (H1:Hp) (b:Nat):List (a0e×St×St)->Bool
 |[]=>true
 |(o,s,q)::r=>h5m o (a0d cx orc o ⟨s.e,H1,b⟩) q H1 && g0k cx orc H1 b r
def cZ (cx:Cx) (orc:Orc) (acc:List (a0e×St×St)) (o:a0e) (s s1:St):List a0e->Option St
 |[]=>none
 |z::r=>match a0d cx orc z s1,a0d cx orc z ⟨s1.e,s.h,s.b⟩with
  |some s2,some s3=>match a0d cx orc o ⟨s.e,s3.h,s.b⟩with
   |some s4=>if(z.dst.isNone||eqV (hdE s3.e) (hdE s2.e)) && ((o.dst.isNone||eqV (hdE s4.e) (hdE s1.e)) && (f7z s4.h s2.h && (g0k cx orc s1.h s.b acc && (g0k cx orc s3.h s.b acc && g0k cx orc s2.h s.b acc)))) then a0o cx orc r s2 else none
   |none=>none
  |_,_=>none
def cGo (cx:Cx) (orc:Orc) (acc:List (a0e×St×St)):Nat->List a0e->St->Option St
 |_,[],s=>some s
 |0,r,s=>a0o cx orc r s
 |m+1,o::r,s=>(a0d cx orc o s).bind fun s'=>
  if(b9z o.op||f7z s'.h s.h) then(if b5g o.dst s' then cGo cx orc ((o,s,s')::acc) m r s' else none)
  else if f4v s.h s'.h && b5g o.dst s' then f4g cx orc m r s'
  else match(if Nat.ble m r.length && g0k cx orc s'.h s.b acc then cBh cx orc o.dst s.h m r s' else none)with
   |some q=>some q
   |none=>if m=1 then cZ cx orc acc o s s' r else none
section
variable {pg:Pg}
theorem Ahd.h8f {b:Nat} {s:St} {pre:List a0e} {e e':Env} {chk chk':Hp->Prop->Prop} (A:Ahd (pg:=pg) b s pre e chk) {o:a0e} (h:a0d pg.toCx (evF pg) o ⟨e,s.h,b⟩=some ⟨e',s.h,b⟩)
 (hcc:∀ H1 P,chk' H1 P->a0d pg.toCx (evF pg) o ⟨e,H1,b⟩=some ⟨e',H1,b⟩/\chk H1 P):Ahd (pg:=pg) b s (pre++[o]) e' chk':=by
 have hr:=a3u A.run h
 refine⟨hr,fun i q hi hq=>?_,fun H1 P hc=>?_⟩
 ·rw[List.length_append,List.length_singleton]at hi
  by_cases c:i<=pre.length
  ·rw[a5x c]at hq;exact A.quiet i q c hq
  ·have:i=pre.length+1:=om
   rw[this,List.take_of_length_le (by simp),hr]at hq
   cases hq;rfl
 ·obtain⟨h1,h4⟩:=hcc H1 P hc
  obtain⟨hP,hall⟩:=A.chk H1 P h4
  refine⟨hP,fun i p q q' hp hq hq'=>?_⟩
  by_cases c:i < pre.length
  ·rw[List.getElem?_append_left c]at hp
   rw[a5x om]at hq hq'
   exact hall i p q q' hp hq hq'
  ·have hi:i=pre.length:=by
    have:=(List.getElem?_eq_some_iff.1 hp).1
    rw[List.length_append,List.length_singleton]at this
    omega
   subst hi
   rw[List.getElem?_append_right (Nat.le_refl _),Nat.sub_self]at hp
   cases hp
   rw[a5x (Nat.le_refl _),List.take_of_length_le (Nat.le_refl _),A.run]at hq
   rw[List.take_of_length_le (by simp),hr]at hq'
   cases hq;cases hq'
   exact h1
theorem e8z {b d:Nat} {ops:List a0e} {od oz:a0e} {e:Env} {H H10 H01 H5:Hp} {e1 e4 e5:Env} {chk:Hp->Prop->Prop} {s':St} (hlen:d+2<=ops.length) (hod:ops[d]? =some od) (hoz:ops[d+1]? =some oz)
 (A:Ahd (pg:=pg) b ⟨e,H,b⟩ (ops.take d) e1 chk)
 (g1:a0d pg.toCx (evF pg) od ⟨e1,H,b⟩=some ⟨e5,H10,b⟩) (g2:a0d pg.toCx (evF pg) oz ⟨e5,H10,b⟩=some ⟨e4,H5,b⟩)
 (g3:a0d pg.toCx (evF pg) oz ⟨e5,H,b⟩=some ⟨e4,H01,b⟩) (g4:a0d pg.toCx (evF pg) od ⟨e1,H01,b⟩=some ⟨e5,H5,b⟩)
 (k10:chk H10 True) (k01:chk H01 True) (k11:chk H5 True) (hops:a0o pg.toCx (evF pg) ops ⟨e,H,b⟩=some s'):c7b pg.toCx (evF pg) (d+2) ops ⟨e,H,b⟩:=by
 have htd:(ops.take d).length=d:=by rw[List.length_take];omega
 have c10:=(A.chk _ _ k10).2
 have c01:=(A.chk _ _ k01).2
 have c11:=(A.chk _ _ k11).2
 have r1:a0o pg.toCx (evF pg) (ops.take (d+1)) ⟨e,H,b⟩=some ⟨e5,H10,b⟩:=by
  rw[List.take_add_one,hod];exact a3u A.run g1
 have r2:a0o pg.toCx (evF pg) (ops.take (d+2)) ⟨e,H,b⟩=some ⟨e4,H5,b⟩:=by
  rw[show d+2=d+1+1 from rfl,List.take_add_one,hoz];exact a3u r1 g2
 refine .inr (.inl ?_)
 have pref:∀ i,∃ q,a0o pg.toCx (evF pg) (ops.take i) ⟨e,H,b⟩=some q:=by
  intro i
  have h:=hops
  rw[<-List.take_append_drop i ops,a3p]at h
  cases hq:a0o pg.toCx (evF pg) (ops.take i) ⟨e,H,b⟩with
  |none=>rw[hq]at h;cases h
  |some q=>exact⟨q,rfl⟩
 have one:∀ {i o q q'},ops[i]? =some o->a0o pg.toCx (evF pg) (ops.take i) ⟨e,H,b⟩=some q->a0o pg.toCx (evF pg) (ops.take (i+1)) ⟨e,H,b⟩=some q'->a0d pg.toCx (evF pg) o q=some q':=by
  intro i o q q' ho hq hq'
  rw[List.take_add_one,a3p,hq,ho]at hq'
  simp only[Option.toList,Option.bind_some,a0o]at hq'
  cases hx:a0d pg.toCx (evF pg) o q with
  |none=>rw[hx]at hq';cases hq'
  |some y=>rw[hx]at hq';exact hq'
 obtain⟨τ,hτ⟩:∃ τ:Nat->St,∀ i,a0o pg.toCx (evF pg) (ops.take i) ⟨e,H,b⟩=some (τ i):=⟨fun i=>(pref i).choose,fun i=>(pref i).choose_spec⟩
 have hv:∀ i,∃ x,∀ o,ops[i]? =some o->(τ (i+1)).e=a6p o.dst x (τ i).e:=by
  intro i
  cases ho:ops[i]? with
  |none=>exact⟨.undef,fun o h=>by cases h⟩
  |some o=>
   obtain⟨x,hx⟩:=a7h (one ho (hτ i) (hτ (i+1)))
   exact⟨x,fun o' h=>by cases h;exact hx⟩
 obtain⟨val,hval⟩:∃ val:Nat->V,∀ i o,ops[i]? =some o->(τ (i+1)).e=a6p o.dst (val i) (τ i).e:=⟨fun i=>(hv i).choose,fun i=>(hv i).choose_spec⟩
 have t0:τ 0=⟨e,H,b⟩:=by have:=hτ 0;simp only[List.take_zero,a0o,Option.some.injEq]at this;exact this.symm
 have td:τ d=⟨e1,H,b⟩:=by have:=hτ d;rw[A.run]at this;simpa using this.symm
 have td1:τ (d+1)=⟨e5,H10,b⟩:=by have:=hτ (d+1);rw[r1]at this;simpa using this.symm
 have td2:τ (d+2)=⟨e4,H5,b⟩:=by have:=hτ (d+2);rw[r2]at this;simpa using this.symm
 have tk:∀ {i j},i<=j->(ops.take j).take i=ops.take i:=fun{i j} h=>by rw[List.take_take,Nat.min_eq_left h]
 have gt:∀ {i j},i < j->(ops.take j)[i]? =ops[i]? :=fun{i j} h=>by rw[List.getElem?_take,if_pos h]
 have lo:∀ i,i<=d->(τ i).h=H:=fun i hi=>A.quiet i _ om (by rw[tk hi];exact hτ i)
 have hb:∀ i,(τ i).b=b:=by
  intro i
  induction i with
  |zero=>rw[t0]
  |succ i ih=>
   cases ho:ops[i]? with
   |none=>
    have e1:ops.take (i+1)=ops.take i:=by
     have:ops.length<=i:=List.getElem?_eq_none_iff.1 ho
     rw[List.take_of_length_le this,List.take_of_length_le om]
    have:=hτ (i+1)
    rw[e1,hτ i]at this
    simp only[Option.some.injEq]at this
    rw[<-this,ih]
   |some o=>rw[a3o (one ho (hτ i) (hτ (i+1))),ih]
 refine⟨d,d+1,fun i=>(τ i).e,val,fun x y=>match x,y with|false,false=>H|true,false=>H10|false,true=>H01|true,true=>H5,om,om,om,hlen,by rw[t0],rfl,fun i o _ ho=>hval i o ho,fun i o x y hi ho hx hy=>?_⟩
 have cs:i < d\/i=d\/i=d+1:=om
 rcases cs with c|rfl|rfl
 ·rw[decide_eq_false om,decide_eq_false om,Bool.or_false,Bool.or_false]
  have all:∀ H1,(∀ (i:Nat) (o:a0e) (q q':St),(ops.take d)[i]? =some o->a0o pg.toCx (evF pg) ((ops.take d).take i) ⟨e,H,b⟩=some q->a0o pg.toCx (evF pg) ((ops.take d).take (i+1)) ⟨e,H,b⟩=some q'->a0d pg.toCx (evF pg) o ⟨q.e,H1,b⟩=some ⟨q'.e,H1,b⟩)->a0d pg.toCx (evF pg) o ⟨(τ i).e,H1,b⟩=some ⟨(τ (i+1)).e,H1,b⟩:=fun H1 hh=>
   hh i o _ _ (by rw[gt c];exact ho) (by rw[tk om];exact hτ i) (by rw[tk om];exact hτ (i+1))
  cases x<;>cases y
  ·have:=one ho (hτ i) (hτ (i+1))
   rw[show τ i=⟨(τ i).e,(τ i).h,(τ i).b⟩from rfl,show τ (i+1)=⟨(τ (i+1)).e,(τ (i+1)).h,(τ (i+1)).b⟩from rfl,lo i om,lo (i+1) om,hb,hb]at this
   exact this
  ·exact all _ c01
  ·exact all _ c10
  ·exact all _ c11
 ·rw[hod]at ho;cases ho
  have hx:=hx rfl
  subst hx
  simp only[td,td1]
  rw[decide_eq_false (show ¬ i=i+1 by omega),Bool.or_false]
  cases y
  ·exact g1
  ·exact g4
 ·rw[hoz]at ho;cases ho
  have hy:=hy rfl
  subst hy
  simp only[td1,td2]
  rw[decide_eq_false (show ¬ d+1=d by omega),Bool.or_false]
  cases x
  ·exact g3
  ·exact g2
variable {orc:Orc} (ho:OLe orc (evF pg))
include ho
theorem f9u {b:Nat} {s0:St} {d:Nat} {od:a0e} {H1:Hp}:∀ {m:Nat} {r pre:List a0e} {s q:St},Bhd (pg:=pg) b s0 d od H1 pre s.e->s.h=H1->s.b=b->m<=r.length->cBh pg.toCx orc od.dst s0.h m r s=some q->
 ∃ e2,Bhd (pg:=pg) b s0 d od H1 (pre++r.take m) e2/\a0o pg.toCx (evF pg) (pre++r) s0=some q
 |0,r,pre,s,q,B,hh,hb,_,h=>by
  refine⟨s.e,by rw[List.take_zero,List.append_nil];exact B,?_⟩
  rw[a3p,B.run]
  subst hh;subst hb
  cases r with
  |nil=>exact h
  |cons o r=>exact a2n ho h
 |m+1,[],pre,s,q,B,hh,hb,hm,h=>absurd hm (by simp)
 |m+1,o::r,pre,s,q,B,hh,hb,hm,h=>by
  simp only[cBh]at h
  cases hy:a0d pg.toCx orc o s with
  |none=>rw[hy]at h;cases h
  |some s1=>
   rw[hy]at h
   have hx:=a0s ho hy
   simp only[Option.bind_some]at h
   split at h
   ·rename_i hc
    simp only[Bool.and_eq_true,Bool.or_eq_true]at hc
    have h1:s1.h=s.h:=hc.1.elim (fun p=>d3c hx p) (fun p=>c1c _ _ p)
    have hb1:=a3o hx
    subst hh;subst hb
    have hx':a0d pg.toCx (evF pg) o ⟨s.e,s.h,s.b⟩=some ⟨s1.e,s.h,s.b⟩:=by rw[show(⟨s.e,s.h,s.b⟩:St)=s from rfl,hx,<-h1,<-hb1]
    have h2:(∃ t,od.dst=some t/\t∈o.names)\/a0d pg.toCx (evF pg) o ⟨s.e,s0.h,s.b⟩=some ⟨s1.e,s0.h,s.b⟩:=hc.2.imp e2z (fun p=>a0s ho (same_eq hy p))
    obtain⟨e2,B2,h3⟩:=f9u (m:=m) (r:=r) (pre:=pre++[o]) (B.snoc hx' h2) h1 hb1 (by simpa using hm) h
    refine⟨e2,?_,?_⟩
    ·rw[List.take_succ_cons];rw[List.append_assoc]at B2;exact B2
    ·rw[List.append_assoc]at h3;exact h3
   ·cases h
structure GoI (pg:Pg) (s0:St) (pre:List a0e) (acc:List (a0e×St×St)) (s:St):Prop where
 h:s.h=s0.h
 b:s.b=s0.b
 draw:∀ n r,a2f pg.toCx (evF pg) (pre.length+n) (pre++r) s0=a2f pg.toCx (evF pg) n r s
 ahd:Ahd (pg:=pg) s0.b s0 pre s.e (fun H1 P=>P/\∀ p∈acc,a0d pg.toCx (evF pg) p.1 ⟨p.2.1.e,H1,s0.b⟩=some ⟨p.2.2.e,H1,s0.b⟩)
theorem c4g {H1:Hp} {b:Nat}:∀ {acc:List (a0e×St×St)},(∀ p∈acc,a0d pg.toCx orc p.1 p.2.1=some p.2.2/\p.2.1.b=b)->g0k pg.toCx orc H1 b acc=true->∀ p∈acc,a0d pg.toCx (evF pg) p.1 ⟨p.2.1.e,H1,b⟩=some ⟨p.2.2.e,H1,b⟩
 |[],_,_,p,hp=>by cases hp
 |(o,s,q)::r,ha,h,p,hp=>by
  simp only[g0k,Bool.and_eq_true]at h
  rcases List.mem_cons.1 hp with rfl|hp
  ·obtain⟨h1,h2⟩:=ha _ (List.mem_cons_self ..)
   simp only at h1 h2⊢
   subst h2
   exact a0s ho (same_eq h1 h.1)
  ·exact c4g (fun p hp=>ha p (List.mem_cons_of_mem _ hp)) h.2 p hp
theorem f8z {s0:St}:∀ {m:Nat} {r pre:List a0e} {acc} {s q:St},GoI pg s0 pre acc s->(∀ p∈acc,a0d pg.toCx orc p.1 p.2.1=some p.2.2/\p.2.1.b=s0.b)->cGo pg.toCx orc acc m r s=some q->b0o pg.toCx (evF pg) (pre.length+m) (pre++r) s0=some q
 |0,[],pre,acc,s,q,I,_,h=>b9a (by rw[I.draw];first|exact h|exact a2n ho h)
 |_+1,[],pre,acc,s,q,I,_,h=>b9a (by rw[I.draw];first|exact h|exact a2n ho h)
 |0,_::_,pre,acc,s,q,I,_,h=>b9a (by rw[I.draw];first|exact h|exact a2n ho h)
 |m+1,o::r,pre,acc,s,q,I,ha,h=>by
  simp only[cGo]at h
  cases hy:a0d pg.toCx orc o s with
  |none=>rw[hy]at h;cases h
  |some s1=>
   rw[hy]at h
   have hx:=a0s ho hy
   simp only[Option.bind_some]at h
   have hb1:=a3o hx
   split at h
   ·rename_i hq
    have h1:s1.h=s.h:=by
     rcases(Bool.or_eq_true _ _).mp hq with p|p
     ·exact d3c hx p
     ·exact c1c _ _ p
    split at h
    ·rename_i hd
     have hx':a0d pg.toCx (evF pg) o ⟨s.e,s0.h,s0.b⟩=some ⟨s1.e,s0.h,s0.b⟩:=by rw[<-I.h,<-I.b,show(⟨s.e,s.h,s.b⟩:St)=s from rfl,hx,<-h1,<-hb1]
     have J:GoI pg s0 (pre++[o]) ((o,s,s1)::acc) s1:=by
      refine⟨h1.trans I.h,hb1.trans I.b,fun n r=>?_,I.ahd.h8f hx' fun H1 P hc=>⟨hc.2 _ (List.mem_cons_self ..),hc.1,fun p hp=>hc.2 p (List.mem_cons_of_mem _ hp)⟩⟩
      have:=I.draw (n+1) (o::r)
      rw[List.length_append,List.length_singleton,List.append_assoc,show pre.length+1+n=pre.length+(n+1)by omega]
      refine this.trans ?_
      simp only[a2f,hx,Option.bind_some]
      rw[if_pos (by rw[h1,c5r,hd];rfl)]
     have:=f8z (m:=m) (r:=r) J (fun p hp=>by
       rcases List.mem_cons.1 hp with rfl|hp
       ·exact⟨hy,I.b⟩
       ·exact ha p hp) h
     rw[List.length_append,List.length_singleton,List.append_assoc,show pre.length+1+m=pre.length+(m+1)by omega]at this
     exact this
    ·cases h
   ·split at h
    ·rename_i hg
     simp only[Bool.and_eq_true]at hg
     refine b9a ?_
     rw[I.draw]
     simp only[a2f,hx,Option.bind_some]
     rw[if_pos (by rw[f2y hg.1,hg.2];rfl)]
     exact a6u ho (e1v h)
    ·have hrun:=I.ahd.run
     have es:(⟨s.e,s0.h,s0.b⟩:St)=s:=by rw[<-I.h,<-I.b]
     rw[es]at hrun
     have hpre:=a3u hrun hx
     split at h
     ·rename_i q' hq'
      cases h
      split at hq'
      ·rename_i hc
       simp only[Bool.and_eq_true]at hc
       have hm:=Nat.le_of_ble_eq_true hc.1
       have hchk:=c4g ho ha (by rw[<-I.b];exact hc.2)
       have B0:Bhd (pg:=pg) s0.b s0 pre.length o s1.h (pre++[o]) s1.e:=by
        refine⟨by rw[hpre,<-I.b,<-hb1],by simp,fun i q h1 h2 hq=>?_,fun i p q q' h1 hp=>?_⟩
        ·simp only[List.length_append,List.length_singleton]at h2
         have:i=pre.length+1:=om
         rw[this,List.take_of_length_le (by simp),hpre]at hq
         cases hq;rfl
        ·have:=(List.getElem?_eq_some_iff.1 hp).1
         simp only[List.length_append,List.length_singleton]at this
         omega
       rw[I.h]at hq'
       obtain⟨e2,B,hops⟩:=f9u ho B0 rfl (hb1.trans I.b) hm hq'
       rw[List.append_assoc]at hops B
       have htk:(pre++o::r).take (pre.length+(m+1))=pre++([o]++r.take m):=by
        rw[List.take_append,List.take_of_length_le om,Nat.add_sub_cancel_left];rfl
       refine a3a.2 ⟨hops,.inr ?_⟩
       refine e3n (d:=pre.length) (od:=o) (e1:=s.e) (e2:=e2) (H1:=s1.h) (P:=True) (chk:=fun H1 P=>P/\∀ p∈acc,a0d pg.toCx (evF pg) p.1 ⟨p.2.1.e,H1,s0.b⟩=some ⟨p.2.2.e,H1,s0.b⟩) rfl (by simp;omega) (by rw[List.getElem?_append_right (Nat.le_refl _),Nat.sub_self];rfl) ?_ ⟨trivial,hchk⟩ om ?_ hops
       ·rw[List.take_left];exact I.ahd
       ·rw[htk];exact B
      ·cases hq'
     ·split at h
      ·rename_i hm1
       subst hm1
       unfold cZ at h
       split at h
       ·cases h
       ·rename_i z r' _
        split at h
        ·rename_i s2 s3 y2 y3
         split at h
         ·rename_i s4 y4
          split at h
          ·rename_i hc
           simp only[Bool.and_eq_true,Bool.or_eq_true,Option.isNone_iff_eq_none]at hc
           obtain⟨d1,d2,d3,d4,d5,d6⟩:=hc
           have hd:∀ {p:a0e} {a b c:Env} {x y:V},a=a6p p.dst x c->b=a6p p.dst y c->(p.dst=none\/eqV (hdE a) (hdE b)=true)->a=b:=by
            intro p a b c x y h1 h2 h3
            cases hp:p.dst with
            |none=>rw[h1,h2,hp];rfl
            |some d=>
             rw[hp]at h1 h2 h3
             rcases h3 with h3|h3
             ·cases h3
             ·subst h1;subst h2
              have:=f2b _ _ h3
              simp only[a6p,hdE]at this
              rw[this]
           have x2:=a0s ho y2
           have x3:=a0s ho y3
           have x4:=a0s ho y4
           obtain⟨v1,w1⟩:=a7h hx
           obtain⟨v2,w2⟩:=a7h x2
           obtain⟨v3,w3⟩:=a7h x3
           obtain⟨v4,w4⟩:=a7h x4
           have q3:s3.e=s2.e:=hd w3 w2 d1
           have q4:s4.e=s1.e:=hd w4 w1 d2
           have q5:=c1c _ _ d3
           have b2:=a3o x2
           have b3:=a3o x3
           have b4:=a3o x4
           simp only at b3 b4
           have c1:=c4g ho (b:=s.b) (acc:=acc) (by rw[I.b];exact ha) d4
           have c2:=c4g ho (b:=s.b) (acc:=acc) (by rw[I.b];exact ha) d5
           have c3:=c4g ho (b:=s.b) (acc:=acc) (by rw[I.b];exact ha) d6
           have hops:a0o pg.toCx (evF pg) (pre++o::z::r') s0=some q:=by
            have h3:=a3u hpre x2
            rw[List.append_assoc]at h3
            rw[show pre++o::z::r'=(pre++([o]++[z]))++r' by simp,a3p,h3]
            exact a2n ho h
           have eb:s0.b=s.b:=I.b.symm
           refine a3a.2 ⟨hops,.inr ?_⟩
           refine e8z (b:=s0.b) (d:=pre.length) (od:=o) (oz:=z) (e:=s0.e) (H:=s0.h) (H10:=s1.h) (H01:=s3.h) (H5:=s2.h) (e1:=s.e) (e4:=s2.e) (e5:=s1.e) (chk:=fun H1 P=>P/\∀ p∈acc,a0d pg.toCx (evF pg) p.1 ⟨p.2.1.e,H1,s0.b⟩=some ⟨p.2.2.e,H1,s0.b⟩) (by simp) (by rw[List.getElem?_append_right (Nat.le_refl _),Nat.sub_self];rfl) (by rw[List.getElem?_append_right om,Nat.add_sub_cancel_left];rfl) (by rw[List.take_left];exact I.ahd) ?_ ?_ ?_ ?_ ⟨trivial,by rw[eb];exact c1⟩ ⟨trivial,by rw[eb];exact c2⟩ ⟨trivial,by rw[eb];exact c3⟩ hops
           ·rw[es,hx,eb,<-hb1]
           ·rw[eb,<-hb1,x2,<-b2]
           ·rw[eb,<-I.h,x3,<-q3,<-b3]
           ·rw[eb,x4,<-q4,<-q5,<-b4]
          ·cases h
         ·cases h
        ·cases h
      ·cases h
theorem g4m {m:Nat} {ops:List a0e} {s q:St} (h:cGo pg.toCx orc [] m ops s=some q):b0o pg.toCx (evF pg) m ops s=some q:=by
 have:=f8z ho (pre:=[]) (s0:=s) (acc:=[]) ⟨rfl,rfl,fun n r=>by rw[List.length_nil,Nat.zero_add];rfl,⟨rfl,fun i q _ hq=>by simp only[List.take_nil,a0o,Option.some.injEq]at hq;rw[<-hq],fun H1 P hP=>⟨hP.1,fun i o q q' ho=>by simp at ho⟩⟩⟩ (fun p hp=>by cases hp) h
 rwa [List.length_nil,Nat.zero_add]at this
end
def cC (cx:Cx) (orc:Orc) (lp:Lp):a0r->St->Option (Ex×St)
 | .skip,s=>some (.nrm,s)
 | .reg ops,s=>(a0o cx orc ops s).map fun s=>(.nrm,s)
 | .draw m ops,s=>(cGo cx orc [] m ops s).map fun s=>(.nrm,s)
 | .seq a b,s=>sq (cC cx orc lp a s) fun s'=>cC cx orc lp b s'
 | .cond c a b,s=>match evO cx s.e c with
   | .d (.bool true)=>cC cx orc lp a s
   | .d (.bool false)=>cC cx orc lp b s
   |_=>none
 | .block id b,s=>match cC cx orc lp b s with
   |some (.exit i,s')=>if i=id then some (.nrm,s') else some (.exit i,s')
   |r=>r
 | .scope b,s=>cC cx orc lp b s
 | .loop ks b,s=>match cC cx orc lp b ⟨a1k ks s.e,s.h,s.h.length⟩with
   |some (.nrm,s')=>lp ks b ⟨cut s.h.length (a1k ks s'.e),s'.h.take s.h.length,s.b⟩
   |some (x,s')=>some (x,⟨s'.e,s'.h,s.b⟩)
   |none=>none
 | .exit i,s=>some (.exit i,s)
 | .ret,s=>some (.ret,s)
 | .newrow sz t,s=>match a1n s.e t with
   | .nils=>if 0 < sz then some (.nrm,⟨(t,.row s.h.length 0)::s.e,s.h++[.row sz []],s.b⟩) else none
   |_=>none
 | .bindrow sz t off,s=>match a1n s.e t with
   | .ptr id o=>match s.h[id]? with
     |some (.box c)=>match c[o+off]? with
      |some .nils=>if s.b<=id/\0 < sz then some (.nrm,⟨s.e,s.h.set id (.box (c.set (o+off) (.row s.h.length 0)))++[.row sz []],s.b⟩) else none
      |_=>none
     |_=>none
   |_=>none
 | .mkrow sz,s=>if 0 < sz then some (.nrm,⟨s.e,s.h++[.row sz []],s.b⟩) else none
 | .bindto t off k,s=>match a1n s.e t with
   | .ptr id o=>match s.h[id]? with
     |some (.box c)=>match c[o+off]?,s.h[id - k]? with
      |some .nils,some (.row _ [])=>if 0 < k/\k<=id/\s.b<=id - k then some (.nrm,⟨s.e,s.h.set id (.box (c.set (o+off) (.row (id - k) 0))),s.b⟩) else none
      |_,_=>none
     |_=>none
   |_=>none
 | .freeze t,s=>match a1n s.e t with
   | .arr id _ _=>match s.h[id]? with
     |some (.box c)=>match b4x c with
      |some ds=>some (.nrm,⟨s.e,s.h.set id (.frz ds),s.b⟩)
      |none=>none
     |_=>none
   | .row id len=>match s.h[id]? with
     |some (.row _ l)=>if l.length=len then some (.nrm,⟨(t,.d (.sl l))::s.e,s.h,s.b⟩) else none
     |_=>none
   |_=>none
theorem g8s {pg:Pg} {orc:Orc} {lp:Lp} (ho:OLe orc (evF pg)) (hl:LLe lp (evL pg)):∀ {c:a0r} {s:St} {r:Ex×St},cC pg.toCx orc lp c s=some r->evC pg.toCx (evF pg) (evL pg) c s=some r:=by
 intro c
 induction c with
 |reg ops=>
  intro s r h;simp only[cC]at h;simp only[evC]
  cases hx:a0o pg.toCx orc ops s with
  |none=>rw[hx]at h;cases h
  |some q=>rw[hx]at h;rw[a2n ho hx];exact h
 |draw m ops=>
  intro s r h;simp only[cC]at h;simp only[evC]
  cases hx:cGo pg.toCx orc [] m ops s with
  |none=>rw[hx]at h;cases h
  |some q=>rw[hx]at h;rw[g4m ho hx];exact h
 |seq a b iha ihb=>
  intro s r h;simp only[cC]at h;simp only[evC]
  cases hx:cC pg.toCx orc lp a s with
  |none=>rw[hx]at h;cases h
  |some q=>
   obtain⟨x,s'⟩:=q
   rw[hx]at h;rw[iha hx]
   cases x<;>first|exact ihb h|exact h
 |cond c a b iha ihb=>
  intro s r h;simp only[cC]at h;simp only[evC]
  split at h
  ·rename_i hc;rw[hc];exact iha h
  ·rename_i hc;rw[hc];exact ihb h
  ·cases h
 |block id b ih=>
  intro s r h;simp only[cC]at h;simp only[evC]
  cases hx:cC pg.toCx orc lp b s with
  |none=>rw[hx]at h;cases h
  |some q=>rw[hx]at h;rw[ih hx];exact h
 |scope b ih=>intro s r h;simp only[cC]at h;simp only[evC];exact ih h
 |loop k b ih=>
  intro s r h;simp only[cC]at h;simp only[evC]
  cases hx:cC pg.toCx orc lp b ⟨a1k k s.e,s.h,s.h.length⟩with
  |none=>rw[hx]at h;cases h
  |some q=>
   obtain⟨x,s'⟩:=q
   rw[hx]at h;rw[ih hx]
   cases x<;>simp only at h⊢ <;>first|exact hl _ _ _ _ h|exact h
 |_=>intro s r h;exact h
def cF (pg:Pg) (kn orc:Orc) (lp:Lp) (f:Nat) (args:List V) (h:Hp):Option (V×Hp):=
 match kn f args h with
 |some r=>some r
 |none=>match pg.tbl f with
  |some (.code vf)=>if args.length=vf.np then
      bare (a1e 0 args && !vf.keep) h fun h=>match cC pg.toCx orc lp vf.body ⟨a2b args,h,h.length⟩with
      |some (.nrm,s)|some (.ret,s)=>leave vf h.length s
      |_=>none
    else none
  |some (.prim F)=>F args h
  |none=>none
def cAt (pg:Pg) (kn:Orc):Nat->Orc×Lp
 |0=>(fun _ _ _=>none,fun _ _ _=>none)
 |n+1=>(cF pg kn (cAt pg kn n).1 (cAt pg kn n).2,fun ks b s=>cC pg.toCx (cAt pg kn n).1 (cAt pg kn n).2 (.loop ks b) s)
theorem f8p {pg:Pg} {kn:Orc} (hk:OLe kn (evF pg)):∀ n,OLe (cAt pg kn n).1 (evF pg)/\LLe (cAt pg kn n).2 (evL pg)
 |0=>⟨fun _ _ _ _ h=>by simp[cAt]at h,fun _ _ _ _ h=>by simp[cAt]at h⟩
 |n+1=>by
  obtain⟨h1,h2⟩:=f8p hk n
  refine⟨fun f a h r hr=>?_,fun k b s r hr=>?_⟩
  ·change cF pg kn (cAt pg kn n).1 (cAt pg kn n).2 f a h=some r at hr
   unfold cF at hr
   split at hr
   ·rename_i q hq;cases hr;exact hk _ _ _ _ hq
   ·split at hr
    ·rename_i vf ht
     rw[c2v ht]
     split at hr
     ·rename_i hn
      rw[if_pos hn]
      refine d1l (fun h r hr=>?_) hr
      unfold e5x
      cases hx:cC pg.toCx (cAt pg kn n).1 (cAt pg kn n).2 vf.body ⟨a2b a,h,h.length⟩with
      |none=>rw[hx]at hr;cases hr
      |some q=>
       rw[hx]at hr
       have e1:ev pg vf.body ⟨a2b a,h,h.length⟩=some q:=g8s h1 h2 hx
       rw[e1];exact hr
     ·cases hr
    ·rename_i F ht;rw[c2u ht];exact hr
    ·cases hr
  ·rw[f8g]
   exact g8s h1 h2 hr
theorem f4w {pg:Pg} {kn:Orc} (hk:OLe kn (evF pg)) (n:Nat) {f:Nat} {a:List V} {h:Hp} {r:V×Hp} (e:(cAt pg kn n).1 f a h=some r):evF pg f a h=some r:=(f8p hk n).1 _ _ _ _ e
end Go.Vm
namespace Go.Vm.Ite
open Go.Vm.Ip
def sA:S:=[83]
def jA:Its:=⟨[⟨sA,[⟨[97],[105,54,52]⟩,⟨[98],[66,111,120,60,83,62]⟩]⟩],[],[⟨[109,97,105,110],[],[],[40,41],8⟩]⟩
def jB:Its:=⟨[⟨sA,[⟨[97],sA⟩]⟩],[],[⟨[109,97,105,110],[],[],[40,41],5⟩]⟩
theorem g4l {y:S} (h:Gets jA sA y):y=[105,54,52]\/y=[66,111,120,60,83,62]:=by
 have hh:(a1b jA sA).1=[[105,54,52],[66,111,120,60,83,62]]:=by decide
 induction h with
 |one h=>rw[hh]at h;simpa using h
 |step _ h ih=>
  rcases ih with e|e
  ·rw[e,show(a1b jA [105,54,52]).1=[] by decide]at h;cases h
  ·rw[e,show(a1b jA [66,111,120,60,83,62]).1=[] by decide]at h;cases h
theorem i0w:c2s jA sA=false:=e2y fun h=>by
  rcases g4l h with e|e
  ·exact absurd e (by decide)
  ·exact absurd e (by decide)
theorem h7u:c2s jB sA=true:=c8o (.one (by decide))
theorem g6v:b0r jA:=⟨by decide,by decide,by decide,by decide,by decide,by decide⟩
theorem g7p:b0r jB:=⟨by decide,by decide,by decide,by decide,by decide,by decide⟩
theorem g3q:Small jA:=⟨by decide,by decide,by decide,by decide⟩
theorem g0d:Small jB:=⟨by decide,by decide,by decide,by decide⟩
def h0g (h:Hp) (a:Nat) (l:List (D×D)):Bool:=match h[a]? with|some (.map m)=>g2k m l|_=>false
theorem e9v {h:Hp} {a:Nat} {l:List (D×D)} (x:h0g h a l=true):h[a]? =some (.map l):=by
 unfold h0g at x
 split at x
 ·rename_i m e;rw[e,e0c _ _ x]
 ·cases x
def h4k (x:Its) (p:Nat) (h:Hp):Bool:=match h[p]? with
 |some (.box [.mp a,.mp b,.mp c])=>h0g h a (a7e (nS x)) && (h0g h b (a7e (nE x)) && (h0g h c (a7e (nF x)) && (decide (a≠b) && (decide (a≠c) && decide (b≠c)))))
 |_=>false
theorem f9g {x:Its} {p:Nat} {h:Hp} (e:h4k x p h=true):e4q x p h:=by
 unfold h4k at e
 split at e
 ·rename_i a b c hp
  simp only[Bool.and_eq_true,decide_eq_true_eq]at e
  obtain⟨h1,h2,h3,h4,h5,h6⟩:=e
  exact⟨a,b,c,hp,e9v h1,e9v h2,e9v h3,h4,h5,h6⟩
 ·cases e
def h9j:Orc:=fun f args h=>if f=55 then match args with
  |[.d d,.ptr p 0,.d (.str s)]=>if s=sA then(if eqD d jA.D && h4k jA p h then some (boo false,h) else if eqD d jB.D && h4k jB p h then some (boo true,h) else none) else none
  |_=>none else none
section
variable {fx:Nat->Option Obj}
theorem g3x:OLe h9j (evF (pgL fx FT)):=by
 intro f a h r e
 unfold h9j at e
 split at e
 ·rename_i hf
  subst hf
  split at e
  ·split at e
   ·rename_i hs
    subst hs
    split at e
    ·rename_i hc
     simp only[Bool.and_eq_true]at hc
     cases e
     rw[c7y _ _ hc.1,<-i0w]
     exact d8g g6v g3q (f9g hc.2) _
    ·split at e
     ·rename_i hc
      simp only[Bool.and_eq_true]at hc
      cases e
      rw[c7y _ _ hc.1,<-h7u]
      exact d8g g7p g0d (f9g hc.2) _
     ·cases e
   ·cases e
  ·cases e
 ·cases e
theorem g8x:(cAt (pgL fx FT) h9j 300).1 b6i [] []=some (boo true,[]):=kr
theorem c7t (H:Hp):evF (pgL fx FT) b6i [] H=some (boo true,H):=by
 have h0:=f4w (g3x (fx:=fx)) 300 (g8x (fx:=fx))
 rw[c2v (c6n (F:=FT)),if_pos (show([]:List V).length=F8.np from rfl)]at h0⊢
 have hb:(a1e 0 ([]:List V) && !F8.keep)=true:=rfl
 rw[hb]at h0⊢
 simp only[bare,Option.map_eq_some_iff,Prod.mk.injEq]at h0⊢
 obtain⟨q,h1,h2,_⟩:=h0
 exact⟨q,h1,h2,trivial⟩
end
end Go.Vm.Ite
namespace Go.Vm.Lex
def Val (s:List UInt8):Prop:=strange 0 s= -1
theorem d7n:∀ (n:Nat) (s:List UInt8) (a b:Nat),s.length<=n->(strange a s= -1↔strange b s= -1):=by
 intro n
 induction n with
 |zero=>intro s a b h;have:s=[]:=List.length_eq_zero_iff.1 om;subst this;rw[a4g,a4g]
 |succ n ih=>
  intro s a b h
  by_cases h0:s=[]
  ·subst h0;rw[a4g,a4g]
  ·by_cases h1:szL s=0
   ·rw[a9f a h0 h1,a9f b h0 h1];omega
   ·rw[a7k a h0 h1,a7k b h0 h1]
    exact ih _ _ _ (by have:=b1w s (by simp[h0,h1]);omega)
theorem g7k (a:Nat) (s:List UInt8):strange a s= -1↔Val s:=d7n _ s a 0 (Nat.le_refl _)
theorem c7z:∀ (n:Nat) (s:List UInt8) (a:Nat),s.length<=n->strange a s= -1\/((a:Int)<=strange a s/\strange a s < a+s.length):=by
 intro n
 induction n with
 |zero=>intro s a h;have:s=[]:=List.length_eq_zero_iff.1 om;subst this;rw[a4g];exact .inl rfl
 |succ n ih=>
  intro s a h
  by_cases h0:s=[]
  ·subst h0;rw[a4g];exact .inl rfl
  ·have hp:0 < s.length:=List.length_pos_iff.2 h0
   by_cases h1:szL s=0
   ·rw[a9f a h0 h1];omega
   ·rw[a7k a h0 h1]
    have:=ih (s.drop (szL s)) (a+szL s) (by have:=b1w s (by simp[h0,h1]);omega)
    have hl:=d4f s
    rw[List.length_drop]at this
    omega
theorem c4m:Val []:=a4g 0
theorem d1z {s:List UInt8} (h:s≠[]):Val s↔szL s≠0/\Val (s.drop (szL s)):=by
 by_cases h1:szL s=0
 ·unfold Val;rw[a9f 0 h h1];simp[h1]
 ·unfold Val;rw[a7k 0 h h1];simp[h1];exact g7k _ _
theorem e9m {c:UInt8} (h:c.toNat < 128) (r:List UInt8):szL (c::r)=1:=by
 unfold szL;rw[if_neg (List.cons_ne_nil _ _)];simp[hd0,h]
theorem c9x {c:UInt8} (h:c.toNat < 128) (r:List UInt8):Val (c::r)↔Val r:=by
 rw[d1z (List.cons_ne_nil _ _),e9m h];simp
theorem d3w (s:List UInt8) (h:szL s≠0):(szL s=1/\s≠[]/\(hd0 s).toNat < 128)\/(128<=(hd0 s).toNat/\szL s=szN (hd0 s)/\2<=szL s/\szL s<=s.length/\c8h (hd0 s)<=(hd1 s).toNat/\(hd1 s).toNat<=d3h (hd0 s)/\((s.take (szL s)).drop 2).all a2a=true):=by
 have hN:=g6z (hd0 s)
 unfold szL at h⊢
 split
 ·rename_i h0;rw[if_pos h0]at h;exact absurd rfl h
 ·rename_i h0
  rw[if_neg h0]at h
  split
  ·rename_i h1;exact .inl ⟨rfl,h0,h1⟩
  ·rename_i h1
   rw[if_neg h1]at h
   split
   ·rename_i h2;rw[if_pos h2]at h;exact absurd rfl h
   ·rename_i h2
    rw[if_neg h2]at h
    split
    ·rename_i h3;rw[if_pos h3]at h;exact absurd rfl h
    ·rename_i h3
     rw[if_neg h3]at h
     split
     ·rename_i h4
      right
      refine⟨om,rfl,om,om,om,om,?_⟩
      exact h4
     ·rename_i h4;rw[if_neg h4]at h;exact absurd rfl h
theorem h2h (s:List UInt8) (h:128<=(hd0 s).toNat) (hN:2<=szN (hd0 s)) (hl:szN (hd0 s)<=s.length) (h1:c8h (hd0 s)<=(hd1 s).toNat) (h2:(hd1 s).toNat<=d3h (hd0 s)) (h3:((s.take (szN (hd0 s))).drop 2).all a2a=true):szL s=szN (hd0 s):=by
 unfold szL
 rw[if_neg (by rintro rfl;simp at hl;omega),if_neg om,if_neg om,if_neg om,if_pos h3]
theorem e1f {s t:List UInt8} {n:Nat} (hn:1<=n) (h:s.take n=t.take n):hd0 s=hd0 t:=by
 obtain⟨m,rfl⟩:∃ m,n=m+1:=⟨n - 1,om⟩
 cases s<;>cases t<;>simp at h<;>simp[hd0,h]
theorem f8a {s t:List UInt8} {n:Nat} (hn:2<=n) (h:s.take n=t.take n):hd1 s=hd1 t:=by
 obtain⟨m,rfl⟩:∃ m,n=m+2:=⟨n - 2,om⟩
 match s,t with
 |[],[]=>rfl
 |[],_::_=>simp at h
 |_::_,[]=>simp at h
 |[a],[b]=>rfl
 |[a],b::c::t=>simp at h
 |a::d::s,[b]=>simp at h
 |a::d::s,b::c::t=>simp at h;simp[hd1,h]
theorem g0u {s t:List UInt8} (h:szL s≠0) (ht:szL s<=t.length) (he:s.take (szL s)=t.take (szL s)):szL t=szL s:=by
 rcases d3w s h with⟨h1,h2,h3⟩|⟨h1,h2,h3,h4,h5,h6,h7⟩
 ·have e0:=e1f om he
  have hne:t≠[]:=by rintro rfl;simp at ht;omega
  unfold szL
  rw[if_neg hne,if_pos (by rw[<-e0];exact h3)]
  rw[if_neg h2,if_pos h3]
 ·have e0:=e1f om he
  have e1:=f8a h3 he
  rw[h2h t (by rw[<-e0];exact h1) (by rw[<-e0];omega) (by rw[<-e0];omega) (by rw[<-e0,<-e1];exact h5) (by rw[<-e0,<-e1];exact h6) (by rw[<-e0,<-h2,<-he];exact h7),<-e0,h2]
theorem f7n {s:List UInt8} (h:szL s≠0) {p:Nat} (hp:szL s<=p):szL (s.take p)=szL s:=
 g0u h (by have:=d4f s;simp;omega) (by rw[List.take_take,Nat.min_eq_left hp])
theorem f6r {s:List UInt8} {p:Nat} (hp:0 < p) (h:p < szL s):∀ c,s[p]? =some c->128<=c.toNat:=by
 intro c hc
 rcases d3w s om with⟨h1,_⟩|⟨h1,h2,h3,h4,h5,h6,h7⟩
 ·omega
 ·by_cases hp1:p=1
  ·subst hp1
   have:hd1 s=c:=by
    match s,hc with
    |a::b::r,hc=>simpa [hd1] using hc
   have hlo:128<=c8h (hd0 s):=by unfold c8h;repeat' split
                                 all_goals omega
   rw[this]at h5;omega
  ·have hm:c∈(s.take (szL s)).drop 2:=List.mem_iff_getElem?.2 ⟨p - 2,by
     rw[List.getElem?_drop,show 2+(p - 2)=p by omega,List.getElem?_take,if_pos h];exact hc⟩
   have:=List.all_eq_true.1 h7 c hm
   simp[a2a]at this;omega
theorem d4q:∀ (n:Nat) (s:List UInt8) (p:Nat),s.length<=n->Val s->(s.length<=p\/∃ c,s[p]? =some c/\c.toNat < 128)->Val (s.take p)/\Val (s.drop p):=by
 intro n
 induction n with
 |zero=>intro s p h hv _;have:s=[]:=List.length_eq_zero_iff.1 om;subst this;simp[c4m]
 |succ n ih=>
  intro s p h hv hb
  by_cases h0:s=[]
  ·subst h0;simp[c4m]
  ·by_cases hp:p=0
   ·subst hp;simp[c4m,hv]
   ·obtain⟨h1,h2⟩:=(d1z h0).1 hv
    have hge:szL s<=p:=by
     apply Classical.byContradiction
     intro hlt
     rcases hb with hb|⟨c,hc,hc2⟩
     ·have:=d4f s;omega
     ·have:=f6r (s:=s) (p:=p) om om c hc;omega
    have hd:=b1w s (by simp[h0,h1])
    obtain⟨k1,k2⟩:=ih (s.drop (szL s)) (p - szL s) om h2 (by
      rcases hb with hb|⟨c,hc,hc2⟩
      ·left;rw[List.length_drop];omega
      ·right;exact⟨c,by rw[List.getElem?_drop,show szL s+(p - szL s)=p by omega];exact hc,hc2⟩)
    constructor
    ·have hne:s.take p≠[]:=by intro e;rw[List.take_eq_nil_iff]at e;rcases e with e|e;exact hp e;exact h0 e
     rw[d1z hne,f7n h1 hge]
     refine⟨h1,?_⟩
     rw[List.drop_take];exact k1
    ·rw[List.drop_drop,show szL s+(p - szL s)=p by omega]at k2;exact k2
theorem d2b:∀ (n:Nat) (s:List UInt8),s.length<=n->Val s->Val (s.drop (a0n false s)):=by
 intro n
 induction n with
 |zero=>intro s h hv;have:s=[]:=List.length_eq_zero_iff.1 om;subst this;simp[c4m]
 |succ n ih=>
  intro s h hv
  cases s with
  |nil=>simpa using hv
  |cons c r=>
   rw[a9b]
   split
   ·rename_i hw
    have hc:c.toNat < 128:=by simp[wsB]at hw;rcases hw with rfl|rfl|rfl|rfl<;>decide
    rw[List.drop_succ_cons]
    exact ih r (by simpa using h) ((c9x hc r).1 hv)
   ·split
    ·rename_i hr
     have hc:c.toNat < 128:=by rw[hr.1];decide
     have hvr:=(c9x hc r).1 hv
     rw[List.drop_succ_cons,f8u]
     have hg:=Lib.indexByte_ge r 10
     split
     ·rw[List.drop_length];exact c4m
     ·rename_i hi
      rw[<-List.drop_drop]
      have hs:=Lib.indexByte_some (l:=r) (c:=10) (o:=(Lib.indexByte r 10).toNat) om
      refine ih _ (by rw[List.length_drop];simp at h;omega) ?_
      exact(d4q _ r _ (Nat.le_refl _) hvr (.inr ⟨10,hs.1,by decide⟩)).2
    ·exact hv
theorem c4u:∀ (n:Nat) (b:Bool) (s:List UInt8),s.length<=n->a0n false (s.drop (a0n b s))=0:=by
 intro n
 induction n with
 |zero=>intro b s h;have:s=[]:=List.length_eq_zero_iff.1 om;subst this;cases b<;>rfl
 |succ n ih=>
  intro b s h
  cases s with
  |nil=>cases b<;>rfl
  |cons c r=>
   have hr:r.length<=n:=by simpa using h
   cases b with
   |false=>
    rw[a9b]
    split
    ·rw[List.drop_succ_cons];exact ih _ r hr
    ·rename_i h1
     split
     ·rw[List.drop_succ_cons];exact ih _ r hr
     ·rename_i h2;rw[List.drop_zero,a9b,if_neg h1,if_neg h2]
   |true=>
    rw[b3w]
    split
    ·rw[List.drop_succ_cons];exact ih _ r hr
    ·rw[List.drop_succ_cons];exact ih _ r hr
end Go.Vm.Lex
namespace Go.Vm.Lex
theorem f7g {c:UInt8} (h:b6s c=true):c.toNat < 128:=by simp[b6s,isL,isD]at h;omega
theorem takeWhile_take:∀ (s:List UInt8),s.take (a9m s)=s.takeWhile b6s:=by
 intro s;unfold a9m
 induction s with
 |nil=>rfl
 |cons c r ih=>rw[List.takeWhile_cons];split<;>simp[ih]
theorem g3b (s:List UInt8):(s.take (a9m s)).all b6s=true:=by
 rw[takeWhile_take]
 induction s with
 |nil=>rfl
 |cons c r ih=>rw[List.takeWhile_cons];split<;>simp_all
theorem d9p (s:List UInt8):a3r s=[]\/(s.length≥2/\a3r s=s.take 2/\s.take 2∈b9t)\/(s≠[]/\a3r s=s.take 1/\hd0 s∈c3x/\¬ (1 < s.length/\s.take 2∈b9t)):=by
 unfold a3r
 split
 ·rename_i h;exact .inr (.inl ⟨h.1,rfl,h.2⟩)
 ·rename_i h0
  split
  ·rename_i h;exact .inr (.inr ⟨h.1,rfl,h.2,h0⟩)
  ·exact .inl rfl
theorem f3y:∀ t∈b9t,t.length=2/\∀ c∈t,c.toNat < 128:=by decide
theorem f6t:∀ c∈c3x,c.toNat < 128:=by decide
theorem c4e {w:List UInt8->Nat} {s:List UInt8} (h:(a3f w s).e=0):1<=(a3f w s).n/\(a3f w s).n<=s.length/\(a3f w s).t=s.take (a3f w s).n/\∀ c∈s.take (a3f w s).n,c.toNat < 128:=by
 have hrl:=b9x s
 have hra:∀ c∈s.take (a9m s),c.toNat < 128:=fun c hc=>f7g (List.all_eq_true.1 (g3b s) c hc)
 unfold a3f at h⊢
 split
 ·rename_i h1
  rw[if_pos h1]at h
  split
  ·exact⟨h1.1,hrl,rfl,hra⟩
  ·rename_i h2;rw[if_neg h2]at h;cases h
 ·rename_i h1
  rw[if_neg h1]at h
  split
  ·rename_i h2
   rw[if_pos h2]at h
   split
   ·rename_i h3;rw[if_pos h3]at h;cases h
   ·exact⟨h2.1,hrl,rfl,hra⟩
  ·rename_i h2
   rw[if_neg h2]at h
   split
   ·rename_i h3
    rcases d9p s with h4|⟨h4,h5,h6⟩|⟨h4,h5,h6,_⟩
    ·exact absurd h4 h3
    ·have hl:(a3r s).length=2:=by rw[h5,List.length_take];omega
     show 1<=(a3r s).length/\(a3r s).length<=s.length/\a3r s=s.take (a3r s).length/\_
     rw[hl]
     exact⟨om,h4,h5,(f3y _ h6).2⟩
    ·have hp:0 < s.length:=List.length_pos_iff.2 h4
     have hl:(a3r s).length=1:=by rw[h5,List.length_take];omega
     show 1<=(a3r s).length/\(a3r s).length<=s.length/\a3r s=s.take (a3r s).length/\∀ c∈s.take (a3r s).length,c.toNat < 128
     rw[hl]
     refine⟨om,om,h5,fun c hc=>?_⟩
     cases s with
     |nil=>exact absurd rfl h4
     |cons d r=>simp at hc;rw[hc];exact f6t _ h6
   ·rename_i h3;rw[if_neg h3]at h;cases h
theorem d9k:∀ (s:List UInt8) (n:Nat),(∀ c∈s.take n,c.toNat < 128)->(Val s↔Val (s.drop n))
 |[],n,_=>by simp
 |c::r,0,_=>by simp
 |c::r,n+1,h=>by
  rw[c9x (h c (by simp)) r,List.drop_succ_cons]
  exact d9k r n fun d hd=>h d (by simp[hd])
structure Dg where
 c:Int
 f:Nat
 e:Nat
structure TokQ where
 k:Int
 t:List UInt8
 v:Int
 f:Nat
 e:Nat
def Dg.ok:Dg:=⟨0,0,0⟩
def after (out:List TokQ) (r:List TokQ×Dg):List TokQ×Dg:=if r.2.c=0 then(out++r.1,r.2) else([],r.2)
theorem f5b (s:List UInt8) (h:¬ (s.drop (a0n false s)=[]\/(a3f szL (s.drop (a0n false s))).e≠0)):(s.drop (a0n false s+(a3f szL (s.drop (a0n false s))).n)).length < s.length:=by
 have h1:s.drop (a0n false s)≠[]:=fun e=>h (.inl e)
 have h2:(a3f szL (s.drop (a0n false s))).e=0:=by
  apply Classical.byContradiction
  intro e;exact h (.inr e)
 obtain⟨h3,h4,_⟩:=c4e h2
 rw[List.length_drop]at h4⊢
 have:=List.length_pos_iff.2 h1
 rw[List.length_drop]at this
 omega
def toks (a:Nat) (s:List UInt8):List TokQ×Dg:=
 if h:s.drop (a0n false s)=[]\/(a3f szL (s.drop (a0n false s))).e≠0 then
  (if s.drop (a0n false s)=[] then([⟨5,[],0,a+s.length,a+s.length⟩],Dg.ok)
   else([],⟨(a3f szL (s.drop (a0n false s))).e,a+a0n false s,a+a0n false s+(a3f szL (s.drop (a0n false s))).n⟩))
 else after [⟨(a3f szL (s.drop (a0n false s))).k,(a3f szL (s.drop (a0n false s))).t,(a3f szL (s.drop (a0n false s))).v,a+a0n false s,a+a0n false s+(a3f szL (s.drop (a0n false s))).n⟩] (toks (a+(a0n false s+(a3f szL (s.drop (a0n false s))).n)) (s.drop (a0n false s+(a3f szL (s.drop (a0n false s))).n)))
termination_by s.length
decreasing_by exact f5b s h
theorem a7f (a:Nat) {s:List UInt8} (h:s.drop (a0n false s)=[]):toks a s=([⟨5,[],0,a+s.length,a+s.length⟩],Dg.ok):=by rw[toks];simp[h]
theorem b5a (a:Nat) {s:List UInt8} (h:s.drop (a0n false s)≠[]) (he:(a3f szL (s.drop (a0n false s))).e≠0):toks a s=([],⟨(a3f szL (s.drop (a0n false s))).e,a+a0n false s,a+a0n false s+(a3f szL (s.drop (a0n false s))).n⟩):=by rw[toks,dif_pos (.inr he),if_neg h]
theorem c0m (a:Nat) {s:List UInt8} (h:s.drop (a0n false s)≠[]) (he:(a3f szL (s.drop (a0n false s))).e=0):toks a s=after [⟨(a3f szL (s.drop (a0n false s))).k,(a3f szL (s.drop (a0n false s))).t,(a3f szL (s.drop (a0n false s))).v,a+a0n false s,a+a0n false s+(a3f szL (s.drop (a0n false s))).n⟩] (toks (a+(a0n false s+(a3f szL (s.drop (a0n false s))).n)) (s.drop (a0n false s+(a3f szL (s.drop (a0n false s))).n))):=by
 rw[toks,dif_neg (by simp[h,he])]
theorem d5h (a:Nat) (s:List UInt8):toks a s=toks (a+a0n false s) (s.drop (a0n false s)):=by
 have hi:=c4u _ false s (Nat.le_refl _)
 have hl:=a2x false s
 by_cases h:s.drop (a0n false s)=[]
 ·rw[a7f a h,a7f (a+a0n false s) (by rw[hi,List.drop_zero];exact h)]
  have e:(s.drop (a0n false s)).length=s.length - a0n false s:=List.length_drop ..
  have hl2:a+a0n false s+(s.drop (a0n false s)).length=a+s.length:=by rw[e];omega
  rw[hl2]
 ·by_cases he:(a3f szL (s.drop (a0n false s))).e=0
  ·rw[c0m a h he,c0m (a+a0n false s) (by rw[hi,List.drop_zero];exact h) (by rw[hi,List.drop_zero];exact he),hi]
   simp only[List.drop_zero,Nat.add_zero,List.drop_drop,Nat.zero_add,Nat.add_assoc]
  ·rw[b5a a h he,b5a (a+a0n false s) (by rw[hi,List.drop_zero];exact h) (by rw[hi,List.drop_zero];exact he),hi]
   simp only[List.drop_zero,Nat.add_zero]
theorem d9w (o1 o2:List TokQ) (r:List TokQ×Dg):after o1 (after o2 r)=after (o1++o2) r:=by
 unfold after
 by_cases h:r.2.c=0<;>simp[h]
theorem f1f (r:List TokQ×Dg) (h:r.2.c≠0->r.1=[]):after [] r=r:=by
 unfold after
 by_cases hc:r.2.c=0
 ·simp[hc]
 ·rw[if_neg hc,<-h hc]
theorem f5j:∀ (n:Nat) (a:Nat) (s:List UInt8),s.length<=n->(toks a s).2.c≠0->(toks a s).1=[]:=by
 intro n
 cases n with
 |zero=>
  intro a s h hc
  have:s=[]:=List.length_eq_zero_iff.1 om
  subst this
  rw[a7f a (by simp)]at hc;exact absurd rfl hc
 |succ n=>
  intro a s h hc
  by_cases h0:s.drop (a0n false s)=[]
  ·rw[a7f a h0]at hc;exact absurd rfl hc
  ·by_cases he:(a3f szL (s.drop (a0n false s))).e=0
   ·rw[c0m a h0 he]at hc⊢
    unfold after at hc⊢
    split
    ·rename_i hz;rw[if_pos hz]at hc;exact absurd hz hc
    ·rfl
   ·rw[b5a a h0 he]
def a4w (s:List UInt8):List TokQ×Dg:=if 65536 < s.length then([],⟨2,0,0⟩) else if 0<=strange 0 s then([],⟨110,(strange 0 s).toNat,(strange 0 s).toNat+1⟩) else toks 0 s
end Go.Vm.Lex
namespace Go.Vm.Pa
open Go.Vm.Lex (TokQ)
abbrev S:=List UInt8
instance:Inhabited TokQ:=⟨⟨0,[],0,0,0⟩⟩
abbrev w (n:Int):Int:=IntKind.i64.wrap n
def g3d (x:TokQ):D:= .agg [.int .i64 x.k,.str x.t,.int .i64 x.v,.int .i64 (x.f:Int),.int .i64 (x.e:Int)]
structure N where
 k:Int
 t:S
 v:Int
 ks:List D
def N.D (n:N) (f e:Int):D:= .agg [.int .i64 n.k,.str n.t,.int .i64 n.v,.sl n.ks,.int .i64 f,.int .i64 e]
structure PS where
 at_:Int
 deep:Int
 ns:List D
 n:Nat
 bc:Int
 bf:Int
 be:Int
structure K where
 l:List D
 n:Nat
def K.o:K:=⟨[],0⟩
def okK (k:K):Bool:=decide (k.l.length=k.n) && decide (k.n < 1000000)
def push (k:K) (i:Int):K:=⟨k.l++[.int .i64 i],k.n+1⟩
structure R where
 i:Int
 b:Bool
 ks:K
 v:Int
abbrev rI (i:Int):R:=⟨i,false,K.o,0⟩
abbrev rK (ks:K):R:=⟨0,false,ks,0⟩
section
variable (l:List TokQ)
def now (s:PS):TokQ:=l.getD s.at_.toNat default
def okS (s:PS):Bool:=decide (0<=s.at_) && decide (s.at_ < l.length)
def okF (fr:Int):Bool:=decide (0<=fr) && decide (fr < l.length)
def isS (s:PS) (x:S):Bool:=(decide ((now l s).k=2)||decide ((now l s).k=4)) && decide ((now l s).t=x)
def okB (s:PS):Bool:=decide (s.bc=0)
def a3k (c:Int) (s:PS):PS:=if okB s then{s with bc:=c,bf:=(now l s).f,be:=(now l s).e } else s
def adv (s:PS):PS:={s with at_:=w (s.at_+1)}
def down (s:PS):PS:={s with deep:=w (s.deep - 1)}
def a1s (x:S) (s:PS):Bool×PS:=if okB s && isS l s x then(true,adv s) else(false,s)
def a2i (x:S) (s:PS):Bool×PS:=if okB s && isS l s x then(true,adv s) else(false,a3k l 120 s)
def a3d (s:PS):S×PS:=if okB s && decide ((now l s).k=1) then((now l s).t,adv s) else([],a3k l 120 s)
def anyS (s:PS) (xs:List S):Bool:=xs.any (isS l s)
def typL:List S:=[[105,54,52],[98,111,111,108],[40],[38],[66,111,120]]
def h1h:List S:=[[116,114,117,101],[102,97,108,115,101],[40],[66,111,120],[105,102],[109,97,116,99,104],[123],[45],[33],[42],[38]]
def patL:List S:=[[95],[116,114,117,101],[102,97,108,115,101],[45]]
def c3o (c:Int) (s:PS):Bool:=
 if c=116 then decide ((now l s).k=1)||anyS l s typL
 else if c=101 then decide ((now l s).k=1)||decide ((now l s).k=3)||anyS l s h1h
 else if c=112 then decide ((now l s).k=1)||decide ((now l s).k=3)||anyS l s patL
 else isS l s [123]
def b6b (c:Int) (s:PS):PS:=if okB s && !c3o l c s then a3k l 120 s else s
def c3i (s:PS):PS:=if okB s && decide (100<=s.deep) then a3k l 121 s else s
def d7f (s:PS):PS:={s with deep:=w (s.deep+1)}
def c2d (c:Int) (s:PS):Bool×PS:=(okB (d7f (c3i l (b6b l c s))),d7f (c3i l (b6b l c s)))
def b5u (fr:Int) (n:N) (s:PS):Option (Int×PS):=
 if s.ns.length=s.n/\s.n < 1000000/\okF l fr/\(fr < s.at_->okF l (w (s.at_ - 1))) then
  some (w (((s.n+1:Nat):Int) - 1),{s with n:=s.n+1,ns:=s.ns++[n.D (l.getD fr.toNat default).f (if fr < s.at_ then((l.getD (w (s.at_ - 1)).toNat default).e:Int) else 0)]})
 else none
def a6h (r:Int):List S:=if r=0 then[[124,124]] else if r=1 then[[38,38]] else if r=2 then[[60],[60,61],[62],[62,61],[61,61],[33,61]] else if r=3 then[[43],[45]] else[[42],[47],[37]]
def c6r (r:Int) (s:PS):S:=((a6h r).find? fun x=>okB s && isS l s x).getD []
end
inductive Q where
 |typ|typed (fr:Int)|param|field|variant
 |params (ks:K) (v:Int)|function|fields (k:Int) (ks:K)|parts (k:Int)
 |item|items (ks:K)
 |stmts (ks:K)|block|stmt|let_ (fr:Int)|blocky (fr:Int)|branch|cond|match_|arms (ks:K)|arm
 |pattern|patterned (fr:Int)
 |expr (bare:Bool)|row (r:Int) (bare:Bool)|rows (r:Int) (bare:Bool) (fr:Int) (a:Int)
 |operand (bare:Bool)|prefix_ (bare:Bool)|postfix_ (bare:Bool)|gets (fr:Int) (a:Int)
 |primary (bare:Bool)|named (fr:Int) (bare:Bool)|args (ks:K)|inits (ks:K)|init
abbrev M:=Option (R×PS)
def one (i:Int):List D:=[.int .i64 i]
def two (i j:Int):List D:=[.int .i64 i,.int .i64 j]
section
variable (l:List TokQ) (go:Q->PS->M)
def cl (q:Q) (s:PS):M:=match go q s with|some (r,s1)=>if okS l s1 then some (r,s1) else none|none=>none
def ret (x:Option (Int×PS)):M:=match x with|some (i,s)=>some (rI i,s)|none=>none
def b6j (fr:Int) (n:N) (s:PS):M:=match b5u l fr n s with
 |none=>none
 |some (i,s1)=>match a2i l [59] s1 with|(_,s2)=>some (rI i,s2)
def a9s (fr:Int) (n:N) (s:PS):M:=match b6j l fr n s with
 |none=>none
 |some (r,s1)=>some (rI r.i,s1)
def mk (fr:Int) (k:Int) (t:S) (v:Int) (ks:List D) (s:PS):M:=ret (b5u l fr ⟨k,t,v,ks⟩ s)
def deeper (c:Int) (q:Q) (s:PS):M:=match c2d l c s with
 |(false,s1)=>some (rI 0,down s1)
 |(true,s1)=>match cl l go q s1 with|none=>none|some (a,s2)=>some (rI a.i,down s2)
def step:Q->PS->M
 | .typ,s=>deeper l go 116 (.typed s.at_) s
 | .typed fr,s=>match a1s l [105,54,52] s with
   |(true,s1)=>mk l fr 10 [] 0 [] s1
   |(false,s1)=>match a1s l [98,111,111,108] s1 with
   |(true,s2)=>mk l fr 11 [] 0 [] s2
   |(false,s2)=>match a1s l [40] s2 with
   |(true,s3)=>(match a2i l [41] s3 with|(_,s4)=>mk l fr 12 [] 0 [] s4)
   |(false,s3)=>match a1s l [38] s3 with
   |(true,s4)=>(match a1s l [109,117,116] s4 with
    |(true,s5)=>(match cl l go .typ s5 with|none=>none|some (r,s6)=>mk l fr 15 [] 0 (one r.i) s6)
    |(false,s5)=>match cl l go .typ s5 with|none=>none|some (r,s6)=>mk l fr 14 [] 0 (one r.i) s6)
   |(false,s4)=>match a1s l [66,111,120] s4 with
   |(true,s5)=>(match a2i l [60] s5 with|(_,s6)=>match cl l go .typ s6 with|none=>none|some (r,s7)=>match a2i l [62] s7 with|(_,s8)=>mk l fr 16 [] 0 (one r.i) s8)
   |(false,s5)=>match a3d l s5 with|(t,s6)=>mk l fr 13 t 0 [] s6
 | .param,s=>match a1s l [109,117,116] s with
   |(m,s1)=>match a3d l s1 with
   |(t,s2)=>match a2i l [58] s2 with
   |(_,s3)=>match cl l go .typ s3 with
   |none=>none
   |some (r,s4)=>match m with
    |true=>mk l s.at_ 7 t 1 (one r.i) s4
    |false=>mk l s.at_ 7 t 0 (one r.i) s4
 | .field,s=>match a3d l s with
   |(t,s2)=>match a2i l [58] s2 with
   |(_,s3)=>match cl l go .typ s3 with
   |none=>none
   |some (r,s4)=>mk l s.at_ 5 t 0 (one r.i) s4
 | .variant,s=>match a3d l s with
   |(t,s2)=>match a1s l [40] s2 with
   |(true,s3)=>(match cl l go .typ s3 with
    |none=>none
    |some (r,s4)=>match a2i l [41] s4 with|(_,s5)=>mk l s.at_ 6 t 0 (one r.i) s5)
   |(false,s3)=>mk l s.at_ 6 t 0 [] s3
 | .params ks v,s=>match okB s with
   |false=>some (⟨0,false,ks,v⟩,s)
   |true=>match isS l s [41] with
   |true=>some (⟨0,false,ks,v⟩,s)
   |false=>match cl l go .param s with
   |none=>none
   |some (r,s1)=>match okK ks with
   |false=>none
   |true=>match a1s l [44] s1 with
   |(true,s2)=>go (.params (push ks r.i) (w (v+1))) s2
   |(false,s2)=>some (⟨0,false,(push ks r.i),w (v+1)⟩,s2)
 | .function,s0=>match a2i l [102,110] s0 with
   |(_,s1)=>match a3d l s1 with
   |(t,s2)=>match a2i l [40] s2 with
   |(_,s3)=>match cl l go (.params K.o 0) s3 with
   |none=>none
   |some (p,s4)=>match a2i l [41] s4 with
   |(_,s5)=>match a1s l [45,62] s5 with
   |(true,s6)=>(match cl l go .typ s6 with
    |none=>none
    |some (r,s7)=>match okK p.ks with
    |false=>none
    |true=>match cl l go .block s7 with
    |none=>none
    |some (q,s8)=>match okK (push p.ks r.i)with
    |false=>none
    |true=>match okK (push (push p.ks r.i) q.i)with|false=>none|true=>mk l s0.at_ 2 t p.v (push (push p.ks r.i) q.i).l s8)
   |(false,s6)=>match okB s6 with
    |true=>(if s6.ns.length=s6.n/\s6.n < 1000000/\okF l (w (s6.at_ - 1)) then match okK p.ks with
     |false=>none
     |true=>match cl l go .block {s6 with n:=s6.n+1,ns:=s6.ns++[N.D ⟨12,[],0,[]⟩ (l.getD (w (s6.at_ - 1)).toNat default).e (l.getD (w (s6.at_ - 1)).toNat default).e]}with
     |none=>none
     |some (q,s8)=>match okK (push p.ks (w (((s6.n+1:Nat):Int) - 1)))with
     |false=>none
     |true=>match okK (push (push p.ks (w (((s6.n+1:Nat):Int) - 1))) q.i)with|false=>none|true=>mk l s0.at_ 2 t p.v (push (push p.ks (w (((s6.n+1:Nat):Int) - 1))) q.i).l s8
     else none)
    |false=>match cl l go .block s6 with
     |none=>none
     |some (q,s8)=>match okK p.ks with
     |false=>none
     |true=>match okK (push p.ks q.i)with|false=>none|true=>mk l s0.at_ 2 t p.v (push p.ks q.i).l s8
 | .fields k ks,s=>match okB s with
   |false=>some (rK ks,s)
   |true=>match isS l s [125] with
   |true=>some (rK ks,s)
   |false=>match decide (k=3)with
   |true=>(match cl l go .field s with
    |none=>none
    |some (r,s1)=>match okK ks with
    |false=>none
    |true=>match a1s l [44] s1 with
    |(true,s2)=>go (.fields k (push ks r.i)) s2
    |(false,s2)=>some (rK (push ks r.i),s2))
   |false=>match cl l go .variant s with
    |none=>none
    |some (r,s1)=>match okK ks with
    |false=>none
    |true=>match a1s l [44] s1 with
    |(true,s2)=>go (.fields k (push ks r.i)) s2
    |(false,s2)=>some (rK (push ks r.i),s2)
 | .parts k,s0=>match okS l (adv s0)with
   |false=>none
   |true=>match a3d l (adv s0)with
   |(t,s1)=>match a2i l [123] s1 with
   |(_,s2)=>match cl l go (.fields k K.o) s2 with
   |none=>none
   |some (p,s3)=>match a2i l [125] s3 with
   |(_,s4)=>match okK p.ks with|false=>none|true=>mk l s0.at_ k t 0 p.ks.l s4
 | .item,s=>match isS l s [115,116,114,117,99,116] with
   |true=>cl l go (.parts 3) s
   |false=>match isS l s [101,110,117,109] with
   |true=>cl l go (.parts 4) s
   |false=>cl l go .function s
 | .items ks,s=>match okB s with
   |false=>some (rK ks,s)
   |true=>match(!decide ((now l s).k=5))with
   |false=>some (rK ks,s)
   |true=>match cl l go .item s with
   |none=>none
   |some (r,s1)=>match okK ks with
   |false=>none
   |true=>go (.items (push ks r.i)) s1
 | .stmts ks,s=>match okB s with
   |false=>some (rK ks,s)
   |true=>match isS l s [125] with
   |true=>some (rK ks,s)
   |false=>match cl l go .stmt s with
   |none=>none
   |some (r,s1)=>match okK ks with
   |false=>none
   |true=>match r.b with
   |true=>some (⟨0,true,(push ks r.i),1⟩,s1)
   |false=>go (.stmts (push ks r.i)) s1
 | .block,s0=>match c2d l 98 s0 with
   |(false,s1)=>mk l s0.at_ 20 [] 0 [] (down s1)
   |(true,s1)=>match a2i l [123] s1 with
   |(_,s2)=>match cl l go (.stmts K.o) s2 with
   |none=>none
   |some (p,s3)=>match a2i l [125] s3 with
   |(_,s4)=>match okK p.ks with|false=>none|true=>mk l s0.at_ 20 [] p.v p.ks.l (down s4)
 | .stmt,s0=>match isS l s0 [108,101,116] with
   |true=>(match cl l go (.let_ s0.at_) s0 with|none=>none|some (r,s1)=>some (rI r.i,s1))
   |false=>match a1s l [119,104,105,108,101] s0 with
   |(true,s1)=>(match cl l go (.expr true) s1 with
    |none=>none
    |some (x,s2)=>match cl l go .block s2 with
    |none=>none
    |some (y,s3)=>mk l s0.at_ 24 [] 0 (two x.i y.i) s3)
   |(false,s1)=>match a1s l [114,101,116,117,114,110] s1 with
   |(true,s2)=>(match isS l s2 [59] with
    |true=>a9s l s0.at_ ⟨25,[],0,[]⟩ s2
    |false=>match cl l go (.expr false) s2 with
     |none=>none
     |some (x,s3)=>a9s l s0.at_ ⟨25,[],0,one x.i⟩ s3)
   |(false,s2)=>match a1s l [98,114,101,97,107] s2 with
   |(true,s3)=>a9s l s0.at_ ⟨26,[],0,[]⟩ s3
   |(false,s3)=>match a1s l [99,111,110,116,105,110,117,101] s3 with
   |(true,s4)=>a9s l s0.at_ ⟨27,[],0,[]⟩ s4
   |(false,s4)=>match isS l s4 [105,102] with
   |true=>cl l go (.blocky s0.at_) s4
   |false=>match isS l s4 [109,97,116,99,104] with
   |true=>cl l go (.blocky s0.at_) s4
   |false=>match isS l s4 [123] with
   |true=>cl l go (.blocky s0.at_) s4
   |false=>match cl l go (.expr false) s4 with
   |none=>none
   |some (x,s5)=>match a1s l [61] s5 with
   |(true,s6)=>(match cl l go (.expr false) s6 with
    |none=>none
    |some (y,s7)=>a9s l s0.at_ ⟨23,[],0,two x.i y.i⟩ s7)
   |(false,s6)=>match isS l s6 [125] with
   |true=>some (⟨x.i,true,K.o,0⟩,s6)
   |false=>a9s l s0.at_ ⟨22,[],0,one x.i⟩ s6
 | .let_ fr,s0=>match a2i l [108,101,116] s0 with
   |(_,s1)=>match a1s l [109,117,116] s1 with
   |(m,s2)=>match a3d l s2 with
   |(t,s3)=>match a1s l [58] s3 with
   |(true,s4)=>(match cl l go .typ s4 with
    |none=>none
    |some (x,s5)=>match a2i l [61] s5 with
    |(_,s6)=>match cl l go (.expr false) s6 with
    |none=>none
    |some (y,s7)=>match m with
     |true=>b6j l fr ⟨21,t,1,two x.i y.i⟩ s7
     |false=>b6j l fr ⟨21,t,0,two x.i y.i⟩ s7)
   |(false,s4)=>match a2i l [61] s4 with
    |(_,s6)=>match cl l go (.expr false) s6 with
    |none=>none
    |some (y,s7)=>match m with
     |true=>b6j l fr ⟨21,t,1,one y.i⟩ s7
     |false=>b6j l fr ⟨21,t,0,one y.i⟩ s7
 | .blocky fr,s0=>match cl l go .branch s0 with
   |none=>none
   |some (k,s1)=>match isS l s1 [125] with
   |true=>some (⟨k.i,true,K.o,0⟩,s1)
   |false=>match b5u l fr ⟨22,[],0,one k.i⟩ s1 with
   |none=>none
   |some (i,s2)=>match a1s l [59] s2 with
   |(_,s3)=>some (rI i,s3)
 | .branch,s=>match isS l s [105,102] with
   |true=>cl l go .cond s
   |false=>match isS l s [109,97,116,99,104] with
   |true=>cl l go .match_ s
   |false=>cl l go .block s
 | .cond,s0=>match a2i l [105,102] s0 with
   |(_,s1)=>match cl l go (.expr true) s1 with
   |none=>none
   |some (x,s2)=>match cl l go .block s2 with
   |none=>none
   |some (y,s3)=>match a1s l [101,108,115,101] s3 with
   |(false,s4)=>mk l s0.at_ 45 [] 0 (two x.i y.i) s4
   |(true,s4)=>match isS l s4 [105,102] with
    |false=>(match cl l go .block s4 with
     |none=>none
     |some (z,s5)=>mk l s0.at_ 45 [] 0 [.int .i64 x.i,.int .i64 y.i,.int .i64 z.i] s5)
    |true=>match c2d l 101 s4 with
     |(false,s5)=>mk l s0.at_ 45 [] 0 [.int .i64 x.i,.int .i64 y.i,.int .i64 0] (down s5)
     |(true,s5)=>match cl l go .cond s5 with
      |none=>none
      |some (z,s6)=>mk l s0.at_ 45 [] 0 [.int .i64 x.i,.int .i64 y.i,.int .i64 z.i] (down s6)
 | .match_,s0=>match a2i l [109,97,116,99,104] s0 with
   |(_,s1)=>match cl l go (.expr true) s1 with
   |none=>none
   |some (x,s2)=>match a2i l [123] s2 with
   |(_,s3)=>match cl l go (.arms ⟨one x.i,1⟩) s3 with
   |none=>none
   |some (p,s4)=>match a2i l [125] s4 with
   |(_,s5)=>match okK p.ks with|false=>none|true=>mk l s0.at_ 46 [] 0 p.ks.l s5
 | .arms ks,s=>match okB s with
   |false=>some (rK ks,s)
   |true=>match isS l s [125] with
   |true=>some (rK ks,s)
   |false=>match cl l go .arm s with
   |none=>none
   |some (r,s1)=>match okK ks with
   |false=>none
   |true=>go (.arms (push ks r.i)) s1
 | .arm,s0=>match cl l go .pattern s0 with
   |none=>none
   |some (x,s1)=>match a2i l [61,62] s1 with
   |(_,s2)=>match isS l s2 [123] with
   |true=>(match cl l go .block s2 with
    |none=>none
    |some (y,s3)=>match b5u l s0.at_ ⟨47,[],0,two x.i y.i⟩ s3 with
    |none=>none
    |some (i,s4)=>match a1s l [44] s4 with
    |(_,s5)=>some (rI i,s5))
   |false=>match cl l go (.expr false) s2 with
    |none=>none
    |some (y,s3)=>match b5u l s0.at_ ⟨47,[],0,two x.i y.i⟩ s3 with
    |none=>none
    |some (i,s4)=>match isS l s4 [125] with
    |true=>some (rI i,s4)
    |false=>match a2i l [44] s4 with
    |(_,s5)=>some (rI i,s5)
 | .pattern,s=>deeper l go 112 (.patterned s.at_) s
 | .patterned fr,s=>match a1s l [95] s with
   |(true,s1)=>mk l fr 50 [] 0 [] s1
   |(false,s1)=>match a1s l [116,114,117,101] s1 with
   |(true,s2)=>mk l fr 53 [] 1 [] s2
   |(false,s2)=>match a1s l [102,97,108,115,101] s2 with
   |(true,s3)=>mk l fr 53 [] 0 [] s3
   |(false,s3)=>match isS l s3 [45] with
   |true=>numS fr s3
   |false=>match decide ((now l s3).k=3)with
   |true=>numS fr s3
   |false=>match a3d l s3 with
   |(t,s4)=>match a1s l [58,58] s4 with
   |(false,s5)=>mk l fr 51 t 0 [] s5
   |(true,s5)=>match a3d l s5 with
   |(u,s6)=>match a1s l [40] s6 with
   |(false,s7)=>mk l fr 54 (t++[58,58]++u) 0 [] s7
   |(true,s7)=>match cl l go .pattern s7 with
   |none=>none
   |some (r,s8)=>match a2i l [41] s8 with
   |(_,s9)=>mk l fr 54 (t++[58,58]++u) 0 (one r.i) s9
 | .expr bare,s=>deeper l go 101 (.row 0 bare) s
 | .row r bare,s=>match decide (r=5)with
   |true=>cl l go (.prefix_ bare) s
   |false=>match cl l go (.row (w (r+1)) bare) s with
   |none=>none
   |some (a,s1)=>match cl l go (.rows r bare s.at_ a.i) s1 with
   |none=>none
   |some (a,s2)=>some (rI a.i,s2)
 | .rows r bare fr a,s=>match okB s with
   |false=>some (rI a,s)
   |true=>match(!decide (c6r l r s=[]))with
   |false=>some (rI a,s)
   |true=>match okS l (adv s)with
   |false=>none
   |true=>match cl l go (.row (w (r+1)) bare) (adv s)with
   |none=>none
   |some (b,s1)=>match b5u l fr ⟨38,c6r l r s,0,two a b.i⟩ s1 with
   |none=>none
   |some (i,s2)=>match decide (r=2)with
   |true=>some (rI i,s2)
   |false=>go (.rows r bare fr i) s2
 | .operand bare,s=>deeper l go 101 (.prefix_ bare) s
 | .prefix_ bare,s=>match a1s l [45] s with
   |(true,s1)=>(match cl l go (.operand bare) s1 with|none=>none|some (r,s2)=>mk l s.at_ 39 [] 0 (one r.i) s2)
   |(false,s1)=>match a1s l [33] s1 with
   |(true,s2)=>(match cl l go (.operand bare) s2 with|none=>none|some (r,s3)=>mk l s.at_ 40 [] 0 (one r.i) s3)
   |(false,s2)=>match a1s l [42] s2 with
   |(true,s3)=>(match cl l go (.operand bare) s3 with|none=>none|some (r,s4)=>mk l s.at_ 42 [] 0 (one r.i) s4)
   |(false,s3)=>match a1s l [38] s3 with
   |(true,s4)=>(match a1s l [109,117,116] s4 with
    |(true,s5)=>(match cl l go (.operand bare) s5 with|none=>none|some (r,s6)=>mk l s.at_ 43 [] 1 (one r.i) s6)
    |(false,s5)=>match cl l go (.operand bare) s5 with|none=>none|some (r,s6)=>mk l s.at_ 43 [] 0 (one r.i) s6)
   |(false,s4)=>cl l go (.postfix_ bare) s4
 | .postfix_ bare,s=>match cl l go (.primary bare) s with
   |none=>none
   |some (a,s1)=>match cl l go (.gets s.at_ a.i) s1 with
   |none=>none
   |some (a,s2)=>some (rI a.i,s2)
 | .gets fr a,s=>match a1s l [46] s with
   |(false,s1)=>some (rI a,s1)
   |(true,s1)=>match a3d l s1 with
   |(t,s2)=>match b5u l fr ⟨41,t,0,one a⟩ s2 with
   |none=>none
   |some (i,s3)=>go (.gets fr i) s3
 | .primary bare,s=>match okB s with
   |false=>none
   |true=>match decide ((now l s).k=3)with
   |true=>(match okS l (adv s)with|false=>none|true=>mk l s.at_ 30 [] (now l s).v [] (adv s))
   |false=>match a1s l [116,114,117,101] s with
   |(true,s1)=>mk l s.at_ 31 [] 1 [] s1
   |(false,s1)=>match a1s l [102,97,108,115,101] s1 with
   |(true,s2)=>mk l s.at_ 31 [] 0 [] s2
   |(false,s2)=>match a1s l [40] s2 with
   |(true,s3)=>(match a1s l [41] s3 with
    |(true,s4)=>mk l s.at_ 32 [] 0 [] s4
    |(false,s4)=>match cl l go (.expr false) s4 with
     |none=>none
     |some (r,s5)=>match a2i l [41] s5 with|(_,s6)=>some (rI r.i,s6))
   |(false,s3)=>match a1s l [66,111,120] s3 with
   |(true,s4)=>(match a2i l [58,58] s4 with
    |(_,s5)=>match okB s5 with
     |true=>(match(!decide ((now l s5).k=1))with
      |true=>newS s.at_ (a3k l 120 s5)
      |false=>match(!decide ((now l s5).t=[110,101,119]))with
       |true=>newS s.at_ (a3k l 120 s5)
       |false=>newS s.at_ s5)
     |false=>newS s.at_ s5)
   |(false,s4)=>match isS l s4 [105,102] with
   |true=>cl l go .branch s4
   |false=>match isS l s4 [109,97,116,99,104] with
   |true=>cl l go .branch s4
   |false=>match isS l s4 [123] with
   |true=>cl l go .branch s4
   |false=>cl l go (.named s.at_ bare) s4
 | .named fr bare,s=>match a3d l s with
   |(t,s1)=>match a1s l [40] s1 with
   |(true,s2)=>(match cl l go (.args K.o) s2 with
    |none=>none
    |some (p,s3)=>match a2i l [41] s3 with
    |(_,s4)=>match okK p.ks with|false=>none|true=>mk l fr 34 t 0 p.ks.l s4)
   |(false,s2)=>match bare with
    |true=>pickS fr t s2
    |false=>match a1s l [123] s2 with
     |(true,s3)=>(match cl l go (.inits K.o) s3 with
      |none=>none
      |some (p,s4)=>match a2i l [125] s4 with
      |(_,s5)=>match okK p.ks with|false=>none|true=>mk l fr 35 t 0 p.ks.l s5)
     |(false,s3)=>pickS fr t s3
 | .args ks,s=>match okB s with
   |false=>some (rK ks,s)
   |true=>match isS l s [41] with
   |true=>some (rK ks,s)
   |false=>match cl l go (.expr false) s with
   |none=>none
   |some (r,s1)=>match okK ks with
   |false=>none
   |true=>match a1s l [44] s1 with
   |(true,s2)=>go (.args (push ks r.i)) s2
   |(false,s2)=>some (rK (push ks r.i),s2)
 | .inits ks,s=>match okB s with
   |false=>some (rK ks,s)
   |true=>match isS l s [125] with
   |true=>some (rK ks,s)
   |false=>match cl l go .init s with
   |none=>none
   |some (r,s1)=>match okK ks with
   |false=>none
   |true=>match a1s l [44] s1 with
   |(true,s2)=>go (.inits (push ks r.i)) s2
   |(false,s2)=>some (rK (push ks r.i),s2)
 | .init,s=>match a3d l s with
   |(t,s1)=>match a2i l [58] s1 with
   |(_,s2)=>match cl l go (.expr false) s2 with
   |none=>none
   |some (r,s3)=>mk l s.at_ 36 t 0 (one r.i) s3
where
 numS (fr:Int) (s3:PS):M:=match a1s l [45] s3 with
  |(m,s4)=>match(!decide ((now l s4).k=3))with
  |true=>some (rI 0,a3k l 120 s4)
  |false=>match okS l (adv s4)with
  |false=>none
  |true=>match m with
   |true=>mk l fr 52 [] (w (0 - (now l s4).v)) [] (adv s4)
   |false=>mk l fr 52 [] (now l s4).v [] (adv s4)
 newS (fr:Int) (s5:PS):M:=match a3d l s5 with
  |(_,s6)=>match a2i l [40] s6 with
  |(_,s7)=>match cl l go (.expr false) s7 with
  |none=>none
  |some (r,s8)=>match a2i l [41] s8 with
  |(_,s9)=>mk l fr 44 [] 0 (one r.i) s9
 pickS (fr:Int) (t:S) (s2:PS):M:=match a1s l [58,58] s2 with
  |(false,s3)=>mk l fr 33 t 0 [] s3
  |(true,s3)=>match a3d l s3 with
  |(u,s4)=>match a1s l [40] s4 with
  |(false,s5)=>mk l fr 37 (t++[58,58]++u) 0 [] s5
  |(true,s5)=>match cl l go (.expr false) s5 with
  |none=>none
  |some (r,s6)=>match a2i l [41] s6 with
  |(_,s7)=>mk l fr 37 (t++[58,58]++u) 0 (one r.i) s7
end
def go (l:List TokQ):Nat->Q->PS->M
 |0=>fun _ _=>none
 |n+1=>step l (go l n)
end Go.Vm.Pa
namespace Go.Vm.Ite
open Go.Vm.Lex (TokQ)
open Go.Vm.Pa hiding go
def PB (l:List TokQ) (s:PS):Ob:= .box [.d (.sl (l.map g3d)),.d (.int .i64 s.at_),.d (.int .i64 s.deep),.row 1 s.n,.d (.int .i64 s.bc),.d (.int .i64 s.bf),.d (.int .i64 s.be)]
def PR (s:PS):Ob:= .row 6 s.ns
theorem f6d {l:List TokQ} {s:PS} (h:okS l s=true):0<=s.at_/\s.at_ < l.length:=by simpa [okS] using h
theorem g3n {l:List TokQ} {n:Int} (h:okF l n=true):0<=n/\n < l.length:=by simpa [okF] using h
theorem c8v {l:List TokQ} {n:Int} (h:0<=n/\n < l.length):0<=n/\(l.map g3d)[n.toNat]? =some (g3d (l.getD n.toNat default)):=by
 refine⟨h.1,?_⟩
 have:n.toNat < l.length:=om
 rw[List.getElem?_map,List.getElem?_eq_getElem this]
 simp[List.getD_eq_getElem?_getD,List.getElem?_eq_getElem this]
section
variable {fx:Nat->Option Obj} {F:Nat->Option a0t} {l:List TokQ} {s s1:PS} {X:Hp}
theorem lift {f:Nat} {a:List V} {s':PS} {r:V} (h:evF (pgL fx F0) f a [PB l s,PR s]=some (r,[PB l s',PR s'])) (ha:a1e 2 a=true) (hr:r.und 2=true):evF (pgL fx F) f a (PB l s::PR s::X)=some (r,PB l s'::PR s'::X):=by
 apply up
 exact d7t (mv fx) h ha rfl rfl rfl hr
theorem b7k (h:okS l s=true):evF (pgL fx F) b7r [.ptr 0 0] (PB l s::PR s::X)=some (.d (g3d (now l s)),PB l s::PR s::X):=by
 refine lift ?_ rfl rfl
 have hg:=c8v (f6d h)
 refine a0f (b8d (F:=F0)) rfl rfl rfl ?_
 repeat' (first|refine run ⟨?_⟩|refine a0a hg ?_|fail)
 exact rfl
theorem a6q {b:Bool} (e:okB s=b):evF (pgL fx F) b1f [.ptr 0 0] (PB l s::PR s::X)=some (boo b,PB l s::PR s::X):=by
 subst e
 refine lift ?_ rfl rfl
 refine a0f (c0k (F:=F0)) rfl rfl rfl ?_
 refine run ⟨?_⟩
 exact rfl
theorem g7c (h:okS l s=true) (c:Int):evF (pgL fx F0) a9r [.ptr 0 0,.d (.int .i64 c)] [PB l s,PR s]=some (.tup [],[PB l (a3k l c s),PR (a3k l c s)]):=by
 refine a0f (b7c (F:=F0)) rfl rfl rfl ?_
 unfold a3k
 cases e:okB s with
 |true=>
  repeat' (first|refine run ⟨?_⟩|refine ca (a6q e) ?_|refine ca (b7k h) ?_|fail)
  exact rfl
 |false=>
  repeat' (first|refine run ⟨?_⟩|refine ca (a6q e) ?_|refine ca (b7k h) ?_|fail)
  exact rfl
theorem c1v (h:okS l s=true) {c:Int}:evF (pgL fx F) a9r [.ptr 0 0,.d (.int .i64 c)] (PB l s::PR s::X)=some (.tup [],PB l (a3k l c s)::PR (a3k l c s)::X):=lift (g7c h c) rfl rfl
theorem is_s (h:okS l s=true) (x:S):evF (pgL fx F0) b1a [.ptr 0 0,str x] [PB l s,PR s]=some (boo (isS l s x),[PB l s,PR s]):=by
 refine a0f (c0y (F:=F0)) rfl rfl rfl ?_
 cases c2:decide ((now l s).k=2)<;>cases c4:decide ((now l s).k=4)<;>unfold isS<;>rw[c2,c4]
 all_goals
  repeat' (first|refine run ⟨?_⟩|refine ca (b7k h) ?_|fail)
  exact rfl
theorem b0v (h:okS l s=true) {x:S} {b:Bool} (e:isS l s x=b):evF (pgL fx F) b1a [.ptr 0 0,.d (.str x)] (PB l s::PR s::X)=some (.d (.bool b),PB l s::PR s::X):=by
 subst e;exact lift (is_s h x) rfl rfl
theorem g7m (h:okS l s=true) (x:S):evF (pgL fx F0) a5l [.ptr 0 0,str x] [PB l s,PR s]=some (boo (a1s l x s).1,[PB l (a1s l x s).2,PR (a1s l x s).2]):=by
 refine a0f (b7d (F:=F0)) rfl rfl rfl ?_
 unfold a1s
 cases e:okB s with
 |false=>
  repeat' (first|refine run ⟨?_⟩|refine ca (a6q e) ?_|fail)
  exact rfl
 |true=>
  cases e2:isS l s x with
  |true=>
   repeat' (first|refine run ⟨?_⟩|refine ca (a6q e) ?_|refine ca (b0v h e2) ?_|fail)
   exact rfl
  |false=>
   repeat' (first|refine run ⟨?_⟩|refine ca (a6q e) ?_|refine ca (b0v h e2) ?_|fail)
   exact rfl
theorem a1x (h:okS l s=true) {x:S} {b:Bool} (e:a1s l x s=(b,s1)):evF (pgL fx F) a5l [.ptr 0 0,.d (.str x)] (PB l s::PR s::X)=some (.d (.bool b),PB l s1::PR s1::X):=by
 have:=lift (F:=F) (X:=X) (g7m (fx:=fx) h x) rfl rfl
 rw[e]at this;exact this
theorem h3n (h:okS l s=true) (x:S):evF (pgL fx F0) a5j [.ptr 0 0,str x] [PB l s,PR s]=some (.tup [],[PB l (a2i l x s).2,PR (a2i l x s).2]):=by
 refine a0f (b6u (F:=F0)) rfl rfl rfl ?_
 cases e:okB s && isS l s x with
 |true=>
  have et:a1s l x s=(true,adv s):=by unfold a1s;rw[e];rfl
  have en:a2i l x s=(true,adv s):=by unfold a2i;rw[e];rfl
  rw[en]
  repeat' (first|refine run ⟨?_⟩|refine ca (a1x h et) ?_|fail)
  exact rfl
 |false=>
  have et:a1s l x s=(false,s):=by unfold a1s;rw[e];rfl
  have en:a2i l x s=(false,a3k l 120 s):=by unfold a2i;rw[e];rfl
  rw[en]
  repeat' (first|refine run ⟨?_⟩|refine ca (a1x h et) ?_|refine ca (c1v h) ?_|fail)
  exact rfl
theorem a1w (h:okS l s=true) {x:S} {b:Bool} (e:a2i l x s=(b,s1)):evF (pgL fx F) a5j [.ptr 0 0,.d (.str x)] (PB l s::PR s::X)=some (.tup [],PB l s1::PR s1::X):=by
 have:=lift (F:=F) (X:=X) (h3n (fx:=fx) h x) rfl rfl
 rw[e]at this;exact this
theorem h0o (h:okS l s=true) (hl:l.length<=1000000):evF (pgL fx F0) a5k [.ptr 0 0] [PB l s,PR s]=some (str (a3d l s).1,[PB l (a3d l s).2,PR (a3d l s).2]):=by
 refine a0f (b6y (F:=F0)) rfl rfl rfl ?_
 unfold a3d
 cases e:okB s with
 |false=>
  repeat' (first|refine run ⟨?_⟩|refine ca (a6q e) ?_|refine ca (c1v h) ?_|fail)
  exact rfl
 |true=>
  cases e2:decide ((now l s).k=1)with
  |true=>
   have hr:=f6d h
   have hw:IntKind.i64.wrap (IntKind.i64.wrap (s.at_+1) - 1)=s.at_:=by rw[a0w (n:=s.at_+1) om,a0w om];omega
   have hg:=c8v hr
   rw[<-hw]at hg
   have hn:l.getD (IntKind.i64.wrap (IntKind.i64.wrap (s.at_+1) - 1)).toNat default=now l s:=by rw[hw];rfl
   rw[hn]at hg
   repeat' (first|refine run ⟨?_⟩|refine ca (a6q e) ?_|refine ca (b7k h) ?_|refine a0a hg ?_|fail)
   exact rfl
  |false=>
   repeat' (first|refine run ⟨?_⟩|refine ca (a6q e) ?_|refine ca (b7k h) ?_|refine ca (c1v h) ?_|fail)
   exact rfl
theorem a2g (h:okS l s=true) (hl:l.length<=1000000) {t:S} (e:a3d l s=(t,s1)):evF (pgL fx F) a5k [.ptr 0 0] (PB l s::PR s::X)=some (.d (.str t),PB l s1::PR s1::X):=by
 have:=lift (F:=F) (X:=X) (h0o (fx:=fx) h hl) rfl rfl
 rw[e]at this;exact this
end
end Go.Vm.Ite
namespace Go.Vm.Ite
open Go.Vm.Lex (TokQ)
open Go.Vm.Pa hiding go
theorem gSg {l:List S} {i:Nat} (h:i < l.length):0<=(i:Int)/\(l.map D.str)[(i:Int).toNat]? =some (D.str (l.getD i [])):=by
 refine⟨om,?_⟩
 rw[Int.toNat_natCast,List.getElem?_map,List.getElem?_eq_getElem h]
 simp[List.getD_eq_getElem?_getD,List.getElem?_eq_getElem h]
theorem e9g {l:List S} {i:Nat} (h:i < l.length):l.drop i=l.getD i []::l.drop (i+1):=by
 rw[List.drop_eq_getElem_cons h];simp[List.getD_eq_getElem?_getD,List.getElem?_eq_getElem h]
section
variable {fx:Nat->Option Obj} {F:Nat->Option a0t} {l:List TokQ} {s s1:PS} {X:Hp}
theorem i1q (h:okS l s=true) (xs:List S) (hx:xs.length<=1000):evF (pgL fx F0) b0a [.ptr 0 0,.d (.sl (xs.map D.str))] [PB l s,PR s]=some (boo (anyS l s xs),[PB l s,PR s]):=by
 have hlm:(xs.map D.str).length=xs.length:=List.length_map ..
 refine a0f (b8p (F:=F0)) rfl rfl rfl ?_
 refine run ⟨?_⟩
 refine a0g (α:=Nat) (fun i=>xs.length - i) (fun i=>[(0,.ptr 0 0),(1,.d (.sl (xs.map D.str))),(5,.d (.int .i64 (i:Int)))]) (fun _=>[PB l s,PR s]) (fun i=>i<=xs.length/\anyS l s xs=(xs.drop i).any (isS l s)) ?_ 0 ⟨Nat.zero_le _,rfl⟩ rfl rfl
 rintro i ⟨hi,hv⟩
 rw[hv]
 by_cases c:i < xs.length
 ·have c':(i:Int) < ((xs.map D.str).length:Int):=by rw[hlm];omega
  have pi:=gSg c
  rw[e9g c,List.any_cons]
  generalize xs.getD i []=y at pi⊢
  cases e:isS l s y with
  |true=>
   repeat' (first|refine run ⟨?_⟩|refine a0a pi ?_|refine ca (b0v h e) ?_|fail)
   exact rfl
  |false=>
   repeat' (first|refine run ⟨?_⟩|refine a0a pi ?_|refine ca (b0v h e) ?_|fail)
   refine⟨i+1,⟨c,rfl⟩,om,?_,rfl⟩
   ·rw[a0w om]<;>rfl
 ·have c':¬ (i:Int) < ((xs.map D.str).length:Int):=by rw[hlm];omega
  rw[List.drop_eq_nil_of_le om]
  refine run ⟨?_⟩
  exact rfl
theorem i1o (h:okS l s=true) {xs:List S} (hx:xs.length<=1000) {b:Bool} {A:V} (hA:A= .d (.sl (xs.map D.str))) (e:anyS l s xs=b):evF (pgL fx F) b0a [.ptr 0 0,A] (PB l s::PR s::X)=some (.d (.bool b),PB l s::PR s::X):=by
 subst e;subst hA;exact lift (i1q h xs hx) rfl rfl
theorem f5k (h:okS l s=true) (c:Int):evF (pgL fx F0) a7l [.ptr 0 0,.d (.int .u8 c)] [PB l s,PR s]=some (boo (c3o l c s),[PB l s,PR s]):=by
 refine a0f (b4b (F:=F0)) rfl rfl rfl ?_
 unfold c3o
 have e1:=fun xs hx A hA=>i1o (fx:=fx) (F:=F0) (X:=[]) h (xs:=xs) hx (A:=A) hA rfl
 cases c1:decide ((now l s).k=1)<;>cases c3:decide ((now l s).k=3)<;>
 by_cases d1:c=116
 all_goals first|rw[if_pos d1]|rw[if_neg d1]
 all_goals try(by_cases d2:c=101<;>first|rw[if_pos d2]|rw[if_neg d2])
 all_goals try(by_cases d3:c=112<;>first|rw[if_pos d3]|rw[if_neg d3])
 all_goals
  repeat' (first|refine run ⟨?_⟩|refine ca (b7k h) ?_|refine ca (e1 typL (by decide) _ rfl) ?_|refine ca (e1 h1h (by decide) _ rfl) ?_|refine ca (e1 patL (by decide) _ rfl) ?_|refine ca (b0v h rfl) ?_|fail)
  exact rfl
theorem f5u (h:okS l s=true) {c:Int} {b:Bool} (e:c3o l c s=b):evF (pgL fx F) a7l [.ptr 0 0,.d (.int .u8 c)] (PB l s::PR s::X)=some (.d (.bool b),PB l s::PR s::X):=by
 subst e;exact lift (f5k h c) rfl rfl
theorem c6d {c:Int} (h:okS l s=true):okS l (a3k l c s)=true:=by unfold a3k;split<;>exact h
theorem e1z {c:Int} (h:okS l s=true):okS l (b6b l c s)=true:=by unfold b6b;split<;>first|exact h|exact c6d h
theorem f4n (h:okS l s=true):okS l (c3i l s)=true:=by unfold c3i;split<;>first|exact h|exact c6d h
theorem g9n (h:okS l s=true) (c:Int):evF (pgL fx F0) a9g [.ptr 0 0,.d (.int .u8 c)] [PB l s,PR s]=some (boo (c2d l c s).1,[PB l (c2d l c s).2,PR (c2d l c s).2]):=by
 refine a0f (b6k (F:=F0)) rfl rfl rfl ?_
 unfold c2d
 obtain⟨s1,e1⟩:∃ s1,b6b l c s=s1:=⟨_,rfl⟩
 obtain⟨s2,e2⟩:∃ s2,c3i l s1=s2:=⟨_,rfl⟩
 obtain⟨b3,e3⟩:∃ b3,okB (d7f s2)=b3:=⟨_,rfl⟩
 rw[e1,e2,e3]
 have h1:okS l s1=true:=by rw[<-e1];exact e1z h
 have last:∀ {X:Hp},evF (pgL fx F0) b1f [.ptr 0 0] (PB l (d7f s2)::PR (d7f s2)::X)=some (boo b3,PB l (d7f s2)::PR (d7f s2)::X):=a6q e3
 have mid:∀ (s0:PS),(if okB s0 && !c3o l c s0 then a3k l 120 s0 else s0)=b6b l c s0:=fun _=>rfl
 cases a1:okB s<;>cases a2:c3o l c s<;>cases a3:okB s1<;>cases a4:decide (100<=s1.deep)
 all_goals(have f1:s1=(if okB s && !c3o l c s then a3k l 120 s else s):=e1.symm)
 all_goals(have f2:s2=(if okB s1 && decide (100<=s1.deep) then a3k l 121 s1 else s1):=e2.symm)
 all_goals rw[a1,a2]at f1
 all_goals rw[a3,a4]at f2
 all_goals simp only[Bool.not_true,Bool.not_false,Bool.and_true,Bool.and_false,Bool.true_and,Bool.false_and,if_true,if_false,Bool.false_eq_true]at f1 f2
 all_goals subst f2
 all_goals first|(subst f1)|skip
 all_goals try(rw[a1]at a3;cases a3;done)
 all_goals
  repeat' (first|refine run ⟨?_⟩|refine ca (a6q a1) ?_|refine ca (f5u h a2) ?_|refine ca (c1v h) ?_|refine ca (a6q a3) ?_|refine ca (c1v h1) ?_|refine ca (last) ?_|fail)
  exact rfl
theorem b7x (h:okS l s=true) {c:Int} {b:Bool} (e:c2d l c s=(b,s1)):evF (pgL fx F) a9g [.ptr 0 0,.d (.int .u8 c)] (PB l s::PR s::X)=some (.d (.bool b),PB l s1::PR s1::X):=by
 have:=lift (F:=F) (X:=X) (g9n (fx:=fx) h c) rfl rfl
 rw[e]at this;exact this
theorem g0f (r:Int) {X:Hp}:evF (pgL fx F) b9n [.d (.int .i64 r)] X=some (.d (.sl ((a6h r).map D.str)),X):=by
 refine a1d (c9y (F:=F)) rfl rfl ?_ X
 unfold a6h
 by_cases d1:r=0
 ·rw[if_pos d1]
  refine run ⟨?_⟩
  exact rfl
 ·rw[if_neg d1]
  by_cases d2:r=1
  ·rw[if_pos d2]
   refine run ⟨?_⟩
   exact rfl
  ·rw[if_neg d2]
   by_cases d3:r=2
   ·rw[if_pos d3]
    refine run ⟨?_⟩
    exact rfl
   ·rw[if_neg d3]
    by_cases d4:r=3
    ·rw[if_pos d4]
     refine run ⟨?_⟩
     exact rfl
    ·rw[if_neg d4]
     refine run ⟨?_⟩
     exact rfl
theorem e8g (r:Int):(a6h r).length<=10:=by unfold a6h;(repeat' split)<;>decide
theorem h0m (h:okS l s=true) (r:Int):evF (pgL fx F0) a9h [.ptr 0 0,.d (.int .i64 r)] [PB l s,PR s]=some (str (c6r l r s),[PB l s,PR s]):=by
 have hx:=e8g r
 unfold c6r
 have es:∀ {X:Hp},evF (pgL fx F0) b9n [.d (.int .i64 r)] X=some (.d (.sl ((a6h r).map D.str)),X):=g0f r
 revert es
 generalize a6h r=xs at hx⊢
 intro es
 have hlm:(xs.map D.str).length=xs.length:=List.length_map ..
 refine a0f (b6v (F:=F0)) rfl rfl rfl ?_
 repeat' (first|refine run ⟨?_⟩|refine ca (es) ?_|fail)
 obtain⟨res,hres⟩:∃ res,((xs.find? fun x=>okB s && isS l s x).getD [])=res:=⟨_,rfl⟩
 rw[hres]
 refine a0g (α:=Nat) (fun i=>xs.length - i) (fun i=>[(0,.ptr 0 0),(5,.d (.sl (xs.map D.str))),(6,.d (.int .i64 (i:Int)))]) (fun _=>[PB l s,PR s]) (fun i=>i<=xs.length/\(((xs.drop i).find? fun x=>okB s && isS l s x).getD [])=res) ?_ 0 ⟨Nat.zero_le _,hres⟩ rfl rfl
 rintro i ⟨hi,hv⟩
 by_cases c:i < xs.length
 ·have c':(i:Int) < ((xs.map D.str).length:Int):=by rw[hlm];omega
  have pi:=gSg c
  rw[e9g c,List.find?_cons]at hv
  generalize xs.getD i []=y at pi hv
  cases e0:okB s with
  |false=>
   rw[e0]at hv
   repeat' (first|refine run ⟨?_⟩|refine a0a pi ?_|refine ca (a6q e0) ?_|fail)
   refine⟨i+1,⟨c,by rw[<-hv];rfl⟩,om,?_,rfl⟩
   rw[a0w om]<;>rfl
  |true=>
   cases e:isS l s y with
   |true=>
    rw[e0,e]at hv
    subst hv
    repeat' (first|refine run ⟨?_⟩|refine a0a pi ?_|refine ca (a6q e0) ?_|refine ca (b0v h e) ?_|fail)
    exact rfl
   |false=>
    rw[e0,e]at hv
    repeat' (first|refine run ⟨?_⟩|refine a0a pi ?_|refine ca (a6q e0) ?_|refine ca (b0v h e) ?_|fail)
    refine⟨i+1,⟨c,by rw[<-hv];rfl⟩,om,?_,rfl⟩
    rw[a0w om]<;>rfl
 ·have c':¬ (i:Int) < ((xs.map D.str).length:Int):=by rw[hlm];omega
  rw[List.drop_eq_nil_of_le om]at hv
  subst hv
  refine run ⟨?_⟩
  exact rfl
theorem c7m (h:okS l s=true) {r:Int}:evF (pgL fx F) a9h [.ptr 0 0,.d (.int .i64 r)] (PB l s::PR s::X)=some (.d (.str (c6r l r s)),PB l s::PR s::X):=lift (h0m h r) rfl rfl
end
end Go.Vm.Ite
namespace Go.Vm.Ite
open Go.Vm.Lex (TokQ)
open Go.Vm.Pa hiding go
section
variable {fx:Nat->Option Obj} {F:Nat->Option a0t} {l:List TokQ} {s s1:PS} {X:Hp}
theorem b6h {fr i:Int} {n:N} (e:b5u l fr n s=some (i,s1)):evF (pgL fx F0) a9n [.ptr 0 0,.d (.int .i64 fr),.d (n.D 0 0)] [PB l s,PR s]=some (.d (.int .i64 i),[PB l s1,PR s1]):=by
 unfold b5u at e
 split at e
 ·rename_i hg
  obtain⟨hn,hn2,hf,ha⟩:=hg
  have gf:=c8v (g3n hf)
  have hroom:roomy (s.n+1) 72:=by unfold roomy;omega
  simp only[Option.some.injEq,Prod.mk.injEq]at e
  obtain⟨rfl,rfl⟩:=e
  refine a0f (b7f (F:=F0)) rfl rfl rfl ?_
  by_cases c:fr < s.at_
  ·have ga:=c8v (g3n (ha c))
   repeat' (first|refine a2p ⟨?_⟩|refine a0c 8 (by decide) (by decide) ?_|refine a0a gf ?_|refine a0a ga ?_|refine And.intro ⟨rfl,by decide⟩ ?_|refine And.intro ⟨rfl,hn,hroom⟩ ?_|refine a0c 3 (by decide) (by decide) ?_|fail)
   rw[if_pos c]
   exact rfl
  ·repeat' (first|refine a2p ⟨?_⟩|refine a0c 8 (by decide) (by decide) ?_|refine a0a gf ?_|refine And.intro ⟨rfl,by decide⟩ ?_|refine And.intro ⟨rfl,hn,hroom⟩ ?_|refine a0c 3 (by decide) (by decide) ?_|fail)
   rw[if_neg c]
   exact rfl
 ·cases e
theorem a1g {fr i:Int} {n:N} {A:D} (e:b5u l fr n s=some (i,s1)) (hA:A=n.D 0 0):evF (pgL fx F) a9n [.ptr 0 0,.d (.int .i64 fr),.d A] (PB l s::PR s::X)=some (.d (.int .i64 i),PB l s1::PR s1::X):=by
 subst hA;exact lift (b6h e) rfl rfl
end
end Go.Vm.Ite
namespace Go.Vm.Ite
open Go.Vm.Lex (TokQ)
open Go.Vm.Pa
structure LOk (l:List TokQ):Prop where
 len:l.length<=1000000
 txt:∀ i,(l.getD i default).t.length<=1000000
 last:∀ i,i < l.length->(l.getD i default).k≠5->i+1 < l.length
section
variable {fx:Nat->Option Obj} {F:Nat->Option a0t} {l:List TokQ} {s s1 s2:PS} {X:Hp} {n m:Nat} {r:R}
theorem d9v (hl:LOk l) (h:okS l s=true) (hk:(now l s).k≠5):okS l (adv s)=true:=by
 have hr:=f6d h
 have:=hl.last s.at_.toNat om hk
 have hlen:=hl.len
 have hw:(adv s).at_=s.at_+1:=a0w (n:=s.at_+1) om
 unfold okS
 rw[hw]
 simp only[Bool.and_eq_true,decide_eq_true_eq]
 omega
theorem d0h (hl:LOk l) (s:PS):(a3d l s).1.length<=1000000:=by
 unfold a3d
 split
 ·exact hl.txt _
 ·exact Nat.zero_le _
theorem h8w (hl:LOk l) {s:PS}:(a3d l s).1.length+([58,58]:S).length<=9223372036854775807:=by
 have:=d0h hl s
 simp only[List.length_cons,List.length_nil];omega
theorem h9h (hl:LOk l) {s s2:PS}:((a3d l s).1++([58,58]:S)).length+(a3d l s2).1.length<=9223372036854775807:=by
 have:=d0h hl s
 have:=d0h hl s2
 simp only[List.length_append,List.length_cons,List.length_nil];omega
theorem f8e:roomy 2 8:=by decide
theorem f9n:roomy 3 8:=by decide
theorem a1i {k:K} (h:okK k=true):k.l.length=k.n:=by
 unfold okK at h
 simp only[Bool.and_eq_true,decide_eq_true_eq]at h
 exact h.1
theorem a1o {k:K} (h:okK k=true):roomy (k.n+1) 8:=by
 unfold okK at h
 simp only[Bool.and_eq_true,decide_eq_true_eq]at h
 unfold roomy;omega
theorem is_k {x:S} (h:isS l s x=true):(now l s).k≠5:=by
 unfold isS at h
 simp only[Bool.and_eq_true,Bool.or_eq_true,decide_eq_true_eq]at h
 omega
theorem g2v (h:okS l s=true):okS l (down s)=true:=h
theorem f1b (hl:LOk l) {x:S} {b:Bool} (e:a1s l x s=(b,s1)) (h:okS l s=true):okS l s1=true:=by
 unfold a1s at e
 split at e
 ·rename_i c
  cases e
  simp only[Bool.and_eq_true]at c
  exact d9v hl h (is_k c.2)
 ·cases e;exact h
theorem e7r (hl:LOk l) {x:S} {b:Bool} (e:a2i l x s=(b,s1)) (h:okS l s=true):okS l s1=true:=by
 unfold a2i at e
 split at e
 ·rename_i c
  cases e
  simp only[Bool.and_eq_true]at c
  exact d9v hl h (is_k c.2)
 ·cases e;exact c6d h
theorem f2n (hl:LOk l) {x:S} (e:a3d l s=(x,s1)) (h:okS l s=true):okS l s1=true:=by
 unfold a3d at e
 split at e
 ·rename_i c
  cases e
  simp only[Bool.and_eq_true,decide_eq_true_eq]at c
  exact d9v hl h om
 ·cases e;exact c6d h
theorem g2p {c:Int} {b:Bool} (e:c2d l c s=(b,s1)) (h:okS l s=true):okS l s1=true:=by
 unfold c2d at e
 cases e
 exact f4n (e1z h)
theorem e9q {fr i:Int} {x:N} (e:b5u l fr x s=some (i,s1)) (h:okS l s=true):okS l s1=true:=by
 unfold b5u at e
 split at e
 ·cases e;exact h
 ·cases e
theorem b2u {g:Q->PS->M} {q:Q} (e:cl l g q s=some (r,s1)):g q s=some (r,s1)/\okS l s1=true:=by
 unfold cl at e
 split at e
 ·rename_i r2 s2 hg
  split at e
  ·rename_i ho;cases e;exact⟨hg,ho⟩
  ·cases e
 ·cases e
theorem i0g {g:Q->PS->M} {q:Q} (e:cl l g q s=some (r,s1)):okS l s1=true:=(b2u e).2
theorem g3i (hl:LOk l) {fr:Int} {x:N} (h:okS l s=true) (e:b6j l fr x s=some (r,s1)):evF (pgL fx F0) a7z [.ptr 0 0,.d (.int .i64 fr),.d (x.D 0 0)] [PB l s,PR s]=some (.d (.int .i64 r.i),[PB l s1,PR s1]):=by
 unfold b6j at e
 split at e
 ·cases e
 ·rename_i i s2 e1
  split at e
  rename_i b s3 e2
  cases e
  refine a0f (b5q (F:=F0)) rfl rfl rfl ?_
  repeat' (first|refine run ⟨?_⟩|refine ca (a1g e1 rfl) ?_|refine ca (a1w (e9q e1 h) e2) ?_|fail)
  exact rfl
theorem f1z (hl:LOk l) {fr:Int} {x:N} {A:D} (hA:A=x.D 0 0) (h:okS l s=true) (e:b6j l fr x s=some (r,s1)):evF (pgL fx F0) a7z [.ptr 0 0,.d (.int .i64 fr),.d A] (PB l s::PR s::X)=some (.d (.int .i64 r.i),PB l s1::PR s1::X):=by
 subst hA;exact lift (g3i hl h e) rfl rfl
theorem a1y (h:okS l s=true) {x:S}:evF (pgL fx F) a5j [.ptr 0 0,.d (.str x)] (PB l s::PR s::X)=some (.tup [],PB l (a2i l x s).2::PR (a2i l x s).2::X):=a1w h rfl
theorem a2l (h:okS l s=true) (hl:l.length<=1000000):evF (pgL fx F) a5k [.ptr 0 0] (PB l s::PR s::X)=some (.d (.str (a3d l s).1),PB l (a3d l s).2::PR (a3d l s).2::X):=a2g h hl rfl
theorem a2d (h:okS l s=true) {x:S}:evF (pgL fx F) a5l [.ptr 0 0,.d (.str x)] (PB l s::PR s::X)=some (.d (.bool (a1s l x s).1),PB l (a1s l x s).2::PR (a1s l x s).2::X):=a1x h rfl
theorem f5y (hl:LOk l) {x:S} (h:okS l s=true):okS l (a2i l x s).2=true:=e7r hl rfl h
theorem f6n (hl:LOk l) (h:okS l s=true):okS l (a3d l s).2=true:=f2n hl rfl h
theorem f4h (hl:LOk l) {x:S} (h:okS l s=true):okS l (a1s l x s).2=true:=f1b hl rfl h
theorem okQ (h:okS l s=true:=by with_reducible (repeat' (first|assumption|exact i0g (by assumption)|refine f1b (by assumption) (by assumption) ?_|refine e7r (by assumption) (by assumption) ?_|refine f2n (by assumption) (by assumption) ?_|refine g2p (by assumption) ?_|refine e9q (by assumption) ?_|refine f5y (by assumption) ?_|refine f6n (by assumption) ?_|refine f4h (by assumption) ?_|refine g2v ?_|refine c6d ?_))):okS l s=true:=h
theorem asm {P:Prop} (h:P:=by with_reducible assumption):P:=h
end
structure Sp (fx:Nat->Option Obj) (l:List TokQ) (n:Nat):Prop where
 typ:∀ {s s1:PS} {r:R},okS l s=true->go l n .typ s=some (r,s1)->evF (pgL fx F0) a5y [.ptr 0 0] [PB l s,PR s]=some (.d (.int .i64 r.i),[PB l s1,PR s1])
 typed:∀ (fr:Int) {s s1:PS} {r:R},okS l s=true->go l n (.typed fr) s=some (r,s1)->evF (pgL fx F0) a4s [.ptr 0 0,.d (.int .i64 fr)] [PB l s,PR s]=some (.d (.int .i64 r.i),[PB l s1,PR s1])
 param:∀ {s s1:PS} {r:R},okS l s=true->go l n .param s=some (r,s1)->evF (pgL fx F0) a4t [.ptr 0 0] [PB l s,PR s]=some (.d (.int .i64 r.i),[PB l s1,PR s1])
 field:∀ {s s1:PS} {r:R},okS l s=true->go l n .field s=some (r,s1)->evF (pgL fx F0) a4z [.ptr 0 0] [PB l s,PR s]=some (.d (.int .i64 r.i),[PB l s1,PR s1])
 variant:∀ {s s1:PS} {r:R},okS l s=true->go l n .variant s=some (r,s1)->evF (pgL fx F0) a4a [.ptr 0 0] [PB l s,PR s]=some (.d (.int .i64 r.i),[PB l s1,PR s1])
 function:∀ {s s1:PS} {r:R},okS l s=true->go l n .function s=some (r,s1)->evF (pgL fx F0) a3m [.ptr 0 0] [PB l s,PR s]=some (.d (.int .i64 r.i),[PB l s1,PR s1])
 parts:∀ (k:Int) {s s1:PS} {r:R},okS l s=true->go l n (.parts k) s=some (r,s1)->evF (pgL fx F0) a4x [.ptr 0 0,.d (.int .i64 k)] [PB l s,PR s]=some (.d (.int .i64 r.i),[PB l s1,PR s1])
 item:∀ {s s1:PS} {r:R},okS l s=true->go l n .item s=some (r,s1)->evF (pgL fx F0) a5n [.ptr 0 0] [PB l s,PR s]=some (.d (.int .i64 r.i),[PB l s1,PR s1])
 block:∀ {s s1:PS} {r:R},okS l s=true->go l n .block s=some (r,s1)->evF (pgL fx F0) a4u [.ptr 0 0] [PB l s,PR s]=some (.d (.int .i64 r.i),[PB l s1,PR s1])
 stmt:∀ {s s1:PS} {r:R},okS l s=true->go l n .stmt s=some (r,s1)->evF (pgL fx F0) a5i [.ptr 0 0] [PB l s,PR s]=some (.tup [.d (.int .i64 r.i),.d (.bool r.b)],[PB l s1,PR s1])
 let_:∀ (fr:Int) {s s1:PS} {r:R},okS l s=true->go l n (.let_ fr) s=some (r,s1)->evF (pgL fx F0) a6c [.ptr 0 0,.d (.int .i64 fr)] [PB l s,PR s]=some (.d (.int .i64 r.i),[PB l s1,PR s1])
 blocky:∀ (fr:Int) {s s1:PS} {r:R},okS l s=true->go l n (.blocky fr) s=some (r,s1)->evF (pgL fx F0) a4i [.ptr 0 0,.d (.int .i64 fr)] [PB l s,PR s]=some (.tup [.d (.int .i64 r.i),.d (.bool r.b)],[PB l s1,PR s1])
 branch:∀ {s s1:PS} {r:R},okS l s=true->go l n .branch s=some (r,s1)->evF (pgL fx F0) a4f [.ptr 0 0] [PB l s,PR s]=some (.d (.int .i64 r.i),[PB l s1,PR s1])
 cond:∀ {s s1:PS} {r:R},okS l s=true->go l n .cond s=some (r,s1)->evF (pgL fx F0) a5p [.ptr 0 0] [PB l s,PR s]=some (.d (.int .i64 r.i),[PB l s1,PR s1])
 match_:∀ {s s1:PS} {r:R},okS l s=true->go l n .match_ s=some (r,s1)->evF (pgL fx F0) a4v [.ptr 0 0] [PB l s,PR s]=some (.d (.int .i64 r.i),[PB l s1,PR s1])
 arm:∀ {s s1:PS} {r:R},okS l s=true->go l n .arm s=some (r,s1)->evF (pgL fx F0) a6f [.ptr 0 0] [PB l s,PR s]=some (.d (.int .i64 r.i),[PB l s1,PR s1])
 pattern:∀ {s s1:PS} {r:R},okS l s=true->go l n .pattern s=some (r,s1)->evF (pgL fx F0) a3y [.ptr 0 0] [PB l s,PR s]=some (.d (.int .i64 r.i),[PB l s1,PR s1])
 patterned:∀ (fr:Int) {s s1:PS} {r:R},okS l s=true->go l n (.patterned fr) s=some (r,s1)->evF (pgL fx F0) a2z [.ptr 0 0,.d (.int .i64 fr)] [PB l s,PR s]=some (.d (.int .i64 r.i),[PB l s1,PR s1])
 expr:∀ (b:Bool) {s s1:PS} {r:R},okS l s=true->go l n (.expr b) s=some (r,s1)->evF (pgL fx F0) a5g [.ptr 0 0,.d (.bool b)] [PB l s,PR s]=some (.d (.int .i64 r.i),[PB l s1,PR s1])
 row:∀ (k:Int) (b:Bool) {s s1:PS} {r:R},okS l s=true->go l n (.row k b) s=some (r,s1)->evF (pgL fx F0) a6a [.ptr 0 0,.d (.int .i64 k),.d (.bool b)] [PB l s,PR s]=some (.d (.int .i64 r.i),[PB l s1,PR s1])
 operand:∀ (b:Bool) {s s1:PS} {r:R},okS l s=true->go l n (.operand b) s=some (r,s1)->evF (pgL fx F0) a3z [.ptr 0 0,.d (.bool b)] [PB l s,PR s]=some (.d (.int .i64 r.i),[PB l s1,PR s1])
 prefix_:∀ (b:Bool) {s s1:PS} {r:R},okS l s=true->go l n (.prefix_ b) s=some (r,s1)->evF (pgL fx F0) a4d [.ptr 0 0,.d (.bool b)] [PB l s,PR s]=some (.d (.int .i64 r.i),[PB l s1,PR s1])
 postfix_:∀ (b:Bool) {s s1:PS} {r:R},okS l s=true->go l n (.postfix_ b) s=some (r,s1)->evF (pgL fx F0) a3v [.ptr 0 0,.d (.bool b)] [PB l s,PR s]=some (.d (.int .i64 r.i),[PB l s1,PR s1])
 primary:∀ (b:Bool) {s s1:PS} {r:R},okS l s=true->go l n (.primary b) s=some (r,s1)->evF (pgL fx F0) a3w [.ptr 0 0,.d (.bool b)] [PB l s,PR s]=some (.d (.int .i64 r.i),[PB l s1,PR s1])
 named:∀ (fr:Int) (b:Bool) {s s1:PS} {r:R},okS l s=true->go l n (.named fr b) s=some (r,s1)->evF (pgL fx F0) a4y [.ptr 0 0,.d (.int .i64 fr),.d (.bool b)] [PB l s,PR s]=some (.d (.int .i64 r.i),[PB l s1,PR s1])
 init:∀ {s s1:PS} {r:R},okS l s=true->go l n .init s=some (r,s1)->evF (pgL fx F0) a5h [.ptr 0 0] [PB l s,PR s]=some (.d (.int .i64 r.i),[PB l s1,PR s1])
section
variable {fx:Nat->Option Obj} {l:List TokQ} {s s1 s2:PS} {X:Hp} {n m:Nat} {r:R}
theorem b7n (IH:∀ m,m<=n->Sp fx l m) (e:cl l (go l m) .typ s=some (r,s1)) (hm:m<=n) (h:okS l s=true):evF (pgL fx F0) a5y [.ptr 0 0] (PB l s::PR s::X)=some (.d (.int .i64 r.i),PB l s1::PR s1::X):=lift ((IH m hm).typ h (b2u e).1) rfl rfl
theorem g1e {fr:Int} (IH:∀ m,m<=n->Sp fx l m) (e:cl l (go l m) (.typed fr) s=some (r,s1)) (hm:m<=n) (h:okS l s=true):evF (pgL fx F0) a4s [.ptr 0 0,.d (.int .i64 fr)] (PB l s::PR s::X)=some (.d (.int .i64 r.i),PB l s1::PR s1::X):=lift ((IH m hm).typed fr h (b2u e).1) rfl rfl
theorem b2a (IH:∀ m,m<=n->Sp fx l m) (e:cl l (go l m) .param s=some (r,s1)) (hm:m<=n) (h:okS l s=true):evF (pgL fx F0) a4t [.ptr 0 0] (PB l s::PR s::X)=some (.d (.int .i64 r.i),PB l s1::PR s1::X):=lift ((IH m hm).param h (b2u e).1) rfl rfl
theorem e0o (IH:∀ m,m<=n->Sp fx l m) (e:cl l (go l m) .field s=some (r,s1)) (hm:m<=n) (h:okS l s=true):evF (pgL fx F0) a4z [.ptr 0 0] (PB l s::PR s::X)=some (.d (.int .i64 r.i),PB l s1::PR s1::X):=lift ((IH m hm).field h (b2u e).1) rfl rfl
theorem c6e (IH:∀ m,m<=n->Sp fx l m) (e:cl l (go l m) .variant s=some (r,s1)) (hm:m<=n) (h:okS l s=true):evF (pgL fx F0) a4a [.ptr 0 0] (PB l s::PR s::X)=some (.d (.int .i64 r.i),PB l s1::PR s1::X):=lift ((IH m hm).variant h (b2u e).1) rfl rfl
theorem e5k (IH:∀ m,m<=n->Sp fx l m) (e:cl l (go l m) .function s=some (r,s1)) (hm:m<=n) (h:okS l s=true):evF (pgL fx F0) a3m [.ptr 0 0] (PB l s::PR s::X)=some (.d (.int .i64 r.i),PB l s1::PR s1::X):=lift ((IH m hm).function h (b2u e).1) rfl rfl
theorem g4a {k:Int} (IH:∀ m,m<=n->Sp fx l m) (e:cl l (go l m) (.parts k) s=some (r,s1)) (hm:m<=n) (h:okS l s=true):evF (pgL fx F0) a4x [.ptr 0 0,.d (.int .i64 k)] (PB l s::PR s::X)=some (.d (.int .i64 r.i),PB l s1::PR s1::X):=lift ((IH m hm).parts k h (b2u e).1) rfl rfl
theorem f9t (IH:∀ m,m<=n->Sp fx l m) (e:cl l (go l m) .item s=some (r,s1)) (hm:m<=n) (h:okS l s=true):evF (pgL fx F0) a5n [.ptr 0 0] (PB l s::PR s::X)=some (.d (.int .i64 r.i),PB l s1::PR s1::X):=lift ((IH m hm).item h (b2u e).1) rfl rfl
theorem a5r (IH:∀ m,m<=n->Sp fx l m) (e:cl l (go l m) .block s=some (r,s1)) (hm:m<=n) (h:okS l s=true):evF (pgL fx F0) a4u [.ptr 0 0] (PB l s::PR s::X)=some (.d (.int .i64 r.i),PB l s1::PR s1::X):=lift ((IH m hm).block h (b2u e).1) rfl rfl
theorem e4h (IH:∀ m,m<=n->Sp fx l m) (e:cl l (go l m) .stmt s=some (r,s1)) (hm:m<=n) (h:okS l s=true):evF (pgL fx F0) a5i [.ptr 0 0] (PB l s::PR s::X)=some (.tup [.d (.int .i64 r.i),.d (.bool r.b)],PB l s1::PR s1::X):=lift ((IH m hm).stmt h (b2u e).1) rfl rfl
theorem g8n {fr:Int} (IH:∀ m,m<=n->Sp fx l m) (e:cl l (go l m) (.let_ fr) s=some (r,s1)) (hm:m<=n) (h:okS l s=true):evF (pgL fx F0) a6c [.ptr 0 0,.d (.int .i64 fr)] (PB l s::PR s::X)=some (.d (.int .i64 r.i),PB l s1::PR s1::X):=lift ((IH m hm).let_ fr h (b2u e).1) rfl rfl
theorem f4c {fr:Int} (IH:∀ m,m<=n->Sp fx l m) (e:cl l (go l m) (.blocky fr) s=some (r,s1)) (hm:m<=n) (h:okS l s=true):evF (pgL fx F0) a4i [.ptr 0 0,.d (.int .i64 fr)] (PB l s::PR s::X)=some (.tup [.d (.int .i64 r.i),.d (.bool r.b)],PB l s1::PR s1::X):=lift ((IH m hm).blocky fr h (b2u e).1) rfl rfl
theorem e2f (IH:∀ m,m<=n->Sp fx l m) (e:cl l (go l m) .branch s=some (r,s1)) (hm:m<=n) (h:okS l s=true):evF (pgL fx F0) a4f [.ptr 0 0] (PB l s::PR s::X)=some (.d (.int .i64 r.i),PB l s1::PR s1::X):=lift ((IH m hm).branch h (b2u e).1) rfl rfl
theorem f9e (IH:∀ m,m<=n->Sp fx l m) (e:cl l (go l m) .cond s=some (r,s1)) (hm:m<=n) (h:okS l s=true):evF (pgL fx F0) a5p [.ptr 0 0] (PB l s::PR s::X)=some (.d (.int .i64 r.i),PB l s1::PR s1::X):=lift ((IH m hm).cond h (b2u e).1) rfl rfl
theorem f6c (IH:∀ m,m<=n->Sp fx l m) (e:cl l (go l m) .match_ s=some (r,s1)) (hm:m<=n) (h:okS l s=true):evF (pgL fx F0) a4v [.ptr 0 0] (PB l s::PR s::X)=some (.d (.int .i64 r.i),PB l s1::PR s1::X):=lift ((IH m hm).match_ h (b2u e).1) rfl rfl
theorem g1f (IH:∀ m,m<=n->Sp fx l m) (e:cl l (go l m) .arm s=some (r,s1)) (hm:m<=n) (h:okS l s=true):evF (pgL fx F0) a6f [.ptr 0 0] (PB l s::PR s::X)=some (.d (.int .i64 r.i),PB l s1::PR s1::X):=lift ((IH m hm).arm h (b2u e).1) rfl rfl
theorem d5j (IH:∀ m,m<=n->Sp fx l m) (e:cl l (go l m) .pattern s=some (r,s1)) (hm:m<=n) (h:okS l s=true):evF (pgL fx F0) a3y [.ptr 0 0] (PB l s::PR s::X)=some (.d (.int .i64 r.i),PB l s1::PR s1::X):=lift ((IH m hm).pattern h (b2u e).1) rfl rfl
theorem e0s {fr:Int} (IH:∀ m,m<=n->Sp fx l m) (e:cl l (go l m) (.patterned fr) s=some (r,s1)) (hm:m<=n) (h:okS l s=true):evF (pgL fx F0) a2z [.ptr 0 0,.d (.int .i64 fr)] (PB l s::PR s::X)=some (.d (.int .i64 r.i),PB l s1::PR s1::X):=lift ((IH m hm).patterned fr h (b2u e).1) rfl rfl
theorem a7q {b:Bool} (IH:∀ m,m<=n->Sp fx l m) (e:cl l (go l m) (.expr b) s=some (r,s1)) (hm:m<=n) (h:okS l s=true):evF (pgL fx F0) a5g [.ptr 0 0,.d (.bool b)] (PB l s::PR s::X)=some (.d (.int .i64 r.i),PB l s1::PR s1::X):=lift ((IH m hm).expr b h (b2u e).1) rfl rfl
theorem d1i {k:Int} {b:Bool} (IH:∀ m,m<=n->Sp fx l m) (e:cl l (go l m) (.row k b) s=some (r,s1)) (hm:m<=n) (h:okS l s=true):evF (pgL fx F0) a6a [.ptr 0 0,.d (.int .i64 k),.d (.bool b)] (PB l s::PR s::X)=some (.d (.int .i64 r.i),PB l s1::PR s1::X):=lift ((IH m hm).row k b h (b2u e).1) rfl rfl
theorem f3k {b:Bool} (IH:∀ m,m<=n->Sp fx l m) (e:cl l (go l m) (.operand b) s=some (r,s1)) (hm:m<=n) (h:okS l s=true):evF (pgL fx F0) a3z [.ptr 0 0,.d (.bool b)] (PB l s::PR s::X)=some (.d (.int .i64 r.i),PB l s1::PR s1::X):=lift ((IH m hm).operand b h (b2u e).1) rfl rfl
theorem a8z {b:Bool} (IH:∀ m,m<=n->Sp fx l m) (e:cl l (go l m) (.prefix_ b) s=some (r,s1)) (hm:m<=n) (h:okS l s=true):evF (pgL fx F0) a4d [.ptr 0 0,.d (.bool b)] (PB l s::PR s::X)=some (.d (.int .i64 r.i),PB l s1::PR s1::X):=lift ((IH m hm).prefix_ b h (b2u e).1) rfl rfl
theorem e4s {b:Bool} (IH:∀ m,m<=n->Sp fx l m) (e:cl l (go l m) (.postfix_ b) s=some (r,s1)) (hm:m<=n) (h:okS l s=true):evF (pgL fx F0) a3v [.ptr 0 0,.d (.bool b)] (PB l s::PR s::X)=some (.d (.int .i64 r.i),PB l s1::PR s1::X):=lift ((IH m hm).postfix_ b h (b2u e).1) rfl rfl
theorem c3w {b:Bool} (IH:∀ m,m<=n->Sp fx l m) (e:cl l (go l m) (.primary b) s=some (r,s1)) (hm:m<=n) (h:okS l s=true):evF (pgL fx F0) a3w [.ptr 0 0,.d (.bool b)] (PB l s::PR s::X)=some (.d (.int .i64 r.i),PB l s1::PR s1::X):=lift ((IH m hm).primary b h (b2u e).1) rfl rfl
theorem g2h {fr:Int} {b:Bool} (IH:∀ m,m<=n->Sp fx l m) (e:cl l (go l m) (.named fr b) s=some (r,s1)) (hm:m<=n) (h:okS l s=true):evF (pgL fx F0) a4y [.ptr 0 0,.d (.int .i64 fr),.d (.bool b)] (PB l s::PR s::X)=some (.d (.int .i64 r.i),PB l s1::PR s1::X):=lift ((IH m hm).named fr b h (b2u e).1) rfl rfl
theorem c1z (IH:∀ m,m<=n->Sp fx l m) (e:cl l (go l m) .init s=some (r,s1)) (hm:m<=n) (h:okS l s=true):evF (pgL fx F0) a5h [.ptr 0 0] (PB l s::PR s::X)=some (.d (.int .i64 r.i),PB l s1::PR s1::X):=lift ((IH m hm).init h (b2u e).1) rfl rfl
end
end Go.Vm.Ite
