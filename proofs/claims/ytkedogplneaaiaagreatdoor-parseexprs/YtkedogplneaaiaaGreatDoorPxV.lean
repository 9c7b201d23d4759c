import Derived.Test.YtkedogplneaaiaaGreatDoorVmWx
import Derived.Test.YtkedogplneaaiaaGreatDoorVmRun
import Derived.Test.YtkedogplneaaiaaGreatDoorIteA
set_option maxRecDepth 100000
set_option linter.unusedVariables false
set_option linter.unusedSimpArgs false
namespace Go.Vm
def DSh (σ:Nat->Nat) (n:Nat) (HB:Hp) (dd dd':a2v):Prop:=∀ f a h x H,HR σ n HB h H->dd f a h x->dd' f (shL σ a) H x
section
variable {σ:Nat->Nat} {n:Nat} {HB:Hp} (hm:Mv σ n HB) {dd dd':a2v} {pg:Pg} (hp:b1e pg)
include hm
theorem c5u {cx:Cx} (hd:DSh σ n HB dd dd') {e:Env} {h H:Hp} {o:a0a} {x:D} (hc:o.op.cst=true) (R:HR σ n HB h H) (h1:a5w cx dd e h o x):a5w cx dd' (shE σ e) H o x:=by
 unfold a5w at h1⊢
 split at h1
 ·exact h1.elim
 ·cases hop:o.op with
  |call f args=>
   rw[hop]at h1 hc
   simp only[VOp.cst,VOp.f6u,Bool.and_true]at hc
   simp only at h1⊢
   rw[c3h hm R hc]
   exact hd _ _ _ _ _ R h1
  |callv f args=>
   rw[hop]at h1 hc
   simp only[VOp.cst,VOp.f6u,Bool.and_true,List.all_cons,Bool.and_eq_true]at hc
   simp only at h1⊢
   rw[c3h hm R hc.2,a1b hc.1]
   split at h1
   ·rename_i f' c hv
    rw[hv]
    simp only[V.sh]
    rw[<-b6w]
    exact hd _ _ _ _ _ R h1
   ·rename_i f' c hv
    rw[hv]
    simp only[V.sh]
    rw[<-b6w]
    exact hd _ _ _ _ _ R h1
   ·exact h1.elim
  |_=>rw[hop]at h1;exact h1.elim
include hp
theorem c4b:OSh σ n HB (evF pg) (evF pg):=fun f a h r h' H R hh=>b9s hp hm R hh
theorem g4d:LSh σ n HB (evL pg) (evL pg):=fun ks c s x s' S hc R hh=>by
  obtain⟨k,hk⟩:=c3o.1 hh
  obtain⟨S',h1,h2⟩:=(f1k hp hm k).2 ks c s x s' S hc R hk
  exact⟨S',c3o.2 ⟨k,h1⟩,h2⟩
theorem d7q {c:a0e} {s:St} {x:Ex} {s' S:St} (hc:c.cst=true) (R:SR σ n HB s S) (h:ev pg c s=some (x,s')):∃ S',ev pg c S=some (x,S')/\SR σ n HB s' S':=
 f0h hm (c4b hm hp) (g4d hm hp) hc R h
theorem c5z (hd:DSh σ n HB dd dd') {c:a0e} {s:St} {x:D} (h:a2d pg dd c s x):∀ {S:St},c.cst=true->SR σ n HB s S->a2d pg dd' c S x:=by
 have tk:∀ {ops:List a0a} {i:Nat},(ops.all fun o=>o.op.cst)=true->((ops.take i).all fun o=>o.op.cst)=true:=fun h=>by
   simp only[List.all_eq_true]at h⊢
   exact fun o ho=>h o (List.mem_of_mem_take ho)
 induction h with
 |reg a1 a2 a3=>
  intro S hc R
  simp only[a0e.cst]at hc
  obtain⟨S',e1,R1⟩:=c1i hm (c4b hm hp) (tk hc) R a2
  refine .reg a1 e1 ?_
  rw[R1.e]
  exact c5u hm hd ((List.all_eq_true.1 hc) _ (List.mem_of_getElem? a1)) R1.h a3
 |draw a1 a2 a3 a4 a5 a6=>
  intro S hc R
  simp only[a0e.cst]at hc
  obtain⟨S',e1,R1⟩:=b5g hm (c4b hm hp) (tk hc) R a4
  refine .draw a1 a2 a3 e1 a5 ?_
  rw[R1.e]
  exact c5u hm hd ((List.all_eq_true.1 hc) _ (List.mem_of_getElem? a2)) R1.h a6
 |drawT a1 a2 a3 a4=>
  intro S hc R
  simp only[a0e.cst]at hc
  obtain⟨S',e1,R1⟩:=b5g hm (c4b hm hp) (tk hc) R a3
  refine .drawT a1 a2 e1 ?_
  rw[R1.e]
  exact c5u hm hd ((List.all_eq_true.1 hc) _ (List.mem_of_getElem? a2)) R1.h a4
 |drawZ Z hz=>
  intro S hc R
  rename_i m ops s d a ta z od cl ε val Hz x
  simp only[a0e.cst]at hc
  have hcst:∀ (i:Nat) (o:a0a),ops[i]? =some o->o.op.cst=true:=fun i o h=>(List.all_eq_true.1 hc) _ (List.mem_of_getElem? h)
  have hz0:Hz false=s.h:=by rw[Z.hz];rfl
  have hz1:Hz true=s.h++[.box z]:=by rw[Z.hz];rfl
  have RZ:HR σ n HB (s.h++[.box z]) (S.h++[.box z]):=by
   have h0:a0f pg.toCx (evF pg) ⟨some ta,.zbox z,none⟩ ⟨s.e,s.h,s.b⟩=some ⟨a9r (some ta) (.ptr s.h.length 0) s.e,s.h++[.box z],s.b⟩:=rfl
   obtain⟨S',e1,R1⟩:=a8j hm (c4b hm hp) (hcst a _ Z.oax) (S:=S) R h0
   have h1:a0f pg.toCx (evF pg) ⟨some ta,.zbox z,none⟩ S=some ⟨a9r (some ta) (.ptr S.h.length 0) S.e,S.h++[.box z],S.b⟩:=rfl
   rw[h1]at e1
   cases e1
   exact R1.h
  refine .drawZ (d:=d) (a:=a) (ta:=ta) (z:=z) (od:=od) (cl:=cl) (ε:=fun i=>shE σ (ε i)) (val:=fun i=>(val i).sh σ) (Hz:=fun y=>if y then S.h++[.box z] else S.h) ⟨Z.ld,Z.la,Z.le,Z.odx,Z.oax,Z.cld,Z.cla,?_,fun _=>rfl,Z.taint,fun i o h1 h2=>?_,Z.pur,fun i o y h1 h2 h3 h4=>?_,?_⟩ fun y=>?_
  ·rw[Z.zero,R.e]
  ·rw[Z.env i o h1 h2]
   cases cl i with
   |true=>simp only[if_true];exact c3b _ _ _
   |false=>rfl
  ·have q:=Z.run i o y h1 h2 h3 h4
   have RH:HR σ n HB (Hz y) (if y then S.h++[.box z] else S.h):=by
    cases y with
    |true=>rw[hz1];exact RZ
    |false=>rw[hz0];exact R.h
   obtain⟨S',e1,R1⟩:=a8j hm (c4b hm hp) (hcst i o h2) (s:=⟨ε i,Hz y,s.b⟩) (S:=⟨shE σ (ε i),if y then S.h++[.box z] else S.h,S.b⟩) ⟨rfl,RH,R.b,R.le⟩ q
   have hh:=c4j (Z.pur i o h1 h2 h3 h4) e1
   rw[e1]
   obtain⟨e',h',b'⟩:=S'
   have r1:=R1.e
   have r3:=R1.b
   simp only at hh r1 r3
   subst hh;subst r1
   rw[r3,R.b]
  ·rw[Z.va,R.h.len];rfl
  ·have RH:HR σ n HB (Hz y) (if y then S.h++[.box z] else S.h):=by
    cases y with
    |true=>rw[hz1];exact RZ
    |false=>rw[hz0];exact R.h
   exact c5u hm hd (hcst d od Z.odx) RH (hz y)
 |seq1 _ ih=>
  intro S hc R
  simp only[a0e.cst,Bool.and_eq_true]at hc
  exact .seq1 (ih hc.1 R)
 |seq2 a _ ih=>
  intro S hc R
  simp only[a0e.cst,Bool.and_eq_true]at hc
  obtain⟨S',e1,R1⟩:=d7q hm hp hc.1 R a
  exact .seq2 e1 (ih hc.2 R1)
 |cond a _ ih=>
  intro S hc R
  rename_i c t a' b' s' x' _
  simp only[a0e.cst,Bool.and_eq_true]at hc
  refine .cond (t:=t) ?_ (ih (by cases t<;>simp[hc.2.1,hc.2.2]) R)
  rw[R.e,a1b hc.1,a]
  rfl
 |block _ ih=>intro S hc R;exact .block (ih hc R)
 |scope _ ih=>intro S hc R;exact .scope (ih hc R)
 |loop1 _ ih=>
  intro S hc R
  exact .loop1 (ih hc ⟨by rw[R.e,c0s],R.h,R.h.len,R.h.le⟩)
 |loop2 a _ ih=>
  intro S hc R
  rename_i ks b' s' s1 x' _
  obtain⟨S1,e1,R1⟩:=d7q hm hp (c:=b') (s:=⟨a2e ks s'.e,s'.h,s'.h.length⟩) (S:=⟨a2e ks S.e,S.h,S.h.length⟩) hc ⟨by rw[R.e,c0s],R.h,R.h.len,R.h.le⟩ a
  refine .loop2 e1 (ih hc ⟨?_,?_,R.b,R.le⟩)
  ·show cut S.h.length (a2e ks S1.e)=_
   rw[R1.e,<-c0s,R.h.len,<-e9g hm]
  ·show HR σ n HB _ (S1.h.take S.h.length)
   rw[R.h.len]
   exact R1.h.take hm R.h.le
theorem f1f {base base':a2v} (hd:DSh σ n HB base base'):∀ k,DSh σ n HB (f8h pg base k) (f8h pg base' k)
 |0=>hd
 |k+1=>fun f a h x H R hh=>by
  rcases hh with hh|⟨vf,h1,h2,h3⟩
  ·exact .inl (hd _ _ _ _ _ R hh)
  ·refine .inr ⟨vf,h1,by rw[b0c];exact h2,?_⟩
   exact c5z hm hp (f1f hd k) h3 (hp.code f vf h1) ⟨by rw[a8e],R,R.len,R.le⟩
theorem c5t {base base':a2v} (hd:DSh σ n HB base base'):DSh σ n HB (a1q pg base) (a1q pg base'):=fun f a h x H R ⟨k,hk⟩=>⟨k,f1f hm hp hd k _ _ _ _ _ R hk⟩
end
theorem g2r {h X:Hp} (h1:a5e h.length h=true):∃ σ:Nat->Nat,(∀ i,i < h.length->σ i=i)/\Mv σ h.length (h++X)/\HR σ h.length (h++X) h (h++X):=by
 let σ:Nat->Nat:=fun i=>if i < h.length then i else i+X.length
 have hσ:∀ i,i < h.length->σ i=i:=fun i hi=>if_pos hi
 have hm:Mv σ h.length (h++X):=by
  constructor
  ·intro i j hij
   show(if i < h.length then i else i+X.length) < (if j < h.length then j else j+X.length)
   split<;>split<;>omega
  ·intro j
   show(if h.length+j < h.length then h.length+j else h.length+j+X.length)=_
   rw[if_neg om,List.length_append];omega
 refine⟨σ,hσ,hm,Nat.le_refl _,?_,fun i o ho=>?_,fun _ _ _=>rfl⟩
 ·show _=(if h.length < h.length then h.length else h.length+X.length)
  rw[if_neg om,List.length_append]
 ·have hi:=(List.getElem?_eq_some_iff.1 ho).1
  rw[hσ i hi,List.getElem?_append_left hi,f4v hσ h1 o (List.mem_of_getElem? ho)];exact ho
theorem e8g {pg:Pg} (hp:b1e pg) {base base':a2v} {f:Nat} {a:List V} {h X:Hp} {x:D} (hd:∀ {σ:Nat->Nat},(∀ i,i < h.length->σ i=i)->Mv σ h.length (h++X)->DSh σ h.length (h++X) base base') (hh:a1q pg base f a h x) (ha:a0z h.length a=true) (h1:a5e h.length h=true):a1q pg base' f a (h++X) x:=by
 obtain⟨σ,h2,h3,h4⟩:=g2r (X:=X) h1
 have:=c5t h3 hp (hd h2 h3) _ _ _ _ _ h4 hh
 rw[b6n h2 a ha]at this
 exact this
end Go.Vm
namespace Go.Vm.Px
open Go.Vm.Lex (TokQ)
open Go.Vm.Pa hiding go
open Go.Vm.Ite
def QB (l:List TokQ) (s:PS) (b:Bool):Ob:= .box [.d (.sl (l.map b2k)),.d (.int .i64 s.at_),.row 1 s.n,.d (.int .i64 s.deep),.d (.bool b)]
section
variable {fx:Nat->Option Obj} {F:Nat->Option a0v} {l:List TokQ} {s s1:PS} {bb:Bool} {X:Hp}
theorem b7s {f:Nat} {a:List V} {s':PS} {b':Bool} {r:V} (h:evF (pgL fx F0) f a [QB l s bb,PR s]=some (r,[QB l s' b',PR s'])) (ha:a0z 2 a=true) (hr:r.und 2=true):evF (pgL fx F) f a (QB l s bb::PR s::X)=some (r,QB l s' b'::PR s'::X):=by
 apply up
 exact e9y (mv fx) h ha rfl rfl rfl hr
theorem a3r (h:okS l s=true):evF (pgL fx F) a6v [.ptr 0 0] (QB l s bb::PR s::X)=some (.d (b2k (now l s)),QB l s bb::PR s::X):=by
 refine b7s ?_ rfl rfl
 have hg:=c8j (a7l h)
 refine a0h (c2u (F:=F0)) rfl rfl rfl ?_
 repeat' (first|refine run ⟨?_⟩|refine b5n hg ?_|fail)
 exact rfl
theorem a5l (h:okS l s=true) {x:S} {b:Bool} (e:isS l s x=b):evF (pgL fx F) a4t [.ptr 0 0,.d (.str x)] (QB l s bb::PR s::X)=some (.d (.bool b),QB l s bb::PR s::X):=by
 refine b7s ?_ rfl rfl
 refine a0h (c3r (F:=F0)) rfl rfl rfl ?_
 subst e
 cases c2:decide ((now l s).k=2)<;>cases c4:decide ((now l s).k=4)<;>unfold isS<;>rw[c2,c4]
 all_goals
  repeat' (first|refine run ⟨?_⟩|refine ca (a3r h) ?_|fail)
  exact rfl
theorem c8n (h:okS l s=true) {b:Bool} (e:decide ((now l s).k=1)=b):evF (pgL fx F) b0z [.ptr 0 0] (QB l s bb::PR s::X)=some (.d (.bool b),QB l s bb::PR s::X):=by
 refine b7s ?_ rfl rfl
 refine a0h (c0c (F:=F0)) rfl rfl rfl ?_
 subst e
 repeat' (first|refine run ⟨?_⟩|refine ca (a3r h) ?_|fail)
 exact rfl
theorem b4r (h:okS l s=true):evF (pgL fx F) b0e [.ptr 0 0] (QB l s bb::PR s::X)=some (.d (b2k (now l s)),QB l (adv s) bb::PR (adv s)::X):=by
 refine b7s ?_ rfl rfl
 refine a0h (b8y (F:=F0)) rfl rfl rfl ?_
 repeat' (first|refine run ⟨?_⟩|refine ca (a3r h) ?_|fail)
 exact rfl
theorem c3f (h:okS l s=true) {x:S} {b:Bool} (e:isS l s x=b):evF (pgL fx F) a3e [.ptr 0 0,.d (.str x)] (QB l s bb::PR s::X)=some (.d (.bool b),QB l (bif b then adv s else s) bb::PR (bif b then adv s else s)::X):=by
 refine b7s ?_ rfl rfl
 refine a0h (b7n (F:=F0)) rfl rfl rfl ?_
 cases b with
 |true=>
  repeat' (first|refine run ⟨?_⟩|refine ca (a5l h e) ?_|fail)
  exact rfl
 |false=>
  repeat' (first|refine run ⟨?_⟩|refine ca (a5l h e) ?_|fail)
  exact rfl
theorem a4p:evF (pgL fx F) a8z [.ptr 0 0] (QB l s bb::PR s::X)=some (.tup [],QB l (down s) bb::PR (down s)::X):=by
 refine b7s ?_ rfl rfl
 refine a0h (a5a (F:=F0)) rfl rfl rfl ?_
 repeat' (first|refine run ⟨?_⟩|fail)
 exact rfl
theorem a3m (h:okS l s=true):evF (pgL fx F) a8m [.ptr 0 0] (QB l s bb::PR s::X)=some (.d (.bool (isS l s [105,102]||isS l s [109,97,116,99,104]||isS l s [123])),QB l s bb::PR s::X):=by
 refine b7s ?_ rfl rfl
 refine a0h (b6r (F:=F0)) rfl rfl rfl ?_
 cases c1:isS l s [105,102]<;>cases c2:isS l s [109,97,116,99,104]<;>cases c3:isS l s [123]
 all_goals
  repeat' (first|refine run ⟨?_⟩|refine ca (a5l h c1) ?_|refine ca (a5l h c2) ?_|refine ca (a5l h c3) ?_|fail)
  exact rfl
end
end Go.Vm.Px
namespace Go.Vm.Px
open Go.Vm.Lex (TokQ)
open Go.Vm.Pa hiding go
open Go.Vm.Ite
def c7z (c f e:Int):D:= .agg [.int .i64 c,.int .i64 f,.int .i64 e]
abbrev b0f:Nat:=68
def e8a (p:Nat):a2v:=fun f a H x=>f=68/\∃ (c:Int) (l:List TokQ) (s:PS) (b:Bool) (r:Nat),a=[.ptr p 0,.d (.int .i64 c)]/\p < r/\H[r]? =some (PR s)/\H[p]? =some (.box [.d (.sl (l.map b2k)),.d (.int .i64 s.at_),.row r s.n,.d (.int .i64 s.deep),.d (.bool b)])/\okS l s=true/\x=c7z c (now l s).f (now l s).e
theorem f6a {σ:Nat->Nat} {n:Nat} {HB:Hp} {p:Nat} (hm:Mv σ n HB):DSh σ n HB (e8a p) (e8a (σ p)):=by
 rintro f a h x H R ⟨rfl,c,l,s,b,r,rfl,h4,h5,h1,h2,h3⟩
 refine⟨rfl,c,l,s,b,σ r,rfl,hm.mono _ _ h4,?_,?_,h2,h3⟩
 ·rw[R.get? hm,h5]
  rfl
 ·rw[R.get? hm,h1]
  rfl
section
variable {fx:Nat->Option Obj} {F:Nat->Option a0v} {l:List TokQ} {s s1:PS} {bb:Bool} {X:Hp} {base:Nat->a2v}
structure b6l (base:Nat->a2v):Prop where
 sh:∀ {σ:Nat->Nat} {n:Nat} {HB:Hp} {p:Nat},Mv σ n HB->DSh σ n HB (base p) (base (σ p))
 fail:∀ p f a H x,e8a p f a H x->base p f a H x
theorem e4y (hF:b1e (pgL fx F)) (hb:b6l base) {f:Nat} {a:List V} {x:D} (h:a1q (pgL fx F) (base 0) f a [QB l s bb,PR s] x) (ha:a0z 2 a=true):a1q (pgL fx F) (base 0) f a (QB l s bb::PR s::X) x:=by
 refine e8g (h:=[QB l s bb,PR s]) hF (fun{σ} h1 h2=>?_) h ha rfl
 have:=hb.sh (p:=0) h2
 rw[h1 0 (by simp)]at this
 exact this
theorem d6j (hF:b1e (pgL fx F)) (hb:b6l base) (h:okS l s=true) (c:Int):a1q (pgL fx F) (base 0) b0f [.ptr 0 0,.d (.int .i64 c)] (QB l s bb::PR s::X) (c7z c (now l s).f (now l s).e):=
 c9x (hb.fail _ _ _ _ _ ⟨rfl,c,l,s,bb,1,rfl,Nat.lt_succ_self 0,rfl,rfl,h,rfl⟩)
theorem g0s (hF:b1e (pgL fx F)) (hb:b6l base) (h:okS l s=true) {x:S} {b:Bool} (e:isS l s x=b):(b=true->evF (pgL fx F) a5x [.ptr 0 0,.d (.str x)] (QB l s bb::PR s::X)=some (.d (b2k (now l s)),QB l (adv s) bb::PR (adv s)::X))/\
 (b=false->a1q (pgL fx F) (base 0) a5x [.ptr 0 0,.d (.str x)] (QB l s bb::PR s::X) (c7z 120 (now l s).f (now l s).e)):=by
 refine⟨fun hbt=>?_,fun hbf=>?_⟩
 ·subst hbt
  refine b7s ?_ rfl rfl
  refine a0h (b0s (F:=F0)) rfl rfl rfl ?_
  repeat' (first|refine run ⟨?_⟩|refine ca (a5l h e) ?_|refine ca (b4r h) ?_|fail)
  exact rfl
 ·subst hbf
  refine e4y hF hb ?_ rfl
  refine e3k (b0s (F:=F)) rfl ?_
  repeat' (first|refine a3a ⟨?_⟩|refine cxq (a5l h e) ?_|refine cxd (d6j hF hb h _) ?_|fail)
  exact rfl
theorem b6t (hF:b1e (pgL fx F)) (hb:b6l base) (h:okS l s=true) {b:Bool} (e:decide ((now l s).k=1)=b):(b=true->evF (pgL fx F) a3s [.ptr 0 0] (QB l s bb::PR s::X)=some (.d (b2k (now l s)),QB l (adv s) bb::PR (adv s)::X))/\
 (b=false->a1q (pgL fx F) (base 0) a3s [.ptr 0 0] (QB l s bb::PR s::X) (c7z 120 (now l s).f (now l s).e)):=by
 refine⟨fun hbt=>?_,fun hbf=>?_⟩
 ·subst hbt
  refine b7s ?_ rfl rfl
  refine a0h (a6z (F:=F0)) rfl rfl rfl ?_
  repeat' (first|refine run ⟨?_⟩|refine ca (c8n h e) ?_|refine ca (b4r h) ?_|fail)
  exact rfl
 ·subst hbf
  refine e4y hF hb ?_ rfl
  refine e3k (a6z (F:=F)) rfl ?_
  repeat' (first|refine a3a ⟨?_⟩|refine cxq (c8n h e) ?_|refine cxd (d6j hF hb h _) ?_|fail)
  exact rfl
end
end Go.Vm.Px
namespace Go.Vm.Px
open Go.Vm.Lex (TokQ)
open Go.Vm.Pa hiding go
open Go.Vm.Ite
def c5i (i f e:Int):D:= .agg [.int .i64 i,.int .i64 f,.int .i64 e]
def c9c (n:N) (f e:Int) (s:PS):PS:={s with n:=s.n+1,ns:=s.ns++[n.D f e]}
section
variable {fx:Nat->Option Obj} {F:Nat->Option a0v} {l:List TokQ} {s s1:PS} {bb:Bool} {X:Hp}
theorem c7s (hn:s.ns.length=s.n) (hr:s.n < 1000000) (n:N) (f0 e0 f e:Int):evF (pgL fx F) a5d [.ptr 0 0,.d (n.D f0 e0),.d (.int .i64 f),.d (.int .i64 e)] (QB l s bb::PR s::X)=some (.d (c5i (w (((s.n+1:Nat):Int) - 1)) f e),QB l (c9c n f e s) bb::PR (c9c n f e s)::X):=by
 refine b7s ?_ rfl rfl
 have hroom:roomy (s.n+1) 72:=by unfold roomy;omega
 refine a0h (b7y (F:=F0)) rfl rfl rfl ?_
 repeat' (first|refine a9j ⟨?_⟩|refine a0r 8 (by decide) (by decide) ?_|refine And.intro ⟨rfl,by decide⟩ ?_|refine And.intro ⟨rfl,hn,hroom⟩ ?_|fail)
 exact rfl
theorem f8q (h:okF l (w (s.at_ - 1))=true):evF (pgL fx F) c2r [.ptr 0 0] (QB l s bb::PR s::X)=some (.d (.int .i64 ((l.getD (w (s.at_ - 1)).toNat default).e:Int)),QB l s bb::PR s::X):=by
 refine b7s ?_ rfl rfl
 have hg:=c8j (g6y h)
 refine a0h (c2d (F:=F0)) rfl rfl rfl ?_
 repeat' (first|refine run ⟨?_⟩|refine b5n hg ?_|fail)
 exact rfl
theorem h2d (h:okF l (w (s.at_ - 1))=true) (hn:s.ns.length=s.n) (hr:s.n < 1000000) (n:N) (f0 e0 f:Int):evF (pgL fx F) a6l [.ptr 0 0,.d (n.D f0 e0),.d (.int .i64 f)] (QB l s bb::PR s::X)=some (.d (c5i (w (((s.n+1:Nat):Int) - 1)) f (l.getD (w (s.at_ - 1)).toNat default).e),QB l (c9c n f (l.getD (w (s.at_ - 1)).toNat default).e s) bb::PR (c9c n f (l.getD (w (s.at_ - 1)).toNat default).e s)::X):=by
 refine b7s ?_ rfl rfl
 refine a0h (c1r (F:=F0)) rfl rfl rfl ?_
 repeat' (first|refine a9j ⟨?_⟩|refine f4m ?_|refine ca (f8q h) ?_|refine ca (c7s hn hr n f0 e0 f _) ?_|fail)
 exact rfl
end
end Go.Vm.Px
namespace Go.Vm.Px
open Go.Vm.Lex (TokQ)
open Go.Vm.Pa hiding go
open Go.Vm.Ite
section
variable {fx:Nat->Option Obj} {F:Nat->Option a0v} {l:List TokQ} {s s1:PS} {bb:Bool} {X:Hp} {base:Nat->a2v}
theorem a9k (hd:decide (100<=s.deep)=false):evF (pgL fx F) a3c [.ptr 0 0,.d (.bool true)] (QB l s bb::PR s::X)=some (.tup [],QB l (a3t s) bb::PR (a3t s)::X):=by
 refine b7s ?_ rfl rfl
 refine a0h (a5c (F:=F0)) rfl rfl rfl ?_
 repeat' (first|refine run ⟨?_⟩|refine a1x hd ?_|fail)
 exact rfl
theorem f8g (hF:b1e (pgL fx F)) (hb:b6l base) (h:okS l s=true):a1q (pgL fx F) (base 0) a3c [.ptr 0 0,.d (.bool false)] (QB l s bb::PR s::X) (c7z 120 (now l s).f (now l s).e):=by
 refine e4y hF hb ?_ rfl
 refine e3k (a5c (F:=F)) rfl ?_
 repeat' (first|refine a3a ⟨?_⟩|refine cxd (d6j hF hb h _) ?_|fail)
 exact rfl
theorem e6v (hF:b1e (pgL fx F)) (hb:b6l base) (h:okS l s=true) (hd:decide (100<=s.deep)=true):a1q (pgL fx F) (base 0) a3c [.ptr 0 0,.d (.bool true)] (QB l s bb::PR s::X) (c7z 121 (now l s).f (now l s).e):=by
 refine e4y hF hb ?_ rfl
 refine e3k (a5c (F:=F)) rfl ?_
 repeat' (first|refine a3a ⟨?_⟩|refine a1r hd ?_|refine cxd (d6j hF hb h _) ?_|fail)
 exact rfl
theorem d7b (h:okS l s=true):evF (pgL fx F) b2d [.ptr 0 0] (QB l s bb::PR s::X)=some (.d (.bool (a1w l 116 s)),QB l s bb::PR s::X):=by
 refine b7s ?_ rfl rfl
 refine a0h (b1w (F:=F0)) rfl rfl rfl ?_
 have hB:a1w l 116 s=(decide ((now l s).k=1)||(isS l s [105,54,52]||(isS l s [98,111,111,108]||(isS l s [40]||(isS l s [38]||isS l s [66,111,120]))))):=by
  simp[a1w,anyS,f8o]
 rw[hB]
 cases c0:decide ((now l s).k=1)with
 |true=>
  repeat' (first|refine run ⟨?_⟩|refine ca (c8n h c0) ?_|fail)
  exact rfl
 |false=>
  cases c1:isS l s [105,54,52] with
  |true=>
   repeat' (first|refine run ⟨?_⟩|refine ca (c8n h c0) ?_|refine ca (a5l h c1) ?_|fail)
   exact rfl
  |false=>
   cases c2:isS l s [98,111,111,108]<;>cases c3:isS l s [40]<;>cases c4:isS l s [38]<;>cases c5:isS l s [66,111,120]
   all_goals
    repeat' (first|refine run ⟨?_⟩|refine ca (c8n h c0) ?_|refine ca (a5l h c1) ?_|refine ca (a5l h c2) ?_|refine ca (a5l h c3) ?_|refine ca (a5l h c4) ?_|refine ca (a5l h c5) ?_|fail)
    exact rfl
end
end Go.Vm.Px
namespace Go.Vm.Px
open Go.Vm.Lex (TokQ)
open Go.Vm.Pa hiding go
open Go.Vm.Ite
def g0n (t:TokQ):Int:=bif !decide (t.k=4) then 0 else bif decide (t.t=[124,124]) then 1 else bif decide (t.t=[38,38]) then 2 else bif decide (t.t=[60]) then 3 else bif decide (t.t=[60,61]) then 3 else bif decide (t.t=[62]) then 3 else bif decide (t.t=[62,61]) then 3 else bif decide (t.t=[61,61]) then 3 else bif decide (t.t=[33,61]) then 3 else bif decide (t.t=[43]) then 4 else bif decide (t.t=[45]) then 4 else bif decide (t.t=[42]) then 5 else bif decide (t.t=[47]) then 5 else bif decide (t.t=[37]) then 5 else 0
section
variable {fx:Nat->Option Obj} {F:Nat->Option a0v} {l:List TokQ} {s s1:PS} {bb:Bool} {X:Hp}
theorem b8d (h:okS l s=true):evF (pgL fx F) c0d [.ptr 0 0] (QB l s bb::PR s::X)=some (.d (.int .i64 (g0n (now l s))),QB l s bb::PR s::X):=by
 refine b7s ?_ rfl rfl
 refine a0h (c0f (F:=F0)) rfl rfl rfl ?_
 have e:= @a3r fx F0 l s bb
 unfold g0n
 cases c0:decide ((now l s).k=4)with
 |false=>
  repeat' (first|refine run ⟨?_⟩|refine ca (a3r h) ?_|refine a1r (by rw[c0];rfl) ?_|fail)
  exact rfl
 |true=>
  cases c1:decide ((now l s).t=[124,124])with
  |true=>
   repeat' (first|refine run ⟨?_⟩|refine ca (a3r h) ?_|refine a1x (by rw[c0];rfl) ?_|fail)
   exact rfl
  |false=>
   cases c2:decide ((now l s).t=[38,38])with
   |true=>
    repeat' (first|refine run ⟨?_⟩|refine ca (a3r h) ?_|refine a1x (by rw[c0];rfl) ?_|fail)
    exact rfl
   |false=>
    cases c3:decide ((now l s).t=[60])with
    |true=>
     repeat' (first|refine run ⟨?_⟩|refine ca (a3r h) ?_|refine a1x (by rw[c0];rfl) ?_|fail)
     exact rfl
    |false=>
     cases c4:decide ((now l s).t=[60,61])with
     |true=>
      repeat' (first|refine run ⟨?_⟩|refine ca (a3r h) ?_|refine a1x (by rw[c0];rfl) ?_|fail)
      exact rfl
     |false=>
      cases c5:decide ((now l s).t=[62])with
      |true=>
       repeat' (first|refine run ⟨?_⟩|refine ca (a3r h) ?_|refine a1x (by rw[c0];rfl) ?_|fail)
       exact rfl
      |false=>
       cases c6:decide ((now l s).t=[62,61])with
       |true=>
        repeat' (first|refine run ⟨?_⟩|refine ca (a3r h) ?_|refine a1x (by rw[c0];rfl) ?_|fail)
        exact rfl
       |false=>
        cases c7:decide ((now l s).t=[61,61])with
        |true=>
         repeat' (first|refine run ⟨?_⟩|refine ca (a3r h) ?_|refine a1x (by rw[c0];rfl) ?_|fail)
         exact rfl
        |false=>
         cases c8:decide ((now l s).t=[33,61])with
         |true=>
          repeat' (first|refine run ⟨?_⟩|refine ca (a3r h) ?_|refine a1x (by rw[c0];rfl) ?_|fail)
          exact rfl
         |false=>
          cases c9:decide ((now l s).t=[43])with
          |true=>
           repeat' (first|refine run ⟨?_⟩|refine ca (a3r h) ?_|refine a1x (by rw[c0];rfl) ?_|fail)
           exact rfl
          |false=>
           cases c10:decide ((now l s).t=[45])with
           |true=>
            repeat' (first|refine run ⟨?_⟩|refine ca (a3r h) ?_|refine a1x (by rw[c0];rfl) ?_|fail)
            exact rfl
           |false=>
            cases c11:decide ((now l s).t=[42])with
            |true=>
             repeat' (first|refine run ⟨?_⟩|refine ca (a3r h) ?_|refine a1x (by rw[c0];rfl) ?_|fail)
             exact rfl
            |false=>
             cases c12:decide ((now l s).t=[47])with
             |true=>
              repeat' (first|refine run ⟨?_⟩|refine ca (a3r h) ?_|refine a1x (by rw[c0];rfl) ?_|fail)
              exact rfl
             |false=>
              cases c13:decide ((now l s).t=[37])with
              |true=>
               repeat' (first|refine run ⟨?_⟩|refine ca (a3r h) ?_|refine a1x (by rw[c0];rfl) ?_|fail)
               exact rfl
              |false=>
               repeat' (first|refine run ⟨?_⟩|refine ca (a3r h) ?_|refine a1x (by rw[c0];rfl) ?_|fail)
               exact rfl
end
end Go.Vm.Px
namespace Go.Vm.Px
open Go.Vm.Lex (TokQ)
open Go.Vm.Pa hiding go
open Go.Vm.Ite
section
variable (l:List TokQ) (s:PS)
def e0t:Bool:=isS l s [105,102]||isS l s [109,97,116,99,104]||isS l s [123]
def d1n:Bool:=bif decide ((now l s).k=1) then true else bif decide ((now l s).k=3) then true else bif decide ((now l s).k=2) then(isS l s [116,114,117,101]||isS l s [102,97,108,115,101]||isS l s [66,111,120]||e0t l s) else bif decide ((now l s).k=4) then(isS l s [40]||isS l s [45]||isS l s [33]||isS l s [42]||isS l s [38]||e0t l s) else false
end
section
variable {fx:Nat->Option Obj} {F:Nat->Option a0v} {l:List TokQ} {s s1:PS} {bb:Bool} {X:Hp}
theorem e4f (h:okS l s=true):evF (pgL fx F) b5j [.ptr 0 0] (QB l s bb::PR s::X)=some (.d (.bool (d1n l s)),QB l s bb::PR s::X):=by
 refine b7s ?_ rfl rfl
 refine a0h (b5w (F:=F0)) rfl rfl rfl ?_
 unfold d1n
 cases c0:decide ((now l s).k=1)with
 |true=>
  repeat' (first|refine run ⟨?_⟩|refine ca (a3r h) ?_|refine ca (a3m h) ?_|fail)
  exact rfl
 |false=>
  cases c1:decide ((now l s).k=3)with
  |true=>
   repeat' (first|refine run ⟨?_⟩|refine ca (a3r h) ?_|refine ca (a3m h) ?_|fail)
   exact rfl
  |false=>
   cases c2:decide ((now l s).k=2)with
   |true=>
    cases d1:isS l s [116,114,117,101] with
    |true=>
     repeat' (first|refine run ⟨?_⟩|refine ca (a3r h) ?_|refine ca (a3m h) ?_|refine ca (a5l h d1) ?_|fail)
     exact rfl
    |false=>
     cases d2:isS l s [102,97,108,115,101] with
     |true=>
      repeat' (first|refine run ⟨?_⟩|refine ca (a3r h) ?_|refine ca (a3m h) ?_|refine ca (a5l h d1) ?_|refine ca (a5l h d2) ?_|fail)
      exact rfl
     |false=>
      cases d3:isS l s [66,111,120] with
      |true=>
       repeat' (first|refine run ⟨?_⟩|refine ca (a3r h) ?_|refine ca (a3m h) ?_|refine ca (a5l h d1) ?_|refine ca (a5l h d2) ?_|refine ca (a5l h d3) ?_|fail)
       exact rfl
      |false=>
       repeat' (first|refine run ⟨?_⟩|refine ca (a3r h) ?_|refine ca (a3m h) ?_|refine ca (a5l h d1) ?_|refine ca (a5l h d2) ?_|refine ca (a5l h d3) ?_|fail)
       exact rfl
   |false=>
    cases c3:decide ((now l s).k=4)with
    |true=>
     cases d1:isS l s [40] with
     |true=>
      repeat' (first|refine run ⟨?_⟩|refine ca (a3r h) ?_|refine ca (a3m h) ?_|refine ca (a5l h d1) ?_|fail)
      exact rfl
     |false=>
      cases d2:isS l s [45] with
      |true=>
       repeat' (first|refine run ⟨?_⟩|refine ca (a3r h) ?_|refine ca (a3m h) ?_|refine ca (a5l h d1) ?_|refine ca (a5l h d2) ?_|fail)
       exact rfl
      |false=>
       cases d3:isS l s [33] with
       |true=>
        repeat' (first|refine run ⟨?_⟩|refine ca (a3r h) ?_|refine ca (a3m h) ?_|refine ca (a5l h d1) ?_|refine ca (a5l h d2) ?_|refine ca (a5l h d3) ?_|fail)
        exact rfl
       |false=>
        cases d4:isS l s [42] with
        |true=>
         repeat' (first|refine run ⟨?_⟩|refine ca (a3r h) ?_|refine ca (a3m h) ?_|refine ca (a5l h d1) ?_|refine ca (a5l h d2) ?_|refine ca (a5l h d3) ?_|refine ca (a5l h d4) ?_|fail)
         exact rfl
        |false=>
         cases d5:isS l s [38] with
         |true=>
          repeat' (first|refine run ⟨?_⟩|refine ca (a3r h) ?_|refine ca (a3m h) ?_|refine ca (a5l h d1) ?_|refine ca (a5l h d2) ?_|refine ca (a5l h d3) ?_|refine ca (a5l h d4) ?_|refine ca (a5l h d5) ?_|fail)
          exact rfl
         |false=>
          repeat' (first|refine run ⟨?_⟩|refine ca (a3r h) ?_|refine ca (a3m h) ?_|refine ca (a5l h d1) ?_|refine ca (a5l h d2) ?_|refine ca (a5l h d3) ?_|refine ca (a5l h d4) ?_|refine ca (a5l h d5) ?_|fail)
          exact rfl
    |false=>
     repeat' (first|refine run ⟨?_⟩|refine ca (a3r h) ?_|refine ca (a3m h) ?_|fail)
     exact rfl
end
end Go.Vm.Px
namespace Go.Vm.Px
open Go.Vm.Lex (TokQ)
open Go.Vm.Pa hiding go
open Go.Vm.Ite
def Says (pg:Pg) (base:a2v) (f:Nat) (a:List V) (H:Hp) (o:Option EX) (k:R->PS->V×Hp):Prop:=match o with
 |some (.ok r s)=>evF pg f a H=some (k r s)
 |some (.bad c f' e)=>a1q pg base f a H (c7z c f' e)
 |none=>True
section
variable {pg:Pg} {base:a2v} {f:Nat} {a:List V} {H:Hp} {o:Option EX} {k:R->PS->V×Hp}
theorem g6g {vf:VFn} (ht:pg.tbl f=some (.code vf)) (hn:a.length=vf.np) (hk:vf.keep=false) (hu:a0z 0 a=false)
 (h:o≠none->b0g 0 a fun e=>WX pg (a1q pg base) H.length vf.body [] e H (e5g vf.res H.length fun v H'=> ∃ r s,o=some (.ok r s)/\k r s=(v,H'.take H.length)) fun x=> ∃ c f e,o=some (.bad c f e)/\x=c7z c f e):Says pg base f a H o k:=by
 cases o with
 |none=>trivial
 |some y=>
  rcases i5a (R:=fun v H2=> ∃ r s,some y=some (EX.ok r s)/\k r s=(v,H2)) ht hn hk hu (h (by simp))with⟨r,H2,h1,r',s',h2,h3⟩|⟨x,h1,c,f',e,h2,h3⟩
  ·cases h2
   show evF pg f a H=some (k r' s')
   rw[h1,h3]
  ·cases h2
   subst h3
   exact h1
end
end Go.Vm.Px
namespace Go.Vm.Pa
open Go.Vm.Lex (TokQ)
section
variable {l:List TokQ}
theorem c6r {s:PS} (h:okS l s=true):0<=s.at_/\s.at_ < l.length:=by simpa [okS] using h
theorem f2e {g g':Q->PS->Option EX} (h:∀ q s y,g q s=some y->g' q s=some y):∀ (p:Pr) (s:PS) (y:EX),a0c l g p s=some y->a0c l g' p s=some y:=by
 intro p
 induction p with
 |ret r=>intro s y e;exact e
 |dead=>intro s y e;exact e
 |take x k ih=>
  intro s y e
  simp only[a0c]at e⊢
  cases c:isS l s x<;>rw[c]at e<;>exact ih _ _ _ e
 |need x k ih=>
  intro s y e
  simp only[a0c]at e⊢
  cases c:isS l s x<;>rw[c]at e
  ·exact e
  ·exact ih _ _ e
 |name k ih=>
  intro s y e
  simp only[a0c]at e⊢
  cases c:decide ((now l s).k=1)<;>rw[c]at e
  ·exact e
  ·exact ih _ _ _ e
 |is x k ih=>intro s y e;exact ih _ _ _ e
 |ok k ih=>intro s y e;exact ih _ _ _ e
 |kind c k ih=>intro s y e;exact ih _ _ _ e
 |text c k ih=>intro s y e;exact ih _ _ _ e
 |val k ih=>intro s y e;exact ih _ _ _ e
 |sign c k ih=>intro s y e;exact ih _ _ _ e
 |into c k ih=>
  intro s y e
  simp only[a0c]at e⊢
  cases c1:a1w l c s<;>rw[c1]at e
  ·exact e
  ·cases c2:decide (100<=s.deep)<;>rw[c2]at e
   ·exact ih _ _ _ e
   ·exact e
 |down k ih=>intro s y e;exact ih _ _ e
 |adv k ih=>
  intro s y e
  simp only[a0c]at e⊢
  cases c:okS l (adv s)<;>rw[c]at e
  ·exact e
  ·exact ih _ _ e
 |node fr n k ih=>
  intro s y e
  simp only[a0c]at e⊢
  cases c:a2y l fr n s with
  |none=>rw[c]at e;cases e
  |some p=>rw[c]at e;exact ih _ _ _ e
 |unit k ih=>
  intro s y e
  simp only[a0c]at e⊢
  cases c:b4v l s with
  |none=>rw[c]at e;cases e
  |some p=>rw[c]at e;exact ih _ _ _ e
 |fail k ih=>intro s y e;exact e
 |pos k ih=>intro s y e;exact ih _ _ _ e
 |call q k ih=>
  intro s y e
  simp only[a0c]at e⊢
  cases c:g q s with
  |none=>rw[c]at e;cases e
  |some z=>
   rw[h _ _ _ c]
   rw[c]at e
   cases z with
   |bad _ _ _=>exact e
   |ok r s1=>
    simp only at e⊢
    cases c2:okS l s1<;>rw[c2]at e
    ·exact e
    ·exact ih _ _ _ e
 |tail q=>intro s y e;exact h _ _ _ e
theorem d2k:∀ (n:Nat) (q:Q) (s:PS) (y:EX),goE l n q s=some y->goE l (n+1) q s=some y
 |0,_,_,_,h=>by cases h
 |n+1,q,s,y,h=>f2e (d2k n) _ _ _ h
theorem a6r {n m:Nat} (hm:n<=m) {q:Q} {s:PS} {y:EX} (h:goE l n q s=some y):goE l m q s=some y:=by
 obtain⟨d,rfl⟩:=Nat.exists_eq_add_of_le hm
 clear hm
 induction d with
 |zero=>exact h
 |succ d ih=>exact d2k _ _ _ _ ih
def a1c:Pr->(R->Pr)->Pr
 | .ret r,k=>k r
 | .dead,_=> .dead
 | .take x f,k=> .take x fun b=>a1c (f b) k
 | .need x f,k=> .need x (a1c f k)
 | .name f,k=> .name fun b=>a1c (f b) k
 | .is x f,k=> .is x fun b=>a1c (f b) k
 | .ok f,k=> .ok fun b=>a1c (f b) k
 | .kind x f,k=> .kind x fun b=>a1c (f b) k
 | .text x f,k=> .text x fun b=>a1c (f b) k
 | .val f,k=> .val fun b=>a1c (f b) k
 | .sign x f,k=> .sign x fun b=>a1c (f b) k
 | .into x f,k=> .into x fun b=>a1c (f b) k
 | .down f,k=> .down (a1c f k)
 | .adv f,k=> .adv (a1c f k)
 | .node fr n f,k=> .node fr n fun b=>a1c (f b) k
 | .unit f,k=> .unit fun b=>a1c (f b) k
 | .fail f,k=> .fail (a1c f k)
 | .pos f,k=> .pos fun b=>a1c (f b) k
 | .call q f,k=> .call q fun b=>a1c (f b) k
 | .tail q,k=> .call q k
def g6k (l:List TokQ) (g:Q->PS->Option EX) (k:R->Pr):Option EX->Option EX
 |some (.ok r s1)=>(match okS l s1 with|true=>a0c l g (k r) s1|false=>none)
 |x=>x
theorem f0z {g:Q->PS->Option EX} {k:R->Pr}:∀ (p:Pr) (s:PS) (y:EX),g6k l g k (a0c l g p s)=some y->a0c l g (a1c p k) s=some y:=by
 intro p
 induction p with
 |ret r=>
  intro s y e
  simp only[a0c,g6k]at e
  cases c:okS l s<;>rw[c]at e
  ·cases e
  ·exact e
 |dead=>intro s y e;exact e
 |take x k ih=>
  intro s y e
  simp only[a0c,a1c]at e⊢
  cases c:isS l s x<;>rw[c]at e<;>exact ih _ _ _ e
 |need x k ih=>
  intro s y e
  simp only[a0c,a1c]at e⊢
  cases c:isS l s x<;>rw[c]at e
  ·exact e
  ·exact ih _ _ e
 |name k ih=>
  intro s y e
  simp only[a0c,a1c]at e⊢
  cases c:decide ((now l s).k=1)<;>rw[c]at e
  ·exact e
  ·exact ih _ _ _ e
 |is x k ih=>intro s y e;exact ih _ _ _ e
 |ok k ih=>intro s y e;exact ih _ _ _ e
 |kind c k ih=>intro s y e;exact ih _ _ _ e
 |text c k ih=>intro s y e;exact ih _ _ _ e
 |val k ih=>intro s y e;exact ih _ _ _ e
 |sign c k ih=>intro s y e;exact ih _ _ _ e
 |into c k ih=>
  intro s y e
  simp only[a0c,a1c]at e⊢
  cases c1:a1w l c s<;>rw[c1]at e
  ·exact e
  ·cases c2:decide (100<=s.deep)<;>rw[c2]at e
   ·exact ih _ _ _ e
   ·exact e
 |down k ih=>intro s y e;exact ih _ _ e
 |adv k ih=>
  intro s y e
  simp only[a0c,a1c]at e⊢
  cases c:okS l (adv s)<;>rw[c]at e
  ·exact e
  ·exact ih _ _ e
 |node fr n k ih=>
  intro s y e
  simp only[a0c,a1c]at e⊢
  cases c:a2y l fr n s with
  |none=>rw[c]at e;cases e
  |some p=>rw[c]at e;exact ih _ _ _ e
 |unit k ih=>
  intro s y e
  simp only[a0c,a1c]at e⊢
  cases c:b4v l s with
  |none=>rw[c]at e;cases e
  |some p=>rw[c]at e;exact ih _ _ _ e
 |fail k ih=>intro s y e;exact e
 |pos k ih=>intro s y e;exact ih _ _ _ e
 |call q k ih=>
  intro s y e
  simp only[a0c,a1c]at e⊢
  cases c:g q s with
  |none=>rw[c]at e;cases e
  |some z=>
   rw[c]at e
   cases z with
   |bad _ _ _=>exact e
   |ok r s1=>
    simp only at e⊢
    cases c2:okS l s1<;>rw[c2]at e
    ·cases e
    ·exact ih _ _ _ e
 |tail q=>
  intro s y e
  simp only[a0c,a1c]at e⊢
  cases c:g q s with
  |none=>rw[c]at e;cases e
  |some z=>rw[c]at e;cases z<;>exact e
theorem e5t {g:Q->PS->Option EX} {k:R->Pr} {y:EX}:∀ (p:Pr) (s:PS),a0c l g (a1c p k) s=some y->(∃ c f e,a0c l g p s=some (.bad c f e)/\y= .bad c f e)\/∃ r s1,a0c l g p s=some (.ok r s1)/\a0c l g (k r) s1=some y:=by
 intro p
 induction p with
 |ret r=>intro s h;exact .inr ⟨_,_,rfl,h⟩
 |dead=>intro s h;cases h
 |take x k ih=>
  intro s h
  simp only[a0c,a1c]at h⊢
  cases c:isS l s x<;>rw[c]at h<;>exact ih _ _ h
 |need x k ih=>
  intro s h
  simp only[a0c,a1c]at h⊢
  cases c:isS l s x<;>rw[c]at h
  ·exact .inl ⟨_,_,_,rfl,(Option.some.inj h).symm⟩
  ·exact ih _ h
 |name k ih=>
  intro s h
  simp only[a0c,a1c]at h⊢
  cases c:decide ((now l s).k=1)<;>rw[c]at h
  ·exact .inl ⟨_,_,_,rfl,(Option.some.inj h).symm⟩
  ·exact ih _ _ h
 |is x k ih=>intro s h;exact ih _ _ h
 |ok k ih=>intro s h;exact ih _ _ h
 |kind c k ih=>intro s h;exact ih _ _ h
 |text c k ih=>intro s h;exact ih _ _ h
 |val k ih=>intro s h;exact ih _ _ h
 |sign c k ih=>intro s h;exact ih _ _ h
 |into c k ih=>
  intro s h
  simp only[a0c,a1c]at h⊢
  cases c1:a1w l c s<;>rw[c1]at h
  ·exact .inl ⟨_,_,_,rfl,(Option.some.inj h).symm⟩
  ·cases c2:decide (100<=s.deep)<;>rw[c2]at h
   ·exact ih _ _ h
   ·exact .inl ⟨_,_,_,rfl,(Option.some.inj h).symm⟩
 |down k ih=>intro s h;exact ih _ h
 |adv k ih=>
  intro s h
  simp only[a0c,a1c]at h⊢
  cases c:okS l (adv s)<;>rw[c]at h
  ·cases h
  ·exact ih _ h
 |node fr n k ih=>
  intro s h
  simp only[a0c,a1c]at h⊢
  cases c:a2y l fr n s with
  |none=>rw[c]at h;cases h
  |some p=>rw[c]at h;exact ih _ _ h
 |unit k ih=>
  intro s h
  simp only[a0c,a1c]at h⊢
  cases c:b4v l s with
  |none=>rw[c]at h;cases h
  |some p=>rw[c]at h;exact ih _ _ h
 |fail k ih=>intro s h;exact .inl ⟨_,_,_,rfl,(Option.some.inj h).symm⟩
 |pos k ih=>intro s h;exact ih _ _ h
 |call q k ih=>
  intro s h
  simp only[a0c,a1c]at h⊢
  cases c:g q s with
  |none=>rw[c]at h;cases h
  |some z=>
   rw[c]at h
   cases z with
   |bad _ _ _=>exact .inl ⟨_,_,_,rfl,(Option.some.inj h).symm⟩
   |ok r s1=>
    simp only at h⊢
    cases c2:okS l s1<;>rw[c2]at h
    ·cases h
    ·exact ih _ _ h
 |tail q=>
  intro s h
  simp only[a0c,a1c]at h⊢
  cases c:g q s with
  |none=>rw[c]at h;cases h
  |some z=>
   rw[c]at h
   cases z with
   |bad _ _ _=>exact .inl ⟨_,_,_,rfl,(Option.some.inj h).symm⟩
   |ok r s1=>
    simp only at h
    split at h
    ·exact .inr ⟨_,_,rfl,h⟩
    ·cases h
theorem g3r {n:Nat} {q:Q} {k:R->Pr} {s:PS} {y:EX} (h:a0c l (goE l n) (.call q k) s=some y):a0c l (goE l n) (a1c (prog q) k) s=some y:=by
 apply f0z
 have e:a0c l (goE l n) (.call q k) s=g6k l (goE l n) k (goE l n q s):=by
  simp only[a0c]
  cases c:goE l n q s with
  |none=>rfl
  |some z=>cases z<;>rfl
 rw[e]at h
 cases c:goE l n q s with
 |none=>rw[c]at h;cases h
 |some z=>rw[c]at h;rw[show a0c l (goE l n) (prog q) s=some z from d2k _ _ _ _ c];exact h
def Eat (e:Q->Bool):Pr->Prop
 | .ret _=>False
 | .dead=>True
 | .take _ k=>Eat e (k false)
 | .need _ _=>True
 | .name _=>True
 | .is _ k=> ∀ b,Eat e (k b)
 | .ok k=>Eat e (k true)
 | .kind _ k=> ∀ b,Eat e (k b)
 | .text _ k=> ∀ b,Eat e (k b)
 | .val k=> ∀ v,Eat e (k v)
 | .sign _ k=> ∀ g,Eat e (k g)
 | .into _ k=>Eat e (k true)
 | .down k=>Eat e k
 | .adv _=>True
 | .node _ _ k=> ∀ i,Eat e (k i)
 | .unit k=> ∀ i,Eat e (k i)
 | .fail _=>True
 | .pos k=> ∀ p,Eat e (k p)
 | .call q k=>e q=true\/∀ r,Eat e (k r)
 | .tail q=>e q=true
def eats:Q->Bool
 | .params _ _| .fields _ _| .items _| .stmts _| .arms _| .rows _ _ _ _| .gets _ _| .args _| .inits _=>false
 |_=>true
theorem f7z:∀ q,eats q=true->Eat eats (prog q):=by
 intro q h
 cases q<;>first|(cases h;done)|skip
 case row r bare=>
  have e:∀ b:Bool,Eat eats (match b with
    |true=>Pr.call (Q.prefix_ bare) Pr.ret
    |false=>Pr.pos fun p=>Pr.call (Q.row (w (r+1)) bare) fun a=>Pr.call (Q.rows r bare p a.i) fun a=>Pr.ret (rI a.i)):=by
    intro b;cases b<;>simp[Eat,eats]
  exact e _
 case named fr bare=>
  simp[prog,Eat]
 all_goals simp[prog,Eat,eats,e0g,g4k,newP,mkP,endP,guard]
def e6r:List S:=[[40],[45],[33],[42],[38],[124,124],[38,38],[60],[60,61],[62],[62,61],[61,61],[33,61],[43],[47],[37]]
structure LOk (l:List TokQ):Prop where
 len:l.length<=1000000
 txt:∀ i,(l.getD i default).t.length<=1000000
 last:∀ i,i < l.length->(l.getD i default).k≠5->i+1 < l.length
 nm:∀ i,(l.getD i default).k=1->(l.getD i default).t∉f8o
 wd:∀ i,(l.getD i default).k=2->(l.getD i default).t∉e6r
 sg:∀ i,(l.getD i default).k=4->(l.getD i default).t∉ [[116,114,117,101],[102,97,108,115,101],[66,111,120]]
theorem a3o {s:PS} (hl:LOk l) (h:okS l s=true) (hk:(now l s).k≠5):okS l (adv s)=true:=by
 have hr:=c6r h
 have:=hl.last s.at_.toNat om hk
 have hlen:=hl.len
 have hw:(adv s).at_=s.at_+1:=a3z (n:=s.at_+1) om
 unfold okS
 rw[hw]
 simp only[Bool.and_eq_true,decide_eq_true_eq]
 omega
theorem f5s {s:PS} {x:S} (h:isS l s x=true):(now l s).k=2\/(now l s).k=4:=by
 unfold isS at h
 simp only[Bool.and_eq_true,Bool.or_eq_true,decide_eq_true_eq]at h
 exact h.1
theorem e0k {s:PS} {x:S} (h:isS l s x=true):(now l s).t=x:=by
 unfold isS at h
 simp only[Bool.and_eq_true,Bool.or_eq_true,decide_eq_true_eq]at h
 exact h.2
theorem b9l {s:PS} {x:S} (h:isS l s x=true):(now l s).k≠5:=by have:=f5s h;omega
theorem d0c {s:PS} (hl:LOk l) (h:okS l s=true):(adv s).at_=s.at_+1:=by
 have hr:=c6r h
 have hlen:=hl.len
 exact a3z (n:=s.at_+1) om
theorem g1b {s:PS} (h0:0<=s.at_) (h:(now l s).k≠0):s.at_ < l.length:=by
 by_cases c:s.at_ < l.length
 ·exact c
 ·have:now l s=default:=by
   unfold now
   rw[List.getD_eq_getElem?_getD,List.getElem?_eq_none om];rfl
  rw[this]at h
  exact absurd rfl h
theorem g1p {s:PS} (hl:LOk l) (h0:0<=s.at_) (h:s.at_<=l.length):(adv s).at_=s.at_+1:=by
 have hlen:=hl.len
 exact a3z (n:=s.at_+1) om
def c2w (s s':PS):Prop:=s'.bc=s.bc/\s'.bf=s.bf/\s'.be=s.be
def Zf (s:PS):Prop:=s.bc=0/\s.bf=0/\s.be=0
theorem c2w.rfl' {s:PS}:c2w s s:=⟨rfl,rfl,rfl⟩
theorem c2w.trans {s s1 s2:PS} (h:c2w s s1) (h':c2w s1 s2):c2w s s2:=⟨h'.1.trans h.1,h'.2.1.trans h.2.1,h'.2.2.trans h.2.2⟩
theorem c2w.zf {s s1:PS} (h:c2w s s1) (hz:Zf s):Zf s1:=⟨h.1.trans hz.1,h.2.1.trans hz.2.1,h.2.2.trans hz.2.2⟩
theorem g2x {fr:Int} {m:N} {i:Int} {s s1:PS} (e:a2y l fr m s=some (i,s1)):s1.at_=s.at_/\c2w s s1:=by
 unfold a2y at e
 split at e
 ·cases e;exact⟨rfl,c2w.rfl'⟩
 ·cases e
theorem g2z {i:Int} {s s1:PS} (e:b4v l s=some (i,s1)):s1.at_=s.at_/\c2w s s1:=by
 unfold b4v at e
 split at e
 ·cases e;exact⟨rfl,c2w.rfl'⟩
 ·cases e
structure Fol (l:List TokQ) (s s':PS):Prop where
 le:s.at_<=s'.at_
 len:s'.at_<=l.length
 bc:c2w s s'
 ok:okS l s=true->okS l s'=true
theorem f4i (hl:LOk l) {g:Q->PS->Option EX} (hg:∀ (q:Q) (s:PS) (r:R) (s':PS),0<=s.at_->s.at_<=l.length->g q s=some (.ok r s')->Fol l s s'/\(eats q=true->s.at_ < s'.at_)):
 ∀ (p:Pr) (s:PS) (r:R) (s':PS),0<=s.at_->s.at_<=l.length->a0c l g p s=some (.ok r s')->Fol l s s'/\(Eat eats p->s.at_ < s'.at_):=by
 intro p
 have stepA:∀ {k:Pr} {s:PS} {r:R} {s':PS},(∀ (s:PS) (r:R) (s':PS),0<=s.at_->s.at_<=l.length->a0c l g k s=some (.ok r s')->Fol l s s'/\(Eat eats k->s.at_ < s'.at_))->0<=s.at_->s.at_ < l.length->(okS l s=true->okS l (adv s)=true)->a0c l g k (adv s)=some (.ok r s')->Fol l s s'/\s.at_ < s'.at_:=by
  intro k s r s' ih h0 h1 hk h
  have e:=g1p hl h0 om
  have:=ih (adv s) r s' om om h
  have h2:=this.1.le
  exact⟨⟨om,this.1.len,this.1.bc,fun ho=>this.1.ok (hk ho)⟩,om⟩
 have isl:∀ {s:PS} {x:S},0<=s.at_->isS l s x=true->s.at_ < l.length:=fun h0 c=>g1b h0 (by have:=f5s c;omega)
 have same:∀ {P P':Prop} {s s1 s':PS},s1.at_=s.at_->c2w s s1->(Fol l s1 s'/\(P->s1.at_ < s'.at_))->(P'->P)->(Fol l s s'/\(P'->s.at_ < s'.at_)):=by
  intro P P' s s1 s' e1 e2 h hp
  exact⟨⟨by rw[<-e1];exact h.1.le,h.1.len,e2.trans h.1.bc,fun ho=>h.1.ok (by unfold okS at ho⊢;rw[e1];exact ho)⟩,fun hh=>by rw[<-e1];exact h.2 (hp hh)⟩
 induction p with
 |ret r=>intro s r s' h0 h1 h;cases h;exact⟨⟨Int.le_refl _,h1,c2w.rfl',fun h=>h⟩,fun h=>h.elim⟩
 |dead=>intro s r s' h0 h1 h;cases h
 |take x k ih=>
  intro s r s' h0 h1 h
  simp only[a0c]at h
  cases c:isS l s x with
  |true=>rw[c]at h;have:=stepA (ih true) h0 (isl h0 c) (fun ho=>a3o hl ho (b9l c)) h;exact⟨this.1,fun _=>this.2⟩
  |false=>rw[c]at h;exact ih _ _ _ _ h0 h1 h
 |need x k ih=>
  intro s r s' h0 h1 h
  simp only[a0c]at h
  cases c:isS l s x with
  |true=>rw[c]at h;have:=stepA ih h0 (isl h0 c) (fun ho=>a3o hl ho (b9l c)) h;exact⟨this.1,fun _=>this.2⟩
  |false=>rw[c]at h;cases h
 |name k ih=>
  intro s r s' h0 h1 h
  simp only[a0c]at h
  cases c:decide ((now l s).k=1)with
  |true=>rw[c]at h;have:=stepA (ih _) h0 (g1b h0 (by have:=of_decide_eq_true c;omega)) (fun ho=>a3o hl ho (by have:=of_decide_eq_true c;omega)) h;exact⟨this.1,fun _=>this.2⟩
  |false=>rw[c]at h;cases h
 |is x k ih=>intro s r s' h0 h1 h;exact same rfl c2w.rfl' (ih _ s _ _ h0 h1 h) fun h=>h _
 |ok k ih=>intro s r s' h0 h1 h;exact ih _ _ _ _ h0 h1 h
 |kind c k ih=>intro s r s' h0 h1 h;exact same rfl c2w.rfl' (ih _ s _ _ h0 h1 h) fun h=>h _
 |text c k ih=>intro s r s' h0 h1 h;exact same rfl c2w.rfl' (ih _ s _ _ h0 h1 h) fun h=>h _
 |val k ih=>intro s r s' h0 h1 h;exact same rfl c2w.rfl' (ih _ s _ _ h0 h1 h) fun h=>h _
 |sign c k ih=>intro s r s' h0 h1 h;exact same rfl c2w.rfl' (ih _ s _ _ h0 h1 h) fun h=>h _
 |into c k ih=>
  intro s r s' h0 h1 h
  simp only[a0c]at h
  split at h
  ·split at h
   ·cases h
   ·exact same (s1:=a3t s) rfl c2w.rfl' (ih _ (a3t s) _ _ h0 h1 h) fun h=>h
  ·cases h
 |down k ih=>intro s r s' h0 h1 h;exact same (s1:=down s) rfl c2w.rfl' (ih (down s) _ _ h0 h1 h) fun h=>h
 |adv k ih=>
  intro s r s' h0 h1 h
  simp only[a0c]at h
  split at h
  ·rename_i c
   have:=c6r c
   have e:=g1p hl h0 h1
   have:=stepA ih h0 om (fun _=>c) h
   exact⟨this.1,fun _=>this.2⟩
  ·cases h
 |node fr n k ih=>
  intro s r s' h0 h1 h
  simp only[a0c]at h
  split at h
  ·rename_i i s1 c
   have e:=g2x c
   exact same e.1 e.2 (ih _ s1 _ _ om om h) fun h=>h _
  ·cases h
 |unit k ih=>
  intro s r s' h0 h1 h
  simp only[a0c]at h
  split at h
  ·rename_i i s1 c
   have e:=g2z c
   exact same e.1 e.2 (ih _ s1 _ _ om om h) fun h=>h _
  ·cases h
 |fail k ih=>intro s r s' h0 h1 h;cases h
 |pos k ih=>intro s r s' h0 h1 h;exact same rfl c2w.rfl' (ih _ s _ _ h0 h1 h) fun h=>h _
 |call q k ih=>
  intro s r s' h0 h1 h
  simp only[a0c]at h
  cases c:g q s with
  |none=>rw[c]at h;cases h
  |some y=>
   rw[c]at h
   cases y with
   |bad _ _ _=>cases h
   |ok a s1=>
    simp only at h
    split at h
    ·have e:=hg _ _ _ _ h0 h1 c
     have e1:=e.1.le
     have e2:=e.1.len
     have:=ih _ s1 _ _ om om h
     have e3:=this.1.le
     refine⟨⟨om,this.1.len,e.1.bc.trans this.1.bc,fun ho=>this.1.ok (e.1.ok ho)⟩,fun hh=>?_⟩
     rcases hh with hh|hh
     ·have:=e.2 hh;omega
     ·have:=this.2 (hh _);omega
    ·cases h
 |tail q=>intro s r s' h0 h1 h;exact hg _ _ _ _ h0 h1 h
theorem c9y (hl:LOk l):∀ (n:Nat) (q:Q) (s:PS) (r:R) (s':PS),0<=s.at_->s.at_<=l.length->goE l n q s=some (.ok r s')->Fol l s s'/\(eats q=true->s.at_ < s'.at_)
 |0,_,_,_,_,_,_,h=>by cases h
 |n+1,q,s,r,s',h0,h1,h=>by
  have:=f4i hl (c9y hl n) _ _ _ _ h0 h1 h
  exact⟨this.1,fun hq=>this.2 (f7z q hq)⟩
end
end Go.Vm.Pa
namespace Go.Vm.Px
open Go.Vm.Lex (TokQ)
open Go.Vm.Pa hiding go
open Go.Vm.Ite
structure At (l:List TokQ) (b:Bool) (p:Int) (s:PS):Prop where
 ok:okS l s=true
 lo:0<=p
 le:p<=s.at_
 lt:b=true->p < s.at_
 bc:Zf s
def d0b (o:Option EX) (x:D):Prop:=∃ c f e,o=some (.bad c f e)/\x=c7z c f e
def b3s (l:List TokQ) (s:PS) (r:R) (s':PS):D:=c5i r.i (l.getD s.at_.toNat default).f (l.getD (w (s'.at_ - 1)).toNat default).e
def isB (k:Bool->Pr):Pr:= .is [105,102] fun a=> .is [109,97,116,99,104] fun b=> .is [123] fun c=>k (a||b||c)
section
variable {l:List TokQ} {s s1:PS} {b:Bool} {p:Int}
theorem At.start (h:okS l s=true) (hb:Zf s):At l false s.at_ s:=⟨h,(a7l h).1,Int.le_refl _,by simp,hb⟩
theorem At.d2i (hl:LOk l) (A:At l b p s) (h:okS l (adv s)=true):At l true p (adv s):=by
 have e:=d0c hl A.ok
 have h1:=A.le
 exact⟨h,A.lo,om,fun _=>om,A.bc⟩
theorem At.adv (hl:LOk l) (A:At l b p s) (h:(now l s).k≠5):At l true p (adv s):=A.d2i hl (a3o hl A.ok h)
theorem At.down (A:At l b p s):At l b p (down s):=⟨A.ok,A.lo,A.le,A.lt,A.bc⟩
theorem At.into (A:At l b p s):At l b p (a3t s):=⟨A.ok,A.lo,A.le,A.lt,A.bc⟩
theorem At.same (A:At l b p s) (h1:s1.at_=s.at_) (h2:c2w s s1):At l b p s1:=⟨by have:=A.ok;unfold okS at this⊢;rw[h1];exact this,A.lo,by rw[h1];exact A.le,by rw[h1];exact A.lt,h2.zf A.bc⟩
theorem At.call {n:Nat} {q:Q} {r:R} (hl:LOk l) (A:At l b p s) (h:goE l n q s=some (.ok r s1)) (h2:okS l s1=true):At l (b||eats q) p s1:=by
 have hr:=a7l A.ok
 have:=c9y hl n q s r s1 hr.1 om h
 have h3:=this.1.le
 have h4:=A.le
 refine⟨h2,A.lo,om,fun hb=>?_,this.1.bc.zf A.bc⟩
 rcases Bool.or_eq_true_iff.1 hb with hb|hb
 ·have:=A.lt hb;omega
 ·have:=this.2 hb;omega
end
structure Wk (fx:Nat->Option Obj) (F:Nat->Option a0v) (base:Nat->a2v) (l:List TokQ):Prop where
 hF:b1e (pgL fx F)
 hb:b6l base
 hl:LOk l
section
variable {fx:Nat->Option Obj} {F:Nat->Option a0v} {l:List TokQ} {s s1:PS} {bb:Bool} {X:Hp} {base:Nat->a2v} {n:Nat} {b:Bool} {p:Int} {g:Q->PS->Option EX} {o:Option EX} {K:V->Hp->Prop}
theorem a1f (W:Wk fx F base l) (A:At l b p s) {x:S} {k:Pr} (E:a0c l g (.need x k) s=o)
 (h:At l true p (adv s)->a0c l g k (adv s)=o->K (.d (b2k (now l s))) (QB l (adv s) bb::PR (adv s)::X)):
 a4h (pgL fx F) (a1q (pgL fx F) (base 0)) a5x [.ptr 0 0,.d (.str x)] (QB l s bb::PR s::X) K (d0b o):=by
 simp only[a0c]at E
 cases c:isS l s x with
 |true=>rw[c]at E;exact cxq ((g0s W.hF W.hb A.ok c).1 rfl) (h (A.adv W.hl (b9l c)) E)
 |false=>rw[c]at E;exact cxd ((g0s W.hF W.hb A.ok c).2 rfl) ⟨_,_,_,E.symm,rfl⟩
theorem a0d (W:Wk fx F base l) (A:At l b p s) {k:S->Pr} (E:a0c l g (.name k) s=o)
 (h:At l true p (adv s)->a0c l g (k (now l s).t) (adv s)=o->K (.d (b2k (now l s))) (QB l (adv s) bb::PR (adv s)::X)):
 a4h (pgL fx F) (a1q (pgL fx F) (base 0)) a3s [.ptr 0 0] (QB l s bb::PR s::X) K (d0b o):=by
 simp only[a0c]at E
 cases c:decide ((now l s).k=1)with
 |true=>rw[c]at E;exact cxq ((b6t W.hF W.hb A.ok c).1 rfl) (h (A.adv W.hl (by have:=of_decide_eq_true c;omega)) E)
 |false=>rw[c]at E;exact cxd ((b6t W.hF W.hb A.ok c).2 rfl) ⟨_,_,_,E.symm,rfl⟩
theorem a0o (W:Wk fx F base l) (A:At l b p s) {D:Go.Vm.D->Prop} {x:S} {k:Bool->Pr} (E:a0c l g (.take x k) s=o)
 (h1:At l true p (adv s)->a0c l g (k true) (adv s)=o->K (.d (.bool true)) (QB l (adv s) bb::PR (adv s)::X))
 (h2:At l b p s->a0c l g (k false) s=o->K (.d (.bool false)) (QB l s bb::PR s::X)):
 a4h (pgL fx F) (a1q (pgL fx F) (base 0)) a3e [.ptr 0 0,.d (.str x)] (QB l s bb::PR s::X) K D:=by
 simp only[a0c]at E
 cases c:isS l s x with
 |true=>rw[c]at E;exact cxq (c3f A.ok c) (h1 (A.adv W.hl (b9l c)) E)
 |false=>rw[c]at E;exact cxq (c3f A.ok c) (h2 A E)
theorem a7x (A:At l b p s) {D:Go.Vm.D->Prop} {x:S} {k:Bool->Pr} (E:a0c l g (.is x k) s=o)
 (h1:isS l s x=true->a0c l g (k true) s=o->K (.d (.bool true)) (QB l s bb::PR s::X))
 (h2:isS l s x=false->a0c l g (k false) s=o->K (.d (.bool false)) (QB l s bb::PR s::X)):
 a4h (pgL fx F) (a1q (pgL fx F) (base 0)) a4t [.ptr 0 0,.d (.str x)] (QB l s bb::PR s::X) K D:=by
 simp only[a0c]at E
 cases c:isS l s x with
 |true=>rw[c]at E;exact cxq (a5l A.ok c) (h1 c E)
 |false=>rw[c]at E;exact cxq (a5l A.ok c) (h2 c E)
theorem a0g (W:Wk fx F base l) (A:At l b p s) {D:Go.Vm.D->Prop} {x:S} {k:Bool->Pr} (E:a0c l g (.take x k) s=o)
 (h1:At l true p (adv s)->a0c l g (k true) (adv s)=o->K (.d (.bool true)) (QB l s bb::PR s::X))
 (h2:At l b p s->a0c l g (k false) s=o->K (.d (.bool false)) (QB l s bb::PR s::X)):
 a4h (pgL fx F) (a1q (pgL fx F) (base 0)) a4t [.ptr 0 0,.d (.str x)] (QB l s bb::PR s::X) K D:=by
 simp only[a0c]at E
 cases c:isS l s x with
 |true=>rw[c]at E;exact cxq (a5l A.ok c) (h1 (A.adv W.hl (b9l c)) E)
 |false=>rw[c]at E;exact cxq (a5l A.ok c) (h2 A E)
theorem a1i (A:At l b p s) {D:Go.Vm.D->Prop} {k:Bool->Pr} (E:a0c l g (.kind 1 k) s=o)
 (h1:(now l s).k=1->a0c l g (k true) s=o->K (.d (.bool true)) (QB l s bb::PR s::X))
 (h2:(now l s).k≠1->a0c l g (k false) s=o->K (.d (.bool false)) (QB l s bb::PR s::X)):
 a4h (pgL fx F) (a1q (pgL fx F) (base 0)) b0z [.ptr 0 0] (QB l s bb::PR s::X) K D:=by
 simp only[a0c]at E
 cases c:decide ((now l s).k=1)with
 |true=>rw[c]at E;exact cxq (c8n A.ok c) (h1 (of_decide_eq_true c) E)
 |false=>rw[c]at E;exact cxq (c8n A.ok c) (h2 (of_decide_eq_false c) E)
theorem a0l (A:At l b p s) {D:Go.Vm.D->Prop} {k:Bool->Pr} (E:a0c l g (isB k) s=o)
 (h1:a0c l g (k true) s=o->K (.d (.bool true)) (QB l s bb::PR s::X))
 (h2:a0c l g (k false) s=o->K (.d (.bool false)) (QB l s bb::PR s::X)):
 a4h (pgL fx F) (a1q (pgL fx F) (base 0)) a8m [.ptr 0 0] (QB l s bb::PR s::X) K D:=by
 simp only[a0c,isB]at E
 cases c:(isS l s [105,102]||isS l s [109,97,116,99,104]||isS l s [123])with
 |true=>rw[c]at E;exact cxq ((a3m A.ok).trans (by rw[c])) (h1 E)
 |false=>rw[c]at E;exact cxq ((a3m A.ok).trans (by rw[c])) (h2 E)
theorem a2k (A:At l b p s) {D:Go.Vm.D->Prop} (h:K (.d (b2k (now l s))) (QB l s bb::PR s::X)):
 a4h (pgL fx F) (a1q (pgL fx F) (base 0)) a6v [.ptr 0 0] (QB l s bb::PR s::X) K D:=cxq (a3r A.ok) h
theorem a1h (W:Wk fx F base l) (A:At l b p s) {D:Go.Vm.D->Prop} {k:Pr} (E:a0c l g (.adv k) s=o) (N:o≠none)
 (h:At l true p (adv s)->a0c l g k (adv s)=o->K (.d (b2k (now l s))) (QB l (adv s) bb::PR (adv s)::X)):
 a4h (pgL fx F) (a1q (pgL fx F) (base 0)) b0e [.ptr 0 0] (QB l s bb::PR s::X) K D:=by
 simp only[a0c]at E
 cases c:okS l (adv s)with
 |true=>rw[c]at E;exact cxq (b4r A.ok) (h (A.d2i W.hl c) E)
 |false=>rw[c]at E;exact absurd E.symm N
theorem a1j (W:Wk fx F base l) (A:At l b p s) {k:Pr} (E:a0c l g (.fail k) s=o):
 a4h (pgL fx F) (a1q (pgL fx F) (base 0)) b0f [.ptr 0 0,.d (.int .i64 120)] (QB l s bb::PR s::X) K (d0b o):=
 cxd (d6j W.hF W.hb A.ok 120) ⟨_,_,_,E.symm,rfl⟩
theorem a8u (W:Wk fx F base l) (A:At l b p s) {c:Int} {t:Bool} (ht:t=a1w l c s) {k:Bool->Pr} (E:a0c l g (.into c k) s=o)
 (h:a1w l c s=true->At l b p (a3t s)->a0c l g (k true) (a3t s)=o->K (.tup []) (QB l (a3t s) bb::PR (a3t s)::X)):
 a4h (pgL fx F) (a1q (pgL fx F) (base 0)) a3c [.ptr 0 0,.d (.bool t)] (QB l s bb::PR s::X) K (d0b o):=by
 subst ht
 simp only[a0c]at E
 cases c1:a1w l c s with
 |false=>rw[c1]at E;exact cxd (f8g W.hF W.hb A.ok) ⟨_,_,_,E.symm,rfl⟩
 |true=>
  rw[c1]at E
  simp only at E
  cases c2:decide (100<=s.deep)with
  |true=>rw[c2]at E;exact cxd (e6v W.hF W.hb A.ok c2) ⟨_,_,_,E.symm,rfl⟩
  |false=>rw[c2]at E;exact cxq (a9k c2) (h c1 A.into E)
theorem g7n (A:At l b p s) {D:Go.Vm.D->Prop} {k:Pr} (E:a0c l g (.down k) s=o)
 (h:At l b p (down s)->a0c l g k (down s)=o->K (.tup []) (QB l (down s) bb::PR (down s)::X)):
 a4h (pgL fx F) (a1q (pgL fx F) (base 0)) a8z [.ptr 0 0] (QB l s bb::PR s::X) K D:=cxq a4p (h A.down E)
theorem b6s {fr:Int} {m:N} {i:Int} (e:a2y l fr m s=some (i,s1)) (hlt:fr < s.at_):
 okF l (w (s.at_ - 1))=true/\s.ns.length=s.n/\s.n < 1000000/\i=w (((s.n+1:Nat):Int) - 1)/\s1=c9c m (l.getD fr.toNat default).f (l.getD (w (s.at_ - 1)).toNat default).e s:=by
 unfold a2y at e
 split at e
 ·rename_i hg
  obtain⟨hn,hn2,_,ha⟩:=hg
  simp only[Option.some.injEq,Prod.mk.injEq]at e
  obtain⟨rfl,rfl⟩:=e
  exact⟨ha hlt,hn,hn2,rfl,by unfold c9c;first|rfl|rw[if_pos hlt]⟩
 ·cases e
theorem a2g (A:At l true p s) {D:Go.Vm.D->Prop} {m:N} {k:Int->Pr} (E:a0c l g (.node p m k) s=o) (N:o≠none) {Y:Go.Vm.D} (hY:Y=m.D 0 0) {f:Int} (hf:f=(l.getD p.toNat default).f)
 (h:∀ i s1,a0c l g (k i) s1=o->s1.at_=s.at_->At l true p s1->K (.d (c5i i f (l.getD (w (s1.at_ - 1)).toNat default).e)) (QB l s1 bb::PR s1::X)):
 a4h (pgL fx F) (a1q (pgL fx F) (base 0)) a6l [.ptr 0 0,.d Y,.d (.int .i64 f)] (QB l s bb::PR s::X) K D:=by
 subst hY;subst hf
 simp only[a0c]at E
 cases c:a2y l p m s with
 |none=>rw[c]at E;exact absurd E.symm N
 |some q=>
  obtain⟨i,s1⟩:=q
  rw[c]at E
  obtain⟨ha,hn,hn2,rfl,rfl⟩:=b6s c (A.lt rfl)
  refine cxq (h2d ha hn hn2 m 0 0 _) ?_
  have:=h _ _ E rfl (A.same rfl c2w.rfl')
  exact this
theorem a0n (A:At l true p s) {D:Go.Vm.D->Prop} {m:N} {k:Int->Pr} (E:a0c l g (.node p m k) s=o) (N:o≠none) {Y:Go.Vm.D} (hY:Y=m.D 0 0) {f e:Int} (hf:f=(l.getD p.toNat default).f) (he:e=(l.getD (w (s.at_ - 1)).toNat default).e)
 (h:∀ i s1,a0c l g (k i) s1=o->s1.at_=s.at_->At l true p s1->K (.d (c5i i f (l.getD (w (s1.at_ - 1)).toNat default).e)) (QB l s1 bb::PR s1::X)):
 a4h (pgL fx F) (a1q (pgL fx F) (base 0)) a5d [.ptr 0 0,.d Y,.d (.int .i64 f),.d (.int .i64 e)] (QB l s bb::PR s::X) K D:=by
 subst hY;subst hf;subst he
 simp only[a0c]at E
 cases c:a2y l p m s with
 |none=>rw[c]at E;exact absurd E.symm N
 |some q=>
  obtain⟨i,s1⟩:=q
  rw[c]at E
  obtain⟨ha,hn,hn2,rfl,rfl⟩:=b6s c (A.lt rfl)
  refine cxq (c7s hn hn2 m 0 0 _ _) ?_
  have:=h _ _ E rfl (A.same rfl c2w.rfl')
  exact this
abbrev leftV (l:List TokQ) (bb:Bool) (X:Hp) (v:R->PS->V) (r:R) (s:PS):V×Hp:=(v r s,QB l s bb::PR s::X)
theorem h2f (hF:b1e (pgL fx F)) (hb:b6l base) {f:Nat} {a:List V} {o:Option EX} {v:R->PS->V} (h:Says (pgL fx F) (base 0) f a [QB l s bb,PR s] o (leftV l bb [] v)) (ha:a0z 2 a=true) (hv:∀ r s,(v r s).und 2=true):Says (pgL fx F) (base 0) f a (QB l s bb::PR s::X) o (leftV l bb X v):=by
 cases o with
 |none=>trivial
 |some y=>
  cases y with
  |ok r s'=>exact d2a hF (h:=[QB l s bb,PR s]) (h':=[QB l s' bb,PR s']) (X:=X) h ha rfl rfl rfl (hv r s')
  |bad c f' e=>exact e4y hF hb h ha
theorem a0y (W:Wk fx F base l) (A:At l b p s) {q:Q} {k:R->Pr} (E:a0c l (goE l n) (.call q k) s=o) (N:o≠none) {f:Nat} {a:List V} {v:R->PS->V} (S:Says (pgL fx F) (base 0) f a [QB l s bb,PR s] (goE l n q s) (leftV l bb [] v)) (ha:a0z 2 a=true) (hv:∀ r s,(v r s).und 2=true)
 (h:∀ r s1,goE l n q s=some (.ok r s1)->At l (b||eats q) p s1->a0c l (goE l n) (k r) s1=o->K (v r s1) (QB l s1 bb::PR s1::X)):
 a4h (pgL fx F) (a1q (pgL fx F) (base 0)) f a (QB l s bb::PR s::X) K (d0b o):=by
 have S':=h2f (X:=X) W.hF W.hb S ha hv
 simp only[a0c]at E
 cases c:goE l n q s with
 |none=>rw[c]at E;exact absurd E.symm N
 |some y=>
  rw[c]at E S'
  cases y with
  |bad c f e=>exact cxd S' ⟨_,_,_,E.symm,rfl⟩
  |ok r s1=>
   simp only at E
   cases c2:okS l s1 with
   |false=>rw[c2]at E;exact absurd E.symm N
   |true=>rw[c2]at E;exact cxq S' (h r s1 c (A.call W.hl c c2) E)
end
theorem a6a {pg:Pg} {base:a2v} {f:Nat} {a:List V} {H:Hp} {o:Option EX} {k:R->PS->V×Hp} {vf:VFn} (ht:pg.tbl f=some (.code vf)) (hn:a.length=vf.np) (hk:vf.keep=false) (hu:a0z 0 a=false)
 (h:o≠none->b0g 0 a fun e=>WX pg (a1q pg base) H.length vf.body [] e H (e5g vf.res H.length fun v H'=> ∃ r s,o=some (.ok r s)/\k r s=(v,H'.take H.length)) (d0b o)):Says pg base f a H o k:=g6g ht hn hk hu h
end Go.Vm.Px
namespace Go.Vm.Px
open Go.Vm.Lex (TokQ)
open Go.Vm.Pa hiding go
open Go.Vm.Ite
section
variable {l:List TokQ} {g:Q->PS->Option EX} {o:Option EX} {s:PS}
theorem c0o {k:Int->Pr} (E:a0c l g (.pos k) s=o):a0c l g (k s.at_) s=o:=E
theorem h4i {k:Bool->Pr} (E:a0c l g (.ok k) s=o):a0c l g (k true) s=o:=E
theorem i1l {k:Int->Pr} (E:a0c l g (.val k) s=o):a0c l g (k (now l s).v) s=o:=E
theorem c6v {k:Pr} (E:a0c l g (.adv k) s=o) (N:o≠none):okS l (adv s)=true/\a0c l g k (adv s)=o:=by
 simp only[a0c]at E
 cases c:okS l (adv s)with
 |true=>rw[c]at E;exact⟨rfl,E⟩
 |false=>rw[c]at E;exact absurd E.symm N
theorem g2e {c:Int} {k:Bool->Pr} {t:Bool} (E:a0c l g (.kind c k) s=o) (h:decide ((now l s).k=c)=t):a0c l g (k t) s=o:=by subst h;exact E
theorem a7g {n:Nat} {q:Q} {k:R->Pr} (N:o≠none) (E:a0c l (goE l n) (.call q k) s=o):a0c l (goE l n) (a1c (prog q) k) s=o:=by
 cases o with
 |none=>exact absurd rfl N
 |some y=>exact g3r E
theorem c6q {c:Bool} {q:Pr} (N:o≠none) (E:a0c l g (Pa.guard c q) s=o):c=true/\a0c l g q s=o:=by
 cases c with
 |true=>exact⟨rfl,E⟩
 |false=>exact absurd E.symm N
end
section
variable {pg:Pg} {base:a2v} {D:D->Prop} {K:V->Hp->Prop}
theorem b9o {f:Nat} {vf:VFn} (ht:pg.tbl f=some (.code vf)) {a:List V} (hn:a.length=vf.np) (hk:vf.keep=false) (hu:a0z 0 a=false) {H:Hp}
 (h:b0g 0 a fun e=>WX pg (a1q pg base) H.length vf.body [] e H (e5g vf.res H.length fun v H'=>K v (H'.take H.length)) D):a4h pg (a1q pg base) f a H K D:=⟨i5a ht hn hk hu h⟩
end
end Go.Vm.Px
namespace Go.Vm.Px
open Go.Vm.Lex (TokQ)
open Go.Vm.Pa hiding go
open Go.Vm.Ite
section
variable {fx:Nat->Option Obj} {F:Nat->Option a0v} {l:List TokQ} {s s1:PS} {bb:Bool} {X:Hp} {base:Nat->a2v} {n:Nat} {b:Bool} {p:Int} {g:Q->PS->Option EX} {o:Option EX} {K:V->Hp->Prop}
theorem a0t (W:Wk fx F base l) (A:At l b p s) {x:S} {k:Bool->Pr} (E:a0c l g (.take x k) s=o)
 (h1:At l true p (adv s)->a0c l g (k true) (adv s)=o->K (.d (.bool true)) (QB l (adv s) bb::PR (adv s)::X))
 (h2:At l b p s->a0c l g (k false) s=o->K (.d (.bool false)) (QB l s bb::PR s::X)):
 ∃ r H',evF (pgL fx F) a3e [.ptr 0 0,.d (.str x)] (QB l s bb::PR s::X)=some (r,H')/\K r H':=by
 simp only[a0c]at E
 cases c:isS l s x with
 |true=>rw[c]at E;exact⟨_,_,c3f A.ok c,h1 (A.adv W.hl (b9l c)) E⟩
 |false=>rw[c]at E;exact⟨_,_,c3f A.ok c,h2 A E⟩
theorem a9d (A:At l b p s) {x:S} {k:Bool->Pr} (E:a0c l g (.is x k) s=o)
 (h1:isS l s x=true->a0c l g (k true) s=o->K (.d (.bool true)) (QB l s bb::PR s::X))
 (h2:isS l s x=false->a0c l g (k false) s=o->K (.d (.bool false)) (QB l s bb::PR s::X)):
 ∃ r H',evF (pgL fx F) a4t [.ptr 0 0,.d (.str x)] (QB l s bb::PR s::X)=some (r,H')/\K r H':=by
 simp only[a0c]at E
 cases c:isS l s x with
 |true=>rw[c]at E;exact⟨_,_,a5l A.ok c,h1 c E⟩
 |false=>rw[c]at E;exact⟨_,_,a5l A.ok c,h2 c E⟩
theorem a2l (A:At l b p s) (h:K (.d (b2k (now l s))) (QB l s bb::PR s::X)):
 ∃ r H',evF (pgL fx F) a6v [.ptr 0 0] (QB l s bb::PR s::X)=some (r,H')/\K r H':=⟨_,_,a3r A.ok,h⟩
def e0n (pg:Pg) (base:a2v) (f:Nat) (a:List V) (H:Hp) (o:Option EX) (k:R->PS->V->Hp->Prop):Prop:=match o with
 |some (.ok r s)=> ∃ v H',evF pg f a H=some (v,H')/\k r s v H'
 |some (.bad c f' e)=>a1q pg base f a H (c7z c f' e)
 |none=>True
theorem e7j {pg:Pg} {base:a2v} {f:Nat} {a:List V} {H:Hp} {o:Option EX} {k:R->PS->V->Hp->Prop} {vf:VFn} (ht:pg.tbl f=some (.code vf)) (hn:a.length=vf.np) (hk:vf.keep=false) (hu:a0z 0 a=false)
 (h:o≠none->b0g 0 a fun e=>WX pg (a1q pg base) H.length vf.body [] e H (e5g vf.res H.length fun v H'=> ∃ r s,o=some (.ok r s)/\k r s v (H'.take H.length)) (d0b o)):e0n pg base f a H o k:=by
 cases o with
 |none=>trivial
 |some y=>
  rcases i5a (R:=fun v H2=> ∃ r s,some y=some (EX.ok r s)/\k r s v H2) ht hn hk hu (h (by simp))with⟨r,H2,h1,r',s',h2,h3⟩|⟨x,h1,c,f',e,h2,h3⟩
  ·cases h2
   exact⟨_,_,h1,h3⟩
  ·cases h2
   subst h3
   exact h1
theorem h1r (W:Wk fx F base l) (A:At l b p s) {pp:Pr} {k:R->Pr} (E:a0c l (goE l n) (a1c pp k) s=o) (N:o≠none) {f:Nat} {a:List V} {v:R->PS->V} (S:Says (pgL fx F) (base 0) f a [QB l s bb,PR s] (a0c l (goE l n) pp s) (leftV l bb [] v)) (ha:a0z 2 a=true) (hv:∀ r s,(v r s).und 2=true) (he:Eat eats pp)
 (h:∀ r s1,At l true p s1->a0c l (goE l n) (k r) s1=o->K (v r s1) (QB l s1 bb::PR s1::X)):
 a4h (pgL fx F) (a1q (pgL fx F) (base 0)) f a (QB l s bb::PR s::X) K (d0b o):=by
 have S':=h2f (X:=X) W.hF W.hb S ha hv
 cases o with
 |none=>exact absurd rfl N
 |some y=>
  rcases e5t _ _ E with⟨c,f',e,h1,rfl⟩|⟨r,s1,h1,h2⟩
  ·rw[h1]at S';exact cxd S' ⟨_,_,_,rfl,rfl⟩
  ·rw[h1]at S'
   have hr:=a7l A.ok
   have hf:=f4i W.hl (c9y W.hl n) pp s r s1 hr.1 om h1
   have h3:=hf.2 he
   have h4:=A.le
   exact cxq S' (h r s1 ⟨hf.1.ok A.ok,A.lo,om,fun _=>om,hf.1.bc.zf A.bc⟩ h2)
theorem Says.mono {pg:Pg} {base:a2v} {f:Nat} {a:List V} {H:Hp} {o o':Option EX} {k:R->PS->V×Hp} (h:Says pg base f a H o' k) (e:∀ y,o=some y->o'=some y):Says pg base f a H o k:=by
 cases o with
 |none=>trivial
 |some y=>rw[e y rfl]at h;exact h
theorem e0n.mono {pg:Pg} {base:a2v} {f:Nat} {a:List V} {H:Hp} {o o':Option EX} {k:R->PS->V->Hp->Prop} (h:e0n pg base f a H o' k) (e:∀ y,o=some y->o'=some y):e0n pg base f a H o k:=by
 cases o with
 |none=>trivial
 |some y=>rw[e y rfl]at h;exact h
def b0j (fx:Nat->Option Obj) (F:Nat->Option a0v) (base:Nat->a2v) (l:List TokQ) (n:Nat) (f:Nat) (a:List V) (q:Int->Bool->Q):Prop:=∀ (s:PS) (bb:Bool),okS l s=true->Zf s->Says (pgL fx F) (base 0) f (.ptr 0 0::a) [QB l s bb,PR s] (goE l n (q s.at_ bb) s) (leftV l bb [] fun r s'=> .d (b3s l s r s'))
theorem b0j.mono {m f:Nat} {a:List V} {q:Int->Bool->Q} (h:b0j fx F base l m f a q) (hn:n<=m):b0j fx F base l n f a q:=fun s bb h1 h2=>(h s bb h1 h2).mono fun _ e=>a6r hn e
end
end Go.Vm.Px
namespace Go.Vm.Px
open Go.Vm.Lex (TokQ)
open Go.Vm.Pa hiding go
open Go.Vm.Ite
section
variable {l:List TokQ} {s:PS}
theorem f6k (h:(now l s).k=2) (x:S):isS l s x=decide ((now l s).t=x):=by simp[isS,h]
theorem f8m (h:(now l s).k=4) (x:S):isS l s x=decide ((now l s).t=x):=by simp[isS,h]
theorem g6o (h2:(now l s).k≠2) (h4:(now l s).k≠4) (x:S):isS l s x=false:=by simp[isS,h2,h4]
theorem d5a (hl:LOk l):d1n l s=a1w l 101 s:=by
 unfold d1n a1w
 have e1:((101:Int)=116)=False:=by simp
 simp only[e1,if_false,if_true,anyS,f9i,e0t,List.any_cons,List.any_nil]
 by_cases k1:(now l s).k=1
 ·simp[k1]
 by_cases k3:(now l s).k=3
 ·simp[k3]
 by_cases k2:(now l s).k=2
 ·have:=hl.wd s.at_.toNat k2
  change (now l s).t∉e6r at this
  simp only[f6k k2,k2]
  generalize(now l s).t=t at this
  simp only[e6r,List.mem_cons,List.not_mem_nil,or_false,not_or]at this
  simp only[this]
  grind
 by_cases k4:(now l s).k=4
 ·have:=hl.sg s.at_.toNat k4
  change (now l s).t∉_ at this
  simp only[f8m k4,k4]
  generalize(now l s).t=t at this
  simp only[List.mem_cons,List.not_mem_nil,or_false,not_or]at this
  simp only[this]
  grind
 simp[k1,k2,k3,k4,g6o k2 k4]
def i5d:List S:=[[124,124],[38,38],[60],[60,61],[62],[62,61],[61,61],[33,61],[43],[45],[42],[47],[37]]
theorem sign_eq (hl:LOk l) (hb:Zf s) {r:Int} (hr:r=0\/r=1\/r=2\/r=3\/r=4):(g0n (now l s)=r+1/\b7v l r s=(now l s).t/\(now l s).t≠[])\/(g0n (now l s)≠r+1/\b7v l r s=[]):=by
 have ok:okB s=true:=c2k hb.1
 by_cases k4:(now l s).k=4
 ·unfold g0n b7v
  simp only[ok,f8m k4,k4,Bool.true_and]
  generalize(now l s).t=t
  by_cases ht:t∈i5d
  ·simp only[i5d,List.mem_cons,List.not_mem_nil,or_false]at ht
   rcases ht with rfl|rfl|rfl|rfl|rfl|rfl|rfl|rfl|rfl|rfl|rfl|rfl|rfl<;>rcases hr with rfl|rfl|rfl|rfl|rfl<;>decide
  ·simp only[i5d,List.mem_cons,List.not_mem_nil,or_false,not_or]at ht
   right
   refine⟨?_,?_⟩
   ·simp only[ht]
    simp;omega
   ·rcases hr with rfl|rfl|rfl|rfl|rfl<;>simp[b1k,ht]
 ·right
  refine⟨?_,?_⟩
  ·unfold g0n
   simp[k4];omega
  ·unfold b7v
   by_cases k2:(now l s).k=2
   ·have:=hl.wd s.at_.toNat k2
    change (now l s).t∉e6r at this
    simp only[f6k k2,ok,Bool.true_and]
    generalize(now l s).t=t at this
    simp only[e6r,List.mem_cons,List.not_mem_nil,or_false,not_or]at this
    rcases hr with rfl|rfl|rfl|rfl|rfl<;>simp[b1k,this]
   ·rcases hr with rfl|rfl|rfl|rfl|rfl<;>simp[g6o k2 k4,b1k]
end
end Go.Vm.Px
namespace Go.Vm.Px
open Go.Vm.Lex (TokQ)
open Go.Vm.Pa hiding go
open Go.Vm.Ite
def i2v (t:TokQ) (p:Int) (k:Int->Pr):Pr:= .adv (match decide (t.t=[105,54,52])with
  |true=> .node p ⟨10,[],0,[]⟩ k
  |false=>match decide (t.t=[98,111,111,108])with
  |true=> .node p ⟨11,[],0,[]⟩ k
  |false=>match decide (t.t=[40])with
  |true=> .need [41] (.node p ⟨12,[],0,[]⟩ k)
  |false=>match decide (t.t=[38])with
  |true=> .take [109,117,116] fun b=>match b with
   |true=> .call .typ fun r=> .node p ⟨15,[],0,Pa.one r.i⟩ k
   |false=> .call .typ fun r=> .node p ⟨14,[],0,Pa.one r.i⟩ k
  |false=>match decide (t.t=[66,111,120])with
  |true=> .need [60] (.call .typ fun r=> .need [62] (.node p ⟨16,[],0,Pa.one r.i⟩ k))
  |false=> .node p ⟨13,t.t,0,[]⟩ k)
def g1d (t:TokQ) (p:Int) (k:Int->Pr):Pr:= .adv (match decide (t.k=3)with
  |true=> .node p ⟨52,[],t.v,[]⟩ k
  |false=>match decide (t.k=1)with
  |true=> .take [58,58] fun b=>match b with
   |false=> .node p ⟨51,t.t,0,[]⟩ k
   |true=> .name fun u=> .take [40] fun b=>match b with
    |false=> .node p ⟨54,t.t++[58,58]++u,0,[]⟩ k
    |true=> .call .pattern fun r=> .need [41] (.node p ⟨54,t.t++[58,58]++u,0,Pa.one r.i⟩ k)
  |false=>match decide (t.t=[45])with
  |true=> .kind 3 fun b=>match b with
   |false=> .fail .dead
   |true=> .val fun v=> .adv (.node p ⟨52,[],w (0 - v),[]⟩ k)
  |false=>match decide (t.t=[116,114,117,101])with
  |true=> .node p ⟨53,[],1,[]⟩ k
  |false=>match decide (t.t=[102,97,108,115,101])with
  |true=> .node p ⟨53,[],0,[]⟩ k
  |false=> .node p ⟨50,[],0,[]⟩ k)
def e9h (t:TokQ) (p:Int) (bare:Bool) (k:Int->Pr):Pr:= .adv (.take [40] fun b=>match b with
  |true=> .call (.args K.o) fun q=> .need [41] (guard (okK q.ks) (.node p ⟨34,t.t,0,q.ks.l⟩ k))
  |false=> .take [58,58] fun b=>match b with
  |true=> .name fun u=> .take [40] fun b=>match b with
   |false=> .node p ⟨37,t.t++[58,58]++u,0,[]⟩ k
   |true=> .call (.expr false) fun r=> .need [41] (.node p ⟨37,t.t++[58,58]++u,0,Pa.one r.i⟩ k)
  |false=>match bare with
   |true=> .node p ⟨33,t.t,0,[]⟩ k
   |false=> .take [123] fun b=>match b with
    |true=> .call (.inits K.o) fun q=> .need [125] (guard (okK q.ks) (.node p ⟨35,t.t,0,q.ks.l⟩ k))
    |false=> .node p ⟨33,t.t,0,[]⟩ k)
def f5x (t:TokQ) (p:Int) (bare:Bool):Pr:=match decide (t.k=1)with
 |true=> .call (.named p bare) .ret
 |false=>match decide (t.k=3)with
 |true=> .adv (mkP p 30 [] t.v [])
 |false=> .take [116,114,117,101] fun b=>match b with
 |true=>mkP p 31 [] 1 []
 |false=> .take [102,97,108,115,101] fun b=>match b with
 |true=>mkP p 31 [] 0 []
 |false=> .take [66,111,120] fun b=>match b with
 |true=> .need [58,58] (.kind 1 fun b=>match b with
  |false=> .fail .dead
  |true=> .text [110,101,119] fun b=>match b with
   |false=> .fail .dead
   |true=> .adv (.need [40] (.call (.expr false) fun r=> .need [41] (mkP p 44 [] 0 (Pa.one r.i)))))
 |false=> .take [40] fun b=>match b with
 |true=> .take [41] fun b=>match b with
  |true=>mkP p 32 [] 0 []
  |false=> .call (.expr false) fun r=> .need [41] (.ret (rI r.i))
 |false=>isB fun b=>match b with
 |true=> .call .branch .ret
 |false=> .fail .dead
section
variable {l:List TokQ} {n:Nat} {o:Option EX} {s:PS} {b:Bool} {p p0:Int}
theorem d0a {x y:S} (h:isS l s x=true) (hxy:x≠y):isS l s y=false:=by
 have:=e0k h
 unfold isS
 rw[this]
 simp[hxy]
theorem e3e {x:S} (h:¬ ((now l s).k=2\/(now l s).k=4)):isS l s x=false:=g6o (fun h2=>h (.inl h2)) (fun h4=>h (.inr h4)) x
theorem g6u {k:Pr} (hl:LOk l) (A:At l b p s) (h:(now l s).k≠5) {g:Q->PS->Option EX}:a0c l g (.adv k) s=a0c l g k (adv s):=by
 simp only[a0c,a3o hl A.ok h]
theorem i1m (hl:LOk l) (A:At l b p s) (hB:a1w l 116 s=true) (N:o≠none) {k:R->Pr} (E:a0c l (goE l n) (.call (.typed p0) k) s=o):a0c l (goE l n) (i2v (now l s) p0 fun i=>k (rI i)) s=o:=by
  have E:=a7g N E
  simp only[prog,mkP,a1c,a0c]at E
  have h5:(now l s).k≠5:=by
   intro h5
   simp[a1w,h5,anyS,f8o,isS]at hB
  unfold i2v
  rw[g6u hl A h5]
  by_cases k1:(now l s).k=1
  ·have hn:=hl.nm s.at_.toNat k1
   change (now l s).t∉f8o at hn
   simp only[f8o,List.mem_cons,List.not_mem_nil,or_false,not_or]at hn
   have hf:∀ x,isS l s x=false:=fun x=>e3e om
   simp only[hf,k1,decide_true]at E
   simp only[hn,decide_false,a0c]
   exact E
  ·have hB2:isS l s [105,54,52]=true\/isS l s [98,111,111,108]=true\/isS l s [40]=true\/isS l s [38]=true\/isS l s [66,111,120]=true:=by
    simpa [a1w,k1,anyS,f8o] using hB
   rcases hB2 with h|h|h|h|h
   all_goals
    have ht:=e0k h
    have hk:∀ y,isS l s y=decide ((now l s).t=y):=by
     rcases f5s h with h|h
     ·exact f6k h
     ·exact f8m h
    simp+decide only[hk,ht,a0c,decide_true,decide_false]at E⊢
    exact E
theorem e6n (hl:LOk l) (A:At l b p s) (hB:a1w l 112 s=true) (N:o≠none) {k:R->Pr} (E:a0c l (goE l n) (.call (.patterned p0) k) s=o):a0c l (goE l n) (g1d (now l s) p0 fun i=>k (rI i)) s=o:=by
  have E:=a7g N E
  simp only[prog,mkP,g4k,a1c,a0c]at E
  have h5:(now l s).k≠5:=by
   intro h5
   simp[a1w,h5,anyS,h3q,isS]at hB
  unfold g1d
  rw[g6u hl A h5]
  have hadv:=a3o hl A.ok h5
  by_cases k1:(now l s).k=1
  ·have hf:∀ x,isS l s x=false:=fun x=>e3e om
   have k3:decide ((now l s).k=3)=false:=decide_eq_false om
   have k1':decide ((now l s).k=1)=true:=decide_eq_true k1
   simp only[hf,k1',k3,a1c,a0c]at E
   simp only[k1',k3,a0c]
   exact E
  by_cases k3:(now l s).k=3
  ·have hf:∀ x,isS l s x=false:=fun x=>e3e om
   have k3':decide ((now l s).k=3)=true:=decide_eq_true k3
   simp only[hf,k3',a1c,a0c,hadv]at E
   simp only[k3',a0c]
   exact E
  have k1':decide ((now l s).k=1)=false:=decide_eq_false k1
  have k3':decide ((now l s).k=3)=false:=decide_eq_false k3
  have hB2:isS l s [95]=true\/isS l s [116,114,117,101]=true\/isS l s [102,97,108,115,101]=true\/isS l s [45]=true:=by
   simpa [a1w,k1,k3,anyS,h3q] using hB
  rcases hB2 with h|h|h|h
  all_goals
   have ht:=e0k h
   have hk:∀ y,isS l s y=decide ((now l s).t=y):=by
    rcases f5s h with h|h
    ·exact f6k h
    ·exact f8m h
   simp+decide only[k1',k3',hk,ht,a1c,a0c,decide_true,decide_false]at E⊢
   first
    |exact E
    |(cases c:decide ((now l (adv s)).k=3)with
     |false=>rw[c]at E;exact E
     |true=>rw[c]at E;simp only[a1c,a0c]at E⊢;exact E)
theorem g5e (hl:LOk l) (A:At l b p s) (k1:(now l s).k=1) {bare:Bool} (E:a0c l (goE l n) (prog (.named p0 bare)) s=o):a0c l (goE l n) (e9h (now l s) p0 bare fun i=> .ret (rI i)) s=o:=by
  unfold e9h
  rw[g6u hl A om]
  have k1':decide ((now l s).k=1)=true:=decide_eq_true k1
  simp only[prog,mkP,e5u,a0c,k1']at E
  simp only[a0c]
  by_cases h:isS l (adv s) [40]=true
  ·simp only[h]at E⊢
   exact E
  have h:=eq_false_of_ne_true h
  simp only[h]at E⊢
  by_cases h2:isS l (adv s) [58,58]=true
  ·have h3:=d0a h2 (y:=[123]) (by decide)
   cases bare<;>simp only[h2,h3,a0c]at E⊢ <;>exact E
  have h2:=eq_false_of_ne_true h2
  cases bare
  ·by_cases h3:isS l (adv s) [123]=true
   ·simp only[h2,h3,a0c]at E⊢
    exact E
   have h3:=eq_false_of_ne_true h3
   simp only[h2,h3,a0c]at E⊢
   exact E
  ·simp only[h2,a0c]at E⊢
   exact E
theorem h3j (hl:LOk l) (A:At l b p s) {bare:Bool} (N:o≠none) (E:a0c l (goE l n) (prog (.primary bare)) s=o):a0c l (goE l n) (f5x (now l s) s.at_ bare) s=o:=by
 unfold f5x
 simp only[prog,a0c]at E
 by_cases k1:(now l s).k=1
 ·have hf:∀ x,isS l s x=false:=fun x=>e3e om
  have k3:decide ((now l s).k=3)=false:=decide_eq_false om
  have k1':decide ((now l s).k=1)=true:=decide_eq_true k1
  simp only[hf,k3,a0c]at E
  simp only[k1',a0c]
  exact E
 have k1':decide ((now l s).k=1)=false:=decide_eq_false k1
 simp only[k1']
 by_cases k3:(now l s).k=3
 ·have k3':decide ((now l s).k=3)=true:=decide_eq_true k3
  simp only[k3',a0c,a3o hl A.ok om]at E
  simp only[k3',a0c,a3o hl A.ok (show(now l s).k≠5 by omega)]
  exact E
 have k3':decide ((now l s).k=3)=false:=decide_eq_false k3
 simp only[k3']at E⊢
 simp only[a0c]at E⊢
 by_cases h:isS l s [116,114,117,101]=true
 ·simp only[h]at E⊢
  exact E
 have h:=eq_false_of_ne_true h
 simp only[h,a0c]at E⊢
 by_cases h1:isS l s [102,97,108,115,101]=true
 ·simp only[h1]at E⊢
  exact E
 have h1:=eq_false_of_ne_true h1
 simp only[h1,a0c]at E⊢
 by_cases h2:isS l s [66,111,120]=true
 ·have h3:=d0a h2 (y:=[40]) (by decide)
  simp only[h2,h3,a0c]at E⊢
  cases c:isS l (adv s) [58,58] with
  |false=>rw[c]at E;exact E
  |true=>
   rw[c]at E
   simp only at E⊢
   cases c2:decide ((now l (adv (adv s))).k=1)with
   |false=>rw[c2]at E;exact E
   |true=>
    rw[c2]at E
    simp only[a0c]at E⊢
    cases c3:decide ((now l (adv (adv s))).t=[110,101,119])with
    |false=>rw[c3]at E;exact E
    |true=>
     rw[c3]at E
     have A1:=A.adv hl (b9l h2)
     have A2:=A1.adv hl (b9l c)
     have A3:=a3o hl A2.ok (by have:=of_decide_eq_true c2;omega)
     simp only[a0c,newP,c2,A3]at E⊢
     exact E
 have h2:=eq_false_of_ne_true h2
 simp only[h2,a0c]at E⊢
 by_cases h3:isS l s [40]=true
 ·simp only[h3]at E⊢
  exact E
 have h3:=eq_false_of_ne_true h3
 simp only[h3,isB,a0c]at E⊢
 by_cases h4:isS l s [105,102]=true
 ·simp only[h4,a0c,Bool.true_or]at E⊢
  exact E
 have h4:=eq_false_of_ne_true h4
 by_cases h5:isS l s [109,97,116,99,104]=true
 ·simp only[h4,h5,a0c,Bool.false_or,Bool.true_or]at E⊢
  exact E
 have h5:=eq_false_of_ne_true h5
 by_cases h6:isS l s [123]=true
 ·simp only[h4,h5,h6,a0c,Bool.false_or]at E⊢
  exact E
 have h6:=eq_false_of_ne_true h6
 simp only[h4,h5,h6,Bool.false_or,a0c]at E⊢
 have E:=a7g N (show a0c l (goE l n) (.call (.named s.at_ bare) .ret) s=o by simp only[a0c];exact E)
 simp only[prog,a1c,a0c,k1']at E⊢
 exact E
end
end Go.Vm.Px
namespace Go.Vm.Px
open Go.Vm.Lex (TokQ)
open Go.Vm.Pa hiding go
open Go.Vm.Ite
section
variable {fx:Nat->Option Obj} {F:Nat->Option a0v} {l:List TokQ} {s s1:PS} {bb:Bool} {X:Hp} {base:Nat->a2v} {n:Nat} {b:Bool} {p:Int} {g:Q->PS->Option EX} {o:Option EX} {K:V->Hp->Prop} {D:Go.Vm.D->Prop}
theorem e0j {pg:Pg} {dd:a2v} {f:Nat} {a:List V} {H:Hp} {K K':V->Hp->Prop} {D D':Go.Vm.D->Prop} (h:a4h pg dd f a H K' D') (hk:∀ v H',K' v H'->K v H') (hd:∀ x,D' x->D x):a4h pg dd f a H K D:=by
 rcases h.or with⟨r,H',h1,h2⟩|⟨x,h1,h2⟩
 ·exact cxq h1 (hk _ _ h2)
 ·exact cxd h1 (hd _ h2)
def g9f (fx:Nat->Option Obj) (F:Nat->Option a0v) (base:Nat->a2v) (l:List TokQ) (n:Nat) (f:Nat) (a:List V) (q:Int->Q):Prop:=∀ (s:PS),okS l s=true->Zf s->Says (pgL fx F) (base 0) f (.ptr 0 0::a) [QB l s false,PR s] (goE l n (q s.at_) s) (leftV l false [] fun r s'=> .d (b3s l s r s'))
theorem g9f.mono {m f:Nat} {a:List V} {q:Int->Q} (h:g9f fx F base l m f a q) (hn:n<=m):g9f fx F base l n f a q:=fun s h1 h2=>(h s h1 h2).mono fun _ e=>a6r hn e
def h1q (l:List TokQ) (bb b':Bool) (X:Hp) (K:V->Hp->Prop):V->Hp->Prop:=fun _ H'=> ∃ s1 X1,H'=QB l s1 b'::PR s1::X1/\X1.length=X.length/\K (.tup []) (QB l s1 bb::PR s1::X1)
theorem b4w {c i j:Nat} {b':Bool} (h:a4h (pgL fx F) (a1q (pgL fx F) (base 0)) c [.ptr i 0,.ptr j 0] (QB l s b'::PR s::X) (h1q l bb b' X K) D):
 a4h (pgL fx F) (a1q (pgL fx F) (base 0)) a8f [.ptr 0 0,.d (.bool b'),.fn c [.ptr i 0,.ptr j 0]] (QB l s bb::PR s::X) K D:=by
 refine b9o (a8h (F:=F)) rfl rfl rfl ?_
 repeat' (first|refine a3a ⟨?_⟩|((conv=>whnf);refine foH ?_)|(refine e0j h ?_ (fun _ h=>h);rintro v H' ⟨s1,X1,rfl,hX,hk⟩)|fail)
 show K (.tup []) (List.take (X.length+1+1) (QB l s1 bb::PR s1::X1))
 rw[List.take_of_length_le (by simp only[List.length_cons];omega)]
 exact hk
theorem e8c {c i j k:Nat} {b':Bool} (h:a4h (pgL fx F) (a1q (pgL fx F) (base 0)) c [.ptr i 0,.ptr j 0,.ptr k 0] (QB l s b'::PR s::X) (h1q l bb b' X K) D):
 a4h (pgL fx F) (a1q (pgL fx F) (base 0)) a8f [.ptr 0 0,.d (.bool b'),.fn c [.ptr i 0,.ptr j 0,.ptr k 0]] (QB l s bb::PR s::X) K D:=by
 refine b9o (a8h (F:=F)) rfl rfl rfl ?_
 repeat' (first|refine a3a ⟨?_⟩|((conv=>whnf);refine foH ?_)|(refine e0j h ?_ (fun _ h=>h);rintro v H' ⟨s1,X1,rfl,hX,hk⟩)|fail)
 show K (.tup []) (List.take (X.length+1+1) (QB l s1 bb::PR s1::X1))
 rw[List.take_of_length_le (by simp only[List.length_cons];omega)]
 exact hk
theorem At.trans {b':Bool} (A:At l b p s) (B:At l b' s.at_ s1):At l (b||b') p s1:=by
 have h1:=A.le
 have h2:=B.le
 refine⟨B.ok,A.lo,om,fun h=>?_,B.bc⟩
 rcases Bool.or_eq_true_iff.1 h with h|h
 ·have:=A.lt h;omega
 ·have:=B.lt h;omega
theorem At.here (A:At l b p s):At l false s.at_ s:=At.start A.ok A.bc
theorem At.weak (A:At l b p s):At l false p s:=⟨A.ok,A.lo,A.le,by simp,A.bc⟩
def g7c (k:Int) (t:S) (v:Int) (kn:Nat) (r:Nat):Ob:= .box [.d (.int .i64 k),.d (.str t),.d (.int .i64 v),.row r kn,.d (.int .i64 0),.d (.int .i64 0)]
abbrev XN (Z T:Ob) (k:Int) (t:S) (v:Int) (ks:Pa.K) (Y:Hp):Hp:= .box [.ptr 0 0]::Z::T::g7c k t v ks.n 6:: .row 1 ks.l::Y
def g2s (fx:Nat->Option Obj) (F:Nat->Option a0v) (base:Nat->a2v) (l:List TokQ) (n:Nat) (c:Nat) (q:Q):Prop:=∀ {Z T:Ob} {k:Int} {t:S} {v:Int} {ks:Pa.K} {Y:Hp} {s:PS} {b:Bool} {p:Int} {o:Option EX} {kk:R->Pr} {K:V->Hp->Prop},At l b p s->a0c l (goE l n) (.call q kk) s=o->o≠none->(∀ r s1,goE l n q s=some (.ok r s1)->okK ks=true)->
 (∀ r s1,At l (b||eats q) p s1->a0c l (goE l n) (kk r) s1=o->K (.tup []) (QB l s1 false::PR s1::XN Z T k t v (push ks r.i) Y))->
 a4h (pgL fx F) (a1q (pgL fx F) (base 0)) c [.ptr 5 0,.ptr 2 0] (QB l s false::PR s::XN Z T k t v ks Y) K (d0b o)
def g1h (x:S) (q:Q) (ks:Pa.K) (kQ:Pa.K->Q) (rr:Pa.K->R):Pr:= .is x fun b=>match b with
  |true=> .ret (rr ks)
  |false=> .call q fun r=>guard (okK ks) (.take [44] fun b=>match b with
   |true=> .tail (kQ (push ks r.i))
   |false=> .ret (rr (push ks r.i)))
theorem f7t {q:Q} {c:Bool} {k:R->Pr} {kk:R->Pr} (N:o≠none) (hl:LOk l) (A:At l b p s) (E:a0c l (goE l n) (.call q fun r=>a1c (guard c (k r)) kk) s=o):∀ r s1,goE l n q s=some (.ok r s1)->c=true:=by
  intro r s1 h
  simp only[a0c,h]at E
  cases c with
  |true=>rfl
  |false=>
   have hr:=a7l A.ok
   have:=(c9y hl n q s r s1 hr.1 om h).1.ok A.ok
   rw[this]at E
   exact absurd E.symm N
theorem c6a {c:Bool} {q:Pr} {kk:R->Pr} (N:o≠none) (E:a0c l g (a1c (Pa.guard c q) kk) s=o):a0c l g (a1c q kk) s=o:=by
 cases c with
 |true=>exact E
 |false=>exact absurd E.symm N
theorem h5x (W:Wk fx F base l) {x:S} {q:Q} {kQ:Pa.K->Q} {rr:Pa.K->R} {kk:R->Pr} (hq:∀ ks s,a0c l (goE l n) (.call (kQ ks) kk) s=o->a0c l (goE l n) (a1c (g1h x q ks kQ rr) kk) s=o) (N:o≠none) {c:Nat} (one:g2s fx F base l n c q) {Z T:Ob} {k:Int} {t:S} {v:Int} {ks0:Pa.K}
 (A0:At l false p s) (E0:a0c l (goE l n) (.call (kQ ks0) kk) s=o)
 (h:∀ ks s1,At l false p s1->a0c l (goE l n) (kk (rr ks)) s1=o->K (.tup []) (QB l s1 false::PR s1::XN Z T k t v ks [.box [.ptr 0 0],.box [.d (.str x)],.box [.fn c [.ptr 5 0,.ptr 2 0]]])):
 a4h (pgL fx F) (a1q (pgL fx F) (base 0)) b7x [.ptr 7 0,.ptr 8 0,.ptr 9 0] (QB l s false::PR s::XN Z T k t v ks0 [.box [.ptr 0 0],.box [.d (.str x)],.box [.fn c [.ptr 5 0,.ptr 2 0]]]) K (d0b o):=by
 refine b9o (b7t (F:=F)) rfl rfl rfl ?_
 repeat' (first|refine a3a ⟨?_⟩|fail)
 refine b1y (α:=Pa.K×PS) (fun a=>(l.length - a.2.at_).toNat) (fun _=>[(0,.ptr 7 0),(1,.ptr 8 0),(2,.ptr 9 0)]) (fun a=>QB l a.2 false::PR a.2::XN Z T k t v a.1 [.box [.ptr 0 0],.box [.d (.str x)],.box [.fn c [.ptr 5 0,.ptr 2 0]]]) (fun a=>At l false p a.2/\a0c l (goE l n) (.call (kQ a.1) kk) a.2=o) ?_ (ks0,s) ⟨A0,E0⟩ rfl rfl
 rintro⟨ks,s2⟩ ⟨A,E⟩
 simp only at A E
 replace E:=hq ks s2 E
 have A':=A.here
 repeat' (first|refine a3a ⟨?_⟩|(refine a7x A' E ?_ ?_<;>clear E<;>intro c E)|fail)
 ·have:=h ks s2 A E
  exact this
 ·have hk:=f7t N W.hl A' E
  repeat' (first|refine a3a ⟨?_⟩|(refine one A' E N hk ?_;clear E;intro r s3 A3 E;replace E:=c6a N E)|(refine a0o W A3 E ?_ ?_<;>clear E<;>intro A4 E)|fail)
  ·have h3:=A3.le
   have h4:=A4.lt rfl
   have h5:=a7l A4.ok
   have h6:=a7l A.ok
   refine⟨(push ks r.i,adv s3),⟨(A.trans A4).weak,E⟩,?_,rfl,rfl⟩
   show(l.length - (adv s3).at_).toNat < (l.length - s2.at_).toNat
   omega
  ·have:=h (push ks r.i) s3 (A.trans A3).weak E
   exact this
theorem f0q (W:Wk fx F base l) {x:S} {q:Q} {kQ:Pa.K->Q} {rr:Pa.K->R} {kk:R->Pr} (hq:∀ ks s,a0c l (goE l n) (.call (kQ ks) fun r=> .need x (kk r)) s=o->a0c l (goE l n) (a1c (g1h x q ks kQ rr) fun r=> .need x (kk r)) s=o) (N:o≠none) {c:Nat} (one:g2s fx F base l n c q) {Z T:Ob} {k:Int} {t:S} {v:Int} {ks0:Pa.K}
    (A:At l b p s) (E:a0c l (goE l n) (.call (kQ ks0) fun r=> .need x (kk r)) s=o)
    (h:∀ ks s1,At l true p s1->a0c l (goE l n) (kk (rr ks)) s1=o->K (.tup []) (QB l s1 bb::PR s1::XN Z T k t v ks [])):
    a4h (pgL fx F) (a1q (pgL fx F) (base 0)) c1x [.ptr 0 0,.d (.str x),.fn c [.ptr 5 0,.ptr 2 0]] (QB l s bb::PR s::XN Z T k t v ks0 []) K (d0b o):=by
  refine b9o (c1n (F:=F)) rfl rfl rfl ?_
  repeat' (first|refine a3a ⟨?_⟩|(refine e8c (h5x (Z:=Z) (T:=T) (k:=k) (t:=t) (v:=v) (ks0:=ks0) W hq N one A.weak E ?_);clear E;intro ks s1 A1 E;refine⟨_,_,rfl,rfl,?_⟩)|(refine a1f W A1 E ?_;clear A1 E;intro A1 E)|fail)
  have:=h ks _ A1 E
  exact this
theorem a2r {ks:Pa.K} (h:okK ks=true):ks.l.length=ks.n/\roomy (ks.n+1) 8:=by
 unfold okK at h
 simp only[Bool.and_eq_true,decide_eq_true_eq]at h
 exact⟨h.1,by unfold roomy;omega⟩
theorem f8s (W:Wk fx F base l) (L:b0j fx F base l n 22 [] fun _ b=> .expr b):g2s fx F base l n 149 (.expr false):=by
  intro Z T k t v ks Y s b p o kk K A E N hk h
  refine b9o (b4b (F:=F)) rfl rfl rfl ?_
  repeat' (first|refine a3a ⟨?_⟩|((conv=>whnf);refine foH ?_)|(refine a6n 3 (by decide) (by decide) rfl ?_ ?_)|exact trivial|(refine a0y W A E N (L _ _ A.ok A.bc) rfl (fun _ _=>rfl) ?_;clear A E;intro r s1 G A E;have hg:=a2r (hk r s1 G))|refine And.intro ⟨rfl,by decide⟩ ?_|refine And.intro ⟨rfl,hg.1,hg.2⟩ ?_|fail)
  show K (.tup []) (List.take (Y.length+1+1+1+1+1+1+1) (QB l s1 false::PR s1::XN Z T k t v (push ks r.i) Y))
  rw[List.take_of_length_le (by simp only[List.length_cons];omega)]
  exact h r s1 A E
theorem f4t (W:Wk fx F base l) (L:g9f fx F base l n a5u [] fun _=> .init):g2s fx F base l n 151 .init:=by
  intro Z T k t v ks Y s b p o kk K A E N hk h
  refine b9o (b4j (F:=F)) rfl rfl rfl ?_
  repeat' (first|refine a3a ⟨?_⟩|((conv=>whnf);refine foH ?_)|(refine a6n 3 (by decide) (by decide) rfl ?_ ?_)|exact trivial|(refine a0y W A E N (L _ A.ok A.bc) rfl (fun _ _=>rfl) ?_;clear A E;intro r s1 G A E;have hg:=a2r (hk r s1 G))|refine And.intro ⟨rfl,by decide⟩ ?_|refine And.intro ⟨rfl,hg.1,hg.2⟩ ?_|fail)
  show K (.tup []) (List.take (Y.length+1+1+1+1+1+1+1) (QB l s1 false::PR s1::XN Z T k t v (push ks r.i) Y))
  rw[List.take_of_length_le (by simp only[List.length_cons];omega)]
  exact h r s1 A E
theorem f1c (W:Wk fx F base l) (L:b0j fx F base l n a1y [.d (.int .i64 7)] fun _ _=> .param):g2s fx F base l n 80 .param:=by
  intro Z T k t v ks Y s b p o kk K A E N hk h
  refine b9o (b6i (F:=F)) rfl rfl rfl ?_
  repeat' (first|refine a3a ⟨?_⟩|((conv=>whnf);refine foH ?_)|(refine a6n 3 (by decide) (by decide) rfl ?_ ?_)|exact trivial|(refine a0y W A E N (L _ _ A.ok A.bc) rfl (fun _ _=>rfl) ?_;clear A E;intro r s1 G A E;have hg:=a2r (hk r s1 G))|refine And.intro ⟨rfl,by decide⟩ ?_|refine And.intro ⟨rfl,hg.1,hg.2⟩ ?_|fail)
  show K (.tup []) (List.take (Y.length+1+1+1+1+1+1+1) (QB l s1 false::PR s1::XN Z T k t v (push ks r.i) Y))
  rw[List.take_of_length_le (by simp only[List.length_cons];omega)]
  exact h r s1 A E
theorem f3u (W:Wk fx F base l) (L:b0j fx F base l n a1y [.d (.int .i64 5)] fun _ _=> .field):g2s fx F base l n 84 .field:=by
  intro Z T k t v ks Y s b p o kk K A E N hk h
  refine b9o (b5t (F:=F)) rfl rfl rfl ?_
  repeat' (first|refine a3a ⟨?_⟩|((conv=>whnf);refine foH ?_)|(refine a6n 3 (by decide) (by decide) rfl ?_ ?_)|exact trivial|(refine a0y W A E N (L _ _ A.ok A.bc) rfl (fun _ _=>rfl) ?_;clear A E;intro r s1 G A E;have hg:=a2r (hk r s1 G))|refine And.intro ⟨rfl,by decide⟩ ?_|refine And.intro ⟨rfl,hg.1,hg.2⟩ ?_|fail)
  show K (.tup []) (List.take (Y.length+1+1+1+1+1+1+1) (QB l s1 false::PR s1::XN Z T k t v (push ks r.i) Y))
  rw[List.take_of_length_le (by simp only[List.length_cons];omega)]
  exact h r s1 A E
theorem d8r (W:Wk fx F base l) (L:b0j fx F base l n a4c [] fun _ _=> .variant):g2s fx F base l n 85 .variant:=by
  intro Z T k t v ks Y s b p o kk K A E N hk h
  refine b9o (b5z (F:=F)) rfl rfl rfl ?_
  repeat' (first|refine a3a ⟨?_⟩|((conv=>whnf);refine foH ?_)|(refine a6n 3 (by decide) (by decide) rfl ?_ ?_)|exact trivial|(refine a0y W A E N (L _ _ A.ok A.bc) rfl (fun _ _=>rfl) ?_;clear A E;intro r s1 G A E;have hg:=a2r (hk r s1 G))|refine And.intro ⟨rfl,by decide⟩ ?_|refine And.intro ⟨rfl,hg.1,hg.2⟩ ?_|fail)
  show K (.tup []) (List.take (Y.length+1+1+1+1+1+1+1) (QB l s1 false::PR s1::XN Z T k t v (push ks r.i) Y))
  rw[List.take_of_length_le (by simp only[List.length_cons];omega)]
  exact h r s1 A E
end
end Go.Vm.Px
namespace Go.Vm.Px
open Go.Vm.Lex (TokQ)
open Go.Vm.Pa hiding go
open Go.Vm.Ite
section
variable {fx:Nat->Option Obj} {F:Nat->Option a0v} {l:List TokQ} {s s1:PS} {bb:Bool} {X:Hp} {base:Nat->a2v} {n:Nat}
structure c6e (fx:Nat->Option Obj) (F:Nat->Option a0v) (base:Nat->a2v) (l:List TokQ) (n:Nat):Prop where
 typ:b0j fx F base l n 37 [] fun _ _=> .typ
 pat:b0j fx F base l n 39 [] fun _ _=> .pattern
 expr:b0j fx F base l n 22 [] fun _ b=> .expr b
 block:b0j fx F base l n 83 [] fun _ _=> .block
 operand:b0j fx F base l n 88 [.d (.bool true)] fun _ b=> .operand b
 pre:b0j fx F base l n 88 [.d (.bool false)] fun _ b=> .prefix_ b
theorem f0j (W:Wk fx F base l) (L:c6e fx F base l n):b0j fx F base l (n+1) a4c [] fun _ _=> .variant:=by
  intro s bb h hb
  refine a6a (b4p (F:=F)) rfl rfl rfl fun N=>?_
  have A:=At.start h hb
  have E:a0c l (goE l n) (prog .variant) s=goE l (n+1) .variant s:=rfl
  generalize goE l (n+1) .variant s=o at E N⊢
  replace E:=c0o E
  repeat' (first|refine a3a ⟨?_⟩|(refine a2k A ?_)|(refine a2l A ?_)|(refine a0d W A E ?_;clear A E;intro A E)|(refine a1f W A E ?_;clear A E;intro A E)|(refine a0o W A E ?_ ?_<;>clear A E<;>intro A E)|(refine a0t W A E ?_ ?_<;>clear A E<;>intro A E)|(refine a7x A E ?_ ?_<;>clear E<;>intro c E)|(refine a9d A E ?_ ?_<;>clear E<;>intro c E)|(refine a0g W A E ?_ ?_<;>clear A E<;>intro A E)|(refine a1i A E ?_ ?_<;>clear E<;>intro c E)|(refine a0l A E ?_ ?_<;>clear E<;>intro E)|(refine a2g A E N rfl rfl ?_;clear A E;intro i s2 E hat A)|(refine a0n A E N rfl rfl rfl ?_;clear A E;intro i s2 E hat A)|(refine a1h W A E N ?_;clear A E;intro A E)|exact a1j W A E|(refine And.intro ⟨rfl,by decide⟩ ?_)|(refine a0y W A E N (L.typ _ _ A.ok A.bc) rfl (fun _ _=>rfl) ?_;clear A E;intro r s1 G A E)|fail)
  all_goals exact⟨_,_,E.symm,rfl⟩
theorem g4j (W:Wk fx F base l) (L:c6e fx F base l n):b0j fx F base l (n+1) a1y [.d (.int .i64 7)] fun _ _=> .param:=by
  intro s bb h hb
  refine a6a (a9f (F:=F)) rfl rfl rfl fun N=>?_
  have A:=At.start h hb
  have E:a0c l (goE l n) (prog .param) s=goE l (n+1) .param s:=rfl
  generalize goE l (n+1) .param s=o at E N⊢
  replace E:=c0o E
  repeat' (first|refine a3a ⟨?_⟩|(refine a2k A ?_)|(refine a2l A ?_)|(refine a0d W A E ?_;clear A E;intro A E)|(refine a1f W A E ?_;clear A E;intro A E)|(refine a0o W A E ?_ ?_<;>clear A E<;>intro A E)|(refine a0t W A E ?_ ?_<;>clear A E<;>intro A E)|(refine a7x A E ?_ ?_<;>clear E<;>intro c E)|(refine a9d A E ?_ ?_<;>clear E<;>intro c E)|(refine a0g W A E ?_ ?_<;>clear A E<;>intro A E)|(refine a1i A E ?_ ?_<;>clear E<;>intro c E)|(refine a0l A E ?_ ?_<;>clear E<;>intro E)|(refine a2g A E N rfl rfl ?_;clear A E;intro i s2 E hat A)|(refine a0n A E N rfl rfl rfl ?_;clear A E;intro i s2 E hat A)|(refine a1h W A E N ?_;clear A E;intro A E)|exact a1j W A E|(refine And.intro ⟨rfl,by decide⟩ ?_)|(refine a0y W A E N (L.typ _ _ A.ok A.bc) rfl (fun _ _=>rfl) ?_;clear A E;intro r s1 G A E)|fail)
  all_goals exact⟨_,_,E.symm,rfl⟩
theorem g6x (W:Wk fx F base l) (L:c6e fx F base l n):b0j fx F base l (n+1) a1y [.d (.int .i64 5)] fun _ _=> .field:=by
  intro s bb h hb
  refine a6a (a9f (F:=F)) rfl rfl rfl fun N=>?_
  have A:=At.start h hb
  have E:a0c l (goE l n) (prog .field) s=goE l (n+1) .field s:=rfl
  generalize goE l (n+1) .field s=o at E N⊢
  replace E:=c0o E
  repeat' (first|refine a3a ⟨?_⟩|(refine a2k A ?_)|(refine a2l A ?_)|(refine a0d W A E ?_;clear A E;intro A E)|(refine a1f W A E ?_;clear A E;intro A E)|(refine a0o W A E ?_ ?_<;>clear A E<;>intro A E)|(refine a0t W A E ?_ ?_<;>clear A E<;>intro A E)|(refine a7x A E ?_ ?_<;>clear E<;>intro c E)|(refine a9d A E ?_ ?_<;>clear E<;>intro c E)|(refine a0g W A E ?_ ?_<;>clear A E<;>intro A E)|(refine a1i A E ?_ ?_<;>clear E<;>intro c E)|(refine a0l A E ?_ ?_<;>clear E<;>intro E)|(refine a2g A E N rfl rfl ?_;clear A E;intro i s2 E hat A)|(refine a0n A E N rfl rfl rfl ?_;clear A E;intro i s2 E hat A)|(refine a1h W A E N ?_;clear A E;intro A E)|exact a1j W A E|(refine And.intro ⟨rfl,by decide⟩ ?_)|(refine a0y W A E N (L.typ _ _ A.ok A.bc) rfl (fun _ _=>rfl) ?_;clear A E;intro r s1 G A E)|fail)
  all_goals exact⟨_,_,E.symm,rfl⟩
theorem h5y (W:Wk fx F base l) (L:c6e fx F base l n):g9f fx F base l (n+1) a5u [] fun _=> .init:=by
  intro s h hb
  refine a6a (b8s (F:=F)) rfl rfl rfl fun N=>?_
  have A:=At.start h hb
  have E:a0c l (goE l n) (prog .init) s=goE l (n+1) .init s:=rfl
  generalize goE l (n+1) .init s=o at E N⊢
  replace E:=c0o E
  repeat' (first|refine a3a ⟨?_⟩|(refine a2k A ?_)|(refine a2l A ?_)|(refine a0d W A E ?_;clear A E;intro A E)|(refine a1f W A E ?_;clear A E;intro A E)|(refine a0o W A E ?_ ?_<;>clear A E<;>intro A E)|(refine a0t W A E ?_ ?_<;>clear A E<;>intro A E)|(refine a7x A E ?_ ?_<;>clear E<;>intro c E)|(refine a9d A E ?_ ?_<;>clear E<;>intro c E)|(refine a0g W A E ?_ ?_<;>clear A E<;>intro A E)|(refine a1i A E ?_ ?_<;>clear E<;>intro c E)|(refine a0l A E ?_ ?_<;>clear E<;>intro E)|(refine a2g A E N rfl rfl ?_;clear A E;intro i s2 E hat A)|(refine a0n A E N rfl rfl rfl ?_;clear A E;intro i s2 E hat A)|(refine a1h W A E N ?_;clear A E;intro A E)|exact a1j W A E|(refine And.intro ⟨rfl,by decide⟩ ?_)|(refine a0y W A E N (L.expr _ _ A.ok A.bc) rfl (fun _ _=>rfl) ?_;clear A E;intro r s1 G A E)|fail)
  all_goals exact⟨_,_,E.symm,rfl⟩
end
end Go.Vm.Px
namespace Go.Vm.Px
open Go.Vm.Lex (TokQ)
open Go.Vm.Pa hiding go
open Go.Vm.Ite
set_option maxHeartbeats 4000000
section
variable {fx:Nat->Option Obj} {F:Nat->Option a0v} {l:List TokQ} {s s1:PS} {bb:Bool} {X:Hp} {base:Nat->a2v} {n:Nat} {o:Option EX} {b:Bool} {p:Int}
theorem e4a (hl:LOk l) (A:At l b p s) (q:Q):a0c l (goE l n) (.call q .ret) s=goE l n q s:=by
 simp only[a0c]
 cases c:goE l n q s with
 |none=>rfl
 |some y=>
  cases y with
  |bad _ _ _=>rfl
  |ok r s1=>
   have hr:=a7l A.ok
   have:=(c9y hl n q s r s1 hr.1 om c).1.ok A.ok
   simp only[this]
theorem d8e (W:Wk fx F base l) (L:c6e fx F base l n):b0j fx F base l n b8k [] fun _ _=> .expr true:=by
  intro s bb h hb
  refine a6a (b8w (F:=F)) rfl rfl rfl fun N=>?_
  have A:=At.start h hb
  have E:=e4a (n:=n) W.hl A (.expr true)
  generalize goE l n (.expr true) s=o at E N⊢
  repeat' (first|refine a3a ⟨?_⟩|(refine a2k A ?_)|(refine a2l A ?_)|(refine a0d W A E ?_;clear A E;intro A E)|(refine a1f W A E ?_;clear A E;intro A E)|(refine a0o W A E ?_ ?_<;>clear A E<;>intro A E)|(refine a0t W A E ?_ ?_<;>clear A E<;>intro A E)|(refine a7x A E ?_ ?_<;>clear E<;>intro c E)|(refine a9d A E ?_ ?_<;>clear E<;>intro c E)|(refine a0g W A E ?_ ?_<;>clear A E<;>intro A E)|(refine a1i A E ?_ ?_<;>clear E<;>intro c E)|(refine a0l A E ?_ ?_<;>clear E<;>intro E)|(refine a2g A E N rfl rfl ?_;clear A E;intro i s2 E hat A)|(refine a0n A E N rfl rfl rfl ?_;clear A E;intro i s2 E hat A)|(refine a1h W A E N ?_;clear A E;intro A E)|exact a1j W A E|(refine And.intro ⟨rfl,by decide⟩ ?_)|(refine b4w ?_)|(refine b9o (b6q (F:=F)) rfl rfl rfl ?_)|(refine a0y W A E N (L.expr _ _ A.ok A.bc) rfl (fun _ _=>rfl) ?_;clear A E;intro r s1 G A E)|(refine⟨_,_,rfl,rfl,?_⟩)|fail)
  all_goals exact⟨_,_,E.symm,rfl⟩
theorem tl1 (hl:LOk l) {s:PS}:(now l s).t.length+([58,58]:S).length<=9223372036854775807:=by
 have:=hl.txt s.at_.toNat
 have e:(now l s).t.length<=1000000:=this
 simp only[List.length_cons,List.length_nil];omega
theorem tl2 (hl:LOk l) {s s':PS}:((now l s).t++[58,58]).length+(now l s').t.length<=9223372036854775807:=by
 have e1:(now l s).t.length<=1000000:=hl.txt s.at_.toNat
 have e2:(now l s').t.length<=1000000:=hl.txt s'.at_.toNat
 simp only[List.length_append,List.length_cons,List.length_nil];omega
theorem h5s (N:o≠none) {kk:R->Pr} (ks:Pa.K) (s:PS) (E:a0c l (goE l n) (.call (.args ks) kk) s=o):a0c l (goE l n) (a1c (g1h [41] (.expr false) ks .args rK) kk) s=o:=a7g N E
theorem g3d (N:o≠none) {kk:R->Pr} (ks:Pa.K) (s:PS) (E:a0c l (goE l n) (.call (.inits ks) kk) s=o):a0c l (goE l n) (a1c (g1h [125] .init ks .inits rK) kk) s=o:=a7g N E
theorem g2n (W:Wk fx F base l) (L:c6e fx F base l n) (LI:g9f fx F base l n a5u [] fun _=> .init) (s:PS) (bb:Bool) (h:okS l s=true) (hb:Zf s) (k1:(now l s).k=1):Says (pgL fx F) (base 0) a9c [.ptr 0 0] [QB l s bb,PR s] (goE l (n+1) (.named s.at_ bb) s) (leftV l bb [] fun r s'=> .d (b3s l s r s')):=by
  refine a6a (b7w (F:=F)) rfl rfl rfl fun N=>?_
  have A:=At.start h hb
  have E:a0c l (goE l n) (e9h (now l s) s.at_ bb fun i=> .ret (rI i)) s=goE l (n+1) (.named s.at_ bb) s:=g5e W.hl A k1 rfl
  generalize goE l (n+1) (.named s.at_ bb) s=o at E N⊢
  cases bb
  all_goals
   repeat' (first|refine a3a ⟨?_⟩|(refine a2k A ?_)|(refine a2l A ?_)|(refine a0d W A E ?_;clear A E;intro A E)|(refine a1f W A E ?_;clear A E;intro A E)|(refine a0o W A E ?_ ?_<;>clear A E<;>intro A E)|(refine a0t W A E ?_ ?_<;>clear A E<;>intro A E)|(refine a7x A E ?_ ?_<;>clear E<;>intro c E)|(refine a9d A E ?_ ?_<;>clear E<;>intro c E)|(refine a0g W A E ?_ ?_<;>clear A E<;>intro A E)|(refine a1i A E ?_ ?_<;>clear E<;>intro c E)|(refine a0l A E ?_ ?_<;>clear E<;>intro E)|(refine a2g A E N rfl rfl ?_;clear A E;intro i s2 E hat A)|(refine a0n A E N rfl rfl rfl ?_;clear A E;intro i s2 E hat A)|(refine a1h W A E N ?_;clear A E;intro A E)|exact a1j W A E|(refine And.intro ⟨rfl,by decide⟩ ?_)|(refine f0q W (h5s N) N (f8s W L.expr) A E ?_;clear A E;intro ks s1 A E;obtain⟨gk,E⟩:=c6q N E)|(refine f0q W (g3d N) N (f4t W LI) A E ?_;clear A E;intro ks s1 A E;obtain⟨gk,E⟩:=c6q N E)|(refine And.intro (a2r gk).1 ?_)|(refine a6n 4 (by decide) (by decide) rfl ?_ ?_)|exact trivial|(refine And.intro (tl1 W.hl) ?_)|(refine And.intro (tl2 W.hl) ?_)|(refine b4w ?_)|(refine b9o (b4a (F:=F)) rfl rfl rfl ?_)|(refine a0y W A E N (L.expr _ _ A.ok A.bc) rfl (fun _ _=>rfl) ?_;clear A E;intro r s1 G A E)|(refine⟨_,_,rfl,rfl,?_⟩)|fail)
   all_goals first|exact⟨_,_,E.symm,rfl⟩|skip
end
end Go.Vm.Px
namespace Go.Vm.Px
open Go.Vm.Lex (TokQ)
open Go.Vm.Pa hiding go
open Go.Vm.Ite
set_option maxHeartbeats 4000000
def kidV (l:List TokQ) (bb:Bool) (X:Hp):R->PS->V->Hp->Prop:=fun r s' v H'=>H'=QB l s' bb::PR s'::X/\∃ f e,v= .d (c5i r.i f e)
def kidB (l:List TokQ) (bb:Bool) (X:Hp):R->PS->V->Hp->Prop:=fun r s' v H'=>H'=QB l s' bb::PR s'::X/\∃ f e,v= .tup [.d (c5i r.i f e),.d (.bool r.b)]
section
variable {fx:Nat->Option Obj} {F:Nat->Option a0v} {l:List TokQ} {s s1:PS} {bb:Bool} {X:Hp} {base:Nat->a2v} {n:Nat} {o:Option EX} {b:Bool} {p:Int} {g:Q->PS->Option EX} {K:V->Hp->Prop}
def g8a (fx:Nat->Option Obj) (F:Nat->Option a0v) (base:Nat->a2v) (l:List TokQ) (n:Nat) (f:Nat) (q:Int->Q):Prop:=∀ (s:PS),okS l s=true->Zf s->e0n (pgL fx F) (base 0) f [.ptr 0 0] [QB l s false,PR s] (goE l n (q s.at_) s) (kidV l false [])
def g2d (fx:Nat->Option Obj) (F:Nat->Option a0v) (base:Nat->a2v) (l:List TokQ) (n:Nat) (f:Nat) (q:Int->Q):Prop:=∀ (s:PS),okS l s=true->Zf s->e0n (pgL fx F) (base 0) f [.ptr 0 0] [QB l s false,PR s] (goE l n (q s.at_) s) (kidB l false [])
theorem g8a.mono {m f:Nat} {q:Int->Q} (h:g8a fx F base l m f q) (hn:n<=m):g8a fx F base l n f q:=fun s h1 h2=>(h s h1 h2).mono fun _ e=>a6r hn e
theorem g2d.mono {m f:Nat} {q:Int->Q} (h:g2d fx F base l m f q) (hn:n<=m):g2d fx F base l n f q:=fun s h1 h2=>(h s h1 h2).mono fun _ e=>a6r hn e
theorem e0h (W:Wk fx F base l) (A:At l b p s) {q:Q} {k:R->Pr} (E:a0c l (goE l n) (.call q k) s=o) (N:o≠none) {f:Nat} {a:List V} {kv:R->PS->V->Hp->Prop} (S:e0n (pgL fx F) (base 0) f a [QB l s bb,PR s] (goE l n q s) kv) (ha:a0z 2 a=true) (hv:∀ r s v H',kv r s v H'->H'=[QB l s bb,PR s]/\v.und 2=true)
 (h:∀ r s1 v,goE l n q s=some (.ok r s1)->kv r s1 v [QB l s1 bb,PR s1]->At l (b||eats q) p s1->a0c l (goE l n) (k r) s1=o->K v (QB l s1 bb::PR s1::X)):
 a4h (pgL fx F) (a1q (pgL fx F) (base 0)) f a (QB l s bb::PR s::X) K (d0b o):=by
 simp only[a0c]at E
 cases c:goE l n q s with
 |none=>rw[c]at E;exact absurd E.symm N
 |some y=>
  rw[c]at E S
  cases y with
  |bad c f e=>exact cxd (e4y W.hF W.hb S ha) ⟨_,_,_,E.symm,rfl⟩
  |ok r s1=>
   simp only at E
   cases c2:okS l s1 with
   |false=>rw[c2]at E;exact absurd E.symm N
   |true=>
    rw[c2]at E
    obtain⟨v,H',h1,h2⟩:=S
    obtain⟨rfl,h3⟩:=hv _ _ _ _ h2
    exact cxq (d2a W.hF (h:=[QB l s bb,PR s]) (h':=[QB l s1 bb,PR s1]) (X:=X) h1 ha rfl rfl rfl h3) (h r s1 v c h2 (A.call W.hl c c2) E)
theorem f8y (r:R) (s:PS) (v:V) (H':Hp) (h:kidV l bb [] r s v H'):H'=[QB l s bb,PR s]/\v.und 2=true:=by
 obtain⟨h1,f,e,rfl⟩:=h
 exact⟨h1,rfl⟩
theorem e3u (r:R) (s:PS) (v:V) (H':Hp) (h:kidB l bb [] r s v H'):H'=[QB l s bb,PR s]/\v.und 2=true:=by
 obtain⟨h1,f,e,rfl⟩:=h
 exact⟨h1,rfl⟩
theorem i3r {i:Int} (E:a0c l g (.is [125] fun b=>match b with|true=> .ret (rI i)|false=> .need [44] (.ret (rI i))) s=o):a0c l g (.take [44] fun b=>match b with|true=> .ret (rI i)|false=> .is [125] fun b=>match b with|true=> .ret (rI i)|false=> .fail .dead) s=o:=by
  simp only[a0c]at E⊢
  by_cases h:isS l s [44]=true
  ·have h2:=d0a h (y:=[125]) (by decide)
   simp only[h,h2,a0c]at E⊢
   exact E
  have h:=eq_false_of_ne_true h
  simp only[h,a0c]at E⊢
  cases c:isS l s [125]<;>simp only[c,h,a0c]at E⊢ <;>exact E
theorem i1v (W:Wk fx F base l) (L:c6e fx F base l n):g8a fx F base l (n+1) a6k fun _=> .arm:=by
  intro s h hb
  refine e7j (c0y (F:=F)) rfl rfl rfl fun N=>?_
  have A:=At.start h hb
  have E:a0c l (goE l n) (prog .arm) s=goE l (n+1) .arm s:=rfl
  generalize goE l (n+1) .arm s=o at E N⊢
  replace E:=c0o E
  repeat' (first|refine a3a ⟨?_⟩|(refine a2k A ?_)|(refine a2l A ?_)|(refine a0d W A E ?_;clear A E;intro A E)|(refine a1f W A E ?_;clear A E;intro A E)|(refine a0o W A E ?_ ?_<;>clear A E<;>intro A E)|(refine a0t W A E ?_ ?_<;>clear A E<;>intro A E)|(refine a7x A E ?_ ?_<;>clear E<;>intro c E)|(refine a9d A E ?_ ?_<;>clear E<;>intro c E)|(refine a0g W A E ?_ ?_<;>clear A E<;>intro A E)|(refine a1i A E ?_ ?_<;>clear E<;>intro c E)|(refine a0l A E ?_ ?_<;>clear E<;>intro E)|(refine a2g A E N rfl rfl ?_;clear A E;intro i s2 E hat A)|(refine a0n A E N rfl rfl rfl ?_;clear A E;intro i s2 E hat A)|(refine a1h W A E N ?_;clear A E;intro A E)|exact a1j W A E|(refine And.intro ⟨rfl,by decide⟩ ?_)|(refine a0y W A E N (L.pat _ _ A.ok A.bc) rfl (fun _ _=>rfl) ?_;clear A E;intro r s1 G A E)|(refine a0y W A E N (L.expr _ _ A.ok A.bc) rfl (fun _ _=>rfl) ?_;clear A E;intro r s1 G A E)|(refine a0y W A E N (L.block _ _ A.ok A.bc) rfl (fun _ _=>rfl) ?_;clear A E;intro r s1 G A E)|(replace E:=i3r E)|fail)
  all_goals exact⟨_,_,E.symm,rfl,_,_,rfl⟩
abbrev XM (Z T:Ob) (k:Int) (t:S) (v:Int) (ks:Pa.K):Hp:=[.box [.ptr 0 0],Z,T,.row 1 ks.l,g7c k t v ks.n 5]
theorem f9l (W:Wk fx F base l) (LA:g8a fx F base l n a6k fun _=> .arm) {kk:R->Pr} (N:o≠none) {Z T:Ob} {k:Int} {t:S} {v:Int} {ks0:Pa.K}
    (A0:At l false p s) (E0:a0c l (goE l n) (.call (.arms ks0) kk) s=o)
    (h:∀ ks s1,At l false p s1->a0c l (goE l n) (kk (rK ks)) s1=o->K (.tup []) (QB l s1 false::PR s1::XM Z T k t v ks)):
    a4h (pgL fx F) (a1q (pgL fx F) (base 0)) b4g [.ptr 2 0,.ptr 6 0] (QB l s false::PR s::XM Z T k t v ks0) K (d0b o):=by
  refine b9o (b4h (F:=F)) rfl rfl rfl ?_
  repeat' (first|refine a3a ⟨?_⟩|fail)
  refine b1y (α:=Pa.K×PS) (fun a=>(l.length - a.2.at_).toNat) (fun _=>[(0,.ptr 2 0),(1,.ptr 6 0)]) (fun a=>QB l a.2 false::PR a.2::XM Z T k t v a.1) (fun a=>At l false p a.2/\a0c l (goE l n) (.call (.arms a.1) kk) a.2=o) ?_ (ks0,s) ⟨A0,E0⟩ rfl rfl
  rintro⟨ks,s2⟩ ⟨A,E⟩
  simp only at A E
  replace E:a0c l (goE l n) (.is [125] fun b=>match b with|true=>kk (rK ks)|false=> .call .arm fun r=>a1c (guard (okK ks) (.tail (.arms (push ks r.i)))) kk) s2=o:=by
    have:=h4i (a7g N E)
    simp only[prog,a1c,a0c]at this⊢
    cases c:isS l s2 [125]<;>rw[c]at this<;>simpa only[a1c] using this
  have A':=A.here
  repeat' (first|refine a3a ⟨?_⟩|(refine a7x A' E ?_ ?_<;>clear E<;>intro c E)|fail)
  ·have:=h ks s2 A E
   exact this
  ·have hk:=f7t N W.hl A' E
   repeat' (first|refine a3a ⟨?_⟩|(refine a6n 3 (by decide) (by decide) rfl ?_ ?_)|exact trivial|(refine e0h W A' E N (LA _ A'.ok A'.bc) rfl f8y ?_;clear E;rintro r s3 v G ⟨_,f,e,rfl⟩ A3 E;have hg:=a2r (hk r s3 G);replace E:=c6a N E)|refine And.intro ⟨rfl,by decide⟩ ?_|refine And.intro ⟨rfl,hg.1,hg.2⟩ ?_|fail)
   have h3:=A3.lt rfl
   have h5:=a7l A3.ok
   refine⟨(push ks r.i,s3),⟨(A.trans A3).weak,E⟩,?_,rfl,rfl⟩
   show(l.length - s3.at_).toNat < (l.length - s2.at_).toNat
   omega
theorem match_x (W:Wk fx F base l) (L:c6e fx F base l n) (LA:g8a fx F base l n a6k fun _=> .arm):b0j fx F base l (n+1) a8y [] fun _ _=> .match_:=by
  intro s bb h hb
  refine a6a (b7p (F:=F)) rfl rfl rfl fun N=>?_
  have A:=At.start h hb
  have E:a0c l (goE l n) (prog .match_) s=goE l (n+1) .match_ s:=rfl
  generalize goE l (n+1) .match_ s=o at E N⊢
  replace E:=c0o E
  repeat' (first|refine a3a ⟨?_⟩|(refine a2k A ?_)|(refine a2l A ?_)|(refine a0d W A E ?_;clear A E;intro A E)|(refine a1f W A E ?_;clear A E;intro A E)|(refine a0o W A E ?_ ?_<;>clear A E<;>intro A E)|(refine a0t W A E ?_ ?_<;>clear A E<;>intro A E)|(refine a7x A E ?_ ?_<;>clear E<;>intro c E)|(refine a9d A E ?_ ?_<;>clear E<;>intro c E)|(refine a0g W A E ?_ ?_<;>clear A E<;>intro A E)|(refine a1i A E ?_ ?_<;>clear E<;>intro c E)|(refine a0l A E ?_ ?_<;>clear E<;>intro E)|(refine a2g A E N rfl rfl ?_;clear A E;intro i s2 E hat A)|(refine a0n A E N rfl rfl rfl ?_;clear A E;intro i s2 E hat A)|(refine a1h W A E N ?_;clear A E;intro A E)|exact a1j W A E|(refine And.intro ⟨rfl,by decide⟩ ?_)|(refine a0y W A E N ((d8e W L) _ _ A.ok A.bc) rfl (fun _ _=>rfl) ?_;clear A E;intro r s1 G A E)|(refine b4w (f9l (ks0:=⟨Pa.one r.i,1⟩) W LA N A.weak E ?_);clear A E;intro ks s1 A E;refine⟨_,_,rfl,rfl,?_⟩)|(obtain⟨gk,E⟩:=c6q N E)|(refine And.intro (a2r gk).1 ?_)|fail)
  all_goals exact⟨_,_,E.symm,rfl⟩
end
end Go.Vm.Px
