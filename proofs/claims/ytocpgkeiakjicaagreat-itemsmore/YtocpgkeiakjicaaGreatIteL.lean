import Derived.Test.YtocpgkeiakjicaaGreatVmRun
import Derived.Test.YtocpgkeiakjicaaGreatVmWp2
import Derived.Laws.Cover3
import Derived.Test.YtocpgkeiakjicaaGreatTypP25
import Derived.Test.YtocpgkeiakjicaaGreatVmOps2
set_option maxRecDepth 100000
set_option linter.unusedVariables false
set_option linter.unusedSimpArgs false
namespace Go.Vm
abbrev u8 (c:UInt8):V:= .d (.int .u8 c.toNat)
abbrev str (s:List UInt8):V:= .d (.str s)
abbrev i64 (n:Int):V:= .d (.int .i64 n)
abbrev boo (b:Bool):V:= .d (.bool b)
theorem a5u {α:Type} {s:List α} {i:Nat} (h:i < s.length) {k:α->Prop} (hk:k s[i]):∃ c,((0:Int)<=(i:Int)/\s[(i:Int).toNat]? =some c)/\k c:=
 ⟨s[i],⟨om,by rw[Int.toNat_natCast,List.getElem?_eq_getElem h]⟩,hk⟩
theorem e0t {α:Type} {p:α->Bool} {s:List α} {i:Nat} (hi:i < s.length) (h:(s.take i).all p=true) (hp:p s[i]=true):(s.take (i+1)).all p=true:=by
 rw[List.take_add_one,List.getElem?_eq_getElem hi,List.all_append,h]
 simp[hp]
theorem a0f {α:Type} {l:List α} {n:Int} {d:α} (h:0<=n/\l[n.toNat]? =some d) {k:α->Prop} (hk:k d):∃ c,(0<=n/\l[n.toNat]? =some c)/\k c:=⟨d,h,hk⟩
theorem a0j {b:Bool} {X Y:Prop} (h:b=true) (x:X):(b=true->X)/\(b=false->Y):=⟨fun _=>x,fun e=>by rw[h]at e;cases e⟩
theorem a0h {b:Bool} {X Y:Prop} (h:b=false) (y:Y):(b=true->X)/\(b=false->Y):=⟨fun e=>by(rw[h]at e;cases e),fun _=>y⟩
theorem a4s {b:Bool} {X Y:Prop} (h:b=true) (x:X):(b=false->Y)/\(b=(!false)->X):=⟨fun e=>by(rw[h]at e;cases e),fun _=>x⟩
theorem a3u {b:Bool} {X Y:Prop} (h:b=false) (y:Y):(b=false->Y)/\(b=(!false)->X):=⟨fun _=>y,fun e=>by(rw[h]at e;cases e)⟩
theorem b2t {b:Bool} {X Y:Prop} (h:b=true) (x:X):(b=true->X)/\(b=(!true)->Y):=⟨fun _=>x,fun e=>by(rw[h]at e;cases e)⟩
theorem a7x {b:Bool} {X Y:Prop} (h:b=false) (y:Y):(b=true->X)/\(b=(!true)->Y):=⟨fun e=>by(rw[h]at e;cases e),fun _=>y⟩
theorem ca {x:Option (V×Hp)} {p:V->Hp->Prop} {r:V} {H:Hp} (h:x=some (r,H)) (k:p r H):∃ r H,x=some (r,H)/\p r H:=⟨r,H,h,k⟩
theorem f9t {b:Bool} {l:List V} {k:List V->Prop} (h:b=true) (hk:k l):chk b (a1h l k):=e2u h (by rw[a0u];exact hk)
theorem d3w:∀ {c:List V} {n:Nat} {v:V},n < c.length->putAt c n [v]=c.set n v
 |[],n,v,h=>by simp at h
 |a::c,0,v,_=>by simp[putAt]
 |a::c,n+1,v,h=>by
  simp only[List.length_cons]at h
  simp only[putAt,List.set_cons_succ]
  rw[d3w om]
theorem e8q {α:Type} (f:α->V) {l:List α} {n:Nat} {a:α} (h:n < l.length):putAt (l.map f) n [f a]=(l.set n a).map f:=by
 rw[d3w (by rw[List.length_map];exact h),List.map_set]
theorem fz {c:List V} {ds:List D} {p:List D->Prop} (h:b4x c=some ds) (k:p ds):∃ ds,b4x c=some ds/\p ds:=⟨ds,h,k⟩
theorem b5f {pg:Pg} {ks:List Nat} {c:a0m} {b:Nat} {α:Type} (μ:α->Nat) (E:α->Env) (Hf:α->Hp) (P:α->Prop) {Q:Ex->Kn->Env->Hp->Prop} {e0:Env} {h0:Hp}
 (step:∀ a,P a->d8k (Hf a) 0 fun n=>c9r (E a) ks fun e=>wp pg n c [] e (Hf a) (fun x _ e' H'=>match x with
   | .nrm=>d8h n e' ks fun e2=>a1h (H'.take n) fun H2=> ∃ a',P a'/\μ a' < μ a/\e2=E a'/\H2=Hf a'
   | .exit i=>Q (.exit i) [] e' H'
   | .ret=>Q .ret [] e' H')) (a:α) (ha:P a) (he:e0=E a) (hh:h0=Hf a):d2a pg b ks c e0 h0 Q:=by
 subst he;subst hh;exact wp_loop μ E Hf P step a ha
end Go.Vm
namespace Go.Vm
section
variable {pg:Pg} {b:Nat}
structure WQ (pg:Pg) (b:Nat) (c:a0m) (kn:Kn) (e:Env) (H:Hp) (Q:Ex->Kn->Env->Hp->Prop):Prop where
 imp:a6p kn e->∃ x kn' e' H',ev pg c ⟨e,H,b⟩=some (x,⟨e',H',b⟩)/\a6p kn' e'/\Q x kn' e' H'
structure KS (pg:Pg) (b:Nat) (d:a0m) (Q:Ex->Kn->Env->Hp->Prop) (x:Ex) (kn:Kn) (e:Env) (H:Hp):Prop where
 nrm:x= .nrm->WQ pg b d kn e H Q
 exit:∀ i,x= .exit i->Q (.exit i) kn e H
 ret:x= .ret->Q .ret kn e H
structure KB (id:Nat) (Q:Ex->Kn->Env->Hp->Prop) (x:Ex) (kn:Kn) (e:Env) (H:Hp):Prop where
 nrm:x= .nrm->Q .nrm kn e H
 hit:∀ i,x= .exit i->i.beq id=true->Q .nrm kn e H
 exit:∀ i,x= .exit i->i.beq id=false->Q (.exit i) kn e H
 ret:x= .ret->Q .ret kn e H
structure KL (P:Env->Hp->Prop) (Q:Ex->Kn->Env->Hp->Prop) (x:Ex) (e:Env) (H:Hp):Prop where
 nrm:x= .nrm->P e H
 exit:∀ i,x= .exit i->Q (.exit i) [] e H
 ret:x= .ret->Q .ret [] e H
variable {c d:a0m} {Q:Ex->Kn->Env->Hp->Prop} {kn:Kn} {e:Env} {H:Hp}
theorem g8o (h:WQ pg b d kn e H Q):KS pg b d Q .nrm kn e H:=by constructor<;>intros<;>simp_all
theorem g3o {i:Nat} (h:Q (.exit i) kn e H):KS pg b d Q (.exit i) kn e H:=by constructor<;>intros<;>simp_all
theorem g9h (h:Q .ret kn e H):KS pg b d Q .ret kn e H:=by constructor<;>intros<;>simp_all
theorem h2p {id:Nat} (h:Q .nrm kn e H):KB id Q .nrm kn e H:=by constructor<;>intros<;>simp_all
theorem g8c {id i:Nat} (hi:i.beq id=true) (h:Q .nrm kn e H):KB id Q (.exit i) kn e H:=by constructor<;>intros<;>simp_all
theorem g1d {id i:Nat} (hi:i.beq id=false) (h:Q (.exit i) kn e H):KB id Q (.exit i) kn e H:=by constructor<;>intros<;>simp_all
theorem h4a {id:Nat} (h:Q .ret kn e H):KB id Q .ret kn e H:=by constructor<;>intros<;>simp_all
theorem g9l {P:Env->Hp->Prop} (h:P e H):KL P Q .nrm e H:=by constructor<;>intros<;>simp_all
theorem g4u {P:Env->Hp->Prop} {i:Nat} (h:Q (.exit i) [] e H):KL P Q (.exit i) e H:=by constructor<;>intros<;>simp_all
theorem g9q {P:Env->Hp->Prop} (h:Q .ret [] e H):KL P Q .ret e H:=by constructor<;>intros<;>simp_all
theorem g6j (h:wp pg b c kn e H Q):WQ pg b c kn e H Q:=⟨fun hk=>b6o hk h⟩
theorem q_skip (h:Q .nrm kn e H):WQ pg b .skip kn e H Q:=⟨fun hk=>⟨_,_,_,_,rfl,hk,h⟩⟩
theorem q_exit {i:Nat} (h:Q (.exit i) kn e H):WQ pg b (.exit i) kn e H Q:=⟨fun hk=>⟨_,_,_,_,rfl,hk,h⟩⟩
theorem g9m (h:Q .ret kn e H):WQ pg b .ret kn e H Q:=⟨fun hk=>⟨_,_,_,_,rfl,hk,h⟩⟩
theorem q_reg {ops:List a0c} (h:wpOps pg b ops kn e H fun kn e H=>Q .nrm kn e H):WQ pg b (.reg ops) kn e H Q:=⟨fun hk=>by
  obtain⟨kn',e',H',h1,hk',h2⟩:=b4n hk h
  exact⟨_,kn',e',H',by rw[f8j,evR,h1];rfl,hk',h2⟩⟩
theorem f9d {m:Nat} {ops:List a0c} (h:c3w pg b m ops kn e H fun kn e H=>Q .nrm kn e H):WQ pg b (.draw m ops) kn e H Q:=⟨fun hk=>by
  obtain⟨kn',e',H',h1,hk',h2⟩:=b4w hk h
  exact⟨_,kn',e',H',f1v pg h1,hk',h2⟩⟩
theorem a0a (d:Nat) {m:Nat} {ops:List a0c} (hd:d < m) (hm:m<=ops.length) (h:d6b pg b d m ops kn e H fun kn e H=>Q .nrm kn e H):WQ pg b (.draw m ops) kn e H Q:=⟨fun hk=>by
  obtain⟨kn',e',H',h1,hk',h2⟩:=d8z hd hm hk h
  refine⟨.nrm,kn',e',H',?_,hk',h2⟩
  show(b0x pg.toCx (evF pg) m ops ⟨e,H,b⟩).map _=_
  rw[h1];rfl⟩
theorem d0g (d:Nat) {m:Nat} {ops:List a0c} (hm:m=d+2) (h:c9i pg b d ops kn e H fun kn e H=>Q .nrm kn e H):WQ pg b (.draw m ops) kn e H Q:=⟨fun hk=>by
  obtain⟨kn',e',H',h1,hk',h2⟩:=d2m hm hk h
  refine⟨.nrm,kn',e',H',?_,hk',h2⟩
  show(b0x pg.toCx (evF pg) m ops ⟨e,H,b⟩).map _=_
  rw[h1];rfl⟩
def h4n (m:Nat) (ops:List a0c):Bool:=((ops.take m).all fun o=>match o.op with| .call .. | .callv .. | .app .. =>false|_=>true) && (Nat.ble m 2|| !e2s (m - 3) ops)
theorem g3b {m:Nat} {ops:List a0c} (_:h4n m ops=true) (h:c3w pg b m ops kn e H fun kn e H=>Q .nrm kn e H):WQ pg b (.draw m ops) kn e H Q:=f9d h
theorem h1u (h:WQ pg b c kn e H (KS pg b d Q)):WQ pg b (.seq c d) kn e H Q:=⟨fun hk=>by
  obtain⟨x,kn',e',H',h1,hk',h2⟩:=h.imp hk
  cases x with
  |nrm=>
   obtain⟨x2,kn2,e2,H2,h3,hk2,h4⟩:=(h2.nrm rfl).imp hk'
   exact⟨x2,kn2,e2,H2,by rw[c8n,h1,f9j,h3],hk2,h4⟩
  |exit i=>exact⟨_,kn',e',H',by rw[c8n,h1,e7x],hk',h2.exit _ rfl⟩
  |ret=>exact⟨_,kn',e',H',by rw[c8n,h1,f9a],hk',h2.ret rfl⟩⟩
theorem e9s (h:WQ pg b c kn e H Q):WQ pg b (.scope c) kn e H Q:=⟨fun hk=>by
  obtain⟨x,kn',e',H',h1,hk',h2⟩:=h.imp hk
  exact⟨x,kn',e',H',by rw[d9g,h1],hk',h2⟩⟩
theorem e8k {id:Nat} (h:WQ pg b c kn e H (KB id Q)):WQ pg b (.block id c) kn e H Q:=⟨fun hk=>by
  obtain⟨x,kn',e',H',h1,hk',h2⟩:=h.imp hk
  cases x with
  |nrm=>exact⟨_,kn',e',H',by rw[b0h,h1,e5s],hk',h2.nrm rfl⟩
  |ret=>exact⟨_,kn',e',H',by rw[b0h,h1,f0x],hk',h2.ret rfl⟩
  |exit i=>
   by_cases hi:i=id
   ·exact⟨_,kn',e',H',by rw[b0h,h1,c2v,if_pos hi],hk',h2.hit _ rfl (g6i hi)⟩
   ·exact⟨_,kn',e',H',by rw[b0h,h1,c2v,if_neg hi],hk',h2.exit _ rfl (g2y hi)⟩⟩
theorem q_cond {i:Nat} (h:match look kn i with
      |some true=>WQ pg b c kn e H Q
      |some false=>WQ pg b d kn e H Q
      |none=>match gE e i with
       | .d (.bool t)=>(t=true->WQ pg b c ((i,true)::kn) e H Q)/\(t=false->WQ pg b d ((i,false)::kn) e H Q)
       |_=>False):WQ pg b (.cond (.t i) c d) kn e H Q:=⟨fun hk=>by
  have yes:evO pg.toCx e (.t i)= .d (.bool true)->∀ {kn},a6p kn e->WQ pg b c kn e H Q->∃ x kn' e' H',ev pg (.cond (.t i) c d) ⟨e,H,b⟩=some (x,⟨e',H',b⟩)/\a6p kn' e'/\Q x kn' e' H':=by
   intro ht kn hk h
   obtain⟨x,kn',e',H',h1,hk',h2⟩:=h.imp hk
   exact⟨x,kn',e',H',by rw[c9n];simp only[ht,c3l,if_true];exact h1,hk',h2⟩
  have no:evO pg.toCx e (.t i)= .d (.bool false)->∀ {kn},a6p kn e->WQ pg b d kn e H Q->∃ x kn' e' H',ev pg (.cond (.t i) c d) ⟨e,H,b⟩=some (x,⟨e',H',b⟩)/\a6p kn' e'/\Q x kn' e' H':=by
   intro ht kn hk h
   obtain⟨x,kn',e',H',h1,hk',h2⟩:=h.imp hk
   exact⟨x,kn',e',H',by rw[c9n];simp only[ht,c3l];exact h1,hk',h2⟩
  split at h
  ·rename_i ht;exact yes (hk i _ ht) hk h
  ·rename_i ht;exact no (hk i _ ht) hk h
  ·rw[b8g]at h
   split at h
   ·rename_i t ht
    cases t with
    |true=>exact yes ht (hk.add ht) (h.1 rfl)
    |false=>exact no ht (hk.add ht) (h.2 rfl)
   ·cases h⟩
theorem e2w {sz t:Nat} (h:wp pg b (.newrow sz t) kn e H Q):WQ pg b (.newrow sz t) kn e H Q:=g6j h
theorem d3b {sz t o:Nat} (h:wp pg b (.bindrow sz t o) kn e H Q):WQ pg b (.bindrow sz t o) kn e H Q:=g6j h
theorem d9j {t:Nat} (h:wp pg b (.freeze t) kn e H Q):WQ pg b (.freeze t) kn e H Q:=g6j h
theorem e6k {sz:Nat} (h:wp pg b (.mkrow sz) kn e H Q):WQ pg b (.mkrow sz) kn e H Q:=g6j h
theorem e0p {t o k:Nat} (h:wp pg b (.bindto t o k) kn e H Q):WQ pg b (.bindto t o k) kn e H Q:=g6j h
theorem f8f {ks:List Nat} (h:c9r e ks fun e=>d2a pg b ks c e H Q):WQ pg b (.loop ks c) kn e H Q:=g6j h
theorem a0o {ks:List Nat} {α:Type} (μ:α->Nat) (E:α->Env) (Hf:α->Hp) (P:α->Prop)
 (step:∀ a,P a->d8k (Hf a) 0 fun n=>c9r (E a) ks fun e=>WQ pg n c [] e (Hf a) fun x _ e' H'=>KL (fun e' H'=>d8h n e' ks fun e2=>a1h (H'.take n) fun H2=> ∃ a',P a'/\μ a' < μ a/\e2=E a'/\H2=Hf a') Q x e' H') (a:α) (ha:P a) {e0:Env} {h0:Hp} (he:e0=E a) (hh:h0=Hf a):d2a pg b ks c e0 h0 Q:=by
 subst he;subst hh
 have key:∀ n,∀ a,μ a < n->P a->∃ x e' H',ev pg (.loop ks c) ⟨E a,Hf a,b⟩=some (x,⟨e',H',b⟩)/\Q x [] e' H':=by
  intro n
  induction n with
  |zero=>intro a h;omega
  |succ n ih=>
   intro a hn ha
   have st:=step a ha
   rw[b0r,c2y,Nat.zero_add]at st
   obtain⟨x,kn',e',H',h1,_,h2⟩:=st.imp (a6p.nil _)
   rw[d1m]
   simp only[h1]
   cases x with
   |nrm=>
    have h2:=h2.nrm rfl
    simp only[c9z,a0u]at h2
    obtain⟨a',h3,h4,h5,h6⟩:=h2
    simp only[e7i,h5,h6]
    exact ih a' om h3
   |exit i=>exact⟨_,e',H',rfl,h2.exit _ rfl⟩
   |ret=>exact⟨_,e',H',rfl,h2.ret rfl⟩
 unfold d2a
 exact key (μ a+1) a om ha
theorem a5v {f:Nat} {vf:VFn} (ht:pg.tbl f=some (.code vf)) {a:List V} (hn:a.length=vf.np) (hu:(a1a 0 a && !vf.keep)=true) {r:V} (h:c4q 0 a fun e=>WQ pg 0 vf.body [] e [] (g5z vf.res 0 fun v _=>v=r)) (H:Hp):evF pg f a H=some (r,H):=by
  rw[a9x]at h
  obtain⟨x,kn,e,H',h1,_,h2⟩:=h.imp (a6p.nil _)
  obtain⟨r',h3,h4⟩:=b8o (b:=0) h2
  have hk:vf.keep=false:=by cases hh:vf.keep<;>simp_all
  refine f7p ht hn hu (h':=H'.take 0) ?_ H
  rw[b1q,h1,hk,h3,h4]
theorem a0e {f:Nat} {vf:VFn} (ht:pg.tbl f=some (.code vf)) {a:List V} (hn:a.length=vf.np) (hk:vf.keep=false) (hu:a1a 0 a=false) {r:V} {H H2:Hp} (h:c4q 0 a fun e=>WQ pg H.length vf.body [] e H (g5z vf.res H.length fun v H'=>v=r/\H'.take H.length=H2)):evF pg f a H=some (r,H2):=by
  rw[a9x]at h
  obtain⟨x,kn,e,H',h1,_,h2⟩:=h.imp (a6p.nil _)
  obtain⟨r',h3,h4,h5⟩:=b8o (b:=H.length) h2
  rw[d9h ht hn (by rw[hu];rfl),b1q,h1,hk,h3,h4,h5]
end
end Go.Vm
namespace Go.Vm
section
variable {b:Bool} {X Y:Prop}
theorem b1 (x:X) (h:b=true:=by first|with_reducible rfl|exact rfl|exact decide_eq_true (by assumption)|assumption):(b=true->X)/\(b=false->Y):=a0j h x
theorem b2 (y:Y) (h:b=false:=by first|with_reducible rfl|exact rfl|exact decide_eq_false (by assumption)|assumption):(b=true->X)/\(b=false->Y):=a0h h y
theorem b3 (x:X) (h:b=true:=by first|with_reducible rfl|exact rfl|exact decide_eq_true (by assumption)|assumption):(b=false->Y)/\(b=(!false)->X):=a4s h x
theorem b4 (y:Y) (h:b=false:=by first|with_reducible rfl|exact rfl|exact decide_eq_false (by assumption)|assumption):(b=false->Y)/\(b=(!false)->X):=a3u h y
theorem b5 (x:X) (h:b=true:=by first|with_reducible rfl|exact rfl|exact decide_eq_true (by assumption)|assumption):(b=true->X)/\(b=(!true)->Y):=b2t h x
theorem b6 (y:Y) (h:b=false:=by first|with_reducible rfl|exact rfl|exact decide_eq_false (by assumption)|assumption):(b=true->X)/\(b=(!true)->Y):=a7x h y
end
theorem pk {α:Type} {l:List α} {n:Int} {d:α} {k:α->Prop} (hk:k d) (h:0<=n/\l[n.toNat]? =some d:=by exact⟨by first|decide|exact Int.NonNeg.mk _,rfl⟩):∃ c,(0<=n/\l[n.toNat]? =some c)/\k c:=⟨d,h,hk⟩
structure Left (P:Prop):Prop where
 f:P
theorem stp {P Q:Prop} (q:Q) (g:Q->P:=by
  first
   |exact h1u|exact e8k|exact q_reg|exact q_cond|exact q_exit|exact g9m|exact q_skip|exact e9s|exact f9d|exact f8f|exact e6k|exact e0p|exact d9j|exact e2w|exact d3b):P:=g q
theorem stpd {P Q:Prop} (q:Q) (g:Q->P:=by
  first
   |exact h1u|exact e8k|exact q_reg|exact q_cond|exact q_exit|exact g9m|exact q_skip|exact e9s|exact g3b rfl|exact f8f|exact e6k|exact e0p|exact d9j|exact e2w|exact d3b):P:=g q
theorem stq {P Q:Prop} (q:Q) (g:Q->P:=by
  first
   |exact g8o|exact g3o|exact g9h|exact h2p|exact g8c rfl|exact g1d rfl|exact h4a|exact g9l|exact g4u|exact g9q
   |exact And.intro (c4f _)
   |exact fun x=>b1 x|exact fun x=>b2 x|exact fun x=>b3 x|exact fun x=>b4 x|exact fun x=>b5 x|exact fun x=>b6 x
   |exact fun x=>pk x|exact And.intro rfl):P:=g q
theorem run {P Q:Prop} (q:Left Q) (h:Left Q->P:=by
  intro q
  first
   |((with_reducible show WQ _ _ _ _ _ _ _);refine stp ?_)
   |((conv=>whnf);first|(with_reducible show WQ _ _ _ _ _ _ _)|refine stq ?_)
  repeat' (first
    |((with_reducible show WQ _ _ _ _ _ _ _);refine stp ?_)
    |((conv=>whnf);first|(with_reducible show WQ _ _ _ _ _ _ _)|refine stq ?_)
    |fail)
  exact q.f):P:=h q
theorem a2q {P Q:Prop} (q:Left Q) (h:Left Q->P:=by
  intro q
  first
   |((with_reducible show WQ _ _ _ _ _ _ _);refine stpd ?_)
   |((fail_if_success (with_reducible show WQ _ _ _ _ _ _ _));(conv=>whnf);first|(with_reducible show WQ _ _ _ _ _ _ _)|refine stq ?_)
  repeat' (first
    |((with_reducible show WQ _ _ _ _ _ _ _);refine stpd ?_)
    |((fail_if_success (with_reducible show WQ _ _ _ _ _ _ _));(conv=>whnf);first|(with_reducible show WQ _ _ _ _ _ _ _)|refine stq ?_)
    |fail)
  exact q.f):P:=h q
end Go.Vm
namespace Go.Vm
section
variable {pg:Pg}
def retQ (res:List d2j) (R:List V->Hp->Prop):Ex->Kn->Env->Hp->Prop:=fun x _ e H=>match x with
  | .exit _=>False
  | .nrm=> ∃ vs,a8j e H res=some vs/\R vs H
  | .ret=> ∃ vs,a8j e H res=some vs/\R vs H
theorem c5q {f:Nat} {vf:VFn} (ht:pg.tbl f=some (.code vf)) {a:List V} (hn:a.length=vf.np) (hk:vf.keep=true) {r:V} {H H2:Hp} (h:c4q 0 a fun e=>WQ pg H.length vf.body [] e H (retQ vf.res fun vs H'=>oneOf vs=r/\H'=H2)):evF pg f a H=some (r,H2):=by
  rw[a9x]at h
  obtain⟨x,kn,e,H',h1,_,h2⟩:=h.imp (a6p.nil _)
  rw[d9h ht hn (by rw[hk,Bool.not_true,Bool.and_false]),b1q,h1]
  cases x with
  |exit i=>cases h2
  |nrm=>
   obtain⟨vs,h3,h4,h5⟩:=h2
   subst h5
   simp only[b3v,leave,h3,hk,if_true,h4]
  |ret=>
   obtain⟨vs,h3,h4,h5⟩:=h2
   subst h5
   simp only[b3v,leave,h3,hk,if_true,h4]
theorem f0q {f:Nat} {vf:VFn} (ht:pg.tbl f=some (.code vf)) {a:List V} (hn:a.length=vf.np) (hk:vf.keep=false) (hu:a1a 0 a=false) {H:Hp} {Q:V->Hp->Prop} (h:c4q 0 a fun e=>WQ pg H.length vf.body [] e H (g5z vf.res H.length fun v H'=>Q v (H'.take H.length))):∃ r H2,evF pg f a H=some (r,H2)/\Q r H2:=by
  rw[a9x]at h
  obtain⟨x,kn,e,H',h1,_,h2⟩:=h.imp (a6p.nil _)
  obtain⟨r',h3,h4⟩:=b8o (b:=H.length) h2
  exact⟨r',_,by rw[d9h ht hn (by rw[hu];rfl),b1q,h1,hk,h3],h4⟩
end
end Go.Vm
namespace Go.Vm
open Go.RowKit
section
variable {P:Program} {cx:Cx} {g:Gh} {H:Hp} {w:World}
theorem chunk {pg:Pg} (hT:c0x P pg) (hmx:P.follows .mixedOrders=true) {A:Ann} {N:Nat} {c:Code} {v:a0m} (ht:tr P A c=some v) (hN:v.okN N=true) {e:Env} {b:Nat} {a:Act} (ok:a2b pg.toCx N g ⟨e,H,b⟩ a w) {R:Ex->Env->Hp->Prop} (h:WQ pg b v [] e H fun x _ e' H'=>R x e' H')
    {Q:Exit->Act->World->Prop} (hq:∀ x e' H' g' a' w',R x e' H'->a2b pg.toCx N g' ⟨e',H',b⟩ a' w'->Ext b g H w g' H' w'->Q x.out a' w'):c.wp P Q a w:=by
  obtain⟨x,kn,e',H',h1,_,h2⟩:=h.imp (a6p.nil _)
  exact c9f hT hmx c v ht hN h1 ok fun g' a' w' ok' ext'=>hq x e' H' g' a' w' h2 ok' ext'
theorem take_at {ops:Array Oper} {i m k:Nat} (h:k < ((ops.toList.drop i).take m).length):ops[i+k]? =((ops.toList.drop i).take m)[k]? :=by
 simp only[List.length_take,List.length_drop]at h
 rw[List.getElem?_take_of_lt om,List.getElem?_drop,Array.getElem?_toList]
theorem a2b.low {N:Nat} {s:St} {a:Act} {b:Nat} (ok:a2b cx N g s a w) (hb:b<=s.h.length):a2b cx N g ⟨s.e,s.h,b⟩ a w:=⟨ok.inv,ok.env,ok.defers,hb⟩
theorem a2b.forget {N:Nat} {e:Env} {H:Hp} {b:Nat} {a:Act} (ok:a2b cx N g ⟨e,H,b⟩ a w) (ks:List Nat):a2b cx N g ⟨a1d ks e,H,b⟩ a w:=(ok.keep ks).low ok.base
theorem e8i {orc:Orc} (hS:c0h P cx orc) {N id:Nat} {ops:Array Oper} {m m2:Nat} (hsz:ops.size=m+1+m2) {vs1 vs2:List a0c} (ht1:a1f P ops ((ops.toList.drop 0).take m)=some vs1) (ht2:a1f P ops ((ops.toList.drop (m+1)).take m2)=some vs2) (ok1:vs1.all (a0c.okN N)=true) (ok2:vs2.all (a0c.okN N)=true)
 {p q d:Nat} {t el:TypeId} (hop:(ops[m]?).map (fun o=>(o.op,o.dst,o.guard))=some (.call {callee:= .builtin .append,args:= #[.tmp p,.tmp q],argTypes:= #[t,t]},some d,none)) (hd:d < N) (htt:P.underlying t=some (.slice el)) {i:TypeInfo} (hi:P.info? el=some i) {z:Value} (hz:i.zero=some z) (hzs:z.cells.size=i.size)
 {s s1:St} {a:Act} (ok:a2b cx N g s a w) (e1:a0k cx orc vs1 s=some s1) {xv:Value} (hx:a1g s1.e p= .raw xv) (hpN:p < N) {w0:World} {g0:Gh} {H0:Hp} {k:Nat} {us:List Value} (hl:Loose cx g w w0.heap.size i.size xv k us) (E0:Ext s.b g0 H0 w0 g s.h w)
 {m3:Nat} {vs:List Value} (hy:∀ g' a' w',a2b cx N g' s1 a' w'->Ext s.b g s.h w g' s1.h w'->Stand w' i.size (a'.tmps.getD q Go.undef) m3 vs) (hone:∀ u∈vs,u.oneCell'=true) (hroom:roomy (k+m3) i.bytes)
 {s2:Value->St} (e2:∀ xv',a0k cx orc vs2 ⟨a6w (some d) (.raw xv') s1.e,s1.h,s1.b⟩=some (s2 xv'))
 {Q:Exit->Act->World->Prop} (hq:∀ xv' g' a' w',a2b cx N g' (s2 xv') a' w'->Loose cx g' w' w0.heap.size i.size xv' (k+m3) (us++vs)->Ext s.b g0 H0 w0 g' (s2 xv').h w'->Q .normal a' w'):(Code.region id ops false).wp P Q a w:=by
 have hb1:=d1n e1
 apply wp_region
 have hr:List.range ops.size=List.range' 0 ((ops.toList.drop 0).take m).length++(m::(List.range' (m+1) ((ops.toList.drop (m+1)).take m2).length++[])):=by
  have l1:((ops.toList.drop 0).take m).length=m:=by simp;omega
  have l2:((ops.toList.drop (m+1)).take m2).length=m2:=by simp;omega
  rw[l1,l2,hsz,List.range_eq_range',List.append_nil,Nat.add_assoc,List.range'_append_1.symm,Nat.zero_add,Nat.add_comm 1 m2,List.range'_succ]
 rw[hr]
 refine d0q hS _ 0 _ (fun k hk=>take_at hk) ht1 ok1 e1 ok fun g' a' w' ok' ext'=>?_
 rw[wpOps_cons]
 have hl':=hl.ext ext'
 have E1:=E0.trans ext' (Nat.le_refl _)
 have hxv:a'.tmps.getD p Go.undef=xv:=by
  have:=(ok'.env.2 p hpN).1
  rw[hx]at this
  simpa only[Rep] using this
 obtain⟨o,ho,he⟩:=Option.map_eq_some_iff.1 hop
 simp only[Prod.mk.injEq]at he
 obtain⟨q1,q2,q3⟩:=he
 obtain⟨x2,w2,hrun,hl2,hI2,h5,h6,h7,h8,h9⟩:=e6g (P:=P) (t:=t) (ty:=o.type) ok'.inv htt hi hz hzs hl' E1.size (hy g' a' w' ok' ext') hone hroom
 have hex:(execOp a'.eval o).run P w'= .ok (.value x2) w2:=by
  have:(execOp a'.eval o).run P w'=((Builtin.append_ #[t,t] o.type #[a'.eval (.tmp p),a'.eval (.tmp q)]).run P w').andThen (fun v w'=> .ok (.value v) w'):=by
    simp[execOp,q1,resolve,invoke,builtin]
  rw[this,e0r,e0r,hxv,hrun];rfl
 unfold wpOp
 simp only[ho]
 rw[if_pos (by simp[Region.wanted,q3])]
 refine .inl ?_
 unfold Oper.wp
 rw[hex,Oper.upon_value,q2]
 have E2:Ext s.b g0 H0 w0 g' s1.h w2:=E1.h6p h5 h6 h7 h8 fun b hb=>h9 b hb
 have ok2':a2b cx N g' ⟨a6w (some d) (.raw x2) s1.e,s1.h,s1.b⟩ (a'.put (some d) x2) w2:=by
  refine⟨hI2,?_,by rw[put_defers];exact ok'.defers,ok'.base⟩
  rw[c3j]
  exact ok'.env.put (fun k hk=>by cases hk;exact hd) (by simp only[Rep]) rfl
 refine d0q hS _ (m+1) _ (fun k hk=>take_at hk) ht2 ok2 (e2 x2) ok2' fun g3 a3 w3 ok3 ext3=>?_
 show Q .normal a3 w3
 refine hq x2 g3 a3 w3 ok3 (hl2.ext ext3) (E2.trans ext3 ?_)
 show s.b<=s1.b
 omega
end
end Go.Vm
namespace Go.Vm
def cL:Code->Code| .seq a _=>a|c=>c
def cR:Code->Code| .seq _ b=>b|c=>c
def cA:Code->Code| .cond _ a _=>a|c=>c
def cK:Code->Code| .block _ b=>b| .loop b=>b|c=>c
def vL:a0m->a0m| .seq a _=>a|c=>c
def vR:a0m->a0m| .seq _ b=>b|c=>c
def vA:a0m->a0m| .cond _ a _=>a|c=>c
def vK:a0m->a0m| .block _ b=>b| .loop _ b=>b|c=>c
def a4o:Code->Array Oper| .region _ ops _=>ops|_=> #[]
def cId:Code->Nat| .region id _ _=>id| .block id _=>id|_=>0
section
variable {P:Program} {cx:Cx} {g:Gh} {H:Hp} {w:World}
theorem g0y (P:Program) (cx:Cx):c0x P ⟨cx,fun _=>none⟩:=fun _ _ h=>nomatch h
theorem a3r {N:Nat} {ops:Array Oper} {i:Nat} {op:Op} {d:Nat} (h:(ops[i]?).map (fun o=>(o.op,o.dst,o.guard))=some (op,some d,none)) {s:St} {a:Act} (ok:a2b cx N g s a w) {x:Value} {v:V} (hrun:∀ o:Oper,o.op=op->(execOp a.eval o).run P w= .ok (.value x) w) (hd:d < N) (hr:Rep g s.h v x) (hu:v.und s.h.length=true)
    {Q:Exit->Act->World->Prop} {rest:List Nat} (hk:a2b cx N g ⟨a6w (some d) v s.e,s.h,s.b⟩ (a.put (some d) x) w->Go.wpOps P ops Q rest (a.put (some d) x) w):Go.wpOps P ops Q (i::rest) a w:=by
  rw[Go.wpOps_cons]
  exact g2c h hrun (hk (ok.put (fun k hk=>by cases hk;exact hd) ok.inv hr hu (Ext.refl ..)))
theorem f0u {a:Act} {t e u:TypeId} {p:Nat} {o:Oper} (ht:P.underlying t=some (.slice e)) {ad:Option Addr} {l c:Nat} (hv:a.tmps.getD p Go.undef= .slice ad l c) (ho:o.op= .binOp .eql t (.tmp p) (.const (.slice none 0 0)) u):(execOp a.eval o).run P w= .ok (.value (.bool ad.isNone)) w:=by
 have h1:a.eval (.tmp p)= .slice ad l c:=hv
 simp only[execOp,ho,h1]
 simp[Act.eval,binOp,eqGuard,run_equal_slice_nil w t e ad l c ht]
theorem e1j {f:Nat} {fn:Func} (hf:P.funcs[f]? =some fn) (hb:fn.body.isNone=false) (hn:(fn.name== "runtime.NumGoroutine")=false) {ops:Array Oper} {i:Nat} {ar:Array Operand} {at':Array TypeId} {d:Nat} (h:(ops[i]?).map (fun o=>(o.op,o.dst,o.guard))=some (.call {callee:= .value (.func f),args:=ar,argTypes:=at' },some d,none)) {a:Act} {R:Ending->World->Prop} (hc:Calls P f (ar.map a.eval) w R)
    {Q:Exit->Act->World->Prop} {rest:List Nat} (hk:∀ e w',R e w'->∃ x,e= .returned x/\Go.wpOps P ops Q rest (a.put (some d) x) w'):Go.wpOps P ops Q (i::rest) a w:=by
  rw[Go.wpOps_cons]
  obtain⟨o,ho,he⟩:=Option.map_eq_some_iff.1 h
  simp only[Prod.mk.injEq]at he
  obtain⟨e1,e2,e3⟩:=he
  have hrun:(execOp a.eval o).run P w= .ok (.enter f (ar.map a.eval)) w:=by
   have:(execOp a.eval o).run P w=(callFunc f (ar.map a.eval)).run P w:=by
    simp[execOp,e1,resolve,Act.eval,Deferred.ofValue,invoke]
   rw[this,c2i hf hb hn]
  unfold wpOp
  simp only[ho]
  rw[if_pos (by simp[Region.wanted,e3])]
  refine .inl ?_
  unfold Oper.wp
  rw[hrun,Oper.upon_enter]
  refine hc.mono fun e w' he=>?_
  obtain⟨x,rfl,hx⟩:=hk e w' he
  rw[e2]
  exact hx
theorem d0o {a:Act} {t e:TypeId} {p:Nat} {o:Oper} (ht:P.underlying t=some (.slice e)) {ad:Option Addr} {l c:Nat} (hv:a.tmps.getD p Go.undef= .slice ad l c) (ho:o.op= .call {callee:= .builtin .len,args:= #[.tmp p],argTypes:= #[t]}):(execOp a.eval o).run P w= .ok (.value (.int .i64 l)) w:=by
 have h1:a.eval (.tmp p)= .slice ad l c:=hv
 simp[execOp,ho,resolve,invoke,builtin,h1,Builtin.len_,run_underlying ht,goInt]
theorem f2m {a:Act} {t e:TypeId} {p q:Nat} {o:Oper} (ht:P.underlying t=some (.slice e)) (hsz:sizeT P e=some 1) {b l c n:Nat} {k:IntKind} (hv:a.tmps.getD p Go.undef= .slice (some ⟨b,0,none⟩) l c) (hn:a.tmps.getD q Go.undef= .int k (n:Int)) (hl:n < l) (ho:o.op= .indexAddr t (.tmp p) (.tmp q)):(execOp a.eval o).run P w= .ok (.value (.pointer (some ⟨b,n,none⟩))) w:=by
 have h1:a.eval (.tmp p)= .slice (some ⟨b,0,none⟩) l c:=hv
 have h2:a.eval (.tmp q)= .int k (n:Int):=hn
 simp only[execOp,ho,h1,h2]
 refine a7p ?_
 simp[Instr.indexAt,asIntOf,run_underlying ht,run_sizeOf hsz,Addr.add_lit]
 omega
theorem f5g {a:Act} {t e:TypeId} {p q:Nat} {o:Oper} (ht:P.underlying t=some (.slice e)) (hsz:sizeT P e=some 1) {ad:Option Addr} {l c n:Nat} {k:IntKind} (hv:a.tmps.getD p Go.undef= .slice ad l c) (hn:a.tmps.getD q Go.undef= .int k (n:Int)) (hl:n<=c) (ho:o.op= .slice t (.tmp p) none (some (.tmp q)) none):(execOp a.eval o).run P w= .ok (.value (.slice (if c=0 then ad else ad.map (·.add 0)) n c)) w:=by
 have h1:a.eval (.tmp p)= .slice ad l c:=hv
 have h2:a.eval (.tmp q)= .int k (n:Int):=hn
 simp only[execOp,ho,h1]
 refine a7p ?_
 simp[Instr.sliceAt,run_underlying ht,Instr.slice,Instr.sliceBounds,run_sizeOf hsz,h2,a6j hl]
theorem g3l {a:Act} {t:TypeId} {p:Nat} {o:Oper} (hs:b3t P t=some none) {b n:Nat} {cur:Array Value} {e:TypeId} {fz:Nat×Nat} {y:Value} (hv:a.tmps.getD p Go.undef= .pointer (some ⟨b,n,none⟩)) (hc:w.heap[b]? =some (.cells cur e fz)) (hy:cur[n]? =some y) (ho:o.op= .load t (.tmp p)):(execOp a.eval o).run P w= .ok (.value y) w:=by
 have h1:a.eval (.tmp p)= .pointer (some ⟨b,n,none⟩):=hv
 have hcell:w.cell? ⟨b,n,none⟩=some y:=by rw[cell_of_row w b n cur e fz hc];simpa using hy
 rcases b7m hs with⟨_,ha,_⟩|⟨k,hk,_⟩
 ·have h2:(loadVar t ⟨b,n,none⟩).run P w= .ok y w:=by simp[loadVar,ha,hcell]
  simp only[execOp,ho,h1]
  exact a7p (by simp[Instr.loadAt,Instr.sureAddr,h2])
 ·cases hk
theorem Loose.get {n k:Nat} {x:Value} {us:List Value} (h:Loose cx g w n 1 x k us) {i:Nat} {y:Value} (hy:us[i]? =some y):∃ b cap cur e,x= .slice (some ⟨b,0,none⟩) k cap/\w.heap[b]? =some (.cells cur e (0,0))/\cur[i]? =some y:=by
 cases h with
 |nil=>simp at hy
 |«at» b cap cur e k us h1 h2 hk0 h3 h4 h5 h6 h7 h8 h9=>
  refine⟨b,cap,cur,e,rfl,h1,?_⟩
  have:=a2y h2 hy
  simpa using this
theorem Loose.older {n m sz k:Nat} {x:Value} {us:List Value} (h:Loose cx g w n sz x k us) (hm:m<=n):Loose cx g w m sz x k us:=by
 cases h with
 |nil=>exact .nil
 |«at» b cap cur e k us h1 h2 hk0 h3 h4 h5 h6 h7 h8 h9=>exact .at b cap cur e k us h1 h2 hk0 h3 h4 h5 h6 h7 h8 (Nat.le_trans hm h9)
theorem Loose.pop {n k:Nat} {ad:Option Addr} {c:Nat} {us:List Value} (h:Loose cx g w n 1 (.slice ad k c) k us) {m:Nat} (hm:m<=k):m<=c/\Loose cx g w n 1 (.slice (if c=0 then ad else ad.map (·.add 0)) m c) m (us.take m):=by
 cases h with
 |nil=>
  obtain rfl:m=0:=om
  exact⟨Nat.le_refl _,.nil⟩
 |«at» b cap cur e k us h1 h2 hk0 h3 h4 h5 h6 h7 h8 h9=>
  have e0:(if c=0 then some (⟨b,0,none⟩:Addr) else(some (⟨b,0,none⟩:Addr)).map (·.add 0))=some ⟨b,0,none⟩:=by
   split<;>simp[Addr.add_lit]
  rw[e0]
  refine⟨om,.at b c cur e m _ h1 ((List.take_prefix _ _).trans h2) ?_ om h4 h5 h6 h7 h8 h9⟩
  rw[List.length_take];omega
def vO:a0m->List a0c| .reg l=>l|_=>[]
def d5z (s:List UInt8):Value:= .string ⟨s.toArray⟩
theorem a2b.h0d {N:Nat} {s:St} {a:Act} (ok:a2b cx N g s a w) {i:Nat} (hi:i < N) (hv:a1g s.e i= .nils):a2b cx N g ⟨a6w (some i) (.raw (.slice none 0 0)) s.e,s.h,s.b⟩ a w:=by
 refine⟨ok.inv,⟨ok.env.1,fun k hk=>?_⟩,ok.defers,ok.base⟩
 show Rep g s.h (a1g ((i,.raw (.slice none 0 0))::s.e) k) _/\(a1g ((i,.raw (.slice none 0 0))::s.e) k).und s.h.length=true
 by_cases e:i=k
 ·subst e
  rw[d0a]
  have:=(ok.env.2 i hi).1
  rw[hv]at this
  exact⟨by simpa only[Rep] using this,rfl⟩
 ·rw[b3q e];exact ok.env.2 k hk
theorem d5t {N:Nat} {s:St} {a:Act} (ok:a2b cx N g s a w) {i:Nat} (hi:i < N) {t:List UInt8} (hv:a1g s.e i= .d (.sl [.str t])):Stand w 1 (a.tmps.getD i Go.undef) 1 [d5z t]:=by
 have r:=(ok.env.2 i hi).1
 rw[hv]at r
 obtain⟨vs,h1,h2⟩:=e4a ok.inv r (sz:=1) rfl
 simp only[a1w]at h2
 obtain⟨v1,v2,rfl,_,h3,rfl⟩:=h2
 simp only[a0q]at h3
 subst h3
 exact h1
theorem Ext.h5r {nb n:Nat} {g':Gh} {H':Hp} {w':World} (h:Ext nb g H w g' H' w') (hn:H.length<=n) (hn2:n<=H'.length) (hnb:nb<=n):Ext nb g H w (g'.cut n) (H'.take n) w':=by
 have hlen:=h.len
 have hget:∀ i,i < n->(H'.take n)[i]? =H'[i]? :=fun i hi=>by rw[List.getElem?_take,if_pos hi]
 refine⟨h.os,h.tape,h.output,h.size,h.frame,⟨h.keep.C,fun i o hi ho hr=>?_,fun i sz l hi ho=>?_⟩,fun i b c hj hb=>h.jnew i b c (a5e hj).2 hb,fun m hm hc i c hi ho=>?_,by rw[List.length_take];omega⟩
 ·obtain⟨h1,o',h2,h3⟩:=h.keep.obj i o hi ho hr
  exact⟨by rw[c5g om];exact h1,o',by rw[hget i om];exact h2,h3⟩
 ·obtain⟨l',h1,h2,h3⟩:=h.keep.row i sz l hi ho
  exact⟨l',by rw[hget i om];exact h1,h2,fun he=>by rw[c5g om];exact h3 he⟩
 ·rw[hget i om]at ho
  exact h.clean m hm hc i c hi ho
theorem a2b.drop {N n:Nat} (ks:List Nat) {s1:St} {g1:Gh} {a1:Act} {w1:World} (hlen:n<=s1.h.length) (hc:Clean n s1.h) (hb0:s1.b<=n) (ok:a2b cx N g1 s1 a1 w1):
 a2b cx N (g1.cut n) ⟨cut n (a1d ks s1.e),s1.h.take n,s1.b⟩ a1 w1:=by
 refine⟨ok.inv.restrict hlen hc,⟨ok.env.1,fun k hk=>?_⟩,ok.defers,?_⟩
 ·rw[e1b]
  split
  ·rename_i hu
   rw[a8w]at hu⊢
   by_cases hks:k∈ks
   ·rw[if_pos hks]at hu⊢
    refine⟨a4p (a7s g1 s1.h n) _ _ hu (ok.env.2 k hk).1,?_⟩
    show V.und (s1.h.take n).length _=true
    rw[List.length_take,Nat.min_eq_left hlen]
    exact hu
   ·rw[if_neg hks]
    exact⟨by simp[Rep],rfl⟩
  ·exact⟨by simp[Rep],rfl⟩
 ·show s1.b<=(s1.h.take n).length
  rw[List.length_take,Nat.min_eq_left hlen]
  exact hb0
theorem c6k {orc:Orc} (hS:c0h P cx orc) {N:Nat} {ops:Array Oper} {i m:Nat} {vs:List a0c} (ht:a1f P ops ((ops.toList.drop i).take m)=some vs) (hok:vs.all (a0c.okN N)=true) (hsz:i+m<=ops.size) {s s':St} (h:a0k cx orc vs s=some s') {a:Act} (ok:a2b cx N g s a w) {Q:Exit->Act->World->Prop} {rest:List Nat}
 (hq:∀ g' a' w',a2b cx N g' s' a' w'->Ext s.b g s.h w g' s'.h w'->Go.wpOps P ops Q rest a' w'):Go.wpOps P ops Q (List.range' i m++rest) a w:=by
 have hl:((ops.toList.drop i).take m).length=m:=by simp;omega
 have:=d0q hS ((ops.toList.drop i).take m) i vs (fun k hk=>take_at hk) ht hok h ok (rest:=rest) (Q:=Q) hq
 rw[hl]at this
 exact this
theorem f2p {N:Nat} {s:St} {a:Act} (ok:a2b cx N g s a w) {i:Nat} (hi:i < N) {x:Value} (hv:a1g s.e i= .raw x):a.tmps.getD i Go.undef=x:=by
 have:=(ok.env.2 i hi).1
 rw[hv]at this
 simpa only[Rep] using this
theorem valI {N:Nat} {s:St} {a:Act} (ok:a2b cx N g s a w) {i:Nat} (hi:i < N) {n:Int} (hv:a1g s.e i= .d (.int .i64 n)):a.tmps.getD i Go.undef= .int .i64 n:=by
 have:=(ok.env.2 i hi).1
 rw[hv]at this
 simp only[Rep,a3j,a0q,List.cons.injEq,and_true]at this
 exact this
theorem b2x {N:Nat} {s:St} {a:Act} (ok:a2b cx N g s a w) {i:Nat} (hi:i < N) {v:V} (hv:a1g s.e i=v):Rep g s.h v (a.tmps.getD i Go.undef):=by
 have:=(ok.env.2 i hi).1
 rw[hv]at this
 exact this
theorem a7h {N:Nat} {s:St} {a:Act} (ok:a2b cx N g s a w) {i:Nat} (hi:i < N) {b:Bool} (hv:a1g s.e i= .d (.bool b)):a.eval (.tmp i)= .bool b:=by
 have:=(ok.env.2 i hi).1
 rw[hv]at this
 simp only[Rep,a3j,a0q,List.cons.injEq,and_true]at this
 exact this
end
end Go.Vm
namespace Go.Vm.Ite
open Go Go.Vm Go.Proofs
def Q43:Laid Tryz.prog (AA [] []) false Tryz.f43:=laid
abbrev B43:a0m:=Q43.F.body
abbrev B55:a0m:=Q55.F.body
abbrev B95:a0m:=Q95.F.body
noncomputable def c50:Code:=(Tryz.f43.body).getD .skip
theorem b50:Tryz.f43.body=some c50:=kr
noncomputable def y50:Code:=cR c50
noncomputable def q50:Code:=cL (cL y50)
theorem s50:c50= .seq (cL c50) (.seq (.seq (.region (cId q50) (a4o q50) false) (.cond (.tmp 4) (cA (cR (cL y50))) .skip)) (cR y50)):=kr
def n50:Ann:=⟨fun _=>[],fun _=>[]⟩
theorem t50a:tr Tryz.prog n50 (cL c50)=some (vL B43):=kr
theorem t50b:tr Tryz.prog n50 (cA (cR (cL y50)))=some (vA (vR (vL (vR B43)))):=kr
theorem t50c:tr Tryz.prog n50 (cR y50)=some (vR (vR B43)):=kr
theorem z50:(a4o q50).size=2:=kr
theorem o50a:((a4o q50)[0]?).map (fun o=>(o.op,o.dst,o.guard))=some (.move (.tmp 0),some 3,none):=kr
theorem o50b:((a4o q50)[1]?).map (fun o=>(o.op,o.dst,o.guard))=some (.binOp .eql 44 (.tmp 3) (.const (.slice none 0 0)) 44,some 4,none):=kr
theorem u50:Tryz.prog.underlying 44=some (.slice 62):=kr
theorem r50:b9k Tryz.prog Tryz.f43.results.toList=some [.tmp 2]:=kr
theorem f50:Tryz.prog.funcs[43]? =some Tryz.f43:=kr
theorem mixed:Tryz.prog.follows .mixedOrders=true:=kr
theorem e4m (cx:Cx):∀ args H r H',a6d args H=some (r,H')->a8g Tryz.prog cx 43 args H r H':=by
 intro args H r H' h
 unfold a6d at h
 split at h
 ·rename_i l
  split at h
  ·rename_i hc
   simp only[Option.some.injEq,Prod.mk.injEq]at h
   obtain⟨rfl,rfl⟩:=h
   obtain⟨hroom,hall⟩:=hc
   refine d9e (N:=8) (rs:=[.tmp 2]) f50 b50 kr r50 rfl kr (Nat.le_of_ble_eq_true rfl) rfl rfl ?_ H
   intro g w a ok
   have hT:=g0y Tryz.prog cx
   rw[s50]
   apply wp_seq
   refine chunk (pg:=⟨cx,fun _=>none⟩) hT mixed t50a kr ok (R:=fun x e' H'=>x= .nrm/\e'=[(2,.nils),(0,.d (.sl l))]/\H'=[]) ?_ ?_
   ·refine run ⟨?_⟩
    exact rfl
   rintro x e' H' g1 a1 w1 ⟨rfl,rfl,rfl⟩ ok1 ext1
   show(Code.seq _ _).wp _ _ _ _
   apply wp_seq
   apply wp_seq
   apply wp_region
   rw[z50,h0y]
   have hr0:=(ok1.env.2 0 (by decide)).1
   refine a3r o50a ok1 (v:= .d (.sl l)) (fun o ho=>c2g ho) (by decide) hr0 rfl fun ok2=>?_
   have hr3:=(ok2.env.2 3 (by decide)).1
   obtain⟨ad,cap,hx,hcap,hlz⟩:=b2p hr3
   refine a3r o50b ok2 (v:= .d (.bool ad.isNone)) (fun o ho=>f0u u50 hx ho) (by decide) (a5d _) rfl fun ok3=>?_
   show(Code.cond _ _ _).wp _ _ _ _
   have hc:=a7h ok3 (i:=4) (b:=ad.isNone) (by decide) rfl
   refine Go.wp_cond_split hc (fun hn=>?_) (fun hn=>?_)
   ·have hl:l=[]:=by
     rcases hlz with h|⟨b,off,sz,us,h,_⟩
     ·exact h
     ·rw[h]at hn;cases hn
    refine chunk (pg:=⟨cx,fun _=>none⟩) hT mixed t50b kr ok3 (R:=fun x e' H'=>x= .ret/\a1g e' 2= .nils/\H'=[]) ?_ ?_
    ·refine run ⟨?_⟩
     exact rfl
    rintro x e' H' g2 a2 w2 ⟨rfl,he,rfl⟩ ok4 ext4
    refine⟨.inr rfl,g2,_,[.nils],ok4,ext1.trans ext4 (Nat.le_refl _),?_,rfl,by rw[hl];rfl⟩
    simp only[a8j,e2k,he]
   ·apply wp_skip
    show Code.wp _ _ _ _ _
    have h3:(l.all fun y=>y.cells.length==2)=true/\0 < 2:=⟨hall,by decide⟩
    by_cases hl:l=[]
    ·refine chunk (pg:=⟨cx,fun _=>none⟩) hT mixed t50c kr ok3 (R:=fun x e' H'=>x= .ret/\a1g e' 2= .nile/\H'=[]) ?_ ?_
     ·repeat' (first|refine run ⟨?_⟩|refine And.intro h3 ?_|refine And.intro (fun _=>?_) (fun h=>absurd hl h)|fail)
      exact rfl
     rintro x e' H' g2 a2 w2 ⟨rfl,he,rfl⟩ ok4 ext4
     refine⟨.inr rfl,g2,_,[.nile],ok4,ext1.trans ext4 (Nat.le_refl _),?_,rfl,by rw[hl];rfl⟩
     simp only[a8j,e2k,he]
    ·refine chunk (pg:=⟨cx,fun _=>none⟩) hT mixed t50c kr ok3 (R:=fun x e' H'=>x= .ret/\a1g e' 2= .row 0 l.length/\H'=[.row 2 l]) ?_ ?_
     ·repeat' (first|refine run ⟨?_⟩|refine And.intro h3 ?_|refine And.intro (fun h=>absurd h hl) (fun _=>And.intro hroom ?_)|fail)
      exact rfl
     rintro x e' H' g2 a2 w2 ⟨rfl,he,rfl⟩ ok4 ext4
     refine⟨.inr rfl,g2,_,[.row 0 l.length],ok4,ext1.trans ext4 (Nat.le_refl _),?_,?_,?_⟩
     ·simp only[a8j,e2k,he]
     ·show a1a 0 [toArg [.row 2 l] (.row 0 l.length)]=true
      simp[toArg,toD,a9y]
     ·show oneOf [toArg [.row 2 l] (.row 0 l.length)]=_
      simp[toArg,toD,a9y]
  ·cases h
 ·cases h
end Go.Vm.Ite

namespace Go.Vm.Ite
open Go.Vm.Lex (isL isD c2e c6l b3y hd0 c5l a7d)
def pgL (fx:Nat->Option Obj) (F:Nat->Option a0x):Pg:=⟨⟨fun _=>[],fx⟩,tbl F⟩
abbrev F0:Nat->Option a0x:=fun _=>none
theorem mv (fx:Nat->Option Obj):c7r (pgL fx F0):=h3o _ _ (fun _ _ h=>nomatch h)
theorem f9v {s:List UInt8} (h:s≠[]) {k:UInt8->Prop} (hk:k (hd0 s)):∃ c,((0:Int)<=0/\s[(0:Int).toNat]? =some c)/\k c:=by
 cases s with
 |nil=>exact absurd rfl h
 |cons c r=>exact⟨c,⟨Int.le_refl _,rfl⟩,hk⟩
section
variable {fx:Nat->Option Obj} {F:Nat->Option a0x} (H:Hp)
theorem c5x (c:UInt8):evF (pgL fx F) c1r [u8 c] H=some (boo (isL c),H):=by
 refine a1p (c2k (F:=F)) rfl rfl ?_ H
 repeat' refine And.intro (fun h=>?_) (fun h=>?_)
 all_goals show _=_
 all_goals simp[oneOf,isL]at*
 all_goals grind
theorem e1r (c:UInt8):evF (pgL fx F) d6i [u8 c] H=some (boo (isD c),H):=by
 refine a1p (d7x (F:=F)) rfl rfl ?_ H
 repeat' refine And.intro (fun h=>?_) (fun h=>?_)
 all_goals show _=_
 all_goals simp[oneOf,isD]at*
 all_goals omega
theorem g3m (s:List UInt8):evF (pgL fx F) e2z [str s] H=some (boo (c6l s),H):=by
 refine a1p (e3n (F:=F)) rfl rfl ?_ H
 repeat' refine And.intro (fun h=>?_) (fun h=>?_)
 all_goals show _=_
 all_goals simp only[decide_eq_true_eq,decide_eq_false_iff_not]at*
 all_goals simp[oneOf,c6l,b3y, *]
set_option maxHeartbeats 1000000 in
theorem f7l (s:List UInt8) (hs:s.length<=maxLen):evF (pgL fx F) d8q [str s] H=some (boo (c5l s),H):=by
 have hm:s.length<=9223372036854775807:=hs
 refine a1p (d8o (F:=F)) rfl rfl ?_ H
 by_cases h0:s=[]
 ·subst h0
  repeat' (refine And.intro (fun h=>?_) (fun h=>?_)<;>try(exfalso;simp at h;done))
  all_goals rfl
 by_cases h1:s=[95]
 ·subst h1
  repeat' (refine And.intro (fun h=>?_) (fun h=>?_)<;>try(exfalso;simp at h;done))
  all_goals rfl
 repeat' (first
     |(refine And.intro (fun h=>?_) (fun h=>?_)<;>try(exfalso;simp_all;done))
     |refine f9v (by assumption) ?_
     |refine Exists.intro _ (Exists.intro _ (And.intro (c5x _ _) ?_))
     |refine Exists.intro _ (Exists.intro _ (And.intro (e1r _ _) ?_)))
 all_goals first
   |(show _=_;simp_all[oneOf,c5l];done)
   |(show _=_;obtain⟨c,r,rfl⟩:=List.exists_cons_of_ne_nil h0;simp_all[oneOf,c5l,c2e,hd0];done)
   |skip
 refine wp_loop (α:=Nat) (fun i=>s.length - i) (fun i=>[(0,str s),(16,i64 s.length),(17,i64 i)]) (fun _=>[]) (fun i=>i<=s.length/\(s.take i).all c2e=true) ?_ 0 ⟨om,by simp⟩
 rintro i ⟨hi,hall⟩
 refine And.intro (fun hl=>?_) (fun hl=>?_)
 ·replace hl:=of_decide_eq_true hl
  have hlt:i < s.length:=om
  repeat' (first
      |(refine And.intro (fun h=>?_) (fun h=>?_)<;>try(exfalso;simp_all;done))
      |refine a5u hlt ?_
      |refine Exists.intro _ (Exists.intro _ (And.intro (c5x _ _) ?_))
      |refine Exists.intro _ (Exists.intro _ (And.intro (e1r _ _) ?_)))
  all_goals first
    |(show _=_
      have:s.all c2e=false:=by
       cases hb:s.all c2e with
       |false=>rfl
       |true=>
        have:=List.all_eq_true.1 hb s[i] (List.getElem_mem _)
        simp_all[c2e]
      simp[oneOf,c5l,this];done)
    |(refine⟨i+1,⟨om,e0t hlt hall (by simp_all[c2e])⟩,om,?_,rfl⟩
      rw[a1k om];rfl)
 ·replace hl:=of_decide_eq_false hl
  have hi:i=s.length:=om
  rw[hi,List.take_length]at hall
  show _=_
  have hd:isD (hd0 s)=false:=by
   first|assumption|(have hl:isL (hd0 s)=true:=by simp_all
                     simp[isL,isD]at hl⊢;omega)
  simp[oneOf,c5l,h0,h1,hall,hd]
theorem d7b (s:List UInt8) (hs:s.length<=maxLen):evF (pgL fx F) e5b [str s] H=some (boo (a7d s),H):=by
 refine a1p (e3v (F:=F)) rfl rfl ?_ H
 repeat' (first
     |(refine And.intro (fun h=>?_) (fun h=>?_))
     |refine Exists.intro _ (Exists.intro _ (And.intro (f7l _ _ hs) ?_))
     |refine Exists.intro _ (Exists.intro _ (And.intro (g3m _ _) ?_)))
 all_goals show _=_
 all_goals clear hs
 all_goals have e:((s.length:Int)<=64)=(s.length<=64):=by simp only[eq_iff_iff];omega
 all_goals simp only[e]at*
 all_goals clear e
 all_goals simp only[Bool.not_true,Bool.false_eq_true,decide_eq_true_eq,decide_eq_false_iff_not]at*
 all_goals simp[oneOf,a7d, *]
end
end Go.Vm.Ite
namespace Go.Vm
theorem e0e {cx:Cx} {t t':Nat->Option a0x} (h:∀ f e,t f=some e->t' f=some e):∀ n,OLe (b0u ⟨cx,t⟩ n) (b0u ⟨cx,t'⟩ n)/\LLe (c2f ⟨cx,t⟩ n) (c2f ⟨cx,t'⟩ n)
 |0=>⟨fun _ _ _ _ h=>(nomatch ((b1r _ _ _ _).symm.trans h)),fun _ _ _ _ h=>(nomatch ((b1o _ _ _ _).symm.trans h))⟩
 |n+1=>by
  obtain⟨h1,h2⟩:=e0e (cx:=cx) h n
  refine⟨fun f a hh r hr=>?_,fun k b s r hr=>?_⟩
  ·rw[a7o,c2t]at hr⊢
   split at hr
   ·cases hr
   ·rename_i Fp ht
    rw[show(⟨cx,t'⟩:Pg).tbl f=some (.prim Fp)from h _ _ ht]
    exact hr
   ·rename_i vf ht
    rw[show(⟨cx,t'⟩:Pg).tbl f=some (.code vf)from h _ _ ht]
    split at hr
    ·rename_i hl
     show(if a.length=vf.np then _ else none)=some r
     rw[if_pos hl]
     refine d0u (fun h r hr=>?_) hr
     cases hx:evC cx (b0u ⟨cx,t⟩ n) (c2f ⟨cx,t⟩ n) vf.body ⟨a1z a,h,h.length⟩with
     |none=>rw[hx]at hr;cases hr
     |some q=>rw[hx]at hr;rw[a8l h1 h2 hx];exact hr
    ·cases hr
  ·rw[a9j]at hr⊢;exact a8l h1 h2 hr
theorem g1i {cx:Cx} {t t':Nat->Option a0x} (h:∀ f e,t f=some e->t' f=some e) {f:Nat} {a:List V} {H:Hp} {r:V×Hp} (he:evF ⟨cx,t⟩ f a H=some r):evF ⟨cx,t'⟩ f a H=some r:=by
 obtain⟨n,hn⟩:=a7c.1 he
 exact a7c.2 ⟨n,(e0e h n).1 _ _ _ _ hn⟩
end Go.Vm
namespace Go.Vm.Ite
open Go.Vm.Ip
theorem mg {kk:Nat} {l:List (D×D)} {kd:D} {r:Option D} {k:Option D->Prop} (h1:a2j kk l=true) (h2:a4m kd l=r) (hk:k r):a2j kk l=true/\∃ r,a4m kd l=r/\k r:=⟨h1,r,h2,hk⟩
def FH (x:Its):Hp:=[.map (a4c (nS x)),.map (a4c (nE x)),.map (a4c (nF x)),.box [.mp 0,.mp 1,.mp 2]]
theorem g8s (F:Nat->Option a0x):∀ f e,tbl F0 f=some e->tbl F f=some e:=by
 intro f e h
 unfold tbl at*
 split at h<;>first|exact h|cases h
theorem up {fx:Nat->Option Obj} {F:Nat->Option a0x} {f:Nat} {a:List V} {H:Hp} {r:V×Hp} (h:evF (pgL fx F0) f a H=some r):evF (pgL fx F) f a H=some r:=g1i (g8s F) h
section
variable {fx:Nat->Option Obj} {F:Nat->Option a0x}
theorem c6a (x:Its) (s:S):evF (pgL fx F) a0t [.ptr 3 0,str s] (FH x)=some (.tup [i64 (loc (nS x) s),boo (known (nS x) s)],FH x):=by
 refine a0e (a6k (F:=F)) rfl rfl rfl ?_
 have h1:=a2o (nS x) (nS x).length
 change a2j 2 (a4c (nS x))=true at h1
 have h2:=c5v (nS x) s
 unfold loc known
 revert h2
 cases pos (nS x) s with
 |none=>
  intro h2
  repeat' (first|refine run ⟨?_⟩|refine mg h1 h2 ?_|fail)
  exact rfl
 |some i=>
  intro h2
  repeat' (first|refine run ⟨?_⟩|refine mg h1 h2 ?_|fail)
  exact rfl
theorem d1c (x:Its) (s:S):evF (pgL fx F) a0t [.ptr 3 1,str s] (FH x)=some (.tup [i64 (loc (nE x) s),boo (known (nE x) s)],FH x):=by
 refine a0e (a6k (F:=F)) rfl rfl rfl ?_
 have h1:=a2o (nE x) (nE x).length
 change a2j 2 (a4c (nE x))=true at h1
 have h2:=c5v (nE x) s
 unfold loc known
 revert h2
 cases pos (nE x) s with
 |none=>
  intro h2
  repeat' (first|refine run ⟨?_⟩|refine mg h1 h2 ?_|fail)
  exact rfl
 |some i=>
  intro h2
  repeat' (first|refine run ⟨?_⟩|refine mg h1 h2 ?_|fail)
  exact rfl
theorem g3r (x:Its) (s:S):evF (pgL fx F) a0t [.ptr 3 2,str s] (FH x)=some (.tup [i64 (loc (nF x) s),boo (known (nF x) s)],FH x):=by
 refine a0e (a6k (F:=F)) rfl rfl rfl ?_
 have h1:=a2o (nF x) (nF x).length
 change a2j 2 (a4c (nF x))=true at h1
 have h2:=c5v (nF x) s
 unfold loc known
 revert h2
 cases pos (nF x) s with
 |none=>
  intro h2
  repeat' (first|refine run ⟨?_⟩|refine mg h1 h2 ?_|fail)
  exact rfl
 |some i=>
  intro h2
  repeat' (first|refine run ⟨?_⟩|refine mg h1 h2 ?_|fail)
  exact rfl
end
end Go.Vm.Ite
namespace Go.Vm.Ite
open Go.Vm.Ip
def g1t (a:List (D×D)) (s:S) (i:Int):List (D×D):=match a4m (.str s) a with
 |some _=>a
 |none=>c1u (.str s) (.int .i64 i) a
theorem a8m (l:List S) (k:Nat):fmap l (k+1)=g1t (fmap l k) (l.getD k []) k:=rfl
def IB (x:Its):Ob:= .box [.d (.sl (x.ss.map Nam.D)),.d (.sl (x.es.map Nam.D)),.d (.sl (x.fs.map Fnc.D))]
theorem gN {l:List Nam} {i:Nat} (h:i < l.length):0<=(i:Int)/\(l.map Nam.D)[(i:Int).toNat]? =some (l.getD i default).D:=by
 refine⟨om,?_⟩
 rw[Int.toNat_natCast,List.getElem?_map,List.getElem?_eq_getElem h]
 simp[List.getD_eq_getElem?_getD,List.getElem?_eq_getElem h]
theorem gF {l:List Fnc} {i:Nat} (h:i < l.length):0<=(i:Int)/\(l.map Fnc.D)[(i:Int).toNat]? =some (l.getD i default).D:=by
 refine⟨om,?_⟩
 rw[Int.toNat_natCast,List.getElem?_map,List.getElem?_eq_getElem h]
 simp[List.getD_eq_getElem?_getD,List.getElem?_eq_getElem h]
theorem c0k {x:Its} {i:Nat} (h:i < x.ss.length):(nS x).getD i []=(x.ss.getD i default).n:=by
 simp[nS,List.getD_eq_getElem?_getD,List.getElem?_eq_getElem h]
theorem c0l {x:Its} {i:Nat} (h:i < x.es.length):(nE x).getD i []=(x.es.getD i default).n:=by
 simp[nE,List.getD_eq_getElem?_getD,List.getElem?_eq_getElem h]
theorem c1h {x:Its} {i:Nat} (h:i < x.fs.length):(nF x).getD i []=(x.fs.getD i default).n:=by
 simp[nF,List.getD_eq_getElem?_getD,List.getElem?_eq_getElem h]
section
variable {fx:Nat->Option Obj} {F:Nat->Option a0x}
theorem f1n (a b c:List (D×D)) (s:S) (i:Int) (hk:a2j 2 a=true) (hq:∀ v,a4m (.str s) a=some v->∃ n:Int,v= .int .i64 n):evF (pgL fx F) a0s [.ptr 3 0,str s,i64 i] [.map a,.map b,.map c,.box [.mp 0,.mp 1,.mp 2]]=some (.tup [],[.map (g1t a s i),.map b,.map c,.box [.mp 0,.mp 1,.mp 2]]):=by
 refine a0e (a6y (F:=F)) rfl rfl rfl ?_
 obtain⟨r,hr⟩:∃ r,a4m (.str s) a=r:=⟨_,rfl⟩
 unfold g1t
 rw[hr]
 cases r with
 |none=>
  repeat' (first|refine run ⟨?_⟩|refine mg hk hr ?_|refine And.intro hk ?_|fail)
  exact rfl
 |some v=>
  obtain⟨n,rfl⟩:=hq v hr
  repeat' (first|refine run ⟨?_⟩|refine mg hk hr ?_|fail)
  exact rfl
theorem e6t (a b c:List (D×D)) (s:S) (i:Int) (hk:a2j 2 b=true) (hq:∀ v,a4m (.str s) b=some v->∃ n:Int,v= .int .i64 n):evF (pgL fx F) a0s [.ptr 3 1,str s,i64 i] [.map a,.map b,.map c,.box [.mp 0,.mp 1,.mp 2]]=some (.tup [],[.map a,.map (g1t b s i),.map c,.box [.mp 0,.mp 1,.mp 2]]):=by
 refine a0e (a6y (F:=F)) rfl rfl rfl ?_
 obtain⟨r,hr⟩:∃ r,a4m (.str s) b=r:=⟨_,rfl⟩
 unfold g1t
 rw[hr]
 cases r with
 |none=>
  repeat' (first|refine run ⟨?_⟩|refine mg hk hr ?_|refine And.intro hk ?_|fail)
  exact rfl
 |some v=>
  obtain⟨n,rfl⟩:=hq v hr
  repeat' (first|refine run ⟨?_⟩|refine mg hk hr ?_|fail)
  exact rfl
theorem e9a (a b c:List (D×D)) (s:S) (i:Int) (hk:a2j 2 c=true) (hq:∀ v,a4m (.str s) c=some v->∃ n:Int,v= .int .i64 n):evF (pgL fx F) a0s [.ptr 3 2,str s,i64 i] [.map a,.map b,.map c,.box [.mp 0,.mp 1,.mp 2]]=some (.tup [],[.map a,.map b,.map (g1t c s i),.box [.mp 0,.mp 1,.mp 2]]):=by
 refine a0e (a6y (F:=F)) rfl rfl rfl ?_
 obtain⟨r,hr⟩:∃ r,a4m (.str s) c=r:=⟨_,rfl⟩
 unfold g1t
 rw[hr]
 cases r with
 |none=>
  repeat' (first|refine run ⟨?_⟩|refine mg hk hr ?_|refine And.intro hk ?_|fail)
  exact rfl
 |some v=>
  obtain⟨n,rfl⟩:=hq v hr
  repeat' (first|refine run ⟨?_⟩|refine mg hk hr ?_|fail)
  exact rfl
theorem a8i (l:List S) (s:S) (k:Nat) (hk:k<=l.length) (v:D) (h:a4m (.str s) (fmap l k)=some v):∃ n:Int,v= .int .i64 n:=by
 rw[a9u l s k hk]at h
 obtain⟨j,_,e⟩:=Option.map_eq_some_iff.1 h
 exact⟨_,e.symm⟩
set_option maxHeartbeats 1000000 in
theorem h2w (x:Its) (hx:b2u x) (o0:Ob):evF (pgL fx F) b2j [.d x.D] [o0]=some (.ptr 5 0,[o0,IB x,.map (a4c (nS x)),.map (a4c (nE x)),.map (a4c (nF x)),.box [.mp 2,.mp 3,.mp 4]]):=by
 apply up
 have es:(nS x).length=x.ss.length:=by simp[nS]
 have ee:(nE x).length=x.es.length:=by simp[nE]
 have ef:(nF x).length=x.fs.length:=by simp[nF]
 have l0:x.ss.length<=140737488355328:=hx.ss
 have l1:x.es.length<=140737488355328:=hx.es
 have l2:x.fs.length<=140737488355328:=hx.fs
 refine c5q (b2l (F:=F)) rfl rfl ?_
 refine run ⟨?_⟩
 refine a0o (α:=Nat) (fun i=>x.ss.length - i) (fun i=>[(1,.ptr 1 0),(3,.ptr 5 0),(19,.d (.sl (x.ss.map Nam.D))),(20,i64 x.ss.length),(21,i64 i)]) (fun i=>[o0,IB x,.map (fmap (nS x) i),.map [],.map [],.box [.mp 2,.mp 3,.mp 4]]) (fun i=>i<=x.ss.length) ?_ 0 (Nat.zero_le _) (by rw[List.length_map];rfl) rfl
 ·intro i hi
  by_cases h:i < x.ss.length
  ·have h':(i:Int) < (x.ss.length:Int):=om
   have pi:=gN h
   have hp:∀ y,x.ss.getD i default=y->evF (pgL fx F0) a0s [.ptr 5 0,str y.n,i64 i] ([o0,IB x,.map (fmap (nS x) i),.map [],.map [],.box [.mp 2,.mp 3,.mp 4]]++[.box [str y.n,.d (a1y y.fs)]])=some (.tup [],[o0,IB x,.map (fmap (nS x) (i+1)),.map [],.map [],.box [.mp 2,.mp 3,.mp 4]]++[.box [str y.n,.d (a1y y.fs)]]):=fun y hy=>by
     have hn:=f1n (fx:=fx) (F:=F0) (fmap (nS x) i) [] [] y.n i (a2o _ _) (a8i _ _ _ om)
     rw[<-hy,<-c0k h,<-a8m]at hn
     rw[<-hy,<-c0k h]
     exact a2t (mv fx) [2,3,4,5] hn rfl rfl rfl rfl rfl
   revert pi hp
   generalize x.ss.getD i default=y
   intro pi hp
   have hp:=hp y rfl
   repeat' (first|refine run ⟨?_⟩|refine a0f pi ?_|refine ca (hp) ?_|fail)
   exact⟨i+1,om,om,by rw[a1k om];rfl,rfl⟩
  ·have h':¬ (i:Int) < (x.ss.length:Int):=om
   obtain rfl:i=x.ss.length:=om
   refine run ⟨?_⟩
   refine a0o (α:=Nat) (fun i=>x.es.length - i) (fun i=>[(1,.ptr 1 0),(3,.ptr 5 0),(35,.d (.sl (x.es.map Nam.D))),(36,i64 x.es.length),(37,i64 i)]) (fun i=>[o0,IB x,.map (fmap (nS x) x.ss.length),.map (fmap (nE x) i),.map [],.box [.mp 2,.mp 3,.mp 4]]) (fun i=>i<=x.es.length) ?_ 0 (Nat.zero_le _) (by rw[List.length_map];rfl) rfl
   ·intro i hi
    by_cases h:i < x.es.length
    ·have h':(i:Int) < (x.es.length:Int):=om
     have pi:=gN h
     have hp:∀ y,x.es.getD i default=y->evF (pgL fx F0) a0s [.ptr 5 1,str y.n,i64 i] ([o0,IB x,.map (fmap (nS x) x.ss.length),.map (fmap (nE x) i),.map [],.box [.mp 2,.mp 3,.mp 4]]++[.box [str y.n,.d (a1y y.fs)]])=some (.tup [],[o0,IB x,.map (fmap (nS x) x.ss.length),.map (fmap (nE x) (i+1)),.map [],.box [.mp 2,.mp 3,.mp 4]]++[.box [str y.n,.d (a1y y.fs)]]):=fun y hy=>by
       have hn:=e6t (fx:=fx) (F:=F0) (fmap (nS x) x.ss.length) (fmap (nE x) i) [] y.n i (a2o _ _) (a8i _ _ _ om)
       rw[<-hy,<-c0l h,<-a8m]at hn
       rw[<-hy,<-c0l h]
       exact a2t (mv fx) [2,3,4,5] hn rfl rfl rfl rfl rfl
     revert pi hp
     generalize x.es.getD i default=y
     intro pi hp
     have hp:=hp y rfl
     repeat' (first|refine run ⟨?_⟩|refine a0f pi ?_|refine ca (hp) ?_|fail)
     exact⟨i+1,om,om,by rw[a1k om];rfl,rfl⟩
    ·have h':¬ (i:Int) < (x.es.length:Int):=om
     obtain rfl:i=x.es.length:=om
     refine run ⟨?_⟩
     refine a0o (α:=Nat) (fun i=>x.fs.length - i) (fun i=>[(3,.ptr 5 0),(51,.d (.sl (x.fs.map Fnc.D))),(52,i64 x.fs.length),(53,i64 i)]) (fun i=>[o0,IB x,.map (fmap (nS x) x.ss.length),.map (fmap (nE x) x.es.length),.map (fmap (nF x) i),.box [.mp 2,.mp 3,.mp 4]]) (fun i=>i<=x.fs.length) ?_ 0 (Nat.zero_le _) (by rw[List.length_map];rfl) rfl
     ·intro i hi
      by_cases h:i < x.fs.length
      ·have h':(i:Int) < (x.fs.length:Int):=om
       have pi:=gF h
       have hp:∀ y,x.fs.getD i default=y->evF (pgL fx F0) a0s [.ptr 5 2,str y.n,i64 i] ([o0,IB x,.map (fmap (nS x) x.ss.length),.map (fmap (nE x) x.es.length),.map (fmap (nF x) i),.box [.mp 2,.mp 3,.mp 4]]++[.box [str y.n,.d (a1y y.ps),.d (.sl (y.ms.map .bool)),str y.r,i64 y.d]])=some (.tup [],[o0,IB x,.map (fmap (nS x) x.ss.length),.map (fmap (nE x) x.es.length),.map (fmap (nF x) (i+1)),.box [.mp 2,.mp 3,.mp 4]]++[.box [str y.n,.d (a1y y.ps),.d (.sl (y.ms.map .bool)),str y.r,i64 y.d]]):=fun y hy=>by
         have hn:=e9a (fx:=fx) (F:=F0) (fmap (nS x) x.ss.length) (fmap (nE x) x.es.length) (fmap (nF x) i) y.n i (a2o _ _) (a8i _ _ _ om)
         rw[<-hy,<-c1h h,<-a8m]at hn
         rw[<-hy,<-c1h h]
         exact a2t (mv fx) [2,3,4,5] hn rfl rfl rfl rfl rfl
       revert pi hp
       generalize x.fs.getD i default=y
       intro pi hp
       have hp:=hp y rfl
       repeat' (first|refine run ⟨?_⟩|refine a0f pi ?_|refine ca (hp) ?_|fail)
       exact⟨i+1,om,om,by rw[a1k om];rfl,rfl⟩
      ·have h':¬ (i:Int) < (x.fs.length:Int):=om
       obtain rfl:i=x.fs.length:=om
       refine run ⟨?_⟩
       exact⟨_,rfl,rfl,by unfold a4c;rw[es,ee,ef]⟩
set_option maxHeartbeats 1000000 in
theorem d2w (x:Its) (hx:b2u x) (o0 o1:Ob):evF (pgL fx F) b2j [.d x.D] [o0,o1]=some (.ptr 6 0,[o0,o1,IB x,.map (a4c (nS x)),.map (a4c (nE x)),.map (a4c (nF x)),.box [.mp 3,.mp 4,.mp 5]]):=by
 apply up
 have es:(nS x).length=x.ss.length:=by simp[nS]
 have ee:(nE x).length=x.es.length:=by simp[nE]
 have ef:(nF x).length=x.fs.length:=by simp[nF]
 have l0:x.ss.length<=140737488355328:=hx.ss
 have l1:x.es.length<=140737488355328:=hx.es
 have l2:x.fs.length<=140737488355328:=hx.fs
 refine c5q (b2l (F:=F)) rfl rfl ?_
 refine run ⟨?_⟩
 refine a0o (α:=Nat) (fun i=>x.ss.length - i) (fun i=>[(1,.ptr 2 0),(3,.ptr 6 0),(19,.d (.sl (x.ss.map Nam.D))),(20,i64 x.ss.length),(21,i64 i)]) (fun i=>[o0,o1,IB x,.map (fmap (nS x) i),.map [],.map [],.box [.mp 3,.mp 4,.mp 5]]) (fun i=>i<=x.ss.length) ?_ 0 (Nat.zero_le _) (by rw[List.length_map];rfl) rfl
 ·intro i hi
  by_cases h:i < x.ss.length
  ·have h':(i:Int) < (x.ss.length:Int):=om
   have pi:=gN h
   have hp:∀ y,x.ss.getD i default=y->evF (pgL fx F0) a0s [.ptr 6 0,str y.n,i64 i] ([o0,o1,IB x,.map (fmap (nS x) i),.map [],.map [],.box [.mp 3,.mp 4,.mp 5]]++[.box [str y.n,.d (a1y y.fs)]])=some (.tup [],[o0,o1,IB x,.map (fmap (nS x) (i+1)),.map [],.map [],.box [.mp 3,.mp 4,.mp 5]]++[.box [str y.n,.d (a1y y.fs)]]):=fun y hy=>by
     have hn:=f1n (fx:=fx) (F:=F0) (fmap (nS x) i) [] [] y.n i (a2o _ _) (a8i _ _ _ om)
     rw[<-hy,<-c0k h,<-a8m]at hn
     rw[<-hy,<-c0k h]
     exact a2t (mv fx) [3,4,5,6] hn rfl rfl rfl rfl rfl
   revert pi hp
   generalize x.ss.getD i default=y
   intro pi hp
   have hp:=hp y rfl
   repeat' (first|refine run ⟨?_⟩|refine a0f pi ?_|refine ca (hp) ?_|fail)
   exact⟨i+1,om,om,by rw[a1k om];rfl,rfl⟩
  ·have h':¬ (i:Int) < (x.ss.length:Int):=om
   obtain rfl:i=x.ss.length:=om
   refine run ⟨?_⟩
   refine a0o (α:=Nat) (fun i=>x.es.length - i) (fun i=>[(1,.ptr 2 0),(3,.ptr 6 0),(35,.d (.sl (x.es.map Nam.D))),(36,i64 x.es.length),(37,i64 i)]) (fun i=>[o0,o1,IB x,.map (fmap (nS x) x.ss.length),.map (fmap (nE x) i),.map [],.box [.mp 3,.mp 4,.mp 5]]) (fun i=>i<=x.es.length) ?_ 0 (Nat.zero_le _) (by rw[List.length_map];rfl) rfl
   ·intro i hi
    by_cases h:i < x.es.length
    ·have h':(i:Int) < (x.es.length:Int):=om
     have pi:=gN h
     have hp:∀ y,x.es.getD i default=y->evF (pgL fx F0) a0s [.ptr 6 1,str y.n,i64 i] ([o0,o1,IB x,.map (fmap (nS x) x.ss.length),.map (fmap (nE x) i),.map [],.box [.mp 3,.mp 4,.mp 5]]++[.box [str y.n,.d (a1y y.fs)]])=some (.tup [],[o0,o1,IB x,.map (fmap (nS x) x.ss.length),.map (fmap (nE x) (i+1)),.map [],.box [.mp 3,.mp 4,.mp 5]]++[.box [str y.n,.d (a1y y.fs)]]):=fun y hy=>by
       have hn:=e6t (fx:=fx) (F:=F0) (fmap (nS x) x.ss.length) (fmap (nE x) i) [] y.n i (a2o _ _) (a8i _ _ _ om)
       rw[<-hy,<-c0l h,<-a8m]at hn
       rw[<-hy,<-c0l h]
       exact a2t (mv fx) [3,4,5,6] hn rfl rfl rfl rfl rfl
     revert pi hp
     generalize x.es.getD i default=y
     intro pi hp
     have hp:=hp y rfl
     repeat' (first|refine run ⟨?_⟩|refine a0f pi ?_|refine ca (hp) ?_|fail)
     exact⟨i+1,om,om,by rw[a1k om];rfl,rfl⟩
    ·have h':¬ (i:Int) < (x.es.length:Int):=om
     obtain rfl:i=x.es.length:=om
     refine run ⟨?_⟩
     refine a0o (α:=Nat) (fun i=>x.fs.length - i) (fun i=>[(3,.ptr 6 0),(51,.d (.sl (x.fs.map Fnc.D))),(52,i64 x.fs.length),(53,i64 i)]) (fun i=>[o0,o1,IB x,.map (fmap (nS x) x.ss.length),.map (fmap (nE x) x.es.length),.map (fmap (nF x) i),.box [.mp 3,.mp 4,.mp 5]]) (fun i=>i<=x.fs.length) ?_ 0 (Nat.zero_le _) (by rw[List.length_map];rfl) rfl
     ·intro i hi
      by_cases h:i < x.fs.length
      ·have h':(i:Int) < (x.fs.length:Int):=om
       have pi:=gF h
       have hp:∀ y,x.fs.getD i default=y->evF (pgL fx F0) a0s [.ptr 6 2,str y.n,i64 i] ([o0,o1,IB x,.map (fmap (nS x) x.ss.length),.map (fmap (nE x) x.es.length),.map (fmap (nF x) i),.box [.mp 3,.mp 4,.mp 5]]++[.box [str y.n,.d (a1y y.ps),.d (.sl (y.ms.map .bool)),str y.r,i64 y.d]])=some (.tup [],[o0,o1,IB x,.map (fmap (nS x) x.ss.length),.map (fmap (nE x) x.es.length),.map (fmap (nF x) (i+1)),.box [.mp 3,.mp 4,.mp 5]]++[.box [str y.n,.d (a1y y.ps),.d (.sl (y.ms.map .bool)),str y.r,i64 y.d]]):=fun y hy=>by
         have hn:=e9a (fx:=fx) (F:=F0) (fmap (nS x) x.ss.length) (fmap (nE x) x.es.length) (fmap (nF x) i) y.n i (a2o _ _) (a8i _ _ _ om)
         rw[<-hy,<-c1h h,<-a8m]at hn
         rw[<-hy,<-c1h h]
         exact a2t (mv fx) [3,4,5,6] hn rfl rfl rfl rfl rfl
       revert pi hp
       generalize x.fs.getD i default=y
       intro pi hp
       have hp:=hp y rfl
       repeat' (first|refine run ⟨?_⟩|refine a0f pi ?_|refine ca (hp) ?_|fail)
       exact⟨i+1,om,om,by rw[a1k om];rfl,rfl⟩
      ·have h':¬ (i:Int) < (x.fs.length:Int):=om
       obtain rfl:i=x.fs.length:=om
       refine run ⟨?_⟩
       exact⟨_,rfl,rfl,by unfold a4c;rw[es,ee,ef]⟩
end
end Go.Vm.Ite
namespace Go.Vm.Ite
open Go.Vm.Ip
theorem e0u {fx:Nat->Option Obj} {F:Nat->Option a0x} (hF:F 43=some (.prim a6d)) (l:List Fld) (hl:l.length<=4398046511104) (H:Hp):evF (pgL fx F) 43 [.d (a1y l)] H=some (.d (a1y l),H):=by
 have ht:(pgL fx F).tbl 43=some (.prim a6d):=hF
 rw[b9c ht]
 simp only[a6d,a1y]
 rw[if_pos]
 refine⟨⟨by rw[List.length_map];omega,by rw[List.length_map];omega⟩,?_⟩
 rw[List.all_eq_true]
 intro d hd
 obtain⟨f,_,rfl⟩:=List.mem_map.1 hd
 rfl
section
variable {fx:Nat->Option Obj} {F:Nat->Option a0x}
set_option maxHeartbeats 1000000 in
theorem f1k (hF:F 43=some (.prim a6d)) (x:Its) (hx:b2u x) (s:S) (H:Hp):evF (pgL fx F) c6r [.d x.D,str s] H=some (.tup [.d (nam x.ss s).D,boo (known (nS x) s)],H):=by
 have e1:=d2w (fx:=fx) (F:=F) x hx (IB x) (.box [.d (.str []),.nils])
 have e2:evF (pgL fx F) a0t [.ptr 6 0,str s] [IB x,.box [.d (.str []),.nils],IB x,.map (a4c (nS x)),.map (a4c (nE x)),.map (a4c (nF x)),.box [.mp 3,.mp 4,.mp 5]]=some (.tup [i64 (loc (nS x) s),boo (known (nS x) s)],[IB x,.box [.d (.str []),.nils],IB x,.map (a4c (nS x)),.map (a4c (nE x)),.map (a4c (nF x)),.box [.mp 3,.mp 4,.mp 5]]):=up (a2t (mv fx) [3,4,5,6] (c6a x s) rfl rfl rfl rfl rfl)
 have ec:=e0u (fx:=fx) hF
 have hlen:(nS x).length=x.ss.length:=by simp[nS]
 have hg:∀ i,pos (nS x) s=some i->i < x.ss.length:=fun i h=>by have:=b1b h;omega
 unfold nam loc known at*
 rw[show x.ss.map Nam.n=nS x from rfl]
 revert e2 hg
 cases pos (nS x) s with
 |none=>
  intro e2 _
  refine a5v (b6i (F:=F)) rfl rfl ?_ H
  repeat' (first|refine run ⟨?_⟩|refine ca (e1) ?_|refine ca (e2) ?_|fail)
  exact rfl
 |some i=>
  intro e2 hg
  dsimp only at e2⊢
  have hi:=hg i rfl
  have hm:(x.ss.getD i default).fs.length<=mf:=by
   have:x.ss.getD i default∈x.ss:=by simp[List.getD_eq_getElem?_getD,List.getElem?_eq_getElem hi]
   exact(hx.sf _ this).2.1
  have pi:=gN hi
  have ec:=ec _ hm
  revert pi ec
  generalize x.ss.getD i default=y
  intro pi ec
  refine a5v (b6i (F:=F)) rfl rfl ?_ H
  repeat' (first|refine run ⟨?_⟩|refine ca (e1) ?_|refine ca (e2) ?_|refine a0f pi ?_|refine ca (ec _) ?_|fail)
  exact rfl
set_option maxHeartbeats 1000000 in
theorem g0l (hF:F 43=some (.prim a6d)) (x:Its) (hx:b2u x) (s:S) (H:Hp):evF (pgL fx F) d4c [.d x.D,str s] H=some (.tup [.d (nam x.es s).D,boo (known (nE x) s)],H):=by
 have e1:=d2w (fx:=fx) (F:=F) x hx (IB x) (.box [.d (.str []),.nils])
 have e2:evF (pgL fx F) a0t [.ptr 6 1,str s] [IB x,.box [.d (.str []),.nils],IB x,.map (a4c (nS x)),.map (a4c (nE x)),.map (a4c (nF x)),.box [.mp 3,.mp 4,.mp 5]]=some (.tup [i64 (loc (nE x) s),boo (known (nE x) s)],[IB x,.box [.d (.str []),.nils],IB x,.map (a4c (nS x)),.map (a4c (nE x)),.map (a4c (nF x)),.box [.mp 3,.mp 4,.mp 5]]):=up (a2t (mv fx) [3,4,5,6] (d1c x s) rfl rfl rfl rfl rfl)
 have ec:=e0u (fx:=fx) hF
 have hlen:(nE x).length=x.es.length:=by simp[nE]
 have hg:∀ i,pos (nE x) s=some i->i < x.es.length:=fun i h=>by have:=b1b h;omega
 unfold nam loc known at*
 rw[show x.es.map Nam.n=nE x from rfl]
 revert e2 hg
 cases pos (nE x) s with
 |none=>
  intro e2 _
  refine a5v (c1q (F:=F)) rfl rfl ?_ H
  repeat' (first|refine run ⟨?_⟩|refine ca (e1) ?_|refine ca (e2) ?_|fail)
  exact rfl
 |some i=>
  intro e2 hg
  dsimp only at e2⊢
  have hi:=hg i rfl
  have hm:(x.es.getD i default).fs.length<=mf:=by
   have:x.es.getD i default∈x.es:=by simp[List.getD_eq_getElem?_getD,List.getElem?_eq_getElem hi]
   exact(hx.ef _ this).2.1
  have pi:=gN hi
  have ec:=ec _ hm
  revert pi ec
  generalize x.es.getD i default=y
  intro pi ec
  refine a5v (c1q (F:=F)) rfl rfl ?_ H
  repeat' (first|refine run ⟨?_⟩|refine ca (e1) ?_|refine ca (e2) ?_|refine a0f pi ?_|refine ca (ec _) ?_|fail)
  exact rfl
end
end Go.Vm.Ite

namespace Go.Vm.Ite
open Go.Vm.Ip
section
variable {fx:Nat->Option Obj} {F:Nat->Option a0x}
theorem g0t (x:Its) (s:S):evF (pgL fx F) a8h [.ptr 3 0,str s] (FH x)=some (boo (kn x s),FH x):=by
 refine a0e (b6d (F:=F)) rfl rfl rfl ?_
 have e1:=c6a (fx:=fx) (F:=F) x s
 have e2:=d1c (fx:=fx) (F:=F) x s
 unfold kn
 revert e1 e2
 cases known (nS x) s<;>cases known (nE x) s<;>intro e1 e2
 all_goals
  repeat' (first|refine run ⟨?_⟩|refine ca (e1) ?_|refine ca (e2) ?_|fail)
  exact rfl
end
end Go.Vm.Ite
namespace Go.Vm.Ite
open Go.Vm.Ip
def strs (l:List S):V:= .d (.sl (l.map .str))
theorem gFl {l:List Fld} {i:Nat} (h:i < l.length):0<=(i:Int)/\(l.map Fld.D)[(i:Int).toNat]? =some (l.getD i default).D:=by
 refine⟨om,?_⟩
 rw[Int.toNat_natCast,List.getElem?_map,List.getElem?_eq_getElem h]
 simp[List.getD_eq_getElem?_getD,List.getElem?_eq_getElem h]
theorem a7m {α:Type} {l:List α} {i:Nat} {d:α} (h:i < l.length):l.take (i+1)=l.take i++[l.getD i d]:=by
 rw[List.take_add_one,List.getElem?_eq_getElem h]
 simp[List.getD_eq_getElem?_getD,List.getElem?_eq_getElem h]
theorem i0j {l:List Fld} {i:Nat} (h:i < l.length):(l.take (i+1)).map (fun f=>D.str f.t)=(l.take i).map (fun f=>D.str f.t)++[D.str (l.getD i default).t]:=by
  rw[a7m h,List.map_append];rfl
theorem c8x {l:List Fld} {i:Nat} (h:i < l.length):a7q (l.take (i+1))=if(l.getD i default).t=[] then a7q (l.take i) else a7q (l.take i)++[(l.getD i default).t]:=by
 unfold a7q
 rw[a7m (d:=default) h,List.map_append,List.filter_append]
 generalize l.getD i default=f
 by_cases e:f.t=[]<;>simp[e]
section
variable {fx:Nat->Option Obj} {F:Nat->Option a0x}
theorem f7a (l:List Fld):l.map (fun f=>D.str f.t)=(l.map Fld.t).map D.str:=by rw[List.map_map];rfl
set_option maxHeartbeats 1000000 in
theorem g8y (x:Its) (hx:b2u x) (s:S):evF (pgL fx F) c2j [.d x.D,.ptr 3 0,str s] (FH x)=some (.tup [strs (a0v x s).1,boo (a0v x s).2],FH x):=by
 apply up
 have hp:∀ (k:Nat) (r:V),evF (pgL fx F0) a0t [.ptr 3 k,str s] (FH x)=some (r,FH x)->r.sh (d6l [0,1,2,3] (FH x++[IB x,.row 1 []]).length)=r->evF (pgL fx F0) a0t [.ptr 3 k,str s] [.map (a4c (nS x)),.map (a4c (nE x)),.map (a4c (nF x)),.box [.mp 0,.mp 1,.mp 2],IB x,.row 1 []]=some (r,[.map (a4c (nS x)),.map (a4c (nE x)),.map (a4c (nF x)),.box [.mp 0,.mp 1,.mp 2],IB x,.row 1 []]):=fun k r h hr=>by
   have:=a2t (mv fx) [0,1,2,3] (X:=FH x++[IB x,.row 1 []]) (A:=[.ptr 3 k,str s]) h rfl rfl rfl rfl rfl
   rw[hr]at this
   exact this
 have e1:=hp 0 _ (c6a x s) rfl
 have e2:=hp 1 _ (d1c x s) rfl
 clear hp
 have hS:(nS x).length=x.ss.length:=by simp[nS]
 have hE:(nE x).length=x.es.length:=by simp[nE]
 have gS:∀ i,pos (nS x) s=some i->i < x.ss.length:=fun i h=>by have:=b1b h;omega
 have gE:∀ i,pos (nE x) s=some i->i < x.es.length:=fun i h=>by have:=b1b h;omega
 unfold a0v
 unfold loc known at e1 e2
 revert e1 e2 gS gE
 cases pos (nS x) s with
 |some i=>
  intro e1 e2 gS _
  dsimp only at e1⊢
  have hi:=gS i rfl
  have pi:=gN hi
  have hl:(x.ss.getD i default).fs.length<=4398046511104:=by
   have:x.ss.getD i default∈x.ss:=by simp[List.getD_eq_getElem?_getD,List.getElem?_eq_getElem hi]
   exact(hx.sf _ this).2.1
  revert pi hl
  generalize x.ss.getD i default=y
  obtain⟨yn,fs⟩:=y
  intro pi hl
  dsimp only at hl⊢
  refine a0e (b3z (F:=F)) rfl rfl rfl ?_
  repeat' (first|refine run ⟨?_⟩|refine ca (e1) ?_|refine a0f pi ?_|fail)
  refine a0o (α:=Nat) (fun j=>fs.length - j) (fun j=>[(8,.row 5 j),(31,.d (a1y fs)),(32,i64 fs.length),(33,i64 j)]) (fun j=>[.map (a4c (nS x)),.map (a4c (nE x)),.map (a4c (nF x)),.box [.mp 0,.mp 1,.mp 2],IB x,.row 1 ((fs.take j).map fun f=> .str f.t)]) (fun j=>j<=fs.length) ?_ 0 (Nat.zero_le _) (by show[_,_,_,_]=_;rw[List.length_map];rfl) rfl
  intro j hj
  by_cases h:j < fs.length
  ·have h':(j:Int) < (fs.length:Int):=om
   have pj:=gFl h
   have ht:=i0j h
   have ha:1=1/\((fs.take j).map fun f=>D.str f.t).length=j/\roomy (j+1) 16:=⟨rfl,by simp;omega,by constructor<;>omega⟩
   revert pj ht
   generalize fs.getD j default=f
   intro pj ht
   repeat' (first|refine run ⟨?_⟩|refine a0f pj ?_|refine And.intro ⟨rfl,Nat.one_pos⟩ ?_|refine And.intro ha ?_|fail)
   exact⟨j+1,om,om,by rw[a1k om]<;>rfl,by rw[ht]<;>rfl⟩
  ·have h':¬ (j:Int) < (fs.length:Int):=om
   obtain rfl:j=fs.length:=om
   have hlen:((fs.take fs.length).map fun f=>D.str f.t).length=fs.length:=by simp
   have hv:V.tup [.d (.sl ((fs.take fs.length).map fun f=>D.str f.t)),boo false]= .tup [strs (fs.map Fld.t),boo false]:=by rw[List.take_length,f7a];rfl
   repeat' (first|refine run ⟨?_⟩|refine And.intro hlen ?_|refine And.intro hv ?_|fail)
   exact rfl
 |none=>
  intro e1
  dsimp only at e1
  cases pos (nE x) s with
  |none=>
   intro e2 _ _
   refine a0e (b3z (F:=F)) rfl rfl rfl ?_
   repeat' (first|refine run ⟨?_⟩|refine ca (e1) ?_|refine ca (e2) ?_|fail)
   exact rfl
  |some i=>
   intro e2 _ gE
   dsimp only at e2⊢
   have hi:=gE i rfl
   have pi:=gN hi
   have hl:(x.es.getD i default).fs.length<=4398046511104:=by
    have:x.es.getD i default∈x.es:=by simp[List.getD_eq_getElem?_getD,List.getElem?_eq_getElem hi]
    exact(hx.ef _ this).2.1
   revert pi hl
   generalize x.es.getD i default=y
   obtain⟨yn,fs⟩:=y
   intro pi hl
   dsimp only at hl⊢
   refine a0e (b3z (F:=F)) rfl rfl rfl ?_
   repeat' (first|refine run ⟨?_⟩|refine ca (e1) ?_|refine ca (e2) ?_|refine a0f pi ?_|fail)
   refine a0o (α:=Nat) (fun j=>fs.length - j) (fun j=>[(8,.row 5 (a7q (fs.take j)).length),(58,.d (a1y fs)),(59,i64 fs.length),(60,i64 j)]) (fun j=>[.map (a4c (nS x)),.map (a4c (nE x)),.map (a4c (nF x)),.box [.mp 0,.mp 1,.mp 2],IB x,.row 1 ((a7q (fs.take j)).map .str)]) (fun j=>j<=fs.length) ?_ 0 (Nat.zero_le _) (by show[_,_,_,_]=_;rw[List.length_map];rfl) rfl
   intro j hj
   by_cases h:j < fs.length
   ·have h':(j:Int) < (fs.length:Int):=om
    have pj:=gFl h
    have ht:=c8x h
    have hsl:=b8s (fs.take j)
    simp only[List.length_take]at hsl
    have ha:1=1/\((a7q (fs.take j)).map D.str).length=(a7q (fs.take j)).length/\roomy ((a7q (fs.take j)).length+1) 16:=⟨rfl,by simp,by constructor<;>omega⟩
    revert pj ht
    generalize fs.getD j default=f
    intro pj ht
    by_cases hf:f.t=[]
    ·rw[if_pos hf]at ht
     have hf':(!decide (f.t=[]))=false:=by simp[hf]
     repeat' (first|refine run ⟨?_⟩|refine a0f pj ?_|fail)
     exact⟨j+1,om,om,by rw[a1k om,ht]<;>rfl,by rw[ht]<;>rfl⟩
    ·rw[if_neg hf]at ht
     have hf':(!decide (f.t=[]))=true:=by simp[hf]
     repeat' (first|refine run ⟨?_⟩|refine a0f pj ?_|refine And.intro ⟨rfl,Nat.one_pos⟩ ?_|refine And.intro ha ?_|fail)
     exact⟨j+1,om,om,by rw[a1k om,ht,List.length_append]<;>rfl,by rw[ht,List.map_append]<;>rfl⟩
   ·have h':¬ (j:Int) < (fs.length:Int):=om
    obtain rfl:j=fs.length:=om
    have hlen:((a7q (fs.take fs.length)).map D.str).length=(a7q (fs.take fs.length)).length:=by simp
    have hv:V.tup [.d (.sl ((a7q (fs.take fs.length)).map D.str)),boo true]= .tup [strs (a7q fs),boo true]:=by rw[List.take_length];rfl
    repeat' (first|refine run ⟨?_⟩|refine And.intro hlen ?_|refine And.intro hv ?_|fail)
    exact rfl
end
end Go.Vm.Ite


namespace Go.Vm.Ite
open Go.Vm.Ip
def SzD (v:Int×Int):V:= .d (.agg [.int .i64 v.1,.int .i64 v.2])
abbrev SZB (v:Int×Int):Ob:= .box [i64 v.1,i64 v.2]
abbrev SH (x:Its) (d:List (S×Int×Int)):Hp:=[.map (a4c (nS x)),.map (a4c (nE x)),.map (a4c (nF x)),.box [.mp 0,.mp 1,.mp 2],.map (szM d)]
theorem gS {l:List S} {i:Nat} (h:i < l.length):0<=(i:Int)/\(l.map D.str)[(i:Int).toNat]? =some (.str (l.getD i [])):=by
 refine⟨om,?_⟩
 rw[Int.toNat_natCast,List.getElem?_map,List.getElem?_eq_getElem h]
 simp[List.getD_eq_getElem?_getD,List.getElem?_eq_getElem h]
theorem fold_succ {α:Type} {g:α->S->α} {l:List S} {j:Nat} {a:α} (h:j < l.length):(l.take (j+1)).foldl g a=g ((l.take j).foldl g a) (l.getD j []):=by
 rw[a7m (d:=[]) h,List.foldl_append];rfl
theorem f3d {x:Its} (hx:b2u x) (s:S):(a0v x s).1.length<=4398046511104:=by
 unfold a0v
 have hS:(nS x).length=x.ss.length:=by simp[nS]
 have hE:(nE x).length=x.es.length:=by simp[nE]
 split
 ·rename_i i hi
  have h:=b1b hi
  have:x.ss.getD i default∈x.ss:=by simp[List.getD_eq_getElem?_getD,List.getElem?_eq_getElem (show i < x.ss.length by omega)]
  have:=(hx.sf _ this).2.1
  rw[List.length_map];exact this
 ·split
  ·rename_i i hi
   have h:=b1b hi
   have:x.es.getD i default∈x.es:=by simp[List.getD_eq_getElem?_getD,List.getElem?_eq_getElem (show i < x.es.length by omega)]
   have:=(hx.ef _ this).2.1
   exact Nat.le_trans (b8s _) this
  ·exact Nat.zero_le _
section
variable {fx:Nat->Option Obj}
set_option maxHeartbeats 4000000 in
theorem e8v (x:Its) (hx:b2u x) (N:Nat) (hN:N<=1000000):∀ (f:Nat) (s:S),a6t x f s->f<=N->∀ d,f2u x N d->∃ r H2,evF (pgL fx F0) a8t [.d x.D,.ptr 3 0,str s,.mp 4] (SH x d)=some (r,H2)/\r=SzD (szF x f s)/\∃ d',f2u x N d'/\H2=SH x d'
 |0,_,h,_,_,_=>h.elim
 |f+1,s,hdeep,hfN,d,hd=>by
  have ih:=fun(y:S) (hy:y∈(a0v x s).1) (d:List (S×Int×Int)) (hd:f2u x N d)=>e8v x hx N hN f y (hdeep y hy) om d hd
  refine f0q (d1j (F:=F0)) rfl rfl rfl ?_
  rcases d9z s d with hf|⟨w,p,hm,hf⟩
  ·have hend:∀ d,f2u x N d->∀ v,v=szF x (f+1) s->∃ d',f2u x N d'/\c1u (.str s) (.agg [.int .i64 v.1,.int .i64 v.2]) (szM d)=szM d':=fun d hd v hv=>by
     obtain⟨d',h1,h2⟩:=f0c s v.1 v.2 d
     refine⟨d',fun q hq=>?_,h1⟩
     rcases h2 q hq with h|h
     ·exact hd q h
     ·rw[h];exact⟨d5p hdeep hfN,by rw[show(s,v.1,v.2).2=v from rfl,show(s,v.1,v.2).1=s from rfl,hv];exact(e2t hdeep hfN).symm⟩
   have eh:evF (pgL fx F0) c2j [.d x.D,.ptr 3 0,str s] (SH x d++[IB x,SZB (0,0),SZB (0,0)])=some (.tup [strs (a0v x s).1,boo (a0v x s).2],SH x d++[IB x,SZB (0,0),SZB (0,0)]):=
    a2t (mv fx) [0,1,2,3] (g8y x hx s) rfl rfl rfl rfl rfl
   have e1:evF (pgL fx F0) a0t [.ptr 3 0,str s] (SH x d++[IB x,SZB (0,0),SZB (0,0),SZB (1,1)])=some (.tup [i64 (loc (nS x) s),boo (known (nS x) s)],SH x d++[IB x,SZB (0,0),SZB (0,0),SZB (1,1)]):=
    a2t (mv fx) [0,1,2,3] (c6a x s) rfl rfl rfl rfl rfl
   rw[szF]at*
   have hlen:(a0v x s).1.length<=4398046511104:=f3d hx s
   have hb:=d5e x f
   revert ih eh hlen hend hdeep
   generalize(a0v x s).1=l
   cases(a0v x s).2 with
   |true=>
    intro _ ih hend eh hlen
    simp only[if_true]at hend⊢
    repeat' (first|refine run ⟨?_⟩|refine mg (a8r _) hf ?_|refine ca (eh) ?_|refine ca (e1) ?_|fail)
    refine a0o (α:=Nat×List (S×Int×Int)) (fun a=>l.length - a.1) (fun a=>[(1,.ptr 3 0),(2,str s),(3,.mp 4),(4,.ptr 5 0),(8,.ptr 6 0),(13,.ptr 8 0),(48,strs l),(49,i64 l.length),(50,i64 a.1)]) (fun a=>SH x a.2++[IB x,SZB (0,0),SZB (0,0),SZB ((l.take a.1).foldl (fun a y=>d7h a (szF x f y)) (1,1))]) (fun a=>a.1<=l.length/\f2u x N a.2) ?_ (0,d) ⟨Nat.zero_le _,hd⟩ (by show[_,_,_,_,_,_,_,_,_]=_;rw[List.length_map]<;>rfl) rfl
    rintro⟨j,d2⟩ ⟨hj,hd2⟩
    dsimp only at hj hd2
    by_cases h:j < l.length
    ·have h':(j:Int) < (l.length:Int):=om
     have pj:=gS h
     obtain⟨r,H2,hev,hr,d3,hd3,hH⟩:=ih (l.getD j []) (by simp[List.getD_eq_getElem?_getD,List.getElem?_eq_getElem h]) d2 hd2
     subst hr hH
     have ha:=c5o hb om (l.take j) (1,1) (by decide) (by show(1:Int)<=_;omega) (by decide) (by decide)
     have hs:=fold_succ (g:=fun a y=>d7h a (szF x f y)) (a:=(1,1)) h
     have hv:=hb (l.getD j [])
     have ei:evF (pgL fx F0) a8t [.d x.D,.ptr 3 0,str (l.getD j []),.mp 4] (SH x d2++[IB x,SZB (0,0),SZB (0,0),SZB ((l.take j).foldl (fun a y=>d7h a (szF x f y)) (1,1))])=some (SzD (szF x f (l.getD j [])),SH x d3++[IB x,SZB (0,0),SZB (0,0),SZB ((l.take j).foldl (fun a y=>d7h a (szF x f y)) (1,1))]):=
       a2t (mv fx) [0,1,2,3,4] hev rfl rfl rfl rfl rfl
     revert pj ha hs hv ei
     generalize(l.take j).foldl (fun a y=>d7h a (szF x f y)) (1,1)=A
     generalize l.getD j []=y
     generalize szF x f y=v
     intro pj ha hs hv ei
     repeat' (first|refine run ⟨?_⟩|refine a0f pj ?_|refine ca (ei) ?_|fail)
     refine⟨(j+1,d3),⟨by show j+1<=_;omega,hd3⟩,by show _ - (j+1) < _ - j;omega,by rw[a1k om]<;>rfl,?_⟩
     dsimp only
     rw[hs,a1k om,a1k om];rfl
    ·have h':¬ (j:Int) < (l.length:Int):=om
     obtain rfl:j=l.length:=om
     rw[List.take_length]
     obtain⟨d4,g1,g2⟩:=hend d2 hd2 _ rfl
     revert g2
     generalize l.foldl (fun a y=>d7h a (szF x f y)) (1,1)=A
     intro g2
     repeat' (first|refine run ⟨?_⟩|refine And.intro (a8r _) ?_|fail)
     exact⟨d4,g1,by show _=[_,_,_,_,Ob.map (szM d4)];rw[<-g2];rfl⟩
   |false=>
    intro _ ih hend eh hlen
    simp only[Bool.false_eq_true,if_false]at hend⊢
    cases ck:known (nS x) s with
    |true=>
     rw[ck]at e1
     simp only[ck,if_true]at hend⊢
     repeat' (first|refine run ⟨?_⟩|refine mg (a8r _) hf ?_|refine ca (eh) ?_|refine ca (e1) ?_|fail)
     refine a0o (α:=Nat×List (S×Int×Int)) (fun a=>l.length - a.1) (fun a=>[(1,.ptr 3 0),(2,str s),(3,.mp 4),(4,.ptr 5 0),(8,.ptr 6 0),(13,.ptr 8 0),(77,strs l),(78,i64 l.length),(79,i64 a.1)]) (fun a=>SH x a.2++[IB x,SZB (0,0),SZB (0,0),SZB ((l.take a.1).foldl (fun a y=>d5c a (szF x f y)) (0,1))]) (fun a=>a.1<=l.length/\f2u x N a.2) ?_ (0,d) ⟨Nat.zero_le _,hd⟩ (by show[_,_,_,_,_,_,_,_,_]=_;rw[List.length_map]<;>rfl) rfl
     rintro⟨j,d2⟩ ⟨hj,hd2⟩
     dsimp only at hj hd2
     by_cases h:j < l.length
     ·have h':(j:Int) < (l.length:Int):=om
      have pj:=gS h
      obtain⟨r,H2,hev,hr,d3,hd3,hH⟩:=ih (l.getD j []) (by simp[List.getD_eq_getElem?_getD,List.getElem?_eq_getElem h]) d2 hd2
      subst hr hH
      have ha:=c6b hb (l.take j) (0,1) (by decide) (by decide) (by decide) (by decide)
      have hs:=fold_succ (g:=fun a y=>d5c a (szF x f y)) (a:=(0,1)) h
      have hv:=hb (l.getD j [])
      have ei:evF (pgL fx F0) a8t [.d x.D,.ptr 3 0,str (l.getD j []),.mp 4] (SH x d2++[IB x,SZB (0,0),SZB (0,0),SZB ((l.take j).foldl (fun a y=>d5c a (szF x f y)) (0,1))])=some (SzD (szF x f (l.getD j [])),SH x d3++[IB x,SZB (0,0),SZB (0,0),SZB ((l.take j).foldl (fun a y=>d5c a (szF x f y)) (0,1))]):=
        a2t (mv fx) [0,1,2,3,4] hev rfl rfl rfl rfl rfl
      revert pj ha hs hv ei
      generalize(l.take j).foldl (fun a y=>d5c a (szF x f y)) (0,1)=A
      generalize l.getD j []=y
      generalize szF x f y=v
      intro pj ha hs hv ei
      repeat' (first|refine run ⟨?_⟩|refine a0f pj ?_|refine ca (ei) ?_|fail)
      refine⟨(j+1,d3),⟨by show j+1<=_;omega,hd3⟩,by show _ - (j+1) < _ - j;omega,by rw[a1k om]<;>rfl,?_⟩
      dsimp only
      rw[hs,a1k om,a1k om];rfl
     ·have h':¬ (j:Int) < (l.length:Int):=om
      obtain rfl:j=l.length:=om
      rw[List.take_length]
      obtain⟨d4,g1,g2⟩:=hend d2 hd2 _ rfl
      revert g2
      generalize l.foldl (fun a y=>d5c a (szF x f y)) (0,1)=A
      intro g2
      repeat' (first|refine run ⟨?_⟩|refine And.intro (a8r _) ?_|fail)
      exact⟨d4,g1,by show _=[_,_,_,_,Ob.map (szM d4)];rw[<-g2];rfl⟩
    |false=>
     rw[ck]at e1
     simp only[ck,Bool.false_eq_true,if_false]at hend⊢
     by_cases cu:s=d5n
     ·rw[if_pos cu]at hend⊢
      have cu':s=[40,41]:=cu
      obtain⟨d4,g1,g2⟩:=hend d hd _ rfl
      repeat' (first|refine run ⟨?_⟩|refine mg (a8r _) hf ?_|refine ca (eh) ?_|refine ca (e1) ?_|refine And.intro (a8r _) ?_|fail)
      exact⟨d4,g1,by show _=[_,_,_,_,Ob.map (szM d4)];rw[<-g2];rfl⟩
     ·rw[if_neg cu]at hend⊢
      have cu':¬ s=[40,41]:=cu
      obtain⟨d4,g1,g2⟩:=hend d hd _ rfl
      repeat' (first|refine run ⟨?_⟩|refine mg (a8r _) hf ?_|refine ca (eh) ?_|refine ca (e1) ?_|refine And.intro (a8r _) ?_|fail)
      exact⟨d4,g1,by show _=[_,_,_,_,Ob.map (szM d4)];rw[<-g2];rfl⟩
  ·obtain⟨q1,q2⟩:=hd _ hm
   have hw:(w,p)=szF x (f+1) s:=by rw[show(w,p)=(s,w,p).2 from rfl,q2];exact g0g q1 hdeep
   rw[<-hw]
   repeat' (first|refine run ⟨?_⟩|refine mg (a8r _) hf ?_|fail)
   exact⟨d,hd,rfl⟩
end
end Go.Vm.Ite
namespace Go.Vm.Ite
open Go Go.Vm Go.Proofs Go.Vm.Ip
noncomputable def c88:Code:=(Tryz.f95.body).getD .skip
theorem b88:Tryz.f95.body=some c88:=kr
noncomputable def x88:Code:=cR (cR c88)
noncomputable def y88:Code:=cR x88
noncomputable def d88:a0m:=vR (vR B95)
noncomputable def A0':Code:=cA (cR (cR (cL x88)))
noncomputable def L0:Code:=cK (cK (cR (cL A0')))
noncomputable def G0:Code:=cR (cR L0)
noncomputable def J0:Code:=cK (cL G0)
noncomputable def vA0:a0m:=vA (vR (vR (vL d88)))
theorem sA0:(cL x88)= .seq (cL (cL x88)) (.seq (cL (cR (cL x88))) (.cond (.tmp 25) A0' .skip)):=kr
theorem sB0:A0'= .seq (.seq (cL (cL A0')) (.block 0 (.loop L0))) (cR A0'):=kr
theorem tA0:tr Tryz.prog n50 (cL (cL x88))=some (vR (vL (vL d88))):=kr
theorem tB0:tr Tryz.prog n50 (cL (cR (cL x88)))=some (vL (vR (vL d88))):=kr
theorem tC0:tr Tryz.prog n50 (cL (cL A0'))=some (vL (vL vA0)):=kr
theorem tD0:tr Tryz.prog n50 (cR A0')=some (vR vA0):=kr
noncomputable def A1':Code:=cA (cR (cR (cL y88)))
noncomputable def L1:Code:=cK (cK (cR (cL A1')))
noncomputable def G1:Code:=cR (cR L1)
noncomputable def J1:Code:=cK (cL G1)
noncomputable def vA1:a0m:=vA (vR (vR (vL (vR d88))))
theorem sA1:(cL y88)= .seq (cL (cL y88)) (.seq (cL (cR (cL y88))) (.cond (.tmp 52) A1' .skip)):=kr
theorem sB1:A1'= .seq (.seq (cL (cL A1')) (.block 2 (.loop L1))) (cR A1'):=kr
theorem tA1:tr Tryz.prog n50 (cL (cL y88))=some (vL (vL (vR d88))):=kr
theorem tB1:tr Tryz.prog n50 (cL (cR (cL y88)))=some (vL (vR (vL (vR d88)))):=kr
theorem tC1:tr Tryz.prog n50 (cL (cL A1'))=some (vL (vL vA1)):=kr
theorem tD1:tr Tryz.prog n50 (cR A1')=some (vR vA1):=kr
theorem tR0:tr Tryz.prog n50 (cL L0)=some (vL f3s):=kr
theorem tR1:tr Tryz.prog n50 (cL L1)=some (vL f1p):=kr
theorem tJ0:tr Tryz.prog n50 (cL J0)=some (vL (vK (vL (vR (vR f3s))))):=kr
theorem tG0:tr Tryz.prog n50 (cR G0)=some (vR (vR (vR f3s))):=kr
noncomputable def w0:List a0c:=vO (vR (vK (vL (vR (vR f3s)))))
theorem ap0a:a1f Tryz.prog (a4o (cR J0)) (((a4o (cR J0)).toList.drop 0).take 4)=some (w0.take 4):=kr
theorem ap0b:a1f Tryz.prog (a4o (cR J0)) (((a4o (cR J0)).toList.drop 5).take 1)=some (w0.drop 5):=kr
theorem ap0c:((a4o (cR J0))[4]?).map (fun o=>(o.op,o.dst,o.guard))=some (.call {callee:= .builtin .append,args:= #[.tmp 37,.tmp 40],argTypes:= #[97,97]},some 41,none):=kr
theorem ap0s:(a4o (cR J0)).size=4+1+1:=kr
noncomputable def g6t:TypeInfo:=(Tryz.prog.info? 9).getD default
theorem e9t:Tryz.prog.info? 9=some g6t:=kr
noncomputable def zStr:Value:=(g6t.zero).getD default
theorem e9i:g6t.zero=some zStr:=kr
theorem e9c:zStr.cells.size=g6t.size:=kr
theorem b8r:g6t.size=1:=kr
theorem e7s:g6t.bytes=16:=kr
theorem tJ1:tr Tryz.prog n50 (cL J1)=some (vL (vK (vL (vR (vR f1p))))):=kr
theorem tN1:tr Tryz.prog n50 (cL (cR J1))=some (vL (vR (vK (vL (vR (vR f1p)))))):=kr
theorem tG1:tr Tryz.prog n50 (cR G1)=some (vR (vR (vR f1p))):=kr
noncomputable def g1c:Code:=cA (cR (cR J1))
noncomputable def w1:List a0c:=vO (vA (vR (vR (vK (vL (vR (vR f1p)))))))
theorem ap1a:a1f Tryz.prog (a4o g1c) (((a4o g1c).toList.drop 0).take 4)=some (w1.take 4):=kr
theorem ap1b:a1f Tryz.prog (a4o g1c) (((a4o g1c).toList.drop 5).take 1)=some (w1.drop 5):=kr
theorem ap1c:((a4o g1c)[4]?).map (fun o=>(o.op,o.dst,o.guard))=some (.call {callee:= .builtin .append,args:= #[.tmp 67,.tmp 70],argTypes:= #[97,97]},some 71,none):=kr
theorem ap1s:(a4o g1c).size=4+1+1:=kr
theorem s88:c88= .seq (cL c88) (.seq (cL (cR c88)) (.seq (cL x88) (.seq (cL y88) (cR y88)))):=kr
theorem t88a:tr Tryz.prog n50 (cL c88)=some (vL B95):=kr
theorem t88b:tr Tryz.prog n50 (cL (cR c88))=some (vL (vR B95)):=kr
theorem t88c:tr Tryz.prog n50 (cR y88)=some (vR (vR d88)):=kr
theorem sL0:L0= .seq (cL L0) (.seq (.cond (.tmp 34) .skip (.exit 0)) (.seq (.block 1 (.seq (cL J0) (.region (cId (cR J0)) (a4o (cR J0)) false))) (cR G0))):=kr
theorem sL1:L1= .seq (cL L1) (.seq (.cond (.tmp 61) .skip (.exit 2)) (.seq (.block 3 (.seq (cL J1) (.seq (cL (cR J1)) (.cond (.tmp 66) (.region (cId (cA (cR (cR J1)))) (a4o (cA (cR (cR J1)))) false) .skip)))) (cR G1))):=kr
abbrev HH (x:Its) (o6 o7 o8 o9:Ob):Hp:=[IB x,IB x,.map (a4c (nS x)),.map (a4c (nE x)),.map (a4c (nF x)),.box [.mp 2,.mp 3,.mp 4],o6,o7,o8,o9]
abbrev HI (x:Its) (o6 o7 o8 o9:Ob):Hp:=[IB x,IB x,.map (a4c (nS x)),.map (a4c (nE x)),.map (a4c (nF x)),.box [.mp 2,.mp 3,.mp 4],o6,o7,o8,o9,IB x]
theorem e2m {x:Its} {o6 o7 o8 o9:Ob} (h:Clean 10 (HH x o6 o7 o8 o9)):Clean 11 (HI x o6 o7 o8 o9):=by
 intro i c hi ho
 by_cases e:i=10
 ·subst e
  simp only[HI,List.getElem?_cons_succ,List.getElem?_cons_zero,Option.some.injEq,IB,Ob.box.injEq]at ho
  subst ho;rfl
 ·have h1:=h i c om (by
    have:(HI x o6 o7 o8 o9)=HH x o6 o7 o8 o9++[IB x]:=rfl
    rw[this,List.getElem?_append_left (by show i < 10;omega)]at ho
    exact ho)
  exact a3p om _ h1
theorem d4s {n:Nat} {H X:Hp} (h:Clean n H) (hn:n<=H.length):Clean n (H++X):=by
 intro i c hi ho
 rw[List.getElem?_append_left om]at ho
 exact h i c hi ho
section
variable {fx:Nat->Option Obj}
abbrev cxL (fx:Nat->Option Obj):Cx:=⟨fun _=>[],fx⟩
theorem tOk (fx:Nat->Option Obj):c0x Tryz.prog (pgL fx F0):=h3p _ _ (fun _ _ h=>nomatch h)
theorem u66:Tryz.prog.underlying 97=some (.slice 9):=kr
def g8e (fx:Nat->Option Obj) (x:Its) (o6 o7 o8 o9:Ob) (g0:Gh) (ww:World) (E:Nat->Value->Env) (len:Nat) (us:Nat->List S) (k:Nat) (a:Act) (w:World):Prop:=
 ∃ j g xv,k=len - j/\j<=len/\a2b (cxL fx) 74 g ⟨E j xv,HI x o6 o7 o8 o9,10⟩ a w/\Loose (cxL fx) g w ww.heap.size 1 xv (us j).length ((us j).map d5z)/\Ext 10 g0 (HH x o6 o7 o8 o9) ww g (HI x o6 o7 o8 o9) w
set_option maxHeartbeats 2000000 in
theorem i1i (x:Its) (o6 o7 o8 o9:Ob) (hcl:Clean 10 (HH x o6 o7 o8 o9)) (g0:Gh) (ww:World) (fs:List Fld) (hfs:fs.length<=4398046511104) {Q:Exit->Act->World->Prop}
 (hq:∀ g a w xv,a2b (cxL fx) 74 g ⟨[(8,.raw xv)],HI x o6 o7 o8 o9,10⟩ a w->Loose (cxL fx) g w ww.heap.size 1 xv (fs.map Fld.t).length ((fs.map Fld.t).map d5z)->Ext 10 g0 (HH x o6 o7 o8 o9) ww g (HI x o6 o7 o8 o9) w->Q .normal a w)
 (a:Act) (w:World) (h:g8e fx x o6 o7 o8 o9 g0 ww (fun j xv=>[(8,.raw xv),(31,.d (a1y fs)),(32,i64 fs.length),(33,i64 j)]) fs.length (fun j=>(fs.take j).map Fld.t) fs.length a w):(Code.block 0 (.loop L0)).wp Tryz.prog Q a w:=by
 have hT:=tOk fx
 apply wp_block
 refine b7g (g8e fx x o6 o7 o8 o9 g0 ww (fun j xv=>[(8,.raw xv),(31,.d (a1y fs)),(32,i64 fs.length),(33,i64 j)]) fs.length (fun j=>(fs.take j).map Fld.t)) ?_ h
 rintro k a w ⟨j,g,xv,rfl,hj,ok,hl,E0⟩
 rw[sL0]
 apply wp_seq
 refine chunk hT mixed tR0 kr ok (R:=fun x1 e' H'=>x1= .nrm/\a1d [8,31,32,33,34] e'=[(8,.raw xv),(31,.d (a1y fs)),(32,i64 fs.length),(33,i64 j),(34,boo (decide ((j:Int) < fs.length)))]/\H'=HI x o6 o7 o8 o9) ?_ ?_
 ·refine run ⟨?_⟩
  exact rfl
 rintro x1 e' H' g1 a1 w1 ⟨rfl,he,rfl⟩ ok1 ext1
 have ok1:=ok1.forget [8,31,32,33,34]
 rw[he]at ok1
 have hl1:=hl.ext ext1
 have E1:=E0.trans ext1 (Nat.le_refl _)
 clear ok he
 show(Code.seq _ _).wp _ _ _ _
 apply wp_seq
 refine Go.wp_cond_split (a7h ok1 (i:=34) (by decide) rfl) (fun hc=>?_) (fun hc=>?_)
 ·have hlt:j < fs.length:=by have:=of_decide_eq_true hc;omega
  have pj:=gFl hlt
  have ht:(fs.take (j+1)).map Fld.t=(fs.take j).map Fld.t++[(fs.getD j default).t]:=by rw[a7m hlt,List.map_append];rfl
  revert pj ht
  generalize fs.getD j default=f
  intro pj ht
  apply wp_skip
  show(Code.seq _ _).wp _ _ _ _
  apply wp_seq
  apply wp_block
  apply wp_seq
  refine chunk hT mixed tJ0 kr ok1 (R:=fun x1 e' H'=>x1= .nrm/\a1d [8,12,31,32,33] e'=[(8,.raw xv),(12,.ptr 11 0),(31,.d (a1y fs)),(32,i64 fs.length),(33,i64 j)]/\H'=HI x o6 o7 o8 o9++[.box [str f.n,str f.t]]) ?_ ?_
  ·repeat' (first|refine run ⟨?_⟩|refine a0f pj ?_|fail)
   exact rfl
  rintro x1 e' H' g2 a2 w2 ⟨rfl,he,rfl⟩ ok2 ext2
  have ok2:=ok2.forget [8,12,31,32,33]
  rw[he]at ok2
  have hl2:=hl1.ext ext2
  have E2:=E1.trans ext2 (Nat.le_refl _)
  show(Code.region _ _ _).wp _ _ _ _
  refine e8i (b8t hT mixed) ap0s ap0a ap0b kr kr ap0c (by decide) u66 e9t e9i e9c ok2 (s1:=⟨[(40,.d (.sl [.str f.t])),(39,str f.t),(38,.ptr 11 1),(37,.raw xv),(8,.raw xv),(12,.ptr 11 0),(31,.d (a1y fs)),(32,i64 fs.length),(33,i64 j)],HI x o6 o7 o8 o9++[.box [str f.n,str f.t]],10⟩) rfl (xv:=xv) rfl (by decide) (w0:=ww) (by rw[b8r];exact hl2) E2 (m3:=1) (vs:=[d5z f.t]) (fun g' a' w' ok' _=>by rw[b8r];exact d5t ok' (by decide) rfl) (by intro u hu;rw[List.mem_singleton]at hu;subst hu;rfl) (by rw[e7s];constructor<;>simp<;>omega) (s2:=fun xv'=>⟨[(8,.raw xv'),(41,.raw xv'),(40,.d (.sl [.str f.t])),(39,str f.t),(38,.ptr 11 1),(37,.raw xv),(8,.raw xv),(12,.ptr 11 0),(31,.d (a1y fs)),(32,i64 fs.length),(33,i64 j)],HI x o6 o7 o8 o9++[.box [str f.n,str f.t]],10⟩) (fun _=>rfl) ?_
  intro xv' g3 a3 w3 ok3 hl3 E3
  rw[b8r]at hl3
  show Code.wp _ (cR G0) _ _ _
  refine chunk hT mixed tG0 kr ok3 (R:=fun x1 e' H'=>x1= .nrm/\cut 11 (a1d [8,31,32,33] e')=[(8,.raw xv'),(31,.d (a1y fs)),(32,i64 fs.length),(33,i64 ((j+1:Nat):Int))]/\H'=HI x o6 o7 o8 o9++[.box [str f.n,str f.t]]) ?_ ?_
  ·have hw:IntKind.i64.wrap ((j:Int)+1)=((j+1:Nat):Int):=by rw[a1k om];rfl
   refine run ⟨?_⟩
   refine⟨?_,rfl⟩
   rw[<-hw];rfl
  rintro x1 e' H' g4 a4 w4 ⟨rfl,he,rfl⟩ ok4 ext4
  have hl4:=(hl3.ext ext4).cut (m:=11)
  have E4:=(E3.trans ext4 (Nat.le_refl _)).h5r (n:=11) (by show 10<=11;decide) (by show 11<=12;decide) (by show 10<=11;decide)
  have ok4:=ok4.drop (n:=11) [8,31,32,33] (by show 11<=12;decide) (d4s (e2m hcl) (by show 11<=11;decide)) (by show 10<=11;decide)
  rw[he]at ok4
  refine⟨fs.length - (j+1),om,j+1,g4.cut 11,xv',rfl,om,ok4,?_,E4⟩
  dsimp only at hl4⊢
  rw[ht,List.map_append,List.length_append]
  exact hl4
 ·apply wp_exit
  have hj':j=fs.length:=by have:=of_decide_eq_false hc;omega
  subst hj'
  dsimp only at hl1
  rw[List.take_length]at hl1
  exact hq _ _ _ xv (ok1.forget [8]) hl1 E1
set_option maxHeartbeats 2000000 in
theorem h8t (x:Its) (o6 o7 o8 o9:Ob) (hcl:Clean 10 (HH x o6 o7 o8 o9)) (g0:Gh) (ww:World) (fs:List Fld) (hfs:fs.length<=4398046511104) {Q:Exit->Act->World->Prop}
 (hq:∀ g a w xv,a2b (cxL fx) 74 g ⟨[(8,.raw xv)],HI x o6 o7 o8 o9,10⟩ a w->Loose (cxL fx) g w ww.heap.size 1 xv (a7q fs).length ((a7q fs).map d5z)->Ext 10 g0 (HH x o6 o7 o8 o9) ww g (HI x o6 o7 o8 o9) w->Q .normal a w)
 (a:Act) (w:World) (h:g8e fx x o6 o7 o8 o9 g0 ww (fun j xv=>[(8,.raw xv),(58,.d (a1y fs)),(59,i64 fs.length),(60,i64 j)]) fs.length (fun j=>a7q (fs.take j)) fs.length a w):(Code.block 2 (.loop L1)).wp Tryz.prog Q a w:=by
 have hT:=tOk fx
 apply wp_block
 refine b7g (g8e fx x o6 o7 o8 o9 g0 ww (fun j xv=>[(8,.raw xv),(58,.d (a1y fs)),(59,i64 fs.length),(60,i64 j)]) fs.length (fun j=>a7q (fs.take j))) ?_ h
 rintro k a w ⟨j,g,xv,rfl,hj,ok,hl,E0⟩
 rw[sL1]
 apply wp_seq
 refine chunk hT mixed tR1 kr ok (R:=fun x1 e' H'=>x1= .nrm/\a1d [8,58,59,60,61] e'=[(8,.raw xv),(58,.d (a1y fs)),(59,i64 fs.length),(60,i64 j),(61,boo (decide ((j:Int) < fs.length)))]/\H'=HI x o6 o7 o8 o9) ?_ ?_
 ·refine run ⟨?_⟩
  exact rfl
 rintro x1 e' H' g1 a1 w1 ⟨rfl,he,rfl⟩ ok1 ext1
 have ok1:=ok1.forget [8,58,59,60,61]
 rw[he]at ok1
 have hl1:=hl.ext ext1
 have E1:=E0.trans ext1 (Nat.le_refl _)
 clear ok he
 show(Code.seq _ _).wp _ _ _ _
 apply wp_seq
 refine Go.wp_cond_split (a7h ok1 (i:=61) (by decide) rfl) (fun hc=>?_) (fun hc=>?_)
 ·have hlt:j < fs.length:=by have:=of_decide_eq_true hc;omega
  have pj:=gFl hlt
  have ht:=c8x hlt
  have hsl:=b8s (fs.take j)
  simp only[List.length_take]at hsl
  revert pj ht
  generalize fs.getD j default=f
  intro pj ht
  apply wp_skip
  show(Code.seq _ _).wp _ _ _ _
  apply wp_seq
  apply wp_block
  apply wp_seq
  refine chunk hT mixed tJ1 kr ok1 (R:=fun x1 e' H'=>x1= .nrm/\a1d [8,16,58,59,60] e'=[(8,.raw xv),(16,.ptr 11 0),(58,.d (a1y fs)),(59,i64 fs.length),(60,i64 j)]/\H'=HI x o6 o7 o8 o9++[.box [str f.n,str f.t]]) ?_ ?_
  ·repeat' (first|refine run ⟨?_⟩|refine a0f pj ?_|fail)
   exact rfl
  rintro x1 e' H' g2 a2 w2 ⟨rfl,he,rfl⟩ ok2 ext2
  have ok2:=ok2.forget [8,16,58,59,60]
  rw[he]at ok2
  have hl2:=hl1.ext ext2
  have E2:=E1.trans ext2 (Nat.le_refl _)
  show(Code.seq _ _).wp _ _ _ _
  apply wp_seq
  refine chunk hT mixed tN1 kr ok2 (R:=fun x1 e' H'=>x1= .nrm/\a1d [8,16,58,59,60,66] e'=[(8,.raw xv),(16,.ptr 11 0),(58,.d (a1y fs)),(59,i64 fs.length),(60,i64 j),(66,boo (!decide (f.t=[])))]/\H'=HI x o6 o7 o8 o9++[.box [str f.n,str f.t]]) ?_ ?_
  ·refine run ⟨?_⟩
   exact rfl
  rintro x1 e' H' g3 a3 w3 ⟨rfl,he,rfl⟩ ok3 ext3
  have ok3:=ok3.forget [8,16,58,59,60,66]
  rw[he]at ok3
  have hl3:=hl2.ext ext3
  have E3:=E2.trans ext3 (Nat.le_refl _)
  have fin:∀ (g3:Gh) (a3:Act) (w3:World) (xv':Value) (e:Env),a1g e 8= .raw xv'->a1g e 58= .d (a1y fs)->a1g e 59=i64 fs.length->a1g e 60=i64 j->a2b (pgL fx F0).toCx 74 g3 ⟨e,HI x o6 o7 o8 o9++[.box [str f.n,str f.t]],10⟩ a3 w3->Loose (cxL fx) g3 w3 ww.heap.size 1 xv' (a7q (fs.take (j+1))).length ((a7q (fs.take (j+1))).map d5z)->Ext 10 g0 (HH x o6 o7 o8 o9) ww g3 (HI x o6 o7 o8 o9++[.box [str f.n,str f.t]]) w3->
   Code.wp Tryz.prog (cR G1) (Exit.then (fun a' w'=> ∃ k',k' < fs.length - j/\g8e fx x o6 o7 o8 o9 g0 ww (fun j xv=>[(8,.raw xv),(58,.d (a1y fs)),(59,i64 fs.length),(60,i64 j)]) fs.length (fun j=>a7q (fs.take j)) k' a' w') (Exit.inBlock 2 Q)) a3 w3:=by
   intro g3 a3 w3 xv' e q1 q2 q3 q4 ok3 hl3 E3
   have ok3:=ok3.forget [8,58,59,60]
   rw[show a1d [8,58,59,60] e=[(8,a1g e 8),(58,a1g e 58),(59,a1g e 59),(60,a1g e 60)] from rfl,q1,q2,q3,q4]at ok3
   refine chunk hT mixed tG1 kr ok3 (R:=fun x1 e' H'=>x1= .nrm/\cut 11 (a1d [8,58,59,60] e')=[(8,.raw xv'),(58,.d (a1y fs)),(59,i64 fs.length),(60,i64 ((j+1:Nat):Int))]/\H'=HI x o6 o7 o8 o9++[.box [str f.n,str f.t]]) ?_ ?_
   ·have hw:IntKind.i64.wrap ((j:Int)+1)=((j+1:Nat):Int):=by rw[a1k om];rfl
    refine run ⟨?_⟩
    refine⟨?_,rfl⟩
    rw[<-hw];rfl
   rintro x1 e' H' g4 a4 w4 ⟨rfl,he,rfl⟩ ok4 ext4
   have hl4:=(hl3.ext ext4).cut (m:=11)
   have E4:=(E3.trans ext4 (Nat.le_refl _)).h5r (n:=11) (by show 10<=11;decide) (by show 11<=12;decide) (by show 10<=11;decide)
   have ok4:=ok4.drop (n:=11) [8,58,59,60] (by show 11<=12;decide) (d4s (e2m hcl) (by show 11<=11;decide)) (by show 10<=11;decide)
   rw[he]at ok4
   exact⟨fs.length - (j+1),om,j+1,g4.cut 11,xv',rfl,om,ok4,hl4,E4⟩
  show(Code.cond _ _ _).wp _ _ _ _
  refine Go.wp_cond_split (a7h ok3 (i:=66) (by decide) rfl) (fun hc2=>?_) (fun hc2=>?_)
  ·have hft:¬ f.t=[]:=by simpa using hc2
   rw[if_neg hft]at ht
   refine e8i (b8t hT mixed) ap1s ap1a ap1b kr kr ap1c (by decide) u66 e9t e9i e9c ok3 (s1:=⟨[(70,.d (.sl [.str f.t])),(69,str f.t),(68,.ptr 11 1),(67,.raw xv),(8,.raw xv),(16,.ptr 11 0),(58,.d (a1y fs)),(59,i64 fs.length),(60,i64 j),(66,boo (!decide (f.t=[])))],HI x o6 o7 o8 o9++[.box [str f.n,str f.t]],10⟩) rfl (xv:=xv) rfl (by decide) (w0:=ww) (by rw[b8r];exact hl3) E3 (m3:=1) (vs:=[d5z f.t]) (fun g' a' w' ok' _=>by rw[b8r];exact d5t ok' (by decide) rfl) (by intro u hu;rw[List.mem_singleton]at hu;subst hu;rfl) (by rw[e7s];dsimp only;constructor<;>omega) (s2:=fun xv'=>⟨[(8,.raw xv'),(71,.raw xv'),(70,.d (.sl [.str f.t])),(69,str f.t),(68,.ptr 11 1),(67,.raw xv),(8,.raw xv),(16,.ptr 11 0),(58,.d (a1y fs)),(59,i64 fs.length),(60,i64 j),(66,boo (!decide (f.t=[])))],HI x o6 o7 o8 o9++[.box [str f.n,str f.t]],10⟩) (fun _=>rfl) ?_
   intro xv' g4 a4 w4 ok4 hl4 E4
   rw[b8r]at hl4
   refine fin g4 a4 w4 xv' _ rfl rfl rfl rfl ok4 ?_ E4
   rw[ht,List.map_append,List.length_append]
   exact hl4
  ·have hft:f.t=[]:=by simpa using hc2
   rw[if_pos hft]at ht
   apply wp_skip
   refine fin g3 a3 w3 xv _ rfl rfl rfl rfl ok3 ?_ E3
   rw[ht]
   exact hl3
 ·apply wp_exit
  have hj':j=fs.length:=by have:=of_decide_eq_false hc;omega
  subst hj'
  dsimp only at hl1
  rw[List.take_length]at hl1
  exact hq _ _ _ xv (ok1.forget [8]) hl1 E1
theorem r88:b9k Tryz.prog Tryz.f95.results.toList=some [.tmp 6,.tmp 7]:=kr
theorem i1s:Tryz.prog.funcs[95]? =some Tryz.f95:=kr
theorem n88t:Tryz.f95.ntmps=74:=kr
def HQ (fx:Nat->Option Obj) (x:Its) (s:S) (o6 o7 o8 o9:Ob) (g0:Gh) (ww:World):Exit->Act->World->Prop:=fun e a w=>e= .ret/\∃ g xv,a2b (cxL fx) 74 g ⟨[(6,.raw xv),(7,boo (a0v x s).2)],HI x o6 o7 o8 o9,10⟩ a w/\Loose (cxL fx) g w ww.heap.size 1 xv (a0v x s).1.length ((a0v x s).1.map d5z)/\Ext 10 g0 (HH x o6 o7 o8 o9) ww g (HI x o6 o7 o8 o9) w
set_option maxHeartbeats 4000000 in
theorem e8h (x:Its) (hx:b2u x) (s:S) (o6 o7 o8 o9:Ob) (g:Gh) (w:World) (a:Act) (hcl:Clean 10 (HH x o6 o7 o8 o9)) (ok:a2b (cxL fx) 74 g ⟨[(0,.d x.D),(1,.ptr 5 0),(2,str s)],HH x o6 o7 o8 o9,10⟩ a w):c88.wp Tryz.prog (HQ fx x s o6 o7 o8 o9 g w) a w:=by
 have hT:=tOk fx
 have hp:∀ (k:Nat) (r:V),evF (pgL fx F0) a0t [.ptr 3 k,str s] (FH x)=some (r,FH x)->r.sh (d6l [2,3,4,5] (HI x o6 o7 o8 o9).length)=r->evF (pgL fx F0) a0t [.ptr 5 k,str s] (HI x o6 o7 o8 o9)=some (r,HI x o6 o7 o8 o9):=fun k r h hr=>by
   have:=a2t (mv fx) [2,3,4,5] (X:=HI x o6 o7 o8 o9) (A:=[.ptr 5 k,str s]) h rfl rfl rfl rfl rfl
   rw[hr]at this
   exact this
 have e1:=hp 0 _ (c6a x s) rfl
 have e2:=hp 1 _ (d1c x s) rfl
 clear hp
 have hS:(nS x).length=x.ss.length:=by simp[nS]
 have hE:(nE x).length=x.es.length:=by simp[nE]
 have gS:∀ i,pos (nS x) s=some i->i < x.ss.length:=fun i h=>by have:=b1b h;omega
 have gE:∀ i,pos (nE x) s=some i->i < x.es.length:=fun i h=>by have:=b1b h;omega
 rw[s88]
 apply wp_seq
 refine chunk hT mixed t88a kr ok (R:=fun x1 e' H'=>x1= .nrm/\a1d [1,2,3] e'=[(1,.ptr 5 0),(2,str s),(3,.ptr 10 0)]/\H'=HI x o6 o7 o8 o9) ?_ ?_
 ·refine run ⟨?_⟩
  exact rfl
 rintro x1 e' H' g1 a1 w1 ⟨rfl,he,rfl⟩ ok1 ext1
 have ok1:=ok1.forget [1,2,3]
 rw[he]at ok1
 clear he ok
 show(Code.seq _ _).wp _ _ _ _
 apply wp_seq
 refine chunk hT mixed t88b kr ok1 (R:=fun x1 e' H'=>x1= .nrm/\a1d [1,2,3,8] e'=[(1,.ptr 5 0),(2,str s),(3,.ptr 10 0),(8,.nils)]/\H'=HI x o6 o7 o8 o9) ?_ ?_
 ·refine run ⟨?_⟩
  exact rfl
 rintro x1 e' H' g2 a2 w2 ⟨rfl,he,rfl⟩ ok2 ext2
 have ok2:=ok2.forget [1,2,3,8]
 rw[he]at ok2
 have ok2:=(ok2.h0d (i:=8) (by decide) rfl).forget [1,2,3,8]
 have E2:=ext1.trans ext2 (Nat.le_refl _)
 clear he ok1
 show(Code.seq _ _).wp _ _ _ _
 apply wp_seq
 rw[sA0]
 apply wp_seq
 refine chunk hT mixed tA0 kr ok2 (R:=fun x1 e' H'=>x1= .nrm/\a1d [1,2,3,8,9,10] e'=[(1,.ptr 5 0),(2,str s),(3,.ptr 10 0),(8,.raw (.slice none 0 0)),(9,i64 (loc (nS x) s)),(10,boo (known (nS x) s))]/\H'=HI x o6 o7 o8 o9) ?_ ?_
 ·repeat' (first|refine run ⟨?_⟩|refine ca (e1) ?_|fail)
  exact rfl
 rintro x1 e' H' g3 a3 w3 ⟨rfl,he,rfl⟩ ok3 ext3
 have ok3:=ok3.forget [1,2,3,8,9,10]
 rw[he]at ok3
 have E3:=E2.trans ext3 (Nat.le_refl _)
 clear he ok2
 show(Code.seq _ _).wp _ _ _ _
 apply wp_seq
 refine chunk hT mixed tB0 kr ok3 (R:=fun x1 e' H'=>x1= .nrm/\a1d [1,2,3,8,9,25] e'=[(1,.ptr 5 0),(2,str s),(3,.ptr 10 0),(8,.raw (.slice none 0 0)),(9,i64 (loc (nS x) s)),(25,boo (known (nS x) s))]/\H'=HI x o6 o7 o8 o9) ?_ ?_
 ·refine run ⟨?_⟩
  exact rfl
 rintro x1 e' H' g4 a4 w4 ⟨rfl,he,rfl⟩ ok4 ext4
 have ok4:=ok4.forget [1,2,3,8,9,25]
 rw[he]at ok4
 have E4:=E3.trans ext4 (Nat.le_refl _)
 clear he ok3
 show(Code.cond _ _ _).wp _ _ _ _
 refine Go.wp_cond_split (a7h ok4 (i:=25) (by decide) rfl) (fun hc=>?_) (fun hc=>?_)
 ·cases hp:pos (nS x) s with
  |none=>rw[known,hp]at hc;cases hc
  |some i=>
   have hi:=gS i hp
   have hloc:loc (nS x) s=(i:Int):=by rw[loc,hp]
   rw[hloc]at ok4
   unfold HQ a0v
   rw[hp]
   dsimp only
   have pi:=gN hi
   have hl:(x.ss.getD i default).fs.length<=4398046511104:=by
    have:x.ss.getD i default∈x.ss:=by simp[List.getD_eq_getElem?_getD,List.getElem?_eq_getElem hi]
    exact(hx.sf _ this).2.1
   revert pi hl
   generalize x.ss.getD i default=y
   obtain⟨yn,fs⟩:=y
   intro pi hl
   dsimp only at hl⊢
   rw[sB0]
   apply wp_seq
   apply wp_seq
   refine chunk hT mixed tC0 kr ok4 (R:=fun x1 e' H'=>x1= .nrm/\a1d [8,31,32,33] e'=[(8,.raw (.slice none 0 0)),(31,.d (a1y fs)),(32,i64 fs.length),(33,i64 ((0:Nat):Int))]/\H'=HI x o6 o7 o8 o9) ?_ ?_
   ·repeat' (first|refine run ⟨?_⟩|refine a0f pi ?_|fail)
    exact⟨by show[_,_,_,_]=_;rw[List.length_map]<;>rfl,rfl⟩
   rintro x1 e' H' g7 a7 w7 ⟨rfl,he,rfl⟩ ok7 ext7
   have ok7:=ok7.forget [8,31,32,33]
   rw[he]at ok7
   have E7:=E4.trans ext7 (Nat.le_refl _)
   show(Code.block _ _).wp _ _ _ _
   refine i1i x o6 o7 o8 o9 hcl g w fs hl (fun g8 a8 w8 xv ok8 hl8 E8=>?_) a7 w7 ⟨0,g7,.slice none 0 0,rfl,Nat.zero_le _,ok7,.nil,E7⟩
   show Code.wp _ (cR A0') _ _ _
   refine chunk hT mixed tD0 kr ok8 (R:=fun x1 e' H'=>x1= .ret/\a1d [6,7] e'=[(6,.raw xv),(7,boo false)]/\H'=HI x o6 o7 o8 o9) ?_ ?_
   ·refine run ⟨?_⟩
    exact rfl
   rintro x1 e' H' g9 a9 w9 ⟨rfl,he,rfl⟩ ok9 ext9
   have ok9:=ok9.forget [6,7]
   rw[he]at ok9
   exact⟨rfl,g9,xv,ok9,hl8.ext ext9,E8.trans ext9 (Nat.le_refl _)⟩
 ·apply wp_skip
  cases hpS:pos (nS x) s with
  |some i=>rw[known,hpS]at hc;cases hc
  |none=>
   show(Code.seq _ _).wp _ _ _ _
   apply wp_seq
   rw[sA1]
   apply wp_seq
   refine chunk hT mixed tA1 kr ok4 (R:=fun x1 e' H'=>x1= .nrm/\a1d [2,3,8,13,14] e'=[(2,str s),(3,.ptr 10 0),(8,.raw (.slice none 0 0)),(13,i64 (loc (nE x) s)),(14,boo (known (nE x) s))]/\H'=HI x o6 o7 o8 o9) ?_ ?_
   ·repeat' (first|refine run ⟨?_⟩|refine ca (e2) ?_|fail)
    exact rfl
   rintro x1 e' H' g5 a5 w5 ⟨rfl,he,rfl⟩ ok5 ext5
   have ok5:=ok5.forget [2,3,8,13,14]
   rw[he]at ok5
   have E5:=E4.trans ext5 (Nat.le_refl _)
   clear he ok4
   show(Code.seq _ _).wp _ _ _ _
   apply wp_seq
   refine chunk hT mixed tB1 kr ok5 (R:=fun x1 e' H'=>x1= .nrm/\a1d [2,3,8,13,52] e'=[(2,str s),(3,.ptr 10 0),(8,.raw (.slice none 0 0)),(13,i64 (loc (nE x) s)),(52,boo (known (nE x) s))]/\H'=HI x o6 o7 o8 o9) ?_ ?_
   ·refine run ⟨?_⟩
    exact rfl
   rintro x1 e' H' g6 a6 w6 ⟨rfl,he,rfl⟩ ok6 ext6
   have ok6:=ok6.forget [2,3,8,13,52]
   rw[he]at ok6
   have E6:=E5.trans ext6 (Nat.le_refl _)
   clear he ok5
   show(Code.cond _ _ _).wp _ _ _ _
   refine Go.wp_cond_split (a7h ok6 (i:=52) (by decide) rfl) (fun hc2=>?_) (fun hc2=>?_)
   ·cases hp:pos (nE x) s with
    |none=>rw[known,hp]at hc2;cases hc2
    |some i=>
     have hi:=gE i hp
     have hloc:loc (nE x) s=(i:Int):=by rw[loc,hp]
     rw[hloc]at ok6
     unfold HQ a0v
     rw[hpS,hp]
     dsimp only
     have pi:=gN hi
     have hl:(x.es.getD i default).fs.length<=4398046511104:=by
      have:x.es.getD i default∈x.es:=by simp[List.getD_eq_getElem?_getD,List.getElem?_eq_getElem hi]
      exact(hx.ef _ this).2.1
     revert pi hl
     generalize x.es.getD i default=y
     obtain⟨yn,fs⟩:=y
     intro pi hl
     dsimp only at hl⊢
     rw[sB1]
     apply wp_seq
     apply wp_seq
     refine chunk hT mixed tC1 kr ok6 (R:=fun x1 e' H'=>x1= .nrm/\a1d [8,58,59,60] e'=[(8,.raw (.slice none 0 0)),(58,.d (a1y fs)),(59,i64 fs.length),(60,i64 ((0:Nat):Int))]/\H'=HI x o6 o7 o8 o9) ?_ ?_
     ·repeat' (first|refine run ⟨?_⟩|refine a0f pi ?_|fail)
      exact⟨by show[_,_,_,_]=_;rw[List.length_map]<;>rfl,rfl⟩
     rintro x1 e' H' g7 a7 w7 ⟨rfl,he,rfl⟩ ok7 ext7
     have ok7:=ok7.forget [8,58,59,60]
     rw[he]at ok7
     have E7:=E6.trans ext7 (Nat.le_refl _)
     show(Code.block _ _).wp _ _ _ _
     refine h8t x o6 o7 o8 o9 hcl g w fs hl (fun g8 a8 w8 xv ok8 hl8 E8=>?_) a7 w7 ⟨0,g7,.slice none 0 0,rfl,Nat.zero_le _,ok7,.nil,E7⟩
     show Code.wp _ (cR A1') _ _ _
     refine chunk hT mixed tD1 kr ok8 (R:=fun x1 e' H'=>x1= .ret/\a1d [6,7] e'=[(6,.raw xv),(7,boo true)]/\H'=HI x o6 o7 o8 o9) ?_ ?_
     ·refine run ⟨?_⟩
      exact rfl
     rintro x1 e' H' g9 a9 w9 ⟨rfl,he,rfl⟩ ok9 ext9
     have ok9:=ok9.forget [6,7]
     rw[he]at ok9
     exact⟨rfl,g9,xv,ok9,hl8.ext ext9,E8.trans ext9 (Nat.le_refl _)⟩
   ·apply wp_skip
    cases hp:pos (nE x) s with
    |some i=>rw[known,hp]at hc2;cases hc2
    |none=>
     unfold HQ a0v
     rw[hpS,hp]
     dsimp only
     show Code.wp _ (cR y88) _ _ _
     refine chunk hT mixed t88c kr ok6 (R:=fun x1 e' H'=>x1= .ret/\a1d [6,7] e'=[(6,.nils),(7,boo false)]/\H'=HI x o6 o7 o8 o9) ?_ ?_
     ·refine run ⟨?_⟩
      exact rfl
     rintro x1 e' H' g9 a9 w9 ⟨rfl,he,rfl⟩ ok9 ext9
     have ok9:=ok9.forget [6,7]
     rw[he]at ok9
     have ok9:=(ok9.h0d (i:=6) (by decide) rfl).forget [6,7]
     exact⟨rfl,g9,.slice none 0 0,ok9,.nil,E6.trans ext9 (Nat.le_refl _)⟩
theorem c8k (x:Its) (hx:b2u x) (s:S) (o6 o7 o8 o9:Ob) (g:Gh) (w:World) (cargs:Array Value) (hI:Inv (cxL fx) g (HH x o6 o7 o8 o9) w) (ra:a0z g (HH x o6 o7 o8 o9) [.d x.D,.ptr 5 0,str s] cargs.toList):
 Calls Tryz.prog 95 cargs w fun e w'=> ∃ xv g',e= .returned (.tuple #[xv,.bool (a0v x s).2])/\Inv (cxL fx) g' (HH x o6 o7 o8 o9) w'/\Ext 10 g (HH x o6 o7 o8 o9) w g' (HH x o6 o7 o8 o9) w'/\Loose (cxL fx) g' w' w.heap.size 1 xv (a0v x s).1.length ((a0v x s).1.map d5z):=by
 refine calls_of_wp i1s b88 ?_
 have ok0:a2b (cxL fx) 74 g ⟨a1z [.d x.D,.ptr 5 0,str s],HH x o6 o7 o8 o9,10⟩ {tmps:=cargs++Array.replicate (Tryz.f95.ntmps - cargs.size) Go.undef,defers:=[]} w:=
  ⟨hI,by rw[n88t];exact c3a ra rfl (by show 3<=74;decide),rfl,by show 10<=10;decide⟩
 have ok0:=ok0.forget [0,1,2]
 rw[show a1d [0,1,2] (a1z [.d x.D,.ptr 5 0,str s])=[(0,.d x.D),(1,.ptr 5 0),(2,str s)] from rfl]at ok0
 refine wp_mono (e8h x hx s o6 o7 o8 o9 g w _ hI.und ok0) fun e a1 w1 he=>?_
 obtain⟨rfl,g1,xv,ok1,hl,E⟩:=he
 have goal:a1.defers=[]/\∃ v,(results Tryz.f95 a1.tmps).run Tryz.prog w1= .ok v w1/\∃ xv g',Ending.returned v= .returned (.tuple #[xv,.bool (a0v x s).2])/\Inv (cxL fx) g' (HH x o6 o7 o8 o9) w1/\Ext 10 g (HH x o6 o7 o8 o9) w g' (HH x o6 o7 o8 o9) w1/\Loose (cxL fx) g' w1 w.heap.size 1 xv (a0v x s).1.length ((a0v x s).1.map d5z):=by
  refine⟨ok1.defers,?_⟩
  obtain⟨ys,y1,y2,y3⟩:=b2m (P:=Tryz.prog) (fn:=Tryz.f95) (vs:=[.raw xv,boo (a0v x s).2]) ok1.inv ok1.env r88 (by decide) rfl
  simp only[a0z,Rep,a3j,a0q]at y2
  obtain⟨z1,ys1,rfl,rfl,z2,ys2,rfl,h2,rfl⟩:=y2
  simp only[List.cons.injEq,and_true]at h2
  subst h2
  refine⟨_,y1,_,g1.cut 10,rfl,?_,?_,hl.cut⟩
  ·have:=ok1.inv.restrict (n:=10) (by show 10<=11;decide) (E.clean 10 (Nat.le_refl _) hI.und)
   exact this
  ·exact E.h5r (n:=10) (by show 10<=10;decide) (by show 10<=11;decide) (Nat.le_refl _)
 exact goal
end
end Go.Vm.Ite
