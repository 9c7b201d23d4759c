import Derived.Test.YtocpgkeiakjicaaGreatVmWp
import Derived.Test.YtocpgkeiakjicaaGreatVmDrawSound
import Derived.Test.YtocpgkeiakjicaaGreatVmRun
import Derived.Laws.Cover3
import Derived.Test.YtocpgkeiakjicaaGreatTypP18
import Derived.Test.YtocpgkeiakjicaaGreatVmOps2
set_option maxRecDepth 100000
set_option linter.unusedVariables false
set_option linter.unusedSimpArgs false
namespace Go.Vm
section
variable (pg:Pg)
noncomputable def f3r (kn:List (Nat×Bool)) (dst:Option Nat) (v:V) (e:Env) (H:Hp) (k:List (Nat×Bool)->Env->Hp->Prop):Prop:=match dst with
 |some d=>a1l (forget kn d) fun kn=>k kn ((d,v)::e) H
 |none=>k kn e H
noncomputable def goK (b:Nat) (dst:Option Nat) (op:VOp) (kn:List (Nat×Bool)) (e:Env) (H:Hp) (k:List (Nat×Bool)->Env->Hp->Prop):Prop:=
 match op with
 | .mv (.c (.d (.bool t)))=>(match dst with
   |some d=>a1l (forget kn d) fun kn=>k ((d,t)::kn) ((d,.d (.bool t))::e) H
   |none=>k kn e H)
 | .mv (.t i)=>(match dst,look kn i with
   |some d,some t=>a1l (forget kn d) fun kn=>k ((d,t)::kn) ((d,.d (.bool t))::e) H
   |dst,_=>b3q (gE e i) fun v=>f3r kn dst v e H k)
 |op=>wpO pg kn b e H op fun v H'=>f3r kn dst v e H' k
noncomputable def b0e (b:Nat) (o:a0e) (kn:List (Nat×Bool)) (e:Env) (H:Hp) (k:List (Nat×Bool)->Env->Hp->Prop):Prop:=match o with
 |⟨dst,op,none⟩=>goK pg b dst op kn e H k
 |⟨dst,op,some (g,bb)⟩=>match look kn g with
  |some t=>match t,bb with
   |true,true=>goK pg b dst op kn e H k
   |false,false=>goK pg b dst op kn e H k
   |true,false=>f3r kn dst (.tup []) e H k
   |false,true=>f3r kn dst (.tup []) e H k
  |none=>match gE e g with
   | .tup []=>f3r kn dst (.tup []) e H k
   | .d (.bool t)=>(t=bb->goK pg b dst op ((g,bb)::kn) e H k)/\(t=(!bb)->f3r ((g,!bb)::kn) dst (.tup []) e H k)
   |_=>False
abbrev Kn:=List (Nat×Bool)
noncomputable def wpOps (b:Nat) (l:List a0e):Kn->Env->Hp->(Kn->Env->Hp->Prop)->Prop:=List.rec (motive:=fun _=>Kn->Env->Hp->(Kn->Env->Hp->Prop)->Prop) (fun kn e H K=>K kn e H) (fun o _ ih kn e H K=>b0e pg b o kn e H fun kn e H=>ih kn e H K) l
noncomputable def grK (p:Bool) (H H':Hp) (q:Prop):Prop:=match p with|true=>q|false=>grew H H'=true/\q
noncomputable def h6l (d:Option Nat) (e:Env) (H:Hp) (q:Prop):Prop:=match d with|some d=>chk ((gE e d).und H.length) q|none=>q
noncomputable def c5l (b:Nat) (m:Nat) (l:List a0e):Kn->Env->Hp->(Kn->Env->Hp->Prop)->Prop:=List.rec (motive:=fun _=>Nat->Kn->Env->Hp->(Kn->Env->Hp->Prop)->Prop) (fun _ kn e H K=>K kn e H) (fun o _ ih m kn e H K=>b0e pg b o kn e H fun kn e' H'=>match m with
  |0=>ih 0 kn e' H' K
  |m+1=>grK (b9z o.op) H H' (h6l o.dst e' H' (ih m kn e' H' K))) l m
noncomputable def h8q (b:Nat) (l:List a0e):(Hp->Prop->Prop)->Kn->Env->Hp->((Hp->Prop->Prop)->Kn->Env->Prop)->Prop:=List.rec (motive:=fun _=>(Hp->Prop->Prop)->Kn->Env->Hp->((Hp->Prop->Prop)->Kn->Env->Prop)->Prop) (fun chk kn e _ K=>K chk kn e) (fun o _ ih chk kn e H K=>b0e pg b o kn e H fun kn' e' H'=>H'=H/\ih (fun H1 P=>b0e pg b o kn e H1 fun _ e2 H2=>e2=e'/\H2=H1/\chk H1 P) kn' e' H K) l
def d5p (d:Option Nat) (o:a0e):Bool:=match d with|some t=>o.names.contains t|none=>false
noncomputable def i1e (b:Nat) (d:Option Nat) (H0:Hp) (l:List a0e):Kn->Env->Hp->(Kn->Env->Prop)->Prop:=List.rec (motive:=fun _=>Kn->Env->Hp->(Kn->Env->Prop)->Prop) (fun kn e _ K=>K kn e) (fun o _ ih kn e H1 K=>b0e pg b o kn e H1 fun kn' e' H'=>H'=H1/\(match d5p d o with
  |true=>ih kn' e' H1 K
  |false=>b0e pg b o kn e H0 fun _ e2 H2=>e2=e'/\H2=H0/\ih kn' e' H1 K)) l
noncomputable def d8e (b:Nat) (d m:Nat) (ops:List a0e) (kn:Kn) (e:Env) (H:Hp) (K:Kn->Env->Hp->Prop):Prop:=
 h8q pg b (ops.take d) (fun _ P=>P) kn e H fun chk kn e=>match ops[d]? with
   |some od=>b0e pg b od kn e H fun kn e H1=>chk H1 (i1e pg b od.dst H ((ops.take m).drop (d+1)) kn e H1 fun kn e=>wpOps pg b (ops.drop m) kn e H1 K)
   |none=>False
noncomputable def d0i (b:Nat) (d:Nat) (ops:List a0e) (kn:Kn) (e:Env) (H:Hp) (K:Kn->Env->Hp->Prop):Prop:=
 h8q pg b (ops.take d) (fun _ P=>P) kn e H fun chk kn e=>match ops.drop d with
   |od::oz::r=>b0e pg b od kn e H fun kn1 e1 H10=>b0e pg b oz kn1 e1 H10 fun kn2 e2 H11=>b0e pg b oz kn1 e1 H fun _ e3 H01=>e3=e2/\b0e pg b od kn e H01 fun _ e4 H4=>e4=e1/\H4=H11/\chk H10 (chk H01 (chk H11 (wpOps pg b r kn2 e2 H11 K)))
   |_=>False
noncomputable def d3d (e:Env) (ks:List Nat):(Env->Prop)->Prop:=List.rec (motive:=fun _=>(Env->Prop)->Prop) (fun k=>k []) (fun i _ ih k=>b3q (gE e i) fun v=>ih fun r=>k ((i,v)::r)) ks
theorem c3b (e:Env):∀ (ks:List Nat) (k:Env->Prop),d3d e ks k=k (a1k ks e)
 |[],_=>rfl
 |i::r,k=>by
  rw[show d3d e (i::r) k=b3q (gE e i) (fun v=>d3d e r fun r=>k ((i,v)::r))from rfl,b8o,c3b e r,b9h]
  rfl
noncomputable def d7q (n:Nat) (e:Env) (ks:List Nat):(Env->Prop)->Prop:=List.rec (motive:=fun _=>(Env->Prop)->Prop) (fun k=>k []) (fun i _ ih k=>b3q (gE e i) fun v=>match v.und n with
  |true=>ih fun r=>k ((i,v)::r)
  |false=>ih fun r=>k ((i,.undef)::r)) ks
theorem d3a (n:Nat) (e:Env):∀ (ks:List Nat) (k:Env->Prop),d7q n e ks k=k (cut n (a1k ks e))
 |[],_=>rfl
 |i::r,k=>by
  rw[show d7q n e (i::r) k=b3q (gE e i) (fun v=>match v.und n with
    |true=>d7q n e r fun r=>k ((i,v)::r)
    |false=>d7q n e r fun r=>k ((i,.undef)::r))from rfl,b8o,b9h]
  have hc:cut n (a1k (i::r) e)=(i,if(a1n e i).und n then a1n e i else .undef)::cut n (a1k r e):=rfl
  rw[hc]
  cases hu:(a1n e i).und n<;>simp only[d3a n e r]<;>rfl
@[irreducible] def d0z (b:Nat) (ks:List Nat) (c:a0r) (e:Env) (H:Hp) (Q:Ex->Kn->Env->Hp->Prop):Prop:=∃ x e' H',ev pg (.loop ks c) ⟨e,H,b⟩=some (x,⟨e',H',b⟩)/\Q x [] e' H'
noncomputable def wp (b:Nat) (c:a0r):Kn->Env->Hp->(Ex->Kn->Env->Hp->Prop)->Prop:=a0r.rec (motive:=fun _=>Kn->Env->Hp->(Ex->Kn->Env->Hp->Prop)->Prop)
  (fun kn e H Q=>Q .nrm kn e H)
  (fun ops kn e H Q=>wpOps pg b ops kn e H fun kn e H=>Q .nrm kn e H)
  (fun m ops kn e H Q=>c5l pg b m ops kn e H fun kn e H=>Q .nrm kn e H)
  (fun _ _ ihc ihd kn e H Q=>ihc kn e H fun x kn' e' H'=>match x with
    | .nrm=>ihd kn' e' H' Q
    | .exit i=>Q (.exit i) kn' e' H'
    | .ret=>Q .ret kn' e' H')
  (fun o _ _ ihc ihd kn e H Q=>match o with
    | .t i=>(match look kn i with
      |some true=>ihc kn e H Q
      |some false=>ihd kn e H Q
      |none=>match gE e i with
       | .d (.bool t)=>(t=true->ihc ((i,true)::kn) e H Q)/\(t=false->ihd ((i,false)::kn) e H Q)
       |_=>False)
    |o=>match gO pg.toCx e o with
     | .d (.bool t)=>(t=true->ihc kn e H Q)/\(t=false->ihd kn e H Q)
     |_=>False)
  (fun id _ ih kn e H Q=>ih kn e H fun x kn' e' H'=>match x with
    | .exit i=>(match Nat.beq i id with|true=>Q .nrm kn' e' H'|false=>Q (.exit i) kn' e' H')
    | .nrm=>Q .nrm kn' e' H'
    | .ret=>Q .ret kn' e' H')
  (fun ks c _ _ e H Q=>d3d e ks fun e=>d0z pg b ks c e H Q)
  (fun _ ih kn e H Q=>ih kn e H Q)
  (fun i kn e H Q=>Q (.exit i) kn e H)
  (fun kn e H Q=>Q .ret kn e H)
  (fun sz t kn e H Q=>match gE e t with
    | .nils=>chk (Nat.blt 0 sz) (e0k H 0 fun n=>a1l (H++[.row sz []]) fun H'=>a1l (forget kn t) fun kn=>Q .nrm kn ((t,.row n 0)::e) H')
    |_=>False)
  (fun sz t off kn e H Q=>match gE e t with
    | .ptr id o=>b2x H id fun ob=>match ob with
      | .box c=>b2x c (o+off) fun v=>match v with
        | .nils=>chk (Nat.ble b id && Nat.blt 0 sz) (e0k H 0 fun n=>a1l (c.set (o+off) (.row n 0)) fun c'=>a1l (H.set id (.box c')++[.row sz []]) fun H'=>Q .nrm kn e H')
        |_=>False
      |_=>False
    |_=>False)
  (fun t kn e H Q=>match gE e t with
    | .arr id _ _=>b2x H id fun ob=>match ob with
      | .box c=> ∃ ds,b4x c=some ds/\a1l (H.set id (.frz ds)) fun H'=>Q .nrm kn e H'
      |_=>False
    | .row id len=>b2x H id fun ob=>match ob with
      | .row _ l=>l.length=len/\a1l (forget kn t) fun kn=>Q .nrm kn ((t,.d (.sl l))::e) H
      |_=>False
    |_=>False)
  (fun sz kn e H Q=>chk (Nat.blt 0 sz) (a1l (H++[.row sz []]) fun H'=>Q .nrm kn e H'))
  (fun t off k kn e H Q=>match gE e t with
    | .ptr id o=>b2x H id fun ob=>match ob with
      | .box c=>b2x c (o+off) fun v=>(match v with
        | .nils=>b2x H (id - k) fun ob=>(match ob with
          | .row _ []=>chk (Nat.blt 0 k && Nat.ble k id && Nat.ble b (id - k)) (a1l (c.set (o+off) (.row (id - k) 0)) fun c'=>a1l (H.set id (.box c')) fun H'=>Q .nrm kn e H')
          |_=>False)
        |_=>False)
      |_=>False
    |_=>False) c
theorem f3d (b i:Nat) (c d:a0r) (kn e H Q):wp pg b (.cond (.t i) c d) kn e H Q=(match look kn i with
      |some true=>wp pg b c kn e H Q
      |some false=>wp pg b d kn e H Q
      |none=>match gE e i with
       | .d (.bool t)=>(t=true->wp pg b c ((i,true)::kn) e H Q)/\(t=false->wp pg b d ((i,false)::kn) e H Q)
       |_=>False):=rfl
theorem f1m (b sz t:Nat) (kn e H Q):wp pg b (.newrow sz t) kn e H Q=(match gE e t with
    | .nils=>chk (Nat.blt 0 sz) (e0k H 0 fun n=>a1l (H++[.row sz []]) fun H'=>a1l (forget kn t) fun kn=>Q .nrm kn ((t,.row n 0)::e) H')
    |_=>False):=rfl
theorem e6f (b sz t off:Nat) (kn e H Q):wp pg b (.bindrow sz t off) kn e H Q=(match gE e t with
    | .ptr id o=>b2x H id fun ob=>match ob with
      | .box c=>b2x c (o+off) fun v=>match v with
        | .nils=>chk (Nat.ble b id && Nat.blt 0 sz) (e0k H 0 fun n=>a1l (c.set (o+off) (.row n 0)) fun c'=>a1l (H.set id (.box c')++[.row sz []]) fun H'=>Q .nrm kn e H')
        |_=>False
      |_=>False
    |_=>False):=rfl
theorem f5l (b sz:Nat) (kn e H Q):wp pg b (.mkrow sz) kn e H Q=chk (Nat.blt 0 sz) (a1l (H++[.row sz []]) fun H'=>Q .nrm kn e H'):=rfl
theorem f2h (b t off k:Nat) (kn e H Q):wp pg b (.bindto t off k) kn e H Q=(match gE e t with
    | .ptr id o=>b2x H id fun ob=>match ob with
      | .box c=>b2x c (o+off) fun v=>(match v with
        | .nils=>b2x H (id - k) fun ob=>(match ob with
          | .row _ []=>chk (Nat.blt 0 k && Nat.ble k id && Nat.ble b (id - k)) (a1l (c.set (o+off) (.row (id - k) 0)) fun c'=>a1l (H.set id (.box c')) fun H'=>Q .nrm kn e H')
          |_=>False)
        |_=>False)
      |_=>False
    |_=>False):=rfl
theorem e8v (b t:Nat) (kn e H Q):wp pg b (.freeze t) kn e H Q=(match gE e t with
    | .arr id _ _=>b2x H id fun ob=>match ob with
      | .box c=> ∃ ds,b4x c=some ds/\a1l (H.set id (.frz ds)) fun H'=>Q .nrm kn e H'
      |_=>False
    | .row id len=>b2x H id fun ob=>match ob with
      | .row _ l=>l.length=len/\a1l (forget kn t) fun kn=>Q .nrm kn ((t,.d (.sl l))::e) H
      |_=>False
    |_=>False):=rfl
end
section
variable {pg:Pg}
theorem c3e {kn dst v e H b} {k:List (Nat×Bool)->Env->Hp->Prop} (hk:a6m kn e) (h:f3r kn dst v e H k):∃ kn' e' H',lay dst e b (some (v,H))=some ⟨e',H',b⟩/\a6m kn' e'/\k kn' e' H':=by
 cases dst with
 |none=>exact⟨_,_,_,rfl,hk,h⟩
 |some d=>
  have h:k (forget kn d) ((d,v)::e) H:=by simpa only[f3r,a0x] using h
  exact⟨_,_,_,rfl,hk.forget d v,h⟩
theorem f0b {b dst op kn e H} {k:List (Nat×Bool)->Env->Hp->Prop} (hk:a6m kn e) (h:goK pg b dst op kn e H k):∃ kn' e' H',lay dst e b (a0u pg.toCx (evF pg) b e H op)=some ⟨e',H',b⟩/\a6m kn' e'/\k kn' e' H':=by
 have gen:∀ op,(wpO pg kn b e H op fun v H'=>f3r kn dst v e H' k)->∃ kn' e' H',lay dst e b (a0u pg.toCx (evF pg) b e H op)=some ⟨e',H',b⟩/\a6m kn' e'/\k kn' e' H':=by
   intro op h
   obtain⟨v,H',hv,h⟩:=g3m hk h
   rw[hv]
   exact c3e hk h
 unfold goK at h
 split at h
 ·rename_i t
  cases dst with
  |none=>exact⟨_,_,_,rfl,hk,h⟩
  |some d=>
   have h:k ((d,t)::forget kn d) ((d,.d (.bool t))::e) H:=by simpa only[a0x] using h
   exact⟨_,_,_,rfl,(hk.forget d _).add (by simp[a1n]),h⟩
 ·rename_i i
  split at h
  ·rename_i d t ht
   rw[a0x]at h
   exact⟨_,_,_,by simp only[a0u,evO,hk i t ht,e4i,a6p],(hk.forget d _).add (by simp[a1n]),h⟩
  ·rw[b8o,b9h]at h
   exact c3e hk h
 ·exact gen _ h
theorem a2r {b:Nat} {o:a0e} {kn e H} {k:List (Nat×Bool)->Env->Hp->Prop} (hk:a6m kn e) (h:b0e pg b o kn e H k):∃ kn' e' H',a0d pg.toCx (evF pg) o ⟨e,H,b⟩=some ⟨e',H',b⟩/\a6m kn' e'/\k kn' e' H':=by
 obtain⟨dst,op,g⟩:=o
 cases g with
 |none=>exact f0b hk h
 |some p=>
  obtain⟨g,bb⟩:=p
  have yes:∀ {kn},a6m kn e->a1n e g= .d (.bool bb)->goK pg b dst op kn e H k->∃ kn' e' H',a0d pg.toCx (evF pg) ⟨dst,op,some (g,bb)⟩ ⟨e,H,b⟩=some ⟨e',H',b⟩/\a6m kn' e'/\k kn' e' H':=by
   intro kn hk hg h
   simp only[a0d,hg,e1t,if_true]
   exact f0b hk h
  have no:∀ {kn},a6m kn e->a1n e g= .d (.bool !bb)->f3r kn dst (.tup []) e H k->∃ kn' e' H',a0d pg.toCx (evF pg) ⟨dst,op,some (g,bb)⟩ ⟨e,H,b⟩=some ⟨e',H',b⟩/\a6m kn' e'/\k kn' e' H':=by
   intro kn hk hg h
   simp only[a0d,hg,e1t]
   rw[if_neg (by cases bb<;>simp)]
   exact c3e (b:=b) hk h
  unfold b0e at h
  simp only at h
  split at h
  ·rename_i t ht
   have hg:=hk g t ht
   split at h
   ·exact yes hk hg h
   ·exact yes hk hg h
   ·exact no hk hg h
   ·exact no hk hg h
  ·rw[b9h]at h
   split at h
   ·rename_i hg
    simp only[a0d,hg,g3e]
    exact c3e (b:=b) hk h
   ·rename_i t hg
    by_cases ht:t=bb
    ·subst ht
     exact yes (hk.add hg) hg (h.1 rfl)
    ·have ht':t= !bb:=by cases t<;>cases bb<;>simp_all
     rw[ht']at hg
     exact no (hk.add hg) hg (h.2 ht')
   ·cases h
theorem b3n {b:Nat}:∀ {l:List a0e} {kn e H} {K:Kn->Env->Hp->Prop},a6m kn e->wpOps pg b l kn e H K->∃ kn' e' H',a0o pg.toCx (evF pg) l ⟨e,H,b⟩=some ⟨e',H',b⟩/\a6m kn' e'/\K kn' e' H'
 |[],_,_,_,_,hk,h=>⟨_,_,_,rfl,hk,h⟩
 |o::r,kn,e,H,K,hk,h=>by
  obtain⟨kn',e',H',h1,h2,h3⟩:=a2r hk h
  obtain⟨kn2,e2,H2,h4,hk2,h5⟩:=b3n h2 h3
  exact⟨kn2,e2,H2,by simp only[a0o,h1,Option.bind_some,h4],hk2,h5⟩
theorem f8j {b:Nat} {e:Env} {H:Hp} {o:VOp} {v:V} {H':Hp} (hp:b9z o=true) (h:a0u pg.toCx (evF pg) b e H o=some (v,H')):H'=H:=c3l hp h
theorem d6h {b:Nat} {e:Env} {H:Hp} {o:a0e} {e' H'} (hp:b9z o.op=true) (h:a0d pg.toCx (evF pg) o ⟨e,H,b⟩=some ⟨e',H',b⟩):H'=H:=by
 have key:∀ {dst:Option Nat} {r:Option (V×Hp)},(∀ v H',r=some (v,H')->H'=H)->lay dst e b r=some ⟨e',H',b⟩->H'=H:=by
  intro dst r hr h
  cases r with
  |none=>cases h
  |some q=>
   obtain⟨v,H2⟩:=q
   have:=hr v H2 rfl
   simp only[e4i,Option.some.injEq,St.mk.injEq]at h
   rw[<-h.2.1,this]
 obtain⟨dst,op,g⟩:=o
 cases g with
 |none=>exact key (fun v H' hh=>f8j hp hh) h
 |some p=>
  obtain⟨g,bb⟩:=p
  simp only[a0d]at h
  unfold grd at h
  split at h
  ·split at h
   ·exact key (fun v H' hh=>f8j hp hh) h
   ·simp only[Option.some.injEq,St.mk.injEq]at h;exact h.2.1.symm
  ·simp only[Option.some.injEq,St.mk.injEq]at h;exact h.2.1.symm
  ·cases h
theorem c6c (cx:Cx) (orc:Orc) (l:List a0e) (s:St):a2f cx orc 0 l s=a0o cx orc l s:=by cases l<;>simp[a2f,a0o]
theorem b4w {b:Nat}:∀ {l:List a0e} {m:Nat} {kn e H} {K:Kn->Env->Hp->Prop},a6m kn e->c5l pg b m l kn e H K->∃ kn' e' H',a2f pg.toCx (evF pg) m l ⟨e,H,b⟩=some ⟨e',H',b⟩/\a6m kn' e'/\K kn' e' H'
 |[],m,_,_,_,_,hk,h=>⟨_,_,_,by cases m<;>rfl,hk,h⟩
 |o::r,0,kn,e,H,K,hk,h=>by
  obtain⟨kn',e',H',h1,h2,h3⟩:=a2r hk h
  obtain⟨kn2,e2,H2,h4,hk2,h5⟩:=b4w (m:=0) h2 h3
  rw[c6c]at h4
  exact⟨kn2,e2,H2,by rw[c6c];simp only[a0o,h1,Option.bind_some,h4],hk2,h5⟩
 |o::r,m+1,kn,e,H,K,hk,h=>by
  obtain⟨kn',e',H',h1,h2,h3⟩:=a2r hk h
  have hg:grew H H'=true/\h6l o.dst e' H' (c5l pg b m r kn' e' H' K):=by
   have h3:grK (b9z o.op) H H' (h6l o.dst e' H' (c5l pg b m r kn' e' H' K)):=h3
   unfold grK at h3
   cases hp:b9z o.op with
   |true=>
    rw[hp]at h3
    rw[d6h hp h1]
    exact⟨by simp,by rw[d6h hp h1]at h3;exact h3⟩
   |false=>rw[hp]at h3;exact h3
  have hd:b5g o.dst ⟨e',H',b⟩=true/\c5l pg b m r kn' e' H' K:=by
   have:=hg.2
   unfold h6l at this
   unfold b5g
   cases hd:o.dst with
   |some d=>rw[hd]at this;simp only[a2q,b9h]at this;exact this
   |none=>rw[hd]at this;exact⟨rfl,this⟩
  obtain⟨kn2,e2,H2,h4,hk2,h5⟩:=b4w h2 hd.2
  exact⟨kn2,e2,H2,by simp only[a2f,h1,Option.bind_some,hg.1,hd.1,Bool.and_self,if_true,h4],hk2,h5⟩
theorem a3p {cx:Cx} {orc:Orc}:∀ {l l':List a0e} {s:St},a0o cx orc (l++l') s=(a0o cx orc l s).bind (a0o cx orc l')
 |[],_,_=>rfl
 |o::r,l',s=>by
  simp only[List.cons_append,a0o]
  cases a0d cx orc o s with
  |none=>rfl
  |some q=>exact a3p
theorem a3u {cx:Cx} {orc:Orc} {l:List a0e} {o:a0e} {s q r:St} (h:a0o cx orc l s=some q) (h1:a0d cx orc o q=some r):a0o cx orc (l++[o]) s=some r:=by
 rw[a3p,h];simp only[Option.bind_some,a0o,h1]
theorem a5x {l r:List a0e} {o:a0e} {i:Nat} (hi:i<=l.length):(l++o::r).take i=l.take i:=by rw[List.take_append_of_le_length hi]
structure Ahd (b:Nat) (s:St) (pre:List a0e) (e:Env) (chk:Hp->Prop->Prop):Prop where
 run:a0o pg.toCx (evF pg) pre s=some ⟨e,s.h,b⟩
 quiet:∀ i q,i<=pre.length->a0o pg.toCx (evF pg) (pre.take i) s=some q->q.h=s.h
 chk:∀ H1 P,chk H1 P->P/\∀ i o q q',pre[i]? =some o->a0o pg.toCx (evF pg) (pre.take i) s=some q->a0o pg.toCx (evF pg) (pre.take (i+1)) s=some q'->a0d pg.toCx (evF pg) o ⟨q.e,H1,b⟩=some ⟨q'.e,H1,b⟩
theorem Ahd.snoc {b:Nat} {s:St} {pre:List a0e} {e e':Env} {chk:Hp->Prop->Prop} (A:Ahd (pg:=pg) b s pre e chk) {kn:Kn} (hk:a6m kn e) {o:a0e} (h:a0d pg.toCx (evF pg) o ⟨e,s.h,b⟩=some ⟨e',s.h,b⟩):
 Ahd (pg:=pg) b s (pre++[o]) e' (fun H1 P=>b0e pg b o kn e H1 fun _ e2 H2=>e2=e'/\H2=H1/\chk H1 P):=by
 have hr:=a3u A.run h
 refine⟨hr,fun i q hi hq=>?_,fun H1 P hc=>?_⟩
 ·rw[List.length_append,List.length_singleton]at hi
  by_cases c:i<=pre.length
  ·rw[a5x c]at hq;exact A.quiet i q c hq
  ·have:i=pre.length+1:=om
   rw[this,List.take_of_length_le (by simp),hr]at hq
   cases hq;rfl
 ·obtain⟨_,e2,H2,h1,_,rfl,rfl,h4⟩:=a2r hk hc
  obtain⟨hP,hall⟩:=A.chk H2 P h4
  refine⟨hP,fun i p q q' hp hq hq'=>?_⟩
  by_cases c:i < pre.length
  ·rw[List.getElem?_append_left c]at hp
   rw[a5x om]at hq hq'
   exact hall i p q q' hp hq hq'
  ·have hi:i=pre.length:=by
    have:=(List.getElem?_eq_some_iff.1 hp).1
    rw[List.length_append,List.length_singleton]at this
    omega
   subst hi
   rw[List.getElem?_append_right (Nat.le_refl _),Nat.sub_self]at hp
   cases hp
   rw[a5x (Nat.le_refl _),List.take_of_length_le (Nat.le_refl _),A.run]at hq
   rw[List.take_of_length_le (by simp),hr]at hq'
   cases hq;cases hq'
   exact h1
theorem c9k {b:Nat} {s:St}:∀ {r pre:List a0e} {kn e chk} {K:(Hp->Prop->Prop)->Kn->Env->Prop},a6m kn e->Ahd (pg:=pg) b s pre e chk->h8q pg b r chk kn e s.h K->∃ chk' kn' e',Ahd (pg:=pg) b s (pre++r) e' chk'/\a6m kn' e'/\K chk' kn' e'
 |[],pre,kn,e,chk,K,hk,A,h=>⟨chk,kn,e,by rw[List.append_nil];exact A,hk,h⟩
 |o::r,pre,kn,e,chk,K,hk,A,h=>by
  obtain⟨kn',e',H',h1,h2,h3⟩:=a2r hk h
  obtain⟨rfl,h3⟩:=h3
  obtain⟨chk',kn2,e2,B,hk2,h5⟩:=c9k h2 (A.snoc hk h1) h3
  exact⟨chk',kn2,e2,by rw[List.append_assoc]at B;exact B,hk2,h5⟩
structure Bhd (b:Nat) (s:St) (d:Nat) (od:a0e) (H1:Hp) (pre:List a0e) (e:Env):Prop where
 run:a0o pg.toCx (evF pg) pre s=some ⟨e,H1,b⟩
 lt:d < pre.length
 quiet:∀ i q,d < i->i<=pre.length->a0o pg.toCx (evF pg) (pre.take i) s=some q->q.h=H1
 both:∀ i o q q',d < i->pre[i]? =some o->a0o pg.toCx (evF pg) (pre.take i) s=some q->a0o pg.toCx (evF pg) (pre.take (i+1)) s=some q'->(∃ t,od.dst=some t/\t∈o.names)\/a0d pg.toCx (evF pg) o ⟨q.e,s.h,b⟩=some ⟨q'.e,s.h,b⟩
theorem Bhd.snoc {b:Nat} {s:St} {d:Nat} {od:a0e} {H1:Hp} {pre:List a0e} {e e':Env} (B:Bhd (pg:=pg) b s d od H1 pre e) {o:a0e} (h:a0d pg.toCx (evF pg) o ⟨e,H1,b⟩=some ⟨e',H1,b⟩)
 (h2:(∃ t,od.dst=some t/\t∈o.names)\/a0d pg.toCx (evF pg) o ⟨e,s.h,b⟩=some ⟨e',s.h,b⟩):Bhd (pg:=pg) b s d od H1 (pre++[o]) e':=by
 have hr:=a3u B.run h
 refine⟨hr,by have:=B.lt;simp;omega,fun i q hd hi hq=>?_,fun i p q q' hd hp hq hq'=>?_⟩
 ·rw[List.length_append,List.length_singleton]at hi
  by_cases c:i<=pre.length
  ·rw[a5x c]at hq;exact B.quiet i q hd c hq
  ·have:i=pre.length+1:=om
   rw[this,List.take_of_length_le (by simp),hr]at hq
   cases hq;rfl
 ·by_cases c:i < pre.length
  ·rw[List.getElem?_append_left c]at hp
   rw[a5x om]at hq hq'
   exact B.both i p q q' hd hp hq hq'
  ·have hi:i=pre.length:=by
    have:=(List.getElem?_eq_some_iff.1 hp).1
    rw[List.length_append,List.length_singleton]at this
    omega
   subst hi
   rw[List.getElem?_append_right (Nat.le_refl _),Nat.sub_self]at hp
   cases hp
   rw[a5x (Nat.le_refl _),List.take_of_length_le (Nat.le_refl _),B.run]at hq
   rw[List.take_of_length_le (by simp),hr]at hq'
   cases hq;cases hq'
   exact h2
theorem e2z {d:Option Nat} {o:a0e} (h:d5p d o=true):∃ t,d=some t/\t∈o.names:=by
 unfold d5p at h
 split at h
 ·exact⟨_,rfl,by simpa using h⟩
 ·cases h
theorem e1o {b:Nat} {s:St} {d:Nat} {od:a0e} {H1:Hp}:∀ {r pre:List a0e} {kn e} {K:Kn->Env->Prop},a6m kn e->Bhd (pg:=pg) b s d od H1 pre e->i1e pg b od.dst s.h r kn e H1 K->∃ kn' e',Bhd (pg:=pg) b s d od H1 (pre++r) e'/\a6m kn' e'/\K kn' e'
 |[],pre,kn,e,K,hk,B,h=>⟨kn,e,by rw[List.append_nil];exact B,hk,h⟩
 |o::r,pre,kn,e,K,hk,B,h=>by
  obtain⟨kn',e',H',h1,h2,h3⟩:=a2r hk h
  obtain⟨rfl,h3⟩:=h3
  have fin:Bhd (pg:=pg) b s d od H' (pre++[o]) e'->i1e pg b od.dst s.h r kn' e' H' K->∃ kn' e',Bhd (pg:=pg) b s d od H' (pre++o::r) e'/\a6m kn' e'/\K kn' e':=by
   intro C h4
   obtain⟨kn2,e2,C',hk2,h5⟩:=e1o h2 C h4
   exact⟨kn2,e2,by rw[List.append_assoc]at C';exact C',hk2,h5⟩
  cases hn:d5p od.dst o with
  |true=>
   rw[hn]at h3
   exact fin (B.snoc h1 (.inl (e2z hn))) h3
  |false=>
   rw[hn]at h3
   obtain⟨_,e2,H2,g1,_,rfl,rfl,g4⟩:=a2r hk h3
   exact fin (B.snoc h1 (.inr g1)) g4
theorem e3n {b:Nat} {s s':St} (hb:s.b=b) {ops:List a0e} {d m:Nat} (hm:m<=ops.length) {od:a0e} (ho:ops[d]? =some od) {e1 e2:Env} {H1:Hp} {chk:Hp->Prop->Prop} {P:Prop}
 (A:Ahd (pg:=pg) b s (ops.take d) e1 chk) (hc:chk H1 P) (hd:d < m) (B:Bhd (pg:=pg) b s d od H1 (ops.take m) e2) (h:a0o pg.toCx (evF pg) ops s=some s'):c7b pg.toCx (evF pg) m ops s:=by
 have pref:∀ i,∃ q,a0o pg.toCx (evF pg) (ops.take i) s=some q:=by
  intro i
  rw[<-List.take_append_drop i ops,a3p]at h
  cases hq:a0o pg.toCx (evF pg) (ops.take i) s with
  |none=>rw[hq]at h;cases h
  |some q=>exact⟨q,rfl⟩
 have one:∀ {i o q q'},ops[i]? =some o->a0o pg.toCx (evF pg) (ops.take i) s=some q->a0o pg.toCx (evF pg) (ops.take (i+1)) s=some q'->a0d pg.toCx (evF pg) o q=some q':=by
  intro i o q q' ho hq hq'
  rw[List.take_add_one,a3p,hq,ho]at hq'
  simp only[Option.toList,Option.bind_some,a0o]at hq'
  cases hx:a0d pg.toCx (evF pg) o q with
  |none=>rw[hx]at hq';cases hq'
  |some y=>rw[hx]at hq';exact hq'
 obtain⟨τ,hτ⟩:∃ τ:Nat->St,∀ i,a0o pg.toCx (evF pg) (ops.take i) s=some (τ i):=⟨fun i=>(pref i).choose,fun i=>(pref i).choose_spec⟩
 have hv:∀ i,∃ x,∀ o,ops[i]? =some o->(τ (i+1)).e=a6p o.dst x (τ i).e:=by
  intro i
  cases ho:ops[i]? with
  |none=>exact⟨.undef,fun o h=>by cases h⟩
  |some o=>
   obtain⟨x,hx⟩:=a7h (one ho (hτ i) (hτ (i+1)))
   exact⟨x,fun o' h=>by cases h;exact hx⟩
 obtain⟨val,hval⟩:∃ val:Nat->V,∀ i o,ops[i]? =some o->(τ (i+1)).e=a6p o.dst (val i) (τ i).e:=⟨fun i=>(hv i).choose,fun i=>(hv i).choose_spec⟩
 have hml:(ops.take m).length=m:=by simp;omega
 have hdl:(ops.take d).length=d:=by simp;omega
 have tk:∀ {i j},i<=j->(ops.take j).take i=ops.take i:=fun{i j} h=>by rw[List.take_take,Nat.min_eq_left h]
 have gt:∀ {i j},i < j->(ops.take j)[i]? =ops[i]? :=fun{i j} h=>by rw[List.getElem?_take,if_pos h]
 have h0:τ 0=s:=by have:=hτ 0;simp only[List.take_zero,a0o,Option.some.injEq]at this;exact this.symm
 have lo:∀ i,i<=d->(τ i).h=s.h:=fun i hi=>A.quiet i _ om (by rw[tk hi];exact hτ i)
 have hi:∀ i,d < i->i<=m->(τ i).h=H1:=fun i h1 h2=>B.quiet i _ h1 om (by rw[tk h2];exact hτ i)
 refine .inl ⟨d,od,τ,val,hd,hm,ho,h0,fun i o _ hq=>⟨one hq (hτ i) (hτ (i+1)),hval i o hq⟩,fun i o him _ hne=>?_,fun i o hid hq=>?_,fun i o hdi him hq=>?_⟩
 ·by_cases c:i < d
  ·rw[lo i om,lo (i+1) om]
  ·rw[hi i om om,hi (i+1) om om]
 ·rw[hi (d+1) om om,hb]
  exact(A.chk H1 P hc).2 i o _ _ (by rw[gt hid];exact hq) (by rw[tk om];exact hτ i) (by rw[tk om];exact hτ (i+1))
 ·rw[hb]
  exact B.both i o _ _ hdi (by rw[gt him];exact hq) (by rw[tk om];exact hτ i) (by rw[tk om];exact hτ (i+1))
theorem d8i {b:Nat} {ops:List a0e} {d m:Nat} (hd:d < m) (hm:m<=ops.length) {kn e H} {K:Kn->Env->Hp->Prop} (hk:a6m kn e) (h:d8e pg b d m ops kn e H K):∃ kn' e' H',b0o pg.toCx (evF pg) m ops ⟨e,H,b⟩=some ⟨e',H',b⟩/\a6m kn' e'/\K kn' e' H':=by
 unfold d8e at h
 have A0:Ahd (pg:=pg) b ⟨e,H,b⟩ [] e (fun _ P=>P):=⟨rfl,fun i q _ hq=>by simp only[List.take_nil,a0o,Option.some.injEq]at hq;rw[<-hq],fun H1 P hP=>⟨hP,fun i o q q' ho=>by simp at ho⟩⟩
 obtain⟨chk,kn1,e1,A,hk1,h1⟩:=c9k (s:=⟨e,H,b⟩) hk A0 h
 rw[List.nil_append]at A
 split at h1
 ·rename_i od ho
  obtain⟨kn2,e2,H1,h2,hk2,h3⟩:=a2r hk1 h1
  obtain⟨h4,_⟩:=A.chk H1 _ h3
  have hdl:(ops.take d).length=d:=by simp;omega
  have hpre:ops.take (d+1)=ops.take d++[od]:=by rw[List.take_add_one,ho];rfl
  have hrun:=a3u A.run h2
  rw[<-hpre]at hrun
  have hl1:(ops.take (d+1)).length=d+1:=by simp;omega
  have B0:Bhd (pg:=pg) b ⟨e,H,b⟩ d od H1 (ops.take (d+1)) e2:=by
   refine⟨hrun,om,fun i q h1 h2 hq=>?_,fun i o q q' h1 ho'=>?_⟩
   ·have:i=d+1:=om
    subst this
    rw[List.take_of_length_le om,hrun]at hq
    cases hq;rfl
   ·have:=(List.getElem?_eq_some_iff.1 ho').1
    omega
  obtain⟨kn3,e3,B,hk3,h5⟩:=e1o (s:=⟨e,H,b⟩) hk2 B0 h4
  have hall:ops.take (d+1)++(ops.take m).drop (d+1)=ops.take m:=by
   have:=List.take_append_drop (d+1) (ops.take m)
   rwa [List.take_take,Nat.min_eq_left om]at this
  rw[hall]at B
  obtain⟨kn4,e4,H4,h6,hk4,h7⟩:=b3n hk3 h5
  have hops:a0o pg.toCx (evF pg) ops ⟨e,H,b⟩=some ⟨e4,H4,b⟩:=by
   rw[<-List.take_append_drop m ops,a3p,B.run];exact h6
  exact⟨kn4,e4,H4,a3a.2 ⟨hops,.inr (e3n rfl hm ho A h3 hd B hops)⟩,hk4,h7⟩
 ·exact h1.elim
theorem d6p {b:Nat} {ops:List a0e} {d m:Nat} (hm:m=d+2) {kn e H} {K:Kn->Env->Hp->Prop} (hk:a6m kn e) (h:d0i pg b d ops kn e H K):∃ kn' e' H',b0o pg.toCx (evF pg) m ops ⟨e,H,b⟩=some ⟨e',H',b⟩/\a6m kn' e'/\K kn' e' H':=by
 subst hm
 unfold d0i at h
 have A0:Ahd (pg:=pg) b ⟨e,H,b⟩ [] e (fun _ P=>P):=⟨rfl,fun i q _ hq=>by simp only[List.take_nil,a0o,Option.some.injEq]at hq;rw[<-hq],fun H1 P hP=>⟨hP,fun i o q q' ho=>by simp at ho⟩⟩
 obtain⟨chk,kn1,e1,A,hk1,h1⟩:=c9k (s:=⟨e,H,b⟩) hk A0 h
 rw[List.nil_append]at A
 split at h1
 ·rename_i od oz r hdr
  have hdl:d < ops.length:=by
   have:=congrArg List.length hdr
   rw[List.length_drop]at this
   simp only[List.length_cons]at this
   omega
  have hlen:d+2<=ops.length:=by
   have:=congrArg List.length hdr
   rw[List.length_drop]at this
   simp only[List.length_cons]at this
   omega
  have htd:(ops.take d).length=d:=by rw[List.length_take];omega
  have hod:ops[d]? =some od:=by have:=congrArg (·[0]?) hdr;simpa using this
  have hoz:ops[d+1]? =some oz:=by have:=congrArg (·[1]?) hdr;simpa using this
  have hrr:ops.drop (d+2)=r:=by
   rw[show d+2=d+1+1 from rfl,<-List.drop_drop,<-List.drop_drop,hdr];rfl
  obtain⟨kn2,e2,H10,g1,hk2,h2⟩:=a2r hk1 h1
  obtain⟨kn3,e3,H11,g2,hk3,h3⟩:=a2r hk2 h2
  obtain⟨_,e4,H01,g3,_,rfl,h4⟩:=a2r hk2 h3
  obtain⟨_,e5,H5,g4,_,rfl,rfl,h5⟩:=a2r hk1 h4
  obtain⟨h6,c10⟩:=A.chk _ _ h5
  obtain⟨h7,c01⟩:=A.chk _ _ h6
  obtain⟨h8,c11⟩:=A.chk _ _ h7
  obtain⟨kn4,e6,H6,g6,hk4,h9⟩:=b3n hk3 h8
  have r1:a0o pg.toCx (evF pg) (ops.take (d+1)) ⟨e,H,b⟩=some ⟨e5,H10,b⟩:=by
   rw[List.take_add_one,hod];exact a3u A.run g1
  have r2:a0o pg.toCx (evF pg) (ops.take (d+2)) ⟨e,H,b⟩=some ⟨e4,H5,b⟩:=by
   rw[show d+2=d+1+1 from rfl,List.take_add_one,hoz];exact a3u r1 g2
  have hops:a0o pg.toCx (evF pg) ops ⟨e,H,b⟩=some ⟨e6,H6,b⟩:=by
   rw[<-List.take_append_drop (d+2) ops,a3p,r2,hrr];exact g6
  refine⟨kn4,e6,H6,a3a.2 ⟨hops,.inr (.inr (.inl ?_))⟩,hk4,h9⟩
  have pref:∀ i,∃ q,a0o pg.toCx (evF pg) (ops.take i) ⟨e,H,b⟩=some q:=by
   intro i
   have h:=hops
   rw[<-List.take_append_drop i ops,a3p]at h
   cases hq:a0o pg.toCx (evF pg) (ops.take i) ⟨e,H,b⟩with
   |none=>rw[hq]at h;cases h
   |some q=>exact⟨q,rfl⟩
  have one:∀ {i o q q'},ops[i]? =some o->a0o pg.toCx (evF pg) (ops.take i) ⟨e,H,b⟩=some q->a0o pg.toCx (evF pg) (ops.take (i+1)) ⟨e,H,b⟩=some q'->a0d pg.toCx (evF pg) o q=some q':=by
   intro i o q q' ho hq hq'
   rw[List.take_add_one,a3p,hq,ho]at hq'
   simp only[Option.toList,Option.bind_some,a0o]at hq'
   cases hx:a0d pg.toCx (evF pg) o q with
   |none=>rw[hx]at hq';cases hq'
   |some y=>rw[hx]at hq';exact hq'
  obtain⟨τ,hτ⟩:∃ τ:Nat->St,∀ i,a0o pg.toCx (evF pg) (ops.take i) ⟨e,H,b⟩=some (τ i):=⟨fun i=>(pref i).choose,fun i=>(pref i).choose_spec⟩
  have hv:∀ i,∃ x,∀ o,ops[i]? =some o->(τ (i+1)).e=a6p o.dst x (τ i).e:=by
   intro i
   cases ho:ops[i]? with
   |none=>exact⟨.undef,fun o h=>by cases h⟩
   |some o=>
    obtain⟨x,hx⟩:=a7h (one ho (hτ i) (hτ (i+1)))
    exact⟨x,fun o' h=>by cases h;exact hx⟩
  obtain⟨val,hval⟩:∃ val:Nat->V,∀ i o,ops[i]? =some o->(τ (i+1)).e=a6p o.dst (val i) (τ i).e:=⟨fun i=>(hv i).choose,fun i=>(hv i).choose_spec⟩
  have t0:τ 0=⟨e,H,b⟩:=by have:=hτ 0;simp only[List.take_zero,a0o,Option.some.injEq]at this;exact this.symm
  have td:τ d=⟨e1,H,b⟩:=by have:=hτ d;rw[A.run]at this;simpa using this.symm
  have td1:τ (d+1)=⟨e5,H10,b⟩:=by have:=hτ (d+1);rw[r1]at this;simpa using this.symm
  have td2:τ (d+2)=⟨e4,H5,b⟩:=by have:=hτ (d+2);rw[r2]at this;simpa using this.symm
  have tk:∀ {i j},i<=j->(ops.take j).take i=ops.take i:=fun{i j} h=>by rw[List.take_take,Nat.min_eq_left h]
  have gt:∀ {i j},i < j->(ops.take j)[i]? =ops[i]? :=fun{i j} h=>by rw[List.getElem?_take,if_pos h]
  have lo:∀ i,i<=d->(τ i).h=H:=fun i hi=>A.quiet i _ om (by rw[tk hi];exact hτ i)
  have hb:∀ i,(τ i).b=b:=by
   intro i
   induction i with
   |zero=>rw[t0]
   |succ i ih=>
    cases ho:ops[i]? with
    |none=>
     have e1:ops.take (i+1)=ops.take i:=by
      have:ops.length<=i:=List.getElem?_eq_none_iff.1 ho
      rw[List.take_of_length_le this,List.take_of_length_le om]
     have:=hτ (i+1)
     rw[e1,hτ i]at this
     simp only[Option.some.injEq]at this
     rw[<-this,ih]
    |some o=>rw[a3o (one ho (hτ i) (hτ (i+1))),ih]
  refine⟨d,d+1,fun i=>(τ i).e,val,fun x y=>match x,y with|false,false=>H|true,false=>H10|false,true=>H01|true,true=>H5,om,om,om,hlen,by rw[t0],rfl,fun i o _ ho=>hval i o ho,fun i o x y hi ho hx hy=>?_⟩
  have cs:i < d\/i=d\/i=d+1:=om
  rcases cs with c|rfl|rfl
  ·rw[decide_eq_false om,decide_eq_false om,Bool.or_false,Bool.or_false]
   have all:∀ H1,(∀ (i:Nat) (o:a0e) (q q':St),(ops.take d)[i]? =some o->a0o pg.toCx (evF pg) ((ops.take d).take i) ⟨e,H,b⟩=some q->a0o pg.toCx (evF pg) ((ops.take d).take (i+1)) ⟨e,H,b⟩=some q'->a0d pg.toCx (evF pg) o ⟨q.e,H1,b⟩=some ⟨q'.e,H1,b⟩)->a0d pg.toCx (evF pg) o ⟨(τ i).e,H1,b⟩=some ⟨(τ (i+1)).e,H1,b⟩:=fun H1 hh=>
    hh i o _ _ (by rw[gt c];exact ho) (by rw[tk om];exact hτ i) (by rw[tk om];exact hτ (i+1))
   cases x<;>cases y
   ·have:=one ho (hτ i) (hτ (i+1))
    rw[show τ i=⟨(τ i).e,(τ i).h,(τ i).b⟩from rfl,show τ (i+1)=⟨(τ (i+1)).e,(τ (i+1)).h,(τ (i+1)).b⟩from rfl,lo i om,lo (i+1) om,hb,hb]at this
    exact this
   ·exact all _ c01
   ·exact all _ c10
   ·exact all _ c11
  ·rw[hod]at ho;cases ho
   have hx:=hx rfl
   subst hx
   simp only[decide_eq_true rfl,Bool.or_true,td,td1]
   rw[decide_eq_false (show ¬ i=i+1 by omega),Bool.or_false]
   cases y
   ·exact g1
   ·exact g4
  ·rw[hoz]at ho;cases ho
   have hy:=hy rfl
   subst hy
   simp only[decide_eq_true rfl,Bool.or_true,td1,td2]
   rw[decide_eq_false (show ¬ d+1=d by omega),Bool.or_false]
   cases x
   ·exact g3
   ·exact g2
 ·exact h1.elim
theorem d9z (ks:List Nat) (e:Env):a1k ks (a1k ks e)=a1k ks e:=by
 have key:∀ i,i∈ks->a1n (a1k ks e) i=a1n e i:=fun i hi=>by rw[a8s,if_pos hi]
 show(ks.map fun k=>(k,a1n (a1k ks e) k))=ks.map fun k=>(k,a1n e k)
 apply List.map_congr_left
 intro i hi
 rw[key i hi]
theorem b6g {b:Nat}:∀ {c:a0r} {kn e H} {Q:Ex->Kn->Env->Hp->Prop},a6m kn e->wp pg b c kn e H Q->∃ x kn' e' H',ev pg c ⟨e,H,b⟩=some (x,⟨e',H',b⟩)/\a6m kn' e'/\Q x kn' e' H'
 | .skip,_,_,_,_,hk,h=>⟨_,_,_,_,rfl,hk,h⟩
 | .reg ops,kn,e,H,Q,hk,h=>by
   obtain⟨kn',e',H',h1,hk',h2⟩:=b3n hk h
   exact⟨_,kn',e',H',by rw[f8d,evR,h1];rfl,hk',h2⟩
 | .draw m ops,kn,e,H,Q,hk,h=>by
   obtain⟨kn',e',H',h1,hk',h2⟩:=b4w hk h
   exact⟨_,kn',e',H',e7u pg h1,hk',h2⟩
 | .seq c d,kn,e,H,Q,hk,h=>by
   obtain⟨x,kn',e',H',h1,hk',h2⟩:=b6g (c:=c) hk h
   cases x with
   |nrm=>
    obtain⟨x2,kn2,e2,H2,h3,hk2,h4⟩:=b6g (c:=d) hk' h2
    exact⟨x2,kn2,e2,H2,by rw[c8f,h1,f8l,h3],hk2,h4⟩
   |exit i=>exact⟨_,kn',e',H',by rw[c8f,h1,e8q],hk',h2⟩
   |ret=>exact⟨_,kn',e',H',by rw[c8f,h1,f9d],hk',h2⟩
 | .cond o c d,kn,e,H,Q,hk,h=>by
   have yes:evO pg.toCx e o= .d (.bool true)->∀ {kn},a6m kn e->wp pg b c kn e H Q->∃ x kn' e' H',ev pg (.cond o c d) ⟨e,H,b⟩=some (x,⟨e',H',b⟩)/\a6m kn' e'/\Q x kn' e' H':=by
    intro ht kn hk h
    obtain⟨x,kn',e',H',h1,hk',h2⟩:=b6g (c:=c) hk h
    exact⟨x,kn',e',H',by rw[d0m];simp only[ht,c2l,if_true];exact h1,hk',h2⟩
   have no:evO pg.toCx e o= .d (.bool false)->∀ {kn},a6m kn e->wp pg b d kn e H Q->∃ x kn' e' H',ev pg (.cond o c d) ⟨e,H,b⟩=some (x,⟨e',H',b⟩)/\a6m kn' e'/\Q x kn' e' H':=by
    intro ht kn hk h
    obtain⟨x,kn',e',H',h1,hk',h2⟩:=b6g (c:=d) hk h
    exact⟨x,kn',e',H',by rw[d0m];simp only[ht,c2l];exact h1,hk',h2⟩
   have gen:∀ {f:Bool->Kn},(match gO pg.toCx e o with| .d (.bool t)=>(t=true->wp pg b c (f true) e H Q)/\(t=false->wp pg b d (f false) e H Q)|_=>False)->(∀ t,evO pg.toCx e o= .d (.bool t)->a6m (f t) e)->∃ x kn' e' H',ev pg (.cond o c d) ⟨e,H,b⟩=some (x,⟨e',H',b⟩)/\a6m kn' e'/\Q x kn' e' H':=by
     intro f h hf
     rw[c4j]at h
     split at h
     ·rename_i t ht
      cases t with
      |true=>exact yes ht (hf _ ht) (h.1 rfl)
      |false=>exact no ht (hf _ ht) (h.2 rfl)
     ·cases h
   cases o with
   |t i=>
    rw[f3d]at h
    split at h
    ·rename_i ht;exact yes (hk i _ ht) hk h
    ·rename_i ht;exact no (hk i _ ht) hk h
    ·exact gen (f:=fun t=>(i,t)::kn) h fun t ht=>hk.add ht
   |c v=>exact gen (f:=fun _=>kn) h fun _ _=>hk
   |g v=>exact gen (f:=fun _=>kn) h fun _ _=>hk
   |f v=>exact gen (f:=fun _=>kn) h fun _ _=>hk
 | .block id c,kn,e,H,Q,hk,h=>by
   obtain⟨x,kn',e',H',h1,hk',h2⟩:=b6g (c:=c) hk h
   cases x with
   |nrm=>exact⟨_,kn',e',H',by rw[b0c,h1,e9p],hk',h2⟩
   |ret=>exact⟨_,kn',e',H',by rw[b0c,h1,f0n],hk',h2⟩
   |exit i=>
    simp only at h2
    by_cases hi:i=id
    ·rw[g5q hi]at h2
     exact⟨_,kn',e',H',by rw[b0c,h1,c2w,if_pos hi],hk',h2⟩
    ·rw[g1l hi]at h2
     exact⟨_,kn',e',H',by rw[b0c,h1,c2w,if_neg hi],hk',h2⟩
 | .scope c,kn,e,H,Q,hk,h=>by
   obtain⟨x,kn',e',H',h1,hk',h2⟩:=b6g (c:=c) hk h
   exact⟨x,kn',e',H',by rw[e1u,h1],hk',h2⟩
 | .loop ks c,kn,e,H,Q,hk,h=>by
   have h:d3d e ks fun e=>d0z pg b ks c e H Q:=h
   rw[c3b]at h
   unfold d0z at h
   obtain⟨x,e',H',h1,h2⟩:=h
   rw[d1w]at h1
   refine⟨x,[],e',H',?_,a6m.nil e',h2⟩
   rw[d1w,<-h1]
   simp only[d9z]
 | .exit i,_,_,_,_,hk,h=>⟨_,_,_,_,rfl,hk,h⟩
 | .ret,_,_,_,_,hk,h=>⟨_,_,_,_,rfl,hk,h⟩
 | .newrow sz t,kn,e,H,Q,hk,h=>by
   rw[f1m]at h
   rw[b9h]at h
   split at h
   ·rename_i ht
    simp only[a2q,b0u,a0x,Nat.zero_add]at h
    have hs:0 < sz:=by have:=h.1;simp[Nat.blt]at this;omega
    exact⟨_,_,_,_,by rw[e8j];simp only[ht,f5h,if_pos hs],hk.forget t _,h.2⟩
   ·cases h
 | .bindrow sz t off,kn,e,H,Q,hk,h=>by
   rw[e6f]at h
   rw[b9h]at h
   split at h
   ·rename_i id o ht
    obtain⟨ob,ho,h⟩:=(a1u ..).1 h
    cases ob with
    |box c=>
     obtain⟨v,hv,h⟩:=(a1u ..).1 h
     cases v with
     |nils=>
      simp only[a2q,b0u,a0x,Nat.zero_add,Bool.and_eq_true,Nat.ble_eq]at h
      have hs:0 < sz:=by have:=h.1.2;simp[Nat.blt]at this;omega
      refine⟨_,_,_,_,?_,hk,h.2⟩
      simp only[ev,evC,ht,ho,hv]
      rw[if_pos ⟨h.1.1,hs⟩]
     |_=>cases h
    |_=>cases h
   ·cases h
 | .mkrow sz,kn,e,H,Q,hk,h=>by
   rw[f5l]at h
   simp only[a2q,a0x]at h
   have hs:0 < sz:=by have:=h.1;simp[Nat.blt]at this;omega
   exact⟨_,_,_,_,by simp only[ev,evC,if_pos hs],hk,h.2⟩
 | .bindto t off k,kn,e,H,Q,hk,h=>by
   rw[f2h]at h
   rw[b9h]at h
   split at h
   ·rename_i id o ht
    obtain⟨ob,ho,h⟩:=(a1u ..).1 h
    cases ob with
    |box c=>
     obtain⟨v,hv,h⟩:=(a1u ..).1 h
     cases v with
     |nils=>
      obtain⟨ob2,ho2,h⟩:=(a1u ..).1 h
      split at h
      ·simp only[a2q,a0x,Bool.and_eq_true,Nat.ble_eq]at h
       have hs:0 < k:=by have:=h.1.1.1;simp[Nat.blt]at this;omega
       refine⟨_,_,_,_,?_,hk,h.2⟩
       simp only[ev,evC,ht,ho,hv,ho2]
       rw[if_pos ⟨hs,h.1.1.2,h.1.2⟩]
      ·cases h
     |_=>cases h
    |_=>cases h
   ·cases h
 | .freeze t,kn,e,H,Q,hk,h=>by
   rw[e8v]at h
   rw[b9h]at h
   split at h
   ·rename_i id o l ht
    obtain⟨ob,ho,h⟩:=(a1u ..).1 h
    cases ob with
    |box c=>
     obtain⟨ds,hd,h⟩:=h
     rw[a0x]at h
     exact⟨_,_,_,_,by simp only[ev,evC,ht,ho,hd],hk,h⟩
    |_=>cases h
   ·rename_i id len ht
    obtain⟨ob,ho,h⟩:=(a1u ..).1 h
    cases ob with
    |row sz l=>
     obtain⟨hl,h⟩:=h
     rw[a0x]at h
     exact⟨_,_,_,_,by simp only[ev,evC,ht,ho,if_pos hl],hk.forget t _,h⟩
    |_=>cases h
   ·cases h
theorem wp_loop {ks:List Nat} {c:a0r} {b:Nat} {α:Type} (μ:α->Nat) (E:α->Env) (Hf:α->Hp) (P:α->Prop) {Q:Ex->Kn->Env->Hp->Prop}
 (step:∀ a,P a->e0k (Hf a) 0 fun n=>d3d (E a) ks fun e=>wp pg n c [] e (Hf a) (fun x _ e' H'=>match x with
   | .nrm=>d7q n e' ks fun e2=>a1l (H'.take n) fun H2=> ∃ a',P a'/\μ a' < μ a/\e2=E a'/\H2=Hf a'
   | .exit i=>Q (.exit i) [] e' H'
   | .ret=>Q .ret [] e' H')) (a:α) (ha:P a):d0z pg b ks c (E a) (Hf a) Q:=by
 have key:∀ n,∀ a,μ a < n->P a->∃ x e' H',ev pg (.loop ks c) ⟨E a,Hf a,b⟩=some (x,⟨e',H',b⟩)/\Q x [] e' H':=by
  intro n
  induction n with
  |zero=>intro a h;omega
  |succ n ih=>
   intro a hn ha
   have st:=step a ha
   rw[b0u,c3b,Nat.zero_add]at st
   obtain⟨x,kn',e',H',h1,_,h2⟩:=b6g (a6m.nil _) st
   rw[d1w]
   simp only[h1]
   cases x with
   |nrm=>
    simp only[d3a,a0x]at h2
    obtain⟨a',h3,h4,h5,h6⟩:=h2
    simp only[f3j,h5,h6]
    exact ih a' om h3
   |exit i=>exact⟨_,e',H',rfl,h2⟩
   |ret=>exact⟨_,e',H',rfl,h2⟩
 unfold d0z
 exact key (μ a+1) a om ha
noncomputable def f4q (e:Env) (H:Hp) (l:List d3k):(List V->Prop)->Prop:=List.rec (motive:=fun _=>(List V->Prop)->Prop) (fun k=>k []) (fun o _ ih k=>match o with
  | .tmp t=>f0f H (gE e t) fun v=>ih fun vs=>k (v::vs)
  | .cell t n=>(match gE e t with
    | .ptr id off=>b2x H id fun ob=>match ob with
      | .box c=>c4l n c off fun v=>f0f H v fun v=>ih fun vs=>k (v::vs)
      | .frz c=>c4l n (c.map V.d) off fun v=>f0f H v fun v=>ih fun vs=>k (v::vs)
      |_=>False
    |_=>False)) l
theorem f1y (e:Env) (H:Hp) (t n) (r:List d3k) (k:List V->Prop):f4q e H (.cell t n::r) k=(match gE e t with
    | .ptr id off=>b2x H id fun ob=>match ob with
      | .box c=>c4l n c off fun v=>f0f H v fun v=>f4q e H r fun vs=>k (v::vs)
      | .frz c=>c4l n (c.map V.d) off fun v=>f0f H v fun v=>f4q e H r fun vs=>k (v::vs)
      |_=>False
    |_=>False):=rfl
theorem d0f {e:Env} {H:Hp}:∀ {l:List d3k} {k:List V->Prop},f4q e H l k->∃ vs,a8h e H l=some vs/\k (vs.map (toArg H))
 |[],_,h=>⟨[],rfl,h⟩
 | .tmp t::r,k,h=>by
   have h:f0f H (gE e t) fun v=>f4q e H r fun vs=>k (v::vs):=h
   have h:=d0r _ _ _ h
   obtain⟨vs,h1,h2⟩:=d0f h
   rw[b9h]at h2
   exact⟨a1n e t::vs,by simp only[c8q,f6j,h1,d5l],h2⟩
 | .cell t n::r,k,h=>by
   rw[f1y]at h
   rw[b9h]at h
   have fin:∀ {v id off},a1n e t= .ptr id off->b7i H n (.ptr id off)=some v->(f0f H v fun v=>f4q e H r fun vs=>k (v::vs))->∃ vs,a8h e H (.cell t n::r)=some vs/\k (vs.map (toArg H)):=by
     intro v id off ht hl h
     have h:=d0r _ _ _ h
     obtain⟨vs,h1,h2⟩:=d0f h
     exact⟨v::vs,by simp only[c8q,e7t,ht,hl,h1,d5l],h2⟩
   split at h
   ·rename_i id off ht
    obtain⟨ob,ho,h⟩:=(a1u ..).1 h
    cases ob with
    |box c=>
     obtain⟨v,hv,h⟩:=(a9i ..).1 h
     exact fin ht (by simp only[d3n,ho,e5m,hv]) h
    |frz c=>
     obtain⟨v,hv,h⟩:=(a9i ..).1 h
     exact fin ht (by simp only[d3n,ho,e4t,hv]) h
    |_=>cases h
   ·cases h
noncomputable def f8f (res:List d3k) (n:Nat) (R:V->Hp->Prop):Ex->Kn->Env->Hp->Prop:=fun x _ e H=>match x with
  | .exit _=>False
  | .nrm=>f4q e H res fun vs=>chk (a1e n vs) (R (oneOf vs) H)
  | .ret=>f4q e H res fun vs=>chk (a1e n vs) (R (oneOf vs) H)
theorem b8z {res:List d3k} {n:Nat} {R:V->Hp->Prop} {x kn e H b} (h:f8f res n R x kn e H):∃ r,b4i false res n (some (x,⟨e,H,b⟩))=some (r,H.take n)/\R r H:=by
 have fin:(f4q e H res fun vs=>chk (a1e n vs) (R (oneOf vs) H))->∃ r,leave ⟨0,0,.skip,res,false⟩ n ⟨e,H,b⟩=some (r,H.take n)/\R r H:=by
   intro h
   obtain⟨vs,h1,h2⟩:=d0f h
   rw[a2q]at h2
   exact⟨_,by simp only[f7p,h1,g0b,h2.1,if_true],h2.2⟩
 cases x with
 |nrm=>exact fin h
 |ret=>exact fin h
 |exit i=>cases h
noncomputable def b7t (i:Nat) (l:List V):(Env->Prop)->Prop:=List.rec (motive:=fun _=>Nat->(Env->Prop)->Prop) (fun _ k=>k []) (fun v _ ih i k=>ih (i+1) fun e=>k ((i,v)::e)) l i
theorem a9l:∀ (i:Nat) (l:List V) (k:Env->Prop),b7t i l k=k (a7u i l)
 |_,[],_=>rfl
 |i,v::r,k=>a9l (i+1) r fun e=>k ((i,v)::e)
theorem a1p {f:Nat} {vf:VFn} (ht:pg.tbl f=some (.code vf)) {a:List V} (hn:a.length=vf.np) (hu:(a1e 0 a && !vf.keep)=true) {r:V} (h:b7t 0 a fun e=>wp pg 0 vf.body [] e [] (f8f vf.res 0 fun v _=>v=r)) (H:Hp):evF pg f a H=some (r,H):=by
  rw[a9l]at h
  obtain⟨x,kn,e,H',h1,_,h2⟩:=b6g (a6m.nil _) h
  obtain⟨r',h3,h4⟩:=b8z (b:=0) h2
  have hk:vf.keep=false:=by cases hh:vf.keep<;>simp_all
  refine f9r ht hn hu (h':=H'.take 0) ?_ H
  rw[b1o,h1,hk,h3,h4]
theorem c9o {f:Nat} {vf:VFn} (ht:pg.tbl f=some (.code vf)) {a:List V} (hn:a.length=vf.np) (hk:vf.keep=false) (hu:a1e 0 a=false) {r:V} {H H2:Hp} (h:b7t 0 a fun e=>wp pg H.length vf.body [] e H (f8f vf.res H.length fun v H'=>v=r/\H'.take H.length=H2)):evF pg f a H=some (r,H2):=by
  rw[a9l]at h
  obtain⟨x,kn,e,H',h1,_,h2⟩:=b6g (a6m.nil _) h
  obtain⟨r',h3,h4,h5⟩:=b8z (b:=H.length) h2
  rw[e1x ht hn (by rw[hu];rfl),b1o,h1,hk,h3,h4,h5]
end
end Go.Vm
namespace Go.Vm
abbrev u8 (c:UInt8):V:= .d (.int .u8 c.toNat)
abbrev str (s:List UInt8):V:= .d (.str s)
abbrev i64 (n:Int):V:= .d (.int .i64 n)
abbrev boo (b:Bool):V:= .d (.bool b)
theorem a4r {α:Type} {s:List α} {i:Nat} (h:i < s.length) {k:α->Prop} (hk:k s[i]):∃ c,((0:Int)<=(i:Int)/\s[(i:Int).toNat]? =some c)/\k c:=
 ⟨s[i],⟨om,by rw[Int.toNat_natCast,List.getElem?_eq_getElem h]⟩,hk⟩
theorem d1x {α:Type} {p:α->Bool} {s:List α} {i:Nat} (hi:i < s.length) (h:(s.take i).all p=true) (hp:p s[i]=true):(s.take (i+1)).all p=true:=by
 rw[List.take_add_one,List.getElem?_eq_getElem hi,List.all_append,h]
 simp[hp]
theorem a0a {α:Type} {l:List α} {n:Int} {d:α} (h:0<=n/\l[n.toNat]? =some d) {k:α->Prop} (hk:k d):∃ c,(0<=n/\l[n.toNat]? =some c)/\k c:=⟨d,h,hk⟩
theorem a0m {b:Bool} {X Y:Prop} (h:b=true) (x:X):(b=true->X)/\(b=false->Y):=⟨fun _=>x,fun e=>by rw[h]at e;cases e⟩
theorem a0j {b:Bool} {X Y:Prop} (h:b=false) (y:Y):(b=true->X)/\(b=false->Y):=⟨fun e=>by(rw[h]at e;cases e),fun _=>y⟩
theorem a4q {b:Bool} {X Y:Prop} (h:b=true) (x:X):(b=false->Y)/\(b=(!false)->X):=⟨fun e=>by(rw[h]at e;cases e),fun _=>x⟩
theorem a3t {b:Bool} {X Y:Prop} (h:b=false) (y:Y):(b=false->Y)/\(b=(!false)->X):=⟨fun _=>y,fun e=>by(rw[h]at e;cases e)⟩
theorem b2m {b:Bool} {X Y:Prop} (h:b=true) (x:X):(b=true->X)/\(b=(!true)->Y):=⟨fun _=>x,fun e=>by(rw[h]at e;cases e)⟩
theorem a7v {b:Bool} {X Y:Prop} (h:b=false) (y:Y):(b=true->X)/\(b=(!true)->Y):=⟨fun e=>by(rw[h]at e;cases e),fun _=>y⟩
theorem ca {x:Option (V×Hp)} {p:V->Hp->Prop} {r:V} {H:Hp} (h:x=some (r,H)) (k:p r H):∃ r H,x=some (r,H)/\p r H:=⟨r,H,h,k⟩
theorem e7j {b:Bool} {l:List V} {k:List V->Prop} (h:b=true) (hk:k l):chk b (a1l l k):=d6s h (by rw[a0x];exact hk)
theorem d6x:∀ {c:List V} {n:Nat} {v:V},n < c.length->putAt c n [v]=c.set n v
 |[],n,v,h=>by simp at h
 |a::c,0,v,_=>by simp[putAt]
 |a::c,n+1,v,h=>by
  simp only[List.length_cons]at h
  simp only[putAt,List.set_cons_succ]
  rw[d6x om]
theorem f2x {α:Type} (f:α->V) {l:List α} {n:Nat} {a:α} (h:n < l.length):putAt (l.map f) n [f a]=(l.set n a).map f:=by
 rw[d6x (by rw[List.length_map];exact h),List.map_set]
theorem fz {c:List V} {ds:List D} {p:List D->Prop} (h:b4x c=some ds) (k:p ds):∃ ds,b4x c=some ds/\p ds:=⟨ds,h,k⟩
theorem b4o {pg:Pg} {ks:List Nat} {c:a0r} {b:Nat} {α:Type} (μ:α->Nat) (E:α->Env) (Hf:α->Hp) (P:α->Prop) {Q:Ex->Kn->Env->Hp->Prop} {e0:Env} {h0:Hp}
 (step:∀ a,P a->e0k (Hf a) 0 fun n=>d3d (E a) ks fun e=>wp pg n c [] e (Hf a) (fun x _ e' H'=>match x with
   | .nrm=>d7q n e' ks fun e2=>a1l (H'.take n) fun H2=> ∃ a',P a'/\μ a' < μ a/\e2=E a'/\H2=Hf a'
   | .exit i=>Q (.exit i) [] e' H'
   | .ret=>Q .ret [] e' H')) (a:α) (ha:P a) (he:e0=E a) (hh:h0=Hf a):d0z pg b ks c e0 h0 Q:=by
 subst he;subst hh;exact wp_loop μ E Hf P step a ha
end Go.Vm
namespace Go.Vm
section
variable {pg:Pg} {b:Nat}
structure WQ (pg:Pg) (b:Nat) (c:a0r) (kn:Kn) (e:Env) (H:Hp) (Q:Ex->Kn->Env->Hp->Prop):Prop where
 imp:a6m kn e->∃ x kn' e' H',ev pg c ⟨e,H,b⟩=some (x,⟨e',H',b⟩)/\a6m kn' e'/\Q x kn' e' H'
structure KS (pg:Pg) (b:Nat) (d:a0r) (Q:Ex->Kn->Env->Hp->Prop) (x:Ex) (kn:Kn) (e:Env) (H:Hp):Prop where
 nrm:x= .nrm->WQ pg b d kn e H Q
 exit:∀ i,x= .exit i->Q (.exit i) kn e H
 ret:x= .ret->Q .ret kn e H
structure KB (id:Nat) (Q:Ex->Kn->Env->Hp->Prop) (x:Ex) (kn:Kn) (e:Env) (H:Hp):Prop where
 nrm:x= .nrm->Q .nrm kn e H
 hit:∀ i,x= .exit i->i.beq id=true->Q .nrm kn e H
 exit:∀ i,x= .exit i->i.beq id=false->Q (.exit i) kn e H
 ret:x= .ret->Q .ret kn e H
structure KL (P:Env->Hp->Prop) (Q:Ex->Kn->Env->Hp->Prop) (x:Ex) (e:Env) (H:Hp):Prop where
 nrm:x= .nrm->P e H
 exit:∀ i,x= .exit i->Q (.exit i) [] e H
 ret:x= .ret->Q .ret [] e H
variable {c d:a0r} {Q:Ex->Kn->Env->Hp->Prop} {kn:Kn} {e:Env} {H:Hp}
theorem h2s (h:WQ pg b d kn e H Q):KS pg b d Q .nrm kn e H:=by constructor<;>intros<;>simp_all
theorem g0z {i:Nat} (h:Q (.exit i) kn e H):KS pg b d Q (.exit i) kn e H:=by constructor<;>intros<;>simp_all
theorem g6w (h:Q .ret kn e H):KS pg b d Q .ret kn e H:=by constructor<;>intros<;>simp_all
theorem h3i {id:Nat} (h:Q .nrm kn e H):KB id Q .nrm kn e H:=by constructor<;>intros<;>simp_all
theorem g9l {id i:Nat} (hi:i.beq id=true) (h:Q .nrm kn e H):KB id Q (.exit i) kn e H:=by constructor<;>intros<;>simp_all
theorem g0a {id i:Nat} (hi:i.beq id=false) (h:Q (.exit i) kn e H):KB id Q (.exit i) kn e H:=by constructor<;>intros<;>simp_all
theorem h1l {id:Nat} (h:Q .ret kn e H):KB id Q .ret kn e H:=by constructor<;>intros<;>simp_all
theorem g9r {P:Env->Hp->Prop} (h:P e H):KL P Q .nrm e H:=by constructor<;>intros<;>simp_all
theorem g2u {P:Env->Hp->Prop} {i:Nat} (h:Q (.exit i) [] e H):KL P Q (.exit i) e H:=by constructor<;>intros<;>simp_all
theorem g9d {P:Env->Hp->Prop} (h:Q .ret [] e H):KL P Q .ret e H:=by constructor<;>intros<;>simp_all
theorem g5l (h:wp pg b c kn e H Q):WQ pg b c kn e H Q:=⟨fun hk=>b6g hk h⟩
theorem q_skip (h:Q .nrm kn e H):WQ pg b .skip kn e H Q:=⟨fun hk=>⟨_,_,_,_,rfl,hk,h⟩⟩
theorem q_exit {i:Nat} (h:Q (.exit i) kn e H):WQ pg b (.exit i) kn e H Q:=⟨fun hk=>⟨_,_,_,_,rfl,hk,h⟩⟩
theorem h2c (h:Q .ret kn e H):WQ pg b .ret kn e H Q:=⟨fun hk=>⟨_,_,_,_,rfl,hk,h⟩⟩
theorem q_reg {ops:List a0e} (h:wpOps pg b ops kn e H fun kn e H=>Q .nrm kn e H):WQ pg b (.reg ops) kn e H Q:=⟨fun hk=>by
  obtain⟨kn',e',H',h1,hk',h2⟩:=b3n hk h
  exact⟨_,kn',e',H',by rw[f8d,evR,h1];rfl,hk',h2⟩⟩
theorem f8h {m:Nat} {ops:List a0e} (h:c5l pg b m ops kn e H fun kn e H=>Q .nrm kn e H):WQ pg b (.draw m ops) kn e H Q:=⟨fun hk=>by
  obtain⟨kn',e',H',h1,hk',h2⟩:=b4w hk h
  exact⟨_,kn',e',H',e7u pg h1,hk',h2⟩⟩
theorem a0c (d:Nat) {m:Nat} {ops:List a0e} (hd:d < m) (hm:m<=ops.length) (h:d8e pg b d m ops kn e H fun kn e H=>Q .nrm kn e H):WQ pg b (.draw m ops) kn e H Q:=⟨fun hk=>by
  obtain⟨kn',e',H',h1,hk',h2⟩:=d8i hd hm hk h
  refine⟨.nrm,kn',e',H',?_,hk',h2⟩
  show(b0o pg.toCx (evF pg) m ops ⟨e,H,b⟩).map _=_
  rw[h1];rfl⟩
theorem d2z (d:Nat) {m:Nat} {ops:List a0e} (hm:m=d+2) (h:d0i pg b d ops kn e H fun kn e H=>Q .nrm kn e H):WQ pg b (.draw m ops) kn e H Q:=⟨fun hk=>by
  obtain⟨kn',e',H',h1,hk',h2⟩:=d6p hm hk h
  refine⟨.nrm,kn',e',H',?_,hk',h2⟩
  show(b0o pg.toCx (evF pg) m ops ⟨e,H,b⟩).map _=_
  rw[h1];rfl⟩
def g9g (m:Nat) (ops:List a0e):Bool:=((ops.take m).all fun o=>match o.op with| .call .. | .callv .. | .app .. =>false|_=>true) && (Nat.ble m 2|| !e1n (m - 3) ops)
theorem g4f {m:Nat} {ops:List a0e} (_:g9g m ops=true) (h:c5l pg b m ops kn e H fun kn e H=>Q .nrm kn e H):WQ pg b (.draw m ops) kn e H Q:=f8h h
theorem g9j (h:WQ pg b c kn e H (KS pg b d Q)):WQ pg b (.seq c d) kn e H Q:=⟨fun hk=>by
  obtain⟨x,kn',e',H',h1,hk',h2⟩:=h.imp hk
  cases x with
  |nrm=>
   obtain⟨x2,kn2,e2,H2,h3,hk2,h4⟩:=(h2.nrm rfl).imp hk'
   exact⟨x2,kn2,e2,H2,by rw[c8f,h1,f8l,h3],hk2,h4⟩
  |exit i=>exact⟨_,kn',e',H',by rw[c8f,h1,e8q],hk',h2.exit _ rfl⟩
  |ret=>exact⟨_,kn',e',H',by rw[c8f,h1,f9d],hk',h2.ret rfl⟩⟩
theorem f0z (h:WQ pg b c kn e H Q):WQ pg b (.scope c) kn e H Q:=⟨fun hk=>by
  obtain⟨x,kn',e',H',h1,hk',h2⟩:=h.imp hk
  exact⟨x,kn',e',H',by rw[e1u,h1],hk',h2⟩⟩
theorem e8y {id:Nat} (h:WQ pg b c kn e H (KB id Q)):WQ pg b (.block id c) kn e H Q:=⟨fun hk=>by
  obtain⟨x,kn',e',H',h1,hk',h2⟩:=h.imp hk
  cases x with
  |nrm=>exact⟨_,kn',e',H',by rw[b0c,h1,e9p],hk',h2.nrm rfl⟩
  |ret=>exact⟨_,kn',e',H',by rw[b0c,h1,f0n],hk',h2.ret rfl⟩
  |exit i=>
   by_cases hi:i=id
   ·exact⟨_,kn',e',H',by rw[b0c,h1,c2w,if_pos hi],hk',h2.hit _ rfl (g5q hi)⟩
   ·exact⟨_,kn',e',H',by rw[b0c,h1,c2w,if_neg hi],hk',h2.exit _ rfl (g1l hi)⟩⟩
theorem q_cond {i:Nat} (h:match look kn i with
      |some true=>WQ pg b c kn e H Q
      |some false=>WQ pg b d kn e H Q
      |none=>match gE e i with
       | .d (.bool t)=>(t=true->WQ pg b c ((i,true)::kn) e H Q)/\(t=false->WQ pg b d ((i,false)::kn) e H Q)
       |_=>False):WQ pg b (.cond (.t i) c d) kn e H Q:=⟨fun hk=>by
  have yes:evO pg.toCx e (.t i)= .d (.bool true)->∀ {kn},a6m kn e->WQ pg b c kn e H Q->∃ x kn' e' H',ev pg (.cond (.t i) c d) ⟨e,H,b⟩=some (x,⟨e',H',b⟩)/\a6m kn' e'/\Q x kn' e' H':=by
   intro ht kn hk h
   obtain⟨x,kn',e',H',h1,hk',h2⟩:=h.imp hk
   exact⟨x,kn',e',H',by rw[d0m];simp only[ht,c2l,if_true];exact h1,hk',h2⟩
  have no:evO pg.toCx e (.t i)= .d (.bool false)->∀ {kn},a6m kn e->WQ pg b d kn e H Q->∃ x kn' e' H',ev pg (.cond (.t i) c d) ⟨e,H,b⟩=some (x,⟨e',H',b⟩)/\a6m kn' e'/\Q x kn' e' H':=by
   intro ht kn hk h
   obtain⟨x,kn',e',H',h1,hk',h2⟩:=h.imp hk
   exact⟨x,kn',e',H',by rw[d0m];simp only[ht,c2l];exact h1,hk',h2⟩
  split at h
  ·rename_i ht;exact yes (hk i _ ht) hk h
  ·rename_i ht;exact no (hk i _ ht) hk h
  ·rw[b9h]at h
   split at h
   ·rename_i t ht
    cases t with
    |true=>exact yes ht (hk.add ht) (h.1 rfl)
    |false=>exact no ht (hk.add ht) (h.2 rfl)
   ·cases h⟩
theorem e2d {sz t:Nat} (h:wp pg b (.newrow sz t) kn e H Q):WQ pg b (.newrow sz t) kn e H Q:=g5l h
theorem d5t {sz t o:Nat} (h:wp pg b (.bindrow sz t o) kn e H Q):WQ pg b (.bindrow sz t o) kn e H Q:=g5l h
theorem e1j {t:Nat} (h:wp pg b (.freeze t) kn e H Q):WQ pg b (.freeze t) kn e H Q:=g5l h
theorem e9d {sz:Nat} (h:wp pg b (.mkrow sz) kn e H Q):WQ pg b (.mkrow sz) kn e H Q:=g5l h
theorem e3f {t o k:Nat} (h:wp pg b (.bindto t o k) kn e H Q):WQ pg b (.bindto t o k) kn e H Q:=g5l h
theorem f9w {ks:List Nat} (h:d3d e ks fun e=>d0z pg b ks c e H Q):WQ pg b (.loop ks c) kn e H Q:=g5l h
theorem a0g {ks:List Nat} {α:Type} (μ:α->Nat) (E:α->Env) (Hf:α->Hp) (P:α->Prop)
 (step:∀ a,P a->e0k (Hf a) 0 fun n=>d3d (E a) ks fun e=>WQ pg n c [] e (Hf a) fun x _ e' H'=>KL (fun e' H'=>d7q n e' ks fun e2=>a1l (H'.take n) fun H2=> ∃ a',P a'/\μ a' < μ a/\e2=E a'/\H2=Hf a') Q x e' H') (a:α) (ha:P a) {e0:Env} {h0:Hp} (he:e0=E a) (hh:h0=Hf a):d0z pg b ks c e0 h0 Q:=by
 subst he;subst hh
 have key:∀ n,∀ a,μ a < n->P a->∃ x e' H',ev pg (.loop ks c) ⟨E a,Hf a,b⟩=some (x,⟨e',H',b⟩)/\Q x [] e' H':=by
  intro n
  induction n with
  |zero=>intro a h;omega
  |succ n ih=>
   intro a hn ha
   have st:=step a ha
   rw[b0u,c3b,Nat.zero_add]at st
   obtain⟨x,kn',e',H',h1,_,h2⟩:=st.imp (a6m.nil _)
   rw[d1w]
   simp only[h1]
   cases x with
   |nrm=>
    have h2:=h2.nrm rfl
    simp only[d3a,a0x]at h2
    obtain⟨a',h3,h4,h5,h6⟩:=h2
    simp only[f3j,h5,h6]
    exact ih a' om h3
   |exit i=>exact⟨_,e',H',rfl,h2.exit _ rfl⟩
   |ret=>exact⟨_,e',H',rfl,h2.ret rfl⟩
 unfold d0z
 exact key (μ a+1) a om ha
theorem a1d {f:Nat} {vf:VFn} (ht:pg.tbl f=some (.code vf)) {a:List V} (hn:a.length=vf.np) (hu:(a1e 0 a && !vf.keep)=true) {r:V} (h:b7t 0 a fun e=>WQ pg 0 vf.body [] e [] (f8f vf.res 0 fun v _=>v=r)) (H:Hp):evF pg f a H=some (r,H):=by
  rw[a9l]at h
  obtain⟨x,kn,e,H',h1,_,h2⟩:=h.imp (a6m.nil _)
  obtain⟨r',h3,h4⟩:=b8z (b:=0) h2
  have hk:vf.keep=false:=by cases hh:vf.keep<;>simp_all
  refine f9r ht hn hu (h':=H'.take 0) ?_ H
  rw[b1o,h1,hk,h3,h4]
theorem a0f {f:Nat} {vf:VFn} (ht:pg.tbl f=some (.code vf)) {a:List V} (hn:a.length=vf.np) (hk:vf.keep=false) (hu:a1e 0 a=false) {r:V} {H H2:Hp} (h:b7t 0 a fun e=>WQ pg H.length vf.body [] e H (f8f vf.res H.length fun v H'=>v=r/\H'.take H.length=H2)):evF pg f a H=some (r,H2):=by
  rw[a9l]at h
  obtain⟨x,kn,e,H',h1,_,h2⟩:=h.imp (a6m.nil _)
  obtain⟨r',h3,h4,h5⟩:=b8z (b:=H.length) h2
  rw[e1x ht hn (by rw[hu];rfl),b1o,h1,hk,h3,h4,h5]
end
end Go.Vm
namespace Go.Vm
section
variable {b:Bool} {X Y:Prop}
theorem b1 (x:X) (h:b=true:=by first|with_reducible rfl|exact rfl|exact decide_eq_true (by assumption)|assumption):(b=true->X)/\(b=false->Y):=a0m h x
theorem b2 (y:Y) (h:b=false:=by first|with_reducible rfl|exact rfl|exact decide_eq_false (by assumption)|assumption):(b=true->X)/\(b=false->Y):=a0j h y
theorem b3 (x:X) (h:b=true:=by first|with_reducible rfl|exact rfl|exact decide_eq_true (by assumption)|assumption):(b=false->Y)/\(b=(!false)->X):=a4q h x
theorem b4 (y:Y) (h:b=false:=by first|with_reducible rfl|exact rfl|exact decide_eq_false (by assumption)|assumption):(b=false->Y)/\(b=(!false)->X):=a3t h y
theorem b5 (x:X) (h:b=true:=by first|with_reducible rfl|exact rfl|exact decide_eq_true (by assumption)|assumption):(b=true->X)/\(b=(!true)->Y):=b2m h x
theorem b6 (y:Y) (h:b=false:=by first|with_reducible rfl|exact rfl|exact decide_eq_false (by assumption)|assumption):(b=true->X)/\(b=(!true)->Y):=a7v h y
end
theorem pk {α:Type} {l:List α} {n:Int} {d:α} {k:α->Prop} (hk:k d) (h:0<=n/\l[n.toNat]? =some d:=by exact⟨by first|decide|exact Int.NonNeg.mk _,rfl⟩):∃ c,(0<=n/\l[n.toNat]? =some c)/\k c:=⟨d,h,hk⟩
structure Left (P:Prop):Prop where
 f:P
theorem stp {P Q:Prop} (q:Q) (g:Q->P:=by
  first
   |exact g9j|exact e8y|exact q_reg|exact q_cond|exact q_exit|exact h2c|exact q_skip|exact f0z|exact f8h|exact f9w|exact e9d|exact e3f|exact e1j|exact e2d|exact d5t):P:=g q
theorem stpd {P Q:Prop} (q:Q) (g:Q->P:=by
  first
   |exact g9j|exact e8y|exact q_reg|exact q_cond|exact q_exit|exact h2c|exact q_skip|exact f0z|exact g4f rfl|exact f9w|exact e9d|exact e3f|exact e1j|exact e2d|exact d5t):P:=g q
theorem stq {P Q:Prop} (q:Q) (g:Q->P:=by
  first
   |exact h2s|exact g0z|exact g6w|exact h3i|exact g9l rfl|exact g0a rfl|exact h1l|exact g9r|exact g2u|exact g9d
   |exact And.intro (c5r _)
   |exact fun x=>b1 x|exact fun x=>b2 x|exact fun x=>b3 x|exact fun x=>b4 x|exact fun x=>b5 x|exact fun x=>b6 x
   |exact fun x=>pk x|exact And.intro rfl):P:=g q
theorem run {P Q:Prop} (q:Left Q) (h:Left Q->P:=by
  intro q
  first
   |((with_reducible show WQ _ _ _ _ _ _ _);refine stp ?_)
   |((conv=>whnf);first|(with_reducible show WQ _ _ _ _ _ _ _)|refine stq ?_)
  repeat' (first
    |((with_reducible show WQ _ _ _ _ _ _ _);refine stp ?_)
    |((conv=>whnf);first|(with_reducible show WQ _ _ _ _ _ _ _)|refine stq ?_)
    |fail)
  exact q.f):P:=h q
theorem a2p {P Q:Prop} (q:Left Q) (h:Left Q->P:=by
  intro q
  first
   |((with_reducible show WQ _ _ _ _ _ _ _);refine stpd ?_)
   |((fail_if_success (with_reducible show WQ _ _ _ _ _ _ _));(conv=>whnf);first|(with_reducible show WQ _ _ _ _ _ _ _)|refine stq ?_)
  repeat' (first
    |((with_reducible show WQ _ _ _ _ _ _ _);refine stpd ?_)
    |((fail_if_success (with_reducible show WQ _ _ _ _ _ _ _));(conv=>whnf);first|(with_reducible show WQ _ _ _ _ _ _ _)|refine stq ?_)
    |fail)
  exact q.f):P:=h q
end Go.Vm
namespace Go.Vm
section
variable {pg:Pg}
def retQ (res:List d3k) (R:List V->Hp->Prop):Ex->Kn->Env->Hp->Prop:=fun x _ e H=>match x with
  | .exit _=>False
  | .nrm=> ∃ vs,a8h e H res=some vs/\R vs H
  | .ret=> ∃ vs,a8h e H res=some vs/\R vs H
theorem d7o {f:Nat} {vf:VFn} (ht:pg.tbl f=some (.code vf)) {a:List V} (hn:a.length=vf.np) (hk:vf.keep=true) {r:V} {H H2:Hp} (h:b7t 0 a fun e=>WQ pg H.length vf.body [] e H (retQ vf.res fun vs H'=>oneOf vs=r/\H'=H2)):evF pg f a H=some (r,H2):=by
  rw[a9l]at h
  obtain⟨x,kn,e,H',h1,_,h2⟩:=h.imp (a6m.nil _)
  rw[e1x ht hn (by rw[hk,Bool.not_true,Bool.and_false]),b1o,h1]
  cases x with
  |exit i=>cases h2
  |nrm=>
   obtain⟨vs,h3,h4,h5⟩:=h2
   subst h5
   simp only[b4i,leave,h3,hk,if_true,h4]
  |ret=>
   obtain⟨vs,h3,h4,h5⟩:=h2
   subst h5
   simp only[b4i,leave,h3,hk,if_true,h4]
theorem e8x {f:Nat} {vf:VFn} (ht:pg.tbl f=some (.code vf)) {a:List V} (hn:a.length=vf.np) (hk:vf.keep=false) (hu:a1e 0 a=false) {H:Hp} {Q:V->Hp->Prop} (h:b7t 0 a fun e=>WQ pg H.length vf.body [] e H (f8f vf.res H.length fun v H'=>Q v (H'.take H.length))):∃ r H2,evF pg f a H=some (r,H2)/\Q r H2:=by
  rw[a9l]at h
  obtain⟨x,kn,e,H',h1,_,h2⟩:=h.imp (a6m.nil _)
  obtain⟨r',h3,h4⟩:=b8z (b:=H.length) h2
  exact⟨r',_,by rw[e1x ht hn (by rw[hu];rfl),b1o,h1,hk,h3],h4⟩
end
end Go.Vm
namespace Go.Vm
open Go.RowKit
section
variable {P:Program} {cx:Cx} {g:Gh} {H:Hp} {w:World}
theorem chunk {pg:Pg} (hT:c2e P pg) (hmx:P.follows .mixedOrders=true) {A:Ann} {N:Nat} {c:Code} {v:a0r} (ht:tr P A c=some v) (hN:v.okN N=true) {e:Env} {b:Nat} {a:Act} (ok:a2e pg.toCx N g ⟨e,H,b⟩ a w) {R:Ex->Env->Hp->Prop} (h:WQ pg b v [] e H fun x _ e' H'=>R x e' H')
    {Q:Exit->Act->World->Prop} (hq:∀ x e' H' g' a' w',R x e' H'->a2e pg.toCx N g' ⟨e',H',b⟩ a' w'->Ext b g H w g' H' w'->Q x.out a' w'):c.wp P Q a w:=by
  obtain⟨x,kn,e',H',h1,_,h2⟩:=h.imp (a6m.nil _)
  exact c9p hT hmx c v ht hN h1 ok fun g' a' w' ok' ext'=>hq x e' H' g' a' w' h2 ok' ext'
theorem take_at {ops:Array Oper} {i m k:Nat} (h:k < ((ops.toList.drop i).take m).length):ops[i+k]? =((ops.toList.drop i).take m)[k]? :=by
 simp only[List.length_take,List.length_drop]at h
 rw[List.getElem?_take_of_lt om,List.getElem?_drop,Array.getElem?_toList]
theorem a2e.low {N:Nat} {s:St} {a:Act} {b:Nat} (ok:a2e cx N g s a w) (hb:b<=s.h.length):a2e cx N g ⟨s.e,s.h,b⟩ a w:=⟨ok.inv,ok.env,ok.defers,hb⟩
theorem a2e.forget {N:Nat} {e:Env} {H:Hp} {b:Nat} {a:Act} (ok:a2e cx N g ⟨e,H,b⟩ a w) (ks:List Nat):a2e cx N g ⟨a1k ks e,H,b⟩ a w:=(ok.keep ks).low ok.base
theorem e7m {orc:Orc} (hS:c0s P cx orc) {N id:Nat} {ops:Array Oper} {m m2:Nat} (hsz:ops.size=m+1+m2) {vs1 vs2:List a0e} (ht1:a1m P ops ((ops.toList.drop 0).take m)=some vs1) (ht2:a1m P ops ((ops.toList.drop (m+1)).take m2)=some vs2) (ok1:vs1.all (a0e.okN N)=true) (ok2:vs2.all (a0e.okN N)=true)
 {p q d:Nat} {t el:TypeId} (hop:(ops[m]?).map (fun o=>(o.op,o.dst,o.guard))=some (.call {callee:= .builtin .append,args:= #[.tmp p,.tmp q],argTypes:= #[t,t]},some d,none)) (hd:d < N) (htt:P.underlying t=some (.slice el)) {i:TypeInfo} (hi:P.info? el=some i) {z:Value} (hz:i.zero=some z) (hzs:z.cells.size=i.size)
 {s s1:St} {a:Act} (ok:a2e cx N g s a w) (e1:a0o cx orc vs1 s=some s1) {xv:Value} (hx:a1n s1.e p= .raw xv) (hpN:p < N) {w0:World} {g0:Gh} {H0:Hp} {k:Nat} {us:List Value} (hl:Loose cx g w w0.heap.size i.size xv k us) (E0:Ext s.b g0 H0 w0 g s.h w)
 {m3:Nat} {vs:List Value} (hy:∀ g' a' w',a2e cx N g' s1 a' w'->Ext s.b g s.h w g' s1.h w'->Stand w' i.size (a'.tmps.getD q Go.undef) m3 vs) (hone:∀ u∈vs,u.oneCell'=true) (hroom:roomy (k+m3) i.bytes)
 {s2:Value->St} (e2:∀ xv',a0o cx orc vs2 ⟨a6p (some d) (.raw xv') s1.e,s1.h,s1.b⟩=some (s2 xv'))
 {Q:Exit->Act->World->Prop} (hq:∀ xv' g' a' w',a2e cx N g' (s2 xv') a' w'->Loose cx g' w' w0.heap.size i.size xv' (k+m3) (us++vs)->Ext s.b g0 H0 w0 g' (s2 xv').h w'->Q .normal a' w'):(Code.region id ops false).wp P Q a w:=by
 have hb1:=c9i e1
 apply wp_region
 have hr:List.range ops.size=List.range' 0 ((ops.toList.drop 0).take m).length++(m::(List.range' (m+1) ((ops.toList.drop (m+1)).take m2).length++[])):=by
  have l1:((ops.toList.drop 0).take m).length=m:=by simp;omega
  have l2:((ops.toList.drop (m+1)).take m2).length=m2:=by simp;omega
  rw[l1,l2,hsz,List.range_eq_range',List.append_nil,Nat.add_assoc,List.range'_append_1.symm,Nat.zero_add,Nat.add_comm 1 m2,List.range'_succ]
 rw[hr]
 refine d1y hS _ 0 _ (fun k hk=>take_at hk) ht1 ok1 e1 ok fun g' a' w' ok' ext'=>?_
 rw[wpOps_cons]
 have hl':=hl.ext ext'
 have E1:=E0.trans ext' (Nat.le_refl _)
 have hxv:a'.tmps.getD p Go.undef=xv:=by
  have:=(ok'.env.2 p hpN).1
  rw[hx]at this
  simpa only[Rep] using this
 obtain⟨o,ho,he⟩:=Option.map_eq_some_iff.1 hop
 simp only[Prod.mk.injEq]at he
 obtain⟨q1,q2,q3⟩:=he
 obtain⟨x2,w2,hrun,hl2,hI2,h5,h6,h7,h8,h9⟩:=e8m (P:=P) (t:=t) (ty:=o.type) ok'.inv htt hi hz hzs hl' E1.size (hy g' a' w' ok' ext') hone hroom
 have hex:(execOp a'.eval o).run P w'= .ok (.value x2) w2:=by
  have:(execOp a'.eval o).run P w'=((Builtin.append_ #[t,t] o.type #[a'.eval (.tmp p),a'.eval (.tmp q)]).run P w').andThen (fun v w'=> .ok (.value v) w'):=by
    simp[execOp,q1,resolve,invoke,builtin]
  rw[this,e3o,e3o,hxv,hrun];rfl
 unfold wpOp
 simp only[ho]
 rw[if_pos (by simp[Region.wanted,q3])]
 refine .inl ?_
 unfold Oper.wp
 rw[hex,Oper.upon_value,q2]
 have E2:Ext s.b g0 H0 w0 g' s1.h w2:=E1.h5h h5 h6 h7 h8 fun b hb=>h9 b hb
 have ok2':a2e cx N g' ⟨a6p (some d) (.raw x2) s1.e,s1.h,s1.b⟩ (a'.put (some d) x2) w2:=by
  refine⟨hI2,?_,by rw[put_defers];exact ok'.defers,ok'.base⟩
  rw[c3a]
  exact ok'.env.put (fun k hk=>by cases hk;exact hd) (by simp only[Rep]) rfl
 refine d1y hS _ (m+1) _ (fun k hk=>take_at hk) ht2 ok2 (e2 x2) ok2' fun g3 a3 w3 ok3 ext3=>?_
 show Q .normal a3 w3
 refine hq x2 g3 a3 w3 ok3 (hl2.ext ext3) (E2.trans ext3 ?_)
 show s.b<=s1.b
 omega
end
end Go.Vm
namespace Go.Vm
def cL:Code->Code| .seq a _=>a|c=>c
def cR:Code->Code| .seq _ b=>b|c=>c
def cA:Code->Code| .cond _ a _=>a|c=>c
def cE:Code->Code| .cond _ _ b=>b|c=>c
def cK:Code->Code| .block _ b=>b| .loop b=>b|c=>c
def vL:a0r->a0r| .seq a _=>a|c=>c
def vR:a0r->a0r| .seq _ b=>b|c=>c
def vA:a0r->a0r| .cond _ a _=>a|c=>c
def vK:a0r->a0r| .block _ b=>b| .loop _ b=>b|c=>c
def a4m:Code->Array Oper| .region _ ops _=>ops|_=> #[]
def cId:Code->Nat| .region id _ _=>id| .block id _=>id|_=>0
section
variable {P:Program} {cx:Cx} {g:Gh} {H:Hp} {w:World}
theorem g2m (P:Program) (cx:Cx):c2e P ⟨cx,fun _=>none⟩:=fun _ _ h=>nomatch h
theorem a3s {N:Nat} {ops:Array Oper} {i:Nat} {op:Op} {d:Nat} (h:(ops[i]?).map (fun o=>(o.op,o.dst,o.guard))=some (op,some d,none)) {s:St} {a:Act} (ok:a2e cx N g s a w) {x:Value} {v:V} (hrun:∀ o:Oper,o.op=op->(execOp a.eval o).run P w= .ok (.value x) w) (hd:d < N) (hr:Rep g s.h v x) (hu:v.und s.h.length=true)
    {Q:Exit->Act->World->Prop} {rest:List Nat} (hk:a2e cx N g ⟨a6p (some d) v s.e,s.h,s.b⟩ (a.put (some d) x) w->Go.wpOps P ops Q rest (a.put (some d) x) w):Go.wpOps P ops Q (i::rest) a w:=by
  rw[Go.wpOps_cons]
  exact g2a h hrun (hk (ok.put (fun k hk=>by cases hk;exact hd) ok.inv hr hu (Ext.refl ..)))
theorem e8c {a:Act} {t e u:TypeId} {p:Nat} {o:Oper} (ht:P.underlying t=some (.slice e)) {ad:Option Addr} {l c:Nat} (hv:a.tmps.getD p Go.undef= .slice ad l c) (ho:o.op= .binOp .eql t (.tmp p) (.const (.slice none 0 0)) u):(execOp a.eval o).run P w= .ok (.value (.bool ad.isNone)) w:=by
 have h1:a.eval (.tmp p)= .slice ad l c:=hv
 simp only[execOp,ho,h1]
 simp[Act.eval,binOp,eqGuard,run_equal_slice_nil w t e ad l c ht]
theorem e1q {f:Nat} {fn:Func} (hf:P.funcs[f]? =some fn) (hb:fn.body.isNone=false) (hn:(fn.name== "runtime.NumGoroutine")=false) {ops:Array Oper} {i:Nat} {ar:Array Operand} {at':Array TypeId} {d:Nat} (h:(ops[i]?).map (fun o=>(o.op,o.dst,o.guard))=some (.call {callee:= .value (.func f),args:=ar,argTypes:=at' },some d,none)) {a:Act} {R:Ending->World->Prop} (hc:Calls P f (ar.map a.eval) w R)
    {Q:Exit->Act->World->Prop} {rest:List Nat} (hk:∀ e w',R e w'->∃ x,e= .returned x/\Go.wpOps P ops Q rest (a.put (some d) x) w'):Go.wpOps P ops Q (i::rest) a w:=by
  rw[Go.wpOps_cons]
  obtain⟨o,ho,he⟩:=Option.map_eq_some_iff.1 h
  simp only[Prod.mk.injEq]at he
  obtain⟨e1,e2,e3⟩:=he
  have hrun:(execOp a.eval o).run P w= .ok (.enter f (ar.map a.eval)) w:=by
   have:(execOp a.eval o).run P w=(callFunc f (ar.map a.eval)).run P w:=by
    simp[execOp,e1,resolve,Act.eval,Deferred.ofValue,invoke]
   rw[this,c1g hf hb hn]
  unfold wpOp
  simp only[ho]
  rw[if_pos (by simp[Region.wanted,e3])]
  refine .inl ?_
  unfold Oper.wp
  rw[hrun,Oper.upon_enter]
  refine hc.mono fun e w' he=>?_
  obtain⟨x,rfl,hx⟩:=hk e w' he
  rw[e2]
  exact hx
theorem d1a {a:Act} {t e:TypeId} {p:Nat} {o:Oper} (ht:P.underlying t=some (.slice e)) {ad:Option Addr} {l c:Nat} (hv:a.tmps.getD p Go.undef= .slice ad l c) (ho:o.op= .call {callee:= .builtin .len,args:= #[.tmp p],argTypes:= #[t]}):(execOp a.eval o).run P w= .ok (.value (.int .i64 l)) w:=by
 have h1:a.eval (.tmp p)= .slice ad l c:=hv
 simp[execOp,ho,resolve,invoke,builtin,h1,Builtin.len_,run_underlying ht,goInt]
theorem f3f {a:Act} {t e:TypeId} {p q:Nat} {o:Oper} (ht:P.underlying t=some (.slice e)) (hsz:sizeT P e=some 1) {b l c n:Nat} {k:IntKind} (hv:a.tmps.getD p Go.undef= .slice (some ⟨b,0,none⟩) l c) (hn:a.tmps.getD q Go.undef= .int k (n:Int)) (hl:n < l) (ho:o.op= .indexAddr t (.tmp p) (.tmp q)):(execOp a.eval o).run P w= .ok (.value (.pointer (some ⟨b,n,none⟩))) w:=by
 have h1:a.eval (.tmp p)= .slice (some ⟨b,0,none⟩) l c:=hv
 have h2:a.eval (.tmp q)= .int k (n:Int):=hn
 simp only[execOp,ho,h1,h2]
 refine a7s ?_
 simp[Instr.indexAt,asIntOf,run_underlying ht,run_sizeOf hsz,Addr.add_lit]
 omega
theorem f5a {a:Act} {t e:TypeId} {p q:Nat} {o:Oper} (ht:P.underlying t=some (.slice e)) (hsz:sizeT P e=some 1) {ad:Option Addr} {l c n:Nat} {k:IntKind} (hv:a.tmps.getD p Go.undef= .slice ad l c) (hn:a.tmps.getD q Go.undef= .int k (n:Int)) (hl:n<=c) (ho:o.op= .slice t (.tmp p) none (some (.tmp q)) none):(execOp a.eval o).run P w= .ok (.value (.slice (if c=0 then ad else ad.map (·.add 0)) n c)) w:=by
 have h1:a.eval (.tmp p)= .slice ad l c:=hv
 have h2:a.eval (.tmp q)= .int k (n:Int):=hn
 simp only[execOp,ho,h1]
 refine a7s ?_
 simp[Instr.sliceAt,run_underlying ht,Instr.slice,Instr.sliceBounds,run_sizeOf hsz,h2,a6g hl]
theorem g4v {a:Act} {t:TypeId} {p:Nat} {o:Oper} (hs:b3k P t=some none) {b n:Nat} {cur:Array Value} {e:TypeId} {fz:Nat×Nat} {y:Value} (hv:a.tmps.getD p Go.undef= .pointer (some ⟨b,n,none⟩)) (hc:w.heap[b]? =some (.cells cur e fz)) (hy:cur[n]? =some y) (ho:o.op= .load t (.tmp p)):(execOp a.eval o).run P w= .ok (.value y) w:=by
 have h1:a.eval (.tmp p)= .pointer (some ⟨b,n,none⟩):=hv
 have hcell:w.cell? ⟨b,n,none⟩=some y:=by rw[cell_of_row w b n cur e fz hc];simpa using hy
 rcases b6o hs with⟨_,ha,_⟩|⟨k,hk,_⟩
 ·have h2:(loadVar t ⟨b,n,none⟩).run P w= .ok y w:=by simp[loadVar,ha,hcell]
  simp only[execOp,ho,h1]
  exact a7s (by simp[Instr.loadAt,Instr.sureAddr,h2])
 ·cases hk
theorem Loose.get {n k:Nat} {x:Value} {us:List Value} (h:Loose cx g w n 1 x k us) {i:Nat} {y:Value} (hy:us[i]? =some y):∃ b cap cur e,x= .slice (some ⟨b,0,none⟩) k cap/\w.heap[b]? =some (.cells cur e (0,0))/\cur[i]? =some y:=by
 cases h with
 |nil=>simp at hy
 |«at» b cap cur e k us h1 h2 hk0 h3 h4 h5 h6 h7 h8 h9=>
  refine⟨b,cap,cur,e,rfl,h1,?_⟩
  have:=a2u h2 hy
  simpa using this
theorem Loose.older {n m sz k:Nat} {x:Value} {us:List Value} (h:Loose cx g w n sz x k us) (hm:m<=n):Loose cx g w m sz x k us:=by
 cases h with
 |nil=>exact .nil
 |«at» b cap cur e k us h1 h2 hk0 h3 h4 h5 h6 h7 h8 h9=>exact .at b cap cur e k us h1 h2 hk0 h3 h4 h5 h6 h7 h8 (Nat.le_trans hm h9)
theorem Loose.pop {n k:Nat} {ad:Option Addr} {c:Nat} {us:List Value} (h:Loose cx g w n 1 (.slice ad k c) k us) {m:Nat} (hm:m<=k):m<=c/\Loose cx g w n 1 (.slice (if c=0 then ad else ad.map (·.add 0)) m c) m (us.take m):=by
 cases h with
 |nil=>
  obtain rfl:m=0:=om
  exact⟨Nat.le_refl _,.nil⟩
 |«at» b cap cur e k us h1 h2 hk0 h3 h4 h5 h6 h7 h8 h9=>
  have e0:(if c=0 then some (⟨b,0,none⟩:Addr) else(some (⟨b,0,none⟩:Addr)).map (·.add 0))=some ⟨b,0,none⟩:=by
   split<;>simp[Addr.add_lit]
  rw[e0]
  refine⟨om,.at b c cur e m _ h1 ((List.take_prefix _ _).trans h2) ?_ om h4 h5 h6 h7 h8 h9⟩
  rw[List.length_take];omega
def vO:a0r->List a0e| .reg l=>l|_=>[]
def d7j (s:List UInt8):Value:= .string ⟨s.toArray⟩
theorem a2e.h1w {N:Nat} {s:St} {a:Act} (ok:a2e cx N g s a w) {i:Nat} (hi:i < N) (hv:a1n s.e i= .nils):a2e cx N g ⟨a6p (some i) (.raw (.slice none 0 0)) s.e,s.h,s.b⟩ a w:=by
 refine⟨ok.inv,⟨ok.env.1,fun k hk=>?_⟩,ok.defers,ok.base⟩
 show Rep g s.h (a1n ((i,.raw (.slice none 0 0))::s.e) k) _/\(a1n ((i,.raw (.slice none 0 0))::s.e) k).und s.h.length=true
 by_cases e:i=k
 ·subst e
  rw[d1r]
  have:=(ok.env.2 i hi).1
  rw[hv]at this
  exact⟨by simpa only[Rep] using this,rfl⟩
 ·rw[b3v e];exact ok.env.2 k hk
theorem d6l {N:Nat} {s:St} {a:Act} (ok:a2e cx N g s a w) {i:Nat} (hi:i < N) {t:List UInt8} (hv:a1n s.e i= .d (.sl [.str t])):Stand w 1 (a.tmps.getD i Go.undef) 1 [d7j t]:=by
 have r:=(ok.env.2 i hi).1
 rw[hv]at r
 obtain⟨vs,h1,h2⟩:=e6c ok.inv r (sz:=1) rfl
 simp only[a1z]at h2
 obtain⟨v1,v2,rfl,_,h3,rfl⟩:=h2
 simp only[a0v]at h3
 subst h3
 exact h1
theorem Ext.h3z {nb n:Nat} {g':Gh} {H':Hp} {w':World} (h:Ext nb g H w g' H' w') (hn:H.length<=n) (hn2:n<=H'.length) (hnb:nb<=n):Ext nb g H w (g'.cut n) (H'.take n) w':=by
 have hlen:=h.len
 have hget:∀ i,i < n->(H'.take n)[i]? =H'[i]? :=fun i hi=>by rw[List.getElem?_take,if_pos hi]
 refine⟨h.os,h.tape,h.output,h.size,h.frame,⟨h.keep.C,fun i o hi ho hr=>?_,fun i sz l hi ho=>?_⟩,fun i b c hj hb=>h.jnew i b c (a5e hj).2 hb,fun m hm hc i c hi ho=>?_,by rw[List.length_take];omega⟩
 ·obtain⟨h1,o',h2,h3⟩:=h.keep.obj i o hi ho hr
  exact⟨by rw[c4o om];exact h1,o',by rw[hget i om];exact h2,h3⟩
 ·obtain⟨l',h1,h2,h3⟩:=h.keep.row i sz l hi ho
  exact⟨l',by rw[hget i om];exact h1,h2,fun he=>by rw[c4o om];exact h3 he⟩
 ·rw[hget i om]at ho
  exact h.clean m hm hc i c hi ho
theorem a2e.drop {N n:Nat} (ks:List Nat) {s1:St} {g1:Gh} {a1:Act} {w1:World} (hlen:n<=s1.h.length) (hc:Clean n s1.h) (hb0:s1.b<=n) (ok:a2e cx N g1 s1 a1 w1):
 a2e cx N (g1.cut n) ⟨cut n (a1k ks s1.e),s1.h.take n,s1.b⟩ a1 w1:=by
 refine⟨ok.inv.restrict hlen hc,⟨ok.env.1,fun k hk=>?_⟩,ok.defers,?_⟩
 ·rw[e1a]
  split
  ·rename_i hu
   rw[a8s]at hu⊢
   by_cases hks:k∈ks
   ·rw[if_pos hks]at hu⊢
    refine⟨a4p (a7t g1 s1.h n) _ _ hu (ok.env.2 k hk).1,?_⟩
    show V.und (s1.h.take n).length _=true
    rw[List.length_take,Nat.min_eq_left hlen]
    exact hu
   ·rw[if_neg hks]
    exact⟨by simp[Rep],rfl⟩
  ·exact⟨by simp[Rep],rfl⟩
 ·show s1.b<=(s1.h.take n).length
  rw[List.length_take,Nat.min_eq_left hlen]
  exact hb0
theorem c3v {orc:Orc} (hS:c0s P cx orc) {N:Nat} {ops:Array Oper} {i m:Nat} {vs:List a0e} (ht:a1m P ops ((ops.toList.drop i).take m)=some vs) (hok:vs.all (a0e.okN N)=true) (hsz:i+m<=ops.size) {s s':St} (h:a0o cx orc vs s=some s') {a:Act} (ok:a2e cx N g s a w) {Q:Exit->Act->World->Prop} {rest:List Nat}
 (hq:∀ g' a' w',a2e cx N g' s' a' w'->Ext s.b g s.h w g' s'.h w'->Go.wpOps P ops Q rest a' w'):Go.wpOps P ops Q (List.range' i m++rest) a w:=by
 have hl:((ops.toList.drop i).take m).length=m:=by simp;omega
 have:=d1y hS ((ops.toList.drop i).take m) i vs (fun k hk=>take_at hk) ht hok h ok (rest:=rest) (Q:=Q) hq
 rw[hl]at this
 exact this
theorem f3q {N:Nat} {s:St} {a:Act} (ok:a2e cx N g s a w) {i:Nat} (hi:i < N) {x:Value} (hv:a1n s.e i= .raw x):a.tmps.getD i Go.undef=x:=by
 have:=(ok.env.2 i hi).1
 rw[hv]at this
 simpa only[Rep] using this
theorem valI {N:Nat} {s:St} {a:Act} (ok:a2e cx N g s a w) {i:Nat} (hi:i < N) {n:Int} (hv:a1n s.e i= .d (.int .i64 n)):a.tmps.getD i Go.undef= .int .i64 n:=by
 have:=(ok.env.2 i hi).1
 rw[hv]at this
 simp only[Rep,a3e,a0v,List.cons.injEq,and_true]at this
 exact this
theorem b2v {N:Nat} {s:St} {a:Act} (ok:a2e cx N g s a w) {i:Nat} (hi:i < N) {v:V} (hv:a1n s.e i=v):Rep g s.h v (a.tmps.getD i Go.undef):=by
 have:=(ok.env.2 i hi).1
 rw[hv]at this
 exact this
theorem a7i {N:Nat} {s:St} {a:Act} (ok:a2e cx N g s a w) {i:Nat} (hi:i < N) {b:Bool} (hv:a1n s.e i= .d (.bool b)):a.eval (.tmp i)= .bool b:=by
 have:=(ok.env.2 i hi).1
 rw[hv]at this
 simp only[Rep,a3e,a0v,List.cons.injEq,and_true]at this
 exact this
end
end Go.Vm
namespace Go.Vm.Ite
open Go Go.Vm Go.Proofs
def Q43:Laid Tryz.prog (AA [] []) false Tryz.f43:=laid
abbrev B43:a0r:=Q43.F.body
abbrev B55:a0r:=Q55.F.body
abbrev B95:a0r:=Q95.F.body
noncomputable def c50:Code:=(Tryz.f43.body).getD .skip
theorem b50:Tryz.f43.body=some c50:=kr
noncomputable def y50:Code:=cR c50
noncomputable def q50:Code:=cL (cL y50)
theorem s50:c50= .seq (cL c50) (.seq (.seq (.region (cId q50) (a4m q50) false) (.cond (.tmp 4) (cA (cR (cL y50))) .skip)) (cR y50)):=kr
def n50:Ann:=⟨fun _=>[],fun _=>[]⟩
theorem t50a:tr Tryz.prog n50 (cL c50)=some (vL B43):=kr
theorem t50b:tr Tryz.prog n50 (cA (cR (cL y50)))=some (vA (vR (vL (vR B43)))):=kr
theorem t50c:tr Tryz.prog n50 (cR y50)=some (vR (vR B43)):=kr
theorem z50:(a4m q50).size=2:=kr
theorem o50a:((a4m q50)[0]?).map (fun o=>(o.op,o.dst,o.guard))=some (.move (.tmp 0),some 3,none):=kr
theorem o50b:((a4m q50)[1]?).map (fun o=>(o.op,o.dst,o.guard))=some (.binOp .eql 44 (.tmp 3) (.const (.slice none 0 0)) 44,some 4,none):=kr
theorem u50:Tryz.prog.underlying 44=some (.slice 62):=kr
theorem r50:b9l Tryz.prog Tryz.f43.results.toList=some [.tmp 2]:=kr
theorem f50:Tryz.prog.funcs[43]? =some Tryz.f43:=kr
theorem mixed:Tryz.prog.follows .mixedOrders=true:=kr
theorem e5h (cx:Cx):∀ args H r H',c4s args H=some (r,H')->a8a Tryz.prog cx 43 args H r H':=by
 intro args H r H' h
 unfold c4s at h
 split at h
 ·rename_i l
  split at h
  ·rename_i hc
   simp only[Option.some.injEq,Prod.mk.injEq]at h
   obtain⟨rfl,rfl⟩:=h
   obtain⟨hroom,hall⟩:=hc
   refine d9r (N:=8) (rs:=[.tmp 2]) f50 b50 kr r50 rfl kr (Nat.le_of_ble_eq_true rfl) rfl rfl ?_ H
   intro g w a ok
   have hT:=g2m Tryz.prog cx
   rw[s50]
   apply wp_seq
   refine chunk (pg:=⟨cx,fun _=>none⟩) hT mixed t50a kr ok (R:=fun x e' H'=>x= .nrm/\e'=[(2,.nils),(0,.d (.sl l))]/\H'=[]) ?_ ?_
   ·refine run ⟨?_⟩
    exact rfl
   rintro x e' H' g1 a1 w1 ⟨rfl,rfl,rfl⟩ ok1 ext1
   show(Code.seq _ _).wp _ _ _ _
   apply wp_seq
   apply wp_seq
   apply wp_region
   rw[z50,g8j]
   have hr0:=(ok1.env.2 0 (by decide)).1
   refine a3s o50a ok1 (v:= .d (.sl l)) (fun o ho=>c2b ho) (by decide) hr0 rfl fun ok2=>?_
   have hr3:=(ok2.env.2 3 (by decide)).1
   obtain⟨ad,cap,hx,hcap,hlz⟩:=b1v hr3
   refine a3s o50b ok2 (v:= .d (.bool ad.isNone)) (fun o ho=>e8c u50 hx ho) (by decide) (a5f _) rfl fun ok3=>?_
   show(Code.cond _ _ _).wp _ _ _ _
   have hc:=a7i ok3 (i:=4) (b:=ad.isNone) (by decide) rfl
   refine Go.wp_cond_split hc (fun hn=>?_) (fun hn=>?_)
   ·have hl:l=[]:=by
     rcases hlz with h|⟨b,off,sz,us,h,_⟩
     ·exact h
     ·rw[h]at hn;cases hn
    refine chunk (pg:=⟨cx,fun _=>none⟩) hT mixed t50b kr ok3 (R:=fun x e' H'=>x= .ret/\a1n e' 2= .nils/\H'=[]) ?_ ?_
    ·refine run ⟨?_⟩
     exact rfl
    rintro x e' H' g2 a2 w2 ⟨rfl,he,rfl⟩ ok4 ext4
    refine⟨.inr rfl,g2,_,[.nils],ok4,ext1.trans ext4 (Nat.le_refl _),?_,rfl,by rw[hl];rfl⟩
    simp only[a8h,e3d,he]
   ·apply wp_skip
    show Code.wp _ _ _ _ _
    have h3:(l.all fun y=>y.cells.length==2)=true/\0 < 2:=⟨hall,by decide⟩
    by_cases hl:l=[]
    ·refine chunk (pg:=⟨cx,fun _=>none⟩) hT mixed t50c kr ok3 (R:=fun x e' H'=>x= .ret/\a1n e' 2= .nile/\H'=[]) ?_ ?_
     ·repeat' (first|refine run ⟨?_⟩|refine And.intro h3 ?_|refine And.intro (fun _=>?_) (fun h=>absurd hl h)|fail)
      exact rfl
     rintro x e' H' g2 a2 w2 ⟨rfl,he,rfl⟩ ok4 ext4
     refine⟨.inr rfl,g2,_,[.nile],ok4,ext1.trans ext4 (Nat.le_refl _),?_,rfl,by rw[hl];rfl⟩
     simp only[a8h,e3d,he]
    ·refine chunk (pg:=⟨cx,fun _=>none⟩) hT mixed t50c kr ok3 (R:=fun x e' H'=>x= .ret/\a1n e' 2= .row 0 l.length/\H'=[.row 2 l]) ?_ ?_
     ·repeat' (first|refine run ⟨?_⟩|refine And.intro h3 ?_|refine And.intro (fun h=>absurd h hl) (fun _=>And.intro hroom ?_)|fail)
      exact rfl
     rintro x e' H' g2 a2 w2 ⟨rfl,he,rfl⟩ ok4 ext4
     refine⟨.inr rfl,g2,_,[.row 0 l.length],ok4,ext1.trans ext4 (Nat.le_refl _),?_,?_,?_⟩
     ·simp only[a8h,e3d,he]
     ·show a1e 0 [toArg [.row 2 l] (.row 0 l.length)]=true
      simp[toArg,toD,a8i]
     ·show oneOf [toArg [.row 2 l] (.row 0 l.length)]=_
      simp[toArg,toD,a8i]
  ·cases h
 ·cases h
end Go.Vm.Ite

namespace Go.Vm.Ite
open Go.Vm.Lex (isL isD b6s b8u a6e hd0 b2j a3c)
def pgL (fx:Nat->Option Obj) (F:Nat->Option a0t):Pg:=⟨⟨fun _=>[],fx⟩,tbl F⟩
abbrev F0:Nat->Option a0t:=fun _=>none
theorem mv (fx:Nat->Option Obj):c8e (pgL fx F0):=h0e _ _ (fun _ _ h=>nomatch h)
theorem f0g {s:List UInt8} (h:s≠[]) {k:UInt8->Prop} (hk:k (hd0 s)):∃ c,((0:Int)<=0/\s[(0:Int).toNat]? =some c)/\k c:=by
 cases s with
 |nil=>exact absurd rfl h
 |cons c r=>exact⟨c,⟨Int.le_refl _,rfl⟩,hk⟩
section
variable {fx:Nat->Option Obj} {F:Nat->Option a0t} (H:Hp)
theorem c4t (c:UInt8):evF (pgL fx F) c2a [u8 c] H=some (boo (isL c),H):=by
 refine a1p (c1j (F:=F)) rfl rfl ?_ H
 repeat' refine And.intro (fun h=>?_) (fun h=>?_)
 all_goals show _=_
 all_goals simp[oneOf,isL]at*
 all_goals grind
theorem e0x (c:UInt8):evF (pgL fx F) d7z [u8 c] H=some (boo (isD c),H):=by
 refine a1p (d7u (F:=F)) rfl rfl ?_ H
 repeat' refine And.intro (fun h=>?_) (fun h=>?_)
 all_goals show _=_
 all_goals simp[oneOf,isD]at*
 all_goals omega
theorem g2y (s:List UInt8):evF (pgL fx F) e5u [str s] H=some (boo (b8u s),H):=by
 refine a1p (e5p (F:=F)) rfl rfl ?_ H
 repeat' refine And.intro (fun h=>?_) (fun h=>?_)
 all_goals show _=_
 all_goals simp only[decide_eq_true_eq,decide_eq_false_iff_not]at*
 all_goals simp[oneOf,b8u,a6e, *]
set_option maxHeartbeats 1000000 in
theorem f4d (s:List UInt8) (hs:s.length<=maxLen):evF (pgL fx F) d8k [str s] H=some (boo (b2j s),H):=by
 have hm:s.length<=9223372036854775807:=hs
 refine a1p (d7w (F:=F)) rfl rfl ?_ H
 by_cases h0:s=[]
 ·subst h0
  repeat' (refine And.intro (fun h=>?_) (fun h=>?_)<;>try(exfalso;simp at h;done))
  all_goals rfl
 by_cases h1:s=[95]
 ·subst h1
  repeat' (refine And.intro (fun h=>?_) (fun h=>?_)<;>try(exfalso;simp at h;done))
  all_goals rfl
 repeat' (first
     |(refine And.intro (fun h=>?_) (fun h=>?_)<;>try(exfalso;simp_all;done))
     |refine f0g (by assumption) ?_
     |refine Exists.intro _ (Exists.intro _ (And.intro (c4t _ _) ?_))
     |refine Exists.intro _ (Exists.intro _ (And.intro (e0x _ _) ?_)))
 all_goals first
   |(show _=_;simp_all[oneOf,b2j];done)
   |(show _=_;obtain⟨c,r,rfl⟩:=List.exists_cons_of_ne_nil h0;simp_all[oneOf,b2j,b6s,hd0];done)
   |skip
 refine wp_loop (α:=Nat) (fun i=>s.length - i) (fun i=>[(0,str s),(16,i64 s.length),(17,i64 i)]) (fun _=>[]) (fun i=>i<=s.length/\(s.take i).all b6s=true) ?_ 0 ⟨om,by simp⟩
 rintro i ⟨hi,hall⟩
 refine And.intro (fun hl=>?_) (fun hl=>?_)
 ·replace hl:=of_decide_eq_true hl
  have hlt:i < s.length:=om
  repeat' (first
      |(refine And.intro (fun h=>?_) (fun h=>?_)<;>try(exfalso;simp_all;done))
      |refine a4r hlt ?_
      |refine Exists.intro _ (Exists.intro _ (And.intro (c4t _ _) ?_))
      |refine Exists.intro _ (Exists.intro _ (And.intro (e0x _ _) ?_)))
  all_goals first
    |(show _=_
      have:s.all b6s=false:=by
       cases hb:s.all b6s with
       |false=>rfl
       |true=>
        have:=List.all_eq_true.1 hb s[i] (List.getElem_mem _)
        simp_all[b6s]
      simp[oneOf,b2j,this];done)
    |(refine⟨i+1,⟨om,d1x hlt hall (by simp_all[b6s])⟩,om,?_,rfl⟩
      rw[a0w om];rfl)
 ·replace hl:=of_decide_eq_false hl
  have hi:i=s.length:=om
  rw[hi,List.take_length]at hall
  show _=_
  have hd:isD (hd0 s)=false:=by
   first|assumption|(have hl:isL (hd0 s)=true:=by simp_all
                     simp[isL,isD]at hl⊢;omega)
  simp[oneOf,b2j,h0,h1,hall,hd]
theorem d8o (s:List UInt8) (hs:s.length<=maxLen):evF (pgL fx F) e5g [str s] H=some (boo (a3c s),H):=by
 refine a1p (e5o (F:=F)) rfl rfl ?_ H
 repeat' (first
     |(refine And.intro (fun h=>?_) (fun h=>?_))
     |refine Exists.intro _ (Exists.intro _ (And.intro (f4d _ _ hs) ?_))
     |refine Exists.intro _ (Exists.intro _ (And.intro (g2y _ _) ?_)))
 all_goals show _=_
 all_goals clear hs
 all_goals have e:((s.length:Int)<=64)=(s.length<=64):=by simp only[eq_iff_iff];omega
 all_goals simp only[e]at*
 all_goals clear e
 all_goals simp only[Bool.not_true,Bool.false_eq_true,decide_eq_true_eq,decide_eq_false_iff_not]at*
 all_goals simp[oneOf,a3c, *]
theorem a8v (c:UInt8):evF (pgL fx F) b6e [u8 c] H=some (boo (isL c),H):=by
 refine a1p (b6d (F:=F)) rfl rfl ?_ H
 repeat' refine And.intro (fun h=>?_) (fun h=>?_)
 all_goals show _=_
 all_goals simp[oneOf,isL]at*
 all_goals grind
theorem a8x (c:UInt8):evF (pgL fx F) b8n [u8 c] H=some (boo (isD c),H):=by
 refine a1p (b8b (F:=F)) rfl rfl ?_ H
 repeat' refine And.intro (fun h=>?_) (fun h=>?_)
 all_goals show _=_
 all_goals simp[oneOf,isD]at*
 all_goals grind
theorem d2w (s:List UInt8):evF (pgL fx F) c1h [str s] H=some (boo (b8u s),H):=by
 refine a1p (c1q (F:=F)) rfl rfl ?_ H
 refine wp_loop (α:=Nat) (fun i=>17 - i) (fun i=>[(0,str s),(5,.d (.sl (a6e.map .str))),(6,i64 17),(7,i64 i)]) (fun _=>[]) (fun i=>i<=17/\∀ x∈a6e.take i,s≠x) ?_ 0 ⟨om,by simp⟩
 rintro i ⟨hi,hall⟩
 refine And.intro (fun h=>?_) (fun h=>?_)
 ·replace h:=of_decide_eq_true h
  have hlt:i < a6e.length:=by show i < 17;omega
  have hlt':i < (a6e.map D.str).length:=by rw[List.length_map];exact hlt
  refine a4r hlt' ?_
  rw[List.getElem_map]
  refine And.intro rfl ?_
  refine And.intro (fun h=>?_) (fun h=>?_)
  ·replace h:=of_decide_eq_true h
   show _=_
   have:s∈a6e:=by rw[h];exact List.getElem_mem _
   simp[oneOf,b8u,this]
  ·replace h:=of_decide_eq_false h
   refine⟨i+1,⟨om,?_⟩,om,?_,rfl⟩
   ·intro x hx
    rw[List.take_add_one,List.mem_append]at hx
    rcases hx with hx|hx
    ·exact hall x hx
    ·rw[List.getElem?_eq_getElem hlt]at hx
     simp only[Option.toList_some,List.mem_singleton]at hx
     rw[hx];exact h
   ·rw[a0w om];rfl
 ·replace h:=of_decide_eq_false h
  have:i=17:=om
  subst this
  show _=_
  have:¬ s∈a6e:=fun h=>hall s (by rw[show a6e.take 17=a6e from rfl];exact h) rfl
  simp[oneOf,b8u,this]
set_option maxHeartbeats 1000000 in
theorem f3b (s:List UInt8) (hs:s.length<=maxLen):evF (pgL fx F) d2p [str s] H=some (boo (b2j s),H):=by
 have hm:s.length<=9223372036854775807:=hs
 refine a1p (d2m (F:=F)) rfl rfl ?_ H
 by_cases h0:s=[]
 ·subst h0
  repeat' (refine And.intro (fun h=>?_) (fun h=>?_)<;>try(exfalso;simp at h;done))
  all_goals rfl
 by_cases h1:s=[95]
 ·subst h1
  repeat' (refine And.intro (fun h=>?_) (fun h=>?_)<;>try(exfalso;simp at h;done))
  all_goals rfl
 repeat' (first
     |(refine And.intro (fun h=>?_) (fun h=>?_)<;>try(exfalso;simp_all;done))
     |refine f0g (by assumption) ?_
     |refine Exists.intro _ (Exists.intro _ (And.intro (a8v _ _) ?_))
     |refine Exists.intro _ (Exists.intro _ (And.intro (a8x _ _) ?_)))
 all_goals first
   |(show _=_;simp_all[oneOf,b2j];done)
   |(show _=_;obtain⟨c,r,rfl⟩:=List.exists_cons_of_ne_nil h0;simp_all[oneOf,b2j,b6s,hd0];done)
   |skip
 refine wp_loop (α:=Nat) (fun i=>s.length - i) (fun i=>[(0,str s),(3,i64 i)]) (fun _=>[]) (fun i=>i<=s.length/\(s.take i).all b6s=true) ?_ 0 ⟨om,by simp⟩
 rintro i ⟨hi,hall⟩
 refine And.intro (fun hl=>?_) (fun hl=>?_)
 ·replace hl:=of_decide_eq_true hl
  have hlt:i < s.length:=om
  repeat' (first
      |(refine And.intro (fun h=>?_) (fun h=>?_)<;>try(exfalso;simp_all;done))
      |refine a4r hlt ?_
      |refine Exists.intro _ (Exists.intro _ (And.intro (a8v _ _) ?_))
      |refine Exists.intro _ (Exists.intro _ (And.intro (a8x _ _) ?_)))
  all_goals first
    |(show _=_
      have:s.all b6s=false:=by
       cases hb:s.all b6s with
       |false=>rfl
       |true=>
        have:=List.all_eq_true.1 hb s[i] (List.getElem_mem _)
        simp_all[b6s]
      simp[oneOf,b2j,this];done)
    |(refine⟨i+1,⟨om,d1x hlt hall (by simp_all[b6s])⟩,om,?_,rfl⟩
      rw[a0w om];rfl)
 ·replace hl:=of_decide_eq_false hl
  have hi:i=s.length:=om
  rw[hi,List.take_length]at hall
  show _=_
  have hd:isD (hd0 s)=false:=by
   first|assumption|(have hl:isL (hd0 s)=true:=by simp_all
                     simp[isL,isD]at hl⊢;omega)
  simp[oneOf,b2j,h0,h1,hall,hd]
theorem d0n (s:List UInt8) (hs:s.length<=maxLen):evF (pgL fx F) d7i [str s] H=some (boo (a3c s),H):=by
 refine a1p (d3v (F:=F)) rfl rfl ?_ H
 repeat' (first
     |(refine And.intro (fun h=>?_) (fun h=>?_))
     |refine Exists.intro _ (Exists.intro _ (And.intro (f3b _ _ hs) ?_))
     |refine Exists.intro _ (Exists.intro _ (And.intro (d2w _ _) ?_)))
 all_goals show _=_
 all_goals clear hs
 all_goals have e:((s.length:Int)<=64)=(s.length<=64):=by simp only[eq_iff_iff];omega
 all_goals simp only[e]at*
 all_goals clear e
 all_goals simp only[Bool.not_true,Bool.false_eq_true,decide_eq_true_eq,decide_eq_false_iff_not]at*
 all_goals simp[oneOf,a3c, *]
end
end Go.Vm.Ite
namespace Go.Vm
theorem e1i {cx:Cx} {t t':Nat->Option a0t} (h:∀ f e,t f=some e->t' f=some e):∀ n,OLe (b0n ⟨cx,t⟩ n) (b0n ⟨cx,t'⟩ n)/\LLe (c1r ⟨cx,t⟩ n) (c1r ⟨cx,t'⟩ n)
 |0=>⟨fun _ _ _ _ h=>(nomatch ((b1d _ _ _ _).symm.trans h)),fun _ _ _ _ h=>(nomatch ((b0x _ _ _ _).symm.trans h))⟩
 |n+1=>by
  obtain⟨h1,h2⟩:=e1i (cx:=cx) h n
  refine⟨fun f a hh r hr=>?_,fun k b s r hr=>?_⟩
  ·rw[a7p,c2k]at hr⊢
   split at hr
   ·cases hr
   ·rename_i Fp ht
    rw[show(⟨cx,t'⟩:Pg).tbl f=some (.prim Fp)from h _ _ ht]
    exact hr
   ·rename_i vf ht
    rw[show(⟨cx,t'⟩:Pg).tbl f=some (.code vf)from h _ _ ht]
    split at hr
    ·rename_i hl
     show(if a.length=vf.np then _ else none)=some r
     rw[if_pos hl]
     refine d1l (fun h r hr=>?_) hr
     cases hx:evC cx (b0n ⟨cx,t⟩ n) (c1r ⟨cx,t⟩ n) vf.body ⟨a2b a,h,h.length⟩with
     |none=>rw[hx]at hr;cases hr
     |some q=>rw[hx]at hr;rw[a8p h1 h2 hx];exact hr
    ·cases hr
  ·rw[a9o]at hr⊢;exact a8p h1 h2 hr
theorem g2e {cx:Cx} {t t':Nat->Option a0t} (h:∀ f e,t f=some e->t' f=some e) {f:Nat} {a:List V} {H:Hp} {r:V×Hp} (he:evF ⟨cx,t⟩ f a H=some r):evF ⟨cx,t'⟩ f a H=some r:=by
 obtain⟨n,hn⟩:=a7c.1 he
 exact a7c.2 ⟨n,(e1i h n).1 _ _ _ _ hn⟩
end Go.Vm
namespace Go.Vm.Ite
open Go.Vm.Ip
theorem mg {kk:Nat} {l:List (D×D)} {kd:D} {r:Option D} {k:Option D->Prop} (h1:a2k kk l=true) (h2:a4e kd l=r) (hk:k r):a2k kk l=true/\∃ r,a4e kd l=r/\k r:=⟨h1,r,h2,hk⟩
def FH (x:Its):Hp:=[.map (a7e (nS x)),.map (a7e (nE x)),.map (a7e (nF x)),.box [.mp 0,.mp 1,.mp 2]]
theorem h1g (F:Nat->Option a0t):∀ f e,tbl F0 f=some e->tbl F f=some e:=by
 intro f e h
 unfold tbl at*
 split at h<;>first|exact h|cases h
theorem up {fx:Nat->Option Obj} {F:Nat->Option a0t} {f:Nat} {a:List V} {H:Hp} {r:V×Hp} (h:evF (pgL fx F0) f a H=some r):evF (pgL fx F) f a H=some r:=g2e (h1g F) h
section
variable {fx:Nat->Option Obj} {F:Nat->Option a0t}
theorem c9u (x:Its) (s:S):evF (pgL fx F) a1h [.ptr 3 0,str s] (FH x)=some (.tup [i64 (loc (nS x) s),boo (known (nS x) s)],FH x):=by
 refine a0f (a6k (F:=F)) rfl rfl rfl ?_
 have h1:=a6d (nS x) (nS x).length
 change a2k 2 (a7e (nS x))=true at h1
 have h2:=c5a (nS x) s
 unfold loc known
 revert h2
 cases pos (nS x) s with
 |none=>
  intro h2
  repeat' (first|refine run ⟨?_⟩|refine mg h1 h2 ?_|fail)
  exact rfl
 |some i=>
  intro h2
  repeat' (first|refine run ⟨?_⟩|refine mg h1 h2 ?_|fail)
  exact rfl
theorem d9i (x:Its) (s:S):evF (pgL fx F) a1h [.ptr 3 1,str s] (FH x)=some (.tup [i64 (loc (nE x) s),boo (known (nE x) s)],FH x):=by
 refine a0f (a6k (F:=F)) rfl rfl rfl ?_
 have h1:=a6d (nE x) (nE x).length
 change a2k 2 (a7e (nE x))=true at h1
 have h2:=c5a (nE x) s
 unfold loc known
 revert h2
 cases pos (nE x) s with
 |none=>
  intro h2
  repeat' (first|refine run ⟨?_⟩|refine mg h1 h2 ?_|fail)
  exact rfl
 |some i=>
  intro h2
  repeat' (first|refine run ⟨?_⟩|refine mg h1 h2 ?_|fail)
  exact rfl
theorem g2s (x:Its) (s:S):evF (pgL fx F) a1h [.ptr 3 2,str s] (FH x)=some (.tup [i64 (loc (nF x) s),boo (known (nF x) s)],FH x):=by
 refine a0f (a6k (F:=F)) rfl rfl rfl ?_
 have h1:=a6d (nF x) (nF x).length
 change a2k 2 (a7e (nF x))=true at h1
 have h2:=c5a (nF x) s
 unfold loc known
 revert h2
 cases pos (nF x) s with
 |none=>
  intro h2
  repeat' (first|refine run ⟨?_⟩|refine mg h1 h2 ?_|fail)
  exact rfl
 |some i=>
  intro h2
  repeat' (first|refine run ⟨?_⟩|refine mg h1 h2 ?_|fail)
  exact rfl
end
end Go.Vm.Ite
namespace Go.Vm.Ite
open Go.Vm.Ip
def g4x (a:List (D×D)) (s:S) (i:Int):List (D×D):=match a4e (.str s) a with
 |some _=>a
 |none=>c1m (.str s) (.int .i64 i) a
theorem c9d (l:List S) (k:Nat):fmap l (k+1)=g4x (fmap l k) (l.getD k []) k:=rfl
def IB (x:Its):Ob:= .box [.d (.sl (x.ss.map Nam.D)),.d (.sl (x.es.map Nam.D)),.d (.sl (x.fs.map Fnc.D))]
theorem gN {l:List Nam} {i:Nat} (h:i < l.length):0<=(i:Int)/\(l.map Nam.D)[(i:Int).toNat]? =some (l.getD i default).D:=by
 refine⟨om,?_⟩
 rw[Int.toNat_natCast,List.getElem?_map,List.getElem?_eq_getElem h]
 simp[List.getD_eq_getElem?_getD,List.getElem?_eq_getElem h]
theorem gF {l:List Fnc} {i:Nat} (h:i < l.length):0<=(i:Int)/\(l.map Fnc.D)[(i:Int).toNat]? =some (l.getD i default).D:=by
 refine⟨om,?_⟩
 rw[Int.toNat_natCast,List.getElem?_map,List.getElem?_eq_getElem h]
 simp[List.getD_eq_getElem?_getD,List.getElem?_eq_getElem h]
theorem e8a {x:Its} {i:Nat} (h:i < x.ss.length):(nS x).getD i []=(x.ss.getD i default).n:=by
 simp[nS,List.getD_eq_getElem?_getD,List.getElem?_eq_getElem h]
theorem f2f {x:Its} {i:Nat} (h:i < x.es.length):(nE x).getD i []=(x.es.getD i default).n:=by
 simp[nE,List.getD_eq_getElem?_getD,List.getElem?_eq_getElem h]
theorem e8k {x:Its} {i:Nat} (h:i < x.fs.length):(nF x).getD i []=(x.fs.getD i default).n:=by
 simp[nF,List.getD_eq_getElem?_getD,List.getElem?_eq_getElem h]
section
variable {fx:Nat->Option Obj} {F:Nat->Option a0t}
theorem g7r (a b c:List (D×D)) (s:S) (i:Int) (hk:a2k 2 a=true) (hq:∀ v,a4e (.str s) a=some v->∃ n:Int,v= .int .i64 n):evF (pgL fx F) a2m [.ptr 3 0,str s,i64 i] [.map a,.map b,.map c,.box [.mp 0,.mp 1,.mp 2]]=some (.tup [],[.map (g4x a s i),.map b,.map c,.box [.mp 0,.mp 1,.mp 2]]):=by
 refine a0f (a6v (F:=F)) rfl rfl rfl ?_
 obtain⟨r,hr⟩:∃ r,a4e (.str s) a=r:=⟨_,rfl⟩
 unfold g4x
 rw[hr]
 cases r with
 |none=>
  repeat' (first|refine run ⟨?_⟩|refine mg hk hr ?_|refine And.intro hk ?_|fail)
  exact rfl
 |some v=>
  obtain⟨n,rfl⟩:=hq v hr
  repeat' (first|refine run ⟨?_⟩|refine mg hk hr ?_|fail)
  exact rfl
theorem g9u (a b c:List (D×D)) (s:S) (i:Int) (hk:a2k 2 b=true) (hq:∀ v,a4e (.str s) b=some v->∃ n:Int,v= .int .i64 n):evF (pgL fx F) a2m [.ptr 3 1,str s,i64 i] [.map a,.map b,.map c,.box [.mp 0,.mp 1,.mp 2]]=some (.tup [],[.map a,.map (g4x b s i),.map c,.box [.mp 0,.mp 1,.mp 2]]):=by
 refine a0f (a6v (F:=F)) rfl rfl rfl ?_
 obtain⟨r,hr⟩:∃ r,a4e (.str s) b=r:=⟨_,rfl⟩
 unfold g4x
 rw[hr]
 cases r with
 |none=>
  repeat' (first|refine run ⟨?_⟩|refine mg hk hr ?_|refine And.intro hk ?_|fail)
  exact rfl
 |some v=>
  obtain⟨n,rfl⟩:=hq v hr
  repeat' (first|refine run ⟨?_⟩|refine mg hk hr ?_|fail)
  exact rfl
theorem g7d (a b c:List (D×D)) (s:S) (i:Int) (hk:a2k 2 c=true) (hq:∀ v,a4e (.str s) c=some v->∃ n:Int,v= .int .i64 n):evF (pgL fx F) a2m [.ptr 3 2,str s,i64 i] [.map a,.map b,.map c,.box [.mp 0,.mp 1,.mp 2]]=some (.tup [],[.map a,.map b,.map (g4x c s i),.box [.mp 0,.mp 1,.mp 2]]):=by
 refine a0f (a6v (F:=F)) rfl rfl rfl ?_
 obtain⟨r,hr⟩:∃ r,a4e (.str s) c=r:=⟨_,rfl⟩
 unfold g4x
 rw[hr]
 cases r with
 |none=>
  repeat' (first|refine run ⟨?_⟩|refine mg hk hr ?_|refine And.intro hk ?_|fail)
  exact rfl
 |some v=>
  obtain⟨n,rfl⟩:=hq v hr
  repeat' (first|refine run ⟨?_⟩|refine mg hk hr ?_|fail)
  exact rfl
theorem d0w (l:List S) (s:S) (k:Nat) (hk:k<=l.length) (v:D) (h:a4e (.str s) (fmap l k)=some v):∃ n:Int,v= .int .i64 n:=by
 rw[a9a l s k hk]at h
 obtain⟨j,_,e⟩:=Option.map_eq_some_iff.1 h
 exact⟨_,e.symm⟩
end
end Go.Vm.Ite


namespace Go.Vm.Ite
open Go.Vm.Ip
section
variable {fx:Nat->Option Obj} {F:Nat->Option a0t}
theorem g3u (x:Its) (s:S):evF (pgL fx F) a8c [.ptr 3 0,str s] (FH x)=some (boo (kn x s),FH x):=by
 refine a0f (b6a (F:=F)) rfl rfl rfl ?_
 have e1:=c9u (fx:=fx) (F:=F) x s
 have e2:=d9i (fx:=fx) (F:=F) x s
 unfold kn
 revert e1 e2
 cases known (nS x) s<;>cases known (nE x) s<;>intro e1 e2
 all_goals
  repeat' (first|refine run ⟨?_⟩|refine ca (e1) ?_|refine ca (e2) ?_|fail)
  exact rfl
end
end Go.Vm.Ite
namespace Go.Vm.Ite
open Go.Vm.Ip
def strs (l:List S):V:= .d (.sl (l.map .str))
theorem gFl {l:List Fld} {i:Nat} (h:i < l.length):0<=(i:Int)/\(l.map Fld.D)[(i:Int).toNat]? =some (l.getD i default).D:=by
 refine⟨om,?_⟩
 rw[Int.toNat_natCast,List.getElem?_map,List.getElem?_eq_getElem h]
 simp[List.getD_eq_getElem?_getD,List.getElem?_eq_getElem h]
theorem a5d {α:Type} {l:List α} {i:Nat} {d:α} (h:i < l.length):l.take (i+1)=l.take i++[l.getD i d]:=by
 rw[List.take_add_one,List.getElem?_eq_getElem h]
 simp[List.getD_eq_getElem?_getD,List.getElem?_eq_getElem h]
theorem i1h {l:List Fld} {i:Nat} (h:i < l.length):(l.take (i+1)).map (fun f=>D.str f.t)=(l.take i).map (fun f=>D.str f.t)++[D.str (l.getD i default).t]:=by
  rw[a5d h,List.map_append];rfl
theorem b4s {l:List Fld} {i:Nat} (h:i < l.length):a1t (l.take (i+1))=if(l.getD i default).t=[] then a1t (l.take i) else a1t (l.take i)++[(l.getD i default).t]:=by
 unfold a1t
 rw[a5d (d:=default) h,List.map_append,List.filter_append]
 generalize l.getD i default=f
 by_cases e:f.t=[]<;>simp[e]
section
variable {fx:Nat->Option Obj} {F:Nat->Option a0t}
theorem f5z (l:List Fld):l.map (fun f=>D.str f.t)=(l.map Fld.t).map D.str:=by rw[List.map_map];rfl
set_option maxHeartbeats 1000000 in
theorem h0j (x:Its) (hx:b0r x) (s:S):evF (pgL fx F) c1i [.d x.D,.ptr 3 0,str s] (FH x)=some (.tup [strs (a1b x s).1,boo (a1b x s).2],FH x):=by
 apply up
 have hp:∀ (k:Nat) (r:V),evF (pgL fx F0) a1h [.ptr 3 k,str s] (FH x)=some (r,FH x)->r.sh (d9x [0,1,2,3] (FH x++[IB x,.row 1 []]).length)=r->evF (pgL fx F0) a1h [.ptr 3 k,str s] [.map (a7e (nS x)),.map (a7e (nE x)),.map (a7e (nF x)),.box [.mp 0,.mp 1,.mp 2],IB x,.row 1 []]=some (r,[.map (a7e (nS x)),.map (a7e (nE x)),.map (a7e (nF x)),.box [.mp 0,.mp 1,.mp 2],IB x,.row 1 []]):=fun k r h hr=>by
   have:=a5b (mv fx) [0,1,2,3] (X:=FH x++[IB x,.row 1 []]) (A:=[.ptr 3 k,str s]) h rfl rfl rfl rfl rfl
   rw[hr]at this
   exact this
 have e1:=hp 0 _ (c9u x s) rfl
 have e2:=hp 1 _ (d9i x s) rfl
 clear hp
 have hS:(nS x).length=x.ss.length:=by simp[nS]
 have hE:(nE x).length=x.es.length:=by simp[nE]
 have gS:∀ i,pos (nS x) s=some i->i < x.ss.length:=fun i h=>by have:=b2o h;omega
 have gE:∀ i,pos (nE x) s=some i->i < x.es.length:=fun i h=>by have:=b2o h;omega
 unfold a1b
 unfold loc known at e1 e2
 revert e1 e2 gS gE
 cases pos (nS x) s with
 |some i=>
  intro e1 e2 gS _
  dsimp only at e1⊢
  have hi:=gS i rfl
  have pi:=gN hi
  have hl:(x.ss.getD i default).fs.length<=4398046511104:=by
   have:x.ss.getD i default∈x.ss:=by simp[List.getD_eq_getElem?_getD,List.getElem?_eq_getElem hi]
   exact(hx.sf _ this).2.1
  revert pi hl
  generalize x.ss.getD i default=y
  obtain⟨yn,fs⟩:=y
  intro pi hl
  dsimp only at hl⊢
  refine a0f (b3s (F:=F)) rfl rfl rfl ?_
  repeat' (first|refine run ⟨?_⟩|refine ca (e1) ?_|refine a0a pi ?_|fail)
  refine a0g (α:=Nat) (fun j=>fs.length - j) (fun j=>[(8,.row 5 j),(31,.d (a2h fs)),(32,i64 fs.length),(33,i64 j)]) (fun j=>[.map (a7e (nS x)),.map (a7e (nE x)),.map (a7e (nF x)),.box [.mp 0,.mp 1,.mp 2],IB x,.row 1 ((fs.take j).map fun f=> .str f.t)]) (fun j=>j<=fs.length) ?_ 0 (Nat.zero_le _) (by show[_,_,_,_]=_;rw[List.length_map];rfl) rfl
  intro j hj
  by_cases h:j < fs.length
  ·have h':(j:Int) < (fs.length:Int):=om
   have pj:=gFl h
   have ht:=i1h h
   have ha:1=1/\((fs.take j).map fun f=>D.str f.t).length=j/\roomy (j+1) 16:=⟨rfl,by simp;omega,by constructor<;>omega⟩
   revert pj ht
   generalize fs.getD j default=f
   intro pj ht
   repeat' (first|refine run ⟨?_⟩|refine a0a pj ?_|refine And.intro ⟨rfl,Nat.one_pos⟩ ?_|refine And.intro ha ?_|fail)
   exact⟨j+1,om,om,by rw[a0w om]<;>rfl,by rw[ht]<;>rfl⟩
  ·have h':¬ (j:Int) < (fs.length:Int):=om
   obtain rfl:j=fs.length:=om
   have hlen:((fs.take fs.length).map fun f=>D.str f.t).length=fs.length:=by simp
   have hv:V.tup [.d (.sl ((fs.take fs.length).map fun f=>D.str f.t)),boo false]= .tup [strs (fs.map Fld.t),boo false]:=by rw[List.take_length,f5z];rfl
   repeat' (first|refine run ⟨?_⟩|refine And.intro hlen ?_|refine And.intro hv ?_|fail)
   exact rfl
 |none=>
  intro e1
  dsimp only at e1
  cases pos (nE x) s with
  |none=>
   intro e2 _ _
   refine a0f (b3s (F:=F)) rfl rfl rfl ?_
   repeat' (first|refine run ⟨?_⟩|refine ca (e1) ?_|refine ca (e2) ?_|fail)
   exact rfl
  |some i=>
   intro e2 _ gE
   dsimp only at e2⊢
   have hi:=gE i rfl
   have pi:=gN hi
   have hl:(x.es.getD i default).fs.length<=4398046511104:=by
    have:x.es.getD i default∈x.es:=by simp[List.getD_eq_getElem?_getD,List.getElem?_eq_getElem hi]
    exact(hx.ef _ this).2.1
   revert pi hl
   generalize x.es.getD i default=y
   obtain⟨yn,fs⟩:=y
   intro pi hl
   dsimp only at hl⊢
   refine a0f (b3s (F:=F)) rfl rfl rfl ?_
   repeat' (first|refine run ⟨?_⟩|refine ca (e1) ?_|refine ca (e2) ?_|refine a0a pi ?_|fail)
   refine a0g (α:=Nat) (fun j=>fs.length - j) (fun j=>[(8,.row 5 (a1t (fs.take j)).length),(58,.d (a2h fs)),(59,i64 fs.length),(60,i64 j)]) (fun j=>[.map (a7e (nS x)),.map (a7e (nE x)),.map (a7e (nF x)),.box [.mp 0,.mp 1,.mp 2],IB x,.row 1 ((a1t (fs.take j)).map .str)]) (fun j=>j<=fs.length) ?_ 0 (Nat.zero_le _) (by show[_,_,_,_]=_;rw[List.length_map];rfl) rfl
   intro j hj
   by_cases h:j < fs.length
   ·have h':(j:Int) < (fs.length:Int):=om
    have pj:=gFl h
    have ht:=b4s h
    have hsl:=b7u (fs.take j)
    simp only[List.length_take]at hsl
    have ha:1=1/\((a1t (fs.take j)).map D.str).length=(a1t (fs.take j)).length/\roomy ((a1t (fs.take j)).length+1) 16:=⟨rfl,by simp,by constructor<;>omega⟩
    revert pj ht
    generalize fs.getD j default=f
    intro pj ht
    by_cases hf:f.t=[]
    ·rw[if_pos hf]at ht
     have hf':(!decide (f.t=[]))=false:=by simp[hf]
     repeat' (first|refine run ⟨?_⟩|refine a0a pj ?_|fail)
     exact⟨j+1,om,om,by rw[a0w om,ht]<;>rfl,by rw[ht]<;>rfl⟩
    ·rw[if_neg hf]at ht
     have hf':(!decide (f.t=[]))=true:=by simp[hf]
     repeat' (first|refine run ⟨?_⟩|refine a0a pj ?_|refine And.intro ⟨rfl,Nat.one_pos⟩ ?_|refine And.intro ha ?_|fail)
     exact⟨j+1,om,om,by rw[a0w om,ht,List.length_append]<;>rfl,by rw[ht,List.map_append]<;>rfl⟩
   ·have h':¬ (j:Int) < (fs.length:Int):=om
    obtain rfl:j=fs.length:=om
    have hlen:((a1t (fs.take fs.length)).map D.str).length=(a1t (fs.take fs.length)).length:=by simp
    have hv:V.tup [.d (.sl ((a1t (fs.take fs.length)).map D.str)),boo true]= .tup [strs (a1t fs),boo true]:=by rw[List.take_length];rfl
    repeat' (first|refine run ⟨?_⟩|refine And.intro hlen ?_|refine And.intro hv ?_|fail)
    exact rfl
end
end Go.Vm.Ite


