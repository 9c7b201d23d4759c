import Derived.Test.YtkedogplneaaiaaGreatDoorVmWp
import Derived.Test.YtkedogplneaaiaaGreatDoorVmDrawSound
import Derived.Test.YtkedogplneaaiaaGreatDoorIteCode
import Derived.Test.YtkedogplneaaiaaGreatDoorVmOps2
import Derived.Lib.Bytealg
import Derived.Lib.IndexLaws
import Derived.Lib.ParseIntB
import Derived.Lib.DecodeN
set_option maxRecDepth 100000
set_option linter.unusedVariables false
set_option linter.unusedSimpArgs false
namespace Go.Vm
section
variable (pg:Pg)
noncomputable def e2w (kn:List (Nat×Bool)) (dst:Option Nat) (v:V) (e:Env) (H:Hp) (k:List (Nat×Bool)->Env->Hp->Prop):Prop:=match dst with
 |some d=>a1g (forget kn d) fun kn=>k kn ((d,v)::e) H
 |none=>k kn e H
noncomputable def goK (b:Nat) (dst:Option Nat) (op:VOp) (kn:List (Nat×Bool)) (e:Env) (H:Hp) (k:List (Nat×Bool)->Env->Hp->Prop):Prop:=
 match op with
 | .mv (.c (.d (.bool t)))=>(match dst with
   |some d=>a1g (forget kn d) fun kn=>k ((d,t)::kn) ((d,.d (.bool t))::e) H
   |none=>k kn e H)
 | .mv (.t i)=>(match dst,look kn i with
   |some d,some t=>a1g (forget kn d) fun kn=>k ((d,t)::kn) ((d,.d (.bool t))::e) H
   |dst,_=>b3y (gE e i) fun v=>e2w kn dst v e H k)
 |op=>wpO pg kn b e H op fun v H'=>e2w kn dst v e H' k
noncomputable def b1g (b:Nat) (o:a0b) (kn:List (Nat×Bool)) (e:Env) (H:Hp) (k:List (Nat×Bool)->Env->Hp->Prop):Prop:=match o with
 |⟨dst,op,none⟩=>goK pg b dst op kn e H k
 |⟨dst,op,some (g,bb)⟩=>match look kn g with
  |some t=>match t,bb with
   |true,true=>goK pg b dst op kn e H k
   |false,false=>goK pg b dst op kn e H k
   |true,false=>e2w kn dst (.tup []) e H k
   |false,true=>e2w kn dst (.tup []) e H k
  |none=>match gE e g with
   | .tup []=>e2w kn dst (.tup []) e H k
   | .d (.bool t)=>(t=bb->goK pg b dst op ((g,bb)::kn) e H k)/\(t=(!bb)->e2w ((g,!bb)::kn) dst (.tup []) e H k)
   |_=>False
abbrev Kn:=List (Nat×Bool)
noncomputable def wpOps (b:Nat) (l:List a0b):Kn->Env->Hp->(Kn->Env->Hp->Prop)->Prop:=List.rec (motive:=fun _=>Kn->Env->Hp->(Kn->Env->Hp->Prop)->Prop) (fun kn e H K=>K kn e H) (fun o _ ih kn e H K=>b1g pg b o kn e H fun kn e H=>ih kn e H K) l
noncomputable def grK (p:Bool) (H H':Hp) (q:Prop):Prop:=match p with|true=>q|false=>grew H H'=true/\q
noncomputable def f7b (d:Option Nat) (e:Env) (H:Hp) (q:Prop):Prop:=match d with|some d=>chk ((gE e d).und H.length) q|none=>q
noncomputable def b9u (b:Nat) (m:Nat) (l:List a0b):Kn->Env->Hp->(Kn->Env->Hp->Prop)->Prop:=List.rec (motive:=fun _=>Nat->Kn->Env->Hp->(Kn->Env->Hp->Prop)->Prop) (fun _ kn e H K=>K kn e H) (fun o _ ih m kn e H K=>b1g pg b o kn e H fun kn e' H'=>match m with
  |0=>ih 0 kn e' H' K
  |m+1=>grK (b7j o.op) H H' (f7b o.dst e' H' (ih m kn e' H' K))) l m
noncomputable def i1y (b:Nat) (l:List a0b):(Hp->Prop->Prop)->Kn->Env->Hp->((Hp->Prop->Prop)->Kn->Env->Prop)->Prop:=List.rec (motive:=fun _=>(Hp->Prop->Prop)->Kn->Env->Hp->((Hp->Prop->Prop)->Kn->Env->Prop)->Prop) (fun chk kn e _ K=>K chk kn e) (fun o _ ih chk kn e H K=>b1g pg b o kn e H fun kn' e' H'=>H'=H/\ih (fun H1 P=>b1g pg b o kn e H1 fun _ e2 H2=>e2=e'/\H2=H1/\chk H1 P) kn' e' H K) l
def d9p (d:Option Nat) (o:a0b):Bool:=match d with|some t=>o.names.contains t|none=>false
noncomputable def h6s (b:Nat) (d:Option Nat) (H0:Hp) (l:List a0b):Kn->Env->Hp->(Kn->Env->Prop)->Prop:=List.rec (motive:=fun _=>Kn->Env->Hp->(Kn->Env->Prop)->Prop) (fun kn e _ K=>K kn e) (fun o _ ih kn e H1 K=>b1g pg b o kn e H1 fun kn' e' H'=>H'=H1/\(match d9p d o with
  |true=>ih kn' e' H1 K
  |false=>b1g pg b o kn e H0 fun _ e2 H2=>e2=e'/\H2=H0/\ih kn' e' H1 K)) l
noncomputable def d7g (b:Nat) (d m:Nat) (ops:List a0b) (kn:Kn) (e:Env) (H:Hp) (K:Kn->Env->Hp->Prop):Prop:=
 i1y pg b (ops.take d) (fun _ P=>P) kn e H fun chk kn e=>match ops[d]? with
   |some od=>b1g pg b od kn e H fun kn e H1=>chk H1 (h6s pg b od.dst H ((ops.take m).drop (d+1)) kn e H1 fun kn e=>wpOps pg b (ops.drop m) kn e H1 K)
   |none=>False
noncomputable def c7k (e:Env) (ks:List Nat):(Env->Prop)->Prop:=List.rec (motive:=fun _=>(Env->Prop)->Prop) (fun k=>k []) (fun i _ ih k=>b3y (gE e i) fun v=>ih fun r=>k ((i,v)::r)) ks
theorem b5b (e:Env):∀ (ks:List Nat) (k:Env->Prop),c7k e ks k=k (a2d ks e)
 |[],_=>rfl
 |i::r,k=>by
  rw[show c7k e (i::r) k=b3y (gE e i) (fun v=>c7k e r fun r=>k ((i,v)::r))from rfl,b9y,b5b e r,b5v]
  rfl
noncomputable def d7x (n:Nat) (e:Env) (ks:List Nat):(Env->Prop)->Prop:=List.rec (motive:=fun _=>(Env->Prop)->Prop) (fun k=>k []) (fun i _ ih k=>b3y (gE e i) fun v=>match v.und n with
  |true=>ih fun r=>k ((i,v)::r)
  |false=>ih fun r=>k ((i,.undef)::r)) ks
theorem c3x (n:Nat) (e:Env):∀ (ks:List Nat) (k:Env->Prop),d7x n e ks k=k (cut n (a2d ks e))
 |[],_=>rfl
 |i::r,k=>by
  rw[show d7x n e (i::r) k=b3y (gE e i) (fun v=>match v.und n with
    |true=>d7x n e r fun r=>k ((i,v)::r)
    |false=>d7x n e r fun r=>k ((i,.undef)::r))from rfl,b9y,b5v]
  have hc:cut n (a2d (i::r) e)=(i,if(a1k e i).und n then a1k e i else .undef)::cut n (a2d r e):=rfl
  rw[hc]
  cases hu:(a1k e i).und n<;>simp only[c3x n e r]<;>rfl
@[irreducible] def d4g (b:Nat) (ks:List Nat) (c:a0e) (e:Env) (H:Hp) (Q:Ex->Kn->Env->Hp->Prop):Prop:=∃ x e' H',ev pg (.loop ks c) ⟨e,H,b⟩=some (x,⟨e',H',b⟩)/\Q x [] e' H'
noncomputable def wp (b:Nat) (c:a0e):Kn->Env->Hp->(Ex->Kn->Env->Hp->Prop)->Prop:=a0e.rec (motive:=fun _=>Kn->Env->Hp->(Ex->Kn->Env->Hp->Prop)->Prop)
  (fun kn e H Q=>Q .nrm kn e H)
  (fun ops kn e H Q=>wpOps pg b ops kn e H fun kn e H=>Q .nrm kn e H)
  (fun m ops kn e H Q=>b9u pg b m ops kn e H fun kn e H=>Q .nrm kn e H)
  (fun _ _ ihc ihd kn e H Q=>ihc kn e H fun x kn' e' H'=>match x with
    | .nrm=>ihd kn' e' H' Q
    | .exit i=>Q (.exit i) kn' e' H'
    | .ret=>Q .ret kn' e' H')
  (fun o _ _ ihc ihd kn e H Q=>match o with
    | .t i=>(match look kn i with
      |some true=>ihc kn e H Q
      |some false=>ihd kn e H Q
      |none=>match gE e i with
       | .d (.bool t)=>(t=true->ihc ((i,true)::kn) e H Q)/\(t=false->ihd ((i,false)::kn) e H Q)
       |_=>False)
    |o=>match gO pg.toCx e o with
     | .d (.bool t)=>(t=true->ihc kn e H Q)/\(t=false->ihd kn e H Q)
     |_=>False)
  (fun id _ ih kn e H Q=>ih kn e H fun x kn' e' H'=>match x with
    | .exit i=>(match Nat.beq i id with|true=>Q .nrm kn' e' H'|false=>Q (.exit i) kn' e' H')
    | .nrm=>Q .nrm kn' e' H'
    | .ret=>Q .ret kn' e' H')
  (fun ks c _ _ e H Q=>c7k e ks fun e=>d4g pg b ks c e H Q)
  (fun _ ih kn e H Q=>ih kn e H Q)
  (fun i kn e H Q=>Q (.exit i) kn e H)
  (fun kn e H Q=>Q .ret kn e H)
  (fun sz t kn e H Q=>match gE e t with
    | .nils=>chk (Nat.blt 0 sz) (d4x H 0 fun n=>a1g (H++[.row sz []]) fun H'=>a1g (forget kn t) fun kn=>Q .nrm kn ((t,.row n 0)::e) H')
    |_=>False)
  (fun sz t off kn e H Q=>match gE e t with
    | .ptr id o=>b2o H id fun ob=>match ob with
      | .box c=>b2o c (o+off) fun v=>match v with
        | .nils=>chk (Nat.ble b id && Nat.blt 0 sz) (d4x H 0 fun n=>a1g (c.set (o+off) (.row n 0)) fun c'=>a1g (H.set id (.box c')++[.row sz []]) fun H'=>Q .nrm kn e H')
        |_=>False
      |_=>False
    |_=>False)
  (fun t kn e H Q=>match gE e t with
    | .arr id _ _=>b2o H id fun ob=>match ob with
      | .box c=> ∃ ds,b6m c=some ds/\a1g (H.set id (.frz ds)) fun H'=>Q .nrm kn e H'
      |_=>False
    | .row id len=>b2o H id fun ob=>match ob with
      | .row _ l=>l.length=len/\a1g (forget kn t) fun kn=>Q .nrm kn ((t,.d (.sl l))::e) H
      |_=>False
    |_=>False)
  (fun sz kn e H Q=>chk (Nat.blt 0 sz) (a1g (H++[.row sz []]) fun H'=>Q .nrm kn e H'))
  (fun t off k kn e H Q=>match gE e t with
    | .ptr id o=>b2o H id fun ob=>match ob with
      | .box c=>b2o c (o+off) fun v=>(match v with
        | .nils=>b2o H (id - k) fun ob=>(match ob with
          | .row _ []=>chk (Nat.blt 0 k && Nat.ble k id && Nat.ble b (id - k)) (a1g (c.set (o+off) (.row (id - k) 0)) fun c'=>a1g (H.set id (.box c')) fun H'=>Q .nrm kn e H')
          |_=>False)
        |_=>False)
      |_=>False
    |_=>False) c
theorem e9z (b i:Nat) (c d:a0e) (kn e H Q):wp pg b (.cond (.t i) c d) kn e H Q=(match look kn i with
      |some true=>wp pg b c kn e H Q
      |some false=>wp pg b d kn e H Q
      |none=>match gE e i with
       | .d (.bool t)=>(t=true->wp pg b c ((i,true)::kn) e H Q)/\(t=false->wp pg b d ((i,false)::kn) e H Q)
       |_=>False):=rfl
theorem e6t (b sz t:Nat) (kn e H Q):wp pg b (.newrow sz t) kn e H Q=(match gE e t with
    | .nils=>chk (Nat.blt 0 sz) (d4x H 0 fun n=>a1g (H++[.row sz []]) fun H'=>a1g (forget kn t) fun kn=>Q .nrm kn ((t,.row n 0)::e) H')
    |_=>False):=rfl
theorem e4e (b sz t off:Nat) (kn e H Q):wp pg b (.bindrow sz t off) kn e H Q=(match gE e t with
    | .ptr id o=>b2o H id fun ob=>match ob with
      | .box c=>b2o c (o+off) fun v=>match v with
        | .nils=>chk (Nat.ble b id && Nat.blt 0 sz) (d4x H 0 fun n=>a1g (c.set (o+off) (.row n 0)) fun c'=>a1g (H.set id (.box c')++[.row sz []]) fun H'=>Q .nrm kn e H')
        |_=>False
      |_=>False
    |_=>False):=rfl
theorem f2i (b sz:Nat) (kn e H Q):wp pg b (.mkrow sz) kn e H Q=chk (Nat.blt 0 sz) (a1g (H++[.row sz []]) fun H'=>Q .nrm kn e H'):=rfl
theorem e6j (b t off k:Nat) (kn e H Q):wp pg b (.bindto t off k) kn e H Q=(match gE e t with
    | .ptr id o=>b2o H id fun ob=>match ob with
      | .box c=>b2o c (o+off) fun v=>(match v with
        | .nils=>b2o H (id - k) fun ob=>(match ob with
          | .row _ []=>chk (Nat.blt 0 k && Nat.ble k id && Nat.ble b (id - k)) (a1g (c.set (o+off) (.row (id - k) 0)) fun c'=>a1g (H.set id (.box c')) fun H'=>Q .nrm kn e H')
          |_=>False)
        |_=>False)
      |_=>False
    |_=>False):=rfl
theorem e7y (b t:Nat) (kn e H Q):wp pg b (.freeze t) kn e H Q=(match gE e t with
    | .arr id _ _=>b2o H id fun ob=>match ob with
      | .box c=> ∃ ds,b6m c=some ds/\a1g (H.set id (.frz ds)) fun H'=>Q .nrm kn e H'
      |_=>False
    | .row id len=>b2o H id fun ob=>match ob with
      | .row _ l=>l.length=len/\a1g (forget kn t) fun kn=>Q .nrm kn ((t,.d (.sl l))::e) H
      |_=>False
    |_=>False):=rfl
end
section
variable {pg:Pg}
theorem b2b {kn dst v e H b} {k:List (Nat×Bool)->Env->Hp->Prop} (hk:a3p kn e) (h:e2w kn dst v e H k):∃ kn' e' H',lay dst e b (some (v,H))=some ⟨e',H',b⟩/\a3p kn' e'/\k kn' e' H':=by
 cases dst with
 |none=>exact⟨_,_,_,rfl,hk,h⟩
 |some d=>
  have h:k (forget kn d) ((d,v)::e) H:=by simpa only[e2w,a0o] using h
  exact⟨_,_,_,rfl,hk.forget d v,h⟩
theorem d7d {b dst op kn e H} {k:List (Nat×Bool)->Env->Hp->Prop} (hk:a3p kn e) (h:goK pg b dst op kn e H k):∃ kn' e' H',lay dst e b (a0q pg.toCx (evF pg) b e H op)=some ⟨e',H',b⟩/\a3p kn' e'/\k kn' e' H':=by
 have gen:∀ op,(wpO pg kn b e H op fun v H'=>e2w kn dst v e H' k)->∃ kn' e' H',lay dst e b (a0q pg.toCx (evF pg) b e H op)=some ⟨e',H',b⟩/\a3p kn' e'/\k kn' e' H':=by
   intro op h
   obtain⟨v,H',hv,h⟩:=g0d hk h
   rw[hv]
   exact b2b hk h
 unfold goK at h
 split at h
 ·rename_i t
  cases dst with
  |none=>exact⟨_,_,_,rfl,hk,h⟩
  |some d=>
   have h:k ((d,t)::forget kn d) ((d,.d (.bool t))::e) H:=by simpa only[a0o] using h
   exact⟨_,_,_,rfl,(hk.forget d _).add (by simp[a1k]),h⟩
 ·rename_i i
  split at h
  ·rename_i d t ht
   rw[a0o]at h
   exact⟨_,_,_,by simp only[a0q,evO,hk i t ht,d9u,a7y],(hk.forget d _).add (by simp[a1k]),h⟩
  ·rw[b9y,b5v]at h
   exact b2b hk h
 ·exact gen _ h
theorem a3q {b:Nat} {o:a0b} {kn e H} {k:List (Nat×Bool)->Env->Hp->Prop} (hk:a3p kn e) (h:b1g pg b o kn e H k):∃ kn' e' H',a0f pg.toCx (evF pg) o ⟨e,H,b⟩=some ⟨e',H',b⟩/\a3p kn' e'/\k kn' e' H':=by
 obtain⟨dst,op,g⟩:=o
 cases g with
 |none=>exact d7d hk h
 |some p=>
  obtain⟨g,bb⟩:=p
  have yes:∀ {kn},a3p kn e->a1k e g= .d (.bool bb)->goK pg b dst op kn e H k->∃ kn' e' H',a0f pg.toCx (evF pg) ⟨dst,op,some (g,bb)⟩ ⟨e,H,b⟩=some ⟨e',H',b⟩/\a3p kn' e'/\k kn' e' H':=by
   intro kn hk hg h
   simp only[a0f,hg,d8n,if_true]
   exact d7d hk h
  have no:∀ {kn},a3p kn e->a1k e g= .d (.bool !bb)->e2w kn dst (.tup []) e H k->∃ kn' e' H',a0f pg.toCx (evF pg) ⟨dst,op,some (g,bb)⟩ ⟨e,H,b⟩=some ⟨e',H',b⟩/\a3p kn' e'/\k kn' e' H':=by
   intro kn hk hg h
   simp only[a0f,hg,d8n]
   rw[if_neg (by cases bb<;>simp)]
   exact b2b (b:=b) hk h
  unfold b1g at h
  simp only at h
  split at h
  ·rename_i t ht
   have hg:=hk g t ht
   split at h
   ·exact yes hk hg h
   ·exact yes hk hg h
   ·exact no hk hg h
   ·exact no hk hg h
  ·rw[b5v]at h
   split at h
   ·rename_i hg
    simp only[a0f,hg,g2h]
    exact b2b (b:=b) hk h
   ·rename_i t hg
    by_cases ht:t=bb
    ·subst ht
     exact yes (hk.add hg) hg (h.1 rfl)
    ·have ht':t= !bb:=by cases t<;>cases bb<;>simp_all
     rw[ht']at hg
     exact no (hk.add hg) hg (h.2 ht')
   ·cases h
theorem b3i {b:Nat}:∀ {l:List a0b} {kn e H} {K:Kn->Env->Hp->Prop},a3p kn e->wpOps pg b l kn e H K->∃ kn' e' H',a0s pg.toCx (evF pg) l ⟨e,H,b⟩=some ⟨e',H',b⟩/\a3p kn' e'/\K kn' e' H'
 |[],_,_,_,_,hk,h=>⟨_,_,_,rfl,hk,h⟩
 |o::r,kn,e,H,K,hk,h=>by
  obtain⟨kn',e',H',h1,h2,h3⟩:=a3q hk h
  obtain⟨kn2,e2,H2,h4,hk2,h5⟩:=b3i h2 h3
  exact⟨kn2,e2,H2,by simp only[a0s,h1,Option.bind_some,h4],hk2,h5⟩
theorem f7y {b:Nat} {e:Env} {H:Hp} {o:VOp} {v:V} {H':Hp} (hp:b7j o=true) (h:a0q pg.toCx (evF pg) b e H o=some (v,H')):H'=H:=d7m hp h
theorem b8r {b:Nat} {e:Env} {H:Hp} {o:a0b} {e' H'} (hp:b7j o.op=true) (h:a0f pg.toCx (evF pg) o ⟨e,H,b⟩=some ⟨e',H',b⟩):H'=H:=by
 have key:∀ {dst:Option Nat} {r:Option (V×Hp)},(∀ v H',r=some (v,H')->H'=H)->lay dst e b r=some ⟨e',H',b⟩->H'=H:=by
  intro dst r hr h
  cases r with
  |none=>cases h
  |some q=>
   obtain⟨v,H2⟩:=q
   have:=hr v H2 rfl
   simp only[d9u,Option.some.injEq,St.mk.injEq]at h
   rw[<-h.2.1,this]
 obtain⟨dst,op,g⟩:=o
 cases g with
 |none=>exact key (fun v H' hh=>f7y hp hh) h
 |some p=>
  obtain⟨g,bb⟩:=p
  simp only[a0f]at h
  unfold grd at h
  split at h
  ·split at h
   ·exact key (fun v H' hh=>f7y hp hh) h
   ·simp only[Option.some.injEq,St.mk.injEq]at h;exact h.2.1.symm
  ·simp only[Option.some.injEq,St.mk.injEq]at h;exact h.2.1.symm
  ·cases h
theorem a6o (cx:Cx) (orc:Orc) (l:List a0b) (s:St):a2c cx orc 0 l s=a0s cx orc l s:=by cases l<;>simp[a2c,a0s]
theorem a8q {b:Nat}:∀ {l:List a0b} {m:Nat} {kn e H} {K:Kn->Env->Hp->Prop},a3p kn e->b9u pg b m l kn e H K->∃ kn' e' H',a2c pg.toCx (evF pg) m l ⟨e,H,b⟩=some ⟨e',H',b⟩/\a3p kn' e'/\K kn' e' H'
 |[],m,_,_,_,_,hk,h=>⟨_,_,_,by cases m<;>rfl,hk,h⟩
 |o::r,0,kn,e,H,K,hk,h=>by
  obtain⟨kn',e',H',h1,h2,h3⟩:=a3q hk h
  obtain⟨kn2,e2,H2,h4,hk2,h5⟩:=a8q (m:=0) h2 h3
  rw[a6o]at h4
  exact⟨kn2,e2,H2,by rw[a6o];simp only[a0s,h1,Option.bind_some,h4],hk2,h5⟩
 |o::r,m+1,kn,e,H,K,hk,h=>by
  obtain⟨kn',e',H',h1,h2,h3⟩:=a3q hk h
  have hg:grew H H'=true/\f7b o.dst e' H' (b9u pg b m r kn' e' H' K):=by
   have h3:grK (b7j o.op) H H' (f7b o.dst e' H' (b9u pg b m r kn' e' H' K)):=h3
   unfold grK at h3
   cases hp:b7j o.op with
   |true=>
    rw[hp]at h3
    rw[b8r hp h1]
    exact⟨by simp,by rw[b8r hp h1]at h3;exact h3⟩
   |false=>rw[hp]at h3;exact h3
  have hd:b7i o.dst ⟨e',H',b⟩=true/\b9u pg b m r kn' e' H' K:=by
   have:=hg.2
   unfold f7b at this
   unfold b7i
   cases hd:o.dst with
   |some d=>rw[hd]at this;simp only[a2o,b5v]at this;exact this
   |none=>rw[hd]at this;exact⟨rfl,this⟩
  obtain⟨kn2,e2,H2,h4,hk2,h5⟩:=a8q h2 hd.2
  exact⟨kn2,e2,H2,by simp only[a2c,h1,Option.bind_some,hg.1,hd.1,Bool.and_self,if_true,h4],hk2,h5⟩
theorem b1j {cx:Cx} {orc:Orc}:∀ {l l':List a0b} {s:St},a0s cx orc (l++l') s=(a0s cx orc l s).bind (a0s cx orc l')
 |[],_,_=>rfl
 |o::r,l',s=>by
  simp only[List.cons_append,a0s]
  cases a0f cx orc o s with
  |none=>rfl
  |some q=>exact b1j
theorem b5m {cx:Cx} {orc:Orc} {l:List a0b} {o:a0b} {s q r:St} (h:a0s cx orc l s=some q) (h1:a0f cx orc o q=some r):a0s cx orc (l++[o]) s=some r:=by
 rw[b1j,h];simp only[Option.bind_some,a0s,h1]
theorem b0z {l r:List a0b} {o:a0b} {i:Nat} (hi:i<=l.length):(l++o::r).take i=l.take i:=by rw[List.take_append_of_le_length hi]
structure Ahd (b:Nat) (s:St) (pre:List a0b) (e:Env) (chk:Hp->Prop->Prop):Prop where
 run:a0s pg.toCx (evF pg) pre s=some ⟨e,s.h,b⟩
 quiet:∀ i q,i<=pre.length->a0s pg.toCx (evF pg) (pre.take i) s=some q->q.h=s.h
 chk:∀ H1 P,chk H1 P->P/\∀ i o q q',pre[i]? =some o->a0s pg.toCx (evF pg) (pre.take i) s=some q->a0s pg.toCx (evF pg) (pre.take (i+1)) s=some q'->a0f pg.toCx (evF pg) o ⟨q.e,H1,b⟩=some ⟨q'.e,H1,b⟩
theorem Ahd.snoc {b:Nat} {s:St} {pre:List a0b} {e e':Env} {chk:Hp->Prop->Prop} (A:Ahd (pg:=pg) b s pre e chk) {kn:Kn} (hk:a3p kn e) {o:a0b} (h:a0f pg.toCx (evF pg) o ⟨e,s.h,b⟩=some ⟨e',s.h,b⟩):
 Ahd (pg:=pg) b s (pre++[o]) e' (fun H1 P=>b1g pg b o kn e H1 fun _ e2 H2=>e2=e'/\H2=H1/\chk H1 P):=by
 have hr:=b5m A.run h
 refine⟨hr,fun i q hi hq=>?_,fun H1 P hc=>?_⟩
 ·rw[List.length_append,List.length_singleton]at hi
  by_cases c:i<=pre.length
  ·rw[b0z c]at hq;exact A.quiet i q c hq
  ·have:i=pre.length+1:=om
   rw[this,List.take_of_length_le (by simp),hr]at hq
   cases hq;rfl
 ·obtain⟨_,e2,H2,h1,_,rfl,rfl,h4⟩:=a3q hk hc
  obtain⟨hP,hall⟩:=A.chk H2 P h4
  refine⟨hP,fun i p q q' hp hq hq'=>?_⟩
  by_cases c:i < pre.length
  ·rw[List.getElem?_append_left c]at hp
   rw[b0z om]at hq hq'
   exact hall i p q q' hp hq hq'
  ·have hi:i=pre.length:=by
    have:=(List.getElem?_eq_some_iff.1 hp).1
    rw[List.length_append,List.length_singleton]at this
    omega
   subst hi
   rw[List.getElem?_append_right (Nat.le_refl _),Nat.sub_self]at hp
   cases hp
   rw[b0z (Nat.le_refl _),List.take_of_length_le (Nat.le_refl _),A.run]at hq
   rw[List.take_of_length_le (by simp),hr]at hq'
   cases hq;cases hq'
   exact h1
theorem d0s {b:Nat} {s:St}:∀ {r pre:List a0b} {kn e chk} {K:(Hp->Prop->Prop)->Kn->Env->Prop},a3p kn e->Ahd (pg:=pg) b s pre e chk->i1y pg b r chk kn e s.h K->∃ chk' kn' e',Ahd (pg:=pg) b s (pre++r) e' chk'/\a3p kn' e'/\K chk' kn' e'
 |[],pre,kn,e,chk,K,hk,A,h=>⟨chk,kn,e,by rw[List.append_nil];exact A,hk,h⟩
 |o::r,pre,kn,e,chk,K,hk,A,h=>by
  obtain⟨kn',e',H',h1,h2,h3⟩:=a3q hk h
  obtain⟨rfl,h3⟩:=h3
  obtain⟨chk',kn2,e2,B,hk2,h5⟩:=d0s h2 (A.snoc hk h1) h3
  exact⟨chk',kn2,e2,by rw[List.append_assoc]at B;exact B,hk2,h5⟩
structure Bhd (b:Nat) (s:St) (d:Nat) (od:a0b) (H1:Hp) (pre:List a0b) (e:Env):Prop where
 run:a0s pg.toCx (evF pg) pre s=some ⟨e,H1,b⟩
 lt:d < pre.length
 quiet:∀ i q,d < i->i<=pre.length->a0s pg.toCx (evF pg) (pre.take i) s=some q->q.h=H1
 both:∀ i o q q',d < i->pre[i]? =some o->a0s pg.toCx (evF pg) (pre.take i) s=some q->a0s pg.toCx (evF pg) (pre.take (i+1)) s=some q'->(∃ t,od.dst=some t/\t∈o.names)\/a0f pg.toCx (evF pg) o ⟨q.e,s.h,b⟩=some ⟨q'.e,s.h,b⟩
theorem Bhd.snoc {b:Nat} {s:St} {d:Nat} {od:a0b} {H1:Hp} {pre:List a0b} {e e':Env} (B:Bhd (pg:=pg) b s d od H1 pre e) {o:a0b} (h:a0f pg.toCx (evF pg) o ⟨e,H1,b⟩=some ⟨e',H1,b⟩)
 (h2:(∃ t,od.dst=some t/\t∈o.names)\/a0f pg.toCx (evF pg) o ⟨e,s.h,b⟩=some ⟨e',s.h,b⟩):Bhd (pg:=pg) b s d od H1 (pre++[o]) e':=by
 have hr:=b5m B.run h
 refine⟨hr,by have:=B.lt;simp;omega,fun i q hd hi hq=>?_,fun i p q q' hd hp hq hq'=>?_⟩
 ·rw[List.length_append,List.length_singleton]at hi
  by_cases c:i<=pre.length
  ·rw[b0z c]at hq;exact B.quiet i q hd c hq
  ·have:i=pre.length+1:=om
   rw[this,List.take_of_length_le (by simp),hr]at hq
   cases hq;rfl
 ·by_cases c:i < pre.length
  ·rw[List.getElem?_append_left c]at hp
   rw[b0z om]at hq hq'
   exact B.both i p q q' hd hp hq hq'
  ·have hi:i=pre.length:=by
    have:=(List.getElem?_eq_some_iff.1 hp).1
    rw[List.length_append,List.length_singleton]at this
    omega
   subst hi
   rw[List.getElem?_append_right (Nat.le_refl _),Nat.sub_self]at hp
   cases hp
   rw[b0z (Nat.le_refl _),List.take_of_length_le (Nat.le_refl _),B.run]at hq
   rw[List.take_of_length_le (by simp),hr]at hq'
   cases hq;cases hq'
   exact h2
theorem f6k {d:Option Nat} {o:a0b} (h:d9p d o=true):∃ t,d=some t/\t∈o.names:=by
 unfold d9p at h
 split at h
 ·exact⟨_,rfl,by simpa using h⟩
 ·cases h
theorem c9g {b:Nat} {s:St} {d:Nat} {od:a0b} {H1:Hp}:∀ {r pre:List a0b} {kn e} {K:Kn->Env->Prop},a3p kn e->Bhd (pg:=pg) b s d od H1 pre e->h6s pg b od.dst s.h r kn e H1 K->∃ kn' e',Bhd (pg:=pg) b s d od H1 (pre++r) e'/\a3p kn' e'/\K kn' e'
 |[],pre,kn,e,K,hk,B,h=>⟨kn,e,by rw[List.append_nil];exact B,hk,h⟩
 |o::r,pre,kn,e,K,hk,B,h=>by
  obtain⟨kn',e',H',h1,h2,h3⟩:=a3q hk h
  obtain⟨rfl,h3⟩:=h3
  have fin:Bhd (pg:=pg) b s d od H' (pre++[o]) e'->h6s pg b od.dst s.h r kn' e' H' K->∃ kn' e',Bhd (pg:=pg) b s d od H' (pre++o::r) e'/\a3p kn' e'/\K kn' e':=by
   intro C h4
   obtain⟨kn2,e2,C',hk2,h5⟩:=c9g h2 C h4
   exact⟨kn2,e2,by rw[List.append_assoc]at C';exact C',hk2,h5⟩
  cases hn:d9p od.dst o with
  |true=>
   rw[hn]at h3
   exact fin (B.snoc h1 (.inl (f6k hn))) h3
  |false=>
   rw[hn]at h3
   obtain⟨_,e2,H2,g1,_,rfl,rfl,g4⟩:=a3q hk h3
   exact fin (B.snoc h1 (.inr g1)) g4
theorem e0t {b:Nat} {s s':St} (hb:s.b=b) {ops:List a0b} {d m:Nat} (hm:m<=ops.length) {od:a0b} (ho:ops[d]? =some od) {e1 e2:Env} {H1:Hp} {chk:Hp->Prop->Prop} {P:Prop}
 (A:Ahd (pg:=pg) b s (ops.take d) e1 chk) (hc:chk H1 P) (hd:d < m) (B:Bhd (pg:=pg) b s d od H1 (ops.take m) e2) (h:a0s pg.toCx (evF pg) ops s=some s'):c8r pg.toCx (evF pg) m ops s:=by
 have pref:∀ i,∃ q,a0s pg.toCx (evF pg) (ops.take i) s=some q:=by
  intro i
  rw[<-List.take_append_drop i ops,b1j]at h
  cases hq:a0s pg.toCx (evF pg) (ops.take i) s with
  |none=>rw[hq]at h;cases h
  |some q=>exact⟨q,rfl⟩
 have one:∀ {i o q q'},ops[i]? =some o->a0s pg.toCx (evF pg) (ops.take i) s=some q->a0s pg.toCx (evF pg) (ops.take (i+1)) s=some q'->a0f pg.toCx (evF pg) o q=some q':=by
  intro i o q q' ho hq hq'
  rw[List.take_add_one,b1j,hq,ho]at hq'
  simp only[Option.toList,Option.bind_some,a0s]at hq'
  cases hx:a0f pg.toCx (evF pg) o q with
  |none=>rw[hx]at hq';cases hq'
  |some y=>rw[hx]at hq';exact hq'
 obtain⟨τ,hτ⟩:∃ τ:Nat->St,∀ i,a0s pg.toCx (evF pg) (ops.take i) s=some (τ i):=⟨fun i=>(pref i).choose,fun i=>(pref i).choose_spec⟩
 have hv:∀ i,∃ x,∀ o,ops[i]? =some o->(τ (i+1)).e=a7y o.dst x (τ i).e:=by
  intro i
  cases ho:ops[i]? with
  |none=>exact⟨.undef,fun o h=>by cases h⟩
  |some o=>
   obtain⟨x,hx⟩:=e1q (one ho (hτ i) (hτ (i+1)))
   exact⟨x,fun o' h=>by cases h;exact hx⟩
 obtain⟨val,hval⟩:∃ val:Nat->V,∀ i o,ops[i]? =some o->(τ (i+1)).e=a7y o.dst (val i) (τ i).e:=⟨fun i=>(hv i).choose,fun i=>(hv i).choose_spec⟩
 have hml:(ops.take m).length=m:=by simp;omega
 have hdl:(ops.take d).length=d:=by simp;omega
 have tk:∀ {i j},i<=j->(ops.take j).take i=ops.take i:=fun{i j} h=>by rw[List.take_take,Nat.min_eq_left h]
 have gt:∀ {i j},i < j->(ops.take j)[i]? =ops[i]? :=fun{i j} h=>by rw[List.getElem?_take,if_pos h]
 have h0:τ 0=s:=by have:=hτ 0;simp only[List.take_zero,a0s,Option.some.injEq]at this;exact this.symm
 have lo:∀ i,i<=d->(τ i).h=s.h:=fun i hi=>A.quiet i _ om (by rw[tk hi];exact hτ i)
 have hi:∀ i,d < i->i<=m->(τ i).h=H1:=fun i h1 h2=>B.quiet i _ h1 om (by rw[tk h2];exact hτ i)
 refine .inl ⟨d,od,τ,val,hd,hm,ho,h0,fun i o _ hq=>⟨one hq (hτ i) (hτ (i+1)),hval i o hq⟩,fun i o him _ hne=>?_,fun i o hid hq=>?_,fun i o hdi him hq=>?_⟩
 ·by_cases c:i < d
  ·rw[lo i om,lo (i+1) om]
  ·rw[hi i om om,hi (i+1) om om]
 ·rw[hi (d+1) om om,hb]
  exact(A.chk H1 P hc).2 i o _ _ (by rw[gt hid];exact hq) (by rw[tk om];exact hτ i) (by rw[tk om];exact hτ (i+1))
 ·rw[hb]
  exact B.both i o _ _ hdi (by rw[gt him];exact hq) (by rw[tk om];exact hτ i) (by rw[tk om];exact hτ (i+1))
theorem d6a {b:Nat} {ops:List a0b} {d m:Nat} (hd:d < m) (hm:m<=ops.length) {kn e H} {K:Kn->Env->Hp->Prop} (hk:a3p kn e) (h:d7g pg b d m ops kn e H K):∃ kn' e' H',b1e pg.toCx (evF pg) m ops ⟨e,H,b⟩=some ⟨e',H',b⟩/\a3p kn' e'/\K kn' e' H':=by
 unfold d7g at h
 have A0:Ahd (pg:=pg) b ⟨e,H,b⟩ [] e (fun _ P=>P):=⟨rfl,fun i q _ hq=>by simp only[List.take_nil,a0s,Option.some.injEq]at hq;rw[<-hq],fun H1 P hP=>⟨hP,fun i o q q' ho=>by simp at ho⟩⟩
 obtain⟨chk,kn1,e1,A,hk1,h1⟩:=d0s (s:=⟨e,H,b⟩) hk A0 h
 rw[List.nil_append]at A
 split at h1
 ·rename_i od ho
  obtain⟨kn2,e2,H1,h2,hk2,h3⟩:=a3q hk1 h1
  obtain⟨h4,_⟩:=A.chk H1 _ h3
  have hdl:(ops.take d).length=d:=by simp;omega
  have hpre:ops.take (d+1)=ops.take d++[od]:=by rw[List.take_add_one,ho];rfl
  have hrun:=b5m A.run h2
  rw[<-hpre]at hrun
  have hl1:(ops.take (d+1)).length=d+1:=by simp;omega
  have B0:Bhd (pg:=pg) b ⟨e,H,b⟩ d od H1 (ops.take (d+1)) e2:=by
   refine⟨hrun,om,fun i q h1 h2 hq=>?_,fun i o q q' h1 ho'=>?_⟩
   ·have:i=d+1:=om
    subst this
    rw[List.take_of_length_le om,hrun]at hq
    cases hq;rfl
   ·have:=(List.getElem?_eq_some_iff.1 ho').1
    omega
  obtain⟨kn3,e3,B,hk3,h5⟩:=c9g (s:=⟨e,H,b⟩) hk2 B0 h4
  have hall:ops.take (d+1)++(ops.take m).drop (d+1)=ops.take m:=by
   have:=List.take_append_drop (d+1) (ops.take m)
   rwa [List.take_take,Nat.min_eq_left om]at this
  rw[hall]at B
  obtain⟨kn4,e4,H4,h6,hk4,h7⟩:=b3i hk3 h5
  have hops:a0s pg.toCx (evF pg) ops ⟨e,H,b⟩=some ⟨e4,H4,b⟩:=by
   rw[<-List.take_append_drop m ops,b1j,B.run];exact h6
  exact⟨kn4,e4,H4,a3e.2 ⟨hops,.inr (e0t rfl hm ho A h3 hd B hops)⟩,hk4,h7⟩
 ·exact h1.elim
theorem b1s (ks:List Nat) (e:Env):a2d ks (a2d ks e)=a2d ks e:=by
 have key:∀ i,i∈ks->a1k (a2d ks e) i=a1k e i:=fun i hi=>by rw[a5f,if_pos hi]
 show(ks.map fun k=>(k,a1k (a2d ks e) k))=ks.map fun k=>(k,a1k e k)
 apply List.map_congr_left
 intro i hi
 rw[key i hi]
theorem b8l {b:Nat}:∀ {c:a0e} {kn e H} {Q:Ex->Kn->Env->Hp->Prop},a3p kn e->wp pg b c kn e H Q->∃ x kn' e' H',ev pg c ⟨e,H,b⟩=some (x,⟨e',H',b⟩)/\a3p kn' e'/\Q x kn' e' H'
 | .skip,_,_,_,_,hk,h=>⟨_,_,_,_,rfl,hk,h⟩
 | .reg ops,kn,e,H,Q,hk,h=>by
   obtain⟨kn',e',H',h1,hk',h2⟩:=b3i hk h
   exact⟨_,kn',e',H',by rw[d2w,evR,h1];rfl,hk',h2⟩
 | .draw m ops,kn,e,H,Q,hk,h=>by
   obtain⟨kn',e',H',h1,hk',h2⟩:=a8q hk h
   exact⟨_,kn',e',H',d5r pg h1,hk',h2⟩
 | .seq c d,kn,e,H,Q,hk,h=>by
   obtain⟨x,kn',e',H',h1,hk',h2⟩:=b8l (c:=c) hk h
   cases x with
   |nrm=>
    obtain⟨x2,kn2,e2,H2,h3,hk2,h4⟩:=b8l (c:=d) hk' h2
    exact⟨x2,kn2,e2,H2,by rw[b6e,h1,e6o,h3],hk2,h4⟩
   |exit i=>exact⟨_,kn',e',H',by rw[b6e,h1,d6d],hk',h2⟩
   |ret=>exact⟨_,kn',e',H',by rw[b6e,h1,e5u],hk',h2⟩
 | .cond o c d,kn,e,H,Q,hk,h=>by
   have yes:evO pg.toCx e o= .d (.bool true)->∀ {kn},a3p kn e->wp pg b c kn e H Q->∃ x kn' e' H',ev pg (.cond o c d) ⟨e,H,b⟩=some (x,⟨e',H',b⟩)/\a3p kn' e'/\Q x kn' e' H':=by
    intro ht kn hk h
    obtain⟨x,kn',e',H',h1,hk',h2⟩:=b8l (c:=c) hk h
    exact⟨x,kn',e',H',by rw[b7c];simp only[ht,b1r,if_true];exact h1,hk',h2⟩
   have no:evO pg.toCx e o= .d (.bool false)->∀ {kn},a3p kn e->wp pg b d kn e H Q->∃ x kn' e' H',ev pg (.cond o c d) ⟨e,H,b⟩=some (x,⟨e',H',b⟩)/\a3p kn' e'/\Q x kn' e' H':=by
    intro ht kn hk h
    obtain⟨x,kn',e',H',h1,hk',h2⟩:=b8l (c:=d) hk h
    exact⟨x,kn',e',H',by rw[b7c];simp only[ht,b1r];exact h1,hk',h2⟩
   have gen:∀ {f:Bool->Kn},(match gO pg.toCx e o with| .d (.bool t)=>(t=true->wp pg b c (f true) e H Q)/\(t=false->wp pg b d (f false) e H Q)|_=>False)->(∀ t,evO pg.toCx e o= .d (.bool t)->a3p (f t) e)->∃ x kn' e' H',ev pg (.cond o c d) ⟨e,H,b⟩=some (x,⟨e',H',b⟩)/\a3p kn' e'/\Q x kn' e' H':=by
     intro f h hf
     rw[c2q]at h
     split at h
     ·rename_i t ht
      cases t with
      |true=>exact yes ht (hf _ ht) (h.1 rfl)
      |false=>exact no ht (hf _ ht) (h.2 rfl)
     ·cases h
   cases o with
   |t i=>
    rw[e9z]at h
    split at h
    ·rename_i ht;exact yes (hk i _ ht) hk h
    ·rename_i ht;exact no (hk i _ ht) hk h
    ·exact gen (f:=fun t=>(i,t)::kn) h fun t ht=>hk.add ht
   |c v=>exact gen (f:=fun _=>kn) h fun _ _=>hk
   |g v=>exact gen (f:=fun _=>kn) h fun _ _=>hk
   |f v=>exact gen (f:=fun _=>kn) h fun _ _=>hk
 | .block id c,kn,e,H,Q,hk,h=>by
   obtain⟨x,kn',e',H',h1,hk',h2⟩:=b8l (c:=c) hk h
   cases x with
   |nrm=>exact⟨_,kn',e',H',by rw[b0c,h1,e7j],hk',h2⟩
   |ret=>exact⟨_,kn',e',H',by rw[b0c,h1,e6m],hk',h2⟩
   |exit i=>
    simp only at h2
    by_cases hi:i=id
    ·rw[g6m hi]at h2
     exact⟨_,kn',e',H',by rw[b0c,h1,c3e,if_pos hi],hk',h2⟩
    ·rw[f9u hi]at h2
     exact⟨_,kn',e',H',by rw[b0c,h1,c3e,if_neg hi],hk',h2⟩
 | .scope c,kn,e,H,Q,hk,h=>by
   obtain⟨x,kn',e',H',h1,hk',h2⟩:=b8l (c:=c) hk h
   exact⟨x,kn',e',H',by rw[d9x,h1],hk',h2⟩
 | .loop ks c,kn,e,H,Q,hk,h=>by
   have h:c7k e ks fun e=>d4g pg b ks c e H Q:=h
   rw[b5b]at h
   unfold d4g at h
   obtain⟨x,e',H',h1,h2⟩:=h
   rw[b3u]at h1
   refine⟨x,[],e',H',?_,a3p.nil e',h2⟩
   rw[b3u,<-h1]
   simp only[b1s]
 | .exit i,_,_,_,_,hk,h=>⟨_,_,_,_,rfl,hk,h⟩
 | .ret,_,_,_,_,hk,h=>⟨_,_,_,_,rfl,hk,h⟩
 | .newrow sz t,kn,e,H,Q,hk,h=>by
   rw[e6t]at h
   rw[b5v]at h
   split at h
   ·rename_i ht
    simp only[a2o,a7k,a0o,Nat.zero_add]at h
    have hs:0 < sz:=by have:=h.1;simp[Nat.blt]at this;omega
    exact⟨_,_,_,_,by rw[e6s];simp only[ht,f1z,if_pos hs],hk.forget t _,h.2⟩
   ·cases h
 | .bindrow sz t off,kn,e,H,Q,hk,h=>by
   rw[e4e]at h
   rw[b5v]at h
   split at h
   ·rename_i id o ht
    obtain⟨ob,ho,h⟩:=(a1t ..).1 h
    cases ob with
    |box c=>
     obtain⟨v,hv,h⟩:=(a1t ..).1 h
     cases v with
     |nils=>
      simp only[a2o,a7k,a0o,Nat.zero_add,Bool.and_eq_true,Nat.ble_eq]at h
      have hs:0 < sz:=by have:=h.1.2;simp[Nat.blt]at this;omega
      refine⟨_,_,_,_,?_,hk,h.2⟩
      simp only[ev,evC,ht,ho,hv]
      rw[if_pos ⟨h.1.1,hs⟩]
     |_=>cases h
    |_=>cases h
   ·cases h
 | .mkrow sz,kn,e,H,Q,hk,h=>by
   rw[f2i]at h
   simp only[a2o,a0o]at h
   have hs:0 < sz:=by have:=h.1;simp[Nat.blt]at this;omega
   exact⟨_,_,_,_,by simp only[ev,evC,if_pos hs],hk,h.2⟩
 | .bindto t off k,kn,e,H,Q,hk,h=>by
   rw[e6j]at h
   rw[b5v]at h
   split at h
   ·rename_i id o ht
    obtain⟨ob,ho,h⟩:=(a1t ..).1 h
    cases ob with
    |box c=>
     obtain⟨v,hv,h⟩:=(a1t ..).1 h
     cases v with
     |nils=>
      obtain⟨ob2,ho2,h⟩:=(a1t ..).1 h
      split at h
      ·simp only[a2o,a0o,Bool.and_eq_true,Nat.ble_eq]at h
       have hs:0 < k:=by have:=h.1.1.1;simp[Nat.blt]at this;omega
       refine⟨_,_,_,_,?_,hk,h.2⟩
       simp only[ev,evC,ht,ho,hv,ho2]
       rw[if_pos ⟨hs,h.1.1.2,h.1.2⟩]
      ·cases h
     |_=>cases h
    |_=>cases h
   ·cases h
 | .freeze t,kn,e,H,Q,hk,h=>by
   rw[e7y]at h
   rw[b5v]at h
   split at h
   ·rename_i id o l ht
    obtain⟨ob,ho,h⟩:=(a1t ..).1 h
    cases ob with
    |box c=>
     obtain⟨ds,hd,h⟩:=h
     rw[a0o]at h
     exact⟨_,_,_,_,by simp only[ev,evC,ht,ho,hd],hk,h⟩
    |_=>cases h
   ·rename_i id len ht
    obtain⟨ob,ho,h⟩:=(a1t ..).1 h
    cases ob with
    |row sz l=>
     obtain⟨hl,h⟩:=h
     rw[a0o]at h
     exact⟨_,_,_,_,by simp only[ev,evC,ht,ho,if_pos hl],hk.forget t _,h⟩
    |_=>cases h
   ·cases h
theorem wp_loop {ks:List Nat} {c:a0e} {b:Nat} {α:Type} (μ:α->Nat) (E:α->Env) (Hf:α->Hp) (P:α->Prop) {Q:Ex->Kn->Env->Hp->Prop}
 (step:∀ a,P a->d4x (Hf a) 0 fun n=>c7k (E a) ks fun e=>wp pg n c [] e (Hf a) (fun x _ e' H'=>match x with
   | .nrm=>d7x n e' ks fun e2=>a1g (H'.take n) fun H2=> ∃ a',P a'/\μ a' < μ a/\e2=E a'/\H2=Hf a'
   | .exit i=>Q (.exit i) [] e' H'
   | .ret=>Q .ret [] e' H')) (a:α) (ha:P a):d4g pg b ks c (E a) (Hf a) Q:=by
 have key:∀ n,∀ a,μ a < n->P a->∃ x e' H',ev pg (.loop ks c) ⟨E a,Hf a,b⟩=some (x,⟨e',H',b⟩)/\Q x [] e' H':=by
  intro n
  induction n with
  |zero=>intro a h;omega
  |succ n ih=>
   intro a hn ha
   have st:=step a ha
   rw[a7k,b5b,Nat.zero_add]at st
   obtain⟨x,kn',e',H',h1,_,h2⟩:=b8l (a3p.nil _) st
   rw[b3u]
   simp only[h1]
   cases x with
   |nrm=>
    simp only[c3x,a0o]at h2
    obtain⟨a',h3,h4,h5,h6⟩:=h2
    simp only[d7q,h5,h6]
    exact ih a' om h3
   |exit i=>exact⟨_,e',H',rfl,h2⟩
   |ret=>exact⟨_,e',H',rfl,h2⟩
 unfold d4g
 exact key (μ a+1) a om ha
noncomputable def f3o (e:Env) (H:Hp) (l:List d1x):(List V->Prop)->Prop:=List.rec (motive:=fun _=>(List V->Prop)->Prop) (fun k=>k []) (fun o _ ih k=>match o with
  | .tmp t=>e7h H (gE e t) fun v=>ih fun vs=>k (v::vs)
  | .cell t n=>(match gE e t with
    | .ptr id off=>b2o H id fun ob=>match ob with
      | .box c=>c4u n c off fun v=>e7h H v fun v=>ih fun vs=>k (v::vs)
      | .frz c=>c4u n (c.map V.d) off fun v=>e7h H v fun v=>ih fun vs=>k (v::vs)
      |_=>False
    |_=>False)) l
theorem e8p (e:Env) (H:Hp) (t n) (r:List d1x) (k:List V->Prop):f3o e H (.cell t n::r) k=(match gE e t with
    | .ptr id off=>b2o H id fun ob=>match ob with
      | .box c=>c4u n c off fun v=>e7h H v fun v=>f3o e H r fun vs=>k (v::vs)
      | .frz c=>c4u n (c.map V.d) off fun v=>e7h H v fun v=>f3o e H r fun vs=>k (v::vs)
      |_=>False
    |_=>False):=rfl
theorem c8u {e:Env} {H:Hp}:∀ {l:List d1x} {k:List V->Prop},f3o e H l k->∃ vs,a9u e H l=some vs/\k (vs.map (toArg H))
 |[],_,h=>⟨[],rfl,h⟩
 | .tmp t::r,k,h=>by
   have h:e7h H (gE e t) fun v=>f3o e H r fun vs=>k (v::vs):=h
   have h:=c8o _ _ _ h
   obtain⟨vs,h1,h2⟩:=c8u h
   rw[b5v]at h2
   exact⟨a1k e t::vs,by simp only[c8a,f5j,h1,d3w],h2⟩
 | .cell t n::r,k,h=>by
   rw[e8p]at h
   rw[b5v]at h
   have fin:∀ {v id off},a1k e t= .ptr id off->b7p H n (.ptr id off)=some v->(e7h H v fun v=>f3o e H r fun vs=>k (v::vs))->∃ vs,a9u e H (.cell t n::r)=some vs/\k (vs.map (toArg H)):=by
     intro v id off ht hl h
     have h:=c8o _ _ _ h
     obtain⟨vs,h1,h2⟩:=c8u h
     exact⟨v::vs,by simp only[c8a,e8i,ht,hl,h1,d3w],h2⟩
   split at h
   ·rename_i id off ht
    obtain⟨ob,ho,h⟩:=(a1t ..).1 h
    cases ob with
    |box c=>
     obtain⟨v,hv,h⟩:=(a9j ..).1 h
     exact fin ht (by simp only[d4u,ho,e2h,hv]) h
    |frz c=>
     obtain⟨v,hv,h⟩:=(a9j ..).1 h
     exact fin ht (by simp only[d4u,ho,e2d,hv]) h
    |_=>cases h
   ·cases h
noncomputable def e4i (res:List d1x) (n:Nat) (R:V->Hp->Prop):Ex->Kn->Env->Hp->Prop:=fun x _ e H=>match x with
  | .exit _=>False
  | .nrm=>f3o e H res fun vs=>chk (a0w n vs) (R (oneOf vs) H)
  | .ret=>f3o e H res fun vs=>chk (a0w n vs) (R (oneOf vs) H)
theorem b5j {res:List d1x} {n:Nat} {R:V->Hp->Prop} {x kn e H b} (h:e4i res n R x kn e H):∃ r,b9t false res n (some (x,⟨e,H,b⟩))=some (r,H.take n)/\R r H:=by
 have fin:(f3o e H res fun vs=>chk (a0w n vs) (R (oneOf vs) H))->∃ r,leave ⟨0,0,.skip,res,false⟩ n ⟨e,H,b⟩=some (r,H.take n)/\R r H:=by
   intro h
   obtain⟨vs,h1,h2⟩:=c8u h
   rw[a2o]at h2
   exact⟨_,by simp only[f5n,h1,f9n,h2.1,if_true],h2.2⟩
 cases x with
 |nrm=>exact fin h
 |ret=>exact fin h
 |exit i=>cases h
noncomputable def b0e (i:Nat) (l:List V):(Env->Prop)->Prop:=List.rec (motive:=fun _=>Nat->(Env->Prop)->Prop) (fun _ k=>k []) (fun v _ ih i k=>ih (i+1) fun e=>k ((i,v)::e)) l i
theorem a6x:∀ (i:Nat) (l:List V) (k:Env->Prop),b0e i l k=k (a6v i l)
 |_,[],_=>rfl
 |i,v::r,k=>a6x (i+1) r fun e=>k ((i,v)::e)
theorem a3v {f:Nat} {vf:VFn} (ht:pg.tbl f=some (.code vf)) {a:List V} (hn:a.length=vf.np) (hu:(a0w 0 a && !vf.keep)=true) {r:V} (h:b0e 0 a fun e=>wp pg 0 vf.body [] e [] (e4i vf.res 0 fun v _=>v=r)) (H:Hp):evF pg f a H=some (r,H):=by
  rw[a6x]at h
  obtain⟨x,kn,e,H',h1,_,h2⟩:=b8l (a3p.nil _) h
  obtain⟨r',h3,h4⟩:=b5j (b:=0) h2
  have hk:vf.keep=false:=by cases hh:vf.keep<;>simp_all
  refine f8o ht hn hu (h':=H'.take 0) ?_ H
  rw[a4o,h1,hk,h3,h4]
end
end Go.Vm
namespace Go.Vm
abbrev u8 (c:UInt8):V:= .d (.int .u8 c.toNat)
abbrev str (s:List UInt8):V:= .d (.str s)
abbrev i64 (n:Int):V:= .d (.int .i64 n)
abbrev boo (b:Bool):V:= .d (.bool b)
theorem b2t {α:Type} {l:List α} {n:Int} {d:α} (h:0<=n/\l[n.toNat]? =some d) {k:α->Prop} (hk:k d):∃ c,(0<=n/\l[n.toNat]? =some c)/\k c:=⟨d,h,hk⟩
theorem a1q {b:Bool} {X Y:Prop} (h:b=true) (x:X):(b=true->X)/\(b=false->Y):=⟨fun _=>x,fun e=>by rw[h]at e;cases e⟩
theorem a1v {b:Bool} {X Y:Prop} (h:b=false) (y:Y):(b=true->X)/\(b=false->Y):=⟨fun e=>by(rw[h]at e;cases e),fun _=>y⟩
theorem b7z {b:Bool} {X Y:Prop} (h:b=true) (x:X):(b=false->Y)/\(b=(!false)->X):=⟨fun e=>by(rw[h]at e;cases e),fun _=>x⟩
theorem c4q {b:Bool} {X Y:Prop} (h:b=false) (y:Y):(b=false->Y)/\(b=(!false)->X):=⟨fun _=>y,fun e=>by(rw[h]at e;cases e)⟩
theorem gt_t {b:Bool} {X Y:Prop} (h:b=true) (x:X):(b=true->X)/\(b=(!true)->Y):=⟨fun _=>x,fun e=>by(rw[h]at e;cases e)⟩
theorem gt_f {b:Bool} {X Y:Prop} (h:b=false) (y:Y):(b=true->X)/\(b=(!true)->Y):=⟨fun e=>by(rw[h]at e;cases e),fun _=>y⟩
theorem ca {x:Option (V×Hp)} {p:V->Hp->Prop} {r:V} {H:Hp} (h:x=some (r,H)) (k:p r H):∃ r H,x=some (r,H)/\p r H:=⟨r,H,h,k⟩
theorem d2k:∀ {c:List V} {n:Nat} {v:V},n < c.length->putAt c n [v]=c.set n v
 |[],n,v,h=>by simp at h
 |a::c,0,v,_=>by simp[putAt]
 |a::c,n+1,v,h=>by
  simp only[List.length_cons]at h
  simp only[putAt,List.set_cons_succ]
  rw[d2k om]
theorem e7i {α:Type} (f:α->V) {l:List α} {n:Nat} {a:α} (h:n < l.length):putAt (l.map f) n [f a]=(l.set n a).map f:=by
 rw[d2k (by rw[List.length_map];exact h),List.map_set]
theorem fz {c:List V} {ds:List D} {p:List D->Prop} (h:b6m c=some ds) (k:p ds):∃ ds,b6m c=some ds/\p ds:=⟨ds,h,k⟩
theorem fo {l:List V} {k:List V->Prop} (h:k l):a1g l k:=by rw[a0o];exact h
theorem foH {l:Hp} {k:Hp->Prop} (h:k l):a1g l k:=by rw[a0o];exact h
end Go.Vm
namespace Go.Vm
section
variable {pg:Pg} {b:Nat}
structure WQ (pg:Pg) (b:Nat) (c:a0e) (kn:Kn) (e:Env) (H:Hp) (Q:Ex->Kn->Env->Hp->Prop):Prop where
 imp:a3p kn e->∃ x kn' e' H',ev pg c ⟨e,H,b⟩=some (x,⟨e',H',b⟩)/\a3p kn' e'/\Q x kn' e' H'
structure KS (pg:Pg) (b:Nat) (d:a0e) (Q:Ex->Kn->Env->Hp->Prop) (x:Ex) (kn:Kn) (e:Env) (H:Hp):Prop where
 nrm:x= .nrm->WQ pg b d kn e H Q
 exit:∀ i,x= .exit i->Q (.exit i) kn e H
 ret:x= .ret->Q .ret kn e H
structure KB (id:Nat) (Q:Ex->Kn->Env->Hp->Prop) (x:Ex) (kn:Kn) (e:Env) (H:Hp):Prop where
 nrm:x= .nrm->Q .nrm kn e H
 hit:∀ i,x= .exit i->i.beq id=true->Q .nrm kn e H
 exit:∀ i,x= .exit i->i.beq id=false->Q (.exit i) kn e H
 ret:x= .ret->Q .ret kn e H
structure KL (P:Env->Hp->Prop) (Q:Ex->Kn->Env->Hp->Prop) (x:Ex) (e:Env) (H:Hp):Prop where
 nrm:x= .nrm->P e H
 exit:∀ i,x= .exit i->Q (.exit i) [] e H
 ret:x= .ret->Q .ret [] e H
variable {c d:a0e} {Q:Ex->Kn->Env->Hp->Prop} {kn:Kn} {e:Env} {H:Hp}
theorem h3g (h:WQ pg b d kn e H Q):KS pg b d Q .nrm kn e H:=by constructor<;>intros<;>simp_all
theorem g1m {i:Nat} (h:Q (.exit i) kn e H):KS pg b d Q (.exit i) kn e H:=by constructor<;>intros<;>simp_all
theorem h1w (h:Q .ret kn e H):KS pg b d Q .ret kn e H:=by constructor<;>intros<;>simp_all
theorem f8q {id:Nat} (h:Q .nrm kn e H):KB id Q .nrm kn e H:=by constructor<;>intros<;>simp_all
theorem f7v {id i:Nat} (hi:i.beq id=true) (h:Q .nrm kn e H):KB id Q (.exit i) kn e H:=by constructor<;>intros<;>simp_all
theorem e8t {id i:Nat} (hi:i.beq id=false) (h:Q (.exit i) kn e H):KB id Q (.exit i) kn e H:=by constructor<;>intros<;>simp_all
theorem f7h {id:Nat} (h:Q .ret kn e H):KB id Q .ret kn e H:=by constructor<;>intros<;>simp_all
theorem f8w {P:Env->Hp->Prop} (h:P e H):KL P Q .nrm e H:=by constructor<;>intros<;>simp_all
theorem e7a {P:Env->Hp->Prop} {i:Nat} (h:Q (.exit i) [] e H):KL P Q (.exit i) e H:=by constructor<;>intros<;>simp_all
theorem f7r {P:Env->Hp->Prop} (h:Q .ret [] e H):KL P Q .ret e H:=by constructor<;>intros<;>simp_all
theorem f0r (h:wp pg b c kn e H Q):WQ pg b c kn e H Q:=⟨fun hk=>b8l hk h⟩
theorem q_skip (h:Q .nrm kn e H):WQ pg b .skip kn e H Q:=⟨fun hk=>⟨_,_,_,_,rfl,hk,h⟩⟩
theorem q_exit {i:Nat} (h:Q (.exit i) kn e H):WQ pg b (.exit i) kn e H Q:=⟨fun hk=>⟨_,_,_,_,rfl,hk,h⟩⟩
theorem g1y (h:Q .ret kn e H):WQ pg b .ret kn e H Q:=⟨fun hk=>⟨_,_,_,_,rfl,hk,h⟩⟩
theorem q_reg {ops:List a0b} (h:wpOps pg b ops kn e H fun kn e H=>Q .nrm kn e H):WQ pg b (.reg ops) kn e H Q:=⟨fun hk=>by
  obtain⟨kn',e',H',h1,hk',h2⟩:=b3i hk h
  exact⟨_,kn',e',H',by rw[d2w,evR,h1];rfl,hk',h2⟩⟩
theorem e8l {m:Nat} {ops:List a0b} (h:b9u pg b m ops kn e H fun kn e H=>Q .nrm kn e H):WQ pg b (.draw m ops) kn e H Q:=⟨fun hk=>by
  obtain⟨kn',e',H',h1,hk',h2⟩:=a8q hk h
  exact⟨_,kn',e',H',d5r pg h1,hk',h2⟩⟩
theorem e8q (d:Nat) {m:Nat} {ops:List a0b} (hd:d < m) (hm:m<=ops.length) (h:d7g pg b d m ops kn e H fun kn e H=>Q .nrm kn e H):WQ pg b (.draw m ops) kn e H Q:=⟨fun hk=>by
  obtain⟨kn',e',H',h1,hk',h2⟩:=d6a hd hm hk h
  refine⟨.nrm,kn',e',H',?_,hk',h2⟩
  show(b1e pg.toCx (evF pg) m ops ⟨e,H,b⟩).map _=_
  rw[h1];rfl⟩
theorem g0y {a:Nat} {m:Nat} {ops:List a0b} (hm:m=a+3) (hs:d3s a ops=true) (h:b9u pg b (a+2) ops kn e H fun kn e H=>Q .nrm kn e H):WQ pg b (.draw m ops) kn e H Q:=⟨fun hk=>by
  obtain⟨kn',e',H',h1,hk',h2⟩:=a8q hk h
  refine⟨.nrm,kn',e',H',?_,hk',h2⟩
  show(b1e pg.toCx (evF pg) m ops ⟨e,H,b⟩).map _=_
  rw[a3e.2 ⟨a8r h1,.inr (.inr (.inr ⟨a,hm,hs,_,h1⟩))⟩];rfl⟩
def f7z (m:Nat) (ops:List a0b):Bool:=((ops.take m).all fun o=>match o.op with| .call .. | .callv .. | .app .. =>false|_=>true) && (Nat.ble m 2|| !d3s (m - 3) ops)
theorem g4l {m:Nat} {ops:List a0b} (_:f7z m ops=true) (h:b9u pg b m ops kn e H fun kn e H=>Q .nrm kn e H):WQ pg b (.draw m ops) kn e H Q:=e8l h
theorem h3z (h:WQ pg b c kn e H (KS pg b d Q)):WQ pg b (.seq c d) kn e H Q:=⟨fun hk=>by
  obtain⟨x,kn',e',H',h1,hk',h2⟩:=h.imp hk
  cases x with
  |nrm=>
   obtain⟨x2,kn2,e2,H2,h3,hk2,h4⟩:=(h2.nrm rfl).imp hk'
   exact⟨x2,kn2,e2,H2,by rw[b6e,h1,e6o,h3],hk2,h4⟩
  |exit i=>exact⟨_,kn',e',H',by rw[b6e,h1,d6d],hk',h2.exit _ rfl⟩
  |ret=>exact⟨_,kn',e',H',by rw[b6e,h1,e5u],hk',h2.ret rfl⟩⟩
theorem d8b (h:WQ pg b c kn e H Q):WQ pg b (.scope c) kn e H Q:=⟨fun hk=>by
  obtain⟨x,kn',e',H',h1,hk',h2⟩:=h.imp hk
  exact⟨x,kn',e',H',by rw[d9x,h1],hk',h2⟩⟩
theorem d5l {id:Nat} (h:WQ pg b c kn e H (KB id Q)):WQ pg b (.block id c) kn e H Q:=⟨fun hk=>by
  obtain⟨x,kn',e',H',h1,hk',h2⟩:=h.imp hk
  cases x with
  |nrm=>exact⟨_,kn',e',H',by rw[b0c,h1,e7j],hk',h2.nrm rfl⟩
  |ret=>exact⟨_,kn',e',H',by rw[b0c,h1,e6m],hk',h2.ret rfl⟩
  |exit i=>
   by_cases hi:i=id
   ·exact⟨_,kn',e',H',by rw[b0c,h1,c3e,if_pos hi],hk',h2.hit _ rfl (g6m hi)⟩
   ·exact⟨_,kn',e',H',by rw[b0c,h1,c3e,if_neg hi],hk',h2.exit _ rfl (f9u hi)⟩⟩
theorem q_cond {i:Nat} (h:match look kn i with
      |some true=>WQ pg b c kn e H Q
      |some false=>WQ pg b d kn e H Q
      |none=>match gE e i with
       | .d (.bool t)=>(t=true->WQ pg b c ((i,true)::kn) e H Q)/\(t=false->WQ pg b d ((i,false)::kn) e H Q)
       |_=>False):WQ pg b (.cond (.t i) c d) kn e H Q:=⟨fun hk=>by
  have yes:evO pg.toCx e (.t i)= .d (.bool true)->∀ {kn},a3p kn e->WQ pg b c kn e H Q->∃ x kn' e' H',ev pg (.cond (.t i) c d) ⟨e,H,b⟩=some (x,⟨e',H',b⟩)/\a3p kn' e'/\Q x kn' e' H':=by
   intro ht kn hk h
   obtain⟨x,kn',e',H',h1,hk',h2⟩:=h.imp hk
   exact⟨x,kn',e',H',by rw[b7c];simp only[ht,b1r,if_true];exact h1,hk',h2⟩
  have no:evO pg.toCx e (.t i)= .d (.bool false)->∀ {kn},a3p kn e->WQ pg b d kn e H Q->∃ x kn' e' H',ev pg (.cond (.t i) c d) ⟨e,H,b⟩=some (x,⟨e',H',b⟩)/\a3p kn' e'/\Q x kn' e' H':=by
   intro ht kn hk h
   obtain⟨x,kn',e',H',h1,hk',h2⟩:=h.imp hk
   exact⟨x,kn',e',H',by rw[b7c];simp only[ht,b1r];exact h1,hk',h2⟩
  split at h
  ·rename_i ht;exact yes (hk i _ ht) hk h
  ·rename_i ht;exact no (hk i _ ht) hk h
  ·rw[b5v]at h
   split at h
   ·rename_i t ht
    cases t with
    |true=>exact yes ht (hk.add ht) (h.1 rfl)
    |false=>exact no ht (hk.add ht) (h.2 rfl)
   ·cases h⟩
theorem e1d {sz t:Nat} (h:wp pg b (.newrow sz t) kn e H Q):WQ pg b (.newrow sz t) kn e H Q:=f0r h
theorem d3q {sz t o:Nat} (h:wp pg b (.bindrow sz t o) kn e H Q):WQ pg b (.bindrow sz t o) kn e H Q:=f0r h
theorem d9w {t:Nat} (h:wp pg b (.freeze t) kn e H Q):WQ pg b (.freeze t) kn e H Q:=f0r h
theorem e7d {sz:Nat} (h:wp pg b (.mkrow sz) kn e H Q):WQ pg b (.mkrow sz) kn e H Q:=f0r h
theorem e0b {t o k:Nat} (h:wp pg b (.bindto t o k) kn e H Q):WQ pg b (.bindto t o k) kn e H Q:=f0r h
theorem f8y {ks:List Nat} (h:c7k e ks fun e=>d4g pg b ks c e H Q):WQ pg b (.loop ks c) kn e H Q:=f0r h
theorem b3k {ks:List Nat} {α:Type} (μ:α->Nat) (E:α->Env) (Hf:α->Hp) (P:α->Prop)
 (step:∀ a,P a->d4x (Hf a) 0 fun n=>c7k (E a) ks fun e=>WQ pg n c [] e (Hf a) fun x _ e' H'=>KL (fun e' H'=>d7x n e' ks fun e2=>a1g (H'.take n) fun H2=> ∃ a',P a'/\μ a' < μ a/\e2=E a'/\H2=Hf a') Q x e' H') (a:α) (ha:P a) {e0:Env} {h0:Hp} (he:e0=E a) (hh:h0=Hf a):d4g pg b ks c e0 h0 Q:=by
 subst he;subst hh
 have key:∀ n,∀ a,μ a < n->P a->∃ x e' H',ev pg (.loop ks c) ⟨E a,Hf a,b⟩=some (x,⟨e',H',b⟩)/\Q x [] e' H':=by
  intro n
  induction n with
  |zero=>intro a h;omega
  |succ n ih=>
   intro a hn ha
   have st:=step a ha
   rw[a7k,b5b,Nat.zero_add]at st
   obtain⟨x,kn',e',H',h1,_,h2⟩:=st.imp (a3p.nil _)
   rw[b3u]
   simp only[h1]
   cases x with
   |nrm=>
    have h2:=h2.nrm rfl
    simp only[c3x,a0o]at h2
    obtain⟨a',h3,h4,h5,h6⟩:=h2
    simp only[d7q,h5,h6]
    exact ih a' om h3
   |exit i=>exact⟨_,e',H',rfl,h2.exit _ rfl⟩
   |ret=>exact⟨_,e',H',rfl,h2.ret rfl⟩
 unfold d4g
 exact key (μ a+1) a om ha
theorem b2d {f:Nat} {vf:VFn} (ht:pg.tbl f=some (.code vf)) {a:List V} (hn:a.length=vf.np) (hu:(a0w 0 a && !vf.keep)=true) {r:V} (h:b0e 0 a fun e=>WQ pg 0 vf.body [] e [] (e4i vf.res 0 fun v _=>v=r)) (H:Hp):evF pg f a H=some (r,H):=by
  rw[a6x]at h
  obtain⟨x,kn,e,H',h1,_,h2⟩:=h.imp (a3p.nil _)
  obtain⟨r',h3,h4⟩:=b5j (b:=0) h2
  have hk:vf.keep=false:=by cases hh:vf.keep<;>simp_all
  refine f8o ht hn hu (h':=H'.take 0) ?_ H
  rw[a4o,h1,hk,h3,h4]
theorem a3c {f:Nat} {vf:VFn} (ht:pg.tbl f=some (.code vf)) {a:List V} (hn:a.length=vf.np) (hk:vf.keep=false) (hu:a0w 0 a=false) {r:V} {H H2:Hp} (h:b0e 0 a fun e=>WQ pg H.length vf.body [] e H (e4i vf.res H.length fun v H'=>v=r/\H'.take H.length=H2)):evF pg f a H=some (r,H2):=by
  rw[a6x]at h
  obtain⟨x,kn,e,H',h1,_,h2⟩:=h.imp (a3p.nil _)
  obtain⟨r',h3,h4,h5⟩:=b5j (b:=H.length) h2
  rw[f8f ht hn (by rw[hu];rfl),a4o,h1,hk,h3,h4,h5]
end
end Go.Vm
namespace Go.Vm
section
variable {b:Bool} {X Y:Prop}
theorem b1 (x:X) (h:b=true:=by first|with_reducible rfl|exact rfl|exact decide_eq_true (by assumption)|assumption):(b=true->X)/\(b=false->Y):=a1q h x
theorem b2 (y:Y) (h:b=false:=by first|with_reducible rfl|exact rfl|exact decide_eq_false (by assumption)|assumption):(b=true->X)/\(b=false->Y):=a1v h y
theorem b3 (x:X) (h:b=true:=by first|with_reducible rfl|exact rfl|exact decide_eq_true (by assumption)|assumption):(b=false->Y)/\(b=(!false)->X):=b7z h x
theorem b4 (y:Y) (h:b=false:=by first|with_reducible rfl|exact rfl|exact decide_eq_false (by assumption)|assumption):(b=false->Y)/\(b=(!false)->X):=c4q h y
theorem b5 (x:X) (h:b=true:=by first|with_reducible rfl|exact rfl|exact decide_eq_true (by assumption)|assumption):(b=true->X)/\(b=(!true)->Y):=gt_t h x
theorem b6 (y:Y) (h:b=false:=by first|with_reducible rfl|exact rfl|exact decide_eq_false (by assumption)|assumption):(b=true->X)/\(b=(!true)->Y):=gt_f h y
end
theorem pk {α:Type} {l:List α} {n:Int} {d:α} {k:α->Prop} (hk:k d) (h:0<=n/\l[n.toNat]? =some d:=by exact⟨by first|decide|exact Int.NonNeg.mk _,rfl⟩):∃ c,(0<=n/\l[n.toNat]? =some c)/\k c:=⟨d,h,hk⟩
structure Left (P:Prop):Prop where
 f:P
theorem stp {P Q:Prop} (q:Q) (g:Q->P:=by
  first
   |exact h3z|exact d5l|exact q_reg|exact q_cond|exact q_exit|exact g1y|exact q_skip|exact d8b|exact e8l|exact f8y|exact e7d|exact e0b|exact d9w|exact e1d|exact d3q):P:=g q
theorem stpd {P Q:Prop} (q:Q) (g:Q->P:=by
  first
   |exact h3z|exact d5l|exact q_reg|exact q_cond|exact q_exit|exact g1y|exact q_skip|exact d8b|exact g4l rfl|exact f8y|exact e7d|exact e0b|exact d9w|exact e1d|exact d3q):P:=g q
theorem stq {P Q:Prop} (q:Q) (g:Q->P:=by
  first
   |exact h3g|exact g1m|exact h1w|exact f8q|exact f7v rfl|exact e8t rfl|exact f7h|exact f8w|exact e7a|exact f7r
   |exact And.intro (a9i _)
   |exact fun x=>b1 x|exact fun x=>b2 x|exact fun x=>b3 x|exact fun x=>b4 x|exact fun x=>b5 x|exact fun x=>b6 x
   |exact fun x=>pk x|exact And.intro rfl):P:=g q
theorem run {P Q:Prop} (q:Left Q) (h:Left Q->P:=by
  intro q
  first
   |((with_reducible show WQ _ _ _ _ _ _ _);refine stp ?_)
   |((conv=>whnf);first|(with_reducible show WQ _ _ _ _ _ _ _)|refine stq ?_)
  repeat' (first
    |((with_reducible show WQ _ _ _ _ _ _ _);refine stp ?_)
    |((conv=>whnf);first|(with_reducible show WQ _ _ _ _ _ _ _)|refine stq ?_)
    |fail)
  exact q.f):P:=h q
theorem h9p {P Q:Prop} (q:Left Q) (h:Left Q->P:=by
  intro q
  first
   |((with_reducible show WQ _ _ _ _ _ _ _);refine stpd ?_)
   |((fail_if_success (with_reducible show WQ _ _ _ _ _ _ _));(conv=>whnf);first|(with_reducible show WQ _ _ _ _ _ _ _)|refine stq ?_)
  repeat' (first
    |((with_reducible show WQ _ _ _ _ _ _ _);refine stpd ?_)
    |((fail_if_success (with_reducible show WQ _ _ _ _ _ _ _));(conv=>whnf);first|(with_reducible show WQ _ _ _ _ _ _ _)|refine stq ?_)
    |fail)
  exact q.f):P:=h q
end Go.Vm
namespace Go.Vm
theorem e1j {cx:Cx} {t t':Nat->Option a1j} (h:∀ f e,t f=some e->t' f=some e):∀ n,OLe (b0v ⟨cx,t⟩ n) (b0v ⟨cx,t'⟩ n)/\LLe (c2n ⟨cx,t⟩ n) (c2n ⟨cx,t'⟩ n)
 |0=>⟨fun _ _ _ _ h=>(nomatch ((a9e _ _ _ _).symm.trans h)),fun _ _ _ _ h=>(nomatch ((b1k _ _ _ _).symm.trans h))⟩
 |n+1=>by
  obtain⟨h1,h2⟩:=e1j (cx:=cx) h n
  refine⟨fun f a hh r hr=>?_,fun k b s r hr=>?_⟩
  ·rw[a5m,c1y]at hr⊢
   split at hr
   ·cases hr
   ·rename_i Fp ht
    rw[show(⟨cx,t'⟩:Pg).tbl f=some (.prim Fp)from h _ _ ht]
    exact hr
   ·rename_i vf ht
    rw[show(⟨cx,t'⟩:Pg).tbl f=some (.code vf)from h _ _ ht]
    split at hr
    ·rename_i hl
     show(if a.length=vf.np then _ else none)=some r
     rw[if_pos hl]
     refine d7b (fun h r hr=>?_) hr
     cases hx:evC cx (b0v ⟨cx,t⟩ n) (c2n ⟨cx,t⟩ n) vf.body ⟨a1a a,h,h.length⟩with
     |none=>rw[hx]at hr;cases hr
     |some q=>rw[hx]at hr;rw[a8b h1 h2 hx];exact hr
    ·cases hr
  ·rw[a9m]at hr⊢;exact a8b h1 h2 hr
theorem f9p {cx:Cx} {t t':Nat->Option a1j} (h:∀ f e,t f=some e->t' f=some e) {f:Nat} {a:List V} {H:Hp} {r:V×Hp} (he:evF ⟨cx,t⟩ f a H=some r):evF ⟨cx,t'⟩ f a H=some r:=by
 obtain⟨n,hn⟩:=a5t.1 he
 exact a5t.2 ⟨n,(e1j h n).1 _ _ _ _ hn⟩
end Go.Vm
namespace Go.Vm.Ip
def preB (s p:S):Bool:=decide (p.length<=s.length) && decide (s.take p.length=p)
def known (l:List S) (s:S):Bool:=(pos l s).isSome
def nam (l:List Nam) (s:S):Nam:=match pos (l.map Nam.n) s with
 |some i=>l.getD i default
 |none=>⟨[],[]⟩
end Go.Vm.Ip
namespace Go.Vm.Ite
def pgL (fx:Nat->Option Obj) (F:Nat->Option a1j):Pg:=⟨⟨fun _=>[],fx⟩,tbl F⟩
abbrev F0:Nat->Option a1j:=fun _=>none
theorem mv (fx:Nat->Option Obj):d2h (pgL fx F0):=h3m _ _ (fun _ _ h=>nomatch h)
theorem h0m (F:Nat->Option a1j):∀ f e,tbl F0 f=some e->tbl F f=some e:=by
 intro f e h
 unfold tbl at*
 split at h<;>first|exact h|cases h
theorem up {fx:Nat->Option Obj} {F:Nat->Option a1j} {f:Nat} {a:List V} {H:Hp} {r:V×Hp} (h:evF (pgL fx F0) f a H=some r):evF (pgL fx F) f a H=some r:=f9p (h0m F) h
end Go.Vm.Ite
namespace Go.Vm.Ite
open Go.Vm.Ip
abbrev d2s:Nat:=70
abbrev c2f:Nat:=99
abbrev b3p:Nat:=100
abbrev c6u:Nat:=124
class HL (F:Nat->Option a1j):Prop where
 utf:F 70=some (.prim c4i)
 dec:F 99=some (.prim b1h)
 ib:F 100=some (.prim a5r)
 par:F 124=some (.prim b2w)
section
variable {fx:Nat->Option Obj} {F:Nat->Option a1j}
theorem e6e [HL F]:(pgL fx F).tbl d2s=some (.prim c4i):=(HL.utf:F 70=_)
theorem d2q [HL F]:(pgL fx F).tbl c2f=some (.prim b1h):=(HL.dec:F 99=_)
theorem c4f [HL F]:(pgL fx F).tbl b3p=some (.prim a5r):=(HL.ib:F 100=_)
theorem d6m [HL F]:(pgL fx F).tbl c6u=some (.prim b2w):=(HL.par:F 124=_)
theorem g4o (s p:S) (H:Hp):evF (pgL fx F) a5y [str s,str p] H=some (boo (preB s p),H):=by
 refine b2d (a6a (F:=F)) rfl rfl ?_ H
 unfold preB
 by_cases h:p.length<=s.length
 ·have h':((p.length:Nat):Int)<=((s.length:Nat):Int):=om
  have hn:(0:Int)<=((p.length:Nat):Int):=om
  have hb:(0:Nat)<=((p.length:Nat):Int).toNat/\((p.length:Nat):Int).toNat<=s.length:=⟨Nat.zero_le _,h⟩
  repeat' (first|refine run ⟨?_⟩|refine And.intro hn ?_|refine And.intro hb ?_|fail)
  rw[decide_eq_true h,Bool.true_and];exact rfl
 ·have h':¬ ((p.length:Nat):Int)<=((s.length:Nat):Int):=om
  refine run ⟨?_⟩
  rw[decide_eq_false h];exact rfl
theorem g0x (s p:S):preB s p=Lib.hasPrefix s p:=by
 unfold preB Lib.hasPrefix
 rw[Bool.eq_iff_iff]
 simp only[Bool.and_eq_true,decide_eq_true_eq,List.isPrefixOf_iff_prefix]
 constructor
 ·rintro⟨_,h⟩
  exact⟨s.drop p.length,(congrArg (· ++s.drop p.length) h.symm).trans (List.take_append_drop ..)⟩
 ·rintro⟨t,rfl⟩
  simp
theorem i1g (H:Hp) (s p:S):evF (pgL fx F) b6o [str s,str p] H=some (boo (Lib.hasPrefix s p),H):=by
 rw[<-g0x]
 refine b2d (b6k (F:=F)) rfl rfl ?_ H
 have e1:=g4o (fx:=fx) (F:=F) s p
 repeat' (first|refine run ⟨?_⟩|refine ca (e1 _) ?_|fail)
 exact rfl
end
end Go.Vm.Ite
namespace Go.Vm.Lex
open Go.Vm.Ite
section
variable {fx:Nat->Option Obj} {F:Nat->Option a1j} [HL F] (H:Hp)
theorem e9w (c:UInt8):evF (pgL fx F) d1b [u8 c] H=some (boo (isL c),H):=by
 have _u:=(inferInstance:HL F)
 refine a3v (d1o (F:=F)) rfl rfl ?_ H
 repeat' refine And.intro (fun h=>?_) (fun h=>?_)
 all_goals show _=_
 all_goals simp[oneOf,isL]at*
 all_goals grind
theorem c0s (c:UInt8):evF (pgL fx F) c7a [u8 c] H=some (boo (isL c),H):=by
 have _u:=(inferInstance:HL F)
 refine a3v (c7d (F:=F)) rfl rfl ?_ H
 repeat' refine And.intro (fun h=>?_) (fun h=>?_)
 all_goals show _=_
 all_goals simp[oneOf,isL]at*
 all_goals grind
theorem d9c (c:UInt8):evF (pgL fx F) d6l [u8 c] H=some (boo (isD c),H):=by
 have _u:=(inferInstance:HL F)
 refine a3v (d7o (F:=F)) rfl rfl ?_ H
 repeat' refine And.intro (fun h=>?_) (fun h=>?_)
 all_goals show _=_
 all_goals simp[oneOf,isD]at*
 all_goals omega
theorem b9e (c:UInt8):evF (pgL fx F) d0l [u8 c] H=some (boo (isD c),H):=by
 have _u:=(inferInstance:HL F)
 refine a3v (c9d (F:=F)) rfl rfl ?_ H
 repeat' refine And.intro (fun h=>?_) (fun h=>?_)
 all_goals show _=_
 all_goals simp[oneOf,isD]at*
 all_goals grind
theorem g4h (s:List UInt8):evF (pgL fx F) e3f [str s] H=some (boo (b7n s),H):=by
 have _u:=(inferInstance:HL F)
 refine a3v (e4s (F:=F)) rfl rfl ?_ H
 repeat' refine And.intro (fun h=>?_) (fun h=>?_)
 all_goals show _=_
 all_goals simp only[decide_eq_true_eq,decide_eq_false_iff_not]at*
 all_goals simp[oneOf,b7n,b6b, *]
theorem a7v {α:Type} {s:List α} {i:Nat} (h:i < s.length) {k:α->Prop} (hk:k s[i]):∃ c,((0:Int)<=(i:Int)/\s[(i:Int).toNat]? =some c)/\k c:=
 ⟨s[i],⟨om,by rw[Int.toNat_natCast,List.getElem?_eq_getElem h]⟩,hk⟩
theorem f5u (s:List UInt8):evF (pgL fx F) d3p [str s] H=some (boo (b7n s),H):=by
 have _u:=(inferInstance:HL F)
 refine a3v (d1m (F:=F)) rfl rfl ?_ H
 refine wp_loop (α:=Nat) (fun i=>17 - i) (fun i=>[(0,str s),(5,.d (.sl (b6b.map .str))),(6,i64 17),(7,i64 i)]) (fun _=>[]) (fun i=>i<=17/\∀ x∈b6b.take i,s≠x) ?_ 0 ⟨om,by simp⟩
 rintro i ⟨hi,hall⟩
 refine And.intro (fun h=>?_) (fun h=>?_)
 ·replace h:=of_decide_eq_true h
  have hlt:i < b6b.length:=by show i < 17;omega
  have hlt':i < (b6b.map D.str).length:=by rw[List.length_map];exact hlt
  refine a7v hlt' ?_
  rw[List.getElem_map]
  refine And.intro rfl ?_
  refine And.intro (fun h=>?_) (fun h=>?_)
  ·replace h:=of_decide_eq_true h
   show _=_
   have:s∈b6b:=by rw[h];exact List.getElem_mem _
   simp[oneOf,b7n,this]
  ·replace h:=of_decide_eq_false h
   refine⟨i+1,⟨om,?_⟩,om,?_,rfl⟩
   ·intro x hx
    rw[List.take_add_one,List.mem_append]at hx
    rcases hx with hx|hx
    ·exact hall x hx
    ·rw[List.getElem?_eq_getElem hlt]at hx
     simp only[Option.toList_some,List.mem_singleton]at hx
     rw[hx];exact h
   ·rw[a2x om];rfl
 ·replace h:=of_decide_eq_false h
  have:i=17:=om
  subst this
  show _=_
  have:¬ s∈b6b:=fun h=>hall s (by rw[show b6b.take 17=b6b from rfl];exact h) rfl
  simp[oneOf,b7n,this]
theorem f1e {s:List UInt8} (h:s≠[]) {k:UInt8->Prop} (hk:k (hd0 s)):∃ c,((0:Int)<=0/\s[(0:Int).toNat]? =some c)/\k c:=by
 cases s with
 |nil=>exact absurd rfl h
 |cons c r=>exact⟨c,⟨Int.le_refl _,rfl⟩,hk⟩
end
end Go.Vm.Lex
namespace Go.Vm.Lex
def a9x:List (List UInt8):=[[58,58],[45,62],[61,62],[61,61],[33,61],[60,61],[62,61],[38,38],[124,124]]
def b8i:List UInt8:=[40,41,123,125,60,62,44,59,58,61,43,45,42,47,37,38,33,46,95]
def a2l (s:List UInt8):List UInt8:=if 1 < s.length/\s.take 2∈a9x then s.take 2 else if s≠[]/\hd0 s∈b8i then s.take 1 else[]
def wsB (c:UInt8):Bool:=decide (c=32\/c=9\/c=10\/c=13)
def a0c:Bool->List UInt8->Nat
 |_,[]=>0
 |false,c::r=>if wsB c then a0c false r+1 else if c=47/\r.head? =some 47 then a0c true r+1 else 0
 |true,c::r=>if c=10 then a0c false r+1 else a0c true r+1
theorem a2e:∀ (b:Bool) (s:List UInt8),a0c b s<=s.length
 |b,[]=>by cases b<;>simp[a0c]
 |false,c::r=>by
  have h1:=a2e false r;have h2:=a2e true r
  unfold a0c;repeat' split
  all_goals simp;try omega
 |true,c::r=>by
  have h1:=a2e false r;have h2:=a2e true r
  unfold a0c;repeat' split
  all_goals simp;try omega
theorem a2g (c:UInt8) (r:List UInt8):a0c false (c::r)=if wsB c then a0c false r+1 else if c=47/\r.head? =some 47 then a0c true r+1 else 0:=rfl
theorem a2s (c:UInt8) (r:List UInt8):a0c true (c::r)=if c=10 then a0c false r+1 else a0c true r+1:=rfl
theorem a7b (b:Bool):a0c b []=0:=by cases b<;>rfl
theorem g3z (b:UInt8) (l:List UInt8) (c:UInt8):Lib.indexByte (b::l) c=if b==c then 0 else if Lib.indexByte l c== -1 then -1 else Lib.indexByte l c+1:=rfl
theorem e8x:∀ l:List UInt8,a0c true l=if Lib.indexByte l 10= -1 then l.length else(Lib.indexByte l 10).toNat+a0c false (l.drop (Lib.indexByte l 10).toNat)
 |[]=>by simp[a7b,Lib.indexByte]
 |c::r=>by
  have ih:=e8x r
  have hg:=Lib.indexByte_ge r 10
  rw[a2s,g3z]
  by_cases hc:c=10
  ·subst hc;simp[a2g,wsB]
  ·by_cases hn:Lib.indexByte r 10= -1
   ·simp[hc,hn]at ih⊢;exact ih
   ·simp only[hc,hn,if_false,beq_iff_eq]at ih⊢
    have e1:(Lib.indexByte r 10+1).toNat=(Lib.indexByte r 10).toNat+1:=om
    have e2:¬ (Lib.indexByte r 10+1= -1):=om
    rw[if_neg e2,e1,List.drop_succ_cons,ih]
    generalize a0c false (List.drop (Lib.indexByte r 10).toNat r)=q
    omega
def dig (c:UInt8):Nat:=c.toNat - 48
def f0k (n:Nat) (s:List UInt8):Nat:=s.foldl (fun n c=>n*10+dig c) n
theorem b4p (n:Nat) (c:UInt8) (r:List UInt8):f0k n (c::r)=f0k (n*10+dig c) r:=List.foldl_cons ..
def b6w (s:List UInt8):Nat:=f0k 0 s
def b7y (s:List UInt8):Bool:=s.all isD && decide (b6w s<=9223372036854775807)
theorem d5t:∀ (s:List UInt8) (n:Nat),n<=f0k n s
 |[],n=>Nat.le_refl _
 |c::r,n=>by have:=d5t r (n*10+dig c);rw[b4p];omega
def g0i (n:Nat) (s:List UInt8) (r:Lib.NumEnd Nat):Prop:=match r with
 | .ok u=>s.all isD=true/\u=f0k n s
 |_=> ¬ (s.all isD=true/\f0k n s<=9223372036854775807)
theorem e8k {M:Nat} (hM:9223372036854775807<=M) (s:List UInt8):∀ (n:Nat),g0i n s (Lib.parseUintM M n s):=by
 induction s with
 |nil=>intro n;exact⟨rfl,rfl⟩
 |cons c r ih=>
  intro n
  have hge:=d5t r (n*10+dig c)
  have ih:=ih (n*10+dig c)
  unfold Lib.parseUintM
  rw[show c.toNat - 48=dig c from rfl]
  by_cases hd:48<=c.toNat/\c.toNat<=57
  ·have hD:isD c=true:=by simp[isD,hd]
   rw[if_pos hd]
   by_cases h1:1844674407370955162<=n
   ·rw[if_pos h1]
    show ¬ _
    rw[b4p];omega
   ·rw[if_neg h1]
    by_cases h2:M < n*10+dig c
    ·rw[if_pos h2]
     show ¬ _
     rw[b4p];omega
    ·rw[if_neg h2]
     have e:(c::r).all isD=r.all isD:=by rw[List.all_cons,hD,Bool.true_and]
     cases hr:Lib.parseUintM M (n*10+dig c) r with
     |ok u=>rw[hr]at ih;exact⟨by rw[e];exact ih.1,ih.2.trans (b4p ..).symm⟩
     |_=>rw[hr]at ih;show ¬ _;rw[e,b4p];exact ih
  ·rw[if_neg hd]
   show ¬ ((c::r).all isD=true/\_)
   have e:isD c=false:=by simp[isD];omega
   simp[e]
structure Tk where
 k:Int
 t:List UInt8
 v:Int
 n:Nat
 e:Int
def a1b (w:List UInt8->Nat) (s:List UInt8):Tk:=
 if 0 < a2h s/\isD (hd0 s)=true then(if b7y (s.take (a2h s)) then⟨3,s.take (a2h s),b6w (s.take (a2h s)),a2h s,0⟩ else⟨0,[],0,a2h s,112⟩)
 else if 0 < a2h s/\s.take (a2h s)≠[95] then(if 64 < a2h s then⟨0,[],0,a2h s,2⟩ else⟨if b7n (s.take (a2h s)) then 2 else 1,s.take (a2h s),0,a2h s,0⟩)
 else if a2l s≠[] then⟨4,a2l s,0,(a2l s).length,0⟩
 else⟨0,[],0,w s,111⟩
def szN (c:UInt8):Nat:=if 194<=c.toNat/\c.toNat<=223 then 2 else if 224<=c.toNat/\c.toNat<=239 then 3 else if 240<=c.toNat/\c.toNat<=244 then 4 else 0
def c6s (c:UInt8):Nat:=if c.toNat=224 then 160 else if c.toNat=240 then 144 else 128
def c7b (c:UInt8):Nat:=if c.toNat=237 then 159 else if c.toNat=244 then 143 else 191
def a1u (b:UInt8):Bool:=decide (128<=b.toNat/\b.toNat<=191)
def hd1:List UInt8->UInt8
 |_::b::_=>b
 |_=>0
def szL (s:List UInt8):Nat:=
 if s=[] then 0
 else if(hd0 s).toNat < 128 then 1
 else if szN (hd0 s)=0 then 0
 else if s.length < szN (hd0 s)\/(hd1 s).toNat < c6s (hd0 s)\/c7b (hd0 s) < (hd1 s).toNat then 0
 else if((s.take (szN (hd0 s))).drop 2).all a1u then szN (hd0 s) else 0
theorem g9b (c:UInt8):szN c=0\/(2<=szN c/\szN c<=4):=by
 unfold szN
 repeat' split
 all_goals omega
theorem b6h (s:List UInt8):szL s<=s.length:=by
 unfold szL
 repeat' split
 all_goals first|omega|skip
 rename_i h _
 cases s with
 |nil=>exact absurd rfl h
 |cons c r=>simp
theorem a9s (s:List UInt8) (h:¬ (s=[]\/szL s=0)):(s.drop (szL s)).length < s.length:=by
 have:s.length≠0:=fun e=>h (.inl (List.length_eq_zero_iff.1 e))
 rw[List.length_drop];omega
def strange (at_:Nat) (s:List UInt8):Int:=if h:s=[]\/szL s=0 then(if s=[] then -1 else(at_:Int)) else strange (at_+szL s) (s.drop (szL s))
termination_by s.length
decreasing_by exact a9s s h
theorem a2w (at_:Nat):strange at_ []= -1:=by rw[strange];simp
theorem a6i (at_:Nat) {s:List UInt8} (h:s≠[]) (h0:szL s=0):strange at_ s=at_:=by rw[strange];simp[h,h0]
theorem a5h (at_:Nat) {s:List UInt8} (h:s≠[]) (h0:szL s≠0):strange at_ s=strange (at_+szL s) (s.drop (szL s)):=by rw[strange];simp[h,h0]
end Go.Vm.Lex
namespace Go.Vm.Lex
open Go.Vm.Ite
section
variable {fx:Nat->Option Obj} {F:Nat->Option a1j} [HL F] (H:Hp)
theorem h1y (s:List UInt8) (hs:s.length<=maxLen):evF (pgL fx F) e8n [str s] H=some (i64 (a2h s:Nat),H):=by
 have hm:s.length<=9223372036854775807:=hs
 refine a3v (e7w (F:=F)) rfl rfl ?_ H
 refine wp_loop (α:=Nat) (fun i=>s.length - i) (fun i=>[(0,str s),(3,i64 i)]) (fun _=>[]) (fun i=>i<=s.length/\i+a2h (s.drop i)=a2h s) ?_ 0 ⟨om,by simp⟩
 rintro i ⟨hi,hr⟩
 refine And.intro (fun hl=>?_) (fun hl=>?_)
 ·replace hl:=of_decide_eq_true hl
  have hlt:i < s.length:=om
  rw[d1a (List.getElem?_eq_getElem hlt)]at hr
  repeat' (first
      |(refine And.intro (fun h=>?_) (fun h=>?_)<;>try(exfalso;(have h1:=h;simp_all;done)))
      |refine a7v hlt ?_
      |refine Exists.intro _ (Exists.intro _ (And.intro (e9w _ _) ?_))
      |refine Exists.intro _ (Exists.intro _ (And.intro (d9c _ _) ?_)))
  all_goals first
    |(show _=_
      have:c0l s[i]=false:=by simp_all[c0l]
      rw[this]at hr
      simp at hr
      simp[oneOf,hr];done)
    |(have:c0l s[i]=true:=by simp_all[c0l]
      rw[this]at hr
      simp at hr
      refine⟨i+1,⟨om,om⟩,om,?_,rfl⟩
      rw[a2x om];rfl)
 ·replace hl:=of_decide_eq_false hl
  rw[d8p om]at hr
  repeat' (refine And.intro (fun h=>?_) (fun h=>?_)<;>try(exfalso;simp at h;done))
  all_goals show _=_
  all_goals simp[oneOf]
  all_goals omega
theorem d6s (s:List UInt8) (at_:Nat) (ha:at_<=s.length) (hs:s.length<=maxLen):evF (pgL fx F) d7s [str s,i64 at_] H=some (i64 (at_+a2h (s.drop at_):Nat),H):=by
 have hm:s.length<=9223372036854775807:=hs
 refine a3v (d6x (F:=F)) rfl rfl ?_ H
 refine wp_loop (α:=Nat) (fun i=>s.length - i) (fun i=>[(0,str s),(1,i64 i)]) (fun _=>[]) (fun i=>i<=s.length/\i+a2h (s.drop i)=at_+a2h (s.drop at_)) ?_ at_ ⟨om,by simp⟩
 rintro i ⟨hi,hr⟩
 refine And.intro (fun hl=>?_) (fun hl=>?_)
 ·replace hl:=of_decide_eq_true hl
  have hlt:i < s.length:=om
  rw[d1a (List.getElem?_eq_getElem hlt)]at hr
  repeat' (first
      |(refine And.intro (fun h=>?_) (fun h=>?_)<;>try(exfalso;(have h1:=h;simp_all;done)))
      |refine a7v hlt ?_
      |refine Exists.intro _ (Exists.intro _ (And.intro (c0s _ _) ?_))
      |refine Exists.intro _ (Exists.intro _ (And.intro (b9e _ _) ?_)))
  all_goals first
    |(show _=_
      have:c0l s[i]=false:=by simp_all[c0l]
      rw[this]at hr
      simp at hr
      simp[oneOf,hr];done)
    |(have:c0l s[i]=true:=by simp_all[c0l]
      rw[this]at hr
      simp at hr
      refine⟨i+1,⟨om,om⟩,om,?_,rfl⟩
      rw[a2x om];rfl)
 ·replace hl:=of_decide_eq_false hl
  rw[d8p om]at hr
  repeat' (refine And.intro (fun h=>?_) (fun h=>?_)<;>try(exfalso;simp at h;done))
  all_goals show _=_
  all_goals simp[oneOf]
  all_goals omega
theorem g8l (s:List UInt8):evF (pgL fx F) e9d [str s] H=some (boo (decide (s∈a9x)),H):=by
 have _u:=(inferInstance:HL F)
 refine a3v (e9o (F:=F)) rfl rfl ?_ H
 repeat' refine And.intro (fun h=>?_) (fun h=>?_)
 all_goals show _=_
 all_goals simp only[decide_eq_true_eq,decide_eq_false_iff_not]at*
 all_goals simp[oneOf,a9x, *]
theorem g0g (s:List UInt8) (c:UInt8):evF (pgL fx F) b3p [str s,u8 c] H=some (i64 (Lib.indexByte s c),H):=by
 rw[b1z (c4f (F:=F))]
 show some (V.d (D.int .i64 (Lib.indexByte s ((c.toNat:Int)).toNat.toUInt8)),H)=_
 simp
theorem e7k (s:List UInt8) (c:UInt8):0<=Lib.indexByte s c↔c∈s:=by
 have hg:=Lib.indexByte_ge s c
 constructor
 ·intro h
  have:=(Lib.indexByte_some (o:=(Lib.indexByte s c).toNat) (l:=s) (c:=c) om).1
  exact List.mem_of_getElem? this
 ·intro h
  apply Classical.byContradiction
  intro hn
  have h1:Lib.indexByte s c= -1:=om
  obtain⟨k,hk⟩:=List.mem_iff_getElem?.1 h
  exact Lib.indexByte_none h1 k hk
theorem f1l (s:List UInt8):evF (pgL fx F) e4c [str s] H=some (str (a2l s),H):=by
 refine a3v (e4a (F:=F)) rfl rfl ?_ H
 cases s with
 |nil=>
  repeat' (refine And.intro (fun h=>?_) (fun h=>?_)<;>try(exfalso;simp at h;done))
  all_goals rfl
 |cons c r=>
  repeat' (first
      |(refine And.intro (fun h=>?_) (fun h=>?_)<;>try(exfalso;(simp at h;done)))
      |refine And.intro ⟨Nat.zero_le _,by first|(simp;done)|(simp at*;omega)⟩ ?_
      |refine f1e (by simp) ?_
      |refine Exists.intro _ (Exists.intro _ (And.intro (g8l _ _) ?_))
      |refine Exists.intro _ (Exists.intro _ (And.intro (g0g _ _ _) ?_)))
  all_goals show _=_
  all_goals simp only[decide_eq_true_eq,decide_eq_false_iff_not,e7k,List.drop_zero,gt_iff_lt,ge_iff_le]at*
  all_goals simp_all[oneOf,a2l,hd0,b8i]
  all_goals intros
  all_goals first|omega|(subst_vars;simp at*;done)
end
end Go.Vm.Lex
namespace Go.Vm.Lex
open Go.Vm.Ite
section
variable {fx:Nat->Option Obj} {F:Nat->Option a1j} [HL F] (H:Hp)
theorem f9j (c:UInt8):c∈([32,9,10,13]:List UInt8)↔wsB c=true:=by simp[wsB]
theorem c1k (s:List UInt8) (i:Nat):List.drop (Int.toNat (i:Int)) (List.take s.length s)=s.drop i:=by simp
theorem e6u (c:UInt8) (r:List UInt8):Lib.hasPrefix (c::r) [47,47]=true↔c=47/\r.head? =some 47:=by
 cases r with
 |nil=>simp[Lib.hasPrefix,List.isPrefixOf]
 |cons d r=>simp[Lib.hasPrefix,List.isPrefixOf];constructor<;>(rintro⟨rfl,rfl⟩;exact⟨rfl,rfl⟩)
theorem d4m (c:UInt8) (r:List UInt8) (h:c=47/\r.head? =some 47):a0c false (c::r)=a0c true (c::r):=by
 obtain⟨rfl,h⟩:=h
 rw[a2g,a2s,h];simp[wsB]
theorem e6a (s:List UInt8) (hs:s.length<=maxLen) (at_:Nat) (ha:at_<=s.length):evF (pgL fx F) c8b [str s,i64 at_] H=some (i64 ((at_+a0c false (s.drop at_):Nat)),H):=by
 have hm:s.length<=9223372036854775807:=hs
 refine a3v (e2k (F:=F)) rfl rfl ?_ H
 generalize hT:at_+a0c false (s.drop at_)=T
 refine wp_loop (α:=Nat) (fun i=>s.length - i) (fun i=>[(0,str s),(1,i64 i)]) (fun _=>[]) (fun i=>i<=s.length/\i+a0c false (s.drop i)=T) ?_ at_ ⟨ha,hT⟩
 clear hT ha at_
 rintro i ⟨hi,hr⟩
 refine And.intro (fun hl=>?_) (fun hl=>?_)
 ·replace hl:=of_decide_eq_true hl
  have hlt:i < s.length:=om
  have hd:s.drop i=s[i]::s.drop (i+1):=List.drop_eq_getElem_cons hlt
  have hle:=a2e false (s.drop i)
  rw[List.length_drop]at hle
  refine a7v hlt ?_
  refine Exists.intro _ (Exists.intro _ (And.intro (g0g _ _ _) ?_))
  refine And.intro (fun h=>?_) (fun h=>?_)
  ·replace h:=(e7k _ _).1 (of_decide_eq_true h)
   rw[f9j]at h
   refine⟨i+1,⟨om,?_⟩,om,?_,rfl⟩
   ·rw[hd,a2g,if_pos h]at hr;omega
   ·rw[a2x om];rfl
  replace h:=fun e=>(of_decide_eq_false h) ((e7k _ _).2 ((f9j _).2 e))
  refine And.intro om ?_
  refine And.intro ⟨om,om⟩ ?_
  refine Exists.intro _ (Exists.intro _ (And.intro (i1g _ _ _) ?_))
  refine And.intro (fun h2=>?_) (fun h2=>?_)
  ·rw[c1k,hd,e6u]at h2
   have hr2:i+a0c true (s.drop i)=T:=by rw[<-hr,hd,d4m _ _ h2]
   rw[e8x]at hr2
   have hg:=Lib.indexByte_ge (s.drop i) 10
   refine And.intro om ?_
   refine And.intro ⟨om,om⟩ ?_
   refine Exists.intro _ (Exists.intro _ (And.intro (g0g _ _ 10) ?_))
   refine And.intro (fun h3=>?_) (fun h3=>?_)
   ·rw[c1k]at h3
    replace h3:=of_decide_eq_true h3
    rw[if_pos om,List.length_drop]at hr2
    show _=_
    simp only[oneOf]
    congr 3
    omega
   ·rw[c1k]at h3
    replace h3:=of_decide_eq_false h3
    rw[if_neg om]at hr2
    have hpos:Lib.indexByte (s.drop i) 10≠0:=by
     intro e
     have:=(Lib.indexByte_some (o:=0) (by rw[e];rfl:Lib.indexByte (s.drop i) 10=((0:Nat):Int))).1
     rw[hd]at this
     simp[h2.1]at this
    have hlen:=(List.getElem?_eq_some_iff.1 (Lib.indexByte_some (o:=(Lib.indexByte (s.drop i) 10).toNat) (l:=s.drop i) (c:=10) om).1).1
    rw[List.length_drop]at hlen
    refine⟨i+(Lib.indexByte (s.drop i) 10).toNat,⟨om,?_⟩,om,?_,rfl⟩
    ·rw[List.drop_drop]at hr2;omega
    ·rw[c1k,a2x om]
     congr 3
     simp;omega
  ·rw[c1k,hd,<-Bool.not_eq_true,e6u]at h2
   rw[hd,a2g,if_neg h,if_neg h2]at hr
   show _=_
   simp only[oneOf]
   congr 3
 ·replace hl:=of_decide_eq_false hl
  rw[List.drop_eq_nil_of_le om,a7b]at hr
  show _=_
  simp only[oneOf]
  congr 3
end
end Go.Vm.Lex
namespace Go.Vm.Lex
open Go.Vm.Ite
section
variable {fx:Nat->Option Obj} {F:Nat->Option a1j} [HL F] (H:Hp)
theorem f9d (c d:UInt8):c=d↔c.toNat=d.toNat:=UInt8.toNat_inj.symm
theorem d5y {s:List UInt8} {i:Nat} (hm:s.length<=9223372036854775807) (h:i+1 < s.length) {k:UInt8->Prop} (hk:k s[i+1]):∃ c,(0<=IntKind.i64.wrap ((i:Int)+1)/\s[(IntKind.i64.wrap ((i:Int)+1)).toNat]? =some c)/\k c:=by
 rw[a2x om]
 exact⟨_,⟨om,by rw[show((i:Int)+1).toNat=i+1 by omega,List.getElem?_eq_getElem h]⟩,hk⟩
set_option maxHeartbeats 2000000 in
theorem e0n (s:List UInt8) (hs:s.length<=maxLen) (at_:Nat) (ha:at_<=s.length):evF (pgL fx F) b9l [str s,i64 at_] H=some (i64 ((at_+a0c false (s.drop at_):Nat)),H):=by
 have _u:=(inferInstance:HL F)
 have hm:s.length<=9223372036854775807:=hs
 clear hs
 refine a3v (c9a (F:=F)) rfl rfl ?_ H
 generalize hT:at_+a0c false (s.drop at_)=T
 refine wp_loop (α:=Nat) (fun i=>s.length - i) (fun i=>[(0,str s),(1,i64 i)]) (fun _=>[]) (fun i=>i<=s.length/\i+a0c false (s.drop i)=T) ?_ at_ ⟨ha,hT⟩
 clear hT ha at_
 rintro i ⟨hi,hr⟩
 refine And.intro (fun hl=>?_) (fun hl=>?_)
 ·replace hl:=of_decide_eq_true hl
  have hlt:i < s.length:=om
  have hd:s.drop i=s[i]::s.drop (i+1):=List.drop_eq_getElem_cons hlt
  have w:wsB s[i]=true↔(s[i].toNat=32\/s[i].toNat=9\/s[i].toNat=10\/s[i].toNat=13):=by simp[wsB,f9d]
  have q:s[i]=47↔s[i].toNat=47:=f9d _ 47
  have ew:IntKind.i64.wrap ((i:Int)+1)=(i:Int)+1:=a2x om
  refine a7v hlt ?_
  repeat' (first
      |(refine And.intro (fun h=>?_) (fun h=>?_)<;>try(exfalso;(simp at h;done)))
      |refine d5y hm (by(have hx:¬ (IntKind.i64.wrap ((i:Int)+1)=(s.length:Int)):=of_decide_eq_false (by assumption));omega) ?_)
  all_goals simp only[Bool.not_true,Bool.not_false,Bool.not_eq_true',Bool.not_eq_false',decide_eq_true_eq,decide_eq_false_iff_not]at*
  all_goals first
    |(refine⟨i+1,⟨om,?_⟩,om,?_,rfl⟩
      ·rw[hd,a2g,if_pos (w.2 om)]at hr;omega
      ·rw[ew];rfl)
    |(show _=_
      have hn:¬ (s[i]=47/\(s.drop (i+1)).head? =some 47):=by
       rintro⟨h1,h2⟩
       rw[q]at h1
       rw[List.head?_drop]at h2
       obtain⟨h3,h4⟩:=List.getElem?_eq_some_iff.1 h2
       have h5:(s[i+1]'h3).toNat=47:=by rw[h4];rfl
       omega
      rw[hd,a2g,if_neg (fun e=>by have:=w.1 e;omega),if_neg hn]at hr
      simp only[oneOf]
      congr 3;done)
    |skip
  have hlt2:i+1 < s.length:=by
   have hx:¬ (IntKind.i64.wrap ((i:Int)+1)=(s.length:Int)):=of_decide_eq_false (by assumption)
   omega
  have hh:s[i]=47/\(s.drop (i+1)).head? =some 47:=by
   refine⟨q.2 om,?_⟩
   rw[List.head?_drop,List.getElem?_eq_getElem hlt2]
   congr 1
   rw[f9d]
   show s[i+1].toNat=47
   omega
  have hr2:i+a0c true (s.drop i)=T:=by rw[<-hr,hd,d4m _ _ hh]
  refine wp_loop (α:=Nat) (fun j=>s.length - j) (fun j=>[(0,str s),(1,i64 j)]) (fun _=>[]) (fun j=>i<=j/\j<=s.length/\j+a0c true (s.drop j)=T) ?_ i ⟨om,om,hr2⟩
  rintro j ⟨h1,h2,h3⟩
  refine And.intro (fun hj=>?_) (fun hj=>?_)
  ·replace hj:=of_decide_eq_true hj
   have hjt:j < s.length:=om
   have hdj:s.drop j=s[j]::s.drop (j+1):=List.drop_eq_getElem_cons hjt
   have qj:s[j]=10↔s[j].toNat=10:=f9d _ 10
   refine a7v hjt ?_
   rw[hdj,a2s]at h3
   refine And.intro (fun h=>?_) (fun h=>?_)
   ·simp only[Bool.not_eq_true',decide_eq_false_iff_not]at h
    rw[if_neg (fun e=>h (by rw[qj.1 e];rfl))]at h3
    refine⟨j+1,⟨om,om,om⟩,om,?_,rfl⟩
    rw[a2x om];rfl
   ·simp only[Bool.not_eq_false',decide_eq_true_eq]at h
    have h10:s[j]=10:=qj.2 om
    rw[if_pos h10]at h3
    have hne:i≠j:=by rintro rfl;omega
    refine⟨j,⟨om,?_⟩,om,rfl,rfl⟩
    rw[hdj,a2g,if_pos (by simp[wsB,h10])];omega
  ·replace hj:=of_decide_eq_false hj
   rw[List.drop_eq_nil_of_le om,a7b]at h3
   repeat' (refine And.intro (fun h=>?_) (fun h=>?_)<;>try(exfalso;simp at h;done))
   all_goals
    refine⟨j,⟨om,?_⟩,om,rfl,rfl⟩
    rw[List.drop_eq_nil_of_le om,a7b];omega
 ·replace hl:=of_decide_eq_false hl
  rw[List.drop_eq_nil_of_le om,a7b]at hr
  show _=_
  simp only[oneOf]
  congr 3
end
end Go.Vm.Lex
namespace Go.Vm.Lex
open Go.Vm.Ite
def tkD (k:Int) (t:List UInt8) (v f e:Int):D:= .agg [.int .i64 k,.str t,.int .i64 v,.int .i64 f,.int .i64 e]
def dgD (c f e:Int):D:= .agg [.int .i64 c,.int .i64 f,.int .i64 e]
def wD (s:List UInt8):Nat:=(d7f ⟨s.toArray⟩).2
def h5k (s:List UInt8):V:= .tup [.d (tkD (if b7y s then 3 else 0) (if b7y s then s else[]) (if b7y s then b6w s else 0) 0 0),i64 (if b7y s then 0 else 112)]
def f5t (s:List UInt8):V:= .tup [.d (tkD (a1b wD s).k (a1b wD s).t (a1b wD s).v 0 0),i64 (a1b wD s).n,i64 (a1b wD s).e]
section
variable {fx:Nat->Option Obj} {F:Nat->Option a1j} [HL F] (H:Hp)
theorem e9u (s:List UInt8) (hs:s.length<=281474976710656) (h0:s≠[]):evF (pgL fx F) d1l [str s] H=some (h5k s,H):=by
 have key:=e8k (M:=18446744073709551615) om s 0
 have hp:Lib.parseUintB 64 s=Lib.parseUintM 18446744073709551615 0 s:=by unfold Lib.parseUintB;rw[if_neg h0]
 have hpr:∀ H:Hp,evF (pgL fx F) c6u [str s,i64 10,i64 64] H=(match Lib.parseUintB 64 s with
       | .ok u=>some (.tup [.d (.int .u64 u),.ifc true],H)
       | .range=>some (.tup [.d (.int .u64 18446744073709551615),.ifc false],H)
       |_=>some (.tup [.d (.int .u64 0),.ifc false],H)):=by
   intro H
   rw[b1z (d6m (F:=F))]
   exact if_pos ⟨⟨rfl,rfl⟩,hs⟩
 rw[hp]at hpr
 refine a3v (d2d (F:=F)) rfl rfl ?_ H
 cases hr:Lib.parseUintM 18446744073709551615 0 s with
 |ok u=>
  rw[hr]at hpr key
  obtain⟨k1,k2⟩:=key
  refine Exists.intro _ (Exists.intro _ (And.intro (hpr _) ?_))
  by_cases hu:u<=9223372036854775807
  ·have hn:b7y s=true:=by simp[b7y,k1];show f0k 0 s<=_;omega
   repeat' (refine And.intro (fun h=>?_) (fun h=>?_)<;>try(exfalso;simp at h;done))
   all_goals first
     |(exfalso;have h1:=of_decide_eq_true h;omega)
     |(show _=_
       simp only[oneOf,h5k,hn,if_true,tkD]
       rw[a2x om,k2];rfl)
  ·have hn:b7y s=false:=by simp[b7y,k1];show _ < f0k 0 s;omega
   repeat' (refine And.intro (fun h=>?_) (fun h=>?_)<;>try(exfalso;simp at h;done))
   all_goals first
     |(exfalso;have h1:=of_decide_eq_false h;omega)
     |(show _=_
       simp only[oneOf,h5k,hn,tkD];rfl)
 |_=>
  rw[hr]at hpr key
  refine Exists.intro _ (Exists.intro _ (And.intro (hpr _) ?_))
  have hn:b7y s=false:=by
   cases hb:b7y s with
   |false=>rfl
   |true=>simp[b7y]at hb;exact absurd ⟨List.all_eq_true.2 hb.1,hb.2⟩ key
  repeat' (refine And.intro (fun h=>?_) (fun h=>?_)<;>try(exfalso;simp at h;done))
  all_goals
   show _=_
   simp only[oneOf,h5k,hn,tkD];try rfl
theorem f8v (s:List UInt8):evF (pgL fx F) c2f [str s] H=some (.tup [.d (.int .i32 (d7f ⟨s.toArray⟩).1),i64 (wD s)],H):=by
 rw[b1z (d2q (F:=F))];try rfl
theorem f3q (s:List UInt8) (hs:s.length<=281474976710656):evF (pgL fx F) c6b [str s] H=some (f5t s,H):=by
 have hm:s.length<=maxLen:=by unfold maxLen;omega
 have hrl:=a9p s
 have e1:List.drop 0 (List.take (Int.toNat ((a2h s:Nat):Int)) s)=s.take (a2h s):=by simp
 refine a3v (d6r (F:=F)) rfl rfl ?_ H
 refine Exists.intro _ (Exists.intro _ (And.intro (h1y _ _ hm) ?_))
 by_cases hr:0 < a2h s
 ·have hne:s≠[]:=by rintro rfl;simp[a2h]at hr
  refine And.intro (fun h=>?_) (fun h=>?_)
  ·refine f1e hne ?_
   refine Exists.intro _ (Exists.intro _ (And.intro (d9c _ _) ?_))
   refine And.intro (fun hd=>?_) (fun hd=>?_)
   ·refine And.intro om ?_
    refine And.intro ⟨om,om⟩ ?_
    have htn:s.take (a2h s)≠[]:=by
     intro e;rw[List.take_eq_nil_iff]at e;rcases e with e|e;omega;exact hne e
    refine Exists.intro _ (Exists.intro _ (And.intro (e9u _ _ (by rw[e1,List.length_take];omega) (by rw[e1];exact htn)) ?_))
    show _=_
    rw[e1]
    simp only[oneOf,f5t,a1b,if_pos (And.intro hr hd),tkD]
    cases b7y (s.take (a2h s))<;>rfl
   ·have hd':¬ (0 < a2h s/\isD (hd0 s)=true):=by rw[hd];simp
    refine And.intro (fun h3=>?_) (fun h3=>?_)
    ·refine And.intro om ?_
     refine And.intro ⟨om,om⟩ ?_
     refine And.intro (fun h4=>?_) (fun h4=>?_)
     ·rw[e1]at h4
      simp only[Bool.not_eq_true',decide_eq_false_iff_not]at h4
      refine And.intro om ?_
      refine And.intro ⟨om,om⟩ ?_
      refine Exists.intro _ (Exists.intro _ (And.intro (g4h _ _) ?_))
      rw[e1]
      refine And.intro (fun h5=>?_) (fun h5=>?_)
      all_goals
       refine And.intro (fun h6=>?_) (fun h6=>?_)
       ·replace h6:=of_decide_eq_true h6
        show _=_
        simp only[oneOf,f5t,a1b,if_neg hd',if_pos (And.intro hr h4),if_pos (show 64 < a2h s by omega),tkD];try rfl
       ·replace h6:=of_decide_eq_false h6
        refine And.intro om ?_
        refine And.intro ⟨om,om⟩ ?_
        show _=_
        rw[e1]
        simp only[oneOf,f5t,a1b,if_neg hd',if_pos (And.intro hr h4),if_neg (show ¬ 64 < a2h s by omega),h5,tkD];try rfl
     ·rw[e1]at h4
      simp only[Bool.not_eq_false',decide_eq_true_eq]at h4
      have h4':¬ (0 < a2h s/\s.take (a2h s)≠[95]):=fun e=>e.2 h4
      refine Exists.intro _ (Exists.intro _ (And.intro (f1l _ _) ?_))
      refine And.intro (fun h7=>?_) (fun h7=>?_)
      ·simp only[Bool.not_eq_true',decide_eq_false_iff_not]at h7
       show _=_
       simp only[oneOf,f5t,a1b,if_neg hd',if_neg h4',if_pos h7,tkD];try rfl
      ·simp only[Bool.not_eq_false',decide_eq_true_eq]at h7
       refine Exists.intro _ (Exists.intro _ (And.intro (f8v _ _) ?_))
       show _=_
       simp only[oneOf,f5t,a1b,if_neg hd',if_neg h4',h7,tkD,ne_eq,not_true,if_false];try rfl
    ·exfalso;simp at h3;omega
  ·exfalso;simp at h;omega
 ·have hd':¬ (0 < a2h s/\isD (hd0 s)=true):=fun e=>hr e.1
  have h4':¬ (0 < a2h s/\s.take (a2h s)≠[95]):=fun e=>hr e.1
  repeat' (first|(refine And.intro (fun h=>?_) (fun h=>?_)<;>first|(exfalso;simp at h;done)|(exfalso;simp at h;omega)|skip))
  refine Exists.intro _ (Exists.intro _ (And.intro (f1l _ _) ?_))
  refine And.intro (fun h7=>?_) (fun h7=>?_)
  ·simp only[Bool.not_eq_true',decide_eq_false_iff_not]at h7
   show _=_
   simp only[oneOf,f5t,a1b,if_neg hd',if_neg h4',if_pos h7,tkD];try rfl
  ·simp only[Bool.not_eq_false',decide_eq_true_eq]at h7
   refine Exists.intro _ (Exists.intro _ (And.intro (f8v _ _) ?_))
   show _=_
   simp only[oneOf,f5t,a1b,if_neg hd',if_neg h4',h7,tkD,ne_eq,not_true,if_false];try rfl
theorem b7f (c f e:Int):evF (pgL fx F) d4t [i64 c,i64 f,i64 e] H=some (.d (dgD c f e),H):=by
 have _u:=(inferInstance:HL F)
 refine a3v (d3f (F:=F)) rfl rfl ?_ H
 rfl
end
end Go.Vm.Lex
namespace Go.Vm.Lex
open Go.Vm.Ite
theorem c6x {s:List UInt8} {i:Nat} (h:i < s.length):b6w (s.take (i+1))=b6w (s.take i) *10+dig s[i]:=by
 unfold b6w f0k
 rw[List.take_add_one,List.getElem?_eq_getElem h,List.foldl_append];rfl
theorem e9k {s:List UInt8} (i:Nat):b6w (s.take i)<=b6w s:=by
 have h:b6w s=f0k (b6w (s.take i)) (s.drop i):=by
  unfold b6w f0k
  rw[<-List.foldl_append,List.take_append_drop]
 rw[h];exact d5t _ _
section
variable {fx:Nat->Option Obj} {F:Nat->Option a1j} [HL F] (H:Hp)
theorem e2i (s:List UInt8) (hs:s.length<=maxLen) (hd:s.all isD=true):∃ v:Int,(b7y s=true->v=b6w s)/\∀ H:Hp,evF (pgL fx F) b6g [str s] H=some (.tup [i64 v,boo (b7y s)],H):=by
 have _u:=(inferInstance:HL F)
 have hm:s.length<=9223372036854775807:=hs
 have hnb:b7y s=decide (b6w s<=9223372036854775807):=by simp[b7y,hd]
 have hdig:∀ i (h:i < s.length),48<=s[i].toNat/\s[i].toNat<=57:=by
  intro i h
  have:=List.all_eq_true.1 hd s[i] (List.getElem_mem _)
  simpa [isD] using this
 have key:∀ v:Int,(∃ j,j < s.length/\922337203685477580 < b6w (s.take j))/\v=0\/(∀ j,j < s.length->b6w (s.take j)<=922337203685477580)/\v=IntKind.i64.wrap (b6w s)->∀ H:Hp,evF (pgL fx F) b6g [str s] H=some (.tup [i64 v,boo (b7y s)],H):=by
  intro v hv H
  refine a3v (c6y (F:=F)) rfl rfl ?_ H
  refine wp_loop (α:=Nat) (fun i=>s.length - i) (fun i=>[(0,str s),(4,.d (.int .u64 (b6w (s.take i)))),(5,i64 i)]) (fun _=>[]) (fun i=>i<=s.length/\∀ j,j < i->b6w (s.take j)<=922337203685477580) ?_ 0 ⟨om,om⟩
  rintro i ⟨hi,hall⟩
  refine And.intro (fun hl=>?_) (fun hl=>?_)
  ·replace hl:=of_decide_eq_true hl
   have hlt:i < s.length:=om
   refine And.intro (fun h=>?_) (fun h=>?_)
   ·replace h:=of_decide_eq_true h
    have h1:=c6x hlt
    have h2:=e9k (s:=s) (i+1)
    have hb:b7y s=false:=by rw[hnb];simp;omega
    have hv0:v=0:=by
     rcases hv with⟨_,e⟩|⟨e,_⟩
     ·exact e
     ·have:=e i hlt;omega
    show _=_
    rw[hb,hv0];rfl
   ·replace h:=of_decide_eq_false h
    refine a7v hlt ?_
    obtain⟨d1,d2⟩:=hdig i hlt
    have h1:=c6x hlt
    have hdg:dig s[i]=s[i].toNat - 48:=rfl
    refine⟨i+1,⟨om,fun j hj=>?_⟩,om,?_,rfl⟩
    ·by_cases e:j=i
     ·subst e;omega
     ·exact hall j om
    ·rw[a2x om,h9s (n:=(b6w (s.take i):Int) *10) om,u8w om,h9s (n:=(s[i].toNat:Int) - 48) om,h9s om,h1,hdg]
     have e9:((b6w (s.take i):Int) *10+((s[i].toNat:Int) - 48))=((b6w (s.take i) *10+(s[i].toNat - 48):Nat):Int):=om
     rw[e9];rfl
  ·replace hl:=of_decide_eq_false hl
   have hi':i=s.length:=om
   subst hi'
   rw[List.take_length]
   have hv1:v=IntKind.i64.wrap (b6w s):=by
    rcases hv with⟨⟨j,h1,h2⟩,_⟩|⟨_,e⟩
    ·have:=hall j h1;omega
    ·exact e
   show _=_
   have eb:decide ((b6w s:Int)<=9223372036854775807)=decide (b6w s<=9223372036854775807):=by simp only[decide_eq_decide];omega
   rw[hv1,hnb,<-eb]
   rfl
 by_cases hx:∃ j,j < s.length/\922337203685477580 < b6w (s.take j)
 ·refine⟨0,fun h=>?_,key 0 (.inl ⟨hx,rfl⟩)⟩
  obtain⟨j,h1,h2⟩:=hx
  have h3:=c6x h1
  have h4:=e9k (s:=s) (j+1)
  rw[hnb]at h;simp at h;omega
 ·refine⟨IntKind.i64.wrap (b6w s),fun h=>?_,key _ (.inr ⟨fun j hj=>Nat.le_of_not_lt fun h=>hx ⟨j,hj,h⟩,rfl⟩)⟩
  rw[hnb]at h;simp at h
  exact a2x om
def e4l (s:List UInt8) (a:Nat):V:=
 if b7y ((s.drop a).take (a2h (s.drop a))) then .tup [.d (tkD 3 ((s.drop a).take (a2h (s.drop a))) (b6w ((s.drop a).take (a2h (s.drop a)))) a (a+a2h (s.drop a):Nat)),.d (dgD 0 0 0)]
 else .tup [.d (tkD 0 [] 0 0 0),.d (dgD 112 a (a+a2h (s.drop a):Nat))]
theorem e1t (s:List UInt8) (a n:Nat):List.drop (Int.toNat (a:Int)) (List.take (Int.toNat ((a+n:Nat):Int)) s)=(s.drop a).take n:=by
 simp only[Int.toNat_natCast]
 rw[List.drop_take];congr 1;omega
theorem c6j (s:List UInt8) (hs:s.length<=maxLen) (a:Nat) (ha:a<=s.length):evF (pgL fx F) c2y [str s,i64 a] H=some (e4l s a,H):=by
 have hm:s.length<=9223372036854775807:=hs
 have hrl:=a9p (s.drop a)
 rw[List.length_drop]at hrl
 refine a3v (c2p (F:=F)) rfl rfl ?_ H
 refine Exists.intro _ (Exists.intro _ (And.intro (d6s _ _ _ ha hs) ?_))
 generalize hn:a2h (s.drop a)=n at*
 refine wp_loop (α:=Nat) (fun i=>a+n - i) (fun i=>[(0,str s),(1,i64 a),(4,.ptr 0 0),(5,.ptr 1 0),(6,i64 (a+n:Nat)),(7,i64 i)]) (fun _=>[.box [.d (.int .i64 0),.d (.str []),.d (.int .i64 0),.d (.int .i64 0),.d (.int .i64 0)],.box [.d (.int .i64 0),.d (.int .i64 0),.d (.int .i64 0)]]) (fun i=>a<=i/\i<=a+n/\((s.drop a).take (i - a)).all isD=true) ?_ a ⟨om,om,by simp⟩
 rintro i ⟨h1,h2,hall⟩
 refine And.intro (fun hl=>?_) (fun hl=>?_)
 ·replace hl:=of_decide_eq_true hl
  have hlt:i < s.length:=om
  have hget:(s.drop a)[i - a]? =some s[i]:=by rw[List.getElem?_drop,show a+(i - a)=i by omega,List.getElem?_eq_getElem hlt]
  refine a7v hlt ?_
  refine Exists.intro _ (Exists.intro _ (And.intro (b9e _ _) ?_))
  refine And.intro (fun h=>?_) (fun h=>?_)
  ·refine Exists.intro _ (Exists.intro _ (And.intro (b7f _ _ _ _) ?_))
   have hb:b7y ((s.drop a).take n)=false:=by
    cases hb:b7y ((s.drop a).take n)with
    |false=>rfl
    |true=>
     simp only[b7y,Bool.and_eq_true,List.all_eq_true]at hb
     have:=hb.1 s[i] (List.mem_iff_getElem?.2 ⟨i - a,by rw[List.getElem?_take,if_pos om];exact hget⟩)
     rw[this]at h;cases h
   show _=_
   simp only[oneOf,e4l,hn,hb];rfl
  ·have hD:isD s[i]=true:=by simpa using h
   refine⟨i+1,⟨om,om,?_⟩,om,?_,rfl⟩
   ·rw[show i+1 - a=(i - a)+1 by omega,List.take_add_one,hget,List.all_append,hall]
    simp[hD]
   ·rw[a2x om];rfl
 ·replace hl:=of_decide_eq_false hl
  have hi:i - a=n:=om
  rw[hi]at hall
  refine And.intro om ?_
  refine And.intro om ?_
  refine And.intro ⟨om,om⟩ ?_
  rw[e1t]
  obtain⟨v,hv,hev⟩:=e2i (fx:=fx) (F:=F) ((s.drop a).take n) (by rw[List.length_take,List.length_drop];unfold maxLen;omega) hall
  refine Exists.intro _ (Exists.intro _ (And.intro (hev _) ?_))
  refine And.intro (fun h=>?_) (fun h=>?_)
  ·refine Exists.intro _ (Exists.intro _ (And.intro (b7f _ _ _ _) ?_))
   have hb:b7y ((s.drop a).take n)=false:=by simpa using h
   show _=_
   simp only[oneOf,e4l,hn,hb];rfl
  ·have hb:b7y ((s.drop a).take n)=true:=by simpa using h
   refine And.intro om ?_
   refine And.intro om ?_
   refine And.intro ⟨om,om⟩ ?_
   rw[e1t]
   show _=_
   simp only[oneOf,e4l,hn,hb,hv hb];rfl
def g7c (s:List UInt8) (a:Nat):V:=
 if 64 < a2h (s.drop a) then .tup [.d (tkD 0 [] 0 0 0),.d (dgD 2 a (a+a2h (s.drop a):Nat))]
 else .tup [.d (tkD (if b7n ((s.drop a).take (a2h (s.drop a))) then 2 else 1) ((s.drop a).take (a2h (s.drop a))) 0 a (a+a2h (s.drop a):Nat)),.d (dgD 0 0 0)]
theorem d9q (s:List UInt8) (hs:s.length<=maxLen) (a:Nat) (ha:a<=s.length):evF (pgL fx F) d0h [str s,i64 a] H=some (g7c s a,H):=by
 have hm:s.length<=9223372036854775807:=hs
 have hrl:=a9p (s.drop a)
 rw[List.length_drop]at hrl
 refine a3v (c9u (F:=F)) rfl rfl ?_ H
 refine Exists.intro _ (Exists.intro _ (And.intro (d6s _ _ _ ha hs) ?_))
 generalize hn:a2h (s.drop a)=n at*
 have ew:IntKind.i64.wrap (((a+n:Nat):Int) - (a:Int))=(n:Int):=by rw[a2x om];omega
 refine And.intro (fun h=>?_) (fun h=>?_)
 ·replace h:=of_decide_eq_true h
  rw[ew]at h
  refine Exists.intro _ (Exists.intro _ (And.intro (b7f _ _ _ _) ?_))
  show _=_
  simp only[oneOf,g7c,hn,if_pos (show 64 < n by omega)];rfl
 ·replace h:=of_decide_eq_false h
  rw[ew]at h
  refine And.intro om ?_
  refine And.intro om ?_
  refine And.intro ⟨om,om⟩ ?_
  rw[e1t]
  refine Exists.intro _ (Exists.intro _ (And.intro (f5u _ _) ?_))
  refine And.intro (fun h5=>?_) (fun h5=>?_)
  all_goals
   refine And.intro om ?_
   refine And.intro om ?_
   refine And.intro ⟨om,om⟩ ?_
   rw[e1t]
   show _=_
   simp only[oneOf,g7c,hn,if_neg (show ¬ 64 < n by omega),h5];rfl
end
end Go.Vm.Lex
namespace Go.Vm.Lex
theorem c3j (s:List UInt8) (i k:Nat):((⟨s.toArray⟩:ByteArray).get! (i+k))=(s.drop i).getD k 0:=by
 show(s.toArray)[i+k]! =_
 simp only[List.getElem!_toArray,List.getD_eq_getElem?_getD,List.getElem?_drop]
 rw[getElem!_def]
 cases h:s[i+k]? <;>simp<;>rfl
set_option maxHeartbeats 2000000 in
theorem f8t (s:List UInt8) (i:Nat) (hi:i < s.length):(Utf8.decode ⟨s.toArray⟩ i=(65533,1)↔szL (s.drop i)=0)/\(szL (s.drop i)≠0->(Utf8.decode ⟨s.toArray⟩ i).2=szL (s.drop i)):=by
 rw[Lib.decode_at]
 have e0:=c3j s i 0
 rw[c3j,c3j,c3j]
 rw[Nat.add_zero]at e0
 rw[e0]
 have hsz:(⟨s.toArray⟩:ByteArray).size - i=(s.drop i).length:=by simp[ByteArray.size]
 rw[hsz]
 have hne:s.drop i≠[]:=by intro h;have:=congrArg List.length h;simp at this;omega
 generalize s.drop i=l at hne
 cases l with
 |nil=>exact absurd rfl hne
 |cons c r=>
  have b0:=c.toNat_lt
  have hl:(c::r).length=r.length+1:=rfl
  rw[hl]
  simp only[List.getD_cons_zero,List.getD_cons_succ]
  have hb:∀ k,(r.getD k 0).toNat < 256:=fun k=>UInt8.toNat_lt _
  have b1:=hb 0;have b2:=hb 1;have b3:=hb 2
  -- what stands behind the lead byte
  have h1:(hd1 (c::r))=r.getD 0 0:=by cases r<;>rfl
  have a2:((c::r).take 2).drop 2=[]:=by simp
  have a3:(((c::r).take 3).drop 2).all a1u=(decide (r.length < 2)||a1u (r.getD 1 0)):=by
   match r with
   |[]=>rfl
   |[_]=>rfl
   |_::x::t=>simp[show ¬ (t.length+1+1 < 2)by omega]
  have a4:(((c::r).take 4).drop 2).all a1u=((decide (r.length < 2)||a1u (r.getD 1 0)) && (decide (r.length < 3)||a1u (r.getD 2 0))):=by
   match r with
   |[]=>rfl
   |[_]=>rfl
   |[_,x]=>simp
   |_::x::y::t=>simp[show ¬ (t.length+1+1+1 < 2)by omega,show ¬ (t.length+1+1+1 < 3)by omega]
  unfold szL
  rw[if_neg (List.cons_ne_nil _ _),h1]
  simp only[hd0,hl]
  generalize r.getD 0 0=x1 at*
  generalize r.getD 1 0=x2 at*
  generalize r.getD 2 0=x3 at*
  generalize r.length=n at*
  by_cases c1:c.toNat < 128
  ·simp[Lib.decodeN,c1]
   omega
  rw[if_neg c1]
  have hN:szN c=0/\(c.toNat < 194\/244 < c.toNat)\/szN c=2/\194<=c.toNat/\c.toNat<=223\/szN c=3/\224<=c.toNat/\c.toNat<=239\/szN c=4/\240<=c.toNat/\c.toNat<=244:=by
   unfold szN
   repeat' split
   all_goals omega
  rcases hN with⟨hN,hc⟩|⟨hN,hc⟩|⟨hN,hc⟩|⟨hN,hc⟩
  ·simp only[hN,if_true]
   refine⟨⟨fun _=>trivial,fun _=>?_⟩,fun h=>absurd rfl h⟩
   unfold Lib.decodeN
   repeat' split
   all_goals first|rfl|(exfalso;omega)
  ·simp only[hN,a2,c6s,c7b,List.all_nil,if_true]
   unfold Lib.decodeN
   repeat' split
   all_goals first|(exfalso;omega)|(simp;done)|(simp;omega)
  ·simp only[hN,a3,c6s,c7b,a1u,Bool.or_eq_true,decide_eq_true_eq]
   unfold Lib.decodeN
   repeat' split
   all_goals first|(exfalso;omega)|(simp;done)|(simp;omega)
  ·simp only[hN,a4,c6s,c7b,a1u,Bool.or_eq_true,Bool.and_eq_true,decide_eq_true_eq]
   unfold Lib.decodeN
   repeat' split
   all_goals first|(exfalso;omega)|(simp;done)|(simp;omega)
end Go.Vm.Lex
namespace Go.Vm.Lex
open Go.Vm.Ite
section
variable {fx:Nat->Option Obj} {F:Nat->Option a1j} [HL F] (H:Hp)
theorem d8d (s:List UInt8) (a n:Nat):List.drop (Int.toNat (a:Int)) (List.take (Int.toNat ((a:Int)+n)) s)=(s.drop a).take n:=by
 rw[show((a:Int)+n).toNat=a+n by omega,Int.toNat_natCast,List.drop_take];congr 1;omega
theorem c3s (s:List UInt8) (a:Nat) (ha:a < s.length) (hs:a+2<=9223372036854775807):evF (pgL fx F) d3d [str s,i64 a] H=some (str (a2l (s.drop a)),H):=by
 have _u:=(inferInstance:HL F)
 have hd:s.drop a=s[a]::s.drop (a+1):=List.drop_eq_getElem_cons ha
 have hl1:1 < (s.drop a).length↔a+2<=s.length:=by rw[List.length_drop];omega
 refine a3v (d2t (F:=F)) rfl rfl ?_ H
 refine wp_loop (α:=Nat) (fun i=>9 - i) (fun i=>[(0,str s),(1,i64 a),(9,.d (.sl (a9x.map .str))),(10,i64 9),(11,i64 i)]) (fun _=>[]) (fun i=>i<=9/\∀ x∈a9x.take i,¬ (a+2<=s.length/\(s.drop a).take 2=x)) ?_ 0 ⟨om,by simp⟩
 rintro i ⟨hi,hall⟩
 refine And.intro (fun hl=>?_) (fun hl=>?_)
 ·replace hl:=of_decide_eq_true hl
  have hlt:i < a9x.length:=by show i < 9;omega
  have hlt':i < (a9x.map D.str).length:=by rw[List.length_map];exact hlt
  refine a7v hlt' ?_
  rw[List.getElem_map]
  refine And.intro rfl ?_
  have ew:IntKind.i64.wrap ((a:Int)+2)=(a:Int)+2:=a2x om
  have next:¬ (a+2<=s.length/\(s.drop a).take 2=a9x[i])->∀ x∈a9x.take (i+1),¬ (a+2<=s.length/\(s.drop a).take 2=x):=by
   intro hn x hx
   rw[List.take_add_one,List.mem_append]at hx
   rcases hx with hx|hx
   ·exact hall x hx
   ·rw[List.getElem?_eq_getElem hlt]at hx
    simp only[Option.toList_some,List.mem_singleton]at hx
    rw[hx];exact hn
  refine And.intro (fun h=>?_) (fun h=>?_)
  ·replace h:=of_decide_eq_true h
   rw[ew]at h
   refine And.intro om ?_
   refine And.intro (by rw[ew];omega) ?_
   refine And.intro ⟨by rw[ew];omega,by rw[ew];omega⟩ ?_
   refine And.intro (fun h2=>?_) (fun h2=>?_)
   ·replace h2:=of_decide_eq_true h2
    rw[ew,show((a:Int)+2)=(a:Int)+(2:Nat)from rfl,d8d]at h2
    show _=_
    simp only[oneOf]
    unfold a2l
    rw[if_pos ⟨hl1.2 om,by rw[h2];exact List.getElem_mem _⟩,h2]
   ·replace h2:=of_decide_eq_false h2
    rw[ew,show((a:Int)+2)=(a:Int)+(2:Nat)from rfl,d8d]at h2
    refine⟨i+1,⟨om,next fun e=>h2 e.2⟩,om,?_,rfl⟩
    rw[a2x om];rfl
  ·replace h:=of_decide_eq_false h
   rw[ew]at h
   refine And.intro (fun h2=>?_) (fun h2=>?_)
   ·cases h2
   ·refine⟨i+1,⟨om,next fun e=>om⟩,om,?_,rfl⟩
    rw[a2x om];rfl
 ·replace hl:=of_decide_eq_false hl
  have hi9:i=9:=om
  subst hi9
  have hno:¬ (1 < (s.drop a).length/\(s.drop a).take 2∈a9x):=by
   rintro⟨h1,h2⟩
   exact hall _ (by rw[show a9x.take 9=a9x from rfl];exact h2) ⟨hl1.1 h1,rfl⟩
  obtain⟨fz,hfz⟩:∃ fz,fz=b8i.map fun c=>D.int .u8 c.toNat:=⟨_,rfl⟩
  refine Exists.intro (.arr 0 0 19) (Exists.intro [.frz fz] (And.intro (by rw[hfz];rfl) ?_))
  refine Exists.intro (.arr 0 0 19) (Exists.intro [.frz fz] (And.intro rfl ?_))
  refine wp_loop (α:=Nat) (fun j=>19 - j) (fun j=>[(0,str s),(1,i64 a),(32,.arr 0 0 19),(33,i64 19),(34,i64 j)]) (fun _=>[.frz fz]) (fun j=>j<=19/\∀ x∈b8i.take j,s[a]≠x) ?_ 0 ⟨om,by simp⟩
  rintro j ⟨hj,hjall⟩
  refine And.intro (fun hl=>?_) (fun hl=>?_)
  ·replace hl:=of_decide_eq_true hl
   have hjt:j < b8i.length:=by show j < 19;omega
   refine And.intro ⟨om,om⟩ ?_
   have hnth:(List.map V.d fz)[0+Int.toNat (j:Int) *1]? =some (V.d (.int .u8 b8i[j].toNat)):=by
    rw[show 0+Int.toNat (j:Int) *1=j by omega,hfz]
    simp[hjt]
   refine d0d hnth ?_
   refine a7v ha ?_
   refine And.intro (fun h=>?_) (fun h=>?_)
   ·replace h:=of_decide_eq_true h
    have hc:s[a]=b8i[j]:=by rw[f9d];omega
    have ew:IntKind.i64.wrap ((a:Int)+1)=(a:Int)+1:=a2x om
    refine And.intro om ?_
    refine And.intro (by rw[ew];omega) ?_
    refine And.intro ⟨by rw[ew];omega,by rw[ew];omega⟩ ?_
    rw[ew,show((a:Int)+1)=(a:Int)+(1:Nat)from rfl,d8d]
    show _=_
    simp only[oneOf]
    unfold a2l
    rw[if_neg hno,if_pos ⟨by rw[hd];exact List.cons_ne_nil _ _,by rw[hd];show s[a]∈b8i;rw[hc];exact List.getElem_mem _⟩]
   ·replace h:=of_decide_eq_false h
    refine⟨j+1,⟨om,fun x hx=>?_⟩,om,?_,rfl⟩
    ·rw[List.take_add_one,List.mem_append]at hx
     rcases hx with hx|hx
     ·exact hjall x hx
     ·rw[List.getElem?_eq_getElem hjt]at hx
      simp only[Option.toList_some,List.mem_singleton]at hx
      rw[hx];intro e;rw[e]at h;exact h rfl
    ·rw[a2x om];rfl
  ·replace hl:=of_decide_eq_false hl
   have hj9:j=19:=om
   subst hj9
   show _=_
   simp only[oneOf]
   unfold a2l
   rw[if_neg hno,if_neg (by
     rintro⟨_,h2⟩
     rw[hd]at h2
     exact hjall _ (by rw[show b8i.take 19=b8i from rfl];exact h2) rfl)]
end
end Go.Vm.Lex
