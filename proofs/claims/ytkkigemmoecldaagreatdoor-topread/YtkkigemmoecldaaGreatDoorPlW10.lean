import Derived.Test.YtkkigemmoecldaaGreatDoorVmWp
import Derived.Lib.IndexLaws
import Derived.Lib.DecodeN
set_option maxRecDepth 100000
set_option maxHeartbeats 0
set_option linter.unusedVariables false
set_option linter.unusedSimpArgs false
namespace Go.Vm
section
variable (pg:Pg)
noncomputable def yd (kn:List (Nat×Bool)) (dst:Option Nat) (v:V) (e:Env) (H:Hp) (k:List (Nat×Bool)->Env->Hp->Prop):Prop:=match dst with
 |some d=>da (forget kn d) fun kn=>k kn ((d,v)::e) H
 |none=>k kn e H
noncomputable def goK (b:Nat) (dst:Option Nat) (op:ij) (kn:List (Nat×Bool)) (e:Env) (H:Hp) (k:List (Nat×Bool)->Env->Hp->Prop):Prop:=
 match op with
 | .mv (.c (.d (.bool t)))=>(match dst with
   |some d=>da (forget kn d) fun kn=>k ((d,t)::kn) ((d,.d (.bool t))::e) H
   |none=>k kn e H)
 | .mv (.t i)=>(match dst,look kn i with
   |some d,some t=>da (forget kn d) fun kn=>k ((d,t)::kn) ((d,.d (.bool t))::e) H
   |dst,_=>pt (gE e i) fun v=>yd kn dst v e H k)
 |op=>wpO pg kn b e H op fun v H'=>yd kn dst v e H' k
noncomputable def mG (b:Nat) (o:aL) (kn:List (Nat×Bool)) (e:Env) (H:Hp) (k:List (Nat×Bool)->Env->Hp->Prop):Prop:=match o with
 |⟨dst,op,none⟩=>goK pg b dst op kn e H k
 |⟨dst,op,some (g,bb)⟩=>match look kn g with
  |some t=>match t,bb with
   |true,true=>goK pg b dst op kn e H k
   |false,false=>goK pg b dst op kn e H k
   |true,false=>yd kn dst (.tup []) e H k
   |false,true=>yd kn dst (.tup []) e H k
  |none=>match gE e g with
   | .tup []=>yd kn dst (.tup []) e H k
   | .d (.bool t)=>(t=bb->goK pg b dst op ((g,bb)::kn) e H k)/\(t=(!bb)->yd ((g,!bb)::kn) dst (.tup []) e H k)
   |_=>False
abbrev Kn:=List (Nat×Bool)
noncomputable def wpOps (b:Nat) (l:List aL):Kn->Env->Hp->(Kn->Env->Hp->Prop)->Prop:=List.rec (motive:=fun _=>Kn->Env->Hp->(Kn->Env->Hp->Prop)->Prop) (fun kn e H K=>K kn e H) (fun o _ ih kn e H K=>mG pg b o kn e H fun kn e H=>ih kn e H K) l
noncomputable def a2e (p:Bool) (H H':Hp) (q:Prop):Prop:=match p with|true=>q|false=>grew H H'=true/\q
noncomputable def HT (d:Option Nat) (e:Env) (H:Hp) (q:Prop):Prop:=match d with|some d=>jw ((gE e d).und H.length) q|none=>q
noncomputable def vv (b:Nat) (m:Nat) (l:List aL):Kn->Env->Hp->(Kn->Env->Hp->Prop)->Prop:=List.rec (motive:=fun _=>Nat->Kn->Env->Hp->(Kn->Env->Hp->Prop)->Prop) (fun _ kn e H K=>K kn e H) (fun o _ ih m kn e H K=>mG pg b o kn e H fun kn e' H'=>match m with
  |0=>ih 0 kn e' H' K
  |m+1=>a2e (oZ o.op) H H' (HT o.dst e' H' (ih m kn e' H' K))) l m
noncomputable def Xj (b:Nat) (l:List aL):(Hp->Prop->Prop)->Kn->Env->Hp->((Hp->Prop->Prop)->Kn->Env->Prop)->Prop:=List.rec (motive:=fun _=>(Hp->Prop->Prop)->Kn->Env->Hp->((Hp->Prop->Prop)->Kn->Env->Prop)->Prop) (fun jw kn e _ K=>K jw kn e) (fun o _ ih jw kn e H K=>mG pg b o kn e H fun kn' e' H'=>H'=H/\ih (fun H1 P=>mG pg b o kn e H1 fun _ e2 H2=>e2=e'/\H2=H1/\jw H1 P) kn' e' H K) l
def EC (d:Option Nat) (o:aL):Bool:=match d with|some t=>o.names.contains t|none=>false
noncomputable def TF (b:Nat) (d:Option Nat) (H0:Hp) (l:List aL):Kn->Env->Hp->(Kn->Env->Prop)->Prop:=List.rec (motive:=fun _=>Kn->Env->Hp->(Kn->Env->Prop)->Prop) (fun kn e _ K=>K kn e) (fun o _ ih kn e H1 K=>mG pg b o kn e H1 fun kn' e' H'=>H'=H1/\(match EC d o with
  |true=>ih kn' e' H1 K
  |false=>mG pg b o kn e H0 fun _ e2 H2=>e2=e'/\H2=H0/\ih kn' e' H1 K)) l
noncomputable def DV (b:Nat) (d m:Nat) (ops:List aL) (kn:Kn) (e:Env) (H:Hp) (K:Kn->Env->Hp->Prop):Prop:=
 Xj pg b (ops.take d) (fun _ P=>P) kn e H fun jw kn e=>match ops[d]? with
   |some od=>mG pg b od kn e H fun kn e H1=>jw H1 (TF pg b od.dst H ((ops.take m).drop (d+1)) kn e H1 fun kn e=>wpOps pg b (ops.drop m) kn e H1 K)
   |none=>False
noncomputable def tF (e:Env) (ks:List Nat):(Env->Prop)->Prop:=List.rec (motive:=fun _=>(Env->Prop)->Prop) (fun k=>k []) (fun i _ ih k=>pt (gE e i) fun v=>ih fun r=>k ((i,v)::r)) ks
theorem qK (e:Env):∀ (ks:List Nat) (k:Env->Prop),tF e ks k=k (dU ks e)
 |[],_=>rfl
 |i::r,k=>by
  rw[show tF e (i::r) k=pt (gE e i) (fun v=>tF e r fun r=>k ((i,v)::r))from rfl,uR,qK e r,oC];rfl
noncomputable def ze (n:Nat) (e:Env) (ks:List Nat):(Env->Prop)->Prop:=List.rec (motive:=fun _=>(Env->Prop)->Prop) (fun k=>k []) (fun i _ ih k=>pt (gE e i) fun v=>match v.und n with
  |true=>ih fun r=>k ((i,v)::r)
  |false=>ih fun r=>k ((i,.undef)::r)) ks
theorem xI (n:Nat) (e:Env):∀ (ks:List Nat) (k:Env->Prop),ze n e ks k=k (cut n (dU ks e))
 |[],_=>rfl
 |i::r,k=>by
  rw[show ze n e (i::r) k=pt (gE e i) (fun v=>match v.und n with
    |true=>ze n e r fun r=>k ((i,v)::r)
    |false=>ze n e r fun r=>k ((i,.undef)::r))from rfl,uR,oC]
  have hc:cut n (dU (i::r) e)=(i,if(bP e i).und n then bP e i else .undef)::cut n (dU r e):=rfl;rw[hc];cases hu:(bP e i).und n<;>simp only[xI n e r]<;>rfl
@[irreducible] def xQ (b:Nat) (ks:List Nat) (c:aU) (e:Env) (H:Hp) (Q:Ex->Kn->Env->Hp->Prop):Prop:=∃ x e' H',ev pg (.loop ks c) ⟨e,H,b⟩=some (x,⟨e',H',b⟩)/\Q x [] e' H'
noncomputable def wp (b:Nat) (c:aU):Kn->Env->Hp->(Ex->Kn->Env->Hp->Prop)->Prop:=aU.rec (motive:=fun _=>Kn->Env->Hp->(Ex->Kn->Env->Hp->Prop)->Prop)
  (fun kn e H Q=>Q .dN kn e H)
  (fun ops kn e H Q=>wpOps pg b ops kn e H fun kn e H=>Q .dN kn e H)
  (fun m ops kn e H Q=>vv pg b m ops kn e H fun kn e H=>Q .dN kn e H)
  (fun _ _ ihc ihd kn e H Q=>ihc kn e H fun x kn' e' H'=>match x with
    | .dN=>ihd kn' e' H' Q
    | .exit i=>Q (.exit i) kn' e' H'
    | .ret=>Q .ret kn' e' H')
  (fun o _ _ ihc ihd kn e H Q=>match o with
    | .t i=>(match look kn i with
      |some true=>ihc kn e H Q
      |some false=>ihd kn e H Q
      |none=>match gE e i with
       | .d (.bool t)=>(t=true->ihc ((i,true)::kn) e H Q)/\(t=false->ihd ((i,false)::kn) e H Q)
       |_=>False)
    |o=>match gO pg.toCx e o with
     | .d (.bool t)=>(t=true->ihc kn e H Q)/\(t=false->ihd kn e H Q)
     |_=>False)
  (fun id _ ih kn e H Q=>ih kn e H fun x kn' e' H'=>match x with
    | .exit i=>(match Nat.beq i id with|true=>Q .dN kn' e' H'|false=>Q (.exit i) kn' e' H')
    | .dN=>Q .dN kn' e' H'
    | .ret=>Q .ret kn' e' H')
  (fun ks c _ _ e H Q=>tF e ks fun e=>xQ pg b ks c e H Q)
  (fun _ ih kn e H Q=>ih kn e H Q)
  (fun i kn e H Q=>Q (.exit i) kn e H)
  (fun kn e H Q=>Q .ret kn e H)
  (fun sz t kn e H Q=>match gE e t with
    | .nils=>jw (Nat.blt 0 sz) (tE H 0 fun n=>da (H++[.row sz []]) fun H'=>da (forget kn t) fun kn=>Q .dN kn ((t,.row n 0)::e) H')
    |_=>False)
  (fun sz t off kn e H Q=>match gE e t with
    | .ptr id o=>jr H id fun ob=>match ob with
      | .box c=>jr c (o+off) fun v=>match v with
        | .nils=>jw (Nat.ble b id && Nat.blt 0 sz) (tE H 0 fun n=>da (c.set (o+off) (.row n 0)) fun c'=>da (H.set id (.box c')++[.row sz []]) fun H'=>Q .dN kn e H')
        |_=>False
      |_=>False
    |_=>False)
  (fun t kn e H Q=>match gE e t with
    | .arr id _ _=>jr H id fun ob=>match ob with
      | .box c=> ∃ ds,kC c=some ds/\da (H.set id (.frz ds)) fun H'=>Q .dN kn e H'
      |_=>False
    | .row id len=>jr H id fun ob=>match ob with
      | .row _ l=>l.length=len/\da (forget kn t) fun kn=>Q .dN kn ((t,.d (.sl l))::e) H
      |_=>False
    |_=>False)
  (fun sz kn e H Q=>jw (Nat.blt 0 sz) (da (H++[.row sz []]) fun H'=>Q .dN kn e H'))
  (fun t off k kn e H Q=>match gE e t with
    | .ptr id o=>jr H id fun ob=>match ob with
      | .box c=>jr c (o+off) fun v=>(match v with
        | .nils=>jr H (id - k) fun ob=>(match ob with
          | .row _ []=>jw (Nat.blt 0 k && Nat.ble k id && Nat.ble b (id - k)) (da (c.set (o+off) (.row (id - k) 0)) fun c'=>da (H.set id (.box c')) fun H'=>Q .dN kn e H')
          |_=>False)
        |_=>False)
      |_=>False
    |_=>False) c
theorem MP (b i:Nat) (c d:aU) (kn e H Q):wp pg b (.cond (.t i) c d) kn e H Q=(match look kn i with
      |some true=>wp pg b c kn e H Q
      |some false=>wp pg b d kn e H Q
      |none=>match gE e i with
       | .d (.bool t)=>(t=true->wp pg b c ((i,true)::kn) e H Q)/\(t=false->wp pg b d ((i,false)::kn) e H Q)
       |_=>False):=rfl
theorem MN (b sz t:Nat) (kn e H Q):wp pg b (.newrow sz t) kn e H Q=(match gE e t with
    | .nils=>jw (Nat.blt 0 sz) (tE H 0 fun n=>da (H++[.row sz []]) fun H'=>da (forget kn t) fun kn=>Q .dN kn ((t,.row n 0)::e) H')
    |_=>False):=rfl
theorem IP (b sz t off:Nat) (kn e H Q):wp pg b (.bindrow sz t off) kn e H Q=(match gE e t with
    | .ptr id o=>jr H id fun ob=>match ob with
      | .box c=>jr c (o+off) fun v=>match v with
        | .nils=>jw (Nat.ble b id && Nat.blt 0 sz) (tE H 0 fun n=>da (c.set (o+off) (.row n 0)) fun c'=>da (H.set id (.box c')++[.row sz []]) fun H'=>Q .dN kn e H')
        |_=>False
      |_=>False
    |_=>False):=rfl
theorem OY (b sz:Nat) (kn e H Q):wp pg b (.mkrow sz) kn e H Q=jw (Nat.blt 0 sz) (da (H++[.row sz []]) fun H'=>Q .dN kn e H'):=rfl
theorem MQ (b t off k:Nat) (kn e H Q):wp pg b (.bindto t off k) kn e H Q=(match gE e t with
    | .ptr id o=>jr H id fun ob=>match ob with
      | .box c=>jr c (o+off) fun v=>(match v with
        | .nils=>jr H (id - k) fun ob=>(match ob with
          | .row _ []=>jw (Nat.blt 0 k && Nat.ble k id && Nat.ble b (id - k)) (da (c.set (o+off) (.row (id - k) 0)) fun c'=>da (H.set id (.box c')) fun H'=>Q .dN kn e H')
          |_=>False)
        |_=>False)
      |_=>False
    |_=>False):=rfl
theorem MO (b t:Nat) (kn e H Q):wp pg b (.freeze t) kn e H Q=(match gE e t with
    | .arr id _ _=>jr H id fun ob=>match ob with
      | .box c=> ∃ ds,kC c=some ds/\da (H.set id (.frz ds)) fun H'=>Q .dN kn e H'
      |_=>False
    | .row id len=>jr H id fun ob=>match ob with
      | .row _ l=>l.length=len/\da (forget kn t) fun kn=>Q .dN kn ((t,.d (.sl l))::e) H
      |_=>False
    |_=>False):=rfl
end
section
variable {pg:Pg}
theorem oY {kn dst v e H b} {k:List (Nat×Bool)->Env->Hp->Prop} (hk:dT kn e) (h:yd kn dst v e H k):∃ kn' e' H',lay dst e b (some (v,H))=some ⟨e',H',b⟩/\dT kn' e'/\k kn' e' H':=by
 cases dst with
 |none=>exact⟨_,_,_,rfl,hk,h⟩
 |some d=>
  have h:k (forget kn d) ((d,v)::e) H:=by simpa only[yd,cy] using h
  exact⟨_,_,_,rfl,hk.forget d v,h⟩
theorem EY {b dst op kn e H} {k:List (Nat×Bool)->Env->Hp->Prop} (hk:dT kn e) (h:goK pg b dst op kn e H k):∃ kn' e' H',lay dst e b (bn pg.toCx (cv pg) b e H op)=some ⟨e',H',b⟩/\dT kn' e'/\k kn' e' H':=by
 have gen:∀ op,(wpO pg kn b e H op fun v H'=>yd kn dst v e H' k)->∃ kn' e' H',lay dst e b (bn pg.toCx (cv pg) b e H op)=some ⟨e',H',b⟩/\dT kn' e'/\k kn' e' H':=by
   intro op h;obtain⟨v,H',hv,h⟩:=TD hk h;rw[hv];exact oY hk h
 unfold goK at h;split at h
 ·rename_i t;cases dst with
  |none=>exact⟨_,_,_,rfl,hk,h⟩
  |some d=>
   have h:k ((d,t)::forget kn d) ((d,.d (.bool t))::e) H:=by simpa only[cy] using h
   exact⟨_,_,_,rfl,(hk.forget d _).add (by simp[bP]),h⟩
 ·rename_i i;split at h
  ·rename_i d t ht;rw[cy]at h;exact⟨_,_,_,by simp only[bn,di,hk i t ht,Ha,fT],(hk.forget d _).add (by simp[bP]),h⟩
  ·rw[uR,oC]at h;exact oY hk h
 ·exact gen _ h
theorem gZ {b:Nat} {o:aL} {kn e H} {k:List (Nat×Bool)->Env->Hp->Prop} (hk:dT kn e) (h:mG pg b o kn e H k):∃ kn' e' H',aW pg.toCx (cv pg) o ⟨e,H,b⟩=some ⟨e',H',b⟩/\dT kn' e'/\k kn' e' H':=by
 obtain⟨dst,op,g⟩:=o;cases g with
 |none=>exact EY hk h
 |some p=>
  obtain⟨g,bb⟩:=p;have yes:∀ {kn},dT kn e->bP e g= .d (.bool bb)->goK pg b dst op kn e H k->∃ kn' e' H',aW pg.toCx (cv pg) ⟨dst,op,some (g,bb)⟩ ⟨e,H,b⟩=some ⟨e',H',b⟩/\dT kn' e'/\k kn' e' H':=by
   intro kn hk hg h;simp only[aW,hg,Ho,cU];exact EY hk h
  have no:∀ {kn},dT kn e->bP e g= .d (.bool !bb)->yd kn dst (.tup []) e H k->∃ kn' e' H',aW pg.toCx (cv pg) ⟨dst,op,some (g,bb)⟩ ⟨e,H,b⟩=some ⟨e',H',b⟩/\dT kn' e'/\k kn' e' H':=by
   intro kn hk hg h;simp only[aW,hg,Ho];rw[aA (by cases bb<;>simp)];exact oY (b:=b) hk h
  unfold mG at h;simp only at h;split at h
  ·rename_i t ht;have hg:=hk g t ht;split at h
   ·exact yes hk hg h
   ·exact yes hk hg h
   ·exact no hk hg h
   ·exact no hk hg h
  ·rw[oC]at h;split at h
   ·rename_i hg;simp only[aW,hg,Vn];exact oY (b:=b) hk h
   ·rename_i t hg;by_cases ht:t=bb
    ·subst ht;exact yes (hk.add hg) hg (h.1 rfl)
    ·have ht':t= !bb:=by cases t<;>cases bb<;>simp_all
     rw[ht']at hg;exact no (hk.add hg) hg (h.2 ht')
   ·cases h
theorem qu {b:Nat}:∀ {l:List aL} {kn e H} {K:Kn->Env->Hp->Prop},dT kn e->wpOps pg b l kn e H K->∃ kn' e' H',bQ pg.toCx (cv pg) l ⟨e,H,b⟩=some ⟨e',H',b⟩/\dT kn' e'/\K kn' e' H'
 |[],_,_,_,_,hk,h=>⟨_,_,_,rfl,hk,h⟩
 |o::r,kn,e,H,K,hk,h=>by
  obtain⟨kn',e',H',h1,h2,h3⟩:=gZ hk h;obtain⟨kn2,e2,H2,h4,hk2,h5⟩:=qu h2 h3;exact⟨kn2,e2,H2,by simp only[bQ,h1,aP,h4],hk2,h5⟩
theorem Qj {b:Nat} {e:Env} {H:Hp} {o:ij} {v:V} {H':Hp} (hp:oZ o=true) (h:bn pg.toCx (cv pg) b e H o=some (v,H')):H'=H:=En hp h
theorem uD {b:Nat} {e:Env} {H:Hp} {o:aL} {e' H'} (hp:oZ o.op=true) (h:aW pg.toCx (cv pg) o ⟨e,H,b⟩=some ⟨e',H',b⟩):H'=H:=by
 have key:∀ {dst:Option Nat} {r:Option (V×Hp)},(∀ v H',r=some (v,H')->H'=H)->lay dst e b r=some ⟨e',H',b⟩->H'=H:=by
  intro dst r hr h;cases r with
  |none=>cases h
  |some q=>
   obtain⟨v,H2⟩:=q;have:=hr v H2 rfl;simp only[Ha,aa,St.mk.injEq]at h;rw[<-h.2.1,this]
 obtain⟨dst,op,g⟩:=o;cases g with
 |none=>exact key (fun v H' hh=>Qj hp hh) h
 |some p=>
  obtain⟨g,bb⟩:=p;simp only[aW]at h;unfold grd at h;split at h
  ·split at h
   ·exact key (fun v H' hh=>Qj hp hh) h
   ·simp only[aa,St.mk.injEq]at h;exact h.2.1.symm
  ·simp only[aa,St.mk.injEq]at h;exact h.2.1.symm
  ·cases h
theorem lF (cx:Cx) (orc:iH) (l:List aL) (s:St):eC cx orc 0 l s=bQ cx orc l s:=by cases l<;>simp[eC,bQ]
theorem oS {b:Nat}:∀ {l:List aL} {m:Nat} {kn e H} {K:Kn->Env->Hp->Prop},dT kn e->vv pg b m l kn e H K->∃ kn' e' H',eC pg.toCx (cv pg) m l ⟨e,H,b⟩=some ⟨e',H',b⟩/\dT kn' e'/\K kn' e' H'
 |[],m,_,_,_,_,hk,h=>⟨_,_,_,by cases m<;>rfl,hk,h⟩
 |o::r,0,kn,e,H,K,hk,h=>by
  obtain⟨kn',e',H',h1,h2,h3⟩:=gZ hk h;obtain⟨kn2,e2,H2,h4,hk2,h5⟩:=oS (m:=0) h2 h3;rw[lF]at h4;exact⟨kn2,e2,H2,by rw[lF];simp only[bQ,h1,aP,h4],hk2,h5⟩
 |o::r,m+1,kn,e,H,K,hk,h=>by
  obtain⟨kn',e',H',h1,h2,h3⟩:=gZ hk h;have hg:grew H H'=true/\HT o.dst e' H' (vv pg b m r kn' e' H' K):=by
   have h3:a2e (oZ o.op) H H' (HT o.dst e' H' (vv pg b m r kn' e' H' K)):=h3;unfold a2e at h3;cases hp:oZ o.op with
   |true=>
    rw[hp]at h3;rw[uD hp h1];exact⟨by simp,by rw[uD hp h1]at h3;exact h3⟩
   |false=>rw[hp]at h3;exact h3
  have hd:pw o.dst ⟨e',H',b⟩=true/\vv pg b m r kn' e' H' K:=by
   have:=hg.2;unfold HT at this;unfold pw;cases hd:o.dst with
   |some d=>rw[hd]at this;simp only[eU,oC]at this;exact this
   |none=>rw[hd]at this;exact⟨rfl,this⟩
  obtain⟨kn2,e2,H2,h4,hk2,h5⟩:=oS h2 hd.2;exact⟨kn2,e2,H2,by simp only[eC,h1,aP,hg.1,hd.1,cF,cU,h4],hk2,h5⟩
theorem oP {cx:Cx} {orc:iH}:∀ {l l':List aL} {s:St},bQ cx orc (l++l') s=(bQ cx orc l s).bind (bQ cx orc l')
 |[],_,_=>rfl
 |o::r,l',s=>by
  simp only[al,bQ];cases aW cx orc o s with
  |none=>rfl
  |some q=>exact oP
theorem r0 {cx:Cx} {orc:iH} {l:List aL} {o:aL} {s q r:St} (h:bQ cx orc l s=some q) (h1:aW cx orc o q=some r):bQ cx orc (l++[o]) s=some r:=by
 rw[oP,h];simp only[aP,bQ,h1]
theorem oL {l r:List aL} {o:aL} {i:Nat} (hi:i<=l.length):(l++o::r).take i=l.take i:=by rw[fC hi]
structure Xe (b:Nat) (s:St) (pre:List aL) (e:Env) (jw:Hp->Prop->Prop):Prop where
 run:bQ pg.toCx (cv pg) pre s=some ⟨e,s.h,b⟩
 quiet:∀ i q,i<=pre.length->bQ pg.toCx (cv pg) (pre.take i) s=some q->q.h=s.h
 jw:∀ H1 P,jw H1 P->P/\∀ i o q q',pre[i]? =some o->bQ pg.toCx (cv pg) (pre.take i) s=some q->bQ pg.toCx (cv pg) (pre.take (i+1)) s=some q'->aW pg.toCx (cv pg) o ⟨q.e,H1,b⟩=some ⟨q'.e,H1,b⟩
theorem Xe.snoc {b:Nat} {s:St} {pre:List aL} {e e':Env} {jw:Hp->Prop->Prop} (A:Xe (pg:=pg) b s pre e jw) {kn:Kn} (hk:dT kn e) {o:aL} (h:aW pg.toCx (cv pg) o ⟨e,s.h,b⟩=some ⟨e',s.h,b⟩):
 Xe (pg:=pg) b s (pre++[o]) e' (fun H1 P=>mG pg b o kn e H1 fun _ e2 H2=>e2=e'/\H2=H1/\jw H1 P):=by
 have hr:=r0 A.run h;refine⟨hr,fun i q hi hq=>?_,fun H1 P hc=>?_⟩
 ·rw[ah,ec]at hi;by_cases c:i<=pre.length
  ·rw[oL c]at hq;exact A.quiet i q c hq
  ·have:i=pre.length+1:=om;rw[this,bB (by simp),hr]at hq;cases hq;rfl
 ·obtain⟨_,e2,H2,h1,_,rfl,rfl,h4⟩:=gZ hk hc;obtain⟨hP,hall⟩:=A.jw H2 P h4;refine⟨hP,fun i p q q' hp hq hq'=>?_⟩;by_cases c:i < pre.length
  ·rw[aD c]at hp;rw[oL om]at hq hq';exact hall i p q q' hp hq hq'
  ·have hi:i=pre.length:=by
    have:=(az.1 hp).1;rw[ah,ec]at this;omega
   subst hi;rw[aK (ai _),dR]at hp;cases hp;rw[oL (ai _),bB (ai _),A.run]at hq;rw[bB (by simp),hr]at hq';cases hq;cases hq';exact h1
theorem zR {b:Nat} {s:St}:∀ {r pre:List aL} {kn e jw} {K:(Hp->Prop->Prop)->Kn->Env->Prop},dT kn e->Xe (pg:=pg) b s pre e jw->Xj pg b r jw kn e s.h K->∃ chk' kn' e',Xe (pg:=pg) b s (pre++r) e' chk'/\dT kn' e'/\K chk' kn' e'
 |[],pre,kn,e,jw,K,hk,A,h=>⟨jw,kn,e,by rw[bC];exact A,hk,h⟩
 |o::r,pre,kn,e,jw,K,hk,A,h=>by
  obtain⟨kn',e',H',h1,h2,h3⟩:=gZ hk h;obtain⟨rfl,h3⟩:=h3;obtain⟨chk',kn2,e2,B,hk2,h5⟩:=zR h2 (A.snoc hk h1) h3;exact⟨chk',kn2,e2,by rw[ag]at B;exact B,hk2,h5⟩
structure TB (b:Nat) (s:St) (d:Nat) (od:aL) (H1:Hp) (pre:List aL) (e:Env):Prop where
 run:bQ pg.toCx (cv pg) pre s=some ⟨e,H1,b⟩
 lt:d < pre.length
 quiet:∀ i q,d < i->i<=pre.length->bQ pg.toCx (cv pg) (pre.take i) s=some q->q.h=H1
 both:∀ i o q q',d < i->pre[i]? =some o->bQ pg.toCx (cv pg) (pre.take i) s=some q->bQ pg.toCx (cv pg) (pre.take (i+1)) s=some q'->(∃ t,od.dst=some t/\t∈o.names)\/aW pg.toCx (cv pg) o ⟨q.e,s.h,b⟩=some ⟨q'.e,s.h,b⟩
theorem TB.snoc {b:Nat} {s:St} {d:Nat} {od:aL} {H1:Hp} {pre:List aL} {e e':Env} (B:TB (pg:=pg) b s d od H1 pre e) {o:aL} (h:aW pg.toCx (cv pg) o ⟨e,H1,b⟩=some ⟨e',H1,b⟩)
 (h2:(∃ t,od.dst=some t/\t∈o.names)\/aW pg.toCx (cv pg) o ⟨e,s.h,b⟩=some ⟨e',s.h,b⟩):TB (pg:=pg) b s d od H1 (pre++[o]) e':=by
 have hr:=r0 B.run h;refine⟨hr,by have:=B.lt;simp;omega,fun i q hd hi hq=>?_,fun i p q q' hd hp hq hq'=>?_⟩
 ·rw[ah,ec]at hi;by_cases c:i<=pre.length
  ·rw[oL c]at hq;exact B.quiet i q hd c hq
  ·have:i=pre.length+1:=om;rw[this,bB (by simp),hr]at hq;cases hq;rfl
 ·by_cases c:i < pre.length
  ·rw[aD c]at hp;rw[oL om]at hq hq';exact B.both i p q q' hd hp hq hq'
  ·have hi:i=pre.length:=by
    have:=(az.1 hp).1;rw[ah,ec]at this;omega
   subst hi;rw[aK (ai _),dR]at hp;cases hp;rw[oL (ai _),bB (ai _),B.run]at hq;rw[bB (by simp),hr]at hq';cases hq;cases hq';exact h2
theorem QW {d:Option Nat} {o:aL} (h:EC d o=true):∃ t,d=some t/\t∈o.names:=by
 unfold EC at h;split at h
 ·exact⟨_,rfl,by simpa using h⟩
 ·cases h
theorem zQ {b:Nat} {s:St} {d:Nat} {od:aL} {H1:Hp}:∀ {r pre:List aL} {kn e} {K:Kn->Env->Prop},dT kn e->TB (pg:=pg) b s d od H1 pre e->TF pg b od.dst s.h r kn e H1 K->∃ kn' e',TB (pg:=pg) b s d od H1 (pre++r) e'/\dT kn' e'/\K kn' e'
 |[],pre,kn,e,K,hk,B,h=>⟨kn,e,by rw[bC];exact B,hk,h⟩
 |o::r,pre,kn,e,K,hk,B,h=>by
  obtain⟨kn',e',H',h1,h2,h3⟩:=gZ hk h;obtain⟨rfl,h3⟩:=h3;have fin:TB (pg:=pg) b s d od H' (pre++[o]) e'->TF pg b od.dst s.h r kn' e' H' K->∃ kn' e',TB (pg:=pg) b s d od H' (pre++o::r) e'/\dT kn' e'/\K kn' e':=by
   intro C h4;obtain⟨kn2,e2,C',hk2,h5⟩:=zQ h2 C h4;exact⟨kn2,e2,by rw[ag]at C';exact C',hk2,h5⟩
  cases hn:EC od.dst o with
  |true=>
   rw[hn]at h3;exact fin (B.snoc h1 (.inl (QW hn))) h3
  |false=>
   rw[hn]at h3;obtain⟨_,e2,H2,g1,_,rfl,rfl,g4⟩:=gZ hk h3;exact fin (B.snoc h1 (.inr g1)) g4
theorem HX {b:Nat} {s s':St} (hb:s.b=b) {ops:List aL} {d m:Nat} (hm:m<=ops.length) {od:aL} (ho:ops[d]? =some od) {e1 e2:Env} {H1:Hp} {jw:Hp->Prop->Prop} {P:Prop}
 (A:Xe (pg:=pg) b s (ops.take d) e1 jw) (hc:jw H1 P) (hd:d < m) (B:TB (pg:=pg) b s d od H1 (ops.take m) e2) (h:bQ pg.toCx (cv pg) ops s=some s'):xS pg.toCx (cv pg) m ops s:=by
 have pref:∀ i,∃ q,bQ pg.toCx (cv pg) (ops.take i) s=some q:=by
  intro i;rw[<-bG i ops,oP]at h;cases hq:bQ pg.toCx (cv pg) (ops.take i) s with
  |none=>rw[hq]at h;cases h
  |some q=>exact⟨q,rfl⟩
 have one:∀ {i o q q'},ops[i]? =some o->bQ pg.toCx (cv pg) (ops.take i) s=some q->bQ pg.toCx (cv pg) (ops.take (i+1)) s=some q'->aW pg.toCx (cv pg) o q=some q':=by
  intro i o q q' ho hq hq';rw[dL,oP,hq,ho]at hq';simp only[Option.toList,aP,bQ]at hq';cases hx:aW pg.toCx (cv pg) o q with
  |none=>rw[hx]at hq';cases hq'
  |some y=>rw[hx]at hq';exact hq'
 obtain⟨τ,hτ⟩:∃ τ:Nat->St,∀ i,bQ pg.toCx (cv pg) (ops.take i) s=some (τ i):=⟨fun i=>(pref i).choose,fun i=>(pref i).choose_spec⟩;have hv:∀ i,∃ x,∀ o,ops[i]? =some o->(τ (i+1)).e=fT o.dst x (τ i).e:=by
  intro i;cases ho:ops[i]? with
  |none=>exact⟨.undef,fun o h=>by cases h⟩
  |some o=>
   obtain⟨x,hx⟩:=HK (one ho (hτ i) (hτ (i+1)));exact⟨x,fun o' h=>by cases h;exact hx⟩
 obtain⟨val,hval⟩:∃ val:Nat->V,∀ i o,ops[i]? =some o->(τ (i+1)).e=fT o.dst (val i) (τ i).e:=⟨fun i=>(hv i).choose,fun i=>(hv i).choose_spec⟩;have hml:(ops.take m).length=m:=by simp;omega
 have hdl:(ops.take d).length=d:=by simp;omega
 have tk:∀ {i j},i<=j->(ops.take j).take i=ops.take i:=fun{i j} h=>by rw[gr,dr h]
 have gt:∀ {i j},i < j->(ops.take j)[i]? =ops[i]? :=fun{i j} h=>by rw[aZ,ay h]
 have h0:τ 0=s:=by have:=hτ 0;simp only[ml,bQ,aa]at this;exact this.symm
 have lo:∀ i,i<=d->(τ i).h=s.h:=fun i hi=>A.quiet i _ om (by rw[tk hi];exact hτ i);have hi:∀ i,d < i->i<=m->(τ i).h=H1:=fun i h1 h2=>B.quiet i _ h1 om (by rw[tk h2];exact hτ i);refine .inl ⟨d,od,τ,val,hd,hm,ho,h0,fun i o _ hq=>⟨one hq (hτ i) (hτ (i+1)),hval i o hq⟩,fun i o him _ hne=>?_,fun i o hid hq=>?_,fun i o hdi him hq=>?_⟩
 ·by_cases c:i < d
  ·rw[lo i om,lo (i+1) om]
  ·rw[hi i om om,hi (i+1) om om]
 ·rw[hi (d+1) om om,hb];exact(A.jw H1 P hc).2 i o _ _ (by rw[gt hid];exact hq) (by rw[tk om];exact hτ i) (by rw[tk om];exact hτ (i+1))
 ·rw[hb];exact B.both i o _ _ hdi (by rw[gt him];exact hq) (by rw[tk om];exact hτ i) (by rw[tk om];exact hτ (i+1))
theorem FV {b:Nat} {ops:List aL} {d m:Nat} (hd:d < m) (hm:m<=ops.length) {kn e H} {K:Kn->Env->Hp->Prop} (hk:dT kn e) (h:DV pg b d m ops kn e H K):∃ kn' e' H',l8 pg.toCx (cv pg) m ops ⟨e,H,b⟩=some ⟨e',H',b⟩/\dT kn' e'/\K kn' e' H':=by
 unfold DV at h;have A0:Xe (pg:=pg) b ⟨e,H,b⟩ [] e (fun _ P=>P):=⟨rfl,fun i q _ hq=>by simp only[List.take_nil,bQ,aa]at hq;rw[<-hq],fun H1 P hP=>⟨hP,fun i o q q' ho=>by simp at ho⟩⟩;obtain⟨jw,kn1,e1,A,hk1,h1⟩:=zR (s:=⟨e,H,b⟩) hk A0 h;rw[aq]at A;split at h1
 ·rename_i od ho;obtain⟨kn2,e2,H1,h2,hk2,h3⟩:=gZ hk1 h1;obtain⟨h4,_⟩:=A.jw H1 _ h3;have hdl:(ops.take d).length=d:=by simp;omega
  have hpre:ops.take (d+1)=ops.take d++[od]:=by rw[dL,ho];rfl
  have hrun:=r0 A.run h2;rw[<-hpre]at hrun;have hl1:(ops.take (d+1)).length=d+1:=by simp;omega
  have B0:TB (pg:=pg) b ⟨e,H,b⟩ d od H1 (ops.take (d+1)) e2:=by
   refine⟨hrun,om,fun i q h1 h2 hq=>?_,fun i o q q' h1 ho'=>?_⟩
   ·have:i=d+1:=om;subst this;rw[bB om,hrun]at hq;cases hq;rfl
   ·have:=(az.1 ho').1;omega
  obtain⟨kn3,e3,B,hk3,h5⟩:=zQ (s:=⟨e,H,b⟩) hk2 B0 h4;have hall:ops.take (d+1)++(ops.take m).drop (d+1)=ops.take m:=by
   have:=bG (d+1) (ops.take m);rwa [gr,dr om]at this
  rw[hall]at B;obtain⟨kn4,e4,H4,h6,hk4,h7⟩:=qu hk3 h5;have hops:bQ pg.toCx (cv pg) ops ⟨e,H,b⟩=some ⟨e4,H4,b⟩:=by
   rw[<-bG m ops,oP,B.run];exact h6
  exact⟨kn4,e4,H4,gA.2 ⟨hops,.inr (HX rfl hm ho A h3 hd B hops)⟩,hk4,h7⟩
 ·exact h1.elim
theorem pX (ks:List Nat) (e:Env):dU ks (dU ks e)=dU ks e:=by
 have key:∀ i,i∈ks->bP (dU ks e) i=bP e i:=fun i hi=>by rw[lj,ay hi]
 show(ks.map fun k=>(k,bP (dU ks e) k))=ks.map fun k=>(k,bP e k);apply bJ;intro i hi;rw[key i hi]
theorem qf {b:Nat}:∀ {c:aU} {kn e H} {Q:Ex->Kn->Env->Hp->Prop},dT kn e->wp pg b c kn e H Q->∃ x kn' e' H',ev pg c ⟨e,H,b⟩=some (x,⟨e',H',b⟩)/\dT kn' e'/\Q x kn' e' H'
 | .skip,_,_,_,_,hk,h=>⟨_,_,_,_,rfl,hk,h⟩
 | .reg ops,kn,e,H,Q,hk,h=>by
   obtain⟨kn',e',H',h1,hk',h2⟩:=qu hk h;exact⟨_,kn',e',H',by rw[Bo,OJ,h1];rfl,hk',h2⟩
 | .draw m ops,kn,e,H,Q,hk,h=>by
   obtain⟨kn',e',H',h1,hk',h2⟩:=oS hk h;exact⟨_,kn',e',H',Fc pg h1,hk',h2⟩
 | .seq c d,kn,e,H,Q,hk,h=>by
   obtain⟨x,kn',e',H',h1,hk',h2⟩:=qf (c:=c) hk h;cases x with
   |dN=>
    obtain⟨x2,kn2,e2,H2,h3,hk2,h4⟩:=qf (c:=d) hk' h2;exact⟨x2,kn2,e2,H2,by rw[qo,h1,Jc,h3],hk2,h4⟩
   |exit i=>exact⟨_,kn',e',H',by rw[qo,h1,Eb],hk',h2⟩
   |ret=>exact⟨_,kn',e',H',by rw[qo,h1,Jb],hk',h2⟩
 | .cond o c d,kn,e,H,Q,hk,h=>by
   have yes:di pg.toCx e o= .d (.bool true)->∀ {kn},dT kn e->wp pg b c kn e H Q->∃ x kn' e' H',ev pg (.cond o c d) ⟨e,H,b⟩=some (x,⟨e',H',b⟩)/\dT kn' e'/\Q x kn' e' H':=by
    intro ht kn hk h;obtain⟨x,kn',e',H',h1,hk',h2⟩:=qf (c:=c) hk h;exact⟨x,kn',e',H',by rw[rY];simp only[ht,pA,cU];exact h1,hk',h2⟩
   have no:di pg.toCx e o= .d (.bool false)->∀ {kn},dT kn e->wp pg b d kn e H Q->∃ x kn' e' H',ev pg (.cond o c d) ⟨e,H,b⟩=some (x,⟨e',H',b⟩)/\dT kn' e'/\Q x kn' e' H':=by
    intro ht kn hk h;obtain⟨x,kn',e',H',h1,hk',h2⟩:=qf (c:=d) hk h;exact⟨x,kn',e',H',by rw[rY];simp only[ht,pA];exact h1,hk',h2⟩
   have gen:∀ {f:Bool->Kn},(match gO pg.toCx e o with| .d (.bool t)=>(t=true->wp pg b c (f true) e H Q)/\(t=false->wp pg b d (f false) e H Q)|_=>False)->(∀ t,di pg.toCx e o= .d (.bool t)->dT (f t) e)->∃ x kn' e' H',ev pg (.cond o c d) ⟨e,H,b⟩=some (x,⟨e',H',b⟩)/\dT kn' e'/\Q x kn' e' H':=by
     intro f h hf;rw[sx]at h;split at h
     ·rename_i t ht;cases t with
      |true=>exact yes ht (hf _ ht) (h.1 rfl)
      |false=>exact no ht (hf _ ht) (h.2 rfl)
     ·cases h
   cases o with
   |t i=>
    rw[MP]at h;split at h
    ·rename_i ht;exact yes (hk i _ ht) hk h
    ·rename_i ht;exact no (hk i _ ht) hk h
    ·exact gen (f:=fun t=>(i,t)::kn) h fun t ht=>hk.add ht
   |c v=>exact gen (f:=fun _=>kn) h fun _ _=>hk
   |g v=>exact gen (f:=fun _=>kn) h fun _ _=>hk
   |f v=>exact gen (f:=fun _=>kn) h fun _ _=>hk
 | .block id c,kn,e,H,Q,hk,h=>by
   obtain⟨x,kn',e',H',h1,hk',h2⟩:=qf (c:=c) hk h;cases x with
   |dN=>exact⟨_,kn',e',H',by rw[nV,h1,Mz],hk',h2⟩
   |ret=>exact⟨_,kn',e',H',by rw[nV,h1,My],hk',h2⟩
   |exit i=>
    simp only at h2;by_cases hi:i=id
    ·rw[Ou hi]at h2;exact⟨_,kn',e',H',by rw[nV,h1,xG,ay hi],hk',h2⟩
    ·rw[KE hi]at h2;exact⟨_,kn',e',H',by rw[nV,h1,xG,aA hi],hk',h2⟩
 | .scope c,kn,e,H,Q,hk,h=>by
   obtain⟨x,kn',e',H',h1,hk',h2⟩:=qf (c:=c) hk h;exact⟨x,kn',e',H',by rw[R8,h1],hk',h2⟩
 | .loop ks c,kn,e,H,Q,hk,h=>by
   have h:tF e ks fun e=>xQ pg b ks c e H Q:=h;rw[qK]at h;unfold xQ at h;obtain⟨x,e',H',h1,h2⟩:=h;rw[p7]at h1;refine⟨x,[],e',H',?_,dT.nil e',h2⟩;rw[p7,<-h1];simp only[pX]
 | .exit i,_,_,_,_,hk,h=>⟨_,_,_,_,rfl,hk,h⟩
 | .ret,_,_,_,_,hk,h=>⟨_,_,_,_,rfl,hk,h⟩
 | .newrow sz t,kn,e,H,Q,hk,h=>by
   rw[MN]at h;rw[oC]at h;split at h
   ·rename_i ht;simp only[eU,kU,cy,bt]at h;have hs:0 < sz:=by have:=h.1;simp[Nat.blt]at this;omega
    exact⟨_,_,_,_,by rw[N4];simp only[ht,QO,ay hs],hk.forget t _,h.2⟩
   ·cases h
 | .bindrow sz t off,kn,e,H,Q,hk,h=>by
   rw[IP]at h;rw[oC]at h;split at h
   ·rename_i id o ht;obtain⟨ob,ho,h⟩:=(eg ..).1 h;cases ob with
    |box c=>
     obtain⟨v,hv,h⟩:=(eg ..).1 h;cases v with
     |nils=>
      simp only[eU,kU,cy,bt,ab,Nat.ble_eq]at h;have hs:0 < sz:=by have:=h.1.2;simp[Nat.blt]at this;omega
      refine⟨_,_,_,_,?_,hk,h.2⟩;simp only[ev,fg,ht,ho,hv];rw[ay ⟨h.1.1,hs⟩]
     |_=>cases h
    |_=>cases h
   ·cases h
 | .mkrow sz,kn,e,H,Q,hk,h=>by
   rw[OY]at h;simp only[eU,cy]at h;have hs:0 < sz:=by have:=h.1;simp[Nat.blt]at this;omega
   exact⟨_,_,_,_,by simp only[ev,fg,ay hs],hk,h.2⟩
 | .bindto t off k,kn,e,H,Q,hk,h=>by
   rw[MQ]at h;rw[oC]at h;split at h
   ·rename_i id o ht;obtain⟨ob,ho,h⟩:=(eg ..).1 h;cases ob with
    |box c=>
     obtain⟨v,hv,h⟩:=(eg ..).1 h;cases v with
     |nils=>
      obtain⟨ob2,ho2,h⟩:=(eg ..).1 h;split at h
      ·simp only[eU,cy,ab,Nat.ble_eq]at h;have hs:0 < k:=by have:=h.1.1.1;simp[Nat.blt]at this;omega
       refine⟨_,_,_,_,?_,hk,h.2⟩;simp only[ev,fg,ht,ho,hv,ho2];rw[ay ⟨hs,h.1.1.2,h.1.2⟩]
      ·cases h
     |_=>cases h
    |_=>cases h
   ·cases h
 | .freeze t,kn,e,H,Q,hk,h=>by
   rw[MO]at h;rw[oC]at h;split at h
   ·rename_i id o l ht;obtain⟨ob,ho,h⟩:=(eg ..).1 h;cases ob with
    |box c=>
     obtain⟨ds,hd,h⟩:=h;rw[cy]at h;exact⟨_,_,_,_,by simp only[ev,fg,ht,ho,hd],hk,h⟩
    |_=>cases h
   ·rename_i id len ht;obtain⟨ob,ho,h⟩:=(eg ..).1 h;cases ob with
    |row sz l=>
     obtain⟨hl,h⟩:=h;rw[cy]at h;exact⟨_,_,_,_,by simp only[ev,fg,ht,ho,ay hl],hk.forget t _,h⟩
    |_=>cases h
   ·cases h
theorem wp_loop {ks:List Nat} {c:aU} {b:Nat} {α:Type} (μ:α->Nat) (E:α->Env) (Hf:α->Hp) (P:α->Prop) {Q:Ex->Kn->Env->Hp->Prop}
 (step:∀ a,P a->tE (Hf a) 0 fun n=>tF (E a) ks fun e=>wp pg n c [] e (Hf a) (fun x _ e' H'=>match x with
   | .dN=>ze n e' ks fun e2=>da (H'.take n) fun H2=> ∃ a',P a'/\μ a' < μ a/\e2=E a'/\H2=Hf a'
   | .exit i=>Q (.exit i) [] e' H'
   | .ret=>Q .ret [] e' H')) (a:α) (ha:P a):xQ pg b ks c (E a) (Hf a) Q:=by
 have key:∀ n,∀ a,μ a < n->P a->∃ x e' H',ev pg (.loop ks c) ⟨E a,Hf a,b⟩=some (x,⟨e',H',b⟩)/\Q x [] e' H':=by
  intro n;induction n with
  |zero=>intro a h;omega
  |succ n ih=>
   intro a hn ha;have st:=step a ha;rw[kU,qK,bt]at st;obtain⟨x,kn',e',H',h1,_,h2⟩:=qf (dT.nil _) st;rw[p7];simp only[h1];cases x with
   |dN=>
    simp only[xI,cy]at h2;obtain⟨a',h3,h4,h5,h6⟩:=h2;simp only[Ed,h5,h6];exact ih a' om h3
   |exit i=>exact⟨_,e',H',rfl,h2⟩
   |ret=>exact⟨_,e',H',rfl,h2⟩
 unfold xQ;exact key (μ a+1) a om ha
noncomputable def Ef (e:Env) (H:Hp) (l:List sK):(List V->Prop)->Prop:=List.rec (motive:=fun _=>(List V->Prop)->Prop) (fun k=>k []) (fun o _ ih k=>match o with
  | .tmp t=>mh H (gE e t) fun v=>ih fun vs=>k (v::vs)
  | .cell t n=>(match gE e t with
    | .ptr id off=>jr H id fun ob=>match ob with
      | .box c=>tu n c off fun v=>mh H v fun v=>ih fun vs=>k (v::vs)
      | .frz c=>tu n (c.map V.d) off fun v=>mh H v fun v=>ih fun vs=>k (v::vs)
      |_=>False
    |_=>False)) l
theorem Ng (e:Env) (H:Hp) (t n) (r:List sK) (k:List V->Prop):Ef e H (.cell t n::r) k=(match gE e t with
    | .ptr id off=>jr H id fun ob=>match ob with
      | .box c=>tu n c off fun v=>mh H v fun v=>Ef e H r fun vs=>k (v::vs)
      | .frz c=>tu n (c.map V.d) off fun v=>mh H v fun v=>Ef e H r fun vs=>k (v::vs)
      |_=>False
    |_=>False):=rfl
theorem Ay {e:Env} {H:Hp}:∀ {l:List sK} {k:List V->Prop},Ef e H l k->∃ vs,jC e H l=some vs/\k (vs.map (toArg H))
 |[],_,h=>⟨[],rfl,h⟩
 | .tmp t::r,k,h=>by
   have h:mh H (gE e t) fun v=>Ef e H r fun vs=>k (v::vs):=h;have h:=qQ _ _ _ h;obtain⟨vs,h1,h2⟩:=Ay h;rw[oC]at h2;exact⟨bP e t::vs,by simp only[Av,Qc,h1,C5],h2⟩
 | .cell t n::r,k,h=>by
   rw[Ng]at h;rw[oC]at h;have fin:∀ {v id off},bP e t= .ptr id off->o8 H n (.ptr id off)=some v->(mh H v fun v=>Ef e H r fun vs=>k (v::vs))->∃ vs,jC e H (.cell t n::r)=some vs/\k (vs.map (toArg H)):=by
     intro v id off ht hl h;have h:=qQ _ _ _ h;obtain⟨vs,h1,h2⟩:=Ay h;exact⟨v::vs,by simp only[Av,Nf,ht,hl,h1,C5],h2⟩
   split at h
   ·rename_i id off ht;obtain⟨ob,ho,h⟩:=(eg ..).1 h;cases ob with
    |box c=>
     obtain⟨v,hv,h⟩:=(mN ..).1 h;exact fin ht (by simp only[Dn,ho,JK,hv]) h
    |frz c=>
     obtain⟨v,hv,h⟩:=(mN ..).1 h;exact fin ht (by simp only[Dn,ho,JJ,hv]) h
    |_=>cases h
   ·cases h
noncomputable def wL (res:List sK) (n:Nat) (R:V->Hp->Prop):Ex->Kn->Env->Hp->Prop:=fun x _ e H=>match x with
  | .exit _=>False
  | .dN=>Ef e H res fun vs=>jw (br n vs) (R (oneOf vs) H)
  | .ret=>Ef e H res fun vs=>jw (br n vs) (R (oneOf vs) H)
theorem oV {res:List sK} {n:Nat} {R:V->Hp->Prop} {x kn e H b} (h:wL res n R x kn e H):∃ r,pb false res n (some (x,⟨e,H,b⟩))=some (r,H.take n)/\R r H:=by
 have fin:(Ef e H res fun vs=>jw (br n vs) (R (oneOf vs) H))->∃ r,leave ⟨0,0,.skip,res,false⟩ n ⟨e,H,b⟩=some (r,H.take n)/\R r H:=by
   intro h;obtain⟨vs,h1,h2⟩:=Ay h;rw[eU]at h2;exact⟨_,by simp only[Rm,h1,UQ,h2.1,cU],h2.2⟩
 cases x with
 |dN=>exact fin h
 |ret=>exact fin h
 |exit i=>cases h
noncomputable def kA (i:Nat) (l:List V):(Env->Prop)->Prop:=List.rec (motive:=fun _=>Nat->(Env->Prop)->Prop) (fun _ k=>k []) (fun v _ ih i k=>ih (i+1) fun e=>k ((i,v)::e)) l i
theorem jm:∀ (i:Nat) (l:List V) (k:Env->Prop),kA i l k=k (lG i l)
 |_,[],_=>rfl
 |i,v::r,k=>jm (i+1) r fun e=>k ((i,v)::e)
theorem eB {f:Nat} {vf:kK} {a:List V} {r:V} (h:kA 0 a fun e=>wp pg 0 vf.body [] e [] (wL vf.res 0 fun v _=>v=r)) (H:Hp) (ht:pg.my f=some (.code vf):=by exact rfl) (hn:a.length=vf.np:=by exact rfl) (hu:(br 0 a && !vf.keep)=true:=by exact rfl):cv pg f a H=some (r,H):=by
  rw[jm]at h;obtain⟨x,kn,e,H',h1,_,h2⟩:=qf (dT.nil _) h;obtain⟨r',h3,h4⟩:=oV (b:=0) h2;have hk:vf.keep=false:=by cases hh:vf.keep<;>simp_all
  refine Sc ht hn hu (h':=H'.take 0) ?_ H;rw[gB,h1,hk,h3,h4]
theorem xp {f:Nat} {vf:kK} {a:List V} {r:V} {H H2:Hp} (h:kA 0 a fun e=>wp pg H.length vf.body [] e H (wL vf.res H.length fun v H'=>v=r/\H'.take H.length=H2)) (ht:pg.my f=some (.code vf):=by exact rfl) (hn:a.length=vf.np:=by exact rfl) (hk:vf.keep=false:=by exact rfl) (hu:br 0 a=false:=by exact rfl):cv pg f a H=some (r,H2):=by
  rw[jm]at h;obtain⟨x,kn,e,H',h1,_,h2⟩:=qf (dT.nil _) h;obtain⟨r',h3,h4,h5⟩:=oV (b:=H.length) h2;rw[Fg ht hn (by rw[hu];rfl),gB,h1,hk,h3,h4,h5]
end
abbrev u8 (c:UInt8):V:= .d (.int .u8 c.toNat)
abbrev str (s:List UInt8):V:= .d (.str s)
abbrev i64 (n:Int):V:= .d (.int .i64 n)
abbrev boo (b:Bool):V:= .d (.bool b)
theorem tI {α:Type} {s:List α} {i:Nat} (h:i < s.length) {k:α->Prop} (hk:k s[i]):∃ c,((0:Int)<=(i:Int)/\s[(i:Int).toNat]? =some c)/\k c:=
 ⟨s[i],⟨om,by rw[b8,ae h]⟩,hk⟩
theorem BP {α:Type} {p:α->Bool} {s:List α} {i:Nat} (hi:i < s.length) (h:(s.take i).all p=true) (hp:p s[i]=true):(s.take (i+1)).all p=true:=by
 rw[dL,ae hi,ji,h];simp[hp]
theorem eV {α:Type} {l:List α} {n:Int} {d:α} (h:0<=n/\l[n.toNat]? =some d) {k:α->Prop} (hk:k d):∃ c,(0<=n/\l[n.toNat]? =some c)/\k c:=⟨d,h,hk⟩
theorem ej {b:Bool} {X Y:Prop} (h:b=true) (x:X):(b=true->X)/\(b=false->Y):=⟨fun _=>x,fun e=>by rw[h]at e;cases e⟩
theorem bz {b:Bool} {X Y:Prop} (h:b=false) (y:Y):(b=true->X)/\(b=false->Y):=⟨fun e=>by(rw[h]at e;cases e),fun _=>y⟩
theorem iS {b:Bool} {X Y:Prop} (h:b=true) (x:X):(b=false->Y)/\(b=(!false)->X):=⟨fun e=>by(rw[h]at e;cases e),fun _=>x⟩
theorem fv {b:Bool} {X Y:Prop} (h:b=false) (y:Y):(b=false->Y)/\(b=(!false)->X):=⟨fun _=>y,fun e=>by(rw[h]at e;cases e)⟩
theorem ju {b:Bool} {X Y:Prop} (h:b=true) (x:X):(b=true->X)/\(b=(!true)->Y):=⟨fun _=>x,fun e=>by(rw[h]at e;cases e)⟩
theorem fI {b:Bool} {X Y:Prop} (h:b=false) (y:Y):(b=true->X)/\(b=(!true)->Y):=⟨fun e=>by(rw[h]at e;cases e),fun _=>y⟩
theorem ca {x:Option (V×Hp)} {p:V->Hp->Prop} {r:V} {H:Hp} (h:x=some (r,H)) (k:p r H):∃ r H,x=some (r,H)/\p r H:=⟨r,H,h,k⟩
theorem PA {b:Bool} {l:List V} {k:List V->Prop} (h:b=true) (hk:k l):jw b (da l k):=Kt h (by rw[cy];exact hk)
theorem C8:∀ {c:List V} {n:Nat} {v:V},n < c.length->putAt c n [v]=c.set n v
 |[],n,v,h=>by simp at h
 |a::c,0,v,_=>by simp[putAt]
 |a::c,n+1,v,h=>by
  simp only[aw]at h;simp only[putAt,lu];rw[C8 om]
theorem Nm {α:Type} (f:α->V) {l:List α} {n:Nat} {a:α} (h:n < l.length):putAt (l.map f) n [f a]=(l.set n a).map f:=by
 rw[C8 (by rw[aE];exact h),List.map_set]
theorem fz {c:List V} {ds:List D} {p:List D->Prop} (h:kC c=some ds) (k:p ds):∃ ds,kC c=some ds/\p ds:=⟨ds,h,k⟩
theorem Zp {l:Hp} {k:Hp->Prop} (h:k l):da l k:=by rw[cy];exact h
theorem qt {pg:Pg} {ks:List Nat} {c:aU} {b:Nat} {α:Type} (μ:α->Nat) (E:α->Env) (Hf:α->Hp) (P:α->Prop) {Q:Ex->Kn->Env->Hp->Prop} {e0:Env} {h0:Hp}
 (step:∀ a,P a->tE (Hf a) 0 fun n=>tF (E a) ks fun e=>wp pg n c [] e (Hf a) (fun x _ e' H'=>match x with
   | .dN=>ze n e' ks fun e2=>da (H'.take n) fun H2=> ∃ a',P a'/\μ a' < μ a/\e2=E a'/\H2=Hf a'
   | .exit i=>Q (.exit i) [] e' H'
   | .ret=>Q .ret [] e' H')) (a:α) (ha:P a) (he:e0=E a) (hh:h0=Hf a):xQ pg b ks c e0 h0 Q:=by
 subst he;subst hh;exact wp_loop μ E Hf P step a ha
section
variable {pg:Pg} {b:Nat}
structure WQ (pg:Pg) (b:Nat) (c:aU) (kn:Kn) (e:Env) (H:Hp) (Q:Ex->Kn->Env->Hp->Prop):Prop where
 imp:dT kn e->∃ x kn' e' H',ev pg c ⟨e,H,b⟩=some (x,⟨e',H',b⟩)/\dT kn' e'/\Q x kn' e' H'
structure KS (pg:Pg) (b:Nat) (d:aU) (Q:Ex->Kn->Env->Hp->Prop) (x:Ex) (kn:Kn) (e:Env) (H:Hp):Prop where
 dN:x= .dN->WQ pg b d kn e H Q
 exit:∀ i,x= .exit i->Q (.exit i) kn e H
 ret:x= .ret->Q .ret kn e H
structure KB (id:Nat) (Q:Ex->Kn->Env->Hp->Prop) (x:Ex) (kn:Kn) (e:Env) (H:Hp):Prop where
 dN:x= .dN->Q .dN kn e H
 hit:∀ i,x= .exit i->i.beq id=true->Q .dN kn e H
 exit:∀ i,x= .exit i->i.beq id=false->Q (.exit i) kn e H
 ret:x= .ret->Q .ret kn e H
structure KL (P:Env->Hp->Prop) (Q:Ex->Kn->Env->Hp->Prop) (x:Ex) (e:Env) (H:Hp):Prop where
 dN:x= .dN->P e H
 exit:∀ i,x= .exit i->Q (.exit i) [] e H
 ret:x= .ret->Q .ret [] e H
variable {c d:aU} {Q:Ex->Kn->Env->Hp->Prop} {kn:Kn} {e:Env} {H:Hp}
theorem Y3 (h:WQ pg b d kn e H Q):KS pg b d Q .dN kn e H:=by constructor<;>intros<;>simp_all
theorem U5 {i:Nat} (h:Q (.exit i) kn e H):KS pg b d Q (.exit i) kn e H:=by constructor<;>intros<;>simp_all
theorem Y2 (h:Q .ret kn e H):KS pg b d Q .ret kn e H:=by constructor<;>intros<;>simp_all
theorem RC {id:Nat} (h:Q .dN kn e H):KB id Q .dN kn e H:=by constructor<;>intros<;>simp_all
theorem RD {id i:Nat} (hi:i.beq id=true) (h:Q .dN kn e H):KB id Q (.exit i) kn e H:=by constructor<;>intros<;>simp_all
theorem L6 {id i:Nat} (hi:i.beq id=false) (h:Q (.exit i) kn e H):KB id Q (.exit i) kn e H:=by constructor<;>intros<;>simp_all
theorem RB {id:Nat} (h:Q .ret kn e H):KB id Q .ret kn e H:=by constructor<;>intros<;>simp_all
theorem Rx {P:Env->Hp->Prop} (h:P e H):KL P Q .dN e H:=by constructor<;>intros<;>simp_all
theorem L2 {P:Env->Hp->Prop} {i:Nat} (h:Q (.exit i) [] e H):KL P Q (.exit i) e H:=by constructor<;>intros<;>simp_all
theorem Nl (h:wp pg b c kn e H Q):WQ pg b c kn e H Q:=⟨fun hk=>qf hk h⟩
theorem q_skip (h:Q .dN kn e H):WQ pg b .skip kn e H Q:=⟨fun hk=>⟨_,_,_,_,rfl,hk,h⟩⟩
theorem q_exit {i:Nat} (h:Q (.exit i) kn e H):WQ pg b (.exit i) kn e H Q:=⟨fun hk=>⟨_,_,_,_,rfl,hk,h⟩⟩
theorem Qf (h:Q .ret kn e H):WQ pg b .ret kn e H Q:=⟨fun hk=>⟨_,_,_,_,rfl,hk,h⟩⟩
theorem q_reg {ops:List aL} (h:wpOps pg b ops kn e H fun kn e H=>Q .dN kn e H):WQ pg b (.reg ops) kn e H Q:=⟨fun hk=>by
  obtain⟨kn',e',H',h1,hk',h2⟩:=qu hk h;exact⟨_,kn',e',H',by rw[Bo,OJ,h1];rfl,hk',h2⟩⟩
theorem Qh {m:Nat} {ops:List aL} (h:vv pg b m ops kn e H fun kn e H=>Q .dN kn e H):WQ pg b (.draw m ops) kn e H Q:=⟨fun hk=>by
  obtain⟨kn',e',H',h1,hk',h2⟩:=oS hk h;exact⟨_,kn',e',H',Fc pg h1,hk',h2⟩⟩
theorem Ek (d:Nat) {m:Nat} {ops:List aL} (hd:d < m) (hm:m<=ops.length) (h:DV pg b d m ops kn e H fun kn e H=>Q .dN kn e H):WQ pg b (.draw m ops) kn e H Q:=⟨fun hk=>by
  obtain⟨kn',e',H',h1,hk',h2⟩:=FV hd hm hk h;refine⟨.dN,kn',e',H',?_,hk',h2⟩;show(l8 pg.toCx (cv pg) m ops ⟨e,H,b⟩).map _=_;rw[h1];rfl⟩
theorem Wv (h:WQ pg b c kn e H (KS pg b d Q)):WQ pg b (.seq c d) kn e H Q:=⟨fun hk=>by
  obtain⟨x,kn',e',H',h1,hk',h2⟩:=h.imp hk;cases x with
  |dN=>
   obtain⟨x2,kn2,e2,H2,h3,hk2,h4⟩:=(h2.dN rfl).imp hk';exact⟨x2,kn2,e2,H2,by rw[qo,h1,Jc,h3],hk2,h4⟩
  |exit i=>exact⟨_,kn',e',H',by rw[qo,h1,Eb],hk',h2.exit _ rfl⟩
  |ret=>exact⟨_,kn',e',H',by rw[qo,h1,Jb],hk',h2.ret rfl⟩⟩
theorem El {id:Nat} (h:WQ pg b c kn e H (KB id Q)):WQ pg b (.block id c) kn e H Q:=⟨fun hk=>by
  obtain⟨x,kn',e',H',h1,hk',h2⟩:=h.imp hk;cases x with
  |dN=>exact⟨_,kn',e',H',by rw[nV,h1,Mz],hk',h2.dN rfl⟩
  |ret=>exact⟨_,kn',e',H',by rw[nV,h1,My],hk',h2.ret rfl⟩
  |exit i=>
   by_cases hi:i=id
   ·exact⟨_,kn',e',H',by rw[nV,h1,xG,ay hi],hk',h2.hit _ rfl (Ou hi)⟩
   ·exact⟨_,kn',e',H',by rw[nV,h1,xG,aA hi],hk',h2.exit _ rfl (KE hi)⟩⟩
theorem q_cond {i:Nat} (h:match look kn i with
      |some true=>WQ pg b c kn e H Q
      |some false=>WQ pg b d kn e H Q
      |none=>match gE e i with
       | .d (.bool t)=>(t=true->WQ pg b c ((i,true)::kn) e H Q)/\(t=false->WQ pg b d ((i,false)::kn) e H Q)
       |_=>False):WQ pg b (.cond (.t i) c d) kn e H Q:=⟨fun hk=>by
  have yes:di pg.toCx e (.t i)= .d (.bool true)->∀ {kn},dT kn e->WQ pg b c kn e H Q->∃ x kn' e' H',ev pg (.cond (.t i) c d) ⟨e,H,b⟩=some (x,⟨e',H',b⟩)/\dT kn' e'/\Q x kn' e' H':=by
   intro ht kn hk h;obtain⟨x,kn',e',H',h1,hk',h2⟩:=h.imp hk;exact⟨x,kn',e',H',by rw[rY];simp only[ht,pA,cU];exact h1,hk',h2⟩
  have no:di pg.toCx e (.t i)= .d (.bool false)->∀ {kn},dT kn e->WQ pg b d kn e H Q->∃ x kn' e' H',ev pg (.cond (.t i) c d) ⟨e,H,b⟩=some (x,⟨e',H',b⟩)/\dT kn' e'/\Q x kn' e' H':=by
   intro ht kn hk h;obtain⟨x,kn',e',H',h1,hk',h2⟩:=h.imp hk;exact⟨x,kn',e',H',by rw[rY];simp only[ht,pA];exact h1,hk',h2⟩
  split at h
  ·rename_i ht;exact yes (hk i _ ht) hk h
  ·rename_i ht;exact no (hk i _ ht) hk h
  ·rw[oC]at h;split at h
   ·rename_i t ht;cases t with
    |true=>exact yes ht (hk.add ht) (h.1 rfl)
    |false=>exact no ht (hk.add ht) (h.2 rfl)
   ·cases h⟩
theorem Gw {sz t:Nat} (h:wp pg b (.newrow sz t) kn e H Q):WQ pg b (.newrow sz t) kn e H Q:=Nl h
theorem C7 {sz t o:Nat} (h:wp pg b (.bindrow sz t o) kn e H Q):WQ pg b (.bindrow sz t o) kn e H Q:=Nl h
theorem Lj {sz:Nat} (h:wp pg b (.mkrow sz) kn e H Q):WQ pg b (.mkrow sz) kn e H Q:=Nl h
theorem Gy {t o k:Nat} (h:wp pg b (.bindto t o k) kn e H Q):WQ pg b (.bindto t o k) kn e H Q:=Nl h
theorem Qg {ks:List Nat} (h:tF e ks fun e=>xQ pg b ks c e H Q):WQ pg b (.loop ks c) kn e H Q:=Nl h
theorem qU {ks:List Nat} {α:Type} (μ:α->Nat) (E:α->Env) (Hf:α->Hp) (P:α->Prop)
 (step:∀ a,P a->tE (Hf a) 0 fun n=>tF (E a) ks fun e=>WQ pg n c [] e (Hf a) fun x _ e' H'=>KL (fun e' H'=>ze n e' ks fun e2=>da (H'.take n) fun H2=> ∃ a',P a'/\μ a' < μ a/\e2=E a'/\H2=Hf a') Q x e' H') (a:α) (ha:P a) {e0:Env} {h0:Hp} (he:e0=E a) (hh:h0=Hf a):xQ pg b ks c e0 h0 Q:=by
 subst he;subst hh;have key:∀ n,∀ a,μ a < n->P a->∃ x e' H',ev pg (.loop ks c) ⟨E a,Hf a,b⟩=some (x,⟨e',H',b⟩)/\Q x [] e' H':=by
  intro n;induction n with
  |zero=>intro a h;omega
  |succ n ih=>
   intro a hn ha;have st:=step a ha;rw[kU,qK,bt]at st;obtain⟨x,kn',e',H',h1,_,h2⟩:=st.imp (dT.nil _);rw[p7];simp only[h1];cases x with
   |dN=>
    have h2:=h2.dN rfl;simp only[xI,cy]at h2;obtain⟨a',h3,h4,h5,h6⟩:=h2;simp only[Ed,h5,h6];exact ih a' om h3
   |exit i=>exact⟨_,e',H',rfl,h2.exit _ rfl⟩
   |ret=>exact⟨_,e',H',rfl,h2.ret rfl⟩
 unfold xQ;exact key (μ a+1) a om ha
theorem oc {f:Nat} {vf:kK} {a:List V} {r:V} (h:kA 0 a fun e=>WQ pg 0 vf.body [] e [] (wL vf.res 0 fun v _=>v=r)) (H:Hp) (ht:pg.my f=some (.code vf):=by exact rfl) (hn:a.length=vf.np:=by exact rfl) (hu:(br 0 a && !vf.keep)=true:=by exact rfl):cv pg f a H=some (r,H):=by
  rw[jm]at h;obtain⟨x,kn,e,H',h1,_,h2⟩:=h.imp (dT.nil _);obtain⟨r',h3,h4⟩:=oV (b:=0) h2;have hk:vf.keep=false:=by cases hh:vf.keep<;>simp_all
  refine Sc ht hn hu (h':=H'.take 0) ?_ H;rw[gB,h1,hk,h3,h4]
theorem aY {f:Nat} {vf:kK} {a:List V} {r:V} {H H2:Hp} (h:kA 0 a fun e=>WQ pg H.length vf.body [] e H (wL vf.res H.length fun v H'=>v=r/\H'.take H.length=H2)) (ht:pg.my f=some (.code vf):=by exact rfl) (hn:a.length=vf.np:=by exact rfl) (hk:vf.keep=false:=by exact rfl) (hu:br 0 a=false:=by exact rfl):cv pg f a H=some (r,H2):=by
  rw[jm]at h;obtain⟨x,kn,e,H',h1,_,h2⟩:=h.imp (dT.nil _);obtain⟨r',h3,h4,h5⟩:=oV (b:=H.length) h2;rw[Fg ht hn (by rw[hu];rfl),gB,h1,hk,h3,h4,h5]
end
section
variable {b:Bool} {X Y:Prop}
theorem b1 (x:X) (h:b=true:=by first|with_reducible rfl|exact rfl|exact au (by assumption)|assumption):(b=true->X)/\(b=false->Y):=ej h x
theorem b2 (y:Y) (h:b=false:=by first|with_reducible rfl|exact rfl|exact ak (by assumption)|assumption):(b=true->X)/\(b=false->Y):=bz h y
theorem b3 (x:X) (h:b=true:=by first|with_reducible rfl|exact rfl|exact au (by assumption)|assumption):(b=false->Y)/\(b=(!false)->X):=iS h x
theorem b4 (y:Y) (h:b=false:=by first|with_reducible rfl|exact rfl|exact ak (by assumption)|assumption):(b=false->Y)/\(b=(!false)->X):=fv h y
end
theorem pk {α:Type} {l:List α} {n:Int} {d:α} {k:α->Prop} (hk:k d) (h:0<=n/\l[n.toNat]? =some d:=by exact⟨by first|decide|exact Int.NonNeg.mk _,rfl⟩):∃ c,(0<=n/\l[n.toNat]? =some c)/\k c:=⟨d,h,hk⟩
structure Left (P:Prop):Prop where
 f:P
theorem a1h {P Q:Prop} (q:Q) (g:Q->P:=by
  first
   |exact Wv|exact El|exact q_reg|exact q_cond|exact q_exit|exact Qf|exact q_skip|exact q_scope|exact Qh|exact Qg|exact Lj|exact Gy|exact q_freeze|exact Gw|exact C7):P:=g q
theorem XR {P Q:Prop} (q:Q) (g:Q->P:=by
  first
   |exact Wv|exact El|exact q_reg|exact q_cond|exact q_exit|exact Qf|exact q_skip|exact q_scope|exact q_drawn rfl|exact Qg|exact Lj|exact Gy|exact q_freeze|exact Gw|exact C7):P:=g q
theorem a4w {P Q:Prop} (q:Q) (g:Q->P:=by
  first
   |exact Y3|exact U5|exact Y2|exact RC|exact RD rfl|exact L6 rfl|exact RB|exact Rx|exact L2|exact kl_ret
   |exact ao (uQ _)
   |exact fun x=>b1 x|exact fun x=>b2 x|exact fun x=>b3 x|exact fun x=>b4 x|exact fun x=>b5 x|exact fun x=>b6 x
   |exact fun x=>pk x|exact ao rfl):P:=g q
theorem run {P Q:Prop} (q:Left Q) (h:Left Q->P:=by
  intro q
  first
   |((with_reducible show WQ _ _ _ _ _ _ _);refine a1h ?_)
   |((conv=>whnf);first|(with_reducible show WQ _ _ _ _ _ _ _)|refine a4w ?_)
  repeat' (first
    |((with_reducible show WQ _ _ _ _ _ _ _);refine a1h ?_)
    |((conv=>whnf);first|(with_reducible show WQ _ _ _ _ _ _ _)|refine a4w ?_)
    |fail)
  exact q.f):P:=h q
theorem a5l {P Q:Prop} (q:Left Q) (h:Left Q->P:=by
  intro q
  first
   |((with_reducible show WQ _ _ _ _ _ _ _);refine XR ?_)
   |((fail_if_success (with_reducible show WQ _ _ _ _ _ _ _));(conv=>whnf);first|(with_reducible show WQ _ _ _ _ _ _ _)|refine a4w ?_)
  repeat' (first
    |((with_reducible show WQ _ _ _ _ _ _ _);refine XR ?_)
    |((fail_if_success (with_reducible show WQ _ _ _ _ _ _ _));(conv=>whnf);first|(with_reducible show WQ _ _ _ _ _ _ _)|refine a4w ?_)
    |fail)
  exact q.f):P:=h q
theorem HA {cx:Cx} {t t':Nat->Option dF} (h:∀ f e,t f=some e->t' f=some e):∀ n,Tj (ic ⟨cx,t⟩ n) (ic ⟨cx,t'⟩ n)/\b1c (nP ⟨cx,t⟩ n) (nP ⟨cx,t'⟩ n)
 |0=>⟨fun _ _ _ _ h=>(nomatch ((mV _ _ _ _).symm.trans h)),fun _ _ _ _ h=>(nomatch ((oO _ _ _ _).symm.trans h))⟩
 |n+1=>by
  obtain⟨h1,h2⟩:=HA (cx:=cx) h n;refine⟨fun f a hh r hr=>?_,fun k b s r hr=>?_⟩
  ·rw[j5,qB]at hr⊢;split at hr
   ·cases hr
   ·rename_i Fp ht;rw[show(⟨cx,t'⟩:Pg).my f=some (.prim Fp)from h _ _ ht];exact hr
   ·rename_i vf ht;rw[show(⟨cx,t'⟩:Pg).my f=some (.code vf)from h _ _ ht];split at hr
    ·rename_i hl;show(if a.length=vf.np then _ else none)=some r;rw[ay hl];refine FH (fun h r hr=>?_) hr;cases hx:fg cx (ic ⟨cx,t⟩ n) (nP ⟨cx,t⟩ n) vf.body ⟨cJ a,h,h.length⟩with
     |none=>rw[hx]at hr;cases hr
     |some q=>rw[hx]at hr;rw[l9 h1 h2 hx];exact hr
    ·cases hr
  ·rw[mP]at hr⊢;exact l9 h1 h2 hr
theorem Vz {cx:Cx} {t t':Nat->Option dF} (h:∀ f e,t f=some e->t' f=some e) {f:Nat} {a:List V} {H:Hp} {r:V×Hp} (he:cv ⟨cx,t⟩ f a H=some r):cv ⟨cx,t'⟩ f a H=some r:=by
 obtain⟨n,hn⟩:=jG.1 he;exact jG.2 ⟨n,(HA h n).1 _ _ _ _ hn⟩
end Go.Vm
namespace Go.Vm.Ip
def preB (s p:S):Bool:=decide (p.length<=s.length) && decide (s.take p.length=p)
def known (l:List S) (s:S):Bool:=(pos l s).isSome
def nam (l:List TA) (s:S):TA:=match pos (l.map TA.n) s with
 |some i=>l.getD i default
 |none=>⟨[],[]⟩
end Go.Vm.Ip
namespace Go.Vm.Ite
noncomputable def b9 (fx:Nat->Option Obj) (F:Nat->Option dF):Pg:=⟨⟨fun _=>[],fx⟩,my F⟩
abbrev F0:Nat->Option dF:=fun _=>none
theorem mv (fx:Nat->Option Obj):ud (b9 fx F0):=QX _ _ (fun _ _ h=>nomatch h)
theorem XK (F:Nat->Option dF):∀ f e,my F0 f=some e->my F f=some e:=by
 intro f e h;unfold my CV at h⊢;generalize List.find? _ codes=o at h⊢;cases o
 ·cases h
 ·exact h
theorem up {fx:Nat->Option Obj} {F:Nat->Option dF} {f:Nat} {a:List V} {H:Hp} {r:V×Hp} (h:cv (b9 fx F0) f a H=some r):cv (b9 fx F) f a H=some r:=Vz (XK F) h
end Go.Vm.Ite
namespace Go.Vm.Ite
open Go.Vm.Ip
abbrev Df:Nat:=58
abbrev wU:Nat:=95
abbrev n9:Nat:=87
abbrev yQ:Nat:=129
class HL (F:Nat->Option dF):Prop where
 utf:F 58=some (.prim rA)
 dec:F 95=some (.prim kY)
 ib:F 87=some (.prim ia)
 par:F 129=some (.prim lA)
section
variable {fx:Nat->Option Obj} {F:Nat->Option dF}
theorem MZ [HL F]:(b9 fx F).my Df=some (.prim rA):=(HL.utf:F 58=_)
theorem D7 [HL F]:(b9 fx F).my wU=some (.prim kY):=(HL.dec:F 95=_)
theorem sn [HL F]:(b9 fx F).my n9=some (.prim ia):=(HL.ib:F 87=_)
theorem Ga [HL F]:(b9 fx F).my yQ=some (.prim lA):=(HL.par:F 129=_)
theorem Vi (s p:S) (H:Hp):cv (b9 fx F) lW [str s,str p] H=some (boo (preB s p),H):=by
 refine oc ?_ H;unfold preB;by_cases h:p.length<=s.length
 ·have h':((p.length:Nat):Int)<=((s.length:Nat):Int):=om;have hn:(0:Int)<=((p.length:Nat):Int):=om;have hb:(0:Nat)<=((p.length:Nat):Int).toNat/\((p.length:Nat):Int).toNat<=s.length:=⟨aR _,h⟩
  repeat' (first|refine run ⟨?_⟩|refine ao hn ?_|refine ao hb ?_|fail)
  rw[au h,eE];exact rfl
 ·have h':¬ ((p.length:Nat):Int)<=((s.length:Nat):Int):=om;refine run ⟨?_⟩;rw[ak h];exact rfl
theorem Uh (s p:S):preB s p=Lib.hasPrefix s p:=by
 unfold preB Lib.hasPrefix;rw[jj];simp only[ab,an,List.isPrefixOf_iff_prefix];constructor
 ·rintro⟨_,h⟩;exact⟨s.drop p.length,(aG (· ++s.drop p.length) h.symm).trans (bG ..)⟩
 ·rintro⟨t,rfl⟩;simp
theorem a7y (H:Hp) (s p:S):cv (b9 fx F) ve [str s,str p] H=some (boo (Lib.hasPrefix s p),H):=by
 rw[<-Uh];refine oc ?_ H;have e1:=Vi (fx:=fx) (F:=F) s p
 repeat' (first|refine run ⟨?_⟩|refine ca (e1 _) ?_|fail)
 exact rfl
end
end Go.Vm.Ite
namespace Go.Vm.Lex
open Go.Vm.Ite
section
variable {fx:Nat->Option Obj} {F:Nat->Option dF} [HL F] (H:Hp)
theorem yr (c:UInt8):cv (b9 fx F) EI [u8 c] H=some (boo (a1z c),H):=by
 have _u:=(inferInstance:HL F);refine eB ?_ H
 repeat' refine ao (fun h=>?_) (fun h=>?_)
 all_goals show _=_
 all_goals simp[oneOf,a1z]at*
 all_goals grind
theorem xx (c:UInt8):cv (b9 fx F) G1 [u8 c] H=some (boo (vX c),H):=by
 have _u:=(inferInstance:HL F);refine eB ?_ H
 repeat' refine ao (fun h=>?_) (fun h=>?_)
 all_goals show _=_
 all_goals simp[oneOf,vX]at*
 all_goals omega
theorem KZ (s:List UInt8):cv (b9 fx F) JR [str s] H=some (boo (sj s),H):=by
 have _u:=(inferInstance:HL F);refine eB ?_ H
 repeat' refine ao (fun h=>?_) (fun h=>?_)
 all_goals show _=_
 all_goals simp only[an,bX]at*
 all_goals simp[oneOf,sj,IU, *]
theorem tI {α:Type} {s:List α} {i:Nat} (h:i < s.length) {k:α->Prop} (hk:k s[i]):∃ c,((0:Int)<=(i:Int)/\s[(i:Int).toNat]? =some c)/\k c:=
 ⟨s[i],⟨om,by rw[b8,ae h]⟩,hk⟩
theorem EU {s:List UInt8} (h:s≠[]) {k:UInt8->Prop} (hk:k (hd0 s)):∃ c,((0:Int)<=0/\s[(0:Int).toNat]? =some c)/\k c:=by
 cases s with
 |nil=>exact absurd rfl h
 |cons c r=>exact⟨c,⟨cI _,rfl⟩,hk⟩
theorem a1w {s:List UInt8} {i:Nat} (hi:i<=s.length) (h:¬ ((i:Int) < (s.length:Int))):i=s.length:=om
theorem BP {p:UInt8->Bool} {s:List UInt8} {i:Nat} (hi:i < s.length) (h:(s.take i).all p=true) (hp:p s[i]=true):(s.take (i+1)).all p=true:=by
 rw[dL,ae hi,ji,h];simp[hp]
theorem PE (s:List UInt8) (hs:s.length<=maxLen):cv (b9 fx F) G0 [str s] H=some (boo (qg s),H):=by
 have hm:s.length<=9223372036854775807:=hs;refine eB ?_ H;by_cases h0:s=[]
 ·subst h0
  repeat' (refine ao (fun h=>?_) (fun h=>?_)<;>try(exfalso;simp at h;done))
  all_goals rfl
 by_cases h1:s=[95]
 ·subst h1
  repeat' (refine ao (fun h=>?_) (fun h=>?_)<;>try(exfalso;simp at h;done))
  all_goals rfl
 repeat' (first
     |(refine ao (fun h=>?_) (fun h=>?_)<;>try(exfalso;simp_all;done))
     |refine EU (by assumption) ?_
     |refine aO _ (aO _ (ao (yr _ _) ?_))
     |refine aO _ (aO _ (ao (xx _ _) ?_)))
 all_goals first
   |(show _=_;simp_all[oneOf,qg];done)
   |(show _=_;obtain⟨c,r,rfl⟩:=List.exists_cons_of_ne_nil h0;simp_all[oneOf,qg,mS,hd0];done)
   |skip
 refine wp_loop (α:=Nat) (fun i=>s.length - i) (fun i=>[(0,str s),(16,i64 s.length),(17,i64 i)]) (fun _=>[]) (fun i=>i<=s.length/\(s.take i).all mS=true) ?_ 0 ⟨om,by simp⟩;rintro i ⟨hi,hall⟩;refine ao (fun hl=>?_) (fun hl=>?_)
 ·replace hl:=af hl;have hlt:i < s.length:=om
  repeat' (first
      |(refine ao (fun h=>?_) (fun h=>?_)<;>try(exfalso;simp_all;done))
      |refine tI hlt ?_
      |refine aO _ (aO _ (ao (yr _ _) ?_))
      |refine aO _ (aO _ (ao (xx _ _) ?_)))
  all_goals first
    |(show _=_
      have:s.all mS=false:=by
       cases hb:s.all mS with
       |false=>rfl
       |true=>
        have:=aC.1 hb s[i] (dG _);simp_all[mS]
      simp[oneOf,qg,this];done)
    |(refine⟨i+1,⟨om,BP hlt hall (by simp_all[mS])⟩,om,?_,rfl⟩
      rw[eK om];rfl)
 ·replace hl:=bw hl;have hi:i=s.length:=om;rw[hi,cb]at hall;show _=_;have hd:vX (hd0 s)=false:=by
   first|assumption|(have hl:a1z (hd0 s)=true:=by simp_all
                     simp[a1z,vX]at hl⊢;omega)
  simp[oneOf,qg,h0,h1,hall,hd]
end
def sR:List (List UInt8):=[[58,58],[45,62],[61,62],[61,61],[33,61],[60,61],[62,61],[38,38],[124,124]]
def Dd:List UInt8:=[40,41,123,125,60,62,44,59,58,61,43,45,42,47,37,38,33,46,95]
def gH (s:List UInt8):List UInt8:=if 1 < s.length/\s.take 2∈sR then s.take 2 else if s≠[]/\hd0 s∈Dd then s.take 1 else[]
def IG (c:UInt8):Bool:=decide (c=32\/c=9\/c=10\/c=13)
def bj:Bool->List UInt8->Nat
 |_,[]=>0
 |false,c::r=>if IG c then bj false r+1 else if c=47/\r.head? =some 47 then bj true r+1 else 0
 |true,c::r=>if c=10 then bj false r+1 else bj true r+1
theorem jc:∀ (b:Bool) (s:List UInt8),bj b s<=s.length
 |b,[]=>by cases b<;>simp[bj]
 |false,c::r=>by
  have h1:=jc false r;have h2:=jc true r;unfold bj;repeat' split
  all_goals simp;try omega
 |true,c::r=>by
  have h1:=jc false r;have h2:=jc true r;unfold bj;repeat' split
  all_goals simp;try omega
theorem jY (c:UInt8) (r:List UInt8):bj false (c::r)=if IG c then bj false r+1 else if c=47/\r.head? =some 47 then bj true r+1 else 0:=rfl
theorem pR (c:UInt8) (r:List UInt8):bj true (c::r)=if c=10 then bj false r+1 else bj true r+1:=rfl
theorem x8 (b:Bool):bj b []=0:=by cases b<;>rfl
theorem Vg (b:UInt8) (l:List UInt8) (c:UInt8):Lib.indexByte (b::l) c=if b==c then 0 else if Lib.indexByte l c== -1 then -1 else Lib.indexByte l c+1:=rfl
theorem Jn:∀ l:List UInt8,bj true l=if Lib.indexByte l 10= -1 then l.length else(Lib.indexByte l 10).toNat+bj false (l.drop (Lib.indexByte l 10).toNat)
 |[]=>by simp[x8,Lib.indexByte]
 |c::r=>by
  have ih:=Jn r;have hg:=Lib.indexByte_ge r 10;rw[pR,Vg];by_cases hc:c=10
  ·subst hc;simp[jY,IG]
  ·by_cases hn:Lib.indexByte r 10= -1
   ·simp[hc,hn]at ih⊢;exact ih
   ·simp only[hc,hn,iE,iZ]at ih⊢;have e1:(Lib.indexByte r 10+1).toNat=(Lib.indexByte r 10).toNat+1:=om;have e2:¬ (Lib.indexByte r 10+1= -1):=om;rw[aA e2,e1,cm,ih];generalize bj false (List.drop (Lib.indexByte r 10).toNat r)=q;omega
def Tv (c:UInt8):Nat:=c.toNat - 48
def zW (n:Nat) (s:List UInt8):Nat:=s.foldl (fun n c=>n*10+Tv c) n
theorem qw (n:Nat) (c:UInt8) (r:List UInt8):zW n (c::r)=zW (n*10+Tv c) r:=fL ..
def IZ (s:List UInt8):Nat:=zW 0 s
def gd (s:List UInt8):Bool:=s.all vX && decide (IZ s<=9223372036854775807)
theorem K0:∀ (s:List UInt8) (n:Nat),n<=zW n s
 |[],n=>ai _
 |c::r,n=>by have:=K0 r (n*10+Tv c);rw[qw];omega
def V2 (n:Nat) (s:List UInt8) (r:Lib.NumEnd Nat):Prop:=match r with
 | .ok u=>s.all vX=true/\u=zW n s
 |_=> ¬ (s.all vX=true/\zW n s<=9223372036854775807)
theorem Ns {M:Nat} (hM:9223372036854775807<=M) (s:List UInt8):∀ (n:Nat),V2 n s (Lib.parseUintM M n s):=by
 induction s with
 |nil=>intro n;exact⟨rfl,rfl⟩
 |cons c r ih=>
  intro n;have hge:=K0 r (n*10+Tv c);have ih:=ih (n*10+Tv c);unfold Lib.parseUintM;rw[show c.toNat - 48=Tv c from rfl];by_cases hd:48<=c.toNat/\c.toNat<=57
  ·have hD:vX c=true:=by simp[vX,hd]
   rw[ay hd];by_cases h1:1844674407370955162<=n
   ·rw[ay h1];show ¬ _;rw[qw];omega
   ·rw[aA h1];by_cases h2:M < n*10+Tv c
    ·rw[ay h2];show ¬ _;rw[qw];omega
    ·rw[aA h2];have e:(c::r).all vX=r.all vX:=by rw[aQ,hD,eE]
     cases hr:Lib.parseUintM M (n*10+Tv c) r with
     |ok u=>rw[hr]at ih;exact⟨by rw[e];exact ih.1,ih.2.trans (qw ..).symm⟩
     |_=>rw[hr]at ih;show ¬ _;rw[e,qw];exact ih
  ·rw[aA hd];show ¬ ((c::r).all vX=true/\_);have e:vX c=false:=by simp[vX];omega
   simp[e]
structure Tk where
 k:Int
 t:List UInt8
 v:Int
 n:Nat
 e:Int
def cf (w:List UInt8->Nat) (s:List UInt8):Tk:=
 if 0 < dS s/\vX (hd0 s)=true then(if gd (s.take (dS s)) then⟨3,s.take (dS s),IZ (s.take (dS s)),dS s,0⟩ else⟨0,[],0,dS s,112⟩)
 else if 0 < dS s/\s.take (dS s)≠[95] then(if 64 < dS s then⟨0,[],0,dS s,2⟩ else⟨if sj (s.take (dS s)) then 2 else 1,s.take (dS s),0,dS s,0⟩)
 else if gH s≠[] then⟨4,gH s,0,(gH s).length,0⟩
 else⟨0,[],0,w s,111⟩
def FU (c:UInt8):Nat:=if 194<=c.toNat/\c.toNat<=223 then 2 else if 224<=c.toNat/\c.toNat<=239 then 3 else if 240<=c.toNat/\c.toNat<=244 then 4 else 0
def Gb (c:UInt8):Nat:=if c.toNat=224 then 160 else if c.toNat=240 then 144 else 128
def M3 (c:UInt8):Nat:=if c.toNat=237 then 159 else if c.toNat=244 then 143 else 191
def tX (b:UInt8):Bool:=decide (128<=b.toNat/\b.toNat<=191)
def hd1:List UInt8->UInt8
 |_::b::_=>b
 |_=>0
def ed (s:List UInt8):Nat:=
 if s=[] then 0
 else if(hd0 s).toNat < 128 then 1
 else if FU (hd0 s)=0 then 0
 else if s.length < FU (hd0 s)\/(hd1 s).toNat < Gb (hd0 s)\/M3 (hd0 s) < (hd1 s).toNat then 0
 else if((s.take (FU (hd0 s))).drop 2).all tX then FU (hd0 s) else 0
theorem XP (c:UInt8):FU c=0\/(2<=FU c/\FU c<=4):=by
 unfold FU
 repeat' split
 all_goals omega
theorem xX (s:List UInt8):ed s<=s.length:=by
 unfold ed
 repeat' split
 all_goals first|omega|skip
 rename_i h _;cases s with
 |nil=>exact absurd rfl h
 |cons c r=>simp
theorem pO (s:List UInt8) (h:¬ (s=[]\/ed s=0)):(s.drop (ed s)).length < s.length:=by
 have:s.length≠0:=fun e=>h (.inl (cp.1 e));rw[bh];omega
def strange (at_:Nat) (s:List UInt8):Int:=if h:s=[]\/ed s=0 then(if s=[] then -1 else(at_:Int)) else strange (at_+ed s) (s.drop (ed s))
termination_by s.length
decreasing_by exact pO s h
theorem gF (at_:Nat):strange at_ []= -1:=by rw[strange];simp
theorem nA (at_:Nat) {s:List UInt8} (h:s≠[]) (h0:ed s=0):strange at_ s=at_:=by rw[strange];simp[h,h0]
theorem lM (at_:Nat) {s:List UInt8} (h:s≠[]) (h0:ed s≠0):strange at_ s=strange (at_+ed s) (s.drop (ed s)):=by rw[strange];simp[h,h0]
section
variable {fx:Nat->Option Obj} {F:Nat->Option dF} [HL F] (H:Hp)
theorem zD (s:List UInt8) (hs:s.length<=maxLen):cv (b9 fx F) JS [str s] H=some (boo (de s),H):=by
 refine eB ?_ H
 repeat' (first
     |(refine ao (fun h=>?_) (fun h=>?_))
     |refine aO _ (aO _ (ao (PE _ _ hs) ?_))
     |refine aO _ (aO _ (ao (KZ _ _) ?_)))
 all_goals show _=_
 all_goals clear hs
 all_goals have e:((s.length:Int)<=64)=(s.length<=64):=by simp only[eq_iff_iff];omega
 all_goals simp only[e]at*
 all_goals clear e
 all_goals simp only[Bool.not_true,eP,an,bX]at*
 all_goals simp[oneOf,de, *]
theorem X7 (s:List UInt8) (hs:s.length<=maxLen):cv (b9 fx F) NK [str s] H=some (i64 (dS s:Nat),H):=by
 have hm:s.length<=9223372036854775807:=hs;refine eB ?_ H;refine wp_loop (α:=Nat) (fun i=>s.length - i) (fun i=>[(0,str s),(3,i64 i)]) (fun _=>[]) (fun i=>i<=s.length/\i+dS (s.drop i)=dS s) ?_ 0 ⟨om,by simp⟩;rintro i ⟨hi,hr⟩;refine ao (fun hl=>?_) (fun hl=>?_)
 ·replace hl:=af hl;have hlt:i < s.length:=om;rw[M8 (ae hlt)]at hr
  repeat' (first
      |(refine ao (fun h=>?_) (fun h=>?_)<;>try(exfalso;(have h1:=h;simp_all;done)))
      |refine tI hlt ?_
      |refine aO _ (aO _ (ao (yr _ _) ?_))
      |refine aO _ (aO _ (ao (xx _ _) ?_)))
  all_goals first
    |(show _=_
      have:mS s[i]=false:=by simp_all[mS]
      rw[this]at hr;simp at hr;simp[oneOf,hr];done)
    |(have:mS s[i]=true:=by simp_all[mS]
      rw[this]at hr;simp at hr;refine⟨i+1,⟨om,om⟩,om,?_,rfl⟩;rw[eK om];rfl)
 ·replace hl:=bw hl;rw[P2 om]at hr
  repeat' (refine ao (fun h=>?_) (fun h=>?_)<;>try(exfalso;simp at h;done))
  all_goals show _=_
  all_goals simp[oneOf]
  all_goals omega
theorem XB (s:List UInt8):cv (b9 fx F) NJ [str s] H=some (boo (decide (s∈sR)),H):=by
 have _u:=(inferInstance:HL F);refine eB ?_ H
 repeat' refine ao (fun h=>?_) (fun h=>?_)
 all_goals show _=_
 all_goals simp only[an,bX]at*
 all_goals simp[oneOf,sR, *]
theorem Du (s:List UInt8) (c:UInt8):cv (b9 fx F) n9 [str s,u8 c] H=some (i64 (Lib.indexByte s c),H):=by
 rw[jT (sn (F:=F))];show some (V.d (D.int .i64 (Lib.indexByte s ((c.toNat:Int)).toNat.toUInt8)),H)=_;simp
theorem J0 (s:List UInt8) (c:UInt8):0<=Lib.indexByte s c↔c∈s:=by
 have hg:=Lib.indexByte_ge s c;constructor
 ·intro h;have:=(Lib.indexByte_some (o:=(Lib.indexByte s c).toNat) (l:=s) (c:=c) om).1;exact aT this
 ·intro h;apply fi;intro hn;have h1:Lib.indexByte s c= -1:=om;obtain⟨k,hk⟩:=fp.1 h;exact Lib.indexByte_none h1 k hk
theorem zx (s:List UInt8):cv (b9 fx F) JQ [str s] H=some (str (gH s),H):=by
 refine eB ?_ H;cases s with
 |nil=>
  repeat' (refine ao (fun h=>?_) (fun h=>?_)<;>try(exfalso;simp at h;done))
  all_goals rfl
 |cons c r=>
  repeat' (first
      |(refine ao (fun h=>?_) (fun h=>?_)<;>try(exfalso;(simp at h;done)))
      |refine ao ⟨aR _,by first|(simp;done)|(simp at*;omega)⟩ ?_
      |refine EU (by simp) ?_
      |refine aO _ (aO _ (ao (XB _ _) ?_))
      |refine aO _ (aO _ (ao (Du _ _ _) ?_)))
  all_goals show _=_
  all_goals simp only[an,bX,J0,bq,gt_iff_lt,ge_iff_le]at*
  all_goals simp_all[oneOf,gH,hd0,Dd]
  all_goals intros
  all_goals first|omega|(subst_vars;simp at*;done)
end
section
variable {fx:Nat->Option Obj} {F:Nat->Option dF} [HL F] (H:Hp)
theorem OX (c:UInt8):c∈([32,9,10,13]:List UInt8)↔IG c=true:=by simp[IG]
theorem uo (s:List UInt8) (i:Nat):List.drop (Int.toNat (i:Int)) (List.take s.length s)=s.drop i:=by simp
theorem Mc (c:UInt8) (r:List UInt8):Lib.hasPrefix (c::r) [47,47]=true↔c=47/\r.head? =some 47:=by
 cases r with
 |nil=>simp[Lib.hasPrefix,List.isPrefixOf]
 |cons d r=>simp[Lib.hasPrefix,List.isPrefixOf];constructor<;>(rintro⟨rfl,rfl⟩;exact⟨rfl,rfl⟩)
theorem Nh (c:UInt8) (r:List UInt8) (h:c=47/\r.head? =some 47):bj false (c::r)=bj true (c::r):=by
 obtain⟨rfl,h⟩:=h;rw[jY,pR,h];simp[IG]
theorem K8 (s:List UInt8) (hs:s.length<=maxLen) (at_:Nat) (ha:at_<=s.length):cv (b9 fx F) AY [str s,i64 at_] H=some (i64 ((at_+bj false (s.drop at_):Nat)),H):=by
 have hm:s.length<=9223372036854775807:=hs;refine eB ?_ H;generalize hT:at_+bj false (s.drop at_)=T;refine wp_loop (α:=Nat) (fun i=>s.length - i) (fun i=>[(0,str s),(1,i64 i)]) (fun _=>[]) (fun i=>i<=s.length/\i+bj false (s.drop i)=T) ?_ at_ ⟨ha,hT⟩;clear hT ha at_;rintro i ⟨hi,hr⟩;refine ao (fun hl=>?_) (fun hl=>?_)
 ·replace hl:=af hl;have hlt:i < s.length:=om;have hd:s.drop i=s[i]::s.drop (i+1):=bV hlt;have hle:=jc false (s.drop i);rw[bh]at hle;refine tI hlt ?_;refine aO _ (aO _ (ao (Du _ _ _) ?_));refine ao (fun h=>?_) (fun h=>?_)
  ·replace h:=(J0 _ _).1 (af h);rw[OX]at h;refine⟨i+1,⟨om,?_⟩,om,?_,rfl⟩
   ·rw[hd,jY,ay h]at hr;omega
   ·rw[eK om];rfl
  replace h:=fun e=>(bw h) ((J0 _ _).2 ((OX _).2 e));refine ao om ?_;refine ao ⟨om,om⟩ ?_;refine aO _ (aO _ (ao (a7y _ _ _) ?_));refine ao (fun h2=>?_) (fun h2=>?_)
  ·rw[uo,hd,Mc]at h2;have hr2:i+bj true (s.drop i)=T:=by rw[<-hr,hd,Nh _ _ h2]
   rw[Jn]at hr2;have hg:=Lib.indexByte_ge (s.drop i) 10;refine ao om ?_;refine ao ⟨om,om⟩ ?_;refine aO _ (aO _ (ao (Du _ _ 10) ?_));refine ao (fun h3=>?_) (fun h3=>?_)
   ·rw[uo]at h3;replace h3:=af h3;rw[ay om,bh]at hr2;show _=_;simp only[oneOf];congr 3;omega
   ·rw[uo]at h3;replace h3:=bw h3;rw[aA om]at hr2;have hpos:Lib.indexByte (s.drop i) 10≠0:=by
     intro e;have:=(Lib.indexByte_some (o:=0) (by rw[e];rfl:Lib.indexByte (s.drop i) 10=((0:Nat):Int))).1;rw[hd]at this;simp[h2.1]at this
    have hlen:=(az.1 (Lib.indexByte_some (o:=(Lib.indexByte (s.drop i) 10).toNat) (l:=s.drop i) (c:=10) om).1).1;rw[bh]at hlen;refine⟨i+(Lib.indexByte (s.drop i) 10).toNat,⟨om,?_⟩,om,?_,rfl⟩
    ·rw[cr]at hr2;omega
    ·rw[uo,eK om];congr 3;simp;omega
  ·rw[uo,hd,<-Bool.not_eq_true,Mc]at h2;rw[hd,jY,aA h,aA h2]at hr;show _=_;simp only[oneOf];congr 3
 ·replace hl:=bw hl;rw[bU om,x8]at hr;show _=_;simp only[oneOf];congr 3
end
def II (k:Int) (t:List UInt8) (v f e:Int):D:= .agg [.int .i64 k,.str t,.int .i64 v,.int .i64 f,.int .i64 e]
def zk (c f e:Int):D:= .agg [.int .i64 c,.int .i64 f,.int .i64 e]
def wD (s:List UInt8):Nat:=(BC ⟨s.toArray⟩).2
def UG (s:List UInt8):V:= .tup [.d (II (if gd s then 3 else 0) (if gd s then s else[]) (if gd s then IZ s else 0) 0 0),i64 (if gd s then 0 else 112)]
def D3 (s:List UInt8):V:= .tup [.d (II (cf wD s).k (cf wD s).t (cf wD s).v 0 0),i64 (cf wD s).n,i64 (cf wD s).e]
section
variable {fx:Nat->Option Obj} {F:Nat->Option dF} [HL F] (H:Hp)
theorem NH (s:List UInt8) (hs:s.length<=281474976710656) (h0:s≠[]):cv (b9 fx F) EH [str s] H=some (UG s,H):=by
 have key:=Ns (M:=18446744073709551615) om s 0;have hp:Lib.parseUintB 64 s=Lib.parseUintM 18446744073709551615 0 s:=by unfold Lib.parseUintB;rw[aA h0]
 have hpr:∀ H:Hp,cv (b9 fx F) yQ [str s,i64 10,i64 64] H=(match Lib.parseUintB 64 s with
       | .ok u=>some (.tup [.d (.int .u64 u),.ifc true],H)
       | .range=>some (.tup [.d (.int .u64 18446744073709551615),.ifc false],H)
       |_=>some (.tup [.d (.int .u64 0),.ifc false],H)):=by
   intro H;rw[jT (Ga (F:=F))];exact ay ⟨⟨rfl,rfl⟩,hs⟩
 rw[hp]at hpr;refine eB ?_ H;cases hr:Lib.parseUintM 18446744073709551615 0 s with
 |ok u=>
  rw[hr]at hpr key;obtain⟨k1,k2⟩:=key;refine aO _ (aO _ (ao (hpr _) ?_));by_cases hu:u<=9223372036854775807
  ·have hn:gd s=true:=by simp[gd,k1];show zW 0 s<=_;omega
   repeat' (refine ao (fun h=>?_) (fun h=>?_)<;>try(exfalso;simp at h;done))
   all_goals first
     |(exfalso;have h1:=af h;omega)
     |(show _=_
       simp only[oneOf,UG,hn,cU,II];rw[eK om,k2];rfl)
  ·have hn:gd s=false:=by simp[gd,k1];show _ < zW 0 s;omega
   repeat' (refine ao (fun h=>?_) (fun h=>?_)<;>try(exfalso;simp at h;done))
   all_goals first
     |(exfalso;have h1:=bw h;omega)
     |(show _=_
       simp only[oneOf,UG,hn,II];rfl)
 |_=>
  rw[hr]at hpr key;refine aO _ (aO _ (ao (hpr _) ?_));have hn:gd s=false:=by
   cases hb:gd s with
   |false=>rfl
   |true=>simp[gd]at hb;exact absurd ⟨aC.2 hb.1,hb.2⟩ key
  repeat' (refine ao (fun h=>?_) (fun h=>?_)<;>try(exfalso;simp at h;done))
  all_goals
   show _=_;simp only[oneOf,UG,hn,II];try rfl
theorem SD (s:List UInt8):cv (b9 fx F) wU [str s] H=some (.tup [.d (.int .i32 (BC ⟨s.toArray⟩).1),i64 (wD s)],H):=by
 rw[jT (D7 (F:=F))];try rfl
theorem Pf (s:List UInt8) (hs:s.length<=281474976710656):cv (b9 fx F) yR [str s] H=some (D3 s,H):=by
 have hm:s.length<=maxLen:=by unfold maxLen;omega
 have hrl:=uC s;have e1:List.drop 0 (List.take (Int.toNat ((dS s:Nat):Int)) s)=s.take (dS s):=by simp
 refine eB ?_ H;refine aO _ (aO _ (ao (X7 _ _ hm) ?_));by_cases hr:0 < dS s
 ·have hne:s≠[]:=by rintro rfl;simp[dS]at hr
  refine ao (fun h=>?_) (fun h=>?_)
  ·refine EU hne ?_;refine aO _ (aO _ (ao (xx _ _) ?_));refine ao (fun hd=>?_) (fun hd=>?_)
   ·refine ao om ?_;refine ao ⟨om,om⟩ ?_;have htn:s.take (dS s)≠[]:=by
     intro e;rw[List.take_eq_nil_iff]at e;rcases e with e|e;omega;exact hne e
    refine aO _ (aO _ (ao (NH _ _ (by rw[e1,bm];omega) (by rw[e1];exact htn)) ?_));show _=_;rw[e1];simp only[oneOf,D3,cf,ay (ao hr hd),II];cases gd (s.take (dS s))<;>rfl
   ·have hd':¬ (0 < dS s/\vX (hd0 s)=true):=by rw[hd];simp
    refine ao (fun h3=>?_) (fun h3=>?_)
    ·refine ao om ?_;refine ao ⟨om,om⟩ ?_;refine ao (fun h4=>?_) (fun h4=>?_)
     ·rw[e1]at h4;simp only[dv,bX]at h4;refine ao om ?_;refine ao ⟨om,om⟩ ?_;refine aO _ (aO _ (ao (KZ _ _) ?_));rw[e1];refine ao (fun h5=>?_) (fun h5=>?_)
      all_goals
       refine ao (fun h6=>?_) (fun h6=>?_)
       ·replace h6:=af h6;show _=_;simp only[oneOf,D3,cf,aA hd',ay (ao hr h4),ay (show 64 < dS s by omega),II];try rfl
       ·replace h6:=bw h6;refine ao om ?_;refine ao ⟨om,om⟩ ?_;show _=_;rw[e1];simp only[oneOf,D3,cf,aA hd',ay (ao hr h4),aA (show ¬ 64 < dS s by omega),h5,II];try rfl
     ·rw[e1]at h4;simp only[Bool.not_eq_false',an]at h4;have h4':¬ (0 < dS s/\s.take (dS s)≠[95]):=fun e=>e.2 h4;refine aO _ (aO _ (ao (zx _ _) ?_));refine ao (fun h7=>?_) (fun h7=>?_)
      ·simp only[dv,bX]at h7;show _=_;simp only[oneOf,D3,cf,aA hd',aA h4',ay h7,II];try rfl
      ·simp only[Bool.not_eq_false',an]at h7;refine aO _ (aO _ (ao (SD _ _) ?_));show _=_;simp only[oneOf,D3,cf,aA hd',aA h4',h7,II,ne_eq,not_true,iE];try rfl
    ·exfalso;simp at h3;omega
  ·exfalso;simp at h;omega
 ·have hd':¬ (0 < dS s/\vX (hd0 s)=true):=fun e=>hr e.1;have h4':¬ (0 < dS s/\s.take (dS s)≠[95]):=fun e=>hr e.1
  repeat' (first|(refine ao (fun h=>?_) (fun h=>?_)<;>first|(exfalso;simp at h;done)|(exfalso;simp at h;omega)|skip))
  refine aO _ (aO _ (ao (zx _ _) ?_));refine ao (fun h7=>?_) (fun h7=>?_)
  ·simp only[dv,bX]at h7;show _=_;simp only[oneOf,D3,cf,aA hd',aA h4',ay h7,II];try rfl
  ·simp only[Bool.not_eq_false',an]at h7;refine aO _ (aO _ (ao (SD _ _) ?_));show _=_;simp only[oneOf,D3,cf,aA hd',aA h4',h7,II,ne_eq,not_true,iE];try rfl
end
theorem xh (s:List UInt8) (i k:Nat):((⟨s.toArray⟩:ByteArray).get! (i+k))=(s.drop i).getD k 0:=by
 show(s.toArray)[i+k]! =_;simp only[List.getElem!_toArray,av,cw];rw[getElem!_def];cases h:s[i+k]? <;>simp<;>rfl
theorem SC (s:List UInt8) (i:Nat) (hi:i < s.length):(Utf8.decode ⟨s.toArray⟩ i=(65533,1)↔ed (s.drop i)=0)/\(ed (s.drop i)≠0->(Utf8.decode ⟨s.toArray⟩ i).2=ed (s.drop i)):=by
 rw[Lib.decode_at];have e0:=xh s i 0;rw[xh,xh,xh];rw[ep]at e0;rw[e0];have hsz:(⟨s.toArray⟩:ByteArray).size - i=(s.drop i).length:=by simp[ByteArray.size]
 rw[hsz];have hne:s.drop i≠[]:=by intro h;have:=aG List.length h;simp at this;omega
 generalize s.drop i=l at hne;cases l with
 |nil=>exact absurd rfl hne
 |cons c r=>
  have b0:=c.toNat_lt;have hl:(c::r).length=r.length+1:=rfl;rw[hl];simp only[fR,ir];have hb:∀ k,(r.getD k 0).toNat < 256:=fun k=>UInt8.toNat_lt _;have b1:=hb 0;have b2:=hb 1;have b3:=hb 2
  -- what stands behind the lead byte
  have h1:(hd1 (c::r))=r.getD 0 0:=by cases r<;>rfl
  have a2:((c::r).take 2).drop 2=[]:=by simp
  have a3:(((c::r).take 3).drop 2).all tX=(decide (r.length < 2)||tX (r.getD 1 0)):=by
   match r with
   |[]=>rfl
   |[_]=>rfl
   |_::x::t=>simp[show ¬ (t.length+1+1 < 2)by omega]
  have a4:(((c::r).take 4).drop 2).all tX=((decide (r.length < 2)||tX (r.getD 1 0)) && (decide (r.length < 3)||tX (r.getD 2 0))):=by
   match r with
   |[]=>rfl
   |[_]=>rfl
   |[_,x]=>simp
   |_::x::y::t=>simp[show ¬ (t.length+1+1+1 < 2)by omega,show ¬ (t.length+1+1+1 < 3)by omega]
  unfold ed;rw[aA (List.cons_ne_nil _ _),h1];simp only[hd0,hl];generalize r.getD 0 0=x1 at*;generalize r.getD 1 0=x2 at*;generalize r.getD 2 0=x3 at*;generalize r.length=n at*;by_cases c1:c.toNat < 128
  ·simp[Lib.decodeN,c1];omega
  rw[aA c1];have hN:FU c=0/\(c.toNat < 194\/244 < c.toNat)\/FU c=2/\194<=c.toNat/\c.toNat<=223\/FU c=3/\224<=c.toNat/\c.toNat<=239\/FU c=4/\240<=c.toNat/\c.toNat<=244:=by
   unfold FU
   repeat' split
   all_goals omega
  rcases hN with⟨hN,hc⟩|⟨hN,hc⟩|⟨hN,hc⟩|⟨hN,hc⟩
  ·simp only[hN,cU];refine⟨⟨fun _=>trivial,fun _=>?_⟩,fun h=>absurd rfl h⟩;unfold Lib.decodeN
   repeat' split
   all_goals first|rfl|(exfalso;omega)
  ·simp only[hN,a2,Gb,M3,bO,cU];unfold Lib.decodeN
   repeat' split
   all_goals first|(exfalso;omega)|(simp;done)|(simp;omega)
  ·simp only[hN,a3,Gb,M3,tX,bg,an];unfold Lib.decodeN
   repeat' split
   all_goals first|(exfalso;omega)|(simp;done)|(simp;omega)
  ·simp only[hN,a4,Gb,M3,tX,bg,ab,an];unfold Lib.decodeN
   repeat' split
   all_goals first|(exfalso;omega)|(simp;done)|(simp;omega)
def Val (s:List UInt8):Prop:=strange 0 s= -1
theorem Gc:∀ (n:Nat) (s:List UInt8) (a b:Nat),s.length<=n->(strange a s= -1↔strange b s= -1):=by
 intro n;induction n with
 |zero=>intro s a b h;have:s=[]:=cp.1 (by omega);subst this;rw[gF,gF]
 |succ n ih=>
  intro s a b h;by_cases h0:s=[]
  ·subst h0;rw[gF,gF]
  ·by_cases h1:ed s=0
   ·rw[nA a h0 h1,nA b h0 h1];omega
   ·rw[lM a h0 h1,lM b h0 h1];exact ih _ _ _ (by have:=pO s (by simp[h0,h1]);omega)
theorem Xr (a:Nat) (s:List UInt8):strange a s= -1↔Val s:=Gc _ s a 0 (ai _)
theorem Am:∀ (n:Nat) (s:List UInt8) (a:Nat),s.length<=n->strange a s= -1\/((a:Int)<=strange a s/\strange a s < a+s.length):=by
 intro n;induction n with
 |zero=>intro s a h;have:s=[]:=cp.1 (by omega);subst this;rw[gF];exact .inl rfl
 |succ n ih=>
  intro s a h;by_cases h0:s=[]
  ·subst h0;rw[gF];exact .inl rfl
  ·have hp:0 < s.length:=dc.2 h0;by_cases h1:ed s=0
   ·rw[nA a h0 h1];omega
   ·rw[lM a h0 h1];have:=ih (s.drop (ed s)) (a+ed s) (by have:=pO s (by simp[h0,h1]);omega);have hl:=xX s;rw[bh]at this;omega
theorem qX:Val []:=gF 0
theorem wA {s:List UInt8} (h:s≠[]):Val s↔ed s≠0/\Val (s.drop (ed s)):=by
 by_cases h1:ed s=0
 ·unfold Val;rw[nA 0 h h1];simp[h1]
 ·unfold Val;rw[lM 0 h h1];simp[h1];exact Xr _ _
theorem CX {c:UInt8} (h:c.toNat < 128) (r:List UInt8):ed (c::r)=1:=by
 unfold ed;rw[aA (List.cons_ne_nil _ _)];simp[hd0,h]
theorem zV {c:UInt8} (h:c.toNat < 128) (r:List UInt8):Val (c::r)↔Val r:=by
 rw[wA (List.cons_ne_nil _ _),CX h];simp
theorem CW (s:List UInt8) (h:ed s≠0):(ed s=1/\s≠[]/\(hd0 s).toNat < 128)\/(128<=(hd0 s).toNat/\ed s=FU (hd0 s)/\2<=ed s/\ed s<=s.length/\Gb (hd0 s)<=(hd1 s).toNat/\(hd1 s).toNat<=M3 (hd0 s)/\((s.take (ed s)).drop 2).all tX=true):=by
 have hN:=XP (hd0 s);unfold ed at h⊢;split
 ·rename_i h0;rw[ay h0]at h;exact absurd rfl h
 ·rename_i h0;rw[aA h0]at h;split
  ·rename_i h1;exact .inl ⟨rfl,h0,h1⟩
  ·rename_i h1;rw[aA h1]at h;split
   ·rename_i h2;rw[ay h2]at h;exact absurd rfl h
   ·rename_i h2;rw[aA h2]at h;split
    ·rename_i h3;rw[ay h3]at h;exact absurd rfl h
    ·rename_i h3;rw[aA h3]at h;split
     ·rename_i h4;right;refine⟨om,rfl,om,om,om,om,?_⟩;exact h4
     ·rename_i h4;rw[aA h4]at h;exact absurd rfl h
theorem XQ (s:List UInt8) (h:128<=(hd0 s).toNat) (hN:2<=FU (hd0 s)) (hl:FU (hd0 s)<=s.length) (h1:Gb (hd0 s)<=(hd1 s).toNat) (h2:(hd1 s).toNat<=M3 (hd0 s)) (h3:((s.take (FU (hd0 s))).drop 2).all tX=true):ed s=FU (hd0 s):=by
 unfold ed;rw[aA (by rintro rfl;simp at hl;omega),aA om,aA om,aA om,ay h3]
theorem Hj {s t:List UInt8} {n:Nat} (hn:1<=n) (h:s.take n=t.take n):hd0 s=hd0 t:=by
 obtain⟨m,rfl⟩:∃ m,n=m+1:=⟨n - 1,om⟩;cases s<;>cases t<;>simp at h<;>simp[hd0,h]
theorem RL {s t:List UInt8} {n:Nat} (hn:2<=n) (h:s.take n=t.take n):hd1 s=hd1 t:=by
 obtain⟨m,rfl⟩:∃ m,n=m+2:=⟨n - 2,om⟩;match s,t with
 |[],[]=>rfl
 |[],_::_=>simp at h
 |_::_,[]=>simp at h
 |[a],[b]=>rfl
 |[a],b::c::t=>simp at h
 |a::d::s,[b]=>simp at h
 |a::d::s,b::c::t=>simp at h;simp[hd1,h]
theorem K5 {s t:List UInt8} (h:ed s≠0) (ht:ed s<=t.length) (he:s.take (ed s)=t.take (ed s)):ed t=ed s:=by
 rcases CW s h with⟨h1,h2,h3⟩|⟨h1,h2,h3,h4,h5,h6,h7⟩
 ·have e0:=Hj om he;have hne:t≠[]:=by rintro rfl;simp at ht;omega
  unfold ed;rw[aA hne,ay (by rw[<-e0];exact h3)];rw[aA h2,ay h3]
 ·have e0:=Hj om he;have e1:=RL h3 he;rw[XQ t (by rw[<-e0];exact h1) (by rw[<-e0];omega) (by rw[<-e0];omega) (by rw[<-e0,<-e1];exact h5) (by rw[<-e0,<-e1];exact h6) (by rw[<-e0,<-h2,<-he];exact h7),<-e0,h2]
theorem TS {s:List UInt8} (h:ed s≠0) (t:List UInt8):ed (s++t)=ed s:=
 K5 h (by have:=xX s;simp;omega) (by rw[fC (xX s)])
theorem Pw {s:List UInt8} (h:ed s≠0) {p:Nat} (hp:ed s<=p):ed (s.take p)=ed s:=
 K5 h (by have:=xX s;simp;omega) (by rw[gr,dr hp])
theorem Py {s:List UInt8} {p:Nat} (hp:0 < p) (h:p < ed s):∀ c,s[p]? =some c->128<=c.toNat:=by
 intro c hc;rcases CW s om with⟨h1,_⟩|⟨h1,h2,h3,h4,h5,h6,h7⟩
 ·omega
 ·by_cases hp1:p=1
  ·subst hp1;have:hd1 s=c:=by
    match s,hc with
    |a::b::r,hc=>simpa [hd1] using hc
   have hlo:128<=Gb (hd0 s):=by unfold Gb;repeat' split
                                all_goals omega
   rw[this]at h5;omega
  ·have hm:c∈(s.take (ed s)).drop 2:=fp.2 ⟨p - 2,by
     rw[cw,show 2+(p - 2)=p by omega,aZ,ay h];exact hc⟩
   have:=aC.1 h7 c hm;simp[tX]at this;omega
theorem CF:∀ (n:Nat) (s:List UInt8) (p:Nat),s.length<=n->Val s->(s.length<=p\/∃ c,s[p]? =some c/\c.toNat < 128)->Val (s.take p)/\Val (s.drop p):=by
 intro n;induction n with
 |zero=>intro s p h hv _;have:s=[]:=cp.1 (by omega);subst this;simp[qX]
 |succ n ih=>
  intro s p h hv hb;by_cases h0:s=[]
  ·subst h0;simp[qX]
  ·by_cases hp:p=0
   ·subst hp;simp[qX,hv]
   ·obtain⟨h1,h2⟩:=(wA h0).1 hv;have hge:ed s<=p:=by
     apply fi;intro hlt;rcases hb with hb|⟨c,hc,hc2⟩
     ·have:=xX s;omega
     ·have:=Py (s:=s) (p:=p) om om c hc;omega
    have hd:=pO s (by simp[h0,h1]);obtain⟨k1,k2⟩:=ih (s.drop (ed s)) (p - ed s) om h2 (by
      rcases hb with hb|⟨c,hc,hc2⟩
      ·left;rw[bh];omega
      ·right;exact⟨c,by rw[cw,show ed s+(p - ed s)=p by omega];exact hc,hc2⟩)
    constructor
    ·have hne:s.take p≠[]:=by intro e;rw[List.take_eq_nil_iff]at e;rcases e with e|e;exact hp e;exact h0 e
     rw[wA hne,Pw h1 hge];refine⟨h1,?_⟩;rw[List.drop_take];exact k1
    ·rw[cr,show ed s+(p - ed s)=p by omega]at k2;exact k2
theorem zU:∀ (n:Nat) (s:List UInt8),s.length<=n->Val s->Val (s.drop (bj false s)):=by
 intro n;induction n with
 |zero=>intro s h hv;have:s=[]:=cp.1 (by omega);subst this;simp[qX]
 |succ n ih=>
  intro s h hv;cases s with
  |nil=>simpa using hv
  |cons c r=>
   rw[jY];split
   ·rename_i hw;have hc:c.toNat < 128:=by simp[IG]at hw;rcases hw with rfl|rfl|rfl|rfl<;>decide
    rw[cm];exact ih r (by simpa using h) ((zV hc r).1 hv)
   ·split
    ·rename_i hr;have hc:c.toNat < 128:=by rw[hr.1];decide
     have hvr:=(zV hc r).1 hv;rw[cm,Jn];have hg:=Lib.indexByte_ge r 10;split
     ·rw[m9];exact qX
     ·rename_i hi;rw[<-cr];have hs:=Lib.indexByte_some (l:=r) (c:=10) (o:=(Lib.indexByte r 10).toNat) om;refine ih _ (by rw[bh];simp at h;omega) ?_;exact(CF _ r _ (ai _) hvr (.inr ⟨10,hs.1,by decide⟩)).2
    ·exact hv
theorem x7:∀ (n:Nat) (b:Bool) (s:List UInt8),s.length<=n->bj false (s.drop (bj b s))=0:=by
 intro n;induction n with
 |zero=>intro b s h;have:s=[]:=cp.1 (by omega);subst this;cases b<;>rfl
 |succ n ih=>
  intro b s h;cases s with
  |nil=>cases b<;>rfl
  |cons c r=>
   have hr:r.length<=n:=by simpa using h
   cases b with
   |false=>
    rw[jY];split
    ·rw[cm];exact ih _ r hr
    ·rename_i h1;split
     ·rw[cm];exact ih _ r hr
     ·rename_i h2;rw[bq,jY,aA h1,aA h2]
   |true=>
    rw[pR];split
    ·rw[cm];exact ih _ r hr
    ·rw[cm];exact ih _ r hr
theorem tH {c:UInt8} (h:mS c=true):c.toNat < 128:=by simp[mS,a1z,vX]at h;omega
theorem takeWhile_take:∀ (s:List UInt8),s.take (dS s)=s.takeWhile mS:=by
 intro s;unfold dS;induction s with
 |nil=>rfl
 |cons c r ih=>rw[kH];split<;>simp[ih]
theorem zy (s:List UInt8):(s.take (dS s)).all mS=true:=by
 rw[takeWhile_take];induction s with
 |nil=>rfl
 |cons c r ih=>rw[kH];split<;>simp_all
theorem tc (s:List UInt8):gH s=[]\/(s.length≥2/\gH s=s.take 2/\s.take 2∈sR)\/(s≠[]/\gH s=s.take 1/\hd0 s∈Dd/\¬ (1 < s.length/\s.take 2∈sR)):=by
 unfold gH;split
 ·rename_i h;exact .inr (.inl ⟨h.1,rfl,h.2⟩)
 ·rename_i h0;split
  ·rename_i h;exact .inr (.inr ⟨h.1,rfl,h.2,h0⟩)
  ·exact .inl rfl
theorem Ab:∀ t∈sR,t.length=2/\∀ c∈t,c.toNat < 128:=by decide
theorem AO:∀ c∈Dd,c.toNat < 128:=by decide
theorem wF {w:List UInt8->Nat} {s:List UInt8} (h:(cf w s).e=0):1<=(cf w s).n/\(cf w s).n<=s.length/\(cf w s).t=s.take (cf w s).n/\∀ c∈s.take (cf w s).n,c.toNat < 128:=by
 have hrl:=uC s;have hra:∀ c∈s.take (dS s),c.toNat < 128:=fun c hc=>tH (aC.1 (zy s) c hc);unfold cf at h⊢;split
 ·rename_i h1;rw[ay h1]at h;split
  ·exact⟨h1.1,hrl,rfl,hra⟩
  ·rename_i h2;rw[aA h2]at h;cases h
 ·rename_i h1;rw[aA h1]at h;split
  ·rename_i h2;rw[ay h2]at h;split
   ·rename_i h3;rw[ay h3]at h;cases h
   ·exact⟨h2.1,hrl,rfl,hra⟩
  ·rename_i h2;rw[aA h2]at h;split
   ·rename_i h3;rcases tc s with h4|⟨h4,h5,h6⟩|⟨h4,h5,h6,_⟩
    ·exact absurd h4 h3
    ·have hl:(gH s).length=2:=by rw[h5,bm];omega
     show 1<=(gH s).length/\(gH s).length<=s.length/\gH s=s.take (gH s).length/\_;rw[hl];exact⟨om,h4,h5,(Ab _ h6).2⟩
    ·have hp:0 < s.length:=dc.2 h4;have hl:(gH s).length=1:=by rw[h5,bm];omega
     show 1<=(gH s).length/\(gH s).length<=s.length/\gH s=s.take (gH s).length/\∀ c∈s.take (gH s).length,c.toNat < 128;rw[hl];refine⟨om,om,h5,fun c hc=>?_⟩;cases s with
     |nil=>exact absurd rfl h4
     |cons d r=>simp at hc;rw[hc];exact AO _ h6
   ·rename_i h3;rw[aA h3]at h;cases h
theorem XF {w w':List UInt8->Nat} (s:List UInt8) (h:w s=w' s):cf w s=cf w' s:=by unfold cf;rw[h]
theorem zq:∀ (s:List UInt8) (n:Nat),(∀ c∈s.take n,c.toNat < 128)->(Val s↔Val (s.drop n))
 |[],n,_=>by simp
 |c::r,0,_=>by simp
 |c::r,n+1,h=>by
  rw[zV (h c (by simp)) r,cm];exact zq r n fun d hd=>h d (by simp[hd])
structure Dg where
 c:Int
 f:Nat
 e:Nat
structure TokQ where
 k:Int
 t:List UInt8
 v:Int
 f:Nat
 e:Nat
def Dg.ok:Dg:=⟨0,0,0⟩
def after (out:List TokQ) (r:List TokQ×Dg):List TokQ×Dg:=if r.2.c=0 then(out++r.1,r.2) else([],r.2)
theorem wE (s:List UInt8) (h:¬ (s.drop (bj false s)=[]\/(cf ed (s.drop (bj false s))).e≠0)):(s.drop (bj false s+(cf ed (s.drop (bj false s))).n)).length < s.length:=by
 have h1:s.drop (bj false s)≠[]:=fun e=>h (.inl e);have h2:(cf ed (s.drop (bj false s))).e=0:=by
  apply fi;intro e;exact h (.inr e)
 obtain⟨h3,h4,_⟩:=wF h2;rw[bh]at h4⊢;have:=dc.2 h1;rw[bh]at this;omega
def toks (a:Nat) (s:List UInt8):List TokQ×Dg:=
 if h:s.drop (bj false s)=[]\/(cf ed (s.drop (bj false s))).e≠0 then
  (if s.drop (bj false s)=[] then([⟨5,[],0,a+s.length,a+s.length⟩],Dg.ok)
   else([],⟨(cf ed (s.drop (bj false s))).e,a+bj false s,a+bj false s+(cf ed (s.drop (bj false s))).n⟩))
 else after [⟨(cf ed (s.drop (bj false s))).k,(cf ed (s.drop (bj false s))).t,(cf ed (s.drop (bj false s))).v,a+bj false s,a+bj false s+(cf ed (s.drop (bj false s))).n⟩] (toks (a+(bj false s+(cf ed (s.drop (bj false s))).n)) (s.drop (bj false s+(cf ed (s.drop (bj false s))).n)))
termination_by s.length
decreasing_by exact wE s h
theorem fj (a:Nat) {s:List UInt8} (h:s.drop (bj false s)=[]):toks a s=([⟨5,[],0,a+s.length,a+s.length⟩],Dg.ok):=by rw[toks];simp[h]
theorem nz (a:Nat) {s:List UInt8} (h:s.drop (bj false s)≠[]) (he:(cf ed (s.drop (bj false s))).e≠0):toks a s=([],⟨(cf ed (s.drop (bj false s))).e,a+bj false s,a+bj false s+(cf ed (s.drop (bj false s))).n⟩):=by rw[toks,dif_pos (.inr he),aA h]
theorem nc (a:Nat) {s:List UInt8} (h:s.drop (bj false s)≠[]) (he:(cf ed (s.drop (bj false s))).e=0):toks a s=after [⟨(cf ed (s.drop (bj false s))).k,(cf ed (s.drop (bj false s))).t,(cf ed (s.drop (bj false s))).v,a+bj false s,a+bj false s+(cf ed (s.drop (bj false s))).n⟩] (toks (a+(bj false s+(cf ed (s.drop (bj false s))).n)) (s.drop (bj false s+(cf ed (s.drop (bj false s))).n))):=by
 rw[toks,dif_neg (by simp[h,he])]
theorem CP (a:Nat) (s:List UInt8):toks a s=toks (a+bj false s) (s.drop (bj false s)):=by
 have hi:=x7 _ false s (ai _);have hl:=jc false s;by_cases h:s.drop (bj false s)=[]
 ·rw[fj a h,fj (a+bj false s) (by rw[hi,bq];exact h)];have e:(s.drop (bj false s)).length=s.length - bj false s:=bh ..;have hl2:a+bj false s+(s.drop (bj false s)).length=a+s.length:=by rw[e];omega
  rw[hl2]
 ·by_cases he:(cf ed (s.drop (bj false s))).e=0
  ·rw[nc a h he,nc (a+bj false s) (by rw[hi,bq];exact h) (by rw[hi,bq];exact he),hi];simp only[bq,ep,cr,bt,eM]
  ·rw[nz a h he,nz (a+bj false s) (by rw[hi,bq];exact h) (by rw[hi,bq];exact he),hi];simp only[bq,ep]
theorem Iv (o1 o2:List TokQ) (r:List TokQ×Dg):after o1 (after o2 r)=after (o1++o2) r:=by
 unfold after;by_cases h:r.2.c=0<;>simp[h]
theorem Oy (r:List TokQ×Dg) (h:r.2.c≠0->r.1=[]):after [] r=r:=by
 unfold after;by_cases hc:r.2.c=0
 ·simp[hc]
 ·rw[aA hc,<-h hc]
theorem Pd:∀ (n:Nat) (a:Nat) (s:List UInt8),s.length<=n->(toks a s).2.c≠0->(toks a s).1=[]:=by
 intro n;cases n with
 |zero=>
  intro a s h hc;have:s=[]:=cp.1 om;subst this;rw[fj a (by simp)]at hc;exact absurd rfl hc
 |succ n=>
  intro a s h hc;by_cases h0:s.drop (bj false s)=[]
  ·rw[fj a h0]at hc;exact absurd rfl hc
  ·by_cases he:(cf ed (s.drop (bj false s))).e=0
   ·rw[nc a h0 he]at hc⊢;unfold after at hc⊢;split
    ·rename_i hz;rw[ay hz]at hc;exact absurd hz hc
    ·rfl
   ·rw[nz a h0 he]
def bF (s:List UInt8):List TokQ×Dg:=if 65536 < s.length then([],⟨2,0,0⟩) else if 0<=strange 0 s then([],⟨110,(strange 0 s).toNat,(strange 0 s).toNat+1⟩) else toks 0 s
def TokQ.D (t:TokQ):D:=II t.k t.t t.v t.f t.e
def qA (r:List TokQ×Dg):V:= .tup [.d (.sl (r.1.map TokQ.D)),.d (zk r.2.c r.2.f r.2.e)]
theorem O6 (s:List UInt8):∀ (f i:Nat),s.length - i<=f->pL ⟨s.toArray⟩ f i=strange i (s.drop i):=by
 intro f;induction f with
 |zero=>
  intro i h;rw[bU om,gF];rfl
 |succ f ih=>
  intro i h;have hsz:(⟨s.toArray⟩:ByteArray).size=s.length:=by simp[ByteArray.size]
  unfold pL;rw[hsz];split
  ·rename_i hlt;obtain⟨h1,h2⟩:=SC s i hlt;have hne:s.drop i≠[]:=by intro e;have:=aG List.length e;simp at this;omega
   by_cases h0:ed (s.drop i)=0
   ·rw[ay (h1.2 h0),nA i hne h0]
   ·rw[aA (fun e=>h0 (h1.1 e)),h2 h0,lM i hne h0,cr];exact ih _ om
  ·rw[bU om,gF]
theorem a3p (s:List UInt8) (h:s≠[]) (h0:ed s≠0):wD s=ed s:=by
 have hp:=dc.2 h;obtain⟨h1,h2⟩:=SC s 0 hp;have hsz:(⟨s.toArray⟩:ByteArray).size=s.length:=by simp[ByteArray.size]
 unfold wD BC;rw[aA om];exact h2 h0
section
variable {fx:Nat->Option Obj} {F:Nat->Option dF} [HL F] (H:Hp)
theorem Xu (s:List UInt8):cv (b9 fx F) Df [str s] H=some (i64 (strange 0 s),H):=by
 rw[jT (MZ (F:=F))];show some (V.d (D.int .i64 (pL ⟨s.toArray⟩ s.length 0)),H)=_;rw[O6 s s.length 0 om,bq]
structure Head (s:List UInt8) (i:Nat) (out:List TokQ):Prop where
 le:i<=s.length
 val:Val (s.drop i)
 sk:bj false (s.drop i)=0
 ol:out.length<=i
 eq:after out (toks i (s.drop i))=toks 0 s
theorem Head.start {s:List UInt8} (h:Val s):Head s (bj false s) []:=by
 refine⟨jc _ _,zU _ s (ai _) h,x7 _ _ _ (ai _),aR _,?_⟩;rw[Oy _ (Pd _ _ _ (ai _))];have:=CP 0 s;rw[bt]at this;exact this.symm
theorem Head.next {s:List UInt8} {i:Nat} {out:List TokQ} (h:Head s i out) (hlt:i < s.length) (he:(cf ed (s.drop i)).e=0):
 Head s (i+(cf ed (s.drop i)).n+bj false (s.drop (i+(cf ed (s.drop i)).n))) (out++[⟨(cf ed (s.drop i)).k,(cf ed (s.drop i)).t,(cf ed (s.drop i)).v,i,i+(cf ed (s.drop i)).n⟩]):=by
 obtain⟨h1,h2,h3,h4,h5⟩:=h;obtain⟨k1,k2,k3,k4⟩:=wF he;rw[bh]at k2;have hv:Val (s.drop (i+(cf ed (s.drop i)).n)):=by rw[<-cr];exact(zq _ _ k4).1 h2
 have hsl:=jc false (s.drop (i+(cf ed (s.drop i)).n));rw[bh]at hsl;refine⟨om,?_,?_,by simp;omega,?_⟩
 ·rw[<-cr];exact zU _ _ (ai _) hv
 ·rw[<-cr];exact x7 _ _ _ (ai _)
 ·have hne:(s.drop i).drop (bj false (s.drop i))≠[]:=by rw[h3,bq];intro e;have:=aG List.length e;simp at this;omega
  rw[nc i hne (by rw[h3,bq];exact he),Iv]at h5;simp only[h3,bq,ep,bt,cr]at h5;rw[CP,cr]at h5;exact h5
theorem Head.err {s:List UInt8} {i:Nat} {out:List TokQ} (h:Head s i out) (hlt:i < s.length) (he:(cf ed (s.drop i)).e≠0):toks 0 s=([],⟨(cf ed (s.drop i)).e,i,i+(cf ed (s.drop i)).n⟩):=by
 obtain⟨h1,h2,h3,h4,h5⟩:=h;have hne:(s.drop i).drop (bj false (s.drop i))≠[]:=by rw[h3,bq];intro e;have:=aG List.length e;simp at this;omega
 rw[<-h5,nz i hne (by rw[h3,bq];exact he),h3];simp only[bq,ep];unfold after;rw[aA he]
theorem Head.fin {s:List UInt8} {i:Nat} {out:List TokQ} (h:Head s i out) (hlt:¬ i < s.length):toks 0 s=(out++[⟨5,[],0,s.length,s.length⟩],Dg.ok):=by
 obtain⟨h1,h2,h3,h4,h5⟩:=h;have hd:s.drop i=[]:=bU om;rw[<-h5,hd,fj i (by simp)];have:i=s.length:=om;subst this;simp[after,Dg.ok]
theorem TR {s:List UInt8} (h:s≠[]) (hv:Val s):ed s≠0:=((wA h).1 hv).1
def dg0:Ob:= .box [.d (.int .i64 0),.d (.int .i64 0),.d (.int .i64 0)]
theorem CS (s:List UInt8) (hs:s.length<=maxLen):cv (b9 fx F) EJ [str s] H=some (qA (bF s),H):=by
 refine eB ?_ H;refine ao (fun h=>?_) (fun h=>?_)
 ·replace h:=af h;show _=_;unfold bF;rw[ay om];rfl
 replace h:=bw h;have hm:s.length<=65536:=om;have hL:bF s=if 0<=strange 0 s then([],⟨110,(strange 0 s).toNat,(strange 0 s).toNat+1⟩) else toks 0 s:=by unfold bF;rw[aA om]
 have hg:=Am _ s 0 (ai _);refine aO _ (aO _ (ao (Xu _ _) ?_));refine ao (fun h2=>?_) (fun h2=>?_)
 ·replace h2:=af h2;show _=_;rw[hL,ay om,eK om];simp only[oneOf,qA,zk,bp,Int.natCast_add,Int.toNat_of_nonneg h2];rfl
 replace h2:=bw h2;rw[aA om]at hL;have hv:Val s:=by unfold Val;omega
 refine aO _ (aO _ (ao (K8 _ _ hs 0 om) ?_));rw[hL];simp only[bq,bt];refine wp_loop (α:=Nat×List TokQ) (fun p=>s.length - p.1) (fun p=>[(0,str s),(3,.ptr 0 0),(5,.row 1 p.2.length),(6,i64 p.1)]) (fun p=>[dg0,.row 5 (p.2.map TokQ.D)]) (fun p=>Head s p.1 p.2) ?_ (bj false s,[]) (Head.start hv);rintro⟨i,out⟩ hh;have hle:=hh.le;have hol:=hh.ol;simp only at hh hle hol;refine ao (fun hl=>?_) (fun hl=>?_)
 ·replace hl:=af hl;have hlt:i < s.length:=om;have hne:s.drop i≠[]:=by intro e;have:=aG List.length e;simp at this;omega
  refine ao om ?_;refine ao ⟨om,om⟩ ?_;have hn:=hh.next hlt
  have hx:=hh.err hlt;have ht:cf wD (s.drop i)=cf ed (s.drop i):=XF _ (a3p _ hne (TR hne hh.val));have hk:(cf ed (s.drop i)).e=0->1<=(cf ed (s.drop i)).n/\(cf ed (s.drop i)).n<=s.length - i:=fun e=>by
    obtain⟨k1,k2,_⟩:=wF e;rw[bh]at k2;exact⟨k1,k2⟩
  have hnb:(cf ed (s.drop i)).n<=s.length - i:=by
   have h1:=uC (s.drop i);have h2:=xX (s.drop i);rw[bh]at h1 h2;by_cases e:(cf ed (s.drop i)).e=0
   ·exact(hk e).2
   ·unfold cf at e⊢
    repeat' split
    all_goals simp_all
    all_goals omega
  have tev:∀ H:Hp,cv (b9 fx F) yR [str (List.drop (Int.toNat (i:Int)) (List.take s.length s))] H=some (.tup [.d (II (cf ed (s.drop i)).k (cf ed (s.drop i)).t (cf ed (s.drop i)).v 0 0),i64 (cf ed (s.drop i)).n,i64 (cf ed (s.drop i)).e],H):=by
   intro H;rw[uo,Pf _ _ (by rw[bh];omega)];unfold D3;rw[ht]
  generalize cf ed (s.drop i)=T at*;refine aO _ (aO _ (ao (tev _) ?_));refine ao (fun h3=>?_) (fun h3=>?_)
  ·have he:T.e≠0:=by simpa using h3
   show _=_;rw[hx he,eK om];simp only[oneOf,qA,zk,bp,Int.natCast_add]
   try rfl
  ·have he:T.e=0:=by simpa using h3
   obtain⟨k1,k2⟩:=hk he;have hn:=hn he;have hsl:=jc false (s.drop (i+T.n));rw[bh]at hsl;refine ao ⟨rfl,by decide⟩ ?_;refine ao ⟨rfl,by simp,⟨by simp;omega,by simp;omega⟩⟩ ?_;have hw:IntKind.i64.wrap ((i:Int)+(T.n:Int))=((i+T.n:Nat):Int):=by rw[eK om];omega
   refine aO _ (aO _ (ao (Eq.trans (aG (fun z=>cv (b9 fx F) AY [str s,i64 z] _) hw) (K8 _ s hs (i+T.n) om)) ?_));refine⟨(_,_),hn,by simp only;omega,?_,?_⟩
   ·simp
   ·simp[TokQ.D,II,dg0,hw]
 ·replace hl:=bw hl;have hf:=hh.fin om;refine ao ⟨rfl,by decide⟩ ?_;refine ao ⟨rfl,by simp,⟨by simp;omega,by simp;omega⟩⟩ ?_;refine ao (by simp) ?_;show _=_;rw[hf];simp[oneOf,qA,zk,TokQ.D,II,Dg.ok]
end
end Go.Vm.Lex

