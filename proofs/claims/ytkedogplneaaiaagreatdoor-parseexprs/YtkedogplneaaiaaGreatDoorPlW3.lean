import Derived.Test.YtkedogplneaaiaaGreatDoorVmNum
import Derived.Test.YtkedogplneaaiaaGreatDoorVmDrawSound
import Derived.Test.YtkedogplneaaiaaGreatDoorVmRun
import Derived.Test.YtkedogplneaaiaaGreatDoorVmOps2
import Derived.Lib.Bytealg
import Derived.Lib.IndexLaws
import Derived.Lib.ParseIntB
set_option maxRecDepth 100000
set_option linter.unusedVariables false
set_option linter.unusedSimpArgs false
namespace Go.Vm
theorem g8x {a b:Nat} (h:a=b):Nat.beq a b=true:=by subst h;exact Nat.beq_refl a
theorem g2q {a b:Nat} (h:a≠b):Nat.beq a b=false:=by
 cases hb:Nat.beq a b with
 |false=>rfl
 |true=>exact absurd (Nat.eq_of_beq_eq_true hb) h
noncomputable def gE (e:Env):Nat->V:=List.rec (motive:=fun _=>Nat->V) (fun _=> .undef) (fun p _ ih i=>match Nat.beq p.1 i with|true=>p.2|false=>ih i) e
theorem b7u:∀ (e:Env) (i:Nat),gE e i=a1l e i
 |[],_=>rfl
 |(k,v)::r,i=>by
  show(match Nat.beq k i with|true=>v|false=>gE r i)=a1l ((k,v)::r) i
  unfold a1l
  by_cases h:k=i
  ·rw[if_pos h,g8x h]
  ·rw[if_neg h,g2q h]
   exact b7u r i
noncomputable def gO (cx:Cx) (e:Env):Opd->V
 | .t i=>gE e i
 | .c v=>v
 | .g i=> .ro (cx.gv i) 0
 | .f i=> .fn i []
theorem c5j (cx:Cx) (e:Env) (o:Opd):gO cx e o=evO cx e o:=by cases o<;>simp only[gO,evO,b7u]
section
variable {α:Type}
noncomputable def a1g (l:List α):(List α->Prop)->Prop:=List.rec (motive:=fun _=>(List α->Prop)->Prop) (fun k=>k []) (fun a _ ih k=>ih fun r'=>k (a::r')) l
theorem a0q:∀ (l:List α) (k:List α->Prop),a1g l k=k l
 |[],_=>rfl
 |a::r,k=>a0q r fun r'=>k (a::r')
noncomputable def d7p (l:List α):Nat->(Nat->Prop)->Prop:=List.rec (motive:=fun _=>Nat->(Nat->Prop)->Prop) (fun n k=>k n) (fun _ _ ih n k=>ih (n+1) k) l
theorem a8w:∀ (l:List α) (n:Nat) (k:Nat->Prop),d7p l n k=k (n+l.length)
 |[],_,_=>rfl
 |a::r,n,k=>by rw[show d7p (a::r) n k=d7p r (n+1) k from rfl,a8w r,List.length_cons,Nat.add_assoc,Nat.add_comm 1]
noncomputable def b4c (l:List α):Nat->(α->Prop)->Prop:=List.rec (motive:=fun _=>Nat->(α->Prop)->Prop) (fun _ _=>False) (fun a _ ih n k=>match n with|0=>k a|n+1=>ih n k) l
theorem a1u:∀ (l:List α) (n:Nat) (k:α->Prop),b4c l n k↔∃ a,l[n]? =some a/\k a
 |[],n,k=>by rw[show b4c [] n k=False from rfl];simp
 |a::r,0,k=>by rw[show b4c (a::r) 0 k=k a from rfl];simp
 |a::r,n+1,k=>by rw[show b4c (a::r) (n+1) k=b4c r n k from rfl];simp[a1u r n k]
theorem d2v {l:List α} {n:Nat} {a:α} (h:l[n]? =some a) {k:α->Prop} (hk:k a):b4c l n k:=(a1u l n k).2 ⟨a,h,hk⟩
end
def b5s (v:V) (k:V->Prop):Prop:=match v with
 | .d (.bool b)=>k (.d (.bool b))
 | .d (.int kk n)=>k (.d (.int kk n))
 | .d (.str s)=>k (.d (.str s))
 | .d (.sl l)=>k (.d (.sl l))
 | .d (.agg l)=>k (.d (.agg l))
 | .agg l=>k (.agg l)
 | .tup l=>k (.tup l)
 | .nils=>k .nils
 | .row i n=>k (.row i n)
 | .arr i o n=>k (.arr i o n)
 | .ptr i o=>k (.ptr i o)
 | .ro l o=>k (.ro l o)
 | .fn f c=>k (.fn f c)
 | .fm f c=>k (.fm f c)
 | .nul=>k .nul
 | .nof=>k .nof
 | .ifc b=>k (.ifc b)
 | .raw x=>k (.raw x)
 | .nmp=>k .nmp
 | .nile=>k .nile
 | .mp i=>k (.mp i)
 | .undef=>k .undef
theorem c2p (v:V) (k:V->Prop):b5s v k=k v:=by
 cases v with
 |d x=>cases x<;>rfl
 |_=>rfl
def chk (b:Bool) (p:Prop):Prop:=match b with|true=>p|false=>False
theorem a2p (b:Bool) (p:Prop):chk b p↔b=true/\p:=by cases b<;>simp[chk]
theorem h4u {b:Bool} {p:Prop} (h:b=true) (hp:p):chk b p:=(a2p b p).2 ⟨h,hp⟩
noncomputable def h7q (l:List V) (k:V->Prop):Prop:=match b9e l with
 |some ds=>a1g ds fun ds=>k (.d (.agg ds))
 |none=>a1g l fun l=>k (.agg l)
theorem f3f (l:List V) (k:V->Prop):h7q l k=k (b1g l):=by
 unfold h7q b1g
 cases b9e l<;>simp only[a0q]
noncomputable def c7q (n:Option Nat) (c:List V) (off:Nat) (k:V->Prop):Prop:=match n with
 |none=>b4c c off k
 |some n=>chk (Nat.ble (off+n) c.length) (h7q ((c.drop off).take n) k)
theorem b1d (n:Option Nat) (c:List V) (off:Nat) (k:V->Prop):c7q n c off k↔∃ v,a6u n c off=some v/\k v:=by
 cases n with
 |none=>exact a1u ..
 |some n=>
  simp only[c7q,a6u,a2p,f3f,Nat.ble_eq]
  by_cases h:off+n<=c.length<;>simp[h]
noncomputable def h8m (H:Hp) (l:List V):(List D->Prop)->Prop->Prop:=List.rec (motive:=fun _=>(List D->Prop)->Prop->Prop) (fun k _=>k []) (fun v _ ih k alt=>match v with
  | .d x=>ih (fun ds=>k (x::ds)) alt
  | .nils=>ih (fun ds=>k (.sl []::ds)) alt
  | .nile=>ih (fun ds=>k (.sl []::ds)) alt
  | .row id len=>b4c H id fun o=>match o with
    | .row _ l=>l.length=len/\ih (fun ds=>k (.sl l::ds)) alt
    |_=>False
  |_=>alt) l
theorem e1x (H:Hp):∀ (l:List V) (k:List D->Prop) (alt:Prop),h8m H l k alt->(∃ ds,e7e H l=some ds/\k ds)\/alt
 |[],k,alt,h=> .inl ⟨[],rfl,h⟩
 |v::r,k,alt,h=>by
  have go:∀ x,b2i H v=some x->h8m H r (fun ds=>k (x::ds)) alt->(∃ ds,e7e H (v::r)=some ds/\k ds)\/alt:=by
    intro x hx h
    rcases e1x H r _ alt h with⟨ds,h1,h2⟩|h
    ·exact .inl ⟨x::ds,by simp only[e7e,hx,h1],h2⟩
    ·exact .inr h
  cases v with
  |d x=>exact go x rfl h
  |nils=>exact go _ rfl h
  |nile=>exact go _ rfl h
  |row id len=>
   have h:b4c H id fun o=>match o with
     | .row _ l=>l.length=len/\h8m H r (fun ds=>k (.sl l::ds)) alt
     |_=>False:=h
   obtain⟨o,ho,h⟩:=(a1u ..).1 h
   cases o with
   |row sz l=>
    obtain⟨h1,h2⟩:=h
    exact go (.sl l) (by simp only[b2i,ho,h1,if_true]) h2
   |_=>cases h
  |_=>exact .inr h
noncomputable def f4n (H:Hp) (v:V) (k:V->Prop):Prop:=match v with
 | .d x=>k (.d x)
 | .nils=>k (.d (.sl []))
 | .nile=>k (.d (.sl []))
 | .row id len=>b4c H id fun o=>match o with
   | .row _ l=>l.length=len/\k (.d (.sl l))
   |_=>False
 | .arr id off len=>b4c H id fun o=>match o with
   | .frz c=>off+len<=c.length/\k (.d (.sl ((c.drop off).take len)))
   |o=>k (toArg H (.arr id off len))
 | .ptr i o=>k (.ptr i o)
 | .fn f c=>k (.fn f c)
 | .fm f c=>k (.fm f c)
 | .nul=>k .nul
 | .nof=>k .nof
 | .ifc b=>k (.ifc b)
 | .raw x=>k (.raw x)
 | .nmp=>k .nmp
 | .mp i=>k (.mp i)
 | .agg l=>h8m H l (fun ds=>k (.d (.agg ds))) (k (toArg H (.agg l)))
 |v=>k (toArg H v)
theorem d2s (H:Hp) (v:V) (k:V->Prop) (h:f4n H v k):k (toArg H v):=by
 unfold f4n at h
 cases v with
 |row id len=>
  obtain⟨o,ho,h⟩:=(a1u ..).1 h
  cases o with
  |row sz l=>
   obtain⟨h1,h2⟩:=h
   simp only[toArg,toD,b2i,ho,h1,if_true];exact h2
  |_=>cases h
 |arr id off len=>
  obtain⟨o,ho,h⟩:=(a1u ..).1 h
  cases o with
  |frz c=>
   obtain⟨h1,h2⟩:=h
   simp only[toArg,toD,b2i,ho,if_pos h1];exact h2
  |_=>exact h
 |agg l=>
  rcases e1x H l _ _ h with⟨ds,h1,h2⟩|h
  ·simp only[toArg,toD,h1,Option.map_some];exact h2
  ·exact h
 |_=>exact h
noncomputable def d3z (cx:Cx) (e:Env) (H:Hp) (l:List Opd):(List V->Prop)->Prop:=List.rec (motive:=fun _=>(List V->Prop)->Prop) (fun k=>k []) (fun x _ ih k=>f4n H (gO cx e x) fun v=>ih fun vs=>k (v::vs)) l
theorem b0y (cx:Cx) (e:Env) (H:Hp):∀ (l:List Opd) (k:List V->Prop),d3z cx e H l k->k (l.map fun x=>toArg H (evO cx e x))
  |[],_,h=>h
  |x::r,k,h=>by
   have h:f4n H (gO cx e x) fun v=>d3z cx e H r fun vs=>k (v::vs):=h
   have:=b0y cx e H r _ (d2s _ _ _ h)
   rw[c5j]at this
   exact this
def h7i (y:Opd) (b:Int) (p:Prop):Prop:=match y with
 | .c _=>chk (decide (0<=b)) p
 |_=>0<=b/\p
theorem e1i (y:Opd) (b:Int) (p:Prop):h7i y b p↔0<=b/\p:=by cases y<;>simp[h7i,a2p]
def nzK (y:Opd) (b:Int) (p:Prop):Prop:=match y with
 | .c _=>chk (decide (b≠0)) p
 |_=>b≠0/\p
theorem g4t (y:Opd) (b:Int) (p:Prop):nzK y b p↔b≠0/\p:=by cases y<;>simp[nzK,a2p]
noncomputable def i4v (op:BinOp) (y:Opd) (vx vy:V) (k:V->Prop):Prop:=match vx,vy with
 | .d (.int k1 a),.d (.int k2 b)=>match op with
   | .shl=>h7i y b (k (.d (.int k1 (shlI k1 a b))))
   | .shr=>h7i y b (k (.d (.int k1 (shrI k1 a b))))
   | .add=>chk (decide (k1=k2)) (k (.d (.int k1 (k1.wrap (a+b)))))
   | .sub=>chk (decide (k1=k2)) (k (.d (.int k1 (k1.wrap (a - b)))))
   | .mul=>chk (decide (k1=k2)) (k (.d (.int k1 (k1.wrap (a*b)))))
   | .quo=>chk (decide (k1=k2)) (nzK y b (k (.d (.int k1 (k1.wrap (a.tdiv b))))))
   | .rem=>chk (decide (k1=k2)) (nzK y b (k (.d (.int k1 (a.tmod b)))))
   | .and=>chk (decide (k1=k2)) (k (.d (.int k1 (i2o k1 a b))))
   | .or=>chk (decide (k1=k2)) (k (.d (.int k1 (orI k1 a b))))
   | .xor=>chk (decide (k1=k2)) (k (.d (.int k1 (i4c k1 a b))))
   | .andNot=>chk (decide (k1=k2)) (k (.d (.int k1 (i3s k1 a b))))
   | .eql=>chk (decide (k1=k2)) (k (.d (.bool (decide (a=b)))))
   | .neq=>chk (decide (k1=k2)) (k (.d (.bool (!decide (a=b)))))
   | .lss=>chk (decide (k1=k2)) (k (.d (.bool (decide (a < b)))))
   | .leq=>chk (decide (k1=k2)) (k (.d (.bool (decide (a<=b)))))
   | .gtr=>chk (decide (k1=k2)) (k (.d (.bool (decide (b < a)))))
   | .geq=>chk (decide (k1=k2)) (k (.d (.bool (decide (b<=a)))))
 | .d (.str a),.d (.str b)=>match op with
   | .add=>a.length+b.length<=9223372036854775807/\k (.d (.str (a++b)))
   | .eql=>k (.d (.bool (decide (a=b))))
   | .neq=>k (.d (.bool (!decide (a=b))))
   |_=>False
 |_,_=>False
theorem f9v (op:BinOp) (y:Opd) (vx vy:V) (k:V->Prop) (h:i4v op y vx vy k):∃ v,a8q op vx vy=some v/\k v:=by
 unfold i4v at h
 split at h
 ·rename_i k1 a k2 b
  cases op<;>simp only[e1i,a2p,g4t,decide_eq_true_eq]at h<;>first
   |(obtain⟨rfl,h0,h⟩:=h;refine⟨_,?_,h⟩;simp[h0];done)
   |(obtain⟨rfl,h⟩:=h;refine⟨_,?_,h⟩;simp;done)
   |(obtain⟨h0,h⟩:=h;refine⟨_,?_,h⟩;simp[h0];done)
 ·rename_i a b
  cases op<;>first
   |(cases h;done)
   |(obtain⟨h0,h⟩:=h;refine⟨_,?_,h⟩;simp[h0];done)
   |(refine⟨_,?_,h⟩;simp;done)
 ·cases h
noncomputable def h7l (H:Hp) (v:V) (k:List D->Prop):Prop:=match v with
 | .d (.sl l)=>k l
 | .nils=>k []
 | .nile=>k []
 | .row id len=>b4c H id fun o=>match o with
   | .row _ l=>l.length=len/\k l
   |_=>False
 | .arr id off len=>b4c H id fun o=>match o with
   | .frz c=>off+len<=c.length/\k ((c.drop off).take len)
   |_=>False
 |v=> ∃ l,lsize H v=some l/\k l
theorem d1g (H:Hp) (v:V) (k:List D->Prop) (h:h7l H v k):∃ l,lsize H v=some l/\k l:=by
 unfold h7l at h
 split at h
 ·exact⟨_,rfl,h⟩
 ·exact⟨_,rfl,h⟩
 ·exact⟨_,rfl,h⟩
 ·rename_i id len
  obtain⟨o,ho,h⟩:=(a1u ..).1 h
  cases o with
  |row sz l=>
   obtain⟨h1,h2⟩:=h
   exact⟨l,by simp only[lsize,b2i,ho,h1,if_true],h2⟩
  |_=>cases h
 ·rename_i id off len
  obtain⟨o,ho,h⟩:=(a1u ..).1 h
  cases o with
  |frz c=>
   obtain⟨h1,h2⟩:=h
   exact⟨_,by simp only[lsize,b2i,ho,if_pos h1],h2⟩
  |_=>cases h
 ·exact h
noncomputable def d0r (cx:Cx) (e:Env) (d:Nat) (o:Option Opd) (k:Nat->Prop):Prop:=match o with
 |none=>k d
 |some x=>match gO cx e x with
  | .d (.int _ n)=>h7i x n (k n.toNat)
  |_=>False
theorem b6v (cx:Cx) (e:Env) (d:Nat) (o:Option Opd) (k:Nat->Prop) (h:d0r cx e d o k):∃ n,a0s.bound cx e d o=some n/\k n:=by
 unfold d0r at h
 split at h
 ·exact⟨_,rfl,h⟩
 ·rename_i x
  rw[c5j]at h
  split at h
  ·rename_i k n hx
   obtain⟨h0,h⟩:=(e1i ..).1 h
   exact⟨_,by simp only[a0s.bound,hx,a4k,if_pos h0],h⟩
  ·cases h
def dK (H:Hp) (v:V) (k:D->Prop):Prop:=match v with
 | .d x=>k x
 | .nils=>k (.sl [])
 | .nile=>k (.sl [])
 |v=> ∃ x,toD H v=some x/\k x
theorem e7z {H:Hp} {v:V} {k:D->Prop} (h:dK H v k):∃ x,toD H v=some x/\k x:=by
 unfold dK at h
 split at h
 ·exact⟨_,rfl,h⟩
 ·exact⟨_,rfl,h⟩
 ·exact⟨_,rfl,h⟩
 ·exact h
noncomputable def dsK (cx:Cx) (e:Env) (H:Hp) (l:List Opd):(List D->Prop)->Prop:=List.rec (motive:=fun _=>(List D->Prop)->Prop) (fun k=>k []) (fun x _ ih k=>dK H (gO cx e x) fun v=>ih fun vs=>k (v::vs)) l
theorem d7s {cx:Cx} {e:Env} {H:Hp}:∀ {l:List Opd} {k:List D->Prop},dsK cx e H l k->∃ ds,a0s.toDs' cx e H l=some ds/\k ds
 |[],_,h=>⟨[],rfl,h⟩
 |x::r,k,h=>by
  have h:dK H (gO cx e x) fun v=>dsK cx e H r fun vs=>k (v::vs):=h
  obtain⟨y,hy,h⟩:=e7z h
  obtain⟨ys,hys,h⟩:=d7s h
  rw[c5j]at hy
  exact⟨y::ys,by simp only[a0s.toDs',hy,hys],h⟩
noncomputable def look (l:List (Nat×Bool)):Nat->Option Bool:=List.rec (motive:=fun _=>Nat->Option Bool) (fun _=>none) (fun p _ ih i=>match Nat.beq p.1 i with|true=>some p.2|false=>ih i) l
theorem c8h (g:Nat) (b:Bool) (r:List (Nat×Bool)) (i:Nat):look ((g,b)::r) i=match Nat.beq g i with|true=>some b|false=>look r i:=rfl
noncomputable def forget (l:List (Nat×Bool)):Nat->List (Nat×Bool):=List.rec (motive:=fun _=>Nat->List (Nat×Bool)) (fun _=>[]) (fun p _ ih i=>match Nat.beq p.1 i with|true=>ih i|false=>p::ih i) l
theorem d8v (g:Nat) (b:Bool) (r:List (Nat×Bool)) (i:Nat):forget ((g,b)::r) i=match Nat.beq g i with|true=>forget r i|false=>(g,b)::forget r i:=rfl
section
variable (pg:Pg)
noncomputable def wpO (kn:List (Nat×Bool)) (b:Nat) (e:Env) (H:Hp) (o:VOp) (k:V->Hp->Prop):Prop:=match o with
 | .mv x=>b5s (gO pg.toCx e x) fun v=>k v H
 | .pick c x y=>match(match c with| .t i=>look kn i|_=>none)with
   |some true=>b5s (gO pg.toCx e x) fun v=>k v H
   |some false=>b5s (gO pg.toCx e y) fun v=>k v H
   |none=>match gO pg.toCx e c with
    | .d (.bool t)=>(t=true->b5s (gO pg.toCx e x) fun v=>k v H)/\(t=false->b5s (gO pg.toCx e y) fun v=>k v H)
    |_=>False
 | .zbox z=>d7p H 0 fun n=>a1g (H++[.box z]) fun H'=>k (.ptr n 0) H'
 | .box x=>a1g (gO pg.toCx e x).cells fun c=>chk (c.all V.one) (d7p H 0 fun n=>a1g (H++[.box c]) fun H'=>k (.ptr n 0) H')
 | .build z ps=>chk (ps.all fun p=>(gO pg.toCx e p.2.2).cells.all V.one) (match c2m z (ps.map fun p=>(p.1,p.2.1,gO pg.toCx e p.2.2))with
   |some c=>h7q c fun v=>k v H
   |none=>False)
 | .bslice sz len ps=>dsK pg.toCx e H ps fun l=>chk (Nat.beq l.length len && l.all (fun x=>x.cells.length==sz) && Nat.blt 0 sz && Nat.ble (len*sz) 16777216) (k (.d (.sl l)) H)
 | .blit sz len ps=>dsK pg.toCx e H ps fun l=>chk (Nat.beq l.length len && l.all (fun x=>x.cells.length==sz) && Nat.blt 0 sz && Nat.ble (len*sz) 16777216) (d7p H 0 fun n=>a1g (H++[.row sz l]) fun H'=>k (.row n len) H')
 | .ld n x=>match gO pg.toCx e x with
   | .ptr id off=>b4c H id fun ob=>match ob with
     | .box c=>c7q n c off fun v=>k v H
     | .frz c=>c7q n (c.map V.d) off fun v=>k v H
     |_=>False
   | .ro l off=>c7q n (l.map V.d) off fun v=>k v H
   |_=>False
 | .st n a x=>match gO pg.toCx e a with
   | .ptr id off=>b4c H id fun ob=>match ob with
     | .box c=>a1g (gO pg.toCx e x).cells fun xs=>chk (Nat.beq xs.length n && Nat.ble (off+n) c.length && xs.all V.one && (a0z id xs||Nat.ble b id||b2b c off xs)) (a1g (putAt c off xs) fun c'=>a1g (H.set id (.box c')) fun H'=>k .undef H')
     |_=>False
   |_=>False
 | .bin op x y=>i4v op y (gO pg.toCx e x) (gO pg.toCx e y) fun v=>k v H
 | .eqa neg ks x y=>match gO pg.toCx e x,gO pg.toCx e y with
   | .d (.agg c),.d (.agg d)=>chk (kindOk ks c d) (match neg with|true=>k (.d (.bool !eqL c d)) H|false=>k (.d (.bool (eqL c d))) H)
   |_,_=>False
 | .isnil neg x=>match gO pg.toCx e x with
   | .ifc b=>match neg with|true=>k (.d (.bool !b)) H|false=>k (.d (.bool b)) H
   |_=>False
 | .eqb neg x y=>match gO pg.toCx e x,gO pg.toCx e y with
   | .d (.bool c),.d (.bool d)=>match neg with|true=>k (.d (.bool !(c==d))) H|false=>k (.d (.bool (c==d))) H
   |_,_=>False
 | .un op x=>match op,gO pg.toCx e x with
   | .neg,.d (.int kk n)=>k (.d (.int kk (kk.wrap (0 - n)))) H
   | .not,.d (.bool t)=>k (.d (.bool !t)) H
   |_,_=>False
 | .conv kk x=>match gO pg.toCx e x with
   | .d (.int _ n)=>k (.d (.int kk (kk.wrap n))) H
   |_=>False
 | .mkfn f caps=>a1g (caps.map (gO pg.toCx e)) fun l=>k (.fn f l) H
 | .mkfm f caps=>a1g (caps.map (gO pg.toCx e)) fun l=>k (.fm f l) H
 | .fld off n x=>match gO pg.toCx e x with
   | .d (.agg c)=>c7q n (c.map V.d) off fun v=>k v H
   | .agg c=>c7q n c off fun v=>k v H
   |_=>False
 | .fadr off x=>match gO pg.toCx e x with
   | .ptr id o=>k (.ptr id (o+off)) H
   | .ro l o=>k (.ro l (o+off)) H
   |_=>False
 | .iadr sz x i=>match gO pg.toCx e i with
   | .d (.int _ n)=>match gO pg.toCx e x with
     | .arr id off len=>(0<=n/\n.toNat < len)/\k (.ptr id (off+n.toNat*sz)) H
     |v=>h7l H v fun l=> ∃ y,(0<=n/\l[n.toNat]? =some y)/\y.cells.length=sz/\k (.ro y.cells 0) H
   |_=>False
 | .iadra len sz x i=>match gO pg.toCx e i with
   | .d (.int _ n)=>(0<=n/\n.toNat < len)/\(match gO pg.toCx e x with
     | .ptr id o=>k (.ptr id (o+n.toNat*sz)) H
     | .ro l o=>k (.ro l (o+n.toNat*sz)) H
     |_=>False)
   |_=>False
 | .idx x i=>match gO pg.toCx e i,gO pg.toCx e x with
   | .d (.int _ n),.d (.str s)=> ∃ c,(0<=n/\s[n.toNat]? =some c)/\k (.d (.int .u8 c.toNat)) H
   |_,_=>False
 | .slcs x lo hi=>match gO pg.toCx e x with
   | .d (.str s)=>d0r pg.toCx e 0 lo fun l=>d0r pg.toCx e s.length hi fun h=>(l<=h/\h<=s.length)/\k (.d (.str ((s.take h).drop l))) H
   |_=>False
 | .slc sz x lo hi=>h7l H (gO pg.toCx e x) fun s=>d0r pg.toCx e 0 lo fun l=>d0r pg.toCx e s.length hi fun h=>(l<=h/\h<=s.length/\(lo.isNone||s.all (fun y=>y.cells.length==sz))=true)/\k (.d (.sl ((s.take h).drop l))) H
 | .ext x i=>match gO pg.toCx e x with
   | .tup l=>b4c l i fun v=>k v H
   |_=>False
 | .mkm=>d7p H 0 fun n=>a1g (H++[.map []]) fun H'=>k (.mp n) H'
 | .brow sz=>chk (Nat.blt 0 sz) (k .nile H)
 | .c2v kk m kx x=>match gO pg.toCx e m with
   | .mp id=>b4c H id fun ob=>match ob with
     | .map l=>(match gO pg.toCx e kx with
       | .d kd=>chk (a9w kk kd) (b3y kk l=true/\dK H (gO pg.toCx e x) fun x=>a1g (H.set id (.map (g1g kd x l))) fun H'=>k .undef H')
       |_=>False)
     |_=>False
   |_=>False
 | .mget kk ok z m kx=>match gO pg.toCx e m with
   | .mp id=>b4c H id fun ob=>match ob with
     | .map l=>(match gO pg.toCx e kx with
       | .d kd=>chk (a9w kk kd) (b3y kk l=true/\∃ r,d2m kd l=r/\k (i0i ok z r) H)
       |_=>False)
     |_=>False
   |_=>False
 | .ment kk z m kx=>match gO pg.toCx e m with
   | .mp id=>b4c H id fun ob=>match ob with
     | .map l=>(match gO pg.toCx e kx with
       | .d kd=>chk (a9w kk kd) (b3y kk l=true/\∃ r,a6d kd l=r/\(match r with
         |some i=> ∃ p,l[i]? =some p/\k (.tup [.d p.2,.d (.int .i64 i)]) H
         |none=>a1g (H.set id (.map (l++[(kd,z)]))) fun H'=>k (.tup [.d z,.d (.int .i64 l.length)]) H'))
       |_=>False)
     |_=>False
   |_=>False
 | .mest m s x=>match gO pg.toCx e m with
   | .mp id=>b4c H id fun ob=>match ob with
     | .map l=>(match gO pg.toCx e s with
       | .d (.int _ n)=>(0<=n/\n.toNat < l.length)/\dK H (gO pg.toCx e x) fun x=>a1g (H.set id (.map (c2v n.toNat x l))) fun H'=>k .undef H'
       |_=>False)
     |_=>False
   |_=>False
 | .call f args=>d3z pg.toCx e H args fun vs=> ∃ r H',evF pg f vs H=some (r,H')/\k r H'
 | .callv f args=>match gO pg.toCx e f with
   | .fn f c=>d3z pg.toCx e H args fun vs=>a1g (vs++c) fun vs=> ∃ r H',evF pg f vs H=some (r,H')/\k r H'
   | .fm f c=>d3z pg.toCx e H args fun vs=>a1g (c++vs) fun vs=> ∃ r H',evF pg f vs H=some (r,H')/\k r H'
   |_=>False
 | .len true x=>match gO pg.toCx e x with
   | .d (.str s)=>k (.d (.int .i64 s.length)) H
   |_=>False
 | .len false x=>match gO pg.toCx e x with
   | .d (.sl l)=>k (.d (.int .i64 l.length)) H
   | .nils=>k (.d (.int .i64 0)) H
   | .nile=>k (.d (.int .i64 0)) H
   | .row _ n=>k (.d (.int .i64 n)) H
   | .arr _ _ n=>k (.d (.int .i64 n)) H
   |_=>False
 | .app sz bytes x y=>h7l H (gO pg.toCx e y) fun ys=>((ys.all (fun y=>y.cells.length==sz))=true/\0 < sz)/\(match gO pg.toCx e x with
   | .row id len=>b4c H id fun ob=>match ob with
     | .row sz' l=>(sz'=sz/\l.length=len/\roomy (len+ys.length) bytes)/\a1g (H.set id (.row sz (l++ys))) fun H'=>k (.row id (len+ys.length)) H'
     |_=>False
   | .nile=>(ys=[]->k .nile H)/\(ys≠[]->roomy ys.length bytes/\d7p H 0 fun n=>a1g (H++[.row sz ys]) fun H'=>k (.row n ys.length) H')
   |v=> ∃ r H',a0s pg.toCx (evF pg) b e H (.app sz bytes x y)=some (r,H')/\(v=v/\k r H'))
 | .convs x=>match gO pg.toCx e x with
   | .d (.str s)=>k (.d (.str s)) H
   |_=>False
 | .nilck x=>match gO pg.toCx e x with
   | .ptr id off=>k (.ptr id off) H
   | .fn f c=>k (.fn f c) H
   | .fm f c=>k (.fm f c) H
   |_=>False
 | .msl sz bytes z n=>match gO pg.toCx e n with
   | .d (.int _ m)=>(0<=m/\roomy m.toNat bytes)/\chk (Nat.beq z.length 1 && Nat.beq sz 1) (d7p H 0 fun n0=>a1g (H++[.box (List.replicate m.toNat (z.headD .undef))]) fun H'=>k (.arr n0 0 m.toNat) H')
   |_=>False
 | .mm mx x y=>match gO pg.toCx e x,gO pg.toCx e y with
   | .d (.int k1 a),.d (.int k2 c)=>chk (decide (k1=k2)) (match mx with|true=>k (.d (.int k1 (max a c))) H|false=>k (.d (.int k1 (min a c))) H)
   |_,_=>False
 |o=> ∃ r H',a0s pg.toCx (evF pg) b e H o=some (r,H')/\k r H'
end
def a3w (kn:List (Nat×Bool)) (e:Env):Prop:=∀ i t,look kn i=some t->a1l e i= .d (.bool t)
theorem a3w.forget {kn:List (Nat×Bool)} {e:Env} (h:a3w kn e) (d:Nat) (v:V):a3w (forget kn d) ((d,v)::e):=by
 have key:∀ (kn:List (Nat×Bool)) i t,look (Vm.forget kn d) i=some t->i≠d/\look kn i=some t:=by
  intro kn
  induction kn with
  |nil=>intro i t h;cases h
  |cons p r ih=>
   obtain⟨g,b⟩:=p
   intro i t h
   rw[d8v]at h
   by_cases hg:g=d
   ·rw[g8x hg]at h
    obtain⟨h1,h2⟩:=ih i t h
    refine⟨h1,?_⟩
    rw[c8h,g2q (fun e=>h1 om)]
    exact h2
   ·rw[g2q hg]at h
    simp only[c8h]at h⊢
    by_cases hi:g=i
    ·rw[g8x hi]at h⊢
     exact⟨fun e=>hg om,h⟩
    ·rw[g2q hi]at h⊢
     exact ih i t h
 intro i t hi
 obtain⟨h1,h2⟩:=key kn i t hi
 unfold a1l
 rw[if_neg (fun e=>h1 e.symm)]
 exact h i t h2
theorem a3w.add {kn:List (Nat×Bool)} {e:Env} (h:a3w kn e) {g:Nat} {t:Bool} (hg:a1l e g= .d (.bool t)):a3w ((g,t)::kn) e:=by
 intro i u hi
 rw[c8h]at hi
 by_cases hgi:g=i
 ·rw[g8x hgi]at hi
  cases hi;rw[<-hgi];exact hg
 ·rw[g2q hgi]at hi
  exact h i u hi
theorem a3w.nil (e:Env):a3w [] e:=by intro i t h;cases h
section
variable {pg:Pg}
theorem g7i {kn:List (Nat×Bool)} {b:Nat} {e:Env} {H:Hp} {o:VOp} {k:V->Hp->Prop} (hk:a3w kn e) (h:wpO pg kn b e H o k):∃ v H',a0s pg.toCx (evF pg) b e H o=some (v,H')/\k v H':=by
 cases o<;>simp only[wpO,c5j,c2p]at h
 case mv x=>exact⟨_,_,rfl,h⟩
 case pick c x y=>
  have gen:∀ t,evO pg.toCx e c= .d (.bool t)->(if t then k (evO pg.toCx e x) H else k (evO pg.toCx e y) H)->∃ v H',a0s pg.toCx (evF pg) b e H (.pick c x y)=some (v,H')/\k v H':=by
   intro t hc hh
   refine⟨if t then evO pg.toCx e x else evO pg.toCx e y,H,by simp only[a0s,hc],?_⟩
   cases t
   ·simpa using hh
   ·simpa using hh
  split at h
  ·rename_i hc
   cases c with
   |t i=>exact gen true (hk i true hc) (by simpa using h)
   |_=>cases hc
  ·rename_i hc
   cases c with
   |t i=>exact gen false (hk i false hc) (by simpa using h)
   |_=>cases hc
  ·split at h
   ·rename_i t hc
    refine gen t hc ?_
    cases t
    ·simpa using h
    ·simpa using h
   ·cases h
 case zbox z=>
  simp only[a8w,a0q,Nat.zero_add]at h
  exact⟨_,_,rfl,h⟩
 case box x=>
  simp only[a8w,a0q,Nat.zero_add,a2p]at h
  exact⟨_,_,by simp only[a0s,h.1,if_true],h.2⟩
 case build z ps=>
  rw[a2p]at h
  obtain⟨h1,h⟩:=h
  split at h
  ·rename_i c hc
   rw[f3f]at h
   exact⟨_,_,by simp only[a0s,h1,if_true,hc,Option.map_some],h⟩
  ·cases h
 case bslice sz len ps=>
  obtain⟨l,hl,h⟩:=d7s h
  simp only[a2p,Bool.and_eq_true,Nat.beq_eq,Nat.ble_eq]at h
  obtain⟨⟨⟨⟨h1,h2⟩,h3⟩,h4⟩,h⟩:=h
  refine⟨_,_,?_,h⟩
  simp only[a0s,hl]
  rw[if_pos ⟨h1,h2,by simp[Nat.blt]at h3;omega,h4⟩]
 case blit sz len ps=>
  obtain⟨l,hl,h⟩:=d7s h
  simp only[a2p,Bool.and_eq_true,Nat.beq_eq,Nat.ble_eq]at h
  obtain⟨⟨⟨⟨h1,h2⟩,h3⟩,h4⟩,h⟩:=h
  rw[a8w,a0q,Nat.zero_add]at h
  refine⟨_,_,?_,h⟩
  simp only[a0s,hl]
  rw[if_pos ⟨h1,h2,by simp[Nat.blt]at h3;omega,h4⟩]
 case ld n x=>
  split at h
  ·rename_i id off hx
   obtain⟨o,ho,h⟩:=(a1u ..).1 h
   cases o with
   |box c=>
    obtain⟨v,hv,h⟩:=(b1d ..).1 h
    exact⟨_,_,by simp only[a0s,hx,b8m,b0o,ho,hv,Option.map_some],h⟩
   |frz c=>
    obtain⟨v,hv,h⟩:=(b1d ..).1 h
    exact⟨_,_,by simp only[a0s,hx,b8m,b0o,ho,hv,Option.map_some],h⟩
   |_=>cases h
  ·rename_i l off hx
   obtain⟨v,hv,h⟩:=(b1d ..).1 h
   exact⟨_,_,by simp only[a0s,hx,b8m,b0o,hv,Option.map_some],h⟩
  ·cases h
 case st n a x=>
  split at h
  ·rename_i id off hx
   obtain⟨o,ho,h⟩:=(a1u ..).1 h
   cases o with
   |box c=>
    simp only[a0q,a2p,Bool.and_eq_true,Nat.beq_eq,Nat.ble_eq,Bool.or_eq_true]at h
    obtain⟨⟨⟨⟨h1,h2⟩,h3⟩,h4⟩,h⟩:=h
    refine⟨_,_,?_,h⟩
    simp only[a0s,hx,c4w,ho]
    rw[if_pos ⟨h1,h2,h3,by simpa using h4⟩];rfl
   |_=>cases h
  ·cases h
 case bin op x y=>
  obtain⟨v,hv,h⟩:=f9v _ _ _ _ _ h
  exact⟨_,_,by simp only[a0s,hv,Option.map_some],h⟩
 case eqa neg ks x y=>
  split at h
  ·rename_i c d hc hd
   rw[a2p]at h
   obtain⟨h1,h⟩:=h
   refine⟨.d (.bool (if neg then !eqL c d else eqL c d)),H,by simp only[a0s,hc,hd,if_pos h1],?_⟩
   cases neg<;>simpa using h
  ·cases h
 case isnil neg x=>
  split at h
  ·rename_i b hx
   refine⟨.d (.bool (if neg then !b else b)),H,by simp only[a0s,hx],?_⟩
   cases neg<;>simpa using h
  ·cases h
 case eqb neg x y=>
  split at h
  ·rename_i c d hc hd
   refine⟨.d (.bool (if neg then !(c==d) else c==d)),H,by simp only[a0s,hc,hd],?_⟩
   cases neg<;>simpa using h
  ·cases h
 case un op x=>
  split at h
  ·rename_i hx
   exact⟨_,_,by simp only[a0s,hx,unV,Option.map_some],h⟩
  ·rename_i hx
   exact⟨_,_,by simp only[a0s,hx,unV,Option.map_some],h⟩
  ·cases h
 case conv kk x=>
  split at h
  ·rename_i hx
   exact⟨_,_,by simp only[a0s,hx],h⟩
  ·cases h
 case mkfn f caps=>
  rw[a0q]at h
  exact⟨_,_,by simp only[a0s];rfl,(by simpa only[c5j,funext (c5j pg.toCx e)] using h)⟩
 case mkfm f caps=>
  rw[a0q]at h
  exact⟨_,_,by simp only[a0s];rfl,(by simpa only[c5j,funext (c5j pg.toCx e)] using h)⟩
 case fld off n x=>
  split at h
  ·rename_i hx
   obtain⟨v,hv,h⟩:=(b1d ..).1 h
   exact⟨_,_,by simp only[a0s,hx,hv,Option.map_some],h⟩
  ·rename_i hx
   obtain⟨v,hv,h⟩:=(b1d ..).1 h
   exact⟨_,_,by simp only[a0s,hx,hv,Option.map_some],h⟩
  ·cases h
 case fadr off x=>
  split at h
  ·rename_i hx;exact⟨_,_,by simp only[a0s,hx],h⟩
  ·rename_i hx;exact⟨_,_,by simp only[a0s,hx],h⟩
  ·cases h
 case iadr sz x i=>
  split at h
  ·rename_i kk n hi
   have gen:∀ v,evO pg.toCx e x=v->(∀ id off len,v≠ .arr id off len)->(∃ l,lsize H v=some l/\∃ y,(0<=n/\l[n.toNat]? =some y)/\y.cells.length=sz/\k (.ro y.cells 0) H)->∃ v H',a0s pg.toCx (evF pg) b e H (.iadr sz x i)=some (v,H')/\k v H':=by
    rintro v hv hna ⟨l,hl,y,⟨h0,hy⟩,hs,h⟩
    refine⟨_,_,?_,h⟩
    simp only[a0s,hi,a4k,if_pos h0,hv]
    cases v with
    |arr a b c=>exact absurd rfl (hna a b c)
    |_=>simp only[hl,hy,hs,if_true]
   split at h
   ·rename_i id off len hx
    exact⟨_,_,by simp only[a0s,hi,a4k,if_pos h.1.1,hx,if_pos h.1.2],h.2⟩
   ·rename_i v hna
    exact gen _ rfl (fun a b c hh=>hna a b c hh) (d1g _ _ _ h)
  ·cases h
 case iadra len sz x i=>
  split at h
  ·rename_i kk n hi
   obtain⟨⟨h0,h1⟩,h⟩:=h
   split at h
   ·rename_i hx
    exact⟨_,_,by simp only[a0s,hi,a4k,if_pos h0,if_pos h1,hx],h⟩
   ·rename_i hx
    exact⟨_,_,by simp only[a0s,hi,a4k,if_pos h0,if_pos h1,hx],h⟩
   ·cases h
  ·cases h
 case idx x i=>
  split at h
  ·rename_i hi hx
   obtain⟨c,⟨h0,hc⟩,h⟩:=h
   exact⟨_,_,by simp only[a0s,hi,a4k,if_pos h0,hx,hc,Option.map_some],h⟩
  ·cases h
 case slcs x lo hi=>
  split at h
  ·rename_i s hx
   obtain⟨l,hl,h⟩:=b6v _ _ _ _ _ h
   obtain⟨r,hr,h⟩:=b6v _ _ _ _ _ h
   exact⟨_,_,by simp only[a0s,hx,hl,hr,if_pos h.1],h.2⟩
  ·cases h
 case slc sz x lo hi=>
  obtain⟨s,hs,h⟩:=d1g _ _ _ h
  obtain⟨l,hl,h⟩:=b6v _ _ _ _ _ h
  obtain⟨r,hr,h⟩:=b6v _ _ _ _ _ h
  exact⟨_,_,by simp only[a0s,hs,hl,hr,if_pos h.1],h.2⟩
 case ext x i=>
  split at h
  ·rename_i l hx
   obtain⟨v,hv,h⟩:=(a1u ..).1 h
   exact⟨_,_,by simp only[a0s,hx,hv,Option.map_some],h⟩
  ·cases h
 case nilck x=>
  split at h
  ·rename_i hx;exact⟨_,_,by simp only[a0s,hx],h⟩
  ·rename_i hx;exact⟨_,_,by simp only[a0s,hx],h⟩
  ·rename_i hx;exact⟨_,_,by simp only[a0s,hx],h⟩
  ·cases h
 case msl sz bytes z n=>
  split at h
  ·rename_i m hn
   obtain⟨h1,h⟩:=h
   simp only[a2p,Bool.and_eq_true,Nat.beq_eq,a8w,a0q,Nat.zero_add]at h
   exact⟨_,_,by simp only[a0s,hn,if_pos (show 0<=m/\roomy m.toNat bytes/\z.length=1/\sz=1 from⟨h1.1,h1.2,h.1.1,h.1.2⟩)],h.2⟩
  ·cases h
 case mm mx x y=>
  split at h
  ·rename_i k1 a k2 c hx hy
   rw[a2p]at h
   obtain⟨h1,h⟩:=h
   refine⟨.d (.int k1 (if mx then max a c else min a c)),H,by simp only[a0s,hx,hy,if_pos (of_decide_eq_true h1)],?_⟩
   cases mx<;>simpa using h
  ·cases h
 case mkm=>
  simp only[a8w,a0q,Nat.zero_add]at h
  exact⟨_,_,rfl,h⟩
 case brow sz=>
  rw[a2p]at h
  obtain⟨h1,h⟩:=h
  have h1:0 < sz:=by simpa [Nat.blt_eq] using h1
  exact⟨_,_,by simp only[a0s,if_pos h1],h⟩
 case c2v kk m kx x=>
  split at h
  ·rename_i id hm
   obtain⟨ob,ho,h⟩:=(a1u ..).1 h
   cases ob with
   |map l=>
    simp only at h
    split at h
    ·rename_i kd hk
     rw[a2p]at h
     obtain⟨h1,h2,h⟩:=h
     obtain⟨x',hx,h⟩:=e7z h
     rw[a0q]at h
     exact⟨_,_,by simp only[a0s,hm,hk,hx,ho,h1,h2,Bool.and_self,if_true],h⟩
    ·cases h
   |_=>cases h
  ·cases h
 case mget kk ok z m kx=>
  split at h
  ·rename_i id hm
   obtain⟨ob,ho,h⟩:=(a1u ..).1 h
   cases ob with
   |map l=>
    simp only at h
    split at h
    ·rename_i kd hk
     rw[a2p]at h
     obtain⟨h1,h2,r,rfl,h⟩:=h
     exact⟨_,_,by simp only[a0s,hm,hk,ho,h1,h2,Bool.and_self,if_true],h⟩
    ·cases h
   |_=>cases h
  ·cases h
 case ment kk z m kx=>
  split at h
  ·rename_i id hm
   obtain⟨ob,ho,h⟩:=(a1u ..).1 h
   cases ob with
   |map l=>
    simp only at h
    split at h
    ·rename_i kd hk
     rw[a2p]at h
     obtain⟨h1,h2,r,hr,h⟩:=h
     cases r with
     |some i=>
      obtain⟨p,hp,h⟩:=h
      exact⟨_,_,by simp only[a0s,hm,hk,ho,h1,h2,Bool.and_self,if_true,hr,hp,Option.map_some],h⟩
     |none=>
      simp only[a0q]at h
      exact⟨_,_,by simp only[a0s,hm,hk,ho,h1,h2,Bool.and_self,if_true,hr],h⟩
    ·cases h
   |_=>cases h
  ·cases h
 case mest m s x=>
  split at h
  ·rename_i id hm
   obtain⟨ob,ho,h⟩:=(a1u ..).1 h
   cases ob with
   |map l=>
    simp only at h
    split at h
    ·rename_i n hs
     obtain⟨h1,h⟩:=h
     obtain⟨x',hx,h⟩:=e7z h
     rw[a0q]at h
     exact⟨_,_,by simp only[a0s,hm,hs,hx,ho,if_pos h1],h⟩
    ·cases h
   |_=>cases h
  ·cases h
 case call f args=>
  obtain⟨r,H',hr,h⟩:=b0y _ _ _ _ _ h
  exact⟨r,H',hr,h⟩
 case callv f args=>
  split at h
  ·rename_i f c hf
   have h:=b0y _ _ _ _ _ h
   rw[a0q]at h
   obtain⟨r,H',hr,h⟩:=h
   exact⟨r,H',by simp only[a0s,hf];exact hr,h⟩
  ·rename_i f c hf
   have h:=b0y _ _ _ _ _ h
   rw[a0q]at h
   obtain⟨r,H',hr,h⟩:=h
   exact⟨r,H',by simp only[a0s,hf];exact hr,h⟩
  ·cases h
 case len str x=>
  cases str
  ·simp only[c5j]at h
   split at h
   ·rename_i hx;exact⟨_,_,by simp only[a0s,hx,d1h,Option.map_some],h⟩
   ·rename_i hx;exact⟨_,_,by simp only[a0s,hx,d1h,Option.map_some];rfl,h⟩
   ·rename_i hx;exact⟨_,_,by simp only[a0s,hx,d1h,Option.map_some];rfl,h⟩
   ·rename_i hx;exact⟨_,_,by simp only[a0s,hx,d1h,Option.map_some],h⟩
   ·rename_i hx;exact⟨_,_,by simp only[a0s,hx,d1h,Option.map_some],h⟩
   ·cases h
  ·simp only[c5j]at h
   split at h
   ·rename_i hx;exact⟨_,_,by simp only[a0s,hx],h⟩
   ·cases h
 case convs x=>
  split at h
  ·rename_i hx;exact⟨_,_,by simp only[a0s,hx],h⟩
  ·cases h
 case app sz bytes x y=>
  obtain⟨ys,hys,⟨⟨h1,h2⟩,h⟩⟩:=d1g _ _ _ h
  split at h
  ·rename_i id len hx
   obtain⟨o,ho,h⟩:=(a1u ..).1 h
   cases o with
   |row sz' l=>
    obtain⟨⟨h3,h4,h5⟩,h⟩:=h
    rw[a0q]at h
    refine⟨_,_,?_,h⟩
    simp only[a0s,hys,hx,ho]
    rw[if_pos ⟨h1,h2⟩,if_pos ⟨h3,h4,h5⟩]
   |_=>cases h
  ·rename_i hx
   by_cases hy:ys=[]
   ·refine⟨_,_,?_,h.1 hy⟩
    simp only[a0s,hys,hx]
    rw[if_pos ⟨h1,h2⟩,if_pos hy]
   ·obtain⟨h3,h⟩:=h.2 hy
    simp only[a8w,a0q,Nat.zero_add]at h
    refine⟨_,_,?_,h⟩
    simp only[a0s,hys,hx]
    rw[if_pos ⟨h1,h2⟩,if_neg hy,if_pos h3]
  ·obtain⟨r,H',hr,_,h⟩:=h
   exact⟨r,H',hr,h⟩
 all_goals exact h
end
end Go.Vm
namespace Go.Vm
section
variable (pg:Pg)
noncomputable def e4j (kn:List (Nat×Bool)) (dst:Option Nat) (v:V) (e:Env) (H:Hp) (k:List (Nat×Bool)->Env->Hp->Prop):Prop:=match dst with
 |some d=>a1g (forget kn d) fun kn=>k kn ((d,v)::e) H
 |none=>k kn e H
noncomputable def goK (b:Nat) (dst:Option Nat) (op:VOp) (kn:List (Nat×Bool)) (e:Env) (H:Hp) (k:List (Nat×Bool)->Env->Hp->Prop):Prop:=
 match op with
 | .mv (.c (.d (.bool t)))=>(match dst with
   |some d=>a1g (forget kn d) fun kn=>k ((d,t)::kn) ((d,.d (.bool t))::e) H
   |none=>k kn e H)
 | .mv (.t i)=>(match dst,look kn i with
   |some d,some t=>a1g (forget kn d) fun kn=>k ((d,t)::kn) ((d,.d (.bool t))::e) H
   |dst,_=>b5s (gE e i) fun v=>e4j kn dst v e H k)
 |op=>wpO pg kn b e H op fun v H'=>e4j kn dst v e H' k
noncomputable def b2o (b:Nat) (o:a0a) (kn:List (Nat×Bool)) (e:Env) (H:Hp) (k:List (Nat×Bool)->Env->Hp->Prop):Prop:=match o with
 |⟨dst,op,none⟩=>goK pg b dst op kn e H k
 |⟨dst,op,some (g,bb)⟩=>match look kn g with
  |some t=>match t,bb with
   |true,true=>goK pg b dst op kn e H k
   |false,false=>goK pg b dst op kn e H k
   |true,false=>e4j kn dst (.tup []) e H k
   |false,true=>e4j kn dst (.tup []) e H k
  |none=>match gE e g with
   | .tup []=>e4j kn dst (.tup []) e H k
   | .d (.bool t)=>(t=bb->goK pg b dst op ((g,bb)::kn) e H k)/\(t=(!bb)->e4j ((g,!bb)::kn) dst (.tup []) e H k)
   |_=>False
abbrev Kn:=List (Nat×Bool)
noncomputable def wpOps (b:Nat) (l:List a0a):Kn->Env->Hp->(Kn->Env->Hp->Prop)->Prop:=List.rec (motive:=fun _=>Kn->Env->Hp->(Kn->Env->Hp->Prop)->Prop) (fun kn e H K=>K kn e H) (fun o _ ih kn e H K=>b2o pg b o kn e H fun kn e H=>ih kn e H K) l
noncomputable def grK (p:Bool) (H H':Hp) (q:Prop):Prop:=match p with|true=>q|false=>grew H H'=true/\q
noncomputable def g0e (d:Option Nat) (e:Env) (H:Hp) (q:Prop):Prop:=match d with|some d=>chk ((gE e d).und H.length) q|none=>q
noncomputable def c5b (b:Nat) (m:Nat) (l:List a0a):Kn->Env->Hp->(Kn->Env->Hp->Prop)->Prop:=List.rec (motive:=fun _=>Nat->Kn->Env->Hp->(Kn->Env->Hp->Prop)->Prop) (fun _ kn e H K=>K kn e H) (fun o _ ih m kn e H K=>b2o pg b o kn e H fun kn e' H'=>match m with
  |0=>ih 0 kn e' H' K
  |m+1=>grK (b8x o.op) H H' (g0e o.dst e' H' (ih m kn e' H' K))) l m
noncomputable def i2r (b:Nat) (l:List a0a):(Hp->Prop->Prop)->Kn->Env->Hp->((Hp->Prop->Prop)->Kn->Env->Prop)->Prop:=List.rec (motive:=fun _=>(Hp->Prop->Prop)->Kn->Env->Hp->((Hp->Prop->Prop)->Kn->Env->Prop)->Prop) (fun chk kn e _ K=>K chk kn e) (fun o _ ih chk kn e H K=>b2o pg b o kn e H fun kn' e' H'=>H'=H/\ih (fun H1 P=>b2o pg b o kn e H1 fun _ e2 H2=>e2=e'/\H2=H1/\chk H1 P) kn' e' H K) l
def e4h (d:Option Nat) (o:a0a):Bool:=match d with|some t=>o.names.contains t|none=>false
noncomputable def i0l (b:Nat) (d:Option Nat) (H0:Hp) (l:List a0a):Kn->Env->Hp->(Kn->Env->Prop)->Prop:=List.rec (motive:=fun _=>Kn->Env->Hp->(Kn->Env->Prop)->Prop) (fun kn e _ K=>K kn e) (fun o _ ih kn e H1 K=>b2o pg b o kn e H1 fun kn' e' H'=>H'=H1/\(match e4h d o with
  |true=>ih kn' e' H1 K
  |false=>b2o pg b o kn e H0 fun _ e2 H2=>e2=e'/\H2=H0/\ih kn' e' H1 K)) l
noncomputable def d9r (b:Nat) (d m:Nat) (ops:List a0a) (kn:Kn) (e:Env) (H:Hp) (K:Kn->Env->Hp->Prop):Prop:=
 i2r pg b (ops.take d) (fun _ P=>P) kn e H fun chk kn e=>match ops[d]? with
   |some od=>b2o pg b od kn e H fun kn e H1=>chk H1 (i0l pg b od.dst H ((ops.take m).drop (d+1)) kn e H1 fun kn e=>wpOps pg b (ops.drop m) kn e H1 K)
   |none=>False
noncomputable def c9o (e:Env) (ks:List Nat):(Env->Prop)->Prop:=List.rec (motive:=fun _=>(Env->Prop)->Prop) (fun k=>k []) (fun i _ ih k=>b5s (gE e i) fun v=>ih fun r=>k ((i,v)::r)) ks
theorem b6x (e:Env):∀ (ks:List Nat) (k:Env->Prop),c9o e ks k=k (a2e ks e)
 |[],_=>rfl
 |i::r,k=>by
  rw[show c9o e (i::r) k=b5s (gE e i) (fun v=>c9o e r fun r=>k ((i,v)::r))from rfl,c2p,b6x e r,b7u]
  rfl
noncomputable def e0a (n:Nat) (e:Env) (ks:List Nat):(Env->Prop)->Prop:=List.rec (motive:=fun _=>(Env->Prop)->Prop) (fun k=>k []) (fun i _ ih k=>b5s (gE e i) fun v=>match v.und n with
  |true=>ih fun r=>k ((i,v)::r)
  |false=>ih fun r=>k ((i,.undef)::r)) ks
theorem c5n (n:Nat) (e:Env):∀ (ks:List Nat) (k:Env->Prop),e0a n e ks k=k (cut n (a2e ks e))
 |[],_=>rfl
 |i::r,k=>by
  rw[show e0a n e (i::r) k=b5s (gE e i) (fun v=>match v.und n with
    |true=>e0a n e r fun r=>k ((i,v)::r)
    |false=>e0a n e r fun r=>k ((i,.undef)::r))from rfl,c2p,b7u]
  have hc:cut n (a2e (i::r) e)=(i,if(a1l e i).und n then a1l e i else .undef)::cut n (a2e r e):=rfl
  rw[hc]
  cases hu:(a1l e i).und n<;>simp only[c5n n e r]<;>rfl
@[irreducible] def d4b (b:Nat) (ks:List Nat) (c:a0e) (e:Env) (H:Hp) (Q:Ex->Kn->Env->Hp->Prop):Prop:=∃ x e' H',ev pg (.loop ks c) ⟨e,H,b⟩=some (x,⟨e',H',b⟩)/\Q x [] e' H'
noncomputable def wp (b:Nat) (c:a0e):Kn->Env->Hp->(Ex->Kn->Env->Hp->Prop)->Prop:=a0e.rec (motive:=fun _=>Kn->Env->Hp->(Ex->Kn->Env->Hp->Prop)->Prop)
  (fun kn e H Q=>Q .nrm kn e H)
  (fun ops kn e H Q=>wpOps pg b ops kn e H fun kn e H=>Q .nrm kn e H)
  (fun m ops kn e H Q=>c5b pg b m ops kn e H fun kn e H=>Q .nrm kn e H)
  (fun _ _ ihc ihd kn e H Q=>ihc kn e H fun x kn' e' H'=>match x with
    | .nrm=>ihd kn' e' H' Q
    | .exit i=>Q (.exit i) kn' e' H'
    | .ret=>Q .ret kn' e' H')
  (fun o _ _ ihc ihd kn e H Q=>match o with
    | .t i=>(match look kn i with
      |some true=>ihc kn e H Q
      |some false=>ihd kn e H Q
      |none=>match gE e i with
       | .d (.bool t)=>(t=true->ihc ((i,true)::kn) e H Q)/\(t=false->ihd ((i,false)::kn) e H Q)
       |_=>False)
    |o=>match gO pg.toCx e o with
     | .d (.bool t)=>(t=true->ihc kn e H Q)/\(t=false->ihd kn e H Q)
     |_=>False)
  (fun id _ ih kn e H Q=>ih kn e H fun x kn' e' H'=>match x with
    | .exit i=>(match Nat.beq i id with|true=>Q .nrm kn' e' H'|false=>Q (.exit i) kn' e' H')
    | .nrm=>Q .nrm kn' e' H'
    | .ret=>Q .ret kn' e' H')
  (fun ks c _ _ e H Q=>c9o e ks fun e=>d4b pg b ks c e H Q)
  (fun _ ih kn e H Q=>ih kn e H Q)
  (fun i kn e H Q=>Q (.exit i) kn e H)
  (fun kn e H Q=>Q .ret kn e H)
  (fun sz t kn e H Q=>match gE e t with
    | .nils=>chk (Nat.blt 0 sz) (d7p H 0 fun n=>a1g (H++[.row sz []]) fun H'=>a1g (forget kn t) fun kn=>Q .nrm kn ((t,.row n 0)::e) H')
    |_=>False)
  (fun sz t off kn e H Q=>match gE e t with
    | .ptr id o=>b4c H id fun ob=>match ob with
      | .box c=>b4c c (o+off) fun v=>match v with
        | .nils=>chk (Nat.ble b id && Nat.blt 0 sz) (d7p H 0 fun n=>a1g (c.set (o+off) (.row n 0)) fun c'=>a1g (H.set id (.box c')++[.row sz []]) fun H'=>Q .nrm kn e H')
        |_=>False
      |_=>False
    |_=>False)
  (fun t kn e H Q=>match gE e t with
    | .arr id _ _=>b4c H id fun ob=>match ob with
      | .box c=> ∃ ds,b9e c=some ds/\a1g (H.set id (.frz ds)) fun H'=>Q .nrm kn e H'
      |_=>False
    | .row id len=>b4c H id fun ob=>match ob with
      | .row _ l=>l.length=len/\a1g (forget kn t) fun kn=>Q .nrm kn ((t,.d (.sl l))::e) H
      |_=>False
    |_=>False)
  (fun sz kn e H Q=>chk (Nat.blt 0 sz) (a1g (H++[.row sz []]) fun H'=>Q .nrm kn e H'))
  (fun t off k kn e H Q=>match gE e t with
    | .ptr id o=>b4c H id fun ob=>match ob with
      | .box c=>b4c c (o+off) fun v=>(match v with
        | .nils=>b4c H (id - k) fun ob=>(match ob with
          | .row _ []=>chk (Nat.blt 0 k && Nat.ble k id && Nat.ble b (id - k)) (a1g (c.set (o+off) (.row (id - k) 0)) fun c'=>a1g (H.set id (.box c')) fun H'=>Q .nrm kn e H')
          |_=>False)
        |_=>False)
      |_=>False
    |_=>False) c
theorem e9t (b i:Nat) (c d:a0e) (kn e H Q):wp pg b (.cond (.t i) c d) kn e H Q=(match look kn i with
      |some true=>wp pg b c kn e H Q
      |some false=>wp pg b d kn e H Q
      |none=>match gE e i with
       | .d (.bool t)=>(t=true->wp pg b c ((i,true)::kn) e H Q)/\(t=false->wp pg b d ((i,false)::kn) e H Q)
       |_=>False):=rfl
theorem e8w (b sz t:Nat) (kn e H Q):wp pg b (.newrow sz t) kn e H Q=(match gE e t with
    | .nils=>chk (Nat.blt 0 sz) (d7p H 0 fun n=>a1g (H++[.row sz []]) fun H'=>a1g (forget kn t) fun kn=>Q .nrm kn ((t,.row n 0)::e) H')
    |_=>False):=rfl
theorem e6z (b sz t off:Nat) (kn e H Q):wp pg b (.bindrow sz t off) kn e H Q=(match gE e t with
    | .ptr id o=>b4c H id fun ob=>match ob with
      | .box c=>b4c c (o+off) fun v=>match v with
        | .nils=>chk (Nat.ble b id && Nat.blt 0 sz) (d7p H 0 fun n=>a1g (c.set (o+off) (.row n 0)) fun c'=>a1g (H.set id (.box c')++[.row sz []]) fun H'=>Q .nrm kn e H')
        |_=>False
      |_=>False
    |_=>False):=rfl
theorem f7m (b sz:Nat) (kn e H Q):wp pg b (.mkrow sz) kn e H Q=chk (Nat.blt 0 sz) (a1g (H++[.row sz []]) fun H'=>Q .nrm kn e H'):=rfl
theorem f3n (b t off k:Nat) (kn e H Q):wp pg b (.bindto t off k) kn e H Q=(match gE e t with
    | .ptr id o=>b4c H id fun ob=>match ob with
      | .box c=>b4c c (o+off) fun v=>(match v with
        | .nils=>b4c H (id - k) fun ob=>(match ob with
          | .row _ []=>chk (Nat.blt 0 k && Nat.ble k id && Nat.ble b (id - k)) (a1g (c.set (o+off) (.row (id - k) 0)) fun c'=>a1g (H.set id (.box c')) fun H'=>Q .nrm kn e H')
          |_=>False)
        |_=>False)
      |_=>False
    |_=>False):=rfl
theorem f1d (b t:Nat) (kn e H Q):wp pg b (.freeze t) kn e H Q=(match gE e t with
    | .arr id _ _=>b4c H id fun ob=>match ob with
      | .box c=> ∃ ds,b9e c=some ds/\a1g (H.set id (.frz ds)) fun H'=>Q .nrm kn e H'
      |_=>False
    | .row id len=>b4c H id fun ob=>match ob with
      | .row _ l=>l.length=len/\a1g (forget kn t) fun kn=>Q .nrm kn ((t,.d (.sl l))::e) H
      |_=>False
    |_=>False):=rfl
end
section
variable {pg:Pg}
theorem b3j {kn dst v e H b} {k:List (Nat×Bool)->Env->Hp->Prop} (hk:a3w kn e) (h:e4j kn dst v e H k):∃ kn' e' H',lay dst e b (some (v,H))=some ⟨e',H',b⟩/\a3w kn' e'/\k kn' e' H':=by
 cases dst with
 |none=>exact⟨_,_,_,rfl,hk,h⟩
 |some d=>
  have h:k (forget kn d) ((d,v)::e) H:=by simpa only[e4j,a0q] using h
  exact⟨_,_,_,rfl,hk.forget d v,h⟩
theorem d9a {b dst op kn e H} {k:List (Nat×Bool)->Env->Hp->Prop} (hk:a3w kn e) (h:goK pg b dst op kn e H k):∃ kn' e' H',lay dst e b (a0s pg.toCx (evF pg) b e H op)=some ⟨e',H',b⟩/\a3w kn' e'/\k kn' e' H':=by
 have gen:∀ op,(wpO pg kn b e H op fun v H'=>e4j kn dst v e H' k)->∃ kn' e' H',lay dst e b (a0s pg.toCx (evF pg) b e H op)=some ⟨e',H',b⟩/\a3w kn' e'/\k kn' e' H':=by
   intro op h
   obtain⟨v,H',hv,h⟩:=g7i hk h
   rw[hv]
   exact b3j hk h
 unfold goK at h
 split at h
 ·rename_i t
  cases dst with
  |none=>exact⟨_,_,_,rfl,hk,h⟩
  |some d=>
   have h:k ((d,t)::forget kn d) ((d,.d (.bool t))::e) H:=by simpa only[a0q] using h
   exact⟨_,_,_,rfl,(hk.forget d _).add (by simp[a1l]),h⟩
 ·rename_i i
  split at h
  ·rename_i d t ht
   rw[a0q]at h
   exact⟨_,_,_,by simp only[a0s,evO,hk i t ht,e3m,a9r],(hk.forget d _).add (by simp[a1l]),h⟩
  ·rw[c2p,b7u]at h
   exact b3j hk h
 ·exact gen _ h
theorem a3x {b:Nat} {o:a0a} {kn e H} {k:List (Nat×Bool)->Env->Hp->Prop} (hk:a3w kn e) (h:b2o pg b o kn e H k):∃ kn' e' H',a0f pg.toCx (evF pg) o ⟨e,H,b⟩=some ⟨e',H',b⟩/\a3w kn' e'/\k kn' e' H':=by
 obtain⟨dst,op,g⟩:=o
 cases g with
 |none=>exact d9a hk h
 |some p=>
  obtain⟨g,bb⟩:=p
  have yes:∀ {kn},a3w kn e->a1l e g= .d (.bool bb)->goK pg b dst op kn e H k->∃ kn' e' H',a0f pg.toCx (evF pg) ⟨dst,op,some (g,bb)⟩ ⟨e,H,b⟩=some ⟨e',H',b⟩/\a3w kn' e'/\k kn' e' H':=by
   intro kn hk hg h
   simp only[a0f,hg,e1s,if_true]
   exact d9a hk h
  have no:∀ {kn},a3w kn e->a1l e g= .d (.bool !bb)->e4j kn dst (.tup []) e H k->∃ kn' e' H',a0f pg.toCx (evF pg) ⟨dst,op,some (g,bb)⟩ ⟨e,H,b⟩=some ⟨e',H',b⟩/\a3w kn' e'/\k kn' e' H':=by
   intro kn hk hg h
   simp only[a0f,hg,e1s]
   rw[if_neg (by cases bb<;>simp)]
   exact b3j (b:=b) hk h
  unfold b2o at h
  simp only at h
  split at h
  ·rename_i t ht
   have hg:=hk g t ht
   split at h
   ·exact yes hk hg h
   ·exact yes hk hg h
   ·exact no hk hg h
   ·exact no hk hg h
  ·rw[b7u]at h
   split at h
   ·rename_i hg
    simp only[a0f,hg,g7e]
    exact b3j (b:=b) hk h
   ·rename_i t hg
    by_cases ht:t=bb
    ·subst ht
     exact yes (hk.add hg) hg (h.1 rfl)
    ·have ht':t= !bb:=by cases t<;>cases bb<;>simp_all
     rw[ht']at hg
     exact no (hk.add hg) hg (h.2 ht')
   ·cases h
theorem b5u {b:Nat}:∀ {l:List a0a} {kn e H} {K:Kn->Env->Hp->Prop},a3w kn e->wpOps pg b l kn e H K->∃ kn' e' H',a0u pg.toCx (evF pg) l ⟨e,H,b⟩=some ⟨e',H',b⟩/\a3w kn' e'/\K kn' e' H'
 |[],_,_,_,_,hk,h=>⟨_,_,_,rfl,hk,h⟩
 |o::r,kn,e,H,K,hk,h=>by
  obtain⟨kn',e',H',h1,h2,h3⟩:=a3x hk h
  obtain⟨kn2,e2,H2,h4,hk2,h5⟩:=b5u h2 h3
  exact⟨kn2,e2,H2,by simp only[a0u,h1,Option.bind_some,h4],hk2,h5⟩
theorem g2j {b:Nat} {e:Env} {H:Hp} {o:VOp} {v:V} {H':Hp} (hp:b8x o=true) (h:a0s pg.toCx (evF pg) b e H o=some (v,H')):H'=H:=d7v hp h
theorem c1y {b:Nat} {e:Env} {H:Hp} {o:a0a} {e' H'} (hp:b8x o.op=true) (h:a0f pg.toCx (evF pg) o ⟨e,H,b⟩=some ⟨e',H',b⟩):H'=H:=by
 have key:∀ {dst:Option Nat} {r:Option (V×Hp)},(∀ v H',r=some (v,H')->H'=H)->lay dst e b r=some ⟨e',H',b⟩->H'=H:=by
  intro dst r hr h
  cases r with
  |none=>cases h
  |some q=>
   obtain⟨v,H2⟩:=q
   have:=hr v H2 rfl
   simp only[e3m,Option.some.injEq,St.mk.injEq]at h
   rw[<-h.2.1,this]
 obtain⟨dst,op,g⟩:=o
 cases g with
 |none=>exact key (fun v H' hh=>g2j hp hh) h
 |some p=>
  obtain⟨g,bb⟩:=p
  simp only[a0f]at h
  unfold grd at h
  split at h
  ·split at h
   ·exact key (fun v H' hh=>g2j hp hh) h
   ·simp only[Option.some.injEq,St.mk.injEq]at h;exact h.2.1.symm
  ·simp only[Option.some.injEq,St.mk.injEq]at h;exact h.2.1.symm
  ·cases h
theorem a7o (cx:Cx) (orc:Orc) (l:List a0a) (s:St):a2c cx orc 0 l s=a0u cx orc l s:=by cases l<;>simp[a2c,a0u]
theorem b2h {b:Nat}:∀ {l:List a0a} {m:Nat} {kn e H} {K:Kn->Env->Hp->Prop},a3w kn e->c5b pg b m l kn e H K->∃ kn' e' H',a2c pg.toCx (evF pg) m l ⟨e,H,b⟩=some ⟨e',H',b⟩/\a3w kn' e'/\K kn' e' H'
 |[],m,_,_,_,_,hk,h=>⟨_,_,_,by cases m<;>rfl,hk,h⟩
 |o::r,0,kn,e,H,K,hk,h=>by
  obtain⟨kn',e',H',h1,h2,h3⟩:=a3x hk h
  obtain⟨kn2,e2,H2,h4,hk2,h5⟩:=b2h (m:=0) h2 h3
  rw[a7o]at h4
  exact⟨kn2,e2,H2,by rw[a7o];simp only[a0u,h1,Option.bind_some,h4],hk2,h5⟩
 |o::r,m+1,kn,e,H,K,hk,h=>by
  obtain⟨kn',e',H',h1,h2,h3⟩:=a3x hk h
  have hg:grew H H'=true/\g0e o.dst e' H' (c5b pg b m r kn' e' H' K):=by
   have h3:grK (b8x o.op) H H' (g0e o.dst e' H' (c5b pg b m r kn' e' H' K)):=h3
   unfold grK at h3
   cases hp:b8x o.op with
   |true=>
    rw[hp]at h3
    rw[c1y hp h1]
    exact⟨by simp,by rw[c1y hp h1]at h3;exact h3⟩
   |false=>rw[hp]at h3;exact h3
  have hd:b9t o.dst ⟨e',H',b⟩=true/\c5b pg b m r kn' e' H' K:=by
   have:=hg.2
   unfold g0e at this
   unfold b9t
   cases hd:o.dst with
   |some d=>rw[hd]at this;simp only[a2p,b7u]at this;exact this
   |none=>rw[hd]at this;exact⟨rfl,this⟩
  obtain⟨kn2,e2,H2,h4,hk2,h5⟩:=b2h h2 hd.2
  exact⟨kn2,e2,H2,by simp only[a2c,h1,Option.bind_some,hg.1,hd.1,Bool.and_self,if_true,h4],hk2,h5⟩
theorem b2j {cx:Cx} {orc:Orc}:∀ {l l':List a0a} {s:St},a0u cx orc (l++l') s=(a0u cx orc l s).bind (a0u cx orc l')
 |[],_,_=>rfl
 |o::r,l',s=>by
  simp only[List.cons_append,a0u]
  cases a0f cx orc o s with
  |none=>rfl
  |some q=>exact b2j
theorem b7e {cx:Cx} {orc:Orc} {l:List a0a} {o:a0a} {s q r:St} (h:a0u cx orc l s=some q) (h1:a0f cx orc o q=some r):a0u cx orc (l++[o]) s=some r:=by
 rw[b2j,h];simp only[Option.bind_some,a0u,h1]
theorem b2y {l r:List a0a} {o:a0a} {i:Nat} (hi:i<=l.length):(l++o::r).take i=l.take i:=by rw[List.take_append_of_le_length hi]
structure Ahd (b:Nat) (s:St) (pre:List a0a) (e:Env) (chk:Hp->Prop->Prop):Prop where
 run:a0u pg.toCx (evF pg) pre s=some ⟨e,s.h,b⟩
 quiet:∀ i q,i<=pre.length->a0u pg.toCx (evF pg) (pre.take i) s=some q->q.h=s.h
 chk:∀ H1 P,chk H1 P->P/\∀ i o q q',pre[i]? =some o->a0u pg.toCx (evF pg) (pre.take i) s=some q->a0u pg.toCx (evF pg) (pre.take (i+1)) s=some q'->a0f pg.toCx (evF pg) o ⟨q.e,H1,b⟩=some ⟨q'.e,H1,b⟩
theorem Ahd.snoc {b:Nat} {s:St} {pre:List a0a} {e e':Env} {chk:Hp->Prop->Prop} (A:Ahd (pg:=pg) b s pre e chk) {kn:Kn} (hk:a3w kn e) {o:a0a} (h:a0f pg.toCx (evF pg) o ⟨e,s.h,b⟩=some ⟨e',s.h,b⟩):
 Ahd (pg:=pg) b s (pre++[o]) e' (fun H1 P=>b2o pg b o kn e H1 fun _ e2 H2=>e2=e'/\H2=H1/\chk H1 P):=by
 have hr:=b7e A.run h
 refine⟨hr,fun i q hi hq=>?_,fun H1 P hc=>?_⟩
 ·rw[List.length_append,List.length_singleton]at hi
  by_cases c:i<=pre.length
  ·rw[b2y c]at hq;exact A.quiet i q c hq
  ·have:i=pre.length+1:=om
   rw[this,List.take_of_length_le (by simp),hr]at hq
   cases hq;rfl
 ·obtain⟨_,e2,H2,h1,_,rfl,rfl,h4⟩:=a3x hk hc
  obtain⟨hP,hall⟩:=A.chk H2 P h4
  refine⟨hP,fun i p q q' hp hq hq'=>?_⟩
  by_cases c:i < pre.length
  ·rw[List.getElem?_append_left c]at hp
   rw[b2y om]at hq hq'
   exact hall i p q q' hp hq hq'
  ·have hi:i=pre.length:=by
    have:=(List.getElem?_eq_some_iff.1 hp).1
    rw[List.length_append,List.length_singleton]at this
    omega
   subst hi
   rw[List.getElem?_append_right (Nat.le_refl _),Nat.sub_self]at hp
   cases hp
   rw[b2y (Nat.le_refl _),List.take_of_length_le (Nat.le_refl _),A.run]at hq
   rw[List.take_of_length_le (by simp),hr]at hq'
   cases hq;cases hq'
   exact h1
theorem d2o {b:Nat} {s:St}:∀ {r pre:List a0a} {kn e chk} {K:(Hp->Prop->Prop)->Kn->Env->Prop},a3w kn e->Ahd (pg:=pg) b s pre e chk->i2r pg b r chk kn e s.h K->∃ chk' kn' e',Ahd (pg:=pg) b s (pre++r) e' chk'/\a3w kn' e'/\K chk' kn' e'
 |[],pre,kn,e,chk,K,hk,A,h=>⟨chk,kn,e,by rw[List.append_nil];exact A,hk,h⟩
 |o::r,pre,kn,e,chk,K,hk,A,h=>by
  obtain⟨kn',e',H',h1,h2,h3⟩:=a3x hk h
  obtain⟨rfl,h3⟩:=h3
  obtain⟨chk',kn2,e2,B,hk2,h5⟩:=d2o h2 (A.snoc hk h1) h3
  exact⟨chk',kn2,e2,by rw[List.append_assoc]at B;exact B,hk2,h5⟩
structure Bhd (b:Nat) (s:St) (d:Nat) (od:a0a) (H1:Hp) (pre:List a0a) (e:Env):Prop where
 run:a0u pg.toCx (evF pg) pre s=some ⟨e,H1,b⟩
 lt:d < pre.length
 quiet:∀ i q,d < i->i<=pre.length->a0u pg.toCx (evF pg) (pre.take i) s=some q->q.h=H1
 both:∀ i o q q',d < i->pre[i]? =some o->a0u pg.toCx (evF pg) (pre.take i) s=some q->a0u pg.toCx (evF pg) (pre.take (i+1)) s=some q'->(∃ t,od.dst=some t/\t∈o.names)\/a0f pg.toCx (evF pg) o ⟨q.e,s.h,b⟩=some ⟨q'.e,s.h,b⟩
theorem Bhd.snoc {b:Nat} {s:St} {d:Nat} {od:a0a} {H1:Hp} {pre:List a0a} {e e':Env} (B:Bhd (pg:=pg) b s d od H1 pre e) {o:a0a} (h:a0f pg.toCx (evF pg) o ⟨e,H1,b⟩=some ⟨e',H1,b⟩)
 (h2:(∃ t,od.dst=some t/\t∈o.names)\/a0f pg.toCx (evF pg) o ⟨e,s.h,b⟩=some ⟨e',s.h,b⟩):Bhd (pg:=pg) b s d od H1 (pre++[o]) e':=by
 have hr:=b7e B.run h
 refine⟨hr,by have:=B.lt;simp;omega,fun i q hd hi hq=>?_,fun i p q q' hd hp hq hq'=>?_⟩
 ·rw[List.length_append,List.length_singleton]at hi
  by_cases c:i<=pre.length
  ·rw[b2y c]at hq;exact B.quiet i q hd c hq
  ·have:i=pre.length+1:=om
   rw[this,List.take_of_length_le (by simp),hr]at hq
   cases hq;rfl
 ·by_cases c:i < pre.length
  ·rw[List.getElem?_append_left c]at hp
   rw[b2y om]at hq hq'
   exact B.both i p q q' hd hp hq hq'
  ·have hi:i=pre.length:=by
    have:=(List.getElem?_eq_some_iff.1 hp).1
    rw[List.length_append,List.length_singleton]at this
    omega
   subst hi
   rw[List.getElem?_append_right (Nat.le_refl _),Nat.sub_self]at hp
   cases hp
   rw[b2y (Nat.le_refl _),List.take_of_length_le (Nat.le_refl _),B.run]at hq
   rw[List.take_of_length_le (by simp),hr]at hq'
   cases hq;cases hq'
   exact h2
theorem f6p {d:Option Nat} {o:a0a} (h:e4h d o=true):∃ t,d=some t/\t∈o.names:=by
 unfold e4h at h
 split at h
 ·exact⟨_,rfl,by simpa using h⟩
 ·cases h
theorem d1y {b:Nat} {s:St} {d:Nat} {od:a0a} {H1:Hp}:∀ {r pre:List a0a} {kn e} {K:Kn->Env->Prop},a3w kn e->Bhd (pg:=pg) b s d od H1 pre e->i0l pg b od.dst s.h r kn e H1 K->∃ kn' e',Bhd (pg:=pg) b s d od H1 (pre++r) e'/\a3w kn' e'/\K kn' e'
 |[],pre,kn,e,K,hk,B,h=>⟨kn,e,by rw[List.append_nil];exact B,hk,h⟩
 |o::r,pre,kn,e,K,hk,B,h=>by
  obtain⟨kn',e',H',h1,h2,h3⟩:=a3x hk h
  obtain⟨rfl,h3⟩:=h3
  have fin:Bhd (pg:=pg) b s d od H' (pre++[o]) e'->i0l pg b od.dst s.h r kn' e' H' K->∃ kn' e',Bhd (pg:=pg) b s d od H' (pre++o::r) e'/\a3w kn' e'/\K kn' e':=by
   intro C h4
   obtain⟨kn2,e2,C',hk2,h5⟩:=d1y h2 C h4
   exact⟨kn2,e2,by rw[List.append_assoc]at C';exact C',hk2,h5⟩
  cases hn:e4h od.dst o with
  |true=>
   rw[hn]at h3
   exact fin (B.snoc h1 (.inl (f6p hn))) h3
  |false=>
   rw[hn]at h3
   obtain⟨_,e2,H2,g1,_,rfl,rfl,g4⟩:=a3x hk h3
   exact fin (B.snoc h1 (.inr g1)) g4
theorem e1g {b:Nat} {s s':St} (hb:s.b=b) {ops:List a0a} {d m:Nat} (hm:m<=ops.length) {od:a0a} (ho:ops[d]? =some od) {e1 e2:Env} {H1:Hp} {chk:Hp->Prop->Prop} {P:Prop}
 (A:Ahd (pg:=pg) b s (ops.take d) e1 chk) (hc:chk H1 P) (hd:d < m) (B:Bhd (pg:=pg) b s d od H1 (ops.take m) e2) (h:a0u pg.toCx (evF pg) ops s=some s'):d1f pg.toCx (evF pg) m ops s:=by
 have pref:∀ i,∃ q,a0u pg.toCx (evF pg) (ops.take i) s=some q:=by
  intro i
  rw[<-List.take_append_drop i ops,b2j]at h
  cases hq:a0u pg.toCx (evF pg) (ops.take i) s with
  |none=>rw[hq]at h;cases h
  |some q=>exact⟨q,rfl⟩
 have one:∀ {i o q q'},ops[i]? =some o->a0u pg.toCx (evF pg) (ops.take i) s=some q->a0u pg.toCx (evF pg) (ops.take (i+1)) s=some q'->a0f pg.toCx (evF pg) o q=some q':=by
  intro i o q q' ho hq hq'
  rw[List.take_add_one,b2j,hq,ho]at hq'
  simp only[Option.toList,Option.bind_some,a0u]at hq'
  cases hx:a0f pg.toCx (evF pg) o q with
  |none=>rw[hx]at hq';cases hq'
  |some y=>rw[hx]at hq';exact hq'
 obtain⟨τ,hτ⟩:∃ τ:Nat->St,∀ i,a0u pg.toCx (evF pg) (ops.take i) s=some (τ i):=⟨fun i=>(pref i).choose,fun i=>(pref i).choose_spec⟩
 have hv:∀ i,∃ x,∀ o,ops[i]? =some o->(τ (i+1)).e=a9r o.dst x (τ i).e:=by
  intro i
  cases ho:ops[i]? with
  |none=>exact⟨.undef,fun o h=>by cases h⟩
  |some o=>
   obtain⟨x,hx⟩:=e2y (one ho (hτ i) (hτ (i+1)))
   exact⟨x,fun o' h=>by cases h;exact hx⟩
 obtain⟨val,hval⟩:∃ val:Nat->V,∀ i o,ops[i]? =some o->(τ (i+1)).e=a9r o.dst (val i) (τ i).e:=⟨fun i=>(hv i).choose,fun i=>(hv i).choose_spec⟩
 have hml:(ops.take m).length=m:=by simp;omega
 have hdl:(ops.take d).length=d:=by simp;omega
 have tk:∀ {i j},i<=j->(ops.take j).take i=ops.take i:=fun{i j} h=>by rw[List.take_take,Nat.min_eq_left h]
 have gt:∀ {i j},i < j->(ops.take j)[i]? =ops[i]? :=fun{i j} h=>by rw[List.getElem?_take,if_pos h]
 have h0:τ 0=s:=by have:=hτ 0;simp only[List.take_zero,a0u,Option.some.injEq]at this;exact this.symm
 have lo:∀ i,i<=d->(τ i).h=s.h:=fun i hi=>A.quiet i _ om (by rw[tk hi];exact hτ i)
 have hi:∀ i,d < i->i<=m->(τ i).h=H1:=fun i h1 h2=>B.quiet i _ h1 om (by rw[tk h2];exact hτ i)
 refine .inl ⟨d,od,τ,val,hd,hm,ho,h0,fun i o _ hq=>⟨one hq (hτ i) (hτ (i+1)),hval i o hq⟩,fun i o him _ hne=>?_,fun i o hid hq=>?_,fun i o hdi him hq=>?_⟩
 ·by_cases c:i < d
  ·rw[lo i om,lo (i+1) om]
  ·rw[hi i om om,hi (i+1) om om]
 ·rw[hi (d+1) om om,hb]
  exact(A.chk H1 P hc).2 i o _ _ (by rw[gt hid];exact hq) (by rw[tk om];exact hτ i) (by rw[tk om];exact hτ (i+1))
 ·rw[hb]
  exact B.both i o _ _ hdi (by rw[gt him];exact hq) (by rw[tk om];exact hτ i) (by rw[tk om];exact hτ (i+1))
theorem d8w {b:Nat} {ops:List a0a} {d m:Nat} (hd:d < m) (hm:m<=ops.length) {kn e H} {K:Kn->Env->Hp->Prop} (hk:a3w kn e) (h:d9r pg b d m ops kn e H K):∃ kn' e' H',b3o pg.toCx (evF pg) m ops ⟨e,H,b⟩=some ⟨e',H',b⟩/\a3w kn' e'/\K kn' e' H':=by
 unfold d9r at h
 have A0:Ahd (pg:=pg) b ⟨e,H,b⟩ [] e (fun _ P=>P):=⟨rfl,fun i q _ hq=>by simp only[List.take_nil,a0u,Option.some.injEq]at hq;rw[<-hq],fun H1 P hP=>⟨hP,fun i o q q' ho=>by simp at ho⟩⟩
 obtain⟨chk,kn1,e1,A,hk1,h1⟩:=d2o (s:=⟨e,H,b⟩) hk A0 h
 rw[List.nil_append]at A
 split at h1
 ·rename_i od ho
  obtain⟨kn2,e2,H1,h2,hk2,h3⟩:=a3x hk1 h1
  obtain⟨h4,_⟩:=A.chk H1 _ h3
  have hdl:(ops.take d).length=d:=by simp;omega
  have hpre:ops.take (d+1)=ops.take d++[od]:=by rw[List.take_add_one,ho];rfl
  have hrun:=b7e A.run h2
  rw[<-hpre]at hrun
  have hl1:(ops.take (d+1)).length=d+1:=by simp;omega
  have B0:Bhd (pg:=pg) b ⟨e,H,b⟩ d od H1 (ops.take (d+1)) e2:=by
   refine⟨hrun,om,fun i q h1 h2 hq=>?_,fun i o q q' h1 ho'=>?_⟩
   ·have:i=d+1:=om
    subst this
    rw[List.take_of_length_le om,hrun]at hq
    cases hq;rfl
   ·have:=(List.getElem?_eq_some_iff.1 ho').1
    omega
  obtain⟨kn3,e3,B,hk3,h5⟩:=d1y (s:=⟨e,H,b⟩) hk2 B0 h4
  have hall:ops.take (d+1)++(ops.take m).drop (d+1)=ops.take m:=by
   have:=List.take_append_drop (d+1) (ops.take m)
   rwa [List.take_take,Nat.min_eq_left om]at this
  rw[hall]at B
  obtain⟨kn4,e4,H4,h6,hk4,h7⟩:=b5u hk3 h5
  have hops:a0u pg.toCx (evF pg) ops ⟨e,H,b⟩=some ⟨e4,H4,b⟩:=by
   rw[<-List.take_append_drop m ops,b2j,B.run];exact h6
  exact⟨kn4,e4,H4,a3v.2 ⟨hops,.inr (e1g rfl hm ho A h3 hd B hops)⟩,hk4,h7⟩
 ·exact h1.elim
theorem b3u (ks:List Nat) (e:Env):a2e ks (a2e ks e)=a2e ks e:=by
 have key:∀ i,i∈ks->a1l (a2e ks e) i=a1l e i:=fun i hi=>by rw[a6f,if_pos hi]
 show(ks.map fun k=>(k,a1l (a2e ks e) k))=ks.map fun k=>(k,a1l e k)
 apply List.map_congr_left
 intro i hi
 rw[key i hi]
theorem c2a {b:Nat}:∀ {c:a0e} {kn e H} {Q:Ex->Kn->Env->Hp->Prop},a3w kn e->wp pg b c kn e H Q->∃ x kn' e' H',ev pg c ⟨e,H,b⟩=some (x,⟨e',H',b⟩)/\a3w kn' e'/\Q x kn' e' H'
 | .skip,_,_,_,_,hk,h=>⟨_,_,_,_,rfl,hk,h⟩
 | .reg ops,kn,e,H,Q,hk,h=>by
   obtain⟨kn',e',H',h1,hk',h2⟩:=b5u hk h
   exact⟨_,kn',e',H',by rw[d4h,evR,h1];rfl,hk',h2⟩
 | .draw m ops,kn,e,H,Q,hk,h=>by
   obtain⟨kn',e',H',h1,hk',h2⟩:=b2h hk h
   exact⟨_,kn',e',H',d9h pg h1,hk',h2⟩
 | .seq c d,kn,e,H,Q,hk,h=>by
   obtain⟨x,kn',e',H',h1,hk',h2⟩:=c2a (c:=c) hk h
   cases x with
   |nrm=>
    obtain⟨x2,kn2,e2,H2,h3,hk2,h4⟩:=c2a (c:=d) hk' h2
    exact⟨x2,kn2,e2,H2,by rw[b8e,h1,e9q,h3],hk2,h4⟩
   |exit i=>exact⟨_,kn',e',H',by rw[b8e,h1,d8g],hk',h2⟩
   |ret=>exact⟨_,kn',e',H',by rw[b8e,h1,f0f],hk',h2⟩
 | .cond o c d,kn,e,H,Q,hk,h=>by
   have yes:evO pg.toCx e o= .d (.bool true)->∀ {kn},a3w kn e->wp pg b c kn e H Q->∃ x kn' e' H',ev pg (.cond o c d) ⟨e,H,b⟩=some (x,⟨e',H',b⟩)/\a3w kn' e'/\Q x kn' e' H':=by
    intro ht kn hk h
    obtain⟨x,kn',e',H',h1,hk',h2⟩:=c2a (c:=c) hk h
    exact⟨x,kn',e',H',by rw[b8n];simp only[ht,b3q,if_true];exact h1,hk',h2⟩
   have no:evO pg.toCx e o= .d (.bool false)->∀ {kn},a3w kn e->wp pg b d kn e H Q->∃ x kn' e' H',ev pg (.cond o c d) ⟨e,H,b⟩=some (x,⟨e',H',b⟩)/\a3w kn' e'/\Q x kn' e' H':=by
    intro ht kn hk h
    obtain⟨x,kn',e',H',h1,hk',h2⟩:=c2a (c:=d) hk h
    exact⟨x,kn',e',H',by rw[b8n];simp only[ht,b3q];exact h1,hk',h2⟩
   have gen:∀ {f:Bool->Kn},(match gO pg.toCx e o with| .d (.bool t)=>(t=true->wp pg b c (f true) e H Q)/\(t=false->wp pg b d (f false) e H Q)|_=>False)->(∀ t,evO pg.toCx e o= .d (.bool t)->a3w (f t) e)->∃ x kn' e' H',ev pg (.cond o c d) ⟨e,H,b⟩=some (x,⟨e',H',b⟩)/\a3w kn' e'/\Q x kn' e' H':=by
     intro f h hf
     rw[c5j]at h
     split at h
     ·rename_i t ht
      cases t with
      |true=>exact yes ht (hf _ ht) (h.1 rfl)
      |false=>exact no ht (hf _ ht) (h.2 rfl)
     ·cases h
   cases o with
   |t i=>
    rw[e9t]at h
    split at h
    ·rename_i ht;exact yes (hk i _ ht) hk h
    ·rename_i ht;exact no (hk i _ ht) hk h
    ·exact gen (f:=fun t=>(i,t)::kn) h fun t ht=>hk.add ht
   |c v=>exact gen (f:=fun _=>kn) h fun _ _=>hk
   |g v=>exact gen (f:=fun _=>kn) h fun _ _=>hk
   |f v=>exact gen (f:=fun _=>kn) h fun _ _=>hk
 | .block id c,kn,e,H,Q,hk,h=>by
   obtain⟨x,kn',e',H',h1,hk',h2⟩:=c2a (c:=c) hk h
   cases x with
   |nrm=>exact⟨_,kn',e',H',by rw[b1q,h1,f2i],hk',h2⟩
   |ret=>exact⟨_,kn',e',H',by rw[b1q,h1,f0g],hk',h2⟩
   |exit i=>
    simp only at h2
    by_cases hi:i=id
    ·rw[g8x hi]at h2
     exact⟨_,kn',e',H',by rw[b1q,h1,c5x,if_pos hi],hk',h2⟩
    ·rw[g2q hi]at h2
     exact⟨_,kn',e',H',by rw[b1q,h1,c5x,if_neg hi],hk',h2⟩
 | .scope c,kn,e,H,Q,hk,h=>by
   obtain⟨x,kn',e',H',h1,hk',h2⟩:=c2a (c:=c) hk h
   exact⟨x,kn',e',H',by rw[e3y,h1],hk',h2⟩
 | .loop ks c,kn,e,H,Q,hk,h=>by
   have h:c9o e ks fun e=>d4b pg b ks c e H Q:=h
   rw[b6x]at h
   unfold d4b at h
   obtain⟨x,e',H',h1,h2⟩:=h
   rw[b6p]at h1
   refine⟨x,[],e',H',?_,a3w.nil e',h2⟩
   rw[b6p,<-h1]
   simp only[b3u]
 | .exit i,_,_,_,_,hk,h=>⟨_,_,_,_,rfl,hk,h⟩
 | .ret,_,_,_,_,hk,h=>⟨_,_,_,_,rfl,hk,h⟩
 | .newrow sz t,kn,e,H,Q,hk,h=>by
   rw[e8w]at h
   rw[b7u]at h
   split at h
   ·rename_i ht
    simp only[a2p,a8w,a0q,Nat.zero_add]at h
    have hs:0 < sz:=by have:=h.1;simp[Nat.blt]at this;omega
    exact⟨_,_,_,_,by rw[f1n];simp only[ht,f5t,if_pos hs],hk.forget t _,h.2⟩
   ·cases h
 | .bindrow sz t off,kn,e,H,Q,hk,h=>by
   rw[e6z]at h
   rw[b7u]at h
   split at h
   ·rename_i id o ht
    obtain⟨ob,ho,h⟩:=(a1u ..).1 h
    cases ob with
    |box c=>
     obtain⟨v,hv,h⟩:=(a1u ..).1 h
     cases v with
     |nils=>
      simp only[a2p,a8w,a0q,Nat.zero_add,Bool.and_eq_true,Nat.ble_eq]at h
      have hs:0 < sz:=by have:=h.1.2;simp[Nat.blt]at this;omega
      refine⟨_,_,_,_,?_,hk,h.2⟩
      simp only[ev,evC,ht,ho,hv]
      rw[if_pos ⟨h.1.1,hs⟩]
     |_=>cases h
    |_=>cases h
   ·cases h
 | .mkrow sz,kn,e,H,Q,hk,h=>by
   rw[f7m]at h
   simp only[a2p,a0q]at h
   have hs:0 < sz:=by have:=h.1;simp[Nat.blt]at this;omega
   exact⟨_,_,_,_,by simp only[ev,evC,if_pos hs],hk,h.2⟩
 | .bindto t off k,kn,e,H,Q,hk,h=>by
   rw[f3n]at h
   rw[b7u]at h
   split at h
   ·rename_i id o ht
    obtain⟨ob,ho,h⟩:=(a1u ..).1 h
    cases ob with
    |box c=>
     obtain⟨v,hv,h⟩:=(a1u ..).1 h
     cases v with
     |nils=>
      obtain⟨ob2,ho2,h⟩:=(a1u ..).1 h
      split at h
      ·simp only[a2p,a0q,Bool.and_eq_true,Nat.ble_eq]at h
       have hs:0 < k:=by have:=h.1.1.1;simp[Nat.blt]at this;omega
       refine⟨_,_,_,_,?_,hk,h.2⟩
       simp only[ev,evC,ht,ho,hv,ho2]
       rw[if_pos ⟨hs,h.1.1.2,h.1.2⟩]
      ·cases h
     |_=>cases h
    |_=>cases h
   ·cases h
 | .freeze t,kn,e,H,Q,hk,h=>by
   rw[f1d]at h
   rw[b7u]at h
   split at h
   ·rename_i id o l ht
    obtain⟨ob,ho,h⟩:=(a1u ..).1 h
    cases ob with
    |box c=>
     obtain⟨ds,hd,h⟩:=h
     rw[a0q]at h
     exact⟨_,_,_,_,by simp only[ev,evC,ht,ho,hd],hk,h⟩
    |_=>cases h
   ·rename_i id len ht
    obtain⟨ob,ho,h⟩:=(a1u ..).1 h
    cases ob with
    |row sz l=>
     obtain⟨hl,h⟩:=h
     rw[a0q]at h
     exact⟨_,_,_,_,by simp only[ev,evC,ht,ho,if_pos hl],hk.forget t _,h⟩
    |_=>cases h
   ·cases h
theorem wp_loop {ks:List Nat} {c:a0e} {b:Nat} {α:Type} (μ:α->Nat) (E:α->Env) (Hf:α->Hp) (P:α->Prop) {Q:Ex->Kn->Env->Hp->Prop}
 (step:∀ a,P a->d7p (Hf a) 0 fun n=>c9o (E a) ks fun e=>wp pg n c [] e (Hf a) (fun x _ e' H'=>match x with
   | .nrm=>e0a n e' ks fun e2=>a1g (H'.take n) fun H2=> ∃ a',P a'/\μ a' < μ a/\e2=E a'/\H2=Hf a'
   | .exit i=>Q (.exit i) [] e' H'
   | .ret=>Q .ret [] e' H')) (a:α) (ha:P a):d4b pg b ks c (E a) (Hf a) Q:=by
 have key:∀ n,∀ a,μ a < n->P a->∃ x e' H',ev pg (.loop ks c) ⟨E a,Hf a,b⟩=some (x,⟨e',H',b⟩)/\Q x [] e' H':=by
  intro n
  induction n with
  |zero=>intro a h;omega
  |succ n ih=>
   intro a hn ha
   have st:=step a ha
   rw[a8w,b6x,Nat.zero_add]at st
   obtain⟨x,kn',e',H',h1,_,h2⟩:=c2a (a3w.nil _) st
   rw[b6p]
   simp only[h1]
   cases x with
   |nrm=>
    simp only[c5n,a0q]at h2
    obtain⟨a',h3,h4,h5,h6⟩:=h2
    simp only[d9d,h5,h6]
    exact ih a' om h3
   |exit i=>exact⟨_,e',H',rfl,h2⟩
   |ret=>exact⟨_,e',H',rfl,h2⟩
 unfold d4b
 exact key (μ a+1) a om ha
noncomputable def f9u (e:Env) (H:Hp) (l:List d3p):(List V->Prop)->Prop:=List.rec (motive:=fun _=>(List V->Prop)->Prop) (fun k=>k []) (fun o _ ih k=>match o with
  | .tmp t=>f4n H (gE e t) fun v=>ih fun vs=>k (v::vs)
  | .cell t n=>(match gE e t with
    | .ptr id off=>b4c H id fun ob=>match ob with
      | .box c=>c7q n c off fun v=>f4n H v fun v=>ih fun vs=>k (v::vs)
      | .frz c=>c7q n (c.map V.d) off fun v=>f4n H v fun v=>ih fun vs=>k (v::vs)
      |_=>False
    |_=>False)) l
theorem e9p (e:Env) (H:Hp) (t n) (r:List d3p) (k:List V->Prop):f9u e H (.cell t n::r) k=(match gE e t with
    | .ptr id off=>b4c H id fun ob=>match ob with
      | .box c=>c7q n c off fun v=>f4n H v fun v=>f9u e H r fun vs=>k (v::vs)
      | .frz c=>c7q n (c.map V.d) off fun v=>f4n H v fun v=>f9u e H r fun vs=>k (v::vs)
      |_=>False
    |_=>False):=rfl
theorem d3l {e:Env} {H:Hp}:∀ {l:List d3p} {k:List V->Prop},f9u e H l k->∃ vs,a9n e H l=some vs/\k (vs.map (toArg H))
 |[],_,h=>⟨[],rfl,h⟩
 | .tmp t::r,k,h=>by
   have h:f4n H (gE e t) fun v=>f9u e H r fun vs=>k (v::vs):=h
   have h:=d2s _ _ _ h
   obtain⟨vs,h1,h2⟩:=d3l h
   rw[b7u]at h2
   exact⟨a1l e t::vs,by simp only[d0o,f9r,h1,d7d],h2⟩
 | .cell t n::r,k,h=>by
   rw[e9p]at h
   rw[b7u]at h
   have fin:∀ {v id off},a1l e t= .ptr id off->b8m H n (.ptr id off)=some v->(f4n H v fun v=>f9u e H r fun vs=>k (v::vs))->∃ vs,a9n e H (.cell t n::r)=some vs/\k (vs.map (toArg H)):=by
     intro v id off ht hl h
     have h:=d2s _ _ _ h
     obtain⟨vs,h1,h2⟩:=d3l h
     exact⟨v::vs,by simp only[d0o,f3c,ht,hl,h1,d7d],h2⟩
   split at h
   ·rename_i id off ht
    obtain⟨ob,ho,h⟩:=(a1u ..).1 h
    cases ob with
    |box c=>
     obtain⟨v,hv,h⟩:=(b1d ..).1 h
     exact fin ht (by simp only[d6u,ho,e4s,hv]) h
    |frz c=>
     obtain⟨v,hv,h⟩:=(b1d ..).1 h
     exact fin ht (by simp only[d6u,ho,e5l,hv]) h
    |_=>cases h
   ·cases h
noncomputable def e5g (res:List d3p) (n:Nat) (R:V->Hp->Prop):Ex->Kn->Env->Hp->Prop:=fun x _ e H=>match x with
  | .exit _=>False
  | .nrm=>f9u e H res fun vs=>chk (a0z n vs) (R (oneOf vs) H)
  | .ret=>f9u e H res fun vs=>chk (a0z n vs) (R (oneOf vs) H)
theorem b7h {res:List d3p} {n:Nat} {R:V->Hp->Prop} {x kn e H b} (h:e5g res n R x kn e H):∃ r,b5p false res n (some (x,⟨e,H,b⟩))=some (r,H.take n)/\R r H:=by
 have fin:(f9u e H res fun vs=>chk (a0z n vs) (R (oneOf vs) H))->∃ r,leave ⟨0,0,.skip,res,false⟩ n ⟨e,H,b⟩=some (r,H.take n)/\R r H:=by
   intro h
   obtain⟨vs,h1,h2⟩:=d3l h
   rw[a2p]at h2
   exact⟨_,by simp only[f5e,h1,g7b,h2.1,if_true],h2.2⟩
 cases x with
 |nrm=>exact fin h
 |ret=>exact fin h
 |exit i=>cases h
noncomputable def b0g (i:Nat) (l:List V):(Env->Prop)->Prop:=List.rec (motive:=fun _=>Nat->(Env->Prop)->Prop) (fun _ k=>k []) (fun v _ ih i k=>ih (i+1) fun e=>k ((i,v)::e)) l i
theorem a6t:∀ (i:Nat) (l:List V) (k:Env->Prop),b0g i l k=k (a8d i l)
 |_,[],_=>rfl
 |i,v::r,k=>a6t (i+1) r fun e=>k ((i,v)::e)
theorem a4n {f:Nat} {vf:VFn} (ht:pg.tbl f=some (.code vf)) {a:List V} (hn:a.length=vf.np) (hu:(a0z 0 a && !vf.keep)=true) {r:V} (h:b0g 0 a fun e=>wp pg 0 vf.body [] e [] (e5g vf.res 0 fun v _=>v=r)) (H:Hp):evF pg f a H=some (r,H):=by
  rw[a6t]at h
  obtain⟨x,kn,e,H',h1,_,h2⟩:=c2a (a3w.nil _) h
  obtain⟨r',h3,h4⟩:=b7h (b:=0) h2
  have hk:vf.keep=false:=by cases hh:vf.keep<;>simp_all
  refine g0m ht hn hu (h':=H'.take 0) ?_ H
  rw[a4o,h1,hk,h3,h4]
end
end Go.Vm
namespace Go.Vm
abbrev u8 (c:UInt8):V:= .d (.int .u8 c.toNat)
abbrev str (s:List UInt8):V:= .d (.str s)
abbrev i64 (n:Int):V:= .d (.int .i64 n)
abbrev boo (b:Bool):V:= .d (.bool b)
theorem b5n {α:Type} {l:List α} {n:Int} {d:α} (h:0<=n/\l[n.toNat]? =some d) {k:α->Prop} (hk:k d):∃ c,(0<=n/\l[n.toNat]? =some c)/\k c:=⟨d,h,hk⟩
theorem a1r {b:Bool} {X Y:Prop} (h:b=true) (x:X):(b=true->X)/\(b=false->Y):=⟨fun _=>x,fun e=>by rw[h]at e;cases e⟩
theorem a1x {b:Bool} {X Y:Prop} (h:b=false) (y:Y):(b=true->X)/\(b=false->Y):=⟨fun e=>by(rw[h]at e;cases e),fun _=>y⟩
theorem c0j {b:Bool} {X Y:Prop} (h:b=true) (x:X):(b=false->Y)/\(b=(!false)->X):=⟨fun e=>by(rw[h]at e;cases e),fun _=>x⟩
theorem c9d {b:Bool} {X Y:Prop} (h:b=false) (y:Y):(b=false->Y)/\(b=(!false)->X):=⟨fun _=>y,fun e=>by(rw[h]at e;cases e)⟩
theorem gt_t {b:Bool} {X Y:Prop} (h:b=true) (x:X):(b=true->X)/\(b=(!true)->Y):=⟨fun _=>x,fun e=>by(rw[h]at e;cases e)⟩
theorem gt_f {b:Bool} {X Y:Prop} (h:b=false) (y:Y):(b=true->X)/\(b=(!true)->Y):=⟨fun e=>by(rw[h]at e;cases e),fun _=>y⟩
theorem ca {x:Option (V×Hp)} {p:V->Hp->Prop} {r:V} {H:Hp} (h:x=some (r,H)) (k:p r H):∃ r H,x=some (r,H)/\p r H:=⟨r,H,h,k⟩
theorem d3v:∀ {c:List V} {n:Nat} {v:V},n < c.length->putAt c n [v]=c.set n v
 |[],n,v,h=>by simp at h
 |a::c,0,v,_=>by simp[putAt]
 |a::c,n+1,v,h=>by
  simp only[List.length_cons]at h
  simp only[putAt,List.set_cons_succ]
  rw[d3v om]
theorem e7t {α:Type} (f:α->V) {l:List α} {n:Nat} {a:α} (h:n < l.length):putAt (l.map f) n [f a]=(l.set n a).map f:=by
 rw[d3v (by rw[List.length_map];exact h),List.map_set]
theorem fz {c:List V} {ds:List D} {p:List D->Prop} (h:b9e c=some ds) (k:p ds):∃ ds,b9e c=some ds/\p ds:=⟨ds,h,k⟩
theorem fo {l:List V} {k:List V->Prop} (h:k l):a1g l k:=by rw[a0q];exact h
theorem foH {l:Hp} {k:Hp->Prop} (h:k l):a1g l k:=by rw[a0q];exact h
end Go.Vm
namespace Go.Vm
section
variable {pg:Pg} {b:Nat}
structure WQ (pg:Pg) (b:Nat) (c:a0e) (kn:Kn) (e:Env) (H:Hp) (Q:Ex->Kn->Env->Hp->Prop):Prop where
 imp:a3w kn e->∃ x kn' e' H',ev pg c ⟨e,H,b⟩=some (x,⟨e',H',b⟩)/\a3w kn' e'/\Q x kn' e' H'
structure KS (pg:Pg) (b:Nat) (d:a0e) (Q:Ex->Kn->Env->Hp->Prop) (x:Ex) (kn:Kn) (e:Env) (H:Hp):Prop where
 nrm:x= .nrm->WQ pg b d kn e H Q
 exit:∀ i,x= .exit i->Q (.exit i) kn e H
 ret:x= .ret->Q .ret kn e H
structure KB (id:Nat) (Q:Ex->Kn->Env->Hp->Prop) (x:Ex) (kn:Kn) (e:Env) (H:Hp):Prop where
 nrm:x= .nrm->Q .nrm kn e H
 hit:∀ i,x= .exit i->i.beq id=true->Q .nrm kn e H
 exit:∀ i,x= .exit i->i.beq id=false->Q (.exit i) kn e H
 ret:x= .ret->Q .ret kn e H
structure KL (P:Env->Hp->Prop) (Q:Ex->Kn->Env->Hp->Prop) (x:Ex) (e:Env) (H:Hp):Prop where
 nrm:x= .nrm->P e H
 exit:∀ i,x= .exit i->Q (.exit i) [] e H
 ret:x= .ret->Q .ret [] e H
variable {c d:a0e} {Q:Ex->Kn->Env->Hp->Prop} {kn:Kn} {e:Env} {H:Hp}
theorem h4j (h:WQ pg b d kn e H Q):KS pg b d Q .nrm kn e H:=by constructor<;>intros<;>simp_all
theorem g3i {i:Nat} (h:Q (.exit i) kn e H):KS pg b d Q (.exit i) kn e H:=by constructor<;>intros<;>simp_all
theorem h5l (h:Q .ret kn e H):KS pg b d Q .ret kn e H:=by constructor<;>intros<;>simp_all
theorem g0q {id:Nat} (h:Q .nrm kn e H):KB id Q .nrm kn e H:=by constructor<;>intros<;>simp_all
theorem g0h {id i:Nat} (hi:i.beq id=true) (h:Q .nrm kn e H):KB id Q (.exit i) kn e H:=by constructor<;>intros<;>simp_all
theorem f3l {id i:Nat} (hi:i.beq id=false) (h:Q (.exit i) kn e H):KB id Q (.exit i) kn e H:=by constructor<;>intros<;>simp_all
theorem g0j {id:Nat} (h:Q .ret kn e H):KB id Q .ret kn e H:=by constructor<;>intros<;>simp_all
theorem g0w {P:Env->Hp->Prop} (h:P e H):KL P Q .nrm e H:=by constructor<;>intros<;>simp_all
theorem f1y {P:Env->Hp->Prop} {i:Nat} (h:Q (.exit i) [] e H):KL P Q (.exit i) e H:=by constructor<;>intros<;>simp_all
theorem g2g {P:Env->Hp->Prop} (h:Q .ret [] e H):KL P Q .ret e H:=by constructor<;>intros<;>simp_all
theorem f2f (h:wp pg b c kn e H Q):WQ pg b c kn e H Q:=⟨fun hk=>c2a hk h⟩
theorem q_skip (h:Q .nrm kn e H):WQ pg b .skip kn e H Q:=⟨fun hk=>⟨_,_,_,_,rfl,hk,h⟩⟩
theorem q_exit {i:Nat} (h:Q (.exit i) kn e H):WQ pg b (.exit i) kn e H Q:=⟨fun hk=>⟨_,_,_,_,rfl,hk,h⟩⟩
theorem g3j (h:Q .ret kn e H):WQ pg b .ret kn e H Q:=⟨fun hk=>⟨_,_,_,_,rfl,hk,h⟩⟩
theorem q_reg {ops:List a0a} (h:wpOps pg b ops kn e H fun kn e H=>Q .nrm kn e H):WQ pg b (.reg ops) kn e H Q:=⟨fun hk=>by
  obtain⟨kn',e',H',h1,hk',h2⟩:=b5u hk h
  exact⟨_,kn',e',H',by rw[d4h,evR,h1];rfl,hk',h2⟩⟩
theorem f4m {m:Nat} {ops:List a0a} (h:c5b pg b m ops kn e H fun kn e H=>Q .nrm kn e H):WQ pg b (.draw m ops) kn e H Q:=⟨fun hk=>by
  obtain⟨kn',e',H',h1,hk',h2⟩:=b2h hk h
  exact⟨_,kn',e',H',d9h pg h1,hk',h2⟩⟩
theorem a0r (d:Nat) {m:Nat} {ops:List a0a} (hd:d < m) (hm:m<=ops.length) (h:d9r pg b d m ops kn e H fun kn e H=>Q .nrm kn e H):WQ pg b (.draw m ops) kn e H Q:=⟨fun hk=>by
  obtain⟨kn',e',H',h1,hk',h2⟩:=d8w hd hm hk h
  refine⟨.nrm,kn',e',H',?_,hk',h2⟩
  show(b3o pg.toCx (evF pg) m ops ⟨e,H,b⟩).map _=_
  rw[h1];rfl⟩
def g1y (m:Nat) (ops:List a0a):Bool:=((ops.take m).all fun o=>match o.op with| .call .. | .callv .. | .app .. =>false|_=>true) && (Nat.ble m 2|| !e2l (m - 3) ops)
theorem g4h {m:Nat} {ops:List a0a} (_:g1y m ops=true) (h:c5b pg b m ops kn e H fun kn e H=>Q .nrm kn e H):WQ pg b (.draw m ops) kn e H Q:=f4m h
theorem h6c (h:WQ pg b c kn e H (KS pg b d Q)):WQ pg b (.seq c d) kn e H Q:=⟨fun hk=>by
  obtain⟨x,kn',e',H',h1,hk',h2⟩:=h.imp hk
  cases x with
  |nrm=>
   obtain⟨x2,kn2,e2,H2,h3,hk2,h4⟩:=(h2.nrm rfl).imp hk'
   exact⟨x2,kn2,e2,H2,by rw[b8e,h1,e9q,h3],hk2,h4⟩
  |exit i=>exact⟨_,kn',e',H',by rw[b8e,h1,d8g],hk',h2.exit _ rfl⟩
  |ret=>exact⟨_,kn',e',H',by rw[b8e,h1,f0f],hk',h2.ret rfl⟩⟩
theorem d9c (h:WQ pg b c kn e H Q):WQ pg b (.scope c) kn e H Q:=⟨fun hk=>by
  obtain⟨x,kn',e',H',h1,hk',h2⟩:=h.imp hk
  exact⟨x,kn',e',H',by rw[e3y,h1],hk',h2⟩⟩
theorem d8f {id:Nat} (h:WQ pg b c kn e H (KB id Q)):WQ pg b (.block id c) kn e H Q:=⟨fun hk=>by
  obtain⟨x,kn',e',H',h1,hk',h2⟩:=h.imp hk
  cases x with
  |nrm=>exact⟨_,kn',e',H',by rw[b1q,h1,f2i],hk',h2.nrm rfl⟩
  |ret=>exact⟨_,kn',e',H',by rw[b1q,h1,f0g],hk',h2.ret rfl⟩
  |exit i=>
   by_cases hi:i=id
   ·exact⟨_,kn',e',H',by rw[b1q,h1,c5x,if_pos hi],hk',h2.hit _ rfl (g8x hi)⟩
   ·exact⟨_,kn',e',H',by rw[b1q,h1,c5x,if_neg hi],hk',h2.exit _ rfl (g2q hi)⟩⟩
theorem q_cond {i:Nat} (h:match look kn i with
      |some true=>WQ pg b c kn e H Q
      |some false=>WQ pg b d kn e H Q
      |none=>match gE e i with
       | .d (.bool t)=>(t=true->WQ pg b c ((i,true)::kn) e H Q)/\(t=false->WQ pg b d ((i,false)::kn) e H Q)
       |_=>False):WQ pg b (.cond (.t i) c d) kn e H Q:=⟨fun hk=>by
  have yes:evO pg.toCx e (.t i)= .d (.bool true)->∀ {kn},a3w kn e->WQ pg b c kn e H Q->∃ x kn' e' H',ev pg (.cond (.t i) c d) ⟨e,H,b⟩=some (x,⟨e',H',b⟩)/\a3w kn' e'/\Q x kn' e' H':=by
   intro ht kn hk h
   obtain⟨x,kn',e',H',h1,hk',h2⟩:=h.imp hk
   exact⟨x,kn',e',H',by rw[b8n];simp only[ht,b3q,if_true];exact h1,hk',h2⟩
  have no:evO pg.toCx e (.t i)= .d (.bool false)->∀ {kn},a3w kn e->WQ pg b d kn e H Q->∃ x kn' e' H',ev pg (.cond (.t i) c d) ⟨e,H,b⟩=some (x,⟨e',H',b⟩)/\a3w kn' e'/\Q x kn' e' H':=by
   intro ht kn hk h
   obtain⟨x,kn',e',H',h1,hk',h2⟩:=h.imp hk
   exact⟨x,kn',e',H',by rw[b8n];simp only[ht,b3q];exact h1,hk',h2⟩
  split at h
  ·rename_i ht;exact yes (hk i _ ht) hk h
  ·rename_i ht;exact no (hk i _ ht) hk h
  ·rw[b7u]at h
   split at h
   ·rename_i t ht
    cases t with
    |true=>exact yes ht (hk.add ht) (h.1 rfl)
    |false=>exact no ht (hk.add ht) (h.2 rfl)
   ·cases h⟩
theorem e1r {sz t:Nat} (h:wp pg b (.newrow sz t) kn e H Q):WQ pg b (.newrow sz t) kn e H Q:=f2f h
theorem d6v {sz t o:Nat} (h:wp pg b (.bindrow sz t o) kn e H Q):WQ pg b (.bindrow sz t o) kn e H Q:=f2f h
theorem e1y {t:Nat} (h:wp pg b (.freeze t) kn e H Q):WQ pg b (.freeze t) kn e H Q:=f2f h
theorem e7h {sz:Nat} (h:wp pg b (.mkrow sz) kn e H Q):WQ pg b (.mkrow sz) kn e H Q:=f2f h
theorem e1n {t o k:Nat} (h:wp pg b (.bindto t o k) kn e H Q):WQ pg b (.bindto t o k) kn e H Q:=f2f h
theorem g0d {ks:List Nat} (h:c9o e ks fun e=>d4b pg b ks c e H Q):WQ pg b (.loop ks c) kn e H Q:=f2f h
theorem a8p {ks:List Nat} {α:Type} (μ:α->Nat) (E:α->Env) (Hf:α->Hp) (P:α->Prop)
 (step:∀ a,P a->d7p (Hf a) 0 fun n=>c9o (E a) ks fun e=>WQ pg n c [] e (Hf a) fun x _ e' H'=>KL (fun e' H'=>e0a n e' ks fun e2=>a1g (H'.take n) fun H2=> ∃ a',P a'/\μ a' < μ a/\e2=E a'/\H2=Hf a') Q x e' H') (a:α) (ha:P a) {e0:Env} {h0:Hp} (he:e0=E a) (hh:h0=Hf a):d4b pg b ks c e0 h0 Q:=by
 subst he;subst hh
 have key:∀ n,∀ a,μ a < n->P a->∃ x e' H',ev pg (.loop ks c) ⟨E a,Hf a,b⟩=some (x,⟨e',H',b⟩)/\Q x [] e' H':=by
  intro n
  induction n with
  |zero=>intro a h;omega
  |succ n ih=>
   intro a hn ha
   have st:=step a ha
   rw[a8w,b6x,Nat.zero_add]at st
   obtain⟨x,kn',e',H',h1,_,h2⟩:=st.imp (a3w.nil _)
   rw[b6p]
   simp only[h1]
   cases x with
   |nrm=>
    have h2:=h2.nrm rfl
    simp only[c5n,a0q]at h2
    obtain⟨a',h3,h4,h5,h6⟩:=h2
    simp only[d9d,h5,h6]
    exact ih a' om h3
   |exit i=>exact⟨_,e',H',rfl,h2.exit _ rfl⟩
   |ret=>exact⟨_,e',H',rfl,h2.ret rfl⟩
 unfold d4b
 exact key (μ a+1) a om ha
theorem a7h {f:Nat} {vf:VFn} (ht:pg.tbl f=some (.code vf)) {a:List V} (hn:a.length=vf.np) (hu:(a0z 0 a && !vf.keep)=true) {r:V} (h:b0g 0 a fun e=>WQ pg 0 vf.body [] e [] (e5g vf.res 0 fun v _=>v=r)) (H:Hp):evF pg f a H=some (r,H):=by
  rw[a6t]at h
  obtain⟨x,kn,e,H',h1,_,h2⟩:=h.imp (a3w.nil _)
  obtain⟨r',h3,h4⟩:=b7h (b:=0) h2
  have hk:vf.keep=false:=by cases hh:vf.keep<;>simp_all
  refine g0m ht hn hu (h':=H'.take 0) ?_ H
  rw[a4o,h1,hk,h3,h4]
theorem a0h {f:Nat} {vf:VFn} (ht:pg.tbl f=some (.code vf)) {a:List V} (hn:a.length=vf.np) (hk:vf.keep=false) (hu:a0z 0 a=false) {r:V} {H H2:Hp} (h:b0g 0 a fun e=>WQ pg H.length vf.body [] e H (e5g vf.res H.length fun v H'=>v=r/\H'.take H.length=H2)):evF pg f a H=some (r,H2):=by
  rw[a6t]at h
  obtain⟨x,kn,e,H',h1,_,h2⟩:=h.imp (a3w.nil _)
  obtain⟨r',h3,h4,h5⟩:=b7h (b:=H.length) h2
  rw[f2v ht hn (by rw[hu];rfl),a4o,h1,hk,h3,h4,h5]
end
end Go.Vm
namespace Go.Vm
section
variable {b:Bool} {X Y:Prop}
theorem b1 (x:X) (h:b=true:=by first|with_reducible rfl|exact rfl|exact decide_eq_true (by assumption)|assumption):(b=true->X)/\(b=false->Y):=a1r h x
theorem b2 (y:Y) (h:b=false:=by first|with_reducible rfl|exact rfl|exact decide_eq_false (by assumption)|assumption):(b=true->X)/\(b=false->Y):=a1x h y
theorem b3 (x:X) (h:b=true:=by first|with_reducible rfl|exact rfl|exact decide_eq_true (by assumption)|assumption):(b=false->Y)/\(b=(!false)->X):=c0j h x
theorem b4 (y:Y) (h:b=false:=by first|with_reducible rfl|exact rfl|exact decide_eq_false (by assumption)|assumption):(b=false->Y)/\(b=(!false)->X):=c9d h y
theorem b5 (x:X) (h:b=true:=by first|with_reducible rfl|exact rfl|exact decide_eq_true (by assumption)|assumption):(b=true->X)/\(b=(!true)->Y):=gt_t h x
theorem b6 (y:Y) (h:b=false:=by first|with_reducible rfl|exact rfl|exact decide_eq_false (by assumption)|assumption):(b=true->X)/\(b=(!true)->Y):=gt_f h y
end
theorem pk {α:Type} {l:List α} {n:Int} {d:α} {k:α->Prop} (hk:k d) (h:0<=n/\l[n.toNat]? =some d:=by exact⟨by first|decide|exact Int.NonNeg.mk _,rfl⟩):∃ c,(0<=n/\l[n.toNat]? =some c)/\k c:=⟨d,h,hk⟩
structure Left (P:Prop):Prop where
 f:P
theorem stp {P Q:Prop} (q:Q) (g:Q->P:=by
  first
   |exact h6c|exact d8f|exact q_reg|exact q_cond|exact q_exit|exact g3j|exact q_skip|exact d9c|exact f4m|exact g0d|exact e7h|exact e1n|exact e1y|exact e1r|exact d6v):P:=g q
theorem stpd {P Q:Prop} (q:Q) (g:Q->P:=by
  first
   |exact h6c|exact d8f|exact q_reg|exact q_cond|exact q_exit|exact g3j|exact q_skip|exact d9c|exact g4h rfl|exact g0d|exact e7h|exact e1n|exact e1y|exact e1r|exact d6v):P:=g q
theorem stq {P Q:Prop} (q:Q) (g:Q->P:=by
  first
   |exact h4j|exact g3i|exact h5l|exact g0q|exact g0h rfl|exact f3l rfl|exact g0j|exact g0w|exact f1y|exact g2g
   |exact And.intro (b5k _)
   |exact fun x=>b1 x|exact fun x=>b2 x|exact fun x=>b3 x|exact fun x=>b4 x|exact fun x=>b5 x|exact fun x=>b6 x
   |exact fun x=>pk x|exact And.intro rfl):P:=g q
theorem run {P Q:Prop} (q:Left Q) (h:Left Q->P:=by
  intro q
  first
   |((with_reducible show WQ _ _ _ _ _ _ _);refine stp ?_)
   |((conv=>whnf);first|(with_reducible show WQ _ _ _ _ _ _ _)|refine stq ?_)
  repeat' (first
    |((with_reducible show WQ _ _ _ _ _ _ _);refine stp ?_)
    |((conv=>whnf);first|(with_reducible show WQ _ _ _ _ _ _ _)|refine stq ?_)
    |fail)
  exact q.f):P:=h q
theorem a9j {P Q:Prop} (q:Left Q) (h:Left Q->P:=by
  intro q
  first
   |((with_reducible show WQ _ _ _ _ _ _ _);refine stpd ?_)
   |((fail_if_success (with_reducible show WQ _ _ _ _ _ _ _));(conv=>whnf);first|(with_reducible show WQ _ _ _ _ _ _ _)|refine stq ?_)
  repeat' (first
    |((with_reducible show WQ _ _ _ _ _ _ _);refine stpd ?_)
    |((fail_if_success (with_reducible show WQ _ _ _ _ _ _ _));(conv=>whnf);first|(with_reducible show WQ _ _ _ _ _ _ _)|refine stq ?_)
    |fail)
  exact q.f):P:=h q
end Go.Vm
namespace Go.Vm
theorem e2n {cx:Cx} {t t':Nat->Option a0v} (h:∀ f e,t f=some e->t' f=some e):∀ n,OLe (b2e ⟨cx,t⟩ n) (b2e ⟨cx,t'⟩ n)/\LLe (c5a ⟨cx,t⟩ n) (c5a ⟨cx,t'⟩ n)
 |0=>⟨fun _ _ _ _ h=>(nomatch ((b1c _ _ _ _).symm.trans h)),fun _ _ _ _ h=>(nomatch ((b2u _ _ _ _).symm.trans h))⟩
 |n+1=>by
  obtain⟨h1,h2⟩:=e2n (cx:=cx) h n
  refine⟨fun f a hh r hr=>?_,fun k b s r hr=>?_⟩
  ·rw[a6m,c3u]at hr⊢
   split at hr
   ·cases hr
   ·rename_i Fp ht
    rw[show(⟨cx,t'⟩:Pg).tbl f=some (.prim Fp)from h _ _ ht]
    exact hr
   ·rename_i vf ht
    rw[show(⟨cx,t'⟩:Pg).tbl f=some (.code vf)from h _ _ ht]
    split at hr
    ·rename_i hl
     show(if a.length=vf.np then _ else none)=some r
     rw[if_pos hl]
     refine d8k (fun h r hr=>?_) hr
     cases hx:evC cx (b2e ⟨cx,t⟩ n) (c5a ⟨cx,t⟩ n) vf.body ⟨a1d a,h,h.length⟩with
     |none=>rw[hx]at hr;cases hr
     |some q=>rw[hx]at hr;rw[a9u h1 h2 hx];exact hr
    ·cases hr
  ·rw[b0l]at hr⊢;exact a9u h1 h2 hr
theorem g6e {cx:Cx} {t t':Nat->Option a0v} (h:∀ f e,t f=some e->t' f=some e) {f:Nat} {a:List V} {H:Hp} {r:V×Hp} (he:evF ⟨cx,t⟩ f a H=some r):evF ⟨cx,t'⟩ f a H=some r:=by
 obtain⟨n,hn⟩:=a6o.1 he
 exact a6o.2 ⟨n,(e2n h n).1 _ _ _ _ hn⟩
end Go.Vm
namespace Go.Vm.Ip
def preB (s p:S):Bool:=decide (p.length<=s.length) && decide (s.take p.length=p)
def known (l:List S) (s:S):Bool:=(pos l s).isSome
def nam (l:List Nam) (s:S):Nam:=match pos (l.map Nam.n) s with
 |some i=>l.getD i default
 |none=>⟨[],[]⟩
end Go.Vm.Ip
namespace Go.Vm.Ite
def pgL (fx:Nat->Option Obj) (F:Nat->Option a0v):Pg:=⟨⟨fun _=>[],fx⟩,tbl F⟩
abbrev F0:Nat->Option a0v:=fun _=>none
theorem mv (fx:Nat->Option Obj):d0g (pgL fx F0):=h2t _ _ (fun _ _ h=>nomatch h)
theorem g9y (F:Nat->Option a0v):∀ f e,tbl F0 f=some e->tbl F f=some e:=by
 intro f e h
 unfold tbl at*
 split at h<;>first|exact h|cases h
theorem up {fx:Nat->Option Obj} {F:Nat->Option a0v} {f:Nat} {a:List V} {H:Hp} {r:V×Hp} (h:evF (pgL fx F0) f a H=some r):evF (pgL fx F) f a H=some r:=g6e (g9y F) h
end Go.Vm.Ite
namespace Go.Vm.Ite
open Go.Vm.Ip
abbrev d4g:Nat:=70
abbrev c4y:Nat:=99
abbrev b4s:Nat:=100
abbrev c7p:Nat:=124
class HL (F:Nat->Option a0v):Prop where
 utf:F 70=some (.prim c8c)
 dec:F 99=some (.prim b3b)
 ib:F 100=some (.prim a6s)
 par:F 124=some (.prim b6o)
section
variable {fx:Nat->Option Obj} {F:Nat->Option a0v}
theorem f2z [HL F]:(pgL fx F).tbl d4g=some (.prim c8c):=(HL.utf:F 70=_)
theorem d5b [HL F]:(pgL fx F).tbl c4y=some (.prim b3b):=(HL.dec:F 99=_)
theorem c7t [HL F]:(pgL fx F).tbl b4s=some (.prim a6s):=(HL.ib:F 100=_)
theorem e0b [HL F]:(pgL fx F).tbl c7p=some (.prim b6o):=(HL.par:F 124=_)
theorem g4o (s p:S) (H:Hp):evF (pgL fx F) a7d [str s,str p] H=some (boo (preB s p),H):=by
 refine a7h (a7c (F:=F)) rfl rfl ?_ H
 unfold preB
 by_cases h:p.length<=s.length
 ·have h':((p.length:Nat):Int)<=((s.length:Nat):Int):=om
  have hn:(0:Int)<=((p.length:Nat):Int):=om
  have hb:(0:Nat)<=((p.length:Nat):Int).toNat/\((p.length:Nat):Int).toNat<=s.length:=⟨Nat.zero_le _,h⟩
  repeat' (first|refine run ⟨?_⟩|refine And.intro hn ?_|refine And.intro hb ?_|fail)
  rw[decide_eq_true h,Bool.true_and];exact rfl
 ·have h':¬ ((p.length:Nat):Int)<=((s.length:Nat):Int):=om
  refine run ⟨?_⟩
  rw[decide_eq_false h];exact rfl
theorem g3m (s p:S):preB s p=Lib.hasPrefix s p:=by
 unfold preB Lib.hasPrefix
 rw[Bool.eq_iff_iff]
 simp only[Bool.and_eq_true,decide_eq_true_eq,List.isPrefixOf_iff_prefix]
 constructor
 ·rintro⟨_,h⟩
  exact⟨s.drop p.length,(congrArg (· ++s.drop p.length) h.symm).trans (List.take_append_drop ..)⟩
 ·rintro⟨t,rfl⟩
  simp
theorem i5l (H:Hp) (s p:S):evF (pgL fx F) b9g [str s,str p] H=some (boo (Lib.hasPrefix s p),H):=by
 rw[<-g3m]
 refine a7h (b9a (F:=F)) rfl rfl ?_ H
 have e1:=g4o (fx:=fx) (F:=F) s p
 repeat' (first|refine run ⟨?_⟩|refine ca (e1 _) ?_|fail)
 exact rfl
end
end Go.Vm.Ite
namespace Go.Vm.Lex
open Go.Vm.Ite
section
variable {fx:Nat->Option Obj} {F:Nat->Option a0v} [HL F] (H:Hp)
theorem f0w (c:UInt8):evF (pgL fx F) d5l [u8 c] H=some (boo (isL c),H):=by
 have _u:=(inferInstance:HL F)
 refine a4n (d5m (F:=F)) rfl rfl ?_ H
 repeat' refine And.intro (fun h=>?_) (fun h=>?_)
 all_goals show _=_
 all_goals simp[oneOf,isL]at*
 all_goals grind
theorem c4l (c:UInt8):evF (pgL fx F) c9p [u8 c] H=some (boo (isL c),H):=by
 have _u:=(inferInstance:HL F)
 refine a4n (c9s (F:=F)) rfl rfl ?_ H
 repeat' refine And.intro (fun h=>?_) (fun h=>?_)
 all_goals show _=_
 all_goals simp[oneOf,isL]at*
 all_goals grind
theorem e3w (c:UInt8):evF (pgL fx F) e0e [u8 c] H=some (boo (isD c),H):=by
 have _u:=(inferInstance:HL F)
 refine a4n (d9s (F:=F)) rfl rfl ?_ H
 repeat' refine And.intro (fun h=>?_) (fun h=>?_)
 all_goals show _=_
 all_goals simp[oneOf,isD]at*
 all_goals omega
theorem c1p (c:UInt8):evF (pgL fx F) d3f [u8 c] H=some (boo (isD c),H):=by
 have _u:=(inferInstance:HL F)
 refine a4n (d3d (F:=F)) rfl rfl ?_ H
 repeat' refine And.intro (fun h=>?_) (fun h=>?_)
 all_goals show _=_
 all_goals simp[oneOf,isD]at*
 all_goals grind
theorem g6p (s:List UInt8):evF (pgL fx F) e6k [str s] H=some (boo (b9w s),H):=by
 have _u:=(inferInstance:HL F)
 refine a4n (e4z (F:=F)) rfl rfl ?_ H
 repeat' refine And.intro (fun h=>?_) (fun h=>?_)
 all_goals show _=_
 all_goals simp only[decide_eq_true_eq,decide_eq_false_iff_not]at*
 all_goals simp[oneOf,b9w,b8h, *]
theorem a9g {α:Type} {s:List α} {i:Nat} (h:i < s.length) {k:α->Prop} (hk:k s[i]):∃ c,((0:Int)<=(i:Int)/\s[(i:Int).toNat]? =some c)/\k c:=
 ⟨s[i],⟨om,by rw[Int.toNat_natCast,List.getElem?_eq_getElem h]⟩,hk⟩
theorem f5z (s:List UInt8):evF (pgL fx F) d6r [str s] H=some (boo (b9w s),H):=by
 have _u:=(inferInstance:HL F)
 refine a4n (d4w (F:=F)) rfl rfl ?_ H
 refine wp_loop (α:=Nat) (fun i=>17 - i) (fun i=>[(0,str s),(5,.d (.sl (b8h.map .str))),(6,i64 17),(7,i64 i)]) (fun _=>[]) (fun i=>i<=17/\∀ x∈b8h.take i,s≠x) ?_ 0 ⟨om,by simp⟩
 rintro i ⟨hi,hall⟩
 refine And.intro (fun h=>?_) (fun h=>?_)
 ·replace h:=of_decide_eq_true h
  have hlt:i < b8h.length:=by show i < 17;omega
  have hlt':i < (b8h.map D.str).length:=by rw[List.length_map];exact hlt
  refine a9g hlt' ?_
  rw[List.getElem_map]
  refine And.intro rfl ?_
  refine And.intro (fun h=>?_) (fun h=>?_)
  ·replace h:=of_decide_eq_true h
   show _=_
   have:s∈b8h:=by rw[h];exact List.getElem_mem _
   simp[oneOf,b9w,this]
  ·replace h:=of_decide_eq_false h
   refine⟨i+1,⟨om,?_⟩,om,?_,rfl⟩
   ·intro x hx
    rw[List.take_add_one,List.mem_append]at hx
    rcases hx with hx|hx
    ·exact hall x hx
    ·rw[List.getElem?_eq_getElem hlt]at hx
     simp only[Option.toList_some,List.mem_singleton]at hx
     rw[hx];exact h
   ·rw[a3z om];rfl
 ·replace h:=of_decide_eq_false h
  have:i=17:=om
  subst this
  show _=_
  have:¬ s∈b8h:=fun h=>hall s (by rw[show b8h.take 17=b8h from rfl];exact h) rfl
  simp[oneOf,b9w,this]
theorem e9r {s:List UInt8} (h:s≠[]) {k:UInt8->Prop} (hk:k (hd0 s)):∃ c,((0:Int)<=0/\s[(0:Int).toNat]? =some c)/\k c:=by
 cases s with
 |nil=>exact absurd rfl h
 |cons c r=>exact⟨c,⟨Int.le_refl _,rfl⟩,hk⟩
end
end Go.Vm.Lex
namespace Go.Vm.Lex
def b5v:List (List UInt8):=[[58,58],[45,62],[61,62],[61,61],[33,61],[60,61],[62,61],[38,38],[124,124]]
def c2h:List UInt8:=[40,41,123,125,60,62,44,59,58,61,43,45,42,47,37,38,33,46,95]
def a2x (s:List UInt8):List UInt8:=if 1 < s.length/\s.take 2∈b5v then s.take 2 else if s≠[]/\hd0 s∈c2h then s.take 1 else[]
def wsB (c:UInt8):Bool:=decide (c=32\/c=9\/c=10\/c=13)
def a0j:Bool->List UInt8->Nat
 |_,[]=>0
 |false,c::r=>if wsB c then a0j false r+1 else if c=47/\r.head? =some 47 then a0j true r+1 else 0
 |true,c::r=>if c=10 then a0j false r+1 else a0j true r+1
theorem a2o:∀ (b:Bool) (s:List UInt8),a0j b s<=s.length
 |b,[]=>by cases b<;>simp[a0j]
 |false,c::r=>by
  have h1:=a2o false r;have h2:=a2o true r
  unfold a0j;repeat' split
  all_goals simp;try omega
 |true,c::r=>by
  have h1:=a2o false r;have h2:=a2o true r
  unfold a0j;repeat' split
  all_goals simp;try omega
theorem a7j (c:UInt8) (r:List UInt8):a0j false (c::r)=if wsB c then a0j false r+1 else if c=47/\r.head? =some 47 then a0j true r+1 else 0:=rfl
theorem b5m (c:UInt8) (r:List UInt8):a0j true (c::r)=if c=10 then a0j false r+1 else a0j true r+1:=rfl
theorem b2m (b:Bool):a0j b []=0:=by cases b<;>rfl
theorem g6a (b:UInt8) (l:List UInt8) (c:UInt8):Lib.indexByte (b::l) c=if b==c then 0 else if Lib.indexByte l c== -1 then -1 else Lib.indexByte l c+1:=rfl
theorem e9v:∀ l:List UInt8,a0j true l=if Lib.indexByte l 10= -1 then l.length else(Lib.indexByte l 10).toNat+a0j false (l.drop (Lib.indexByte l 10).toNat)
 |[]=>by simp[b2m,Lib.indexByte]
 |c::r=>by
  have ih:=e9v r
  have hg:=Lib.indexByte_ge r 10
  rw[b5m,g6a]
  by_cases hc:c=10
  ·subst hc;simp[a7j,wsB]
  ·by_cases hn:Lib.indexByte r 10= -1
   ·simp[hc,hn]at ih⊢;exact ih
   ·simp only[hc,hn,if_false,beq_iff_eq]at ih⊢
    have e1:(Lib.indexByte r 10+1).toNat=(Lib.indexByte r 10).toNat+1:=om
    have e2:¬ (Lib.indexByte r 10+1= -1):=om
    rw[if_neg e2,e1,List.drop_succ_cons,ih]
    generalize a0j false (List.drop (Lib.indexByte r 10).toNat r)=q
    omega
def dig (c:UInt8):Nat:=c.toNat - 48
def f0i (n:Nat) (s:List UInt8):Nat:=s.foldl (fun n c=>n*10+dig c) n
theorem b6k (n:Nat) (c:UInt8) (r:List UInt8):f0i n (c::r)=f0i (n*10+dig c) r:=List.foldl_cons ..
def b9q (s:List UInt8):Nat:=f0i 0 s
def c0i (s:List UInt8):Bool:=s.all isD && decide (b9q s<=9223372036854775807)
theorem d8q:∀ (s:List UInt8) (n:Nat),n<=f0i n s
 |[],n=>Nat.le_refl _
 |c::r,n=>by have:=d8q r (n*10+dig c);rw[b6k];omega
def g7x (n:Nat) (s:List UInt8) (r:Lib.NumEnd Nat):Prop:=match r with
 | .ok u=>s.all isD=true/\u=f0i n s
 |_=> ¬ (s.all isD=true/\f0i n s<=9223372036854775807)
theorem e9o {M:Nat} (hM:9223372036854775807<=M) (s:List UInt8):∀ (n:Nat),g7x n s (Lib.parseUintM M n s):=by
 induction s with
 |nil=>intro n;exact⟨rfl,rfl⟩
 |cons c r ih=>
  intro n
  have hge:=d8q r (n*10+dig c)
  have ih:=ih (n*10+dig c)
  unfold Lib.parseUintM
  rw[show c.toNat - 48=dig c from rfl]
  by_cases hd:48<=c.toNat/\c.toNat<=57
  ·have hD:isD c=true:=by simp[isD,hd]
   rw[if_pos hd]
   by_cases h1:1844674407370955162<=n
   ·rw[if_pos h1]
    show ¬ _
    rw[b6k];omega
   ·rw[if_neg h1]
    by_cases h2:M < n*10+dig c
    ·rw[if_pos h2]
     show ¬ _
     rw[b6k];omega
    ·rw[if_neg h2]
     have e:(c::r).all isD=r.all isD:=by rw[List.all_cons,hD,Bool.true_and]
     cases hr:Lib.parseUintM M (n*10+dig c) r with
     |ok u=>rw[hr]at ih;exact⟨by rw[e];exact ih.1,ih.2.trans (b6k ..).symm⟩
     |_=>rw[hr]at ih;show ¬ _;rw[e,b6k];exact ih
  ·rw[if_neg hd]
   show ¬ ((c::r).all isD=true/\_)
   have e:isD c=false:=by simp[isD];omega
   simp[e]
structure Tk where
 k:Int
 t:List UInt8
 v:Int
 n:Nat
 e:Int
def a1k (w:List UInt8->Nat) (s:List UInt8):Tk:=
 if 0 < a2q s/\isD (hd0 s)=true then(if c0i (s.take (a2q s)) then⟨3,s.take (a2q s),b9q (s.take (a2q s)),a2q s,0⟩ else⟨0,[],0,a2q s,112⟩)
 else if 0 < a2q s/\s.take (a2q s)≠[95] then(if 64 < a2q s then⟨0,[],0,a2q s,2⟩ else⟨if b9w (s.take (a2q s)) then 2 else 1,s.take (a2q s),0,a2q s,0⟩)
 else if a2x s≠[] then⟨4,a2x s,0,(a2x s).length,0⟩
 else⟨0,[],0,w s,111⟩
def szN (c:UInt8):Nat:=if 194<=c.toNat/\c.toNat<=223 then 2 else if 224<=c.toNat/\c.toNat<=239 then 3 else if 240<=c.toNat/\c.toNat<=244 then 4 else 0
def c7r (c:UInt8):Nat:=if c.toNat=224 then 160 else if c.toNat=240 then 144 else 128
def c9v (c:UInt8):Nat:=if c.toNat=237 then 159 else if c.toNat=244 then 143 else 191
def a1v (b:UInt8):Bool:=decide (128<=b.toNat/\b.toNat<=191)
def hd1:List UInt8->UInt8
 |_::b::_=>b
 |_=>0
def szL (s:List UInt8):Nat:=
 if s=[] then 0
 else if(hd0 s).toNat < 128 then 1
 else if szN (hd0 s)=0 then 0
 else if s.length < szN (hd0 s)\/(hd1 s).toNat < c7r (hd0 s)\/c9v (hd0 s) < (hd1 s).toNat then 0
 else if((s.take (szN (hd0 s))).drop 2).all a1v then szN (hd0 s) else 0
theorem h3i (c:UInt8):szN c=0\/(2<=szN c/\szN c<=4):=by
 unfold szN
 repeat' split
 all_goals omega
theorem c7k (s:List UInt8):szL s<=s.length:=by
 unfold szL
 repeat' split
 all_goals first|omega|skip
 rename_i h _
 cases s with
 |nil=>exact absurd rfl h
 |cons c r=>simp
theorem b3h (s:List UInt8) (h:¬ (s=[]\/szL s=0)):(s.drop (szL s)).length < s.length:=by
 have:s.length≠0:=fun e=>h (.inl (List.length_eq_zero_iff.1 e))
 rw[List.length_drop];omega
def strange (at_:Nat) (s:List UInt8):Int:=if h:s=[]\/szL s=0 then(if s=[] then -1 else(at_:Int)) else strange (at_+szL s) (s.drop (szL s))
termination_by s.length
decreasing_by exact b3h s h
theorem a2z (at_:Nat):strange at_ []= -1:=by rw[strange];simp
theorem a7r (at_:Nat) {s:List UInt8} (h:s≠[]) (h0:szL s=0):strange at_ s=at_:=by rw[strange];simp[h,h0]
theorem a6c (at_:Nat) {s:List UInt8} (h:s≠[]) (h0:szL s≠0):strange at_ s=strange (at_+szL s) (s.drop (szL s)):=by rw[strange];simp[h,h0]
end Go.Vm.Lex
namespace Go.Vm.Lex
open Go.Vm.Ite
section
variable {fx:Nat->Option Obj} {F:Nat->Option a0v} [HL F] (H:Hp)
theorem h1g (s:List UInt8) (hs:s.length<=maxLen):evF (pgL fx F) e9z [str s] H=some (i64 (a2q s:Nat),H):=by
 have hm:s.length<=9223372036854775807:=hs
 refine a4n (e7q (F:=F)) rfl rfl ?_ H
 refine wp_loop (α:=Nat) (fun i=>s.length - i) (fun i=>[(0,str s),(3,i64 i)]) (fun _=>[]) (fun i=>i<=s.length/\i+a2q (s.drop i)=a2q s) ?_ 0 ⟨om,by simp⟩
 rintro i ⟨hi,hr⟩
 refine And.intro (fun hl=>?_) (fun hl=>?_)
 ·replace hl:=of_decide_eq_true hl
  have hlt:i < s.length:=om
  rw[d5c (List.getElem?_eq_getElem hlt)]at hr
  repeat' (first
      |(refine And.intro (fun h=>?_) (fun h=>?_)<;>try(exfalso;(have h1:=h;simp_all;done)))
      |refine a9g hlt ?_
      |refine Exists.intro _ (Exists.intro _ (And.intro (f0w _ _) ?_))
      |refine Exists.intro _ (Exists.intro _ (And.intro (e3w _ _) ?_)))
  all_goals first
    |(show _=_
      have:c4c s[i]=false:=by simp_all[c4c]
      rw[this]at hr
      simp at hr
      simp[oneOf,hr];done)
    |(have:c4c s[i]=true:=by simp_all[c4c]
      rw[this]at hr
      simp at hr
      refine⟨i+1,⟨om,om⟩,om,?_,rfl⟩
      rw[a3z om];rfl)
 ·replace hl:=of_decide_eq_false hl
  rw[e2m om]at hr
  repeat' (refine And.intro (fun h=>?_) (fun h=>?_)<;>try(exfalso;simp at h;done))
  all_goals show _=_
  all_goals simp[oneOf]
  all_goals omega
theorem d7y (s:List UInt8) (at_:Nat) (ha:at_<=s.length) (hs:s.length<=maxLen):evF (pgL fx F) d8a [str s,i64 at_] H=some (i64 (at_+a2q (s.drop at_):Nat),H):=by
 have hm:s.length<=9223372036854775807:=hs
 refine a4n (e0x (F:=F)) rfl rfl ?_ H
 refine wp_loop (α:=Nat) (fun i=>s.length - i) (fun i=>[(0,str s),(1,i64 i)]) (fun _=>[]) (fun i=>i<=s.length/\i+a2q (s.drop i)=at_+a2q (s.drop at_)) ?_ at_ ⟨om,by simp⟩
 rintro i ⟨hi,hr⟩
 refine And.intro (fun hl=>?_) (fun hl=>?_)
 ·replace hl:=of_decide_eq_true hl
  have hlt:i < s.length:=om
  rw[d5c (List.getElem?_eq_getElem hlt)]at hr
  repeat' (first
      |(refine And.intro (fun h=>?_) (fun h=>?_)<;>try(exfalso;(have h1:=h;simp_all;done)))
      |refine a9g hlt ?_
      |refine Exists.intro _ (Exists.intro _ (And.intro (c4l _ _) ?_))
      |refine Exists.intro _ (Exists.intro _ (And.intro (c1p _ _) ?_)))
  all_goals first
    |(show _=_
      have:c4c s[i]=false:=by simp_all[c4c]
      rw[this]at hr
      simp at hr
      simp[oneOf,hr];done)
    |(have:c4c s[i]=true:=by simp_all[c4c]
      rw[this]at hr
      simp at hr
      refine⟨i+1,⟨om,om⟩,om,?_,rfl⟩
      rw[a3z om];rfl)
 ·replace hl:=of_decide_eq_false hl
  rw[e2m om]at hr
  repeat' (refine And.intro (fun h=>?_) (fun h=>?_)<;>try(exfalso;simp at h;done))
  all_goals show _=_
  all_goals simp[oneOf]
  all_goals omega
theorem h1j (s:List UInt8):evF (pgL fx F) e8q [str s] H=some (boo (decide (s∈b5v)),H):=by
 have _u:=(inferInstance:HL F)
 refine a4n (f4a (F:=F)) rfl rfl ?_ H
 repeat' refine And.intro (fun h=>?_) (fun h=>?_)
 all_goals show _=_
 all_goals simp only[decide_eq_true_eq,decide_eq_false_iff_not]at*
 all_goals simp[oneOf,b5v, *]
theorem g3k (s:List UInt8) (c:UInt8):evF (pgL fx F) b4s [str s,u8 c] H=some (i64 (Lib.indexByte s c),H):=by
 rw[b3t (c7t (F:=F))]
 show some (V.d (D.int .i64 (Lib.indexByte s ((c.toNat:Int)).toNat.toUInt8)),H)=_
 simp
theorem f0u (s:List UInt8) (c:UInt8):0<=Lib.indexByte s c↔c∈s:=by
 have hg:=Lib.indexByte_ge s c
 constructor
 ·intro h
  have:=(Lib.indexByte_some (o:=(Lib.indexByte s c).toNat) (l:=s) (c:=c) om).1
  exact List.mem_of_getElem? this
 ·intro h
  apply Classical.byContradiction
  intro hn
  have h1:Lib.indexByte s c= -1:=om
  obtain⟨k,hk⟩:=List.mem_iff_getElem?.1 h
  exact Lib.indexByte_none h1 k hk
theorem f3e (s:List UInt8):evF (pgL fx F) e4l [str s] H=some (str (a2x s),H):=by
 refine a4n (e4w (F:=F)) rfl rfl ?_ H
 cases s with
 |nil=>
  repeat' (refine And.intro (fun h=>?_) (fun h=>?_)<;>try(exfalso;simp at h;done))
  all_goals rfl
 |cons c r=>
  repeat' (first
      |(refine And.intro (fun h=>?_) (fun h=>?_)<;>try(exfalso;(simp at h;done)))
      |refine And.intro ⟨Nat.zero_le _,by first|(simp;done)|(simp at*;omega)⟩ ?_
      |refine e9r (by simp) ?_
      |refine Exists.intro _ (Exists.intro _ (And.intro (h1j _ _) ?_))
      |refine Exists.intro _ (Exists.intro _ (And.intro (g3k _ _ _) ?_)))
  all_goals show _=_
  all_goals simp only[decide_eq_true_eq,decide_eq_false_iff_not,f0u,List.drop_zero,gt_iff_lt,ge_iff_le]at*
  all_goals simp_all[oneOf,a2x,hd0,c2h]
  all_goals intros
  all_goals first|omega|(subst_vars;simp at*;done)
end
end Go.Vm.Lex
namespace Go.Vm.Lex
open Go.Vm.Ite
section
variable {fx:Nat->Option Obj} {F:Nat->Option a0v} [HL F] (H:Hp)
theorem f9z (c:UInt8):c∈([32,9,10,13]:List UInt8)↔wsB c=true:=by simp[wsB]
theorem c4h (s:List UInt8) (i:Nat):List.drop (Int.toNat (i:Int)) (List.take s.length s)=s.drop i:=by simp
theorem f3k (c:UInt8) (r:List UInt8):Lib.hasPrefix (c::r) [47,47]=true↔c=47/\r.head? =some 47:=by
 cases r with
 |nil=>simp[Lib.hasPrefix,List.isPrefixOf]
 |cons d r=>simp[Lib.hasPrefix,List.isPrefixOf];constructor<;>(rintro⟨rfl,rfl⟩;exact⟨rfl,rfl⟩)
theorem d4m (c:UInt8) (r:List UInt8) (h:c=47/\r.head? =some 47):a0j false (c::r)=a0j true (c::r):=by
 obtain⟨rfl,h⟩:=h
 rw[a7j,b5m,h];simp[wsB]
theorem f1z (s:List UInt8) (hs:s.length<=maxLen) (at_:Nat) (ha:at_<=s.length):evF (pgL fx F) c9z [str s,i64 at_] H=some (i64 ((at_+a0j false (s.drop at_):Nat)),H):=by
 have hm:s.length<=9223372036854775807:=hs
 refine a4n (e4o (F:=F)) rfl rfl ?_ H
 generalize hT:at_+a0j false (s.drop at_)=T
 refine wp_loop (α:=Nat) (fun i=>s.length - i) (fun i=>[(0,str s),(1,i64 i)]) (fun _=>[]) (fun i=>i<=s.length/\i+a0j false (s.drop i)=T) ?_ at_ ⟨ha,hT⟩
 clear hT ha at_
 rintro i ⟨hi,hr⟩
 refine And.intro (fun hl=>?_) (fun hl=>?_)
 ·replace hl:=of_decide_eq_true hl
  have hlt:i < s.length:=om
  have hd:s.drop i=s[i]::s.drop (i+1):=List.drop_eq_getElem_cons hlt
  have hle:=a2o false (s.drop i)
  rw[List.length_drop]at hle
  refine a9g hlt ?_
  refine Exists.intro _ (Exists.intro _ (And.intro (g3k _ _ _) ?_))
  refine And.intro (fun h=>?_) (fun h=>?_)
  ·replace h:=(f0u _ _).1 (of_decide_eq_true h)
   rw[f9z]at h
   refine⟨i+1,⟨om,?_⟩,om,?_,rfl⟩
   ·rw[hd,a7j,if_pos h]at hr;omega
   ·rw[a3z om];rfl
  replace h:=fun e=>(of_decide_eq_false h) ((f0u _ _).2 ((f9z _).2 e))
  refine And.intro om ?_
  refine And.intro ⟨om,om⟩ ?_
  refine Exists.intro _ (Exists.intro _ (And.intro (i5l _ _ _) ?_))
  refine And.intro (fun h2=>?_) (fun h2=>?_)
  ·rw[c4h,hd,f3k]at h2
   have hr2:i+a0j true (s.drop i)=T:=by rw[<-hr,hd,d4m _ _ h2]
   rw[e9v]at hr2
   have hg:=Lib.indexByte_ge (s.drop i) 10
   refine And.intro om ?_
   refine And.intro ⟨om,om⟩ ?_
   refine Exists.intro _ (Exists.intro _ (And.intro (g3k _ _ 10) ?_))
   refine And.intro (fun h3=>?_) (fun h3=>?_)
   ·rw[c4h]at h3
    replace h3:=of_decide_eq_true h3
    rw[if_pos om,List.length_drop]at hr2
    show _=_
    simp only[oneOf]
    congr 3
    omega
   ·rw[c4h]at h3
    replace h3:=of_decide_eq_false h3
    rw[if_neg om]at hr2
    have hpos:Lib.indexByte (s.drop i) 10≠0:=by
     intro e
     have:=(Lib.indexByte_some (o:=0) (by rw[e];rfl:Lib.indexByte (s.drop i) 10=((0:Nat):Int))).1
     rw[hd]at this
     simp[h2.1]at this
    have hlen:=(List.getElem?_eq_some_iff.1 (Lib.indexByte_some (o:=(Lib.indexByte (s.drop i) 10).toNat) (l:=s.drop i) (c:=10) om).1).1
    rw[List.length_drop]at hlen
    refine⟨i+(Lib.indexByte (s.drop i) 10).toNat,⟨om,?_⟩,om,?_,rfl⟩
    ·rw[List.drop_drop]at hr2;omega
    ·rw[c4h,a3z om]
     congr 3
     simp;omega
  ·rw[c4h,hd,<-Bool.not_eq_true,f3k]at h2
   rw[hd,a7j,if_neg h,if_neg h2]at hr
   show _=_
   simp only[oneOf]
   congr 3
 ·replace hl:=of_decide_eq_false hl
  rw[List.drop_eq_nil_of_le om,b2m]at hr
  show _=_
  simp only[oneOf]
  congr 3
end
end Go.Vm.Lex
