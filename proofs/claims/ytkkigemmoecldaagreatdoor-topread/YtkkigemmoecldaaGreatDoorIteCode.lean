import Derived.Test.YtkkigemmoecldaaGreatDoorVmFn
import Derived.Test.YtkkigemmoecldaaGreatDoorProg
set_option maxHeartbeats 0
set_option linter.unusedVariables false
set_option linter.unusedSimpArgs false
namespace Go.Vm
mutual
def V.sh (σ:Nat->Nat):V->V
 | .agg l=> .agg (fM σ l)
 | .tup l=> .tup (fM σ l)
 | .row id n=> .row (σ id) n
 | .arr id o n=> .arr (σ id) o n
 | .ptr id o=> .ptr (σ id) o
 | .fn f c=> .fn f (fM σ c)
 | .fm f c=> .fm f (fM σ c)
 | .mp id=> .mp (σ id)
 | .d x=> .d x
 | .nils=> .nils
 | .ro l o=> .ro l o
 | .nul=> .nul
 | .nof=> .nof
 | .ifc b=> .ifc b
 | .raw x=> .raw x
 | .nmp=> .nmp
 | .nile=> .nile
 | .undef=> .undef
def fM (σ:Nat->Nat):List V->List V
 |[]=>[]
 |v::r=>v.sh σ::fM σ r
end
def Ob.sh (σ:Nat->Nat):Ob->Ob
 | .box c=> .box (fM σ c)
 | .frz c=> .frz c
 | .row n l=> .row n l
 | .map l=> .map l
def rq (σ:Nat->Nat) (e:Env):Env:=e.map fun p=>(p.1,p.2.sh σ)
section
variable {σ:Nat->Nat}
theorem hH:∀ l:List V,fM σ l=l.map (V.sh σ)
 |[]=>rfl
 |v::r=>by rw[fM,hH r];rfl
theorem mJ (l:List V):(fM σ l).length=l.length:=by rw[hH,aE]
theorem rn (a b:List V):fM σ (a++b)=fM σ a++fM σ b:=by rw[hH,hH,hH,aM]
theorem uw (l:List V) (i:Nat):(fM σ l)[i]? =(l[i]?).map (V.sh σ):=by rw[hH,bE]
theorem PK (l:List V) (i:Nat):(fM σ l).take i=fM σ (l.take i):=by rw[hH,hH,eW]
theorem PL (l:List V) (i:Nat):(fM σ l).drop i=fM σ (l.drop i):=by rw[hH,hH,nv]
theorem La (l:List D):fM σ (l.map V.d)=l.map V.d:=by rw[hH,cV];rfl
mutual
theorem uu:∀ v:V,v.und 0=true->v.sh σ=v
 | .agg l,h=>by rw[V.sh,lO l (by simpa only[V.und] using h)]
 | .tup l,h=>by rw[V.sh,lO l (by simpa only[V.und] using h)]
 | .fn f l,h=>by rw[V.sh,lO l (by simpa only[V.und] using h)]
 | .fm f l,h=>by rw[V.sh,lO l (by simpa only[V.und] using h)]
 | .row _ _,h=>by simp[V.und]at h
 | .arr _ _ _,h=>by simp[V.und]at h
 | .ptr _ _,h=>by simp[V.und]at h
 | .mp _,h=>by simp[V.und]at h
 | .d _,_=>rfl
 | .nils,_=>rfl
 | .ro _ _,_=>rfl
 | .nul,_=>rfl
 | .nof,_=>rfl
 | .ifc _,_=>rfl
 | .raw _,_=>rfl
 | .nmp,_=>rfl
 | .nile,_=>rfl
 | .undef,_=>rfl
theorem lO:∀ l:List V,br 0 l=true->fM σ l=l
 |[],_=>rfl
 |v::r,h=>by
  simp only[br,ab]at h;rw[fM,uu v h.1,lO r h.2]
end
mutual
theorem TL:∀ v:V,(v.sh σ).und 0=v.und 0
 | .agg l=>by simp only[V.sh,V.und];exact qx l
 | .tup l=>by simp only[V.sh,V.und];exact qx l
 | .fn f l=>by simp only[V.sh,V.und];exact qx l
 | .fm f l=>by simp only[V.sh,V.und];exact qx l
 | .row _ _=>by simp[V.sh,V.und]
 | .arr _ _ _=>by simp[V.sh,V.und]
 | .ptr _ _=>by simp[V.sh,V.und]
 | .mp _=>by simp[V.sh,V.und]
 | .d _=>rfl
 | .nils=>rfl
 | .ro _ _=>rfl
 | .nul=>rfl
 | .nof=>rfl
 | .ifc _=>rfl
 | .raw _=>rfl
 | .nmp=>rfl
 | .nile=>rfl
 | .undef=>rfl
theorem qx:∀ l:List V,br 0 (fM σ l)=br 0 l
 |[]=>rfl
 |v::r=>by simp only[fM,br,TL v,qx r]
end
theorem YJ (v:V):(v.sh σ).one=v.one:=by
 cases v<;>first|rfl|skip
theorem zC (l:List V):(fM σ l).all V.one=l.all V.one:=by
 rw[hH,mo];congr 1;funext v;exact YJ v
theorem tY (v:V):(v.sh σ).cells=fM σ v.cells:=by
 cases v with
 |d x=>cases x<;>first|rfl|exact(La _).symm
 |_=>rfl
theorem FO:∀ l:List V,kC (fM σ l)=kC l
 |[]=>rfl
 |v::r=>by
  cases v<;>simp only[fM,V.sh,kC];rw[FO r]
theorem G4 (l:List V):kb (fM σ l)=(kb l).sh σ:=by
 unfold kb;rw[FO];cases kC l<;>rfl
theorem kV (e:Env) (i:Nat):bP (rq σ e) i=(bP e i).sh σ:=by
 induction e with
 |nil=>rfl
 |cons p r ih=>
  obtain⟨k,v⟩:=p;simp only[rq,aB,bP]at ih⊢;split<;>first|rfl|exact ih
theorem wP:∀ (c:List V) (n:Nat) (vs:List V),putAt (fM σ c) n (fM σ vs)=fM σ (putAt c n vs)
 |c,n,[]=>by cases c<;>cases n<;>simp[putAt,fM]
 |[],n,v::vs=>by cases n<;>simp[putAt,fM]
 |c::cs,0,v::vs=>by simp only[fM,putAt];rw[<-wP cs 0 vs]
 |c::cs,n+1,v::vs=>by
  simp only[fM,putAt];rw[<-wP cs n (v::vs)];rfl
theorem AK (n:Option Nat) (c:List V) (off:Nat):gI n (fM σ c) off=(gI n c off).map (V.sh σ):=by
 cases n with
 |none=>exact uw c off
 |some n=>
  simp only[gI,mJ];split
  ·rw[PL,PK,G4];rfl
  ·rfl
end
structure Mv (σ:Nat->Nat) (n:Nat) (HB:Hp):Prop where
 mono:∀ i j,i < j->σ i < σ j
 top:∀ j,σ (n+j)=HB.length+j
structure HR (σ:Nat->Nat) (n:Nat) (HB h H:Hp):Prop where
 le:n<=h.length
 len:H.length=σ h.length
 get:∀ i o,h[i]? =some o->H[σ i]? =some (o.sh σ)
 out:∀ j,j < HB.length->(∀ i,i < n->σ i≠j)->H[j]? =HB[j]?
section
variable {σ:Nat->Nat} {n:Nat} {HB:Hp} (hm:Mv σ n HB)
include hm
theorem Mv.lt {i j:Nat}:σ i < σ j↔i < j:=by
 constructor
 ·intro h;rcases jH i j with h1|h1|h1
  ·exact h1
  ·subst h1;omega
  ·have:=hm.mono _ _ h1;omega
 ·exact hm.mono i j
theorem Mv.le {i j:Nat}:σ i<=σ j↔i<=j:=by
 have:=hm.lt (i:=j) (j:=i);omega
theorem Mv.inj {i j:Nat} (h:σ i=σ j):i=j:=by
 rcases jH i j with h1|h1|h1
 ·have:=hm.mono _ _ h1;omega
 ·exact h1
 ·have:=hm.mono _ _ h1;omega
mutual
theorem I2 (m:Nat):∀ v:V,(v.sh σ).und (σ m)=v.und m
 | .agg l=>by simp only[V.sh,V.und];exact pM m l
 | .tup l=>by simp only[V.sh,V.und];exact pM m l
 | .fn f l=>by simp only[V.sh,V.und];exact pM m l
 | .fm f l=>by simp only[V.sh,V.und];exact pM m l
 | .row id _=>by simp only[V.sh,V.und,hm.lt]
 | .arr id _ _=>by simp only[V.sh,V.und,hm.lt]
 | .ptr id _=>by simp only[V.sh,V.und,hm.lt]
 | .mp id=>by simp only[V.sh,V.und,hm.lt]
 | .d _=>rfl
 | .nils=>rfl
 | .ro _ _=>rfl
 | .nul=>rfl
 | .nof=>rfl
 | .ifc _=>rfl
 | .raw _=>rfl
 | .nmp=>rfl
 | .nile=>rfl
 | .undef=>rfl
theorem pM (m:Nat):∀ l:List V,br (σ m) (fM σ l)=br m l
 |[]=>(fun _=>rfl) hm
 |v::r=>by simp only[fM,br,I2 m v,pM m r]
end
theorem GR (m:Nat):∀ l:Hp,fW (σ m) (l.map (Ob.sh σ))=fW m l
 |[]=>rfl
 |o::l=>by
  cases o<;>simp only[aB,Ob.sh,fW,GR m l,pM hm]
theorem HR.get? {h H:Hp} (r:HR σ n HB h H) (i:Nat):H[σ i]? =(h[i]?).map (Ob.sh σ):=by
 cases ho:h[i]? with
 |some o=>exact r.get i o ho
 |none=>
  rw[List.getElem?_eq_none_iff]at ho;have:=hm.le.2 ho;simp only[Option.map_none,List.getElem?_eq_none_iff];rw[r.len];exact this
theorem Mv.cover (j:Nat):(∃ i,σ i=j)\/(j < HB.length/\∀ i,i < n->σ i≠j):=by
 by_cases h:j < HB.length
 ·by_cases hx:∃ i,σ i=j
  ·exact .inl hx
  ·exact .inr ⟨h,fun i _ e=>hx ⟨i,e⟩⟩
 ·refine .inl ⟨n+(j - HB.length),?_⟩;rw[hm.top];omega
theorem HR.app {h H H' l:Hp} (r:HR σ n HB h H) (r':HR σ n HB (h++l) H'):H'=H++l.map (Ob.sh σ):=by
 have hpos:∀ i,h.length<=i->σ i=H.length+(i - h.length):=by
  intro i hi;have e1:=hm.top (i - n);have e2:=hm.top (h.length - n);have:=r.le;rw[show n+(i - n)=i by omega]at e1;rw[show n+(h.length - n)=h.length by omega]at e2;rw[r.len,e1,e2];omega
 apply fa;intro j;rcases hm.cover j with⟨i,rfl⟩|⟨h1,h2⟩
 ·rw[r'.get? hm];by_cases hi:i < h.length
  ·have:σ i < H.length:=by rw[r.len];exact hm.mono _ _ hi
   rw[aD hi,aD this,r.get? hm]
  ·have e:=hpos i om;rw[aK om,aK om,bE];congr 2;omega
 ·have:j < H.length:=by
   have e2:=hm.top (h.length - n);have:=r.le;rw[show n+(h.length - n)=h.length by omega]at e2;rw[r.len,e2];omega
  rw[r'.out j h1 h2,aD this,r.out j h1 h2]
theorem HR.snoc {h H:Hp} (r:HR σ n HB h H) (o:Ob):HR σ n HB (h++[o]) (H++[o.sh σ]):=by
 have hl:σ (h.length+1)=H.length+1:=by
  have e1:=hm.top (h.length+1 - n);have e2:=hm.top (h.length - n);have:=r.le;rw[show n+(h.length+1 - n)=h.length+1 by omega]at e1;rw[show n+(h.length - n)=h.length by omega]at e2;rw[r.len,e1,e2];omega
 refine⟨by have:=r.le;simp;omega,by simp[hl],fun i o' hi=>?_,fun j h1 h2=>?_⟩
 ·by_cases hlt:i < h.length
  ·rw[aD hlt]at hi;have:σ i < H.length:=by rw[r.len];exact hm.mono _ _ hlt
   rw[aD this];exact r.get i o' hi
  ·have:i=h.length:=by have:=(az.1 hi).1;simp at this;omega
   subst this;simp at hi;subst hi;rw[<-r.len];simp
 ·have:j < H.length:=by
   have e2:=hm.top (h.length - n);have:=r.le;rw[show n+(h.length - n)=h.length by omega]at e2;rw[r.len,e2];omega
  rw[aD this];exact r.out j h1 h2
theorem HR.set {h H:Hp} (r:HR σ n HB h H) {id:Nat} (hid:id < h.length) (o:Ob):HR σ n HB (h.set id o) (H.set (σ id) (o.sh σ)):=by
 have hlt:σ id < H.length:=by rw[r.len];exact hm.mono _ _ hid
 refine⟨by have:=r.le;simp;omega,by simp[r.len],fun i o' hi=>?_,fun j h1 h2=>?_⟩
 ·by_cases he:id=i
  ·subst he;rw[bu hid]at hi;cases hi;rw[bu hlt]
  ·rw[aX he]at hi;rw[aX (fun e=>he (hm.inj e))];exact r.get i o' hi
 ·by_cases he:σ id=j
  ·by_cases hn:id < n
   ·exact absurd he (h2 id hn)
   ·have e1:=hm.top (id - n);rw[show n+(id - n)=id by omega]at e1;omega
  ·rw[aX he];exact r.out j h1 h2
theorem HR.take {h H:Hp} (r:HR σ n HB h H) {m:Nat} (hn:n<=m):HR σ n HB (h.take m) (H.take (σ m)):=by
 refine⟨by have:=r.le;simp;omega,?_,fun i o hi=>?_,fun j h1 h2=>?_⟩
 ·rw[bm,bm,r.len];by_cases hc:m<=h.length
  ·rw[dr hc,dr (hm.le.2 hc)]
  ·have hc':h.length<=m:=om;rw[Nat.min_eq_right hc',Nat.min_eq_right (hm.le.2 hc')]
 ·rw[aZ]at hi;split at hi
  ·rename_i hlt;rw[aZ,ay (hm.mono _ _ hlt)];exact r.get i o hi
  ·cases hi
 ·have e1:=hm.top (m - n);rw[show n+(m - n)=m by omega]at e1;rw[aZ,ay om];exact r.out j h1 h2
theorem D5 {h H:Hp} (r:HR σ n HB h H) (v:V):im H (v.sh σ)=im h v:=by
 cases v<;>simp only[V.sh,im]
 ·rename_i id len;rw[r.get? hm];cases h[id]? with
  |none=>rfl
  |some o=>cases o<;>rfl
 ·rename_i id off len;rw[r.get? hm];cases h[id]? with
  |none=>rfl
  |some o=>cases o<;>rfl
theorem K3 {h H:Hp} (r:HR σ n HB h H):∀ l:List V,xW H (fM σ l)=xW h l
 |[]=>rfl
 |v::l=>by simp only[fM,xW,D5 hm r v,K3 r l]
theorem D4 {h H:Hp} (r:HR σ n HB h H) (v:V):wu H (v.sh σ)=wu h v:=by
 have key:∀ (H:Hp) (v:V),(∀ l,v≠ .agg l)->wu H v=im H v:=by
  intro H v hv;cases v<;>first|rfl|exact absurd rfl (hv _)
 by_cases hv:∃ l,v= .agg l
 ·obtain⟨l,rfl⟩:=hv;simp only[V.sh,wu,K3 hm r l]
 ·have h1:∀ l,v≠ .agg l:=fun l e=>hv ⟨l,e⟩;have h2:∀ l,v.sh σ≠ .agg l:=by
   intro l e;cases v<;>simp only[V.sh]at e<;>first|exact absurd rfl (h1 _)|cases e
  rw[key _ _ h1,key _ _ h2];exact D5 hm r v
theorem F9 {h H:Hp} (r:HR σ n HB h H) (v:V):toArg H (v.sh σ)=(toArg h v).sh σ:=by
 unfold toArg;rw[D4 hm r];cases wu h v<;>rfl
theorem VT {h H:Hp} (r:HR σ n HB h H) (v:V):iX H (v.sh σ)=(iX h v).sh σ:=by
 by_cases hv:∃ i k,v= .agg [.row i k]
 ·obtain⟨i,k,rfl⟩:=hv;rfl
 ·have h1:iX h v=toArg h v:=by
   unfold iX;split
   ·exact absurd ⟨_,_,rfl⟩ hv
   ·rfl
  have h2:iX H (v.sh σ)=toArg H (v.sh σ):=by
   unfold iX;split
   ·rename_i i k e;exfalso;apply hv;cases v<;>simp only[V.sh,reduceCtorEq,V.agg.injEq]at e;rename_i l;cases l with
    |nil=>simp only[fM]at e;cases e
    |cons a q=>
     cases q with
     |cons b q=>simp only[fM,bS,reduceCtorEq,and_false]at e
     |nil=>
      simp only[fM,bS]at e;cases a<;>simp only[V.sh,reduceCtorEq,fQ,false_and]at e;exact⟨_,_,rfl⟩
   ·rfl
  rw[h1,h2];exact F9 hm r v
theorem A6 {h H:Hp} (r:HR σ n HB h H) (v:V):lsize H (v.sh σ)=lsize h v:=by unfold lsize;rw[D5 hm r]
end
def eo.cst:eo->Bool
 | .c v=>v.und 0
 |_=>true
def ij.Lv:ij->List eo
 | .mv x| .box x| .ld _ x| .nilck x| .un _ x| .conv _ x| .fld _ _ x| .fadr _ x| .ext x _| .len _ x| .convs x| .mark x| .isnil _ x=>[x]
 | .pick c a b=>[c,a,b]
 | .zbox _| .mkm| .no| .brow _=>[]
 | .build _ ps=>ps.map fun p=>p.2.2
 | .bslice _ _ ps| .blit _ _ ps=>ps
 | .abs _ ps=>ps
 | .st _ a x=>[a,x]
 | .bin _ x y| .eqa _ _ x y| .eqb _ x y| .iadr _ x y| .iadra _ _ x y| .idx x y| .app _ _ x y| .mm _ x y| .mget _ _ _ x y| .ment _ _ x y=>[x,y]
 | .rN _ x y z| .mest x y z=>[x,y,z]
 | .mkfn _ c=>c
 | .mkfm _ c=>c
 | .slcs x lo hi| .slc _ x lo hi=>x::(lo.toList++hi.toList)
 | .call _ args=>args
 | .callv f args=>f::args
 | .msl _ _ _ n=>[n]
def ij.cst (o:ij):Bool:=o.Lv.all eo.cst && (match o with| .zbox z| .build z _| .msl _ _ z _=>br 0 z|_=>true)
def aU.cst:aU->Bool
 | .reg ops| .draw _ ops=>ops.all fun o=>o.op.cst
 | .seq a b=>a.cst && b.cst
 | .cond c a b=>c.cst && (a.cst && b.cst)
 | .block _ b| .scope b| .loop _ b=>b.cst
 |_=>true
def V1 (σ:Nat->Nat) (n:Nat) (HB:Hp) (o o':iH):Prop:=∀ f a h r h' H,HR σ n HB h H->o f a h=some (r,h')->∃ H',o' f (fM σ a) H=some (r.sh σ,H')/\HR σ n HB h' H'
section
variable {σ:Nat->Nat} {n:Nat} {HB:Hp} (hm:Mv σ n HB) {cx:Cx} {o o':iH}
theorem cC {e:Env} {x:eo} (hc:x.cst=true):di cx (rq σ e) x=(di cx e x).sh σ:=by
 cases x with
 |t i=>exact kV e i
 |c v=>exact(uu v hc).symm
 |g i=>rfl
 |f i=>rfl
theorem xF {e:Env} {d:Nat} {x:Option eo} (hc:x.toList.all eo.cst=true):bn.bound cx (rq σ e) d x=bn.bound cx e d x:=by
 cases x with
 |none=>rfl
 |some x=>
  simp only[bn.bound];rw[cC (by simpa using hc)];cases di cx e x<;>rfl
include hm
theorem wG {e:Env} {h H:Hp} (r:HR σ n HB h H):∀ {l:List eo},l.all eo.cst=true->bn.toDs' cx (rq σ e) H l=bn.toDs' cx e h l
 |[],_=>rfl
 |x::l,hc=>by
  simp only[aQ,ab]at hc;simp only[bn.toDs',cC hc.1,D4 hm r,wG r hc.2]
theorem uW {e:Env} {h H:Hp} (r:HR σ n HB h H):∀ {l:List eo},l.all eo.cst=true->(l.map fun x=>iX H (di cx (rq σ e) x))=fM σ (l.map fun x=>iX h (di cx e x))
  |[],_=>rfl
  |x::l,hc=>by
   simp only[aQ,ab]at hc;simp only[aB,fM,cC hc.1,VT hm r,uW r hc.2]
omit hm in
theorem RY (ps:List (Nat×Nat×V)):∀ z:List V,p6 (fM σ z) (ps.map fun p=>(p.1,p.2.1,p.2.2.sh σ))=(p6 z ps).map (fM σ):=by
  induction ps with
  |nil=>intro z;rfl
  |cons p r ih=>
   intro z;obtain⟨off,k,v⟩:=p;simp only[aB,p6,tY,mJ];split
   ·rw[wP,ih]
   ·rfl
omit hm in
theorem yy (v:V):gy (v.sh σ)=gy v:=by cases v<;>rfl
omit hm in
theorem UZ (v:V):rT (v.sh σ)=rT v:=by cases v<;>rfl
omit hm in
theorem VP (op:BinOp) (x y:V):fJ op (x.sh σ) (y.sh σ)=fJ op x y:=by
 cases x with
 |d x=>cases y<;>cases x<;>rfl
 |_=>rfl
omit hm in
theorem SZ {op:BinOp} {x y r:V} (h:fJ op x y=some r):r.und 0=true:=by
 unfold fJ at h;split at h
 ·split at h
  all_goals
   first
   |(split at h<;>first|(cases h;rfl)|cases h)
   |(obtain⟨_,_,rfl⟩:=aj.1 h;rfl)
   |(split at h<;>first|(obtain⟨_,_,rfl⟩:=aj.1 h;rfl)|cases h)
 ·split at h
  all_goals
   first
   |(split at h<;>first|(cases h;rfl)|cases h)
   |(cases h;rfl)
   |cases h
 ·cases h
omit hm in
theorem Xy (op:UnOp) (x:V):OH op (x.sh σ)=OH op x:=by cases x<;>rfl
omit hm in
theorem TM {op:UnOp} {x r:V} (h:OH op x=some r):r.und 0=true:=by
 unfold OH at h;split at h
 ·split at h<;>first|(cases h;rfl)|cases h
 ·split at h<;>first|(cases h;rfl)|cases h
 ·cases h
omit hm in
theorem QY (ok:Bool) (z:D) (r:Option D):(UN ok z r).und 0=true:=by
 cases ok<;>cases r<;>rfl
theorem Jk {c:List V} {off:Nat}:∀ {xs:List V},nf (fM σ c) off (fM σ xs)=nf c off xs
 |[]=>rfl
 |[v]=>by
  have _h0:=hm.top;cases v with
  |row i k=>
   simp only[fM,V.sh,nf,uw];cases c[off]? with
   |none=>rfl
   |some u=>
    cases u with
    |row j m=>
     simp only[aI,V.sh];apply jj.2;rw[Nat.beq_eq,Nat.beq_eq];constructor
     ·intro h;rcases jH i j with q|q|q
      ·have:=hm.mono _ _ q;omega
      ·exact q
      ·have:=hm.mono _ _ q;omega
     ·rintro rfl;rfl
    |_=>rfl
  |_=>rfl
 |v::u::r=>by
  have _h0:=hm.top;cases v<;>rfl
theorem Ff (ho:V1 σ n HB o o') {b:Nat} {e:Env} {h H h':Hp} {op:ij} {r:V} (hc:op.cst=true) (hb:n<=b) (R:HR σ n HB h H) (h1:bn cx o b e h op=some (r,h')):
 ∃ H',bn cx o' (σ b) (rq σ e) H op=some (r.sh σ,H')/\HR σ n HB h' H':=by
 have same:∀ {x:V},x.und 0=true->some (x,H)=some (x.sh σ,H):=fun hx=>by rw[uu _ hx]
 cases op<;>simp only[ij.cst,ij.Lv,aQ,bO,bo,ab,ji]at hc<;>simp only[bn]at h1⊢
 case mv x=>
  cases h1;rw[cC hc];exact⟨H,rfl,R⟩
 case pick c x y=>
  rw[cC hc.1,cC hc.2.1,cC hc.2.2];split at h1
  ·rename_i t ht;cases h1;rw[ht];exact⟨H,by cases t<;>rfl,R⟩
  ·cases h1
 case zbox z=>
  cases h1;refine⟨_,by rw[R.len];rfl,?_⟩;have:=R.snoc hm (.box z);rw[Ob.sh,lO z hc.2]at this;exact this
 case box x=>
  rw[cC hc,tY,zC];split at h1
  ·rename_i ho1;cases h1;refine⟨_,by rw[ay ho1,R.len];rfl,R.snoc hm (.box _)⟩
  ·cases h1
 case build z ps=>
  have hev:∀ p∈ps,di cx (rq σ e) p.2.2=(di cx e p.2.2).sh σ:=fun p hp=>cC (aC.1 hc.1 _ (e9.2 ⟨p,hp,rfl⟩));have e1:(ps.all fun p=>(di cx (rq σ e) p.2.2).cells.all V.one)=(ps.all fun p=>(di cx e p.2.2).cells.all V.one):=by
    rw[jj,aC,aC];constructor
    ·intro hh p hp;have:=hh p hp;rw[hev p hp,tY,zC]at this;exact this
    ·intro hh p hp;rw[hev p hp,tY,zC];exact hh p hp
  have e2:(ps.map fun p=>(p.1,p.2.1,di cx (rq σ e) p.2.2))=(ps.map fun p=>(p.1,p.2.1,di cx e p.2.2)).map fun p=>(p.1,p.2.1,p.2.2.sh σ):=by
    rw[cV];apply bJ;intro p hp;simp only[dh,hev p hp]
  rw[e1,e2];split at h1
  ·rename_i ha;rw[ay ha];obtain⟨c,hc',he⟩:=aj.1 h1;cases he;have e3:=RY (σ:=σ) (ps.map fun p=>(p.1,p.2.1,di cx e p.2.2)) z;rw[lO z hc.2,hc']at e3;rw[e3];exact⟨H,by simp only[aI,G4],R⟩
  ·cases h1
 case bslice sz len ps=>
  rw[wG hm R hc];split at h1
  ·split at h1
   ·rename_i hcond;cases h1;exact⟨H,by rw[ay hcond];rfl,R⟩
   ·cases h1
  ·cases h1
 case blit sz len ps=>
  rw[wG hm R hc];split at h1
  ·split at h1
   ·rename_i hcond;cases h1;exact⟨_,by rw[ay hcond,R.len];rfl,R.snoc hm (.row _ _)⟩
   ·cases h1
  ·cases h1
 case abs len ps=>
  rw[wG hm R hc];split at h1
  ·split at h1
   ·rename_i hcond;cases h1;exact⟨_,by rw[ay hcond,R.len];rfl,R.snoc hm (.frz _)⟩
   ·cases h1
  ·cases h1
 case mark x=>
  rw[cC hc];split at h1
  ·rename_i id off len hv;rw[hv];simp only[V.sh,R.get? hm];split at h1
   ·rename_i c ho1;cases h1;rw[ho1];exact⟨H,rfl,R⟩
   ·cases h1
  ·cases h1
 case ld k x=>
  rw[cC hc];obtain⟨v,hv,he⟩:=aj.1 h1;cases he;have e1:mc H ((di cx e x).sh σ)=(mc h (di cx e x)).map fun p=>(fM σ p.1,p.2):=by
    cases hv0:di cx e x with
    |ptr id off=>
     simp only[V.sh,mc,R.get? hm];cases h[id]? with
     |none=>rfl
     |some o=>cases o<;>simp only[aI,Ob.sh]<;>first|rfl|simp only[La]
    |ro l off=>simp only[V.sh,mc,aI,La]
    |_=>rfl
  unfold o8 at hv⊢;rw[e1];split at hv
  ·cases hv
  ·rename_i c off hcl;rw[hcl];simp only[aI];rw[AK,hv];exact⟨H,rfl,R⟩
 case st k a x=>
  rw[cC hc.1,cC hc.2];obtain⟨q,hq,he⟩:=aj.1 h1;cases he;unfold sW at hq⊢;split at hq
  ·rename_i id off hv;rw[hv];simp only[V.sh,R.get? hm];split at hq
   ·rename_i c ho1;rw[ho1];simp only[aI,Ob.sh,tY,mJ,zC,pM hm,hm.le,Jk hm];split at hq
    ·rename_i hcond;cases hq;rw[ay hcond];refine⟨_,rfl,?_⟩;have:=R.set hm (az.1 ho1).1 (.box (putAt c off (di cx e x).cells));rw[Ob.sh,<-wP]at this;exact this
    ·cases hq
   ·cases hq
  ·cases hq
 case nilck x=>
  rw[cC hc];split at h1
  ·rename_i hv;rw[hv];cases h1;exact⟨H,rfl,R⟩
  ·rename_i hv;rw[hv];cases h1;exact⟨H,rfl,R⟩
  ·rename_i hv;rw[hv];cases h1;exact⟨H,rfl,R⟩
  ·cases h1
 case bin op x y=>
  rw[cC hc.1,cC hc.2,VP];obtain⟨v,hv,he⟩:=aj.1 h1;cases he;rw[hv];exact⟨H,same (SZ hv),R⟩
 case eqa neg ks x y=>
  rw[cC hc.1,cC hc.2];split at h1
  ·rename_i hx hy;rw[hx,hy];simp only[V.sh];split at h1
   ·rename_i hk;cases h1;exact⟨H,by rw[ay hk];rfl,R⟩
   ·cases h1
  ·cases h1
 case eqb neg x y=>
  rw[cC hc.1,cC hc.2];split at h1
  ·rename_i hx hy;rw[hx,hy];cases h1;exact⟨H,rfl,R⟩
  ·cases h1
 case isnil neg x=>
  rw[cC hc];split at h1
  ·rename_i hv;rw[hv];cases h1;exact⟨H,rfl,R⟩
  ·cases h1
 case un op x=>
  rw[cC hc,Xy];obtain⟨v,hv,he⟩:=aj.1 h1;cases he;rw[hv];exact⟨H,same (TM hv),R⟩
 case conv k x=>
  rw[cC hc];split at h1
  ·rename_i hv;rw[hv];cases h1;exact⟨H,rfl,R⟩
  ·cases h1
 case mkfn f caps=>
  cases h1;refine⟨H,?_,R⟩;have:caps.map (di cx (rq σ e))=fM σ (caps.map (di cx e)):=by
   rw[hH,cV];apply bJ;intro x hx;exact cC (aC.1 hc x hx)
  rw[this];rfl
 case mkfm f caps=>
  cases h1;refine⟨H,?_,R⟩;have:caps.map (di cx (rq σ e))=fM σ (caps.map (di cx e)):=by
   rw[hH,cV];apply bJ;intro x hx;exact cC (aC.1 hc x hx)
  rw[this];rfl
 case fld off k x=>
  rw[cC hc];split at h1
  ·rename_i c hv;obtain⟨v,hv2,he⟩:=aj.1 h1;cases he;rw[hv];have:=AK (σ:=σ) k (c.map V.d) off;rw[La,hv2]at this;simp only[V.sh];rw[hv2];simp only[aI,aa]at this;exact⟨H,by rw[<-this];rfl,R⟩
  ·rename_i c hv;obtain⟨v,hv2,he⟩:=aj.1 h1;cases he;rw[hv];simp only[V.sh];rw[AK,hv2];exact⟨H,rfl,R⟩
  ·cases h1
 case fadr off x=>
  rw[cC hc];split at h1
  ·rename_i hv;rw[hv];cases h1;exact⟨H,rfl,R⟩
  ·rename_i hv;rw[hv];cases h1;exact⟨H,rfl,R⟩
  ·cases h1
 case iadr sz x i=>
  rw[cC hc.1,cC hc.2,yy];split at h1
  ·cases h1
  ·rename_i k hi;split at h1
   ·rename_i id off len hv;rw[hv];split at h1
    ·rename_i hlt;cases h1;exact⟨H,by simp only[V.sh,ay hlt],R⟩
    ·cases h1
   ·rename_i v hna;have e1:∀ a b c,(di cx e x).sh σ≠ .arr a b c:=by
     intro a b c hh;cases hv:di cx e x<;>rw[hv]at hh hna<;>simp only[V.sh]at hh<;>first|exact hna _ _ _ rfl|cases hh
    split
    ·rename_i hh;exact absurd hh (e1 _ _ _)
    ·rw[A6 hm R];split at h1
     ·split at h1
      ·split at h1
       ·rename_i hsz;cases h1;exact⟨H,by rw[ay hsz];rfl,R⟩
       ·cases h1
      ·cases h1
     ·cases h1
 case iadra len sz x i=>
  rw[cC hc.1,cC hc.2,yy];split at h1
  ·cases h1
  ·split at h1
   ·rename_i hlt;rw[ay hlt];split at h1
    ·rename_i hv;rw[hv];cases h1;exact⟨H,rfl,R⟩
    ·rename_i hv;rw[hv];cases h1;exact⟨H,rfl,R⟩
    ·cases h1
   ·cases h1
 case idx x i=>
  rw[cC hc.1,cC hc.2,yy];split at h1
  ·rename_i k s hi hv;rw[hi,hv];obtain⟨v,hv2,he⟩:=aj.1 h1;cases he;simp only[V.sh,hv2];exact⟨H,rfl,R⟩
  ·cases h1
 case slcs x lo hi=>
  rw[cC hc.1,xF hc.2.1];cases hv:di cx e x<;>rw[hv]at h1<;>simp only[V.sh]at h1⊢ <;>try(cases h1;done)
  rename_i dx;cases dx<;>try(cases h1;done)
  rename_i s;cases hl:bn.bound cx e 0 lo<;>rw[hl]at h1<;>simp only at h1⊢ <;>try(cases h1;done)
  rw[xF hc.2.2];cases hu:bn.bound cx e s.length hi<;>rw[hu]at h1<;>simp only at h1⊢ <;>try(cases h1;done)
  split at h1
  ·rename_i hcond;cases h1;exact⟨H,by rw[ay hcond];rfl,R⟩
  ·cases h1
 case slc sz x lo hi=>
  rw[cC hc.1,A6 hm R,xF hc.2.1];cases hv:lsize h (di cx e x)
  ·rw[hv]at h1;cases h1
  rename_i s;cases hl:bn.bound cx e 0 lo
  ·rw[hv,hl]at h1;cases h1
  rw[hv,hl]at h1;simp only at h1⊢;rw[xF hc.2.2];cases hu:bn.bound cx e s.length hi<;>rw[hu]at h1<;>simp only at h1⊢ <;>try(cases h1;done)
  split at h1
  ·rename_i hcond;cases h1;exact⟨H,by rw[ay hcond];rfl,R⟩
  ·cases h1
 case ext x i=>
  rw[cC hc];split at h1
  ·rename_i l hv;obtain⟨v,hv2,he⟩:=aj.1 h1;cases he;rw[hv];simp only[V.sh,uw,hv2];exact⟨H,rfl,R⟩
  ·cases h1
 case call f args=>
  rw[uW hm R hc];exact ho _ _ _ _ _ _ R h1
 case callv f args=>
  rw[cC hc.1];split at h1
  ·rename_i g c hv;rw[hv];simp only[V.sh];rw[uW hm R hc.2,<-rn];exact ho _ _ _ _ _ _ R h1
  ·rename_i g c hv;rw[hv];simp only[V.sh];rw[uW hm R hc.2,<-rn];exact ho _ _ _ _ _ _ R h1
  ·cases h1
 case len str x=>
  rw[cC hc];cases str
  ·simp only at h1⊢;obtain⟨v,hv2,he⟩:=aj.1 h1;cases he;rw[UZ,hv2];exact⟨H,rfl,R⟩
  ·split at h1
   ·rename_i hv;rw[hv];cases h1;exact⟨H,rfl,R⟩
   ·rename_i hh;cases hh
   ·cases h1
 case convs x=>
  rw[cC hc];split at h1
  ·rename_i hv;rw[hv];cases h1;exact⟨H,rfl,R⟩
  ·cases h1
 case app sz bytes x y=>
  rw[cC hc.1,cC hc.2,A6 hm R];split at h1
  ·cases h1
  ·rename_i ys hys;split at h1
   ·rename_i hcond;rw[ay hcond];split at h1
    ·rename_i hv;rw[hv];simp only[V.sh];split at h1
     ·rename_i hn;cases h1;exact⟨H,by rw[ay hn];rfl,R⟩
     ·rename_i hn;rw[aA hn];split at h1
      ·rename_i hr;cases h1;exact⟨_,by rw[ay hr,R.len];rfl,R.snoc hm (.row _ _)⟩
      ·cases h1
    ·rename_i hv;rw[hv];simp only[V.sh];split at h1
     ·rename_i hn;cases h1;exact⟨H,by rw[ay hn];rfl,R⟩
     ·rename_i hn;rw[aA hn];split at h1
      ·rename_i hr;cases h1;exact⟨_,by rw[ay hr,R.len];rfl,R.snoc hm (.row _ _)⟩
      ·cases h1
    ·rename_i id len hv;rw[hv];simp only[V.sh,R.get? hm];split at h1
     ·rename_i sz' l ho1;rw[ho1];simp only[aI,Ob.sh];split at h1
      ·rename_i hcond2;cases h1;exact⟨_,by rw[ay hcond2];rfl,R.set hm (az.1 ho1).1 (.row _ _)⟩
      ·cases h1
     ·cases h1
    ·cases h1
   ·cases h1
 case msl sz bytes z k=>
  rw[cC hc.1];split at h1
  ·rename_i kk m hv;rw[hv];simp only[V.sh];split at h1
   ·rename_i hcond;cases h1;refine⟨_,by rw[ay hcond,R.len];rfl,?_⟩;have hz:(z.headD .undef).und 0=true:=by
     cases z with
     |nil=>rfl
     |cons a l=>have:=hc.2;simp only[br,ab]at this;exact this.1
    have:=R.snoc hm (.box (List.replicate m.toNat (z.headD .undef)));rw[Ob.sh,hH,List.map_replicate,uu _ hz]at this;exact this
   ·cases h1
  ·cases h1
 case mm mx x y=>
  rw[cC hc.1,cC hc.2];split at h1
  ·rename_i hx hy;rw[hx,hy];simp only[V.sh];split at h1
   ·rename_i hk;cases h1;exact⟨H,by rw[ay hk];rfl,R⟩
   ·cases h1
  ·cases h1
 case no=>cases h1
 case mkm=>
  cases h1;exact⟨_,by rw[R.len];rfl,R.snoc hm (.map [])⟩
 case brow sz=>
  split at h1
  ·rename_i hs;cases h1;exact⟨H,by rw[ay hs];rfl,R⟩
  ·cases h1
 case rN kk m k x=>
  rw[cC hc.1,cC hc.2.1,cC hc.2.2,D4 hm R];split at h1
  ·rename_i id kd v em ek ex;rw[em,ek,ex];simp only[V.sh,R.get? hm];split at h1
   ·rename_i l ho1;rw[ho1];simp only[aI,Ob.sh];split at h1
    ·rename_i hk;cases h1;exact⟨_,by rw[ay hk];rfl,R.set hm (az.1 ho1).1 (.map _)⟩
    ·cases h1
   ·cases h1
  ·cases h1
 case mget kk ok z m k=>
  rw[cC hc.1,cC hc.2];split at h1
  ·rename_i id kd em ek;rw[em,ek];simp only[V.sh,R.get? hm];split at h1
   ·rename_i l ho1;rw[ho1];simp only[aI,Ob.sh];split at h1
    ·rename_i hk;cases h1;exact⟨H,by rw[ay hk];exact same (QY _ _ _),R⟩
    ·cases h1
   ·cases h1
  ·cases h1
 case ment kk z m k=>
  rw[cC hc.1,cC hc.2];split at h1
  ·rename_i id kd em ek;rw[em,ek];simp only[V.sh,R.get? hm];split at h1
   ·rename_i l ho1;rw[ho1];simp only[aI,Ob.sh];split at h1
    ·rename_i hk;rw[ay hk];split at h1
     ·rename_i i hi;obtain⟨p,hp,he⟩:=aj.1 h1;cases he;rw[hp];exact⟨H,rfl,R⟩
     ·cases h1;exact⟨_,rfl,R.set hm (az.1 ho1).1 (.map _)⟩
    ·cases h1
   ·cases h1
  ·cases h1
 case mest m s x=>
  rw[cC hc.1,cC hc.2.1,cC hc.2.2,D4 hm R];split at h1
  ·rename_i id k v em ek ex;rw[em,ek,ex];simp only[V.sh,R.get? hm];split at h1
   ·rename_i l ho1;rw[ho1];simp only[aI,Ob.sh];split at h1
    ·rename_i hk;cases h1;exact⟨_,by rw[ay hk];rfl,R.set hm (az.1 ho1).1 (.map _)⟩
    ·cases h1
   ·cases h1
  ·cases h1
omit hm in
theorem uA (d:Option Nat) (v:V) (e:Env):rq σ (fT d v e)=fT d (v.sh σ) (rq σ e):=by cases d<;>rfl
omit hm in
theorem td (ks:List Nat) (e:Env):rq σ (dU ks e)=dU ks (rq σ e):=by
 unfold dU rq;rw[cV];apply bJ;intro k _;simp only[dh];have:=kV (σ:=σ) e k;unfold rq at this;rw[this]
theorem Lb (m:Nat) (e:Env):rq σ (cut m e)=cut (σ m) (rq σ e):=by
 unfold cut rq;rw[cV,cV];apply bJ;rintro⟨k,v⟩ _;simp only[dh,I2 hm];split<;>rfl
structure SR (σ:Nat->Nat) (n:Nat) (HB:Hp) (s S:St):Prop where
 e:S.e=rq σ s.e
 h:HR σ n HB s.h S.h
 b:S.b=σ s.b
 le:n<=s.b
def LSh (σ:Nat->Nat) (n:Nat) (HB:Hp) (l l':Lp):Prop:=∀ ks c s x s' S,c.cst=true->SR σ n HB s S->l ks c s=some (x,s')->∃ S',l' ks c S=some (x,S')/\SR σ n HB s' S'
theorem Rq {d:Option Nat} {e:Env} {b:Nat} (hb:n<=b) {x y:Option (V×Hp)} {r:St} (hxy:∀ v h',x=some (v,h')->∃ H',y=some (v.sh σ,H')/\HR σ n HB h' H') (h1:lay d e b x=some r):∃ S,lay d (rq σ e) (σ b) y=some S/\SR σ n HB r S:=by
 have _h0:=hm.top;cases x with
 |none=>cases h1
 |some q=>
  obtain⟨v,h'⟩:=q;obtain⟨H',hy,hr⟩:=hxy v h' rfl;simp only[lay,aI,aa]at h1;subst h1;rw[hy];exact⟨_,rfl,(uA d v e).symm,hr,rfl,hb⟩
theorem lE (ho:V1 σ n HB o o') {p:aL} {s r S:St} (hc:p.op.cst=true) (R:SR σ n HB s S) (h1:aW cx o p s=some r):∃ S',aW cx o' p S=some S'/\SR σ n HB r S':=by
 obtain⟨e,H,b⟩:=S;obtain⟨hE,R,hB,hle⟩:=R;simp only at hE R hB;subst hE;subst hB;unfold aW at h1⊢;split at h1
 ·exact Rq hm hle (fun v h' hv=>Ff hm ho hc hle R hv) h1
 ·rename_i g bb hg;simp only at h1⊢;rw[kV];unfold grd at h1⊢;split at h1
  ·rename_i t hv;rw[hv];simp only[V.sh];split at h1
   ·rename_i ht;rw[ay ht];exact Rq hm hle (fun v h' hv=>Ff hm ho hc hle R hv) h1
   ·rename_i ht;rw[aA ht];cases h1;exact⟨_,rfl,(uA p.dst (.tup []) s.e).symm,R,rfl,hle⟩
  ·rename_i hv;rw[hv];cases h1;exact⟨_,rfl,(uA p.dst (.tup []) s.e).symm,R,rfl,hle⟩
  ·cases h1
theorem tQ (ho:V1 σ n HB o o'):∀ {ops:List aL} {s r S:St},(ops.all fun p=>p.op.cst)=true->SR σ n HB s S->bQ cx o ops s=some r->∃ S',bQ cx o' ops S=some S'/\SR σ n HB r S'
  |[],_,_,S,_,R,h=>by cases h;exact⟨S,rfl,R⟩
  |p::ps,s,r,S,hc,R,h=>by
   simp only[aQ,ab]at hc;simp only[bQ]at h⊢;cases hx:aW cx o p s with
   |none=>rw[hx]at h;cases h
   |some q=>
    rw[hx]at h;obtain⟨S1,h1,R1⟩:=lE hm ho hc.1 R hx;rw[h1];exact tQ ho hc.2 R1 h
theorem Vk {h h' H H':Hp} (R:HR σ n HB h H) (R':HR σ n HB h' H') (hg:grew h h'=true):grew H H'=true:=by
 unfold grew at hg⊢;simp only[ab,an]at hg⊢;obtain⟨⟨l,rfl⟩,h2⟩:=hg;have e:=R.app hm R';refine⟨⟨_,e⟩,?_⟩;rw[jX]at h2;rw[R'.len,e,jX,GR hm];exact h2
theorem ZJ {d:Option Nat} {s S:St} (R:SR σ n HB s S) (h:pw d s=true):pw d S=true:=by
 unfold pw at h⊢;cases d with
 |none=>rfl
 |some d=>
  simp only at h⊢;rw[R.e,R.h.len,kV,I2 hm];exact h
theorem qM (ho:V1 σ n HB o o'):∀ {m:Nat} {ops:List aL} {s r S:St},(ops.all fun p=>p.op.cst)=true->SR σ n HB s S->eC cx o m ops s=some r->∃ S',eC cx o' m ops S=some S'/\SR σ n HB r S'
  |0,[],_,_,S,_,R,h=>by cases h;exact⟨S,rfl,R⟩
  |_+1,[],_,_,S,_,R,h=>by cases h;exact⟨S,rfl,R⟩
  |0,p::ps,s,r,S,hc,R,h=>by
   simp only[eC]at h⊢;exact tQ hm ho hc R h
  |m+1,p::ps,s,r,S,hc,R,h=>by
   simp only[aQ,ab]at hc;simp only[eC]at h⊢;cases hx:aW cx o p s with
   |none=>rw[hx]at h;cases h
   |some q=>
    rw[hx]at h;obtain⟨S1,h1,R1⟩:=lE hm ho hc.1 R hx;rw[h1];simp only[aP]at h⊢;split at h
    ·rename_i hg;simp only[ab]at hg;rw[ay (by rw[Vk hm R.h R1.h hg.1,ZJ hm R1 hg.2];rfl)];exact qM ho hc.2 R1 h
    ·cases h
theorem HR.a9c {h H H':Hp} (r:HR σ n HB h H) (r':HR σ n HB h H'):H'=H:=by
 have:=r.app hm (l:=[]) (H':=H') (by rw[bC];exact r');simpa using this
theorem SR.a9c {s S S':St} (r:SR σ n HB s S) (r':SR σ n HB s S'):S'=S:=by
 obtain⟨e,h,b⟩:=S;obtain⟨e',h',b'⟩:=S';obtain⟨a1,a2,a3,_⟩:=r;obtain⟨c1,c2,c3,_⟩:=r';simp only at a1 a2 a3 c1 c2 c3;rw[a1,a3,c1,c3,a2.a9c hm c2]
theorem Sv (ho:V1 σ n HB o o') {m:Nat} {ops:List aL} {s S:St} (hc:(ops.all fun p=>p.op.cst)=true) (R:SR σ n HB s S) (h:xS cx o m ops s):xS cx o' m ops S:=by
  rcases h with⟨d,od,τ,val,D⟩|⟨d,a,ε,val,Hs,D⟩|⟨a,h1,h2,r,h3⟩
  rotate_left
  rotate_left
  ·obtain⟨S2,g2,_⟩:=qM hm ho hc R h3;exact .inr (.inr ⟨a,h1,h2,S2,g2⟩)
  rotate_left
  ·have hcs:∀ {i:Nat} {p:aL},ops[i]? =some p->p.op.cst=true:=fun{i p} hp=>(aC.1 hc) p (aT hp);have hld:d < ops.length:=ch D.ld D.le;have hla:a < ops.length:=ch D.la D.le;have sr:∀ {h H:Hp} (e:Env),HR σ n HB h H->SR σ n HB ⟨e,h,s.b⟩ ⟨rq σ e,H,S.b⟩:=fun e rh=>⟨rfl,rh,R.b,R.le⟩;have a1h:∀ {h h' H:Hp} {i:Nat} {p:aL},HR σ n HB h H->ops[i]? =some p->aW cx o p ⟨ε i,h,s.b⟩=some ⟨ε (i+1),h',s.b⟩->∃ H',HR σ n HB h' H':=fun{h h' H i p} rh hp hx=>by
     obtain⟨q,_,R1⟩:=lE hm ho (hcs hp) (sr _ rh) hx;exact⟨q.h,R1.h⟩
   have r00:HR σ n HB (Hs false false) S.h:=by rw[D.h0];exact R.h
   obtain⟨H10,r10⟩:∃ H',HR σ n HB (Hs true false) H':=by
    have:=D.run d _ false false D.ld (ae hld) (fun _=>rfl) (fun e=>absurd e D.ne);rw[au rfl,ak D.ne]at this;exact a1h r00 (ae hld) this
   obtain⟨H01,r01⟩:∃ H',HR σ n HB (Hs false true) H':=by
    have:=D.run a _ false false D.la (ae hla) (fun e=>absurd e.symm D.ne) (fun _=>rfl);rw[au rfl,ak (fun e=>D.ne e.symm)]at this;exact a1h r00 (ae hla) this
   obtain⟨H11,r11⟩:∃ H',HR σ n HB (Hs true true) H':=by
    have:=D.run d _ false true D.ld (ae hld) (fun _=>rfl) (fun e=>absurd e D.ne);rw[au rfl,ak D.ne]at this;exact a1h r01 (ae hld) this
   obtain⟨G,hG⟩:∃ G:Bool->Bool->Hp,G=fun x y=>match x,y with|false,false=>S.h|true,false=>H10|false,true=>H01|true,true=>H11:=⟨_,rfl⟩
   have rG:∀ x y,HR σ n HB (Hs x y) (G x y):=fun x y=>by rw[hG];cases x<;>cases y<;>assumption
   refine .inr (.inl ⟨d,a,fun i=>rq σ (ε i),fun i=>(val i).sh σ,G,D.ld,D.la,D.ne,D.le,?_,by rw[hG],fun i p hi hp=>?_,fun i p x y hi hp h1 h2=>?_⟩)
   ·show rq σ (ε 0)=S.e;rw[D.zero];exact R.e.symm
   ·show rq σ (ε (i+1))=_;rw[D.env i p hi hp,uA]
   ·obtain⟨q,g1,R1⟩:=lE hm ho (hcs hp) (sr _ (rG x y)) (D.run i p x y hi hp h1 h2);rw[g1,(sr (ε (i+1)) (rG _ _)).a9c hm R1]
  obtain⟨T,hT0,hTs⟩:∃ T:Nat->St,T 0=S/\∀ i,T (i+1)=match ops[i]? with|some p=>(aW cx o' p (T i)).getD (T i)|none=>T i:=⟨fun i=>Nat.rec S (fun i q=>match ops[i]? with|some p=>(aW cx o' p q).getD q|none=>q) i,rfl,fun _=>rfl⟩
  have hcs:∀ {i:Nat} {p:aL},ops[i]? =some p->p.op.cst=true:=fun{i p} hp=>(aC.1 hc) p (aT hp);have one:∀ i p,i < m->ops[i]? =some p->SR σ n HB (τ i) (T i)->aW cx o' p (T i)=some (T (i+1))/\SR σ n HB (τ (i+1)) (T (i+1)):=by
   intro i p hi hp Ri;obtain⟨q,h1,R1⟩:=lE hm ho (hcs hp) Ri (D.step i p hi hp).1;have:T (i+1)=q:=by rw[hTs,hp];simp only[h1];rfl
   rw[this];exact⟨h1,R1⟩
  have all:∀ i,i<=m->SR σ n HB (τ i) (T i):=by
   intro i;induction i with
   |zero=>intro _;rw[D.zero,hT0];exact R
   |succ i ih=>
    intro hi;have hl:i < ops.length:=ch om D.le;exact(one i ops[i] om (ae hl) (ih om)).2
  have hb:∀ i,i<=m->(τ i).b=s.b:=by
   intro i;induction i with
   |zero=>intro _;rw[D.zero]
   |succ i ih=>
    intro hi;have hl:i < ops.length:=ch om D.le;rw[lZ (D.step i ops[i] om (ae hl)).1,ih om]
  have Rd:=all (d+1) (by have:=D.lt;omega);have two:∀ {h H:Hp} i p,HR σ n HB h H->i < m->ops[i]? =some p->aW cx o p ⟨(τ i).e,h,s.b⟩=some ⟨(τ (i+1)).e,h,s.b⟩->aW cx o' p ⟨(T i).e,H,S.b⟩=some ⟨(T (i+1)).e,H,S.b⟩:=by
   intro h H i p rh hi hp hx;have r1:SR σ n HB ⟨(τ i).e,h,s.b⟩ ⟨(T i).e,H,S.b⟩:=⟨(all i om).e,rh,R.b,R.le⟩;obtain⟨q,h1,R1⟩:=lE hm ho (hcs hp) r1 hx;have r2:SR σ n HB ⟨(τ (i+1)).e,h,s.b⟩ ⟨(T (i+1)).e,H,S.b⟩:=⟨(all (i+1) om).e,rh,R.b,R.le⟩;rw[h1,r2.a9c hm R1]
  refine .inl ⟨d,od,T,fun i=>(val i).sh σ,D.lt,D.le,D.odx,hT0,fun i p hi hp=>⟨(one i p hi hp (all i om)).1,?_⟩,fun i p hi hp hne=>?_,fun i p hi hp=>two i p Rd.h (Nat.lt_trans hi D.lt) hp (D.ahead i p hi hp),fun i p h1 h2 hp=>(D.behind i p h1 h2 hp).imp id (two i p R.h h2 hp)⟩
  ·rw[(all (i+1) om).e,(D.step i p hi hp).2,uA,<-(all i om).e]
  ·have r1:=(all (i+1) om).h;rw[D.quiet i p hi hp hne]at r1;exact(all i om).h.a9c hm r1
theorem Sd (ho:V1 σ n HB o o') {m:Nat} {ops:List aL} {s r S:St} (hc:(ops.all fun p=>p.op.cst)=true) (R:SR σ n HB s S) (h:l8 cx o m ops s=some r):∃ S',l8 cx o' m ops S=some S'/\SR σ n HB r S':=by
  obtain⟨h1,h2⟩:=gA.1 h;obtain⟨S',g1,R'⟩:=tQ hm ho hc R h1;refine⟨S',gA.2 ⟨g1,?_⟩,R'⟩;rcases h2 with⟨q,hq⟩|hD
  ·obtain⟨S2,g2,_⟩:=qM hm ho hc R hq;exact .inl ⟨S2,g2⟩
  ·exact .inr (Sv hm ho hc R hD)
theorem Kc (ho:V1 σ n HB o o') {l l':Lp} (hl:LSh σ n HB l l'):∀ {c:aU} {s:St} {x:Ex} {s' S:St},c.cst=true->SR σ n HB s S->fg cx o l c s=some (x,s')->∃ S',fg cx o' l' c S=some (x,S')/\SR σ n HB s' S':=by
 intro c;induction c with
 |skip=>intro s x s' S _ R h;cases h;exact⟨S,rfl,R⟩
 |reg ops=>
  intro s x s' S hc R h;simp only[fg]at h⊢;obtain⟨q,hq,he⟩:=aj.1 h;cases he;obtain⟨S',h1,R1⟩:=tQ hm ho hc R hq;exact⟨S',by rw[h1];rfl,R1⟩
 |draw m ops=>
  intro s x s' S hc R h;simp only[fg]at h⊢;obtain⟨q,hq,he⟩:=aj.1 h;cases he;obtain⟨S',h1,R1⟩:=Sd hm ho hc R hq;exact⟨S',by rw[h1];rfl,R1⟩
 |seq a b iha ihb=>
  intro s x s' S hc R h;simp only[aU.cst,ab]at hc;simp only[fg]at h⊢;cases hx:fg cx o l a s with
  |none=>rw[hx]at h;cases h
  |some q=>
   obtain⟨y,s1⟩:=q;rw[hx]at h;obtain⟨S1,h1,R1⟩:=iha hc.1 R hx;rw[h1];cases y with
   |dN=>exact ihb hc.2 R1 h
   |exit i=>cases h;exact⟨S1,rfl,R1⟩
   |ret=>cases h;exact⟨S1,rfl,R1⟩
 |cond c a b iha ihb=>
  intro s x s' S hc R h;simp only[aU.cst,ab]at hc;simp only[fg]at h⊢;rw[R.e,cC hc.1];split at h
  ·rename_i t ht;rw[ht];simp only[V.sh];split at h
   ·rename_i hb;rw[ay hb];exact iha hc.2.1 R h
   ·rename_i hb;rw[aA hb];exact ihb hc.2.2 R h
  ·cases h
 |block id b ih=>
  intro s x s' S hc R h;simp only[aU.cst]at hc;simp only[fg]at h⊢;cases hx:fg cx o l b s with
  |none=>rw[hx]at h;cases h
  |some q=>
   obtain⟨y,s1⟩:=q;rw[hx]at h;obtain⟨S1,h1,R1⟩:=ih hc R hx;rw[h1];cases y with
   |dN=>cases h;exact⟨S1,rfl,R1⟩
   |ret=>cases h;exact⟨S1,rfl,R1⟩
   |exit i=>
    simp only at h⊢;split at h
    ·rename_i hi;cases h;exact⟨S1,by rw[ay hi],R1⟩
    ·rename_i hi;cases h;exact⟨S1,by rw[aA hi],R1⟩
 |scope b ih=>intro s x s' S hc R h;simp only[aU.cst]at hc;simp only[fg]at h⊢;exact ih hc R h
 |loop ks b ih=>
  intro s x s' S hc R h;simp only[aU.cst]at hc;simp only[fg]at h⊢;cases hx:fg cx o l b ⟨dU ks s.e,s.h,s.h.length⟩with
  |none=>rw[hx]at h;cases h
  |some q=>
   obtain⟨y,s1⟩:=q;rw[hx]at h;have R0:SR σ n HB ⟨dU ks s.e,s.h,s.h.length⟩ ⟨dU ks S.e,S.h,S.h.length⟩:=⟨by rw[R.e];exact(td ks s.e).symm,R.h,R.h.len,R.h.le⟩;obtain⟨S1,h1,R1⟩:=ih hc R0 hx;rw[h1];cases y with
   |dN=>
    have R2:SR σ n HB ⟨cut s.h.length (dU ks s1.e),s1.h.take s.h.length,s.b⟩ ⟨cut S.h.length (dU ks S1.e),S1.h.take S.h.length,S.b⟩:=by
     refine⟨?_,?_,R.b,R.le⟩
     ·simp only[R1.e,R.h.len,Lb hm,td]
     ·have:=R1.h.take hm (m:=s.h.length) R.h.le;rw[<-R.h.len]at this;exact this
    exact hl _ _ _ _ _ _ hc R2 h
   |exit i=>cases h;exact⟨⟨S1.e,S1.h,S.b⟩,rfl,R1.e,R1.h,R.b,R.le⟩
   |ret=>cases h;exact⟨⟨S1.e,S1.h,S.b⟩,rfl,R1.e,R1.h,R.b,R.le⟩
 |exit i=>intro s x s' S _ R h;cases h;exact⟨S,rfl,R⟩
 |ret=>intro s x s' S _ R h;cases h;exact⟨S,rfl,R⟩
 |newrow sz t=>
  intro s x s' S hc R h;simp only[fg]at h⊢;rw[R.e,kV];split at h
  ·rename_i hv;rw[hv];simp only[V.sh];split at h
   ·rename_i hs;cases h;refine⟨⟨(t,V.row S.h.length 0)::rq σ s.e,S.h++[Ob.row sz []],S.b⟩,by rw[ay hs],?_,R.h.snoc hm (.row sz []),R.b,R.le⟩;rw[R.h.len];rfl
   ·cases h
  ·cases h
 |bindrow sz t off=>
  intro s x s' S hc R h;simp only[fg]at h⊢;rw[R.e,kV];split at h
  ·rename_i id oo hv;rw[hv];simp only[V.sh,R.h.get? hm];split at h
   ·rename_i c hc1;rw[hc1];simp only[aI,Ob.sh,uw];split at h
    ·rename_i hnil;rw[hnil];simp only[aI,V.sh,R.b,hm.le];split at h
     ·rename_i hcond;cases h;refine⟨⟨rq σ s.e,S.h.set (σ id) (.box ((fM σ c).set (oo+off) (.row S.h.length 0)))++[Ob.row sz []],σ s.b⟩,by rw[ay hcond],rfl,?_,rfl,R.le⟩;have hid:=(az.1 hc1).1;have:=(R.h.set hm hid (.box (c.set (oo+off) (.row s.h.length 0)))).snoc hm (.row sz []);have e:Ob.sh σ (.box (c.set (oo+off) (.row s.h.length 0)))= .box ((fM σ c).set (oo+off) (.row S.h.length 0)):=by
       rw[Ob.sh,hH,hH,List.map_set,R.h.len];rfl
      rw[e]at this;exact this
     ·cases h
    ·cases h
   ·cases h
  ·cases h
 |mkrow sz=>
  intro s x s' S hc R h;simp only[fg]at h⊢;split at h
  ·rename_i hs;cases h;exact⟨⟨S.e,S.h++[Ob.row sz []],S.b⟩,by rw[ay hs],R.e,R.h.snoc hm (.row sz []),R.b,R.le⟩
  ·cases h
 |bindto t off k=>
  intro s x s' S hc R h;simp only[fg]at h⊢;rw[R.e,kV];split at h
  ·rename_i id oo hv;rw[hv];simp only[V.sh,R.h.get? hm];split at h
   ·rename_i c hc1;rw[hc1];simp only[aI,Ob.sh,uw];split at h
    ·rename_i sz hnil hrow;split at h
     ·rename_i hcond;cases h;have hid:=(az.1 hc1).1;have t1:=hm.top (id - n);have t2:=hm.top (id - k - n);have hle:=R.le;rw[show n+(id - n)=id by omega]at t1;rw[show n+(id - k - n)=id - k by omega]at t2;have e1:σ id - k=σ (id - k):=om;have e2:(S.h[σ id - k]?)=some (.row sz []):=by rw[e1,R.h.get? hm,hrow];rfl
      rw[hnil,e2];simp only[aI,V.sh];rw[ay ⟨hcond.1,om,by rw[R.b,e1];exact hm.le.2 hcond.2.2⟩];refine⟨⟨rq σ s.e,S.h.set (σ id) (.box ((fM σ c).set (oo+off) (.row (σ id - k) 0))),S.b⟩,rfl,rfl,?_,R.b,R.le⟩;have:=R.h.set hm hid (.box (c.set (oo+off) (.row (id - k) 0)));have e:Ob.sh σ (.box (c.set (oo+off) (.row (id - k) 0)))= .box ((fM σ c).set (oo+off) (.row (σ id - k) 0)):=by
       rw[Ob.sh,hH,hH,List.map_set,e1];rfl
      rw[e]at this;exact this
     ·cases h
    ·cases h
   ·cases h
  ·cases h
 |freeze t=>
  intro s x s' S hc R h;simp only[fg]at h⊢;rw[R.e,kV];split at h
  ·rename_i id o1 l1 hv;rw[hv];simp only[V.sh,R.h.get? hm];split at h
   ·rename_i c hc1;rw[hc1];simp only[aI,Ob.sh,FO];split at h
    ·rename_i ds hds;cases h;exact⟨⟨rq σ s.e,S.h.set (σ id) (.frz ds),S.b⟩,rfl,rfl,R.h.set hm (az.1 hc1).1 (.frz ds),R.b,R.le⟩
    ·cases h
   ·cases h
  ·rename_i id len hv;rw[hv];simp only[V.sh,R.h.get? hm];split at h
   ·rename_i sz l ho1;rw[ho1];simp only[aI,Ob.sh];split at h
    ·rename_i hl;cases h;exact⟨⟨(t,V.d (.sl l))::rq σ s.e,S.h,S.b⟩,by rw[ay hl],rfl,R.h,R.b,R.le⟩
    ·cases h
   ·cases h
  ·cases h
omit hm in
theorem lH (a:List V):cJ (fM σ a)=rq σ (cJ a):=by
 unfold cJ rq;rw[mJ,cV];apply bJ;intro i hi;simp only[dh];rw[av,av,uw];cases a[i]? <;>rfl
theorem Gq {e:Env} {h H:Hp} (R:HR σ n HB h H):∀ {l:List sK} {vs:List V},jC e h l=some vs->jC (rq σ e) H l=some (fM σ vs)
 |[],vs,hv=>by cases hv;rfl
 |r::l,vs,hv=>by
  simp only[jC]at hv⊢;have one:∀ v,Aw e h r=some v->Aw (rq σ e) H r=some (v.sh σ):=by
   intro v h1;cases r with
   |tmp t=>cases h1;simp only[Aw,kV]
   |cell t k=>
    simp only[Aw]at h1⊢;have:=Ff hm (cx:=⟨fun _=>[],fun _=>none⟩) (o:=fun _ _ _=>none) (o':=fun _ _ _=>none) (e:=e) (fun _ _ _ _ _ _ _ hh=>by cases hh) (op:= .ld k (.t t)) (b:=n) (r:=v) (h':=h) rfl (ai _) R (by simp only[bn,di,h1,aI]);obtain⟨H',h2,_⟩:=this;simp only[bn,di]at h2;obtain⟨q,hq,he⟩:=aj.1 h2;cases he;exact hq
  cases h1:Aw e h r with
  |none=>rw[h1]at hv;cases hv
  |some v=>
   cases h2:jC e h l with
   |none=>rw[h1,h2]at hv;cases hv
   |some ws=>
    rw[h1,h2]at hv;cases hv;rw[one v h1,Gq R h2];rfl
omit hm in
theorem GO (l:List V):oneOf (fM σ l)=(oneOf l).sh σ:=by
 match l with
 |[]=>rfl
 |[v]=>rfl
 |a::b::r=>rfl
theorem wZ {vf:kK} {h0:Nat} {s S:St} (hn:n<=h0) (R:SR σ n HB s S) {r:V} {h':Hp} (h:leave vf h0 s=some (r,h')):∃ H',leave vf (σ h0) S=some (r.sh σ,H')/\HR σ n HB h' H':=by
 unfold leave at h⊢;split at h
 ·cases h
 ·rename_i vs hvs;rw[R.e,Gq hm R.h hvs];simp only at h⊢;split at h
  ·rename_i hk;cases h;exact⟨_,by rw[ay hk,GO],R.h⟩
  ·rename_i hk;rw[aA hk];have e1:(fM σ vs).map (toArg S.h)=fM σ (vs.map (toArg s.h)):=by
    rw[hH,hH,cV,cV];apply bJ;intro v _;exact F9 hm R.h v
   rw[e1,pM hm];split at h
   ·rename_i hu;cases h;exact⟨_,by rw[ay hu,GO],R.h.take hm hn⟩
   ·cases h
end
structure ud (pg:Pg):Prop where
 prim:∀ f F,pg.my f=some (.prim F)->∀ a h r h',F a h=some (r,h')->br 0 a=true/\r.und 0=true/\h'=h/\∀ H,F a H=some (r,H)
 code:∀ f vf,pg.my f=some (.code vf)->vf.body.cst=true
theorem JH {m:Nat} {l:List V} (h:br m l=true):(oneOf l).und m=true:=by
 match l,h with
 |[],_=>rfl
 |[v],h=>simp only[br,bo]at h;exact h
 |a::b::r,h=>exact h
theorem Dr {vf:kK} {h0:Nat} {s:St} {r:V} {h':Hp} (hk:vf.keep=false) (h:leave vf h0 s=some (r,h')):r.und h0=true:=by
 unfold leave at h;split at h
 ·cases h
 ·simp only[hk]at h;split at h
  ·rename_i hf;cases hf
  ·split at h
   ·rename_i hu;cases h;exact JH hu
   ·cases h
structure ki (pg:Pg):Prop where
 prim:∀ f F,pg.my f=some (.prim F)->∀ {σ:Nat->Nat} {n:Nat} {HB:Hp},Mv σ n HB->∀ a h r h' H,HR σ n HB h H->F a h=some (r,h')->∃ H',F (fM σ a) H=some (r.sh σ,H')/\HR σ n HB h' H'
 code:∀ f vf,pg.my f=some (.code vf)->vf.body.cst=true
theorem ud.toH {pg:Pg} (hp:ud pg):ki pg:=⟨fun f F ht σ n HB _ a h r h' H R hh=>by
  obtain⟨a1,a2,rfl,a4⟩:=hp.prim f F ht a h r h' hh;exact⟨H,by rw[lO a a1,uu r a2];exact a4 H,R⟩,hp.code⟩
theorem KG {pg:Pg} (hp:ki pg) {σ:Nat->Nat} {n:Nat} {HB:Hp} (hm:Mv σ n HB):∀ k,V1 σ n HB (ic pg k) (ic pg k)/\LSh σ n HB (nP pg k) (nP pg k)
 |0=>⟨fun f a h r h' H _ hh=>(nomatch ((mV pg _ _ _).symm.trans hh)),fun ks c s x s' S _ _ hh=>(nomatch ((oO pg _ _ _).symm.trans hh))⟩
 |k+1=>by
  obtain⟨h1,h2⟩:=KG hp hm k;refine⟨fun f a h r h' H R hh=>?_,fun ks c s x s' S hc R hh=>?_⟩
  ·rw[j5,qB]at hh⊢;split at hh
   ·cases hh
   ·rename_i F ht;exact hp.prim f F ht hm a h r h' H R hh
   ·rename_i vf ht;show ∃ H',(if(fM σ a).length=vf.np then _ else none)=_/\_;rw[mJ];split at hh
    ·rename_i hl;rw[ay hl];have hu0:=qx (σ:=σ) a;cases hb:(br 0 a && !vf.keep)with
     |true=>
      rw[hb]at hh;simp only[ab]at hb;rw[lO a hb.1,hb.1,hb.2];simp only[bare,cF]at hh⊢;obtain⟨q,hq,he⟩:=aj.1 hh;cases he;rw[hq];refine⟨H,?_,R⟩;have hk:vf.keep=false:=by simpa using hb.2
      have:q.1.und 0=true:=by
       split at hq
       ·exact Dr hk hq
       ·exact Dr hk hq
       ·cases hq
      rw[uu _ this];rfl
     |false=>
      rw[hb]at hh;simp only[bare]at hh;have hrun:∀ {q:V×Hp},(match fg pg.toCx (ic pg k) (nP pg k) vf.body ⟨cJ a,h,h.length⟩with
          |some (.dN,s)|some (.ret,s)=>leave vf h.length s
          |_=>none)=some q->∃ H',(match fg pg.toCx (ic pg k) (nP pg k) vf.body ⟨cJ (fM σ a),H,H.length⟩with
          |some (.dN,s)|some (.ret,s)=>leave vf H.length s
          |_=>none)=some (q.1.sh σ,H')/\HR σ n HB q.2 H':=by
        intro q hq;cases hx:fg pg.toCx (ic pg k) (nP pg k) vf.body ⟨cJ a,h,h.length⟩with
        |none=>rw[hx]at hq;cases hq
        |some y=>
         obtain⟨x,s1⟩:=y;obtain⟨S1,e1,R1⟩:=Kc hm h1 h2 (hp.code f vf ht) (S:=⟨cJ (fM σ a),H,H.length⟩) ⟨lH a,R,R.len,R.le⟩ hx;rw[hx]at hq;rw[e1,R.len];cases x with
         |dN=>exact wZ hm R.le R1 hq
         |ret=>exact wZ hm R.le R1 hq
         |exit i=>cases hq
      rw[hu0,hb];exact hrun hh
    ·cases hh
  ·rw[mP]at hh⊢;exact Kc hm h1 h2 (c:= .loop ks c) hc R hh
theorem p8 {pg:Pg} (hp:ki pg) {σ:Nat->Nat} {n:Nat} {HB:Hp} (hm:Mv σ n HB) {f:Nat} {a:List V} {h h' H:Hp} {r:V} (R:HR σ n HB h H) (hh:cv pg f a h=some (r,h')):∃ H',cv pg f (fM σ a) H=some (r.sh σ,H')/\HR σ n HB h' H':=by
 obtain⟨k,hk⟩:=jG.1 hh;obtain⟨H',h1,h2⟩:=(KG hp hm k).1 _ _ _ _ _ _ R hk;exact⟨H',J8 pg k _ _ _ _ h1,h2⟩
mutual
theorem PJ {σ:Nat->Nat} {n:Nat} (hσ:∀ i,i < n->σ i=i):∀ v:V,v.und n=true->v.sh σ=v
 | .agg l,h=>by rw[V.sh,pS hσ l (by simpa only[V.und] using h)]
 | .tup l,h=>by rw[V.sh,pS hσ l (by simpa only[V.und] using h)]
 | .fn f l,h=>by rw[V.sh,pS hσ l (by simpa only[V.und] using h)]
 | .fm f l,h=>by rw[V.sh,pS hσ l (by simpa only[V.und] using h)]
 | .row _ _,h=>by simp only[V.und,an]at h;rw[V.sh,hσ _ h]
 | .arr _ _ _,h=>by simp only[V.und,an]at h;rw[V.sh,hσ _ h]
 | .ptr _ _,h=>by simp only[V.und,an]at h;rw[V.sh,hσ _ h]
 | .mp _,h=>by simp only[V.und,an]at h;rw[V.sh,hσ _ h]
 | .d _,_=>rfl
 | .nils,_=>rfl
 | .ro _ _,_=>rfl
 | .nul,_=>rfl
 | .nof,_=>rfl
 | .ifc _,_=>rfl
 | .raw _,_=>rfl
 | .nmp,_=>rfl
 | .nile,_=>rfl
 | .undef,_=>rfl
theorem pS {σ:Nat->Nat} {n:Nat} (hσ:∀ i,i < n->σ i=i):∀ l:List V,br n l=true->fM σ l=l
 |[],_=>rfl
 |v::r,h=>by
  simp only[br,ab]at h;rw[fM,PJ hσ v h.1,pS hσ r h.2]
end
theorem K9 {σ:Nat->Nat} {n:Nat} (hσ:∀ i,i < n->σ i=i):∀ {h:Hp},fW n h=true->∀ o∈h,o.sh σ=o
 |[],_,o,ho=>by cases ho
 |p::l,hh,o,ho=>by
  rcases bs.1 ho with rfl|ho
  ·cases o with
   |box c=>simp only[fW,ab]at hh;rw[Ob.sh,pS hσ c hh.1]
   |_=>rfl
  ·refine K9 hσ (h:=l) ?_ o ho;cases p<;>simp only[fW,ab]at hh<;>first|exact hh|exact hh.2
theorem Bp {pg:Pg} (hp:ki pg) {f:Nat} {a:List V} {h h' X:Hp} {r:V} (hh:cv pg f a h=some (r,h')) (ha:br h.length a=true) (h1:fW h.length h=true) (hl:h'.length=h.length) (h2:fW h.length h'=true) (hr:r.und h.length=true):cv pg f a (h++X)=some (r,h'++X):=by
 let σ:Nat->Nat:=fun i=>if i < h.length then i else i+X.length
 have hσ:∀ i,i < h.length->σ i=i:=fun i hi=>ay hi;have hm:Mv σ h.length (h++X):=by
  constructor
  ·intro i j hij;show(if i < h.length then i else i+X.length) < (if j < h.length then j else j+X.length);split<;>split<;>omega
  ·intro j;show(if h.length+j < h.length then h.length+j else h.length+j+X.length)=_;rw[aA om,ah];omega
 have hlen:∀ k:Hp,k.length=h.length->σ k.length=h.length+X.length:=by
  intro k hk;show(if k.length < h.length then k.length else k.length+X.length)=_;rw[hk,aA om]
 have R:HR σ h.length (h++X) h (h++X):=by
  refine⟨ai _,by rw[hlen h rfl,ah],fun i o ho=>?_,fun _ _ _=>rfl⟩;have hi:=(az.1 ho).1;rw[hσ i hi,aD hi,K9 hσ h1 o (aT ho)];exact ho
 obtain⟨H',e1,R'⟩:=p8 hp hm R hh;rw[pS hσ a ha,PJ hσ r hr]at e1;rw[e1];congr 2;apply fa;intro j;by_cases hj:j < h.length
 ·have:=R'.get? hm j;rw[hσ j hj]at this;rw[this,aD om];cases ho:h'[j]? with
  |none=>rfl
  |some o=>simp only[aI];rw[K9 hσ h2 o (aT ho)]
 ·rw[aK om,hl];by_cases hx:j < (h++X).length
  ·rw[R'.out j hx (fun i hi e=>by rw[hσ i hi]at e;omega),aK om]
  ·rw[ah]at hx;rw[bM (by rw[R'.len,hlen h' hl];omega),bM om]
def sT (ps:List Nat) (m:Nat) (i:Nat):Nat:=if i < ps.length then ps.getD i 0 else m+(i - ps.length)
def vG (X:Hp) (ps:List Nat) (h:Hp):Hp:=(ps.zip h).foldl (fun X p=>X.set p.1 p.2) X
def getAll (X:Hp) (ps:List Nat):List (Option Ob):=ps.map fun p=>X[p]?
def incr (m:Nat):List Nat->Bool
 |[]=>true
 |[a]=>decide (a < m)
 |a::b::r=>decide (a < b) && incr m (b::r)
theorem Mb {m:Nat}:∀ {ps:List Nat},incr m ps=true->(∀ i,i < ps.length->ps.getD i 0 < m)/\∀ i j,i < j->j < ps.length->ps.getD i 0 < ps.getD j 0
 |[],_=>⟨fun i hi=>by simp at hi,fun i j _ hj=>by simp at hj⟩
 |[a],h=>⟨fun i hi=>by
    have:i=0:=by simp at hi;omega
    subst this;simpa [incr] using h,fun i j _ hj=>by simp at hj;omega⟩
 |a::b::r,h=>by
  simp only[incr,ab,an]at h;obtain⟨h1,h2⟩:=Mb h.2;refine⟨fun i hi=>?_,fun i j hij hj=>?_⟩
  ·cases i with
   |zero=>have:=h1 0 (by simp);simp at this⊢;omega
   |succ i=>simpa using h1 i (by simpa using hi)
  ·cases j with
   |zero=>omega
   |succ j=>
    cases i with
    |zero=>
     cases j with
     |zero=>simpa using h.1
     |succ j=>
      have:=h2 0 (j+1) om (by simpa using hj);simp at this⊢;omega
    |succ i=>simpa using h2 i j om (by simpa using hj)
theorem Ao:∀ {ps:List Nat} {h X:Hp},h.length=ps.length->(∀ i j,i < j->j < ps.length->ps.getD i 0 < ps.getD j 0)->(∀ i,i < ps.length->ps.getD i 0 < X.length)->(vG X ps h).length=X.length/\(∀ i,i < ps.length->(vG X ps h)[ps.getD i 0]? =h[i]?)/\∀ j,(∀ i,i < ps.length->ps.getD i 0≠j)->(vG X ps h)[j]? =X[j]?
 |[],h,X,_,_,_=>⟨rfl,fun i hi=>by simp at hi,fun j _=>rfl⟩
 |a::r,[],X,hl,_,_=>by simp at hl
 |a::r,o::h,X,hl,hi,hx=>by
  have e:vG X (a::r) (o::h)=vG (X.set a o) r h:=rfl;obtain⟨h1,h2,h3⟩:=Ao (ps:=r) (h:=h) (X:=X.set a o) (by simpa using hl) (fun i j h4 h5=>by simpa using hi (i+1) (j+1) om (by simpa using h5)) (fun i h4=>by simpa using hx (i+1) (by simpa using h4));have ha:a < X.length:=by simpa using hx 0 (by simp)
  rw[e];refine⟨by rw[h1,cX],fun i hlt=>?_,fun j hj=>?_⟩
  ·cases i with
   |zero=>
    have:∀ i,i < r.length->r.getD i 0≠a:=fun i h4=>by have:=hi 0 (i+1) om (by simpa using h4);simp at this;simp;omega
    have:=h3 a this;simp only[fR,aV];rw[this,bu ha]
   |succ i=>simpa using h2 i (by simpa using hlt)
  ·rw[h3 j (fun i h4=>by simpa using hj (i+1) (by simpa using h4)),aX (by simpa using hj 0 (by simp))]
theorem VA {pg:Pg} (hp:ki pg) (ps:List Nat) {f:Nat} {a A:List V} {h h' X:Hp} {r:V} (hh:cv pg f a h=some (r,h')) (hi:incr X.length ps=true) (hl:h.length=ps.length) (hA:fM (sT ps X.length) a=A) (hX:getAll X ps=h.map fun o=>some (o.sh (sT ps X.length))) (hl':h'.length=ps.length):
    cv pg f A X=some (r.sh (sT ps X.length),vG X ps (h'.map (Ob.sh (sT ps X.length)))):=by
  obtain⟨i1,i2⟩:=Mb hi;have hσ:∀ i,i < ps.length->sT ps X.length i=ps.getD i 0:=fun i h=>ay h;have hm:Mv (sT ps X.length) ps.length X:=by
   constructor
   ·intro i j hij;unfold sT;by_cases hj:j < ps.length
    ·rw[ay om,ay hj];exact i2 i j hij hj
    ·by_cases h2:i < ps.length
     ·rw[ay h2,aA hj];have:=i1 i h2;omega
     ·rw[aA h2,aA hj];omega
   ·intro j;unfold sT;rw[aA om];omega
  have htop:sT ps X.length ps.length=X.length:=by unfold sT;rw[aA om];omega
  have hgx:∀ i,i < ps.length->X[ps.getD i 0]? =(h[i]?).map (Ob.sh (sT ps X.length)):=by
   intro i hlt;have hi2:i < h.length:=om;have:=aG (·[i]?) hX;simp only[getAll,bE]at this;rw[ae hlt,ae hi2]at this;simp only[aI,aa]at this;rw[av,ae hlt,ae hi2];exact this
  have R:HR (sT ps X.length) ps.length X h X:=by
   refine⟨om,by rw[hl,htop],fun i o ho=>?_,fun _ _ _=>rfl⟩;have hlt:=(az.1 ho).1;rw[hσ i om,hgx i om,ho];rfl
  obtain⟨H',e1,R'⟩:=p8 hp hm R hh;rw[hA]at e1;rw[e1];congr 2;obtain⟨s1,s2,s3⟩:=Ao (ps:=ps) (h:=h'.map (Ob.sh (sT ps X.length))) (X:=X) (by rw[aE,hl']) i2 i1;apply fa;intro j;by_cases hj:∃ i,i < ps.length/\ps.getD i 0=j
  ·obtain⟨i,h1,rfl⟩:=hj;rw[s2 i h1,<-hσ i h1,R'.get? hm,bE]
  ·rw[s3 j (fun i h1 e=>hj ⟨i,h1,e⟩)];by_cases hx:j < X.length
   ·exact R'.out j hx fun i h1 e=>hj ⟨i,h1,by rw[<-hσ i h1];exact e⟩
   ·rw[bM (by rw[R'.len,hl',htop];omega),bM om]
theorem Zx {pg:Pg} (hp:ud pg) {σ:Nat->Nat} {n:Nat} {HB:Hp} (hm:Mv σ n HB) {f:Nat} {a:List V} {h h' H:Hp} {r:V} (R:HR σ n HB h H) (hh:cv pg f a h=some (r,h')):∃ H',cv pg f (fM σ a) H=some (r.sh σ,H')/\HR σ n HB h' H':=p8 hp.toH hm R hh
theorem Fh {pg:Pg} (hp:ud pg) {f:Nat} {a:List V} {h h' X:Hp} {r:V} (hh:cv pg f a h=some (r,h')) (ha:br h.length a=true) (h1:fW h.length h=true) (hl:h'.length=h.length) (h2:fW h.length h'=true) (hr:r.und h.length=true):cv pg f a (h++X)=some (r,h'++X):=Bp hp.toH hh ha h1 hl h2 hr
theorem Zy {pg:Pg} (hp:ud pg) (ps:List Nat) {f:Nat} {a A:List V} {h h' X:Hp} {r:V} (hh:cv pg f a h=some (r,h')) (hi:incr X.length ps=true) (hl:h.length=ps.length) (hA:fM (sT ps X.length) a=A) (hX:getAll X ps=h.map fun o=>some (o.sh (sT ps X.length))) (hl':h'.length=ps.length):
    cv pg f A X=some (r.sh (sT ps X.length),vG X ps (h'.map (Ob.sh (sT ps X.length)))):=VA hp.toH ps hh hi hl hA hX hl'
def Wl (P:Program) (o:Op):ij:=(ny P o).getD .no
def TQ (P:Program) (ops:Array Oper) (o:Oper):Option aL:=
 match o.guard with
 |none=>some ⟨o.dst,Rf (YT ops.toList o) (Wl P o.op),none⟩
 |some (j,b)=>match(ops[j]?).bind (·.dst)with
  |some s=>some ⟨o.dst,Rf (YT ops.toList o) (Wl P o.op),some (s,b)⟩
  |none=>none
def F3 (P:Program) (ops:Array Oper):List Oper->Option (List aL)
 |[]=>some []
 |o::r=>match TQ P ops o,F3 P ops r with|some v,some vs=>some (v::vs)|_,_=>none
def Wj (P:Program) (A:vb):Code->Option aU
 | .skip=>some .skip
 | .label _=>some .skip
 | .region id ops draw=>match F3 P ops ops.toList with
   |none=>none
   |some vs=>if draw then some (jO (A.ghost id) (.draw (RS ops.toList) vs)) else some (jO (A.ghost id) (.reg vs))
 | .seq a b=>match Wj P A a,Wj P A b with|some x,some y=>some (.seq x y)|_,_=>none
 | .cond c a b=>match iq c,Wj P A a,Wj P A b with|some c,some x,some y=>some (.cond c x y)|_,_,_=>none
 | .block id b=>(Wj P A b).map (.block id)
 | .loop b=>(Wj P A b).map fun v=>jO (vU A b) (.loop ((nU b).elim [] A.keep) v)
 | .scope b=>(Wj P A b).map .scope
 | .exit id=>some (.exit id)
 | .ret=>some .ret
 |_=>none
def a4h (P:Program) (A:vb) (keep:Bool) (fn:Func):Option kK:=
 match fn.body with
 |none=>none
 |some c=>match Wj P A c,qz P fn.results.toList with
  |some b,some rs=>some ⟨fn.params.size+fn.nfree,fn.ntmps,b,rs,keep⟩
  |_,_=>none
theorem a7q (n:Nat) (h:n < 256):UInt8.ofBitVec (BitVec.ofFin ⟨n,h⟩)=UInt8.ofNat n:=UInt8.toNat_inj.1 (Nat.mod_eq_of_lt h).symm
structure Laid (P:Program) (A:vb) (keep:Bool) (fn:Func) where
 F:kK
 eq:a4h P A keep fn=some F
abbrev laid {P:Program} {A:vb} {k:Bool} {fn:Func} (x:Laid P A k fn:=by refine⟨?F,?h⟩;case h=>((conv=>lhs;reduce;(try simp only[a7q,UInt8.reduceOfNat,Int.reduceNegSucc,Int.reduceOfNat]));try rfl)):Laid P A k fn:=x
abbrev AA (k:List (Nat×List Nat)) (g:List (Nat×List aU)):vb:=⟨fun i=>((k.find? (·.1==i)).map (·.2)).getD [],fun i=>((g.find? (·.1==i)).map (·.2)).getD []⟩
structure wq {P:Program} {A:vb} {k:Bool} {fn:Func} (i:Nat) (q:Laid P A k fn):Prop where
 tr:vB P A q.F.keep fn=some q.F:=by kernel_rfl
 ok:q.F.ok=true:=by kernel_rfl
 cst:q.F.body.cst=true:=by kernel_rfl
 name:(fn.name== "runtime.NumGoroutine")=false:=by kernel_rfl
structure a0w (P:Program) where
 n:Nat
 fn:Func
 A:vb
 F:kK
 get:P.funcs[n]? =some fn
 tr:vB P A F.keep fn=some F
 ok:F.ok=true
 cst:F.body.cst=true
 name:(fn.name== "runtime.NumGoroutine")=false
noncomputable abbrev ent {P:Program} {n:Nat} {fn:Func} (h:P.funcs[n]? =some fn) (A:vb:=AA [] []) (k:Bool:=false) (x:Laid P A k fn:=by exact laid) (q:wq n x:=by exact{}):a0w P:=⟨n,fn,A,x.F,h,q.tr,q.ok,q.cst,q.name⟩
def CV {P:Program} (L:List (a0w P)) (F:Nat->Option dF) (i:Nat):Option dF:=match L.find? fun q=>q.n==i with
  |some q=>some (.code q.F)
  |none=>F i
theorem wJ {P:Program} {L:List (a0w P)} {F:Nat->Option dF} {f:Nat} {e:dF} (h:CV L F f=some e):(∃ q:a0w P,q.n=f/\e= .code q.F)\/F f=some e:=by
 unfold CV at h;split at h
 ·rename_i q hq;exact .inl ⟨q,eq_of_beq (List.find?_some (p:=fun q:a0w P=>q.n==f) hq),(Option.some.inj h).symm⟩
 ·exact .inr h
theorem a4m {P:Program} {L:List (a0w P)} {F:Nat->Option dF} (cx:Cx) (hF:∀ f e,F f=some e->match e with| .prim p=> ∀ args H r H',p args H=some (r,H')->dw P cx f args H r H'| .code _=>False):eS P ⟨cx,CV L F⟩:=by
  intro f e h;rcases wJ h with⟨q,rfl,rfl⟩|h
  ·exact⟨q.fn,q.A,q.get,q.name,q.tr,q.ok⟩
  ·have:=hF f e h;split
   ·exact this
   ·exact absurd this id
section
variable (pg:Pg)
def blk (id:Nat) (r:Option (Ex×St)):Option (Ex×St):=
 match r with
 |some (.exit i,s)=>if i=id then some (.dN,s) else some (.exit i,s)
 |r=>r
def cnd (v:V) (x y:Option (Ex×St)):Option (Ex×St):=
 match v with
 | .d (.bool t)=>if t then x else y
 |_=>none
def dN (r:Option St):Option (Ex×St):=r.map fun s=>(.dN,s)
def nwr (sz t:Nat) (s:St) (v:V):Option (Ex×St):=match v with
 | .nils=>if 0 < sz then some (.dN,⟨(t,.row s.h.length 0)::s.e,s.h++[.row sz []],s.b⟩) else none
 |_=>none
@[simp] theorem QO (sz t:Nat) (s:St):nwr sz t s .nils=if 0 < sz then some (.dN,⟨(t,.row s.h.length 0)::s.e,s.h++[.row sz []],s.b⟩) else none:=rfl
def Yc (b:Nat) (r:Option (Ex×St)) (k:St->Option (Ex×St)):Option (Ex×St):=
 match r with
 |some (.dN,s)=>k s
 |some (x,s)=>some (x,⟨s.e,s.h,b⟩)
 |none=>none
@[simp] theorem Ed (b:Nat) (s:St) (k):Yc b (some (.dN,s)) k=k s:=rfl
@[simp] theorem a5o (b i:Nat) (s:St) (k):Yc b (some (.exit i,s)) k=some (.exit i,⟨s.e,s.h,b⟩):=rfl
@[simp] theorem b1r (b:Nat) (s:St) (k):Yc b (some (.ret,s)) k=some (.ret,⟨s.e,s.h,b⟩):=rfl
@[simp] theorem b1s (b:Nat) (c:Prop) [Decidable c] (x y) (k):Yc b (if c then x else y) k=if c then Yc b x k else Yc b y k:=by split<;>rfl
@[simp] theorem Jc (s:St) (k):sq (some (.dN,s)) k=k s:=rfl
@[simp] theorem Eb (i:Nat) (s:St) (k):sq (some (.exit i,s)) k=some (.exit i,s):=rfl
@[simp] theorem Jb (s:St) (k):sq (some (.ret,s)) k=some (.ret,s):=rfl
@[simp] theorem b1q (k):sq none k=none:=rfl
@[simp] theorem sq_ite (c:Prop) [Decidable c] (x y) (k):sq (if c then x else y) k=if c then sq x k else sq y k:=by split<;>rfl
@[simp] theorem Mz (id:Nat) (s:St):blk id (some (.dN,s))=some (.dN,s):=rfl
@[simp] theorem My (id:Nat) (s:St):blk id (some (.ret,s))=some (.ret,s):=rfl
@[simp] theorem a9p (id:Nat):blk id none=none:=rfl
@[simp] theorem xG (id i:Nat) (s:St):blk id (some (.exit i,s))=if i=id then some (.dN,s) else some (.exit i,s):=rfl
@[simp] theorem b2w (id:Nat) (c:Prop) [Decidable c] (x y):blk id (if c then x else y)=if c then blk id x else blk id y:=by split<;>rfl
@[simp] theorem pA (t:Bool) (x y):cnd (.d (.bool t)) x y=if t then x else y:=rfl
@[simp] theorem a6x (s:St):dN (some s)=some (.dN,s):=rfl
@[simp] theorem a6y:dN none=none:=rfl
@[simp] theorem b2g (s:St):ev pg .skip s=some (.dN,s):=rfl
@[simp] theorem b2h (i:Nat) (s:St):ev pg (.exit i) s=some (.exit i,s):=rfl
@[simp] theorem ev_ret (s:St):ev pg .ret s=some (.ret,s):=rfl
@[simp] theorem qo (a b:aU) (s:St):ev pg (.seq a b) s=sq (ev pg a s) (ev pg b):=rfl
@[simp] theorem rY (c:eo) (a b:aU) (s:St):ev pg (.cond c a b) s=cnd (di pg.toCx s.e c) (ev pg a s) (ev pg b s):=rfl
@[simp] theorem nV (id:Nat) (b:aU) (s:St):ev pg (.block id b) s=blk id (ev pg b s):=rfl
@[simp] theorem R8 (b:aU) (s:St):ev pg (.scope b) s=ev pg b s:=rfl
@[simp] theorem N4 (sz t:Nat) (s:St):ev pg (.newrow sz t) s=nwr sz t s (bP s.e t):=rfl
noncomputable def OJ (ops:List aL) (s:St):Option St:=bQ pg.toCx (cv pg) ops s
noncomputable def Zz (m:Nat) (ops:List aL) (s:St):Option St:=eC pg.toCx (cv pg) m ops s
noncomputable def r5 (o:ij) (s:St):Option (V×Hp):=bn pg.toCx (cv pg) s.b s.e s.h o
@[simp] theorem Bo (ops:List aL) (s:St):ev pg (.reg ops) s=dN (OJ pg ops s):=rfl
theorem Fc {m:Nat} {ops:List aL} {s r:St} (h:Zz pg m ops s=some r):ev pg (.draw m ops) s=some (.dN,r):=by
 show(l8 pg.toCx (cv pg) m ops s).map _=_;rw[Se h];rfl
theorem p7 (k:List Nat) (b:aU) (s:St):ev pg (.loop k b) s=Yc s.b (ev pg b ⟨dU k s.e,s.h,s.h.length⟩) (fun s'=>ev pg (.loop k b) ⟨cut s.h.length (dU k s'.e),s'.h.take s.h.length,s.b⟩):=by
  conv=>lhs;simp only[ev,fg]
  rw[ev];cases hx:fg pg.toCx (cv pg) (OK pg) b ⟨dU k s.e,s.h,s.h.length⟩with
  |none=>rfl
  |some q=>obtain⟨x,s'⟩:=q;cases x<;>first|rfl|exact Zw ..
@[simp] theorem Ha (dst:Option Nat) (e:Env) (b:Nat) (v:V) (h:Hp):lay dst e b (some (v,h))=some ⟨fT dst v e,h,b⟩:=rfl
@[simp] theorem a7p (dst:Option Nat) (e:Env) (b:Nat):lay dst e b none=none:=rfl
@[simp] theorem Vn (b:Bool) (dst:Option Nat) (s:St) (r):grd (.tup []) b dst s r=some ⟨fT dst (.tup []) s.e,s.h,s.b⟩:=rfl
@[simp] theorem Ho (t b:Bool) (dst:Option Nat) (s:St) (r):grd (.d (.bool t)) b dst s r=if t=b then lay dst s.e s.b r else some ⟨fT dst (.tup []) s.e,s.h,s.b⟩:=rfl
def bnd (r:Option St) (k:St->Option St):Option St:=r.bind k
@[simp] theorem a9m (s:St) (k):bnd (some s) k=k s:=rfl
@[simp] theorem a9n (k):bnd none k=none:=rfl
@[simp] theorem b2v (c:Prop) [Decidable c] (x y) (k):bnd (if c then x else y) k=if c then bnd x k else bnd y k:=by split<;>rfl
@[simp] theorem b1z (c:Prop) [Decidable c] (x y):dN (if c then x else y)=if c then dN x else dN y:=by split<;>rfl
@[simp] theorem b2i (s:St):OJ pg [] s=some s:=rfl
@[simp] theorem a8g (d:Option Nat) (o:ij) (r:List aL) (s:St):OJ pg (⟨d,o,none⟩::r) s=bnd (lay d s.e s.b (r5 pg o s)) (OJ pg r):=rfl
@[simp] theorem a2j (d:Option Nat) (o:ij) (g:Nat) (b:Bool) (r:List aL) (s:St):OJ pg (⟨d,o,some (g,b)⟩::r) s=bnd (grd (bP s.e g) b d s (r5 pg o s)) (OJ pg r):=rfl
@[simp] theorem a2g (k i:Nat) (v:V) (r:Env):bP ((k,v)::r) i=if k=i then v else bP r i:=rfl
@[simp] theorem a8a (i:Nat):bP [] i= .undef:=rfl
@[simp] theorem a1m (d:Nat) (v:V) (e:Env):fT (some d) v e=(d,v)::e:=rfl
@[simp] theorem a1n (v:V) (e:Env):fT none v e=e:=rfl
@[simp] theorem evO_t (cx:Cx) (e:Env) (i:Nat):di cx e (.t i)=bP e i:=rfl
@[simp] theorem evO_c (cx:Cx) (e:Env) (v:V):di cx e (.c v)=v:=rfl
@[simp] theorem evO_f (cx:Cx) (e:Env) (i:Nat):di cx e (.f i)= .fn i []:=rfl
@[simp] theorem b1o (H:Hp) (x:D):toArg H (.d x)= .d x:=by simp[toArg,wu,im]
@[simp] theorem XJ (H:Hp):toArg H .nils= .d (.sl []):=by simp[toArg,wu,im]
@[simp] theorem a1g (H:Hp) (i o:Nat):toArg H (.ptr i o)= .ptr i o:=by simp[toArg,wu,im]
@[simp] theorem a4k (H:Hp) (f:Nat) (c:List V):toArg H (.fn f c)= .fn f c:=by simp[toArg,wu,im]
@[simp] theorem argV_d (H:Hp) (x:D):iX H (.d x)= .d x:=by simp[iX]
@[simp] theorem a3b (H:Hp):iX H .nils= .d (.sl []):=by simp[iX]
@[simp] theorem b0k (H:Hp) (i o:Nat):iX H (.ptr i o)= .ptr i o:=by simp[iX]
@[simp] theorem b2y (H:Hp) (f:Nat) (c:List V):iX H (.fn f c)= .fn f c:=by simp[iX]
@[simp] theorem und_d (n:Nat) (x:D):V.und n (.d x)=true:=rfl
@[simp] theorem und_fn (n f:Nat) (c:List V):V.und n (.fn f c)=br n c:=by simp[V.und]
@[simp] theorem b1g (n:Nat) (c:List V):V.und n (.tup c)=br n c:=by simp[V.und]
@[simp] theorem b1k (n:Nat) (c:List V):V.und n (.agg c)=br n c:=by simp[V.und]
@[simp] theorem und_ro (n:Nat) (l:List D) (o:Nat):V.und n (.ro l o)=true:=rfl
@[simp] theorem b1i (n:Nat):V.und n .nul=true:=rfl
@[simp] theorem a3t (n:Nat):V.und n .nils=true:=rfl
@[simp] theorem a1a (n:Nat):V.und n .undef=true:=rfl
@[simp] theorem b1h (n i o:Nat):V.und n (.ptr i o)=decide (i < n):=by simp[V.und]
@[simp] theorem und_row (n i o:Nat):V.und n (.row i o)=decide (i < n):=by simp[V.und]
@[simp] theorem b1j (n i o l:Nat):V.und n (.arr i o l)=decide (i < n):=by simp[V.und]
@[simp] theorem a3u (n:Nat):br n []=true:=rfl
@[simp] theorem a1b (n:Nat) (v:V) (l:List V):br n (v::l)=(v.und n && br n l):=by simp[br]
@[simp] theorem a2v (k:IntKind) (n:Int):(V.d (.int k n)).cells=[.d (.int k n)]:=rfl
@[simp] theorem Z2 (b:Bool):(V.d (.bool b)).cells=[.d (.bool b)]:=rfl
@[simp] theorem a2r (s:List UInt8):(V.d (.str s)).cells=[.d (.str s)]:=rfl
@[simp] theorem a9e (s:List D):(V.d (.sl s)).cells=[.d (.sl s)]:=rfl
@[simp] theorem Z1 (s:List D):(V.d (.agg s)).cells=s.map V.d:=rfl
@[simp] theorem a2w (s:List V):(V.agg s).cells=s:=rfl
@[simp] theorem Z0:V.nils.cells=[.nils]:=rfl
@[simp] theorem a2t (i o:Nat):(V.ptr i o).cells=[.ptr i o]:=rfl
@[simp] theorem a2s (i o:Nat):(V.row i o).cells=[.row i o]:=rfl
@[simp] theorem a9f (f:Nat) (c:List V):(V.fn f c).cells=[.fn f c]:=rfl
@[simp] theorem a2u:V.nul.cells=[.nul]:=rfl
@[simp] theorem ZS (k:IntKind) (n:Int):(D.int k n).cells=[.int k n]:=rfl
@[simp] theorem WY (b:Bool):(D.bool b).cells=[.bool b]:=rfl
@[simp] theorem ZR (s:List UInt8):(D.str s).cells=[.str s]:=rfl
@[simp] theorem a2p (s:List D):(D.sl s).cells=[.sl s]:=rfl
@[simp] theorem ZT (s:List D):(D.agg s).cells=s:=rfl
@[simp] theorem b1y (k:IntKind) (n:Int):(V.d (.int k n)).one=true:=rfl
@[simp] theorem a6s (b:Bool):(V.d (.bool b)).one=true:=rfl
@[simp] theorem b1u (s:List UInt8):(V.d (.str s)).one=true:=rfl
@[simp] theorem one_sl (s:List D):(V.d (.sl s)).one=true:=rfl
@[simp] theorem a6r:V.nils.one=true:=rfl
@[simp] theorem b1w (i o:Nat):(V.ptr i o).one=true:=rfl
@[simp] theorem b1v (i o:Nat):(V.row i o).one=true:=rfl
@[simp] theorem one_fn (f:Nat) (c:List V):(V.fn f c).one=true:=rfl
@[simp] theorem b1x:V.nul.one=true:=rfl
@[simp] theorem ev1_mv (x:eo) (s:St):r5 pg (.mv x) s=some (di pg.toCx s.e x,s.h):=rfl
def GC (c a b:V) (h:Hp):Option (V×Hp):=match c with| .d (.bool t)=>some (if t then a else b,h)|_=>none
@[simp] theorem a8l (c a b:eo) (s:St):r5 pg (.pick c a b) s=GC (di pg.toCx s.e c) (di pg.toCx s.e a) (di pg.toCx s.e b) s.h:=rfl
@[simp] theorem Yy (t a b:Bool) (h:Hp):GC (.d (.bool t)) (.d (.bool a)) (.d (.bool b)) h=some (.d (.bool (if t then a else b)),h):=by cases t<;>rfl
@[simp] theorem Yx (t a:Bool) (h:Hp):GC (.d (.bool t)) (.tup []) (.d (.bool a)) h=some (if t then .tup [] else .d (.bool a),h):=by cases t<;>rfl
def one (h:Hp) (r:Option V):Option (V×Hp):=r.map fun v=>(v,h)
@[simp] theorem a6p (h:Hp) (v:V):one h (some v)=some (v,h):=rfl
@[simp] theorem a6q (h:Hp):one h none=none:=rfl
@[simp] theorem b2s (op:BinOp) (x y:eo) (s:St):r5 pg (.bin op x y) s=one s.h (fJ op (di pg.toCx s.e x) (di pg.toCx s.e y)):=rfl
@[simp] theorem ev1_un (op:UnOp) (x:eo) (s:St):r5 pg (.un op x) s=one s.h (OH op (di pg.toCx s.e x)):=rfl
@[simp] theorem a8j (z:List V) (s:St):r5 pg (.zbox z) s=some (.ptr s.h.length 0,s.h++[.box z]):=rfl
def a9k (v:V) (h:Hp):Option (V×Hp):=if v.cells.all V.one then some (.ptr h.length 0,h++[.box v.cells]) else none
@[simp] theorem b2r (x:eo) (s:St):r5 pg (.box x) s=a9k (di pg.toCx s.e x) s.h:=rfl
@[simp] theorem ev1_ld (n:Option Nat) (x:eo) (s:St):r5 pg (.ld n x) s=one s.h (o8 s.h n (di pg.toCx s.e x)):=rfl
def a3v (r:Option Hp):Option (V×Hp):=r.map fun h=>(.undef,h)
@[simp] theorem a1c (h:Hp):a3v (some h)=some (.undef,h):=rfl
@[simp] theorem ev1_st (n:Nat) (a x:eo) (s:St):r5 pg (.st n a x) s=a3v (sW s.b s.h n (di pg.toCx s.e a) (di pg.toCx s.e x)):=rfl
def SK (k:IntKind) (v:V):Option V:=match v with| .d (.int _ n)=>some (.d (.int k (k.wrap n)))|_=>none
@[simp] theorem a2q (k k':IntKind) (n:Int):SK k (.d (.int k' n))=some (.d (.int k (k.wrap n))):=rfl
@[simp] theorem a8p (k:IntKind) (x:eo) (s:St):r5 pg (.conv k x) s=one s.h (SK k (di pg.toCx s.e x)):=by
 simp only[r5,bn];generalize di pg.toCx s.e x=v;unfold SK;split<;>first|rfl|(rename_i h;split;rename_i h2;exact absurd rfl (h _ _);rfl)
def ZD (neg:Bool) (a b:V) (h:Hp):Option (V×Hp):=match a,b with| .d (.bool a),.d (.bool b)=>some (.d (.bool (if neg then !(a==b) else a==b)),h)|_,_=>none
@[simp] theorem eqbV_t (a b:Bool) (h:Hp):ZD true (.d (.bool a)) (.d (.bool b)) h=some (.d (.bool !(a==b)),h):=rfl
@[simp] theorem eqbV_f (a b:Bool) (h:Hp):ZD false (.d (.bool a)) (.d (.bool b)) h=some (.d (.bool (a==b)),h):=rfl
@[simp] theorem b2p (neg:Bool) (x y:eo) (s:St):r5 pg (.eqb neg x y) s=ZD neg (di pg.toCx s.e x) (di pg.toCx s.e y) s.h:=rfl
def a8t (neg:Bool) (ks:List Nat) (a b:V) (h:Hp):Option (V×Hp):=match a,b with| .d (.agg a),.d (.agg b)=>if kindOk ks a b then some (.d (.bool (if neg then !Si a b else Si a b)),h) else none|_,_=>none
@[simp] theorem a8s (neg:Bool) (ks:List Nat) (a b:List D) (h:Hp):a8t neg ks (.d (.agg a)) (.d (.agg b)) h=if kindOk ks a b then some (.d (.bool (if neg then !Si a b else Si a b)),h) else none:=rfl
@[simp] theorem b2q (neg:Bool) (ks:List Nat) (x y:eo) (s:St):r5 pg (.eqa neg ks x y) s=a8t neg ks (di pg.toCx s.e x) (di pg.toCx s.e y) s.h:=rfl
@[simp] theorem a8m (f:Nat) (caps:List eo) (s:St):r5 pg (.mkfn f caps) s=some (.fn f (caps.map (di pg.toCx s.e)),s.h):=rfl
def Zq (off:Nat) (n:Option Nat) (v:V):Option V:=match v with| .d (.agg c)=>gI n (c.map V.d) off| .agg c=>gI n c off|_=>none
@[simp] theorem fldV_d (off:Nat) (n:Option Nat) (c:List D):Zq off n (.d (.agg c))=gI n (c.map V.d) off:=rfl
@[simp] theorem fldV_a (off:Nat) (n:Option Nat) (c:List V):Zq off n (.agg c)=gI n c off:=rfl
@[simp] theorem b2n (off:Nat) (n:Option Nat) (x:eo) (s:St):r5 pg (.fld off n x) s=one s.h (Zq off n (di pg.toCx s.e x)):=by
 simp only[r5,bn];generalize di pg.toCx s.e x=v;cases v with
 |d y=>cases y<;>rfl
 |_=>rfl
def Zt (off:Nat) (v:V):Option V:=match v with| .ptr id o=>some (.ptr id (o+off))| .ro l o=>some (.ro l (o+off))|_=>none
@[simp] theorem a8f (off id o:Nat):Zt off (.ptr id o)=some (.ptr id (o+off)):=rfl
@[simp] theorem b2f (off o:Nat) (l:List D):Zt off (.ro l o)=some (.ro l (o+off)):=rfl
@[simp] theorem a8o (off:Nat) (x:eo) (s:St):r5 pg (.fadr off x) s=one s.h (Zt off (di pg.toCx s.e x)):=by
 simp only[r5,bn];generalize di pg.toCx s.e x=v;cases v<;>rfl
@[simp] theorem b2o (x:eo) (i:Nat) (s:St):r5 pg (.ext x i) s=one s.h (match di pg.toCx s.e x with| .tup l=>l[i]? |_=>none):=by
  simp only[r5,bn];generalize di pg.toCx s.e x=v;cases v<;>rfl
@[simp] theorem a8q (f:Nat) (args:List eo) (s:St):r5 pg (.call f args) s=cv pg f (args.map fun x=>iX s.h (di pg.toCx s.e x)) s.h:=rfl
noncomputable def W6 (v:V) (args:List V) (h:Hp):Option (V×Hp):=match v with| .fn f c=>cv pg f (args++c) h| .fm f c=>cv pg f (c++args) h|_=>none
@[simp] theorem a9g (f:Nat) (c args:List V) (h:Hp):W6 pg (.fn f c) args h=cv pg f (args++c) h:=rfl
@[simp] theorem a2n (f:eo) (args:List eo) (s:St):r5 pg (.callv f args) s=W6 pg (di pg.toCx s.e f) (args.map fun x=>iX s.h (di pg.toCx s.e x)) s.h:=by
  simp only[r5,bn];generalize di pg.toCx s.e f=v;cases v<;>rfl
@[simp] theorem ZA (sz len:Nat) (ps:List eo) (s:St):r5 pg (.bslice sz len ps) s=match bn.toDs' pg.toCx s.e s.h ps with
 |some l=>if l.length=len/\l.all (fun x=>x.cells.length==sz)/\0 < sz/\len*sz<=16777216 then some (.d (.sl l),s.h) else none
 |none=>none:=rfl
def RK (sz:Nat) (x:V) (i:Option Nat) (h:Hp):Option (V×Hp):=match i with
 |none=>none
 |some n=>match x with
  | .arr id off len=>if n < len then some (.ptr id (off+n*sz),h) else none
  |v=>match lsize h v with
   |some l=>match l[n]? with
    |some y=>if y.cells.length=sz then some (.ro y.cells 0,h) else none
    |none=>none
   |none=>none
@[simp] theorem a8n (sz:Nat) (x i:eo) (s:St):r5 pg (.iadr sz x i) s=RK sz (di pg.toCx s.e x) (gy (di pg.toCx s.e i)) s.h:=rfl
def elV (sz:Nat) (y:Option D) (h:Hp):Option (V×Hp):=match y with|some y=>if y.cells.length=sz then some (.ro y.cells 0,h) else none|none=>none
@[simp] theorem a8v (sz:Nat) (y:D) (h:Hp):elV sz (some y) h=if y.cells.length=sz then some (.ro y.cells 0,h) else none:=rfl
@[simp] theorem a8w (sz:Nat) (h:Hp):elV sz none h=none:=rfl
@[simp] theorem a7x (sz n:Nat) (l:List D) (h:Hp):RK sz (.d (.sl l)) (some n) h=elV sz l[n]? h:=by
 simp only[RK,lsize,im,elV]
def J1 (len sz:Nat) (x:V) (i:Option Nat) (h:Hp):Option (V×Hp):=match i with
 |none=>none
 |some n=>if n < len then match x with
  | .ptr id o=>some (.ptr id (o+n*sz),h)
  | .ro l o=>some (.ro l (o+n*sz),h)
  |_=>none else none
@[simp] theorem a2d (len sz n o:Nat) (l:List D) (h:Hp):J1 len sz (.ro l o) (some n) h=if n < len then some (.ro l (o+n*sz),h) else none:=rfl
@[simp] theorem Zj (len sz n o id:Nat) (h:Hp):J1 len sz (.ptr id o) (some n) h=if n < len then some (.ptr id (o+n*sz),h) else none:=rfl
@[simp] theorem a2l (len sz:Nat) (x i:eo) (s:St):r5 pg (.iadra len sz x i) s=J1 len sz (di pg.toCx s.e x) (gy (di pg.toCx s.e i)) s.h:=rfl
@[simp] theorem evO_g (cx:Cx) (e:Env) (i:Nat):di cx e (.g i)= .ro (cx.gv i) 0:=rfl
theorem uQ (h:Hp):grew h h=true:=by simp[grew,fW]
@[simp] theorem a8h (l:List aL) (s:St):Zz pg 0 l s=OJ pg l s:=by cases l<;>rfl
@[simp] theorem b2j (m:Nat) (s:St):Zz pg m [] s=some s:=by cases m<;>rfl
noncomputable def ZM (d:Option Nat) (h:Hp) (r:Option St) (k:St->Option St):Option St:=r.bind fun s=>if(grew h s.h && pw d s)=true then k s else none
@[simp] theorem a8z (d:Option Nat) (h:Hp) (s:St) (k):ZM d h (some s) k=if(grew h s.h && pw d s)=true then k s else none:=rfl
@[simp] theorem a9a (d:Option Nat) (h:Hp) (k):ZM d h none k=none:=rfl
@[simp] theorem b2u (d:Option Nat) (h:Hp) (c:Prop) [Decidable c] (x y) (k):ZM d h (if c then x else y) k=if c then ZM d h x k else ZM d h y k:=by split<;>rfl
@[simp] theorem ZL (s:St):pw none s=true:=rfl
@[simp] theorem ZK (d:Nat) (s:St):pw (some d) s=(bP s.e d).und s.h.length:=rfl
@[simp] theorem a8i (m:Nat) (d:Option Nat) (o:ij) (r:List aL) (s:St):Zz pg (m+1) (⟨d,o,none⟩::r) s=ZM d s.h (lay d s.e s.b (r5 pg o s)) (Zz pg m r):=rfl
@[simp] theorem a2k (m:Nat) (d:Option Nat) (o:ij) (g:Nat) (b:Bool) (r:List aL) (s:St):Zz pg (m+1) (⟨d,o,some (g,b)⟩::r) s=ZM d s.h (grd (bP s.e g) b d s (r5 pg o s)) (Zz pg m r):=rfl
def pb (keep:Bool) (res:List sK) (n:Nat) (r:Option (Ex×St)):Option (V×Hp):=match r with
 |some (.dN,s)|some (.ret,s)=>leave ⟨0,0,.skip,res,keep⟩ n s
 |_=>none
@[simp] theorem YW (keep res n s):pb keep res n (some (.ret,s))=leave ⟨0,0,.skip,res,keep⟩ n s:=rfl
@[simp] theorem YX (keep res n s):pb keep res n (some (.dN,s))=leave ⟨0,0,.skip,res,keep⟩ n s:=rfl
@[simp] theorem YY (keep res n) (c:Prop) [Decidable c] (x y):pb keep res n (if c then x else y)=if c then pb keep res n x else pb keep res n y:=by split<;>rfl
theorem SU (vf:kK) (a:List V) (h:Hp):Ij pg vf a h=pb vf.keep vf.res h.length (ev pg vf.body ⟨cJ a,h,h.length⟩):=rfl
theorem Sc {pg:Pg} {f:Nat} {vf:kK} (ht:pg.my f=some (.code vf)) {a:List V} (hn:a.length=vf.np) (hu:(br 0 a && !vf.keep)=true) {r:V} {h':Hp} (hb:pb vf.keep vf.res 0 (ev pg vf.body ⟨cJ a,[],0⟩)=some (r,h')) (H:Hp):cv pg f a H=some (r,H):=by
 rw[HN ht,ay hn,hu];simp only[bare];rw[SU];simp only[aH];rw[hb];rfl
theorem Fg {pg:Pg} {f:Nat} {vf:kK} (ht:pg.my f=some (.code vf)) {a:List V} (hn:a.length=vf.np) {H:Hp} (hu:(br 0 a && !vf.keep)=false):cv pg f a H=pb vf.keep vf.res H.length (ev pg vf.body ⟨cJ a,H,H.length⟩):=by
 rw[HN ht,ay hn,hu];rfl
def Kz (z:List V) (qs:List (Nat×Nat×V)) (h:Hp):Option (V×Hp):=if qs.all (fun q=>q.2.2.cells.all V.one) then(p6 z qs).map fun c=>(kb c,h) else none
@[simp] theorem a2o (z:List V) (ps:List (Nat×Nat×eo)) (s:St):r5 pg (.build z ps) s=Kz z (ps.map fun p=>(p.1,p.2.1,di pg.toCx s.e p.2.2)) s.h:=by
  simp only[r5,bn,Kz,mo,dh]
@[simp] theorem a2h (z:List V):p6 z []=some z:=rfl
@[simp] theorem Zr (z:List V) (off n:Nat) (v:V) (r:List (Nat×Nat×V)):p6 z ((off,n,v)::r)=if v.cells.length=n/\off+n<=z.length then p6 (putAt z off v.cells) r else none:=rfl
def WW (x:Option D) (l:Option (List D)):Option (List D):=match x,l with|some y,some ys=>some (y::ys)|_,_=>none
@[simp] theorem ZQ (x:D) (l:List D):WW (some x) (some l)=some (x::l):=rfl
@[simp] theorem a1d (cx:Cx) (e:Env) (H:Hp):bn.toDs' cx e H []=some []:=rfl
@[simp] theorem XH (cx:Cx) (e:Env) (H:Hp) (x:eo) (r:List eo):bn.toDs' cx e H (x::r)=WW (wu H (di cx e x)) (bn.toDs' cx e H r):=rfl
@[simp] theorem toD_d (H:Hp) (x:D):wu H (.d x)=some x:=by simp[wu,im]
@[simp] theorem a4i (H:Hp):wu H .nils=some (.sl []):=by simp[wu,im]
@[simp] theorem toD1_d (H:Hp) (x:D):im H (.d x)=some x:=by simp[im]
@[simp] theorem a1e (H:Hp):im H .nils=some (.sl []):=by simp[im]
def T8 (o:Option Ob) (len:Nat):Option D:=match o with|some (.row _ l)=>if l.length=len then some (.sl l) else none|_=>none
@[simp] theorem a5n (sz len:Nat) (l:List D):T8 (some (.row sz l)) len=if l.length=len then some (.sl l) else none:=rfl
@[simp] theorem a4j (H:Hp) (id len:Nat):im H (.row id len)=T8 H[id]? len:=rfl
@[simp] theorem b1n (H:Hp) (id len:Nat):wu H (.row id len)=T8 H[id]? len:=rfl
def Td (o:Option D) (v:V):V:=match o with|some x=> .d x|none=>v
@[simp] theorem a0h (x:D) (v:V):Td (some x) v= .d x:=rfl
@[simp] theorem a0i (v:V):Td none v=v:=rfl
@[simp] theorem a1f (H:Hp) (id len:Nat):toArg H (.row id len)=Td (T8 H[id]? len) (.row id len):=rfl
def a7v (i:Option Nat) (v:V) (h:Hp):Option (V×Hp):=match i,v with|some n,.d (.str s)=>(s[n]?).map fun b=>(.d (.int .u8 b.toNat),h)|_,_=>none
@[simp] theorem a2c (n:Nat) (s:List UInt8) (h:Hp):a7v (some n) (.d (.str s)) h=(s[n]?).map fun b=>(.d (.int .u8 b.toNat),h):=rfl
@[simp] theorem b2m (x i:eo) (s:St):r5 pg (.idx x i) s=a7v (gy (di pg.toCx s.e i)) (di pg.toCx s.e x) s.h:=rfl
def Wo (v:V) (lo:Option Nat) (hi:Nat->Option Nat) (h:Hp):Option (V×Hp):=match v,lo with
 | .d (.str s),some l=>match hi s.length with
   |some k=>if l<=k/\k<=s.length then some (.d (.str ((s.take k).drop l)),h) else none
   |none=>none
 |_,_=>none
@[simp] theorem a8k (x:eo) (lo hi:Option eo) (s:St):r5 pg (.slcs x lo hi) s=Wo (di pg.toCx s.e x) (bn.bound pg.toCx s.e 0 lo) (fun d=>bn.bound pg.toCx s.e d hi) s.h:=rfl
def Wp (s:List UInt8) (l:Nat) (k:Option Nat) (h:Hp):Option (V×Hp):=match k with|some k=>if l<=k/\k<=s.length then some (.d (.str ((s.take k).drop l)),h) else none|none=>none
@[simp] theorem X3 (s:List UInt8) (l:Nat) (hi:Nat->Option Nat) (h:Hp):Wo (.d (.str s)) (some l) hi h=Wp s l (hi s.length) h:=rfl
@[simp] theorem X4 (s:List UInt8) (l k:Nat) (h:Hp):Wp s l (some k) h=if l<=k/\k<=s.length then some (.d (.str ((s.take k).drop l)),h) else none:=rfl
@[simp] theorem Z6 (cx:Cx) (e:Env) (d:Nat):bn.bound cx e d none=some d:=rfl
@[simp] theorem Z5 (cx:Cx) (e:Env) (d:Nat) (x:eo):bn.bound cx e d (some x)=gy (di cx e x):=rfl
def a5d (sz:Nat) (z:Bool) (s:Option (List D)) (lo:Option Nat) (hi:Nat->Option Nat) (h:Hp):Option (V×Hp):=match s,lo with
 |some s,some l=>match hi s.length with
  |some k=>if l<=k/\k<=s.length/\(z||s.all (fun y=>y.cells.length==sz))=true then some (.d (.sl ((s.take k).drop l)),h) else none
  |none=>none
 |_,_=>none
@[simp] theorem b2k (sz:Nat) (x:eo) (lo hi:Option eo) (s:St):r5 pg (.slc sz x lo hi) s=a5d sz lo.isNone (lsize s.h (di pg.toCx s.e x)) (bn.bound pg.toCx s.e 0 lo) (fun d=>bn.bound pg.toCx s.e d hi) s.h:=rfl
def a5e (sz:Nat) (z:Bool) (s:List D) (l:Nat) (k:Option Nat) (h:Hp):Option (V×Hp):=match k with|some k=>if l<=k/\k<=s.length/\(z||s.all (fun y=>y.cells.length==sz))=true then some (.d (.sl ((s.take k).drop l)),h) else none|none=>none
@[simp] theorem a1j (sz:Nat) (z:Bool) (s:List D) (l:Nat) (hi:Nat->Option Nat) (h:Hp):a5d sz z (some s) (some l) hi h=a5e sz z s l (hi s.length) h:=rfl
@[simp] theorem a1k (sz:Nat) (z:Bool) (s:List D) (l k:Nat) (h:Hp):a5e sz z s l (some k) h=if l<=k/\k<=s.length/\(z||s.all (fun y=>y.cells.length==sz))=true then some (.d (.sl ((s.take k).drop l)),h) else none:=rfl
def a4v (o:Option D):Option (List D):=match o with|some (.sl l)=>some l|_=>none
@[simp] theorem b1p (l:List D):a4v (some (.sl l))=some l:=rfl
@[simp] theorem a7f (H:Hp) (v:V):lsize H v=a4v (im H v):=rfl
def NO (str:Bool) (v:V) (h:Hp):Option (V×Hp):=match str,v with
 |true,.d (.str s)=>some (.d (.int .i64 s.length),h)
 |false,v=>(rT v).map fun(n:Nat)=>(V.d (.int .i64 (n:Int)),h)
 |_,_=>none
@[simp] theorem a7m (s:List UInt8) (h:Hp):NO true (.d (.str s)) h=some (.d (.int .i64 s.length),h):=rfl
@[simp] theorem b2e (l:List D) (h:Hp):NO false (.d (.sl l)) h=some (.d (.int .i64 l.length),h):=rfl
@[simp] theorem a1x (h:Hp):NO false .nils h=some (.d (.int .i64 0),h):=rfl
@[simp] theorem a7n (i n:Nat) (h:Hp):NO false (.row i n) h=some (.d (.int .i64 n),h):=rfl
@[simp] theorem a7o (i o n:Nat) (h:Hp):NO false (.arr i o n) h=some (.d (.int .i64 n),h):=rfl
@[simp] theorem b2l (str:Bool) (x:eo) (s:St):r5 pg (.len str x) s=NO str (di pg.toCx s.e x) s.h:=by
 simp only[r5,bn];generalize di pg.toCx s.e x=v;cases str
 ·rfl
 ·cases v with
  |d y=>cases y<;>rfl
  |_=>rfl
def SJ (v:V) (h:Hp):Option (V×Hp):=match v with| .d (.str s)=>some (.d (.str s),h)|_=>none
@[simp] theorem ZV (s:List UInt8) (h:Hp):SJ (.d (.str s)) h=some (.d (.str s),h):=rfl
@[simp] theorem a2m (x:eo) (s:St):r5 pg (.convs x) s=SJ (di pg.toCx s.e x) s.h:=rfl
def a0k (sz bytes:Nat) (v:V) (ys:Option (List D)) (h:Hp):Option (V×Hp):=match ys with
 |none=>none
 |some ys=>if ys.all (fun y=>y.cells.length==sz)/\0 < sz then
  (match v with
    | .nile=>if ys=[] then some (.nile,h) else if roomy ys.length bytes then some (.row h.length ys.length,h++[.row sz ys]) else none
    | .nils=>if ys=[] then some (.nils,h) else if roomy ys.length bytes then some (.row h.length ys.length,h++[.row sz ys]) else none
    | .row id len=>match h[id]? with
      |some (.row sz' l)=>if sz'=sz/\l.length=len/\roomy (len+ys.length) bytes then some (.row id (len+ys.length),h.set id (.row sz (l++ys))) else none
      |_=>none
    |_=>none) else none
@[simp] theorem b2t (sz bytes:Nat) (x y:eo) (s:St):r5 pg (.app sz bytes x y) s=a0k sz bytes (di pg.toCx s.e x) (lsize s.h (di pg.toCx s.e y)) s.h:=rfl
def b0n (sz bytes id len:Nat) (ys:List D) (o:Option Ob) (h:Hp):Option (V×Hp):=match o with
 |some (.row sz' l)=>if sz'=sz/\l.length=len/\roomy (len+ys.length) bytes then some (.row id (len+ys.length),h.set id (.row sz (l++ys))) else none
 |_=>none
@[simp] theorem b0l (sz bytes id len:Nat) (ys:List D) (h:Hp):a0k sz bytes (.row id len) (some ys) h=if ys.all (fun y=>y.cells.length==sz)/\0 < sz then b0n sz bytes id len ys h[id]? h else none:=rfl
@[simp] theorem b0m (sz sz' bytes id len:Nat) (ys l:List D) (h:Hp):b0n sz bytes id len ys (some (.row sz' l)) h=if sz'=sz/\l.length=len/\roomy (len+ys.length) bytes then some (.row id (len+ys.length),h.set id (.row sz (l++ys))) else none:=rfl
@[simp] theorem a3c (sz bytes:Nat) (ys:List D) (h:Hp):a0k sz bytes .nils (some ys) h=if ys.all (fun y=>y.cells.length==sz)/\0 < sz then(if ys=[] then some (.nils,h) else if roomy ys.length bytes then some (.row h.length ys.length,h++[.row sz ys]) else none) else none:=rfl
def mmV (mx:Bool) (a b:V) (h:Hp):Option (V×Hp):=match a,b with
 | .d (.int k a),.d (.int k' b)=>if k=k' then some (.d (.int k (if mx then max a b else min a b)),h) else none
 |_,_=>none
@[simp] theorem b2a (mx:Bool) (k k':IntKind) (a b:Int) (h:Hp):mmV mx (.d (.int k a)) (.d (.int k' b)) h=if k=k' then some (.d (.int k (if mx then max a b else min a b)),h) else none:=rfl
@[simp] theorem ev1_mm (mx:Bool) (x y:eo) (s:St):r5 pg (.mm mx x y) s=mmV mx (di pg.toCx s.e x) (di pg.toCx s.e y) s.h:=rfl
end
end Go.Vm
set_option maxRecDepth 100000
set_option maxHeartbeats 0
namespace Go.Vm.Ite
open Go Go.Vm Go.Proofs
noncomputable section
def Q3:=ent Tryz.func3
def Q4:=ent Tryz.func4
def Q5:=ent Tryz.func5 (AA [] [(4,[.bindto 4 1 1]),(3,[.mkrow 1])])
def Q6:=ent Tryz.func6
def Q7:=ent Tryz.func7
def Q8:=ent Tryz.func8
def Q9:=ent Tryz.func9 (AA [] [(2,[.bindrow 6 3 0])])
def Q10:=ent Tryz.func10 (AA [(5,[1,28,29])] [])
def Q11:=ent Tryz.func11
def Q14:=ent Tryz.func14 (AA [(2,[0,2,3])] [(1000002,[.bindrow 1 3 3])])
def Q15:=ent Tryz.func15 (AA [(4,[1,2,15,16,17])] [])
def Q16:=ent Tryz.func16
def Q17:=ent Tryz.func17 (AA [(4,[0,1,12,13])] [])
def Q18:=ent Tryz.func18 (AA [(4,[3,5,6,8,9,20,21,22])] [(3,[.newrow 1 9])]) true
def Q19:=ent Tryz.func19 (AA [(5,[1,2,5,6,7,16,17,18])] [(4,[.newrow 1 6])])
def Q20:=ent Tryz.func20 (AA [(3,[1,4,15,16]),(8,[4,24,25,26]),(11,[4,6,24,25,26,32,33,34])] [(18,[.freeze 4])])
def Q21:=ent Tryz.func21 (AA [(5,[0,3,4])] [])
def Q22:=ent Tryz.func22 (AA [(3,[0,3,4])] [(7,[.freeze 3])])
def Q23:=ent Tryz.func23 (AA [(3,[0,10,11,12])] [])
def Q24:=ent Tryz.func24 (AA [(10,[0,22,23,24])] [])
def Q25:=ent Tryz.func25
def Q26:=ent Tryz.func26
def Q27:=ent Tryz.func27
def Q28:=ent Tryz.func28 (AA [(19,[0,67,68,69])] [])
def Q29:=ent Tryz.func29
def Q30:=ent Tryz.func30
def Q34:=ent Tryz.func34 (AA [(8,[0,3,5,6])] [(7,[.newrow 5 5])])
def Q38:=ent Tryz.func38
def Q39:=ent Tryz.func39 (AA [] [(16,[.bindrow 1 4 3]),(20,[.bindrow 1 4 3]),(6,[.bindrow 1 4 3])])
def Q40:=ent Tryz.func40
def Q41:=ent Tryz.func41
def Q42:=ent Tryz.func42
def Q43:=ent Tryz.func43
def Q44:=ent Tryz.func44
def Q45:=ent Tryz.func45
def Q46:=ent Tryz.func46
def Q47:=ent Tryz.func47
def Q48:=ent Tryz.func48 (AA [(1,[0,6,7,8])] [])
def Q49:=ent Tryz.func49
def Q50:=ent Tryz.func50
def Q51:=ent Tryz.func51
def Q52:=ent Tryz.func52
def Q54:=ent Tryz.func54
def Q55:=ent Tryz.func55
def Q59:=ent Tryz.func59 (AA [(1,[0,1])] [])
def Q60:=ent Tryz.func60
def Q68:=ent Tryz.func68
def Q69:=ent Tryz.func69
def Q70:=ent Tryz.func70
def Q71:=ent Tryz.func71
def Q72:=ent Tryz.func72
def Q73:=ent Tryz.func73
def Q74:=ent Tryz.func74
def Q77:=ent Tryz.func77
def Q78:=ent Tryz.func78
def Q79:=ent Tryz.func79
def Q80:=ent Tryz.func80
def Q81:=ent Tryz.func81
def Q82:=ent Tryz.func82
def Q83:=ent Tryz.func83
def Q85:=ent Tryz.func85
def Q86:=ent Tryz.func86
def Q88:=ent Tryz.func88
def Q89:=ent Tryz.func89
def Q90:=ent Tryz.func90 (AA [(2,[0,1,7,8])] [])
def Q92:=ent Tryz.func92
def Q96:=ent Tryz.func96
def Q97:=ent Tryz.func97 (AA [(2,[0,3])] [])
def Q98:=ent Tryz.func98
def Q99:=ent Tryz.func99
def Q100:=ent Tryz.func100
def Q101:=ent Tryz.func101
def Q106:=ent Tryz.func106
def Q107:=ent Tryz.func107
def Q108:=ent Tryz.func108
def Q109:=ent Tryz.func109
def Q110:=ent Tryz.func110 (AA [(0,[0,1,2])] [])
def Q111:=ent Tryz.func111
def Q112:=ent Tryz.func112
def Q113:=ent Tryz.func113
def Q114:=ent Tryz.func114 (AA [(0,[0,1])] [])
def Q115:=ent Tryz.func115
def Q116:=ent Tryz.func116 (AA [(4,[0,16,17])] [])
def Q119:=ent Tryz.func119
def Q120:=ent Tryz.func120
def Q121:=ent Tryz.func121
def Q127:=ent Tryz.func127
def Q128:=ent Tryz.func128
def Q130:=ent Tryz.func130
def Q131:=ent Tryz.func131
def Q132:=ent Tryz.func132
def Q134:=ent Tryz.func134
def Q135:=ent Tryz.func135
def Q138:=ent Tryz.func138 (AA [(2,[0,1,7,8])] [])
def Q146:=ent Tryz.func146
def Q147:=ent Tryz.func147
def Q148:=ent Tryz.func148 (AA [(4,[0,1,4,5])] [])
def Q149:=ent Tryz.func149
def Q162:=ent Tryz.func162
def Q163:=ent Tryz.func163
def Q164:=ent Tryz.func164
def Q169:=ent Tryz.func169 (AA [(2,[0,2,3])] [])
def Q170:=ent Tryz.func170 (AA [(0,[0,1])] [])
def Q171:=ent Tryz.func171
def Q173:=ent Tryz.func173
def Q175:=ent Tryz.func175 (AA [] [(13,[.bindrow 1 4 3]),(5,[.bindrow 1 4 3])])
def Q176:=ent Tryz.func176
def Q177:=ent Tryz.func177
def Q178:=ent Tryz.func178
def Q179:=ent Tryz.func179
def Q180:=ent Tryz.func180
def Q181:=ent Tryz.func181
def codes:List (a0w Tryz.prog):=[Q3,Q4,Q5,Q6,Q7,Q8,Q9,Q10,Q11,Q14,Q15,Q16,Q17,Q18,Q19,Q20,Q21,Q22,Q23,Q24,Q25,Q26,Q27,Q28,Q29,Q30,Q34,Q38,Q39,Q40,Q41,Q42,Q43,Q44,Q45,Q46,Q47,Q48,Q49,Q50,Q51,Q52,Q54,Q55,Q59,Q60,Q68,Q69,Q70,Q71,Q72,Q73,Q74,Q77,Q78,Q79,Q80,Q81,Q82,Q83,Q85,Q86,Q88,Q89,Q90,Q92,Q96,Q97,Q98,Q99,Q100,Q101,Q106,Q107,Q108,Q109,Q110,Q111,Q112,Q113,Q114,Q115,Q116,Q119,Q120,Q121,Q127,Q128,Q130,Q131,Q132,Q134,Q135,Q138,Q146,Q147,Q148,Q149,Q162,Q163,Q164,Q169,Q170,Q171,Q173,Q175,Q176,Q177,Q178,Q179,Q180,Q181]
abbrev my (F:Nat->Option dF):Nat->Option dF:=CV codes F
end
abbrev Cs:Nat:=3
abbrev Cr:Nat:=4
abbrev EF:Nat:=5
abbrev GZ:Nat:=6
abbrev Ct:Nat:=7
abbrev GY:Nat:=8
abbrev tA:Nat:=9
abbrev EG:Nat:=10
abbrev fO:Nat:=11
abbrev nM:Nat:=14
abbrev fH:Nat:=15
abbrev qj:Nat:=16
abbrev rH:Nat:=17
abbrev rE:Nat:=18
abbrev GU:Nat:=19
abbrev AW:Nat:=20
abbrev tC:Nat:=21
abbrev Cq:Nat:=22
abbrev tw:Nat:=23
abbrev dX:Nat:=24
abbrev Cn:Nat:=25
abbrev ew:Nat:=26
abbrev Co:Nat:=27
abbrev dW:Nat:=28
abbrev dC:Nat:=29
abbrev bA:Nat:=30
abbrev EJ:Nat:=34
abbrev k6:Nat:=38
abbrev ky:Nat:=39
abbrev jR:Nat:=40
abbrev EE:Nat:=41
abbrev GV:Nat:=42
abbrev JO:Nat:=43
abbrev GX:Nat:=44
abbrev pG:Nat:=45
abbrev gg:Nat:=46
abbrev qI:Nat:=47
abbrev vd:Nat:=48
abbrev rC:Nat:=49
abbrev vO:Nat:=50
abbrev rD:Nat:=51
abbrev tz:Nat:=52
abbrev tB:Nat:=54
abbrev tv:Nat:=55
abbrev AY:Nat:=59
abbrev yR:Nat:=60
abbrev gJ:Nat:=68
abbrev iB:Nat:=69
abbrev ko:Nat:=70
abbrev o7:Nat:=71
abbrev sI:Nat:=72
abbrev eR:Nat:=73
abbrev vQ:Nat:=74
abbrev sH:Nat:=77
abbrev sG:Nat:=78
abbrev iN:Nat:=79
abbrev k9:Nat:=80
abbrev yk:Nat:=81
abbrev Cp:Nat:=82
abbrev JS:Nat:=83
abbrev GS:Nat:=85
abbrev ED:Nat:=86
abbrev GW:Nat:=88
abbrev JP:Nat:=89
abbrev rF:Nat:=90
abbrev nO:Nat:=92
abbrev ve:Nat:=96
abbrev NK:Nat:=97
abbrev G1:Nat:=98
abbrev EH:Nat:=99
abbrev JR:Nat:=100
abbrev JQ:Nat:=101
abbrev jE:Nat:=106
abbrev oy:Nat:=107
abbrev ox:Nat:=108
abbrev gu:Nat:=109
abbrev nH:Nat:=110
abbrev gK:Nat:=111
abbrev pH:Nat:=112
abbrev nL:Nat:=113
abbrev lV:Nat:=114
abbrev ku:Nat:=115
abbrev G0:Nat:=116
abbrev NI:Nat:=119
abbrev nG:Nat:=120
abbrev oG:Nat:=121
abbrev lW:Nat:=127
abbrev EI:Nat:=128
abbrev NJ:Nat:=130
abbrev vP:Nat:=131
abbrev vh:Nat:=132
abbrev mB:Nat:=134
abbrev kM:Nat:=135
abbrev o6:Nat:=138
abbrev sJ:Nat:=146
abbrev sF:Nat:=147
abbrev cu:Nat:=148
abbrev js:Nat:=149
abbrev vg:Nat:=162
abbrev mz:Nat:=163
abbrev nK:Nat:=164
abbrev iO:Nat:=169
abbrev lU:Nat:=170
abbrev k8:Nat:=171
abbrev lT:Nat:=173
abbrev nJ:Nat:=175
abbrev ql:Nat:=176
abbrev qk:Nat:=177
abbrev rM:Nat:=178
abbrev rL:Nat:=179
abbrev rJ:Nat:=180
abbrev kz:Nat:=181
end Go.Vm.Ite
