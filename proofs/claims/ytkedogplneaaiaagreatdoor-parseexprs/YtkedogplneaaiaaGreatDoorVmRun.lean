import Derived.Test.YtkedogplneaaiaaGreatDoorVmDrawSound
import Derived.Test.YtkedogplneaaiaaGreatDoorVmOps2
import Derived.Test.YtkedogplneaaiaaGreatDoorVmFn
import Derived.KernelRfl
set_option linter.unusedVariables false
set_option linter.unusedSimpArgs false
namespace Go.Vm
mutual
def V.sh (σ:Nat->Nat):V->V
 | .agg l=> .agg (shL σ l)
 | .tup l=> .tup (shL σ l)
 | .row id n=> .row (σ id) n
 | .arr id o n=> .arr (σ id) o n
 | .ptr id o=> .ptr (σ id) o
 | .fn f c=> .fn f (shL σ c)
 | .fm f c=> .fm f (shL σ c)
 | .mp id=> .mp (σ id)
 | .d x=> .d x
 | .nils=> .nils
 | .ro l o=> .ro l o
 | .nul=> .nul
 | .nof=> .nof
 | .ifc b=> .ifc b
 | .raw x=> .raw x
 | .nmp=> .nmp
 | .nile=> .nile
 | .undef=> .undef
def shL (σ:Nat->Nat):List V->List V
 |[]=>[]
 |v::r=>v.sh σ::shL σ r
end
def Ob.sh (σ:Nat->Nat):Ob->Ob
 | .box c=> .box (shL σ c)
 | .frz c=> .frz c
 | .row n l=> .row n l
 | .map l=> .map l
def shE (σ:Nat->Nat) (e:Env):Env:=e.map fun p=>(p.1,p.2.sh σ)
section
variable {σ:Nat->Nat}
theorem a5i:∀ l:List V,shL σ l=l.map (V.sh σ)
 |[]=>rfl
 |v::r=>by rw[shL,a5i r];rfl
theorem b0c (l:List V):(shL σ l).length=l.length:=by rw[a5i,List.length_map]
theorem b6w (a b:List V):shL σ (a++b)=shL σ a++shL σ b:=by rw[a5i,a5i,a5i,List.map_append]
theorem c3z (l:List V) (i:Nat):(shL σ l)[i]? =(l[i]?).map (V.sh σ):=by rw[a5i,List.getElem?_map]
theorem f6i (l:List V) (i:Nat):(shL σ l).take i=shL σ (l.take i):=by rw[a5i,a5i,List.map_take]
theorem f6e (l:List V) (i:Nat):(shL σ l).drop i=shL σ (l.drop i):=by rw[a5i,a5i,List.map_drop]
theorem f5p (l:List D):shL σ (l.map V.d)=l.map V.d:=by rw[a5i,List.map_map];rfl
mutual
theorem c3l:∀ v:V,v.und 0=true->v.sh σ=v
 | .agg l,h=>by rw[V.sh,a9x l (by simpa only[V.und] using h)]
 | .tup l,h=>by rw[V.sh,a9x l (by simpa only[V.und] using h)]
 | .fn f l,h=>by rw[V.sh,a9x l (by simpa only[V.und] using h)]
 | .fm f l,h=>by rw[V.sh,a9x l (by simpa only[V.und] using h)]
 | .row _ _,h=>by simp[V.und]at h
 | .arr _ _ _,h=>by simp[V.und]at h
 | .ptr _ _,h=>by simp[V.und]at h
 | .mp _,h=>by simp[V.und]at h
 | .d _,_=>rfl
 | .nils,_=>rfl
 | .ro _ _,_=>rfl
 | .nul,_=>rfl
 | .nof,_=>rfl
 | .ifc _,_=>rfl
 | .raw _,_=>rfl
 | .nmp,_=>rfl
 | .nile,_=>rfl
 | .undef,_=>rfl
theorem a9x:∀ l:List V,a0z 0 l=true->shL σ l=l
 |[],_=>rfl
 |v::r,h=>by
  simp only[a0z,Bool.and_eq_true]at h
  rw[shL,c3l v h.1,a9x r h.2]
end
mutual
theorem g4i:∀ v:V,(v.sh σ).und 0=v.und 0
 | .agg l=>by simp only[V.sh,V.und];exact b7i l
 | .tup l=>by simp only[V.sh,V.und];exact b7i l
 | .fn f l=>by simp only[V.sh,V.und];exact b7i l
 | .fm f l=>by simp only[V.sh,V.und];exact b7i l
 | .row _ _=>by simp[V.sh,V.und]
 | .arr _ _ _=>by simp[V.sh,V.und]
 | .ptr _ _=>by simp[V.sh,V.und]
 | .mp _=>by simp[V.sh,V.und]
 | .d _=>rfl
 | .nils=>rfl
 | .ro _ _=>rfl
 | .nul=>rfl
 | .nof=>rfl
 | .ifc _=>rfl
 | .raw _=>rfl
 | .nmp=>rfl
 | .nile=>rfl
 | .undef=>rfl
theorem b7i:∀ l:List V,a0z 0 (shL σ l)=a0z 0 l
 |[]=>rfl
 |v::r=>by simp only[shL,a0z,g4i v,b7i r]
end
theorem h3p (v:V):(v.sh σ).one=v.one:=by
 cases v<;>first|rfl|skip
theorem d2b (l:List V):(shL σ l).all V.one=l.all V.one:=by
 rw[a5i,List.all_map];congr 1;funext v;exact h3p v
theorem c1f (v:V):(v.sh σ).cells=shL σ v.cells:=by
 cases v with
 |d x=>cases x<;>first|rfl|exact(f5p _).symm
 |_=>rfl
theorem d8p:∀ l:List V,b9e (shL σ l)=b9e l
 |[]=>rfl
 |v::r=>by
  cases v<;>simp only[shL,V.sh,b9e]
  rw[d8p r]
theorem e2t (l:List V):b1g (shL σ l)=(b1g l).sh σ:=by
 unfold b1g
 rw[d8p]
 cases b9e l<;>rfl
theorem a8x (e:Env) (i:Nat):a1l (shE σ e) i=(a1l e i).sh σ:=by
 induction e with
 |nil=>rfl
 |cons p r ih=>
  obtain⟨k,v⟩:=p
  simp only[shE,List.map_cons,a1l]at ih⊢
  split<;>first|rfl|exact ih
theorem c5o:∀ (c:List V) (n:Nat) (vs:List V),putAt (shL σ c) n (shL σ vs)=shL σ (putAt c n vs)
 |c,n,[]=>by cases c<;>cases n<;>simp[putAt,shL]
 |[],n,v::vs=>by cases n<;>simp[putAt,shL]
 |c::cs,0,v::vs=>by simp only[shL,putAt];rw[<-c5o cs 0 vs]
 |c::cs,n+1,v::vs=>by
  simp only[shL,putAt]
  rw[<-c5o cs n (v::vs)];rfl
theorem d2t (n:Option Nat) (c:List V) (off:Nat):a6u n (shL σ c) off=(a6u n c off).map (V.sh σ):=by
 cases n with
 |none=>exact c3z c off
 |some n=>
  simp only[a6u,b0c]
  split
  ·rw[f6e,f6i,e2t];rfl
  ·rfl
end
structure Mv (σ:Nat->Nat) (n:Nat) (HB:Hp):Prop where
 mono:∀ i j,i < j->σ i < σ j
 top:∀ j,σ (n+j)=HB.length+j
structure HR (σ:Nat->Nat) (n:Nat) (HB h H:Hp):Prop where
 le:n<=h.length
 len:H.length=σ h.length
 get:∀ i o,h[i]? =some o->H[σ i]? =some (o.sh σ)
 out:∀ j,j < HB.length->(∀ i,i < n->σ i≠j)->H[j]? =HB[j]?
section
variable {σ:Nat->Nat} {n:Nat} {HB:Hp} (hm:Mv σ n HB)
include hm
theorem Mv.lt {i j:Nat}:σ i < σ j↔i < j:=by
 constructor
 ·intro h
  rcases Nat.lt_trichotomy i j with h1|h1|h1
  ·exact h1
  ·subst h1;omega
  ·have:=hm.mono _ _ h1;omega
 ·exact hm.mono i j
theorem Mv.le {i j:Nat}:σ i<=σ j↔i<=j:=by
 have:=hm.lt (i:=j) (j:=i);omega
theorem Mv.inj {i j:Nat} (h:σ i=σ j):i=j:=by
 rcases Nat.lt_trichotomy i j with h1|h1|h1
 ·have:=hm.mono _ _ h1;omega
 ·exact h1
 ·have:=hm.mono _ _ h1;omega
mutual
theorem f3r (m:Nat):∀ v:V,(v.sh σ).und (σ m)=v.und m
 | .agg l=>by simp only[V.sh,V.und];exact b4x m l
 | .tup l=>by simp only[V.sh,V.und];exact b4x m l
 | .fn f l=>by simp only[V.sh,V.und];exact b4x m l
 | .fm f l=>by simp only[V.sh,V.und];exact b4x m l
 | .row id _=>by simp only[V.sh,V.und,hm.lt]
 | .arr id _ _=>by simp only[V.sh,V.und,hm.lt]
 | .ptr id _=>by simp only[V.sh,V.und,hm.lt]
 | .mp id=>by simp only[V.sh,V.und,hm.lt]
 | .d _=>rfl
 | .nils=>rfl
 | .ro _ _=>rfl
 | .nul=>rfl
 | .nof=>rfl
 | .ifc _=>rfl
 | .raw _=>rfl
 | .nmp=>rfl
 | .nile=>rfl
 | .undef=>rfl
theorem b4x (m:Nat):∀ l:List V,a0z (σ m) (shL σ l)=a0z m l
 |[]=>(fun _=>rfl) hm
 |v::r=>by simp only[shL,a0z,f3r m v,b4x m r]
end
theorem e3g (m:Nat):∀ l:Hp,a5e (σ m) (l.map (Ob.sh σ))=a5e m l
 |[]=>rfl
 |o::l=>by
  cases o<;>simp only[List.map_cons,Ob.sh,a5e,e3g m l,b4x hm]
theorem HR.get? {h H:Hp} (r:HR σ n HB h H) (i:Nat):H[σ i]? =(h[i]?).map (Ob.sh σ):=by
 cases ho:h[i]? with
 |some o=>exact r.get i o ho
 |none=>
  rw[List.getElem?_eq_none_iff]at ho
  have:=hm.le.2 ho
  simp only[Option.map_none,List.getElem?_eq_none_iff]
  rw[r.len];exact this
theorem Mv.cover (j:Nat):(∃ i,σ i=j)\/(j < HB.length/\∀ i,i < n->σ i≠j):=by
 by_cases h:j < HB.length
 ·by_cases hx:∃ i,σ i=j
  ·exact .inl hx
  ·exact .inr ⟨h,fun i _ e=>hx ⟨i,e⟩⟩
 ·refine .inl ⟨n+(j - HB.length),?_⟩
  rw[hm.top];omega
theorem HR.app {h H H' l:Hp} (r:HR σ n HB h H) (r':HR σ n HB (h++l) H'):H'=H++l.map (Ob.sh σ):=by
 have hpos:∀ i,h.length<=i->σ i=H.length+(i - h.length):=by
  intro i hi
  have e1:=hm.top (i - n)
  have e2:=hm.top (h.length - n)
  have:=r.le
  rw[show n+(i - n)=i by omega]at e1
  rw[show n+(h.length - n)=h.length by omega]at e2
  rw[r.len,e1,e2];omega
 apply List.ext_getElem?
 intro j
 rcases hm.cover j with⟨i,rfl⟩|⟨h1,h2⟩
 ·rw[r'.get? hm]
  by_cases hi:i < h.length
  ·have:σ i < H.length:=by rw[r.len];exact hm.mono _ _ hi
   rw[List.getElem?_append_left hi,List.getElem?_append_left this,r.get? hm]
  ·have e:=hpos i om
   rw[List.getElem?_append_right om,List.getElem?_append_right om,List.getElem?_map]
   congr 2;omega
 ·have:j < H.length:=by
   have e2:=hm.top (h.length - n)
   have:=r.le
   rw[show n+(h.length - n)=h.length by omega]at e2
   rw[r.len,e2];omega
  rw[r'.out j h1 h2,List.getElem?_append_left this,r.out j h1 h2]
theorem HR.snoc {h H:Hp} (r:HR σ n HB h H) (o:Ob):HR σ n HB (h++[o]) (H++[o.sh σ]):=by
 have hl:σ (h.length+1)=H.length+1:=by
  have e1:=hm.top (h.length+1 - n)
  have e2:=hm.top (h.length - n)
  have:=r.le
  rw[show n+(h.length+1 - n)=h.length+1 by omega]at e1
  rw[show n+(h.length - n)=h.length by omega]at e2
  rw[r.len,e1,e2];omega
 refine⟨by have:=r.le;simp;omega,by simp[hl],fun i o' hi=>?_,fun j h1 h2=>?_⟩
 ·by_cases hlt:i < h.length
  ·rw[List.getElem?_append_left hlt]at hi
   have:σ i < H.length:=by rw[r.len];exact hm.mono _ _ hlt
   rw[List.getElem?_append_left this];exact r.get i o' hi
  ·have:i=h.length:=by have:=(List.getElem?_eq_some_iff.1 hi).1;simp at this;omega
   subst this
   simp at hi;subst hi
   rw[<-r.len];simp
 ·have:j < H.length:=by
   have e2:=hm.top (h.length - n)
   have:=r.le
   rw[show n+(h.length - n)=h.length by omega]at e2
   rw[r.len,e2];omega
  rw[List.getElem?_append_left this];exact r.out j h1 h2
theorem HR.set {h H:Hp} (r:HR σ n HB h H) {id:Nat} (hid:id < h.length) (o:Ob):HR σ n HB (h.set id o) (H.set (σ id) (o.sh σ)):=by
 have hlt:σ id < H.length:=by rw[r.len];exact hm.mono _ _ hid
 refine⟨by have:=r.le;simp;omega,by simp[r.len],fun i o' hi=>?_,fun j h1 h2=>?_⟩
 ·by_cases he:id=i
  ·subst he
   rw[List.getElem?_set_self hid]at hi;cases hi
   rw[List.getElem?_set_self hlt]
  ·rw[List.getElem?_set_ne he]at hi
   rw[List.getElem?_set_ne (fun e=>he (hm.inj e))];exact r.get i o' hi
 ·by_cases he:σ id=j
  ·by_cases hn:id < n
   ·exact absurd he (h2 id hn)
   ·have e1:=hm.top (id - n)
    rw[show n+(id - n)=id by omega]at e1
    omega
  ·rw[List.getElem?_set_ne he];exact r.out j h1 h2
theorem HR.take {h H:Hp} (r:HR σ n HB h H) {m:Nat} (hn:n<=m):HR σ n HB (h.take m) (H.take (σ m)):=by
 refine⟨by have:=r.le;simp;omega,?_,fun i o hi=>?_,fun j h1 h2=>?_⟩
 ·rw[List.length_take,List.length_take,r.len]
  by_cases hc:m<=h.length
  ·rw[Nat.min_eq_left hc,Nat.min_eq_left (hm.le.2 hc)]
  ·have hc':h.length<=m:=om
   rw[Nat.min_eq_right hc',Nat.min_eq_right (hm.le.2 hc')]
 ·rw[List.getElem?_take]at hi
  split at hi
  ·rename_i hlt
   rw[List.getElem?_take,if_pos (hm.mono _ _ hlt)];exact r.get i o hi
  ·cases hi
 ·have e1:=hm.top (m - n)
  rw[show n+(m - n)=m by omega]at e1
  rw[List.getElem?_take,if_pos om];exact r.out j h1 h2
theorem d7u {h H:Hp} (r:HR σ n HB h H) (v:V):b2i H (v.sh σ)=b2i h v:=by
 cases v<;>simp only[V.sh,b2i]
 ·rename_i id len
  rw[r.get? hm]
  cases h[id]? with
  |none=>rfl
  |some o=>cases o<;>rfl
 ·rename_i id off len
  rw[r.get? hm]
  cases h[id]? with
  |none=>rfl
  |some o=>cases o<;>rfl
theorem f2w {h H:Hp} (r:HR σ n HB h H):∀ l:List V,e7e H (shL σ l)=e7e h l
 |[]=>rfl
 |v::l=>by simp only[shL,e7e,d7u hm r v,f2w r l]
theorem e1z {h H:Hp} (r:HR σ n HB h H) (v:V):toD H (v.sh σ)=toD h v:=by
 have key:∀ (H:Hp) (v:V),(∀ l,v≠ .agg l)->toD H v=b2i H v:=by
  intro H v hv
  cases v<;>first|rfl|exact absurd rfl (hv _)
 by_cases hv:∃ l,v= .agg l
 ·obtain⟨l,rfl⟩:=hv
  simp only[V.sh,toD,f2w hm r l]
 ·have h1:∀ l,v≠ .agg l:=fun l e=>hv ⟨l,e⟩
  have h2:∀ l,v.sh σ≠ .agg l:=by
   intro l e
   cases v<;>simp only[V.sh]at e<;>first|exact absurd rfl (h1 _)|cases e
  rw[key _ _ h1,key _ _ h2];exact d7u hm r v
theorem e2f {h H:Hp} (r:HR σ n HB h H) (v:V):toArg H (v.sh σ)=(toArg h v).sh σ:=by
 unfold toArg
 rw[e1z hm r]
 cases toD h v<;>rfl
theorem d1j {h H:Hp} (r:HR σ n HB h H) (v:V):lsize H (v.sh σ)=lsize h v:=by unfold lsize;rw[d7u hm r]
end
def Opd.cst:Opd->Bool
 | .c v=>v.und 0
 |_=>true
def VOp.f6u:VOp->List Opd
 | .mv x| .box x| .ld _ x| .nilck x| .un _ x| .conv _ x| .fld _ _ x| .fadr _ x| .ext x _| .len _ x| .convs x| .mark x| .isnil _ x=>[x]
 | .pick c a b=>[c,a,b]
 | .zbox _| .mkm| .no| .brow _=>[]
 | .build _ ps=>ps.map fun p=>p.2.2
 | .bslice _ _ ps| .blit _ _ ps=>ps
 | .abs _ ps=>ps
 | .st _ a x=>[a,x]
 | .bin _ x y| .eqa _ _ x y| .eqb _ x y| .iadr _ x y| .iadra _ _ x y| .idx x y| .app _ _ x y| .mm _ x y| .mget _ _ _ x y| .ment _ _ x y=>[x,y]
 | .c2v _ x y z| .mest x y z=>[x,y,z]
 | .mkfn _ c=>c
 | .mkfm _ c=>c
 | .slcs x lo hi| .slc _ x lo hi=>x::(lo.toList++hi.toList)
 | .call _ args=>args
 | .callv f args=>f::args
 | .msl _ _ _ n=>[n]
def VOp.cst (o:VOp):Bool:=o.f6u.all Opd.cst && (match o with| .zbox z| .build z _| .msl _ _ z _=>a0z 0 z|_=>true)
def a0e.cst:a0e->Bool
 | .reg ops| .draw _ ops=>ops.all fun o=>o.op.cst
 | .seq a b=>a.cst && b.cst
 | .cond c a b=>c.cst && (a.cst && b.cst)
 | .block _ b| .scope b| .loop _ b=>b.cst
 |_=>true
def OSh (σ:Nat->Nat) (n:Nat) (HB:Hp) (o o':Orc):Prop:=∀ f a h r h' H,HR σ n HB h H->o f a h=some (r,h')->∃ H',o' f (shL σ a) H=some (r.sh σ,H')/\HR σ n HB h' H'
section
variable {σ:Nat->Nat} {n:Nat} {HB:Hp} (hm:Mv σ n HB) {cx:Cx} {o o':Orc}
theorem a1b {e:Env} {x:Opd} (hc:x.cst=true):evO cx (shE σ e) x=(evO cx e x).sh σ:=by
 cases x with
 |t i=>exact a8x e i
 |c v=>exact(c3l v hc).symm
 |g i=>rfl
 |f i=>rfl
theorem c5w {e:Env} {d:Nat} {x:Option Opd} (hc:x.toList.all Opd.cst=true):a0s.bound cx (shE σ e) d x=a0s.bound cx e d x:=by
 cases x with
 |none=>rfl
 |some x=>
  simp only[a0s.bound]
  rw[a1b (by simpa using hc)]
  cases evO cx e x<;>rfl
include hm
theorem c5r {e:Env} {h H:Hp} (r:HR σ n HB h H):∀ {l:List Opd},l.all Opd.cst=true->a0s.toDs' cx (shE σ e) H l=a0s.toDs' cx e h l
 |[],_=>rfl
 |x::l,hc=>by
  simp only[List.all_cons,Bool.and_eq_true]at hc
  simp only[a0s.toDs',a1b hc.1,e1z hm r,c5r r hc.2]
theorem c3h {e:Env} {h H:Hp} (r:HR σ n HB h H):∀ {l:List Opd},l.all Opd.cst=true->(l.map fun x=>toArg H (evO cx (shE σ e) x))=shL σ (l.map fun x=>toArg h (evO cx e x))
  |[],_=>rfl
  |x::l,hc=>by
   simp only[List.all_cons,Bool.and_eq_true]at hc
   simp only[List.map_cons,shL,a1b hc.1,e2f hm r,c3h r hc.2]
omit hm in
theorem f4w (ps:List (Nat×Nat×V)):∀ z:List V,c2m (shL σ z) (ps.map fun p=>(p.1,p.2.1,p.2.2.sh σ))=(c2m z ps).map (shL σ):=by
  induction ps with
  |nil=>intro z;rfl
  |cons p r ih=>
   intro z
   obtain⟨off,k,v⟩:=p
   simp only[List.map_cons,c2m,c1f,b0c]
   split
   ·rw[c5o,ih]
   ·rfl
omit hm in
theorem c8e (v:V):a4k (v.sh σ)=a4k v:=by cases v<;>rfl
omit hm in
theorem g5g (v:V):d1h (v.sh σ)=d1h v:=by cases v<;>rfl
omit hm in
theorem g7w (op:BinOp) (x y:V):a8q op (x.sh σ) (y.sh σ)=a8q op x y:=by
 cases x with
 |d x=>cases y<;>cases x<;>rfl
 |_=>rfl
omit hm in
theorem f8u {op:BinOp} {x y r:V} (h:a8q op x y=some r):r.und 0=true:=by
 unfold a8q at h
 split at h
 ·split at h
  all_goals
   first
   |(split at h<;>first|(cases h;rfl)|cases h)
   |(obtain⟨_,_,rfl⟩:=Option.map_eq_some_iff.1 h;rfl)
   |(split at h<;>first|(obtain⟨_,_,rfl⟩:=Option.map_eq_some_iff.1 h;rfl)|cases h)
 ·split at h
  all_goals
   first
   |(split at h<;>first|(cases h;rfl)|cases h)
   |(cases h;rfl)
   |cases h
 ·cases h
omit hm in
theorem h1w (op:UnOp) (x:V):unV op (x.sh σ)=unV op x:=by cases x<;>rfl
omit hm in
theorem g3u {op:UnOp} {x r:V} (h:unV op x=some r):r.und 0=true:=by
 unfold unV at h
 split at h
 ·split at h<;>first|(cases h;rfl)|cases h
 ·split at h<;>first|(cases h;rfl)|cases h
 ·cases h
omit hm in
theorem f5n (ok:Bool) (z:D) (r:Option D):(i0i ok z r).und 0=true:=by
 cases ok<;>cases r<;>rfl
set_option maxHeartbeats 2000000 in
theorem e6p {c:List V} {off:Nat}:∀ {xs:List V},b2b (shL σ c) off (shL σ xs)=b2b c off xs
 |[]=>rfl
 |[v]=>by
  have _h0:=hm.top
  cases v with
  |row i k=>
   simp only[shL,V.sh,b2b,c3z]
   cases c[off]? with
   |none=>rfl
   |some u=>
    cases u with
    |row j m=>
     simp only[Option.map_some,V.sh]
     apply Bool.eq_iff_iff.2
     rw[Nat.beq_eq,Nat.beq_eq]
     constructor
     ·intro h
      rcases Nat.lt_trichotomy i j with q|q|q
      ·have:=hm.mono _ _ q;omega
      ·exact q
      ·have:=hm.mono _ _ q;omega
     ·rintro rfl;rfl
    |_=>rfl
  |_=>rfl
 |v::u::r=>by
  have _h0:=hm.top
  cases v<;>rfl
theorem d7w (ho:OSh σ n HB o o') {b:Nat} {e:Env} {h H h':Hp} {op:VOp} {r:V} (hc:op.cst=true) (hb:n<=b) (R:HR σ n HB h H) (h1:a0s cx o b e h op=some (r,h')):
 ∃ H',a0s cx o' (σ b) (shE σ e) H op=some (r.sh σ,H')/\HR σ n HB h' H':=by
 have same:∀ {x:V},x.und 0=true->some (x,H)=some (x.sh σ,H):=fun hx=>by rw[c3l _ hx]
 cases op<;>simp only[VOp.cst,VOp.f6u,List.all_cons,List.all_nil,Bool.and_true,Bool.and_eq_true,List.all_append]at hc<;>simp only[a0s]at h1⊢
 case mv x=>
  cases h1
  rw[a1b hc];exact⟨H,rfl,R⟩
 case pick c x y=>
  rw[a1b hc.1,a1b hc.2.1,a1b hc.2.2]
  split at h1
  ·rename_i t ht
   cases h1
   rw[ht]
   exact⟨H,by cases t<;>rfl,R⟩
  ·cases h1
 case zbox z=>
  cases h1
  refine⟨_,by rw[R.len];rfl,?_⟩
  have:=R.snoc hm (.box z)
  rw[Ob.sh,a9x z hc.2]at this
  exact this
 case box x=>
  rw[a1b hc,c1f,d2b]
  split at h1
  ·rename_i ho1
   cases h1
   refine⟨_,by rw[if_pos ho1,R.len];rfl,R.snoc hm (.box _)⟩
  ·cases h1
 case build z ps=>
  have hev:∀ p∈ps,evO cx (shE σ e) p.2.2=(evO cx e p.2.2).sh σ:=fun p hp=>a1b (List.all_eq_true.1 hc.1 _ (List.mem_map.2 ⟨p,hp,rfl⟩))
  have e1:(ps.all fun p=>(evO cx (shE σ e) p.2.2).cells.all V.one)=(ps.all fun p=>(evO cx e p.2.2).cells.all V.one):=by
    rw[Bool.eq_iff_iff,List.all_eq_true,List.all_eq_true]
    constructor
    ·intro hh p hp;have:=hh p hp;rw[hev p hp,c1f,d2b]at this;exact this
    ·intro hh p hp;rw[hev p hp,c1f,d2b];exact hh p hp
  have e2:(ps.map fun p=>(p.1,p.2.1,evO cx (shE σ e) p.2.2))=(ps.map fun p=>(p.1,p.2.1,evO cx e p.2.2)).map fun p=>(p.1,p.2.1,p.2.2.sh σ):=by
    rw[List.map_map]
    apply List.map_congr_left
    intro p hp
    simp only[Function.comp_def,hev p hp]
  rw[e1,e2]
  split at h1
  ·rename_i ha
   rw[if_pos ha]
   obtain⟨c,hc',he⟩:=Option.map_eq_some_iff.1 h1
   cases he
   have e3:=f4w (σ:=σ) (ps.map fun p=>(p.1,p.2.1,evO cx e p.2.2)) z
   rw[a9x z hc.2,hc']at e3
   rw[e3]
   exact⟨H,by simp only[Option.map_some,e2t],R⟩
  ·cases h1
 case bslice sz len ps=>
  rw[c5r hm R hc]
  split at h1
  ·split at h1
   ·rename_i hcond
    cases h1
    exact⟨H,by rw[if_pos hcond];rfl,R⟩
   ·cases h1
  ·cases h1
 case blit sz len ps=>
  rw[c5r hm R hc]
  split at h1
  ·split at h1
   ·rename_i hcond
    cases h1
    exact⟨_,by rw[if_pos hcond,R.len];rfl,R.snoc hm (.row _ _)⟩
   ·cases h1
  ·cases h1
 case abs len ps=>
  rw[c5r hm R hc]
  split at h1
  ·split at h1
   ·rename_i hcond
    cases h1
    exact⟨_,by rw[if_pos hcond,R.len];rfl,R.snoc hm (.frz _)⟩
   ·cases h1
  ·cases h1
 case mark x=>
  rw[a1b hc]
  split at h1
  ·rename_i id off len hv
   rw[hv]
   simp only[V.sh,R.get? hm]
   split at h1
   ·rename_i c ho1
    cases h1
    rw[ho1]
    exact⟨H,rfl,R⟩
   ·cases h1
  ·cases h1
 case ld k x=>
  rw[a1b hc]
  obtain⟨v,hv,he⟩:=Option.map_eq_some_iff.1 h1
  cases he
  have e1:b0o H ((evO cx e x).sh σ)=(b0o h (evO cx e x)).map fun p=>(shL σ p.1,p.2):=by
    cases hv0:evO cx e x with
    |ptr id off=>
     simp only[V.sh,b0o,R.get? hm]
     cases h[id]? with
     |none=>rfl
     |some o=>cases o<;>simp only[Option.map_some,Ob.sh]<;>first|rfl|simp only[f5p]
    |ro l off=>simp only[V.sh,b0o,Option.map_some,f5p]
    |_=>rfl
  unfold b8m at hv⊢
  rw[e1]
  split at hv
  ·cases hv
  ·rename_i c off hcl
   rw[hcl]
   simp only[Option.map_some]
   rw[d2t,hv]
   exact⟨H,rfl,R⟩
 case st k a x=>
  rw[a1b hc.1,a1b hc.2]
  obtain⟨q,hq,he⟩:=Option.map_eq_some_iff.1 h1
  cases he
  unfold c4w at hq⊢
  split at hq
  ·rename_i id off hv
   rw[hv]
   simp only[V.sh,R.get? hm]
   split at hq
   ·rename_i c ho1
    rw[ho1]
    simp only[Option.map_some,Ob.sh,c1f,b0c,d2b,b4x hm,hm.le,e6p hm]
    split at hq
    ·rename_i hcond
     cases hq
     rw[if_pos hcond]
     refine⟨_,rfl,?_⟩
     have:=R.set hm (List.getElem?_eq_some_iff.1 ho1).1 (.box (putAt c off (evO cx e x).cells))
     rw[Ob.sh,<-c5o]at this
     exact this
    ·cases hq
   ·cases hq
  ·cases hq
 case nilck x=>
  rw[a1b hc]
  split at h1
  ·rename_i hv;rw[hv];cases h1;exact⟨H,rfl,R⟩
  ·rename_i hv;rw[hv];cases h1;exact⟨H,rfl,R⟩
  ·rename_i hv;rw[hv];cases h1;exact⟨H,rfl,R⟩
  ·cases h1
 case bin op x y=>
  rw[a1b hc.1,a1b hc.2,g7w]
  obtain⟨v,hv,he⟩:=Option.map_eq_some_iff.1 h1
  cases he
  rw[hv]
  exact⟨H,same (f8u hv),R⟩
 case eqa neg ks x y=>
  rw[a1b hc.1,a1b hc.2]
  split at h1
  ·rename_i hx hy
   rw[hx,hy]
   simp only[V.sh]
   split at h1
   ·rename_i hk
    cases h1
    exact⟨H,by rw[if_pos hk];rfl,R⟩
   ·cases h1
  ·cases h1
 case eqb neg x y=>
  rw[a1b hc.1,a1b hc.2]
  split at h1
  ·rename_i hx hy
   rw[hx,hy]
   cases h1
   exact⟨H,rfl,R⟩
  ·cases h1
 case isnil neg x=>
  rw[a1b hc]
  split at h1
  ·rename_i hv;rw[hv];cases h1;exact⟨H,rfl,R⟩
  ·cases h1
 case un op x=>
  rw[a1b hc,h1w]
  obtain⟨v,hv,he⟩:=Option.map_eq_some_iff.1 h1
  cases he
  rw[hv]
  exact⟨H,same (g3u hv),R⟩
 case conv k x=>
  rw[a1b hc]
  split at h1
  ·rename_i hv;rw[hv];cases h1;exact⟨H,rfl,R⟩
  ·cases h1
 case mkfn f caps=>
  cases h1
  refine⟨H,?_,R⟩
  have:caps.map (evO cx (shE σ e))=shL σ (caps.map (evO cx e)):=by
   rw[a5i,List.map_map]
   apply List.map_congr_left
   intro x hx
   exact a1b (List.all_eq_true.1 hc x hx)
  rw[this];rfl
 case mkfm f caps=>
  cases h1
  refine⟨H,?_,R⟩
  have:caps.map (evO cx (shE σ e))=shL σ (caps.map (evO cx e)):=by
   rw[a5i,List.map_map]
   apply List.map_congr_left
   intro x hx
   exact a1b (List.all_eq_true.1 hc x hx)
  rw[this];rfl
 case fld off k x=>
  rw[a1b hc]
  split at h1
  ·rename_i c hv
   obtain⟨v,hv2,he⟩:=Option.map_eq_some_iff.1 h1
   cases he
   rw[hv]
   have:=d2t (σ:=σ) k (c.map V.d) off
   rw[f5p,hv2]at this
   simp only[V.sh]
   rw[hv2]
   simp only[Option.map_some,Option.some.injEq]at this
   exact⟨H,by rw[<-this];rfl,R⟩
  ·rename_i c hv
   obtain⟨v,hv2,he⟩:=Option.map_eq_some_iff.1 h1
   cases he
   rw[hv]
   simp only[V.sh]
   rw[d2t,hv2]
   exact⟨H,rfl,R⟩
  ·cases h1
 case fadr off x=>
  rw[a1b hc]
  split at h1
  ·rename_i hv;rw[hv];cases h1;exact⟨H,rfl,R⟩
  ·rename_i hv;rw[hv];cases h1;exact⟨H,rfl,R⟩
  ·cases h1
 case iadr sz x i=>
  rw[a1b hc.1,a1b hc.2,c8e]
  split at h1
  ·cases h1
  ·rename_i k hi
   split at h1
   ·rename_i id off len hv
    rw[hv]
    split at h1
    ·rename_i hlt;cases h1
     exact⟨H,by simp only[V.sh,if_pos hlt],R⟩
    ·cases h1
   ·rename_i v hna
    have e1:∀ a b c,(evO cx e x).sh σ≠ .arr a b c:=by
     intro a b c hh
     cases hv:evO cx e x<;>rw[hv]at hh hna<;>simp only[V.sh]at hh<;>first|exact hna _ _ _ rfl|cases hh
    split
    ·rename_i hh;exact absurd hh (e1 _ _ _)
    ·rw[d1j hm R]
     split at h1
     ·split at h1
      ·split at h1
       ·rename_i hsz;cases h1
        exact⟨H,by rw[if_pos hsz];rfl,R⟩
       ·cases h1
      ·cases h1
     ·cases h1
 case iadra len sz x i=>
  rw[a1b hc.1,a1b hc.2,c8e]
  split at h1
  ·cases h1
  ·split at h1
   ·rename_i hlt
    rw[if_pos hlt]
    split at h1
    ·rename_i hv;rw[hv];cases h1;exact⟨H,rfl,R⟩
    ·rename_i hv;rw[hv];cases h1;exact⟨H,rfl,R⟩
    ·cases h1
   ·cases h1
 case idx x i=>
  rw[a1b hc.1,a1b hc.2,c8e]
  split at h1
  ·rename_i k s hi hv
   rw[hi,hv]
   obtain⟨v,hv2,he⟩:=Option.map_eq_some_iff.1 h1
   cases he
   simp only[V.sh,hv2]
   exact⟨H,rfl,R⟩
  ·cases h1
 case slcs x lo hi=>
  rw[a1b hc.1,c5w hc.2.1]
  cases hv:evO cx e x<;>rw[hv]at h1<;>simp only[V.sh]at h1⊢ <;>try(cases h1;done)
  rename_i dx
  cases dx<;>try(cases h1;done)
  rename_i s
  cases hl:a0s.bound cx e 0 lo<;>rw[hl]at h1<;>simp only at h1⊢ <;>try(cases h1;done)
  rw[c5w hc.2.2]
  cases hu:a0s.bound cx e s.length hi<;>rw[hu]at h1<;>simp only at h1⊢ <;>try(cases h1;done)
  split at h1
  ·rename_i hcond;cases h1
   exact⟨H,by rw[if_pos hcond];rfl,R⟩
  ·cases h1
 case slc sz x lo hi=>
  rw[a1b hc.1,d1j hm R,c5w hc.2.1]
  cases hv:lsize h (evO cx e x)
  ·rw[hv]at h1;cases h1
  rename_i s
  cases hl:a0s.bound cx e 0 lo
  ·rw[hv,hl]at h1;cases h1
  rw[hv,hl]at h1
  simp only at h1⊢
  rw[c5w hc.2.2]
  cases hu:a0s.bound cx e s.length hi<;>rw[hu]at h1<;>simp only at h1⊢ <;>try(cases h1;done)
  split at h1
  ·rename_i hcond;cases h1
   exact⟨H,by rw[if_pos hcond];rfl,R⟩
  ·cases h1
 case ext x i=>
  rw[a1b hc]
  split at h1
  ·rename_i l hv
   obtain⟨v,hv2,he⟩:=Option.map_eq_some_iff.1 h1
   cases he
   rw[hv]
   simp only[V.sh,c3z,hv2]
   exact⟨H,rfl,R⟩
  ·cases h1
 case call f args=>
  rw[c3h hm R hc]
  exact ho _ _ _ _ _ _ R h1
 case callv f args=>
  rw[a1b hc.1]
  split at h1
  ·rename_i g c hv
   rw[hv]
   simp only[V.sh]
   rw[c3h hm R hc.2,<-b6w]
   exact ho _ _ _ _ _ _ R h1
  ·rename_i g c hv
   rw[hv]
   simp only[V.sh]
   rw[c3h hm R hc.2,<-b6w]
   exact ho _ _ _ _ _ _ R h1
  ·cases h1
 case len str x=>
  rw[a1b hc]
  cases str
  ·simp only at h1⊢
   obtain⟨v,hv2,he⟩:=Option.map_eq_some_iff.1 h1
   cases he
   rw[g5g,hv2]
   exact⟨H,rfl,R⟩
  ·split at h1
   ·rename_i hv;rw[hv];cases h1;exact⟨H,rfl,R⟩
   ·rename_i hh;cases hh
   ·cases h1
 case convs x=>
  rw[a1b hc]
  split at h1
  ·rename_i hv;rw[hv];cases h1;exact⟨H,rfl,R⟩
  ·cases h1
 case app sz bytes x y=>
  rw[a1b hc.1,a1b hc.2,d1j hm R]
  split at h1
  ·cases h1
  ·rename_i ys hys
   split at h1
   ·rename_i hcond
    rw[if_pos hcond]
    split at h1
    ·rename_i hv
     rw[hv]
     simp only[V.sh]
     split at h1
     ·rename_i hn;cases h1
      exact⟨H,by rw[if_pos hn];rfl,R⟩
     ·rename_i hn
      rw[if_neg hn]
      split at h1
      ·rename_i hr;cases h1
       exact⟨_,by rw[if_pos hr,R.len];rfl,R.snoc hm (.row _ _)⟩
      ·cases h1
    ·rename_i hv
     rw[hv]
     simp only[V.sh]
     split at h1
     ·rename_i hn;cases h1
      exact⟨H,by rw[if_pos hn];rfl,R⟩
     ·rename_i hn
      rw[if_neg hn]
      split at h1
      ·rename_i hr;cases h1
       exact⟨_,by rw[if_pos hr,R.len];rfl,R.snoc hm (.row _ _)⟩
      ·cases h1
    ·rename_i id len hv
     rw[hv]
     simp only[V.sh,R.get? hm]
     split at h1
     ·rename_i sz' l ho1
      rw[ho1]
      simp only[Option.map_some,Ob.sh]
      split at h1
      ·rename_i hcond2;cases h1
       exact⟨_,by rw[if_pos hcond2];rfl,R.set hm (List.getElem?_eq_some_iff.1 ho1).1 (.row _ _)⟩
      ·cases h1
     ·cases h1
    ·cases h1
   ·cases h1
 case msl sz bytes z k=>
  rw[a1b hc.1]
  split at h1
  ·rename_i kk m hv
   rw[hv]
   simp only[V.sh]
   split at h1
   ·rename_i hcond;cases h1
    refine⟨_,by rw[if_pos hcond,R.len];rfl,?_⟩
    have hz:(z.headD .undef).und 0=true:=by
     cases z with
     |nil=>rfl
     |cons a l=>have:=hc.2;simp only[a0z,Bool.and_eq_true]at this;exact this.1
    have:=R.snoc hm (.box (List.replicate m.toNat (z.headD .undef)))
    rw[Ob.sh,a5i,List.map_replicate,c3l _ hz]at this
    exact this
   ·cases h1
  ·cases h1
 case mm mx x y=>
  rw[a1b hc.1,a1b hc.2]
  split at h1
  ·rename_i hx hy
   rw[hx,hy]
   simp only[V.sh]
   split at h1
   ·rename_i hk
    cases h1
    exact⟨H,by rw[if_pos hk];rfl,R⟩
   ·cases h1
  ·cases h1
 case no=>cases h1
 case mkm=>
  cases h1
  exact⟨_,by rw[R.len];rfl,R.snoc hm (.map [])⟩
 case brow sz=>
  split at h1
  ·rename_i hs
   cases h1
   exact⟨H,by rw[if_pos hs];rfl,R⟩
  ·cases h1
 case c2v kk m k x=>
  rw[a1b hc.1,a1b hc.2.1,a1b hc.2.2,e1z hm R]
  split at h1
  ·rename_i id kd v em ek ex
   rw[em,ek,ex]
   simp only[V.sh,R.get? hm]
   split at h1
   ·rename_i l ho1
    rw[ho1]
    simp only[Option.map_some,Ob.sh]
    split at h1
    ·rename_i hk;cases h1
     exact⟨_,by rw[if_pos hk];rfl,R.set hm (List.getElem?_eq_some_iff.1 ho1).1 (.map _)⟩
    ·cases h1
   ·cases h1
  ·cases h1
 case mget kk ok z m k=>
  rw[a1b hc.1,a1b hc.2]
  split at h1
  ·rename_i id kd em ek
   rw[em,ek]
   simp only[V.sh,R.get? hm]
   split at h1
   ·rename_i l ho1
    rw[ho1]
    simp only[Option.map_some,Ob.sh]
    split at h1
    ·rename_i hk;cases h1
     exact⟨H,by rw[if_pos hk];exact same (f5n _ _ _),R⟩
    ·cases h1
   ·cases h1
  ·cases h1
 case ment kk z m k=>
  rw[a1b hc.1,a1b hc.2]
  split at h1
  ·rename_i id kd em ek
   rw[em,ek]
   simp only[V.sh,R.get? hm]
   split at h1
   ·rename_i l ho1
    rw[ho1]
    simp only[Option.map_some,Ob.sh]
    split at h1
    ·rename_i hk
     rw[if_pos hk]
     split at h1
     ·rename_i i hi
      obtain⟨p,hp,he⟩:=Option.map_eq_some_iff.1 h1
      cases he
      rw[hp]
      exact⟨H,rfl,R⟩
     ·cases h1
      exact⟨_,rfl,R.set hm (List.getElem?_eq_some_iff.1 ho1).1 (.map _)⟩
    ·cases h1
   ·cases h1
  ·cases h1
 case mest m s x=>
  rw[a1b hc.1,a1b hc.2.1,a1b hc.2.2,e1z hm R]
  split at h1
  ·rename_i id k v em ek ex
   rw[em,ek,ex]
   simp only[V.sh,R.get? hm]
   split at h1
   ·rename_i l ho1
    rw[ho1]
    simp only[Option.map_some,Ob.sh]
    split at h1
    ·rename_i hk;cases h1
     exact⟨_,by rw[if_pos hk];rfl,R.set hm (List.getElem?_eq_some_iff.1 ho1).1 (.map _)⟩
    ·cases h1
   ·cases h1
  ·cases h1
omit hm in
theorem c3b (d:Option Nat) (v:V) (e:Env):shE σ (a9r d v e)=a9r d (v.sh σ) (shE σ e):=by cases d<;>rfl
omit hm in
theorem c0s (ks:List Nat) (e:Env):shE σ (a2e ks e)=a2e ks (shE σ e):=by
 unfold a2e shE
 rw[List.map_map]
 apply List.map_congr_left
 intro k _
 simp only[Function.comp_def]
 have:=a8x (σ:=σ) e k
 unfold shE at this
 rw[this]
theorem e9g (m:Nat) (e:Env):shE σ (cut m e)=cut (σ m) (shE σ e):=by
 unfold cut shE
 rw[List.map_map,List.map_map]
 apply List.map_congr_left
 rintro⟨k,v⟩ _
 simp only[Function.comp_def,f3r hm]
 split<;>rfl
structure SR (σ:Nat->Nat) (n:Nat) (HB:Hp) (s S:St):Prop where
 e:S.e=shE σ s.e
 h:HR σ n HB s.h S.h
 b:S.b=σ s.b
 le:n<=s.b
def LSh (σ:Nat->Nat) (n:Nat) (HB:Hp) (l l':Lp):Prop:=∀ ks c s x s' S,c.cst=true->SR σ n HB s S->l ks c s=some (x,s')->∃ S',l' ks c S=some (x,S')/\SR σ n HB s' S'
theorem g1f {d:Option Nat} {e:Env} {b:Nat} (hb:n<=b) {x y:Option (V×Hp)} {r:St} (hxy:∀ v h',x=some (v,h')->∃ H',y=some (v.sh σ,H')/\HR σ n HB h' H') (h1:lay d e b x=some r):∃ S,lay d (shE σ e) (σ b) y=some S/\SR σ n HB r S:=by
 have _h0:=hm.top
 cases x with
 |none=>cases h1
 |some q=>
  obtain⟨v,h'⟩:=q
  obtain⟨H',hy,hr⟩:=hxy v h' rfl
  simp only[lay,Option.map_some,Option.some.injEq]at h1
  subst h1
  rw[hy]
  exact⟨_,rfl,(c3b d v e).symm,hr,rfl,hb⟩
theorem a8j (ho:OSh σ n HB o o') {p:a0a} {s r S:St} (hc:p.op.cst=true) (R:SR σ n HB s S) (h1:a0f cx o p s=some r):∃ S',a0f cx o' p S=some S'/\SR σ n HB r S':=by
 obtain⟨e,H,b⟩:=S
 obtain⟨hE,R,hB,hle⟩:=R
 simp only at hE R hB
 subst hE;subst hB
 unfold a0f at h1⊢
 split at h1
 ·exact g1f hm hle (fun v h' hv=>d7w hm ho hc hle R hv) h1
 ·rename_i g bb hg
  simp only at h1⊢
  rw[a8x]
  unfold grd at h1⊢
  split at h1
  ·rename_i t hv
   rw[hv]
   simp only[V.sh]
   split at h1
   ·rename_i ht
    rw[if_pos ht]
    exact g1f hm hle (fun v h' hv=>d7w hm ho hc hle R hv) h1
   ·rename_i ht
    rw[if_neg ht]
    cases h1
    exact⟨_,rfl,(c3b p.dst (.tup []) s.e).symm,R,rfl,hle⟩
  ·rename_i hv
   rw[hv]
   cases h1
   exact⟨_,rfl,(c3b p.dst (.tup []) s.e).symm,R,rfl,hle⟩
  ·cases h1
theorem c1i (ho:OSh σ n HB o o'):∀ {ops:List a0a} {s r S:St},(ops.all fun p=>p.op.cst)=true->SR σ n HB s S->a0u cx o ops s=some r->∃ S',a0u cx o' ops S=some S'/\SR σ n HB r S'
  |[],_,_,S,_,R,h=>by cases h;exact⟨S,rfl,R⟩
  |p::ps,s,r,S,hc,R,h=>by
   simp only[List.all_cons,Bool.and_eq_true]at hc
   simp only[a0u]at h⊢
   cases hx:a0f cx o p s with
   |none=>rw[hx]at h;cases h
   |some q=>
    rw[hx]at h
    obtain⟨S1,h1,R1⟩:=a8j hm ho hc.1 R hx
    rw[h1]
    exact c1i ho hc.2 R1 h
theorem g6v {h h' H H':Hp} (R:HR σ n HB h H) (R':HR σ n HB h' H') (hg:grew h h'=true):grew H H'=true:=by
 unfold grew at hg⊢
 simp only[Bool.and_eq_true,decide_eq_true_eq]at hg⊢
 obtain⟨⟨l,rfl⟩,h2⟩:=hg
 have e:=R.app hm R'
 refine⟨⟨_,e⟩,?_⟩
 rw[List.drop_left]at h2
 rw[R'.len,e,List.drop_left,e3g hm]
 exact h2
theorem h3h {d:Option Nat} {s S:St} (R:SR σ n HB s S) (h:b9t d s=true):b9t d S=true:=by
 unfold b9t at h⊢
 cases d with
 |none=>rfl
 |some d=>
  simp only at h⊢
  rw[R.e,R.h.len,a8x,f3r hm];exact h
theorem b5g (ho:OSh σ n HB o o'):∀ {m:Nat} {ops:List a0a} {s r S:St},(ops.all fun p=>p.op.cst)=true->SR σ n HB s S->a2c cx o m ops s=some r->∃ S',a2c cx o' m ops S=some S'/\SR σ n HB r S'
  |0,[],_,_,S,_,R,h=>by cases h;exact⟨S,rfl,R⟩
  |_+1,[],_,_,S,_,R,h=>by cases h;exact⟨S,rfl,R⟩
  |0,p::ps,s,r,S,hc,R,h=>by
   simp only[a2c]at h⊢
   exact c1i hm ho hc R h
  |m+1,p::ps,s,r,S,hc,R,h=>by
   simp only[List.all_cons,Bool.and_eq_true]at hc
   simp only[a2c]at h⊢
   cases hx:a0f cx o p s with
   |none=>rw[hx]at h;cases h
   |some q=>
    rw[hx]at h
    obtain⟨S1,h1,R1⟩:=a8j hm ho hc.1 R hx
    rw[h1]
    simp only[Option.bind_some]at h⊢
    split at h
    ·rename_i hg
     simp only[Bool.and_eq_true]at hg
     rw[if_pos (by rw[g6v hm R.h R1.h hg.1,h3h hm R1 hg.2];rfl)]
     exact b5g ho hc.2 R1 h
    ·cases h
theorem HR.det {h H H':Hp} (r:HR σ n HB h H) (r':HR σ n HB h H'):H'=H:=by
 have:=r.app hm (l:=[]) (H':=H') (by rw[List.append_nil];exact r')
 simpa using this
theorem SR.det {s S S':St} (r:SR σ n HB s S) (r':SR σ n HB s S'):S'=S:=by
 obtain⟨e,h,b⟩:=S
 obtain⟨e',h',b'⟩:=S'
 obtain⟨a1,a2,a3,_⟩:=r
 obtain⟨c1,c2,c3,_⟩:=r'
 simp only at a1 a2 a3 c1 c2 c3
 rw[a1,a3,c1,c3,a2.det hm c2]
theorem f5y (ho:OSh σ n HB o o') {m:Nat} {ops:List a0a} {s S:St} (hc:(ops.all fun p=>p.op.cst)=true) (R:SR σ n HB s S) (h:d1f cx o m ops s):d1f cx o' m ops S:=by
  rcases h with⟨d,od,τ,val,D⟩|⟨d,a,ε,val,Hs,D⟩|⟨a,h1,h2,r,h3⟩
  rotate_left
  rotate_left
  ·obtain⟨S2,g2,_⟩:=b5g hm ho hc R h3
   exact .inr (.inr ⟨a,h1,h2,S2,g2⟩)
  rotate_left
  ·have hcs:∀ {i:Nat} {p:a0a},ops[i]? =some p->p.op.cst=true:=fun{i p} hp=>(List.all_eq_true.1 hc) p (List.mem_of_getElem? hp)
   have hld:d < ops.length:=Nat.lt_of_lt_of_le D.ld D.le
   have hla:a < ops.length:=Nat.lt_of_lt_of_le D.la D.le
   have sr:∀ {h H:Hp} (e:Env),HR σ n HB h H->SR σ n HB ⟨e,h,s.b⟩ ⟨shE σ e,H,S.b⟩:=fun e rh=>⟨rfl,rh,R.b,R.le⟩
   have stp:∀ {h h' H:Hp} {i:Nat} {p:a0a},HR σ n HB h H->ops[i]? =some p->a0f cx o p ⟨ε i,h,s.b⟩=some ⟨ε (i+1),h',s.b⟩->∃ H',HR σ n HB h' H':=fun{h h' H i p} rh hp hx=>by
     obtain⟨q,_,R1⟩:=a8j hm ho (hcs hp) (sr _ rh) hx
     exact⟨q.h,R1.h⟩
   have r00:HR σ n HB (Hs false false) S.h:=by rw[D.h0];exact R.h
   obtain⟨H10,r10⟩:∃ H',HR σ n HB (Hs true false) H':=by
    have:=D.run d _ false false D.ld (List.getElem?_eq_getElem hld) (fun _=>rfl) (fun e=>absurd e D.ne)
    rw[decide_eq_true rfl,decide_eq_false D.ne]at this
    exact stp r00 (List.getElem?_eq_getElem hld) this
   obtain⟨H01,r01⟩:∃ H',HR σ n HB (Hs false true) H':=by
    have:=D.run a _ false false D.la (List.getElem?_eq_getElem hla) (fun e=>absurd e.symm D.ne) (fun _=>rfl)
    rw[decide_eq_true rfl,decide_eq_false (fun e=>D.ne e.symm)]at this
    exact stp r00 (List.getElem?_eq_getElem hla) this
   obtain⟨H11,r11⟩:∃ H',HR σ n HB (Hs true true) H':=by
    have:=D.run d _ false true D.ld (List.getElem?_eq_getElem hld) (fun _=>rfl) (fun e=>absurd e D.ne)
    rw[decide_eq_true rfl,decide_eq_false D.ne]at this
    exact stp r01 (List.getElem?_eq_getElem hld) this
   obtain⟨G,hG⟩:∃ G:Bool->Bool->Hp,G=fun x y=>match x,y with|false,false=>S.h|true,false=>H10|false,true=>H01|true,true=>H11:=⟨_,rfl⟩
   have rG:∀ x y,HR σ n HB (Hs x y) (G x y):=fun x y=>by rw[hG];cases x<;>cases y<;>assumption
   refine .inr (.inl ⟨d,a,fun i=>shE σ (ε i),fun i=>(val i).sh σ,G,D.ld,D.la,D.ne,D.le,?_,by rw[hG],fun i p hi hp=>?_,fun i p x y hi hp h1 h2=>?_⟩)
   ·show shE σ (ε 0)=S.e
    rw[D.zero];exact R.e.symm
   ·show shE σ (ε (i+1))=_
    rw[D.env i p hi hp,c3b]
   ·obtain⟨q,g1,R1⟩:=a8j hm ho (hcs hp) (sr _ (rG x y)) (D.run i p x y hi hp h1 h2)
    rw[g1,(sr (ε (i+1)) (rG _ _)).det hm R1]
  obtain⟨T,hT0,hTs⟩:∃ T:Nat->St,T 0=S/\∀ i,T (i+1)=match ops[i]? with|some p=>(a0f cx o' p (T i)).getD (T i)|none=>T i:=⟨fun i=>Nat.rec S (fun i q=>match ops[i]? with|some p=>(a0f cx o' p q).getD q|none=>q) i,rfl,fun _=>rfl⟩
  have hcs:∀ {i:Nat} {p:a0a},ops[i]? =some p->p.op.cst=true:=fun{i p} hp=>(List.all_eq_true.1 hc) p (List.mem_of_getElem? hp)
  have one:∀ i p,i < m->ops[i]? =some p->SR σ n HB (τ i) (T i)->a0f cx o' p (T i)=some (T (i+1))/\SR σ n HB (τ (i+1)) (T (i+1)):=by
   intro i p hi hp Ri
   obtain⟨q,h1,R1⟩:=a8j hm ho (hcs hp) Ri (D.step i p hi hp).1
   have:T (i+1)=q:=by rw[hTs,hp];simp only[h1];rfl
   rw[this]
   exact⟨h1,R1⟩
  have all:∀ i,i<=m->SR σ n HB (τ i) (T i):=by
   intro i
   induction i with
   |zero=>intro _;rw[D.zero,hT0];exact R
   |succ i ih=>
    intro hi
    have hl:i < ops.length:=Nat.lt_of_lt_of_le om D.le
    exact(one i ops[i] om (List.getElem?_eq_getElem hl) (ih om)).2
  have hb:∀ i,i<=m->(τ i).b=s.b:=by
   intro i
   induction i with
   |zero=>intro _;rw[D.zero]
   |succ i ih=>
    intro hi
    have hl:i < ops.length:=Nat.lt_of_lt_of_le om D.le
    rw[a9l (D.step i ops[i] om (List.getElem?_eq_getElem hl)).1,ih om]
  have Rd:=all (d+1) (by have:=D.lt;omega)
  have two:∀ {h H:Hp} i p,HR σ n HB h H->i < m->ops[i]? =some p->a0f cx o p ⟨(τ i).e,h,s.b⟩=some ⟨(τ (i+1)).e,h,s.b⟩->a0f cx o' p ⟨(T i).e,H,S.b⟩=some ⟨(T (i+1)).e,H,S.b⟩:=by
   intro h H i p rh hi hp hx
   have r1:SR σ n HB ⟨(τ i).e,h,s.b⟩ ⟨(T i).e,H,S.b⟩:=⟨(all i om).e,rh,R.b,R.le⟩
   obtain⟨q,h1,R1⟩:=a8j hm ho (hcs hp) r1 hx
   have r2:SR σ n HB ⟨(τ (i+1)).e,h,s.b⟩ ⟨(T (i+1)).e,H,S.b⟩:=⟨(all (i+1) om).e,rh,R.b,R.le⟩
   rw[h1,r2.det hm R1]
  refine .inl ⟨d,od,T,fun i=>(val i).sh σ,D.lt,D.le,D.odx,hT0,fun i p hi hp=>⟨(one i p hi hp (all i om)).1,?_⟩,fun i p hi hp hne=>?_,fun i p hi hp=>two i p Rd.h (Nat.lt_trans hi D.lt) hp (D.ahead i p hi hp),fun i p h1 h2 hp=>(D.behind i p h1 h2 hp).imp id (two i p R.h h2 hp)⟩
  ·rw[(all (i+1) om).e,(D.step i p hi hp).2,c3b,<-(all i om).e]
  ·have r1:=(all (i+1) om).h
   rw[D.quiet i p hi hp hne]at r1
   exact(all i om).h.det hm r1
theorem f7j (ho:OSh σ n HB o o') {m:Nat} {ops:List a0a} {s r S:St} (hc:(ops.all fun p=>p.op.cst)=true) (R:SR σ n HB s S) (h:b3o cx o m ops s=some r):∃ S',b3o cx o' m ops S=some S'/\SR σ n HB r S':=by
  obtain⟨h1,h2⟩:=a3v.1 h
  obtain⟨S',g1,R'⟩:=c1i hm ho hc R h1
  refine⟨S',a3v.2 ⟨g1,?_⟩,R'⟩
  rcases h2 with⟨q,hq⟩|hD
  ·obtain⟨S2,g2,_⟩:=b5g hm ho hc R hq
   exact .inl ⟨S2,g2⟩
  ·exact .inr (f5y hm ho hc R hD)
theorem f0h (ho:OSh σ n HB o o') {l l':Lp} (hl:LSh σ n HB l l'):∀ {c:a0e} {s:St} {x:Ex} {s' S:St},c.cst=true->SR σ n HB s S->evC cx o l c s=some (x,s')->∃ S',evC cx o' l' c S=some (x,S')/\SR σ n HB s' S':=by
 intro c
 induction c with
 |skip=>intro s x s' S _ R h;cases h;exact⟨S,rfl,R⟩
 |reg ops=>
  intro s x s' S hc R h
  simp only[evC]at h⊢
  obtain⟨q,hq,he⟩:=Option.map_eq_some_iff.1 h
  cases he
  obtain⟨S',h1,R1⟩:=c1i hm ho hc R hq
  exact⟨S',by rw[h1];rfl,R1⟩
 |draw m ops=>
  intro s x s' S hc R h
  simp only[evC]at h⊢
  obtain⟨q,hq,he⟩:=Option.map_eq_some_iff.1 h
  cases he
  obtain⟨S',h1,R1⟩:=f7j hm ho hc R hq
  exact⟨S',by rw[h1];rfl,R1⟩
 |seq a b iha ihb=>
  intro s x s' S hc R h
  simp only[a0e.cst,Bool.and_eq_true]at hc
  simp only[evC]at h⊢
  cases hx:evC cx o l a s with
  |none=>rw[hx]at h;cases h
  |some q=>
   obtain⟨y,s1⟩:=q
   rw[hx]at h
   obtain⟨S1,h1,R1⟩:=iha hc.1 R hx
   rw[h1]
   cases y with
   |nrm=>exact ihb hc.2 R1 h
   |exit i=>cases h;exact⟨S1,rfl,R1⟩
   |ret=>cases h;exact⟨S1,rfl,R1⟩
 |cond c a b iha ihb=>
  intro s x s' S hc R h
  simp only[a0e.cst,Bool.and_eq_true]at hc
  simp only[evC]at h⊢
  rw[R.e,a1b hc.1]
  split at h
  ·rename_i t ht
   rw[ht]
   simp only[V.sh]
   split at h
   ·rename_i hb;rw[if_pos hb];exact iha hc.2.1 R h
   ·rename_i hb;rw[if_neg hb];exact ihb hc.2.2 R h
  ·cases h
 |block id b ih=>
  intro s x s' S hc R h
  simp only[a0e.cst]at hc
  simp only[evC]at h⊢
  cases hx:evC cx o l b s with
  |none=>rw[hx]at h;cases h
  |some q=>
   obtain⟨y,s1⟩:=q
   rw[hx]at h
   obtain⟨S1,h1,R1⟩:=ih hc R hx
   rw[h1]
   cases y with
   |nrm=>cases h;exact⟨S1,rfl,R1⟩
   |ret=>cases h;exact⟨S1,rfl,R1⟩
   |exit i=>
    simp only at h⊢
    split at h
    ·rename_i hi;cases h;exact⟨S1,by rw[if_pos hi],R1⟩
    ·rename_i hi;cases h;exact⟨S1,by rw[if_neg hi],R1⟩
 |scope b ih=>intro s x s' S hc R h;simp only[a0e.cst]at hc;simp only[evC]at h⊢;exact ih hc R h
 |loop ks b ih=>
  intro s x s' S hc R h
  simp only[a0e.cst]at hc
  simp only[evC]at h⊢
  cases hx:evC cx o l b ⟨a2e ks s.e,s.h,s.h.length⟩with
  |none=>rw[hx]at h;cases h
  |some q=>
   obtain⟨y,s1⟩:=q
   rw[hx]at h
   have R0:SR σ n HB ⟨a2e ks s.e,s.h,s.h.length⟩ ⟨a2e ks S.e,S.h,S.h.length⟩:=⟨by rw[R.e];exact(c0s ks s.e).symm,R.h,R.h.len,R.h.le⟩
   obtain⟨S1,h1,R1⟩:=ih hc R0 hx
   rw[h1]
   cases y with
   |nrm=>
    have R2:SR σ n HB ⟨cut s.h.length (a2e ks s1.e),s1.h.take s.h.length,s.b⟩ ⟨cut S.h.length (a2e ks S1.e),S1.h.take S.h.length,S.b⟩:=by
     refine⟨?_,?_,R.b,R.le⟩
     ·simp only[R1.e,R.h.len,e9g hm,c0s]
     ·have:=R1.h.take hm (m:=s.h.length) R.h.le
      rw[<-R.h.len]at this;exact this
    exact hl _ _ _ _ _ _ hc R2 h
   |exit i=>cases h;exact⟨⟨S1.e,S1.h,S.b⟩,rfl,R1.e,R1.h,R.b,R.le⟩
   |ret=>cases h;exact⟨⟨S1.e,S1.h,S.b⟩,rfl,R1.e,R1.h,R.b,R.le⟩
 |exit i=>intro s x s' S _ R h;cases h;exact⟨S,rfl,R⟩
 |ret=>intro s x s' S _ R h;cases h;exact⟨S,rfl,R⟩
 |newrow sz t=>
  intro s x s' S hc R h
  simp only[evC]at h⊢
  rw[R.e,a8x]
  split at h
  ·rename_i hv
   rw[hv]
   simp only[V.sh]
   split at h
   ·rename_i hs
    cases h
    refine⟨⟨(t,V.row S.h.length 0)::shE σ s.e,S.h++[Ob.row sz []],S.b⟩,by rw[if_pos hs],?_,R.h.snoc hm (.row sz []),R.b,R.le⟩
    rw[R.h.len];rfl
   ·cases h
  ·cases h
 |bindrow sz t off=>
  intro s x s' S hc R h
  simp only[evC]at h⊢
  rw[R.e,a8x]
  split at h
  ·rename_i id oo hv
   rw[hv]
   simp only[V.sh,R.h.get? hm]
   split at h
   ·rename_i c hc1
    rw[hc1]
    simp only[Option.map_some,Ob.sh,c3z]
    split at h
    ·rename_i hnil
     rw[hnil]
     simp only[Option.map_some,V.sh,R.b,hm.le]
     split at h
     ·rename_i hcond
      cases h
      refine⟨⟨shE σ s.e,S.h.set (σ id) (.box ((shL σ c).set (oo+off) (.row S.h.length 0)))++[Ob.row sz []],σ s.b⟩,by rw[if_pos hcond],rfl,?_,rfl,R.le⟩
      have hid:=(List.getElem?_eq_some_iff.1 hc1).1
      have:=(R.h.set hm hid (.box (c.set (oo+off) (.row s.h.length 0)))).snoc hm (.row sz [])
      have e:Ob.sh σ (.box (c.set (oo+off) (.row s.h.length 0)))= .box ((shL σ c).set (oo+off) (.row S.h.length 0)):=by
       rw[Ob.sh,a5i,a5i,List.map_set,R.h.len];rfl
      rw[e]at this
      exact this
     ·cases h
    ·cases h
   ·cases h
  ·cases h
 |mkrow sz=>
  intro s x s' S hc R h
  simp only[evC]at h⊢
  split at h
  ·rename_i hs
   cases h
   exact⟨⟨S.e,S.h++[Ob.row sz []],S.b⟩,by rw[if_pos hs],R.e,R.h.snoc hm (.row sz []),R.b,R.le⟩
  ·cases h
 |bindto t off k=>
  intro s x s' S hc R h
  simp only[evC]at h⊢
  rw[R.e,a8x]
  split at h
  ·rename_i id oo hv
   rw[hv]
   simp only[V.sh,R.h.get? hm]
   split at h
   ·rename_i c hc1
    rw[hc1]
    simp only[Option.map_some,Ob.sh,c3z]
    split at h
    ·rename_i sz hnil hrow
     split at h
     ·rename_i hcond
      cases h
      have hid:=(List.getElem?_eq_some_iff.1 hc1).1
      have t1:=hm.top (id - n)
      have t2:=hm.top (id - k - n)
      have hle:=R.le
      rw[show n+(id - n)=id by omega]at t1
      rw[show n+(id - k - n)=id - k by omega]at t2
      have e1:σ id - k=σ (id - k):=om
      have e2:(S.h[σ id - k]?)=some (.row sz []):=by rw[e1,R.h.get? hm,hrow];rfl
      rw[hnil,e2]
      simp only[Option.map_some,V.sh]
      rw[if_pos ⟨hcond.1,om,by rw[R.b,e1];exact hm.le.2 hcond.2.2⟩]
      refine⟨⟨shE σ s.e,S.h.set (σ id) (.box ((shL σ c).set (oo+off) (.row (σ id - k) 0))),S.b⟩,rfl,rfl,?_,R.b,R.le⟩
      have:=R.h.set hm hid (.box (c.set (oo+off) (.row (id - k) 0)))
      have e:Ob.sh σ (.box (c.set (oo+off) (.row (id - k) 0)))= .box ((shL σ c).set (oo+off) (.row (σ id - k) 0)):=by
       rw[Ob.sh,a5i,a5i,List.map_set,e1];rfl
      rw[e]at this
      exact this
     ·cases h
    ·cases h
   ·cases h
  ·cases h
 |freeze t=>
  intro s x s' S hc R h
  simp only[evC]at h⊢
  rw[R.e,a8x]
  split at h
  ·rename_i id o1 l1 hv
   rw[hv]
   simp only[V.sh,R.h.get? hm]
   split at h
   ·rename_i c hc1
    rw[hc1]
    simp only[Option.map_some,Ob.sh,d8p]
    split at h
    ·rename_i ds hds
     cases h
     exact⟨⟨shE σ s.e,S.h.set (σ id) (.frz ds),S.b⟩,rfl,rfl,R.h.set hm (List.getElem?_eq_some_iff.1 hc1).1 (.frz ds),R.b,R.le⟩
    ·cases h
   ·cases h
  ·rename_i id len hv
   rw[hv]
   simp only[V.sh,R.h.get? hm]
   split at h
   ·rename_i sz l ho1
    rw[ho1]
    simp only[Option.map_some,Ob.sh]
    split at h
    ·rename_i hl
     cases h
     exact⟨⟨(t,V.d (.sl l))::shE σ s.e,S.h,S.b⟩,by rw[if_pos hl],rfl,R.h,R.b,R.le⟩
    ·cases h
   ·cases h
  ·cases h
omit hm in
theorem a8e (a:List V):a1d (shL σ a)=shE σ (a1d a):=by
 unfold a1d shE
 rw[b0c,List.map_map]
 apply List.map_congr_left
 intro i hi
 simp only[Function.comp_def]
 rw[List.getD_eq_getElem?_getD,List.getD_eq_getElem?_getD,c3z]
 cases a[i]? <;>rfl
theorem e2d {e:Env} {h H:Hp} (R:HR σ n HB h H):∀ {l:List d3p} {vs:List V},a9n e h l=some vs->a9n (shE σ e) H l=some (shL σ vs)
 |[],vs,hv=>by cases hv;rfl
 |r::l,vs,hv=>by
  simp only[a9n]at hv⊢
  have one:∀ v,e8o e h r=some v->e8o (shE σ e) H r=some (v.sh σ):=by
   intro v h1
   cases r with
   |tmp t=>cases h1;simp only[e8o,a8x]
   |cell t k=>
    simp only[e8o]at h1⊢
    have:=d7w hm (cx:=⟨fun _=>[],fun _=>none⟩) (o:=fun _ _ _=>none) (o':=fun _ _ _=>none) (e:=e) (fun _ _ _ _ _ _ _ hh=>by cases hh) (op:= .ld k (.t t)) (b:=n) (r:=v) (h':=h) rfl (Nat.le_refl _) R (by simp only[a0s,evO,h1,Option.map_some])
    obtain⟨H',h2,_⟩:=this
    simp only[a0s,evO]at h2
    obtain⟨q,hq,he⟩:=Option.map_eq_some_iff.1 h2
    cases he
    exact hq
  cases h1:e8o e h r with
  |none=>rw[h1]at hv;cases hv
  |some v=>
   cases h2:a9n e h l with
   |none=>rw[h1,h2]at hv;cases hv
   |some ws=>
    rw[h1,h2]at hv
    cases hv
    rw[one v h1,e2d R h2];rfl
omit hm in
theorem e1e (l:List V):oneOf (shL σ l)=(oneOf l).sh σ:=by
 match l with
 |[]=>rfl
 |[v]=>rfl
 |a::b::r=>rfl
theorem c6h {vf:VFn} {h0:Nat} {s S:St} (hn:n<=h0) (R:SR σ n HB s S) {r:V} {h':Hp} (h:leave vf h0 s=some (r,h')):∃ H',leave vf (σ h0) S=some (r.sh σ,H')/\HR σ n HB h' H':=by
 unfold leave at h⊢
 split at h
 ·cases h
 ·rename_i vs hvs
  rw[R.e,e2d hm R.h hvs]
  simp only at h⊢
  split at h
  ·rename_i hk
   cases h
   exact⟨_,by rw[if_pos hk,e1e],R.h⟩
  ·rename_i hk
   rw[if_neg hk]
   have e1:(shL σ vs).map (toArg S.h)=shL σ (vs.map (toArg s.h)):=by
    rw[a5i,a5i,List.map_map,List.map_map]
    apply List.map_congr_left
    intro v _
    exact e2f hm R.h v
   rw[e1,b4x hm]
   split at h
   ·rename_i hu
    cases h
    exact⟨_,by rw[if_pos hu,e1e],R.h.take hm hn⟩
   ·cases h
end
structure d0g (pg:Pg):Prop where
 prim:∀ f F,pg.tbl f=some (.prim F)->∀ a h r h',F a h=some (r,h')->a0z 0 a=true/\r.und 0=true/\h'=h/\∀ H,F a H=some (r,H)
 code:∀ f vf,pg.tbl f=some (.code vf)->vf.body.cst=true
theorem e4u {m:Nat} {l:List V} (h:a0z m l=true):(oneOf l).und m=true:=by
 match l,h with
 |[],_=>rfl
 |[v],h=>simp only[a0z,Bool.and_true]at h;exact h
 |a::b::r,h=>exact h
theorem d5h {vf:VFn} {h0:Nat} {s:St} {r:V} {h':Hp} (hk:vf.keep=false) (h:leave vf h0 s=some (r,h')):r.und h0=true:=by
 unfold leave at h
 split at h
 ·cases h
 ·simp only[hk]at h
  split at h
  ·rename_i hf;cases hf
  ·split at h
   ·rename_i hu;cases h;exact e4u hu
   ·cases h
structure b1e (pg:Pg):Prop where
 prim:∀ f F,pg.tbl f=some (.prim F)->∀ {σ:Nat->Nat} {n:Nat} {HB:Hp},Mv σ n HB->∀ a h r h' H,HR σ n HB h H->F a h=some (r,h')->∃ H',F (shL σ a) H=some (r.sh σ,H')/\HR σ n HB h' H'
 code:∀ f vf,pg.tbl f=some (.code vf)->vf.body.cst=true
theorem d0g.toH {pg:Pg} (hp:d0g pg):b1e pg:=⟨fun f F ht σ n HB _ a h r h' H R hh=>by
  obtain⟨a1,a2,rfl,a4⟩:=hp.prim f F ht a h r h' hh
  exact⟨H,by rw[a9x a a1,c3l r a2];exact a4 H,R⟩,hp.code⟩
theorem f1k {pg:Pg} (hp:b1e pg) {σ:Nat->Nat} {n:Nat} {HB:Hp} (hm:Mv σ n HB):∀ k,OSh σ n HB (b2e pg k) (b2e pg k)/\LSh σ n HB (c5a pg k) (c5a pg k)
 |0=>⟨fun f a h r h' H _ hh=>(nomatch ((b1c pg _ _ _).symm.trans hh)),fun ks c s x s' S _ _ hh=>(nomatch ((b2u pg _ _ _).symm.trans hh))⟩
 |k+1=>by
  obtain⟨h1,h2⟩:=f1k hp hm k
  refine⟨fun f a h r h' H R hh=>?_,fun ks c s x s' S hc R hh=>?_⟩
  ·rw[a6m,c3u]at hh⊢
   split at hh
   ·cases hh
   ·rename_i F ht
    exact hp.prim f F ht hm a h r h' H R hh
   ·rename_i vf ht
    show ∃ H',(if(shL σ a).length=vf.np then _ else none)=_/\_
    rw[b0c]
    split at hh
    ·rename_i hl
     rw[if_pos hl]
     have hu0:=b7i (σ:=σ) a
     cases hb:(a0z 0 a && !vf.keep)with
     |true=>
      rw[hb]at hh
      simp only[Bool.and_eq_true]at hb
      rw[a9x a hb.1,hb.1,hb.2]
      simp only[bare,Bool.and_self]at hh⊢
      obtain⟨q,hq,he⟩:=Option.map_eq_some_iff.1 hh
      cases he
      rw[hq]
      refine⟨H,?_,R⟩
      have hk:vf.keep=false:=by simpa using hb.2
      have:q.1.und 0=true:=by
       split at hq
       ·exact d5h hk hq
       ·exact d5h hk hq
       ·cases hq
      rw[c3l _ this];rfl
     |false=>
      rw[hb]at hh
      simp only[bare]at hh
      have hrun:∀ {q:V×Hp},(match evC pg.toCx (b2e pg k) (c5a pg k) vf.body ⟨a1d a,h,h.length⟩with
          |some (.nrm,s)|some (.ret,s)=>leave vf h.length s
          |_=>none)=some q->∃ H',(match evC pg.toCx (b2e pg k) (c5a pg k) vf.body ⟨a1d (shL σ a),H,H.length⟩with
          |some (.nrm,s)|some (.ret,s)=>leave vf H.length s
          |_=>none)=some (q.1.sh σ,H')/\HR σ n HB q.2 H':=by
        intro q hq
        cases hx:evC pg.toCx (b2e pg k) (c5a pg k) vf.body ⟨a1d a,h,h.length⟩with
        |none=>rw[hx]at hq;cases hq
        |some y=>
         obtain⟨x,s1⟩:=y
         obtain⟨S1,e1,R1⟩:=f0h hm h1 h2 (hp.code f vf ht) (S:=⟨a1d (shL σ a),H,H.length⟩) ⟨a8e a,R,R.len,R.le⟩ hx
         rw[hx]at hq
         rw[e1,R.len]
         cases x with
         |nrm=>exact c6h hm R.le R1 hq
         |ret=>exact c6h hm R.le R1 hq
         |exit i=>cases hq
      rw[hu0,hb];exact hrun hh
    ·cases hh
  ·rw[b0l]at hh⊢;exact f0h hm h1 h2 (c:= .loop ks c) hc R hh
theorem b9s {pg:Pg} (hp:b1e pg) {σ:Nat->Nat} {n:Nat} {HB:Hp} (hm:Mv σ n HB) {f:Nat} {a:List V} {h h' H:Hp} {r:V} (R:HR σ n HB h H) (hh:evF pg f a h=some (r,h')):∃ H',evF pg f (shL σ a) H=some (r.sh σ,H')/\HR σ n HB h' H':=by
 obtain⟨k,hk⟩:=a6o.1 hh
 obtain⟨H',h1,h2⟩:=(f1k hp hm k).1 _ _ _ _ _ _ R hk
 exact⟨H',f4j pg k _ _ _ _ h1,h2⟩
mutual
theorem g1m {σ:Nat->Nat} {n:Nat} (hσ:∀ i,i < n->σ i=i):∀ v:V,v.und n=true->v.sh σ=v
 | .agg l,h=>by rw[V.sh,b6n hσ l (by simpa only[V.und] using h)]
 | .tup l,h=>by rw[V.sh,b6n hσ l (by simpa only[V.und] using h)]
 | .fn f l,h=>by rw[V.sh,b6n hσ l (by simpa only[V.und] using h)]
 | .fm f l,h=>by rw[V.sh,b6n hσ l (by simpa only[V.und] using h)]
 | .row _ _,h=>by simp only[V.und,decide_eq_true_eq]at h;rw[V.sh,hσ _ h]
 | .arr _ _ _,h=>by simp only[V.und,decide_eq_true_eq]at h;rw[V.sh,hσ _ h]
 | .ptr _ _,h=>by simp only[V.und,decide_eq_true_eq]at h;rw[V.sh,hσ _ h]
 | .mp _,h=>by simp only[V.und,decide_eq_true_eq]at h;rw[V.sh,hσ _ h]
 | .d _,_=>rfl
 | .nils,_=>rfl
 | .ro _ _,_=>rfl
 | .nul,_=>rfl
 | .nof,_=>rfl
 | .ifc _,_=>rfl
 | .raw _,_=>rfl
 | .nmp,_=>rfl
 | .nile,_=>rfl
 | .undef,_=>rfl
theorem b6n {σ:Nat->Nat} {n:Nat} (hσ:∀ i,i < n->σ i=i):∀ l:List V,a0z n l=true->shL σ l=l
 |[],_=>rfl
 |v::r,h=>by
  simp only[a0z,Bool.and_eq_true]at h
  rw[shL,g1m hσ v h.1,b6n hσ r h.2]
end
theorem f4v {σ:Nat->Nat} {n:Nat} (hσ:∀ i,i < n->σ i=i):∀ {h:Hp},a5e n h=true->∀ o∈h,o.sh σ=o
 |[],_,o,ho=>by cases ho
 |p::l,hh,o,ho=>by
  rcases List.mem_cons.1 ho with rfl|ho
  ·cases o with
   |box c=>simp only[a5e,Bool.and_eq_true]at hh;rw[Ob.sh,b6n hσ c hh.1]
   |_=>rfl
  ·refine f4v hσ (h:=l) ?_ o ho
   cases p<;>simp only[a5e,Bool.and_eq_true]at hh<;>first|exact hh|exact hh.2
theorem d2a {pg:Pg} (hp:b1e pg) {f:Nat} {a:List V} {h h' X:Hp} {r:V} (hh:evF pg f a h=some (r,h')) (ha:a0z h.length a=true) (h1:a5e h.length h=true) (hl:h'.length=h.length) (h2:a5e h.length h'=true) (hr:r.und h.length=true):evF pg f a (h++X)=some (r,h'++X):=by
 let σ:Nat->Nat:=fun i=>if i < h.length then i else i+X.length
 have hσ:∀ i,i < h.length->σ i=i:=fun i hi=>if_pos hi
 have hm:Mv σ h.length (h++X):=by
  constructor
  ·intro i j hij
   show(if i < h.length then i else i+X.length) < (if j < h.length then j else j+X.length)
   split<;>split<;>omega
  ·intro j
   show(if h.length+j < h.length then h.length+j else h.length+j+X.length)=_
   rw[if_neg om,List.length_append];omega
 have hlen:∀ k:Hp,k.length=h.length->σ k.length=h.length+X.length:=by
  intro k hk
  show(if k.length < h.length then k.length else k.length+X.length)=_
  rw[hk,if_neg om]
 have R:HR σ h.length (h++X) h (h++X):=by
  refine⟨Nat.le_refl _,by rw[hlen h rfl,List.length_append],fun i o ho=>?_,fun _ _ _=>rfl⟩
  have hi:=(List.getElem?_eq_some_iff.1 ho).1
  rw[hσ i hi,List.getElem?_append_left hi,f4v hσ h1 o (List.mem_of_getElem? ho)];exact ho
 obtain⟨H',e1,R'⟩:=b9s hp hm R hh
 rw[b6n hσ a ha,g1m hσ r hr]at e1
 rw[e1]
 congr 2
 apply List.ext_getElem?
 intro j
 by_cases hj:j < h.length
 ·have:=R'.get? hm j
  rw[hσ j hj]at this
  rw[this,List.getElem?_append_left om]
  cases ho:h'[j]? with
  |none=>rfl
  |some o=>simp only[Option.map_some];rw[f4v hσ h2 o (List.mem_of_getElem? ho)]
 ·rw[List.getElem?_append_right om,hl]
  by_cases hx:j < (h++X).length
  ·rw[R'.out j hx (fun i hi e=>by rw[hσ i hi]at e;omega),List.getElem?_append_right om]
  ·rw[List.length_append]at hx
   rw[List.getElem?_eq_none (by rw[R'.len,hlen h' hl];omega),List.getElem?_eq_none om]
def d4z (ps:List Nat) (m:Nat) (i:Nat):Nat:=if i < ps.length then ps.getD i 0 else m+(i - ps.length)
def c8a (X:Hp) (ps:List Nat) (h:Hp):Hp:=(ps.zip h).foldl (fun X p=>X.set p.1 p.2) X
def getAll (X:Hp) (ps:List Nat):List (Option Ob):=ps.map fun p=>X[p]?
def incr (m:Nat):List Nat->Bool
 |[]=>true
 |[a]=>decide (a < m)
 |a::b::r=>decide (a < b) && incr m (b::r)
theorem f2d {m:Nat}:∀ {ps:List Nat},incr m ps=true->(∀ i,i < ps.length->ps.getD i 0 < m)/\∀ i j,i < j->j < ps.length->ps.getD i 0 < ps.getD j 0
 |[],_=>⟨fun i hi=>by simp at hi,fun i j _ hj=>by simp at hj⟩
 |[a],h=>⟨fun i hi=>by
    have:i=0:=by simp at hi;omega
    subst this;simpa [incr] using h,fun i j _ hj=>by simp at hj;omega⟩
 |a::b::r,h=>by
  simp only[incr,Bool.and_eq_true,decide_eq_true_eq]at h
  obtain⟨h1,h2⟩:=f2d h.2
  refine⟨fun i hi=>?_,fun i j hij hj=>?_⟩
  ·cases i with
   |zero=>have:=h1 0 (by simp);simp at this⊢;omega
   |succ i=>simpa using h1 i (by simpa using hi)
  ·cases j with
   |zero=>omega
   |succ j=>
    cases i with
    |zero=>
     cases j with
     |zero=>simpa using h.1
     |succ j=>
      have:=h2 0 (j+1) om (by simpa using hj)
      simp at this⊢;omega
    |succ i=>simpa using h2 i j om (by simpa using hj)
theorem d0z:∀ {ps:List Nat} {h X:Hp},h.length=ps.length->(∀ i j,i < j->j < ps.length->ps.getD i 0 < ps.getD j 0)->(∀ i,i < ps.length->ps.getD i 0 < X.length)->(c8a X ps h).length=X.length/\(∀ i,i < ps.length->(c8a X ps h)[ps.getD i 0]? =h[i]?)/\∀ j,(∀ i,i < ps.length->ps.getD i 0≠j)->(c8a X ps h)[j]? =X[j]?
 |[],h,X,_,_,_=>⟨rfl,fun i hi=>by simp at hi,fun j _=>rfl⟩
 |a::r,[],X,hl,_,_=>by simp at hl
 |a::r,o::h,X,hl,hi,hx=>by
  have e:c8a X (a::r) (o::h)=c8a (X.set a o) r h:=rfl
  obtain⟨h1,h2,h3⟩:=d0z (ps:=r) (h:=h) (X:=X.set a o) (by simpa using hl) (fun i j h4 h5=>by simpa using hi (i+1) (j+1) om (by simpa using h5)) (fun i h4=>by simpa using hx (i+1) (by simpa using h4))
  have ha:a < X.length:=by simpa using hx 0 (by simp)
  rw[e]
  refine⟨by rw[h1,List.length_set],fun i hlt=>?_,fun j hj=>?_⟩
  ·cases i with
   |zero=>
    have:∀ i,i < r.length->r.getD i 0≠a:=fun i h4=>by have:=hi 0 (i+1) om (by simpa using h4);simp at this;simp;omega
    have:=h3 a this
    simp only[List.getD_cons_zero,List.getElem?_cons_zero]
    rw[this,List.getElem?_set_self ha]
   |succ i=>simpa using h2 i (by simpa using hlt)
  ·rw[h3 j (fun i h4=>by simpa using hj (i+1) (by simpa using h4)),List.getElem?_set_ne (by simpa using hj 0 (by simp))]
theorem g4w {pg:Pg} (hp:b1e pg) (ps:List Nat) {f:Nat} {a A:List V} {h h' X:Hp} {r:V} (hh:evF pg f a h=some (r,h')) (hi:incr X.length ps=true) (hl:h.length=ps.length) (hA:shL (d4z ps X.length) a=A) (hX:getAll X ps=h.map fun o=>some (o.sh (d4z ps X.length))) (hl':h'.length=ps.length):
    evF pg f A X=some (r.sh (d4z ps X.length),c8a X ps (h'.map (Ob.sh (d4z ps X.length)))):=by
  obtain⟨i1,i2⟩:=f2d hi
  have hσ:∀ i,i < ps.length->d4z ps X.length i=ps.getD i 0:=fun i h=>if_pos h
  have hm:Mv (d4z ps X.length) ps.length X:=by
   constructor
   ·intro i j hij
    unfold d4z
    by_cases hj:j < ps.length
    ·rw[if_pos om,if_pos hj];exact i2 i j hij hj
    ·by_cases h2:i < ps.length
     ·rw[if_pos h2,if_neg hj];have:=i1 i h2;omega
     ·rw[if_neg h2,if_neg hj];omega
   ·intro j
    unfold d4z
    rw[if_neg om];omega
  have htop:d4z ps X.length ps.length=X.length:=by unfold d4z;rw[if_neg om];omega
  have hgx:∀ i,i < ps.length->X[ps.getD i 0]? =(h[i]?).map (Ob.sh (d4z ps X.length)):=by
   intro i hlt
   have hi2:i < h.length:=om
   have:=congrArg (·[i]?) hX
   simp only[getAll,List.getElem?_map]at this
   rw[List.getElem?_eq_getElem hlt,List.getElem?_eq_getElem hi2]at this
   simp only[Option.map_some,Option.some.injEq]at this
   rw[List.getD_eq_getElem?_getD,List.getElem?_eq_getElem hlt,List.getElem?_eq_getElem hi2]
   exact this
  have R:HR (d4z ps X.length) ps.length X h X:=by
   refine⟨om,by rw[hl,htop],fun i o ho=>?_,fun _ _ _=>rfl⟩
   have hlt:=(List.getElem?_eq_some_iff.1 ho).1
   rw[hσ i om,hgx i om,ho];rfl
  obtain⟨H',e1,R'⟩:=b9s hp hm R hh
  rw[hA]at e1
  rw[e1]
  congr 2
  obtain⟨s1,s2,s3⟩:=d0z (ps:=ps) (h:=h'.map (Ob.sh (d4z ps X.length))) (X:=X) (by rw[List.length_map,hl']) i2 i1
  apply List.ext_getElem?
  intro j
  by_cases hj:∃ i,i < ps.length/\ps.getD i 0=j
  ·obtain⟨i,h1,rfl⟩:=hj
   rw[s2 i h1,<-hσ i h1,R'.get? hm,List.getElem?_map]
  ·rw[s3 j (fun i h1 e=>hj ⟨i,h1,e⟩)]
   by_cases hx:j < X.length
   ·exact R'.out j hx fun i h1 e=>hj ⟨i,h1,by rw[<-hσ i h1];exact e⟩
   ·rw[List.getElem?_eq_none (by rw[R'.len,hl',htop];omega),List.getElem?_eq_none om]
theorem e9y {pg:Pg} (hp:d0g pg) {f:Nat} {a:List V} {h h' X:Hp} {r:V} (hh:evF pg f a h=some (r,h')) (ha:a0z h.length a=true) (h1:a5e h.length h=true) (hl:h'.length=h.length) (h2:a5e h.length h'=true) (hr:r.und h.length=true):evF pg f a (h++X)=some (r,h'++X):=d2a hp.toH hh ha h1 hl h2 hr
theorem d0m {pg:Pg} (hp:d0g pg) (ps:List Nat) {f:Nat} {a A:List V} {h h' X:Hp} {r:V} (hh:evF pg f a h=some (r,h')) (hi:incr X.length ps=true) (hl:h.length=ps.length) (hA:shL (d4z ps X.length) a=A) (hX:getAll X ps=h.map fun o=>some (o.sh (d4z ps X.length))) (hl':h'.length=ps.length):
    evF pg f A X=some (r.sh (d4z ps X.length),c8a X ps (h'.map (Ob.sh (d4z ps X.length)))):=g4w hp.toH ps hh hi hl hA hX hl'
end Go.Vm
namespace Go.Vm
def h0b (P:Program) (o:Op):VOp:=
 match o with
 | .binOp op t x y z=>match a9q x,a9q y,P.underlying t with
   |some a,some b,some (.struct fs)=>(match op,c3w P 0 fs.toList with
    | .eql,some ks=> .eqa false ks a b
    | .neq,some ks=> .eqa true ks a b
    |_,_=> .no)
   |_,_,_=>(b4q P (.binOp op t x y z)).getD .no
 |o=>(b4q P o).getD .no
def g4q (P:Program) (ops:Array Oper) (o:Oper):Option a0a:=
 match o.guard with
 |none=>some ⟨o.dst,h6f (i2s ops.toList o) (h0b P o.op),none⟩
 |some (j,b)=>match(ops[j]?).bind (·.dst)with
  |some s=>some ⟨o.dst,h6f (i2s ops.toList o) (h0b P o.op),some (s,b)⟩
  |none=>none
def e4c (P:Program) (ops:Array Oper):List Oper->Option (List a0a)
 |[]=>some []
 |o::r=>match g4q P ops o,e4c P ops r with|some v,some vs=>some (v::vs)|_,_=>none
def trR (P:Program) (A:Ann):Code->Option a0e
 | .skip=>some .skip
 | .label _=>some .skip
 | .region id ops draw=>match e4c P ops ops.toList with
   |none=>none
   |some vs=>if draw then some (a8g (A.ghost id) (.draw (g7j ops.toList) vs)) else some (a8g (A.ghost id) (.reg vs))
 | .seq a b=>match trR P A a,trR P A b with|some x,some y=>some (.seq x y)|_,_=>none
 | .cond c a b=>match a9q c,trR P A a,trR P A b with|some c,some x,some y=>some (.cond c x y)|_,_,_=>none
 | .block id b=>(trR P A b).map (.block id)
 | .loop b=>(trR P A b).map fun v=>a8g (c8l A b) (.loop ((b1m b).elim [] A.keep) v)
 | .scope b=>(trR P A b).map .scope
 | .exit id=>some (.exit id)
 | .ret=>some .ret
 |_=>none
def i5f (P:Program) (A:Ann) (keep:Bool) (fn:Func):Option VFn:=
 match fn.body with
 |none=>none
 |some c=>match trR P A c,c3s P fn.results.toList with
  |some b,some rs=>some ⟨fn.params.size+fn.nfree,fn.ntmps,b,rs,keep⟩
  |_,_=>none
theorem i2m (n:Nat) (h:n < 256):UInt8.ofBitVec (BitVec.ofFin ⟨n,h⟩)=UInt8.ofNat n:=UInt8.toNat_inj.1 (Nat.mod_eq_of_lt h).symm
structure Laid (P:Program) (A:Ann) (keep:Bool) (fn:Func) where
 F:VFn
 eq:i5f P A keep fn=some F
abbrev laid {P:Program} {A:Ann} {k:Bool} {fn:Func} (x:Laid P A k fn:=by refine⟨?F,?h⟩;case h=>((conv=>lhs;reduce;(try simp only[i2m,UInt8.reduceOfNat,Int.reduceNegSucc,Int.reduceOfNat]));try rfl)):Laid P A k fn:=x
abbrev AA (k:List (Nat×List Nat)) (g:List (Nat×List a0e)):Ann:=⟨fun i=>((k.find? (·.1==i)).map (·.2)).getD [],fun i=>((g.find? (·.1==i)).map (·.2)).getD []⟩
structure a0b {P:Program} {A:Ann} {k:Bool} {fn:Func} (i:Nat) (q:Laid P A k fn):Prop where
 tr:e0s P A q.F.keep fn=some q.F:=by kernel_rfl
 ok:q.F.ok=true:=by kernel_rfl
 cst:q.F.body.cst=true:=by kernel_rfl
 name:(fn.name== "runtime.NumGoroutine")=false:=by kernel_rfl
theorem a0b.ex {P:Program} {A:Ann} {k:Bool} {fn:Func} {i:Nat} {q:Laid P A k fn} (h:a0b i q) (hf:P.funcs[i]? =some fn):∃ fn A,P.funcs[i]? =some fn/\(fn.name== "runtime.NumGoroutine")=false/\e0s P A q.F.keep fn=some q.F/\q.F.ok=true:=⟨fn,A,hf,h.name,h.tr,h.ok⟩
end Go.Vm
namespace Go.Vm
section
variable (pg:Pg)
def blk (id:Nat) (r:Option (Ex×St)):Option (Ex×St):=
 match r with
 |some (.exit i,s)=>if i=id then some (.nrm,s) else some (.exit i,s)
 |r=>r
def cnd (v:V) (x y:Option (Ex×St)):Option (Ex×St):=
 match v with
 | .d (.bool t)=>if t then x else y
 |_=>none
def nrm (r:Option St):Option (Ex×St):=r.map fun s=>(.nrm,s)
def nwr (sz t:Nat) (s:St) (v:V):Option (Ex×St):=match v with
 | .nils=>if 0 < sz then some (.nrm,⟨(t,.row s.h.length 0)::s.e,s.h++[.row sz []],s.b⟩) else none
 |_=>none
@[simp] theorem f5t (sz t:Nat) (s:St):nwr sz t s .nils=if 0 < sz then some (.nrm,⟨(t,.row s.h.length 0)::s.e,s.h++[.row sz []],s.b⟩) else none:=rfl
def rnd (b:Nat) (r:Option (Ex×St)) (k:St->Option (Ex×St)):Option (Ex×St):=
 match r with
 |some (.nrm,s)=>k s
 |some (x,s)=>some (x,⟨s.e,s.h,b⟩)
 |none=>none
@[simp] theorem d9d (b:Nat) (s:St) (k):rnd b (some (.nrm,s)) k=k s:=rfl
@[simp] theorem i0u (b i:Nat) (s:St) (k):rnd b (some (.exit i,s)) k=some (.exit i,⟨s.e,s.h,b⟩):=rfl
@[simp] theorem i4t (b:Nat) (s:St) (k):rnd b (some (.ret,s)) k=some (.ret,⟨s.e,s.h,b⟩):=rfl
@[simp] theorem i4l (b:Nat) (c:Prop) [Decidable c] (x y) (k):rnd b (if c then x else y) k=if c then rnd b x k else rnd b y k:=by split<;>rfl
@[simp] theorem e9q (s:St) (k):sq (some (.nrm,s)) k=k s:=rfl
@[simp] theorem d8g (i:Nat) (s:St) (k):sq (some (.exit i,s)) k=some (.exit i,s):=rfl
@[simp] theorem f0f (s:St) (k):sq (some (.ret,s)) k=some (.ret,s):=rfl
@[simp] theorem i5s (k):sq none k=none:=rfl
@[simp] theorem sq_ite (c:Prop) [Decidable c] (x y) (k):sq (if c then x else y) k=if c then sq x k else sq y k:=by split<;>rfl
@[simp] theorem f2i (id:Nat) (s:St):blk id (some (.nrm,s))=some (.nrm,s):=rfl
@[simp] theorem f0g (id:Nat) (s:St):blk id (some (.ret,s))=some (.ret,s):=rfl
@[simp] theorem h7w (id:Nat):blk id none=none:=rfl
@[simp] theorem c5x (id i:Nat) (s:St):blk id (some (.exit i,s))=if i=id then some (.nrm,s) else some (.exit i,s):=rfl
@[simp] theorem i1z (id:Nat) (c:Prop) [Decidable c] (x y):blk id (if c then x else y)=if c then blk id x else blk id y:=by split<;>rfl
@[simp] theorem b3q (t:Bool) (x y):cnd (.d (.bool t)) x y=if t then x else y:=rfl
@[simp] theorem h9o (s:St):nrm (some s)=some (.nrm,s):=rfl
@[simp] theorem h8x:nrm none=none:=rfl
@[simp] theorem i3n (s:St):ev pg .skip s=some (.nrm,s):=rfl
@[simp] theorem i3a (i:Nat) (s:St):ev pg (.exit i) s=some (.exit i,s):=rfl
@[simp] theorem ev_ret (s:St):ev pg .ret s=some (.ret,s):=rfl
@[simp] theorem b8e (a b:a0e) (s:St):ev pg (.seq a b) s=sq (ev pg a s) (ev pg b):=rfl
@[simp] theorem b8n (c:Opd) (a b:a0e) (s:St):ev pg (.cond c a b) s=cnd (evO pg.toCx s.e c) (ev pg a s) (ev pg b s):=rfl
@[simp] theorem b1q (id:Nat) (b:a0e) (s:St):ev pg (.block id b) s=blk id (ev pg b s):=rfl
@[simp] theorem e3y (b:a0e) (s:St):ev pg (.scope b) s=ev pg b s:=rfl
@[simp] theorem f1n (sz t:Nat) (s:St):ev pg (.newrow sz t) s=nwr sz t s (a1l s.e t):=rfl
noncomputable def evR (ops:List a0a) (s:St):Option St:=a0u pg.toCx (evF pg) ops s
noncomputable def evD (m:Nat) (ops:List a0a) (s:St):Option St:=a2c pg.toCx (evF pg) m ops s
noncomputable def ev1 (o:VOp) (s:St):Option (V×Hp):=a0s pg.toCx (evF pg) s.b s.e s.h o
@[simp] theorem d4h (ops:List a0a) (s:St):ev pg (.reg ops) s=nrm (evR pg ops s):=rfl
theorem d9h {m:Nat} {ops:List a0a} {s r:St} (h:evD pg m ops s=some r):ev pg (.draw m ops) s=some (.nrm,r):=by
 show(b3o pg.toCx (evF pg) m ops s).map _=_
 rw[f9h h];rfl
theorem b6p (k:List Nat) (b:a0e) (s:St):ev pg (.loop k b) s=rnd s.b (ev pg b ⟨a2e k s.e,s.h,s.h.length⟩) (fun s'=>ev pg (.loop k b) ⟨cut s.h.length (a2e k s'.e),s'.h.take s.h.length,s.b⟩):=by
  conv=>lhs;simp only[ev,evC]
  rw[ev]
  cases hx:evC pg.toCx (evF pg) (evL pg) b ⟨a2e k s.e,s.h,s.h.length⟩with
  |none=>rfl
  |some q=>obtain⟨x,s'⟩:=q;cases x<;>first|rfl|exact h4o ..
@[simp] theorem e3m (dst:Option Nat) (e:Env) (b:Nat) (v:V) (h:Hp):lay dst e b (some (v,h))=some ⟨a9r dst v e,h,b⟩:=rfl
@[simp] theorem h9r (dst:Option Nat) (e:Env) (b:Nat):lay dst e b none=none:=rfl
@[simp] theorem g7e (b:Bool) (dst:Option Nat) (s:St) (r):grd (.tup []) b dst s r=some ⟨a9r dst (.tup []) s.e,s.h,s.b⟩:=rfl
@[simp] theorem e1s (t b:Bool) (dst:Option Nat) (s:St) (r):grd (.d (.bool t)) b dst s r=if t=b then lay dst s.e s.b r else some ⟨a9r dst (.tup []) s.e,s.h,s.b⟩:=rfl
def bnd (r:Option St) (k:St->Option St):Option St:=r.bind k
@[simp] theorem i0o (s:St) (k):bnd (some s) k=k s:=rfl
@[simp] theorem h9p (k):bnd none k=none:=rfl
@[simp] theorem i3j (c:Prop) [Decidable c] (x y) (k):bnd (if c then x else y) k=if c then bnd x k else bnd y k:=by split<;>rfl
@[simp] theorem i2w (c:Prop) [Decidable c] (x y):nrm (if c then x else y)=if c then nrm x else nrm y:=by split<;>rfl
@[simp] theorem i4g (s:St):evR pg [] s=some s:=rfl
@[simp] theorem h8l (d:Option Nat) (o:VOp) (r:List a0a) (s:St):evR pg (⟨d,o,none⟩::r) s=bnd (lay d s.e s.b (ev1 pg o s)) (evR pg r):=rfl
@[simp] theorem g9p (d:Option Nat) (o:VOp) (g:Nat) (b:Bool) (r:List a0a) (s:St):evR pg (⟨d,o,some (g,b)⟩::r) s=bnd (grd (a1l s.e g) b d s (ev1 pg o s)) (evR pg r):=rfl
@[simp] theorem h3y (k i:Nat) (v:V) (r:Env):a1l ((k,v)::r) i=if k=i then v else a1l r i:=rfl
@[simp] theorem i0f (i:Nat):a1l [] i= .undef:=rfl
@[simp] theorem h0w (d:Nat) (v:V) (e:Env):a9r (some d) v e=(d,v)::e:=rfl
@[simp] theorem h3o (v:V) (e:Env):a9r none v e=e:=rfl
@[simp] theorem evO_t (cx:Cx) (e:Env) (i:Nat):evO cx e (.t i)=a1l e i:=rfl
@[simp] theorem evO_c (cx:Cx) (e:Env) (v:V):evO cx e (.c v)=v:=rfl
@[simp] theorem evO_f (cx:Cx) (e:Env) (i:Nat):evO cx e (.f i)= .fn i []:=rfl
@[simp] theorem i1w (H:Hp) (x:D):toArg H (.d x)= .d x:=by simp[toArg,toD,b2i]
@[simp] theorem g8p (H:Hp):toArg H .nils= .d (.sl []):=by simp[toArg,toD,b2i]
@[simp] theorem h7k (H:Hp) (i o:Nat):toArg H (.ptr i o)= .ptr i o:=by simp[toArg,toD,b2i]
@[simp] theorem i0s (H:Hp) (f:Nat) (c:List V):toArg H (.fn f c)= .fn f c:=by simp[toArg,toD,b2i]
@[simp] theorem und_d (n:Nat) (x:D):V.und n (.d x)=true:=rfl
@[simp] theorem und_fn (n f:Nat) (c:List V):V.und n (.fn f c)=a0z n c:=by simp[V.und]
@[simp] theorem i3y (n:Nat) (c:List V):V.und n (.tup c)=a0z n c:=by simp[V.und]
@[simp] theorem i5n (n:Nat) (c:List V):V.und n (.agg c)=a0z n c:=by simp[V.und]
@[simp] theorem und_ro (n:Nat) (l:List D) (o:Nat):V.und n (.ro l o)=true:=rfl
@[simp] theorem i2e (n:Nat):V.und n .nul=true:=rfl
@[simp] theorem h8c (n:Nat):V.und n .nils=true:=rfl
@[simp] theorem h5a (n:Nat):V.und n .undef=true:=rfl
@[simp] theorem i2l (n i o:Nat):V.und n (.ptr i o)=decide (i < n):=by simp[V.und]
@[simp] theorem und_row (n i o:Nat):V.und n (.row i o)=decide (i < n):=by simp[V.und]
@[simp] theorem i3t (n i o l:Nat):V.und n (.arr i o l)=decide (i < n):=by simp[V.und]
@[simp] theorem h9q (n:Nat):a0z n []=true:=rfl
@[simp] theorem h6z (n:Nat) (v:V) (l:List V):a0z n (v::l)=(v.und n && a0z n l):=by simp[a0z]
@[simp] theorem h0e (k:IntKind) (n:Int):(V.d (.int k n)).cells=[.d (.int k n)]:=rfl
@[simp] theorem g9b (b:Bool):(V.d (.bool b)).cells=[.d (.bool b)]:=rfl
@[simp] theorem h2p (s:List UInt8):(V.d (.str s)).cells=[.d (.str s)]:=rfl
@[simp] theorem h8a (s:List D):(V.d (.sl s)).cells=[.d (.sl s)]:=rfl
@[simp] theorem g9e (s:List D):(V.d (.agg s)).cells=s.map V.d:=rfl
@[simp] theorem h6g (s:List V):(V.agg s).cells=s:=rfl
@[simp] theorem g9h:V.nils.cells=[.nils]:=rfl
@[simp] theorem h5b (i o:Nat):(V.ptr i o).cells=[.ptr i o]:=rfl
@[simp] theorem h5h (i o:Nat):(V.row i o).cells=[.row i o]:=rfl
@[simp] theorem i0h (f:Nat) (c:List V):(V.fn f c).cells=[.fn f c]:=rfl
@[simp] theorem h2v:V.nul.cells=[.nul]:=rfl
@[simp] theorem g8r (k:IntKind) (n:Int):(D.int k n).cells=[.int k n]:=rfl
@[simp] theorem g3q (b:Bool):(D.bool b).cells=[.bool b]:=rfl
@[simp] theorem g9g (s:List UInt8):(D.str s).cells=[.str s]:=rfl
@[simp] theorem h4f (s:List D):(D.sl s).cells=[.sl s]:=rfl
@[simp] theorem g8v (s:List D):(D.agg s).cells=s:=rfl
@[simp] theorem i4q (k:IntKind) (n:Int):(V.d (.int k n)).one=true:=rfl
@[simp] theorem h8w (b:Bool):(V.d (.bool b)).one=true:=rfl
@[simp] theorem i2c (s:List UInt8):(V.d (.str s)).one=true:=rfl
@[simp] theorem one_sl (s:List D):(V.d (.sl s)).one=true:=rfl
@[simp] theorem h9v:V.nils.one=true:=rfl
@[simp] theorem i2x (i o:Nat):(V.ptr i o).one=true:=rfl
@[simp] theorem i4x (i o:Nat):(V.row i o).one=true:=rfl
@[simp] theorem one_fn (f:Nat) (c:List V):(V.fn f c).one=true:=rfl
@[simp] theorem i3l:V.nul.one=true:=rfl
@[simp] theorem ev1_mv (x:Opd) (s:St):ev1 pg (.mv x) s=some (evO pg.toCx s.e x,s.h):=rfl
def f0x (c a b:V) (h:Hp):Option (V×Hp):=match c with| .d (.bool t)=>some (if t then a else b,h)|_=>none
@[simp] theorem h9h (c a b:Opd) (s:St):ev1 pg (.pick c a b) s=f0x (evO pg.toCx s.e c) (evO pg.toCx s.e a) (evO pg.toCx s.e b) s.h:=rfl
@[simp] theorem g8f (t a b:Bool) (h:Hp):f0x (.d (.bool t)) (.d (.bool a)) (.d (.bool b)) h=some (.d (.bool (if t then a else b)),h):=by cases t<;>rfl
@[simp] theorem g8n (t a:Bool) (h:Hp):f0x (.d (.bool t)) (.tup []) (.d (.bool a)) h=some (if t then .tup [] else .d (.bool a),h):=by cases t<;>rfl
def one (h:Hp) (r:Option V):Option (V×Hp):=r.map fun v=>(v,h)
@[simp] theorem i0c (h:Hp) (v:V):one h (some v)=some (v,h):=rfl
@[simp] theorem h8s (h:Hp):one h none=none:=rfl
@[simp] theorem i3m (op:BinOp) (x y:Opd) (s:St):ev1 pg (.bin op x y) s=one s.h (a8q op (evO pg.toCx s.e x) (evO pg.toCx s.e y)):=rfl
@[simp] theorem ev1_un (op:UnOp) (x:Opd) (s:St):ev1 pg (.un op x) s=one s.h (unV op (evO pg.toCx s.e x)):=rfl
@[simp] theorem i0j (z:List V) (s:St):ev1 pg (.zbox z) s=some (.ptr s.h.length 0,s.h++[.box z]):=rfl
def boxV (v:V) (h:Hp):Option (V×Hp):=if v.cells.all V.one then some (.ptr h.length 0,h++[.box v.cells]) else none
@[simp] theorem i5m (x:Opd) (s:St):ev1 pg (.box x) s=boxV (evO pg.toCx s.e x) s.h:=rfl
@[simp] theorem ev1_ld (n:Option Nat) (x:Opd) (s:St):ev1 pg (.ld n x) s=one s.h (b8m s.h n (evO pg.toCx s.e x)):=rfl
def und1 (r:Option Hp):Option (V×Hp):=r.map fun h=>(.undef,h)
@[simp] theorem h4d (h:Hp):und1 (some h)=some (.undef,h):=rfl
@[simp] theorem ev1_st (n:Nat) (a x:Opd) (s:St):ev1 pg (.st n a x) s=und1 (c4w s.b s.h n (evO pg.toCx s.e a) (evO pg.toCx s.e x)):=rfl
def g6w (k:IntKind) (v:V):Option V:=match v with| .d (.int _ n)=>some (.d (.int k (k.wrap n)))|_=>none
@[simp] theorem h6i (k k':IntKind) (n:Int):g6w k (.d (.int k' n))=some (.d (.int k (k.wrap n))):=rfl
@[simp] theorem h7u (k:IntKind) (x:Opd) (s:St):ev1 pg (.conv k x) s=one s.h (g6w k (evO pg.toCx s.e x)):=by
 simp only[ev1,a0s]
 generalize evO pg.toCx s.e x=v
 unfold g6w
 split<;>first|rfl|(rename_i h;split;rename_i h2;exact absurd rfl (h _ _);rfl)
def i3w (neg:Bool) (a b:V) (h:Hp):Option (V×Hp):=match a,b with| .d (.bool a),.d (.bool b)=>some (.d (.bool (if neg then !(a==b) else a==b)),h)|_,_=>none
@[simp] theorem eqbV_t (a b:Bool) (h:Hp):i3w true (.d (.bool a)) (.d (.bool b)) h=some (.d (.bool !(a==b)),h):=rfl
@[simp] theorem eqbV_f (a b:Bool) (h:Hp):i3w false (.d (.bool a)) (.d (.bool b)) h=some (.d (.bool (a==b)),h):=rfl
@[simp] theorem i5e (neg:Bool) (x y:Opd) (s:St):ev1 pg (.eqb neg x y) s=i3w neg (evO pg.toCx s.e x) (evO pg.toCx s.e y) s.h:=rfl
def eqaV (neg:Bool) (ks:List Nat) (a b:V) (h:Hp):Option (V×Hp):=match a,b with| .d (.agg a),.d (.agg b)=>if kindOk ks a b then some (.d (.bool (if neg then !eqL a b else eqL a b)),h) else none|_,_=>none
@[simp] theorem h9x (neg:Bool) (ks:List Nat) (a b:List D) (h:Hp):eqaV neg ks (.d (.agg a)) (.d (.agg b)) h=if kindOk ks a b then some (.d (.bool (if neg then !eqL a b else eqL a b)),h) else none:=rfl
@[simp] theorem i2q (neg:Bool) (ks:List Nat) (x y:Opd) (s:St):ev1 pg (.eqa neg ks x y) s=eqaV neg ks (evO pg.toCx s.e x) (evO pg.toCx s.e y) s.h:=rfl
@[simp] theorem h8e (f:Nat) (caps:List Opd) (s:St):ev1 pg (.mkfn f caps) s=some (.fn f (caps.map (evO pg.toCx s.e)),s.h):=rfl
def i5g (off:Nat) (n:Option Nat) (v:V):Option V:=match v with| .d (.agg c)=>a6u n (c.map V.d) off| .agg c=>a6u n c off|_=>none
@[simp] theorem fldV_d (off:Nat) (n:Option Nat) (c:List D):i5g off n (.d (.agg c))=a6u n (c.map V.d) off:=rfl
@[simp] theorem fldV_a (off:Nat) (n:Option Nat) (c:List V):i5g off n (.agg c)=a6u n c off:=rfl
@[simp] theorem i0x (off:Nat) (n:Option Nat) (x:Opd) (s:St):ev1 pg (.fld off n x) s=one s.h (i5g off n (evO pg.toCx s.e x)):=by
 simp only[ev1,a0s]
 generalize evO pg.toCx s.e x=v
 cases v with
 |d y=>cases y<;>rfl
 |_=>rfl
def i3b (off:Nat) (v:V):Option V:=match v with| .ptr id o=>some (.ptr id (o+off))| .ro l o=>some (.ro l (o+off))|_=>none
@[simp] theorem i0p (off id o:Nat):i3b off (.ptr id o)=some (.ptr id (o+off)):=rfl
@[simp] theorem i1t (off o:Nat) (l:List D):i3b off (.ro l o)=some (.ro l (o+off)):=rfl
@[simp] theorem h8h (off:Nat) (x:Opd) (s:St):ev1 pg (.fadr off x) s=one s.h (i3b off (evO pg.toCx s.e x)):=by
 simp only[ev1,a0s]
 generalize evO pg.toCx s.e x=v
 cases v<;>rfl
@[simp] theorem i4r (x:Opd) (i:Nat) (s:St):ev1 pg (.ext x i) s=one s.h (match evO pg.toCx s.e x with| .tup l=>l[i]? |_=>none):=by
  simp only[ev1,a0s]
  generalize evO pg.toCx s.e x=v
  cases v<;>rfl
@[simp] theorem h9a (f:Nat) (args:List Opd) (s:St):ev1 pg (.call f args) s=evF pg f (args.map fun x=>toArg s.h (evO pg.toCx s.e x)) s.h:=rfl
noncomputable def h4w (v:V) (args:List V) (h:Hp):Option (V×Hp):=match v with| .fn f c=>evF pg f (args++c) h| .fm f c=>evF pg f (c++args) h|_=>none
@[simp] theorem h9c (f:Nat) (c args:List V) (h:Hp):h4w pg (.fn f c) args h=evF pg f (args++c) h:=rfl
@[simp] theorem h0o (f:Opd) (args:List Opd) (s:St):ev1 pg (.callv f args) s=h4w pg (evO pg.toCx s.e f) (args.map fun x=>toArg s.h (evO pg.toCx s.e x)) s.h:=by
  simp only[ev1,a0s]
  generalize evO pg.toCx s.e f=v
  cases v<;>rfl
@[simp] theorem g8b (sz len:Nat) (ps:List Opd) (s:St):ev1 pg (.bslice sz len ps) s=match a0s.toDs' pg.toCx s.e s.h ps with
 |some l=>if l.length=len/\l.all (fun x=>x.cells.length==sz)/\0 < sz/\len*sz<=16777216 then some (.d (.sl l),s.h) else none
 |none=>none:=rfl
def g3l (sz:Nat) (x:V) (i:Option Nat) (h:Hp):Option (V×Hp):=match i with
 |none=>none
 |some n=>match x with
  | .arr id off len=>if n < len then some (.ptr id (off+n*sz),h) else none
  |v=>match lsize h v with
   |some l=>match l[n]? with
    |some y=>if y.cells.length=sz then some (.ro y.cells 0,h) else none
    |none=>none
   |none=>none
@[simp] theorem h8q (sz:Nat) (x i:Opd) (s:St):ev1 pg (.iadr sz x i) s=g3l sz (evO pg.toCx s.e x) (a4k (evO pg.toCx s.e i)) s.h:=rfl
def elV (sz:Nat) (y:Option D) (h:Hp):Option (V×Hp):=match y with|some y=>if y.cells.length=sz then some (.ro y.cells 0,h) else none|none=>none
@[simp] theorem h9t (sz:Nat) (y:D) (h:Hp):elV sz (some y) h=if y.cells.length=sz then some (.ro y.cells 0,h) else none:=rfl
@[simp] theorem i0b (sz:Nat) (h:Hp):elV sz none h=none:=rfl
@[simp] theorem i0n (sz n:Nat) (l:List D) (h:Hp):g3l sz (.d (.sl l)) (some n) h=elV sz l[n]? h:=by
 simp only[g3l,lsize,b2i,elV]
def f1i (len sz:Nat) (x:V) (i:Option Nat) (h:Hp):Option (V×Hp):=match i with
 |none=>none
 |some n=>if n < len then match x with
  | .ptr id o=>some (.ptr id (o+n*sz),h)
  | .ro l o=>some (.ro l (o+n*sz),h)
  |_=>none else none
@[simp] theorem h6a (len sz n o:Nat) (l:List D) (h:Hp):f1i len sz (.ro l o) (some n) h=if n < len then some (.ro l (o+n*sz),h) else none:=rfl
@[simp] theorem g8m (len sz n o id:Nat) (h:Hp):f1i len sz (.ptr id o) (some n) h=if n < len then some (.ptr id (o+n*sz),h) else none:=rfl
@[simp] theorem h4a (len sz:Nat) (x i:Opd) (s:St):ev1 pg (.iadra len sz x i) s=f1i len sz (evO pg.toCx s.e x) (a4k (evO pg.toCx s.e i)) s.h:=rfl
@[simp] theorem evO_g (cx:Cx) (e:Env) (i:Nat):evO cx e (.g i)= .ro (cx.gv i) 0:=rfl
theorem b5k (h:Hp):grew h h=true:=by simp[grew,a5e]
theorem f2y (h:Hp) (o:Ob):grew h (h++[o])=a5e (h.length+1) [o]:=by simp[grew]
@[simp] theorem i0e (l:List a0a) (s:St):evD pg 0 l s=evR pg l s:=by cases l<;>rfl
@[simp] theorem i2h (m:Nat) (s:St):evD pg m [] s=some s:=by cases m<;>rfl
noncomputable def dnd (d:Option Nat) (h:Hp) (r:Option St) (k:St->Option St):Option St:=r.bind fun s=>if(grew h s.h && b9t d s)=true then k s else none
@[simp] theorem h8g (d:Option Nat) (h:Hp) (s:St) (k):dnd d h (some s) k=if(grew h s.h && b9t d s)=true then k s else none:=rfl
@[simp] theorem h8b (d:Option Nat) (h:Hp) (k):dnd d h none k=none:=rfl
@[simp] theorem i0w (d:Option Nat) (h:Hp) (c:Prop) [Decidable c] (x y) (k):dnd d h (if c then x else y) k=if c then dnd d h x k else dnd d h y k:=by split<;>rfl
@[simp] theorem g9k (s:St):b9t none s=true:=rfl
@[simp] theorem g8k (d:Nat) (s:St):b9t (some d) s=(a1l s.e d).und s.h.length:=rfl
@[simp] theorem i0m (m:Nat) (d:Option Nat) (o:VOp) (r:List a0a) (s:St):evD pg (m+1) (⟨d,o,none⟩::r) s=dnd d s.h (lay d s.e s.b (ev1 pg o s)) (evD pg m r):=rfl
@[simp] theorem g9s (m:Nat) (d:Option Nat) (o:VOp) (g:Nat) (b:Bool) (r:List a0a) (s:St):evD pg (m+1) (⟨d,o,some (g,b)⟩::r) s=dnd d s.h (grd (a1l s.e g) b d s (ev1 pg o s)) (evD pg m r):=rfl
@[congr] theorem i1r {α:Sort _} {c c':Prop} [Decidable c] [Decidable c'] {x y x' y':α} (hc:c=c') (hx:c'->x=x') (hy:¬c'->y=y'):ite c x y=ite c' x' y':=by
 subst hc
 split
 ·exact hx (by assumption)
 ·exact hy (by assumption)
def b5p (keep:Bool) (res:List d3p) (n:Nat) (r:Option (Ex×St)):Option (V×Hp):=match r with
 |some (.nrm,s)|some (.ret,s)=>leave ⟨0,0,.skip,res,keep⟩ n s
 |_=>none
@[simp] theorem g8o (keep res n s):b5p keep res n (some (.ret,s))=leave ⟨0,0,.skip,res,keep⟩ n s:=rfl
@[simp] theorem g7z (keep res n s):b5p keep res n (some (.nrm,s))=leave ⟨0,0,.skip,res,keep⟩ n s:=rfl
@[simp] theorem g9d (keep res n) (c:Prop) [Decidable c] (x y):b5p keep res n (if c then x else y)=if c then b5p keep res n x else b5p keep res n y:=by split<;>rfl
theorem f7y (vf:VFn) (a:List V) (h:Hp):f3b pg vf a h=b5p vf.keep vf.res h.length (ev pg vf.body ⟨a1d a,h,h.length⟩):=rfl
theorem g0m {pg:Pg} {f:Nat} {vf:VFn} (ht:pg.tbl f=some (.code vf)) {a:List V} (hn:a.length=vf.np) (hu:(a0z 0 a && !vf.keep)=true) {r:V} {h':Hp} (hb:b5p vf.keep vf.res 0 (ev pg vf.body ⟨a1d a,[],0⟩)=some (r,h')) (H:Hp):evF pg f a H=some (r,H):=by
 rw[e3o ht,if_pos hn,hu]
 simp only[bare]
 rw[f7y]
 simp only[List.length_nil]
 rw[hb];rfl
theorem f2v {pg:Pg} {f:Nat} {vf:VFn} (ht:pg.tbl f=some (.code vf)) {a:List V} (hn:a.length=vf.np) {H:Hp} (hu:(a0z 0 a && !vf.keep)=false):evF pg f a H=b5p vf.keep vf.res H.length (ev pg vf.body ⟨a1d a,H,H.length⟩):=by
 rw[e3o ht,if_pos hn,hu]
 rfl
def e9l (z:List V) (qs:List (Nat×Nat×V)) (h:Hp):Option (V×Hp):=if qs.all (fun q=>q.2.2.cells.all V.one) then(c2m z qs).map fun c=>(b1g c,h) else none
@[simp] theorem h6l (z:List V) (ps:List (Nat×Nat×Opd)) (s:St):ev1 pg (.build z ps) s=e9l z (ps.map fun p=>(p.1,p.2.1,evO pg.toCx s.e p.2.2)) s.h:=by
  simp only[ev1,a0s,e9l,List.all_map,Function.comp_def]
@[simp] theorem h0v (z:List V):c2m z []=some z:=rfl
@[simp] theorem g8c (z:List V) (off n:Nat) (v:V) (r:List (Nat×Nat×V)):c2m z ((off,n,v)::r)=if v.cells.length=n/\off+n<=z.length then c2m (putAt z off v.cells) r else none:=rfl
def h4y (x:Option D) (l:Option (List D)):Option (List D):=match x,l with|some y,some ys=>some (y::ys)|_,_=>none
@[simp] theorem g8w (x:D) (l:List D):h4y (some x) (some l)=some (x::l):=rfl
@[simp] theorem h1h (cx:Cx) (e:Env) (H:Hp):a0s.toDs' cx e H []=some []:=rfl
@[simp] theorem g8z (cx:Cx) (e:Env) (H:Hp) (x:Opd) (r:List Opd):a0s.toDs' cx e H (x::r)=h4y (toD H (evO cx e x)) (a0s.toDs' cx e H r):=rfl
@[simp] theorem toD_d (H:Hp) (x:D):toD H (.d x)=some x:=by simp[toD,b2i]
@[simp] theorem h8f (H:Hp):toD H .nils=some (.sl []):=by simp[toD,b2i]
@[simp] theorem toD1_d (H:Hp) (x:D):b2i H (.d x)=some x:=by simp[b2i]
@[simp] theorem h4k (H:Hp):b2i H .nils=some (.sl []):=by simp[b2i]
def h7z (o:Option Ob) (len:Nat):Option D:=match o with|some (.row _ l)=>if l.length=len then some (.sl l) else none|_=>none
@[simp] theorem i0v (sz len:Nat) (l:List D):h7z (some (.row sz l)) len=if l.length=len then some (.sl l) else none:=rfl
@[simp] theorem h7t (H:Hp) (id len:Nat):b2i H (.row id len)=h7z H[id]? len:=rfl
@[simp] theorem i2f (H:Hp) (id len:Nat):toD H (.row id len)=h7z H[id]? len:=rfl
def g7v (o:Option D) (v:V):V:=match o with|some x=> .d x|none=>v
@[simp] theorem g8y (x:D) (v:V):g7v (some x) v= .d x:=rfl
@[simp] theorem g8d (v:V):g7v none v=v:=rfl
@[simp] theorem h5g (H:Hp) (id len:Nat):toArg H (.row id len)=g7v (h7z H[id]? len) (.row id len):=rfl
def idxV (i:Option Nat) (v:V) (h:Hp):Option (V×Hp):=match i,v with|some n,.d (.str s)=>(s[n]?).map fun b=>(.d (.int .u8 b.toNat),h)|_,_=>none
@[simp] theorem g9z (n:Nat) (s:List UInt8) (h:Hp):idxV (some n) (.d (.str s)) h=(s[n]?).map fun b=>(.d (.int .u8 b.toNat),h):=rfl
@[simp] theorem i1g (x i:Opd) (s:St):ev1 pg (.idx x i) s=idxV (a4k (evO pg.toCx s.e i)) (evO pg.toCx s.e x) s.h:=rfl
def h2a (v:V) (lo:Option Nat) (hi:Nat->Option Nat) (h:Hp):Option (V×Hp):=match v,lo with
 | .d (.str s),some l=>match hi s.length with
   |some k=>if l<=k/\k<=s.length then some (.d (.str ((s.take k).drop l)),h) else none
   |none=>none
 |_,_=>none
@[simp] theorem h9z (x:Opd) (lo hi:Option Opd) (s:St):ev1 pg (.slcs x lo hi) s=h2a (evO pg.toCx s.e x) (a0s.bound pg.toCx s.e 0 lo) (fun d=>a0s.bound pg.toCx s.e d hi) s.h:=rfl
def h4s (s:List UInt8) (l:Nat) (k:Option Nat) (h:Hp):Option (V×Hp):=match k with|some k=>if l<=k/\k<=s.length then some (.d (.str ((s.take k).drop l)),h) else none|none=>none
@[simp] theorem g8e (s:List UInt8) (l:Nat) (hi:Nat->Option Nat) (h:Hp):h2a (.d (.str s)) (some l) hi h=h4s s l (hi s.length) h:=rfl
@[simp] theorem g9l (s:List UInt8) (l k:Nat) (h:Hp):h4s s l (some k) h=if l<=k/\k<=s.length then some (.d (.str ((s.take k).drop l)),h) else none:=rfl
@[simp] theorem g8s (cx:Cx) (e:Env) (d:Nat):a0s.bound cx e d none=some d:=rfl
@[simp] theorem g9j (cx:Cx) (e:Env) (d:Nat) (x:Opd):a0s.bound cx e d (some x)=a4k (evO cx e x):=rfl
def slcV (sz:Nat) (z:Bool) (s:Option (List D)) (lo:Option Nat) (hi:Nat->Option Nat) (h:Hp):Option (V×Hp):=match s,lo with
 |some s,some l=>match hi s.length with
  |some k=>if l<=k/\k<=s.length/\(z||s.all (fun y=>y.cells.length==sz))=true then some (.d (.sl ((s.take k).drop l)),h) else none
  |none=>none
 |_,_=>none
@[simp] theorem i4z (sz:Nat) (x:Opd) (lo hi:Option Opd) (s:St):ev1 pg (.slc sz x lo hi) s=slcV sz lo.isNone (lsize s.h (evO pg.toCx s.e x)) (a0s.bound pg.toCx s.e 0 lo) (fun d=>a0s.bound pg.toCx s.e d hi) s.h:=rfl
def slcK (sz:Nat) (z:Bool) (s:List D) (l:Nat) (k:Option Nat) (h:Hp):Option (V×Hp):=match k with|some k=>if l<=k/\k<=s.length/\(z||s.all (fun y=>y.cells.length==sz))=true then some (.d (.sl ((s.take k).drop l)),h) else none|none=>none
@[simp] theorem h3t (sz:Nat) (z:Bool) (s:List D) (l:Nat) (hi:Nat->Option Nat) (h:Hp):slcV sz z (some s) (some l) hi h=slcK sz z s l (hi s.length) h:=rfl
@[simp] theorem h4r (sz:Nat) (z:Bool) (s:List D) (l k:Nat) (h:Hp):slcK sz z s l (some k) h=if l<=k/\k<=s.length/\(z||s.all (fun y=>y.cells.length==sz))=true then some (.d (.sl ((s.take k).drop l)),h) else none:=rfl
def szOf (o:Option D):Option (List D):=match o with|some (.sl l)=>some l|_=>none
@[simp] theorem i2y (l:List D):szOf (some (.sl l))=some l:=rfl
@[simp] theorem h9f (H:Hp) (v:V):lsize H v=szOf (b2i H v):=rfl
def g9a (str:Bool) (v:V) (h:Hp):Option (V×Hp):=match str,v with
 |true,.d (.str s)=>some (.d (.int .i64 s.length),h)
 |false,v=>(d1h v).map fun(n:Nat)=>(V.d (.int .i64 (n:Int)),h)
 |_,_=>none
@[simp] theorem h8r (s:List UInt8) (h:Hp):g9a true (.d (.str s)) h=some (.d (.int .i64 s.length),h):=rfl
@[simp] theorem i2p (l:List D) (h:Hp):g9a false (.d (.sl l)) h=some (.d (.int .i64 l.length),h):=rfl
@[simp] theorem h7j (h:Hp):g9a false .nils h=some (.d (.int .i64 0),h):=rfl
@[simp] theorem h9l (i n:Nat) (h:Hp):g9a false (.row i n) h=some (.d (.int .i64 n),h):=rfl
@[simp] theorem h8k (i o n:Nat) (h:Hp):g9a false (.arr i o n) h=some (.d (.int .i64 n),h):=rfl
@[simp] theorem i1p (str:Bool) (x:Opd) (s:St):ev1 pg (.len str x) s=g9a str (evO pg.toCx s.e x) s.h:=by
 simp only[ev1,a0s]
 generalize evO pg.toCx s.e x=v
 cases str
 ·rfl
 ·cases v with
  |d y=>cases y<;>rfl
  |_=>rfl
def g0x (v:V) (h:Hp):Option (V×Hp):=match v with| .d (.str s)=>some (.d (.str s),h)|_=>none
@[simp] theorem g8l (s:List UInt8) (h:Hp):g0x (.d (.str s)) h=some (.d (.str s),h):=rfl
@[simp] theorem h2i (x:Opd) (s:St):ev1 pg (.convs x) s=g0x (evO pg.toCx s.e x) s.h:=rfl
def i4o (sz bytes:Nat) (v:V) (ys:Option (List D)) (h:Hp):Option (V×Hp):=match ys with
 |none=>none
 |some ys=>if ys.all (fun y=>y.cells.length==sz)/\0 < sz then
  (match v with
    | .nile=>if ys=[] then some (.nile,h) else if roomy ys.length bytes then some (.row h.length ys.length,h++[.row sz ys]) else none
    | .nils=>if ys=[] then some (.nils,h) else if roomy ys.length bytes then some (.row h.length ys.length,h++[.row sz ys]) else none
    | .row id len=>match h[id]? with
      |some (.row sz' l)=>if sz'=sz/\l.length=len/\roomy (len+ys.length) bytes then some (.row id (len+ys.length),h.set id (.row sz (l++ys))) else none
      |_=>none
    |_=>none) else none
@[simp] theorem i3z (sz bytes:Nat) (x y:Opd) (s:St):ev1 pg (.app sz bytes x y) s=i4o sz bytes (evO pg.toCx s.e x) (lsize s.h (evO pg.toCx s.e y)) s.h:=rfl
def appR (sz bytes id len:Nat) (ys:List D) (o:Option Ob) (h:Hp):Option (V×Hp):=match o with
 |some (.row sz' l)=>if sz'=sz/\l.length=len/\roomy (len+ys.length) bytes then some (.row id (len+ys.length),h.set id (.row sz (l++ys))) else none
 |_=>none
@[simp] theorem h7v (sz bytes id len:Nat) (ys:List D) (h:Hp):i4o sz bytes (.row id len) (some ys) h=if ys.all (fun y=>y.cells.length==sz)/\0 < sz then appR sz bytes id len ys h[id]? h else none:=rfl
@[simp] theorem h8d (sz sz' bytes id len:Nat) (ys l:List D) (h:Hp):appR sz bytes id len ys (some (.row sz' l)) h=if sz'=sz/\l.length=len/\roomy (len+ys.length) bytes then some (.row id (len+ys.length),h.set id (.row sz (l++ys))) else none:=rfl
@[simp] theorem h3e (sz bytes:Nat) (ys:List D) (h:Hp):i4o sz bytes .nils (some ys) h=if ys.all (fun y=>y.cells.length==sz)/\0 < sz then(if ys=[] then some (.nils,h) else if roomy ys.length bytes then some (.row h.length ys.length,h++[.row sz ys]) else none) else none:=rfl
def mmV (mx:Bool) (a b:V) (h:Hp):Option (V×Hp):=match a,b with
 | .d (.int k a),.d (.int k' b)=>if k=k' then some (.d (.int k (if mx then max a b else min a b)),h) else none
 |_,_=>none
@[simp] theorem i1q (mx:Bool) (k k':IntKind) (a b:Int) (h:Hp):mmV mx (.d (.int k a)) (.d (.int k' b)) h=if k=k' then some (.d (.int k (if mx then max a b else min a b)),h) else none:=rfl
@[simp] theorem ev1_mm (mx:Bool) (x y:Opd) (s:St):ev1 pg (.mm mx x y) s=mmV mx (evO pg.toCx s.e x) (evO pg.toCx s.e y) s.h:=rfl
end
end Go.Vm
