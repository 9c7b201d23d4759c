import Derived.Test.YtkedogplneaaiaaGreatDoorVmDrawSound
import Derived.Test.YtkedogplneaaiaaGreatDoorVmOps2
import Derived.Test.YtkedogplneaaiaaGreatDoorVmFn
import Derived.KernelRfl
import Derived.Test.YtkedogplneaaiaaGreatDoorProg
set_option linter.unusedVariables false
set_option linter.unusedSimpArgs false
namespace Go.Vm
mutual
def V.sh (σ:Nat->Nat):V->V
 | .agg l=> .agg (shL σ l)
 | .tup l=> .tup (shL σ l)
 | .row id n=> .row (σ id) n
 | .arr id o n=> .arr (σ id) o n
 | .ptr id o=> .ptr (σ id) o
 | .fn f c=> .fn f (shL σ c)
 | .fm f c=> .fm f (shL σ c)
 | .mp id=> .mp (σ id)
 | .d x=> .d x
 | .nils=> .nils
 | .ro l o=> .ro l o
 | .nul=> .nul
 | .nof=> .nof
 | .ifc b=> .ifc b
 | .raw x=> .raw x
 | .nmp=> .nmp
 | .nile=> .nile
 | .undef=> .undef
def shL (σ:Nat->Nat):List V->List V
 |[]=>[]
 |v::r=>v.sh σ::shL σ r
end
def Ob.sh (σ:Nat->Nat):Ob->Ob
 | .box c=> .box (shL σ c)
 | .frz c=> .frz c
 | .row n l=> .row n l
 | .map l=> .map l
def shE (σ:Nat->Nat) (e:Env):Env:=e.map fun p=>(p.1,p.2.sh σ)
section
variable {σ:Nat->Nat}
theorem a4n:∀ l:List V,shL σ l=l.map (V.sh σ)
 |[]=>rfl
 |v::r=>by rw[shL,a4n r];rfl
theorem a8n (l:List V):(shL σ l).length=l.length:=by rw[a4n,List.length_map]
theorem b5e (a b:List V):shL σ (a++b)=shL σ a++shL σ b:=by rw[a4n,a4n,a4n,List.map_append]
theorem c1s (l:List V) (i:Nat):(shL σ l)[i]? =(l[i]?).map (V.sh σ):=by rw[a4n,List.getElem?_map]
theorem f4b (l:List V) (i:Nat):(shL σ l).take i=shL σ (l.take i):=by rw[a4n,a4n,List.map_take]
theorem f4k (l:List V) (i:Nat):(shL σ l).drop i=shL σ (l.drop i):=by rw[a4n,a4n,List.map_drop]
theorem f4g (l:List D):shL σ (l.map V.d)=l.map V.d:=by rw[a4n,List.map_map];rfl
mutual
theorem c1e:∀ v:V,v.und 0=true->v.sh σ=v
 | .agg l,h=>by rw[V.sh,a8h l (by simpa only[V.und] using h)]
 | .tup l,h=>by rw[V.sh,a8h l (by simpa only[V.und] using h)]
 | .fn f l,h=>by rw[V.sh,a8h l (by simpa only[V.und] using h)]
 | .fm f l,h=>by rw[V.sh,a8h l (by simpa only[V.und] using h)]
 | .row _ _,h=>by simp[V.und]at h
 | .arr _ _ _,h=>by simp[V.und]at h
 | .ptr _ _,h=>by simp[V.und]at h
 | .mp _,h=>by simp[V.und]at h
 | .d _,_=>rfl
 | .nils,_=>rfl
 | .ro _ _,_=>rfl
 | .nul,_=>rfl
 | .nof,_=>rfl
 | .ifc _,_=>rfl
 | .raw _,_=>rfl
 | .nmp,_=>rfl
 | .nile,_=>rfl
 | .undef,_=>rfl
theorem a8h:∀ l:List V,a0w 0 l=true->shL σ l=l
 |[],_=>rfl
 |v::r,h=>by
  simp only[a0w,Bool.and_eq_true]at h
  rw[shL,c1e v h.1,a8h r h.2]
end
mutual
theorem g3m:∀ v:V,(v.sh σ).und 0=v.und 0
 | .agg l=>by simp only[V.sh,V.und];exact b5a l
 | .tup l=>by simp only[V.sh,V.und];exact b5a l
 | .fn f l=>by simp only[V.sh,V.und];exact b5a l
 | .fm f l=>by simp only[V.sh,V.und];exact b5a l
 | .row _ _=>by simp[V.sh,V.und]
 | .arr _ _ _=>by simp[V.sh,V.und]
 | .ptr _ _=>by simp[V.sh,V.und]
 | .mp _=>by simp[V.sh,V.und]
 | .d _=>rfl
 | .nils=>rfl
 | .ro _ _=>rfl
 | .nul=>rfl
 | .nof=>rfl
 | .ifc _=>rfl
 | .raw _=>rfl
 | .nmp=>rfl
 | .nile=>rfl
 | .undef=>rfl
theorem b5a:∀ l:List V,a0w 0 (shL σ l)=a0w 0 l
 |[]=>rfl
 |v::r=>by simp only[shL,a0w,g3m v,b5a r]
end
theorem h0d (v:V):(v.sh σ).one=v.one:=by
 cases v<;>first|rfl|skip
theorem c9i (l:List V):(shL σ l).all V.one=l.all V.one:=by
 rw[a4n,List.all_map];congr 1;funext v;exact h0d v
theorem b8c (v:V):(v.sh σ).cells=shL σ v.cells:=by
 cases v with
 |d x=>cases x<;>first|rfl|exact(f4g _).symm
 |_=>rfl
theorem d5z:∀ l:List V,b6m (shL σ l)=b6m l
 |[]=>rfl
 |v::r=>by
  cases v<;>simp only[shL,V.sh,b6m]
  rw[d5z r]
theorem d8q (l:List V):a9w (shL σ l)=(a9w l).sh σ:=by
 unfold a9w
 rw[d5z]
 cases b6m l<;>rfl
theorem a7m (e:Env) (i:Nat):a1k (shE σ e) i=(a1k e i).sh σ:=by
 induction e with
 |nil=>rfl
 |cons p r ih=>
  obtain⟨k,v⟩:=p
  simp only[shE,List.map_cons,a1k]at ih⊢
  split<;>first|rfl|exact ih
theorem c3g:∀ (c:List V) (n:Nat) (vs:List V),putAt (shL σ c) n (shL σ vs)=shL σ (putAt c n vs)
 |c,n,[]=>by cases c<;>cases n<;>simp[putAt,shL]
 |[],n,v::vs=>by cases n<;>simp[putAt,shL]
 |c::cs,0,v::vs=>by simp only[shL,putAt];rw[<-c3g cs 0 vs]
 |c::cs,n+1,v::vs=>by
  simp only[shL,putAt]
  rw[<-c3g cs n (v::vs)];rfl
theorem c9k (n:Option Nat) (c:List V) (off:Nat):a5q n (shL σ c) off=(a5q n c off).map (V.sh σ):=by
 cases n with
 |none=>exact c1s c off
 |some n=>
  simp only[a5q,a8n]
  split
  ·rw[f4k,f4b,d8q];rfl
  ·rfl
end
structure Mv (σ:Nat->Nat) (n:Nat) (HB:Hp):Prop where
 mono:∀ i j,i < j->σ i < σ j
 top:∀ j,σ (n+j)=HB.length+j
structure HR (σ:Nat->Nat) (n:Nat) (HB h H:Hp):Prop where
 le:n<=h.length
 len:H.length=σ h.length
 get:∀ i o,h[i]? =some o->H[σ i]? =some (o.sh σ)
 out:∀ j,j < HB.length->(∀ i,i < n->σ i≠j)->H[j]? =HB[j]?
section
variable {σ:Nat->Nat} {n:Nat} {HB:Hp} (hm:Mv σ n HB)
include hm
theorem Mv.lt {i j:Nat}:σ i < σ j↔i < j:=by
 constructor
 ·intro h
  rcases Nat.lt_trichotomy i j with h1|h1|h1
  ·exact h1
  ·subst h1;omega
  ·have:=hm.mono _ _ h1;omega
 ·exact hm.mono i j
theorem Mv.le {i j:Nat}:σ i<=σ j↔i<=j:=by
 have:=hm.lt (i:=j) (j:=i);omega
theorem Mv.inj {i j:Nat} (h:σ i=σ j):i=j:=by
 rcases Nat.lt_trichotomy i j with h1|h1|h1
 ·have:=hm.mono _ _ h1;omega
 ·exact h1
 ·have:=hm.mono _ _ h1;omega
mutual
theorem e7c (m:Nat):∀ v:V,(v.sh σ).und (σ m)=v.und m
 | .agg l=>by simp only[V.sh,V.und];exact b4g m l
 | .tup l=>by simp only[V.sh,V.und];exact b4g m l
 | .fn f l=>by simp only[V.sh,V.und];exact b4g m l
 | .fm f l=>by simp only[V.sh,V.und];exact b4g m l
 | .row id _=>by simp only[V.sh,V.und,hm.lt]
 | .arr id _ _=>by simp only[V.sh,V.und,hm.lt]
 | .ptr id _=>by simp only[V.sh,V.und,hm.lt]
 | .mp id=>by simp only[V.sh,V.und,hm.lt]
 | .d _=>rfl
 | .nils=>rfl
 | .ro _ _=>rfl
 | .nul=>rfl
 | .nof=>rfl
 | .ifc _=>rfl
 | .raw _=>rfl
 | .nmp=>rfl
 | .nile=>rfl
 | .undef=>rfl
theorem b4g (m:Nat):∀ l:List V,a0w (σ m) (shL σ l)=a0w m l
 |[]=>(fun _=>rfl) hm
 |v::r=>by simp only[shL,a0w,e7c m v,b4g m r]
end
theorem d9k (m:Nat):∀ l:Hp,a4k (σ m) (l.map (Ob.sh σ))=a4k m l
 |[]=>rfl
 |o::l=>by
  cases o<;>simp only[List.map_cons,Ob.sh,a4k,d9k m l,b4g hm]
theorem HR.get? {h H:Hp} (r:HR σ n HB h H) (i:Nat):H[σ i]? =(h[i]?).map (Ob.sh σ):=by
 cases ho:h[i]? with
 |some o=>exact r.get i o ho
 |none=>
  rw[List.getElem?_eq_none_iff]at ho
  have:=hm.le.2 ho
  simp only[Option.map_none,List.getElem?_eq_none_iff]
  rw[r.len];exact this
theorem Mv.cover (j:Nat):(∃ i,σ i=j)\/(j < HB.length/\∀ i,i < n->σ i≠j):=by
 by_cases h:j < HB.length
 ·by_cases hx:∃ i,σ i=j
  ·exact .inl hx
  ·exact .inr ⟨h,fun i _ e=>hx ⟨i,e⟩⟩
 ·refine .inl ⟨n+(j - HB.length),?_⟩
  rw[hm.top];omega
theorem HR.app {h H H' l:Hp} (r:HR σ n HB h H) (r':HR σ n HB (h++l) H'):H'=H++l.map (Ob.sh σ):=by
 have hpos:∀ i,h.length<=i->σ i=H.length+(i - h.length):=by
  intro i hi
  have e1:=hm.top (i - n)
  have e2:=hm.top (h.length - n)
  have:=r.le
  rw[show n+(i - n)=i by omega]at e1
  rw[show n+(h.length - n)=h.length by omega]at e2
  rw[r.len,e1,e2];omega
 apply List.ext_getElem?
 intro j
 rcases hm.cover j with⟨i,rfl⟩|⟨h1,h2⟩
 ·rw[r'.get? hm]
  by_cases hi:i < h.length
  ·have:σ i < H.length:=by rw[r.len];exact hm.mono _ _ hi
   rw[List.getElem?_append_left hi,List.getElem?_append_left this,r.get? hm]
  ·have e:=hpos i om
   rw[List.getElem?_append_right om,List.getElem?_append_right om,List.getElem?_map]
   congr 2;omega
 ·have:j < H.length:=by
   have e2:=hm.top (h.length - n)
   have:=r.le
   rw[show n+(h.length - n)=h.length by omega]at e2
   rw[r.len,e2];omega
  rw[r'.out j h1 h2,List.getElem?_append_left this,r.out j h1 h2]
theorem HR.snoc {h H:Hp} (r:HR σ n HB h H) (o:Ob):HR σ n HB (h++[o]) (H++[o.sh σ]):=by
 have hl:σ (h.length+1)=H.length+1:=by
  have e1:=hm.top (h.length+1 - n)
  have e2:=hm.top (h.length - n)
  have:=r.le
  rw[show n+(h.length+1 - n)=h.length+1 by omega]at e1
  rw[show n+(h.length - n)=h.length by omega]at e2
  rw[r.len,e1,e2];omega
 refine⟨by have:=r.le;simp;omega,by simp[hl],fun i o' hi=>?_,fun j h1 h2=>?_⟩
 ·by_cases hlt:i < h.length
  ·rw[List.getElem?_append_left hlt]at hi
   have:σ i < H.length:=by rw[r.len];exact hm.mono _ _ hlt
   rw[List.getElem?_append_left this];exact r.get i o' hi
  ·have:i=h.length:=by have:=(List.getElem?_eq_some_iff.1 hi).1;simp at this;omega
   subst this
   simp at hi;subst hi
   rw[<-r.len];simp
 ·have:j < H.length:=by
   have e2:=hm.top (h.length - n)
   have:=r.le
   rw[show n+(h.length - n)=h.length by omega]at e2
   rw[r.len,e2];omega
  rw[List.getElem?_append_left this];exact r.out j h1 h2
theorem HR.set {h H:Hp} (r:HR σ n HB h H) {id:Nat} (hid:id < h.length) (o:Ob):HR σ n HB (h.set id o) (H.set (σ id) (o.sh σ)):=by
 have hlt:σ id < H.length:=by rw[r.len];exact hm.mono _ _ hid
 refine⟨by have:=r.le;simp;omega,by simp[r.len],fun i o' hi=>?_,fun j h1 h2=>?_⟩
 ·by_cases he:id=i
  ·subst he
   rw[List.getElem?_set_self hid]at hi;cases hi
   rw[List.getElem?_set_self hlt]
  ·rw[List.getElem?_set_ne he]at hi
   rw[List.getElem?_set_ne (fun e=>he (hm.inj e))];exact r.get i o' hi
 ·by_cases he:σ id=j
  ·by_cases hn:id < n
   ·exact absurd he (h2 id hn)
   ·have e1:=hm.top (id - n)
    rw[show n+(id - n)=id by omega]at e1
    omega
  ·rw[List.getElem?_set_ne he];exact r.out j h1 h2
theorem HR.take {h H:Hp} (r:HR σ n HB h H) {m:Nat} (hn:n<=m):HR σ n HB (h.take m) (H.take (σ m)):=by
 refine⟨by have:=r.le;simp;omega,?_,fun i o hi=>?_,fun j h1 h2=>?_⟩
 ·rw[List.length_take,List.length_take,r.len]
  by_cases hc:m<=h.length
  ·rw[Nat.min_eq_left hc,Nat.min_eq_left (hm.le.2 hc)]
  ·have hc':h.length<=m:=om
   rw[Nat.min_eq_right hc',Nat.min_eq_right (hm.le.2 hc')]
 ·rw[List.getElem?_take]at hi
  split at hi
  ·rename_i hlt
   rw[List.getElem?_take,if_pos (hm.mono _ _ hlt)];exact r.get i o hi
  ·cases hi
 ·have e1:=hm.top (m - n)
  rw[show n+(m - n)=m by omega]at e1
  rw[List.getElem?_take,if_pos om];exact r.out j h1 h2
theorem d5o {h H:Hp} (r:HR σ n HB h H) (v:V):b1i H (v.sh σ)=b1i h v:=by
 cases v<;>simp only[V.sh,b1i]
 ·rename_i id len
  rw[r.get? hm]
  cases h[id]? with
  |none=>rfl
  |some o=>cases o<;>rfl
 ·rename_i id off len
  rw[r.get? hm]
  cases h[id]? with
  |none=>rfl
  |some o=>cases o<;>rfl
theorem f0p {h H:Hp} (r:HR σ n HB h H):∀ l:List V,e4x H (shL σ l)=e4x h l
 |[]=>rfl
 |v::l=>by simp only[shL,e4x,d5o hm r v,f0p r l]
theorem e0l {h H:Hp} (r:HR σ n HB h H) (v:V):toD H (v.sh σ)=toD h v:=by
 have key:∀ (H:Hp) (v:V),(∀ l,v≠ .agg l)->toD H v=b1i H v:=by
  intro H v hv
  cases v<;>first|rfl|exact absurd rfl (hv _)
 by_cases hv:∃ l,v= .agg l
 ·obtain⟨l,rfl⟩:=hv
  simp only[V.sh,toD,f0p hm r l]
 ·have h1:∀ l,v≠ .agg l:=fun l e=>hv ⟨l,e⟩
  have h2:∀ l,v.sh σ≠ .agg l:=by
   intro l e
   cases v<;>simp only[V.sh]at e<;>first|exact absurd rfl (h1 _)|cases e
  rw[key _ _ h1,key _ _ h2];exact d5o hm r v
theorem e0a {h H:Hp} (r:HR σ n HB h H) (v:V):toArg H (v.sh σ)=(toArg h v).sh σ:=by
 unfold toArg
 rw[e0l hm r]
 cases toD h v<;>rfl
theorem d0a {h H:Hp} (r:HR σ n HB h H) (v:V):lsize H (v.sh σ)=lsize h v:=by unfold lsize;rw[d5o hm r]
end
def Opd.cst:Opd->Bool
 | .c v=>v.und 0
 |_=>true
def VOp.f5h:VOp->List Opd
 | .mv x| .box x| .ld _ x| .nilck x| .un _ x| .conv _ x| .fld _ _ x| .fadr _ x| .ext x _| .len _ x| .convs x| .mark x| .isnil _ x=>[x]
 | .pick c a b=>[c,a,b]
 | .zbox _| .mkm| .no| .brow _=>[]
 | .build _ ps=>ps.map fun p=>p.2.2
 | .bslice _ _ ps| .blit _ _ ps=>ps
 | .abs _ ps=>ps
 | .st _ a x=>[a,x]
 | .bin _ x y| .eqa _ _ x y| .eqb _ x y| .iadr _ x y| .iadra _ _ x y| .idx x y| .app _ _ x y| .mm _ x y| .mget _ _ _ x y| .ment _ _ x y=>[x,y]
 | .c0m _ x y z| .mest x y z=>[x,y,z]
 | .mkfn _ c=>c
 | .mkfm _ c=>c
 | .slcs x lo hi| .slc _ x lo hi=>x::(lo.toList++hi.toList)
 | .call _ args=>args
 | .callv f args=>f::args
 | .msl _ _ _ n=>[n]
def VOp.cst (o:VOp):Bool:=o.f5h.all Opd.cst && (match o with| .zbox z| .build z _| .msl _ _ z _=>a0w 0 z|_=>true)
def a0e.cst:a0e->Bool
 | .reg ops| .draw _ ops=>ops.all fun o=>o.op.cst
 | .seq a b=>a.cst && b.cst
 | .cond c a b=>c.cst && (a.cst && b.cst)
 | .block _ b| .scope b| .loop _ b=>b.cst
 |_=>true
def OSh (σ:Nat->Nat) (n:Nat) (HB:Hp) (o o':Orc):Prop:=∀ f a h r h' H,HR σ n HB h H->o f a h=some (r,h')->∃ H',o' f (shL σ a) H=some (r.sh σ,H')/\HR σ n HB h' H'
section
variable {σ:Nat->Nat} {n:Nat} {HB:Hp} (hm:Mv σ n HB) {cx:Cx} {o o':Orc}
theorem a0y {e:Env} {x:Opd} (hc:x.cst=true):evO cx (shE σ e) x=(evO cx e x).sh σ:=by
 cases x with
 |t i=>exact a7m e i
 |c v=>exact(c1e v hc).symm
 |g i=>rfl
 |f i=>rfl
theorem c3n {e:Env} {d:Nat} {x:Option Opd} (hc:x.toList.all Opd.cst=true):a0q.bound cx (shE σ e) d x=a0q.bound cx e d x:=by
 cases x with
 |none=>rfl
 |some x=>
  simp only[a0q.bound]
  rw[a0y (by simpa using hc)]
  cases evO cx e x<;>rfl
include hm
theorem c3d {e:Env} {h H:Hp} (r:HR σ n HB h H):∀ {l:List Opd},l.all Opd.cst=true->a0q.toDs' cx (shE σ e) H l=a0q.toDs' cx e h l
 |[],_=>rfl
 |x::l,hc=>by
  simp only[List.all_cons,Bool.and_eq_true]at hc
  simp only[a0q.toDs',a0y hc.1,e0l hm r,c3d r hc.2]
theorem c0r {e:Env} {h H:Hp} (r:HR σ n HB h H):∀ {l:List Opd},l.all Opd.cst=true->(l.map fun x=>toArg H (evO cx (shE σ e) x))=shL σ (l.map fun x=>toArg h (evO cx e x))
  |[],_=>rfl
  |x::l,hc=>by
   simp only[List.all_cons,Bool.and_eq_true]at hc
   simp only[List.map_cons,shL,a0y hc.1,e0a hm r,c0r r hc.2]
omit hm in
theorem f6t (ps:List (Nat×Nat×V)):∀ z:List V,b9z (shL σ z) (ps.map fun p=>(p.1,p.2.1,p.2.2.sh σ))=(b9z z ps).map (shL σ):=by
  induction ps with
  |nil=>intro z;rfl
  |cons p r ih=>
   intro z
   obtain⟨off,k,v⟩:=p
   simp only[List.map_cons,b9z,b8c,a8n]
   split
   ·rw[c3g,ih]
   ·rfl
omit hm in
theorem c6t (v:V):a3z (v.sh σ)=a3z v:=by cases v<;>rfl
omit hm in
theorem g4w (v:V):c9n (v.sh σ)=c9n v:=by cases v<;>rfl
omit hm in
theorem g2x (op:BinOp) (x y:V):a7n op (x.sh σ) (y.sh σ)=a7n op x y:=by
 cases x with
 |d x=>cases y<;>cases x<;>rfl
 |_=>rfl
omit hm in
theorem f3m {op:BinOp} {x y r:V} (h:a7n op x y=some r):r.und 0=true:=by
 unfold a7n at h
 split at h
 ·split at h
  all_goals
   first
   |(split at h<;>first|(cases h;rfl)|cases h)
   |(obtain⟨_,_,rfl⟩:=Option.map_eq_some_iff.1 h;rfl)
   |(split at h<;>first|(obtain⟨_,_,rfl⟩:=Option.map_eq_some_iff.1 h;rfl)|cases h)
 ·split at h
  all_goals
   first
   |(split at h<;>first|(cases h;rfl)|cases h)
   |(cases h;rfl)
   |cases h
 ·cases h
omit hm in
theorem h3f (op:UnOp) (x:V):unV op (x.sh σ)=unV op x:=by cases x<;>rfl
omit hm in
theorem g4s {op:UnOp} {x r:V} (h:unV op x=some r):r.und 0=true:=by
 unfold unV at h
 split at h
 ·split at h<;>first|(cases h;rfl)|cases h
 ·split at h<;>first|(cases h;rfl)|cases h
 ·cases h
omit hm in
theorem f3h (ok:Bool) (z:D) (r:Option D):(h4p ok z r).und 0=true:=by
 cases ok<;>cases r<;>rfl
set_option maxHeartbeats 2000000 in
theorem e2a {c:List V} {off:Nat}:∀ {xs:List V},b0s (shL σ c) off (shL σ xs)=b0s c off xs
 |[]=>rfl
 |[v]=>by
  have _h0:=hm.top
  cases v with
  |row i k=>
   simp only[shL,V.sh,b0s,c1s]
   cases c[off]? with
   |none=>rfl
   |some u=>
    cases u with
    |row j m=>
     simp only[Option.map_some,V.sh]
     apply Bool.eq_iff_iff.2
     rw[Nat.beq_eq,Nat.beq_eq]
     constructor
     ·intro h
      rcases Nat.lt_trichotomy i j with q|q|q
      ·have:=hm.mono _ _ q;omega
      ·exact q
      ·have:=hm.mono _ _ q;omega
     ·rintro rfl;rfl
    |_=>rfl
  |_=>rfl
 |v::u::r=>by
  have _h0:=hm.top
  cases v<;>rfl
theorem d7y (ho:OSh σ n HB o o') {b:Nat} {e:Env} {h H h':Hp} {op:VOp} {r:V} (hc:op.cst=true) (hb:n<=b) (R:HR σ n HB h H) (h1:a0q cx o b e h op=some (r,h')):
 ∃ H',a0q cx o' (σ b) (shE σ e) H op=some (r.sh σ,H')/\HR σ n HB h' H':=by
 have same:∀ {x:V},x.und 0=true->some (x,H)=some (x.sh σ,H):=fun hx=>by rw[c1e _ hx]
 cases op<;>simp only[VOp.cst,VOp.f5h,List.all_cons,List.all_nil,Bool.and_true,Bool.and_eq_true,List.all_append]at hc<;>simp only[a0q]at h1⊢
 case mv x=>
  cases h1
  rw[a0y hc];exact⟨H,rfl,R⟩
 case pick c x y=>
  rw[a0y hc.1,a0y hc.2.1,a0y hc.2.2]
  split at h1
  ·rename_i t ht
   cases h1
   rw[ht]
   exact⟨H,by cases t<;>rfl,R⟩
  ·cases h1
 case zbox z=>
  cases h1
  refine⟨_,by rw[R.len];rfl,?_⟩
  have:=R.snoc hm (.box z)
  rw[Ob.sh,a8h z hc.2]at this
  exact this
 case box x=>
  rw[a0y hc,b8c,c9i]
  split at h1
  ·rename_i ho1
   cases h1
   refine⟨_,by rw[if_pos ho1,R.len];rfl,R.snoc hm (.box _)⟩
  ·cases h1
 case build z ps=>
  have hev:∀ p∈ps,evO cx (shE σ e) p.2.2=(evO cx e p.2.2).sh σ:=fun p hp=>a0y (List.all_eq_true.1 hc.1 _ (List.mem_map.2 ⟨p,hp,rfl⟩))
  have e1:(ps.all fun p=>(evO cx (shE σ e) p.2.2).cells.all V.one)=(ps.all fun p=>(evO cx e p.2.2).cells.all V.one):=by
    rw[Bool.eq_iff_iff,List.all_eq_true,List.all_eq_true]
    constructor
    ·intro hh p hp;have:=hh p hp;rw[hev p hp,b8c,c9i]at this;exact this
    ·intro hh p hp;rw[hev p hp,b8c,c9i];exact hh p hp
  have e2:(ps.map fun p=>(p.1,p.2.1,evO cx (shE σ e) p.2.2))=(ps.map fun p=>(p.1,p.2.1,evO cx e p.2.2)).map fun p=>(p.1,p.2.1,p.2.2.sh σ):=by
    rw[List.map_map]
    apply List.map_congr_left
    intro p hp
    simp only[Function.comp_def,hev p hp]
  rw[e1,e2]
  split at h1
  ·rename_i ha
   rw[if_pos ha]
   obtain⟨c,hc',he⟩:=Option.map_eq_some_iff.1 h1
   cases he
   have e3:=f6t (σ:=σ) (ps.map fun p=>(p.1,p.2.1,evO cx e p.2.2)) z
   rw[a8h z hc.2,hc']at e3
   rw[e3]
   exact⟨H,by simp only[Option.map_some,d8q],R⟩
  ·cases h1
 case bslice sz len ps=>
  rw[c3d hm R hc]
  split at h1
  ·split at h1
   ·rename_i hcond
    cases h1
    exact⟨H,by rw[if_pos hcond];rfl,R⟩
   ·cases h1
  ·cases h1
 case blit sz len ps=>
  rw[c3d hm R hc]
  split at h1
  ·split at h1
   ·rename_i hcond
    cases h1
    exact⟨_,by rw[if_pos hcond,R.len];rfl,R.snoc hm (.row _ _)⟩
   ·cases h1
  ·cases h1
 case abs len ps=>
  rw[c3d hm R hc]
  split at h1
  ·split at h1
   ·rename_i hcond
    cases h1
    exact⟨_,by rw[if_pos hcond,R.len];rfl,R.snoc hm (.frz _)⟩
   ·cases h1
  ·cases h1
 case mark x=>
  rw[a0y hc]
  split at h1
  ·rename_i id off len hv
   rw[hv]
   simp only[V.sh,R.get? hm]
   split at h1
   ·rename_i c ho1
    cases h1
    rw[ho1]
    exact⟨H,rfl,R⟩
   ·cases h1
  ·cases h1
 case ld k x=>
  rw[a0y hc]
  obtain⟨v,hv,he⟩:=Option.map_eq_some_iff.1 h1
  cases he
  have e1:a9d H ((evO cx e x).sh σ)=(a9d h (evO cx e x)).map fun p=>(shL σ p.1,p.2):=by
    cases hv0:evO cx e x with
    |ptr id off=>
     simp only[V.sh,a9d,R.get? hm]
     cases h[id]? with
     |none=>rfl
     |some o=>cases o<;>simp only[Option.map_some,Ob.sh]<;>first|rfl|simp only[f4g]
    |ro l off=>simp only[V.sh,a9d,Option.map_some,f4g]
    |_=>rfl
  unfold b7p at hv⊢
  rw[e1]
  split at hv
  ·cases hv
  ·rename_i c off hcl
   rw[hcl]
   simp only[Option.map_some]
   rw[c9k,hv]
   exact⟨H,rfl,R⟩
 case st k a x=>
  rw[a0y hc.1,a0y hc.2]
  obtain⟨q,hq,he⟩:=Option.map_eq_some_iff.1 h1
  cases he
  unfold c2g at hq⊢
  split at hq
  ·rename_i id off hv
   rw[hv]
   simp only[V.sh,R.get? hm]
   split at hq
   ·rename_i c ho1
    rw[ho1]
    simp only[Option.map_some,Ob.sh,b8c,a8n,c9i,b4g hm,hm.le,e2a hm]
    split at hq
    ·rename_i hcond
     cases hq
     rw[if_pos hcond]
     refine⟨_,rfl,?_⟩
     have:=R.set hm (List.getElem?_eq_some_iff.1 ho1).1 (.box (putAt c off (evO cx e x).cells))
     rw[Ob.sh,<-c3g]at this
     exact this
    ·cases hq
   ·cases hq
  ·cases hq
 case nilck x=>
  rw[a0y hc]
  split at h1
  ·rename_i hv;rw[hv];cases h1;exact⟨H,rfl,R⟩
  ·rename_i hv;rw[hv];cases h1;exact⟨H,rfl,R⟩
  ·rename_i hv;rw[hv];cases h1;exact⟨H,rfl,R⟩
  ·cases h1
 case bin op x y=>
  rw[a0y hc.1,a0y hc.2,g2x]
  obtain⟨v,hv,he⟩:=Option.map_eq_some_iff.1 h1
  cases he
  rw[hv]
  exact⟨H,same (f3m hv),R⟩
 case eqa neg ks x y=>
  rw[a0y hc.1,a0y hc.2]
  split at h1
  ·rename_i hx hy
   rw[hx,hy]
   simp only[V.sh]
   split at h1
   ·rename_i hk
    cases h1
    exact⟨H,by rw[if_pos hk];rfl,R⟩
   ·cases h1
  ·cases h1
 case eqb neg x y=>
  rw[a0y hc.1,a0y hc.2]
  split at h1
  ·rename_i hx hy
   rw[hx,hy]
   cases h1
   exact⟨H,rfl,R⟩
  ·cases h1
 case isnil neg x=>
  rw[a0y hc]
  split at h1
  ·rename_i hv;rw[hv];cases h1;exact⟨H,rfl,R⟩
  ·cases h1
 case un op x=>
  rw[a0y hc,h3f]
  obtain⟨v,hv,he⟩:=Option.map_eq_some_iff.1 h1
  cases he
  rw[hv]
  exact⟨H,same (g4s hv),R⟩
 case conv k x=>
  rw[a0y hc]
  split at h1
  ·rename_i hv;rw[hv];cases h1;exact⟨H,rfl,R⟩
  ·cases h1
 case mkfn f caps=>
  cases h1
  refine⟨H,?_,R⟩
  have:caps.map (evO cx (shE σ e))=shL σ (caps.map (evO cx e)):=by
   rw[a4n,List.map_map]
   apply List.map_congr_left
   intro x hx
   exact a0y (List.all_eq_true.1 hc x hx)
  rw[this];rfl
 case mkfm f caps=>
  cases h1
  refine⟨H,?_,R⟩
  have:caps.map (evO cx (shE σ e))=shL σ (caps.map (evO cx e)):=by
   rw[a4n,List.map_map]
   apply List.map_congr_left
   intro x hx
   exact a0y (List.all_eq_true.1 hc x hx)
  rw[this];rfl
 case fld off k x=>
  rw[a0y hc]
  split at h1
  ·rename_i c hv
   obtain⟨v,hv2,he⟩:=Option.map_eq_some_iff.1 h1
   cases he
   rw[hv]
   have:=c9k (σ:=σ) k (c.map V.d) off
   rw[f4g,hv2]at this
   simp only[V.sh]
   rw[hv2]
   simp only[Option.map_some,Option.some.injEq]at this
   exact⟨H,by rw[<-this];rfl,R⟩
  ·rename_i c hv
   obtain⟨v,hv2,he⟩:=Option.map_eq_some_iff.1 h1
   cases he
   rw[hv]
   simp only[V.sh]
   rw[c9k,hv2]
   exact⟨H,rfl,R⟩
  ·cases h1
 case fadr off x=>
  rw[a0y hc]
  split at h1
  ·rename_i hv;rw[hv];cases h1;exact⟨H,rfl,R⟩
  ·rename_i hv;rw[hv];cases h1;exact⟨H,rfl,R⟩
  ·cases h1
 case iadr sz x i=>
  rw[a0y hc.1,a0y hc.2,c6t]
  split at h1
  ·cases h1
  ·rename_i k hi
   split at h1
   ·rename_i id off len hv
    rw[hv]
    split at h1
    ·rename_i hlt;cases h1
     exact⟨H,by simp only[V.sh,if_pos hlt],R⟩
    ·cases h1
   ·rename_i v hna
    have e1:∀ a b c,(evO cx e x).sh σ≠ .arr a b c:=by
     intro a b c hh
     cases hv:evO cx e x<;>rw[hv]at hh hna<;>simp only[V.sh]at hh<;>first|exact hna _ _ _ rfl|cases hh
    split
    ·rename_i hh;exact absurd hh (e1 _ _ _)
    ·rw[d0a hm R]
     split at h1
     ·split at h1
      ·split at h1
       ·rename_i hsz;cases h1
        exact⟨H,by rw[if_pos hsz];rfl,R⟩
       ·cases h1
      ·cases h1
     ·cases h1
 case iadra len sz x i=>
  rw[a0y hc.1,a0y hc.2,c6t]
  split at h1
  ·cases h1
  ·split at h1
   ·rename_i hlt
    rw[if_pos hlt]
    split at h1
    ·rename_i hv;rw[hv];cases h1;exact⟨H,rfl,R⟩
    ·rename_i hv;rw[hv];cases h1;exact⟨H,rfl,R⟩
    ·cases h1
   ·cases h1
 case idx x i=>
  rw[a0y hc.1,a0y hc.2,c6t]
  split at h1
  ·rename_i k s hi hv
   rw[hi,hv]
   obtain⟨v,hv2,he⟩:=Option.map_eq_some_iff.1 h1
   cases he
   simp only[V.sh,hv2]
   exact⟨H,rfl,R⟩
  ·cases h1
 case slcs x lo hi=>
  rw[a0y hc.1,c3n hc.2.1]
  cases hv:evO cx e x<;>rw[hv]at h1<;>simp only[V.sh]at h1⊢ <;>try(cases h1;done)
  rename_i dx
  cases dx<;>try(cases h1;done)
  rename_i s
  cases hl:a0q.bound cx e 0 lo<;>rw[hl]at h1<;>simp only at h1⊢ <;>try(cases h1;done)
  rw[c3n hc.2.2]
  cases hu:a0q.bound cx e s.length hi<;>rw[hu]at h1<;>simp only at h1⊢ <;>try(cases h1;done)
  split at h1
  ·rename_i hcond;cases h1
   exact⟨H,by rw[if_pos hcond];rfl,R⟩
  ·cases h1
 case slc sz x lo hi=>
  rw[a0y hc.1,d0a hm R,c3n hc.2.1]
  cases hv:lsize h (evO cx e x)
  ·rw[hv]at h1;cases h1
  rename_i s
  cases hl:a0q.bound cx e 0 lo
  ·rw[hv,hl]at h1;cases h1
  rw[hv,hl]at h1
  simp only at h1⊢
  rw[c3n hc.2.2]
  cases hu:a0q.bound cx e s.length hi<;>rw[hu]at h1<;>simp only at h1⊢ <;>try(cases h1;done)
  split at h1
  ·rename_i hcond;cases h1
   exact⟨H,by rw[if_pos hcond];rfl,R⟩
  ·cases h1
 case ext x i=>
  rw[a0y hc]
  split at h1
  ·rename_i l hv
   obtain⟨v,hv2,he⟩:=Option.map_eq_some_iff.1 h1
   cases he
   rw[hv]
   simp only[V.sh,c1s,hv2]
   exact⟨H,rfl,R⟩
  ·cases h1
 case call f args=>
  rw[c0r hm R hc]
  exact ho _ _ _ _ _ _ R h1
 case callv f args=>
  rw[a0y hc.1]
  split at h1
  ·rename_i g c hv
   rw[hv]
   simp only[V.sh]
   rw[c0r hm R hc.2,<-b5e]
   exact ho _ _ _ _ _ _ R h1
  ·rename_i g c hv
   rw[hv]
   simp only[V.sh]
   rw[c0r hm R hc.2,<-b5e]
   exact ho _ _ _ _ _ _ R h1
  ·cases h1
 case len str x=>
  rw[a0y hc]
  cases str
  ·simp only at h1⊢
   obtain⟨v,hv2,he⟩:=Option.map_eq_some_iff.1 h1
   cases he
   rw[g4w,hv2]
   exact⟨H,rfl,R⟩
  ·split at h1
   ·rename_i hv;rw[hv];cases h1;exact⟨H,rfl,R⟩
   ·rename_i hh;cases hh
   ·cases h1
 case convs x=>
  rw[a0y hc]
  split at h1
  ·rename_i hv;rw[hv];cases h1;exact⟨H,rfl,R⟩
  ·cases h1
 case app sz bytes x y=>
  rw[a0y hc.1,a0y hc.2,d0a hm R]
  split at h1
  ·cases h1
  ·rename_i ys hys
   split at h1
   ·rename_i hcond
    rw[if_pos hcond]
    split at h1
    ·rename_i hv
     rw[hv]
     simp only[V.sh]
     split at h1
     ·rename_i hn;cases h1
      exact⟨H,by rw[if_pos hn];rfl,R⟩
     ·rename_i hn
      rw[if_neg hn]
      split at h1
      ·rename_i hr;cases h1
       exact⟨_,by rw[if_pos hr,R.len];rfl,R.snoc hm (.row _ _)⟩
      ·cases h1
    ·rename_i hv
     rw[hv]
     simp only[V.sh]
     split at h1
     ·rename_i hn;cases h1
      exact⟨H,by rw[if_pos hn];rfl,R⟩
     ·rename_i hn
      rw[if_neg hn]
      split at h1
      ·rename_i hr;cases h1
       exact⟨_,by rw[if_pos hr,R.len];rfl,R.snoc hm (.row _ _)⟩
      ·cases h1
    ·rename_i id len hv
     rw[hv]
     simp only[V.sh,R.get? hm]
     split at h1
     ·rename_i sz' l ho1
      rw[ho1]
      simp only[Option.map_some,Ob.sh]
      split at h1
      ·rename_i hcond2;cases h1
       exact⟨_,by rw[if_pos hcond2];rfl,R.set hm (List.getElem?_eq_some_iff.1 ho1).1 (.row _ _)⟩
      ·cases h1
     ·cases h1
    ·cases h1
   ·cases h1
 case msl sz bytes z k=>
  rw[a0y hc.1]
  split at h1
  ·rename_i kk m hv
   rw[hv]
   simp only[V.sh]
   split at h1
   ·rename_i hcond;cases h1
    refine⟨_,by rw[if_pos hcond,R.len];rfl,?_⟩
    have hz:(z.headD .undef).und 0=true:=by
     cases z with
     |nil=>rfl
     |cons a l=>have:=hc.2;simp only[a0w,Bool.and_eq_true]at this;exact this.1
    have:=R.snoc hm (.box (List.replicate m.toNat (z.headD .undef)))
    rw[Ob.sh,a4n,List.map_replicate,c1e _ hz]at this
    exact this
   ·cases h1
  ·cases h1
 case mm mx x y=>
  rw[a0y hc.1,a0y hc.2]
  split at h1
  ·rename_i hx hy
   rw[hx,hy]
   simp only[V.sh]
   split at h1
   ·rename_i hk
    cases h1
    exact⟨H,by rw[if_pos hk];rfl,R⟩
   ·cases h1
  ·cases h1
 case no=>cases h1
 case mkm=>
  cases h1
  exact⟨_,by rw[R.len];rfl,R.snoc hm (.map [])⟩
 case brow sz=>
  split at h1
  ·rename_i hs
   cases h1
   exact⟨H,by rw[if_pos hs];rfl,R⟩
  ·cases h1
 case c0m kk m k x=>
  rw[a0y hc.1,a0y hc.2.1,a0y hc.2.2,e0l hm R]
  split at h1
  ·rename_i id kd v em ek ex
   rw[em,ek,ex]
   simp only[V.sh,R.get? hm]
   split at h1
   ·rename_i l ho1
    rw[ho1]
    simp only[Option.map_some,Ob.sh]
    split at h1
    ·rename_i hk;cases h1
     exact⟨_,by rw[if_pos hk];rfl,R.set hm (List.getElem?_eq_some_iff.1 ho1).1 (.map _)⟩
    ·cases h1
   ·cases h1
  ·cases h1
 case mget kk ok z m k=>
  rw[a0y hc.1,a0y hc.2]
  split at h1
  ·rename_i id kd em ek
   rw[em,ek]
   simp only[V.sh,R.get? hm]
   split at h1
   ·rename_i l ho1
    rw[ho1]
    simp only[Option.map_some,Ob.sh]
    split at h1
    ·rename_i hk;cases h1
     exact⟨H,by rw[if_pos hk];exact same (f3h _ _ _),R⟩
    ·cases h1
   ·cases h1
  ·cases h1
 case ment kk z m k=>
  rw[a0y hc.1,a0y hc.2]
  split at h1
  ·rename_i id kd em ek
   rw[em,ek]
   simp only[V.sh,R.get? hm]
   split at h1
   ·rename_i l ho1
    rw[ho1]
    simp only[Option.map_some,Ob.sh]
    split at h1
    ·rename_i hk
     rw[if_pos hk]
     split at h1
     ·rename_i i hi
      obtain⟨p,hp,he⟩:=Option.map_eq_some_iff.1 h1
      cases he
      rw[hp]
      exact⟨H,rfl,R⟩
     ·cases h1
      exact⟨_,rfl,R.set hm (List.getElem?_eq_some_iff.1 ho1).1 (.map _)⟩
    ·cases h1
   ·cases h1
  ·cases h1
 case mest m s x=>
  rw[a0y hc.1,a0y hc.2.1,a0y hc.2.2,e0l hm R]
  split at h1
  ·rename_i id k v em ek ex
   rw[em,ek,ex]
   simp only[V.sh,R.get? hm]
   split at h1
   ·rename_i l ho1
    rw[ho1]
    simp only[Option.map_some,Ob.sh]
    split at h1
    ·rename_i hk;cases h1
     exact⟨_,by rw[if_pos hk];rfl,R.set hm (List.getElem?_eq_some_iff.1 ho1).1 (.map _)⟩
    ·cases h1
   ·cases h1
  ·cases h1
omit hm in
theorem c0z (d:Option Nat) (v:V) (e:Env):shE σ (a7y d v e)=a7y d (v.sh σ) (shE σ e):=by cases d<;>rfl
omit hm in
theorem b8w (ks:List Nat) (e:Env):shE σ (a2d ks e)=a2d ks (shE σ e):=by
 unfold a2d shE
 rw[List.map_map]
 apply List.map_congr_left
 intro k _
 simp only[Function.comp_def]
 have:=a7m (σ:=σ) e k
 unfold shE at this
 rw[this]
theorem e5a (m:Nat) (e:Env):shE σ (cut m e)=cut (σ m) (shE σ e):=by
 unfold cut shE
 rw[List.map_map,List.map_map]
 apply List.map_congr_left
 rintro⟨k,v⟩ _
 simp only[Function.comp_def,e7c hm]
 split<;>rfl
structure SR (σ:Nat->Nat) (n:Nat) (HB:Hp) (s S:St):Prop where
 e:S.e=shE σ s.e
 h:HR σ n HB s.h S.h
 b:S.b=σ s.b
 le:n<=s.b
def LSh (σ:Nat->Nat) (n:Nat) (HB:Hp) (l l':Lp):Prop:=∀ ks c s x s' S,c.cst=true->SR σ n HB s S->l ks c s=some (x,s')->∃ S',l' ks c S=some (x,S')/\SR σ n HB s' S'
theorem f7e {d:Option Nat} {e:Env} {b:Nat} (hb:n<=b) {x y:Option (V×Hp)} {r:St} (hxy:∀ v h',x=some (v,h')->∃ H',y=some (v.sh σ,H')/\HR σ n HB h' H') (h1:lay d e b x=some r):∃ S,lay d (shE σ e) (σ b) y=some S/\SR σ n HB r S:=by
 have _h0:=hm.top
 cases x with
 |none=>cases h1
 |some q=>
  obtain⟨v,h'⟩:=q
  obtain⟨H',hy,hr⟩:=hxy v h' rfl
  simp only[lay,Option.map_some,Option.some.injEq]at h1
  subst h1
  rw[hy]
  exact⟨_,rfl,(c0z d v e).symm,hr,rfl,hb⟩
theorem a7f (ho:OSh σ n HB o o') {p:a0b} {s r S:St} (hc:p.op.cst=true) (R:SR σ n HB s S) (h1:a0f cx o p s=some r):∃ S',a0f cx o' p S=some S'/\SR σ n HB r S':=by
 obtain⟨e,H,b⟩:=S
 obtain⟨hE,R,hB,hle⟩:=R
 simp only at hE R hB
 subst hE;subst hB
 unfold a0f at h1⊢
 split at h1
 ·exact f7e hm hle (fun v h' hv=>d7y hm ho hc hle R hv) h1
 ·rename_i g bb hg
  simp only at h1⊢
  rw[a7m]
  unfold grd at h1⊢
  split at h1
  ·rename_i t hv
   rw[hv]
   simp only[V.sh]
   split at h1
   ·rename_i ht
    rw[if_pos ht]
    exact f7e hm hle (fun v h' hv=>d7y hm ho hc hle R hv) h1
   ·rename_i ht
    rw[if_neg ht]
    cases h1
    exact⟨_,rfl,(c0z p.dst (.tup []) s.e).symm,R,rfl,hle⟩
  ·rename_i hv
   rw[hv]
   cases h1
   exact⟨_,rfl,(c0z p.dst (.tup []) s.e).symm,R,rfl,hle⟩
  ·cases h1
theorem c0g (ho:OSh σ n HB o o'):∀ {ops:List a0b} {s r S:St},(ops.all fun p=>p.op.cst)=true->SR σ n HB s S->a0s cx o ops s=some r->∃ S',a0s cx o' ops S=some S'/\SR σ n HB r S'
  |[],_,_,S,_,R,h=>by cases h;exact⟨S,rfl,R⟩
  |p::ps,s,r,S,hc,R,h=>by
   simp only[List.all_cons,Bool.and_eq_true]at hc
   simp only[a0s]at h⊢
   cases hx:a0f cx o p s with
   |none=>rw[hx]at h;cases h
   |some q=>
    rw[hx]at h
    obtain⟨S1,h1,R1⟩:=a7f hm ho hc.1 R hx
    rw[h1]
    exact c0g ho hc.2 R1 h
theorem g2a {h h' H H':Hp} (R:HR σ n HB h H) (R':HR σ n HB h' H') (hg:grew h h'=true):grew H H'=true:=by
 unfold grew at hg⊢
 simp only[Bool.and_eq_true,decide_eq_true_eq]at hg⊢
 obtain⟨⟨l,rfl⟩,h2⟩:=hg
 have e:=R.app hm R'
 refine⟨⟨_,e⟩,?_⟩
 rw[List.drop_left]at h2
 rw[R'.len,e,List.drop_left,d9k hm]
 exact h2
theorem h0n {d:Option Nat} {s S:St} (R:SR σ n HB s S) (h:b7i d s=true):b7i d S=true:=by
 unfold b7i at h⊢
 cases d with
 |none=>rfl
 |some d=>
  simp only at h⊢
  rw[R.e,R.h.len,a7m,e7c hm];exact h
theorem b3m (ho:OSh σ n HB o o'):∀ {m:Nat} {ops:List a0b} {s r S:St},(ops.all fun p=>p.op.cst)=true->SR σ n HB s S->a2c cx o m ops s=some r->∃ S',a2c cx o' m ops S=some S'/\SR σ n HB r S'
  |0,[],_,_,S,_,R,h=>by cases h;exact⟨S,rfl,R⟩
  |_+1,[],_,_,S,_,R,h=>by cases h;exact⟨S,rfl,R⟩
  |0,p::ps,s,r,S,hc,R,h=>by
   simp only[a2c]at h⊢
   exact c0g hm ho hc R h
  |m+1,p::ps,s,r,S,hc,R,h=>by
   simp only[List.all_cons,Bool.and_eq_true]at hc
   simp only[a2c]at h⊢
   cases hx:a0f cx o p s with
   |none=>rw[hx]at h;cases h
   |some q=>
    rw[hx]at h
    obtain⟨S1,h1,R1⟩:=a7f hm ho hc.1 R hx
    rw[h1]
    simp only[Option.bind_some]at h⊢
    split at h
    ·rename_i hg
     simp only[Bool.and_eq_true]at hg
     rw[if_pos (by rw[g2a hm R.h R1.h hg.1,h0n hm R1 hg.2];rfl)]
     exact b3m ho hc.2 R1 h
    ·cases h
theorem HR.det {h H H':Hp} (r:HR σ n HB h H) (r':HR σ n HB h H'):H'=H:=by
 have:=r.app hm (l:=[]) (H':=H') (by rw[List.append_nil];exact r')
 simpa using this
theorem SR.det {s S S':St} (r:SR σ n HB s S) (r':SR σ n HB s S'):S'=S:=by
 obtain⟨e,h,b⟩:=S
 obtain⟨e',h',b'⟩:=S'
 obtain⟨a1,a2,a3,_⟩:=r
 obtain⟨c1,c2,c3,_⟩:=r'
 simp only at a1 a2 a3 c1 c2 c3
 rw[a1,a3,c1,c3,a2.det hm c2]
theorem f2a (ho:OSh σ n HB o o') {m:Nat} {ops:List a0b} {s S:St} (hc:(ops.all fun p=>p.op.cst)=true) (R:SR σ n HB s S) (h:c8r cx o m ops s):c8r cx o' m ops S:=by
  rcases h with⟨d,od,τ,val,D⟩|⟨d,a,ε,val,Hs,D⟩|⟨a,h1,h2,r,h3⟩
  rotate_left
  rotate_left
  ·obtain⟨S2,g2,_⟩:=b3m hm ho hc R h3
   exact .inr (.inr ⟨a,h1,h2,S2,g2⟩)
  rotate_left
  ·have hcs:∀ {i:Nat} {p:a0b},ops[i]? =some p->p.op.cst=true:=fun{i p} hp=>(List.all_eq_true.1 hc) p (List.mem_of_getElem? hp)
   have hld:d < ops.length:=Nat.lt_of_lt_of_le D.ld D.le
   have hla:a < ops.length:=Nat.lt_of_lt_of_le D.la D.le
   have sr:∀ {h H:Hp} (e:Env),HR σ n HB h H->SR σ n HB ⟨e,h,s.b⟩ ⟨shE σ e,H,S.b⟩:=fun e rh=>⟨rfl,rh,R.b,R.le⟩
   have stp:∀ {h h' H:Hp} {i:Nat} {p:a0b},HR σ n HB h H->ops[i]? =some p->a0f cx o p ⟨ε i,h,s.b⟩=some ⟨ε (i+1),h',s.b⟩->∃ H',HR σ n HB h' H':=fun{h h' H i p} rh hp hx=>by
     obtain⟨q,_,R1⟩:=a7f hm ho (hcs hp) (sr _ rh) hx
     exact⟨q.h,R1.h⟩
   have r00:HR σ n HB (Hs false false) S.h:=by rw[D.h0];exact R.h
   obtain⟨H10,r10⟩:∃ H',HR σ n HB (Hs true false) H':=by
    have:=D.run d _ false false D.ld (List.getElem?_eq_getElem hld) (fun _=>rfl) (fun e=>absurd e D.ne)
    rw[decide_eq_true rfl,decide_eq_false D.ne]at this
    exact stp r00 (List.getElem?_eq_getElem hld) this
   obtain⟨H01,r01⟩:∃ H',HR σ n HB (Hs false true) H':=by
    have:=D.run a _ false false D.la (List.getElem?_eq_getElem hla) (fun e=>absurd e.symm D.ne) (fun _=>rfl)
    rw[decide_eq_true rfl,decide_eq_false (fun e=>D.ne e.symm)]at this
    exact stp r00 (List.getElem?_eq_getElem hla) this
   obtain⟨H11,r11⟩:∃ H',HR σ n HB (Hs true true) H':=by
    have:=D.run d _ false true D.ld (List.getElem?_eq_getElem hld) (fun _=>rfl) (fun e=>absurd e D.ne)
    rw[decide_eq_true rfl,decide_eq_false D.ne]at this
    exact stp r01 (List.getElem?_eq_getElem hld) this
   obtain⟨G,hG⟩:∃ G:Bool->Bool->Hp,G=fun x y=>match x,y with|false,false=>S.h|true,false=>H10|false,true=>H01|true,true=>H11:=⟨_,rfl⟩
   have rG:∀ x y,HR σ n HB (Hs x y) (G x y):=fun x y=>by rw[hG];cases x<;>cases y<;>assumption
   refine .inr (.inl ⟨d,a,fun i=>shE σ (ε i),fun i=>(val i).sh σ,G,D.ld,D.la,D.ne,D.le,?_,by rw[hG],fun i p hi hp=>?_,fun i p x y hi hp h1 h2=>?_⟩)
   ·show shE σ (ε 0)=S.e
    rw[D.zero];exact R.e.symm
   ·show shE σ (ε (i+1))=_
    rw[D.env i p hi hp,c0z]
   ·obtain⟨q,g1,R1⟩:=a7f hm ho (hcs hp) (sr _ (rG x y)) (D.run i p x y hi hp h1 h2)
    rw[g1,(sr (ε (i+1)) (rG _ _)).det hm R1]
  obtain⟨T,hT0,hTs⟩:∃ T:Nat->St,T 0=S/\∀ i,T (i+1)=match ops[i]? with|some p=>(a0f cx o' p (T i)).getD (T i)|none=>T i:=⟨fun i=>Nat.rec S (fun i q=>match ops[i]? with|some p=>(a0f cx o' p q).getD q|none=>q) i,rfl,fun _=>rfl⟩
  have hcs:∀ {i:Nat} {p:a0b},ops[i]? =some p->p.op.cst=true:=fun{i p} hp=>(List.all_eq_true.1 hc) p (List.mem_of_getElem? hp)
  have one:∀ i p,i < m->ops[i]? =some p->SR σ n HB (τ i) (T i)->a0f cx o' p (T i)=some (T (i+1))/\SR σ n HB (τ (i+1)) (T (i+1)):=by
   intro i p hi hp Ri
   obtain⟨q,h1,R1⟩:=a7f hm ho (hcs hp) Ri (D.step i p hi hp).1
   have:T (i+1)=q:=by rw[hTs,hp];simp only[h1];rfl
   rw[this]
   exact⟨h1,R1⟩
  have all:∀ i,i<=m->SR σ n HB (τ i) (T i):=by
   intro i
   induction i with
   |zero=>intro _;rw[D.zero,hT0];exact R
   |succ i ih=>
    intro hi
    have hl:i < ops.length:=Nat.lt_of_lt_of_le om D.le
    exact(one i ops[i] om (List.getElem?_eq_getElem hl) (ih om)).2
  have hb:∀ i,i<=m->(τ i).b=s.b:=by
   intro i
   induction i with
   |zero=>intro _;rw[D.zero]
   |succ i ih=>
    intro hi
    have hl:i < ops.length:=Nat.lt_of_lt_of_le om D.le
    rw[a8a (D.step i ops[i] om (List.getElem?_eq_getElem hl)).1,ih om]
  have Rd:=all (d+1) (by have:=D.lt;omega)
  have two:∀ {h H:Hp} i p,HR σ n HB h H->i < m->ops[i]? =some p->a0f cx o p ⟨(τ i).e,h,s.b⟩=some ⟨(τ (i+1)).e,h,s.b⟩->a0f cx o' p ⟨(T i).e,H,S.b⟩=some ⟨(T (i+1)).e,H,S.b⟩:=by
   intro h H i p rh hi hp hx
   have r1:SR σ n HB ⟨(τ i).e,h,s.b⟩ ⟨(T i).e,H,S.b⟩:=⟨(all i om).e,rh,R.b,R.le⟩
   obtain⟨q,h1,R1⟩:=a7f hm ho (hcs hp) r1 hx
   have r2:SR σ n HB ⟨(τ (i+1)).e,h,s.b⟩ ⟨(T (i+1)).e,H,S.b⟩:=⟨(all (i+1) om).e,rh,R.b,R.le⟩
   rw[h1,r2.det hm R1]
  refine .inl ⟨d,od,T,fun i=>(val i).sh σ,D.lt,D.le,D.odx,hT0,fun i p hi hp=>⟨(one i p hi hp (all i om)).1,?_⟩,fun i p hi hp hne=>?_,fun i p hi hp=>two i p Rd.h (Nat.lt_trans hi D.lt) hp (D.ahead i p hi hp),fun i p h1 h2 hp=>(D.behind i p h1 h2 hp).imp id (two i p R.h h2 hp)⟩
  ·rw[(all (i+1) om).e,(D.step i p hi hp).2,c0z,<-(all i om).e]
  ·have r1:=(all (i+1) om).h
   rw[D.quiet i p hi hp hne]at r1
   exact(all i om).h.det hm r1
theorem f6c (ho:OSh σ n HB o o') {m:Nat} {ops:List a0b} {s r S:St} (hc:(ops.all fun p=>p.op.cst)=true) (R:SR σ n HB s S) (h:b1e cx o m ops s=some r):∃ S',b1e cx o' m ops S=some S'/\SR σ n HB r S':=by
  obtain⟨h1,h2⟩:=a3e.1 h
  obtain⟨S',g1,R'⟩:=c0g hm ho hc R h1
  refine⟨S',a3e.2 ⟨g1,?_⟩,R'⟩
  rcases h2 with⟨q,hq⟩|hD
  ·obtain⟨S2,g2,_⟩:=b3m hm ho hc R hq
   exact .inl ⟨S2,g2⟩
  ·exact .inr (f2a hm ho hc R hD)
theorem e6i (ho:OSh σ n HB o o') {l l':Lp} (hl:LSh σ n HB l l'):∀ {c:a0e} {s:St} {x:Ex} {s' S:St},c.cst=true->SR σ n HB s S->evC cx o l c s=some (x,s')->∃ S',evC cx o' l' c S=some (x,S')/\SR σ n HB s' S':=by
 intro c
 induction c with
 |skip=>intro s x s' S _ R h;cases h;exact⟨S,rfl,R⟩
 |reg ops=>
  intro s x s' S hc R h
  simp only[evC]at h⊢
  obtain⟨q,hq,he⟩:=Option.map_eq_some_iff.1 h
  cases he
  obtain⟨S',h1,R1⟩:=c0g hm ho hc R hq
  exact⟨S',by rw[h1];rfl,R1⟩
 |draw m ops=>
  intro s x s' S hc R h
  simp only[evC]at h⊢
  obtain⟨q,hq,he⟩:=Option.map_eq_some_iff.1 h
  cases he
  obtain⟨S',h1,R1⟩:=f6c hm ho hc R hq
  exact⟨S',by rw[h1];rfl,R1⟩
 |seq a b iha ihb=>
  intro s x s' S hc R h
  simp only[a0e.cst,Bool.and_eq_true]at hc
  simp only[evC]at h⊢
  cases hx:evC cx o l a s with
  |none=>rw[hx]at h;cases h
  |some q=>
   obtain⟨y,s1⟩:=q
   rw[hx]at h
   obtain⟨S1,h1,R1⟩:=iha hc.1 R hx
   rw[h1]
   cases y with
   |nrm=>exact ihb hc.2 R1 h
   |exit i=>cases h;exact⟨S1,rfl,R1⟩
   |ret=>cases h;exact⟨S1,rfl,R1⟩
 |cond c a b iha ihb=>
  intro s x s' S hc R h
  simp only[a0e.cst,Bool.and_eq_true]at hc
  simp only[evC]at h⊢
  rw[R.e,a0y hc.1]
  split at h
  ·rename_i t ht
   rw[ht]
   simp only[V.sh]
   split at h
   ·rename_i hb;rw[if_pos hb];exact iha hc.2.1 R h
   ·rename_i hb;rw[if_neg hb];exact ihb hc.2.2 R h
  ·cases h
 |block id b ih=>
  intro s x s' S hc R h
  simp only[a0e.cst]at hc
  simp only[evC]at h⊢
  cases hx:evC cx o l b s with
  |none=>rw[hx]at h;cases h
  |some q=>
   obtain⟨y,s1⟩:=q
   rw[hx]at h
   obtain⟨S1,h1,R1⟩:=ih hc R hx
   rw[h1]
   cases y with
   |nrm=>cases h;exact⟨S1,rfl,R1⟩
   |ret=>cases h;exact⟨S1,rfl,R1⟩
   |exit i=>
    simp only at h⊢
    split at h
    ·rename_i hi;cases h;exact⟨S1,by rw[if_pos hi],R1⟩
    ·rename_i hi;cases h;exact⟨S1,by rw[if_neg hi],R1⟩
 |scope b ih=>intro s x s' S hc R h;simp only[a0e.cst]at hc;simp only[evC]at h⊢;exact ih hc R h
 |loop ks b ih=>
  intro s x s' S hc R h
  simp only[a0e.cst]at hc
  simp only[evC]at h⊢
  cases hx:evC cx o l b ⟨a2d ks s.e,s.h,s.h.length⟩with
  |none=>rw[hx]at h;cases h
  |some q=>
   obtain⟨y,s1⟩:=q
   rw[hx]at h
   have R0:SR σ n HB ⟨a2d ks s.e,s.h,s.h.length⟩ ⟨a2d ks S.e,S.h,S.h.length⟩:=⟨by rw[R.e];exact(b8w ks s.e).symm,R.h,R.h.len,R.h.le⟩
   obtain⟨S1,h1,R1⟩:=ih hc R0 hx
   rw[h1]
   cases y with
   |nrm=>
    have R2:SR σ n HB ⟨cut s.h.length (a2d ks s1.e),s1.h.take s.h.length,s.b⟩ ⟨cut S.h.length (a2d ks S1.e),S1.h.take S.h.length,S.b⟩:=by
     refine⟨?_,?_,R.b,R.le⟩
     ·simp only[R1.e,R.h.len,e5a hm,b8w]
     ·have:=R1.h.take hm (m:=s.h.length) R.h.le
      rw[<-R.h.len]at this;exact this
    exact hl _ _ _ _ _ _ hc R2 h
   |exit i=>cases h;exact⟨⟨S1.e,S1.h,S.b⟩,rfl,R1.e,R1.h,R.b,R.le⟩
   |ret=>cases h;exact⟨⟨S1.e,S1.h,S.b⟩,rfl,R1.e,R1.h,R.b,R.le⟩
 |exit i=>intro s x s' S _ R h;cases h;exact⟨S,rfl,R⟩
 |ret=>intro s x s' S _ R h;cases h;exact⟨S,rfl,R⟩
 |newrow sz t=>
  intro s x s' S hc R h
  simp only[evC]at h⊢
  rw[R.e,a7m]
  split at h
  ·rename_i hv
   rw[hv]
   simp only[V.sh]
   split at h
   ·rename_i hs
    cases h
    refine⟨⟨(t,V.row S.h.length 0)::shE σ s.e,S.h++[Ob.row sz []],S.b⟩,by rw[if_pos hs],?_,R.h.snoc hm (.row sz []),R.b,R.le⟩
    rw[R.h.len];rfl
   ·cases h
  ·cases h
 |bindrow sz t off=>
  intro s x s' S hc R h
  simp only[evC]at h⊢
  rw[R.e,a7m]
  split at h
  ·rename_i id oo hv
   rw[hv]
   simp only[V.sh,R.h.get? hm]
   split at h
   ·rename_i c hc1
    rw[hc1]
    simp only[Option.map_some,Ob.sh,c1s]
    split at h
    ·rename_i hnil
     rw[hnil]
     simp only[Option.map_some,V.sh,R.b,hm.le]
     split at h
     ·rename_i hcond
      cases h
      refine⟨⟨shE σ s.e,S.h.set (σ id) (.box ((shL σ c).set (oo+off) (.row S.h.length 0)))++[Ob.row sz []],σ s.b⟩,by rw[if_pos hcond],rfl,?_,rfl,R.le⟩
      have hid:=(List.getElem?_eq_some_iff.1 hc1).1
      have:=(R.h.set hm hid (.box (c.set (oo+off) (.row s.h.length 0)))).snoc hm (.row sz [])
      have e:Ob.sh σ (.box (c.set (oo+off) (.row s.h.length 0)))= .box ((shL σ c).set (oo+off) (.row S.h.length 0)):=by
       rw[Ob.sh,a4n,a4n,List.map_set,R.h.len];rfl
      rw[e]at this
      exact this
     ·cases h
    ·cases h
   ·cases h
  ·cases h
 |mkrow sz=>
  intro s x s' S hc R h
  simp only[evC]at h⊢
  split at h
  ·rename_i hs
   cases h
   exact⟨⟨S.e,S.h++[Ob.row sz []],S.b⟩,by rw[if_pos hs],R.e,R.h.snoc hm (.row sz []),R.b,R.le⟩
  ·cases h
 |bindto t off k=>
  intro s x s' S hc R h
  simp only[evC]at h⊢
  rw[R.e,a7m]
  split at h
  ·rename_i id oo hv
   rw[hv]
   simp only[V.sh,R.h.get? hm]
   split at h
   ·rename_i c hc1
    rw[hc1]
    simp only[Option.map_some,Ob.sh,c1s]
    split at h
    ·rename_i sz hnil hrow
     split at h
     ·rename_i hcond
      cases h
      have hid:=(List.getElem?_eq_some_iff.1 hc1).1
      have t1:=hm.top (id - n)
      have t2:=hm.top (id - k - n)
      have hle:=R.le
      rw[show n+(id - n)=id by omega]at t1
      rw[show n+(id - k - n)=id - k by omega]at t2
      have e1:σ id - k=σ (id - k):=om
      have e2:(S.h[σ id - k]?)=some (.row sz []):=by rw[e1,R.h.get? hm,hrow];rfl
      rw[hnil,e2]
      simp only[Option.map_some,V.sh]
      rw[if_pos ⟨hcond.1,om,by rw[R.b,e1];exact hm.le.2 hcond.2.2⟩]
      refine⟨⟨shE σ s.e,S.h.set (σ id) (.box ((shL σ c).set (oo+off) (.row (σ id - k) 0))),S.b⟩,rfl,rfl,?_,R.b,R.le⟩
      have:=R.h.set hm hid (.box (c.set (oo+off) (.row (id - k) 0)))
      have e:Ob.sh σ (.box (c.set (oo+off) (.row (id - k) 0)))= .box ((shL σ c).set (oo+off) (.row (σ id - k) 0)):=by
       rw[Ob.sh,a4n,a4n,List.map_set,e1];rfl
      rw[e]at this
      exact this
     ·cases h
    ·cases h
   ·cases h
  ·cases h
 |freeze t=>
  intro s x s' S hc R h
  simp only[evC]at h⊢
  rw[R.e,a7m]
  split at h
  ·rename_i id o1 l1 hv
   rw[hv]
   simp only[V.sh,R.h.get? hm]
   split at h
   ·rename_i c hc1
    rw[hc1]
    simp only[Option.map_some,Ob.sh,d5z]
    split at h
    ·rename_i ds hds
     cases h
     exact⟨⟨shE σ s.e,S.h.set (σ id) (.frz ds),S.b⟩,rfl,rfl,R.h.set hm (List.getElem?_eq_some_iff.1 hc1).1 (.frz ds),R.b,R.le⟩
    ·cases h
   ·cases h
  ·rename_i id len hv
   rw[hv]
   simp only[V.sh,R.h.get? hm]
   split at h
   ·rename_i sz l ho1
    rw[ho1]
    simp only[Option.map_some,Ob.sh]
    split at h
    ·rename_i hl
     cases h
     exact⟨⟨(t,V.d (.sl l))::shE σ s.e,S.h,S.b⟩,by rw[if_pos hl],rfl,R.h,R.b,R.le⟩
    ·cases h
   ·cases h
  ·cases h
omit hm in
theorem a6z (a:List V):a1a (shL σ a)=shE σ (a1a a):=by
 unfold a1a shE
 rw[a8n,List.map_map]
 apply List.map_congr_left
 intro i hi
 simp only[Function.comp_def]
 rw[List.getD_eq_getElem?_getD,List.getD_eq_getElem?_getD,c1s]
 cases a[i]? <;>rfl
theorem d8m {e:Env} {h H:Hp} (R:HR σ n HB h H):∀ {l:List d1x} {vs:List V},a9u e h l=some vs->a9u (shE σ e) H l=some (shL σ vs)
 |[],vs,hv=>by cases hv;rfl
 |r::l,vs,hv=>by
  simp only[a9u]at hv⊢
  have one:∀ v,f1u e h r=some v->f1u (shE σ e) H r=some (v.sh σ):=by
   intro v h1
   cases r with
   |tmp t=>cases h1;simp only[f1u,a7m]
   |cell t k=>
    simp only[f1u]at h1⊢
    have:=d7y hm (cx:=⟨fun _=>[],fun _=>none⟩) (o:=fun _ _ _=>none) (o':=fun _ _ _=>none) (e:=e) (fun _ _ _ _ _ _ _ hh=>by cases hh) (op:= .ld k (.t t)) (b:=n) (r:=v) (h':=h) rfl (Nat.le_refl _) R (by simp only[a0q,evO,h1,Option.map_some])
    obtain⟨H',h2,_⟩:=this
    simp only[a0q,evO]at h2
    obtain⟨q,hq,he⟩:=Option.map_eq_some_iff.1 h2
    cases he
    exact hq
  cases h1:f1u e h r with
  |none=>rw[h1]at hv;cases hv
  |some v=>
   cases h2:a9u e h l with
   |none=>rw[h1,h2]at hv;cases hv
   |some ws=>
    rw[h1,h2]at hv
    cases hv
    rw[one v h1,d8m R h2];rfl
omit hm in
theorem e1l (l:List V):oneOf (shL σ l)=(oneOf l).sh σ:=by
 match l with
 |[]=>rfl
 |[v]=>rfl
 |a::b::r=>rfl
theorem c3a {vf:VFn} {h0:Nat} {s S:St} (hn:n<=h0) (R:SR σ n HB s S) {r:V} {h':Hp} (h:leave vf h0 s=some (r,h')):∃ H',leave vf (σ h0) S=some (r.sh σ,H')/\HR σ n HB h' H':=by
 unfold leave at h⊢
 split at h
 ·cases h
 ·rename_i vs hvs
  rw[R.e,d8m hm R.h hvs]
  simp only at h⊢
  split at h
  ·rename_i hk
   cases h
   exact⟨_,by rw[if_pos hk,e1l],R.h⟩
  ·rename_i hk
   rw[if_neg hk]
   have e1:(shL σ vs).map (toArg S.h)=shL σ (vs.map (toArg s.h)):=by
    rw[a4n,a4n,List.map_map,List.map_map]
    apply List.map_congr_left
    intro v _
    exact e0a hm R.h v
   rw[e1,b4g hm]
   split at h
   ·rename_i hu
    cases h
    exact⟨_,by rw[if_pos hu,e1l],R.h.take hm hn⟩
   ·cases h
end
structure d2h (pg:Pg):Prop where
 prim:∀ f F,pg.tbl f=some (.prim F)->∀ a h r h',F a h=some (r,h')->a0w 0 a=true/\r.und 0=true/\h'=h/\∀ H,F a H=some (r,H)
 code:∀ f vf,pg.tbl f=some (.code vf)->vf.body.cst=true
theorem e3i {m:Nat} {l:List V} (h:a0w m l=true):(oneOf l).und m=true:=by
 match l,h with
 |[],_=>rfl
 |[v],h=>simp only[a0w,Bool.and_true]at h;exact h
 |a::b::r,h=>exact h
theorem d2j {vf:VFn} {h0:Nat} {s:St} {r:V} {h':Hp} (hk:vf.keep=false) (h:leave vf h0 s=some (r,h')):r.und h0=true:=by
 unfold leave at h
 split at h
 ·cases h
 ·simp only[hk]at h
  split at h
  ·rename_i hf;cases hf
  ·split at h
   ·rename_i hu;cases h;exact e3i hu
   ·cases h
structure b0n (pg:Pg):Prop where
 prim:∀ f F,pg.tbl f=some (.prim F)->∀ {σ:Nat->Nat} {n:Nat} {HB:Hp},Mv σ n HB->∀ a h r h' H,HR σ n HB h H->F a h=some (r,h')->∃ H',F (shL σ a) H=some (r.sh σ,H')/\HR σ n HB h' H'
 code:∀ f vf,pg.tbl f=some (.code vf)->vf.body.cst=true
theorem d2h.toH {pg:Pg} (hp:d2h pg):b0n pg:=⟨fun f F ht σ n HB _ a h r h' H R hh=>by
  obtain⟨a1,a2,rfl,a4⟩:=hp.prim f F ht a h r h' hh
  exact⟨H,by rw[a8h a a1,c1e r a2];exact a4 H,R⟩,hp.code⟩
theorem e5x {pg:Pg} (hp:b0n pg) {σ:Nat->Nat} {n:Nat} {HB:Hp} (hm:Mv σ n HB):∀ k,OSh σ n HB (b0v pg k) (b0v pg k)/\LSh σ n HB (c2n pg k) (c2n pg k)
 |0=>⟨fun f a h r h' H _ hh=>(nomatch ((a9e pg _ _ _).symm.trans hh)),fun ks c s x s' S _ _ hh=>(nomatch ((b1k pg _ _ _).symm.trans hh))⟩
 |k+1=>by
  obtain⟨h1,h2⟩:=e5x hp hm k
  refine⟨fun f a h r h' H R hh=>?_,fun ks c s x s' S hc R hh=>?_⟩
  ·rw[a5m,c1y]at hh⊢
   split at hh
   ·cases hh
   ·rename_i F ht
    exact hp.prim f F ht hm a h r h' H R hh
   ·rename_i vf ht
    show ∃ H',(if(shL σ a).length=vf.np then _ else none)=_/\_
    rw[a8n]
    split at hh
    ·rename_i hl
     rw[if_pos hl]
     have hu0:=b5a (σ:=σ) a
     cases hb:(a0w 0 a && !vf.keep)with
     |true=>
      rw[hb]at hh
      simp only[Bool.and_eq_true]at hb
      rw[a8h a hb.1,hb.1,hb.2]
      simp only[bare,Bool.and_self]at hh⊢
      obtain⟨q,hq,he⟩:=Option.map_eq_some_iff.1 hh
      cases he
      rw[hq]
      refine⟨H,?_,R⟩
      have hk:vf.keep=false:=by simpa using hb.2
      have:q.1.und 0=true:=by
       split at hq
       ·exact d2j hk hq
       ·exact d2j hk hq
       ·cases hq
      rw[c1e _ this];rfl
     |false=>
      rw[hb]at hh
      simp only[bare]at hh
      have hrun:∀ {q:V×Hp},(match evC pg.toCx (b0v pg k) (c2n pg k) vf.body ⟨a1a a,h,h.length⟩with
          |some (.nrm,s)|some (.ret,s)=>leave vf h.length s
          |_=>none)=some q->∃ H',(match evC pg.toCx (b0v pg k) (c2n pg k) vf.body ⟨a1a (shL σ a),H,H.length⟩with
          |some (.nrm,s)|some (.ret,s)=>leave vf H.length s
          |_=>none)=some (q.1.sh σ,H')/\HR σ n HB q.2 H':=by
        intro q hq
        cases hx:evC pg.toCx (b0v pg k) (c2n pg k) vf.body ⟨a1a a,h,h.length⟩with
        |none=>rw[hx]at hq;cases hq
        |some y=>
         obtain⟨x,s1⟩:=y
         obtain⟨S1,e1,R1⟩:=e6i hm h1 h2 (hp.code f vf ht) (S:=⟨a1a (shL σ a),H,H.length⟩) ⟨a6z a,R,R.len,R.le⟩ hx
         rw[hx]at hq
         rw[e1,R.len]
         cases x with
         |nrm=>exact c3a hm R.le R1 hq
         |ret=>exact c3a hm R.le R1 hq
         |exit i=>cases hq
      rw[hu0,hb];exact hrun hh
    ·cases hh
  ·rw[a9m]at hh⊢;exact e6i hm h1 h2 (c:= .loop ks c) hc R hh
theorem c0n {pg:Pg} (hp:b0n pg) {σ:Nat->Nat} {n:Nat} {HB:Hp} (hm:Mv σ n HB) {f:Nat} {a:List V} {h h' H:Hp} {r:V} (R:HR σ n HB h H) (hh:evF pg f a h=some (r,h')):∃ H',evF pg f (shL σ a) H=some (r.sh σ,H')/\HR σ n HB h' H':=by
 obtain⟨k,hk⟩:=a5t.1 hh
 obtain⟨H',h1,h2⟩:=(e5x hp hm k).1 _ _ _ _ _ _ R hk
 exact⟨H',e4y pg k _ _ _ _ h1,h2⟩
mutual
theorem f7q {σ:Nat->Nat} {n:Nat} (hσ:∀ i,i < n->σ i=i):∀ v:V,v.und n=true->v.sh σ=v
 | .agg l,h=>by rw[V.sh,b2x hσ l (by simpa only[V.und] using h)]
 | .tup l,h=>by rw[V.sh,b2x hσ l (by simpa only[V.und] using h)]
 | .fn f l,h=>by rw[V.sh,b2x hσ l (by simpa only[V.und] using h)]
 | .fm f l,h=>by rw[V.sh,b2x hσ l (by simpa only[V.und] using h)]
 | .row _ _,h=>by simp only[V.und,decide_eq_true_eq]at h;rw[V.sh,hσ _ h]
 | .arr _ _ _,h=>by simp only[V.und,decide_eq_true_eq]at h;rw[V.sh,hσ _ h]
 | .ptr _ _,h=>by simp only[V.und,decide_eq_true_eq]at h;rw[V.sh,hσ _ h]
 | .mp _,h=>by simp only[V.und,decide_eq_true_eq]at h;rw[V.sh,hσ _ h]
 | .d _,_=>rfl
 | .nils,_=>rfl
 | .ro _ _,_=>rfl
 | .nul,_=>rfl
 | .nof,_=>rfl
 | .ifc _,_=>rfl
 | .raw _,_=>rfl
 | .nmp,_=>rfl
 | .nile,_=>rfl
 | .undef,_=>rfl
theorem b2x {σ:Nat->Nat} {n:Nat} (hσ:∀ i,i < n->σ i=i):∀ l:List V,a0w n l=true->shL σ l=l
 |[],_=>rfl
 |v::r,h=>by
  simp only[a0w,Bool.and_eq_true]at h
  rw[shL,f7q hσ v h.1,b2x hσ r h.2]
end
theorem f5p {σ:Nat->Nat} {n:Nat} (hσ:∀ i,i < n->σ i=i):∀ {h:Hp},a4k n h=true->∀ o∈h,o.sh σ=o
 |[],_,o,ho=>by cases ho
 |p::l,hh,o,ho=>by
  rcases List.mem_cons.1 ho with rfl|ho
  ·cases o with
   |box c=>simp only[a4k,Bool.and_eq_true]at hh;rw[Ob.sh,b2x hσ c hh.1]
   |_=>rfl
  ·refine f5p hσ (h:=l) ?_ o ho
   cases p<;>simp only[a4k,Bool.and_eq_true]at hh<;>first|exact hh|exact hh.2
theorem d0b {pg:Pg} (hp:b0n pg) {f:Nat} {a:List V} {h h' X:Hp} {r:V} (hh:evF pg f a h=some (r,h')) (ha:a0w h.length a=true) (h1:a4k h.length h=true) (hl:h'.length=h.length) (h2:a4k h.length h'=true) (hr:r.und h.length=true):evF pg f a (h++X)=some (r,h'++X):=by
 let σ:Nat->Nat:=fun i=>if i < h.length then i else i+X.length
 have hσ:∀ i,i < h.length->σ i=i:=fun i hi=>if_pos hi
 have hm:Mv σ h.length (h++X):=by
  constructor
  ·intro i j hij
   show(if i < h.length then i else i+X.length) < (if j < h.length then j else j+X.length)
   split<;>split<;>omega
  ·intro j
   show(if h.length+j < h.length then h.length+j else h.length+j+X.length)=_
   rw[if_neg om,List.length_append];omega
 have hlen:∀ k:Hp,k.length=h.length->σ k.length=h.length+X.length:=by
  intro k hk
  show(if k.length < h.length then k.length else k.length+X.length)=_
  rw[hk,if_neg om]
 have R:HR σ h.length (h++X) h (h++X):=by
  refine⟨Nat.le_refl _,by rw[hlen h rfl,List.length_append],fun i o ho=>?_,fun _ _ _=>rfl⟩
  have hi:=(List.getElem?_eq_some_iff.1 ho).1
  rw[hσ i hi,List.getElem?_append_left hi,f5p hσ h1 o (List.mem_of_getElem? ho)];exact ho
 obtain⟨H',e1,R'⟩:=c0n hp hm R hh
 rw[b2x hσ a ha,f7q hσ r hr]at e1
 rw[e1]
 congr 2
 apply List.ext_getElem?
 intro j
 by_cases hj:j < h.length
 ·have:=R'.get? hm j
  rw[hσ j hj]at this
  rw[this,List.getElem?_append_left om]
  cases ho:h'[j]? with
  |none=>rfl
  |some o=>simp only[Option.map_some];rw[f5p hσ h2 o (List.mem_of_getElem? ho)]
 ·rw[List.getElem?_append_right om,hl]
  by_cases hx:j < (h++X).length
  ·rw[R'.out j hx (fun i hi e=>by rw[hσ i hi]at e;omega),List.getElem?_append_right om]
  ·rw[List.length_append]at hx
   rw[List.getElem?_eq_none (by rw[R'.len,hlen h' hl];omega),List.getElem?_eq_none om]
theorem g4c {pg:Pg} (hp:d2h pg) {f:Nat} {a:List V} {h h' X:Hp} {r:V} (hh:evF pg f a h=some (r,h')) (ha:a0w h.length a=true) (h1:a4k h.length h=true) (hl:h'.length=h.length) (h2:a4k h.length h'=true) (hr:r.und h.length=true):evF pg f a (h++X)=some (r,h'++X):=d0b hp.toH hh ha h1 hl h2 hr
end Go.Vm
namespace Go.Vm
def g8x (P:Program) (o:Op):VOp:=
 match o with
 | .binOp op t x y z=>match a8j x,a8j y,P.underlying t with
   |some a,some b,some (.struct fs)=>(match op,c0v P 0 fs.toList with
    | .eql,some ks=> .eqa false ks a b
    | .neq,some ks=> .eqa true ks a b
    |_,_=> .no)
   |_,_,_=>(b2i P (.binOp op t x y z)).getD .no
 |o=>(b2i P o).getD .no
def g2e (P:Program) (ops:Array Oper) (o:Oper):Option a0b:=
 match o.guard with
 |none=>some ⟨o.dst,g9d (i1m ops.toList o) (g8x P o.op),none⟩
 |some (j,b)=>match(ops[j]?).bind (·.dst)with
  |some s=>some ⟨o.dst,g9d (i1m ops.toList o) (g8x P o.op),some (s,b)⟩
  |none=>none
def d9y (P:Program) (ops:Array Oper):List Oper->Option (List a0b)
 |[]=>some []
 |o::r=>match g2e P ops o,d9y P ops r with|some v,some vs=>some (v::vs)|_,_=>none
def trR (P:Program) (A:Ann):Code->Option a0e
 | .skip=>some .skip
 | .label _=>some .skip
 | .region id ops draw=>match d9y P ops ops.toList with
   |none=>none
   |some vs=>if draw then some (a7d (A.ghost id) (.draw (g1c ops.toList) vs)) else some (a7d (A.ghost id) (.reg vs))
 | .seq a b=>match trR P A a,trR P A b with|some x,some y=>some (.seq x y)|_,_=>none
 | .cond c a b=>match a8j c,trR P A a,trR P A b with|some c,some x,some y=>some (.cond c x y)|_,_,_=>none
 | .block id b=>(trR P A b).map (.block id)
 | .loop b=>(trR P A b).map fun v=>a7d (c6q A b) (.loop ((b0d b).elim [] A.keep) v)
 | .scope b=>(trR P A b).map .scope
 | .exit id=>some (.exit id)
 | .ret=>some .ret
 |_=>none
def i0w (P:Program) (A:Ann) (keep:Bool) (fn:Func):Option VFn:=
 match fn.body with
 |none=>none
 |some c=>match trR P A c,c1i P fn.results.toList with
  |some b,some rs=>some ⟨fn.params.size+fn.nfree,fn.ntmps,b,rs,keep⟩
  |_,_=>none
theorem i1x (n:Nat) (h:n < 256):UInt8.ofBitVec (BitVec.ofFin ⟨n,h⟩)=UInt8.ofNat n:=UInt8.toNat_inj.1 (Nat.mod_eq_of_lt h).symm
structure Laid (P:Program) (A:Ann) (keep:Bool) (fn:Func) where
 F:VFn
 eq:i0w P A keep fn=some F
abbrev laid {P:Program} {A:Ann} {k:Bool} {fn:Func} (x:Laid P A k fn:=by refine⟨?F,?h⟩;case h=>((conv=>lhs;reduce;(try simp only[i1x,UInt8.reduceOfNat,Int.reduceNegSucc,Int.reduceOfNat]));try rfl)):Laid P A k fn:=x
abbrev AA (k:List (Nat×List Nat)) (g:List (Nat×List a0e)):Ann:=⟨fun i=>((k.find? (·.1==i)).map (·.2)).getD [],fun i=>((g.find? (·.1==i)).map (·.2)).getD []⟩
structure a0i {P:Program} {A:Ann} {k:Bool} {fn:Func} (i:Nat) (q:Laid P A k fn):Prop where
 tr:d7l P A q.F.keep fn=some q.F:=by kernel_rfl
 ok:q.F.ok=true:=by kernel_rfl
 cst:q.F.body.cst=true:=by kernel_rfl
 name:(fn.name== "runtime.NumGoroutine")=false:=by kernel_rfl
theorem a0i.ex {P:Program} {A:Ann} {k:Bool} {fn:Func} {i:Nat} {q:Laid P A k fn} (h:a0i i q) (hf:P.funcs[i]? =some fn):∃ fn A,P.funcs[i]? =some fn/\(fn.name== "runtime.NumGoroutine")=false/\d7l P A q.F.keep fn=some q.F/\q.F.ok=true:=⟨fn,A,hf,h.name,h.tr,h.ok⟩
end Go.Vm
namespace Go.Vm
section
variable (pg:Pg)
def blk (id:Nat) (r:Option (Ex×St)):Option (Ex×St):=
 match r with
 |some (.exit i,s)=>if i=id then some (.nrm,s) else some (.exit i,s)
 |r=>r
def cnd (v:V) (x y:Option (Ex×St)):Option (Ex×St):=
 match v with
 | .d (.bool t)=>if t then x else y
 |_=>none
def nrm (r:Option St):Option (Ex×St):=r.map fun s=>(.nrm,s)
def nwr (sz t:Nat) (s:St) (v:V):Option (Ex×St):=match v with
 | .nils=>if 0 < sz then some (.nrm,⟨(t,.row s.h.length 0)::s.e,s.h++[.row sz []],s.b⟩) else none
 |_=>none
@[simp] theorem f1z (sz t:Nat) (s:St):nwr sz t s .nils=if 0 < sz then some (.nrm,⟨(t,.row s.h.length 0)::s.e,s.h++[.row sz []],s.b⟩) else none:=rfl
def rnd (b:Nat) (r:Option (Ex×St)) (k:St->Option (Ex×St)):Option (Ex×St):=
 match r with
 |some (.nrm,s)=>k s
 |some (x,s)=>some (x,⟨s.e,s.h,b⟩)
 |none=>none
@[simp] theorem d7q (b:Nat) (s:St) (k):rnd b (some (.nrm,s)) k=k s:=rfl
@[simp] theorem h5u (b i:Nat) (s:St) (k):rnd b (some (.exit i,s)) k=some (.exit i,⟨s.e,s.h,b⟩):=rfl
@[simp] theorem h8l (b:Nat) (s:St) (k):rnd b (some (.ret,s)) k=some (.ret,⟨s.e,s.h,b⟩):=rfl
@[simp] theorem h9y (b:Nat) (c:Prop) [Decidable c] (x y) (k):rnd b (if c then x else y) k=if c then rnd b x k else rnd b y k:=by split<;>rfl
@[simp] theorem e6o (s:St) (k):sq (some (.nrm,s)) k=k s:=rfl
@[simp] theorem d6d (i:Nat) (s:St) (k):sq (some (.exit i,s)) k=some (.exit i,s):=rfl
@[simp] theorem e5u (s:St) (k):sq (some (.ret,s)) k=some (.ret,s):=rfl
@[simp] theorem i2f (k):sq none k=none:=rfl
@[simp] theorem sq_ite (c:Prop) [Decidable c] (x y) (k):sq (if c then x else y) k=if c then sq x k else sq y k:=by split<;>rfl
@[simp] theorem e7j (id:Nat) (s:St):blk id (some (.nrm,s))=some (.nrm,s):=rfl
@[simp] theorem e6m (id:Nat) (s:St):blk id (some (.ret,s))=some (.ret,s):=rfl
@[simp] theorem h5r (id:Nat):blk id none=none:=rfl
@[simp] theorem c3e (id i:Nat) (s:St):blk id (some (.exit i,s))=if i=id then some (.nrm,s) else some (.exit i,s):=rfl
@[simp] theorem i1r (id:Nat) (c:Prop) [Decidable c] (x y):blk id (if c then x else y)=if c then blk id x else blk id y:=by split<;>rfl
@[simp] theorem b1r (t:Bool) (x y):cnd (.d (.bool t)) x y=if t then x else y:=rfl
@[simp] theorem h5h (s:St):nrm (some s)=some (.nrm,s):=rfl
@[simp] theorem h7d:nrm none=none:=rfl
@[simp] theorem h8w (s:St):ev pg .skip s=some (.nrm,s):=rfl
@[simp] theorem h8v (i:Nat) (s:St):ev pg (.exit i) s=some (.exit i,s):=rfl
@[simp] theorem ev_ret (s:St):ev pg .ret s=some (.ret,s):=rfl
@[simp] theorem b6e (a b:a0e) (s:St):ev pg (.seq a b) s=sq (ev pg a s) (ev pg b):=rfl
@[simp] theorem b7c (c:Opd) (a b:a0e) (s:St):ev pg (.cond c a b) s=cnd (evO pg.toCx s.e c) (ev pg a s) (ev pg b s):=rfl
@[simp] theorem b0c (id:Nat) (b:a0e) (s:St):ev pg (.block id b) s=blk id (ev pg b s):=rfl
@[simp] theorem d9x (b:a0e) (s:St):ev pg (.scope b) s=ev pg b s:=rfl
@[simp] theorem e6s (sz t:Nat) (s:St):ev pg (.newrow sz t) s=nwr sz t s (a1k s.e t):=rfl
noncomputable def evR (ops:List a0b) (s:St):Option St:=a0s pg.toCx (evF pg) ops s
noncomputable def evD (m:Nat) (ops:List a0b) (s:St):Option St:=a2c pg.toCx (evF pg) m ops s
noncomputable def ev1 (o:VOp) (s:St):Option (V×Hp):=a0q pg.toCx (evF pg) s.b s.e s.h o
@[simp] theorem d2w (ops:List a0b) (s:St):ev pg (.reg ops) s=nrm (evR pg ops s):=rfl
theorem d5r {m:Nat} {ops:List a0b} {s r:St} (h:evD pg m ops s=some r):ev pg (.draw m ops) s=some (.nrm,r):=by
 show(b1e pg.toCx (evF pg) m ops s).map _=_
 rw[f6i h];rfl
theorem b3u (k:List Nat) (b:a0e) (s:St):ev pg (.loop k b) s=rnd s.b (ev pg b ⟨a2d k s.e,s.h,s.h.length⟩) (fun s'=>ev pg (.loop k b) ⟨cut s.h.length (a2d k s'.e),s'.h.take s.h.length,s.b⟩):=by
  conv=>lhs;simp only[ev,evC]
  rw[ev]
  cases hx:evC pg.toCx (evF pg) (evL pg) b ⟨a2d k s.e,s.h,s.h.length⟩with
  |none=>rfl
  |some q=>obtain⟨x,s'⟩:=q;cases x<;>first|rfl|exact h1q ..
@[simp] theorem d9u (dst:Option Nat) (e:Env) (b:Nat) (v:V) (h:Hp):lay dst e b (some (v,h))=some ⟨a7y dst v e,h,b⟩:=rfl
@[simp] theorem h5j (dst:Option Nat) (e:Env) (b:Nat):lay dst e b none=none:=rfl
@[simp] theorem g2h (b:Bool) (dst:Option Nat) (s:St) (r):grd (.tup []) b dst s r=some ⟨a7y dst (.tup []) s.e,s.h,s.b⟩:=rfl
@[simp] theorem d8n (t b:Bool) (dst:Option Nat) (s:St) (r):grd (.d (.bool t)) b dst s r=if t=b then lay dst s.e s.b r else some ⟨a7y dst (.tup []) s.e,s.h,s.b⟩:=rfl
def bnd (r:Option St) (k:St->Option St):Option St:=r.bind k
@[simp] theorem h5c (s:St) (k):bnd (some s) k=k s:=rfl
@[simp] theorem h7b (k):bnd none k=none:=rfl
@[simp] theorem h8d (c:Prop) [Decidable c] (x y) (k):bnd (if c then x else y) k=if c then bnd x k else bnd y k:=by split<;>rfl
@[simp] theorem i2i (c:Prop) [Decidable c] (x y):nrm (if c then x else y)=if c then nrm x else nrm y:=by split<;>rfl
@[simp] theorem i1v (s:St):evR pg [] s=some s:=rfl
@[simp] theorem h7e (d:Option Nat) (o:VOp) (r:List a0b) (s:St):evR pg (⟨d,o,none⟩::r) s=bnd (lay d s.e s.b (ev1 pg o s)) (evR pg r):=rfl
@[simp] theorem g9x (d:Option Nat) (o:VOp) (g:Nat) (b:Bool) (r:List a0b) (s:St):evR pg (⟨d,o,some (g,b)⟩::r) s=bnd (grd (a1k s.e g) b d s (ev1 pg o s)) (evR pg r):=rfl
@[simp] theorem g9e (k i:Nat) (v:V) (r:Env):a1k ((k,v)::r) i=if k=i then v else a1k r i:=rfl
@[simp] theorem h4x (i:Nat):a1k [] i= .undef:=rfl
@[simp] theorem g9m (d:Nat) (v:V) (e:Env):a7y (some d) v e=(d,v)::e:=rfl
@[simp] theorem g7j (v:V) (e:Env):a7y none v e=e:=rfl
@[simp] theorem evO_t (cx:Cx) (e:Env) (i:Nat):evO cx e (.t i)=a1k e i:=rfl
@[simp] theorem evO_c (cx:Cx) (e:Env) (v:V):evO cx e (.c v)=v:=rfl
@[simp] theorem evO_f (cx:Cx) (e:Env) (i:Nat):evO cx e (.f i)= .fn i []:=rfl
@[simp] theorem h9o (H:Hp) (x:D):toArg H (.d x)= .d x:=by simp[toArg,toD,b1i]
@[simp] theorem g6i (H:Hp):toArg H .nils= .d (.sl []):=by simp[toArg,toD,b1i]
@[simp] theorem g6v (H:Hp) (i o:Nat):toArg H (.ptr i o)= .ptr i o:=by simp[toArg,toD,b1i]
@[simp] theorem h5x (H:Hp) (f:Nat) (c:List V):toArg H (.fn f c)= .fn f c:=by simp[toArg,toD,b1i]
@[simp] theorem und_d (n:Nat) (x:D):V.und n (.d x)=true:=rfl
@[simp] theorem und_fn (n f:Nat) (c:List V):V.und n (.fn f c)=a0w n c:=by simp[V.und]
@[simp] theorem h8q (n:Nat) (c:List V):V.und n (.tup c)=a0w n c:=by simp[V.und]
@[simp] theorem h8m (n:Nat) (c:List V):V.und n (.agg c)=a0w n c:=by simp[V.und]
@[simp] theorem und_ro (n:Nat) (l:List D) (o:Nat):V.und n (.ro l o)=true:=rfl
@[simp] theorem i1k (n:Nat):V.und n .nul=true:=rfl
@[simp] theorem h4u (n:Nat):V.und n .nils=true:=rfl
@[simp] theorem g7m (n:Nat):V.und n .undef=true:=rfl
@[simp] theorem h9c (n i o:Nat):V.und n (.ptr i o)=decide (i < n):=by simp[V.und]
@[simp] theorem und_row (n i o:Nat):V.und n (.row i o)=decide (i < n):=by simp[V.und]
@[simp] theorem h7v (n i o l:Nat):V.und n (.arr i o l)=decide (i < n):=by simp[V.und]
@[simp] theorem h6b (n:Nat):a0w n []=true:=rfl
@[simp] theorem h2g (n:Nat) (v:V) (l:List V):a0w n (v::l)=(v.und n && a0w n l):=by simp[a0w]
@[simp] theorem g8z (k:IntKind) (n:Int):(V.d (.int k n)).cells=[.d (.int k n)]:=rfl
@[simp] theorem g5p (b:Bool):(V.d (.bool b)).cells=[.d (.bool b)]:=rfl
@[simp] theorem h3u (s:List UInt8):(V.d (.str s)).cells=[.d (.str s)]:=rfl
@[simp] theorem h4v (s:List D):(V.d (.sl s)).cells=[.d (.sl s)]:=rfl
@[simp] theorem g5r (s:List D):(V.d (.agg s)).cells=s.map V.d:=rfl
@[simp] theorem h2q (s:List V):(V.agg s).cells=s:=rfl
@[simp] theorem g5o:V.nils.cells=[.nils]:=rfl
@[simp] theorem h0t (i o:Nat):(V.ptr i o).cells=[.ptr i o]:=rfl
@[simp] theorem h0h (i o:Nat):(V.row i o).cells=[.row i o]:=rfl
@[simp] theorem h4q (f:Nat) (c:List V):(V.fn f c).cells=[.fn f c]:=rfl
@[simp] theorem h3s:V.nul.cells=[.nul]:=rfl
@[simp] theorem g5d (k:IntKind) (n:Int):(D.int k n).cells=[.int k n]:=rfl
@[simp] theorem f9x (b:Bool):(D.bool b).cells=[.bool b]:=rfl
@[simp] theorem g5w (s:List UInt8):(D.str s).cells=[.str s]:=rfl
@[simp] theorem g7p (s:List D):(D.sl s).cells=[.sl s]:=rfl
@[simp] theorem g5h (s:List D):(D.agg s).cells=s:=rfl
@[simp] theorem h8o (k:IntKind) (n:Int):(V.d (.int k n)).one=true:=rfl
@[simp] theorem h5g (b:Bool):(V.d (.bool b)).one=true:=rfl
@[simp] theorem i0m (s:List UInt8):(V.d (.str s)).one=true:=rfl
@[simp] theorem one_sl (s:List D):(V.d (.sl s)).one=true:=rfl
@[simp] theorem h6i:V.nils.one=true:=rfl
@[simp] theorem h9g (i o:Nat):(V.ptr i o).one=true:=rfl
@[simp] theorem i2a (i o:Nat):(V.row i o).one=true:=rfl
@[simp] theorem one_fn (f:Nat) (c:List V):(V.fn f c).one=true:=rfl
@[simp] theorem i0h:V.nul.one=true:=rfl
@[simp] theorem ev1_mv (x:Opd) (s:St):ev1 pg (.mv x) s=some (evO pg.toCx s.e x,s.h):=rfl
def e5q (c a b:V) (h:Hp):Option (V×Hp):=match c with| .d (.bool t)=>some (if t then a else b,h)|_=>none
@[simp] theorem h5q (c a b:Opd) (s:St):ev1 pg (.pick c a b) s=e5q (evO pg.toCx s.e c) (evO pg.toCx s.e a) (evO pg.toCx s.e b) s.h:=rfl
@[simp] theorem g5i (t a b:Bool) (h:Hp):e5q (.d (.bool t)) (.d (.bool a)) (.d (.bool b)) h=some (.d (.bool (if t then a else b)),h):=by cases t<;>rfl
@[simp] theorem g5f (t a:Bool) (h:Hp):e5q (.d (.bool t)) (.tup []) (.d (.bool a)) h=some (if t then .tup [] else .d (.bool a),h):=by cases t<;>rfl
def one (h:Hp) (r:Option V):Option (V×Hp):=r.map fun v=>(v,h)
@[simp] theorem h6v (h:Hp) (v:V):one h (some v)=some (v,h):=rfl
@[simp] theorem h4n (h:Hp):one h none=none:=rfl
@[simp] theorem i1q (op:BinOp) (x y:Opd) (s:St):ev1 pg (.bin op x y) s=one s.h (a7n op (evO pg.toCx s.e x) (evO pg.toCx s.e y)):=rfl
@[simp] theorem ev1_un (op:UnOp) (x:Opd) (s:St):ev1 pg (.un op x) s=one s.h (unV op (evO pg.toCx s.e x)):=rfl
@[simp] theorem h7j (z:List V) (s:St):ev1 pg (.zbox z) s=some (.ptr s.h.length 0,s.h++[.box z]):=rfl
def boxV (v:V) (h:Hp):Option (V×Hp):=if v.cells.all V.one then some (.ptr h.length 0,h++[.box v.cells]) else none
@[simp] theorem h8r (x:Opd) (s:St):ev1 pg (.box x) s=boxV (evO pg.toCx s.e x) s.h:=rfl
@[simp] theorem ev1_ld (n:Option Nat) (x:Opd) (s:St):ev1 pg (.ld n x) s=one s.h (b7p s.h n (evO pg.toCx s.e x)):=rfl
def und1 (r:Option Hp):Option (V×Hp):=r.map fun h=>(.undef,h)
@[simp] theorem g8i (h:Hp):und1 (some h)=some (.undef,h):=rfl
@[simp] theorem ev1_st (n:Nat) (a x:Opd) (s:St):ev1 pg (.st n a x) s=und1 (c2g s.b s.h n (evO pg.toCx s.e a) (evO pg.toCx s.e x)):=rfl
def g2r (k:IntKind) (v:V):Option V:=match v with| .d (.int _ n)=>some (.d (.int k (k.wrap n)))|_=>none
@[simp] theorem g9t (k k':IntKind) (n:Int):g2r k (.d (.int k' n))=some (.d (.int k (k.wrap n))):=rfl
@[simp] theorem h7m (k:IntKind) (x:Opd) (s:St):ev1 pg (.conv k x) s=one s.h (g2r k (evO pg.toCx s.e x)):=by
 simp only[ev1,a0q]
 generalize evO pg.toCx s.e x=v
 unfold g2r
 split<;>first|rfl|(rename_i h;split;rename_i h2;exact absurd rfl (h _ _);rfl)
def i2h (neg:Bool) (a b:V) (h:Hp):Option (V×Hp):=match a,b with| .d (.bool a),.d (.bool b)=>some (.d (.bool (if neg then !(a==b) else a==b)),h)|_,_=>none
@[simp] theorem eqbV_t (a b:Bool) (h:Hp):i2h true (.d (.bool a)) (.d (.bool b)) h=some (.d (.bool !(a==b)),h):=rfl
@[simp] theorem eqbV_f (a b:Bool) (h:Hp):i2h false (.d (.bool a)) (.d (.bool b)) h=some (.d (.bool (a==b)),h):=rfl
@[simp] theorem i1i (neg:Bool) (x y:Opd) (s:St):ev1 pg (.eqb neg x y) s=i2h neg (evO pg.toCx s.e x) (evO pg.toCx s.e y) s.h:=rfl
def eqaV (neg:Bool) (ks:List Nat) (a b:V) (h:Hp):Option (V×Hp):=match a,b with| .d (.agg a),.d (.agg b)=>if kindOk ks a b then some (.d (.bool (if neg then !eqL a b else eqL a b)),h) else none|_,_=>none
@[simp] theorem h7o (neg:Bool) (ks:List Nat) (a b:List D) (h:Hp):eqaV neg ks (.d (.agg a)) (.d (.agg b)) h=if kindOk ks a b then some (.d (.bool (if neg then !eqL a b else eqL a b)),h) else none:=rfl
@[simp] theorem i1d (neg:Bool) (ks:List Nat) (x y:Opd) (s:St):ev1 pg (.eqa neg ks x y) s=eqaV neg ks (evO pg.toCx s.e x) (evO pg.toCx s.e y) s.h:=rfl
@[simp] theorem h4y (f:Nat) (caps:List Opd) (s:St):ev1 pg (.mkfn f caps) s=some (.fn f (caps.map (evO pg.toCx s.e)),s.h):=rfl
def i1u (off:Nat) (n:Option Nat) (v:V):Option V:=match v with| .d (.agg c)=>a5q n (c.map V.d) off| .agg c=>a5q n c off|_=>none
@[simp] theorem fldV_d (off:Nat) (n:Option Nat) (c:List D):i1u off n (.d (.agg c))=a5q n (c.map V.d) off:=rfl
@[simp] theorem fldV_a (off:Nat) (n:Option Nat) (c:List V):i1u off n (.agg c)=a5q n c off:=rfl
@[simp] theorem h7z (off:Nat) (n:Option Nat) (x:Opd) (s:St):ev1 pg (.fld off n x) s=one s.h (i1u off n (evO pg.toCx s.e x)):=by
 simp only[ev1,a0q]
 generalize evO pg.toCx s.e x=v
 cases v with
 |d y=>cases y<;>rfl
 |_=>rfl
def h8c (off:Nat) (v:V):Option V:=match v with| .ptr id o=>some (.ptr id (o+off))| .ro l o=>some (.ro l (o+off))|_=>none
@[simp] theorem h7g (off id o:Nat):h8c off (.ptr id o)=some (.ptr id (o+off)):=rfl
@[simp] theorem i1o (off o:Nat) (l:List D):h8c off (.ro l o)=some (.ro l (o+off)):=rfl
@[simp] theorem h6l (off:Nat) (x:Opd) (s:St):ev1 pg (.fadr off x) s=one s.h (h8c off (evO pg.toCx s.e x)):=by
 simp only[ev1,a0q]
 generalize evO pg.toCx s.e x=v
 cases v<;>rfl
@[simp] theorem i0l (x:Opd) (i:Nat) (s:St):ev1 pg (.ext x i) s=one s.h (match evO pg.toCx s.e x with| .tup l=>l[i]? |_=>none):=by
  simp only[ev1,a0q]
  generalize evO pg.toCx s.e x=v
  cases v<;>rfl
@[simp] theorem h6o (f:Nat) (args:List Opd) (s:St):ev1 pg (.call f args) s=evF pg f (args.map fun x=>toArg s.h (evO pg.toCx s.e x)) s.h:=rfl
noncomputable def g8e (v:V) (args:List V) (h:Hp):Option (V×Hp):=match v with| .fn f c=>evF pg f (args++c) h| .fm f c=>evF pg f (c++args) h|_=>none
@[simp] theorem h7a (f:Nat) (c args:List V) (h:Hp):g8e pg (.fn f c) args h=evF pg f (args++c) h:=rfl
@[simp] theorem h4b (f:Opd) (args:List Opd) (s:St):ev1 pg (.callv f args) s=g8e pg (evO pg.toCx s.e f) (args.map fun x=>toArg s.h (evO pg.toCx s.e x)) s.h:=by
  simp only[ev1,a0q]
  generalize evO pg.toCx s.e f=v
  cases v<;>rfl
@[simp] theorem g6k (sz len:Nat) (ps:List Opd) (s:St):ev1 pg (.bslice sz len ps) s=match a0q.toDs' pg.toCx s.e s.h ps with
 |some l=>if l.length=len/\l.all (fun x=>x.cells.length==sz)/\0 < sz/\len*sz<=16777216 then some (.d (.sl l),s.h) else none
 |none=>none:=rfl
def g1e (sz:Nat) (x:V) (i:Option Nat) (h:Hp):Option (V×Hp):=match i with
 |none=>none
 |some n=>match x with
  | .arr id off len=>if n < len then some (.ptr id (off+n*sz),h) else none
  |v=>match lsize h v with
   |some l=>match l[n]? with
    |some y=>if y.cells.length=sz then some (.ro y.cells 0,h) else none
    |none=>none
   |none=>none
@[simp] theorem h4j (sz:Nat) (x i:Opd) (s:St):ev1 pg (.iadr sz x i) s=g1e sz (evO pg.toCx s.e x) (a3z (evO pg.toCx s.e i)) s.h:=rfl
def elV (sz:Nat) (y:Option D) (h:Hp):Option (V×Hp):=match y with|some y=>if y.cells.length=sz then some (.ro y.cells 0,h) else none|none=>none
@[simp] theorem h5b (sz:Nat) (y:D) (h:Hp):elV sz (some y) h=if y.cells.length=sz then some (.ro y.cells 0,h) else none:=rfl
@[simp] theorem h5s (sz:Nat) (h:Hp):elV sz none h=none:=rfl
@[simp] theorem h5f (sz n:Nat) (l:List D) (h:Hp):g1e sz (.d (.sl l)) (some n) h=elV sz l[n]? h:=by
 simp only[g1e,lsize,b1i,elV]
def e9n (len sz:Nat) (x:V) (i:Option Nat) (h:Hp):Option (V×Hp):=match i with
 |none=>none
 |some n=>if n < len then match x with
  | .ptr id o=>some (.ptr id (o+n*sz),h)
  | .ro l o=>some (.ro l (o+n*sz),h)
  |_=>none else none
@[simp] theorem h0b (len sz n o:Nat) (l:List D) (h:Hp):e9n len sz (.ro l o) (some n) h=if n < len then some (.ro l (o+n*sz),h) else none:=rfl
@[simp] theorem g6n (len sz n o id:Nat) (h:Hp):e9n len sz (.ptr id o) (some n) h=if n < len then some (.ptr id (o+n*sz),h) else none:=rfl
@[simp] theorem g7s (len sz:Nat) (x i:Opd) (s:St):ev1 pg (.iadra len sz x i) s=e9n len sz (evO pg.toCx s.e x) (a3z (evO pg.toCx s.e i)) s.h:=rfl
@[simp] theorem evO_g (cx:Cx) (e:Env) (i:Nat):evO cx e (.g i)= .ro (cx.gv i) 0:=rfl
theorem a9i (h:Hp):grew h h=true:=by simp[grew,a4k]
theorem c4g (h:Hp) (o:Ob):grew h (h++[o])=a4k (h.length+1) [o]:=by simp[grew]
@[simp] theorem h7q (l:List a0b) (s:St):evD pg 0 l s=evR pg l s:=by cases l<;>rfl
@[simp] theorem h7y (m:Nat) (s:St):evD pg m [] s=some s:=by cases m<;>rfl
noncomputable def dnd (d:Option Nat) (h:Hp) (r:Option St) (k:St->Option St):Option St:=r.bind fun s=>if(grew h s.h && b7i d s)=true then k s else none
@[simp] theorem h4m (d:Option Nat) (h:Hp) (s:St) (k):dnd d h (some s) k=if(grew h s.h && b7i d s)=true then k s else none:=rfl
@[simp] theorem h7c (d:Option Nat) (h:Hp) (k):dnd d h none k=none:=rfl
@[simp] theorem i1j (d:Option Nat) (h:Hp) (c:Prop) [Decidable c] (x y) (k):dnd d h (if c then x else y) k=if c then dnd d h x k else dnd d h y k:=by split<;>rfl
@[simp] theorem g5m (s:St):b7i none s=true:=rfl
@[simp] theorem g5s (d:Nat) (s:St):b7i (some d) s=(a1k s.e d).und s.h.length:=rfl
@[simp] theorem h5a (m:Nat) (d:Option Nat) (o:VOp) (r:List a0b) (s:St):evD pg (m+1) (⟨d,o,none⟩::r) s=dnd d s.h (lay d s.e s.b (ev1 pg o s)) (evD pg m r):=rfl
@[simp] theorem h2n (m:Nat) (d:Option Nat) (o:VOp) (g:Nat) (b:Bool) (r:List a0b) (s:St):evD pg (m+1) (⟨d,o,some (g,b)⟩::r) s=dnd d s.h (grd (a1k s.e g) b d s (ev1 pg o s)) (evD pg m r):=rfl
@[congr] theorem i0u {α:Sort _} {c c':Prop} [Decidable c] [Decidable c'] {x y x' y':α} (hc:c=c') (hx:c'->x=x') (hy:¬c'->y=y'):ite c x y=ite c' x' y':=by
 subst hc
 split
 ·exact hx (by assumption)
 ·exact hy (by assumption)
def b9t (keep:Bool) (res:List d1x) (n:Nat) (r:Option (Ex×St)):Option (V×Hp):=match r with
 |some (.nrm,s)|some (.ret,s)=>leave ⟨0,0,.skip,res,keep⟩ n s
 |_=>none
@[simp] theorem g5e (keep res n s):b9t keep res n (some (.ret,s))=leave ⟨0,0,.skip,res,keep⟩ n s:=rfl
@[simp] theorem g5k (keep res n s):b9t keep res n (some (.nrm,s))=leave ⟨0,0,.skip,res,keep⟩ n s:=rfl
@[simp] theorem g5b (keep res n) (c:Prop) [Decidable c] (x y):b9t keep res n (if c then x else y)=if c then b9t keep res n x else b9t keep res n y:=by split<;>rfl
theorem f4q (vf:VFn) (a:List V) (h:Hp):f0t pg vf a h=b9t vf.keep vf.res h.length (ev pg vf.body ⟨a1a a,h,h.length⟩):=rfl
theorem f8o {pg:Pg} {f:Nat} {vf:VFn} (ht:pg.tbl f=some (.code vf)) {a:List V} (hn:a.length=vf.np) (hu:(a0w 0 a && !vf.keep)=true) {r:V} {h':Hp} (hb:b9t vf.keep vf.res 0 (ev pg vf.body ⟨a1a a,[],0⟩)=some (r,h')) (H:Hp):evF pg f a H=some (r,H):=by
 rw[d8l ht,if_pos hn,hu]
 simp only[bare]
 rw[f4q]
 simp only[List.length_nil]
 rw[hb];rfl
theorem f8f {pg:Pg} {f:Nat} {vf:VFn} (ht:pg.tbl f=some (.code vf)) {a:List V} (hn:a.length=vf.np) {H:Hp} (hu:(a0w 0 a && !vf.keep)=false):evF pg f a H=b9t vf.keep vf.res H.length (ev pg vf.body ⟨a1a a,H,H.length⟩):=by
 rw[d8l ht,if_pos hn,hu]
 rfl
def e7q (z:List V) (qs:List (Nat×Nat×V)) (h:Hp):Option (V×Hp):=if qs.all (fun q=>q.2.2.cells.all V.one) then(b9z z qs).map fun c=>(a9w c,h) else none
@[simp] theorem h4e (z:List V) (ps:List (Nat×Nat×Opd)) (s:St):ev1 pg (.build z ps) s=e7q z (ps.map fun p=>(p.1,p.2.1,evO pg.toCx s.e p.2.2)) s.h:=by
  simp only[ev1,a0q,e7q,List.all_map,Function.comp_def]
@[simp] theorem h1m (z:List V):b9z z []=some z:=rfl
@[simp] theorem g5y (z:List V) (off n:Nat) (v:V) (r:List (Nat×Nat×V)):b9z z ((off,n,v)::r)=if v.cells.length=n/\off+n<=z.length then b9z (putAt z off v.cells) r else none:=rfl
def h3v (x:Option D) (l:Option (List D)):Option (List D):=match x,l with|some y,some ys=>some (y::ys)|_,_=>none
@[simp] theorem g6o (x:D) (l:List D):h3v (some x) (some l)=some (x::l):=rfl
@[simp] theorem h3y (cx:Cx) (e:Env) (H:Hp):a0q.toDs' cx e H []=some []:=rfl
@[simp] theorem g6h (cx:Cx) (e:Env) (H:Hp) (x:Opd) (r:List Opd):a0q.toDs' cx e H (x::r)=h3v (toD H (evO cx e x)) (a0q.toDs' cx e H r):=rfl
@[simp] theorem toD_d (H:Hp) (x:D):toD H (.d x)=some x:=by simp[toD,b1i]
@[simp] theorem h6q (H:Hp):toD H .nils=some (.sl []):=by simp[toD,b1i]
@[simp] theorem toD1_d (H:Hp) (x:D):b1i H (.d x)=some x:=by simp[b1i]
@[simp] theorem h3p (H:Hp):b1i H .nils=some (.sl []):=by simp[b1i]
def h6a (o:Option Ob) (len:Nat):Option D:=match o with|some (.row _ l)=>if l.length=len then some (.sl l) else none|_=>none
@[simp] theorem h5y (sz len:Nat) (l:List D):h6a (some (.row sz l)) len=if l.length=len then some (.sl l) else none:=rfl
@[simp] theorem h4t (H:Hp) (id len:Nat):b1i H (.row id len)=h6a H[id]? len:=rfl
@[simp] theorem i1b (H:Hp) (id len:Nat):toD H (.row id len)=h6a H[id]? len:=rfl
def g1z (o:Option D) (v:V):V:=match o with|some x=> .d x|none=>v
@[simp] theorem g6a (x:D) (v:V):g1z (some x) v= .d x:=rfl
@[simp] theorem g5u (v:V):g1z none v=v:=rfl
@[simp] theorem g7q (H:Hp) (id len:Nat):toArg H (.row id len)=g1z (h6a H[id]? len) (.row id len):=rfl
def idxV (i:Option Nat) (v:V) (h:Hp):Option (V×Hp):=match i,v with|some n,.d (.str s)=>(s[n]?).map fun b=>(.d (.int .u8 b.toNat),h)|_,_=>none
@[simp] theorem h3k (n:Nat) (s:List UInt8) (h:Hp):idxV (some n) (.d (.str s)) h=(s[n]?).map fun b=>(.d (.int .u8 b.toNat),h):=rfl
@[simp] theorem i1s (x i:Opd) (s:St):ev1 pg (.idx x i) s=idxV (a3z (evO pg.toCx s.e i)) (evO pg.toCx s.e x) s.h:=rfl
def h3n (v:V) (lo:Option Nat) (hi:Nat->Option Nat) (h:Hp):Option (V×Hp):=match v,lo with
 | .d (.str s),some l=>match hi s.length with
   |some k=>if l<=k/\k<=s.length then some (.d (.str ((s.take k).drop l)),h) else none
   |none=>none
 |_,_=>none
@[simp] theorem h5o (x:Opd) (lo hi:Option Opd) (s:St):ev1 pg (.slcs x lo hi) s=h3n (evO pg.toCx s.e x) (a0q.bound pg.toCx s.e 0 lo) (fun d=>a0q.bound pg.toCx s.e d hi) s.h:=rfl
def g6u (s:List UInt8) (l:Nat) (k:Option Nat) (h:Hp):Option (V×Hp):=match k with|some k=>if l<=k/\k<=s.length then some (.d (.str ((s.take k).drop l)),h) else none|none=>none
@[simp] theorem g5x (s:List UInt8) (l:Nat) (hi:Nat->Option Nat) (h:Hp):h3n (.d (.str s)) (some l) hi h=g6u s l (hi s.length) h:=rfl
@[simp] theorem g6g (s:List UInt8) (l k:Nat) (h:Hp):g6u s l (some k) h=if l<=k/\k<=s.length then some (.d (.str ((s.take k).drop l)),h) else none:=rfl
@[simp] theorem g6d (cx:Cx) (e:Env) (d:Nat):a0q.bound cx e d none=some d:=rfl
@[simp] theorem g5l (cx:Cx) (e:Env) (d:Nat) (x:Opd):a0q.bound cx e d (some x)=a3z (evO cx e x):=rfl
def slcV (sz:Nat) (z:Bool) (s:Option (List D)) (lo:Option Nat) (hi:Nat->Option Nat) (h:Hp):Option (V×Hp):=match s,lo with
 |some s,some l=>match hi s.length with
  |some k=>if l<=k/\k<=s.length/\(z||s.all (fun y=>y.cells.length==sz))=true then some (.d (.sl ((s.take k).drop l)),h) else none
  |none=>none
 |_,_=>none
@[simp] theorem h9b (sz:Nat) (x:Opd) (lo hi:Option Opd) (s:St):ev1 pg (.slc sz x lo hi) s=slcV sz lo.isNone (lsize s.h (evO pg.toCx s.e x)) (a0q.bound pg.toCx s.e 0 lo) (fun d=>a0q.bound pg.toCx s.e d hi) s.h:=rfl
def slcK (sz:Nat) (z:Bool) (s:List D) (l:Nat) (k:Option Nat) (h:Hp):Option (V×Hp):=match k with|some k=>if l<=k/\k<=s.length/\(z||s.all (fun y=>y.cells.length==sz))=true then some (.d (.sl ((s.take k).drop l)),h) else none|none=>none
@[simp] theorem g7x (sz:Nat) (z:Bool) (s:List D) (l:Nat) (hi:Nat->Option Nat) (h:Hp):slcV sz z (some s) (some l) hi h=slcK sz z s l (hi s.length) h:=rfl
@[simp] theorem g8g (sz:Nat) (z:Bool) (s:List D) (l k:Nat) (h:Hp):slcK sz z s l (some k) h=if l<=k/\k<=s.length/\(z||s.all (fun y=>y.cells.length==sz))=true then some (.d (.sl ((s.take k).drop l)),h) else none:=rfl
def szOf (o:Option D):Option (List D):=match o with|some (.sl l)=>some l|_=>none
@[simp] theorem i0b (l:List D):szOf (some (.sl l))=some l:=rfl
@[simp] theorem h6k (H:Hp) (v:V):lsize H v=szOf (b1i H v):=rfl
def g5j (str:Bool) (v:V) (h:Hp):Option (V×Hp):=match str,v with
 |true,.d (.str s)=>some (.d (.int .i64 s.length),h)
 |false,v=>(c9n v).map fun(n:Nat)=>(V.d (.int .i64 (n:Int)),h)
 |_,_=>none
@[simp] theorem h6n (s:List UInt8) (h:Hp):g5j true (.d (.str s)) h=some (.d (.int .i64 s.length),h):=rfl
@[simp] theorem h9j (l:List D) (h:Hp):g5j false (.d (.sl l)) h=some (.d (.int .i64 l.length),h):=rfl
@[simp] theorem h0u (h:Hp):g5j false .nils h=some (.d (.int .i64 0),h):=rfl
@[simp] theorem h6e (i n:Nat) (h:Hp):g5j false (.row i n) h=some (.d (.int .i64 n),h):=rfl
@[simp] theorem h5p (i o n:Nat) (h:Hp):g5j false (.arr i o n) h=some (.d (.int .i64 n),h):=rfl
@[simp] theorem h9z (str:Bool) (x:Opd) (s:St):ev1 pg (.len str x) s=g5j str (evO pg.toCx s.e x) s.h:=by
 simp only[ev1,a0q]
 generalize evO pg.toCx s.e x=v
 cases str
 ·rfl
 ·cases v with
  |d y=>cases y<;>rfl
  |_=>rfl
def f8z (v:V) (h:Hp):Option (V×Hp):=match v with| .d (.str s)=>some (.d (.str s),h)|_=>none
@[simp] theorem g6c (s:List UInt8) (h:Hp):f8z (.d (.str s)) h=some (.d (.str s),h):=rfl
@[simp] theorem g7z (x:Opd) (s:St):ev1 pg (.convs x) s=f8z (evO pg.toCx s.e x) s.h:=rfl
def h7s (sz bytes:Nat) (v:V) (ys:Option (List D)) (h:Hp):Option (V×Hp):=match ys with
 |none=>none
 |some ys=>if ys.all (fun y=>y.cells.length==sz)/\0 < sz then
  (match v with
    | .nile=>if ys=[] then some (.nile,h) else if roomy ys.length bytes then some (.row h.length ys.length,h++[.row sz ys]) else none
    | .nils=>if ys=[] then some (.nils,h) else if roomy ys.length bytes then some (.row h.length ys.length,h++[.row sz ys]) else none
    | .row id len=>match h[id]? with
      |some (.row sz' l)=>if sz'=sz/\l.length=len/\roomy (len+ys.length) bytes then some (.row id (len+ys.length),h.set id (.row sz (l++ys))) else none
      |_=>none
    |_=>none) else none
@[simp] theorem i0c (sz bytes:Nat) (x y:Opd) (s:St):ev1 pg (.app sz bytes x y) s=h7s sz bytes (evO pg.toCx s.e x) (lsize s.h (evO pg.toCx s.e y)) s.h:=rfl
def appR (sz bytes id len:Nat) (ys:List D) (o:Option Ob) (h:Hp):Option (V×Hp):=match o with
 |some (.row sz' l)=>if sz'=sz/\l.length=len/\roomy (len+ys.length) bytes then some (.row id (len+ys.length),h.set id (.row sz (l++ys))) else none
 |_=>none
@[simp] theorem h7f (sz bytes id len:Nat) (ys:List D) (h:Hp):h7s sz bytes (.row id len) (some ys) h=if ys.all (fun y=>y.cells.length==sz)/\0 < sz then appR sz bytes id len ys h[id]? h else none:=rfl
@[simp] theorem h6u (sz sz' bytes id len:Nat) (ys l:List D) (h:Hp):appR sz bytes id len ys (some (.row sz' l)) h=if sz'=sz/\l.length=len/\roomy (len+ys.length) bytes then some (.row id (len+ys.length),h.set id (.row sz (l++ys))) else none:=rfl
@[simp] theorem h0a (sz bytes:Nat) (ys:List D) (h:Hp):h7s sz bytes .nils (some ys) h=if ys.all (fun y=>y.cells.length==sz)/\0 < sz then(if ys=[] then some (.nils,h) else if roomy ys.length bytes then some (.row h.length ys.length,h++[.row sz ys]) else none) else none:=rfl
def mmV (mx:Bool) (a b:V) (h:Hp):Option (V×Hp):=match a,b with
 | .d (.int k a),.d (.int k' b)=>if k=k' then some (.d (.int k (if mx then max a b else min a b)),h) else none
 |_,_=>none
@[simp] theorem h9d (mx:Bool) (k k':IntKind) (a b:Int) (h:Hp):mmV mx (.d (.int k a)) (.d (.int k' b)) h=if k=k' then some (.d (.int k (if mx then max a b else min a b)),h) else none:=rfl
@[simp] theorem ev1_mm (mx:Bool) (x y:Opd) (s:St):ev1 pg (.mm mx x y) s=mmV mx (evO pg.toCx s.e x) (evO pg.toCx s.e y) s.h:=rfl
end
end Go.Vm
set_option maxRecDepth 100000
set_option maxHeartbeats 0
namespace Go.Vm.Ite
open Go Go.Vm Go.Proofs
abbrev A0:Ann:=AA [] []
def Q3:Laid Tryz.prog A0 false Tryz.f3:=laid
abbrev F3:VFn:=Q3.F
def Q4:Laid Tryz.prog (AA [(7,[0,3,5]),(13,[0,3,5,6,7])] []) false Tryz.f4:=laid
abbrev F4:VFn:=Q4.F
def Q5:Laid Tryz.prog A0 false Tryz.f5:=laid
abbrev F5:VFn:=Q5.F
def Q6:Laid Tryz.prog (AA [(6,[0,1,5,7,8])] []) false Tryz.f6:=laid
abbrev F6:VFn:=Q6.F
def Q8:Laid Tryz.prog A0 false Tryz.f8:=laid
abbrev F8:VFn:=Q8.F
def Q9:Laid Tryz.prog A0 false Tryz.f9:=laid
abbrev F9:VFn:=Q9.F
def Q10:Laid Tryz.prog (AA [(3,[1,3,4]),(8,[1,3,4,5,6,7]),(17,[3,8])] []) false Tryz.f10:=laid
abbrev F10:VFn:=Q10.F
def Q11:Laid Tryz.prog A0 false Tryz.f11:=laid
abbrev F11:VFn:=Q11.F
def Q12:Laid Tryz.prog (AA [(4,[2,3,5])] []) false Tryz.f12:=laid
abbrev F12:VFn:=Q12.F
def Q13:Laid Tryz.prog (AA [(8,[0,3,5,6])] [(7,[.newrow 5 5])]) false Tryz.f13:=laid
abbrev F13:VFn:=Q13.F
def Q21:Laid Tryz.prog (AA [(2,[0,2,3])] [(1000002,[.bindrow 1 3 3])]) false Tryz.f21:=laid
abbrev F21:VFn:=Q21.F
def Q23:Laid Tryz.prog (AA [(4,[0,1,12,13])] []) false Tryz.f23:=laid
abbrev F23:VFn:=Q23.F
def Q24:Laid Tryz.prog A0 false Tryz.f24:=laid
abbrev F24:VFn:=Q24.F
def Q25:Laid Tryz.prog (AA [(2,[0,3])] []) false Tryz.f25:=laid
abbrev F25:VFn:=Q25.F
def Q26:Laid Tryz.prog (AA [(1,[0,1]),(7,[0,1])] []) false Tryz.f26:=laid
abbrev F26:VFn:=Q26.F
def Q27:Laid Tryz.prog (AA [(1,[0,1])] []) false Tryz.f27:=laid
abbrev F27:VFn:=Q27.F
def Q28:Laid Tryz.prog A0 false Tryz.f28:=laid
abbrev F28:VFn:=Q28.F
def Q29:Laid Tryz.prog (AA [(3,[0,1,4,5,6,7])] []) false Tryz.f29:=laid
abbrev F29:VFn:=Q29.F
def Q30:Laid Tryz.prog A0 false Tryz.f30:=laid
abbrev F30:VFn:=Q30.F
def Q31:Laid Tryz.prog A0 false Tryz.f31:=laid
abbrev F31:VFn:=Q31.F
def Q32:Laid Tryz.prog (AA [(2,[0,1,9,10,11]),(8,[0,1,32,33,34])] []) false Tryz.f32:=laid
abbrev F32:VFn:=Q32.F
def Q33:Laid Tryz.prog (AA [(26,[0,1,6,9])] []) false Tryz.f33:=laid
abbrev F33:VFn:=Q33.F
def Q41:Laid Tryz.prog (AA [(8,[0,3,5,6])] [(7,[.newrow 5 5])]) false Tryz.f41:=laid
abbrev F41:VFn:=Q41.F
def Q45:Laid Tryz.prog A0 false Tryz.f45:=laid
abbrev F45:VFn:=Q45.F
def Q46:Laid Tryz.prog (AA [] [(6,[.bindrow 1 4 3]),(16,[.bindrow 1 4 3]),(20,[.bindrow 1 4 3])]) false Tryz.f46:=laid
abbrev F46:VFn:=Q46.F
def Q47:Laid Tryz.prog A0 false Tryz.f47:=laid
abbrev F47:VFn:=Q47.F
def Q48:Laid Tryz.prog A0 false Tryz.f48:=laid
abbrev F48:VFn:=Q48.F
def Q49:Laid Tryz.prog A0 false Tryz.f49:=laid
abbrev F49:VFn:=Q49.F
def Q50:Laid Tryz.prog A0 false Tryz.f50:=laid
abbrev F50:VFn:=Q50.F
def Q51:Laid Tryz.prog (AA [(4,[0,1,4,5])] []) false Tryz.f51:=laid
abbrev F51:VFn:=Q51.F
def Q52:Laid Tryz.prog (AA [(3,[0,4,5])] []) false Tryz.f52:=laid
abbrev F52:VFn:=Q52.F
def Q53:Laid Tryz.prog (AA [(2,[0,5,6,7])] []) false Tryz.f53:=laid
abbrev F53:VFn:=Q53.F
def Q60:Laid Tryz.prog A0 false Tryz.f60:=laid
abbrev F60:VFn:=Q60.F
def Q61:Laid Tryz.prog A0 false Tryz.f61:=laid
abbrev F61:VFn:=Q61.F
def Q62:Laid Tryz.prog A0 false Tryz.f62:=laid
abbrev F62:VFn:=Q62.F
def Q63:Laid Tryz.prog A0 false Tryz.f63:=laid
abbrev F63:VFn:=Q63.F
def Q64:Laid Tryz.prog A0 false Tryz.f64:=laid
abbrev F64:VFn:=Q64.F
def Q66:Laid Tryz.prog A0 false Tryz.f66:=laid
abbrev F66:VFn:=Q66.F
def Q67:Laid Tryz.prog A0 false Tryz.f67:=laid
abbrev F67:VFn:=Q67.F
def Q71:Laid Tryz.prog (AA [(1,[0,1])] []) false Tryz.f71:=laid
abbrev F71:VFn:=Q71.F
def Q72:Laid Tryz.prog A0 false Tryz.f72:=laid
abbrev F72:VFn:=Q72.F
def Q79:Laid Tryz.prog A0 false Tryz.f79:=laid
abbrev F79:VFn:=Q79.F
def Q80:Laid Tryz.prog A0 false Tryz.f80:=laid
abbrev F80:VFn:=Q80.F
def Q81:Laid Tryz.prog A0 false Tryz.f81:=laid
abbrev F81:VFn:=Q81.F
def Q82:Laid Tryz.prog A0 false Tryz.f82:=laid
abbrev F82:VFn:=Q82.F
def Q84:Laid Tryz.prog A0 false Tryz.f84:=laid
abbrev F84:VFn:=Q84.F
def Q85:Laid Tryz.prog A0 false Tryz.f85:=laid
abbrev F85:VFn:=Q85.F
def Q86:Laid Tryz.prog A0 false Tryz.f86:=laid
abbrev F86:VFn:=Q86.F
def Q87:Laid Tryz.prog A0 false Tryz.f87:=laid
abbrev F87:VFn:=Q87.F
def Q89:Laid Tryz.prog A0 false Tryz.f89:=laid
abbrev F89:VFn:=Q89.F
def Q94:Laid Tryz.prog A0 false Tryz.f94:=laid
abbrev F94:VFn:=Q94.F
def Q101:Laid Tryz.prog A0 false Tryz.f101:=laid
abbrev F101:VFn:=Q101.F
def Q102:Laid Tryz.prog (AA [(2,[0,3])] []) false Tryz.f102:=laid
abbrev F102:VFn:=Q102.F
def Q103:Laid Tryz.prog A0 false Tryz.f103:=laid
abbrev F103:VFn:=Q103.F
def Q104:Laid Tryz.prog A0 false Tryz.f104:=laid
abbrev F104:VFn:=Q104.F
def Q105:Laid Tryz.prog A0 false Tryz.f105:=laid
abbrev F105:VFn:=Q105.F
def Q106:Laid Tryz.prog A0 false Tryz.f106:=laid
abbrev F106:VFn:=Q106.F
def Q111:Laid Tryz.prog A0 false Tryz.f111:=laid
abbrev F111:VFn:=Q111.F
def Q112:Laid Tryz.prog (AA [(0,[0,1,2])] []) false Tryz.f112:=laid
abbrev F112:VFn:=Q112.F
def Q113:Laid Tryz.prog (AA [(0,[0,1])] []) false Tryz.f113:=laid
abbrev F113:VFn:=Q113.F
def Q114:Laid Tryz.prog A0 false Tryz.f114:=laid
abbrev F114:VFn:=Q114.F
def Q115:Laid Tryz.prog (AA [(2,[0,2,3])] []) false Tryz.f115:=laid
abbrev F115:VFn:=Q115.F
def Q122:Laid Tryz.prog A0 false Tryz.f122:=laid
abbrev F122:VFn:=Q122.F
def Q123:Laid Tryz.prog A0 false Tryz.f123:=laid
abbrev F123:VFn:=Q123.F
def Q125:Laid Tryz.prog A0 false Tryz.f125:=laid
abbrev F125:VFn:=Q125.F
def Q126:Laid Tryz.prog A0 false Tryz.f126:=laid
abbrev F126:VFn:=Q126.F
def Q127:Laid Tryz.prog A0 false Tryz.f127:=laid
abbrev F127:VFn:=Q127.F
def Q128:Laid Tryz.prog A0 false Tryz.f128:=laid
abbrev F128:VFn:=Q128.F
def Q129:Laid Tryz.prog A0 false Tryz.f129:=laid
abbrev F129:VFn:=Q129.F
def Q134:Laid Tryz.prog A0 false Tryz.f134:=laid
abbrev F134:VFn:=Q134.F
def Q135:Laid Tryz.prog A0 false Tryz.f135:=laid
abbrev F135:VFn:=Q135.F
def Q136:Laid Tryz.prog (AA [] [(5,[.bindrow 1 4 3]),(13,[.bindrow 1 4 3])]) false Tryz.f136:=laid
abbrev F136:VFn:=Q136.F
def Q137:Laid Tryz.prog A0 false Tryz.f137:=laid
abbrev F137:VFn:=Q137.F
def Q138:Laid Tryz.prog A0 false Tryz.f138:=laid
abbrev F138:VFn:=Q138.F
def Q147:Laid Tryz.prog A0 false Tryz.f147:=laid
abbrev F147:VFn:=Q147.F
def Q148:Laid Tryz.prog A0 false Tryz.f148:=laid
abbrev F148:VFn:=Q148.F
def Q149:Laid Tryz.prog A0 false Tryz.f149:=laid
abbrev F149:VFn:=Q149.F
def Q150:Laid Tryz.prog A0 false Tryz.f150:=laid
abbrev F150:VFn:=Q150.F
def Q151:Laid Tryz.prog A0 false Tryz.f151:=laid
abbrev F151:VFn:=Q151.F
def Q152:Laid Tryz.prog A0 false Tryz.f152:=laid
abbrev F152:VFn:=Q152.F
def Q160:Laid Tryz.prog (AA [(0,[0,1])] []) false Tryz.f160:=laid
abbrev F160:VFn:=Q160.F
def Q161:Laid Tryz.prog A0 false Tryz.f161:=laid
abbrev F161:VFn:=Q161.F
def tbl (F:Nat->Option a1j):Nat->Option a1j
 |3=>some (.code F3)
 |4=>some (.code F4)
 |5=>some (.code F5)
 |6=>some (.code F6)
 |8=>some (.code F8)
 |9=>some (.code F9)
 |10=>some (.code F10)
 |11=>some (.code F11)
 |12=>some (.code F12)
 |13=>some (.code F13)
 |21=>some (.code F21)
 |23=>some (.code F23)
 |24=>some (.code F24)
 |25=>some (.code F25)
 |26=>some (.code F26)
 |27=>some (.code F27)
 |28=>some (.code F28)
 |29=>some (.code F29)
 |30=>some (.code F30)
 |31=>some (.code F31)
 |32=>some (.code F32)
 |33=>some (.code F33)
 |41=>some (.code F41)
 |45=>some (.code F45)
 |46=>some (.code F46)
 |47=>some (.code F47)
 |48=>some (.code F48)
 |49=>some (.code F49)
 |50=>some (.code F50)
 |51=>some (.code F51)
 |52=>some (.code F52)
 |53=>some (.code F53)
 |60=>some (.code F60)
 |61=>some (.code F61)
 |62=>some (.code F62)
 |63=>some (.code F63)
 |64=>some (.code F64)
 |66=>some (.code F66)
 |67=>some (.code F67)
 |71=>some (.code F71)
 |72=>some (.code F72)
 |79=>some (.code F79)
 |80=>some (.code F80)
 |81=>some (.code F81)
 |82=>some (.code F82)
 |84=>some (.code F84)
 |85=>some (.code F85)
 |86=>some (.code F86)
 |87=>some (.code F87)
 |89=>some (.code F89)
 |94=>some (.code F94)
 |101=>some (.code F101)
 |102=>some (.code F102)
 |103=>some (.code F103)
 |104=>some (.code F104)
 |105=>some (.code F105)
 |106=>some (.code F106)
 |111=>some (.code F111)
 |112=>some (.code F112)
 |113=>some (.code F113)
 |114=>some (.code F114)
 |115=>some (.code F115)
 |122=>some (.code F122)
 |123=>some (.code F123)
 |125=>some (.code F125)
 |126=>some (.code F126)
 |127=>some (.code F127)
 |128=>some (.code F128)
 |129=>some (.code F129)
 |134=>some (.code F134)
 |135=>some (.code F135)
 |136=>some (.code F136)
 |137=>some (.code F137)
 |138=>some (.code F138)
 |147=>some (.code F147)
 |148=>some (.code F148)
 |149=>some (.code F149)
 |150=>some (.code F150)
 |151=>some (.code F151)
 |152=>some (.code F152)
 |160=>some (.code F160)
 |161=>some (.code F161)
 |i=>F i
abbrev b7t:Nat:=3
theorem b6y {F:Nat->Option a1j}:(tbl F) 3=some (.code F3):=rfl
abbrev b9x:Nat:=4
theorem b8d {F:Nat->Option a1j}:(tbl F) 4=some (.code F4):=rfl
abbrev b3s:Nat:=5
theorem b3d {F:Nat->Option a1j}:(tbl F) 5=some (.code F5):=rfl
abbrev b6n:Nat:=6
theorem b6s {F:Nat->Option a1j}:(tbl F) 6=some (.code F6):=rfl
abbrev d0e:Nat:=8
theorem c8v {F:Nat->Option a1j}:(tbl F) 8=some (.code F8):=rfl
abbrev d3y:Nat:=9
theorem d3n {F:Nat->Option a1j}:(tbl F) 9=some (.code F9):=rfl
abbrev c6k:Nat:=10
theorem c4k {F:Nat->Option a1j}:(tbl F) 10=some (.code F10):=rfl
abbrev c7g:Nat:=11
theorem c7j {F:Nat->Option a1j}:(tbl F) 11=some (.code F11):=rfl
abbrev c8s:Nat:=12
theorem c9j {F:Nat->Option a1j}:(tbl F) 12=some (.code F12):=rfl
abbrev c7c:Nat:=13
theorem c6z {F:Nat->Option a1j}:(tbl F) 13=some (.code F13):=rfl
abbrev a7t:Nat:=21
theorem b5w {F:Nat->Option a1j}:(tbl F) 21=some (.code F21):=rfl
abbrev d0v:Nat:=23
theorem d3k {F:Nat->Option a1j}:(tbl F) 23=some (.code F23):=rfl
abbrev d4t:Nat:=24
theorem d3f {F:Nat->Option a1j}:(tbl F) 24=some (.code F24):=rfl
abbrev c6w:Nat:=25
theorem c5l {F:Nat->Option a1j}:(tbl F) 25=some (.code F25):=rfl
abbrev b9l:Nat:=26
theorem c9a {F:Nat->Option a1j}:(tbl F) 26=some (.code F26):=rfl
abbrev d7s:Nat:=27
theorem d6x {F:Nat->Option a1j}:(tbl F) 27=some (.code F27):=rfl
abbrev d0l:Nat:=28
theorem c9d {F:Nat->Option a1j}:(tbl F) 28=some (.code F28):=rfl
abbrev c2y:Nat:=29
theorem c2p {F:Nat->Option a1j}:(tbl F) 29=some (.code F29):=rfl
abbrev c7a:Nat:=30
theorem c7d {F:Nat->Option a1j}:(tbl F) 30=some (.code F30):=rfl
abbrev d0h:Nat:=31
theorem c9u {F:Nat->Option a1j}:(tbl F) 31=some (.code F31):=rfl
abbrev d3d:Nat:=32
theorem d2t {F:Nat->Option a1j}:(tbl F) 32=some (.code F32):=rfl
abbrev d3g:Nat:=33
theorem d4e {F:Nat->Option a1j}:(tbl F) 33=some (.code F33):=rfl
abbrev d3j:Nat:=41
theorem d1v {F:Nat->Option a1j}:(tbl F) 41=some (.code F41):=rfl
abbrev a5n:Nat:=45
theorem b9h {F:Nat->Option a1j}:(tbl F) 45=some (.code F45):=rfl
abbrev a4s:Nat:=46
theorem b6j {F:Nat->Option a1j}:(tbl F) 46=some (.code F46):=rfl
abbrev a4l:Nat:=47
theorem b5n {F:Nat->Option a1j}:(tbl F) 47=some (.code F47):=rfl
abbrev a3b:Nat:=48
theorem a4j {F:Nat->Option a1j}:(tbl F) 48=some (.code F48):=rfl
abbrev b4e:Nat:=49
theorem b4f {F:Nat->Option a1j}:(tbl F) 49=some (.code F49):=rfl
abbrev a7u:Nat:=50
theorem a4i {F:Nat->Option a1j}:(tbl F) 50=some (.code F50):=rfl
abbrev a0k:Nat:=51
theorem a1s {F:Nat->Option a1j}:(tbl F) 51=some (.code F51):=rfl
abbrev b6g:Nat:=52
theorem c6y {F:Nat->Option a1j}:(tbl F) 52=some (.code F52):=rfl
abbrev d3p:Nat:=53
theorem d1m {F:Nat->Option a1j}:(tbl F) 53=some (.code F53):=rfl
abbrev b0i:Nat:=60
theorem b0k {F:Nat->Option a1j}:(tbl F) 60=some (.code F60):=rfl
abbrev a9c:Nat:=61
theorem b7r {F:Nat->Option a1j}:(tbl F) 61=some (.code F61):=rfl
abbrev a5k:Nat:=62
theorem c0c {F:Nat->Option a1j}:(tbl F) 62=some (.code F62):=rfl
abbrev a4t:Nat:=63
theorem a9g {F:Nat->Option a1j}:(tbl F) 63=some (.code F63):=rfl
abbrev a3a:Nat:=64
theorem b5q {F:Nat->Option a1j}:(tbl F) 64=some (.code F64):=rfl
abbrev a4a:Nat:=66
theorem c1t {F:Nat->Option a1j}:(tbl F) 66=some (.code F66):=rfl
abbrev a3n:Nat:=67
theorem a5l {F:Nat->Option a1j}:(tbl F) 67=some (.code F67):=rfl
abbrev c8b:Nat:=71
theorem e2k {F:Nat->Option a1j}:(tbl F) 71=some (.code F71):=rfl
abbrev c6b:Nat:=72
theorem d6r {F:Nat->Option a1j}:(tbl F) 72=some (.code F72):=rfl
abbrev b9i:Nat:=79
theorem b8f {F:Nat->Option a1j}:(tbl F) 79=some (.code F79):=rfl
theorem b4h {F:Nat->Option a1j}:(tbl F) 80=some (.code F80):=rfl
abbrev a1w:Nat:=81
theorem a7w {F:Nat->Option a1j}:(tbl F) 81=some (.code F81):=rfl
abbrev c0j:Nat:=82
theorem b9o {F:Nat->Option a1j}:(tbl F) 82=some (.code F82):=rfl
theorem b4i {F:Nat->Option a1j}:(tbl F) 84=some (.code F84):=rfl
theorem b4m {F:Nat->Option a1j}:(tbl F) 85=some (.code F85):=rfl
abbrev a3s:Nat:=86
theorem b2q {F:Nat->Option a1j}:(tbl F) 86=some (.code F86):=rfl
abbrev a6u:Nat:=87
theorem b3a {F:Nat->Option a1j}:(tbl F) 87=some (.code F87):=rfl
abbrev b6l:Nat:=89
theorem b6q {F:Nat->Option a1j}:(tbl F) 89=some (.code F89):=rfl
abbrev a9n:Nat:=94
theorem b6u {F:Nat->Option a1j}:(tbl F) 94=some (.code F94):=rfl
abbrev b6o:Nat:=101
theorem b6k {F:Nat->Option a1j}:(tbl F) 101=some (.code F101):=rfl
abbrev e8n:Nat:=102
theorem e7w {F:Nat->Option a1j}:(tbl F) 102=some (.code F102):=rfl
abbrev d6l:Nat:=103
theorem d7o {F:Nat->Option a1j}:(tbl F) 103=some (.code F103):=rfl
abbrev d1l:Nat:=104
theorem d2d {F:Nat->Option a1j}:(tbl F) 104=some (.code F104):=rfl
abbrev e3f:Nat:=105
theorem e4s {F:Nat->Option a1j}:(tbl F) 105=some (.code F105):=rfl
abbrev e4c:Nat:=106
theorem e4a {F:Nat->Option a1j}:(tbl F) 106=some (.code F106):=rfl
abbrev a6s:Nat:=111
theorem a6t {F:Nat->Option a1j}:(tbl F) 111=some (.code F111):=rfl
abbrev b5u:Nat:=112
theorem b5t {F:Nat->Option a1j}:(tbl F) 112=some (.code F112):=rfl
abbrev b2s:Nat:=113
theorem b2l {F:Nat->Option a1j}:(tbl F) 113=some (.code F113):=rfl
abbrev a4u:Nat:=114
theorem b7q {F:Nat->Option a1j}:(tbl F) 114=some (.code F114):=rfl
abbrev a3r:Nat:=115
theorem b2k {F:Nat->Option a1j}:(tbl F) 115=some (.code F115):=rfl
abbrev a5y:Nat:=122
theorem a6a {F:Nat->Option a1j}:(tbl F) 122=some (.code F122):=rfl
abbrev d1b:Nat:=123
theorem d1o {F:Nat->Option a1j}:(tbl F) 123=some (.code F123):=rfl
abbrev e9d:Nat:=125
theorem e9o {F:Nat->Option a1j}:(tbl F) 125=some (.code F125):=rfl
abbrev b8y:Nat:=126
theorem c0e {F:Nat->Option a1j}:(tbl F) 126=some (.code F126):=rfl
abbrev b7m:Nat:=127
theorem b7g {F:Nat->Option a1j}:(tbl F) 127=some (.code F127):=rfl
abbrev a5i:Nat:=128
theorem b0x {F:Nat->Option a1j}:(tbl F) 128=some (.code F128):=rfl
abbrev a6e:Nat:=129
theorem b2h {F:Nat->Option a1j}:(tbl F) 129=some (.code F129):=rfl
theorem b3v {F:Nat->Option a1j}:(tbl F) 134=some (.code F134):=rfl
abbrev a3x:Nat:=135
theorem b3z {F:Nat->Option a1j}:(tbl F) 135=some (.code F135):=rfl
abbrev a7r:Nat:=136
theorem b5y {F:Nat->Option a1j}:(tbl F) 136=some (.code F136):=rfl
theorem b1m {F:Nat->Option a1j}:(tbl F) 137=some (.code F137):=rfl
theorem b1f {F:Nat->Option a1j}:(tbl F) 138=some (.code F138):=rfl
abbrev a7a:Nat:=147
theorem b3o {F:Nat->Option a1j}:(tbl F) 147=some (.code F147):=rfl
abbrev a7s:Nat:=148
theorem b5p {F:Nat->Option a1j}:(tbl F) 148=some (.code F148):=rfl
theorem b2p {F:Nat->Option a1j}:(tbl F) 149=some (.code F149):=rfl
theorem b2r {F:Nat->Option a1j}:(tbl F) 150=some (.code F150):=rfl
theorem b2g {F:Nat->Option a1j}:(tbl F) 151=some (.code F151):=rfl
abbrev a4z:Nat:=152
theorem b7l {F:Nat->Option a1j}:(tbl F) 152=some (.code F152):=rfl
abbrev b2m:Nat:=160
theorem b2j {F:Nat->Option a1j}:(tbl F) 160=some (.code F160):=rfl
abbrev a5w:Nat:=161
theorem c0f {F:Nat->Option a1j}:(tbl F) 161=some (.code F161):=rfl
end Go.Vm.Ite
