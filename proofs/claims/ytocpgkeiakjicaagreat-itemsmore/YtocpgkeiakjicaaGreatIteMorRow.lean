/- A struct more at the end, of another name, leaves all other items as they are; no condition. -/
import Derived.Test.YtocpgkeiakjicaaGreatItrW8
import Derived.Test.YtocpgkeiakjicaaGreatIofM
import Derived.Test.YtocpgkeiakjicaaGreatTreP
import Derived.Test.YtocpgkeiakjicaaGreatTypP25
import Derived.Test.YtocpgkeiakjicaaGreatVmWp2
import Derived.Test.YtocpgkeiakjicaaGreatIteL
set_option maxRecDepth 100000
set_option linter.unusedVariables false
set_option linter.unusedSimpArgs false
namespace Go.Vm.Tp
def f3v (up:List Int):Nat->Nat->Int
 |0,_=>0
 |f+1,j=>if 0<=up.getD j (-1) then f3v up f (up.getD j (-1)).toNat+1 else 0
def g4o (up:List Int):Prop:=∀ j,j < up.length->0<=up.getD j (-1)->(j:Int) < up.getD j (-1)/\(up.getD j (-1)).toNat < up.length
theorem d3x {up:List Int} (h:g4o up):∀ (n j f g:Nat),up.length - j<=n->j < up.length->up.length - j<=f->up.length - j<=g->f3v up f j=f3v up g j
 |0,j,_,_,hn,hj,_,_=>om
 |n+1,j,f,g,hn,hj,hf,hg=>by
  obtain⟨f,rfl⟩:∃ f',f=f'+1:=⟨f - 1,om⟩
  obtain⟨g,rfl⟩:∃ g',g=g'+1:=⟨g - 1,om⟩
  rw[f3v,f3v]
  by_cases c:0<=up.getD j (-1)
  ·obtain⟨h1,h2⟩:=h j hj c
   rw[if_pos c,if_pos c,d3x h n _ f g om h2 om om]
  ·rw[if_neg c,if_neg c]
def d2t (up:List Int) (j:Nat):Int:=f3v up up.length j
theorem b2h {up:List Int} (h:g4o up) {j:Nat} (hj:j < up.length):d2t up j=if 0<=up.getD j (-1) then d2t up (up.getD j (-1)).toNat+1 else 0:=by
 unfold d2t
 have:f3v up up.length j=f3v up (up.length+1) j:=d3x h _ j _ _ (Nat.le_refl _) hj om om
 rw[this,f3v]
theorem b9i (l:List Int) (n j:Nat) (v d:Int):(l.set n v).getD j d=if j=n/\n < l.length then v else l.getD j d:=by
 rw[List.getD_eq_getElem?_getD,List.getElem?_set,List.getD_eq_getElem?_getD]
 by_cases c:n=j
 ·subst c
  by_cases d:n < l.length
  ·simp[d]
  ·simp[d]
 ·have:¬ j=n:=fun e=>c e.symm
  simp[c,this]
theorem e6q {l:List Int} {j:Nat} (h:j < l.length) (a b:Int):l.getD j a=l.getD j b:=by
 simp[List.getD_eq_getElem?_getD,List.getElem?_eq_getElem h]
theorem c4i {up:List Int} (h:g4o up):∀ (n:Nat) (out:List Int),n<=up.length->out.length=up.length->(∀ j,n<=j->j < up.length->out.getD j 0=d2t up j)->(∀ j,j < n->out.getD j 0=0)->∀ j,j < up.length->(c9m up n out).getD j 0=d2t up j
 |0,out,_,_,h1,_,j,hj=>h1 j (Nat.zero_le _) hj
 |n+1,out,hn,hl,h1,h0,j,hj=>by
  rw[c9m]
  have hd:up.getD n 0=up.getD n (-1):=e6q om _ _
  by_cases c:0<=up.getD n (-1)
  ·obtain⟨g1,g2⟩:=h n om c
   rw[if_pos c]
   refine c4i h n _ om (by rw[List.length_set,hl]) (fun i hi hil=>?_) (fun i hi=>?_) j hj
   ·rw[b9i]
    by_cases e:i=n
    ·rw[if_pos ⟨e,om⟩,e,b2h h om,if_pos c,hd,h1 _ om g2]
    ·rw[if_neg om];exact h1 i om hil
   ·rw[b9i,if_neg om];exact h0 i om
  ·rw[if_neg c]
   refine c4i h n _ om hl (fun i hi hil=>?_) (fun i hi=>h0 i om) j hj
   by_cases e:i=n
   ·rw[e,b2h h om,if_neg c];exact h0 n om
   ·exact h1 i om hil
theorem e0j {up:List Int} (h:g4o up) {j:Nat} (hj:j < up.length):(deps up).getD j 0=d2t up j:=by
 unfold deps
 refine c4i h _ _ (Nat.le_refl _) (by simp) (fun i hi hil=>om) (fun i hi=>?_) j hj
 simp[List.getD_eq_getElem?_getD,hi]
theorem c2c (b:Int):∀ (l:List Int) (a:Int),l.foldl max a<=b↔a<=b/\∀ x∈l,x<=b
 |[],a=>by simp
 |y::r,a=>by
  rw[List.foldl_cons,c2c b r,List.forall_mem_cons]
  constructor
  ·rintro⟨h1,h2⟩;exact⟨om,om,h2⟩
  ·rintro⟨h1,h2,h3⟩;exact⟨om,h3⟩
theorem g5o {b:Int} (hb:0<=b) (l:List Int):d9d l<=b↔∀ x∈l,x<=b:=by
 cases l with
 |nil=>simp[d9d,hb]
 |cons a r=>rw[d9d,c2c,List.forall_mem_cons]
theorem d1e (up:List Int):(deps up).length=up.length:=by unfold deps;rw[c5t,List.length_replicate]
theorem e8x {up:List Int} (h:g4o up):d9d (deps up)<=400↔∀ j,j < up.length->d2t up j<=400:=by
 rw[g5o (by decide)]
 constructor
 ·intro g j hj
  rw[<-e0j h hj]
  have hj2:j < (deps up).length:=by rw[d1e];exact hj
  rw[List.getD_eq_getElem?_getD,List.getElem?_eq_getElem hj2]
  exact g _ (List.getElem_mem _)
 ·intro g x hx
  obtain⟨j,hj,rfl⟩:=List.getElem_of_mem hx
  rw[d1e]at hj
  have:=g j hj
  rw[<-e0j h hj,List.getD_eq_getElem?_getD,List.getElem?_eq_getElem (by rw[d1e];exact hj)]at this
  exact this
theorem c1d:∀ (ks:List Int) (A A2 e1 e2 o:List Int) (i i2:Nat),A.length=A2.length->(∀ j,0<=A.getD j (-1)↔0<=A2.getD j (-1))->(∀ x∈ks,0<=x/\x.toNat < A.length)->a2m i ks (A++e1)=some o->∃ B B2,o=B++e1/\a2m i2 ks (A2++e2)=some (B2++e2)/\B.length=A.length/\B2.length=A.length/\(∀ j,B.getD j (-1)=if(j:Int)∈ks then(i:Int) else A.getD j (-1))/\(∀ j,B2.getD j (-1)=if(j:Int)∈ks then(i2:Int) else A2.getD j (-1))
 |[],A,A2,e1,e2,o,i,i2,hl,hs,hk,h=>by
  cases h
  exact⟨A,A2,rfl,rfl,rfl,hl.symm,fun j=>by simp,fun j=>by simp⟩
 |k::r,A,A2,e1,e2,o,i,i2,hl,hs,hk,h=>by
  obtain⟨k0,k1⟩:=hk k List.mem_cons_self
  have gA:∀ (B e:List Int) (d:Int),k.toNat < B.length->(B++e).getD k.toNat d=B.getD k.toNat (-1):=fun B e d hb=>by
    rw[List.getD_eq_getElem?_getD,List.getElem?_append_left hb,List.getD_eq_getElem?_getD,List.getElem?_eq_getElem hb];rfl
  rw[a2m,gA A e1 0 k1]at h
  by_cases c:0<=A.getD k.toNat (-1)
  ·rw[if_pos c]at h;cases h
  ·rw[if_neg c,List.set_append_left _ _ k1]at h
   have c2:¬ 0<=A2.getD k.toNat (-1):=fun q=>c ((hs _).2 q)
   have hs2:∀ j,0<=(A.set k.toNat (i:Int)).getD j (-1)↔0<=(A2.set k.toNat (i2:Int)).getD j (-1):=fun j=>by
     rw[b9i,b9i,<-hl]
     by_cases e:j=k.toNat/\k.toNat < A.length
     ·rw[if_pos e,if_pos e];omega
     ·rw[if_neg e,if_neg e];exact hs j
   obtain⟨B,B2,h1,h2,h3,h4,h5,h6⟩:=c1d r _ _ e1 e2 o i i2 (by rw[List.length_set,List.length_set,hl]) hs2 (fun x hx=>by rw[List.length_set];exact hk x (List.mem_cons_of_mem _ hx)) h
   rw[List.length_set]at h3 h4
   have key:∀ (C:List Int) (n j:Nat),k.toNat < C.length->(if(j:Int)∈r then(n:Int) else(C.set k.toNat (n:Int)).getD j (-1))=if(j:Int)∈k::r then(n:Int) else C.getD j (-1):=fun C n j hc=>by
     rw[b9i]
     by_cases e:(j:Int)∈r
     ·rw[if_pos e,if_pos (List.mem_cons_of_mem _ e)]
     ·rw[if_neg e]
      by_cases f:j=k.toNat
      ·rw[if_pos ⟨f,hc⟩,if_pos (List.mem_cons.2 (.inl om))]
      ·rw[if_neg (fun q=>f q.1),if_neg (fun q=>by rcases List.mem_cons.1 q with q|q;exact f om;exact e q)]
   refine⟨B,B2,h1,?_,h3,h4,fun j=>(h5 j).trans (key A i j k1),fun j=>(h6 j).trans (key A2 i2 j om)⟩
   rw[a2m,gA A2 e2 0 om,if_neg c2,List.set_append_left _ _ om]
   exact h2
theorem d2u:∀ (T:List Nd) (i:Nat) (A e1 e2 o:List Int),(∀ x∈T,∀ k∈x.kids,0<=k/\k.toNat < A.length)->a5y i T (A++e1)=some o->∃ B,o=B++e1/\a5y i T (A++e2)=some (B++e2)/\B.length=A.length/\∀ j,B.getD j (-1) < (i+T.length:Nat)\/B.getD j (-1)=A.getD j (-1)
 |[],i,A,e1,e2,o,hk,h=>by cases h;exact⟨A,rfl,rfl,rfl,fun j=> .inr rfl⟩
 |x::r,i,A,e1,e2,o,hk,h=>by
  rw[a5y]at h
  cases hu:a2m i x.kids (A++e1)with
  |none=>rw[hu]at h;cases h
  |some o1=>
   rw[hu]at h
   obtain⟨B,B2,h1,h2,h3,h4,h5,h6⟩:=c1d x.kids A A e1 e2 o1 i i rfl (fun _=>Iff.rfl) (hk x List.mem_cons_self) hu
   have hB:B2=B:=by
    refine List.ext_getElem om fun j g1 g2=>?_
    have a:=h5 j
    have b:=h6 j
    rw[List.getD_eq_getElem?_getD,List.getElem?_eq_getElem g2]at a
    rw[List.getD_eq_getElem?_getD,List.getElem?_eq_getElem g1]at b
    exact b.trans a.symm
   subst hB
   subst h1
   obtain⟨C,g1,g2,g3,g4⟩:=d2u r (i+1) B2 e1 e2 o (fun y hy=>by rw[h3];exact hk y (List.mem_cons_of_mem _ hy)) h
   refine⟨C,g1,?_,om,fun j=>?_⟩
   ·rw[a5y,h2];exact g2
   ·rcases g4 j with q|q
    ·left;rw[List.length_cons];omega
    ·rw[q,h5 j]
     by_cases e:(j:Int)∈x.kids
     ·rw[if_pos e];left;rw[List.length_cons];omega
     ·rw[if_neg e];exact .inr rfl
theorem b8b:∀ (T U:List Nd) (i:Nat) (o:List Int),a5y i (T++U) o=(a5y i T o).bind (a5y (i+T.length) U)
 |[],U,i,o=>rfl
 |x::r,U,i,o=>by
  rw[List.cons_append,a5y,a5y]
  cases a2m i x.kids o with
  |none=>rfl
  |some o1=>simp only[Option.bind_some];rw[b8b r U (i+1) o1,List.length_cons,show i+1+r.length=i+(r.length+1)by omega]
end Go.Vm.Tp

namespace Go.Vm.Tp
open Go.Vm.Lex
theorem c8v (i:Nat):∀ (ks out r:List Int),a2m i ks out=some r->(∀ k∈ks,0<=k)->∀ (j:Nat),0<=r.getD j (-1)->0<=out.getD j (-1)/\r.getD j (-1)=out.getD j (-1)\/r.getD j (-1)=i/\(j:Int)∈ks
 |[],out,r,h,_,j,hj=>by cases h;exact .inl ⟨hj,rfl⟩
 |k::ks,out,r,h,hk,j,hj=>by
  simp only[a2m]at h
  split at h
  ·cases h
  have hk0:=hk k (by simp)
  rcases c8v i ks _ r h (fun k' h'=>hk k' (by simp[h'])) j hj with⟨h1,h2⟩|⟨h1,h2⟩
  ·by_cases hjk:k.toNat=j
   ·subst hjk
    right
    by_cases hlt:k.toNat < out.length
    ·refine⟨by rw[h2];simp[hlt],?_⟩
     rw[show((k.toNat:Nat):Int)=k by omega];simp
    ·rw[h2]at hj;simp[hlt]at hj
   ·left
    have:(out.set k.toNat (i:Int)).getD j (-1)=out.getD j (-1):=by simp[List.getD_eq_getElem?_getD,hjk]
    rw[this]at h1 h2
    exact⟨h1,h2⟩
  ·exact .inr ⟨h1,by simp[h2]⟩
theorem d3m:∀ (i:Nat) (t:List Nd) (out r:List Int),a5y i t out=some r->(∀ x∈t,∀ k∈x.kids,0<=k)->∀ (j:Nat),0<=r.getD j (-1)->0<=out.getD j (-1)\/∃ a,a < t.length/\r.getD j (-1)=(i+a:Nat)/\(j:Int)∈(t.getD a default).kids
 |i,[],out,r,h,_,j,hj=>by cases h;exact .inl hj
 |i,x::t,out,r,h,hk,j,hj=>by
  simp only[a5y]at h
  obtain⟨o,h1,h2⟩:=Option.bind_eq_some_iff.1 h
  rcases d3m (i+1) t o r h2 (fun y hy=>hk y (by simp[hy])) j hj with h3|⟨a,h3,h4,h5⟩
  ·rcases c8v i x.kids out o h1 (hk x (by simp)) j h3 with⟨h4,_⟩|⟨h4,h5⟩
   ·exact .inl h4
   ·refine .inr ⟨0,by simp,?_,by simpa using h5⟩
    by_cases hr:r.getD j (-1)=(i:Int)
    ·rw[hr];simp
    ·exfalso
     exact hr (by
       have:=upAll_keep (i+1) t o r h2 j h3
       rw[this,h4])
  ·exact .inr ⟨a+1,by simp;omega,by rw[h4];congr 1;omega,by simpa using h5⟩
where
 upKids_keep (i:Nat):∀ (ks out r:List Int),a2m i ks out=some r->∀ j:Nat,0<=out.getD j (-1)->r.getD j (-1)=out.getD j (-1)
  |[],out,r,h,j,hj=>by cases h;rfl
  |k::ks,out,r,h,j,hj=>by
   simp only[a2m]at h
   split at h
   ·cases h
   rename_i hc
   have:(out.set k.toNat (i:Int)).getD j (-1)=out.getD j (-1):=by
    by_cases hjk:k.toNat=j
    ·subst hjk
     by_cases hlt:k.toNat < out.length
     ·have e:out.getD k.toNat 0=out.getD k.toNat (-1):=by simp[hlt]
      rw[e]at hc;exact absurd hj hc
     ·simp[hlt]
    ·simp[List.getD_eq_getElem?_getD,hjk]
   rw[upKids_keep i ks _ r h j (by rw[this];exact hj),this]
 upAll_keep:∀ (i:Nat) (t:List Nd) (out r:List Int),a5y i t out=some r->∀ j:Nat,0<=out.getD j (-1)->r.getD j (-1)=out.getD j (-1)
  |i,[],out,r,h,j,hj=>by cases h;rfl
  |i,x::t,out,r,h,j,hj=>by
   simp only[a5y]at h
   obtain⟨o,h1,h2⟩:=Option.bind_eq_some_iff.1 h
   have e1:=upKids_keep i x.kids out o h1 j hj
   rw[upAll_keep (i+1) t o r h2 j (by rw[e1];exact hj),e1]
theorem f9y {t:List Nd} {up:List Int} (h:ups t=some up) (hk:∀ x∈t,∀ k∈x.kids,0<=k) (j:Nat) (hj:0<=up.getD j (-1)):up.getD j (-1) < t.length/\(j:Int)∈(t.getD (up.getD j (-1)).toNat default).kids:=by
 rcases d3m 0 t _ up h hk j hj with h1|⟨a,h1,h2,h3⟩
 ·exfalso
  rw[List.getD_eq_getElem?_getD,List.getElem?_replicate]at h1
  split at h1<;>simp at h1
 ·rw[h2]
  exact⟨om,by simpa using h3⟩
theorem b3o.g9o {t:List Nd} {up:List Int} (h:b3o t up):∀ x∈t,∀ k∈x.kids,0<=k:=by
 intro x hx k hk
 obtain⟨i,hi,rfl⟩:=List.getElem_of_mem hx
 have e:t.getD i default=t[i]:=by simp[hi]
 have:=(h.nod i hi).kid k (by rw[e];exact hk)
 exact this.1
theorem b3o.above {t:List Nd} {up:List Int} (h:b3o t up) (j:Nat) (hj:0<=up.getD j (-1)):(j:Int) < up.getD j (-1)/\up.getD j (-1) < t.length/\(j:Int)∈(t.getD (up.getD j (-1)).toNat default).kids:=by
 obtain⟨h1,h2⟩:=f9y h.ups h.g9o j hj
 exact⟨by have:=((h.nod (up.getD j (-1)).toNat om).kid _ h2).2;omega,h1,h2⟩
theorem b3o.last {t:List Nd} {up:List Int} (h:b3o t up):¬ 0<=up.getD (t.length - 1) (-1):=fun hj=>by
  have:=h.above _ hj
  have:=h.lo
  omega
def TokP (s:List UInt8):Prop:=s≠[]/\s.length<=64
def AllT (l:Toks):Prop:=∀ s∈l,TokP s
end Go.Vm.Tp
namespace Go.Vm.Tp
open Go.Vm.Lex (a7d)
theorem b3o.len {t:List Nd} {up:List Int} (h:b3o t up):up.length=t.length:=(c3t h.ups).1
theorem b3o.f2r {t:List Nd} {up:List Int} (h:b3o t up):g4o up:=fun j hj h0=>by
  have:=h.above j h0
  have:=h.len
  exact⟨om,om⟩
theorem c8q (i:Nat):∀ (a b o:List Int),a2m i (a++b) o=(a2m i a o).bind (a2m i b)
 |[],b,o=>rfl
 |k::a,b,o=>by
  rw[List.cons_append,a2m,a2m]
  split
  ·rfl
  ·exact c8q i a b _
theorem d1d (i n j:Nat) {X0 X:List Int} (hn:X0.length=n) (hneg:X.getD j 0 < 0):a2m i [((n+j:Nat):Int)] (X0++X)=some (X0++X.set j i):=by
 have h1:(X0++X).getD (n+j) 0=X.getD j 0:=by
  rw[List.getD_eq_getElem?_getD,List.getElem?_append_right om,<-hn,Nat.add_sub_cancel_left,List.getD_eq_getElem?_getD]
 rw[a2m,Int.toNat_natCast,h1,if_neg om,a2m,List.set_append_right _ _ om,<-hn,Nat.add_sub_cancel_left]
section
variable (T:List Nd) (il:List Int) (e0 e1 a b c d e f:Int)
abbrev tM:List Nd:=T++[⟨1,[],0,il,0,e0⟩]
abbrev u1:Nd:=⟨10,[],0,[],a,b⟩
abbrev u2:Nd:=⟨5,[122],0,[(T.length:Int)],c,d⟩
abbrev u3:Nd:=⟨3,[90,122],0,[((T.length+1:Nat):Int)],e,f⟩
abbrev u4:Nd:=⟨1,[],0,il++[((T.length+2:Nat):Int)],0,e1⟩
abbrev uM:List Nd:=T++[u1 a b,u2 T c d,u3 T e f,u4 T il e1]
variable {T il e0 e1 a b c d e f}
theorem b6l:(uM T il e1 a b c d e f).length=T.length+4:=by rw[List.length_append];rfl
theorem b0l:(tM T il e0).length=T.length+1:=by rw[List.length_append];rfl
theorem f4g {i:Nat} (h:i < T.length):(uM T il e1 a b c d e f).getD i default=(tM T il e0).getD i default:=by
 rw[List.getD_eq_getElem?_getD,List.getD_eq_getElem?_getD,List.getElem?_append_left h,List.getElem?_append_left h]
theorem e3x (j:Nat):(uM T il e1 a b c d e f).getD (T.length+j) default=[u1 a b,u2 T c d,u3 T e f,u4 T il e1].getD j default:=by
 rw[List.getD_eq_getElem?_getD,List.getElem?_append_right om,Nat.add_sub_cancel_left,<-List.getD_eq_getElem?_getD]
theorem f3l:(tM T il e0).getD T.length default=⟨1,[],0,il,0,e0⟩:=by
 rw[List.getD_eq_getElem?_getD,List.getElem?_append_right om,Nat.sub_self];rfl
theorem f0b {ks:List Int} (h:∀ x∈ks,0<=x/\x.toNat < T.length):kinds (uM T il e1 a b c d e f) ks=kinds (tM T il e0) ks:=by
 unfold kinds a9k
 refine List.map_congr_left fun x hx=>?_
 rw[f4g (e0:=e0) (h x hx).2]
variable (h:a1l (tM T il e0)=true)
include h
theorem f5t {i:Nat} (hi:i < T.length):∀ x∈((tM T il e0).getD i default).kids,0<=x/\x < i:=by
 obtain⟨up,hT⟩:=c5m h
 exact(hT.nod i (by rw[b0l];omega)).kid
theorem h8i:∀ x∈il,0<=x/\x.toNat < T.length:=fun x hx=>by
  obtain⟨up,hT⟩:=c5m h
  have:=(hT.nod T.length (by rw[b0l];omega)).kid
  rw[f3l]at this
  have:=this x hx
  omega
theorem g4x {i:Nat} (hi:i < T.length):b0v (uM T il e1 a b c d e f) i=true:=by
 have h1:b0v (tM T il e0) i=true:=by
  unfold a1l at h
  simp only[Bool.and_eq_true,List.all_eq_true]at h
  exact h.1.2 i (List.mem_range.2 (by rw[b0l];omega))
 have hk:=f5t h hi
 unfold b0v at h1⊢
 rw[f4g (e0:=e0) hi]
 simp only at h1⊢
 rw[f0b (e0:=e0) (fun x hx=>by have:=hk x hx;omega)]
 exact h1
theorem g3h (hab:0<=a/\a<=b) (hcd:0<=c/\c<=d) (hef:0<=e/\e<=f) (he1:0<=e1) {j:Nat} (hj:j < 4):b0v (uM T il e1 a b c d e f) (T.length+j)=true:=by
 have hk:∀ i:Nat,a9k (uM T il e1 a b c d e f) ((T.length+i:Nat):Int)=([u1 a b,u2 T c d,u3 T e f,u4 T il e1].getD i default).k:=fun i=>by
   unfold a9k;rw[Int.toNat_natCast,e3x]
 have ht:a9k (uM T il e1 a b c d e f) (T.length:Int)=10:=hk 0
 have ht1:a9k (uM T il e1 a b c d e f) ((T.length+1:Nat):Int)=5:=hk 1
 have ht2:a9k (uM T il e1 a b c d e f) ((T.length+2:Nat):Int)=3:=hk 2
 unfold b0v
 rw[e3x]
 match j,hj with
 |0,_=>
  show(([]:List Int).all _ && (a5c 10 && nmB 10 [] && b6k 10 0 (params (kinds _ [])) && decide (0<=a) && decide (a<=b) && b2e 10 0 (kinds _ [])))=true
  simp only[decide_eq_true hab.1,decide_eq_true hab.2,List.all_nil,kinds,List.map_nil]
  decide
 |1,_=>
  show(([(T.length:Int)]:List Int).all _ && (a5c 5 && nmB 5 [122] && b6k 5 0 (params (kinds _ [(T.length:Int)])) && decide (0<=c) && decide (c<=d) && b2e 5 0 (kinds _ [(T.length:Int)])))=true
  simp only[decide_eq_true hcd.1,decide_eq_true hcd.2,kinds,List.map_cons,List.map_nil,ht,List.all_cons,List.all_nil,Bool.and_true]
  rw[decide_eq_true (show(0:Int)<=(T.length:Int)by omega),decide_eq_true (show(T.length:Int) < ((T.length+1:Nat):Int)by omega)]
  decide
 |2,_=>
  show(([((T.length+1:Nat):Int)]:List Int).all _ && (a5c 3 && nmB 3 [90,122] && b6k 3 0 (params (kinds _ [((T.length+1:Nat):Int)])) && decide (0<=e) && decide (e<=f) && b2e 3 0 (kinds _ [((T.length+1:Nat):Int)])))=true
  simp only[decide_eq_true hef.1,decide_eq_true hef.2,kinds,List.map_cons,List.map_nil,ht1,List.all_cons,List.all_nil,Bool.and_true]
  rw[decide_eq_true (show(0:Int)<=((T.length+1:Nat):Int)by omega),decide_eq_true (show((T.length+1:Nat):Int) < ((T.length+2:Nat):Int)by omega)]
  decide
 |3,_=>
  have hil:=h8i h
  have hfit:b2e 1 0 (kinds (tM T il e0) il)=true:=by
   obtain⟨up,hT⟩:=c5m h
   have:=(hT.nod T.length (by rw[b0l];omega)).fit
   rwa [f3l]at this
  have hke:kinds (uM T il e1 a b c d e f) (il++[((T.length+2:Nat):Int)])=kinds (tM T il e0) il++[3]:=by
   unfold kinds
   rw[List.map_append]
   congr 1
   ·exact f0b (e0:=e0) hil
   ·simp only[List.map_cons,List.map_nil,ht2]
  show((il++[((T.length+2:Nat):Int)]).all _ && (_ && nmB 1 [] && b6k 1 0 (params (kinds _ (il++[((T.length+2:Nat):Int)]))) && decide ((0:Int)<=0) && decide (0<=e1) && b2e 1 0 (kinds _ (il++[((T.length+2:Nat):Int)]))))=true
  have h1:(il++[((T.length+2:Nat):Int)]).all (fun k=>decide (0<=k) && decide (k < ((T.length+3:Nat):Int)))=true:=by
    rw[List.all_append,Bool.and_eq_true,List.all_eq_true]
    refine⟨fun x hx=>?_,?_⟩
    ·have:=hil x hx
     simp only[Bool.and_eq_true,decide_eq_true_eq];omega
    ·simp only[List.all_cons,List.all_nil,Bool.and_true,Bool.and_eq_true,decide_eq_true_eq];omega
  have h2:b2e 1 0 (kinds (tM T il e0) il++[3])=true:=by
   unfold b2e at hfit⊢
   rw[show b6m 1 0=([],some 105,[])from rfl]at hfit⊢
   simp only[List.length_nil,Nat.zero_add,Nat.zero_le,decide_true,Bool.true_and,Nat.sub_zero,List.take_length,List.drop_zero,List.take_zero,List.drop_length]at hfit⊢
   simp only[Bool.and_eq_true]at hfit⊢
   refine⟨⟨hfit.1.1,?_⟩,hfit.2⟩
   rw[List.all_append,hfit.1.2];decide
  rw[h1,hke,h2,decide_eq_true he1]
  rfl
theorem f3y:∃ C C2:List Int,ups (tM T il e0)=some (C++[-1])/\ups (uM T il e1 a b c d e f)=some (C2++[((T.length+1:Nat):Int),((T.length+2:Nat):Int),((T.length+3:Nat):Int),-1])/\C.length=T.length/\C2.length=T.length/\(∀ j,C.getD j (-1)=(T.length:Int)/\C2.getD j (-1)=((T.length+3:Nat):Int)\/C2.getD j (-1)=C.getD j (-1)/\C.getD j (-1) < T.length):=by
 obtain⟨up,hT⟩:=c5m h
 have hu:=hT.ups
 unfold ups at hu⊢
 rw[b0l,show List.replicate (T.length+1) (-1:Int)=List.replicate T.length (-1)++[-1] from List.replicate_succ',b8b]at hu
 obtain⟨o,h1,h2⟩:=Option.bind_eq_some_iff.1 hu
 have hkT:∀ x∈T,∀ k∈x.kids,0<=k/\k.toNat < (List.replicate T.length (-1:Int)).length:=fun x hx k hk=>by
   obtain⟨i,hi,rfl⟩:=List.getElem_of_mem hx
   have hg:(tM T il e0).getD i default=T[i]:=by rw[List.getD_eq_getElem?_getD,List.getElem?_append_left hi,List.getElem?_eq_getElem hi];rfl
   have:=f5t h hi k (by rw[hg];exact hk)
   rw[List.length_replicate]
   omega
 obtain⟨B,g1,g2,g3,g4⟩:=d2u T 0 (List.replicate T.length (-1)) [-1] [-1,-1,-1,-1] o hkT h1
 subst g1
 rw[List.length_replicate]at g3
 rw[Nat.zero_add]at h2
 have h2:a2m T.length il (B++[-1])=some up:=by
  rw[a5y]at h2
  cases hq:a2m T.length il (B++[-1])with
  |none=>rw[hq]at h2;cases h2
  |some o=>rw[hq]at h2;exact h2
 obtain⟨C,C2,q1,q2,q3,q4,q5,q6⟩:=c1d il B B [-1] [((T.length+1:Nat):Int),((T.length+2:Nat):Int),-1,-1] up T.length (T.length+3) rfl (fun _=>Iff.rfl) (fun x hx=>by rw[g3];exact h8i h x hx) h2
 refine⟨C,C2,?_,?_,om,om,fun j=>?_⟩
 ·rw[b0l,show List.replicate (T.length+1) (-1:Int)=List.replicate T.length (-1)++[-1] from List.replicate_succ',b8b,h1]
  show a5y _ _ _=_
  rw[Nat.zero_add,a5y,h2,q1]
  rfl
 ·rw[b6l,show List.replicate (T.length+4) (-1:Int)=List.replicate T.length (-1)++[-1,-1,-1,-1] from by rw[<-List.replicate_append_replicate];rfl,b8b,g2]
  show a5y _ _ _=_
  rw[Nat.zero_add]
  rw[a5y,show a2m T.length (u1 a b).kids _=some (B++[-1,-1,-1,-1])from rfl,Option.bind_some,a5y,show(u2 T c d).kids=[((T.length+0:Nat):Int)] from rfl,d1d _ _ 0 g3 (by decide),Option.bind_some,a5y,show(u3 T e f).kids=[((T.length+1:Nat):Int)] from rfl,d1d (T.length+1+1) T.length 1 (X:=[-1,-1,-1,-1].set 0 ((T.length+1:Nat):Int)) g3 (show(-1:Int) < 0 by decide),Option.bind_some,a5y,show(u4 T il e1).kids=il++[((T.length+2:Nat):Int)] from rfl,c8q]
  rw[show([-1,-1,-1,-1].set 0 ((T.length+1:Nat):Int)).set 1 ((T.length+1+1:Nat):Int)=[((T.length+1:Nat):Int),((T.length+2:Nat):Int),-1,-1] from rfl,show T.length+1+1+1=T.length+3 from rfl,q2,Option.bind_some,d1d (T.length+3) T.length 2 (X:=[((T.length+1:Nat):Int),((T.length+2:Nat):Int),-1,-1]) om (show(-1:Int) < 0 by decide)]
  rfl
 ·have hb:B.getD j (-1) < (T.length:Int):=by
   rcases g4 j with e|e
   ·omega
   ·rw[e]
    have:(List.replicate T.length (-1:Int)).getD j (-1)= -1:=by
     rw[List.getD_eq_getElem?_getD,List.getElem?_replicate]
     split<;>rfl
    omega
  by_cases m:(j:Int)∈il
  ·left;rw[q5 j,q6 j,if_pos m,if_pos m];exact⟨rfl,rfl⟩
  ·right;rw[q5 j,q6 j,if_neg m,if_neg m];exact⟨rfl,hb⟩
theorem e8j (hab:0<=a/\a<=b) (hcd:0<=c/\c<=d) (hef:0<=e/\e<=f) (he1:0<=e1) (hlen:T.length+4<=20000):a1l (uM T il e1 a b c d e f)=true:=by
 obtain⟨C,C2,h1,h2,h3,h4,h5⟩:=f3y (e1:=e1) (a:=a) (b:=b) (c:=c) (d:=d) (e:=e) (f:=f) h
 obtain⟨up,hT⟩:=c5m h
 have hup:up=C++[-1]:=Option.some.inj (hT.ups.symm.trans h1)
 subst hup
 have hU:=hT.f2r
 have hdeep:=(e8x hU).1 hT.deep
 have hone:=hT.one
 have hgC:∀ j,j < T.length->(C++[-1]).getD j (-1)=C.getD j (-1):=fun j hj=>by
   rw[List.getD_eq_getElem?_getD,List.getElem?_append_left om,<-List.getD_eq_getElem?_getD]
 have hgC2:∀ (X:List Int) (j:Nat),j < T.length->(C2++X).getD j (-1)=C2.getD j (-1):=fun X j hj=>by
   rw[List.getD_eq_getElem?_getD,List.getElem?_append_left om,<-List.getD_eq_getElem?_getD]
 have hgX:∀ (X:List Int) (j:Nat),(C2++X).getD (T.length+j) (-1)=X.getD j (-1):=fun X j=>by
   rw[List.getD_eq_getElem?_getD,List.getElem?_append_right om,h4,Nat.add_sub_cancel_left,<-List.getD_eq_getElem?_getD]
 have hC0:∀ j,j < T.length->0<=C.getD j (-1)/\(j:Int) < C.getD j (-1)/\C.getD j (-1)<=T.length:=fun j hj=>by
   have hne:C.getD j (-1)≠ -1:=fun q=>by
     have hm:(-1:Int)∈C:=by
      rw[<-q,List.getD_eq_getElem?_getD,List.getElem?_eq_getElem (show j < C.length by omega)]
      exact List.getElem_mem _
     have hdl:(C++[(-1:Int)]).dropLast=C:=by simp
     rw[hdl]at hone
     have:=List.contains_iff_mem.2 hm
     rw[hone]at this
     cases this
   have hv:=(c3t h1).2 j ((C++[-1]).getD j (-1)) (by rw[List.getD_eq_getElem?_getD,List.getElem?_eq_getElem (by rw[List.length_append,h3];omega)];rfl)
   rw[hgC j hj]at hv
   have h0:0<=C.getD j (-1):=om
   have:=hT.above j (by rw[hgC j hj];exact h0)
   rw[hgC j hj]at this
   rw[b0l]at hv
   exact⟨h0,this.1,om⟩
 have hC2:∀ j,j < T.length->0<=C2.getD j (-1)/\(j:Int) < C2.getD j (-1)/\C2.getD j (-1) < ((T.length+4:Nat):Int):=fun j hj=>by
   have:=hC0 j hj
   rcases h5 j with q|q
   ·omega
   ·omega
 have hl2:(C2++[((T.length+1:Nat):Int),((T.length+2:Nat):Int),((T.length+3:Nat):Int),-1]).length=T.length+4:=by rw[List.length_append,h4];rfl
 have hU2:g4o (C2++[((T.length+1:Nat):Int),((T.length+2:Nat):Int),((T.length+3:Nat):Int),-1]):=fun j hj h0=>by
   rw[hl2]at hj⊢
   by_cases hj2:j < T.length
   ·rw[hgC2 _ j hj2]at h0⊢
    have:=hC2 j hj2
    exact⟨om,om⟩
   ·obtain⟨i,rfl⟩:∃ i,j=T.length+i:=⟨j - T.length,om⟩
    rw[hgX]at h0⊢
    match i,(show i < 4 by omega)with
    |0,_=>show((T.length+0:Nat):Int) < ((T.length+1:Nat):Int)/\((T.length+1:Nat):Int).toNat < _;omega
    |1,_=>show((T.length+1:Nat):Int) < ((T.length+2:Nat):Int)/\((T.length+2:Nat):Int).toNat < _;omega
    |2,_=>show((T.length+2:Nat):Int) < ((T.length+3:Nat):Int)/\((T.length+3:Nat):Int).toNat < _;omega
    |3,_=>exact absurd h0 (show ¬ (0:Int)<= -1 by decide)
 have hl1:(C++[-1]).length=T.length+1:=by rw[List.length_append,h3];rfl
 have dK:d2t (C++[-1]) T.length=0:=by
  have hg1:(C++[(-1:Int)]).getD T.length (-1)= -1:=by rw[List.getD_eq_getElem?_getD,List.getElem?_append_right om,h3,Nat.sub_self];rfl
  rw[b2h hU om,hg1]
  rfl
 have d3:d2t (C2++[((T.length+1:Nat):Int),((T.length+2:Nat):Int),((T.length+3:Nat):Int),-1]) (T.length+3)=0:=by
  rw[b2h hU2 om,hgX];rfl
 have d2:d2t (C2++[((T.length+1:Nat):Int),((T.length+2:Nat):Int),((T.length+3:Nat):Int),-1]) (T.length+2)=1:=by
  rw[b2h hU2 om,hgX]
  show(if 0<=((T.length+3:Nat):Int) then d2t _ ((T.length+3:Nat):Int).toNat+1 else 0)=1
  rw[if_pos om,Int.toNat_natCast,d3];rfl
 have d1:d2t (C2++[((T.length+1:Nat):Int),((T.length+2:Nat):Int),((T.length+3:Nat):Int),-1]) (T.length+1)=2:=by
  rw[b2h hU2 om,hgX]
  show(if 0<=((T.length+2:Nat):Int) then d2t _ ((T.length+2:Nat):Int).toNat+1 else 0)=2
  rw[if_pos om,Int.toNat_natCast,d2];rfl
 have d0:d2t (C2++[((T.length+1:Nat):Int),((T.length+2:Nat):Int),((T.length+3:Nat):Int),-1]) (T.length+0)=3:=by
  rw[b2h hU2 om,hgX]
  show(if 0<=((T.length+1:Nat):Int) then d2t _ ((T.length+1:Nat):Int).toNat+1 else 0)=3
  rw[if_pos om,Int.toNat_natCast,d1];rfl
 have dlo:∀ (n j:Nat),T.length - j<=n->j < T.length->d2t (C2++[((T.length+1:Nat):Int),((T.length+2:Nat):Int),((T.length+3:Nat):Int),-1]) j=d2t (C++[-1]) j:=by
  intro n
  induction n with
  |zero=>intro j hn hj;omega
  |succ n ih=>
   intro j hn hj
   rw[b2h hU2 om,b2h hU om,hgC j hj,hgC2 _ j hj]
   have p:=hC0 j hj
   rcases h5 j with⟨q1,q2⟩|⟨q1,q2⟩
   ·rw[q1,q2,if_pos om,if_pos om,Int.toNat_natCast,Int.toNat_natCast,d3,dK]
   ·rw[q1,if_pos p.1,if_pos p.1,ih _ om om]
 have hdeep2:d9d (deps (C2++[((T.length+1:Nat):Int),((T.length+2:Nat):Int),((T.length+3:Nat):Int),-1]))<=400:=by
  rw[e8x hU2]
  intro j hj
  rw[hl2]at hj
  by_cases hj2:j < T.length
  ·rw[dlo _ j (Nat.le_refl _) hj2];exact hdeep j om
  ·obtain⟨i,rfl⟩:∃ i,j=T.length+i:=⟨j - T.length,om⟩
   match i,(show i < 4 by omega)with
   |0,_=>rw[d0];decide
   |1,_=>rw[d1];decide
   |2,_=>rw[d2];decide
   |3,_=>rw[d3];decide
 unfold a1l
 rw[b6l,decide_eq_true (show 1<=T.length+4 by omega),decide_eq_true hlen,show T.length+4 - 1=T.length+3 by omega,e3x]
 have hn:(List.range (T.length+4)).all (b0v (uM T il e1 a b c d e f))=true:=by
  rw[List.all_eq_true]
  intro i hi
  rw[List.mem_range]at hi
  by_cases hi2:i < T.length
  ·exact g4x h hi2
  ·have:=g3h (e1:=e1) (a:=a) (b:=b) (c:=c) (d:=d) (e:=e) (f:=f) h hab hcd hef he1 (j:=i - T.length) om
   rwa [show T.length+(i - T.length)=i by omega]at this
 rw[hn]
 have hup2:f2r (uM T il e1 a b c d e f)=true:=by
  unfold f2r
  rw[h2]
  simp only
  rw[decide_eq_true hdeep2,Bool.and_true,Bool.or_eq_true]
  right
  rw[show(C2++[((T.length+1:Nat):Int),((T.length+2:Nat):Int),((T.length+3:Nat):Int),-1]).dropLast=C2++[((T.length+1:Nat):Int),((T.length+2:Nat):Int),((T.length+3:Nat):Int)] from by simp[List.dropLast_append_of_ne_nil]]
  cases hc:(C2++[((T.length+1:Nat):Int),((T.length+2:Nat):Int),((T.length+3:Nat):Int)]).contains (-1)with
  |false=>rfl
  |true=>
   exfalso
   rcases List.mem_append.1 (List.contains_iff_mem.1 hc)with q|q
   ·obtain⟨j,hj,e⟩:=List.getElem_of_mem q
    have:=(hC2 j om).1
    rw[List.getD_eq_getElem?_getD,List.getElem?_eq_getElem hj,Option.getD_some,e]at this
    omega
   ·simp only[List.mem_cons,List.not_mem_nil,or_false]at q
    omega
 rw[hup2]
 rfl
end
end Go.Vm.Tp
namespace Go.Vm.Ite
open Go.Vm.Tp (Nd a1l a7l c4t tM uM u1 u2 u3 u4)
open Go.Vm.Lex (a7d)
open Go.Vm.Ip
open Go.Vm.Io hiding S
structure Bg (t u:List Nd) (k:Nat):Prop where
 eq:∀ i:Int,i.toNat < k->nd u i=nd t i
 kid:∀ i:Int,0<=i->i.toNat < k->∀ x∈(nd t i).kids,0<=x/\x < i
 rt:Rt t
 lt:k<=t.length
section
variable {t u:List Nd} {k:Nat} (bg:Bg t u k)
include bg
theorem Bg.in {i:Int} (h0:0<=i) (hi:i.toNat < k):In t i:=⟨h0,by have:=bg.lt;omega⟩
theorem g0m:∀ (f g:Nat) (i:Int),0<=i->i.toNat < k->i.toNat < f->i.toNat < g->a7l (nd t i).k=true->txt u f i=txt t g i
 |0,_,i,_,_,hf,_,_=>absurd hf (Nat.not_lt_zero _)
 |f+1,0,i,_,_,_,hg,_=>absurd hg (Nat.not_lt_zero _)
 |f+1,g+1,i,h0,hi,hf,hg,hty=>by
  rw[txt,txt,bg.eq i hi]
  have hk:(nd t i).k=14\/(nd t i).k=15\/(nd t i).k=16->txt u f ((nd t i).kids.getD 0 0)=txt t g ((nd t i).kids.getD 0 0):=fun hq=>by
    obtain⟨a,e,ha⟩:=bg.rt.ref i (bg.in h0 hi) hq
    have:=bg.kid i h0 hi a (by rw[e];exact List.mem_singleton.2 rfl)
    rw[e]
    exact g0m f g a this.1 om om om ha
  by_cases c14:(nd t i).k=14
  ·rw[hk (.inl c14)]
  by_cases c15:(nd t i).k=15
  ·rw[hk (.inr (.inl c15))]
  by_cases c16:(nd t i).k=16
  ·rw[hk (.inr (.inr c16))]
  simp only[c14,c15,c16,if_false]
theorem h0t {kn kn':S->Bool} (hkn:∀ s,kn s=true->kn' s=true):∀ (f g:Nat) (i:Int),0<=i->i.toNat < k->i.toNat < f->i.toNat < g->¬ 0<=unk t kn g i->¬ 0<=unk u kn' f i
 |0,_,i,_,_,hf,_,_=>absurd hf (Nat.not_lt_zero _)
 |f+1,0,i,_,_,_,hg,_=>absurd hg (Nat.not_lt_zero _)
 |f+1,g+1,i,h0,hi,hf,hg,h=>by
  rw[unk]at h⊢
  rw[bg.eq i hi]
  cases c:(decide ((nd t i).k=13) && !kn (nd t i).t)with
  |true=>rw[c,if_pos rfl]at h;exact absurd h0 h
  |false=>
   rw[c,if_neg (by decide)]at h
   have c':(decide ((nd t i).k=13) && !kn' (nd t i).t)=false:=by
    rw[Bool.and_eq_false_iff]at c⊢
    rcases c with c|c
    ·exact .inl c
    ·right;rw[Bool.not_eq_false']at c⊢;exact hkn _ c
   rw[c',if_neg (by decide)]
   cases hks:(nd t i).kids with
   |nil=>exact(show ¬ (0:Int)<= -1 by decide)
   |cons a r=>
    rw[hks]at h
    simp only at h⊢
    have:=bg.kid i h0 hi a (by rw[hks];exact List.mem_cons_self)
    have h2:¬ 0<=unk t kn g a:=fun q=>by rw[if_pos q]at h;exact h q
    have h3:=h0t hkn f g a this.1 om om om h2
    rw[if_neg h3];decide
theorem g7y:∀ (f g:Nat) (b:Bool) (i:Int),0<=i->i.toNat < k->i.toNat < f->i.toNat < g->¬ 0<=inn t g b i->¬ 0<=inn u f b i
 |0,_,_,i,_,_,hf,_,_=>absurd hf (Nat.not_lt_zero _)
 |f+1,0,_,i,_,_,_,hg,_=>absurd hg (Nat.not_lt_zero _)
 |f+1,g+1,b,i,h0,hi,hf,hg,h=>by
  rw[inn]at h⊢
  rw[bg.eq i hi]
  split
  ·rename_i c;rw[if_pos c]at h;exact h
  ·rename_i c
   rw[if_neg c]at h
   cases hks:(nd t i).kids with
   |nil=>exact(show ¬ (0:Int)<= -1 by decide)
   |cons a r=>
    rw[hks]at h
    simp only at h⊢
    have:=bg.kid i h0 hi a (by rw[hks];exact List.mem_cons_self)
    have h2:¬ 0<=inn t g false a:=fun q=>by rw[if_pos q]at h;exact h q
    have h3:=g7y f g false a this.1 om om om h2
    rw[if_neg h3];decide
theorem g9j {kn kn':S->Bool} (hkn:∀ s,kn s=true->kn' s=true) (hu:t.length<=u.length) {b:Bool}:∀ {l:List Int},(∀ a∈l,0<=a/\a.toNat < k)->tyG t kn b l=none->tyG u kn' b l=none
 |[],_,_=>rfl
 |a::r,ha,h=>by
  obtain⟨a0,a1⟩:=ha a List.mem_cons_self
  have hlt:=bg.lt
  rw[tyG]at h⊢
  by_cases c1:0<=unk t kn t.length a
  ·rw[if_pos c1]at h;cases h
  rw[if_neg c1]at h
  by_cases c2:0<=inn t t.length b a
  ·rw[if_pos c2]at h;cases h
  rw[if_neg c2]at h
  rw[if_neg (h0t bg hkn _ _ a a0 a1 om om c1),if_neg (g7y bg _ _ b a a0 a1 om om c2)]
  exact g9j hkn hu (fun x hx=>ha x (List.mem_cons_of_mem _ hx)) h
theorem i2n (hu:t.length<=u.length) {i:Int} (h0:0<=i) (hi:i.toNat < k) (hk:(nd t i).kids=[]\/∃ a,(nd t i).kids=[a]/\a7l (nd t a).k=true):a3o u i=a3o t i:=by
 have hlt:=bg.lt
 unfold a3o
 rw[bg.eq i hi]
 rcases hk with e|⟨a,e,ha⟩
 ·rw[e]
 ·have:=bg.kid i h0 hi a (by rw[e];exact List.mem_singleton.2 rfl)
  rw[e]
  simp only
  unfold tx
  exact congrArg _ (g0m bg u.length t.length a this.1 om om om ha)
theorem g1y {n:Int} (hn:n.toNat < k):mem u n=mem t n:=by unfold mem;rw[bg.eq n hn]
theorem g8p {n:Int} (hn:n.toNat < k):ret u n=ret t n:=by unfold ret;rw[bg.eq n hn]
theorem f7z (hu:t.length<=u.length) {n:Int} (h0:0<=n) (hn:n.toNat < k) (hk:(nd t n).k=2\/(nd t n).k=3\/(nd t n).k=4):(mem t n).map (a3o u)=(mem t n).map (a3o t):=
 List.map_congr_left fun a ha=>by
   have hm:=a7f ha
   have:=bg.kid n h0 hn a hm
   exact i2n bg hu this.1 om (bg.rt.h6a (bg.in h0 hn) hk ha).2
theorem f5s (hu:t.length<=u.length) {n:Int} (h0:0<=n) (hn:n.toNat < k) (hk:(nd t n).k=3\/(nd t n).k=4):a3g u n=a3g t n:=by
 have h:=f7z bg hu h0 hn (.inr hk)
 have e:mem t n=(nd t n).kids:=by unfold mem;rw[if_neg om]
 rw[e]at h
 unfold a3g
 rw[bg.eq n hn,h]
theorem g7p (hu:t.length<=u.length) {n:Int} (h0:0<=n) (hn:n.toNat < k) (hk:(nd t n).k=2):b0a u n=b0a t n:=by
 have hlt:=bg.lt
 have h:=f7z bg hu h0 hn (.inl hk)
 obtain⟨ps,b,e1,e2,e3,e4⟩:=bg.rt.h7g (bg.in h0 hn) hk
 have hr:=bg.kid n h0 hn (ret t n) (by rw[e1];simp)
 unfold b0a
 rw[g1y bg hn,g8p bg hn,bg.eq n hn,h]
 have h2:(mem t n).map (fun k=>decide ((nd u k).v=1))=(mem t n).map (fun k=>decide ((nd t k).v=1)):=List.map_congr_left fun a ha=>by
   have:=bg.kid n h0 hn a (a7f ha)
   rw[bg.eq a om]
 have h3:tx u (ret t n)=tx t (ret t n):=by
  unfold tx
  exact g0m bg _ _ _ hr.1 om om om e4
 rw[h2,h3]
theorem i0g (hu:t.length<=u.length):∀ {l:List Int},(∀ n∈l,(0<=n/\n.toNat < k)/\((nd t n).k=2\/(nd t n).k=3\/(nd t n).k=4))->a0l u l=a0l t l:=by
 intro l hl
 have f3:l.filter (is3 u)=l.filter (is3 t):=List.filter_congr fun n hn=>by unfold is3;rw[bg.eq n (hl n hn).1.2]
 have f4:l.filter (is4 u)=l.filter (is4 t):=List.filter_congr fun n hn=>by unfold is4;rw[bg.eq n (hl n hn).1.2]
 have f2:l.filter (is2 u)=l.filter (is2 t):=List.filter_congr fun n hn=>by unfold is2 is3 is4;rw[bg.eq n (hl n hn).1.2]
 unfold a0l
 rw[f2,f3,f4]
 congr 1
 ·exact List.map_congr_left fun n hn=>by
    obtain⟨h1,h2⟩:=List.mem_filter.1 hn
    exact f5s bg hu (hl n h1).1.1 (hl n h1).1.2 (.inl (of_decide_eq_true h2))
 ·exact List.map_congr_left fun n hn=>by
    obtain⟨h1,h2⟩:=List.mem_filter.1 hn
    exact f5s bg hu (hl n h1).1.1 (hl n h1).1.2 (.inr (of_decide_eq_true h2))
 ·exact List.map_congr_left fun n hn=>by
    obtain⟨h1,h2⟩:=List.mem_filter.1 hn
    unfold is2 is3 is4 at h2
    simp only[Bool.and_eq_true,Bool.not_eq_true',decide_eq_false_iff_not]at h2
    exact g7p bg hu (hl n h1).1.1 (hl n h1).1.2 (by have:=(hl n h1).2;omega)
theorem h3q:∀ {seen:List S} {l:List Int},(∀ a∈l,a.toNat < k)->c7t u seen l=c7t t seen l
 |_,[],_=>rfl
 |seen,a::r,h=>by
  rw[c7t,c7t,bg.eq a (h a List.mem_cons_self),h3q fun x hx=>h x (List.mem_cons_of_mem _ hx)]
theorem g4j:∀ {l:List Int} {ts fs:List S} {r:List Int},(∀ n∈l,0<=n/\n.toNat < k)->b7n t ts fs l=none->∃ fs',b7n u ts fs (l++r)=b7n u (ts++c3e t l) fs' r
 |[],ts,fs,r,_,_=>⟨fs,by simp[c3e]⟩
 |n::l,ts,fs,r,hl,h=>by
  obtain⟨n0,n1⟩:=hl n List.mem_cons_self
  have hd:∀ seen,c7t u seen (mem t n)=c7t t seen (mem t n):=fun seen=>h3q bg fun a ha=>by
    have:=bg.kid n n0 n1 a (a7f ha);omega
  have hl2:=fun x hx=>hl x (List.mem_cons_of_mem _ hx)
  rw[b7n]at h
  rw[List.cons_append,b7n,bg.eq n n1,g1y bg n1,hd]
  by_cases c:(nd t n).k=2
  ·rw[if_pos c]at h⊢
   have e:c3e t (n::l)=c3e t l:=by unfold c3e;rw[List.filter_cons_of_neg (by simp[c])]
   rw[e]
   split at h
   ·cases h
   split at h
   ·cases h
   rename_i q1 q2
   rw[if_neg q1,if_neg q2]
   split at h
   ·cases h
   ·exact g4j hl2 h
  ·rw[if_neg c]at h⊢
   have e:ts++c3e t (n::l)=(ts++[(nd t n).t])++c3e t l:=by unfold c3e;rw[List.filter_cons_of_pos (by simp[c])];simp
   rw[e]
   split at h
   ·cases h
   split at h
   ·cases h
   rename_i q1 q2
   rw[if_neg q1,if_neg q2]
   split at h
   ·cases h
   ·exact g4j hl2 h
theorem h1o (hu:t.length<=u.length):∀ {l:List Int} {a:Its×Int},(∀ n∈l,(0<=n/\n.toNat < k)/\((nd t n).k=2\/(nd t n).k=3\/(nd t n).k=4))->l.foldl (b8u u) a=l.foldl (b8u t) a
 |[],_,_=>rfl
 |n::l,a,hl=>by
  obtain⟨⟨n0,n1⟩,hk⟩:=hl n List.mem_cons_self
  rw[List.foldl_cons,List.foldl_cons]
  have e:b8u u a n=b8u t a n:=by
   unfold b8u
   rw[bg.eq n n1]
   by_cases k3:(nd t n).k=3
   ·rw[if_pos k3,if_pos k3,f5s bg hu n0 n1 (.inl k3)]
   ·rw[if_neg k3,if_neg k3]
    by_cases k4:(nd t n).k=4
    ·rw[if_pos k4,if_pos k4,f5s bg hu n0 n1 (.inr k4)]
    ·rw[if_neg k4,if_neg k4,g7p bg hu n0 n1 om]
  rw[e]
  exact h1o hu fun x hx=>hl x (List.mem_cons_of_mem _ hx)
theorem h9d {n:Int} (h0:0<=n) (hn:n.toNat < k):tyl u n=tyl t n:=by
 unfold tyl
 rw[g1y bg hn,g8p bg hn,bg.eq n hn]
 congr 1
 congr 1
 exact List.map_congr_left fun a ha=>by
   have:=bg.kid n h0 hn a (a7f ha)
   rw[bg.eq a om]
theorem g9a {kn kn':S->Bool} (hkn:∀ s,kn s=true->kn' s=true) (hu:t.length<=u.length):∀ {l r:List Int},(∀ n∈l,(0<=n/\n.toNat < k)/\((nd t n).k=2\/(nd t n).k=3\/(nd t n).k=4))->tyA t kn l=none->tyA u kn' (l++r)=tyA u kn' r
 |[],_,_,_=>rfl
 |n::l,r,hl,h=>by
  obtain⟨⟨n0,n1⟩,hk⟩:=hl n List.mem_cons_self
  rw[tyA]at h
  rw[List.cons_append,tyA,h9d bg n0 n1,bg.eq n n1]
  cases hg:tyG t kn (decide ((nd t n).k=2)) (tyl t n)with
  |some e=>rw[hg]at h;cases h
  |none=>
   rw[hg]at h
   rw[g9j bg hkn hu (fun a ha=>?_) hg]
   ·exact g9a hkn hu (fun x hx=>hl x (List.mem_cons_of_mem _ hx)) h
   ·obtain⟨g1,g2⟩:=bg.rt.tylk (bg.in n0 n1) hk ha
    refine⟨g1.1,?_⟩
    unfold tyl at ha
    rcases List.mem_append.1 ha with q|q
    ·obtain⟨ls,q1,q2⟩:=List.mem_flatten.1 q
     obtain⟨b,q3,rfl⟩:=List.mem_map.1 q1
     have e1:=bg.kid n n0 n1 b (a7f q3)
     have e2:=bg.kid b e1.1 om a q2
     omega
    ·split at q
     ·rename_i k2
      obtain⟨ps,b,e1,_⟩:=bg.rt.h7g (bg.in n0 n1) k2
      have:=bg.kid n n0 n1 (ret t n) (by rw[e1];simp)
      rw[List.mem_singleton.1 q];omega
     ·cases q
theorem h3g {e e':S->Bool}:∀ {l r:List Int},(∀ n∈l,(0<=n/\n.toNat < k)/\((nd t n).k≠2->e' (nd t n).t=e (nd t n).t))->c8o t e l=none->c8o u e' (l++r)=c8o u e' r
 |[],_,_,_=>rfl
 |n::l,r,hl,h=>by
  obtain⟨⟨n0,n1⟩,hk⟩:=hl n List.mem_cons_self
  rw[c8o]at h
  rw[List.cons_append,c8o,bg.eq n n1]
  split at h
  ·cases h
  ·rename_i c
   rw[if_neg]
   ·exact h3g (fun x hx=>hl x (List.mem_cons_of_mem _ hx)) h
   ·rintro(⟨q1,q2⟩|q)
    ·exact c (.inl ⟨q1,by rw[<-hk q1];exact q2⟩)
    ·exact c (.inr q)
theorem g4z {e e':S->Bool}:∀ {l r:List Int},(∀ n∈l,(0<=n/\n.toNat < k)/\((nd t n).k≠2->e' (nd t n).t=e (nd t n).t))->c8i t e l=none->c8i u e' (l++r)=c8i u e' r
 |[],_,_,_=>rfl
 |n::l,r,hl,h=>by
  obtain⟨⟨n0,n1⟩,hk⟩:=hl n List.mem_cons_self
  rw[c8i]at h
  rw[List.cons_append,c8i,bg.eq n n1]
  have hl2:=fun x hx=>hl x (List.mem_cons_of_mem _ hx)
  by_cases c:(nd t n).k=2
  ·rw[if_pos c]at h⊢;exact g4z hl2 h
  ·rw[if_neg c]at h⊢
   rw[hk c]
   split at h
   ·cases h
   ·rename_i c2;rw[if_neg c2];exact g4z hl2 h
end
end Go.Vm.Ite














namespace Go.Vm.Ite
open Go.Vm.Tp (Nd a6q a1l a7l)
open Go.Vm.Ip
open Go.Vm.Io hiding S
section
variable {fx:Nat->Option Obj} {F:Nat->Option a0x} {t:List Nd}
theorem f6v (l:List Int) (n:Int):a0l t (l++[n])=if(nd t n).k=3 then⟨(a0l t l).ss++[a3g t n],(a0l t l).es,(a0l t l).fs⟩ else if(nd t n).k=4 then⟨(a0l t l).ss,(a0l t l).es++[a3g t n],(a0l t l).fs⟩ else⟨(a0l t l).ss,(a0l t l).es,(a0l t l).fs++[b0a t n]⟩:=by
 unfold a0l
 simp only[List.filter_append,List.map_append]
 by_cases k3:(nd t n).k=3
 ·have k4:¬ (nd t n).k=4:=om
  simp[is2,is3,is4,k3]
 ·by_cases k4:(nd t n).k=4<;>simp[is2,is3,is4,k3,k4]
end
end Go.Vm.Ite
namespace Go.Vm.Ite
open Go.Vm.Tp (Nd a1l a7l c4t tM uM u1 u2 u3 u4 b6l b0l f4g e3x f3l f5t h8i e8j)
open Go.Vm.Lex (a7d)
open Go.Vm.Ip
open Go.Vm.Io hiding S
section
variable {T:List Nd} {il:List Int} {e0 e1 a b c d e f:Int} (h:a1l (tM T il e0)=true)
include h
theorem bg_M:Bg (tM T il e0) (uM T il e1 a b c d e f) T.length where
 eq:=fun i hi=>f4g hi
 kid:=fun i h0 hi x hx=>by have:=f5t h hi x hx;omega
 rt:=d2v h
 lt:=by rw[b0l];omega
omit h in
theorem f1l:roots (tM T il e0)=il:=by
 unfold roots nd
 rw[b0l,show(((T.length+1:Nat):Int) - 1).toNat=T.length by omega,f3l]
omit h in
theorem g4w:roots (uM T il e1 a b c d e f)=il++[((T.length+2:Nat):Int)]:=by
 unfold roots nd
 rw[b6l,show(((T.length+4:Nat):Int) - 1).toNat=T.length+3 by omega,e3x]
 rfl
omit h in
theorem d6n (j:Nat):nd (uM T il e1 a b c d e f) ((T.length+j:Nat):Int)=[u1 a b,u2 T c d,u3 T e f,u4 T il e1].getD j default:=by
 unfold nd;rw[Int.toNat_natCast,e3x]
theorem il_k:∀ n∈il,(0<=n/\n.toNat < T.length)/\((nd (tM T il e0) n).k=2\/(nd (tM T il e0) n).k=3\/(nd (tM T il e0) n).k=4):=fun n hn=>by
  have:=h8i h n hn
  refine⟨this,(d2v h).root n ?_⟩
  have e:=f1l (T:=T) (il:=il) (e0:=e0)
  unfold roots at e
  rw[e];exact hn
omit h in
theorem h2c:a3g (uM T il e1 a b c d e f) ((T.length+2:Nat):Int)=zzN:=by
 unfold a3g
 rw[d6n]
 show(⟨[90,122],[a3o _ ((T.length+1:Nat):Int)]⟩:Nam)=_
 unfold a3o
 rw[d6n]
 show(⟨[90,122],[⟨[122],tx _ ((T.length+0:Nat):Int)⟩]⟩:Nam)=_
 unfold tx
 rw[b6l,txt,d6n]
 rfl
theorem i2c:a0l (uM T il e1 a b c d e f) (il++[((T.length+2:Nat):Int)])=a8n (a0l (tM T il e0) il):=by
 rw[f6v,if_pos (by rw[d6n];rfl),i0g (bg_M h) (by rw[b0l,b6l];omega) (il_k h),h2c]
 rfl
theorem f9r (hab:0<=a/\a<=b) (hcd:0<=c/\c<=d) (hef:0<=e/\e<=f) (he1:0<=e1) (hlen:T.length+4<=20000) (hw:wrong (tM T il e0) il=none) (hzs:zzT∉nS (a0l (tM T il e0) il)) (hze:zzT∉nE (a0l (tM T il e0) il)) (h64:(a0l (tM T il e0) il).ss.length < 64) {i:Nat} (hp:pos (nF (a0l (tM T il e0) il)) c0d=some i) (hm:¬ (0 < ((a0l (tM T il e0) il).fs.getD i default).ps.length\/((a0l (tM T il e0) il).fs.getD i default).r≠d5n)):ofP (uM T il e1 a b c d e f)=(a8n (a0l (tM T il e0) il),Lex.dgD 0 0 0):=by
 have hilk:=il_k h
 have hk:=fun n hn=>(hilk n hn).2
 have bg:=bg_M (e1:=e1) (a:=a) (b:=b) (c:=c) (d:=d) (e:=e) (f:=f) h
 have hu:(tM T il e0).length<=(uM T il e1 a b c d e f).length:=by rw[b0l,b6l];omega
 have hits:=i2c (e1:=e1) (a:=a) (b:=b) (c:=c) (d:=d) (e:=e) (f:=f) h
 have hz:=d6n (T:=T) (il:=il) (e1:=e1) (a:=a) (b:=b) (c:=c) (d:=d) (e:=e) (f:=f) 2
 have hz1:=d6n (T:=T) (il:=il) (e1:=e1) (a:=a) (b:=b) (c:=c) (d:=d) (e:=e) (f:=f) 1
 have hz0:=d6n (T:=T) (il:=il) (e1:=e1) (a:=a) (b:=b) (c:=c) (d:=d) (e:=e) (f:=f) 0
 have zk:(nd (uM T il e1 a b c d e f) ((T.length+2:Nat):Int)).k=3:=by rw[hz];rfl
 have zt:(nd (uM T il e1 a b c d e f) ((T.length+2:Nat):Int)).t=zzT:=by rw[hz];rfl
 have zkids:(nd (uM T il e1 a b c d e f) ((T.length+2:Nat):Int)).kids=[((T.length+1:Nat):Int)]:=by rw[hz];rfl
 have zmem:mem (uM T il e1 a b c d e f) ((T.length+2:Nat):Int)=[((T.length+1:Nat):Int)]:=by unfold mem;rw[zk,if_neg (by decide),zkids]
 -- what t's items are like
 have hcol:(col (tM T il e0) il).2 < 0:=by
  unfold wrong at hw
  split at hw
  ·assumption
  ·cases hw
 unfold wrong at hw
 rw[if_pos hcol]at hw
 cases hn:b7n (tM T il e0) [] [b8a,d2b,b8i] il with
 |some q=>rw[hn]at hw;cases hw
 |none=>
 rw[hn]at hw
 simp only at hw
 cases ht:tyA (tM T il e0) (kn (a0l (tM T il e0) il)) il with
 |some q=>rw[ht]at hw;cases hw
 |none=>
 rw[ht]at hw
 simp only at hw
 have hro:∀ n∈il,In (tM T il e0) n/\((nd (tM T il e0) n).k=2\/(nd (tM T il e0) n).k=3\/(nd (tM T il e0) n).k=4):=fun n hn=>⟨bg.in (hilk n hn).1.1 (hilk n hn).1.2,hk n hn⟩
 have hnd:=(c4j hn).1
 have hnmd:=g3z h hro hnd
 have hcov:=d8l (tM T il e0) il
 -- no type is the new struct's name
 have hcl:∀ s,kn (a0l (tM T il e0) il) s=true->∀ y∈(a0v (a0l (tM T il e0) il) s).1,y≠zzT:=by
  intro s hs y hy e
  subst e
  obtain⟨n,h1,h2,rfl⟩:=hcov s (c8s.1 hs)
  obtain⟨hin,hkn⟩:=hro n h1
  have hfl:=(d4x hk hnd h1 h2).1
  have hy2:zzT∈(flM (a0l (tM T il e0) il) (nd (tM T il e0) n).t).map Fld.t:=f6j hy
  rw[hfl]at hy2
  obtain⟨fl,hf1,hf2⟩:=List.mem_map.1 hy2
  obtain⟨q,hq,rfl⟩:=List.mem_map.1 hf1
  have hmem:mem (tM T il e0) n=(nd (tM T il e0) n).kids:=by unfold mem;rw[if_neg h2]
  have hmk:=(d2v h).h6a hin hkn (k:=q) (by rw[hmem];exact hq)
  unfold a3o at hf2
  rcases hmk.2 with ek|⟨r,ek,hr⟩
  ·rw[ek]at hf2;exact absurd hf2 (show([]:S)≠zzT by decide)
  ·rw[ek]at hf2
   simp only at hf2
   have hinr:=(d2v h).inK hmk.1 (k:=r) (by rw[ek];exact List.mem_singleton.2 rfl)
   -- its text is a name, and names are known
   have hrk:(nd (tM T il e0) r).k=13/\(nd (tM T il e0) r).t=zzT:=by
    unfold tx at hf2
    rw[b0l,txt]at hf2
    unfold a7l at hr
    simp only[Bool.and_eq_true,decide_eq_true_eq]at hr
    split at hf2
    ·exact absurd hf2 (by decide)
    split at hf2
    ·exact absurd hf2 (by decide)
    split at hf2
    ·exact absurd hf2 (by decide)
    split at hf2
    ·exact absurd (List.cons.inj hf2).1 (by decide)
    split at hf2
    ·exact absurd (List.cons.inj hf2).1 (by decide)
    split at hf2
    ·exact absurd (List.cons.inj hf2).1 (by decide)
    exact⟨om,hf2⟩
   have hty:r∈tyl (tM T il e0) n:=by
    unfold tyl
    refine List.mem_append_left _ (List.mem_flatten.2 ⟨_,List.mem_map.2 ⟨q,by rw[hmem];exact hq,rfl⟩,by rw[ek];exact List.mem_singleton.2 rfl⟩)
   have hgn:∀ {l:List Int},n∈l->tyA (tM T il e0) (kn (a0l (tM T il e0) il)) l=none->tyG (tM T il e0) (kn (a0l (tM T il e0) il)) (decide ((nd (tM T il e0) n).k=2)) (tyl (tM T il e0) n)=none:=by
    intro l
    induction l with
    |nil=>intro hm;cases hm
    |cons a r ih=>
     intro hm hh
     rw[tyA]at hh
     split at hh
     ·cases hh
     ·rename_i hg
      rcases List.mem_cons.1 hm with e|e
      ·rw[e];exact hg
      ·exact ih e hh
   have hunk:∀ {l:List Int},r∈l->tyG (tM T il e0) (kn (a0l (tM T il e0) il)) (decide ((nd (tM T il e0) n).k=2)) l=none->¬ 0<=unk (tM T il e0) (kn (a0l (tM T il e0) il)) (tM T il e0).length r:=by
    intro l
    induction l with
    |nil=>intro hm;cases hm
    |cons a r2 ih=>
     intro hm hh
     rw[tyG]at hh
     split at hh
     ·cases hh
     ·rename_i c1
      split at hh
      ·cases hh
      ·rcases List.mem_cons.1 hm with e|e
       ·rw[e];exact c1
       ·exact ih e hh
   have hno:=hunk hty (hgn h1 ht)
   rw[b0l,unk,hrk.1,hrk.2]at hno
   have hkz:kn (a0l (tM T il e0) il) zzT=false:=by
    cases hkz:kn (a0l (tM T il e0) il) zzT with
    |false=>rfl
    |true=>
     rcases List.mem_append.1 (c8s.1 hkz)with e|e
     ·exact absurd e hzs
     ·exact absurd e hze
   rw[hkz]at hno
   simp only[decide_true,Bool.not_false,Bool.and_true,if_true]at hno
   exact hno hinr.1
 -- the checks of u
 have hcolu:(col (uM T il e1 a b c d e f) (il++[((T.length+2:Nat):Int)])).2 < 0:=by
  unfold col at hcol⊢
  rw[List.foldl_append,h1o bg hu hilk,List.foldl_cons,List.foldl_nil]
  have hss:((il.foldl (b8u (tM T il e0)) (⟨[],[],[]⟩,-1)).1).ss.length < 64:=by
   have:=d9r (tM T il e0) il
   unfold col at this
   rw[this];exact h64
  generalize il.foldl (b8u (tM T il e0)) (⟨[],[],[]⟩,-1)=A at hcol hss⊢
  unfold b8u
  rw[if_pos zk]
  show(if _ then _ else _) < (0:Int)
  rw[if_neg (fun q=>om)]
  exact hcol
 have hnu:b7n (uM T il e1 a b c d e f) [] [b8a,d2b,b8i] (il++[((T.length+2:Nat):Int)])=none:=by
  obtain⟨fs',e⟩:=g4j bg (r:=[((T.length+2:Nat):Int)]) (fun n hn=>(hilk n hn).1) hn
  rw[e,b7n,if_neg (by rw[zk];decide),zt,if_neg,zmem,List.length_singleton,if_neg (show ¬ 16 < 1 by decide),c7t,if_neg (by simp),c7t]
  ·rfl
  ·rw[List.nil_append]
   intro q
   have hkz:kn (a0l (tM T il e0) il) zzT=true:=by rw[e8s hk];exact decide_eq_true q
   rcases List.mem_append.1 (c8s.1 hkz)with e|e
   ·exact hzs e
   ·exact hze e
 have htu:tyA (uM T il e1 a b c d e f) (kn (a8n (a0l (tM T il e0) il))) (il++[((T.length+2:Nat):Int)])=none:=by
  rw[g9a bg (fun s hs=>g8h hs) hu hilk ht,tyA]
  have:tyl (uM T il e1 a b c d e f) ((T.length+2:Nat):Int)=[((T.length+0:Nat):Int)]:=by
   unfold tyl
   rw[zmem,List.map_cons,List.map_nil,hz1,if_neg (by rw[zk];decide)]
   rfl
  rw[this,tyG]
  have hun:unk (uM T il e1 a b c d e f) (kn (a8n (a0l (tM T il e0) il))) (uM T il e1 a b c d e f).length ((T.length+0:Nat):Int)= -1:=by rw[b6l,unk,hz0];rfl
  have hin:∀ b2,inn (uM T il e1 a b c d e f) (uM T il e1 a b c d e f).length b2 ((T.length+0:Nat):Int)= -1:=fun b2=>by
    rw[b6l,inn,hz0]
    cases b2<;>rfl
  rw[hun,hin,if_neg (by decide),if_neg (by decide),tyG]
  rfl
 have hsu:szA (uM T il e1 a b c d e f) (a8n (a0l (tM T il e0) il)) (il++[((T.length+2:Nat):Int)])=none:=by
  unfold szA at hw⊢
  have hne:∀ n∈il,(nd (tM T il e0) n).k≠2->(nd (tM T il e0) n).t≠zzT:=fun n hn k2 e=>by
    have:=h2l hk hn k2
    rw[e]at this
    rcases List.mem_append.1 (c8s.1 this)with e|e
    ·exact hzs e
    ·exact hze e
  cases h1:c8o (tM T il e0) (c2z (a0l (tM T il e0) il)) il with
  |some q=>rw[h1]at hw;cases hw
  |none=>
   rw[h1]at hw
   simp only at hw
   have hno:=b9v h1
   have hdeep:∀ s,a6t (a0l (tM T il e0) il) (b6v (a0l (tM T il e0) il)) s:=fun s=>e8e (fun s hs hg=>by
     obtain⟨n,g1,g2,g3⟩:=hcov s hs
     have h4:=hno n g1 g2
     rw[g3,c8a hg]at h4
     cases h4) s
   rw[h3g bg (e':=c2z (a8n (a0l (tM T il e0) il))) (fun n hn=>⟨(hilk n hn).1,fun k2=>f4h hcl (hne n hn k2)⟩) h1,c8o,if_neg,c8o]
   ·simp only
    rw[g4z bg (e':=fun s=>d9x (szF (a8n (a0l (tM T il e0) il)) (b6v (a8n (a0l (tM T il e0) il))) s)) (fun n hn=>⟨(hilk n hn).1,fun k2=>by
      rw[g2j hcl (hne n hn k2) (hdeep _)]⟩) hw,c8i,if_neg (by rw[zk];decide),zt,h1h hnmd.nm hzs,if_neg (by decide),c8i]
   ·rintro(⟨_,q⟩|⟨q,_⟩)
    ·rw[zt,f9w hnmd.nm hzs]at q;cases q
    ·rw[zk]at q;exact absurd q (by decide)
 unfold ofP
 rw[if_pos (e8j h hab hcd hef he1 hlen),g4w]
 unfold wrong
 rw[if_pos hcolu,hnu,hits]
 simp only
 rw[htu]
 simp only
 rw[hsu]
 simp only
 rw[show nF (a8n (a0l (tM T il e0) il))=nF (a0l (tM T il e0) il)from rfl,hp]
 simp only
 rw[show(a8n (a0l (tM T il e0) il)).fs=(a0l (tM T il e0) il).fs from rfl,if_neg hm]
end
end Go.Vm.Ite
namespace Go.Vm.Ite
open Go.Vm.Lex (TokQ Dg a3c dgD)
open Go.Vm.Pa
open Go.Vm.Tp (Nd a6q tM uM u1 u2 u3 u4)
theorem g4y {x y:Nd} (h:x.D=y.D):x=y:=by
 obtain⟨k,t,v,l,f,e⟩:=x
 obtain⟨k',t',v',l',f',e'⟩:=y
 unfold Nd.D at h
 simp only[D.agg.injEq,List.cons.injEq,D.int.injEq,D.str.injEq,D.sl.injEq,true_and,and_true]at h
 obtain⟨rfl,rfl,rfl,hl,rfl,rfl⟩:=h
 have:l=l':=Ip.map_inj (f:=D.int .i64) (fun a b h=>by simpa using h) hl
 rw[this]
structure Rd (src:S) (r:R) (s1:PS) (T:List Nd) (il:List Int):Prop where
 lex:(a3c src).2.c=0
 run:∃ n,go (a3c src).1 n (.items K.o) PS0=some (r,s1)
 ns:s1.ns=T.map Nd.D
 len:T.length=s1.n
 ks:r.ks.l=il.map (D.int .i64)
 ck:okK r.ks=true
 n:s1.n < 999990
theorem d9i {fx:Nat->Option Obj} (src:S):∃ t c f e,(∀ H,evF (pgL fx F0) b2i [str src] H=some (.tup [.d (a6q t),.d (dgD c f e)],H))/\Tp.b2u t/\(c=0->∃ r s1 T il,Rd src r s1 T il/\s1.bc=0/\t=tM T il src.length/\t.length<=20000):=by
 by_cases h1:65536 < src.length
 ·exact⟨[],2,0,0,fun H=>d3o src H (by decide) (.inl ⟨h1,rfl,rfl,rfl⟩),b9q,fun h=>absurd h (by decide)⟩
 by_cases hc:(a3c src).2.c=0
 rotate_left
 ·exact⟨[],(a3c src).2.c,(a3c src).2.f,(a3c src).2.e,fun H=>d3o src H hc (.inr ⟨om,rfl,rfl,rfl⟩),b9q,fun h=>absurd h hc⟩
 have ht:=e7g hc
 have hne:0 < (a3c src).1.length:=List.length_pos_iff.2 (Lex.b1u src hc).2.2.2.2.1
 obtain⟨l,hl⟩:∃ l,(a3c src).1=l:=⟨_,rfl⟩
 rw[hl]at ht hne
 have hlen:=ht.len
 have p:Pre l (.items K.o) PS0:=⟨by show(0:Int)<=0;omega,by show(0:Int) < l.length;omega,⟨rfl,[],rfl,fun x hx=>by cases hx⟩,⟨fun _=>by show((0:Nat):Int)+15* ((l.length:Int) - 0)+((2:Nat):Int)<=999990;omega,fun h=>absurd rfl h⟩,fun h=>(by cases h),⟨a6v _,by show((0:Nat):Int)<=0+3;omega,fun _=>by show((0:Nat):Int)<=0+2;omega⟩⟩
 have m:Mu l (.items K.o) PS0 (64*l.length+10):=⟨fun _=>by show 64* ((l.length:Int) - 0)+1+2 < ((64*l.length+10:Nat):Int);omega,fun h=>absurd rfl h⟩
 obtain⟨r,s1,hg,P⟩:=e8u ht _ _ _ p m
 obtain⟨g1,t0,g2,g3⟩:=P.ns
 obtain⟨⟨k1,il,k2,k3⟩,k4⟩:=P.rk
 have hhi:=P.hi
 obtain⟨_,_,_,_,hcnt⟩:=P.num
 have hcnt:=hcnt rfl
 have hn:s1.n < 999990:=by
  simp only[cQ,dQ,show PS0.at_=0 from rfl,show PS0.n=0 from rfl]at hcnt
  omega
 have hat:0<=s1.at_:=P.num.1
 have ck:okK r.ks=true:=by unfold okK;rw[decide_eq_true k1,decide_eq_true om];rfl
 have h3:okS l s1=true:=by unfold okS;rw[decide_eq_true hat,decide_eq_true hhi];rfl
 have hil:il.length=r.ks.n:=by rw[<-k1,k2,List.length_map]
 have h0:okS l PS0=true:=by unfold okS;rw[decide_eq_true (show(0:Int)<=PS0.at_ from Int.le_refl _),decide_eq_true (show PS0.at_ < (l.length:Int)by show(0:Int) < _;omega)];rfl
 have htl:t0.length=s1.n:=by rw[<-g1,g2,List.length_map]
 have hgood:∀ x∈tM t0 il (src.length:Int),f5r s1.n x:=by
  intro x hx
  rcases List.mem_append.1 hx with hx|hx
  ·exact g3 x hx
  ·rw[List.mem_singleton.1 hx]
   exact⟨k3,by show il.length<=_;omega,Nat.zero_le _,b5m,b5m,by unfold Tp.I64;dsimp only;omega⟩
 have hns:(crS r.ks src.length s1).ns=(tM t0 il (src.length:Int)).map Nd.D:=by
  show s1.ns++[_]=_
  rw[g2,List.map_append,k2];rfl
 have hfl:(tM t0 il (src.length:Int)).length=s1.n+1:=by rw[List.length_append,htl];rfl
 have rd:Rd src r s1 t0 il:=⟨hc,⟨_,by rw[hl];exact hg⟩,g2,htl,k2,ck,hn⟩
 obtain⟨t,htt⟩:∃ t,tM t0 il (src.length:Int)=t:=⟨_,rfl⟩
 rw[htt]at hgood hns hfl
 have hf:Tp.b2u t:=f1h (n:=s1.n) om om hgood
 have ev:=fun H=>f6d (fx:=fx) src H om hc hl.symm (h3r ht) h0 hg ck g1 om h3 hns (fun x hx=>by have:=(hgood x hx).kl;omega) (fun x hx k hk=>⟨((hgood x hx).kid k hk).1,by have:=((hgood x hx).kid k hk).2;omega⟩)
 have hfin:Tp.b2u (d8x l src.length (crS r.ks src.length s1) t).1/\∃ c f e,(d8x l src.length (crS r.ks src.length s1) t).2=dgD c f e/\(c=0->s1.bc=0/\(d8x l src.length (crS r.ks src.length s1) t).1=t/\t.length<=20000):=by
  unfold d8x
  split
  ·rename_i hb
   have hb0:s1.bc=0:=by
    unfold b8l at hb
    split at hb
    ·exact absurd (d4y hb) (a4x (by decide))
    ·exact d4y hb
   split
   ·exact⟨b9q,_,_,_,rfl,fun h=>absurd h (by decide)⟩
   ·split
    ·exact⟨b9q,_,_,_,rfl,fun h=>absurd h (by decide)⟩
    ·exact⟨hf,_,_,_,rfl,fun _=>⟨hb0,rfl,om⟩⟩
  ·rename_i hb
   exact⟨b9q,_,_,_,rfl,fun h=>absurd h (e3z (by simpa using hb))⟩
 obtain⟨hff,c,f,e,hd,hz⟩:=hfin
 rw[hd]at ev
 refine⟨_,c,f,e,ev,hff,fun h=>?_⟩
 obtain⟨q1,q2,q3⟩:=hz h
 exact⟨r,s1,t0,il,rd,q1,by rw[q2,htt],by rw[q2];exact q3⟩
theorem g2o {s:S} {r r':R} {s1 s1':PS} {T T':List Nd} {il il':List Int} (h:Rd s r s1 T il) (h':Rd (s++b0s) r' s1' T' il') (hb:s1.bc=0) (e1:Int):∃ a b c d e f:Int,(0<=a/\a<=b)/\(0<=c/\c<=d)/\(0<=e/\e<=f)/\tM T' il' e1=uM T il e1 a b c d e f:=by
 obtain⟨n,hg⟩:=h.run
 obtain⟨n',hg'⟩:=h'.run
 have hlen:s1.ns.length=s1.n:=by rw[h.ns,List.length_map,h.len]
 obtain⟨a,b,c,d,e,f,z1,z2,z3,hr,_,_,hns⟩:=f3k h.lex h'.lex hg hg' hb hlen (by have:=h.n;omega) h.ck
 refine⟨a,b,c,d,e,f,z1,z2,z3,?_⟩
 have e1:T'=T++[u1 a b,u2 T c d,u3 T e f]:=by
  refine Ip.map_inj (f:=Nd.D) (fun _ _=>g4y) ?_
  rw[<-h'.ns,hns,h.ns,List.map_append]
  unfold u2 u3
  rw[h.len]
  rfl
 have e2:il'=il++[((T.length+2:Nat):Int)]:=by
  refine Ip.map_inj (f:=D.int .i64) (fun a b h=>by simpa using h) ?_
  rw[<-h'.ks,hr,List.map_append,<-h.ks,h.len]
  rfl
 rw[e1,e2]
 unfold tM uM
 rw[List.append_assoc]
 rfl
end Go.Vm.Ite
namespace Go.Vm
mutual
def eqD:D->D->Bool
 | .bool a,.bool b=>a==b
 | .int k a,.int j b=>decide (k=j) && decide (a=b)
 | .str a,.str b=>decide (a=b)
 | .sl a,.sl b=>f5a a b
 | .agg a,.agg b=>f5a a b
 |_,_=>false
def f5a:List D->List D->Bool
 |[],[]=>true
 |a::l,b::m=>eqD a b && f5a l m
 |_,_=>false
end
mutual
theorem c7y:∀ (a b:D),eqD a b=true->a=b
 | .bool a,b,h=>by cases b<;>simp only[eqD,beq_iff_eq,Bool.false_eq_true]at h;rw[h]
 | .int k a,b,h=>by cases b<;>simp only[eqD,Bool.and_eq_true,decide_eq_true_eq,Bool.false_eq_true]at h;rw[h.1,h.2]
 | .str a,b,h=>by cases b<;>simp only[eqD,decide_eq_true_eq,Bool.false_eq_true]at h;rw[h]
 | .sl a,b,h=>by cases b<;>simp only[eqD,Bool.false_eq_true]at h;rw[c0i _ _ h]
 | .agg a,b,h=>by cases b<;>simp only[eqD,Bool.false_eq_true]at h;rw[c0i _ _ h]
theorem c0i:∀ (a b:List D),f5a a b=true->a=b
 |[],b,h=>by cases b<;>simp only[f5a,Bool.false_eq_true]at h;rfl
 |a::l,b,h=>by cases b<;>simp only[f5a,Bool.and_eq_true,Bool.false_eq_true]at h;rw[c7y _ _ h.1,c0i _ _ h.2]
end
mutual
def eqV:V->V->Bool
 | .d a,.d b=>eqD a b
 | .agg a,.agg b=>f4s a b
 | .tup a,.tup b=>f4s a b
 | .nils,.nils=>true
 | .row a b,.row c d=>decide (a=c) && decide (b=d)
 | .arr a b c,.arr d e f=>decide (a=d) && (decide (b=e) && decide (c=f))
 | .ptr a b,.ptr c d=>decide (a=c) && decide (b=d)
 | .ro a b,.ro c d=>f5a a c && decide (b=d)
 | .fn a b,.fn c d=>decide (a=c) && f4s b d
 | .fm a b,.fm c d=>decide (a=c) && f4s b d
 | .nul,.nul=>true
 | .nof,.nof=>true
 | .ifc a,.ifc b=>a==b
 | .nmp,.nmp=>true
 | .nile,.nile=>true
 | .mp a,.mp b=>decide (a=b)
 | .undef,.undef=>true
 |_,_=>false
def f4s:List V->List V->Bool
 |[],[]=>true
 |a::l,b::m=>eqV a b && f4s l m
 |_,_=>false
end
mutual
theorem e7t:∀ (a b:V),eqV a b=true->a=b
 | .d a,b,h=>by cases b<;>simp only[eqV,Bool.false_eq_true]at h;rw[c7y _ _ h]
 | .agg a,b,h=>by cases b<;>simp only[eqV,Bool.false_eq_true]at h;rw[c1i _ _ h]
 | .tup a,b,h=>by cases b<;>simp only[eqV,Bool.false_eq_true]at h;rw[c1i _ _ h]
 | .nils,b,h=>by cases b<;>simp only[eqV,Bool.false_eq_true]at h;rfl
 | .row ..,b,h=>by cases b<;>simp only[eqV,Bool.and_eq_true,decide_eq_true_eq,Bool.false_eq_true]at h;rw[h.1,h.2]
 | .arr ..,b,h=>by cases b<;>simp only[eqV,Bool.and_eq_true,decide_eq_true_eq,Bool.false_eq_true]at h;rw[h.1,h.2.1,h.2.2]
 | .ptr ..,b,h=>by cases b<;>simp only[eqV,Bool.and_eq_true,decide_eq_true_eq,Bool.false_eq_true]at h;rw[h.1,h.2]
 | .ro ..,b,h=>by cases b<;>simp only[eqV,Bool.and_eq_true,decide_eq_true_eq,Bool.false_eq_true]at h;rw[c0i _ _ h.1,h.2]
 | .fn _ c,b,h=>by cases b<;>simp only[eqV,Bool.and_eq_true,decide_eq_true_eq,Bool.false_eq_true]at h;rw[h.1,c1i c _ h.2]
 | .fm _ c,b,h=>by cases b<;>simp only[eqV,Bool.and_eq_true,decide_eq_true_eq,Bool.false_eq_true]at h;rw[h.1,c1i c _ h.2]
 | .nul,b,h=>by cases b<;>simp only[eqV,Bool.false_eq_true]at h;rfl
 | .nof,b,h=>by cases b<;>simp only[eqV,Bool.false_eq_true]at h;rfl
 | .ifc a,b,h=>by cases b<;>simp only[eqV,beq_iff_eq,Bool.false_eq_true]at h;rw[h]
 | .raw a,b,h=>by cases b<;>simp only[eqV,Bool.false_eq_true]at h
 | .nmp,b,h=>by cases b<;>simp only[eqV,Bool.false_eq_true]at h;rfl
 | .nile,b,h=>by cases b<;>simp only[eqV,Bool.false_eq_true]at h;rfl
 | .mp ..,b,h=>by cases b<;>simp only[eqV,decide_eq_true_eq,Bool.false_eq_true]at h;rw[h]
 | .undef,b,h=>by cases b<;>simp only[eqV,Bool.false_eq_true]at h;rfl
theorem c1i:∀ (a b:List V),f4s a b=true->a=b
 |[],b,h=>by cases b<;>simp only[f4s,Bool.false_eq_true]at h;rfl
 |a::l,b,h=>by cases b<;>simp only[f4s,Bool.and_eq_true,Bool.false_eq_true]at h;rw[e7t _ _ h.1,c1i _ _ h.2]
end
def g1a:List (D×D)->List (D×D)->Bool
 |[],[]=>true
 |a::l,b::m=>eqD a.1 b.1 && (eqD a.2 b.2 && g1a l m)
 |_,_=>false
theorem d7u:∀ (a b:List (D×D)),g1a a b=true->a=b
 |[],b,h=>by cases b<;>simp only[g1a,Bool.false_eq_true]at h;rfl
 |(x,y)::l,b,h=>by
  cases b with
  |nil=>simp only[g1a,Bool.false_eq_true]at h
  |cons z m=>
   obtain⟨z1,z2⟩:=z
   simp only[g1a,Bool.and_eq_true]at h
   rw[c7y _ _ h.1,c7y _ _ h.2.1,d7u _ _ h.2.2]
def h9a:Ob->Ob->Bool
 | .box a,.box b=>f4s a b
 | .frz a,.frz b=>f5a a b
 | .row n a,.row m b=>decide (n=m) && f5a a b
 | .map a,.map b=>g1a a b
 |_,_=>false
theorem g3e {a b:Ob} (h:h9a a b=true):a=b:=by
 cases a<;>cases b<;>simp only[h9a,Bool.and_eq_true,decide_eq_true_eq,Bool.false_eq_true]at h
 ·rw[c1i _ _ h]
 ·rw[c0i _ _ h]
 ·rw[h.1,c0i _ _ h.2]
 ·rw[d7u _ _ h]
def f3x:Hp->Hp->Bool
 |[],[]=>true
 |a::l,b::m=>h9a a b && f3x l m
 |_,_=>false
theorem c1n:∀ (a b:Hp),f3x a b=true->a=b
 |[],b,h=>by cases b<;>simp only[f3x,Bool.false_eq_true]at h;rfl
 |a::l,b,h=>by cases b<;>simp only[f3x,Bool.and_eq_true,Bool.false_eq_true]at h;rw[g3e h.1,c1n _ _ h.2]
def f6z (h h':Hp):Bool:=f3x h (h'.take h.length) && a5x h'.length (h'.drop h.length)
theorem e7w {h h':Hp} (x:f6z h h'=true):grew h h'=true:=by
 simp only[f6z,Bool.and_eq_true]at x
 simp only[grew,Bool.and_eq_true,decide_eq_true_eq]
 exact⟨⟨h'.drop h.length,by conv=>lhs;rw[<-List.take_append_drop h.length h',<-c1n _ _ x.1]⟩,x.2⟩
def hdE:Env->V
 |(_,v)::_=>v
 |[]=> .undef
def h6k (o:a0c) (x:Option St) (q:St) (H1:Hp):Bool:=match x with
 |some y=>(c1p o.op||f3x y.h H1) && (match o.dst with|none=>true|some _=>eqV (hdE y.e) (hdE q.e))
 |none=>false
variable {cx:Cx} {orc:Orc}
theorem d1h {o:a0c} {s q:St} (h:a0b cx orc o s=some q) (hp:c1p o.op=true):q.h=s.h:=by
 unfold a0b at h
 split at h
 ·obtain⟨r,hr,rfl⟩:=Option.map_eq_some_iff.1 h
  exact c5w hp (v:=r.1) (H':=r.2) hr
 ·unfold grd at h
  split at h
  ·split at h
   ·obtain⟨r,hr,rfl⟩:=Option.map_eq_some_iff.1 h
    exact c5w hp (v:=r.1) (H':=r.2) hr
   ·cases h;rfl
  ·cases h;rfl
  ·cases h
theorem same_eq {o:a0c} {s q:St} {H1:Hp} (h:a0b cx orc o s=some q) (hs:h6k o (a0b cx orc o ⟨s.e,H1,s.b⟩) q H1=true):a0b cx orc o ⟨s.e,H1,s.b⟩=some ⟨q.e,H1,s.b⟩:=by
 unfold h6k at hs
 split at hs
 ·rename_i y hy
  simp only[Bool.and_eq_true,Bool.or_eq_true]at hs
  have hh:y.h=H1:=hs.1.elim (fun p=>d1h hy p) (fun p=>c1n _ _ p)
  obtain⟨v,hv⟩:=a7k h
  obtain⟨w,hw⟩:=a7k hy
  have he:y.e=q.e:=by
   rw[hv,hw]
   cases hd:o.dst with
   |none=>rfl
   |some d=>
    have h2:=hs.2
    rw[hd]at h2
    simp only[hv,hw,hd,a6w,hdE]at h2
    rw[e7t _ _ h2]
  rw[hy,<-he,<-hh,<-a3q hy]
 ·cases hs
def f6t (cx:Cx) (orc:Orc):Nat->List a0c->St->Option St
 |_,[],s=>some s
 |0,r,s=>a0k cx orc r s
 |m+1,o::r,s=>(a0b cx orc o s).bind fun s'=>if(c1p o.op||f6z s.h s'.h) && b6g o.dst s' then f6t cx orc m r s' else none
theorem e1d:∀ {m:Nat} {r:List a0c} {s q:St},f6t cx orc m r s=some q->a2d cx orc m r s=some q
 |0,[],_,_,h=>h
 |_+1,[],_,_,h=>h
 |0,_::_,_,_,h=>h
 |m+1,o::r,s,q,h=>by
  simp only[f6t]at h
  simp only[a2d]
  cases hx:a0b cx orc o s with
  |none=>rw[hx]at h;cases h
  |some s1=>
   rw[hx]at h
   simp only[Option.bind_some]at h⊢
   split at h
   ·rename_i hc
    simp only[Bool.and_eq_true,Bool.or_eq_true]at hc
    have hg:grew s.h s1.h=true:=hc.1.elim (fun p=>by rw[d1h hx p];exact c4f _) e7w
    rw[if_pos (by rw[hg,hc.2];rfl)]
    exact e1d h
   ·cases h
def cBh (cx:Cx) (orc:Orc) (d:Option Nat) (H0:Hp):Nat->List a0c->St->Option St
 |_,[],s=>some s
 |0,r,s=>a0k cx orc r s
 |m+1,o::r,s=>(a0b cx orc o s).bind fun s'=>if(c1p o.op||f3x s'.h s.h) && (d2q d o||h6k o (a0b cx orc o ⟨s.e,H0,s.b⟩) s' H0) then cBh cx orc d H0 m r s' else none
def g5r (cx:Cx) (orc:Orc) (H1:Hp) (b:Nat):List (a0c×St×St)->Bool
 |[]=>true
 |(o,s,q)::r=>h6k o (a0b cx orc o ⟨s.e,H1,b⟩) q H1 && g5r cx orc H1 b r
def cZ (cx:Cx) (orc:Orc) (acc:List (a0c×St×St)) (o:a0c) (s s1:St):List a0c->Option St
 |[]=>none
 |z::r=>match a0b cx orc z s1,a0b cx orc z ⟨s1.e,s.h,s.b⟩with
  |some s2,some s3=>match a0b cx orc o ⟨s.e,s3.h,s.b⟩with
   |some s4=>if(z.dst.isNone||eqV (hdE s3.e) (hdE s2.e)) && ((o.dst.isNone||eqV (hdE s4.e) (hdE s1.e)) && (f3x s4.h s2.h && (g5r cx orc s1.h s.b acc && (g5r cx orc s3.h s.b acc && g5r cx orc s2.h s.b acc)))) then a0k cx orc r s2 else none
   |none=>none
  |_,_=>none
def cGo (cx:Cx) (orc:Orc) (acc:List (a0c×St×St)):Nat->List a0c->St->Option St
 |_,[],s=>some s
 |0,r,s=>a0k cx orc r s
 |m+1,o::r,s=>(a0b cx orc o s).bind fun s'=>
  if(c1p o.op||f3x s'.h s.h) then(if b6g o.dst s' then cGo cx orc ((o,s,s')::acc) m r s' else none)
  else if f6z s.h s'.h && b6g o.dst s' then f6t cx orc m r s'
  else match(if Nat.ble m r.length && g5r cx orc s'.h s.b acc then cBh cx orc o.dst s.h m r s' else none)with
   |some q=>some q
   |none=>if m=1 then cZ cx orc acc o s s' r else none
section
variable {pg:Pg}
theorem Ahd.i1b {b:Nat} {s:St} {pre:List a0c} {e e':Env} {chk chk':Hp->Prop->Prop} (A:Ahd (pg:=pg) b s pre e chk) {o:a0c} (h:a0b pg.toCx (evF pg) o ⟨e,s.h,b⟩=some ⟨e',s.h,b⟩)
 (hcc:∀ H1 P,chk' H1 P->a0b pg.toCx (evF pg) o ⟨e,H1,b⟩=some ⟨e',H1,b⟩/\chk H1 P):Ahd (pg:=pg) b s (pre++[o]) e' chk':=by
 have hr:=a3v A.run h
 refine⟨hr,fun i q hi hq=>?_,fun H1 P hc=>?_⟩
 ·rw[List.length_append,List.length_singleton]at hi
  by_cases c:i<=pre.length
  ·rw[a6f c]at hq;exact A.quiet i q c hq
  ·have:i=pre.length+1:=om
   rw[this,List.take_of_length_le (by simp),hr]at hq
   cases hq;rfl
 ·obtain⟨h1,h4⟩:=hcc H1 P hc
  obtain⟨hP,hall⟩:=A.chk H1 P h4
  refine⟨hP,fun i p q q' hp hq hq'=>?_⟩
  by_cases c:i < pre.length
  ·rw[List.getElem?_append_left c]at hp
   rw[a6f om]at hq hq'
   exact hall i p q q' hp hq hq'
  ·have hi:i=pre.length:=by
    have:=(List.getElem?_eq_some_iff.1 hp).1
    rw[List.length_append,List.length_singleton]at this
    omega
   subst hi
   rw[List.getElem?_append_right (Nat.le_refl _),Nat.sub_self]at hp
   cases hp
   rw[a6f (Nat.le_refl _),List.take_of_length_le (Nat.le_refl _),A.run]at hq
   rw[List.take_of_length_le (by simp),hr]at hq'
   cases hq;cases hq'
   exact h1
theorem f0y {b d:Nat} {ops:List a0c} {od oz:a0c} {e:Env} {H H10 H01 H5:Hp} {e1 e4 e5:Env} {chk:Hp->Prop->Prop} {s':St} (hlen:d+2<=ops.length) (hod:ops[d]? =some od) (hoz:ops[d+1]? =some oz)
 (A:Ahd (pg:=pg) b ⟨e,H,b⟩ (ops.take d) e1 chk)
 (g1:a0b pg.toCx (evF pg) od ⟨e1,H,b⟩=some ⟨e5,H10,b⟩) (g2:a0b pg.toCx (evF pg) oz ⟨e5,H10,b⟩=some ⟨e4,H5,b⟩)
 (g3:a0b pg.toCx (evF pg) oz ⟨e5,H,b⟩=some ⟨e4,H01,b⟩) (g4:a0b pg.toCx (evF pg) od ⟨e1,H01,b⟩=some ⟨e5,H5,b⟩)
 (k10:chk H10 True) (k01:chk H01 True) (k11:chk H5 True) (hops:a0k pg.toCx (evF pg) ops ⟨e,H,b⟩=some s'):c6w pg.toCx (evF pg) (d+2) ops ⟨e,H,b⟩:=by
 have htd:(ops.take d).length=d:=by rw[List.length_take];omega
 have c10:=(A.chk _ _ k10).2
 have c01:=(A.chk _ _ k01).2
 have c11:=(A.chk _ _ k11).2
 have r1:a0k pg.toCx (evF pg) (ops.take (d+1)) ⟨e,H,b⟩=some ⟨e5,H10,b⟩:=by
  rw[List.take_add_one,hod];exact a3v A.run g1
 have r2:a0k pg.toCx (evF pg) (ops.take (d+2)) ⟨e,H,b⟩=some ⟨e4,H5,b⟩:=by
  rw[show d+2=d+1+1 from rfl,List.take_add_one,hoz];exact a3v r1 g2
 refine .inr (.inl ?_)
 have pref:∀ i,∃ q,a0k pg.toCx (evF pg) (ops.take i) ⟨e,H,b⟩=some q:=by
  intro i
  have h:=hops
  rw[<-List.take_append_drop i ops,a3t]at h
  cases hq:a0k pg.toCx (evF pg) (ops.take i) ⟨e,H,b⟩with
  |none=>rw[hq]at h;cases h
  |some q=>exact⟨q,rfl⟩
 have one:∀ {i o q q'},ops[i]? =some o->a0k pg.toCx (evF pg) (ops.take i) ⟨e,H,b⟩=some q->a0k pg.toCx (evF pg) (ops.take (i+1)) ⟨e,H,b⟩=some q'->a0b pg.toCx (evF pg) o q=some q':=by
  intro i o q q' ho hq hq'
  rw[List.take_add_one,a3t,hq,ho]at hq'
  simp only[Option.toList,Option.bind_some,a0k]at hq'
  cases hx:a0b pg.toCx (evF pg) o q with
  |none=>rw[hx]at hq';cases hq'
  |some y=>rw[hx]at hq';exact hq'
 obtain⟨τ,hτ⟩:∃ τ:Nat->St,∀ i,a0k pg.toCx (evF pg) (ops.take i) ⟨e,H,b⟩=some (τ i):=⟨fun i=>(pref i).choose,fun i=>(pref i).choose_spec⟩
 have hv:∀ i,∃ x,∀ o,ops[i]? =some o->(τ (i+1)).e=a6w o.dst x (τ i).e:=by
  intro i
  cases ho:ops[i]? with
  |none=>exact⟨.undef,fun o h=>by cases h⟩
  |some o=>
   obtain⟨x,hx⟩:=a7k (one ho (hτ i) (hτ (i+1)))
   exact⟨x,fun o' h=>by cases h;exact hx⟩
 obtain⟨val,hval⟩:∃ val:Nat->V,∀ i o,ops[i]? =some o->(τ (i+1)).e=a6w o.dst (val i) (τ i).e:=⟨fun i=>(hv i).choose,fun i=>(hv i).choose_spec⟩
 have t0:τ 0=⟨e,H,b⟩:=by have:=hτ 0;simp only[List.take_zero,a0k,Option.some.injEq]at this;exact this.symm
 have td:τ d=⟨e1,H,b⟩:=by have:=hτ d;rw[A.run]at this;simpa using this.symm
 have td1:τ (d+1)=⟨e5,H10,b⟩:=by have:=hτ (d+1);rw[r1]at this;simpa using this.symm
 have td2:τ (d+2)=⟨e4,H5,b⟩:=by have:=hτ (d+2);rw[r2]at this;simpa using this.symm
 have tk:∀ {i j},i<=j->(ops.take j).take i=ops.take i:=fun{i j} h=>by rw[List.take_take,Nat.min_eq_left h]
 have gt:∀ {i j},i < j->(ops.take j)[i]? =ops[i]? :=fun{i j} h=>by rw[List.getElem?_take,if_pos h]
 have lo:∀ i,i<=d->(τ i).h=H:=fun i hi=>A.quiet i _ om (by rw[tk hi];exact hτ i)
 have hb:∀ i,(τ i).b=b:=by
  intro i
  induction i with
  |zero=>rw[t0]
  |succ i ih=>
   cases ho:ops[i]? with
   |none=>
    have e1:ops.take (i+1)=ops.take i:=by
     have:ops.length<=i:=List.getElem?_eq_none_iff.1 ho
     rw[List.take_of_length_le this,List.take_of_length_le om]
    have:=hτ (i+1)
    rw[e1,hτ i]at this
    simp only[Option.some.injEq]at this
    rw[<-this,ih]
   |some o=>rw[a3q (one ho (hτ i) (hτ (i+1))),ih]
 refine⟨d,d+1,fun i=>(τ i).e,val,fun x y=>match x,y with|false,false=>H|true,false=>H10|false,true=>H01|true,true=>H5,om,om,om,hlen,by rw[t0],rfl,fun i o _ ho=>hval i o ho,fun i o x y hi ho hx hy=>?_⟩
 have cs:i < d\/i=d\/i=d+1:=om
 rcases cs with c|rfl|rfl
 ·rw[decide_eq_false om,decide_eq_false om,Bool.or_false,Bool.or_false]
  have all:∀ H1,(∀ (i:Nat) (o:a0c) (q q':St),(ops.take d)[i]? =some o->a0k pg.toCx (evF pg) ((ops.take d).take i) ⟨e,H,b⟩=some q->a0k pg.toCx (evF pg) ((ops.take d).take (i+1)) ⟨e,H,b⟩=some q'->a0b pg.toCx (evF pg) o ⟨q.e,H1,b⟩=some ⟨q'.e,H1,b⟩)->a0b pg.toCx (evF pg) o ⟨(τ i).e,H1,b⟩=some ⟨(τ (i+1)).e,H1,b⟩:=fun H1 hh=>
   hh i o _ _ (by rw[gt c];exact ho) (by rw[tk om];exact hτ i) (by rw[tk om];exact hτ (i+1))
  cases x<;>cases y
  ·have:=one ho (hτ i) (hτ (i+1))
   rw[show τ i=⟨(τ i).e,(τ i).h,(τ i).b⟩from rfl,show τ (i+1)=⟨(τ (i+1)).e,(τ (i+1)).h,(τ (i+1)).b⟩from rfl,lo i om,lo (i+1) om,hb,hb]at this
   exact this
  ·exact all _ c01
  ·exact all _ c10
  ·exact all _ c11
 ·rw[hod]at ho;cases ho
  have hx:=hx rfl
  subst hx
  simp only[td,td1]
  rw[decide_eq_false (show ¬ i=i+1 by omega),Bool.or_false]
  cases y
  ·exact g1
  ·exact g4
 ·rw[hoz]at ho;cases ho
  have hy:=hy rfl
  subst hy
  simp only[td1,td2]
  rw[decide_eq_false (show ¬ d+1=d by omega),Bool.or_false]
  cases x
  ·exact g3
  ·exact g2
variable {orc:Orc} (ho:OLe orc (evF pg))
include ho
theorem f8l {b:Nat} {s0:St} {d:Nat} {od:a0c} {H1:Hp}:∀ {m:Nat} {r pre:List a0c} {s q:St},Bhd (pg:=pg) b s0 d od H1 pre s.e->s.h=H1->s.b=b->m<=r.length->cBh pg.toCx orc od.dst s0.h m r s=some q->
 ∃ e2,Bhd (pg:=pg) b s0 d od H1 (pre++r.take m) e2/\a0k pg.toCx (evF pg) (pre++r) s0=some q
 |0,r,pre,s,q,B,hh,hb,_,h=>by
  refine⟨s.e,by rw[List.take_zero,List.append_nil];exact B,?_⟩
  rw[a3t,B.run]
  subst hh;subst hb
  cases r with
  |nil=>exact h
  |cons o r=>exact a2k ho h
 |m+1,[],pre,s,q,B,hh,hb,hm,h=>absurd hm (by simp)
 |m+1,o::r,pre,s,q,B,hh,hb,hm,h=>by
  simp only[cBh]at h
  cases hy:a0b pg.toCx orc o s with
  |none=>rw[hy]at h;cases h
  |some s1=>
   rw[hy]at h
   have hx:=a0n ho hy
   simp only[Option.bind_some]at h
   split at h
   ·rename_i hc
    simp only[Bool.and_eq_true,Bool.or_eq_true]at hc
    have h1:s1.h=s.h:=hc.1.elim (fun p=>d1h hx p) (fun p=>c1n _ _ p)
    have hb1:=a3q hx
    subst hh;subst hb
    have hx':a0b pg.toCx (evF pg) o ⟨s.e,s.h,s.b⟩=some ⟨s1.e,s.h,s.b⟩:=by rw[show(⟨s.e,s.h,s.b⟩:St)=s from rfl,hx,<-h1,<-hb1]
    have h2:(∃ t,od.dst=some t/\t∈o.names)\/a0b pg.toCx (evF pg) o ⟨s.e,s0.h,s.b⟩=some ⟨s1.e,s0.h,s.b⟩:=hc.2.imp d9w (fun p=>a0n ho (same_eq hy p))
    obtain⟨e2,B2,h3⟩:=f8l (m:=m) (r:=r) (pre:=pre++[o]) (B.snoc hx' h2) h1 hb1 (by simpa using hm) h
    refine⟨e2,?_,?_⟩
    ·rw[List.take_succ_cons];rw[List.append_assoc]at B2;exact B2
    ·rw[List.append_assoc]at h3;exact h3
   ·cases h
structure GoI (pg:Pg) (s0:St) (pre:List a0c) (acc:List (a0c×St×St)) (s:St):Prop where
 h:s.h=s0.h
 b:s.b=s0.b
 draw:∀ n r,a2d pg.toCx (evF pg) (pre.length+n) (pre++r) s0=a2d pg.toCx (evF pg) n r s
 ahd:Ahd (pg:=pg) s0.b s0 pre s.e (fun H1 P=>P/\∀ p∈acc,a0b pg.toCx (evF pg) p.1 ⟨p.2.1.e,H1,s0.b⟩=some ⟨p.2.2.e,H1,s0.b⟩)
theorem c6g {H1:Hp} {b:Nat}:∀ {acc:List (a0c×St×St)},(∀ p∈acc,a0b pg.toCx orc p.1 p.2.1=some p.2.2/\p.2.1.b=b)->g5r pg.toCx orc H1 b acc=true->∀ p∈acc,a0b pg.toCx (evF pg) p.1 ⟨p.2.1.e,H1,b⟩=some ⟨p.2.2.e,H1,b⟩
 |[],_,_,p,hp=>by cases hp
 |(o,s,q)::r,ha,h,p,hp=>by
  simp only[g5r,Bool.and_eq_true]at h
  rcases List.mem_cons.1 hp with rfl|hp
  ·obtain⟨h1,h2⟩:=ha _ (List.mem_cons_self ..)
   simp only at h1 h2⊢
   subst h2
   exact a0n ho (same_eq h1 h.1)
  ·exact c6g (fun p hp=>ha p (List.mem_cons_of_mem _ hp)) h.2 p hp
theorem f8e {s0:St}:∀ {m:Nat} {r pre:List a0c} {acc} {s q:St},GoI pg s0 pre acc s->(∀ p∈acc,a0b pg.toCx orc p.1 p.2.1=some p.2.2/\p.2.1.b=s0.b)->cGo pg.toCx orc acc m r s=some q->b0x pg.toCx (evF pg) (pre.length+m) (pre++r) s0=some q
 |0,[],pre,acc,s,q,I,_,h=>b9g (by rw[I.draw];first|exact h|exact a2k ho h)
 |_+1,[],pre,acc,s,q,I,_,h=>b9g (by rw[I.draw];first|exact h|exact a2k ho h)
 |0,_::_,pre,acc,s,q,I,_,h=>b9g (by rw[I.draw];first|exact h|exact a2k ho h)
 |m+1,o::r,pre,acc,s,q,I,ha,h=>by
  simp only[cGo]at h
  cases hy:a0b pg.toCx orc o s with
  |none=>rw[hy]at h;cases h
  |some s1=>
   rw[hy]at h
   have hx:=a0n ho hy
   simp only[Option.bind_some]at h
   have hb1:=a3q hx
   split at h
   ·rename_i hq
    have h1:s1.h=s.h:=by
     rcases(Bool.or_eq_true _ _).mp hq with p|p
     ·exact d1h hx p
     ·exact c1n _ _ p
    split at h
    ·rename_i hd
     have hx':a0b pg.toCx (evF pg) o ⟨s.e,s0.h,s0.b⟩=some ⟨s1.e,s0.h,s0.b⟩:=by rw[<-I.h,<-I.b,show(⟨s.e,s.h,s.b⟩:St)=s from rfl,hx,<-h1,<-hb1]
     have J:GoI pg s0 (pre++[o]) ((o,s,s1)::acc) s1:=by
      refine⟨h1.trans I.h,hb1.trans I.b,fun n r=>?_,I.ahd.i1b hx' fun H1 P hc=>⟨hc.2 _ (List.mem_cons_self ..),hc.1,fun p hp=>hc.2 p (List.mem_cons_of_mem _ hp)⟩⟩
      have:=I.draw (n+1) (o::r)
      rw[List.length_append,List.length_singleton,List.append_assoc,show pre.length+1+n=pre.length+(n+1)by omega]
      refine this.trans ?_
      simp only[a2d,hx,Option.bind_some]
      rw[if_pos (by rw[h1,c4f,hd];rfl)]
     have:=f8e (m:=m) (r:=r) J (fun p hp=>by
       rcases List.mem_cons.1 hp with rfl|hp
       ·exact⟨hy,I.b⟩
       ·exact ha p hp) h
     rw[List.length_append,List.length_singleton,List.append_assoc,show pre.length+1+m=pre.length+(m+1)by omega]at this
     exact this
    ·cases h
   ·split at h
    ·rename_i hg
     simp only[Bool.and_eq_true]at hg
     refine b9g ?_
     rw[I.draw]
     simp only[a2d,hx,Option.bind_some]
     rw[if_pos (by rw[e7w hg.1,hg.2];rfl)]
     exact a7e ho (e1d h)
    ·have hrun:=I.ahd.run
     have es:(⟨s.e,s0.h,s0.b⟩:St)=s:=by rw[<-I.h,<-I.b]
     rw[es]at hrun
     have hpre:=a3v hrun hx
     split at h
     ·rename_i q' hq'
      cases h
      split at hq'
      ·rename_i hc
       simp only[Bool.and_eq_true]at hc
       have hm:=Nat.le_of_ble_eq_true hc.1
       have hchk:=c6g ho ha (by rw[<-I.b];exact hc.2)
       have B0:Bhd (pg:=pg) s0.b s0 pre.length o s1.h (pre++[o]) s1.e:=by
        refine⟨by rw[hpre,<-I.b,<-hb1],by simp,fun i q h1 h2 hq=>?_,fun i p q q' h1 hp=>?_⟩
        ·simp only[List.length_append,List.length_singleton]at h2
         have:i=pre.length+1:=om
         rw[this,List.take_of_length_le (by simp),hpre]at hq
         cases hq;rfl
        ·have:=(List.getElem?_eq_some_iff.1 hp).1
         simp only[List.length_append,List.length_singleton]at this
         omega
       rw[I.h]at hq'
       obtain⟨e2,B,hops⟩:=f8l ho B0 rfl (hb1.trans I.b) hm hq'
       rw[List.append_assoc]at hops B
       have htk:(pre++o::r).take (pre.length+(m+1))=pre++([o]++r.take m):=by
        rw[List.take_append,List.take_of_length_le om,Nat.add_sub_cancel_left];rfl
       refine a3h.2 ⟨hops,.inr ?_⟩
       refine e1a (d:=pre.length) (od:=o) (e1:=s.e) (e2:=e2) (H1:=s1.h) (P:=True) (chk:=fun H1 P=>P/\∀ p∈acc,a0b pg.toCx (evF pg) p.1 ⟨p.2.1.e,H1,s0.b⟩=some ⟨p.2.2.e,H1,s0.b⟩) rfl (by simp;omega) (by rw[List.getElem?_append_right (Nat.le_refl _),Nat.sub_self];rfl) ?_ ⟨trivial,hchk⟩ om ?_ hops
       ·rw[List.take_left];exact I.ahd
       ·rw[htk];exact B
      ·cases hq'
     ·split at h
      ·rename_i hm1
       subst hm1
       unfold cZ at h
       split at h
       ·cases h
       ·rename_i z r' _
        split at h
        ·rename_i s2 s3 y2 y3
         split at h
         ·rename_i s4 y4
          split at h
          ·rename_i hc
           simp only[Bool.and_eq_true,Bool.or_eq_true,Option.isNone_iff_eq_none]at hc
           obtain⟨d1,d2,d3,d4,d5,d6⟩:=hc
           have hd:∀ {p:a0c} {a b c:Env} {x y:V},a=a6w p.dst x c->b=a6w p.dst y c->(p.dst=none\/eqV (hdE a) (hdE b)=true)->a=b:=by
            intro p a b c x y h1 h2 h3
            cases hp:p.dst with
            |none=>rw[h1,h2,hp];rfl
            |some d=>
             rw[hp]at h1 h2 h3
             rcases h3 with h3|h3
             ·cases h3
             ·subst h1;subst h2
              have:=e7t _ _ h3
              simp only[a6w,hdE]at this
              rw[this]
           have x2:=a0n ho y2
           have x3:=a0n ho y3
           have x4:=a0n ho y4
           obtain⟨v1,w1⟩:=a7k hx
           obtain⟨v2,w2⟩:=a7k x2
           obtain⟨v3,w3⟩:=a7k x3
           obtain⟨v4,w4⟩:=a7k x4
           have q3:s3.e=s2.e:=hd w3 w2 d1
           have q4:s4.e=s1.e:=hd w4 w1 d2
           have q5:=c1n _ _ d3
           have b2:=a3q x2
           have b3:=a3q x3
           have b4:=a3q x4
           simp only at b3 b4
           have c1:=c6g ho (b:=s.b) (acc:=acc) (by rw[I.b];exact ha) d4
           have c2:=c6g ho (b:=s.b) (acc:=acc) (by rw[I.b];exact ha) d5
           have c3:=c6g ho (b:=s.b) (acc:=acc) (by rw[I.b];exact ha) d6
           have hops:a0k pg.toCx (evF pg) (pre++o::z::r') s0=some q:=by
            have h3:=a3v hpre x2
            rw[List.append_assoc]at h3
            rw[show pre++o::z::r'=(pre++([o]++[z]))++r' by simp,a3t,h3]
            exact a2k ho h
           have eb:s0.b=s.b:=I.b.symm
           refine a3h.2 ⟨hops,.inr ?_⟩
           refine f0y (b:=s0.b) (d:=pre.length) (od:=o) (oz:=z) (e:=s0.e) (H:=s0.h) (H10:=s1.h) (H01:=s3.h) (H5:=s2.h) (e1:=s.e) (e4:=s2.e) (e5:=s1.e) (chk:=fun H1 P=>P/\∀ p∈acc,a0b pg.toCx (evF pg) p.1 ⟨p.2.1.e,H1,s0.b⟩=some ⟨p.2.2.e,H1,s0.b⟩) (by simp) (by rw[List.getElem?_append_right (Nat.le_refl _),Nat.sub_self];rfl) (by rw[List.getElem?_append_right om,Nat.add_sub_cancel_left];rfl) (by rw[List.take_left];exact I.ahd) ?_ ?_ ?_ ?_ ⟨trivial,by rw[eb];exact c1⟩ ⟨trivial,by rw[eb];exact c2⟩ ⟨trivial,by rw[eb];exact c3⟩ hops
           ·rw[es,hx,eb,<-hb1]
           ·rw[eb,<-hb1,x2,<-b2]
           ·rw[eb,<-I.h,x3,<-q3,<-b3]
           ·rw[eb,x4,<-q4,<-q5,<-b4]
          ·cases h
         ·cases h
        ·cases h
      ·cases h
theorem g3x {m:Nat} {ops:List a0c} {s q:St} (h:cGo pg.toCx orc [] m ops s=some q):b0x pg.toCx (evF pg) m ops s=some q:=by
 have:=f8e ho (pre:=[]) (s0:=s) (acc:=[]) ⟨rfl,rfl,fun n r=>by rw[List.length_nil,Nat.zero_add];rfl,⟨rfl,fun i q _ hq=>by simp only[List.take_nil,a0k,Option.some.injEq]at hq;rw[<-hq],fun H1 P hP=>⟨hP.1,fun i o q q' ho=>by simp at ho⟩⟩⟩ (fun p hp=>by cases hp) h
 rwa [List.length_nil,Nat.zero_add]at this
end
def cC (cx:Cx) (orc:Orc) (lp:Lp):a0m->St->Option (Ex×St)
 | .skip,s=>some (.nrm,s)
 | .reg ops,s=>(a0k cx orc ops s).map fun s=>(.nrm,s)
 | .draw m ops,s=>(cGo cx orc [] m ops s).map fun s=>(.nrm,s)
 | .seq a b,s=>sq (cC cx orc lp a s) fun s'=>cC cx orc lp b s'
 | .cond c a b,s=>match evO cx s.e c with
   | .d (.bool true)=>cC cx orc lp a s
   | .d (.bool false)=>cC cx orc lp b s
   |_=>none
 | .block id b,s=>match cC cx orc lp b s with
   |some (.exit i,s')=>if i=id then some (.nrm,s') else some (.exit i,s')
   |r=>r
 | .scope b,s=>cC cx orc lp b s
 | .loop ks b,s=>match cC cx orc lp b ⟨a1d ks s.e,s.h,s.h.length⟩with
   |some (.nrm,s')=>lp ks b ⟨cut s.h.length (a1d ks s'.e),s'.h.take s.h.length,s.b⟩
   |some (x,s')=>some (x,⟨s'.e,s'.h,s.b⟩)
   |none=>none
 | .exit i,s=>some (.exit i,s)
 | .ret,s=>some (.ret,s)
 | .newrow sz t,s=>match a1g s.e t with
   | .nils=>if 0 < sz then some (.nrm,⟨(t,.row s.h.length 0)::s.e,s.h++[.row sz []],s.b⟩) else none
   |_=>none
 | .bindrow sz t off,s=>match a1g s.e t with
   | .ptr id o=>match s.h[id]? with
     |some (.box c)=>match c[o+off]? with
      |some .nils=>if s.b<=id/\0 < sz then some (.nrm,⟨s.e,s.h.set id (.box (c.set (o+off) (.row s.h.length 0)))++[.row sz []],s.b⟩) else none
      |_=>none
     |_=>none
   |_=>none
 | .mkrow sz,s=>if 0 < sz then some (.nrm,⟨s.e,s.h++[.row sz []],s.b⟩) else none
 | .bindto t off k,s=>match a1g s.e t with
   | .ptr id o=>match s.h[id]? with
     |some (.box c)=>match c[o+off]?,s.h[id - k]? with
      |some .nils,some (.row _ [])=>if 0 < k/\k<=id/\s.b<=id - k then some (.nrm,⟨s.e,s.h.set id (.box (c.set (o+off) (.row (id - k) 0))),s.b⟩) else none
      |_,_=>none
     |_=>none
   |_=>none
 | .freeze t,s=>match a1g s.e t with
   | .arr id _ _=>match s.h[id]? with
     |some (.box c)=>match b4x c with
      |some ds=>some (.nrm,⟨s.e,s.h.set id (.frz ds),s.b⟩)
      |none=>none
     |_=>none
   | .row id len=>match s.h[id]? with
     |some (.row _ l)=>if l.length=len then some (.nrm,⟨(t,.d (.sl l))::s.e,s.h,s.b⟩) else none
     |_=>none
   |_=>none
theorem g7q {pg:Pg} {orc:Orc} {lp:Lp} (ho:OLe orc (evF pg)) (hl:LLe lp (evL pg)):∀ {c:a0m} {s:St} {r:Ex×St},cC pg.toCx orc lp c s=some r->evC pg.toCx (evF pg) (evL pg) c s=some r:=by
 intro c
 induction c with
 |reg ops=>
  intro s r h;simp only[cC]at h;simp only[evC]
  cases hx:a0k pg.toCx orc ops s with
  |none=>rw[hx]at h;cases h
  |some q=>rw[hx]at h;rw[a2k ho hx];exact h
 |draw m ops=>
  intro s r h;simp only[cC]at h;simp only[evC]
  cases hx:cGo pg.toCx orc [] m ops s with
  |none=>rw[hx]at h;cases h
  |some q=>rw[hx]at h;rw[g3x ho hx];exact h
 |seq a b iha ihb=>
  intro s r h;simp only[cC]at h;simp only[evC]
  cases hx:cC pg.toCx orc lp a s with
  |none=>rw[hx]at h;cases h
  |some q=>
   obtain⟨x,s'⟩:=q
   rw[hx]at h;rw[iha hx]
   cases x<;>first|exact ihb h|exact h
 |cond c a b iha ihb=>
  intro s r h;simp only[cC]at h;simp only[evC]
  split at h
  ·rename_i hc;rw[hc];exact iha h
  ·rename_i hc;rw[hc];exact ihb h
  ·cases h
 |block id b ih=>
  intro s r h;simp only[cC]at h;simp only[evC]
  cases hx:cC pg.toCx orc lp b s with
  |none=>rw[hx]at h;cases h
  |some q=>rw[hx]at h;rw[ih hx];exact h
 |scope b ih=>intro s r h;simp only[cC]at h;simp only[evC];exact ih h
 |loop k b ih=>
  intro s r h;simp only[cC]at h;simp only[evC]
  cases hx:cC pg.toCx orc lp b ⟨a1d k s.e,s.h,s.h.length⟩with
  |none=>rw[hx]at h;cases h
  |some q=>
   obtain⟨x,s'⟩:=q
   rw[hx]at h;rw[ih hx]
   cases x<;>simp only at h⊢ <;>first|exact hl _ _ _ _ h|exact h
 |_=>intro s r h;exact h
def cF (pg:Pg) (kn orc:Orc) (lp:Lp) (f:Nat) (args:List V) (h:Hp):Option (V×Hp):=
 match kn f args h with
 |some r=>some r
 |none=>match pg.tbl f with
  |some (.code vf)=>if args.length=vf.np then
      bare (a1a 0 args && !vf.keep) h fun h=>match cC pg.toCx orc lp vf.body ⟨a1z args,h,h.length⟩with
      |some (.nrm,s)|some (.ret,s)=>leave vf h.length s
      |_=>none
    else none
  |some (.prim F)=>F args h
  |none=>none
def cAt (pg:Pg) (kn:Orc):Nat->Orc×Lp
 |0=>(fun _ _ _=>none,fun _ _ _=>none)
 |n+1=>(cF pg kn (cAt pg kn n).1 (cAt pg kn n).2,fun ks b s=>cC pg.toCx (cAt pg kn n).1 (cAt pg kn n).2 (.loop ks b) s)
theorem f7u {pg:Pg} {kn:Orc} (hk:OLe kn (evF pg)):∀ n,OLe (cAt pg kn n).1 (evF pg)/\LLe (cAt pg kn n).2 (evL pg)
 |0=>⟨fun _ _ _ _ h=>by simp[cAt]at h,fun _ _ _ _ h=>by simp[cAt]at h⟩
 |n+1=>by
  obtain⟨h1,h2⟩:=f7u hk n
  refine⟨fun f a h r hr=>?_,fun k b s r hr=>?_⟩
  ·change cF pg kn (cAt pg kn n).1 (cAt pg kn n).2 f a h=some r at hr
   unfold cF at hr
   split at hr
   ·rename_i q hq;cases hr;exact hk _ _ _ _ hq
   ·split at hr
    ·rename_i vf ht
     rw[c3m ht]
     split at hr
     ·rename_i hn
      rw[if_pos hn]
      refine d0u (fun h r hr=>?_) hr
      unfold e4t
      cases hx:cC pg.toCx (cAt pg kn n).1 (cAt pg kn n).2 vf.body ⟨a1z a,h,h.length⟩with
      |none=>rw[hx]at hr;cases hr
      |some q=>
       rw[hx]at hr
       have e1:ev pg vf.body ⟨a1z a,h,h.length⟩=some q:=g7q h1 h2 hx
       rw[e1];exact hr
     ·cases hr
    ·rename_i F ht;rw[b9c ht];exact hr
    ·cases hr
  ·rw[f8n]
   exact g7q h1 h2 hr
theorem f2x {pg:Pg} {kn:Orc} (hk:OLe kn (evF pg)) (n:Nat) {f:Nat} {a:List V} {h:Hp} {r:V×Hp} (e:(cAt pg kn n).1 f a h=some r):evF pg f a h=some r:=(f7u hk n).1 _ _ _ _ e
end Go.Vm
namespace Go.Vm.Ite
open Go.Vm.Ip
def sA:S:=[83]
def jA:Its:=⟨[⟨sA,[⟨[97],[105,54,52]⟩,⟨[98],[66,111,120,60,83,62]⟩]⟩],[],[⟨[109,97,105,110],[],[],[40,41],8⟩]⟩
def jB:Its:=⟨[⟨sA,[⟨[97],sA⟩]⟩],[],[⟨[109,97,105,110],[],[],[40,41],5⟩]⟩
theorem g3a {y:S} (h:Gets jA sA y):y=[105,54,52]\/y=[66,111,120,60,83,62]:=by
 have hh:(a0v jA sA).1=[[105,54,52],[66,111,120,60,83,62]]:=by decide
 induction h with
 |one h=>rw[hh]at h;simpa using h
 |step _ h ih=>
  rcases ih with e|e
  ·rw[e,show(a0v jA [105,54,52]).1=[] by decide]at h;cases h
  ·rw[e,show(a0v jA [66,111,120,60,83,62]).1=[] by decide]at h;cases h
theorem h8r:c2z jA sA=false:=d3d fun h=>by
  rcases g3a h with e|e
  ·exact absurd e (by decide)
  ·exact absurd e (by decide)
theorem i2u:c2z jB sA=true:=c8a (.one (by decide))
theorem h1q:b2u jA:=⟨by decide,by decide,by decide,by decide,by decide,by decide⟩
theorem g8u:b2u jB:=⟨by decide,by decide,by decide,by decide,by decide,by decide⟩
theorem g2x:Small jA:=⟨by decide,by decide,by decide,by decide⟩
theorem g4b:Small jB:=⟨by decide,by decide,by decide,by decide⟩
def h0h (h:Hp) (a:Nat) (l:List (D×D)):Bool:=match h[a]? with|some (.map m)=>g1a m l|_=>false
theorem f1m {h:Hp} {a:Nat} {l:List (D×D)} (x:h0h h a l=true):h[a]? =some (.map l):=by
 unfold h0h at x
 split at x
 ·rename_i m e;rw[e,d7u _ _ x]
 ·cases x
def h8g (x:Its) (p:Nat) (h:Hp):Bool:=match h[p]? with
 |some (.box [.mp a,.mp b,.mp c])=>h0h h a (a4c (nS x)) && (h0h h b (a4c (nE x)) && (h0h h c (a4c (nF x)) && (decide (a≠b) && (decide (a≠c) && decide (b≠c)))))
 |_=>false
theorem f8r {x:Its} {p:Nat} {h:Hp} (e:h8g x p h=true):e3o x p h:=by
 unfold h8g at e
 split at e
 ·rename_i a b c hp
  simp only[Bool.and_eq_true,decide_eq_true_eq]at e
  obtain⟨h1,h2,h3,h4,h5,h6⟩:=e
  exact⟨a,b,c,hp,f1m h1,f1m h2,f1m h3,h4,h5,h6⟩
 ·cases e
def h9e:Orc:=fun f args h=>if f=55 then match args with
  |[.d d,.ptr p 0,.d (.str s)]=>if s=sA then(if eqD d jA.D && h8g jA p h then some (boo false,h) else if eqD d jB.D && h8g jB p h then some (boo true,h) else none) else none
  |_=>none else none
section
variable {fx:Nat->Option Obj}
theorem g5c:OLe h9e (evF (pgL fx FT)):=by
 intro f a h r e
 unfold h9e at e
 split at e
 ·rename_i hf
  subst hf
  split at e
  ·split at e
   ·rename_i hs
    subst hs
    split at e
    ·rename_i hc
     simp only[Bool.and_eq_true]at hc
     cases e
     rw[c7y _ _ hc.1,<-h8r]
     exact d8t h1q g2x (f8r hc.2) _
    ·split at e
     ·rename_i hc
      simp only[Bool.and_eq_true]at hc
      cases e
      rw[c7y _ _ hc.1,<-i2u]
      exact d8t g8u g4b (f8r hc.2) _
     ·cases e
   ·cases e
  ·cases e
 ·cases e
theorem g7z:(cAt (pgL fx FT) h9e 300).1 b6q [] []=some (boo true,[]):=kr
theorem e5d (H:Hp):evF (pgL fx FT) b6q [] H=some (boo true,H):=by
 have h0:=f2x (g5c (fx:=fx)) 300 (g7z (fx:=fx))
 rw[c3m (c7c (F:=FT)),if_pos (show([]:List V).length=F8.np from rfl)]at h0⊢
 have hb:(a1a 0 ([]:List V) && !F8.keep)=true:=rfl
 rw[hb]at h0⊢
 simp only[bare,Option.map_eq_some_iff,Prod.mk.injEq]at h0⊢
 obtain⟨q,h1,h2,_⟩:=h0
 exact⟨q,h1,h2,trivial⟩
end
end Go.Vm.Ite
namespace Go.Vm.Ite
open Go.Vm.Tp (Nd a6q a1l tM uM)
open Go.Vm.Pa (b0s)
open Go.Vm.Ip
open Go.Vm.Io hiding S
theorem g5m {t:List Nd} {l:List Int} {c n:Int} (he:wrong t l=some (c,n)):c≠0:=by
 unfold wrong at he
 split at he
 ·split at he
  ·rename_i e1 h1;cases he;exact f0z h1
  ·split at he
   ·rename_i e1 h1;cases he;exact g1v h1
   ·exact g1h he
 ·cases he;decide
theorem h4p {t:List Nd} (h:(ofP t).2=Lex.dgD 0 0 0):a1l t=true/\wrong t (roots t)=none/\(ofP t).1=a0l t (roots t)/\∃ i,pos (nF (a0l t (roots t))) c0d=some i/\¬ (0 < ((a0l t (roots t)).fs.getD i default).ps.length\/((a0l t (roots t)).fs.getD i default).r≠d5n):=by
 unfold ofP at h⊢
 by_cases hc:a1l t=true
 rotate_left
 ·rw[if_neg hc]at h
  unfold Lex.dgD at h
  simp at h
 rw[if_pos hc]at h⊢
 refine⟨hc,?_⟩
 cases hw:wrong t (roots t)with
 |some e=>
  obtain⟨c,n⟩:=e
  rw[hw]at h
  simp only[dgO]at h
  unfold Lex.dgD at h
  simp only[D.agg.injEq,List.cons.injEq,D.int.injEq,true_and]at h
  exact absurd h.1 (g5m hw)
 |none=>
  rw[hw]at h
  simp only at h⊢
  refine⟨trivial,?_⟩
  cases hp:pos (nF (a0l t (roots t))) c0d with
  |none=>
   rw[hp]at h
   simp only at h
   unfold Lex.dgD at h
   simp at h
  |some i=>
   rw[hp]at h
   simp only at h⊢
   by_cases c:0 < ((a0l t (roots t)).fs.getD i default).ps.length\/((a0l t (roots t)).fs.getD i default).r≠d5n
   ·rw[if_pos c]at h
    simp only[dgO]at h
    unfold Lex.dgD at h
    simp at h
   ·rw[if_neg c]
    exact⟨rfl,i,rfl,c⟩
theorem e6z {t:List Nd} (hf:Tp.b2u t):b2u (ofP t).1:=by
 have e0:b2u eI:=⟨Nat.zero_le _,Nat.zero_le _,Nat.zero_le _,by simp,by simp,by simp⟩
 unfold ofP
 by_cases hc:a1l t=true
 ·rw[if_pos hc]
  have hr:=h0q hf hc
  (repeat' split)
  all_goals first|exact e0z hr (d2x hr) (fun n hn=>(e1z hr n hn).1)|exact e0
 ·rw[if_neg hc];exact e0
section
variable {fx:Nat->Option Obj}
set_option maxHeartbeats 4000000 in
theorem g5h (s:S) (hs:s.length<=140737488355328) (H:Hp):evF (pgL fx FT) c1e [str s] H=some (boo true,H):=by
 refine a5v (c0u (F:=FT)) rfl rfl ?_ H
 obtain⟨t,c1,f1,e1,p1,ft,z1⟩:=d9i (fx:=fx) s
 obtain⟨u,c2,f2,e2,p2,fu,z2⟩:=d9i (fx:=fx) (s++b0s)
 have p1:=fun H=>up (F:=FT) (p1 H)
 have p2:=fun H=>up (F:=FT) (p2 H)
 have hsp:=fun H=>e5d (fx:=fx) H
 have hlen:s.length+b0s.length<=9223372036854775807:=by show s.length+21<=_;omega
 by_cases hc1:c1=0
 rotate_left
 ·have n1:(!decide (c1=0))=true:=by rw[decide_eq_false hc1];rfl
  repeat' (first|refine run ⟨?_⟩|refine ca (p1 _) ?_|refine And.intro hlen ?_|refine ca (p2 _) ?_|refine ca (hsp _) ?_|fail)
  exact rfl
 have n1:(!decide (c1=0))=false:=by rw[decide_eq_true hc1];rfl
 by_cases hc2:c2=0
 rotate_left
 ·have n2:(!decide (c2=0))=true:=by rw[decide_eq_false hc2];rfl
  repeat' (first|refine run ⟨?_⟩|refine ca (p1 _) ?_|refine And.intro hlen ?_|refine ca (p2 _) ?_|refine ca (hsp _) ?_|fail)
  exact rfl
 have n2:(!decide (c2=0))=false:=by rw[decide_eq_true hc2];rfl
 obtain⟨r,s1,T,il,rd,hb,rfl,hl⟩:=z1 hc1
 obtain⟨r',s1',T',il',rd',hb',rfl,hl'⟩:=z2 hc2
 have o1:=fun H=>g8j (fx:=fx) ft H
 have o2:=fun H=>g8j (fx:=fx) fu H
 have hfi:=e6z ft
 have hst:=fun H=>f1k (fx:=fx) (F:=FT) g9c _ hfi zzT H
 have hen:=fun H=>g0l (fx:=fx) (F:=FT) g9c _ hfi zzT H
 have hsa:=fun H=>g2w (fx:=fx) (F:=FT) H (ofP (tM T il s.length)).1 (ofP (tM T il s.length)).1 hfi
 obtain⟨d2,g2,h2,hd2⟩:∃ c f e,(ofP (tM T' il' (s++b0s).length)).2=Lex.dgD c f e:=by
  rcases f7s (tM T' il' (s++b0s).length)with⟨g,_⟩|⟨c,f,e,_,g⟩
  ·exact⟨_,_,_,g⟩
  ·exact⟨_,_,_,g⟩
 rcases f7s (tM T il s.length)with⟨hd1,_⟩|⟨d1,g1,h1,nd1,hd1⟩
 rotate_left
 ·rw[hd1]at o1
  rw[hd2]at o2
  have n3:(!decide (d1=0))=true:=by rw[decide_eq_false nd1];rfl
  generalize(ofP (tM T il s.length)).1=x at o1 hst hen hfi
  generalize(ofP (tM T' il' (s++b0s).length)).1=y at o2
  generalize nam x.ss zzT=nm1 at hst
  generalize nam x.es zzT=nm2 at hen
  repeat' (first|refine run ⟨?_⟩|refine ca (p1 _) ?_|refine And.intro hlen ?_|refine ca (p2 _) ?_|refine ca (o1 _) ?_|refine ca (o2 _) ?_|refine ca (hst _) ?_|refine ca (hen _) ?_|refine ca (hsp _) ?_|fail)
  exact rfl
 obtain⟨k1,k2,k3,i,k4,k5⟩:=h4p hd1
 have hmore:known (nS (ofP (tM T il s.length)).1) zzT=false->known (nE (ofP (tM T il s.length)).1) zzT=false->(ofP (tM T il s.length)).1.ss.length < 64->ofP (tM T' il' (s++b0s).length)=(a8n (ofP (tM T il s.length)).1,Lex.dgD 0 0 0):=fun q1 q2 q3=>by
   obtain⟨a,b,c,d,e,f,w1,w2,w3,w4⟩:=g2o rd rd' hb ((s++b0s).length:Int)
   rw[w4]at hl'⊢
   rw[k3]at q1 q2 q3⊢
   rw[f1l]at k2 k4 k5 q1 q2 q3⊢
   refine f9r k1 w1 w2 w3 om (by rw[Tp.b6l]at hl';exact hl') k2 (fun m=>?_) (fun m=>?_) q3 k4 k5
   ·rw[a3s.2 m]at q1;cases q1
   ·rw[a3s.2 m]at q2;cases q2
 clear k1 k2 k3 k4 k5 rd rd' z1 z2
 rw[hd1]at o1
 have hxl:(ofP (tM T il s.length)).1.ss.length<=140737488355328:=hfi.ss
 have hrefl:=e3g (ofP (tM T il s.length)).1
 rw[hrefl]at hsa
 clear hrefl hd1
 generalize(ofP (tM T il s.length)).1=x at o1 hst hen hfi hmore hxl hsa
 have hsl:(x.ss.map Nam.D).length=x.ss.length:=List.length_map ..
 cases q1:known (nS x) zzT with
 |true=>
  rw[hd2]at o2
  generalize(ofP (tM T' il' (s++b0s).length)).1=y at o2
  rw[q1]at hst
  generalize nam x.ss zzT=nm1 at hst
  generalize nam x.es zzT=nm2 at hen
  repeat' (first|refine run ⟨?_⟩|refine ca (p1 _) ?_|refine And.intro hlen ?_|refine ca (p2 _) ?_|refine ca (o1 _) ?_|refine ca (o2 _) ?_|refine ca (hst _) ?_|refine ca (hen _) ?_|refine ca (hsp _) ?_|fail)
  exact rfl
 |false=>
 cases q2:known (nE x) zzT with
 |true=>
  rw[hd2]at o2
  generalize(ofP (tM T' il' (s++b0s).length)).1=y at o2
  rw[q1]at hst
  rw[q2]at hen
  generalize nam x.ss zzT=nm1 at hst
  generalize nam x.es zzT=nm2 at hen
  repeat' (first|refine run ⟨?_⟩|refine ca (p1 _) ?_|refine And.intro hlen ?_|refine ca (p2 _) ?_|refine ca (o1 _) ?_|refine ca (o2 _) ?_|refine ca (hst _) ?_|refine ca (hen _) ?_|refine ca (hsp _) ?_|fail)
  exact rfl
 |false=>
 by_cases q3:x.ss.length < 64
 rotate_left
 ·rw[hd2]at o2
  generalize(ofP (tM T' il' (s++b0s).length)).1=y at o2
  rw[q1]at hst
  rw[q2]at hen
  have q4:((x.ss.map Nam.D).length:Int) ≥64:=om
  generalize nam x.ss zzT=nm1 at hst
  generalize nam x.es zzT=nm2 at hen
  repeat' (first|refine run ⟨?_⟩|refine ca (p1 _) ?_|refine And.intro hlen ?_|refine ca (p2 _) ?_|refine ca (o1 _) ?_|refine ca (o2 _) ?_|refine ca (hst _) ?_|refine ca (hen _) ?_|refine ca (hsp _) ?_|fail)
  exact rfl
 ·rw[hmore q1 q2 q3]at o2
  rw[q1]at hst
  rw[q2]at hen
  have q4:¬ ((x.ss.map Nam.D).length:Int) ≥64:=om
  have hal:((a8n x).ss.map Nam.D).length=x.ss.length+1:=by rw[List.length_map];show(x.ss++[_]).length=_;rw[List.length_append];rfl
  have hw:IntKind.i64.wrap (((x.ss.map Nam.D).length:Int)+1)=(((a8n x).ss.map Nam.D).length:Int):=by rw[a1k om];omega
  have q5:(!decide ((((a8n x).ss.map Nam.D).length:Int)=IntKind.i64.wrap (((x.ss.map Nam.D).length:Int)+1)))=false:=by rw[hw];simp
  have s1:0<=((x.ss.map Nam.D).length:Int):=om
  have s2:0<=((x.ss.map Nam.D).length:Int).toNat/\((x.ss.map Nam.D).length:Int).toNat<=((a8n x).ss.map Nam.D).length/\true=true:=⟨Nat.zero_le _,om,rfl⟩
  have s3:List.drop 0 (List.take ((x.ss.map Nam.D).length:Int).toNat ((a8n x).ss.map Nam.D))=x.ss.map Nam.D:=by
   rw[List.drop_zero,Int.toNat_natCast,show(a8n x).ss=x.ss++[zzN] from rfl,List.map_append,List.take_left]
  generalize nam x.ss zzT=nm1 at hst
  generalize nam x.es zzT=nm2 at hen
  repeat' (first|refine run ⟨?_⟩|refine ca (p1 _) ?_|refine And.intro hlen ?_|refine ca (p2 _) ?_|refine ca (o1 _) ?_|refine ca (o2 _) ?_|refine ca (hst _) ?_|refine ca (hen _) ?_|refine And.intro s1 ?_|refine And.intro s2 ?_|fail)
  rw[s3]
  repeat' (first|refine run ⟨?_⟩|refine ca (hsa _) ?_|refine ca (hsp _) ?_|fail)
  exact rfl
end
end Go.Vm.Ite
namespace Go.Proofs.YtocpgkeiakjicaaGreat
open Go Go.Vm Go.ChangeShapes Go.WideShapes Go.ChangeAt Go.RowKit Go.Vm.Ip
theorem d2d {H:Type} (W:World) (ds:List (DataW H)) (h1:ds.length=Tryz.f5.params.size) (h2:∀ (i:Nat) t x,Tryz.f5.params[i]? =some t->ds[i]? =some x->f2t Tryz.prog 8 t (dwD x)):∃ H',evF (pgW W) 5 ((ds.map dwD).map V.d) []=some (.d (.bool true),H'):=by
 have hp:Tryz.f5.params= #[9]:=Tryz.params5
 match ds,h1 with
 |[d0],_=>
  have hd0:=h2 0 9 d0 (by rw[hp];rfl) rfl
  obtain⟨s,e1,l1⟩:=f4p i1r.n hd0
  have hb:=rb
  exact⟨[],by rw[h8y];show evF _ 5 [.d (dwD d0)] []=_;rw[e1];exact Go.Vm.Ite.g5h s om []⟩
theorem c2p (os:Os) (started:os.Started) (H:Type) (enc:TypeId×Value->H) (F:Stop.Interp):
 ReturnsInHanded {} Tryz.checked os 5 .any ((OpenSpec.ofChange Rows.itemsMoreSpec).preRow enc Tryz.prog Tryz.f5 Rows.itemsMoreRow.domain false Rows.itemsMoreRow.laid) (((OpenSpec.ofChange Rows.itemsMoreSpec).at F).post enc Tryz.prog Tryz.f5 false true false false):=by
 refine returnsInHanded_of_row (C:=Tryz.checked) (s:=OpenSpec.ofChange Rows.itemsMoreSpec) own started kr Tryz.func5
   (witness_row_at (enc:=enc) (C:=Tryz.checked) false (World.laidAll Tryz.prog os []) #[.string ⟨#[]⟩] (World.laidAll_os _ _ _) kr kr kr
     (OpenSpec.preRow_of_cond 8 (x:=([.lit (.string [])],[],[])) kr kr (fun k hk=>by cases hk) kr (f5e os _))) ?_
 intro W base args ds gs before hval hW _ hcond hsz hL hsh _
 refine c6s (s:=Rows.itemsMoreSpec) (m:=8) (tb:=4) (pg:=pgW W) (tOk hsh) mixed laidOut rfl (fun ds h=>?_) (fun t ht=>?_) kr Tryz.underlying4 hval hW h0m hsz (fun h1 h2=>d2d W ds h1 h2)
 ·match ds,h with
  |[d0],_=>rfl
 ·rw[Tryz.params5]at ht
  simp only[List.mem_cons,List.not_mem_nil,or_false]at ht
  subst ht
  ·exact⟨⟨kr,of_decide_eq_true kr⟩,kr⟩
theorem itemsMore_holds:Rows.ItemsMoreSaid:=
 OpenClaim.holds_of_cond 5 Tryz.f5 rfl rfl rfl rfl rfl rfl rfl ⟨rfl,rfl,rfl,rfl,rfl⟩ rfl rfl rfl rfl rfl kr Tryz.func5 kr
   (of_decide_eq_true kr) (by unfold Func.isWrapper;first|(rw[if_pos (by decide+kernel)];kernel_rfl)|(rw[if_neg (by decide+kernel)];exact⟨rfl,rfl⟩))
   (fun os started H enc _ F=>by rw[OpenClaim.pre_eq_preRow];exact c2p os started H enc F)
end Go.Proofs.YtocpgkeiakjicaaGreat
