import Derived.Test.YtkkigemmoecldaaGreatDoorPbH
set_option maxRecDepth 100000
set_option maxHeartbeats 0
set_option linter.unusedVariables false
set_option linter.unusedSimpArgs false
namespace Go.Vm.Pa
open Go.Vm.Lex (TokQ bF)
def md:D->D
 | .agg [a,b,c,d,_,_]=> .agg [a,b,c,d]
 |x=>x
structure VZ (l l':List TokQ):Prop where
 len:l.length=l'.length
 eq:∀ i,(l.getD i default).k=(l'.getD i default).k/\(l.getD i default).t=(l'.getD i default).t/\(l.getD i default).v=(l'.getD i default).v
structure BR (s s':PS):Prop where
 at_:s.at_=s'.at_
 deep:s.deep=s'.deep
 n:s.n=s'.n
 ns:s.ns.map md=s'.ns.map md
def ExEq:Option EX->Option EX->Prop
 |none,none=>True
 |some (.ok r s),some (.ok r' s')=>r=r'/\BR s s'
 |some (.bad c _ _),some (.bad c' _ _)=>c=c'
 |_,_=>False
section
variable {l l':List TokQ} {s s':PS} (T:VZ l l') (h:BR s s')
include T h
theorem yi:(now l s).k=(now l' s').k/\(now l s).t=(now l' s').t/\(now l s).v=(now l' s').v:=by
 unfold now;rw[h.at_];exact T.eq _
theorem Dt (x:S):dj l s x=dj l' s' x:=by
 obtain⟨h1,h2,_⟩:=yi T h;unfold dj;rw[h1,h2]
theorem ok_eq:fb l s=fb l' s':=by unfold fb;rw[h.at_,T.len]
theorem any_eq (xs:List S):anyS l s xs=anyS l' s' xs:=by
 unfold anyS;rw[show dj l s=dj l' s' from funext (Dt T h)]
theorem S4 (c:Int):dP l c s=dP l' c s':=by
 unfold dP;rw[(yi T h).1,any_eq T h,any_eq T h,any_eq T h,Dt T h]
theorem sign_eq (hb:s.bc=s'.bc) (r:Int):nB l r s=nB l' r s':=by
 unfold nB;rw[show(fun x=>okB s && dj l s x)=(fun x=>okB s' && dj l' s' x)from funext fun x=>by rw[Dt T h x];unfold okB;rw[hb]]
theorem UI {fr:Int} (n:N):match fA l fr n s,fA l' fr n s' with
 |some (i,s1),some (i',s1')=>i=i'/\BR s1 s1'/\s1.bc=s.bc/\s1'.bc=s'.bc
 |none,none=>True
 |_,_=>False:=by
 have hl:s.ns.length=s'.ns.length:=by have:=aG List.length h.ns;simpa using this
 have hf:∀ x,okF l x=okF l' x:=fun x=>by unfold okF;rw[T.len]
 unfold fA;rw[hl,h.n,h.at_,hf,hf];by_cases c:s'.ns.length=s'.n/\s'.n < 1000000/\okF l' fr=true/\(fr < s'.at_->okF l' (w (s'.at_ - 1))=true)
 ·rw[ay c,ay c];refine⟨rfl,⟨rfl,h.deep,rfl,?_⟩,rfl,rfl⟩;show(s.ns++[_]).map md=(s'.ns++[_]).map md;rw[aM,aM,h.ns];rfl
 ·rw[aA c,aA c];trivial
theorem unit_eq:match ly l s,ly l' s' with
 |some (i,s1),some (i',s1')=>i=i'/\BR s1 s1'/\s1.bc=s.bc/\s1'.bc=s'.bc
 |none,none=>True
 |_,_=>False:=by
 have hl:s.ns.length=s'.ns.length:=by have:=aG List.length h.ns;simpa using this
 have hf:∀ x,okF l x=okF l' x:=fun x=>by unfold okF;rw[T.len]
 unfold ly;rw[hl,h.n,h.at_,hf];by_cases c:s'.ns.length=s'.n/\s'.n < 1000000/\okF l' (w (s'.at_ - 1))=true
 ·rw[ay c,ay c];refine⟨rfl,⟨rfl,h.deep,rfl,?_⟩,rfl,rfl⟩;show(s.ns++[_]).map md=(s'.ns++[_]).map md;rw[aM,aM,h.ns];rfl
 ·rw[aA c,aA c];trivial
end
theorem BQ {s s':PS} (h:BR s s'):BR (dI s) (dI s'):=⟨by show w (s.at_+1)=w (s'.at_+1);rw[h.at_],h.deep,h.n,h.ns⟩
theorem VE {s s':PS} (h:BR s s'):BR (down s) (down s'):=⟨h.at_,by show w (s.deep - 1)=w (s'.deep - 1);rw[h.deep],h.n,h.ns⟩
theorem Vd {s s':PS} (h:BR s s'):BR (jf s) (jf s'):=⟨h.at_,by show w (s.deep+1)=w (s'.deep+1);rw[h.deep],h.n,h.ns⟩
section
variable {l l':List TokQ} (T:VZ l l')
include T
structure StZ (s s':PS):Prop where
 eq:BR s s'
 b:s.bc=0
 b':s'.bc=0
def b1e:Option EX->Option EX->Prop
 |none,none=>True
 |some (.ok r s),some (.ok r' s')=>r=r'/\StZ s s'
 |some (.bad c _ _),some (.bad c' _ _)=>c=c'
 |_,_=>False
omit T in
theorem xn {l l':List TokQ} {s s':PS} (c:Int):b1e (BM l c s) (BM l' c s'):=rfl
theorem ZE {g g':Q->PS->Option EX} (hg:∀ q s s',StZ s s'->b1e (g q s) (g' q s')):∀ (p:Pr) (s s':PS),StZ s s'->b1e (aF l g p s) (aF l' g' p s'):=by
 intro p;induction p with
 |ret r=>intro s s' h;exact⟨rfl,h⟩
 |dead=>intro s s' h;trivial
 |tail q=>intro s s' h;exact hg q s s' h
 |fail k ih=>intro s s' h;exact xn _
 |take x k ih=>
  intro s s' h;simp only[aF];rw[Dt T h.eq x];cases dj l' s' x with
  |true=>exact ih _ _ _ ⟨BQ h.eq,h.b,h.b'⟩
  |false=>exact ih _ _ _ h
 |need x k ih=>
  intro s s' h;simp only[aF];rw[Dt T h.eq x];cases dj l' s' x with
  |true=>exact ih _ _ ⟨BQ h.eq,h.b,h.b'⟩
  |false=>exact xn _
 |name k ih=>
  intro s s' h;obtain⟨h1,h2,h3⟩:=yi T h.eq;simp only[aF];rw[h1,h2];cases decide ((now l' s').k=1)with
  |true=>exact ih _ _ _ ⟨BQ h.eq,h.b,h.b'⟩
  |false=>exact xn _
 |is x k ih=>intro s s' h;simp only[aF];rw[Dt T h.eq x];exact ih _ _ _ h
 |ok k ih=>intro s s' h;exact ih _ _ _ h
 |kind c k ih=>intro s s' h;simp only[aF];rw[(yi T h.eq).1];exact ih _ _ _ h
 |text c k ih=>intro s s' h;simp only[aF];rw[(yi T h.eq).2.1];exact ih _ _ _ h
 |val k ih=>intro s s' h;simp only[aF];rw[(yi T h.eq).2.2];exact ih _ _ _ h
 |sign c k ih=>intro s s' h;simp only[aF];rw[sign_eq T h.eq (h.b.trans h.b'.symm)];exact ih _ _ _ h
 |pos k ih=>intro s s' h;simp only[aF];rw[h.eq.at_];exact ih _ _ _ h
 |down k ih=>intro s s' h;exact ih _ _ ⟨VE h.eq,h.b,h.b'⟩
 |dI k ih=>
  intro s s' h;simp only[aF];rw[ok_eq T (BQ h.eq)];cases fb l' (dI s')with
  |true=>exact ih _ _ ⟨BQ h.eq,h.b,h.b'⟩
  |false=>trivial
 |into c k ih=>
  intro s s' h;simp only[aF];rw[S4 T h.eq,h.eq.deep];cases dP l' c s' with
  |true=>
   cases decide (100<=s'.deep)with
   |true=>exact xn _
   |false=>exact ih _ _ _ ⟨Vd h.eq,h.b,h.b'⟩
  |false=>exact xn _
 |node fr n k ih=>
  intro s s' h;have hn:=UI T h.eq (fr:=fr) n;simp only[aF];revert hn;cases fA l fr n s with
  |none=>
   cases fA l' fr n s' with
   |none=>intro _;trivial
   |some y=>intro hn;exact hn.elim
  |some x=>
   cases fA l' fr n s' with
   |none=>intro hn;exact hn.elim
   |some y=>
    obtain⟨i,s1⟩:=x;obtain⟨i',s1'⟩:=y;rintro⟨rfl,h1,h2,h3⟩;exact ih _ _ _ ⟨h1,h2.trans h.b,h3.trans h.b'⟩
 |unit k ih=>
  intro s s' h;have hn:=unit_eq T h.eq;simp only[aF];revert hn;cases ly l s with
  |none=>
   cases ly l' s' with
   |none=>intro _;trivial
   |some y=>intro hn;exact hn.elim
  |some x=>
   cases ly l' s' with
   |none=>intro hn;exact hn.elim
   |some y=>
    obtain⟨i,s1⟩:=x;obtain⟨i',s1'⟩:=y;rintro⟨rfl,h1,h2,h3⟩;exact ih _ _ _ ⟨h1,h2.trans h.b,h3.trans h.b'⟩
 |call q k ih=>
  intro s s' h;have hn:=hg q s s' h;simp only[aF];revert hn;cases g q s with
  |none=>
   cases g' q s' with
   |none=>intro _;trivial
   |some y=>intro hn;exact hn.elim
  |some x=>
   cases g' q s' with
   |none=>intro hn;cases x<;>exact hn.elim
   |some y=>
    cases x with
    |bad c f e=>cases y with
     |bad c' f' e'=>intro hn;exact hn
     |ok r1 s1=>intro hn;exact hn.elim
    |ok r1 s1=>cases y with
     |bad c' f' e'=>intro hn;exact hn.elim
     |ok r2 s2=>
      rintro⟨rfl,h1⟩;simp only;rw[ok_eq T h1.eq];cases fb l' s2 with
      |true=>exact ih _ _ _ h1
      |false=>trivial
theorem eq_go:∀ (n:Nat) (q:Q) (s s':PS),StZ s s'->b1e (cM l n q s) (cM l' n q s')
 |0,_,_,_,_=>trivial
 |n+1,q,s,s',h=>ZE T (fun q s s' h=>eq_go n q s s' h) (prog q) s s' h
theorem a8u (n:Nat):b1e (CR l n) (CR l' n):=by
 have h:=eq_go T n (.items K.o) S0 S0 ⟨⟨rfl,rfl,rfl,rfl⟩,rfl,rfl⟩;unfold CR;revert h;cases cM l n (.items K.o) S0 with
 |none=>
  cases cM l' n (.items K.o) S0 with
  |none=>intro _;trivial
  |some y=>intro hn;exact hn.elim
 |some x=>
  cases cM l' n (.items K.o) S0 with
  |none=>intro hn;cases x<;>exact hn.elim
  |some y=>
   cases x with
   |bad c f e=>cases y with
    |bad c' f' e'=>intro hn;exact hn
    |ok r1 s1=>intro hn;exact hn.elim
   |ok r1 s1=>cases y with
    |bad c' f' e'=>intro hn;exact hn.elim
    |ok r2 s2=>
     rintro⟨rfl,h1⟩;have hl:s1.ns.length=s2.ns.length:=by have:=aG List.length h1.eq.ns;simpa using this
     simp only[oe];rw[ok_eq T h1.eq,hl,h1.eq.n];split
     ·refine⟨rfl,⟨⟨h1.eq.at_,h1.eq.deep,rfl,?_⟩,h1.b,h1.b'⟩⟩;show(s1.ns++[_]).map md=(s2.ns++[_]).map md;rw[aM,aM,h1.eq.ns];rfl
     ·trivial
end
end Go.Vm.Pa
namespace Go.Vm.Pa
open Go.Vm.Lex (TokQ bF toks Ae fj bj jY pR Good Shape Behind Af after Dg IG)
def TkE (a b:TokQ):Prop:=a.k=b.k/\a.t=b.t/\a.v=b.v
inductive a3f:List TokQ->List TokQ->Prop
 |nil:a3f [] []
 |cons {a b:TokQ} {x y:List TokQ}:TkE a b->a3f x y->a3f (a::x) (b::y)
theorem a3f.eq {x y:List TokQ} (h:a3f x y):VZ x y:=by
 induction h with
 |nil=>exact⟨rfl,fun i=>by simp⟩
 |cons h1 _ ih=>
  refine⟨by simp[ih.len],fun i=>?_⟩;cases i with
  |zero=>exact h1
  |succ i=>exact ih.eq i
end Go.Vm.Pa
namespace Go.Vm.Pa
open Go.Vm.Lex (TokQ dZ Like bF)
structure Gx (x:dZ):Prop where
 good:Lex.Good x.k x.t x.v
 z:x.k≠3->x.v=0
def zt (x:dZ):TokQ:=⟨x.k,x.t,x.v,0,0⟩
abbrev HO:dZ:=⟨5,[],0,0,0⟩
def zl (xs:List dZ):List TokQ:=(xs++[HO]).map zt
theorem OM (xs:List dZ):(zl xs).length=xs.length+1:=by simp[zl]
theorem ON {xs:List dZ} {j:Nat} {x:dZ} (h:(xs++[HO])[j]? =some x):(zl xs).getD j default=⟨x.k,x.t,x.v,0,0⟩:=by
 rw[av,zl,bE,h];rfl
theorem a3k {xs:List dZ} (h:xs.length<=900000):Zl (zl xs):=by
 refine⟨by rw[OM];omega,fun j=>?_⟩;cases hx:(xs++[HO])[j]? with
 |none=>rw[av,zl,bE,hx];exact⟨rfl,rfl⟩
 |some x=>rw[ON hx];exact⟨rfl,rfl⟩
theorem RM {l:List TokQ}:∀ (ys:List dZ) (i:Nat),i+ys.length<=l.length->(∀ (j:Nat) (x:dZ),ys[j]? =some x->l.getD (i+j) default=⟨x.k,x.t,x.v,0,0⟩)->Has l i ys
 |[],_,_,_=>trivial
 |y::ys,i,hl,h=>by
  simp only[aw]at hl;refine⟨⟨h 0 y rfl,om⟩,RM ys (i+1) om fun j x hj=>?_⟩;have:=h (j+1) x (by simpa using hj);rwa [show i+1+j=i+(j+1)by omega]
theorem Zm (xs:List dZ):Has (zl xs) 0 (xs++[HO]):=
 RM _ _ (by rw[OM];simp) fun j x hj=>by rw[bt];exact ON hj
theorem a3j {ts:List TokQ} {xs:List dZ} {q:Nat} (h:Like ts xs) (g:∀ x∈xs,Gx x):VZ (ts++[⟨5,[],0,q,q⟩]) (zl xs):=by
 refine a3f.eq ?_;unfold zl;induction h with
 |nil=>exact .cons ⟨rfl,rfl,rfl⟩ .nil
 |cons h1 _ ih=>
  rename_i t x ts xs _;refine .cons ⟨h1.1,h1.2.1,?_⟩ (ih fun y hy=>g y (bI _ hy));rw[h1.2.2];show _=x.v;split
  ·rfl
  ·rename_i hk;exact((g x (bL ..)).z hk).symm
theorem a5x {c:Cl} {xs:List dZ} {W:Fo} (h:Rd c xs W):W.sz<=2*xs.length:=by
 induction h
 all_goals(try simp only[Fo.sz,Fo.eF,ah,aw,aH]at*)<;>omega
section
variable {l:List TokQ} {xs:List dZ} {K:Fo}
theorem Kr (Z:Zl l) (H:Has l 0 (xs++[HO])) (h:Rd (.sq .it) xs K) (hN:K.sz < 1000000):Runs l (prog (.items Pa.K.o)) (mkS 0 0 []) fun r s'=>r.ks.l=K.idx 0/\Kk r.ks K.sz/\s'=mkS xs.length 0 (K.lay 0):=by
  have hs:=Ue Z h;refine hs Pa.K.o 0 0 [] HO [] _ (aR _) H (by simpa using hN) NP fun ks' k1 k2 H2=>?_;refine mu (AE (b:=true) H2 rfl (ig ⟨?_,?_,?_⟩))
  ·simpa [Pa.K.o] using k1
  ·simpa using k2
  ·simp
theorem Oi {r:R} {s1:PS} (c:(fb l s1 && jM r.ks && decide (s1.ns.length=s1.n) && decide (s1.n < 1000000))=true):oe l (some (.ok r s1))=some (.ok (rI (w (((s1.n+1:Nat):Int) - 1))) {s1 with n:=s1.n+1,ns:=s1.ns++[N.D ⟨1,[],0,r.ks.l⟩ 0 (now l s1).e]}):=by
 simp only[oe];rw[c]
theorem Ia (Z:Zl l) (H:Has l 0 (xs++[HO])) (h:Rd (.sq .it) xs K) (hN:K.sz < 999999):∃ N,(∃ i s',CR l N=some (.ok (rI i) s')/\s'.at_=xs.length/\s'.ns=(tr 1 [] 0 K).lay 0)\/∃ f e,CR l N=some (.bad 121 f e):=by
 obtain⟨M,hr⟩:=Kr Z H h om;have H2:=Has.drop (ys:=[HO]) H;rw[bt]at H2;rcases hr with⟨r,s',e,h1,h2,rfl⟩|⟨f,e,h1⟩
 ·refine⟨M+1,.inl ⟨w (((K.sz+1:Nat):Int) - 1),{mkS xs.length 0 (K.lay 0)with n:=K.sz+1,ns:=K.lay 0++[N.D ⟨1,[],0,r.ks.l⟩ 0 (now l (mkS xs.length 0 (K.lay 0))).e]},?_,rfl,?_⟩⟩
  ·have e2:cM l (M+1) (.items Pa.K.o) S0=some (.ok r (mkS xs.length 0 (K.lay 0))):=e;have hn:(mkS xs.length 0 (K.lay 0)).n=K.sz:=Fo.cH _ _;have c:(fb l (mkS xs.length 0 (K.lay 0)) && jM r.ks && decide ((mkS xs.length 0 (K.lay 0)).ns.length=(mkS xs.length 0 (K.lay 0)).n) && decide ((mkS xs.length 0 (K.lay 0)).n < 1000000))=true:=by
    rw[yg H2.1.2,lC h2 om,au rfl,hn,au om];rfl
   rw[show CR l (M+1)=oe l (cM l (M+1) (.items Pa.K.o) S0)from rfl,e2,Oi c,hn]
  ·have hz:(now l (mkS xs.length 0 (K.lay 0))).e=0:=by rw[JM H2]
   rw[hz,h1];rfl
 ·have e2:cM l (M+1) (.items Pa.K.o) S0=some (.bad 121 f e):=h1;exact⟨M+1,.inr ⟨f,e,by simp only[CR,e2,oe]⟩⟩
end
end Go.Vm.Pa
namespace Go.Vm.Tp
def iw (i:Nat):List Int->List Int->Option (List Int)
 |[],out=>some out
 |k::r,out=>if 0<=out.getD k.toNat 0 then none else iw i r (out.set k.toNat i)
def j9:Nat->List Nd->List Int->Option (List Int)
 |_,[],out=>some out
 |i,x::r,out=>(iw i x.kids out).bind (j9 (i+1) r)
def ups (t:List Nd):Option (List Int):=j9 0 t (List.replicate t.length (-1))
def xB (up:List Int):Nat->List Int->List Int
 |0,out=>out
 |n+1,out=>xB up n (if 0<=up.getD n (-1) then out.set n (out.getD (up.getD n 0).toNat 0+1) else out)
def deps (up:List Int):List Int:=xB up up.length (List.replicate up.length 0)
def vT:List Int->Int
 |[]=>0
 |a::r=>r.foldl max a
def F2 (t:List Nd):Bool:=match ups t with
 |none=>false
 |some up=>(decide (up=[])|| !up.dropLast.contains (-1)) && decide (vT (deps up)<=400)
def iV (t:List Nd):Bool:=decide (1<=t.length) && decide (t.length<=20000) && decide ((t.getD (t.length - 1) default).k=1) && (List.range t.length).all (je t) && F2 t
def a8r:Bool->Int
 |true=>0
 |false=>3
theorem vz (i:Nat):∀ (ks out r:List Int),iw i ks out=some r->r.length=out.length
 |[],out,r,h=>by cases h;rfl
 |k::ks,out,r,h=>by
  simp only[iw]at h;split at h
  ·cases h
  ·rw[vz i ks _ r h,cX]
theorem CK:∀ (i:Nat) (t:List Nd) (out r:List Int),j9 i t out=some r->r.length=out.length
 |i,[],out,r,h=>by cases h;rfl
 |i,x::t,out,r,h=>by
  simp only[j9]at h;obtain⟨o,h1,h2⟩:=bY.1 h;rw[CK (i+1) t o r h2,vz i _ _ _ h1]
theorem zY (i:Nat) (P:Nat->Int->Prop) (hP:∀ j,P j i):∀ (ks out r:List Int),iw i ks out=some r->(∀ (j:Nat) (v:Int),out[j]? =some v->P j v)->∀ (j:Nat) (v:Int),r[j]? =some v->P j v
 |[],out,r,h,h0=>by cases h;exact h0
 |k::ks,out,r,h,h0=>by
  simp only[iw]at h;split at h
  ·cases h
  ·refine zY i P hP ks _ r h fun j v hv=>?_;rw[fG]at hv;split at hv
   ·split at hv
    ·cases hv;exact hP j
    ·cases hv
   ·exact h0 j v hv
theorem CI (n:Nat):∀ (i:Nat) (t:List Nd) (out r:List Int),j9 i t out=some r->i+t.length<=n->(∀ (j:Nat) (v:Int),out[j]? =some v-> -1<=v/\v < n)->∀ (j:Nat) (v:Int),r[j]? =some v-> -1<=v/\v < n
 |i,[],out,r,h,_,h0=>by cases h;exact h0
 |i,x::t,out,r,h,hn,h0=>by
  simp only[j9]at h;obtain⟨o,h1,h2⟩:=bY.1 h;simp only[aw]at hn;exact CI n (i+1) t o r h2 om (zY i (fun _ v=> -1<=v/\v < n) (fun _=>om) _ _ _ h1 h0)
theorem ui {t:List Nd} {up:List Int} (h:ups t=some up):up.length=t.length/\∀ (j:Nat) (v:Int),up[j]? =some v-> -1<=v/\v < t.length:=by
 refine⟨by rw[CK _ _ _ _ h,jy],CI t.length 0 t _ up h om fun j v hv=>?_⟩;rw[iG]at hv;split at hv
 ·cases hv;omega
 ·cases hv
theorem yE (up:List Int):∀ (n:Nat) (out:List Int),(xB up n out).length=out.length
 |0,out=>rfl
 |n+1,out=>by
  simp only[xB];rw[yE up n];split<;>simp
end Go.Vm.Tp
namespace Go.Vm.Tp
open Go.Vm.Lex
abbrev dM:=List (List UInt8)
def gw (N:Int->dM):List Int->dM
 |[]=>[]
 |k::r=>N k++r.flatMap fun k=>[44]::N k
def An (k:Int) (get:Bool):Bool:=(decide (30<=k) && decide (k<=34))||decide (k=37)||decide (k=44)||(get && decide (k=41))
def dm (t:List Nd) (N:Int->dM) (k:Int) (get:Bool):dM:=if An (bT t k) get=true then N k else[[40]]++N k++[[41]]
def mM (N:Int->dM):List Int->dM
 |[]=>[]
 |k::_=>[[40]]++N k++[[41]]
abbrev kid (x:Nd) (i:Nat):Int:=x.kids.getD i 0
def WT (t:List Nd) (N:Int->dM) (x:Nd):dM:=
 [[102,110],x.t,[40]]++gw N (x.kids.take x.v.toNat)++[[41]]++(if bT t (kid x x.v.toNat)=12 then[] else[[45,62]]++N (kid x x.v.toNat))++N (kid x (x.v.toNat+1))
def tG (t:List Nd) (N:Int->dM) (x:Nd):dM:=
 if x.k=1 then x.kids.flatMap N
 else if x.k=2 then WT t N x
 else if x.k=3 then[[115,116,114,117,99,116],x.t,[123]]++gw N x.kids++[[125]]
 else if x.k=4 then[[101,110,117,109],x.t,[123]]++gw N x.kids++[[125]]
 else if x.k=6 then[x.t]++mM N x.kids
 else if x.k=7 then(if x.v=1 then[[109,117,116]] else[])++[x.t,[58]]++N (kid x 0)
 else if x.k=5 then[x.t,[58]]++N (kid x 0)
 else[]
def Aa (N:Int->dM) (x:Nd):dM:=
 if x.k=10 then[[105,54,52]]
 else if x.k=11 then[[98,111,111,108]]
 else if x.k=12 then[[40],[41]]
 else if x.k=13 then[x.t]
 else if x.k=14 then[[38]]++N (kid x 0)
 else if x.k=15 then[[38],[109,117,116]]++N (kid x 0)
 else if x.k=16 then[[66,111,120],[60]]++N (kid x 0)++[[62]]
 else[]
def Rk (N:Int->dM) (x:Nd):dM:=
 [[108,101,116]]++(if x.v=1 then[[109,117,116]] else[])++[x.t]++(if x.kids.length=2 then[[58]]++N (kid x 0) else[])++[[61]]++N (kid x (x.kids.length - 1))++[[59]]
def sX (t:List Nd) (N:Int->dM) (x:Nd):dM:=
 if x.k=21 then Rk N x
 else if x.k=22 then N (kid x 0)++[[59]]
 else if x.k=23 then dm t N (kid x 0) false++[[61]]++dm t N (kid x 1) false++[[59]]
 else if x.k=24 then[[119,104,105,108,101]]++dm t N (kid x 0) false++N (kid x 1)
 else if x.k=25 then[[114,101,116,117,114,110]]++x.kids.flatMap N++[[59]]
 else if x.k=26 then[[98,114,101,97,107],[59]]
 else if x.k=27 then[[99,111,110,116,105,110,117,101],[59]]
 else[]
def sy (t:List Nd) (N:Int->dM) (x:Nd):dM:=
 if x.k=38 then dm t N (kid x 0) false++[x.t]++dm t N (kid x 1) false
 else if x.k=39 then[[45]]++dm t N (kid x 0) false
 else if x.k=40 then[[33]]++dm t N (kid x 0) false
 else if x.k=42 then[[42]]++dm t N (kid x 0) false
 else if x.k=43 then(if x.v=1 then[[38],[109,117,116]] else[[38]])++dm t N (kid x 0) false
 else if x.k=41 then dm t N (kid x 0) true++[[46],x.t]
 else if x.k=45 then[[105,102]]++dm t N (kid x 0) false++N (kid x 1)++(if x.kids.length=3 then[[101,108,115,101]]++N (kid x 2) else[])
 else if x.k=46 then[[109,97,116,99,104]]++dm t N (kid x 0) false++[[123]]++gw N (x.kids.drop 1)++[[125]]
 else[]
def Ez (v:Int):dM:=(if v < 0 then[[45]] else[])++[Lib.itoa (if v < 0 then -v else v)]
def Cf (v:Int):dM:=[if v=1 then[116,114,117,101] else[102,97,108,115,101]]
def AV (s:List UInt8):dM:=[(fV s).1,[58,58],(fV s).2.1]
def kL (N:Int->dM) (x:Nd):dM:=
 if x.k=30\/x.k=52 then Ez x.v
 else if x.k=31\/x.k=53 then Cf x.v
 else if x.k=32 then[[40],[41]]
 else if x.k=33\/x.k=51 then[x.t]
 else if x.k=50 then[[95]]
 else if x.k=34 then[x.t,[40]]++gw N x.kids++[[41]]
 else if x.k=35 then[x.t,[123]]++gw N x.kids++[[125]]
 else if x.k=36 then[x.t,[58]]++N (kid x 0)
 else if x.k=37\/x.k=54 then AV x.t++mM N x.kids
 else if x.k=44 then[[66,111,120],[58,58],[110,101,119]]++mM N x.kids
 else if x.k=47 then N (kid x 0)++[[61,62]]++N (kid x 1)
 else[]
def cG (t:List Nd) (N:Int->dM) (x:Nd):dM:=
 if x.k=20 then[[123]]++x.kids.flatMap N++[[125]]
 else if x.k<=7 then tG t N x
 else if nR x.k=true then Aa N x
 else if pf x.k=true then sX t N x
 else if(38<=x.k/\x.k<=43)\/x.k=45\/x.k=46 then sy t N x
 else kL N x
def zB (t:List Nd):Nat->Nat->dM
 |0,_=>[]
 |f+1,n=>cG t (fun k=>zB t f k.toNat) (t.getD n default)
def IK (t:List Nd):dM:=zB t t.length (t.length - 1)
def minS:List UInt8->Nat
 |[]=>0
 |[_]=>1
 |c::d::s=>if c=63 then minS s else minS (d::s)+1
def maxS:List UInt8->Nat
 |[]=>0
 |[_]=>1
 |c::d::s=>if c=63 then maxS s+1 else maxS (d::s)+1
theorem uO:∀ (s:List UInt8) (l:List Int),bx s l=true->minS s<=l.length/\l.length<=maxS s
 |[],l,h=>by simp[bx]at h;subst h;simp[minS,maxS]
 |[c],l,h=>by
  cases l with
  |nil=>simp[bx]at h
  |cons a r=>simp[bx]at h;obtain⟨_,rfl⟩:=h;simp[minS,maxS]
 |c::d::s,l,h=>by
  simp only[bx]at h;simp only[minS,maxS];split at h
  ·rename_i hc;rw[ay hc,ay hc];rw[bg]at h;rcases h with h|h
   ·cases l with
    |nil=>cases h
    |cons a r=>
     simp only[ab]at h;have:=uO s r h.2;simp only[aw];omega
   ·have:=uO s l h;omega
  ·rename_i hc;rw[aA hc,aA hc];cases l with
   |nil=>cases h
   |cons a r=>
    simp only[ab]at h;have:=uO (d::s) r h.2;simp only[aw];omega
def WI (k:Int) (n:Nat):Prop:=
 (k=2->2<=n)/\(k=5\/k=7\/k=14\/k=15\/k=16\/k=22\/k=36\/k=41\/k=39\/k=40\/k=42\/k=44\/k=43->n=1)/\(k=6\/k=25\/k=37\/k=54->n<=1)/\(k=21->n=1\/n=2)/\(k=23\/k=38\/k=24\/k=47->n=2)/\(k=45->n=2\/n=3)/\(k=46->1<=n)
theorem RW {k v:Int} {ks:List Int} (h:fP k v ks=true):WI k ks.length:=by
 have one:∀ a,lN k v=(a,none,[])->minS a<=ks.length/\ks.length<=maxS a:=by
  intro a ha;unfold fP at h;rw[ha]at h;exact uO a ks h
 have many:∀ a c b,lN k v=(a,some c,b)->a.length+b.length<=ks.length:=by
  intro a c b ha;unfold fP at h;rw[ha]at h;simp only[ab,an]at h;exact h.1
 refine⟨?_,?_,?_,?_,?_,?_,?_⟩
 ·rintro rfl;exact many [] 113 [116,98] rfl
 ·rintro(rfl|rfl|rfl|rfl|rfl|rfl|rfl|rfl|rfl|rfl|rfl|rfl|rfl)
  all_goals first
    |(have:=one [116] rfl;simp[minS,maxS]at this;omega)
    |(have:=one [101] rfl;simp[minS,maxS]at this;omega)
 ·rintro(rfl|rfl|rfl|rfl)
  ·have:=one [63,116] rfl;simp[minS,maxS]at this;omega
  ·have:=one [63,101] rfl;simp[minS,maxS]at this;omega
  ·have:=one [63,101] rfl;simp[minS,maxS]at this;omega
  ·have:=one [63,112] rfl;simp[minS,maxS]at this;omega
 ·rintro rfl;have:=one [63,116,101] rfl;simp[minS,maxS]at this;omega
 ·rintro(rfl|rfl|rfl|rfl)
  ·have:=one [101,101] rfl;simp[minS,maxS]at this;omega
  ·have:=one [101,101] rfl;simp[minS,maxS]at this;omega
  ·have:=one [101,98] rfl;simp[minS,maxS]at this;omega
  ·have:=one [112,101] rfl;simp[minS,maxS]at this;omega
 ·rintro rfl;have:=one [101,98,63,111] rfl;simp[minS,maxS]at this;omega
 ·rintro rfl;exact many [101] 97 [] rfl
end Go.Vm.Tp
namespace Go.Vm.Pa
open Go.Vm.Lex (TokQ dZ de)
open Go.Vm.Tp (Nd dM gw dm mM cG zB bT kinds je ey vM gd bx dE nR pf qm rV An params)
def kR (c:Cl) (T:dM) (W:Fo):Prop:=∃ xs,Rd c xs W/\xs.map (·.t)=T/\∀ x∈xs,Gx x
section
variable {x:dZ} {l l':List dZ} {t:S} {v:Int}
theorem gn:∀ y∈([]:List dZ),Gx y:=fun y h=>by cases h
theorem gc (h:Gx x) (g:∀ y∈l,Gx y):∀ y∈x::l,Gx y:=List.forall_mem_cons.2 ⟨h,g⟩
theorem ga (h:∀ y∈l,Gx y) (g:∀ y∈l',Gx y):∀ y∈l++l',Gx y:=fun y hy=>(cd.1 hy).elim (h y) (g y)
theorem gS (h:Lex.fP 4 t 0=true):Gx (sg t):=⟨Lex.zG h (show(4:Int)≠5 by decide) (show(0:Int)<=_ by decide),fun _=>rfl⟩
theorem gW (h:Lex.fP 2 t 0=true):Gx (wd t):=⟨Lex.zG h (show(2:Int)≠5 by decide) (show(0:Int)<=_ by decide),fun _=>rfl⟩
theorem gN (h:de t=true):Gx (nm t):=⟨Lex.zG (k:=1) h (show(1:Int)≠5 by decide) (show(0:Int)<=_ by decide),fun _=>rfl⟩
theorem gU (h:0<=v) (h2:v<=9223372036854775807):Gx (nu v):=⟨Lex.zG (k:=3) (by show(decide (0<=v) && decide (Lib.itoa v=Lib.itoa v))=true;rw[au h,au rfl];rfl) (show(3:Int)≠5 by decide) h2,fun h=>absurd rfl h⟩
theorem gG (h:∀ y∈l,Gx y:=by repeat' (first|assumption|exact gn|refine gc ?_ ?_|refine ga ?_ ?_|exact gS rfl|exact gW rfl|exact gN rfl|(refine gN ?_;assumption)|fail)):∀ y∈l,Gx y:=h
end
def wg (k:Int):Cl:=
 if nR k then .ty else if rV k then .pa else if pf k then .st else if k=5 then .fd else if k=6 then .va else if k=7 then .pm else if k=36 then .ni else if k=47 then .ar
 else if k=2\/k=3\/k=4 then .it else if k=20 then .bl else if k=45 then .ci else if k=46 then .ma else if k=41 then .po else if An k false then .pr else .e0
def zL (N:Int->Fo):List Int->Fo
 |[]=> .nil
 |k::r=>(N k).app (zL N r)
def zN (t:List Nd):Nat->Nat->Fo
 |0,_=> .nil
 |f+1,n=>tr (t.getD n default).k (t.getD n default).t (t.getD n default).v (zL (fun k=>zN t f k.toNat) (t.getD n default).kids)
theorem zM (N:Int->Fo):∀ a b:List Int,zL N (a++b)=(zL N a).app (zL N b)
 |[],b=>rfl
 |k::r,b=>by simp only[al,zL,zM N r b,Fo.xK]
theorem fY (N:Int->Fo) (k:Int):zL N [k]=N k:=Fo.uX _
theorem vu (N:Int->Fo) (a b:Int):zL N [a,b]=(N a).app (N b):=by simp only[zL,Fo.uX]
theorem OQ (N:Int->Fo) (a b c:Int):zL N [a,b,c]=(N a).app ((N b).app (N c)):=by simp only[zL,Fo.uX]
theorem Fo.Hi (a b:Fo) (n:Nat):((a.app b).idx n).length=(a.idx n).length+(b.idx n).length:=by rw[Fo.iQ,ah,Fo.Hh b (n+a.sz) n]
theorem DQ {N:Int->Fo}:∀ {ks:List Int},(∀ k∈ks,((N k).idx 0).length=1)->((zL N ks).idx 0).length=ks.length
 |[],_=>rfl
 |k::r,h=>by
  have h1:=h k (bL ..);have h2:=DQ (N:=N) (ks:=r) fun j hj=>h j (bI _ hj);simp only[zL,Fo.Hi,aw];omega
section
variable {t:List Nd} {N:Int->dM} {M:Int->Fo} {c:Cl}
theorem P6:∀ {ks:List Int},(∀ k∈ks,kR c (N k) (M k))->kR (.ls c) (gw N ks) (zL M ks)
 |[],_=>⟨[],.ls0,rfl,gn⟩
 |[k],h=>by
  obtain⟨xs,r,e,g⟩:=h k (bL ..);rw[fY];exact⟨xs,.ls1 r,by simp[gw,e],g⟩
 |k::k2::q,h=>by
  obtain⟨xs,r,e,g⟩:=h k (bL ..);obtain⟨ys,r2,e2,g2⟩:=P6 (ks:=k2::q) fun j hj=>h j (bI _ hj);refine⟨xs++sg [44]::ys,.lsm r r2,?_,gG⟩;rw[aM,aB,e,e2];simp[gw]
theorem P3:∀ {ks:List Int},(∀ k∈ks,kR c (N k) (M k))->kR (.sq c) (ks.flatMap N) (zL M ks)
 |[],_=>⟨[],.sq0,rfl,gn⟩
 |k::q,h=>by
  obtain⟨xs,r,e,g⟩:=h k (bL ..);obtain⟨ys,r2,e2,g2⟩:=P3 (ks:=q) fun j hj=>h j (bI _ hj);exact⟨xs++ys,.sqm r r2,by rw[aM,e,e2];simp,gG⟩
theorem zc {k:Int} (h:nR k=true):wg k= .ty:=by unfold wg;rw[ay h]
theorem W4 {k:Int} (h:rV k=true):wg k= .pa:=by
 simp only[rV,ab,an]at h;have:k=50\/k=51\/k=52\/k=53\/k=54:=om;rcases this with rfl|rfl|rfl|rfl|rfl<;>rfl
theorem WZ {k:Int} (h:pf k=true):wg k= .st:=by
 simp only[pf,ab,an]at h;have:k=21\/k=22\/k=23\/k=24\/k=25\/k=26\/k=27:=om;rcases this with rfl|rfl|rfl|rfl|rfl|rfl|rfl<;>rfl
theorem xo {k:Int} (h:qm k=true):k=20\/k=30\/k=31\/k=32\/k=33\/k=34\/k=35\/k=37\/k=38\/k=39\/k=40\/k=41\/k=42\/k=43\/k=44\/k=45\/k=46:=by
 simp only[qm,bg,ab,dv,an,bX]at h;omega
theorem Ws {k:Int} {T:dM} {W:Fo} (hk:qm k=true) (h:kR (wg k) T W):kR .ex T W:=by
 obtain⟨xs,r,e,g⟩:=h;refine⟨xs,?_,e,g⟩;rcases xo hk with rfl|rfl|rfl|rfl|rfl|rfl|rfl|rfl|rfl|rfl|rfl|rfl|rfl|rfl|rfl|rfl|rfl
 all_goals first
   |exact .exB r
   |exact .exC r
   |exact .exM r
   |exact .exE r
   |exact .exE (.ofPo r)
   |exact .exE (.ofPo (.ofPr r))
theorem P4 {T:dM} {W:Fo} (h:kR .ex T W):kR .pr ([[40]]++T++[[41]]) W:=by
 obtain⟨xs,r,e,g⟩:=h;exact⟨sg [40]::(xs++[sg [41]]),.paren r,by simp[e],gG⟩
theorem P5 {a:Int} (hk:qm (bT t a)=true) (h:kR (wg (bT t a)) (N a) (M a)):kR .pr (dm t N a false) (M a):=by
 unfold dm;by_cases hs:An (bT t a) false=true
 ·rw[ay hs];have e:wg (bT t a)= .pr:=by
   generalize bT t a=k at hk hs;rcases xo hk with rfl|rfl|rfl|rfl|rfl|rfl|rfl|rfl|rfl|rfl|rfl|rfl|rfl|rfl|rfl|rfl|rfl
   all_goals first|rfl|exact absurd hs (by decide)
  rwa [e]at h
 ·rw[aA hs];exact P4 (Ws hk h)
theorem T7 {a:Int} (hk:qm (bT t a)=true) (h:kR (wg (bT t a)) (N a) (M a)):kR .po (dm t N a true) (M a):=by
 by_cases hs:bT t a=41
 ·have e:dm t N a true=N a:=by unfold dm;rw[hs];rfl
  rw[e];rw[hs]at h;exact h
 ·have e:dm t N a true=dm t N a false:=by
   unfold dm;rw[show An (bT t a) true=An (bT t a) false by unfold An;rw[ak hs];simp]
  rw[e];obtain⟨xs,r,e,g⟩:=P5 hk h;exact⟨xs,.ofPr r,e,g⟩
theorem dY {ks:List Int} (h:bx [] (kinds t ks)=true):ks=[]:=by
 have:=af (h:decide (kinds t ks=[])=true);exact List.map_eq_nil_iff.1 this
theorem eA {ks:List Int} {a:UInt8} (h:bx [a] (kinds t ks)=true):∃ x,ks=[x]/\dE a (bT t x)=true:=by
 cases ks with
 |nil=>cases h
 |cons x r=>
  have h:(dE a (bT t x) && decide (kinds t r=[]))=true:=h;rw[ab]at h;exact⟨x,by rw[List.map_eq_nil_iff.1 (af h.2)],h.1⟩
theorem jt {ks:List Int} {a b:UInt8} {s:S} (ha:a≠63) (h:bx (a::b::s) (kinds t ks)=true):∃ x r,ks=x::r/\dE a (bT t x)=true/\bx (b::s) (kinds t r)=true:=by
 cases ks with
 |nil=>simp only[bx,aA ha,kinds,bp]at h;cases h
 |cons x r=>
  simp only[bx,aA ha,kinds,aB,ab]at h;exact⟨x,r,rfl,h.1,h.2⟩
theorem qL {ks:List Int} {d:UInt8} {s:S} (h:bx (63::d::s) (kinds t ks)=true):bx s (kinds t ks)=true\/∃ x r,ks=x::r/\dE d (bT t x)=true/\bx s (kinds t r)=true:=by
 simp only[bx,cU,bg]at h;rcases h with h|h
 ·cases ks with
  |nil=>cases h
  |cons x r=>
   simp only[kinds,aB,ab]at h;exact .inr ⟨x,r,rfl,h.1,h.2⟩
 ·exact .inl h
theorem a7t {ks:List Int} {a:UInt8} (h:((kinds t ks).all (dE a))=true):∀ k∈ks,dE a (bT t k)=true:=fun k hk=>aC.1 h _ (e9.2 ⟨k,hk,rfl⟩)
theorem mR {a:S} {c:UInt8} {b:S} {ks:List Int} (h:(decide (a.length+b.length<=(kinds t ks).length) && (bx a ((kinds t ks).take a.length) && (((kinds t ks).take ((kinds t ks).length - b.length)).drop a.length).all (dE c) && bx b ((kinds t ks).drop ((kinds t ks).length - b.length))))=true):
 ∃ p m q,ks=p++(m++q)/\bx a (kinds t p)=true/\(∀ k∈m,dE c (bT t k)=true)/\bx b (kinds t q)=true:=by
 simp only[ab,an]at h;obtain⟨h0,⟨h1,h2⟩,h3⟩:=h;have hl:(kinds t ks).length=ks.length:=aE ..;rw[hl]at h0 h2 h3;refine⟨ks.take a.length,(ks.take (ks.length - b.length)).drop a.length,ks.drop (ks.length - b.length),?_,?_,?_,?_⟩
 ·rw[<-ag];have e:ks.take a.length++(ks.take (ks.length - b.length)).drop a.length=ks.take (ks.length - b.length):=by
   have:=bG a.length (ks.take (ks.length - b.length));rwa [gr,dr om]at this
  rw[e,bG]
 ·simpa [kinds,eW] using h1
 ·refine a7t ?_;simpa [kinds,eW,nv] using h2
 ·simpa [kinds,nv] using h3
theorem JB {ks:List Int} (h:∀ k∈ks,bT t k=7):params (kinds t ks)=ks.length:=by
 unfold params kinds;rw[List.filter_eq_self.2 fun y hy=>by obtain⟨k,hk,rfl⟩:=e9.1 hy;exact au (h k hk),aE]
theorem JA (a b:List Int):params (a++b)=params a+params b:=by unfold params;rw[List.filter_append,ah];omega
end
end Go.Vm.Pa
namespace Go.Vm.Pa
open Go.Vm.Lex (TokQ dZ de)
open Go.Vm.Tp (Nd dM gw dm mM cG zB bT kinds je ey vM gd bx dE nR pf qm rV An params fV)
structure Bd (t:List Nd) (N:Int->dM) (M:Int->Fo) (k:Int) (tt:S) (v:Int) (ks:List Int):Prop where
 nm:vM k tt=true
 num:gd k v (params (kinds t ks))=true
 fit:Tp.fP k v (kinds t ks)=true
 v64:v<=9223372036854775807
 kid:∀ a∈ks,∀ c,wg (bT t a)=c->kR c (N a) (M a)
 k12:∀ a∈ks,bT t a=12->M a=tr 12 [] 0 .nil
 k1:∀ a∈ks,((M a).idx 0).length=1
section
variable {t:List Nd} {N:Int->dM} {M:Int->Fo} {tt:S} {v f e:Int} {ks:List Int}
theorem l98 {k:Int} (h:dE 98 k=true):k=20:=af h
theorem l102 {k:Int} (h:dE 102 k=true):k=5:=af h
theorem l118 {k:Int} (h:dE 118 k=true):k=6:=af h
theorem l110 {k:Int} (h:dE 110 k=true):k=36:=af h
theorem l97 {k:Int} (h:dE 97 k=true):k=47:=af h
theorem l113 {k:Int} (h:dE 113 k=true):k=7:=af h
theorem l111 {k:Int} (h:dE 111 k=true):k=20\/k=45:=af h
theorem ZW {k:Int} (h:dE 98 k=true):wg k= .bl:=by rw[l98 h];rfl
theorem W7 {k:Int} {a:Int} (b:Bd t N M k tt v ks) (ha:a∈ks) (h:dE 101 (bT t a)=true):kR .ex (N a) (M a):=Ws h (b.kid a ha _ rfl)
theorem SP {k:Int} {a:Int} (b:Bd t N M k tt v ks) (ha:a∈ks) (h:dE 101 (bT t a)=true):kR .pr (dm t N a false) (M a):=P5 h (b.kid a ha _ rfl)
theorem a9o {k:Int} {c:Cl} {m:List Int} (b:Bd t N M k tt v ks) (hm:∀ a∈m,a∈ks/\wg (bT t a)=c):kR (.ls c) (gw N m) (zL M m):=P6 fun a ha=>b.kid a (hm a ha).1 _ (hm a ha).2
theorem bsq {k:Int} {c:Cl} {m:List Int} (b:Bd t N M k tt v ks) (hm:∀ a∈m,a∈ks/\wg (bT t a)=c):kR (.sq c) (m.flatMap N) (zL M m):=P3 fun a ha=>b.kid a (hm a ha).1 _ (hm a ha).2
theorem a6w {v:Int} (h:0<=v):(if v < 0 then[[45]] else[])++[Lib.itoa (if v < 0 then -v else v)]=([Lib.itoa v]:dM):=by rw[aA om,aA om];rfl
theorem nu_n {v:Int} (h:v < 0):(if v < 0 then[[45]] else[])++[Lib.itoa (if v < 0 then -v else v)]=([[45],Lib.itoa (-v)]:dM):=by rw[ay h,ay h];rfl
theorem ZU {s:S} (h:(fV s).2.2=true):s=(fV s).1++[58,58]++(fV s).2.1:=by
 rcases Lib.index_spec s [58,58] with⟨hi,_⟩|⟨i,hi,_,ho,_⟩
 ·exfalso;unfold fV Lib.cut at h;rw[hi]at h;cases h
 ·have hc:fV s=(s.take i,s.drop (i+2),true):=by
   unfold fV Lib.cut;rw[hi,ay om];rfl
  obtain⟨r,hr⟩:=List.isPrefixOf_iff_prefix.1 (show[58,58].isPrefixOf (s.drop i)=true from ho);have h2:s.drop (i+2)=r:=by rw[show s.drop (i+2)=(s.drop i).drop 2 from(cr ..).symm,<-hr];rfl
  rw[hc];show s=s.take i++[58,58]++s.drop (i+2);rw[h2,ag,hr,bG]
theorem vK {s:S} (h:((fV s).2.2 && de (fV s).1 && de (fV s).2.1)=true):s=(fV s).1++[58,58]++(fV s).2.1/\de (fV s).1=true/\de (fV s).2.1=true:=by
 simp only[ab]at h;exact⟨ZU h.1.1,h.1.2,h.2⟩
theorem b10 (b:Bd t N M 10 tt v ks):kR .ty (cG t N ⟨10,tt,v,ks,f,e⟩) (tr 10 tt v (zL M ks)):=by
 obtain rfl:tt=[]:=af b.nm;obtain rfl:v=0:=af b.num;obtain rfl:=dY (b.fit:bx [] (kinds t ks)=true);exact⟨_,.tInt,by simp only[aM,aB,bp];rfl,gG⟩
theorem b11 (b:Bd t N M 11 tt v ks):kR .ty (cG t N ⟨11,tt,v,ks,f,e⟩) (tr 11 tt v (zL M ks)):=by
 obtain rfl:tt=[]:=af b.nm;obtain rfl:v=0:=af b.num;obtain rfl:=dY (b.fit:bx [] (kinds t ks)=true);exact⟨_,.tBool,by simp only[aM,aB,bp];rfl,gG⟩
theorem b12 (b:Bd t N M 12 tt v ks):kR .ty (cG t N ⟨12,tt,v,ks,f,e⟩) (tr 12 tt v (zL M ks)):=by
 obtain rfl:tt=[]:=af b.nm;obtain rfl:v=0:=af b.num;obtain rfl:=dY (b.fit:bx [] (kinds t ks)=true);exact⟨_,.tUnit,by simp only[aM,aB,bp];rfl,gG⟩
theorem b13 (b:Bd t N M 13 tt v ks):kR .ty (cG t N ⟨13,tt,v,ks,f,e⟩) (tr 13 tt v (zL M ks)):=by
 have hn:de tt=true:=b.nm;obtain rfl:v=0:=af b.num;obtain rfl:=dY (b.fit:bx [] (kinds t ks)=true);exact⟨_,.tName tt,by simp only[aM,aB,bp];rfl,gG⟩
theorem b14 (b:Bd t N M 14 tt v ks):kR .ty (cG t N ⟨14,tt,v,ks,f,e⟩) (tr 14 tt v (zL M ks)):=by
 obtain rfl:tt=[]:=af b.nm;obtain rfl:v=0:=af b.num;obtain⟨a,rfl,ha⟩:=eA (b.fit:bx [116] (kinds t ks)=true);obtain⟨x1,r1,e1,g1⟩:=b.kid a (by simp) _ (zc ha);rw[fY];exact⟨_,.tRef r1,by simp only[aM,aB,bp,e1];rfl,gG⟩
theorem b15 (b:Bd t N M 15 tt v ks):kR .ty (cG t N ⟨15,tt,v,ks,f,e⟩) (tr 15 tt v (zL M ks)):=by
 obtain rfl:tt=[]:=af b.nm;obtain rfl:v=0:=af b.num;obtain⟨a,rfl,ha⟩:=eA (b.fit:bx [116] (kinds t ks)=true);obtain⟨x1,r1,e1,g1⟩:=b.kid a (by simp) _ (zc ha);rw[fY];exact⟨_,.tMut r1,by simp only[aM,aB,bp,e1];rfl,gG⟩
theorem b16 (b:Bd t N M 16 tt v ks):kR .ty (cG t N ⟨16,tt,v,ks,f,e⟩) (tr 16 tt v (zL M ks)):=by
 obtain rfl:tt=[]:=af b.nm;obtain rfl:v=0:=af b.num;obtain⟨a,rfl,ha⟩:=eA (b.fit:bx [116] (kinds t ks)=true);obtain⟨x1,r1,e1,g1⟩:=b.kid a (by simp) _ (zc ha);rw[fY];exact⟨_,.tBox r1,by simp only[aM,aB,bp,e1];rfl,gG⟩
theorem b50 (b:Bd t N M 50 tt v ks):kR .pa (cG t N ⟨50,tt,v,ks,f,e⟩) (tr 50 tt v (zL M ks)):=by
 obtain rfl:tt=[]:=af b.nm;obtain rfl:v=0:=af b.num;obtain rfl:=dY (b.fit:bx [] (kinds t ks)=true);exact⟨_,.pAny,by simp only[aM,aB,bp];rfl,gG⟩
theorem b51 (b:Bd t N M 51 tt v ks):kR .pa (cG t N ⟨51,tt,v,ks,f,e⟩) (tr 51 tt v (zL M ks)):=by
 have hn:de tt=true:=b.nm;obtain rfl:v=0:=af b.num;obtain rfl:=dY (b.fit:bx [] (kinds t ks)=true);exact⟨_,.pVar tt,by simp only[aM,aB,bp];rfl,gG⟩
theorem b52 (b:Bd t N M 52 tt v ks):kR .pa (cG t N ⟨52,tt,v,ks,f,e⟩) (tr 52 tt v (zL M ks)):=by
 obtain rfl:tt=[]:=af b.nm;obtain rfl:=dY (b.fit:bx [] (kinds t ks)=true);have hv: -9223372036854775808 < v:=af b.num;have h6:=b.v64;by_cases h0:v < 0
 ·have e0:w (0 - -v)=0 - -v:=eK om;have ev:v=w (0 - -v):=by rw[e0];omega
  refine⟨[sg [45],nu (-v)],?_,?_,gc (gS rfl) (gc (gU om om) gn)⟩
  ·have:=Rd.pNeg (-v);rw[<-ev]at this;exact this
  ·exact(nu_n h0).symm
 ·exact⟨[nu v],.pNum v,(a6w om).symm,gc (gU om h6) gn⟩
theorem b53 (b:Bd t N M 53 tt v ks):kR .pa (cG t N ⟨53,tt,v,ks,f,e⟩) (tr 53 tt v (zL M ks)):=by
 obtain rfl:tt=[]:=af b.nm;obtain rfl:=dY (b.fit:bx [] (kinds t ks)=true);have hv:(decide (v=0)||decide (v=1))=true:=b.num;rw[bg,an,an]at hv;rcases hv with rfl|rfl
 ·exact⟨_,.pFalse,rfl,gG⟩
 ·exact⟨_,.pTrue,rfl,gG⟩
theorem b54 (b:Bd t N M 54 tt v ks):kR .pa (cG t N ⟨54,tt,v,ks,f,e⟩) (tr 54 tt v (zL M ks)):=by
 obtain rfl:v=0:=af b.num;obtain⟨p1,p2,p3⟩:=vK b.nm;rcases qL (b.fit:bx [63,112] (kinds t ks)=true)with h|⟨a,q,rfl,ha,hq⟩
 ·obtain rfl:=dY h;have:=Rd.pPick (fV tt).1 (fV tt).2.1;rw[<-p1]at this;exact⟨_,this,rfl,gG⟩
 ·obtain rfl:=dY hq;obtain⟨x1,r1,e1,g1⟩:=b.kid a (by simp) _ (W4 ha);have:=Rd.pPick1 (fV tt).1 (fV tt).2.1 r1;rw[<-p1]at this;rw[fY];exact⟨_,this,by simp only[aM,aB,bp,e1];rfl,gG⟩
theorem b30 (b:Bd t N M 30 tt v ks):kR .pr (cG t N ⟨30,tt,v,ks,f,e⟩) (tr 30 tt v (zL M ks)):=by
 obtain rfl:tt=[]:=af b.nm;obtain rfl:=dY (b.fit:bx [] (kinds t ks)=true);have hv:0<=v:=af b.num;exact⟨[nu v],.num v,(a6w hv).symm,gc (gU hv b.v64) gn⟩
theorem b31 (b:Bd t N M 31 tt v ks):kR .pr (cG t N ⟨31,tt,v,ks,f,e⟩) (tr 31 tt v (zL M ks)):=by
 obtain rfl:tt=[]:=af b.nm;obtain rfl:=dY (b.fit:bx [] (kinds t ks)=true);have hv:(decide (v=0)||decide (v=1))=true:=b.num;rw[bg,an,an]at hv;rcases hv with rfl|rfl
 ·exact⟨_,.fal,rfl,gG⟩
 ·exact⟨_,.tru,rfl,gG⟩
theorem b32 (b:Bd t N M 32 tt v ks):kR .pr (cG t N ⟨32,tt,v,ks,f,e⟩) (tr 32 tt v (zL M ks)):=by
 obtain rfl:tt=[]:=af b.nm;obtain rfl:v=0:=af b.num;obtain rfl:=dY (b.fit:bx [] (kinds t ks)=true);exact⟨_,.nil_,by simp only[aM,aB,bp];rfl,gG⟩
theorem b33 (b:Bd t N M 33 tt v ks):kR .pr (cG t N ⟨33,tt,v,ks,f,e⟩) (tr 33 tt v (zL M ks)):=by
 have hn:de tt=true:=b.nm;obtain rfl:v=0:=af b.num;obtain rfl:=dY (b.fit:bx [] (kinds t ks)=true);exact⟨_,.var tt,by simp only[aM,aB,bp];rfl,gG⟩
theorem b34 (b:Bd t N M 34 tt v ks):kR .pr (cG t N ⟨34,tt,v,ks,f,e⟩) (tr 34 tt v (zL M ks)):=by
 have hn:de tt=true:=b.nm;obtain rfl:v=0:=af b.num;obtain⟨p,m,q,rfl,hp,hm,hq⟩:=mR (a:=[]) (c:=101) (b:=[]) b.fit;obtain rfl:=dY hp;obtain rfl:=dY hq;simp only[aq,bC]at b⊢;obtain⟨x1,r1,e1,g1⟩:kR (.ls .ex) (gw N m) (zL M m):=P6 fun a ha=>W7 b ha (hm a ha);exact⟨_,.call tt r1,by simp only[aM,aB,bp,e1];rfl,gG⟩
theorem b35 (b:Bd t N M 35 tt v ks):kR .e0 (cG t N ⟨35,tt,v,ks,f,e⟩) (tr 35 tt v (zL M ks)):=by
 have hn:de tt=true:=b.nm;obtain rfl:v=0:=af b.num;obtain⟨p,m,q,rfl,hp,hm,hq⟩:=mR (a:=[]) (c:=110) (b:=[]) b.fit;obtain rfl:=dY hp;obtain rfl:=dY hq;simp only[aq,bC]at b⊢;obtain⟨x1,r1,e1,g1⟩:=a9o (c:= .ni) b fun a ha=>⟨ha,by rw[l110 (hm a ha)];rfl⟩;exact⟨_,.make tt r1,by simp only[aM,aB,bp,e1];rfl,gG⟩
theorem b3 (b:Bd t N M 3 tt v ks):kR .it (cG t N ⟨3,tt,v,ks,f,e⟩) (tr 3 tt v (zL M ks)):=by
 have hn:de tt=true:=b.nm;obtain rfl:v=0:=af b.num;obtain⟨p,m,q,rfl,hp,hm,hq⟩:=mR (a:=[]) (c:=102) (b:=[]) b.fit;obtain rfl:=dY hp;obtain rfl:=dY hq;simp only[aq,bC]at b⊢;obtain⟨x1,r1,e1,g1⟩:=a9o (c:= .fd) b fun a ha=>⟨ha,by rw[l102 (hm a ha)];rfl⟩;exact⟨_,.struct tt r1,by simp only[aM,aB,bp,e1];rfl,gG⟩
theorem b4 (b:Bd t N M 4 tt v ks):kR .it (cG t N ⟨4,tt,v,ks,f,e⟩) (tr 4 tt v (zL M ks)):=by
 have hn:de tt=true:=b.nm;obtain rfl:v=0:=af b.num;obtain⟨p,m,q,rfl,hp,hm,hq⟩:=mR (a:=[]) (c:=118) (b:=[]) b.fit;obtain rfl:=dY hp;obtain rfl:=dY hq;simp only[aq,bC]at b⊢;obtain⟨x1,r1,e1,g1⟩:=a9o (c:= .va) b fun a ha=>⟨ha,by rw[l118 (hm a ha)];rfl⟩;exact⟨_,.enum tt r1,by simp only[aM,aB,bp,e1];rfl,gG⟩
theorem b36 (b:Bd t N M 36 tt v ks):kR .ni (cG t N ⟨36,tt,v,ks,f,e⟩) (tr 36 tt v (zL M ks)):=by
 have hn:de tt=true:=b.nm;obtain rfl:v=0:=af b.num;obtain⟨a,rfl,ha⟩:=eA (b.fit:bx [101] (kinds t ks)=true);obtain⟨x1,r1,e1,g1⟩:=W7 b (by simp) ha;rw[fY];exact⟨_,.init tt r1,by simp only[aM,aB,bp,e1];rfl,gG⟩
theorem b44 (b:Bd t N M 44 tt v ks):kR .pr (cG t N ⟨44,tt,v,ks,f,e⟩) (tr 44 tt v (zL M ks)):=by
 obtain rfl:tt=[]:=af b.nm;obtain rfl:v=0:=af b.num;obtain⟨a,rfl,ha⟩:=eA (b.fit:bx [101] (kinds t ks)=true);obtain⟨x1,r1,e1,g1⟩:=W7 b (by simp) ha;rw[fY];exact⟨_,.new r1,by simp only[aM,aB,bp,e1];rfl,gG⟩
theorem b37 (b:Bd t N M 37 tt v ks):kR .pr (cG t N ⟨37,tt,v,ks,f,e⟩) (tr 37 tt v (zL M ks)):=by
 obtain rfl:v=0:=af b.num;obtain⟨p1,p2,p3⟩:=vK b.nm;rcases qL (b.fit:bx [63,101] (kinds t ks)=true)with h|⟨a,q,rfl,ha,hq⟩
 ·obtain rfl:=dY h;have:=Rd.pick (fV tt).1 (fV tt).2.1;rw[<-p1]at this;exact⟨_,this,rfl,gG⟩
 ·obtain rfl:=dY hq;obtain⟨x1,r1,e1,g1⟩:=W7 b (by simp) ha;have:=Rd.pick1 (fV tt).1 (fV tt).2.1 r1;rw[<-p1]at this;rw[fY];exact⟨_,this,by simp only[aM,aB,bp,e1];rfl,gG⟩
theorem b38 (b:Bd t N M 38 tt v ks):kR .e0 (cG t N ⟨38,tt,v,ks,f,e⟩) (tr 38 tt v (zL M ks)):=by
 have hn:tt∈Tp.iz:=af b.nm;obtain rfl:v=0:=af b.num;obtain⟨a,q,rfl,ha,hq⟩:=jt (by decide) (b.fit:bx [101,101] (kinds t ks)=true);obtain⟨a2,rfl,ha2⟩:=eA hq;obtain⟨x1,r1,e1,g1⟩:=SP b (by simp) ha;obtain⟨x2,r2,e2,g2⟩:=SP b (by simp) ha2;rw[vu];have hg:tt∈opsL/\Lex.fP 4 tt 0=true:=(by decide:∀ x∈Tp.iz,x∈opsL/\Lex.fP 4 x 0=true) tt hn;refine⟨_,.bin tt hg.1 r1 r2,?_,ga g1 (gc (gS hg.2) g2)⟩;rw[show cG t N ⟨38,tt,0,[a,a2],f,e⟩=dm t N a false++[tt]++dm t N a2 false from rfl];simp[e1,e2]
theorem b39 (b:Bd t N M 39 tt v ks):kR .e0 (cG t N ⟨39,tt,v,ks,f,e⟩) (tr 39 tt v (zL M ks)):=by
 obtain rfl:tt=[]:=af b.nm;obtain rfl:v=0:=af b.num;obtain⟨a,rfl,ha⟩:=eA (b.fit:bx [101] (kinds t ks)=true);obtain⟨x1,r1,e1,g1⟩:=SP b (by simp) ha;rw[fY];exact⟨_,.neg r1,by simp only[aM,aB,bp,e1];rfl,gG⟩
theorem b40 (b:Bd t N M 40 tt v ks):kR .e0 (cG t N ⟨40,tt,v,ks,f,e⟩) (tr 40 tt v (zL M ks)):=by
 obtain rfl:tt=[]:=af b.nm;obtain rfl:v=0:=af b.num;obtain⟨a,rfl,ha⟩:=eA (b.fit:bx [101] (kinds t ks)=true);obtain⟨x1,r1,e1,g1⟩:=SP b (by simp) ha;rw[fY];exact⟨_,.not r1,by simp only[aM,aB,bp,e1];rfl,gG⟩
theorem b42 (b:Bd t N M 42 tt v ks):kR .e0 (cG t N ⟨42,tt,v,ks,f,e⟩) (tr 42 tt v (zL M ks)):=by
 obtain rfl:tt=[]:=af b.nm;obtain rfl:v=0:=af b.num;obtain⟨a,rfl,ha⟩:=eA (b.fit:bx [101] (kinds t ks)=true);obtain⟨x1,r1,e1,g1⟩:=SP b (by simp) ha;rw[fY];exact⟨_,.star r1,by simp only[aM,aB,bp,e1];rfl,gG⟩
theorem b43 (b:Bd t N M 43 tt v ks):kR .e0 (cG t N ⟨43,tt,v,ks,f,e⟩) (tr 43 tt v (zL M ks)):=by
 obtain rfl:tt=[]:=af b.nm;have hv:(decide (v=0)||decide (v=1))=true:=b.num;rw[bg,an,an]at hv;obtain⟨a,rfl,ha⟩:=eA (b.fit:bx [101] (kinds t ks)=true);obtain⟨x1,r1,e1,g1⟩:=SP b (by simp) ha;rw[fY];rcases hv with rfl|rfl
 ·exact⟨_,.bor r1,by simp only[aB,e1];rfl,gG⟩
 ·exact⟨_,.borM r1,by simp only[aB,e1];rfl,gG⟩
theorem b41 (b:Bd t N M 41 tt v ks):kR .po (cG t N ⟨41,tt,v,ks,f,e⟩) (tr 41 tt v (zL M ks)):=by
 have hn:de tt=true:=b.nm;obtain rfl:v=0:=af b.num;obtain⟨a,rfl,ha⟩:=eA (b.fit:bx [101] (kinds t ks)=true);obtain⟨x1,r1,e1,g1⟩:=T7 ha (b.kid a (by simp) _ rfl);rw[fY];exact⟨_,.get tt r1,by simp only[aM,aB,bp,e1];rfl,gG⟩
theorem b45 (b:Bd t N M 45 tt v ks):kR .ci (cG t N ⟨45,tt,v,ks,f,e⟩) (tr 45 tt v (zL M ks)):=by
 obtain rfl:tt=[]:=af b.nm;obtain rfl:v=0:=af b.num;obtain⟨a,q,rfl,ha,hq⟩:=jt (by decide) (b.fit:bx [101,98,63,111] (kinds t ks)=true);obtain⟨a2,q2,rfl,ha2,hq2⟩:=jt (by decide) hq;obtain⟨x1,r1,e1,g1⟩:=SP b (by simp) ha;obtain⟨x2,r2,e2,g2⟩:=b.kid a2 (by simp) _ (ZW ha2);rcases qL hq2 with h|⟨a3,q3,rfl,ha3,hq3⟩
 ·obtain rfl:=dY h;rw[vu];refine⟨_,.if1 r1 r2,?_,gG⟩;rw[show cG t N ⟨45,[],0,[a,a2],f,e⟩=[[105,102]]++dm t N a false++N a2++[] from rfl];simp[e1,e2]
 ·obtain rfl:=dY hq3;rw[OQ];rcases l111 ha3 with h|h
  ·obtain⟨x3,r3,e3,g3⟩:=b.kid a3 (by simp) .bl (by rw[h];rfl);refine⟨_,.if2 r1 r2 r3,?_,gG⟩;rw[show cG t N ⟨45,[],0,[a,a2,a3],f,e⟩=[[105,102]]++dm t N a false++N a2++([[101,108,115,101]]++N a3)from rfl];simp[e1,e2,e3]
  ·obtain⟨x3,r3,e3,g3⟩:=b.kid a3 (by simp) .ci (by rw[h];rfl);refine⟨_,.if3 r1 r2 r3,?_,gG⟩;rw[show cG t N ⟨45,[],0,[a,a2,a3],f,e⟩=[[105,102]]++dm t N a false++N a2++([[101,108,115,101]]++N a3)from rfl];simp[e1,e2,e3]
theorem b46 (b:Bd t N M 46 tt v ks):kR .ma (cG t N ⟨46,tt,v,ks,f,e⟩) (tr 46 tt v (zL M ks)):=by
 obtain rfl:tt=[]:=af b.nm;obtain rfl:v=0:=af b.num;obtain⟨p,m,q,rfl,hp,hm,hq⟩:=mR (a:=[101]) (c:=97) (b:=[]) b.fit;obtain⟨a,rfl,ha⟩:=eA hp;obtain rfl:=dY hq;simp only[bC,al,aq]at b⊢;obtain⟨x1,r1,e1,g1⟩:=SP b (by simp) ha;obtain⟨x2,r2,e2,g2⟩:=a9o (c:= .ar) (m:=m) b fun a ha=>⟨bI _ ha,by rw[l97 (hm a ha)];rfl⟩;refine⟨_,.mat r1 r2,?_,gG⟩;rw[show cG t N ⟨46,[],0,a::m,f,e⟩=[[109,97,116,99,104]]++dm t N a false++[[123]]++gw N m++[[125]] from rfl];simp[e1,e2]
theorem b20 (b:Bd t N M 20 tt v ks):kR .bl (cG t N ⟨20,tt,v,ks,f,e⟩) (tr 20 tt v (zL M ks)):=by
 obtain rfl:tt=[]:=af b.nm;have hv:(decide (v=0)||decide (v=1))=true:=b.num;rw[bg,an,an]at hv;rcases hv with rfl|rfl
 ·obtain⟨p,m,q,rfl,hp,hm,hq⟩:=mR (a:=[]) (c:=115) (b:=[]) b.fit;obtain rfl:=dY hp;obtain rfl:=dY hq;simp only[bC,aq]at b⊢;obtain⟨x1,r1,e1,g1⟩:=bsq (c:= .st) (m:=m) b fun a ha=>⟨ha,WZ (hm a ha)⟩;refine⟨_,.blk r1,?_,gG⟩;rw[show cG t N ⟨20,[],0,m,f,e⟩=[[123]]++m.flatMap N++[[125]] from rfl];simp[e1]
 ·obtain⟨p,m,q,rfl,hp,hm,hq⟩:=mR (a:=[]) (c:=115) (b:=[101]) b.fit;obtain rfl:=dY hp;obtain⟨a,rfl,ha⟩:=eA hq;simp only[aq]at b⊢;obtain⟨x1,r1,e1,g1⟩:=bsq (c:= .st) (m:=m) b fun a ha=>⟨List.mem_append_left _ ha,WZ (hm a ha)⟩;obtain⟨x2,r2,e2,g2⟩:=W7 b (by simp) ha;rw[zM,fY];refine⟨_,.blkE r1 r2,?_,gG⟩;rw[show cG t N ⟨20,[],1,m++[a],f,e⟩=[[123]]++(m++[a]).flatMap N++[[125]] from rfl];simp[e1,e2]
theorem b21 (b:Bd t N M 21 tt v ks):kR .st (cG t N ⟨21,tt,v,ks,f,e⟩) (tr 21 tt v (zL M ks)):=by
 have hn:de tt=true:=b.nm;have hv:(decide (v=0)||decide (v=1))=true:=b.num;rw[bg,an,an]at hv;rcases qL (b.fit:bx [63,116,101] (kinds t ks)=true)with h|⟨a,q,rfl,ha,hq⟩
 ·obtain⟨a,rfl,ha⟩:=eA h;obtain⟨x1,r1,e1,g1⟩:=W7 b (by simp) ha;rw[fY];rcases hv with rfl|rfl
  ·exact⟨_,.let0 tt r1,by simp only[aM,aB,bp,e1];rfl,gG⟩
  ·exact⟨_,.let0M tt r1,by simp only[aM,aB,bp,e1];rfl,gG⟩
 ·obtain⟨a2,rfl,ha2⟩:=eA hq;obtain⟨x1,r1,e1,g1⟩:=b.kid a (by simp) _ (zc ha);obtain⟨x2,r2,e2,g2⟩:=W7 b (by simp) ha2;rw[vu];rcases hv with rfl|rfl
  ·refine⟨_,.let1 tt r1 r2,?_,gG⟩;rw[show cG t N ⟨21,tt,0,[a,a2],f,e⟩=[[108,101,116]]++[]++[tt]++([[58]]++N a)++[[61]]++N a2++[[59]] from rfl];simp[e1,e2]
  ·refine⟨_,.let1M tt r1 r2,?_,gG⟩;rw[show cG t N ⟨21,tt,1,[a,a2],f,e⟩=[[108,101,116]]++[[109,117,116]]++[tt]++([[58]]++N a)++[[61]]++N a2++[[59]] from rfl];simp[e1,e2]
theorem b22 (b:Bd t N M 22 tt v ks):kR .st (cG t N ⟨22,tt,v,ks,f,e⟩) (tr 22 tt v (zL M ks)):=by
 obtain rfl:tt=[]:=af b.nm;obtain rfl:v=0:=af b.num;obtain⟨a,rfl,ha⟩:=eA (b.fit:bx [101] (kinds t ks)=true);rw[fY];obtain⟨x1,r1,e1,g1⟩:∃ x1,Rd .st (x1++[sg [59]]) (tr 22 [] 0 (M a))/\x1.map (·.t)=N a/\∀ x∈x1,Gx x:=by
  obtain⟨x1,r1,e1,g1⟩:=b.kid a (by simp) _ rfl;refine⟨x1,?_,e1,g1⟩;rcases xo ha with h|h|h|h|h|h|h|h|h|h|h|h|h|h|h|h|h
  all_goals
   rw[h]at r1
   first
    |exact .doB r1
    |exact .doC r1
    |exact .doM r1
    |exact .doE r1
    |exact .doE (.ofPo r1)
    |exact .doE (.ofPo (.ofPr r1))
 exact⟨_,r1,by simp only[aM,aB,bp,e1];rfl,gG⟩
theorem b23 (b:Bd t N M 23 tt v ks):kR .st (cG t N ⟨23,tt,v,ks,f,e⟩) (tr 23 tt v (zL M ks)):=by
 obtain rfl:tt=[]:=af b.nm;obtain rfl:v=0:=af b.num;obtain⟨a,q,rfl,ha,hq⟩:=jt (by decide) (b.fit:bx [101,101] (kinds t ks)=true);obtain⟨a2,rfl,ha2⟩:=eA hq;obtain⟨x1,r1,e1,g1⟩:=SP b (by simp) ha;obtain⟨x2,r2,e2,g2⟩:=SP b (by simp) ha2;rw[vu];refine⟨_,.set r1 r2,?_,gG⟩;rw[show cG t N ⟨23,[],0,[a,a2],f,e⟩=dm t N a false++[[61]]++dm t N a2 false++[[59]] from rfl];simp[e1,e2]
theorem b24 (b:Bd t N M 24 tt v ks):kR .st (cG t N ⟨24,tt,v,ks,f,e⟩) (tr 24 tt v (zL M ks)):=by
 obtain rfl:tt=[]:=af b.nm;obtain rfl:v=0:=af b.num;obtain⟨a,q,rfl,ha,hq⟩:=jt (by decide) (b.fit:bx [101,98] (kinds t ks)=true);obtain⟨a2,rfl,ha2⟩:=eA hq;obtain⟨x1,r1,e1,g1⟩:=SP b (by simp) ha;obtain⟨x2,r2,e2,g2⟩:=b.kid a2 (by simp) _ (ZW ha2);rw[vu];refine⟨_,.whl r1 r2,?_,gG⟩;rw[show cG t N ⟨24,[],0,[a,a2],f,e⟩=[[119,104,105,108,101]]++dm t N a false++N a2 from rfl];simp[e1,e2]
theorem b25 (b:Bd t N M 25 tt v ks):kR .st (cG t N ⟨25,tt,v,ks,f,e⟩) (tr 25 tt v (zL M ks)):=by
 obtain rfl:tt=[]:=af b.nm;obtain rfl:v=0:=af b.num;rcases qL (b.fit:bx [63,101] (kinds t ks)=true)with h|⟨a,q,rfl,ha,hq⟩
 ·obtain rfl:=dY h;exact⟨_,.ret0,rfl,gG⟩
 ·obtain rfl:=dY hq;obtain⟨x1,r1,e1,g1⟩:=W7 b (by simp) ha;rw[fY];refine⟨_,.ret1 r1,?_,gG⟩;rw[show cG t N ⟨25,[],0,[a],f,e⟩=[[114,101,116,117,114,110]]++[a].flatMap N++[[59]] from rfl];simp[e1]
theorem b26 (b:Bd t N M 26 tt v ks):kR .st (cG t N ⟨26,tt,v,ks,f,e⟩) (tr 26 tt v (zL M ks)):=by
 obtain rfl:tt=[]:=af b.nm;obtain rfl:v=0:=af b.num;obtain rfl:=dY (b.fit:bx [] (kinds t ks)=true);exact⟨_,.brk,by simp only[aM,aB,bp];rfl,gG⟩
theorem b27 (b:Bd t N M 27 tt v ks):kR .st (cG t N ⟨27,tt,v,ks,f,e⟩) (tr 27 tt v (zL M ks)):=by
 obtain rfl:tt=[]:=af b.nm;obtain rfl:v=0:=af b.num;obtain rfl:=dY (b.fit:bx [] (kinds t ks)=true);exact⟨_,.nxt,by simp only[aM,aB,bp];rfl,gG⟩
theorem b47 (b:Bd t N M 47 tt v ks):kR .ar (cG t N ⟨47,tt,v,ks,f,e⟩) (tr 47 tt v (zL M ks)):=by
 obtain rfl:tt=[]:=af b.nm;obtain rfl:v=0:=af b.num;obtain⟨a,q,rfl,ha,hq⟩:=jt (by decide) (b.fit:bx [112,101] (kinds t ks)=true);obtain⟨a2,rfl,ha2⟩:=eA hq;obtain⟨x1,r1,e1,g1⟩:=b.kid a (by simp) _ (W4 ha);rw[vu];obtain⟨x2,r2,e2,g2⟩:∃ x2,Rd .ar (x1++sg [61,62]::x2) (tr 47 [] 0 ((M a).app (M a2)))/\x2.map (·.t)=N a2/\∀ x∈x2,Gx x:=by
  obtain⟨x2,r2,e2,g2⟩:=b.kid a2 (by simp) _ rfl;refine⟨x2,?_,e2,g2⟩;rcases xo ha2 with h|h|h|h|h|h|h|h|h|h|h|h|h|h|h|h|h
  all_goals
   rw[h]at r2
   first
    |exact .armB r1 r2
    |exact .armC r1 r2
    |exact .armM r1 r2
    |exact .armE r1 r2
    |exact .armE r1 (.ofPo r2)
    |exact .armE r1 (.ofPo (.ofPr r2))
 refine⟨_,r2,?_,gG⟩;rw[show cG t N ⟨47,[],0,[a,a2],f,e⟩=N a++[[61,62]]++N a2 from rfl];simp[e1,e2]
theorem b5 (b:Bd t N M 5 tt v ks):kR .fd (cG t N ⟨5,tt,v,ks,f,e⟩) (tr 5 tt v (zL M ks)):=by
 have hn:de tt=true:=b.nm;obtain rfl:v=0:=af b.num;obtain⟨a,rfl,ha⟩:=eA (b.fit:bx [116] (kinds t ks)=true);obtain⟨x1,r1,e1,g1⟩:=b.kid a (by simp) _ (zc ha);rw[fY];exact⟨_,.field tt r1,by simp only[aM,aB,bp,e1];rfl,gG⟩
theorem b7 (b:Bd t N M 7 tt v ks):kR .pm (cG t N ⟨7,tt,v,ks,f,e⟩) (tr 7 tt v (zL M ks)):=by
 have hn:de tt=true:=b.nm;have hv:(decide (v=0)||decide (v=1))=true:=b.num;rw[bg,an,an]at hv;obtain⟨a,rfl,ha⟩:=eA (b.fit:bx [116] (kinds t ks)=true);obtain⟨x1,r1,e1,g1⟩:=b.kid a (by simp) _ (zc ha);rw[fY];rcases hv with rfl|rfl
 ·exact⟨_,.param tt r1,by simp only[aB,e1];rfl,gG⟩
 ·exact⟨_,.paramM tt r1,by simp only[aB,e1];rfl,gG⟩
theorem b6 (b:Bd t N M 6 tt v ks):kR .va (cG t N ⟨6,tt,v,ks,f,e⟩) (tr 6 tt v (zL M ks)):=by
 have hn:de tt=true:=b.nm;obtain rfl:v=0:=af b.num;rcases qL (b.fit:bx [63,116] (kinds t ks)=true)with h|⟨a,q,rfl,ha,hq⟩
 ·obtain rfl:=dY h;exact⟨_,.var0 tt,rfl,gG⟩
 ·obtain rfl:=dY hq;obtain⟨x1,r1,e1,g1⟩:=b.kid a (by simp) _ (zc ha);rw[fY];exact⟨_,.var1 tt r1,by simp only[aM,aB,bp,e1];rfl,gG⟩
theorem b2 (b:Bd t N M 2 tt v ks):kR .it (cG t N ⟨2,tt,v,ks,f,e⟩) (tr 2 tt v (zL M ks)):=by
 have hn:de tt=true:=b.nm;obtain⟨p,m,q,rfl,hp,hm,hq⟩:=mR (a:=[]) (c:=113) (b:=[116,98]) b.fit;obtain rfl:=dY hp;obtain⟨a,q2,rfl,ha,hq⟩:=jt (by decide) hq;obtain⟨a2,rfl,ha2⟩:=eA hq;simp only[aq]at b⊢;have hv:v=params (kinds t (m++[a,a2])):=af b.num;have h7:∀ k∈m,bT t k=7:=fun k hk=>l113 (hm k hk);have hta:bT t a≠7:=fun h=>by rw[h]at ha;cases ha
 have htb:bT t a2≠7:=fun h=>by rw[l98 ha2]at h;omega
 have hv:v=(m.length:Nat):=by
  rw[hv,kinds,aM,JA];have h1:=JB h7;unfold kinds at h1;rw[h1];have h2:params ([a,a2].map (bT t))=0:=by
   unfold params;rw[aB,aB,bp,List.filter_cons_of_neg (by simpa using hta),List.filter_cons_of_neg (by simpa using htb)];rfl
  rw[h2];omega
 subst hv;obtain⟨x1,r1,e1,g1⟩:=a9o (c:= .pm) (m:=m) b fun k hk=>⟨List.mem_append_left _ hk,by rw[h7 k hk];rfl⟩;have hK:((zL M m).idx 0).length=m.length:=DQ fun k hk=>b.k1 k (List.mem_append_left _ hk);obtain⟨x3,r3,e3,g3⟩:=b.kid a2 (by simp) _ (ZW ha2);have ebody:cG t N ⟨2,tt,(m.length:Nat),m++[a,a2],f,e⟩=[[102,110],tt,[40]]++gw N m++[[41]]++(if bT t a=12 then[] else[[45,62]]++N a)++N a2:=by
  have k0:Tp.kid ⟨2,tt,(m.length:Nat),m++[a,a2],f,e⟩ m.length=a:=by
   show(m++[a,a2]).getD m.length 0=a;rw[av,aK (ai _),dR];rfl
  have k1:Tp.kid ⟨2,tt,(m.length:Nat),m++[a,a2],f,e⟩ (m.length+1)=a2:=by
   show(m++[a,a2]).getD (m.length+1) 0=a2;rw[av,aK om,lL];rfl
  show Tp.WT t N _=_;unfold Tp.WT;rw[show((m.length:Nat):Int).toNat=m.length from b8 _,k0,k1,List.take_left' rfl]
 rw[ebody,zM,vu,<-hK];by_cases h12:bT t a=12
 ·rw[ay h12,b.k12 a (by simp) h12];refine⟨_,.fn0 tt r1 r3,?_,gG⟩;simp[e1,e3]
 ·rw[aA h12];obtain⟨x2,r2,e2,g2⟩:=b.kid a (by simp) _ (zc ha);refine⟨_,.fn1 tt r1 r2 r3,?_,gG⟩;simp[e1,e2,e3]
theorem yW {k:Int} (h:ey k=true) (h1:k≠1):k=2\/k=3\/k=4\/k=5\/k=6\/k=7\/k=10\/k=11\/k=12\/k=13\/k=14\/k=15\/k=16\/k=20\/k=21\/k=22\/k=23\/k=24\/k=25\/k=26\/k=27\/k=30\/k=31\/k=32\/k=33\/k=34\/k=35\/k=36\/k=37\/k=38\/k=39\/k=40\/k=41\/k=42\/k=43\/k=44\/k=45\/k=46\/k=47\/k=50\/k=51\/k=52\/k=53\/k=54:=by
 simp only[ey,nR,pf,rV,qm,bg,ab,dv,an,bX]at h;omega
theorem Uf {k:Int} (h:ey k=true) (h1:k≠1) (b:Bd t N M k tt v ks):kR (wg k) (cG t N ⟨k,tt,v,ks,f,e⟩) (tr k tt v (zL M ks)):=by
 rcases yW h h1 with rfl|rfl|rfl|rfl|rfl|rfl|rfl|rfl|rfl|rfl|rfl|rfl|rfl|rfl|rfl|rfl|rfl|rfl|rfl|rfl|rfl|rfl|rfl|rfl|rfl|rfl|rfl|rfl|rfl|rfl|rfl|rfl|rfl|rfl|rfl|rfl|rfl|rfl|rfl|rfl|rfl|rfl|rfl|rfl
 ·exact b2 b
 ·exact b3 b
 ·exact b4 b
 ·exact b5 b
 ·exact b6 b
 ·exact b7 b
 ·exact b10 b
 ·exact b11 b
 ·exact b12 b
 ·exact b13 b
 ·exact b14 b
 ·exact b15 b
 ·exact b16 b
 ·exact b20 b
 ·exact b21 b
 ·exact b22 b
 ·exact b23 b
 ·exact b24 b
 ·exact b25 b
 ·exact b26 b
 ·exact b27 b
 ·exact b30 b
 ·exact b31 b
 ·exact b32 b
 ·exact b33 b
 ·exact b34 b
 ·exact b35 b
 ·exact b36 b
 ·exact b37 b
 ·exact b38 b
 ·exact b39 b
 ·exact b40 b
 ·exact b41 b
 ·exact b42 b
 ·exact b43 b
 ·exact b44 b
 ·exact b45 b
 ·exact b46 b
 ·exact b47 b
 ·exact b50 b
 ·exact b51 b
 ·exact b52 b
 ·exact b53 b
 ·exact b54 b
end
end Go.Vm.Pa
namespace Go.Vm.Pa
open Go.Vm.Lex (TokQ dZ de)
open Go.Vm.Tp (Nd dM gw dm mM cG zB IK bT kinds je ey vM gd bx dE nR pf qm rV An params fV iV)
theorem wY {c:UInt8} {k:Int} (h:dE c k=true):k≠1:=by
 rintro rfl;simp[dE,nR,pf,qm,rV]at h
theorem mQ:∀ (s:S) (l:List Int),bx s l=true->∀ a∈l,∃ c,dE c a=true
 |[],l,h,a,ha=>by have:=af (h:decide (l=[])=true);subst this;cases ha
 |[c],l,h,a,ha=>by
  cases l with
  |nil=>cases ha
  |cons x r=>
   simp only[bx,ab,an]at h;obtain⟨h1,rfl⟩:=h;obtain rfl:a=x:=by simpa using ha
   exact⟨c,h1⟩
 |c::d::s,l,h,a,ha=>by
  simp only[bx]at h;split at h
  ·rw[bg]at h;rcases h with h|h
   ·cases l with
    |nil=>cases ha
    |cons x r=>
     simp only[ab]at h;rcases bs.1 ha with rfl|ha
     ·exact⟨d,h.1⟩
     ·exact mQ s r h.2 a ha
   ·exact mQ s l h a ha
  ·cases l with
   |nil=>cases ha
   |cons x r=>
    simp only[ab]at h;rcases bs.1 ha with rfl|ha
    ·exact⟨c,h.1⟩
    ·exact mQ (d::s) r h.2 a ha
theorem Vs {k v:Int} {l:List Int} (h:Tp.fP k v l=true):∀ a∈l,a≠1:=by
 intro a ha;unfold Tp.fP at h;split at h
 ·obtain⟨c,hc⟩:=mQ _ _ h a ha;exact wY hc
 ·rename_i p c q _;simp only[ab,an]at h;obtain⟨h0,⟨h1,h2⟩,h3⟩:=h;have e:l=l.take p.length++(((l.take (l.length - q.length)).drop p.length)++l.drop (l.length - q.length)):=by
   rw[<-ag];have e:l.take p.length++(l.take (l.length - q.length)).drop p.length=l.take (l.length - q.length):=by
    have:=bG p.length (l.take (l.length - q.length));rwa [gr,dr om]at this
   rw[e,bG]
  rw[e]at ha;rcases cd.1 ha with ha|ha
  ·obtain⟨c,hc⟩:=mQ _ _ h1 a ha;exact wY hc
  ·rcases cd.1 ha with ha|ha
   ·exact wY (aC.1 h2 a ha)
   ·obtain⟨c,hc⟩:=mQ _ _ h3 a ha;exact wY hc
section
variable {t:List Nd}
structure wo (t:List Nd) (n:Nat):Prop where
 kid:∀ a∈(t.getD n default).kids,0<=a/\a < n
 known:ey (t.getD n default).k=true
 nm:vM (t.getD n default).k (t.getD n default).t=true
 num:gd (t.getD n default).k (t.getD n default).v (params (kinds t (t.getD n default).kids))=true
 fe:0<=(t.getD n default).f/\(t.getD n default).f<=(t.getD n default).e
 fit:Tp.fP (t.getD n default).k (t.getD n default).v (kinds t (t.getD n default).kids)=true
theorem LL {n:Nat} (h:je t n=true):wo t n:=by
 unfold je at h;simp only[ab,aC,an]at h;obtain⟨h1,⟨⟨⟨⟨h2,h3⟩,h4⟩,h5⟩,h6⟩,h7⟩:=h;exact⟨h1,h2,h3,h4,⟨h5,h6⟩,h7⟩
theorem wo.b {n:Nat} (o:wo t n):je t n=true:=by
 unfold je;simp only[ab,aC,an];exact⟨o.kid,⟨⟨⟨⟨o.known,o.nm⟩,o.num⟩,o.fe.1⟩,o.fe.2⟩,o.fit⟩
theorem Xf {f n:Nat} (h:0 < f) (m:Nat):((zN t f n).idx m).length=1:=by
 obtain⟨f,rfl⟩:∃ g,f=g+1:=⟨f - 1,om⟩;rfl
theorem a3m {f n:Nat} (h:0 < f) (o:wo t n) (hk:(t.getD n default).k=12):zN t f n=tr 12 [] 0 .nil:=by
 obtain⟨f,rfl⟩:∃ g,f=g+1:=⟨f - 1,om⟩;have h1:=o.nm;have h2:=o.num;have h3:=o.fit;rw[hk]at h1 h2 h3;have e1:(t.getD n default).t=[]:=af (h1:decide _=true);have e2:(t.getD n default).v=0:=af (h2:decide _=true);have e3:(t.getD n default).kids=[]:=dY (h3:bx [] (kinds t _)=true);simp only[zN,hk,e1,e2,e3];rfl
theorem Li (hc:∀ i,i < t.length->wo t i) (h64:∀ i,i < t.length->(t.getD i default).v<=9223372036854775807):∀ (f n:Nat),n < f->n < t.length->(t.getD n default).k≠1->kR (wg (t.getD n default).k) (zB t f n) (zN t f n)
 |0,n,h,_,_=>om
 |f+1,n,h,hn,h1=>by
  have o:=hc n hn;have b:Bd t (fun k=>zB t f k.toNat) (fun k=>zN t f k.toNat) (t.getD n default).k (t.getD n default).t (t.getD n default).v (t.getD n default).kids:=by
    refine⟨o.nm,o.num,o.fit,h64 n hn,fun a ha c hcl=>?_,fun a ha h12=>?_,fun a ha=>?_⟩
    ·have ha2:=o.kid a ha;subst hcl;exact Li hc h64 f a.toNat om om (Vs o.fit (bT t a) (e9.2 ⟨a,ha,rfl⟩))
    ·have ha2:=o.kid a ha;exact a3m om (hc a.toNat om) h12
    ·have ha2:=o.kid a ha;exact Xf om 0
  exact Uf (f:=(t.getD n default).f) (e:=(t.getD n default).e) o.known h1 b
theorem a9l {N:Int->dM} {x:Nd} (h:x.k=1):cG t N x=x.kids.flatMap N:=by
 obtain⟨k,tt,v,ks,f,e⟩:=x;obtain rfl:k=1:=h;rfl
theorem Lh (hc:∀ i,i < t.length->wo t i) (h64:∀ i,i < t.length->(t.getD i default).v<=9223372036854775807) (hl:1<=t.length) (hr:(t.getD (t.length - 1) default).k=1):∃ xs K,Rd (.sq .it) xs K/\xs.map (·.t)=IK t/\(∀ x∈xs,Gx x)/\zN t t.length (t.length - 1)=tr 1 [] 0 K:=by
 obtain⟨f,hf⟩:∃ f,t.length=f+1:=⟨t.length - 1,om⟩;have o:=hc (t.length - 1) om;have hkid:=o.kid;have hfit:=o.fit;have hnm:=o.nm;have hnum:=o.num;rw[hr]at hfit hnm hnum;have e1:(t.getD (t.length - 1) default).t=[]:=af (hnm:decide _=true);have e2:(t.getD (t.length - 1) default).v=0:=af (hnum:decide _=true);obtain⟨p,m,q,hks,hp,hm,hq⟩:=mR (a:=[]) (c:=105) (b:=[]) hfit;obtain rfl:=dY hp;obtain rfl:=dY hq;rw[aq,bC]at hks;have hit:∀ k∈m,kR .it (zB t f k.toNat) (zN t f k.toNat):=fun k hk=>by
   have h3:=hkid k (by rw[hks];exact hk);have hl:=hm k hk;have h4:=Li hc h64 f k.toNat om om (wY hl);have hcl:wg (t.getD k.toNat default).k= .it:=by
    have hl:bT t k=2\/bT t k=3\/bT t k=4:=af (hl:decide _=true);unfold bT at hl;rcases hl with hl|hl|hl<;>rw[hl]<;>rfl
   rwa [hcl]at h4
 obtain⟨xs,r,e,g⟩:=P3 (N:=fun k=>zB t f k.toNat) (M:=fun k=>zN t f k.toNat) hit;refine⟨xs,_,r,?_,g,?_⟩
 ·rw[e];unfold IK;rw[hf]at hks hr⊢;simp only[zB];rw[a9l hr,hks]
 ·rw[hf]at hks hr e1 e2⊢;simp only[zN,hr,e1,e2,hks]
structure Rt (t:List Nd):Prop where
 len:1<=t.length/\t.length<=20000
 root:(t.getD (t.length - 1) default).k=1
 nd:∀ i,i < t.length->wo t i
 up:Tp.F2 t=true
theorem Lg (h:iV t=true):Rt t:=by
 unfold iV at h;simp only[ab,an,aC,fD]at h;exact⟨⟨h.1.1.1.1,h.1.1.1.2⟩,h.1.1.2,fun i hi=>LL (h.1.2 i hi),h.2⟩
theorem Rt.b (h:Rt t):iV t=true:=by
 unfold iV;simp only[ab,an,aC,fD];exact⟨⟨⟨h.len,h.root⟩,fun i hi=>(h.nd i hi).b⟩,h.up⟩
end
def nj (t:List Nd):Nat->Nat->Fo
 |0,_=> .nil
 |f+1,n=> .cons (t.getD n default).k (t.getD n default).t (t.getD n default).v (t.getD n default).f (t.getD n default).e (zL (fun k=>nj t f k.toNat) (t.getD n default).kids) .nil
def Fo.z:Fo->Fo
 | .nil=> .nil
 | .cons k t v _ _ a b=> .cons k t v 0 0 a.z b.z
theorem Fo.V6:∀ a b:Fo,(a.app b).z=a.z.app b.z
 | .nil,_=>rfl
 | .cons _ _ _ _ _ _ r,b=>by simp only[Fo.app,Fo.z,Fo.V6 r b]
theorem Xg (N:Int->Fo):∀ ks:List Int,(zL N ks).z=zL (fun k=>(N k).z) ks
  |[]=>rfl
  |k::r=>by simp only[zL,Fo.V6,Xg N r]
theorem Mf (t:List Nd):∀ f n,(nj t f n).z=zN t f n
 |0,_=>rfl
 |f+1,n=>by
  have e:(fun k:Int=>(nj t f k.toNat).z)=fun k=>zN t f k.toNat:=funext fun k=>Mf t f k.toNat;simp only[nj,Fo.z,zN,Xg,e]
theorem Fo.ML:∀ a:Fo,a.z.sz=a.sz
 | .nil=>rfl
 | .cons _ _ _ _ _ a b=>by simp only[Fo.z,Fo.sz,Fo.ML a,Fo.ML b]
theorem Fo.V5:∀ (a:Fo) (n:Nat),a.z.idx n=a.idx n
 | .nil,_=>rfl
 | .cons _ _ _ _ _ a b,n=>by simp only[Fo.z,Fo.idx,Fo.ML a,Fo.V5 b]
theorem KT (N:Int->Fo) (ks:List Int) (j:Nat) (h:j < ks.length):zL N (ks.take (j+1))=(zL N (ks.take j)).app (N (ks.getD j 0)):=by
 rw[dL,ae h,Option.toList_some,zM,fY,av,ae h];rfl
theorem Mg (t:List Nd) {f n:Nat} (h:0 < f):∃ a,nj t f n= .cons (t.getD n default).k (t.getD n default).t (t.getD n default).v (t.getD n default).f (t.getD n default).e a .nil:=by
 obtain⟨f,rfl⟩:∃ g,f=g+1:=⟨f - 1,om⟩;exact⟨_,rfl⟩
theorem KU (N:Int->Fo) (ks:List Int) (j:Nat):(zL N (ks.take j)).sz<=(zL N ks).sz:=by
 conv=>rhs;rw[<-bG j ks]
 rw[zM,Fo.eF];omega
end Go.Vm.Pa
namespace Go.Vm.Tp
open Go.Vm.Lex
structure Up (t:List Nd) (up:List Int):Prop where
 len:up.length=t.length
 kid:∀ i,i < t.length->∀ k∈(t.getD i default).kids,0<=k/\k < i/\up.getD k.toNat (-1)=i
 nod:∀ i,i < t.length->(t.getD i default).kids.Nodup
theorem yL (i:Nat):∀ (ks out r:List Int),iw i ks out=some r->(∀ k∈ks,0<=k/\k < out.length)->
 (∀ j:Nat,0<=out.getD j (-1)->r.getD j (-1)=out.getD j (-1))/\(∀ k∈ks,r.getD k.toNat (-1)=i/\¬ 0<=out.getD k.toNat (-1))/\ks.Nodup
 |[],out,r,h,_=>by cases h;exact⟨fun _ _=>rfl,by simp,List.nodup_nil⟩
 |k::ks,out,r,h,hk=>by
  simp only[iw]at h;split at h
  ·cases h
  rename_i hc;have hk0:=hk k (by simp);have hlt:k.toNat < out.length:=om;have e0:out.getD k.toNat 0=out.getD k.toNat (-1):=by simp[hlt]
  rw[e0]at hc;obtain⟨h1,h2,h3⟩:=yL i ks _ r h (by intro k' h';rw[cX];exact hk k' (by simp[h']));have es:(out.set k.toNat (i:Int)).getD k.toNat (-1)=i:=by simp[hlt]
  have hki:r.getD k.toNat (-1)=i:=by
   rw[h1 k.toNat (by rw[es];omega),es]
  refine⟨fun j hj=>?_,fun k' h'=>?_,?_⟩
  ·by_cases hjk:k.toNat=j
   ·subst hjk;exact absurd hj hc
   ·have:(out.set k.toNat (i:Int)).getD j (-1)=out.getD j (-1):=by simp[av,hjk]
    rw[h1 j (by rw[this];exact hj),this]
  ·rcases bs.1 h' with rfl|h'
   ·exact⟨hki,hc⟩
   ·refine⟨(h2 k' h').1,fun hp=>(h2 k' h').2 ?_⟩;by_cases hjk:k.toNat=k'.toNat
    ·rw[<-hjk,es];omega
    ·have:(out.set k.toNat (i:Int)).getD k'.toNat (-1)=out.getD k'.toNat (-1):=by simp[av,hjk]
     rw[this];exact hp
  ·refine List.nodup_cons.2 ⟨fun hm=>(h2 k hm).2 ?_,h3⟩;rw[es];omega
theorem zZ (n:Nat):∀ (i:Nat) (t:List Nd) (out r:List Int),j9 i t out=some r->out.length=n->(∀ j,j < t.length->∀ k∈(t.getD j default).kids,0<=k/\k < n)->
 (∀ j:Nat,0<=out.getD j (-1)->r.getD j (-1)=out.getD j (-1))/\∀ j,j < t.length->(∀ k∈(t.getD j default).kids,r.getD k.toNat (-1)=(i+j:Nat))/\(t.getD j default).kids.Nodup
 |i,[],out,r,h,_,_=>by cases h;exact⟨fun _ _=>rfl,fun j hj=>absurd hj (gC _)⟩
 |i,x::t,out,r,h,hn,hk=>by
  simp only[j9]at h;obtain⟨o,h1,h2⟩:=bY.1 h;have hx:=hk 0 (by simp);simp only[fR]at hx;obtain⟨a1,a2,a3⟩:=yL i x.kids out o h1 (by intro k hk;have:=hx k hk;omega);obtain⟨b1,b2⟩:=zZ n (i+1) t o r h2 (by rw[vz i _ _ _ h1];exact hn) (fun j hj=>by have:=hk (j+1) (by simpa using hj);simpa using this);refine⟨fun j hj=>?_,fun j hj=>?_⟩
  ·have:=a1 j hj;rw[b1 j (by rw[this];exact hj),this]
  ·cases j with
   |zero=>
    refine⟨fun k hk=>?_,a3⟩;have:=(a2 k hk).1;rw[b1 _ (by rw[this];omega),this];rfl
   |succ j=>
    obtain⟨c1,c2⟩:=b2 j (by simpa using hj);refine⟨fun k hk=>?_,c2⟩;rw[c1 k hk];congr 1;omega
theorem a3r {t:List Nd} {up:List Int} (h:ups t=some up) (hk:∀ i,i < t.length->∀ k∈(t.getD i default).kids,0<=k/\k < i):Up t up:=by
 have hl:=(ui h).1;obtain⟨_,h2⟩:=zZ t.length 0 t _ up h (by simp) (fun j hj k hm=>by have:=hk j hj k hm;omega);refine⟨hl,fun i hi k hm=>?_,fun i hi=>(h2 i hi).2⟩;obtain⟨a,b⟩:=hk i hi k hm;exact⟨a,b,by rw[(h2 i hi).1 k hm];simp⟩
def mr (f:Nat->Nat):Nat->Nat
 |0=>0
 |n+1=>mr f n+f n
theorem uq {f g:Nat->Nat}:∀ n,(∀ i,i < n->f i<=g i)->mr f n<=mr g n
 |0,_=>ai _
 |n+1,h=>Nat.add_le_add (uq n fun i hi=>h i om) (h n om)
theorem Ak (f g:Nat->Nat):∀ n,mr (fun i=>f i+g i) n=mr f n+mr g n
  |0=>rfl
  |n+1=>by simp only[mr,Ak f g n];omega
theorem CY (n:Nat):mr (fun _=>0) n=0:=by
  induction n with
  |zero=>rfl
  |succ n ih=>simp only[mr,ih]
theorem Aj (w k:Nat):∀ n,k < n->mr (fun j=>if j=k then w else 0) n=w
  |0,h=>absurd h (gC _)
  |n+1,h=>by
   simp only[mr];by_cases hk:k=n
   ·subst hk;rw[ay rfl];have:mr (fun j=>if j=k then w else 0) k=0:=by
      have h1:=uq (f:=fun j=>if j=k then w else 0) (g:=fun _=>0) k (fun i hi=>by rw[aA om];exact ai _);rw[CY]at h1;omega
    omega
   ·rw[Aj w k n om,aA (fun e=>hk e.symm)];rfl
theorem xY (W:Nat->Nat) (n:Nat):∀ l:List Nat,l.Nodup->(∀ k∈l,k < n)->(l.map W).sum=mr (fun j=>if j∈l then W j else 0) n
  |[],_,_=>by simp only[bp,List.sum_nil,cK,iE];exact(CY n).symm
  |k::l,hd,hn=>by
   rw[List.nodup_cons]at hd;simp only[aB,jn];rw[xY W n l hd.2 (fun k h=>hn k (by simp[h])),<-Aj (W k) k n (hn k (by simp)),<-Ak];congr 1;funext j;by_cases hj:j=k
   ·subst hj;simp[hd.1]
   ·simp[hj]
theorem Wd {t:List Nd} {up:List Int} (hu:Up t up) (K W:Nat->Nat) (hW:∀ i,i < t.length->W i<=K i+((t.getD i default).kids.map fun k=>W k.toNat).sum):
    ∀ n,n<=t.length->mr (fun j=>if 0<=up.getD j (-1)/\up.getD j (-1) < n then 0 else W j) n<=mr K n
  |0,_=>ai _
  |n+1,hn=>by
   have ih:=Wd hu K W hW n om;have hk:=hu.kid n om;have hnd:=hu.nod n om;have hWn:=hW n om;have hl:((t.getD n default).kids.map Int.toNat).Nodup:=by
    unfold List.Nodup at hnd⊢;rw[List.pairwise_map];refine hnd.imp_of_mem fun{a b} ha hb hab=>?_;have:=hk a ha;have:=hk b hb;omega
   have hs:=xY W n _ hl (by intro k hm;obtain⟨a,ha,rfl⟩:=e9.1 hm;have:=hk a ha;omega);rw[cV]at hs;have hs':((t.getD n default).kids.map fun k=>W k.toNat).sum=mr (fun j=>if j∈(t.getD n default).kids.map Int.toNat then W j else 0) n:=hs;have h2:mr (fun j=>if 0<=up.getD j (-1)/\up.getD j (-1) < (n+1:Nat) then 0 else W j) n+mr (fun j=>if j∈(t.getD n default).kids.map Int.toNat then W j else 0) n<=mr (fun j=>if 0<=up.getD j (-1)/\up.getD j (-1) < n then 0 else W j) n:=by
     rw[<-Ak];refine uq n fun j hj=>?_;by_cases hm:j∈(t.getD n default).kids.map Int.toNat
     ·obtain⟨a,ha,rfl⟩:=e9.1 hm;have:=hk a ha;rw[ay hm,ay om,aA om];omega
     ·rw[aA hm];by_cases hc:0<=up.getD j (-1)/\up.getD j (-1) < n
      ·rw[ay hc,ay om];omega
      ·rw[aA hc];split<;>omega
   simp only[mr];have h3:(if 0<=up.getD n (-1)/\up.getD n (-1) < (n+1:Nat) then 0 else W n)<=W n:=by split<;>omega
   omega
theorem IW {t:List Nd} {up:List Int} (hu:Up t up) (K W:Nat->Nat) (hW:∀ i,i < t.length->W i<=K i+((t.getD i default).kids.map fun k=>W k.toNat).sum) (n:Nat) (hn:n < t.length) (hr:¬ 0<=up.getD n (-1)):W n<=mr K t.length:=by
  have h:=Wd hu K W hW t.length (ai _);have:W n<=mr (fun j=>if 0<=up.getD j (-1)/\up.getD j (-1) < t.length then 0 else W j) t.length:=by
    rw[<-Aj (W n) n t.length hn];refine uq _ fun j hj=>?_;by_cases hjn:j=n
    ·subst hjn;rw[ay rfl,aA om];exact ai _
    ·rw[aA hjn];exact aR _
  omega
theorem RT {v:Int} {ks:List Int} (h:fP 2 v ks=true):∃ ps a b,ks=ps++[a,b]/\(∀ k∈ps,k=7)/\nR a=true/\b=20:=by
 have e:fP 2 v ks=(decide (([]:List UInt8).length+([116,98]:List UInt8).length<=ks.length) && (bx [] (ks.take ([]:List UInt8).length) && ((ks.take (ks.length - ([116,98]:List UInt8).length)).drop ([]:List UInt8).length).all (dE 113) && bx [116,98] (ks.drop (ks.length - ([116,98]:List UInt8).length)))):=rfl;rw[e]at h;simp only[ab,an,aH,aw,bq,bt]at h;obtain⟨h1,⟨_,h2⟩,h3⟩:=h;refine⟨ks.take (ks.length - 2),?_⟩;cases hd:ks.drop (ks.length - 2)with
 |nil=>rw[hd]at h3;cases h3
 |cons a r=>
  rw[hd]at h3;cases r with
  |nil=>simp[bx]at h3
  |cons b r=>
   have hl:(ks.drop (ks.length - 2)).length=2:=by rw[bh];omega
   rw[hd]at hl;cases r with
   |cons c r=>simp at hl
   |nil=>
    refine⟨a,b,?_,?_,?_,?_⟩
    ·rw[<-hd,bG]
    ·intro k hk;have:=aC.1 h2 k hk;simpa [dE] using this
    ·simp[bx,dE]at h3;exact h3.1
    ·simp[bx,dE]at h3;exact h3.2
theorem Nu {ps:List Int} {a b:Int} (h:∀ k∈ps,k=7) (ha:nR a=true) (hb:b=20):params (ps++[a,b])=ps.length:=by
 unfold params;rw[List.filter_append,List.filter_eq_self.2 (by intro k hk;simpa using h k hk)];have h7:a≠7:=by intro e;subst e;cases ha
 subst hb;simp[h7]
theorem J7 {v:Int} {ks:List Int} (hn:gd 2 v (params ks)=true) (hf:fP 2 v ks=true):v=((ks.length - 2:Nat):Int)/\2<=ks.length:=by
 obtain⟨ps,a,b,rfl,h1,h2,h3⟩:=RT hf;rw[Nu h1 h2 h3]at hn;have e:gd 2 v ps.length=decide (v=ps.length):=rfl;rw[e,an]at hn;simp only[ah,aw,aH];constructor<;>omega
structure vt (t:List Nd) (i:Nat) (x:Nd):Prop where
 kid:∀ k∈x.kids,0<=k/\k < i
 kn:ey x.k=true
 nm:vM x.k x.t=true
 num:gd x.k x.v (params (kinds t x.kids))=true
 fe:0<=x.f/\x.f<=x.e
 fit:fP x.k x.v (kinds t x.kids)=true
theorem a7a {t:List Nd} {i:Nat} (h:je t i=true):vt t i (t.getD i default):=by
 unfold je at h;simp only[ab,an,aC]at h;obtain⟨h1,⟨⟨⟨⟨h2,h3⟩,h4⟩,h5⟩,h6⟩,h7⟩:=h;exact⟨h1,h2,h3,h4,⟨h5,h6⟩,h7⟩
theorem vt.len {t:List Nd} {i:Nat} {x:Nd} (h:vt t i x):WI x.k x.kids.length:=by
 have:=RW h.fit;rwa [show(kinds t x.kids).length=x.kids.length from aE ..]at this
theorem vt.fn {t:List Nd} {i:Nat} {x:Nd} (h:vt t i x) (hk:x.k=2):x.v=((x.kids.length - 2:Nat):Int)/\2<=x.kids.length:=by
 have h1:=h.num;have h2:=h.fit;rw[hk]at h1 h2;have:=J7 h1 h2;rwa [show(kinds t x.kids).length=x.kids.length from aE ..]at this
structure qq (t:List Nd) (up:List Int):Prop where
 lo:1<=t.length
 hi:t.length<=20000
 root:(t.getD (t.length - 1) default).k=1
 nod:∀ i,i < t.length->vt t i (t.getD i default)
 ups:ups t=some up
 one:up.dropLast.contains (-1)=false
 deep:vT (deps up)<=400
theorem XD {t:List Nd} (h:iV t=true):∃ up,qq t up:=by
 unfold iV at h;simp only[ab,an,aC]at h;obtain⟨⟨⟨⟨h1,h2⟩,h3⟩,h4⟩,h5⟩:=h;unfold F2 at h5;cases hu:ups t with
 |none=>rw[hu]at h5;cases h5
 |some up=>
  rw[hu]at h5;simp only[ab,an,bg,dv]at h5;refine⟨up,h1,h2,h3,fun i hi=>a7a (h4 i (fD.2 hi)),hu,?_,h5.2⟩;rcases h5.1 with e|e
  ·subst e;rfl
  ·exact e
theorem qq.up {t:List Nd} {up:List Int} (h:qq t up):Up t up:=a3r h.ups fun i hi k hk=>(h.nod i hi).kid k hk
theorem Ai {α:Type} {f g:α->Nat}:∀ l:List α,(∀ a∈l,f a<=g a)->(l.map f).sum<=(l.map g).sum
 |[],_=>ai _
 |a::l,h=>by
  simp only[aB,jn];have:=h a (by simp);have:=Ai l fun a h'=>h a (by simp[h']);omega
theorem HD (N:Int->dM):∀ l:List Int,(l.flatMap N).length=(l.map fun k=>(N k).length).sum
  |[]=>rfl
  |a::l=>by rw[gV,ah,HD N l];rfl
theorem EL (N:Int->dM) (l:List Int):(gw N l).length<=l.length+(l.map fun k=>(N k).length).sum:=by
  cases l with
  |nil=>exact ai _
  |cons a r=>
   have:(r.flatMap fun k=>[44]::N k).length=r.length+(r.map fun k=>(N k).length).sum:=by
     induction r with
     |nil=>rfl
     |cons b r ih=>simp only[gV,ah,aw,ih,aB,jn];omega
   simp only[gw,ah,this,aB,jn,aw];omega
theorem K6 {α:Type} (f:α->Nat):∀ {l:List α} {i:Nat} {a:α},l[i]? =some a->f a<=(l.map f).sum
 |[],i,a,h=>by simp at h
 |b::l,0,a,h=>by cases h;simp
 |b::l,i+1,a,h=>by
  have:=K6 f (l:=l) (i:=i) (a:=a) (by simpa using h);simp only[aB,jn];omega
theorem Lw (t:List Nd) (N:Int->dM) (k:Int) (g:Bool):(dm t N k g).length<=2+(N k).length:=by
 unfold dm;split<;>simp;omega
theorem SS (t:List Nd) (i:Nat) (x:Nd) (N:Int->dM) (h:vt t i x):(cG t N x).length<=10+x.kids.length+(x.kids.map fun k=>(N k).length).sum:=by
  have hlen:=h.len;have hfn:=h.fn;obtain⟨q,tx,v,kids,f,e⟩:=x;simp only at hlen hfn⊢;have hl:=EL N kids;have hfl:=HD N kids;have hper:∀ l:List Int,(mM N l).length<=2+(l.map fun k=>(N k).length).sum:=by
    intro l;cases l with
    |nil=>simp[mM]
    |cons a r=>simp[mM];omega
  have hp:=hper kids;have one:∀ n,n < kids.length->(N (kids.getD n 0)).length<=(kids.map fun k=>(N k).length).sum:=fun n hn=>K6 (fun k=>(N k).length) (i:=n) (by simp[hn]);have on1:kids.length=1->(N (kids.getD 0 0)).length<=(kids.map fun k=>(N k).length).sum:=fun hh=>one 0 om;have on2:kids.length=2->(N (kids.getD 0 0)).length+(N (kids.getD 1 0)).length<=(kids.map fun k=>(N k).length).sum:=fun hh=>by
    match kids,hh with
    |[a,b],_=>simp
  have on3:kids.length=3->(N (kids.getD 0 0)).length+(N (kids.getD 1 0)).length+(N (kids.getD 2 0)).length<=(kids.map fun k=>(N k).length).sum:=fun hh=>by
    match kids,hh with
    |[a,b,c],_=>simp;omega
  have o0:=fun g=>Lw t N (kids.getD 0 0) g;have o1:=fun g=>Lw t N (kids.getD 1 0) g;have e2:q=2->(WT t N ⟨q,tx,v,kids,f,e⟩).length<=10+kids.length+(kids.map fun k=>(N k).length).sum:=by
    intro hq;obtain⟨hv,hn⟩:=hfn hq;have hvn:v.toNat=kids.length - 2:=om;have ek:kids=kids.take (kids.length - 2)++[kids.getD (kids.length - 2) 0,kids.getD (kids.length - 2+1) 0]:=by
     conv=>lhs;rw[<-bG (kids.length - 2) kids]
     congr 1;rw[bV om,bV om,bU om];simp[show kids.length - 2 < kids.length by omega,show kids.length - 2+1 < kids.length by omega]
    have hs:(kids.map fun k=>(N k).length).sum=((kids.take (kids.length - 2)).map fun k=>(N k).length).sum+((N (kids.getD (kids.length - 2) 0)).length+(N (kids.getD (kids.length - 2+1) 0)).length):=by
      conv=>lhs;rw[ek]
      rw[aM,List.sum_append];simp
    have hlt:=EL N (kids.take (kids.length - 2));rw[bm]at hlt;unfold WT;simp only[kid,hvn];simp only[ah,aw,aH];split
    ·simp only[aH];omega
    ·simp only[ah,aw,aH];omega
  have e46:q=46->(gw N (kids.drop 1)).length+(N (kids.getD 0 0)).length<=kids.length+(kids.map fun k=>(N k).length).sum:=by
    intro hq;have:=hlen.2.2.2.2.2.2 hq;cases kids with
    |nil=>simp at this
    |cons a r=>
     have:=EL N r;simp only[cm,bq,fR,aB,jn,aw];omega
  obtain⟨l1,l2,l3,l4,l5,l6,l7⟩:=hlen;unfold cG;simp only;split
  ·simp only[ah,aw,aH];omega
  split
  ·unfold tG;simp only[kid]
   repeat' split
   all_goals first
     |exact e2 (by assumption)
     |((try simp only[ah,aw,aH]);first|omega|(have:=on1 (l2 (by omega));omega))
  split
  ·unfold Aa;simp only[kid]
   repeat' split
   all_goals((try simp only[ah,aw,aH]);first|omega|(have:=on1 (l2 (by omega));omega))
  split
  ·unfold sX;simp only[kid];split
   ·unfold Rk;simp only[kid];rcases l4 om with hk|hk
    ·have:=on1 hk;rw[aA (show ¬ kids.length=2 by omega),show kids.length - 1=0 by omega];split<;>simp only[ah,aw,aH]<;>omega
    ·have:=on2 hk;rw[ay hk,show kids.length - 1=1 by omega];split<;>simp only[ah,aw,aH]<;>omega
   repeat' split
   all_goals((try simp only[ah,aw,aH]);first|omega|(have:=on1 (l2 (by omega));omega)|(have:=on2 (l5 (by omega));have:=o0 false;have:=o1 false;omega))
  split
  ·unfold sy;simp only[kid]
   repeat' split
   all_goals first
     |((try simp only[ah,aw,aH]);first|omega|(have:=on1 (l2 (by omega));have:=o0 false;have:=o0 true;omega)|(have:=on2 (l5 (by omega));have:=o0 false;have:=o1 false;omega)|(have:=e46 (by omega);have:=o0 false;omega)|(have:=on3 (by assumption);have:=o0 false;omega))
     |skip
   all_goals((try simp only[ah,aw,aH]);rcases l6 (by omega)with hk|hk;(have:=on2 hk;have:=o0 false;omega);(exfalso;contradiction))
  ·have n1:(Ez v).length<=2:=by unfold Ez;split<;>simp
   have n2:(Cf v).length=1:=rfl;have n3:(AV tx).length=3:=rfl;unfold kL;simp only;by_cases g0:q=30\/q=52
   ·rw[ay g0]
    ((try simp only[kid,ah,aw,aH]);first|omega|(have:=on1 (l2 (by omega));omega)|(have:=on2 (l5 (by omega));omega))
   rw[aA g0];by_cases g1:q=31\/q=53
   ·rw[ay g1]
    ((try simp only[kid,ah,aw,aH]);first|omega|(have:=on1 (l2 (by omega));omega)|(have:=on2 (l5 (by omega));omega))
   rw[aA g1];by_cases g2:q=32
   ·rw[ay g2]
    ((try simp only[kid,ah,aw,aH]);first|omega|(have:=on1 (l2 (by omega));omega)|(have:=on2 (l5 (by omega));omega))
   rw[aA g2];by_cases g3:q=33\/q=51
   ·rw[ay g3]
    ((try simp only[kid,ah,aw,aH]);first|omega|(have:=on1 (l2 (by omega));omega)|(have:=on2 (l5 (by omega));omega))
   rw[aA g3];by_cases g4:q=50
   ·rw[ay g4]
    ((try simp only[kid,ah,aw,aH]);first|omega|(have:=on1 (l2 (by omega));omega)|(have:=on2 (l5 (by omega));omega))
   rw[aA g4];by_cases g5:q=34
   ·rw[ay g5]
    ((try simp only[kid,ah,aw,aH]);first|omega|(have:=on1 (l2 (by omega));omega)|(have:=on2 (l5 (by omega));omega))
   rw[aA g5];by_cases g6:q=35
   ·rw[ay g6]
    ((try simp only[kid,ah,aw,aH]);first|omega|(have:=on1 (l2 (by omega));omega)|(have:=on2 (l5 (by omega));omega))
   rw[aA g6];by_cases g7:q=36
   ·rw[ay g7]
    ((try simp only[kid,ah,aw,aH]);first|omega|(have:=on1 (l2 (by omega));omega)|(have:=on2 (l5 (by omega));omega))
   rw[aA g7];by_cases g8:q=37\/q=54
   ·rw[ay g8]
    ((try simp only[kid,ah,aw,aH]);first|omega|(have:=on1 (l2 (by omega));omega)|(have:=on2 (l5 (by omega));omega))
   rw[aA g8];by_cases g9:q=44
   ·rw[ay g9]
    ((try simp only[kid,ah,aw,aH]);first|omega|(have:=on1 (l2 (by omega));omega)|(have:=on2 (l5 (by omega));omega))
   rw[aA g9];by_cases g10:q=47
   ·rw[ay g10]
    ((try simp only[kid,ah,aw,aH]);first|omega|(have:=on1 (l2 (by omega));omega)|(have:=on2 (l5 (by omega));omega))
   rw[aA g10];show([]:dM).length<=_;simp only[aH];omega
theorem zX (i:Nat):∀ (ks out r:List Int),iw i ks out=some r->(∀ k∈ks,0<=k)->∀ (j:Nat),0<=r.getD j (-1)->0<=out.getD j (-1)/\r.getD j (-1)=out.getD j (-1)\/r.getD j (-1)=i/\(j:Int)∈ks
 |[],out,r,h,_,j,hj=>by cases h;exact .inl ⟨hj,rfl⟩
 |k::ks,out,r,h,hk,j,hj=>by
  simp only[iw]at h;split at h
  ·cases h
  have hk0:=hk k (by simp);rcases zX i ks _ r h (fun k' h'=>hk k' (by simp[h'])) j hj with⟨h1,h2⟩|⟨h1,h2⟩
  ·by_cases hjk:k.toNat=j
   ·subst hjk;right;by_cases hlt:k.toNat < out.length
    ·refine⟨by rw[h2];simp[hlt],?_⟩;rw[show((k.toNat:Nat):Int)=k by omega];simp
    ·rw[h2]at hj;simp[hlt]at hj
   ·left;have:(out.set k.toNat (i:Int)).getD j (-1)=out.getD j (-1):=by simp[av,hjk]
    rw[this]at h1 h2;exact⟨h1,h2⟩
  ·exact .inr ⟨h1,by simp[h2]⟩
theorem CJ:∀ (i:Nat) (t:List Nd) (out r:List Int),j9 i t out=some r->(∀ x∈t,∀ k∈x.kids,0<=k)->∀ (j:Nat),0<=r.getD j (-1)->0<=out.getD j (-1)\/∃ a,a < t.length/\r.getD j (-1)=(i+a:Nat)/\(j:Int)∈(t.getD a default).kids
 |i,[],out,r,h,_,j,hj=>by cases h;exact .inl hj
 |i,x::t,out,r,h,hk,j,hj=>by
  simp only[j9]at h;obtain⟨o,h1,h2⟩:=bY.1 h;rcases CJ (i+1) t o r h2 (fun y hy=>hk y (by simp[hy])) j hj with h3|⟨a,h3,h4,h5⟩
  ·rcases zX i x.kids out o h1 (hk x (by simp)) j h3 with⟨h4,_⟩|⟨h4,h5⟩
   ·exact .inl h4
   ·refine .inr ⟨0,by simp,?_,by simpa using h5⟩;by_cases hr:r.getD j (-1)=(i:Int)
    ·rw[hr];simp
    ·exfalso;exact hr (by
       have:=upAll_keep (i+1) t o r h2 j h3;rw[this,h4])
  ·exact .inr ⟨a+1,by simp;omega,by rw[h4];congr 1;omega,by simpa using h5⟩
where
 upKids_keep (i:Nat):∀ (ks out r:List Int),iw i ks out=some r->∀ j:Nat,0<=out.getD j (-1)->r.getD j (-1)=out.getD j (-1)
  |[],out,r,h,j,hj=>by cases h;rfl
  |k::ks,out,r,h,j,hj=>by
   simp only[iw]at h;split at h
   ·cases h
   rename_i hc;have:(out.set k.toNat (i:Int)).getD j (-1)=out.getD j (-1):=by
    by_cases hjk:k.toNat=j
    ·subst hjk;by_cases hlt:k.toNat < out.length
     ·have e:out.getD k.toNat 0=out.getD k.toNat (-1):=by simp[hlt]
      rw[e]at hc;exact absurd hj hc
     ·simp[hlt]
    ·simp[av,hjk]
   rw[upKids_keep i ks _ r h j (by rw[this];exact hj),this]
 upAll_keep:∀ (i:Nat) (t:List Nd) (out r:List Int),j9 i t out=some r->∀ j:Nat,0<=out.getD j (-1)->r.getD j (-1)=out.getD j (-1)
  |i,[],out,r,h,j,hj=>by cases h;rfl
  |i,x::t,out,r,h,j,hj=>by
   simp only[j9]at h;obtain⟨o,h1,h2⟩:=bY.1 h;have e1:=upKids_keep i x.kids out o h1 j hj;rw[upAll_keep (i+1) t o r h2 j (by rw[e1];exact hj),e1]
theorem DZ {t:List Nd} {up:List Int} (h:ups t=some up) (hk:∀ x∈t,∀ k∈x.kids,0<=k) (j:Nat) (hj:0<=up.getD j (-1)):up.getD j (-1) < t.length/\(j:Int)∈(t.getD (up.getD j (-1)).toNat default).kids:=by
 rcases CJ 0 t _ up h hk j hj with h1|⟨a,h1,h2,h3⟩
 ·exfalso;rw[av,iG]at h1;split at h1<;>simp at h1
 ·rw[h2];exact⟨om,by simpa using h3⟩
theorem qq.Y6 {t:List Nd} {up:List Int} (h:qq t up):∀ x∈t,∀ k∈x.kids,0<=k:=by
 intro x hx k hk;obtain⟨i,hi,rfl⟩:=kI hx;have e:t.getD i default=t[i]:=by simp[hi]
 have:=(h.nod i hi).kid k (by rw[e];exact hk);exact this.1
theorem qq.above {t:List Nd} {up:List Int} (h:qq t up) (j:Nat) (hj:0<=up.getD j (-1)):(j:Int) < up.getD j (-1)/\up.getD j (-1) < t.length/\(j:Int)∈(t.getD (up.getD j (-1)).toNat default).kids:=by
 obtain⟨h1,h2⟩:=DZ h.ups h.Y6 j hj;exact⟨by have:=((h.nod (up.getD j (-1)).toNat om).kid _ h2).2;omega,h1,h2⟩
theorem qq.last {t:List Nd} {up:List Int} (h:qq t up):¬ 0<=up.getD (t.length - 1) (-1):=fun hj=>by
  have:=h.above _ hj;have:=h.lo;omega
def MM (t:List Nd):Nat->List Nat
 |0=>[]
 |i+1=>MM t i++[10+(t.getD i default).kids.length+((t.getD i default).kids.map fun k=>(MM t i).getD k.toNat 0).sum]
theorem DU (t:List Nd):∀ i,(MM t i).length=i
 |0=>rfl
 |i+1=>by simp[MM,DU t i]
def wt (t:List Nd) (j:Nat):Nat:=(MM t (j+1)).getD j 0
theorem KY (t:List Nd) (j:Nat):∀ i,j < i->(MM t i).getD j 0=wt t j
 |0,h=>absurd h (gC _)
 |i+1,h=>by
  by_cases hj:j=i
  ·subst hj;rfl
  ·have hlt:j < (MM t i).length:=by rw[DU];omega
   have:(MM t (i+1)).getD j 0=(MM t i).getD j 0:=by simp[MM,av,aD hlt]
   rw[this,KY t j i om]
theorem Wb (t:List Nd) (i:Nat) (hk:∀ k∈(t.getD i default).kids,0<=k/\k < i):wt t i=10+(t.getD i default).kids.length+((t.getD i default).kids.map fun k=>wt t k.toNat).sum:=by
  have e:wt t i=10+(t.getD i default).kids.length+((t.getD i default).kids.map fun k=>(MM t i).getD k.toNat 0).sum:=by
    unfold wt;have hl:(MM t i).length=i:=DU t i;simp only[MM];rw[av,aK om,hl,dR];rfl
  rw[e];congr 2;refine bJ fun k hm=>?_;have:=hk k hm;exact KY t _ i om
theorem Lm {t:List Nd} (h:∀ i,i < t.length->vt t i (t.getD i default)):∀ f n,n < t.length->(zB t f n).length<=wt t n
 |0,n,_=>aR _
 |f+1,n,hn=>by
  have hno:=h n hn;rw[Wb t n hno.kid];refine dD (SS t n _ _ hno) (Nat.add_le_add_left ?_ _);refine Ai _ fun k hk=>?_;have:=hno.kid k hk;exact Lm h f k.toNat om
theorem vE (c:Nat):∀ n,mr (fun _=>c) n=n*c
  |0=>by simp[mr]
  |n+1=>by simp only[mr,vE c n,Nat.succ_mul]
theorem Rz {t:List Nd} {up:List Int} (hu:Up t up) (i:Nat) (hi:i < t.length):(t.getD i default).kids.length<=i:=by
 have hk:=hu.kid i hi;have hnd:=hu.nod i hi;have hl:((t.getD i default).kids.map Int.toNat).Nodup:=by
  unfold List.Nodup at hnd⊢;rw[List.pairwise_map];refine hnd.imp_of_mem fun{a b} ha hb hab=>?_;have:=hk a ha;have:=hk b hb;omega
 have hs:=xY (fun _=>1) i _ hl (by intro k hm;obtain⟨a,ha,rfl⟩:=e9.1 hm;have:=hk a ha;omega);have h1:(((t.getD i default).kids.map Int.toNat).map fun _=>1).sum=(t.getD i default).kids.length:=by
   rw[cV];generalize(t.getD i default).kids=l;induction l with
   |nil=>rfl
   |cons a l ih=>simp only[aB,jn,ih,aw,Function.comp];omega
 have h2:mr (fun j=>if j∈(t.getD i default).kids.map Int.toNat then 1 else 0) i<=i:=by
   have:=uq (f:=fun j=>if j∈(t.getD i default).kids.map Int.toNat then 1 else 0) (g:=fun _=>1) i (fun j _=>by split<;>omega);rw[vE]at this;omega
 omega
theorem Ul {t:List Nd} {up:List Int} (h:qq t up):(IK t).length<=400200000:=by
 have h1:=h.lo;have h2:=h.hi;have hw:=IW h.up (fun i=>10+(t.getD i default).kids.length) (wt t) (fun i hi=>by rw[Wb t i (h.nod i hi).kid];exact ai _) (t.length - 1) om h.last;have hp:=Lm h.nod t.length (t.length - 1) om;have hs:mr (fun i=>10+(t.getD i default).kids.length) t.length<=mr (fun _=>20010) t.length:=uq _ fun i hi=>by
   have:=Rz h.up i hi;omega
 rw[vE]at hs;have:t.length*20010<=20000*20010:=gT _ h2;unfold IK;omega
def KJ (s:List UInt8):Prop:=s≠[]/\s.length<=64
def jh (l:dM):Prop:=∀ s∈l,KJ s
theorem at_nil:jh []:=by intro s hs;cases hs
theorem mg (s:List UInt8) (l:dM):jh (s::l)↔KJ s/\jh l:=by unfold jh;simp
theorem tZ (l r:dM):jh (l++r)↔jh l/\jh r:=by
 unfold jh;simp only[cd];exact⟨fun h=>⟨fun s hs=>h s (.inl hs),fun s hs=>h s (.inr hs)⟩,fun h s hs=>hs.elim (h.1 s) (h.2 s)⟩
section
variable {N:Int->dM} (hN:∀ k,jh (N k))
include hN
theorem VS (l:List Int):jh (l.flatMap N):=by
 induction l with
 |nil=>exact at_nil
 |cons a l ih=>rw[gV,tZ];exact⟨hN a,ih⟩
theorem a0d (l:List Int):jh (gw N l):=by
 cases l with
 |nil=>exact at_nil
 |cons a l=>
  simp only[gw];rw[tZ];refine⟨hN a,?_⟩;induction l with
  |nil=>exact at_nil
  |cons b l ih=>rw[gV,tZ,mg];exact⟨⟨⟨by simp,by simp⟩,hN b⟩,ih⟩
theorem a0b (l:List Int):jh (mM N l):=by
 cases l with
 |nil=>exact at_nil
 |cons a l=>simp only[mM,tZ,mg];exact⟨⟨⟨⟨by simp,by simp⟩,at_nil⟩,hN a⟩,⟨⟨by simp,by simp⟩,at_nil⟩⟩
theorem a0c (t:List Nd) (k:Int) (g:Bool):jh (dm t N k g):=by
 unfold dm;split
 ·exact hN k
 ·simp only[tZ,mg];exact⟨⟨⟨⟨by simp,by simp⟩,at_nil⟩,hN k⟩,⟨⟨by simp,by simp⟩,at_nil⟩⟩
end
theorem AU {s:List UInt8} (h:de s=true):KJ s:=by
 unfold de qg at h;simp only[ab,an]at h;exact⟨h.1.1.1.1.1,h.1.2⟩
theorem PG {s:List UInt8} (h:s∈iz):KJ s:=by
 unfold iz at h;simp only[bs,cK,gR]at h;rcases h with rfl|rfl|rfl|rfl|rfl|rfl|rfl|rfl|rfl|rfl|rfl|rfl|rfl<;>exact⟨by simp,by simp⟩
theorem Hd {n:Int} (h:oE n):KJ (Lib.itoa n):=by
 refine⟨?_,dD (Lib.itoa_length_le n h.1 h.2) om⟩;intro e;have:(Lib.itoa n).length=0:=by rw[e];rfl
 by_cases hn:0<=n
 ·obtain⟨u,rfl⟩:∃ u:Nat,n=u:=⟨n.toNat,om⟩;rw[Lib.itoa_nonneg,Lib.decDigits_length]at this;have:=Lib.nDigits_pos u;omega
 ·obtain⟨u,rfl⟩:∃ u:Nat,n= -(u:Int):=⟨(-n).toNat,om⟩;rw[Lib.itoa_neg u om]at this;simp at this
theorem YN {k:Int} {s:List UInt8} (h:vM k s=true) (hk:k=2\/k=3\/k=4\/k=5\/k=6\/k=7\/k=13\/k=21\/k=33\/k=34\/k=35\/k=36\/k=41\/k=51\/k=38):KJ s:=by
 by_cases h38:k=38
 ·subst h38;have e:vM 38 s=decide (s∈iz):=rfl;rw[e,an]at h;exact PG h
 ·unfold vM at h;rw[ay om]at h;exact AU h
theorem Qt {k:Int} {s:List UInt8} (h:vM k s=true) (hk:k=37\/k=54):jh (AV s):=by
 have e:vM k s=((fV s).2.2 && de (fV s).1 && de (fV s).2.1):=by rcases hk with rfl|rfl<;>rfl
 rw[e]at h;simp only[ab]at h;unfold AV;rw[mg,mg,mg];exact⟨AU h.1.2,⟨by simp,by simp⟩,AU h.2,at_nil⟩
theorem UF {k v:Int} (hv:oE v) (hn:k=52-> -9223372036854775808 < v) (h30:k=30->0<=v) (hk:k=30\/k=52):jh (Ez v):=by
 unfold Ez;by_cases hneg:v < 0
 ·rw[ay hneg,ay hneg];have:k=52:=by
   rcases hk with rfl|rfl
   ·have:=h30 rfl;omega
   ·rfl
  have:=hn this;exact(tZ _ _).2 ⟨(mg _ _).2 ⟨⟨by simp,by simp⟩,at_nil⟩,(mg _ _).2 ⟨Hd ⟨om,by have:=hv.1;omega⟩,at_nil⟩⟩
 ·rw[aA hneg,aA hneg];exact(tZ _ _).2 ⟨at_nil,(mg _ _).2 ⟨Hd hv,at_nil⟩⟩
theorem TO (v:Int):jh (Cf v):=by
 unfold Cf;rw[mg];refine⟨?_,at_nil⟩;split<;>exact⟨by simp,by simp⟩
theorem b0g {c:Prop} [Decidable c] {a b:dM} (ha:c->jh a) (hb:¬ c->jh b):jh (if c then a else b):=by
 split
 ·exact ha (by assumption)
 ·exact hb (by assumption)
theorem UX {s:List UInt8} (h:(decide (s≠[]) && decide (s.length<=64))=true):KJ s:=by
 simp only[ab,an]at h;exact h
theorem SQ (t:List Nd) (i:Nat) (x:Nd) (N:Int->dM) (h:vt t i x) (hv:oE x.v) (hN:∀ k,jh (N k)):jh (cG t N x):=by
 have hnum:=h.num;have hnm:=h.nm;obtain⟨q,tx,v,kids,f,e⟩:=x;simp only at hnum hnm hv⊢;have hx:=YN hnm;have hp:=Qt hnm;have h52:q=52-> -9223372036854775808 < v:=by rintro rfl;have e:gd 52 v (params (kinds t kids))=decide (-9223372036854775808 < v):=rfl;rw[e,an]at hnum;exact hnum
 have h30:q=30->0<=v:=by rintro rfl;have e:gd 30 v (params (kinds t kids))=decide (0<=v):=rfl;rw[e,an]at hnum;exact hnum
 have hnt:=UF hv h52 h30;clear hnum hnm;unfold cG tG WT Aa sX Rk sy kL;simp only
 repeat' (first
   |exact at_nil
   |exact hN _
   |exact VS hN _
   |exact a0d hN _
   |exact a0b hN _
   |exact a0c hN _ _ _
   |exact TO _
   |exact hnt (by assumption)
   |exact hp (by assumption)
   |exact hx om
   |exact UX rfl
   |refine b0g (fun _=>?_) (fun _=>?_)
   |refine(tZ _ _).2 ⟨?_,?_⟩
   |refine(mg _ _).2 ⟨?_,?_⟩)
theorem Ll {t:List Nd} (h:∀ i,i < t.length->vt t i (t.getD i default)) (hv:∀ x∈t,oE x.v):∀ f n,jh (zB t f n)
 |0,n=>at_nil
 |f+1,n=>by
  by_cases hn:n < t.length
  ·exact SQ t n _ _ (h n hn) (hv _ (by simp[hn])) fun k=>Ll h hv f k.toNat
  ·have e:t.getD n default=default:=by simp[hn]
   show jh (cG t (fun k=>zB t f k.toNat) (t.getD n default));rw[e];exact at_nil
theorem LY {n:Nat}:∀ (r:List (List UInt8)),(∀ x∈r,x.length<=n)->(Lib.joinTail [32] r).length<=(n+1) *r.length
 |[],_=>by simp[Lib.joinTail]
 |x::r,h=>by
  have ih:=LY r fun y hy=>h y (by simp[hy]);have hx:=h x (by simp);simp only[Lib.joinTail,aB,List.flatten_cons,ah,aw,aH]at ih⊢;rw[Nat.mul_add];omega
theorem join_le {n:Nat} (r:List (List UInt8)) (h:∀ x∈r,x.length<=n):(Lib.join r [32]).length<=(n+1) *r.length:=by
 cases r with
 |nil=>simp[Lib.join_nil]
 |cons x r=>
  have ih:=LY r fun y hy=>h y (by simp[hy]);have hx:=h x (by simp);rw[Lib.join_cons,ah,aw,Nat.mul_add];omega
def Lk (t:List Nd):List UInt8:=Lib.join (IK t) [32]
def OI (t:List Nd):List UInt8×Int:=if iV t=true then(Lk t,0) else([],3)
end Go.Vm.Tp
