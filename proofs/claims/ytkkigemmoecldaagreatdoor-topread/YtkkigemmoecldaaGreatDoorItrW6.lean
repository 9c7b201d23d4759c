import Derived.Test.YtkkigemmoecldaaGreatDoorTreP8
set_option maxRecDepth 100000
set_option maxHeartbeats 0
set_option linter.unusedVariables false
set_option linter.unusedSimpArgs false
namespace Go.Vm.Pa
open Go.Vm.Tp (Nd gD)
open Go.Vm.Px (vo qy b1a IB)
open Go.Vm.Lex (bF)
def Fo.tn (n:Nat):Fo->List Nd
 | .nil=>[]
 | .cons k t v f e a b=>a.tn n++⟨k,t,v,(a.ix n).map fun k:Nat=>(k:Int),f,e⟩::b.tn (n+a.sz+1)
theorem Fo.yu:∀ (a:Fo) (n:Nat),a.lay n=(a.tn n).map Nd.D
 | .nil,_=>rfl
 | .cons k t v f e a b,n=>by
   simp only[Fo.lay,Fo.tn,aM,aB,Fo.yu a,Fo.yu b];rw[Fo.JZ];simp only[N.D,Nd.D,cV];rfl
theorem Fo.iy:∀ (a:Fo) (n:Nat),(a.tn n).length=a.sz
 | .nil,_=>rfl
 | .cons _ _ _ _ _ a b,n=>by simp only[Fo.tn,ah,aw,Fo.iy a,Fo.iy b,Fo.sz];omega
theorem wB (W:Fo):vo W=gD (W.tn 0):=by
 unfold vo qy gD;rw[<-Fo.w9,Fo.yu]
theorem yt (W:Fo):D.agg [.sl (W.lay 0)]=gD (W.tn 0):=by rw[Fo.yu];rfl
structure a0z (t t':List Nd):Prop where
 len:t.length=t'.length
 hl:t.length<=1000000
 kl:∀ i,i < t.length->(t.getD i default).kids.length<=1000000
 eq:∀ i,i < t.length->(t.getD i default).k=(t'.getD i default).k/\(t.getD i default).t=(t'.getD i default).t/\(t.getD i default).v=(t'.getD i default).v/\(t.getD i default).kids=(t'.getD i default).kids
theorem Fo.wI:∀ (F:Fo) (n j:Nat) (nd:Nd),(F.tn n)[j]? =some nd->∃ (a:Fo) (m:Nat),nd.kids=(a.ix m).map (fun k:Nat=>(k:Int))/\m+a.sz=n+j/\n<=m
  | .nil,_,_,_,h=>by simp[Fo.tn]at h
  | .cons k t v f e a b,n,j,nd,h=>by
    simp only[Fo.tn]at h;have hl:=Fo.iy a n;by_cases h1:j < a.sz
    ·rw[aD om]at h;exact Fo.wI a n j nd h
    ·rw[aK om,hl]at h;by_cases h2:j=a.sz
     ·subst h2;rw[dR]at h;simp only[aV,aa]at h;subst h;exact⟨a,n,rfl,rfl,ai _⟩
     ·obtain⟨m,hm⟩:∃ m,j - a.sz=m+1:=⟨j - a.sz - 1,om⟩;rw[hm,bR]at h;obtain⟨c,p,q1,q2,q3⟩:=Fo.wI b (n+a.sz+1) m nd h;exact⟨c,p,q1,om,om⟩
theorem Ag {F:Fo} {n i:Nat} (h:i < (F.tn n).length):(F.tn n)[i]? =some ((F.tn n).getD i default):=by
 rw[av,ae h];rfl
theorem VR {x y:Nd} (h:md x.D=md y.D):x.k=y.k/\x.t=y.t/\x.v=y.v/\x.kids=y.kids:=by
 simp only[Nd.D,md,D.agg.injEq,bS,D.int.injEq,D.str.injEq,D.sl.injEq,true_and,fQ]at h;exact⟨h.1,h.2.1,h.2.2.1,(List.map_inj_right (fun a b e=>by cases e;rfl)).1 h.2.2.2⟩
theorem Il {T T':Fo} (h:(T.lay 0).map md=(T'.lay 0).map md) (hs:T.sz<=1000000):a0z (T.tn 0) (T'.tn 0):=by
 rw[Fo.yu,Fo.yu,cV,cV]at h;have hl:(T.tn 0).length=(T'.tn 0).length:=by have:=aG List.length h;simpa using this
 refine⟨hl,by rw[Fo.iy];exact hs,fun i hi=>?_,fun i hi=>?_⟩
 ·obtain⟨a,m,h1,h2,_⟩:=Fo.wI T 0 i _ (Ag hi);rw[h1,aE];have h3:=(Fo.yX a m).1;rw[Fo.iy]at hi;omega
 ·have e1:=Ag hi;have e2:=Ag (F:=T') (n:=0) (i:=i) om;have:=aG (·[i]?) h;simp only[bE,e1,e2,aI,aa,Function.comp]at this;exact VR this
theorem Fo.DP:∀ (a:Fo) (n:Nat),(a.z.lay n).map md=(a.lay n).map md
 | .nil,_=>rfl
 | .cons k t v f e a b,n=>by
   simp only[Fo.z,Fo.lay,aM,aB,Fo.DP a,Fo.DP b,Fo.ML,Fo.V5];rfl
structure a3g (s:S) (W:Fo):Prop where
 sz:W.sz<=20000
 deep:Go.Vm.Pk.fh (W.eO 0)<=400
 one:∃ K e,W= .cons 1 [] 0 0 e K .nil
 rt:W.rt
 wi:W.wi 0 s.length
 ln:s.length<=65536
theorem ya {s:S} {W:Fo} {c f e:Int} (h:IB s W c f e):(c≠0/\W= .nil)\/(c=0/\a3g s W):=by
 rcases h with⟨_,rfl,rfl,rfl,rfl⟩|⟨h1,h2,rfl,rfl,rfl,rfl⟩|⟨h1,h2,n,x,_,ho⟩
 ·exact .inl ⟨by decide,rfl⟩
 ·exact .inl ⟨h2,rfl⟩
 ·cases x with
  |bad c0 f0 e0=>
   obtain⟨rfl,rfl,rfl,rfl,hc,i,hf,he⟩:=ho;exact .inl ⟨om,rfl⟩
  |ok r s1=>
   obtain⟨T,hT,ho⟩:=ho;split at ho
   ·unfold xm at ho;split at ho
    ·cases ho;exact .inl ⟨by decide,rfl⟩
    ·split at ho
     ·cases ho;exact .inl ⟨by decide,rfl⟩
     ·rename_i hn hd;cases ho;obtain⟨e,K,hW,_⟩:=hT.one;refine .inr ⟨rfl,om,om,⟨K,e,hW⟩,hT.rt,Fo.uh (cI _) ?_ hT.wi,h1⟩;unfold Mn;have:=(XE h2 (((bF s).1.length:Int) - 1).toNat).2;omega
   ·obtain⟨rfl,rfl,rfl,rfl⟩:=ho;exact .inl ⟨by decide,rfl⟩
theorem Ap {xs:List Lex.dZ} {K W:Fo} {c f e:Int} (h:Rd (.sq .it) xs K) (g:∀ x∈xs,Gx x) (p:IB (Lib.join (xs.map (·.t)) [32]) W c f e):c=2\/c=121\/(c=0/\(W.lay 0).map md=((tr 1 [] 0 K).lay 0).map md):=by
 rcases p with⟨_,_,hc,_⟩|⟨hl,hlc,_⟩|⟨hl,hlc,n,x,hx,ho⟩
 ·exact .inl hc
 ·obtain⟨ts,q,h1,_⟩:=Lex.Dq xs (fun x hx=>(g x hx).good) hl;rw[h1]at hlc;exact absurd rfl hlc
 ·obtain⟨ts,q,h1,h2⟩:=Lex.Dq xs (fun x hx=>(g x hx).good) hl;have hlen:=Lex.Rh (Lib.join (xs.map (·.t)) [32]);rw[h1]at hx ho hlen;simp only[ah,h2.length,aw,aH]at hlen;have T:=a3j (q:=q) h2 g;have hsz:=a5x h;obtain⟨M,hr⟩:=Ia (a3k om) (Zm xs) h om;have z:=a8u T (max n M);rw[xE (cN n M) hx]at z;rcases hr with⟨i,s',hr,hat,hns⟩|⟨f',e',hr⟩
  ·rw[xE (cn n M) hr]at z;cases x with
   |bad _ _ _=>exact z.elim
   |ok r s1=>
    obtain⟨_,z⟩:=z;obtain⟨T1,hT,ho⟩:=ho;have hnow:(now (ts++[⟨5,[],0,q,q⟩]) s1).k=5:=by
     unfold now;rw[z.eq.at_,hat,b8,<-h2.length,av,aK (ai _),dR];rfl
    rw[ay hnow]at ho;unfold xm at ho;split at ho
    ·cases ho;exact .inl rfl
    ·split at ho
     ·cases ho;exact .inr (.inl rfl)
     ·cases ho;refine .inr (.inr ⟨rfl,?_⟩);rw[<-hT.ns,z.eq.ns,hns]
  ·rw[xE (cn n M) hr]at z;cases x with
   |ok _ _=>exact z.elim
   |bad c0 _ _=>
    obtain⟨_,hc,_⟩:=ho;have z:c0=121:=z;exact .inr (.inl (by rw[hc,z]))
end Go.Vm.Pa
namespace Go.Vm.Pa
open Go.Vm.Tp (Nd gD dM gw dm mM cG zB IK bT kinds je ey vM gd bx dE nR pf qm rV An params)
section
variable {t t':List Nd} {N N':Int->dM} {ks ks':List Int} {tt:S} {v f e f' e':Int} {k:Int}
structure Mk (t t':List Nd) (N N':Int->dM) (ks ks':List Int):Prop where
 n:ks.map N=ks'.map N'
 k:ks.map (bT t)=ks'.map (bT t')
theorem Mk.len (h:Mk t t' N N' ks ks'):ks.length=ks'.length:=by have:=aG List.length h.n;simpa using this
theorem Mk.tl {a a':Int} {r r':List Int} (h:Mk t t' N N' (a::r) (a'::r')):(N a=N' a'/\bT t a=bT t' a')/\Mk t t' N N' r r':=by
 have h1:=h.n;have h2:=h.k;simp only[aB,bS]at h1 h2;exact⟨⟨h1.1,h2.1⟩,⟨h1.2,h2.2⟩⟩
theorem Mk.nil (h:Mk t t' N N' [] ks'):ks'=[]:=by have:=h.len;exact cp.1 this.symm
theorem Mk.cons {a:Int} {r:List Int} (h:Mk t t' N N' (a::r) ks'):∃ a' r',ks'=a'::r'/\N a=N' a'/\bT t a=bT t' a'/\Mk t t' N N' r r':=by
 cases ks' with
 |nil=>have:=h.len;simp at this
 |cons a' r'=>obtain⟨⟨h1,h2⟩,h3⟩:=h.tl;exact⟨a',r',rfl,h1,h2,h3⟩
theorem Mk.one {a:Int} (h:Mk t t' N N' [a] ks'):∃ a',ks'=[a']/\N a=N' a'/\bT t a=bT t' a':=by
 obtain⟨a',r',rfl,h1,h2,h3⟩:=h.cons;obtain rfl:=h3.nil;exact⟨a',rfl,h1,h2⟩
theorem Mk.two {a b:Int} (h:Mk t t' N N' [a,b] ks'):∃ a' b',ks'=[a',b']/\(N a=N' a'/\bT t a=bT t' a')/\N b=N' b'/\bT t b=bT t' b':=by
 obtain⟨a',r',rfl,h1,h2,h3⟩:=h.cons;obtain⟨b',rfl,h4⟩:=h3.one;exact⟨a',b',rfl,⟨h1,h2⟩,h4⟩
theorem Mk.flat (h:Mk t t' N N' ks ks'):ks.flatMap N=ks'.flatMap N':=by rw[List.flatMap_def,List.flatMap_def,h.n]
theorem Mk.iI:∀ {ks ks':List Int},Mk t t' N N' ks ks'->gw N ks=gw N' ks'
 |[],ks',h=>by rw[h.nil];rfl
 |a::r,ks',h=>by
  obtain⟨a',r',rfl,h1,h2,h3⟩:=h.cons;simp only[gw];rw[h1];have e:∀ l:List Int,∀ N:Int->dM,(l.flatMap fun k=>[44]::N k)=(l.map N).flatMap fun x=>[44]::x:=fun l N=>by rw[List.flatMap_map]
  rw[e,e,h3.n]
theorem Mk.take (h:Mk t t' N N' ks ks') (n:Nat):Mk t t' N N' (ks.take n) (ks'.take n):=⟨by rw[eW,eW,h.n],by rw[eW,eW,h.k]⟩
theorem Mk.get (h:Mk t t' N N' ks ks') {i:Nat} (hi:i < ks.length):N (ks.getD i 0)=N' (ks'.getD i 0)/\bT t (ks.getD i 0)=bT t' (ks'.getD i 0):=by
 have hl:=h.len;have h1:=aG (·[i]?) h.n;have h2:=aG (·[i]?) h.k;simp only[bE,ae hi,ae (hl ▸ hi),aI,aa]at h1 h2;simp only[av,ae hi,ae (hl ▸ hi),j8];exact⟨h1,h2⟩
theorem GK {a a':Int} {g:Bool} (h1:N a=N' a') (h2:bT t a=bT t' a'):dm t N a g=dm t' N' a' g:=by unfold dm;rw[h1,h2]
theorem FE {v:Int} (h:(decide (v=0)||decide (v=1))=true):v=0\/v=1:=by simpa using h
theorem Z7 (hkn:ey k=true) (num:gd k v (params (kinds t ks))=true) (fit:Tp.fP k v (kinds t ks)=true) (h:Mk t t' N N' ks ks'):cG t N ⟨k,tt,v,ks,f,e⟩=cG t' N' ⟨k,tt,v,ks',f',e'⟩:=by
 by_cases h1:k=1
 ·subst h1;exact h.flat
 have one:∀ {c:UInt8},bx [c] (kinds t ks)=true->∃ a a',ks=[a]/\ks'=[a']/\N a=N' a'/\∀ g,dm t N a g=dm t' N' a' g:=fun hb=>by
   obtain⟨a,rfl,_⟩:=eA hb;obtain⟨a',rfl,h1,h2⟩:=h.one;exact⟨a,a',rfl,rfl,h1,fun g=>GK h1 h2⟩
 have two:∀ {c d:UInt8},c≠63->bx [c,d] (kinds t ks)=true->∃ a b a' b',ks=[a,b]/\ks'=[a',b']/\(N a=N' a'/\∀ g,dm t N a g=dm t' N' a' g)/\N b=N' b'/\∀ g,dm t N b g=dm t' N' b' g:=fun hc hb=>by
   obtain⟨a,q,rfl,_,hq⟩:=jt hc hb;obtain⟨b,rfl,_⟩:=eA hq;obtain⟨a',b',rfl,⟨h1,h2⟩,h3,h4⟩:=h.two;exact⟨a,b,a',b',rfl,rfl,⟨h1,fun g=>GK h1 h2⟩,h3,fun g=>GK h3 h4⟩
 have opt:∀ {c:UInt8},bx [63,c] (kinds t ks)=true->(ks=[]/\ks'=[])\/∃ a a',ks=[a]/\ks'=[a']/\N a=N' a':=fun hb=>by
   rcases qL hb with hb|⟨a,q,rfl,_,hq⟩
   ·obtain rfl:=dY hb;exact .inl ⟨rfl,h.nil⟩
   ·obtain rfl:=dY hq;obtain⟨a',rfl,h1,_⟩:=h.one;exact .inr ⟨a,a',rfl,rfl,h1⟩
 have per:∀ {c:UInt8},bx [63,c] (kinds t ks)=true->mM N ks=mM N' ks':=fun hb=>by
   rcases opt hb with⟨rfl,rfl⟩|⟨a,a',rfl,rfl,h1⟩
   ·rfl
   ·simp only[mM,h1]
 rcases yW hkn h1 with rfl|rfl|rfl|rfl|rfl|rfl|rfl|rfl|rfl|rfl|rfl|rfl|rfl|rfl|rfl|rfl|rfl|rfl|rfl|rfl|rfl|rfl|rfl|rfl|rfl|rfl|rfl|rfl|rfl|rfl|rfl|rfl|rfl|rfl|rfl|rfl|rfl|rfl|rfl|rfl|rfl|rfl|rfl|rfl
 -- cases
 ·have hl:(kinds t ks).length=ks.length:=aE ..;obtain⟨hv,h2⟩:=Tp.J7 num fit;rw[hl]at hv h2;have h3:=h.take v.toNat;have e1:=h3.iI;obtain⟨e2,e3⟩:=h.get (i:=v.toNat) om;obtain⟨e4,_⟩:=h.get (i:=v.toNat+1) om;show[[102,110],tt,[40]]++gw N (ks.take v.toNat)++[[41]]++(if bT t (ks.getD v.toNat 0)=12 then[] else[[45,62]]++N (ks.getD v.toNat 0))++N (ks.getD (v.toNat+1) 0)=[[102,110],tt,[40]]++gw N' (ks'.take v.toNat)++[[41]]++(if bT t' (ks'.getD v.toNat 0)=12 then[] else[[45,62]]++N' (ks'.getD v.toNat 0))++N' (ks'.getD (v.toNat+1) 0);rw[e1,e2,e3,e4]
 ·have e1:=h.iI;show[[115,116,114,117,99,116],tt,[123]]++gw N ks++[[125]]=[[115,116,114,117,99,116],tt,[123]]++gw N' ks'++[[125]];simp only[e1]
 ·have e1:=h.iI;show[[101,110,117,109],tt,[123]]++gw N ks++[[125]]=[[101,110,117,109],tt,[123]]++gw N' ks'++[[125]];simp only[e1]
 ·obtain⟨a,a',rfl,rfl,e1,e2⟩:=one (c:=116) fit;show[tt,[58]]++N a=[tt,[58]]++N' a';simp only[e1,e2]
 ·have e1:=per (c:=116) fit;show[tt]++mM N ks=[tt]++mM N' ks';simp only[e1]
 ·obtain⟨a,a',rfl,rfl,e1,e2⟩:=one (c:=116) fit;rcases FE num with rfl|rfl
  ·show[]++[tt,[58]]++N a=[]++[tt,[58]]++N' a';simp only[e1,e2]
  ·show[[109,117,116]]++[tt,[58]]++N a=[[109,117,116]]++[tt,[58]]++N' a';simp only[e1,e2]
 ·rfl
 ·rfl
 ·rfl
 ·rfl
 ·obtain⟨a,a',rfl,rfl,e1,e2⟩:=one (c:=116) fit;show[[38]]++N a=[[38]]++N' a';simp only[e1,e2]
 ·obtain⟨a,a',rfl,rfl,e1,e2⟩:=one (c:=116) fit;show[[38],[109,117,116]]++N a=[[38],[109,117,116]]++N' a';simp only[e1,e2]
 ·obtain⟨a,a',rfl,rfl,e1,e2⟩:=one (c:=116) fit;show[[66,111,120],[60]]++N a++[[62]]=[[66,111,120],[60]]++N' a'++[[62]];simp only[e1,e2]
 ·have e1:=h.flat;show[[123]]++ks.flatMap N++[[125]]=[[123]]++ks'.flatMap N'++[[125]];simp only[e1]
 ·rcases qL (fit:bx [63,116,101] (kinds t ks)=true)with hq|⟨a,q,rfl,ha,hq⟩
  ·obtain⟨a,a',rfl,rfl,e1,e2⟩:=one (c:=101) hq;rcases FE num with rfl|rfl
   ·show[[108,101,116]]++[]++[tt]++[]++[[61]]++N a++[[59]]=[[108,101,116]]++[]++[tt]++[]++[[61]]++N' a'++[[59]];simp only[e1]
   ·show[[108,101,116]]++[[109,117,116]]++[tt]++[]++[[61]]++N a++[[59]]=[[108,101,116]]++[[109,117,116]]++[tt]++[]++[[61]]++N' a'++[[59]];simp only[e1]
  ·obtain⟨b,rfl,hb⟩:=eA hq;obtain⟨a',b',rfl,⟨e1,_⟩,e3,_⟩:=h.two;rcases FE num with rfl|rfl
   ·show[[108,101,116]]++[]++[tt]++([[58]]++N a)++[[61]]++N b++[[59]]=[[108,101,116]]++[]++[tt]++([[58]]++N' a')++[[61]]++N' b'++[[59]];simp only[e1,e3]
   ·show[[108,101,116]]++[[109,117,116]]++[tt]++([[58]]++N a)++[[61]]++N b++[[59]]=[[108,101,116]]++[[109,117,116]]++[tt]++([[58]]++N' a')++[[61]]++N' b'++[[59]];simp only[e1,e3]
 ·obtain⟨a,a',rfl,rfl,e1,e2⟩:=one (c:=101) fit;show N a++[[59]]=N' a'++[[59]];simp only[e1,e2]
 ·obtain⟨a,b,a',b',rfl,rfl,⟨e1,e2⟩,e3,e4⟩:=two (c:=101) (d:=101) (by decide) fit;show dm t N a false++[[61]]++dm t N b false++[[59]]=dm t' N' a' false++[[61]]++dm t' N' b' false++[[59]];simp only[e1,e2,e3,e4]
 ·obtain⟨a,b,a',b',rfl,rfl,⟨e1,e2⟩,e3,e4⟩:=two (c:=101) (d:=98) (by decide) fit;show[[119,104,105,108,101]]++dm t N a false++N b=[[119,104,105,108,101]]++dm t' N' a' false++N' b';simp only[e1,e2,e3,e4]
 ·have e1:=h.flat;show[[114,101,116,117,114,110]]++ks.flatMap N++[[59]]=[[114,101,116,117,114,110]]++ks'.flatMap N'++[[59]];simp only[e1]
 ·rfl
 ·rfl
 ·rfl
 ·rfl
 ·rfl
 ·rfl
 ·have e1:=h.iI;show[tt,[40]]++gw N ks++[[41]]=[tt,[40]]++gw N' ks'++[[41]];simp only[e1]
 ·have e1:=h.iI;show[tt,[123]]++gw N ks++[[125]]=[tt,[123]]++gw N' ks'++[[125]];simp only[e1]
 ·obtain⟨a,a',rfl,rfl,e1,e2⟩:=one (c:=101) fit;show[tt,[58]]++N a=[tt,[58]]++N' a';simp only[e1,e2]
 ·have e1:=per (c:=101) fit;show Tp.AV tt++mM N ks=Tp.AV tt++mM N' ks';simp only[e1]
 ·obtain⟨a,b,a',b',rfl,rfl,⟨e1,e2⟩,e3,e4⟩:=two (c:=101) (d:=101) (by decide) fit;show dm t N a false++[tt]++dm t N b false=dm t' N' a' false++[tt]++dm t' N' b' false;simp only[e1,e2,e3,e4]
 ·obtain⟨a,a',rfl,rfl,e1,e2⟩:=one (c:=101) fit;show[[45]]++dm t N a false=[[45]]++dm t' N' a' false;simp only[e1,e2]
 ·obtain⟨a,a',rfl,rfl,e1,e2⟩:=one (c:=101) fit;show[[33]]++dm t N a false=[[33]]++dm t' N' a' false;simp only[e1,e2]
 ·obtain⟨a,a',rfl,rfl,e1,e2⟩:=one (c:=101) fit;show dm t N a true++[[46],tt]=dm t' N' a' true++[[46],tt];simp only[e1,e2]
 ·obtain⟨a,a',rfl,rfl,e1,e2⟩:=one (c:=101) fit;show[[42]]++dm t N a false=[[42]]++dm t' N' a' false;simp only[e1,e2]
 ·obtain⟨a,a',rfl,rfl,e1,e2⟩:=one (c:=101) fit;rcases FE num with rfl|rfl
  ·show[[38]]++dm t N a false=[[38]]++dm t' N' a' false;simp only[e1,e2]
  ·show[[38],[109,117,116]]++dm t N a false=[[38],[109,117,116]]++dm t' N' a' false;simp only[e1,e2]
 ·obtain⟨a,a',rfl,rfl,e1,e2⟩:=one (c:=101) fit;show[[66,111,120],[58,58],[110,101,119]]++([[40]]++N a++[[41]])=[[66,111,120],[58,58],[110,101,119]]++([[40]]++N' a'++[[41]]);simp only[e1,e2]
 ·obtain⟨a,q,rfl,ha,hq⟩:=jt (by decide) (fit:bx [101,98,63,111] (kinds t ks)=true);obtain⟨a',r',rfl,h1,h2,h3⟩:=h.cons;obtain⟨b,q2,rfl,_,hq2⟩:=jt (by decide) hq;obtain⟨b',s',rfl,h4,_,h5⟩:=h3.cons;have e2:=fun g=>GK (g:=g) h1 h2;rcases qL hq2 with hq3|⟨c,q3,rfl,_,hq3⟩
  ·obtain rfl:=dY hq3;obtain rfl:=h5.nil;show[[105,102]]++dm t N a false++N b++[]=[[105,102]]++dm t' N' a' false++N' b'++[];simp only[e2,h4]
  ·obtain rfl:=dY hq3;obtain⟨c',rfl,h6,_⟩:=h5.one;show[[105,102]]++dm t N a false++N b++([[101,108,115,101]]++N c)=[[105,102]]++dm t' N' a' false++N' b'++([[101,108,115,101]]++N' c');simp only[e2,h4,h6]
 ·obtain⟨p,m,q,rfl,hp,hm,hq⟩:=mR (a:=[101]) (c:=97) (b:=[]) fit;obtain⟨a,rfl,ha⟩:=eA hp;obtain rfl:=dY hq;simp only[bC,al,aq]at h⊢;obtain⟨a',m',rfl,h1,h2,h3⟩:=h.cons;have e1:=h3.iI;have e2:=fun g=>GK (g:=g) h1 h2;show[[109,97,116,99,104]]++dm t N a false++[[123]]++gw N m++[[125]]=[[109,97,116,99,104]]++dm t' N' a' false++[[123]]++gw N' m'++[[125]];simp only[e1,e2]
 ·obtain⟨a,b,a',b',rfl,rfl,⟨e1,e2⟩,e3,e4⟩:=two (c:=112) (d:=101) (by decide) fit;show N a++[[61,62]]++N b=N' a'++[[61,62]]++N' b';simp only[e1,e2,e3,e4]
 ·rfl
 ·rfl
 ·rfl
 ·rfl
 ·have e1:=per (c:=112) fit;show Tp.AV tt++mM N ks=Tp.AV tt++mM N' ks';simp only[e1]
 -- end cases
end
theorem OR {N N':Int->Fo}:∀ {ks ks':List Int},(∀ a∈ks,∃ k t v K,N a=tr k t v K)->(∀ a∈ks',∃ k t v K,N' a=tr k t v K)->zL N ks=zL N' ks'->ks.map N=ks'.map N'
 |[],[],_,_,_=>rfl
 |[],a'::r',_,h',e=>by
  obtain⟨k,t,v,K,ha⟩:=h' a' (bL ..);rw[zL,zL,ha]at e;cases e
 |a::r,[],h,_,e=>by
  obtain⟨k,t,v,K,ha⟩:=h a (bL ..);rw[zL,zL,ha]at e;cases e
 |a::r,a'::r',h,h',e=>by
  obtain⟨k,t,v,K,ha⟩:=h a (bL ..);obtain⟨k',t',v',K',ha'⟩:=h' a' (bL ..);rw[zL,zL,ha,ha']at e;have e:Fo.cons k t v 0 0 K (zL N r)= .cons k' t' v' 0 0 K' (zL N' r'):=e;injection e with e1 e2 e3 _ _ e6 e7;rw[aB,aB,ha,ha',e1,e2,e3,e6,OR (fun b hb=>h b (bI _ hb)) (fun b hb=>h' b (bI _ hb)) e7]
theorem EK {α β:Type} {A A':Int->α} {B B':Int->β}:∀ {ks ks':List Int},ks.map A=ks'.map A'->(∀ a∈ks,∀ a'∈ks',A a=A' a'->B a=B' a')->ks.map B=ks'.map B'
 |[],[],_,_=>rfl
 |[],_::_,e,_=>by cases e
 |_::_,[],e,_=>by cases e
 |a::r,a'::r',e,h=>by
  rw[aB,aB,bS]at e;rw[aB,aB,h a (bL ..) a' (bL ..) e.1,EK e.2 fun b hb b' hb'=>h b (bI _ hb) b' (bI _ hb')]
section
variable {t t':List Nd}
theorem V7 {f n:Nat} (h:0 < f):∃ k tt v K,zN t f n=tr k tt v K:=by
 obtain⟨f,rfl⟩:∃ g,f=g+1:=⟨f - 1,om⟩;exact⟨_,_,_,_,rfl⟩
theorem KR {f g n m:Nat} (hk:∀ a∈(t.getD n default).kids,0<=a/\a < n) (hk':∀ a∈(t'.getD m default).kids,0<=a/\a < m) (hn:n < f+1) (hm:m < g+1) (e:zN t (f+1) n=zN t' (g+1) m):
 (t.getD n default).k=(t'.getD m default).k/\(t.getD n default).t=(t'.getD m default).t/\(t.getD n default).v=(t'.getD m default).v/\(t.getD n default).kids.map (fun k=>zN t f k.toNat)=(t'.getD m default).kids.map (fun k=>zN t' g k.toNat):=by
 rw[zN,zN]at e;injection e with e1 e2 e3 _ _ e6 _;refine⟨e1,e2,e3,OR (fun a ha=>V7 ?_) (fun a ha=>V7 ?_) e6⟩
 ·have:=hk a ha;omega
 ·have:=hk' a ha;omega
theorem TC {f g n m:Nat} (hf:0 < f) (hg:0 < g) (e:zN t f n=zN t' g m):(t.getD n default).k=(t'.getD m default).k:=by
 obtain⟨f,rfl⟩:∃ x,f=x+1:=⟨f - 1,om⟩;obtain⟨g,rfl⟩:∃ x,g=x+1:=⟨g - 1,om⟩;rw[zN,zN]at e;injection e with e1
theorem U6 {f g n m:Nat} (hk:∀ a∈(t.getD n default).kids,0<=a/\a < n) (hk':∀ a∈(t'.getD m default).kids,0<=a/\a < m) (hn:n < f+1) (hm:m < g+1) (e:zN t (f+1) n=zN t' (g+1) m):kinds t (t.getD n default).kids=kinds t' (t'.getD m default).kids:=by
 refine EK (KR hk hk' hn hm e).2.2.2 fun a ha a' ha' e=>?_;have h1:=hk a ha;have h2:=hk' a' ha';exact TC om om e
theorem WA (hc:∀ i,i < t.length->wo t i) (hc':∀ i,i < t'.length->∀ a∈(t'.getD i default).kids,0<=a/\a < i):∀ (f g n m:Nat),n < f->m < g->n < t.length->m < t'.length->zN t f n=zN t' g m->zB t f n=zB t' g m
 |0,_,_,_,h,_,_,_,_=>om
 |_+1,0,_,_,_,h,_,_,_=>om
 |f+1,g+1,n,m,hf,hg,hn,hm,e=>by
  have o:=hc n hn;have o':=hc' m hm;obtain⟨e1,e2,e3,e4⟩:=KR o.kid o' hf hg e;have mk:Mk t t' (fun k=>zB t f k.toNat) (fun k=>zB t' g k.toNat) (t.getD n default).kids (t'.getD m default).kids:=by
    refine⟨EK e4 fun a ha a' ha' e=>?_,U6 o.kid o' hf hg e⟩;have h1:=o.kid a ha;have h2:=o' a' ha';exact WA hc hc' f g a.toNat a'.toNat om om om om e
  rw[zB,zB];have b:=Z7 (tt:=(t.getD n default).t) (f:=(t.getD n default).f) (e:=(t.getD n default).e) (f':=(t'.getD m default).f) (e':=(t'.getD m default).e) o.known o.num o.fit mk;have x':t'.getD m default=⟨(t.getD n default).k,(t.getD n default).t,(t.getD n default).v,(t'.getD m default).kids,(t'.getD m default).f,(t'.getD m default).e⟩:=by rw[e1,e2,e3]
  rw[x'];exact b
end
abbrev nI (l:List Nat):List Int:=l.map fun k:Nat=>(k:Int)
def Seg (t:List Nd) (n:Nat) (W:Fo):Prop:=∀ j,j < W.sz->t[n+j]? =(W.tn n)[j]?
theorem Seg.l {t:List Nd} {n:Nat} {k:Int} {tt:S} {v f e:Int} {a b:Fo} (h:Seg t n (.cons k tt v f e a b)):Seg t n a:=fun j hj=>by
  have:=h j (by simp only[Fo.sz];omega);rw[this,Fo.tn,aD (by rw[Fo.iy];exact hj)]
theorem Seg.m {t:List Nd} {n:Nat} {k:Int} {tt:S} {v f e:Int} {a b:Fo} (h:Seg t n (.cons k tt v f e a b)):t[n+a.sz]? =some ⟨k,tt,v,nI (a.ix n),f,e⟩:=by
 have:=h a.sz (by simp only[Fo.sz];omega);rw[this,Fo.tn,aK (by rw[Fo.iy];omega),Fo.iy,dR];rfl
theorem Seg.r {t:List Nd} {n:Nat} {k:Int} {tt:S} {v f e:Int} {a b:Fo} (h:Seg t n (.cons k tt v f e a b)):Seg t (n+a.sz+1) b:=fun j hj=>by
  have:=h (a.sz+1+j) (by simp only[Fo.sz];omega);rw[show n+(a.sz+1+j)=n+a.sz+1+j by omega]at this;rw[this,Fo.tn,aK (by rw[Fo.iy];omega),Fo.iy,show a.sz+1+j - a.sz=j+1 by omega];rfl
theorem M6 (W:Fo):Seg (W.tn 0) 0 W:=fun j hj=>by rw[bt]
theorem pZ {t:List Nd} {i:Nat} {x:Nd} (h:t[i]? =some x):t.getD i default=x:=by rw[av,h];rfl
theorem zH {t:List Nd}:∀ (W:Fo) (n f:Nat),Seg t n W->n+W.sz<=f->zL (fun k=>nj t f k.toNat) (nI (W.ix n))=W
  | .nil,_,_,_,_=>rfl
  | .cons k tt v fr e a b,n,f,h,hf=>by
    simp only[Fo.sz]at hf;obtain⟨f,rfl⟩:∃ g,f=g+1:=⟨f - 1,om⟩;have ha:=zH a n f h.l om;have hb:=zH b (n+a.sz+1) (f+1) h.r om;show(nj t (f+1) ((n+a.sz:Nat):Int).toNat).app (zL (fun k=>nj t (f+1) k.toNat) (nI (b.ix (n+a.sz+1))))=_;rw[hb,b8,nj,pZ h.m,ha];rfl
theorem IL {t:List Nd} {W:Fo} {n f:Nat} (h:Seg t n W) (hf:n+W.sz<=f):zL (fun k=>zN t f k.toNat) (nI (W.ix n))=W.z:=by
  have:=zH W n f h hf;have h2:=aG Fo.z this;rw[Xg]at h2;rw[<-h2];congr 1;funext k;rw[Mf]
theorem PO {t:List Nd} {n:Nat} {k:Int} {tt:S} {v f e:Int} {a b:Fo} (h:Seg t n (.cons k tt v f e a b)):∀ x∈(t.getD (n+a.sz) default).kids,0<=x/\x < (n+a.sz:Nat):=by
 rw[pZ h.m];intro x hx;obtain⟨y,hy,rfl⟩:=e9.1 hx;have:=(Fo.yX a n).2 y hy;omega
theorem Rw {t:List Nd}:∀ (W:Fo) (n:Nat),Seg t n W->Go.Vm.Tp.kinds t (nI (W.ix n))=W.kl
 | .nil,_,_=>rfl
 | .cons k tt v fr e a b,n,h=>by
   have hb:=Rw b (n+a.sz+1) h.r;show Go.Vm.Tp.bT t ((n+a.sz:Nat):Int)::Go.Vm.Tp.kinds t (nI (b.ix (n+a.sz+1)))=k::b.kl;rw[hb];unfold Go.Vm.Tp.bT;rw[b8,pZ h.m]
theorem QV {t:List Nd}:∀ (W:Fo) (n:Nat) (lo hi:Int),0<=lo->W.wi lo hi->W.rt->Seg t n W->∀ j,n<=j->j < n+W.sz->wo t j/\(t.getD j default).e<=hi/\Go.Vm.Tp.oE (t.getD j default).v
 | .nil,_,_,_,_,_,_,_,j,h1,h2=>by simp only[Fo.sz]at h2;omega
 | .cons k tt v fr e a b,n,lo,hi,hlo,⟨w1,w2,w3,w4,w5⟩,⟨q1,q2,q3⟩,h,j,h1,h2=>by
   simp only[Fo.sz]at h2;by_cases c1:j < n+a.sz
   ·have:=QV a n fr e om w4 q2 h.l j h1 c1;exact⟨this.1,by have:=this.2.1;omega,this.2.2⟩
   ·by_cases c2:j=n+a.sz
    ·subst c2;have hk:=PO h;rw[pZ h.m]at hk⊢;have e1:Go.Vm.Tp.kinds t (nI (a.ix n))=a.kl:=Rw a n h.l;refine⟨⟨?_,?_,?_,?_,?_,?_⟩,w3,q1.iv⟩<;>rw[pZ h.m]
     ·exact hk
     ·exact q1.kn
     ·exact q1.nm
     ·show Go.Vm.Tp.gd k v (Go.Vm.Tp.params (Go.Vm.Tp.kinds t (nI (a.ix n))))=true;rw[e1];exact q1.num
     ·exact⟨by show 0<=fr;omega,w2⟩
     ·show Go.Vm.Tp.fP k v (Go.Vm.Tp.kinds t (nI (a.ix n)))=true;rw[e1];exact q1.fit
    ·exact QV b (n+a.sz+1) lo hi hlo w5 q3 h.r j om om
theorem YO {k:Int} {t:S} (h:Go.Vm.Tp.vM k t=true):t.length<=1048576:=by
 have hn:∀ {s:S},Lex.de s=true->s.length<=64:=fun h=>by
   simp only[Lex.de,ab,an]at h;exact h.1.2
 unfold Go.Vm.Tp.vM at h;split at h
 ·have:=hn h;omega
 ·split at h
  ·obtain⟨e,h1,h2⟩:=vK h;rw[e];have:=hn h1;have:=hn h2;simp only[ah,aw,aH];omega
  ·split at h
   ·have:∀ x∈Go.Vm.Tp.iz,x.length<=2:=by decide
    have:=this t (af h);omega
   ·rw[af h];exact aR _
end Go.Vm.Pa
namespace Go.Vm.Tp
def Fs (up:List Int):Nat->Nat->Int
 |0,_=>0
 |f+1,j=>if 0<=up.getD j (-1) then Fs up f (up.getD j (-1)).toNat+1 else 0
def Iw (up:List Int):Prop:=∀ j,j < up.length->0<=up.getD j (-1)->(j:Int) < up.getD j (-1)/\(up.getD j (-1)).toNat < up.length
theorem DF {up:List Int} (h:Iw up):∀ (n j f g:Nat),up.length - j<=n->j < up.length->up.length - j<=f->up.length - j<=g->Fs up f j=Fs up g j
 |0,j,_,_,hn,hj,_,_=>om
 |n+1,j,f,g,hn,hj,hf,hg=>by
  obtain⟨f,rfl⟩:∃ f',f=f'+1:=⟨f - 1,om⟩;obtain⟨g,rfl⟩:∃ g',g=g'+1:=⟨g - 1,om⟩;rw[Fs,Fs];by_cases c:0<=up.getD j (-1)
  ·obtain⟨h1,h2⟩:=h j hj c;rw[ay c,ay c,DF h n _ f g om h2 om om]
  ·rw[aA c,aA c]
def BB (up:List Int) (j:Nat):Int:=Fs up up.length j
theorem zI {up:List Int} (h:Iw up) {j:Nat} (hj:j < up.length):BB up j=if 0<=up.getD j (-1) then BB up (up.getD j (-1)).toNat+1 else 0:=by
 unfold BB;have:Fs up up.length j=Fs up (up.length+1) j:=DF h _ j _ _ (ai _) hj om om;rw[this,Fs]
theorem Ht (l:List Int) (n j:Nat) (v d:Int):(l.set n v).getD j d=if j=n/\n < l.length then v else l.getD j d:=by
 rw[av,fG,av];by_cases c:n=j
 ·subst c;by_cases d:n < l.length
  ·simp[d]
  ·simp[d]
 ·have:¬ j=n:=fun e=>c e.symm;simp[c,this]
theorem NY {l:List Int} {j:Nat} (h:j < l.length) (a b:Int):l.getD j a=l.getD j b:=by
 simp[av,ae h]
theorem yD {up:List Int} (h:Iw up):∀ (n:Nat) (out:List Int),n<=up.length->out.length=up.length->(∀ j,n<=j->j < up.length->out.getD j 0=BB up j)->(∀ j,j < n->out.getD j 0=0)->∀ j,j < up.length->(xB up n out).getD j 0=BB up j
 |0,out,_,_,h1,_,j,hj=>h1 j (aR _) hj
 |n+1,out,hn,hl,h1,h0,j,hj=>by
  rw[xB];have hd:up.getD n 0=up.getD n (-1):=NY om _ _;by_cases c:0<=up.getD n (-1)
  ·obtain⟨g1,g2⟩:=h n om c;rw[ay c];refine yD h n _ om (by rw[cX,hl]) (fun i hi hil=>?_) (fun i hi=>?_) j hj
   ·rw[Ht];by_cases e:i=n
    ·rw[ay ⟨e,om⟩,e,zI h om,ay c,hd,h1 _ om g2]
    ·rw[aA om];exact h1 i om hil
   ·rw[Ht,aA om];exact h0 i om
  ·rw[aA c];refine yD h n _ om hl (fun i hi hil=>?_) (fun i hi=>h0 i om) j hj;by_cases e:i=n
   ·rw[e,zI h om,aA c];exact h0 n om
   ·exact h1 i om hil
theorem HY {up:List Int} (h:Iw up) {j:Nat} (hj:j < up.length):(deps up).getD j 0=BB up j:=by
 unfold deps;refine yD h _ _ (ai _) (by simp) (fun i hi hil=>om) (fun i hi=>?_) j hj;simp[av,hi]
theorem xi (b:Int):∀ (l:List Int) (a:Int),l.foldl max a<=b↔a<=b/\∀ x∈l,x<=b
 |[],a=>by simp
 |y::r,a=>by
  rw[fL,xi b r,List.forall_mem_cons];constructor
  ·rintro⟨h1,h2⟩;exact⟨om,om,h2⟩
  ·rintro⟨h1,h2,h3⟩;exact⟨om,h3⟩
theorem UO {b:Int} (hb:0<=b) (l:List Int):vT l<=b↔∀ x∈l,x<=b:=by
 cases l with
 |nil=>simp[vT,hb]
 |cons a r=>rw[vT,xi,List.forall_mem_cons]
theorem BA (up:List Int):(deps up).length=up.length:=by unfold deps;rw[yE,jy]
theorem Mp {up:List Int} (h:Iw up):vT (deps up)<=400↔∀ j,j < up.length->BB up j<=400:=by
 rw[UO (by decide)];constructor
 ·intro g j hj;rw[<-HY h hj];have hj2:j < (deps up).length:=by rw[BA];exact hj
  rw[av,ae hj2];exact g _ (dG _)
 ·intro g x hx;obtain⟨j,hj,rfl⟩:=kI hx;rw[BA]at hj;have:=g j hj;rw[<-HY h hj,av,ae (by rw[BA];exact hj)]at this;exact this
end Go.Vm.Tp
namespace Go.Vm.Pa
open Go.Vm.Tp (Nd ups j9 iw deps vT BB Iw zI Mp DZ ui)
open Go.Vm.Pk (gh py r6 fh back oa)
def Fo.pa (n:Nat) (p:Int):Fo->List Int
 | .nil=>[]
 | .cons _ _ _ _ _ a b=>a.pa n ((n+a.sz:Nat):Int)++p::b.pa (n+a.sz+1) p
theorem Fo.qi:∀ (W:Fo) (n:Nat) (p:Int),(W.pa n p).length=W.sz
 | .nil,_,_=>rfl
 | .cons _ _ _ _ _ a b,n,p=>by simp only[Fo.pa,Fo.sz,ah,aw,Fo.qi a,Fo.qi b];omega
theorem CH:∀ (W:Fo) (n i:Nat) (X Y:List Int),X.length=n->iw i (nI (W.ix n)) (X++(W.pa n (-1)++Y))=some (X++(W.pa n i++Y))
 | .nil,_,_,_,_,_=>rfl
 | .cons _ _ _ _ _ a b,n,i,X,Y,hX=>by
   have h1:(X++a.pa n ((n+a.sz:Nat):Int)).length=n+a.sz:=by rw[ah,Fo.qi,hX]
   have e:∀ (q:Int) (Z:List Int),X++((a.pa n ((n+a.sz:Nat):Int)++q::Z)++Y)=(X++a.pa n ((n+a.sz:Nat):Int))++(q::(Z++Y)):=fun q Z=>by simp only[ag,al]
   have e2:∀ (q:Int) (Z:List Int),(X++a.pa n ((n+a.sz:Nat):Int))++(q::(Z++Y))=(X++a.pa n ((n+a.sz:Nat):Int)++[q])++(Z++Y):=fun q Z=>by simp only[ag,al,aq]
   simp only[Fo.pa,Fo.ix,aB,iw,b8];rw[e,e];have hg:((X++a.pa n ((n+a.sz:Nat):Int))++(-1::(b.pa (n+a.sz+1) (-1)++Y))).getD (n+a.sz) 0= -1:=by
    rw[av,aK om,h1,dR];rfl
   rw[hg,aA (by decide),mF _ _ om,h1,dR,jb,e2,e2];exact CH b (n+a.sz+1) i _ Y (by rw[ah,h1];rfl)
theorem CL (i:Nat):∀ (a b:List Nd) (o:List Int),j9 i (a++b) o=(j9 i a o).bind (j9 (i+a.length) b)
 |[],b,o=>rfl
 |x::a,b,o=>by
  simp only[al,j9,aw];cases iw i x.kids o with
  |none=>rfl
  |some o=>rw[aP,aP,CL (i+1) a b o,show i+1+a.length=i+(a.length+1)by omega]
theorem z7:∀ (W:Fo) (n:Nat) (X Y:List Int),X.length=n->j9 n (W.tn n) (X++(List.replicate W.sz (-1)++Y))=some (X++(W.pa n (-1)++Y))
 | .nil,_,_,_,_=>rfl
 | .cons k tt v f e a b,n,X,Y,hX=>by
   have er:List.replicate (a.sz+1+b.sz) (-1:Int)=List.replicate a.sz (-1)++(-1::List.replicate b.sz (-1)):=by
    rw[<-List.replicate_append_replicate,List.replicate_succ',ag];rfl
   have h1:(X++a.pa n ((n+a.sz:Nat):Int)++[-1]).length=n+a.sz+1:=by rw[ah,ah,Fo.qi,hX];rfl
   simp only[Fo.tn,Fo.sz];rw[CL,Fo.iy,er,ag,z7 a n X _ hX,aP,j9,show(Nd.mk k tt v (nI (a.ix n)) f e).kids=nI (a.ix n)from rfl,CH a n (n+a.sz) X _ hX,aP];have e3:X++(a.pa n ((n+a.sz:Nat):Int)++(-1::List.replicate b.sz (-1)++Y))=(X++a.pa n ((n+a.sz:Nat):Int)++[-1])++(List.replicate b.sz (-1)++Y):=by simp only[ag,al,aq]
   rw[e3,z7 b (n+a.sz+1) _ Y h1];simp only[Fo.pa,ag,al,aq]
theorem Xv (W:Fo):ups (W.tn 0)=some (W.pa 0 (-1)):=by
 have:=z7 W 0 [] [] rfl;unfold ups;rw[Fo.iy];simpa using this
theorem Fo.Qz:∀ (W:Fo) (n:Nat) (p:Int),0<=p->∀ x∈W.pa n p,0<=x
 | .nil,_,_,_,x,h=>by cases h
 | .cons _ _ _ _ _ a b,n,p,hp,x,h=>by
   simp only[Fo.pa,cd,bs]at h;rcases h with h|rfl|h
   ·exact Fo.Qz a n _ om x h
   ·exact hp
   ·exact Fo.Qz b _ p hp x h
def Fo.hgt:Nat->Fo->Nat
 |_,.nil=>0
 |d,.cons _ _ _ _ _ a b=>max (max d (b.hgt d)) (a.hgt (d+1))
theorem Fq {up:List Int} (hu:Iw up):∀ (W:Fo) (n:Nat) (p:Int) (d:Nat),(∀ j,j < W.sz->up[n+j]? =(W.pa n p)[j]?)->(if 0<=p then BB up p.toNat+1 else 0)=d->∀ j,n<=j->j < n+W.sz->BB up j<=(W.hgt d:Nat)
 | .nil,_,_,_,_,_,j,h1,h2=>by simp only[Fo.sz]at h2;omega
 | .cons _ _ _ _ _ a b,n,p,d,h,hp,j,h1,h2=>by
   simp only[Fo.sz]at h h2;have hm:up[n+a.sz]? =some p:=by
    rw[h a.sz om,Fo.pa,aK (by rw[Fo.qi];omega),Fo.qi,dR];rfl
   have hlt:n+a.sz < up.length:=(az.1 hm).1;have hd:BB up (n+a.sz)=d:=by
    rw[zI hu hlt,av,hm];exact hp
   simp only[Fo.hgt];by_cases c1:j < n+a.sz
   ·have:=Fq hu a n ((n+a.sz:Nat):Int) (d+1) (fun i hi=>by rw[h i om,Fo.pa,aD (by rw[Fo.qi];omega)]) (by rw[ay om,b8,hd];omega) j h1 c1;omega
   ·by_cases c2:j=n+a.sz
    ·subst c2;rw[hd];omega
    ·have:=Fq hu b (n+a.sz+1) p d (fun i hi=>by
       have:=h (a.sz+1+i) om;rw[show n+(a.sz+1+i)=n+a.sz+1+i by omega]at this;rw[this,Fo.pa,aK (by rw[Fo.qi];omega),Fo.qi,show a.sz+1+i - a.sz=i+1 by omega];rfl) hp j om om
     omega
theorem Bj (i d:Nat):∀ (ks up:List Nat),(∀ k∈ks,k < i/\k < up.length)->up[i]?.getD 0=d->∀ j,(gh i up ks)[j]?.getD 0=if j∈ks then d+1 else up[j]?.getD 0
 |[],_,_,_,_=>rfl
 |k::r,up,h,hd,j=>by
  have hk:=h k (bL ..);have e:gh i up (k::r)=gh i (up.set k (d+1)) r:=by
   show gh i (up.set k (up[i]?.getD 0+1)) r=_;rw[hd]
  rw[e,Bj i d r _ (fun x hx=>by rw[cX];exact h x (bI _ hx)) (by rw[aX om];exact hd) j];by_cases c:j∈r
  ·rw[ay c,ay (bI _ c)]
  ·rw[aA c];by_cases c2:j=k
   ·subst c2;rw[ay (bL ..),bu hk.2];rfl
   ·rw[aA (fun q=>by rcases bs.1 q with q|q;exact c2 q;exact c q),aX (fun q=>c2 q.symm)]
theorem J5 {ks:Nat->List Nat}:∀ (W:Fo) (n d mx:Nat) (up:List Nat),(∀ j,j < W.sz->∀ x,(W.eO n)[j]? =some x->ks (n+j)=x.ks)->n+W.sz<=up.length->(∀ r∈W.ix n,up[r]?.getD 0=d)->
 ∃ up',up'.length=up.length/\(∀ j,j < n\/n+W.sz<=j->up'[j]?.getD 0=up[j]?.getD 0)/\(List.range' n W.sz).reverse.foldl (py ks) (up,mx)=(up',max mx (W.hgt d))
 | .nil,n,d,mx,up,_,_,_=>⟨up,rfl,fun _ _=>rfl,by simp[Fo.sz,Fo.hgt]⟩
 | .cons k tt v f e a b,n,d,mx,up,hk,hl,hr=>by
   simp only[Fo.sz]at hk hl⊢;have hix:=Fo.yX a n;have hib:=Fo.yX b (n+a.sz+1);have er:List.range' n (a.sz+1+b.sz)=List.range' n a.sz++((n+a.sz)::List.range' (n+a.sz+1) b.sz):=by
    rw[show a.sz+1+b.sz=a.sz+(1+b.sz)by omega,<-List.range'_append_1,ja 1 b.sz,fX]
   obtain⟨up1,l1,g1,f1⟩:=J5 (ks:=ks) b (n+a.sz+1) d mx up (fun j hj x hx=>by
     have:=hk (a.sz+1+j) om x (by
       rw[Fo.eO,aK (by rw[Fo.jD];omega),Fo.jD,show a.sz+1+j - a.sz=j+1 by omega];exact hx)
     rw[<-this];congr 1;omega) om (fun r hr'=>hr r (by simp only[Fo.ix];exact bI _ hr'))
   have hki:ks (n+a.sz)=a.ix n:=hk a.sz om ⟨k,tt,v,a.ix n,f,e⟩ (by rw[Fo.eO,aK (by rw[Fo.jD];omega),Fo.jD,dR];rfl);have hd1:up1[n+a.sz]?.getD 0=d:=by
    rw[g1 _ (.inl om)];exact hr _ (by simp only[Fo.ix];exact bL ..)
   have hget:=Bj (n+a.sz) d (a.ix n) up1 (fun r hr'=>by have:=hix.2 r hr';omega) hd1;have hlen:(gh (n+a.sz) up1 (a.ix n)).length=up1.length:=Go.Vm.Pk.qn _ _ _;obtain⟨up2,l2,g2,f2⟩:=J5 (ks:=ks) a n (d+1) (max (max mx (b.hgt d)) d) (gh (n+a.sz) up1 (a.ix n)) (fun j hj x hx=>hk j om x (by rw[Fo.eO,aD (by rw[Fo.jD];omega)];exact hx)) om (fun r hr'=>by rw[hget,ay hr']);refine⟨up2,om,fun j hj=>?_,?_⟩
   ·rw[g2 j om,hget,aA (fun q=>by have:=hix.2 j q;omega),g1 j om]
   ·rw[er,List.reverse_append,List.reverse_cons,ag,mn,f1,mn];show(List.range' n a.sz).reverse.foldl (py ks) (py ks (up1,max mx (b.hgt d)) (n+a.sz))=_;have e2:py ks (up1,max mx (b.hgt d)) (n+a.sz)=(gh (n+a.sz) up1 (a.ix n),max (max mx (b.hgt d)) d):=by
     unfold py;rw[hki,hd1]
    rw[e2,f2];simp only[Fo.hgt];congr 1;omega
theorem S6 (n:Nat):back n n=(List.range n).reverse:=by
 unfold back;rw[eD,List.reverse_range'];rw[eD];exact bJ fun x _=>om
theorem Ko (W:Fo):fh (W.eO 0)=W.hgt 0:=by
 unfold fh r6;rw[S6,Fo.jD];have key:∀ (i:Nat) (s:List Nat×Nat),i<=W.sz->(List.range i).reverse.foldl (fun s i=>py (oa (W.eO 0)) s (min i (W.sz - 1))) s=(List.range i).reverse.foldl (py (oa (W.eO 0))) s:=by
   intro i;induction i with
   |zero=>intro s _;rfl
   |succ i ih=>
    intro s hi;rw[List.range_succ,List.reverse_append,List.reverse_singleton,jx,fL,fL,ih _ om];rw[show min i (W.sz - 1)=i from om]
 rw[key _ _ (ai _),eD];obtain⟨up',_,_,h⟩:=J5 (ks:=oa (W.eO 0)) W 0 0 0 (List.replicate W.sz 0) (fun j _ x hx=>by unfold oa;rw[bt,hx]) (by simp) (fun r _=>by rw[iG];split<;>rfl);rw[h];exact Nat.zero_max _
theorem X8 {W:Fo} (hnd:∀ i,i < (W.tn 0).length->wo (W.tn 0) i) (hs:W.sz<=20000) (hd:fh (W.eO 0)<=400) (hone:∃ K e,W= .cons 1 [] 0 0 e K .nil):Rt (W.tn 0):=by
 obtain⟨K,e,rfl⟩:=hone;have hsz:(Fo.cons 1 [] 0 0 e K .nil).sz=K.sz+1:=rfl;have hup:=Xv (Fo.cons 1 [] 0 0 e K .nil);refine⟨by rw[Fo.iy,hsz];omega,?_,hnd,?_⟩
 ·have:=(M6 (Fo.cons 1 [] 0 0 e K .nil)).m;rw[bt]at this;rw[Fo.iy,hsz,Nat.add_sub_cancel,pZ this]
 ·have hpos:∀ x∈(Fo.cons 1 [] 0 0 e K .nil).tn 0,∀ k∈x.kids,0<=k:=fun x hx k hk=>by
    obtain⟨i,hi,rfl⟩:=kI hx;have e1:((Fo.cons 1 [] 0 0 e K .nil).tn 0).getD i default=((Fo.cons 1 [] 0 0 e K .nil).tn 0)[i]:=by simp[hi]
    exact((hnd i hi).kid k (by rw[e1];exact hk)).1
  have hfa:=ui hup;have huo:Iw ((Fo.cons 1 [] 0 0 e K .nil).pa 0 (-1)):=fun j hj h0=>by
    obtain⟨h1,h2⟩:=DZ hup hpos j h0;have:=(hnd _ om).kid _ h2;rw[hfa.1];omega
  unfold Tp.F2;rw[hup];simp only[ab,bg,an,dv];refine⟨.inr ?_,?_⟩
  ·show(K.pa 0 ((0+K.sz:Nat):Int)++[-1]).dropLast.contains (-1)=false;rw[List.dropLast_concat];cases hc:(K.pa 0 ((0+K.sz:Nat):Int)).contains (-1)with
   |false=>rfl
   |true=>
    exfalso;have:=Fo.Qz K 0 _ om _ (List.elem_iff.1 hc);omega
  ·rw[Mp huo];intro j hj;rw[Fo.qi]at hj;have:=Fq huo (Fo.cons 1 [] 0 0 e K .nil) 0 (-1) 0 (fun j hj=>by rw[bt]) rfl j (aR _) om;rw[Ko]at hd;omega
end Go.Vm.Pa
namespace Go.Vm.Pa
open Go.Vm.Tp (Nd xR IK zB oE)
theorem I7 (T:Fo) {i:Nat} (hi:i < (T.tn 0).length):∀ a∈((T.tn 0).getD i default).kids,0<=a/\a < i:=by
 obtain⟨b,m,h1,h2,_⟩:=Fo.wI T 0 i _ (Ag hi);rw[h1];intro a ha;obtain⟨y,hy,rfl⟩:=e9.1 ha;have:=(Fo.yX b m).2 y hy;omega
theorem a4l (T:Fo) {i:Nat} (hi:i < (T.tn 0).length):((T.tn 0).getD i default).kids.length<=i:=by
 obtain⟨b,m,h1,h2,_⟩:=Fo.wI T 0 i _ (Ag hi);rw[h1,aE];have:=(Fo.yX b m).1;omega
theorem DR {N N':Int->Fo}:∀ {ks:List Int},(∀ a∈ks,N a=N' a)->zL N ks=zL N' ks
 |[],_=>rfl
 |a::r,h=>by rw[zL,zL,h a (bL ..),DR fun b hb=>h b (bI _ hb)]
theorem OP {t t':List Nd} (h:a0z t t') (hk:∀ i,i < t.length->∀ a∈(t.getD i default).kids,0<=a/\a < i):∀ (f n:Nat),n < t.length->zN t f n=zN t' f n
 |0,_,_=>rfl
 |f+1,n,hn=>by
  obtain⟨e1,e2,e3,e4⟩:=h.eq n hn;rw[zN,zN,e1,e2,e3,<-e4];rw[DR (N:=fun k=>zN t f k.toNat) (N':=fun k=>zN t' f k.toNat) fun a ha=>by have:=hk n hn a ha;exact OP h hk f a.toNat om]
theorem a3l {T T':Fo} (h:a0z (T.tn 0) (T'.tn 0)) (h1:T.ix 0=[T.sz - 1]) (h2:T'.ix 0=[T'.sz - 1]) (h0:0 < T.sz):T.z=T'.z:=by
 have hl:=h.len;rw[Fo.iy,Fo.iy]at hl;have a:=IL (M6 T) (f:=T.sz) om;have b:=IL (M6 T') (f:=T.sz) om;rw[h1]at a;rw[h2]at b;rw[<-a,<-b,hl];refine DR fun k hk=>?_;obtain rfl:=cW.1 hk;rw[b8];exact OP h (fun i hi=>I7 T hi) _ _ (by rw[Fo.iy];omega)
theorem Fo.z_z:∀ a:Fo,a.z.z=a.z
 | .nil=>rfl
 | .cons _ _ _ _ _ a b=>by simp only[Fo.z,Fo.z_z a,Fo.z_z b]
theorem ER (k:Int) (t:S) (v f e:Int) (K:Fo):(Fo.cons k t v f e K .nil).ix 0=[(Fo.cons k t v f e K .nil).sz - 1]:=by simp[Fo.ix,Fo.sz]
theorem tM {t:List Nd} {P:Nd->Prop} (h:∀ i,i < t.length->P (t.getD i default)):∀ x∈t,P x:=fun x hx=>by
  obtain⟨i,hi,rfl⟩:=kI hx;have:=h i hi;rwa [av,ae hi]at this
theorem AZ {t:List Nd} {i:Nat} (h:i < t.length):t.getD i default∈t:=by rw[av,ae h];exact dG _
theorem a3g.right {s:S} {W:Fo} (r:a3g s W):Rt (W.tn 0)/\xR (W.tn 0):=by
 have htl:=Fo.iy W 0;have hsz:=r.sz;have hln:=r.ln;have hnd:=fun i (hi:i < (W.tn 0).length)=>QV W 0 0 s.length (cI _) r.wi r.rt (M6 W) i (aR _) om;refine⟨X8 (fun i hi=>(hnd i hi).1) r.sz r.deep r.one,om,tM fun i hi=>YO (hnd i hi).1.nm,tM fun i hi=>?_,tM fun i hi k hk=>?_,tM fun i hi=>(hnd i hi).2.2,tM fun i hi=>?_⟩
 ·have:=a4l W hi;omega
 ·have:=I7 W hi k hk;unfold oE;omega
 ·obtain⟨o,h1,_⟩:=hnd i hi;have:=o.fe;unfold oE;omega
structure a0x (t:List Nd) (s:S) (W:Fo):Prop where
 r:a3g s W
 pr:IK (W.tn 0)=IK t
 sz:(nj t t.length (t.length - 1)).sz<=20000
 alk:a0z ((nj t t.length (t.length - 1)).tn 0) (W.tn 0)
theorem Io {t:List Nd} {W K:Fo} {s:S} (ht:Rt t) (r:a3g s W) (hK:zN t t.length (t.length - 1)=tr 1 [] 0 K) (hb:(W.lay 0).map md=((tr 1 [] 0 K).lay 0).map md):a0x t s W:=by
 have hl:=ht.len;have hsz:=r.sz;obtain⟨W',e',hW⟩:=r.one;have hW1:W.ix 0=[W.sz - 1]:=by rw[hW];exact ER ..
 have hW0:0 < W.sz:=by rw[hW];simp only[Fo.sz];omega
 have hz0:(tr 1 [] 0 K).z=tr 1 [] 0 K:=by rw[<-hK,<-Mf,Fo.z_z]
 have hz:W.z=zN t t.length (t.length - 1):=by
  rw[hK,<-hz0];exact a3l (Il hb om) hW1 (ER ..) hW0
 have hOW:(nj t t.length (t.length - 1)).z=W.z:=by rw[Mf,hz]
 have hO:(nj t t.length (t.length - 1)).sz=W.sz:=by rw[<-Fo.ML,hOW,Fo.ML]
 have htl:=Fo.iy W 0;refine⟨r,?_,om,?_⟩
 ·have hz2:zN (W.tn 0) (W.tn 0).length ((W.tn 0).length - 1)=W.z:=by
   have b:=IL (M6 W) (f:=W.sz) om;rw[hW1,show nI [W.sz - 1]=[((W.sz - 1:Nat):Int)] from rfl,fY,b8]at b;rw[htl];exact b
  exact(WA ht.nd (fun i hi=>I7 W hi) t.length (W.tn 0).length (t.length - 1) ((W.tn 0).length - 1) om om om om (by rw[hz2,hz])).symm
 ·refine Il ?_ om;rw[<-Fo.DP,hOW,Fo.DP]
theorem rX {W:Fo} (h:∃ K e,W= .cons 1 [] 0 0 e K .nil):nj (W.tn 0) (W.tn 0).length ((W.tn 0).length - 1)=W:=by
 have b:=zH W 0 W.sz (M6 W) om;obtain⟨K,e,hW⟩:=h;have hW1:W.ix 0=[W.sz - 1]:=by rw[hW];exact ER ..
 rw[hW1,show nI [W.sz - 1]=[((W.sz - 1:Nat):Int)] from rfl,fY,b8]at b;rw[Fo.iy];exact b
end Go.Vm.Pa
namespace Go.Vm.Ite
abbrev Di:Nat:=84
abbrev AX:Nat:=12
abbrev Dh:Nat:=53
class HC (F:Nat->Option dF):Prop extends HL F where
 cut:F 84=some (.prim pU)
 join:F 12=some (.prim nD)
 fmt:F 53=some (.prim pT)
 mv:∀ f e,F f=some e->match e with| .prim p=>pF p| .code _=>False
section
variable {fx:Nat->Option Obj} {F:Nat->Option dF} [HC F]
theorem M1:(b9 fx F).my Di=some (.prim pU):=(HC.cut:F 84=_)
theorem I8:(b9 fx F).my AX=some (.prim nD):=(HC.join:F 12=_)
theorem mvC:ud (b9 fx F):=QX _ F HC.mv
theorem M0:(b9 fx F).my Dh=some (.prim pT):=(HC.fmt:F 53=_)
end
end Go.Vm.Ite
namespace Go.Vm.Itr
open Go.Vm.Ite
open Go.Vm.Tp
open Go.Vm.Lex (de)
abbrev ints (l:List Int):V:= .d (.sl (l.map (D.int .i64)))
abbrev lS (x:Nd):V:= .d x.D
section
variable {fx:Nat->Option Obj} {F:Nat->Option dF} (H:Hp)
theorem fc (k:Int):cv (b9 fx F) Cn [i64 k] H=some (boo (nR k),H):=by
 refine eB ?_ H
 repeat' refine ao (fun h=>?_) (fun h=>?_)
 all_goals show _=_
 all_goals simp[oneOf,nR]at*
 all_goals first|omega|(simp[*];done)
theorem fF (k:Int):cv (b9 fx F) Co [i64 k] H=some (boo (pf k),H):=by
 refine eB ?_ H
 repeat' refine ao (fun h=>?_) (fun h=>?_)
 all_goals show _=_
 all_goals simp[oneOf,pf]at*
 all_goals first|omega|(simp[*];done)
theorem fU (k:Int):cv (b9 fx F) yk [i64 k] H=some (boo (rV k),H):=by
 refine eB ?_ H
 repeat' refine ao (fun h=>?_) (fun h=>?_)
 all_goals show _=_
 all_goals simp[oneOf,rV]at*
 all_goals first|omega|(simp[*];done)
theorem mT (k:Int):cv (b9 fx F) Cp [i64 k] H=some (boo (qm k),H):=by
 refine eB ?_ H
 repeat' refine ao (fun h=>?_) (fun h=>?_)
 all_goals show _=_
 all_goals simp[oneOf,qm]at*
 all_goals first|omega|(simp[*];done)|grind
theorem xU {c d:UInt8} {n:Int} (h:c≠d) (hn:(d.toNat:Int)=n):decide ((c.toNat:Int)=n)=false:=by
 refine ak fun e=>h ?_;apply UInt8.toNat_inj.1;omega
theorem RE (c:UInt8) (k:Int):cv (b9 fx F) NI [u8 c,i64 k] H=some (boo (dE c k),H):=by
 refine eB ?_ H;by_cases c1:c=105
 ·subst c1;by_cases k1:k=2
  ·subst k1
   repeat' (first|refine run ⟨?_⟩|fail)
   exact rfl
  by_cases k2:k=3
  ·subst k2
   repeat' (first|refine run ⟨?_⟩|fail)
   exact rfl
  by_cases k3:k=4
  ·subst k3
   repeat' (first|refine run ⟨?_⟩|fail)
   exact rfl
  rw[show dE 105 k=false from ak om]
  repeat' (first|refine run ⟨?_⟩|fail)
  show _=_;rw[ak k3];rfl
 by_cases c2:c=116
 ·subst c2
  repeat' (first|refine run ⟨?_⟩|refine ca (fc _ _) ?_|fail)
  exact rfl
 by_cases c3:c=115
 ·subst c3
  repeat' (first|refine run ⟨?_⟩|refine ca (fF _ _) ?_|fail)
  exact rfl
 by_cases c4:c=101
 ·subst c4
  repeat' (first|refine run ⟨?_⟩|refine ca (mT _ _) ?_|fail)
  exact rfl
 by_cases c5:c=112
 ·subst c5
  repeat' (first|refine run ⟨?_⟩|refine ca (fU _ _) ?_|fail)
  exact rfl
 by_cases c6:c=98
 ·subst c6
  repeat' (first|refine run ⟨?_⟩|fail)
  exact rfl
 by_cases c7:c=102
 ·subst c7
  repeat' (first|refine run ⟨?_⟩|fail)
  exact rfl
 by_cases c8:c=118
 ·subst c8
  repeat' (first|refine run ⟨?_⟩|fail)
  exact rfl
 by_cases c9:c=110
 ·subst c9
  repeat' (first|refine run ⟨?_⟩|fail)
  exact rfl
 by_cases c10:c=97
 ·subst c10
  repeat' (first|refine run ⟨?_⟩|fail)
  exact rfl
 by_cases c11:c=113
 ·subst c11
  repeat' (first|refine run ⟨?_⟩|fail)
  exact rfl
 by_cases c12:c=111
 ·subst c12;by_cases k1:k=20
  ·subst k1
   repeat' (first|refine run ⟨?_⟩|fail)
   exact rfl
  by_cases k2:k=45
  ·subst k2
   repeat' (first|refine run ⟨?_⟩|fail)
   exact rfl
  rw[show dE 111 k=false from ak om]
  repeat' (first|refine run ⟨?_⟩|fail)
  show _=_;rw[ak k2];rfl
 have e:dE c k=false:=by unfold dE;simp[c1,c2,c3,c4,c5,c6,c7,c8,c9,c10,c11,c12]
 rw[e];refine bz (xU c1 rfl) ?_;refine bz (xU c2 rfl) ?_;refine bz (xU c3 rfl) ?_;refine bz (xU c4 rfl) ?_;refine bz (xU c5 rfl) ?_;refine bz (xU c6 rfl) ?_;refine bz (xU c7 rfl) ?_;refine bz (xU c8 rfl) ?_;refine bz (xU c9 rfl) ?_;refine bz (xU c10 rfl) ?_;refine bz (xU c11 rfl) ?_;refine bz (xU c12 rfl) ?_;rfl
theorem Bf (l:List Int):((l.map (D.int .i64)).all fun y=>y.cells.length==1)=true:=by
  rw[mo,aC];intro x _;rfl
theorem a5f {l:List Int} (h:1<=l.length):(1<=(l.map (D.int .i64)).length/\(l.map (D.int .i64)).length<=(l.map (D.int .i64)).length/\((some (eo.c (i64 1))).isNone||(l.map (D.int .i64)).all fun y=>y.cells.length==1)=true):=
  ⟨by rw[aE];exact h,ai _,by rw[Bf];rfl⟩
theorem JX {c:UInt8} (hc:c≠63) (s:List UInt8) (l:List Int):bx (c::s) l=(match l with|[]=>false|a::r=>dE c a && bx s r):=by
  cases s with
  |nil=>cases l<;>rfl
  |cons d s=>simp only[bx,aA hc]<;>cases l<;>rfl
theorem U8 (d:UInt8) (s:List UInt8) (l:List Int):bx (63::d::s) l=((match l with|[]=>false|a::r=>dE d a && bx s r)||bx s l):=by simp only[bx,cU]<;>cases l<;>rfl
theorem pW:∀ (n:Nat) (s:List UInt8) (l:List Int),s.length<=n->(∀ a,s≠a++[63])->∀ H,cv (b9 fx F) GW [str s,ints l] H=some (boo (bx s l),H)
 |n,[],l,_,_,H=>by
  refine eB ?_ H;refine ej rfl ?_;show _=_;cases l with
  |nil=>rfl
  |cons a r=>simp[oneOf,bx];omega
 |0,c::s,l,h,_,H=>by simp at h
 |n+1,c::s,l,h,h2,H=>by
  have h3:∀ a,s≠a++[63]:=fun a e=>h2 (c::a) (by rw[e];rfl);refine eB ?_ H;refine bz rfl ?_;refine eV (d:=c) ⟨cI _,rfl⟩ ?_;by_cases hc:c=63
  ·subst hc;cases s with
   |nil=>exact absurd rfl (h2 [])
   |cons d s=>
    have h4:∀ a,s≠a++[63]:=fun a e=>h3 (d::a) (by rw[e];rfl);have hs:s.length<=n:=by simp at h;omega
    refine ej rfl ?_;rw[U8];have tail:∀ _:List Int,List.drop (Int.toNat 2) (List.take (63::d::s).length (63::d::s))=s:=by intro l;simp
    cases l with
    |nil=>
     refine fI rfl ?_
     repeat' (first|refine run ⟨?_⟩|fail)
     refine ao ⟨by simp,by simp⟩ ?_;rw[tail []];refine ca (pW n s [] hs h4 _) ?_
     repeat' (first|refine run ⟨?_⟩|fail)
     exact rfl
    |cons a r=>
     refine ju (au (by simp only[aE,aw];omega)) ?_;refine eV (d:=d) ⟨om,rfl⟩ ?_;refine eV (d:= .int .i64 a) ⟨cI _,rfl⟩ ?_;refine ao rfl ?_;refine ca (RE _ d a) ?_
     repeat' (first|refine run ⟨?_⟩|fail)
     cases hl:dE d a with
     |false=>
      refine fI rfl ?_
      repeat' (first|refine run ⟨?_⟩|fail)
      refine ao ⟨by simp,by simp⟩ ?_;rw[tail []];refine ca (pW n s (a::r) hs h4 _) ?_
      repeat' (first|refine run ⟨?_⟩|fail)
      show _=_;simp_all[oneOf]
     |true=>
      refine ju rfl ?_;refine ao ⟨by simp,by simp⟩ ?_;refine ao (a5f (by simp)) ?_;rw[tail []];have e2:List.drop (Int.toNat 1) (List.take (List.map (D.int .i64) (a::r)).length (List.map (D.int .i64) (a::r)))=r.map (D.int .i64):=by rw[cb];rfl
      rw[e2];refine ca (pW n s r hs h4 _) ?_
      repeat' (first|refine run ⟨?_⟩|fail)
      cases hk:bx s r with
      |true=>
       repeat' (first|refine run ⟨?_⟩|fail)
       repeat' (first|refine run ⟨?_⟩|fail)
       show _=_;simp_all[oneOf]
      |false=>
       repeat' (first|refine run ⟨?_⟩|fail)
       refine ao ⟨by simp,by simp⟩ ?_;rw[tail []];refine ca (pW n s (a::r) hs h4 _) ?_
       repeat' (first|refine run ⟨?_⟩|fail)
       show _=_;simp_all[oneOf]
  ·refine bz (xU hc rfl) ?_;rw[JX hc];have hs:s.length<=n:=by simp at h;omega
   cases l with
   |nil=>
    refine fI rfl ?_
    repeat' (first|refine run ⟨?_⟩|fail)
    exact rfl
   |cons a r=>
    refine ju (au (by simp only[aE,aw];omega)) ?_;refine eV (d:=c) ⟨cI _,rfl⟩ ?_;refine eV (d:= .int .i64 a) ⟨cI _,rfl⟩ ?_;refine ao rfl ?_;refine ca (RE _ c a) ?_
    repeat' (first|refine run ⟨?_⟩|fail)
    cases hl:dE c a with
    |false=>
     refine fI rfl ?_
     repeat' (first|refine run ⟨?_⟩|fail)
     show _=_;simp_all[oneOf]
    |true=>
     refine ju rfl ?_;refine ao ⟨by simp,by simp⟩ ?_;refine ao (a5f (by simp)) ?_;have e1:List.drop (Int.toNat 1) (List.take (c::s).length (c::s))=s:=by simp
     have e2:List.drop (Int.toNat 1) (List.take (List.map (D.int .i64) (a::r)).length (List.map (D.int .i64) (a::r)))=r.map (D.int .i64):=by rw[cb];rfl
     rw[e1,e2];refine ca (pW n s r hs h3 _) ?_
     repeat' (first|refine run ⟨?_⟩|fail)
     show _=_;simp_all[oneOf]
end
section
variable {fx:Nat->Option Obj} {F:Nat->Option dF} (H:Hp)
theorem VV (k:Int) (c:UInt8):cv (b9 fx F) oG [i64 k,.ptr 0 0] [.box [u8 c]]=some (boo (!dE c k),[.box [u8 c]]):=by
 refine xp ?_
 repeat' (first|refine run ⟨?_⟩|refine ca (RE _ _ _) ?_|fail)
 first|exact rfl|exact⟨rfl,rfl⟩
theorem Vf (l:List Int) (c:UInt8) (hl:l.length<=1048576):cv (b9 fx F) o6 [ints l,.fn oG [.ptr 0 0]] [.box [u8 c]]=some (i64 (if l.all (dE c) then -1 else(l.findIdx fun k=> !dE c k:Nat)),[.box [u8 c]]):=by
  refine xp ?_;refine wp_loop (α:=Nat) (fun i=>l.length - i) (fun i=>[(0,ints l),(1,.fn oG [.ptr 0 0]),(7,i64 (l.map (D.int .i64)).length),(8,i64 i)]) (fun _=>[.box [u8 c]]) (fun i=>i<=l.length/\∀ k∈l.take i,dE c k=true) ?_ 0 ⟨om,by simp⟩;rintro i ⟨hi,hall⟩;refine ao (fun h=>?_) (fun h=>?_)
  ·replace h:=af h;rw[aE]at h;have hlt:i < l.length:=om;refine tI (s:=l.map (D.int .i64)) (by rw[aE];exact hlt) ?_;rw[m8];refine ao rfl ?_;refine ca (VV l[i] c) ?_;cases hk:dE c l[i] with
   |true=>
    repeat' (first|refine run ⟨?_⟩|fail)
    refine⟨i+1,⟨om,?_⟩,om,?_,rfl⟩
    ·intro k hkm;rw[dL,ae hlt,cd]at hkm;rcases hkm with hkm|hkm
     ·exact hall k hkm
     ·simp at hkm;rw[hkm];exact hk
    ·rw[eK om];rfl
   |false=>
    repeat' (first|refine run ⟨?_⟩|fail)
    refine⟨?_,rfl⟩;have h1:l.all (dE c)=false:=by
     cases hb:l.all (dE c)with
     |false=>rfl
     |true=>have:=aC.1 hb l[i] (dG _);rw[hk]at this;cases this
    rw[h1];have h2:l.findIdx (fun k=> !dE c k)=i:=by
      rw[List.findIdx_eq hlt];refine⟨by rw[hk];rfl,fun j hj=>?_⟩;have:l[j]∈l.take i:=by rw[List.mem_take_iff_getElem];exact⟨j,om,rfl⟩
      rw[hall _ this];rfl
    rw[h2];rfl
  ·replace h:=bw h;rw[aE]at h;have hi':i=l.length:=om;subst hi';rw[cb]at hall;refine⟨?_,rfl⟩;rw[aC.2 hall];rfl
theorem a9d (l:List Int) (c:UInt8) (hl:l.length<=1048576):cv (b9 fx F) nG [ints l,.fn oG [.ptr 0 0]] [.box [u8 c]]=some (boo (!l.all (dE c)),[.box [u8 c]]):=by
 refine xp ?_;refine ca (Vf l c hl) ?_;refine⟨?_,rfl⟩;cases l.all (dE c)with
 |true=>rfl
 |false=>show V.d (.bool (decide (0<=((l.findIdx fun k=> !dE c k:Nat):Int))))=_;rw[au om];rfl
theorem a0n (l:List Int) (c:UInt8) (hl:l.length<=1048576):cv (b9 fx F) JP [u8 c,ints l] H=some (boo (l.all (dE c)),H):=by
 refine eB ?_ H;refine ca (a9d l c hl) ?_;show _=_;cases l.all (dE c)<;>rfl
theorem qJ (k:Int):cv (b9 fx F) EE [i64 k] H=some (boo (ey k),H):=by
 refine eB ?_ H;by_cases h1:1<=k
 ·skip;by_cases h2:k<=7
  ·skip
   repeat' (first|refine run ⟨?_⟩|fail)
   try first|refine ej (au h1) ?_|refine ju (au h1) ?_|refine iS (au h1) ?_
   repeat' (first|refine run ⟨?_⟩|fail)
   try first|refine ej (au h2) ?_|refine ju (au h2) ?_|refine iS (au h2) ?_
   repeat' (first|refine run ⟨?_⟩|fail)
   show _=_;simp[oneOf,ey, *]
  ·skip;cases h3:nR k with
   |true=>
    repeat' (first|refine run ⟨?_⟩|fail)
    try first|refine ej (au h1) ?_|refine ju (au h1) ?_|refine iS (au h1) ?_
    repeat' (first|refine run ⟨?_⟩|fail)
    try first|refine bz (ak h2) ?_|refine fI (ak h2) ?_|refine fv (ak h2) ?_
    repeat' (first|refine run ⟨?_⟩|fail)
    try refine ca (fc _ _) ?_
    repeat' (first|refine run ⟨?_⟩|fail)
    try first|refine ej h3 ?_|refine ju h3 ?_|refine iS h3 ?_
    repeat' (first|refine run ⟨?_⟩|fail)
    show _=_;simp[oneOf,ey, *]
   |false=>
    cases h4:pf k with
    |true=>
     repeat' (first|refine run ⟨?_⟩|fail)
     try first|refine ej (au h1) ?_|refine ju (au h1) ?_|refine iS (au h1) ?_
     repeat' (first|refine run ⟨?_⟩|fail)
     try first|refine bz (ak h2) ?_|refine fI (ak h2) ?_|refine fv (ak h2) ?_
     repeat' (first|refine run ⟨?_⟩|fail)
     try refine ca (fc _ _) ?_
     repeat' (first|refine run ⟨?_⟩|fail)
     try first|refine bz h3 ?_|refine fI h3 ?_|refine fv h3 ?_
     repeat' (first|refine run ⟨?_⟩|fail)
     try refine ca (fF _ _) ?_
     repeat' (first|refine run ⟨?_⟩|fail)
     try first|refine ej h4 ?_|refine ju h4 ?_|refine iS h4 ?_
     repeat' (first|refine run ⟨?_⟩|fail)
     show _=_;simp[oneOf,ey, *]
    |false=>
     cases h5:rV k with
     |true=>
      repeat' (first|refine run ⟨?_⟩|fail)
      try first|refine ej (au h1) ?_|refine ju (au h1) ?_|refine iS (au h1) ?_
      repeat' (first|refine run ⟨?_⟩|fail)
      try first|refine bz (ak h2) ?_|refine fI (ak h2) ?_|refine fv (ak h2) ?_
      repeat' (first|refine run ⟨?_⟩|fail)
      try refine ca (fc _ _) ?_
      repeat' (first|refine run ⟨?_⟩|fail)
      try first|refine bz h3 ?_|refine fI h3 ?_|refine fv h3 ?_
      repeat' (first|refine run ⟨?_⟩|fail)
      try refine ca (fF _ _) ?_
      repeat' (first|refine run ⟨?_⟩|fail)
      try first|refine bz h4 ?_|refine fI h4 ?_|refine fv h4 ?_
      repeat' (first|refine run ⟨?_⟩|fail)
      try refine ca (fU _ _) ?_
      repeat' (first|refine run ⟨?_⟩|fail)
      try first|refine ej h5 ?_|refine ju h5 ?_|refine iS h5 ?_
      repeat' (first|refine run ⟨?_⟩|fail)
      show _=_;simp[oneOf,ey, *]
     |false=>
      cases h6:qm k with
      |true=>
       repeat' (first|refine run ⟨?_⟩|fail)
       try first|refine ej (au h1) ?_|refine ju (au h1) ?_|refine iS (au h1) ?_
       repeat' (first|refine run ⟨?_⟩|fail)
       try first|refine bz (ak h2) ?_|refine fI (ak h2) ?_|refine fv (ak h2) ?_
       repeat' (first|refine run ⟨?_⟩|fail)
       try refine ca (fc _ _) ?_
       repeat' (first|refine run ⟨?_⟩|fail)
       try first|refine bz h3 ?_|refine fI h3 ?_|refine fv h3 ?_
       repeat' (first|refine run ⟨?_⟩|fail)
       try refine ca (fF _ _) ?_
       repeat' (first|refine run ⟨?_⟩|fail)
       try first|refine bz h4 ?_|refine fI h4 ?_|refine fv h4 ?_
       repeat' (first|refine run ⟨?_⟩|fail)
       try refine ca (fU _ _) ?_
       repeat' (first|refine run ⟨?_⟩|fail)
       try first|refine bz h5 ?_|refine fI h5 ?_|refine fv h5 ?_
       repeat' (first|refine run ⟨?_⟩|fail)
       try refine ca (mT _ _) ?_
       repeat' (first|refine run ⟨?_⟩|fail)
       try first|refine ej h6 ?_|refine ju h6 ?_|refine iS h6 ?_
       repeat' (first|refine run ⟨?_⟩|fail)
       show _=_;simp[oneOf,ey, *]
      |false=>
       by_cases h7:k=36
       ·skip
        repeat' (first|refine run ⟨?_⟩|fail)
        try first|refine ej (au h1) ?_|refine ju (au h1) ?_|refine iS (au h1) ?_
        repeat' (first|refine run ⟨?_⟩|fail)
        try first|refine bz (ak h2) ?_|refine fI (ak h2) ?_|refine fv (ak h2) ?_
        repeat' (first|refine run ⟨?_⟩|fail)
        try refine ca (fc _ _) ?_
        repeat' (first|refine run ⟨?_⟩|fail)
        try first|refine bz h3 ?_|refine fI h3 ?_|refine fv h3 ?_
        repeat' (first|refine run ⟨?_⟩|fail)
        try refine ca (fF _ _) ?_
        repeat' (first|refine run ⟨?_⟩|fail)
        try first|refine bz h4 ?_|refine fI h4 ?_|refine fv h4 ?_
        repeat' (first|refine run ⟨?_⟩|fail)
        try refine ca (fU _ _) ?_
        repeat' (first|refine run ⟨?_⟩|fail)
        try first|refine bz h5 ?_|refine fI h5 ?_|refine fv h5 ?_
        repeat' (first|refine run ⟨?_⟩|fail)
        try refine ca (mT _ _) ?_
        repeat' (first|refine run ⟨?_⟩|fail)
        try first|refine bz h6 ?_|refine fI h6 ?_|refine fv h6 ?_
        repeat' (first|refine run ⟨?_⟩|fail)
        try first|refine ej (au h7) ?_|refine ju (au h7) ?_|refine iS (au h7) ?_
        repeat' (first|refine run ⟨?_⟩|fail)
        show _=_;simp[oneOf,ey, *]
       ·skip
        repeat' (first|refine run ⟨?_⟩|fail)
        try first|refine ej (au h1) ?_|refine ju (au h1) ?_|refine iS (au h1) ?_
        repeat' (first|refine run ⟨?_⟩|fail)
        try first|refine bz (ak h2) ?_|refine fI (ak h2) ?_|refine fv (ak h2) ?_
        repeat' (first|refine run ⟨?_⟩|fail)
        try refine ca (fc _ _) ?_
        repeat' (first|refine run ⟨?_⟩|fail)
        try first|refine bz h3 ?_|refine fI h3 ?_|refine fv h3 ?_
        repeat' (first|refine run ⟨?_⟩|fail)
        try refine ca (fF _ _) ?_
        repeat' (first|refine run ⟨?_⟩|fail)
        try first|refine bz h4 ?_|refine fI h4 ?_|refine fv h4 ?_
        repeat' (first|refine run ⟨?_⟩|fail)
        try refine ca (fU _ _) ?_
        repeat' (first|refine run ⟨?_⟩|fail)
        try first|refine bz h5 ?_|refine fI h5 ?_|refine fv h5 ?_
        repeat' (first|refine run ⟨?_⟩|fail)
        try refine ca (mT _ _) ?_
        repeat' (first|refine run ⟨?_⟩|fail)
        try first|refine bz h6 ?_|refine fI h6 ?_|refine fv h6 ?_
        repeat' (first|refine run ⟨?_⟩|fail)
        try first|refine bz (ak h7) ?_|refine fI (ak h7) ?_|refine fv (ak h7) ?_
        repeat' (first|refine run ⟨?_⟩|fail)
        show _=_;simp[oneOf,ey, *]
 ·skip;cases h8:nR k with
  |true=>
   repeat' (first|refine run ⟨?_⟩|fail)
   try first|refine bz (ak h1) ?_|refine fI (ak h1) ?_|refine fv (ak h1) ?_
   repeat' (first|refine run ⟨?_⟩|fail)
   try refine ca (fc _ _) ?_
   repeat' (first|refine run ⟨?_⟩|fail)
   try first|refine ej h8 ?_|refine ju h8 ?_|refine iS h8 ?_
   repeat' (first|refine run ⟨?_⟩|fail)
   show _=_;simp[oneOf,ey, *]
  |false=>
   cases h9:pf k with
   |true=>
    repeat' (first|refine run ⟨?_⟩|fail)
    try first|refine bz (ak h1) ?_|refine fI (ak h1) ?_|refine fv (ak h1) ?_
    repeat' (first|refine run ⟨?_⟩|fail)
    try refine ca (fc _ _) ?_
    repeat' (first|refine run ⟨?_⟩|fail)
    try first|refine bz h8 ?_|refine fI h8 ?_|refine fv h8 ?_
    repeat' (first|refine run ⟨?_⟩|fail)
    try refine ca (fF _ _) ?_
    repeat' (first|refine run ⟨?_⟩|fail)
    try first|refine ej h9 ?_|refine ju h9 ?_|refine iS h9 ?_
    repeat' (first|refine run ⟨?_⟩|fail)
    show _=_;simp[oneOf,ey, *]
   |false=>
    cases h10:rV k with
    |true=>
     repeat' (first|refine run ⟨?_⟩|fail)
     try first|refine bz (ak h1) ?_|refine fI (ak h1) ?_|refine fv (ak h1) ?_
     repeat' (first|refine run ⟨?_⟩|fail)
     try refine ca (fc _ _) ?_
     repeat' (first|refine run ⟨?_⟩|fail)
     try first|refine bz h8 ?_|refine fI h8 ?_|refine fv h8 ?_
     repeat' (first|refine run ⟨?_⟩|fail)
     try refine ca (fF _ _) ?_
     repeat' (first|refine run ⟨?_⟩|fail)
     try first|refine bz h9 ?_|refine fI h9 ?_|refine fv h9 ?_
     repeat' (first|refine run ⟨?_⟩|fail)
     try refine ca (fU _ _) ?_
     repeat' (first|refine run ⟨?_⟩|fail)
     try first|refine ej h10 ?_|refine ju h10 ?_|refine iS h10 ?_
     repeat' (first|refine run ⟨?_⟩|fail)
     show _=_;simp[oneOf,ey, *]
    |false=>
     cases h11:qm k with
     |true=>
      repeat' (first|refine run ⟨?_⟩|fail)
      try first|refine bz (ak h1) ?_|refine fI (ak h1) ?_|refine fv (ak h1) ?_
      repeat' (first|refine run ⟨?_⟩|fail)
      try refine ca (fc _ _) ?_
      repeat' (first|refine run ⟨?_⟩|fail)
      try first|refine bz h8 ?_|refine fI h8 ?_|refine fv h8 ?_
      repeat' (first|refine run ⟨?_⟩|fail)
      try refine ca (fF _ _) ?_
      repeat' (first|refine run ⟨?_⟩|fail)
      try first|refine bz h9 ?_|refine fI h9 ?_|refine fv h9 ?_
      repeat' (first|refine run ⟨?_⟩|fail)
      try refine ca (fU _ _) ?_
      repeat' (first|refine run ⟨?_⟩|fail)
      try first|refine bz h10 ?_|refine fI h10 ?_|refine fv h10 ?_
      repeat' (first|refine run ⟨?_⟩|fail)
      try refine ca (mT _ _) ?_
      repeat' (first|refine run ⟨?_⟩|fail)
      try first|refine ej h11 ?_|refine ju h11 ?_|refine iS h11 ?_
      repeat' (first|refine run ⟨?_⟩|fail)
      show _=_;simp[oneOf,ey, *]
     |false=>
      by_cases h12:k=36
      ·skip
       repeat' (first|refine run ⟨?_⟩|fail)
       try first|refine bz (ak h1) ?_|refine fI (ak h1) ?_|refine fv (ak h1) ?_
       repeat' (first|refine run ⟨?_⟩|fail)
       try refine ca (fc _ _) ?_
       repeat' (first|refine run ⟨?_⟩|fail)
       try first|refine bz h8 ?_|refine fI h8 ?_|refine fv h8 ?_
       repeat' (first|refine run ⟨?_⟩|fail)
       try refine ca (fF _ _) ?_
       repeat' (first|refine run ⟨?_⟩|fail)
       try first|refine bz h9 ?_|refine fI h9 ?_|refine fv h9 ?_
       repeat' (first|refine run ⟨?_⟩|fail)
       try refine ca (fU _ _) ?_
       repeat' (first|refine run ⟨?_⟩|fail)
       try first|refine bz h10 ?_|refine fI h10 ?_|refine fv h10 ?_
       repeat' (first|refine run ⟨?_⟩|fail)
       try refine ca (mT _ _) ?_
       repeat' (first|refine run ⟨?_⟩|fail)
       try first|refine bz h11 ?_|refine fI h11 ?_|refine fv h11 ?_
       repeat' (first|refine run ⟨?_⟩|fail)
       try first|refine ej (au h12) ?_|refine ju (au h12) ?_|refine iS (au h12) ?_
       repeat' (first|refine run ⟨?_⟩|fail)
       show _=_;simp[oneOf,ey, *]
      ·skip
       repeat' (first|refine run ⟨?_⟩|fail)
       try first|refine bz (ak h1) ?_|refine fI (ak h1) ?_|refine fv (ak h1) ?_
       repeat' (first|refine run ⟨?_⟩|fail)
       try refine ca (fc _ _) ?_
       repeat' (first|refine run ⟨?_⟩|fail)
       try first|refine bz h8 ?_|refine fI h8 ?_|refine fv h8 ?_
       repeat' (first|refine run ⟨?_⟩|fail)
       try refine ca (fF _ _) ?_
       repeat' (first|refine run ⟨?_⟩|fail)
       try first|refine bz h9 ?_|refine fI h9 ?_|refine fv h9 ?_
       repeat' (first|refine run ⟨?_⟩|fail)
       try refine ca (fU _ _) ?_
       repeat' (first|refine run ⟨?_⟩|fail)
       try first|refine bz h10 ?_|refine fI h10 ?_|refine fv h10 ?_
       repeat' (first|refine run ⟨?_⟩|fail)
       try refine ca (mT _ _) ?_
       repeat' (first|refine run ⟨?_⟩|fail)
       try first|refine bz h11 ?_|refine fI h11 ?_|refine fv h11 ?_
       repeat' (first|refine run ⟨?_⟩|fail)
       try first|refine bz (ak h12) ?_|refine fI (ak h12) ?_|refine fv (ak h12) ?_
       repeat' (first|refine run ⟨?_⟩|fail)
       show _=_;simp[oneOf,ey, *]
theorem zx (s:List UInt8):cv (b9 fx F) GS [str s] H=some (boo (decide (s∈iz)),H):=by
 refine eB ?_ H
 repeat' refine ao (fun h=>?_) (fun h=>?_)
 all_goals show _=_
 all_goals simp only[an,bX]at*
 all_goals simp[oneOf,iz, *]
end
section
variable {fx:Nat->Option Obj} {F:Nat->Option dF} (H:Hp)
theorem PI (x:Nd):cv (b9 fx F) ED [lS x] H=some (str (x9 x.k x.v),H):=by
 obtain⟨k,t,v,kids,f,e⟩:=x;refine eB ?_ H;by_cases c1:k=1
 ·subst c1
  repeat' (first|refine run ⟨?_⟩|fail)
  exact rfl
 by_cases c2:k=2
 ·subst c2
  repeat' (first|refine run ⟨?_⟩|fail)
  exact rfl
 by_cases c3:k=3
 ·subst c3
  repeat' (first|refine run ⟨?_⟩|fail)
  exact rfl
 by_cases c4:k=4
 ·subst c4
  repeat' (first|refine run ⟨?_⟩|fail)
  exact rfl
 by_cases c5:k=5
 ·subst c5
  repeat' (first|refine run ⟨?_⟩|fail)
  exact rfl
 by_cases c7:k=7
 ·subst c7
  repeat' (first|refine run ⟨?_⟩|fail)
  exact rfl
 by_cases c14:k=14
 ·subst c14
  repeat' (first|refine run ⟨?_⟩|fail)
  exact rfl
 by_cases c15:k=15
 ·subst c15
  repeat' (first|refine run ⟨?_⟩|fail)
  exact rfl
 by_cases c16:k=16
 ·subst c16
  repeat' (first|refine run ⟨?_⟩|fail)
  exact rfl
 by_cases c6:k=6
 ·subst c6
  repeat' (first|refine run ⟨?_⟩|fail)
  exact rfl
 by_cases c21:k=21
 ·subst c21
  repeat' (first|refine run ⟨?_⟩|fail)
  exact rfl
 by_cases c23:k=23
 ·subst c23
  repeat' (first|refine run ⟨?_⟩|fail)
  exact rfl
 by_cases c38:k=38
 ·subst c38
  repeat' (first|refine run ⟨?_⟩|fail)
  exact rfl
 by_cases c24:k=24
 ·subst c24
  repeat' (first|refine run ⟨?_⟩|fail)
  exact rfl
 by_cases c25:k=25
 ·subst c25
  repeat' (first|refine run ⟨?_⟩|fail)
  exact rfl
 by_cases c37:k=37
 ·subst c37
  repeat' (first|refine run ⟨?_⟩|fail)
  exact rfl
 by_cases c34:k=34
 ·subst c34
  repeat' (first|refine run ⟨?_⟩|fail)
  exact rfl
 by_cases c35:k=35
 ·subst c35
  repeat' (first|refine run ⟨?_⟩|fail)
  exact rfl
 by_cases c22:k=22
 ·subst c22
  repeat' (first|refine run ⟨?_⟩|fail)
  exact rfl
 by_cases c36:k=36
 ·subst c36
  repeat' (first|refine run ⟨?_⟩|fail)
  exact rfl
 by_cases c41:k=41
 ·subst c41
  repeat' (first|refine run ⟨?_⟩|fail)
  exact rfl
 by_cases c39:k=39
 ·subst c39
  repeat' (first|refine run ⟨?_⟩|fail)
  exact rfl
 by_cases c40:k=40
 ·subst c40
  repeat' (first|refine run ⟨?_⟩|fail)
  exact rfl
 by_cases c42:k=42
 ·subst c42
  repeat' (first|refine run ⟨?_⟩|fail)
  exact rfl
 by_cases c44:k=44
 ·subst c44
  repeat' (first|refine run ⟨?_⟩|fail)
  exact rfl
 by_cases c43:k=43
 ·subst c43
  repeat' (first|refine run ⟨?_⟩|fail)
  exact rfl
 by_cases c45:k=45
 ·subst c45
  repeat' (first|refine run ⟨?_⟩|fail)
  exact rfl
 by_cases c46:k=46
 ·subst c46
  repeat' (first|refine run ⟨?_⟩|fail)
  exact rfl
 by_cases c47:k=47
 ·subst c47
  repeat' (first|refine run ⟨?_⟩|fail)
  exact rfl
 by_cases c54:k=54
 ·subst c54
  repeat' (first|refine run ⟨?_⟩|fail)
  exact rfl
 by_cases c20:k=20
 ·subst c20;by_cases hv:v=1
  ·subst hv
   repeat' (first|refine run ⟨?_⟩|fail)
   exact rfl
  rw[show x9 20 v=[42,115] by simp[x9,lN,shapeOf,hv]]
  repeat' (first|refine run ⟨?_⟩|fail)
  exact rfl
 have e0:x9 k v=[]:=by
  unfold x9 lN;simp only[c1,c2,c3,c4,c5,c7,c14,c15,c16,c6,c21,c23,c38,c24,c25,c37,c34,c35,c22,c36,c41,c39,c40,c42,c44,c43,c45,c46,c47,c54,c20,iE,or_self];rfl
 rw[e0]
 repeat' (first|refine run ⟨?_⟩|fail)
 exact rfl
end
end Go.Vm.Itr
namespace Go.Vm.Itr
open Go.Vm.Ite
open Go.Vm.Tp
open Go.Vm.Lex (de zD)
section
variable {fx:Nat->Option Obj} {F:Nat->Option dF} [HC F] (H:Hp)
theorem Du (s:List UInt8) (c:UInt8):cv (b9 fx F) n9 [str s,u8 c] H=some (i64 (Lib.indexByte s c),H):=by
 rw[jT (sn (F:=F))];show some (V.d (D.int .i64 (Lib.indexByte s ((c.toNat:Int)).toNat.toUInt8)),H)=_;simp
theorem Fv (s:List UInt8) (hs:s.length<=1048576):cv (b9 fx F) Di [str s,str [58,58]] H=some (.tup [str (fV s).1,str (fV s).2.1,boo (fV s).2.2],H):=by
 rw[jT (M1 (F:=F))];exact ay om
theorem SH (s:List UInt8):(fV s).1.length<=s.length/\(fV s).2.1.length<=s.length:=by
 unfold fV Lib.cut;split<;>simp<;>omega
theorem YP {n:Nat} (h:n<=1048576):n<=maxLen:=by unfold maxLen;omega
theorem sU (x:Nd) (hx:x.t.length<=1048576):cv (b9 fx F) GV [lS x] H=some (boo (vM x.k x.t),H):=by
 obtain⟨k,t,v,kids,f,e⟩:=x;simp only at hx⊢;refine eB ?_ H;by_cases hA:k=2\/k=3\/k=4\/k=5\/k=6\/k=7\/k=13\/k=21\/k=33\/k=34\/k=35\/k=36\/k=41\/k=51
 ·have e0:vM k t=de t:=by unfold vM;rw[ay hA]
  rw[e0];rcases hA with rfl|rfl|rfl|rfl|rfl|rfl|rfl|rfl|rfl|rfl|rfl|rfl|rfl|rfl
  all_goals
   repeat' (first|refine run ⟨?_⟩|refine ca (zD _ _ (YP hx)) ?_|fail)
   exact rfl
 have e1:vM k t=if k=37\/k=54 then(fV t).2.2 && de (fV t).1 && de (fV t).2.1 else if k=38 then decide (t∈iz) else decide (t=[]):=by unfold vM;exact aA hA
 rw[e1];clear e1;simp only[not_or]at hA;obtain⟨a2,a3,a4,a5,a6,a7,a13,a21,a33,a34,a35,a36,a41,a51⟩:=hA
 try refine bz (ak a2) ?_
 repeat' (first|refine run ⟨?_⟩|fail)
 try refine bz (ak a3) ?_
 repeat' (first|refine run ⟨?_⟩|fail)
 try refine bz (ak a4) ?_
 repeat' (first|refine run ⟨?_⟩|fail)
 try refine bz (ak a5) ?_
 repeat' (first|refine run ⟨?_⟩|fail)
 try refine bz (ak a6) ?_
 repeat' (first|refine run ⟨?_⟩|fail)
 try refine bz (ak a7) ?_
 repeat' (first|refine run ⟨?_⟩|fail)
 try refine bz (ak a13) ?_
 repeat' (first|refine run ⟨?_⟩|fail)
 try refine bz (ak a21) ?_
 repeat' (first|refine run ⟨?_⟩|fail)
 try refine bz (ak a33) ?_
 repeat' (first|refine run ⟨?_⟩|fail)
 try refine bz (ak a34) ?_
 repeat' (first|refine run ⟨?_⟩|fail)
 try refine bz (ak a35) ?_
 repeat' (first|refine run ⟨?_⟩|fail)
 try refine bz (ak a36) ?_
 repeat' (first|refine run ⟨?_⟩|fail)
 try refine bz (ak a41) ?_
 repeat' (first|refine run ⟨?_⟩|fail)
 try refine bz (ak a51) ?_
 repeat' (first|refine run ⟨?_⟩|fail)
 have hc:=SH t;by_cases hB:k=37\/k=54
 ·rw[ay hB];have st:k=37\/k=54->True:=fun _=>trivial;rcases hB with rfl|rfl
  all_goals
   repeat' (first|refine run ⟨?_⟩|refine ca (Fv _ _ hx) ?_|fail)
   cases h1:(fV t).2.2 with
   |false=>
    repeat' (first|refine run ⟨?_⟩|fail)
    exact rfl
   |true=>
    repeat' (first|refine run ⟨?_⟩|refine ca (zD _ _ (YP (dD hc.1 hx))) ?_|fail)
    cases h2:de (fV t).1 with
    |false=>
     repeat' (first|refine run ⟨?_⟩|fail)
     exact rfl
    |true=>
     repeat' (first|refine run ⟨?_⟩|refine ca (zD _ _ (YP (dD hc.2 hx))) ?_|fail)
     exact rfl
 rw[aA hB];simp only[not_or]at hB
 try refine bz (ak hB.1) ?_
 repeat' (first|refine run ⟨?_⟩|fail)
 try refine bz (ak hB.2) ?_
 repeat' (first|refine run ⟨?_⟩|fail)
 by_cases hC:k=38
 ·subst hC
  repeat' (first|refine run ⟨?_⟩|refine ca (zx _ _) ?_|fail)
  exact rfl
 rw[aA hC]
 try refine bz (ak hC) ?_
 repeat' (first|refine run ⟨?_⟩|fail)
 exact rfl
theorem Ey (x:Nd) (p:Int):cv (b9 fx F) JO [lS x,i64 p] H=some (boo (gd x.k x.v p),H):=by
 have _u:=(inferInstance:HC F);obtain⟨k,t,v,kids,f,e⟩:=x;simp only;refine eB ?_ H;by_cases h2:k=2
 ·subst h2
  repeat' (first|refine run ⟨?_⟩|fail)
  exact rfl
 try refine bz (ak h2) ?_
 repeat' (first|refine run ⟨?_⟩|fail)
 by_cases hA:k=7\/k=20\/k=21\/k=31\/k=53\/k=43
 ·have e0:gd k v p=(decide (v=0)||decide (v=1)):=by unfold gd;rw[aA h2,ay hA]
  rw[e0];rcases hA with rfl|rfl|rfl|rfl|rfl|rfl
  all_goals
   by_cases h0:v=0
   ·subst h0
    repeat' (first|refine run ⟨?_⟩|fail)
    exact rfl
   ·repeat' (first|refine run ⟨?_⟩|fail)
    try refine fv (ak h0) ?_
    repeat' (first|refine run ⟨?_⟩|fail)
    show _=_;rw[ak h0];rfl
 have e1:gd k v p=(if k=30 then decide (0<=v) else if k=52 then decide (-9223372036854775808 < v) else decide (v=0)):=by unfold gd;rw[aA h2,aA hA]
 rw[e1];simp only[not_or]at hA;obtain⟨a1,a2,a3,a4,a5,a6⟩:=hA
 try refine bz (ak a1) ?_
 repeat' (first|refine run ⟨?_⟩|fail)
 try refine bz (ak a2) ?_
 repeat' (first|refine run ⟨?_⟩|fail)
 try refine bz (ak a3) ?_
 repeat' (first|refine run ⟨?_⟩|fail)
 try refine bz (ak a4) ?_
 repeat' (first|refine run ⟨?_⟩|fail)
 try refine bz (ak a5) ?_
 repeat' (first|refine run ⟨?_⟩|fail)
 try refine bz (ak a6) ?_
 repeat' (first|refine run ⟨?_⟩|fail)
 by_cases h30:k=30
 ·subst h30
  repeat' (first|refine run ⟨?_⟩|fail)
  exact rfl
 rw[aA h30]
 try refine bz (ak h30) ?_
 repeat' (first|refine run ⟨?_⟩|fail)
 by_cases h52:k=52
 ·subst h52
  repeat' (first|refine run ⟨?_⟩|fail)
  exact rfl
 rw[aA h52]
 try refine bz (ak h52) ?_
 repeat' (first|refine run ⟨?_⟩|fail)
 exact rfl
end
def fb (s:List UInt8):Bool:=s.all (fun c=> !decide (c=42)) && !decide (s.getLast? =some 63) && decide (s.length<=4)
theorem Va {α:Type} {P:α->Prop} {c:Prop} [Decidable c] {a b:α} (ha:P a) (hb:P b):P (if c then a else b):=by split<;>assumption
def a0s (p:List UInt8×Option UInt8×List UInt8):Prop:=fb p.1=true/\fb p.2.2=true/\(p.2.1=none->p.2.2=[])
theorem M5 (k v:Int):a0s (lN k v):=by
 unfold lN
 repeat' refine Va ?_ ?_
 all_goals exact⟨by decide,by decide,by decide⟩
theorem AQ {s:List UInt8} (h:fb s=true):∀ a,s≠a++[63]:=by
 rintro a rfl;simp[fb]at h
theorem Lz {s:List UInt8} (h:fb s=true):s.length<=4:=by simp[fb]at h;exact h.2
theorem QM {s:List UInt8} (h:fb s=true):42∉s:=by
 simp only[fb,ab]at h;intro hm;have:=aC.1 h.1.1 42 hm;simp at this
theorem Zi {s:List UInt8} (h:42∉s):Lib.indexByte s 42= -1:=by
 induction s with
 |nil=>rfl
 |cons a r ih=>
  simp only[bs,not_or]at h;unfold Lib.indexByte;rw[ih h.2,aA (by simpa using fun e:a=42=>h.1 e.symm)];rfl
theorem a7w (a r:List UInt8) (h:42∉a):Lib.indexByte (a++42::r) 42=a.length:=by
 induction a with
 |nil=>simp[Lib.indexByte]
 |cons b a ih=>
  simp only[bs,not_or]at h;rw[al];unfold Lib.indexByte;rw[ih h.2,aA (by simpa using fun e:b=42=>h.1 e.symm),aA (by simp)];simp
section
variable {fx:Nat->Option Obj} {F:Nat->Option dF} [HC F] (H:Hp)
theorem Vt (x:Nd) (ks:List Int) (hk:ks.length<=1048576):cv (b9 fx F) GX [lS x,ints ks] H=some (boo (fP x.k x.v ks),H):=by
 refine eB ?_ H;have hsh:=fun H=>PI (fx:=fx) (F:=F) H x;obtain⟨o1,o2,o3⟩:=M5 x.k x.v;unfold fP;unfold x9 at hsh;generalize lN x.k x.v=p at*;obtain⟨a,m,b⟩:=p;simp only at o1 o2 o3⊢;refine ca (hsh _) ?_;have hal:=Lz o1;have hbl:=Lz o2;cases m with
 |none=>
  have hb:=o3 rfl;refine ca (Du _ _ 42) ?_;simp only[shapeOf];rw[Zi (QM o1)]
  repeat' (first|refine run ⟨?_⟩|fail)
  refine ca (pW _ a ks (ai _) (AQ o1) _) ?_;exact rfl
 |some c=>
  simp only[shapeOf];refine ca (Du _ _ 42) ?_;rw[a7w _ _ (QM o1)];refine bz (ak om) ?_;have hsl:(a++42::c::b).length=a.length+b.length+2:=by simp;omega
  have hr:IntKind.i64.wrap (IntKind.i64.wrap (((a++42::c::b).length:Int) - (a.length:Int)) - 2)=(b.length:Int):=by
   rw[hsl,eK (n:=((a.length+b.length+2:Nat):Int) - (a.length:Int)) om,eK om];omega
  have hsum:IntKind.i64.wrap ((a.length:Int)+(b.length:Int))=((a.length+b.length:Nat):Int):=by rw[eK om];omega
  by_cases hlt:ks.length < a.length+b.length
  ·refine ej (au (by rw[hr,hsum,aE];omega)) ?_;show _=_;rw[ak (by omega:¬ a.length+b.length<=ks.length)];rfl
  refine bz (ak (by rw[hr,hsum,aE];omega)) ?_;rw[hr];have he:IntKind.i64.wrap (((ks.map (D.int .i64)).length:Int) - (b.length:Int))=((ks.length - b.length:Nat):Int):=by rw[aE,eK om];omega
  have e1:(a++42::c::b).take a.length=a:=by simp
  have e2:(a++42::c::b).drop (a.length+2)=b:=by rw[List.drop_append];simp
  rw[au (by omega:a.length+b.length<=ks.length),eE];refine ao om ?_;refine ao ⟨om,by simp⟩ ?_;refine ao om ?_;refine ao ⟨om,by simp;omega,rfl⟩ ?_;rw[show List.drop 0 (List.take (Int.toNat (a.length:Int)) (a++42::c::b))=a from by simp,show List.drop 0 (List.take (Int.toNat (a.length:Int)) (ks.map (D.int .i64)))=(ks.take a.length).map (D.int .i64)from by simp];refine ca (pW _ a (ks.take a.length) (ai _) (AQ o1) _) ?_
  repeat' (first|refine run ⟨?_⟩|fail)
  cases hk1:bx a (ks.take a.length)with
  |false=>
   repeat' (first|refine run ⟨?_⟩|fail)
   show _=_;simp[oneOf]
  |true=>
   repeat' (first|refine run ⟨?_⟩|fail)
   refine eV (d:=c) ⟨by rw[eK om];omega,by rw[eK om];rw[show(Int.toNat ((a.length:Int)+1))=a.length+1 by omega];rw[aK om];simp⟩ ?_;refine ao om ?_;refine ao (by rw[he];omega) ?_;refine ao ⟨by rw[he];omega,by rw[he,aE];omega,by rw[Bf];rfl⟩ ?_;rw[he];rw[show List.drop (Int.toNat (a.length:Int)) (List.take (Int.toNat ((ks.length - b.length:Nat):Int)) (ks.map (D.int .i64)))=((ks.take (ks.length - b.length)).drop a.length).map (D.int .i64)from by simp];refine ca (a0n _ ((ks.take (ks.length - b.length)).drop a.length) c (by simp;omega)) ?_
   repeat' (first|refine run ⟨?_⟩|fail)
   cases hk2:((ks.take (ks.length - b.length)).drop a.length).all (dE c)with
   |false=>
    repeat' (first|refine run ⟨?_⟩|fail)
    show _=_;simp[oneOf]
   |true=>
    repeat' (first|refine run ⟨?_⟩|fail)
    refine ao (by rw[eK om];omega) ?_;refine ao ⟨by rw[eK om,hsl];omega,ai _⟩ ?_;refine ao om ?_;refine ao ⟨by simp,ai _,by rw[Bf];rfl⟩ ?_;rw[eK (n:=(a.length:Int)+2) om];rw[show List.drop (Int.toNat ((a.length:Int)+2)) (List.take (a++42::c::b).length (a++42::c::b))=b from by rw[cb,show Int.toNat ((a.length:Int)+2)=a.length+2 by omega,e2]];rw[show List.drop (Int.toNat ((ks.length - b.length:Nat):Int)) (List.take (ks.map (D.int .i64)).length (ks.map (D.int .i64)))=(ks.drop (ks.length - b.length)).map (D.int .i64)from by rw[cb];simp];refine ca (pW _ b (ks.drop (ks.length - b.length)) (ai _) (AQ o2) _) ?_
    repeat' (first|refine run ⟨?_⟩|fail)
    show _=_;simp[oneOf]
end
abbrev nd (t:List Nd) (i:Nat):Nd:=t.getD i default
theorem yj {t:List Nd} {i:Nat} (h:i < t.length):t[i]? =some (nd t i):=by
 rw[ae h];simp[nd,h]
theorem EB {t:List Nd} {i:Nat} (h:i < t.length):nd t i∈t:=aT (yj h)
theorem wT {t:List Nd} {i:Nat} (h:i < t.length):(t.map Nd.D)[i]? =some (nd t i).D:=by rw[bE,yj h];rfl
theorem kZ {t:List Nd} {k:Int} (h0:0<=k) (h:k < t.length):0<=k/\(t.map Nd.D)[k.toNat]? =some (nd t k.toNat).D:=⟨h0,wT om⟩
def oB (i:Nat) (k:Int):Bool:=decide (0<=k) && decide (k < i)
theorem JN {t:List Nd} {i:Nat} (h:(nd t i).kids.all (oB i)=false):je t i=false:=by
 show((nd t i).kids.all (oB i) && _)=false;rw[h];rfl
theorem JW {t:List Nd} {l:List Int} {j:Nat} (h:j < l.length):kinds t (l.take (j+1))=kinds t (l.take j)++[bT t l[j]]:=by
 unfold kinds;rw[dL,ae h,aM];rfl
theorem GD (ks:List Int) (k:Int):params (ks++[k])=params ks+(if k=7 then 1 else 0):=by
 unfold params;rw[List.filter_append,ah];by_cases h:k=7
 ·simp[h]
 ·simp[h]
theorem Nt (ks:List Int):0<=params ks/\params ks<=ks.length:=by
 unfold params;have:=List.length_filter_le (fun k=>decide (k=7)) ks;omega
section
variable {fx:Nat->Option Obj} {F:Nat->Option dF} [HC F] (H:Hp)
theorem Pn (t:List Nd) (hf:xR t) (i:Nat) (hi:i < t.length):cv (b9 fx F) GU [.d (gD t),i64 i] H=some (boo (je t i),H):=by
 refine eB ?_ H;have htl:=hf.len;obtain⟨x,hxe⟩:∃ x,x=nd t i:=⟨_,rfl⟩;have hnb:je t i=(x.kids.all (oB i) && (ey x.k && vM x.k x.t && gd x.k x.v (params (kinds t x.kids)) && decide (0<=x.f) && decide (x.f<=x.e) && fP x.k x.v (kinds t x.kids))):=by rw[hxe];rfl
 have hx:x∈t:=by rw[hxe];exact EB hi
 refine eV (d:=x.D) (by rw[hxe];exact kZ (k:=(i:Int)) om om) ?_;refine ao rfl ?_;rw[hnb];have hkl:=hf.kid x hx;have htx:=hf.txt x hx;clear hnb
 refine wp_loop (α:=Nat) (fun j=>x.kids.length - j) (fun j=>[(1,i64 i),(2,.ptr 0 0),(5,.ptr 1 0),(6,.row 2 j),(7,i64 (params (kinds t (x.kids.take j)))),(16,ints x.kids),(17,i64 (x.kids.map (D.int .i64)).length),(18,i64 j)])
   (fun j=>[.box [.d (.sl (t.map Nd.D))],.box [i64 x.k,str x.t,i64 x.v,ints x.kids,i64 x.f,i64 x.e],.row 1 ((kinds t (x.kids.take j)).map (D.int .i64))]) (fun j=>j<=x.kids.length/\(x.kids.take j).all (oB i)=true) ?_ 0 ⟨om,by simp⟩
 rintro j ⟨hj,hall⟩;refine ao (fun h=>?_) (fun h=>?_)
 ·replace h:=af h;rw[aE]at h;have hlt:j < x.kids.length:=om;refine tI (s:=x.kids.map (D.int .i64)) (by rw[aE];exact hlt) ?_;rw[m8];refine ao rfl ?_;have bad:oB i x.kids[j]=false->x.kids.all (oB i)=false:=by
   intro hb;cases hc:x.kids.all (oB i)with
   |false=>rfl
   |true=>have:=aC.1 hc _ (dG hlt);rw[hb]at this;cases this
  by_cases k0:x.kids[j] < 0
  ·refine iS (au k0) ?_
   repeat' (first|refine run ⟨?_⟩|fail)
   show _=_;rw[bad (by unfold oB;rw[ak om];rfl)];rfl
  refine fv (ak k0) ?_;by_cases k1:(i:Int)<=x.kids[j]
  ·refine ej (au k1) ?_;show _=_;rw[bad (by unfold oB;rw[ak (by omega:¬ x.kids[j] < (i:Int)),Bool.and_false])];rfl
  refine bz (ak k1) ?_;have hko:oB i x.kids[j]=true:=by unfold oB;rw[au om,au om];rfl
  refine eV (d:=(nd t x.kids[j].toNat).D) (kZ om om) ?_;refine ao rfl ?_;have hkd:(nd t x.kids[j].toNat).k=bT t x.kids[j]:=rfl;have hkt:=JW (t:=t) hlt;have hlk:(kinds t (x.kids.take j)).length=j:=by simp[kinds];omega
  have hpl:=Nt (kinds t (x.kids.take j));have hps:=GD (kinds t (x.kids.take j)) (bT t x.kids[j]);rw[<-hkt]at hps;have hnext:(x.kids.take (j+1)).all (oB i)=true:=BP hlt hall hko;refine ao ⟨rfl,by decide⟩ ?_;refine ao ⟨rfl,by rw[aE,hlk],by unfold roomy;simp;omega⟩ ?_;refine eV (d:=(nd t x.kids[j].toNat).D) (kZ om om) ?_;refine ao rfl ?_;rw[hkd];by_cases k7:bT t x.kids[j]=7
  ·refine ej (au k7) ?_;rw[ay k7]at hps;refine⟨j+1,⟨om,hnext⟩,om,?_,?_⟩
   ·rw[eK (n:=params _+1) om,eK om,hps];rfl
   ·rw[hkt,aM];rfl
  ·refine bz (ak k7) ?_;rw[aA k7]at hps;refine⟨j+1,⟨om,hnext⟩,om,?_,?_⟩
   ·rw[eK om,hps,Int.add_zero];rfl
   ·rw[hkt,aM];rfl
 ·replace h:=bw h;rw[aE]at h;have hj':j=x.kids.length:=om;subst hj';rw[cb]at hall⊢;rw[hall,eE];clear hxe;have hkl2:(kinds t x.kids).length=x.kids.length:=by simp[kinds]
  cases h1:ey x.k with
  |true=>
   cases h2:vM x.k x.t with
   |true=>
    cases h3:gd x.k x.v (params (kinds t x.kids))with
    |true=>
     by_cases h4:0<=x.f
     ·skip;by_cases h5:x.f<=x.e
      ·skip
       repeat' (first|refine run ⟨?_⟩|fail)
       try refine ca (qJ _ _) ?_
       repeat' (first|refine run ⟨?_⟩|fail)
       try first|refine ej h1 ?_|refine ju h1 ?_|refine iS h1 ?_
       repeat' (first|refine run ⟨?_⟩|fail)
       try refine ca (sU _ x htx) ?_
       repeat' (first|refine run ⟨?_⟩|fail)
       try first|refine ej h2 ?_|refine ju h2 ?_|refine iS h2 ?_
       repeat' (first|refine run ⟨?_⟩|fail)
       try refine ca (Ey _ x _) ?_
       repeat' (first|refine run ⟨?_⟩|fail)
       try first|refine ej h3 ?_|refine ju h3 ?_|refine iS h3 ?_
       repeat' (first|refine run ⟨?_⟩|fail)
       try first|refine ej (au h4) ?_|refine ju (au h4) ?_|refine iS (au h4) ?_
       repeat' (first|refine run ⟨?_⟩|fail)
       try first|refine ej (au h5) ?_|refine ju (au h5) ?_|refine iS (au h5) ?_
       repeat' (first|refine run ⟨?_⟩|fail)
       refine ao (by rw[aE,hkl2]) ?_;refine ca (Vt _ x (kinds t x.kids) om) ?_;show _=_;simp[oneOf, *]
      ·skip
       repeat' (first|refine run ⟨?_⟩|fail)
       try refine ca (qJ _ _) ?_
       repeat' (first|refine run ⟨?_⟩|fail)
       try first|refine ej h1 ?_|refine ju h1 ?_|refine iS h1 ?_
       repeat' (first|refine run ⟨?_⟩|fail)
       try refine ca (sU _ x htx) ?_
       repeat' (first|refine run ⟨?_⟩|fail)
       try first|refine ej h2 ?_|refine ju h2 ?_|refine iS h2 ?_
       repeat' (first|refine run ⟨?_⟩|fail)
       try refine ca (Ey _ x _) ?_
       repeat' (first|refine run ⟨?_⟩|fail)
       try first|refine ej h3 ?_|refine ju h3 ?_|refine iS h3 ?_
       repeat' (first|refine run ⟨?_⟩|fail)
       try first|refine ej (au h4) ?_|refine ju (au h4) ?_|refine iS (au h4) ?_
       repeat' (first|refine run ⟨?_⟩|fail)
       try first|refine bz (ak h5) ?_|refine fI (ak h5) ?_|refine fv (ak h5) ?_
       repeat' (first|refine run ⟨?_⟩|fail)
       show _=_;simp[oneOf, *]
     ·skip
      repeat' (first|refine run ⟨?_⟩|fail)
      try refine ca (qJ _ _) ?_
      repeat' (first|refine run ⟨?_⟩|fail)
      try first|refine ej h1 ?_|refine ju h1 ?_|refine iS h1 ?_
      repeat' (first|refine run ⟨?_⟩|fail)
      try refine ca (sU _ x htx) ?_
      repeat' (first|refine run ⟨?_⟩|fail)
      try first|refine ej h2 ?_|refine ju h2 ?_|refine iS h2 ?_
      repeat' (first|refine run ⟨?_⟩|fail)
      try refine ca (Ey _ x _) ?_
      repeat' (first|refine run ⟨?_⟩|fail)
      try first|refine ej h3 ?_|refine ju h3 ?_|refine iS h3 ?_
      repeat' (first|refine run ⟨?_⟩|fail)
      try first|refine bz (ak h4) ?_|refine fI (ak h4) ?_|refine fv (ak h4) ?_
      repeat' (first|refine run ⟨?_⟩|fail)
      show _=_;simp[oneOf, *]
    |false=>
     repeat' (first|refine run ⟨?_⟩|fail)
     try refine ca (qJ _ _) ?_
     repeat' (first|refine run ⟨?_⟩|fail)
     try first|refine ej h1 ?_|refine ju h1 ?_|refine iS h1 ?_
     repeat' (first|refine run ⟨?_⟩|fail)
     try refine ca (sU _ x htx) ?_
     repeat' (first|refine run ⟨?_⟩|fail)
     try first|refine ej h2 ?_|refine ju h2 ?_|refine iS h2 ?_
     repeat' (first|refine run ⟨?_⟩|fail)
     try refine ca (Ey _ x _) ?_
     repeat' (first|refine run ⟨?_⟩|fail)
     try first|refine bz h3 ?_|refine fI h3 ?_|refine fv h3 ?_
     repeat' (first|refine run ⟨?_⟩|fail)
     show _=_;simp[oneOf, *]
   |false=>
    repeat' (first|refine run ⟨?_⟩|fail)
    try refine ca (qJ _ _) ?_
    repeat' (first|refine run ⟨?_⟩|fail)
    try first|refine ej h1 ?_|refine ju h1 ?_|refine iS h1 ?_
    repeat' (first|refine run ⟨?_⟩|fail)
    try refine ca (sU _ x htx) ?_
    repeat' (first|refine run ⟨?_⟩|fail)
    try first|refine bz h2 ?_|refine fI h2 ?_|refine fv h2 ?_
    repeat' (first|refine run ⟨?_⟩|fail)
    show _=_;simp[oneOf, *]
  |false=>
   repeat' (first|refine run ⟨?_⟩|fail)
   try refine ca (qJ _ _) ?_
   repeat' (first|refine run ⟨?_⟩|fail)
   try first|refine bz h1 ?_|refine fI h1 ?_|refine fv h1 ?_
   repeat' (first|refine run ⟨?_⟩|fail)
   show _=_;simp[oneOf, *]
end
end Go.Vm.Itr
