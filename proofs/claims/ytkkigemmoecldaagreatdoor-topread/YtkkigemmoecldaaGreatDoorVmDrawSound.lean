import Derived.Test.YtkkigemmoecldaaGreatDoorVmOps10
import Derived.Orders
set_option maxHeartbeats 0
set_option linter.unusedVariables false
set_option linter.unusedSimpArgs false
namespace Go.Vm
section
variable {P:Program} {cx:Cx} {nb:Nat} {g:Gh} {H:Hp} {w:World} {o:Oper} {a:Act}
theorem pP {N:Nat} {e:Env} (hI:Inv cx g H w) (hE:kj g H N e a.tmps) {lo:Option Operand} {ol:Option eo} (hlo:QA lo=some ol) (hl:∀ v,ol=some v->v.lt N=true) {d n:Nat} (h:bn.bound cx e d ol=some n):
 (lo=none/\n=d)\/∃ y k,lo=some y/\a.eval y= .int k (n:Int):=by
 cases lo with
 |none=>
  simp only[QA,aa]at hlo;subst hlo;simp only[bn.bound,aa]at h;exact .inl ⟨rfl,h.symm⟩
 |some y=>
  simp only[QA]at hlo;obtain⟨v,hv,rfl⟩:=aj.1 hlo;simp only[bn.bound]at h;obtain⟨k,hk⟩:=zF h (df (a:=a) hI hE hv (hl v rfl)).1;exact .inr ⟨y,k,rfl,hk⟩
theorem Nz {orc:iH} (hS:kE P cx orc) (hI:Inv cx g H w) {N:Nat} {e:Env} (hE:kj g H N e a.tmps) (hnb:nb<=H.length) {vop:ij} (ht:ny P o.op=some vop) (hok:vop.fy.all (eo.lt N)=true) {r:V} {H':Hp} (h:bn cx orc nb e H vop=some (r,H')):
 bK P cx nb g H w r H' ((execOp a.eval o).run P w):=by
 unfold ny at ht;split at ht
 ·-- move
  rename_i x hop;obtain⟨vx,hx,rfl⟩:=aj.1 ht;simp only[ij.fy,aQ,bO,bo]at hok;simp only[bn,aa,aN]at h;obtain⟨rfl,rfl⟩:=h;obtain⟨r1,r2⟩:=df (a:=a) hI hE hx hok;exact WD hI (.inl hop) r1 r2
 ·-- assign
  rename_i x hop;obtain⟨vx,hx,rfl⟩:=aj.1 ht;simp only[ij.fy,aQ,bO,bo]at hok;simp only[bn,aa,aN]at h;obtain⟨rfl,rfl⟩:=h;obtain⟨r1,r2⟩:=df (a:=a) hI hE hx hok;exact WD hI (.inr hop) r1 r2
 ·-- pick
  rename_i c x y hop;split at ht
  ·rename_i vc vx vy hc hx hy;simp only[aa]at ht;subst ht;simp only[ij.fy,aQ,bO,bo,ab]at hok;simp only[bn]at h;split at h
   ·rename_i t hvt;simp only[aa,aN]at h;obtain⟨rfl,rfl⟩:=h;obtain⟨c1,_⟩:=df (a:=a) hI hE hc hok.1;obtain⟨x1,x2⟩:=df (a:=a) hI hE hx hok.2.1;obtain⟨y1,y2⟩:=df (a:=a) hI hE hy hok.2.2;exact Uy hI hop (hvt ▸ c1) x1 y1 x2 y2
   ·cases h
  ·cases ht
 ·-- alloc
  rename_i t hop;obtain⟨z,hz,rfl⟩:=aj.1 ht;simp only[bn,aa,aN]at h;obtain⟨rfl,rfl⟩:=h;exact Uv hI hnb hop hz
 ·-- box
  rename_i t x hop;obtain⟨vx,hx,rfl⟩:=aj.1 ht;simp only[ij.fy,aQ,bO,bo]at hok;simp only[bn]at h;split at h
  ·rename_i hone;simp only[aa,aN]at h;obtain⟨rfl,rfl⟩:=h;obtain⟨r1,r2⟩:=df (a:=a) hI hE hx hok;exact YG hI hnb hop r1 r2 hone
  ·cases h
 ·-- build
  rename_i t ps hop;split at ht
  ·rename_i fs z hu hz;split at ht
   ·rename_i hall;obtain⟨vs,hvs,rfl⟩:=aj.1 ht;simp only[ij.fy,mo]at hok;simp only[bn]at h;split at h
    ·rename_i hone;obtain⟨c,hc,he⟩:=aj.1 h;simp only[aN]at he;obtain⟨rfl,rfl⟩:=he;exact QI hI hE hop hu hz hall hvs hok hone hc
    ·cases h
   ·cases ht
  ·cases ht
 ·-- buildSlice
  rename_i t len ps hop;split at ht
  ·rename_i el hu;split at ht
   ·rename_i sz vs hsz hvs;split at ht
    ·rename_i hc;simp only[ab,iZ]at hc;split at ht
     ·cases ht
     ·split at ht
      ·cases ht
      simp only[aa]at ht;subst ht;simp only[ij.fy]at hok;simp only[bn]at h;split at h
      ·rename_i ds hds;split at h
       ·rename_i hcond;simp only[aa,aN]at h;obtain⟨rfl,rfl⟩:=h;exact NB hI hE hop hu hsz hvs hc.1.1 hc.2 hok hds hcond.1 hcond.2.1 hcond.2.2.1 hcond.2.2.2
       ·cases h
      ·cases h
    ·cases ht
   ·cases ht
  ·cases ht
 ·-- load
  rename_i t x hop;split at ht
  ·rename_i n vx hs hx;simp only[aa]at ht;subst ht;simp only[ij.fy,aQ,bO,bo]at hok;simp only[bn]at h;obtain⟨q,hq,he⟩:=aj.1 h;simp only[aN]at he;obtain⟨rfl,rfl⟩:=he;obtain⟨r1,r2⟩:=df (a:=a) hI hE hx hok;exact a6o hI hop hs hq r1 r2
  ·cases ht
 ·-- store
  rename_i t x y hop;split at ht
  ·rename_i n vx vy hn hx hy;simp only[aa]at ht;subst ht;simp only[ij.fy,aQ,bO,bo,ab]at hok;simp only[bn]at h;obtain⟨q,hq,he⟩:=aj.1 h;simp only[aN]at he;obtain⟨rfl,rfl⟩:=he;obtain⟨r1,r2⟩:=df (a:=a) hI hE hx hok.1;obtain⟨s1,s2⟩:=df (a:=a) hI hE hy hok.2;exact a6n hI hop hn hq r1 s1 s2
  ·cases ht
 ·-- nilCheck
  rename_i x hop;obtain⟨vx,hx,rfl⟩:=aj.1 ht;simp only[ij.fy,aQ,bO,bo]at hok;obtain⟨r1,r2⟩:=df (a:=a) hI hE hx hok;simp only[bn]at h;split at h
  ·rename_i id off hv;simp only[aa,aN]at h;obtain⟨rfl,rfl⟩:=h;rw[hv]at r1 r2;exact AN hI hop (.inl ⟨_,_,rfl⟩) r1 r2
  ·rename_i f c hv;simp only[aa,aN]at h;obtain⟨rfl,rfl⟩:=h;rw[hv]at r1 r2;exact AN hI hop (.inr (.inl ⟨_,_,rfl⟩)) r1 r2
  ·rename_i f c hv;simp only[aa,aN]at h;obtain⟨rfl,rfl⟩:=h;rw[hv]at r1 r2;exact AN hI hop (.inr (.inr ⟨_,_,rfl⟩)) r1 r2
  ·cases h
 ·-- binOp
  rename_i op t x y u hop;split at ht
  ·rename_i vx vy hx hy;have finn:vop= .bin op vx vy->bK P cx nb g H w r H' ((execOp a.eval o).run P w):=by
    rintro rfl;simp only[ij.fy,aQ,bO,bo,ab]at hok;obtain⟨r1,r2⟩:=df (a:=a) hI hE hx hok.1;obtain⟨s1,s2⟩:=df (a:=a) hI hE hy hok.2;simp only[bn]at h;obtain⟨q,hq,he⟩:=aj.1 h;simp only[aN]at he;obtain⟨rfl,rfl⟩:=he;exact YH hI hop hq r1 s1
   have fini:∀ {ms} (neg:Bool),op=(if neg then .neq else .eql)->y= .const .nilIface->P.underlying t=some (.interface ms)->vop= .isnil neg vx->bK P cx nb g H w r H' ((execOp a.eval o).run P w):=by
    rintro ms neg rfl rfl hui rfl;simp only[ij.fy,aQ,bO,bo]at hok;have r1:=(df (a:=a) hI hE hx hok).1;simp only[bn]at h;split at h
    ·rename_i b hA;simp only[aa,aN]at h;obtain⟨rfl,rfl⟩:=h;exact QE hI hop hui (hA ▸ r1)
    ·cases h
   split at ht
   ·exact finn (Option.some.inj ht).symm
   ·exact finn (Option.some.inj ht).symm
   ·rename_i ms hui;split at ht
    ·exact fini false rfl rfl hui (Option.some.inj ht).symm
    ·exact fini true rfl rfl hui (Option.some.inj ht).symm
    ·cases ht
   ·cases ht
  ·cases ht
 ·-- unOp
  rename_i op t x hop;obtain⟨vx,hx,rfl⟩:=aj.1 ht;simp only[ij.fy,aQ,bO,bo]at hok;simp only[bn]at h;obtain⟨q,hq,he⟩:=aj.1 h;simp only[aN]at he;obtain⟨rfl,rfl⟩:=he;exact a6m hI hop hq (df (a:=a) hI hE hx hok).1
 ·-- convert
  rename_i s t x hop;split at ht
  ·rename_i k0 k vx hs hd hx;simp only[aa]at ht;subst ht;simp only[ij.fy,aQ,bO,bo]at hok;have r1:=(df (a:=a) hI hE hx hok).1;simp only[bn]at h;split at h
   ·rename_i k' n hv;simp only[aa,aN]at h;obtain⟨rfl,rfl⟩:=h;exact UB hI hop hs hd (hv ▸ r1)
   ·cases h
  ·cases ht
 ·-- makeFunc
  rename_i f first caps hop
  split at ht
  ·rename_i hf;obtain⟨vs,hvs,rfl⟩:=aj.1 ht;simp only[ij.fy]at hok;simp only[bn,aa,aN]at h;obtain⟨rfl,rfl⟩:=h;obtain⟨r1,r2⟩:=uH (a:=a) hI hE hvs hok;exact Uz hI hop hf r1 r2
  ·cases ht
 ·-- makeSlice
  rename_i t l c hop;split at ht
  ·rename_i e' hu;split at ht
   ·rename_i i z hi hz;split at ht
    ·rename_i hlc;simp only[aa]at ht;subst ht;obtain rfl:l=c:=by simpa using hlc
     simp only[ij.fy,aQ,bO,bo]at hok;have r1:=(df (a:=a) (x:= .tmp l) hI hE rfl hok).1;simp only[bn]at h;split at h
     ·rename_i k n hv;split at h
      ·rename_i hcond;obtain⟨h0,h1,h2,h3⟩:=hcond;simp only[aa,aN]at h;obtain⟨rfl,rfl⟩:=h;obtain⟨z0,rfl⟩:=List.length_eq_one_iff.1 h2;exact YC hI hnb hop hu hi h3 hz h0 h1 (hv ▸ r1)
      ·cases h
     ·cases h
    ·cases ht
   ·cases ht
  ·cases ht
 ·-- slice
  rename_i t x lo hi hop;split at ht
  ·rename_i vx vlo vhi hx elo ehi;split at ht
   ·rename_i hu;simp only[aa]at ht;subst ht;simp only[ij.fy,aQ,ji,ab]at hok;have r1:=(df (a:=a) hI hE hx hok.1).1;simp only[bn]at h;split at h
    ·rename_i s l hv hl;split at h
     ·rename_i hh' hh;split at h
      ·rename_i hcond;simp only[aa,aN]at h;obtain⟨rfl,rfl⟩:=h;exact Ux hI hop hu (hv ▸ r1) (pP hI hE elo (fun v hv=>aC.1 hok.2.1 v (by rw[hv];simp)) hl) (pP hI hE ehi (fun v hv=>aC.1 hok.2.2 v (by rw[hv];simp)) hh) hcond.1 hcond.2
      ·cases h
     ·cases h
    ·cases h
   ·rename_i e' hu;obtain⟨sz,hsz,rfl⟩:=aj.1 ht;simp only[ij.fy,aQ,ji,ab]at hok;have r1:=(df (a:=a) hI hE hx hok.1).1;simp only[bn]at h;split at h
    ·rename_i s l hv hl;split at h
     ·rename_i hh' hh;split at h
      ·rename_i hcond;simp only[aa,aN]at h;obtain⟨rfl,rfl⟩:=h;refine YB hI hop hu hsz hv r1 (pP hI hE elo (fun v hv=>aC.1 hok.2.1 v (by rw[hv];simp)) hl) (pP hI hE ehi (fun v hv=>aC.1 hok.2.2 v (by rw[hv];simp)) hh) hcond.1 hcond.2.1 ?_;rcases eb.1 hcond.2.2 with hn|hn
       ·left;have:vlo=none:=by simpa using hn
        rw[this]at hl;simp only[bn.bound,aa]at hl;exact hl.symm
       ·exact .inr hn
      ·cases h
     ·cases h
    ·cases h
   ·cases ht
  ·cases ht
 ·-- fieldAddr
  rename_i s x k hop;split at ht
  ·rename_i fs vx hs hx;split at ht
   ·rename_i f hf;split at ht
    ·cases ht
    ·rename_i hne;split at ht
     ·cases ht
     ·rename_i hsome;simp only[aa]at ht;subst ht;simp only[ij.fy,aQ,bO,bo]at hok;obtain⟨r1,r2⟩:=df (a:=a) hI hE hx hok;obtain⟨n,hn⟩:∃ n,sizeT P f.type=some n:=by
       cases hq:sizeT P f.type with
       |none=>rw[hq]at hsome;simp at hsome
       |some n=>exact⟨n,rfl⟩
      have hn0:n≠0:=by rintro rfl;exact hne hn
      simp only[bn]at h;split at h
      ·rename_i id off hv;simp only[aa,aN]at h;obtain⟨rfl,rfl⟩:=h;rw[hv]at r1 r2;exact Ly hI hop hs hf hn hn0 (.inl ⟨_,_,rfl,rfl⟩) r1 r2
      ·rename_i l off hv;simp only[aa,aN]at h;obtain⟨rfl,rfl⟩:=h;rw[hv]at r1 r2;exact Ly hI hop hs hf hn hn0 (.inr ⟨_,_,rfl,rfl⟩) r1 r2
      ·cases h
   ·cases ht
  ·cases ht
 ·-- field
  rename_i t x k hop;split at ht
  ·rename_i fs vx hs hx;split at ht
   ·rename_i f hf;obtain⟨n,hn,rfl⟩:=aj.1 ht;simp only[ij.fy,aQ,bO,bo]at hok;obtain⟨r1,r2⟩:=df (a:=a) hI hE hx hok;simp only[bn]at h;split at h
    ·rename_i c hv;obtain⟨q,hq,he⟩:=aj.1 h;simp only[aN]at he;obtain⟨rfl,rfl⟩:=he;rw[hv]at r1 r2;exact QF hI hop hs hf hn (.inr ⟨c,rfl,rfl⟩) hq r1 r2
    ·rename_i c hv;obtain⟨q,hq,he⟩:=aj.1 h;simp only[aN]at he;obtain⟨rfl,rfl⟩:=he;rw[hv]at r1 r2;exact QF hI hop hs hf hn (.inl rfl) hq r1 r2
    ·cases h
   ·cases ht
  ·cases ht
 ·-- indexAddr
  rename_i t x i hop;split at ht
  ·rename_i e' vx vi hu hx hi;obtain⟨sz,hsz,rfl⟩:=aj.1 ht;simp only[ij.fy,aQ,bO,bo,ab]at hok;obtain⟨r1,r2⟩:=df (a:=a) hI hE hx hok.1;obtain⟨s1,s2⟩:=df (a:=a) hI hE hi hok.2;simp only[bn]at h;split at h
   ·cases h
   ·rename_i n hn;split at h
    ·rename_i id off len hv;split at h
     ·rename_i hlt;simp only[aa,aN]at h;obtain⟨rfl,rfl⟩:=h;rw[hv]at r1 r2;exact GL hI hop hu hsz hn s1 hlt r1 r2
     ·cases h
    ·split at h
     ·rename_i l hl;split at h
      ·rename_i y hy;split at h
       ·rename_i hc;simp only[aa,aN]at h;obtain⟨rfl,rfl⟩:=h;exact JG hI hop hu hsz hn s1 hl hy hc r1
       ·cases h
      ·cases h
     ·cases h
  ·cases ht
 ·-- index
  rename_i t x i hop;split at ht
  ·rename_i vx vi hu hx hi;simp only[aa]at ht;subst ht;simp only[ij.fy,aQ,bO,bo,ab]at hok;obtain⟨r1,r2⟩:=df (a:=a) hI hE hx hok.1;obtain⟨s1,s2⟩:=df (a:=a) hI hE hi hok.2;simp only[bn]at h;split at h
   ·rename_i n s hn hv;obtain⟨q,hq,he⟩:=aj.1 h;simp only[aN]at he;obtain⟨rfl,rfl⟩:=he;exact YE hI hop hu hn s1 hq (hv ▸ r1)
   ·cases h
  ·cases ht
 ·-- extract
  rename_i x i hop;obtain⟨vx,hx,rfl⟩:=aj.1 ht;simp only[ij.fy,aQ,bO,bo]at hok;obtain⟨r1,r2⟩:=df (a:=a) hI hE hx hok;simp only[bn]at h;split at h
  ·rename_i l hv;obtain⟨q,hq,he⟩:=aj.1 h;simp only[aN]at he;obtain⟨rfl,rfl⟩:=he;rw[hv]at r1 r2;exact YF hI hop hq r1 r2
  ·cases h
 ·-- makeMap
  rename_i t hop;simp only[aa]at ht;subst ht;simp only[bn,aa,aN]at h;obtain⟨rfl,rfl⟩:=h;exact YD hI hnb hop
 ·-- mapUpdate
  rename_i t m k x hop;split at ht
  ·rename_i kt et vm vk vx hu hm hk hx;obtain⟨kk,hkk,rfl⟩:=aj.1 ht;simp only[ij.fy,aQ,bO,bo,ab]at hok;obtain⟨m1,_⟩:=df (a:=a) hI hE hm hok.1;obtain⟨k1,_⟩:=df (a:=a) hI hE hk hok.2.1;obtain⟨x1,_⟩:=df (a:=a) hI hE hx hok.2.2;simp only[bn]at h;split at h
   ·rename_i id kd xd em ek ex;split at h
    ·rename_i l hl;split at h
     ·rename_i hc;simp only[ab]at hc;simp only[aa,aN]at h;obtain⟨rfl,rfl⟩:=h;exact Lx hI (.inl hop) hu hkk hl hc.1 hc.2 (em ▸ m1) (ek ▸ k1) (zu hI ex x1)
     ·cases h
    ·cases h
   ·cases h
  ·cases ht
 ·-- insert
  rename_i t m k x hop;split at ht
  ·rename_i kt et vm vk vx hu hm hk hx;obtain⟨kk,hkk,rfl⟩:=aj.1 ht;simp only[ij.fy,aQ,bO,bo,ab]at hok;obtain⟨m1,_⟩:=df (a:=a) hI hE hm hok.1;obtain⟨k1,_⟩:=df (a:=a) hI hE hk hok.2.1;obtain⟨x1,_⟩:=df (a:=a) hI hE hx hok.2.2;simp only[bn]at h;split at h
   ·rename_i id kd xd em ek ex;split at h
    ·rename_i l hl;split at h
     ·rename_i hc;simp only[ab]at hc;simp only[aa,aN]at h;obtain⟨rfl,rfl⟩:=h;exact Lx hI (.inr hop) hu hkk hl hc.1 hc.2 (em ▸ m1) (ek ▸ k1) (zu hI ex x1)
     ·cases h
    ·cases h
   ·cases h
  ·cases ht
 ·-- lookup
  rename_i t m k ok hop;split at ht
  ·rename_i kt et vm vk hu hm hk;split at ht
   ·rename_i kk z hkk hz;simp only[aa]at ht;subst ht;simp only[ij.fy,aQ,bO,bo,ab]at hok;obtain⟨m1,_⟩:=df (a:=a) hI hE hm hok.1;obtain⟨k1,_⟩:=df (a:=a) hI hE hk hok.2;simp only[bn]at h;split at h
    ·rename_i id kd em ek;split at h
     ·rename_i l hl;split at h
      ·rename_i hc;simp only[ab]at hc;simp only[aa,aN]at h;obtain⟨rfl,rfl⟩:=h;exact UA hI hop hu hkk hz hl hc.1 hc.2 (em ▸ m1) (ek ▸ k1)
      ·cases h
     ·cases h
    ·cases h
   ·cases ht
  ·cases ht
 ·-- call
  rename_i c hop;obtain⟨callee,ar,at'⟩:=c;simp only at ht;split at ht
  ·rename_i f;obtain⟨vs,hvs,rfl⟩:=aj.1 ht;simp only[ij.fy]at hok;simp only[bn]at h;obtain⟨r1,r2⟩:=uH (a:=a) hI hE hvs hok;have r1':=nZ hI r1;have r2':=oT (H:=H) r2;simp only[cV,dh]at r1' r2';exact UC hS hI hnb hop h r1' r2'
  ·rename_i t;obtain⟨vs,hvs,rfl⟩:=aj.1 ht;simp only[ij.fy,aQ,ab]at hok;obtain⟨f1,f2⟩:=df (a:=a) (x:= .tmp t) hI hE rfl hok.1;obtain⟨r1,r2⟩:=uH (a:=a) hI hE hvs hok.2;have r1':=nZ hI r1;have r2':=oT (H:=H) r2;simp only[cV,dh]at r1' r2';simp only[bn]at h;split at h
   ·rename_i f c hv;rw[hv]at f1 f2;exact QG hS hI hnb hop f1 f2 h r1' r2'
   ·rename_i f c hv;rw[hv]at f1 f2;exact QH hS hI hnb hop f1 f2 h r1' r2'
   ·cases h
  ·split at ht
   ·rename_i x t har hat;split at ht
    ·rename_i hu;obtain⟨vx,hx,rfl⟩:=aj.1 ht;simp only[ij.fy,aQ,bO,bo]at hok;obtain⟨r1,r2⟩:=df (a:=a) hI hE hx hok;simp only[bn]at h;split at h
     ·rename_i s hb hv;simp only[aa,aN]at h;obtain⟨rfl,rfl⟩:=h;exact JF hI hop har hat hu (hv ▸ r1)
     ·rename_i hb;cases hb
     ·cases h
    ·rename_i e' hu;obtain⟨vx,hx,rfl⟩:=aj.1 ht;simp only[ij.fy,aQ,bO,bo]at hok;obtain⟨r1,r2⟩:=df (a:=a) hI hE hx hok;simp only[bn]at h;obtain⟨q,hq,he⟩:=aj.1 h;simp only[aN]at he;obtain⟨rfl,rfl⟩:=he;exact NA hI hop har hat hu hq r1
    ·cases ht
   ·cases ht
  ·split at ht
   ·rename_i x y t u har hat;split at ht
    ·rename_i e' e2 vx vy hu hu2 hx hy;split at ht
     ·rename_i i hi;split at ht
      ·rename_i hc;simp only[aa]at ht;subst ht;obtain⟨hz,rfl⟩:=hc;simp only[ij.fy,aQ,bO,bo,ab]at hok;obtain⟨r1,r2⟩:=df (a:=a) hI hE hx hok.1;obtain⟨s1,s2⟩:=df (a:=a) hI hE hy hok.2;simp only[bn]at h;split at h
       ·cases h
       ·rename_i ys hys;split at h
        ·rename_i hcond;refine YI hI hnb hop har hat hu hi hz hys hcond.1 hcond.2 r1 s1 r2 ?_;split at h
         ·rename_i hv;left;refine⟨.inr hv,?_⟩;split at h
          ·rename_i hy0;simp only[aa,aN]at h;exact .inl ⟨hy0,by rw[hv];exact h.1.symm,h.2.symm⟩
          ·rename_i hy0;split at h
           ·rename_i hroom;simp only[aa,aN]at h;exact .inr ⟨hy0,hroom,h.1.symm,h.2.symm⟩
           ·cases h
         ·rename_i hv;left;refine⟨.inl hv,?_⟩;split at h
          ·rename_i hy0;simp only[aa,aN]at h;exact .inl ⟨hy0,by rw[hv];exact h.1.symm,h.2.symm⟩
          ·rename_i hy0;split at h
           ·rename_i hroom;simp only[aa,aN]at h;exact .inr ⟨hy0,hroom,h.1.symm,h.2.symm⟩
           ·cases h
         ·rename_i id len hv;right;split at h
          ·rename_i sz' l hl;split at h
           ·rename_i hc2;obtain⟨rfl,h2,h3⟩:=hc2;simp only[aa,aN]at h;exact⟨id,len,l,hv,hl,h2,h3,h.1.symm,h.2.symm⟩
           ·cases h
          ·cases h
         ·cases h
        ·cases h
      ·cases ht
     ·cases ht
    ·cases ht
   ·cases ht
  ·split at ht
   ·rename_i x y har;split at ht
    ·rename_i vx vy hx hy;simp only[aa]at ht;subst ht;simp only[ij.fy,aQ,bO,bo,ab]at hok;obtain⟨r1,r2⟩:=df (a:=a) hI hE hx hok.1;obtain⟨s1,s2⟩:=df (a:=a) hI hE hy hok.2;simp only[bn]at h;split at h
     ·rename_i k p k' q hp hq;split at h
      ·rename_i hk;subst hk;simp only[aa,aN]at h;obtain⟨rfl,rfl⟩:=h;exact WE (mx:=true) hI hop har (hp ▸ r1) (hq ▸ s1)
      ·cases h
     ·cases h
    ·cases ht
   ·cases ht
  ·split at ht
   ·rename_i x y har;split at ht
    ·rename_i vx vy hx hy;simp only[aa]at ht;subst ht;simp only[ij.fy,aQ,bO,bo,ab]at hok;obtain⟨r1,r2⟩:=df (a:=a) hI hE hx hok.1;obtain⟨s1,s2⟩:=df (a:=a) hI hE hy hok.2;simp only[bn]at h;split at h
     ·rename_i k p k' q hp hq;split at h
      ·rename_i hk;subst hk;simp only[aa,aN]at h;obtain⟨rfl,rfl⟩:=h;exact WE (mx:=false) hI hop har (hp ▸ r1) (hq ▸ s1)
      ·cases h
     ·cases h
    ·cases ht
   ·cases ht
  ·cases ht
 ·cases ht
theorem QD {orc:iH} (hS:kE P cx orc) (hI:Inv cx g H w) {N:Nat} {e:Env} (hE:kj g H N e a.tmps) (hnb:nb<=H.length) {vop:ij} (ht:I3 P o.op=some vop) (hok:vop.fy.all (eo.lt N)=true) {r:V} {H':Hp} (h:bn cx orc nb e H vop=some (r,H')):
 bK P cx nb g H w r H' ((execOp a.eval o).run P w):=by
 unfold I3 at ht;cases h0:ny P o.op with
 |none=>
  rw[h0]at ht;simp only[Option.getD_none,aa]at ht;subst ht;cases h
 |some v=>
  rw[h0]at ht;simp only[j8,aa]at ht;subst ht;exact Nz hS hI hE hnb h0 hok h
theorem D1 {o:Op} {sz len:Nat} {vs:List eo} (h:ny P o=some (.bslice sz len vs)):
 ∃ t ps el,o= .buildSlice t len ps/\P.underlying t=some (.slice el)/\sizeT P el=some sz/\ov (ps.toList.map (·.2))=some vs/\pY 0 ps.toList=true/\(zeroCells P el).isSome=true:=by
 unfold ny at h;split at h
 case h_7 t len ps=>
  split at h
  ·rename_i el hu;split at h
   ·rename_i sz' vs' hsz hvs;split at h
    ·rename_i hc;simp only[ab,iZ]at hc;split at h
     ·cases h
     ·split at h
      ·cases h
      ·cases h;exact⟨_,_,el,rfl,hu,hsz,hvs,hc.1.1,hc.2⟩
    ·cases h
   ·cases h
  ·cases h
 all_goals(exfalso;repeat' split at h)
 all_goals simp_all
def Tm (P:Program) (o:Op) (v:ij):Prop:=∃ v0,I3 P o=some v0/\(v=v0\/∃ sz len ps,v0= .bslice sz len ps/\v= .blit sz len ps)
theorem Rg {P:Program} {o:Op} {b:Bool} {v:ij} (h:(I3 P o).map (Rf b)=some v):Tm P o v:=by
 obtain⟨v0,h0,rfl⟩:=aj.1 h;refine⟨v0,h0,?_⟩;unfold Rf;split
 ·exact .inr ⟨_,_,_,rfl,rfl⟩
 ·exact .inl rfl
theorem Ny {orc:iH} (hS:kE P cx orc) (hI:Inv cx g H w) {N:Nat} {e:Env} (hE:kj g H N e a.tmps) (hnb:nb<=H.length) {vop:ij} (ht:Tm P o.op vop) (hok:vop.fy.all (eo.lt N)=true) {r:V} {H':Hp} (h:bn cx orc nb e H vop=some (r,H')):
 bK P cx nb g H w r H' ((execOp a.eval o).run P w):=by
 obtain⟨v0,h0,rfl|⟨sz,len,ps,rfl,rfl⟩⟩:=ht
 ·exact QD hS hI hE hnb h0 hok h
 ·unfold I3 at h0;cases h1:ny P o.op with
  |none=>rw[h1]at h0;simp at h0
  |some v=>
   rw[h1]at h0;simp only[j8,aa]at h0;subst h0;obtain⟨t,qs,el,hop,hu,hsz,hvs,hord,hz⟩:=D1 h1;simp only[ij.fy]at hok;simp only[bn]at h;split at h
   ·rename_i ds hds;split at h
    ·rename_i hcond;simp only[aa,aN]at h;obtain⟨rfl,rfl⟩:=h;exact UD hI hnb hE hop hu hsz hvs hord hz hok hds hcond.1 hcond.2.1 hcond.2.2.1 hcond.2.2.2
    ·cases h
   ·cases h
end
section
variable {dl:List Deferred} {P:Program} {cx:Cx} {g:Gh} {w:World}
structure cg (dl:List Deferred) (cx:Cx) (N:Nat) (g:Gh) (s:St) (a:Act) (w:World):Prop where
 inv:Inv cx g s.h w
 env:kj g s.h N s.e a.tmps
 defers:a.defers=dl
 base:s.b<=s.h.length
abbrev pD:=cg []
theorem AG (a:Act) (d:Option Nat) (x:Value):(a.put d x).tmps=Ji d x a.tmps:=by cases d<;>rfl
theorem put_defers (a:Act) (d:Option Nat) (x:Value):(a.put d x).defers=a.defers:=by cases d<;>rfl
theorem cg.put {N:Nat} {s:St} {a:Act} {d:Option Nat} {v:V} {x:Value} {h':Hp} {g':Gh} {w':World} (ok:cg dl cx N g s a w) (hd:∀ k,d=some k->k < N) (hI:Inv cx g' h' w') (hr:bW g' h' v x) (hu:v.und h'.length=true) (he:Ext s.b g s.h w g' h' w'):
 cg dl cx N g' ⟨fT d v s.e,h',s.b⟩ (a.put d x) w':=
 ⟨hI,by rw[AG];exact(ok.env.ext he).put hd hr hu,by rw[put_defers];exact ok.defers,dD ok.base he.len⟩
theorem cg.put' {N:Nat} {s:St} {a:Act} {d d':Option Nat} {v:V} {x:Value} {h':Hp} {g':Gh} {w':World} (hdd:d'=d) (ok:cg dl cx N g s a w) (hd:∀ k,d=some k->k < N) (hI:Inv cx g' h' w') (hr:bW g' h' v x) (hu:v.und h'.length=true) (he:Ext s.b g s.h w g' h' w'):
 cg dl cx N g' ⟨fT d v s.e,h',s.b⟩ (a.put d' x) w':=by
 subst hdd;exact ok.put hd hI hr hu he
theorem q9 {ops:Array Oper} {co:Oper} {o:aL} (h:rb P ops co=some o):Tm P co.op o.op/\o.dst=co.dst/\((co.guard=none/\o.guard=none)\/∃ j b s,co.guard=some (j,b)/\(ops[j]?).bind (·.dst)=some s/\o.guard=some (s,b)):=by
 unfold rb at h;split at h
 ·cases h
 ·rename_i v hv;replace hv:=Rg hv;split at h
  ·rename_i hg;simp only[aa]at h;subst h;exact⟨hv,rfl,.inl ⟨hg,rfl⟩⟩
  ·rename_i j b hg;split at h
   ·rename_i s hs;simp only[aa]at h;subst h;exact⟨hv,rfl,.inr ⟨j,b,s,hg,hs,rfl⟩⟩
   ·cases h
theorem uI {N:Nat} {o:aL} (h:o.gx N=true):(∀ k,o.dst=some k->k < N)/\o.op.fy.all (eo.lt N)=true/\∀ s b,o.guard=some (s,b)->s < N:=by
 unfold aL.gx at h;simp only[ab]at h;obtain⟨⟨h1,h2⟩,h3⟩:=h;refine⟨fun k hk=>?_,h2,fun s b hs=>?_⟩
 ·rw[hk]at h1;simpa using h1
 ·rw[hs]at h3;simpa using h3
theorem IM {ops:Array Oper} {t:Array Value} {j s N:Nat} (hs:(ops[j]?).bind (·.dst)=some s) (hN:t.size=N) (hlt:s < N):yielded ops t j=match t.getD s Go.undef with| .bool b=>some b|_=>none:=by
  unfold yielded;rw[hs];have:t[s]? =some (t.getD s Go.undef):=by
   simp[Array.getD,hN,hlt]
  simp only[aP,this];generalize t.getD s Go.undef=v;cases v<;>rfl
theorem fZ {orc:iH} (hS:kE P cx orc) {N:Nat} {ops:Array Oper} {i:Nat} {co:Oper} (hi:ops[i]? =some co) {o:aL} (ht:rb P ops co=some o) (hok:o.gx N=true) {s s':St} (h:aW cx orc o s=some s') {a:Act} (ok:cg dl cx N g s a w)
 {Q:Exit->Act->World->Prop} {K:Act->World->Prop} (hk:∀ g' x w',cg dl cx N g' s' (a.put co.dst x) w'->Ext s.b g s.h w g' s'.h w'->K (a.put co.dst x) w'):wpOp P ops Q i K a w:=by
 obtain⟨h1,h2,h3⟩:=q9 ht;obtain⟨k1,k2,k3⟩:=uI hok;have run:∀ r:V×Hp,bn cx orc s.b s.e s.h o.op=some r->s'=⟨fT o.dst r.1 s.e,r.2,s.b⟩->co.wp P a w K Q:=by
  rintro⟨r,h'⟩ hr rfl;refine(Ny hS ok.inv ok.env ok.base h1 k2 hr).wp fun g' x w' i1 i2 i3 i4=>?_;exact hk g' x w' (ok.put' h2.symm k1 i1 i2 i3 i4) i4
 have skip:s'=⟨fT o.dst (.tup []) s.e,s.h,s.b⟩->K (a.put co.dst Go.undef) w:=by
  rintro rfl;exact hk g Go.undef w (ok.put' (v:= .tup []) (x:=Go.undef) h2.symm k1 ok.inv (by simp[bW,bN,Go.undef]) (by simp[V.und,br]) (Ext.refl ..)) (Ext.refl ..)
 unfold wpOp;simp only[hi];unfold aW at h;rcases h3 with⟨g1,g2⟩|⟨j,b,sl,g1,g2,g3⟩
 ·simp only[g2,lay]at h;obtain⟨r,hr,rfl⟩:=aj.1 h;rw[ay (by simp[Region.wanted,g1])];exact .inl (run r hr rfl)
 ·simp only[g3]at h;have hlt:=k3 sl b g3;have hy:=IM (t:=a.tmps) g2 ok.env.1 hlt;obtain⟨e1,_⟩:=ok.env.2 sl hlt;unfold grd at h;split at h
  ·rename_i t hv;rw[hv]at e1;have hb:=oW e1;rw[hb]at hy;split at h
   ·rename_i htb;subst htb;obtain⟨r,hr,rfl⟩:=aj.1 h;rw[ay (by simp[Region.wanted,g1,hy])];exact .inl (run r hr rfl)
   ·rename_i htb;simp only[aa]at h;rw[aA (by simp[Region.wanted,g1,hy,htb])];exact skip h.symm
  ·rename_i hv;rw[hv]at e1;simp only[bW,bN]at e1;obtain⟨cs,hx,hcs⟩:=e1;rw[hx]at hy;simp only[aa]at h;rw[aA (by simp[Region.wanted,g1,hy])];exact skip h.symm
  ·cases h
theorem lZ {orc:iH} {v:aL} {s s1:St} (h1:aW cx orc v s=some s1):s1.b=s.b:=by
 unfold aW at h1;split at h1
 ·obtain⟨r,_,rfl⟩:=aj.1 h1;rfl
 ·unfold grd at h1;split at h1
  ·split at h1
   ·obtain⟨r,_,rfl⟩:=aj.1 h1;rfl
   ·simp only[aa]at h1;subst h1;rfl
  ·simp only[aa]at h1;subst h1;rfl
  ·cases h1
theorem Dc {orc:iH} (hS:kE P cx orc) {N:Nat} {ops:Array Oper}:∀ (l:List Oper) (i:Nat) (vs:List aL),ops.toList.drop i=l->dq P ops l=some vs->vs.all (aL.gx N)=true->∀ {g:Gh} {w:World} {s s':St},bQ cx orc vs s=some s'->∀ {a:Act},cg dl cx N g s a w->
 ∀ {Q:Exit->Act->World->Prop},(∀ g' a' w',cg dl cx N g' s' a' w'->Ext s.b g s.h w g' s'.h w'->Q .normal a' w')->wpOps P ops Q (List.range' i l.length) a w
 |[],i,vs,_,ht,_,g,w,s,s',h,a,ok,Q,hq=>by
  simp only[dq,aa]at ht;subst ht;simp only[bQ,aa]at h;subst h;exact hq g a w ok (Ext.refl ..)
 |co::l,i,vs,hl,ht,hok,g,w,s,s',h,a,ok,Q,hq=>by
  simp only[dq]at ht;split at ht
  ·rename_i v vs' hv hvs;simp only[aa]at ht;subst ht;simp only[aQ,ab]at hok;simp only[bQ]at h;cases h1:aW cx orc v s with
   |none=>rw[h1]at h;cases h
   |some s1=>
    rw[h1]at h;simp only[aP]at h;have hi:ops[i]? =some co:=by
     have:=aG (·[0]?) hl;simpa using this
    have hl':ops.toList.drop (i+1)=l:=by rw[<-cr,hl];rfl
    simp only[aw,fX];rw[wpOps_cons];refine fZ hS hi hv hok.1 h1 ok fun g' x w' ok' ext'=>?_;have hb:=lZ h1;refine Dc hS l (i+1) vs' hl' hvs hok.2 h ok' fun g2 a2 w2 ok2 ext2=>?_;exact hq g2 a2 w2 ok2 (ext'.trans ext2 om)
  ·cases ht
theorem Ni {orc:iH} (hS:kE P cx orc) {N:Nat} {ops:Array Oper} {id:Nat} {vs:List aL} (ht:dq P ops ops.toList=some vs) (hok:vs.all (aL.gx N)=true) {s s':St} (h:bQ cx orc vs s=some s') {a:Act} (ok:cg dl cx N g s a w)
 {Q:Exit->Act->World->Prop} (hq:∀ g' a' w',cg dl cx N g' s' a' w'->Ext s.b g s.h w g' s'.h w'->Q .normal a' w'):(Code.region id ops false).wp P Q a w:=by
 apply wp_region;have:=Dc hS ops.toList 0 vs (by simp) ht hok h ok hq;simpa [eD] using this
end
theorem EW:∀ (ops:List Oper) (acc:List Nat),(iW.go ops acc).take acc.length=acc
 |[],acc=>by simp[iW.go]
 |o::r,acc=>by
  rw[iW.go];have:=EW r (acc++[o.after.toList.foldl (fun s e=>if Region.binds .any e then s|||2 ^ e.on|||acc.getD e.on 0 else s) 0]);have h2:=aG (·.take acc.length) this;simp only[ah,aw,aH,gr]at h2;rw[dr om]at h2;rw[h2];simp
theorem go_get:∀ (ops:List Oper) (acc:List Nat) (i:Nat) (o:Oper),ops[i]? =some o->
 (iW.go ops acc)[acc.length+i]? =some (o.after.toList.foldl (fun s e=>if Region.binds .any e then s|||2 ^ e.on|||((iW.go ops acc).take (acc.length+i)).getD e.on 0 else s) 0)
 |[],acc,i,o,h=>by simp at h
 |p::r,acc,0,o,h=>by
  simp only[aV,aa]at h;subst h;simp only[ep];rw[EW];rw[iW.go];have:=EW r (acc++[p.after.toList.foldl (fun s e=>if Region.binds .any e then s|||2 ^ e.on|||acc.getD e.on 0 else s) 0]);have h2:=aG (·[acc.length]?) this;simpa [aZ] using h2
 |p::r,acc,i+1,o,h=>by
  simp only[bR]at h;rw[iW.go];have:=go_get r (acc++[p.after.toList.foldl (fun s e=>if Region.binds .any e then s|||2 ^ e.on|||acc.getD e.on 0 else s) 0]) i o h;simp only[ah,aw,aH]at this;rw[show acc.length+(0+1)+i=acc.length+(i+1)by omega]at this;exact this
theorem Hw {A:Nat->Nat} {k:Nat}:∀ (l:List Edge) (s:Nat),(l.foldl (fun s e=>if Region.binds .any e then s|||2 ^ e.on|||A e.on else s) s).testBit k=true->s.testBit k=true\/∃ e∈l,Region.binds .any e=true/\(k=e.on\/(A e.on).testBit k=true)
  |[],s,h=> .inl h
  |e::l,s,h=>by
   simp only[fL]at h;rcases Hw l _ h with h|⟨e',h1,h2⟩
   ·split at h
    ·rename_i hb;simp only[Nat.testBit_or,bg,Nat.testBit_two_pow,an]at h;rcases h with(h|h)|h
     ·exact .inl h
     ·exact .inr ⟨e,by simp,hb,.inl h.symm⟩
     ·exact .inr ⟨e,by simp,hb,.inr h⟩
    ·exact .inl h
   ·exact .inr ⟨e',by simp[h1],h2⟩
theorem nr {ops:Array Oper} {L:Nat->Bool} (hback:∀ (i:Nat) (o:Oper),ops[i]? =some o->∀ e∈o.after,Region.binds .any e=true->e.on < i) (hcl:∀ (i:Nat) (o:Oper),ops[i]? =some o->L i=true->∀ e∈o.after,Region.binds .any e=true->L e.on=true):
 ∀ (i:Nat) (o:Oper),ops[i]? =some o->(∀ e∈o.after,Region.binds .any e=true->L e.on=true)->∀ k,((iW ops.toList).getD i 0).testBit k=true->L k=true:=by
 intro i;induction i using Nat.strongRecOn with
 |_ i ih=>
  intro o ho hl k hk;have hg:=go_get ops.toList [] i o (by simpa using ho);simp only[aH,bt]at hg;rw[av,iW,hg]at hk;simp only[j8]at hk;rcases Hw (A:=fun j=>(List.take i (iW.go ops.toList [])).getD j 0) _ _ hk with h|⟨e,he,hb,h⟩
  ·simp at h
  ·have he':e∈o.after:=by simpa using he
   have hlt:=hback i o ho e he' hb;rcases h with rfl|h
   ·exact hl e he' hb
   ·have hin:=(aS.1 ho).1;have hon:ops[e.on]? =some ops[e.on]:=eG om;refine ih e.on hlt _ hon (hcl e.on _ hon (hl e he' hb)) k ?_;rw[av,aZ,ay hlt]at h;rw[av];exact h
def cnt (L:Nat->Bool):Nat->Nat
 |0=>0
 |n+1=>cnt L n+(if L n then 0 else 1)
theorem DH {L L':Nat->Bool}:∀ n,(∀ i,i < n->L i=L' i)->cnt L n=cnt L' n
 |0,_=>rfl
 |n+1,h=>by simp only[cnt];rw[DH n fun i hi=>h i om,h n om]
theorem Mr {L L':Nat->Bool} {i:Nat} (h0:L i=false) (h1:L' i=true) (ho:∀ k,k≠i->L' k=L k):∀ n,i < n->cnt L' n+1=cnt L n
 |0,h=>om
 |n+1,h=>by
  simp only[cnt];by_cases hi:i=n
  ·subst hi;rw[h0,h1,DH i fun k hk=>ho k om];simp
  ·have:=Mr h0 h1 ho n om;rw[ho n (Ne.symm hi)];omega
theorem Ig {L:Nat->Bool}:∀ n,cnt L n=0->∀ i,i < n->L i=true
 |0,_,i,h=>om
 |n+1,h,i,hi=>by
  simp only[cnt]at h;by_cases hin:i=n
  ·subst hin
   by_cases hl:L i=true
   ·exact hl
   ·rw[aA hl]at h;omega
  ·exact Ig n om i om
theorem nX {L:Nat->Bool}:∀ n,(∀ i,i < n->L i=false)->cnt L n=n
 |0,_=>rfl
 |n+1,h=>by simp only[cnt];rw[nX n fun i hi=>h i om,h n om];rfl
section congr
variable {cx:Cx} {orc:iH} {b:Nat} {e e':Env} {H:Hp}
theorem DD {x:eo} (h:∀ t∈x.slots,bP e t=bP e' t):di cx e x=di cx e' x:=by
 cases x with
 |t i=>exact h i (by simp[eo.slots])
 |_=>rfl
theorem pN:∀ {l:List eo},(∀ x∈l,di cx e x=di cx e' x)->bn.toDs' cx e H l=bn.toDs' cx e' H l
 |[],_=>rfl
 |x::r,h=>by
  simp only[bn.toDs'];rw[h x (by simp),pN (l:=r) fun y hy=>h y (by simp[hy])]
theorem qb {d:Nat} {x:Option eo} (h:∀ y∈x.toList,di cx e y=di cx e' y):bn.bound cx e d x=bn.bound cx e' d x:=by
 cases x with
 |none=>rfl
 |some y=>simp only[bn.bound];rw[h y (by simp)]
theorem Ka {op:ij} (h:∀ x∈op.fy,di cx e x=di cx e' x):bn cx orc b e H op=bn cx orc b e' H op:=by
 cases op with
 |build z ps=>
  simp only[ij.fy,e9]at h;have h1:∀ p∈ps,di cx e p.2.2=di cx e' p.2.2:=fun p hp=>h _ ⟨p,hp,rfl⟩;have e1:(ps.all fun p=>(di cx e p.2.2).cells.all V.one)=ps.all fun p=>(di cx e' p.2.2).cells.all V.one:=by
    apply jj.2;simp only[aC];exact⟨fun q p hp=>by have:=q p hp;rwa [h1 p hp]at this,fun q p hp=>by have:=q p hp;rwa [<-h1 p hp]at this⟩
  have e2:(ps.map fun p=>(p.1,p.2.1,di cx e p.2.2))=ps.map fun p=>(p.1,p.2.1,di cx e' p.2.2):=bJ fun p hp=>by rw[h1 p hp]
  simp only[bn];rw[e1,e2]
 |bslice sz len ps=>
  simp only[bn];rw[pN (l:=ps) h]
 |abs len ps=>
  simp only[bn];rw[pN (l:=ps) h]
 |blit sz len ps=>
  simp only[bn];rw[pN (l:=ps) h]
 |mkfn f caps=>
  simp only[bn];rw[bJ (l:=caps) h]
 |mkfm f caps=>
  simp only[bn];rw[bJ (l:=caps) h]
 |call f args=>
  simp only[bn];rw[bJ fun x hx=>by rw[h x hx]]
 |callv f args=>
  simp only[ij.fy]at h;simp only[bn];rw[h f (by simp)];rw[bJ (g:=fun x=>iX H (di cx e' x)) fun x hx=>by rw[h x (by simp[hx])]]
 |slcs x lo hi=>
  simp only[ij.fy]at h;simp only[bn];rw[h x (by simp),qb (x:=lo) fun y hy=>h y (by simp[cd.2 (.inl hy)])];have:∀ d,bn.bound cx e d hi=bn.bound cx e' d hi:=fun d=>qb (x:=hi) fun y hy=>h y (by simp[cd.2 (.inr hy)]);simp only[this]
 |slc sz x lo hi=>
  simp only[ij.fy]at h;simp only[bn];rw[h x (by simp),qb (x:=lo) fun y hy=>h y (by simp[cd.2 (.inl hy)])];have:∀ d,bn.bound cx e d hi=bn.bound cx e' d hi:=fun d=>qb (x:=hi) fun y hy=>h y (by simp[cd.2 (.inr hy)]);simp only[this]
 |zbox z=>rfl
 |_=>simp only[ij.fy,bs,cK,gR,forall_eq_or_imp,forall_eq]at h;simp only[bn,h]
theorem HK {v:aL} {s s1:St} (h1:aW cx orc v s=some s1):∃ x,s1.e=fT v.dst x s.e:=by
 unfold aW at h1;split at h1
 ·obtain⟨r,_,rfl⟩:=aj.1 h1;exact⟨_,rfl⟩
 ·unfold grd at h1;split at h1
  ·split at h1
   ·obtain⟨r,_,rfl⟩:=aj.1 h1;exact⟨_,rfl⟩
   ·simp only[aa]at h1;subst h1;exact⟨_,rfl⟩
  ·simp only[aa]at h1;subst h1;exact⟨_,rfl⟩
  ·cases h1
theorem lY {o:aL} {s s1:St} (h:∀ t∈o.names,bP s.e t=bP e' t) (h1:aW cx orc o s=some s1):
 ∃ x,s1.e=fT o.dst x s.e/\aW cx orc o ⟨e',s.h,s.b⟩=some ⟨fT o.dst x e',s1.h,s1.b⟩:=by
 have hop:bn cx orc s.b s.e s.h o.op=bn cx orc s.b e' s.h o.op:=Ka fun x hx=>DD fun t ht=>h t (by
   simp only[aL.names,cd,List.mem_flatMap];exact .inl (.inr ⟨x,hx,ht⟩))
 unfold aW at h1⊢;cases hg:o.guard with
 |none=>
  rw[hg]at h1;simp only at h1⊢;obtain⟨r,hr,rfl⟩:=aj.1 h1;refine⟨r.1,rfl,?_⟩;rw[<-hop,hr];rfl
 |some gb=>
  obtain⟨gs,b⟩:=gb;rw[hg]at h1;simp only at h1⊢;have e1:=h gs (by simp[aL.names,hg]);rw[<-e1,<-hop];unfold grd at h1⊢;split at h1
  ·split at h1
   ·rename_i htb;obtain⟨r,hr,rfl⟩:=aj.1 h1;refine⟨r.1,rfl,?_⟩;simp only[ay htb,hr];rfl
   ·rename_i htb;simp only[aa]at h1;subst h1;exact⟨_,rfl,aA htb⟩
  ·simp only[aa]at h1;subst h1;exact⟨_,rfl,rfl⟩
  ·cases h1
end congr
theorem lj (ks:List Nat) (e:Env) (t:Nat):bP (dU ks e) t=if t∈ks then bP e t else .undef:=by
 unfold dU;induction ks with
 |nil=>rfl
 |cons k ks ih=>
  simp only[aB,bP,ih,bs];by_cases hk:k=t
  ·subst hk;simp
  ·rw[aA hk];by_cases ht:t∈ks
   ·simp[ht]
   ·have:¬ (t=k\/t∈ks):=by rintro(h|h);exact hk h.symm;exact ht h
    rw[aA ht,aA this]
theorem ff (d:Option Nat) (v:V) (e:Env) (t:Nat):bP (fT d v e) t=if d=some t then v else bP e t:=by
 cases d with
 |none=>simp[fT]
 |some d=>simp only[fT,bP,aa]
def dg (L:Nat->Bool) (dst:Nat->Option Nat) (val:Nat->V) (e0:Env):Nat->Env
 |0=>e0
 |n+1=>if L n then fT (dst n) (val n) (dg L dst val e0 n) else dg L dst val e0 n
section dg
variable {L L':Nat->Bool} {dst:Nat->Option Nat} {val:Nat->V} {e0:Env}
theorem iR (n t:Nat):bP (dg L dst val e0 (n+1)) t=if L n=true/\dst n=some t then val n else bP (dg L dst val e0 n) t:=by
 simp only[dg];by_cases h:L n=true
 ·rw[ay h,ff];simp[h]
 ·rw[aA h,aA (fun q=>h q.1)]
theorem fB {t:Nat}:∀ n,(∀ k,k < n->dst k=some t->L k=L' k)->bP (dg L dst val e0 n) t=bP (dg L' dst val e0 n) t
 |0,_=>rfl
 |n+1,h=>by
  rw[iR,iR,fB n fun k hk=>h k om];by_cases hd:dst n=some t
  ·rw[h n om hd]
  ·simp[hd]
theorem iU {t i:Nat}:∀ d,(∀ k,i<=k->k < i+d->dst k=some t->L k=false)->bP (dg L dst val e0 (i+d)) t=bP (dg L dst val e0 i) t
 |0,_=>rfl
 |d+1,h=>by
  rw[show i+(d+1)=(i+d)+1 by omega,iR,iU d fun k h1 h2=>h k h1 om];rw[aA];rintro⟨h1,h2⟩;have:=h (i+d) om om h2;rw[h1]at this;cases this
theorem j6 {τ:Nat->St} {m:Nat} (h0:(τ 0).e=e0) (hs:∀ n,n < m->(τ (n+1)).e=fT (dst n) (val n) (τ n).e) (hL:∀ n,n < m->L n=true):∀ n,n<=m->dg L dst val e0 n=(τ n).e
 |0,_=>h0.symm
 |n+1,h=>by simp only[dg];rw[ay (hL n om),j6 h0 hs hL n om,hs n om]
theorem jU:∀ n,(∀ k,k < n->L k=false)->dg L dst val e0 n=e0
 |0,_=>rfl
 |n+1,h=>by simp only[dg];rw[aA (by rw[h n om];simp),jU n fun k hk=>h k om]
end dg
structure Trace (cx:Cx) (orc:iH) (m:Nat) (vs:List aL) (s:St) (τ:Nat->St) (val:Nat->V):Prop where
 zero:τ 0=s
 step:∀ i o,i < m->vs[i]? =some o->aW cx orc o (τ i)=some (τ (i+1))/\(τ (i+1)).e=fT o.dst (val i) (τ i).e/\grew (τ i).h (τ (i+1)).h=true/\pw o.dst (τ (i+1))=true
theorem px {cx:Cx} {orc:iH}:∀ (m:Nat) (vs:List aL) (s s':St),m<=vs.length->eC cx orc m vs s=some s'->∃ τ val,Trace cx orc m vs s τ val/\bQ cx orc (vs.drop m) (τ m)=some s'
 |0,vs,s,s',_,h=>⟨fun _=>s,fun _=> .undef,⟨rfl,fun i o hi=>om⟩,by cases vs<;>exact h⟩
 |m+1,[],s,s',hm,h=>by simp at hm
 |m+1,o::r,s,s',hm,h=>by
  simp only[eC]at h;cases h1:aW cx orc o s with
  |none=>rw[h1]at h;cases h
  |some s1=>
   rw[h1]at h;simp only[aP]at h;split at h
   ·rename_i hg;simp only[ab]at hg;obtain⟨τ,val,ht,he⟩:=px m r s1 s' (by simpa using hm) h;obtain⟨x,hx⟩:=HK h1;refine⟨fun i=>match i with|0=>s|i+1=>τ i,fun i=>match i with|0=>x|i+1=>val i,⟨rfl,fun i p hi hp=>?_⟩,he⟩;cases i with
    |zero=>
     simp only[aV,aa]at hp;subst hp;show aW cx orc o s=some (τ 0)/\(τ 0).e=fT o.dst x s.e/\grew s.h (τ 0).h=true/\pw o.dst (τ 0)=true;rw[ht.zero];exact⟨h1,hx,hg⟩
    |succ i=>exact ht.step i p om (by simpa using hp)
   ·cases h
section
variable {dl:List Deferred} {P:Program} {cx:Cx} {g:Gh} {w:World} {H:Hp}
theorem vW (g:Gh) (H l:Hp):sD H.length g H g (H++l):=
 ⟨fun _=>aJ _,fun i o hi ho hr=>⟨fun _ h=>h,o,by rw[aD hi];exact ho,hr⟩,fun i sz l' hi ho=>⟨l',by rw[aD hi];exact ho,aJ _,fun _ _ h=>h⟩⟩
def Gh.cut (g:Gh) (n:Nat):Gh:=⟨fun i=>if i < n then g.J i else none,g.C⟩
theorem kP {n i:Nat} {p:Nat×Nat} (h:(g.cut n).J i=some p):i < n/\g.J i=some p:=by
 simp only[Gh.cut]at h;split at h
 ·exact⟨by assumption,h⟩
 ·cases h
theorem BD {n i:Nat} (h:i < n):(g.cut n).J i=g.J i:=ay h
theorem lD (g:Gh) (H:Hp) (n:Nat):sD n g H (g.cut n) (H.take n):=by
 refine⟨fun _=>aJ _,fun i o hi ho hr=>⟨fun p h=>by rw[BD hi];exact h,o,?_,hr⟩,fun i sz l hi ho=>⟨l,?_,aJ _,fun _ p h=>by rw[BD hi];exact h⟩⟩<;>
 rw[aZ,ay hi]<;>exact ho
theorem Inv.restrict (hI:Inv cx g H w) {n:Nat} (hn:n<=H.length) (hc:Clean n H):Inv cx (g.cut n) (H.take n) w:=by
 refine⟨fun i k b c c' h1 h2=>hI.inj i k b c c' (kP h1).2 (kP h2).2,fun i b c h=>?_,fun i b c o h ho=>?_,hI.imm,?_,hI.glob,fun i o h=>⟨(hI.fix i o h).1,fun k c hk=>(hI.fix i o h).2 k c (kP hk).2⟩⟩
 ·obtain⟨h1,h2⟩:=kP h;exact⟨by rw[bm];omega,(hI.dom i b c h2).2⟩
 ·obtain⟨h1,h2⟩:=kP h;rw[aZ,ay h1]at ho;exact(hI.ob i b c o h2 ho).ext (lD g H n) rfl rfl (by rintro c rfl;exact hc i c h1 ho)
 ·intro i c hi ho;rw[bm,dr hn]at hi⊢;rw[aZ,ay hi]at ho;exact hc i c hi ho
theorem Inv.drawn (hI:Inv cx g H w) (d:Nat):Inv cx g H {w with drawn:=d }:=
 ⟨hI.inj,hI.dom,fun i b c o h1 h2=>(hI.ob i b c o h1 h2),hI.imm,hI.und,hI.glob,hI.fix⟩
theorem Hn {h h':Hp} (x:grew h h'=true):∃ l,h'=h++l/\fW h'.length l=true:=by
 unfold grew at x;simp only[ab,an]at x;obtain⟨⟨l,rfl⟩,h2⟩:=x;rw[jX]at h2;exact⟨l,rfl,h2⟩
theorem De {n:Nat}:∀ {l:Hp} {i:Nat} {c:List V},fW n l=true->l[i]? =some (.box c)->br n c=true
 |[],i,c,_,h=>by simp at h
 |o::l,0,c,h,ho=>by
  simp only[aV,aa]at ho;subst ho;simp only[fW,ab]at h;exact h.1
 |o::l,i+1,c,h,ho=>by
  have h':fW n l=true:=by
   cases o<;>simp only[fW,ab]at h<;>first|exact h.2|exact h
  exact De h' (by simpa using ho)
theorem BH {n m:Nat} (h:Clean n H) (hn:n<=m) (l:Hp) (hl:H.length=n) (ho:fW m l=true):Clean m (H++l):=by
 intro i c hi hb;by_cases hin:i < n
 ·rw[aD om]at hb;exact fE hn _ (h i c hin hb)
 ·rw[aK om]at hb;exact De ho hb
structure Good (N m:Nat) (s:St) (τ:Nat->St):Prop where
 clean:∀ i,i<=m->Clean (τ i).h.length (τ i).h
 und:∀ i,i<=m->∀ k,k < N->(bP (τ i).e k).und (τ i).h.length=true
 b:∀ i,i<=m->(τ i).b=s.b
 grow:∀ i k,i<=k->k<=m->∃ l,(τ k).h=(τ i).h++l
theorem qZ {orc:iH} {N m:Nat} {vs:List aL} {s:St} {τ:Nat->St} {val:Nat->V} (T:Trace cx orc m vs s τ val) (hm:m<=vs.length)
 (hc:Clean s.h.length s.h) (hu:∀ k,k < N->(bP s.e k).und s.h.length=true):Good N m s τ:=by
 have key:∀ i,i<=m->Clean (τ i).h.length (τ i).h/\(∀ k,k < N->(bP (τ i).e k).und (τ i).h.length=true)/\(τ i).b=s.b:=by
  intro i;induction i with
  |zero=>intro _;rw[T.zero];exact⟨hc,hu,rfl⟩
  |succ i ih=>
   intro hi;obtain⟨a1,a2,a3⟩:=ih om;obtain⟨b1,b2,b3,b4⟩:=T.step i vs[i] om (ae om);obtain⟨l,hl,hn⟩:=Hn b3;have hle:(τ i).h.length<=(τ (i+1)).h.length:=by rw[hl];simp
   refine⟨?_,?_,by rw[lZ b1,a3]⟩
   ·rw[hl]at hn⊢;exact BH a1 (by simp) l rfl hn
   ·intro k hk;by_cases hd:vs[i].dst=some k
    ·unfold pw at b4;rw[hd]at b4;exact b4
    ·rw[b2,ff,aA hd];exact V.jo hle _ (a2 k hk)
 refine⟨fun i hi=>(key i hi).1,fun i hi=>(key i hi).2.1,fun i hi=>(key i hi).2.2,fun i k hik=>?_⟩;induction hik with
 |refl=>intro _;exact⟨[],by simp⟩
 |step hik ih=>
  rename_i k;intro hk;obtain⟨l,hl⟩:=ih om;obtain⟨b1,b2,b3,b4⟩:=T.step k vs[k] om (ae om);obtain⟨l',hl',_⟩:=Hn b3;exact⟨l++l',by rw[hl',hl,ag]⟩
structure Ts (dl:List Deferred) (cx:Cx) (N m:Nat) (τ:Nat->St) (dst:Nat->Option Nat) (val:Nat->V) (g0:Gh) (s:St) (w0:World) (L:Nat->Bool) (g:Gh) (a:Act) (w:World):Prop where
 inv:Inv cx g (τ m).h w
 size:a.tmps.size=N
 env:∀ k,k < N->bW g (τ m).h (bP (dg L dst val s.e m) k) (a.tmps.getD k undef)
 defers:a.defers=dl
 ext:Ext s.b g0 s.h w0 g (τ m).h w
 unl:∀ i,i < m->L i=false->∀ id,(τ i).h.length<=id->id < (τ (i+1)).h.length->g.J id=none
theorem R7 {nb:Nat} {g':Gh} {H':Hp} {w':World} {l:Hp} (e:Ext nb g H w g' H' w') (hl:H'=H++l) {i:Nat} (hi:i < H.length):g'.J i=g.J i:=by
 have hg:H[i]? =some H[i]:=ae hi;have hg':H'[i]? =some H[i]:=by rw[hl,aD hi];exact hg
 cases ho:H[i] with
 |row sz r=>
  rw[ho]at hg hg';obtain⟨l',h1,h2,h3⟩:=e.keep.row i sz r hi hg;rw[hg']at h1;cases h1;exact h3 rfl
 |box c=>rw[ho]at hg;exact(e.keep.obj i _ hi hg (by simp)).1
 |frz c=>rw[ho]at hg;exact(e.keep.obj i _ hi hg (by simp)).1
 |map c=>rw[ho]at hg;exact(e.keep.obj i _ hi hg (by simp)).1
theorem nh {o:aL} {k:Nat} (h:o.dst=some k):k∈o.names:=by simp[aL.names,h]
theorem yA {orc:iH} (hS:kE P cx orc) {N m:Nat} {vs:List aL} {s:St} {τ:Nat->St} {val:Nat->V} (T0:τ 0=s) (TE:∀ n o,n < m->vs[n]? =some o->(τ (n+1)).e=fT o.dst (val n) (τ n).e) (G:Good N m s τ) (hsb:s.b<=s.h.length)
 {ops:Array Oper} {i:Nat} (him:i < m) {co:Oper} (hco:ops[i]? =some co) {o:aL} (ho:vs[i]? =some o) (TI:aW cx orc o (τ i)=some (τ (i+1))) (ht:rb P ops co=some o) (hok:o.gx N=true)
 {dst:Nat->Option Nat} (hdst:dst i=o.dst) (hdm:∀ n o',vs[n]? =some o'->dst n=o'.dst) (hml:m<=vs.length) {L L':Nat->Bool} (hL:L i=false) (hL':L' i=true) (hLo:∀ k,k≠i->L' k=L k)
 (hA:∀ t∈o.names,(∀ n,n < i->dst n=some t->L n=true)/\(∀ n,i < n->n < m->dst n=some t->L n=false))
 {g0:Gh} {w0:World} {a:Act} (D:Ts dl cx N m τ dst val g0 s w0 L g a w) {Q:Exit->Act->World->Prop} {K:Act->World->Prop}
 (hk:∀ g' a' w',Ts dl cx N m τ dst val g0 s w0 L' g' a' w'->K a' w'):wpOp P ops Q i K a w:=by
 have s1:=TI;have s2:=TE i o him ho;have hlen:∀ j,j<=m->(τ j).h.length<=(τ m).h.length:=fun j hj=>by
   obtain⟨l,hl⟩:=G.grow j m hj (ai _);rw[hl];simp
 obtain⟨lm,hlm⟩:=G.grow i m om (ai _);obtain⟨ln,hln⟩:=G.grow (i+1) m om (ai _);obtain⟨l1,hl1⟩:=G.grow i (i+1) om om;have hle1:(τ i).h.length<=(τ (i+1)).h.length:=by rw[hl1];simp
 have htk:(τ m).h.take (τ i).h.length=(τ i).h:=by rw[hlm];simp
 have he:∀ n,n<=m->dg (fun _=>true) dst val s.e n=(τ n).e:=j6 (by rw[T0]) (fun n hn=>by
   have q:=TE n vs[n] hn (ae om);rw[q,hdm n _ (ae om)]) (fun _ _=>rfl)
 -- the slots that are named
 have hname:∀ t∈o.names,bP (dg L dst val s.e m) t=bP (τ i).e t:=by
  intro t htn;obtain⟨q1,q2⟩:=hA t htn;have e1:bP (dg L dst val s.e m) t=bP (dg L dst val s.e i) t:=by
   have:=iU (L:=L) (dst:=dst) (val:=val) (e0:=s.e) (t:=t) (i:=i) (m - i) fun k h1 h2 h3=>by
     by_cases hki:k=i
     ·subst hki;exact hL
     ·exact q2 k om om h3
   rwa [show i+(m - i)=m by omega]at this
  rw[e1,<-he i om];exact fB i fun k h1 h2=>by rw[q1 k h1 h2]
 obtain⟨x,hx1,hx2⟩:=lY (e':=dU o.names (τ i).e) (fun t htn=>by rw[lj,ay htn]) s1;have hbi:(τ i).b=s.b:=G.b i om;have hInv0:Inv cx (g.cut (τ i).h.length) (τ i).h w:=by
  have:=D.inv.restrict (n:=(τ i).h.length) (hlen i om) (by
    intro k c hk hb;have:=G.clean i om k c hk;rw[hlm,aD hk]at hb;exact this hb)
  rwa [htk]at this
 have hcutW:sD (τ i).h.length g (τ m).h (g.cut (τ i).h.length) (τ i).h:=by
  have:=lD g (τ m).h (τ i).h.length;rwa [htk]at this
 have hok0:cg dl cx N (g.cut (τ i).h.length) ⟨dU o.names (τ i).e,(τ i).h,(τ i).b⟩ a w:=by
  refine⟨hInv0,⟨D.size,fun k hk=>?_⟩,D.defers,?_⟩
  ·rw[lj];by_cases hkn:k∈o.names
   ·rw[ay hkn];have hu:=G.und i om k hk;refine⟨fk hcutW _ _ hu ?_,hu⟩;rw[<-hname k hkn];exact D.env k hk
   ·rw[aA hkn];exact⟨by simp[bW],rfl⟩
  ·rw[hbi];obtain⟨l0,hl0⟩:=G.grow 0 i om om;rw[T0]at hl0;show s.b<=(τ i).h.length;rw[hl0];simp;omega
 refine fZ hS hco ht hok hx2 hok0 fun g' y w' ok' ext'=>?_;have hdd:=(q9 ht).2.1;have hkk:=(uI hok).1;refine hk ⟨fun id=>if id < (τ (i+1)).h.length then g'.J id else g.J id,g'.C⟩ _ _ ?_;generalize hg2:(⟨fun id=>if id < (τ (i+1)).h.length then g'.J id else g.J id,g'.C⟩:Gh)=g2;have hlo:∀ id,id < (τ (i+1)).h.length->g2.J id=g'.J id:=fun id h=>by rw[<-hg2];exact ay h
 have hhi:∀ id,(τ (i+1)).h.length<=id->g2.J id=g.J id:=fun id h=>by rw[<-hg2];exact aA om
 have hC2:g2.C=g'.C:=by rw[<-hg2]
 have hold:∀ id,id < (τ i).h.length->g'.J id=g.J id:=fun id h=>by rw[R7 ext' hl1 h,BD h]
 have hnew:∀ id,(τ i).h.length<=id->id < (τ (i+1)).h.length->g.J id=none:=D.unl i him hL;have hCm:∀ b,g.C b <+:g2.C b:=fun b=>by rw[hC2];exact ext'.keep.C b
 have hkeepM:∀ n,n<=(τ m).h.length->sD n g (τ m).h g2 (τ m).h:=by
  intro n hn;have hJ:∀ id p,g.J id=some p->g2.J id=some p:=by
   intro id p hp;by_cases h1:id < (τ i).h.length
   ·rw[hlo id om,hold id h1];exact hp
   ·by_cases h2:id < (τ (i+1)).h.length
    ·rw[hnew id om h2]at hp;cases hp
    ·rw[hhi id om];exact hp
  exact⟨hCm,fun id o hi ho hr=>⟨hJ id,o,ho,hr⟩,fun id sz l hi ho=>⟨l,ho,aJ _,fun _=>hJ id⟩⟩
 have hkeep1:sD (τ (i+1)).h.length g' (τ (i+1)).h g2 (τ m).h:=by
  rw[hln];refine⟨fun b=>by rw[hC2];exact aJ _,fun id o hi ho hr=>⟨fun p hp=>by rw[hlo id hi];exact hp,o,by rw[aD hi];exact ho,hr⟩,fun id sz l hi ho=>⟨l,by rw[aD hi];exact ho,aJ _,fun _ p hp=>by rw[hlo id hi];exact hp⟩⟩
 have hjn:∀ id b c,g2.J id=some (b,c)->b < w.heap.size->∃ k c',k < (τ m).h.length/\g.J k=some (b,c')/\((id < (τ (i+1)).h.length/\k < (τ i).h.length)\/((τ (i+1)).h.length<=id/\k=id)):=by
  intro id b c h hb;by_cases h2:id < (τ (i+1)).h.length
  ·rw[hlo id h2]at h;obtain⟨k,c',hk'⟩:=ext'.jnew id b c h hb;obtain⟨q1,q2⟩:=kP hk';exact⟨k,c',(D.inv.dom k b c' q2).1,q2,.inl ⟨h2,q1⟩⟩
  ·rw[hhi id om]at h;exact⟨id,c,(D.inv.dom id b c h).1,h,.inr ⟨om,rfl⟩⟩
 have hframe:∀ b,b < w.heap.size->(∀ id c,id < (τ i).h.length->g.J id≠some (b,c))->w'.heap[b]? =w.heap[b]? /\g2.C b=g.C b:=by
  intro b hb hn;rw[hC2];exact ext'.frame b hb fun id c h=>hn id c (kP h).1 (kP h).2
 have hI2:Inv cx g2 (τ m).h w':=by
  refine⟨fun i1 i2 b c c' h1 h2=>?_,fun id b c h=>?_,fun id b c ob h hob=>?_,fun b hb=>?_,D.inv.und,fun k=>?_,D.inv.fix.mono fun b hb hn=>⟨(hframe b hb fun id c _=>hn id c).1,fun k c hk=>by obtain⟨k',c',_,q2,_⟩:=hjn k b c hk hb;exact hn k' c' q2⟩⟩
  ·by_cases a1:i1 < (τ (i+1)).h.length<;>by_cases a2:i2 < (τ (i+1)).h.length
   ·rw[hlo _ a1]at h1;rw[hlo _ a2]at h2;exact ok'.inv.inj _ _ _ _ _ h1 h2
   ·rw[hhi i2 om]at h2;have hb:=(D.inv.dom _ _ _ h2).2;obtain⟨k,c'',_,q2,q3⟩:=hjn i1 b c h1 hb;have:=D.inv.inj _ _ _ _ _ q2 h2;omega
   ·rw[hhi i1 om]at h1;have hb:=(D.inv.dom _ _ _ h1).2;obtain⟨k,c'',_,q2,q3⟩:=hjn i2 b c' h2 hb;have:=D.inv.inj _ _ _ _ _ q2 h1;omega
   ·rw[hhi _ om]at h1 h2;exact D.inv.inj _ _ _ _ _ h1 h2
  ·by_cases a1:id < (τ (i+1)).h.length
   ·rw[hlo _ a1]at h;have:=ok'.inv.dom _ _ _ h;have:=hlen (i+1) om;exact⟨om,om⟩
   ·rw[hhi _ om]at h;have:=D.inv.dom _ _ _ h;exact⟨this.1,ch this.2 ext'.size⟩
  ·by_cases a1:id < (τ (i+1)).h.length
   ·rw[hlo _ a1]at h;have hob':(τ (i+1)).h[id]? =some ob:=by rw[hln,aD a1]at hob;exact hob
    exact(ok'.inv.ob id b c ob h hob').ext hkeep1 rfl (by rw[hC2]) (by rintro cc rfl;exact G.clean (i+1) om id cc a1 hob')
   ·rw[hhi _ om]at h;have hd:=D.inv.dom _ _ _ h;obtain⟨f1,f2⟩:=hframe b hd.2 fun k c' hk' hkc=>by
      have:=D.inv.inj _ _ _ _ _ hkc h;omega
    exact(D.inv.ob id b c ob h hob).ext (hkeepM _ (ai _)) f1 f2 (by rintro cc rfl;exact G.clean m (ai _) id cc hd.1 hob)
  ·rw[hC2]at hb⊢;exact ok'.inv.imm b hb
  ·rw[hC2];exact ok'.inv.glob k
 have hundL:∀ t,t < N->(bP (dg L dst val s.e m) t).und (τ m).h.length=true:=by
  intro t htN;have:∀ n,n<=m->(bP (dg L dst val s.e n) t).und (τ m).h.length=true:=by
   intro n;induction n with
   |zero=>
    intro _;have:=G.und 0 om t htN;rw[T0]at this;have h0:=hlen 0 om;rw[T0]at h0;exact V.jo h0 _ this
   |succ n ih=>
    intro hn;rw[iR];split
    ·rename_i h;have h1:=G.und (n+1) hn t htN;have q:=TE n vs[n] om (ae om);rw[q,ff,<-hdm n _ (ae om),ay h.2]at h1;exact V.jo (hlen (n+1) hn) _ h1
    ·exact ih om
  exact this m (ai _)
 have hval:∀ k,o.dst=some k->val i=x:=by
  intro k hk';have e1:=aG (bP · k) (s2.symm.trans hx1);simpa [ff,hk'] using e1
 refine⟨hI2,by rw[AG];cases co.dst<;>simp[Ji,D.size],fun k hk'=>?_,by rw[put_defers];exact D.defers,?_,fun i' hi' hL'' id h1 h2=>?_⟩
 ·by_cases hd:o.dst=some k
  ·have e1:bP (dg L' dst val s.e m) k=x:=by
    obtain⟨q1,q2⟩:=hA k (nh hd);have:=iU (L:=L') (dst:=dst) (val:=val) (e0:=s.e) (t:=k) (i:=i+1) (m - (i+1)) fun n h1 h2 h3=>by
      rw[hLo n om];exact q2 n om om h3
    rw[show i+1+(m - (i+1))=m by omega]at this;rw[this,iR,ay ⟨hL',hdst.trans hd⟩];exact hval k hd
   rw[e1];obtain⟨r1,r2⟩:=ok'.env.2 k hk';simp only[ff,ay hd]at r1 r2;exact fk hkeep1 _ _ r2 r1
  ·have e1:bP (dg L' dst val s.e m) k=bP (dg L dst val s.e m) k:=fB m fun n h1 h2=>hLo n (by rintro rfl;rw[hdst]at h2;exact hd h2);rw[e1];have e2:(a.put co.dst y).tmps.getD k undef=a.tmps.getD k undef:=by
    rw[AG,<-hdd];cases hod:o.dst with
    |none=>rfl
    |some d=>
     have hdk:d≠k:=by rintro rfl;exact hd hod
     simp only[Ji,jK,Array.getElem?_setIfInBounds,aA hdk]
   rw[e2];exact fk (hkeepM _ (ai _)) _ _ (hundL k hk') (D.env k hk')
 ·have E:=D.ext;have hs0:s.h.length<=(τ m).h.length:=E.len;refine⟨ext'.os.trans E.os,ext'.tape.trans E.tape,ext'.output.trans E.output,dD E.size ext'.size,fun b hb hn=>?_,?_,fun id b c h hb=>?_,E.clean,E.len⟩
  ·obtain⟨f1,f2⟩:=E.frame b hb hn;obtain⟨f3,f4⟩:=hframe b (ch hb E.size) fun id c _ h=>by
     obtain⟨k,c',hk'⟩:=E.jnew id b c h hb;exact hn k c' hk'
   exact⟨f3.trans f1,f4.trans f2⟩
  ·obtain⟨l0,hl0⟩:=G.grow 0 i om om;rw[T0]at hl0;have hsi:s.h.length<=(τ i).h.length:=by rw[hl0];simp
   refine E.keep.trans (m:=s.h.length) ⟨hCm,fun id o' hid hob hr=>⟨?_,o',hob,hr⟩,fun id sz l hid hob=>⟨l,hob,aJ _,fun _=>?_⟩⟩ (ai _)<;>
   rw[hlo id om,hold id om]
  ·obtain⟨k,c',_,q2,_⟩:=hjn id b c h (ch hb E.size);exact E.jnew k b c' q2 hb
 ·have hne:i'≠i:=by rintro rfl;rw[hL']at hL'';cases hL''
  have hL0:L i'=false:=by rw[<-hLo i' hne];exact hL''
  have:=D.unl i' hi' hL0 id h1 h2;by_cases hgt:i < i'
  ·obtain⟨l',hl'⟩:=G.grow (i+1) i' om om;have:(τ (i+1)).h.length<=(τ i').h.length:=by rw[hl'];simp
   rw[hhi id om];assumption
  ·obtain⟨l',hl'⟩:=G.grow (i'+1) i om om;have:(τ (i'+1)).h.length<=(τ i).h.length:=by rw[hl'];simp
   rw[hlo id om,hold id om];assumption
theorem Br {orc:iH} (hS:kE P cx orc) {N m:Nat} {vs:List aL} {s:St} {τ:Nat->St} {val:Nat->V} (T:Trace cx orc m vs s τ val) (G:Good N m s τ) (hsb:s.b<=s.h.length)
 {ops:Array Oper} {i:Nat} (him:i < m) {co:Oper} (hco:ops[i]? =some co) {o:aL} (ho:vs[i]? =some o) (ht:rb P ops co=some o) (hok:o.gx N=true)
 {dst:Nat->Option Nat} (hdst:dst i=o.dst) (hdm:∀ n o',vs[n]? =some o'->dst n=o'.dst) (hml:m<=vs.length) {L L':Nat->Bool} (hL:L i=false) (hL':L' i=true) (hLo:∀ k,k≠i->L' k=L k)
 (hA:∀ t∈o.names,(∀ n,n < i->dst n=some t->L n=true)/\(∀ n,i < n->n < m->dst n=some t->L n=false))
 {g0:Gh} {w0:World} {a:Act} (D:Ts dl cx N m τ dst val g0 s w0 L g a w) {Q:Exit->Act->World->Prop} {K:Act->World->Prop}
 (hk:∀ g' a' w',Ts dl cx N m τ dst val g0 s w0 L' g' a' w'->K a' w'):wpOp P ops Q i K a w:=
 yA hS T.zero (fun n o hn h=>(T.step n o hn h).2.1) G hsb him hco ho (T.step i o him ho).1 ht hok hdst hdm hml hL hL' hLo hA D hk
end
end Go.Vm
