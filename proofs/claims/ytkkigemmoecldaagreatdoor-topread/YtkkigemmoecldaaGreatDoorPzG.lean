import Derived.Test.YtkkigemmoecldaaGreatDoorPyM
import Derived.Test.YtkkigemmoecldaaGreatDoorPzC
import Derived.Lib.ItoaLen
set_option maxRecDepth 100000
set_option maxHeartbeats 0
set_option linter.unusedVariables false
set_option linter.unusedSimpArgs false
namespace Go.Vm.Pk
open Go Go.Proofs Go.RowKit Go.Shelf
structure Nd where
 k:Int
 s:List UInt8
 v:Int
 ks:List Nat
 f:Int
 e:Int
def Nd.D (n:Nd):D:= .agg [.int .i64 n.k,.str n.s,.int .i64 n.v,.sl (n.ks.map fun k:Nat=>D.int .i64 (k:Int)),.int .i64 n.f,.int .i64 n.e]
def Tq (C:Nat->List Value) (v:Value) (ks:List Nat):Prop:=∃ a cap,v= .slice a ks.length cap/\(ks=[]\/∃ b off,a=some ⟨b,off,none⟩/\C b≠[]/\∀ (i k:Nat),ks[i]? =some k->(C b)[off+i]? =some (.int .i64 (k:Int)))
theorem Ry {C:Nat->List Value} {ks:List Nat} {v:Value} (h:bD C (.sl (ks.map fun k:Nat=>D.int .i64 (k:Int))) [v]):∃ a cap,v= .slice a ks.length cap/\Tq C v ks:=by
  simp only[bD]at h;obtain⟨a,cap,e,hc,h⟩:=h;simp only[bS,fQ,aE]at e;subst e;refine⟨a,cap,rfl,a,cap,rfl,?_⟩;cases ks with
  |nil=>exact .inl rfl
  |cons k0 ks=>
   right;rcases h with h|⟨b,off,sz,us,rfl,hs,hp,hr⟩
   ·cases h
   have hsz:sz=1:=by
    have h2:=hr;simp only[aB,dJ]at h2;obtain⟨v1,v2,-,hl,h3,-⟩:=h2;simp only[bD]at h3;rw[<-hl,h3];rfl
   subst hsz;have key:∀ (i k:Nat),(k0::ks)[i]? =some k->(C b)[off+i]? =some (.int .i64 (k:Int)):=fun i k hi=>by
     have hg:=qS (i:=i) (d:= .int .i64 (k:Int)) hr (by rw[bE,hi];rfl);simp only[bD,n7]at hg;have h0:us[i]? =some (.int .i64 (k:Int)):=by
      have:=aG (·[0]?) hg;simpa [aZ] using this
     have:=eJ hp h0;rwa [cw]at this
   refine⟨b,off,rfl,fun e=>?_,key⟩;have:=key 0 k0 rfl;rw[e]at this;simp at this
theorem C6 {C:Nat->List Value}:∀ (eO:List Nd) (vs:List Value),dJ C 6 (eO.map Nd.D) vs->∃ ns:List Nv,ns.length=eO.length/\(∀ (j:Nat) (n:Nv) (i:Nat) (v:Value),ns[j]? =some n->n.list[i]? =some v->vs[j*6+i]? =some v)/\∀ (j:Nat) (nd:Nd) (n:Nv),eO[j]? =some nd->ns[j]? =some n->Tq C n.kids nd.ks
 |[],_,_=>⟨[],rfl,fun j n i v h=>by simp at h,fun j nd n h=>by simp at h⟩
 |nd::eO,vs,h=>by
  simp only[aB,dJ]at h;obtain⟨v1,v2,rfl,hl,h1,h2⟩:=h;obtain⟨ns,i1,i2,i3⟩:=C6 eO v2 h2;unfold Nd.D at h1;simp only[bD,db]at h1;obtain⟨y1,z1,rfl,-,e1,y2,z2,rfl,-,e2,y3,z3,rfl,-,e3,y4,z4,rfl,-,e4,y5,z5,rfl,-,e5,y6,z6,rfl,-,e6,rfl⟩:=h1;have e4':bD C (.sl (nd.ks.map fun k:Nat=>D.int .i64 (k:Int))) [y4]:=by simp only[bD];exact e4
  obtain⟨a,cap,rfl,hk⟩:=Ry e4';simp only[bS,fQ]at e1 e2 e3 e5 e6;subst e1;subst e2;subst e3;subst e5;subst e6;refine⟨⟨nd.k,⟨nd.s.toArray⟩,nd.v,a,nd.ks.length,cap,nd.f,nd.e⟩::ns,by simp[i1],fun j n i v hj hi=>?_,fun j nd' n hj hn=>?_⟩
  ·cases j with
   |zero=>
    simp only[aV,aa]at hj;subst hj;have hi6:=(az.1 hi).1;rw[aD (by simpa using hi6)];simpa using hi
   |succ j=>
    simp only[bR]at hj;have:=i2 j n i v hj hi;rw[aK (by simp;omega)];rw[<-this];congr 1;simp;omega
  ·cases j with
   |zero=>
    simp only[aV,aa]at hj hn;subst hj;subst hn;exact hk
   |succ j=>exact i3 j nd' n hj hn
def oa (eO:List Nd) (j:Nat):List Nat:=match eO[j]? with|some n=>n.ks|none=>[]
def fh (eO:List Nd):Nat:=(r6 (oa eO) eO.length (back eO.length eO.length)).2
theorem cell_of {W:World} {b i:Nat} {cur:Array Value} {t:TypeId} {fz:Nat×Nat} {v:Value} (h:W.heap[b]? =some (.cells cur t fz)) (hv:cur.toList[i]? =some v):W.cell? ⟨b,i,none⟩=some v:=by
 simp only[World.cell?,h];simpa using hv
theorem zb (cx:Cx) (eO:List Nd) (H:Hp) (hne:eO≠[]) (hmax:eO.length<=20000000) (hks:∀ (j:Nat) (n:Nd),eO[j]? =some n->n.ks.length<=20000000/\∀ k∈n.ks,k < j):dw Tryz.prog cx 37 [.d (.agg [.sl (eO.map Nd.D)])] H (.d (.int .i64 (fh eO:Int))) H:=by
 refine⟨⟨Tryz.f37,Tryz.func37,rfl,by decide⟩,fun g w cargs hI ra ua=>?_⟩;simp only[bN,bW,du,db,bD]at ra;obtain⟨x,xs,e1,⟨cs,rfl,y,ys,e2,-,⟨a0,cap,e4,hcap,hl⟩,rfl⟩,rfl⟩:=ra;simp only[bS,fQ,aE]at e4;subst e4;have e3:cargs= #[.agg #[.slice a0 eO.length cap]]:=by
  have:cs= #[.slice a0 eO.length cap]:=dH e2;subst this;exact dH e1
 subst e3;have hfin:∀ (ns:List Nv),ns.length=eO.length->uZ w.heap.size w (.slice a0 ns.length cap) ns->(∀ (j:Nat) (nd:Nd) (n:Nv),eO[j]? =some nd->ns[j]? =some n->Tq g.C n.kids nd.ks)->Calls Tryz.prog 37 #[.agg #[.slice a0 eO.length cap]] w (fun e w'=> ∃ g' x,e= .returned x/\Inv cx g' H w'/\bW g' H (.d (.int .i64 (fh eO:Int))) x/\(V.d (.int .i64 (fh eO:Int))).und H.length=true/\Ext H.length g H w g' H w'):=by
   intro ns hlen hN hK;have:=SA Fence.wide 3 trivial trivial trivial rfl (ai _) a0 cap ns (oa eO) om w hN fun j hj=>by
     obtain⟨nd,hnd⟩:∃ nd,eO[j]? =some nd:=⟨_,ae om⟩;have hnj:ns[j]? =some (JL ns j):=by simp[JL,ae hj]
     obtain⟨a1,c1,q1,q2⟩:=hK j nd _ hnd hnj;obtain⟨q3,q4⟩:=hks j nd hnd;have hko:oa eO j=nd.ks:=by simp[oa,hnd]
     rw[hko];refine⟨⟨a1,c1,q1,q3,?_⟩,q4⟩;by_cases hz:nd.ks=[]
     ·exact .inl hz
     ·rcases q2 with h1|⟨b,off,e1,e2,e3⟩
      ·exact absurd h1 hz
      ·obtain⟨cur,e,fz,p1,p2⟩:=hI.imm b e2;exact .inr ⟨b,off,e1,(aS.1 p1).1,fun i k hi=>cell_of p1 (eJ p2 (e3 i k hi))⟩
   rw[hlen]at this;refine(callsIn_wide.1 this).mono ?_;rintro e w' ⟨rfl,hB⟩;obtain⟨i1,i2⟩:=hI.below hB;exact⟨g,_,rfl,i1,rfl,rfl,i2⟩
 rcases hl with h|⟨b,off,sz,us,rfl,hsz,hp,hr⟩
 ·exact absurd (List.map_eq_nil_iff.1 h) hne
 have hs6:sz=6:=by
  cases eO with
  |nil=>exact absurd rfl hne
  |cons nd eO=>
   have h2:=hr;simp only[aB,dJ]at h2;obtain⟨v1,v2,-,hl1,h3,-⟩:=h2;unfold Nd.D at h3;simp only[bD,db]at h3;obtain⟨y1,z1,rfl,-,-,y2,z2,rfl,-,-,y3,z3,rfl,-,-,y4,z4,rfl,-,-,y5,z5,rfl,-,-,y6,z6,rfl,-,-,rfl⟩:=h3;rw[<-hl1];rfl
 subst hs6;obtain⟨ns,n1,n2,n3⟩:=C6 eO _ hr;have hne2:g.C b≠[]:=fun e=>by
   rw[e]at hp;have hu:us=[]:=by simpa using hp
   rw[hu]at n2;cases ns with
   |nil=>exact hne (cp.1 n1.symm)
   |cons n ns=>
    have:=n2 0 n 0 _ rfl rfl;simp at this
 obtain⟨cur,e,fz,p1,p2⟩:=hI.imm b hne2;have hb:b < w.heap.size:=(aS.1 p1).1;refine hfin ns n1 (.inr ⟨b,off,cap,by rw[n1],hb,fun j n i v h1 h2=>?_⟩) n3;have h3:=n2 j n i v h1 h2;have h4:=eJ hp h3;rw[cw]at h4;have h5:=cell_of p1 (eJ p2 h4);rw[eM];exact h5
end Go.Vm.Pk
namespace Go.Vm.Px
open Go.Vm.Lex (TokQ bF qA zk)
open Go.Vm.Pa hiding go
open Go.Vm.Pk (Nd fh zb)
open Go.Vm.Ite
open Go Go.Proofs Go.RowKit
def qy (eO:List Nd):D:= .agg [.sl (eO.map Nd.D)]
open Classical in
noncomputable def Ep (eO:List Nd) (a:List V) (h:Hp):Option (V×Hp):=if a.map (toArg h)=[.d (qy eO)] then some (.d (.int .i64 (fh eO:Int)),h) else none
noncomputable def FD (eO:List Nd):Nat->Option dF
 |37=>some (.prim (Ep eO))
 |_=>none
structure IC (eO:List Nd):Prop where
 ne:eO≠[]
 len:eO.length<=1000000
 kid:∀ (j:Nat) (n:Nd),eO[j]? =some n->n.ks.length<=20000000/\∀ k∈n.ks,k < j
section
variable {fx:Nat->Option Obj}
theorem J6 {cx:Cx} {f:Nat} {a:List V} {H H':Hp} {r:V} (h:dw Tryz.prog cx f (a.map (toArg H)) H r H'):dw Tryz.prog cx f a H r H':=⟨h.1,fun g w c hI ra ua=>h.2 g w c hI (pE hI ra) (CN ua)⟩
theorem tblD {eO:List Nd} (h:IC eO):eS Tryz.prog (b9 fx (FD eO)):=K4 ⟨fun _=>[],fx⟩ (FD eO) fun f e hf=>by
  unfold FD at hf;split at hf
  ·cases hf;intro args H r H' hh;unfold Ep at hh;split at hh
   ·rename_i hc;cases hh;refine J6 ?_;rw[hc];exact zb _ eO _ h.ne (by have:=h.len;omega) h.kid
   ·cases hh
  ·cases hf
theorem tr4 {H:Hp} {eO:List Nd} (h:H[4]? =some (.row 6 (eO.map Nd.D))):toArg H (.agg [.row 4 eO.length])= .d (qy eO):=by
 have e:(eO.map Nd.D).length=eO.length:=aE ..;simp only[toArg,wu,xW,im,h,e,cU];rfl
theorem ZP {eO:List Nd} {H:Hp} (h:H[4]? =some (.row 6 (eO.map Nd.D))):cv (b9 fx (FD eO)) 37 [.agg [.row 4 eO.length]] H=some (.d (.int .i64 (fh eO:Int)),H):=by
 rw[jT (show(b9 fx (FD eO)).my 37=some (.prim (Ep eO))from rfl)];exact ay (by rw[aB,tr4 h];rfl)
def AB (eO:List Nd) (len:Nat):V:=if 20000 < eO.length then .tup [.d (qy []),.d (zk 2 0 len)] else if 400 < fh eO then .tup [.d (qy []),.d (zk 121 0 len)] else .tup [.d (qy eO),.d (zk 0 0 0)]
theorem Yd (src:S) (rf:Nat) (hs:src.length<=65536) {l:List TokQ} {c f e:Int} {s1:PS} {eO:List Nd} (h1:s1.ns=eO.map Nd.D) (h2:s1.n=eO.length) (h3:IC eO):
 WQ (b9 fx (FD eO)) 0 (vR (vR (vR (vR (vR (vR (vR SE))))))) [] (E7 src rf) (H7 l c f e s1) fun x1 _ e' H'=>x1= .ret/\∃ vs,jC e' H' [.cell 4 (some 1),.cell 5 (some 3)]=some vs/\br 0 (vs.map (toArg H'))=true/\oneOf (vs.map (toArg H'))=AB eO src.length:=by
 have hlen:=h3.len;unfold AB;have hd:=fun H h=>ZP (fx:=fx) (eO:=eO) (H:=H) h;have hln:(eO.map Nd.D).length=eO.length:=aE ..;obtain⟨at_,deep,ns,n,bc,bf,be⟩:=s1;simp only at h1 h2;subst h1;subst h2;by_cases c1:20000 < eO.length
 ·have c1':(20000:Int) < ((eO.length:Nat):Int):=om;rw[ay c1]
  repeat' (first|refine run ⟨?_⟩|refine ca (hd _ rfl) ?_|fail)
  exact⟨_,rfl,rfl,rfl⟩
 ·have c1':¬ (20000:Int) < ((eO.length:Nat):Int):=om;rw[aA c1];by_cases c2:400 < fh eO
  ·have c2':(400:Int) < ((fh eO:Nat):Int):=om;rw[ay c2]
   repeat' (first|refine run ⟨?_⟩|refine ao hln ?_|refine ca (hd _ rfl) ?_|fail)
   exact⟨_,rfl,rfl,rfl⟩
  ·have c2':¬ (400:Int) < ((fh eO:Nat):Int):=om;rw[aA c2]
   repeat' (first|refine run ⟨?_⟩|refine ao hln ?_|refine ca (hd _ rfl) ?_|fail)
   refine⟨_,rfl,?_,?_⟩
   ·show br 0 [toArg _ (.agg [.row 4 eO.length]),_]=true;rw[tr4 rfl];rfl
   ·show oneOf [toArg _ (.agg [.row 4 eO.length]),_]=_;rw[tr4 rfl];rfl
end
section
variable {fx:Nat->Option Obj}
theorem Nk (eO:List Nd) (n:Nat):(AB eO n).und 0=true:=by
 unfold AB;split
 ·rfl
 ·split<;>rfl
theorem Nj (X:zo fx) (src:S) (rf:Nat) (h1:src.length<=65536) (hc:(bF src).2.c=0) {s1:PS} {eO:List Nd} (e1:s1.ns=eO.map Nd.D) (e2:s1.n=eO.length) (e3:IC eO)
 (hrun:dw Tryz.prog ⟨fun _=>[],fx⟩ 36 [.ptr 3 0,.fn rf []] (H7 (bF src).1 (bF src).2.c (bF src).2.f (bF src).2.e P0) (.ifc true) (H7 (bF src).1 (bF src).2.c (bF src).2.f (bF src).2.e s1)) (H:Hp):
 dw Tryz.prog ⟨fun _=>[],fx⟩ 13 [.d (.str src),.fn rf []] H (AB eO src.length) H:=by
 refine tL (N:=66) Tryz.func13 b20 kr r20 (by decide) kr (by show 2<=66;decide) rfl (Nk _ _) (fun g w a ok=>?_) H;refine Wz X src rf h1 hc ok fun g1 a1 w1 ok1 E1=>?_;apply wp_seq;rw[Ww];apply wp_seq;have e0:Code.region (cId (cL (cL (cD c20 6)))) AM false=cL (cL (cD c20 6)):=kr;rw[e0];refine a5v (K:=fun g' H' x w'=>H'=H7 (bF src).1 (bF src).2.c (bF src).2.f (bF src).2.e s1/\x= .nilIface/\Ext 0 g [] w g' H' w') ok1 (fun cargs ra=>?_) (fun g' H' x w' p hK hI' hE' hp=>?_)
 ·refine(hrun.2 g1 w1 cargs ok1.inv ra rfl).mono ?_;rintro e w2 ⟨g2,x,rfl,i2,r2,_,E2⟩;simp only[bW]at r2;have hx:x= .nilIface:=by
   rcases r2 with⟨_,h⟩|⟨h,_⟩
   ·exact h
   ·cases h
  exact⟨g2,_,x,rfl,i2,E2,rfl,hx,E1.trans E2 (aR _)⟩
 ·obtain⟨rfl,rfl,E2⟩:=hK;refine((Ir (cx:=⟨fun _=>[],fx⟩) (v:= .raw (.iface 81 p))).2 g' w' #[.nilIface,.iface 81 p] hI' (by simp only[bN,bW];exact⟨_,_,rfl,.inl ⟨trivial,rfl⟩,_,_,rfl,rfl,rfl⟩) rfl).mono ?_;rintro e w2 ⟨g2,y,rfl,i2,r2,_,E3⟩;simp only[bW,du,bD,bS,fQ]at r2;subst r2;refine⟨false,g2,_,rfl,i2,E3.le (aR _),fun a2 ok2=>?_⟩;refine wp_cond (t:=false) (Ie ok2 (by decide) rfl) ?_;simp only[eP,iE];refine wp_skip ?_;have ok3:=ok2.forget [0,1,4,5,8,9];have E4:=E2.trans E3 (aR _);refine chunk (tblD e3) rW a4o kr ok3 (Yd src rf h1 e1 e2 e3) ?_;rintro x1 e' H' g4 a4 w4 ⟨rfl,vs,v1,v2,v3⟩ ok4 E5;exact⟨.inr rfl,g4,_,vs,ok4,E4.trans E5 (ai _),v1,v2,v3⟩
def SR (i:Nat):Prop:=i=0\/i=1\/i=2\/i=5
theorem X0 {g:Gh} {w:World} {l:List TokQ} {c f e:Int} {s:PS} {cx:Cx} (hI:Inv cx g (H7 l c f e s) w):∀ i b k o,¬ SR i->g.J i=some (b,k)->(H7 l c f e s)[i]? =some o->zn (g.hide SR) (H7 l c f e s) w b k o:=by
 intro i b k o hs hj ho;have h:=hI.ob i b k o hj ho;have hi:i < 6:=by
  have:=(az.1 ho).1;exact this
 have h34:i=3\/i=4:=by unfold SR at hs;omega
 rcases h34 with rfl|rfl
 ·cases ho;unfold a0r at h⊢;obtain⟨cur,ty,q1,q2,q3⟩:=h;refine⟨cur,ty,q1,?_,q3⟩;have h4:(g.hide SR).J 4=g.J 4:=tJ (by unfold SR;omega);simp only[cP,bW]at q2⊢;rw[h4];exact q2
 ·cases ho;exact h
theorem Qe (Y:List Ob) (k:List Ob->Prop):(List.rec (motive:=fun _=>(List Ob->Prop)->Prop) (fun k=>k []) (fun a _ ih k=>ih fun r'=>k (a::r')) Y k)=k Y:=by
  induction Y generalizing k with
  |nil=>rfl
  |cons a Y ih=>exact ih _
theorem Zs {F:Nat->Option dF} (src:S) (rf:Nat) (o2 o3 o4:Ob) (c f e:Int) (Y:Hp):WQ (b9 fx F) 0 (vA (vR (vL (vR (vR (vR (vR (vR (vR SE))))))))) [] (E7 src rf) (.box [.nils]::ZB::o2::o3::o4::DB c f e::Y) fun x1 _ e' H'=>x1= .ret/\∃ vs,jC e' H' [.cell 4 (some 1),.cell 5 (some 3)]=some vs/\br 0 (vs.map (toArg H'))=true/\oneOf (vs.map (toArg H'))= .tup [.d (qy []),.d (zk c f e)]:=by
  repeat' (first|refine run ⟨?_⟩|refine(Qe _ _).mpr ?_|refine ao (uQ _) ?_|fail)
  exact⟨_,rfl,rfl,rfl⟩
theorem Gt (X:zo fx) (src:S) (rf:Nat) (h1:src.length<=65536) (hc:(bF src).2.c=0) {K:Hp->Prop} {c f e:Int}
 (hrun:uY ⟨fun _=>[],fx⟩ K rf 3 (H7 (bF src).1 (bF src).2.c (bF src).2.f (bF src).2.e P0) c f e) (H:Hp):
 dw Tryz.prog ⟨fun _=>[],fx⟩ 13 [.d (.str src),.fn rf []] H (.tup [.d (qy []),.d (zk c f e)]) H:=by
 refine tL (N:=66) Tryz.func13 b20 kr r20 (by decide) kr (by show 2<=66;decide) rfl rfl (fun g w a ok=>?_) H;refine Wz X src rf h1 hc ok fun g1 a1 w1 ok1 E1=>?_;apply wp_seq;rw[Ww];apply wp_seq;have e0:Code.region (cId (cL (cL (cD c20 6)))) AM false=cL (cL (cD c20 6)):=kr;rw[e0];obtain⟨tt,fz,hty⟩:=X.ty;refine a5v (K:=fun g' H' x w'=>x= .iface 78 (.agg #[.int .i64 c,.int .i64 f,.int .i64 e])/\(∀ i,SR i->H'[i]? =(H7 (bF src).1 (bF src).2.c (bF src).2.f (bF src).2.e P0)[i]?)/\Ext 0 g [] w g' H' w') ok1 (fun cargs ra=>?_) (fun g' H' x w' p hK hI' hE' hp=>?_)
 ·refine(hrun.hidden (S:=SR) (fun i hi=>?_) (by unfold SR;omega) ok1.inv (X0 ok1.inv) ra rfl).mono ?_
  ·have:i < 6:=by unfold SR at hi;omega
   refine⟨this,fun sz l h=>?_⟩;unfold SR at hi;rcases hi with rfl|rfl|rfl|rfl<;>cases h
  ·rintro ev w2 ⟨g2,H2,rfl,i2,k2,E2⟩;exact⟨g2,H2,_,rfl,i2,E2,rfl,k2,E1.trans E2 (aR _)⟩
 ·obtain⟨rfl,hk,E2⟩:=hK;simp only[bW]at hp;obtain⟨_,b,cap,hJ,rfl⟩:=hp;have k0:=hk 0 (by unfold SR;omega);have k1:=hk 1 (by unfold SR;omega);have k5:=hk 5 (by unfold SR;omega);refine(Is hI' hty hJ (a:=0) (b:=0) (d:=0) k5 c f e).mono ?_;rintro ev w2 ⟨rfl,i2,E3⟩;rcases H' with _|⟨a0,_|⟨a1,_|⟨a2,_|⟨a3,_|⟨a4,_|⟨a5,Y⟩⟩⟩⟩⟩⟩
  all_goals first|(cases k5;done)|skip
  cases k0;cases k1;cases k5;refine⟨true,g',_,rfl,i2,E3.le (aR _),fun a2' ok2=>?_⟩;refine wp_cond (t:=true) (Ie ok2 (by decide) rfl) ?_;simp only[cU];have ok3:=ok2.forget [0,1,4,5,8,9];have E4:=E2.trans E3 (aR _);refine chunk (XL X) rW a4n kr ok3 (Zs src rf _ _ _ c f e Y) ?_;rintro x1 e' H' g4 a4' w4 ⟨rfl,vs,v1,v2,v3⟩ ok4 E5;exact⟨.inr rfl,g4,_,vs,ok4,E4.trans E5 (ai _),v1,v2,v3⟩
end
theorem t20:tr Tryz.prog V4 c20=some SE:=kr
section
variable {fx:Nat->Option Obj}
theorem Gs (X:zo fx) (src:S) (rf:Nat) {c f e:Int} (hc:c≠0) (h:(65536 < src.length/\c=2/\f=0/\e=0)\/(src.length<=65536/\c=(bF src).2.c/\f=(bF src).2.f/\e=(bF src).2.e)) (H:Hp):
 dw Tryz.prog ⟨fun _=>[],fx⟩ 13 [.d (.str src),.fn rf []] H (.tup [.d (qy []),.d (zk c f e)]) H:=by
 refine tL (N:=66) Tryz.func13 b20 kr r20 (by decide) kr (by show 2<=66;decide) rfl rfl (fun g w a ok=>?_) H;have ok:=ok.forget [0,1];rw[show dU [0,1] (cJ [.d (.str src),.fn rf []])=[(0,.d (.str src)),(1,.fn rf [])] from rfl]at ok;have hn:(!decide (c=0))=true:=by rw[ak hc];rfl
 refine chunk (XL X) rW t20 kr ok (R:=fun x1 e' H'=>x1= .ret/\∃ vs,jC e' H' [.cell 4 (some 1),.cell 5 (some 3)]=some vs/\br 0 (vs.map (toArg H'))=true/\oneOf (vs.map (toArg H'))= .tup [.d (qy []),.d (zk c f e)]) ?_ ?_
 ·rcases h with⟨h1,rfl,rfl,rfl⟩|⟨h1,rfl,rfl,rfl⟩
  ·have h':(65536:Int) < (src.length:Int):=om
   repeat' (first|refine run ⟨?_⟩|fail)
   exact⟨_,rfl,rfl,rfl⟩
  ·have h':¬ (65536:Int) < (src.length:Int):=om;have tk:=fun H=>Go.Vm.Lex.CS (fx:=fx) (F:=FL) H src (by unfold maxLen;omega)
   repeat' (first|refine run ⟨?_⟩|refine ca (tk _) ?_|refine ao (uQ _) ?_|fail)
   exact⟨_,rfl,rfl,rfl⟩
 ·rintro x1 e' H' g1 a1 w1 ⟨rfl,vs,v1,v2,v3⟩ ok1 E1;exact⟨.inr rfl,g1,_,vs,ok1,E1,v1,v2,v3⟩
end
end Go.Vm.Px
namespace Go.Vm.Pa
open Go.Vm.Lex (TokQ de)
open Go.Vm.Tp (ey vM gd fP dE bx lN params oE)
inductive Fo where
 |nil
 |cons (k:Int) (t:S) (v:Int) (f e:Int) (kids rest:Fo)
def Fo.sz:Fo->Nat
 | .nil=>0
 | .cons _ _ _ _ _ a b=>a.sz+1+b.sz
def Fo.idx (n:Nat):Fo->List D
 | .nil=>[]
 | .cons _ _ _ _ _ a b=> .int .i64 (n+a.sz:Nat)::b.idx (n+a.sz+1)
def Fo.lay (n:Nat):Fo->List D
 | .nil=>[]
 | .cons k t v f e a b=>a.lay n++N.D ⟨k,t,v,a.idx n⟩ f e::b.lay (n+a.sz+1)
def Fo.app:Fo->Fo->Fo
 | .nil,c=>c
 | .cons k t v f e a b,c=> .cons k t v f e a (b.app c)
theorem Fo.uX:∀ a:Fo,a.app .nil=a
 | .nil=>rfl
 | .cons _ _ _ _ _ _ b=>by simp only[Fo.app,Fo.uX b]
theorem Fo.xK:∀ a b c:Fo,(a.app b).app c=a.app (b.app c)
 | .nil,_,_=>rfl
 | .cons _ _ _ _ _ _ r,b,c=>by simp only[Fo.app,Fo.xK r b c]
theorem Fo.eF:∀ a b:Fo,(a.app b).sz=a.sz+b.sz
 | .nil,b=>by simp[Fo.app,Fo.sz]
 | .cons _ _ _ _ _ x r,b=>by simp only[Fo.app,Fo.sz,Fo.eF r b];omega
theorem Fo.iQ:∀ (a b:Fo) (n:Nat),(a.app b).idx n=a.idx n++b.idx (n+a.sz)
 | .nil,b,n=>by simp[Fo.app,Fo.idx,Fo.sz]
 | .cons _ _ _ _ _ x r,b,n=>by
   simp only[Fo.app,Fo.idx,Fo.sz,Fo.iQ r b,al];rw[show n+x.sz+1+r.sz=n+(x.sz+1+r.sz)by omega]
theorem Fo.uN:∀ (a b:Fo) (n:Nat),(a.app b).lay n=a.lay n++b.lay (n+a.sz)
 | .nil,b,n=>by simp[Fo.app,Fo.lay,Fo.sz]
 | .cons _ _ _ _ _ x r,b,n=>by
   simp only[Fo.app,Fo.lay,Fo.sz,Fo.uN r b,ag,al];rw[show n+x.sz+1+r.sz=n+(x.sz+1+r.sz)by omega]
theorem Fo.cH:∀ (a:Fo) (n:Nat),(a.lay n).length=a.sz
 | .nil,_=>rfl
 | .cons _ _ _ _ _ x r,n=>by simp only[Fo.lay,Fo.sz,ah,aw,Fo.cH x,Fo.cH r];omega
def Fo.wi (lo hi:Int):Fo->Prop
 | .nil=>True
 | .cons _ _ _ f e a b=>lo<=f/\f<=e/\e<=hi/\a.wi f e/\b.wi lo hi
theorem Fo.uh {lo hi lo' hi':Int} (h1:lo'<=lo) (h2:hi<=hi'):∀ {a:Fo},a.wi lo hi->a.wi lo' hi'
 | .nil,_=>trivial
 | .cons _ _ _ _ _ _ _,h=>⟨by have:=h.1;omega,h.2.1,by have:=h.2.2.1;omega,h.2.2.2.1,Fo.uh h1 h2 h.2.2.2.2⟩
theorem Fo.IV {lo hi:Int}:∀ {a b:Fo},a.wi lo hi->b.wi lo hi->(a.app b).wi lo hi
 | .nil,_,_,hb=>hb
 | .cons _ _ _ _ _ _ _,_,h,hb=>⟨h.1,h.2.1,h.2.2.1,h.2.2.2.1,Fo.IV h.2.2.2.2 hb⟩
def Fo.kl:Fo->List Int
 | .nil=>[]
 | .cons k _ _ _ _ _ b=>k::b.kl
theorem Fo.JV:∀ a b:Fo,(a.app b).kl=a.kl++b.kl
 | .nil,_=>rfl
 | .cons _ _ _ _ _ _ r,b=>by simp only[Fo.app,Fo.kl,Fo.JV r b,al]
theorem Fo.Bb:∀ (a:Fo) (n:Nat),(a.idx n).length=a.kl.length
 | .nil,_=>rfl
 | .cons _ _ _ _ _ x r,n=>by simp only[Fo.idx,Fo.kl,aw,Fo.Bb r]
theorem Fo.Rv:∀ a:Fo,a.kl.length<=a.sz
 | .nil=>ai _
 | .cons _ _ _ _ _ x r=>by have:=Fo.Rv r;simp only[Fo.sz,Fo.kl,aw];omega
structure Rn (k:Int) (t:S) (v:Int) (ks:List Int):Prop where
 kn:ey k=true
 nm:vM k t=true
 num:gd k v (params ks)=true
 iv:oE v
 fit:fP k v ks=true
def Fo.rt:Fo->Prop
 | .nil=>True
 | .cons k t v _ _ a b=>Rn k t v a.kl/\a.rt/\b.rt
theorem Fo.Jl:∀ {a b:Fo},a.rt->b.rt->(a.app b).rt
 | .nil,_,_,hb=>hb
 | .cons _ _ _ _ _ _ _,_,h,hb=>⟨h.1,h.2.1,Fo.Jl h.2.2 hb⟩
inductive QK where
 |one
 |upd (a:Int)
 |many (ks:K)
def eY:Q->QK
 | .params ks _| .fields _ ks| .items ks| .stmts ks| .arms ks| .args ks| .inits ks=> .many ks
 | .rows _ _ _ a| .gets _ a=> .upd a
 |_=> .one
def QK.Zg:QK->List D
 | .one=>[]
 | .upd a=>[.int .i64 a]
 | .many ks=>ks.l
def QK.fin (r:R):QK->List D
 | .many _=>r.ks.l
 |_=>[.int .i64 r.i]
def QK.wf (r:R):QK->Prop
 | .many _=>r.ks.l.length=r.ks.n
 |_=>True
def QK.gt0:QK->Bool
 | .upd _=>true
 |_=>false
def Hu:Q->Option Int
 | .typed fr| .let_ fr| .blocky fr| .patterned fr| .named fr _| .rows _ _ fr _| .gets fr _=>some fr
 |_=>none
def lq:Q->Bool->UInt8
 | .typ,_| .typed _,_=>116
 | .param,_=>113
 | .field,_=>102
 | .variant,_=>118
 | .function,_| .parts _,_| .item,_=>105
 | .stmt,b| .blocky _,b=>match b with|true=>101|false=>115
 | .let_ _,_=>115
 | .block,_=>98
 | .cond,_=>111
 | .arm,_=>97
 | .pattern,_| .patterned _,_=>112
 | .init,_=>110
 |_,_=>101
def All (c:UInt8) (l:List Int):Prop:=∀ k∈l,dE c k=true
def pq:Q->List Int->Prop
 | .params _ v,l=>v=(l.length:Int)/\All 113 l
 | .fields k _,l=>All (if k=3 then 102 else 118) l
 | .items _,l=>All 105 l
 | .stmts _,l=>All 115 l
 | .arms _,l=> ∃ k a,l=k::a/\dE 101 k=true/\All 97 a
 | .args _,l=>All 101 l
 | .inits _,l=>All 110 l
 | .rows _ _ _ _,l| .gets _ _,l=> ∃ k,l=[k]/\dE 101 k=true
 |_,l=>l=[]
def po (q:Q) (r:R) (l:List Int):Prop:=match eY q with
 | .many _=>(match q with
   | .params _ _=>r.v=(l.length:Int)/\All 113 l
   | .stmts _=>(r.v=0/\All 115 l)\/(r.v=1/\∃ a k,l=a++[k]/\All 115 a/\dE 101 k=true)
   |q=>pq q l)
 |_=> ∃ k,l=[k]/\dE (lq q r.b) k=true
def On (P:List Int->Prop) (c:UInt8) (l:List Int):Prop:=∃ a k,l=a++[k]/\P a/\dE c k=true
def Cz (e:Bool):Q->Prop
 | .parts k=>e=true/\(k=3\/k=4)
 | .fields k _=>k=3\/k=4
 | .row r _=>0<=r/\r<=5
 | .rows r _ _ _=>0<=r/\r<=4
 |_=>True
def Jm:Q->Nat
 | .typ| .pattern| .branch| .item| .params _ _| .fields _ _| .inits _=>1
 | .primary _| .blocky _| .arm| .items _=>2
 | .postfix_ _| .arms _=>3
 | .prefix_ _=>4
 | .operand _=>5
 | .row r _=>5+(5 - r).toNat
 | .expr _=>11
 | .stmt| .args _=>12
 | .stmts _=>13
 |_=>0
def gQ (q:Q):Int:=match eY q with
 | .one=>(match q with| .stmt| .blocky _=> -12|_=> -13)
 |_=>0
def KW (k:K):Prop:=k.l.length=k.n/\k.n<=990000
def Ty (q0:Q) (base:Int):Bool->Bool->Bool->Int->List D->(List Int->Prop)->Pr->Prop
 |_,_,_,m,L,P,.ret r=>m<=gQ q0/\(eY q0).fin r=L/\(eY q0).wf r/\∀ l,l.length=L.length->P l->po q0 r l
 |_,_,_,_,_,_,.dead=>False
 |_,_,_,_,_,_,.fail _=>True
 |c,b,e,m,L,P,.take _ k=>Ty q0 base false true false (m - 15) L P (k true)/\Ty q0 base c b e m L P (k false)
 |c,b,e,m,L,P,.is _ k=>Ty q0 base c b true m L P (k true)/\Ty q0 base c b e m L P (k false)
 |c,b,e,m,L,P,.kind x k=>Ty q0 base c b (e|| !decide (x=5)) m L P (k true)/\Ty q0 base c b e m L P (k false)
 |c,b,e,m,L,P,.text _ k=> ∀ x,Ty q0 base c b e m L P (k x)
 |c,b,e,m,L,P,.ok k|c,b,e,m,L,P,.into _ k=>Ty q0 base c b e m L P (k true)
 |c,b,e,m,L,P,.down k=>Ty q0 base c b e m L P k
 |_,_,_,m,L,P,.need _ k=>Ty q0 base false true false (m - 15) L P k
 |_,_,e,m,L,P,.dI k=>e=true/\Ty q0 base false true false (m - 15) L P k
 |_,_,_,m,L,P,.name k=> ∀ t,de t=true->Ty q0 base false true false (m - 15) L P (k t)
 |c,b,e,m,L,P,.sign _ k=> ∀ t,(t=[]\/vM 38 t=true)->Ty q0 base c b (e|| !decide (t=[])) m L P (k t)
 |c,b,e,m,L,P,.val k=> ∀ i,0<=i->i<=9223372036854775807->Ty q0 base c b e m L P (k i)
 |c,b,e,m,L,P,.pos k=>c=true/\Ty q0 base c b e m L P (k base)
 |_,b,e,m,L,P,.unit k=>(b||(eY q0).gt0)=true/\m<=0/\∀ i,Ty q0 base false b e (m+1) (L++[.int .i64 i]) (On P 116) (k i)
 |_,b,e,m,L,P,.node fr n k=>(b||(eY q0).gt0)=true/\m<=0/\fr=base/\n.ks=L/\(∀ l,l.length=L.length->P l->Rn n.k n.t n.v l)/\∀ i,Ty q0 base false b e (m+1) [.int .i64 i] (fun l=>l=[n.k]) (k i)
 |c,b,e,m,L,P,.call q k=>(b=true\/Jm q < Jm q0)/\m<=0/\Cz e q/\match eY q with
  | .one=>(∀ fr,Hu q=some fr->c=true/\fr=base)/\∀ r,Ty q0 base false (b||eats q) false (m+gQ q) (L++[.int .i64 r.i]) (On P (lq q r.b)) (k r)
  | .upd a=>(b||(eY q0).gt0)=true/\Hu q=some base/\L=[.int .i64 a]/\(∀ l,l.length=L.length->P l->pq q l)/\∀ r,Ty q0 base false b false (m+gQ q) [.int .i64 r.i] (po q r) (k r)
  | .many ks=>L=ks.l/\ks.l.length=ks.n/\(∀ l,l.length=L.length->P l->pq q l)/\∀ r,KW r.ks->Ty q0 base false (b||eats q) false (m+gQ q) r.ks.l (po q r) (k r)
 |_,b,e,m,L,P,.tail q=>(b=true\/Jm q < Jm q0)/\m<=0/\Cz e q/\m+gQ q<=gQ q0/\(∀ r,(eY q).fin r=(eY q0).fin r/\((eY q).wf r->(eY q0).wf r))/\(∀ r l,po q r l->po q0 r l)/\(∀ l,l.length=L.length->P l->pq q l)/\match eY q with
  | .one=>False
  | .upd a=>(b||(eY q0).gt0)=true/\Hu q=some base/\L=[.int .i64 a]
  | .many ks=>L=ks.l/\ks.l.length=ks.n
theorem O9 {q0:Q} {base m:Int} {c d e:Bool} {L:List D} {P:List Int->Prop} {b:Bool} {p:Pr} (hb:b=true) (h:Ty q0 base c d e m L P p):Ty q0 base c d e m L P (guard b p):=by subst hb;exact h
end Go.Vm.Pa
namespace Go.Vm.Pa
open Go.Vm.Lex (TokQ de)
open Go.Vm.Tp (ey vM gd fP dE bx lN params oE nR qm pf rV)
section
variable {P:List Int->Prop} {c d:UInt8} {l:List Int} {C:List Int->Prop} {t:S}
theorem a6t (h:∀ a,P a->∀ k,dE c k=true->C (a++[k])):∀ l,On P c l->C l:=by
 rintro _ ⟨a,k,rfl,h1,h2⟩;exact h a h1 k h2
theorem JI (h0:∀ a,P a->a=[]) (h:On P c l) (hw:∀ k,dE c k=true->dE d k=true):∃ k,l=[k]/\dE d k=true:=by
 obtain⟨a,k,rfl,h1,h2⟩:=h;exact⟨k,by rw[h0 a h1];rfl,hw k h2⟩
theorem yH (h:On (All c) c l):All c l:=by
 obtain⟨a,k,rfl,h1,h2⟩:=h;intro x hx;rcases cd.1 hx with hx|hx
 ·exact h1 x hx
 ·rw[cW.1 hx];exact h2
theorem a7d {k:Int} (h:dE 98 k=true):dE 101 k=true:=by obtain rfl:k=20:=af h;rfl
theorem no98 {k:Int} (h:dE 98 k=true):dE 111 k=true:=by obtain rfl:k=20:=af h;rfl
theorem a7e {k:Int} (h:dE 111 k=true):dE 101 k=true:=by
 rcases(af h:k=20\/k=45)with rfl|rfl<;>rfl
theorem xj {k v:Int} {a b:List UInt8} (hs:lN k v=(a,some c,b)) {x y z:List Int} (hx:bx a x=true) (hy:All c y) (hz:bx b z=true) (ha:x.length=a.length) (hb:z.length=b.length):fP k v (x++(y++z))=true:=by
 have e1:(x++(y++z)).length - b.length=(x++y).length:=by simp only[ah];omega
 unfold fP;rw[hs];simp only[ab,an];refine⟨by simp only[ah];omega,⟨?_,?_⟩,?_⟩
 ·rw[<-ha,List.take_left'];exact hx;rfl
 ·rw[e1,<-ag,List.take_left' rfl,<-ha,List.drop_left' rfl];exact aC.2 hy
 ·rw[e1,<-ag,List.drop_left' rfl];exact hz
theorem xl {k v:Int} (hs:lN k v=([],some c,[])) (h:All c l):fP k v l=true:=by
 have:=xj hs (x:=[]) (z:=[]) rfl h rfl rfl rfl;rwa [aq,bC]at this
theorem i0:oE 0:=by unfold oE;omega
theorem i1:oE 1:=by unfold oE;omega
theorem Qk:∀ {l:List Int},All 113 l->params l=l.length
 |[],_=>rfl
 |k::r,h=>by
  obtain rfl:k=7:=af (h k (bL ..));have:=Qk (l:=r) fun x hx=>h x (bI _ hx);simp only[params,List.filter_cons,iK,cU,aw]at this⊢;omega
theorem a5p {p:R} {l:List Int} {x y:D} (hn:de t=true) (hw:KW p.ks) (hlen:l.length=(p.ks.l++[x]++[y]).length) (h:On (On (po (.params K.o 0) p) 116) 98 l):Rn 2 t p.v l:=by
 obtain⟨_,k2,rfl,⟨a,k1,rfl,⟨hv,ha⟩,h1⟩,h2⟩:=h;have h1':nR k1=true:=h1;simp only[nR,ab,an]at h1';obtain rfl:k2=20:=af h2;have hk:=hw.2;have hk1:=hw.1;simp only[ah,aw,aH]at hlen;have e:params (a++[k1]++[20])=a.length:=by
  have:=Qk ha;have h3:decide (k1=7)=false:=ak (by have:=h1'.1;omega);simp only[params,List.filter_append,ah,List.filter_cons,h3]at this⊢;simpa using this
 refine⟨rfl,hn,?_,by unfold oE;omega,?_⟩
 ·rw[e];exact au hv
 ·rw[ag];exact xj (x:=[]) (k:=2) (c:=113) (a:=[]) (b:=[116,98]) rfl rfl ha (by show(dE 116 k1 && _)=true;rw[h1];rfl) rfl rfl
theorem Nc {k:Int} {p:R} (hk:k=3\/k=4) (hn:de t=true) (h:po (.fields k K.o) p l):Rn k t 0 l:=by
 rcases hk with rfl|rfl<;>exact⟨rfl,hn,rfl,i0,xl rfl h⟩
theorem P9 {p:R} (h:po (.stmts K.o) p l):Rn 20 [] p.v l:=by
 rcases h with⟨h,ha⟩|⟨h,a,k,rfl,ha,hk⟩<;>rw[h]
 ·exact⟨rfl,rfl,rfl,i0,xl rfl ha⟩
 ·exact⟨rfl,rfl,rfl,i1,xj (x:=[]) (k:=20) (v:=1) (c:=115) (a:=[]) (b:=[101]) rfl rfl ha (by show(dE 101 k && _)=true;rw[hk];rfl) rfl rfl⟩
theorem T9 {p:R} {ks:K} (h:po (.arms ks) p l):Rn 46 [] 0 l:=by
 obtain⟨k,a,rfl,hk,ha⟩:=h;have:=xj (x:=[k]) (z:=[]) (k:=46) (v:=0) (c:=97) (a:=[101]) (b:=[]) rfl (by show(dE 101 k && _)=true;rw[hk];rfl) ha rfl rfl rfl;rw[bC]at this;exact⟨rfl,rfl,rfl,i0,this⟩
theorem Ua {p:R} (hn:de t=true) (h:po (.args K.o) p l):Rn 34 t 0 l:=⟨rfl,hn,rfl,i0,xl rfl h⟩
theorem P8 {p:R} (hn:de t=true) (h:po (.inits K.o) p l):Rn 35 t 0 l:=⟨rfl,hn,rfl,i0,xl rfl h⟩
theorem U4 {ks:K} {v i:Int} (hw:KW ks) (hlen:l.length=(ks.l++[D.int .i64 i]).length) (h:On (pq (.params ks v)) 113 l):w (v+1)=(l.length:Int)/\All 113 l:=by
 have h':=h;obtain⟨a,k,rfl,⟨h1,h2⟩,h3⟩:=h;have:=hw.1;have:=hw.2;simp only[ah,aw,aH]at hlen⊢;exact⟨by rw[h1];exact(eK om).trans om,yH ⟨a,k,rfl,h2,h3⟩⟩
theorem Ow {ks ks':K} (h:On (pq (.arms ks)) 97 l):pq (.arms ks') l:=by
 obtain⟨_,k,rfl,⟨k0,a,rfl,h1,h2⟩,h3⟩:=h;exact⟨k0,a++[k],rfl,h1,yH ⟨a,k,rfl,h2,h3⟩⟩
theorem KH {ks':K} (h:On (fun l=>l=[]) 101 l):pq (.arms ks') l:=by
  obtain⟨_,k,rfl,rfl,h1⟩:=h;exact⟨k,[],rfl,h1,fun x hx=>by cases hx⟩
theorem LH (h:l=[]):All c l:=by subst h;exact fun x hx=>by cases hx
theorem FP {ks:K} {i:Int} (h:ks.l.length=ks.n):(push ks i).l.length=(push ks i).n:=by simp only[push,ah,h];rfl
theorem ok_k {ks:K} (h:KW ks):jM ks=true:=by
 unfold jM;have:=h.2;simp only[h.1,iK,eE,an];omega
theorem ok_p {ks:K} {i:Int} (h:KW ks):jM (push ks i)=true:=by
 unfold jM;have:=h.2;have:=FP (i:=i) h.1;simp only[this,iK,eE,an];simp only[push];omega
theorem a6u {ks:K} {i j:Int} (h:KW ks):jM (push (push ks i) j)=true:=by
 unfold jM;have:=h.2;have:=FP (i:=j) (FP (i:=i) h.1);simp only[this,iK,eE,an];simp only[push];omega
end
theorem rn0 {k v:Int} {t:S} (kn:ey k=true) (nm:vM k t=true) (num:gd k v 0=true) (iv:oE v) (fit:fP k v []=true) {l:List Int} (h:l=[]):Rn k t v l:=by subst h;exact⟨kn,nm,num,iv,fit⟩
theorem rn38 {r:Int} {bare:Bool} {fr a:Int} {t:S} {l:List Int} (ht:t=[]\/vM 38 t=true) (hn:(!decide (t=[]))=true) (h:On (pq (.rows r bare fr a)) 101 l):Rn 38 t 0 l:=by
 obtain⟨_,k,rfl,⟨k0,rfl,h1⟩,h2⟩:=h;refine⟨rfl,ht.resolve_left (by simpa using hn),rfl,i0,?_⟩;show(dE 101 k0 && (dE 101 k && _))=true;rw[h1,h2];rfl
theorem rn41 {fr a:Int} {t:S} {l:List Int} (ht:de t=true) (h:pq (.gets fr a) l):Rn 41 t 0 l:=by
 obtain⟨k,rfl,h1⟩:=h;refine⟨rfl,ht,rfl,i0,?_⟩;show(dE 101 k && _)=true;rw[h1];rfl
theorem T3 {ks:K} {l:List Int} {b:Bool} (hb:b=true) (h:On (pq (.stmts ks)) (lq .stmt b) l) (p:R:=⟨0,true,K.o,1⟩) (hp:p.v=1:=by rfl):po (.stmts K.o) p l:=by
  subst hb;obtain⟨a,k,rfl,h1,h2⟩:=h;exact .inr ⟨hp,a,k,rfl,h1,h2⟩
theorem TY {ks:K} {l:List Int} {b:Bool} (hb:b=false) (h:On (pq (.stmts ks)) (lq .stmt b) l):All 115 l:=by subst hb;exact yH h
theorem Gm {r:Int} {bare:Bool} (h0:0<=r) (h5:r<=5) (hr:decide (r=5)=false):Jm (.row (w (r+1)) bare) < Jm (.row r bare)/\Cz false (.row (w (r+1)) bare):=by
 have:=bw hr;have e:w (r+1)=r+1:=eK om;rw[e];refine⟨?_,by show 0<=r+1;omega,by show r+1<=5;omega⟩;show 5+(5 - (r+1)).toNat < 5+(5 - r).toNat;omega
theorem Nb {r:Int} {e bare:Bool} (h0:0<=r) (h5:r<=4):Cz e (.row (w (r+1)) bare):=by
 have e:w (r+1)=r+1:=eK om;rw[e];exact⟨by show 0<=r+1;omega,by show r+1<=5;omega⟩
theorem X9 {r fr i:Int} {e bare:Bool} (h0:0<=r) (h5:r<=5) (hr:decide (r=5)=false):Cz e (.rows r bare fr i):=by
 have:=bw hr;exact⟨h0,om⟩
theorem P7 {r:Int} {bare:Bool}:Jm (.prefix_ bare) < Jm (.row r bare):=by show 4 < 5+_;omega
theorem a5m {r:Int} {e bare:Bool} (h0:0<=r) (h5:r<=5) (hr:decide (r=5)=false):Cz e (.row (w (r+1)) bare):=(Gm (bare:=bare) h0 h5 hr).2
theorem fl_t {k:Int} {ks:K} {l:List Int} (hk:decide (k=3)=true) (h:On (pq (.fields k ks)) 102 l):All (if k=3 then 102 else 118) l:=by
 obtain rfl:=af hk;exact yH h
theorem fl_f {k:Int} {ks:K} {l:List Int} (hk:decide (k=3)=false) (h:On (pq (.fields k ks)) 118 l):All (if k=3 then 102 else 118) l:=by
 obtain⟨a,x,rfl,h1,h2⟩:=h;have h1:All (if k=3 then 102 else 118) a:=h1;rw[aA (bw hk)]at h1⊢;exact yH ⟨a,x,rfl,h1,h2⟩
theorem l105 {k:Int} (h:k=3\/k=4):dE 105 k=true:=by rcases h with rfl|rfl<;>rfl
theorem rn30 {i:Int} {l:List Int} (h0:0<=i) (h1:i<=9223372036854775807) (h:l=[]):Rn 30 [] i l:=by subst h;exact⟨rfl,rfl,au h0,⟨om,h1⟩,rfl⟩
theorem rn52 {i:Int} {l:List Int} (h0:0<=i) (h1:i<=9223372036854775807) (h:l=[]):Rn 52 [] i l:=by subst h;exact⟨rfl,rfl,au om,⟨om,h1⟩,rfl⟩
theorem a5r {i:Int} {l:List Int} (h0:0<=i) (h1:i<=9223372036854775807) (h:l=[]):Rn 52 [] (w (0 - i)) l:=by
 have e:w (0 - i)=0 - i:=eK om;subst h;rw[e];exact⟨rfl,rfl,au om,⟨om,om⟩,rfl⟩
theorem RJ:∀ (t u:S),(∀ c∈t,c≠58)->Lib.index (t++[58,58]++u) [58,58]=t.length
 |[],u,_=>by simp[Lib.index]
 |c::r,u,h=>by
  have h1:=RJ r u fun x hx=>h x (bI _ hx);have h2:((58:UInt8)==c)=false:=by simpa using(h c (bL ..)).symm
  show(if List.isPrefixOf [58,58] (c::(r++[58,58]++u)) then 0 else if Lib.index (r++[58,58]++u) [58,58]== -1 then -1 else Lib.index (r++[58,58]++u) [58,58]+1)=_;rw[h1,aA (by simp[List.isPrefixOf,h2]),aA (by simp)];rfl
theorem LG {t u:S} (ht:de t=true) (hu:de u=true):((Go.Vm.Tp.fV (t++[58,58]++u)).2.2 && de (Go.Vm.Tp.fV (t++[58,58]++u)).1 && de (Go.Vm.Tp.fV (t++[58,58]++u)).2.1)=true:=by
 have hn:∀ c∈t,c≠58:=by
  rintro c hc rfl;unfold de Lex.qg at ht;simp only[ab,aC]at ht;exact absurd (ht.1.1.2 _ hc) (by decide)
 have h:=RJ t u hn;have e:Go.Vm.Tp.fV (t++[58,58]++u)=(t,u,true):=by
  unfold Go.Vm.Tp.fV Lib.cut;rw[h,ay om,b8,ag,List.take_left' rfl,<-ag,List.drop_left' (by simp)]
 rw[e];simp only[ht,hu];rfl
theorem a5s {t u:S} {l:List Int} {P:List Int->Prop} (hP:∀ a,P a->a=[]) (ht:de t=true) (hu:de u=true) (h:l=[]\/On P 101 l):Rn 37 (t++[58,58]++u) 0 l:=by
 refine⟨rfl,LG ht hu,rfl,i0,?_⟩;rcases h with rfl|⟨a,k,rfl,h1,h2⟩
 ·rfl
 ·rw[hP a h1];show(_ && _||_)=true;rw[h2];rfl
theorem a5q {t u:S} {l:List Int} {P:List Int->Prop} (hP:∀ a,P a->a=[]) (ht:de t=true) (hu:de u=true) (h:l=[]\/On P 112 l):Rn 54 (t++[58,58]++u) 0 l:=by
 refine⟨rfl,LG ht hu,rfl,i0,?_⟩;rcases h with rfl|⟨a,k,rfl,h1,h2⟩
 ·rfl
 ·rw[hP a h1];show(_ && _||_)=true;rw[h2];rfl
theorem a4g {q0:Q} {base m:Int} {c d e:Bool} {L:List D} {P:List Int->Prop} {b:Bool} {p:Pr} (h:Ty q0 base c d e m L P p) (hb:b=true:=by first|exact ok_k (by assumption)|exact ok_p (by assumption)|exact a6u (by assumption)):Ty q0 base c d e m L P (guard b p):=O9 hb h
def QK.Iq:QK->Bool
 | .one=>true
 |_=>false
theorem TN (q:Q) (base:Int) (h:∀ fr,Hu q=some fr->fr=base) (e:Bool) (ha:Cz e q) (hk:∀ ks,eY q= .many ks->KW ks):Ty q base (eY q).Iq false e 0 (eY q).Zg (pq q) (prog q):=by
 cases q
 all_goals(
   first|(have h:=h _ rfl;subst h)|clear h
   first|(have hk:=hk _ rfl)|clear hk
   first|(obtain⟨ha1,ha2⟩:_/\_:=ha)|skip
   simp only[prog,xD,QP,newP,Lo,rowP,kN,endP,Ty,eY,QK.Zg,QK.Iq,aq]
   repeat' (first
     |exact a5m ha1 ha2 (by assumption)|exact Nb ha1 ha2|exact X9 ha1 ha2 (by assumption)|exact .inr (Gm ha1 ha2 (by assumption)).1|exact .inr P7
     |refine ao ?_ ?_|trivial|rfl|exact af rfl|exact .inr (af rfl)|exact .inl trivial|assumption|exact hk.1|exact FP hk.1|(refine a4g ?_;try simp only[Ty,eY,QK.Zg])
     |exact fun l _ h=>h|exact fun l _ h=> .inl ⟨rfl,h⟩|exact fun l _ h=>⟨_,h,rfl⟩|exact fun l _ h=>JI (fun a h=>h) h (fun k h=>h)|exact fun l _ h=>JI (fun a h=>h) h (fun k h=>a7d h)|exact fun l _ h=>JI (fun a h=>h) h (fun k h=>a7e h)
     |exact ha1|exact ha2|exact ha|(simp[*];done)|exact fun l _ h=>fl_t (by assumption) h|exact fun l _ h=>fl_f (by assumption) h|exact fun l _ h=>⟨_,h,l105 ha2⟩|exact fun l _ h=>rn30 (by assumption) (by assumption) h|exact fun l _ h=>rn52 (by assumption) (by assumption) h|exact fun l _ h=>a5r (by assumption) (by assumption) h
     |exact fun l _ h=>a5s (fun a h=>h) (by assumption) (by assumption) (.inl h)|exact fun l _ h=>a5s (fun a h=>h) (by assumption) (by assumption) (.inr h)|exact fun l _ h=>a5q (fun a h=>h) (by assumption) (by assumption) (.inl h)|exact fun l _ h=>a5q (fun a h=>h) (by assumption) (by assumption) (.inr h)
     |exact fun l _ h=>yH h|exact fun l _ h=>T3 (by assumption) h|exact fun l _ h=>TY (by assumption) h|exact fun l q h=>U4 hk q h|exact fun l _ h=>LH h|exact fun l _ h=>⟨by subst h;rfl,LH h⟩|exact fun l _ h=>KH h|exact fun l _ h=>Ow h
     |exact fun l _ h=>rn0 rfl rfl rfl i0 rfl h|exact fun l _ h=>rn0 rfl rfl rfl i1 rfl h|exact fun l _ h=>rn0 rfl (by assumption) rfl i0 rfl h
     |exact fun l q h=>a5p (by assumption) (by assumption) q h|exact fun l _ h=>Nc ha2 (by assumption) h|exact fun l _ h=>P9 h|exact fun l _ h=>T9 h|exact fun l _ h=>Ua (by assumption) h|exact fun l _ h=>P8 (by assumption) h
     |exact fun l _ h=>rn38 (by assumption) (by assumption) h|exact fun l _ h=>rn41 (by assumption) h
     |(intro l hl;clear hl;revert l;refine a6t ?_;(repeat refine a6t ?_);intro a h;obtain rfl:a=[]:=h;intros;refine⟨rfl,?_,rfl,?_,?_⟩<;>first|rfl|assumption|exact i0|exact i1|(simp_all[fP,lN,bx,lq,a7d,no98];done))
     |(intro fr hf;cases hf<;>exact⟨trivial,rfl⟩)|(split<;>simp only[Ty,eY,QK.Zg])|(intro (_:Bool))|intro _|fail))
structure OL (l:List TokQ):Prop where
 fe:∀ i,i < l.length->(l.getD i default).f<=(l.getD i default).e
 ef:∀ i,i+1 < l.length->(l.getD i default).e<=(l.getD (i+1) default).f
def R6 (l:List TokQ) (i:Int):Int:=((l.getD i.toNat default).f:Int)
def Mn (l:List TokQ) (i:Int):Int:=((l.getD (i - 1).toNat default).e:Int)
section
variable {l:List TokQ}
theorem WB (h:OL l):∀ (k i:Nat),i+k < l.length->(l.getD i default).f<=(l.getD (i+k) default).f
 |0,_,_=>ai _
 |k+1,i,hk=>by
  have h1:=WB h k i om;have h2:=h.fe (i+k) om;have h3:=h.ef (i+k) om;rw[<-eM];omega
theorem WC (h:OL l):∀ (k i:Nat),i+k < l.length->(l.getD i default).e<=(l.getD (i+k) default).e
 |0,_,_=>ai _
 |k+1,i,hk=>by
  have h1:=WC h k i om;have h2:=h.ef (i+k) om;have h3:=h.fe (i+k+1) om;rw[<-eM];omega
theorem HJ (h:OL l) {a b:Int} (h0:0<=a) (hab:a<=b) (hb:b < l.length):R6 l a<=R6 l b:=by
 have:=WB h (b.toNat - a.toNat) a.toNat om;rw[show a.toNat+(b.toNat - a.toNat)=b.toNat by omega]at this;unfold R6;omega
theorem xw (h:OL l) {a b:Int} (hab:a<=b) (hb:b<=l.length) (h1:0 < l.length):Mn l a<=Mn l b:=by
 have:=WC h ((b - 1).toNat - (a - 1).toNat) (a - 1).toNat om;rw[show(a - 1).toNat+((b - 1).toNat - (a - 1).toNat)=(b - 1).toNat by omega]at this;unfold Mn;omega
theorem WU (h:OL l) {a b:Int} (h0:0<=a) (hab:a < b) (hb:b<=l.length):R6 l a<=Mn l b:=by
 have h1:=HJ h (a:=a) (b:=b - 1) h0 om om;have h2:=h.fe (b - 1).toNat om;unfold R6 at h1;unfold R6 Mn;omega
structure Tk (l:List TokQ):Prop where
 len:l.length<=65537
 nm:∀ i,(l.getD i default).k=1->de (l.getD i default).t=true
 val:∀ i,0<=(l.getD i default).v/\(l.getD i default).v<=9223372036854775807
def Sk (l:List TokQ) (Z:Fo) (base:Int) (L:List D) (P:List Int->Prop) (s:PS):Prop:=∃ W:Fo,s.ns=(Z.app W).lay 0/\s.n=(Z.app W).sz/\W.idx Z.sz=L/\W.wi (R6 l base) (Mn l s.at_)/\P W.kl/\W.rt
variable {Z:Fo} {base Iq F m:Int} {L:List D} {P:List Int->Prop} {s s1:PS} {q0:Q} {c b e:Bool} {n:Nat}
theorem Sk.move (hp:OL l) (h:Sk l Z base L P s) (h1:s1.ns=s.ns) (h2:s1.n=s.n) (h3:s.at_<=s1.at_) (h4:s1.at_<=l.length) (h5:0 < l.length):Sk l Z base L P s1:=by
 obtain⟨W,e1,e2,e3,e4,e5⟩:=h;exact⟨W,h1.trans e1,h2.trans e2,e3,Fo.uh (cI _) (xw hp h3 h4 h5) e4,e5⟩
theorem Sk.behind {fr:Int} {i:Int} {d:UInt8} {W:Fo} (hp:OL l) (e3:W.idx Z.sz=L) (e4:W.wi (R6 l fr) (Mn l s.at_)) (e5:P W.kl) (e6:W.rt) (h0:0<=fr) (hb:fr<=base) (hbl:base < l.length) (hle:s.at_<=s1.at_) (hs1:s1.at_<=l.length)
 (hc:Sk l (Z.app W) base [.int .i64 i] (fun l=> ∃ k,l=[k]/\Go.Vm.Tp.dE d k=true) s1):Sk l Z fr (L++[.int .i64 i]) (On P d) s1:=by
 obtain⟨W1,f1,f2,f3,f4,⟨k,f5,f6⟩,f7⟩:=hc;rw[Fo.xK]at f1 f2;refine⟨W.app W1,f1,f2,?_,Fo.IV (Fo.uh (cI _) (xw hp hle hs1 om) e4) (Fo.uh (HJ hp h0 hb hbl) (cI _) f4),⟨_,k,by rw[Fo.JV,f5],e5,f6⟩,Fo.Jl e6 f7⟩;rw[Fo.iQ,e3];rw[Fo.eF]at f3;rw[f3]
theorem Yv {q:Q} {r:R} (h:eY q= .one):po q r=fun l=> ∃ k,l=[k]/\Go.Vm.Tp.dE (lq q r.b) k=true:=by unfold po;rw[h]
theorem Yu:∀ {q:Q},eY q= .one->pq q []:=fun{q} h=>by cases q<;>first|rfl|cases h
theorem a7z (q:Q):gQ q<=0:=by unfold gQ;(repeat' split)<;>decide
theorem a5t:∀ (q:Q) (e:Bool),Cz e q->Jm q<=63:=fun q e h=>by
  cases q<;>first|exact af rfl|(have h:=h.1;simp only[Jm];omega)
structure Dy (l:List TokQ) (n:Nat) (q0:Q) (base Iq F:Int) (c b e:Bool) (m:Int) (L:List D) (P:List Int->Prop) (Z:Fo) (s:PS):Prop where
 b0:0<=base
 ba:base<=Iq
 le:Iq<=s.at_
 c:c=true->s.at_=base
 b:b=true->Iq < s.at_
 g:(eY q0).gt0=true->base < Iq
 e:e=true->(now l s).k≠5
 m:(s.n:Int)+15* ((l.length:Int) - s.at_)<=F+m
 F:F<=990000
 n:64* ((l.length:Int) - Iq)+Jm q0<=n
 ok:fb l s=true
 sk:Sk l Z base L P s
def V3 (l:List TokQ) (q:Q) (base F:Int) (Z:Fo) (o:Option EX):Prop:=∃ x,o=some x/\∀ r s1,x= .ok r s1->Sk l Z base ((eY q).fin r) (po q r) s1/\(eY q).wf r/\(s1.n:Int)+15* ((l.length:Int) - s1.at_)<=F+gQ q
theorem A7 {k:Int}:V3 l q0 base F Z (BM l k s):=⟨_,rfl,fun r s1 h=>by cases h⟩
section
variable (hl:vj l) (hp:OL l) (d:Dy l n q0 base Iq F c b e m L P Z s)
include hl hp d
theorem Dy.dI (h5:(now l s).k≠5):Dy l n q0 base Iq F false true false (m - 15) L P Z (Pa.dI s)/\fb l (Pa.dI s)=true:=by
 have h1:=jZ hl d.ok h5;have h2:=KI hl d.ok;have h3:=sw h1;have h4:=d.le;have h5:=d.m;have h6:(Pa.dI s).n=s.n:=rfl;exact⟨⟨d.b0,d.ba,om,by simp,fun _=>om,d.g,by simp,om,d.F,d.n,h1,d.sk.move hp rfl rfl om om om⟩,h1⟩
omit hl hp
theorem Dy.lt (h:(b||(eY q0).gt0)=true):base < s.at_:=by
 have h1:=d.ba;have h2:=d.le;rcases eb.1 h with h|h
 ·have:=d.b h;omega
 ·have:=d.g h;omega
theorem Dy.fuel {q:Q} (h:b=true\/Jm q < Jm q0) (ha:Cz e q):64* ((l.length:Int) - s.at_)+Jm q < n:=by
 have h1:=d.le;have h2:=d.n;have h3:=a5t q e ha;rcases h with h|h
 ·have:=d.b h;omega
 ·omega
theorem Dy.nn (hm:m<=0):s.n<=990000:=by
 have h1:=d.m;have h2:=d.F;have h3:=sw d.ok;omega
end
theorem Sk.kw {ks:K} (h:Sk l Z base ks.l P s) (hn:s.n<=990000) (hk:ks.l.length=ks.n):KW ks:=by
 obtain⟨W,e1,e2,e3,_⟩:=h;refine⟨hk,?_⟩;have:=Fo.Rv W;rw[<-hk,<-e3,Fo.Bb];rw[e2,Fo.eF]at hn;omega
theorem Sk.imp {P':List Int->Prop} (h:Sk l Z base L P s) (hi:∀ l,l.length=L.length->P l->P' l):Sk l Z base L P' s:=by
 obtain⟨W,e1,e2,e3,e4,e5,e6⟩:=h;exact⟨W,e1,e2,e3,e4,hi _ (by rw[<-e3,Fo.Bb]) e5,e6⟩
section
variable (hl:vj l) (hp:OL l) (d:Dy l n q0 base Iq F c b e m L P Z s)
include hl hp d
theorem Dy.node {x:N} (hb:(b||(eY q0).gt0)=true) (hm:m<=0) (hn:x.ks=L) (hr:∀ l,l.length=L.length->P l->Rn x.k x.t x.v l):∃ i s1,fA l base x s=some (i,s1)/\Dy l n q0 base Iq F false b e (m+1) [.int .i64 i] (fun l=>l=[x.k]) Z s1:=by
  have hlt:=d.lt hb;have hq:=sw d.ok;have h0:=d.b0;have hlen:=hl.len;have hnn:=d.nn hm;have hm1:=d.m;obtain⟨W,e1,e2,e3,e4,e5,e6⟩:=d.sk;have hw:w (s.at_ - 1)=s.at_ - 1:=eK om;have hi:w (((s.n+1:Nat):Int) - 1)=s.n:=(eK om).trans om;have cc:s.ns.length=s.n/\s.n < 1000000/\okF l base/\(base < s.at_->okF l (w (s.at_ - 1))):=⟨by rw[e1,e2,Fo.cH],om,by unfold okF;simp;omega,fun _=>by unfold okF;rw[hw];simp;omega⟩;unfold fA;rw[ay cc];refine⟨_,_,rfl,d.b0,d.ba,d.le,by simp,d.b,d.g,d.e,?_,d.F,d.n,d.ok,.cons x.k x.t x.v (R6 l base) (Mn l s.at_) W .nil,?_,?_,?_,⟨cI _,WU hp h0 hlt om,cI _,e4,trivial⟩,rfl,hr _ (by rw[<-e3,Fo.Bb]) e5,e6,trivial⟩
  ·show((s.n+1:Nat):Int)+15* ((l.length:Int) - s.at_)<=F+(m+1);omega
  ·show s.ns++_=_;rw[e1,Fo.uN,Fo.uN,bt,ag];simp only[Fo.lay];rw[e3,<-hn,ay hlt,hw];rfl
  ·show s.n+1=_;rw[e2,Fo.eF,Fo.eF];simp only[Fo.sz];omega
  ·simp only[Fo.idx];rw[hi,e2,Fo.eF]
theorem Dy.unit (hb:(b||(eY q0).gt0)=true) (hm:m<=0):∃ i s1,ly l s=some (i,s1)/\Dy l n q0 base Iq F false b e (m+1) (L++[.int .i64 i]) (On P 116) Z s1:=by
 have hlt:=d.lt hb;have hq:=sw d.ok;have h0:=d.b0;have hlen:=hl.len;have hnn:=d.nn hm;have hm1:=d.m;obtain⟨W,e1,e2,e3,e4,e5,e6⟩:=d.sk;have hw:w (s.at_ - 1)=s.at_ - 1:=eK om;have hi:w (((s.n+1:Nat):Int) - 1)=s.n:=(eK om).trans om;have cc:s.ns.length=s.n/\s.n < 1000000/\okF l (w (s.at_ - 1)):=⟨by rw[e1,e2,Fo.cH],om,by unfold okF;rw[hw];simp;omega⟩;unfold ly;rw[ay cc];refine⟨_,_,rfl,d.b0,d.ba,d.le,by simp,d.b,d.g,d.e,?_,d.F,d.n,d.ok,W.app (.cons 12 [] 0 (Mn l s.at_) (Mn l s.at_) .nil .nil),?_,?_,?_,Fo.IV e4 ⟨WU hp h0 hlt om,cI _,cI _,trivial,trivial⟩,⟨_,12,Fo.JV ..,e5,rfl⟩,Fo.Jl e6 ⟨⟨rfl,rfl,rfl,i0,rfl⟩,trivial,trivial⟩⟩
 ·show((s.n+1:Nat):Int)+15* ((l.length:Int) - s.at_)<=F+(m+1);omega
 ·show s.ns++_=_;rw[e1,<-Fo.xK,Fo.uN (Z.app W)];rw[hw];rfl
 ·show s.n+1=_;rw[e2,<-Fo.xK,Fo.eF (Z.app W)];rfl
 ·rw[Fo.iQ,e3,hi,e2,Fo.eF];rfl
end
def m5 (q:Q) (base:Int) (s:PS):Prop:=0<=base/\match eY q with
 | .one=>base=s.at_/\∀ fr,Hu q=some fr->fr=base
 | .upd _=>Hu q=some base/\base < s.at_
 | .many _=>base<=s.at_
def SkG (l:List TokQ) (n:Nat) (g:Q->PS->Option EX):Prop:=∀ (q:Q) (s:PS) (Z:Fo) (base F:Int) (e:Bool),fb l s=true->m5 q base s->Cz e q->(e=true->(now l s).k≠5)->(∀ ks,eY q= .many ks->ks.l.length=ks.n)->Sk l Z base (eY q).Zg (pq q) s->(s.n:Int)+15* ((l.length:Int) - s.at_)<=F->F<=990000->64* ((l.length:Int) - s.at_)+Jm q < n->V3 l q base F Z (g q s)
theorem T5 {r:Int} {s:PS}:(nB l r s=[]\/vM 38 (nB l r s)=true)/\(nB l r s≠[]->(now l s).k≠5):=by
 unfold nB;cases h:(iz r).find? fun x=>okB s && dj l s x with
 |none=>exact⟨.inl rfl,fun h=>absurd rfl h⟩
 |some x=>
  have h1:=List.find?_some h;have h2:=List.mem_of_find?_eq_some h;rw[ab]at h1;refine⟨.inr ?_,fun _=>nT h1.2⟩;have:iz r ⊆ Go.Vm.Tp.iz:=by unfold iz;(repeat' split)<;>decide
  exact au (this h2)
theorem XA (hl:vj l) (hp:OL l) (ht:Tk l) {g:Q->PS->Option EX} (hg:∀ (q:Q) (s:PS) (r:R) (s':PS),0<=s.at_->s.at_<=l.length->g q s=some (.ok r s')->Xb l s s'/\(eats q=true->s.at_ < s'.at_)) (IH:SkG l n g):
 ∀ (p:Pr) (c b e:Bool) (m:Int) (L:List D) (P:List Int->Prop) (s:PS),Ty q0 base c b e m L P p->Dy l n q0 base Iq F c b e m L P Z s->V3 l q0 base F Z (aF l g p s):=by
 intro p;induction p with
 |ret r=>
  intro c b e m L P s ⟨t1,t2,t3,t4⟩ d;refine⟨_,rfl,fun r s1 h=>?_⟩;cases h;have:=d.m;exact⟨by rw[t2];exact d.sk.imp t4,t3,om⟩
 |dead=>intro c b e m L P s ty;exact ty.elim
 |fail k ih=>intro c b e m L P s ty d;exact A7
 |take x k ih=>
  intro c b e m L P s ty d;simp only[aF];cases hi:dj l s x with
  |false=>exact ih _ _ _ _ _ _ _ _ ty.2 d
  |true=>exact ih _ _ _ _ _ _ _ _ ty.1 (d.dI hl hp (nT hi)).1
 |need x k ih=>
  intro c b e m L P s ty d;simp only[aF];cases hi:dj l s x with
  |false=>exact A7
  |true=>exact ih _ _ _ _ _ _ _ ty (d.dI hl hp (nT hi)).1
 |name k ih=>
  intro c b e m L P s ty d;simp only[aF];cases hi:decide ((now l s).k=1)with
  |false=>exact A7
  |true=>exact ih _ _ _ _ _ _ _ _ (ty _ (ht.nm _ (af hi))) (d.dI hl hp (by have:=af hi;omega)).1
 |dI k ih=>
  intro c b e m L P s ty d;simp only[aF];have h:=d.dI hl hp (d.e ty.1);rw[h.2];exact ih _ _ _ _ _ _ _ ty.2 h.1
 |is x k ih=>
  intro c b e m L P s ty d;simp only[aF];cases hi:dj l s x with
  |false=>exact ih _ _ _ _ _ _ _ _ ty.2 d
  |true=>exact ih _ _ _ _ _ _ _ _ ty.1 {d with e:=fun _=>nT hi }
 |kind x k ih=>
  intro c b e m L P s ty d;simp only[aF];cases hi:decide ((now l s).k=x)with
  |false=>exact ih _ _ _ _ _ _ _ _ ty.2 d
  |true=>
   refine ih _ _ _ _ _ _ _ _ ty.1 {d with e:=fun h=>?_ };rcases eb.1 h with h|h
   ·exact d.e h
   ·rw[af hi];simpa using h
 |text x k ih=>intro c b e m L P s ty d;exact ih _ _ _ _ _ _ _ _ (ty _) d
 |sign x k ih=>
  intro c b e m L P s ty d;simp only[aF];obtain⟨h1,h2⟩:=T5 (l:=l) (r:=x) (s:=s);refine ih _ _ _ _ _ _ _ _ (ty _ h1) {d with e:=fun h=>?_ };rcases eb.1 h with h|h
  ·exact d.e h
  ·exact h2 (by simpa using h)
 |val k ih=>intro c b e m L P s ty d;exact ih _ _ _ _ _ _ _ _ (ty _ (ht.val _).1 (ht.val _).2) d
 |ok k ih=>intro c b e m L P s ty d;exact ih _ _ _ _ _ _ _ _ ty d
 |down k ih=>intro c b e m L P s ty d;exact ih _ _ _ _ _ _ _ ty ⟨d.b0,d.ba,d.le,d.c,d.b,d.g,d.e,d.m,d.F,d.n,d.ok,d.sk⟩
 |pos k ih=>
  intro c b e m L P s ty d;simp only[aF];rw[d.c ty.1];exact ih _ _ _ _ _ _ _ _ ty.2 d
 |into x k ih=>
  intro c b e m L P s ty d;simp only[aF];cases hi:dP l x s with
  |false=>exact A7
  |true=>
   cases hd:decide (100<=s.deep)with
   |true=>exact A7
   |false=>exact ih _ _ _ _ _ _ _ _ ty ⟨d.b0,d.ba,d.le,d.c,d.b,d.g,d.e,d.m,d.F,d.n,d.ok,d.sk⟩
 |node fr x k ih=>
  intro c b e m L P s ⟨t1,t2,t3,t4,t5,t6⟩ d;subst t3;obtain⟨i,s1,h1,h2⟩:=d.node hl hp t1 t2 t4 t5;simp only[aF,h1];exact ih _ _ _ _ _ _ _ _ (t6 i) h2
 |unit k ih=>
  intro c b e m L P s ⟨t1,t2,t3⟩ d;obtain⟨i,s1,h1,h2⟩:=d.unit hl hp t1 t2;simp only[aF,h1];exact ih _ _ _ _ _ _ _ _ (t3 i) h2
 |call q k ih=>
  intro c b e m L P s ty d;simp only[Ty]at ty;obtain⟨t1,t2,t3,ty⟩:=ty;have hr:=sw d.ok;have h0:=d.b0;have hle:=d.le;have hba:=d.ba;simp only[aF];have go:∀ {base':Int} {Z':Fo},m5 q base' s->(∀ ks,eY q= .many ks->ks.l.length=ks.n)->Sk l Z' base' (eY q).Zg (pq q) s->V3 l q base' (F+m) Z' (g q s):=fun{base' Z'} hb hk hs=>IH q s Z' base' (F+m) e d.ok hb t3 d.e hk hs d.m (by have:=d.F;omega) (d.fuel t1 t3);have bk:∀ {c' b':Bool} {L':List D} {P':List Int->Prop} {r:R} {s1:PS},g q s=some (.ok r s1)->c'=false->(b'=true->(b||eats q)=true)->Sk l Z base L' P' s1->(s1.n:Int)+15* ((l.length:Int) - s1.at_)<=F+m+gQ q->Dy l n q0 base Iq F c' b' false (m+gQ q) L' P' Z s1:=fun{c' b' L' P' r s1} hq hc' hb' sk hm=>by
    obtain⟨fo,fe⟩:=hg q s r s1 hr.1 om hq;have fle:=fo.le;exact⟨d.b0,d.ba,om,by rw[hc'];simp,fun hh=>by
      rcases eb.1 (hb' hh)with h9|h9
      ·have:=d.b h9;omega
      ·have:=fe h9;omega,d.g,by simp,om,d.F,d.n,fo.ok d.ok,sk⟩
  have fin:∀ {base':Int} {Z':Fo},V3 l q base' (F+m) Z' (g q s)->(∀ r s1,g q s=some (.ok r s1)->Sk l Z' base' ((eY q).fin r) (po q r) s1->(eY q).wf r->(s1.n:Int)+15* ((l.length:Int) - s1.at_)<=F+m+gQ q->V3 l q0 base F Z (aF l g (k r) s1))->V3 l q0 base F Z (match g q s with|some (.ok r s1)=>(match fb l s1 with|true=>aF l g (k r) s1|false=>none)|x=>x):=fun{base' Z'} ⟨x,h1,h2⟩ h3=>by
    rw[h1];cases x with
    |bad c f e=>exact⟨_,rfl,fun r s1 h=>by cases h⟩
    |ok r s1=>
     have h4:=h2 r s1 rfl;have fo:=(hg q s r s1 hr.1 om h1).1;simp only[fo.ok d.ok];exact h3 r s1 h1 h4.1 h4.2.1 h4.2.2
  split at ty
  ·rename_i hk;obtain⟨u1,u2⟩:=ty;have d':=d.sk;obtain⟨W,w1,w2,w3,w4,w5,w6⟩:=d';rw[hk]at go fin
   refine fin (go (base':=s.at_) (Z':=Z.app W) ⟨hr.1,by rw[hk];exact⟨rfl,fun fr hf=>by obtain⟨v1,v2⟩:=u1 fr hf;rw[v2,d.c v1]⟩⟩ (fun ks h=>by cases h) ⟨.nil,by rw[Fo.uX];exact w1,by rw[Fo.uX];exact w2,rfl,trivial,Yu hk,trivial⟩) fun r s1 hq sk _ hm=>?_;rw[Yv hk]at sk;have fo:=(hg q s r s1 hr.1 om hq).1;exact ih _ _ _ _ _ _ _ _ (u2 r) (bk hq rfl (fun h=>h) (Sk.behind hp w3 w4 w5 w6 h0 om hr.2 fo.le fo.len sk) hm)
  ·rename_i a hk;obtain⟨u1,u2,rfl,u3,u4⟩:=ty;rw[hk]at go fin
   exact fin (go ⟨h0,by rw[hk];exact⟨u2,d.lt u1⟩⟩ (fun ks h=>by cases h) (d.sk.imp u3)) fun r s1 hq sk _ hm=>ih _ _ _ _ _ _ _ _ (u4 r) (bk hq rfl (fun h=>by rw[h];rfl) sk hm)
  ·rename_i ks hk;obtain⟨rfl,u1,u2,u3⟩:=ty;rw[hk]at go fin
   refine fin (go ⟨h0,by rw[hk];show base<=s.at_;omega⟩ (fun ks' h=>by cases h;exact u1) (d.sk.imp u2)) fun r s1 hq sk wf hm=>?_;have dd:=bk (b':=b||eats q) hq rfl (fun h=>h) sk hm;exact ih _ _ _ _ _ _ _ _ (u3 r (sk.kw (dd.nn (by have:=a7z q;omega)) wf)) dd
 |tail q=>
  intro c b e m L P s ty d;simp only[Ty]at ty;obtain⟨t1,t2,t3,t4,t5,t6,t7,ty⟩:=ty;have hr:=sw d.ok;have h0:=d.b0;have hle:=d.le;have hba:=d.ba;have hF:=d.F;have key:m5 q base s->(∀ ks,eY q= .many ks->ks.l.length=ks.n)->L=(eY q).Zg->V3 l q0 base F Z (g q s):=fun hb hk hL=>by
    obtain⟨x,h1,h2⟩:=IH q s Z base (F+m) e d.ok hb t3 d.e hk (by rw[<-hL];exact d.sk.imp t7) d.m om (d.fuel t1 t3);refine⟨x,h1,fun r s1 hx=>?_⟩;obtain⟨k1,k2,k3⟩:=h2 r s1 hx;exact⟨by rw[<-(t5 r).1];exact k1.imp fun l _=>t6 r l,(t5 r).2 k2,om⟩
  split at ty
  ·exact ty.elim
  ·rename_i a hk;exact key ⟨h0,by rw[hk];exact⟨ty.2.1,d.lt ty.1⟩⟩ (fun ks h=>by rw[hk]at h;cases h) (by rw[hk];exact ty.2.2)
  ·rename_i ks hk;exact key ⟨h0,by rw[hk];show base<=s.at_;omega⟩ (fun ks' h=>by rw[hk]at h;cases h;exact ty.2) (by rw[hk];exact ty.1)
theorem Wq (hl:vj l) (hp:OL l) (ht:Tk l):∀ n,SkG l n (cM l n)
 |0=>fun q s Z base F e h1 h2 h3 h4 h5 h6 h7 h8 h9=>by have:=sw h1;omega
 |n+1=>fun q s Z base F e h1 h2 h3 h4 h5 h6 h7 h8 h9=>by
  have hf:∀ fr,Hu q=some fr->fr=base:=fun fr hf=>by
    have h:=h2.2;split at h
    ·exact h.2 fr hf
    ·exact Option.some.inj (hf.symm.trans h.1)
    ·rename_i ks hk;cases q<;>simp[eY,Hu]at hk hf
  have hr:=sw h1;have hb:=h2.2;have hn:s.n<=990000:=om;have kw:∀ ks,eY q= .many ks->KW ks:=fun ks hk=>Sk.kw (ks:=ks) (by rw[hk]at h6;exact h6) hn (h5 ks hk);show V3 l q base F Z (aF l (cM l n) (prog q) s);refine XA (Iq:=s.at_) (n:=n) hl hp ht (vY hl n) (Wq hl hp ht n) (prog q) _ _ _ 0 _ _ s (TN q base hf e h3 kw) ⟨h2.1,?_,cI _,?_,by simp,?_,h4,om,h8,om,h1,h6⟩
  ·split at hb<;>omega
  ·intro hc;split at hb
   ·exact hb.1.symm
   ·rename_i hk;rw[hk]at hc;cases hc
   ·rename_i hk;rw[hk]at hc;cases hc
  ·intro hc;split at hb
   ·rename_i hk;rw[hk]at hc;cases hc
   ·exact hb.2
   ·rename_i hk;rw[hk]at hc;cases hc
end
end Go.Vm.Pa
namespace Go.Vm.Lex
theorem sZ:∀ (u:List UInt8) (b:Bool),bj b (u.take (bj b u))=bj b u
 |[],b=>by cases b<;>rfl
 |c::r,false=>by
  rw[jY];by_cases h:IG c=true
  ·rw[ay h,cB,jY,ay h,sZ r false]
  ·rw[aA h];by_cases h2:c=47/\r.head? =some 47
   ·rw[ay h2,cB,jY,aA h];have hh:(r.take (bj true r)).head? =some 47:=by
     cases r with
     |nil=>simp at h2
     |cons d r=>
      have hd:d=47:=by simpa using h2.2
      subst hd;rw[pR,aA (by decide),cB];rfl
    rw[ay ⟨h2.1,hh⟩,sZ r true]
   ·rw[aA h2];rfl
 |c::r,true=>by
  rw[pR];by_cases h:c=10
  ·rw[ay h,cB,pR,ay h,sZ r false]
  ·rw[aA h,cB,pR,aA h,sZ r true]
theorem wX {s:List UInt8} (h:s.length<=65536) (hv:Val s):bF s=toks 0 s:=by
 unfold bF;rw[aA om,aA (by unfold Val at hv;omega)]
def Gap (s:List UInt8) (a f:Nat):Prop:=bF ((s.drop a).take (f - a))=([⟨5,[],0,f - a,f - a⟩],Dg.ok)
def Chain (s:List UInt8):Nat->List TokQ->Prop
 |a,[]=>a=s.length
 |a,x::r=>a<=x.f/\x.f<=x.e/\x.e<=s.length/\(s.drop x.f).take (x.e - x.f)=x.t/\(x.k=5↔r=[])/\Gap s a x.f/\Chain s x.e r
theorem J3 {s:List UInt8} {a:Nat} (hs:s.length<=65536) (hv:Val (s.drop a)) (hb:(s.drop a).length<=bj false (s.drop a)\/∃ c,(s.drop a)[bj false (s.drop a)]? =some c/\c.toNat < 128):Gap s a (a+bj false (s.drop a)):=by
 unfold Gap;rw[lL];have h1:=(CF _ (s.drop a) _ (ai _) hv hb).1;have hl:=jc false (s.drop a);have hle:((s.drop a).take (bj false (s.drop a))).length=bj false (s.drop a):=by rw[bm];omega
 rw[wX (by rw[hle];rw[bh]at hl;omega) h1,fj 0 (by rw[sZ];exact bU om),hle,bt]
theorem MW {w:List UInt8->Nat} {s:List UInt8} (h:(cf w s).e=0):(cf w s).k≠5:=by
 unfold cf at h⊢
 repeat' split
 all_goals simp_all
theorem Ku {s:List UInt8} (hs:s.length<=65536):∀ (n a:Nat),s.length - a<=n->a<=s.length->Val (s.drop a)->(toks a (s.drop a)).2.c=0->Chain s a (toks a (s.drop a)).1/\(toks a (s.drop a)).2=Dg.ok/\(toks a (s.drop a)).1≠[]:=by
 intro n;induction n with
 |zero=>
  intro a h ha hv hc;have e:s.drop a=[]:=bU om;rw[fj a (by rw[e];rfl)]at hc⊢;have hl:a+(s.drop a).length=s.length:=by rw[bh];omega
  have ha':a=s.length:=om;refine⟨?_,rfl,by simp⟩;simp only[Chain,hl];refine⟨om,om,om,by simp,by simp,?_,trivial⟩;have:=J3 hs hv (.inl (by rw[e];simp));rw[e,x8,ep,ha']at this;rw[ha'];exact this
 |succ n ih=>
  intro a h ha hv hc;have hsl:=jc false (s.drop a);by_cases h0:(s.drop a).drop (bj false (s.drop a))=[]
  ·rw[fj a h0]at hc⊢;have hl:a+(s.drop a).length=s.length:=by rw[bh];omega
   have hk:bj false (s.drop a)=(s.drop a).length:=by
    have:=aG List.length h0;rw[bh]at this;simp at this;rw[bh]at hsl⊢;omega
   refine⟨?_,rfl,by simp⟩;simp only[Chain,hl];refine⟨om,om,om,by simp,by simp,?_,trivial⟩;have:=J3 hs hv (.inl om);rw[hk,hl]at this;exact this
  ·by_cases he:(cf ed ((s.drop a).drop (bj false (s.drop a)))).e=0
   ·obtain⟨k1,k2,k3,k4⟩:=wF he;have hkd:=MW he;rw[nc a h0 he]at hc⊢;simp only[cr]at hc k1 k2 k3 k4 hkd⊢;generalize hT:cf ed (s.drop (a+bj false (s.drop a)))=T at*;generalize hK:bj false (s.drop a)=K at*;rw[bh]at k2 hsl;have hv2:Val (s.drop (a+(K+T.n))):=by
     have:=zU _ (s.drop a) (ai _) hv;rw[hK,cr]at this;rw[show a+(K+T.n)=(a+K)+T.n by omega,<-cr];exact(zq _ _ k4).1 this
    have hcc:(toks (a+(K+T.n)) (s.drop (a+(K+T.n)))).2.c=0:=by
     unfold after at hc;split at hc
     ·assumption
     ·exact hc
    obtain⟨i1,i2,i3⟩:=ih (a+(K+T.n)) om om hv2 hcc;unfold after;rw[ay hcc];refine⟨?_,i2,by simp⟩;simp only[jx,Chain];have hb:(s.drop a)[K]? =s[a+K]? :=cw ..;refine⟨om,om,om,?_,?_,?_,?_⟩
    ·rw[lL,k3]
    ·exact⟨fun e=>absurd e hkd,fun e=>absurd e i3⟩
    ·have:=J3 hs hv (.inr ?_)
     ·rw[hK]at this;exact this
     ·rw[hK,hb];have hlt:a+K < s.length:=om;refine⟨s[a+K],ae hlt,k4 _ ?_⟩;rw[fp];exact⟨0,by rw[aZ,ay om,cw,ep,ae hlt]⟩
    ·rw[show a+K+T.n=a+(K+T.n)by omega];exact i1
   ·rw[nz a h0 he]at hc;exact absurd hc he
theorem o9 (s:List UInt8) (h:(bF s).2.c=0):s.length<=65536/\Val s/\bF s=toks 0 s/\Chain s 0 (bF s).1/\(bF s).1≠[]/\(bF s).2=Dg.ok:=by
 unfold bF at h;split at h
 ·cases h
 ·rename_i h1;split at h
  ·cases h
  ·rename_i h2;have hv:Val s:=by have:=Am _ s 0 (ai _);unfold Val;omega
   have e:=wX (by omega:s.length<=65536) hv;have:=Ku (by omega:s.length<=65536) _ 0 (ai _) (aR _) (by rw[bq];exact hv) (by rw[bq];exact h);rw[bq]at this;rw[e];exact⟨om,hv,rfl,this.1,this.2.2,this.2.1⟩
end Go.Vm.Lex
namespace Go.Vm.Pa
open Go.Vm.Lex (TokQ toks bF cf ed bj after Dg)
open Go.Vm.Tp (Nd oE)
theorem XG {w:List UInt8->Nat} (s:List UInt8):oE (cf w s).v:=by
 unfold cf oE
 (repeat' split)<;>dsimp only<;>(try omega)
 rename_i h;simp only[Lex.gd,ab,an]at h;have:=h.2;omega
structure Small (m:Nat) (x:TokQ):Prop where
 t:x.t.length<=m
 v:oE x.v
 f:x.f<=m
 e:x.e<=m
theorem I6 (m:Nat):∀ (n a:Nat) (s:List UInt8),s.length<=n->a+s.length<=m->(toks a s).2.c=0->(toks a s).1.length<=s.length+1/\(∀ x∈(toks a s).1,Small m x)/\(toks a s).1≠[]/\∀ i,i < (toks a s).1.length->((toks a s).1.getD i default).k≠5->i+1 < (toks a s).1.length:=by
 intro n;induction n with
 |zero=>
  intro a s hs hm hc;have e:s=[]:=bZ om;subst e;rw[Lex.fj a rfl];refine⟨by simp,fun x hx=>?_,by simp,fun i hi h5=>?_⟩
  ·simp only[cW]at hx;subst hx;exact⟨Nat.zero_le _,by unfold oE;dsimp only;omega,hm,hm⟩
  ·simp only[ec]at hi;have:i=0:=om;subst this;exact absurd rfl h5
 |succ n ih=>
  intro a s hs hm hc;have hsl:=Lex.jc false s;by_cases h0:s.drop (bj false s)=[]
  ·rw[Lex.fj a h0];refine⟨by simp,fun x hx=>?_,by simp,fun i hi h5=>?_⟩
   ·simp only[cW]at hx;subst hx;exact⟨Nat.zero_le _,by unfold oE;dsimp only;omega,hm,hm⟩
   ·simp only[ec]at hi;have:i=0:=om;subst this;exact absurd rfl h5
  ·by_cases he:(cf ed (s.drop (bj false s))).e=0
   ·obtain⟨k1,k2,k3,k4⟩:=Lex.wF he;have hv:=XG (w:=ed) (s.drop (bj false s));rw[Lex.nc a h0 he]at hc⊢;generalize hT:cf ed (s.drop (bj false s))=T at*;rw[bh]at k2;have hc2:(toks (a+(bj false s+T.n)) (s.drop (bj false s+T.n))).2.c=0:=by
     unfold after at hc;split at hc
     ·assumption
     ·rename_i h;exact absurd hc h
    have hl:(s.drop (bj false s+T.n)).length=s.length - (bj false s+T.n):=bh ..;obtain⟨i1,i2,i3,i4⟩:=ih (a+(bj false s+T.n)) (s.drop (bj false s+T.n)) om om hc2;unfold after;rw[ay hc2];dsimp only;generalize(toks (a+(bj false s+T.n)) (s.drop (bj false s+T.n))).1=r at*;refine⟨by rw[ah,ec];omega,fun x hx=>?_,by simp,fun i hi h5=>?_⟩
    ·rcases cd.1 hx with hx|hx
     ·simp only[cW]at hx;subst hx;refine⟨?_,hv,by dsimp only;omega,by dsimp only;omega⟩;show T.t.length<=m;rw[k3,bm,bh];omega
     ·exact i2 x hx
    ·have hr:0 < r.length:=dc.2 i3;rw[ah,ec]at hi⊢;cases i with
     |zero=>omega
     |succ i=>
      have:=i4 i om (by simpa [av] using h5);omega
   ·rw[Lex.nz a h0 he]at hc;exact absurd hc he
theorem Ph {s:List UInt8} (h:(bF s).2.c=0):TOk (bF s).1:=by
 obtain⟨h1,_,h3,_⟩:=Lex.o9 s h;rw[h3]at h⊢;obtain⟨i1,i2,i3,i4⟩:=I6 s.length s.length 0 s (ai _) om h;have all:∀ i,Small 65536 ((toks 0 s).1.getD i default):=fun i=>by
   rw[av];cases c:(toks 0 s).1[i]? with
   |none=>exact⟨aR _,by unfold oE;decide,aR _,aR _⟩
   |some x=>
    have:=i2 x (aT c);exact⟨dD this.t h1,this.v,dD this.f h1,dD this.e h1⟩
 exact⟨om,fun i=>(all i).t,fun i=>(all i).v,fun i=>⟨(all i).f,(all i).e⟩,i4⟩
end Go.Vm.Pa
namespace Go.Vm.Lex
def Ends (d:UInt8):Prop:=mS d=false/\∀ c:UInt8,¬ [c,d]∈sR
theorem Ke:Ends 32:=⟨by decide,by intro c;simp[sR]⟩
theorem Gl {d:UInt8} (hd:Ends d) (r:List UInt8):∀ u:List UInt8,dS (u++d::r)=dS u
 |[]=>by rw[aq,qC,hd.1];rfl
 |c::u=>by rw[al,qC,qC,Gl hd r u]
theorem M4 {d:UInt8} (hd:Ends d) (r:List UInt8) {u:List UInt8} (h:u≠[]):gH (u++d::r)=gH u:=by
 match u,h with
 |[c],_=>
  unfold gH;have:¬ [c,d]∈sR:=hd.2 c;simp[this,hd0]
 |c::e::u,_=>
  unfold gH;simp[hd0]
theorem Pl {d:UInt8} (hd:Ends d) (r:List UInt8) {u:List UInt8} (h:u≠[]) (hz:ed u≠0):cf ed (u++d::r)=cf ed u:=by
 have hh:hd0 (u++d::r)=hd0 u:=by cases u with
   |nil=>exact absurd rfl h
   |cons c u=>rfl
 unfold cf;rw[Gl hd r u,hh,fC (uC u),M4 hd r h,TS hz]
theorem Ae {a:Nat} {s:List UInt8} (k:Nat) (T:Tk) (h1:bj false s=k) (h2:cf ed (s.drop k)=T) (h3:T.e=0) (h:s.drop k≠[]):toks a s=after [⟨T.k,T.t,T.v,a+k,a+k+T.n⟩] (toks (a+(k+T.n)) (s.drop (k+T.n))):=by
 subst h1;subst h2;exact nc a h h3
theorem CG (s:List UInt8) (h:∀ c∈s,c.toNat < 128):Val s:=by
 rw[zq s s.length (by rw[cb];exact h),m9];exact qX
theorem UY {s:List UInt8} (h:s.length<=65536) (hv:Val s):bF s=toks 0 s:=by
 unfold bF;rw[aA om,aA (by unfold Val at hv;omega)]
theorem Oz (n:Nat):∀ (a:Nat) (s:List UInt8),s.length<=n->(toks a s).1.length<=n+1:=by
 induction n with
 |zero=>
  intro a s h;have:s=[]:=cp.1 om;subst this;rw[fj a (by simp)];simp
 |succ n ih=>
  intro a s h;by_cases h0:s.drop (bj false s)=[]
  ·rw[fj a h0];simp
  ·by_cases he:(cf ed (s.drop (bj false s))).e=0
   ·have hd:=wE s (by simp[h0,he]);rw[nc a h0 he];have:=ih (a+(bj false s+(cf ed (s.drop (bj false s))).n)) (s.drop (bj false s+(cf ed (s.drop (bj false s))).n)) om;unfold after;split
    ·simp only[ah,aw,aH];omega
    ·simp
   ·rw[nz a h0 he];simp
theorem Rh (s:List UInt8):(bF s).1.length<=65537:=by
 unfold bF;split
 ·simp
 ·split
  ·simp
  ·exact Oz 65536 0 s om
structure dZ where
 k:Int
 t:List UInt8
 v:Int
 f:Int
 e:Int
def fP (k:Int) (t:List UInt8) (v:Int):Bool:=
 if k=1 then de t else if k=2 then sj t else if k=3 then decide (0<=v) && decide (t=Lib.itoa v)
 else if k=4 then decide (t≠[]) && decide (gH t=t) else if k=5 then decide (t=[]) else false
theorem Kp (u:Nat):(Lib.decDigits u).all vX=true/\IZ (Lib.decDigits u)=u/\Lib.decDigits u≠[]:=by
 induction u using Nat.strongRecOn with
 |_ u ih=>
  have hb:∀ k,k < 10->vX (UInt8.ofNat (48+k))=true/\Tv (UInt8.ofNat (48+k))=k:=by
   intro k hk;have e:(UInt8.ofNat (48+k)).toNat=48+k:=by rw[UInt8.toNat_ofNat'];omega
   generalize UInt8.ofNat (48+k)=d at e;exact⟨by unfold vX;exact au om,by unfold Tv;omega⟩
  by_cases h:u < 10
  ·rw[Lib.decDigits,dif_pos h];obtain⟨h1,h2⟩:=hb u h;generalize UInt8.ofNat (48+u)=d at*;refine⟨by simp[h1],?_,by simp⟩;show zW 0 [_]=u;unfold zW;simp[h2]
  ·rw[Lib.decDigits,dif_neg h];obtain⟨i1,i2,i3⟩:=ih (u / 10) om;obtain⟨h1,h2⟩:=hb (u % 10) om;generalize UInt8.ofNat (48+u % 10)=d at*;refine⟨by rw[ji,i1];simp[h1],?_,by simp⟩;unfold IZ zW at i2⊢;rw[mn,i2];simp[h2];omega
theorem uB {t:List UInt8} (h:t.all mS=true):dS t=t.length:=by
 unfold dS;induction t with
 |nil=>rfl
 |cons c r ih=>
  simp only[aQ,ab]at h;rw[kH,ay h.1,aw,aw,ih h.2]
theorem vw {t:List UInt8} (hall:t.all mS=true) (hne:t≠[]) (hd:vX (hd0 t)=false) (hu:t≠[95]) (hl:t.length<=64):cf ed t=⟨if sj t then 2 else 1,t,0,t.length,0⟩:=by
 have hr:=uB hall;have hp:=dc.2 hne;unfold cf;rw[hr,cb,aA (by rw[hd];simp),ay ⟨hp,hu⟩,aA om]
theorem FX:∀ w∈IU,w.all mS=true/\w≠[]/\vX (hd0 w)=false/\w≠[95]/\w.length<=64/\sj w=true/\IG (hd0 w)=false/\hd0 w≠47:=by decide
theorem Ac:∀ t∈sR,(cf ed t).k=4/\(cf ed t).t=t/\(cf ed t).v=0/\(cf ed t).n=t.length/\(cf ed t).e=0/\IG (hd0 t)=false/\hd0 t≠47:=by decide+kernel
theorem AP:∀ c∈Dd,(cf ed [c]).k=4/\(cf ed [c]).t=[c]/\(cf ed [c]).v=0/\(cf ed [c]).n=1/\(cf ed [c]).e=0/\IG c=false:=by decide+kernel
theorem D6 {T:Tk} {k t v n e} (h1:T.k=k) (h2:T.t=t) (h3:T.v=v) (h4:T.n=n) (h5:T.e=e):T=⟨k,t,v,n,e⟩:=by
 cases T;subst h1;subst h2;subst h3;subst h4;subst h5;rfl
structure Good (k:Int) (t:List UInt8) (v:Int):Prop where
 ne:t≠[]
 low:∀ c∈t,c.toNat < 128
 ws:IG (hd0 t)=false
 sl:hd0 t=47->t=[47]
 tok:cf ed t=⟨k,t,if k=3 then v else 0,t.length,0⟩
theorem A9 {c:UInt8} (h:mS c=true):IG c=false/\c≠47:=by
 constructor
 ·simp[IG];refine⟨?_,?_,?_,?_⟩<;>rintro rfl<;>exact absurd h (by decide)
 ·rintro rfl;exact absurd h (by decide)
theorem xg {t:List UInt8} (h:t≠[]):hd0 t∈t:=by
 cases t with
 |nil=>exact absurd rfl h
 |cons c r=>simp[hd0]
theorem zG {k:Int} {t:List UInt8} {v:Int} (h:fP k t v=true) (h5:k≠5) (hv:v<=9223372036854775807):Good k t v:=by
 unfold fP at h;by_cases c1:k=1
 ·rw[ay c1]at h;simp only[de,qg,ab,an,dv]at h;obtain⟨⟨⟨⟨⟨n1,n2⟩,n3⟩,n4⟩,n5⟩,n6⟩:=h;have hl:=aC.1 n4;have hf:=A9 (hl _ (xg n1));refine⟨n1,fun c hc=>tH (hl c hc),hf.1,fun e=>absurd e hf.2,?_⟩;rw[vw n4 n1 n3 n2 n5,n6,c1];rfl
 rw[aA c1]at h;by_cases c2:k=2
 ·rw[ay c2]at h;obtain⟨w1,w2,w3,w4,w5,w6,w7,w8⟩:=FX t (by simpa [sj] using h);refine⟨w2,fun c hc=>tH (aC.1 w1 c hc),w7,fun e=>absurd e w8,?_⟩;rw[vw w1 w2 w3 w4 w5,w6,c2];rfl
 rw[aA c2]at h;by_cases c3:k=3
 ·rw[ay c3]at h;simp only[ab,an]at h;obtain⟨h1,h2⟩:=h;have hi:t=Lib.decDigits v.toNat:=by rw[h2];unfold Lib.itoa;rw[aA om]
  obtain⟨d1,d2,d3⟩:=Kp v.toNat;rw[<-hi]at d1 d2 d3;have hld:t.all mS=true:=aC.2 fun c hc=>by unfold mS;rw[aC.1 d1 c hc,Bool.or_true]
  have hl:=aC.1 hld;have hf:=A9 (hl _ (xg d3));have hp:=dc.2 d3;refine⟨d3,fun c hc=>tH (hl c hc),hf.1,fun e=>absurd e hf.2,?_⟩;have hnb:gd t=true:=by simp only[gd,d1,d2,eE];exact au om
  unfold cf;rw[uB hld,cb,ay ⟨hp,aC.1 d1 _ (xg d3)⟩,ay hnb,ay c3,d2,c3,Int.toNat_of_nonneg h1]
 rw[aA c3]at h;by_cases c4:k=4
 ·rw[ay c4]at h;simp only[ab,an]at h;obtain⟨h1,h2⟩:=h;rcases tc t with e|⟨hl,e,hm⟩|⟨_,e,hm,_⟩
  ·rw[h2]at e;exact absurd e h1
  ·rw[h2]at e;rw[<-e]at hm;obtain⟨s1,s2,s3,s4,s5,s6,s7⟩:=Ac t hm;refine⟨h1,(Ab t hm).2,s6,fun e=>absurd e s7,?_⟩;rw[c4];exact D6 s1 s2 s3 s4 s5
  ·rw[h2]at e;cases t with
   |nil=>exact absurd rfl h1
   |cons c r=>
    have hr:r=[]:=by simpa using e
    subst hr;obtain⟨s1,s2,s3,s4,s5,s6⟩:=AP c hm;refine⟨h1,fun d hd=>?_,s6,fun e=>?_,?_⟩
    ·rw[cW]at hd;rw[hd];exact AO c hm
    ·have:c=47:=e;rw[this]
    ·rw[c4];exact D6 s1 s2 s3 s4 s5
 rw[aA c4,aA h5]at h;cases h
theorem Pz {k t v} (h:Good k t v):ed t≠0:=by
 have hl:=h.low _ (xg h.ne);cases t with
 |nil=>exact absurd rfl h.ne
 |cons c r=>rw[CX (c:=c) hl];decide
def Behind (r:List UInt8):Prop:=r=[]\/∃ q,r=32::q
theorem Af {k t v} (h:Good k t v) {r:List UInt8} (hr:Behind r):cf ed (t++r)=⟨k,t,if k=3 then v else 0,t.length,0⟩/\bj false (t++r)=0:=by
 constructor
 ·rcases hr with rfl|⟨q,rfl⟩
  ·rw[bC];exact h.tok
  ·rw[Pl Ke q h.ne (Pz h)];exact h.tok
 ·cases t with
  |nil=>exact absurd rfl h.ne
  |cons c s=>
   have hw:IG c=false:=h.ws;rw[al,jY,aA (by rw[hw];simp),aA];rintro⟨e,hh⟩;have:=h.sl e;have hs:s=[]:=by simpa using aG List.tail this
   subst hs;rcases hr with rfl|⟨q,rfl⟩
   ·simp at hh
   ·simp at hh
def b0v (t:TokQ) (x:dZ):Prop:=t.k=x.k/\t.t=x.t/\t.v=if x.k=3 then x.v else 0
inductive Like:List TokQ->List dZ->Prop
 |nil:Like [] []
 |cons {t:TokQ} {x:dZ} {ts xs}:b0v t x->Like ts xs->Like (t::ts) (x::xs)
theorem Like.length {ts xs} (h:Like ts xs):ts.length=xs.length:=by
 induction h with
 |nil=>rfl
 |cons _ _ ih=>simp[ih]
theorem CQ:∀ (xs:List dZ) (p:Nat),(∀ x∈xs,Good x.k x.t x.v)->∃ ts q,toks p (Lib.joinTail [32] (xs.map (·.t)))=(ts++[⟨5,[],0,q,q⟩],Dg.ok)/\Like ts xs
 |[],p,_=>⟨[],p,by rw[show Lib.joinTail [32] (([]:List dZ).map (·.t))=[] from rfl,fj p (by simp)];rfl,.nil⟩
 |x::xs,p,h=>by
  have hg:=h x (by simp);have hb:Behind (Lib.joinTail [32] (xs.map (·.t))):=by
   cases xs with
   |nil=>exact .inl rfl
   |cons y ys=>exact .inr ⟨_,by simp[Lib.joinTail];rfl⟩
  obtain⟨h1,h2⟩:=Af hg hb;have e:Lib.joinTail [32] ((x::xs).map (·.t))=32::(x.t++Lib.joinTail [32] (xs.map (·.t))):=by simp[Lib.joinTail]
  have hsk:bj false (32::(x.t++Lib.joinTail [32] (xs.map (·.t))))=1:=by rw[jY,ay (by decide),h2]
  obtain⟨ts,q,i1,i2⟩:=CQ xs (p+(1+x.t.length)) fun y hy=>h y (by simp[hy]);rw[e];have hd1:List.drop 1 (32::(x.t++Lib.joinTail [32] (xs.map (·.t))))=x.t++Lib.joinTail [32] (xs.map (·.t)):=rfl;rw[Ae 1 ⟨x.k,x.t,if x.k=3 then x.v else 0,x.t.length,0⟩ hsk (by rw[hd1];exact h1) rfl (by rw[hd1];simp[hg.ne])];have hd2:List.drop (1+x.t.length) (32::(x.t++Lib.joinTail [32] (xs.map (·.t))))=Lib.joinTail [32] (xs.map (·.t)):=by
   rw[ja,cm,jX]
  rw[hd2,i1];refine⟨_::ts,q,?_,.cons (t:=⟨x.k,x.t,if x.k=3 then x.v else 0,p+1,p+1+x.t.length⟩) ⟨rfl,rfl,rfl⟩ i2⟩;simp[after,Dg.ok]
theorem G5:∀ (xs:List dZ),(∀ x∈xs,Good x.k x.t x.v)->∀ c∈Lib.joinTail [32] (xs.map (·.t)),c.toNat < 128
 |[],_,c,hc=>by simp[Lib.joinTail]at hc
 |x::xs,h,c,hc=>by
  have e:Lib.joinTail [32] ((x::xs).map (·.t))=32::(x.t++Lib.joinTail [32] (xs.map (·.t))):=by simp[Lib.joinTail]
  rw[e]at hc;rcases bs.1 hc with rfl|hc
  ·decide
  ·rcases cd.1 hc with hc|hc
   ·exact(h x (by simp)).low c hc
   ·exact G5 xs (fun y hy=>h y (by simp[hy])) c hc
theorem Dq (xs:List dZ) (h:∀ x∈xs,Good x.k x.t x.v) (hl:(Lib.join (xs.map (·.t)) [32]).length<=65536):∃ ts q,bF (Lib.join (xs.map (·.t)) [32])=(ts++[⟨5,[],0,q,q⟩],Dg.ok)/\Like ts xs:=by
 cases xs with
 |nil=>
  refine⟨[],0,?_,.nil⟩;rw[wX hl (by exact qX)];rw[show Lib.join (([]:List dZ).map (·.t)) [32]=[] from rfl,fj 0 (by simp)];rfl
 |cons x xs=>
  have hg:=h x (by simp);have hb:Behind (Lib.joinTail [32] (xs.map (·.t))):=by
   cases xs with
   |nil=>exact .inl rfl
   |cons y ys=>exact .inr ⟨_,by simp[Lib.joinTail];rfl⟩
  obtain⟨h1,h2⟩:=Af hg hb;have e:Lib.join ((x::xs).map (·.t)) [32]=x.t++Lib.joinTail [32] (xs.map (·.t)):=by rw[aB,Lib.join_cons]
  rw[e]at hl⊢;have hv:Val (x.t++Lib.joinTail [32] (xs.map (·.t))):=CG _ fun c hc=>by
    rcases cd.1 hc with hc|hc
    ·exact hg.low c hc
    ·exact G5 xs (fun y hy=>h y (by simp[hy])) c hc
  obtain⟨ts,q,i1,i2⟩:=CQ xs (0+(0+x.t.length)) fun y hy=>h y (by simp[hy]);rw[wX hl hv,Ae 0 ⟨x.k,x.t,if x.k=3 then x.v else 0,x.t.length,0⟩ h2 (by rw[bq];exact h1) rfl (by rw[bq];simp[hg.ne])];have hd2:List.drop (0+x.t.length) (x.t++Lib.joinTail [32] (xs.map (·.t)))=Lib.joinTail [32] (xs.map (·.t)):=by rw[bt,jX]
  rw[hd2,i1];refine⟨_::ts,q,?_,.cons (t:=⟨x.k,x.t,if x.k=3 then x.v else 0,0+0,0+0+x.t.length⟩) ⟨rfl,rfl,rfl⟩ i2⟩;simp[after,Dg.ok]
structure Shape (x:TokQ):Prop where
 good:x.k≠5->Good x.k x.t x.v
 k1:x.k=1->sj x.t=false/\x.t.all mS=true
 k2:x.k=2->sj x.t=true
 k3:x.k=3->x.t.all vX=true
 k4:x.k=4->x.t∈sR\/∃ c∈Dd,x.t=[c]
 k5:x.k=5->x.t=[]
 kk:x.k=1\/x.k=2\/x.k=3\/x.k=4\/x.k=5
 v0:x.k≠3->x.v=0
theorem Dv {s:List UInt8} {n:Nat} (h:0 < n):hd0 (s.take n)=hd0 s:=by
 cases s with
 |nil=>simp
 |cons c r=>
  cases n with
  |zero=>omega
  |succ n=>rfl
theorem VU {t:List UInt8} (h:t.all mS=true):∀ c∈t,c.toNat < 128:=fun c hc=>tH (aC.1 h c hc)
theorem Jf {s:List UInt8} (h:(cf ed s).e=0) (f e:Nat):Shape ⟨(cf ed s).k,(cf ed s).t,(cf ed s).v,f,e⟩:=by
 have hall:=zy s;have hle:=uC s;have hlen:(s.take (dS s)).length=dS s:=by rw[bm];omega
 have ld:∀ k v,0 < dS s->cf ed (s.take (dS s))=⟨k,s.take (dS s),if k=3 then v else 0,(s.take (dS s)).length,0⟩->Good k (s.take (dS s)) v:=fun k v h0 ht=>by
   have hne:s.take (dS s)≠[]:=fun e=>by rw[e]at hlen;simp at hlen;omega
   have h1:=A9 (aC.1 hall _ (xg hne));exact⟨hne,VU hall,h1.1,fun e=>absurd e h1.2,ht⟩
 by_cases c1:0 < dS s/\vX (hd0 s)=true
 ·by_cases c2:gd (s.take (dS s))=true
  ·have e1:cf ed s=⟨3,s.take (dS s),IZ (s.take (dS s)),dS s,0⟩:=by unfold cf;rw[ay c1,ay c2]
   rw[e1];have hr2:dS (s.take (dS s))=dS s:=(uB hall).trans hlen;have e2:cf ed (s.take (dS s))=⟨3,s.take (dS s),IZ (s.take (dS s)),dS s,0⟩:=by
    have ht:(s.take (dS s)).take (dS (s.take (dS s)))=s.take (dS s):=by rw[hr2,gr,Nat.min_self]
    unfold cf;rw[ay ⟨by rw[hr2];exact c1.1,by rw[Dv c1.1];exact c1.2⟩,ht,ay c2,hr2]
   refine⟨fun _=>ld 3 _ c1.1 (by rw[e2,ay rfl,hlen]),by simp,by simp,fun _=>?_,by simp,by simp,by simp,by simp⟩;simp only[gd,ab]at c2;exact c2.1
  ·have e1:(cf ed s).e=112:=by unfold cf;rw[ay c1,aA c2]
   rw[e1]at h;cases h
 ·by_cases c2:0 < dS s/\s.take (dS s)≠[95]
  ·by_cases c3:64 < dS s
   ·have e1:(cf ed s).e=2:=by unfold cf;rw[aA c1,ay c2,ay c3]
    rw[e1]at h;cases h
   ·have e1:cf ed s=⟨if sj (s.take (dS s)) then 2 else 1,s.take (dS s),0,dS s,0⟩:=by unfold cf;rw[aA c1,ay c2,aA c3]
    rw[e1];have hne:s.take (dS s)≠[]:=fun e=>by rw[e]at hlen;simp at hlen;omega
    have hd:vX (hd0 (s.take (dS s)))=false:=by
     rw[Dv c2.1];cases hh:vX (hd0 s)with
     |false=>rfl
     |true=>exact absurd ⟨c2.1,hh⟩ c1
    have e2:=vw hall hne hd c2.2 om;cases hw:sj (s.take (dS s))with
    |true=>
     rw[hw]at e2;exact⟨fun _=>ld 2 0 c2.1 (by simpa using e2),by simp,fun _=>hw,by simp,by simp,by simp,by simp,by simp⟩
    |false=>
     rw[hw]at e2;exact⟨fun _=>ld 1 0 c2.1 (by simpa using e2),fun _=>⟨hw,hall⟩,by simp,by simp,by simp,by simp,by simp,by simp⟩
  ·by_cases c3:gH s≠[]
   ·have e1:cf ed s=⟨4,gH s,0,(gH s).length,0⟩:=by unfold cf;rw[aA c1,aA c2,ay c3]
    rw[e1];rcases tc s with h0|⟨_,h1,h2⟩|⟨h1,h2,h3,h4⟩
    ·exact absurd h0 c3
    ·rw[<-h1]at h2;obtain⟨q1,q2,q3,q4,q5,q6,q7⟩:=Ac _ h2;have hl:=(Ab _ h2);refine⟨fun _=>⟨c3,hl.2,q6,fun e=>absurd e q7,D6 q1 q2 q3 q4 q5⟩,by simp,by simp,by simp,fun _=> .inl h2,by simp,by simp,by simp⟩
    ·have h5:gH s=[hd0 s]:=by
      rw[h2];cases s with
      |nil=>exact absurd rfl h1
      |cons c r=>rfl
     have q:=AP _ h3;rw[h5];obtain⟨q1,q2,q3,q4,q5,q6⟩:=q;refine⟨fun _=>⟨by simp,fun c hc=>?_,q6,fun e=>?_,D6 q1 q2 q3 q4 q5⟩,by simp,by simp,by simp,fun _=> .inr ⟨_,h3,rfl⟩,by simp,by simp,by simp⟩
     ·rw[cW.1 hc];exact AO _ h3
     ·have:hd0 s=47:=e;rw[this]
   ·have e1:(cf ed s).e=111:=by unfold cf;rw[aA c1,aA c2,aA c3]
    rw[e1]at h;cases h
theorem Je:∀ (n a:Nat) (s:List UInt8),s.length<=n->∀ x∈(toks a s).1,Shape x:=by
 have hend:∀ f e,Shape ⟨5,[],0,f,e⟩:=fun f e=>⟨by simp,by simp,by simp,by simp,by simp,by simp,by simp,by simp⟩;intro n;induction n with
 |zero=>
  intro a s hs x hx;have e:s=[]:=bZ om;subst e;rw[fj a rfl]at hx;simp only[cW]at hx;subst hx;exact hend _ _
 |succ n ih=>
  intro a s hs x hx;by_cases h0:s.drop (bj false s)=[]
  ·rw[fj a h0]at hx;simp only[cW]at hx;subst hx;exact hend _ _
  ·by_cases he:(cf ed (s.drop (bj false s))).e=0
   ·have hd:=wE s (by simp[h0,he]);rw[nc a h0 he]at hx;unfold after at hx;split at hx
    ·rcases cd.1 hx with h1|h1
     ·simp only[cW]at h1;subst h1;exact Jf he _ _
     ·exact ih _ _ om x h1
    ·cases hx
   ·rw[nz a h0 he]at hx;cases hx
theorem A8 {s:List UInt8}:∀ x∈(bF s).1,Shape x:=by
 intro x hx;unfold bF at hx;split at hx
 ·cases hx
 ·split at hx
  ·cases hx
  ·exact Je _ _ _ (ai _) x hx
end Go.Vm.Lex
namespace Go.Vm.Pa
open Go.Vm.Lex (TokQ bF)
abbrev S0:PS:=⟨0,0,[],0,0,0,0⟩
theorem a7g {src:S} (h:(bF src).2.c=0):vj (bF src).1:=by
 have ht:=Ph h;have all:∀ i,(bF src).1.getD i default=default\/Lex.Shape ((bF src).1.getD i default):=fun i=>by
   rw[av];cases c:(bF src).1[i]? with
   |none=>exact .inl rfl
   |some x=>exact .inr (Lex.A8 x (aT c))
 refine⟨by have:=ht.len;omega,fun i=>by have:=ht.txt i;omega,ht.last,fun i hk hm=>?_,fun i hk hm=>?_,fun i hk hm=>?_⟩
 ·rcases all i with e|s
  ·rw[e]at hk;cases hk
  ·obtain⟨h1,h2⟩:=s.k1 hk;revert h1 h2 hm;generalize((bF src).1.getD i default).t=t;intro hm;simp only[D0,bs,cK,gR]at hm;rcases hm with rfl|rfl|rfl|rfl|rfl<;>decide
 ·rcases all i with e|s
  ·rw[e]at hk;cases hk
  ·have h1:=s.k2 hk;revert h1 hm;generalize((bF src).1.getD i default).t=t;intro hm;simp only[C2,bs,cK,gR]at hm;rcases hm with rfl|rfl|rfl|rfl|rfl|rfl|rfl|rfl|rfl|rfl|rfl|rfl|rfl|rfl|rfl|rfl<;>decide
 ·rcases all i with e|s
  ·rw[e]at hk;cases hk
  ·have h1:=s.k4 hk;revert h1 hm;generalize((bF src).1.getD i default).t=t;intro hm;simp only[bs,cK,gR]at hm;rintro(h1|⟨c,_,h1⟩)
   ·revert h1;rcases hm with rfl|rfl|rfl<;>decide
   ·rcases hm with rfl|rfl|rfl<;>exact absurd (aG List.length h1) (by simp)
theorem a7c {x:TokQ} (h:Lex.Shape x) (hk:x.k=1):Lex.de x.t=true:=by
 obtain⟨h1,h2⟩:=h.k1 hk;have ht:=(h.good om).tok;rw[hk]at ht;have hr:=Lex.uB h2;unfold Lex.cf at ht;rw[hr,cb]at ht;split at ht
 ·split at ht<;>cases aG (·.k) ht
 ·rename_i c1;split at ht
  ·rename_i c2;split at ht
   ·cases aG (·.k) ht
   ·rename_i c3;have c4:Lex.vX (Lex.hd0 x.t)=false:=by
     cases hd:Lex.vX (Lex.hd0 x.t)with
     |false=>rfl
     |true=>exact absurd ⟨c2.1,hd⟩ c1
    unfold Lex.de Lex.qg;rw[h1,h2,c4,au c2.2,au (show x.t.length<=64 by omega),au (show x.t≠[] by rintro e;rw[e]at c2;exact absurd c2.1 (by decide))];rfl
  ·split at ht<;>cases aG (·.k) ht
theorem Xq {x:TokQ} (h:Lex.Shape x):0<=x.v/\x.v<=9223372036854775807:=by
 by_cases hk:x.k=3
 ·have ht:=(h.good om).tok;rw[hk,ay rfl]at ht;unfold Lex.cf at ht;split at ht
  ·split at ht
   ·rename_i c;have e:=aG (·.v) ht;simp only at e;simp only[Lex.gd,ab,an]at c;omega
   ·cases aG (·.k) ht
  ·split at ht
   ·split at ht
    ·cases aG (·.k) ht
    ·have e:=aG (·.k) ht;simp only at e;split at e<;>omega
   ·split at ht<;>cases aG (·.k) ht
 ·rw[h.v0 hk];omega
theorem tkT {src:S} (h:(bF src).2.c=0):Tk (bF src).1:=by
 have all:∀ i,(bF src).1.getD i default=default\/Lex.Shape ((bF src).1.getD i default):=fun i=>by
   rw[av];cases c:(bF src).1[i]? with
   |none=>exact .inl rfl
   |some x=>exact .inr (Lex.A8 x (aT c))
 refine⟨(Ph h).len,fun i hk=>?_,fun i=>?_⟩
 ·rcases all i with e|s
  ·rw[e]at hk;cases hk
  ·exact a7c s hk
 ·rcases all i with e|s
  ·rw[e];decide
  ·exact Xq s
theorem yF {s:S}:∀ {l:List TokQ} {a:Nat},Lex.Chain s a l->(∀ i,i < l.length->(l.getD i default).f<=(l.getD i default).e/\(l.getD i default).e<=s.length/\a<=(l.getD i default).f)/\∀ i,i+1 < l.length->(l.getD i default).e<=(l.getD (i+1) default).f
 |[],_,_=>⟨fun i hi=>by simp at hi,fun i hi=>by simp at hi⟩
 |x::r,a,h=>by
  obtain⟨h1,h2,h3,_,_,_,h7⟩:=h;obtain⟨i1,i2⟩:=yF h7;refine⟨fun i hi=>?_,fun i hi=>?_⟩
  ·cases i with
   |zero=>exact⟨h2,h3,h1⟩
   |succ i=>
    have:=i1 i (by simpa using hi);simp only[ir];omega
  ·cases i with
   |zero=>
    have:=i1 0 (by simpa using hi);simp only[ir,fR];omega
   |succ i=>
    simp only[ir];exact i2 i (by simpa using hi)
theorem plcT {src:S} (h:(bF src).2.c=0):OL (bF src).1:=by
 obtain⟨_,_,_,hc,_,_⟩:=Lex.o9 src h;obtain⟨h1,h2⟩:=yF hc;exact⟨fun i hi=>(h1 i hi).1,h2⟩
theorem XE {src:S} (h:(bF src).2.c=0) (i:Nat):((bF src).1.getD i default).f<=((bF src).1.getD i default).e/\((bF src).1.getD i default).e<=src.length:=by
 obtain⟨_,_,_,hc,_,_⟩:=Lex.o9 src h;obtain⟨h1,_⟩:=yF hc;by_cases hi:i < (bF src).1.length
 ·exact⟨(h1 i hi).1,(h1 i hi).2.1⟩
 ·rw[av,bM om];exact⟨ai _,aR _⟩
def IF (l:List TokQ) (x:EX):Prop:=∀ c f e,x= .bad c f e->(c=120\/c=121)/\∃ i:Nat,f=(l.getD i default).f/\e=(l.getD i default).e
section
variable {l:List TokQ}
theorem M7 {g:Q->PS->Option EX} (hg:∀ q s x,g q s=some x->IF l x):∀ (p:Pr) (s:PS) (x:EX),aF l g p s=some x->IF l x:=by
 have hb:∀ (c:Int) (s:PS) (x:EX),c=120\/c=121->BM l c s=some x->IF l x:=fun c s x hc h=>by
   simp only[BM,aa]at h;subst h;rintro c' f e h;simp only[EX.bad.injEq]at h;obtain⟨rfl,rfl,rfl⟩:=h;exact⟨hc,s.at_.toNat,rfl,rfl⟩
 intro p;induction p with
 |ret r=>intro s x h;simp only[aF,aa]at h;subst h;intro c f e h;cases h
 |dead=>intro s x h;cases h
 |tail q=>intro s x h;exact hg q s x h
 |fail k ih=>intro s x h;exact hb 120 s x (.inl rfl) h
 |take y k ih=>intro s x h;simp only[aF]at h;split at h<;>exact ih _ _ _ h
 |need y k ih=>intro s x h;simp only[aF]at h;split at h<;>first|exact ih _ _ h|exact hb 120 s x (.inl rfl) h
 |name k ih=>intro s x h;simp only[aF]at h;split at h<;>first|exact ih _ _ _ h|exact hb 120 s x (.inl rfl) h
 |is y k ih=>intro s x h;exact ih _ _ _ h
 |ok k ih=>intro s x h;exact ih _ _ _ h
 |kind y k ih=>intro s x h;exact ih _ _ _ h
 |text y k ih=>intro s x h;exact ih _ _ _ h
 |val k ih=>intro s x h;exact ih _ _ _ h
 |sign y k ih=>intro s x h;exact ih _ _ _ h
 |pos k ih=>intro s x h;exact ih _ _ _ h
 |down k ih=>intro s x h;exact ih _ _ h
 |dI k ih=>intro s x h;simp only[aF]at h;split at h<;>first|exact ih _ _ h|cases h
 |into y k ih=>
  intro s x h;simp only[aF]at h;split at h
  ·split at h
   ·exact hb 121 s x (.inr rfl) h
   ·exact ih _ _ _ h
  ·exact hb 120 s x (.inl rfl) h
 |node fr n k ih=>intro s x h;simp only[aF]at h;split at h<;>first|exact ih _ _ _ h|cases h
 |unit k ih=>intro s x h;simp only[aF]at h;split at h<;>first|exact ih _ _ _ h|cases h
 |call q k ih=>
  intro s x h;simp only[aF]at h;split at h
  ·split at h
   ·exact ih _ _ _ h
   ·cases h
  ·exact hg _ _ _ h
theorem Dw:∀ (n:Nat) (q:Q) (s:PS) (x:EX),cM l n q s=some x->IF l x
 |0,_,_,_,h=>by cases h
 |n+1,q,s,x,h=>M7 (fun q s x=>Dw n q s x) (prog q) s x h
end
def oe (l:List TokQ):Option EX->Option EX
 |some (.ok r s1)=>match fb l s1 && jM r.ks && decide (s1.ns.length=s1.n) && decide (s1.n < 1000000)with
  |true=>some (.ok (rI (w (((s1.n+1:Nat):Int) - 1))) {s1 with n:=s1.n+1,ns:=s1.ns++[N.D ⟨1,[],0,r.ks.l⟩ 0 (now l s1).e]})
  |false=>none
 |x=>x
def CR (l:List TokQ) (n:Nat):Option EX:=oe l (cM l n (.items K.o) S0)
theorem tW {l:List TokQ} {o o':Option EX} (h:∀ x,o=some x->o'=some x):∀ x,oe l o=some x->oe l o'=some x:=by
 intro x hx;cases o with
 |none=>cases hx
 |some y=>rw[h y rfl];exact hx
theorem xE {l:List TokQ} {n m:Nat} (hm:n<=m) {x:EX} (h:CR l n=some x):CR l m=some x:=tW (fun _ e=>kO hm e) x h
theorem VI {l:List TokQ} {n m:Nat} {x y:EX} (h:CR l n=some x) (h':CR l m=some y):x=y:=Option.some.inj ((xE (cN n m) h).symm.trans (xE (cn n m) h'))
structure Whole (l:List TokQ) (s1:PS) (T:Fo):Prop where
 ok:fb l s1=true
 ns:s1.ns=T.lay 0
 n:s1.n=T.sz
 sz:T.sz<=1000000
 one:∃ e W,T= .cons 1 [] 0 0 e W .nil/\e=(now l s1).e
 wi:T.wi 0 (Mn l l.length)
 rt:T.rt
theorem Na {src:S} (h:(bF src).2.c=0):∃ n x,CR (bF src).1 n=some x/\IF (bF src).1 x/\∀ r s1,x= .ok r s1->∃ T,Whole (bF src).1 s1 T:=by
 have hl:=a7g h;have hp:=plcT h;have ht:=tkT h;have hne:0 < (bF src).1.length:=dc.2 (Lex.o9 src h).2.2.2.2.1;generalize(bF src).1=l at*;have hlen:=ht.len;have h0:fb l S0=true:=by unfold fb;rw[au (show(0:Int)<=S0.at_ from cI _),au (show S0.at_ < (l.length:Int)by show(0:Int) < _;omega)];rfl
 obtain⟨x,hx,hr⟩:=Wq hl hp ht (64*l.length+20) (.items K.o) S0 .nil 0 990000 false h0 ⟨cI _,cI _⟩ trivial (fun h=>by cases h) (fun ks hk=>by cases hk;rfl) ⟨.nil,rfl,rfl,rfl,trivial,(fun x hx=>by cases hx),trivial⟩ (by show((0:Nat):Int)+15* ((l.length:Int) - 0)<=990000;omega) om (by show 64* ((l.length:Int) - 0)+((2:Nat):Int) < ((64*l.length+20:Nat):Int);omega);cases x with
 |bad c f e=>exact⟨_,.bad c f e,by show oe l (cM l _ (.items K.o) S0)=_;rw[hx];rfl,Dw _ _ _ _ hx,fun r s1 h=>by cases h⟩
 |ok r s1=>
  obtain⟨⟨W,w1,w2,w3,w4,w5,w6⟩,ck,hm⟩:=hr r s1 rfl;have ho:=((vY hl _) _ _ _ _ (cI 0) (by show(0:Int)<=_;omega) hx).1.ok h0;have hq:=sw ho;have w1:s1.ns=W.lay 0:=w1;have w2:s1.n=W.sz:=w2;have w3:W.idx 0=r.ks.l:=w3;have w5:All 105 W.kl:=w5;have ck:r.ks.l.length=r.ks.n:=ck;have hm:(s1.n:Int)+15* ((l.length:Int) - s1.at_)<=990000+0:=hm;have hks:r.ks.n<=s1.n:=by have:=Fo.Rv W;rw[<-ck,<-w3,Fo.Bb,w2];exact this
  have h0f:(0:Int)<=R6 l 0:=by unfold R6;omega
  refine⟨64*l.length+20,.ok (rI (w (((s1.n+1:Nat):Int) - 1))) {s1 with n:=s1.n+1,ns:=s1.ns++[N.D ⟨1,[],0,r.ks.l⟩ 0 (now l s1).e]},?_,fun c f e hh=>(by cases hh),fun r' s' hh=>?_⟩
  ·show oe l (cM l _ (.items K.o) S0)=_;rw[hx];simp only[oe,ho,jM,au ck,au (show r.ks.n < 1000000 by omega),au (show s1.ns.length=s1.n by rw[w1,w2,Fo.cH]),au (show s1.n < 1000000 by omega),cF]
  ·cases hh;refine⟨.cons 1 [] 0 0 (now l s1).e W .nil,ho,?_,?_,?_,⟨_,_,rfl,rfl⟩,?_,⟨rfl,rfl,rfl,i0,xl rfl w5⟩,w6,trivial⟩
   ·show s1.ns++[_]=_;rw[w1];simp only[Fo.lay];rw[w3]
   ·show s1.n+1=_;rw[w2];rfl
   ·show W.sz+1+0<=_;omega
   ·have e1:((now l s1).e:Int)=Mn l (s1.at_+1):=by unfold Mn now;rw[Int.add_sub_cancel]
    refine⟨cI _,om,?_,?_,trivial⟩
    ·rw[e1];exact xw hp om (cI _) hne
    ·exact Fo.uh h0f (by rw[e1];exact xw hp om om hne) w4
end Go.Vm.Pa
namespace Go.Vm.Pa
open Go.Vm.Pk (Nd fh)
def Fo.ix (n:Nat):Fo->List Nat
 | .nil=>[]
 | .cons _ _ _ _ _ a b=>(n+a.sz)::b.ix (n+a.sz+1)
def Fo.eO (n:Nat):Fo->List Nd
 | .nil=>[]
 | .cons k t v f e a b=>a.eO n++⟨k,t,v,a.ix n,f,e⟩::b.eO (n+a.sz+1)
theorem Fo.JZ:∀ (a:Fo) (n:Nat),a.idx n=(a.ix n).map fun k:Nat=>D.int .i64 (k:Int)
  | .nil,_=>rfl
  | .cons _ _ _ _ _ a b,n=>by simp only[Fo.idx,Fo.ix,aB,Fo.JZ b]
theorem Fo.w9:∀ (a:Fo) (n:Nat),a.lay n=(a.eO n).map Nd.D
 | .nil,_=>rfl
 | .cons k t v f e a b,n=>by
   simp only[Fo.lay,Fo.eO,aM,aB,Fo.w9 a,Fo.w9 b];rw[Fo.JZ];rfl
theorem Fo.jD:∀ (a:Fo) (n:Nat),(a.eO n).length=a.sz
 | .nil,_=>rfl
 | .cons _ _ _ _ _ a b,n=>by simp only[Fo.eO,ah,aw,Fo.jD a,Fo.jD b,Fo.sz];omega
theorem Fo.yX:∀ (a:Fo) (n:Nat),(a.ix n).length<=a.sz/\∀ k∈a.ix n,n<=k/\k < n+a.sz
 | .nil,_=>⟨ai _,fun k hk=>by cases hk⟩
 | .cons _ _ _ _ _ a b,n=>by
   obtain⟨h1,h2⟩:=Fo.yX b (n+a.sz+1);simp only[Fo.ix,Fo.sz,aw,bs];refine⟨om,?_⟩;rintro k (rfl|hk)
   ·omega
   ·have:=h2 k hk;omega
theorem Fo.JY:∀ (a:Fo) (n j:Nat) (nd:Nd),(a.eO n)[j]? =some nd->nd.ks.length<=j/\∀ k∈nd.ks,n<=k/\k < n+j
 | .nil,_,_,_,h=>by simp[Fo.eO]at h
 | .cons k t v f e a b,n,j,nd,h=>by
   simp only[Fo.eO]at h;have hl:=Fo.jD a n;by_cases h1:j < a.sz
   ·rw[aD om]at h;exact Fo.JY a n j nd h
   ·rw[aK om,hl]at h;by_cases h2:j=a.sz
    ·subst h2;rw[dR]at h;simp only[aV,aa]at h;subst h;exact Fo.yX a n
    ·obtain⟨m,hm⟩:∃ m,j - a.sz=m+1:=⟨j - a.sz - 1,om⟩;rw[hm,bR]at h;obtain⟨q1,q2⟩:=Fo.JY b (n+a.sz+1) m nd h;refine⟨om,fun k hk=>?_⟩;have:=q2 k hk;omega
def xm (T:Fo) (len:Nat):Fo×Int×Int×Int:=if 20000 < T.sz then(.nil,2,0,len) else if 400 < fh (T.eO 0) then(.nil,121,0,len) else(T,0,0,0)
end Go.Vm.Pa
namespace Go.Vm.Px
open Go.Vm.Lex (TokQ bF qA zk)
open Go.Vm.Pa hiding go
open Go.Vm.Pk (Nd fh)
open Go.Vm.Ite
open Go Go.Proofs Go.RowKit
def vo (W:Fo):D:=qy (W.eO 0)
def b1a (l:List TokQ) (len:Nat):EX->Fo->Int->Int->Int->Prop
 | .bad c0 f0 e0,W,c,f,e=>W= .nil/\c=c0/\f=f0/\e=e0/\(c0=120\/c0=121)/\∃ i:Nat,f0=(l.getD i default).f/\e0=(l.getD i default).e
 | .ok _ s1,W,c,f,e=> ∃ T,Whole l s1 T/\if(now l s1).k=5 then(W,c,f,e)=xm T len else W= .nil/\c=120/\f=(now l s1).f/\e=(now l s1).e
def IB (src:S) (W:Fo) (c f e:Int):Prop:=
 (65536 < src.length/\W= .nil/\c=2/\f=0/\e=0)\/
 (src.length<=65536/\(bF src).2.c≠0/\W= .nil/\c=(bF src).2.c/\f=(bF src).2.f/\e=(bF src).2.e)\/
 (src.length<=65536/\(bF src).2.c=0/\∃ n x,CR (bF src).1 n=some x/\b1a (bF src).1 src.length x W c f e)
abbrev crN:Nat:=14
theorem DG (l:List TokQ) (o:Option EX):qp l o=oe l o:=by
 cases o with
 |none=>rfl
 |some x=>cases x<;>rfl
section
variable {fx:Nat->Option Obj}
theorem N0 (T:Fo) (len:Nat):AB (T.eO 0) len= .tup [.d (vo (xm T len).1),.d (zk (xm T len).2.1 (xm T len).2.2.1 (xm T len).2.2.2)]:=by
 unfold AB xm;rw[Fo.jD];split
 ·rfl
 ·split<;>rfl
theorem QU {T:Fo} (h1:T.sz<=1000000) (h2:T≠ .nil):IC (T.eO 0):=by
 refine⟨fun e=>h2 ?_,by rw[Fo.jD];exact h1,fun j nd hj=>?_⟩
 ·cases T with
  |nil=>rfl
  |cons _ _ _ _ _ a b=>simp[Fo.eO]at e
 ·have hlt:=(az.1 hj).1;rw[Fo.jD]at hlt;obtain⟨q1,q2⟩:=Fo.JY T 0 j nd hj;exact⟨om,fun k hk=>by have:=q2 k hk;omega⟩
theorem qD (X:zo fx) (src:S):∃ W c f e,IB src W c f e/\∀ H,dw Tryz.prog ⟨fun _=>[],fx⟩ 13 [.d (.str src),.fn crN []] H (.tup [.d (vo W),.d (zk c f e)]) H:=by
  by_cases h1:65536 < src.length
  ·exact⟨.nil,2,0,0,.inl ⟨h1,rfl,rfl,rfl,rfl⟩,fun H=>Gs X src _ (by decide) (.inl ⟨h1,rfl,rfl,rfl⟩) H⟩
  by_cases hc:(bF src).2.c=0
  rotate_left
  ·exact⟨.nil,(bF src).2.c,(bF src).2.f,(bF src).2.e,.inr (.inl ⟨om,hc,rfl,rfl,rfl,rfl⟩),fun H=>Gs X src _ hc (.inr ⟨om,rfl,rfl,rfl⟩) H⟩
  obtain⟨n,x,hrun,hbad,hok⟩:=Na hc;have hne:0 < (bF src).1.length:=dc.2 (Go.Vm.Lex.o9 src hc).2.2.2.2.1;have A:wv (H7 (bF src).1 (bF src).2.c (bF src).2.f (bF src).2.e P0) 3 4 (bF src).1 P0 false:=⟨by decide,rfl,rfl⟩;have G:Good (bF src).1 P0:=⟨a7g hc,by unfold fb;rw[au (show(0:Int)<=P0.at_ from cI _),au (show P0.at_ < ((bF src).1.length:Int)by show(0:Int) < _;omega)];rfl,rfl,rfl,rfl⟩;have hs:∀ s1,sE (H7 (bF src).1 (bF src).2.c (bF src).2.f (bF src).2.e P0) 3 4 (bF src).1 s1 false=H7 (bF src).1 (bF src).2.c (bF src).2.f (bF src).2.e s1:=fun _=>rfl;cases x with
  |bad c f e=>
   obtain⟨q1,q2⟩:=hbad c f e rfl;have hd:og Tryz.prog ⟨fun _=>[],fx⟩ (KP 3) Cm crN [.ptr 3 0] (H7 (bF src).1 (bF src).2.c (bF src).2.f (bF src).2.e P0) (pK c f e):=by
     refine Ks (n:=n) G A ?_;rw[DG];exact tW (fun y hy=>kO (Nat.le_succ n) hy) _ hrun
   exact⟨.nil,c,f,e,.inr (.inr ⟨om,hc,n,_,hrun,rfl,rfl,rfl,rfl,q1,q2⟩),fun H=>Gt X src _ om hc (Cj hd (by show 3 < 6;decide)) H⟩
  |ok r s1=>
   obtain⟨T,hT⟩:=hok r s1 rfl;have hf:∃ v,dw Tryz.prog ⟨fun _=>[],fx⟩ crN [.ptr 3 0] (H7 (bF src).1 (bF src).2.c (bF src).2.f (bF src).2.e P0) v (sE (H7 (bF src).1 (bF src).2.c (bF src).2.f (bF src).2.e P0) 3 4 (bF src).1 s1 false):=by
     refine⟨_,SI (n:=n) (R:=r) G A ?_⟩;rw[DG];exact tW (fun y hy=>kO (Nat.le_succ n) hy) _ hrun
   obtain⟨v,hf⟩:=hf;by_cases h5:(now (bF src).1 s1).k=5
   ·have hr:=zy A hf hT.ok h5;have hTn:T≠ .nil:=by obtain⟨_,_,rfl,_⟩:=hT.one;simp
    refine⟨(xm T src.length).1,(xm T src.length).2.1,(xm T src.length).2.2.1,(xm T src.length).2.2.2,.inr (.inr ⟨om,hc,n,_,hrun,T,hT,?_⟩),fun H=>?_⟩
    ·rw[ay h5]
    ·rw[<-N0];exact Nj X src _ om hc (hT.ns.trans (Fo.w9 T 0)) (hT.n.trans (Fo.jD T 0).symm) (QU hT.sz hTn) hr H
   ·have hr:=PY A hf hT.ok h5;refine⟨.nil,120,(now (bF src).1 s1).f,(now (bF src).1 s1).e,.inr (.inr ⟨om,hc,n,_,hrun,T,hT,?_⟩),fun H=>Gt X src _ om hc hr H⟩;rw[aA h5];exact⟨rfl,rfl,rfl,rfl⟩
end
end Go.Vm.Px
