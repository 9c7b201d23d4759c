import Derived.Test.YtkedogplneaaiaaGreatDoorPyM
import Derived.Test.YtkedogplneaaiaaGreatDoorVmNum
import Derived.Test.YtkedogplneaaiaaGreatDoorPzC
import Derived.Test.YtkedogplneaaiaaGreatDoorPxV
import Derived.Test.YtkedogplneaaiaaGreatDoorVmWx
set_option maxRecDepth 100000
set_option linter.unusedVariables false
set_option linter.unusedSimpArgs false
namespace Go.Vm.Pk
open Go Go.Proofs Go.RowKit Go.Shelf
structure Nd where
 k:Int
 s:List UInt8
 v:Int
 ks:List Nat
 f:Int
 e:Int
def Nd.D (n:Nd):D:= .agg [.int .i64 n.k,.str n.s,.int .i64 n.v,.sl (n.ks.map fun k:Nat=>D.int .i64 (k:Int)),.int .i64 n.f,.int .i64 n.e]
def g4l (C:Nat->List Value) (v:Value) (ks:List Nat):Prop:=∃ a cap,v= .slice a ks.length cap/\(ks=[]\/∃ b off,a=some ⟨b,off,none⟩/\C b≠[]/\∀ (i k:Nat),ks[i]? =some k->(C b)[off+i]? =some (.int .i64 (k:Int)))
theorem f7a {C:Nat->List Value} {ks:List Nat} {v:Value} (h:a0p C (.sl (ks.map fun k:Nat=>D.int .i64 (k:Int))) [v]):∃ a cap,v= .slice a ks.length cap/\g4l C v ks:=by
  simp only[a0p]at h
  obtain⟨a,cap,e,hc,h⟩:=h
  simp only[List.cons.injEq,and_true,List.length_map]at e
  subst e
  refine⟨a,cap,rfl,a,cap,rfl,?_⟩
  cases ks with
  |nil=>exact .inl rfl
  |cons k0 ks=>
   right
   rcases h with h|⟨b,off,sz,us,rfl,hs,hp,hr⟩
   ·cases h
   have hsz:sz=1:=by
    have h2:=hr
    simp only[List.map_cons,a2a]at h2
    obtain⟨v1,v2,-,hl,h3,-⟩:=h2
    simp only[a0p]at h3
    rw[<-hl,h3]
    rfl
   subst hsz
   have key:∀ (i k:Nat),(k0::ks)[i]? =some k->(C b)[off+i]? =some (.int .i64 (k:Int)):=fun i k hi=>by
     have hg:=b6e (i:=i) (d:= .int .i64 (k:Int)) hr (by rw[List.getElem?_map,hi];rfl)
     simp only[a0p,Nat.mul_one]at hg
     have h0:us[i]? =some (.int .i64 (k:Int)):=by
      have:=congrArg (·[0]?) hg
      simpa [List.getElem?_take] using this
     have:=a2b hp h0
     rwa [List.getElem?_drop]at this
   refine⟨b,off,rfl,fun e=>?_,key⟩
   have:=key 0 k0 rfl
   rw[e]at this
   simp at this
theorem d5d {C:Nat->List Value}:∀ (nds:List Nd) (vs:List Value),a2a C 6 (nds.map Nd.D) vs->∃ ns:List Nv,ns.length=nds.length/\(∀ (j:Nat) (n:Nv) (i:Nat) (v:Value),ns[j]? =some n->n.list[i]? =some v->vs[j*6+i]? =some v)/\∀ (j:Nat) (nd:Nd) (n:Nv),nds[j]? =some nd->ns[j]? =some n->g4l C n.kids nd.ks
 |[],_,_=>⟨[],rfl,fun j n i v h=>by simp at h,fun j nd n h=>by simp at h⟩
 |nd::nds,vs,h=>by
  simp only[List.map_cons,a2a]at h
  obtain⟨v1,v2,rfl,hl,h1,h2⟩:=h
  obtain⟨ns,i1,i2,i3⟩:=d5d nds v2 h2
  unfold Nd.D at h1
  simp only[a0p,a1n]at h1
  obtain⟨y1,z1,rfl,-,e1,y2,z2,rfl,-,e2,y3,z3,rfl,-,e3,y4,z4,rfl,-,e4,y5,z5,rfl,-,e5,y6,z6,rfl,-,e6,rfl⟩:=h1
  have e4':a0p C (.sl (nd.ks.map fun k:Nat=>D.int .i64 (k:Int))) [y4]:=by simp only[a0p];exact e4
  obtain⟨a,cap,rfl,hk⟩:=f7a e4'
  simp only[List.cons.injEq,and_true]at e1 e2 e3 e5 e6
  subst e1;subst e2;subst e3;subst e5;subst e6
  refine⟨⟨nd.k,⟨nd.s.toArray⟩,nd.v,a,nd.ks.length,cap,nd.f,nd.e⟩::ns,by simp[i1],fun j n i v hj hi=>?_,fun j nd' n hj hn=>?_⟩
  ·cases j with
   |zero=>
    simp only[List.getElem?_cons_zero,Option.some.injEq]at hj
    subst hj
    have hi6:=(List.getElem?_eq_some_iff.1 hi).1
    rw[List.getElem?_append_left (by simpa using hi6)]
    simpa using hi
   |succ j=>
    simp only[List.getElem?_cons_succ]at hj
    have:=i2 j n i v hj hi
    rw[List.getElem?_append_right (by simp;omega)]
    rw[<-this]
    congr 1
    simp
    omega
  ·cases j with
   |zero=>
    simp only[List.getElem?_cons_zero,Option.some.injEq]at hj hn
    subst hj;subst hn
    exact hk
   |succ j=>exact i3 j nd' n hj hn
def b0k (nds:List Nd) (j:Nat):List Nat:=match nds[j]? with|some n=>n.ks|none=>[]
def a2w (nds:List Nd):Nat:=(d3q (b0k nds) nds.length (back nds.length nds.length)).2
theorem cell_of {W:World} {b i:Nat} {cur:Array Value} {t:TypeId} {fz:Nat×Nat} {v:Value} (h:W.heap[b]? =some (.cells cur t fz)) (hv:cur.toList[i]? =some v):W.cell? ⟨b,i,none⟩=some v:=by
 simp only[World.cell?,h]
 simpa using hv
theorem c8b (cx:Cx) (nds:List Nd) (H:Hp) (hne:nds≠[]) (hmax:nds.length<=20000000) (hks:∀ (j:Nat) (n:Nd),nds[j]? =some n->n.ks.length<=20000000/\∀ k∈n.ks,k < j):a1z Tryz.prog cx 44 [.d (.agg [.sl (nds.map Nd.D)])] H (.d (.int .i64 (a2w nds:Int))) H:=by
 refine⟨⟨Tryz.f44,Tryz.func44,rfl,by decide⟩,fun g w cargs hI ra ua=>?_⟩
 simp only[a0w,Rep,a3d,a1n,a0p]at ra
 obtain⟨x,xs,e1,⟨cs,rfl,y,ys,e2,-,⟨a0,cap,e4,hcap,hl⟩,rfl⟩,rfl⟩:=ra
 simp only[List.cons.injEq,and_true,List.length_map]at e4
 subst e4
 have e3:cargs= #[.agg #[.slice a0 nds.length cap]]:=by
  have:cs= #[.slice a0 nds.length cap]:=Array.ext' e2
  subst this
  exact Array.ext' e1
 subst e3
 have hfin:∀ (ns:List Nv),ns.length=nds.length->c4i w.heap.size w (.slice a0 ns.length cap) ns->(∀ (j:Nat) (nd:Nd) (n:Nv),nds[j]? =some nd->ns[j]? =some n->g4l g.C n.kids nd.ks)->Calls Tryz.prog 44 #[.agg #[.slice a0 nds.length cap]] w (fun e w'=> ∃ g' x,e= .returned x/\Inv cx g' H w'/\Rep g' H (.d (.int .i64 (a2w nds:Int))) x/\(V.d (.int .i64 (a2w nds:Int))).und H.length=true/\Ext H.length g H w g' H w'):=by
   intro ns hlen hN hK
   have:=f7w Fence.wide 3 trivial trivial trivial rfl (Nat.le_refl _) a0 cap ns (b0k nds) om w hN fun j hj=>by
     obtain⟨nd,hnd⟩:∃ nd,nds[j]? =some nd:=⟨_,List.getElem?_eq_getElem om⟩
     have hnj:ns[j]? =some (g6z ns j):=by simp[g6z,List.getElem?_eq_getElem hj]
     obtain⟨a1,c1,q1,q2⟩:=hK j nd _ hnd hnj
     obtain⟨q3,q4⟩:=hks j nd hnd
     have hko:b0k nds j=nd.ks:=by simp[b0k,hnd]
     rw[hko]
     refine⟨⟨a1,c1,q1,q3,?_⟩,q4⟩
     by_cases hz:nd.ks=[]
     ·exact .inl hz
     ·rcases q2 with h1|⟨b,off,e1,e2,e3⟩
      ·exact absurd h1 hz
      ·obtain⟨cur,e,fz,p1,p2⟩:=hI.imm b e2
       exact .inr ⟨b,off,e1,(Array.getElem?_eq_some_iff.1 p1).1,fun i k hi=>cell_of p1 (a2b p2 (e3 i k hi))⟩
   rw[hlen]at this
   refine(callsIn_wide.1 this).mono ?_
   rintro e w' ⟨rfl,hB⟩
   obtain⟨i1,i2⟩:=hI.below hB
   exact⟨g,_,rfl,i1,rfl,rfl,i2⟩
 rcases hl with h|⟨b,off,sz,us,rfl,hsz,hp,hr⟩
 ·exact absurd (List.map_eq_nil_iff.1 h) hne
 have hs6:sz=6:=by
  cases nds with
  |nil=>exact absurd rfl hne
  |cons nd nds=>
   have h2:=hr
   simp only[List.map_cons,a2a]at h2
   obtain⟨v1,v2,-,hl1,h3,-⟩:=h2
   unfold Nd.D at h3
   simp only[a0p,a1n]at h3
   obtain⟨y1,z1,rfl,-,-,y2,z2,rfl,-,-,y3,z3,rfl,-,-,y4,z4,rfl,-,-,y5,z5,rfl,-,-,y6,z6,rfl,-,-,rfl⟩:=h3
   rw[<-hl1];rfl
 subst hs6
 obtain⟨ns,n1,n2,n3⟩:=d5d nds _ hr
 have hne2:g.C b≠[]:=fun e=>by
   rw[e]at hp
   have hu:us=[]:=by simpa using hp
   rw[hu]at n2
   cases ns with
   |nil=>exact hne (List.length_eq_zero_iff.1 n1.symm)
   |cons n ns=>
    have:=n2 0 n 0 _ rfl rfl
    simp at this
 obtain⟨cur,e,fz,p1,p2⟩:=hI.imm b hne2
 have hb:b < w.heap.size:=(Array.getElem?_eq_some_iff.1 p1).1
 refine hfin ns n1 (.inr ⟨b,off,cap,by rw[n1],hb,fun j n i v h1 h2=>?_⟩) n3
 have h3:=n2 j n i v h1 h2
 have h4:=a2b hp h3
 rw[List.getElem?_drop]at h4
 have h5:=cell_of p1 (a2b p2 h4)
 rw[Nat.add_assoc]
 exact h5
end Go.Vm.Pk
namespace Go.Vm.Px
open Go.Vm.Lex (TokQ a0k a7b dgD)
open Go.Vm.Pa hiding go
open Go.Vm.Pk (Nd a2w c8b)
open Go.Vm.Ite
open Go Go.Proofs Go.RowKit
def c2y (nds:List Nd):D:= .agg [.sl (nds.map Nd.D)]
open Classical in
noncomputable def d9g (nds:List Nd) (a:List V) (h:Hp):Option (V×Hp):=if a=[.d (c2y nds)] then some (.d (.int .i64 (a2w nds:Int)),h) else none
noncomputable def FD (nds:List Nd):Nat->Option a0v
 |44=>some (.prim (d9g nds))
 |_=>none
structure f2p (nds:List Nd):Prop where
 ne:nds≠[]
 len:nds.length<=1000000
 kid:∀ (j:Nat) (n:Nd),nds[j]? =some n->n.ks.length<=20000000/\∀ k∈n.ks,k < j
section
variable {fx:Nat->Option Obj}
theorem tblD {nds:List Nd} (h:f2p nds):a3i Tryz.prog (pgL fx (FD nds)):=f8k ⟨fun _=>[],fx⟩ (FD nds) fun f e hf=>by
  unfold FD at hf
  split at hf
  ·cases hf
   intro args H r H' hh
   unfold d9g at hh
   split at hh
   ·rename_i hc
    cases hh
    subst hc
    exact c8b _ nds _ h.ne (by have:=h.len;omega) h.kid
   ·cases hh
  ·cases hf
theorem h0g {nds:List Nd} {H:Hp}:evF (pgL fx (FD nds)) 44 [.d (c2y nds)] H=some (.d (.int .i64 (a2w nds:Int)),H):=by
 rw[b3t (show(pgL fx (FD nds)).tbl 44=some (.prim (d9g nds))from rfl)]
 exact if_pos rfl
def d9v (nds:List Nd) (len:Nat):V:=if 20000 < nds.length then .tup [.d (c2y []),.d (dgD 2 0 len)] else if 400 < a2w nds then .tup [.d (c2y []),.d (dgD 121 0 len)] else .tup [.d (c2y nds),.d (dgD 0 0 0)]
theorem tr4 {H:Hp} {nds:List Nd} (h:H[4]? =some (.row 6 (nds.map Nd.D))):toArg H (.agg [.row 4 nds.length])= .d (c2y nds):=by
 have e:(nds.map Nd.D).length=nds.length:=List.length_map ..
 simp only[toArg,toD,e7e,b2i,h,e,if_true]
 rfl
theorem h2l (src:S) (rf:Nat) (hs:src.length<=65536) {l:List TokQ} {c f e:Int} {s1:PS} {nds:List Nd} (h1:s1.ns=nds.map Nd.D) (h2:s1.n=nds.length) (h3:f2p nds):
 WQ (pgL fx (FD nds)) 0 (vR (vR (vR (vR (vR (vR (vR d20))))))) [] (E7 src rf) (H7 l c f e s1) fun x1 _ e' H'=>x1= .ret/\∃ vs,a9n e' H' [.cell 4 (some 1),.cell 5 (some 3)]=some vs/\a0z 0 (vs.map (toArg H'))=true/\oneOf (vs.map (toArg H'))=d9v nds src.length:=by
 have hlen:=h3.len
 unfold d9v
 have hd:=fun H=>h0g (fx:=fx) (nds:=nds) (H:=H)
 have hln:(nds.map Nd.D).length=nds.length:=List.length_map ..
 obtain⟨at_,deep,ns,n,bc,bf,be⟩:=s1
 simp only at h1 h2
 subst h1;subst h2
 by_cases c1:20000 < nds.length
 ·have c1':(20000:Int) < ((nds.length:Nat):Int):=om
  rw[if_pos c1]
  repeat' (first|refine run ⟨?_⟩|refine ca (hd _) ?_|fail)
  exact⟨_,rfl,rfl,rfl⟩
 ·have c1':¬ (20000:Int) < ((nds.length:Nat):Int):=om
  rw[if_neg c1]
  by_cases c2:400 < a2w nds
  ·have c2':(400:Int) < ((a2w nds:Nat):Int):=om
   rw[if_pos c2]
   repeat' (first|refine run ⟨?_⟩|refine And.intro hln ?_|refine ca (hd _) ?_|fail)
   exact⟨_,rfl,rfl,rfl⟩
  ·have c2':¬ (400:Int) < ((a2w nds:Nat):Int):=om
   rw[if_neg c2]
   repeat' (first|refine run ⟨?_⟩|refine And.intro hln ?_|refine ca (hd _) ?_|fail)
   refine⟨_,rfl,?_,?_⟩
   ·show a0z 0 [toArg _ (.agg [.row 4 nds.length]),_]=true
    rw[tr4 rfl];rfl
   ·show oneOf [toArg _ (.agg [.row 4 nds.length]),_]=_
    rw[tr4 rfl];rfl
end
end Go.Vm.Px
namespace Go.Vm.Px
open Go.Vm.Lex (TokQ a0k a7b dgD)
open Go.Vm.Pa hiding go
open Go.Vm.Pk (Nd a2w)
open Go.Vm.Ite
open Go Go.Proofs Go.RowKit
section
variable {fx:Nat->Option Obj}
theorem f0k (nds:List Nd) (n:Nat):(d9v nds n).und 0=true:=by
 unfold d9v
 split
 ·rfl
 ·split<;>rfl
theorem e9s (X:e7g fx) (src:S) (rf:Nat) (h1:src.length<=65536) (hc:(a0k src).2.c=0) {s1:PS} {nds:List Nd} (e1:s1.ns=nds.map Nd.D) (e2:s1.n=nds.length) (e3:f2p nds)
 (hrun:a1z Tryz.prog ⟨fun _=>[],fx⟩ 43 [.ptr 3 0,.fn rf []] (H7 (a0k src).1 (a0k src).2.c (a0k src).2.f (a0k src).2.e P0) (.ifc true) (H7 (a0k src).1 (a0k src).2.c (a0k src).2.f (a0k src).2.e s1)) (H:Hp):
 a1z Tryz.prog ⟨fun _=>[],fx⟩ 20 [.d (.str src),.fn rf []] H (d9v nds src.length) H:=by
 refine b9b (N:=66) Tryz.func20 b20 kr r20 (by decide) kr (by show 2<=66;decide) rfl (f0k _ _) (fun g w a ok=>?_) H
 refine h2g X src rf h1 hc ok fun g1 a1 w1 ok1 E1=>?_
 apply wp_seq
 rw[h6y]
 apply wp_seq
 have e0:Code.region (cId (cL (cL (cD c20 6)))) e9m false=cL (cL (cD c20 6)):=kr
 rw[e0]
 refine reg8 (K:=fun g' H' x w'=>H'=H7 (a0k src).1 (a0k src).2.c (a0k src).2.f (a0k src).2.e s1/\x= .nilIface/\Ext 0 g [] w g' H' w') ok1 (fun cargs ra=>?_) (fun g' H' x w' p hK hI' hE' hp=>?_)
 ·refine(hrun.2 g1 w1 cargs ok1.inv ra rfl).mono ?_
  rintro e w2 ⟨g2,x,rfl,i2,r2,_,E2⟩
  simp only[Rep]at r2
  have hx:x= .nilIface:=by
   rcases r2 with⟨_,h⟩|⟨h,_⟩
   ·exact h
   ·cases h
  exact⟨g2,_,x,rfl,i2,E2,rfl,hx,E1.trans E2 (Nat.zero_le _)⟩
 ·obtain⟨rfl,rfl,E2⟩:=hK
  refine((d9o (cx:=⟨fun _=>[],fx⟩) (v:= .raw (.iface 69 p))).2 g' w' #[.nilIface,.iface 69 p] hI' (by simp only[a0w,Rep];exact⟨_,_,rfl,.inl ⟨trivial,rfl⟩,_,_,rfl,rfl,rfl⟩) rfl).mono ?_
  rintro e w2 ⟨g2,y,rfl,i2,r2,_,E3⟩
  simp only[Rep,a3d,a0p,List.cons.injEq,and_true]at r2
  subst r2
  refine⟨false,g2,_,rfl,i2,E3.le (Nat.zero_le _),fun a2 ok2=>?_⟩
  refine wp_cond (t:=false) (e3t ok2 (by decide) rfl) ?_
  simp only[Bool.false_eq_true,if_false]
  refine wp_skip ?_
  have ok3:=ok2.forget [0,1,4,5,8,9]
  have E4:=E2.trans E3 (Nat.zero_le _)
  refine chunk (tblD e3) d2r i1o kr ok3 (h2l src rf h1 e1 e2 e3) ?_
  rintro x1 e' H' g4 a4 w4 ⟨rfl,vs,v1,v2,v3⟩ ok4 E5
  exact⟨.inr rfl,g4,_,vs,ok4,E4.trans E5 (Nat.le_refl _),v1,v2,v3⟩
def SR (i:Nat):Prop:=i=0\/i=1\/i=2\/i=5
theorem h1p {g:Gh} {w:World} {l:List TokQ} {c f e:Int} {s:PS} {cx:Cx} (hI:Inv cx g (H7 l c f e s) w):∀ i b k o,¬ SR i->g.J i=some (b,k)->(H7 l c f e s)[i]? =some o->e2r (g.hide SR) (H7 l c f e s) w b k o:=by
 intro i b k o hs hj ho
 have h:=hI.ob i b k o hj ho
 have hi:i < 6:=by
  have:=(List.getElem?_eq_some_iff.1 ho).1
  exact this
 have h34:i=3\/i=4:=by unfold SR at hs;omega
 rcases h34 with rfl|rfl
 ·cases ho
  unfold QBr at h⊢
  obtain⟨cur,ty,q1,q2,q3⟩:=h
  refine⟨cur,ty,q1,?_,q3⟩
  have h4:(g.hide SR).J 4=g.J 4:=c1m (by unfold SR;omega)
  simp only[a1p,Rep]at q2⊢
  rw[h4]
  exact q2
 ·cases ho
  exact h
theorem f9o (Y:List Ob) (k:List Ob->Prop):(List.rec (motive:=fun _=>(List Ob->Prop)->Prop) (fun k=>k []) (fun a _ ih k=>ih fun r'=>k (a::r')) Y k)=k Y:=by
  induction Y generalizing k with
  |nil=>rfl
  |cons a Y ih=>exact ih _
theorem h6r {F:Nat->Option a0v} (src:S) (rf:Nat) (o2 o3 o4:Ob) (c f e:Int) (Y:Hp):WQ (pgL fx F) 0 (vA (vR (vL (vR (vR (vR (vR (vR (vR d20))))))))) [] (E7 src rf) (.box [.nils]::ZB::o2::o3::o4::DB c f e::Y) fun x1 _ e' H'=>x1= .ret/\∃ vs,a9n e' H' [.cell 4 (some 1),.cell 5 (some 3)]=some vs/\a0z 0 (vs.map (toArg H'))=true/\oneOf (vs.map (toArg H'))= .tup [.d (c2y []),.d (dgD c f e)]:=by
  repeat' (first|refine run ⟨?_⟩|refine(f9o _ _).mpr ?_|refine And.intro (b5k _) ?_|fail)
  exact⟨_,rfl,rfl,rfl⟩
theorem e1m (X:e7g fx) (src:S) (rf:Nat) (h1:src.length<=65536) (hc:(a0k src).2.c=0) {K:Hp->Prop} {c f e:Int}
 (hrun:c4e ⟨fun _=>[],fx⟩ K rf 3 (H7 (a0k src).1 (a0k src).2.c (a0k src).2.f (a0k src).2.e P0) c f e) (H:Hp):
 a1z Tryz.prog ⟨fun _=>[],fx⟩ 20 [.d (.str src),.fn rf []] H (.tup [.d (c2y []),.d (dgD c f e)]) H:=by
 refine b9b (N:=66) Tryz.func20 b20 kr r20 (by decide) kr (by show 2<=66;decide) rfl rfl (fun g w a ok=>?_) H
 refine h2g X src rf h1 hc ok fun g1 a1 w1 ok1 E1=>?_
 apply wp_seq
 rw[h6y]
 apply wp_seq
 have e0:Code.region (cId (cL (cL (cD c20 6)))) e9m false=cL (cL (cD c20 6)):=kr
 rw[e0]
 obtain⟨tt,fz,hty⟩:=X.ty
 refine reg8 (K:=fun g' H' x w'=>x= .iface 64 (.agg #[.int .i64 c,.int .i64 f,.int .i64 e])/\(∀ i,SR i->H'[i]? =(H7 (a0k src).1 (a0k src).2.c (a0k src).2.f (a0k src).2.e P0)[i]?)/\Ext 0 g [] w g' H' w') ok1 (fun cargs ra=>?_) (fun g' H' x w' p hK hI' hE' hp=>?_)
 ·refine(hrun.hidden (S:=SR) (fun i hi=>?_) (by unfold SR;omega) ok1.inv (h1p ok1.inv) ra rfl).mono ?_
  ·have:i < 6:=by unfold SR at hi;omega
   refine⟨this,fun sz l h=>?_⟩
   unfold SR at hi
   rcases hi with rfl|rfl|rfl|rfl<;>cases h
  ·rintro ev w2 ⟨g2,H2,rfl,i2,k2,E2⟩
   exact⟨g2,H2,_,rfl,i2,E2,rfl,k2,E1.trans E2 (Nat.zero_le _)⟩
 ·obtain⟨rfl,hk,E2⟩:=hK
  simp only[Rep]at hp
  obtain⟨_,b,cap,hJ,rfl⟩:=hp
  have k0:=hk 0 (by unfold SR;omega)
  have k1:=hk 1 (by unfold SR;omega)
  have k5:=hk 5 (by unfold SR;omega)
  refine(d7z hI' hty hJ (a:=0) (b:=0) (d:=0) k5 c f e).mono ?_
  rintro ev w2 ⟨rfl,i2,E3⟩
  rcases H' with _|⟨a0,_|⟨a1,_|⟨a2,_|⟨a3,_|⟨a4,_|⟨a5,Y⟩⟩⟩⟩⟩⟩
  all_goals first|(cases k5;done)|skip
  cases k0;cases k1;cases k5
  refine⟨true,g',_,rfl,i2,E3.le (Nat.zero_le _),fun a2' ok2=>?_⟩
  refine wp_cond (t:=true) (e3t ok2 (by decide) rfl) ?_
  simp only[if_true]
  have ok3:=ok2.forget [0,1,4,5,8,9]
  have E4:=E2.trans E3 (Nat.zero_le _)
  refine chunk (i2n X) d2r i4n kr ok3 (h6r src rf _ _ _ c f e Y) ?_
  rintro x1 e' H' g4 a4' w4 ⟨rfl,vs,v1,v2,v3⟩ ok4 E5
  exact⟨.inr rfl,g4,_,vs,ok4,E4.trans E5 (Nat.le_refl _),v1,v2,v3⟩
end
end Go.Vm.Px
namespace Go.Vm.Px
open Go.Vm.Lex (TokQ a0k a7b dgD)
open Go.Vm.Pa hiding go
open Go.Vm.Pk (Nd a2w)
open Go.Vm.Ite
open Go Go.Proofs Go.RowKit
theorem t20:tr Tryz.prog A20 c20=some d20:=kr
section
variable {fx:Nat->Option Obj}
theorem e1t (X:e7g fx) (src:S) (rf:Nat) {c f e:Int} (hc:c≠0) (h:(65536 < src.length/\c=2/\f=0/\e=0)\/(src.length<=65536/\c=(a0k src).2.c/\f=(a0k src).2.f/\e=(a0k src).2.e)) (H:Hp):
 a1z Tryz.prog ⟨fun _=>[],fx⟩ 20 [.d (.str src),.fn rf []] H (.tup [.d (c2y []),.d (dgD c f e)]) H:=by
 refine b9b (N:=66) Tryz.func20 b20 kr r20 (by decide) kr (by show 2<=66;decide) rfl rfl (fun g w a ok=>?_) H
 have ok:=ok.forget [0,1]
 rw[show a2e [0,1] (a1d [.d (.str src),.fn rf []])=[(0,.d (.str src)),(1,.fn rf [])] from rfl]at ok
 have hn:(!decide (c=0))=true:=by rw[decide_eq_false hc];rfl
 refine chunk (i2n X) d2r t20 kr ok (R:=fun x1 e' H'=>x1= .ret/\∃ vs,a9n e' H' [.cell 4 (some 1),.cell 5 (some 3)]=some vs/\a0z 0 (vs.map (toArg H'))=true/\oneOf (vs.map (toArg H'))= .tup [.d (c2y []),.d (dgD c f e)]) ?_ ?_
 ·rcases h with⟨h1,rfl,rfl,rfl⟩|⟨h1,rfl,rfl,rfl⟩
  ·have h':(65536:Int) < (src.length:Int):=om
   repeat' (first|refine run ⟨?_⟩|fail)
   exact⟨_,rfl,rfl,rfl⟩
  ·have h':¬ (65536:Int) < (src.length:Int):=om
   have tk:=fun H=>Go.Vm.Lex.d5e (fx:=fx) (F:=FL) H src (by unfold maxLen;omega)
   repeat' (first|refine run ⟨?_⟩|refine ca (tk _) ?_|refine And.intro (b5k _) ?_|fail)
   exact⟨_,rfl,rfl,rfl⟩
 ·rintro x1 e' H' g1 a1 w1 ⟨rfl,vs,v1,v2,v3⟩ ok1 E1
  exact⟨.inr rfl,g1,_,vs,ok1,E1,v1,v2,v3⟩
end
end Go.Vm.Px
namespace Go.Vm.Pa
open Go.Vm.Lex (TokQ)
inductive Fo where
 |nil
 |cons (k:Int) (t:S) (v:Int) (f e:Int) (kids rest:Fo)
def Fo.sz:Fo->Nat
 | .nil=>0
 | .cons _ _ _ _ _ a b=>a.sz+1+b.sz
def Fo.idx (n:Nat):Fo->List D
 | .nil=>[]
 | .cons _ _ _ _ _ a b=> .int .i64 (n+a.sz:Nat)::b.idx (n+a.sz+1)
def Fo.lay (n:Nat):Fo->List D
 | .nil=>[]
 | .cons k t v f e a b=>a.lay n++N.D ⟨k,t,v,a.idx n⟩ f e::b.lay (n+a.sz+1)
def Fo.app:Fo->Fo->Fo
 | .nil,c=>c
 | .cons k t v f e a b,c=> .cons k t v f e a (b.app c)
theorem Fo.d9q:∀ a:Fo,a.app .nil=a
 | .nil=>rfl
 | .cons _ _ _ _ _ _ b=>by simp only[Fo.app,Fo.d9q b]
theorem Fo.d2d:∀ a b c:Fo,(a.app b).app c=a.app (b.app c)
 | .nil,_,_=>rfl
 | .cons _ _ _ _ _ _ r,b,c=>by simp only[Fo.app,Fo.d2d r b c]
theorem Fo.c9g:∀ a b:Fo,(a.app b).sz=a.sz+b.sz
 | .nil,b=>by simp[Fo.app,Fo.sz]
 | .cons _ _ _ _ _ x r,b=>by simp only[Fo.app,Fo.sz,Fo.c9g r b];omega
theorem Fo.e0d:∀ (a b:Fo) (n:Nat),(a.app b).idx n=a.idx n++b.idx (n+a.sz)
 | .nil,b,n=>by simp[Fo.app,Fo.idx,Fo.sz]
 | .cons _ _ _ _ _ x r,b,n=>by
   simp only[Fo.app,Fo.idx,Fo.sz,Fo.e0d r b,List.cons_append]
   rw[show n+x.sz+1+r.sz=n+(x.sz+1+r.sz)by omega]
theorem Fo.d2j:∀ (a b:Fo) (n:Nat),(a.app b).lay n=a.lay n++b.lay (n+a.sz)
 | .nil,b,n=>by simp[Fo.app,Fo.lay,Fo.sz]
 | .cons _ _ _ _ _ x r,b,n=>by
   simp only[Fo.app,Fo.lay,Fo.sz,Fo.d2j r b,List.append_assoc,List.cons_append]
   rw[show n+x.sz+1+r.sz=n+(x.sz+1+r.sz)by omega]
def Fo.wi (lo hi:Int):Fo->Prop
 | .nil=>True
 | .cons _ _ _ f e a b=>lo<=f/\f<=e/\e<=hi/\a.wi f e/\b.wi lo hi
theorem Fo.b8u {lo hi lo' hi':Int} (h1:lo'<=lo) (h2:hi<=hi'):∀ {a:Fo},a.wi lo hi->a.wi lo' hi'
 | .nil,_=>trivial
 | .cons _ _ _ _ _ _ _,h=>⟨by have:=h.1;omega,h.2.1,by have:=h.2.2.1;omega,h.2.2.2.1,Fo.b8u h1 h2 h.2.2.2.2⟩
theorem Fo.e8r {lo hi:Int}:∀ {a b:Fo},a.wi lo hi->b.wi lo hi->(a.app b).wi lo hi
 | .nil,_,_,hb=>hb
 | .cons _ _ _ _ _ _ _,_,h,hb=>⟨h.1,h.2.1,h.2.2.1,h.2.2.2.1,Fo.e8r h.2.2.2.2 hb⟩
inductive QK where
 |one
 |upd (a:Int)
 |many (ks:List D)
def b7j:Q->QK
 | .params ks _| .fields _ ks| .items ks| .stmts ks| .arms ks| .args ks| .inits ks=> .many ks.l
 | .rows _ _ _ a| .gets _ a=> .upd a
 |_=> .one
def QK.ini:QK->List D
 | .one=>[]
 | .upd a=>[.int .i64 a]
 | .many ks=>ks
def QK.fin (r:R):QK->List D
 | .many _=>r.ks.l
 |_=>[.int .i64 r.i]
def g1c:Q->Option Int
 | .typed fr| .let_ fr| .blocky fr| .patterned fr| .named fr _| .rows _ _ fr _| .gets fr _=>some fr
 |_=>none
def TyP (kd:QK) (base:Int):Bool->Bool->List D->Pr->Prop
 |_,_,L,.ret r=>kd.fin r=L
 |_,_,_,.dead|_,_,_,.fail _=>True
 |c,b,L,.take _ k=>TyP kd base false true L (k true)/\TyP kd base c b L (k false)
 |c,b,L,.is _ k|c,b,L,.kind _ k|c,b,L,.text _ k=> ∀ x,TyP kd base c b L (k x)
 |c,b,L,.ok k|c,b,L,.into _ k=>TyP kd base c b L (k true)
 |c,b,L,.down k=>TyP kd base c b L k
 |_,_,L,.need _ k|_,_,L,.adv k=>TyP kd base false true L k
 |_,_,L,.name k=> ∀ t,TyP kd base false true L (k t)
 |c,b,L,.sign _ k=> ∀ t,TyP kd base c b L (k t)
 |c,b,L,.val k=> ∀ i,TyP kd base c b L (k i)
 |c,b,L,.pos k=>c=true/\TyP kd base c b L (k base)
 |_,b,L,.unit k=>b=true/\∀ i,TyP kd base false true (L++[.int .i64 i]) (k i)
 |_,b,L,.node fr n k=>b=true/\fr=base/\n.ks=L/\∀ i,TyP kd base false true [.int .i64 i] (k i)
 |c,b,L,.call q k=>match b7j q with
  | .one=>(∀ fr,g1c q=some fr->c=true/\fr=base)/\∀ r,TyP kd base false (b||eats q) (L++[.int .i64 r.i]) (k r)
  | .upd a=>b=true/\g1c q=some base/\L=[.int .i64 a]/\∀ r,TyP kd base false true [.int .i64 r.i] (k r)
  | .many ks=>L=ks/\∀ r,TyP kd base false (b||eats q) r.ks.l (k r)
 |_,b,L,.tail q=>match b7j q with
  | .one=>False
  | .upd a=>b=true/\g1c q=some base/\L=[.int .i64 a]/\∀ r,(b7j q).fin r=kd.fin r
  | .many ks=>L=ks/\∀ r,(b7j q).fin r=kd.fin r
theorem f5w {kd:QK} {base:Int} {c d:Bool} {L:List D} {b:Bool} {p:Pr} (h:TyP kd base c d L p):TyP kd base c d L (guard b p):=by cases b<;>first|exact h|trivial
def QK.at0:QK->Bool
 | .one=>true
 |_=>false
def QK.gt0:QK->Bool
 | .upd _=>true
 |_=>false
theorem g3c (q:Q) (base:Int) (h:∀ fr,g1c q=some fr->fr=base):TyP (b7j q) base (b7j q).at0 (b7j q).gt0 (b7j q).ini (prog q):=by
 cases q
 all_goals(
   first|(have h:=h _ rfl;subst h)|clear h
   simp only[prog,e0g,g4k,newP,e5u,rowP,mkP,endP,b7j,QK.ini,QK.at0,QK.gt0]
   repeat' (first|dsimp only|trivial|refine Bool.forall_bool.2 ⟨?_,?_⟩|rfl|refine f5w ?_|(intro h;cases h;exact⟨rfl,rfl⟩)|(intro _)|constructor|split|fail))
end Go.Vm.Pa
namespace Go.Vm.Pa
open Go.Vm.Lex (TokQ)
structure Plc (l:List TokQ):Prop where
 fe:∀ i,i < l.length->(l.getD i default).f<=(l.getD i default).e
 ef:∀ i,i+1 < l.length->(l.getD i default).e<=(l.getD (i+1) default).f
def fAt (l:List TokQ) (i:Int):Int:=((l.getD i.toNat default).f:Int)
def eAt (l:List TokQ) (i:Int):Int:=((l.getD (i - 1).toNat default).e:Int)
section
variable {l:List TokQ}
theorem h0m (h:Plc l):∀ (k i:Nat),i+k < l.length->(l.getD i default).f<=(l.getD (i+k) default).f
 |0,_,_=>Nat.le_refl _
 |k+1,i,hk=>by
  have h1:=h0m h k i om
  have h2:=h.fe (i+k) om
  have h3:=h.ef (i+k) om
  rw[<-Nat.add_assoc]
  omega
theorem h2j (h:Plc l):∀ (k i:Nat),i+k < l.length->(l.getD i default).e<=(l.getD (i+k) default).e
 |0,_,_=>Nat.le_refl _
 |k+1,i,hk=>by
  have h1:=h2j h k i om
  have h2:=h.ef (i+k) om
  have h3:=h.fe (i+k+1) om
  rw[<-Nat.add_assoc]
  omega
theorem e1q (h:Plc l) {a b:Int} (h0:0<=a) (hab:a<=b) (hb:b < l.length):fAt l a<=fAt l b:=by
 have:=h0m h (b.toNat - a.toNat) a.toNat om
 rw[show a.toNat+(b.toNat - a.toNat)=b.toNat by omega]at this
 unfold fAt;omega
theorem c1c (h:Plc l) {a b:Int} (hab:a<=b) (hb:b<=l.length) (h1:0 < l.length):eAt l a<=eAt l b:=by
 have:=h2j h ((b - 1).toNat - (a - 1).toNat) (a - 1).toNat om
 rw[show(a - 1).toNat+((b - 1).toNat - (a - 1).toNat)=(b - 1).toNat by omega]at this
 unfold eAt;omega
theorem h5t (h:Plc l) {a b:Int} (h0:0<=a) (hab:a < b) (hb:b<=l.length):fAt l a<=eAt l b:=by
 have h1:=e1q h (a:=a) (b:=b - 1) h0 om om
 have h2:=h.fe (b - 1).toNat om
 unfold fAt at h1
 unfold fAt eAt;omega
def Sk (l:List TokQ) (Z:Fo) (base:Int) (L:List D) (s:PS):Prop:=∃ W:Fo,s.ns=(Z.app W).lay 0/\s.n=(Z.app W).sz/\W.idx Z.sz=L/\W.wi (fAt l base) (eAt l s.at_)
theorem Sk.move {Z:Fo} {base:Int} {L:List D} {s s1:PS} (hp:Plc l) (h:Sk l Z base L s) (h1:s1.ns=s.ns) (h2:s1.n=s.n) (h3:s.at_<=s1.at_) (h4:s1.at_<=l.length) (h5:0 < l.length):Sk l Z base L s1:=by
 obtain⟨W,e1,e2,e3,e4⟩:=h
 exact⟨W,h1.trans e1,h2.trans e2,e3,Fo.b8u (Int.le_refl _) (c1c hp h3 h4 h5) e4⟩
theorem Sk.node {Z:Fo} {fr:Int} {L:List D} {s s1:PS} {n:N} {i:Int} (hl:LOk l) (hp:Plc l) (h:Sk l Z fr L s) (h0:0<=fr) (hlt:fr < s.at_) (hs:s.at_ < l.length) (hn:n.ks=L) (e:a2y l fr n s=some (i,s1)):Sk l Z fr [.int .i64 i] s1/\s1.at_=s.at_:=by
 obtain⟨W,e1,e2,e3,e4⟩:=h
 unfold a2y at e
 split at e
 ·rename_i c
  have hlen:=hl.len
  have hw:w (s.at_ - 1)=s.at_ - 1:=a3z om
  have hi:w (((s.n+1:Nat):Int) - 1)=s.n:=(a3z om).trans om
  simp only[Option.some.injEq,Prod.mk.injEq]at e
  obtain⟨rfl,rfl⟩:=e
  refine⟨⟨.cons n.k n.t n.v (fAt l fr) (eAt l s.at_) W .nil,?_,?_,?_,?_⟩,rfl⟩
  ·show s.ns++_=_
   rw[e1,Fo.d2j,Fo.d2j,Nat.zero_add,List.append_assoc]
   simp only[Fo.lay]
   first|rw[e3,<-hn,if_pos hlt,hw]|rw[e3,<-hn,hw]
   rfl
  ·show s.n+1=_
   rw[e2,Fo.c9g,Fo.c9g]
   simp only[Fo.sz]
   omega
  ·simp only[Fo.idx]
   rw[hi,e2,Fo.c9g]
  ·exact⟨Int.le_refl _,h5t hp h0 hlt om,Int.le_refl _,e4,trivial⟩
 ·cases e
theorem Sk.unit {Z:Fo} {fr:Int} {L:List D} {s s1:PS} {i:Int} (hl:LOk l) (hp:Plc l) (h:Sk l Z fr L s) (h0:0<=fr) (hlt:fr < s.at_) (hs:s.at_ < l.length) (e:b4v l s=some (i,s1)):Sk l Z fr (L++[.int .i64 i]) s1/\s1.at_=s.at_:=by
 obtain⟨W,e1,e2,e3,e4⟩:=h
 unfold b4v at e
 split at e
 ·rename_i c
  have hlen:=hl.len
  have hw:w (s.at_ - 1)=s.at_ - 1:=a3z om
  have hi:w (((s.n+1:Nat):Int) - 1)=s.n:=(a3z om).trans om
  simp only[Option.some.injEq,Prod.mk.injEq]at e
  obtain⟨rfl,rfl⟩:=e
  refine⟨⟨W.app (.cons 12 [] 0 (eAt l s.at_) (eAt l s.at_) .nil .nil),?_,?_,?_,?_⟩,rfl⟩
  ·show s.ns++_=_
   rw[e1,<-Fo.d2d,Fo.d2j (Z.app W)]
   rw[hw]
   rfl
  ·show s.n+1=_
   rw[e2,<-Fo.d2d,Fo.c9g (Z.app W)]
   rfl
  ·rw[Fo.e0d,e3,hi,e2,Fo.c9g]
   rfl
  ·exact Fo.e8r e4 ⟨h5t hp h0 hlt om,Int.le_refl _,Int.le_refl _,trivial,trivial⟩
 ·cases e
def b6l (q:Q) (base:Int) (s:PS):Prop:=0<=base/\match b7j q with
 | .one=>base=s.at_/\∀ fr,g1c q=some fr->fr=base
 | .upd _=>g1c q=some base/\base < s.at_
 | .many _=>base<=s.at_
def SkG (l:List TokQ) (g:Q->PS->Option EX):Prop:=∀ (q:Q) (s:PS) (r:R) (s1:PS) (Z:Fo) (base:Int),okS l s=true->b6l q base s->Sk l Z base (b7j q).ini s->g q s=some (.ok r s1)->Sk l Z base ((b7j q).fin r) s1
theorem Sk.behind {Z:Fo} {fr base:Int} {L:List D} {s s1:PS} {i:Int} (hp:Plc l) (h:Sk l Z fr L s) (h0:0<=fr) (hb:fr<=base) (hbl:base < l.length) (hle:s.at_<=s1.at_) (hs1:s1.at_<=l.length)
 (hc:∀ W:Fo,s.ns=(Z.app W).lay 0->s.n=(Z.app W).sz->Sk l (Z.app W) base [.int .i64 i] s1):Sk l Z fr (L++[.int .i64 i]) s1:=by
 obtain⟨W,e1,e2,e3,e4⟩:=h
 obtain⟨W1,f1,f2,f3,f4⟩:=hc W e1 e2
 rw[Fo.d2d]at f1 f2
 refine⟨W.app W1,f1,f2,?_,?_⟩
 ·rw[Fo.e0d,e3]
  rw[Fo.c9g]at f3
  rw[f3]
 ·exact Fo.e8r (Fo.b8u (Int.le_refl _) (c1c hp hle hs1 om) e4) (Fo.b8u (e1q hp h0 hb hbl) (Int.le_refl _) f4)
theorem h3z (hl:LOk l) (hp:Plc l) {g:Q->PS->Option EX} (hg:∀ (q:Q) (s:PS) (r:R) (s':PS),0<=s.at_->s.at_<=l.length->g q s=some (.ok r s')->Fol l s s'/\(eats q=true->s.at_ < s'.at_)) (IH:SkG l g):
 ∀ (p:Pr) (kd:QK) (base:Int) (c b:Bool) (L:List D) (Z:Fo) (s:PS) (r:R) (s1:PS),TyP kd base c b L p->0<=base->base<=s.at_->(c=true->s.at_=base)->(b=true->base < s.at_)->okS l s=true->Sk l Z base L s->a0c l g p s=some (.ok r s1)->Sk l Z base (kd.fin r) s1:=by
 intro p
 induction p with
 |ret r0=>intro kd base c b L Z s r s1 ty h0 hb hc hbb ho h e;simp only[a0c,Option.some.injEq,EX.ok.injEq]at e;obtain⟨rfl,rfl⟩:=e;rw[show kd.fin r0=L from ty];exact h
 |dead=>intro kd base c b L Z s r s1 ty h0 hb hc hbb ho h e;cases e
 |fail k ih=>intro kd base c b L Z s r s1 ty h0 hb hc hbb ho h e;simp only[a0c,e7d]at e;cases e
 |take x k ih=>
  intro kd base c b L Z s r s1 ty h0 hb hc hbb ho h e
  simp only[a0c]at e
  cases hi:isS l s x with
  |false=>rw[hi]at e;exact ih _ _ _ _ _ _ _ _ _ _ ty.2 h0 hb hc hbb ho h e
  |true=>
   rw[hi]at e
   have h1:=a3o hl ho (b9l hi)
   have h2:=d0c hl ho
   have h3:=c6r h1
   exact ih _ _ _ _ _ _ _ _ _ _ ty.1 h0 om (by simp) (fun _=>om) h1 (h.move hp rfl rfl om om om) e
 |need x k ih=>
  intro kd base c b L Z s r s1 ty h0 hb hc hbb ho h e
  simp only[a0c]at e
  cases hi:isS l s x with
  |false=>rw[hi]at e;simp only[e7d]at e;cases e
  |true=>
   rw[hi]at e
   have h1:=a3o hl ho (b9l hi)
   have h2:=d0c hl ho
   have h3:=c6r h1
   exact ih _ _ _ _ _ _ _ _ _ ty h0 om (by simp) (fun _=>om) h1 (h.move hp rfl rfl om om om) e
 |name k ih=>
  intro kd base c b L Z s r s1 ty h0 hb hc hbb ho h e
  simp only[a0c]at e
  cases hi:decide ((now l s).k=1)with
  |false=>rw[hi]at e;simp only[e7d]at e;cases e
  |true=>
   rw[hi]at e
   have h1:=a3o hl ho (by have:=of_decide_eq_true hi;omega)
   have h2:=d0c hl ho
   have h3:=c6r h1
   exact ih _ _ _ _ _ _ _ _ _ _ (ty _) h0 om (by simp) (fun _=>om) h1 (h.move hp rfl rfl om om om) e
 |adv k ih=>
  intro kd base c b L Z s r s1 ty h0 hb hc hbb ho h e
  simp only[a0c]at e
  cases h1:okS l (adv s)with
  |false=>rw[h1]at e;cases e
  |true=>
   rw[h1]at e
   have h2:=d0c hl ho
   have h3:=c6r h1
   exact ih _ _ _ _ _ _ _ _ _ ty h0 om (by simp) (fun _=>om) h1 (h.move hp rfl rfl om om om) e
 |is x k ih=>intro kd base c b L Z s r s1 ty h0 hb hc hbb ho h e;exact ih _ _ _ _ _ _ _ _ _ _ (ty _) h0 hb hc hbb ho h e
 |kind x k ih=>intro kd base c b L Z s r s1 ty h0 hb hc hbb ho h e;exact ih _ _ _ _ _ _ _ _ _ _ (ty _) h0 hb hc hbb ho h e
 |text x k ih=>intro kd base c b L Z s r s1 ty h0 hb hc hbb ho h e;exact ih _ _ _ _ _ _ _ _ _ _ (ty _) h0 hb hc hbb ho h e
 |sign x k ih=>intro kd base c b L Z s r s1 ty h0 hb hc hbb ho h e;exact ih _ _ _ _ _ _ _ _ _ _ (ty _) h0 hb hc hbb ho h e
 |val k ih=>intro kd base c b L Z s r s1 ty h0 hb hc hbb ho h e;exact ih _ _ _ _ _ _ _ _ _ _ (ty _) h0 hb hc hbb ho h e
 |ok k ih=>intro kd base c b L Z s r s1 ty h0 hb hc hbb ho h e;exact ih _ _ _ _ _ _ _ _ _ _ ty h0 hb hc hbb ho h e
 |down k ih=>
  intro kd base c b L Z s r s1 ty h0 hb hc hbb ho h e
  exact ih _ _ _ _ _ _ (down s) _ _ ty h0 hb hc hbb ho h e
 |pos k ih=>
  intro kd base c b L Z s r s1 ty h0 hb hc hbb ho h e
  simp only[a0c]at e
  rw[hc ty.1]at e
  exact ih _ _ _ _ _ _ _ _ _ _ ty.2 h0 hb hc hbb ho h e
 |into x k ih=>
  intro kd base c b L Z s r s1 ty h0 hb hc hbb ho h e
  simp only[a0c]at e
  cases hi:a1w l x s with
  |false=>rw[hi]at e;simp only[e7d]at e;cases e
  |true=>
   rw[hi]at e
   cases hd:decide (100<=s.deep)with
   |true=>rw[hd]at e;simp only[e7d]at e;cases e
   |false=>rw[hd]at e;exact ih _ _ _ _ _ _ _ (a3t s) _ _ ty h0 hb hc hbb ho h e
 |node fr n k ih=>
  intro kd base c b L Z s r s1 ty h0 hb hc hbb ho h e
  obtain⟨rfl,rfl,t3,t4⟩:=ty
  simp only[a0c]at e
  cases hn:a2y l fr n s with
  |none=>rw[hn]at e;cases e
  |some x=>
   obtain⟨i,s2⟩:=x
   rw[hn]at e
   have hr:=c6r ho
   obtain⟨h1,h2⟩:=h.node hl hp h0 (hbb rfl) hr.2 t3 hn
   exact ih _ _ _ _ _ _ _ _ _ _ (t4 i) h0 om (by simp) (fun _=>by have:=hbb rfl;omega) (by unfold okS at ho⊢;rw[h2];exact ho) h1 e
 |unit k ih=>
  intro kd base c b L Z s r s1 ty h0 hb hc hbb ho h e
  obtain⟨rfl,t4⟩:=ty
  simp only[a0c]at e
  cases hn:b4v l s with
  |none=>rw[hn]at e;cases e
  |some x=>
   obtain⟨i,s2⟩:=x
   rw[hn]at e
   have hr:=c6r ho
   obtain⟨h1,h2⟩:=h.unit hl hp h0 (hbb rfl) hr.2 hn
   exact ih _ _ _ _ _ _ _ _ _ _ (t4 i) h0 om (by simp) (fun _=>by have:=hbb rfl;omega) (by unfold okS at ho⊢;rw[h2];exact ho) h1 e
 |call q k ih=>
  intro kd base c b L Z s r s1 ty h0 hb hc hbb ho h e
  simp only[a0c]at e
  have hr:=c6r ho
  cases hq:g q s with
  |none=>rw[hq]at e;cases e
  |some x=>
   cases x with
   |bad _ _ _=>rw[hq]at e;cases e
   |ok r2 s2=>
    rw[hq]at e
    simp only at e
    obtain⟨fo,fe⟩:=hg q s r2 s2 hr.1 om hq
    have fle:=fo.le
    have flen:=fo.len
    have fok:=fo.ok ho
    rw[fok]at e
    have hr2:=c6r fok
    have hfl:(b||eats q)=true->base < s2.at_:=fun hh=>by
      rcases Bool.or_eq_true_iff.1 hh with h9|h9
      ·have:=hbb h9;omega
      ·have:=fe h9;omega
    simp only[TyP]at ty
    split at ty
    ·rename_i hk
     obtain⟨t1,t2⟩:=ty
     refine ih _ _ _ _ _ _ _ _ _ _ (t2 r2) h0 om (by simp) hfl fok ?_ e
     refine h.behind hp h0 hb hr.2 fle flen fun W w1 w2=>?_
     have:=IH q s r2 s2 (Z.app W) s.at_ ho ⟨hr.1,by rw[hk];exact⟨rfl,fun fr hf=>by obtain⟨u1,u2⟩:=t1 fr hf;rw[u2,hc u1]⟩⟩ (by rw[hk];exact⟨.nil,by rw[Fo.d9q];exact w1,by rw[Fo.d9q];exact w2,rfl,trivial⟩) hq
     rw[hk]at this
     exact this
    ·rename_i a hk
     obtain⟨t0,t1,rfl,t2⟩:=ty
     refine ih _ _ _ _ _ _ _ _ _ _ (t2 r2) h0 om (by simp) (fun _=>by have:=hbb t0;omega) fok ?_ e
     have:=IH q s r2 s2 Z base ho ⟨h0,by rw[hk];exact⟨t1,hbb t0⟩⟩ (by rw[hk];exact h) hq
     rw[hk]at this
     exact this
    ·rename_i ks hk
     obtain⟨rfl,t2⟩:=ty
     refine ih _ _ _ _ _ _ _ _ _ _ (t2 r2) h0 om (by simp) hfl fok ?_ e
     have:=IH q s r2 s2 Z base ho ⟨h0,by rw[hk];exact hb⟩ (by rw[hk];exact h) hq
     rw[hk]at this
     exact this
 |tail q=>
  intro kd base c b L Z s r s1 ty h0 hb hc hbb ho h e
  simp only[a0c]at e
  simp only[TyP]at ty
  split at ty
  ·exact ty.elim
  ·rename_i a hk
   obtain⟨t0,t1,rfl,t2⟩:=ty
   rw[<-t2 r]
   exact IH q s r s1 Z base ho ⟨h0,by rw[hk];exact⟨t1,hbb t0⟩⟩ (by rw[hk];exact h) e
  ·rename_i ks hk
   obtain⟨rfl,t2⟩:=ty
   rw[<-t2 r]
   exact IH q s r s1 Z base ho ⟨h0,by rw[hk];exact hb⟩ (by rw[hk];exact h) e
theorem h5i (hl:LOk l) (hp:Plc l):∀ n,SkG l (goE l n)
 |0=>fun q s r s1 Z base _ _ _ e=>by cases e
 |n+1=>fun q s r s1 Z base ho hB h e=>by
  have e:a0c l (goE l n) (prog q) s=some (.ok r s1):=e
  have hf:∀ fr,g1c q=some fr->fr=base:=fun fr hf=>by
    have h2:=hB.2
    split at h2
    ·exact h2.2 fr hf
    ·exact Option.some.inj (hf.symm.trans h2.1)
    ·rename_i ks hk
     cases q<;>simp[b7j,g1c]at hk hf
  refine h3z hl hp (c9y hl n) (h5i hl hp n) (prog q) (b7j q) base _ _ _ Z s r s1 (g3c q base hf) hB.1 ?_ ?_ ?_ ho h e
  ·have h2:=hB.2
   split at h2<;>omega
  ·intro hc
   have h2:=hB.2
   split at h2
   ·exact h2.1.symm
   ·rename_i hk;rw[hk]at hc;cases hc
   ·rename_i hk;rw[hk]at hc;cases hc
  ·intro hc
   have h2:=hB.2
   split at h2
   ·rename_i hk;rw[hk]at hc;cases hc
   ·exact h2.2
   ·rename_i hk;rw[hk]at hc;cases hc
end
end Go.Vm.Pa
namespace Go.Vm.Pa
open Go.Vm.Lex (TokQ)
open Go.Vm.Tp (Nd I64)
section
variable {l:List TokQ} (hl:TOk l) {n:Nat} (IH:IHt l n) {q:Q} {s s1:PS} {r:R}
theorem c1k:I64 0:=by unfold I64;omega
theorem e5r:I64 1:=by unfold I64;omega
theorem d1p (n:Int):I64 (w n):=by
 unfold I64 w
 simp only[IntKind.wrap,IntKind.bits,IntKind.signed]
 simp
 omega
theorem leaf {s0:PS} (hi:s1.at_ < l.length:=by first|omega|assumption|(simp only[down];omega)) (ns:b3d s1:=by first|assumption|exact a7q (by assumption) rfl rfl) (ri:0<=r.i/\r.i.toNat<=s1.n:=by first|assumption|exact⟨Int.le_refl _,Nat.zero_le _⟩|(constructor<;>first|assumption|(simp only[rI,rK,down];omega)))
    (rk:c9u s1.n r.ks.l r.ks.n/\(r.ks.n:Int)<=s1.at_+3:=by first|assumption|exact⟨by first|assumption|exact a7e _|exact a2m (by assumption) om ⟨om,om⟩,by first|omega|(simp only[rK,rI,push,K.o,down];omega)⟩) (rv:I64 r.v:=by first|assumption|exact c1k|exact e5r|exact d1p _|exact TOk.val (by assumption) _)
    (num:Num (cQ q) (dQ q) (nQ q) (pQ q) s0 s1:=by simp only[Num,cQ,dQ,nQ,pQ,down,true_imp_iff,false_imp_iff,imp_true_iff,and_true,true_and,Nat.zero_ne_one];omega):G l q s0 (some (r,s1)):=⟨r,s1,rfl,num,hi,ns,ri,rk,rv⟩
include hl in
theorem f4y {s0:PS} {fr k v:Int} {t:S} {ks:List D} {m:Nat} (kk:c9u (s.n+1) ks m) (hm:m<=1000000:=by first|decide|omega|(simp only[push];omega)) (hn:s.n < 1000000:=by omega) (h0:0<=fr:=by omega) (h1:fr<=s.at_:=by omega) (hi:s.at_ < l.length:=by omega) (ns:b3d s:=by assumption) (ht:t.length<=1000000:=by first|exact Nat.zero_le _|omega|(simp only[List.length_append,List.length_cons,List.length_nil];omega)) (hv:I64 v:=by first|assumption|exact c1k|exact e5r|exact d1p _|exact TOk.val (by assumption) _)
    (N:∀ s1:PS,s1.at_=s.at_->s1.n=s.n+1->s1.bc=s.bc->Num (cQ q) (dQ q) (nQ q) (pQ q) s0 s1:=by intro s1 _ _ _;simp only[Num,cQ,dQ,nQ,pQ,true_imp_iff,false_imp_iff,imp_true_iff,and_true,true_and,Nat.zero_ne_one];omega):G l q s0 (mk l fr k t v ks s):=by
  obtain⟨i,s1,e,h2,h3,h4,h5,h6⟩:=e3f hl (x:=⟨k,t,v,ks⟩) ns hn h0 h1 hi kk hm ht hv
  unfold mk
  rw[e]
  exact⟨_,_,rfl,N s1 h2 h4 h3,by rw[h2];exact hi,h5,h6,⟨a7e _,by show(0:Int)<=_;omega⟩,c1k⟩
include hl in
theorem g1q {s0:PS} {fr k v:Int} {t:S} {ks:List D} {m:Nat} (kk:c9u (s.n+1) ks m) (hm:m<=1000000:=by first|decide|omega|(simp only[push];omega)) (hn:s.n < 1000000:=by omega) (h0:0<=fr:=by omega) (h1:fr<=s.at_:=by omega) (hi:s.at_ < l.length:=by omega) (ns:b3d s:=by assumption) (ht:t.length<=1000000:=by first|exact Nat.zero_le _|omega|(simp only[List.length_append,List.length_cons,List.length_nil];omega)) (hv:I64 v:=by first|assumption|exact c1k|exact e5r|exact d1p _|exact TOk.val (by assumption) _)
    (N:∀ s1:PS,s1.at_=s.at_->s1.n=s.n+1->s1.bc=s.bc->Num (cQ q) (dQ q) (nQ q) (pQ q) s0 s1:=by intro s1 _ _ _;simp only[Num,cQ,dQ,nQ,pQ,true_imp_iff,false_imp_iff,imp_true_iff,and_true,true_and,Nat.zero_ne_one];omega):G l q s0 (mk l fr k t v ks (down s)):=
  f4y hl (s:=down s) kk hm hn h0 h1 hi (a7q ns rfl rfl) ht hv N
theorem e2k (lo:0<=s.at_:=by omega) (hi:s.at_ < l.length:=by omega) (ns:b3d s:=by assumption) (bd:(s.bc=0->(s.n:Int)+15* (l.length - s.at_)+cQ q<=999990)/\(s.bc≠0->(s.n:Int)+15* (l.length - s.at_)+nQ q<=999990):=by simp only[cQ,nQ];omega) (ok:oQ q=1->s.bc=0:=by first|(intro h;cases h;done)|(intro _;omega)) (ex:Ext l s q):Pre l q s:=⟨lo,hi,ns,bd,ok,ex⟩
theorem f8x (h1:s.bc=0->64* ((l.length:Int) - s.at_)+1+rQ q < n:=by simp only[rQ];omega) (h2:s.bc≠0->64* ((l.length:Int) - s.at_) < n:=by omega):Mu l q s n:=⟨h1,h2⟩
theorem i3p {m:Nat} {ks:K} (h:c9u m ks.l ks.n) (hn:ks.n < 1000000) (e:okK ks=false):False:=by
 unfold okK at e
 simp only[h.1,decide_true,Bool.true_and,decide_eq_false_iff_not]at e
 exact e hn
theorem i1i {m:Nat} {ks:K} {i:Int} (h:c9u m ks.l ks.n) (hn:ks.n+1 < 1000000) (e:okK (push ks i)=false):False:=by
 unfold okK push at e
 simp only[List.length_append,List.length_singleton,h.1,decide_true,Bool.true_and,decide_eq_false_iff_not]at e
 exact e hn
theorem h6k {m:Nat} {ks:K} {i j:Int} (h:c9u m ks.l ks.n) (hn:ks.n+2 < 1000000) (e:okK (push (push ks i) j)=false):False:=by
 unfold okK push at e
 simp only[List.length_append,List.length_singleton,h.1,decide_true,Bool.true_and,decide_eq_false_iff_not]at e
 exact e hn
theorem i5c (e:okS l s=false) (lo:0<=s.at_) (hi:s.at_ < l.length):False:=by
 unfold okS at e
 rw[decide_eq_true lo,decide_eq_true hi]at e
 cases e
theorem g1s {q':Q} {s0:PS} {x:M} (h:G l q' s x) (N:∀ s1:PS,Num (cQ q') (dQ q') (nQ q') (pQ q') s s1->Num (cQ q) (dQ q) (nQ q) (pQ q) s0 s1:=by intro s1 h;simp only[Num,cQ,dQ,nQ,pQ,true_imp_iff,false_imp_iff,imp_true_iff,and_true,true_and,Nat.zero_ne_one]at h⊢;omega):G l q s0 x:=by
  obtain⟨r,s1,e,P⟩:=h
  exact⟨r,s1,e,N s1 P.num,P.hi,P.ns,P.ri,P.rk,P.rv⟩
theorem cl_g {q':Q} {s0:PS} (IH:IHt l n) (p:Pre l q' s) (m:Mu l q' s n) (N:∀ s1:PS,Num (cQ q') (dQ q') (nQ q') (pQ q') s s1->Num (cQ q) (dQ q) (nQ q) (pQ q) s0 s1:=by intro s1 h;simp only[Num,cQ,dQ,nQ,pQ,true_imp_iff,false_imp_iff,imp_true_iff,and_true,true_and,Nat.zero_ne_one]at h⊢;omega):G l q s0 (cl l (go l n) q' s):=by
  rw[i3u IH p m];exact g1s (IH _ _ p m) N
theorem g5k {k:Int} (h:b7v l k s≠[]):(now l s).k≠5:=by
 unfold b7v at h
 cases hf:(b1k k).find? (fun x=>okB s && isS l s x)with
 |none=>rw[hf]at h;exact absurd rfl h
 |some x=>
  have:=List.find?_some hf
  simp only[Bool.and_eq_true]at this
  exact f5f this.2
end
section
variable {c d n:Nat} {s s1:PS}
theorem h4h (N:Num c d n 1 s s1) (hb:s.bc=0):(s1.bc=0/\s.at_ < s1.at_/\(s1.n:Int)+d<=s.n+15* (s1.at_ - s.at_)/\s.n<=s1.n)\/(s1.bc≠0/\s.at_ < s1.at_/\(s1.n:Int)+d<=s.n+15* (s1.at_ - s.at_)/\s.n<=s1.n)\/(s1.bc≠0/\s1.at_=s.at_/\s1.n<=s.n+c/\s.n<=s1.n):=by
 obtain⟨h1,h2,h3,h4,h5⟩:=N
 have h4:=h4 hb rfl
 have h5:=h5 hb
 omega
theorem i5k (N:Num c d n 0 s s1) (hb:s.bc=0):(s1.bc=0/\s.at_ < s1.at_/\(s1.n:Int)+d<=s.n+15* (s1.at_ - s.at_)/\s.n<=s1.n)\/(s1.bc≠0/\s.at_ < s1.at_/\(s1.n:Int)+d<=s.n+15* (s1.at_ - s.at_)/\s.n<=s1.n)\/(s1.bc≠0/\s1.at_=s.at_/\s1.n<=s.n+c/\s.n<=s1.n)\/(s1.bc=0/\s1.at_=s.at_/\s1.n<=s.n+c/\s.n<=s1.n):=by
 obtain⟨h1,h2,h3,h4,h5⟩:=N
 have h5:=h5 hb
 omega
theorem g3t {p:Nat} (N:Num c d n p s s1) (hb:s.bc≠0):s1.bc≠0/\s1.at_=s.at_/\s1.n<=s.n+n/\s.n<=s1.n:=by
 obtain⟨h1,h2,h3,h4,h5⟩:=N
 have h3:=h3 hb
 omega
end
section
variable {l:List TokQ} (hl:TOk l) {q:Q} {s s1:PS}
include hl
theorem c4x {fr:Int} {x:N} {m:Nat} (e:a2y l fr x s=none) (kk:c9u (s.n+1) x.ks m) (hm:m<=1000000:=by first|decide|omega|(simp only[push];omega)) (hn:s.n < 1000000:=by omega) (h0:0<=fr:=by omega) (h1:fr<=s.at_:=by omega) (hi:s.at_ < l.length:=by omega) (ns:b3d s:=by assumption) (ht:x.t.length<=1000000:=by first|exact Nat.zero_le _|(dsimp only;omega)|(dsimp only;assumption)) (hv:I64 x.v:=by first|assumption|exact c1k|exact e5r|exact d1p _|exact TOk.val (by assumption) _):False:=by
  obtain⟨i,s1,e2,_⟩:=e3f hl (x:=x) ns hn h0 h1 hi kk hm ht hv
  rw[e]at e2;cases e2
theorem b8c {fr i:Int} {x:N} {m:Nat} (e:a2y l fr x s=some (i,s1)) (kk:c9u (s.n+1) x.ks m) (hm:m<=1000000:=by first|decide|omega|(simp only[push];omega)) (hn:s.n < 1000000:=by omega) (h0:0<=fr:=by omega) (h1:fr<=s.at_:=by omega) (hi:s.at_ < l.length:=by omega) (ns:b3d s:=by assumption) (ht:x.t.length<=1000000:=by first|exact Nat.zero_le _|(dsimp only;omega)|(dsimp only;assumption)) (hv:I64 x.v:=by first|assumption|exact c1k|exact e5r|exact d1p _|exact TOk.val (by assumption) _):s1.at_=s.at_/\s1.bc=s.bc/\s1.n=s.n+1/\b3d s1/\0<=i/\i.toNat<=s1.n:=by
  obtain⟨j,s2,e2,h⟩:=e3f hl (x:=x) ns hn h0 h1 hi kk hm ht hv
  rw[e]at e2;cases e2;exact h
theorem g5h (lo:0<=s.at_) (hi:s.at_ < l.length) (ns:b3d s) (h5:(now l s).k≠5):(adv s).at_=s.at_+1/\(adv s).at_ < l.length/\(adv s).n=s.n/\(adv s).bc=s.bc/\b3d (adv s):=by
 obtain⟨h1,h2⟩:=f2m hl h5 lo hi
 exact⟨h1,by rw[h1];exact h2,rfl,rfl,a7q ns rfl rfl⟩
omit hl in
theorem k3_t (e:decide ((now l s).k=3)=true):(now l s).k≠5:=by have:=of_decide_eq_true e;omega
omit hl in
theorem k3_n (e:(!decide ((now l s).k=3))=false):(now l s).k≠5:=by
 have:(now l s).k=3:=by simpa using e
 omega
omit hl in
theorem sg_n {k:Int} (e:(!decide (b7v l k s=[]))=true):(now l s).k≠5:=g5k (k:=k) (by simpa using e)
omit hl in
theorem h7d {c:Int} (ns:b3d s) (hc:c≠0):(a2h l c s).bc≠0/\(a2h l c s).at_=s.at_/\(a2h l c s).n=s.n/\b3d (a2h l c s):=⟨b6f hc,b1x,b1r,a7q ns b4z b1r⟩
end
theorem f9k (l:List TokQ) (k:Int) (s:PS):(b7v l k s).length<=1000000:=by
 unfold b7v
 cases hf:(b1k k).find? (fun x=>okB s && isS l s x)with
 |none=>exact Nat.zero_le _
 |some x=>
  have hm:=List.mem_of_find?_eq_some hf
  have:∀ y∈b1k k,y.length<=1000000:=by unfold b1k;(repeat' split)<;>decide
  exact this x hm
section
variable {l:List TokQ} (hl:TOk l) {q:Q} {s s1:PS}
include hl
omit hl in
theorem g5t {t:S} {c:Int} (e:a3j l (a2h l c s)=(t,s1)) (ns:b3d s) (hc:c≠0):t.length<=65536/\s1.bc≠0/\s1.at_=s.at_/\s1.n=s.n/\b3d s1:=by
 have hb:(a2h l c s).bc≠0:=b6f hc
 unfold a3j at e
 rw[show okB (a2h l c s)=false from by unfold okB;exact decide_eq_false hb]at e
 cases e
 exact⟨Nat.zero_le _,b6f (by decide),b1x.trans b1x,b1r.trans b1r,a7q ns (b4z.trans b4z) (b1r.trans b1r)⟩
omit hl in
theorem h6u {s0:PS} {c:Int} (hc:c≠0:=by decide) (hi:s.at_ < l.length:=by omega) (ns:b3d s:=by assumption) (N:∀ s1:PS,s1.bc≠0->s1.at_=s.at_->s1.n=s.n->Num (cQ q) (dQ q) (nQ q) (pQ q) s0 s1:=by intro s1 _ _ _;simp only[Num,cQ,dQ,nQ,pQ,true_imp_iff,false_imp_iff,imp_true_iff,and_true,true_and,Nat.zero_ne_one];omega) (lo:0<=s.at_:=by omega):G l q s0 (some (rI 0,a2h l c s)):=
  ⟨_,_,rfl,N _ (b6f hc) b1x b1r,by rw[b1x];exact hi,a7q ns b4z b1r,⟨Int.le_refl _,Nat.zero_le _⟩,⟨a7e _,by rw[b1x];show(0:Int)<=_;omega⟩,c1k⟩
theorem c4r {s0:PS} {fr:Int} {x:N} {m:Nat} (kk:c9u (s.n+1) x.ks m) (hm:m<=1000000:=by first|decide|omega|(simp only[push];omega)) (hn:s.n < 1000000:=by omega) (h0:0<=fr:=by omega) (h1:fr<=s.at_:=by omega) (lo:0<=s.at_:=by omega) (hi:s.at_ < l.length:=by omega) (ns:b3d s:=by assumption) (ht:x.t.length<=1000000:=by first|exact Nat.zero_le _|(dsimp only;omega)) (hv:Tp.I64 x.v:=by first|assumption|exact c1k|exact e5r)
    (N:∀ s1:PS,s1.n=s.n+1->((s.bc=0/\s1.bc=0/\s1.at_=s.at_+1)\/(s1.bc≠0/\s1.at_=s.at_))->Num (cQ q) (dQ q) (nQ q) (pQ q) s0 s1:=by intro s1 _ _;simp only[Num,cQ,dQ,nQ,pQ,true_imp_iff,false_imp_iff,imp_true_iff,and_true,true_and,Nat.zero_ne_one];omega):G l q s0 (b4n l fr x s):=by
  obtain⟨i,s2,e,h2,h3,h4,h5,h6⟩:=e3f hl ns hn h0 h1 hi kk hm ht hv
  unfold b4n b1i
  rw[e]
  obtain⟨⟨b,s3⟩,e3⟩:∃ y,a2i l [59] s2=y:=⟨_,rfl⟩
  have f:=g1u hl e3 h5 om om
  simp only[e3]
  refine⟨_,_,rfl,N s3 (by rcases f with⟨_,_,_,f,_⟩|⟨_,_,f,_⟩<;>omega) (by rcases f with⟨g1,g2,g3,_⟩|⟨g1,g2,_⟩<;>omega),by rcases f with⟨_,_,_,_,g,_⟩|⟨_,g,_⟩<;>omega,by rcases f with⟨_,_,_,_,_,g⟩|⟨_,_,_,g⟩<;>exact g,?_,⟨a7e _,?_⟩,c1k⟩
  ·refine⟨h6.1,?_⟩
   show i.toNat<=_
   rcases f with⟨_,_,_,g,_⟩|⟨_,_,g,_⟩<;>omega
  ·show(0:Int)<=_
   rcases f with⟨_,_,g,_⟩|⟨_,g,_⟩<;>omega
omit hl in
theorem un_n (e:¬(s.ns.length=s.n/\s.n < 1000000/\okF l (w (s.at_ - 1))=true)) (ns:b3d s) (hn:s.n < 1000000) (lo:1<=s.at_) (hi:s.at_ < l.length) (hlen:l.length<=65537):False:=by
 refine e ⟨ns.1,hn,?_⟩
 have:w (s.at_ - 1)=s.at_ - 1:=a3z om
 unfold okF;rw[this];simp;omega
theorem un_g (e:s.ns.length=s.n/\s.n < 1000000/\okF l (w (s.at_ - 1))=true) (ns:b3d s):∃ s7:PS,({s with n:=s.n+1,ns:=s.ns++[N.D ⟨12,[],0,[]⟩ (l.getD (w (s.at_ - 1)).toNat default).e (l.getD (w (s.at_ - 1)).toNat default).e]}:PS)=s7/\s7.at_=s.at_/\s7.bc=s.bc/\s7.n=s.n+1/\b3d s7/\w (((s.n+1:Nat):Int) - 1)=s.n:=by
 have hf:∀ i,Tp.I64 ((l.getD i default).e:Int):=fun i=>by
   have:=hl.pos i
   unfold Tp.I64;omega
 exact⟨_,rfl,rfl,rfl,rfl,e8n (x:=⟨12,[],0,[],_,_⟩) ns rfl rfl ⟨fun k hk=>(by cases hk),Nat.zero_le _,Nat.zero_le _,c1k,hf _,hf _⟩,(a3z om).trans om⟩
end
end Go.Vm.Pa
namespace Go.Vm.Pa
open Go.Vm.Lex (TokQ)
open Go.Vm.Tp (Nd I64)
theorem b5e {P:Prop} (h:P:=by
  repeat' (first
      |(first
       |((with_reducible show G _ _ _ none);exfalso;omega)
       |((with_reducible show G _ _ _ (some (_,a2h _ _ _)));exact h6u)
       |((with_reducible show G _ _ _ (b4n _ _ _ _));first|exact c4r (by assumption) (a7e _)|exact c4r (by assumption) (b2n ⟨om,om⟩)|exact c4r (by assumption) (d5n ⟨om,om⟩ ⟨om,om⟩)|exact c4r (by assumption) (a7t ⟨om,om⟩ ⟨om,om⟩ ⟨om,om⟩)|exact c4r (by assumption) (c3y (by assumption) om)|exact c4r (by assumption) (a7t ⟨om,om⟩ ⟨om,om⟩ ⟨by decide,by decide⟩)|exact c4r (by assumption) (a2m (by assumption) om ⟨om,om⟩)|exact c4r (by assumption) (a2m (a2m (by assumption) om ⟨om,om⟩) (Nat.le_refl _) ⟨om,om⟩)|fail)
       |((with_reducible show G _ _ _ (some _));first|exact leaf|(have f:=h7d (l:=l) (c:=120) (by assumption) (by decide);obtain⟨_,_,_,_⟩:=f;exact leaf)|fail)
       |((with_reducible show G _ _ _ (mk _ _ _ _ _ _ (down _)));first|exact g1q (by assumption) (a7e _)|exact g1q (by assumption) (b2n ⟨om,om⟩)|exact g1q (by assumption) (d5n ⟨om,om⟩ ⟨om,om⟩)|exact g1q (by assumption) (a7t ⟨om,om⟩ ⟨om,om⟩ ⟨om,om⟩)|exact g1q (by assumption) (c3y (by assumption) om)|exact g1q (by assumption) (a7t ⟨om,om⟩ ⟨om,om⟩ ⟨by decide,by decide⟩)|exact g1q (by assumption) (a2m (by assumption) om ⟨om,om⟩)|exact g1q (by assumption) (a2m (a2m (by assumption) om ⟨om,om⟩) (Nat.le_refl _) ⟨om,om⟩)|fail)
       |((with_reducible show G _ _ _ (mk _ _ _ _ _ _ _));first|exact f4y (by assumption) (a7e _)|exact f4y (by assumption) (b2n ⟨om,om⟩)|exact f4y (by assumption) (d5n ⟨om,om⟩ ⟨om,om⟩)|exact f4y (by assumption) (a7t ⟨om,om⟩ ⟨om,om⟩ ⟨om,om⟩)|exact f4y (by assumption) (c3y (by assumption) om)|exact f4y (by assumption) (a7t ⟨om,om⟩ ⟨om,om⟩ ⟨by decide,by decide⟩)|exact f4y (by assumption) (a2m (by assumption) om ⟨om,om⟩)|exact f4y (by assumption) (a2m (a2m (by assumption) om ⟨om,om⟩) (Nat.le_refl _) ⟨om,om⟩)|fail)
       |((with_reducible show G _ _ _ (go _ _ _ _));exact g1s (‹IHt _ _› _ _ (e2k (ex:=(by first|trivial|assumption|exact⟨om,om⟩|exact⟨⟨om,om⟩,om,om⟩|exact⟨⟨om,om⟩,⟨om,om⟩,om,om⟩|exact⟨by first|assumption|exact a7e _|exact b2n ⟨om,om⟩|exact a2m (by assumption) om ⟨om,om⟩,by first|omega|(simp only[push,K.o];omega),by first|omega|(simp only[push,K.o];omega)⟩|exact⟨(by exact⟨by first|assumption|exact a7e _|exact b2n ⟨om,om⟩|exact a2m (by assumption) om ⟨om,om⟩,by first|omega|(simp only[push,K.o];omega),by first|omega|(simp only[push,K.o];omega)⟩),by first|assumption|exact d1p _|exact c1k⟩))) f8x))
       |((with_reducible show G _ _ _ (cl _ _ _ _));exact cl_g (by assumption) (e2k (ex:=(by first|trivial|assumption|exact⟨om,om⟩|exact⟨⟨om,om⟩,om,om⟩|exact⟨⟨om,om⟩,⟨om,om⟩,om,om⟩|exact⟨by first|assumption|exact a7e _|exact b2n ⟨om,om⟩|exact a2m (by assumption) om ⟨om,om⟩,by first|omega|(simp only[push,K.o];omega),by first|omega|(simp only[push,K.o];omega)⟩|exact⟨(by exact⟨by first|assumption|exact a7e _|exact b2n ⟨om,om⟩|exact a2m (by assumption) om ⟨om,om⟩,by first|omega|(simp only[push,K.o];omega),by first|omega|(simp only[push,K.o];omega)⟩),by first|assumption|exact d1p _|exact c1k⟩))) f8x))
      |(split<;>first
       |(rename_i e;have f:=f9y (by assumption) e (by assumption) om om;obtain⟨_,_,_,_,_,_⟩:=f;clear e)
       |(rename_i e;have f:=g2b e;subst f;clear e)
       |(rename_i e;have f:=h0h (by assumption) e (by assumption) om om;rcases f with⟨c,_,_,_,_,_,_⟩|⟨c,c2⟩<;>subst c<;>(try subst c2)<;>clear e)
       |(rename_i e;have f:=g1u (by assumption) e (by assumption) om om;rcases f with⟨_,_,_,_,_,_⟩|⟨_,_,_,_⟩<;>clear e<;>try omega)
       |(rename_i e;have f:=g5t e (by assumption) (by decide);obtain⟨_,_,_,_,_⟩:=f;clear e)
       |(rename_i e;have f:=h5q (by assumption) e (by assumption) om om;obtain⟨_,⟨_,_,_,_,_,_⟩|⟨_,_,_,_⟩⟩:=f<;>clear e<;>try omega)
       |(rename_i e;have f:=h1f e (by assumption);obtain⟨_,_,_,⟨_,_,_⟩|⟨_,_⟩⟩:=f<;>first|(rename_i c _;cases c;done)|(rename_i c _ _;cases c;done)|clear e)
       |(rename_i e;exact(g7d (by assumption) e (e2k (ex:=(by first|trivial|assumption|exact⟨om,om⟩|exact⟨⟨om,om⟩,om,om⟩|exact⟨⟨om,om⟩,⟨om,om⟩,om,om⟩|exact⟨by first|assumption|exact a7e _|exact b2n ⟨om,om⟩|exact a2m (by assumption) om ⟨om,om⟩,by first|omega|(simp only[push,K.o];omega),by first|omega|(simp only[push,K.o];omega)⟩|exact⟨(by exact⟨by first|assumption|exact a7e _|exact b2n ⟨om,om⟩|exact a2m (by assumption) om ⟨om,om⟩,by first|omega|(simp only[push,K.o];omega),by first|omega|(simp only[push,K.o];omega)⟩),by first|assumption|exact d1p _|exact c1k⟩))) f8x).elim)
       |(rename_i e;have f:=g7y (by assumption) e (e2k (ex:=(by first|trivial|assumption|exact⟨om,om⟩|exact⟨⟨om,om⟩,om,om⟩|exact⟨⟨om,om⟩,⟨om,om⟩,om,om⟩|exact⟨by first|assumption|exact a7e _|exact b2n ⟨om,om⟩|exact a2m (by assumption) om ⟨om,om⟩,by first|omega|(simp only[push,K.o];omega),by first|omega|(simp only[push,K.o];omega)⟩|exact⟨(by exact⟨by first|assumption|exact a7e _|exact b2n ⟨om,om⟩|exact a2m (by assumption) om ⟨om,om⟩,by first|omega|(simp only[push,K.o];omega),by first|omega|(simp only[push,K.o];omega)⟩),by first|assumption|exact d1p _|exact c1k⟩))) f8x;obtain⟨N,_,_,_,⟨_,_⟩,_⟩:=f;simp only[cQ,dQ,nQ,pQ]at N;clear e;first|(have f:=h4h N (by assumption);rcases f with⟨_,_,_,_⟩|⟨_,_,_,_⟩|⟨_,_,_,_⟩)|(have f:=i5k N (by assumption);rcases f with⟨_,_,_,_⟩|⟨_,_,_,_⟩|⟨_,_,_,_⟩|⟨_,_,_,_⟩)|(have f:=g3t N (by assumption);obtain⟨_,_,_,_⟩:=f)|fail)
       |(rename_i e;first|exact(c4x (by assumption) e (a7e _)).elim|exact(c4x (by assumption) e (b2n ⟨om,om⟩)).elim|exact(c4x (by assumption) e (d5n ⟨om,om⟩ ⟨om,om⟩)).elim|exact(c4x (by assumption) e (a7t ⟨om,om⟩ ⟨om,om⟩ ⟨om,om⟩)).elim|exact(c4x (by assumption) e (c3y (by assumption) om)).elim|exact(c4x (by assumption) e (a7t ⟨om,om⟩ ⟨om,om⟩ ⟨by decide,by decide⟩)).elim|exact(c4x (by assumption) e (a2m (by assumption) om ⟨om,om⟩)).elim|exact(c4x (by assumption) e (a2m (a2m (by assumption) om ⟨om,om⟩) (Nat.le_refl _) ⟨om,om⟩)).elim|fail)
       |(rename_i e;(first|(have f:=b8c (by assumption) e (a7e _);obtain⟨_,_,_,_,_,_⟩:=f)|(have f:=b8c (by assumption) e (b2n ⟨om,om⟩);obtain⟨_,_,_,_,_,_⟩:=f)|(have f:=b8c (by assumption) e (d5n ⟨om,om⟩ ⟨om,om⟩);obtain⟨_,_,_,_,_,_⟩:=f)|(have f:=b8c (by assumption) e (a7t ⟨om,om⟩ ⟨om,om⟩ ⟨om,om⟩);obtain⟨_,_,_,_,_,_⟩:=f)|(have f:=b8c (by assumption) e (c3y (by assumption) om);obtain⟨_,_,_,_,_,_⟩:=f)|(have f:=b8c (by assumption) e (a7t ⟨om,om⟩ ⟨om,om⟩ ⟨by decide,by decide⟩);obtain⟨_,_,_,_,_,_⟩:=f)|(have f:=b8c (by assumption) e (a2m (by assumption) om ⟨om,om⟩);obtain⟨_,_,_,_,_,_⟩:=f)|(have f:=b8c (by assumption) e (a2m (a2m (by assumption) om ⟨om,om⟩) (Nat.le_refl _) ⟨om,om⟩);obtain⟨_,_,_,_,_,_⟩:=f)|fail);clear e)
       |(rename_i e;have h5:=k3_t e;have f:=g5h (by assumption) om om (by assumption) h5;obtain⟨_,_,_,_,_⟩:=f;clear e h5)
       |(rename_i e;have h5:=k3_n e;have f:=g5h (by assumption) om om (by assumption) h5;obtain⟨_,_,_,_,_⟩:=f;clear e h5)
       |(rename_i e;have h5:=sg_n e;have f:=g5h (by assumption) om om (by assumption) h5;obtain⟨_,_,_,_,_⟩:=f;clear e h5)
       |(rename_i e;exact(un_n e (by assumption) om om om (by assumption)).elim)
       |(rename_i e;have f:=un_g (by assumption) e (by assumption);obtain⟨s7,h7,_,_,_,_,h8⟩:=f;rw[h7];try rw[h8];clear h7 h8 e;have h9:s7.bc=0:=by omega)
       |(rename_i e;have:=e6x e;clear e)
       |(rename_i e;have:=h3r e;clear e)
       |(rename_i e;exact(i3p (by assumption) om e).elim)
       |(rename_i e;exact(h6k (by assumption) om e).elim)
       |(rename_i e;exact(i1i (by assumption) om e).elim)
       |(rename_i e;exact(i5c e om om).elim)
       |(rename_i e;have:=f5f e;clear e)
       |(rename_i e;have:=of_decide_eq_false e;clear e)
       |(rename_i e;clear e))
      |fail)):P:=h
end Go.Vm.Pa
