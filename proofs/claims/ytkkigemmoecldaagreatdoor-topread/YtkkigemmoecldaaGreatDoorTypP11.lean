import Derived.Test.YtkkigemmoecldaaGreatDoorItrW6
set_option maxRecDepth 100000
set_option maxHeartbeats 0
set_option linter.unusedVariables false
set_option linter.unusedSimpArgs false
namespace Go.Vm.Itr
open Go.Vm.Ite
open Go.Vm.Tp
def To (t:List Nd):Prop:=∀ i,i < t.length->(nd t i).kids.all (oB i)=true
abbrev BO (l:List Int):List V:=l.map fun n=>i64 n
theorem S9 {l:List Int} {i:Nat} (h:i < l.length):(BO l)[i]? =some (i64 (l.getD i 0)):=by
 rw[bE,ae h];simp[h]
theorem MA {l:List Int} {i:Nat} (h:i < l.length):(BO l)[0+i*1]? =some (i64 (l.getD i 0)):=by rw[bt,n7];exact S9 h
theorem DJ (l:List Int):kC (BO l)=some (l.map (D.int .i64)):=by
 induction l with
 |nil=>rfl
 |cons a l ih=>rw[show BO (a::l)=i64 a::BO l from rfl,kC,ih];rfl
theorem BN {l:List Int} {i:Nat} (h:i < l.length) (n:Int):putAt (BO l) i [i64 n]=BO (l.set i n):=Nm (fun n=>i64 n) h
theorem Hr {α:Type} {l:List α} {i:Nat} (h:i < l.length) (d:α):l[i]? =some (l.getD i d):=by rw[av,ae h];rfl
theorem pZ {l:List Int} {i:Nat} (h:i < l.length) (a b:Int):l.getD i a=l.getD i b:=by simp[h]
section
variable {fx:Nat->Option Obj} {F:Nat->Option dF} [HC F] (H:Hp)
theorem RG (l:List Int) (v:Int) (hl:l.length<=1048576):cv (b9 fx F) rF [ints l,i64 v] H=some (i64 (if l.contains v then((l.idxOf v:Nat):Int) else -1),H):=by
 have _u:=(inferInstance:HC F);refine eB ?_ H;refine wp_loop (α:=Nat) (fun i=>l.length - i) (fun i=>[(0,ints l),(1,i64 v),(7,i64 (l.map (D.int .i64)).length),(8,i64 i)]) (fun _=>[]) (fun i=>i<=l.length/\∀ k∈l.take i,k≠v) ?_ 0 ⟨om,by simp⟩;rintro i ⟨hi,hall⟩;refine ao (fun h=>?_) (fun h=>?_)
 ·replace h:=af h;rw[aE]at h;have hlt:i < l.length:=om;refine tI (s:=l.map (D.int .i64)) (by rw[aE];exact hlt) ?_;rw[m8];refine ao rfl ?_;by_cases hk:v=l[i]
  ·refine ej (au hk) ?_;show _=_;have hc:l.contains v=true:=by rw[jz,hk];exact dG _
   have hx:l.idxOf v=i:=by
    unfold List.idxOf;rw[List.findIdx_eq hlt];refine⟨by simp[hk],fun j hj=>?_⟩;have:l[j]∈l.take i:=by rw[List.mem_take_iff_getElem];exact⟨j,om,rfl⟩
    simpa using hall _ this
   rw[hc,hx];rfl
  ·refine bz (ak hk) ?_;refine⟨i+1,⟨om,?_⟩,om,?_,rfl⟩
   ·intro k hkm;rw[dL,ae hlt,cd]at hkm;rcases hkm with hkm|hkm
    ·exact hall k hkm
    ·simp at hkm;rw[hkm];exact fun e=>hk e.symm
   ·rw[eK om];rfl
 ·replace h:=bw h;rw[aE]at h;have hi':i=l.length:=om;subst hi';rw[cb]at hall;show _=_;have hc:l.contains v=false:=by
   cases hb:l.contains v with
   |false=>rfl
   |true=>rw[jz]at hb;exact absurd rfl (hall v hb)
  rw[hc];rfl
theorem Ib (l:List Int) (v:Int) (hl:l.length<=1048576):cv (b9 fx F) pG [ints l,i64 v] H=some (boo (l.contains v),H):=by
 refine eB ?_ H;refine ca (RG _ l v hl) ?_;show V.d (.bool (decide ((0:Int)<=if l.contains v then((l.idxOf v:Nat):Int) else -1)))=_;cases l.contains v with
 |true=>rw[ay rfl,au om]
 |false=>rfl
theorem Jz (t:List Nd) (hf:xR t) (hk:To t):cv (b9 fx F) AW [.d (gD t)] H=some (match ups t with|none=> .tup [.d (.sl []),boo false]|some up=> .tup [ints up,boo (decide (up=[])|| !up.dropLast.contains (-1))],H):=by
  refine eB ?_ H;have htl:=hf.len;have hnl:(t.map Nd.D).length=t.length:=aE ..;refine ao ⟨om,by unfold roomy;omega⟩ ?_;refine Kt rfl ?_
  refine qt (α:=Nat) (fun i=>t.length - i) (fun i=>[(1,.ptr 0 0),(4,.arr 1 0 t.length),(15,i64 t.length),(16,i64 i)])
    (fun i=>[.box [.d (.sl (t.map Nd.D))],.box (BO (List.replicate i (-1)++List.replicate (t.length - i) 0))]) (fun i=>i<=t.length) ?_ 0 om ?_ ?_
  ·intro i hi;refine ao (fun h=>?_) (fun h=>?_)
   ·replace h:=af h;have hlt:i < t.length:=om;refine ao ⟨om,om⟩ ?_;refine PA (by simp;omega) ?_;refine⟨i+1,om,om,?_,?_⟩
    ·rw[eK om];rfl
    ·have e:(List.replicate i (-1:Int)++List.replicate (t.length - i) 0).set i (-1)=List.replicate (i+1) (-1)++List.replicate (t.length - (i+1)) 0:=by
      rw[mF _ _ (by simp),jy,dR,show t.length - i=(t.length - (i+1))+1 by omega,List.replicate_succ,jb,List.replicate_succ',ag];rfl
     have e2:=BN (l:=List.replicate i (-1:Int)++List.replicate (t.length - i) 0) (i:=i) (by simp;omega) (-1);rw[e]at e2;show[_,Ob.box (putAt _ (0+i*1) _)]=_;rw[bt,n7,e2]
   ·replace h:=bw h;have hi':i=t.length:=om;subst hi';rw[dR,List.replicate_zero,bC]
    refine qt (α:=Nat×List Int) (fun a=>t.length - a.1) (fun a=>[(4,.arr 1 0 t.length),(24,.d (.sl (t.map Nd.D))),(25,i64 t.length),(26,i64 a.1)])
      (fun a=>[.box [.d (.sl (t.map Nd.D))],.box (BO a.2)]) (fun a=>a.1<=t.length/\a.2.length=t.length/\j9 a.1 (t.drop a.1) a.2=ups t) ?_ (0,List.replicate t.length (-1)) ⟨om,by simp,rfl⟩ ?_ ?_
    ·rintro⟨i,out⟩ ⟨hi,hol,hup⟩;simp only at hi hol hup⊢;refine ao (fun h=>?_) (fun h=>?_)
     ·replace h:=af h;have hlt:i < t.length:=om;obtain⟨x,hxe⟩:∃ x,x=nd t i:=⟨_,rfl⟩;have hx:x∈t:=by rw[hxe];exact EB hlt
      have hkl:=hf.kid x hx;have hko:x.kids.all (oB i)=true:=by rw[hxe];exact hk i hlt
      have hdr:t.drop i=x::t.drop (i+1):=by rw[hxe,bV hlt];congr 1;simp[nd,hlt]
      rw[hdr]at hup;simp only[j9]at hup;refine eV (d:=x.D) (by rw[hxe];exact kZ (k:=(i:Int)) om om) ?_;refine ao rfl ?_
      refine qt (α:=Nat×List Int) (fun a=>x.kids.length - a.1) (fun a=>[(4,.arr 1 0 t.length),(6,i64 i),(24,.d (.sl (t.map Nd.D))),(25,i64 t.length),(26,i64 i),(32,ints x.kids),(33,i64 x.kids.length),(34,i64 a.1)])
        (fun a=>[.box [.d (.sl (t.map Nd.D))],.box (BO a.2),.box [i64 x.k,str x.t,i64 x.v,ints x.kids,i64 x.f,i64 x.e]]) (fun a=>a.1<=x.kids.length/\a.2.length=t.length/\iw i (x.kids.drop a.1) a.2=iw i x.kids out) ?_ (0,out) ⟨om,hol,rfl⟩ ?_ ?_
      ·rintro⟨j,o⟩ ⟨hj,hoj,hupj⟩;simp only at hj hoj hupj⊢;refine ao (fun h=>?_) (fun h=>?_)
       ·replace h:=af h;have hjl:j < x.kids.length:=om;have hkj:=aC.1 hko _ (dG hjl);simp only[oB,ab,an]at hkj;rw[bV hjl]at hupj;simp only[iw]at hupj;refine tI (s:=x.kids.map (D.int .i64)) (by rw[aE];exact hjl) ?_;rw[m8];refine ao rfl ?_;have hkn:x.kids[j].toNat < o.length:=om;refine ao ⟨om,om⟩ ?_;refine LD (MA hkn) ?_;by_cases hc:0<=o.getD x.kids[j].toNat 0
        ·refine ej (au hc) ?_;rw[ay hc]at hupj;rw[<-hupj]at hup;show _=_;rw[<-hup];rfl
        ·refine bz (ak hc) ?_;rw[aA hc]at hupj;refine ao ⟨om,om⟩ ?_;refine PA (by simp;omega) ?_;refine⟨(j+1,o.set x.kids[j].toNat i),⟨by show j+1<=_;omega,by simp[hoj],hupj⟩,by show _ - (j+1) < _ - j;omega,?_,?_⟩
         ·rw[eK om];rfl
         ·show[_,Ob.box (putAt _ (0+_*1) _),_]=_;rw[bt,n7,BN hkn]
       ·replace h:=bw h;have hj':j=x.kids.length:=om;subst hj';rw[m9]at hupj;simp only[iw]at hupj;rw[<-hupj]at hup;refine⟨(i+1,o),⟨by show i+1<=_;omega,hoj,hup⟩,by show _ - (i+1) < _ - i;omega,?_,rfl⟩;rw[eK om];rfl
      ·rw[aE];rfl
      ·rfl
     ·replace h:=bw h;have hi':i=t.length:=om;subst hi';rw[m9]at hup;simp only[j9]at hup;rw[<-hup];refine fz (DJ out) ?_;have hdl:(out.map (D.int .i64)).length=t.length:=by rw[aE,hol]
      have hds:List.take t.length (List.drop 0 (out.map (D.int .i64)))=out.map (D.int .i64):=by rw[bq,<-hdl,cb]
      by_cases h0:(t.length:Int)=0
      ·refine iS (au h0) ?_
       repeat' (first|refine run ⟨?_⟩|fail)
       refine ao om ?_;show _=_;have ho:out=[]:=bZ om;subst ho;rw[hds];rfl
      ·refine fv (ak h0) ?_;refine ao om ?_;refine ao (by rw[eK om];omega) ?_;refine ao ⟨om,by rw[eK om,hds,hdl];omega,rfl⟩ ?_;rw[show List.drop 0 (List.take (Int.toNat (IntKind.i64.wrap ((t.length:Int) - 1))) (List.take t.length (List.drop 0 (out.map (D.int .i64)))))=out.dropLast.map (D.int .i64)from by rw[hds,bq,eK om,List.dropLast_eq_take,eW,hol];congr 1;omega];refine ca (Ib _ out.dropLast (-1) (by rw[List.length_dropLast];omega)) ?_
       repeat' (first|refine run ⟨?_⟩|fail)
       refine ao om ?_;show _=_;rw[hds];have ho:out≠[]:=fun e=>by rw[e]at hol;simp at hol;omega
       show V.tup [V.d (D.sl (List.map (D.int IntKind.i64) out)),V.d (D.bool !out.dropLast.contains (-1))]=V.tup [ints out,boo (decide (out=[])|| !out.dropLast.contains (-1))];rw[ak ho];rfl
    ·rw[hnl];rfl
    ·rfl
  ·rw[hnl];rfl
  ·simp[hnl]
theorem Of (up:List Int) (hl:up.length<=1048576) (hu:∀ (j:Nat) (v:Int),up[j]? =some v-> -1<=v/\v < up.length):cv (b9 fx F) Cq [ints up] H=some (ints (deps up),H):=by
 have _u:=(inferInstance:HC F);refine eB ?_ H;have hnl:(up.map (D.int .i64)).length=up.length:=aE ..;refine ao ⟨om,by unfold roomy;omega⟩ ?_;refine Kt rfl ?_
 refine qt (α:=Nat×List Int) (fun a=>a.1) (fun a=>[(0,ints up),(3,.arr 0 0 up.length),(4,i64 ((a.1:Int) - 1))]) (fun a=>[.box (BO a.2)])
   (fun a=>a.1<=up.length/\a.2.length=up.length/\xB up a.1 a.2=deps up/\∀ (j:Nat) (v:Int),a.2[j]? =some v->0<=v/\v<=1048576 - a.1) ?_ (up.length,List.replicate up.length 0) ⟨om,by simp,rfl,fun j v hv=>by
     rw[iG]at hv;split at hv
     ·cases hv;omega
     ·cases hv⟩ ?_ ?_
 ·rintro⟨n,out⟩ ⟨hn,hol,hdp,hbd⟩;simp only at hn hol hdp hbd⊢;cases n with
  |zero=>
   refine bz (ak om) ?_;simp only[xB]at hdp;refine fz (DJ out) ?_;refine ao (by rw[aE];omega) ?_;show _=_;rw[<-hdp,bq,<-hol,<-aE (D.int .i64),cb];rfl
  |succ i=>
   refine ej (au om) ?_;simp only[xB]at hdp;have hi:i < up.length:=om;have e0:((((i+1:Nat):Int)) - 1)=(i:Int):=om;rw[e0];have hg:(up.map (D.int .i64))[i]? =some (.int .i64 (up.getD i 0)):=by rw[bE,ae hi];simp[hi]
   have hui:=hu i (up.getD i 0) (Hr hi 0);rw[pZ hi (-1) 0]at hdp;refine eV (d:= .int .i64 (up.getD i 0)) ⟨om,hg⟩ ?_;refine ao rfl ?_;by_cases hc:0<=up.getD i 0
   ·refine ej (au hc) ?_;rw[ay hc]at hdp;refine eV (d:= .int .i64 (up.getD i 0)) ⟨om,hg⟩ ?_;refine ao rfl ?_;have hk:(up.getD i 0).toNat < out.length:=om;have hbv:=hbd _ _ (Hr hk 0);refine ao ⟨om,om⟩ ?_;refine LD (MA hk) ?_;refine ao ⟨om,om⟩ ?_;refine PA (by simp;omega) ?_;refine⟨(i,out.set i (out.getD (up.getD i 0).toNat 0+1)),⟨by show i<=_;omega,by simp[hol],hdp,fun j v hv=>?_⟩,by show i < i+1;omega,?_,?_⟩
    ·simp only at hv;rw[fG]at hv;split at hv
     ·split at hv
      ·cases hv;omega
      ·cases hv
     ·have:=hbd _ _ hv;omega
    ·rw[eK (n:=(i:Int) - 1) om]
    ·show[Ob.box (putAt _ (0+i*1) _)]=_;rw[bt,n7,eK om,BN om]
   ·refine bz (ak hc) ?_;rw[aA hc]at hdp;refine⟨(i,out),⟨by show i<=_;omega,hol,hdp,fun j v hv=>by have:=hbd _ _ hv;omega⟩,by show i < i+1;omega,?_,rfl⟩;rw[eK (n:=(i:Int) - 1) om]
 ·rw[hnl,eK om];rfl
 ·simp[hnl]
theorem NL (a:Int):∀ (r:List Int) (i:Nat),i < r.length->vT (a::r.take (i+1))=max (vT (a::r.take i)) (r.getD i 0):=by
 intro r i h;unfold vT;simp only;rw[dL,ae h,mn];simp[h]
theorem YQ (a:Int) (r:List Int) (hl:r.length < 1048576):cv (b9 fx F) tC [ints (a::r)] H=some (i64 (vT (a::r)),H):=by
 have _u:=(inferInstance:HC F);refine eB ?_ H;refine bz (ak (by simp only[aE,aw];omega)) ?_;refine eV (d:= .int .i64 a) ⟨cI _,rfl⟩ ?_;refine ao rfl ?_;refine qt (α:=Nat) (fun i=>r.length - i) (fun i=>[(0,ints (a::r)),(3,i64 (vT (a::r.take i))),(4,i64 ((i:Int)+1))]) (fun _=>[]) (fun i=>i<=r.length) ?_ 0 om ?_ rfl
 ·intro i hi;refine ao (fun h=>?_) (fun h=>?_)
  ·replace h:=af h;rw[aE,aw]at h;have hlt:i < r.length:=om;refine eV (d:= .int .i64 (r.getD i 0)) ⟨om,by rw[show Int.toNat ((i:Int)+1)=i+1 by omega,aB,bR,bE,ae hlt];simp[hlt]⟩ ?_;refine ao rfl ?_;refine⟨i+1,om,om,?_,rfl⟩;rw[NL a r i hlt,eK om];rfl
  ·replace h:=bw h;rw[aE,aw]at h;have hi':i=r.length:=om;subst hi';rw[cb];exact rfl
 ·simp[vT]
end
theorem NQ {t:List Nd} (h:(List.range t.length).all (je t)=true):To t:=by
 intro i hi;have:=aC.1 h i (fD.2 hi);cases hb:(nd t i).kids.all (oB i)with
 |true=>rfl
 |false=>rw[JN hb]at this;cases this
theorem Ic {up:List Int} (h:1<=up.length):∃ a r,up=a::r:=by
 cases up with
 |nil=>simp at h
 |cons a r=>exact⟨a,r,rfl⟩
section
variable {fx:Nat->Option Obj} {F:Nat->Option dF} [HC F] (H:Hp)
theorem BI (t:List Nd) (hf:xR t):cv (b9 fx F) EG [.d (gD t)] H=some (i64 (a8r (iV t)),H):=by
 refine eB ?_ H;have htl:=hf.len;have hnl:(t.map Nd.D).length=t.length:=aE ..;have bad:iV t=false->(i64 3:V)=i64 (a8r (iV t)):=fun h=>by rw[h];rfl
 by_cases c1:(t.length:Int) < 1
 ·refine iS (au (by rw[hnl];exact c1)) ?_
  repeat' (first|refine run ⟨?_⟩|fail)
  exact bad (by unfold iV;rw[ak (by omega:¬ 1<=t.length)];rfl)
 refine fv (ak (by rw[hnl];exact c1)) ?_;by_cases c2:20000 < (t.length:Int)
 ·refine iS (au (by rw[hnl];exact c2)) ?_
  repeat' (first|refine run ⟨?_⟩|fail)
  exact bad (by unfold iV;rw[ak (by omega:¬ t.length<=20000),Bool.and_false];rfl)
 refine fv (ak (by rw[hnl];exact c2)) ?_;have hw:IntKind.i64.wrap (((t.map Nd.D).length:Int) - 1)=((t.length - 1:Nat):Int):=by rw[hnl,eK om];omega
 refine eV (d:=(nd t (t.length - 1)).D) (by rw[hw];exact kZ (k:=((t.length - 1:Nat):Int)) om om) ?_;refine ao rfl ?_;have hcb:iV t=(decide ((nd t (t.length - 1)).k=1) && (List.range t.length).all (je t) && F2 t):=by
  unfold iV;rw[au (by omega:1<=t.length),au (by omega:t.length<=20000)];rfl
 rw[hcb]at bad⊢;by_cases c3:(nd t (t.length - 1)).k=1
 ·refine bz (by rw[c3];rfl) ?_;rw[au c3,eE]at bad⊢;refine qt (α:=Nat) (fun i=>t.length - i) (fun i=>[(1,.ptr 0 0),(28,i64 t.length),(29,i64 i)]) (fun _=>[.box [.d (.sl (t.map Nd.D))]]) (fun i=>i<=t.length/\∀ j,j < i->je t j=true) ?_ 0 ⟨om,om⟩ ?_ rfl
  ·rintro i ⟨hi,hall⟩;refine ao (fun h=>?_) (fun h=>?_)
   ·replace h:=af h;have hlt:i < t.length:=om;refine ca (Pn _ t hf i hlt) ?_;cases hb:je t i with
    |false=>
     refine ej rfl ?_;refine bad ?_;cases hc:(List.range t.length).all (je t)with
     |false=>rfl
     |true=>have:=aC.1 hc i (fD.2 hlt);rw[hb]at this;cases this
    |true=>
     refine bz rfl ?_;refine⟨i+1,⟨om,fun j hj=>?_⟩,om,?_,rfl⟩
     ·by_cases hji:j=i
      ·rw[hji];exact hb
      ·exact hall j om
     ·rw[eK om];rfl
   ·replace h:=bw h;have hi':i=t.length:=om;subst hi';have hnodes:(List.range t.length).all (je t)=true:=aC.2 fun j hj=>hall j (fD.1 hj);rw[hnodes,eE]at bad⊢;refine ca (Jz _ t hf (NQ hnodes)) ?_;cases hu:ups t with
    |none=>
     repeat' (first|refine run ⟨?_⟩|fail)
     exact bad (by unfold F2;rw[hu])
    |some up=>
     have hupo:F2 t=((decide (up=[])|| !up.dropLast.contains (-1)) && decide (vT (deps up)<=400)):=by unfold F2;rw[hu]
     rw[hupo]at bad⊢;obtain⟨u1,u2⟩:=ui hu;rcases Bool.eq_false_or_eq_true (decide (up=[])|| !up.dropLast.contains (-1))with hc|hc
     rotate_left
     ·rw[hc]at bad⊢;refine iS (by rw[hc];rfl) ?_;refine ej rfl ?_;exact bad rfl
     ·rw[hc]at bad⊢;refine fv (by rw[hc];rfl) ?_;refine ca (Of _ up om (by rw[u1];exact u2)) ?_;have hdl:(deps up).length=up.length:=by unfold deps;rw[yE,jy]
      obtain⟨a,r,hd⟩:=Ic (up:=deps up) om;rw[hd];have hrl:r.length < 1048576:=by have:=aG List.length hd;simp at this;omega
      refine ca (YQ _ a r hrl) ?_;rw[<-hd];by_cases hm:vT (deps up)<=400
      ·refine bz (ak om) ?_;show _=_;rw[au hm];rfl
      ·refine ej (au om) ?_;exact bad (by rw[ak hm];rfl)
  ·rw[hnl];rfl
 ·refine ej (by simpa using c3) ?_;exact bad (by rw[ak c3];rfl)
end
end Go.Vm.Itr
namespace Go.Vm.Tz
open Go.Vm.Ite
open Go.Vm.Itr (nd yj wT kZ ints)
open Go.Vm.Tp
open Go.Vm.Pa (a0z)
section
variable {fx:Nat->Option Obj} {F:Nat->Option dF}
theorem kS {l:List Int} {j:Nat} (h:j < l.length):0<=(j:Int)/\(l.map (D.int .i64))[(j:Int).toNat]? =some (.int .i64 (l.getD j 0)):=⟨om,by rw[b8,bE,ae h,av,ae h];rfl⟩
theorem Sh (a:List Int) (ha:a.length<=1048576) (H:Hp):cv (b9 fx F) rH [ints a,ints a] H=some (boo true,H):=by
 refine oc ?_ H;have hna:(a.map (D.int .i64)).length=a.length:=aE ..;have hn1:(!decide (((a.map (D.int .i64)).length:Int)=((a.map (D.int .i64)).length:Int)))=false:=by rw[au rfl];rfl
 refine run ⟨?_⟩;refine qU (α:=Nat) (fun i=>a.length - i) (fun i=>[(0,ints a),(1,ints a),(12,i64 ((a.map (D.int .i64)).length:Int)),(13,i64 i)]) (fun _=>[]) (fun i=>i<=a.length) ?_ 0 (aR _) rfl rfl;intro i hi;by_cases h:i < a.length
 ·have h':(i:Int) < ((a.map (D.int .i64)).length:Int):=om;have p1:=kS h;have hn2:(!decide (a.getD i 0=a.getD i 0))=false:=by rw[au rfl];rfl
  repeat' (first|refine run ⟨?_⟩|refine eV p1 ?_|fail)
  exact⟨i+1,om,om,by rw[eK om];rfl,rfl⟩
 ·have h':¬ (i:Int) < ((a.map (D.int .i64)).length:Int):=om;refine run ⟨?_⟩;exact rfl
theorem PT (x y:Nd) (hk:x.kids.length<=1048576) (e1:x.k=y.k) (e2:x.t=y.t) (e3:x.v=y.v) (e4:x.kids=y.kids) (H:Hp):cv (b9 fx F) qj [.d x.D,.d y.D] H=some (boo true,H):=by
 obtain⟨q,tx,v,ks,f,e⟩:=x;obtain⟨q',tx',v',ks',f',e'⟩:=y;obtain rfl:q=q':=e1;obtain rfl:tx=tx':=e2;obtain rfl:v=v':=e3;obtain rfl:ks=ks':=e4;refine oc ?_ H;have he:=fun H=>Sh (fx:=fx) (F:=F) ks hk H;have h1:decide (q=q)=true:=au rfl;have h2:decide (tx=tx)=true:=au rfl;have h3:decide (v=v)=true:=au rfl
 repeat' (first|refine run ⟨?_⟩|refine ca (he _) ?_|fail)
 exact rfl
theorem ZC {a b:List Nd} (h:a0z a b) (H:Hp):cv (b9 fx F) fH [.d (.sl (a.map Nd.D)),.d (.sl (b.map Nd.D)),.fn qj []] H=some (boo true,H):=by
 refine oc ?_ H;have hna:(a.map Nd.D).length=a.length:=aE ..;have hnb:(b.map Nd.D).length=b.length:=aE ..;have hl:=h.len;have hl2:=h.hl;have hn1:(!decide (((a.map Nd.D).length:Int)=((b.map Nd.D).length:Int)))=false:=by rw[au om];rfl
 refine run ⟨?_⟩;refine qU (α:=Nat) (fun i=>a.length - i) (fun i=>[(1,.d (.sl (b.map Nd.D))),(2,.fn qj []),(15,.d (.sl (a.map Nd.D))),(16,i64 ((a.map Nd.D).length:Int)),(17,i64 i)]) (fun _=>[]) (fun i=>i<=a.length) ?_ 0 (aR _) rfl rfl;intro i hi;by_cases c:i < a.length
 ·have h':(i:Int) < ((a.map Nd.D).length:Int):=om;have p1:0<=(i:Int)/\(a.map Nd.D)[(i:Int).toNat]? =some (nd a i).D:=⟨om,(kZ (t:=a) (k:=(i:Int)) om om).2⟩;have p2:0<=(i:Int)/\(b.map Nd.D)[(i:Int).toNat]? =some (nd b i).D:=⟨om,(kZ (t:=b) (k:=(i:Int)) om om).2⟩;obtain⟨e1,e2,e3,e4⟩:=h.eq i c;have hkl:=h.kl i c;have hs:=fun H=>PT (fx:=fx) (F:=F) (nd a i) (nd b i) (dD hkl (by decide)) e1 e2 e3 e4 H;revert hs p1 p2;generalize(nd a i)=x;generalize(nd b i)=y;obtain⟨q,tx,v,ks,f,e⟩:=x;obtain⟨q',tx',v',ks',f',e'⟩:=y;intro p1 p2 hs
  repeat' (first|refine run ⟨?_⟩|refine eV p1 ?_|refine eV p2 ?_|refine ca (hs _) ?_|fail)
  exact⟨i+1,om,om,by rw[eK om];rfl,rfl⟩
 ·have h':¬ (i:Int) < ((a.map Nd.D).length:Int):=om;refine run ⟨?_⟩;exact rfl
theorem Lc {a b:List Nd} (h:a0z a b) (H:Hp):cv (b9 fx F) GY [.d (gD a),.d (gD b)] H=some (boo true,H):=by
 refine oc ?_ H;have he:=fun H=>ZC (fx:=fx) (F:=F) h H
 repeat' (first|refine run ⟨?_⟩|refine ca (he _) ?_|fail)
 exact rfl
end
end Go.Vm.Tz
namespace Go.Vm.Tz
open Go.Vm.Ite
open Go.Vm.Itr (nd yj wT kZ ints)
open Go.Vm.Pa (Fo nj zL KT N KU Mg DQ zL)
open Go.Vm.Tp (Nd gD)
theorem Wc {fx:Nat->Option Obj} {f:Nat} {x y:D} {l l':List D} {m:Nat} {r:D} {o1 o2 o3 o4 o5:Ob} (h:cv (b9 fx F0) f [.d x,.d y,.agg [.row 0 l.length]] [.row 6 l]=some (.tup [.agg [.row 0 m],.d r],[.row 6 l',o1,o2,o3,o4,o5])) {H:Hp} {id:Nat} (hid:H[id]? =some (.row 6 l)):
 ∃ p1 p2 p3 p4 p5,cv (b9 fx F0) f [.d x,.d y,.agg [.row id l.length]] H=some (.tup [.agg [.row id m],.d r],H.set id (.row 6 l')++[p1,p2,p3,p4,p5]):=by
 have hlt:id < H.length:=(az.1 hid).1;obtain⟨σ,hs⟩:∃ σ:Nat->Nat,∀ i,σ i=if i=0 then id else H.length+(i - 1):=⟨_,fun _=>rfl⟩
 have hm:Mv σ 1 H:=by
  constructor
  ·intro i j hij;rw[hs,hs];split<;>split<;>omega
  ·intro j;rw[hs,aA om];omega
 have R:HR σ 1 H [.row 6 l] H:=by
  refine⟨ai _,by rw[hs,aA (by simp)];rfl,fun i o hi=>?_,fun j hj hn=>rfl⟩;cases i with
  |zero=>cases hi;rw[hs,ay rfl];exact hid
  |succ i=>cases hi
 obtain⟨H',e1,e2⟩:=Zx (mv fx) hm R h;have hl:H'.length=H.length+5:=by
  have:=e2.len;rw[hs,aA (by simp)]at this;exact this
 have hg:∀ j,j < H.length->H'[j]? =(H.set id (.row 6 l'))[j]? :=by
  intro j hj;by_cases hj0:id=j
  ·subst hj0;have:=e2.get 0 _ rfl;rw[hs,ay rfl]at this;rw[this,bu hj];rfl
  ·rw[aX hj0];refine e2.out j hj fun i hi=>?_;rw[hs,ay om];exact hj0
 have ht:H'.take H.length=H.set id (.row 6 l'):=by
  refine fa fun j=>?_;by_cases hj:j < H.length
  ·rw[List.getElem?_take_of_lt hj];exact hg j hj
  ·rw[bM (by rw[bm];omega),bM (by rw[cX];omega)]
 have hd:∃ p1 p2 p3 p4 p5,H'.drop H.length=[p1,p2,p3,p4,p5]:=by
  have hl5:(H'.drop H.length).length=5:=by rw[bh];omega
  match H'.drop H.length,hl5 with
  |[p1,p2,p3,p4,p5],_=>exact⟨p1,p2,p3,p4,p5,rfl⟩
 obtain⟨p1,p2,p3,p4,p5,hd⟩:=hd;refine⟨p1,p2,p3,p4,p5,?_⟩;rw[<-ht,<-hd,bG];have ea:fM σ [.d x,.d y,.agg [.row 0 l.length]]=[.d x,.d y,.agg [.row id l.length]]:=by
  simp only[fM,V.sh,hs,cU]
 have er:V.sh σ (.tup [.agg [.row 0 m],.d r])= .tup [.agg [.row id m],.d r]:=by
  simp only[fM,V.sh,hs,cU]
 rw[ea,er]at e1;exact e1
section
variable {fx:Nat->Option Obj} {t:List Nd}
theorem kD {l:List Int} {j:Nat} (h:j < l.length):0<=(j:Int)/\(l.map (D.int .i64))[(j:Int).toNat]? =some (.int .i64 (l.getD j 0)):=⟨om,by rw[b8,bE,ae h,av,ae h];rfl⟩
theorem XI {H:Hp} {id sz:Nat} {l:List D} {n:Nat} {k:Int} {t:List UInt8} {v f e:Int} (h:H[id]? =some (.row sz l)) (hl:l.length=n):wu H (.agg [i64 k,.d (.str t),i64 v,.row id n,i64 f,i64 e])=some (.agg [.int .i64 k,.str t,.int .i64 v,.sl l,.int .i64 f,.int .i64 e]):=by
 simp only[wu,xW,im,h,hl,cU,aI]
theorem rm {n b:Nat} (h:n<=1048577) (hb:b<=72):roomy n b:=⟨dD (Nat.mul_le_mul h hb) (by decide),om⟩
theorem Sb {pg:Pg} {f:Nat} {vf:kK} (ht:pg.my f=some (.code vf)) {a:List V} (hn:a.length=vf.np) (hk:vf.keep=true) {H:Hp} {Q:V->Hp->Prop} (h:kA 0 a fun e=>WQ pg H.length vf.body [] e H (retQ vf.res fun vs H'=>Q (oneOf vs) H')):∃ r H2,cv pg f a H=some (r,H2)/\Q r H2:=by
  rw[jm]at h;obtain⟨x,kn,e,H',h1,_,h2⟩:=h.imp (dT.nil _);rw[Fg ht hn (by rw[hk,Bool.not_true,Bool.and_false]),gB,h1];cases x with
  |exit i=>cases h2
  |dN=>
   obtain⟨vs,h3,h4⟩:=h2;exact⟨_,_,by simp only[pb,leave,h3,hk,cU],h4⟩
  |ret=>
   obtain⟨vs,h3,h4⟩:=h2;exact⟨_,_,by simp only[pb,leave,h3,hk,cU],h4⟩
abbrev LJ (t:List Nd) (f:Nat) (ks:List Int) (l:List D) (j:Nat):List D:=l++(zL (fun k=>nj t f k.toNat) (ks.take j)).lay l.length
abbrev IJ (t:List Nd) (f:Nat) (ks:List Int) (l:List D) (j:Nat):List D:=(zL (fun k=>nj t f k.toNat) (ks.take j)).idx l.length
theorem CD (hk:∀ i,i < t.length->∀ a∈(nd t i).kids,0<=a/\a < i) (hkl:∀ i,i < t.length->(nd t i).kids.length<=1048576):∀ (f n:Nat) (l:List D),n < f->n < t.length->l.length+(nj t f n).sz<=1000000->
 ∃ o1 o2 o3 o4 o5,cv (b9 fx F0) rE [.d (gD t),i64 (n:Int),.agg [.row 0 l.length]] [.row 6 l]=some (.tup [.agg [.row 0 (l.length+(nj t f n).sz)],i64 ((l.length+(nj t f n).sz - 1:Nat):Int)],[.row 6 (l++(nj t f n).lay l.length),o1,o2,o3,o4,o5])
 |0,n,l,h,_,_=>om
 |f+1,n,l,h,hn,hs=>by
  have hkid:=hk n hn;have hkl1:=hkl n hn;have pn:=kZ (t:=t) (k:=(n:Int)) om om;rw[b8]at pn;have IH:∀ (k:Int) (l:List D),k∈(nd t n).kids->l.length+(nj t f k.toNat).sz<=1000000->∃ o1 o2 o3 o4 o5,cv (b9 fx F0) rE [.d (gD t),i64 k,.agg [.row 0 l.length]] [.row 6 l]=some (.tup [.agg [.row 0 (l.length+(nj t f k.toNat).sz)],i64 ((l.length+(nj t f k.toNat).sz - 1:Nat):Int)],[.row 6 (l++(nj t f k.toNat).lay l.length),o1,o2,o3,o4,o5]):=fun k l hm hl=>by
    have h1:=hkid k hm;have:=CD hk hkl f k.toNat l om om hl;rwa [show((k.toNat:Nat):Int)=k by omega]at this
  have e0:nj t (f+1) n= .cons (nd t n).k (nd t n).t (nd t n).v (nd t n).f (nd t n).e (zL (fun k=>nj t f k.toNat) (nd t n).kids) .nil:=rfl;rw[e0]at hs⊢;have hf0:∀ k∈(nd t n).kids,∃ q1 q2 q3 q4 q5 a,nj t f k.toNat= .cons q1 q2 q3 q4 q5 a .nil:=fun k hm=>by
    have h1:=hkid k hm;obtain⟨a,ha⟩:=Mg t (f:=f) (n:=k.toNat) om;exact⟨_,_,_,_,_,a,ha⟩
  simp only[Fo.sz]at hs;revert pn hkid hkl1 IH hs hf0;generalize nd t n=x;obtain⟨q,tx,v,ks,fr,e⟩:=x;intro hs hkid hkl1 pn IH hf0;simp only at hs hkid hkl1 IH hf0⊢;obtain⟨r,H2,h1,rfl,o1,o2,o3,o4,o5,rfl⟩:∃ r H2,cv (b9 fx F0) rE [.d (gD t),i64 (n:Int),.agg [.row 0 l.length]] [.row 6 l]=some (r,H2)/\r= .tup [.agg [.row 0 (l.length+(Fo.cons q tx v fr e (zL (fun k=>nj t f k.toNat) ks) .nil).sz)],i64 ((l.length+(Fo.cons q tx v fr e (zL (fun k=>nj t f k.toNat) ks) .nil).sz - 1:Nat):Int)]/\∃ o1 o2 o3 o4 o5,H2=[.row 6 (l++(Fo.cons q tx v fr e (zL (fun k=>nj t f k.toNat) ks) .nil).lay l.length),o1,o2,o3,o4,o5]:=by
    refine Sb rfl rfl rfl ?_
    repeat' (first|refine run ⟨?_⟩|refine eV pn ?_|fail)
    have hks:((ks.map (D.int .i64)).length:Int)=(ks.length:Int):=by rw[aE]
    have hI0:∀ k,((nj t f k).idx 0).length<=1:=fun k=>by
      cases f with
      |zero=>exact aR _
      |succ f=>exact ai _
    have hIJ:∀ j,j<=ks.length->(IJ t f ks l j).length=j:=fun j hj=>by
      unfold IJ;rw[Fo.Hh _ _ 0,DQ fun k hk=>?_,bm]
      ·omega
      ·obtain⟨_,_,_,_,_,a,e⟩:=hf0 k (jW hk);rw[e];rfl
    have hLJ:∀ j,(LJ t f ks l j).length=l.length+(zL (fun k=>nj t f k.toNat) (ks.take j)).sz:=fun j=>by rw[ah,Fo.cH]
    have hle:∀ j,(zL (fun k=>nj t f k.toNat) (ks.take j)).sz<=(zL (fun k=>nj t f k.toNat) ks).sz:=fun j=>KU _ _ _;refine qU (α:=Nat) (fun j=>ks.length - j) (fun j=>[(3,.ptr 1 0),(5,.ptr 2 0),(6,.ptr 3 0),(8,.ptr 4 0),(9,.row 5 j),(20,ints ks),(21,i64 ((ks.map (D.int .i64)).length:Int)),(22,i64 j)]) (fun j=>[.row 6 (LJ t f ks l j),.box [.d (.sl (t.map Nd.D))],.box [.row 0 (LJ t f ks l j).length],.box [.nils],.box [i64 q,.d (.str tx),i64 v,ints ks,i64 fr,i64 e],.row 1 (IJ t f ks l j)]) (fun j=>j<=ks.length) ?_ 0 (aR _) ?_ ?_
    ·intro j hj;by_cases hlt:j < ks.length
     ·have h1:(j:Int) < ((ks.map (D.int .i64)).length:Int):=om;have pk:=kD hlt;have hm:ks.getD j 0∈ks:=by rw[av,ae hlt];exact dG _
      have ht:=KT (fun k=>nj t f k.toNat) ks j hlt;have hl1:=hLJ j;have hl2:=hle (j+1);rw[ht,Fo.eF]at hl2;obtain⟨_,_,_,_,_,hw⟩:=IH (ks.getD j 0) (LJ t f ks l j) hm (by rw[hl1];omega);obtain⟨y1,y2,y3,y4,y5,hcall⟩:=Wc hw (H:=[.row 6 (LJ t f ks l j),.box [.d (.sl (t.map Nd.D))],.box [.row 0 (LJ t f ks l j).length],.box [.nils],.box [i64 q,.d (.str tx),i64 v,ints ks,i64 fr,i64 e],.row 1 (IJ t f ks l j)]) (id:=0) rfl;have hi1:=hIJ j hj;have hr1:roomy (j+1) 8:=rm om (by decide)
      repeat' (first|refine run ⟨?_⟩|refine eV pk ?_|refine ca (hcall) ?_|refine ao ⟨rfl,by decide⟩ ?_|refine ao ⟨rfl,hi1,hr1⟩ ?_|fail)
      have hone:∃ q1 q2 q3 q4 q5 a,nj t f (ks.getD j 0).toNat= .cons q1 q2 q3 q4 q5 a .nil:=hf0 _ hm;obtain⟨q1,q2,q3,q4,q5,a,ha⟩:=hone;have hlay:LJ t f ks l j++(nj t f (ks.getD j 0).toNat).lay (LJ t f ks l j).length=LJ t f ks l (j+1):=by
       show _=l++_;rw[ht,Fo.uN,hl1,ag]
      have hidx:IJ t f ks l j++[D.int .i64 (((LJ t f ks l j).length+(nj t f (ks.getD j 0).toNat).sz - 1:Nat):Int)]=IJ t f ks l (j+1):=by
       show _=Fo.idx _ _;rw[ht,Fo.iQ,hl1,ha];simp only[Fo.sz,Fo.idx];rw[show l.length+(zL (fun k=>nj t f k.toNat) (ks.take j)).sz+(a.sz+1+0) - 1=l.length+(zL (fun k=>nj t f k.toNat) (ks.take j)).sz+a.sz by omega]
      have hlen:(LJ t f ks l j).length+(nj t f (ks.getD j 0).toNat).sz=(LJ t f ks l (j+1)).length:=by
       rw[hLJ,hLJ,ht,Fo.eF];omega
      refine⟨j+1,om,om,?_,?_⟩
      ·rw[eK om];rfl
      ·rw[<-hlay,<-hidx];show[_,_,_,_,_,_]=[_,_,_,_,_,_];rw[hlay,<-hlen]
     ·have h1:¬ (j:Int) < ((ks.map (D.int .i64)).length:Int):=om;have hj':j=ks.length:=om;subst hj';have hi1:=hIJ _ hj;have hl1:=hLJ ks.length;have hl2:=hle ks.length;have hr1:roomy ((LJ t f ks l ks.length).length+1) 72:=rm om (by decide)
      repeat' (first|refine Ek 5 (by decide) (by decide) ?_|((with_reducible show WQ _ _ _ _ _ _ _);refine XR ?_)|((fail_if_success (with_reducible show WQ _ _ _ _ _ _ _));(conv=>whnf);first|(with_reducible show WQ _ _ _ _ _ _ _)|refine a4w ?_)|refine aO _ (ao (XI rfl hi1) ?_)|refine ao ⟨rfl,by decide⟩ ?_|refine ao ⟨rfl,rfl,hr1⟩ ?_|fail)
      have hN:(LJ t f ks l ks.length).length+1=l.length+(Fo.cons q tx v fr e (zL (fun k=>nj t f k.toNat) ks) .nil).sz:=by
        rw[hl1,cb];simp only[Fo.sz];omega
      have hw:IntKind.i64.wrap ((((LJ t f ks l ks.length).length+1:Nat):Int) - 1)=((l.length+(Fo.cons q tx v fr e (zL (fun k=>nj t f k.toNat) ks) .nil).sz - 1:Nat):Int):=by
        rw[eK om,<-hN];omega
      refine⟨_,rfl,?_,?_⟩
      ·show V.tup [.agg [.row 0 ((LJ t f ks l ks.length).length+1)],i64 (IntKind.i64.wrap ((((LJ t f ks l ks.length).length+1:Nat):Int) - 1))]=_;rw[hw,hN]
      ·have e2:l++(Fo.cons q tx v fr e (zL (fun k=>nj t f k.toNat) ks) .nil).lay l.length=LJ t f ks l ks.length++[.agg [.int .i64 q,.str tx,.int .i64 v,.sl (IJ t f ks l ks.length),.int .i64 fr,.int .i64 e]]:=by
         unfold LJ IJ;rw[cb,ag];rfl
       rw[e2];exact⟨_,_,_,_,_,rfl⟩
    ·rfl
    ·simp[LJ,IJ,zL,Fo.lay,Fo.idx]
  exact⟨_,_,_,_,_,h1⟩
theorem Nw (hk:∀ i,i < t.length->∀ a∈(nd t i).kids,0<=a/\a < i) (hkl:∀ i,i < t.length->(nd t i).kids.length<=1048576) (h1:1<=t.length) (hl:t.length<=1048576) (hs:(nj t t.length (t.length - 1)).sz<=1000000) (H:Hp):
 cv (b9 fx F0) tA [.d (gD t)] H=some (.d (.agg [.sl ((nj t t.length (t.length - 1)).lay 0)]),H):=by
 obtain⟨_,_,_,_,_,hw⟩:=CD (fx:=fx) hk hkl t.length (t.length - 1) [] om om (by rw[aH];omega);rw[aH,bt]at hw;obtain⟨y1,y2,y3,y4,y5,hcall⟩:=Wc hw (H:=[.box [.d (.sl (t.map Nd.D))],.box [.nils],.box [.row 3 0],.row 6 []]) (id:=3) rfl;have hp:(0:Int) < ((t.map Nd.D).length:Int):=by rw[aE];omega
 have hw1:IntKind.i64.wrap (((t.map Nd.D).length:Int) - 1)=((t.length - 1:Nat):Int):=by rw[aE,eK om];omega
 rw[<-hw1]at hcall;have hlen:((nj t t.length (t.length - 1)).lay 0).length=(nj t t.length (t.length - 1)).sz:=Fo.cH _ _;refine oc ?_ H
 repeat' (first|refine run ⟨?_⟩|refine ca (hcall) ?_|refine ao hlen ?_|fail)
 exact rfl
theorem GH {F:Nat->Option dF} (hk:∀ i,i < t.length->∀ a∈(nd t i).kids,0<=a/\a < i) (hkl:∀ i,i < t.length->(nd t i).kids.length<=1048576) (h1:1<=t.length) (hl:t.length<=1048576) (hs:(nj t t.length (t.length - 1)).sz<=1000000) (H:Hp):
 cv (b9 fx F) tA [.d (gD t)] H=some (.d (.agg [.sl ((nj t t.length (t.length - 1)).lay 0)]),H):=up (Nw hk hkl h1 hl hs H)
end
end Go.Vm.Tz
namespace Go.Vm
variable {P:Program}
theorem tK {m t:Nat} {k:IntKind} {x:D} (h:P.underlying t=some (.int k)) (hx:kF P (m+1) t x):∃ n,x= .int k n/\(Lit.int k n).wf=true:=by
 unfold kF at hx;rw[h]at hx;exact hx
theorem Hl {m t:Nat} {x:D} (h:P.underlying t=some .string) (hx:kF P (m+1) t x):∃ s,x= .str s/\s.length<=maxLen:=by
 unfold kF at hx;rw[h]at hx;exact hx
theorem Bi {m t e:Nat} {x:D} (h:P.underlying t=some (.slice e)) (hx:kF P (m+1) t x):∃ l,x= .sl l/\l.length<=maxLen/\∀ y∈l,kF P m e y:=by
 unfold kF at hx;rw[h]at hx;exact hx
def fieldsOf (P:Program) (t:Nat):Option (List Nat):=match P.underlying t with|some (.struct fs)=>some (fs.toList.map (·.type))|_=>none
def a0y (P:Program) (m:Nat):List Nat->List D->Prop
 |[],[]=>True
 |t::ts,x::xs=>kF P m t x/\a0y P m ts xs
 |_,_=>False
theorem MD {m:Nat}:∀ (ts:List Field) (xs:List D),xs.length=ts.length->(∀ (i:Nat) (f:Field) (y:D),ts[i]? =some f->xs[i]? =some y->kF P m f.type y)->a0y P m (ts.map (·.type)) xs
 |[],[],_,_=>trivial
 |[],_::_,h,_=>by simp at h
 |_::_,[],h,_=>by simp at h
 |t::ts,x::xs,h,hx=>⟨hx 0 t x rfl rfl,MD ts xs (by simpa using h) fun i f y h1 h2=>hx (i+1) f y (by simpa using h1) (by simpa using h2)⟩
theorem yZ {m t:Nat} {ts:List Nat} {x:D} (h:fieldsOf P t=some ts) (hx:kF P (m+1) t x):∃ xs:List D,x= .agg (xs.flatMap D.cells)/\a0y P m ts xs:=by
 unfold fieldsOf at h;unfold kF at hx;split at h
 ·rename_i fs hf;rw[hf]at hx;cases h;obtain⟨xs,h1,h2,h3⟩:=hx;exact⟨xs,h1,MD _ _ h2 h3⟩
 ·cases h
end Go.Vm
namespace Go.Vm
open Go.ChangeShapes Go.WideShapes Go.ChangeAt Go.RowKit
section
variable {P:Program}
theorem BZ {C:Nat->List Value} {k:IntKind}:∀ {zs:List Int} {vs:List Value},db C (zs.map (D.int k)) vs->vs=zs.map (Value.int k)
 |[],vs,h=>by simpa [db] using h
 |z::r,vs,h=>by
  simp only[aB,db]at h;obtain⟨y,ys,rfl,_,h2,h3⟩:=h;simp only[bD,bS,fQ]at h2;rw[h2,BZ h3];rfl
theorem Ru {w:World} {l:List (String×DataW Unit)} (h:laidMet P l w) {n:String} {d:DataW Unit} (hm:(n,d)∈l) {g:Nat} (hg:P.globalNamed n=some g) {t:TypeId} (ht:(P.globals[g]?).map (·.type)=some t) {m:Nat} (hp:lQ P m t=true) {k:IntKind} {zs:List Int} (hd:(lI d).cells=zs.map (D.int k)):
 ∃ T fz,w.heap[g]? =some (.cells (zs.map (Value.int k)).toArray T fz):=by
 obtain⟨ps,hl,_⟩:=h;obtain⟨g',t',cs,fuel,p,h1,h2,h3,h4⟩:=xa hl hm;obtain rfl:=Option.some.inj (hg.symm.trans h1);obtain rfl:=Option.some.inj (ht.symm.trans h2);obtain⟨_,h5⟩:=Pb fuel m t _ _ hp h4;have h6:=qc h5;rw[hd]at h6;have h7:=BZ h6;unfold World.var? at h3;rw[hg]at h3;simp only[aP]at h3;split at h3
 ·rename_i c' t' f' hc;cases h3;refine⟨t',f',?_⟩;rw[hc,<-h7]
 ·cases h3
theorem XO {w:World} {cx:Cx} {n:String} {g:Nat} {k:IntKind} {zs:List Int} {l:List Nat} (hcx:cx.fx=oD w l) (hm:g∈l) (hg:P.globalNamed n=some g) (h:∃ T fz,w.heap[g]? =some (.cells (zs.map (Value.int k)).toArray T fz)):TabAt P cx n k zs:=by
 obtain⟨T,fz,h⟩:=h;refine⟨g,T,fz,hg,?_⟩;rw[hcx];unfold oD;rw[ay hm];exact h
end
end Go.Vm
namespace Go.Vm.Px
open Go.Vm.Lex (TokQ bF qA zk)
open Go.Vm.Pa hiding go
open Go.Vm.Ite
open Go Go.Proofs Go.RowKit
theorem Js:pF rA:=by
 intro a h r h' hh;unfold rA at hh;split at hh
 ·cases hh;exact⟨rfl,rfl,rfl,fun H=>rfl⟩
 ·cases hh
theorem Ck:pF kY:=by
 intro a h r h' hh;unfold kY at hh;split at hh
 ·cases hh;exact⟨rfl,rfl,rfl,fun H=>rfl⟩
 ·cases hh
theorem Eo:pF lA:=by
 intro a h r h' hh;unfold lA at hh;split at hh
 ·split at hh
  ·rename_i hc;simp only[lA,ay hc];split at hh<;>(rename_i e;cases hh;refine⟨rfl,rfl,rfl,fun H=>?_⟩;simp only[e])
  ·cases hh
 ·cases hh
section
variable {fx:Nat->Option Obj} (X:zo fx)
noncomputable def tq:List V->Hp->Option (V×Hp)
 |[.d (.str s),.fn 14 []],H=>some (.tup [.d (vo (qD X s).choose),.d (zk (qD X s).choose_spec.choose (qD X s).choose_spec.choose_spec.choose (qD X s).choose_spec.choose_spec.choose_spec.choose)],H)
 |_,_=>none
theorem Gz:pF (tq X):=by
 intro a h r h' hh;unfold tq at hh;split at hh
 ·cases hh;exact⟨rfl,rfl,rfl,fun H=>rfl⟩
 ·cases hh
noncomputable def FT:Nat->Option dF
 |13=>some (.prim (tq X))
 |12=>some (.prim nD)
 |53=>some (.prim pT)
 |84=>some (.prim pU)
 |n=>FL n
structure FxT (fx:Nat->Option Obj):Prop where
 pow:TabAt Tryz.prog ⟨fun _=>[],fx⟩ "internal/strconv.uint64pow10" .u64 Lib.pow10Tab
 max:∀ g H w,Inv ⟨fun _=>[],fx⟩ g H w->∃ m:Int,w.cell? ⟨1,0,none⟩=some (.int .i64 m)
theorem kL (Y:FxT fx):∀ f e,FT X f=some e->match e with| .prim p=> ∀ args H r H',p args H=some (r,H')->dw Tryz.prog ⟨fun _=>[],fx⟩ f args H r H'| .code _=>False:=by
  intro f e h;unfold FT at h;split at h
  ·cases h;intro args H r H' hh;unfold tq at hh;split at hh
   ·cases hh;exact(qD X _).choose_spec.choose_spec.choose_spec.choose_spec.2 _
   ·cases hh
  ·cases h;exact NS (BG 12 Tryz.func12 kr kr) (fun a c sep w=>Tryz.strings_Join_none _ _ _ _) fun bk o c xs sep w a1 a2 a3 a4 a5=>Tryz.strings_Join bk o c xs sep w a1 a2 a3 a4 a5
  ·cases h;exact RU (BG 53 Tryz.func53 kr kr) Y.pow fun n a b w hw=>Tryz.strconv_FormatInt_10 n a b w hw
  ·cases h;exact SG (BG 84 Tryz.func84 kr kr) Y.max fun s p w h1 hm=>by obtain⟨m,hm⟩:=hm;exact Tryz.strings_Cut s p m w h1 hm
  ·exact Wx X f e h
theorem tblT (Y:FxT fx):eS Tryz.prog (b9 fx (FT X)):=K4 ⟨fun _=>[],fx⟩ (FT X) (kL X Y)
theorem mvT:∀ f e,FT X f=some e->match e with| .prim p=>pF p| .code _=>False:=by
  intro f e h;unfold FT at h;split at h
  ·cases h;exact Gz X
  ·cases h;exact GA
  ·cases h;exact Jt
  ·cases h;exact Ju
  ·unfold FL at h;split at h
   ·cases h;exact Js
   ·cases h;exact Ck
   ·cases h;exact ye
   ·cases h;exact Eo
   ·cases h
instance:HC (FT X) where
 utf:=rfl
 dec:=rfl
 ib:=rfl
 par:=rfl
 cut:=rfl
 join:=rfl
 fmt:=rfl
 mv:=mvT X
theorem qF (s:S):∃ W c f e,IB s W c f e/\∀ H,cv (b9 fx (FT X)) Ct [.d (.str s)] H=some (.tup [.d (vo W),.d (zk c f e)],H):=by
 refine⟨_,_,_,_,(qD X s).choose_spec.choose_spec.choose_spec.choose_spec.1,fun H=>?_⟩;refine oc ?_ H;have h:∀ H,cv (b9 fx (FT X)) 13 [.d (.str s),.fn 14 []] H=tq X [.d (.str s),.fn 14 []] H:=fun H=>jT rfl ..
 repeat' (first|refine run ⟨?_⟩|refine ca (h _) ?_|fail)
 exact rfl
end
end Go.Vm.Px
namespace Go.Vm.Tz
open Go.Vm.Ite
open Go.Vm.Itr (nd yj wT kZ ints lS fc fF Fv)
open Go.Vm.Tp
open Go.Vm.Pa (wo dY eA jt qL mR)
def LIM:Nat:=1099511627776
abbrev PH (t:List Nd) (l:dM):Hp:=[.row 1 (l.map D.str),.box [.d (.sl (t.map Nd.D)),.row 0 l.length]]
structure Ft (tot l r:dM):Prop where
 e:l++r=tot
 len:tot.length<=LIM
section
variable {tot l r a:dM} {x y z:List UInt8}
theorem Ft.app (h:Ft tot l (a++r)):Ft tot (l++a) r:=⟨by rw[ag];exact h.e,h.len⟩
theorem Ft.c1 (h:Ft tot l (x::r)):Ft tot (l++[x]) r:=Ft.app (a:=[x]) h
theorem Ft.c2 (h:Ft tot l (x::y::r)):Ft tot (l++[x,y]) r:=Ft.app (a:=[x,y]) h
theorem Ft.c3 (h:Ft tot l (x::y::z::r)):Ft tot (l++[x,y,z]) r:=Ft.app (a:=[x,y,z]) h
theorem Ft.fin (h:Ft tot l []):l=tot:=by rw[<-h.e,bC]
theorem Ft.room (h:Ft tot l (a++r)):l.length+a.length<=LIM:=by have h1:=h.len;rw[<-h.e]at h1;simp only[ah]at h1;omega
theorem Ft.sub (h:Ft tot l (a++r)):Ft (l++a) l a:=⟨rfl,by rw[ah];exact h.room⟩
end
section
variable {fx:Nat->Option Obj} {F:Nat->Option dF} [HC F] {t:List Nd}
theorem Em {l ts tot r:dM} (h:Ft tot l (ts++r)) (X:Hp):cv (b9 fx F) gg [.ptr 1 0,.d (.sl (ts.map D.str))] (PH t l++X)=some (.tup [],PH t (l++ts)++X):=by
 refine Fh mvC (h:=PH t l) (h':=PH t (l++ts)) ?_ rfl rfl rfl rfl rfl;refine xp ?_;have hl:=h.room;unfold LIM at hl;refine ao ⟨by rw[mo,aC];intro x _;rfl,by decide⟩ ?_;refine ao ⟨rfl,by rw[aE],by unfold roomy;rw[aE];omega⟩ ?_;refine⟨rfl,?_⟩;show[Ob.row 1 (l.map D.str++ts.map D.str),Ob.box [.d (.sl (t.map Nd.D)),.row 0 (l.length+(ts.map D.str).length)]]=_;rw[<-aM,aE,<-ah]
variable {tot l r:dM} {P:V->Hp->Prop} {X:Hp}
theorem sp1 {x:List UInt8} (h:Ft tot l (x::r)) (k:Ft tot (l++[x]) r->P (.tup []) (PH t (l++[x])++X)):∃ v H,cv (b9 fx F) gg [.ptr 1 0,.d (.sl [.str x])] (PH t l++X)=some (v,H)/\P v H:=⟨_,_,Em (ts:=[x]) h X,k h.c1⟩
theorem sp2 {x y:List UInt8} (h:Ft tot l (x::y::r)) (k:Ft tot (l++[x,y]) r->P (.tup []) (PH t (l++[x,y])++X)):∃ v H,cv (b9 fx F) gg [.ptr 1 0,.d (.sl [.str x,.str y])] (PH t l++X)=some (v,H)/\P v H:=⟨_,_,Em (ts:=[x,y]) h X,k h.c2⟩
theorem a1i {x y z:List UInt8} (h:Ft tot l (x::y::z::r)) (k:Ft tot (l++[x,y,z]) r->P (.tup []) (PH t (l++[x,y,z])++X)):∃ v H,cv (b9 fx F) gg [.ptr 1 0,.d (.sl [.str x,.str y,.str z])] (PH t l++X)=some (v,H)/\P v H:=⟨_,_,Em (ts:=[x,y,z]) h X,k h.c3⟩
def kW (fx:Nat->Option Obj) (F:Nat->Option dF) (t:List Nd) (f:Nat) (a:List V) (ts:dM):Prop:=∀ (tot l r:dM) (X:Hp),Ft tot l (ts++r)->cv (b9 fx F) f (.ptr 1 0::a) (PH t l++X)=some (.tup [],PH t (l++ts)++X)
omit [HC F] in
theorem sC {f:Nat} {a:List V} {ts:dM} (e:kW fx F t f a ts) (h:Ft tot l (ts++r)) (k:Ft tot (l++ts) r->P (.tup []) (PH t (l++ts)++X)):∃ v H,cv (b9 fx F) f (.ptr 1 0::a) (PH t l++X)=some (v,H)/\P v H:=⟨_,_,e tot l r X h,k h.app⟩
theorem cO {f:Nat} {a:List V} {ts:dM} (hu:br 0 a=true) (h:∀ (tot l:dM),Ft tot l (ts++[])->cv (b9 fx F) f (.ptr 1 0::a) (PH t l)=some (.tup [],PH t tot)):kW fx F t f a ts:=by
 intro tot l r X hf;refine Fh mvC (h:=PH t l) (h':=PH t (l++ts)) (h _ _ (by rw[bC];exact hf.sub)) ?_ rfl rfl rfl rfl;show(decide (1 < 2) && br 2 a)=true;rw[fE (aR 2) _ hu];rfl
theorem oN {P:Prop} (h:P:=by
  repeat' (first
    |refine run ⟨?_⟩
    |refine sp1 (by assumption) fun _=>?_
    |refine sp2 (by assumption) fun _=>?_
    |refine a1i (by assumption) fun _=>?_
    |refine sC (hN _ (by assumption) (by assumption)) (by assumption) fun _=>?_
    |refine sC (by assumption) (by assumption) fun _=>?_
    |refine sC (QC hN hm (by assumption) (by assumption)) (by assumption) fun _=>?_
    |fail)
  exact aG (PH t) (Ft.fin (by assumption))):P:=h
variable {m:Int} {N:Int->dM} (hN:∀ k:Int,0<=k->k < m->kW fx F t fO [i64 k] (N k)) (hm:m<=t.length)
def C4 (N:Int->dM) (l:List Int) (j:Nat):dM:=if j=0 then gw N l else(l.drop j).flatMap fun k=>[44]::N k
theorem rest_step (N:Int->dM) (l:List Int) (j:Nat) (h:j < l.length):C4 N l j=(if j=0 then[] else[[44]])++(N (l.getD j 0)++C4 N l (j+1)):=by
 have e:l.getD j 0=l[j]:=by simp[h]
 unfold C4;rw[aA (Nat.succ_ne_zero j)];by_cases h0:j=0
 ·subst h0;rw[ay rfl,ay rfl,e];cases l with
  |nil=>simp at h
  |cons a r=>simp[gw]
 ·rw[aA h0,aA h0,bV h,e,gV];rfl
theorem rest_end (N:Int->dM) (l:List Int):C4 N l l.length=[]:=by
 unfold C4;split
 ·rename_i h;rw[cp.1 h];rfl
 ·simp
def NZ (N:Int->dM) (l:List Int) (j:Nat):dM:=(l.drop j).flatMap N
theorem E9 (N:Int->dM) (l:List Int) (j:Nat) (h:j < l.length):NZ N l j=N (l.getD j 0)++NZ N l (j+1):=by
 have e:l.getD j 0=l[j]:=by simp[h]
 unfold NZ;rw[bV h,e,gV]
theorem a1y {l:List Int} {j:Nat} (h:j < l.length):0<=(j:Int)/\(l.map (D.int .i64))[(j:Int).toNat]? =some (.int .i64 (l.getD j 0)):=⟨om,by rw[b8,bE,ae h,av,ae h];rfl⟩
theorem kB {ks:List Int} (hk:∀ k∈ks,0<=k/\k < m) {j:Nat} (h:j < ks.length):0<=ks.getD j 0/\ks.getD j 0 < m:=hk _ (by rw[av,ae h];exact dG _)
include hN
theorem yp (ks:List Int) (hk:∀ k∈ks,0<=k/\k < m) (hkl:ks.length<=1048576):kW fx F t vd [ints ks] (gw N ks):=by
 refine cO rfl fun tot l hF=>?_;refine aY ?_;have hml:(ks.map (D.int .i64)).length=ks.length:=aE ..;refine run ⟨?_⟩;refine qU (α:=Nat×dM) (fun a=>ks.length - a.1) (fun a=>[(0,.ptr 1 0),(6,ints ks),(7,i64 ((ks.map (D.int .i64)).length:Int)),(8,i64 a.1)]) (fun a=>PH t a.2) (fun a=>a.1<=ks.length/\Ft tot a.2 (C4 N ks a.1)) ?_ (0,l) ⟨aR _,by rw[bC]at hF;exact hF⟩ rfl rfl;rintro⟨j,u⟩ ⟨hj,hF⟩;simp only at hj hF⊢;by_cases h:j < ks.length
 ·have h':(j:Int) < ((ks.map (D.int .i64)).length:Int):=om;obtain⟨k0,k1⟩:=kB hk h;have pj:=a1y h;rw[rest_step N ks j h]at hF;by_cases h0:j=0
  ·have h0':¬ (0:Int) < (j:Int):=om;rw[ay h0,aq]at hF
   repeat' (first|refine run ⟨?_⟩|refine eV pj ?_|refine sC (hN _ k0 k1) hF fun _=>?_|fail)
   exact⟨(j+1,_),⟨by show j+1<=_;omega,hF.app⟩,by show ks.length - (j+1) < ks.length - j;omega,by rw[eK om];rfl,rfl⟩
  ·have h0':(0:Int) < (j:Int):=om;rw[aA h0,jx]at hF;have hF1:=hF.c1
   repeat' (first|refine run ⟨?_⟩|refine eV pj ?_|refine sp1 hF fun _=>?_|refine sC (hN _ k0 k1) hF1 fun _=>?_|fail)
   exact⟨(j+1,_),⟨by show j+1<=_;omega,hF1.app⟩,by show ks.length - (j+1) < ks.length - j;omega,by rw[eK om];rfl,rfl⟩
 ·have h':¬ (j:Int) < ((ks.map (D.int .i64)).length:Int):=om;obtain rfl:j=ks.length:=om;rw[rest_end]at hF;refine run ⟨?_⟩;exact aG (PH t) hF.fin
theorem Lq (ks:List Int) (hk:∀ k∈ks,0<=k/\k < m):kW fx F t rC [ints ks] (mM N ks):=by
 refine cO rfl fun tot l hF=>?_;refine aY ?_;cases ks with
 |nil=>exact oN
 |cons a r=>
  obtain⟨k0,k1⟩:=hk a (by simp);have h':(0:Int) < ((List.map (D.int .i64) (a::r)).length:Int):=by simp only[aB,aw];omega
  simp only[mM,ag,al,aq]at hF;exact oN
include hm
theorem QC {k:Int} {get:Bool} (k0:0<=k) (k1:k < m):kW fx F t rD [i64 k,boo get] (dm t N k get):=by
 refine cO rfl fun tot l hF=>?_;refine aY ?_;have pn:=kZ (t:=t) k0 om;unfold dm An at hF;have hq:bT t k=(nd t k.toNat).k:=rfl;rw[hq]at hF;revert hF pn;generalize nd t k.toNat=x;obtain⟨q,xt,xv,xk,xf,xe⟩:=x;intro hF pn;simp only at hF
 repeat' (first|refine run ⟨?_⟩|refine eV pn ?_|fail)
 by_cases c1:30<=q<;>by_cases c2:q<=34<;>by_cases c3:q=37<;>by_cases c4:q=44<;>by_cases c5:q=41<;>cases get
 all_goals first
   |omega
   |(simp only[c1,c2,c3,c4,c5,Int.reduceLE,Int.reduceEq,iK,decide_false,bo,Bool.and_false,eE,Bool.false_and,Bool.or_true,nx,Bool.true_or,Bool.false_or,cU,iE,eP,ag,al,aq]at hF
     exact oN)
omit hm
theorem VN (x:Nd) (hk:∀ k∈x.kids,0<=k/\k < m) (hkl:x.kids.length<=1048576):kW fx F t tw [lS x] ([[123]]++x.kids.flatMap N++[[125]]):=by
 refine cO rfl fun tot l hF=>?_;refine aY ?_;obtain⟨q,tx,v,ks,f,e⟩:=x;simp only[ag,al,aq]at hF hk hkl;have hml:(ks.map (D.int .i64)).length=ks.length:=aE ..
 repeat' (first|refine run ⟨?_⟩|refine sp1 hF fun _=>?_|fail)
 refine qU (α:=Nat×dM) (fun a=>ks.length - a.1) (fun a=>[(0,.ptr 1 0),(10,ints ks),(11,i64 ((ks.map (D.int .i64)).length:Int)),(12,i64 a.1)]) (fun a=>PH t a.2++[.box [i64 q,str tx,i64 v,ints ks,i64 f,i64 e]]) (fun a=>a.1<=ks.length/\Ft tot a.2 (NZ N ks a.1++[[125]])) ?_ (0,l++[[123]]) ⟨aR _,hF.c1⟩ rfl rfl;rintro⟨j,u⟩ ⟨hj,hF⟩;simp only at hj hF⊢;by_cases h:j < ks.length
 ·have h':(j:Int) < ((ks.map (D.int .i64)).length:Int):=om;obtain⟨k0,k1⟩:=kB hk h;have pj:=a1y h;rw[E9 N ks j h,ag]at hF
  repeat' (first|refine run ⟨?_⟩|refine eV pj ?_|refine sC (hN _ k0 k1) hF fun _=>?_|fail)
  exact⟨(j+1,_),⟨by show j+1<=_;omega,hF.app⟩,by show ks.length - (j+1) < ks.length - j;omega,by rw[eK om];rfl,rfl⟩
 ·have h':¬ (j:Int) < ((ks.map (D.int .i64)).length:Int):=om;obtain rfl:j=ks.length:=om;rw[show NZ N ks ks.length=[] by unfold NZ;simp,aq]at hF;exact oN
structure Pq (t:List Nd) (m:Int) (k:Int) (tt:List UInt8) (v:Int) (ks:List Int):Prop where
 kid:∀ a∈ks,0<=a/\a < m
 kl:ks.length<=1048576
 num:gd k v (params (kinds t ks))=true
 fit:fP k v (kinds t ks)=true
 iv:oE v
 tl:tt.length<=1048576
variable {tx:List UInt8} {v f e:Int} {ks:List Int}
theorem a4f (p:Pq t m 10 tx v ks):kW fx F t ew [lS ⟨10,tx,v,ks,f,e⟩] (Aa N ⟨10,tx,v,ks,f,e⟩):=by
 have _u:=hN;refine cO rfl fun tot l hF=>?_;refine aY ?_;replace hF:Ft tot l (([[105,54,52]])++[]):=hF
 try simp only[ag,al,aq]at hF
 exact oN
theorem a4e (p:Pq t m 11 tx v ks):kW fx F t ew [lS ⟨11,tx,v,ks,f,e⟩] (Aa N ⟨11,tx,v,ks,f,e⟩):=by
 have _u:=hN;refine cO rfl fun tot l hF=>?_;refine aY ?_;replace hF:Ft tot l (([[98,111,111,108]])++[]):=hF
 try simp only[ag,al,aq]at hF
 exact oN
theorem a4d (p:Pq t m 12 tx v ks):kW fx F t ew [lS ⟨12,tx,v,ks,f,e⟩] (Aa N ⟨12,tx,v,ks,f,e⟩):=by
 have _u:=hN;refine cO rfl fun tot l hF=>?_;refine aY ?_;replace hF:Ft tot l (([[40],[41]])++[]):=hF
 try simp only[ag,al,aq]at hF
 exact oN
theorem a4c (p:Pq t m 13 tx v ks):kW fx F t ew [lS ⟨13,tx,v,ks,f,e⟩] (Aa N ⟨13,tx,v,ks,f,e⟩):=by
 have _u:=hN;refine cO rfl fun tot l hF=>?_;refine aY ?_;replace hF:Ft tot l (([tx])++[]):=hF
 try simp only[ag,al,aq]at hF
 exact oN
theorem a4b (p:Pq t m 14 tx v ks):kW fx F t ew [lS ⟨14,tx,v,ks,f,e⟩] (Aa N ⟨14,tx,v,ks,f,e⟩):=by
 obtain⟨a,rfl,_⟩:=eA (p.fit:bx [116] (kinds t ks)=true);obtain⟨ha,ha'⟩:=p.kid a (by simp);refine cO rfl fun tot l hF=>?_;refine aY ?_;replace hF:Ft tot l (([[38]]++N a)++[]):=hF
 try simp only[ag,al,aq]at hF
 exact oN
theorem a4a (p:Pq t m 15 tx v ks):kW fx F t ew [lS ⟨15,tx,v,ks,f,e⟩] (Aa N ⟨15,tx,v,ks,f,e⟩):=by
 obtain⟨a,rfl,_⟩:=eA (p.fit:bx [116] (kinds t ks)=true);obtain⟨ha,ha'⟩:=p.kid a (by simp);refine cO rfl fun tot l hF=>?_;refine aY ?_;replace hF:Ft tot l (([[38],[109,117,116]]++N a)++[]):=hF
 try simp only[ag,al,aq]at hF
 exact oN
theorem a3z (p:Pq t m 16 tx v ks):kW fx F t ew [lS ⟨16,tx,v,ks,f,e⟩] (Aa N ⟨16,tx,v,ks,f,e⟩):=by
 obtain⟨a,rfl,_⟩:=eA (p.fit:bx [116] (kinds t ks)=true);obtain⟨ha,ha'⟩:=p.kid a (by simp);refine cO rfl fun tot l hF=>?_;refine aY ?_;replace hF:Ft tot l (([[66,111,120],[60]]++N a++[[62]])++[]):=hF
 try simp only[ag,al,aq]at hF
 exact oN
theorem a3x {q:Int} (h:nR q=true) (p:Pq t m q tx v ks):kW fx F t ew [lS ⟨q,tx,v,ks,f,e⟩] (Aa N ⟨q,tx,v,ks,f,e⟩):=by
 simp only[nR,ab,an]at h;have:q=10\/q=11\/q=12\/q=13\/q=14\/q=15\/q=16:=om;rcases this with rfl|rfl|rfl|rfl|rfl|rfl|rfl
 ·exact a4f hN p
 ·exact a4e hN p
 ·exact a4d hN p
 ·exact a4c hN p
 ·exact a4b hN p
 ·exact a4a hN p
 ·exact a3z hN p
theorem a7k (p:Pq t m 21 tx v ks):kW fx F t vO [lS ⟨21,tx,v,ks,f,e⟩] (Rk N ⟨21,tx,v,ks,f,e⟩):=by
 have hv:(decide (v=0)||decide (v=1))=true:=p.num;rw[bg,an,an]at hv;refine cO rfl fun tot l hF=>?_;refine aY ?_;rcases qL (p.fit:bx [63,116,101] (kinds t ks)=true)with h|⟨a,q,rfl,_,hq⟩
 ·obtain⟨a,rfl,_⟩:=eA h;obtain⟨ha,ha'⟩:=p.kid a (by simp);rcases hv with rfl|rfl
  ·replace hF:Ft tot l (([[108,101,116]]++[]++[tx]++[]++[[61]]++N a++[[59]])++[]):=hF
   try simp only[ag,al,aq]at hF
   exact oN
  ·replace hF:Ft tot l (([[108,101,116]]++[[109,117,116]]++[tx]++[]++[[61]]++N a++[[59]])++[]):=hF
   try simp only[ag,al,aq]at hF
   exact oN
 ·obtain⟨a2,rfl,_⟩:=eA hq;obtain⟨ha,ha'⟩:=p.kid a (by simp);obtain⟨hc,hc'⟩:=p.kid a2 (by simp);rcases hv with rfl|rfl
  ·replace hF:Ft tot l (([[108,101,116]]++[]++[tx]++([[58]]++N a)++[[61]]++N a2++[[59]])++[]):=hF
   try simp only[ag,al,aq]at hF
   exact oN
  ·replace hF:Ft tot l (([[108,101,116]]++[[109,117,116]]++[tx]++([[58]]++N a)++[[61]]++N a2++[[59]])++[]):=hF
   try simp only[ag,al,aq]at hF
   exact oN
theorem st21 (p:Pq t m 21 tx v ks):kW fx F t dW [lS ⟨21,tx,v,ks,f,e⟩] (sX t N ⟨21,tx,v,ks,f,e⟩):=by
 have hl:=a7k (f:=f) (e:=e) hN p;refine cO rfl fun tot l hF=>?_;refine aY ?_;replace hF:Ft tot l (Rk N ⟨21,tx,v,ks,f,e⟩++[]):=hF;exact oN
theorem st22 (p:Pq t m 22 tx v ks):kW fx F t dW [lS ⟨22,tx,v,ks,f,e⟩] (sX t N ⟨22,tx,v,ks,f,e⟩):=by
 obtain⟨a,rfl,_⟩:=eA (p.fit:bx [101] (kinds t ks)=true);obtain⟨ha,ha'⟩:=p.kid a (by simp);refine cO rfl fun tot l hF=>?_;refine aY ?_;replace hF:Ft tot l ((N a++[[59]])++[]):=hF
 try simp only[ag,al,aq]at hF
 exact oN
include hm
theorem st23 (p:Pq t m 23 tx v ks):kW fx F t dW [lS ⟨23,tx,v,ks,f,e⟩] (sX t N ⟨23,tx,v,ks,f,e⟩):=by
 obtain⟨a,q,rfl,_,hq⟩:=jt (by decide) (p.fit:bx [101,101] (kinds t ks)=true);obtain⟨a2,rfl,_⟩:=eA hq;obtain⟨ha,ha'⟩:=p.kid a (by simp);obtain⟨hc,hc'⟩:=p.kid a2 (by simp);refine cO rfl fun tot l hF=>?_;refine aY ?_;replace hF:Ft tot l ((dm t N a false++[[61]]++dm t N a2 false++[[59]])++[]):=hF
 try simp only[ag,al,aq]at hF
 exact oN
theorem st24 (p:Pq t m 24 tx v ks):kW fx F t dW [lS ⟨24,tx,v,ks,f,e⟩] (sX t N ⟨24,tx,v,ks,f,e⟩):=by
 obtain⟨a,q,rfl,_,hq⟩:=jt (by decide) (p.fit:bx [101,98] (kinds t ks)=true);obtain⟨a2,rfl,_⟩:=eA hq;obtain⟨ha,ha'⟩:=p.kid a (by simp);obtain⟨hc,hc'⟩:=p.kid a2 (by simp);refine cO rfl fun tot l hF=>?_;refine aY ?_;replace hF:Ft tot l (([[119,104,105,108,101]]++dm t N a false++N a2)++[]):=hF
 try simp only[ag,al,aq]at hF
 exact oN
omit hm
theorem st25 (p:Pq t m 25 tx v ks):kW fx F t dW [lS ⟨25,tx,v,ks,f,e⟩] (sX t N ⟨25,tx,v,ks,f,e⟩):=by
 have hk:=p.kid;have hkl:=p.kl;have hml:(ks.map (D.int .i64)).length=ks.length:=aE ..;refine cO rfl fun tot l hF=>?_;refine aY ?_;replace hF:Ft tot l ([[114,101,116,117,114,110]]++ks.flatMap N++[[59]]++[]):=hF
 try simp only[ag,al,aq]at hF
 repeat' (first|refine run ⟨?_⟩|refine sp1 hF fun _=>?_|fail)
 refine qU (α:=Nat×dM) (fun a=>ks.length - a.1) (fun a=>[(0,.ptr 1 0),(67,ints ks),(68,i64 ((ks.map (D.int .i64)).length:Int)),(69,i64 a.1)]) (fun a=>PH t a.2++[.box [i64 25,str tx,i64 v,ints ks,i64 f,i64 e]]) (fun a=>a.1<=ks.length/\Ft tot a.2 (NZ N ks a.1++[[59]])) ?_ (0,_) ⟨aR _,hF.c1⟩ rfl rfl;rintro⟨j,u⟩ ⟨hj,hF⟩;simp only at hj hF⊢;by_cases h:j < ks.length
 ·have h':(j:Int) < ((ks.map (D.int .i64)).length:Int):=om;obtain⟨k0,k1⟩:=kB hk h;have pj:=a1y h;rw[E9 N ks j h,ag]at hF
  repeat' (first|refine run ⟨?_⟩|refine eV pj ?_|refine sC (hN _ k0 k1) hF fun _=>?_|fail)
  exact⟨(j+1,_),⟨by show j+1<=_;omega,hF.app⟩,by show ks.length - (j+1) < ks.length - j;omega,by rw[eK om];rfl,rfl⟩
 ·have h':¬ (j:Int) < ((ks.map (D.int .i64)).length:Int):=om;obtain rfl:j=ks.length:=om;rw[show NZ N ks ks.length=[] by unfold NZ;simp,aq]at hF;exact oN
theorem st26 (p:Pq t m 26 tx v ks):kW fx F t dW [lS ⟨26,tx,v,ks,f,e⟩] (sX t N ⟨26,tx,v,ks,f,e⟩):=by
 have _u:=hN;refine cO rfl fun tot l hF=>?_;refine aY ?_;replace hF:Ft tot l (([[98,114,101,97,107],[59]])++[]):=hF
 try simp only[ag,al,aq]at hF
 exact oN
theorem st27 (p:Pq t m 27 tx v ks):kW fx F t dW [lS ⟨27,tx,v,ks,f,e⟩] (sX t N ⟨27,tx,v,ks,f,e⟩):=by
 have _u:=hN;refine cO rfl fun tot l hF=>?_;refine aY ?_;replace hF:Ft tot l (([[99,111,110,116,105,110,117,101],[59]])++[]):=hF
 try simp only[ag,al,aq]at hF
 exact oN
include hm
theorem XU {q:Int} (h:pf q=true) (p:Pq t m q tx v ks):kW fx F t dW [lS ⟨q,tx,v,ks,f,e⟩] (sX t N ⟨q,tx,v,ks,f,e⟩):=by
 simp only[pf,ab,an]at h;have:q=21\/q=22\/q=23\/q=24\/q=25\/q=26\/q=27:=om;rcases this with rfl|rfl|rfl|rfl|rfl|rfl|rfl
 ·exact st21 hN p
 ·exact st22 hN p
 ·exact st23 hN hm p
 ·exact st24 hN hm p
 ·exact st25 hN p
 ·exact st26 hN p
 ·exact st27 hN p
theorem xM (q:Int) (a:Int) (ts:dM) (ha:0<=a) (ha':a < m):kW fx F t tz [lS ⟨q,tx,v,[a],f,e⟩,.d (.sl (ts.map .str))] (ts++dm t N a false):=by
 refine cO rfl fun tot l hF=>?_;refine aY ?_;have hp:kW fx F t gg [.d (.sl (ts.map .str))] ts:=fun _ _ _ X h=>Em h X;rw[ag]at hF;have hF1:=hF.app
 repeat' (first|refine run ⟨?_⟩|refine sC hp hF fun _=>?_|refine sC (QC hN hm ha ha') hF1 fun _=>?_|fail)
 exact aG (PH t) hF1.app.fin
theorem ex38 (p:Pq t m 38 tx v ks):kW fx F t dC [lS ⟨38,tx,v,ks,f,e⟩] (sy t N ⟨38,tx,v,ks,f,e⟩):=by
 obtain⟨a,q,rfl,_,hq⟩:=jt (by decide) (p.fit:bx [101,101] (kinds t ks)=true);obtain⟨a2,rfl,_⟩:=eA hq;obtain⟨ha,ha'⟩:=p.kid a (by simp);obtain⟨hc,hc'⟩:=p.kid a2 (by simp);refine cO rfl fun tot l hF=>?_;refine aY ?_;replace hF:Ft tot l ((dm t N a false++[tx]++dm t N a2 false)++[]):=hF
 try simp only[ag,al,aq]at hF
 exact oN
theorem ex39 (p:Pq t m 39 tx v ks):kW fx F t dC [lS ⟨39,tx,v,ks,f,e⟩] (sy t N ⟨39,tx,v,ks,f,e⟩):=by
 obtain⟨a,rfl,_⟩:=eA (p.fit:bx [101] (kinds t ks)=true);obtain⟨ha,ha'⟩:=p.kid a (by simp);have hah:=xM (tx:=tx) (v:=v) (f:=f) (e:=e) hN hm 39 a [[45]] ha ha';refine cO rfl fun tot l hF=>?_;refine aY ?_;replace hF:Ft tot l (([[45]]++dm t N a false)++[]):=hF;exact oN
theorem ex40 (p:Pq t m 40 tx v ks):kW fx F t dC [lS ⟨40,tx,v,ks,f,e⟩] (sy t N ⟨40,tx,v,ks,f,e⟩):=by
 obtain⟨a,rfl,_⟩:=eA (p.fit:bx [101] (kinds t ks)=true);obtain⟨ha,ha'⟩:=p.kid a (by simp);have hah:=xM (tx:=tx) (v:=v) (f:=f) (e:=e) hN hm 40 a [[33]] ha ha';refine cO rfl fun tot l hF=>?_;refine aY ?_;replace hF:Ft tot l (([[33]]++dm t N a false)++[]):=hF;exact oN
theorem ex42 (p:Pq t m 42 tx v ks):kW fx F t dC [lS ⟨42,tx,v,ks,f,e⟩] (sy t N ⟨42,tx,v,ks,f,e⟩):=by
 obtain⟨a,rfl,_⟩:=eA (p.fit:bx [101] (kinds t ks)=true);obtain⟨ha,ha'⟩:=p.kid a (by simp);have hah:=xM (tx:=tx) (v:=v) (f:=f) (e:=e) hN hm 42 a [[42]] ha ha';refine cO rfl fun tot l hF=>?_;refine aY ?_;replace hF:Ft tot l (([[42]]++dm t N a false)++[]):=hF;exact oN
theorem ex43 (p:Pq t m 43 tx v ks):kW fx F t dC [lS ⟨43,tx,v,ks,f,e⟩] (sy t N ⟨43,tx,v,ks,f,e⟩):=by
 have hv:(decide (v=0)||decide (v=1))=true:=p.num;rw[bg,an,an]at hv;obtain⟨a,rfl,_⟩:=eA (p.fit:bx [101] (kinds t ks)=true);obtain⟨ha,ha'⟩:=p.kid a (by simp);refine cO rfl fun tot l hF=>?_;refine aY ?_;rcases hv with rfl|rfl
 ·have hah:=xM (tx:=tx) (v:=0) (f:=f) (e:=e) hN hm 43 a [[38]] ha ha';replace hF:Ft tot l (([[38]]++dm t N a false)++[]):=hF;exact oN
 ·have hah:=xM (tx:=tx) (v:=1) (f:=f) (e:=e) hN hm 43 a [[38],[109,117,116]] ha ha';replace hF:Ft tot l (([[38],[109,117,116]]++dm t N a false)++[]):=hF;exact oN
theorem ex41 (p:Pq t m 41 tx v ks):kW fx F t dC [lS ⟨41,tx,v,ks,f,e⟩] (sy t N ⟨41,tx,v,ks,f,e⟩):=by
 obtain⟨a,rfl,_⟩:=eA (p.fit:bx [101] (kinds t ks)=true);obtain⟨ha,ha'⟩:=p.kid a (by simp);refine cO rfl fun tot l hF=>?_;refine aY ?_;replace hF:Ft tot l ((dm t N a true++[[46],tx])++[]):=hF
 try simp only[ag,al,aq]at hF
 exact oN
theorem ex45 (p:Pq t m 45 tx v ks):kW fx F t dC [lS ⟨45,tx,v,ks,f,e⟩] (sy t N ⟨45,tx,v,ks,f,e⟩):=by
 obtain⟨a,q,rfl,_,hq⟩:=jt (by decide) (p.fit:bx [101,98,63,111] (kinds t ks)=true);obtain⟨a2,q2,rfl,_,hq2⟩:=jt (by decide) hq;obtain⟨ha,ha'⟩:=p.kid a (by simp);obtain⟨hc,hc'⟩:=p.kid a2 (by simp);refine cO rfl fun tot l hF=>?_;refine aY ?_;rcases qL hq2 with h|⟨a3,q3,rfl,_,hq3⟩
 ·obtain rfl:=dY h;replace hF:Ft tot l (([[105,102]]++dm t N a false++N a2++[])++[]):=hF
  try simp only[ag,al,aq]at hF
  exact oN
 ·obtain rfl:=dY hq3;obtain⟨hd,hd'⟩:=p.kid a3 (by simp);replace hF:Ft tot l (([[105,102]]++dm t N a false++N a2++([[101,108,115,101]]++N a3))++[]):=hF
  try simp only[ag,al,aq]at hF
  exact oN
theorem ex46 (p:Pq t m 46 tx v ks):kW fx F t dC [lS ⟨46,tx,v,ks,f,e⟩] (sy t N ⟨46,tx,v,ks,f,e⟩):=by
 obtain⟨p1,w,q,rfl,hp,_,hq⟩:=mR (a:=[101]) (c:=97) (b:=[]) p.fit;obtain⟨a,rfl,_⟩:=eA hp;obtain rfl:=dY hq;have hk:=p.kid;have hkl:=p.kl;simp only[bC,al,aq,aw]at hk hkl⊢;obtain⟨ha,ha'⟩:=hk a (by simp);have hli:=yp hN w (fun k h=>hk k (by simp[h])) om;have q1:(1:Int).toNat<=(List.map (D.int .i64) (a::w)).length/\(List.map (D.int .i64) (a::w)).length<=(List.map (D.int .i64) (a::w)).length/\((some (eo.c (i64 1))).isNone||(List.map (D.int .i64) (a::w)).all fun y=>y.cells.length==1)=true:=⟨by simp,ai _,by show(_||_)=true;rw[bg];exact .inr (by rw[mo,aC];intro x _;rfl)⟩;have hv1:V.d (.sl (List.drop (1:Int).toNat (List.take (List.map (D.int .i64) (a::w)).length (List.map (D.int .i64) (a::w)))))=ints w:=by rw[cb];rfl
 rw[<-hv1]at hli;refine cO rfl fun tot l hF=>?_;refine aY ?_;replace hF:Ft tot l ([[109,97,116,99,104]]++dm t N a false++[[123]]++gw N w++[[125]]++[]):=hF
 try simp only[ag,al,aq]at hF
 have hF1:=hF.c1.app
 repeat' (first|refine run ⟨?_⟩|refine sp1 hF fun _=>?_|refine sC (QC hN hm ha ha') hF.c1 fun _=>?_|refine sp1 hF1 fun _=>?_|refine ao q1 ?_|refine sC hli hF1.c1 fun _=>?_|refine sp1 hF1.c1.app fun _=>?_|fail)
 exact aG (PH t) hF1.c1.app.c1.fin
theorem Zv {q:Int} (h:(38<=q/\q<=43)\/q=45\/q=46) (p:Pq t m q tx v ks):kW fx F t dC [lS ⟨q,tx,v,ks,f,e⟩] (sy t N ⟨q,tx,v,ks,f,e⟩):=by
 have:q=38\/q=39\/q=40\/q=41\/q=42\/q=43\/q=45\/q=46:=om;rcases this with rfl|rfl|rfl|rfl|rfl|rfl|rfl|rfl
 ·exact ex38 hN hm p
 ·exact ex39 hN hm p
 ·exact ex40 hN hm p
 ·exact ex41 hN hm p
 ·exact ex42 hN hm p
 ·exact ex43 hN hm p
 ·exact ex45 hN hm p
 ·exact ex46 hN hm p
end
end Go.Vm.Tz
namespace Go.Vm.Tz
open Go.Vm.Ite
open Go.Vm.Itr (nd yj EB wT kZ ints lS fc fF Fv BI)
open Go.Vm.Tp
open Go.Vm.Pa (wo dY eA jt qL mR)
section
variable {fx:Nat->Option Obj} {F:Nat->Option dF} [HC F] {t:List Nd}
theorem a8e (H:Hp) (b:Bool):cv (b9 fx F) nO [boo b] H=some (str (if b=true then[116,114,117,101] else[102,97,108,115,101]),H):=by
 have _u:=(inferInstance:HC F);refine eB ?_ H;cases b
 ·exact ao (fun h=>nomatch h) (fun _=>rfl)
 ·exact ao (fun _=>rfl) (fun h=>nomatch h)
theorem Mh (H:Hp) (b:Bool):cv (b9 fx F) tB [boo b] H=some (str (if b=true then[116,114,117,101] else[102,97,108,115,101]),H):=by
 refine eB ?_ H;refine ca (a8e _ b) ?_;exact rfl
theorem E8 (H:Hp) (n:Int) (h:oE n):cv (b9 fx F) Dh [i64 n,i64 10] H=some (str (Lib.itoa n),H):=by
 rw[jT (M0 (F:=F))];exact ay ⟨h,rfl⟩
theorem LO (s:List UInt8) (hs:s.length<=1048576):kW fx F t tv [str s] (AV s):=by
 refine cO rfl fun tot l hF=>?_;refine aY ?_;replace hF:Ft tot l ((fV s).1::[58,58]::(fV s).2.1::[]):=hF;have hc:=fun H=>Fv (fx:=fx) (F:=F) H s hs
 repeat' (first|refine run ⟨?_⟩|refine ca (hc _) ?_|refine a1i hF fun _=>?_|fail)
 exact aG (PH t) hF.c3.fin
variable {m:Int} {N:Int->dM} (hN:∀ k:Int,0<=k->k < m->kW fx F t fO [i64 k] (N k)) (hm:m<=t.length)
variable {tx:List UInt8} {v f e:Int} {ks:List Int}
theorem pr30 (p:Pq t m 30 tx v ks):kW fx F t bA [lS ⟨30,tx,v,ks,f,e⟩] (kL N ⟨30,tx,v,ks,f,e⟩):=by
 have hv:0<=v:=af p.num;have hv2:=p.iv.2;refine cO rfl fun tot l hF=>?_;refine aY ?_;replace hF:Ft tot l (Ez v++[]):=hF;unfold Ez at hF;by_cases hneg:v < 0
 ·rw[ay hneg,ay hneg]at hF;have hw:IntKind.i64.wrap (0 - v)= -v:=by rw[eK om];omega
  rw[<-hw]at hF;have hi:oE (IntKind.i64.wrap (0 - v)):=by rw[hw];unfold oE;omega
  have hf:=fun H=>E8 (fx:=fx) (F:=F) H _ hi;simp only[ag,al,aq]at hF
  repeat' (first|refine run ⟨?_⟩|refine ca (hf _) ?_|refine sp1 hF fun _=>?_|refine sp1 hF.c1 fun _=>?_|fail)
  exact aG (PH t) hF.c1.c1.fin
 ·rw[aA hneg,aA hneg]at hF;have hf:=fun H=>E8 (fx:=fx) (F:=F) H _ p.iv;simp only[ag,al,aq]at hF
  repeat' (first|refine run ⟨?_⟩|refine ca (hf _) ?_|refine sp1 hF fun _=>?_|fail)
  exact aG (PH t) hF.c1.fin
theorem pr52 (p:Pq t m 52 tx v ks):kW fx F t bA [lS ⟨52,tx,v,ks,f,e⟩] (kL N ⟨52,tx,v,ks,f,e⟩):=by
 have hv: -9223372036854775808 < v:=af p.num;have hv2:=p.iv.2;refine cO rfl fun tot l hF=>?_;refine aY ?_;replace hF:Ft tot l (Ez v++[]):=hF;unfold Ez at hF;by_cases hneg:v < 0
 ·rw[ay hneg,ay hneg]at hF;have hw:IntKind.i64.wrap (0 - v)= -v:=by rw[eK om];omega
  rw[<-hw]at hF;have hi:oE (IntKind.i64.wrap (0 - v)):=by rw[hw];unfold oE;omega
  have hf:=fun H=>E8 (fx:=fx) (F:=F) H _ hi;simp only[ag,al,aq]at hF
  repeat' (first|refine run ⟨?_⟩|refine ca (hf _) ?_|refine sp1 hF fun _=>?_|refine sp1 hF.c1 fun _=>?_|fail)
  exact aG (PH t) hF.c1.c1.fin
 ·rw[aA hneg,aA hneg]at hF;have hf:=fun H=>E8 (fx:=fx) (F:=F) H _ p.iv;simp only[ag,al,aq]at hF
  repeat' (first|refine run ⟨?_⟩|refine ca (hf _) ?_|refine sp1 hF fun _=>?_|fail)
  exact aG (PH t) hF.c1.fin
theorem pr31 (p:Pq t m 31 tx v ks):kW fx F t bA [lS ⟨31,tx,v,ks,f,e⟩] (kL N ⟨31,tx,v,ks,f,e⟩):=by
 refine cO rfl fun tot l hF=>?_;refine aY ?_;replace hF:Ft tot l (Cf v++[]):=hF;have et:Cf v=[if decide (v=1)=true then[116,114,117,101] else[102,97,108,115,101]]:=by unfold Cf;by_cases hv:v=1<;>simp[hv]
 rw[et]at hF;have hf:=fun H=>Mh (fx:=fx) (F:=F) H (decide (v=1));simp only[ag,al,aq]at hF
 repeat' (first|refine run ⟨?_⟩|refine ca (hf _) ?_|refine sp1 hF fun _=>?_|fail)
 exact aG (PH t) hF.c1.fin
theorem pr53 (p:Pq t m 53 tx v ks):kW fx F t bA [lS ⟨53,tx,v,ks,f,e⟩] (kL N ⟨53,tx,v,ks,f,e⟩):=by
 refine cO rfl fun tot l hF=>?_;refine aY ?_;replace hF:Ft tot l (Cf v++[]):=hF;have et:Cf v=[if decide (v=1)=true then[116,114,117,101] else[102,97,108,115,101]]:=by unfold Cf;by_cases hv:v=1<;>simp[hv]
 rw[et]at hF;have hf:=fun H=>Mh (fx:=fx) (F:=F) H (decide (v=1));simp only[ag,al,aq]at hF
 repeat' (first|refine run ⟨?_⟩|refine ca (hf _) ?_|refine sp1 hF fun _=>?_|fail)
 exact aG (PH t) hF.c1.fin
theorem pr32 (p:Pq t m 32 tx v ks):kW fx F t bA [lS ⟨32,tx,v,ks,f,e⟩] (kL N ⟨32,tx,v,ks,f,e⟩):=by
 refine cO rfl fun tot l hF=>?_;refine aY ?_;replace hF:Ft tot l (([[40],[41]])++[]):=hF
 try simp only[ag,al,aq]at hF
 exact oN
theorem pr33 (p:Pq t m 33 tx v ks):kW fx F t bA [lS ⟨33,tx,v,ks,f,e⟩] (kL N ⟨33,tx,v,ks,f,e⟩):=by
 refine cO rfl fun tot l hF=>?_;refine aY ?_;replace hF:Ft tot l (([tx])++[]):=hF
 try simp only[ag,al,aq]at hF
 exact oN
theorem pr51 (p:Pq t m 51 tx v ks):kW fx F t bA [lS ⟨51,tx,v,ks,f,e⟩] (kL N ⟨51,tx,v,ks,f,e⟩):=by
 refine cO rfl fun tot l hF=>?_;refine aY ?_;replace hF:Ft tot l (([tx])++[]):=hF
 try simp only[ag,al,aq]at hF
 exact oN
theorem pr50 (p:Pq t m 50 tx v ks):kW fx F t bA [lS ⟨50,tx,v,ks,f,e⟩] (kL N ⟨50,tx,v,ks,f,e⟩):=by
 refine cO rfl fun tot l hF=>?_;refine aY ?_;replace hF:Ft tot l (([[95]])++[]):=hF
 try simp only[ag,al,aq]at hF
 exact oN
include hN
theorem pr34 (p:Pq t m 34 tx v ks):kW fx F t bA [lS ⟨34,tx,v,ks,f,e⟩] (kL N ⟨34,tx,v,ks,f,e⟩):=by
 have hli:=yp hN ks p.kid p.kl;refine cO rfl fun tot l hF=>?_;refine aY ?_;replace hF:Ft tot l (([tx,[40]]++gw N ks++[[41]])++[]):=hF
 try simp only[ag,al,aq]at hF
 exact oN
theorem pr35 (p:Pq t m 35 tx v ks):kW fx F t bA [lS ⟨35,tx,v,ks,f,e⟩] (kL N ⟨35,tx,v,ks,f,e⟩):=by
 have hli:=yp hN ks p.kid p.kl;refine cO rfl fun tot l hF=>?_;refine aY ?_;replace hF:Ft tot l (([tx,[123]]++gw N ks++[[125]])++[]):=hF
 try simp only[ag,al,aq]at hF
 exact oN
theorem pr36 (p:Pq t m 36 tx v ks):kW fx F t bA [lS ⟨36,tx,v,ks,f,e⟩] (kL N ⟨36,tx,v,ks,f,e⟩):=by
 obtain⟨a,rfl,_⟩:=eA (p.fit:bx [101] (kinds t ks)=true);obtain⟨ha,ha'⟩:=p.kid a (by simp);refine cO rfl fun tot l hF=>?_;refine aY ?_;replace hF:Ft tot l (([tx,[58]]++N a)++[]):=hF
 try simp only[ag,al,aq]at hF
 exact oN
theorem pr37 (p:Pq t m 37 tx v ks):kW fx F t bA [lS ⟨37,tx,v,ks,f,e⟩] (kL N ⟨37,tx,v,ks,f,e⟩):=by
 have hpe:=Lq hN ks p.kid;have hna:=LO (fx:=fx) (F:=F) (t:=t) tx p.tl;refine cO rfl fun tot l hF=>?_;refine aY ?_;replace hF:Ft tot l ((AV tx++mM N ks)++[]):=hF
 try simp only[ag,al,aq]at hF
 exact oN
theorem pr54 (p:Pq t m 54 tx v ks):kW fx F t bA [lS ⟨54,tx,v,ks,f,e⟩] (kL N ⟨54,tx,v,ks,f,e⟩):=by
 have hpe:=Lq hN ks p.kid;have hna:=LO (fx:=fx) (F:=F) (t:=t) tx p.tl;refine cO rfl fun tot l hF=>?_;refine aY ?_;replace hF:Ft tot l ((AV tx++mM N ks)++[]):=hF
 try simp only[ag,al,aq]at hF
 exact oN
theorem pr44 (p:Pq t m 44 tx v ks):kW fx F t bA [lS ⟨44,tx,v,ks,f,e⟩] (kL N ⟨44,tx,v,ks,f,e⟩):=by
 have hpe:=Lq hN ks p.kid;refine cO rfl fun tot l hF=>?_;refine aY ?_;replace hF:Ft tot l (([[66,111,120],[58,58],[110,101,119]]++mM N ks)++[]):=hF
 try simp only[ag,al,aq]at hF
 exact oN
theorem pr47 (p:Pq t m 47 tx v ks):kW fx F t bA [lS ⟨47,tx,v,ks,f,e⟩] (kL N ⟨47,tx,v,ks,f,e⟩):=by
 obtain⟨a,q,rfl,_,hq⟩:=jt (by decide) (p.fit:bx [112,101] (kinds t ks)=true);obtain⟨a2,rfl,_⟩:=eA hq;obtain⟨ha,ha'⟩:=p.kid a (by simp);obtain⟨hc,hc'⟩:=p.kid a2 (by simp);refine cO rfl fun tot l hF=>?_;refine aY ?_;replace hF:Ft tot l ((N a++[[61,62]]++N a2)++[]):=hF
 try simp only[ag,al,aq]at hF
 exact oN
theorem it1 (p:Pq t m 1 tx v ks):kW fx F t dX [lS ⟨1,tx,v,ks,f,e⟩] (tG t N ⟨1,tx,v,ks,f,e⟩):=by
 have hk:=p.kid;have hkl:=p.kl;have hml:(ks.map (D.int .i64)).length=ks.length:=aE ..;refine cO rfl fun tot l hF=>?_;refine aY ?_;replace hF:Ft tot l (NZ N ks 0++[]):=hF;refine run ⟨?_⟩;refine qU (α:=Nat×dM) (fun a=>ks.length - a.1) (fun a=>[(0,.ptr 1 0),(22,ints ks),(23,i64 ((ks.map (D.int .i64)).length:Int)),(24,i64 a.1)]) (fun a=>PH t a.2++[.box [i64 1,str tx,i64 v,ints ks,i64 f,i64 e]]) (fun a=>a.1<=ks.length/\Ft tot a.2 (NZ N ks a.1++[])) ?_ (0,l) ⟨aR _,hF⟩ rfl rfl;rintro⟨j,u⟩ ⟨hj,hF⟩;simp only at hj hF⊢;by_cases h:j < ks.length
 ·have h':(j:Int) < ((ks.map (D.int .i64)).length:Int):=om;obtain⟨k0,k1⟩:=kB hk h;have pj:=a1y h;rw[E9 N ks j h,ag]at hF
  repeat' (first|refine run ⟨?_⟩|refine eV pj ?_|refine sC (hN _ k0 k1) hF fun _=>?_|fail)
  exact⟨(j+1,_),⟨by show j+1<=_;omega,hF.app⟩,by show ks.length - (j+1) < ks.length - j;omega,by rw[eK om];rfl,rfl⟩
 ·have h':¬ (j:Int) < ((ks.map (D.int .i64)).length:Int):=om;obtain rfl:j=ks.length:=om;rw[show NZ N ks ks.length=[] by unfold NZ;simp,aq]at hF;exact oN
theorem it3 (p:Pq t m 3 tx v ks):kW fx F t dX [lS ⟨3,tx,v,ks,f,e⟩] (tG t N ⟨3,tx,v,ks,f,e⟩):=by
 have hli:=yp hN ks p.kid p.kl;refine cO rfl fun tot l hF=>?_;refine aY ?_;replace hF:Ft tot l ([[115,116,114,117,99,116],tx,[123]]++gw N ks++[[125]]++[]):=hF
 try simp only[ag,al,aq]at hF
 repeat' (first|refine run ⟨?_⟩|refine⟨some (.str Pa.wy),rfl,?_⟩|refine a1i hF fun _=>?_|refine sC hli hF.c3 fun _=>?_|refine sp1 hF.c3.app fun _=>?_|fail)
 exact aG (PH t) hF.c3.app.c1.fin
theorem it4 (p:Pq t m 4 tx v ks):kW fx F t dX [lS ⟨4,tx,v,ks,f,e⟩] (tG t N ⟨4,tx,v,ks,f,e⟩):=by
 have hli:=yp hN ks p.kid p.kl;refine cO rfl fun tot l hF=>?_;refine aY ?_;replace hF:Ft tot l ([[101,110,117,109],tx,[123]]++gw N ks++[[125]]++[]):=hF
 try simp only[ag,al,aq]at hF
 repeat' (first|refine run ⟨?_⟩|refine⟨some (.str Pa.F1),rfl,?_⟩|refine a1i hF fun _=>?_|refine sC hli hF.c3 fun _=>?_|refine sp1 hF.c3.app fun _=>?_|fail)
 exact aG (PH t) hF.c3.app.c1.fin
theorem it6 (p:Pq t m 6 tx v ks):kW fx F t dX [lS ⟨6,tx,v,ks,f,e⟩] (tG t N ⟨6,tx,v,ks,f,e⟩):=by
 have hpe:=Lq hN ks p.kid;refine cO rfl fun tot l hF=>?_;refine aY ?_;replace hF:Ft tot l (([tx]++mM N ks)++[]):=hF
 try simp only[ag,al,aq]at hF
 exact oN
theorem it7 (p:Pq t m 7 tx v ks):kW fx F t dX [lS ⟨7,tx,v,ks,f,e⟩] (tG t N ⟨7,tx,v,ks,f,e⟩):=by
 have hv:(decide (v=0)||decide (v=1))=true:=p.num;rw[bg,an,an]at hv;obtain⟨a,rfl,_⟩:=eA (p.fit:bx [116] (kinds t ks)=true);obtain⟨ha,ha'⟩:=p.kid a (by simp);refine cO rfl fun tot l hF=>?_;refine aY ?_;rcases hv with rfl|rfl
 ·replace hF:Ft tot l (([]++[tx,[58]]++N a)++[]):=hF
  try simp only[ag,al,aq]at hF
  exact oN
 ·replace hF:Ft tot l (([[109,117,116]]++[tx,[58]]++N a)++[]):=hF
  try simp only[ag,al,aq]at hF
  exact oN
theorem it5 (p:Pq t m 5 tx v ks):kW fx F t dX [lS ⟨5,tx,v,ks,f,e⟩] (tG t N ⟨5,tx,v,ks,f,e⟩):=by
 obtain⟨a,rfl,_⟩:=eA (p.fit:bx [116] (kinds t ks)=true);obtain⟨ha,ha'⟩:=p.kid a (by simp);refine cO rfl fun tot l hF=>?_;refine aY ?_;replace hF:Ft tot l (([tx,[58]]++N a)++[]):=hF
 try simp only[ag,al,aq]at hF
 exact oN
include hm
theorem fn_p (p:Pq t m 2 tx v ks):kW fx F t qI [lS ⟨2,tx,v,ks,f,e⟩] (WT t N ⟨2,tx,v,ks,f,e⟩):=by
 obtain⟨hv,hn⟩:=J7 p.num p.fit;rw[show(kinds t ks).length=ks.length from aE ..]at hv hn;obtain⟨n,hn'⟩:∃ n,ks.length=n+2:=⟨ks.length - 2,om⟩;rw[hn',Nat.add_sub_cancel]at hv;subst hv;have hk:=p.kid;have hkl:=p.kl;have hml:(ks.map (D.int .i64)).length=n+2:=by rw[aE];exact hn'
 obtain⟨p0,q0⟩:=kB hk (show n < ks.length by omega);obtain⟨p1,q1⟩:=kB hk (show n+1 < ks.length by omega);have hli:=yp hN (ks.take n) (fun k h=>hk k (jW h)) (by rw[bm];omega);have etk:ints (ks.take n)= .d (.sl (List.drop 0 (List.take (Int.toNat ((n:Nat):Int)) (ks.map (D.int .i64))))):=by rw[bq,ints,eW];rfl
 rw[etk]at hli;have pj:=a1y (l:=ks) (show n < ks.length by omega);have pj1:=a1y (l:=ks) (show n+1 < ks.length by omega);have hw:IntKind.i64.wrap ((n:Int)+1)=((n+1:Nat):Int):=by rw[eK om];omega
 rw[<-hw]at pj1;have pn:=kZ (t:=t) p0 om;have c0:(0:Int)<=(n:Int):=Int.natCast_nonneg n;have c1:0<=Int.toNat ((n:Nat):Int)/\Int.toNat ((n:Nat):Int)<=(ks.map (D.int .i64)).length/\(some (eo.t 15)).isNone=false:=⟨aR _,by rw[b8];omega,rfl⟩;refine cO rfl fun tot l hF=>?_;refine aY ?_;have hq:bT t (ks.getD n 0)=(nd t (ks.getD n 0).toNat).k:=rfl;replace hF:Ft tot l ([[102,110],tx,[40]]++gw N (ks.take n)++[[41]]++(if bT t (ks.getD n 0)=12 then[] else[[45,62]]++N (ks.getD n 0))++N (ks.getD (n+1) 0)++[]):=hF;rw[hq]at hF;revert pn hF;generalize nd t (ks.getD n 0).toNat=x;obtain⟨q,xt,xv,xk,xf,xe⟩:=x;intro pn hF;simp only[ag,al,aq]at hF;by_cases c:q=12
 ·rw[ay c,aq]at hF;have cq:(!decide (q=12))=false:=by rw[au c];rfl
  repeat' (first|refine run ⟨?_⟩|refine a1i hF fun _=>?_|refine ao c0 ?_|refine ao ⟨aR _,c1.2.1,rfl⟩ ?_|refine sC hli hF.c3 fun _=>?_|refine sp1 hF.c3.app fun _=>?_|refine eV pj ?_|refine eV pn ?_|refine eV pj1 ?_|refine sC (hN _ p1 q1) hF.c3.app.c1 fun _=>?_|fail)
  exact aG (PH t) hF.c3.app.c1.app.fin
 ·rw[aA c,al]at hF;have cq:(!decide (q=12))=true:=by rw[ak c];rfl
  try simp only[ag,al,aq]at hF
  repeat' (first|refine run ⟨?_⟩|refine a1i hF fun _=>?_|refine ao c0 ?_|refine ao ⟨aR _,c1.2.1,rfl⟩ ?_|refine sC hli hF.c3 fun _=>?_|refine sp1 hF.c3.app fun _=>?_|refine eV pj ?_|refine eV pn ?_|refine eV pj1 ?_|refine sp1 hF.c3.app.c1 fun _=>?_|refine sC (hN _ p0 q0) hF.c3.app.c1.c1 fun _=>?_|refine sC (hN _ p1 q1) hF.c3.app.c1.c1.app fun _=>?_|fail)
  exact aG (PH t) hF.c3.app.c1.c1.app.app.fin
theorem it2 (p:Pq t m 2 tx v ks):kW fx F t dX [lS ⟨2,tx,v,ks,f,e⟩] (tG t N ⟨2,tx,v,ks,f,e⟩):=by
 have hfn:=fn_p (f:=f) (e:=e) hN hm p;refine cO rfl fun tot l hF=>?_;refine aY ?_;replace hF:Ft tot l (WT t N ⟨2,tx,v,ks,f,e⟩++[]):=hF;exact oN
theorem Za {q:Int} (h:1<=q/\q<=7) (p:Pq t m q tx v ks):kW fx F t dX [lS ⟨q,tx,v,ks,f,e⟩] (tG t N ⟨q,tx,v,ks,f,e⟩):=by
 have:q=1\/q=2\/q=3\/q=4\/q=5\/q=6\/q=7:=om;rcases this with rfl|rfl|rfl|rfl|rfl|rfl|rfl
 ·exact it1 hN p
 ·exact it2 hN hm p
 ·exact it3 hN p
 ·exact it4 hN p
 ·exact it5 hN p
 ·exact it6 hN p
 ·exact it7 hN p
omit hm
theorem Yk {q:Int} (h:(30<=q/\q<=37)\/q=44\/q=47\/(50<=q/\q<=54)) (p:Pq t m q tx v ks):kW fx F t bA [lS ⟨q,tx,v,ks,f,e⟩] (kL N ⟨q,tx,v,ks,f,e⟩):=by
 have:q=30\/q=31\/q=32\/q=33\/q=34\/q=35\/q=36\/q=37\/q=44\/q=47\/q=50\/q=51\/q=52\/q=53\/q=54:=om;rcases this with rfl|rfl|rfl|rfl|rfl|rfl|rfl|rfl|rfl|rfl|rfl|rfl|rfl|rfl|rfl
 ·exact pr30 p
 ·exact pr31 p
 ·exact pr32 p
 ·exact pr33 p
 ·exact pr34 hN p
 ·exact pr35 hN p
 ·exact pr36 hN p
 ·exact pr37 hN p
 ·exact pr44 hN p
 ·exact pr47 hN p
 ·exact pr50 p
 ·exact pr51 p
 ·exact pr52 p
 ·exact pr53 p
 ·exact pr54 hN p
end
section
variable {fx:Nat->Option Obj} {F:Nat->Option dF} [HC F] {t:List Nd}
theorem a6h {n:Nat} {m:Int} (o:wo t n) (hf:xR t) (hn:n < t.length) (hm:(n:Int)<=m):Pq t m (nd t n).k (nd t n).t (nd t n).v (nd t n).kids:=by
 have hmem:=EB hn;exact⟨fun a ha=>by have:=o.kid a ha;omega,hf.kid _ hmem,o.num,o.fit,hf.iv _ hmem,hf.txt _ hmem⟩
theorem QS (hc:∀ i,i < t.length->wo t i) (hf:xR t):∀ f:Nat,f<=t.length->∀ k:Int,0<=k->k < f->kW fx F t fO [i64 k] (zB t f k.toNat)
 |0,_,k,h0,h1=>om
 |f+1,hfl,k,h0,h1=>by
  have hN:=QS hc hf f om;have hm:(f:Int)<=t.length:=om;obtain⟨N,hNe⟩:∃ N:Int->dM,N=fun k:Int=>zB t f k.toNat:=⟨_,rfl⟩;have hN:∀ k:Int,0<=k->k < f->kW fx F t fO [i64 k] (N k):=fun k h h'=>by rw[hNe];exact hN k h h'
  have p:=a6h (m:=f) (hc k.toNat om) hf om om;have hkn:ey (nd t k.toNat).k=true:=(hc k.toNat om).known;have pn:=kZ (t:=t) h0 om;refine cO rfl fun tot l hF=>?_;replace hF:Ft tot l (cG t N (nd t k.toNat)++[]):=by rw[hNe];exact hF
  clear hNe;revert p hkn pn hF;generalize nd t k.toNat=x;obtain⟨q,tx,v,ks,fr,e⟩:=x;intro p hkn pn hF;simp only at p hkn;have hty:=fun H=>fc (fx:=fx) (F:=F) H q;have hst:=fun H=>fF (fx:=fx) (F:=F) H q;refine aY ?_;unfold cG at hF;simp only at hF;by_cases c20:q=20
  ·rw[ay c20]at hF;have hb:=VN hN ⟨q,tx,v,ks,fr,e⟩ p.kid p.kl
   repeat' (first|refine run ⟨?_⟩|refine eV pn ?_|refine sC hb hF fun _=>?_|fail)
   exact aG (PH t) hF.app.fin
  rw[aA c20]at hF;by_cases c7:q<=7
  ·rw[ay c7]at hF;have hk1:1<=q/\q<=7:=by
    simp only[ey,nR,pf,rV,qm,bg,ab,an,dv,bX]at hkn;omega
   have hb:=Za (f:=fr) (e:=e) hN hm hk1 p
   repeat' (first|refine run ⟨?_⟩|refine eV pn ?_|refine sC hb hF fun _=>?_|fail)
   exact aG (PH t) hF.app.fin
  rw[aA c7]at hF;cases cT:nR q with
  |true=>
   rw[ay cT]at hF;have hb:=a3x (f:=fr) (e:=e) hN cT p
   repeat' (first|refine run ⟨?_⟩|refine eV pn ?_|refine ca (hty _) ?_|refine sC hb hF fun _=>?_|fail)
   exact aG (PH t) hF.app.fin
  |false=>
  rw[aA (by rw[cT];simp)]at hF;cases cS:pf q with
  |true=>
   rw[ay cS]at hF;have hb:=XU (f:=fr) (e:=e) hN hm cS p
   repeat' (first|refine run ⟨?_⟩|refine eV pn ?_|refine ca (hty _) ?_|refine ca (hst _) ?_|refine sC hb hF fun _=>?_|fail)
   exact aG (PH t) hF.app.fin
  |false=>
  rw[aA (by rw[cS];simp)]at hF;by_cases cE:(38<=q/\q<=43)\/q=45\/q=46
  ·rw[ay cE]at hF;have hb:=Zv (f:=fr) (e:=e) hN hm cE p;by_cases a1:38<=q<;>by_cases a2:q<=43<;>by_cases a3:q=45<;>by_cases a4:q=46
   all_goals first
     |omega
     |(repeat' (first|refine run ⟨?_⟩|refine eV pn ?_|refine ca (hty _) ?_|refine ca (hst _) ?_|refine sC hb hF fun _=>?_|fail)
       exact aG (PH t) hF.app.fin)
  ·rw[aA cE]at hF;have hpr:(30<=q/\q<=37)\/q=44\/q=47\/(50<=q/\q<=54):=by
    simp only[ey,nR,pf,rV,qm,bg,ab,an,dv,bX,Bool.and_eq_false_iff]at hkn cT cS;omega
   have hb:=Yk (f:=fr) (e:=e) hN hpr p;by_cases a1:38<=q<;>by_cases a2:q<=43<;>by_cases a3:q=45<;>by_cases a4:q=46
   all_goals first
     |omega
     |(repeat' (first|refine run ⟨?_⟩|refine eV pn ?_|refine ca (hty _) ?_|refine ca (hst _) ?_|refine sC hb hF fun _=>?_|fail)
       exact aG (PH t) hF.app.fin)
end
end Go.Vm.Tz
namespace Go.Vm.Tz
open Go.Vm.Ite
open Go.Vm.Itr (BI)
open Go.Vm.Tp
open Go.Vm.Pa (wo LL Rt Lg)
section
variable {fx:Nat->Option Obj} {F:Nat->Option dF} [HC F]
theorem U9 (H:Hp) (xs:dM) (h1:xs.length<=400200000) (h2:jh xs):cv (b9 fx F) AX [.d (.sl (xs.map .str)),str [32]] H=some (str (Lib.join xs [32]),H):=by
 have hl:=join_le xs (n:=64) fun s hs=>(h2 s hs).2;rw[jT (I8 (F:=F))];show(match strsOf (xs.map D.str)with
   |some xs=>if xs.length<=140737488355328/\(Lib.join xs [32]).length<=140737488355328 then some (V.d (.str (Lib.join xs [32])),H) else none
   |none=>none)=_
 rw[Al];exact ay ⟨om,om⟩
theorem wR (t:List Nd) (hf:xR t) (H:Hp):cv (b9 fx F) EF [.d (gD t)] H=some (.tup [str (OI t).1,i64 (OI t).2],H):=by
 refine oc ?_ H;have htl:=hf.len;have hnl:(t.map Nd.D).length=t.length:=aE ..;have hck:=fun H=>BI (fx:=fx) (F:=F) H t hf;cases hc:iV t with
 |false=>
  have e:OI t=([],3):=by unfold OI;rw[hc];rfl
  rw[e];rw[hc]at hck
  repeat' (first|refine run ⟨?_⟩|refine ca (hck _) ?_|fail)
  exact rfl
 |true=>
  have e:OI t=(Lk t,0):=by unfold OI;rw[hc];rfl
  rw[e];rw[hc]at hck;obtain⟨up,hT⟩:=XD hc;have h1:=hT.lo;have h2:=hT.hi;have hp:=Ul hT;have ha:jh (IK t):=Ll hT.nod hf.iv _ _;have hn:=QS (fx:=fx) (F:=F) (Lg hc).nd hf t.length (ai _) ((t.length - 1:Nat):Int) om om (IK t) [] [] [] ⟨by rw[aq,bC];rfl,by unfold LIM;omega⟩;have hw:IntKind.i64.wrap (((t.map Nd.D).length:Int) - 1)=((t.length - 1:Nat):Int):=by rw[hnl,eK om];omega
  have hcall:cv (b9 fx F) fO [.ptr 2 0,i64 (IntKind.i64.wrap (((t.map Nd.D).length:Int) - 1))] [.box [.d (.sl (t.map Nd.D))],.row 1 [],.box [.d (.sl (t.map Nd.D)),.row 1 0]]=some (.tup [],[.box [.d (.sl (t.map Nd.D))],.row 1 ((IK t).map D.str),.box [.d (.sl (t.map Nd.D)),.row 1 (IK t).length]]):=by
   rw[hw];exact Zy mvC [1,2] hn rfl rfl rfl rfl rfl
  have hj:=fun H=>U9 (fx:=fx) (F:=F) H (IK t) hp ha
  repeat' (first|refine run ⟨?_⟩|refine ca (hck _) ?_|refine ca (hcall) ?_|refine ao (aE ..) ?_|refine ca (hj _) ?_|fail)
  exact rfl
end
end Go.Vm.Tz
namespace Go.Vm.Lex
def F6:Nat->Nat->List UInt8->List TokQ×Dg
 |0,_,_=>([],Dg.ok)
 |n+1,a,s=>match s.drop (bj false s)with
  |[]=>([⟨5,[],0,a+s.length,a+s.length⟩],Dg.ok)
  |c::r=>match cf ed (c::r)with
   |⟨k,t,v,m,e⟩=>if e=0 then after [⟨k,t,v,a+bj false s,a+bj false s+m⟩] (F6 n (a+(bj false s+m)) (s.drop (bj false s+m))) else toks a s
theorem Pe:∀ (n a:Nat) (s:List UInt8),s.length < n->toks a s=F6 n a s
 |0,_,_,h=>om
 |n+1,a,s,h=>by
  cases hd:s.drop (bj false s)with
  |nil=>rw[fj a hd];unfold F6;rw[hd]
  |cons c r=>
   unfold F6;rw[hd];simp only;by_cases he:(cf ed (s.drop (bj false s))).e=0
   ·have h1:=wE s (by simp[hd];rw[<-hd];exact he);rw[nc a (by rw[hd];simp) he,Pe n _ _ om];rw[hd]at he⊢;rw[ay he]
   ·rw[hd]at he;rw[aA he]
theorem YU {n:Nat} {s:List UInt8} (h:(∀ c∈s,c.toNat < 128)) (h1:s.length<=65536) (hn:s.length < n):bF s=F6 n 0 s:=by
 rw[UY h1 (CG s h),Pe n 0 s hn]
end Go.Vm.Lex
namespace Go.Vm.Px
open Go.Vm.Lex (TokQ bF qA zk Dg)
open Go.Vm.Pa hiding go
open Go.Vm.Pk (fh)
open Go.Vm.Tp (gD xR OI)
open Go.Vm.Ite
open Go Go.Proofs Go.RowKit
theorem ZO {eO:List Pk.Nd} (h:IC eO):fh eO<=eO.length:=by
 have h0:0 < eO.length:=dc.2 h.ne;have:=(Go.Vm.Pk.Mq (ks:=Go.Vm.Pk.oa eO) (len:=eO.length) (fun j hj k hk=>by
   have e:eO[j]? =some eO[j]:=ae hj;have e2:Go.Vm.Pk.oa eO j=eO[j].ks:=by simp[Go.Vm.Pk.oa,e]
   rw[e2]at hk;exact(h.kid j _ e).2 k hk) h0 (Go.Vm.Pk.back eO.length eO.length)).2
 rw[Go.Vm.Pk.zd]at this;exact this
theorem J9 {T:Fo} {len:Nat} (h:T.sz<=400) (hn:T≠ .nil):xm T len=(T,0,0,0):=by
 have:=ZO (QU (T:=T) om hn);rw[Fo.jD]at this;unfold xm;rw[aA om,aA om]
theorem NN {src:S} {W:Fo} {c f e:Int} (h:IB src W c f e) {l:List TokQ} (h1:src.length<=65536) (h2:bF src=(l,Dg.ok)) {n:Nat} {r:R} {s1:PS} (h3:CR l n=some (.ok r s1)) (h4:(now l s1).k=5) (h5:s1.n<=400):W.lay 0=s1.ns/\c=0/\f=0/\e=0:=by
 rcases h with⟨q,_⟩|⟨_,q,_⟩|⟨_,_,n',x,hx,ho⟩
 ·omega
 ·rw[h2]at q;exact absurd rfl q
 ·rw[h2]at hx ho;obtain rfl:=VI h3 hx;obtain⟨T,hT,ho⟩:=ho;have hne:T≠ .nil:=by obtain⟨_,_,rfl,_⟩:=hT.one;simp
  rw[ay h4,J9 (by have:=hT.n;omega) hne]at ho;cases ho;exact⟨hT.ns.symm,rfl,rfl,rfl⟩
def a5a:S:=[102,110,32,109,97,105,110,40,41,123,112,114,105,110,116,40,49,41,59,125]
def out0:S:=[102,110,32,109,97,105,110,32,40,32,41,32,123,32,112,114,105,110,116,32,40,32,49,32,41,32,59,32,125]
def Wm:List TokQ:=[⟨2,[102,110],0,0,2⟩,⟨1,[109,97,105,110],0,3,7⟩,⟨4,[40],0,7,8⟩,⟨4,[41],0,8,9⟩,⟨4,[123],0,9,10⟩,⟨1,[112,114,105,110,116],0,10,15⟩,⟨4,[40],0,15,16⟩,⟨3,[49],1,16,17⟩,⟨4,[41],0,17,18⟩,⟨4,[59],0,18,19⟩,⟨4,[125],0,19,20⟩,⟨5,[],0,20,20⟩]
theorem lex0:bF a5a=(Wm,Dg.ok):=by
 rw[Go.Vm.Lex.YU (n:=30) (by decide) (by decide) (by decide)];kernel_rfl
def t0:List Tp.Nd:=[⟨12,[],0,[],9,9⟩,⟨30,[],1,[],16,17⟩,⟨34,[112,114,105,110,116],0,[1],10,18⟩,⟨22,[],0,[2],10,18⟩,⟨20,[],0,[3],9,20⟩,⟨2,[109,97,105,110],0,[0,4],0,20⟩,⟨1,[],0,[5],0,20⟩]
theorem run0:CR Wm 80=some (.ok (rI 6) ⟨11,0,t0.map Tp.Nd.D,7,0,0,0⟩):=kr
theorem Ur:OI t0=(out0,0):=kr
theorem a8d:xR t0:=by
 have hI:∀ n:Int,(decide (-100<=n) && decide (n<=100))=true->Tp.oE n:=fun n h=>by
   simp only[ab,an]at h;unfold Tp.oE;omega
 refine⟨by decide,by decide,by decide,fun x hx k hk=>hI k ?_,fun x hx=>hI _ ?_,fun x hx=>⟨hI _ ?_,hI _ ?_⟩⟩
 ·exact(by decide:∀ x∈t0,∀ k∈x.kids,(decide (-100<=k) && decide (k<=100))=true) x hx k hk
 ·exact(by decide:∀ x∈t0,(decide (-100<=x.v) && decide (x.v<=100))=true) x hx
 ·exact(by decide:∀ x∈t0,(decide (-100<=x.f) && decide (x.f<=100))=true) x hx
 ·exact(by decide:∀ x∈t0,(decide (-100<=x.e) && decide (x.e<=100))=true) x hx
section
variable {fx:Nat->Option Obj}
theorem Az (X:zo fx) (H:Hp):cv (b9 fx (FT X)) GZ [] H=some (boo true,H):=by
 obtain⟨W1,c1,f1,e1,r1,p1⟩:=qF X a5a;have p2:=fun H=>Tz.wR (fx:=fx) (F:=FT X) t0 a8d H;rw[Ur]at p2;obtain⟨q1,rfl,rfl,rfl⟩:=NN r1 (by decide) lex0 run0 rfl (by decide);have ht:vo W1=gD t0:=by unfold vo qy gD;rw[<-Fo.w9,q1]
 rw[ht]at p1;refine oc ?_ H
 repeat' (first|refine run ⟨?_⟩|refine ca (p1 _) ?_|refine ca (p2 _) ?_|fail)
 exact rfl
end
end Go.Vm.Px
namespace Go.Vm.Tz
open Go.Vm.Ite
open Go.Vm.Itr (nd)
open Go.Vm.Px (zo FT qF Az vo IB)
open Go.Vm.Lex (zk)
open Go.Vm.Pa (Rt Lg Lh ya Ap wB Io a0x a3g nj Fo yt rX)
open Go.Vm.Tp
theorem Qo {t:List Nd} (h:iV t=true):OI t=(Lk t,0):=by unfold OI;rw[h];rfl
theorem a6g {t:List Nd} (h:iV t=false):OI t=([],3):=by unfold OI;rw[h];rfl
theorem Im {t:List Nd} {W:Fo} {c f e:Int} (ht:Rt t) (hf:xR t) (p:IB (Lk t) W c f e):((c=2\/c=121)/\W= .nil)\/(c=0/\a0x t (Lk t) W):=by
 have hl:=ht.len;obtain⟨xs,K,r,ex,g,hK⟩:=Lh ht.nd (fun i hi=>(hf.iv _ (Go.Vm.Pa.AZ hi)).2) hl.1 ht.root;have hs:Lk t=Lib.join (xs.map (·.t)) [32]:=by unfold Lk;rw[ex]
 have p2:=p;rw[hs]at p2;rcases ya p with⟨h0,hW⟩|⟨h0,hR⟩
 ·rcases Ap r g p2 with h|h|⟨h,_⟩
  ·exact .inl ⟨.inl h,hW⟩
  ·exact .inl ⟨.inr h,hW⟩
  ·exact absurd h h0
 ·rcases Ap r g p2 with h|h|⟨_,hb⟩
  ·omega
  ·omega
  ·exact .inr ⟨h0,Io ht hR hK hb⟩
section
variable {fx:Nat->Option Obj} (X:zo fx)
theorem I5 (t:List Nd) (hf:xR t) (H:Hp):cv (b9 fx (FT X)) Cs [.d (gD t)] H=some (boo true,H):=by
 refine oc ?_ H;have hp:=fun H=>wR (fx:=fx) (F:=FT X) t hf H;have hr:=fun H=>Az X H;cases hc:iV t with
 |false=>
  rw[a6g hc]at hp
  repeat' (first|refine run ⟨?_⟩|refine ca (hp _) ?_|refine ca (hr _) ?_|fail)
  exact rfl
 |true=>
  rw[Qo hc]at hp;have ht:=Lg hc;obtain⟨W,c,f1,e1,r1,p1⟩:=qF X (Lk t);rcases Im ht hf r1 with⟨hcc,rfl⟩|⟨rfl,hB⟩
  ·rcases hcc with rfl|rfl
   ·repeat' (first|refine run ⟨?_⟩|refine ca (hp _) ?_|refine ca (p1 _) ?_|refine ca (hr _) ?_|fail)
    exact rfl
   ·repeat' (first|refine run ⟨?_⟩|refine ca (hp _) ?_|refine ca (p1 _) ?_|refine ca (hr _) ?_|fail)
    exact rfl
  ·rw[wB]at p1;have hl:=ht.len;have h2:=fun H=>wR (fx:=fx) (F:=FT X) (W.tn 0) hB.r.right.2 H;rw[Qo hB.r.right.1.b,show Lk (W.tn 0)=Lk t by unfold Lk;rw[hB.pr]]at h2;have ho:=fun H=>GH (fx:=fx) (F:=FT X) (t:=t) (fun i hi=>(ht.nd i hi).kid) (fun i hi=>hf.kid _ (Go.Vm.Pa.AZ hi)) hl.1 om (by have:=hB.sz;omega) H;have hS:=fun H=>Lc (fx:=fx) (F:=FT X) hB.alk H;rw[<-yt]at hS;have hq:decide (Lk t=Lk t)=true:=au rfl
   repeat' (first|refine run ⟨?_⟩|refine ca (hp _) ?_|refine ca (p1 _) ?_|refine ca (hr _) ?_|refine ca (h2 _) ?_|refine ca (ho _) ?_|refine ca (hS _) ?_|fail)
   exact rfl
theorem GI {t:List Nd} (ht:Rt t) (hf:xR t) (hs:(nj t t.length (t.length - 1)).sz<=20000) (H:Hp):cv (b9 fx (FT X)) tA [.d (gD t)] H=some (.d (gD ((nj t t.length (t.length - 1)).tn 0)),H):=by
 have hl:=ht.len;rw[<-yt];exact GH (fx:=fx) (F:=FT X) (t:=t) (fun i hi=>(ht.nd i hi).kid) (fun i hi=>hf.kid _ (Go.Vm.Pa.AZ hi)) hl.1 om om H
theorem I4 (s:List UInt8) (H:Hp):cv (b9 fx (FT X)) Cr [.d (.str s)] H=some (boo true,H):=by
 refine oc ?_ H;have hr:=fun H=>Az X H;obtain⟨W,c,f1,e1,r1,p1⟩:=qF X s;rcases ya r1 with⟨h0,rfl⟩|⟨rfl,hR⟩
 ·have hq:(!decide (c=0))=true:=by rw[ak h0];rfl
  repeat' (first|refine run ⟨?_⟩|refine ca (p1 _) ?_|refine ca (hr _) ?_|fail)
  exact rfl
 ·obtain⟨ht,hf⟩:=hR.right;have h1:=rX hR.one;have hp:=fun H=>wR (fx:=fx) (F:=FT X) (W.tn 0) hf H;rw[Qo ht.b]at hp;rw[wB]at p1;have ho:=fun H=>GI X ht hf (by rw[h1];exact hR.sz) H;rw[h1]at ho;obtain⟨U,d,f2,e2,r2,p2⟩:=qF X (Lk (W.tn 0));rcases Im ht hf r2 with⟨hcc,rfl⟩|⟨rfl,hB⟩
  ·rcases hcc with rfl|rfl
   ·repeat' (first|refine run ⟨?_⟩|refine ca (p1 _) ?_|refine ca (hp _) ?_|refine ca (p2 _) ?_|refine ca (hr _) ?_|fail)
    exact rfl
   ·repeat' (first|refine run ⟨?_⟩|refine ca (p1 _) ?_|refine ca (hp _) ?_|refine ca (p2 _) ?_|refine ca (hr _) ?_|fail)
    exact rfl
  ·rw[wB]at p2;have hS:=fun H=>Lc (fx:=fx) (F:=FT X) hB.alk H;rw[h1]at hS;have h2:=rX hB.r.one;have hu:=fun H=>GI X hB.r.right.1 hB.r.right.2 (by rw[h2];exact hB.r.sz) H;rw[h2]at hu
   repeat' (first|refine run ⟨?_⟩|refine ca (p1 _) ?_|refine ca (hp _) ?_|refine ca (p2 _) ?_|refine ca (hr _) ?_|refine ca (ho _) ?_|refine ca (hu _) ?_|refine ca (hS _) ?_|fail)
   exact rfl
end
end Go.Vm.Tz
namespace Go.Vm.Tp
open Go
structure WN (x:Nd):Prop where
 txt:x.t.length<=9223372036854775807
 kid:x.kids.length<=9223372036854775807
 ik:∀ k∈x.kids,oE k
 iv:oE x.v
 ie:oE x.f/\oE x.e
theorem EV {n:Int} (h:(Lit.int .i64 n).wf=true):oE n:=by
 have e1:IntKind.i64.min= -9223372036854775808:=rfl;have e2:IntKind.i64.max=9223372036854775807:=rfl;simp only[Lit.wf,e1,e2]at h;simp at h;unfold oE;omega
section
variable {P:Program}
theorem Ma {m ti:Nat} (hi:P.underlying ti=some (.int .i64)):∀ l:List D,(∀ y∈l,kF P (m+1) ti y)->∃ ks:List Int,l=ks.map (D.int .i64)/\∀ k∈ks,oE k
 |[],_=>⟨[],rfl,by simp⟩
 |x::r,h=>by
  obtain⟨n,rfl,w⟩:=tK hi (h x (by simp));obtain⟨ks,e,hk⟩:=Ma hi r fun y hy=>h y (by simp[hy]);refine⟨n::ks,by rw[e];rfl,fun k hm=>?_⟩;rcases bs.1 hm with rfl|hm
  ·exact EV w
  ·exact hk k hm
theorem UH {m tN ti:Nat} (hf:(fieldsOf P tN).map (·.map P.underlying)=some [some (.int .i64),some .string,some (.int .i64),some (.slice ti),some (.int .i64),some (.int .i64)]) (hi:P.underlying ti=some (.int .i64)) {x:D} (h:kF P (m+3) tN x):∃ n:Nd,x=n.D/\WN n:=by
 cases hfo:fieldsOf P tN with
 |none=>rw[hfo]at hf;cases hf
 |some ts=>
  rw[hfo]at hf;simp only[aI,aa]at hf;obtain⟨xs,hx,ha⟩:=yZ hfo h;have hl:=aG List.length hf;rw[aE]at hl;match ts,hl,hf with
  |[a,b,c,d,e,f],_,hf=>
   simp only[aB,bp,bS,fQ]at hf;match xs,ha with
   |[x1,x2,x3,x4,x5,x6],ha=>
    obtain⟨h1,h2,h3,h4,h5,h6,_⟩:=ha;obtain⟨n1,rfl,w1⟩:=tK hf.1 h1;obtain⟨t,rfl,w2⟩:=Hl hf.2.1 h2;obtain⟨n3,rfl,w3⟩:=tK hf.2.2.1 h3;obtain⟨l,rfl,w4,hl⟩:=Bi hf.2.2.2.1 h4;obtain⟨n5,rfl,w5⟩:=tK hf.2.2.2.2.1 h5;obtain⟨n6,rfl,w6⟩:=tK hf.2.2.2.2.2 h6;obtain⟨ks,rfl,hk⟩:=Ma hi l hl;refine⟨⟨n1,t,n3,ks,n5,n6⟩,hx,⟨w2,by rw[aE]at w4;exact w4,hk,EV w3,EV w5,EV w6⟩⟩
theorem GQ {m tN ti:Nat} (hf:(fieldsOf P tN).map (·.map P.underlying)=some [some (.int .i64),some .string,some (.int .i64),some (.slice ti),some (.int .i64),some (.int .i64)]) (hi:P.underlying ti=some (.int .i64)):∀ l:List D,(∀ y∈l,kF P (m+3) tN y)->∃ t:List Nd,l=t.map Nd.D/\∀ x∈t,WN x
 |[],_=>⟨[],rfl,by simp⟩
 |x::r,h=>by
  obtain⟨n,rfl,w⟩:=UH hf hi (h x (by simp));obtain⟨t,e,hk⟩:=GQ hf hi r fun y hy=>h y (by simp[hy]);refine⟨n::t,by rw[e];rfl,fun k hm=>?_⟩;rcases bs.1 hm with rfl|hm
  ·exact w
  ·exact hk k hm
theorem TP {m tT tS tN ti:Nat} (ht:fieldsOf P tT=some [tS]) (hs:P.underlying tS=some (.slice tN)) (hf:(fieldsOf P tN).map (·.map P.underlying)=some [some (.int .i64),some .string,some (.int .i64),some (.slice ti),some (.int .i64),some (.int .i64)]) (hi:P.underlying ti=some (.int .i64)) {d:D} (h:kF P (m+5) tT d):∃ t:List Nd,d=gD t/\t.length<=9223372036854775807/\∀ x∈t,WN x:=by
 obtain⟨xs,hx,ha⟩:=yZ ht h;match xs,ha with
 |[x1],ha=>
  obtain⟨h1,_⟩:=ha;obtain⟨l,rfl,w,hl⟩:=Bi hs h1;obtain⟨t,rfl,hw⟩:=GQ hf hi l hl;exact⟨t,hx,by rw[aE]at w;exact w,hw⟩
end
mutual
/-- How many values and letters a datum holds, at the least. -/
def iD:D->Nat
 | .str s=>s.length+1
 | .sl l=>eZ l+1
 | .agg l=>eZ l+1
 |_=>1
def eZ:List D->Nat
 |[]=>0
 |x::r=>iD x+eZ r
end
theorem vr:∀ a b:List D,eZ (a++b)=eZ a+eZ b
 |[],b=>by simp[eZ]
 |x::a,b=>by simp only[al,eZ,vr a b];omega
theorem Oj (d:D):1<=iD d:=by cases d<;>simp[iD]
theorem Fy (d:D):eZ d.cells<=iD d:=by
 cases d<;>simp[D.cells,eZ,iD]
theorem wh:∀ l:List D,l.length<=eZ l
 |[]=>by simp
 |x::r=>by have:=Oj x;have:=wh r;simp only[eZ,aw];omega
theorem BJ:∀ {l:List D} {x:D},x∈l->iD x<=eZ l
 |y::r,x,h=>by
  simp only[eZ];rcases bs.1 h with rfl|h
  ·omega
  ·have:=BJ h;omega
theorem Mt (x:Nd):x.t.length<=iD x.D/\x.kids.length<=iD x.D:=by
 have h:=wh (x.kids.map (D.int .i64));rw[aE]at h;simp only[Nd.D,iD,eZ];omega
theorem Vu {t:List Nd} (hb:iD (gD t)<=1048576) (hw:∀ x∈t,WN x):xR t:=by
 have e:iD (gD t)=eZ (t.map Nd.D)+2:=by simp only[gD,iD,eZ]
 rw[e]at hb;have hl:=wh (t.map Nd.D);rw[aE]at hl;have key:∀ x∈t,iD x.D<=1048576:=fun x hx=>by
   have:=BJ (List.mem_map_of_mem (f:=Nd.D) hx);omega
 exact⟨om,fun x hx=>by have:=(Mt x).1;have:=key x hx;omega,fun x hx=>by have:=(Mt x).2;have:=key x hx;omega,fun x hx=>(hw x hx).ik,fun x hx=>(hw x hx).iv,fun x hx=>(hw x hx).ie⟩
end Go.Vm.Tp


namespace Go.Vm.Ip
def kn (x:Its) (s:S):Bool:=known (nS x) s||known (nE x) s
def Wn (l:List Xc):List S:=(l.map Xc.t).filter fun t=>decide (t≠[])
def xc (x:Its) (s:S):List S×Bool:=match pos (nS x) s with
 |some i=>((x.ss.getD i default).fs.map Xc.t,false)
 |none=>match pos (nE x) s with
  |some i=>(Wn (x.es.getD i default).fs,true)
  |none=>([],false)
inductive Gets (x:Its) (s:S):S->Prop
 |one {y:S}:y∈(xc x s).1->Gets x s y
 |step {y z:S}:Gets x s y->z∈(xc x y).1->Gets x s z
structure b0t (x:Its) (s:S) (seen todo:List S):Prop where
 r1:∀ y∈seen,Gets x s y
 r2:∀ y∈todo,Gets x s y
 c0:∀ z∈(xc x s).1,z∈seen\/z∈todo
 c1:∀ y∈seen,∀ z∈(xc x y).1,z∈seen\/z∈todo
 no:s∉seen
theorem b0t.end {x:Its} {s:S} {seen:List S} (h:b0t x s seen []):¬ Gets x s s:=by
 have key:∀ y,Gets x s y->y∈seen:=by
  intro y hy;induction hy with
  |one hz=>exact(h.c0 _ hz).resolve_right (by simp)
  |step _ hz ih=>exact(h.c1 _ ih _ hz).resolve_right (by simp)
 exact fun hr=>h.no (key s hr)
end Go.Vm.Ip






