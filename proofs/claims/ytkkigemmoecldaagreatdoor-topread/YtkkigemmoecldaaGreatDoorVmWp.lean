import Derived.ProofKit
import Derived.LaidMore
import Derived.Stop.Joined
import Derived.Below
import Derived.Lib.ItoaNum
import Derived.Lib.Join
import Derived.Lib.Fields
import Derived.Sort.Grow
import Derived.Lib.LaidTab
import Derived.Deep.Draws
import Derived.Lib.Bytealg
import Derived.Lib.LastIndexByte
import Derived.Lib.ParseIntB
import Derived.Lib.Strings
import Derived.Lib.CutLaws
import Derived.Test.YtkkigemmoecldaaGreatDoorIteCode
set_option maxHeartbeats 0
set_option linter.unusedVariables false
set_option linter.unusedSimpArgs false
namespace Go.Vm
open Go.ChangeShapes Go.WideShapes Go.ChangeAt Go.RowKit
def contents (w:World) (b:Nat):List Value:=match w.heap[b]? with|some (.cells cur _ _)=>cur.toList|_=>[]
def a2f (w:World):Gh:=⟨fun _=>none,contents w⟩
theorem Cw {w:World} {b off:Nat} {v:Value} {sp} (h:w.cell? ⟨b,off,sp⟩=some v):(contents w b)[off]? =some v:=by
 unfold World.cell? at h;unfold contents;split at h
 ·rename_i c t f hc;split at h
  ·cases h
  ·simp only at hc;rw[hc];simpa using h
 ·cases h
def B8 (cx:Cx) (w:World):Prop:=(∀ i,∃ vs,vs <+:contents w i/\db (contents w) (cx.gv i) vs)/\∀ i o,cx.fx i=some o->w.heap[i]? =some o
theorem inv0 {cx:Cx} {w:World} (h:B8 cx w):Inv cx (a2f w) [] w:=by
 refine⟨fun i k b c c' h=>(nomatch h),fun i b c h=>(nomatch h),fun i b c o h=>(nomatch h),fun b hb=>?_,fun i c hi=>absurd hi (gC _),h.1,fun i o hi=>⟨h.2 i o hi,fun k c hk=>(nomatch hk)⟩⟩;simp only[a2f,contents]at hb⊢;split at hb
 ·rename_i cur e fz hc;exact⟨cur,e,fz,hc,aJ _⟩
 ·exact absurd rfl hb
theorem front {P:Program} {pg:Pg} (hT:eS P pg) (hmx:P.follows .mixedOrders=true) {f:Nat} {args:Array Value} {ds:List D} {W:World} (hg:B8 pg.toCx W) (hr:bN (a2f W) [] (ds.map V.d) args.toList)
 {H':Hp} (hev:cv pg f (ds.map V.d) []=some (.d (.bool true),H')):Calls P f args W fun e W'=>e= .returned (.bool true)/\Below W.heap.size W W':=by
 obtain⟨_,h⟩:=tP hT hmx f (ds.map V.d) [] (.d (.bool true)) H' hev;refine(h (a2f W) W args (inv0 hg) hr (mH _ ds)).mono fun e w' he=>?_;obtain⟨g',x,h1,h2,h3,_,h5⟩:=he;rw[oW h3]at h1;exact⟨h1,⟨h5.os,h5.tape,h5.output,h5.size,fun k hk=>(h5.frame k hk fun i c=>by simp[a2f]).1⟩⟩
def AR (P:Program) (total:Nat):Nat->List Field->Bool
 |n,[]=>n==total
 |n,f::r=>f.offset==n && AR P total (n+P.cellsOf f.type) r
section
variable {H:Type}
mutual
/-- What a reading says, as data. -/
def lI:DataW H->D
 | .lit (.bool b)=> .bool b
 | .lit (.int k n)=> .int k n
 | .lit (.string s)=> .str s
 | .agg l=> .agg (j7 l)
 | .slice l _=> .sl (ZI l)
 |_=> .sl []
def ZI:List (DataW H)->List D
 |[]=>[]
 |x::r=>lI x::ZI r
def j7:List (DataW H)->List D
 |[]=>[]
 |x::r=>(lI x).cells++j7 r
end
theorem Su:∀ l:List (DataW H),ZI l=l.map lI
 |[]=>rfl
 |x::r=>by simp[ZI,Su r]
theorem v8:∀ l:List (DataW H),j7 l=(l.map lI).flatMap D.cells
 |[]=>rfl
 |x::r=>by simp[j7,v8 r]
end
def lQ (P:Program):Nat->TypeId->Bool
 |0,_=>false
 |m+1,t=>match P.underlying t with
  |some .bool|some (.int _)|some .string=>P.cellsOf t==1
  |some (.slice e)=>P.cellsOf t==1 && decide (0 < P.cellsOf e) && lQ P m e
  |some (.struct fs)=>AR P (P.cellsOf t) 0 fs.toList && fs.toList.all fun f=>lQ P m f.type
  |some (.array n e)=>P.cellsOf t==n*P.cellsOf e && lQ P m e
  |_=>false
def kF (P:Program):Nat->TypeId->D->Prop
 |0,_,_=>False
 |m+1,t,x=>match P.underlying t with
  |some .bool=> ∃ b,x= .bool b
  |some (.int k)=> ∃ n,x= .int k n/\(Lit.int k n).wf=true
  |some .string=> ∃ s,x= .str s/\s.length<=maxLen
  |some (.slice e)=> ∃ l,x= .sl l/\l.length<=maxLen/\∀ y∈l,kF P m e y
  |some (.struct fs)=> ∃ xs:List D,x= .agg (xs.flatMap D.cells)/\xs.length=fs.toList.length/\∀ (i:Nat) (f:Field) (y:D),fs.toList[i]? =some f->xs[i]? =some y->kF P m f.type y
  |some (.array n e)=> ∃ xs:List D,x= .agg (xs.flatMap D.cells)/\xs.length=n/\∀ y∈xs,kF P m e y
  |_=>False
theorem sf {C:Nat->List Value}:∀ {l l':List D} {vs vs':List Value},db C l vs->db C l' vs'->db C (l++l') (vs++vs')
 |[],l',vs,vs',r,r'=>by simp only[db]at r;subst r;exact r'
 |d::ds,l',vs,vs',r,r'=>by
  simp only[db]at r;obtain⟨y,ys,rfl,h1,h2,h3⟩:=r;simp only[al,db];exact⟨y,ys++vs',by simp,h1,h2,sf h3 r'⟩
section
variable {H:Type} {enc:TypeId×Value->H} {P:Program} {w:World} {base:Nat} {spare:Nat->Bool} {held:Bool} {fuel:Nat}
theorem HG {total m:Nat} (rec_:∀ t cs x,lQ P m t=true->DataW.trod enc P w base spare held fuel t cs=some x->kF P m t (lI x.1)/\bD (contents w) (lI x.1) cs):∀ (fs:List Field) (n:Nat) (cs:List Value) (xs:List (DataW H×List MemPlace)),AR P total n fs=true->cs.length=total->
 (fs.all fun f=>lQ P m f.type)=true->(fs.mapM fun f=>DataW.trod enc P w base spare held fuel f.type ((cs.drop f.offset).take (P.cellsOf f.type)))=some xs->
 db (contents w) (j7 (xs.map (·.1))) (cs.drop n)/\xs.length=fs.length/\∀ (i:Nat) (f:Field) (y:D),fs[i]? =some f->(xs.map fun x=>lI x.1)[i]? =some y->kF P m f.type y
 |[],n,cs,xs,ho,hl,_,hx=>by
  simp only[AR,iZ]at ho;simp only[nw,fK,aa]at hx;subst hx;refine⟨?_,rfl,fun i f y h=>by simp at h⟩;rw[bU om];simp[db,j7]
 |f::fs,n,cs,xs,ho,hl,hp,hx=>by
  simp only[AR,ab,iZ]at ho;simp only[aQ,ab]at hp;simp only[iF,kG,bY,fK,aa]at hx;obtain⟨x,hx1,xs',hx2,rfl⟩:=hx;rw[ho.1]at hx1;obtain⟨h1,h2⟩:=rec_ f.type _ x hp.1 hx1;obtain⟨h3,h4,h5⟩:=HG rec_ fs (n+P.cellsOf f.type) cs xs' ho.2 hl hp.2 hx2;refine⟨?_,by simp[h4],fun i f' y hf hy=>?_⟩
  ·simp only[aB,j7];have:=sf (qc h2) h3;rw[<-cr,bG]at this;exact this
  ·cases i with
   |zero=>
    simp only[aV,aa,aB]at hf hy;subst hf;subst hy;exact h1
   |succ i=>exact h5 i f' y (by simpa using hf) (by simpa using hy)
theorem W8 {m sz:Nat} {e:TypeId} (rec_:∀ cs x,DataW.trod enc P w base spare held fuel e cs=some x->kF P m e (lI x.1)/\bD (contents w) (lI x.1) cs):∀ (len k:Nat) (cs:List Value) (xs:List (DataW H×List MemPlace)),cs.length=(k+len) *sz->
 ((List.range' k len).mapM fun i=>DataW.trod enc P w base spare held fuel e ((cs.drop (i*sz)).take sz))=some xs->
 db (contents w) (j7 (xs.map (·.1))) (cs.drop (k*sz))/\xs.length=len/\∀ y∈xs.map fun x=>lI x.1,kF P m e y
 |0,k,cs,xs,hl,h=>by
  simp only[List.range'_zero,nw,fK,aa]at h;subst h;refine⟨?_,rfl,by simp⟩;rw[bU (by rw[hl];simp)];simp[db,j7]
 |len+1,k,cs,xs,hl,h=>by
  simp only[fX,iF,kG,bY,fK,aa]at h;obtain⟨x,hx,xs',hxs,rfl⟩:=h;obtain⟨h1,h2⟩:=rec_ _ x hx;obtain⟨h3,h4,h5⟩:=W8 rec_ len (k+1) cs xs' (by rw[hl];congr 1;omega) hxs;refine⟨?_,by simp[h4],fun y hy=>?_⟩
  ·simp only[aB,j7];have:=sf (qc h2) h3;rw[eH,iL,<-cr,bG]at this;exact this
  ·simp only[aB,bs]at hy;rcases hy with rfl|hy
   ·exact h1
   ·exact h5 y hy
theorem mapM_some_get {α β:Type} {F:α->Option β}:∀ {l:List α} {r:List β},l.mapM F=some r->r.length=l.length/\∀ (i:Nat) (x:α),l[i]? =some x->∃ y,F x=some y/\r[i]? =some y
 |[],r,h=>by
  simp only[nw,fK,aa]at h;subst h;exact⟨rfl,fun i x h=>by simp at h⟩
 |a::l,r,h=>by
  simp only[iF,kG,bY,fK,aa]at h;obtain⟨y,hy,ys,hys,rfl⟩:=h;obtain⟨h1,h2⟩:=mapM_some_get hys;refine⟨by simp[h1],fun i x hx=>?_⟩;cases i with
  |zero=>simp only[aV,aa]at hx;subst hx;exact⟨y,hy,rfl⟩
  |succ i=>exact h2 i x (by simpa using hx)
theorem Kv {a:Addr} {n:Nat} {cs:List Value} (h:w.cells? base a n=some cs):cs.length=n/\(0 < n->a.spot=none)/\cs <+:(contents w a.block).drop a.off:=by
 unfold World.cells? at h;split at h
 ·obtain⟨h1,h2⟩:=mapM_some_get h;have hl:cs.length=n:=by simpa using h1
  have hc:∀ i,i < n->∃ y,w.cell? (a.add i)=some y/\cs[i]? =some y:=fun i hi=>h2 i i (by simp[hi]);refine⟨hl,fun hn=>?_,?_⟩
  ·obtain⟨y,hy,_⟩:=hc 0 hn;exact World.cell?_spot (by simpa [Addr.add] using hy)
  ·rw[List.prefix_iff_eq_take];apply fa;intro i;by_cases hi:i < n
   ·obtain⟨y,hy,hcy⟩:=hc i hi;rw[hcy,aZ,ay om,cw];have hy':w.cell? ⟨a.block,a.off+i,none⟩=some y:=by
     by_cases h0:i=0
     ·subst h0;have hs:=World.cell?_spot hy;simp only[Addr.add,cU]at hy hs;obtain⟨b,o,sp⟩:=a;simp only at hs;subst hs;simpa using hy
     ·simpa [Addr.add,h0] using hy
    exact(Cw hy').symm
   ·rw[bM om,bM (by rw[bm];omega)]
 ·cases h
theorem WV {m sz:Nat} {e:TypeId} {a:Addr} (hs:0 < sz) (rec_:∀ cs x,DataW.trod enc P w base spare held fuel e cs=some x->kF P m e (lI x.1)/\bD (contents w) (lI x.1) cs):∀ (len k:Nat) (xs:List (DataW H×List MemPlace)),
 ((List.range' k len).mapM fun i=>(w.cells? base (a.add (i*sz)) sz).bind (DataW.trod enc P w base spare held fuel e))=some xs->
 ∃ us:List Value,xs.length=len/\us <+:(contents w a.block).drop (a.off+k*sz)/\dJ (contents w) sz (xs.map fun x=>lI x.1) us/\(∀ y∈xs.map fun x=>lI x.1,kF P m e y)/\(0 < len->k=0->a.spot=none)
 |0,k,xs,h=>by
  simp only[List.range'_zero,nw,fK,aa]at h;subst h;exact⟨[],rfl,dV,by simp[dJ],by simp,om⟩
 |len+1,k,xs,h=>by
  simp only[fX,iF,kG,bY,fK,aa]at h;obtain⟨x,⟨cs,hc,hx⟩,xs',hxs,rfl⟩:=h;obtain⟨us,h1,h2,h3,h4,_⟩:=WV hs rec_ len (k+1) xs' hxs;obtain⟨d1,d2⟩:=rec_ cs x hx;obtain⟨c1,c2,c3⟩:=Kv hc;have hblk:(a.add (k*sz)).block=a.block:=by unfold Addr.add;split<;>rfl
  have hoff:(a.add (k*sz)).off=a.off+k*sz:=by unfold Addr.add;split<;>simp_all
  rw[hblk,hoff]at c3;refine⟨cs++us,by simp[h1],?_,by simp only[aB,dJ];exact⟨cs,us,rfl,c1,d2,h3⟩,fun y hy=>?_,fun _ hk=>?_⟩
  ·obtain⟨t,ht⟩:=c3;rw[eH,iL,<-eM,<-cr,<-ht,<-c1,jX]at h2;obtain⟨t',rfl⟩:=h2;exact⟨t',by rw[<-ht];simp⟩
  ·simp only[aB]at hy;cases hy with
   |head=>exact d1
   |tail _ hm=>exact h4 y hm
  ·subst hk;have:=c2 hs;simpa [Addr.add] using this
theorem Pb:∀ (fuel m:Nat) (t:TypeId) (cs:List Value) (x:DataW H×List MemPlace),lQ P m t=true->DataW.trod enc P w base spare held fuel t cs=some x->kF P m t (lI x.1)/\bD (contents w) (lI x.1) cs:=by
 intro fuel;induction fuel with
 |zero=>intro m t cs x _ h;simp[DataW.trod]at h
 |succ fuel ih=>
  intro m t cs x hp h;cases m with
  |zero=>simp[lQ]at hp
  |succ m=>
   simp only[lQ]at hp;simp only[kF];have h':=h;unfold DataW.trod at h';cases hu:P.underlying t with
   |none=>rw[hu]at hp;cases hp
   |some u=>
    rw[hu]at hp h';cases u with
    |bool=>
     split at h'<;>first|(rename_i q;cases q;done)|skip
     ·rename_i b _;cases h';exact⟨⟨b,rfl⟩,by simp[bD,lI]⟩
     ·cases h'
    |int k=>
     obtain⟨n,rfl,rfl,hw⟩:=DataW.trod_int hu h;exact⟨⟨n,rfl,hw⟩,by simp[bD,lI]⟩
    |string=>
     split at h'<;>first|(rename_i q;cases q;done)|skip
     ·rename_i s _;split at h'
      ·rename_i hs;cases h';exact⟨⟨s.data.toList,rfl,by simpa using hs⟩,by simp[bD,lI]⟩
      ·cases h'
     ·cases h'
    |slice e=>
     simp only[ab,an]at hp;split at h'<;>first|(rename_i q;cases q;done)|skip
     ·cases h';exact⟨⟨[],rfl,by simp,by simp⟩,by simp[bD,lI]⟩
     ·rename_i e' a len cap q;cases q;simp only at h';split at h'
      case isFalse=>cases h'
      rename_i hb;obtain⟨hb,hlc,hcm⟩:=hb;obtain⟨xs,hxs,hrest⟩:=bY.1 h';obtain⟨rest,_,rfl⟩:=aj.1 hrest;rw[eD]at hxs;obtain⟨us,h1,h2,h3,h4,h5⟩:=WV (m:=m) (sz:=P.cellsOf e) (e:=e) (a:=a) hp.1.2 (fun cs x hx=>ih m e cs x hp.2 hx) len 0 xs hxs;have hd:lI (DataW.slice (xs.map (·.1)) (rest.map (·.1)))= .sl (xs.map fun x=>lI x.1):=by simp[lI,Su,dh]
      rw[hd];refine⟨⟨_,rfl,by simp[h1];omega,h4⟩,?_⟩;simp only[bD];refine⟨some a,cap,by simp[h1],by simp[h1];omega,?_⟩;by_cases hl0:len=0
      ·left;exact cp.1 (by simp[h1];omega)
      ·right;have hs:=h5 om rfl;obtain⟨b,o,sp⟩:=a;simp only at hs;subst hs;exact⟨b,o,_,us,rfl,hp.1.2,by simpa using h2,h3⟩
     ·cases h'
    |struct fs=>
     simp only[ab]at hp;have hstr:(if cs.length=P.cellsOf t then(fs.toList.mapM fun f=>DataW.trod enc P w base spare held fuel f.type ((cs.drop f.offset).take (P.cellsOf f.type))).map fun xs=>(DataW.agg (xs.map (·.1)),xs.flatMap (·.2)) else none)=some x:=h';split at hstr
     ·rename_i hl;obtain⟨xs,hxs,rfl⟩:=aj.1 hstr;obtain⟨d1,d2,d3⟩:=HG (m:=m) (fun t cs x hp hx=>ih m t cs x hp hx) fs.toList 0 cs xs hp.1 hl hp.2 hxs;have hd:lI (DataW.agg (xs.map (·.1)))= .agg ((xs.map fun x=>lI x.1).flatMap D.cells):=by simp[lI,v8,dh]
      refine⟨⟨xs.map fun x=>lI x.1,hd,by simp[d2],d3⟩,?_⟩;simp only[lI,bD];simpa using d1
     ·cases hstr
    |array n e=>
     simp only[ab,iZ]at hp;have harr:(if cs.length=P.cellsOf t then((List.range n).mapM fun i=>DataW.trod enc P w base spare held fuel e ((cs.drop (i*P.cellsOf e)).take (P.cellsOf e))).map fun xs=>(DataW.agg (xs.map (·.1)),xs.flatMap (·.2)) else none)=some x:=h';split at harr
     ·rename_i hl;obtain⟨xs,hxs,rfl⟩:=aj.1 harr;rw[eD]at hxs;obtain⟨d1,d2,d3⟩:=W8 (m:=m) (sz:=P.cellsOf e) (e:=e) (fun cs x hx=>ih m e cs x hp.2 hx) n 0 cs xs (by rw[hl,hp.1];simp) hxs;have hd:lI (DataW.agg (xs.map (·.1)))= .agg ((xs.map fun x=>lI x.1).flatMap D.cells):=by simp[lI,v8,dh]
      refine⟨⟨xs.map fun x=>lI x.1,hd,by simp[d2],d3⟩,?_⟩;simp only[lI,bD];simpa using d1
     ·cases harr
    |_=>cases hp
theorem b0j {m:Nat} {t:TypeId} {v:Value} {d:DataW H} {ps:List MemPlace} {r:Reach} {b0:Nat} (hp:lQ P m t=true) (hval:Value.okWide P w r b0 t v) (h:DataW.Trod enc P w base spare held t v d ps):kF P m t (lI d)/\du (contents w) (lI d) v:=by
 obtain⟨fuel,hf⟩:=h;obtain⟨h1,h2⟩:=Pb fuel m t _ _ hp hf;simp only at h1 h2;refine⟨h1,?_⟩;cases m with
 |zero=>simp[lQ]at hp
 |succ m=>
  simp only[kF]at h1;split at h1
  ·rename_i hu;obtain⟨b,hb⟩:=h1;rw[hb]at h2⊢;obtain⟨b',rfl⟩:=okWide_bool hu hval;simpa [Value.cells,du] using h2
  ·rename_i k hu;obtain⟨n,hb,_⟩:=h1;rw[hb]at h2⊢;obtain⟨n',rfl⟩:=okWide_int hu hval;simpa [Value.cells,du] using h2
  ·rename_i hu;obtain⟨s,hb,_⟩:=h1;rw[hb]at h2⊢;obtain⟨s',rfl⟩:=okWide_string hu hval;simpa [Value.cells,du] using h2
  ·rename_i e hu;obtain⟨l,hb,_⟩:=h1;rw[hb]at h2⊢;obtain⟨a,len,cap,rfl⟩:=okWide_slice hu hval;simpa [Value.cells,du] using h2
  ·rename_i fs hu;obtain⟨xs,hb,_⟩:=h1;rw[hb]at h2⊢;obtain⟨cs,rfl,_⟩:=okWide_struct hu hval;exact⟨cs,rfl,by simpa [bD,Value.cells] using h2⟩
  ·rename_i n e hu;obtain⟨xs,hb,_⟩:=h1;rw[hb]at h2⊢;have hval':=hval;simp only[Value.okWide,hu]at hval';obtain⟨cs,rfl,_⟩:=hval';exact⟨cs,rfl,by simpa [bD,Value.cells] using h2⟩
  ·exact h1.elim
theorem Ta {m:Nat} {base0:Nat} {r:Reach}:∀ {ts:List TypeId} {vs:List Value} {ds:List (DataW H)} {ps:List MemPlace},DataW.TrodAll enc P w base spare held ts vs ds ps->(∀ t∈ts,lQ P m t=true)->(∀ (j:Nat) t v,ts[j]? =some t->vs[j]? =some v->Value.okWide P w r base0 t v)->
 bN (a2f w) [] ((ds.map lI).map V.d) vs/\ds.length=ts.length/\∀ (i:Nat) t x,ts[i]? =some t->ds[i]? =some x->kF P m t (lI x)
 |[],vs,ds,ps,h,_,_=>by
  obtain⟨rfl,rfl,rfl⟩:=trodAll_nil h;exact⟨by simp[bN],rfl,fun i t x h=>by simp at h⟩
 |t::ts,vs,ds,ps,h,hp,hv=>by
  obtain⟨v,vs1,d,ds1,a,b,rfl,rfl,rfl,h1,h2⟩:=trodAll_cons h;obtain⟨x1,x2⟩:=b0j (hp t (by simp)) (hv 0 t v rfl rfl) h1;obtain⟨y1,y2,y3⟩:=Ta h2 (fun t ht=>hp t (by simp[ht])) fun j t v ht hv'=>hv (j+1) t v (by simpa using ht) (by simpa using hv');refine⟨by simp only[aB,bN,bW];exact⟨v,vs1,rfl,x2,by simpa using y1⟩,by simp[y2],fun i t' x' ht hx=>?_⟩;cases i with
  |zero=>
   simp only[aV,aa]at ht hx;subst ht;subst hx;exact x1
  |succ i=>exact y3 i t' x' (by simpa using ht) (by simpa using hx)
theorem vn {W W':World} (hl:laidOutB P=true) (hb:Below W.heap.size W W'):∀ {ts:List TypeId} {vs:List Value} {ds:List (DataW H)} {ps:List MemPlace},(∀ t∈ts,P.readableRec t=true/\t < P.types.size)->DataW.TrodAll enc P W 0 (fun _=>true) true ts vs ds ps->(∀ x∈ps,x.block < W.heap.size)->
    DataW.TrodAll enc P W' 0 (fun b=>decide (b < W.heap.size)) true ts vs ds ps
  |[],vs,ds,ps,_,h,_=>by
   obtain⟨rfl,rfl,rfl⟩:=trodAll_nil h;simp[DataW.TrodAll]
  |t::ts,vs,ds,ps,hr,h,hlt=>by
   obtain⟨v,vs1,d,ds1,a,b,rfl,rfl,rfl,h1,h2⟩:=trodAll_cons h;exact⟨a,b,Below.trod hl (hr t (by simp)).1 (hr t (by simp)).2 h1 hb fun x hx=>hlt x (by simp[hx]),vn hl hb (fun t ht=>hr t (by simp[ht])) h2 fun x hx=>hlt x (by simp[hx]),rfl⟩
theorem Nq {fn:Func} {s:ChangeSpec} {apart:Bool} {W W':World} {args:Array Value} {ds gs:List (DataW H)} {before:List MemPlace} {tb:TypeId} (hl:laidOutB P=true) (hb:Below W.heap.size W W')
 (hs:s.vars=[]) (hfn:∀ ds:List (DataW H),ds.length=fn.params.size->s.fn H ds={results:=[.lit (.bool true)],args:=ds })
 (hr:∀ t∈fn.params.toList,P.readableRec t=true/\t < P.types.size) (hres:fn.resultTypes= #[tb]) (htb:P.underlying tb=some .bool)
 (hW:DataW.Whole enc P fn.params.toList s.vars apart W args.toList ds gs before):
 s.post enc P fn apart true false false W args (.bool true) W':=by
 have hlt:=hW.lt;have hW':=hW;obtain⟨p,q,hA,hV,rfl,_,_⟩:=hW;rw[hs]at hV;obtain⟨rfl,rfl⟩:=trodVars_none hV;have hlen:∀ {ts:List TypeId} {vs:List Value} {ds:List (DataW H)} {ps:List MemPlace},DataW.TrodAll enc P W 0 (fun _=>true) true ts vs ds ps->ds.length=ts.length:=by
   intro ts;induction ts with
   |nil=>intro vs ds ps h;obtain⟨_,rfl,_⟩:=trodAll_nil h;rfl
   |cons t ts ih=>intro vs ds ps h;obtain⟨_,_,_,_,_,_,_,rfl,_,_,h2⟩:=trodAll_cons h;simp[ih h2]
 have e:=hfn ds (by rw[hlen hA];simp);refine⟨ds,[],p++[],[],p,[],hW',?_,?_,?_,hb.frame _,fun h=>by cases h⟩
 ·rw[bC,e,hres];exact trodAll_mk1 (shut_bool htb true)
 ·rw[bC,e];exact vn hl hb hr hA fun x hx=>hlt x (by simp[hx])
 ·rw[bC,e,hs];rfl
end
section
variable {H:Type} {enc:TypeId×Value->H} {P:Program}
def Zn (l:List (Nat×List D)) (i:Nat):List D:=((l.find? (·.1==i)).map (·.2)).getD []
def oD (w:World) (l:List Nat) (i:Nat):Option Obj:=if i∈l then w.heap[i]? else none
theorem RV (w:World) (l:List Nat) (i:Nat) (o:Obj) (h:oD w l i=some o):w.heap[i]? =some o:=by
 unfold oD at h;split at h
 ·exact h
 ·cases h
theorem NX {w:World} (l:List (Nat×List D)) {fx:Nat->Option Obj} (hfx:∀ i o,fx i=some o->w.heap[i]? =some o) (h:∀ p∈l,∃ vs,vs <+:contents w p.1/\db (contents w) p.2 vs):B8 ⟨Zn l,fx⟩ w:=by
 refine⟨fun i=>?_,hfx⟩;show ∃ vs,vs <+:contents w i/\db (contents w) (Zn l i) vs;unfold Zn;cases hf:l.find? (·.1==i)with
 |none=>exact⟨[],dV,by simp[db]⟩
 |some p=>
  have hm:=List.mem_of_find?_eq_some hf;have he:=List.find?_some hf;simp only[iZ]at he;subst he;exact h p hm
theorem xa {w:World} {n:String} {d:DataW Unit}:∀ {l:List (String×DataW Unit)} {ps:List MemPlace},DataW.LaidVars P w l ps->(n,d)∈l->∃ g t cs fuel p,P.globalNamed n=some g/\(P.globals[g]?).map (·.type)=some t/\w.var? P n=some cs/\DataW.trod (fun _=>()) P w 0 (fun _=>true) false fuel t cs.toList=some (d,p)
  |[],ps,_,hm=>by cases hm
  |(n',d')::l,ps,h,hm=>by
   obtain⟨g,t,cs,fuel,p,q,h1,h2,h3,h4,h5,_⟩:=h;cases hm with
   |head=>exact⟨g,t,cs,fuel,p,h1,h2,h3,h4⟩
   |tail _ hm=>exact xa h5 hm
theorem wK {pg:Pg} (hT:eS P pg) (hmx:P.follows .mixedOrders=true) {f:Nat} {fn:Func} {s:ChangeSpec} {apart:Bool} {W:World} {base m:Nat} {args:Array Value} {ds gs:List (DataW H)} {before:List MemPlace} {tb:TypeId} (hl:laidOutB P=true)
 (hs:s.vars=[]) (hfn:∀ ds:List (DataW H),ds.length=fn.params.size->s.fn H ds={results:=[.lit (.bool true)],args:=ds })
 (hr:∀ t∈fn.params.toList,(P.readableRec t=true/\t < P.types.size)/\lQ P m t=true) (hres:fn.resultTypes= #[tb]) (htb:P.underlying tb=some .bool)
 (hval:∀ (j:Nat) t v,fn.params[j]? =some t->args[j]? =some v->Value.okWide P W .any base t v)
 (hW:DataW.Whole enc P fn.params.toList s.vars apart W args.toList ds gs before) (hg:B8 pg.toCx W)
 (hkey:ds.length=fn.params.size->(∀ (i:Nat) t x,fn.params[i]? =some t->ds[i]? =some x->kF P m t (lI x))->∃ H',cv pg f ((ds.map lI).map V.d) []=some (.d (.bool true),H')):
 Calls P f args W fun e W'=> ∃ v,e= .returned v/\s.post enc P fn apart true false false W args v W':=by
 have hW':=hW;obtain⟨p,q,hA,_⟩:=hW;obtain⟨h1,h2,h3⟩:=Ta (m:=m) hA (fun t ht=>(hr t ht).2) (fun j t v ht hv=>hval j t v (by simpa using ht) (by simpa using hv));obtain⟨H',hev⟩:=hkey (by simpa using h2) fun i t x ht hx=>h3 i t x (by simpa using ht) hx;refine(front hT hmx hg h1 hev).mono fun e W' he=>?_;exact⟨_,he.1,Nq hl he.2 hs hfn (fun t ht=>(hr t ht).1) hres htb hW'⟩
end
section
variable {P:Program} {cx:Cx} {g:Gh} {H:Hp} {w w':World}
theorem Inv.below (hI:Inv cx g H w) (h:Below w.heap.size w w'):Inv cx g H w'/\Ext H.length g H w g H w':=by
 have hk:Keep H.length g H g H:=Keep.refl _ _ _;refine⟨⟨hI.inj,fun i b c hj=>⟨(hI.dom i b c hj).1,ch (hI.dom i b c hj).2 h.size⟩,fun i b c o hj ho=>?_,fun b hb=>?_,hI.und,hI.glob,hI.fix.mono fun b hb hn=>⟨h.block b hb,hn⟩⟩,⟨h.os,h.tape,h.output,h.size,fun b hb _=>⟨h.block b hb,rfl⟩,hk,fun i b c hj _=>⟨i,c,hj⟩,fun _ _ h=>h,ai _⟩⟩
 ·have hd:=hI.dom i b c hj;exact(hI.ob i b c o hj ho).ext hk.w (h.block b hd.2) rfl (by rintro c' rfl;exact hI.und i c' hd.1 ho)
 ·obtain⟨cur,e,fz,h1,h2⟩:=hI.imm b hb;exact⟨cur,e,fz,by rw[h.block b (aS.1 h1).1];exact h1,h2⟩
theorem zA {f:Nat} {args:List V} {r:D} (hfn:∃ fn,P.funcs[f]? =some fn/\fn.body.isNone=false/\(fn.name== "runtime.NumGoroutine")=false)
 (hc:∀ g w (cargs:Array Value),Inv cx g H w->bN g H args cargs.toList->Calls P f cargs w fun e w'=> ∃ x,e= .returned x/\du g.C r x/\Below w.heap.size w w'):dw P cx f args H (.d r) H:=by
 refine⟨hfn,fun g w cargs hI ra ua=>(hc g w cargs hI ra).mono fun e w' he=>?_⟩;obtain⟨x,h1,h2,h3⟩:=he;obtain⟨k1,k2⟩:=hI.below h3;exact⟨g,x,h1,k1,by simpa only[bW] using h2,rfl,k2⟩
theorem Xp (hI:Inv cx g H w) {n:String} {i:Nat} (hg:P.globalNamed n=some i) {cs:Array Value} {t:TypeId} {fz:Nat×Nat} (hf:cx.fx i=some (.cells cs t fz)):w.var? P n=some cs:=by
 unfold World.var?;rw[hg];simp only[aP,(hI.fix i _ hf).1]
theorem qO {s:List UInt8} {r:List V} {vs:List Value} (h:bN g H (.d (.str s)::r) vs):∃ ys,vs= .string ⟨s.toArray⟩::ys/\bN g H r ys:=by
 simp only[bN]at h;obtain⟨y,ys,rfl,h1,h2⟩:=h;simp only[bW,du,bD,bS,fQ]at h1;exact⟨ys,by rw[h1],h2⟩
theorem ub {k:IntKind} {n:Int} {r:List V} {vs:List Value} (h:bN g H (.d (.int k n)::r) vs):∃ ys,vs= .int k n::ys/\bN g H r ys:=by
 simp only[bN]at h;obtain⟨y,ys,rfl,h1,h2⟩:=h;simp only[bW,du,bD,bS,fQ]at h1;exact⟨ys,by rw[h1],h2⟩
theorem qP {vs:List Value} (h:bN g H [] vs):vs=[]:=by simpa only[bN] using h
end
def a6b:List V->Hp->Option (V×Hp)
 |[.d (.int .i64 n)],H=>if -9223372036854775808<=n/\n<=9223372036854775807 then some (.d (.str (Lib.itoa n)),H) else none
 |_,_=>none
def pT:List V->Hp->Option (V×Hp)
 |[.d (.int .i64 n),.d (.int .i64 b)],H=>if(-9223372036854775808<=n/\n<=9223372036854775807)/\b=10 then some (.d (.str (Lib.itoa n)),H) else none
 |_,_=>none
def strsOf:List D->Option (List (List UInt8))
 |[]=>some []
 | .str s::r=>(strsOf r).map (s:: ·)
 |_=>none
theorem Al:∀ l:List (List UInt8),strsOf (l.map .str)=some l
 |[]=>rfl
 |s::r=>by simp[strsOf,Al r]
def nD:List V->Hp->Option (V×Hp)
 |[.d (.sl l),.d (.str sep)],H=>match strsOf l with
  |some xs=>if xs.length<=140737488355328/\(Lib.join xs sep).length<=140737488355328 then some (.d (.str (Lib.join xs sep)),H) else none
  |none=>none
 |_,_=>none
section
variable {P:Program} {cx:Cx}
def si (P:Program) (f:Nat):Prop:=∃ fn,P.funcs[f]? =some fn/\fn.body.isNone=false/\(fn.name== "runtime.NumGoroutine")=false
def TabAt (P:Program) (cx:Cx) (name:String) (k:IntKind) (zs:List Int):Prop:=∃ i t fz,P.globalNamed name=some i/\cx.fx i=some (.cells (zs.map fun z=>Value.int k z).toArray t fz)
theorem TabAt.is {name:String} {k:IntKind} {zs:List Int} (h:TabAt P cx name k zs) {g:Gh} {H:Hp} {w:World} (hI:Inv cx g H w):Lib.TabIs P w name k zs:=by
 obtain⟨i,t,fz,h1,h2⟩:=h;exact Xp hI h1 h2
theorem below_grow (w:World) (k:Nat) (os:Array Obj):Below w.heap.size w (Sort.grow (w.drewN k) os):=by
 refine⟨rfl,rfl,rfl,?_,fun b hb=>?_⟩
 ·show w.heap.size<=(w.heap++os).size;simp
 ·show(w.heap++os)[b]? =w.heap[b]?;rw[Array.getElem?_append_left hb]
theorem RU {f:Nat} (hf:si P f) (htab:TabAt P cx "internal/strconv.uint64pow10" .u64 Lib.pow10Tab)
 (hc:∀ (n:Int),-9223372036854775808<=n->n<=9223372036854775807->∀ w:World,Lib.TabIs P w "internal/strconv.uint64pow10" .u64 Lib.pow10Tab->Calls P f #[.int .i64 n,.int .i64 10] w fun e w'=>e= .returned (.string ⟨(Lib.itoa n).toArray⟩)/\∃ k os,w'=Sort.grow (w.drewN k) os):
 ∀ args H r H',pT args H=some (r,H')->dw P cx f args H r H':=by
 intro args H r H' h;unfold pT at h;split at h
 ·rename_i H0 n b;split at h
  ·rename_i hn;obtain⟨hn,rfl⟩:=hn;cases h;refine zA hf fun g w cargs hI ra=>?_;obtain⟨ys,e1,r1⟩:=ub ra;obtain⟨zs,e2,r2⟩:=ub r1;rw[qP r2]at e2;rw[e2]at e1;have:cargs= #[.int .i64 n,.int .i64 10]:=by apply eT.1;exact e1
   subst this;refine(hc n hn.1 hn.2 w (htab.is hI)).mono fun e w' he=>?_;obtain⟨e2,k,os,rfl⟩:=he;exact⟨_,e2,by simp only[du,bD],below_grow w k os⟩
  ·cases h
 ·cases h
theorem CZ:∀ {l:List D} {xs:List (List UInt8)},strsOf l=some xs->l=xs.map .str
 |[],xs,h=>by cases h;rfl
 | .str s::r,xs,h=>by
   simp only[strsOf,aj]at h;obtain⟨ys,h1,rfl⟩:=h;rw[CZ h1];rfl
 | .bool _::_,_,h=>by simp[strsOf]at h
 | .int _ _::_,_,h=>by simp[strsOf]at h
 | .sl _::_,_,h=>by simp[strsOf]at h
 | .agg _::_,_,h=>by simp[strsOf]at h
theorem wk {C:Nat->List Value} {sz:Nat}:∀ {xs:List (List UInt8)} {us:List Value},dJ C sz (xs.map .str) us->∀ (j:Nat) x,xs[j]? =some x->us[j]? =some (.string ⟨x.toArray⟩)
 |[],us,_,j,x,hx=>by simp at hx
 |s::r,us,h,j,x,hx=>by
  simp only[aB,dJ]at h;obtain⟨v1,v2,rfl,h1,h2,h3⟩:=h;simp only[bD]at h2;subst h2;cases j with
  |zero=>simp only[aV,aa]at hx;subst hx;rfl
  |succ j=>
   simp only[bR]at hx;simp only[jx,bR];exact wk h3 j x hx
theorem NS {f:Nat} (hf:si P f)
 (hc0:∀ (a:Option Addr) (c:Nat) (sep:ByteArray) (w:World),Calls P f #[.slice a 0 c,.string sep] w fun e w'=>e= .returned (.string ⟨#[]⟩)/\w'=w)
 (hc:∀ (bk o c:Nat) (xs:List ByteArray) (sep:ByteArray) (w:World),(∀ (j:Nat) x,xs[j]? =some x->w.cell? ⟨bk,o+j,none⟩=some (.string x))->bk < w.heap.size->xs.length<=140737488355328->xs.length<=c->(Lib.join (xs.map (·.data.toList)) sep.data.toList).length<=140737488355328->
   Calls P f #[.slice (some ⟨bk,o,none⟩) xs.length c,.string sep] w fun e w'=>e= .returned (.string ⟨(Lib.join (xs.map (·.data.toList)) sep.data.toList).toArray⟩)/\Below w.heap.size w w'):
 ∀ args H r H',nD args H=some (r,H')->dw P cx f args H r H':=by
 intro args H r H' h;unfold nD at h;split at h
 ·rename_i H0 l sep;split at h
  ·rename_i xs hxs;split at h
   ·rename_i hn;have hl:=CZ hxs;cases h;refine zA hf fun g w cargs hI ra=>?_;simp only[bN]at ra;obtain⟨y,ys,e1,r1,z,zs,e2,r2,r3⟩:=ra;subst r3;subst e2;simp only[bW,du,bD,bS,fQ]at r1 r2;subst r2;obtain⟨a,cap,e3,hcap,hr⟩:=r1;subst e3;have:cargs= #[.slice a l.length cap,.string ⟨sep.toArray⟩]:=by apply eT.1;exact e1
    subst this;have hm:(xs.map fun x=>(⟨x.toArray⟩:ByteArray)).map (·.data.toList)=xs:=by rw[cV];exact List.map_id'' (fun x=>rfl) xs
    rcases hr with hr|⟨b,off,sz,us,rfl,hsz,hp,hel⟩
    ·rw[hl]at hr;have hx0:xs=[]:=by simpa using hr
     subst hx0;subst hl;refine(hc0 a cap _ w).mono fun e w' he=>?_;obtain⟨e4,rfl⟩:=he;exact⟨_,e4,by simp[du,bD,Lib.join_nil],Below.refl _ _⟩
    ·rw[hl]at hel;by_cases hx0:xs=[]
     ·subst hx0;subst hl;refine(hc0 _ cap _ w).mono fun e w' he=>?_;obtain⟨e4,rfl⟩:=he;exact⟨_,e4,by simp[du,bD,Lib.join_nil],Below.refl _ _⟩
     have hCb:g.C b≠[]:=by
      intro h0;rw[h0]at hp;simp at hp;subst hp;cases xs with
      |nil=>exact hx0 rfl
      |cons x r=>
       have:=wk hel 0 x rfl;simp at this
     obtain⟨cur,e,fz,q1,q2⟩:=hI.imm b hCb;have hll:l.length=(xs.map fun x=>(⟨x.toArray⟩:ByteArray)).length:=by rw[hl];simp
     rw[hll]at hcap⊢;refine(hc b off cap _ ⟨sep.toArray⟩ w (fun j x hx=>?_) (aS.1 q1).1 (by simpa using hn.1) hcap (by rw[hm];exact hn.2)).mono fun e w' he=>?_
     ·rw[bE,aj]at hx;obtain⟨x',hx1,rfl⟩:=hx;have hu:=wk hel j x' hx1;have h3:=eJ hp hu;rw[cw]at h3;have h4:=eJ q2 h3;unfold World.cell?;simp only[q1];simpa using h4
     ·rw[hm]at he;exact⟨_,he.1,by simp only[du,bD],he.2⟩
   ·cases h
  ·cases h
 ·cases h
end
def ia:List V->Hp->Option (V×Hp)
 |[.d (.str s),.d (.int .u8 c)],H=>some (.d (.int .i64 (Lib.indexByte s c.toNat.toUInt8)),H)
 |_,_=>none
def lA:List V->Hp->Option (V×Hp)
 |[.d (.str s),.d (.int .i64 b),.d (.int .i64 n)],H=>if(b=10/\n=64)/\s.length<=281474976710656 then
    (match Lib.parseUintB 64 s with
      | .ok u=>some (.tup [.d (.int .u64 u),.ifc true],H)
      | .range=>some (.tup [.d (.int .u64 18446744073709551615),.ifc false],H)
      |_=>some (.tup [.d (.int .u64 0),.ifc false],H)) else none
 |_,_=>none
def pL (s:ByteArray):Nat->Nat->Int
 |0,_=> -1
 |f+1,pos=>if pos < s.size then(if Utf8.decode s pos=(65533,1) then(pos:Int) else pL s f (pos+(Utf8.decode s pos).2)) else -1
def rA:List V->Hp->Option (V×Hp)
 |[.d (.str s)],H=>some (.d (.int .i64 (pL ⟨s.toArray⟩ s.length 0)),H)
 |_,_=>none
def BC (s:ByteArray):Nat×Nat:=if s.size=0 then(65533,0) else Utf8.decode s 0
def kY:List V->Hp->Option (V×Hp)
 |[.d (.str s)],H=>some (.tup [.d (.int .i32 (BC ⟨s.toArray⟩).1),.d (.int .i64 (BC ⟨s.toArray⟩).2)],H)
 |_,_=>none
section
variable {P:Program} {cx:Cx}
theorem tp {f:Nat} {args:List V} {H:Hp} {r:V} (hu:∀ n,r.und n=true) (hfn:si P f)
 (hc:∀ g w (cargs:Array Value),Inv cx g H w->bN g H args cargs.toList->Calls P f cargs w fun e w'=> ∃ x,e= .returned x/\bW g H r x/\Below w.heap.size w w'):dw P cx f args H r H:=by
 refine⟨hfn,fun g w cargs hI ra ua=>(hc g w cargs hI ra).mono fun e w' he=>?_⟩;obtain⟨x,h1,h2,h3⟩:=he;obtain⟨k1,k2⟩:=hI.below h3;exact⟨g,x,h1,k1,h2,hu _,k2⟩
theorem Bg {f:Nat} (hf:si P f)
 (hc:∀ (s:ByteArray) (c:Int) (w:World),Calls P f #[.string s,.int .u8 c] w fun e w'=>e= .returned (.int .i64 (Lib.indexByte s.data.toList c.toNat.toUInt8))/\w'=w):
 ∀ args H r H',ia args H=some (r,H')->dw P cx f args H r H':=by
 intro args H r H' h;unfold ia at h;split at h
 ·rename_i H0 s c;cases h;refine zA hf fun g w cargs hI ra=>?_;obtain⟨ys,e1,r1⟩:=qO ra;obtain⟨zs,e2,r2⟩:=ub r1;rw[qP r2]at e2;rw[e2]at e1;have:cargs= #[.string ⟨s.toArray⟩,.int .u8 c]:=by apply eT.1;exact e1
  subst this;refine(hc ⟨s.toArray⟩ c w).mono fun e w' he=>?_;obtain⟨e2,rfl⟩:=he;exact⟨_,e2,by simp only[du,bD],Below.refl _ _⟩
 ·cases h
theorem O5 {f:Nat} (hf:si P f) {T:World->Prop} (hT:∀ g H w,Inv cx g H w->T w)
 (hc:∀ (s:ByteArray) (w:World),T w->Calls P f #[.string s] w fun e w'=>e= .returned (.int .i64 (pL s s.size 0))/\Below w.heap.size w w'):
 ∀ args H r H',rA args H=some (r,H')->dw P cx f args H r H':=by
 intro args H r H' h;unfold rA at h;split at h
 ·rename_i H0 s;cases h;refine zA hf fun g w cargs hI ra=>?_;obtain⟨ys,e1,r1⟩:=qO ra;rw[qP r1]at e1;have:cargs= #[.string ⟨s.toArray⟩]:=by apply eT.1;exact e1
  subst this;refine(hc ⟨s.toArray⟩ w (hT g H w hI)).mono fun e w' he=>?_;obtain⟨e2,e3⟩:=he;have e4:(⟨s.toArray⟩:ByteArray).size=s.length:=by simp[ByteArray.size]
  rw[e4]at e2;exact⟨_,e2,by simp only[du,bD],e3⟩
 ·cases h
theorem HZ {f:Nat} (hf:si P f) {T:World->Prop} (hT:∀ g H w,Inv cx g H w->T w)
 (hc:∀ (s:ByteArray) (w:World),T w->Calls P f #[.string s] w fun e w'=>e= .returned (.tuple #[.int .i32 (BC s).1,.int .i64 (BC s).2])/\Below w.heap.size w w'):
 ∀ args H r H',kY args H=some (r,H')->dw P cx f args H r H':=by
 intro args H r H' h;unfold kY at h;split at h
 ·rename_i H0 s;cases h;refine tp (fun _=>rfl) hf fun g w cargs hI ra=>?_;obtain⟨ys,e1,r1⟩:=qO ra;rw[qP r1]at e1;have:cargs= #[.string ⟨s.toArray⟩]:=by apply eT.1;exact e1
  subst this;refine(hc ⟨s.toArray⟩ w (hT g H w hI)).mono fun e w' he=>?_;refine⟨_,he.1,?_,he.2⟩;simp only[bW,bN];exact⟨_,rfl,_,_,rfl,by simp only[du,bD],_,_,rfl,by simp only[du,bD],rfl⟩
 ·cases h
def B9 (cx:Cx) (i:Nat):Prop:=∃ ev t fz,cx.fx i=some (.cells #[ev] t fz)/\(ev= .nilIface\/∃ te pe,ev= .iface te pe)
theorem B9.cell {i:Nat} (h:B9 cx i) {g:Gh} {H:Hp} {w:World} (hI:Inv cx g H w):∃ ev,w.cell? ⟨i,0,none⟩=some ev/\(ev= .nilIface\/∃ te pe,ev= .iface te pe):=by
 obtain⟨ev,t,fz,h1,h2⟩:=h;refine⟨ev,?_,h2⟩;unfold World.cell?;simp[(hI.fix i _ h1).1]
theorem Jy {f i j:Nat} (hf:si P f) (h1:B9 cx i) (h2:B9 cx j)
 (hok:∀ (s:ByteArray),s.size<=281474976710656->∀ (u:Nat),Lib.parseUintB 64 s.data.toList= .ok u->∀ (w:World),Calls P f #[.string s,.int .i64 10,.int .i64 64] w fun e w'=>e= .returned (.tuple #[.int .u64 u,.nilIface])/\Below w.heap.size w w')
 (hsy:∀ (s:ByteArray),s.size<=281474976710656->(∀ u,Lib.parseUintB 64 s.data.toList≠ .ok u)->Lib.parseUintB 64 s.data.toList≠ .range->∀ (ev:Value) (w:World),w.cell? ⟨i,0,none⟩=some ev->(ev= .nilIface\/∃ te pe,ev= .iface te pe)->Calls P f #[.string s,.int .i64 10,.int .i64 64] w fun e w'=> ∃ t p,e= .returned (.tuple #[.int .u64 0,.iface t p])/\Below w.heap.size w w')
 (hra:∀ (s:ByteArray),s.size<=281474976710656->Lib.parseUintB 64 s.data.toList= .range->∀ (ev:Value) (w:World),w.cell? ⟨j,0,none⟩=some ev->(ev= .nilIface\/∃ te pe,ev= .iface te pe)->Calls P f #[.string s,.int .i64 10,.int .i64 64] w fun e w'=> ∃ t p,e= .returned (.tuple #[.int .u64 18446744073709551615,.iface t p])/\Below w.heap.size w w'):
 ∀ args H r H',lA args H=some (r,H')->dw P cx f args H r H':=by
 intro args H r H' h;unfold lA at h;split at h
 ·rename_i H0 s b n;split at h
  ·rename_i hn;obtain⟨⟨rfl,rfl⟩,hlen⟩:=hn;have hsz:(⟨s.toArray⟩:ByteArray).size<=281474976710656:=by simpa [ByteArray.size] using hlen
   have hargs:∀ {g:Gh} {cargs:Array Value},bN g H [.d (.str s),.d (.int .i64 10),.d (.int .i64 64)] cargs.toList->cargs= #[.string ⟨s.toArray⟩,.int .i64 10,.int .i64 64]:=by
    intro g cargs ra;obtain⟨ys,e1,r1⟩:=qO ra;obtain⟨zs,e2,r2⟩:=ub r1;obtain⟨us,e3,r3⟩:=ub r2;rw[qP r3]at e3;rw[e3]at e2;rw[e2]at e1;apply eT.1;exact e1
   have rep:∀ (g:Gh) (u:Int) (b:Bool) (y:Value),((b=true/\y= .nilIface)\/(b=false/\∃ t p,y= .iface t p))->bW g H (.tup [.d (.int .u64 u),.ifc b]) (.tuple #[.int .u64 u,y]):=by
    intro g u b y hy;simp only[bW,bN];exact⟨_,rfl,_,_,rfl,by simp only[du,bD],_,_,rfl,hy,rfl⟩
   split at h
   ·rename_i u hp;cases h;refine tp (fun _=>rfl) hf fun g w cargs hI ra=>?_;rw[hargs ra];refine(hok ⟨s.toArray⟩ hsz u hp w).mono fun e w' he=>?_;exact⟨_,he.1,rep g u true _ (.inl ⟨rfl,rfl⟩),he.2⟩
   ·rename_i hp;cases h;refine tp (fun _=>rfl) hf fun g w cargs hI ra=>?_;rw[hargs ra];obtain⟨ev,hv,hev⟩:=h2.cell hI;refine(hra ⟨s.toArray⟩ hsz hp ev w hv hev).mono fun e w' he=>?_;obtain⟨t,p,h3,h4⟩:=he;exact⟨_,h3,rep g _ false _ (.inr ⟨rfl,t,p,rfl⟩),h4⟩
   ·rename_i hp1 hp2;cases h;refine tp (fun _=>rfl) hf fun g w cargs hI ra=>?_;rw[hargs ra];obtain⟨ev,hv,hev⟩:=h1.cell hI;refine(hsy ⟨s.toArray⟩ hsz hp1 hp2 ev w hv hev).mono fun e w' he=>?_;obtain⟨t,p,h3,h4⟩:=he;exact⟨_,h3,rep g 0 false _ (.inr ⟨rfl,t,p,rfl⟩),h4⟩
  ·cases h
 ·cases h
end
def pU:List V->Hp->Option (V×Hp)
 |[.d (.str s),.d (.str p)],H=>if s.length < 4294967281 then some (.tup [.d (.str (Lib.cut s p).1),.d (.str (Lib.cut s p).2.1),.d (.bool (Lib.cut s p).2.2)],H) else none
 |_,_=>none
section
variable {P:Program} {cx:Cx}
theorem below_drewN (w:World) (n:Nat):Below w.heap.size w (w.drewN n):=by
 induction n with
 |zero=>exact Below.refl _ w
 |succ n ih=>first|exact ih.drew|exact ih
theorem SG {f:Nat} (hf:si P f) {T:World->Prop} (hT:∀ g H w,Inv cx g H w->T w)
 (hc:∀ (s p:ByteArray) (w:World),s.size < 4294967281->T w->Calls P f #[.string s,.string p] w fun e w'=>e= .returned (.tuple #[.string ⟨(Lib.cut s.data.toList p.data.toList).1.toArray⟩,.string ⟨(Lib.cut s.data.toList p.data.toList).2.1.toArray⟩,.bool (Lib.cut s.data.toList p.data.toList).2.2])/\∃ n,w'=w.drewN n):
 ∀ args H r H',pU args H=some (r,H')->dw P cx f args H r H':=by
 intro args H r H' h;unfold pU at h;split at h
 ·rename_i H0 s p;split at h
  ·rename_i hs;cases h;refine tp (fun _=>rfl) hf fun g w cargs hI ra=>?_;obtain⟨ys,e1,r1⟩:=qO ra;obtain⟨zs,e2,r2⟩:=qO r1;rw[qP r2]at e2;rw[e2]at e1;have:cargs= #[.string ⟨s.toArray⟩,.string ⟨p.toArray⟩]:=by apply eT.1;exact e1
   subst this;refine(hc ⟨s.toArray⟩ ⟨p.toArray⟩ w (by simpa [ByteArray.size] using hs) (hT g H w hI)).mono fun e w' he=>?_;obtain⟨e3,k,rfl⟩:=he;refine⟨_,e3,?_,below_drewN w k⟩;simp only[bW,bN];exact⟨_,rfl,_,_,rfl,by simp only[du,bD],_,_,rfl,by simp only[du,bD],_,_,rfl,by simp only[du,bD],rfl⟩
  ·cases h
 ·cases h
end
def pF (F:List V->Hp->Option (V×Hp)):Prop:=∀ a h r h',F a h=some (r,h')->br 0 a=true/\r.und 0=true/\h'=h/\∀ H,F a H=some (r,H)
theorem GA:pF nD:=by
 intro a h r h' hh;unfold nD at hh;split at hh
 ·split at hh
  ·rename_i xs hx;split at hh
   ·rename_i hc;cases hh;exact⟨rfl,rfl,rfl,fun H=>by simp only[nD,hx,ay hc]⟩
   ·cases hh
  ·cases hh
 ·cases hh
theorem Jt:pF pT:=by
 intro a h r h' hh;unfold pT at hh;split at hh
 ·split at hh
  ·rename_i hc;cases hh;exact⟨rfl,rfl,rfl,fun H=>by simp only[pT,ay hc]⟩
  ·cases hh
 ·cases hh
theorem Ju:pF pU:=by
 intro a h r h' hh;unfold pU at hh;split at hh
 ·split at hh
  ·rename_i hc;cases hh;exact⟨rfl,rfl,rfl,fun H=>by simp only[pU,ay hc]⟩
  ·cases hh
 ·cases hh
theorem ye:pF ia:=by
 intro a h r h' hh;unfold ia at hh;split at hh
 ·cases hh;exact⟨rfl,rfl,rfl,fun H=>rfl⟩
 ·cases hh
end Go.Vm
set_option maxRecDepth 100000
namespace Go.Vm.Ite
open Go Go.Vm Go.Proofs
theorem K4 (cx:Cx) (F:Nat->Option dF) (hF:∀ f e,F f=some e->match e with| .prim p=> ∀ args H r H',p args H=some (r,H')->dw Tryz.prog cx f args H r H'| .code _=>False):eS Tryz.prog ⟨cx,my F⟩:=a4m cx hF
theorem QX (cx:Cx) (F:Nat->Option dF) (hF:∀ f e,F f=some e->match e with| .prim p=>pF p| .code _=>False):ud ⟨cx,my F⟩:=by
  constructor
  ·intro f G h;rcases wJ h with⟨q,_,e⟩|h
   ·cases e
   ·exact hF _ _ h
  ·intro f vf h;rcases wJ h with⟨q,_,e⟩|h
   ·cases e;exact q.cst
   ·exact absurd (hF _ _ h) id
end Go.Vm.Ite

namespace Go.Vm.Lex
def a1z (c:UInt8):Bool:=decide (97<=c.toNat/\c.toNat<=122)||decide (65<=c.toNat/\c.toNat<=90)||decide (c.toNat=95)
def vX (c:UInt8):Bool:=decide (48<=c.toNat/\c.toNat<=57)
def mS (c:UInt8):Bool:=a1z c||vX c
def IU:List (List UInt8):=[[102,110],[115,116,114,117,99,116],[101,110,117,109],[108,101,116],[109,117,116],[119,104,105,108,101],[105,102],[101,108,115,101],[109,97,116,99,104],[114,101,116,117,114,110],[98,114,101,97,107],[99,111,110,116,105,110,117,101],[116,114,117,101],[102,97,108,115,101],[105,54,52],[98,111,111,108],[66,111,120]]
def sj (s:List UInt8):Bool:=decide (s∈IU)
def hd0:List UInt8->UInt8
 |[]=>0
 |c::_=>c
def qg (s:List UInt8):Bool:=decide (s≠[]) && decide (s≠[95]) && !vX (hd0 s) && s.all mS
def de (s:List UInt8):Bool:=qg s && decide (s.length<=64) && !sj s
def dS (s:List UInt8):Nat:=(s.takeWhile mS).length
theorem qC (c:UInt8) (r:List UInt8):dS (c::r)=if mS c then dS r+1 else 0:=by
 unfold dS;rw[kH];split<;>simp
theorem uC:∀ s:List UInt8,dS s<=s.length
 |[]=>ai _
 |c::r=>by rw[qC];split<;>simp[uC r]
theorem M8 {s:List UInt8} {i:Nat} {c:UInt8} (h:s[i]? =some c):dS (s.drop i)=if mS c then dS (s.drop (i+1))+1 else 0:=by
 obtain⟨hi,he⟩:=az.1 h;rw[bV hi,he,qC]
theorem P2 {s:List UInt8} {i:Nat} (h:s.length<=i):dS (s.drop i)=0:=by rw[bU h];rfl
end Go.Vm.Lex
namespace Go.Vm.Ip
open Go.Vm.Lex
abbrev S:=List UInt8
structure Xc where
 n:S
 t:S
structure TA where
 n:S
 fs:List Xc
structure Fnc where
 n:S
 ps:List Xc
 ms:List Bool
 r:S
 d:Int
structure Its where
 ss:List TA
 es:List TA
 fs:List Fnc
instance:Inhabited Xc:=⟨⟨[],[]⟩⟩
instance:Inhabited TA:=⟨⟨[],[]⟩⟩
instance:Inhabited Fnc:=⟨⟨[],[],[],[],0⟩⟩
def pos (l:List S) (s:S):Option Nat:=l.findIdx? (· ==s)
def nS (x:Its):List S:=x.ss.map TA.n
def nE (x:Its):List S:=x.es.map TA.n
end Go.Vm.Ip
namespace Go.Vm
@[simp] theorem a6i (a b:V) (h:Hp):GC (.d (.bool true)) a b h=some (a,h):=rfl
@[simp] theorem a6j (a b:V) (h:Hp):GC (.d (.bool false)) a b h=some (b,h):=rfl
theorem It:∀ l:List D,kC (l.map V.d)=some l
 |[]=>rfl
 |x::l=>by simp[kC,It l]
@[simp] theorem Dl (l:List D):kb (l.map V.d)= .d (.agg l):=by simp only[kb,It]
@[simp] theorem a1q (n off:Nat) (l:List D):gI (some n) (l.map V.d) off=if off+n<=l.length then some (.d (.agg ((l.drop off).take n))) else none:=by
 simp only[gI,aE];rw[<-nv,<-eW,Dl]
@[simp] theorem Yz (off:Nat) (l:List D):gI none (l.map V.d) off=(l[off]?).map V.d:=by simp[gI]
theorem Nr (off:Nat) (l:List V):gI none l off=l[off]? :=rfl
theorem Jw (n off:Nat) (l:List V):gI (some n) l off=if off+n<=l.length then some (kb ((l.drop off).take n)) else none:=rfl
def Ew (o:Option Ob) (n:Option Nat) (off:Nat):Option V:=match o with
 |some (.box c)=>gI n c off
 |some (.frz c)=>gI n (c.map V.d) off
 |_=>none
@[simp] theorem JK (c:List V) (n:Option Nat) (off:Nat):Ew (some (.box c)) n off=gI n c off:=rfl
@[simp] theorem JJ (c:List D) (n:Option Nat) (off:Nat):Ew (some (.frz c)) n off=gI n (c.map V.d) off:=rfl
@[simp] theorem Dn (H:Hp) (n:Option Nat) (id off:Nat):o8 H n (.ptr id off)=Ew H[id]? n off:=by
 simp only[o8,mc,Ew];cases H[id]? with
 |none=>rfl
 |some o=>cases o<;>rfl
@[simp] theorem a7h (H:Hp) (n:Option Nat) (l:List D) (off:Nat):o8 H n (.ro l off)=gI n (l.map V.d) off:=rfl
def LC (b:Nat) (H:Hp) (n id off:Nat) (x:V) (o:Option Ob):Option Hp:=match o with
 |some (.box c)=>if x.cells.length=n/\off+n<=c.length/\x.cells.all V.one/\(br id x.cells||decide (b<=id)||nf c off x.cells) then some (H.set id (.box (putAt c off x.cells))) else none
 |_=>none
@[simp] theorem WG (b:Nat) (H:Hp) (n id off:Nat) (x:V) (c:List V):LC b H n id off x (some (.box c))=if x.cells.length=n/\off+n<=c.length/\x.cells.all V.one/\(br id x.cells||decide (b<=id)||nf c off x.cells) then some (H.set id (.box (putAt c off x.cells))) else none:=rfl
@[simp] theorem XS (b:Nat) (H:Hp) (n id off:Nat) (x:V):sW b H n (.ptr id off) x=LC b H n id off x H[id]? :=rfl
@[simp] theorem b0r:kC []=some []:=rfl
@[simp] theorem a3e (x:D) (l:List V):kC (.d x::l)=(kC l).map (x:: ·):=rfl
def Te (o:Option (List D)) (l:List V):V:=match o with|some ds=> .d (.agg ds)|none=> .agg l
@[simp] theorem a0p (ds:List D) (l:List V):Te (some ds) l= .d (.agg ds):=rfl
@[simp] theorem a0q (l:List V):Te none l= .agg l:=rfl
@[simp] theorem b2c:kb []= .d (.agg []):=rfl
@[simp] theorem b2b (x:V) (l:List V):kb (x::l)=Te (kC (x::l)) (x::l):=rfl
@[simp] theorem b0p (i o:Nat) (l:List V):kC (.ptr i o::l)=none:=rfl
@[simp] theorem b0o (i o:Nat) (l:List V):kC (.row i o::l)=none:=rfl
@[simp] theorem a3d (l:List V):kC (.nils::l)=none:=rfl
@[simp] theorem b0q (l:List V):kC (.nul::l)=none:=rfl
@[simp] theorem b2z (f:Nat) (c l:List V):kC (.fn f c::l)=none:=rfl
attribute [simp] Kz a9k
@[simp] theorem a1o (c:List V) (n:Nat):putAt c n []=c:=by cases c<;>cases n<;>rfl
@[simp] theorem Yi (c v:V) (cs vs:List V):putAt (c::cs) 0 (v::vs)=v::putAt cs 0 vs:=rfl
@[simp] theorem Yj (c v:V) (cs vs:List V) (n:Nat):putAt (c::cs) (n+1) (v::vs)=c::putAt cs n (v::vs):=rfl
@[simp] theorem Jr:∀ (c v:List V),v.length=c.length->putAt c 0 v=v
 |[],[],_=>rfl
 |[],_::_,h=>by simp at h
 |_::_,[],h=>by simp at h
 |c::cs,v::vs,h=>by simp[Jr cs vs (by simpa using h)]
@[simp] theorem a1s (n:Nat):fW n []=true:=rfl
@[simp] theorem a1u (n:Nat) (c:List V) (l:Hp):fW n (.box c::l)=(br n c && fW n l):=rfl
@[simp] theorem a1t (n:Nat) (c:List D) (l:Hp):fW n (.frz c::l)=fW n l:=rfl
@[simp] theorem a1r (n z:Nat) (c:List D) (l:Hp):fW n (.row z c::l)=fW n l:=rfl
open Classical in
noncomputable def pre (h h':Hp):Bool:=decide (∃ l,h'=h++l)
@[simp] theorem pre_nil (h:Hp):pre [] h=true:=by simp[pre]
@[simp] theorem a6d (h:Hp):pre h h=true:=by simp[pre]
@[simp] theorem b1t (h l:Hp):pre h (h++l)=true:=by simp[pre]
@[simp] theorem a6e (o:Ob) (h h':Hp):pre (o::h) (o::h')=pre h h':=by simp[pre]
@[simp] theorem a6f (h l l':Hp):pre (h++l) (h++l')=pre l l':=by simp[pre]
theorem Vl (h h':Hp):grew h h'=(pre h h' && fW h'.length (h'.drop h.length)):=rfl
@[simp] theorem Zh (k:IntKind) (n:Int):gy (.d (.int k n))=if 0<=n then some n.toNat else none:=rfl
theorem NG (v:V):oneOf [v]=v:=rfl
theorem NF (u v:V) (l:List V):oneOf (u::v::l)= .tup (u::v::l):=rfl
@[simp] theorem O7 (n:Nat):∀ l:List D,br n (l.map V.d)=true
 |[]=>rfl
 |x::l=>by simp[O7 n l]
@[simp] theorem a1l (e:Env) (h:Hp):jC e h []=some []:=rfl
def a5u (v:Option V) (vs:Option (List V)):Option (List V):=match v,vs with|some v,some vs=>some (v::vs)|_,_=>none
@[simp] theorem C5 (v:V) (vs:List V):a5u (some v) (some vs)=some (v::vs):=rfl
@[simp] theorem Av (e:Env) (h:Hp) (r:sK) (l:List sK):jC e h (r::l)=a5u (Aw e h r) (jC e h l):=rfl
@[simp] theorem Qc (e:Env) (h:Hp) (t:Nat):Aw e h (.tmp t)=some (bP e t):=rfl
@[simp] theorem Nf (e:Env) (h:Hp) (t:Nat) (n:Option Nat):Aw e h (.cell t n)=o8 h n (bP e t):=rfl
def lv (keep:Bool) (h0:Nat) (h:Hp) (r:Option (List V)):Option (V×Hp):=match r with
 |none=>none
 |some vs=>if keep then some (oneOf vs,h) else if br h0 (vs.map (toArg h)) then some (oneOf (vs.map (toArg h)),h.take h0) else none
@[simp] theorem UQ (h0:Nat) (h:Hp) (vs:List V):lv false h0 h (some vs)=if br h0 (vs.map (toArg h)) then some (oneOf (vs.map (toArg h)),h.take h0) else none:=rfl
@[simp] theorem b2d (h0:Nat) (h:Hp) (vs:List V):lv true h0 h (some vs)=some (oneOf vs,h):=rfl
@[simp] theorem Rm (vf:kK) (h0:Nat) (s:St):leave vf h0 s=lv vf.keep h0 s.h (jC s.e s.h vf.res):=by
 unfold leave lv;cases jC s.e s.h vf.res<;>rfl
attribute [simp] Vl NG NF Nr
attribute [simp low] Jw
@[simp] theorem a1v (l:List D) (n k:Nat):kb (((l.map V.d).drop n).take k)= .d (.agg ((l.drop n).take k)):=by rw[<-nv,<-eW,Dl]
def lG:Nat->List V->Env
 |_,[]=>[]
 |k,v::l=>(k,v)::lG (k+1) l
theorem xq:∀ (l:List V) (k:Nat),lG k l=(List.range' k l.length).map fun i=>(i,l.getD (i - k) .undef)
  |[],k=>rfl
  |v::l,k=>by
   simp only[lG,aw,fX,aB,dR,fR,bS,true_and];rw[xq l (k+1)];apply bJ;intro i hi;have:=List.mem_range'_1.1 hi;rw[show i - k=(i - (k+1))+1 by omega,ir]
@[simp] theorem gB (l:List V):cJ l=lG 0 l:=by rw[xq,cJ,eD];rfl
@[simp] theorem Tt (k:Nat):lG k []=[]:=rfl
@[simp] theorem Sl (k:Nat) (v:V) (l:List V):lG k (v::l)=(k,v)::lG (k+1) l:=rfl
def a0l (k:IntKind) (a b:Int):Int:=k.wrap (BitVec.ofInt k.bits a &&& BitVec.ofInt k.bits b).toNat
def orI (k:IntKind) (a b:Int):Int:=k.wrap (BitVec.ofInt k.bits a|||BitVec.ofInt k.bits b).toNat
def Xh (k:IntKind) (a b:Int):Int:=k.wrap (BitVec.ofInt k.bits a ^^^ BitVec.ofInt k.bits b).toNat
def Z9 (k:IntKind) (a b:Int):Int:=k.wrap (BitVec.ofInt k.bits a &&& ~~~BitVec.ofInt k.bits b).toNat
def a5i (k:IntKind) (a b:Int):Int:=k.wrap (a*2 ^ (min b.toNat k.bits))
def a5h (k:IntKind) (a b:Int):Int:=a.fdiv (2 ^ (min b.toNat k.bits))
section
variable (k k':IntKind) (a b:Int)
@[simp] theorem b0f:fJ .add (.d (.int k a)) (.d (.int k b))=some (.d (.int k (k.wrap (a+b)))):=by simp[fJ]
@[simp] theorem a9r:fJ .sub (.d (.int k a)) (.d (.int k b))=some (.d (.int k (k.wrap (a - b)))):=by simp[fJ]
@[simp] theorem a9x:fJ .mul (.d (.int k a)) (.d (.int k b))=some (.d (.int k (k.wrap (a*b)))):=by simp[fJ]
@[simp] theorem a9v:fJ .quo (.d (.int k a)) (.d (.int k b))=if b=0 then none else some (.d (.int k (k.wrap (a.tdiv b)))):=by by_cases h:b=0<;>simp[fJ,h]
@[simp] theorem a9u:fJ .rem (.d (.int k a)) (.d (.int k b))=if b=0 then none else some (.d (.int k (a.tmod b))):=by by_cases h:b=0<;>simp[fJ,h]
@[simp] theorem b0e:fJ .and (.d (.int k a)) (.d (.int k b))=some (.d (.int k (a0l k a b))):=by simp[fJ,xH,a0l]
@[simp] theorem b2x:fJ .or (.d (.int k a)) (.d (.int k b))=some (.d (.int k (orI k a b))):=by simp[fJ,xH,orI]
@[simp] theorem a9q:fJ .xor (.d (.int k a)) (.d (.int k b))=some (.d (.int k (Xh k a b))):=by simp[fJ,xH,Xh]
@[simp] theorem b0d:fJ .andNot (.d (.int k a)) (.d (.int k b))=some (.d (.int k (Z9 k a b))):=by simp[fJ,xH,Z9]
@[simp] theorem a9t:fJ .shl (.d (.int k a)) (.d (.int k' b))=if 0<=b then some (.d (.int k (a5i k a b))) else none:=rfl
@[simp] theorem a9s:fJ .shr (.d (.int k a)) (.d (.int k' b))=if 0<=b then some (.d (.int k (a5h k a b))) else none:=rfl
@[simp] theorem b0c:fJ .eql (.d (.int k a)) (.d (.int k b))=some (.d (.bool (decide (a=b)))):=by simp[fJ];by_cases h:a=b<;>simp[h]
@[simp] theorem a9w:fJ .neq (.d (.int k a)) (.d (.int k b))=some (.d (.bool (!decide (a=b)))):=by simp[fJ];by_cases h:a=b<;>simp[h,bne]
@[simp] theorem a9y:fJ .lss (.d (.int k a)) (.d (.int k b))=some (.d (.bool (decide (a < b)))):=by simp[fJ]
@[simp] theorem a9z:fJ .leq (.d (.int k a)) (.d (.int k b))=some (.d (.bool (decide (a<=b)))):=by simp[fJ]
@[simp] theorem b0a:fJ .gtr (.d (.int k a)) (.d (.int k b))=some (.d (.bool (decide (b < a)))):=by simp[fJ]
@[simp] theorem b0b:fJ .geq (.d (.int k a)) (.d (.int k b))=some (.d (.bool (decide (b<=a)))):=by simp[fJ]
@[simp] theorem a2z (s t:List UInt8):fJ .add (.d (.str s)) (.d (.str t))=if s.length+t.length<=9223372036854775807 then some (.d (.str (s++t))) else none:=rfl
@[simp] theorem a2y (s t:List UInt8):fJ .eql (.d (.str s)) (.d (.str t))=some (.d (.bool (decide (s=t)))):=by simp[fJ];by_cases h:s=t<;>simp[h]
@[simp] theorem a2x (s t:List UInt8):fJ .neq (.d (.str s)) (.d (.str t))=some (.d (.bool (!decide (s=t)))):=by simp[fJ];by_cases h:s=t<;>simp[h]
@[simp] theorem b1m:OH .neg (.d (.int k a))=some (.d (.int k (k.wrap (0 - a)))):=rfl
@[simp] theorem b1l (b:Bool):OH .not (.d (.bool b))=some (.d (.bool !b)):=rfl
end
end Go.Vm
namespace Go.Vm
theorem eK {n:Int} (h: -9223372036854775808<=n/\n<=9223372036854775807):IntKind.i64.wrap n=n:=by
 simp only[IntKind.wrap,IntKind.bits,IntKind.signed];simp;omega
theorem Ou {a b:Nat} (h:a=b):Nat.beq a b=true:=by subst h;exact Nat.beq_refl a
theorem KE {a b:Nat} (h:a≠b):Nat.beq a b=false:=by
 cases hb:Nat.beq a b with
 |false=>rfl
 |true=>exact absurd (Nat.eq_of_beq_eq_true hb) h
noncomputable def gE (e:Env):Nat->V:=List.rec (motive:=fun _=>Nat->V) (fun _=> .undef) (fun p _ ih i=>match Nat.beq p.1 i with|true=>p.2|false=>ih i) e
theorem oC:∀ (e:Env) (i:Nat),gE e i=bP e i
 |[],_=>rfl
 |(k,v)::r,i=>by
  show(match Nat.beq k i with|true=>v|false=>gE r i)=bP ((k,v)::r) i;unfold bP;by_cases h:k=i
  ·rw[ay h,Ou h]
  ·rw[aA h,KE h];exact oC r i
noncomputable def gO (cx:Cx) (e:Env):eo->V
 | .t i=>gE e i
 | .c v=>v
 | .g i=> .ro (cx.gv i) 0
 | .f i=> .fn i []
theorem sx (cx:Cx) (e:Env) (o:eo):gO cx e o=di cx e o:=by cases o<;>simp only[gO,di,oC]
section
variable {α:Type}
noncomputable def da (l:List α):(List α->Prop)->Prop:=List.rec (motive:=fun _=>(List α->Prop)->Prop) (fun k=>k []) (fun a _ ih k=>ih fun r'=>k (a::r')) l
theorem cy:∀ (l:List α) (k:List α->Prop),da l k=k l
 |[],_=>rfl
 |a::r,k=>cy r fun r'=>k (a::r')
noncomputable def tE (l:List α):Nat->(Nat->Prop)->Prop:=List.rec (motive:=fun _=>Nat->(Nat->Prop)->Prop) (fun n k=>k n) (fun _ _ ih n k=>ih (n+1) k) l
theorem kU:∀ (l:List α) (n:Nat) (k:Nat->Prop),tE l n k=k (n+l.length)
 |[],_,_=>rfl
 |a::r,n,k=>by rw[show tE (a::r) n k=tE r (n+1) k from rfl,kU r,aw,eM,ja 1]
noncomputable def jr (l:List α):Nat->(α->Prop)->Prop:=List.rec (motive:=fun _=>Nat->(α->Prop)->Prop) (fun _ _=>False) (fun a _ ih n k=>match n with|0=>k a|n+1=>ih n k) l
theorem eg:∀ (l:List α) (n:Nat) (k:α->Prop),jr l n k↔∃ a,l[n]? =some a/\k a
 |[],n,k=>by rw[show jr [] n k=False from rfl];simp
 |a::r,0,k=>by rw[show jr (a::r) 0 k=k a from rfl];simp
 |a::r,n+1,k=>by rw[show jr (a::r) (n+1) k=jr r n k from rfl];simp[eg r n k]
theorem LD {l:List α} {n:Nat} {a:α} (h:l[n]? =some a) {k:α->Prop} (hk:k a):jr l n k:=(eg l n k).2 ⟨a,h,hk⟩
end
def pt (v:V) (k:V->Prop):Prop:=match v with
 | .d (.bool b)=>k (.d (.bool b))
 | .d (.int kk n)=>k (.d (.int kk n))
 | .d (.str s)=>k (.d (.str s))
 | .d (.sl l)=>k (.d (.sl l))
 | .d (.agg l)=>k (.d (.agg l))
 | .agg l=>k (.agg l)
 | .tup l=>k (.tup l)
 | .nils=>k .nils
 | .row i n=>k (.row i n)
 | .arr i o n=>k (.arr i o n)
 | .ptr i o=>k (.ptr i o)
 | .ro l o=>k (.ro l o)
 | .fn f c=>k (.fn f c)
 | .fm f c=>k (.fm f c)
 | .nul=>k .nul
 | .nof=>k .nof
 | .ifc b=>k (.ifc b)
 | .raw x=>k (.raw x)
 | .nmp=>k .nmp
 | .nile=>k .nile
 | .mp i=>k (.mp i)
 | .undef=>k .undef
theorem uR (v:V) (k:V->Prop):pt v k=k v:=by
 cases v with
 |d x=>cases x<;>rfl
 |_=>rfl
def jw (b:Bool) (p:Prop):Prop:=match b with|true=>p|false=>False
theorem eU (b:Bool) (p:Prop):jw b p↔b=true/\p:=by cases b<;>simp[jw]
theorem Kt {b:Bool} {p:Prop} (h:b=true) (hp:p):jw b p:=(eU b p).2 ⟨h,hp⟩
noncomputable def VW (l:List V) (k:V->Prop):Prop:=match kC l with
 |some ds=>da ds fun ds=>k (.d (.agg ds))
 |none=>da l fun l=>k (.agg l)
theorem ME (l:List V) (k:V->Prop):VW l k=k (kb l):=by
 unfold VW kb;cases kC l<;>simp only[cy]
noncomputable def tu (n:Option Nat) (c:List V) (off:Nat) (k:V->Prop):Prop:=match n with
 |none=>jr c off k
 |some n=>jw (Nat.ble (off+n) c.length) (VW ((c.drop off).take n) k)
theorem mN (n:Option Nat) (c:List V) (off:Nat) (k:V->Prop):tu n c off k↔∃ v,gI n c off=some v/\k v:=by
 cases n with
 |none=>exact eg ..
 |some n=>
  simp only[tu,gI,eU,ME,Nat.ble_eq];by_cases h:off+n<=c.length<;>simp[h]
noncomputable def VX (H:Hp) (l:List V):(List D->Prop)->Prop->Prop:=List.rec (motive:=fun _=>(List D->Prop)->Prop->Prop) (fun k _=>k []) (fun v _ ih k alt=>match v with
  | .d x=>ih (fun ds=>k (x::ds)) alt
  | .nils=>ih (fun ds=>k (.sl []::ds)) alt
  | .nile=>ih (fun ds=>k (.sl []::ds)) alt
  | .row id len=>jr H id fun o=>match o with
    | .row _ l=>l.length=len/\ih (fun ds=>k (.sl l::ds)) alt
    |_=>False
  |_=>alt) l
theorem Iu (H:Hp):∀ (l:List V) (k:List D->Prop) (alt:Prop),VX H l k alt->(∃ ds,xW H l=some ds/\k ds)\/alt
 |[],k,alt,h=> .inl ⟨[],rfl,h⟩
 |v::r,k,alt,h=>by
  have go:∀ x,im H v=some x->VX H r (fun ds=>k (x::ds)) alt->(∃ ds,xW H (v::r)=some ds/\k ds)\/alt:=by
    intro x hx h;rcases Iu H r _ alt h with⟨ds,h1,h2⟩|h
    ·exact .inl ⟨x::ds,by simp only[xW,hx,h1],h2⟩
    ·exact .inr h
  cases v with
  |d x=>exact go x rfl h
  |nils=>exact go _ rfl h
  |nile=>exact go _ rfl h
  |row id len=>
   have h:jr H id fun o=>match o with
     | .row _ l=>l.length=len/\VX H r (fun ds=>k (.sl l::ds)) alt
     |_=>False:=h
   obtain⟨o,ho,h⟩:=(eg ..).1 h;cases o with
   |row sz l=>
    obtain⟨h1,h2⟩:=h;exact go (.sl l) (by simp only[im,ho,h1,cU]) h2
   |_=>cases h
  |_=>exact .inr h
noncomputable def mh (H:Hp) (v:V) (k:V->Prop):Prop:=match v with
 | .d x=>k (.d x)
 | .nils=>k (.d (.sl []))
 | .nile=>k (.d (.sl []))
 | .row id len=>jr H id fun o=>match o with
   | .row _ l=>l.length=len/\k (.d (.sl l))
   |_=>False
 | .arr id off len=>jr H id fun o=>match o with
   | .frz c=>off+len<=c.length/\k (.d (.sl ((c.drop off).take len)))
   |o=>k (toArg H (.arr id off len))
 | .ptr i o=>k (.ptr i o)
 | .fn f c=>k (.fn f c)
 | .fm f c=>k (.fm f c)
 | .nul=>k .nul
 | .nof=>k .nof
 | .ifc b=>k (.ifc b)
 | .raw x=>k (.raw x)
 | .nmp=>k .nmp
 | .mp i=>k (.mp i)
 | .agg l=>VX H l (fun ds=>k (.d (.agg ds))) (k (toArg H (.agg l)))
 |v=>k (toArg H v)
theorem qQ (H:Hp) (v:V) (k:V->Prop) (h:mh H v k):k (toArg H v):=by
 unfold mh at h;cases v with
 |row id len=>
  obtain⟨o,ho,h⟩:=(eg ..).1 h;cases o with
  |row sz l=>
   obtain⟨h1,h2⟩:=h;simp only[toArg,wu,im,ho,h1,cU];exact h2
  |_=>cases h
 |arr id off len=>
  obtain⟨o,ho,h⟩:=(eg ..).1 h;cases o with
  |frz c=>
   obtain⟨h1,h2⟩:=h;simp only[toArg,wu,im,ho,ay h1];exact h2
  |_=>exact h
 |agg l=>
  rcases Iu H l _ _ h with⟨ds,h1,h2⟩|h
  ·simp only[toArg,wu,h1,aI];exact h2
  ·exact h
 |_=>exact h
noncomputable def MC (H:Hp) (v:V) (k:V->Prop):Prop:=match v with
 | .agg l=>(match l with
   |[]=>mh H (.agg []) k
   |a::q=>match q with
    |[]=>(match a with
     | .row id n=>k (.agg [.row id n])
     | .d x=>mh H (.agg [.d x]) k
     | .nils=>mh H (.agg [.nils]) k
     | .nile=>mh H (.agg [.nile]) k
     | .arr id off len=>mh H (.agg [.arr id off len]) k
     | .ptr id off=>mh H (.agg [.ptr id off]) k
     | .ro l off=>mh H (.agg [.ro l off]) k
     | .agg l=>mh H (.agg [.agg l]) k
     | .tup l=>mh H (.agg [.tup l]) k
     | .fn f c=>mh H (.agg [.fn f c]) k
     | .fm f c=>mh H (.agg [.fm f c]) k
     | .nul=>mh H (.agg [.nul]) k
     | .nof=>mh H (.agg [.nof]) k
     | .ifc b=>mh H (.agg [.ifc b]) k
     | .raw x=>mh H (.agg [.raw x]) k
     | .nmp=>mh H (.agg [.nmp]) k
     | .mp i=>mh H (.agg [.mp i]) k
     | .undef=>mh H (.agg [.undef]) k)
    |b::q=>mh H (.agg (a::b::q)) k)
 |v=>mh H v k
theorem Ox (H:Hp) (v:V) (k:V->Prop) (h:MC H v k):k (iX H v):=by
 unfold MC at h;cases v with
 |agg l=>
  cases l with
  |nil=>exact qQ H _ k h
  |cons a q=>
   cases q with
   |cons b q=>
    have e:iX H (.agg (a::b::q))=toArg H (.agg (a::b::q)):=by cases a<;>rfl
    rw[e];exact qQ H _ k h
   |nil=>
    cases a with
    |row id n=>exact h
    |_=>exact qQ H _ k h
 |_=>exact qQ H _ k h
noncomputable def zg (cx:Cx) (e:Env) (H:Hp) (l:List eo):(List V->Prop)->Prop:=List.rec (motive:=fun _=>(List V->Prop)->Prop) (fun k=>k []) (fun x _ ih k=>MC H (gO cx e x) fun v=>ih fun vs=>k (v::vs)) l
theorem mY (cx:Cx) (e:Env) (H:Hp):∀ (l:List eo) (k:List V->Prop),zg cx e H l k->k (l.map fun x=>iX H (di cx e x))
  |[],_,h=>h
  |x::r,k,h=>by
   have h:MC H (gO cx e x) fun v=>zg cx e H r fun vs=>k (v::vs):=h;have:=mY cx e H r _ (Ox _ _ _ h);rw[sx]at this;exact this
def Qp (y:eo) (b:Int) (p:Prop):Prop:=match y with
 | .c _=>jw (decide (0<=b)) p
 |_=>0<=b/\p
theorem GB (y:eo) (b:Int) (p:Prop):Qp y b p↔0<=b/\p:=by cases y<;>simp[Qp,eU]
def nzK (y:eo) (b:Int) (p:Prop):Prop:=match y with
 | .c _=>jw (decide (b≠0)) p
 |_=>b≠0/\p
theorem UE (y:eo) (b:Int) (p:Prop):nzK y b p↔b≠0/\p:=by cases y<;>simp[nzK,eU]
noncomputable def Z8 (op:BinOp) (y:eo) (vx vy:V) (k:V->Prop):Prop:=match vx,vy with
 | .d (.int k1 a),.d (.int k2 b)=>match op with
   | .shl=>Qp y b (k (.d (.int k1 (a5i k1 a b))))
   | .shr=>Qp y b (k (.d (.int k1 (a5h k1 a b))))
   | .add=>jw (decide (k1=k2)) (k (.d (.int k1 (k1.wrap (a+b)))))
   | .sub=>jw (decide (k1=k2)) (k (.d (.int k1 (k1.wrap (a - b)))))
   | .mul=>jw (decide (k1=k2)) (k (.d (.int k1 (k1.wrap (a*b)))))
   | .quo=>jw (decide (k1=k2)) (nzK y b (k (.d (.int k1 (k1.wrap (a.tdiv b))))))
   | .rem=>jw (decide (k1=k2)) (nzK y b (k (.d (.int k1 (a.tmod b)))))
   | .and=>jw (decide (k1=k2)) (k (.d (.int k1 (a0l k1 a b))))
   | .or=>jw (decide (k1=k2)) (k (.d (.int k1 (orI k1 a b))))
   | .xor=>jw (decide (k1=k2)) (k (.d (.int k1 (Xh k1 a b))))
   | .andNot=>jw (decide (k1=k2)) (k (.d (.int k1 (Z9 k1 a b))))
   | .eql=>jw (decide (k1=k2)) (k (.d (.bool (decide (a=b)))))
   | .neq=>jw (decide (k1=k2)) (k (.d (.bool (!decide (a=b)))))
   | .lss=>jw (decide (k1=k2)) (k (.d (.bool (decide (a < b)))))
   | .leq=>jw (decide (k1=k2)) (k (.d (.bool (decide (a<=b)))))
   | .gtr=>jw (decide (k1=k2)) (k (.d (.bool (decide (b < a)))))
   | .geq=>jw (decide (k1=k2)) (k (.d (.bool (decide (b<=a)))))
 | .d (.str a),.d (.str b)=>match op with
   | .add=>a.length+b.length<=9223372036854775807/\k (.d (.str (a++b)))
   | .eql=>k (.d (.bool (decide (a=b))))
   | .neq=>k (.d (.bool (!decide (a=b))))
   |_=>False
 |_,_=>False
theorem S3 (op:BinOp) (y:eo) (vx vy:V) (k:V->Prop) (h:Z8 op y vx vy k):∃ v,fJ op vx vy=some v/\k v:=by
 unfold Z8 at h;split at h
 ·rename_i k1 a k2 b
  cases op<;>simp only[GB,eU,UE,an]at h<;>first
   |(obtain⟨rfl,h0,h⟩:=h;refine⟨_,?_,h⟩;simp[h0];done)
   |(obtain⟨rfl,h⟩:=h;refine⟨_,?_,h⟩;simp;done)
   |(obtain⟨h0,h⟩:=h;refine⟨_,?_,h⟩;simp[h0];done)
 ·rename_i a b
  cases op<;>first
   |(cases h;done)
   |(obtain⟨h0,h⟩:=h;refine⟨_,?_,h⟩;simp[h0];done)
   |(refine⟨_,?_,h⟩;simp;done)
 ·cases h
noncomputable def Ra (H:Hp) (v:V) (k:List D->Prop):Prop:=match v with
 | .d (.sl l)=>k l
 | .nils=>k []
 | .nile=>k []
 | .row id len=>jr H id fun o=>match o with
   | .row _ l=>l.length=len/\k l
   |_=>False
 | .arr id off len=>jr H id fun o=>match o with
   | .frz c=>off+len<=c.length/\k ((c.drop off).take len)
   |_=>False
 |v=> ∃ l,lsize H v=some l/\k l
theorem A5 (H:Hp) (v:V) (k:List D->Prop) (h:Ra H v k):∃ l,lsize H v=some l/\k l:=by
 unfold Ra at h;split at h
 ·exact⟨_,rfl,h⟩
 ·exact⟨_,rfl,h⟩
 ·exact⟨_,rfl,h⟩
 ·rename_i id len;obtain⟨o,ho,h⟩:=(eg ..).1 h;cases o with
  |row sz l=>
   obtain⟨h1,h2⟩:=h;exact⟨l,by simp only[lsize,im,ho,h1,cU],h2⟩
  |_=>cases h
 ·rename_i id off len;obtain⟨o,ho,h⟩:=(eg ..).1 h;cases o with
  |frz c=>
   obtain⟨h1,h2⟩:=h;exact⟨_,by simp only[lsize,im,ho,ay h1],h2⟩
  |_=>cases h
 ·exact h
noncomputable def yG (cx:Cx) (e:Env) (d:Nat) (o:Option eo) (k:Nat->Prop):Prop:=match o with
 |none=>k d
 |some x=>match gO cx e x with
  | .d (.int _ n)=>Qp x n (k n.toNat)
  |_=>False
theorem r9 (cx:Cx) (e:Env) (d:Nat) (o:Option eo) (k:Nat->Prop) (h:yG cx e d o k):∃ n,bn.bound cx e d o=some n/\k n:=by
 unfold yG at h;split at h
 ·exact⟨_,rfl,h⟩
 ·rename_i x;rw[sx]at h;split at h
  ·rename_i k n hx;obtain⟨h0,h⟩:=(GB ..).1 h;exact⟨_,by simp only[bn.bound,hx,gy,ay h0],h⟩
  ·cases h
def dK (H:Hp) (v:V) (k:D->Prop):Prop:=match v with
 | .d x=>k x
 | .nils=>k (.sl [])
 | .nile=>k (.sl [])
 |v=> ∃ x,wu H v=some x/\k x
theorem Kq {H:Hp} {v:V} {k:D->Prop} (h:dK H v k):∃ x,wu H v=some x/\k x:=by
 unfold dK at h;split at h
 ·exact⟨_,rfl,h⟩
 ·exact⟨_,rfl,h⟩
 ·exact⟨_,rfl,h⟩
 ·exact h
noncomputable def dsK (cx:Cx) (e:Env) (H:Hp) (l:List eo):(List D->Prop)->Prop:=List.rec (motive:=fun _=>(List D->Prop)->Prop) (fun k=>k []) (fun x _ ih k=>dK H (gO cx e x) fun v=>ih fun vs=>k (v::vs)) l
theorem Fk {cx:Cx} {e:Env} {H:Hp}:∀ {l:List eo} {k:List D->Prop},dsK cx e H l k->∃ ds,bn.toDs' cx e H l=some ds/\k ds
 |[],_,h=>⟨[],rfl,h⟩
 |x::r,k,h=>by
  have h:dK H (gO cx e x) fun v=>dsK cx e H r fun vs=>k (v::vs):=h;obtain⟨y,hy,h⟩:=Kq h;obtain⟨ys,hys,h⟩:=Fk h;rw[sx]at hy;exact⟨y::ys,by simp only[bn.toDs',hy,hys],h⟩
noncomputable def look (l:List (Nat×Bool)):Nat->Option Bool:=List.rec (motive:=fun _=>Nat->Option Bool) (fun _=>none) (fun p _ ih i=>match Nat.beq p.1 i with|true=>some p.2|false=>ih i) l
theorem yo (g:Nat) (b:Bool) (r:List (Nat×Bool)) (i:Nat):look ((g,b)::r) i=match Nat.beq g i with|true=>some b|false=>look r i:=rfl
noncomputable def forget (l:List (Nat×Bool)):Nat->List (Nat×Bool):=List.rec (motive:=fun _=>Nat->List (Nat×Bool)) (fun _=>[]) (fun p _ ih i=>match Nat.beq p.1 i with|true=>ih i|false=>p::ih i) l
theorem Hv (g:Nat) (b:Bool) (r:List (Nat×Bool)) (i:Nat):forget ((g,b)::r) i=match Nat.beq g i with|true=>forget r i|false=>(g,b)::forget r i:=rfl
section
variable (pg:Pg)
noncomputable def wpO (kn:List (Nat×Bool)) (b:Nat) (e:Env) (H:Hp) (o:ij) (k:V->Hp->Prop):Prop:=match o with
 | .mv x=>pt (gO pg.toCx e x) fun v=>k v H
 | .pick c x y=>match(match c with| .t i=>look kn i|_=>none)with
   |some true=>pt (gO pg.toCx e x) fun v=>k v H
   |some false=>pt (gO pg.toCx e y) fun v=>k v H
   |none=>match gO pg.toCx e c with
    | .d (.bool t)=>(t=true->pt (gO pg.toCx e x) fun v=>k v H)/\(t=false->pt (gO pg.toCx e y) fun v=>k v H)
    |_=>False
 | .zbox z=>tE H 0 fun n=>da (H++[.box z]) fun H'=>k (.ptr n 0) H'
 | .box x=>da (gO pg.toCx e x).cells fun c=>jw (c.all V.one) (tE H 0 fun n=>da (H++[.box c]) fun H'=>k (.ptr n 0) H')
 | .build z ps=>jw (ps.all fun p=>(gO pg.toCx e p.2.2).cells.all V.one) (match p6 z (ps.map fun p=>(p.1,p.2.1,gO pg.toCx e p.2.2))with
   |some c=>VW c fun v=>k v H
   |none=>False)
 | .bslice sz len ps=>dsK pg.toCx e H ps fun l=>jw (Nat.beq l.length len && l.all (fun x=>x.cells.length==sz) && Nat.blt 0 sz && Nat.ble (len*sz) 16777216) (k (.d (.sl l)) H)
 | .blit sz len ps=>dsK pg.toCx e H ps fun l=>jw (Nat.beq l.length len && l.all (fun x=>x.cells.length==sz) && Nat.blt 0 sz && Nat.ble (len*sz) 16777216) (tE H 0 fun n=>da (H++[.row sz l]) fun H'=>k (.row n len) H')
 | .ld n x=>match gO pg.toCx e x with
   | .ptr id off=>jr H id fun ob=>match ob with
     | .box c=>tu n c off fun v=>k v H
     | .frz c=>tu n (c.map V.d) off fun v=>k v H
     |_=>False
   | .ro l off=>tu n (l.map V.d) off fun v=>k v H
   |_=>False
 | .st n a x=>match gO pg.toCx e a with
   | .ptr id off=>jr H id fun ob=>match ob with
     | .box c=>da (gO pg.toCx e x).cells fun xs=>jw (Nat.beq xs.length n && Nat.ble (off+n) c.length && xs.all V.one && (br id xs||Nat.ble b id||nf c off xs)) (da (putAt c off xs) fun c'=>da (H.set id (.box c')) fun H'=>k .undef H')
     |_=>False
   |_=>False
 | .bin op x y=>Z8 op y (gO pg.toCx e x) (gO pg.toCx e y) fun v=>k v H
 | .eqa neg ks x y=>match gO pg.toCx e x,gO pg.toCx e y with
   | .d (.agg c),.d (.agg d)=>jw (kindOk ks c d) (match neg with|true=>k (.d (.bool !Si c d)) H|false=>k (.d (.bool (Si c d))) H)
   |_,_=>False
 | .isnil neg x=>match gO pg.toCx e x with
   | .ifc b=>match neg with|true=>k (.d (.bool !b)) H|false=>k (.d (.bool b)) H
   |_=>False
 | .eqb neg x y=>match gO pg.toCx e x,gO pg.toCx e y with
   | .d (.bool c),.d (.bool d)=>match neg with|true=>k (.d (.bool !(c==d))) H|false=>k (.d (.bool (c==d))) H
   |_,_=>False
 | .un op x=>match op,gO pg.toCx e x with
   | .neg,.d (.int kk n)=>k (.d (.int kk (kk.wrap (0 - n)))) H
   | .not,.d (.bool t)=>k (.d (.bool !t)) H
   |_,_=>False
 | .conv kk x=>match gO pg.toCx e x with
   | .d (.int _ n)=>k (.d (.int kk (kk.wrap n))) H
   |_=>False
 | .mkfn f caps=>da (caps.map (gO pg.toCx e)) fun l=>k (.fn f l) H
 | .mkfm f caps=>da (caps.map (gO pg.toCx e)) fun l=>k (.fm f l) H
 | .fld off n x=>match gO pg.toCx e x with
   | .d (.agg c)=>tu n (c.map V.d) off fun v=>k v H
   | .agg c=>tu n c off fun v=>k v H
   |_=>False
 | .fadr off x=>match gO pg.toCx e x with
   | .ptr id o=>k (.ptr id (o+off)) H
   | .ro l o=>k (.ro l (o+off)) H
   |_=>False
 | .iadr sz x i=>match gO pg.toCx e i with
   | .d (.int _ n)=>match gO pg.toCx e x with
     | .arr id off len=>(0<=n/\n.toNat < len)/\k (.ptr id (off+n.toNat*sz)) H
     |v=>Ra H v fun l=> ∃ y,(0<=n/\l[n.toNat]? =some y)/\y.cells.length=sz/\k (.ro y.cells 0) H
   |_=>False
 | .iadra len sz x i=>match gO pg.toCx e i with
   | .d (.int _ n)=>(0<=n/\n.toNat < len)/\(match gO pg.toCx e x with
     | .ptr id o=>k (.ptr id (o+n.toNat*sz)) H
     | .ro l o=>k (.ro l (o+n.toNat*sz)) H
     |_=>False)
   |_=>False
 | .idx x i=>match gO pg.toCx e i,gO pg.toCx e x with
   | .d (.int _ n),.d (.str s)=> ∃ c,(0<=n/\s[n.toNat]? =some c)/\k (.d (.int .u8 c.toNat)) H
   |_,_=>False
 | .slcs x lo hi=>match gO pg.toCx e x with
   | .d (.str s)=>yG pg.toCx e 0 lo fun l=>yG pg.toCx e s.length hi fun h=>(l<=h/\h<=s.length)/\k (.d (.str ((s.take h).drop l))) H
   |_=>False
 | .slc sz x lo hi=>Ra H (gO pg.toCx e x) fun s=>yG pg.toCx e 0 lo fun l=>yG pg.toCx e s.length hi fun h=>(l<=h/\h<=s.length/\(lo.isNone||s.all (fun y=>y.cells.length==sz))=true)/\k (.d (.sl ((s.take h).drop l))) H
 | .ext x i=>match gO pg.toCx e x with
   | .tup l=>jr l i fun v=>k v H
   |_=>False
 | .mkm=>tE H 0 fun n=>da (H++[.map []]) fun H'=>k (.mp n) H'
 | .brow sz=>jw (Nat.blt 0 sz) (k .nile H)
 | .rN kk m kx x=>match gO pg.toCx e m with
   | .mp id=>jr H id fun ob=>match ob with
     | .map l=>(match gO pg.toCx e kx with
       | .d kd=>jw (ke kk kd) (pc kk l=true/\dK H (gO pg.toCx e x) fun x=>da (H.set id (.map (G2 kd x l))) fun H'=>k .undef H')
       |_=>False)
     |_=>False
   |_=>False
 | .mget kk ok z m kx=>match gO pg.toCx e m with
   | .mp id=>jr H id fun ob=>match ob with
     | .map l=>(match gO pg.toCx e kx with
       | .d kd=>jw (ke kk kd) (pc kk l=true/\∃ r,wV kd l=r/\k (UN ok z r) H)
       |_=>False)
     |_=>False
   |_=>False
 | .ment kk z m kx=>match gO pg.toCx e m with
   | .mp id=>jr H id fun ob=>match ob with
     | .map l=>(match gO pg.toCx e kx with
       | .d kd=>jw (ke kk kd) (pc kk l=true/\∃ r,iP kd l=r/\(match r with
         |some i=> ∃ p,l[i]? =some p/\k (.tup [.d p.2,.d (.int .i64 i)]) H
         |none=>da (H.set id (.map (l++[(kd,z)]))) fun H'=>k (.tup [.d z,.d (.int .i64 l.length)]) H'))
       |_=>False)
     |_=>False
   |_=>False
 | .mest m s x=>match gO pg.toCx e m with
   | .mp id=>jr H id fun ob=>match ob with
     | .map l=>(match gO pg.toCx e s with
       | .d (.int _ n)=>(0<=n/\n.toNat < l.length)/\dK H (gO pg.toCx e x) fun x=>da (H.set id (.map (rN n.toNat x l))) fun H'=>k .undef H'
       |_=>False)
     |_=>False
   |_=>False
 | .call f args=>zg pg.toCx e H args fun vs=> ∃ r H',cv pg f vs H=some (r,H')/\k r H'
 | .callv f args=>match gO pg.toCx e f with
   | .fn f c=>zg pg.toCx e H args fun vs=>da (vs++c) fun vs=> ∃ r H',cv pg f vs H=some (r,H')/\k r H'
   | .fm f c=>zg pg.toCx e H args fun vs=>da (c++vs) fun vs=> ∃ r H',cv pg f vs H=some (r,H')/\k r H'
   |_=>False
 | .len true x=>match gO pg.toCx e x with
   | .d (.str s)=>k (.d (.int .i64 s.length)) H
   |_=>False
 | .len false x=>match gO pg.toCx e x with
   | .d (.sl l)=>k (.d (.int .i64 l.length)) H
   | .nils=>k (.d (.int .i64 0)) H
   | .nile=>k (.d (.int .i64 0)) H
   | .row _ n=>k (.d (.int .i64 n)) H
   | .arr _ _ n=>k (.d (.int .i64 n)) H
   |_=>False
 | .app sz bytes x y=>Ra H (gO pg.toCx e y) fun ys=>((ys.all (fun y=>y.cells.length==sz))=true/\0 < sz)/\(match gO pg.toCx e x with
   | .row id len=>jr H id fun ob=>match ob with
     | .row sz' l=>(sz'=sz/\l.length=len/\roomy (len+ys.length) bytes)/\da (H.set id (.row sz (l++ys))) fun H'=>k (.row id (len+ys.length)) H'
     |_=>False
   | .nile=>(ys=[]->k .nile H)/\(ys≠[]->roomy ys.length bytes/\tE H 0 fun n=>da (H++[.row sz ys]) fun H'=>k (.row n ys.length) H')
   |v=> ∃ r H',bn pg.toCx (cv pg) b e H (.app sz bytes x y)=some (r,H')/\(v=v/\k r H'))
 | .convs x=>match gO pg.toCx e x with
   | .d (.str s)=>k (.d (.str s)) H
   |_=>False
 | .nilck x=>match gO pg.toCx e x with
   | .ptr id off=>k (.ptr id off) H
   | .fn f c=>k (.fn f c) H
   | .fm f c=>k (.fm f c) H
   |_=>False
 | .msl sz bytes z n=>match gO pg.toCx e n with
   | .d (.int _ m)=>(0<=m/\roomy m.toNat bytes)/\jw (Nat.beq z.length 1 && Nat.beq sz 1) (tE H 0 fun n0=>da (H++[.box (List.replicate m.toNat (z.headD .undef))]) fun H'=>k (.arr n0 0 m.toNat) H')
   |_=>False
 | .mm mx x y=>match gO pg.toCx e x,gO pg.toCx e y with
   | .d (.int k1 a),.d (.int k2 c)=>jw (decide (k1=k2)) (match mx with|true=>k (.d (.int k1 (max a c))) H|false=>k (.d (.int k1 (min a c))) H)
   |_,_=>False
 |o=> ∃ r H',bn pg.toCx (cv pg) b e H o=some (r,H')/\k r H'
end
def dT (kn:List (Nat×Bool)) (e:Env):Prop:=∀ i t,look kn i=some t->bP e i= .d (.bool t)
theorem dT.forget {kn:List (Nat×Bool)} {e:Env} (h:dT kn e) (d:Nat) (v:V):dT (forget kn d) ((d,v)::e):=by
 have key:∀ (kn:List (Nat×Bool)) i t,look (Vm.forget kn d) i=some t->i≠d/\look kn i=some t:=by
  intro kn;induction kn with
  |nil=>intro i t h;cases h
  |cons p r ih=>
   obtain⟨g,b⟩:=p;intro i t h;rw[Hv]at h;by_cases hg:g=d
   ·rw[Ou hg]at h;obtain⟨h1,h2⟩:=ih i t h;refine⟨h1,?_⟩;rw[yo,KE (fun e=>h1 om)];exact h2
   ·rw[KE hg]at h;simp only[yo]at h⊢;by_cases hi:g=i
    ·rw[Ou hi]at h⊢;exact⟨fun e=>hg om,h⟩
    ·rw[KE hi]at h⊢;exact ih i t h
 intro i t hi;obtain⟨h1,h2⟩:=key kn i t hi;unfold bP;rw[aA (fun e=>h1 e.symm)];exact h i t h2
theorem dT.add {kn:List (Nat×Bool)} {e:Env} (h:dT kn e) {g:Nat} {t:Bool} (hg:bP e g= .d (.bool t)):dT ((g,t)::kn) e:=by
 intro i u hi;rw[yo]at hi;by_cases hgi:g=i
 ·rw[Ou hgi]at hi;cases hi;rw[<-hgi];exact hg
 ·rw[KE hgi]at hi;exact h i u hi
theorem dT.nil (e:Env):dT [] e:=by intro i t h;cases h
section
variable {pg:Pg}
theorem TD {kn:List (Nat×Bool)} {b:Nat} {e:Env} {H:Hp} {o:ij} {k:V->Hp->Prop} (hk:dT kn e) (h:wpO pg kn b e H o k):∃ v H',bn pg.toCx (cv pg) b e H o=some (v,H')/\k v H':=by
 cases o<;>simp only[wpO,sx,uR]at h
 case mv x=>exact⟨_,_,rfl,h⟩
 case pick c x y=>
  have gen:∀ t,di pg.toCx e c= .d (.bool t)->(if t then k (di pg.toCx e x) H else k (di pg.toCx e y) H)->∃ v H',bn pg.toCx (cv pg) b e H (.pick c x y)=some (v,H')/\k v H':=by
   intro t hc hh;refine⟨if t then di pg.toCx e x else di pg.toCx e y,H,by simp only[bn,hc],?_⟩;cases t
   ·simpa using hh
   ·simpa using hh
  split at h
  ·rename_i hc;cases c with
   |t i=>exact gen true (hk i true hc) (by simpa using h)
   |_=>cases hc
  ·rename_i hc;cases c with
   |t i=>exact gen false (hk i false hc) (by simpa using h)
   |_=>cases hc
  ·split at h
   ·rename_i t hc;refine gen t hc ?_;cases t
    ·simpa using h
    ·simpa using h
   ·cases h
 case zbox z=>
  simp only[kU,cy,bt]at h;exact⟨_,_,rfl,h⟩
 case box x=>
  simp only[kU,cy,bt,eU]at h;exact⟨_,_,by simp only[bn,h.1,cU],h.2⟩
 case build z ps=>
  rw[eU]at h;obtain⟨h1,h⟩:=h;split at h
  ·rename_i c hc;rw[ME]at h;exact⟨_,_,by simp only[bn,h1,cU,hc,aI],h⟩
  ·cases h
 case bslice sz len ps=>
  obtain⟨l,hl,h⟩:=Fk h;simp only[eU,ab,Nat.beq_eq,Nat.ble_eq]at h;obtain⟨⟨⟨⟨h1,h2⟩,h3⟩,h4⟩,h⟩:=h;refine⟨_,_,?_,h⟩;simp only[bn,hl];rw[ay ⟨h1,h2,by simp[Nat.blt]at h3;omega,h4⟩]
 case blit sz len ps=>
  obtain⟨l,hl,h⟩:=Fk h;simp only[eU,ab,Nat.beq_eq,Nat.ble_eq]at h;obtain⟨⟨⟨⟨h1,h2⟩,h3⟩,h4⟩,h⟩:=h;rw[kU,cy,bt]at h;refine⟨_,_,?_,h⟩;simp only[bn,hl];rw[ay ⟨h1,h2,by simp[Nat.blt]at h3;omega,h4⟩]
 case ld n x=>
  split at h
  ·rename_i id off hx;obtain⟨o,ho,h⟩:=(eg ..).1 h;cases o with
   |box c=>
    obtain⟨v,hv,h⟩:=(mN ..).1 h;exact⟨_,_,by simp only[bn,hx,o8,mc,ho,hv,aI],h⟩
   |frz c=>
    obtain⟨v,hv,h⟩:=(mN ..).1 h;exact⟨_,_,by simp only[bn,hx,o8,mc,ho,hv,aI],h⟩
   |_=>cases h
  ·rename_i l off hx;obtain⟨v,hv,h⟩:=(mN ..).1 h;exact⟨_,_,by simp only[bn,hx,o8,mc,hv,aI],h⟩
  ·cases h
 case st n a x=>
  split at h
  ·rename_i id off hx;obtain⟨o,ho,h⟩:=(eg ..).1 h;cases o with
   |box c=>
    simp only[cy,eU,ab,Nat.beq_eq,Nat.ble_eq,bg]at h;obtain⟨⟨⟨⟨h1,h2⟩,h3⟩,h4⟩,h⟩:=h;refine⟨_,_,?_,h⟩;simp only[bn,hx,sW,ho];rw[ay ⟨h1,h2,h3,by simpa using h4⟩];rfl
   |_=>cases h
  ·cases h
 case bin op x y=>
  obtain⟨v,hv,h⟩:=S3 _ _ _ _ _ h;exact⟨_,_,by simp only[bn,hv,aI],h⟩
 case eqa neg ks x y=>
  split at h
  ·rename_i c d hc hd;rw[eU]at h;obtain⟨h1,h⟩:=h;refine⟨.d (.bool (if neg then !Si c d else Si c d)),H,by simp only[bn,hc,hd,ay h1],?_⟩;cases neg<;>simpa using h
  ·cases h
 case isnil neg x=>
  split at h
  ·rename_i b hx;refine⟨.d (.bool (if neg then !b else b)),H,by simp only[bn,hx],?_⟩;cases neg<;>simpa using h
  ·cases h
 case eqb neg x y=>
  split at h
  ·rename_i c d hc hd;refine⟨.d (.bool (if neg then !(c==d) else c==d)),H,by simp only[bn,hc,hd],?_⟩;cases neg<;>simpa using h
  ·cases h
 case un op x=>
  split at h
  ·rename_i hx;exact⟨_,_,by simp only[bn,hx,OH,aI],h⟩
  ·rename_i hx;exact⟨_,_,by simp only[bn,hx,OH,aI],h⟩
  ·cases h
 case conv kk x=>
  split at h
  ·rename_i hx;exact⟨_,_,by simp only[bn,hx],h⟩
  ·cases h
 case mkfn f caps=>
  rw[cy]at h;exact⟨_,_,by simp only[bn];rfl,(by simpa only[sx,funext (sx pg.toCx e)] using h)⟩
 case mkfm f caps=>
  rw[cy]at h;exact⟨_,_,by simp only[bn];rfl,(by simpa only[sx,funext (sx pg.toCx e)] using h)⟩
 case fld off n x=>
  split at h
  ·rename_i hx;obtain⟨v,hv,h⟩:=(mN ..).1 h;exact⟨_,_,by simp only[bn,hx,hv,aI],h⟩
  ·rename_i hx;obtain⟨v,hv,h⟩:=(mN ..).1 h;exact⟨_,_,by simp only[bn,hx,hv,aI],h⟩
  ·cases h
 case fadr off x=>
  split at h
  ·rename_i hx;exact⟨_,_,by simp only[bn,hx],h⟩
  ·rename_i hx;exact⟨_,_,by simp only[bn,hx],h⟩
  ·cases h
 case iadr sz x i=>
  split at h
  ·rename_i kk n hi;have gen:∀ v,di pg.toCx e x=v->(∀ id off len,v≠ .arr id off len)->(∃ l,lsize H v=some l/\∃ y,(0<=n/\l[n.toNat]? =some y)/\y.cells.length=sz/\k (.ro y.cells 0) H)->∃ v H',bn pg.toCx (cv pg) b e H (.iadr sz x i)=some (v,H')/\k v H':=by
    rintro v hv hna ⟨l,hl,y,⟨h0,hy⟩,hs,h⟩;refine⟨_,_,?_,h⟩;simp only[bn,hi,gy,ay h0,hv];cases v with
    |arr a b c=>exact absurd rfl (hna a b c)
    |_=>simp only[hl,hy,hs,cU]
   split at h
   ·rename_i id off len hx;exact⟨_,_,by simp only[bn,hi,gy,ay h.1.1,hx,ay h.1.2],h.2⟩
   ·rename_i v hna;exact gen _ rfl (fun a b c hh=>hna a b c hh) (A5 _ _ _ h)
  ·cases h
 case iadra len sz x i=>
  split at h
  ·rename_i kk n hi;obtain⟨⟨h0,h1⟩,h⟩:=h;split at h
   ·rename_i hx;exact⟨_,_,by simp only[bn,hi,gy,ay h0,ay h1,hx],h⟩
   ·rename_i hx;exact⟨_,_,by simp only[bn,hi,gy,ay h0,ay h1,hx],h⟩
   ·cases h
  ·cases h
 case idx x i=>
  split at h
  ·rename_i hi hx;obtain⟨c,⟨h0,hc⟩,h⟩:=h;exact⟨_,_,by simp only[bn,hi,gy,ay h0,hx,hc,aI],h⟩
  ·cases h
 case slcs x lo hi=>
  split at h
  ·rename_i s hx;obtain⟨l,hl,h⟩:=r9 _ _ _ _ _ h;obtain⟨r,hr,h⟩:=r9 _ _ _ _ _ h;exact⟨_,_,by simp only[bn,hx,hl,hr,ay h.1],h.2⟩
  ·cases h
 case slc sz x lo hi=>
  obtain⟨s,hs,h⟩:=A5 _ _ _ h;obtain⟨l,hl,h⟩:=r9 _ _ _ _ _ h;obtain⟨r,hr,h⟩:=r9 _ _ _ _ _ h;exact⟨_,_,by simp only[bn,hs,hl,hr,ay h.1],h.2⟩
 case ext x i=>
  split at h
  ·rename_i l hx;obtain⟨v,hv,h⟩:=(eg ..).1 h;exact⟨_,_,by simp only[bn,hx,hv,aI],h⟩
  ·cases h
 case nilck x=>
  split at h
  ·rename_i hx;exact⟨_,_,by simp only[bn,hx],h⟩
  ·rename_i hx;exact⟨_,_,by simp only[bn,hx],h⟩
  ·rename_i hx;exact⟨_,_,by simp only[bn,hx],h⟩
  ·cases h
 case msl sz bytes z n=>
  split at h
  ·rename_i m hn;obtain⟨h1,h⟩:=h;simp only[eU,ab,Nat.beq_eq,kU,cy,bt]at h;exact⟨_,_,by simp only[bn,hn,ay (show 0<=m/\roomy m.toNat bytes/\z.length=1/\sz=1 from⟨h1.1,h1.2,h.1.1,h.1.2⟩)],h.2⟩
  ·cases h
 case mm mx x y=>
  split at h
  ·rename_i k1 a k2 c hx hy;rw[eU]at h;obtain⟨h1,h⟩:=h;refine⟨.d (.int k1 (if mx then max a c else min a c)),H,by simp only[bn,hx,hy,ay (af h1)],?_⟩;cases mx<;>simpa using h
  ·cases h
 case mkm=>
  simp only[kU,cy,bt]at h;exact⟨_,_,rfl,h⟩
 case brow sz=>
  rw[eU]at h;obtain⟨h1,h⟩:=h;have h1:0 < sz:=by simpa [Nat.blt_eq] using h1
  exact⟨_,_,by simp only[bn,ay h1],h⟩
 case rN kk m kx x=>
  split at h
  ·rename_i id hm;obtain⟨ob,ho,h⟩:=(eg ..).1 h;cases ob with
   |map l=>
    simp only at h;split at h
    ·rename_i kd hk;rw[eU]at h;obtain⟨h1,h2,h⟩:=h;obtain⟨x',hx,h⟩:=Kq h;rw[cy]at h;exact⟨_,_,by simp only[bn,hm,hk,hx,ho,h1,h2,cF,cU],h⟩
    ·cases h
   |_=>cases h
  ·cases h
 case mget kk ok z m kx=>
  split at h
  ·rename_i id hm;obtain⟨ob,ho,h⟩:=(eg ..).1 h;cases ob with
   |map l=>
    simp only at h;split at h
    ·rename_i kd hk;rw[eU]at h;obtain⟨h1,h2,r,rfl,h⟩:=h;exact⟨_,_,by simp only[bn,hm,hk,ho,h1,h2,cF,cU],h⟩
    ·cases h
   |_=>cases h
  ·cases h
 case ment kk z m kx=>
  split at h
  ·rename_i id hm;obtain⟨ob,ho,h⟩:=(eg ..).1 h;cases ob with
   |map l=>
    simp only at h;split at h
    ·rename_i kd hk;rw[eU]at h;obtain⟨h1,h2,r,hr,h⟩:=h;cases r with
     |some i=>
      obtain⟨p,hp,h⟩:=h;exact⟨_,_,by simp only[bn,hm,hk,ho,h1,h2,cF,cU,hr,hp,aI],h⟩
     |none=>
      simp only[cy]at h;exact⟨_,_,by simp only[bn,hm,hk,ho,h1,h2,cF,cU,hr],h⟩
    ·cases h
   |_=>cases h
  ·cases h
 case mest m s x=>
  split at h
  ·rename_i id hm;obtain⟨ob,ho,h⟩:=(eg ..).1 h;cases ob with
   |map l=>
    simp only at h;split at h
    ·rename_i n hs;obtain⟨h1,h⟩:=h;obtain⟨x',hx,h⟩:=Kq h;rw[cy]at h;exact⟨_,_,by simp only[bn,hm,hs,hx,ho,ay h1],h⟩
    ·cases h
   |_=>cases h
  ·cases h
 case call f args=>
  obtain⟨r,H',hr,h⟩:=mY _ _ _ _ _ h;exact⟨r,H',hr,h⟩
 case callv f args=>
  split at h
  ·rename_i f c hf;have h:=mY _ _ _ _ _ h;rw[cy]at h;obtain⟨r,H',hr,h⟩:=h;exact⟨r,H',by simp only[bn,hf];exact hr,h⟩
  ·rename_i f c hf;have h:=mY _ _ _ _ _ h;rw[cy]at h;obtain⟨r,H',hr,h⟩:=h;exact⟨r,H',by simp only[bn,hf];exact hr,h⟩
  ·cases h
 case len str x=>
  cases str
  ·simp only[sx]at h;split at h
   ·rename_i hx;exact⟨_,_,by simp only[bn,hx,rT,aI],h⟩
   ·rename_i hx;exact⟨_,_,by simp only[bn,hx,rT,aI];rfl,h⟩
   ·rename_i hx;exact⟨_,_,by simp only[bn,hx,rT,aI];rfl,h⟩
   ·rename_i hx;exact⟨_,_,by simp only[bn,hx,rT,aI],h⟩
   ·rename_i hx;exact⟨_,_,by simp only[bn,hx,rT,aI],h⟩
   ·cases h
  ·simp only[sx]at h;split at h
   ·rename_i hx;exact⟨_,_,by simp only[bn,hx],h⟩
   ·cases h
 case convs x=>
  split at h
  ·rename_i hx;exact⟨_,_,by simp only[bn,hx],h⟩
  ·cases h
 case app sz bytes x y=>
  obtain⟨ys,hys,⟨⟨h1,h2⟩,h⟩⟩:=A5 _ _ _ h;split at h
  ·rename_i id len hx;obtain⟨o,ho,h⟩:=(eg ..).1 h;cases o with
   |row sz' l=>
    obtain⟨⟨h3,h4,h5⟩,h⟩:=h;rw[cy]at h;refine⟨_,_,?_,h⟩;simp only[bn,hys,hx,ho];rw[ay ⟨h1,h2⟩,ay ⟨h3,h4,h5⟩]
   |_=>cases h
  ·rename_i hx;by_cases hy:ys=[]
   ·refine⟨_,_,?_,h.1 hy⟩;simp only[bn,hys,hx];rw[ay ⟨h1,h2⟩,ay hy]
   ·obtain⟨h3,h⟩:=h.2 hy;simp only[kU,cy,bt]at h;refine⟨_,_,?_,h⟩;simp only[bn,hys,hx];rw[ay ⟨h1,h2⟩,aA hy,ay h3]
  ·obtain⟨r,H',hr,_,h⟩:=h;exact⟨r,H',hr,h⟩
 all_goals exact h
end
end Go.Vm
