import Derived.Test.YtkedogplneaaiaaGreatDoorVmFn
import Derived.ProofKit
import Derived.LaidMore
import Derived.Stop.Joined
import Derived.Below
import Derived.Lib.ItoaNum
import Derived.Lib.Join
import Derived.Lib.Fields
import Derived.Sort.Grow
import Derived.Lib.LaidTab
import Derived.Deep.Draws
import Derived.Lib.Bytealg
import Derived.Lib.LastIndexByte
import Derived.Lib.ParseIntB
import Derived.Lib.Strings
import Derived.Lib.CutLaws
import Derived.Test.YtkedogplneaaiaaGreatDoorIteCode
import Derived.Test.YtkedogplneaaiaaGreatDoorVmOps2
set_option linter.unusedVariables false
set_option linter.unusedSimpArgs false
namespace Go.Vm
open Go.ChangeShapes Go.WideShapes Go.ChangeAt Go.RowKit
def contents (w:World) (b:Nat):List Value:=match w.heap[b]? with|some (.cells cur _ _)=>cur.toList|_=>[]
def gh0 (w:World):Gh:=⟨fun _=>none,contents w⟩
theorem c9s {w:World} {b off:Nat} {v:Value} {sp} (h:w.cell? ⟨b,off,sp⟩=some v):(contents w b)[off]? =some v:=by
 unfold World.cell? at h
 unfold contents
 split at h
 ·rename_i c t f hc
  split at h
  ·cases h
  ·simp only at hc
   rw[hc]
   simpa using h
 ·cases h
def d4c (cx:Cx) (w:World):Prop:=(∀ i,∃ vs,vs <+:contents w i/\a1m (contents w) (cx.gv i) vs)/\∀ i o,cx.fx i=some o->w.heap[i]? =some o
theorem inv0 {cx:Cx} {w:World} (h:d4c cx w):Inv cx (gh0 w) [] w:=by
 refine⟨fun i k b c c' h=>(nomatch h),fun i b c h=>(nomatch h),fun i b c o h=>(nomatch h),fun b hb=>?_,fun i c hi=>absurd hi (Nat.not_lt_zero _),h.1,fun i o hi=>⟨h.2 i o hi,fun k c hk=>(nomatch hk)⟩⟩
 simp only[gh0,contents]at hb⊢
 split at hb
 ·rename_i cur e fz hc
  exact⟨cur,e,fz,hc,List.prefix_refl _⟩
 ·exact absurd rfl hb
theorem front {P:Program} {pg:Pg} (hT:a3g P pg) (hmx:P.follows .mixedOrders=true) {f:Nat} {args:Array Value} {ds:List D} {W:World} (hg:d4c pg.toCx W) (hr:a0t (gh0 W) [] (ds.map V.d) args.toList)
 {H':Hp} (hev:evF pg f (ds.map V.d) []=some (.d (.bool true),H')):Calls P f args W fun e W'=>e= .returned (.bool true)/\Below W.heap.size W W':=by
 obtain⟨_,h⟩:=b8e hT hmx f (ds.map V.d) [] (.d (.bool true)) H' hev
 refine(h (gh0 W) W args (inv0 hg) hr (a8p _ ds)).mono fun e w' he=>?_
 obtain⟨g',x,h1,h2,h3,_,h5⟩:=he
 rw[a8f h3]at h1
 exact⟨h1,⟨h5.os,h5.tape,h5.output,h5.size,fun k hk=>(h5.frame k hk fun i c=>by simp[gh0]).1⟩⟩
def d2f (P:Program) (total:Nat):Nat->List Field->Bool
 |n,[]=>n==total
 |n,f::r=>f.offset==n && d2f P total (n+P.cellsOf f.type) r
section
variable {H:Type}
mutual
/-- What a reading says, as data. -/
def dwD:DataW H->D
 | .lit (.bool b)=> .bool b
 | .lit (.int k n)=> .int k n
 | .lit (.string s)=> .str s
 | .agg l=> .agg (b0m l)
 | .slice l _=> .sl (dwL l)
 |_=> .sl []
def dwL:List (DataW H)->List D
 |[]=>[]
 |x::r=>dwD x::dwL r
def b0m:List (DataW H)->List D
 |[]=>[]
 |x::r=>(dwD x).cells++b0m r
end
theorem f8d:∀ l:List (DataW H),dwL l=l.map dwD
 |[]=>rfl
 |x::r=>by simp[dwL,f8d r]
theorem c1j:∀ l:List (DataW H),b0m l=(l.map dwD).flatMap D.cells
 |[]=>rfl
 |x::r=>by simp[b0m,c1j r]
end
def b2e (P:Program):Nat->TypeId->Bool
 |0,_=>false
 |m+1,t=>match P.underlying t with
  |some .bool|some (.int _)|some .string=>P.cellsOf t==1
  |some (.slice e)=>P.cellsOf t==1 && decide (0 < P.cellsOf e) && b2e P m e
  |some (.struct fs)=>d2f P (P.cellsOf t) 0 fs.toList && fs.toList.all fun f=>b2e P m f.type
  |some (.array n e)=>P.cellsOf t==n*P.cellsOf e && b2e P m e
  |_=>false
def c1o (P:Program):Nat->TypeId->D->Prop
 |0,_,_=>False
 |m+1,t,x=>match P.underlying t with
  |some .bool=> ∃ b,x= .bool b
  |some (.int k)=> ∃ n,x= .int k n/\(Lit.int k n).wf=true
  |some .string=> ∃ s,x= .str s/\s.length<=maxLen
  |some (.slice e)=> ∃ l,x= .sl l/\l.length<=maxLen/\∀ y∈l,c1o P m e y
  |some (.struct fs)=> ∃ xs:List D,x= .agg (xs.flatMap D.cells)/\xs.length=fs.toList.length/\∀ (i:Nat) (f:Field) (y:D),fs.toList[i]? =some f->xs[i]? =some y->c1o P m f.type y
  |some (.array n e)=> ∃ xs:List D,x= .agg (xs.flatMap D.cells)/\xs.length=n/\∀ y∈xs,c1o P m e y
  |_=>False
theorem b3c {C:Nat->List Value}:∀ {l l':List D} {vs vs':List Value},a1m C l vs->a1m C l' vs'->a1m C (l++l') (vs++vs')
 |[],l',vs,vs',r,r'=>by simp only[a1m]at r;subst r;exact r'
 |d::ds,l',vs,vs',r,r'=>by
  simp only[a1m]at r
  obtain⟨y,ys,rfl,h1,h2,h3⟩:=r
  simp only[List.cons_append,a1m]
  exact⟨y,ys++vs',by simp,h1,h2,b3c h3 r'⟩
section
variable {H:Type} {enc:TypeId×Value->H} {P:Program} {w:World} {base:Nat} {spare:Nat->Bool} {held:Bool} {fuel:Nat}
theorem e0v {total m:Nat} (rec_:∀ t cs x,b2e P m t=true->DataW.trod enc P w base spare held fuel t cs=some x->c1o P m t (dwD x.1)/\a0p (contents w) (dwD x.1) cs):∀ (fs:List Field) (n:Nat) (cs:List Value) (xs:List (DataW H×List MemPlace)),d2f P total n fs=true->cs.length=total->
 (fs.all fun f=>b2e P m f.type)=true->(fs.mapM fun f=>DataW.trod enc P w base spare held fuel f.type ((cs.drop f.offset).take (P.cellsOf f.type)))=some xs->
 a1m (contents w) (b0m (xs.map (·.1))) (cs.drop n)/\xs.length=fs.length/\∀ (i:Nat) (f:Field) (y:D),fs[i]? =some f->(xs.map fun x=>dwD x.1)[i]? =some y->c1o P m f.type y
 |[],n,cs,xs,ho,hl,_,hx=>by
  simp only[d2f,beq_iff_eq]at ho
  simp only[List.mapM_nil,Option.pure_def,Option.some.injEq]at hx
  subst hx
  refine⟨?_,rfl,fun i f y h=>by simp at h⟩
  rw[List.drop_eq_nil_of_le om]
  simp[a1m,b0m]
 |f::fs,n,cs,xs,ho,hl,hp,hx=>by
  simp only[d2f,Bool.and_eq_true,beq_iff_eq]at ho
  simp only[List.all_cons,Bool.and_eq_true]at hp
  simp only[List.mapM_cons,Option.bind_eq_bind,Option.bind_eq_some_iff,Option.pure_def,Option.some.injEq]at hx
  obtain⟨x,hx1,xs',hx2,rfl⟩:=hx
  rw[ho.1]at hx1
  obtain⟨h1,h2⟩:=rec_ f.type _ x hp.1 hx1
  obtain⟨h3,h4,h5⟩:=e0v rec_ fs (n+P.cellsOf f.type) cs xs' ho.2 hl hp.2 hx2
  refine⟨?_,by simp[h4],fun i f' y hf hy=>?_⟩
  ·simp only[List.map_cons,b0m]
   have:=b3c (b7d h2) h3
   rw[<-List.drop_drop,List.take_append_drop]at this
   exact this
  ·cases i with
   |zero=>
    simp only[List.getElem?_cons_zero,Option.some.injEq,List.map_cons]at hf hy
    subst hf;subst hy
    exact h1
   |succ i=>exact h5 i f' y (by simpa using hf) (by simpa using hy)
theorem g8d {m sz:Nat} {e:TypeId} (rec_:∀ cs x,DataW.trod enc P w base spare held fuel e cs=some x->c1o P m e (dwD x.1)/\a0p (contents w) (dwD x.1) cs):∀ (len k:Nat) (cs:List Value) (xs:List (DataW H×List MemPlace)),cs.length=(k+len) *sz->
 ((List.range' k len).mapM fun i=>DataW.trod enc P w base spare held fuel e ((cs.drop (i*sz)).take sz))=some xs->
 a1m (contents w) (b0m (xs.map (·.1))) (cs.drop (k*sz))/\xs.length=len/\∀ y∈xs.map fun x=>dwD x.1,c1o P m e y
 |0,k,cs,xs,hl,h=>by
  simp only[List.range'_zero,List.mapM_nil,Option.pure_def,Option.some.injEq]at h
  subst h
  refine⟨?_,rfl,by simp⟩
  rw[List.drop_eq_nil_of_le (by rw[hl];simp)]
  simp[a1m,b0m]
 |len+1,k,cs,xs,hl,h=>by
  simp only[List.range'_succ,List.mapM_cons,Option.bind_eq_bind,Option.bind_eq_some_iff,Option.pure_def,Option.some.injEq]at h
  obtain⟨x,hx,xs',hxs,rfl⟩:=h
  obtain⟨h1,h2⟩:=rec_ _ x hx
  obtain⟨h3,h4,h5⟩:=g8d rec_ len (k+1) cs xs' (by rw[hl];congr 1;omega) hxs
  refine⟨?_,by simp[h4],fun y hy=>?_⟩
  ·simp only[List.map_cons,b0m]
   have:=b3c (b7d h2) h3
   rw[Nat.add_mul,Nat.one_mul,<-List.drop_drop,List.take_append_drop]at this
   exact this
  ·simp only[List.map_cons,List.mem_cons]at hy
   rcases hy with rfl|hy
   ·exact h1
   ·exact h5 y hy
theorem mapM_some_get {α β:Type} {F:α->Option β}:∀ {l:List α} {r:List β},l.mapM F=some r->r.length=l.length/\∀ (i:Nat) (x:α),l[i]? =some x->∃ y,F x=some y/\r[i]? =some y
 |[],r,h=>by
  simp only[List.mapM_nil,Option.pure_def,Option.some.injEq]at h
  subst h
  exact⟨rfl,fun i x h=>by simp at h⟩
 |a::l,r,h=>by
  simp only[List.mapM_cons,Option.bind_eq_bind,Option.bind_eq_some_iff,Option.pure_def,Option.some.injEq]at h
  obtain⟨y,hy,ys,hys,rfl⟩:=h
  obtain⟨h1,h2⟩:=mapM_some_get hys
  refine⟨by simp[h1],fun i x hx=>?_⟩
  cases i with
  |zero=>simp only[List.getElem?_cons_zero,Option.some.injEq]at hx;subst hx;exact⟨y,hy,rfl⟩
  |succ i=>exact h2 i x (by simpa using hx)
theorem e2t {a:Addr} {n:Nat} {cs:List Value} (h:w.cells? base a n=some cs):cs.length=n/\(0 < n->a.spot=none)/\cs <+:(contents w a.block).drop a.off:=by
 unfold World.cells? at h
 split at h
 ·obtain⟨h1,h2⟩:=mapM_some_get h
  have hl:cs.length=n:=by simpa using h1
  have hc:∀ i,i < n->∃ y,w.cell? (a.add i)=some y/\cs[i]? =some y:=fun i hi=>h2 i i (by simp[hi])
  refine⟨hl,fun hn=>?_,?_⟩
  ·obtain⟨y,hy,_⟩:=hc 0 hn
   exact World.cell?_spot (by simpa [Addr.add] using hy)
  ·rw[List.prefix_iff_eq_take]
   apply List.ext_getElem?
   intro i
   by_cases hi:i < n
   ·obtain⟨y,hy,hcy⟩:=hc i hi
    rw[hcy,List.getElem?_take,if_pos om,List.getElem?_drop]
    have hy':w.cell? ⟨a.block,a.off+i,none⟩=some y:=by
     by_cases h0:i=0
     ·subst h0
      have hs:=World.cell?_spot hy
      simp only[Addr.add,if_true]at hy hs
      obtain⟨b,o,sp⟩:=a
      simp only at hs
      subst hs
      simpa using hy
     ·simpa [Addr.add,h0] using hy
    exact(c9s hy').symm
   ·rw[List.getElem?_eq_none om,List.getElem?_eq_none (by rw[List.length_take];omega)]
 ·cases h
theorem h3e {m sz:Nat} {e:TypeId} {a:Addr} (hs:0 < sz) (rec_:∀ cs x,DataW.trod enc P w base spare held fuel e cs=some x->c1o P m e (dwD x.1)/\a0p (contents w) (dwD x.1) cs):∀ (len k:Nat) (xs:List (DataW H×List MemPlace)),
 ((List.range' k len).mapM fun i=>(w.cells? base (a.add (i*sz)) sz).bind (DataW.trod enc P w base spare held fuel e))=some xs->
 ∃ us:List Value,xs.length=len/\us <+:(contents w a.block).drop (a.off+k*sz)/\a1y (contents w) sz (xs.map fun x=>dwD x.1) us/\(∀ y∈xs.map fun x=>dwD x.1,c1o P m e y)/\(0 < len->k=0->a.spot=none)
 |0,k,xs,h=>by
  simp only[List.range'_zero,List.mapM_nil,Option.pure_def,Option.some.injEq]at h
  subst h
  exact⟨[],rfl,List.nil_prefix,by simp[a1y],by simp,om⟩
 |len+1,k,xs,h=>by
  simp only[List.range'_succ,List.mapM_cons,Option.bind_eq_bind,Option.bind_eq_some_iff,Option.pure_def,Option.some.injEq]at h
  obtain⟨x,⟨cs,hc,hx⟩,xs',hxs,rfl⟩:=h
  obtain⟨us,h1,h2,h3,h4,_⟩:=h3e hs rec_ len (k+1) xs' hxs
  obtain⟨d1,d2⟩:=rec_ cs x hx
  obtain⟨c1,c2,c3⟩:=e2t hc
  have hblk:(a.add (k*sz)).block=a.block:=by unfold Addr.add;split<;>rfl
  have hoff:(a.add (k*sz)).off=a.off+k*sz:=by unfold Addr.add;split<;>simp_all
  rw[hblk,hoff]at c3
  refine⟨cs++us,by simp[h1],?_,by simp only[List.map_cons,a1y];exact⟨cs,us,rfl,c1,d2,h3⟩,fun y hy=>?_,fun _ hk=>?_⟩
  ·obtain⟨t,ht⟩:=c3
   rw[Nat.add_mul,Nat.one_mul,<-Nat.add_assoc,<-List.drop_drop,<-ht,<-c1,List.drop_left]at h2
   obtain⟨t',rfl⟩:=h2
   exact⟨t',by rw[<-ht];simp⟩
  ·simp only[List.map_cons]at hy
   cases hy with
   |head=>exact d1
   |tail _ hm=>exact h4 y hm
  ·subst hk
   have:=c2 hs
   simpa [Addr.add] using this
theorem h4a:∀ (fuel m:Nat) (t:TypeId) (cs:List Value) (x:DataW H×List MemPlace),b2e P m t=true->DataW.trod enc P w base spare held fuel t cs=some x->c1o P m t (dwD x.1)/\a0p (contents w) (dwD x.1) cs:=by
 intro fuel
 induction fuel with
 |zero=>intro m t cs x _ h;simp[DataW.trod]at h
 |succ fuel ih=>
  intro m t cs x hp h
  cases m with
  |zero=>simp[b2e]at hp
  |succ m=>
   simp only[b2e]at hp
   simp only[c1o]
   have h':=h
   unfold DataW.trod at h'
   cases hu:P.underlying t with
   |none=>rw[hu]at hp;cases hp
   |some u=>
    rw[hu]at hp h'
    cases u with
    |bool=>
     split at h'<;>first|(rename_i q;cases q;done)|skip
     ·rename_i b _
      cases h'
      exact⟨⟨b,rfl⟩,by simp[a0p,dwD]⟩
     ·cases h'
    |int k=>
     obtain⟨n,rfl,rfl,hw⟩:=DataW.trod_int hu h
     exact⟨⟨n,rfl,hw⟩,by simp[a0p,dwD]⟩
    |string=>
     split at h'<;>first|(rename_i q;cases q;done)|skip
     ·rename_i s _
      split at h'
      ·rename_i hs
       cases h'
       exact⟨⟨s.data.toList,rfl,by simpa using hs⟩,by simp[a0p,dwD]⟩
      ·cases h'
     ·cases h'
    |slice e=>
     simp only[Bool.and_eq_true,decide_eq_true_eq]at hp
     split at h'<;>first|(rename_i q;cases q;done)|skip
     ·cases h'
      exact⟨⟨[],rfl,by simp,by simp⟩,by simp[a0p,dwD]⟩
     ·rename_i e' a len cap q
      cases q
      simp only at h'
      split at h'
      case isFalse=>cases h'
      rename_i hb
      obtain⟨hb,hlc,hcm⟩:=hb
      obtain⟨xs,hxs,hrest⟩:=Option.bind_eq_some_iff.1 h'
      obtain⟨rest,_,rfl⟩:=Option.map_eq_some_iff.1 hrest
      rw[List.range_eq_range']at hxs
      obtain⟨us,h1,h2,h3,h4,h5⟩:=h3e (m:=m) (sz:=P.cellsOf e) (e:=e) (a:=a) hp.1.2 (fun cs x hx=>ih m e cs x hp.2 hx) len 0 xs hxs
      have hd:dwD (DataW.slice (xs.map (·.1)) (rest.map (·.1)))= .sl (xs.map fun x=>dwD x.1):=by simp[dwD,f8d,Function.comp_def]
      rw[hd]
      refine⟨⟨_,rfl,by simp[h1];omega,h4⟩,?_⟩
      simp only[a0p]
      refine⟨some a,cap,by simp[h1],by simp[h1];omega,?_⟩
      by_cases hl0:len=0
      ·left
       exact List.length_eq_zero_iff.1 (by simp[h1];omega)
      ·right
       have hs:=h5 om rfl
       obtain⟨b,o,sp⟩:=a
       simp only at hs
       subst hs
       exact⟨b,o,_,us,rfl,hp.1.2,by simpa using h2,h3⟩
     ·cases h'
    |struct fs=>
     simp only[Bool.and_eq_true]at hp
     have hstr:(if cs.length=P.cellsOf t then(fs.toList.mapM fun f=>DataW.trod enc P w base spare held fuel f.type ((cs.drop f.offset).take (P.cellsOf f.type))).map fun xs=>(DataW.agg (xs.map (·.1)),xs.flatMap (·.2)) else none)=some x:=h'
     split at hstr
     ·rename_i hl
      obtain⟨xs,hxs,rfl⟩:=Option.map_eq_some_iff.1 hstr
      obtain⟨d1,d2,d3⟩:=e0v (m:=m) (fun t cs x hp hx=>ih m t cs x hp hx) fs.toList 0 cs xs hp.1 hl hp.2 hxs
      have hd:dwD (DataW.agg (xs.map (·.1)))= .agg ((xs.map fun x=>dwD x.1).flatMap D.cells):=by simp[dwD,c1j,Function.comp_def]
      refine⟨⟨xs.map fun x=>dwD x.1,hd,by simp[d2],d3⟩,?_⟩
      simp only[dwD,a0p]
      simpa using d1
     ·cases hstr
    |array n e=>
     simp only[Bool.and_eq_true,beq_iff_eq]at hp
     have harr:(if cs.length=P.cellsOf t then((List.range n).mapM fun i=>DataW.trod enc P w base spare held fuel e ((cs.drop (i*P.cellsOf e)).take (P.cellsOf e))).map fun xs=>(DataW.agg (xs.map (·.1)),xs.flatMap (·.2)) else none)=some x:=h'
     split at harr
     ·rename_i hl
      obtain⟨xs,hxs,rfl⟩:=Option.map_eq_some_iff.1 harr
      rw[List.range_eq_range']at hxs
      obtain⟨d1,d2,d3⟩:=g8d (m:=m) (sz:=P.cellsOf e) (e:=e) (fun cs x hx=>ih m e cs x hp.2 hx) n 0 cs xs (by rw[hl,hp.1];simp) hxs
      have hd:dwD (DataW.agg (xs.map (·.1)))= .agg ((xs.map fun x=>dwD x.1).flatMap D.cells):=by simp[dwD,c1j,Function.comp_def]
      refine⟨⟨xs.map fun x=>dwD x.1,hd,by simp[d2],d3⟩,?_⟩
      simp only[dwD,a0p]
      simpa using d1
     ·cases harr
    |_=>cases hp
theorem h9k {m:Nat} {t:TypeId} {v:Value} {d:DataW H} {ps:List MemPlace} {r:Reach} {b0:Nat} (hp:b2e P m t=true) (hval:Value.okWide P w r b0 t v) (h:DataW.Trod enc P w base spare held t v d ps):c1o P m t (dwD d)/\a2z (contents w) (dwD d) v:=by
 obtain⟨fuel,hf⟩:=h
 obtain⟨h1,h2⟩:=h4a fuel m t _ _ hp hf
 simp only at h1 h2
 refine⟨h1,?_⟩
 cases m with
 |zero=>simp[b2e]at hp
 |succ m=>
  simp only[c1o]at h1
  split at h1
  ·rename_i hu
   obtain⟨b,hb⟩:=h1
   rw[hb]at h2⊢
   obtain⟨b',rfl⟩:=okWide_bool hu hval
   simpa [Value.cells,a2z] using h2
  ·rename_i k hu
   obtain⟨n,hb,_⟩:=h1
   rw[hb]at h2⊢
   obtain⟨n',rfl⟩:=okWide_int hu hval
   simpa [Value.cells,a2z] using h2
  ·rename_i hu
   obtain⟨s,hb,_⟩:=h1
   rw[hb]at h2⊢
   obtain⟨s',rfl⟩:=okWide_string hu hval
   simpa [Value.cells,a2z] using h2
  ·rename_i e hu
   obtain⟨l,hb,_⟩:=h1
   rw[hb]at h2⊢
   obtain⟨a,len,cap,rfl⟩:=okWide_slice hu hval
   simpa [Value.cells,a2z] using h2
  ·rename_i fs hu
   obtain⟨xs,hb,_⟩:=h1
   rw[hb]at h2⊢
   obtain⟨cs,rfl,_⟩:=okWide_struct hu hval
   exact⟨cs,rfl,by simpa [a0p,Value.cells] using h2⟩
  ·rename_i n e hu
   obtain⟨xs,hb,_⟩:=h1
   rw[hb]at h2⊢
   have hval':=hval
   simp only[Value.okWide,hu]at hval'
   obtain⟨cs,rfl,_⟩:=hval'
   exact⟨cs,rfl,by simpa [a0p,Value.cells] using h2⟩
  ·exact h1.elim
theorem f8s {m:Nat} {base0:Nat} {r:Reach}:∀ {ts:List TypeId} {vs:List Value} {ds:List (DataW H)} {ps:List MemPlace},DataW.TrodAll enc P w base spare held ts vs ds ps->(∀ t∈ts,b2e P m t=true)->(∀ (j:Nat) t v,ts[j]? =some t->vs[j]? =some v->Value.okWide P w r base0 t v)->
 a0t (gh0 w) [] ((ds.map dwD).map V.d) vs/\ds.length=ts.length/\∀ (i:Nat) t x,ts[i]? =some t->ds[i]? =some x->c1o P m t (dwD x)
 |[],vs,ds,ps,h,_,_=>by
  obtain⟨rfl,rfl,rfl⟩:=trodAll_nil h
  exact⟨by simp[a0t],rfl,fun i t x h=>by simp at h⟩
 |t::ts,vs,ds,ps,h,hp,hv=>by
  obtain⟨v,vs1,d,ds1,a,b,rfl,rfl,rfl,h1,h2⟩:=trodAll_cons h
  obtain⟨x1,x2⟩:=h9k (hp t (by simp)) (hv 0 t v rfl rfl) h1
  obtain⟨y1,y2,y3⟩:=f8s h2 (fun t ht=>hp t (by simp[ht])) fun j t v ht hv'=>hv (j+1) t v (by simpa using ht) (by simpa using hv')
  refine⟨by simp only[List.map_cons,a0t,Rep];exact⟨v,vs1,rfl,x2,by simpa using y1⟩,by simp[y2],fun i t' x' ht hx=>?_⟩
  cases i with
  |zero=>
   simp only[List.getElem?_cons_zero,Option.some.injEq]at ht hx
   subst ht;subst hx
   exact x1
  |succ i=>exact y3 i t' x' (by simpa using ht) (by simpa using hx)
theorem b8n {W W':World} (hl:laidOutB P=true) (hb:Below W.heap.size W W'):∀ {ts:List TypeId} {vs:List Value} {ds:List (DataW H)} {ps:List MemPlace},(∀ t∈ts,P.readableRec t=true/\t < P.types.size)->DataW.TrodAll enc P W 0 (fun _=>true) true ts vs ds ps->(∀ x∈ps,x.block < W.heap.size)->
    DataW.TrodAll enc P W' 0 (fun b=>decide (b < W.heap.size)) true ts vs ds ps
  |[],vs,ds,ps,_,h,_=>by
   obtain⟨rfl,rfl,rfl⟩:=trodAll_nil h
   simp[DataW.TrodAll]
  |t::ts,vs,ds,ps,hr,h,hlt=>by
   obtain⟨v,vs1,d,ds1,a,b,rfl,rfl,rfl,h1,h2⟩:=trodAll_cons h
   exact⟨a,b,Below.trod hl (hr t (by simp)).1 (hr t (by simp)).2 h1 hb fun x hx=>hlt x (by simp[hx]),b8n hl hb (fun t ht=>hr t (by simp[ht])) h2 fun x hx=>hlt x (by simp[hx]),rfl⟩
theorem e5i {fn:Func} {s:ChangeSpec} {apart:Bool} {W W':World} {args:Array Value} {ds gs:List (DataW H)} {before:List MemPlace} {tb:TypeId} (hl:laidOutB P=true) (hb:Below W.heap.size W W')
 (hs:s.vars=[]) (hfn:∀ ds:List (DataW H),ds.length=fn.params.size->s.fn H ds={results:=[.lit (.bool true)],args:=ds })
 (hr:∀ t∈fn.params.toList,P.readableRec t=true/\t < P.types.size) (hres:fn.resultTypes= #[tb]) (htb:P.underlying tb=some .bool)
 (hW:DataW.Whole enc P fn.params.toList s.vars apart W args.toList ds gs before):
 s.post enc P fn apart true false false W args (.bool true) W':=by
 have hlt:=hW.lt
 have hW':=hW
 obtain⟨p,q,hA,hV,rfl,_,_⟩:=hW
 rw[hs]at hV
 obtain⟨rfl,rfl⟩:=trodVars_none hV
 have hlen:∀ {ts:List TypeId} {vs:List Value} {ds:List (DataW H)} {ps:List MemPlace},DataW.TrodAll enc P W 0 (fun _=>true) true ts vs ds ps->ds.length=ts.length:=by
   intro ts
   induction ts with
   |nil=>intro vs ds ps h;obtain⟨_,rfl,_⟩:=trodAll_nil h;rfl
   |cons t ts ih=>intro vs ds ps h;obtain⟨_,_,_,_,_,_,_,rfl,_,_,h2⟩:=trodAll_cons h;simp[ih h2]
 have e:=hfn ds (by rw[hlen hA];simp)
 refine⟨ds,[],p++[],[],p,[],hW',?_,?_,?_,hb.frame _,fun h=>by cases h⟩
 ·rw[List.append_nil,e,hres]
  exact trodAll_mk1 (shut_bool htb true)
 ·rw[List.append_nil,e]
  exact b8n hl hb hr hA fun x hx=>hlt x (by simp[hx])
 ·rw[List.append_nil,e,hs]
  rfl
end
end Go.Vm
namespace Go.Vm
open Go.ChangeShapes Go.WideShapes Go.ChangeAt Go.RowKit
section
variable {H:Type} {enc:TypeId×Value->H} {P:Program}
def i1h (l:List (Nat×List D)) (i:Nat):List D:=((l.find? (·.1==i)).map (·.2)).getD []
def c2o (w:World) (l:List Nat) (i:Nat):Option Obj:=if i∈l then w.heap[i]? else none
theorem f2k (w:World) (l:List Nat) (i:Nat) (o:Obj) (h:c2o w l i=some o):w.heap[i]? =some o:=by
 unfold c2o at h;split at h
 ·exact h
 ·cases h
theorem e9j {w:World} (l:List (Nat×List D)) {fx:Nat->Option Obj} (hfx:∀ i o,fx i=some o->w.heap[i]? =some o) (h:∀ p∈l,∃ vs,vs <+:contents w p.1/\a1m (contents w) p.2 vs):d4c ⟨i1h l,fx⟩ w:=by
 refine⟨fun i=>?_,hfx⟩
 show ∃ vs,vs <+:contents w i/\a1m (contents w) (i1h l i) vs
 unfold i1h
 cases hf:l.find? (·.1==i)with
 |none=>exact⟨[],List.nil_prefix,by simp[a1m]⟩
 |some p=>
  have hm:=List.mem_of_find?_eq_some hf
  have he:=List.find?_some hf
  simp only[beq_iff_eq]at he
  subst he
  exact h p hm
theorem b0a {pg:Pg} (hT:a3g P pg) (hmx:P.follows .mixedOrders=true) {f:Nat} {fn:Func} {s:ChangeSpec} {apart:Bool} {W:World} {base m:Nat} {args:Array Value} {ds gs:List (DataW H)} {before:List MemPlace} {tb:TypeId} (hl:laidOutB P=true)
 (hs:s.vars=[]) (hfn:∀ ds:List (DataW H),ds.length=fn.params.size->s.fn H ds={results:=[.lit (.bool true)],args:=ds })
 (hr:∀ t∈fn.params.toList,(P.readableRec t=true/\t < P.types.size)/\b2e P m t=true) (hres:fn.resultTypes= #[tb]) (htb:P.underlying tb=some .bool)
 (hval:∀ (j:Nat) t v,fn.params[j]? =some t->args[j]? =some v->Value.okWide P W .any base t v)
 (hW:DataW.Whole enc P fn.params.toList s.vars apart W args.toList ds gs before) (hg:d4c pg.toCx W)
 (hkey:ds.length=fn.params.size->(∀ (i:Nat) t x,fn.params[i]? =some t->ds[i]? =some x->c1o P m t (dwD x))->∃ H',evF pg f ((ds.map dwD).map V.d) []=some (.d (.bool true),H')):
 Calls P f args W fun e W'=> ∃ v,e= .returned v/\s.post enc P fn apart true false false W args v W':=by
 have hW':=hW
 obtain⟨p,q,hA,_⟩:=hW
 obtain⟨h1,h2,h3⟩:=f8s (m:=m) hA (fun t ht=>(hr t ht).2) (fun j t v ht hv=>hval j t v (by simpa using ht) (by simpa using hv))
 obtain⟨H',hev⟩:=hkey (by simpa using h2) fun i t x ht hx=>h3 i t x (by simpa using ht) hx
 refine(front hT hmx hg h1 hev).mono fun e W' he=>?_
 exact⟨_,he.1,e5i hl he.2 hs hfn (fun t ht=>(hr t ht).1) hres htb hW'⟩
end
end Go.Vm
namespace Go.Vm
open Go.RowKit
section
variable {P:Program} {cx:Cx} {g:Gh} {H:Hp} {w w':World}
theorem Inv.below (hI:Inv cx g H w) (h:Below w.heap.size w w'):Inv cx g H w'/\Ext H.length g H w g H w':=by
 have hk:Keep H.length g H g H:=Keep.refl _ _ _
 refine⟨⟨hI.inj,fun i b c hj=>⟨(hI.dom i b c hj).1,Nat.lt_of_lt_of_le (hI.dom i b c hj).2 h.size⟩,fun i b c o hj ho=>?_,fun b hb=>?_,hI.und,hI.glob,hI.fix.mono fun b hb hn=>⟨h.block b hb,hn⟩⟩,⟨h.os,h.tape,h.output,h.size,fun b hb _=>⟨h.block b hb,rfl⟩,hk,fun i b c hj _=>⟨i,c,hj⟩,fun _ _ h=>h,Nat.le_refl _⟩⟩
 ·have hd:=hI.dom i b c hj
  exact(hI.ob i b c o hj ho).ext hk.w (h.block b hd.2) rfl (by rintro c' rfl;exact hI.und i c' hd.1 ho)
 ·obtain⟨cur,e,fz,h1,h2⟩:=hI.imm b hb
  exact⟨cur,e,fz,by rw[h.block b (Array.getElem?_eq_some_iff.1 h1).1];exact h1,h2⟩
theorem e7x {f:Nat} {args:List V} {r:D} (hfn:∃ fn,P.funcs[f]? =some fn/\fn.body.isNone=false/\(fn.name== "runtime.NumGoroutine")=false)
 (hc:∀ g w (cargs:Array Value),Inv cx g H w->a0t g H args cargs.toList->Calls P f cargs w fun e w'=> ∃ x,e= .returned x/\a2z g.C r x/\Below w.heap.size w w'):a1x P cx f args H (.d r) H:=by
 refine⟨hfn,fun g w cargs hI ra ua=>(hc g w cargs hI ra).mono fun e w' he=>?_⟩
 obtain⟨x,h1,h2,h3⟩:=he
 obtain⟨k1,k2⟩:=hI.below h3
 exact⟨g,x,h1,k1,by simpa only[Rep] using h2,rfl,k2⟩
theorem g6z (hI:Inv cx g H w) {n:String} {i:Nat} (hg:P.globalNamed n=some i) {cs:Array Value} {t:TypeId} {fz:Nat×Nat} (hf:cx.fx i=some (.cells cs t fz)):w.var? P n=some cs:=by
 unfold World.var?
 rw[hg]
 simp only[Option.bind_some,(hI.fix i _ hf).1]
theorem c3t {s:List UInt8} {r:List V} {vs:List Value} (h:a0t g H (.d (.str s)::r) vs):∃ ys,vs= .string ⟨s.toArray⟩::ys/\a0t g H r ys:=by
 simp only[a0t]at h
 obtain⟨y,ys,rfl,h1,h2⟩:=h
 simp only[Rep,a2z,a0p,List.cons.injEq,and_true]at h1
 exact⟨ys,by rw[h1],h2⟩
theorem c9m {k:IntKind} {n:Int} {r:List V} {vs:List Value} (h:a0t g H (.d (.int k n)::r) vs):∃ ys,vs= .int k n::ys/\a0t g H r ys:=by
 simp only[a0t]at h
 obtain⟨y,ys,rfl,h1,h2⟩:=h
 simp only[Rep,a2z,a0p,List.cons.injEq,and_true]at h1
 exact⟨ys,by rw[h1],h2⟩
theorem c3k {vs:List Value} (h:a0t g H [] vs):vs=[]:=by simpa only[a0t] using h
end
end Go.Vm
namespace Go.Vm
open Go.RowKit
section
variable {P:Program} {cx:Cx}
def c7v (P:Program) (f:Nat):Prop:=∃ fn,P.funcs[f]? =some fn/\fn.body.isNone=false/\(fn.name== "runtime.NumGoroutine")=false
def TabAt (P:Program) (cx:Cx) (name:String) (k:IntKind) (zs:List Int):Prop:=∃ i t fz,P.globalNamed name=some i/\cx.fx i=some (.cells (zs.map fun z=>Value.int k z).toArray t fz)
theorem TabAt.is {name:String} {k:IntKind} {zs:List Int} (h:TabAt P cx name k zs) {g:Gh} {H:Hp} {w:World} (hI:Inv cx g H w):Lib.TabIs P w name k zs:=by
 obtain⟨i,t,fz,h1,h2⟩:=h
 exact g6z hI h1 h2
end
end Go.Vm
namespace Go.Vm
open Go.RowKit
def a5r:List V->Hp->Option (V×Hp)
 |[.d (.str s),.d (.int .u8 c)],H=>some (.d (.int .i64 (Lib.indexByte s c.toNat.toUInt8)),H)
 |_,_=>none
def b2w:List V->Hp->Option (V×Hp)
 |[.d (.str s),.d (.int .i64 b),.d (.int .i64 n)],H=>if(b=10/\n=64)/\s.length<=281474976710656 then
    (match Lib.parseUintB 64 s with
      | .ok u=>some (.tup [.d (.int .u64 u),.ifc true],H)
      | .range=>some (.tup [.d (.int .u64 18446744073709551615),.ifc false],H)
      |_=>some (.tup [.d (.int .u64 0),.ifc false],H)) else none
 |_,_=>none
def b9a (s:ByteArray):Nat->Nat->Int
 |0,_=> -1
 |f+1,pos=>if pos < s.size then(if Utf8.decode s pos=(65533,1) then(pos:Int) else b9a s f (pos+(Utf8.decode s pos).2)) else -1
def c4i:List V->Hp->Option (V×Hp)
 |[.d (.str s)],H=>some (.d (.int .i64 (b9a ⟨s.toArray⟩ s.length 0)),H)
 |_,_=>none
def d7f (s:ByteArray):Nat×Nat:=if s.size=0 then(65533,0) else Utf8.decode s 0
def b1h:List V->Hp->Option (V×Hp)
 |[.d (.str s)],H=>some (.tup [.d (.int .i32 (d7f ⟨s.toArray⟩).1),.d (.int .i64 (d7f ⟨s.toArray⟩).2)],H)
 |_,_=>none
section
variable {P:Program} {cx:Cx}
theorem c3c {f:Nat} {args:List V} {H:Hp} {r:V} (hu:∀ n,r.und n=true) (hfn:c7v P f)
 (hc:∀ g w (cargs:Array Value),Inv cx g H w->a0t g H args cargs.toList->Calls P f cargs w fun e w'=> ∃ x,e= .returned x/\Rep g H r x/\Below w.heap.size w w'):a1x P cx f args H r H:=by
 refine⟨hfn,fun g w cargs hI ra ua=>(hc g w cargs hI ra).mono fun e w' he=>?_⟩
 obtain⟨x,h1,h2,h3⟩:=he
 obtain⟨k1,k2⟩:=hI.below h3
 exact⟨g,x,h1,k1,h2,hu _,k2⟩
theorem c7e {f:Nat} (hf:c7v P f)
 (hc:∀ (s:ByteArray) (c:Int) (w:World),Calls P f #[.string s,.int .u8 c] w fun e w'=>e= .returned (.int .i64 (Lib.indexByte s.data.toList c.toNat.toUInt8))/\w'=w):
 ∀ args H r H',a5r args H=some (r,H')->a1x P cx f args H r H':=by
 intro args H r H' h
 unfold a5r at h
 split at h
 ·rename_i H0 s c
  cases h
  refine e7x hf fun g w cargs hI ra=>?_
  obtain⟨ys,e1,r1⟩:=c3t ra
  obtain⟨zs,e2,r2⟩:=c9m r1
  rw[c3k r2]at e2
  rw[e2]at e1
  have:cargs= #[.string ⟨s.toArray⟩,.int .u8 c]:=by apply Array.toList_inj.1;exact e1
  subst this
  refine(hc ⟨s.toArray⟩ c w).mono fun e w' he=>?_
  obtain⟨e2,rfl⟩:=he
  exact⟨_,e2,by simp only[a2z,a0p],Below.refl _ _⟩
 ·cases h
theorem f5i {f:Nat} (hf:c7v P f) {T:World->Prop} (hT:∀ g H w,Inv cx g H w->T w)
 (hc:∀ (s:ByteArray) (w:World),T w->Calls P f #[.string s] w fun e w'=>e= .returned (.int .i64 (b9a s s.size 0))/\Below w.heap.size w w'):
 ∀ args H r H',c4i args H=some (r,H')->a1x P cx f args H r H':=by
 intro args H r H' h
 unfold c4i at h
 split at h
 ·rename_i H0 s
  cases h
  refine e7x hf fun g w cargs hI ra=>?_
  obtain⟨ys,e1,r1⟩:=c3t ra
  rw[c3k r1]at e1
  have:cargs= #[.string ⟨s.toArray⟩]:=by apply Array.toList_inj.1;exact e1
  subst this
  refine(hc ⟨s.toArray⟩ w (hT g H w hI)).mono fun e w' he=>?_
  obtain⟨e2,e3⟩:=he
  have e4:(⟨s.toArray⟩:ByteArray).size=s.length:=by simp[ByteArray.size]
  rw[e4]at e2
  exact⟨_,e2,by simp only[a2z,a0p],e3⟩
 ·cases h
theorem d7h {f:Nat} (hf:c7v P f) {T:World->Prop} (hT:∀ g H w,Inv cx g H w->T w)
 (hc:∀ (s:ByteArray) (w:World),T w->Calls P f #[.string s] w fun e w'=>e= .returned (.tuple #[.int .i32 (d7f s).1,.int .i64 (d7f s).2])/\Below w.heap.size w w'):
 ∀ args H r H',b1h args H=some (r,H')->a1x P cx f args H r H':=by
 intro args H r H' h
 unfold b1h at h
 split at h
 ·rename_i H0 s
  cases h
  refine c3c (fun _=>rfl) hf fun g w cargs hI ra=>?_
  obtain⟨ys,e1,r1⟩:=c3t ra
  rw[c3k r1]at e1
  have:cargs= #[.string ⟨s.toArray⟩]:=by apply Array.toList_inj.1;exact e1
  subst this
  refine(hc ⟨s.toArray⟩ w (hT g H w hI)).mono fun e w' he=>?_
  refine⟨_,he.1,?_,he.2⟩
  simp only[Rep,a0t]
  exact⟨_,rfl,_,_,rfl,by simp only[a2z,a0p],_,_,rfl,by simp only[a2z,a0p],rfl⟩
 ·cases h
def d7u (cx:Cx) (i:Nat):Prop:=∃ ev t fz,cx.fx i=some (.cells #[ev] t fz)/\(ev= .nilIface\/∃ te pe,ev= .iface te pe)
theorem d7u.cell {i:Nat} (h:d7u cx i) {g:Gh} {H:Hp} {w:World} (hI:Inv cx g H w):∃ ev,w.cell? ⟨i,0,none⟩=some ev/\(ev= .nilIface\/∃ te pe,ev= .iface te pe):=by
 obtain⟨ev,t,fz,h1,h2⟩:=h
 refine⟨ev,?_,h2⟩
 unfold World.cell?
 simp[(hI.fix i _ h1).1]
theorem e3e {f i j:Nat} (hf:c7v P f) (h1:d7u cx i) (h2:d7u cx j)
 (hok:∀ (s:ByteArray),s.size<=281474976710656->∀ (u:Nat),Lib.parseUintB 64 s.data.toList= .ok u->∀ (w:World),Calls P f #[.string s,.int .i64 10,.int .i64 64] w fun e w'=>e= .returned (.tuple #[.int .u64 u,.nilIface])/\Below w.heap.size w w')
 (hsy:∀ (s:ByteArray),s.size<=281474976710656->(∀ u,Lib.parseUintB 64 s.data.toList≠ .ok u)->Lib.parseUintB 64 s.data.toList≠ .range->∀ (ev:Value) (w:World),w.cell? ⟨i,0,none⟩=some ev->(ev= .nilIface\/∃ te pe,ev= .iface te pe)->Calls P f #[.string s,.int .i64 10,.int .i64 64] w fun e w'=> ∃ t p,e= .returned (.tuple #[.int .u64 0,.iface t p])/\Below w.heap.size w w')
 (hra:∀ (s:ByteArray),s.size<=281474976710656->Lib.parseUintB 64 s.data.toList= .range->∀ (ev:Value) (w:World),w.cell? ⟨j,0,none⟩=some ev->(ev= .nilIface\/∃ te pe,ev= .iface te pe)->Calls P f #[.string s,.int .i64 10,.int .i64 64] w fun e w'=> ∃ t p,e= .returned (.tuple #[.int .u64 18446744073709551615,.iface t p])/\Below w.heap.size w w'):
 ∀ args H r H',b2w args H=some (r,H')->a1x P cx f args H r H':=by
 intro args H r H' h
 unfold b2w at h
 split at h
 ·rename_i H0 s b n
  split at h
  ·rename_i hn
   obtain⟨⟨rfl,rfl⟩,hlen⟩:=hn
   have hsz:(⟨s.toArray⟩:ByteArray).size<=281474976710656:=by simpa [ByteArray.size] using hlen
   have hargs:∀ {g:Gh} {cargs:Array Value},a0t g H [.d (.str s),.d (.int .i64 10),.d (.int .i64 64)] cargs.toList->cargs= #[.string ⟨s.toArray⟩,.int .i64 10,.int .i64 64]:=by
    intro g cargs ra
    obtain⟨ys,e1,r1⟩:=c3t ra
    obtain⟨zs,e2,r2⟩:=c9m r1
    obtain⟨us,e3,r3⟩:=c9m r2
    rw[c3k r3]at e3
    rw[e3]at e2
    rw[e2]at e1
    apply Array.toList_inj.1;exact e1
   have rep:∀ (g:Gh) (u:Int) (b:Bool) (y:Value),((b=true/\y= .nilIface)\/(b=false/\∃ t p,y= .iface t p))->Rep g H (.tup [.d (.int .u64 u),.ifc b]) (.tuple #[.int .u64 u,y]):=by
    intro g u b y hy
    simp only[Rep,a0t]
    exact⟨_,rfl,_,_,rfl,by simp only[a2z,a0p],_,_,rfl,hy,rfl⟩
   split at h
   ·rename_i u hp
    cases h
    refine c3c (fun _=>rfl) hf fun g w cargs hI ra=>?_
    rw[hargs ra]
    refine(hok ⟨s.toArray⟩ hsz u hp w).mono fun e w' he=>?_
    exact⟨_,he.1,rep g u true _ (.inl ⟨rfl,rfl⟩),he.2⟩
   ·rename_i hp
    cases h
    refine c3c (fun _=>rfl) hf fun g w cargs hI ra=>?_
    rw[hargs ra]
    obtain⟨ev,hv,hev⟩:=h2.cell hI
    refine(hra ⟨s.toArray⟩ hsz hp ev w hv hev).mono fun e w' he=>?_
    obtain⟨t,p,h3,h4⟩:=he
    exact⟨_,h3,rep g _ false _ (.inr ⟨rfl,t,p,rfl⟩),h4⟩
   ·rename_i hp1 hp2
    cases h
    refine c3c (fun _=>rfl) hf fun g w cargs hI ra=>?_
    rw[hargs ra]
    obtain⟨ev,hv,hev⟩:=h1.cell hI
    refine(hsy ⟨s.toArray⟩ hsz hp1 hp2 ev w hv hev).mono fun e w' he=>?_
    obtain⟨t,p,h3,h4⟩:=he
    exact⟨_,h3,rep g 0 false _ (.inr ⟨rfl,t,p,rfl⟩),h4⟩
  ·cases h
 ·cases h
end
end Go.Vm

namespace Go.Vm
def g8p (F:List V->Hp->Option (V×Hp)):Prop:=∀ a h r h',F a h=some (r,h')->a0w 0 a=true/\r.und 0=true/\h'=h/\∀ H,F a H=some (r,H)
end Go.Vm
set_option maxRecDepth 100000
namespace Go.Vm.Ite
open Go Go.Vm Go.Proofs
theorem k3:a0i 3 Q3:={}
theorem k4:a0i 4 Q4:={}
theorem k5:a0i 5 Q5:={}
theorem k6:a0i 6 Q6:={}
theorem k8:a0i 8 Q8:={}
theorem k9:a0i 9 Q9:={}
theorem k10:a0i 10 Q10:={}
theorem k11:a0i 11 Q11:={}
theorem k12:a0i 12 Q12:={}
theorem k13:a0i 13 Q13:={}
theorem k21:a0i 21 Q21:={}
theorem k23:a0i 23 Q23:={}
theorem k24:a0i 24 Q24:={}
theorem k25:a0i 25 Q25:={}
theorem k26:a0i 26 Q26:={}
theorem k27:a0i 27 Q27:={}
theorem k28:a0i 28 Q28:={}
theorem k29:a0i 29 Q29:={}
theorem k30:a0i 30 Q30:={}
theorem k31:a0i 31 Q31:={}
theorem k32:a0i 32 Q32:={}
theorem k33:a0i 33 Q33:={}
theorem k41:a0i 41 Q41:={}
theorem k45:a0i 45 Q45:={}
theorem k46:a0i 46 Q46:={}
theorem k47:a0i 47 Q47:={}
theorem k48:a0i 48 Q48:={}
theorem k49:a0i 49 Q49:={}
theorem k50:a0i 50 Q50:={}
theorem k51:a0i 51 Q51:={}
theorem k52:a0i 52 Q52:={}
theorem k53:a0i 53 Q53:={}
theorem k60:a0i 60 Q60:={}
theorem k61:a0i 61 Q61:={}
theorem k62:a0i 62 Q62:={}
theorem k63:a0i 63 Q63:={}
theorem k64:a0i 64 Q64:={}
theorem k66:a0i 66 Q66:={}
theorem k67:a0i 67 Q67:={}
theorem k71:a0i 71 Q71:={}
theorem k72:a0i 72 Q72:={}
theorem k79:a0i 79 Q79:={}
theorem k80:a0i 80 Q80:={}
theorem k81:a0i 81 Q81:={}
theorem k82:a0i 82 Q82:={}
theorem k84:a0i 84 Q84:={}
theorem k85:a0i 85 Q85:={}
theorem k86:a0i 86 Q86:={}
theorem k87:a0i 87 Q87:={}
theorem k89:a0i 89 Q89:={}
theorem k94:a0i 94 Q94:={}
theorem k101:a0i 101 Q101:={}
theorem k102:a0i 102 Q102:={}
theorem k103:a0i 103 Q103:={}
theorem k104:a0i 104 Q104:={}
theorem k105:a0i 105 Q105:={}
theorem k106:a0i 106 Q106:={}
theorem k111:a0i 111 Q111:={}
theorem k112:a0i 112 Q112:={}
theorem k113:a0i 113 Q113:={}
theorem k114:a0i 114 Q114:={}
theorem k115:a0i 115 Q115:={}
theorem k122:a0i 122 Q122:={}
theorem k123:a0i 123 Q123:={}
theorem k125:a0i 125 Q125:={}
theorem k126:a0i 126 Q126:={}
theorem k127:a0i 127 Q127:={}
theorem k128:a0i 128 Q128:={}
theorem k129:a0i 129 Q129:={}
theorem k134:a0i 134 Q134:={}
theorem k135:a0i 135 Q135:={}
theorem k136:a0i 136 Q136:={}
theorem k137:a0i 137 Q137:={}
theorem k138:a0i 138 Q138:={}
theorem k147:a0i 147 Q147:={}
theorem k148:a0i 148 Q148:={}
theorem k149:a0i 149 Q149:={}
theorem k150:a0i 150 Q150:={}
theorem k151:a0i 151 Q151:={}
theorem k152:a0i 152 Q152:={}
theorem k160:a0i 160 Q160:={}
theorem k161:a0i 161 Q161:={}
theorem f3i (cx:Cx) (F:Nat->Option a1j) (hF:∀ f e,F f=some e->match e with| .prim p=> ∀ args H r H',p args H=some (r,H')->a1x Tryz.prog cx f args H r H'| .code _=>False):a3g Tryz.prog ⟨cx,(tbl F)⟩:=by
  intro f e h
  simp only at h
  unfold tbl at h
  split at h
  ·cases h;exact k3.ex Tryz.func3
  ·cases h;exact k4.ex Tryz.func4
  ·cases h;exact k5.ex Tryz.func5
  ·cases h;exact k6.ex Tryz.func6
  ·cases h;exact k8.ex Tryz.func8
  ·cases h;exact k9.ex Tryz.func9
  ·cases h;exact k10.ex Tryz.func10
  ·cases h;exact k11.ex Tryz.func11
  ·cases h;exact k12.ex Tryz.func12
  ·cases h;exact k13.ex Tryz.func13
  ·cases h;exact k21.ex Tryz.func21
  ·cases h;exact k23.ex Tryz.func23
  ·cases h;exact k24.ex Tryz.func24
  ·cases h;exact k25.ex Tryz.func25
  ·cases h;exact k26.ex Tryz.func26
  ·cases h;exact k27.ex Tryz.func27
  ·cases h;exact k28.ex Tryz.func28
  ·cases h;exact k29.ex Tryz.func29
  ·cases h;exact k30.ex Tryz.func30
  ·cases h;exact k31.ex Tryz.func31
  ·cases h;exact k32.ex Tryz.func32
  ·cases h;exact k33.ex Tryz.func33
  ·cases h;exact k41.ex Tryz.func41
  ·cases h;exact k45.ex Tryz.func45
  ·cases h;exact k46.ex Tryz.func46
  ·cases h;exact k47.ex Tryz.func47
  ·cases h;exact k48.ex Tryz.func48
  ·cases h;exact k49.ex Tryz.func49
  ·cases h;exact k50.ex Tryz.func50
  ·cases h;exact k51.ex Tryz.func51
  ·cases h;exact k52.ex Tryz.func52
  ·cases h;exact k53.ex Tryz.func53
  ·cases h;exact k60.ex Tryz.func60
  ·cases h;exact k61.ex Tryz.func61
  ·cases h;exact k62.ex Tryz.func62
  ·cases h;exact k63.ex Tryz.func63
  ·cases h;exact k64.ex Tryz.func64
  ·cases h;exact k66.ex Tryz.func66
  ·cases h;exact k67.ex Tryz.func67
  ·cases h;exact k71.ex Tryz.func71
  ·cases h;exact k72.ex Tryz.func72
  ·cases h;exact k79.ex Tryz.func79
  ·cases h;exact k80.ex Tryz.func80
  ·cases h;exact k81.ex Tryz.func81
  ·cases h;exact k82.ex Tryz.func82
  ·cases h;exact k84.ex Tryz.func84
  ·cases h;exact k85.ex Tryz.func85
  ·cases h;exact k86.ex Tryz.func86
  ·cases h;exact k87.ex Tryz.func87
  ·cases h;exact k89.ex Tryz.func89
  ·cases h;exact k94.ex Tryz.func94
  ·cases h;exact k101.ex Tryz.func101
  ·cases h;exact k102.ex Tryz.func102
  ·cases h;exact k103.ex Tryz.func103
  ·cases h;exact k104.ex Tryz.func104
  ·cases h;exact k105.ex Tryz.func105
  ·cases h;exact k106.ex Tryz.func106
  ·cases h;exact k111.ex Tryz.func111
  ·cases h;exact k112.ex Tryz.func112
  ·cases h;exact k113.ex Tryz.func113
  ·cases h;exact k114.ex Tryz.func114
  ·cases h;exact k115.ex Tryz.func115
  ·cases h;exact k122.ex Tryz.func122
  ·cases h;exact k123.ex Tryz.func123
  ·cases h;exact k125.ex Tryz.func125
  ·cases h;exact k126.ex Tryz.func126
  ·cases h;exact k127.ex Tryz.func127
  ·cases h;exact k128.ex Tryz.func128
  ·cases h;exact k129.ex Tryz.func129
  ·cases h;exact k134.ex Tryz.func134
  ·cases h;exact k135.ex Tryz.func135
  ·cases h;exact k136.ex Tryz.func136
  ·cases h;exact k137.ex Tryz.func137
  ·cases h;exact k138.ex Tryz.func138
  ·cases h;exact k147.ex Tryz.func147
  ·cases h;exact k148.ex Tryz.func148
  ·cases h;exact k149.ex Tryz.func149
  ·cases h;exact k150.ex Tryz.func150
  ·cases h;exact k151.ex Tryz.func151
  ·cases h;exact k152.ex Tryz.func152
  ·cases h;exact k160.ex Tryz.func160
  ·cases h;exact k161.ex Tryz.func161
  ·have:=hF f e h;split
   ·exact this
   ·exact absurd this id
theorem h3m (cx:Cx) (F:Nat->Option a1j) (hF:∀ f e,F f=some e->match e with| .prim p=>g8p p| .code _=>False):d2h ⟨cx,(tbl F)⟩:=by
  constructor
  ·intro f F h
   simp only at h
   unfold tbl at h
   split at h
   iterate 82 · cases h
   ·exact hF _ _ h
  ·intro f vf h
   simp only at h
   unfold tbl at h
   split at h
   ·cases h;exact k3.cst
   ·cases h;exact k4.cst
   ·cases h;exact k5.cst
   ·cases h;exact k6.cst
   ·cases h;exact k8.cst
   ·cases h;exact k9.cst
   ·cases h;exact k10.cst
   ·cases h;exact k11.cst
   ·cases h;exact k12.cst
   ·cases h;exact k13.cst
   ·cases h;exact k21.cst
   ·cases h;exact k23.cst
   ·cases h;exact k24.cst
   ·cases h;exact k25.cst
   ·cases h;exact k26.cst
   ·cases h;exact k27.cst
   ·cases h;exact k28.cst
   ·cases h;exact k29.cst
   ·cases h;exact k30.cst
   ·cases h;exact k31.cst
   ·cases h;exact k32.cst
   ·cases h;exact k33.cst
   ·cases h;exact k41.cst
   ·cases h;exact k45.cst
   ·cases h;exact k46.cst
   ·cases h;exact k47.cst
   ·cases h;exact k48.cst
   ·cases h;exact k49.cst
   ·cases h;exact k50.cst
   ·cases h;exact k51.cst
   ·cases h;exact k52.cst
   ·cases h;exact k53.cst
   ·cases h;exact k60.cst
   ·cases h;exact k61.cst
   ·cases h;exact k62.cst
   ·cases h;exact k63.cst
   ·cases h;exact k64.cst
   ·cases h;exact k66.cst
   ·cases h;exact k67.cst
   ·cases h;exact k71.cst
   ·cases h;exact k72.cst
   ·cases h;exact k79.cst
   ·cases h;exact k80.cst
   ·cases h;exact k81.cst
   ·cases h;exact k82.cst
   ·cases h;exact k84.cst
   ·cases h;exact k85.cst
   ·cases h;exact k86.cst
   ·cases h;exact k87.cst
   ·cases h;exact k89.cst
   ·cases h;exact k94.cst
   ·cases h;exact k101.cst
   ·cases h;exact k102.cst
   ·cases h;exact k103.cst
   ·cases h;exact k104.cst
   ·cases h;exact k105.cst
   ·cases h;exact k106.cst
   ·cases h;exact k111.cst
   ·cases h;exact k112.cst
   ·cases h;exact k113.cst
   ·cases h;exact k114.cst
   ·cases h;exact k115.cst
   ·cases h;exact k122.cst
   ·cases h;exact k123.cst
   ·cases h;exact k125.cst
   ·cases h;exact k126.cst
   ·cases h;exact k127.cst
   ·cases h;exact k128.cst
   ·cases h;exact k129.cst
   ·cases h;exact k134.cst
   ·cases h;exact k135.cst
   ·cases h;exact k136.cst
   ·cases h;exact k137.cst
   ·cases h;exact k138.cst
   ·cases h;exact k147.cst
   ·cases h;exact k148.cst
   ·cases h;exact k149.cst
   ·cases h;exact k150.cst
   ·cases h;exact k151.cst
   ·cases h;exact k152.cst
   ·cases h;exact k160.cst
   ·cases h;exact k161.cst
   ·exact absurd (hF _ _ h) id
end Go.Vm.Ite

namespace Go.Vm.Lex
def isL (c:UInt8):Bool:=decide (97<=c.toNat/\c.toNat<=122)||decide (65<=c.toNat/\c.toNat<=90)||decide (c.toNat=95)
def isD (c:UInt8):Bool:=decide (48<=c.toNat/\c.toNat<=57)
def c0l (c:UInt8):Bool:=isL c||isD c
def b6b:List (List UInt8):=[[102,110],[115,116,114,117,99,116],[101,110,117,109],[108,101,116],[109,117,116],[119,104,105,108,101],[105,102],[101,108,115,101],[109,97,116,99,104],[114,101,116,117,114,110],[98,114,101,97,107],[99,111,110,116,105,110,117,101],[116,114,117,101],[102,97,108,115,101],[105,54,52],[98,111,111,108],[66,111,120]]
def b7n (s:List UInt8):Bool:=decide (s∈b6b)
def hd0:List UInt8->UInt8
 |[]=>0
 |c::_=>c
def h3h (s:List UInt8):Bool:=decide (s≠[]) && decide (s≠[95]) && !isD (hd0 s) && s.all c0l
def g3g (s:List UInt8):Bool:=h3h s && decide (s.length<=64) && !b7n s
def a2h (s:List UInt8):Nat:=(s.takeWhile c0l).length
theorem a9l (c:UInt8) (r:List UInt8):a2h (c::r)=if c0l c then a2h r+1 else 0:=by
 unfold a2h;rw[List.takeWhile_cons];split<;>simp
theorem a9p:∀ s:List UInt8,a2h s<=s.length
 |[]=>Nat.le_refl _
 |c::r=>by rw[a9l];split<;>simp[a9p r]
theorem d1a {s:List UInt8} {i:Nat} {c:UInt8} (h:s[i]? =some c):a2h (s.drop i)=if c0l c then a2h (s.drop (i+1))+1 else 0:=by
 obtain⟨hi,he⟩:=List.getElem?_eq_some_iff.1 h
 rw[List.drop_eq_getElem_cons hi,he,a9l]
theorem d8p {s:List UInt8} {i:Nat} (h:s.length<=i):a2h (s.drop i)=0:=by rw[List.drop_eq_nil_of_le h];rfl
end Go.Vm.Lex
namespace Go.Vm.Ip
open Go.Vm.Lex
abbrev S:=List UInt8
structure Fld where
 n:S
 t:S
structure Nam where
 n:S
 fs:List Fld
structure Fnc where
 n:S
 ps:List Fld
 ms:List Bool
 r:S
 d:Int
structure Its where
 ss:List Nam
 es:List Nam
 fs:List Fnc
instance:Inhabited Fld:=⟨⟨[],[]⟩⟩
instance:Inhabited Nam:=⟨⟨[],[]⟩⟩
instance:Inhabited Fnc:=⟨⟨[],[],[],[],0⟩⟩
abbrev mx:Nat:=140737488355328
def pos (l:List S) (s:S):Option Nat:=l.findIdx? (· ==s)
def nS (x:Its):List S:=x.ss.map Nam.n
def nE (x:Its):List S:=x.es.map Nam.n
end Go.Vm.Ip
namespace Go.Vm
@[simp] theorem h5t (a b:V) (h:Hp):e5q (.d (.bool true)) a b h=some (a,h):=rfl
@[simp] theorem h6g (a b:V) (h:Hp):e5q (.d (.bool false)) a b h=some (b,h):=rfl
theorem e0g:∀ l:List D,b6m (l.map V.d)=some l
 |[]=>rfl
 |x::l=>by simp[b6m,e0g l]
@[simp] theorem d1n (l:List D):a9w (l.map V.d)= .d (.agg l):=by simp only[a9w,e0g]
@[simp] theorem h1l (n off:Nat) (l:List D):a5q (some n) (l.map V.d) off=if off+n<=l.length then some (.d (.agg ((l.drop off).take n))) else none:=by
 simp only[a5q,List.length_map]
 rw[<-List.map_drop,<-List.map_take,d1n]
@[simp] theorem g5v (off:Nat) (l:List D):a5q none (l.map V.d) off=(l[off]?).map V.d:=by simp[a5q]
theorem e7m (off:Nat) (l:List V):a5q none l off=l[off]? :=rfl
theorem e3x (n off:Nat) (l:List V):a5q (some n) l off=if off+n<=l.length then some (a9w ((l.drop off).take n)) else none:=rfl
def d9a (o:Option Ob) (n:Option Nat) (off:Nat):Option V:=match o with
 |some (.box c)=>a5q n c off
 |some (.frz c)=>a5q n (c.map V.d) off
 |_=>none
@[simp] theorem e2h (c:List V) (n:Option Nat) (off:Nat):d9a (some (.box c)) n off=a5q n c off:=rfl
@[simp] theorem e2d (c:List D) (n:Option Nat) (off:Nat):d9a (some (.frz c)) n off=a5q n (c.map V.d) off:=rfl
@[simp] theorem d4u (H:Hp) (n:Option Nat) (id off:Nat):b7p H n (.ptr id off)=d9a H[id]? n off:=by
 simp only[b7p,a9d,d9a]
 cases H[id]? with
 |none=>rfl
 |some o=>cases o<;>rfl
@[simp] theorem h7i (H:Hp) (n:Option Nat) (l:List D) (off:Nat):b7p H n (.ro l off)=a5q n (l.map V.d) off:=rfl
def e5d (b:Nat) (H:Hp) (n id off:Nat) (x:V) (o:Option Ob):Option Hp:=match o with
 |some (.box c)=>if x.cells.length=n/\off+n<=c.length/\x.cells.all V.one/\(a0w id x.cells||decide (b<=id)||b0s c off x.cells) then some (H.set id (.box (putAt c off x.cells))) else none
 |_=>none
@[simp] theorem g2c (b:Nat) (H:Hp) (n id off:Nat) (x:V) (c:List V):e5d b H n id off x (some (.box c))=if x.cells.length=n/\off+n<=c.length/\x.cells.all V.one/\(a0w id x.cells||decide (b<=id)||b0s c off x.cells) then some (H.set id (.box (putAt c off x.cells))) else none:=rfl
@[simp] theorem g6j (b:Nat) (H:Hp) (n id off:Nat) (x:V):c2g b H n (.ptr id off) x=e5d b H n id off x H[id]? :=rfl
@[simp] theorem h6y:b6m []=some []:=rfl
@[simp] theorem h2h (x:D) (l:List V):b6m (.d x::l)=(b6m l).map (x:: ·):=rfl
def f9q (o:Option (List D)) (l:List V):V:=match o with|some ds=> .d (.agg ds)|none=> .agg l
@[simp] theorem g5q (ds:List D) (l:List V):f9q (some ds) l= .d (.agg ds):=rfl
@[simp] theorem g6l (l:List V):f9q none l= .agg l:=rfl
@[simp] theorem h7x:a9w []= .d (.agg []):=rfl
@[simp] theorem i0t (x:V) (l:List V):a9w (x::l)=f9q (b6m (x::l)) (x::l):=rfl
@[simp] theorem h4l (i o:Nat) (l:List V):b6m (.ptr i o::l)=none:=rfl
@[simp] theorem h6h (i o:Nat) (l:List V):b6m (.row i o::l)=none:=rfl
@[simp] theorem g9h (l:List V):b6m (.nils::l)=none:=rfl
@[simp] theorem h5n (l:List V):b6m (.nul::l)=none:=rfl
@[simp] theorem h8x (f:Nat) (c l:List V):b6m (.fn f c::l)=none:=rfl
attribute [simp] e7q boxV
@[simp] theorem h1r (c:List V) (n:Nat):putAt c n []=c:=by cases c<;>cases n<;>rfl
@[simp] theorem g5z (c v:V) (cs vs:List V):putAt (c::cs) 0 (v::vs)=v::putAt cs 0 vs:=rfl
@[simp] theorem g5t (c v:V) (cs vs:List V) (n:Nat):putAt (c::cs) (n+1) (v::vs)=c::putAt cs n (v::vs):=rfl
@[simp] theorem e2x:∀ (c v:List V),v.length=c.length->putAt c 0 v=v
 |[],[],_=>rfl
 |[],_::_,h=>by simp at h
 |_::_,[],h=>by simp at h
 |c::cs,v::vs,h=>by simp[e2x cs vs (by simpa using h)]
@[simp] theorem h2e (n:Nat):a4k n []=true:=rfl
@[simp] theorem g7o (n:Nat) (c:List V) (l:Hp):a4k n (.box c::l)=(a0w n c && a4k n l):=rfl
@[simp] theorem g7l (n:Nat) (c:List D) (l:Hp):a4k n (.frz c::l)=a4k n l:=rfl
@[simp] theorem g7v (n z:Nat) (c:List D) (l:Hp):a4k n (.row z c::l)=a4k n l:=rfl
open Classical in
noncomputable def pre (h h':Hp):Bool:=decide (∃ l,h'=h++l)
@[simp] theorem pre_nil (h:Hp):pre [] h=true:=by simp[pre]
@[simp] theorem h6c (h:Hp):pre h h=true:=by simp[pre]
@[simp] theorem i1t (h l:Hp):pre h (h++l)=true:=by simp[pre]
@[simp] theorem h7n (o:Ob) (h h':Hp):pre (o::h) (o::h')=pre h h':=by simp[pre]
@[simp] theorem h4i (h l l':Hp):pre (h++l) (h++l')=pre l l':=by simp[pre]
theorem g4k (h h':Hp):grew h h'=(pre h h' && a4k h'.length (h'.drop h.length)):=rfl
@[simp] theorem g6f (k:IntKind) (n:Int):a3z (.d (.int k n))=if 0<=n then some n.toNat else none:=rfl
theorem f0h (v:V):oneOf [v]=v:=rfl
theorem f1t (u v:V) (l:List V):oneOf (u::v::l)= .tup (u::v::l):=rfl
@[simp] theorem f4w (n:Nat):∀ l:List D,a0w n (l.map V.d)=true
 |[]=>rfl
 |x::l=>by simp[f4w n l]
@[simp] theorem h1u (e:Env) (h:Hp):a9u e h []=some []:=rfl
def resC (v:Option V) (vs:Option (List V)):Option (List V):=match v,vs with|some v,some vs=>some (v::vs)|_,_=>none
@[simp] theorem d3w (v:V) (vs:List V):resC (some v) (some vs)=some (v::vs):=rfl
@[simp] theorem c8a (e:Env) (h:Hp) (r:d1x) (l:List d1x):a9u e h (r::l)=resC (f1u e h r) (a9u e h l):=rfl
@[simp] theorem f5j (e:Env) (h:Hp) (t:Nat):f1u e h (.tmp t)=some (a1k e t):=rfl
@[simp] theorem e8i (e:Env) (h:Hp) (t:Nat) (n:Option Nat):f1u e h (.cell t n)=b7p h n (a1k e t):=rfl
def lv (keep:Bool) (h0:Nat) (h:Hp) (r:Option (List V)):Option (V×Hp):=match r with
 |none=>none
 |some vs=>if keep then some (oneOf vs,h) else if a0w h0 (vs.map (toArg h)) then some (oneOf (vs.map (toArg h)),h.take h0) else none
@[simp] theorem f9n (h0:Nat) (h:Hp) (vs:List V):lv false h0 h (some vs)=if a0w h0 (vs.map (toArg h)) then some (oneOf (vs.map (toArg h)),h.take h0) else none:=rfl
@[simp] theorem h8a (h0:Nat) (h:Hp) (vs:List V):lv true h0 h (some vs)=some (oneOf vs,h):=rfl
@[simp] theorem f5n (vf:VFn) (h0:Nat) (s:St):leave vf h0 s=lv vf.keep h0 s.h (a9u s.e s.h vf.res):=by
 unfold leave lv
 cases a9u s.e s.h vf.res<;>rfl
attribute [simp] g4k f0h f1t e7m
attribute [simp low] e3x
@[simp] theorem g6q (l:List D) (n k:Nat):a9w (((l.map V.d).drop n).take k)= .d (.agg ((l.drop n).take k)):=by rw[<-List.map_drop,<-List.map_take,d1n]
def a6v:Nat->List V->Env
 |_,[]=>[]
 |k,v::l=>(k,v)::a6v (k+1) l
theorem c2l:∀ (l:List V) (k:Nat),a6v k l=(List.range' k l.length).map fun i=>(i,l.getD (i - k) .undef)
  |[],k=>rfl
  |v::l,k=>by
   simp only[a6v,List.length_cons,List.range'_succ,List.map_cons,Nat.sub_self,List.getD_cons_zero,List.cons.injEq,true_and]
   rw[c2l l (k+1)]
   apply List.map_congr_left
   intro i hi
   have:=List.mem_range'_1.1 hi
   rw[show i - k=(i - (k+1))+1 by omega,List.getD_cons_succ]
@[simp] theorem a4o (l:List V):a1a l=a6v 0 l:=by rw[c2l,a1a,List.range_eq_range'];rfl
@[simp] theorem f7a (k:Nat):a6v k []=[]:=rfl
@[simp] theorem f1y (k:Nat) (v:V) (l:List V):a6v k (v::l)=(k,v)::a6v (k+1) l:=rfl
def i0d (k:IntKind) (a b:Int):Int:=k.wrap (BitVec.ofInt k.bits a &&& BitVec.ofInt k.bits b).toNat
def orI (k:IntKind) (a b:Int):Int:=k.wrap (BitVec.ofInt k.bits a|||BitVec.ofInt k.bits b).toNat
def i2c (k:IntKind) (a b:Int):Int:=k.wrap (BitVec.ofInt k.bits a ^^^ BitVec.ofInt k.bits b).toNat
def h8f (k:IntKind) (a b:Int):Int:=k.wrap (BitVec.ofInt k.bits a &&& ~~~BitVec.ofInt k.bits b).toNat
def shlI (k:IntKind) (a b:Int):Int:=k.wrap (a*2 ^ (min b.toNat k.bits))
def shrI (k:IntKind) (a b:Int):Int:=a.fdiv (2 ^ (min b.toNat k.bits))
section
variable (k k':IntKind) (a b:Int)
@[simp] theorem h4o:a7n .add (.d (.int k a)) (.d (.int k b))=some (.d (.int k (k.wrap (a+b)))):=by simp[a7n]
@[simp] theorem h7l:a7n .sub (.d (.int k a)) (.d (.int k b))=some (.d (.int k (k.wrap (a - b)))):=by simp[a7n]
@[simp] theorem h5m:a7n .mul (.d (.int k a)) (.d (.int k b))=some (.d (.int k (k.wrap (a*b)))):=by simp[a7n]
@[simp] theorem h5i:a7n .quo (.d (.int k a)) (.d (.int k b))=if b=0 then none else some (.d (.int k (k.wrap (a.tdiv b)))):=by by_cases h:b=0<;>simp[a7n,h]
@[simp] theorem h7h:a7n .rem (.d (.int k a)) (.d (.int k b))=if b=0 then none else some (.d (.int k (a.tmod b))):=by by_cases h:b=0<;>simp[a7n,h]
@[simp] theorem h7k:a7n .and (.d (.int k a)) (.d (.int k b))=some (.d (.int k (i0d k a b))):=by simp[a7n,c9c,i0d]
@[simp] theorem h9l:a7n .or (.d (.int k a)) (.d (.int k b))=some (.d (.int k (orI k a b))):=by simp[a7n,c9c,orI]
@[simp] theorem h6j:a7n .xor (.d (.int k a)) (.d (.int k b))=some (.d (.int k (i2c k a b))):=by simp[a7n,c9c,i2c]
@[simp] theorem h5d:a7n .andNot (.d (.int k a)) (.d (.int k b))=some (.d (.int k (h8f k a b))):=by simp[a7n,c9c,h8f]
@[simp] theorem h6f:a7n .shl (.d (.int k a)) (.d (.int k' b))=if 0<=b then some (.d (.int k (shlI k a b))) else none:=rfl
@[simp] theorem h5e:a7n .shr (.d (.int k a)) (.d (.int k' b))=if 0<=b then some (.d (.int k (shrI k a b))) else none:=rfl
@[simp] theorem h4w:a7n .eql (.d (.int k a)) (.d (.int k b))=some (.d (.bool (decide (a=b)))):=by simp[a7n];by_cases h:a=b<;>simp[h]
@[simp] theorem h6p:a7n .neq (.d (.int k a)) (.d (.int k b))=some (.d (.bool (!decide (a=b)))):=by simp[a7n];by_cases h:a=b<;>simp[h,bne]
@[simp] theorem h4r:a7n .lss (.d (.int k a)) (.d (.int k b))=some (.d (.bool (decide (a < b)))):=by simp[a7n]
@[simp] theorem h6z:a7n .leq (.d (.int k a)) (.d (.int k b))=some (.d (.bool (decide (a<=b)))):=by simp[a7n]
@[simp] theorem h6m:a7n .gtr (.d (.int k a)) (.d (.int k b))=some (.d (.bool (decide (b < a)))):=by simp[a7n]
@[simp] theorem h6d:a7n .geq (.d (.int k a)) (.d (.int k b))=some (.d (.bool (decide (b<=a)))):=by simp[a7n]
@[simp] theorem g8f (s t:List UInt8):a7n .add (.d (.str s)) (.d (.str t))=if s.length+t.length<=9223372036854775807 then some (.d (.str (s++t))) else none:=rfl
@[simp] theorem h1t (s t:List UInt8):a7n .eql (.d (.str s)) (.d (.str t))=some (.d (.bool (decide (s=t)))):=by simp[a7n];by_cases h:s=t<;>simp[h]
@[simp] theorem h2p (s t:List UInt8):a7n .neq (.d (.str s)) (.d (.str t))=some (.d (.bool (!decide (s=t)))):=by simp[a7n];by_cases h:s=t<;>simp[h]
@[simp] theorem i0z:unV .neg (.d (.int k a))=some (.d (.int k (k.wrap (0 - a)))):=rfl
@[simp] theorem h9a (b:Bool):unV .not (.d (.bool b))=some (.d (.bool !b)):=rfl
end
end Go.Vm
namespace Go.Vm
theorem a2x {n:Int} (h: -9223372036854775808<=n/\n<=9223372036854775807):IntKind.i64.wrap n=n:=by
 simp only[IntKind.wrap,IntKind.bits,IntKind.signed];simp;omega
theorem h9s {n:Int} (h:0<=n/\n<=18446744073709551615):IntKind.u64.wrap n=n:=by
 simp only[IntKind.wrap,IntKind.bits,IntKind.signed];simp;omega
theorem u8w {n:Int} (h:0<=n/\n<=255):IntKind.u8.wrap n=n:=by
 simp only[IntKind.wrap,IntKind.bits,IntKind.signed];simp;omega
end Go.Vm
namespace Go.Vm
theorem g6m {a b:Nat} (h:a=b):Nat.beq a b=true:=by subst h;exact Nat.beq_refl a
theorem f9u {a b:Nat} (h:a≠b):Nat.beq a b=false:=by
 cases hb:Nat.beq a b with
 |false=>rfl
 |true=>exact absurd (Nat.eq_of_beq_eq_true hb) h
noncomputable def gE (e:Env):Nat->V:=List.rec (motive:=fun _=>Nat->V) (fun _=> .undef) (fun p _ ih i=>match Nat.beq p.1 i with|true=>p.2|false=>ih i) e
theorem b5v:∀ (e:Env) (i:Nat),gE e i=a1k e i
 |[],_=>rfl
 |(k,v)::r,i=>by
  show(match Nat.beq k i with|true=>v|false=>gE r i)=a1k ((k,v)::r) i
  unfold a1k
  by_cases h:k=i
  ·rw[if_pos h,g6m h]
  ·rw[if_neg h,f9u h]
   exact b5v r i
noncomputable def gO (cx:Cx) (e:Env):Opd->V
 | .t i=>gE e i
 | .c v=>v
 | .g i=> .ro (cx.gv i) 0
 | .f i=> .fn i []
theorem c2q (cx:Cx) (e:Env) (o:Opd):gO cx e o=evO cx e o:=by cases o<;>simp only[gO,evO,b5v]
section
variable {α:Type}
noncomputable def a1g (l:List α):(List α->Prop)->Prop:=List.rec (motive:=fun _=>(List α->Prop)->Prop) (fun k=>k []) (fun a _ ih k=>ih fun r'=>k (a::r')) l
theorem a0o:∀ (l:List α) (k:List α->Prop),a1g l k=k l
 |[],_=>rfl
 |a::r,k=>a0o r fun r'=>k (a::r')
noncomputable def d4x (l:List α):Nat->(Nat->Prop)->Prop:=List.rec (motive:=fun _=>Nat->(Nat->Prop)->Prop) (fun n k=>k n) (fun _ _ ih n k=>ih (n+1) k) l
theorem a7k:∀ (l:List α) (n:Nat) (k:Nat->Prop),d4x l n k=k (n+l.length)
 |[],_,_=>rfl
 |a::r,n,k=>by rw[show d4x (a::r) n k=d4x r (n+1) k from rfl,a7k r,List.length_cons,Nat.add_assoc,Nat.add_comm 1]
noncomputable def b2o (l:List α):Nat->(α->Prop)->Prop:=List.rec (motive:=fun _=>Nat->(α->Prop)->Prop) (fun _ _=>False) (fun a _ ih n k=>match n with|0=>k a|n+1=>ih n k) l
theorem a1t:∀ (l:List α) (n:Nat) (k:α->Prop),b2o l n k↔∃ a,l[n]? =some a/\k a
 |[],n,k=>by rw[show b2o [] n k=False from rfl];simp
 |a::r,0,k=>by rw[show b2o (a::r) 0 k=k a from rfl];simp
 |a::r,n+1,k=>by rw[show b2o (a::r) (n+1) k=b2o r n k from rfl];simp[a1t r n k]
theorem d0d {l:List α} {n:Nat} {a:α} (h:l[n]? =some a) {k:α->Prop} (hk:k a):b2o l n k:=(a1t l n k).2 ⟨a,h,hk⟩
end
def b3y (v:V) (k:V->Prop):Prop:=match v with
 | .d (.bool b)=>k (.d (.bool b))
 | .d (.int kk n)=>k (.d (.int kk n))
 | .d (.str s)=>k (.d (.str s))
 | .d (.sl l)=>k (.d (.sl l))
 | .d (.agg l)=>k (.d (.agg l))
 | .agg l=>k (.agg l)
 | .tup l=>k (.tup l)
 | .nils=>k .nils
 | .row i n=>k (.row i n)
 | .arr i o n=>k (.arr i o n)
 | .ptr i o=>k (.ptr i o)
 | .ro l o=>k (.ro l o)
 | .fn f c=>k (.fn f c)
 | .fm f c=>k (.fm f c)
 | .nul=>k .nul
 | .nof=>k .nof
 | .ifc b=>k (.ifc b)
 | .raw x=>k (.raw x)
 | .nmp=>k .nmp
 | .nile=>k .nile
 | .mp i=>k (.mp i)
 | .undef=>k .undef
theorem b9y (v:V) (k:V->Prop):b3y v k=k v:=by
 cases v with
 |d x=>cases x<;>rfl
 |_=>rfl
def chk (b:Bool) (p:Prop):Prop:=match b with|true=>p|false=>False
theorem a2o (b:Bool) (p:Prop):chk b p↔b=true/\p:=by cases b<;>simp[chk]
theorem g8u {b:Bool} {p:Prop} (h:b=true) (hp:p):chk b p:=(a2o b p).2 ⟨h,hp⟩
noncomputable def h6r (l:List V) (k:V->Prop):Prop:=match b6m l with
 |some ds=>a1g ds fun ds=>k (.d (.agg ds))
 |none=>a1g l fun l=>k (.agg l)
theorem e9a (l:List V) (k:V->Prop):h6r l k=k (a9w l):=by
 unfold h6r a9w
 cases b6m l<;>simp only[a0o]
noncomputable def c4u (n:Option Nat) (c:List V) (off:Nat) (k:V->Prop):Prop:=match n with
 |none=>b2o c off k
 |some n=>chk (Nat.ble (off+n) c.length) (h6r ((c.drop off).take n) k)
theorem a9j (n:Option Nat) (c:List V) (off:Nat) (k:V->Prop):c4u n c off k↔∃ v,a5q n c off=some v/\k v:=by
 cases n with
 |none=>exact a1t ..
 |some n=>
  simp only[c4u,a5q,a2o,e9a,Nat.ble_eq]
  by_cases h:off+n<=c.length<;>simp[h]
noncomputable def h5v (H:Hp) (l:List V):(List D->Prop)->Prop->Prop:=List.rec (motive:=fun _=>(List D->Prop)->Prop->Prop) (fun k _=>k []) (fun v _ ih k alt=>match v with
  | .d x=>ih (fun ds=>k (x::ds)) alt
  | .nils=>ih (fun ds=>k (.sl []::ds)) alt
  | .nile=>ih (fun ds=>k (.sl []::ds)) alt
  | .row id len=>b2o H id fun o=>match o with
    | .row _ l=>l.length=len/\ih (fun ds=>k (.sl l::ds)) alt
    |_=>False
  |_=>alt) l
theorem e1b (H:Hp):∀ (l:List V) (k:List D->Prop) (alt:Prop),h5v H l k alt->(∃ ds,e4x H l=some ds/\k ds)\/alt
 |[],k,alt,h=> .inl ⟨[],rfl,h⟩
 |v::r,k,alt,h=>by
  have go:∀ x,b1i H v=some x->h5v H r (fun ds=>k (x::ds)) alt->(∃ ds,e4x H (v::r)=some ds/\k ds)\/alt:=by
    intro x hx h
    rcases e1b H r _ alt h with⟨ds,h1,h2⟩|h
    ·exact .inl ⟨x::ds,by simp only[e4x,hx,h1],h2⟩
    ·exact .inr h
  cases v with
  |d x=>exact go x rfl h
  |nils=>exact go _ rfl h
  |nile=>exact go _ rfl h
  |row id len=>
   have h:b2o H id fun o=>match o with
     | .row _ l=>l.length=len/\h5v H r (fun ds=>k (.sl l::ds)) alt
     |_=>False:=h
   obtain⟨o,ho,h⟩:=(a1t ..).1 h
   cases o with
   |row sz l=>
    obtain⟨h1,h2⟩:=h
    exact go (.sl l) (by simp only[b1i,ho,h1,if_true]) h2
   |_=>cases h
  |_=>exact .inr h
noncomputable def e7h (H:Hp) (v:V) (k:V->Prop):Prop:=match v with
 | .d x=>k (.d x)
 | .nils=>k (.d (.sl []))
 | .nile=>k (.d (.sl []))
 | .row id len=>b2o H id fun o=>match o with
   | .row _ l=>l.length=len/\k (.d (.sl l))
   |_=>False
 | .arr id off len=>b2o H id fun o=>match o with
   | .frz c=>off+len<=c.length/\k (.d (.sl ((c.drop off).take len)))
   |o=>k (toArg H (.arr id off len))
 | .ptr i o=>k (.ptr i o)
 | .fn f c=>k (.fn f c)
 | .fm f c=>k (.fm f c)
 | .nul=>k .nul
 | .nof=>k .nof
 | .ifc b=>k (.ifc b)
 | .raw x=>k (.raw x)
 | .nmp=>k .nmp
 | .mp i=>k (.mp i)
 | .agg l=>h5v H l (fun ds=>k (.d (.agg ds))) (k (toArg H (.agg l)))
 |v=>k (toArg H v)
theorem c8o (H:Hp) (v:V) (k:V->Prop) (h:e7h H v k):k (toArg H v):=by
 unfold e7h at h
 cases v with
 |row id len=>
  obtain⟨o,ho,h⟩:=(a1t ..).1 h
  cases o with
  |row sz l=>
   obtain⟨h1,h2⟩:=h
   simp only[toArg,toD,b1i,ho,h1,if_true];exact h2
  |_=>cases h
 |arr id off len=>
  obtain⟨o,ho,h⟩:=(a1t ..).1 h
  cases o with
  |frz c=>
   obtain⟨h1,h2⟩:=h
   simp only[toArg,toD,b1i,ho,if_pos h1];exact h2
  |_=>exact h
 |agg l=>
  rcases e1b H l _ _ h with⟨ds,h1,h2⟩|h
  ·simp only[toArg,toD,h1,Option.map_some];exact h2
  ·exact h
 |_=>exact h
noncomputable def d2g (cx:Cx) (e:Env) (H:Hp) (l:List Opd):(List V->Prop)->Prop:=List.rec (motive:=fun _=>(List V->Prop)->Prop) (fun k=>k []) (fun x _ ih k=>e7h H (gO cx e x) fun v=>ih fun vs=>k (v::vs)) l
theorem a8v (cx:Cx) (e:Env) (H:Hp):∀ (l:List Opd) (k:List V->Prop),d2g cx e H l k->k (l.map fun x=>toArg H (evO cx e x))
  |[],_,h=>h
  |x::r,k,h=>by
   have h:e7h H (gO cx e x) fun v=>d2g cx e H r fun vs=>k (v::vs):=h
   have:=a8v cx e H r _ (c8o _ _ _ h)
   rw[c2q]at this
   exact this
def g9r (y:Opd) (b:Int) (p:Prop):Prop:=match y with
 | .c _=>chk (decide (0<=b)) p
 |_=>0<=b/\p
theorem d9j (y:Opd) (b:Int) (p:Prop):g9r y b p↔0<=b/\p:=by cases y<;>simp[g9r,a2o]
def nzK (y:Opd) (b:Int) (p:Prop):Prop:=match y with
 | .c _=>chk (decide (b≠0)) p
 |_=>b≠0/\p
theorem g1t (y:Opd) (b:Int) (p:Prop):nzK y b p↔b≠0/\p:=by cases y<;>simp[nzK,a2o]
noncomputable def i0f (op:BinOp) (y:Opd) (vx vy:V) (k:V->Prop):Prop:=match vx,vy with
 | .d (.int k1 a),.d (.int k2 b)=>match op with
   | .shl=>g9r y b (k (.d (.int k1 (shlI k1 a b))))
   | .shr=>g9r y b (k (.d (.int k1 (shrI k1 a b))))
   | .add=>chk (decide (k1=k2)) (k (.d (.int k1 (k1.wrap (a+b)))))
   | .sub=>chk (decide (k1=k2)) (k (.d (.int k1 (k1.wrap (a - b)))))
   | .mul=>chk (decide (k1=k2)) (k (.d (.int k1 (k1.wrap (a*b)))))
   | .quo=>chk (decide (k1=k2)) (nzK y b (k (.d (.int k1 (k1.wrap (a.tdiv b))))))
   | .rem=>chk (decide (k1=k2)) (nzK y b (k (.d (.int k1 (a.tmod b)))))
   | .and=>chk (decide (k1=k2)) (k (.d (.int k1 (i0d k1 a b))))
   | .or=>chk (decide (k1=k2)) (k (.d (.int k1 (orI k1 a b))))
   | .xor=>chk (decide (k1=k2)) (k (.d (.int k1 (i2c k1 a b))))
   | .andNot=>chk (decide (k1=k2)) (k (.d (.int k1 (h8f k1 a b))))
   | .eql=>chk (decide (k1=k2)) (k (.d (.bool (decide (a=b)))))
   | .neq=>chk (decide (k1=k2)) (k (.d (.bool (!decide (a=b)))))
   | .lss=>chk (decide (k1=k2)) (k (.d (.bool (decide (a < b)))))
   | .leq=>chk (decide (k1=k2)) (k (.d (.bool (decide (a<=b)))))
   | .gtr=>chk (decide (k1=k2)) (k (.d (.bool (decide (b < a)))))
   | .geq=>chk (decide (k1=k2)) (k (.d (.bool (decide (b<=a)))))
 | .d (.str a),.d (.str b)=>match op with
   | .add=>a.length+b.length<=9223372036854775807/\k (.d (.str (a++b)))
   | .eql=>k (.d (.bool (decide (a=b))))
   | .neq=>k (.d (.bool (!decide (a=b))))
   |_=>False
 |_,_=>False
theorem f3w (op:BinOp) (y:Opd) (vx vy:V) (k:V->Prop) (h:i0f op y vx vy k):∃ v,a7n op vx vy=some v/\k v:=by
 unfold i0f at h
 split at h
 ·rename_i k1 a k2 b
  cases op<;>simp only[d9j,a2o,g1t,decide_eq_true_eq]at h<;>first
   |(obtain⟨rfl,h0,h⟩:=h;refine⟨_,?_,h⟩;simp[h0];done)
   |(obtain⟨rfl,h⟩:=h;refine⟨_,?_,h⟩;simp;done)
   |(obtain⟨h0,h⟩:=h;refine⟨_,?_,h⟩;simp[h0];done)
 ·rename_i a b
  cases op<;>first
   |(cases h;done)
   |(obtain⟨h0,h⟩:=h;refine⟨_,?_,h⟩;simp[h0];done)
   |(refine⟨_,?_,h⟩;simp;done)
 ·cases h
noncomputable def g6s (H:Hp) (v:V) (k:List D->Prop):Prop:=match v with
 | .d (.sl l)=>k l
 | .nils=>k []
 | .nile=>k []
 | .row id len=>b2o H id fun o=>match o with
   | .row _ l=>l.length=len/\k l
   |_=>False
 | .arr id off len=>b2o H id fun o=>match o with
   | .frz c=>off+len<=c.length/\k ((c.drop off).take len)
   |_=>False
 |v=> ∃ l,lsize H v=some l/\k l
theorem c9z (H:Hp) (v:V) (k:List D->Prop) (h:g6s H v k):∃ l,lsize H v=some l/\k l:=by
 unfold g6s at h
 split at h
 ·exact⟨_,rfl,h⟩
 ·exact⟨_,rfl,h⟩
 ·exact⟨_,rfl,h⟩
 ·rename_i id len
  obtain⟨o,ho,h⟩:=(a1t ..).1 h
  cases o with
  |row sz l=>
   obtain⟨h1,h2⟩:=h
   exact⟨l,by simp only[lsize,b1i,ho,h1,if_true],h2⟩
  |_=>cases h
 ·rename_i id off len
  obtain⟨o,ho,h⟩:=(a1t ..).1 h
  cases o with
  |frz c=>
   obtain⟨h1,h2⟩:=h
   exact⟨_,by simp only[lsize,b1i,ho,if_pos h1],h2⟩
  |_=>cases h
 ·exact h
noncomputable def c7q (cx:Cx) (e:Env) (d:Nat) (o:Option Opd) (k:Nat->Prop):Prop:=match o with
 |none=>k d
 |some x=>match gO cx e x with
  | .d (.int _ n)=>g9r x n (k n.toNat)
  |_=>False
theorem b4z (cx:Cx) (e:Env) (d:Nat) (o:Option Opd) (k:Nat->Prop) (h:c7q cx e d o k):∃ n,a0q.bound cx e d o=some n/\k n:=by
 unfold c7q at h
 split at h
 ·exact⟨_,rfl,h⟩
 ·rename_i x
  rw[c2q]at h
  split at h
  ·rename_i k n hx
   obtain⟨h0,h⟩:=(d9j ..).1 h
   exact⟨_,by simp only[a0q.bound,hx,a3z,if_pos h0],h⟩
  ·cases h
def dK (H:Hp) (v:V) (k:D->Prop):Prop:=match v with
 | .d x=>k x
 | .nils=>k (.sl [])
 | .nile=>k (.sl [])
 |v=> ∃ x,toD H v=some x/\k x
theorem e7s {H:Hp} {v:V} {k:D->Prop} (h:dK H v k):∃ x,toD H v=some x/\k x:=by
 unfold dK at h
 split at h
 ·exact⟨_,rfl,h⟩
 ·exact⟨_,rfl,h⟩
 ·exact⟨_,rfl,h⟩
 ·exact h
noncomputable def dsK (cx:Cx) (e:Env) (H:Hp) (l:List Opd):(List D->Prop)->Prop:=List.rec (motive:=fun _=>(List D->Prop)->Prop) (fun k=>k []) (fun x _ ih k=>dK H (gO cx e x) fun v=>ih fun vs=>k (v::vs)) l
theorem d7v {cx:Cx} {e:Env} {H:Hp}:∀ {l:List Opd} {k:List D->Prop},dsK cx e H l k->∃ ds,a0q.toDs' cx e H l=some ds/\k ds
 |[],_,h=>⟨[],rfl,h⟩
 |x::r,k,h=>by
  have h:dK H (gO cx e x) fun v=>dsK cx e H r fun vs=>k (v::vs):=h
  obtain⟨y,hy,h⟩:=e7s h
  obtain⟨ys,hys,h⟩:=d7v h
  rw[c2q]at hy
  exact⟨y::ys,by simp only[a0q.toDs',hy,hys],h⟩
noncomputable def look (l:List (Nat×Bool)):Nat->Option Bool:=List.rec (motive:=fun _=>Nat->Option Bool) (fun _=>none) (fun p _ ih i=>match Nat.beq p.1 i with|true=>some p.2|false=>ih i) l
theorem c6g (g:Nat) (b:Bool) (r:List (Nat×Bool)) (i:Nat):look ((g,b)::r) i=match Nat.beq g i with|true=>some b|false=>look r i:=rfl
noncomputable def forget (l:List (Nat×Bool)):Nat->List (Nat×Bool):=List.rec (motive:=fun _=>Nat->List (Nat×Bool)) (fun _=>[]) (fun p _ ih i=>match Nat.beq p.1 i with|true=>ih i|false=>p::ih i) l
theorem d6f (g:Nat) (b:Bool) (r:List (Nat×Bool)) (i:Nat):forget ((g,b)::r) i=match Nat.beq g i with|true=>forget r i|false=>(g,b)::forget r i:=rfl
section
variable (pg:Pg)
noncomputable def wpO (kn:List (Nat×Bool)) (b:Nat) (e:Env) (H:Hp) (o:VOp) (k:V->Hp->Prop):Prop:=match o with
 | .mv x=>b3y (gO pg.toCx e x) fun v=>k v H
 | .pick c x y=>match(match c with| .t i=>look kn i|_=>none)with
   |some true=>b3y (gO pg.toCx e x) fun v=>k v H
   |some false=>b3y (gO pg.toCx e y) fun v=>k v H
   |none=>match gO pg.toCx e c with
    | .d (.bool t)=>(t=true->b3y (gO pg.toCx e x) fun v=>k v H)/\(t=false->b3y (gO pg.toCx e y) fun v=>k v H)
    |_=>False
 | .zbox z=>d4x H 0 fun n=>a1g (H++[.box z]) fun H'=>k (.ptr n 0) H'
 | .box x=>a1g (gO pg.toCx e x).cells fun c=>chk (c.all V.one) (d4x H 0 fun n=>a1g (H++[.box c]) fun H'=>k (.ptr n 0) H')
 | .build z ps=>chk (ps.all fun p=>(gO pg.toCx e p.2.2).cells.all V.one) (match b9z z (ps.map fun p=>(p.1,p.2.1,gO pg.toCx e p.2.2))with
   |some c=>h6r c fun v=>k v H
   |none=>False)
 | .bslice sz len ps=>dsK pg.toCx e H ps fun l=>chk (Nat.beq l.length len && l.all (fun x=>x.cells.length==sz) && Nat.blt 0 sz && Nat.ble (len*sz) 16777216) (k (.d (.sl l)) H)
 | .blit sz len ps=>dsK pg.toCx e H ps fun l=>chk (Nat.beq l.length len && l.all (fun x=>x.cells.length==sz) && Nat.blt 0 sz && Nat.ble (len*sz) 16777216) (d4x H 0 fun n=>a1g (H++[.row sz l]) fun H'=>k (.row n len) H')
 | .ld n x=>match gO pg.toCx e x with
   | .ptr id off=>b2o H id fun ob=>match ob with
     | .box c=>c4u n c off fun v=>k v H
     | .frz c=>c4u n (c.map V.d) off fun v=>k v H
     |_=>False
   | .ro l off=>c4u n (l.map V.d) off fun v=>k v H
   |_=>False
 | .st n a x=>match gO pg.toCx e a with
   | .ptr id off=>b2o H id fun ob=>match ob with
     | .box c=>a1g (gO pg.toCx e x).cells fun xs=>chk (Nat.beq xs.length n && Nat.ble (off+n) c.length && xs.all V.one && (a0w id xs||Nat.ble b id||b0s c off xs)) (a1g (putAt c off xs) fun c'=>a1g (H.set id (.box c')) fun H'=>k .undef H')
     |_=>False
   |_=>False
 | .bin op x y=>i0f op y (gO pg.toCx e x) (gO pg.toCx e y) fun v=>k v H
 | .eqa neg ks x y=>match gO pg.toCx e x,gO pg.toCx e y with
   | .d (.agg c),.d (.agg d)=>chk (kindOk ks c d) (match neg with|true=>k (.d (.bool !eqL c d)) H|false=>k (.d (.bool (eqL c d))) H)
   |_,_=>False
 | .isnil neg x=>match gO pg.toCx e x with
   | .ifc b=>match neg with|true=>k (.d (.bool !b)) H|false=>k (.d (.bool b)) H
   |_=>False
 | .eqb neg x y=>match gO pg.toCx e x,gO pg.toCx e y with
   | .d (.bool c),.d (.bool d)=>match neg with|true=>k (.d (.bool !(c==d))) H|false=>k (.d (.bool (c==d))) H
   |_,_=>False
 | .un op x=>match op,gO pg.toCx e x with
   | .neg,.d (.int kk n)=>k (.d (.int kk (kk.wrap (0 - n)))) H
   | .not,.d (.bool t)=>k (.d (.bool !t)) H
   |_,_=>False
 | .conv kk x=>match gO pg.toCx e x with
   | .d (.int _ n)=>k (.d (.int kk (kk.wrap n))) H
   |_=>False
 | .mkfn f caps=>a1g (caps.map (gO pg.toCx e)) fun l=>k (.fn f l) H
 | .mkfm f caps=>a1g (caps.map (gO pg.toCx e)) fun l=>k (.fm f l) H
 | .fld off n x=>match gO pg.toCx e x with
   | .d (.agg c)=>c4u n (c.map V.d) off fun v=>k v H
   | .agg c=>c4u n c off fun v=>k v H
   |_=>False
 | .fadr off x=>match gO pg.toCx e x with
   | .ptr id o=>k (.ptr id (o+off)) H
   | .ro l o=>k (.ro l (o+off)) H
   |_=>False
 | .iadr sz x i=>match gO pg.toCx e i with
   | .d (.int _ n)=>match gO pg.toCx e x with
     | .arr id off len=>(0<=n/\n.toNat < len)/\k (.ptr id (off+n.toNat*sz)) H
     |v=>g6s H v fun l=> ∃ y,(0<=n/\l[n.toNat]? =some y)/\y.cells.length=sz/\k (.ro y.cells 0) H
   |_=>False
 | .iadra len sz x i=>match gO pg.toCx e i with
   | .d (.int _ n)=>(0<=n/\n.toNat < len)/\(match gO pg.toCx e x with
     | .ptr id o=>k (.ptr id (o+n.toNat*sz)) H
     | .ro l o=>k (.ro l (o+n.toNat*sz)) H
     |_=>False)
   |_=>False
 | .idx x i=>match gO pg.toCx e i,gO pg.toCx e x with
   | .d (.int _ n),.d (.str s)=> ∃ c,(0<=n/\s[n.toNat]? =some c)/\k (.d (.int .u8 c.toNat)) H
   |_,_=>False
 | .slcs x lo hi=>match gO pg.toCx e x with
   | .d (.str s)=>c7q pg.toCx e 0 lo fun l=>c7q pg.toCx e s.length hi fun h=>(l<=h/\h<=s.length)/\k (.d (.str ((s.take h).drop l))) H
   |_=>False
 | .slc sz x lo hi=>g6s H (gO pg.toCx e x) fun s=>c7q pg.toCx e 0 lo fun l=>c7q pg.toCx e s.length hi fun h=>(l<=h/\h<=s.length/\(lo.isNone||s.all (fun y=>y.cells.length==sz))=true)/\k (.d (.sl ((s.take h).drop l))) H
 | .ext x i=>match gO pg.toCx e x with
   | .tup l=>b2o l i fun v=>k v H
   |_=>False
 | .mkm=>d4x H 0 fun n=>a1g (H++[.map []]) fun H'=>k (.mp n) H'
 | .brow sz=>chk (Nat.blt 0 sz) (k .nile H)
 | .c0m kk m kx x=>match gO pg.toCx e m with
   | .mp id=>b2o H id fun ob=>match ob with
     | .map l=>(match gO pg.toCx e kx with
       | .d kd=>chk (a8e kk kd) (b2c kk l=true/\dK H (gO pg.toCx e x) fun x=>a1g (H.set id (.map (f8i kd x l))) fun H'=>k .undef H')
       |_=>False)
     |_=>False
   |_=>False
 | .mget kk ok z m kx=>match gO pg.toCx e m with
   | .mp id=>b2o H id fun ob=>match ob with
     | .map l=>(match gO pg.toCx e kx with
       | .d kd=>chk (a8e kk kd) (b2c kk l=true/\∃ r,c9r kd l=r/\k (h4p ok z r) H)
       |_=>False)
     |_=>False
   |_=>False
 | .ment kk z m kx=>match gO pg.toCx e m with
   | .mp id=>b2o H id fun ob=>match ob with
     | .map l=>(match gO pg.toCx e kx with
       | .d kd=>chk (a8e kk kd) (b2c kk l=true/\∃ r,a5j kd l=r/\(match r with
         |some i=> ∃ p,l[i]? =some p/\k (.tup [.d p.2,.d (.int .i64 i)]) H
         |none=>a1g (H.set id (.map (l++[(kd,z)]))) fun H'=>k (.tup [.d z,.d (.int .i64 l.length)]) H'))
       |_=>False)
     |_=>False
   |_=>False
 | .mest m s x=>match gO pg.toCx e m with
   | .mp id=>b2o H id fun ob=>match ob with
     | .map l=>(match gO pg.toCx e s with
       | .d (.int _ n)=>(0<=n/\n.toNat < l.length)/\dK H (gO pg.toCx e x) fun x=>a1g (H.set id (.map (c0m n.toNat x l))) fun H'=>k .undef H'
       |_=>False)
     |_=>False
   |_=>False
 | .call f args=>d2g pg.toCx e H args fun vs=> ∃ r H',evF pg f vs H=some (r,H')/\k r H'
 | .callv f args=>match gO pg.toCx e f with
   | .fn f c=>d2g pg.toCx e H args fun vs=>a1g (vs++c) fun vs=> ∃ r H',evF pg f vs H=some (r,H')/\k r H'
   | .fm f c=>d2g pg.toCx e H args fun vs=>a1g (c++vs) fun vs=> ∃ r H',evF pg f vs H=some (r,H')/\k r H'
   |_=>False
 | .len true x=>match gO pg.toCx e x with
   | .d (.str s)=>k (.d (.int .i64 s.length)) H
   |_=>False
 | .len false x=>match gO pg.toCx e x with
   | .d (.sl l)=>k (.d (.int .i64 l.length)) H
   | .nils=>k (.d (.int .i64 0)) H
   | .nile=>k (.d (.int .i64 0)) H
   | .row _ n=>k (.d (.int .i64 n)) H
   | .arr _ _ n=>k (.d (.int .i64 n)) H
   |_=>False
 | .app sz bytes x y=>g6s H (gO pg.toCx e y) fun ys=>((ys.all (fun y=>y.cells.length==sz))=true/\0 < sz)/\(match gO pg.toCx e x with
   | .row id len=>b2o H id fun ob=>match ob with
     | .row sz' l=>(sz'=sz/\l.length=len/\roomy (len+ys.length) bytes)/\a1g (H.set id (.row sz (l++ys))) fun H'=>k (.row id (len+ys.length)) H'
     |_=>False
   | .nile=>(ys=[]->k .nile H)/\(ys≠[]->roomy ys.length bytes/\d4x H 0 fun n=>a1g (H++[.row sz ys]) fun H'=>k (.row n ys.length) H')
   |v=> ∃ r H',a0q pg.toCx (evF pg) b e H (.app sz bytes x y)=some (r,H')/\(v=v/\k r H'))
 | .convs x=>match gO pg.toCx e x with
   | .d (.str s)=>k (.d (.str s)) H
   |_=>False
 | .nilck x=>match gO pg.toCx e x with
   | .ptr id off=>k (.ptr id off) H
   | .fn f c=>k (.fn f c) H
   | .fm f c=>k (.fm f c) H
   |_=>False
 | .msl sz bytes z n=>match gO pg.toCx e n with
   | .d (.int _ m)=>(0<=m/\roomy m.toNat bytes)/\chk (Nat.beq z.length 1 && Nat.beq sz 1) (d4x H 0 fun n0=>a1g (H++[.box (List.replicate m.toNat (z.headD .undef))]) fun H'=>k (.arr n0 0 m.toNat) H')
   |_=>False
 | .mm mx x y=>match gO pg.toCx e x,gO pg.toCx e y with
   | .d (.int k1 a),.d (.int k2 c)=>chk (decide (k1=k2)) (match mx with|true=>k (.d (.int k1 (max a c))) H|false=>k (.d (.int k1 (min a c))) H)
   |_,_=>False
 |o=> ∃ r H',a0q pg.toCx (evF pg) b e H o=some (r,H')/\k r H'
end
def a3p (kn:List (Nat×Bool)) (e:Env):Prop:=∀ i t,look kn i=some t->a1k e i= .d (.bool t)
theorem a3p.forget {kn:List (Nat×Bool)} {e:Env} (h:a3p kn e) (d:Nat) (v:V):a3p (forget kn d) ((d,v)::e):=by
 have key:∀ (kn:List (Nat×Bool)) i t,look (Vm.forget kn d) i=some t->i≠d/\look kn i=some t:=by
  intro kn
  induction kn with
  |nil=>intro i t h;cases h
  |cons p r ih=>
   obtain⟨g,b⟩:=p
   intro i t h
   rw[d6f]at h
   by_cases hg:g=d
   ·rw[g6m hg]at h
    obtain⟨h1,h2⟩:=ih i t h
    refine⟨h1,?_⟩
    rw[c6g,f9u (fun e=>h1 om)]
    exact h2
   ·rw[f9u hg]at h
    simp only[c6g]at h⊢
    by_cases hi:g=i
    ·rw[g6m hi]at h⊢
     exact⟨fun e=>hg om,h⟩
    ·rw[f9u hi]at h⊢
     exact ih i t h
 intro i t hi
 obtain⟨h1,h2⟩:=key kn i t hi
 unfold a1k
 rw[if_neg (fun e=>h1 e.symm)]
 exact h i t h2
theorem a3p.add {kn:List (Nat×Bool)} {e:Env} (h:a3p kn e) {g:Nat} {t:Bool} (hg:a1k e g= .d (.bool t)):a3p ((g,t)::kn) e:=by
 intro i u hi
 rw[c6g]at hi
 by_cases hgi:g=i
 ·rw[g6m hgi]at hi
  cases hi;rw[<-hgi];exact hg
 ·rw[f9u hgi]at hi
  exact h i u hi
theorem a3p.nil (e:Env):a3p [] e:=by intro i t h;cases h
section
variable {pg:Pg}
theorem g0d {kn:List (Nat×Bool)} {b:Nat} {e:Env} {H:Hp} {o:VOp} {k:V->Hp->Prop} (hk:a3p kn e) (h:wpO pg kn b e H o k):∃ v H',a0q pg.toCx (evF pg) b e H o=some (v,H')/\k v H':=by
 cases o<;>simp only[wpO,c2q,b9y]at h
 case mv x=>exact⟨_,_,rfl,h⟩
 case pick c x y=>
  have gen:∀ t,evO pg.toCx e c= .d (.bool t)->(if t then k (evO pg.toCx e x) H else k (evO pg.toCx e y) H)->∃ v H',a0q pg.toCx (evF pg) b e H (.pick c x y)=some (v,H')/\k v H':=by
   intro t hc hh
   refine⟨if t then evO pg.toCx e x else evO pg.toCx e y,H,by simp only[a0q,hc],?_⟩
   cases t
   ·simpa using hh
   ·simpa using hh
  split at h
  ·rename_i hc
   cases c with
   |t i=>exact gen true (hk i true hc) (by simpa using h)
   |_=>cases hc
  ·rename_i hc
   cases c with
   |t i=>exact gen false (hk i false hc) (by simpa using h)
   |_=>cases hc
  ·split at h
   ·rename_i t hc
    refine gen t hc ?_
    cases t
    ·simpa using h
    ·simpa using h
   ·cases h
 case zbox z=>
  simp only[a7k,a0o,Nat.zero_add]at h
  exact⟨_,_,rfl,h⟩
 case box x=>
  simp only[a7k,a0o,Nat.zero_add,a2o]at h
  exact⟨_,_,by simp only[a0q,h.1,if_true],h.2⟩
 case build z ps=>
  rw[a2o]at h
  obtain⟨h1,h⟩:=h
  split at h
  ·rename_i c hc
   rw[e9a]at h
   exact⟨_,_,by simp only[a0q,h1,if_true,hc,Option.map_some],h⟩
  ·cases h
 case bslice sz len ps=>
  obtain⟨l,hl,h⟩:=d7v h
  simp only[a2o,Bool.and_eq_true,Nat.beq_eq,Nat.ble_eq]at h
  obtain⟨⟨⟨⟨h1,h2⟩,h3⟩,h4⟩,h⟩:=h
  refine⟨_,_,?_,h⟩
  simp only[a0q,hl]
  rw[if_pos ⟨h1,h2,by simp[Nat.blt]at h3;omega,h4⟩]
 case blit sz len ps=>
  obtain⟨l,hl,h⟩:=d7v h
  simp only[a2o,Bool.and_eq_true,Nat.beq_eq,Nat.ble_eq]at h
  obtain⟨⟨⟨⟨h1,h2⟩,h3⟩,h4⟩,h⟩:=h
  rw[a7k,a0o,Nat.zero_add]at h
  refine⟨_,_,?_,h⟩
  simp only[a0q,hl]
  rw[if_pos ⟨h1,h2,by simp[Nat.blt]at h3;omega,h4⟩]
 case ld n x=>
  split at h
  ·rename_i id off hx
   obtain⟨o,ho,h⟩:=(a1t ..).1 h
   cases o with
   |box c=>
    obtain⟨v,hv,h⟩:=(a9j ..).1 h
    exact⟨_,_,by simp only[a0q,hx,b7p,a9d,ho,hv,Option.map_some],h⟩
   |frz c=>
    obtain⟨v,hv,h⟩:=(a9j ..).1 h
    exact⟨_,_,by simp only[a0q,hx,b7p,a9d,ho,hv,Option.map_some],h⟩
   |_=>cases h
  ·rename_i l off hx
   obtain⟨v,hv,h⟩:=(a9j ..).1 h
   exact⟨_,_,by simp only[a0q,hx,b7p,a9d,hv,Option.map_some],h⟩
  ·cases h
 case st n a x=>
  split at h
  ·rename_i id off hx
   obtain⟨o,ho,h⟩:=(a1t ..).1 h
   cases o with
   |box c=>
    simp only[a0o,a2o,Bool.and_eq_true,Nat.beq_eq,Nat.ble_eq,Bool.or_eq_true]at h
    obtain⟨⟨⟨⟨h1,h2⟩,h3⟩,h4⟩,h⟩:=h
    refine⟨_,_,?_,h⟩
    simp only[a0q,hx,c2g,ho]
    rw[if_pos ⟨h1,h2,h3,by simpa using h4⟩];rfl
   |_=>cases h
  ·cases h
 case bin op x y=>
  obtain⟨v,hv,h⟩:=f3w _ _ _ _ _ h
  exact⟨_,_,by simp only[a0q,hv,Option.map_some],h⟩
 case eqa neg ks x y=>
  split at h
  ·rename_i c d hc hd
   rw[a2o]at h
   obtain⟨h1,h⟩:=h
   refine⟨.d (.bool (if neg then !eqL c d else eqL c d)),H,by simp only[a0q,hc,hd,if_pos h1],?_⟩
   cases neg<;>simpa using h
  ·cases h
 case isnil neg x=>
  split at h
  ·rename_i b hx
   refine⟨.d (.bool (if neg then !b else b)),H,by simp only[a0q,hx],?_⟩
   cases neg<;>simpa using h
  ·cases h
 case eqb neg x y=>
  split at h
  ·rename_i c d hc hd
   refine⟨.d (.bool (if neg then !(c==d) else c==d)),H,by simp only[a0q,hc,hd],?_⟩
   cases neg<;>simpa using h
  ·cases h
 case un op x=>
  split at h
  ·rename_i hx
   exact⟨_,_,by simp only[a0q,hx,unV,Option.map_some],h⟩
  ·rename_i hx
   exact⟨_,_,by simp only[a0q,hx,unV,Option.map_some],h⟩
  ·cases h
 case conv kk x=>
  split at h
  ·rename_i hx
   exact⟨_,_,by simp only[a0q,hx],h⟩
  ·cases h
 case mkfn f caps=>
  rw[a0o]at h
  exact⟨_,_,by simp only[a0q];rfl,(by simpa only[c2q,funext (c2q pg.toCx e)] using h)⟩
 case mkfm f caps=>
  rw[a0o]at h
  exact⟨_,_,by simp only[a0q];rfl,(by simpa only[c2q,funext (c2q pg.toCx e)] using h)⟩
 case fld off n x=>
  split at h
  ·rename_i hx
   obtain⟨v,hv,h⟩:=(a9j ..).1 h
   exact⟨_,_,by simp only[a0q,hx,hv,Option.map_some],h⟩
  ·rename_i hx
   obtain⟨v,hv,h⟩:=(a9j ..).1 h
   exact⟨_,_,by simp only[a0q,hx,hv,Option.map_some],h⟩
  ·cases h
 case fadr off x=>
  split at h
  ·rename_i hx;exact⟨_,_,by simp only[a0q,hx],h⟩
  ·rename_i hx;exact⟨_,_,by simp only[a0q,hx],h⟩
  ·cases h
 case iadr sz x i=>
  split at h
  ·rename_i kk n hi
   have gen:∀ v,evO pg.toCx e x=v->(∀ id off len,v≠ .arr id off len)->(∃ l,lsize H v=some l/\∃ y,(0<=n/\l[n.toNat]? =some y)/\y.cells.length=sz/\k (.ro y.cells 0) H)->∃ v H',a0q pg.toCx (evF pg) b e H (.iadr sz x i)=some (v,H')/\k v H':=by
    rintro v hv hna ⟨l,hl,y,⟨h0,hy⟩,hs,h⟩
    refine⟨_,_,?_,h⟩
    simp only[a0q,hi,a3z,if_pos h0,hv]
    cases v with
    |arr a b c=>exact absurd rfl (hna a b c)
    |_=>simp only[hl,hy,hs,if_true]
   split at h
   ·rename_i id off len hx
    exact⟨_,_,by simp only[a0q,hi,a3z,if_pos h.1.1,hx,if_pos h.1.2],h.2⟩
   ·rename_i v hna
    exact gen _ rfl (fun a b c hh=>hna a b c hh) (c9z _ _ _ h)
  ·cases h
 case iadra len sz x i=>
  split at h
  ·rename_i kk n hi
   obtain⟨⟨h0,h1⟩,h⟩:=h
   split at h
   ·rename_i hx
    exact⟨_,_,by simp only[a0q,hi,a3z,if_pos h0,if_pos h1,hx],h⟩
   ·rename_i hx
    exact⟨_,_,by simp only[a0q,hi,a3z,if_pos h0,if_pos h1,hx],h⟩
   ·cases h
  ·cases h
 case idx x i=>
  split at h
  ·rename_i hi hx
   obtain⟨c,⟨h0,hc⟩,h⟩:=h
   exact⟨_,_,by simp only[a0q,hi,a3z,if_pos h0,hx,hc,Option.map_some],h⟩
  ·cases h
 case slcs x lo hi=>
  split at h
  ·rename_i s hx
   obtain⟨l,hl,h⟩:=b4z _ _ _ _ _ h
   obtain⟨r,hr,h⟩:=b4z _ _ _ _ _ h
   exact⟨_,_,by simp only[a0q,hx,hl,hr,if_pos h.1],h.2⟩
  ·cases h
 case slc sz x lo hi=>
  obtain⟨s,hs,h⟩:=c9z _ _ _ h
  obtain⟨l,hl,h⟩:=b4z _ _ _ _ _ h
  obtain⟨r,hr,h⟩:=b4z _ _ _ _ _ h
  exact⟨_,_,by simp only[a0q,hs,hl,hr,if_pos h.1],h.2⟩
 case ext x i=>
  split at h
  ·rename_i l hx
   obtain⟨v,hv,h⟩:=(a1t ..).1 h
   exact⟨_,_,by simp only[a0q,hx,hv,Option.map_some],h⟩
  ·cases h
 case nilck x=>
  split at h
  ·rename_i hx;exact⟨_,_,by simp only[a0q,hx],h⟩
  ·rename_i hx;exact⟨_,_,by simp only[a0q,hx],h⟩
  ·rename_i hx;exact⟨_,_,by simp only[a0q,hx],h⟩
  ·cases h
 case msl sz bytes z n=>
  split at h
  ·rename_i m hn
   obtain⟨h1,h⟩:=h
   simp only[a2o,Bool.and_eq_true,Nat.beq_eq,a7k,a0o,Nat.zero_add]at h
   exact⟨_,_,by simp only[a0q,hn,if_pos (show 0<=m/\roomy m.toNat bytes/\z.length=1/\sz=1 from⟨h1.1,h1.2,h.1.1,h.1.2⟩)],h.2⟩
  ·cases h
 case mm mx x y=>
  split at h
  ·rename_i k1 a k2 c hx hy
   rw[a2o]at h
   obtain⟨h1,h⟩:=h
   refine⟨.d (.int k1 (if mx then max a c else min a c)),H,by simp only[a0q,hx,hy,if_pos (of_decide_eq_true h1)],?_⟩
   cases mx<;>simpa using h
  ·cases h
 case mkm=>
  simp only[a7k,a0o,Nat.zero_add]at h
  exact⟨_,_,rfl,h⟩
 case brow sz=>
  rw[a2o]at h
  obtain⟨h1,h⟩:=h
  have h1:0 < sz:=by simpa [Nat.blt_eq] using h1
  exact⟨_,_,by simp only[a0q,if_pos h1],h⟩
 case c0m kk m kx x=>
  split at h
  ·rename_i id hm
   obtain⟨ob,ho,h⟩:=(a1t ..).1 h
   cases ob with
   |map l=>
    simp only at h
    split at h
    ·rename_i kd hk
     rw[a2o]at h
     obtain⟨h1,h2,h⟩:=h
     obtain⟨x',hx,h⟩:=e7s h
     rw[a0o]at h
     exact⟨_,_,by simp only[a0q,hm,hk,hx,ho,h1,h2,Bool.and_self,if_true],h⟩
    ·cases h
   |_=>cases h
  ·cases h
 case mget kk ok z m kx=>
  split at h
  ·rename_i id hm
   obtain⟨ob,ho,h⟩:=(a1t ..).1 h
   cases ob with
   |map l=>
    simp only at h
    split at h
    ·rename_i kd hk
     rw[a2o]at h
     obtain⟨h1,h2,r,rfl,h⟩:=h
     exact⟨_,_,by simp only[a0q,hm,hk,ho,h1,h2,Bool.and_self,if_true],h⟩
    ·cases h
   |_=>cases h
  ·cases h
 case ment kk z m kx=>
  split at h
  ·rename_i id hm
   obtain⟨ob,ho,h⟩:=(a1t ..).1 h
   cases ob with
   |map l=>
    simp only at h
    split at h
    ·rename_i kd hk
     rw[a2o]at h
     obtain⟨h1,h2,r,hr,h⟩:=h
     cases r with
     |some i=>
      obtain⟨p,hp,h⟩:=h
      exact⟨_,_,by simp only[a0q,hm,hk,ho,h1,h2,Bool.and_self,if_true,hr,hp,Option.map_some],h⟩
     |none=>
      simp only[a0o]at h
      exact⟨_,_,by simp only[a0q,hm,hk,ho,h1,h2,Bool.and_self,if_true,hr],h⟩
    ·cases h
   |_=>cases h
  ·cases h
 case mest m s x=>
  split at h
  ·rename_i id hm
   obtain⟨ob,ho,h⟩:=(a1t ..).1 h
   cases ob with
   |map l=>
    simp only at h
    split at h
    ·rename_i n hs
     obtain⟨h1,h⟩:=h
     obtain⟨x',hx,h⟩:=e7s h
     rw[a0o]at h
     exact⟨_,_,by simp only[a0q,hm,hs,hx,ho,if_pos h1],h⟩
    ·cases h
   |_=>cases h
  ·cases h
 case call f args=>
  obtain⟨r,H',hr,h⟩:=a8v _ _ _ _ _ h
  exact⟨r,H',hr,h⟩
 case callv f args=>
  split at h
  ·rename_i f c hf
   have h:=a8v _ _ _ _ _ h
   rw[a0o]at h
   obtain⟨r,H',hr,h⟩:=h
   exact⟨r,H',by simp only[a0q,hf];exact hr,h⟩
  ·rename_i f c hf
   have h:=a8v _ _ _ _ _ h
   rw[a0o]at h
   obtain⟨r,H',hr,h⟩:=h
   exact⟨r,H',by simp only[a0q,hf];exact hr,h⟩
  ·cases h
 case len str x=>
  cases str
  ·simp only[c2q]at h
   split at h
   ·rename_i hx;exact⟨_,_,by simp only[a0q,hx,c9n,Option.map_some],h⟩
   ·rename_i hx;exact⟨_,_,by simp only[a0q,hx,c9n,Option.map_some];rfl,h⟩
   ·rename_i hx;exact⟨_,_,by simp only[a0q,hx,c9n,Option.map_some];rfl,h⟩
   ·rename_i hx;exact⟨_,_,by simp only[a0q,hx,c9n,Option.map_some],h⟩
   ·rename_i hx;exact⟨_,_,by simp only[a0q,hx,c9n,Option.map_some],h⟩
   ·cases h
  ·simp only[c2q]at h
   split at h
   ·rename_i hx;exact⟨_,_,by simp only[a0q,hx],h⟩
   ·cases h
 case convs x=>
  split at h
  ·rename_i hx;exact⟨_,_,by simp only[a0q,hx],h⟩
  ·cases h
 case app sz bytes x y=>
  obtain⟨ys,hys,⟨⟨h1,h2⟩,h⟩⟩:=c9z _ _ _ h
  split at h
  ·rename_i id len hx
   obtain⟨o,ho,h⟩:=(a1t ..).1 h
   cases o with
   |row sz' l=>
    obtain⟨⟨h3,h4,h5⟩,h⟩:=h
    rw[a0o]at h
    refine⟨_,_,?_,h⟩
    simp only[a0q,hys,hx,ho]
    rw[if_pos ⟨h1,h2⟩,if_pos ⟨h3,h4,h5⟩]
   |_=>cases h
  ·rename_i hx
   by_cases hy:ys=[]
   ·refine⟨_,_,?_,h.1 hy⟩
    simp only[a0q,hys,hx]
    rw[if_pos ⟨h1,h2⟩,if_pos hy]
   ·obtain⟨h3,h⟩:=h.2 hy
    simp only[a7k,a0o,Nat.zero_add]at h
    refine⟨_,_,?_,h⟩
    simp only[a0q,hys,hx]
    rw[if_pos ⟨h1,h2⟩,if_neg hy,if_pos h3]
  ·obtain⟨r,H',hr,_,h⟩:=h
   exact⟨r,H',hr,h⟩
 all_goals exact h
end
end Go.Vm
