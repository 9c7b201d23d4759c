import Derived.Test.YtocpgkeiakjicaaGreatIteW9
import Derived.Test.YtocpgkeiakjicaaGreatTypP18
import Derived.Test.YtocpgkeiakjicaaGreatVmFn
import Derived.Shelf.Small.Strs
import Derived.Shelf.Small.Wraps
import Derived.Shelf.Strings.Search1
import Derived.Shelf.Strings.Search2
import Derived.Shelf.Strings.Cut
import Derived.Shelf.LaysM
import Derived.Shelf.Strings.Shaped
import Derived.Shelf.Strings.Prefix
import Derived.Shelf.Slices.Turned
import Derived.Test.YtocpgkeiakjicaaGreatProg
import Derived.Test.YtocpgkeiakjicaaGreatVmWp
import Derived.LaidLaws
import Derived.Test.YtocpgkeiakjicaaGreatRows
import Derived.WalkKit
import Derived.ProofKit
import Derived.OpenShut
import Derived.Deep.DeepHandedRow
import Derived.SevenTiedAt
import Derived.Lay
import Derived.Test.YtocpgkeiakjicaaGreatVmOps2
import Derived.Lib.IndexMore
import Derived.Lib.ItoaLen
set_option maxRecDepth 100000
set_option linter.unusedVariables false
set_option linter.unusedSimpArgs false
namespace Go.Vm.Ite
open Go.Vm.Ip
def SzD (v:Int×Int):V:= .d (.agg [.int .i64 v.1,.int .i64 v.2])
abbrev SZB (v:Int×Int):Ob:= .box [i64 v.1,i64 v.2]
abbrev SH (x:Its) (d:List (S×Int×Int)):Hp:=[.map (a7e (nS x)),.map (a7e (nE x)),.map (a7e (nF x)),.box [.mp 0,.mp 1,.mp 2],.map (szM d)]
theorem gS {l:List S} {i:Nat} (h:i < l.length):0<=(i:Int)/\(l.map D.str)[(i:Int).toNat]? =some (.str (l.getD i [])):=by
 refine⟨om,?_⟩
 rw[Int.toNat_natCast,List.getElem?_map,List.getElem?_eq_getElem h]
 simp[List.getD_eq_getElem?_getD,List.getElem?_eq_getElem h]
theorem fold_succ {α:Type} {g:α->S->α} {l:List S} {j:Nat} {a:α} (h:j < l.length):(l.take (j+1)).foldl g a=g ((l.take j).foldl g a) (l.getD j []):=by
 rw[a5d (d:=[]) h,List.foldl_append];rfl
theorem f4t {x:Its} (hx:b0r x) (s:S):(a1b x s).1.length<=4398046511104:=by
 unfold a1b
 have hS:(nS x).length=x.ss.length:=by simp[nS]
 have hE:(nE x).length=x.es.length:=by simp[nE]
 split
 ·rename_i i hi
  have h:=b2o hi
  have:x.ss.getD i default∈x.ss:=by simp[List.getD_eq_getElem?_getD,List.getElem?_eq_getElem (show i < x.ss.length by omega)]
  have:=(hx.sf _ this).2.1
  rw[List.length_map];exact this
 ·split
  ·rename_i i hi
   have h:=b2o hi
   have:x.es.getD i default∈x.es:=by simp[List.getD_eq_getElem?_getD,List.getElem?_eq_getElem (show i < x.es.length by omega)]
   have:=(hx.ef _ this).2.1
   exact Nat.le_trans (b7u _) this
  ·exact Nat.zero_le _
section
variable {fx:Nat->Option Obj}
set_option maxHeartbeats 4000000 in
theorem f1w (x:Its) (hx:b0r x) (N:Nat) (hN:N<=1000000):∀ (f:Nat) (s:S),a6r x f s->f<=N->∀ d,f3t x N d->∃ r H2,evF (pgL fx F0) a8o [.d x.D,.ptr 3 0,str s,.mp 4] (SH x d)=some (r,H2)/\r=SzD (szF x f s)/\∃ d',f3t x N d'/\H2=SH x d'
 |0,_,h,_,_,_=>h.elim
 |f+1,s,hdeep,hfN,d,hd=>by
  have ih:=fun(y:S) (hy:y∈(a1b x s).1) (d:List (S×Int×Int)) (hd:f3t x N d)=>f1w x hx N hN f y (hdeep y hy) om d hd
  refine e8x (d1b (F:=F0)) rfl rfl rfl ?_
  rcases e2s s d with hf|⟨w,p,hm,hf⟩
  ·have hend:∀ d,f3t x N d->∀ v,v=szF x (f+1) s->∃ d',f3t x N d'/\c1m (.str s) (.agg [.int .i64 v.1,.int .i64 v.2]) (szM d)=szM d':=fun d hd v hv=>by
     obtain⟨d',h1,h2⟩:=f3l s v.1 v.2 d
     refine⟨d',fun q hq=>?_,h1⟩
     rcases h2 q hq with h|h
     ·exact hd q h
     ·rw[h];exact⟨d7e hdeep hfN,by rw[show(s,v.1,v.2).2=v from rfl,show(s,v.1,v.2).1=s from rfl,hv];exact(f1u hdeep hfN).symm⟩
   have eh:evF (pgL fx F0) c1i [.d x.D,.ptr 3 0,str s] (SH x d++[IB x,SZB (0,0),SZB (0,0)])=some (.tup [strs (a1b x s).1,boo (a1b x s).2],SH x d++[IB x,SZB (0,0),SZB (0,0)]):=
    a5b (mv fx) [0,1,2,3] (h0j x hx s) rfl rfl rfl rfl rfl
   have e1:evF (pgL fx F0) a1h [.ptr 3 0,str s] (SH x d++[IB x,SZB (0,0),SZB (0,0),SZB (1,1)])=some (.tup [i64 (loc (nS x) s),boo (known (nS x) s)],SH x d++[IB x,SZB (0,0),SZB (0,0),SZB (1,1)]):=
    a5b (mv fx) [0,1,2,3] (c9u x s) rfl rfl rfl rfl rfl
   rw[szF]at*
   have hlen:(a1b x s).1.length<=4398046511104:=f4t hx s
   have hb:=a5c x f
   revert ih eh hlen hend hdeep
   generalize(a1b x s).1=l
   cases(a1b x s).2 with
   |true=>
    intro _ ih hend eh hlen
    simp only[if_true]at hend⊢
    repeat' (first|refine run ⟨?_⟩|refine mg (a8l _) hf ?_|refine ca (eh) ?_|refine ca (e1) ?_|fail)
    refine a0g (α:=Nat×List (S×Int×Int)) (fun a=>l.length - a.1) (fun a=>[(1,.ptr 3 0),(2,str s),(3,.mp 4),(4,.ptr 5 0),(8,.ptr 6 0),(13,.ptr 8 0),(48,strs l),(49,i64 l.length),(50,i64 a.1)]) (fun a=>SH x a.2++[IB x,SZB (0,0),SZB (0,0),SZB ((l.take a.1).foldl (fun a y=>b2n a (szF x f y)) (1,1))]) (fun a=>a.1<=l.length/\f3t x N a.2) ?_ (0,d) ⟨Nat.zero_le _,hd⟩ (by show[_,_,_,_,_,_,_,_,_]=_;rw[List.length_map]<;>rfl) rfl
    rintro⟨j,d2⟩ ⟨hj,hd2⟩
    dsimp only at hj hd2
    by_cases h:j < l.length
    ·have h':(j:Int) < (l.length:Int):=om
     have pj:=gS h
     obtain⟨r,H2,hev,hr,d3,hd3,hH⟩:=ih (l.getD j []) (by simp[List.getD_eq_getElem?_getD,List.getElem?_eq_getElem h]) d2 hd2
     subst hr hH
     have ha:=c3h hb om (l.take j) (1,1) (by decide) (by show(1:Int)<=_;omega) (by decide) (by decide)
     have hs:=fold_succ (g:=fun a y=>b2n a (szF x f y)) (a:=(1,1)) h
     have hv:=hb (l.getD j [])
     have ei:evF (pgL fx F0) a8o [.d x.D,.ptr 3 0,str (l.getD j []),.mp 4] (SH x d2++[IB x,SZB (0,0),SZB (0,0),SZB ((l.take j).foldl (fun a y=>b2n a (szF x f y)) (1,1))])=some (SzD (szF x f (l.getD j [])),SH x d3++[IB x,SZB (0,0),SZB (0,0),SZB ((l.take j).foldl (fun a y=>b2n a (szF x f y)) (1,1))]):=
       a5b (mv fx) [0,1,2,3,4] hev rfl rfl rfl rfl rfl
     revert pj ha hs hv ei
     generalize(l.take j).foldl (fun a y=>b2n a (szF x f y)) (1,1)=A
     generalize l.getD j []=y
     generalize szF x f y=v
     intro pj ha hs hv ei
     repeat' (first|refine run ⟨?_⟩|refine a0a pj ?_|refine ca (ei) ?_|fail)
     refine⟨(j+1,d3),⟨by show j+1<=_;omega,hd3⟩,by show _ - (j+1) < _ - j;omega,by rw[a0w om]<;>rfl,?_⟩
     dsimp only
     rw[hs,a0w om,a0w om];rfl
    ·have h':¬ (j:Int) < (l.length:Int):=om
     obtain rfl:j=l.length:=om
     rw[List.take_length]
     obtain⟨d4,g1,g2⟩:=hend d2 hd2 _ rfl
     revert g2
     generalize l.foldl (fun a y=>b2n a (szF x f y)) (1,1)=A
     intro g2
     repeat' (first|refine run ⟨?_⟩|refine And.intro (a8l _) ?_|fail)
     exact⟨d4,g1,by show _=[_,_,_,_,Ob.map (szM d4)];rw[<-g2];rfl⟩
   |false=>
    intro _ ih hend eh hlen
    simp only[Bool.false_eq_true,if_false]at hend⊢
    cases ck:known (nS x) s with
    |true=>
     rw[ck]at e1
     simp only[ck,if_true]at hend⊢
     repeat' (first|refine run ⟨?_⟩|refine mg (a8l _) hf ?_|refine ca (eh) ?_|refine ca (e1) ?_|fail)
     refine a0g (α:=Nat×List (S×Int×Int)) (fun a=>l.length - a.1) (fun a=>[(1,.ptr 3 0),(2,str s),(3,.mp 4),(4,.ptr 5 0),(8,.ptr 6 0),(13,.ptr 8 0),(77,strs l),(78,i64 l.length),(79,i64 a.1)]) (fun a=>SH x a.2++[IB x,SZB (0,0),SZB (0,0),SZB ((l.take a.1).foldl (fun a y=>b2p a (szF x f y)) (0,1))]) (fun a=>a.1<=l.length/\f3t x N a.2) ?_ (0,d) ⟨Nat.zero_le _,hd⟩ (by show[_,_,_,_,_,_,_,_,_]=_;rw[List.length_map]<;>rfl) rfl
     rintro⟨j,d2⟩ ⟨hj,hd2⟩
     dsimp only at hj hd2
     by_cases h:j < l.length
     ·have h':(j:Int) < (l.length:Int):=om
      have pj:=gS h
      obtain⟨r,H2,hev,hr,d3,hd3,hH⟩:=ih (l.getD j []) (by simp[List.getD_eq_getElem?_getD,List.getElem?_eq_getElem h]) d2 hd2
      subst hr hH
      have ha:=c5k hb (l.take j) (0,1) (by decide) (by decide) (by decide) (by decide)
      have hs:=fold_succ (g:=fun a y=>b2p a (szF x f y)) (a:=(0,1)) h
      have hv:=hb (l.getD j [])
      have ei:evF (pgL fx F0) a8o [.d x.D,.ptr 3 0,str (l.getD j []),.mp 4] (SH x d2++[IB x,SZB (0,0),SZB (0,0),SZB ((l.take j).foldl (fun a y=>b2p a (szF x f y)) (0,1))])=some (SzD (szF x f (l.getD j [])),SH x d3++[IB x,SZB (0,0),SZB (0,0),SZB ((l.take j).foldl (fun a y=>b2p a (szF x f y)) (0,1))]):=
        a5b (mv fx) [0,1,2,3,4] hev rfl rfl rfl rfl rfl
      revert pj ha hs hv ei
      generalize(l.take j).foldl (fun a y=>b2p a (szF x f y)) (0,1)=A
      generalize l.getD j []=y
      generalize szF x f y=v
      intro pj ha hs hv ei
      repeat' (first|refine run ⟨?_⟩|refine a0a pj ?_|refine ca (ei) ?_|fail)
      refine⟨(j+1,d3),⟨by show j+1<=_;omega,hd3⟩,by show _ - (j+1) < _ - j;omega,by rw[a0w om]<;>rfl,?_⟩
      dsimp only
      rw[hs,a0w om,a0w om];rfl
     ·have h':¬ (j:Int) < (l.length:Int):=om
      obtain rfl:j=l.length:=om
      rw[List.take_length]
      obtain⟨d4,g1,g2⟩:=hend d2 hd2 _ rfl
      revert g2
      generalize l.foldl (fun a y=>b2p a (szF x f y)) (0,1)=A
      intro g2
      repeat' (first|refine run ⟨?_⟩|refine And.intro (a8l _) ?_|fail)
      exact⟨d4,g1,by show _=[_,_,_,_,Ob.map (szM d4)];rw[<-g2];rfl⟩
    |false=>
     rw[ck]at e1
     simp only[ck,Bool.false_eq_true,if_false]at hend⊢
     by_cases cu:s=d7d
     ·rw[if_pos cu]at hend⊢
      have cu':s=[40,41]:=cu
      obtain⟨d4,g1,g2⟩:=hend d hd _ rfl
      repeat' (first|refine run ⟨?_⟩|refine mg (a8l _) hf ?_|refine ca (eh) ?_|refine ca (e1) ?_|refine And.intro (a8l _) ?_|fail)
      exact⟨d4,g1,by show _=[_,_,_,_,Ob.map (szM d4)];rw[<-g2];rfl⟩
     ·rw[if_neg cu]at hend⊢
      have cu':¬ s=[40,41]:=cu
      obtain⟨d4,g1,g2⟩:=hend d hd _ rfl
      repeat' (first|refine run ⟨?_⟩|refine mg (a8l _) hf ?_|refine ca (eh) ?_|refine ca (e1) ?_|refine And.intro (a8l _) ?_|fail)
      exact⟨d4,g1,by show _=[_,_,_,_,Ob.map (szM d4)];rw[<-g2];rfl⟩
  ·obtain⟨q1,q2⟩:=hd _ hm
   have hw:(w,p)=szF x (f+1) s:=by rw[show(w,p)=(s,w,p).2 from rfl,q2];exact g1a q1 hdeep
   rw[<-hw]
   repeat' (first|refine run ⟨?_⟩|refine mg (a8l _) hf ?_|fail)
   exact⟨d,hd,rfl⟩
end
end Go.Vm.Ite
namespace Go.Vm.Ite
open Go Go.Vm Go.Proofs Go.Vm.Ip
noncomputable def c88:Code:=(Tryz.f95.body).getD .skip
theorem b88:Tryz.f95.body=some c88:=kr
noncomputable def x88:Code:=cR (cR c88)
noncomputable def y88:Code:=cR x88
noncomputable def d88:a0r:=vR (vR B95)
noncomputable def A0':Code:=cA (cR (cR (cL x88)))
noncomputable def L0:Code:=cK (cK (cR (cL A0')))
noncomputable def G0:Code:=cR (cR L0)
noncomputable def J0:Code:=cK (cL G0)
noncomputable def vA0:a0r:=vA (vR (vR (vL d88)))
theorem sA0:(cL x88)= .seq (cL (cL x88)) (.seq (cL (cR (cL x88))) (.cond (.tmp 25) A0' .skip)):=kr
theorem sB0:A0'= .seq (.seq (cL (cL A0')) (.block 0 (.loop L0))) (cR A0'):=kr
theorem tA0:tr Tryz.prog n50 (cL (cL x88))=some (vR (vL (vL d88))):=kr
theorem tB0:tr Tryz.prog n50 (cL (cR (cL x88)))=some (vL (vR (vL d88))):=kr
theorem tC0:tr Tryz.prog n50 (cL (cL A0'))=some (vL (vL vA0)):=kr
theorem tD0:tr Tryz.prog n50 (cR A0')=some (vR vA0):=kr
noncomputable def A1':Code:=cA (cR (cR (cL y88)))
noncomputable def L1:Code:=cK (cK (cR (cL A1')))
noncomputable def G1:Code:=cR (cR L1)
noncomputable def J1:Code:=cK (cL G1)
noncomputable def vA1:a0r:=vA (vR (vR (vL (vR d88))))
theorem sA1:(cL y88)= .seq (cL (cL y88)) (.seq (cL (cR (cL y88))) (.cond (.tmp 52) A1' .skip)):=kr
theorem sB1:A1'= .seq (.seq (cL (cL A1')) (.block 2 (.loop L1))) (cR A1'):=kr
theorem tA1:tr Tryz.prog n50 (cL (cL y88))=some (vL (vL (vR d88))):=kr
theorem tB1:tr Tryz.prog n50 (cL (cR (cL y88)))=some (vL (vR (vL (vR d88)))):=kr
theorem tC1:tr Tryz.prog n50 (cL (cL A1'))=some (vL (vL vA1)):=kr
theorem tD1:tr Tryz.prog n50 (cR A1')=some (vR vA1):=kr
theorem tR0:tr Tryz.prog n50 (cL L0)=some (vL f4p):=kr
theorem tR1:tr Tryz.prog n50 (cL L1)=some (vL f1k):=kr
theorem tJ0:tr Tryz.prog n50 (cL J0)=some (vL (vK (vL (vR (vR f4p))))):=kr
theorem tG0:tr Tryz.prog n50 (cR G0)=some (vR (vR (vR f4p))):=kr
noncomputable def w0:List a0e:=vO (vR (vK (vL (vR (vR f4p)))))
theorem ap0a:a1m Tryz.prog (a4m (cR J0)) (((a4m (cR J0)).toList.drop 0).take 4)=some (w0.take 4):=kr
theorem ap0b:a1m Tryz.prog (a4m (cR J0)) (((a4m (cR J0)).toList.drop 5).take 1)=some (w0.drop 5):=kr
theorem ap0c:((a4m (cR J0))[4]?).map (fun o=>(o.op,o.dst,o.guard))=some (.call {callee:= .builtin .append,args:= #[.tmp 37,.tmp 40],argTypes:= #[97,97]},some 41,none):=kr
theorem ap0s:(a4m (cR J0)).size=4+1+1:=kr
noncomputable def g5z:TypeInfo:=(Tryz.prog.info? 9).getD default
theorem f1d:Tryz.prog.info? 9=some g5z:=kr
noncomputable def zStr:Value:=(g5z.zero).getD default
theorem f1r:g5z.zero=some zStr:=kr
theorem f2j:zStr.cells.size=g5z.size:=kr
theorem b8k:g5z.size=1:=kr
theorem e8u:g5z.bytes=16:=kr
theorem tJ1:tr Tryz.prog n50 (cL J1)=some (vL (vK (vL (vR (vR f1k))))):=kr
theorem tN1:tr Tryz.prog n50 (cL (cR J1))=some (vL (vR (vK (vL (vR (vR f1k)))))):=kr
theorem tG1:tr Tryz.prog n50 (cR G1)=some (vR (vR (vR f1k))):=kr
noncomputable def g1c:Code:=cA (cR (cR J1))
noncomputable def w1:List a0e:=vO (vA (vR (vR (vK (vL (vR (vR f1k)))))))
theorem ap1a:a1m Tryz.prog (a4m g1c) (((a4m g1c).toList.drop 0).take 4)=some (w1.take 4):=kr
theorem ap1b:a1m Tryz.prog (a4m g1c) (((a4m g1c).toList.drop 5).take 1)=some (w1.drop 5):=kr
theorem ap1c:((a4m g1c)[4]?).map (fun o=>(o.op,o.dst,o.guard))=some (.call {callee:= .builtin .append,args:= #[.tmp 67,.tmp 70],argTypes:= #[97,97]},some 71,none):=kr
theorem ap1s:(a4m g1c).size=4+1+1:=kr
theorem s88:c88= .seq (cL c88) (.seq (cL (cR c88)) (.seq (cL x88) (.seq (cL y88) (cR y88)))):=kr
theorem t88a:tr Tryz.prog n50 (cL c88)=some (vL B95):=kr
theorem t88b:tr Tryz.prog n50 (cL (cR c88))=some (vL (vR B95)):=kr
theorem t88c:tr Tryz.prog n50 (cR y88)=some (vR (vR d88)):=kr
theorem sL0:L0= .seq (cL L0) (.seq (.cond (.tmp 34) .skip (.exit 0)) (.seq (.block 1 (.seq (cL J0) (.region (cId (cR J0)) (a4m (cR J0)) false))) (cR G0))):=kr
theorem sL1:L1= .seq (cL L1) (.seq (.cond (.tmp 61) .skip (.exit 2)) (.seq (.block 3 (.seq (cL J1) (.seq (cL (cR J1)) (.cond (.tmp 66) (.region (cId (cA (cR (cR J1)))) (a4m (cA (cR (cR J1)))) false) .skip)))) (cR G1))):=kr
abbrev HH (x:Its) (o6 o7 o8 o9:Ob):Hp:=[IB x,IB x,.map (a7e (nS x)),.map (a7e (nE x)),.map (a7e (nF x)),.box [.mp 2,.mp 3,.mp 4],o6,o7,o8,o9]
abbrev HI (x:Its) (o6 o7 o8 o9:Ob):Hp:=[IB x,IB x,.map (a7e (nS x)),.map (a7e (nE x)),.map (a7e (nF x)),.box [.mp 2,.mp 3,.mp 4],o6,o7,o8,o9,IB x]
theorem e1k {x:Its} {o6 o7 o8 o9:Ob} (h:Clean 10 (HH x o6 o7 o8 o9)):Clean 11 (HI x o6 o7 o8 o9):=by
 intro i c hi ho
 by_cases e:i=10
 ·subst e
  simp only[HI,List.getElem?_cons_succ,List.getElem?_cons_zero,Option.some.injEq,IB,Ob.box.injEq]at ho
  subst ho;rfl
 ·have h1:=h i c om (by
    have:(HI x o6 o7 o8 o9)=HH x o6 o7 o8 o9++[IB x]:=rfl
    rw[this,List.getElem?_append_left (by show i < 10;omega)]at ho
    exact ho)
  exact a3n om _ h1
theorem d7a {n:Nat} {H X:Hp} (h:Clean n H) (hn:n<=H.length):Clean n (H++X):=by
 intro i c hi ho
 rw[List.getElem?_append_left om]at ho
 exact h i c hi ho
section
variable {fx:Nat->Option Obj}
abbrev cxL (fx:Nat->Option Obj):Cx:=⟨fun _=>[],fx⟩
theorem tOk (fx:Nat->Option Obj):c2e Tryz.prog (pgL fx F0):=g7l _ _ (fun _ _ h=>nomatch h)
theorem u66:Tryz.prog.underlying 97=some (.slice 9):=kr
def g8r (fx:Nat->Option Obj) (x:Its) (o6 o7 o8 o9:Ob) (g0:Gh) (ww:World) (E:Nat->Value->Env) (len:Nat) (us:Nat->List S) (k:Nat) (a:Act) (w:World):Prop:=
 ∃ j g xv,k=len - j/\j<=len/\a2e (cxL fx) 74 g ⟨E j xv,HI x o6 o7 o8 o9,10⟩ a w/\Loose (cxL fx) g w ww.heap.size 1 xv (us j).length ((us j).map d7j)/\Ext 10 g0 (HH x o6 o7 o8 o9) ww g (HI x o6 o7 o8 o9) w
set_option maxHeartbeats 2000000 in
theorem i0o (x:Its) (o6 o7 o8 o9:Ob) (hcl:Clean 10 (HH x o6 o7 o8 o9)) (g0:Gh) (ww:World) (fs:List Fld) (hfs:fs.length<=4398046511104) {Q:Exit->Act->World->Prop}
 (hq:∀ g a w xv,a2e (cxL fx) 74 g ⟨[(8,.raw xv)],HI x o6 o7 o8 o9,10⟩ a w->Loose (cxL fx) g w ww.heap.size 1 xv (fs.map Fld.t).length ((fs.map Fld.t).map d7j)->Ext 10 g0 (HH x o6 o7 o8 o9) ww g (HI x o6 o7 o8 o9) w->Q .normal a w)
 (a:Act) (w:World) (h:g8r fx x o6 o7 o8 o9 g0 ww (fun j xv=>[(8,.raw xv),(31,.d (a2h fs)),(32,i64 fs.length),(33,i64 j)]) fs.length (fun j=>(fs.take j).map Fld.t) fs.length a w):(Code.block 0 (.loop L0)).wp Tryz.prog Q a w:=by
 have hT:=tOk fx
 apply wp_block
 refine b6m (g8r fx x o6 o7 o8 o9 g0 ww (fun j xv=>[(8,.raw xv),(31,.d (a2h fs)),(32,i64 fs.length),(33,i64 j)]) fs.length (fun j=>(fs.take j).map Fld.t)) ?_ h
 rintro k a w ⟨j,g,xv,rfl,hj,ok,hl,E0⟩
 rw[sL0]
 apply wp_seq
 refine chunk hT mixed tR0 kr ok (R:=fun x1 e' H'=>x1= .nrm/\a1k [8,31,32,33,34] e'=[(8,.raw xv),(31,.d (a2h fs)),(32,i64 fs.length),(33,i64 j),(34,boo (decide ((j:Int) < fs.length)))]/\H'=HI x o6 o7 o8 o9) ?_ ?_
 ·refine run ⟨?_⟩
  exact rfl
 rintro x1 e' H' g1 a1 w1 ⟨rfl,he,rfl⟩ ok1 ext1
 have ok1:=ok1.forget [8,31,32,33,34]
 rw[he]at ok1
 have hl1:=hl.ext ext1
 have E1:=E0.trans ext1 (Nat.le_refl _)
 clear ok he
 show(Code.seq _ _).wp _ _ _ _
 apply wp_seq
 refine Go.wp_cond_split (a7i ok1 (i:=34) (by decide) rfl) (fun hc=>?_) (fun hc=>?_)
 ·have hlt:j < fs.length:=by have:=of_decide_eq_true hc;omega
  have pj:=gFl hlt
  have ht:(fs.take (j+1)).map Fld.t=(fs.take j).map Fld.t++[(fs.getD j default).t]:=by rw[a5d hlt,List.map_append];rfl
  revert pj ht
  generalize fs.getD j default=f
  intro pj ht
  apply wp_skip
  show(Code.seq _ _).wp _ _ _ _
  apply wp_seq
  apply wp_block
  apply wp_seq
  refine chunk hT mixed tJ0 kr ok1 (R:=fun x1 e' H'=>x1= .nrm/\a1k [8,12,31,32,33] e'=[(8,.raw xv),(12,.ptr 11 0),(31,.d (a2h fs)),(32,i64 fs.length),(33,i64 j)]/\H'=HI x o6 o7 o8 o9++[.box [str f.n,str f.t]]) ?_ ?_
  ·repeat' (first|refine run ⟨?_⟩|refine a0a pj ?_|fail)
   exact rfl
  rintro x1 e' H' g2 a2 w2 ⟨rfl,he,rfl⟩ ok2 ext2
  have ok2:=ok2.forget [8,12,31,32,33]
  rw[he]at ok2
  have hl2:=hl1.ext ext2
  have E2:=E1.trans ext2 (Nat.le_refl _)
  show(Code.region _ _ _).wp _ _ _ _
  refine e7m (b7y hT mixed) ap0s ap0a ap0b kr kr ap0c (by decide) u66 f1d f1r f2j ok2 (s1:=⟨[(40,.d (.sl [.str f.t])),(39,str f.t),(38,.ptr 11 1),(37,.raw xv),(8,.raw xv),(12,.ptr 11 0),(31,.d (a2h fs)),(32,i64 fs.length),(33,i64 j)],HI x o6 o7 o8 o9++[.box [str f.n,str f.t]],10⟩) rfl (xv:=xv) rfl (by decide) (w0:=ww) (by rw[b8k];exact hl2) E2 (m3:=1) (vs:=[d7j f.t]) (fun g' a' w' ok' _=>by rw[b8k];exact d6l ok' (by decide) rfl) (by intro u hu;rw[List.mem_singleton]at hu;subst hu;rfl) (by rw[e8u];constructor<;>simp<;>omega) (s2:=fun xv'=>⟨[(8,.raw xv'),(41,.raw xv'),(40,.d (.sl [.str f.t])),(39,str f.t),(38,.ptr 11 1),(37,.raw xv),(8,.raw xv),(12,.ptr 11 0),(31,.d (a2h fs)),(32,i64 fs.length),(33,i64 j)],HI x o6 o7 o8 o9++[.box [str f.n,str f.t]],10⟩) (fun _=>rfl) ?_
  intro xv' g3 a3 w3 ok3 hl3 E3
  rw[b8k]at hl3
  show Code.wp _ (cR G0) _ _ _
  refine chunk hT mixed tG0 kr ok3 (R:=fun x1 e' H'=>x1= .nrm/\cut 11 (a1k [8,31,32,33] e')=[(8,.raw xv'),(31,.d (a2h fs)),(32,i64 fs.length),(33,i64 ((j+1:Nat):Int))]/\H'=HI x o6 o7 o8 o9++[.box [str f.n,str f.t]]) ?_ ?_
  ·have hw:IntKind.i64.wrap ((j:Int)+1)=((j+1:Nat):Int):=by rw[a0w om];rfl
   refine run ⟨?_⟩
   refine⟨?_,rfl⟩
   rw[<-hw];rfl
  rintro x1 e' H' g4 a4 w4 ⟨rfl,he,rfl⟩ ok4 ext4
  have hl4:=(hl3.ext ext4).cut (m:=11)
  have E4:=(E3.trans ext4 (Nat.le_refl _)).h3z (n:=11) (by show 10<=11;decide) (by show 11<=12;decide) (by show 10<=11;decide)
  have ok4:=ok4.drop (n:=11) [8,31,32,33] (by show 11<=12;decide) (d7a (e1k hcl) (by show 11<=11;decide)) (by show 10<=11;decide)
  rw[he]at ok4
  refine⟨fs.length - (j+1),om,j+1,g4.cut 11,xv',rfl,om,ok4,?_,E4⟩
  dsimp only at hl4⊢
  rw[ht,List.map_append,List.length_append]
  exact hl4
 ·apply wp_exit
  have hj':j=fs.length:=by have:=of_decide_eq_false hc;omega
  subst hj'
  dsimp only at hl1
  rw[List.take_length]at hl1
  exact hq _ _ _ xv (ok1.forget [8]) hl1 E1
set_option maxHeartbeats 2000000 in
theorem h9r (x:Its) (o6 o7 o8 o9:Ob) (hcl:Clean 10 (HH x o6 o7 o8 o9)) (g0:Gh) (ww:World) (fs:List Fld) (hfs:fs.length<=4398046511104) {Q:Exit->Act->World->Prop}
 (hq:∀ g a w xv,a2e (cxL fx) 74 g ⟨[(8,.raw xv)],HI x o6 o7 o8 o9,10⟩ a w->Loose (cxL fx) g w ww.heap.size 1 xv (a1t fs).length ((a1t fs).map d7j)->Ext 10 g0 (HH x o6 o7 o8 o9) ww g (HI x o6 o7 o8 o9) w->Q .normal a w)
 (a:Act) (w:World) (h:g8r fx x o6 o7 o8 o9 g0 ww (fun j xv=>[(8,.raw xv),(58,.d (a2h fs)),(59,i64 fs.length),(60,i64 j)]) fs.length (fun j=>a1t (fs.take j)) fs.length a w):(Code.block 2 (.loop L1)).wp Tryz.prog Q a w:=by
 have hT:=tOk fx
 apply wp_block
 refine b6m (g8r fx x o6 o7 o8 o9 g0 ww (fun j xv=>[(8,.raw xv),(58,.d (a2h fs)),(59,i64 fs.length),(60,i64 j)]) fs.length (fun j=>a1t (fs.take j))) ?_ h
 rintro k a w ⟨j,g,xv,rfl,hj,ok,hl,E0⟩
 rw[sL1]
 apply wp_seq
 refine chunk hT mixed tR1 kr ok (R:=fun x1 e' H'=>x1= .nrm/\a1k [8,58,59,60,61] e'=[(8,.raw xv),(58,.d (a2h fs)),(59,i64 fs.length),(60,i64 j),(61,boo (decide ((j:Int) < fs.length)))]/\H'=HI x o6 o7 o8 o9) ?_ ?_
 ·refine run ⟨?_⟩
  exact rfl
 rintro x1 e' H' g1 a1 w1 ⟨rfl,he,rfl⟩ ok1 ext1
 have ok1:=ok1.forget [8,58,59,60,61]
 rw[he]at ok1
 have hl1:=hl.ext ext1
 have E1:=E0.trans ext1 (Nat.le_refl _)
 clear ok he
 show(Code.seq _ _).wp _ _ _ _
 apply wp_seq
 refine Go.wp_cond_split (a7i ok1 (i:=61) (by decide) rfl) (fun hc=>?_) (fun hc=>?_)
 ·have hlt:j < fs.length:=by have:=of_decide_eq_true hc;omega
  have pj:=gFl hlt
  have ht:=b4s hlt
  have hsl:=b7u (fs.take j)
  simp only[List.length_take]at hsl
  revert pj ht
  generalize fs.getD j default=f
  intro pj ht
  apply wp_skip
  show(Code.seq _ _).wp _ _ _ _
  apply wp_seq
  apply wp_block
  apply wp_seq
  refine chunk hT mixed tJ1 kr ok1 (R:=fun x1 e' H'=>x1= .nrm/\a1k [8,16,58,59,60] e'=[(8,.raw xv),(16,.ptr 11 0),(58,.d (a2h fs)),(59,i64 fs.length),(60,i64 j)]/\H'=HI x o6 o7 o8 o9++[.box [str f.n,str f.t]]) ?_ ?_
  ·repeat' (first|refine run ⟨?_⟩|refine a0a pj ?_|fail)
   exact rfl
  rintro x1 e' H' g2 a2 w2 ⟨rfl,he,rfl⟩ ok2 ext2
  have ok2:=ok2.forget [8,16,58,59,60]
  rw[he]at ok2
  have hl2:=hl1.ext ext2
  have E2:=E1.trans ext2 (Nat.le_refl _)
  show(Code.seq _ _).wp _ _ _ _
  apply wp_seq
  refine chunk hT mixed tN1 kr ok2 (R:=fun x1 e' H'=>x1= .nrm/\a1k [8,16,58,59,60,66] e'=[(8,.raw xv),(16,.ptr 11 0),(58,.d (a2h fs)),(59,i64 fs.length),(60,i64 j),(66,boo (!decide (f.t=[])))]/\H'=HI x o6 o7 o8 o9++[.box [str f.n,str f.t]]) ?_ ?_
  ·refine run ⟨?_⟩
   exact rfl
  rintro x1 e' H' g3 a3 w3 ⟨rfl,he,rfl⟩ ok3 ext3
  have ok3:=ok3.forget [8,16,58,59,60,66]
  rw[he]at ok3
  have hl3:=hl2.ext ext3
  have E3:=E2.trans ext3 (Nat.le_refl _)
  have fin:∀ (g3:Gh) (a3:Act) (w3:World) (xv':Value) (e:Env),a1n e 8= .raw xv'->a1n e 58= .d (a2h fs)->a1n e 59=i64 fs.length->a1n e 60=i64 j->a2e (pgL fx F0).toCx 74 g3 ⟨e,HI x o6 o7 o8 o9++[.box [str f.n,str f.t]],10⟩ a3 w3->Loose (cxL fx) g3 w3 ww.heap.size 1 xv' (a1t (fs.take (j+1))).length ((a1t (fs.take (j+1))).map d7j)->Ext 10 g0 (HH x o6 o7 o8 o9) ww g3 (HI x o6 o7 o8 o9++[.box [str f.n,str f.t]]) w3->
   Code.wp Tryz.prog (cR G1) (Exit.then (fun a' w'=> ∃ k',k' < fs.length - j/\g8r fx x o6 o7 o8 o9 g0 ww (fun j xv=>[(8,.raw xv),(58,.d (a2h fs)),(59,i64 fs.length),(60,i64 j)]) fs.length (fun j=>a1t (fs.take j)) k' a' w') (Exit.inBlock 2 Q)) a3 w3:=by
   intro g3 a3 w3 xv' e q1 q2 q3 q4 ok3 hl3 E3
   have ok3:=ok3.forget [8,58,59,60]
   rw[show a1k [8,58,59,60] e=[(8,a1n e 8),(58,a1n e 58),(59,a1n e 59),(60,a1n e 60)] from rfl,q1,q2,q3,q4]at ok3
   refine chunk hT mixed tG1 kr ok3 (R:=fun x1 e' H'=>x1= .nrm/\cut 11 (a1k [8,58,59,60] e')=[(8,.raw xv'),(58,.d (a2h fs)),(59,i64 fs.length),(60,i64 ((j+1:Nat):Int))]/\H'=HI x o6 o7 o8 o9++[.box [str f.n,str f.t]]) ?_ ?_
   ·have hw:IntKind.i64.wrap ((j:Int)+1)=((j+1:Nat):Int):=by rw[a0w om];rfl
    refine run ⟨?_⟩
    refine⟨?_,rfl⟩
    rw[<-hw];rfl
   rintro x1 e' H' g4 a4 w4 ⟨rfl,he,rfl⟩ ok4 ext4
   have hl4:=(hl3.ext ext4).cut (m:=11)
   have E4:=(E3.trans ext4 (Nat.le_refl _)).h3z (n:=11) (by show 10<=11;decide) (by show 11<=12;decide) (by show 10<=11;decide)
   have ok4:=ok4.drop (n:=11) [8,58,59,60] (by show 11<=12;decide) (d7a (e1k hcl) (by show 11<=11;decide)) (by show 10<=11;decide)
   rw[he]at ok4
   exact⟨fs.length - (j+1),om,j+1,g4.cut 11,xv',rfl,om,ok4,hl4,E4⟩
  show(Code.cond _ _ _).wp _ _ _ _
  refine Go.wp_cond_split (a7i ok3 (i:=66) (by decide) rfl) (fun hc2=>?_) (fun hc2=>?_)
  ·have hft:¬ f.t=[]:=by simpa using hc2
   rw[if_neg hft]at ht
   refine e7m (b7y hT mixed) ap1s ap1a ap1b kr kr ap1c (by decide) u66 f1d f1r f2j ok3 (s1:=⟨[(70,.d (.sl [.str f.t])),(69,str f.t),(68,.ptr 11 1),(67,.raw xv),(8,.raw xv),(16,.ptr 11 0),(58,.d (a2h fs)),(59,i64 fs.length),(60,i64 j),(66,boo (!decide (f.t=[])))],HI x o6 o7 o8 o9++[.box [str f.n,str f.t]],10⟩) rfl (xv:=xv) rfl (by decide) (w0:=ww) (by rw[b8k];exact hl3) E3 (m3:=1) (vs:=[d7j f.t]) (fun g' a' w' ok' _=>by rw[b8k];exact d6l ok' (by decide) rfl) (by intro u hu;rw[List.mem_singleton]at hu;subst hu;rfl) (by rw[e8u];dsimp only;constructor<;>omega) (s2:=fun xv'=>⟨[(8,.raw xv'),(71,.raw xv'),(70,.d (.sl [.str f.t])),(69,str f.t),(68,.ptr 11 1),(67,.raw xv),(8,.raw xv),(16,.ptr 11 0),(58,.d (a2h fs)),(59,i64 fs.length),(60,i64 j),(66,boo (!decide (f.t=[])))],HI x o6 o7 o8 o9++[.box [str f.n,str f.t]],10⟩) (fun _=>rfl) ?_
   intro xv' g4 a4 w4 ok4 hl4 E4
   rw[b8k]at hl4
   refine fin g4 a4 w4 xv' _ rfl rfl rfl rfl ok4 ?_ E4
   rw[ht,List.map_append,List.length_append]
   exact hl4
  ·have hft:f.t=[]:=by simpa using hc2
   rw[if_pos hft]at ht
   apply wp_skip
   refine fin g3 a3 w3 xv _ rfl rfl rfl rfl ok3 ?_ E3
   rw[ht]
   exact hl3
 ·apply wp_exit
  have hj':j=fs.length:=by have:=of_decide_eq_false hc;omega
  subst hj'
  dsimp only at hl1
  rw[List.take_length]at hl1
  exact hq _ _ _ xv (ok1.forget [8]) hl1 E1
theorem r88:b9l Tryz.prog Tryz.f95.results.toList=some [.tmp 6,.tmp 7]:=kr
theorem i0a:Tryz.prog.funcs[95]? =some Tryz.f95:=kr
theorem n88t:Tryz.f95.ntmps=74:=kr
def HQ (fx:Nat->Option Obj) (x:Its) (s:S) (o6 o7 o8 o9:Ob) (g0:Gh) (ww:World):Exit->Act->World->Prop:=fun e a w=>e= .ret/\∃ g xv,a2e (cxL fx) 74 g ⟨[(6,.raw xv),(7,boo (a1b x s).2)],HI x o6 o7 o8 o9,10⟩ a w/\Loose (cxL fx) g w ww.heap.size 1 xv (a1b x s).1.length ((a1b x s).1.map d7j)/\Ext 10 g0 (HH x o6 o7 o8 o9) ww g (HI x o6 o7 o8 o9) w
set_option maxHeartbeats 4000000 in
theorem e9c (x:Its) (hx:b0r x) (s:S) (o6 o7 o8 o9:Ob) (g:Gh) (w:World) (a:Act) (hcl:Clean 10 (HH x o6 o7 o8 o9)) (ok:a2e (cxL fx) 74 g ⟨[(0,.d x.D),(1,.ptr 5 0),(2,str s)],HH x o6 o7 o8 o9,10⟩ a w):c88.wp Tryz.prog (HQ fx x s o6 o7 o8 o9 g w) a w:=by
 have hT:=tOk fx
 have hp:∀ (k:Nat) (r:V),evF (pgL fx F0) a1h [.ptr 3 k,str s] (FH x)=some (r,FH x)->r.sh (d9x [2,3,4,5] (HI x o6 o7 o8 o9).length)=r->evF (pgL fx F0) a1h [.ptr 5 k,str s] (HI x o6 o7 o8 o9)=some (r,HI x o6 o7 o8 o9):=fun k r h hr=>by
   have:=a5b (mv fx) [2,3,4,5] (X:=HI x o6 o7 o8 o9) (A:=[.ptr 5 k,str s]) h rfl rfl rfl rfl rfl
   rw[hr]at this
   exact this
 have e1:=hp 0 _ (c9u x s) rfl
 have e2:=hp 1 _ (d9i x s) rfl
 clear hp
 have hS:(nS x).length=x.ss.length:=by simp[nS]
 have hE:(nE x).length=x.es.length:=by simp[nE]
 have gS:∀ i,pos (nS x) s=some i->i < x.ss.length:=fun i h=>by have:=b2o h;omega
 have gE:∀ i,pos (nE x) s=some i->i < x.es.length:=fun i h=>by have:=b2o h;omega
 rw[s88]
 apply wp_seq
 refine chunk hT mixed t88a kr ok (R:=fun x1 e' H'=>x1= .nrm/\a1k [1,2,3] e'=[(1,.ptr 5 0),(2,str s),(3,.ptr 10 0)]/\H'=HI x o6 o7 o8 o9) ?_ ?_
 ·refine run ⟨?_⟩
  exact rfl
 rintro x1 e' H' g1 a1 w1 ⟨rfl,he,rfl⟩ ok1 ext1
 have ok1:=ok1.forget [1,2,3]
 rw[he]at ok1
 clear he ok
 show(Code.seq _ _).wp _ _ _ _
 apply wp_seq
 refine chunk hT mixed t88b kr ok1 (R:=fun x1 e' H'=>x1= .nrm/\a1k [1,2,3,8] e'=[(1,.ptr 5 0),(2,str s),(3,.ptr 10 0),(8,.nils)]/\H'=HI x o6 o7 o8 o9) ?_ ?_
 ·refine run ⟨?_⟩
  exact rfl
 rintro x1 e' H' g2 a2 w2 ⟨rfl,he,rfl⟩ ok2 ext2
 have ok2:=ok2.forget [1,2,3,8]
 rw[he]at ok2
 have ok2:=(ok2.h1w (i:=8) (by decide) rfl).forget [1,2,3,8]
 have E2:=ext1.trans ext2 (Nat.le_refl _)
 clear he ok1
 show(Code.seq _ _).wp _ _ _ _
 apply wp_seq
 rw[sA0]
 apply wp_seq
 refine chunk hT mixed tA0 kr ok2 (R:=fun x1 e' H'=>x1= .nrm/\a1k [1,2,3,8,9,10] e'=[(1,.ptr 5 0),(2,str s),(3,.ptr 10 0),(8,.raw (.slice none 0 0)),(9,i64 (loc (nS x) s)),(10,boo (known (nS x) s))]/\H'=HI x o6 o7 o8 o9) ?_ ?_
 ·repeat' (first|refine run ⟨?_⟩|refine ca (e1) ?_|fail)
  exact rfl
 rintro x1 e' H' g3 a3 w3 ⟨rfl,he,rfl⟩ ok3 ext3
 have ok3:=ok3.forget [1,2,3,8,9,10]
 rw[he]at ok3
 have E3:=E2.trans ext3 (Nat.le_refl _)
 clear he ok2
 show(Code.seq _ _).wp _ _ _ _
 apply wp_seq
 refine chunk hT mixed tB0 kr ok3 (R:=fun x1 e' H'=>x1= .nrm/\a1k [1,2,3,8,9,25] e'=[(1,.ptr 5 0),(2,str s),(3,.ptr 10 0),(8,.raw (.slice none 0 0)),(9,i64 (loc (nS x) s)),(25,boo (known (nS x) s))]/\H'=HI x o6 o7 o8 o9) ?_ ?_
 ·refine run ⟨?_⟩
  exact rfl
 rintro x1 e' H' g4 a4 w4 ⟨rfl,he,rfl⟩ ok4 ext4
 have ok4:=ok4.forget [1,2,3,8,9,25]
 rw[he]at ok4
 have E4:=E3.trans ext4 (Nat.le_refl _)
 clear he ok3
 show(Code.cond _ _ _).wp _ _ _ _
 refine Go.wp_cond_split (a7i ok4 (i:=25) (by decide) rfl) (fun hc=>?_) (fun hc=>?_)
 ·cases hp:pos (nS x) s with
  |none=>rw[known,hp]at hc;cases hc
  |some i=>
   have hi:=gS i hp
   have hloc:loc (nS x) s=(i:Int):=by rw[loc,hp]
   rw[hloc]at ok4
   unfold HQ a1b
   rw[hp]
   dsimp only
   have pi:=gN hi
   have hl:(x.ss.getD i default).fs.length<=4398046511104:=by
    have:x.ss.getD i default∈x.ss:=by simp[List.getD_eq_getElem?_getD,List.getElem?_eq_getElem hi]
    exact(hx.sf _ this).2.1
   revert pi hl
   generalize x.ss.getD i default=y
   obtain⟨yn,fs⟩:=y
   intro pi hl
   dsimp only at hl⊢
   rw[sB0]
   apply wp_seq
   apply wp_seq
   refine chunk hT mixed tC0 kr ok4 (R:=fun x1 e' H'=>x1= .nrm/\a1k [8,31,32,33] e'=[(8,.raw (.slice none 0 0)),(31,.d (a2h fs)),(32,i64 fs.length),(33,i64 ((0:Nat):Int))]/\H'=HI x o6 o7 o8 o9) ?_ ?_
   ·repeat' (first|refine run ⟨?_⟩|refine a0a pi ?_|fail)
    exact⟨by show[_,_,_,_]=_;rw[List.length_map]<;>rfl,rfl⟩
   rintro x1 e' H' g7 a7 w7 ⟨rfl,he,rfl⟩ ok7 ext7
   have ok7:=ok7.forget [8,31,32,33]
   rw[he]at ok7
   have E7:=E4.trans ext7 (Nat.le_refl _)
   show(Code.block _ _).wp _ _ _ _
   refine i0o x o6 o7 o8 o9 hcl g w fs hl (fun g8 a8 w8 xv ok8 hl8 E8=>?_) a7 w7 ⟨0,g7,.slice none 0 0,rfl,Nat.zero_le _,ok7,.nil,E7⟩
   show Code.wp _ (cR A0') _ _ _
   refine chunk hT mixed tD0 kr ok8 (R:=fun x1 e' H'=>x1= .ret/\a1k [6,7] e'=[(6,.raw xv),(7,boo false)]/\H'=HI x o6 o7 o8 o9) ?_ ?_
   ·refine run ⟨?_⟩
    exact rfl
   rintro x1 e' H' g9 a9 w9 ⟨rfl,he,rfl⟩ ok9 ext9
   have ok9:=ok9.forget [6,7]
   rw[he]at ok9
   exact⟨rfl,g9,xv,ok9,hl8.ext ext9,E8.trans ext9 (Nat.le_refl _)⟩
 ·apply wp_skip
  cases hpS:pos (nS x) s with
  |some i=>rw[known,hpS]at hc;cases hc
  |none=>
   show(Code.seq _ _).wp _ _ _ _
   apply wp_seq
   rw[sA1]
   apply wp_seq
   refine chunk hT mixed tA1 kr ok4 (R:=fun x1 e' H'=>x1= .nrm/\a1k [2,3,8,13,14] e'=[(2,str s),(3,.ptr 10 0),(8,.raw (.slice none 0 0)),(13,i64 (loc (nE x) s)),(14,boo (known (nE x) s))]/\H'=HI x o6 o7 o8 o9) ?_ ?_
   ·repeat' (first|refine run ⟨?_⟩|refine ca (e2) ?_|fail)
    exact rfl
   rintro x1 e' H' g5 a5 w5 ⟨rfl,he,rfl⟩ ok5 ext5
   have ok5:=ok5.forget [2,3,8,13,14]
   rw[he]at ok5
   have E5:=E4.trans ext5 (Nat.le_refl _)
   clear he ok4
   show(Code.seq _ _).wp _ _ _ _
   apply wp_seq
   refine chunk hT mixed tB1 kr ok5 (R:=fun x1 e' H'=>x1= .nrm/\a1k [2,3,8,13,52] e'=[(2,str s),(3,.ptr 10 0),(8,.raw (.slice none 0 0)),(13,i64 (loc (nE x) s)),(52,boo (known (nE x) s))]/\H'=HI x o6 o7 o8 o9) ?_ ?_
   ·refine run ⟨?_⟩
    exact rfl
   rintro x1 e' H' g6 a6 w6 ⟨rfl,he,rfl⟩ ok6 ext6
   have ok6:=ok6.forget [2,3,8,13,52]
   rw[he]at ok6
   have E6:=E5.trans ext6 (Nat.le_refl _)
   clear he ok5
   show(Code.cond _ _ _).wp _ _ _ _
   refine Go.wp_cond_split (a7i ok6 (i:=52) (by decide) rfl) (fun hc2=>?_) (fun hc2=>?_)
   ·cases hp:pos (nE x) s with
    |none=>rw[known,hp]at hc2;cases hc2
    |some i=>
     have hi:=gE i hp
     have hloc:loc (nE x) s=(i:Int):=by rw[loc,hp]
     rw[hloc]at ok6
     unfold HQ a1b
     rw[hpS,hp]
     dsimp only
     have pi:=gN hi
     have hl:(x.es.getD i default).fs.length<=4398046511104:=by
      have:x.es.getD i default∈x.es:=by simp[List.getD_eq_getElem?_getD,List.getElem?_eq_getElem hi]
      exact(hx.ef _ this).2.1
     revert pi hl
     generalize x.es.getD i default=y
     obtain⟨yn,fs⟩:=y
     intro pi hl
     dsimp only at hl⊢
     rw[sB1]
     apply wp_seq
     apply wp_seq
     refine chunk hT mixed tC1 kr ok6 (R:=fun x1 e' H'=>x1= .nrm/\a1k [8,58,59,60] e'=[(8,.raw (.slice none 0 0)),(58,.d (a2h fs)),(59,i64 fs.length),(60,i64 ((0:Nat):Int))]/\H'=HI x o6 o7 o8 o9) ?_ ?_
     ·repeat' (first|refine run ⟨?_⟩|refine a0a pi ?_|fail)
      exact⟨by show[_,_,_,_]=_;rw[List.length_map]<;>rfl,rfl⟩
     rintro x1 e' H' g7 a7 w7 ⟨rfl,he,rfl⟩ ok7 ext7
     have ok7:=ok7.forget [8,58,59,60]
     rw[he]at ok7
     have E7:=E6.trans ext7 (Nat.le_refl _)
     show(Code.block _ _).wp _ _ _ _
     refine h9r x o6 o7 o8 o9 hcl g w fs hl (fun g8 a8 w8 xv ok8 hl8 E8=>?_) a7 w7 ⟨0,g7,.slice none 0 0,rfl,Nat.zero_le _,ok7,.nil,E7⟩
     show Code.wp _ (cR A1') _ _ _
     refine chunk hT mixed tD1 kr ok8 (R:=fun x1 e' H'=>x1= .ret/\a1k [6,7] e'=[(6,.raw xv),(7,boo true)]/\H'=HI x o6 o7 o8 o9) ?_ ?_
     ·refine run ⟨?_⟩
      exact rfl
     rintro x1 e' H' g9 a9 w9 ⟨rfl,he,rfl⟩ ok9 ext9
     have ok9:=ok9.forget [6,7]
     rw[he]at ok9
     exact⟨rfl,g9,xv,ok9,hl8.ext ext9,E8.trans ext9 (Nat.le_refl _)⟩
   ·apply wp_skip
    cases hp:pos (nE x) s with
    |some i=>rw[known,hp]at hc2;cases hc2
    |none=>
     unfold HQ a1b
     rw[hpS,hp]
     dsimp only
     show Code.wp _ (cR y88) _ _ _
     refine chunk hT mixed t88c kr ok6 (R:=fun x1 e' H'=>x1= .ret/\a1k [6,7] e'=[(6,.nils),(7,boo false)]/\H'=HI x o6 o7 o8 o9) ?_ ?_
     ·refine run ⟨?_⟩
      exact rfl
     rintro x1 e' H' g9 a9 w9 ⟨rfl,he,rfl⟩ ok9 ext9
     have ok9:=ok9.forget [6,7]
     rw[he]at ok9
     have ok9:=(ok9.h1w (i:=6) (by decide) rfl).forget [6,7]
     exact⟨rfl,g9,.slice none 0 0,ok9,.nil,E6.trans ext9 (Nat.le_refl _)⟩
theorem c7l (x:Its) (hx:b0r x) (s:S) (o6 o7 o8 o9:Ob) (g:Gh) (w:World) (cargs:Array Value) (hI:Inv (cxL fx) g (HH x o6 o7 o8 o9) w) (ra:a1c g (HH x o6 o7 o8 o9) [.d x.D,.ptr 5 0,str s] cargs.toList):
 Calls Tryz.prog 95 cargs w fun e w'=> ∃ xv g',e= .returned (.tuple #[xv,.bool (a1b x s).2])/\Inv (cxL fx) g' (HH x o6 o7 o8 o9) w'/\Ext 10 g (HH x o6 o7 o8 o9) w g' (HH x o6 o7 o8 o9) w'/\Loose (cxL fx) g' w' w.heap.size 1 xv (a1b x s).1.length ((a1b x s).1.map d7j):=by
 refine calls_of_wp i0a b88 ?_
 have ok0:a2e (cxL fx) 74 g ⟨a2b [.d x.D,.ptr 5 0,str s],HH x o6 o7 o8 o9,10⟩ {tmps:=cargs++Array.replicate (Tryz.f95.ntmps - cargs.size) Go.undef,defers:=[]} w:=
  ⟨hI,by rw[n88t];exact c2o ra rfl (by show 3<=74;decide),rfl,by show 10<=10;decide⟩
 have ok0:=ok0.forget [0,1,2]
 rw[show a1k [0,1,2] (a2b [.d x.D,.ptr 5 0,str s])=[(0,.d x.D),(1,.ptr 5 0),(2,str s)] from rfl]at ok0
 refine wp_mono (e9c x hx s o6 o7 o8 o9 g w _ hI.und ok0) fun e a1 w1 he=>?_
 obtain⟨rfl,g1,xv,ok1,hl,E⟩:=he
 have goal:a1.defers=[]/\∃ v,(results Tryz.f95 a1.tmps).run Tryz.prog w1= .ok v w1/\∃ xv g',Ending.returned v= .returned (.tuple #[xv,.bool (a1b x s).2])/\Inv (cxL fx) g' (HH x o6 o7 o8 o9) w1/\Ext 10 g (HH x o6 o7 o8 o9) w g' (HH x o6 o7 o8 o9) w1/\Loose (cxL fx) g' w1 w.heap.size 1 xv (a1b x s).1.length ((a1b x s).1.map d7j):=by
  refine⟨ok1.defers,?_⟩
  obtain⟨ys,y1,y2,y3⟩:=b1z (P:=Tryz.prog) (fn:=Tryz.f95) (vs:=[.raw xv,boo (a1b x s).2]) ok1.inv ok1.env r88 (by decide) rfl
  simp only[a1c,Rep,a3e,a0v]at y2
  obtain⟨z1,ys1,rfl,rfl,z2,ys2,rfl,h2,rfl⟩:=y2
  simp only[List.cons.injEq,and_true]at h2
  subst h2
  refine⟨_,y1,_,g1.cut 10,rfl,?_,?_,hl.cut⟩
  ·have:=ok1.inv.restrict (n:=10) (by show 10<=11;decide) (E.clean 10 (Nat.le_refl _) hI.und)
   exact this
  ·exact E.h3z (n:=10) (by show 10<=10;decide) (by show 10<=11;decide) (Nat.le_refl _)
 exact goal
end
end Go.Vm.Ite
namespace Go.Vm.Ite
open Go Go.Vm Go.Proofs Go.Vm.Ip
noncomputable def c72:Code:=(Tryz.f55.body).getD .skip
theorem b72:Tryz.f55.body=some c72:=kr
noncomputable def m72:Code:=cR (cR c72)
noncomputable def e72:Code:=cR m72
noncomputable def l72:Code:=cK (cK (cL e72))
noncomputable def c6m:Code:=cK (cR l72)
noncomputable def p72:Code:=cR (cR c6m)
noncomputable def z72:Code:=cA (cR (cR p72))
theorem q72a:c72= .seq (cL c72) (.seq (cL (cR c72)) (.seq (.region (cId (cL m72)) (a4m (cL m72)) false) (.seq (.block 0 (.loop l72)) (cR e72)))):=kr
theorem q72b:l72= .seq (.seq (.region (cId (cL (cL l72))) (a4m (cL (cL l72))) false) (.cond (.tmp 23) .skip (.exit 0))) (.block 1 (.seq (.region (cId (cL c6m)) (a4m (cL c6m)) false) (.seq (.region (cId (cL (cR c6m))) (a4m (cL (cR c6m))) false) p72))):=kr
theorem q72c:p72= .seq (.seq (cL (cL p72)) (.cond (.tmp 37) (cA (cR (cL p72))) .skip)) (.seq (cL (cR p72)) (.cond (.tmp 41) z72 .skip)):=kr
theorem q72d:z72= .seq (cL z72) (.seq (.region (cId (cL (cR z72))) (a4m (cL (cR z72))) false) (.region (cId (cR (cR z72))) (a4m (cR (cR z72))) false)):=kr
noncomputable def v72:a0r:=vR (vR (vR (vK (vR e4y))))
theorem tE0:tr Tryz.prog n50 (cL c72)=some (vL B55):=kr
theorem tE1:tr Tryz.prog n50 (cL (cR c72))=some (vL (vR B55)):=kr
theorem tE2:tr Tryz.prog n50 (cR e72)=some (vR (vR (vR (vR B55)))):=kr
theorem tE3:tr Tryz.prog n50 (cL (cL p72))=some (vL (vL (vR (vR (vK (vR e4y)))))):=kr
theorem tE4:tr Tryz.prog n50 (cA (cR (cL p72)))=some (vA (vR (vL (vR (vR (vK (vR e4y))))))):=kr
theorem tE5:tr Tryz.prog n50 (cL (cR p72))=some (vL v72):=kr
theorem tE6:tr Tryz.prog n50 (cL z72)=some (vL (vA (vR v72))):=kr
theorem R2s:(a4m (cL m72)).size=9:=kr
theorem R2o3:((a4m (cL m72))[3]?).map (fun o=>(o.op,o.dst,o.guard))=some (.call {callee:= .value (.func 95),args:= #[.tmp 15,.tmp 16,.tmp 17],argTypes:= #[37,66,9]},some 18,none):=kr
theorem R2o4:((a4m (cL m72))[4]?).map (fun o=>(o.op,o.dst,o.guard))=some (.move (.tmp 18),some 14,none):=kr
theorem R2o5:((a4m (cL m72))[5]?).map (fun o=>(o.op,o.dst,o.guard))=some (.extract (.tmp 14) 0,some 19,none):=kr
theorem R2o6:((a4m (cL m72))[6]?).map (fun o=>(o.op,o.dst,o.guard))=some (.extract (.tmp 14) 1,some 20,none):=kr
theorem R2o7:((a4m (cL m72))[7]?).map (fun o=>(o.op,o.dst,o.guard))=some (.assign (.tmp 19),some 8,none):=kr
theorem R2o8:((a4m (cL m72))[8]?).map (fun o=>(o.op,o.dst,o.guard))=some (.assign (.tmp 20),some 9,none):=kr
theorem R2v0:a1m Tryz.prog (a4m (cL m72)) (((a4m (cL m72)).toList.drop 0).take 3)=some (((vO (vL (vR (vR B55)))).drop 0).take 3):=kr
theorem R3s:(a4m (cL (cL l72))).size=3:=kr
theorem R3o0:((a4m (cL (cL l72)))[0]?).map (fun o=>(o.op,o.dst,o.guard))=some (.move (.tmp 8),some 21,none):=kr
theorem R3o1:((a4m (cL (cL l72)))[1]?).map (fun o=>(o.op,o.dst,o.guard))=some (.call {callee:= .builtin .len,args:= #[.tmp 21],argTypes:= #[97]},some 22,none):=kr
theorem R3v2:a1m Tryz.prog (a4m (cL (cL l72))) (((a4m (cL (cL l72))).toList.drop 2).take 1)=some (((vO (vL (vL e4y))).drop 2).take 1):=kr
theorem R4s:(a4m (cL c6m)).size=7:=kr
theorem R4o0:((a4m (cL c6m))[0]?).map (fun o=>(o.op,o.dst,o.guard))=some (.move (.tmp 8),some 24,none):=kr
theorem R4o1:((a4m (cL c6m))[1]?).map (fun o=>(o.op,o.dst,o.guard))=some (.move (.tmp 8),some 25,none):=kr
theorem R4o2:((a4m (cL c6m))[2]?).map (fun o=>(o.op,o.dst,o.guard))=some (.call {callee:= .builtin .len,args:= #[.tmp 25],argTypes:= #[97]},some 26,none):=kr
theorem R4o4:((a4m (cL c6m))[4]?).map (fun o=>(o.op,o.dst,o.guard))=some (.indexAddr 97 (.tmp 24) (.tmp 27),some 28,none):=kr
theorem R4o5:((a4m (cL c6m))[5]?).map (fun o=>(o.op,o.dst,o.guard))=some (.load 9 (.tmp 28),some 29,none):=kr
theorem R4o6:((a4m (cL c6m))[6]?).map (fun o=>(o.op,o.dst,o.guard))=some (.assign (.tmp 29),some 10,none):=kr
theorem R4v3:a1m Tryz.prog (a4m (cL c6m)) (((a4m (cL c6m)).toList.drop 3).take 1)=some (((vO (vL (vK (vR e4y)))).drop 3).take 1):=kr
theorem R5s:(a4m (cL (cR c6m))).size=6:=kr
theorem R5o0:((a4m (cL (cR c6m)))[0]?).map (fun o=>(o.op,o.dst,o.guard))=some (.move (.tmp 8),some 30,none):=kr
theorem R5o1:((a4m (cL (cR c6m)))[1]?).map (fun o=>(o.op,o.dst,o.guard))=some (.move (.tmp 8),some 31,none):=kr
theorem R5o2:((a4m (cL (cR c6m)))[2]?).map (fun o=>(o.op,o.dst,o.guard))=some (.call {callee:= .builtin .len,args:= #[.tmp 31],argTypes:= #[97]},some 32,none):=kr
theorem R5o4:((a4m (cL (cR c6m)))[4]?).map (fun o=>(o.op,o.dst,o.guard))=some (.slice 97 (.tmp 30) none (some (.tmp 33)) none,some 34,none):=kr
theorem R5o5:((a4m (cL (cR c6m)))[5]?).map (fun o=>(o.op,o.dst,o.guard))=some (.assign (.tmp 34),some 8,none):=kr
theorem R5v3:a1m Tryz.prog (a4m (cL (cR c6m))) (((a4m (cL (cR c6m))).toList.drop 3).take 1)=some (((vO (vL (vR (vK (vR e4y))))).drop 3).take 1):=kr
theorem R10s:(a4m (cL (cR z72))).size=9:=kr
theorem h7v:((a4m (cL (cR z72)))[3]?).map (fun o=>(o.op,o.dst,o.guard))=some (.call {callee:= .value (.func 95),args:= #[.tmp 45,.tmp 46,.tmp 47],argTypes:= #[37,66,9]},some 48,none):=kr
theorem i1s:((a4m (cL (cR z72)))[4]?).map (fun o=>(o.op,o.dst,o.guard))=some (.move (.tmp 48),some 44,none):=kr
theorem h9f:((a4m (cL (cR z72)))[5]?).map (fun o=>(o.op,o.dst,o.guard))=some (.extract (.tmp 44) 0,some 49,none):=kr
theorem i1m:((a4m (cL (cR z72)))[6]?).map (fun o=>(o.op,o.dst,o.guard))=some (.extract (.tmp 44) 1,some 50,none):=kr
theorem h7i:((a4m (cL (cR z72)))[7]?).map (fun o=>(o.op,o.dst,o.guard))=some (.assign (.tmp 49),some 11,none):=kr
theorem i0y:((a4m (cL (cR z72)))[8]?).map (fun o=>(o.op,o.dst,o.guard))=some (.assign (.tmp 50),some 12,none):=kr
theorem h9l:a1m Tryz.prog (a4m (cL (cR z72))) (((a4m (cL (cR z72))).toList.drop 0).take 3)=some (((vO (vL (vR (vA (vR v72))))).drop 0).take 3):=kr
theorem R11s:(a4m (cR (cR z72))).size=4:=kr
theorem R11a:a1m Tryz.prog (a4m (cR (cR z72))) (((a4m (cR (cR z72))).toList.drop 0).take 2)=some ((vO (vR (vR (vA (vR v72))))).take 2):=kr
theorem R11b:a1m Tryz.prog (a4m (cR (cR z72))) (((a4m (cR (cR z72))).toList.drop 3).take 1)=some ((vO (vR (vR (vA (vR v72))))).drop 3):=kr
theorem R11c:((a4m (cR (cR z72)))[2]?).map (fun o=>(o.op,o.dst,o.guard))=some (.call {callee:= .builtin .append,args:= #[.tmp 51,.tmp 52],argTypes:= #[97,97]},some 53,none):=kr
theorem sz9:sizeT Tryz.prog 9=some 1:=kr
theorem sh9:b3k Tryz.prog 9=some none:=kr
theorem f88b:Tryz.f95.body.isNone=false:=kr
theorem f88n:(Tryz.f95.name== "runtime.NumGoroutine")=false:=kr
section
variable {fx:Nat->Option Obj}
abbrev H8 (x:Its) (o6 o7:Ob):Hp:=[IB x,IB x,.map (a7e (nS x)),.map (a7e (nE x)),.map (a7e (nF x)),.box [.mp 2,.mp 3,.mp 4],o6,o7]
abbrev HE (x:Its) (o6 o7:Ob) (seen:List S):Hp:=HH x o6 o7 (IB x) (.map (a8g seen))
def EInv (fx:Nat->Option Obj) (x:Its) (s:S) (o6 o7:Ob) (g0:Gh) (ww:World) (k:Nat) (a:Act) (w:World):Prop:=
 ∃ g xv seen todo,k=todo.length+owed x seen (nS x++nE x)/\k<=4096/\e7h x s seen todo/\a2e (cxL fx) 54 g ⟨[(1,.ptr 5 0),(2,str s),(3,.ptr 8 0),(7,.mp 9),(8,.raw xv)],HE x o6 o7 seen,8⟩ a w/\Loose (cxL fx) g w ww.heap.size 1 xv todo.length (todo.map d7j)/\Ext 8 g0 (H8 x o6 o7) ww g (HE x o6 o7 seen) w
set_option maxHeartbeats 4000000 in
theorem i1p (x:Its) (hx:b0r x) (hsm:Small x) (s:S) (o6 o7:Ob) (g0:Gh) (ww:World) {Q:Exit->Act->World->Prop}
 (hq:∀ g a w seen,¬ Gets x s s->a2e (cxL fx) 54 g ⟨[(2,str s)],HE x o6 o7 seen,8⟩ a w->Ext 8 g0 (H8 x o6 o7) ww g (HE x o6 o7 seen) w->Q .normal a w)
 (hr:∀ g a w seen,Gets x s s->a2e (cxL fx) 54 g ⟨[(6,boo true)],HE x o6 o7 seen,8⟩ a w->Ext 8 g0 (H8 x o6 o7) ww g (HE x o6 o7 seen) w->Q .ret a w)
 (k:Nat) (a:Act) (w:World) (h:EInv fx x s o6 o7 g0 ww k a w):(Code.block 0 (.loop l72)).wp Tryz.prog Q a w:=by
 have hT:=tOk fx
 have hS:=b7y hT mixed
 apply wp_block
 refine b6m (EInv fx x s o6 o7 g0 ww) ?_ h
 rintro k a w ⟨g,xv,seen,todo,hk,hk2,hsr,ok,hl,E0⟩
 rw[q72b]
 apply wp_seq
 apply wp_seq
 obtain⟨ad,c,hxv⟩:=hl.len
 apply wp_region
 rw[R3s,g9i]
 have hg8:=(ok.env.2 8 (by decide)).1
 simp only[b3v (show(1:Nat)≠8 by decide),b3v (show(2:Nat)≠8 by decide),b3v (show(3:Nat)≠8 by decide),b3v (show(7:Nat)≠8 by decide),d1r,Rep]at hg8
 refine a3s R3o0 ok (v:= .raw xv) (fun o ho=>c2b ho) (by decide) hg8 rfl fun ok1=>?_
 have hg21:=(ok1.env.2 21 (by decide)).1
 simp only[a6p,d1r,Rep]at hg21
 refine a3s R3o1 ok1 (v:=i64 todo.length) (fun o ho=>d1a u66 (hg21.trans hxv) ho) (by decide) (a5q _ _) rfl fun ok2=>?_
 show Go.wpOps _ _ _ (List.range' 2 1++[]) _ _
 refine c3v hS R3v2 kr (by rw[R3s];decide) (s':=⟨[(23,boo (decide ((todo.length:Int) > 0))),(22,i64 todo.length),(21,.raw xv),(1,.ptr 5 0),(2,str s),(3,.ptr 8 0),(7,.mp 9),(8,.raw xv)],HE x o6 o7 seen,8⟩) rfl ok2 fun g3 a3 w3 ok3 ext3=>?_
 have hl3:=hl.ext ext3
 have E3:=E0.trans ext3 (Nat.le_refl _)
 show(Code.cond _ _ _).wp _ _ _ _
 refine Go.wp_cond_split (a7i ok3 (i:=23) (by decide) rfl) (fun hc=>?_) (fun hc=>?_)
 ·have hpos:0 < todo.length:=by have:=of_decide_eq_true hc;omega
  obtain⟨td,y,rfl⟩:∃ td y,todo=td++[y]:=⟨todo.dropLast,todo.getLast (List.length_pos_iff.1 hpos),(List.dropLast_concat_getLast _).symm⟩
  have ok3:=ok3.forget [1,2,3,7,8]
  rw[show a1k [1,2,3,7,8] _=[(1,.ptr 5 0),(2,str s),(3,.ptr 8 0),(7,.mp 9),(8,.raw xv)] from rfl]at ok3
  clear ok ok1 ok2 hg8 hg21
  have hlen:(td++[y]).length=td.length+1:=by simp
  have hlb:td.length+1<=4096:=om
  apply wp_skip
  show(Code.block 1 _).wp _ _ _ _
  apply wp_block
  apply wp_seq
  apply wp_region
  rw[R4s,show List.range 7=[0,1,2,3,4,5,6] from rfl]
  refine a3s R4o0 ok3 (v:= .raw xv) (fun o ho=>c2b ho) (by decide) (b2v ok3 (i:=8) (by decide) rfl) rfl fun ok4=>?_
  refine a3s R4o1 ok4 (v:= .raw xv) (fun o ho=>c2b ho) (by decide) (b2v ok4 (i:=8) (by decide) rfl) rfl fun ok5=>?_
  refine a3s R4o2 ok5 (v:=i64 (td++[y]).length) (fun o ho=>d1a u66 ((f3q ok5 (i:=25) (by decide) rfl).trans hxv) ho) (by decide) (a5q _ _) rfl fun ok6=>?_
  show Go.wpOps _ _ _ (List.range' 3 1++[4,5,6]) _ _
  have hw:IntKind.i64.wrap (((td++[y]).length:Int) - 1)=(td.length:Int):=by rw[hlen,a0w om];omega
  refine c3v hS R4v3 kr (by rw[R4s];decide) (s':=⟨[(27,i64 td.length),(26,i64 (td++[y]).length),(25,.raw xv),(24,.raw xv),(1,.ptr 5 0),(2,str s),(3,.ptr 8 0),(7,.mp 9),(8,.raw xv)],HE x o6 o7 seen,8⟩) (by rw[<-hw];rfl) ok6 fun g7 a7 w7 ok7 ext7=>?_
  have hl7:=hl3.ext ext7
  have E7:=E3.trans ext7 (Nat.le_refl _)
  obtain⟨b,cap,cur,e,hx1,hh,hy⟩:=hl7.get (i:=td.length) (y:=d7j y) (by rw[List.map_append,List.getElem?_append_right (by simp)];simp)
  refine a3s R4o4 ok7 (v:= .raw (.pointer (some ⟨b,td.length,none⟩))) (fun o ho=>f3f u66 sz9 ((f3q ok7 (i:=24) (by decide) rfl).trans hx1) (valI ok7 (i:=27) (by decide) rfl) om ho) (by decide) (by simp only[Rep]) rfl fun ok8=>?_
  refine a3s R4o5 ok8 (v:=str y) (fun o ho=>g4v sh9 (f3q ok8 (i:=28) (by decide) rfl) hh hy ho) (by decide) (by simp only[Rep,a3e,a0v];rfl) rfl fun ok9=>?_
  refine a3s R4o6 ok9 (v:=str y) (fun o ho=>c7n ho) (by decide) (b2v ok9 (i:=29) (by decide) rfl) rfl fun ok10=>?_
  have ok10:=ok10.forget [1,2,3,7,8,10]
  rw[show a1k [1,2,3,7,8,10] _=[(1,.ptr 5 0),(2,str s),(3,.ptr 8 0),(7,.mp 9),(8,.raw xv),(10,str y)] from rfl]at ok10
  clear ok4 ok5 ok6 ok7 ok8 ok9
  show(Code.seq _ _).wp _ _ _ _
  apply wp_seq
  apply wp_region
  rw[R5s,show List.range 6=[0,1,2,3,4,5] from rfl]
  refine a3s R5o0 ok10 (v:= .raw xv) (fun o ho=>c2b ho) (by decide) (b2v ok10 (i:=8) (by decide) rfl) rfl fun ok11=>?_
  refine a3s R5o1 ok11 (v:= .raw xv) (fun o ho=>c2b ho) (by decide) (b2v ok11 (i:=8) (by decide) rfl) rfl fun ok12=>?_
  refine a3s R5o2 ok12 (v:=i64 (td++[y]).length) (fun o ho=>d1a u66 ((f3q ok12 (i:=31) (by decide) rfl).trans hxv) ho) (by decide) (a5q _ _) rfl fun ok13=>?_
  show Go.wpOps _ _ _ (List.range' 3 1++[4,5]) _ _
  refine c3v hS R5v3 kr (by rw[R5s];decide) (s':=⟨[(33,i64 td.length),(32,i64 (td++[y]).length),(31,.raw xv),(30,.raw xv),(1,.ptr 5 0),(2,str s),(3,.ptr 8 0),(7,.mp 9),(8,.raw xv),(10,str y)],HE x o6 o7 seen,8⟩) (by rw[<-hw];rfl) ok13 fun g14 a14 w14 ok14 ext14=>?_
  have hl14:=hl7.ext ext14
  have E14:=E7.trans ext14 (Nat.le_refl _)
  rw[hxv]at hl14
  obtain⟨hmc,hl15⟩:=hl14.pop (m:=td.length) om
  rw[show((td++[y]).map d7j).take td.length=td.map d7j by rw[List.map_append];exact List.take_left' (by simp)]at hl15
  revert hl15
  obtain⟨xv2,hxv2⟩:∃ xv2,xv2=Value.slice (if c=0 then ad else ad.map (·.add 0)) td.length c:=⟨_,rfl⟩
  rw[<-hxv2]
  intro hl15
  refine a3s R5o4 ok14 (v:= .raw xv2) (x:=xv2) (fun o ho=>by rw[hxv2];exact f5a u66 sz9 ((f3q ok14 (i:=30) (by decide) rfl).trans hxv) (valI ok14 (i:=33) (by decide) rfl) hmc ho) (by decide) (by simp only[Rep]) rfl fun ok15=>?_
  refine a3s R5o5 ok15 (v:= .raw xv2) (fun o ho=>c7n ho) (by decide) (b2v ok15 (i:=34) (by decide) rfl) rfl fun ok16=>?_
  have ok16:=ok16.forget [1,2,3,7,8,10]
  rw[show a1k [1,2,3,7,8,10] _=[(1,.ptr 5 0),(2,str s),(3,.ptr 8 0),(7,.mp 9),(8,.raw xv2),(10,str y)] from rfl]at ok16
  clear ok10 ok11 ok12 ok13 ok14 ok15
  show Code.wp _ p72 _ _ _
  rw[q72c]
  apply wp_seq
  apply wp_seq
  refine chunk hT mixed tE3 kr ok16 (R:=fun x1 e' H'=>x1= .nrm/\a1k [1,2,3,7,8,10,37] e'=[(1,.ptr 5 0),(2,str s),(3,.ptr 8 0),(7,.mp 9),(8,.raw xv2),(10,str y),(37,boo (decide (y=s)))]/\H'=HE x o6 o7 seen) ?_ ?_
  ·refine run ⟨?_⟩
   exact rfl
  rintro x1 e' H' g17 a17 w17 ⟨rfl,he,rfl⟩ ok17 ext17
  have ok17:=ok17.forget [1,2,3,7,8,10,37]
  rw[he]at ok17
  have hl17:=hl15.ext ext17
  have E17:=E14.trans ext17 (Nat.le_refl _)
  clear he ok16
  show(Code.cond _ _ _).wp _ _ _ _
  refine Go.wp_cond_split (a7i ok17 (i:=37) (by decide) rfl) (fun hc2=>?_) (fun hc2=>?_)
  ·have hys:y=s:=of_decide_eq_true hc2
   refine chunk hT mixed tE4 kr ok17 (R:=fun x1 e' H'=>x1= .ret/\a1k [6] e'=[(6,boo true)]/\H'=HE x o6 o7 seen) ?_ ?_
   ·refine run ⟨?_⟩
    exact rfl
   rintro x1 e' H' g18 a18 w18 ⟨rfl,he,rfl⟩ ok18 ext18
   have ok18:=ok18.forget [6]
   rw[he]at ok18
   exact hr g18 a18 w18 seen (by have:=hsr.r2 y (by simp);rwa [hys]at this) ok18 (E17.trans ext18 (Nat.le_refl _))
  ·have hys:¬ y=s:=of_decide_eq_false hc2
   apply wp_skip
   show(Code.seq _ _).wp _ _ _ _
   apply wp_seq
   have h1:=b1l seen
   have h2:=a8t y seen
   have h3:=b1p y seen
   by_cases hm:y∈seen
   ·rw[if_pos hm]at h2
    refine chunk hT mixed tE5 kr ok17 (R:=fun x1 e' H'=>x1= .nrm/\a1k [1,2,3,7,8,41] e'=[(1,.ptr 5 0),(2,str s),(3,.ptr 8 0),(7,.mp 9),(8,.raw xv2),(41,boo (decide ((1:Int)=0)))]/\H'=HE x o6 o7 seen) ?_ ?_
    ·repeat' (first|refine run ⟨?_⟩|refine mg h1 h2 ?_|fail)
     exact rfl
    rintro x1 e' H' g18 a18 w18 ⟨rfl,he,rfl⟩ ok18 ext18
    have ok18:=ok18.forget [1,2,3,7,8,41]
    rw[he]at ok18
    show(Code.cond _ _ _).wp _ _ _ _
    refine Go.wp_cond_false (a7i ok18 (i:=41) (b:=false) (by decide) rfl) ?_
    apply wp_skip
    exact⟨td.length+owed x seen (nS x++nE x),om,g18,xv2,seen,td,rfl,om,hsr.old hm,ok18.forget [1,2,3,7,8],hl17.ext ext18,E17.trans ext18 (Nat.le_refl _)⟩
   ·rw[if_neg hm]at h2
    have h3:=h3 hm
    refine chunk hT mixed tE5 kr ok17 (R:=fun x1 e' H'=>x1= .nrm/\a1k [1,2,3,7,8,10,41] e'=[(1,.ptr 5 0),(2,str s),(3,.ptr 8 0),(7,.mp 9),(8,.raw xv2),(10,str y),(41,boo (decide ((0:Int)=0)))]/\H'=HE x o6 o7 seen) ?_ ?_
    ·repeat' (first|refine run ⟨?_⟩|refine mg h1 h2 ?_|fail)
     exact rfl
    rintro x1 e' H' g18 a18 w18 ⟨rfl,he,rfl⟩ ok18 ext18
    have ok18:=ok18.forget [1,2,3,7,8,10,41]
    rw[he]at ok18
    have hl18:=hl17.ext ext18
    have E18:=E17.trans ext18 (Nat.le_refl _)
    show(Code.cond _ _ _).wp _ _ _ _
    refine Go.wp_cond_true (a7i ok18 (i:=41) (b:=true) (by decide) rfl) ?_
    rw[q72d]
    apply wp_seq
    refine chunk hT mixed tE6 kr ok18 (R:=fun x1 e' H'=>x1= .nrm/\a1k [1,2,3,7,8,10] e'=[(1,.ptr 5 0),(2,str s),(3,.ptr 8 0),(7,.mp 9),(8,.raw xv2),(10,str y)]/\H'=HE x o6 o7 (seen++[y])) ?_ ?_
    ·repeat' (first|refine run ⟨?_⟩|refine And.intro h1 ?_|fail)
     show[_,_,_,_,_,_,_,_,_,Ob.map _]=_
     rw[h3]
    rintro x1 e' H' g19 a19 w19 ⟨rfl,he,rfl⟩ ok19 ext19
    have ok19:=ok19.forget [1,2,3,7,8,10]
    rw[he]at ok19
    have hl19:=hl18.ext ext19
    have E19:=E18.trans ext19 (Nat.le_refl _)
    show(Code.seq _ _).wp _ _ _ _
    apply wp_seq
    apply wp_region
    rw[R10s,show List.range 9=List.range' 0 3++[3,4,5,6,7,8] from rfl]
    refine c3v hS h9l kr (by rw[R10s];decide) (s':=⟨[(47,str y),(46,.ptr 5 0),(45,.d x.D),(1,.ptr 5 0),(2,str s),(3,.ptr 8 0),(7,.mp 9),(8,.raw xv2),(10,str y)],HE x o6 o7 (seen++[y]),8⟩) rfl ok19 fun g20 a20 w20 ok20 ext20=>?_
    have hl20:=hl19.ext ext20
    have E20:=E19.trans ext20 (Nat.le_refl _)
    have hra:a1c g20 (HE x o6 o7 (seen++[y])) [.d x.D,.ptr 5 0,str y] ((#[Operand.tmp 45,Operand.tmp 46,Operand.tmp 47].map a20.eval).toList):=by
     simp only[List.map_toArray,List.map_cons,List.map_nil,a1c]
     exact⟨_,_,rfl,b2v ok20 (i:=45) (by decide) rfl,_,_,rfl,b2v ok20 (i:=46) (by decide) rfl,_,_,rfl,b2v ok20 (i:=47) (by decide) rfl,rfl⟩
    refine e1q i0a f88b f88n h7v (c7l x hx y o6 o7 (IB x) (.map (a8g (seen++[y]))) g20 w20 _ ok20.inv hra) fun e w21 he=>?_
    obtain⟨xl,g21,rfl,hI21,ext21,hl21⟩:=he
    refine⟨_,rfl,?_⟩
    have ok21:=ok20.put (d:=some 48) (v:= .raw (.tuple #[xl,.bool (a1b x y).2])) (x:= .tuple #[xl,.bool (a1b x y).2]) (fun k hk=>by cases hk;decide) hI21 (by simp only[Rep]) rfl (ext21.le (by show 8<=10;decide))
    have hl22:=hl20.ext ext21
    have E22:=E20.trans ext21 (by show 8<=10;decide)
    refine a3s i1s ok21 (v:= .raw (.tuple #[xl,.bool (a1b x y).2])) (fun o ho=>c2b ho) (by decide) (b2v ok21 (i:=48) (by decide) rfl) rfl fun ok22=>?_
    refine a3s h9f ok22 (v:= .raw xl) (x:=xl) (fun o ho=>e3k ho (f3q ok22 (i:=44) (by decide) rfl) rfl) (by decide) (by simp only[Rep]) rfl fun ok23=>?_
    refine a3s i1m ok23 (v:=boo (a1b x y).2) (x:= .bool (a1b x y).2) (fun o ho=>e3k ho (f3q ok23 (i:=44) (by decide) rfl) rfl) (by decide) (a5f _) rfl fun ok24=>?_
    refine a3s h7i ok24 (v:= .raw xl) (fun o ho=>c7n ho) (by decide) (b2v ok24 (i:=49) (by decide) rfl) rfl fun ok25=>?_
    refine a3s i0y ok25 (v:=boo (a1b x y).2) (fun o ho=>c7n ho) (by decide) (b2v ok25 (i:=50) (by decide) rfl) rfl fun ok26=>?_
    have ok26:=ok26.forget [1,2,3,7,8,11]
    rw[show a1k [1,2,3,7,8,11] _=[(1,.ptr 5 0),(2,str s),(3,.ptr 8 0),(7,.mp 9),(8,.raw xv2),(11,.raw xl)] from rfl]at ok26
    have how:=f7t x hm
    have hhs:=c0x hsm y
    show(Code.region _ _ _).wp _ _ _ _
    refine e7m hS R11s R11a R11b kr kr R11c (by decide) u66 f1d f1r f2j ok26 (s1:=⟨[(52,.raw xl),(51,.raw xv2),(1,.ptr 5 0),(2,str s),(3,.ptr 8 0),(7,.mp 9),(8,.raw xv2),(11,.raw xl)],HE x o6 o7 (seen++[y]),8⟩) rfl (xv:=xv2) rfl (by decide) (w0:=ww) (by rw[b8k];exact hl22) E22 (m3:=(a1b x y).1.length) (vs:=(a1b x y).1.map d7j) (fun g' a' w' ok' ext'=>by rw[b8k,f3q ok' (i:=52) (by decide) rfl];exact(hl21.ext ext').stand) (by intro u hu;obtain⟨q,_,rfl⟩:=List.mem_map.1 hu;rfl) (by rw[e8u];constructor<;>omega) (s2:=fun xv'=>⟨[(8,.raw xv'),(53,.raw xv'),(52,.raw xl),(51,.raw xv2),(1,.ptr 5 0),(2,str s),(3,.ptr 8 0),(7,.mp 9),(8,.raw xv2),(11,.raw xl)],HE x o6 o7 (seen++[y]),8⟩) (fun _=>rfl) ?_
    intro xv' g27 a27 w27 ok27 hl27 E27
    rw[b8k]at hl27
    refine⟨(td++(a1b x y).1).length+owed x (seen++[y]) (nS x++nE x),by rw[List.length_append];omega,g27,xv',seen++[y],td++(a1b x y).1,rfl,by rw[List.length_append];omega,hsr.new hys,ok27.forget [1,2,3,7,8],?_,E27⟩
    rw[List.length_append,List.map_append]
    exact hl27
 ·apply wp_exit
  have h0:todo=[]:=by
   have:=of_decide_eq_false hc
   apply List.eq_nil_of_length_eq_zero;omega
  subst h0
  exact hq g3 a3 w3 seen hsr.end (ok3.forget [2]) E3
def EQ (fx:Nat->Option Obj) (x:Its) (s:S) (o6 o7:Ob) (g0:Gh) (ww:World):Exit->Act->World->Prop:=fun e a w=>e= .ret/\∃ g seen,a2e (cxL fx) 54 g ⟨[(6,boo (c2s x s))],HE x o6 o7 seen,8⟩ a w/\Ext 8 g0 (H8 x o6 o7) ww g (HE x o6 o7 seen) w
set_option maxHeartbeats 4000000 in
theorem f5x (x:Its) (hx:b0r x) (hsm:Small x) (s:S) (o6 o7:Ob) (g:Gh) (w:World) (a:Act) (ok:a2e (cxL fx) 54 g ⟨[(0,.d x.D),(1,.ptr 5 0),(2,str s)],H8 x o6 o7,8⟩ a w):c72.wp Tryz.prog (EQ fx x s o6 o7 g w) a w:=by
 have hT:=tOk fx
 have hS:=b7y hT mixed
 rw[q72a]
 apply wp_seq
 refine chunk hT mixed tE0 kr ok (R:=fun x1 e' H'=>x1= .nrm/\a1k [1,2,3] e'=[(1,.ptr 5 0),(2,str s),(3,.ptr 8 0)]/\H'=H8 x o6 o7++[IB x]) ?_ ?_
 ·refine run ⟨?_⟩
  exact rfl
 rintro x1 e' H' g1 a1 w1 ⟨rfl,he,rfl⟩ ok1 ext1
 have ok1:=ok1.forget [1,2,3]
 rw[he]at ok1
 clear he ok
 show(Code.seq _ _).wp _ _ _ _
 apply wp_seq
 refine chunk hT mixed tE1 kr ok1 (R:=fun x1 e' H'=>x1= .nrm/\a1k [1,2,3,7] e'=[(1,.ptr 5 0),(2,str s),(3,.ptr 8 0),(7,.mp 9)]/\H'=HE x o6 o7 []) ?_ ?_
 ·refine run ⟨?_⟩
  exact rfl
 rintro x1 e' H' g2 a2 w2 ⟨rfl,he,rfl⟩ ok19 ext2
 have ok19:=ok19.forget [1,2,3,7]
 rw[he]at ok19
 have E19:=ext1.trans ext2 (Nat.le_refl _)
 clear he ok1
 show(Code.seq _ _).wp _ _ _ _
 apply wp_seq
 apply wp_region
 rw[R2s,show List.range 9=List.range' 0 3++[3,4,5,6,7,8] from rfl]
 refine c3v hS R2v0 kr (by rw[R2s];decide) (s':=⟨[(17,str s),(16,.ptr 5 0),(15,.d x.D),(1,.ptr 5 0),(2,str s),(3,.ptr 8 0),(7,.mp 9)],HE x o6 o7 [],8⟩) rfl ok19 fun g20 a20 w20 ok20 ext20=>?_
 have E20:=E19.trans ext20 (Nat.le_refl _)
 have hra:a1c g20 (HE x o6 o7 []) [.d x.D,.ptr 5 0,str s] ((#[Operand.tmp 15,Operand.tmp 16,Operand.tmp 17].map a20.eval).toList):=by
  simp only[List.map_toArray,List.map_cons,List.map_nil,a1c]
  exact⟨_,_,rfl,b2v ok20 (i:=15) (by decide) rfl,_,_,rfl,b2v ok20 (i:=16) (by decide) rfl,_,_,rfl,b2v ok20 (i:=17) (by decide) rfl,rfl⟩
 refine e1q i0a f88b f88n R2o3 (c7l x hx s o6 o7 (IB x) (.map (a8g [])) g20 w20 _ ok20.inv hra) fun e w21 he=>?_
 obtain⟨xl,g21,rfl,hI21,ext21,hl21⟩:=he
 refine⟨_,rfl,?_⟩
 have ok21:=ok20.put (d:=some 18) (v:= .raw (.tuple #[xl,.bool (a1b x s).2])) (x:= .tuple #[xl,.bool (a1b x s).2]) (fun k hk=>by cases hk;decide) hI21 (by simp only[Rep]) rfl (ext21.le (by show 8<=10;decide))
 have E22:=E20.trans ext21 (by show 8<=10;decide)
 refine a3s R2o4 ok21 (v:= .raw (.tuple #[xl,.bool (a1b x s).2])) (fun o ho=>c2b ho) (by decide) (b2v ok21 (i:=18) (by decide) rfl) rfl fun ok22=>?_
 refine a3s R2o5 ok22 (v:= .raw xl) (x:=xl) (fun o ho=>e3k ho (f3q ok22 (i:=14) (by decide) rfl) rfl) (by decide) (by simp only[Rep]) rfl fun ok23=>?_
 refine a3s R2o6 ok23 (v:=boo (a1b x s).2) (x:= .bool (a1b x s).2) (fun o ho=>e3k ho (f3q ok23 (i:=14) (by decide) rfl) rfl) (by decide) (a5f _) rfl fun ok24=>?_
 refine a3s R2o7 ok24 (v:= .raw xl) (fun o ho=>c7n ho) (by decide) (b2v ok24 (i:=19) (by decide) rfl) rfl fun ok25=>?_
 refine a3s R2o8 ok25 (v:=boo (a1b x s).2) (fun o ho=>c7n ho) (by decide) (b2v ok25 (i:=20) (by decide) rfl) rfl fun ok26=>?_
 have ok26:=ok26.forget [1,2,3,7,8]
 rw[show a1k [1,2,3,7,8] _=[(1,.ptr 5 0),(2,str s),(3,.ptr 8 0),(7,.mp 9),(8,.raw xl)] from rfl]at ok26
 have hhs:=c0x hsm s
 have hob:=c8w hsm [] (nS x++nE x)
 have hnl:(nS x++nE x).length<=128:=by
  have h1:=hsm.ss
  have h2:=hsm.es
  simp only[List.length_append,nS,nE,List.length_map];omega
 show(Code.seq _ _).wp _ _ _ _
 apply wp_seq
 have hle:w.heap.size<=w20.heap.size:=E20.size
 have hl22:Loose (cxL fx) g21 w21 w.heap.size 1 xl (a1b x s).1.length ((a1b x s).1.map d7j):=hl21.older hle
 refine i1p x hx hsm s o6 o7 g w (fun g3 a3 w3 seen hn ok3 E3=>?_) (fun g3 a3 w3 seen hy ok3 E3=>?_) _ _ _ ⟨g21,xl,[],(a1b x s).1,rfl,om,e7h.start x s,ok26,hl22,E22⟩
 ·show Code.wp _ (cR e72) _ _ _
  refine chunk hT mixed tE2 kr ok3 (R:=fun x1 e' H'=>x1= .ret/\a1k [6] e'=[(6,boo false)]/\H'=HE x o6 o7 seen) ?_ ?_
  ·refine run ⟨?_⟩
   exact rfl
  rintro x1 e' H' g4 a4 w4 ⟨rfl,he,rfl⟩ ok4 ext4
  have ok4:=ok4.forget [6]
  rw[he]at ok4
  exact⟨rfl,g4,seen,by rw[e2y hn];exact ok4,E3.trans ext4 (Nat.le_refl _)⟩
 ·exact⟨rfl,g3,seen,by rw[c8o hy];exact ok3,E3⟩
theorem r72:b9l Tryz.prog Tryz.f55.results.toList=some [.tmp 6]:=kr
theorem f72f:Tryz.prog.funcs[55]? =some Tryz.f55:=kr
theorem n72t:Tryz.f55.ntmps=54:=kr
theorem f6b (x:Its) (hx:b0r x) (hsm:Small x) (s:S) (o6 o7:Ob):a8a Tryz.prog (cxL fx) 55 [.d x.D,.ptr 5 0,str s] (H8 x o6 o7) (boo (c2s x s)) (H8 x o6 o7):=by
 refine⟨⟨Tryz.f55,f72f,kr,kr⟩,fun g w cargs hI ra ua=>?_⟩
 refine calls_of_wp f72f b72 ?_
 have ok0:a2e (cxL fx) 54 g ⟨a2b [.d x.D,.ptr 5 0,str s],H8 x o6 o7,8⟩ {tmps:=cargs++Array.replicate (Tryz.f55.ntmps - cargs.size) Go.undef,defers:=[]} w:=
  ⟨hI,by rw[n72t];exact c2o ra ua (by show 3<=54;decide),rfl,by show 8<=8;decide⟩
 have ok0:=ok0.forget [0,1,2]
 rw[show a1k [0,1,2] (a2b [.d x.D,.ptr 5 0,str s])=[(0,.d x.D),(1,.ptr 5 0),(2,str s)] from rfl]at ok0
 refine wp_mono (f5x x hx hsm s o6 o7 g w _ ok0) fun e a1 w1 he=>?_
 obtain⟨rfl,g1,seen,ok1,E⟩:=he
 have goal:a1.defers=[]/\∃ v,(results Tryz.f55 a1.tmps).run Tryz.prog w1= .ok v w1/\∃ g' z,Ending.returned v= .returned z/\Inv (cxL fx) g' (H8 x o6 o7) w1/\Rep g' (H8 x o6 o7) (boo (c2s x s)) z/\(boo (c2s x s)).und (H8 x o6 o7).length=true/\Ext (H8 x o6 o7).length g (H8 x o6 o7) w g' (H8 x o6 o7) w1:=by
  refine⟨ok1.defers,?_⟩
  obtain⟨ys,y1,y2,y3⟩:=b1z (P:=Tryz.prog) (fn:=Tryz.f55) (vs:=[boo (c2s x s)]) ok1.inv ok1.env r72 (by decide) rfl
  simp only[a1c,Rep,a3e,a0v]at y2
  obtain⟨z1,ys1,rfl,h2,rfl⟩:=y2
  simp only[List.cons.injEq,and_true]at h2
  subst h2
  refine⟨_,y1,g1.cut 8,_,rfl,?_,a5f _,rfl,?_⟩
  ·exact ok1.inv.restrict (n:=8) (by show 8<=10;decide) (E.clean 8 (Nat.le_refl _) hI.und)
  ·exact E.h3z (n:=8) (by show 8<=8;decide) (by show 8<=10;decide) (Nat.le_refl _)
 exact goal
end
end Go.Vm.Ite
namespace Go.Vm.Ite
open Go Go.Vm Go.Proofs Go.Vm.Ip
noncomputable def c46:Code:=(Tryz.f16.body).getD .skip
noncomputable def c46a:Code:=cR (cR (cR (cR c46)))
noncomputable def c46b:Code:=cR (cR (cR c46a))
noncomputable def c46c:Code:=cR c46b
noncomputable def m1:Code:=cL c46b
noncomputable def m2:Code:=cL c46c
noncomputable def l1:Code:=cK (cK (cR m1))
noncomputable def l2:Code:=cK (cK (cR m2))
end Go.Vm.Ite




namespace Go.Vm.Ite
abbrev d4u:Nat:=148
abbrev b3g:Nat:=151
class HC (F:Nat->Option a0t):Prop where
 cut:F 148=some (.prim b9u)
 ib:F 151=some (.prim a4o)
section
variable {fx:Nat->Option Obj} {F:Nat->Option a0t} [HC F]
theorem e7q:(pgL fx F).tbl d4u=some (.prim b9u):=(HC.cut:F 148=_)
theorem c3u:(pgL fx F).tbl b3g=some (.prim a4o):=(HC.ib:F 151=_)
end
end Go.Vm.Ite
namespace Go.Vm
def d7k (σ:Nat->Option Nat):V->V->Prop
 | .d x,v=>v= .d x
 | .mp k,v=> ∃ j,σ k=some j/\v= .mp j
 | .ptr k o,v=> ∃ j,σ k=some j/\v= .ptr j o
 |_,_=>False
def b8e (σ:Nat->Option Nat):List V->List V->Prop
 |[],l=>l=[]
 |v::r,l=> ∃ v' r',l=v'::r'/\d7k σ v v'/\b8e σ r r'
def f3x (σ:Nat->Option Nat):Ob->Ob->Prop
 | .map l,o=>o= .map l
 | .box c,o=> ∃ c',o= .box c'/\b8e σ c c'
 |_,_=>False
theorem f3x.nrow {σ:Nat->Option Nat} {o o':Ob} (h:f3x σ o o'):(∀ sz l,o≠ .row sz l)/\∀ sz l,o'≠ .row sz l:=by
 cases o with
 |map l=>simp only[f3x]at h;subst h;exact⟨nofun,nofun⟩
 |box c=>simp only[f3x]at h;obtain⟨c',rfl,_⟩:=h;exact⟨nofun,nofun⟩
 |frz c=>exact h.elim
 |row sz l=>exact h.elim
section
variable {σ:Nat->Option Nat} {g g2:Gh} {h H:Hp}
theorem d7k.one {v v':V} (hv:d7k σ v v'):v.one=v'.one:=by
 cases v with
 |d x=>simp only[d7k]at hv;rw[hv]
 |mp k=>simp only[d7k]at hv;obtain⟨j,_,rfl⟩:=hv;rfl
 |ptr k o=>simp only[d7k]at hv;obtain⟨j,_,rfl⟩:=hv;rfl
 |_=>exact hv.elim
theorem e1y (hC:g2.C=g.C) (hJ:∀ i j,σ i=some j->g2.J i=g.J j) (hh:∀ i j,σ i=some j->∃ o,h[i]? =some o/\∀ sz l,o≠ .row sz l) {v v':V} {x:Value} (hv:d7k σ v v') (r:Rep g H v' x):Rep g2 h v x:=by
 cases v with
 |d d=>simp only[d7k]at hv;subst hv;simp only[Rep]at r⊢;rw[hC];exact r
 |mp k=>
  simp only[d7k]at hv
  obtain⟨j,h1,rfl⟩:=hv
  simp only[Rep]at r⊢
  obtain⟨_,b,c,h2,rfl⟩:=r
  exact⟨hh k j h1,b,c,(hJ k j h1).trans h2,rfl⟩
 |ptr k o=>
  simp only[d7k]at hv
  obtain⟨j,h1,rfl⟩:=hv
  simp only[Rep]at r⊢
  obtain⟨_,b,c,h2,rfl⟩:=r
  exact⟨hh k j h1,b,c,(hJ k j h1).trans h2,rfl⟩
 |_=>exact hv.elim
theorem g7n (hC:g2.C=g.C) (hJ:∀ i j,σ i=some j->g2.J i=g.J j) (hh:∀ i j,σ i=some j->∃ o,H[j]? =some o/\∀ sz l,o≠ .row sz l) {v v':V} {x:Value} (hv:d7k σ v v') (r:Rep g2 h v x):Rep g H v' x:=by
 cases v with
 |d d=>simp only[d7k]at hv;subst hv;simp only[Rep]at r⊢;rw[<-hC];exact r
 |mp k=>
  simp only[d7k]at hv
  obtain⟨j,h1,rfl⟩:=hv
  simp only[Rep]at r⊢
  obtain⟨_,b,c,h2,rfl⟩:=r
  exact⟨hh k j h1,b,c,(hJ k j h1).symm.trans h2,rfl⟩
 |ptr k o=>
  simp only[d7k]at hv
  obtain⟨j,h1,rfl⟩:=hv
  simp only[Rep]at r⊢
  obtain⟨_,b,c,h2,rfl⟩:=r
  exact⟨hh k j h1,b,c,(hJ k j h1).symm.trans h2,rfl⟩
 |_=>exact hv.elim
theorem c7r (hC:g2.C=g.C) (hJ:∀ i j,σ i=some j->g2.J i=g.J j) (hh:∀ i j,σ i=some j->∃ o,h[i]? =some o/\∀ sz l,o≠ .row sz l):∀ {l l':List V} {xs:List Value},b8e σ l l'->a1j g H l' xs->a1j g2 h l xs
 |[],l',xs,hv,r=>by simp only[b8e]at hv;subst hv;exact r
 |v::l,l',xs,hv,r=>by
  simp only[b8e]at hv
  obtain⟨v',r',rfl,h1,h2⟩:=hv
  simp only[a1j]at r⊢
  obtain⟨y,ys,rfl,a1,a2,a3⟩:=r
  exact⟨y,ys,rfl,h1.one.trans a1,e1y hC hJ hh h1 a2,c7r hC hJ hh h2 a3⟩
theorem e2k (hC:g2.C=g.C) (hJ:∀ i j,σ i=some j->g2.J i=g.J j) (hh:∀ i j,σ i=some j->∃ o,H[j]? =some o/\∀ sz l,o≠ .row sz l):∀ {l l':List V} {xs:List Value},b8e σ l l'->a1j g2 h l xs->a1j g H l' xs
 |[],l',xs,hv,r=>by simp only[b8e]at hv;subst hv;exact r
 |v::l,l',xs,hv,r=>by
  simp only[b8e]at hv
  obtain⟨v',r',rfl,h1,h2⟩:=hv
  simp only[a1j]at r⊢
  obtain⟨y,ys,rfl,a1,a2,a3⟩:=r
  exact⟨y,ys,rfl,h1.one.symm.trans a1,g7n hC hJ hh h1 a2,e2k hC hJ hh h2 a3⟩
theorem c8l (hC:g2.C=g.C) (hJ:∀ i j,σ i=some j->g2.J i=g.J j) (hh:∀ i j,σ i=some j->∃ o,h[i]? =some o/\∀ sz l,o≠ .row sz l):∀ {l l':List V} {xs:List Value},b8e σ l l'->a1c g H l' xs->a1c g2 h l xs
 |[],l',xs,hv,r=>by simp only[b8e]at hv;subst hv;exact r
 |v::l,l',xs,hv,r=>by
  simp only[b8e]at hv
  obtain⟨v',r',rfl,h1,h2⟩:=hv
  simp only[a1c]at r⊢
  obtain⟨y,ys,rfl,a2,a3⟩:=r
  exact⟨y,ys,rfl,e1y hC hJ hh h1 a2,c8l hC hJ hh h2 a3⟩
theorem e3e {n:Nat} (hlt:∀ i j,σ i=some j->i < n):∀ {l l':List V},b8e σ l l'->a1e n l=true
 |[],_,_=>rfl
 |v::l,l',hv=>by
  simp only[b8e]at hv
  obtain⟨v',r',rfl,h1,h2⟩:=hv
  simp only[a1e,Bool.and_eq_true]
  refine⟨?_,e3e hlt h2⟩
  cases v with
  |d x=>rfl
  |mp k=>simp only[d7k]at h1;obtain⟨j,h3,rfl⟩:=h1;simp only[V.und,decide_eq_true_eq];exact hlt k j h3
  |ptr k o=>simp only[d7k]at h1;obtain⟨j,h3,rfl⟩:=h1;simp only[V.und,decide_eq_true_eq];exact hlt k j h3
  |_=>exact h1.elim
end
section
variable {P:Program} {cx:Cx}
theorem d3s {f:Nat} {a A:List V} {h H:Hp} {r:D} (σ:Nat->Option Nat) (hs:a8a P cx f a h (.d r) h) (hinj:∀ i k j,σ i=some j->σ k=some j->i=k) (hc:Clean h.length h)
 (hob:∀ i j,σ i=some j->∃ o o',h[i]? =some o/\H[j]? =some o'/\f3x σ o o') (ha:b8e σ a A):a8a P cx f A H (.d r) H:=by
 obtain⟨hf,hs⟩:=hs
 refine⟨hf,fun g w cargs hI ra _=>?_⟩
 have hh:∀ i j,σ i=some j->∃ o,h[i]? =some o/\∀ sz l,o≠ .row sz l:=fun i j e=>by
   obtain⟨o,o',h1,_,h3⟩:=hob i j e;exact⟨o,h1,h3.nrow.1⟩
 have hH:∀ i j,σ i=some j->∃ o,H[j]? =some o/\∀ sz l,o≠ .row sz l:=fun i j e=>by
   obtain⟨o,o',_,h2,h3⟩:=hob i j e;exact⟨o',h2,h3.nrow.2⟩
 have hlt:∀ i j,σ i=some j->i < h.length:=fun i j e=>by
   obtain⟨o,h1,_⟩:=hh i j e;exact(List.getElem?_eq_some_iff.1 h1).1
 obtain⟨gs,hgs⟩:∃ gs:Gh,gs=⟨fun i=>(σ i).bind g.J,g.C⟩:=⟨_,rfl⟩
 have gC:gs.C=g.C:=by rw[hgs]
 have gJ:∀ i j,σ i=some j->gs.J i=g.J j:=fun i j e=>by rw[hgs];show(σ i).bind g.J=_;rw[e];rfl
 have gJ':∀ i p,gs.J i=some p->∃ j,σ i=some j/\g.J j=some p:=fun i p e=>by
   rw[hgs]at e
   exact Option.bind_eq_some_iff.1 e
 have hIs:Inv cx gs h w:={
   inj:=fun i k b c c' e1 e2=>by
     obtain⟨j1,s1,t1⟩:=gJ' i _ e1
     obtain⟨j2,s2,t2⟩:=gJ' k _ e2
     have:=hI.inj _ _ _ _ _ t1 t2
     subst this
     exact hinj _ _ _ s1 s2
   dom:=fun i b c e=>by
     obtain⟨j,s1,t1⟩:=gJ' i _ e
     exact⟨hlt i j s1,(hI.dom _ _ _ t1).2⟩
   ob:=fun i b c o e ho=>by
     obtain⟨j,s1,t1⟩:=gJ' i _ e
     obtain⟨o1,o2,h1,h2,h3⟩:=hob i j s1
     rw[h1]at ho;simp only[Option.some.injEq]at ho;subst ho
     have:=hI.ob j b c o2 t1 h2
     cases o1 with
     |map l=>simp only[f3x]at h3;subst h3;simp only[d7l,gC]at this⊢;exact this
     |box cs=>
      simp only[f3x]at h3
      obtain⟨c',rfl,hf⟩:=h3
      simp only[d7l,gC]at this⊢
      obtain⟨cur,e,a1,a2,a3⟩:=this
      exact⟨cur,e,a1,c7r gC gJ hh hf a2,a3⟩
     |frz cs=>exact h3.elim
     |row sz l=>exact h3.elim
   imm:=fun b hb=>by rw[gC]at hb⊢;exact hI.imm b hb
   und:=hc
   glob:=fun i=>by rw[gC];exact hI.glob i
   fix:=fun i o hi=>⟨(hI.fix i o hi).1,fun k c e=>by
     obtain⟨j,_,t1⟩:=gJ' k _ e
     exact(hI.fix i o hi).2 j c t1⟩}
 refine Calls.mono (hs gs w cargs hIs (c8l gC gJ hh ha ra) (e3e hlt ha)) fun e w' hR=>?_
 obtain⟨g',x,he,hI',hr,_,hE⟩:=hR
 have kC:∀ b,g.C b <+:g'.C b:=fun b=>by have:=hE.keep.C b;rw[gC]at this;exact this
 have kJ:∀ i j,σ i=some j->g'.J i=g.J j:=fun i j e=>by
   obtain⟨o,h1,h2⟩:=hh i j e
   exact(hE.keep.obj i o (hlt i j e) h1 h2).1.trans (gJ i j e)
 obtain⟨g2,hg2⟩:∃ g2:Gh,g2=⟨g.J,g'.C⟩:=⟨_,rfl⟩
 have C2:g2.C=g'.C:=by rw[hg2]
 have J2:g2.J=g.J:=by rw[hg2]
 have kw:c2g H.length g H g2 H:=⟨fun b=>by rw[C2];exact kC b,fun i o _ ho hr=>⟨fun p hp=>by rw[J2];exact hp,o,ho,hr⟩,fun i sz l _ ho=>⟨l,ho,List.prefix_refl _,fun _ p hp=>by rw[J2];exact hp⟩⟩
 refine⟨g2,x,he,?_,by simp only[Rep]at hr⊢;rw[C2];exact hr,rfl,?_⟩
 ·exact{
    inj:=by rw[J2];exact hI.inj
    dom:=fun i b c e=>by
      rw[J2]at e
      exact⟨(hI.dom i b c e).1,Nat.lt_of_lt_of_le (hI.dom i b c e).2 hE.size⟩
    ob:=fun i b c o e ho=>by
      rw[J2]at e
      by_cases hm:∃ k,σ k=some i
      ·obtain⟨k,hk⟩:=hm
       obtain⟨o1,o2,h1,h2,h3⟩:=hob k i hk
       rw[h2]at ho;simp only[Option.some.injEq]at ho;subst ho
       have:=hI'.ob k b c o1 ((kJ k i hk).trans e) h1
       cases o1 with
       |map l=>simp only[f3x]at h3;subst h3;simp only[d7l,C2]at this⊢;exact this
       |box cs=>
        simp only[f3x]at h3
        obtain⟨c',rfl,hf⟩:=h3
        simp only[d7l,C2]at this⊢
        obtain⟨cur,e,a1,a2,a3⟩:=this
        exact⟨cur,e,a1,e2k C2.symm (fun i j e=>(kJ i j e).trans (by rw[J2])) hH hf a2,a3⟩
       |frz cs=>exact h3.elim
       |row sz l=>exact h3.elim
      ·have hn:∀ k c',gs.J k≠some (b,c'):=fun k c' ek=>by
         obtain⟨j,s1,t1⟩:=gJ' k _ ek
         have:=hI.inj _ _ _ _ _ t1 e
         subst this
         exact hm ⟨k,s1⟩
       obtain⟨f1,f2⟩:=hE.frame b (hI.dom i b c e).2 hn
       exact d7l.ext (hI.ob i b c o e ho) kw f1 (by rw[C2,f2,gC]) (fun cs hcs=>by
         subst hcs
         exact hI.und i cs (hI.dom i b c e).1 ho)
    imm:=fun b hb=>by rw[C2]at hb⊢;exact hI'.imm b hb
    und:=hI.und
    glob:=fun i=>by rw[C2];exact hI'.glob i
    fix:=fun i o hi=>⟨(hI'.fix i o hi).1,fun k c e=>by rw[J2]at e;exact(hI.fix i o hi).2 k c e⟩}
 ·exact{
    os:=hE.os
    tape:=hE.tape
    output:=hE.output
    size:=hE.size
    frame:=fun b hb hj=>by
      have hn:∀ k c',gs.J k≠some (b,c'):=fun k c' ek=>by
        obtain⟨j,_,t1⟩:=gJ' k _ ek
        exact hj j c' t1
      obtain⟨f1,f2⟩:=hE.frame b hb hn
      exact⟨f1,by rw[C2,f2,gC]⟩
    keep:=⟨fun b=>by rw[C2];exact kC b,fun i o _ ho hr=>⟨by rw[J2],o,ho,hr⟩,fun i sz l _ ho=>⟨l,ho,List.prefix_refl _,fun _=>by rw[J2]⟩⟩
    jnew:=fun i b c e _=>⟨i,c,by rw[J2]at e;exact e⟩
    clean:=fun _ _ h=>h
    len:=Nat.le_refl _ }
end
end Go.Vm
namespace Go.Vm.Ite
open Go Go.Vm Go.Proofs Go.Vm.Ip
def e4q (x:Its) (p:Nat) (h:Hp):Prop:=∃ a b c,h[p]? =some (.box [.mp a,.mp b,.mp c])/\h[a]? =some (.map (a7e (nS x)))/\h[b]? =some (.map (a7e (nE x)))/\h[c]? =some (.map (a7e (nF x)))/\a≠b/\a≠c/\b≠c
open Classical in
noncomputable def b9b (a:List V) (h:Hp):Option (V×Hp):=match a with
 |[.d d,.ptr p 0,.d (.str s)]=>if c:∃ x:Its,b0r x/\Small x/\d=x.D/\e4q x p h then some (boo (c2s c.choose s),h) else none
 |_=>none
theorem d8c {x:Its} (hx:b0r x) (hs:Small x) {p:Nat} {h:Hp} (hf:e4q x p h) (s:S):b9b [.d x.D,.ptr p 0,str s] h=some (boo (c2s x s),h):=by
 have e:∃ y:Its,b0r y/\Small y/\x.D=y.D/\e4q y p h:=⟨x,hx,hs,rfl,hf⟩
 refine(dif_pos e).trans ?_
 have:e.choose=x:=(Its.c9z _ _ e.choose_spec.2.2.1).symm
 rw[this]
section
variable {fx:Nat->Option Obj}
theorem g2c {x:Its} (hx:b0r x) (hs:Small x) {p:Nat} {h:Hp} (hf:e4q x p h) (s:S):a8a Tryz.prog (cxL fx) 55 [.d x.D,.ptr p 0,str s] h (boo (c2s x s)) h:=by
 obtain⟨a,b,c,h1,h2,h3,h4,n1,n2,n3⟩:=hf
 have np:p≠a/\p≠b/\p≠c:=⟨fun e=>(by rw[e,h2]at h1;cases h1),fun e=>(by rw[e,h3]at h1;cases h1),fun e=>(by rw[e,h4]at h1;cases h1)⟩
 refine d3s (fun i=>if i=2 then some a else if i=3 then some b else if i=4 then some c else if i=5 then some p else none) (f6b x hx hs s (.map []) (.map [])) ?_ ?_ ?_ ?_
 ·intro i k j e1 e2
  try simp only at e1 e2
  split at e1
  ·cases e1
   split at e2
   ·omega
   ·split at e2
    ·cases e2;exact absurd rfl n1
    ·split at e2
     ·cases e2;exact absurd rfl n2
     ·split at e2
      ·cases e2;exact absurd rfl np.1
      ·cases e2
  ·split at e1
   ·cases e1
    split at e2
    ·cases e2;exact absurd rfl n1
    ·split at e2
     ·omega
     ·split at e2
      ·cases e2;exact absurd rfl n3
      ·split at e2
       ·cases e2;exact absurd rfl np.2.1
       ·cases e2
   ·split at e1
    ·cases e1
     split at e2
     ·cases e2;exact absurd rfl n2
     ·split at e2
      ·cases e2;exact absurd rfl n3
      ·split at e2
       ·omega
       ·split at e2
        ·cases e2;exact absurd rfl np.2.2
        ·cases e2
    ·split at e1
     ·cases e1
      split at e2
      ·cases e2;exact absurd rfl np.1
      ·split at e2
       ·cases e2;exact absurd rfl np.2.1
       ·split at e2
        ·cases e2;exact absurd rfl np.2.2
        ·split at e2
         ·omega
         ·cases e2
     ·cases e1
 ·intro i c2 hi hc
  match i,hi,hc with
  |0,_,hc=>cases hc;rfl
  |1,_,hc=>cases hc;rfl
  |2,_,hc=>cases hc
  |3,_,hc=>cases hc
  |4,_,hc=>cases hc
  |5,_,hc=>cases hc;rfl
  |6,_,hc=>cases hc
  |7,_,hc=>cases hc
  |n+8,hi,_=>exact absurd hi (by show ¬ n+8 < 8;omega)
 ·intro i j e
  try simp only at e
  split at e
  ·rename_i q;cases e;exact⟨.map (a7e (nS x)),_,by rw[q];rfl,h2,rfl⟩
  ·split at e
   ·rename_i q;cases e;exact⟨.map (a7e (nE x)),_,by rw[q];rfl,h3,rfl⟩
   ·split at e
    ·rename_i q;cases e;exact⟨.map (a7e (nF x)),_,by rw[q];rfl,h4,rfl⟩
    ·split at e
     ·rename_i q;cases e
      exact⟨.box [.mp 2,.mp 3,.mp 4],_,by rw[q];rfl,h1,⟨_,rfl,_,_,rfl,⟨a,rfl,rfl⟩,_,_,rfl,⟨b,rfl,rfl⟩,_,_,rfl,⟨c,rfl,rfl⟩,rfl⟩⟩
     ·cases e
 ·exact⟨_,_,rfl,rfl,_,_,rfl,⟨p,rfl,rfl⟩,_,_,rfl,rfl,rfl⟩
theorem d1h:∀ args H r H',b9b args H=some (r,H')->a8a Tryz.prog (cxL fx) 55 args H r H':=by
 intro args H r H' h
 unfold b9b at h
 split at h
 ·split at h
  ·rename_i d p s c
   cases h
   obtain⟨h1,h2,h3,h4⟩:=c.choose_spec
   have:=g2c (fx:=fx) h1 h2 h4 s
   rw[<-h3]at this
   exact this
  ·cases h
 ·cases h
end
noncomputable def FT:Nat->Option a0t:=fun i=>if i=43 then some (.prim c4s) else if i=55 then some (.prim b9b) else if i=148 then some (.prim b9u) else if i=151 then some (.prim a4o) else none
instance:HC FT:=⟨rfl,rfl⟩
theorem tOk3 (fx:Nat->Option Obj) (h1:∀ args H r H',b9u args H=some (r,H')->a8a Tryz.prog (cxL fx) 148 args H r H') (h2:∀ args H r H',a4o args H=some (r,H')->a8a Tryz.prog (cxL fx) 151 args H r H'):c2e Tryz.prog (pgL fx FT):=g7l _ _ fun f e h=>by
  unfold FT at h
  split at h
  ·rename_i hf;cases h;subst hf;exact e5h _
  split at h
  ·rename_i hf;cases h;subst hf;exact d1h
  split at h
  ·rename_i hf;cases h;subst hf;exact h1
  split at h
  ·rename_i hf;cases h;subst hf;exact h2
  ·cases h
section
variable {fx:Nat->Option Obj}
theorem d8g {x:Its} (hx:b0r x) (hs:Small x) {p:Nat} {h:Hp} (hf:e4q x p h) (s:S):evF (pgL fx FT) 55 [.d x.D,.ptr p 0,str s] h=some (boo (c2s x s),h):=by
 have ht:(pgL fx FT).tbl 55=some (.prim b9b):=rfl
 rw[c2u ht]
 exact d8c hx hs hf s
end
end Go.Vm.Ite
namespace Go.Vm.Ip
def eF (a b:Fld):Bool:=decide (a.n=b.n) && decide (a.t=b.t)
theorem g3g (a:Fld):eF a a=true:=by simp[eF]
theorem g3k (a b:Fld):eqL [.str a.n,.str a.t] [.str b.n,.str b.t]=eF a b:=by
 rw[Bool.eq_iff_iff];simp[eqL,eF,eq1]
end Go.Vm.Ip


namespace Go.Proofs
open Go.Shelf
def Tryz.e0r:Go.Shelf.Ren:=⟨fun|137=>151|217=>162|266=>174|n=>n,fun|9=>9|5=>5|3=>3|n=>n,fun|n=>n⟩
theorem Tryz.g0j:Go.Proofs.Lays.n137 Tryz.prog Tryz.e0r:={
  mixed:=kr
  f137:=Tryz.func151.trans (congrArg some kr)
  f217:=Tryz.func162.trans (congrArg some kr)
  f266:=Tryz.func174.trans (congrArg some kr)
  t3:=Tryz.underlying3
  a3:=Tryz.isAgg3
  z3:=Tryz.sizeOf3
  v3:=Tryz.zeroValue3
  t5:=Tryz.underlying5
  a5:=Tryz.isAgg5
  z5:=Tryz.sizeOf5
  v5:=Tryz.zeroValue5
  t9:=Tryz.underlying9
  a9:=Tryz.isAgg9
  z9:=Tryz.sizeOf9
  v9:=Tryz.zeroValue9 }
open Go.RowKit in
theorem Tryz.strings_IndexByte (s:ByteArray) (c:Int) (w:World):
 Calls Tryz.prog 151 #[.string s,.int .u8 c] w fun e w'=>e= .returned (.int .i64 (Lib.indexByte s.data.toList c.toNat.toUInt8))/\w'=w:=Any.strings_IndexByte Tryz.g0j s c w
def Tryz.e0w:Go.Shelf.Ren:=⟨fun|145=>148|220=>161|219=>173|217=>162|225=>179|224=>180|267=>181|266=>174|314=>186|n=>n,fun|9=>9|4=>4|59=>172|3=>3|5=>5|46=>188|146=>191|51=>190|n=>n,fun|1=>0|n=>n⟩
theorem Tryz.g4b:Go.Proofs.Lays.n145 Tryz.prog Tryz.e0w:={
  mixed:=kr
  f145:=Tryz.func148.trans (congrArg some kr)
  f217:=Tryz.func162.trans (congrArg some kr)
  f219:=Tryz.func173.trans (congrArg some kr)
  f220:=Tryz.func161.trans (congrArg some kr)
  f224:=Tryz.func180.trans (congrArg some kr)
  f225:=Tryz.func179.trans (congrArg some kr)
  f266:=Tryz.func174.trans (congrArg some kr)
  f267:=Tryz.func181.trans (congrArg some kr)
  f314:=Tryz.func186.trans (congrArg some kr)
  t3:=Tryz.underlying3
  a3:=Tryz.isAgg3
  z3:=Tryz.sizeOf3
  v3:=Tryz.zeroValue3
  t4:=Tryz.underlying4
  a4:=Tryz.isAgg4
  z4:=Tryz.sizeOf4
  v4:=Tryz.zeroValue4
  t5:=Tryz.underlying5
  a5:=Tryz.isAgg5
  z5:=Tryz.sizeOf5
  v5:=Tryz.zeroValue5
  t9:=Tryz.underlying9
  a9:=Tryz.isAgg9
  z9:=Tryz.sizeOf9
  v9:=Tryz.zeroValue9
  t46:=Tryz.underlying188
  a46:=Tryz.isAgg188
  z46:=Tryz.sizeOf188
  v46:=Tryz.zeroValue188
  t51:=Tryz.underlying190
  a51:=Tryz.isAgg190
  z51:=Tryz.sizeOf190
  v51:=Tryz.zeroValue190
  t59:=Tryz.underlying172
  a59:=Tryz.isAgg172
  z59:=Tryz.sizeOf172
  v59:=Tryz.zeroValue172
  t146:=Tryz.underlying191
  a146:=Tryz.isAgg191
  z146:=Tryz.sizeOf191
  v146:=Tryz.zeroValue191
  g1:=kr }
open Go.RowKit Go.Lib in
theorem Tryz.strings_Cut (s sep:ByteArray) (m:Int) (w:World) (hs:s.size < 4294967281) (hm:w.cell? ⟨0,0,none⟩=some (.int .i64 m)):
 Calls Tryz.prog 148 #[.string s,.string sep] w fun e w'=>e= .returned (.tuple #[.string ⟨(Lib.cut s.data.toList sep.data.toList).1.toArray⟩,.string ⟨(Lib.cut s.data.toList sep.data.toList).2.1.toArray⟩,.bool (Lib.cut s.data.toList sep.data.toList).2.2])/\∃ n,w'=w.drewN n:=Any.strings_Cut Tryz.g4b s sep m w hs hm
end Go.Proofs
namespace Go.Proofs.YtocpgkeiakjicaaGreat
open Go Go.Vm Go.ChangeShapes Go.WideShapes Go.ChangeAt Go.RowKit Go.Vm.Ip
theorem own:ownKnob Tryz.prog.godebug=none:=kr
theorem laidOut:laidOutB Tryz.prog=true:=kr
theorem mixed:Tryz.prog.follows .mixedOrders=true:=kr
noncomputable def pgW (W:World):Pg:=⟨⟨h4r [],d7v W [0]⟩,Go.Vm.Ite.tbl Go.Vm.Ite.FT⟩
theorem h8j (W:World):pgW W=Go.Vm.Ite.pgL (d7v W [0]) Go.Vm.Ite.FT:=rfl
theorem code (f:Nat) {fn:Func} (h:Tryz.prog.funcs[f]? =some fn) (h1:fn.body.isNone=false) (h2:(fn.name== "runtime.NumGoroutine")=false):e2c Tryz.prog f:=⟨fn,h,h1,h2⟩
theorem f4b {W:World} (h:W.ShapedOpen Tryz.prog) {g:Gh} {H:Hp} {w:World} (hI:Inv (pgW W).toCx g H w):∃ m:Int,w.cell? ⟨0,0,none⟩=some (.int .i64 m):=by
 obtain⟨m,hm⟩:=(Go.Proofs.cell_of_shapedOpen_int (zero:= #[.int .i64 0]) (t:=3) h (of_decide_eq_true kr) kr rfl kr kr Tryz.underlying3:∃ m:Int,W.cell? ⟨0,0,none⟩=some (.int .i64 m))
 have hm:W.cell? ⟨0,0,none⟩=some (.int .i64 m):=hm
 obtain⟨o,ho⟩:∃ o,W.heap[0]? =some o:=by
  cases hb:W.heap[0]? with
  |none=>unfold World.cell? at hm;simp[hb]at hm
  |some o=>exact⟨o,rfl⟩
 have k:=(hI.fix 0 o (by show d7v W [0] 0=_;unfold d7v;rw[if_pos (by decide)];exact ho)).1
 exact⟨m,by rw[World.cell?_of_block (w:=W) (a:=⟨0,0,none⟩) (k.trans ho.symm)];exact hm⟩
theorem tOk {W:World} (hs:W.ShapedOpen Tryz.prog):c2e Tryz.prog (pgW W):=
 Go.Vm.Ite.tOk3 (d7v W [0])
  (f7m (code 148 Tryz.func148 kr kr) (fun g H w hI=>f4b hs hI) fun s p w h1 hm=>by obtain⟨m,hm⟩:=hm;exact Tryz.strings_Cut s p m w h1 hm)
  (c7g (code 151 Tryz.func151 kr kr) Tryz.strings_IndexByte)
theorem h0b {W:World}:d5r (pgW W).toCx W:=e9a _ (f5o W _) fun p hp=>by cases hp
theorem f5e {laid:List (String×DataW Unit)} {w:World} (h:(laid.filter fun x=>x.2.handleName?.isSome)=[]) (hm:laidMet Tryz.prog laid w):laidMetH Tryz.prog laid w:=by
  unfold laidMetH
  rw[h]
  exact hm
theorem f7e (os:Os) (args:Array Value):laidMetH Tryz.prog [] ((World.laidAll Tryz.prog os []).forCall (fun _ _=>0) ⟨#[],args,[]⟩).memory:=
  f5e kr (laidMet_laidAll _ kr kr)
def tys:Tys:=⟨37,33,34,35,46,50,83,9,44,62,81,4,3⟩
theorem h9p:i0h Tryz.prog tys where
 it:=kr
 ss:=⟨kr,kr⟩
 es:=⟨kr,kr⟩
 fs:=⟨kr,kr⟩
 s:=kr
 e:=kr
 f:=kr
 n:=kr
 fl:=⟨kr,kr⟩
 fd:=kr
 bs:=⟨kr,kr⟩
 b:=kr
 i:=kr
end Go.Proofs.YtocpgkeiakjicaaGreat
namespace Go.Vm.Tp
open Go.Vm.Lex
structure Nd where
 k:Int
 t:List UInt8
 v:Int
 kids:List Int
 f:Int
 e:Int
def Nd.D (x:Nd):D:= .agg [.int .i64 x.k,.str x.t,.int .i64 x.v,.sl (x.kids.map (D.int .i64)),.int .i64 x.f,.int .i64 x.e]
def a1r (t:List Nd):D:= .agg [.sl (t.map Nd.D)]
instance:Inhabited Nd:=⟨⟨0,[],0,[],0,0⟩⟩
def I64 (n:Int):Prop:= -9223372036854775808<=n/\n<=9223372036854775807
structure b0r (t:List Nd):Prop where
 len:t.length<=1048576
 txt:∀ x∈t,x.t.length<=1048576
 kid:∀ x∈t,x.kids.length<=1048576
 ik:∀ x∈t,∀ k∈x.kids,I64 k
 iv:∀ x∈t,I64 x.v
 ie:∀ x∈t,I64 x.f/\I64 x.e
def a3x (k:Int):Bool:=decide (10<=k) && decide (k<=16)
def e7i (k:Int):Bool:=decide (21<=k) && decide (k<=27)
def d7p (k:Int):Bool:=decide (k=20)||(decide (30<=k) && decide (k<=46) && !decide (k=36))
def f3s (k:Int):Bool:=decide (50<=k) && decide (k<=54)
def a4l (c:UInt8) (k:Int):Bool:=
 if c=105 then decide (k=2\/k=3\/k=4)
 else if c=116 then a3x k
 else if c=115 then e7i k
 else if c=101 then d7p k
 else if c=112 then f3s k
 else if c=98 then decide (k=20)
 else if c=102 then decide (k=5)
 else if c=118 then decide (k=6)
 else if c=110 then decide (k=36)
 else if c=97 then decide (k=47)
 else if c=113 then decide (k=7)
 else if c=111 then decide (k=20\/k=45)
 else false
def a0i (k v:Int):List UInt8×Option UInt8×List UInt8:=
 if k=1 then([],some 105,[])
 else if k=2 then([],some 113,[116,98])
 else if k=3 then([],some 102,[])
 else if k=4 then([],some 118,[])
 else if k=5\/k=7\/k=14\/k=15\/k=16 then([116],none,[])
 else if k=6 then([63,116],none,[])
 else if k=20 then(if v=1 then([],some 115,[101]) else([],some 115,[]))
 else if k=21 then([63,116,101],none,[])
 else if k=23\/k=38 then([101,101],none,[])
 else if k=24 then([101,98],none,[])
 else if k=25\/k=37 then([63,101],none,[])
 else if k=34 then([],some 101,[])
 else if k=35 then([],some 110,[])
 else if k=22\/k=36\/k=41\/k=39\/k=40\/k=42\/k=44\/k=43 then([101],none,[])
 else if k=45 then([101,98,63,111],none,[])
 else if k=46 then([101],some 97,[])
 else if k=47 then([112,101],none,[])
 else if k=54 then([63,112],none,[])
 else([],none,[])
def shapeOf:List UInt8×Option UInt8×List UInt8->List UInt8
 |(a,none,_)=>a
 |(a,some c,b)=>a++42::c::b
def c8g (k v:Int):List UInt8:=shapeOf (a0i k v)
def a0k:List UInt8->List Int->Bool
 |[],l=>decide (l=[])
 |[c],l=>match l with|[]=>false|a::r=>a4l c a && decide (r=[])
 |c::d::s,l=>if c=63 then(match l with|[]=>false|a::r=>a4l d a && a0k s r)||a0k s l else match l with|[]=>false|a::r=>a4l c a && a0k (d::s) r
def a0q (k v:Int) (ks:List Int):Bool:=match a0i k v with
 |(a,none,_)=>a0k a ks
 |(a,some c,b)=>decide (a.length+b.length<=ks.length) && (a0k a (ks.take a.length) && ((ks.take (ks.length - b.length)).drop a.length).all (a4l c) && a0k b (ks.drop (ks.length - b.length)))
def a4b (k:Int):Bool:=(decide (1<=k) && decide (k<=7))||a3x k||e7i k||f3s k||d7p k||decide (k=36)||decide (k=47)
def a6h:List (List UInt8):=[[124,124],[38,38],[61,61],[33,61],[60],[62],[60,61],[62,61],[43],[45],[42],[47],[37]]
def c3f (s:List UInt8):List UInt8×List UInt8×Bool:=Lib.cut s [58,58]
def nmB (k:Int) (t:List UInt8):Bool:=
 if k=2\/k=3\/k=4\/k=5\/k=6\/k=7\/k=13\/k=21\/k=33\/k=34\/k=35\/k=36\/k=41\/k=51 then a3c t
 else if k=37\/k=54 then(c3f t).2.2 && a3c (c3f t).1 && a3c (c3f t).2.1
 else if k=38 then decide (t∈a6h)
 else decide (t=[])
def b7m (k v p:Int):Bool:=
 if k=2 then decide (v=p)
 else if k=7\/k=20\/k=21\/k=31\/k=53\/k=43 then decide (v=0)||decide (v=1)
 else if k=30 then decide (0<=v)
 else if k=52 then decide (-9223372036854775808 < v)
 else decide (v=0)
def b4e (t:List Nd) (i:Int):Int:=(t.getD i.toNat default).k
def kinds (t:List Nd) (l:List Int):List Int:=l.map (b4e t)
def params (ks:List Int):Int:=(ks.filter fun k=>decide (k=7)).length
def a9x (t:List Nd) (i:Nat):Bool:=
 let x:=t.getD i default
 x.kids.all (fun k=>decide (0<=k) && decide (k < i)) && (a4b x.k && nmB x.k x.t && b7m x.k x.v (params (kinds t x.kids)) && decide (0<=x.f) && decide (x.f<=x.e) && a0q x.k x.v (kinds t x.kids))
end Go.Vm.Tp
namespace Go.Vm
variable {P:Program}
theorem f5c {m t:Nat} {x:D} (h:P.underlying t=some .string) (hx:d3g P (m+1) t x):∃ s,x= .str s/\s.length<=maxLen:=by
 unfold d3g at hx;rw[h]at hx;exact hx
def fieldsOf (P:Program) (t:Nat):Option (List Nat):=match P.underlying t with|some (.struct fs)=>some (fs.toList.map (·.type))|_=>none
end Go.Vm


namespace Go.Vm.Tp
def a6t (i:Nat):List Int->List Int->Option (List Int)
 |[],out=>some out
 |k::r,out=>if 0<=out.getD k.toNat 0 then none else a6t i r (out.set k.toNat i)
def b5d:Nat->List Nd->List Int->Option (List Int)
 |_,[],out=>some out
 |i,x::r,out=>(a6t i x.kids out).bind (b5d (i+1) r)
def ups (t:List Nd):Option (List Int):=b5d 0 t (List.replicate t.length (-1))
def b5c (up:List Int):Nat->List Int->List Int
 |0,out=>out
 |n+1,out=>b5c up n (if 0<=up.getD n (-1) then out.set n (out.getD (up.getD n 0).toNat 0+1) else out)
def deps (up:List Int):List Int:=b5c up up.length (List.replicate up.length 0)
def d3j:List Int->Int
 |[]=>0
 |a::r=>r.foldl max a
def e9t (t:List Nd):Bool:=match ups t with
 |none=>false
 |some up=>(decide (up=[])|| !up.dropLast.contains (-1)) && decide (d3j (deps up)<=400)
def a1f (t:List Nd):Bool:=decide (1<=t.length) && decide (t.length<=20000) && decide ((t.getD (t.length - 1) default).k=1) && (List.range t.length).all (a9x t) && e9t t
def errT:Bool->Int
 |true=>0
 |false=>3
theorem c8s (i:Nat):∀ (ks out r:List Int),a6t i ks out=some r->r.length=out.length
 |[],out,r,h=>by cases h;rfl
 |k::ks,out,r,h=>by
  simp only[a6t]at h
  split at h
  ·cases h
  ·rw[c8s i ks _ r h,List.length_set]
theorem d6z:∀ (i:Nat) (t:List Nd) (out r:List Int),b5d i t out=some r->r.length=out.length
 |i,[],out,r,h=>by cases h;rfl
 |i,x::t,out,r,h=>by
  simp only[b5d]at h
  obtain⟨o,h1,h2⟩:=Option.bind_eq_some_iff.1 h
  rw[d6z (i+1) t o r h2,c8s i _ _ _ h1]
theorem c7s (i:Nat) (P:Nat->Int->Prop) (hP:∀ j,P j i):∀ (ks out r:List Int),a6t i ks out=some r->(∀ (j:Nat) (v:Int),out[j]? =some v->P j v)->∀ (j:Nat) (v:Int),r[j]? =some v->P j v
 |[],out,r,h,h0=>by cases h;exact h0
 |k::ks,out,r,h,h0=>by
  simp only[a6t]at h
  split at h
  ·cases h
  ·refine c7s i P hP ks _ r h fun j v hv=>?_
   rw[List.getElem?_set]at hv
   split at hv
   ·split at hv
    ·cases hv;exact hP j
    ·cases hv
   ·exact h0 j v hv
theorem d5f (n:Nat):∀ (i:Nat) (t:List Nd) (out r:List Int),b5d i t out=some r->i+t.length<=n->(∀ (j:Nat) (v:Int),out[j]? =some v-> -1<=v/\v < n)->∀ (j:Nat) (v:Int),r[j]? =some v-> -1<=v/\v < n
 |i,[],out,r,h,_,h0=>by cases h;exact h0
 |i,x::t,out,r,h,hn,h0=>by
  simp only[b5d]at h
  obtain⟨o,h1,h2⟩:=Option.bind_eq_some_iff.1 h
  simp only[List.length_cons]at hn
  exact d5f n (i+1) t o r h2 om (c7s i (fun _ v=> -1<=v/\v < n) (fun _=>om) _ _ _ h1 h0)
theorem b8j {t:List Nd} {up:List Int} (h:ups t=some up):up.length=t.length/\∀ (j:Nat) (v:Int),up[j]? =some v-> -1<=v/\v < t.length:=by
 refine⟨by rw[d6z _ _ _ _ h,List.length_replicate],d5f t.length 0 t _ up h om fun j v hv=>?_⟩
 rw[List.getElem?_replicate]at hv
 split at hv
 ·cases hv;omega
 ·cases hv
theorem d6v (up:List Int):∀ (n:Nat) (out:List Int),(b5c up n out).length=out.length
 |0,out=>rfl
 |n+1,out=>by
  simp only[b5c]
  rw[d6v up n]
  split<;>simp
end Go.Vm.Tp
namespace Go.Vm.Tp
open Go.Vm.Lex
abbrev Toks:=List (List UInt8)
abbrev kid (x:Nd) (i:Nat):Int:=x.kids.getD i 0
end Go.Vm.Tp

namespace Go.Vm.Tp
open Go.Vm.Lex
theorem d1j {v:Int} {ks:List Int} (h:a0q 2 v ks=true):∃ ps a b,ks=ps++[a,b]/\(∀ k∈ps,k=7)/\a3x a=true/\b=20:=by
 have e:a0q 2 v ks=(decide (([]:List UInt8).length+([116,98]:List UInt8).length<=ks.length) && (a0k [] (ks.take ([]:List UInt8).length) && ((ks.take (ks.length - ([116,98]:List UInt8).length)).drop ([]:List UInt8).length).all (a4l 113) && a0k [116,98] (ks.drop (ks.length - ([116,98]:List UInt8).length)))):=rfl
 rw[e]at h
 simp only[Bool.and_eq_true,decide_eq_true_eq,List.length_nil,List.length_cons,List.drop_zero,Nat.zero_add]at h
 obtain⟨h1,⟨_,h2⟩,h3⟩:=h
 refine⟨ks.take (ks.length - 2),?_⟩
 cases hd:ks.drop (ks.length - 2)with
 |nil=>rw[hd]at h3;cases h3
 |cons a r=>
  rw[hd]at h3
  cases r with
  |nil=>simp[a0k]at h3
  |cons b r=>
   have hl:(ks.drop (ks.length - 2)).length=2:=by rw[List.length_drop];omega
   rw[hd]at hl
   cases r with
   |cons c r=>simp at hl
   |nil=>
    refine⟨a,b,?_,?_,?_,?_⟩
    ·rw[<-hd,List.take_append_drop]
    ·intro k hk
     have:=List.all_eq_true.1 h2 k hk
     simpa [a4l] using this
    ·simp[a0k,a4l]at h3;exact h3.1
    ·simp[a0k,a4l]at h3;exact h3.2
theorem c5d {ps:List Int} {a b:Int} (h:∀ k∈ps,k=7) (ha:a3x a=true) (hb:b=20):params (ps++[a,b])=ps.length:=by
 unfold params
 rw[List.filter_append,List.filter_eq_self.2 (by intro k hk;simpa using h k hk)]
 have h7:a≠7:=by intro e;subst e;cases ha
 subst hb
 simp[h7]
theorem g9e {v:Int} {ks:List Int} (hn:b7m 2 v (params ks)=true) (hf:a0q 2 v ks=true):v=((ks.length - 2:Nat):Int)/\2<=ks.length:=by
 obtain⟨ps,a,b,rfl,h1,h2,h3⟩:=d1j hf
 rw[c5d h1 h2 h3]at hn
 have e:b7m 2 v ps.length=decide (v=ps.length):=rfl
 rw[e,decide_eq_true_eq]at hn
 simp only[List.length_append,List.length_cons,List.length_nil]
 constructor<;>omega
structure d2k (t:List Nd) (i:Nat) (x:Nd):Prop where
 kid:∀ k∈x.kids,0<=k/\k < i
 kn:a4b x.k=true
 nm:nmB x.k x.t=true
 num:b7m x.k x.v (params (kinds t x.kids))=true
 fe:0<=x.f/\x.f<=x.e
 fit:a0q x.k x.v (kinds t x.kids)=true
theorem i0f {t:List Nd} {i:Nat} (h:a9x t i=true):d2k t i (t.getD i default):=by
 unfold a9x at h
 simp only[Bool.and_eq_true,decide_eq_true_eq,List.all_eq_true]at h
 obtain⟨h1,⟨⟨⟨⟨h2,h3⟩,h4⟩,h5⟩,h6⟩,h7⟩:=h
 exact⟨h1,h2,h3,h4,⟨h5,h6⟩,h7⟩
theorem d2k.fn {t:List Nd} {i:Nat} {x:Nd} (h:d2k t i x) (hk:x.k=2):x.v=((x.kids.length - 2:Nat):Int)/\2<=x.kids.length:=by
 have h1:=h.num
 have h2:=h.fit
 rw[hk]at h1 h2
 have:=g9e h1 h2
 rwa [show(kinds t x.kids).length=x.kids.length from List.length_map ..]at this
structure c5n (t:List Nd) (up:List Int):Prop where
 lo:1<=t.length
 hi:t.length<=20000
 root:(t.getD (t.length - 1) default).k=1
 nod:∀ i,i < t.length->d2k t i (t.getD i default)
 ups:ups t=some up
 one:up.dropLast.contains (-1)=false
 deep:d3j (deps up)<=400
theorem f9s {t:List Nd} (h:a1f t=true):∃ up,c5n t up:=by
 unfold a1f at h
 simp only[Bool.and_eq_true,decide_eq_true_eq,List.all_eq_true]at h
 obtain⟨⟨⟨⟨h1,h2⟩,h3⟩,h4⟩,h5⟩:=h
 unfold e9t at h5
 cases hu:ups t with
 |none=>rw[hu]at h5;cases h5
 |some up=>
  rw[hu]at h5
  simp only[Bool.and_eq_true,decide_eq_true_eq,Bool.or_eq_true,Bool.not_eq_true']at h5
  refine⟨up,h1,h2,h3,fun i hi=>i0f (h4 i (List.mem_range.2 hi)),hu,?_,h5.2⟩
  rcases h5.1 with e|e
  ·subst e;rfl
  ·exact e
end Go.Vm.Tp
