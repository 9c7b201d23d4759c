import Derived.Test.YtocpgkeiakjicaaGreatIteL
import Derived.Test.YtocpgkeiakjicaaGreatTypP25
import Derived.Test.YtocpgkeiakjicaaGreatVmFn
import Derived.Shelf.Small.Strs
import Derived.Shelf.Small.Wraps
import Derived.Shelf.Strings.Search1
import Derived.Shelf.Strings.Search2
import Derived.Shelf.Strings.Cut
import Derived.Shelf.LaysM
import Derived.Shelf.Strings.Shaped
import Derived.Shelf.Strings.Prefix
import Derived.Shelf.Slices.Turned
import Derived.Test.YtocpgkeiakjicaaGreatProg
import Derived.Test.YtocpgkeiakjicaaGreatVmWp2
import Derived.LaidLaws
import Derived.Test.YtocpgkeiakjicaaGreatRows
import Derived.WalkKit
import Derived.ProofKit
import Derived.OpenShut
import Derived.Deep.DeepHandedRow
import Derived.SevenTiedAt
import Derived.Lay
import Derived.Lib.Bytealg
import Derived.Lib.IndexLaws
import Derived.Lib.ParseIntB
import Derived.Test.YtocpgkeiakjicaaGreatVmOps2
import Derived.Lib.IndexMore
set_option maxRecDepth 100000
set_option linter.unusedVariables false
set_option linter.unusedSimpArgs false
namespace Go.Vm.Ite
open Go Go.Vm Go.Proofs Go.Vm.Ip
noncomputable def c72:Code:=(Tryz.f55.body).getD .skip
theorem b72:Tryz.f55.body=some c72:=kr
noncomputable def m72:Code:=cR (cR c72)
noncomputable def e72:Code:=cR m72
noncomputable def l72:Code:=cK (cK (cL e72))
noncomputable def c6o:Code:=cK (cR l72)
noncomputable def p72:Code:=cR (cR c6o)
noncomputable def z72:Code:=cA (cR (cR p72))
theorem q72a:c72= .seq (cL c72) (.seq (cL (cR c72)) (.seq (.region (cId (cL m72)) (a4o (cL m72)) false) (.seq (.block 0 (.loop l72)) (cR e72)))):=kr
theorem q72b:l72= .seq (.seq (.region (cId (cL (cL l72))) (a4o (cL (cL l72))) false) (.cond (.tmp 23) .skip (.exit 0))) (.block 1 (.seq (.region (cId (cL c6o)) (a4o (cL c6o)) false) (.seq (.region (cId (cL (cR c6o))) (a4o (cL (cR c6o))) false) p72))):=kr
theorem q72c:p72= .seq (.seq (cL (cL p72)) (.cond (.tmp 37) (cA (cR (cL p72))) .skip)) (.seq (cL (cR p72)) (.cond (.tmp 41) z72 .skip)):=kr
theorem q72d:z72= .seq (cL z72) (.seq (.region (cId (cL (cR z72))) (a4o (cL (cR z72))) false) (.region (cId (cR (cR z72))) (a4o (cR (cR z72))) false)):=kr
noncomputable def v72:a0m:=vR (vR (vR (vK (vR e3k))))
theorem tE0:tr Tryz.prog n50 (cL c72)=some (vL B55):=kr
theorem tE1:tr Tryz.prog n50 (cL (cR c72))=some (vL (vR B55)):=kr
theorem tE2:tr Tryz.prog n50 (cR e72)=some (vR (vR (vR (vR B55)))):=kr
theorem tE3:tr Tryz.prog n50 (cL (cL p72))=some (vL (vL (vR (vR (vK (vR e3k)))))):=kr
theorem tE4:tr Tryz.prog n50 (cA (cR (cL p72)))=some (vA (vR (vL (vR (vR (vK (vR e3k))))))):=kr
theorem tE5:tr Tryz.prog n50 (cL (cR p72))=some (vL v72):=kr
theorem tE6:tr Tryz.prog n50 (cL z72)=some (vL (vA (vR v72))):=kr
theorem R2s:(a4o (cL m72)).size=9:=kr
theorem R2o3:((a4o (cL m72))[3]?).map (fun o=>(o.op,o.dst,o.guard))=some (.call {callee:= .value (.func 95),args:= #[.tmp 15,.tmp 16,.tmp 17],argTypes:= #[37,66,9]},some 18,none):=kr
theorem R2o4:((a4o (cL m72))[4]?).map (fun o=>(o.op,o.dst,o.guard))=some (.move (.tmp 18),some 14,none):=kr
theorem R2o5:((a4o (cL m72))[5]?).map (fun o=>(o.op,o.dst,o.guard))=some (.extract (.tmp 14) 0,some 19,none):=kr
theorem R2o6:((a4o (cL m72))[6]?).map (fun o=>(o.op,o.dst,o.guard))=some (.extract (.tmp 14) 1,some 20,none):=kr
theorem R2o7:((a4o (cL m72))[7]?).map (fun o=>(o.op,o.dst,o.guard))=some (.assign (.tmp 19),some 8,none):=kr
theorem R2o8:((a4o (cL m72))[8]?).map (fun o=>(o.op,o.dst,o.guard))=some (.assign (.tmp 20),some 9,none):=kr
theorem R2v0:a1f Tryz.prog (a4o (cL m72)) (((a4o (cL m72)).toList.drop 0).take 3)=some (((vO (vL (vR (vR B55)))).drop 0).take 3):=kr
theorem R3s:(a4o (cL (cL l72))).size=3:=kr
theorem R3o0:((a4o (cL (cL l72)))[0]?).map (fun o=>(o.op,o.dst,o.guard))=some (.move (.tmp 8),some 21,none):=kr
theorem R3o1:((a4o (cL (cL l72)))[1]?).map (fun o=>(o.op,o.dst,o.guard))=some (.call {callee:= .builtin .len,args:= #[.tmp 21],argTypes:= #[97]},some 22,none):=kr
theorem R3v2:a1f Tryz.prog (a4o (cL (cL l72))) (((a4o (cL (cL l72))).toList.drop 2).take 1)=some (((vO (vL (vL e3k))).drop 2).take 1):=kr
theorem R4s:(a4o (cL c6o)).size=7:=kr
theorem R4o0:((a4o (cL c6o))[0]?).map (fun o=>(o.op,o.dst,o.guard))=some (.move (.tmp 8),some 24,none):=kr
theorem R4o1:((a4o (cL c6o))[1]?).map (fun o=>(o.op,o.dst,o.guard))=some (.move (.tmp 8),some 25,none):=kr
theorem R4o2:((a4o (cL c6o))[2]?).map (fun o=>(o.op,o.dst,o.guard))=some (.call {callee:= .builtin .len,args:= #[.tmp 25],argTypes:= #[97]},some 26,none):=kr
theorem R4o4:((a4o (cL c6o))[4]?).map (fun o=>(o.op,o.dst,o.guard))=some (.indexAddr 97 (.tmp 24) (.tmp 27),some 28,none):=kr
theorem R4o5:((a4o (cL c6o))[5]?).map (fun o=>(o.op,o.dst,o.guard))=some (.load 9 (.tmp 28),some 29,none):=kr
theorem R4o6:((a4o (cL c6o))[6]?).map (fun o=>(o.op,o.dst,o.guard))=some (.assign (.tmp 29),some 10,none):=kr
theorem R4v3:a1f Tryz.prog (a4o (cL c6o)) (((a4o (cL c6o)).toList.drop 3).take 1)=some (((vO (vL (vK (vR e3k)))).drop 3).take 1):=kr
theorem R5s:(a4o (cL (cR c6o))).size=6:=kr
theorem R5o0:((a4o (cL (cR c6o)))[0]?).map (fun o=>(o.op,o.dst,o.guard))=some (.move (.tmp 8),some 30,none):=kr
theorem R5o1:((a4o (cL (cR c6o)))[1]?).map (fun o=>(o.op,o.dst,o.guard))=some (.move (.tmp 8),some 31,none):=kr
theorem R5o2:((a4o (cL (cR c6o)))[2]?).map (fun o=>(o.op,o.dst,o.guard))=some (.call {callee:= .builtin .len,args:= #[.tmp 31],argTypes:= #[97]},some 32,none):=kr
theorem R5o4:((a4o (cL (cR c6o)))[4]?).map (fun o=>(o.op,o.dst,o.guard))=some (.slice 97 (.tmp 30) none (some (.tmp 33)) none,some 34,none):=kr
theorem R5o5:((a4o (cL (cR c6o)))[5]?).map (fun o=>(o.op,o.dst,o.guard))=some (.assign (.tmp 34),some 8,none):=kr
theorem R5v3:a1f Tryz.prog (a4o (cL (cR c6o))) (((a4o (cL (cR c6o))).toList.drop 3).take 1)=some (((vO (vL (vR (vK (vR e3k))))).drop 3).take 1):=kr
theorem R10s:(a4o (cL (cR z72))).size=9:=kr
theorem i1y:((a4o (cL (cR z72)))[3]?).map (fun o=>(o.op,o.dst,o.guard))=some (.call {callee:= .value (.func 95),args:= #[.tmp 45,.tmp 46,.tmp 47],argTypes:= #[37,66,9]},some 48,none):=kr
theorem i1d:((a4o (cL (cR z72)))[4]?).map (fun o=>(o.op,o.dst,o.guard))=some (.move (.tmp 48),some 44,none):=kr
theorem i0b:((a4o (cL (cR z72)))[5]?).map (fun o=>(o.op,o.dst,o.guard))=some (.extract (.tmp 44) 0,some 49,none):=kr
theorem i3d:((a4o (cL (cR z72)))[6]?).map (fun o=>(o.op,o.dst,o.guard))=some (.extract (.tmp 44) 1,some 50,none):=kr
theorem i0a:((a4o (cL (cR z72)))[7]?).map (fun o=>(o.op,o.dst,o.guard))=some (.assign (.tmp 49),some 11,none):=kr
theorem i1w:((a4o (cL (cR z72)))[8]?).map (fun o=>(o.op,o.dst,o.guard))=some (.assign (.tmp 50),some 12,none):=kr
theorem i2p:a1f Tryz.prog (a4o (cL (cR z72))) (((a4o (cL (cR z72))).toList.drop 0).take 3)=some (((vO (vL (vR (vA (vR v72))))).drop 0).take 3):=kr
theorem R11s:(a4o (cR (cR z72))).size=4:=kr
theorem R11a:a1f Tryz.prog (a4o (cR (cR z72))) (((a4o (cR (cR z72))).toList.drop 0).take 2)=some ((vO (vR (vR (vA (vR v72))))).take 2):=kr
theorem R11b:a1f Tryz.prog (a4o (cR (cR z72))) (((a4o (cR (cR z72))).toList.drop 3).take 1)=some ((vO (vR (vR (vA (vR v72))))).drop 3):=kr
theorem R11c:((a4o (cR (cR z72)))[2]?).map (fun o=>(o.op,o.dst,o.guard))=some (.call {callee:= .builtin .append,args:= #[.tmp 51,.tmp 52],argTypes:= #[97,97]},some 53,none):=kr
theorem sz9:sizeT Tryz.prog 9=some 1:=kr
theorem sh9:b3t Tryz.prog 9=some none:=kr
theorem f88b:Tryz.f95.body.isNone=false:=kr
theorem f88n:(Tryz.f95.name== "runtime.NumGoroutine")=false:=kr
section
variable {fx:Nat->Option Obj}
abbrev H8 (x:Its) (o6 o7:Ob):Hp:=[IB x,IB x,.map (a4c (nS x)),.map (a4c (nE x)),.map (a4c (nF x)),.box [.mp 2,.mp 3,.mp 4],o6,o7]
abbrev HE (x:Its) (o6 o7:Ob) (seen:List S):Hp:=HH x o6 o7 (IB x) (.map (a8s seen))
def EInv (fx:Nat->Option Obj) (x:Its) (s:S) (o6 o7:Ob) (g0:Gh) (ww:World) (k:Nat) (a:Act) (w:World):Prop:=
 ∃ g xv seen todo,k=todo.length+owed x seen (nS x++nE x)/\k<=4096/\e5q x s seen todo/\a2b (cxL fx) 54 g ⟨[(1,.ptr 5 0),(2,str s),(3,.ptr 8 0),(7,.mp 9),(8,.raw xv)],HE x o6 o7 seen,8⟩ a w/\Loose (cxL fx) g w ww.heap.size 1 xv todo.length (todo.map d5z)/\Ext 8 g0 (H8 x o6 o7) ww g (HE x o6 o7 seen) w
set_option maxHeartbeats 4000000 in
theorem h8x (x:Its) (hx:b2u x) (hsm:Small x) (s:S) (o6 o7:Ob) (g0:Gh) (ww:World) {Q:Exit->Act->World->Prop}
 (hq:∀ g a w seen,¬ Gets x s s->a2b (cxL fx) 54 g ⟨[(2,str s)],HE x o6 o7 seen,8⟩ a w->Ext 8 g0 (H8 x o6 o7) ww g (HE x o6 o7 seen) w->Q .normal a w)
 (hr:∀ g a w seen,Gets x s s->a2b (cxL fx) 54 g ⟨[(6,boo true)],HE x o6 o7 seen,8⟩ a w->Ext 8 g0 (H8 x o6 o7) ww g (HE x o6 o7 seen) w->Q .ret a w)
 (k:Nat) (a:Act) (w:World) (h:EInv fx x s o6 o7 g0 ww k a w):(Code.block 0 (.loop l72)).wp Tryz.prog Q a w:=by
 have hT:=tOk fx
 have hS:=b8t hT mixed
 apply wp_block
 refine b7g (EInv fx x s o6 o7 g0 ww) ?_ h
 rintro k a w ⟨g,xv,seen,todo,hk,hk2,hsr,ok,hl,E0⟩
 rw[q72b]
 apply wp_seq
 apply wp_seq
 obtain⟨ad,c,hxv⟩:=hl.len
 apply wp_region
 rw[R3s,g9r]
 have hg8:=(ok.env.2 8 (by decide)).1
 simp only[b3q (show(1:Nat)≠8 by decide),b3q (show(2:Nat)≠8 by decide),b3q (show(3:Nat)≠8 by decide),b3q (show(7:Nat)≠8 by decide),d0a,Rep]at hg8
 refine a3r R3o0 ok (v:= .raw xv) (fun o ho=>c2g ho) (by decide) hg8 rfl fun ok1=>?_
 have hg21:=(ok1.env.2 21 (by decide)).1
 simp only[a6w,d0a,Rep]at hg21
 refine a3r R3o1 ok1 (v:=i64 todo.length) (fun o ho=>d0o u66 (hg21.trans hxv) ho) (by decide) (a5q _ _) rfl fun ok2=>?_
 show Go.wpOps _ _ _ (List.range' 2 1++[]) _ _
 refine c6k hS R3v2 kr (by rw[R3s];decide) (s':=⟨[(23,boo (decide ((todo.length:Int) > 0))),(22,i64 todo.length),(21,.raw xv),(1,.ptr 5 0),(2,str s),(3,.ptr 8 0),(7,.mp 9),(8,.raw xv)],HE x o6 o7 seen,8⟩) rfl ok2 fun g3 a3 w3 ok3 ext3=>?_
 have hl3:=hl.ext ext3
 have E3:=E0.trans ext3 (Nat.le_refl _)
 show(Code.cond _ _ _).wp _ _ _ _
 refine Go.wp_cond_split (a7h ok3 (i:=23) (by decide) rfl) (fun hc=>?_) (fun hc=>?_)
 ·have hpos:0 < todo.length:=by have:=of_decide_eq_true hc;omega
  obtain⟨td,y,rfl⟩:∃ td y,todo=td++[y]:=⟨todo.dropLast,todo.getLast (List.length_pos_iff.1 hpos),(List.dropLast_concat_getLast _).symm⟩
  have ok3:=ok3.forget [1,2,3,7,8]
  rw[show a1d [1,2,3,7,8] _=[(1,.ptr 5 0),(2,str s),(3,.ptr 8 0),(7,.mp 9),(8,.raw xv)] from rfl]at ok3
  clear ok ok1 ok2 hg8 hg21
  have hlen:(td++[y]).length=td.length+1:=by simp
  have hlb:td.length+1<=4096:=om
  apply wp_skip
  show(Code.block 1 _).wp _ _ _ _
  apply wp_block
  apply wp_seq
  apply wp_region
  rw[R4s,show List.range 7=[0,1,2,3,4,5,6] from rfl]
  refine a3r R4o0 ok3 (v:= .raw xv) (fun o ho=>c2g ho) (by decide) (b2x ok3 (i:=8) (by decide) rfl) rfl fun ok4=>?_
  refine a3r R4o1 ok4 (v:= .raw xv) (fun o ho=>c2g ho) (by decide) (b2x ok4 (i:=8) (by decide) rfl) rfl fun ok5=>?_
  refine a3r R4o2 ok5 (v:=i64 (td++[y]).length) (fun o ho=>d0o u66 ((f2p ok5 (i:=25) (by decide) rfl).trans hxv) ho) (by decide) (a5q _ _) rfl fun ok6=>?_
  show Go.wpOps _ _ _ (List.range' 3 1++[4,5,6]) _ _
  have hw:IntKind.i64.wrap (((td++[y]).length:Int) - 1)=(td.length:Int):=by rw[hlen,a1k om];omega
  refine c6k hS R4v3 kr (by rw[R4s];decide) (s':=⟨[(27,i64 td.length),(26,i64 (td++[y]).length),(25,.raw xv),(24,.raw xv),(1,.ptr 5 0),(2,str s),(3,.ptr 8 0),(7,.mp 9),(8,.raw xv)],HE x o6 o7 seen,8⟩) (by rw[<-hw];rfl) ok6 fun g7 a7 w7 ok7 ext7=>?_
  have hl7:=hl3.ext ext7
  have E7:=E3.trans ext7 (Nat.le_refl _)
  obtain⟨b,cap,cur,e,hx1,hh,hy⟩:=hl7.get (i:=td.length) (y:=d5z y) (by rw[List.map_append,List.getElem?_append_right (by simp)];simp)
  refine a3r R4o4 ok7 (v:= .raw (.pointer (some ⟨b,td.length,none⟩))) (fun o ho=>f2m u66 sz9 ((f2p ok7 (i:=24) (by decide) rfl).trans hx1) (valI ok7 (i:=27) (by decide) rfl) om ho) (by decide) (by simp only[Rep]) rfl fun ok8=>?_
  refine a3r R4o5 ok8 (v:=str y) (fun o ho=>g3l sh9 (f2p ok8 (i:=28) (by decide) rfl) hh hy ho) (by decide) (by simp only[Rep,a3j,a0q];rfl) rfl fun ok9=>?_
  refine a3r R4o6 ok9 (v:=str y) (fun o ho=>c7m ho) (by decide) (b2x ok9 (i:=29) (by decide) rfl) rfl fun ok10=>?_
  have ok10:=ok10.forget [1,2,3,7,8,10]
  rw[show a1d [1,2,3,7,8,10] _=[(1,.ptr 5 0),(2,str s),(3,.ptr 8 0),(7,.mp 9),(8,.raw xv),(10,str y)] from rfl]at ok10
  clear ok4 ok5 ok6 ok7 ok8 ok9
  show(Code.seq _ _).wp _ _ _ _
  apply wp_seq
  apply wp_region
  rw[R5s,show List.range 6=[0,1,2,3,4,5] from rfl]
  refine a3r R5o0 ok10 (v:= .raw xv) (fun o ho=>c2g ho) (by decide) (b2x ok10 (i:=8) (by decide) rfl) rfl fun ok11=>?_
  refine a3r R5o1 ok11 (v:= .raw xv) (fun o ho=>c2g ho) (by decide) (b2x ok11 (i:=8) (by decide) rfl) rfl fun ok12=>?_
  refine a3r R5o2 ok12 (v:=i64 (td++[y]).length) (fun o ho=>d0o u66 ((f2p ok12 (i:=31) (by decide) rfl).trans hxv) ho) (by decide) (a5q _ _) rfl fun ok13=>?_
  show Go.wpOps _ _ _ (List.range' 3 1++[4,5]) _ _
  refine c6k hS R5v3 kr (by rw[R5s];decide) (s':=⟨[(33,i64 td.length),(32,i64 (td++[y]).length),(31,.raw xv),(30,.raw xv),(1,.ptr 5 0),(2,str s),(3,.ptr 8 0),(7,.mp 9),(8,.raw xv),(10,str y)],HE x o6 o7 seen,8⟩) (by rw[<-hw];rfl) ok13 fun g14 a14 w14 ok14 ext14=>?_
  have hl14:=hl7.ext ext14
  have E14:=E7.trans ext14 (Nat.le_refl _)
  rw[hxv]at hl14
  obtain⟨hmc,hl15⟩:=hl14.pop (m:=td.length) om
  rw[show((td++[y]).map d5z).take td.length=td.map d5z by rw[List.map_append];exact List.take_left' (by simp)]at hl15
  revert hl15
  obtain⟨xv2,hxv2⟩:∃ xv2,xv2=Value.slice (if c=0 then ad else ad.map (·.add 0)) td.length c:=⟨_,rfl⟩
  rw[<-hxv2]
  intro hl15
  refine a3r R5o4 ok14 (v:= .raw xv2) (x:=xv2) (fun o ho=>by rw[hxv2];exact f5g u66 sz9 ((f2p ok14 (i:=30) (by decide) rfl).trans hxv) (valI ok14 (i:=33) (by decide) rfl) hmc ho) (by decide) (by simp only[Rep]) rfl fun ok15=>?_
  refine a3r R5o5 ok15 (v:= .raw xv2) (fun o ho=>c7m ho) (by decide) (b2x ok15 (i:=34) (by decide) rfl) rfl fun ok16=>?_
  have ok16:=ok16.forget [1,2,3,7,8,10]
  rw[show a1d [1,2,3,7,8,10] _=[(1,.ptr 5 0),(2,str s),(3,.ptr 8 0),(7,.mp 9),(8,.raw xv2),(10,str y)] from rfl]at ok16
  clear ok10 ok11 ok12 ok13 ok14 ok15
  show Code.wp _ p72 _ _ _
  rw[q72c]
  apply wp_seq
  apply wp_seq
  refine chunk hT mixed tE3 kr ok16 (R:=fun x1 e' H'=>x1= .nrm/\a1d [1,2,3,7,8,10,37] e'=[(1,.ptr 5 0),(2,str s),(3,.ptr 8 0),(7,.mp 9),(8,.raw xv2),(10,str y),(37,boo (decide (y=s)))]/\H'=HE x o6 o7 seen) ?_ ?_
  ·refine run ⟨?_⟩
   exact rfl
  rintro x1 e' H' g17 a17 w17 ⟨rfl,he,rfl⟩ ok17 ext17
  have ok17:=ok17.forget [1,2,3,7,8,10,37]
  rw[he]at ok17
  have hl17:=hl15.ext ext17
  have E17:=E14.trans ext17 (Nat.le_refl _)
  clear he ok16
  show(Code.cond _ _ _).wp _ _ _ _
  refine Go.wp_cond_split (a7h ok17 (i:=37) (by decide) rfl) (fun hc2=>?_) (fun hc2=>?_)
  ·have hys:y=s:=of_decide_eq_true hc2
   refine chunk hT mixed tE4 kr ok17 (R:=fun x1 e' H'=>x1= .ret/\a1d [6] e'=[(6,boo true)]/\H'=HE x o6 o7 seen) ?_ ?_
   ·refine run ⟨?_⟩
    exact rfl
   rintro x1 e' H' g18 a18 w18 ⟨rfl,he,rfl⟩ ok18 ext18
   have ok18:=ok18.forget [6]
   rw[he]at ok18
   exact hr g18 a18 w18 seen (by have:=hsr.r2 y (by simp);rwa [hys]at this) ok18 (E17.trans ext18 (Nat.le_refl _))
  ·have hys:¬ y=s:=of_decide_eq_false hc2
   apply wp_skip
   show(Code.seq _ _).wp _ _ _ _
   apply wp_seq
   have h1:=b1l seen
   have h2:=a8v y seen
   have h3:=b1c y seen
   by_cases hm:y∈seen
   ·rw[if_pos hm]at h2
    refine chunk hT mixed tE5 kr ok17 (R:=fun x1 e' H'=>x1= .nrm/\a1d [1,2,3,7,8,41] e'=[(1,.ptr 5 0),(2,str s),(3,.ptr 8 0),(7,.mp 9),(8,.raw xv2),(41,boo (decide ((1:Int)=0)))]/\H'=HE x o6 o7 seen) ?_ ?_
    ·repeat' (first|refine run ⟨?_⟩|refine mg h1 h2 ?_|fail)
     exact rfl
    rintro x1 e' H' g18 a18 w18 ⟨rfl,he,rfl⟩ ok18 ext18
    have ok18:=ok18.forget [1,2,3,7,8,41]
    rw[he]at ok18
    show(Code.cond _ _ _).wp _ _ _ _
    refine Go.wp_cond_false (a7h ok18 (i:=41) (b:=false) (by decide) rfl) ?_
    apply wp_skip
    exact⟨td.length+owed x seen (nS x++nE x),om,g18,xv2,seen,td,rfl,om,hsr.old hm,ok18.forget [1,2,3,7,8],hl17.ext ext18,E17.trans ext18 (Nat.le_refl _)⟩
   ·rw[if_neg hm]at h2
    have h3:=h3 hm
    refine chunk hT mixed tE5 kr ok17 (R:=fun x1 e' H'=>x1= .nrm/\a1d [1,2,3,7,8,10,41] e'=[(1,.ptr 5 0),(2,str s),(3,.ptr 8 0),(7,.mp 9),(8,.raw xv2),(10,str y),(41,boo (decide ((0:Int)=0)))]/\H'=HE x o6 o7 seen) ?_ ?_
    ·repeat' (first|refine run ⟨?_⟩|refine mg h1 h2 ?_|fail)
     exact rfl
    rintro x1 e' H' g18 a18 w18 ⟨rfl,he,rfl⟩ ok18 ext18
    have ok18:=ok18.forget [1,2,3,7,8,10,41]
    rw[he]at ok18
    have hl18:=hl17.ext ext18
    have E18:=E17.trans ext18 (Nat.le_refl _)
    show(Code.cond _ _ _).wp _ _ _ _
    refine Go.wp_cond_true (a7h ok18 (i:=41) (b:=true) (by decide) rfl) ?_
    rw[q72d]
    apply wp_seq
    refine chunk hT mixed tE6 kr ok18 (R:=fun x1 e' H'=>x1= .nrm/\a1d [1,2,3,7,8,10] e'=[(1,.ptr 5 0),(2,str s),(3,.ptr 8 0),(7,.mp 9),(8,.raw xv2),(10,str y)]/\H'=HE x o6 o7 (seen++[y])) ?_ ?_
    ·repeat' (first|refine run ⟨?_⟩|refine And.intro h1 ?_|fail)
     show[_,_,_,_,_,_,_,_,_,Ob.map _]=_
     rw[h3]
    rintro x1 e' H' g19 a19 w19 ⟨rfl,he,rfl⟩ ok19 ext19
    have ok19:=ok19.forget [1,2,3,7,8,10]
    rw[he]at ok19
    have hl19:=hl18.ext ext19
    have E19:=E18.trans ext19 (Nat.le_refl _)
    show(Code.seq _ _).wp _ _ _ _
    apply wp_seq
    apply wp_region
    rw[R10s,show List.range 9=List.range' 0 3++[3,4,5,6,7,8] from rfl]
    refine c6k hS i2p kr (by rw[R10s];decide) (s':=⟨[(47,str y),(46,.ptr 5 0),(45,.d x.D),(1,.ptr 5 0),(2,str s),(3,.ptr 8 0),(7,.mp 9),(8,.raw xv2),(10,str y)],HE x o6 o7 (seen++[y]),8⟩) rfl ok19 fun g20 a20 w20 ok20 ext20=>?_
    have hl20:=hl19.ext ext20
    have E20:=E19.trans ext20 (Nat.le_refl _)
    have hra:a0z g20 (HE x o6 o7 (seen++[y])) [.d x.D,.ptr 5 0,str y] ((#[Operand.tmp 45,Operand.tmp 46,Operand.tmp 47].map a20.eval).toList):=by
     simp only[List.map_toArray,List.map_cons,List.map_nil,a0z]
     exact⟨_,_,rfl,b2x ok20 (i:=45) (by decide) rfl,_,_,rfl,b2x ok20 (i:=46) (by decide) rfl,_,_,rfl,b2x ok20 (i:=47) (by decide) rfl,rfl⟩
    refine e1j i1s f88b f88n i1y (c8k x hx y o6 o7 (IB x) (.map (a8s (seen++[y]))) g20 w20 _ ok20.inv hra) fun e w21 he=>?_
    obtain⟨xl,g21,rfl,hI21,ext21,hl21⟩:=he
    refine⟨_,rfl,?_⟩
    have ok21:=ok20.put (d:=some 48) (v:= .raw (.tuple #[xl,.bool (a0v x y).2])) (x:= .tuple #[xl,.bool (a0v x y).2]) (fun k hk=>by cases hk;decide) hI21 (by simp only[Rep]) rfl (ext21.le (by show 8<=10;decide))
    have hl22:=hl20.ext ext21
    have E22:=E20.trans ext21 (by show 8<=10;decide)
    refine a3r i1d ok21 (v:= .raw (.tuple #[xl,.bool (a0v x y).2])) (fun o ho=>c2g ho) (by decide) (b2x ok21 (i:=48) (by decide) rfl) rfl fun ok22=>?_
    refine a3r i0b ok22 (v:= .raw xl) (x:=xl) (fun o ho=>e0d ho (f2p ok22 (i:=44) (by decide) rfl) rfl) (by decide) (by simp only[Rep]) rfl fun ok23=>?_
    refine a3r i3d ok23 (v:=boo (a0v x y).2) (x:= .bool (a0v x y).2) (fun o ho=>e0d ho (f2p ok23 (i:=44) (by decide) rfl) rfl) (by decide) (a5d _) rfl fun ok24=>?_
    refine a3r i0a ok24 (v:= .raw xl) (fun o ho=>c7m ho) (by decide) (b2x ok24 (i:=49) (by decide) rfl) rfl fun ok25=>?_
    refine a3r i1w ok25 (v:=boo (a0v x y).2) (fun o ho=>c7m ho) (by decide) (b2x ok25 (i:=50) (by decide) rfl) rfl fun ok26=>?_
    have ok26:=ok26.forget [1,2,3,7,8,11]
    rw[show a1d [1,2,3,7,8,11] _=[(1,.ptr 5 0),(2,str s),(3,.ptr 8 0),(7,.mp 9),(8,.raw xv2),(11,.raw xl)] from rfl]at ok26
    have how:=f6y x hm
    have hhs:=c0f hsm y
    show(Code.region _ _ _).wp _ _ _ _
    refine e8i hS R11s R11a R11b kr kr R11c (by decide) u66 e9t e9i e9c ok26 (s1:=⟨[(52,.raw xl),(51,.raw xv2),(1,.ptr 5 0),(2,str s),(3,.ptr 8 0),(7,.mp 9),(8,.raw xv2),(11,.raw xl)],HE x o6 o7 (seen++[y]),8⟩) rfl (xv:=xv2) rfl (by decide) (w0:=ww) (by rw[b8r];exact hl22) E22 (m3:=(a0v x y).1.length) (vs:=(a0v x y).1.map d5z) (fun g' a' w' ok' ext'=>by rw[b8r,f2p ok' (i:=52) (by decide) rfl];exact(hl21.ext ext').stand) (by intro u hu;obtain⟨q,_,rfl⟩:=List.mem_map.1 hu;rfl) (by rw[e7s];constructor<;>omega) (s2:=fun xv'=>⟨[(8,.raw xv'),(53,.raw xv'),(52,.raw xl),(51,.raw xv2),(1,.ptr 5 0),(2,str s),(3,.ptr 8 0),(7,.mp 9),(8,.raw xv2),(11,.raw xl)],HE x o6 o7 (seen++[y]),8⟩) (fun _=>rfl) ?_
    intro xv' g27 a27 w27 ok27 hl27 E27
    rw[b8r]at hl27
    refine⟨(td++(a0v x y).1).length+owed x (seen++[y]) (nS x++nE x),by rw[List.length_append];omega,g27,xv',seen++[y],td++(a0v x y).1,rfl,by rw[List.length_append];omega,hsr.new hys,ok27.forget [1,2,3,7,8],?_,E27⟩
    rw[List.length_append,List.map_append]
    exact hl27
 ·apply wp_exit
  have h0:todo=[]:=by
   have:=of_decide_eq_false hc
   apply List.eq_nil_of_length_eq_zero;omega
  subst h0
  exact hq g3 a3 w3 seen hsr.end (ok3.forget [2]) E3
def EQ (fx:Nat->Option Obj) (x:Its) (s:S) (o6 o7:Ob) (g0:Gh) (ww:World):Exit->Act->World->Prop:=fun e a w=>e= .ret/\∃ g seen,a2b (cxL fx) 54 g ⟨[(6,boo (c2z x s))],HE x o6 o7 seen,8⟩ a w/\Ext 8 g0 (H8 x o6 o7) ww g (HE x o6 o7 seen) w
set_option maxHeartbeats 4000000 in
theorem f4k (x:Its) (hx:b2u x) (hsm:Small x) (s:S) (o6 o7:Ob) (g:Gh) (w:World) (a:Act) (ok:a2b (cxL fx) 54 g ⟨[(0,.d x.D),(1,.ptr 5 0),(2,str s)],H8 x o6 o7,8⟩ a w):c72.wp Tryz.prog (EQ fx x s o6 o7 g w) a w:=by
 have hT:=tOk fx
 have hS:=b8t hT mixed
 rw[q72a]
 apply wp_seq
 refine chunk hT mixed tE0 kr ok (R:=fun x1 e' H'=>x1= .nrm/\a1d [1,2,3] e'=[(1,.ptr 5 0),(2,str s),(3,.ptr 8 0)]/\H'=H8 x o6 o7++[IB x]) ?_ ?_
 ·refine run ⟨?_⟩
  exact rfl
 rintro x1 e' H' g1 a1 w1 ⟨rfl,he,rfl⟩ ok1 ext1
 have ok1:=ok1.forget [1,2,3]
 rw[he]at ok1
 clear he ok
 show(Code.seq _ _).wp _ _ _ _
 apply wp_seq
 refine chunk hT mixed tE1 kr ok1 (R:=fun x1 e' H'=>x1= .nrm/\a1d [1,2,3,7] e'=[(1,.ptr 5 0),(2,str s),(3,.ptr 8 0),(7,.mp 9)]/\H'=HE x o6 o7 []) ?_ ?_
 ·refine run ⟨?_⟩
  exact rfl
 rintro x1 e' H' g2 a2 w2 ⟨rfl,he,rfl⟩ ok19 ext2
 have ok19:=ok19.forget [1,2,3,7]
 rw[he]at ok19
 have E19:=ext1.trans ext2 (Nat.le_refl _)
 clear he ok1
 show(Code.seq _ _).wp _ _ _ _
 apply wp_seq
 apply wp_region
 rw[R2s,show List.range 9=List.range' 0 3++[3,4,5,6,7,8] from rfl]
 refine c6k hS R2v0 kr (by rw[R2s];decide) (s':=⟨[(17,str s),(16,.ptr 5 0),(15,.d x.D),(1,.ptr 5 0),(2,str s),(3,.ptr 8 0),(7,.mp 9)],HE x o6 o7 [],8⟩) rfl ok19 fun g20 a20 w20 ok20 ext20=>?_
 have E20:=E19.trans ext20 (Nat.le_refl _)
 have hra:a0z g20 (HE x o6 o7 []) [.d x.D,.ptr 5 0,str s] ((#[Operand.tmp 15,Operand.tmp 16,Operand.tmp 17].map a20.eval).toList):=by
  simp only[List.map_toArray,List.map_cons,List.map_nil,a0z]
  exact⟨_,_,rfl,b2x ok20 (i:=15) (by decide) rfl,_,_,rfl,b2x ok20 (i:=16) (by decide) rfl,_,_,rfl,b2x ok20 (i:=17) (by decide) rfl,rfl⟩
 refine e1j i1s f88b f88n R2o3 (c8k x hx s o6 o7 (IB x) (.map (a8s [])) g20 w20 _ ok20.inv hra) fun e w21 he=>?_
 obtain⟨xl,g21,rfl,hI21,ext21,hl21⟩:=he
 refine⟨_,rfl,?_⟩
 have ok21:=ok20.put (d:=some 18) (v:= .raw (.tuple #[xl,.bool (a0v x s).2])) (x:= .tuple #[xl,.bool (a0v x s).2]) (fun k hk=>by cases hk;decide) hI21 (by simp only[Rep]) rfl (ext21.le (by show 8<=10;decide))
 have E22:=E20.trans ext21 (by show 8<=10;decide)
 refine a3r R2o4 ok21 (v:= .raw (.tuple #[xl,.bool (a0v x s).2])) (fun o ho=>c2g ho) (by decide) (b2x ok21 (i:=18) (by decide) rfl) rfl fun ok22=>?_
 refine a3r R2o5 ok22 (v:= .raw xl) (x:=xl) (fun o ho=>e0d ho (f2p ok22 (i:=14) (by decide) rfl) rfl) (by decide) (by simp only[Rep]) rfl fun ok23=>?_
 refine a3r R2o6 ok23 (v:=boo (a0v x s).2) (x:= .bool (a0v x s).2) (fun o ho=>e0d ho (f2p ok23 (i:=14) (by decide) rfl) rfl) (by decide) (a5d _) rfl fun ok24=>?_
 refine a3r R2o7 ok24 (v:= .raw xl) (fun o ho=>c7m ho) (by decide) (b2x ok24 (i:=19) (by decide) rfl) rfl fun ok25=>?_
 refine a3r R2o8 ok25 (v:=boo (a0v x s).2) (fun o ho=>c7m ho) (by decide) (b2x ok25 (i:=20) (by decide) rfl) rfl fun ok26=>?_
 have ok26:=ok26.forget [1,2,3,7,8]
 rw[show a1d [1,2,3,7,8] _=[(1,.ptr 5 0),(2,str s),(3,.ptr 8 0),(7,.mp 9),(8,.raw xl)] from rfl]at ok26
 have hhs:=c0f hsm s
 have hob:=c7v hsm [] (nS x++nE x)
 have hnl:(nS x++nE x).length<=128:=by
  have h1:=hsm.ss
  have h2:=hsm.es
  simp only[List.length_append,nS,nE,List.length_map];omega
 show(Code.seq _ _).wp _ _ _ _
 apply wp_seq
 have hle:w.heap.size<=w20.heap.size:=E20.size
 have hl22:Loose (cxL fx) g21 w21 w.heap.size 1 xl (a0v x s).1.length ((a0v x s).1.map d5z):=hl21.older hle
 refine h8x x hx hsm s o6 o7 g w (fun g3 a3 w3 seen hn ok3 E3=>?_) (fun g3 a3 w3 seen hy ok3 E3=>?_) _ _ _ ⟨g21,xl,[],(a0v x s).1,rfl,om,e5q.start x s,ok26,hl22,E22⟩
 ·show Code.wp _ (cR e72) _ _ _
  refine chunk hT mixed tE2 kr ok3 (R:=fun x1 e' H'=>x1= .ret/\a1d [6] e'=[(6,boo false)]/\H'=HE x o6 o7 seen) ?_ ?_
  ·refine run ⟨?_⟩
   exact rfl
  rintro x1 e' H' g4 a4 w4 ⟨rfl,he,rfl⟩ ok4 ext4
  have ok4:=ok4.forget [6]
  rw[he]at ok4
  exact⟨rfl,g4,seen,by rw[d3d hn];exact ok4,E3.trans ext4 (Nat.le_refl _)⟩
 ·exact⟨rfl,g3,seen,by rw[c8a hy];exact ok3,E3⟩
theorem r72:b9k Tryz.prog Tryz.f55.results.toList=some [.tmp 6]:=kr
theorem f72f:Tryz.prog.funcs[55]? =some Tryz.f55:=kr
theorem n72t:Tryz.f55.ntmps=54:=kr
theorem f3w (x:Its) (hx:b2u x) (hsm:Small x) (s:S) (o6 o7:Ob):a8g Tryz.prog (cxL fx) 55 [.d x.D,.ptr 5 0,str s] (H8 x o6 o7) (boo (c2z x s)) (H8 x o6 o7):=by
 refine⟨⟨Tryz.f55,f72f,kr,kr⟩,fun g w cargs hI ra ua=>?_⟩
 refine calls_of_wp f72f b72 ?_
 have ok0:a2b (cxL fx) 54 g ⟨a1z [.d x.D,.ptr 5 0,str s],H8 x o6 o7,8⟩ {tmps:=cargs++Array.replicate (Tryz.f55.ntmps - cargs.size) Go.undef,defers:=[]} w:=
  ⟨hI,by rw[n72t];exact c3a ra ua (by show 3<=54;decide),rfl,by show 8<=8;decide⟩
 have ok0:=ok0.forget [0,1,2]
 rw[show a1d [0,1,2] (a1z [.d x.D,.ptr 5 0,str s])=[(0,.d x.D),(1,.ptr 5 0),(2,str s)] from rfl]at ok0
 refine wp_mono (f4k x hx hsm s o6 o7 g w _ ok0) fun e a1 w1 he=>?_
 obtain⟨rfl,g1,seen,ok1,E⟩:=he
 have goal:a1.defers=[]/\∃ v,(results Tryz.f55 a1.tmps).run Tryz.prog w1= .ok v w1/\∃ g' z,Ending.returned v= .returned z/\Inv (cxL fx) g' (H8 x o6 o7) w1/\Rep g' (H8 x o6 o7) (boo (c2z x s)) z/\(boo (c2z x s)).und (H8 x o6 o7).length=true/\Ext (H8 x o6 o7).length g (H8 x o6 o7) w g' (H8 x o6 o7) w1:=by
  refine⟨ok1.defers,?_⟩
  obtain⟨ys,y1,y2,y3⟩:=b2m (P:=Tryz.prog) (fn:=Tryz.f55) (vs:=[boo (c2z x s)]) ok1.inv ok1.env r72 (by decide) rfl
  simp only[a0z,Rep,a3j,a0q]at y2
  obtain⟨z1,ys1,rfl,h2,rfl⟩:=y2
  simp only[List.cons.injEq,and_true]at h2
  subst h2
  refine⟨_,y1,g1.cut 8,_,rfl,?_,a5d _,rfl,?_⟩
  ·exact ok1.inv.restrict (n:=8) (by show 8<=10;decide) (E.clean 8 (Nat.le_refl _) hI.und)
  ·exact E.h5r (n:=8) (by show 8<=8;decide) (by show 8<=10;decide) (Nat.le_refl _)
 exact goal
end
end Go.Vm.Ite
namespace Go.Vm.Ite
open Go Go.Vm Go.Proofs Go.Vm.Ip
noncomputable def c46:Code:=(Tryz.f16.body).getD .skip
noncomputable def c46a:Code:=cR (cR (cR (cR c46)))
noncomputable def c46b:Code:=cR (cR (cR c46a))
noncomputable def c46c:Code:=cR c46b
noncomputable def m1:Code:=cL c46b
noncomputable def m2:Code:=cL c46c
noncomputable def l1:Code:=cK (cK (cR m1))
noncomputable def l2:Code:=cK (cK (cR m2))
end Go.Vm.Ite




namespace Go.Vm.Ite
abbrev d4f:Nat:=148
abbrev b3k:Nat:=151
class HC (F:Nat->Option a0x):Prop where
 cut:F 148=some (.prim c1o)
 ib:F 151=some (.prim a4r)
section
variable {fx:Nat->Option Obj} {F:Nat->Option a0x} [HC F]
theorem f1g:(pgL fx F).tbl d4f=some (.prim c1o):=(HC.cut:F 148=_)
theorem c4c:(pgL fx F).tbl b3k=some (.prim a4r):=(HC.ib:F 151=_)
end
end Go.Vm.Ite
namespace Go.Vm
def d5y (σ:Nat->Option Nat):V->V->Prop
 | .d x,v=>v= .d x
 | .mp k,v=> ∃ j,σ k=some j/\v= .mp j
 | .ptr k o,v=> ∃ j,σ k=some j/\v= .ptr j o
 |_,_=>False
def b9m (σ:Nat->Option Nat):List V->List V->Prop
 |[],l=>l=[]
 |v::r,l=> ∃ v' r',l=v'::r'/\d5y σ v v'/\b9m σ r r'
def f5m (σ:Nat->Option Nat):Ob->Ob->Prop
 | .map l,o=>o= .map l
 | .box c,o=> ∃ c',o= .box c'/\b9m σ c c'
 |_,_=>False
theorem f5m.nrow {σ:Nat->Option Nat} {o o':Ob} (h:f5m σ o o'):(∀ sz l,o≠ .row sz l)/\∀ sz l,o'≠ .row sz l:=by
 cases o with
 |map l=>simp only[f5m]at h;subst h;exact⟨nofun,nofun⟩
 |box c=>simp only[f5m]at h;obtain⟨c',rfl,_⟩:=h;exact⟨nofun,nofun⟩
 |frz c=>exact h.elim
 |row sz l=>exact h.elim
section
variable {σ:Nat->Option Nat} {g g2:Gh} {h H:Hp}
theorem d5y.one {v v':V} (hv:d5y σ v v'):v.one=v'.one:=by
 cases v with
 |d x=>simp only[d5y]at hv;rw[hv]
 |mp k=>simp only[d5y]at hv;obtain⟨j,_,rfl⟩:=hv;rfl
 |ptr k o=>simp only[d5y]at hv;obtain⟨j,_,rfl⟩:=hv;rfl
 |_=>exact hv.elim
theorem e0i (hC:g2.C=g.C) (hJ:∀ i j,σ i=some j->g2.J i=g.J j) (hh:∀ i j,σ i=some j->∃ o,h[i]? =some o/\∀ sz l,o≠ .row sz l) {v v':V} {x:Value} (hv:d5y σ v v') (r:Rep g H v' x):Rep g2 h v x:=by
 cases v with
 |d d=>simp only[d5y]at hv;subst hv;simp only[Rep]at r⊢;rw[hC];exact r
 |mp k=>
  simp only[d5y]at hv
  obtain⟨j,h1,rfl⟩:=hv
  simp only[Rep]at r⊢
  obtain⟨_,b,c,h2,rfl⟩:=r
  exact⟨hh k j h1,b,c,(hJ k j h1).trans h2,rfl⟩
 |ptr k o=>
  simp only[d5y]at hv
  obtain⟨j,h1,rfl⟩:=hv
  simp only[Rep]at r⊢
  obtain⟨_,b,c,h2,rfl⟩:=r
  exact⟨hh k j h1,b,c,(hJ k j h1).trans h2,rfl⟩
 |_=>exact hv.elim
theorem g9n (hC:g2.C=g.C) (hJ:∀ i j,σ i=some j->g2.J i=g.J j) (hh:∀ i j,σ i=some j->∃ o,H[j]? =some o/\∀ sz l,o≠ .row sz l) {v v':V} {x:Value} (hv:d5y σ v v') (r:Rep g2 h v x):Rep g H v' x:=by
 cases v with
 |d d=>simp only[d5y]at hv;subst hv;simp only[Rep]at r⊢;rw[<-hC];exact r
 |mp k=>
  simp only[d5y]at hv
  obtain⟨j,h1,rfl⟩:=hv
  simp only[Rep]at r⊢
  obtain⟨_,b,c,h2,rfl⟩:=r
  exact⟨hh k j h1,b,c,(hJ k j h1).symm.trans h2,rfl⟩
 |ptr k o=>
  simp only[d5y]at hv
  obtain⟨j,h1,rfl⟩:=hv
  simp only[Rep]at r⊢
  obtain⟨_,b,c,h2,rfl⟩:=r
  exact⟨hh k j h1,b,c,(hJ k j h1).symm.trans h2,rfl⟩
 |_=>exact hv.elim
theorem c7s (hC:g2.C=g.C) (hJ:∀ i j,σ i=some j->g2.J i=g.J j) (hh:∀ i j,σ i=some j->∃ o,h[i]? =some o/\∀ sz l,o≠ .row sz l):∀ {l l':List V} {xs:List Value},b9m σ l l'->a1e g H l' xs->a1e g2 h l xs
 |[],l',xs,hv,r=>by simp only[b9m]at hv;subst hv;exact r
 |v::l,l',xs,hv,r=>by
  simp only[b9m]at hv
  obtain⟨v',r',rfl,h1,h2⟩:=hv
  simp only[a1e]at r⊢
  obtain⟨y,ys,rfl,a1,a2,a3⟩:=r
  exact⟨y,ys,rfl,h1.one.trans a1,e0i hC hJ hh h1 a2,c7s hC hJ hh h2 a3⟩
theorem e2p (hC:g2.C=g.C) (hJ:∀ i j,σ i=some j->g2.J i=g.J j) (hh:∀ i j,σ i=some j->∃ o,H[j]? =some o/\∀ sz l,o≠ .row sz l):∀ {l l':List V} {xs:List Value},b9m σ l l'->a1e g2 h l xs->a1e g H l' xs
 |[],l',xs,hv,r=>by simp only[b9m]at hv;subst hv;exact r
 |v::l,l',xs,hv,r=>by
  simp only[b9m]at hv
  obtain⟨v',r',rfl,h1,h2⟩:=hv
  simp only[a1e]at r⊢
  obtain⟨y,ys,rfl,a1,a2,a3⟩:=r
  exact⟨y,ys,rfl,h1.one.symm.trans a1,g9n hC hJ hh h1 a2,e2p hC hJ hh h2 a3⟩
theorem c8l (hC:g2.C=g.C) (hJ:∀ i j,σ i=some j->g2.J i=g.J j) (hh:∀ i j,σ i=some j->∃ o,h[i]? =some o/\∀ sz l,o≠ .row sz l):∀ {l l':List V} {xs:List Value},b9m σ l l'->a0z g H l' xs->a0z g2 h l xs
 |[],l',xs,hv,r=>by simp only[b9m]at hv;subst hv;exact r
 |v::l,l',xs,hv,r=>by
  simp only[b9m]at hv
  obtain⟨v',r',rfl,h1,h2⟩:=hv
  simp only[a0z]at r⊢
  obtain⟨y,ys,rfl,a2,a3⟩:=r
  exact⟨y,ys,rfl,e0i hC hJ hh h1 a2,c8l hC hJ hh h2 a3⟩
theorem e2q {n:Nat} (hlt:∀ i j,σ i=some j->i < n):∀ {l l':List V},b9m σ l l'->a1a n l=true
 |[],_,_=>rfl
 |v::l,l',hv=>by
  simp only[b9m]at hv
  obtain⟨v',r',rfl,h1,h2⟩:=hv
  simp only[a1a,Bool.and_eq_true]
  refine⟨?_,e2q hlt h2⟩
  cases v with
  |d x=>rfl
  |mp k=>simp only[d5y]at h1;obtain⟨j,h3,rfl⟩:=h1;simp only[V.und,decide_eq_true_eq];exact hlt k j h3
  |ptr k o=>simp only[d5y]at h1;obtain⟨j,h3,rfl⟩:=h1;simp only[V.und,decide_eq_true_eq];exact hlt k j h3
  |_=>exact h1.elim
end
section
variable {P:Program} {cx:Cx}
theorem d5s {f:Nat} {a A:List V} {h H:Hp} {r:D} (σ:Nat->Option Nat) (hs:a8g P cx f a h (.d r) h) (hinj:∀ i k j,σ i=some j->σ k=some j->i=k) (hc:Clean h.length h)
 (hob:∀ i j,σ i=some j->∃ o o',h[i]? =some o/\H[j]? =some o'/\f5m σ o o') (ha:b9m σ a A):a8g P cx f A H (.d r) H:=by
 obtain⟨hf,hs⟩:=hs
 refine⟨hf,fun g w cargs hI ra _=>?_⟩
 have hh:∀ i j,σ i=some j->∃ o,h[i]? =some o/\∀ sz l,o≠ .row sz l:=fun i j e=>by
   obtain⟨o,o',h1,_,h3⟩:=hob i j e;exact⟨o,h1,h3.nrow.1⟩
 have hH:∀ i j,σ i=some j->∃ o,H[j]? =some o/\∀ sz l,o≠ .row sz l:=fun i j e=>by
   obtain⟨o,o',_,h2,h3⟩:=hob i j e;exact⟨o',h2,h3.nrow.2⟩
 have hlt:∀ i j,σ i=some j->i < h.length:=fun i j e=>by
   obtain⟨o,h1,_⟩:=hh i j e;exact(List.getElem?_eq_some_iff.1 h1).1
 obtain⟨gs,hgs⟩:∃ gs:Gh,gs=⟨fun i=>(σ i).bind g.J,g.C⟩:=⟨_,rfl⟩
 have gC:gs.C=g.C:=by rw[hgs]
 have gJ:∀ i j,σ i=some j->gs.J i=g.J j:=fun i j e=>by rw[hgs];show(σ i).bind g.J=_;rw[e];rfl
 have gJ':∀ i p,gs.J i=some p->∃ j,σ i=some j/\g.J j=some p:=fun i p e=>by
   rw[hgs]at e
   exact Option.bind_eq_some_iff.1 e
 have hIs:Inv cx gs h w:={
   inj:=fun i k b c c' e1 e2=>by
     obtain⟨j1,s1,t1⟩:=gJ' i _ e1
     obtain⟨j2,s2,t2⟩:=gJ' k _ e2
     have:=hI.inj _ _ _ _ _ t1 t2
     subst this
     exact hinj _ _ _ s1 s2
   dom:=fun i b c e=>by
     obtain⟨j,s1,t1⟩:=gJ' i _ e
     exact⟨hlt i j s1,(hI.dom _ _ _ t1).2⟩
   ob:=fun i b c o e ho=>by
     obtain⟨j,s1,t1⟩:=gJ' i _ e
     obtain⟨o1,o2,h1,h2,h3⟩:=hob i j s1
     rw[h1]at ho;simp only[Option.some.injEq]at ho;subst ho
     have:=hI.ob j b c o2 t1 h2
     cases o1 with
     |map l=>simp only[f5m]at h3;subst h3;simp only[d6a,gC]at this⊢;exact this
     |box cs=>
      simp only[f5m]at h3
      obtain⟨c',rfl,hf⟩:=h3
      simp only[d6a,gC]at this⊢
      obtain⟨cur,e,a1,a2,a3⟩:=this
      exact⟨cur,e,a1,c7s gC gJ hh hf a2,a3⟩
     |frz cs=>exact h3.elim
     |row sz l=>exact h3.elim
   imm:=fun b hb=>by rw[gC]at hb⊢;exact hI.imm b hb
   und:=hc
   glob:=fun i=>by rw[gC];exact hI.glob i
   fix:=fun i o hi=>⟨(hI.fix i o hi).1,fun k c e=>by
     obtain⟨j,_,t1⟩:=gJ' k _ e
     exact(hI.fix i o hi).2 j c t1⟩}
 refine Calls.mono (hs gs w cargs hIs (c8l gC gJ hh ha ra) (e2q hlt ha)) fun e w' hR=>?_
 obtain⟨g',x,he,hI',hr,_,hE⟩:=hR
 have kC:∀ b,g.C b <+:g'.C b:=fun b=>by have:=hE.keep.C b;rw[gC]at this;exact this
 have kJ:∀ i j,σ i=some j->g'.J i=g.J j:=fun i j e=>by
   obtain⟨o,h1,h2⟩:=hh i j e
   exact(hE.keep.obj i o (hlt i j e) h1 h2).1.trans (gJ i j e)
 obtain⟨g2,hg2⟩:∃ g2:Gh,g2=⟨g.J,g'.C⟩:=⟨_,rfl⟩
 have C2:g2.C=g'.C:=by rw[hg2]
 have J2:g2.J=g.J:=by rw[hg2]
 have kw:c2n H.length g H g2 H:=⟨fun b=>by rw[C2];exact kC b,fun i o _ ho hr=>⟨fun p hp=>by rw[J2];exact hp,o,ho,hr⟩,fun i sz l _ ho=>⟨l,ho,List.prefix_refl _,fun _ p hp=>by rw[J2];exact hp⟩⟩
 refine⟨g2,x,he,?_,by simp only[Rep]at hr⊢;rw[C2];exact hr,rfl,?_⟩
 ·exact{
    inj:=by rw[J2];exact hI.inj
    dom:=fun i b c e=>by
      rw[J2]at e
      exact⟨(hI.dom i b c e).1,Nat.lt_of_lt_of_le (hI.dom i b c e).2 hE.size⟩
    ob:=fun i b c o e ho=>by
      rw[J2]at e
      by_cases hm:∃ k,σ k=some i
      ·obtain⟨k,hk⟩:=hm
       obtain⟨o1,o2,h1,h2,h3⟩:=hob k i hk
       rw[h2]at ho;simp only[Option.some.injEq]at ho;subst ho
       have:=hI'.ob k b c o1 ((kJ k i hk).trans e) h1
       cases o1 with
       |map l=>simp only[f5m]at h3;subst h3;simp only[d6a,C2]at this⊢;exact this
       |box cs=>
        simp only[f5m]at h3
        obtain⟨c',rfl,hf⟩:=h3
        simp only[d6a,C2]at this⊢
        obtain⟨cur,e,a1,a2,a3⟩:=this
        exact⟨cur,e,a1,e2p C2.symm (fun i j e=>(kJ i j e).trans (by rw[J2])) hH hf a2,a3⟩
       |frz cs=>exact h3.elim
       |row sz l=>exact h3.elim
      ·have hn:∀ k c',gs.J k≠some (b,c'):=fun k c' ek=>by
         obtain⟨j,s1,t1⟩:=gJ' k _ ek
         have:=hI.inj _ _ _ _ _ t1 e
         subst this
         exact hm ⟨k,s1⟩
       obtain⟨f1,f2⟩:=hE.frame b (hI.dom i b c e).2 hn
       exact d6a.ext (hI.ob i b c o e ho) kw f1 (by rw[C2,f2,gC]) (fun cs hcs=>by
         subst hcs
         exact hI.und i cs (hI.dom i b c e).1 ho)
    imm:=fun b hb=>by rw[C2]at hb⊢;exact hI'.imm b hb
    und:=hI.und
    glob:=fun i=>by rw[C2];exact hI'.glob i
    fix:=fun i o hi=>⟨(hI'.fix i o hi).1,fun k c e=>by rw[J2]at e;exact(hI.fix i o hi).2 k c e⟩}
 ·exact{
    os:=hE.os
    tape:=hE.tape
    output:=hE.output
    size:=hE.size
    frame:=fun b hb hj=>by
      have hn:∀ k c',gs.J k≠some (b,c'):=fun k c' ek=>by
        obtain⟨j,_,t1⟩:=gJ' k _ ek
        exact hj j c' t1
      obtain⟨f1,f2⟩:=hE.frame b hb hn
      exact⟨f1,by rw[C2,f2,gC]⟩
    keep:=⟨fun b=>by rw[C2];exact kC b,fun i o _ ho hr=>⟨by rw[J2],o,ho,hr⟩,fun i sz l _ ho=>⟨l,ho,List.prefix_refl _,fun _=>by rw[J2]⟩⟩
    jnew:=fun i b c e _=>⟨i,c,by rw[J2]at e;exact e⟩
    clean:=fun _ _ h=>h
    len:=Nat.le_refl _ }
end
end Go.Vm
namespace Go.Vm.Ite
open Go Go.Vm Go.Proofs Go.Vm.Ip
def e3o (x:Its) (p:Nat) (h:Hp):Prop:=∃ a b c,h[p]? =some (.box [.mp a,.mp b,.mp c])/\h[a]? =some (.map (a4c (nS x)))/\h[b]? =some (.map (a4c (nE x)))/\h[c]? =some (.map (a4c (nF x)))/\a≠b/\a≠c/\b≠c
open Classical in
noncomputable def b9h (a:List V) (h:Hp):Option (V×Hp):=match a with
 |[.d d,.ptr p 0,.d (.str s)]=>if c:∃ x:Its,b2u x/\Small x/\d=x.D/\e3o x p h then some (boo (c2z c.choose s),h) else none
 |_=>none
theorem d7f {x:Its} (hx:b2u x) (hs:Small x) {p:Nat} {h:Hp} (hf:e3o x p h) (s:S):b9h [.d x.D,.ptr p 0,str s] h=some (boo (c2z x s),h):=by
 have e:∃ y:Its,b2u y/\Small y/\x.D=y.D/\e3o y p h:=⟨x,hx,hs,rfl,hf⟩
 refine(dif_pos e).trans ?_
 have:e.choose=x:=(Its.c9q _ _ e.choose_spec.2.2.1).symm
 rw[this]
section
variable {fx:Nat->Option Obj}
theorem g3c {x:Its} (hx:b2u x) (hs:Small x) {p:Nat} {h:Hp} (hf:e3o x p h) (s:S):a8g Tryz.prog (cxL fx) 55 [.d x.D,.ptr p 0,str s] h (boo (c2z x s)) h:=by
 obtain⟨a,b,c,h1,h2,h3,h4,n1,n2,n3⟩:=hf
 have np:p≠a/\p≠b/\p≠c:=⟨fun e=>(by rw[e,h2]at h1;cases h1),fun e=>(by rw[e,h3]at h1;cases h1),fun e=>(by rw[e,h4]at h1;cases h1)⟩
 refine d5s (fun i=>if i=2 then some a else if i=3 then some b else if i=4 then some c else if i=5 then some p else none) (f3w x hx hs s (.map []) (.map [])) ?_ ?_ ?_ ?_
 ·intro i k j e1 e2
  try simp only at e1 e2
  split at e1
  ·cases e1
   split at e2
   ·omega
   ·split at e2
    ·cases e2;exact absurd rfl n1
    ·split at e2
     ·cases e2;exact absurd rfl n2
     ·split at e2
      ·cases e2;exact absurd rfl np.1
      ·cases e2
  ·split at e1
   ·cases e1
    split at e2
    ·cases e2;exact absurd rfl n1
    ·split at e2
     ·omega
     ·split at e2
      ·cases e2;exact absurd rfl n3
      ·split at e2
       ·cases e2;exact absurd rfl np.2.1
       ·cases e2
   ·split at e1
    ·cases e1
     split at e2
     ·cases e2;exact absurd rfl n2
     ·split at e2
      ·cases e2;exact absurd rfl n3
      ·split at e2
       ·omega
       ·split at e2
        ·cases e2;exact absurd rfl np.2.2
        ·cases e2
    ·split at e1
     ·cases e1
      split at e2
      ·cases e2;exact absurd rfl np.1
      ·split at e2
       ·cases e2;exact absurd rfl np.2.1
       ·split at e2
        ·cases e2;exact absurd rfl np.2.2
        ·split at e2
         ·omega
         ·cases e2
     ·cases e1
 ·intro i c2 hi hc
  match i,hi,hc with
  |0,_,hc=>cases hc;rfl
  |1,_,hc=>cases hc;rfl
  |2,_,hc=>cases hc
  |3,_,hc=>cases hc
  |4,_,hc=>cases hc
  |5,_,hc=>cases hc;rfl
  |6,_,hc=>cases hc
  |7,_,hc=>cases hc
  |n+8,hi,_=>exact absurd hi (by show ¬ n+8 < 8;omega)
 ·intro i j e
  try simp only at e
  split at e
  ·rename_i q;cases e;exact⟨.map (a4c (nS x)),_,by rw[q];rfl,h2,rfl⟩
  ·split at e
   ·rename_i q;cases e;exact⟨.map (a4c (nE x)),_,by rw[q];rfl,h3,rfl⟩
   ·split at e
    ·rename_i q;cases e;exact⟨.map (a4c (nF x)),_,by rw[q];rfl,h4,rfl⟩
    ·split at e
     ·rename_i q;cases e
      exact⟨.box [.mp 2,.mp 3,.mp 4],_,by rw[q];rfl,h1,⟨_,rfl,_,_,rfl,⟨a,rfl,rfl⟩,_,_,rfl,⟨b,rfl,rfl⟩,_,_,rfl,⟨c,rfl,rfl⟩,rfl⟩⟩
     ·cases e
 ·exact⟨_,_,rfl,rfl,_,_,rfl,⟨p,rfl,rfl⟩,_,_,rfl,rfl,rfl⟩
theorem c9w:∀ args H r H',b9h args H=some (r,H')->a8g Tryz.prog (cxL fx) 55 args H r H':=by
 intro args H r H' h
 unfold b9h at h
 split at h
 ·split at h
  ·rename_i d p s c
   cases h
   obtain⟨h1,h2,h3,h4⟩:=c.choose_spec
   have:=g3c (fx:=fx) h1 h2 h4 s
   rw[<-h3]at this
   exact this
  ·cases h
 ·cases h
end
noncomputable def FT:Nat->Option a0x:=fun i=>if i=43 then some (.prim a6d) else if i=55 then some (.prim b9h) else if i=148 then some (.prim c1o) else if i=151 then some (.prim a4r) else none
instance:HC FT:=⟨rfl,rfl⟩
theorem g9c:FT 43=some (.prim a6d):=rfl
theorem tOk3 (fx:Nat->Option Obj) (h1:∀ args H r H',c1o args H=some (r,H')->a8g Tryz.prog (cxL fx) 148 args H r H') (h2:∀ args H r H',a4r args H=some (r,H')->a8g Tryz.prog (cxL fx) 151 args H r H'):c0x Tryz.prog (pgL fx FT):=h3p _ _ fun f e h=>by
  unfold FT at h
  split at h
  ·rename_i hf;cases h;subst hf;exact e4m _
  split at h
  ·rename_i hf;cases h;subst hf;exact c9w
  split at h
  ·rename_i hf;cases h;subst hf;exact h1
  split at h
  ·rename_i hf;cases h;subst hf;exact h2
  ·cases h
section
variable {fx:Nat->Option Obj}
theorem d8t {x:Its} (hx:b2u x) (hs:Small x) {p:Nat} {h:Hp} (hf:e3o x p h) (s:S):evF (pgL fx FT) 55 [.d x.D,.ptr p 0,str s] h=some (boo (c2z x s),h):=by
 have ht:(pgL fx FT).tbl 55=some (.prim b9h):=rfl
 rw[b9c ht]
 exact d7f hx hs hf s
end
end Go.Vm.Ite
namespace Go.Vm.Ip
def b5u {α:Type} (e:α->α->Bool):List α->List α->Bool
 |[],[]=>true
 |a::l,b::m=>e a b && b5u e l m
 |_,_=>false
theorem b1w {α:Type} {e:α->α->Bool} (h:∀ a,e a a=true):∀ l,b5u e l l=true
 |[]=>rfl
 |a::l=>by rw[b5u,h,b1w h l];rfl
theorem b4y {α:Type} {e:α->α->Bool}:∀ {l m:List α},l.length≠m.length->b5u e l m=false
 |[],[],h=>absurd rfl h
 |[],_::_,_=>rfl
 |_::_,[],_=>rfl
 |a::l,b::m,h=>by
  rw[b5u,b4y (l:=l) (m:=m) (fun q=>h (by simp[q])),Bool.and_false]
theorem b4a {α:Type} [Inhabited α] {e:α->α->Bool} {l m:List α} {i:Nat} (hl:i < l.length) (hm:i < m.length):b5u e (l.drop i) (m.drop i)=(e (l.getD i default) (m.getD i default) && b5u e (l.drop (i+1)) (m.drop (i+1))):=by
 rw[d3g (d:=default) hl,d3g (d:=default) hm,b5u]
theorem b9e {α:Type} {e:α->α->Bool} {l m:List α} (h:l.length=m.length):b5u e (l.drop l.length) (m.drop l.length)=true:=by
 rw[List.drop_length,h,List.drop_length];rfl
def eF (a b:Fld):Bool:=decide (a.n=b.n) && decide (a.t=b.t)
def eN (a b:Nam):Bool:=decide (a.n=b.n) && b5u eF a.fs b.fs
def eB (a b:Bool):Bool:=a==b
def eC (a b:Fnc):Bool:=decide (a.n=b.n) && (decide (a.r=b.r) && (decide (a.d=b.d) && (b5u eF a.ps b.ps && b5u eB a.ms b.ms)))
def f5l (a b:Its):Bool:=b5u eN a.ss b.ss && (b5u eN a.es b.es && b5u eC a.fs b.fs)
theorem e7p (a:Fld):eF a a=true:=by simp[eF]
theorem g1p (a:Nam):eN a a=true:=by simp[eN,b1w e7p]
theorem g2v (a:Fnc):eC a a=true:=by simp[eC,b1w e7p,b1w (e:=eB) (by simp[eB])]
theorem e3g (a:Its):f5l a a=true:=by simp[f5l,b1w g1p,b1w g2v]
theorem e9w (a b:Fld):eqL [.str a.n,.str a.t] [.str b.n,.str b.t]=eF a b:=by
 rw[Bool.eq_iff_iff];simp[eqL,eF,eq1]
end Go.Vm.Ip
namespace Go.Vm.Ite
open Go.Vm.Ip
abbrev d5g (l:List Nam):D:= .sl (l.map Nam.D)
abbrev f6m (l:List Fnc):D:= .sl (l.map Fnc.D)
abbrev f2w (l:List Bool):D:= .sl (l.map D.bool)
theorem pF {l:List Fld} {i:Nat} (h:i < l.length):0<=(i:Int)/\(l.map Fld.D)[(i:Int).toNat]? =some (l.getD i default).D:=by
 refine⟨om,?_⟩
 rw[Int.toNat_natCast,List.getElem?_map,List.getElem?_eq_getElem h]
 simp[List.getD_eq_getElem?_getD,List.getElem?_eq_getElem h]
theorem pB {l:List Bool} {i:Nat} (h:i < l.length):0<=(i:Int)/\(l.map D.bool)[(i:Int).toNat]? =some (.bool (l.getD i default)):=by
 refine⟨om,?_⟩
 rw[Int.toNat_natCast,List.getElem?_map,List.getElem?_eq_getElem h]
 simp[List.getD_eq_getElem?_getD,List.getElem?_eq_getElem h]
section
variable {fx:Nat->Option Obj} {F:Nat->Option a0x} (H:Hp)
set_option maxHeartbeats 4000000 in
theorem d1y (a b:List Fld) (ha:a.length<=9223372036854775807):evF (pgL fx F) a6b [.d (a1y a),.d (a1y b)] H=some (boo (b5u eF a b),H):=by
 refine a5v (a6a (F:=F)) rfl rfl ?_ H
 have hna:(a.map Fld.D).length=a.length:=List.length_map ..
 have hnb:(b.map Fld.D).length=b.length:=List.length_map ..
 by_cases hl:a.length=b.length
 rotate_left
 ·have c0:(!decide (((a.map Fld.D).length:Int)=((b.map Fld.D).length:Int)))=true:=by simp;omega
  rw[b4y hl]
  refine run ⟨?_⟩
  exact rfl
 ·have c0:(!decide (((a.map Fld.D).length:Int)=((b.map Fld.D).length:Int)))=false:=by simp;omega
  refine run ⟨?_⟩
  refine a0o (α:=Nat) (fun i=>a.length - i) (fun i=>[(0,.d (a1y a)),(1,.d (a1y b)),(12,i64 a.length),(13,i64 i)]) (fun _=>[]) (fun i=>i<=a.length/\b5u eF (a.drop i) (b.drop i)=b5u eF a b) ?_ 0 ⟨Nat.zero_le _,rfl⟩ (by show[_,_,(12,i64 ((a.map Fld.D).length:Int)),_]=_;rw[hna];rfl) rfl
  rintro i ⟨hi,ht⟩
  by_cases hlt:i < a.length
  ·have hlb:i < b.length:=om
   have c1:(i:Int) < (a.length:Int):=om
   have wi:IntKind.i64.wrap ((i:Int)+1)=((i+1:Nat):Int):=by rw[a1k om];omega
   rw[b4a hlt hlb]at ht
   have ga:=pF hlt
   have gb:=pF hlb
   revert ga gb ht
   generalize a.getD i default=x
   generalize b.getD i default=y
   intro ht ga gb
   cases hs:eF x y with
   |true=>
    rw[hs,Bool.true_and]at ht
    have c2:(!eqL (D.cells x.D) (D.cells y.D))=false:=by rw[show eqL (D.cells x.D) (D.cells y.D)=eF x y from e9w x y,hs];rfl
    repeat' (first|refine run ⟨?_⟩|refine a0f ga ?_|refine a0f gb ?_|fail)
    exact⟨i+1,⟨om,ht⟩,om,by rw[wi]<;>rfl,rfl⟩
   |false=>
    rw[hs,Bool.false_and]at ht
    rw[<-ht]
    have c2:(!eqL (D.cells x.D) (D.cells y.D))=true:=by rw[show eqL (D.cells x.D) (D.cells y.D)=eF x y from e9w x y,hs];rfl
    repeat' (first|refine run ⟨?_⟩|refine a0f ga ?_|refine a0f gb ?_|fail)
    exact rfl
  ·obtain rfl:i=a.length:=om
   have c1:¬ (a.length:Int) < (a.length:Int):=om
   rw[b9e hl]at ht
   rw[<-ht]
   refine run ⟨?_⟩
   exact rfl
set_option maxHeartbeats 4000000 in
theorem f3e (a b:List Bool) (ha:a.length<=9223372036854775807):evF (pgL fx F) b1f [.d (f2w a),.d (f2w b)] H=some (boo (b5u eB a b),H):=by
 refine a5v (b1t (F:=F)) rfl rfl ?_ H
 have hna:(a.map D.bool).length=a.length:=List.length_map ..
 have hnb:(b.map D.bool).length=b.length:=List.length_map ..
 by_cases hl:a.length=b.length
 rotate_left
 ·have c0:(!decide (((a.map D.bool).length:Int)=((b.map D.bool).length:Int)))=true:=by simp;omega
  rw[b4y hl]
  refine run ⟨?_⟩
  exact rfl
 ·have c0:(!decide (((a.map D.bool).length:Int)=((b.map D.bool).length:Int)))=false:=by simp;omega
  refine run ⟨?_⟩
  refine a0o (α:=Nat) (fun i=>a.length - i) (fun i=>[(0,.d (f2w a)),(1,.d (f2w b)),(12,i64 a.length),(13,i64 i)]) (fun _=>[]) (fun i=>i<=a.length/\b5u eB (a.drop i) (b.drop i)=b5u eB a b) ?_ 0 ⟨Nat.zero_le _,rfl⟩ (by show[_,_,(12,i64 ((a.map D.bool).length:Int)),_]=_;rw[hna]<;>rfl) rfl
  rintro i ⟨hi,ht⟩
  by_cases hlt:i < a.length
  ·have hlb:i < b.length:=om
   have c1:(i:Int) < (a.length:Int):=om
   have wi:IntKind.i64.wrap ((i:Int)+1)=((i+1:Nat):Int):=by rw[a1k om];omega
   rw[b4a hlt hlb]at ht
   have ga:=pB hlt
   have gb:=pB hlb
   revert ga gb ht
   generalize a.getD i default=x
   generalize b.getD i default=y
   intro ht ga gb
   cases hs:eB x y with
   |true=>
    rw[hs,Bool.true_and]at ht
    have c2:(if true then !(x==y) else x==y)=false:=by rw[show(x==y)=eB x y from rfl,hs];rfl
    repeat' (first|refine run ⟨?_⟩|refine a0f ga ?_|refine a0f gb ?_|fail)
    exact⟨i+1,⟨om,ht⟩,om,by rw[wi]<;>rfl,rfl⟩
   |false=>
    rw[hs,Bool.false_and]at ht
    rw[<-ht]
    have c2:(if true then !(x==y) else x==y)=true:=by rw[show(x==y)=eB x y from rfl,hs];rfl
    repeat' (first|refine run ⟨?_⟩|refine a0f ga ?_|refine a0f gb ?_|fail)
    exact rfl
  ·obtain rfl:i=a.length:=om
   have c1:¬ (a.length:Int) < (a.length:Int):=om
   rw[b9e hl]at ht
   rw[<-ht]
   refine run ⟨?_⟩
   exact rfl
theorem f7e (x y:Nam) (hx:x.fs.length<=9223372036854775807):evF (pgL fx F) c6z [.d x.D,.d y.D] H=some (boo (eN x y),H):=by
 refine a5v (c6v (F:=F)) rfl rfl ?_ H
 have he:=fun H=>d1y (fx:=fx) (F:=F) H x.fs y.fs hx
 unfold eN
 by_cases c:x.n=y.n
 ·rw[decide_eq_true c,Bool.true_and]
  repeat' (first|refine run ⟨?_⟩|refine ca (he _) ?_|fail)
  exact rfl
 ·rw[decide_eq_false c,Bool.false_and]
  refine run ⟨?_⟩
  exact rfl
theorem f5z (x y:Nam) (hx:x.fs.length<=9223372036854775807):evF (pgL fx F) c7d [.d x.D,.d y.D] H=some (boo (eN x y),H):=by
 refine a5v (c7e (F:=F)) rfl rfl ?_ H
 have he:=fun H=>d1y (fx:=fx) (F:=F) H x.fs y.fs hx
 unfold eN
 by_cases c:x.n=y.n
 ·rw[decide_eq_true c,Bool.true_and]
  repeat' (first|refine run ⟨?_⟩|refine ca (he _) ?_|fail)
  exact rfl
 ·rw[decide_eq_false c,Bool.false_and]
  refine run ⟨?_⟩
  exact rfl
theorem f5c (x y:Fnc) (hx:x.ps.length<=9223372036854775807) (hm:x.ms.length<=9223372036854775807):evF (pgL fx F) c6x [.d x.D,.d y.D] H=some (boo (eC x y),H):=by
 refine a5v (c6t (F:=F)) rfl rfl ?_ H
 have he:=fun H=>d1y (fx:=fx) (F:=F) H x.ps y.ps hx
 have hb:=fun H=>f3e (fx:=fx) (F:=F) H x.ms y.ms hm
 unfold eC
 by_cases c1:x.n=y.n
 rotate_left
 ·rw[decide_eq_false c1,Bool.false_and]
  refine run ⟨?_⟩
  exact rfl
 rw[decide_eq_true c1,Bool.true_and]
 by_cases c2:x.r=y.r
 rotate_left
 ·rw[decide_eq_false c2,Bool.false_and]
  refine run ⟨?_⟩
  exact rfl
 rw[decide_eq_true c2,Bool.true_and]
 by_cases c3:x.d=y.d
 rotate_left
 ·rw[decide_eq_false c3,Bool.false_and]
  refine run ⟨?_⟩
  exact rfl
 rw[decide_eq_true c3,Bool.true_and]
 cases c4:b5u eF x.ps y.ps with
 |false=>
  rw[c4]at he
  repeat' (first|refine run ⟨?_⟩|refine ca (he _) ?_|fail)
  exact rfl
 |true=>
  rw[c4]at he
  repeat' (first|refine run ⟨?_⟩|refine ca (he _) ?_|refine ca (hb _) ?_|fail)
  exact rfl
set_option maxHeartbeats 4000000 in
theorem g1b (a b:List Nam) (ha:a.length<=9223372036854775807) (hk:∀ x∈a,x.fs.length<=9223372036854775807):evF (pgL fx F) a1r [.d (d5g a),.d (d5g b),.fn 33 []] H=some (boo (b5u eN a b),H):=by
 refine a5v (a1s (F:=F)) rfl rfl ?_ H
 have hna:(a.map Nam.D).length=a.length:=List.length_map ..
 have hnb:(b.map Nam.D).length=b.length:=List.length_map ..
 by_cases hl:a.length=b.length
 rotate_left
 ·have c0:(!decide (((a.map Nam.D).length:Int)=((b.map Nam.D).length:Int)))=true:=by simp;omega
  rw[b4y hl]
  refine run ⟨?_⟩
  exact rfl
 ·have c0:(!decide (((a.map Nam.D).length:Int)=((b.map Nam.D).length:Int)))=false:=by simp;omega
  refine run ⟨?_⟩
  refine a0o (α:=Nat) (fun i=>a.length - i) (fun i=>[(1,.d (d5g b)),(2,.fn 33 []),(15,.d (d5g a)),(16,i64 a.length),(17,i64 i)]) (fun _=>[]) (fun i=>i<=a.length/\b5u eN (a.drop i) (b.drop i)=b5u eN a b) ?_ 0 ⟨Nat.zero_le _,rfl⟩ (by show[_,_,_,(16,i64 ((a.map Nam.D).length:Int)),_]=_;rw[hna];rfl) rfl
  rintro i ⟨hi,ht⟩
  by_cases hlt:i < a.length
  ·have hlb:i < b.length:=om
   have c1:(i:Int) < (a.length:Int):=om
   have wi:IntKind.i64.wrap ((i:Int)+1)=((i+1:Nat):Int):=by rw[a1k om];omega
   rw[b4a hlt hlb]at ht
   have ga:=gN hlt
   have gb:=gN hlb
   have hm:=hk (a.getD i default) (by rw[List.getD_eq_getElem?_getD,List.getElem?_eq_getElem hlt];exact List.getElem_mem _)
   revert ga gb ht hm
   generalize a.getD i default=x
   generalize b.getD i default=y
   intro ht ga gb hm
   have hev:=fun H=>f7e (fx:=fx) (F:=F) H x y hm
   cases hs:eN x y with
   |true=>
    rw[hs,Bool.true_and]at ht
    rw[hs]at hev
    repeat' (first|refine run ⟨?_⟩|refine a0f ga ?_|refine a0f gb ?_|refine ca (hev _) ?_|fail)
    exact⟨i+1,⟨om,ht⟩,om,by rw[wi]<;>rfl,rfl⟩
   |false=>
    rw[hs,Bool.false_and]at ht
    rw[<-ht]
    rw[hs]at hev
    repeat' (first|refine run ⟨?_⟩|refine a0f ga ?_|refine a0f gb ?_|refine ca (hev _) ?_|fail)
    exact rfl
  ·obtain rfl:i=a.length:=om
   have c1:¬ (a.length:Int) < (a.length:Int):=om
   rw[b9e hl]at ht
   rw[<-ht]
   refine run ⟨?_⟩
   exact rfl
set_option maxHeartbeats 4000000 in
theorem g4v (a b:List Nam) (ha:a.length<=9223372036854775807) (hk:∀ x∈a,x.fs.length<=9223372036854775807):evF (pgL fx F) a2f [.d (d5g a),.d (d5g b),.fn 36 []] H=some (boo (b5u eN a b),H):=by
 refine a5v (a2g (F:=F)) rfl rfl ?_ H
 have hna:(a.map Nam.D).length=a.length:=List.length_map ..
 have hnb:(b.map Nam.D).length=b.length:=List.length_map ..
 by_cases hl:a.length=b.length
 rotate_left
 ·have c0:(!decide (((a.map Nam.D).length:Int)=((b.map Nam.D).length:Int)))=true:=by simp;omega
  rw[b4y hl]
  refine run ⟨?_⟩
  exact rfl
 ·have c0:(!decide (((a.map Nam.D).length:Int)=((b.map Nam.D).length:Int)))=false:=by simp;omega
  refine run ⟨?_⟩
  refine a0o (α:=Nat) (fun i=>a.length - i) (fun i=>[(1,.d (d5g b)),(2,.fn 36 []),(15,.d (d5g a)),(16,i64 a.length),(17,i64 i)]) (fun _=>[]) (fun i=>i<=a.length/\b5u eN (a.drop i) (b.drop i)=b5u eN a b) ?_ 0 ⟨Nat.zero_le _,rfl⟩ (by show[_,_,_,(16,i64 ((a.map Nam.D).length:Int)),_]=_;rw[hna];rfl) rfl
  rintro i ⟨hi,ht⟩
  by_cases hlt:i < a.length
  ·have hlb:i < b.length:=om
   have c1:(i:Int) < (a.length:Int):=om
   have wi:IntKind.i64.wrap ((i:Int)+1)=((i+1:Nat):Int):=by rw[a1k om];omega
   rw[b4a hlt hlb]at ht
   have ga:=gN hlt
   have gb:=gN hlb
   have hm:=hk (a.getD i default) (by rw[List.getD_eq_getElem?_getD,List.getElem?_eq_getElem hlt];exact List.getElem_mem _)
   revert ga gb ht hm
   generalize a.getD i default=x
   generalize b.getD i default=y
   intro ht ga gb hm
   have hev:=fun H=>f5z (fx:=fx) (F:=F) H x y hm
   cases hs:eN x y with
   |true=>
    rw[hs,Bool.true_and]at ht
    rw[hs]at hev
    repeat' (first|refine run ⟨?_⟩|refine a0f ga ?_|refine a0f gb ?_|refine ca (hev _) ?_|fail)
    exact⟨i+1,⟨om,ht⟩,om,by rw[wi]<;>rfl,rfl⟩
   |false=>
    rw[hs,Bool.false_and]at ht
    rw[<-ht]
    rw[hs]at hev
    repeat' (first|refine run ⟨?_⟩|refine a0f ga ?_|refine a0f gb ?_|refine ca (hev _) ?_|fail)
    exact rfl
  ·obtain rfl:i=a.length:=om
   have c1:¬ (a.length:Int) < (a.length:Int):=om
   rw[b9e hl]at ht
   rw[<-ht]
   refine run ⟨?_⟩
   exact rfl
set_option maxHeartbeats 4000000 in
theorem g1w (a b:List Fnc) (ha:a.length<=9223372036854775807) (hk:∀ x∈a,x.ps.length<=9223372036854775807/\x.ms.length<=9223372036854775807):evF (pgL fx F) a3a [.d (f6m a),.d (f6m b),.fn 38 []] H=some (boo (b5u eC a b),H):=by
 refine a5v (a3b (F:=F)) rfl rfl ?_ H
 have hna:(a.map Fnc.D).length=a.length:=List.length_map ..
 have hnb:(b.map Fnc.D).length=b.length:=List.length_map ..
 by_cases hl:a.length=b.length
 rotate_left
 ·have c0:(!decide (((a.map Fnc.D).length:Int)=((b.map Fnc.D).length:Int)))=true:=by simp;omega
  rw[b4y hl]
  refine run ⟨?_⟩
  exact rfl
 ·have c0:(!decide (((a.map Fnc.D).length:Int)=((b.map Fnc.D).length:Int)))=false:=by simp;omega
  refine run ⟨?_⟩
  refine a0o (α:=Nat) (fun i=>a.length - i) (fun i=>[(1,.d (f6m b)),(2,.fn 38 []),(15,.d (f6m a)),(16,i64 a.length),(17,i64 i)]) (fun _=>[]) (fun i=>i<=a.length/\b5u eC (a.drop i) (b.drop i)=b5u eC a b) ?_ 0 ⟨Nat.zero_le _,rfl⟩ (by show[_,_,_,(16,i64 ((a.map Fnc.D).length:Int)),_]=_;rw[hna];rfl) rfl
  rintro i ⟨hi,ht⟩
  by_cases hlt:i < a.length
  ·have hlb:i < b.length:=om
   have c1:(i:Int) < (a.length:Int):=om
   have wi:IntKind.i64.wrap ((i:Int)+1)=((i+1:Nat):Int):=by rw[a1k om];omega
   rw[b4a hlt hlb]at ht
   have ga:=gF hlt
   have gb:=gF hlb
   have hm:=hk (a.getD i default) (by rw[List.getD_eq_getElem?_getD,List.getElem?_eq_getElem hlt];exact List.getElem_mem _)
   revert ga gb ht hm
   generalize a.getD i default=x
   generalize b.getD i default=y
   intro ht ga gb hm
   have hev:=fun H=>f5c (fx:=fx) (F:=F) H x y hm.1 hm.2
   cases hs:eC x y with
   |true=>
    rw[hs,Bool.true_and]at ht
    rw[hs]at hev
    repeat' (first|refine run ⟨?_⟩|refine a0f ga ?_|refine a0f gb ?_|refine ca (hev _) ?_|fail)
    exact⟨i+1,⟨om,ht⟩,om,by rw[wi]<;>rfl,rfl⟩
   |false=>
    rw[hs,Bool.false_and]at ht
    rw[<-ht]
    rw[hs]at hev
    repeat' (first|refine run ⟨?_⟩|refine a0f ga ?_|refine a0f gb ?_|refine ca (hev _) ?_|fail)
    exact rfl
  ·obtain rfl:i=a.length:=om
   have c1:¬ (a.length:Int) < (a.length:Int):=om
   rw[b9e hl]at ht
   rw[<-ht]
   refine run ⟨?_⟩
   exact rfl
theorem g2w (a b:Its) (ha:b2u a):evF (pgL fx F) d3k [.d a.D,.d b.D] H=some (boo (f5l a b),H):=by
 refine a5v (d5r (F:=F)) rfl rfl ?_ H
 have e1:=fun H=>g1b (fx:=fx) (F:=F) H a.ss b.ss (Nat.le_trans ha.ss (by decide)) (fun x hx=>Nat.le_trans (ha.sf x hx).2.1 (by decide))
 have e2:=fun H=>g4v (fx:=fx) (F:=F) H a.es b.es (Nat.le_trans ha.es (by decide)) (fun x hx=>Nat.le_trans (ha.ef x hx).2.1 (by decide))
 have e3:=fun H=>g1w (fx:=fx) (F:=F) H a.fs b.fs (Nat.le_trans ha.fs (by decide)) (fun x hx=>⟨Nat.le_trans (ha.ff x hx).2.2.2.1 (by decide),Nat.le_trans (ha.ff x hx).2.2.1 (by decide)⟩)
 unfold f5l
 cases c1:b5u eN a.ss b.ss with
 |false=>
  rw[c1]at e1
  repeat' (first|refine run ⟨?_⟩|refine ca (e1 _) ?_|fail)
  exact rfl
 |true=>
 rw[c1]at e1
 cases c2:b5u eN a.es b.es with
 |false=>
  rw[c2]at e2
  repeat' (first|refine run ⟨?_⟩|refine ca (e1 _) ?_|refine ca (e2 _) ?_|fail)
  exact rfl
 |true=>
  rw[c2]at e2
  repeat' (first|refine run ⟨?_⟩|refine ca (e1 _) ?_|refine ca (e2 _) ?_|refine ca (e3 _) ?_|fail)
  exact rfl
end
end Go.Vm.Ite

namespace Go.Proofs
open Go.Shelf
def Tryz.d7w:Go.Shelf.Ren:=⟨fun|137=>151|217=>162|266=>174|n=>n,fun|9=>9|5=>5|3=>3|n=>n,fun|n=>n⟩
theorem Tryz.g5n:Go.Proofs.Lays.n137 Tryz.prog Tryz.d7w:={
  mixed:=kr
  f137:=Tryz.func151.trans (congrArg some kr)
  f217:=Tryz.func162.trans (congrArg some kr)
  f266:=Tryz.func174.trans (congrArg some kr)
  t3:=Tryz.underlying3
  a3:=Tryz.isAgg3
  z3:=Tryz.sizeOf3
  v3:=Tryz.zeroValue3
  t5:=Tryz.underlying5
  a5:=Tryz.isAgg5
  z5:=Tryz.sizeOf5
  v5:=Tryz.zeroValue5
  t9:=Tryz.underlying9
  a9:=Tryz.isAgg9
  z9:=Tryz.sizeOf9
  v9:=Tryz.zeroValue9 }
open Go.RowKit in
theorem Tryz.strings_IndexByte (s:ByteArray) (c:Int) (w:World):
 Calls Tryz.prog 151 #[.string s,.int .u8 c] w fun e w'=>e= .returned (.int .i64 (Lib.indexByte s.data.toList c.toNat.toUInt8))/\w'=w:=Any.strings_IndexByte Tryz.g5n s c w
def Tryz.d7i:Go.Shelf.Ren:=⟨fun|145=>148|220=>161|219=>173|217=>162|225=>179|224=>180|267=>181|266=>174|314=>186|n=>n,fun|9=>9|4=>4|59=>172|3=>3|5=>5|46=>188|146=>191|51=>190|n=>n,fun|1=>0|n=>n⟩
theorem Tryz.f9z:Go.Proofs.Lays.n145 Tryz.prog Tryz.d7i:={
  mixed:=kr
  f145:=Tryz.func148.trans (congrArg some kr)
  f217:=Tryz.func162.trans (congrArg some kr)
  f219:=Tryz.func173.trans (congrArg some kr)
  f220:=Tryz.func161.trans (congrArg some kr)
  f224:=Tryz.func180.trans (congrArg some kr)
  f225:=Tryz.func179.trans (congrArg some kr)
  f266:=Tryz.func174.trans (congrArg some kr)
  f267:=Tryz.func181.trans (congrArg some kr)
  f314:=Tryz.func186.trans (congrArg some kr)
  t3:=Tryz.underlying3
  a3:=Tryz.isAgg3
  z3:=Tryz.sizeOf3
  v3:=Tryz.zeroValue3
  t4:=Tryz.underlying4
  a4:=Tryz.isAgg4
  z4:=Tryz.sizeOf4
  v4:=Tryz.zeroValue4
  t5:=Tryz.underlying5
  a5:=Tryz.isAgg5
  z5:=Tryz.sizeOf5
  v5:=Tryz.zeroValue5
  t9:=Tryz.underlying9
  a9:=Tryz.isAgg9
  z9:=Tryz.sizeOf9
  v9:=Tryz.zeroValue9
  t46:=Tryz.underlying188
  a46:=Tryz.isAgg188
  z46:=Tryz.sizeOf188
  v46:=Tryz.zeroValue188
  t51:=Tryz.underlying190
  a51:=Tryz.isAgg190
  z51:=Tryz.sizeOf190
  v51:=Tryz.zeroValue190
  t59:=Tryz.underlying172
  a59:=Tryz.isAgg172
  z59:=Tryz.sizeOf172
  v59:=Tryz.zeroValue172
  t146:=Tryz.underlying191
  a146:=Tryz.isAgg191
  z146:=Tryz.sizeOf191
  v146:=Tryz.zeroValue191
  g1:=kr }
open Go.RowKit Go.Lib in
theorem Tryz.strings_Cut (s sep:ByteArray) (m:Int) (w:World) (hs:s.size < 4294967281) (hm:w.cell? ⟨0,0,none⟩=some (.int .i64 m)):
 Calls Tryz.prog 148 #[.string s,.string sep] w fun e w'=>e= .returned (.tuple #[.string ⟨(Lib.cut s.data.toList sep.data.toList).1.toArray⟩,.string ⟨(Lib.cut s.data.toList sep.data.toList).2.1.toArray⟩,.bool (Lib.cut s.data.toList sep.data.toList).2.2])/\∃ n,w'=w.drewN n:=Any.strings_Cut Tryz.f9z s sep m w hs hm
end Go.Proofs
namespace Go.Proofs.YtocpgkeiakjicaaGreat
open Go Go.Vm Go.ChangeShapes Go.WideShapes Go.ChangeAt Go.RowKit Go.Vm.Ip
theorem own:ownKnob Tryz.prog.godebug=none:=kr
theorem laidOut:laidOutB Tryz.prog=true:=kr
theorem mixed:Tryz.prog.follows .mixedOrders=true:=kr
noncomputable def pgW (W:World):Pg:=⟨⟨h7x [],d7d W [0]⟩,Go.Vm.Ite.tbl Go.Vm.Ite.FT⟩
theorem h8y (W:World):pgW W=Go.Vm.Ite.pgL (d7d W [0]) Go.Vm.Ite.FT:=rfl
theorem code (f:Nat) {fn:Func} (h:Tryz.prog.funcs[f]? =some fn) (h1:fn.body.isNone=false) (h2:(fn.name== "runtime.NumGoroutine")=false):e2o Tryz.prog f:=⟨fn,h,h1,h2⟩
theorem f3o {W:World} (h:W.ShapedOpen Tryz.prog) {g:Gh} {H:Hp} {w:World} (hI:Inv (pgW W).toCx g H w):∃ m:Int,w.cell? ⟨0,0,none⟩=some (.int .i64 m):=by
 obtain⟨m,hm⟩:=(Go.Proofs.cell_of_shapedOpen_int (zero:= #[.int .i64 0]) (t:=3) h (of_decide_eq_true kr) kr rfl kr kr Tryz.underlying3:∃ m:Int,W.cell? ⟨0,0,none⟩=some (.int .i64 m))
 have hm:W.cell? ⟨0,0,none⟩=some (.int .i64 m):=hm
 obtain⟨o,ho⟩:∃ o,W.heap[0]? =some o:=by
  cases hb:W.heap[0]? with
  |none=>unfold World.cell? at hm;simp[hb]at hm
  |some o=>exact⟨o,rfl⟩
 have k:=(hI.fix 0 o (by show d7d W [0] 0=_;unfold d7d;rw[if_pos (by decide)];exact ho)).1
 exact⟨m,by rw[World.cell?_of_block (w:=W) (a:=⟨0,0,none⟩) (k.trans ho.symm)];exact hm⟩
theorem tOk {W:World} (hs:W.ShapedOpen Tryz.prog):c0x Tryz.prog (pgW W):=
 Go.Vm.Ite.tOk3 (d7d W [0])
  (f6p (code 148 Tryz.func148 kr kr) (fun g H w hI=>f3o hs hI) fun s p w h1 hm=>by obtain⟨m,hm⟩:=hm;exact Tryz.strings_Cut s p m w h1 hm)
  (c6y (code 151 Tryz.func151 kr kr) Tryz.strings_IndexByte)
theorem h0m {W:World}:c8g (pgW W).toCx W:=e7l _ (f5d W _) fun p hp=>by cases hp
theorem f3n {laid:List (String×DataW Unit)} {w:World} (h:(laid.filter fun x=>x.2.handleName?.isSome)=[]) (hm:laidMet Tryz.prog laid w):laidMetH Tryz.prog laid w:=by
  unfold laidMetH
  rw[h]
  exact hm
theorem f5e (os:Os) (args:Array Value):laidMetH Tryz.prog [] ((World.laidAll Tryz.prog os []).forCall (fun _ _=>0) ⟨#[],args,[]⟩).memory:=
  f3n kr (laidMet_laidAll _ kr kr)
def tys:Tys:=⟨37,33,34,35,46,50,83,9,44,62,81,4,3⟩
theorem i1r:i1p Tryz.prog tys where
 it:=kr
 ss:=⟨kr,kr⟩
 es:=⟨kr,kr⟩
 fs:=⟨kr,kr⟩
 s:=kr
 e:=kr
 f:=kr
 n:=kr
 fl:=⟨kr,kr⟩
 fd:=kr
 bs:=⟨kr,kr⟩
 b:=kr
 i:=kr
end Go.Proofs.YtocpgkeiakjicaaGreat
namespace Go.Vm.Lex
def b5s:List (List UInt8):=[[58,58],[45,62],[61,62],[61,61],[33,61],[60,61],[62,61],[38,38],[124,124]]
def c3z:List UInt8:=[40,41,123,125,60,62,44,59,58,61,43,45,42,47,37,38,33,46,95]
def a2z (s:List UInt8):List UInt8:=if 1 < s.length/\s.take 2∈b5s then s.take 2 else if s≠[]/\hd0 s∈c3z then s.take 1 else[]
def wsB (c:UInt8):Bool:=decide (c=32\/c=9\/c=10\/c=13)
def a0g:Bool->List UInt8->Nat
 |_,[]=>0
 |false,c::r=>if wsB c then a0g false r+1 else if c=47/\r.head? =some 47 then a0g true r+1 else 0
 |true,c::r=>if c=10 then a0g false r+1 else a0g true r+1
theorem a2u:∀ (b:Bool) (s:List UInt8),a0g b s<=s.length
 |b,[]=>by cases b<;>simp[a0g]
 |false,c::r=>by
  have h1:=a2u false r;have h2:=a2u true r
  unfold a0g;repeat' split
  all_goals simp;try omega
 |true,c::r=>by
  have h1:=a2u false r;have h2:=a2u true r
  unfold a0g;repeat' split
  all_goals simp;try omega
theorem a6m (c:UInt8) (r:List UInt8):a0g false (c::r)=if wsB c then a0g false r+1 else if c=47/\r.head? =some 47 then a0g true r+1 else 0:=rfl
theorem a9p (c:UInt8) (r:List UInt8):a0g true (c::r)=if c=10 then a0g false r+1 else a0g true r+1:=rfl
theorem b1p (b:Bool):a0g b []=0:=by cases b<;>rfl
theorem g1m (b:UInt8) (l:List UInt8) (c:UInt8):Lib.indexByte (b::l) c=if b==c then 0 else if Lib.indexByte l c== -1 then -1 else Lib.indexByte l c+1:=rfl
theorem f8s:∀ l:List UInt8,a0g true l=if Lib.indexByte l 10= -1 then l.length else(Lib.indexByte l 10).toNat+a0g false (l.drop (Lib.indexByte l 10).toNat)
 |[]=>by simp[b1p,Lib.indexByte]
 |c::r=>by
  have ih:=f8s r
  have hg:=Lib.indexByte_ge r 10
  rw[a9p,g1m]
  by_cases hc:c=10
  ·subst hc;simp[a6m,wsB]
  ·by_cases hn:Lib.indexByte r 10= -1
   ·simp[hc,hn]at ih⊢;exact ih
   ·simp only[hc,hn,if_false,beq_iff_eq]at ih⊢
    have e1:(Lib.indexByte r 10+1).toNat=(Lib.indexByte r 10).toNat+1:=om
    have e2:¬ (Lib.indexByte r 10+1= -1):=om
    rw[if_neg e2,e1,List.drop_succ_cons,ih]
    generalize a0g false (List.drop (Lib.indexByte r 10).toNat r)=q
    omega
def dig (c:UInt8):Nat:=c.toNat - 48
def g3j (n:Nat) (s:List UInt8):Nat:=s.foldl (fun n c=>n*10+dig c) n
theorem e8c (n:Nat) (c:UInt8) (r:List UInt8):g3j n (c::r)=g3j (n*10+dig c) r:=List.foldl_cons ..
def c0c (s:List UInt8):Nat:=g3j 0 s
def b6k (s:List UInt8):Bool:=s.all isD && decide (c0c s<=9223372036854775807)
theorem e9z:∀ (s:List UInt8) (n:Nat),n<=g3j n s
 |[],n=>Nat.le_refl _
 |c::r,n=>by have:=e9z r (n*10+dig c);rw[e8c];omega
structure Tk where
 k:Int
 t:List UInt8
 v:Int
 n:Nat
 e:Int
def a2p (w:List UInt8->Nat) (s:List UInt8):Tk:=
 if 0 < a8p s/\isD (hd0 s)=true then(if b6k (s.take (a8p s)) then⟨3,s.take (a8p s),c0c (s.take (a8p s)),a8p s,0⟩ else⟨0,[],0,a8p s,112⟩)
 else if 0 < a8p s/\s.take (a8p s)≠[95] then(if 64 < a8p s then⟨0,[],0,a8p s,2⟩ else⟨if c6l (s.take (a8p s)) then 2 else 1,s.take (a8p s),0,a8p s,0⟩)
 else if a2z s≠[] then⟨4,a2z s,0,(a2z s).length,0⟩
 else⟨0,[],0,w s,111⟩
def szN (c:UInt8):Nat:=if 194<=c.toNat/\c.toNat<=223 then 2 else if 224<=c.toNat/\c.toNat<=239 then 3 else if 240<=c.toNat/\c.toNat<=244 then 4 else 0
def c7u (c:UInt8):Nat:=if c.toNat=224 then 160 else if c.toNat=240 then 144 else 128
def d2i (c:UInt8):Nat:=if c.toNat=237 then 159 else if c.toNat=244 then 143 else 191
def a1v (b:UInt8):Bool:=decide (128<=b.toNat/\b.toNat<=191)
def hd1:List UInt8->UInt8
 |_::b::_=>b
 |_=>0
def szL (s:List UInt8):Nat:=
 if s=[] then 0
 else if(hd0 s).toNat < 128 then 1
 else if szN (hd0 s)=0 then 0
 else if s.length < szN (hd0 s)\/(hd1 s).toNat < c7u (hd0 s)\/d2i (hd0 s) < (hd1 s).toNat then 0
 else if((s.take (szN (hd0 s))).drop 2).all a1v then szN (hd0 s) else 0
theorem h1s (c:UInt8):szN c=0\/(2<=szN c/\szN c<=4):=by
 unfold szN
 repeat' split
 all_goals omega
theorem c3u (s:List UInt8):szL s<=s.length:=by
 unfold szL
 repeat' split
 all_goals first|omega|skip
 rename_i h _
 cases s with
 |nil=>exact absurd rfl h
 |cons c r=>simp
theorem b2s (s:List UInt8) (h:¬ (s=[]\/szL s=0)):(s.drop (szL s)).length < s.length:=by
 have:s.length≠0:=fun e=>h (.inl (List.length_eq_zero_iff.1 e))
 rw[List.length_drop];omega
def strange (at_:Nat) (s:List UInt8):Int:=if h:s=[]\/szL s=0 then(if s=[] then -1 else(at_:Int)) else strange (at_+szL s) (s.drop (szL s))
termination_by s.length
decreasing_by exact b2s s h
theorem a4h (at_:Nat):strange at_ []= -1:=by rw[strange];simp
theorem a9f (at_:Nat) {s:List UInt8} (h:s≠[]) (h0:szL s=0):strange at_ s=at_:=by rw[strange];simp[h,h0]
theorem a7r (at_:Nat) {s:List UInt8} (h:s≠[]) (h0:szL s≠0):strange at_ s=strange (at_+szL s) (s.drop (szL s)):=by rw[strange];simp[h,h0]
end Go.Vm.Lex
namespace Go.Vm.Lex
def Val (s:List UInt8):Prop:=strange 0 s= -1
theorem d7c:∀ (n:Nat) (s:List UInt8) (a b:Nat),s.length<=n->(strange a s= -1↔strange b s= -1):=by
 intro n
 induction n with
 |zero=>intro s a b h;have:s=[]:=List.length_eq_zero_iff.1 om;subst this;rw[a4h,a4h]
 |succ n ih=>
  intro s a b h
  by_cases h0:s=[]
  ·subst h0;rw[a4h,a4h]
  ·by_cases h1:szL s=0
   ·rw[a9f a h0 h1,a9f b h0 h1];omega
   ·rw[a7r a h0 h1,a7r b h0 h1]
    exact ih _ _ _ (by have:=b2s s (by simp[h0,h1]);omega)
theorem g7u (a:Nat) (s:List UInt8):strange a s= -1↔Val s:=d7c _ s a 0 (Nat.le_refl _)
theorem c8w:∀ (n:Nat) (s:List UInt8) (a:Nat),s.length<=n->strange a s= -1\/((a:Int)<=strange a s/\strange a s < a+s.length):=by
 intro n
 induction n with
 |zero=>intro s a h;have:s=[]:=List.length_eq_zero_iff.1 om;subst this;rw[a4h];exact .inl rfl
 |succ n ih=>
  intro s a h
  by_cases h0:s=[]
  ·subst h0;rw[a4h];exact .inl rfl
  ·have hp:0 < s.length:=List.length_pos_iff.2 h0
   by_cases h1:szL s=0
   ·rw[a9f a h0 h1];omega
   ·rw[a7r a h0 h1]
    have:=ih (s.drop (szL s)) (a+szL s) (by have:=b2s s (by simp[h0,h1]);omega)
    have hl:=c3u s
    rw[List.length_drop]at this
    omega
theorem c6j:Val []:=a4h 0
theorem c3q {s:List UInt8} (h:s≠[]):Val s↔szL s≠0/\Val (s.drop (szL s)):=by
 by_cases h1:szL s=0
 ·unfold Val;rw[a9f 0 h h1];simp[h1]
 ·unfold Val;rw[a7r 0 h h1];simp[h1];exact g7u _ _
theorem e6c {c:UInt8} (h:c.toNat < 128) (r:List UInt8):szL (c::r)=1:=by
 unfold szL;rw[if_neg (List.cons_ne_nil _ _)];simp[hd0,h]
theorem d0z {c:UInt8} (h:c.toNat < 128) (r:List UInt8):Val (c::r)↔Val r:=by
 rw[c3q (List.cons_ne_nil _ _),e6c h];simp
theorem d5l (s:List UInt8) (h:szL s≠0):(szL s=1/\s≠[]/\(hd0 s).toNat < 128)\/(128<=(hd0 s).toNat/\szL s=szN (hd0 s)/\2<=szL s/\szL s<=s.length/\c7u (hd0 s)<=(hd1 s).toNat/\(hd1 s).toNat<=d2i (hd0 s)/\((s.take (szL s)).drop 2).all a1v=true):=by
 have hN:=h1s (hd0 s)
 unfold szL at h⊢
 split
 ·rename_i h0;rw[if_pos h0]at h;exact absurd rfl h
 ·rename_i h0
  rw[if_neg h0]at h
  split
  ·rename_i h1;exact .inl ⟨rfl,h0,h1⟩
  ·rename_i h1
   rw[if_neg h1]at h
   split
   ·rename_i h2;rw[if_pos h2]at h;exact absurd rfl h
   ·rename_i h2
    rw[if_neg h2]at h
    split
    ·rename_i h3;rw[if_pos h3]at h;exact absurd rfl h
    ·rename_i h3
     rw[if_neg h3]at h
     split
     ·rename_i h4
      right
      refine⟨om,rfl,om,om,om,om,?_⟩
      exact h4
     ·rename_i h4;rw[if_neg h4]at h;exact absurd rfl h
theorem h1g (s:List UInt8) (h:128<=(hd0 s).toNat) (hN:2<=szN (hd0 s)) (hl:szN (hd0 s)<=s.length) (h1:c7u (hd0 s)<=(hd1 s).toNat) (h2:(hd1 s).toNat<=d2i (hd0 s)) (h3:((s.take (szN (hd0 s))).drop 2).all a1v=true):szL s=szN (hd0 s):=by
 unfold szL
 rw[if_neg (by rintro rfl;simp at hl;omega),if_neg om,if_neg om,if_neg om,if_pos h3]
theorem e2a {s t:List UInt8} {n:Nat} (hn:1<=n) (h:s.take n=t.take n):hd0 s=hd0 t:=by
 obtain⟨m,rfl⟩:∃ m,n=m+1:=⟨n - 1,om⟩
 cases s<;>cases t<;>simp at h<;>simp[hd0,h]
theorem f5u {s t:List UInt8} {n:Nat} (hn:2<=n) (h:s.take n=t.take n):hd1 s=hd1 t:=by
 obtain⟨m,rfl⟩:∃ m,n=m+2:=⟨n - 2,om⟩
 match s,t with
 |[],[]=>rfl
 |[],_::_=>simp at h
 |_::_,[]=>simp at h
 |[a],[b]=>rfl
 |[a],b::c::t=>simp at h
 |a::d::s,[b]=>simp at h
 |a::d::s,b::c::t=>simp at h;simp[hd1,h]
theorem e8w {s t:List UInt8} (h:szL s≠0) (ht:szL s<=t.length) (he:s.take (szL s)=t.take (szL s)):szL t=szL s:=by
 rcases d5l s h with⟨h1,h2,h3⟩|⟨h1,h2,h3,h4,h5,h6,h7⟩
 ·have e0:=e2a om he
  have hne:t≠[]:=by rintro rfl;simp at ht;omega
  unfold szL
  rw[if_neg hne,if_pos (by rw[<-e0];exact h3)]
  rw[if_neg h2,if_pos h3]
 ·have e0:=e2a om he
  have e1:=f5u h3 he
  rw[h1g t (by rw[<-e0];exact h1) (by rw[<-e0];omega) (by rw[<-e0];omega) (by rw[<-e0,<-e1];exact h5) (by rw[<-e0,<-e1];exact h6) (by rw[<-e0,<-h2,<-he];exact h7),<-e0,h2]
theorem g4l {s:List UInt8} (h:szL s≠0) (t:List UInt8):szL (s++t)=szL s:=
 e8w h (by have:=c3u s;simp;omega) (by rw[List.take_append_of_le_length (c3u s)])
theorem f7d {s:List UInt8} (h:szL s≠0) {p:Nat} (hp:szL s<=p):szL (s.take p)=szL s:=
 e8w h (by have:=c3u s;simp;omega) (by rw[List.take_take,Nat.min_eq_left hp])
theorem f6i {s:List UInt8} {p:Nat} (hp:0 < p) (h:p < szL s):∀ c,s[p]? =some c->128<=c.toNat:=by
 intro c hc
 rcases d5l s om with⟨h1,_⟩|⟨h1,h2,h3,h4,h5,h6,h7⟩
 ·omega
 ·by_cases hp1:p=1
  ·subst hp1
   have:hd1 s=c:=by
    match s,hc with
    |a::b::r,hc=>simpa [hd1] using hc
   have hlo:128<=c7u (hd0 s):=by unfold c7u;repeat' split
                                 all_goals omega
   rw[this]at h5;omega
  ·have hm:c∈(s.take (szL s)).drop 2:=List.mem_iff_getElem?.2 ⟨p - 2,by
     rw[List.getElem?_drop,show 2+(p - 2)=p by omega,List.getElem?_take,if_pos h];exact hc⟩
   have:=List.all_eq_true.1 h7 c hm
   simp[a1v]at this;omega
theorem d4e:∀ (n:Nat) (s:List UInt8) (p:Nat),s.length<=n->Val s->(s.length<=p\/∃ c,s[p]? =some c/\c.toNat < 128)->Val (s.take p)/\Val (s.drop p):=by
 intro n
 induction n with
 |zero=>intro s p h hv _;have:s=[]:=List.length_eq_zero_iff.1 om;subst this;simp[c6j]
 |succ n ih=>
  intro s p h hv hb
  by_cases h0:s=[]
  ·subst h0;simp[c6j]
  ·by_cases hp:p=0
   ·subst hp;simp[c6j,hv]
   ·obtain⟨h1,h2⟩:=(c3q h0).1 hv
    have hge:szL s<=p:=by
     apply Classical.byContradiction
     intro hlt
     rcases hb with hb|⟨c,hc,hc2⟩
     ·have:=c3u s;omega
     ·have:=f6i (s:=s) (p:=p) om om c hc;omega
    have hd:=b2s s (by simp[h0,h1])
    obtain⟨k1,k2⟩:=ih (s.drop (szL s)) (p - szL s) om h2 (by
      rcases hb with hb|⟨c,hc,hc2⟩
      ·left;rw[List.length_drop];omega
      ·right;exact⟨c,by rw[List.getElem?_drop,show szL s+(p - szL s)=p by omega];exact hc,hc2⟩)
    constructor
    ·have hne:s.take p≠[]:=by intro e;rw[List.take_eq_nil_iff]at e;rcases e with e|e;exact hp e;exact h0 e
     rw[c3q hne,f7d h1 hge]
     refine⟨h1,?_⟩
     rw[List.drop_take];exact k1
    ·rw[List.drop_drop,show szL s+(p - szL s)=p by omega]at k2;exact k2
theorem c3k:∀ (n:Nat) (s:List UInt8),s.length<=n->Val s->Val (s.drop (a0g false s)):=by
 intro n
 induction n with
 |zero=>intro s h hv;have:s=[]:=List.length_eq_zero_iff.1 om;subst this;simp[c6j]
 |succ n ih=>
  intro s h hv
  cases s with
  |nil=>simpa using hv
  |cons c r=>
   rw[a6m]
   split
   ·rename_i hw
    have hc:c.toNat < 128:=by simp[wsB]at hw;rcases hw with rfl|rfl|rfl|rfl<;>decide
    rw[List.drop_succ_cons]
    exact ih r (by simpa using h) ((d0z hc r).1 hv)
   ·split
    ·rename_i hr
     have hc:c.toNat < 128:=by rw[hr.1];decide
     have hvr:=(d0z hc r).1 hv
     rw[List.drop_succ_cons,f8s]
     have hg:=Lib.indexByte_ge r 10
     split
     ·rw[List.drop_length];exact c6j
     ·rename_i hi
      rw[<-List.drop_drop]
      have hs:=Lib.indexByte_some (l:=r) (c:=10) (o:=(Lib.indexByte r 10).toNat) om
      refine ih _ (by rw[List.length_drop];simp at h;omega) ?_
      exact(d4e _ r _ (Nat.le_refl _) hvr (.inr ⟨10,hs.1,by decide⟩)).2
    ·exact hv
theorem c4x:∀ (n:Nat) (b:Bool) (s:List UInt8),s.length<=n->a0g false (s.drop (a0g b s))=0:=by
 intro n
 induction n with
 |zero=>intro b s h;have:s=[]:=List.length_eq_zero_iff.1 om;subst this;cases b<;>rfl
 |succ n ih=>
  intro b s h
  cases s with
  |nil=>cases b<;>rfl
  |cons c r=>
   have hr:r.length<=n:=by simpa using h
   cases b with
   |false=>
    rw[a6m]
    split
    ·rw[List.drop_succ_cons];exact ih _ r hr
    ·rename_i h1
     split
     ·rw[List.drop_succ_cons];exact ih _ r hr
     ·rename_i h2;rw[List.drop_zero,a6m,if_neg h1,if_neg h2]
   |true=>
    rw[a9p]
    split
    ·rw[List.drop_succ_cons];exact ih _ r hr
    ·rw[List.drop_succ_cons];exact ih _ r hr
end Go.Vm.Lex
namespace Go.Vm.Lex
theorem f4d {c:UInt8} (h:c2e c=true):c.toNat < 128:=by simp[c2e,isL,isD]at h;omega
theorem takeWhile_take:∀ (s:List UInt8),s.take (a8p s)=s.takeWhile c2e:=by
 intro s;unfold a8p
 induction s with
 |nil=>rfl
 |cons c r ih=>rw[List.takeWhile_cons];split<;>simp[ih]
theorem g3d (s:List UInt8):(s.take (a8p s)).all c2e=true:=by
 rw[takeWhile_take]
 induction s with
 |nil=>rfl
 |cons c r ih=>rw[List.takeWhile_cons];split<;>simp_all
theorem d8n (s:List UInt8):a2z s=[]\/(s.length≥2/\a2z s=s.take 2/\s.take 2∈b5s)\/(s≠[]/\a2z s=s.take 1/\hd0 s∈c3z/\¬ (1 < s.length/\s.take 2∈b5s)):=by
 unfold a2z
 split
 ·rename_i h;exact .inr (.inl ⟨h.1,rfl,h.2⟩)
 ·rename_i h0
  split
  ·rename_i h;exact .inr (.inr ⟨h.1,rfl,h.2,h0⟩)
  ·exact .inl rfl
theorem f4y:∀ t∈b5s,t.length=2/\∀ c∈t,c.toNat < 128:=by decide
theorem f6q:∀ c∈c3z,c.toNat < 128:=by decide
theorem c0s {w:List UInt8->Nat} {s:List UInt8} (h:(a2p w s).e=0):1<=(a2p w s).n/\(a2p w s).n<=s.length/\(a2p w s).t=s.take (a2p w s).n/\∀ c∈s.take (a2p w s).n,c.toNat < 128:=by
 have hrl:=b7q s
 have hra:∀ c∈s.take (a8p s),c.toNat < 128:=fun c hc=>f4d (List.all_eq_true.1 (g3d s) c hc)
 unfold a2p at h⊢
 split
 ·rename_i h1
  rw[if_pos h1]at h
  split
  ·exact⟨h1.1,hrl,rfl,hra⟩
  ·rename_i h2;rw[if_neg h2]at h;cases h
 ·rename_i h1
  rw[if_neg h1]at h
  split
  ·rename_i h2
   rw[if_pos h2]at h
   split
   ·rename_i h3;rw[if_pos h3]at h;cases h
   ·exact⟨h2.1,hrl,rfl,hra⟩
  ·rename_i h2
   rw[if_neg h2]at h
   split
   ·rename_i h3
    rcases d8n s with h4|⟨h4,h5,h6⟩|⟨h4,h5,h6,_⟩
    ·exact absurd h4 h3
    ·have hl:(a2z s).length=2:=by rw[h5,List.length_take];omega
     show 1<=(a2z s).length/\(a2z s).length<=s.length/\a2z s=s.take (a2z s).length/\_
     rw[hl]
     exact⟨om,h4,h5,(f4y _ h6).2⟩
    ·have hp:0 < s.length:=List.length_pos_iff.2 h4
     have hl:(a2z s).length=1:=by rw[h5,List.length_take];omega
     show 1<=(a2z s).length/\(a2z s).length<=s.length/\a2z s=s.take (a2z s).length/\∀ c∈s.take (a2z s).length,c.toNat < 128
     rw[hl]
     refine⟨om,om,h5,fun c hc=>?_⟩
     cases s with
     |nil=>exact absurd rfl h4
     |cons d r=>simp at hc;rw[hc];exact f6q _ h6
   ·rename_i h3;rw[if_neg h3]at h;cases h
theorem d0r:∀ (s:List UInt8) (n:Nat),(∀ c∈s.take n,c.toNat < 128)->(Val s↔Val (s.drop n))
 |[],n,_=>by simp
 |c::r,0,_=>by simp
 |c::r,n+1,h=>by
  rw[d0z (h c (by simp)) r,List.drop_succ_cons]
  exact d0r r n fun d hd=>h d (by simp[hd])
structure Dg where
 c:Int
 f:Nat
 e:Nat
structure TokQ where
 k:Int
 t:List UInt8
 v:Int
 f:Nat
 e:Nat
def Dg.ok:Dg:=⟨0,0,0⟩
def after (out:List TokQ) (r:List TokQ×Dg):List TokQ×Dg:=if r.2.c=0 then(out++r.1,r.2) else([],r.2)
theorem e1w (s:List UInt8) (h:¬ (s.drop (a0g false s)=[]\/(a2p szL (s.drop (a0g false s))).e≠0)):(s.drop (a0g false s+(a2p szL (s.drop (a0g false s))).n)).length < s.length:=by
 have h1:s.drop (a0g false s)≠[]:=fun e=>h (.inl e)
 have h2:(a2p szL (s.drop (a0g false s))).e=0:=by
  apply Classical.byContradiction
  intro e;exact h (.inr e)
 obtain⟨h3,h4,_⟩:=c0s h2
 rw[List.length_drop]at h4⊢
 have:=List.length_pos_iff.2 h1
 rw[List.length_drop]at this
 omega
def toks (a:Nat) (s:List UInt8):List TokQ×Dg:=
 if h:s.drop (a0g false s)=[]\/(a2p szL (s.drop (a0g false s))).e≠0 then
  (if s.drop (a0g false s)=[] then([⟨5,[],0,a+s.length,a+s.length⟩],Dg.ok)
   else([],⟨(a2p szL (s.drop (a0g false s))).e,a+a0g false s,a+a0g false s+(a2p szL (s.drop (a0g false s))).n⟩))
 else after [⟨(a2p szL (s.drop (a0g false s))).k,(a2p szL (s.drop (a0g false s))).t,(a2p szL (s.drop (a0g false s))).v,a+a0g false s,a+a0g false s+(a2p szL (s.drop (a0g false s))).n⟩] (toks (a+(a0g false s+(a2p szL (s.drop (a0g false s))).n)) (s.drop (a0g false s+(a2p szL (s.drop (a0g false s))).n)))
termination_by s.length
decreasing_by exact e1w s h
theorem a2x (a:Nat) {s:List UInt8} (h:s.drop (a0g false s)=[]):toks a s=([⟨5,[],0,a+s.length,a+s.length⟩],Dg.ok):=by rw[toks];simp[h]
theorem a7i (a:Nat) {s:List UInt8} (h:s.drop (a0g false s)≠[]) (he:(a2p szL (s.drop (a0g false s))).e≠0):toks a s=([],⟨(a2p szL (s.drop (a0g false s))).e,a+a0g false s,a+a0g false s+(a2p szL (s.drop (a0g false s))).n⟩):=by rw[toks,dif_pos (.inr he),if_neg h]
theorem a9r (a:Nat) {s:List UInt8} (h:s.drop (a0g false s)≠[]) (he:(a2p szL (s.drop (a0g false s))).e=0):toks a s=after [⟨(a2p szL (s.drop (a0g false s))).k,(a2p szL (s.drop (a0g false s))).t,(a2p szL (s.drop (a0g false s))).v,a+a0g false s,a+a0g false s+(a2p szL (s.drop (a0g false s))).n⟩] (toks (a+(a0g false s+(a2p szL (s.drop (a0g false s))).n)) (s.drop (a0g false s+(a2p szL (s.drop (a0g false s))).n))):=by
 rw[toks,dif_neg (by simp[h,he])]
theorem b8w (a:Nat) (s:List UInt8):toks a s=toks (a+a0g false s) (s.drop (a0g false s)):=by
 have hi:=c4x _ false s (Nat.le_refl _)
 have hl:=a2u false s
 by_cases h:s.drop (a0g false s)=[]
 ·rw[a2x a h,a2x (a+a0g false s) (by rw[hi,List.drop_zero];exact h)]
  have e:(s.drop (a0g false s)).length=s.length - a0g false s:=List.length_drop ..
  have hl2:a+a0g false s+(s.drop (a0g false s)).length=a+s.length:=by rw[e];omega
  rw[hl2]
 ·by_cases he:(a2p szL (s.drop (a0g false s))).e=0
  ·rw[a9r a h he,a9r (a+a0g false s) (by rw[hi,List.drop_zero];exact h) (by rw[hi,List.drop_zero];exact he),hi]
   simp only[List.drop_zero,Nat.add_zero,List.drop_drop,Nat.zero_add,Nat.add_assoc]
  ·rw[a7i a h he,a7i (a+a0g false s) (by rw[hi,List.drop_zero];exact h) (by rw[hi,List.drop_zero];exact he),hi]
   simp only[List.drop_zero,Nat.add_zero]
theorem c5d (o1 o2:List TokQ) (r:List TokQ×Dg):after o1 (after o2 r)=after (o1++o2) r:=by
 unfold after
 by_cases h:r.2.c=0<;>simp[h]
theorem c5y (r:List TokQ×Dg) (h:r.2.c≠0->r.1=[]):after [] r=r:=by
 unfold after
 by_cases hc:r.2.c=0
 ·simp[hc]
 ·rw[if_neg hc,<-h hc]
theorem d0p:∀ (n:Nat) (a:Nat) (s:List UInt8),s.length<=n->(toks a s).2.c≠0->(toks a s).1=[]:=by
 intro n
 cases n with
 |zero=>
  intro a s h hc
  have:s=[]:=List.length_eq_zero_iff.1 om
  subst this
  rw[a2x a (by simp)]at hc;exact absurd rfl hc
 |succ n=>
  intro a s h hc
  by_cases h0:s.drop (a0g false s)=[]
  ·rw[a2x a h0]at hc;exact absurd rfl hc
  ·by_cases he:(a2p szL (s.drop (a0g false s))).e=0
   ·rw[a9r a h0 he]at hc⊢
    unfold after at hc⊢
    split
    ·rename_i hz;rw[if_pos hz]at hc;exact absurd hz hc
    ·rfl
   ·rw[a7i a h0 he]
def a3c (s:List UInt8):List TokQ×Dg:=if 65536 < s.length then([],⟨2,0,0⟩) else if 0<=strange 0 s then([],⟨110,(strange 0 s).toNat,(strange 0 s).toNat+1⟩) else toks 0 s
end Go.Vm.Lex
namespace Go.Vm.Tp
open Go.Vm.Lex
structure Nd where
 k:Int
 t:List UInt8
 v:Int
 kids:List Int
 f:Int
 e:Int
def Nd.D (x:Nd):D:= .agg [.int .i64 x.k,.str x.t,.int .i64 x.v,.sl (x.kids.map (D.int .i64)),.int .i64 x.f,.int .i64 x.e]
def a6q (t:List Nd):D:= .agg [.sl (t.map Nd.D)]
instance:Inhabited Nd:=⟨⟨0,[],0,[],0,0⟩⟩
def I64 (n:Int):Prop:= -9223372036854775808<=n/\n<=9223372036854775807
structure b2u (t:List Nd):Prop where
 len:t.length<=1048576
 txt:∀ x∈t,x.t.length<=1048576
 kid:∀ x∈t,x.kids.length<=1048576
 ik:∀ x∈t,∀ k∈x.kids,I64 k
 iv:∀ x∈t,I64 x.v
 ie:∀ x∈t,I64 x.f/\I64 x.e
def a7l (k:Int):Bool:=decide (10<=k) && decide (k<=16)
def g6d (k:Int):Bool:=decide (21<=k) && decide (k<=27)
def g6f (k:Int):Bool:=decide (k=20)||(decide (30<=k) && decide (k<=46) && !decide (k=36))
def g5t (k:Int):Bool:=decide (50<=k) && decide (k<=54)
def b3i (c:UInt8) (k:Int):Bool:=
 if c=105 then decide (k=2\/k=3\/k=4)
 else if c=116 then a7l k
 else if c=115 then g6d k
 else if c=101 then g6f k
 else if c=112 then g5t k
 else if c=98 then decide (k=20)
 else if c=102 then decide (k=5)
 else if c=118 then decide (k=6)
 else if c=110 then decide (k=36)
 else if c=97 then decide (k=47)
 else if c=113 then decide (k=7)
 else if c=111 then decide (k=20\/k=45)
 else false
def b6m (k v:Int):List UInt8×Option UInt8×List UInt8:=
 if k=1 then([],some 105,[])
 else if k=2 then([],some 113,[116,98])
 else if k=3 then([],some 102,[])
 else if k=4 then([],some 118,[])
 else if k=5\/k=7\/k=14\/k=15\/k=16 then([116],none,[])
 else if k=6 then([63,116],none,[])
 else if k=20 then(if v=1 then([],some 115,[101]) else([],some 115,[]))
 else if k=21 then([63,116,101],none,[])
 else if k=23\/k=38 then([101,101],none,[])
 else if k=24 then([101,98],none,[])
 else if k=25\/k=37 then([63,101],none,[])
 else if k=34 then([],some 101,[])
 else if k=35 then([],some 110,[])
 else if k=22\/k=36\/k=41\/k=39\/k=40\/k=42\/k=44\/k=43 then([101],none,[])
 else if k=45 then([101,98,63,111],none,[])
 else if k=46 then([101],some 97,[])
 else if k=47 then([112,101],none,[])
 else if k=54 then([63,112],none,[])
 else([],none,[])
def shapeOf:List UInt8×Option UInt8×List UInt8->List UInt8
 |(a,none,_)=>a
 |(a,some c,b)=>a++42::c::b
def c8b (k v:Int):List UInt8:=shapeOf (b6m k v)
def a5z:List UInt8->List Int->Bool
 |[],l=>decide (l=[])
 |[c],l=>match l with|[]=>false|a::r=>b3i c a && decide (r=[])
 |c::d::s,l=>if c=63 then(match l with|[]=>false|a::r=>b3i d a && a5z s r)||a5z s l else match l with|[]=>false|a::r=>b3i c a && a5z (d::s) r
def b2e (k v:Int) (ks:List Int):Bool:=match b6m k v with
 |(a,none,_)=>a5z a ks
 |(a,some c,b)=>decide (a.length+b.length<=ks.length) && (a5z a (ks.take a.length) && ((ks.take (ks.length - b.length)).drop a.length).all (b3i c) && a5z b (ks.drop (ks.length - b.length)))
def a5c (k:Int):Bool:=(decide (1<=k) && decide (k<=7))||a7l k||g6d k||g5t k||g6f k||decide (k=36)||decide (k=47)
def a8a:List (List UInt8):=[[124,124],[38,38],[61,61],[33,61],[60],[62],[60,61],[62,61],[43],[45],[42],[47],[37]]
def e1k (s:List UInt8):List UInt8×List UInt8×Bool:=Lib.cut s [58,58]
def nmB (k:Int) (t:List UInt8):Bool:=
 if k=2\/k=3\/k=4\/k=5\/k=6\/k=7\/k=13\/k=21\/k=33\/k=34\/k=35\/k=36\/k=41\/k=51 then a7d t
 else if k=37\/k=54 then(e1k t).2.2 && a7d (e1k t).1 && a7d (e1k t).2.1
 else if k=38 then decide (t∈a8a)
 else decide (t=[])
def b6k (k v p:Int):Bool:=
 if k=2 then decide (v=p)
 else if k=7\/k=20\/k=21\/k=31\/k=53\/k=43 then decide (v=0)||decide (v=1)
 else if k=30 then decide (0<=v)
 else if k=52 then decide (-9223372036854775808 < v)
 else decide (v=0)
def a9k (t:List Nd) (i:Int):Int:=(t.getD i.toNat default).k
def kinds (t:List Nd) (l:List Int):List Int:=l.map (a9k t)
def params (ks:List Int):Int:=(ks.filter fun k=>decide (k=7)).length
def b0v (t:List Nd) (i:Nat):Bool:=
 let x:=t.getD i default
 x.kids.all (fun k=>decide (0<=k) && decide (k < i)) && (a5c x.k && nmB x.k x.t && b6k x.k x.v (params (kinds t x.kids)) && decide (0<=x.f) && decide (x.f<=x.e) && b2e x.k x.v (kinds t x.kids))
end Go.Vm.Tp
