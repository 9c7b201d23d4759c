import Derived.Test.YtkedogplneaaiaaGreatDoorPzB
set_option linter.unusedVariables false
set_option linter.unusedSimpArgs false
namespace Go.Vm.Px
open Go.Vm.Lex (TokQ a0k a7b dgD)
open Go.Vm.Pa hiding go
open Go.Vm.Ite
open Go Go.Proofs Go.RowKit
set_option maxRecDepth 100000
theorem mk69 (y:Value) (w:World):(Instr.makeInterface 69 y).run Tryz.prog w= .ok (.iface 69 y) w:=kr
theorem f7r {w:World} {a:Act} {o:Oper} {y:Value} (hy:a.tmps.getD 9 Go.undef=y) (ho:o.op= .makeInterface 69 (.tmp 9)):(execOp a.eval o).run Tryz.prog w= .ok (.value (.iface 69 y)) w:=by
 have h1:a.eval (.tmp 9)=y:=hy
 simp only[execOp,ho,h1]
 exact a9m (mk69 y w)
theorem f0c {f:Operand->Value} {x y:Operand}:(Array.map f #[x,y]).toList=[f x,f y]:=by simp
theorem e8u {w:World} {a:Act} {o:Oper} {t:Nat} (ho:o.op= .move (.tmp t)):(execOp a.eval o).run Tryz.prog w= .ok (.value (a.tmps.getD t Go.undef)) w:=by
 have h1:a.eval (.tmp t)=a.tmps.getD t Go.undef:=rfl
 simp only[execOp,ho,h1]
 rfl
theorem o8_0:(e9m[0]?).map (fun o=>(o.op,o.dst,o.guard))=some (.move (.tmp 8),some 29,none):=kr
theorem o8_1:(e9m[1]?).map (fun o=>(o.op,o.dst,o.guard))=some (.move (.tmp 1),some 30,none):=kr
theorem o8_2:(e9m[2]?).map (fun o=>(o.op,o.dst,o.guard))=some (.call {callee:= .value (.func 43),args:= #[.tmp 29,.tmp 30],argTypes:= #[46,44]},some 31,none):=kr
theorem o8_3:(e9m[3]?).map (fun o=>(o.op,o.dst,o.guard))=some (.makeInterface 69 (.tmp 9),some 32,none):=kr
theorem o8_4:(e9m[4]?).map (fun o=>(o.op,o.dst,o.guard))=some (.call {callee:= .value (.func 42),args:= #[.tmp 31,.tmp 32],argTypes:= #[67,20]},some 33,none):=kr
theorem o8_s:e9m.size=5:=kr
section
variable {cx:Cx} {src:S} {rf:Nat} {H:Hp} {g:Gh} {w:World} {a:Act}
theorem reg8 (ok:c5g cx 66 g ⟨E7 src rf,H,0⟩ a w) {Q:Exit->Act->World->Prop} {K:Gh->Hp->Value->World->Prop}
 (h43:∀ cargs:Array Value,a0w g H [.ptr 3 0,.fn rf []] cargs.toList->Calls Tryz.prog 43 cargs w fun e w'=> ∃ g' H' x,e= .returned x/\Inv cx g' H' w'/\Ext H.length g H w g' H' w'/\K g' H' x w')
 (h42:∀ g' H' x w' p,K g' H' x w'->Inv cx g' H' w'->Ext H.length g H w g' H' w'->Rep g' H' (.ptr 5 0) p->Calls Tryz.prog 42 #[x,.iface 69 p] w' fun e w2=> ∃ (b:Bool) (g2:Gh) (H2:Hp),e= .returned (.bool b)/\Inv cx g2 H2 w2/\Ext 0 g' H' w' g2 H2 w2/\
   ∀ a2,c5g cx 66 g2 ⟨(33,.d (.bool b))::E7 src rf,H2,0⟩ a2 w2->Q .normal a2 w2):(cL (cL (cD c20 6))).wp Tryz.prog Q a w:=by
 have e0:cL (cL (cD c20 6))= .region (cId (cL (cL (cD c20 6)))) e9m false:=kr
 rw[e0]
 apply wp_region
 have hr:List.range e9m.size=[0,1,2,3,4]:=by rw[o8_s];rfl
 rw[hr]
 refine f3m o8_0 ok (fun o ho=>e8u ho) (d:=29) (by decide) (v:= .ptr 3 0) (e8s ok (by decide) rfl) (ok.env.2 8 (by decide)).2 fun ok=>?_
 refine f3m o8_1 ok (fun o ho=>e8u ho) (d:=30) (by decide) (v:= .fn rf []) (e8s ok (by decide) rfl) (ok.env.2 1 (by decide)).2 fun ok=>?_
 have hp:=e8s ok (i:=29) (by decide) rfl
 have hf:=e8s ok (i:=30) (by decide) rfl
 refine e1p Tryz.func43 kr kr o8_2 (h43 _ (by
   rw[f0c]
   simp only[a0w]
   exact⟨_,_,rfl,hp,_,_,rfl,hf,rfl⟩)) ?_
 rintro e w' ⟨g',H',x,rfl,hI',hE',hK⟩
 refine⟨x,rfl,?_⟩
 have hu31:(V.raw x).und H'.length=true:=rfl
 have ok1:=ok.put (d:=some 31) (v:= .raw x) (x:=x) (fun k hk=>by cases hk;decide) hI' (by simp only[Rep]) hu31 (hE'.le (Nat.zero_le _))
 have h9:=e8s ok1 (i:=9) (v:= .ptr 5 0) (by decide) rfl
 generalize hy:(a.put _ _|>.put _ _|>.put _ _).tmps.getD 9 Go.undef=y at h9
 refine f3m o8_3 ok1 (fun o ho=>f7r hy ho) (d:=32) (by decide) (v:= .raw (.iface 69 y)) (by simp only[Rep]) rfl fun ok2=>?_
 have e31:=valR ok2 (i:=31) (by decide) rfl
 have e32:=valR ok2 (i:=32) (by decide) rfl
 refine e1p Tryz.func42 kr kr o8_4 (R:=fun e w2=> ∃ (b:Bool) (g2:Gh) (H2:Hp),e= .returned (.bool b)/\Inv cx g2 H2 w2/\Ext 0 g' H' w' g2 H2 w2/\
     ∀ a2,c5g cx 66 g2 ⟨(33,.d (.bool b))::E7 src rf,H2,0⟩ a2 w2->Q .normal a2 w2) ?_ ?_
 ·have h:=h42 g' H' x w' _ hK hI' hE' h9
  have ea:∀ b:Act,b.tmps.getD 31 Go.undef=x->b.tmps.getD 32 Go.undef= .iface 69 y->Array.map b.eval #[.tmp 31,.tmp 32]= #[x,.iface 69 y]:=fun b h1 h2=>by
    apply Array.ext'
    rw[f0c]
    show[_,_]=[_,_]
    rw[show b.eval (.tmp 31)=x from h1,show b.eval (.tmp 32)= .iface 69 y from h2]
  rw[ea _ e31 e32]
  exact h
 ·rintro e w2 ⟨b,g2,H2,rfl,hI2,hE2,hq⟩
  refine⟨_,rfl,?_⟩
  have ok3:=ok2.put (d:=some 33) (v:= .d (.bool b)) (x:= .bool b) (fun k hk=>by cases hk;decide) hI2 (by simp only[Rep,a3d,a0p]) rfl hE2
  refine hq _ ?_
  have ok4:=ok3.forget [33,0,1,4,5,8,9]
  exact ok4
end
end Go.Vm.Px
