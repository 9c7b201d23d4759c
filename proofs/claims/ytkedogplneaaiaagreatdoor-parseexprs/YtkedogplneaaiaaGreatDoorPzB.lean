import Derived.Test.YtkedogplneaaiaaGreatDoorPyD
import Derived.Test.YtkedogplneaaiaaGreatDoorProg
import Derived.Tactics
import Derived.Tactics2
import Derived.Defers
import Derived.Recover
import Derived.Laws.Pointers
import Derived.WalkKit
import Derived.RangeFuncBox
import Derived.Test.YtkedogplneaaiaaGreatDoorIteA
import Derived.Test.YtkedogplneaaiaaGreatDoorParShelf
set_option maxRecDepth 100000
set_option linter.unusedVariables false
set_option linter.unusedSimpArgs false
namespace Go.Vm.Px
open Go.Vm.Lex (TokQ)
open Go.Vm.Pa hiding go
open Go.Vm.Ite
set_option maxHeartbeats 4000000
section
variable {fx:Nat->Option Obj} {F:Nat->Option a0v} {l:List TokQ} {s s1:PS} {bb:Bool} {X:Hp} {base:Nat->a2v} {n:Nat} {o:Option EX} {b:Bool} {p:Int} {g:Q->PS->Option EX} {K:V->Hp->Prop}
theorem i0z (W:Wk fx F base l) (L:c6e fx F base l n) (h:okS l s=true) (hb:Zf s):c8y fx F base l (f5c Q37.F.body) (d1q Q37.F.body) 11 Q37.F [] s bb (goE l (n+1) .typ s):=by
 refine c1t rfl fun N=>?_
 have A:=At.start h hb
 have E:a0c l (goE l n) (prog .typ) s=goE l (n+1) .typ s:=rfl
 generalize goE l (n+1) .typ s=o at E N⊢
 replace E:=c0o E
 repeat' (first|refine a3a ⟨?_⟩|(refine a2k A ?_)|(refine a2l A ?_)|(refine a0d W A E ?_;clear A E;intro A E)|(refine a1f W A E ?_;clear A E;intro A E)|(refine a0o W A E ?_ ?_<;>clear A E<;>intro A E)|(refine a0t W A E ?_ ?_<;>clear A E<;>intro A E)|(refine a7x A E ?_ ?_<;>clear E<;>intro c E)|(refine a9d A E ?_ ?_<;>clear E<;>intro c E)|(refine a0g W A E ?_ ?_<;>clear A E<;>intro A E)|(refine a1i A E ?_ ?_<;>clear E<;>intro c E)|(refine a0l A E ?_ ?_<;>clear E<;>intro E)|(refine a2g A E N rfl rfl ?_;clear A E;intro i s2 E hat A)|(refine a0n A E N rfl rfl rfl ?_;clear A E;intro i s2 E hat A)|(refine a1h W A E N ?_;clear A E;intro A E)|exact a1j W A E|(refine And.intro ⟨rfl,by decide⟩ ?_)|(refine cxq (d7b A.ok) ?_)|(refine a8u W A rfl E ?_;clear A E;intro hB A E)|fail)
 replace E:=i1m W.hl A hB N E
 unfold i2v at E
 replace E:=c6v E N
 obtain⟨hadv,E⟩:=E
 have e0:now l (a3t s)=now l s:=rfl
 simp only[e0]at E
 refine cxq (b4r A.ok) ?_
 replace A:=A.d2i W.hl hadv
 cases c0:decide ((now l s).t=[105,54,52])with
 |true=>
  simp only[c0]at E
  repeat' (first|refine a3a ⟨?_⟩|(refine a2k A ?_)|(refine a2l A ?_)|(refine a0d W A E ?_;clear A E;intro A E)|(refine a1f W A E ?_;clear A E;intro A E)|(refine a0o W A E ?_ ?_<;>clear A E<;>intro A E)|(refine a0t W A E ?_ ?_<;>clear A E<;>intro A E)|(refine a7x A E ?_ ?_<;>clear E<;>intro c E)|(refine a9d A E ?_ ?_<;>clear E<;>intro c E)|(refine a0g W A E ?_ ?_<;>clear A E<;>intro A E)|(refine a1i A E ?_ ?_<;>clear E<;>intro c E)|(refine a0l A E ?_ ?_<;>clear E<;>intro E)|(refine a2g A E N rfl rfl ?_;clear A E;intro i s2 E hat A)|(refine a0n A E N rfl rfl rfl ?_;clear A E;intro i s2 E hat A)|(refine a1h W A E N ?_;clear A E;intro A E)|exact a1j W A E|(refine And.intro ⟨rfl,by decide⟩ ?_)|(refine a0y W A E N (L.typ _ _ A.ok A.bc) rfl (fun _ _=>rfl) ?_;clear A E;intro r s1 G A E)|(refine⟨_,a4p,?_⟩)|fail)
  all_goals exact⟨_,_,(b0t E).symm,rfl⟩
 |false=>
  simp only[c0]at E
  cases c1:decide ((now l s).t=[98,111,111,108])with
  |true=>
   simp only[c1]at E
   repeat' (first|refine a3a ⟨?_⟩|(refine a2k A ?_)|(refine a2l A ?_)|(refine a0d W A E ?_;clear A E;intro A E)|(refine a1f W A E ?_;clear A E;intro A E)|(refine a0o W A E ?_ ?_<;>clear A E<;>intro A E)|(refine a0t W A E ?_ ?_<;>clear A E<;>intro A E)|(refine a7x A E ?_ ?_<;>clear E<;>intro c E)|(refine a9d A E ?_ ?_<;>clear E<;>intro c E)|(refine a0g W A E ?_ ?_<;>clear A E<;>intro A E)|(refine a1i A E ?_ ?_<;>clear E<;>intro c E)|(refine a0l A E ?_ ?_<;>clear E<;>intro E)|(refine a2g A E N rfl rfl ?_;clear A E;intro i s2 E hat A)|(refine a0n A E N rfl rfl rfl ?_;clear A E;intro i s2 E hat A)|(refine a1h W A E N ?_;clear A E;intro A E)|exact a1j W A E|(refine And.intro ⟨rfl,by decide⟩ ?_)|(refine a0y W A E N (L.typ _ _ A.ok A.bc) rfl (fun _ _=>rfl) ?_;clear A E;intro r s1 G A E)|(refine⟨_,a4p,?_⟩)|fail)
   all_goals exact⟨_,_,(b0t E).symm,rfl⟩
  |false=>
   simp only[c1]at E
   cases c2:decide ((now l s).t=[40])with
   |true=>
    simp only[c2]at E
    repeat' (first|refine a3a ⟨?_⟩|(refine a2k A ?_)|(refine a2l A ?_)|(refine a0d W A E ?_;clear A E;intro A E)|(refine a1f W A E ?_;clear A E;intro A E)|(refine a0o W A E ?_ ?_<;>clear A E<;>intro A E)|(refine a0t W A E ?_ ?_<;>clear A E<;>intro A E)|(refine a7x A E ?_ ?_<;>clear E<;>intro c E)|(refine a9d A E ?_ ?_<;>clear E<;>intro c E)|(refine a0g W A E ?_ ?_<;>clear A E<;>intro A E)|(refine a1i A E ?_ ?_<;>clear E<;>intro c E)|(refine a0l A E ?_ ?_<;>clear E<;>intro E)|(refine a2g A E N rfl rfl ?_;clear A E;intro i s2 E hat A)|(refine a0n A E N rfl rfl rfl ?_;clear A E;intro i s2 E hat A)|(refine a1h W A E N ?_;clear A E;intro A E)|exact a1j W A E|(refine And.intro ⟨rfl,by decide⟩ ?_)|(refine a0y W A E N (L.typ _ _ A.ok A.bc) rfl (fun _ _=>rfl) ?_;clear A E;intro r s1 G A E)|(refine⟨_,a4p,?_⟩)|fail)
    all_goals exact⟨_,_,(b0t E).symm,rfl⟩
   |false=>
    simp only[c2]at E
    cases c3:decide ((now l s).t=[38])with
    |true=>
     simp only[c3]at E
     repeat' (first|refine a3a ⟨?_⟩|(refine a2k A ?_)|(refine a2l A ?_)|(refine a0d W A E ?_;clear A E;intro A E)|(refine a1f W A E ?_;clear A E;intro A E)|(refine a0o W A E ?_ ?_<;>clear A E<;>intro A E)|(refine a0t W A E ?_ ?_<;>clear A E<;>intro A E)|(refine a7x A E ?_ ?_<;>clear E<;>intro c E)|(refine a9d A E ?_ ?_<;>clear E<;>intro c E)|(refine a0g W A E ?_ ?_<;>clear A E<;>intro A E)|(refine a1i A E ?_ ?_<;>clear E<;>intro c E)|(refine a0l A E ?_ ?_<;>clear E<;>intro E)|(refine a2g A E N rfl rfl ?_;clear A E;intro i s2 E hat A)|(refine a0n A E N rfl rfl rfl ?_;clear A E;intro i s2 E hat A)|(refine a1h W A E N ?_;clear A E;intro A E)|exact a1j W A E|(refine And.intro ⟨rfl,by decide⟩ ?_)|(refine a0y W A E N (L.typ _ _ A.ok A.bc) rfl (fun _ _=>rfl) ?_;clear A E;intro r s1 G A E)|(refine⟨_,a4p,?_⟩)|fail)
     all_goals exact⟨_,_,(b0t E).symm,rfl⟩
    |false=>
     simp only[c3]at E
     cases c4:decide ((now l s).t=[66,111,120])with
     |true=>
      simp only[c4]at E
      repeat' (first|refine a3a ⟨?_⟩|(refine a2k A ?_)|(refine a2l A ?_)|(refine a0d W A E ?_;clear A E;intro A E)|(refine a1f W A E ?_;clear A E;intro A E)|(refine a0o W A E ?_ ?_<;>clear A E<;>intro A E)|(refine a0t W A E ?_ ?_<;>clear A E<;>intro A E)|(refine a7x A E ?_ ?_<;>clear E<;>intro c E)|(refine a9d A E ?_ ?_<;>clear E<;>intro c E)|(refine a0g W A E ?_ ?_<;>clear A E<;>intro A E)|(refine a1i A E ?_ ?_<;>clear E<;>intro c E)|(refine a0l A E ?_ ?_<;>clear E<;>intro E)|(refine a2g A E N rfl rfl ?_;clear A E;intro i s2 E hat A)|(refine a0n A E N rfl rfl rfl ?_;clear A E;intro i s2 E hat A)|(refine a1h W A E N ?_;clear A E;intro A E)|exact a1j W A E|(refine And.intro ⟨rfl,by decide⟩ ?_)|(refine a0y W A E N (L.typ _ _ A.ok A.bc) rfl (fun _ _=>rfl) ?_;clear A E;intro r s1 G A E)|(refine⟨_,a4p,?_⟩)|fail)
      all_goals exact⟨_,_,(b0t E).symm,rfl⟩
     |false=>
      simp only[c4]at E
      repeat' (first|refine a3a ⟨?_⟩|(refine a2k A ?_)|(refine a2l A ?_)|(refine a0d W A E ?_;clear A E;intro A E)|(refine a1f W A E ?_;clear A E;intro A E)|(refine a0o W A E ?_ ?_<;>clear A E<;>intro A E)|(refine a0t W A E ?_ ?_<;>clear A E<;>intro A E)|(refine a7x A E ?_ ?_<;>clear E<;>intro c E)|(refine a9d A E ?_ ?_<;>clear E<;>intro c E)|(refine a0g W A E ?_ ?_<;>clear A E<;>intro A E)|(refine a1i A E ?_ ?_<;>clear E<;>intro c E)|(refine a0l A E ?_ ?_<;>clear E<;>intro E)|(refine a2g A E N rfl rfl ?_;clear A E;intro i s2 E hat A)|(refine a0n A E N rfl rfl rfl ?_;clear A E;intro i s2 E hat A)|(refine a1h W A E N ?_;clear A E;intro A E)|exact a1j W A E|(refine And.intro ⟨rfl,by decide⟩ ?_)|(refine a0y W A E N (L.typ _ _ A.ok A.bc) rfl (fun _ _=>rfl) ?_;clear A E;intro r s1 G A E)|(refine⟨_,a4p,?_⟩)|fail)
      all_goals exact⟨_,_,(b0t E).symm,rfl⟩
theorem f7v {x:S} {k:Pr} (hl:LOk l) (A:At l b p s) (h:isS l s x=true):a0c l g (.need x k) s=a0c l g (.adv k) s:=by
 simp only[a0c,h,a3o hl A.ok (b9l h)]
theorem f1p {fr:Int} {m:N} {k:Int->Pr} (E:a0c l g (.down (.node fr m k)) s=o):a0c l g (.node fr m fun i=> .down (k i)) s=o:=by
  simp only[a0c]at E⊢
  have e:a2y l fr m (down s)=(a2y l fr m s).map fun q=>(q.1,down q.2):=by
    unfold a2y
    have e1:(down s).ns=s.ns:=rfl
    have e2:(down s).n=s.n:=rfl
    have e3:(down s).at_=s.at_:=rfl
    simp only[e1,e2,e3]
    split<;>rfl
  rw[e]at E
  cases c:a2y l fr m s with
  |none=>rw[c]at E;exact E
  |some q=>rw[c]at E;exact E
theorem g5q (W:Wk fx F base l) (LS:g2d fx F base l n a5n fun _=> .stmt) (h:okS l s=true) (hb:Zf s):c8y fx F base l (f5c Q83.F.body) (d1q Q83.F.body) 9 Q83.F [] s bb (goE l (n+1) .block s):=by
  refine c1t rfl fun N=>?_
  have A:=At.start h hb
  have E:a0c l (goE l n) (prog .block) s=goE l (n+1) .block s:=rfl
  generalize goE l (n+1) .block s=o at E N⊢
  replace E:=c0o E
  have hbeg:isS l s [123]=a1w l 98 s:=by simp[a1w]
  repeat' (first|refine a3a ⟨?_⟩|(refine a2k A ?_)|(refine a2l A ?_)|(refine a0d W A E ?_;clear A E;intro A E)|(refine a1f W A E ?_;clear A E;intro A E)|(refine a0o W A E ?_ ?_<;>clear A E<;>intro A E)|(refine a0t W A E ?_ ?_<;>clear A E<;>intro A E)|(refine a7x A E ?_ ?_<;>clear E<;>intro c E)|(refine a9d A E ?_ ?_<;>clear E<;>intro c E)|(refine a0g W A E ?_ ?_<;>clear A E<;>intro A E)|(refine a1i A E ?_ ?_<;>clear E<;>intro c E)|(refine a0l A E ?_ ?_<;>clear E<;>intro E)|(refine a2g A E N rfl rfl ?_;clear A E;intro i s2 E hat A)|(refine a0n A E N rfl rfl rfl ?_;clear A E;intro i s2 E hat A)|(refine a1h W A E N ?_;clear A E;intro A E)|exact a1j W A E|(refine And.intro ⟨rfl,by decide⟩ ?_)|(refine d2z ?_)|(refine ca (a5l A.ok rfl) ?_)|(refine a8u W A hbeg E ?_;clear A E;intro hB A E)|fail)
  have A0:=A
  have h5:=b9l (hbeg.trans hB)
  obtain⟨hadv,E⟩:=c6v ((f7v W.hl A0 (hbeg.trans hB)).symm.trans E) N
  have A1:=A0.d2i W.hl hadv
  clear A
  refine cxq (b4r A0.ok) ?_
  repeat' (first|refine a3a ⟨?_⟩|(refine a2k A ?_)|(refine a2l A ?_)|(refine a0d W A E ?_;clear A E;intro A E)|(refine a1f W A E ?_;clear A E;intro A E)|(refine a0o W A E ?_ ?_<;>clear A E<;>intro A E)|(refine a0t W A E ?_ ?_<;>clear A E<;>intro A E)|(refine a7x A E ?_ ?_<;>clear E<;>intro c E)|(refine a9d A E ?_ ?_<;>clear E<;>intro c E)|(refine a0g W A E ?_ ?_<;>clear A E<;>intro A E)|(refine a1i A E ?_ ?_<;>clear E<;>intro c E)|(refine a0l A E ?_ ?_<;>clear E<;>intro E)|(refine a2g A E N rfl rfl ?_;clear A E;intro i s2 E hat A)|(refine a0n A E N rfl rfl rfl ?_;clear A E;intro i s2 E hat A)|(refine a1h W A E N ?_;clear A E;intro A E)|exact a1j W A E|(refine And.intro ⟨rfl,by decide⟩ ?_)|(refine b4w (f8j W LS N A1.weak E ?_);clear E;intro r s1 A E;refine⟨_,_,rfl,rfl,?_⟩)|(obtain⟨gk,E⟩:=c6q N E;replace E:=f1p E)|(refine And.intro (a2r gk).1 ?_)|(refine⟨_,a4p,?_⟩)|fail)
  all_goals exact⟨_,_,(b0t E).symm,rfl⟩
theorem e7r (W:Wk fx F base l) (L:c6e fx F base l n) (LP:b0j fx F base l n a4b [] fun _ b=> .postfix_ b) (h:okS l s=true) (hb:Zf s):c8y fx F base l (i3e Q88.F.body) (g5x Q88.F.body) 13 Q88.F [.d (.bool true)] s bb (goE l (n+1) (.operand bb) s):=by
  refine c1t rfl fun N=>?_
  have A:=At.start h hb
  have E:a0c l (goE l n) (prog (.operand bb)) s=goE l (n+1) (.operand bb) s:=rfl
  generalize goE l (n+1) (.operand bb) s=o at E N⊢
  repeat' (first|refine a3a ⟨?_⟩|(refine a2k A ?_)|(refine a2l A ?_)|(refine a0d W A E ?_;clear A E;intro A E)|(refine a1f W A E ?_;clear A E;intro A E)|(refine a0o W A E ?_ ?_<;>clear A E<;>intro A E)|(refine a0t W A E ?_ ?_<;>clear A E<;>intro A E)|(refine a7x A E ?_ ?_<;>clear E<;>intro c E)|(refine a9d A E ?_ ?_<;>clear E<;>intro c E)|(refine a0g W A E ?_ ?_<;>clear A E<;>intro A E)|(refine a1i A E ?_ ?_<;>clear E<;>intro c E)|(refine a0l A E ?_ ?_<;>clear E<;>intro E)|(refine a2g A E N rfl rfl ?_;clear A E;intro i s2 E hat A)|(refine a0n A E N rfl rfl rfl ?_;clear A E;intro i s2 E hat A)|(refine a1h W A E N ?_;clear A E;intro A E)|exact a1j W A E|(refine And.intro ⟨rfl,by decide⟩ ?_)|(refine cxq (e4f A.ok) ?_)|(refine a8u W A (d5a W.hl) E ?_;clear A E;intro hB A E;replace E:=c0o (a7g N E))|(refine a0y W A E N (L.operand _ _ A.ok A.bc) rfl (fun _ _=>rfl) ?_;clear A E;intro r s1 G A E)|(refine a0y W A E N (LP _ _ A.ok A.bc) rfl (fun _ _=>rfl) ?_;clear A E;intro r s1 G A E)|(refine⟨_,a4p,?_⟩)|fail)
  all_goals exact⟨_,_,(b0t E).symm,rfl⟩
def g5n (fx:Nat->Option Obj) (F:Nat->Option a0v) (base:Nat->a2v) (l:List TokQ) (vf:VFn) (a:List V) (s:PS) (bb:Bool) (o:Option EX):Prop:=match o with
 |some (.ok r s1)=>g8q (pgL fx F) vf (.ptr 0 0::a) [QB l s bb,PR s] (.d (b3s l s r s1)) [QB l s1 bb,PR s1]
 |some (.bad c f e)=>g8i (pgL fx F) (a1q (pgL fx F) (base 0)) vf (.ptr 0 0::a) [QB l s bb,PR s] (c7z c f e)
 |none=>True
theorem f5v {vf:VFn} (hk:vf.keep=false) {a:List V}
 (h:o≠none->b0g 0 (.ptr 0 0::a) fun e=>WX (pgL fx F) (a1q (pgL fx F) (base 0)) [QB l s bb,PR s].length vf.body [] e [QB l s bb,PR s] (e5g vf.res [QB l s bb,PR s].length fun v H'=> ∃ r s1,o=some (.ok r s1)/\leftV l bb [] (fun r s'=> .d (b3s l s r s')) r s1=(v,H'.take [QB l s bb,PR s].length)) (d0b o)):g5n fx F base l vf a s bb o:=by
 cases o with
 |none=>trivial
 |some y=>
  rcases i1c (R:=fun v H'=> ∃ r s1,some y=some (EX.ok r s1)/\leftV l bb [] (fun r s'=> .d (b3s l s r s')) r s1=(v,H')) hk (h (by simp))with⟨r,H',h1,r',s',h2,h3⟩|⟨x,h1,c,f',e,h2,h3⟩
  ·cases h2
   cases h3
   exact h1
  ·cases h2
   subst h3
   exact h1
theorem i1y (W:Wk fx F base l) (L:c6e fx F base l n) (LP:b0j fx F base l n a4b [] fun _ b=> .postfix_ b) (h:okS l s=true) (hb:Zf s):g5n fx F base l Q88.F [.d (.bool false)] s bb (goE l (n+1) (.prefix_ bb) s):=by
  refine f5v rfl fun N=>?_
  have A:=At.start h hb
  have E:a0c l (goE l n) (prog (.prefix_ bb)) s=goE l (n+1) (.prefix_ bb) s:=rfl
  generalize goE l (n+1) (.prefix_ bb) s=o at E N⊢
  replace E:=c0o E
  repeat' (first|refine a3a ⟨?_⟩|(refine a2k A ?_)|(refine a2l A ?_)|(refine a0d W A E ?_;clear A E;intro A E)|(refine a1f W A E ?_;clear A E;intro A E)|(refine a0o W A E ?_ ?_<;>clear A E<;>intro A E)|(refine a0t W A E ?_ ?_<;>clear A E<;>intro A E)|(refine a7x A E ?_ ?_<;>clear E<;>intro c E)|(refine a9d A E ?_ ?_<;>clear E<;>intro c E)|(refine a0g W A E ?_ ?_<;>clear A E<;>intro A E)|(refine a1i A E ?_ ?_<;>clear E<;>intro c E)|(refine a0l A E ?_ ?_<;>clear E<;>intro E)|(refine a2g A E N rfl rfl ?_;clear A E;intro i s2 E hat A)|(refine a0n A E N rfl rfl rfl ?_;clear A E;intro i s2 E hat A)|(refine a1h W A E N ?_;clear A E;intro A E)|exact a1j W A E|(refine And.intro ⟨rfl,by decide⟩ ?_)|(refine a0y W A E N (L.operand _ _ A.ok A.bc) rfl (fun _ _=>rfl) ?_;clear A E;intro r s1 G A E)|(refine a0y W A E N (LP _ _ A.ok A.bc) rfl (fun _ _=>rfl) ?_;clear A E;intro r s1 G A E)|fail)
  all_goals exact⟨_,_,E.symm,rfl⟩
end
end Go.Vm.Px
namespace Go.Vm.Px
open Go.Vm.Lex (TokQ)
open Go.Vm.Pa hiding go
open Go.Vm.Ite
abbrev zP:List V:=[.d (.int .i64 0),.d (.str []),.d (.int .i64 0),.nils,.d (.int .i64 0),.d (.int .i64 0)]
abbrev i0a:List a0a:=[⟨some 66,.fadr 1 (.t 3),none⟩,⟨some 67,.ld none (.t 66),none⟩,⟨some 68,.bin .add (.t 67) (.c (.d (.str [58,58]))),none⟩,⟨some 69,.mv (.t 0),none⟩,⟨some 70,.call 67 [.t 69],none⟩,⟨some 71,.fld 1 none (.t 70),none⟩,⟨some 72,.bin .add (.t 68) (.t 71),none⟩,⟨some 73,.build zP [(0,1,.c (.d (.int .i64 54))),(1,1,.t 72)],none⟩,⟨some 4,.zbox zP,none⟩,⟨none,.st 6 (.t 4) (.t 73),none⟩]
section
variable {fx:Nat->Option Obj} {F:Nat->Option a0v} {l:List TokQ} {s s1:PS} {bb:Bool} {X:Hp} {base:Nat->a2v} {n:Nat} {o:Option EX} {b:Bool} {p:Int} {g:Q->PS->Option EX}
def i2a (t u:S) (r:D):Nat->V
 |0=> .ptr 3 1
 |1=> .d (.str t)
 |2=> .d (.str (t++[58,58]))
 |3=> .ptr 0 0
 |4=> .d r
 |5=> .d (.str u)
 |6=> .d (.str (t++[58,58]++u))
 |7=> .agg [.d (.int .i64 54),.d (.str (t++[58,58]++u)),.d (.int .i64 0),.nils,.d (.int .i64 0),.d (.int .i64 0)]
 |_=> .ptr 4 0
def dstP:Nat->Nat
 |8=>4
 |i=>66+i
def d9m (t u:S) (r:D) (e:Env):Nat->Env
 |0=>e
 |n+1=>(dstP n,i2a t u r n)::d9m t u r e n
def d6n (kk:Int) (t:S) (v f ee:D):Ob:= .box [.d (.int .i64 kk),.d (.str t),.d v,.d f,.d ee]
def hpP (l:List TokQ) (s s1:PS) (bb:Bool) (Z T:Ob) (x y:Bool):Hp:=QB l (if x then s1 else s) bb::PR (if x then s1 else s)::Z::T::(if y then[.box zP] else[])
theorem e3c {orc:Orc} {cx:Cx} {t:S} {q:TokQ} {e:Env} {Z:Ob} {kk:Int} {v f ee:D} (h0:a1l e 0= .ptr 0 0) (h3:a1l e 3= .ptr 3 0) (hl1:t.length+([58,58]:S).length<=9223372036854775807) (hl2:(t++[58,58]).length+q.t.length<=9223372036854775807)
 (i:Nat) (od:a0a) (x y:Bool) (hi:i < 9) (ho:i0a[i]? =some od) (hi4:i≠4) (hi8:i≠8):
 a0f cx orc od ⟨d9m t q.t (b2k q) e i,hpP l s s1 bb Z (d6n kk t v f ee) x y,2⟩=some ⟨d9m t q.t (b2k q) e (i+1),hpP l s s1 bb Z (d6n kk t v f ee) x y,2⟩:=by
 have hc:i=0\/i=1\/i=2\/i=3\/i=5\/i=6\/i=7:=om
 rcases hc with rfl|rfl|rfl|rfl|rfl|rfl|rfl
 ·cases ho
  simp only[a0f,a0s,evO,d9m,h3]
  rfl
 ·cases ho
  cases x<;>cases y<;>rfl
 ·cases ho
  show lay _ _ _ ((a8q .add (.d (.str t)) (.d (.str [58,58]))).map _)=_
  simp only[a8q,if_pos hl1]
  rfl
 ·cases ho
  show some (St.mk (a9r (some 69) (a1l e 0) _) _ _)=_
  rw[h0]
  rfl
 ·cases ho
  rfl
 ·cases ho
  show lay _ _ _ ((a8q .add (.d (.str (t++[58,58]))) (.d (.str q.t))).map _)=_
  simp only[a8q,if_pos hl2]
  rfl
 ·cases ho
  rfl
theorem h3c {orc:Orc} {cx:Cx} {t u:S} {r:D} {e:Env} {Z T:Ob} (x:Bool):a0f cx orc ⟨some 4,.zbox zP,none⟩ ⟨d9m t u r e 8,hpP l s s1 bb Z T x false,2⟩=some ⟨d9m t u r e 9,hpP l s s1 bb Z T x true,2⟩:=by
 cases x<;>rfl
theorem d3w (W:Wk fx F base l) (A:At l b p s) {Qx:Ex->Kn->Env->Hp->Prop} {kn:Kn} {e:Env} {Z:Ob} {kk:Int} {v f ee:D} {t:S} (h0:a1l e 0= .ptr 0 0) (h3:a1l e 3= .ptr 3 0) (ht:t.length<=1000000) {k:S->Pr} (E:a0c l g (.name k) s=o)
 (hQ:At l true p (adv s)->a0c l g (k (now l s).t) (adv s)=o->Qx .nrm [] (d9m t (now l s).t (b2k (now l s)) e 9) [QB l (adv s) bb,PR (adv s),Z,d6n kk t v f ee,.box [.d (.int .i64 54),.d (.str (t++[58,58]++(now l s).t)),.d (.int .i64 0),.nils,.d (.int .i64 0),.d (.int .i64 0)]]):
 WX (pgL fx F) (a1q (pgL fx F) (base 0)) 2 (.draw 9 i0a) kn e [QB l s bb,PR s,Z,d6n kk t v f ee] Qx (d0b o):=by
 have hl1:t.length+([58,58]:S).length<=9223372036854775807:=by simp only[List.length_cons,List.length_nil];omega
 have hlu:(now l s).t.length<=1000000:=W.hl.txt s.at_.toNat
 have hl2:(t++[58,58]).length+(now l s).t.length<=9223372036854775807:=by simp only[List.length_append,List.length_cons,List.length_nil];omega
 have hrun:=fun(i:Nat) (od:a0a) (x y:Bool) hi ho h4 h8=>e3c (l:=l) (s:=s) (s1:=adv s) (bb:=bb) (orc:=evF (pgL fx F)) (cx:=(pgL fx F).toCx) (t:=t) (q:=now l s) (e:=e) (Z:=Z) (kk:=kk) (v:=v) (f:=f) (ee:=ee) h0 h3 hl1 hl2 i od x y hi ho h4 h8
 simp only[a0c]at E
 cases c:decide ((now l s).k=1)with
 |true=>
  rw[c]at E
  have hcall:∀ y,a0f (pgL fx F).toCx (evF (pgL fx F)) ⟨some 70,.call 67 [.t 69],none⟩ ⟨d9m t (now l s).t (b2k (now l s)) e 4,hpP l s (adv s) bb Z (d6n kk t v f ee) false y,2⟩=some ⟨d9m t (now l s).t (b2k (now l s)) e 5,hpP l s (adv s) bb Z (d6n kk t v f ee) true y,2⟩:=by
   intro y
   have:=(b6t (X:=Z::d6n kk t v f ee::(if y then[.box zP] else[])) (bb:=bb) W.hF W.hb A.ok c).1 rfl
   show lay _ _ _ (evF (pgL fx F) 67 [.ptr 0 0] (QB l s bb::PR s::Z::d6n kk t v f ee::(if y then[.box zP] else[])))=_
   rw[this]
   rfl
  have D:e3v (pgL fx F).toCx (evF (pgL fx F)) 9 i0a ⟨e,[QB l s bb,PR s,Z,d6n kk t v f ee],2⟩ 4 8 (d9m t (now l s).t (b2k (now l s)) e) (i2a t (now l s).t (b2k (now l s))) (hpP l s (adv s) bb Z (d6n kk t v f ee)):=by
   refine⟨by decide,by decide,by decide,by decide,rfl,rfl,fun i od hi ho=>?_,fun i od x y hi ho h4 h8=>?_⟩
   ·have hc:i=0\/i=1\/i=2\/i=3\/i=4\/i=5\/i=6\/i=7\/i=8:=om
    rcases hc with rfl|rfl|rfl|rfl|rfl|rfl|rfl|rfl|rfl<;>cases ho<;>rfl
   ·by_cases e4:i=4
    ·subst e4
     cases ho
     rw[h4 rfl,show(y||decide (4=8))=y by simp]
     exact hcall y
    ·by_cases e8:i=8
     ·subst e8
      cases ho
      rw[h8 rfl,show(x||decide (8=4))=x by simp]
      exact h3c x
     ·rw[decide_eq_false e4,decide_eq_false e8,Bool.or_false,Bool.or_false]
      exact hrun i od x y hi ho e4 e8
  refine⟨fun _=> .inl ⟨.nrm,[],_,_,?_,a3w.nil _,hQ (A.adv W.hl (by have:=of_decide_eq_true c;omega)) E⟩⟩
  have q0:=hrun 0 _ false false (by decide) rfl (by decide) (by decide)
  have q1:=hrun 1 _ false false (by decide) rfl (by decide) (by decide)
  have q2:=hrun 2 _ false false (by decide) rfl (by decide) (by decide)
  have q3:=hrun 3 _ false false (by decide) rfl (by decide) (by decide)
  have q5:=hrun 5 _ true false (by decide) rfl (by decide) (by decide)
  have q6:=hrun 6 _ true false (by decide) rfl (by decide) (by decide)
  have q7:=hrun 7 _ true false (by decide) rfl (by decide) (by decide)
  have q8:=h3c (l:=l) (s:=s) (s1:=adv s) (bb:=bb) (orc:=evF (pgL fx F)) (cx:=(pgL fx F).toCx) (t:=t) (u:=(now l s).t) (r:=b2k (now l s)) (e:=e) (Z:=Z) (T:=d6n kk t v f ee) true
  have hops:a0u (pgL fx F).toCx (evF (pgL fx F)) i0a ⟨e,[QB l s bb,PR s,Z,d6n kk t v f ee],2⟩=some ⟨d9m t (now l s).t (b2k (now l s)) e 9,[QB l (adv s) bb,PR (adv s),Z,d6n kk t v f ee,.box [.d (.int .i64 54),.d (.str (t++[58,58]++(now l s).t)),.d (.int .i64 0),.nils,.d (.int .i64 0),.d (.int .i64 0)]],2⟩:=by
   show(a0f _ _ _ ⟨d9m t (now l s).t (b2k (now l s)) e 0,hpP l s (adv s) bb Z (d6n kk t v f ee) false false,2⟩).bind _=_
   rw[q0,Option.bind_some]
   show(a0f _ _ _ _).bind _=_
   rw[q1,Option.bind_some]
   show(a0f _ _ _ _).bind _=_
   rw[q2,Option.bind_some]
   show(a0f _ _ _ _).bind _=_
   rw[q3,Option.bind_some]
   show(a0f _ _ _ _).bind _=_
   rw[hcall false,Option.bind_some]
   show(a0f _ _ _ _).bind _=_
   rw[q5,Option.bind_some]
   show(a0f _ _ _ _).bind _=_
   rw[q6,Option.bind_some]
   show(a0f _ _ _ _).bind _=_
   rw[q7,Option.bind_some]
   show(a0f _ _ _ _).bind _=_
   rw[q8,Option.bind_some]
   rfl
  show(b3o _ _ _ _ _).map _=_
  rw[a3v.2 ⟨hops,.inr (.inr (.inl ⟨4,8,_,_,_,D⟩))⟩]
  rfl
 |false=>
  rw[c]at E
  refine⟨fun _=> .inr ⟨_,.drawZ (d:=4) (a:=8) (ta:=4) (z:=zP) (od:=⟨some 70,.call 67 [.t 69],none⟩) (cl:=fun i=>decide (i < 4)||decide (i=8)) (ε:=fun i=>if i < 4 then d9m t [] (b2k default) e i else if i < 9 then d9m t [] (b2k default) e 4 else(4,.ptr 4 0)::d9m t [] (b2k default) e 4) (val:=fun i=>i2a t [] (b2k default) i) (Hz:=fun y=>if y then[QB l s bb,PR s,Z,d6n kk t v f ee]++[.box zP] else[QB l s bb,PR s,Z,d6n kk t v f ee]) ⟨by decide,by decide,by decide,rfl,rfl,rfl,rfl,rfl,fun _=>rfl,fun i od hi ho hc h4=>?_,fun i od hi ho=>?_,fun i od hi ho hc h8=>?_,fun i od y hi ho hc h8=>?_,rfl⟩ fun y=>?_,⟨_,_,_,E.symm,rfl⟩⟩⟩
  ·have hcc:i=5\/i=6\/i=7:=by
    simp only[Bool.or_eq_false_iff,decide_eq_false_iff_not]at hc
    omega
   rcases hcc with rfl|rfl|rfl<;>cases ho
   ·exact⟨70,by decide,4,_,by decide,rfl,rfl,rfl⟩
   ·exact⟨71,by decide,5,_,by decide,rfl,rfl,rfl⟩
   ·exact⟨72,by decide,6,_,by decide,rfl,rfl,rfl⟩
  ·have hcc:i=0\/i=1\/i=2\/i=3\/i=4\/i=5\/i=6\/i=7\/i=8:=om
   rcases hcc with rfl|rfl|rfl|rfl|rfl|rfl|rfl|rfl|rfl<;>cases ho<;>rfl
  ·have hcc:i=0\/i=1\/i=2\/i=3:=by
    simp only[Bool.or_eq_true,decide_eq_true_eq]at hc
    omega
   rcases hcc with rfl|rfl|rfl|rfl<;>cases ho<;>rfl
  ·have hcc:i=0\/i=1\/i=2\/i=3:=by
    simp only[Bool.or_eq_true,decide_eq_true_eq]at hc
    omega
   have hr:=e3c (l:=l) (s:=s) (s1:=adv s) (bb:=bb) (orc:=evF (pgL fx F)) (cx:=(pgL fx F).toCx) (t:=t) (q:=default) (e:=e) (Z:=Z) (kk:=kk) (v:=v) (f:=f) (ee:=ee) h0 h3 hl1 (by show(t++[58,58]).length+0<=_;simp only[List.length_append,List.length_cons,List.length_nil];omega) i od false y om ho om om
   rcases hcc with rfl|rfl|rfl|rfl<;>cases y<;>exact hr
  ·have hd:=(b6t (X:=Z::d6n kk t v f ee::(if y then[.box zP] else[])) (bb:=bb) W.hF W.hb A.ok c).2 rfl
   cases y<;>exact hd
end
end Go.Vm.Px
namespace Go.Vm.Px
open Go.Vm.Lex (TokQ)
open Go.Vm.Pa hiding go
open Go.Vm.Ite
set_option maxHeartbeats 4000000
section
variable {fx:Nat->Option Obj} {F:Nat->Option a0v} {l:List TokQ} {s s1:PS} {bb:Bool} {X:Hp} {base:Nat->a2v} {n:Nat} {o:Option EX} {b:Bool} {p:Int} {g:Q->PS->Option EX} {K:V->Hp->Prop}
theorem i2k (A:At l true p s) {m:N} {k:Int->Pr} (E:a0c l g (.node p m k) s=o) (N:o≠none) {Y:Go.Vm.D} (hY:Y=m.D 0 0) {f:Int} (hf:f=(l.getD p.toNat default).f)
 (h:∀ i s1,a0c l g (k i) s1=o->s1.at_=s.at_->At l true p s1->K (.d (c5i i f (l.getD (w (s1.at_ - 1)).toNat default).e)) (QB l s1 bb::PR s1::X)):
 ∃ r H',evF (pgL fx F) a6l [.ptr 0 0,.d Y,.d (.int .i64 f)] (QB l s bb::PR s::X)=some (r,H')/\K r H':=by
 subst hY;subst hf
 simp only[a0c]at E
 cases c:a2y l p m s with
 |none=>rw[c]at E;exact absurd E.symm N
 |some q=>
  obtain⟨i,s1⟩:=q
  rw[c]at E
  obtain⟨ha,hn,hn2,rfl,rfl⟩:=b6s c (A.lt rfl)
  refine⟨_,_,h2d ha hn hn2 m 0 0 _,?_⟩
  have:=h _ _ E rfl (A.same rfl c2w.rfl')
  exact this
theorem d9j:a1w l 112 s=(decide ((now l s).k=1)||decide ((now l s).k=3)||isS l s [95]||isS l s [116,114,117,101]||isS l s [102,97,108,115,101]||isS l s [45]):=by
 simp[a1w,anyS,h3q,Bool.or_assoc]
theorem i4h (W:Wk fx F base l) (L:c6e fx F base l n) (h:okS l s=true) (hb:Zf s):c8y fx F base l (i0y Q39.F.body) (g4v Q39.F.body) 33 Q39.F [] s bb (goE l (n+1) .pattern s):=by
 refine c1t rfl fun N=>?_
 have A:=At.start h hb
 have E:a0c l (goE l n) (prog .pattern) s=goE l (n+1) .pattern s:=rfl
 generalize goE l (n+1) .pattern s=o at E N⊢
 replace E:=c0o E
 cases c1:decide ((now l s).k=1)with
 |true=>
  have c3:decide ((now l s).k=3)=false:=decide_eq_false (by have:=of_decide_eq_true c1;omega)
  have hB0:true=a1w l 112 s:=by simp[d9j,c1]
  repeat' (first|refine a3a ⟨?_⟩|(refine a2k A ?_)|(refine a2l A ?_)|(refine a0d W A E ?_;clear A E;intro A E)|(refine a1f W A E ?_;clear A E;intro A E)|(refine a0o W A E ?_ ?_<;>clear A E<;>intro A E)|(refine a0t W A E ?_ ?_<;>clear A E<;>intro A E)|(refine a7x A E ?_ ?_<;>clear E<;>intro c E)|(refine a9d A E ?_ ?_<;>clear E<;>intro c E)|(refine a0g W A E ?_ ?_<;>clear A E<;>intro A E)|(refine a1i A E ?_ ?_<;>clear E<;>intro c E)|(refine a0l A E ?_ ?_<;>clear E<;>intro E)|(refine a2g A E N rfl rfl ?_;clear A E;intro i s2 E hat A)|(refine a0n A E N rfl rfl rfl ?_;clear A E;intro i s2 E hat A)|(refine a1h W A E N ?_;clear A E;intro A E)|exact a1j W A E|(refine And.intro ⟨rfl,by decide⟩ ?_)|(refine a8u W A hB0 E ?_;clear A E;intro hB A E)|fail)
  replace E:=e6n W.hl A hB N E
  unfold g1d at E
  obtain⟨hadv,E⟩:=c6v E N
  have e0:now l (a3t s)=now l s:=rfl
  simp only[e0]at E
  replace A:=A.d2i W.hl hadv
  simp only[c1,c3]at E
  repeat' (first|refine a3a ⟨?_⟩|(refine a2k A ?_)|(refine a2l A ?_)|(refine a0d W A E ?_;clear A E;intro A E)|(refine a1f W A E ?_;clear A E;intro A E)|(refine a0o W A E ?_ ?_<;>clear A E<;>intro A E)|(refine a0t W A E ?_ ?_<;>clear A E<;>intro A E)|(refine a7x A E ?_ ?_<;>clear E<;>intro c E)|(refine a9d A E ?_ ?_<;>clear E<;>intro c E)|(refine a0g W A E ?_ ?_<;>clear A E<;>intro A E)|(refine a1i A E ?_ ?_<;>clear E<;>intro c E)|(refine a0l A E ?_ ?_<;>clear E<;>intro E)|(refine a2g A E N rfl rfl ?_;clear A E;intro i s2 E hat A)|(refine a0n A E N rfl rfl rfl ?_;clear A E;intro i s2 E hat A)|(refine a1h W A E N ?_;clear A E;intro A E)|exact a1j W A E|(refine And.intro ⟨rfl,by decide⟩ ?_)|(refine a0y W A E N (L.pat _ _ A.ok A.bc) rfl (fun _ _=>rfl) ?_;clear A E;intro r s1 G A E)|(refine d3w W A rfl rfl (W.hl.txt _) E ?_;clear A E;intro A E)|(refine⟨_,a4p,?_⟩)|fail)
  all_goals exact⟨_,_,(b0t E).symm,rfl⟩
 |false=>
  cases c3:decide ((now l s).k=3)with
  |true=>
   have hB0:true=a1w l 112 s:=by simp[d9j,c3]
   repeat' (first|refine a3a ⟨?_⟩|(refine a2k A ?_)|(refine a2l A ?_)|(refine a0d W A E ?_;clear A E;intro A E)|(refine a1f W A E ?_;clear A E;intro A E)|(refine a0o W A E ?_ ?_<;>clear A E<;>intro A E)|(refine a0t W A E ?_ ?_<;>clear A E<;>intro A E)|(refine a7x A E ?_ ?_<;>clear E<;>intro c E)|(refine a9d A E ?_ ?_<;>clear E<;>intro c E)|(refine a0g W A E ?_ ?_<;>clear A E<;>intro A E)|(refine a1i A E ?_ ?_<;>clear E<;>intro c E)|(refine a0l A E ?_ ?_<;>clear E<;>intro E)|(refine a2g A E N rfl rfl ?_;clear A E;intro i s2 E hat A)|(refine a0n A E N rfl rfl rfl ?_;clear A E;intro i s2 E hat A)|(refine a1h W A E N ?_;clear A E;intro A E)|exact a1j W A E|(refine And.intro ⟨rfl,by decide⟩ ?_)|(refine a8u W A hB0 E ?_;clear A E;intro hB A E)|fail)
   replace E:=e6n W.hl A hB N E
   unfold g1d at E
   obtain⟨hadv,E⟩:=c6v E N
   have e0:now l (a3t s)=now l s:=rfl
   simp only[e0]at E
   replace A:=A.d2i W.hl hadv
   simp only[c3]at E
   repeat' (first|refine a3a ⟨?_⟩|(refine a2k A ?_)|(refine a2l A ?_)|(refine a0d W A E ?_;clear A E;intro A E)|(refine a1f W A E ?_;clear A E;intro A E)|(refine a0o W A E ?_ ?_<;>clear A E<;>intro A E)|(refine a0t W A E ?_ ?_<;>clear A E<;>intro A E)|(refine a7x A E ?_ ?_<;>clear E<;>intro c E)|(refine a9d A E ?_ ?_<;>clear E<;>intro c E)|(refine a0g W A E ?_ ?_<;>clear A E<;>intro A E)|(refine a1i A E ?_ ?_<;>clear E<;>intro c E)|(refine a0l A E ?_ ?_<;>clear E<;>intro E)|(refine a2g A E N rfl rfl ?_;clear A E;intro i s2 E hat A)|(refine a0n A E N rfl rfl rfl ?_;clear A E;intro i s2 E hat A)|(refine a1h W A E N ?_;clear A E;intro A E)|exact a1j W A E|(refine And.intro ⟨rfl,by decide⟩ ?_)|(refine a0y W A E N (L.pat _ _ A.ok A.bc) rfl (fun _ _=>rfl) ?_;clear A E;intro r s1 G A E)|(refine d3w W A rfl rfl (W.hl.txt _) E ?_;clear A E;intro A E)|(refine⟨_,a4p,?_⟩)|fail)
   all_goals exact⟨_,_,(b0t E).symm,rfl⟩
  |false=>
   cases u1:isS l s [95] with
   |true=>
    have ht:=e0k u1
    have d2:decide ((now l s).t=[45])=false:=by rw[ht];decide
    have d3:decide ((now l s).t=[116,114,117,101])=false:=by rw[ht];decide
    have d4:decide ((now l s).t=[102,97,108,115,101])=false:=by rw[ht];decide
    have hB0:true=a1w l 112 s:=by simp[d9j,u1]
    repeat' (first|refine a3a ⟨?_⟩|(refine a2k A ?_)|(refine a2l A ?_)|(refine a0d W A E ?_;clear A E;intro A E)|(refine a1f W A E ?_;clear A E;intro A E)|(refine a0o W A E ?_ ?_<;>clear A E<;>intro A E)|(refine a0t W A E ?_ ?_<;>clear A E<;>intro A E)|(refine a7x A E ?_ ?_<;>clear E<;>intro c E)|(refine a9d A E ?_ ?_<;>clear E<;>intro c E)|(refine a0g W A E ?_ ?_<;>clear A E<;>intro A E)|(refine a1i A E ?_ ?_<;>clear E<;>intro c E)|(refine a0l A E ?_ ?_<;>clear E<;>intro E)|(refine a2g A E N rfl rfl ?_;clear A E;intro i s2 E hat A)|(refine a0n A E N rfl rfl rfl ?_;clear A E;intro i s2 E hat A)|(refine a1h W A E N ?_;clear A E;intro A E)|exact a1j W A E|(refine And.intro ⟨rfl,by decide⟩ ?_)|(refine ca (a5l A.ok u1) ?_)|(refine a8u W A hB0 E ?_;clear A E;intro hB A E)|fail)
    replace E:=e6n W.hl A hB N E
    unfold g1d at E
    obtain⟨hadv,E⟩:=c6v E N
    have e0:now l (a3t s)=now l s:=rfl
    simp only[e0]at E
    replace A:=A.d2i W.hl hadv
    simp only[c1,c3,d2,d3,d4]at E
    repeat' (first|refine a3a ⟨?_⟩|(refine a2k A ?_)|(refine a2l A ?_)|(refine a0d W A E ?_;clear A E;intro A E)|(refine a1f W A E ?_;clear A E;intro A E)|(refine a0o W A E ?_ ?_<;>clear A E<;>intro A E)|(refine a0t W A E ?_ ?_<;>clear A E<;>intro A E)|(refine a7x A E ?_ ?_<;>clear E<;>intro c E)|(refine a9d A E ?_ ?_<;>clear E<;>intro c E)|(refine a0g W A E ?_ ?_<;>clear A E<;>intro A E)|(refine a1i A E ?_ ?_<;>clear E<;>intro c E)|(refine a0l A E ?_ ?_<;>clear E<;>intro E)|(refine a2g A E N rfl rfl ?_;clear A E;intro i s2 E hat A)|(refine a0n A E N rfl rfl rfl ?_;clear A E;intro i s2 E hat A)|(refine a1h W A E N ?_;clear A E;intro A E)|exact a1j W A E|(refine And.intro ⟨rfl,by decide⟩ ?_)|(refine a0y W A E N (L.pat _ _ A.ok A.bc) rfl (fun _ _=>rfl) ?_;clear A E;intro r s1 G A E)|(refine d3w W A rfl rfl (W.hl.txt _) E ?_;clear A E;intro A E)|(refine⟨_,a4p,?_⟩)|fail)
    all_goals exact⟨_,_,(b0t E).symm,rfl⟩
   |false=>
    cases u2:isS l s [45] with
    |true=>
     have ht:=e0k u2
     have d2:decide ((now l s).t=[45])=true:=by rw[ht];decide
     have d3:decide ((now l s).t=[116,114,117,101])=false:=by rw[ht];decide
     have d4:decide ((now l s).t=[102,97,108,115,101])=false:=by rw[ht];decide
     have hB0:true=a1w l 112 s:=by simp[d9j,u1,u2]
     repeat' (first|refine a3a ⟨?_⟩|(refine a2k A ?_)|(refine a2l A ?_)|(refine a0d W A E ?_;clear A E;intro A E)|(refine a1f W A E ?_;clear A E;intro A E)|(refine a0o W A E ?_ ?_<;>clear A E<;>intro A E)|(refine a0t W A E ?_ ?_<;>clear A E<;>intro A E)|(refine a7x A E ?_ ?_<;>clear E<;>intro c E)|(refine a9d A E ?_ ?_<;>clear E<;>intro c E)|(refine a0g W A E ?_ ?_<;>clear A E<;>intro A E)|(refine a1i A E ?_ ?_<;>clear E<;>intro c E)|(refine a0l A E ?_ ?_<;>clear E<;>intro E)|(refine a2g A E N rfl rfl ?_;clear A E;intro i s2 E hat A)|(refine a0n A E N rfl rfl rfl ?_;clear A E;intro i s2 E hat A)|(refine a1h W A E N ?_;clear A E;intro A E)|exact a1j W A E|(refine And.intro ⟨rfl,by decide⟩ ?_)|(refine ca (a5l A.ok u1) ?_)|(refine ca (a5l A.ok u2) ?_)|(refine a8u W A hB0 E ?_;clear A E;intro hB A E)|fail)
     replace E:=e6n W.hl A hB N E
     unfold g1d at E
     obtain⟨hadv,E⟩:=c6v E N
     have e0:now l (a3t s)=now l s:=rfl
     simp only[e0]at E
     replace A:=A.d2i W.hl hadv
     simp only[c1,c3,d2]at E
     cases c9:decide ((now l (adv (a3t s))).k=3)with
     |false=>
      replace E:=g2e E c9
      have hc:(!decide ((now l (adv (a3t s))).k=3))=true:=by rw[c9];rfl
      repeat' (first|refine a3a ⟨?_⟩|(refine a2k A ?_)|(refine a2l A ?_)|(refine a0d W A E ?_;clear A E;intro A E)|(refine a1f W A E ?_;clear A E;intro A E)|(refine a0o W A E ?_ ?_<;>clear A E<;>intro A E)|(refine a0t W A E ?_ ?_<;>clear A E<;>intro A E)|(refine a7x A E ?_ ?_<;>clear E<;>intro c E)|(refine a9d A E ?_ ?_<;>clear E<;>intro c E)|(refine a0g W A E ?_ ?_<;>clear A E<;>intro A E)|(refine a1i A E ?_ ?_<;>clear E<;>intro c E)|(refine a0l A E ?_ ?_<;>clear E<;>intro E)|(refine a2g A E N rfl rfl ?_;clear A E;intro i s2 E hat A)|(refine a0n A E N rfl rfl rfl ?_;clear A E;intro i s2 E hat A)|(refine a1h W A E N ?_;clear A E;intro A E)|exact a1j W A E|(refine And.intro ⟨rfl,by decide⟩ ?_)|fail)
     |true=>
      replace E:=g2e E c9
      have hc:(!decide ((now l (adv (a3t s))).k=3))=false:=by rw[c9];rfl
      obtain⟨hadv2,E⟩:=c6v (i1l E) N
      have A2:=A.d2i W.hl hadv2
      repeat' (first|refine a3a ⟨?_⟩|(refine a2k A ?_)|(refine a2l A ?_)|(refine a0d W A E ?_;clear A E;intro A E)|(refine a1f W A E ?_;clear A E;intro A E)|(refine a0o W A E ?_ ?_<;>clear A E<;>intro A E)|(refine a0t W A E ?_ ?_<;>clear A E<;>intro A E)|(refine a7x A E ?_ ?_<;>clear E<;>intro c E)|(refine a9d A E ?_ ?_<;>clear E<;>intro c E)|(refine a0g W A E ?_ ?_<;>clear A E<;>intro A E)|(refine a1i A E ?_ ?_<;>clear E<;>intro c E)|(refine a0l A E ?_ ?_<;>clear E<;>intro E)|(refine a2g A E N rfl rfl ?_;clear A E;intro i s2 E hat A)|(refine a0n A E N rfl rfl rfl ?_;clear A E;intro i s2 E hat A)|(refine a1h W A E N ?_;clear A E;intro A E)|exact a1j W A E|(refine And.intro ⟨rfl,by decide⟩ ?_)|(refine f9t (a0r 2 (by decide) (by decide) ?_))|(refine ca (b4r A.ok) ?_)|(refine i2k A2 E N rfl rfl ?_;clear A E;intro i s2 E hat A)|(refine⟨_,a4p,?_⟩)|fail)
      all_goals exact⟨_,_,(b0t E).symm,rfl⟩
    |false=>
     cases u3:isS l s [116,114,117,101] with
     |true=>
      have ht:=e0k u3
      have d2:decide ((now l s).t=[45])=false:=by rw[ht];decide
      have d3:decide ((now l s).t=[116,114,117,101])=true:=by rw[ht];decide
      have d4:decide ((now l s).t=[102,97,108,115,101])=false:=by rw[ht];decide
      have hB0:true=a1w l 112 s:=by simp[d9j,u1,u2,u3]
      repeat' (first|refine a3a ⟨?_⟩|(refine a2k A ?_)|(refine a2l A ?_)|(refine a0d W A E ?_;clear A E;intro A E)|(refine a1f W A E ?_;clear A E;intro A E)|(refine a0o W A E ?_ ?_<;>clear A E<;>intro A E)|(refine a0t W A E ?_ ?_<;>clear A E<;>intro A E)|(refine a7x A E ?_ ?_<;>clear E<;>intro c E)|(refine a9d A E ?_ ?_<;>clear E<;>intro c E)|(refine a0g W A E ?_ ?_<;>clear A E<;>intro A E)|(refine a1i A E ?_ ?_<;>clear E<;>intro c E)|(refine a0l A E ?_ ?_<;>clear E<;>intro E)|(refine a2g A E N rfl rfl ?_;clear A E;intro i s2 E hat A)|(refine a0n A E N rfl rfl rfl ?_;clear A E;intro i s2 E hat A)|(refine a1h W A E N ?_;clear A E;intro A E)|exact a1j W A E|(refine And.intro ⟨rfl,by decide⟩ ?_)|(refine ca (a5l A.ok u1) ?_)|(refine ca (a5l A.ok u2) ?_)|(refine ca (a5l A.ok u3) ?_)|(refine a8u W A hB0 E ?_;clear A E;intro hB A E)|fail)
      replace E:=e6n W.hl A hB N E
      unfold g1d at E
      obtain⟨hadv,E⟩:=c6v E N
      have e0:now l (a3t s)=now l s:=rfl
      simp only[e0]at E
      replace A:=A.d2i W.hl hadv
      simp only[c1,c3,d2,d3]at E
      repeat' (first|refine a3a ⟨?_⟩|(refine a2k A ?_)|(refine a2l A ?_)|(refine a0d W A E ?_;clear A E;intro A E)|(refine a1f W A E ?_;clear A E;intro A E)|(refine a0o W A E ?_ ?_<;>clear A E<;>intro A E)|(refine a0t W A E ?_ ?_<;>clear A E<;>intro A E)|(refine a7x A E ?_ ?_<;>clear E<;>intro c E)|(refine a9d A E ?_ ?_<;>clear E<;>intro c E)|(refine a0g W A E ?_ ?_<;>clear A E<;>intro A E)|(refine a1i A E ?_ ?_<;>clear E<;>intro c E)|(refine a0l A E ?_ ?_<;>clear E<;>intro E)|(refine a2g A E N rfl rfl ?_;clear A E;intro i s2 E hat A)|(refine a0n A E N rfl rfl rfl ?_;clear A E;intro i s2 E hat A)|(refine a1h W A E N ?_;clear A E;intro A E)|exact a1j W A E|(refine And.intro ⟨rfl,by decide⟩ ?_)|(refine a0y W A E N (L.pat _ _ A.ok A.bc) rfl (fun _ _=>rfl) ?_;clear A E;intro r s1 G A E)|(refine d3w W A rfl rfl (W.hl.txt _) E ?_;clear A E;intro A E)|(refine⟨_,a4p,?_⟩)|fail)
      all_goals exact⟨_,_,(b0t E).symm,rfl⟩
     |false=>
      cases u4:isS l s [102,97,108,115,101] with
      |true=>
       have ht:=e0k u4
       have d2:decide ((now l s).t=[45])=false:=by rw[ht];decide
       have d3:decide ((now l s).t=[116,114,117,101])=false:=by rw[ht];decide
       have d4:decide ((now l s).t=[102,97,108,115,101])=true:=by rw[ht];decide
       have hB0:true=a1w l 112 s:=by simp[d9j,u1,u2,u3,u4]
       repeat' (first|refine a3a ⟨?_⟩|(refine a2k A ?_)|(refine a2l A ?_)|(refine a0d W A E ?_;clear A E;intro A E)|(refine a1f W A E ?_;clear A E;intro A E)|(refine a0o W A E ?_ ?_<;>clear A E<;>intro A E)|(refine a0t W A E ?_ ?_<;>clear A E<;>intro A E)|(refine a7x A E ?_ ?_<;>clear E<;>intro c E)|(refine a9d A E ?_ ?_<;>clear E<;>intro c E)|(refine a0g W A E ?_ ?_<;>clear A E<;>intro A E)|(refine a1i A E ?_ ?_<;>clear E<;>intro c E)|(refine a0l A E ?_ ?_<;>clear E<;>intro E)|(refine a2g A E N rfl rfl ?_;clear A E;intro i s2 E hat A)|(refine a0n A E N rfl rfl rfl ?_;clear A E;intro i s2 E hat A)|(refine a1h W A E N ?_;clear A E;intro A E)|exact a1j W A E|(refine And.intro ⟨rfl,by decide⟩ ?_)|(refine ca (a5l A.ok u1) ?_)|(refine ca (a5l A.ok u2) ?_)|(refine ca (a5l A.ok u3) ?_)|(refine ca (a5l A.ok u4) ?_)|(refine a8u W A hB0 E ?_;clear A E;intro hB A E)|fail)
       replace E:=e6n W.hl A hB N E
       unfold g1d at E
       obtain⟨hadv,E⟩:=c6v E N
       have e0:now l (a3t s)=now l s:=rfl
       simp only[e0]at E
       replace A:=A.d2i W.hl hadv
       simp only[c1,c3,d2,d3,d4]at E
       repeat' (first|refine a3a ⟨?_⟩|(refine a2k A ?_)|(refine a2l A ?_)|(refine a0d W A E ?_;clear A E;intro A E)|(refine a1f W A E ?_;clear A E;intro A E)|(refine a0o W A E ?_ ?_<;>clear A E<;>intro A E)|(refine a0t W A E ?_ ?_<;>clear A E<;>intro A E)|(refine a7x A E ?_ ?_<;>clear E<;>intro c E)|(refine a9d A E ?_ ?_<;>clear E<;>intro c E)|(refine a0g W A E ?_ ?_<;>clear A E<;>intro A E)|(refine a1i A E ?_ ?_<;>clear E<;>intro c E)|(refine a0l A E ?_ ?_<;>clear E<;>intro E)|(refine a2g A E N rfl rfl ?_;clear A E;intro i s2 E hat A)|(refine a0n A E N rfl rfl rfl ?_;clear A E;intro i s2 E hat A)|(refine a1h W A E N ?_;clear A E;intro A E)|exact a1j W A E|(refine And.intro ⟨rfl,by decide⟩ ?_)|(refine a0y W A E N (L.pat _ _ A.ok A.bc) rfl (fun _ _=>rfl) ?_;clear A E;intro r s1 G A E)|(refine d3w W A rfl rfl (W.hl.txt _) E ?_;clear A E;intro A E)|(refine⟨_,a4p,?_⟩)|fail)
       all_goals exact⟨_,_,(b0t E).symm,rfl⟩
      |false=>
       have hB0:a1w l 112 s=false:=by simp[d9j,c1,c3,u1,u2,u3,u4]
       repeat' (first|refine a3a ⟨?_⟩|(refine a2k A ?_)|(refine a2l A ?_)|(refine a0d W A E ?_;clear A E;intro A E)|(refine a1f W A E ?_;clear A E;intro A E)|(refine a0o W A E ?_ ?_<;>clear A E<;>intro A E)|(refine a0t W A E ?_ ?_<;>clear A E<;>intro A E)|(refine a7x A E ?_ ?_<;>clear E<;>intro c E)|(refine a9d A E ?_ ?_<;>clear E<;>intro c E)|(refine a0g W A E ?_ ?_<;>clear A E<;>intro A E)|(refine a1i A E ?_ ?_<;>clear E<;>intro c E)|(refine a0l A E ?_ ?_<;>clear E<;>intro E)|(refine a2g A E N rfl rfl ?_;clear A E;intro i s2 E hat A)|(refine a0n A E N rfl rfl rfl ?_;clear A E;intro i s2 E hat A)|(refine a1h W A E N ?_;clear A E;intro A E)|exact a1j W A E|(refine And.intro ⟨rfl,by decide⟩ ?_)|(refine ca (a5l A.ok u1) ?_)|(refine ca (a5l A.ok u2) ?_)|(refine ca (a5l A.ok u3) ?_)|(refine ca (a5l A.ok u4) ?_)|(refine a8u W A hB0.symm E ?_;clear A E;intro hB A E;exact absurd (hB0.symm.trans hB) (by decide))|fail)
end
end Go.Vm.Px
namespace Go.Vm.Px
open Go.Vm.Lex (TokQ)
open Go.Vm.Pa hiding go
open Go.Vm.Ite
open Go.Proofs
set_option maxHeartbeats 2000000
def QBr (l:List TokQ) (s:PS) (b:Bool) (r:Nat):Ob:= .box [.d (.sl (l.map b2k)),.d (.int .i64 s.at_),.row r s.n,.d (.int .i64 s.deep),.d (.bool b)]
structure AtP (H:Hp) (p r:Nat) (l:List TokQ) (s:PS) (bb:Bool):Prop where
 lt:p < r
 box:H[p]? =some (QBr l s bb r)
 row:H[r]? =some (PR s)
theorem f8z {a b:TokQ} (h:b2k a=b2k b):a=b:=by
 obtain⟨k,t,v,f,e⟩:=a
 obtain⟨k',t',v',f',e'⟩:=b
 simp only[b2k,D.agg.injEq,List.cons.injEq,D.int.injEq,D.str.injEq,true_and,and_true]at h
 obtain⟨rfl,rfl,rfl,h1,h2⟩:=h
 have h1:f=f':=om
 have h2:e=e':=om
 rw[h1,h2]
theorem AtP.uniq {H:Hp} {p r r':Nat} {l l':List TokQ} {s s':PS} {bb bb':Bool} (h:AtP H p r l s bb) (h':AtP H p r' l' s' bb') (hz:Zf s) (hz':Zf s'):r=r'/\l=l'/\s=s'/\bb=bb':=by
 have e:=h.box.symm.trans h'.box
 simp only[QBr,Option.some.injEq,Ob.box.injEq,List.cons.injEq,V.d.injEq,D.sl.injEq,D.int.injEq,D.bool.injEq,V.row.injEq,true_and,and_true]at e
 obtain⟨e1,e2,⟨rfl,e4⟩,e5,e6⟩:=e
 have e7:=h.row.symm.trans h'.row
 simp only[PR,Option.some.injEq,Ob.row.injEq,true_and]at e7
 refine⟨rfl,?_,?_,e6⟩
 ·exact(List.map_inj_right fun _ _ h=>f8z h).1 e1
 ·obtain⟨a,d,ns,n,bc,bf,be⟩:=s
  obtain⟨a',d',ns',n',bc',bf',be'⟩:=s'
  obtain⟨z1,z2,z3⟩:=hz
  obtain⟨y1,y2,y3⟩:=hz'
  simp only at*
  subst e2;subst e4;subst e5;subst e7;subst z1;subst z2;subst z3;subst y1;subst y2;subst y3
  rfl
def d9p (p r N:Nat):Nat->Nat:=fun i=>if i=0 then p else if i=1 then r else N+(i - 2)
theorem g6c {H:Hp} {p r:Nat} (hp:p < r) (hr:r < H.length):Mv (d9p p r H.length) 2 H:=by
 refine⟨fun i j h=>?_,fun j=>?_⟩
 ·unfold d9p
  split<;>split<;>(try split)<;>(try split)<;>omega
 ·unfold d9p
  rw[if_neg om,if_neg om]
  omega
theorem AtP.rl {H:Hp} {p r:Nat} {l:List TokQ} {s:PS} {bb:Bool} (h:AtP H p r l s bb):r < H.length:=(List.getElem?_eq_some_iff.1 h.row).1
theorem AtP.mv {H:Hp} {p r:Nat} {l:List TokQ} {s:PS} {bb:Bool} (h:AtP H p r l s bb):Mv (d9p p r H.length) 2 H:=g6c h.lt h.rl
theorem AtP.hr {H:Hp} {p r:Nat} {l:List TokQ} {s:PS} {bb:Bool} (h:AtP H p r l s bb):HR (d9p p r H.length) 2 H [QB l s bb,PR s] H:=by
 refine⟨Nat.le_refl _,rfl,fun i o hi=>?_,fun _ _ _=>rfl⟩
 match i,hi with
 |0,hi=>cases hi;exact h.box
 |1,hi=>cases hi;exact h.row
def d0h (H:Hp) (p r:Nat) (l:List TokQ) (s:PS) (bb:Bool):Hp:=(H.set p (QBr l s bb r)).set r (PR s)
theorem d4t {H H':Hp} {p r:Nat} {l:List TokQ} {s:PS} {bb:Bool} (hp:p < r) (hr:r < H.length) (h:HR (d9p p r H.length) 2 H [QB l s bb,PR s] H'):H'=d0h H p r l s bb:=by
 have hlen:H'.length=H.length:=h.len
 have h0:H'[p]? =some (QBr l s bb r):=h.get 0 _ rfl
 have h1:H'[r]? =some (PR s):=h.get 1 _ rfl
 apply List.ext_getElem?
 intro j
 unfold d0h
 rw[List.getElem?_set,List.getElem?_set]
 by_cases e1:r=j
 ·subst e1
  rw[if_pos rfl,if_pos (by rw[List.length_set];exact hr)]
  exact h1
 ·rw[if_neg e1]
  by_cases e2:p=j
  ·subst e2
   rw[if_pos rfl,if_pos om]
   exact h0
  ·rw[if_neg e2]
   by_cases e3:j < H.length
   ·refine h.out j e3 fun i hi=>?_
    unfold d9p
    split
    ·exact e2
    ·rw[if_pos om]
     exact e1
   ·rw[List.getElem?_eq_none om,List.getElem?_eq_none om]
def qOf (f:Nat) (a:List V) (bb:Bool):Option Q:=match f,a with
 |22,[]=>some (.expr bb)
 |37,[]=>some .typ
 |39,[]=>some .pattern
 |83,[]=>some .block
 |88,[.d (.bool true)]=>some (.operand bb)
 |88,[.d (.bool false)]=>some (.prefix_ bb)
 |_,_=>none
theorem g0g {σ:Nat->Nat} {f:Nat} {a:List V} {bb:Bool} {q:Q} (h:qOf f a bb=some q):shL σ a=a:=by
 unfold qOf at h
 split at h<;>first|rfl|cases h
structure Good (l:List TokQ) (s:PS):Prop where
 gl:LOk l
 gs:okS l s=true
 gz:Zf s
def okN (n f:Nat) (a:List V) (H:Hp) (r:V) (H':Hp):Prop:=∃ p rr a' l s bb q R s1,a= .ptr p 0::a'/\qOf f a' bb=some q/\Good l s/\AtP H p rr l s bb/\goE l n q s=some (.ok R s1)/\r= .d (b3s l s R s1)/\H'=d0h H p rr l s1 bb
theorem f9s {n f:Nat} {a:List V} {H H1 H2:Hp} {r1 r2:V} (h:okN n f a H r1 H1) (h':okN n f a H r2 H2):(r1,H1)=(r2,H2):=by
 obtain⟨p,rr,a',l,s,bb,q,R,s1,e1,e2,e3,e4,e5,rfl,rfl⟩:=h
 obtain⟨p',rr',a'',l',s',bb',q',R',s1',e1',e2',e3',e4',e5',rfl,rfl⟩:=h'
 rw[e1]at e1'
 simp only[List.cons.injEq,V.ptr.injEq,and_true]at e1'
 obtain⟨rfl,rfl⟩:=e1'
 obtain⟨rfl,rfl,rfl,rfl⟩:=e4.uniq e4' e3.gz e3'.gz
 rw[e2]at e2'
 cases e2'
 rw[e5]at e5'
 cases e5'
 rfl
open Classical in
noncomputable def c5d (n f:Nat):List V->Hp->Option (V×Hp):=fun a H=>if h:∃ r:V×Hp,okN n f a H r.1 r.2 then some h.choose else none
theorem b0v {n f:Nat} {a:List V} {H H':Hp} {r:V}:c5d n f a H=some (r,H')↔okN n f a H r H':=by
 unfold c5d
 constructor
 ·intro h
  split at h
  ·rename_i hx
   have e:=hx.choose_spec
   rw[Option.some.injEq]at h
   rw[h]at e
   exact e
  ·cases h
 ·intro h
  have hx:∃ r:V×Hp,okN n f a H r.1 r.2:=⟨(r,H'),h⟩
  rw[dif_pos hx]
  exact congrArg some (f9s hx.choose_spec h)
theorem g9n {n f k:Nat} {σ:Nat->Nat} {HB:Hp} (hm:Mv σ k HB) {a:List V} {H H' HH:Hp} {r:V} (R:HR σ k HB H HH) (h:okN n f a H r H'):∃ HH',okN n f (shL σ a) HH (r.sh σ) HH'/\HR σ k HB H' HH':=by
 obtain⟨p,rr,a',l,s,bb,q,Rr,s1,rfl,e2,e3,e4,e5,rfl,rfl⟩:=h
 have hb:=R.get p _ e4.box
 have hr:=R.get rr _ e4.row
 have hpl:=(List.getElem?_eq_some_iff.1 e4.box).1
 refine⟨d0h HH (σ p) (σ rr) l s1 bb,⟨σ p,σ rr,a',l,s,bb,q,Rr,s1,by rw[shL,g0g e2];rfl,e2,e3,⟨hm.mono _ _ e4.lt,hb,hr⟩,e5,rfl,rfl⟩,?_⟩
 have q1:=R.set hm hpl (QBr l s1 bb rr)
 have q2:=q1.set hm (id:=rr) (by rw[List.length_set];exact e4.rl) (PR s1)
 exact q2
def b4d (n p:Nat):a2v:=fun f a H x=>e8a p f a H x\/∃ rr a' l s bb q c f' e,a= .ptr p 0::a'/\qOf f a' bb=some q/\Good l s/\AtP H p rr l s bb/\goE l n q s=some (.bad c f' e)/\x=c7z c f' e
theorem c3i (n:Nat):b6l (b4d n):=by
 refine⟨fun{σ k HB p} hm f a h x H R hh=>?_,fun p f a H x h=> .inl h⟩
 rcases hh with h1|⟨rr,a',l,s,bb,q,c,f',e,rfl,e2,e3,e4,e5,rfl⟩
 ·exact .inl (f6a hm _ _ _ _ _ R h1)
 ·exact .inr ⟨σ rr,a',l,s,bb,q,c,f',e,by rw[shL,g0g e2];rfl,e2,e3,⟨hm.mono _ _ e4.lt,R.get p _ e4.box,R.get rr _ e4.row⟩,e5,rfl⟩
noncomputable def FN (n:Nat):Nat->Option a0v
 |22=>some (.prim (c5d n 22))
 |37=>some (.prim (c5d n 37))
 |39=>some (.prim (c5d n 39))
 |83=>some (.prim (c5d n 83))
 |88=>some (.prim (c5d n 88))
 |_=>none
theorem f5k {F:Nat->Option a0v} {f:Nat} {vf:VFn} (hF:∀ f vf,F f≠some (.code vf)) (h:tbl F f=some (.code vf)):tbl F0 f=some (.code vf):=by
 unfold tbl at*
 split at h<;>first|exact h|exact absurd h (hF _ _)
theorem f3w (n f:Nat) (vf:VFn):FN n f≠some (.code vf):=by
 intro h
 unfold FN at h
 split at h<;>cases h
theorem e9x {n f:Nat} {F:List V->Hp->Option (V×Hp)} (h:FN n f=some (.prim F)):F=c5d n f:=by
 unfold FN at h
 split at h<;>cases h<;>rfl
theorem f6y {F:Nat->Option a0v} {f:Nat} {p:List V->Hp->Option (V×Hp)} (h:tbl F f=some (.prim p)):F f=some (.prim p):=by
 unfold tbl at h
 split at h<;>first|exact h|cases h
theorem b0u (n:Nat) (fx:Nat->Option Obj):b1e (pgL fx (FN n)):=by
 refine⟨fun f F h=>?_,fun f vf h=>(mv fx).code f vf (f5k (f3w n) h)⟩
 have:=e9x (f6y h)
 subst this
 intro σ k HB hm a H r H' HH R hh
 obtain⟨HH',h1,h2⟩:=g9n hm R (b0v.1 hh)
 exact⟨HH',b0v.2 h1,h2⟩
theorem d0e {n:Nat} {fx:Nat->Option Obj} {l:List TokQ} (hl:LOk l) {f:Nat} (ht:(pgL fx (FN n)).tbl f=some (.prim (c5d n f))) {a:List V} {q:Bool->Q} (hq:∀ bb,qOf f a bb=some (q bb)) (s:PS) (bb:Bool) (h:okS l s=true) (hz:Zf s):Says (pgL fx (FN n)) (b4d n 0) f (.ptr 0 0::a) [QB l s bb,PR s] (goE l n (q bb) s) (leftV l bb [] fun r s'=> .d (b3s l s r s')):=by
  have A:AtP [QB l s bb,PR s] 0 1 l s bb:=⟨by decide,rfl,rfl⟩
  cases c:goE l n (q bb) s with
  |none=>trivial
  |some y=>
   cases y with
   |ok r s1=>
    show evF _ _ _ _=_
    rw[b3t ht]
    exact b0v.2 ⟨0,1,a,l,s,bb,q bb,r,s1,rfl,hq bb,⟨hl,h,hz⟩,A,c,rfl,rfl⟩
   |bad c' f' e=>exact c9x (.inr ⟨1,a,l,s,bb,q bb,c',f',e,rfl,hq bb,⟨hl,h,hz⟩,A,c,rfl⟩)
theorem i4p (n:Nat) (fx:Nat->Option Obj) {l:List TokQ} (hl:LOk l):c6e fx (FN n) (b4d n) l n:=
 ⟨fun s bb h hz=>d0e (q:=fun _=> .typ) hl rfl (fun _=>rfl) s bb h hz,fun s bb h hz=>d0e (q:=fun _=> .pattern) hl rfl (fun _=>rfl) s bb h hz,fun s bb h hz=>d0e (q:=fun b=> .expr b) hl rfl (fun _=>rfl) s bb h hz,fun s bb h hz=>d0e (q:=fun _=> .block) hl rfl (fun _=>rfl) s bb h hz,fun s bb h hz=>d0e (q:=fun b=> .operand b) hl rfl (fun _=>rfl) s bb h hz,fun s bb h hz=>d0e (q:=fun b=> .prefix_ b) hl rfl (fun _=>rfl) s bb h hz⟩
end Go.Vm.Px
set_option maxHeartbeats 0
namespace Go.Vm.Ite
open Go Go.Vm Go.Proofs
def Q68:Laid Tryz.prog (AA [] []) false Tryz.f68:=laid
theorem k68:a0b 68 Q68:={}
end Go.Vm.Ite
namespace Go.Vm.Px
open Go.Vm.Lex (TokQ)
open Go.Vm.Pa hiding go
open Go.Vm.Ite
open Go Go.Proofs
def f0o:D->Value
 | .agg [.int .i64 c,.int .i64 f,.int .i64 e]=> .iface 64 (.agg #[.int .i64 c,.int .i64 f,.int .i64 e])
 |_=> .nilIface
def KP (p:Nat) (H:Hp):Prop:=∃ r l s bb,AtP H p r l s bb
abbrev h8j:List a0a:=match vR Q68.F.body with| .reg l=>l.take 7|_=>[]
abbrev h3k:a0e:= .seq (vL Q68.F.body) (.reg h8j)
section
variable {fx:Nat->Option Obj} {F:Nat->Option a0v} {l:List TokQ} {s:PS} {bb:Bool}
theorem f7p (h:okS l s=true) (c:Int):∃ s2,ev (pgL fx F) h3k ⟨a1d [.ptr 0 0,.d (.int .i64 c)],[QB l s bb,PR s],2⟩=some (.nrm,s2)/\a1l s2.e 13= .d (c7z c (now l s).f (now l s).e)/\s2.h.take 2=[QB l s bb,PR s]/\s2.b=2/\2<=s2.h.length:=by
 have hx:WQ (pgL fx F) 2 h3k [] [(0,.ptr 0 0),(1,.d (.int .i64 c))] [QB l s bb,PR s] fun x _ e H=>x= .nrm/\a1l e 13= .d (c7z c (now l s).f (now l s).e)/\H.take 2=[QB l s bb,PR s]/\2<=H.length:=by
   repeat' (first|refine run ⟨?_⟩|refine ca (a3r h) ?_|fail)
   all_goals first|exact⟨rfl,rfl,rfl,by simp⟩|simp
 obtain⟨x,kn,e',H',h1,_,rfl,h2,h3,h4⟩:=hx.imp (a3w.nil _)
 exact⟨_,h1,h2,h3,rfl,h4⟩
theorem g6t {C:Nat->List Value} {c f e:Int} {v:Value} (h:a3d C (c7z c f e) v):v= .agg #[.int .i64 c,.int .i64 f,.int .i64 e]:=by
 unfold c7z a3d at h
 obtain⟨cs,rfl,h⟩:=h
 simp only[a1n,a0p,List.cons.injEq,and_true]at h
 obtain⟨y1,ys1,h1,_,rfl,y2,ys2,rfl,_,rfl,y3,ys3,rfl,_,rfl,rfl⟩:=h
 have:cs= #[.int .i64 c,.int .i64 f,.int .i64 e]:=Array.ext' h1
 rw[this]
theorem d4f (hF:b1e (pgL fx F)) (hT:a3i Tryz.prog (pgL fx F)) (hmx:Tryz.prog.follows .mixedOrders=true) (p:Nat) (f:Nat) (a:List V) (H:Hp) (x:D) (h:e8a p f a H x):b2g Tryz.prog (pgL fx F).toCx (KP p) f0o f a H x:=by
 obtain⟨rfl,c,l,s,bb,r,rfl,hlt,hr,hp,hs,rfl⟩:=h
 have A:AtP H p r l s bb:=⟨hlt,hp,hr⟩
 obtain⟨s2,e1,e2,e3,e4,e5⟩:=f7p (fx:=fx) (F:=F) (bb:=bb) hs c
 obtain⟨S2,E1,R2⟩:=d7q A.mv hF (s:=⟨a1d [.ptr 0 0,.d (.int .i64 c)],[QB l s bb,PR s],2⟩) (S:=⟨a1d [.ptr p 0,.d (.int .i64 c)],H,H.length⟩) (by rfl) ⟨a8e (σ:=d9p p r H.length) [.ptr 0 0,.d (.int .i64 c)],A.hr,rfl,Nat.le_refl _⟩ e1
 have hbody:∃ c0:Code,Tryz.f68.body=some (.seq c0 (.region 1 (g0y (cR (Tryz.f68.body.getD .skip))) false))/\tr Tryz.prog (AA [] []) c0=some (vL Q68.F.body):=⟨_,rfl,kr⟩
 obtain⟨c0,hb,ht0⟩:=hbody
 obtain⟨c1,hb1,htr,hres,hnt,_⟩:=a4u k68.tr
 obtain⟨k1,k2,k3⟩:=a9p k68.ok
 refine⟨⟨Tryz.f68,Tryz.func68,by rw[hb];rfl,k68.name⟩,fun g w cargs hI ra ua=>calls_of_wp Tryz.func68 hb ?_⟩
 have ok0:a1a [] (pgL fx F).toCx Q68.F.nt g ⟨a1d [.ptr p 0,.d (.int .i64 c)],H,H.length⟩ {tmps:=cargs++Array.replicate (Tryz.f68.ntmps - cargs.size) undef,defers:=[]} w:=
  ⟨hI,by rw[<-hnt];exact Go.Vm.a9k ra ua (show 2<=Q68.F.nt by decide),rfl,Nat.le_refl _⟩
 obtain⟨S1,q1,q2⟩:=a4x E1
 apply wp_seq
 refine b8z hT hmx ht0 (by decide) q1 ok0 fun g1 a1 w1 ok1 x1=>?_
 have hb1':=h1y hT hmx q1
 show(Code.region 1 _ false).wp _ _ a1 w1
 apply wp_region
 have q3:a0u (pgL fx F).toCx (evF (pgL fx F)) h8j S1=some S2:=by
  rw[d4h,evR]at q2
  cases hh:a0u (pgL fx F).toCx (evF (pgL fx F)) h8j S1 with
  |none=>rw[hh]at q2;cases q2
  |some y=>rw[hh]at q2;cases q2;rfl
 refine e9d (rest:=[7,8]) (c1u hT hmx) ((g0y (cR (Tryz.f68.body.getD .skip))).toList.take 7) 0 h8j (fun k hk=>?_) kr (by decide) q3 ok1 fun g2 a2 w2 ok2 x2=>?_
 ·have hk7:k < 7:=hk
  have hc:k=0\/k=1\/k=2\/k=3\/k=4\/k=5\/k=6:=om
  rcases hc with rfl|rfl|rfl|rfl|rfl|rfl|rfl<;>rfl
 have hv:a2.tmps.getD 13 undef= .agg #[.int .i64 c,.int .i64 (now l s).f,.int .i64 (now l s).e]:=by
  have h1:=ok2.env.2 13 (by decide)
  have h2:a1l S2.e 13= .d (c7z c (now l s).f (now l s).e):=by rw[R2.e,a8x,e2];rfl
  rw[h2]at h1
  exact g6t h1.1
 have hK:AtP S2.h p r l s bb:=by
  have g0:s2.h[0]? =some (QB l s bb):=by
   have:=congrArg (·[0]?) e3
   simpa [List.getElem?_take] using this
  have g1:s2.h[1]? =some (PR s):=by
   have:=congrArg (·[1]?) e3
   simpa [List.getElem?_take] using this
  exact⟨hlt,R2.h.get 0 _ g0,R2.h.get 1 _ g1⟩
 rw[wpOps_cons]
 unfold wpOp
 refine .inl ?_
 have h13:a2.eval (.tmp 13)= .agg #[.int .i64 c,.int .i64 (now l s).f,.int .i64 (now l s).e]:=hv
 have hrun:(execOp a2.eval (g0y (cR (Tryz.f68.body.getD .skip)))[7]).run Tryz.prog w2= .ok (.value (.iface 64 (.agg #[.int .i64 c,.int .i64 (now l s).f,.int .i64 (now l s).e]))) w2:=by
  have ho:(g0y (cR (Tryz.f68.body.getD .skip)))[7].op= .makeInterface 64 (.tmp 13):=rfl
  simp only[execOp,ho,h13]
  rfl
 unfold Oper.wp
 rw[hrun,Oper.upon_value]
 rw[wpOps_cons]
 unfold wpOp
 refine .inl ?_
 have hrun2:(execOp (a2.put (some 14) (.iface 64 (.agg #[.int .i64 c,.int .i64 (now l s).f,.int .i64 (now l s).e]))).eval (g0y (cR (Tryz.f68.body.getD .skip)))[8]).run Tryz.prog w2= .halt (.panic (.iface 64 (.agg #[.int .i64 c,.int .i64 (now l s).f,.int .i64 (now l s).e]))) w2:=by
  have ho:(g0y (cR (Tryz.f68.body.getD .skip)))[8].op= .panic (.tmp 14):=rfl
  have h14:(a2.put (some 14) (.iface 64 (.agg #[.int .i64 c,.int .i64 (now l s).f,.int .i64 (now l s).e]))).eval (.tmp 14)= .iface 64 (.agg #[.int .i64 c,.int .i64 (now l s).f,.int .i64 (now l s).e]):=by
   have hsz:=ok2.env.1
   have hlt14:14 < a2.tmps.size:=by rw[hsz];decide
   simp[Act.put,Act.eval,Array.getD,hlt14]
  simp only[execOp,ho,h14]
  rfl
 unfold Oper.wp
 rw[show(g0y (cR (Tryz.f68.body.getD .skip)))[7].dst=some 14 from rfl,hrun2,Oper.upon_panic]
 exact⟨ok2.defers,g2,S2.h,rfl,ok2.inv,⟨r,l,s,bb,hK⟩,x1.trans x2 (by rw[hb1'];exact Nat.le_refl _)⟩
end
end Go.Vm.Px
namespace Go.Vm.Px
open Go.Vm.Lex (TokQ)
open Go.Vm.Pa hiding go
open Go.Vm.Ite
open Go Go.Proofs
set_option maxHeartbeats 2000000
structure AllW (fx:Nat->Option Obj) (F:Nat->Option a0v) (base:Nat->a2v) (l:List TokQ) (n:Nat):Prop where
 item:b0j fx F base l (n+1) a5p [] fun _ _=> .item
 expr:∀ s bb,okS l s=true->Zf s->c8y fx F base l (f5c Q22.F.body) (d1q Q22.F.body) 7 Q22.F [] s bb (goE l (n+1) (.expr bb) s)
 typ:∀ s bb,okS l s=true->Zf s->c8y fx F base l (f5c Q37.F.body) (d1q Q37.F.body) 11 Q37.F [] s bb (goE l (n+1) .typ s)
 pat:∀ s bb,okS l s=true->Zf s->c8y fx F base l (i0y Q39.F.body) (g4v Q39.F.body) 33 Q39.F [] s bb (goE l (n+1) .pattern s)
 block:∀ s bb,okS l s=true->Zf s->c8y fx F base l (f5c Q83.F.body) (d1q Q83.F.body) 9 Q83.F [] s bb (goE l (n+1) .block s)
 operand:∀ s bb,okS l s=true->Zf s->c8y fx F base l (i3e Q88.F.body) (g5x Q88.F.body) 13 Q88.F [.d (.bool true)] s bb (goE l (n+1) (.operand bb) s)
 pre:∀ s bb,okS l s=true->Zf s->g5n fx F base l Q88.F [.d (.bool false)] s bb (goE l (n+1) (.prefix_ bb) s)
section
variable {fx:Nat->Option Obj} {F:Nat->Option a0v} {l:List TokQ} {base:Nat->a2v} {n:Nat}
theorem i2t (W:Wk fx F base l) (L:c6e fx F base l n):AllW fx F base l n:=by
 have h:n<=n+1:=Nat.le_succ n
 have LI:=h5y W L
 have LN:=g2n W L (LI.mono h)
 have LA:=i1v W L
 have LM:=match_x W L (LA.mono h)
 have LB:=e2v W L (n+1) (Nat.le_refl _)
 have LR:=f9c W L (LB.mono h) (LM.mono h)
 have LP:=f1e W L (fun s bb h1 h2 h3=>(LN s bb h1 h2 h3).mono fun _ e=>a6r h e) (LR.mono h)
 have LX:=e7i W (LP.mono h)
 have B6:=f4o W L
 have B5:=e9c W (B6.mono h)
 have B4:=e8f W (B5.mono h)
 have B3:=f2a W (B4.mono h)
 have B2:=f3q W (B3.mono h)
 have B1:=e8i W (B2.mono h)
 have LS:=d9n W (LR.mono h)
 have LT:=h2b W L (LS.mono h)
 exact⟨h2n W L ((g4j W L).mono h) ((g6x W L).mono h) ((f0j W L).mono h),fun s bb h1 h2=>h7h W (B1.mono h) h1 h2,fun s bb h1 h2=>i0z W L h1 h2,fun s bb h1 h2=>i4h W L h1 h2,fun s bb h1 h2=>g5q W (LT.mono h) h1 h2,fun s bb h1 h2=>e7r W L (LX.mono h) h1 h2,fun s bb h1 h2=>i1y W L (LX.mono h) h1 h2⟩
end
section
variable {fx:Nat->Option Obj} {n:Nat}
structure g5m (fx:Nat->Option Obj) (n:Nat):Prop where
 tbl:a3i Tryz.prog (pgL fx (FN n))
 dies:∀ p,b2l Tryz.prog (pgL fx (FN n)).toCx (KP p) f0o (b4d n p)
theorem g1v (h:∀ f a H r H',okN n f a H r H'->a1z Tryz.prog ⟨fun _=>[],fx⟩ f a H r H'):a3i Tryz.prog (pgL fx (FN n)):=by
  refine f8k ⟨fun _=>[],fx⟩ (FN n) fun f e hf=>?_
  cases e with
  |code vf=>exact f3w n f vf hf
  |prim p=>
   have:=e9x hf
   subst this
   exact fun args H r H' hh=>h _ _ _ _ _ (b0v.1 hh)
theorem f8d {F:Nat->Option a0v} (hF:b1e (pgL fx F)) {p:Nat} {H:Hp} (h:KP p H):∃ H3,evF (pgL fx F) 50 [.ptr p 0] H=some (.tup [],H3)/\KP p H3:=by
 obtain⟨r,l,s,bb,A⟩:=h
 have e:=a4p (fx:=fx) (F:=F) (l:=l) (s:=s) (bb:=bb) (X:=[])
 obtain⟨H3,h1,h2⟩:=b9s hF A.mv A.hr e
 refine⟨H3,h1,r,l,down s,bb,?_⟩
 rw[d4t A.lt A.rl h2]
 have hp:p < H.length:=by have:=A.lt;have:=A.rl;omega
 refine⟨A.lt,?_,?_⟩
 ·unfold d0h
  rw[List.getElem?_set_ne (by have:=A.lt;omega),List.getElem?_set_self hp]
 ·unfold d0h
  rw[List.getElem?_set_self (by rw[List.length_set];exact A.rl)]
theorem d2r:Tryz.prog.follows .mixedOrders=true:=kr
theorem okD {f t:Nat} {fn:Func} {vf:VFn} {pre rest:a0e} (S:b3x Tryz.prog f 50 t fn vf pre rest) (hT:a3i Tryz.prog (pgL fx (FN n))) {a:List V} {H:Hp} {p r:Nat} {l:List TokQ} {s s1:PS} {bb:Bool} {R:R} (A:AtP H p r l s bb) (hc1:pre.cst=true) (hc2:rest.cst=true) (hn:a.length+1=vf.np) (ha:∀ σ,shL σ a=a)
 (h:g0t (pgL fx (FN n)) pre rest t 50 vf 0 (.ptr 0 0::a) [QB l s bb,PR s] (.d (b3s l s R s1)) [QB l s1 bb,PR s1]):a1z Tryz.prog ⟨fun _=>[],fx⟩ f (.ptr p 0::a) H (.d (b3s l s R s1)) (d0h H p r l s1 bb):=by
 obtain⟨H',h1,h2⟩:=h.sh (b0u n fx) A.mv hc1 hc2 A.hr
 rw[d4t A.lt A.rl h2]at h1
 have e:shL (d9p p r H.length) (.ptr 0 0::a)= .ptr p 0::a:=by rw[shL,ha];rfl
 rw[e]at h1
 exact h1.spec S hT d2r (a5a (F:=FN n)) (by simpa using hn)
theorem h6e {f t:Nat} {fn:Func} {vf:VFn} {pre rest:a0e} (S:b3x Tryz.prog f 50 t fn vf pre rest) (hT:a3i Tryz.prog (pgL fx (FN n))) {p:Nat} (hD:b2l Tryz.prog (pgL fx (FN n)).toCx (KP p) f0o (b4d n p)) {a:List V} {H:Hp} {r:Nat} {l:List TokQ} {s:PS} {bb:Bool} {x:D} (A:AtP H p r l s bb) (hc1:pre.cst=true) (hc2:rest.cst=true) (hn:a.length+1=vf.np) (ha:∀ σ,shL σ a=a)
 (h:g1w (pgL fx (FN n)) (a1q (pgL fx (FN n)) (b4d n 0)) pre rest t 0 (.ptr 0 0::a) [QB l s bb,PR s] x):b2g Tryz.prog ⟨fun _=>[],fx⟩ (KP p) f0o f (.ptr p 0::a) H x:=by
 have hdd:DSh (d9p p r H.length) 2 H (a1q (pgL fx (FN n)) (b4d n 0)) (a1q (pgL fx (FN n)) (b4d n p)):=c5t A.mv (b0u n fx) ((c3i n).sh (p:=0) A.mv)
 have h1:=h.sh (b0u n fx) A.mv hdd hc1 hc2 A.hr
 have e:shL (d9p p r H.length) (.ptr 0 0::a)= .ptr p 0::a:=by rw[shL,ha];rfl
 rw[e]at h1
 exact h1.spec S hT d2r (b9h hT d2r hD) (a5a (F:=FN n)) (by simpa using hn) fun H2 hK=>f8d (b0u n fx) hK
theorem okL {vf:VFn} {fn:Func} {A':Ann} {f:Nat} (hf:Tryz.prog.funcs[f]? =some fn) (hname:(fn.name== "runtime.NumGoroutine")=false) (htr:e0s Tryz.prog A' vf.keep fn=some vf) (hok:vf.ok=true) (hT:a3i Tryz.prog (pgL fx (FN n))) {a:List V} {H:Hp} {p r:Nat} {l:List TokQ} {s s1:PS} {bb:Bool} {R:R} (A:AtP H p r l s bb) (hc:vf.body.cst=true) (hn:a.length+1=vf.np) (ha:∀ σ,shL σ a=a)
 (h:g8q (pgL fx (FN n)) vf (.ptr 0 0::a) [QB l s bb,PR s] (.d (b3s l s R s1)) [QB l s1 bb,PR s1]):a1z Tryz.prog ⟨fun _=>[],fx⟩ f (.ptr p 0::a) H (.d (b3s l s R s1)) (d0h H p r l s1 bb):=by
 obtain⟨H',h1,h2⟩:=h.sh (b0u n fx) A.mv hc A.hr
 rw[d4t A.lt A.rl h2]at h1
 have e:shL (d9p p r H.length) (.ptr 0 0::a)= .ptr p 0::a:=by rw[shL,ha];rfl
 rw[e]at h1
 obtain⟨x,s2,q1,q2,q3⟩:=h1
 exact g5u hT d2r hf hname htr hok (by simpa using hn) q1 q2 q3
theorem dieL {vf:VFn} {fn:Func} {A':Ann} {f:Nat} (hf:Tryz.prog.funcs[f]? =some fn) (hname:(fn.name== "runtime.NumGoroutine")=false) (htr:e0s Tryz.prog A' vf.keep fn=some vf) (hok:vf.ok=true) (hT:a3i Tryz.prog (pgL fx (FN n))) {p:Nat} (hD:b2l Tryz.prog (pgL fx (FN n)).toCx (KP p) f0o (b4d n p)) {a:List V} {H:Hp} {r:Nat} {l:List TokQ} {s:PS} {bb:Bool} {x:D} (A:AtP H p r l s bb) (hc:vf.body.cst=true) (hn:a.length+1=vf.np) (ha:∀ σ,shL σ a=a)
 (h:g8i (pgL fx (FN n)) (a1q (pgL fx (FN n)) (b4d n 0)) vf (.ptr 0 0::a) [QB l s bb,PR s] x):b2g Tryz.prog ⟨fun _=>[],fx⟩ (KP p) f0o f (.ptr p 0::a) H x:=by
 have hdd:DSh (d9p p r H.length) 2 H (a1q (pgL fx (FN n)) (b4d n 0)) (a1q (pgL fx (FN n)) (b4d n p)):=c5t A.mv (b0u n fx) ((c3i n).sh (p:=0) A.mv)
 have h1:=h.sh (b0u n fx) A.mv hdd hc A.hr
 have e:shL (d9p p r H.length) (.ptr 0 0::a)= .ptr p 0::a:=by rw[shL,ha];rfl
 rw[e]at h1
 exact d4n hT d2r (b9h hT d2r hD) hf hname htr hok (by simpa using hn) h1
theorem f7s (L:g5m fx n):g5m fx (n+1):=by
 have hT:=L.tbl
 have sh0:∀ σ:Nat->Nat,shL σ []=[]:=fun _=>rfl
 have sh1:∀ (b:Bool) (σ:Nat->Nat),shL σ [.d (.bool b)]=[.d (.bool b)]:=fun _ _=>rfl
 refine⟨g1v fun f a H r H' h=>?_,fun p f a H x h=>?_⟩
 ·obtain⟨p,rr,a',l,s,bb,q,R,s1,rfl,hq,hg,A,e,rfl,rfl⟩:=h
  have W:Wk fx (FN n) (b4d n) l:=⟨b0u n fx,c3i n,hg.gl⟩
  have U:=i2t W (i4p n fx hg.gl)
  unfold qOf at hq
  split at hq<;>cases hq
  ·have:=U.expr s bb hg.gs hg.gz
   rw[e]at this
   exact okD S22 hT A kr kr rfl sh0 this
  ·have:=U.typ s bb hg.gs hg.gz
   rw[e]at this
   exact okD S37 hT A kr kr rfl sh0 this
  ·have:=U.pat s bb hg.gs hg.gz
   rw[e]at this
   exact okD S39 hT A kr kr rfl sh0 this
  ·have:=U.block s bb hg.gs hg.gz
   rw[e]at this
   exact okD S83 hT A kr kr rfl sh0 this
  ·have:=U.operand s bb hg.gs hg.gz
   rw[e]at this
   exact okD S88 hT A kr kr rfl (sh1 true) this
  ·have:=U.pre s bb hg.gs hg.gz
   rw[e]at this
   exact okL Tryz.func88 k88.name k88.tr k88.ok hT A k88.cst rfl (sh1 false) this
 ·rcases h with h|⟨rr,a',l,s,bb,q,c,f',e',rfl,hq,hg,A,e,rfl⟩
  ·exact d4f (b0u n fx) hT d2r p f a H x h
  have W:Wk fx (FN n) (b4d n) l:=⟨b0u n fx,c3i n,hg.gl⟩
  have U:=i2t W (i4p n fx hg.gl)
  unfold qOf at hq
  split at hq<;>cases hq
  ·have:=U.expr s bb hg.gs hg.gz
   rw[e]at this
   exact h6e S22 hT (L.dies p) A kr kr rfl sh0 this
  ·have:=U.typ s bb hg.gs hg.gz
   rw[e]at this
   exact h6e S37 hT (L.dies p) A kr kr rfl sh0 this
  ·have:=U.pat s bb hg.gs hg.gz
   rw[e]at this
   exact h6e S39 hT (L.dies p) A kr kr rfl sh0 this
  ·have:=U.block s bb hg.gs hg.gz
   rw[e]at this
   exact h6e S83 hT (L.dies p) A kr kr rfl sh0 this
  ·have:=U.operand s bb hg.gs hg.gz
   rw[e]at this
   exact h6e S88 hT (L.dies p) A kr kr rfl (sh1 true) this
  ·have:=U.pre s bb hg.gs hg.gz
   rw[e]at this
   exact dieL Tryz.func88 k88.name k88.tr k88.ok hT (L.dies p) A k88.cst rfl (sh1 false) this
theorem b1t (fx:Nat->Option Obj):∀ n,g5m fx n
 |0=>by
  have hT:a3i Tryz.prog (pgL fx (FN 0)):=g1v fun f a H r H' h=>by
    obtain⟨_,_,_,_,_,_,_,_,_,_,_,_,_,e,_⟩:=h
    cases e
  refine⟨hT,fun p f a H x h=>?_⟩
  rcases h with h|⟨_,_,_,_,_,_,_,_,_,_,_,_,_,e,_⟩
  ·exact d4f (b0u 0 fx) hT d2r p f a H x h
  ·cases e
 |n+1=>f7s (b1t fx n)
end
end Go.Vm.Px
namespace Go.Vm.Pj
open Go Go.Proofs Go.RowKit
abbrev b7k (c f e:Int):Value:= .agg #[.int .i64 c,.int .i64 f,.int .i64 e]
abbrev b1u (c f e:Int):Array Value:= #[.int .i64 c,.int .i64 f,.int .i64 e]
theorem e4n (p:Addr) (w:World):
 CallsD Tryz.prog 77 #[.pointer (some p)] .returning w fun e u' w'=>e= .returned (.tuple #[])/\u'= .returning/\w'=w:=by
 refine callsD_of_wpS Tryz.func77 rfl fun c₀ cs hu=>?_
 apply wpS_seq
 apply wpS_region
 simp[wpOpsS,go_sem,recoverD,hu,Tryz.ntmps77,Exit.thenS]
 apply wpS_seq
 refine wpS_of_wp ?_
 go_wp2
 simp only[Exit.thenS]
 refine wpS_cond (t:=false) (by simp[Act.eval,Array.replicate]) ?_
 simp only[Bool.false_eq_true,if_false]
 refine wpS_of_wp (wp_skip ?_)
 cases c₀
 simp_all[bodyPostS,results,Tryz.results77]
theorem f6v (c f e:Int) (w:World):(Instr.typeAssert (.iface 64 (b7k c f e)) 20 64 true).run Tryz.prog w= .ok (.tuple #[b7k c f e,.bool true]) w:=kr
set_option maxRecDepth 100000 in
set_option maxHeartbeats 2000000 in
theorem b5y (p:Addr) (c f e0:Int) (u:Value) (older:List PanicEntry) (w:World) (hc:w.cell? p=some u) (hz:w.frozen? p=false):
 CallsD Tryz.prog 77 #[.pointer (some p)] (.panicking ({v:= .iface 64 (b7k c f e0),recovered:=false }::older)) w fun e u' w'=>
  e= .returned (.tuple #[])/\u'= .panicking ({v:= .iface 64 (b7k c f e0),recovered:=true }::older)/\w'=(w.alloc (.cells (b1u c f e0) 64)).setCell p (.iface 64 (b7k c f e0)):=by
 have ha:=f6v
 have hlt:p.block < w.heap.size:=by
  rcases Nat.lt_or_ge p.block w.heap.size with h|h
  ·exact h
  ·simp[World.cell?,Array.getElem?_eq_none h]at hc
 have hc2:(w.alloc (.cells (b1u c f e0) 64)).cell? p=some u:=by rw[World.cell?_alloc_lt _ _ p hlt];exact hc
 have hz2:(w.alloc (.cells (b1u c f e0) 64)).frozen? p=false:=by
  have h:=World.frozen?_alloc_old (w:=w) (a:=p) (o:= .cells (b1u c f e0) 64) om
  exact h.trans hz
 refine callsD_of_wpS Tryz.func77 rfl fun c₀ cs hu=>?_
 apply wpS_seq
 apply wpS_region
 simp[wpOpsS,go_sem,recoverD,hu,Tryz.ntmps77,Exit.thenS]
 apply wpS_seq
 refine wpS_of_wp ?_
 go_wp2
 simp only[Exit.thenS]
 refine wpS_cond (t:=true) (by simp[Act.eval,Array.replicate]) ?_
 simp only[if_true]
 refine wpS_of_wp ?_
 simp only[Array.replicate_succ,Array.replicate_zero,List.push_toArray,List.nil_append,List.cons_append,List.setIfInBounds_toArray,List.set_cons_zero,List.set_cons_succ,List.append_toArray]
 go_wp2
 simp[bodyPostS,results,Tryz.results77]
end Go.Vm.Pj
namespace Go.Vm.Pj
open Go Go.Proofs Go.RowKit
abbrev f5b (w:World):World:=w.alloc (.cells #[.nilIface] 67)
theorem e9e (k:Int) (a b c d:Value) (w:World):(Instr.field 41 (.agg #[.int .i64 k,a,b,c,d]) 0).run Tryz.prog w= .ok (.int .i64 k) w:=kr
set_option maxRecDepth 100000 in
set_option maxHeartbeats 4000000 in
theorem f5m (rf:Nat) (x0:Value) (w:World) (hcf:∀ W:World,(callFunc rf #[x0]).run Tryz.prog W= .ok (.enter rf #[x0]) W) (R1 R2:World->Prop)
 (h1:Calls Tryz.prog rf #[x0] (f5b w) fun e w1=> ∃ v,e= .returned v/\R1 w1)
 (h2:∀ w1,R1 w1->Calls Tryz.prog 45 #[x0] w1 fun e w2=> ∃ a b c d,e= .returned (.agg #[.int .i64 5,a,b,c,d])/\R2 w2)
 (h3:∀ w2,R2 w2->w2.heap[w.heap.size]? =some (.cells #[.nilIface] 67 (0,0))):
 Calls Tryz.prog 43 #[x0,.func (.func rf) #[] #[]] w fun e w'=>e= .returned .nilIface/\∃ w2,R2 w2/\w'=w2.setCell ⟨w.heap.size,0,none⟩ .nilIface:=by
 have hmf:∀ (fn:Fn) (first cap:Array Value) (w:World),(Instr.makeFunc fn first cap).run Tryz.prog w= .ok (.func fn first cap) w:=fun _ _ _ _=>rfl
 have hfd:=e9e
 go_enter_defers Tryz.func43,Tryz.ntmps43
 go_wp2
 refine h1.mono ?_
 rintro e w1 ⟨v,rfl,r1⟩
 go_wp2_with (go_at_call 45;refine(h2 w1 r1).mono ?_;rintro e w2 ⟨a,b,c,d,rfl,r2⟩;have hc:w2.cell? ⟨w.heap.size,0,none⟩=some .nilIface:=(by simp[World.cell?,h3 w2 r2]);have hz:w2.frozen? ⟨w.heap.size,0,none⟩=false:=(by simp[World.frozen?,h3 w2 r2]))
 refine leaves_cons (f:=77) (args:= #[.pointer (some ⟨w.heap.size,0,none⟩)]) (by simp) (by simp[go_sem]) ?_
 refine(e4n ⟨w.heap.size,0,none⟩ _).mono ?_
 rintro e u' w'' ⟨rfl,rfl,rfl⟩
 have hc2:(w2.setCell ⟨w.heap.size,0,none⟩ .nilIface).cell? ⟨w.heap.size,0,none⟩=some .nilIface:=World.cell?_setCell_same' _ _ _ (by rw[hc];rfl)
 simp[Leaves,settle,results,Tryz.results43,go_sem,hc2]
 exact⟨w2,r2,rfl⟩
abbrev refP (c f e:Int):PanicEntry:={v:= .iface 64 (b7k c f e),recovered:=false }
set_option maxRecDepth 100000 in
set_option maxHeartbeats 4000000 in
theorem f8w (rf:Nat) (x0:Value) (w:World) (c f e0:Int) (hcf:∀ W:World,(callFunc rf #[x0]).run Tryz.prog W= .ok (.enter rf #[x0]) W) (R1:World->Prop)
 (h1:Calls Tryz.prog rf #[x0] (f5b w) fun e w1=>e= .panicked [refP c f e0]/\R1 w1)
 (h3:∀ w2,R1 w2->w2.heap[w.heap.size]? =some (.cells #[.nilIface] 67 (0,0))):
 Calls Tryz.prog 43 #[x0,.func (.func rf) #[] #[]] w fun e w'=>e= .returned (.iface 64 (b7k c f e0))/\∃ w2,R1 w2/\w'=(w2.alloc (.cells (b1u c f e0) 64)).setCell ⟨w.heap.size,0,none⟩ (.iface 64 (b7k c f e0)):=by
 have hmf:∀ (fn:Fn) (first cap:Array Value) (w:World),(Instr.makeFunc fn first cap).run Tryz.prog w= .ok (.func fn first cap) w:=fun _ _ _ _=>rfl
 go_enter_defers Tryz.func43,Tryz.ntmps43
 go_wp2
 refine h1.mono ?_
 rintro e w1 ⟨rfl,r1⟩
 have hb:=h3 w1 r1
 have hlt:w.heap.size < w1.heap.size:=(Array.getElem?_eq_some_iff.1 hb).1
 have hc:w1.cell? ⟨w.heap.size,0,none⟩=some .nilIface:=by simp[World.cell?,hb]
 have hz:w1.frozen? ⟨w.heap.size,0,none⟩=false:=by simp[World.frozen?,hb]
 go_wp2
 refine leaves_cons (f:=77) (args:= #[.pointer (some ⟨w.heap.size,0,none⟩)]) (by simp) (by simp[go_sem]) ?_
 refine(b5y ⟨w.heap.size,0,none⟩ c f e0 _ [] _ hc hz).mono ?_
 rintro e u' w'' ⟨rfl,rfl,rfl⟩
 have hc2:((w1.alloc (.cells (b1u c f e0) 64)).setCell ⟨w.heap.size,0,none⟩ (.iface 64 (b7k c f e0))).cell? ⟨w.heap.size,0,none⟩=some (.iface 64 (b7k c f e0)):=World.cell?_setCell_same' _ _ _ (by rw[World.cell?_alloc_lt _ _ ⟨w.heap.size,0,none⟩ hlt,hc];rfl)
 simp[Leaves,settle,results,Tryz.results43,go_sem,hc2]
 exact⟨w1,r1,rfl⟩
set_option maxRecDepth 100000 in
set_option maxHeartbeats 4000000 in
theorem f9e (rf:Nat) (x0:Value) (w:World) (c f e0 k:Int) (hk:k≠5) (hcf:∀ W:World,(callFunc rf #[x0]).run Tryz.prog W= .ok (.enter rf #[x0]) W) (R1 R2 R3:World->Prop)
 (h1:Calls Tryz.prog rf #[x0] (f5b w) fun e w1=> ∃ v,e= .returned v/\R1 w1)
 (h2:∀ w1,R1 w1->Calls Tryz.prog 45 #[x0] w1 fun e w2=> ∃ a b c d,e= .returned (.agg #[.int .i64 k,a,b,c,d])/\R2 w2)
 (h4:∀ w2,R2 w2->Calls Tryz.prog 68 #[x0,.int .i64 120] w2 fun e w3=>e= .panicked [refP c f e0]/\R3 w3)
 (h3:∀ w2,R3 w2->w2.heap[w.heap.size]? =some (.cells #[.nilIface] 67 (0,0))):
 Calls Tryz.prog 43 #[x0,.func (.func rf) #[] #[]] w fun e w'=>e= .returned (.iface 64 (b7k c f e0))/\∃ w2,R3 w2/\w'=(w2.alloc (.cells (b1u c f e0) 64)).setCell ⟨w.heap.size,0,none⟩ (.iface 64 (b7k c f e0)):=by
 have hmf:∀ (fn:Fn) (first cap:Array Value) (w:World),(Instr.makeFunc fn first cap).run Tryz.prog w= .ok (.func fn first cap) w:=fun _ _ _ _=>rfl
 have hfd:=e9e
 go_enter_defers Tryz.func43,Tryz.ntmps43
 go_wp2
 refine h1.mono ?_
 rintro e w1 ⟨v,rfl,r1⟩
 go_wp2_with (first|(go_at_call 45;refine(h2 w1 r1).mono ?_;rintro e w2 ⟨y1,y2,y3,y4,rfl,r2⟩)|(go_at_call 68;refine(h4 _ (by assumption)).mono ?_;rintro e w3 ⟨rfl,r3⟩))
 have hb:=h3 _ r3
 have hlt:w.heap.size < w3.heap.size:=(Array.getElem?_eq_some_iff.1 hb).1
 have hc:w3.cell? ⟨w.heap.size,0,none⟩=some .nilIface:=by simp[World.cell?,hb]
 have hz:w3.frozen? ⟨w.heap.size,0,none⟩=false:=by simp[World.frozen?,hb]
 refine leaves_cons (f:=77) (args:= #[.pointer (some ⟨w.heap.size,0,none⟩)]) (by simp) (by simp[go_sem]) ?_
 refine(b5y ⟨w.heap.size,0,none⟩ c f e0 _ [] _ hc hz).mono ?_
 rintro e u' w'' ⟨rfl,rfl,rfl⟩
 have hc2:((w3.alloc (.cells (b1u c f e0) 64)).setCell ⟨w.heap.size,0,none⟩ (.iface 64 (b7k c f e0))).cell? ⟨w.heap.size,0,none⟩=some (.iface 64 (b7k c f e0)):=World.cell?_setCell_same' _ _ _ (by rw[World.cell?_alloc_lt _ _ ⟨w.heap.size,0,none⟩ hlt,hc];rfl)
 simp[Leaves,settle,results,Tryz.results43,go_sem,hc2]
 exact⟨w3,r3,rfl⟩
end Go.Vm.Pj
namespace Go.Vm
section
variable {P:Program} {cx:Cx} {g g':Gh} {H H':Hp} {w w':World}
open Classical in
noncomputable def Gh.hide (g:Gh) (S:Nat->Prop):Gh:=⟨fun i=>if S i then none else g.J i,g.C⟩
open Classical in
noncomputable def Gh.back (g' g:Gh) (S:Nat->Prop):Gh:=⟨fun i=>if S i then g.J i else g'.J i,g'.C⟩
open Classical in
noncomputable def Hp.back (H' H:Hp) (S:Nat->Prop):Hp:=(List.range H'.length).map fun i=>if S i then H.getD i default else H'.getD i default
theorem e7w {S:Nat->Prop} {i:Nat} (h:S i):(g.hide S).J i=none:=if_pos h
theorem c1m {S:Nat->Prop} {i:Nat} (h:¬ S i):(g.hide S).J i=g.J i:=if_neg h
theorem b1a {S:Nat->Prop} {i:Nat} (h:S i):(g'.back g S).J i=g.J i:=if_pos h
theorem a5k {S:Nat->Prop} {i:Nat} (h:¬ S i):(g'.back g S).J i=g'.J i:=if_neg h
theorem a5j {S:Nat->Prop} {i:Nat} {p:Nat×Nat} (h:(g.hide S).J i=some p):¬ S i/\g.J i=some p:=by
 by_cases hs:S i
 ·rw[e7w hs]at h;cases h
 ·rw[c1m hs]at h;exact⟨hs,h⟩
theorem c7d {S:Nat->Prop}:(Hp.back H' H S).length=H'.length:=by simp[Hp.back]
theorem e1o {S:Nat->Prop} {i:Nat} (h:S i) (hi:i < H.length) (hl:H.length<=H'.length):(Hp.back H' H S)[i]? =H[i]? :=by
 unfold Hp.back
 rw[List.getElem?_map,List.getElem?_range om]
 simp[h,hi,List.getD_eq_getElem?_getD]
theorem b0p {S:Nat->Prop} {i:Nat} (h:¬ S i):(Hp.back H' H S)[i]? =H'[i]? :=by
 unfold Hp.back
 rw[List.getElem?_map]
 by_cases hi:i < H'.length
 ·rw[List.getElem?_range hi]
  simp[h,hi,List.getD_eq_getElem?_getD]
 ·rw[List.getElem?_eq_none (by simpa using hi),List.getElem?_eq_none om]
  rfl
theorem Inv.hide (hI:Inv cx g H w) {S:Nat->Prop} (hob:∀ i b c o,¬ S i->g.J i=some (b,c)->H[i]? =some o->e2r (g.hide S) H w b c o):Inv cx (g.hide S) H w:=
 ⟨fun i k b c c' h1 h2=>hI.inj i k b c c' (a5j h1).2 (a5j h2).2,fun i b c h=>hI.dom i b c (a5j h).2,fun i b c o h ho=>hob i b c o (a5j h).1 (a5j h).2 ho,hI.imm,hI.und,hI.glob,fun i o hi=>⟨(hI.fix i o hi).1,fun k c h=>(hI.fix i o hi).2 k c (a5j h).2⟩⟩
theorem Inv.back (hI:Inv cx g H w) (hI':Inv cx g' H' w') {S:Nat->Prop} (hS:∀ i,S i->i < H.length/\∀ sz l,H[i]? ≠some (.row sz l)) (e:Ext H.length (g.hide S) H w g' H' w'):Inv cx (g'.back g S) (Hp.back H' H S) w'/\Ext H.length g H w (g'.back g S) (Hp.back H' H S) w':=by
 have hin:∀ {i},S i->(Hp.back H' H S)[i]? =H[i]? :=fun h=>e1o h (hS _ h).1 e.len
 have hsm:∀ {i b c},S i->g.J i=some (b,c)->w'.heap[b]? =w.heap[b]? /\g'.C b=g.C b:=fun{i b c} h hj=>e.frame b (hI.dom i b c hj).2 fun k c' hk=>by
   obtain⟨h1,h2⟩:=a5j hk
   obtain rfl:=hI.inj k i b c' c h2 hj
   exact h1 h
 have hmix:∀ {i k b c c'},S i->g.J i=some (b,c)->g'.J k=some (b,c')->False:=fun{i k b c c'} h hj hk=>by
   obtain⟨k2,c2,h2⟩:=e.jnew k b c' hk (hI.dom i b c hj).2
   obtain⟨h3,h4⟩:=a5j h2
   obtain rfl:=hI.inj k2 i b c2 c h4 hj
   exact h3 h
 have hkeep:Keep H.length g H (g'.back g S) (Hp.back H' H S):=by
  refine⟨e.keep.C,fun i o hi ho hr=>?_,fun i sz l hi ho=>?_⟩
  ·by_cases hs:S i
   ·exact⟨b1a hs,o,(hin hs).trans ho,hr⟩
   ·obtain⟨h1,o',h2,h3⟩:=e.keep.obj i o hi ho hr
    exact⟨(a5k hs).trans (h1.trans (c1m hs)),o',(b0p hs).trans h2,h3⟩
  ·have hs:¬ S i:=fun h=>(hS i h).2 sz l ho
   obtain⟨l',h1,h2,h3⟩:=e.keep.row i sz l hi ho
   exact⟨l',(b0p hs).trans h1,h2,fun hl=>(a5k hs).trans ((h3 hl).trans (c1m hs))⟩
 have hkw:c5k H'.length g' H' (g'.back g S) (Hp.back H' H S):=by
  refine⟨fun _=>List.prefix_refl _,fun i o hi ho hr=>?_,fun i sz l hi ho=>?_⟩
  ·by_cases hs:S i
   ·obtain⟨hl,hn⟩:=hS i hs
    have hiH:H[i]? =some H[i]:=List.getElem?_eq_getElem hl
    obtain⟨h1,_⟩:=e.keep.obj i _ hl hiH fun sz l hh=>hn sz l (by rw[hiH,hh])
    refine⟨fun p hp=>?_,H[i],(hin hs).trans hiH,fun sz l hh=>hn sz l (by rw[hiH,hh])⟩
    rw[h1,e7w hs]at hp
    cases hp
   ·exact⟨fun p hp=>(a5k hs).trans hp,o,(b0p hs).trans ho,hr⟩
  ·by_cases hs:S i
   ·obtain⟨hl,hn⟩:=hS i hs
    have hiH:H[i]? =some H[i]:=List.getElem?_eq_getElem hl
    obtain⟨_,o',h2,h3⟩:=e.keep.obj i _ hl hiH fun sz l hh=>hn sz l (by rw[hiH,hh])
    rw[ho]at h2
    cases h2
    exact absurd rfl (h3 sz l)
   ·exact⟨l,(b0p hs).trans ho,List.prefix_refl _,fun _ p hp=>(a5k hs).trans hp⟩
 refine⟨⟨fun i k b c c' h1 h2=>?_,fun i b c h=>?_,fun i b c o h ho=>?_,hI'.imm,fun i c hi h=>?_,hI'.glob,fun i o hi=>⟨(hI'.fix i o hi).1,fun k c h=>?_⟩⟩,e.os,e.tape,e.output,e.size,fun b hb hj=>?_,hkeep,fun i b c h hb=>?_,fun n hn hc i c hi h=>?_,by rw[c7d];exact e.len⟩
 ·by_cases hs:S i<;>by_cases hk:S k
  ·rw[b1a hs]at h1;rw[b1a hk]at h2;exact hI.inj i k b c c' h1 h2
  ·rw[b1a hs]at h1;rw[a5k hk]at h2;exact(hmix hs h1 h2).elim
  ·rw[a5k hs]at h1;rw[b1a hk]at h2;exact(hmix hk h2 h1).elim
  ·rw[a5k hs]at h1;rw[a5k hk]at h2;exact hI'.inj i k b c c' h1 h2
 ·rw[c7d]
  by_cases hs:S i
  ·rw[b1a hs]at h
   obtain⟨h1,h2⟩:=hI.dom i b c h
   exact⟨Nat.lt_of_lt_of_le h1 e.len,Nat.lt_of_lt_of_le h2 e.size⟩
  ·rw[a5k hs]at h
   exact hI'.dom i b c h
 ·by_cases hs:S i
  ·rw[b1a hs]at h
   rw[hin hs]at ho
   obtain⟨h1,h2⟩:=hsm hs h
   exact(hI.ob i b c o h ho).ext hkeep.w h1 h2 (by rintro c' rfl;exact hI.und i c' (hI.dom i b c h).1 ho)
  ·rw[a5k hs]at h
   rw[b0p hs]at ho
   exact(hI'.ob i b c o h ho).ext hkw rfl rfl (by rintro c' rfl;exact hI'.und i c' (hI'.dom i b c h).1 ho)
 ·rw[c7d]at hi⊢
  by_cases hs:S i
  ·rw[hin hs]at h
   exact a3q e.len c (hI.und i c (hS i hs).1 h)
  ·rw[b0p hs]at h
   exact hI'.und i c hi h
 ·by_cases hs:S k
  ·rw[b1a hs]at h
   obtain⟨o1,h1⟩:∃ o1,cx.fx i=some o1:=⟨o,hi⟩
   exact(hI.fix i o hi).2 k c h
  ·rw[a5k hs]at h
   exact(hI'.fix i o hi).2 k c h
 ·exact e.frame b hb fun i c h=>hj i c (a5j h).2
 ·by_cases hs:S i
  ·rw[b1a hs]at h
   exact⟨i,c,h⟩
  ·rw[a5k hs]at h
   obtain⟨k,c',hk⟩:=e.jnew i b c h hb
   exact⟨k,c',(a5j hk).2⟩
 ·by_cases hs:S i
  ·rw[hin hs]at h
   exact hc i c hi h
  ·rw[b0p hs]at h
   exact e.clean n hn hc i c hi h
end
end Go.Vm
namespace Go.Vm.Px
open Go.Vm.Lex (TokQ)
open Go.Vm.Pa hiding go
open Go.Vm.Ite
open Go Go.Proofs Go.RowKit
set_option maxHeartbeats 2000000
section
variable {cx:Cx} {g g2:Gh} {H H2:Hp} {w w2 w4:World}
theorem d3a (hI:Inv cx g H w) (o:Obj):Inv cx g H (w.alloc o)/\Ext H.length g H w g H (w.alloc o):=hI.below ((Below.refl _ w).alloc (Nat.le_refl _) o)
theorem d1i (hI:Inv cx g H w) {o:Obj} (e:Ext H.length g H (w.alloc o) g2 H2 w2):w2.heap[w.heap.size]? =some o:=by
 have h:=(e.frame w.heap.size (by simp) fun i c=>hI.g2u (Nat.le_refl _) i c).1
 rw[h]
 exact World.alloc_heap_new w o
theorem e1a (hI:Inv cx g H w) {o:Obj} (hI2:Inv cx g2 H2 w2) (e:Ext H.length g H (w.alloc o) g2 H2 w2) (e1:w4.os=w2.os) (e2:w4.tape=w2.tape) (e3:w4.output=w2.output) (e4:w2.heap.size<=w4.heap.size) (e5:∀ b,b < w2.heap.size->b≠w.heap.size->w4.heap[b]? =w2.heap[b]?):
 Inv cx g2 H2 w4/\Ext H.length g H w g2 H2 w4:=by
 have hj:∀ i c,g2.J i≠some (w.heap.size,c):=fun i c h=>by
   obtain⟨k,c',hk⟩:=e.jnew i _ c h (by simp)
   exact hI.g2u (Nat.le_refl _) k c' hk
 have hC:g2.C w.heap.size=[]:=(e.frame w.heap.size (by simp) fun i c=>hI.g2u (Nat.le_refl _) i c).2.trans (hI.e6u (Nat.le_refl _))
 have e0:Ext H.length g H w g2 H2 w2:=(d3a hI o).2.trans e (Nat.le_refl _)
 have hsz:=e0.size
 refine⟨hI2.untr e4 fun b hb=>?_,e1.trans e0.os,e2.trans e0.tape,e3.trans e0.output,Nat.le_trans e0.size e4,fun b hb hj'=>?_,e0.keep,e0.jnew,e0.clean,e0.len⟩
 ·rcases hb with⟨i,c,h⟩|h|h
  ·exact e5 b (hI2.dom i b c h).2 fun hh=>by subst hh;exact hj i c h
  ·obtain⟨cur,t,fz,h1,_⟩:=hI2.imm b h
   exact e5 b (Array.getElem?_eq_some_iff.1 h1).1 fun hh=>by subst hh;exact h hC
  ·obtain⟨o',ho⟩:=Option.ne_none_iff_exists'.1 h
   have h1:=(Array.getElem?_eq_some_iff.1 (hI.fix b o' ho).1).1
   exact e5 b om om
 ·obtain⟨h1,h2⟩:=e0.frame b hb hj'
  exact⟨(e5 b om om).trans h1,h2⟩
end
theorem e8d {C:Nat->List Value} {t:TokQ} {x:Value} (h:a3d C (b2k t) x):∃ a b c d,x= .agg #[.int .i64 t.k,a,b,c,d]:=by
 unfold b2k a3d at h
 obtain⟨cs,rfl,h⟩:=h
 simp only[a1n,a0p,List.cons.injEq,and_true]at h
 obtain⟨y1,ys1,h1,_,rfl,y2,ys2,rfl,_,e2,y3,ys3,rfl,_,e3,y4,ys4,rfl,_,e4,y5,ys5,rfl,_,e5,rfl⟩:=h
 have:cs= #[.int .i64 t.k,y2,y3,y4,y5]:=Array.ext' h1
 exact⟨y2,y3,y4,y5,by rw[this]⟩
section
variable {cx:Cx}
theorem g3h {f:Nat} (h:∃ fn,Tryz.prog.funcs[f]? =some fn/\fn.body.isNone=false/\(fn.name== "runtime.NumGoroutine")=false) (a:Array Value) (W:World):(callFunc f a).run Tryz.prog W= .ok (.enter f a) W:=by
 obtain⟨fn,h1,h2,h3⟩:=h
 exact a8b h1 h2 h3 a
theorem d8j {g:Gh} {H:Hp} {p rf:Nat} {cargs:Array Value} (ra:a0w g H [.ptr p 0,.fn rf []] cargs.toList):∃ x0,cargs= #[x0,.func (.func rf) #[] #[]]/\Rep g H (.ptr p 0) x0:=by
 simp only[a0w]at ra
 obtain⟨x0,ys,e1,h0,x1,zs,rfl,h1,rfl⟩:=ra
 simp only[Rep,a0w]at h1
 obtain⟨cs,rfl,h2⟩:=h1
 have e2:cs= #[]:=Array.ext' h2
 subst e2
 exact⟨x0,Array.ext' e1,h0⟩
theorem f6w {rf p:Nat} {H H1:Hp} {v:V} {t:TokQ} (hR:a1z Tryz.prog cx rf [.ptr p 0] H v H1) (hN:a1z Tryz.prog cx 45 [.ptr p 0] H1 (.d (b2k t)) H1) (hk:t.k=5) (hp:p < H.length):a1z Tryz.prog cx 43 [.ptr p 0,.fn rf []] H (.ifc true) H1:=by
 refine⟨⟨Tryz.f43,Tryz.func43,rfl,by decide⟩,fun g w cargs hI ra ua=>?_⟩
 obtain⟨x0,rfl,h0⟩:=d8j ra
 obtain⟨i1,e1⟩:=d3a hI (.cells #[.nilIface] 67)
 have up:a0z H.length [.ptr p 0]=true:=by simp[a0z,V.und,hp]
 have one:∀ {g:Gh} {H:Hp},Rep g H (.ptr p 0) x0->a0w g H [.ptr p 0] [x0]:=fun h=>by simp only[a0w];exact⟨x0,[],rfl,h,rfl⟩
 have u0:(V.ptr p 0).und H.length=true:=by simp[V.und,hp]
 refine(Pj.f5m rf x0 w (g3h hR.1 _) (fun w1=> ∃ g1,Inv cx g1 H1 w1/\Ext H.length g H (Pj.f5b w) g1 H1 w1) (fun w1=> ∃ g1,Inv cx g1 H1 w1/\Ext H.length g H (Pj.f5b w) g1 H1 w1) ((hR.2 g _ #[x0] i1 (one h0) up).mono ?_) (fun w1 h=>?_) (fun w2 ⟨g2,_,j2⟩=>d1i hI j2)).mono ?_
 ·rintro e w1 ⟨g1,x,rfl,j1,_,_,j2⟩
  exact⟨x,rfl,g1,j1,j2⟩
 ·obtain⟨g1,j1,j2⟩:=h
  refine(hN.2 g1 w1 #[x0] j1 (one (a2n j2.keep.w _ _ u0 h0)) (by simp only[a0z,V.a7f j2.len _ u0,Bool.and_self])).mono ?_
  rintro e w2 ⟨g2,x,rfl,k1,k2,_,k3⟩
  obtain⟨a,b,c,d,rfl⟩:=e8d k2
  rw[hk]
  exact⟨a,b,c,d,rfl,g2,k1,j2.trans (k3.le j2.len) (Nat.le_refl _)⟩
 ·rintro e w' ⟨rfl,w2,⟨g2,j1,j2⟩,rfl⟩
  obtain⟨q1,q2⟩:=e1a (w4:=w2.setCell ⟨w.heap.size,0,none⟩ .nilIface) hI j1 j2 rfl rfl rfl (by simp) fun b _ hb=>heap_setCell_other _ _ _ _ hb
  exact⟨g2,_,rfl,q1,.inl ⟨rfl,rfl⟩,rfl,q2⟩
def c4e (cx:Cx) (K:Hp->Prop) (rf p:Nat) (H:Hp) (c f e:Int):Prop:=∀ g w (cargs:Array Value),Inv cx g H w->a0w g H [.ptr p 0,.fn rf []] cargs.toList->a0z H.length [.ptr p 0,.fn rf []]=true->
 Calls Tryz.prog 43 cargs w (fun ev w'=> ∃ g' H',ev= .returned (.iface 64 (.agg #[.int .i64 c,.int .i64 f,.int .i64 e]))/\Inv cx g' H' w'/\K H'/\Ext H.length g H w g' H' w')
theorem out2 {w w2:World} (a:Obj) (v:Value):∀ b,b < w2.heap.size->b≠w.heap.size->((w2.alloc a).setCell ⟨w.heap.size,0,none⟩ v).heap[b]? =w2.heap[b]? :=fun b hb hne=>
 (heap_setCell_other _ _ _ _ hne).trans (Below.heap_alloc w2 a b hb)
theorem d2u {K:Hp->Prop} {rf p:Nat} {H:Hp} {c f e:Int} (hR:b2g Tryz.prog cx K f0o rf [.ptr p 0] H (c7z c f e)) (hp:p < H.length):c4e cx K rf p H c f e:=by
 intro g w cargs hI ra ua
 obtain⟨x0,rfl,h0⟩:=d8j ra
 obtain⟨i1,e1⟩:=d3a hI (.cells #[.nilIface] 67)
 have up:a0z H.length [.ptr p 0]=true:=by simp[a0z,V.und,hp]
 have one:∀ {g:Gh} {H:Hp},Rep g H (.ptr p 0) x0->a0w g H [.ptr p 0] [x0]:=fun h=>by simp only[a0w];exact⟨x0,[],rfl,h,rfl⟩
 refine(Pj.f8w rf x0 w c f e (g3h hR.1 _) (fun w1=> ∃ g1 H1,Inv cx g1 H1 w1/\K H1/\Ext H.length g H (Pj.f5b w) g1 H1 w1) ((hR.2 g _ #[x0] i1 (one h0) up).mono ?_) (fun w2 ⟨g2,H2,_,_,j2⟩=>d1i hI j2)).mono ?_
 ·rintro e w1 ⟨g1,H1,rfl,j1,j2,j3⟩
  exact⟨rfl,g1,H1,j1,j2,j3⟩
 ·rintro ev w' ⟨rfl,w2,⟨g2,H2,j1,j2,j3⟩,rfl⟩
  obtain⟨q1,q2⟩:=e1a (w4:=(w2.alloc (.cells (Pj.b1u c f e) 64)).setCell ⟨w.heap.size,0,none⟩ (.iface 64 (Pj.b7k c f e))) hI j1 j3 rfl rfl rfl (by simp) (out2 _ _)
  exact⟨g2,H2,rfl,q1,j2,q2⟩
theorem d1r {K:Hp->Prop} {rf p:Nat} {H H1:Hp} {v:V} {t:TokQ} {c f e:Int} (hR:a1z Tryz.prog cx rf [.ptr p 0] H v H1) (hN:a1z Tryz.prog cx 45 [.ptr p 0] H1 (.d (b2k t)) H1) (hk:t.k≠5) (hF:b2g Tryz.prog cx K f0o 68 [.ptr p 0,.d (.int .i64 120)] H1 (c7z c f e)) (hp:p < H.length):c4e cx K rf p H c f e:=by
 intro g w cargs hI ra ua
 obtain⟨x0,rfl,h0⟩:=d8j ra
 obtain⟨i1,e1⟩:=d3a hI (.cells #[.nilIface] 67)
 have up:a0z H.length [.ptr p 0]=true:=by simp[a0z,V.und,hp]
 have one:∀ {g:Gh} {H:Hp},Rep g H (.ptr p 0) x0->a0w g H [.ptr p 0] [x0]:=fun h=>by simp only[a0w];exact⟨x0,[],rfl,h,rfl⟩
 have u0:(V.ptr p 0).und H.length=true:=by simp[V.und,hp]
 refine(Pj.f9e rf x0 w c f e t.k hk (g3h hR.1 _) (fun w1=> ∃ g1,Inv cx g1 H1 w1/\Ext H.length g H (Pj.f5b w) g1 H1 w1) (fun w1=> ∃ g1,Inv cx g1 H1 w1/\Ext H.length g H (Pj.f5b w) g1 H1 w1) (fun w1=> ∃ g1 H2,Inv cx g1 H2 w1/\K H2/\Ext H.length g H (Pj.f5b w) g1 H2 w1) ((hR.2 g _ #[x0] i1 (one h0) up).mono ?_) (fun w1 h=>?_) (fun w2 h=>?_) (fun w2 ⟨g2,H2,_,_,j2⟩=>d1i hI j2)).mono ?_
 ·rintro e w1 ⟨g1,x,rfl,j1,_,_,j2⟩
  exact⟨x,rfl,g1,j1,j2⟩
 ·obtain⟨g1,j1,j2⟩:=h
  refine(hN.2 g1 w1 #[x0] j1 (one (a2n j2.keep.w _ _ u0 h0)) (by simp only[a0z,V.a7f j2.len _ u0,Bool.and_self])).mono ?_
  rintro e w2 ⟨g2,x,rfl,k1,k2,_,k3⟩
  obtain⟨a,b,c,d,rfl⟩:=e8d k2
  exact⟨a,b,c,d,rfl,g2,k1,j2.trans (k3.le j2.len) (Nat.le_refl _)⟩
 ·obtain⟨g1,j1,j2⟩:=h
  refine(hF.2 g1 w2 #[x0,.int .i64 120] j1 (by simp only[a0w];exact⟨x0,_,rfl,a2n j2.keep.w _ _ u0 h0,_,[],rfl,rfl,rfl⟩) (by simp only[a0z,V.a7f j2.len _ u0];rfl)).mono ?_
  rintro ev w3 ⟨g3,H3,rfl,k1,k2,k3⟩
  exact⟨rfl,g3,H3,k1,k2,j2.trans (k3.le j2.len) (Nat.le_refl _)⟩
 ·rintro ev w' ⟨rfl,w2,⟨g2,H2,j1,j2,j3⟩,rfl⟩
  obtain⟨q1,q2⟩:=e1a (w4:=(w2.alloc (.cells (Pj.b1u c f e) 64)).setCell ⟨w.heap.size,0,none⟩ (.iface 64 (Pj.b7k c f e))) hI j1 j3 rfl rfl rfl (by simp) (out2 _ _)
  exact⟨g2,H2,rfl,q1,j2,q2⟩
theorem c4e.hidden {K:Hp->Prop} {rf p:Nat} {H:Hp} {c f e:Int} (h:c4e cx K rf p H c f e) {S:Nat->Prop} (hS:∀ i,S i->i < H.length/\∀ sz l,H[i]? ≠some (.row sz l)) (hp:¬ S p) {g:Gh} {w:World} {cargs:Array Value} (hI:Inv cx g H w) (hob:∀ i b c o,¬ S i->g.J i=some (b,c)->H[i]? =some o->e2r (g.hide S) H w b c o) (ra:a0w g H [.ptr p 0,.fn rf []] cargs.toList) (ua:a0z H.length [.ptr p 0,.fn rf []]=true):
 Calls Tryz.prog 43 cargs w (fun ev w'=> ∃ g' H',ev= .returned (.iface 64 (.agg #[.int .i64 c,.int .i64 f,.int .i64 e]))/\Inv cx g' H' w'/\(∀ i,S i->H'[i]? =H[i]?)/\Ext H.length g H w g' H' w'):=by
 have ra':a0w (g.hide S) H [.ptr p 0,.fn rf []] cargs.toList:=by
  simp only[a0w,Rep]at ra⊢
  obtain⟨x0,ys,e1,⟨h1,b,c',h2,h3⟩,h4⟩:=ra
  exact⟨x0,ys,e1,⟨h1,b,c',(c1m hp).trans h2,h3⟩,h4⟩
 refine(h _ w cargs (hI.hide hob) ra' ua).mono ?_
 rintro ev w' ⟨g',H',rfl,i1,_,i3⟩
 obtain⟨q1,q2⟩:=Inv.back hI i1 hS i3
 exact⟨_,_,rfl,q1,fun i hs=>e1o hs (hS i hs).1 i3.len,q2⟩
end
end Go.Vm.Px
namespace Go.Vm.Px
open Go Go.Proofs Go.RowKit
set_option maxHeartbeats 2000000
section
variable {cx:Cx} {g:Gh} {H:Hp} {w:World}
abbrev i3v (a b c:Int):Ob:= .box [.d (.int .i64 a),.d (.int .i64 b),.d (.int .i64 c)]
theorem d7z (hI:Inv cx g H w) {fz:Nat×Nat} {tt:TypeId} (hg:cx.fx 0=some (.cells #[.iface 122 (.agg #[.pointer (some ⟨9,67,none⟩)])] tt fz)) {id tb cap:Nat} (hJ:g.J id=some (tb,cap)) {a b d:Int} (ho:H[id]? =some (i3v a b d)) (c f e:Int):
 Calls Tryz.prog 42 #[.iface 64 (.agg #[.int .i64 c,.int .i64 f,.int .i64 e]),.iface 69 (.pointer (some ⟨tb,0,none⟩))] w fun ev w'=>ev= .returned (.bool true)/\Inv cx g (H.set id (i3v c f e)) w'/\Ext H.length g H w g (H.set id (i3v c f e)) w':=by
 obtain⟨h0,_⟩:=hI.fix 0 _ hg
 have hc0:w.cell? ⟨0,0,none⟩=some (.iface 122 (.agg #[.pointer (some ⟨9,67,none⟩)])):=by simp[World.cell?,h0]
 obtain⟨cur,t2,p1,p2,p3⟩:=hI.ob id tb cap _ hJ ho
 have hcs:cur.size=3:=by
  simp only[a1p]at p2
  obtain⟨y1,z1,e1,_,_,y2,z2,rfl,_,_,y3,z3,rfl,_,_,rfl⟩:=p2
  have:=congrArg List.length e1
  simpa using this
 refine(Pj.h3u c f e tb cur t2 w hc0 p1 hcs).mono ?_
 rintro ev w' ⟨rfl,hw⟩
 have htl:tb < w.heap.size:=(hI.dom id tb cap hJ).2
 have hB:Below w.heap.size w ((((w.alloc (.cells #[.pointer (some ⟨tb,0,none⟩)] 69)).alloc (.cells #[.pointer (some ⟨9,69,none⟩),.pointer (some ⟨w.heap.size,0,none⟩),.int .u64 150] 94)).alloc (.cells #[.pointer (some ⟨9,69,none⟩),.pointer (some ⟨w.heap.size,0,none⟩),.int .u64 150] 94)).alloc (.cells (Pj.cells3 c f e) 64)):=
  ((((Below.refl _ w).alloc (Nat.le_refl _) _).alloc (by simp) _).alloc (by simp;omega) _).alloc (by simp;omega) _
 obtain⟨W5,e5⟩:∃ W5,W5=((((w.alloc (.cells #[.pointer (some ⟨tb,0,none⟩)] 69)).alloc (.cells #[.pointer (some ⟨9,69,none⟩),.pointer (some ⟨w.heap.size,0,none⟩),.int .u64 150] 94)).alloc (.cells #[.pointer (some ⟨9,69,none⟩),.pointer (some ⟨w.heap.size,0,none⟩),.int .u64 150] 94)).alloc (.cells (Pj.cells3 c f e) 64)):=⟨_,rfl⟩
 rw[<-e5]at hw hB
 subst hw
 clear e5
 obtain⟨i1,e1⟩:=hI.below hB
 have hb1:=(hB.block tb htl).trans p1
 obtain⟨i2,e2⟩:=i1.g1n (nb:=H.length) hJ ho (c':=[.d (.int .i64 c),.d (.int .i64 f),.d (.int .i64 e)]) (w':=W5.setRow tb (Pj.cells3 c f e)) rfl rfl rfl (by simp[World.setRow]) (fun k hk=>setRow_other _ _ _ _ hk)
   ⟨_,_,setRow_heap _ _ _ _ _ _ hb1,by simp only[a1p,Rep,a3d,a0p];exact⟨_,_,rfl,rfl,rfl,_,_,rfl,rfl,rfl,_,_,rfl,rfl,rfl,rfl⟩,p3⟩ rfl (fun n _ _ _=>rfl)
 exact⟨rfl,i2,e1.trans e2 (Nat.le_refl _)⟩
theorem d9o {v:V}:a1z Tryz.prog cx 42 [.ifc true,v] H (.d (.bool false)) H:=by
 refine⟨⟨Tryz.f42,Tryz.func42,rfl,by decide⟩,fun g w cargs hI ra ua=>?_⟩
 simp only[a0w]at ra
 obtain⟨x0,ys,e1,h0,x1,zs,rfl,h1,rfl⟩:=ra
 simp only[Rep]at h0
 have hx:x0= .nilIface:=by
  rcases h0 with⟨_,h⟩|⟨h,_⟩
  ·exact h
  ·cases h
 subst hx
 have hc:cargs= #[.nilIface,x1]:=Array.ext' e1
 subst hc
 refine(Pj.g9r x1 w).mono ?_
 rintro e w' ⟨rfl,rfl⟩
 exact⟨g,_,rfl,hI,rfl,rfl,Ext.refl _ _ _ _⟩
end
end Go.Vm.Px
namespace Go.Vm.Px
open Go.Vm.Lex (TokQ)
open Go.Vm.Pa hiding go
open Go.Vm.Ite
open Go Go.Proofs Go.RowKit
set_option maxHeartbeats 2000000
section
variable {fx:Nat->Option Obj} {n:Nat}
theorem e3d {F:Nat->Option a0v} (hT:a3i Tryz.prog (pgL fx F)) {f:Nat} {a:List V} {H:Hp} {r:V} {H':Hp} (h:evF (pgL fx F) f a H=some (r,H')):a1z Tryz.prog ⟨fun _=>[],fx⟩ f a H r H':=c1u hT d2r f a H r H' h
theorem e2u {H:Hp} {p r:Nat} {l:List TokQ} {s:PS} {bb:Bool} (A:AtP H p r l s bb) (hs:okS l s=true):a1z Tryz.prog ⟨fun _=>[],fx⟩ 45 [.ptr p 0] H (.d (b2k (now l s))) H:=by
  have e:=a3r (fx:=fx) (F:=FN 0) (l:=l) (s:=s) (bb:=bb) (X:=[]) hs
  obtain⟨H3,h1,h2⟩:=b9s (b0u 0 fx) A.mv A.hr e
  have h3:H3=H:=by
   rw[d4t A.lt A.rl h2]
   have hp:p < H.length:=by have:=A.lt;have:=A.rl;omega
   unfold d0h
   apply List.ext_getElem?
   intro j
   rw[List.getElem?_set,List.getElem?_set]
   by_cases e1:r=j
   ·subst e1;rw[if_pos rfl,if_pos (by rw[List.length_set];exact A.rl)];exact A.row.symm
   ·rw[if_neg e1]
    by_cases e2:p=j
    ·subst e2;rw[if_pos rfl,if_pos hp];exact A.box.symm
    ·rw[if_neg e2]
  rw[h3]at h1
  exact e3d (b1t fx 0).tbl h1
theorem d8b {f p r:Nat} (hf:f=22\/f=37\/f=39) {H:Hp} {l:List TokQ} {s s1:PS} {bb:Bool} {q:Q} {R:R} (hq:qOf f [] bb=some q) (G:Good l s) (A:AtP H p r l s bb) (e:goE l n q s=some (.ok R s1)):a1z Tryz.prog ⟨fun _=>[],fx⟩ f [.ptr p 0] H (.d (b3s l s R s1)) (d0h H p r l s1 bb):=by
  have hk:okN n f [.ptr p 0] H (.d (b3s l s R s1)) (d0h H p r l s1 bb):=⟨p,r,[],l,s,bb,q,R,s1,rfl,hq,G,A,e,rfl,rfl⟩
  rcases hf with rfl|rfl|rfl
  ·exact(b1t fx n).tbl 22 (.prim (c5d n 22)) rfl _ _ _ _ (b0v.2 hk)
  ·exact(b1t fx n).tbl 37 (.prim (c5d n 37)) rfl _ _ _ _ (b0v.2 hk)
  ·exact(b1t fx n).tbl 39 (.prim (c5d n 39)) rfl _ _ _ _ (b0v.2 hk)
theorem c8f {f p r:Nat} {H:Hp} {l:List TokQ} {s:PS} {bb:Bool} {q:Q} {c a b:Int} (hq:qOf f [] bb=some q) (G:Good l s) (A:AtP H p r l s bb) (e:goE l n q s=some (.bad c a b)):b2g Tryz.prog ⟨fun _=>[],fx⟩ (KP p) f0o f [.ptr p 0] H (c7z c a b):=
  (b1t fx n).dies p f [.ptr p 0] H _ (.inr ⟨r,[],l,s,bb,q,c,a,b,rfl,hq,G,A,e,rfl⟩)
theorem AtP.set {H:Hp} {p r:Nat} {l:List TokQ} {s:PS} {bb:Bool} (A:AtP H p r l s bb) (s1:PS):AtP (d0h H p r l s1 bb) p r l s1 bb:=by
 have hp:p < H.length:=by have:=A.lt;have:=A.rl;omega
 refine⟨A.lt,?_,?_⟩
 ·unfold d0h
  rw[List.getElem?_set_ne (by have:=A.lt;omega),List.getElem?_set_self hp]
 ·unfold d0h
  rw[List.getElem?_set_self (by rw[List.length_set];exact A.rl)]
theorem AtP.pl {H:Hp} {p r:Nat} {l:List TokQ} {s:PS} {bb:Bool} (A:AtP H p r l s bb):p < H.length:=by have:=A.lt;have:=A.rl;omega
theorem d1o {f p r:Nat} {H:Hp} {l:List TokQ} {s s1:PS} {bb:Bool} {v:V} (A:AtP H p r l s bb) (h:a1z Tryz.prog ⟨fun _=>[],fx⟩ f [.ptr p 0] H v (d0h H p r l s1 bb)) (hs:okS l s1=true) (hk:(now l s1).k=5):a1z Tryz.prog ⟨fun _=>[],fx⟩ 43 [.ptr p 0,.fn f []] H (.ifc true) (d0h H p r l s1 bb):=
  f6w h (e2u (A.set s1) hs) hk A.pl
theorem f9d {f p r:Nat} {H:Hp} {l:List TokQ} {s s1:PS} {bb:Bool} {v:V} (A:AtP H p r l s bb) (h:a1z Tryz.prog ⟨fun _=>[],fx⟩ f [.ptr p 0] H v (d0h H p r l s1 bb)) (hs:okS l s1=true) (hk:(now l s1).k≠5):c4e ⟨fun _=>[],fx⟩ (KP p) f p H 120 (now l s1).f (now l s1).e:=
  d1r h (e2u (A.set s1) hs) hk ((b1t fx 0).dies p 68 _ _ _ (.inl ⟨rfl,120,l,s1,bb,r,rfl,A.lt,(A.set s1).row,(A.set s1).box,hs,rfl⟩)) A.pl
theorem d0d {l:List TokQ} {s:PS} {bb:Bool} (G:Good l s):Says (pgL fx (FN n)) (b4d n 0) a9h [.ptr 0 0] [QB l s bb,PR s] (b8a l (goE l (n+1) (.items Pa.K.o) s)) (leftV l bb [] fun r s'=> .d (c5i r.i 0 (now l s').e)):=
  have W:Wk fx (FN n) (b4d n) l:=⟨b0u n fx,c3i n,G.gl⟩
  g3x W (i2t W (i4p n fx G.gl)).item s bb G.gs G.gz
theorem f7f {p r:Nat} {H:Hp} {l:List TokQ} {s s1:PS} {bb:Bool} {R:R} (G:Good l s) (A:AtP H p r l s bb) (e:b8a l (goE l (n+1) (.items Pa.K.o) s)=some (.ok R s1)):a1z Tryz.prog ⟨fun _=>[],fx⟩ 21 [.ptr p 0] H (.d (c5i R.i 0 (now l s1).e)) (d0h H p r l s1 bb):=by
  have h:=d0d (fx:=fx) (n:=n) (bb:=bb) G
  rw[e]at h
  obtain⟨H3,h1,h2⟩:=b9s (b0u n fx) A.mv A.hr h
  rw[d4t A.lt A.rl h2]at h1
  exact e3d (b1t fx n).tbl h1
theorem e6s {p r:Nat} {H:Hp} {l:List TokQ} {s:PS} {bb:Bool} {c a b:Int} (G:Good l s) (A:AtP H p r l s bb) (e:b8a l (goE l (n+1) (.items Pa.K.o) s)=some (.bad c a b)):b2g Tryz.prog ⟨fun _=>[],fx⟩ (KP p) f0o 21 [.ptr p 0] H (c7z c a b):=by
  have h:=d0d (fx:=fx) (n:=n) (bb:=bb) G
  rw[e]at h
  have hdd:DSh (d9p p r H.length) 2 H (a1q (pgL fx (FN n)) (b4d n 0)) (a1q (pgL fx (FN n)) (b4d n p)):=c5t A.mv (b0u n fx) ((c3i n).sh (p:=0) A.mv)
  exact b9h (b1t fx n).tbl d2r ((b1t fx n).dies p) _ _ _ _ (hdd _ _ _ _ _ A.hr h)
end
end Go.Vm.Px
namespace Go.Vm.Px
open Go.Vm.Ite
open Go Go.Proofs Go.RowKit
theorem f7h (f:Nat) {fn:Func} (h:Tryz.prog.funcs[f]? =some fn) (h1:fn.body.isNone=false) (h2:(fn.name== "runtime.NumGoroutine")=false):d0k Tryz.prog f:=⟨fn,h,h1,h2⟩
structure e7g (fx:Nat->Option Obj):Prop where
 utf:∀ g H w,Inv ⟨fun _=>[],fx⟩ g H w->Lib.Utf8Tabs 1 2 w
 er4:e0u ⟨fun _=>[],fx⟩ 4
 er5:e0u ⟨fun _=>[],fx⟩ 5
 ty:∃ tt fz,fx 0=some (.cells #[.iface 122 (.agg #[.pointer (some ⟨9,67,none⟩)])] tt fz)
theorem d8u (w:World) (s:ByteArray):Below w.heap.size w (Lib.bytesWorld w 5 s):=by
 have hb:Below w.heap.size w (w.drew.alloc (.cells (Lib.bytesCells w 5 s) 5)):=(Below.refl _ w).drew.alloc (Nat.le_refl _) _
 unfold Lib.bytesWorld World.freeze
 rw[if_neg (by decide)]
 refine hb.trans ⟨rfl,rfl,rfl,by simp,fun k hk=>?_⟩
 show(Array.modify _ _ _)[k]? =_
 rw[Array.getElem?_modify,if_neg (fun e=>by have e':w.heap.size=k:=e;omega)]
def FL:Nat->Option a0v
 |70=>some (.prim c8c)
 |99=>some (.prim b3b)
 |100=>some (.prim a6s)
 |124=>some (.prim b6o)
 |_=>none
instance:HL FL:=⟨rfl,rfl,rfl,rfl⟩
section
variable {fx:Nat->Option Obj}
theorem h5e (X:e7g fx):∀ f e,FL f=some e->match e with| .prim p=> ∀ args H r H',p args H=some (r,H')->a1z Tryz.prog ⟨fun _=>[],fx⟩ f args H r H'| .code _=>False:=by
  intro f e h
  unfold FL at h
  split at h
  ·cases h
   exact f7l (f7h 70 Tryz.func70 kr kr) X.utf fun s w hw=>LexUtf.walk s w hw
  ·cases h
   exact d8s (f7h 99 Tryz.func99 kr kr) X.utf fun s w hw=>Tryz.utf8_DecodeRuneInString s w hw
  ·cases h
   exact c9n (f7h 100 Tryz.func100 kr kr) Tryz.strings_IndexByte
  ·cases h
   refine e4q (f7h 124 Tryz.func124 kr kr) X.er4 X.er5 (fun s hs u hu w=>?_) (fun s hs hu1 hu2 ev w hv hev=>?_) (fun s hs hu ev w hv hev=>?_)
   ·refine(Tryz.strconv_ParseUint_10_at64_ok s om u hu w).mono ?_
    rintro e w' ⟨rfl,rfl|rfl⟩
    ·exact⟨rfl,Below.refl _ _⟩
    ·exact⟨rfl,d8u _ _⟩
   ·cases hu:Lib.parseUintB 64 s.data.toList with
    |ok u=>exact absurd hu (hu1 u)
    |range=>exact absurd hu hu2
    |_=>
     refine(Any.strconv_ParseUint_10_at64_syntax Tryz.d3h s hs hu ev w hv hev).mono ?_
     rintro e w' ⟨N,rfl,_,_,hb⟩
     exact⟨_,_,rfl,hb⟩
   ·refine(Tryz.strconv_ParseUint_10_at64_range s hs hu ev w hv hev).mono ?_
    rintro e w' ⟨N,rfl,_,_,hb⟩
    exact⟨_,_,rfl,hb⟩
  ·cases h
theorem i2n (X:e7g fx):a3i Tryz.prog (pgL fx FL):=f8k ⟨fun _=>[],fx⟩ FL (h5e X)
end
end Go.Vm.Px
namespace Go.Vm.Px
open Go.Vm.Lex (TokQ a0k a7b dgD)
open Go.Vm.Pa hiding go
open Go.Vm.Ite
open Go Go.Proofs Go.RowKit
def Q20:Laid Tryz.prog (AA [] [(7,[.bindrow 6 8 2])]) false Tryz.f20:=laid
abbrev A20:Ann:=AA [] [(7,[.bindrow 6 8 2])]
noncomputable def c20:Code:=(Tryz.f20.body).getD .skip
theorem b20:Tryz.f20.body=some c20:=kr
noncomputable def cD:Code->Nat->Code
 |c,0=>c
 |c,n+1=>cD (cR c) n
theorem q20:c20= .seq (cL c20) (.seq (cL (cD c20 1)) (.seq (cL (cD c20 2)) (.seq (cL (cD c20 3)) (.seq (cL (cD c20 4)) (.seq (cL (cD c20 5)) (.seq (cL (cD c20 6)) (cD c20 7))))))):=kr
abbrev d20:a0e:=Q20.F.body
theorem i1s:tr Tryz.prog A20 (cL c20)=some (vL d20):=kr
theorem i1x:tr Tryz.prog A20 (cL (cD c20 1))=some (vL (vR d20)):=kr
theorem i5o:tr Tryz.prog A20 (cL (cD c20 2))=some (vL (vR (vR d20))):=kr
theorem i3x:tr Tryz.prog A20 (cL (cD c20 3))=some (vL (vR (vR (vR d20)))):=kr
theorem i4a:tr Tryz.prog A20 (cL (cD c20 4))=some (vL (vR (vR (vR (vR d20))))):=kr
theorem i3i:tr Tryz.prog A20 (cL (cD c20 5))=some (vL (vR (vR (vR (vR (vR d20)))))):=kr
theorem i1o:tr Tryz.prog A20 (cD c20 7)=some (vR (vR (vR (vR (vR (vR (vR d20))))))):=kr
noncomputable abbrev e9m:Array Oper:=g0y (cL (cL (cD c20 6)))
theorem h6y:cL (cD c20 6)= .seq (.region (cId (cL (cL (cD c20 6)))) e9m false) (.cond (.tmp 33) (cA (cR (cL (cD c20 6)))) .skip):=kr
theorem i4n:tr Tryz.prog A20 (cA (cR (cL (cD c20 6))))=some (vA (vR (vL (vR (vR (vR (vR (vR (vR d20))))))))):=kr
theorem r20:c3s Tryz.prog Tryz.f20.results.toList=some [.cell 4 (some 1),.cell 5 (some 3)]:=kr
end Go.Vm.Px
namespace Go.Vm.Px
open Go.Vm.Lex (TokQ a0k a7b dgD)
open Go.Vm.Pa hiding go
open Go.Vm.Ite
open Go Go.Proofs Go.RowKit
def P0:PS:=⟨0,0,[],0,0,0,0⟩
abbrev ZB:Ob:= .box [.d (.int .i64 0),.d (.int .i64 0),.d (.int .i64 0)]
abbrev DB (c f e:Int):Ob:= .box [.d (.int .i64 c),.d (.int .i64 f),.d (.int .i64 e)]
abbrev H7 (l:List TokQ) (c f e:Int) (s:PS):Hp:=[.box [.nils],ZB,DB c f e,QBr l s false 4,PR s,ZB]
abbrev E7 (src:S) (rf:Nat):Env:=[(0,.d (.str src)),(1,.fn rf []),(4,.ptr 0 0),(5,.ptr 1 0),(8,.ptr 3 0),(9,.ptr 5 0)]
section
variable {fx:Nat->Option Obj}
theorem h2g (X:e7g fx) (src:S) (rf:Nat) (h1:src.length<=65536) (hc:(a0k src).2.c=0) {g:Gh} {w:World} {a:Act} (ok:c5g ⟨fun _=>[],fx⟩ 66 g ⟨a1d [.d (.str src),.fn rf []],[],0⟩ a w) {Q:Exit->Act->World->Prop}
    (hq:∀ g' a' w',c5g ⟨fun _=>[],fx⟩ 66 g' ⟨E7 src rf,H7 (a0k src).1 (a0k src).2.c (a0k src).2.f (a0k src).2.e P0,0⟩ a' w'->Ext 0 g [] w g' (H7 (a0k src).1 (a0k src).2.c (a0k src).2.f (a0k src).2.e P0) w'->(Code.seq (cL (cD c20 6)) (cD c20 7)).wp Tryz.prog Q a' w'):c20.wp Tryz.prog Q a w:=by
  have hT:=i2n X
  have ok:=ok.forget [0,1]
  rw[show a2e [0,1] (a1d [.d (.str src),.fn rf []])=[(0,.d (.str src)),(1,.fn rf [])] from rfl]at ok
  rw[q20]
  apply wp_seq
  refine chunk hT d2r i1s kr ok (R:=fun x1 e' H'=>x1= .nrm/\a2e [0,1,4,5] e'=[(0,.d (.str src)),(1,.fn rf []),(4,.ptr 0 0),(5,.ptr 1 0)]/\H'=[.box [.nils],ZB]) ?_ ?_
  ·refine run ⟨?_⟩
   exact rfl
  rintro x1 e' H' g1 a1 w1 ⟨rfl,he,rfl⟩ ok1 E1
  have ok1:=ok1.forget [0,1,4,5]
  rw[he]at ok1
  clear he ok
  show(Code.seq _ _).wp _ _ _ _
  apply wp_seq
  have h1':¬ (65536:Int) < (src.length:Int):=om
  refine chunk hT d2r i1x kr ok1 (R:=fun x1 e' H'=>x1= .nrm/\a2e [0,1,4,5] e'=[(0,.d (.str src)),(1,.fn rf []),(4,.ptr 0 0),(5,.ptr 1 0)]/\H'=[.box [.nils],ZB]) ?_ ?_
  ·refine run ⟨?_⟩
   exact rfl
  rintro x1 e' H' g2 a2 w2 ⟨rfl,he,rfl⟩ ok2 E2
  have ok2:=ok2.forget [0,1,4,5]
  rw[he]at ok2
  have E2:=E1.trans E2 (Nat.le_refl _)
  clear he ok1 E1
  show(Code.seq _ _).wp _ _ _ _
  apply wp_seq
  have tk:=fun H=>Go.Vm.Lex.d5e (fx:=fx) (F:=FL) H src (by unfold maxLen;omega)
  refine chunk hT d2r i5o kr ok2 (R:=fun x1 e' H'=>x1= .nrm/\a2e [0,1,4,5,6,7] e'=[(0,.d (.str src)),(1,.fn rf []),(4,.ptr 0 0),(5,.ptr 1 0),(6,.d (.sl ((a0k src).1.map TokQ.D))),(7,.ptr 2 0)]/\H'=[.box [.nils],ZB,DB (a0k src).2.c (a0k src).2.f (a0k src).2.e]) ?_ ?_
  ·repeat' (first|refine run ⟨?_⟩|refine ca (tk _) ?_|fail)
   exact rfl
  rintro x1 e' H' g3 a3 w3 ⟨rfl,he,rfl⟩ ok3 E3
  have ok3:=ok3.forget [0,1,4,5,6,7]
  rw[he]at ok3
  have E3:=E2.trans E3 (Nat.le_refl _)
  clear he ok2 E2
  show(Code.seq _ _).wp _ _ _ _
  apply wp_seq
  have hn:(!decide ((a0k src).2.c=0))=false:=by rw[decide_eq_true hc];rfl
  refine chunk hT d2r i3x kr ok3 (R:=fun x1 e' H'=>x1= .nrm/\a2e [0,1,4,5,6] e'=[(0,.d (.str src)),(1,.fn rf []),(4,.ptr 0 0),(5,.ptr 1 0),(6,.d (.sl ((a0k src).1.map TokQ.D)))]/\H'=[.box [.nils],ZB,DB (a0k src).2.c (a0k src).2.f (a0k src).2.e]) ?_ ?_
  ·refine run ⟨?_⟩
   exact rfl
  rintro x1 e' H' g4 a4 w4 ⟨rfl,he,rfl⟩ ok4 E4
  have ok4:=ok4.forget [0,1,4,5,6]
  rw[he]at ok4
  have E4:=E3.trans E4 (Nat.le_refl _)
  clear he ok3 E3
  show(Code.seq _ _).wp _ _ _ _
  apply wp_seq
  refine chunk hT d2r i4a kr ok4 (R:=fun x1 e' H'=>x1= .nrm/\a2e [0,1,4,5,8] e'=[(0,.d (.str src)),(1,.fn rf []),(4,.ptr 0 0),(5,.ptr 1 0),(8,.ptr 3 0)]/\H'=[.box [.nils],ZB,DB (a0k src).2.c (a0k src).2.f (a0k src).2.e,.box [.d (.sl ((a0k src).1.map TokQ.D)),.d (.int .i64 0),.nils,.d (.int .i64 0),.d (.bool false)]]) ?_ ?_
  ·refine run ⟨?_⟩
   exact rfl
  rintro x1 e' H' g5 a5 w5 ⟨rfl,he,rfl⟩ ok5 E5
  have ok5:=ok5.forget [0,1,4,5,8]
  rw[he]at ok5
  have E5:=E4.trans E5 (Nat.le_refl _)
  clear he ok4 E4
  show(Code.seq _ _).wp _ _ _ _
  apply wp_seq
  refine chunk hT d2r i3i kr ok5 (R:=fun x1 e' H'=>x1= .nrm/\a2e [0,1,4,5,8,9] e'=E7 src rf/\H'=H7 (a0k src).1 (a0k src).2.c (a0k src).2.f (a0k src).2.e P0) ?_ ?_
  ·refine run ⟨?_⟩
   exact rfl
  rintro x1 e' H' g6 a6 w6 ⟨rfl,he,rfl⟩ ok6 E6
  have ok6:=ok6.forget [0,1,4,5,8,9]
  rw[he]at ok6
  exact hq g6 a6 w6 ok6 (E5.trans E6 (Nat.le_refl _))
end
end Go.Vm.Px
