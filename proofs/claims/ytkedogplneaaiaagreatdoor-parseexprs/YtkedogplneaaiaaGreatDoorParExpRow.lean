/- An expression, a type and a pattern are read as the document reads them; no condition. -/
import Derived.Test.YtkedogplneaaiaaGreatDoorIteA7
import Derived.Test.YtkedogplneaaiaaGreatDoorParShelf
import Derived.Test.YtkedogplneaaiaaGreatDoorPyD
set_option maxRecDepth 100000
set_option linter.unusedVariables false
set_option linter.unusedSimpArgs false
namespace Go.Vm.Ite
open Go.Vm.Lex (TokQ)
open Go.Vm.Pa
set_option maxHeartbeats 4000000
section
variable {fx:Nat->Option Obj} {l:List TokQ} {s s1 s2:PS} {n:Nat} {r:R}
theorem f1s {b:Bool} (hl:LOk l) (IH:∀ m,m<=n->Sp fx l m) (hs:okS l s=true) (h:go l (n+1) (.prefix_ b) s=some (r,s1)):evF (pgL fx F0) a4l [.ptr 0 0,.d (.bool b)] [PB l s,PR s]=some (.d (.int .i64 r.i),[PB l s1,PR s1]):=by
 change Go.Vm.Pa.step l (go l n) (.prefix_ b) s=_ at h
 simp only[Go.Vm.Pa.step,Go.Vm.Pa.mk,Go.Vm.Pa.ret,Go.Vm.Pa.b4n,Go.Vm.Pa.deeper,Go.Vm.Pa.step.newS,Go.Vm.Pa.step.numS,Go.Vm.Pa.step.pickS]at h
 repeat' (first|(cases h;done)|split at h)
 all_goals(try(simp only[Option.some.injEq,Prod.mk.injEq]at h;obtain⟨rfl,rfl⟩:=h))
 all_goals
  refine a0h (b5x (F:=F0)) rfl rfl rfl ?_
  repeat' (first|refine a9j ⟨?_⟩|refine ca (a4q okQ asm) ?_|refine ca (a6e okQ) ?_|refine ca (e5w IH asm om okQ) ?_|refine ca (f2t IH asm om okQ) ?_|refine ca (a2f asm rfl) ?_|refine a0r 3 (by decide) (by decide) ?_|fail)
  exact rfl
theorem f0b {b:Bool} (hl:LOk l) (IH:∀ m,m<=n->Sp fx l m) (hs:okS l s=true) (h:go l (n+1) (.primary b) s=some (r,s1)):evF (pgL fx F0) a4d [.ptr 0 0,.d (.bool b)] [PB l s,PR s]=some (.d (.int .i64 r.i),[PB l s1,PR s1]):=by
 change Go.Vm.Pa.step l (go l n) (.primary b) s=_ at h
 simp only[Go.Vm.Pa.step,Go.Vm.Pa.mk,Go.Vm.Pa.ret,Go.Vm.Pa.b4n,Go.Vm.Pa.deeper,Go.Vm.Pa.step.newS,Go.Vm.Pa.step.numS,Go.Vm.Pa.step.pickS]at h
 repeat' (first|(cases h;done)|split at h)
 all_goals(try(simp only[Option.some.injEq,Prod.mk.injEq]at h;obtain⟨rfl,rfl⟩:=h))
 all_goals
  refine a0h (b4o (F:=F0)) rfl rfl rfl ?_
  repeat' (first|refine a9j ⟨?_⟩|refine b5n (c8j (a7l hs)) ?_|refine ca (b2c asm) ?_|refine ca (c0t okQ) ?_|refine ca (a2f asm rfl) ?_|refine ca (a4q okQ asm) ?_|refine ca (a6e okQ) ?_|refine ca (a8k IH asm om okQ) ?_|refine ca (a4g okQ asm) ?_|refine ca (a4z okQ) ?_|refine ca (c5c okQ) ?_|refine ca (a8n okQ hl.len asm) ?_|refine ca (a9b okQ hl.len) ?_|refine ca (c2c okQ asm) ?_|refine ca (e3n IH asm om okQ) ?_|refine ca (g5v IH asm om okQ) ?_|refine a0r 3 (by decide) (by decide) ?_|fail)
  exact rfl
theorem h0q (hl:LOk l) (IH:∀ m,m<=n->Sp fx l m) (hs:okS l s=true) (h:go l (n+1) .init s=some (r,s1)):evF (pgL fx F0) a5t [.ptr 0 0] [PB l s,PR s]=some (.d (.int .i64 r.i),[PB l s1,PR s1]):=by
 change Go.Vm.Pa.step l (go l n) .init s=_ at h
 simp only[Go.Vm.Pa.step,Go.Vm.Pa.mk,Go.Vm.Pa.ret,Go.Vm.Pa.b4n,Go.Vm.Pa.deeper,Go.Vm.Pa.step.newS,Go.Vm.Pa.step.numS,Go.Vm.Pa.step.pickS]at h
 repeat' (first|(cases h;done)|split at h)
 all_goals(try(simp only[Option.some.injEq,Prod.mk.injEq]at h;obtain⟨rfl,rfl⟩:=h))
 all_goals
  refine a0h (b9d (F:=F0)) rfl rfl rfl ?_
  repeat' (first|refine a9j ⟨?_⟩|refine ca (a8n okQ hl.len asm) ?_|refine ca (a9b okQ hl.len) ?_|refine ca (a4g okQ asm) ?_|refine ca (a4z okQ) ?_|refine ca (a8k IH asm om okQ) ?_|refine ca (a2f asm rfl) ?_|refine a0r 3 (by decide) (by decide) ?_|fail)
  exact rfl
end
end Go.Vm.Ite
namespace Go.Vm.Ite
open Go.Vm.Lex (TokQ)
open Go.Vm.Pa
set_option maxHeartbeats 4000000
section
variable {fx:Nat->Option Obj} {l:List TokQ} {s s1 s2:PS} {n:Nat} {r:R}
theorem e5f {b:Bool} (hl:LOk l) (IH:∀ m,m<=n->Sp fx l m) (hs:okS l s=true) (h:go l (n+1) (.postfix_ b) s=some (r,s1)):evF (pgL fx F0) a3y [.ptr 0 0,.d (.bool b)] [PB l s,PR s]=some (.d (.int .i64 r.i),[PB l s1,PR s1]):=by
 change Go.Vm.Pa.step l (go l n) (.postfix_ b) s=_ at h
 simp only[Go.Vm.Pa.step,Go.Vm.Pa.mk,Go.Vm.Pa.ret,Go.Vm.Pa.b4n,Go.Vm.Pa.deeper,Go.Vm.Pa.step.newS,Go.Vm.Pa.step.numS,Go.Vm.Pa.step.pickS]at h
 split at h
 ·cases h
 rename_i a q1 e1
 split at h
 ·cases h
 rename_i a2 q2 e2
 simp only[Option.some.injEq,Prod.mk.injEq]at h;obtain⟨rfl,rfl⟩:=h
 refine a0h (b4f (F:=F0)) rfl rfl rfl ?_
 repeat' (first|refine a9j ⟨?_⟩|refine ca (a4q okQ asm) ?_|refine ca (a6e okQ) ?_|refine ca (a8n okQ hl.len asm) ?_|refine ca (a9b okQ hl.len) ?_|refine ca (a2f asm rfl) ?_|refine ca (c6j IH asm om okQ) ?_|refine a0r 3 (by decide) (by decide) ?_|fail)
 refine a8p (α:=Nat×Int×PS) (fun a=>a.1) (fun a=>[(0,.ptr 0 0),(5,i64 s.at_),(6,i64 a.2.1)]) (fun a=>[PB l a.2.2,PR a.2.2]) (fun a=>a.1<=n/\go l a.1 (.gets s.at_ a.2.1) a.2.2=some (a2,q2)/\okS l a.2.2=true) ?_ (n,_,_) ⟨Nat.le_refl _,(c2x e2).1,okQ⟩ rfl rfl
 rintro⟨m,i,q⟩ ⟨hm,h,hq⟩
 dsimp only at hm h hq
 cases m with
 |zero=>cases h
 |succ m=>
 change Go.Vm.Pa.step l (go l m) (.gets s.at_ i) q=_ at h
 simp only[Go.Vm.Pa.step,Go.Vm.Pa.mk,Go.Vm.Pa.ret,Go.Vm.Pa.b4n,Go.Vm.Pa.deeper,Go.Vm.Pa.step.newS,Go.Vm.Pa.step.numS,Go.Vm.Pa.step.pickS]at h
 split at h
 ·simp only[Option.some.injEq,Prod.mk.injEq]at h;obtain⟨rfl,rfl⟩:=h
  repeat' (first|refine a9j ⟨?_⟩|refine ca (a4q okQ asm) ?_|refine ca (a6e okQ) ?_|refine ca (a8n okQ hl.len asm) ?_|refine ca (a9b okQ hl.len) ?_|refine ca (a2f asm rfl) ?_|refine ca (c6j IH asm om okQ) ?_|refine a0r 3 (by decide) (by decide) ?_|fail)
  exact rfl
 ·split at h
  ·cases h
  ·repeat' (first|refine a9j ⟨?_⟩|refine ca (a4q okQ asm) ?_|refine ca (a6e okQ) ?_|refine ca (a8n okQ hl.len asm) ?_|refine ca (a9b okQ hl.len) ?_|refine ca (a2f asm rfl) ?_|refine ca (c6j IH asm om okQ) ?_|refine a0r 3 (by decide) (by decide) ?_|fail)
   exact⟨(m,_,_),⟨om,h,okQ⟩,by dsimp only;omega,rfl,rfl⟩
theorem i1j {k:Int} {b:Bool} (hl:LOk l) (IH:∀ m,m<=n->Sp fx l m) (hs:okS l s=true) (h:go l (n+1) (.row k b) s=some (r,s1)):evF (pgL fx F0) a6p [.ptr 0 0,.d (.int .i64 k),.d (.bool b)] [PB l s,PR s]=some (.d (.int .i64 r.i),[PB l s1,PR s1]):=by
 change Go.Vm.Pa.step l (go l n) (.row k b) s=_ at h
 simp only[Go.Vm.Pa.step,Go.Vm.Pa.mk,Go.Vm.Pa.ret,Go.Vm.Pa.b4n,Go.Vm.Pa.deeper,Go.Vm.Pa.step.newS,Go.Vm.Pa.step.numS,Go.Vm.Pa.step.pickS]at h
 split at h
 ·rename_i c5
  refine a0h (b1n (F:=F0)) rfl rfl rfl ?_
  repeat' (first|refine a9j ⟨?_⟩|refine ca (b2c asm) ?_|refine ca (d0j okQ) ?_|refine ca (d1v IH asm om okQ) ?_|refine ca (a2f asm rfl) ?_|refine ca (b0x IH asm om okQ) ?_|refine a0r 3 (by decide) (by decide) ?_|fail)
  exact rfl
 rename_i c5
 split at h
 ·cases h
 rename_i a q1 e1
 split at h
 ·cases h
 rename_i a2 q2 e2
 simp only[Option.some.injEq,Prod.mk.injEq]at h;obtain⟨rfl,rfl⟩:=h
 refine a0h (b1n (F:=F0)) rfl rfl rfl ?_
 repeat' (first|refine a9j ⟨?_⟩|refine ca (b2c asm) ?_|refine ca (d0j okQ) ?_|refine ca (d1v IH asm om okQ) ?_|refine ca (a2f asm rfl) ?_|refine ca (b0x IH asm om okQ) ?_|refine a0r 3 (by decide) (by decide) ?_|fail)
 refine a8p (α:=Nat×Int×PS) (fun a=>a.1) (fun a=>[(0,.ptr 0 0),(1,i64 k),(2,.d (.bool b)),(7,i64 s.at_),(8,i64 a.2.1)]) (fun a=>[PB l a.2.2,PR a.2.2]) (fun a=>a.1<=n/\go l a.1 (.rows k b s.at_ a.2.1) a.2.2=some (a2,q2)/\okS l a.2.2=true) ?_ (n,_,_) ⟨Nat.le_refl _,(c2x e2).1,okQ⟩ rfl rfl
 rintro⟨m,i,q⟩ ⟨hm,h,hq⟩
 dsimp only at hm h hq
 cases m with
 |zero=>cases h
 |succ m=>
 change Go.Vm.Pa.step l (go l m) (.rows k b s.at_ i) q=_ at h
 simp only[Go.Vm.Pa.step,Go.Vm.Pa.mk,Go.Vm.Pa.ret,Go.Vm.Pa.b4n,Go.Vm.Pa.deeper,Go.Vm.Pa.step.newS,Go.Vm.Pa.step.numS,Go.Vm.Pa.step.pickS]at h
 split at h
 ·simp only[Option.some.injEq,Prod.mk.injEq]at h;obtain⟨rfl,rfl⟩:=h
  repeat' (first|refine a9j ⟨?_⟩|refine ca (b2c asm) ?_|refine ca (d0j okQ) ?_|refine ca (d1v IH asm om okQ) ?_|refine ca (a2f asm rfl) ?_|refine ca (b0x IH asm om okQ) ?_|refine a0r 3 (by decide) (by decide) ?_|fail)
  exact rfl
 rename_i cb
 split at h
 ·simp only[Option.some.injEq,Prod.mk.injEq]at h;obtain⟨rfl,rfl⟩:=h
  repeat' (first|refine a9j ⟨?_⟩|refine ca (b2c asm) ?_|refine ca (d0j okQ) ?_|refine ca (d1v IH asm om okQ) ?_|refine ca (a2f asm rfl) ?_|refine ca (b0x IH asm om okQ) ?_|refine a0r 3 (by decide) (by decide) ?_|fail)
  exact rfl
 split at h
 ·cases h
 rename_i c9
 split at h
 ·cases h
 split at h
 ·cases h
 split at h
 ·simp only[Option.some.injEq,Prod.mk.injEq]at h;obtain⟨rfl,rfl⟩:=h
  repeat' (first|refine a9j ⟨?_⟩|refine ca (b2c asm) ?_|refine ca (d0j okQ) ?_|refine ca (d1v (s:=adv _) IH asm om okQ) ?_|refine ca (a2f asm rfl) ?_|refine ca (b0x IH asm om okQ) ?_|refine ca (d1v IH asm om okQ) ?_|refine a0r 3 (by decide) (by decide) ?_|fail)
  exact rfl
 ·repeat' (first|refine a9j ⟨?_⟩|refine ca (b2c asm) ?_|refine ca (d0j okQ) ?_|refine ca (d1v (s:=adv _) IH asm om okQ) ?_|refine ca (a2f asm rfl) ?_|refine ca (b0x IH asm om okQ) ?_|refine ca (d1v IH asm om okQ) ?_|refine a0r 3 (by decide) (by decide) ?_|fail)
  exact⟨(m,_,_),⟨om,h,okQ⟩,by dsimp only;omega,rfl,rfl⟩
end
end Go.Vm.Ite
namespace Go.Vm.Ite
open Go.Vm.Lex (TokQ)
open Go.Vm.Pa
set_option maxHeartbeats 4000000
section
variable {fx:Nat->Option Obj} {l:List TokQ} {s s1 s2:PS} {n:Nat} {r:R}
theorem g4p (hl:LOk l) (IH:∀ m,m<=n->Sp fx l m) (hs:okS l s=true) (h:go l (n+1) .block s=some (r,s1)):evF (pgL fx F0) a5h [.ptr 0 0] [PB l s,PR s]=some (.d (.int .i64 r.i),[PB l s1,PR s1]):=by
 change Go.Vm.Pa.step l (go l n) .block s=_ at h
 simp only[Go.Vm.Pa.step,Go.Vm.Pa.mk,Go.Vm.Pa.ret,Go.Vm.Pa.b4n,Go.Vm.Pa.deeper,Go.Vm.Pa.step.newS,Go.Vm.Pa.step.numS,Go.Vm.Pa.step.pickS]at h
 split at h
 ·repeat' (first|(cases h;done)|split at h)
  simp only[Option.some.injEq,Prod.mk.injEq]at h;obtain⟨rfl,rfl⟩:=h
  refine a0h (a9a (F:=F0)) rfl rfl rfl ?_
  repeat' (first|refine a9j ⟨?_⟩|refine ca (b2c asm) ?_|refine ca (c2c okQ asm) ?_|refine ca (e2w IH asm om okQ) ?_|refine ca (c1z okQ asm) ?_|refine ca (a4g okQ asm) ?_|refine ca (a4z okQ) ?_|refine ca (a2f asm rfl) ?_|refine a0r 3 (by decide) (by decide) ?_|fail)
  exact rfl
 split at h
 ·cases h
 rename_i p q1 e1
 split at h
 ·cases h
 rename_i ck
 repeat' (first|(cases h;done)|split at h)
 simp only[Option.some.injEq,Prod.mk.injEq]at h;obtain⟨rfl,rfl⟩:=h
 refine a0h (a9a (F:=F0)) rfl rfl rfl ?_
 repeat' (first|refine a9j ⟨?_⟩|refine ca (b2c asm) ?_|refine ca (c2c okQ asm) ?_|refine ca (e2w IH asm om okQ) ?_|refine ca (c1z okQ asm) ?_|refine ca (a4g okQ asm) ?_|refine ca (a4z okQ) ?_|refine ca (a2f asm rfl) ?_|refine a0r 3 (by decide) (by decide) ?_|fail)
 refine a8p (α:=Nat×K×PS) (fun a=>a.1) (fun a=>[(0,.ptr 0 0),(3,i64 s.at_),(4,.ptr 2 0)]) (fun a=>[PB l a.2.2,PR a.2.2,.box [i64 20,str [],i64 0,.row 3 a.2.1.n,i64 0,i64 0],.row 1 a.2.1.l]) (fun a=>a.1<=n/\go l a.1 (.stmts a.2.1) a.2.2=some (p,q1)/\okS l a.2.2=true) ?_ (n,K.o,_) ⟨Nat.le_refl _,(c2x e1).1,okQ⟩ rfl rfl
 rintro⟨m,ks,q⟩ ⟨hm,h,hq⟩
 dsimp only at hm h hq
 cases m with
 |zero=>cases h
 |succ m=>
 change Go.Vm.Pa.step l (go l m) (.stmts ks) q=_ at h
 simp only[Go.Vm.Pa.step,Go.Vm.Pa.mk,Go.Vm.Pa.ret,Go.Vm.Pa.b4n,Go.Vm.Pa.deeper,Go.Vm.Pa.step.newS,Go.Vm.Pa.step.numS,Go.Vm.Pa.step.pickS]at h
 repeat' (first|(cases h;done)|split at h)
 all_goals first
   |(simp only[Option.some.injEq,Prod.mk.injEq]at h;obtain⟨rfl,rfl⟩:=h
     try have ck2:= ‹okK ks=true›
     repeat' (first|refine a9j ⟨?_⟩|refine And.intro ⟨rfl,a8v ck2,b1h ck2⟩ ?_|refine And.intro (a8v ck) ?_|refine And.intro ⟨rfl,by decide⟩ ?_|refine ca (b2c asm) ?_|refine ca (c2c okQ asm) ?_|refine ca (e2w IH asm om okQ) ?_|refine ca (c1z okQ asm) ?_|refine ca (a4g okQ asm) ?_|refine ca (a4z okQ) ?_|refine ca (a2f asm rfl) ?_|refine a0r 3 (by decide) (by decide) ?_|fail)
     exact rfl)
   |(have ck2:= ‹okK ks=true›
     repeat' (first|refine a9j ⟨?_⟩|refine And.intro ⟨rfl,a8v ck2,b1h ck2⟩ ?_|refine And.intro ⟨rfl,by decide⟩ ?_|refine ca (b2c asm) ?_|refine ca (c2c okQ asm) ?_|refine ca (e2w IH asm om okQ) ?_|refine ca (c1z okQ asm) ?_|refine ca (a4g okQ asm) ?_|refine ca (a4z okQ) ?_|refine ca (a2f asm rfl) ?_|refine a0r 3 (by decide) (by decide) ?_|fail)
     exact⟨(m,_,_),⟨om,h,okQ⟩,by dsimp only;omega,rfl,rfl⟩)
theorem f6c (hl:LOk l) (IH:∀ m,m<=n->Sp fx l m) (hs:okS l s=true) (h:go l (n+1) .match_ s=some (r,s1)):evF (pgL fx F0) a5g [.ptr 0 0] [PB l s,PR s]=some (.d (.int .i64 r.i),[PB l s1,PR s1]):=by
 change Go.Vm.Pa.step l (go l n) .match_ s=_ at h
 simp only[Go.Vm.Pa.step,Go.Vm.Pa.mk,Go.Vm.Pa.ret,Go.Vm.Pa.b4n,Go.Vm.Pa.deeper,Go.Vm.Pa.step.newS,Go.Vm.Pa.step.numS,Go.Vm.Pa.step.pickS]at h
 split at h
 ·cases h
 rename_i x q0 e0
 split at h
 ·cases h
 rename_i p q1 e1
 split at h
 ·cases h
 rename_i ck
 repeat' (first|(cases h;done)|split at h)
 simp only[Option.some.injEq,Prod.mk.injEq]at h;obtain⟨rfl,rfl⟩:=h
 refine a0h (b7q (F:=F0)) rfl rfl rfl ?_
 repeat' (first|refine a9j ⟨?_⟩|refine And.intro ⟨rfl,by decide⟩ ?_|refine Exists.intro _ (Exists.intro _ (And.intro rfl (And.intro rfl ?_)))|refine ca (b2c asm) ?_|refine ca (c2c okQ asm) ?_|refine ca (g2k IH asm om okQ) ?_|refine ca (a4g okQ asm) ?_|refine ca (a4z okQ) ?_|refine ca (a8k IH asm om okQ) ?_|refine ca (a2f asm rfl) ?_|refine a0r 3 (by decide) (by decide) ?_|fail)
 refine a8p (α:=Nat×K×PS) (fun a=>a.1) (fun a=>[(0,.ptr 0 0),(3,i64 s.at_),(4,.ptr 2 0)]) (fun a=>[PB l a.2.2,PR a.2.2,.box [i64 46,str [],i64 0,.row 3 a.2.1.n,i64 0,i64 0],.row 1 a.2.1.l]) (fun a=>a.1<=n/\go l a.1 (.arms a.2.1) a.2.2=some (p,q1)/\okS l a.2.2=true) ?_ (n,⟨Go.Vm.Pa.one x.i,1⟩,_) ⟨Nat.le_refl _,(c2x e1).1,okQ⟩ rfl rfl
 rintro⟨m,ks,q⟩ ⟨hm,h,hq⟩
 dsimp only at hm h hq
 cases m with
 |zero=>cases h
 |succ m=>
 change Go.Vm.Pa.step l (go l m) (.arms ks) q=_ at h
 simp only[Go.Vm.Pa.step,Go.Vm.Pa.mk,Go.Vm.Pa.ret,Go.Vm.Pa.b4n,Go.Vm.Pa.deeper,Go.Vm.Pa.step.newS,Go.Vm.Pa.step.numS,Go.Vm.Pa.step.pickS]at h
 repeat' (first|(cases h;done)|split at h)
 all_goals first
   |(simp only[Option.some.injEq,Prod.mk.injEq]at h;obtain⟨rfl,rfl⟩:=h
     try have ck2:= ‹okK ks=true›
     repeat' (first|refine a9j ⟨?_⟩|refine And.intro ⟨rfl,a8v ck2,b1h ck2⟩ ?_|refine And.intro (a8v ck) ?_|refine And.intro ⟨rfl,by decide⟩ ?_|refine ca (b2c asm) ?_|refine ca (c2c okQ asm) ?_|refine ca (g2k IH asm om okQ) ?_|refine ca (a4g okQ asm) ?_|refine ca (a4z okQ) ?_|refine ca (a8k IH asm om okQ) ?_|refine ca (a2f asm rfl) ?_|refine a0r 3 (by decide) (by decide) ?_|fail)
     exact rfl)
   |(have ck2:= ‹okK ks=true›
     repeat' (first|refine a9j ⟨?_⟩|refine And.intro ⟨rfl,a8v ck2,b1h ck2⟩ ?_|refine And.intro ⟨rfl,by decide⟩ ?_|refine ca (b2c asm) ?_|refine ca (c2c okQ asm) ?_|refine ca (g2k IH asm om okQ) ?_|refine ca (a4g okQ asm) ?_|refine ca (a4z okQ) ?_|refine ca (a8k IH asm om okQ) ?_|refine ca (a2f asm rfl) ?_|refine a0r 3 (by decide) (by decide) ?_|fail)
     exact⟨(m,_,_),⟨om,h,okQ⟩,by dsimp only;omega,rfl,rfl⟩)
end
end Go.Vm.Ite
namespace Go.Vm.Ite
open Go.Vm.Lex (TokQ)
open Go.Vm.Pa
set_option maxHeartbeats 4000000
section
variable {fx:Nat->Option Obj} {l:List TokQ} {s s1 s2:PS} {n:Nat} {r:R}
theorem g7t {fr:Int} {b:Bool} (hl:LOk l) (IH:∀ m,m<=n->Sp fx l m) (hs:okS l s=true) (h:go l (n+1) (.named fr b) s=some (r,s1)):evF (pgL fx F0) a5b [.ptr 0 0,.d (.int .i64 fr),.d (.bool b)] [PB l s,PR s]=some (.d (.int .i64 r.i),[PB l s1,PR s1]):=by
 change Go.Vm.Pa.step l (go l n) (.named fr b) s=_ at h
 simp only[Go.Vm.Pa.step,Go.Vm.Pa.mk,Go.Vm.Pa.ret,Go.Vm.Pa.b4n,Go.Vm.Pa.deeper,Go.Vm.Pa.step.newS,Go.Vm.Pa.step.numS,Go.Vm.Pa.step.pickS]at h
 split at h
 ·rename_i s2 e2
  split at h
  ·cases h
  rename_i p q1 e1
  split at h
  ·cases h
  rename_i ck
  repeat' (first|(cases h;done)|split at h)
  simp only[Option.some.injEq,Prod.mk.injEq]at h;obtain⟨rfl,rfl⟩:=h
  refine a0h (a3b (F:=F0)) rfl rfl rfl ?_
  repeat' (first|refine a9j ⟨?_⟩|refine ca (b2c asm) ?_|refine ca (c2c okQ asm) ?_|refine ca (a8k IH asm om okQ) ?_|refine ca (a4q okQ asm) ?_|refine ca (a6e okQ) ?_|refine ca (c4t IH asm om okQ) ?_|refine ca (a8n okQ hl.len asm) ?_|refine ca (a9b okQ hl.len) ?_|refine ca (a4g okQ asm) ?_|refine ca (a4z okQ) ?_|refine ca (a2f asm rfl) ?_|refine a0r 3 (by decide) (by decide) ?_|fail)
  refine a8p (α:=Nat×K×PS) (fun a=>a.1) (fun a=>[(0,.ptr 0 0),(1,i64 fr),(8,.ptr 2 0)]) (fun a=>[PB l a.2.2,PR a.2.2,.box [i64 34,str (a3j l s).1,i64 0,.row 3 a.2.1.n,i64 0,i64 0],.row 1 a.2.1.l]) (fun a=>a.1<=n/\go l a.1 (.args a.2.1) a.2.2=some (p,q1)/\okS l a.2.2=true) ?_ (n,K.o,_) ⟨Nat.le_refl _,(c2x e1).1,okQ⟩ rfl rfl
  rintro⟨m,ks,q⟩ ⟨hm,h,hq⟩
  dsimp only at hm h hq
  cases m with
  |zero=>cases h
  |succ m=>
  change Go.Vm.Pa.step l (go l m) (.args ks) q=_ at h
  simp only[Go.Vm.Pa.step,Go.Vm.Pa.mk,Go.Vm.Pa.ret,Go.Vm.Pa.b4n,Go.Vm.Pa.deeper,Go.Vm.Pa.step.newS,Go.Vm.Pa.step.numS,Go.Vm.Pa.step.pickS]at h
  repeat' (first|(cases h;done)|split at h)
  all_goals first
    |(simp only[Option.some.injEq,Prod.mk.injEq]at h;obtain⟨rfl,rfl⟩:=h
      try have ck2:= ‹okK ks=true›
      repeat' (first|refine a9j ⟨?_⟩|refine And.intro ⟨rfl,a8v ck2,b1h ck2⟩ ?_|refine And.intro (a8v ck) ?_|refine And.intro ⟨rfl,by decide⟩ ?_|refine ca (b2c asm) ?_|refine ca (c2c okQ asm) ?_|refine ca (a8k IH asm om okQ) ?_|refine ca (a4q okQ asm) ?_|refine ca (a6e okQ) ?_|refine ca (c4t IH asm om okQ) ?_|refine ca (a8n okQ hl.len asm) ?_|refine ca (a9b okQ hl.len) ?_|refine ca (a4g okQ asm) ?_|refine ca (a4z okQ) ?_|refine ca (a2f asm rfl) ?_|refine a0r 3 (by decide) (by decide) ?_|fail)
      exact rfl)
    |(have ck2:= ‹okK ks=true›
      repeat' (first|refine a9j ⟨?_⟩|refine And.intro ⟨rfl,a8v ck2,b1h ck2⟩ ?_|refine And.intro ⟨rfl,by decide⟩ ?_|refine ca (b2c asm) ?_|refine ca (c2c okQ asm) ?_|refine ca (a8k IH asm om okQ) ?_|refine ca (a4q okQ asm) ?_|refine ca (a6e okQ) ?_|refine ca (c4t IH asm om okQ) ?_|refine ca (a8n okQ hl.len asm) ?_|refine ca (a9b okQ hl.len) ?_|refine ca (a4g okQ asm) ?_|refine ca (a4z okQ) ?_|refine ca (a2f asm rfl) ?_|refine a0r 3 (by decide) (by decide) ?_|fail)
      exact⟨(m,_,_),⟨om,h,okQ⟩,by dsimp only;omega,rfl,rfl⟩)
 ·cases b
  ·dsimp only at h
   split at h
   ·rename_i s3 e3
    split at h
    ·cases h
    rename_i p q1 e1
    split at h
    ·cases h
    rename_i ck
    repeat' (first|(cases h;done)|split at h)
    simp only[Option.some.injEq,Prod.mk.injEq]at h;obtain⟨rfl,rfl⟩:=h
    refine a0h (a3b (F:=F0)) rfl rfl rfl ?_
    repeat' (first|refine a9j ⟨?_⟩|refine ca (b2c asm) ?_|refine ca (c2c okQ asm) ?_|refine ca (a8k IH asm om okQ) ?_|refine ca (a4q okQ asm) ?_|refine ca (a6e okQ) ?_|refine ca (c4t IH asm om okQ) ?_|refine ca (a8n okQ hl.len asm) ?_|refine ca (a9b okQ hl.len) ?_|refine ca (a4g okQ asm) ?_|refine ca (a4z okQ) ?_|refine ca (a2f asm rfl) ?_|refine a0r 3 (by decide) (by decide) ?_|fail)
    refine a8p (α:=Nat×K×PS) (fun a=>a.1) (fun a=>[(0,.ptr 0 0),(1,i64 fr),(9,.ptr 2 0)]) (fun a=>[PB l a.2.2,PR a.2.2,.box [i64 35,str (a3j l s).1,i64 0,.row 3 a.2.1.n,i64 0,i64 0],.row 1 a.2.1.l]) (fun a=>a.1<=n/\go l a.1 (.inits a.2.1) a.2.2=some (p,q1)/\okS l a.2.2=true) ?_ (n,K.o,_) ⟨Nat.le_refl _,(c2x e1).1,okQ⟩ rfl rfl
    rintro⟨m,ks,q⟩ ⟨hm,h,hq⟩
    dsimp only at hm h hq
    cases m with
    |zero=>cases h
    |succ m=>
    change Go.Vm.Pa.step l (go l m) (.inits ks) q=_ at h
    simp only[Go.Vm.Pa.step,Go.Vm.Pa.mk,Go.Vm.Pa.ret,Go.Vm.Pa.b4n,Go.Vm.Pa.deeper,Go.Vm.Pa.step.newS,Go.Vm.Pa.step.numS,Go.Vm.Pa.step.pickS]at h
    repeat' (first|(cases h;done)|split at h)
    all_goals first
      |(simp only[Option.some.injEq,Prod.mk.injEq]at h;obtain⟨rfl,rfl⟩:=h
        try have ck2:= ‹okK ks=true›
        repeat' (first|refine a9j ⟨?_⟩|refine And.intro ⟨rfl,a8v ck2,b1h ck2⟩ ?_|refine And.intro (a8v ck) ?_|refine And.intro ⟨rfl,by decide⟩ ?_|refine ca (b2c asm) ?_|refine ca (c2c okQ asm) ?_|refine ca (a8k IH asm om okQ) ?_|refine ca (a4q okQ asm) ?_|refine ca (a6e okQ) ?_|refine ca (c4t IH asm om okQ) ?_|refine ca (a8n okQ hl.len asm) ?_|refine ca (a9b okQ hl.len) ?_|refine ca (a4g okQ asm) ?_|refine ca (a4z okQ) ?_|refine ca (a2f asm rfl) ?_|refine a0r 3 (by decide) (by decide) ?_|fail)
        exact rfl)
      |(have ck2:= ‹okK ks=true›
        repeat' (first|refine a9j ⟨?_⟩|refine And.intro ⟨rfl,a8v ck2,b1h ck2⟩ ?_|refine And.intro ⟨rfl,by decide⟩ ?_|refine ca (b2c asm) ?_|refine ca (c2c okQ asm) ?_|refine ca (a8k IH asm om okQ) ?_|refine ca (a4q okQ asm) ?_|refine ca (a6e okQ) ?_|refine ca (c4t IH asm om okQ) ?_|refine ca (a8n okQ hl.len asm) ?_|refine ca (a9b okQ hl.len) ?_|refine ca (a4g okQ asm) ?_|refine ca (a4z okQ) ?_|refine ca (a2f asm rfl) ?_|refine a0r 3 (by decide) (by decide) ?_|fail)
        exact⟨(m,_,_),⟨om,h,okQ⟩,by dsimp only;omega,rfl,rfl⟩)
   ·skip
    repeat' (first|(cases h;done)|split at h)
    all_goals
     simp only[Option.some.injEq,Prod.mk.injEq]at h;obtain⟨rfl,rfl⟩:=h
     refine a0h (a3b (F:=F0)) rfl rfl rfl ?_
     repeat' (first|refine a9j ⟨?_⟩|refine And.intro (i1e hl) ?_|refine And.intro (i4w hl) ?_|refine ca (b2c asm) ?_|refine ca (c2c okQ asm) ?_|refine ca (a8k IH asm om okQ) ?_|refine ca (a4q okQ asm) ?_|refine ca (a6e okQ) ?_|refine ca (c4t IH asm om okQ) ?_|refine ca (a8n okQ hl.len asm) ?_|refine ca (a9b okQ hl.len) ?_|refine ca (a4g okQ asm) ?_|refine ca (a4z okQ) ?_|refine ca (a2f asm rfl) ?_|refine a0r 3 (by decide) (by decide) ?_|fail)
     exact rfl
  ·dsimp only at h
   repeat' (first|(cases h;done)|split at h)
   all_goals
    simp only[Option.some.injEq,Prod.mk.injEq]at h;obtain⟨rfl,rfl⟩:=h
    refine a0h (a3b (F:=F0)) rfl rfl rfl ?_
    repeat' (first|refine a9j ⟨?_⟩|refine And.intro (i1e hl) ?_|refine And.intro (i4w hl) ?_|refine ca (b2c asm) ?_|refine ca (c2c okQ asm) ?_|refine ca (a8k IH asm om okQ) ?_|refine ca (a4q okQ asm) ?_|refine ca (a6e okQ) ?_|refine ca (c4t IH asm om okQ) ?_|refine ca (a8n okQ hl.len asm) ?_|refine ca (a9b okQ hl.len) ?_|refine ca (a4g okQ asm) ?_|refine ca (a4z okQ) ?_|refine ca (a2f asm rfl) ?_|refine a0r 3 (by decide) (by decide) ?_|fail)
    exact rfl
end
end Go.Vm.Ite
namespace Go.Vm.Ite
open Go.Vm.Lex (TokQ)
open Go.Vm.Pa
section
variable {fx:Nat->Option Obj} {l:List TokQ}
theorem i4b (hl:LOk l):∀ n m,m<=n->Sp fx l m:=by
 intro n
 induction n with
 |zero=>
  intro m hm
  obtain rfl:m=0:=om
  exact{
    typ:=fun _ h=>by cases(show none=some _ from h)
    typed:=fun _=>fun _ h=>by cases(show none=some _ from h)
    block:=fun _ h=>by cases(show none=some _ from h)
    stmt:=fun _ h=>by cases(show none=some _ from h)
    let_:=fun _=>fun _ h=>by cases(show none=some _ from h)
    blocky:=fun _=>fun _ h=>by cases(show none=some _ from h)
    branch:=fun _ h=>by cases(show none=some _ from h)
    cond:=fun _ h=>by cases(show none=some _ from h)
    match_:=fun _ h=>by cases(show none=some _ from h)
    arm:=fun _ h=>by cases(show none=some _ from h)
    pattern:=fun _ h=>by cases(show none=some _ from h)
    patterned:=fun _=>fun _ h=>by cases(show none=some _ from h)
    expr:=fun _=>fun _ h=>by cases(show none=some _ from h)
    row:=fun _=>fun _=>fun _ h=>by cases(show none=some _ from h)
    operand:=fun _=>fun _ h=>by cases(show none=some _ from h)
    prefix_:=fun _=>fun _ h=>by cases(show none=some _ from h)
    postfix_:=fun _=>fun _ h=>by cases(show none=some _ from h)
    primary:=fun _=>fun _ h=>by cases(show none=some _ from h)
    named:=fun _=>fun _=>fun _ h=>by cases(show none=some _ from h)
    init:=fun _ h=>by cases(show none=some _ from h)
  }
 |succ n IH=>
  intro m hm
  by_cases c:m<=n
  ·exact IH m c
  obtain rfl:m=n+1:=om
  exact{
    typ:=fun hs h=>i1b hl IH hs h
    typed:=fun _=>fun hs h=>g6f hl IH hs h
    block:=fun hs h=>g4p hl IH hs h
    stmt:=fun hs h=>g9u hl IH hs h
    let_:=fun _=>fun hs h=>h5u hl IH hs h
    blocky:=fun _=>fun hs h=>f6b hl IH hs h
    branch:=fun hs h=>f9j hl IH hs h
    cond:=fun hs h=>h5p hl IH hs h
    match_:=fun hs h=>f6c hl IH hs h
    arm:=fun hs h=>i1d hl IH hs h
    pattern:=fun hs h=>f2k hl IH hs h
    patterned:=fun _=>fun hs h=>d8t hl IH hs h
    expr:=fun _=>fun hs h=>h5m hl IH hs h
    row:=fun _=>fun _=>fun hs h=>i1j hl IH hs h
    operand:=fun _=>fun hs h=>f3x hl IH hs h
    prefix_:=fun _=>fun hs h=>f1s hl IH hs h
    postfix_:=fun _=>fun hs h=>e5f hl IH hs h
    primary:=fun _=>fun hs h=>f0b hl IH hs h
    named:=fun _=>fun _=>fun hs h=>g7t hl IH hs h
    init:=fun hs h=>h0q hl IH hs h
  }
theorem f3y (hl:LOk l) (n:Nat):Sp fx l n:=i4b hl n n (Nat.le_refl _)
end
end Go.Vm.Ite
namespace Go.Vm.Itr
open Go.Vm.Px (f4q d2q e3s)
open Go.Vm.Ite
open Go.Vm.Tp
def c3v (i:Nat):List Int->List Int->List Int
 |[],tb=>tb
 |k::r,tb=>c3v i r (tb.set k.toNat (IntKind.i64.wrap (tb.getD i 0+1)))
def c4q (t:List Nd):Nat->List Int->Int->Int
 |0,_,m=>m
 |i+1,tb,m=>c4q t i (c3v i (t.getD i default).kids tb) (if m < (c3v i (t.getD i default).kids tb).getD i 0 then(c3v i (t.getD i default).kids tb).getD i 0 else m)
def d6h (t:List Nd):Int:=c4q t t.length (List.replicate t.length 0) 0
theorem d3t (i:Nat):∀ (l tb:List Int),(c3v i l tb).length=tb.length
 |[],_=>rfl
 |k::r,tb=>by rw[c3v,d3t i r,List.length_set]
section
variable {fx:Nat->Option Obj} {F:Nat->Option a0v} (H:Hp)
set_option maxHeartbeats 4000000 in
theorem e6e (t:List Nd) (hl:t.length<=1048576) (hkl:∀ x∈t,x.kids.length<=1048576) (hk:∀ x∈t,∀ k∈x.kids,0<=k/\k.toNat < t.length):evF (pgL fx F) c6x [.d (a6q t)] H=some (i64 (d6h t),H):=by
 refine a7h (c7e (F:=F)) rfl rfl ?_ H
 have hnl:(t.map Nd.D).length=t.length:=List.length_map ..
 have hmsl:0<=((t.map Nd.D).length:Int)/\roomy ((t.map Nd.D).length:Int).toNat 8:=⟨om,by unfold roomy;omega⟩
 repeat' (first|refine run ⟨?_⟩|refine And.intro hmsl ?_|fail)
 refine a8p (α:=Nat×List Int×Int) (fun a=>a.1) (fun a=>[(1,.ptr 0 0),(3,.arr 1 0 t.length),(4,i64 a.2.2),(5,i64 ((a.1:Int) - 1))]) (fun a=>[.box [.d (.sl (t.map Nd.D))],.box (f4q a.2.1)])
   (fun a=>a.1<=t.length/\a.2.1.length=t.length/\c4q t a.1 a.2.1 a.2.2=d6h t) ?_ (t.length,List.replicate t.length 0,0) ⟨Nat.le_refl _,by simp,rfl⟩ ?_ ?_
 ·rintro⟨n,tb,m⟩ ⟨hn,htl,hd⟩
  simp only at hn htl hd⊢
  cases n with
  |zero=>
   have h':¬ (0:Int)<=((0:Nat):Int) - 1:=om
   simp only[c4q]at hd
   rw[<-hd]
   refine run ⟨?_⟩
   exact rfl
  |succ i=>
   have e0:((((i+1:Nat):Int)) - 1)=(i:Int):=om
   rw[e0]
   have h':(0:Int)<=(i:Int):=om
   simp only[c4q]at hd
   have hx:t.getD i default∈t:=by
    rw[List.getD_eq_getElem?_getD,List.getElem?_eq_getElem (by omega:i < t.length)];exact List.getElem_mem _
   generalize hxe:t.getD i default=x at hx hd
   have pn:0<=(i:Int)/\(t.map Nd.D)[(i:Int).toNat]? =some x.D:=⟨h',by
     rw[Int.toNat_natCast,List.getElem?_map,List.getElem?_eq_getElem (by omega:i < t.length),<-hxe]
     simp[List.getD_eq_getElem?_getD,List.getElem?_eq_getElem (by omega:i < t.length)]⟩
   have hkn:(x.kids.map (D.int .i64)).length=x.kids.length:=List.length_map ..
   have hxk:=hkl x hx
   repeat' (first|refine run ⟨?_⟩|refine b5n pn ?_|fail)
   refine a8p (α:=Nat×List Int) (fun a=>x.kids.length - a.1) (fun a=>[(1,.ptr 0 0),(3,.arr 1 0 t.length),(4,i64 m),(5,i64 i),(25,.d (.sl (x.kids.map (D.int .i64)))),(26,i64 x.kids.length),(27,i64 a.1)]) (fun a=>[.box [.d (.sl (t.map Nd.D))],.box (f4q a.2)])
     (fun a=>a.1<=x.kids.length/\a.2.length=t.length/\c3v i (x.kids.drop a.1) a.2=c3v i x.kids tb) ?_ (0,tb) ⟨Nat.zero_le _,htl,by rw[List.drop_zero]⟩ ?_ rfl
   ·rintro⟨j,tc⟩ ⟨hj,htc,hkd⟩
    simp only at hj htc hkd⊢
    by_cases hlt:j < x.kids.length
    ·have h2:(j:Int) < (x.kids.length:Int):=om
     rw[List.drop_eq_getElem_cons hlt,c3v]at hkd
     obtain⟨k0,k1⟩:=hk x hx _ (List.getElem_mem hlt)
     have pk:0<=(j:Int)/\(x.kids.map (D.int .i64))[(j:Int).toNat]? =some (.int .i64 x.kids[j]):=⟨om,by rw[Int.toNat_natCast,List.getElem?_map,List.getElem?_eq_getElem hlt];rfl⟩
     have hkt:x.kids[j].toNat < tc.length:=om
     have hit:i < tc.length:=om
     have pi:0<=(i:Int)/\(i:Int).toNat < t.length:=om
     have pk2:0<=x.kids[j]/\x.kids[j].toNat < t.length:=⟨k0,k1⟩
     repeat' (first|refine run ⟨?_⟩|refine b5n pk ?_|refine And.intro pk2 ?_|refine And.intro pi ?_|refine d2v (d2q hit) ?_|fail)
     refine h4u (by simp;omega) ?_
     have hput:putAt (f4q tc) (0+x.kids[j].toNat*1) [i64 (IntKind.i64.wrap (tc.getD i 0+1))]=f4q (tc.set x.kids[j].toNat (IntKind.i64.wrap (tc.getD i 0+1))):=by rw[Nat.zero_add,Nat.mul_one,e3s hkt]
     have hst:∀ {k:List V->Prop},k (f4q (tc.set x.kids[j].toNat (IntKind.i64.wrap (tc.getD i 0+1))))->a1g (putAt (f4q tc) (0+x.kids[j].toNat*1) [i64 (IntKind.i64.wrap (tc.getD i 0+1))]) k:=fun hk=>by rw[a0q,hput];exact hk
     refine hst ?_
     refine run ⟨?_⟩
     exact⟨(j+1,_),⟨by show j+1<=_;omega,by simp[htc],hkd⟩,by show _ - (j+1) < _ - j;omega,by rw[a3z om];rfl,rfl⟩
    ·have h2:¬ (j:Int) < (x.kids.length:Int):=om
     have hj':j=x.kids.length:=om
     subst hj'
     rw[List.drop_length,c3v]at hkd
     rw[<-hkd]at hd
     have hit:i < tc.length:=om
     have pi:0<=(i:Int)/\(i:Int).toNat < t.length:=om
     by_cases hc:m < tc.getD i 0
     ·rw[if_pos hc]at hd
      repeat' (first|refine run ⟨?_⟩|refine And.intro pi ?_|refine d2v (d2q hit) ?_|fail)
      exact⟨(i,tc,tc.getD i 0),⟨by show i<=_;omega,htc,hd⟩,by show i < i+1;omega,by rw[a3z (n:=(i:Int) - 1) om],rfl⟩
     ·rw[if_neg hc]at hd
      repeat' (first|refine run ⟨?_⟩|refine And.intro pi ?_|refine d2v (d2q hit) ?_|fail)
      exact⟨(i,tc,m),⟨by show i<=_;omega,htc,hd⟩,by show i < i+1;omega,by rw[a3z (n:=(i:Int) - 1) om],rfl⟩
   ·show[_,_,_,_,_,(26,i64 ((x.kids.map (D.int .i64)).length:Int)),_]=_
    rw[hkn];rfl
 ·show[_,(3,.arr 1 0 ((t.map Nd.D).length:Int).toNat),_,(5,i64 (IntKind.i64.wrap (((t.map Nd.D).length:Int) - 1)))]=_
  rw[hnl,a3z om];rfl
 ·show[_,Ob.box (List.replicate ((t.map Nd.D).length:Int).toNat _)]=_
  simp[hnl]
end
end Go.Vm.Itr
namespace Go.Vm.Pk
open Go Go.Vm
open Go.Vm.Itr (c3v c4q d6h d3t)
def Nd.tp (n:Nd):Go.Vm.Tp.Nd:=⟨n.k,n.s,n.v,n.ks.map fun k:Nat=>(k:Int),n.f,n.e⟩
abbrev ci (l:List Nat):List Int:=l.map fun k:Nat=>(k:Int)
theorem e7v (l:List Nat) (i:Nat):(ci l).getD i 0=((l[i]?.getD 0:Nat):Int):=by
 unfold ci
 rw[List.getD_eq_getElem?_getD,List.getElem?_map]
 cases l[i]? <;>rfl
theorem d0q {i:Nat}:∀ (ks up:List Nat),(∀ k∈ks,k < i)->up[i]?.getD 0<=1000000000->c3v i (ci ks) (ci up)=ci (a8i i up ks)
 |[],_,_,_=>rfl
 |k::r,up,hk,hb=>by
  have hki:k < i:=hk k (List.mem_cons_self ..)
  show c3v i (ci r) ((ci up).set ((k:Int).toNat) (IntKind.i64.wrap ((ci up).getD i 0+1)))=ci (a8i i (up.set k (up[i]?.getD 0+1)) r)
  rw[e7v,Int.toNat_natCast,a3z om,<-d0q r (up.set k (up[i]?.getD 0+1)) (fun x hx=>hk x (List.mem_cons_of_mem _ hx)) (by rw[List.getElem?_set_ne om];exact hb)]
  unfold ci
  rw[List.map_set]
  rfl
theorem g4g {nds:List Nd} (i:Nat):((nds.map Nd.tp).getD i default).kids=ci (b0k nds i):=by
 unfold b0k
 rw[List.getD_eq_getElem?_getD,List.getElem?_map]
 cases nds[i]? <;>rfl
theorem d0s {nds:List Nd} (hks:∀ j,∀ k∈b0k nds j,k < j):∀ (i:Nat) (up:List Nat) (mx B:Nat),(∀ v∈up,v<=B)->B+i<=1000000000->c4q (nds.map Nd.tp) i (ci up) (mx:Int)=((((List.range i).reverse.foldl (c9l (b0k nds)) (up,mx)).2:Nat):Int)
 |0,_,_,_,_,_=>rfl
 |i+1,up,mx,B,hv,hB=>by
  have hg:=f1o (i:=i) hv
  rw[List.range_succ,List.reverse_append,List.reverse_singleton,List.singleton_append,List.foldl_cons]
  simp only[c4q,g4g]
  rw[d0q _ _ (hks i) om,e7v,d0w (hks i)]
  have hm:(if(mx:Int) < ((up[i]?.getD 0:Nat):Int) then((up[i]?.getD 0:Nat):Int) else(mx:Int))=((max mx (up[i]?.getD 0):Nat):Int):=by split<;>omega
  rw[hm]
  exact d0s hks i _ _ (B+1) (d6c (hks i) hg fun v h=>Nat.le_succ_of_le (hv v h)) om
theorem f7q (n:Nat):back n n=(List.range n).reverse:=by
 unfold back
 rw[List.range_eq_range',List.reverse_range']
 rw[List.range_eq_range']
 exact List.map_congr_left fun x _=>om
theorem g7m {nds:List Nd} (hks:∀ j,∀ k∈b0k nds j,k < j) (hl:nds.length<=1000000000):d6h (nds.map Nd.tp)=(a2w nds:Int):=by
 unfold d6h a2w d3q
 rw[f7q,List.length_map]
 have h:=d0s hks nds.length (List.replicate nds.length 0) 0 0 (fun v hv=>by simp at hv;omega) om
 have hr:ci (List.replicate nds.length 0)=List.replicate nds.length (0:Int):=by unfold ci;rw[List.map_replicate];rfl
 rw[hr]at h
 rw[show((0:Nat):Int)=0 from rfl]at h
 rw[h]
 have key:∀ (i:Nat) (s:List Nat×Nat),i<=nds.length->(List.range i).reverse.foldl (c9l (b0k nds)) s=(List.range i).reverse.foldl (fun s i=>c9l (b0k nds) s (min i (nds.length - 1))) s:=by
   intro i
   induction i with
   |zero=>intro s _;rfl
   |succ i ih=>
    intro s hi
    rw[List.range_succ,List.reverse_append,List.reverse_singleton,List.singleton_append,List.foldl_cons,List.foldl_cons,ih _ om]
    rw[show min i (nds.length - 1)=i from om]
 rw[key _ _ (Nat.le_refl _)]
end Go.Vm.Pk
namespace Go.Vm.Pa
theorem Fo.f0p:∀ (a:Fo) (n:Nat),a.tn n=(a.nds n).map Go.Vm.Pk.Nd.tp
 | .nil,_=>rfl
 | .cons k t v f e a b,n=>by
   simp only[Fo.tn,Fo.nds,List.map_append,List.map_cons,Fo.f0p a,Fo.f0p b]
   rfl
end Go.Vm.Pa
namespace Go.Vm.Ite
open Go.Vm.Lex (TokQ Dg a0k a7b dgD)
open Go.Vm.Pa
set_option maxHeartbeats 4000000
abbrev ZB:Ob:= .box [i64 0,i64 0,i64 0]
abbrev DB (c f e:Int):Ob:= .box [i64 c,i64 f,i64 e]
abbrev X0:Hp:=[.box [.nils],ZB]
abbrev PB6 (l:List TokQ) (s:PS):Ob:= .box [.d (.sl (l.map b2k)),.d (.int .i64 s.at_),.d (.int .i64 s.deep),.row 6 s.n,.d (.int .i64 s.bc),.d (.int .i64 s.bf),.d (.int .i64 s.be)]
abbrev X1 (l:List TokQ) (c f e:Int) (s:PS):Hp:=[.box [.nils],ZB,DB c f e,DB c f e,PB6 l s,DB c f e,PR s]
section
variable {fx:Nat->Option Obj} {l:List TokQ} {s s1 s2:PS} {n:Nat} {r:R}
def b4t (l:List TokQ) (s:PS):PS:=if okB s && !decide ((now l s).k=5) then a2h l 120 s else s
def g1l (l:List TokQ) (e:Int) (s:PS) (t:List Tp.Nd):List Tp.Nd×D:=
 if okB (b4t l s) then
  if 20000 < t.length then([],Lex.dgD 2 0 e)
  else if 400 < Itr.d6h t then([],Lex.dgD 121 0 e)
  else(t,Lex.dgD 0 0 0)
 else([],Lex.dgD (b4t l s).bc (b4t l s).bf (b4t l s).be)
theorem i2d {t:List Tp.Nd} {e:Int} (hs:okS l s=true) (ht:s.ns=t.map Tp.Nd.D) (hn:s.n=t.length) (h2:t.length<=1000000) (hkl:∀ x∈t,x.kids.length<=1048576) (hk:∀ x∈t,∀ k∈x.kids,0<=k/\k.toNat < t.length):evF (pgL fx F0) a3p [.ptr 0 0,.d (.int .i64 e)] [PB l s,PR s]=some (.tup [.d (Tp.a6q (g1l l e s t).1),.d (g1l l e s t).2],[PB l (b4t l s),PR (b4t l s)]):=by
 have hlen:s.ns.length=s.n:=by rw[ht,hn,List.length_map]
 refine a0h (c7o (F:=F0)) rfl rfl rfl ?_
 cases c1:okB s with
 |false=>
  have e1:b4t l s=s:=by unfold b4t;rw[c1];rfl
  unfold g1l
  rw[e1,c1]
  repeat' (first|refine a9j ⟨?_⟩|refine ca (b2c c1) ?_|refine ca (c0t hs) ?_|refine a0r 3 (by decide) (by decide) ?_|fail)
  exact rfl
 |true=>
  by_cases c2:(now l s).k=5
  ·have d2:(!decide ((now l s).k=5))=false:=by rw[decide_eq_true c2];rfl
   have e1:b4t l s=s:=by unfold b4t;rw[c1,d2];rfl
   unfold g1l
   rw[e1,c1,if_pos rfl]
   by_cases c3:20000 < t.length
   ·have d3:(20000:Int) < (s.n:Int):=om
    rw[if_pos c3]
    repeat' (first|refine a9j ⟨?_⟩|refine ca (b2c c1) ?_|refine ca (c0t hs) ?_|refine a0r 3 (by decide) (by decide) ?_|fail)
    exact rfl
   ·have d3:¬ (20000:Int) < (s.n:Int):=om
    rw[if_neg c3]
    have hd:=fun H=>Itr.e6e (fx:=fx) (F:=F0) H t om hkl hk
    rw[show Tp.a6q t= .agg [.sl s.ns] from by rw[ht];rfl]at hd
    by_cases c4:400 < Itr.d6h t
    ·rw[if_pos c4]
     repeat' (first|refine a9j ⟨?_⟩|refine ca (b2c c1) ?_|refine ca (c0t hs) ?_|refine ca (hd _) ?_|refine And.intro hlen ?_|refine a0r 3 (by decide) (by decide) ?_|fail)
     exact rfl
    ·rw[if_neg c4]
     repeat' (first|refine a9j ⟨?_⟩|refine ca (b2c c1) ?_|refine ca (c0t hs) ?_|refine ca (hd _) ?_|refine And.intro hlen ?_|refine a0r 3 (by decide) (by decide) ?_|fail)
     rw[show Tp.a6q t= .agg [.sl s.ns] from by rw[ht];rfl]
     first|exact rfl|exact⟨rfl,rfl⟩|(refine And.intro hlen ?_;exact⟨rfl,rfl⟩)
  ·have d2:(!decide ((now l s).k=5))=true:=by rw[decide_eq_false c2];rfl
   have e1:b4t l s=a2h l 120 s:=by unfold b4t;rw[c1,d2];rfl
   have c5:okB (a2h l 120 s)=false:=by unfold a2h;rw[c1,if_pos rfl];rfl
   unfold g1l
   rw[e1,c5]
   repeat' (first|refine a9j ⟨?_⟩|refine ca (b2c c1) ?_|refine ca (c0t hs) ?_|refine ca (c5c hs) ?_|refine ca (b2c c5) ?_|refine a0r 3 (by decide) (by decide) ?_|fail)
   exact rfl
theorem g7o {e:Int} (hs:okS l s=true) (hb:s.bc≠0):evF (pgL fx F0) a3p [.ptr 0 0,.d (.int .i64 e)] [PB l s,PR s]=some (.tup [.d (Tp.a6q []),.d (Lex.dgD s.bc s.bf s.be)],[PB l s,PR s]):=by
 refine a0h (c7o (F:=F0)) rfl rfl rfl ?_
 have c1:okB s=false:=by unfold okB;rw[decide_eq_false hb]
 repeat' (first|refine a9j ⟨?_⟩|refine ca (b2c c1) ?_|refine ca (c0t hs) ?_|refine a0r 3 (by decide) (by decide) ?_|fail)
 exact rfl
variable {F:Nat->Option a0v} [HL F]
omit [HL F] in
theorem c8r (src:S) (h:65536 < src.length):evF (pgL fx F) c2f [str src] X0=some (.tup [.nul,.d (dgD 2 0 0)],X0++[DB 2 0 0]):=by
 refine f4e (c1o (F:=F)) rfl rfl ?_
 have h':(65536:Int) < (src.length:Int):=om
 refine run ⟨?_⟩
 exact⟨_,rfl,rfl,rfl⟩
theorem c3d (src:S) (h:src.length<=65536):evF (pgL fx F) c2f [str src] X0=some (.tup [.ptr 4 0,.d (dgD (a0k src).2.c (a0k src).2.f (a0k src).2.e)],X0++[DB (a0k src).2.c (a0k src).2.f (a0k src).2.e,DB (a0k src).2.c (a0k src).2.f (a0k src).2.e,.box [.d (.sl ((a0k src).1.map b2k)),i64 0,i64 0,.nils,i64 0,i64 0,i64 0]]):=by
 refine f4e (c1o (F:=F)) rfl rfl ?_
 have h':¬ (65536:Int) < (src.length:Int):=om
 have tk:=fun H=>Lex.e5e (fx:=fx) (F:=F) H src (by unfold maxLen;omega)
 have hg:grew (X0++[ZB,DB (a0k src).2.c (a0k src).2.f (a0k src).2.e]) ((X0++[ZB,DB (a0k src).2.c (a0k src).2.f (a0k src).2.e])++[.box [.d (.sl ((a0k src).1.map b2k)),i64 0,i64 0,.nils,i64 0,i64 0,i64 0]])=true:=(f2y _ _).trans rfl
 repeat' (first|refine run ⟨?_⟩|refine ca (tk _) ?_|refine And.intro hg ?_|fail)
 exact⟨_,rfl,rfl,rfl⟩
theorem f6h (src:S) (H:Hp) {c f e:Int} (hc:c≠0) (h:(65536 < src.length/\c=2/\f=0/\e=0)\/(src.length<=65536/\c=(a0k src).2.c/\f=(a0k src).2.f/\e=(a0k src).2.e)):evF (pgL fx F) b5f [str src] H=some (.tup [.d (Tp.a6q []),.d (dgD c f e)],H):=by
 refine a7h (c4z (F:=F)) rfl rfl ?_ H
 have hn:(!decide (c=0))=true:=by rw[decide_eq_false hc];rfl
 rcases h with⟨h1,rfl,rfl,rfl⟩|⟨h1,rfl,rfl,rfl⟩
 ·have hb:=c8r (fx:=fx) (F:=F) src h1
  repeat' (first|refine run ⟨?_⟩|refine ca (hb) ?_|fail)
  exact rfl
 ·have hb:=c3d (fx:=fx) (F:=F) src h1
  repeat' (first|refine run ⟨?_⟩|refine ca (hb) ?_|fail)
  exact rfl
theorem g4a (src:S) (H:Hp) (h1:src.length<=65536) (hc:(a0k src).2.c=0) (hl:l=(a0k src).1) (hok:LOk l) (h0:okS l S0=true) {p:R} {s1 s2:PS} {n:Nat} (hg:go l n (.expr false) S0=some (p,s1)) {tt:List Tp.Nd} {cc ff ee:Int}
 (hE:evF (pgL fx F0) a3p [.ptr 0 0,.d (.int .i64 (src.length:Int))] [PB l s1,PR s1]=some (.tup [.d (Tp.a6q tt),.d (dgD cc ff ee)],[PB l s2,PR s2])):
 evF (pgL fx F) b5f [str src] H=some (.tup [.d (Tp.a6q tt),.d (dgD cc ff ee)],H):=by
 subst hl
 refine a7h (c4z (F:=F)) rfl rfl ?_ H
 have hnb:(!decide ((a0k src).2.c=0))=false:=by rw[decide_eq_true hc];rfl
 have hb:=c3d (fx:=fx) (F:=F) src h1
 have hcr:evF (pgL fx F) a3n [.ptr 4 0,.d (.bool false)] (X1 (a0k src).1 (a0k src).2.c (a0k src).2.f (a0k src).2.e S0)=some (.d (.int .i64 p.i),X1 (a0k src).1 (a0k src).2.c (a0k src).2.f (a0k src).2.e s1):=
  up (d0m (mv fx) [4,6] ((f3y hok n).expr false h0 hg) rfl rfl rfl rfl rfl)
 have hen:evF (pgL fx F) a3p [.ptr 4 0,.d (.int .i64 (src.length:Int))] (X1 (a0k src).1 (a0k src).2.c (a0k src).2.f (a0k src).2.e s1)=some (.tup [.d (Tp.a6q tt),.d (dgD cc ff ee)],X1 (a0k src).1 (a0k src).2.c (a0k src).2.f (a0k src).2.e s2):=
  up (d0m (mv fx) [4,6] hE rfl rfl rfl rfl rfl)
 repeat' (first|refine run ⟨?_⟩|refine ca (hb) ?_|refine ca (hcr) ?_|refine ca (hen) ?_|fail)
 exact rfl
theorem g7g (src:S) (H:Hp) {c f e:Int} (hc:c≠0) (h:(65536 < src.length/\c=2/\f=0/\e=0)\/(src.length<=65536/\c=(a0k src).2.c/\f=(a0k src).2.f/\e=(a0k src).2.e)):evF (pgL fx F) b5a [str src] H=some (.tup [.d (Tp.a6q []),.d (dgD c f e)],H):=by
 refine a7h (c4v (F:=F)) rfl rfl ?_ H
 have hn:(!decide (c=0))=true:=by rw[decide_eq_false hc];rfl
 rcases h with⟨h1,rfl,rfl,rfl⟩|⟨h1,rfl,rfl,rfl⟩
 ·have hb:=c8r (fx:=fx) (F:=F) src h1
  repeat' (first|refine run ⟨?_⟩|refine ca (hb) ?_|fail)
  exact rfl
 ·have hb:=c3d (fx:=fx) (F:=F) src h1
  repeat' (first|refine run ⟨?_⟩|refine ca (hb) ?_|fail)
  exact rfl
theorem h6m (src:S) (H:Hp) (h1:src.length<=65536) (hc:(a0k src).2.c=0) (hl:l=(a0k src).1) (hok:LOk l) (h0:okS l S0=true) {p:R} {s1 s2:PS} {n:Nat} (hg:go l n (.typ) S0=some (p,s1)) {tt:List Tp.Nd} {cc ff ee:Int}
 (hE:evF (pgL fx F0) a3p [.ptr 0 0,.d (.int .i64 (src.length:Int))] [PB l s1,PR s1]=some (.tup [.d (Tp.a6q tt),.d (dgD cc ff ee)],[PB l s2,PR s2])):
 evF (pgL fx F) b5a [str src] H=some (.tup [.d (Tp.a6q tt),.d (dgD cc ff ee)],H):=by
 subst hl
 refine a7h (c4v (F:=F)) rfl rfl ?_ H
 have hnb:(!decide ((a0k src).2.c=0))=false:=by rw[decide_eq_true hc];rfl
 have hb:=c3d (fx:=fx) (F:=F) src h1
 have hcr:evF (pgL fx F) a4f [.ptr 4 0] (X1 (a0k src).1 (a0k src).2.c (a0k src).2.f (a0k src).2.e S0)=some (.d (.int .i64 p.i),X1 (a0k src).1 (a0k src).2.c (a0k src).2.f (a0k src).2.e s1):=
  up (d0m (mv fx) [4,6] ((f3y hok n).typ h0 hg) rfl rfl rfl rfl rfl)
 have hen:evF (pgL fx F) a3p [.ptr 4 0,.d (.int .i64 (src.length:Int))] (X1 (a0k src).1 (a0k src).2.c (a0k src).2.f (a0k src).2.e s1)=some (.tup [.d (Tp.a6q tt),.d (dgD cc ff ee)],X1 (a0k src).1 (a0k src).2.c (a0k src).2.f (a0k src).2.e s2):=
  up (d0m (mv fx) [4,6] hE rfl rfl rfl rfl rfl)
 repeat' (first|refine run ⟨?_⟩|refine ca (hb) ?_|refine ca (hcr) ?_|refine ca (hen) ?_|fail)
 exact rfl
theorem d7r (src:S) (H:Hp) {c f e:Int} (hc:c≠0) (h:(65536 < src.length/\c=2/\f=0/\e=0)\/(src.length<=65536/\c=(a0k src).2.c/\f=(a0k src).2.f/\e=(a0k src).2.e)):evF (pgL fx F) b0i [str src] H=some (.tup [.d (Tp.a6q []),.d (dgD c f e)],H):=by
 refine a7h (b6b (F:=F)) rfl rfl ?_ H
 have hn:(!decide (c=0))=true:=by rw[decide_eq_false hc];rfl
 rcases h with⟨h1,rfl,rfl,rfl⟩|⟨h1,rfl,rfl,rfl⟩
 ·have hb:=c8r (fx:=fx) (F:=F) src h1
  repeat' (first|refine run ⟨?_⟩|refine ca (hb) ?_|fail)
  exact rfl
 ·have hb:=c3d (fx:=fx) (F:=F) src h1
  repeat' (first|refine run ⟨?_⟩|refine ca (hb) ?_|fail)
  exact rfl
theorem e5p (src:S) (H:Hp) (h1:src.length<=65536) (hc:(a0k src).2.c=0) (hl:l=(a0k src).1) (hok:LOk l) (h0:okS l S0=true) {p:R} {s1 s2:PS} {n:Nat} (hg:go l n (.pattern) S0=some (p,s1)) {tt:List Tp.Nd} {cc ff ee:Int}
 (hE:evF (pgL fx F0) a3p [.ptr 0 0,.d (.int .i64 (src.length:Int))] [PB l s1,PR s1]=some (.tup [.d (Tp.a6q tt),.d (dgD cc ff ee)],[PB l s2,PR s2])):
 evF (pgL fx F) b0i [str src] H=some (.tup [.d (Tp.a6q tt),.d (dgD cc ff ee)],H):=by
 subst hl
 refine a7h (b6b (F:=F)) rfl rfl ?_ H
 have hnb:(!decide ((a0k src).2.c=0))=false:=by rw[decide_eq_true hc];rfl
 have hb:=c3d (fx:=fx) (F:=F) src h1
 have hcr:evF (pgL fx F) a2u [.ptr 4 0] (X1 (a0k src).1 (a0k src).2.c (a0k src).2.f (a0k src).2.e S0)=some (.d (.int .i64 p.i),X1 (a0k src).1 (a0k src).2.c (a0k src).2.f (a0k src).2.e s1):=
  up (d0m (mv fx) [4,6] ((f3y hok n).pattern h0 hg) rfl rfl rfl rfl rfl)
 have hen:evF (pgL fx F) a3p [.ptr 4 0,.d (.int .i64 (src.length:Int))] (X1 (a0k src).1 (a0k src).2.c (a0k src).2.f (a0k src).2.e s1)=some (.tup [.d (Tp.a6q tt),.d (dgD cc ff ee)],X1 (a0k src).1 (a0k src).2.c (a0k src).2.f (a0k src).2.e s2):=
  up (d0m (mv fx) [4,6] hE rfl rfl rfl rfl rfl)
 repeat' (first|refine run ⟨?_⟩|refine ca (hb) ?_|refine ca (hcr) ?_|refine ca (hen) ?_|fail)
 exact rfl
end
end Go.Vm.Ite
namespace Go.Vm.Px
open Go.Vm.Lex (TokQ a0k a7b dgD Dg)
open Go.Vm.Ite
open Go.Vm.Tp (Nd a6q)
abbrev ints (l:List Int):V:= .d (.sl (l.map (D.int .i64)))
section
variable {fx:Nat->Option Obj} {F:Nat->Option a0v} (H:Hp)
theorem f0y (l:List Int) (hl:l.length<=1000000):evF (pgL fx F) d5j [ints l,ints l] H=some (boo true,H):=by
 refine a7h (d4q (F:=F)) rfl rfl ?_ H
 have hnl:(l.map (D.int .i64)).length=l.length:=List.length_map ..
 have h0:(!decide (((l.map (D.int .i64)).length:Int)=((l.map (D.int .i64)).length:Int)))=false:=by rw[decide_eq_true rfl];rfl
 refine run ⟨?_⟩
 refine a8p (α:=Nat) (fun i=>l.length - i) (fun i=>[(0,ints l),(1,ints l),(12,i64 l.length),(13,i64 i)]) (fun _=>[]) (fun i=>i<=l.length) ?_ 0 (Nat.zero_le _) ?_ rfl
 ·intro i hi
  by_cases hlt:i < l.length
  ·have h1:(i:Int) < (l.length:Int):=om
   have pk:=i3h hlt
   generalize l.getD i 0=x at pk
   have h2:(!decide (x=x))=false:=by rw[decide_eq_true rfl];rfl
   repeat' (first|refine run ⟨?_⟩|refine b5n pk ?_|refine And.intro (b5k _) ?_|fail)
   exact⟨i+1,by show i+1<=_;omega,by show _ - (i+1) < _ - i;omega,by rw[a3z (n:=(i:Int)+1) om];rfl,rfl⟩
  ·have h1:¬ (i:Int) < (l.length:Int):=om
   refine run ⟨?_⟩
   exact rfl
 ·show[_,_,(12,i64 ((l.map (D.int .i64)).length:Int)),_]=_
  rw[hnl];rfl
set_option maxHeartbeats 4000000 in
theorem f4g (t:List Nd) (hl:t.length<=1000000) (hk:∀ i,i < t.length->(t.getD i default).kids.length<=1000000):evF (pgL fx F) c4s [.d (a6q t),.d (a6q t)] H=some (boo true,H):=by
 refine a7h (d3x (F:=F)) rfl rfl ?_ H
 have hnl:(t.map Nd.D).length=t.length:=List.length_map ..
 have h0:(!decide (((t.map Nd.D).length:Int)=((t.map Nd.D).length:Int)))=false:=by rw[decide_eq_true rfl];rfl
 refine run ⟨?_⟩
 refine a8p (α:=Nat) (fun i=>t.length - i) (fun i=>[(3,.ptr 1 0),(16,.d (.sl (t.map Nd.D))),(17,i64 t.length),(18,i64 i)]) (fun _=>[.box [.d (.sl (t.map Nd.D))],.box [.d (.sl (t.map Nd.D))]]) (fun i=>i<=t.length) ?_ 0 (Nat.zero_le _) ?_ rfl
 ·intro i hi
  by_cases hlt:i < t.length
  ·have h1:(i:Int) < (t.length:Int):=om
   have pn:=i3c hlt
   have hkl:=hk i hlt
   generalize t.getD i default=x at pn hkl
   obtain⟨k,tx,v,ks,f,e⟩:=x
   simp only at hkl
   have hb1:(!decide (k=k))=false:=by rw[decide_eq_true rfl];rfl
   have hb2:(!decide (tx=tx))=false:=by rw[decide_eq_true rfl];rfl
   have hb3:(!decide (v=v))=false:=by rw[decide_eq_true rfl];rfl
   have hb4:(!decide (f=f))=false:=by rw[decide_eq_true rfl];rfl
   have hb5:(!decide (e=e))=false:=by rw[decide_eq_true rfl];rfl
   have ei:=fun H=>f0y (fx:=fx) (F:=F) H ks hkl
   repeat' (first|refine run ⟨?_⟩|refine ca (ei _) ?_|refine b5n pn ?_|fail)
   exact⟨i+1,by show i+1<=_;omega,by show _ - (i+1) < _ - i;omega,by rw[a3z (n:=(i:Int)+1) om];rfl,rfl⟩
  ·have h1:¬ (i:Int) < (t.length:Int):=om
   refine run ⟨?_⟩
   exact rfl
 ·show[_,_,(17,i64 ((t.map Nd.D).length:Int)),_]=_
  rw[hnl];rfl
end
end Go.Vm.Px
namespace Go.Vm.Ite
open Go.Vm.Lex (TokQ Dg a0k a7b dgD)
open Go.Vm.Pa
open Go.Vm.Px (f3s h9s c7f c1e FW e7g rdV rdW rdC rdF rdE b3m d1d)
theorem h7p {l:List TokQ} (h:TOk l):LOk l:=⟨by have:=h.len;omega,fun i=>by have:=h.txt i;omega,h.last⟩
theorem run_go {l:List TokQ} {n:Nat} {u:Ru} (hu:u≠ .crate):u.run l n=goE l n u.q S0:=by
 cases u<;>first|exact absurd rfl hu|rfl
theorem g0o {T:Fo} (hs:T.sz<=1000000):∀ x∈T.tn 0,x.kids.length<=1048576/\∀ k∈x.kids,0<=k/\k.toNat < (T.tn 0).length:=by
 intro x hx
 obtain⟨j,hj,e⟩:=List.getElem_of_mem hx
 have hj2:j < T.sz:=by rw[<-Fo.b8g T 0];exact hj
 obtain⟨a,m,h1,h2,h3⟩:=Fo.d3e T 0 j x (by rw[List.getElem?_eq_getElem hj,e])
 obtain⟨i1,i2⟩:=Fo.f7o a m
 refine⟨by rw[h1,List.length_map];omega,fun k hk=>?_⟩
 rw[h1]at hk
 obtain⟨k',hk',rfl⟩:=List.mem_map.1 hk
 have:=i2 k' hk'
 rw[Fo.b8g,Int.toNat_natCast]
 omega
theorem h7f {T:Fo} (hs:T.sz<=1000000) (hn:T≠ .nil):Itr.d6h (T.tn 0)=(Go.Vm.Pk.a2w (T.nds 0):Int):=by
 have hk:=Go.Vm.Px.f2b hs hn
 rw[Fo.f0p,Go.Vm.Pk.g7m (fun j k h=>?_) (by rw[Fo.b3f];omega)]
 unfold Go.Vm.Pk.b0k at h
 split at h
 ·rename_i nd e
  exact(hk.kid j nd e).2 k h
 ·cases h
theorem f1w {l:List TokQ} {u:Ru} {s1:PS} {T W:Fo} {c f e:Int} {len:Nat} (hT:Whole l u s1 T) (hb:s1.bc=0) (ho:if(now l s1).k=5 then(W,c,f,e)=d9t T len else W= .nil/\c=120/\f=(now l s1).f/\e=(now l s1).e):
 g1l l len s1 (T.tn 0)=(W.tn 0,dgD c f e):=by
 have c1:okB s1=true:=by unfold okB;rw[decide_eq_true hb]
 by_cases k5:(now l s1).k=5
 ·rw[if_pos k5]at ho
  have d2:(!decide ((now l s1).k=5))=false:=by rw[decide_eq_true k5];rfl
  have e1:b4t l s1=s1:=by unfold b4t;rw[c1,d2];rfl
  unfold g1l
  rw[e1,c1,if_pos rfl,Fo.b8g,h7f hT.sz hT.ne]
  unfold d9t at ho
  by_cases q1:20000 < T.sz
  ·rw[if_pos q1]at ho⊢
   cases ho
   rfl
  ·rw[if_neg q1]at ho⊢
   by_cases q2:400 < Go.Vm.Pk.a2w (T.nds 0)
   ·rw[if_pos q2]at ho
    rw[if_pos om]
    cases ho
    rfl
   ·rw[if_neg q2]at ho
    rw[if_neg om]
    cases ho
    rfl
 ·rw[if_neg k5]at ho
  obtain⟨rfl,rfl,rfl,rfl⟩:=ho
  have d2:(!decide ((now l s1).k=5))=true:=by rw[decide_eq_false k5];rfl
  have e1:b4t l s1=a2h l 120 s1:=by unfold b4t;rw[c1,d2];rfl
  have e2:a2h l 120 s1={s1 with bc:=120,bf:=(now l s1).f,be:=(now l s1).e }:=by unfold a2h;rw[c1,if_pos rfl]
  have c5:okB (a2h l 120 s1)=false:=by rw[e2];rfl
  unfold g1l
  rw[e1,c5,if_neg (by decide),e2]
  rfl
section
variable {fx:Nat->Option Obj}
theorem d8n {u:Ru} (hu:u≠ .crate) {src:S} {W:Fo} {c f e:Int} (h2:(a0k src).2.c=0) {m:Nat} {x:EX} (hx:u.run (a0k src).1 m=some x) (ho:h9s (a0k src).1 u src.length x W c f e):
 LOk (a0k src).1/\okS (a0k src).1 S0=true/\∃ n r s1 s2,go (a0k src).1 n u.q S0=some (r,s1)/\evF (pgL fx F0) a3p [.ptr 0 0,.d (.int .i64 (src.length:Int))] [PB (a0k src).1 s1,PR s1]=some (.tup [.d (Tp.a6q (W.tn 0)),.d (dgD c f e)],[PB (a0k src).1 s2,PR s2]):=by
 have ht:=e8p h2
 have hne:0 < (a0k src).1.length:=List.length_pos_iff.2 (Lex.a9y src h2).2.2.2.2.1
 generalize(a0k src).1=l at hx ho ht hne
 refine⟨h7p ht,by unfold okS;rw[decide_eq_true (show(0:Int)<=S0.at_ from Int.le_refl _),decide_eq_true (show S0.at_ < (l.length:Int)by show(0:Int) < _;omega)];rfl,?_⟩
 obtain⟨r,s1,hg,P⟩:=f4f ht hne u
 have hal:=d2f _ _ _ _ _ hg rfl
 obtain⟨p1,p2,p3,p4,p5⟩:=P.num
 have hhi:=P.hi
 have hat:0<=s1.at_:=p1
 have hok:okS l s1=true:=by unfold okS;rw[decide_eq_true hat,decide_eq_true hhi];rfl
 by_cases hb:s1.bc=0
 ·have hE:=hal.1 hb
  rw[<-run_go hu]at hE
  obtain rfl:=Ru.uniq hx hE
  obtain⟨T,hT,ho⟩:=ho
  refine⟨_,r,s1,b4t l s1,hg,?_⟩
  have e1:=f1w hT hb ho
  have e2:=i2d (fx:=fx) (l:=l) (s:=s1) (t:=T.tn 0) (e:=(src.length:Int)) hT.ok (hT.ns.trans (Fo.e3i T 0)) (by rw[hT.n,Fo.b8g]) (by rw[Fo.b8g];exact hT.sz) (fun x hx=>(g0o hT.sz x hx).1) (fun x hx=>(g0o hT.sz x hx).2)
  rw[e1]at e2
  exact e2
 ·have hE:=hal.2 hb
  rw[<-run_go hu]at hE
  obtain rfl:=Ru.uniq hx hE
  obtain⟨rfl,rfl,rfl,rfl,_⟩:=ho
  exact⟨_,r,s1,s1,hg,g7o hok hb⟩
variable {F:Nat->Option a0v} [HL F]
theorem d3j {u:Ru} {src:S} {W:Fo} {c f e:Int} (h:f3s u src W c f e):(W= .nil/\c≠0/\((65536 < src.length/\c=2/\f=0/\e=0)\/(src.length<=65536/\c=(a0k src).2.c/\f=(a0k src).2.f/\e=(a0k src).2.e)))\/
 (src.length<=65536/\(a0k src).2.c=0/\∃ n x,u.run (a0k src).1 n=some x/\h9s (a0k src).1 u src.length x W c f e):=by
 rcases h with⟨h1,rfl,rfl,rfl,rfl⟩|⟨h1,h2,rfl,rfl,rfl,rfl⟩|h
 ·exact .inl ⟨rfl,by decide,.inl ⟨h1,rfl,rfl,rfl⟩⟩
 ·exact .inl ⟨rfl,h2,.inr ⟨h1,rfl,rfl,rfl⟩⟩
 ·exact .inr h
theorem f6g {src:S} {W:Fo} {c f e:Int} (h:f3s .expr src W c f e) (H:Hp):evF (pgL fx F) b5f [.d (.str src)] H=some (.tup [.d (c7f W),.d (dgD c f e)],H):=by
 rw[c1e]
 rcases d3j h with⟨rfl,hc,hh⟩|⟨h1,h2,m,x,hx,ho⟩
 ·exact f6h src H hc hh
 ·obtain⟨a1,a2,n,r,s1,s2,hg,hE⟩:=d8n (fx:=fx) (u:= .expr) (by simp) h2 hx ho
  exact g4a src H h1 h2 rfl a1 a2 hg hE
theorem g7h {src:S} {W:Fo} {c f e:Int} (h:f3s .typ src W c f e) (H:Hp):evF (pgL fx F) b5a [.d (.str src)] H=some (.tup [.d (c7f W),.d (dgD c f e)],H):=by
 rw[c1e]
 rcases d3j h with⟨rfl,hc,hh⟩|⟨h1,h2,m,x,hx,ho⟩
 ·exact g7g src H hc hh
 ·obtain⟨a1,a2,n,r,s1,s2,hg,hE⟩:=d8n (fx:=fx) (u:= .typ) (by simp) h2 hx ho
  exact h6m src H h1 h2 rfl a1 a2 hg hE
theorem d8m {src:S} {W:Fo} {c f e:Int} (h:f3s .pat src W c f e) (H:Hp):evF (pgL fx F) b0i [.d (.str src)] H=some (.tup [.d (c7f W),.d (dgD c f e)],H):=by
 rw[c1e]
 rcases d3j h with⟨rfl,hc,hh⟩|⟨h1,h2,m,x,hx,ho⟩
 ·exact d7r src H hc hh
 ·obtain⟨a1,a2,n,r,s1,s2,hg,hE⟩:=d8n (fx:=fx) (u:= .pat) (by simp) h2 hx ho
  exact e5p src H h1 h2 rfl a1 a2 hg hE
end
end Go.Vm.Ite
namespace Go.Vm.Px
open Go.Vm.Lex (TokQ a0k a7b dgD Dg)
open Go.Vm.Pa hiding go
open Go.Vm.Ite
open Go.Vm.Tp (Nd a6q)
theorem e0v {u:Ru} {s:S} {W:Fo} {c f e:Int} (h:f3s u s W c f e):W.sz<=20000:=by
 rcases e6f h with h|h
 ·rw[h.W];exact Nat.zero_le _
 ·exact h.sz
theorem h4n {b:Bool} {P Q:Prop} (hb:b=true) (h:P):(b=true->P)/\(b=false->Q):=⟨fun _=>h,fun hf=>by rw[hb]at hf;cases hf⟩
theorem eq3 (a b c:Int):eqL [.int .i64 a,.int .i64 b,.int .i64 c] [.int .i64 a,.int .i64 b,.int .i64 c]=true:=by simp[eqL,eq1]
section
variable {fx:Nat->Option Obj} {F:Nat->Option a0v}
theorem d8d {W:Fo} (h:W.sz<=20000) (H:Hp):evF (pgL fx F) c4s [.d (a6q (W.tn 0)),.d (a6q (W.tn 0))] H=some (boo true,H):=by
 refine f4g H (W.tn 0) (by rw[Fo.b8g];omega) fun i hi=>?_
 have hi2:=hi
 rw[Fo.b8g]at hi2
 rw[List.getD_eq_getElem?_getD,List.getElem?_eq_getElem hi]
 obtain⟨a,m,h1,h2,h3⟩:=Fo.d3e W 0 i _ (List.getElem?_eq_getElem hi)
 obtain⟨i1,i2⟩:=Fo.f7o a m
 show(W.tn 0)[i].kids.length<=_
 rw[h1,List.length_map]
 omega
variable (X:e7g fx)
set_option maxHeartbeats 4000000 in
theorem f5l (s:S) (H:Hp):evF (pgL fx (FW X)) c2i [.d (.str s)] H=some (boo true,H):=by
 have p1:=fun H=>f2x X s H
 have p2:=fun H=>g3s X s H
 have p3:=fun H=>e5v X s H
 have q1:=fun H=>f6g (fx:=fx) (F:=FW X) (b3m X .expr s) H
 have q2:=fun H=>g7h (fx:=fx) (F:=FW X) (b3m X .typ s) H
 have q3:=fun H=>d8m (fx:=fx) (F:=FW X) (b3m X .pat s) H
 have sp:=fun H=>e7u X H
 have r1:=e0v (b3m X .expr s)
 have r2:=e0v (b3m X .typ s)
 have r3:=e0v (b3m X .pat s)
 unfold rdV at p1 p2 p3
 revert r1 r2 r3 p1 p2 p3 q1 q2 q3
 generalize rdW X .expr s=W1
 generalize rdC X .expr s=c1
 generalize rdF X .expr s=f1
 generalize rdE X .expr s=e1
 generalize rdW X .typ s=W2
 generalize rdC X .typ s=c2
 generalize rdF X .typ s=f2
 generalize rdE X .typ s=e2
 generalize rdW X .pat s=W3
 generalize rdC X .pat s=c3
 generalize rdF X .pat s=f3
 generalize rdE X .pat s=e3
 intro p1 p2 p3 q1 q2 q3 r1 r2 r3
 rw[c1e]at p1 p2 p3 q1 q2 q3
 have t1:=fun H=>d8d (fx:=fx) (F:=FW X) r1 H
 have t2:=fun H=>d8d (fx:=fx) (F:=FW X) r2 H
 have t3:=fun H=>d8d (fx:=fx) (F:=FW X) r3 H
 refine a7h (c2j (F:=FW X)) rfl rfl ?_ H
 repeat' (first|refine run ⟨?_⟩|refine ca (p1 _) ?_|refine ca (p2 _) ?_|refine ca (p3 _) ?_|refine ca (q1 _) ?_|refine ca (q2 _) ?_|refine ca (q3 _) ?_|refine ca (t1 _) ?_|refine ca (t2 _) ?_|refine ca (t3 _) ?_|refine ca (sp _) ?_|((conv=>whnf);refine h4n (eq3 _ _ _) ?_)|fail)
 exact rfl
end
end Go.Vm.Px
namespace Go.Proofs.YtkedogplneaaiaaGreatDoor
open Go Go.Vm Go.ChangeShapes Go.WideShapes Go.ChangeAt Go.RowKit
theorem c9j {H:Type} {W:World} (hW:laidMetH Tryz.prog c6y W) (ds:List (DataW H)) (h1:ds.length=Tryz.f7.params.size) (h2:∀ (i:Nat) t x,Tryz.f7.params[i]? =some t->ds[i]? =some x->d3o Tryz.prog 8 t (dwD x)):∃ H',evF (pgW hW) 7 ((ds.map dwD).map V.d) []=some (.d (.bool true),H'):=by
 have hp:Tryz.f7.params= #[9]:=Tryz.params7
 match ds,h1 with
 |[d0],_=>
  have hd0:=h2 0 9 d0 (by rw[hp];rfl) rfl
  obtain⟨s,e,_⟩:=f5g h5r hd0
  exact⟨[],by show evF _ 7 [.d (dwD d0)] []=_;rw[e];exact Go.Vm.Px.f5l (Go.Proofs.YtkedogplneaaiaaGreatDoor.i4y hW) s []⟩
theorem c4g (os:Os) (started:os.Started) (H:Type) (enc:TypeId×Value->H):
 ReturnsInHanded {} Tryz.checked os 7 .any (fun w args=>(Rows.parseExprsSpec.pre enc Tryz.prog Tryz.f7 [] false w args/\laidMetH Tryz.prog c6y w)/\sizedMet enc Tryz.prog Tryz.f7 (OpenSpec.ofChange Rows.parseExprsSpec) false w args)
   (Rows.parseExprsSpec.post enc Tryz.prog Tryz.f7 false true false false):=by
 refine returnsInHanded_of_change_and (C:=Tryz.checked) (X:=fun w _=>laidMetH Tryz.prog c6y w) (fun _ _ _ hh h=>h.of_heap hh) own started kr Tryz.func7
   (ChangeSpec.witness_shaped (enc:=enc) (C:=Tryz.checked) (os:=os) (X:=fun w _=>laidMetH Tryz.prog c6y w) false (w8 os) #[.string ⟨#[]⟩] 8 (i4j _) (f3p os) kr kr kr (f5o os _)) ?_
 intro W base args ds gs before hval hW _ _ hL _
 refine d6t (m:=8) (tb:=4) (pg:=pgW hL) (tOk hL) mixed laidOut rfl (fun ds h=>?_) (fun t ht=>?_) kr Tryz.underlying4 hval hW (h6s hL) (c9j hL ds)
 ·match ds,h with
  |[d0],_=>rfl
 ·rw[Tryz.params7]at ht
  simp only[List.mem_cons,List.not_mem_nil,or_false]at ht
  subst ht
  ·exact⟨⟨kr,of_decide_eq_true kr⟩,kr⟩
theorem c9r:Rows.ParseExprsSaid:=
 OpenClaim.holds_of_wide 7 Tryz.f7 rfl rfl rfl rfl rfl rfl rfl ⟨rfl,rfl,rfl,rfl,rfl⟩ rfl rfl rfl rfl rfl kr Tryz.func7 kr
   (of_decide_eq_true kr) (by unfold Func.isWrapper;first|(rw[if_pos (by decide+kernel)];kernel_rfl)|(rw[if_neg (by decide+kernel)];exact⟨rfl,rfl⟩))
   (fun os started H enc _=>c4g os started H enc)
theorem parseExprs_holds:Rows.ParseExprsCardSaid:=
 Claim7.holds_tied_plain_at .later [] [.data,.data,.data,.data,.handle,.sentinel,.sentinel,.pinned] true (true, "653402f5dad1351d736720f1617cfc36bd946f5f0e15fbc589575ddbaea529e7") true
  c9r (fun _ h=>by cases h) kr (fun _ h=>by cases h) parseExprs_row_tie rfl ⟨rfl,rfl⟩ kr rfl
  (fun f fn hf hfn=>by
    obtain rfl:f=7:=Option.some.inj ((show Tryz.prog.funcNamed "patina/patinalaw12.ParseExprs" =some 7 by kernel_rfl).symm.trans hf)|>.symm
    obtain rfl:fn=Tryz.f7:=(Option.some.inj (Tryz.func7.symm.trans hfn)).symm
    exact⟨kr,fun j t ht=>by
      rw[Tryz.params7]at ht
      have ht:=Array.mem_of_getElem? ht
      simp only[List.mem_toArray,List.mem_cons,List.not_mem_nil,or_false]at ht
      subst ht
      ·exact(show Tryz.prog.wantsStandIn 9=false by kernel_rfl)⟩)
  kr
end Go.Proofs.YtkedogplneaaiaaGreatDoor
