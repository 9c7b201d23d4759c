import Derived.Test.YtocpgkeiakjicaaGreatIteA4
import Derived.Test.YtocpgkeiakjicaaGreatItlW5
import Derived.Test.YtocpgkeiakjicaaGreatTypP18
import Derived.Lib.DecodeN
set_option maxRecDepth 100000
set_option linter.unusedVariables false
set_option linter.unusedSimpArgs false
namespace Go.Vm.Ite
open Go.Vm.Lex (TokQ)
open Go.Vm.Pa
set_option maxHeartbeats 4000000
section
variable {fx:Nat->Option Obj} {l:List TokQ} {s s1 s2:PS} {n:Nat} {r:R}
theorem h9v (hl:LOk l) (IH:∀ m,m<=n->Sp fx l m) (hs:okS l s=true) (h:go l (n+1) .typ s=some (r,s1)):evF (pgL fx F0) a5y [.ptr 0 0] [PB l s,PR s]=some (.d (.int .i64 r.i),[PB l s1,PR s1]):=by
 change Go.Vm.Pa.step l (go l n) .typ s=_ at h
 simp only[Go.Vm.Pa.step,Go.Vm.Pa.mk,Go.Vm.Pa.ret,Go.Vm.Pa.a9s,Go.Vm.Pa.deeper,Go.Vm.Pa.step.newS,Go.Vm.Pa.step.numS,Go.Vm.Pa.step.pickS]at h
 repeat' (first|(cases h;done)|split at h)
 all_goals(try(simp only[Option.some.injEq,Prod.mk.injEq]at h;obtain⟨rfl,rfl⟩:=h))
 all_goals
  refine a0f (b9g (F:=F0)) rfl rfl rfl ?_
  repeat' (first|refine a2p ⟨?_⟩|refine ca (b7x okQ asm) ?_|refine ca (g1e IH asm om okQ) ?_|refine a0c 3 (by decide) (by decide) ?_|fail)
  exact rfl
theorem g4q {fr:Int} (hl:LOk l) (IH:∀ m,m<=n->Sp fx l m) (hs:okS l s=true) (h:go l (n+1) (.typed fr) s=some (r,s1)):evF (pgL fx F0) a4s [.ptr 0 0,.d (.int .i64 fr)] [PB l s,PR s]=some (.d (.int .i64 r.i),[PB l s1,PR s1]):=by
 change Go.Vm.Pa.step l (go l n) (.typed fr) s=_ at h
 simp only[Go.Vm.Pa.step,Go.Vm.Pa.mk,Go.Vm.Pa.ret,Go.Vm.Pa.a9s,Go.Vm.Pa.deeper,Go.Vm.Pa.step.newS,Go.Vm.Pa.step.numS,Go.Vm.Pa.step.pickS]at h
 repeat' (first|(cases h;done)|split at h)
 all_goals(try(simp only[Option.some.injEq,Prod.mk.injEq]at h;obtain⟨rfl,rfl⟩:=h))
 all_goals
  refine a0f (b5t (F:=F0)) rfl rfl rfl ?_
  repeat' (first|refine a2p ⟨?_⟩|refine ca (a1x okQ asm) ?_|refine ca (a2d okQ) ?_|refine ca (a1g asm rfl) ?_|refine ca (a1w okQ asm) ?_|refine ca (a1y okQ) ?_|refine ca (b7n IH asm om okQ) ?_|refine ca (a2g okQ hl.len asm) ?_|refine ca (a2l okQ hl.len) ?_|refine a0c 3 (by decide) (by decide) ?_|fail)
  exact rfl
theorem g4g (hl:LOk l) (IH:∀ m,m<=n->Sp fx l m) (hs:okS l s=true) (h:go l (n+1) .param s=some (r,s1)):evF (pgL fx F0) a4t [.ptr 0 0] [PB l s,PR s]=some (.d (.int .i64 r.i),[PB l s1,PR s1]):=by
 change Go.Vm.Pa.step l (go l n) .param s=_ at h
 simp only[Go.Vm.Pa.step,Go.Vm.Pa.mk,Go.Vm.Pa.ret,Go.Vm.Pa.a9s,Go.Vm.Pa.deeper,Go.Vm.Pa.step.newS,Go.Vm.Pa.step.numS,Go.Vm.Pa.step.pickS]at h
 repeat' (first|(cases h;done)|split at h)
 all_goals(try(simp only[Option.some.injEq,Prod.mk.injEq]at h;obtain⟨rfl,rfl⟩:=h))
 all_goals
  refine a0f (b5z (F:=F0)) rfl rfl rfl ?_
  repeat' (first|refine a2p ⟨?_⟩|refine ca (a1x okQ asm) ?_|refine ca (a2d okQ) ?_|refine ca (a2g okQ hl.len asm) ?_|refine ca (a2l okQ hl.len) ?_|refine ca (a1w okQ asm) ?_|refine ca (a1y okQ) ?_|refine ca (b7n IH asm om okQ) ?_|refine ca (a1g asm rfl) ?_|refine a0c 3 (by decide) (by decide) ?_|fail)
  exact rfl
theorem g1b (hl:LOk l) (IH:∀ m,m<=n->Sp fx l m) (hs:okS l s=true) (h:go l (n+1) .field s=some (r,s1)):evF (pgL fx F0) a4z [.ptr 0 0] [PB l s,PR s]=some (.d (.int .i64 r.i),[PB l s1,PR s1]):=by
 change Go.Vm.Pa.step l (go l n) .field s=_ at h
 simp only[Go.Vm.Pa.step,Go.Vm.Pa.mk,Go.Vm.Pa.ret,Go.Vm.Pa.a9s,Go.Vm.Pa.deeper,Go.Vm.Pa.step.newS,Go.Vm.Pa.step.numS,Go.Vm.Pa.step.pickS]at h
 repeat' (first|(cases h;done)|split at h)
 all_goals(try(simp only[Option.some.injEq,Prod.mk.injEq]at h;obtain⟨rfl,rfl⟩:=h))
 all_goals
  refine a0f (b5m (F:=F0)) rfl rfl rfl ?_
  repeat' (first|refine a2p ⟨?_⟩|refine ca (a2g okQ hl.len asm) ?_|refine ca (a2l okQ hl.len) ?_|refine ca (a1w okQ asm) ?_|refine ca (a1y okQ) ?_|refine ca (b7n IH asm om okQ) ?_|refine ca (a1g asm rfl) ?_|refine a0c 3 (by decide) (by decide) ?_|fail)
  exact rfl
theorem f3e (hl:LOk l) (IH:∀ m,m<=n->Sp fx l m) (hs:okS l s=true) (h:go l (n+1) .variant s=some (r,s1)):evF (pgL fx F0) a4a [.ptr 0 0] [PB l s,PR s]=some (.d (.int .i64 r.i),[PB l s1,PR s1]):=by
 change Go.Vm.Pa.step l (go l n) .variant s=_ at h
 simp only[Go.Vm.Pa.step,Go.Vm.Pa.mk,Go.Vm.Pa.ret,Go.Vm.Pa.a9s,Go.Vm.Pa.deeper,Go.Vm.Pa.step.newS,Go.Vm.Pa.step.numS,Go.Vm.Pa.step.pickS]at h
 repeat' (first|(cases h;done)|split at h)
 all_goals(try(simp only[Option.some.injEq,Prod.mk.injEq]at h;obtain⟨rfl,rfl⟩:=h))
 all_goals
  refine a0f (b2z (F:=F0)) rfl rfl rfl ?_
  repeat' (first|refine a2p ⟨?_⟩|refine ca (a2g okQ hl.len asm) ?_|refine ca (a2l okQ hl.len) ?_|refine ca (a1x okQ asm) ?_|refine ca (a2d okQ) ?_|refine ca (b7n IH asm om okQ) ?_|refine ca (a1w okQ asm) ?_|refine ca (a1y okQ) ?_|refine ca (a1g asm rfl) ?_|refine a0c 3 (by decide) (by decide) ?_|fail)
  exact rfl
end
end Go.Vm.Ite
namespace Go.Vm.Ite
open Go.Vm.Lex (TokQ)
open Go.Vm.Pa
set_option maxHeartbeats 4000000
section
variable {fx:Nat->Option Obj} {l:List TokQ} {s s1 s2:PS} {n:Nat} {r:R}
theorem h3b (hl:LOk l) (IH:∀ m,m<=n->Sp fx l m) (hs:okS l s=true) (h:go l (n+1) .item s=some (r,s1)):evF (pgL fx F0) a5n [.ptr 0 0] [PB l s,PR s]=some (.d (.int .i64 r.i),[PB l s1,PR s1]):=by
 change Go.Vm.Pa.step l (go l n) .item s=_ at h
 simp only[Go.Vm.Pa.step,Go.Vm.Pa.mk,Go.Vm.Pa.ret,Go.Vm.Pa.a9s,Go.Vm.Pa.deeper,Go.Vm.Pa.step.newS,Go.Vm.Pa.step.numS,Go.Vm.Pa.step.pickS]at h
 repeat' (first|(cases h;done)|split at h)
 all_goals(try(simp only[Option.some.injEq,Prod.mk.injEq]at h;obtain⟨rfl,rfl⟩:=h))
 all_goals
  refine a0f (b7g (F:=F0)) rfl rfl rfl ?_
  repeat' (first|refine a2p ⟨?_⟩|refine ca (b0v okQ asm) ?_|refine ca (g4a IH asm om okQ) ?_|refine ca (e5k IH asm om okQ) ?_|refine a0c 3 (by decide) (by decide) ?_|fail)
  exact rfl
theorem h2p (hl:LOk l) (IH:∀ m,m<=n->Sp fx l m) (hs:okS l s=true) (h:go l (n+1) .stmt s=some (r,s1)):evF (pgL fx F0) a5i [.ptr 0 0] [PB l s,PR s]=some (.tup [.d (.int .i64 r.i),.d (.bool r.b)],[PB l s1,PR s1]):=by
 change Go.Vm.Pa.step l (go l n) .stmt s=_ at h
 simp only[Go.Vm.Pa.step,Go.Vm.Pa.mk,Go.Vm.Pa.ret,Go.Vm.Pa.a9s,Go.Vm.Pa.deeper,Go.Vm.Pa.step.newS,Go.Vm.Pa.step.numS,Go.Vm.Pa.step.pickS]at h
 repeat' (first|(cases h;done)|split at h)
 all_goals(try(simp only[Option.some.injEq,Prod.mk.injEq]at h;obtain⟨rfl,rfl⟩:=h))
 all_goals
  refine a0f (b7h (F:=F0)) rfl rfl rfl ?_
  repeat' (first|refine a2p ⟨?_⟩|refine ca (b0v okQ asm) ?_|refine ca (g8n IH asm om okQ) ?_|refine ca (a1x okQ asm) ?_|refine ca (a2d okQ) ?_|refine ca (a7q IH asm om okQ) ?_|refine ca (a5r IH asm om okQ) ?_|refine ca (a1g asm rfl) ?_|refine ca (f1z hl rfl okQ asm) ?_|refine ca (f4c IH asm om okQ) ?_|refine a0c 3 (by decide) (by decide) ?_|fail)
  exact rfl
theorem g7o {fr:Int} (hl:LOk l) (IH:∀ m,m<=n->Sp fx l m) (hs:okS l s=true) (h:go l (n+1) (.let_ fr) s=some (r,s1)):evF (pgL fx F0) a6c [.ptr 0 0,.d (.int .i64 fr)] [PB l s,PR s]=some (.d (.int .i64 r.i),[PB l s1,PR s1]):=by
 change Go.Vm.Pa.step l (go l n) (.let_ fr) s=_ at h
 simp only[Go.Vm.Pa.step,Go.Vm.Pa.mk,Go.Vm.Pa.ret,Go.Vm.Pa.a9s,Go.Vm.Pa.deeper,Go.Vm.Pa.step.newS,Go.Vm.Pa.step.numS,Go.Vm.Pa.step.pickS]at h
 repeat' (first|(cases h;done)|split at h)
 all_goals(try(simp only[Option.some.injEq,Prod.mk.injEq]at h;obtain⟨rfl,rfl⟩:=h))
 all_goals
  refine a0f (b9e (F:=F0)) rfl rfl rfl ?_
  repeat' (first|refine a2p ⟨?_⟩|refine And.intro ⟨rfl,by decide⟩ ?_|refine Exists.intro _ (Exists.intro _ (And.intro rfl (And.intro rfl ?_)))|refine And.intro ⟨rfl,rfl,f8e⟩ ?_|refine And.intro ⟨rfl,rfl,f9n⟩ ?_|refine ca (a1w okQ asm) ?_|refine ca (a1y okQ) ?_|refine ca (a1x okQ asm) ?_|refine ca (a2d okQ) ?_|refine ca (a2g okQ hl.len asm) ?_|refine ca (a2l okQ hl.len) ?_|refine ca (b7n IH asm om okQ) ?_|refine ca (a7q IH asm om okQ) ?_|refine ca (f1z hl rfl okQ asm) ?_|refine a0c 3 (by decide) (by decide) ?_|fail)
  exact rfl
theorem f4k {fr:Int} (hl:LOk l) (IH:∀ m,m<=n->Sp fx l m) (hs:okS l s=true) (h:go l (n+1) (.blocky fr) s=some (r,s1)):evF (pgL fx F0) a4i [.ptr 0 0,.d (.int .i64 fr)] [PB l s,PR s]=some (.tup [.d (.int .i64 r.i),.d (.bool r.b)],[PB l s1,PR s1]):=by
 change Go.Vm.Pa.step l (go l n) (.blocky fr) s=_ at h
 simp only[Go.Vm.Pa.step,Go.Vm.Pa.mk,Go.Vm.Pa.ret,Go.Vm.Pa.a9s,Go.Vm.Pa.deeper,Go.Vm.Pa.step.newS,Go.Vm.Pa.step.numS,Go.Vm.Pa.step.pickS]at h
 repeat' (first|(cases h;done)|split at h)
 all_goals(try(simp only[Option.some.injEq,Prod.mk.injEq]at h;obtain⟨rfl,rfl⟩:=h))
 all_goals
  refine a0f (b4g (F:=F0)) rfl rfl rfl ?_
  repeat' (first|refine a2p ⟨?_⟩|refine ca (e2f IH asm om okQ) ?_|refine ca (b0v okQ asm) ?_|refine ca (a1g asm rfl) ?_|refine ca (a1x okQ asm) ?_|refine ca (a2d okQ) ?_|refine a0c 3 (by decide) (by decide) ?_|fail)
  exact rfl
theorem f6f (hl:LOk l) (IH:∀ m,m<=n->Sp fx l m) (hs:okS l s=true) (h:go l (n+1) .branch s=some (r,s1)):evF (pgL fx F0) a4f [.ptr 0 0] [PB l s,PR s]=some (.d (.int .i64 r.i),[PB l s1,PR s1]):=by
 change Go.Vm.Pa.step l (go l n) .branch s=_ at h
 simp only[Go.Vm.Pa.step,Go.Vm.Pa.mk,Go.Vm.Pa.ret,Go.Vm.Pa.a9s,Go.Vm.Pa.deeper,Go.Vm.Pa.step.newS,Go.Vm.Pa.step.numS,Go.Vm.Pa.step.pickS]at h
 repeat' (first|(cases h;done)|split at h)
 all_goals(try(simp only[Option.some.injEq,Prod.mk.injEq]at h;obtain⟨rfl,rfl⟩:=h))
 all_goals
  refine a0f (b4m (F:=F0)) rfl rfl rfl ?_
  repeat' (first|refine a2p ⟨?_⟩|refine ca (b0v okQ asm) ?_|refine ca (f9e IH asm om okQ) ?_|refine ca (f6c IH asm om okQ) ?_|refine ca (a5r IH asm om okQ) ?_|refine a0c 3 (by decide) (by decide) ?_|fail)
  exact rfl
theorem g8o (hl:LOk l) (IH:∀ m,m<=n->Sp fx l m) (hs:okS l s=true) (h:go l (n+1) .cond s=some (r,s1)):evF (pgL fx F0) a5p [.ptr 0 0] [PB l s,PR s]=some (.d (.int .i64 r.i),[PB l s1,PR s1]):=by
 change Go.Vm.Pa.step l (go l n) .cond s=_ at h
 simp only[Go.Vm.Pa.step,Go.Vm.Pa.mk,Go.Vm.Pa.ret,Go.Vm.Pa.a9s,Go.Vm.Pa.deeper,Go.Vm.Pa.step.newS,Go.Vm.Pa.step.numS,Go.Vm.Pa.step.pickS]at h
 repeat' (first|(cases h;done)|split at h)
 all_goals(try(simp only[Option.some.injEq,Prod.mk.injEq]at h;obtain⟨rfl,rfl⟩:=h))
 all_goals
  refine a0f (b6l (F:=F0)) rfl rfl rfl ?_
  repeat' (first|refine a2p ⟨?_⟩|refine And.intro ⟨rfl,by decide⟩ ?_|refine Exists.intro _ (Exists.intro _ (And.intro rfl (And.intro rfl ?_)))|refine And.intro ⟨rfl,rfl,f8e⟩ ?_|refine And.intro ⟨rfl,rfl,f9n⟩ ?_|refine ca (a1w okQ asm) ?_|refine ca (a1y okQ) ?_|refine ca (a7q IH asm om okQ) ?_|refine ca (a5r IH asm om okQ) ?_|refine ca (a1x okQ asm) ?_|refine ca (a2d okQ) ?_|refine ca (b0v okQ asm) ?_|refine ca (b7x okQ asm) ?_|refine ca (f9e IH asm om okQ) ?_|refine ca (a1g asm rfl) ?_|refine a0c 3 (by decide) (by decide) ?_|fail)
  exact rfl
end
end Go.Vm.Ite
namespace Go.Vm.Ite
open Go.Vm.Lex (TokQ)
open Go.Vm.Pa
set_option maxHeartbeats 4000000
section
variable {fx:Nat->Option Obj} {l:List TokQ} {s s1 s2:PS} {n:Nat} {r:R}
theorem h9m (hl:LOk l) (IH:∀ m,m<=n->Sp fx l m) (hs:okS l s=true) (h:go l (n+1) .arm s=some (r,s1)):evF (pgL fx F0) a6f [.ptr 0 0] [PB l s,PR s]=some (.d (.int .i64 r.i),[PB l s1,PR s1]):=by
 change Go.Vm.Pa.step l (go l n) .arm s=_ at h
 simp only[Go.Vm.Pa.step,Go.Vm.Pa.mk,Go.Vm.Pa.ret,Go.Vm.Pa.a9s,Go.Vm.Pa.deeper,Go.Vm.Pa.step.newS,Go.Vm.Pa.step.numS,Go.Vm.Pa.step.pickS]at h
 repeat' (first|(cases h;done)|split at h)
 all_goals(try(simp only[Option.some.injEq,Prod.mk.injEq]at h;obtain⟨rfl,rfl⟩:=h))
 all_goals
  refine a0f (b8l (F:=F0)) rfl rfl rfl ?_
  repeat' (first|refine a2p ⟨?_⟩|refine ca (d5j IH asm om okQ) ?_|refine ca (a1w okQ asm) ?_|refine ca (a1y okQ) ?_|refine ca (b0v okQ asm) ?_|refine ca (a5r IH asm om okQ) ?_|refine ca (a1g asm rfl) ?_|refine ca (a1x okQ asm) ?_|refine ca (a2d okQ) ?_|refine ca (a7q IH asm om okQ) ?_|refine a0c 3 (by decide) (by decide) ?_|fail)
  exact rfl
theorem f2s (hl:LOk l) (IH:∀ m,m<=n->Sp fx l m) (hs:okS l s=true) (h:go l (n+1) .pattern s=some (r,s1)):evF (pgL fx F0) a3y [.ptr 0 0] [PB l s,PR s]=some (.d (.int .i64 r.i),[PB l s1,PR s1]):=by
 change Go.Vm.Pa.step l (go l n) .pattern s=_ at h
 simp only[Go.Vm.Pa.step,Go.Vm.Pa.mk,Go.Vm.Pa.ret,Go.Vm.Pa.a9s,Go.Vm.Pa.deeper,Go.Vm.Pa.step.newS,Go.Vm.Pa.step.numS,Go.Vm.Pa.step.pickS]at h
 repeat' (first|(cases h;done)|split at h)
 all_goals(try(simp only[Option.some.injEq,Prod.mk.injEq]at h;obtain⟨rfl,rfl⟩:=h))
 all_goals
  refine a0f (b3b (F:=F0)) rfl rfl rfl ?_
  repeat' (first|refine a2p ⟨?_⟩|refine ca (b7x okQ asm) ?_|refine ca (e0s IH asm om okQ) ?_|refine a0c 3 (by decide) (by decide) ?_|fail)
  exact rfl
theorem d8s {fr:Int} (hl:LOk l) (IH:∀ m,m<=n->Sp fx l m) (hs:okS l s=true) (h:go l (n+1) (.patterned fr) s=some (r,s1)):evF (pgL fx F0) a2z [.ptr 0 0,.d (.int .i64 fr)] [PB l s,PR s]=some (.d (.int .i64 r.i),[PB l s1,PR s1]):=by
 change Go.Vm.Pa.step l (go l n) (.patterned fr) s=_ at h
 simp only[Go.Vm.Pa.step,Go.Vm.Pa.mk,Go.Vm.Pa.ret,Go.Vm.Pa.a9s,Go.Vm.Pa.deeper,Go.Vm.Pa.step.newS,Go.Vm.Pa.step.numS,Go.Vm.Pa.step.pickS]at h
 repeat' (first|(cases h;done)|split at h)
 all_goals(try(simp only[Option.some.injEq,Prod.mk.injEq]at h;obtain⟨rfl,rfl⟩:=h))
 all_goals
  refine a0f (b1i (F:=F0)) rfl rfl rfl ?_
  repeat' (first|refine a2p ⟨?_⟩|refine And.intro (h8w hl) ?_|refine And.intro (h9h hl) ?_|refine ca (a1x okQ asm) ?_|refine ca (a2d okQ) ?_|refine ca (a1g asm rfl) ?_|refine ca (b0v okQ asm) ?_|refine ca (b7k okQ) ?_|refine ca (c1v okQ) ?_|refine ca (a2g okQ hl.len asm) ?_|refine ca (a2l okQ hl.len) ?_|refine ca (d5j IH asm om okQ) ?_|refine ca (a1w okQ asm) ?_|refine ca (a1y okQ) ?_|refine a0c 3 (by decide) (by decide) ?_|fail)
  exact rfl
theorem g8v {b:Bool} (hl:LOk l) (IH:∀ m,m<=n->Sp fx l m) (hs:okS l s=true) (h:go l (n+1) (.expr b) s=some (r,s1)):evF (pgL fx F0) a5g [.ptr 0 0,.d (.bool b)] [PB l s,PR s]=some (.d (.int .i64 r.i),[PB l s1,PR s1]):=by
 change Go.Vm.Pa.step l (go l n) (.expr b) s=_ at h
 simp only[Go.Vm.Pa.step,Go.Vm.Pa.mk,Go.Vm.Pa.ret,Go.Vm.Pa.a9s,Go.Vm.Pa.deeper,Go.Vm.Pa.step.newS,Go.Vm.Pa.step.numS,Go.Vm.Pa.step.pickS]at h
 repeat' (first|(cases h;done)|split at h)
 all_goals(try(simp only[Option.some.injEq,Prod.mk.injEq]at h;obtain⟨rfl,rfl⟩:=h))
 all_goals
  refine a0f (b7l (F:=F0)) rfl rfl rfl ?_
  repeat' (first|refine a2p ⟨?_⟩|refine ca (b7x okQ asm) ?_|refine ca (d1i IH asm om okQ) ?_|refine a0c 3 (by decide) (by decide) ?_|fail)
  exact rfl
theorem f1o {b:Bool} (hl:LOk l) (IH:∀ m,m<=n->Sp fx l m) (hs:okS l s=true) (h:go l (n+1) (.operand b) s=some (r,s1)):evF (pgL fx F0) a3z [.ptr 0 0,.d (.bool b)] [PB l s,PR s]=some (.d (.int .i64 r.i),[PB l s1,PR s1]):=by
 change Go.Vm.Pa.step l (go l n) (.operand b) s=_ at h
 simp only[Go.Vm.Pa.step,Go.Vm.Pa.mk,Go.Vm.Pa.ret,Go.Vm.Pa.a9s,Go.Vm.Pa.deeper,Go.Vm.Pa.step.newS,Go.Vm.Pa.step.numS,Go.Vm.Pa.step.pickS]at h
 repeat' (first|(cases h;done)|split at h)
 all_goals(try(simp only[Option.some.injEq,Prod.mk.injEq]at h;obtain⟨rfl,rfl⟩:=h))
 all_goals
  refine a0f (b2q (F:=F0)) rfl rfl rfl ?_
  repeat' (first|refine a2p ⟨?_⟩|refine ca (b7x okQ asm) ?_|refine ca (a8z IH asm om okQ) ?_|refine a0c 3 (by decide) (by decide) ?_|fail)
  exact rfl
end
end Go.Vm.Ite
namespace Go.Vm.Ite
open Go.Vm.Lex (TokQ)
open Go.Vm.Pa
set_option maxHeartbeats 4000000
section
variable {fx:Nat->Option Obj} {l:List TokQ} {s s1 s2:PS} {n:Nat} {r:R}
theorem f2a {b:Bool} (hl:LOk l) (IH:∀ m,m<=n->Sp fx l m) (hs:okS l s=true) (h:go l (n+1) (.prefix_ b) s=some (r,s1)):evF (pgL fx F0) a4d [.ptr 0 0,.d (.bool b)] [PB l s,PR s]=some (.d (.int .i64 r.i),[PB l s1,PR s1]):=by
 change Go.Vm.Pa.step l (go l n) (.prefix_ b) s=_ at h
 simp only[Go.Vm.Pa.step,Go.Vm.Pa.mk,Go.Vm.Pa.ret,Go.Vm.Pa.a9s,Go.Vm.Pa.deeper,Go.Vm.Pa.step.newS,Go.Vm.Pa.step.numS,Go.Vm.Pa.step.pickS]at h
 repeat' (first|(cases h;done)|split at h)
 all_goals(try(simp only[Option.some.injEq,Prod.mk.injEq]at h;obtain⟨rfl,rfl⟩:=h))
 all_goals
  refine a0f (b3h (F:=F0)) rfl rfl rfl ?_
  repeat' (first|refine a2p ⟨?_⟩|refine ca (a1x okQ asm) ?_|refine ca (a2d okQ) ?_|refine ca (e4s IH asm om okQ) ?_|refine ca (f3k IH asm om okQ) ?_|refine ca (a1g asm rfl) ?_|refine a0c 3 (by decide) (by decide) ?_|fail)
  exact rfl
theorem f0q {b:Bool} (hl:LOk l) (IH:∀ m,m<=n->Sp fx l m) (hs:okS l s=true) (h:go l (n+1) (.primary b) s=some (r,s1)):evF (pgL fx F0) a3w [.ptr 0 0,.d (.bool b)] [PB l s,PR s]=some (.d (.int .i64 r.i),[PB l s1,PR s1]):=by
 change Go.Vm.Pa.step l (go l n) (.primary b) s=_ at h
 simp only[Go.Vm.Pa.step,Go.Vm.Pa.mk,Go.Vm.Pa.ret,Go.Vm.Pa.a9s,Go.Vm.Pa.deeper,Go.Vm.Pa.step.newS,Go.Vm.Pa.step.numS,Go.Vm.Pa.step.pickS]at h
 repeat' (first|(cases h;done)|split at h)
 all_goals(try(simp only[Option.some.injEq,Prod.mk.injEq]at h;obtain⟨rfl,rfl⟩:=h))
 all_goals
  refine a0f (b2y (F:=F0)) rfl rfl rfl ?_
  repeat' (first|refine a2p ⟨?_⟩|refine a0a (c8v (f6d hs)) ?_|refine ca (a6q asm) ?_|refine ca (b7k okQ) ?_|refine ca (a1g asm rfl) ?_|refine ca (a1x okQ asm) ?_|refine ca (a2d okQ) ?_|refine ca (a7q IH asm om okQ) ?_|refine ca (a1w okQ asm) ?_|refine ca (a1y okQ) ?_|refine ca (c1v okQ) ?_|refine ca (a2g okQ hl.len asm) ?_|refine ca (a2l okQ hl.len) ?_|refine ca (b0v okQ asm) ?_|refine ca (e2f IH asm om okQ) ?_|refine ca (g2h IH asm om okQ) ?_|refine a0c 3 (by decide) (by decide) ?_|fail)
  exact rfl
theorem g6x (hl:LOk l) (IH:∀ m,m<=n->Sp fx l m) (hs:okS l s=true) (h:go l (n+1) .init s=some (r,s1)):evF (pgL fx F0) a5h [.ptr 0 0] [PB l s,PR s]=some (.d (.int .i64 r.i),[PB l s1,PR s1]):=by
 change Go.Vm.Pa.step l (go l n) .init s=_ at h
 simp only[Go.Vm.Pa.step,Go.Vm.Pa.mk,Go.Vm.Pa.ret,Go.Vm.Pa.a9s,Go.Vm.Pa.deeper,Go.Vm.Pa.step.newS,Go.Vm.Pa.step.numS,Go.Vm.Pa.step.pickS]at h
 repeat' (first|(cases h;done)|split at h)
 all_goals(try(simp only[Option.some.injEq,Prod.mk.injEq]at h;obtain⟨rfl,rfl⟩:=h))
 all_goals
  refine a0f (b6q (F:=F0)) rfl rfl rfl ?_
  repeat' (first|refine a2p ⟨?_⟩|refine ca (a2g okQ hl.len asm) ?_|refine ca (a2l okQ hl.len) ?_|refine ca (a1w okQ asm) ?_|refine ca (a1y okQ) ?_|refine ca (a7q IH asm om okQ) ?_|refine ca (a1g asm rfl) ?_|refine a0c 3 (by decide) (by decide) ?_|fail)
  exact rfl
end
end Go.Vm.Ite
namespace Go.Vm.Ite
open Go.Vm.Lex (TokQ)
open Go.Vm.Pa
set_option maxHeartbeats 4000000
section
variable {fx:Nat->Option Obj} {l:List TokQ} {s s1 s2:PS} {n:Nat} {r:R}
theorem e4x {b:Bool} (hl:LOk l) (IH:∀ m,m<=n->Sp fx l m) (hs:okS l s=true) (h:go l (n+1) (.postfix_ b) s=some (r,s1)):evF (pgL fx F0) a3v [.ptr 0 0,.d (.bool b)] [PB l s,PR s]=some (.d (.int .i64 r.i),[PB l s1,PR s1]):=by
 change Go.Vm.Pa.step l (go l n) (.postfix_ b) s=_ at h
 simp only[Go.Vm.Pa.step,Go.Vm.Pa.mk,Go.Vm.Pa.ret,Go.Vm.Pa.a9s,Go.Vm.Pa.deeper,Go.Vm.Pa.step.newS,Go.Vm.Pa.step.numS,Go.Vm.Pa.step.pickS]at h
 split at h
 ·cases h
 rename_i a q1 e1
 split at h
 ·cases h
 rename_i a2 q2 e2
 simp only[Option.some.injEq,Prod.mk.injEq]at h;obtain⟨rfl,rfl⟩:=h
 refine a0f (b2t (F:=F0)) rfl rfl rfl ?_
 repeat' (first|refine a2p ⟨?_⟩|refine ca (a1x okQ asm) ?_|refine ca (a2d okQ) ?_|refine ca (a2g okQ hl.len asm) ?_|refine ca (a2l okQ hl.len) ?_|refine ca (a1g asm rfl) ?_|refine ca (c3w IH asm om okQ) ?_|refine a0c 3 (by decide) (by decide) ?_|fail)
 refine a0g (α:=Nat×Int×PS) (fun a=>a.1) (fun a=>[(0,.ptr 0 0),(5,i64 s.at_),(6,i64 a.2.1)]) (fun a=>[PB l a.2.2,PR a.2.2]) (fun a=>a.1<=n/\go l a.1 (.gets s.at_ a.2.1) a.2.2=some (a2,q2)/\okS l a.2.2=true) ?_ (n,_,_) ⟨Nat.le_refl _,(b2u e2).1,okQ⟩ rfl rfl
 rintro⟨m,i,q⟩ ⟨hm,h,hq⟩
 dsimp only at hm h hq
 cases m with
 |zero=>cases h
 |succ m=>
 change Go.Vm.Pa.step l (go l m) (.gets s.at_ i) q=_ at h
 simp only[Go.Vm.Pa.step,Go.Vm.Pa.mk,Go.Vm.Pa.ret,Go.Vm.Pa.a9s,Go.Vm.Pa.deeper,Go.Vm.Pa.step.newS,Go.Vm.Pa.step.numS,Go.Vm.Pa.step.pickS]at h
 split at h
 ·simp only[Option.some.injEq,Prod.mk.injEq]at h;obtain⟨rfl,rfl⟩:=h
  repeat' (first|refine a2p ⟨?_⟩|refine ca (a1x okQ asm) ?_|refine ca (a2d okQ) ?_|refine ca (a2g okQ hl.len asm) ?_|refine ca (a2l okQ hl.len) ?_|refine ca (a1g asm rfl) ?_|refine ca (c3w IH asm om okQ) ?_|refine a0c 3 (by decide) (by decide) ?_|fail)
  exact rfl
 ·split at h
  ·cases h
  ·repeat' (first|refine a2p ⟨?_⟩|refine ca (a1x okQ asm) ?_|refine ca (a2d okQ) ?_|refine ca (a2g okQ hl.len asm) ?_|refine ca (a2l okQ hl.len) ?_|refine ca (a1g asm rfl) ?_|refine ca (c3w IH asm om okQ) ?_|refine a0c 3 (by decide) (by decide) ?_|fail)
   exact⟨(m,_,_),⟨om,h,okQ⟩,by dsimp only;omega,rfl,rfl⟩
theorem h9o {k:Int} {b:Bool} (hl:LOk l) (IH:∀ m,m<=n->Sp fx l m) (hs:okS l s=true) (h:go l (n+1) (.row k b) s=some (r,s1)):evF (pgL fx F0) a6a [.ptr 0 0,.d (.int .i64 k),.d (.bool b)] [PB l s,PR s]=some (.d (.int .i64 r.i),[PB l s1,PR s1]):=by
 change Go.Vm.Pa.step l (go l n) (.row k b) s=_ at h
 simp only[Go.Vm.Pa.step,Go.Vm.Pa.mk,Go.Vm.Pa.ret,Go.Vm.Pa.a9s,Go.Vm.Pa.deeper,Go.Vm.Pa.step.newS,Go.Vm.Pa.step.numS,Go.Vm.Pa.step.pickS]at h
 split at h
 ·rename_i c5
  refine a0f (b0g (F:=F0)) rfl rfl rfl ?_
  repeat' (first|refine a2p ⟨?_⟩|refine ca (a6q asm) ?_|refine ca (c7m okQ) ?_|refine ca (d1i IH asm om okQ) ?_|refine ca (a1g asm rfl) ?_|refine ca (a8z IH asm om okQ) ?_|refine a0c 3 (by decide) (by decide) ?_|fail)
  exact rfl
 rename_i c5
 split at h
 ·cases h
 rename_i a q1 e1
 split at h
 ·cases h
 rename_i a2 q2 e2
 simp only[Option.some.injEq,Prod.mk.injEq]at h;obtain⟨rfl,rfl⟩:=h
 refine a0f (b0g (F:=F0)) rfl rfl rfl ?_
 repeat' (first|refine a2p ⟨?_⟩|refine ca (a6q asm) ?_|refine ca (c7m okQ) ?_|refine ca (d1i IH asm om okQ) ?_|refine ca (a1g asm rfl) ?_|refine ca (a8z IH asm om okQ) ?_|refine a0c 3 (by decide) (by decide) ?_|fail)
 refine a0g (α:=Nat×Int×PS) (fun a=>a.1) (fun a=>[(0,.ptr 0 0),(1,i64 k),(2,.d (.bool b)),(7,i64 s.at_),(8,i64 a.2.1)]) (fun a=>[PB l a.2.2,PR a.2.2]) (fun a=>a.1<=n/\go l a.1 (.rows k b s.at_ a.2.1) a.2.2=some (a2,q2)/\okS l a.2.2=true) ?_ (n,_,_) ⟨Nat.le_refl _,(b2u e2).1,okQ⟩ rfl rfl
 rintro⟨m,i,q⟩ ⟨hm,h,hq⟩
 dsimp only at hm h hq
 cases m with
 |zero=>cases h
 |succ m=>
 change Go.Vm.Pa.step l (go l m) (.rows k b s.at_ i) q=_ at h
 simp only[Go.Vm.Pa.step,Go.Vm.Pa.mk,Go.Vm.Pa.ret,Go.Vm.Pa.a9s,Go.Vm.Pa.deeper,Go.Vm.Pa.step.newS,Go.Vm.Pa.step.numS,Go.Vm.Pa.step.pickS]at h
 split at h
 ·simp only[Option.some.injEq,Prod.mk.injEq]at h;obtain⟨rfl,rfl⟩:=h
  repeat' (first|refine a2p ⟨?_⟩|refine ca (a6q asm) ?_|refine ca (c7m okQ) ?_|refine ca (d1i IH asm om okQ) ?_|refine ca (a1g asm rfl) ?_|refine ca (a8z IH asm om okQ) ?_|refine a0c 3 (by decide) (by decide) ?_|fail)
  exact rfl
 rename_i cb
 split at h
 ·simp only[Option.some.injEq,Prod.mk.injEq]at h;obtain⟨rfl,rfl⟩:=h
  repeat' (first|refine a2p ⟨?_⟩|refine ca (a6q asm) ?_|refine ca (c7m okQ) ?_|refine ca (d1i IH asm om okQ) ?_|refine ca (a1g asm rfl) ?_|refine ca (a8z IH asm om okQ) ?_|refine a0c 3 (by decide) (by decide) ?_|fail)
  exact rfl
 split at h
 ·cases h
 rename_i c9
 split at h
 ·cases h
 split at h
 ·cases h
 split at h
 ·simp only[Option.some.injEq,Prod.mk.injEq]at h;obtain⟨rfl,rfl⟩:=h
  repeat' (first|refine a2p ⟨?_⟩|refine ca (a6q asm) ?_|refine ca (c7m okQ) ?_|refine ca (d1i (s:=adv _) IH asm om okQ) ?_|refine ca (a1g asm rfl) ?_|refine ca (a8z IH asm om okQ) ?_|refine ca (d1i IH asm om okQ) ?_|refine a0c 3 (by decide) (by decide) ?_|fail)
  exact rfl
 ·repeat' (first|refine a2p ⟨?_⟩|refine ca (a6q asm) ?_|refine ca (c7m okQ) ?_|refine ca (d1i (s:=adv _) IH asm om okQ) ?_|refine ca (a1g asm rfl) ?_|refine ca (a8z IH asm om okQ) ?_|refine ca (d1i IH asm om okQ) ?_|refine a0c 3 (by decide) (by decide) ?_|fail)
  exact⟨(m,_,_),⟨om,h,okQ⟩,by dsimp only;omega,rfl,rfl⟩
end
end Go.Vm.Ite
namespace Go.Vm.Ite
open Go.Vm.Lex (TokQ)
open Go.Vm.Pa
set_option maxHeartbeats 4000000
section
variable {fx:Nat->Option Obj} {l:List TokQ} {s s1 s2:PS} {n:Nat} {r:R}
theorem g2o (hl:LOk l) (IH:∀ m,m<=n->Sp fx l m) (hs:okS l s=true) (h:go l (n+1) .block s=some (r,s1)):evF (pgL fx F0) a4u [.ptr 0 0] [PB l s,PR s]=some (.d (.int .i64 r.i),[PB l s1,PR s1]):=by
 change Go.Vm.Pa.step l (go l n) .block s=_ at h
 simp only[Go.Vm.Pa.step,Go.Vm.Pa.mk,Go.Vm.Pa.ret,Go.Vm.Pa.a9s,Go.Vm.Pa.deeper,Go.Vm.Pa.step.newS,Go.Vm.Pa.step.numS,Go.Vm.Pa.step.pickS]at h
 split at h
 ·repeat' (first|(cases h;done)|split at h)
  simp only[Option.some.injEq,Prod.mk.injEq]at h;obtain⟨rfl,rfl⟩:=h
  refine a0f (a8b (F:=F0)) rfl rfl rfl ?_
  repeat' (first|refine a2p ⟨?_⟩|refine ca (a6q asm) ?_|refine ca (b0v okQ asm) ?_|refine ca (e4h IH asm om okQ) ?_|refine ca (b7x okQ asm) ?_|refine ca (a1w okQ asm) ?_|refine ca (a1y okQ) ?_|refine ca (a1g asm rfl) ?_|refine a0c 3 (by decide) (by decide) ?_|fail)
  exact rfl
 split at h
 ·cases h
 rename_i p q1 e1
 split at h
 ·cases h
 rename_i ck
 repeat' (first|(cases h;done)|split at h)
 simp only[Option.some.injEq,Prod.mk.injEq]at h;obtain⟨rfl,rfl⟩:=h
 refine a0f (a8b (F:=F0)) rfl rfl rfl ?_
 repeat' (first|refine a2p ⟨?_⟩|refine ca (a6q asm) ?_|refine ca (b0v okQ asm) ?_|refine ca (e4h IH asm om okQ) ?_|refine ca (b7x okQ asm) ?_|refine ca (a1w okQ asm) ?_|refine ca (a1y okQ) ?_|refine ca (a1g asm rfl) ?_|refine a0c 3 (by decide) (by decide) ?_|fail)
 refine a0g (α:=Nat×K×PS) (fun a=>a.1) (fun a=>[(0,.ptr 0 0),(3,i64 s.at_),(4,.ptr 2 0)]) (fun a=>[PB l a.2.2,PR a.2.2,.box [i64 20,str [],i64 0,.row 3 a.2.1.n,i64 0,i64 0],.row 1 a.2.1.l]) (fun a=>a.1<=n/\go l a.1 (.stmts a.2.1) a.2.2=some (p,q1)/\okS l a.2.2=true) ?_ (n,K.o,_) ⟨Nat.le_refl _,(b2u e1).1,okQ⟩ rfl rfl
 rintro⟨m,ks,q⟩ ⟨hm,h,hq⟩
 dsimp only at hm h hq
 cases m with
 |zero=>cases h
 |succ m=>
 change Go.Vm.Pa.step l (go l m) (.stmts ks) q=_ at h
 simp only[Go.Vm.Pa.step,Go.Vm.Pa.mk,Go.Vm.Pa.ret,Go.Vm.Pa.a9s,Go.Vm.Pa.deeper,Go.Vm.Pa.step.newS,Go.Vm.Pa.step.numS,Go.Vm.Pa.step.pickS]at h
 repeat' (first|(cases h;done)|split at h)
 all_goals first
   |(simp only[Option.some.injEq,Prod.mk.injEq]at h;obtain⟨rfl,rfl⟩:=h
     try have ck2:= ‹okK ks=true›
     repeat' (first|refine a2p ⟨?_⟩|refine And.intro ⟨rfl,a1i ck2,a1o ck2⟩ ?_|refine And.intro (a1i ck) ?_|refine And.intro ⟨rfl,by decide⟩ ?_|refine ca (a6q asm) ?_|refine ca (b0v okQ asm) ?_|refine ca (e4h IH asm om okQ) ?_|refine ca (b7x okQ asm) ?_|refine ca (a1w okQ asm) ?_|refine ca (a1y okQ) ?_|refine ca (a1g asm rfl) ?_|refine a0c 3 (by decide) (by decide) ?_|fail)
     exact rfl)
   |(have ck2:= ‹okK ks=true›
     repeat' (first|refine a2p ⟨?_⟩|refine And.intro ⟨rfl,a1i ck2,a1o ck2⟩ ?_|refine And.intro ⟨rfl,by decide⟩ ?_|refine ca (a6q asm) ?_|refine ca (b0v okQ asm) ?_|refine ca (e4h IH asm om okQ) ?_|refine ca (b7x okQ asm) ?_|refine ca (a1w okQ asm) ?_|refine ca (a1y okQ) ?_|refine ca (a1g asm rfl) ?_|refine a0c 3 (by decide) (by decide) ?_|fail)
     exact⟨(m,_,_),⟨om,h,okQ⟩,by dsimp only;omega,rfl,rfl⟩)
theorem f8b (hl:LOk l) (IH:∀ m,m<=n->Sp fx l m) (hs:okS l s=true) (h:go l (n+1) .match_ s=some (r,s1)):evF (pgL fx F0) a4v [.ptr 0 0] [PB l s,PR s]=some (.d (.int .i64 r.i),[PB l s1,PR s1]):=by
 change Go.Vm.Pa.step l (go l n) .match_ s=_ at h
 simp only[Go.Vm.Pa.step,Go.Vm.Pa.mk,Go.Vm.Pa.ret,Go.Vm.Pa.a9s,Go.Vm.Pa.deeper,Go.Vm.Pa.step.newS,Go.Vm.Pa.step.numS,Go.Vm.Pa.step.pickS]at h
 split at h
 ·cases h
 rename_i x q0 e0
 split at h
 ·cases h
 rename_i p q1 e1
 split at h
 ·cases h
 rename_i ck
 repeat' (first|(cases h;done)|split at h)
 simp only[Option.some.injEq,Prod.mk.injEq]at h;obtain⟨rfl,rfl⟩:=h
 refine a0f (b5f (F:=F0)) rfl rfl rfl ?_
 repeat' (first|refine a2p ⟨?_⟩|refine And.intro ⟨rfl,by decide⟩ ?_|refine Exists.intro _ (Exists.intro _ (And.intro rfl (And.intro rfl ?_)))|refine ca (a6q asm) ?_|refine ca (b0v okQ asm) ?_|refine ca (g1f IH asm om okQ) ?_|refine ca (a1w okQ asm) ?_|refine ca (a1y okQ) ?_|refine ca (a7q IH asm om okQ) ?_|refine ca (a1g asm rfl) ?_|refine a0c 3 (by decide) (by decide) ?_|fail)
 refine a0g (α:=Nat×K×PS) (fun a=>a.1) (fun a=>[(0,.ptr 0 0),(3,i64 s.at_),(4,.ptr 2 0)]) (fun a=>[PB l a.2.2,PR a.2.2,.box [i64 46,str [],i64 0,.row 3 a.2.1.n,i64 0,i64 0],.row 1 a.2.1.l]) (fun a=>a.1<=n/\go l a.1 (.arms a.2.1) a.2.2=some (p,q1)/\okS l a.2.2=true) ?_ (n,⟨Go.Vm.Pa.one x.i,1⟩,_) ⟨Nat.le_refl _,(b2u e1).1,okQ⟩ rfl rfl
 rintro⟨m,ks,q⟩ ⟨hm,h,hq⟩
 dsimp only at hm h hq
 cases m with
 |zero=>cases h
 |succ m=>
 change Go.Vm.Pa.step l (go l m) (.arms ks) q=_ at h
 simp only[Go.Vm.Pa.step,Go.Vm.Pa.mk,Go.Vm.Pa.ret,Go.Vm.Pa.a9s,Go.Vm.Pa.deeper,Go.Vm.Pa.step.newS,Go.Vm.Pa.step.numS,Go.Vm.Pa.step.pickS]at h
 repeat' (first|(cases h;done)|split at h)
 all_goals first
   |(simp only[Option.some.injEq,Prod.mk.injEq]at h;obtain⟨rfl,rfl⟩:=h
     try have ck2:= ‹okK ks=true›
     repeat' (first|refine a2p ⟨?_⟩|refine And.intro ⟨rfl,a1i ck2,a1o ck2⟩ ?_|refine And.intro (a1i ck) ?_|refine And.intro ⟨rfl,by decide⟩ ?_|refine ca (a6q asm) ?_|refine ca (b0v okQ asm) ?_|refine ca (g1f IH asm om okQ) ?_|refine ca (a1w okQ asm) ?_|refine ca (a1y okQ) ?_|refine ca (a7q IH asm om okQ) ?_|refine ca (a1g asm rfl) ?_|refine a0c 3 (by decide) (by decide) ?_|fail)
     exact rfl)
   |(have ck2:= ‹okK ks=true›
     repeat' (first|refine a2p ⟨?_⟩|refine And.intro ⟨rfl,a1i ck2,a1o ck2⟩ ?_|refine And.intro ⟨rfl,by decide⟩ ?_|refine ca (a6q asm) ?_|refine ca (b0v okQ asm) ?_|refine ca (g1f IH asm om okQ) ?_|refine ca (a1w okQ asm) ?_|refine ca (a1y okQ) ?_|refine ca (a7q IH asm om okQ) ?_|refine ca (a1g asm rfl) ?_|refine a0c 3 (by decide) (by decide) ?_|fail)
     exact⟨(m,_,_),⟨om,h,okQ⟩,by dsimp only;omega,rfl,rfl⟩)
theorem g0s {k:Int} (hl:LOk l) (IH:∀ m,m<=n->Sp fx l m) (hs:okS l s=true) (h:go l (n+1) (.parts k) s=some (r,s1)):evF (pgL fx F0) a4x [.ptr 0 0,.d (.int .i64 k)] [PB l s,PR s]=some (.d (.int .i64 r.i),[PB l s1,PR s1]):=by
 change Go.Vm.Pa.step l (go l n) (.parts k) s=_ at h
 simp only[Go.Vm.Pa.step,Go.Vm.Pa.mk,Go.Vm.Pa.ret,Go.Vm.Pa.a9s,Go.Vm.Pa.deeper,Go.Vm.Pa.step.newS,Go.Vm.Pa.step.numS,Go.Vm.Pa.step.pickS]at h
 split at h
 ·cases h
 rename_i c9
 split at h
 ·cases h
 rename_i p q1 e1
 split at h
 ·cases h
 rename_i ck
 repeat' (first|(cases h;done)|split at h)
 simp only[Option.some.injEq,Prod.mk.injEq]at h;obtain⟨rfl,rfl⟩:=h
 refine a0f (b5l (F:=F0)) rfl rfl rfl ?_
 repeat' (first|refine a2p ⟨?_⟩|refine ca (a1x okQ asm) ?_|refine ca (a2g (s:=adv _) okQ hl.len asm) ?_|refine ca (a2l (s:=adv _) okQ hl.len) ?_|refine ca (a6q asm) ?_|refine ca (b0v okQ asm) ?_|refine ca (e0o IH asm om okQ) ?_|refine ca (c6e IH asm om okQ) ?_|refine ca (a1x okQ asm) ?_|refine ca (a2d okQ) ?_|refine ca (a2g okQ hl.len asm) ?_|refine ca (a2l okQ hl.len) ?_|refine ca (a1w okQ asm) ?_|refine ca (a1y okQ) ?_|refine ca (a1g asm rfl) ?_|refine a0c 3 (by decide) (by decide) ?_|fail)
 refine a0g (α:=Nat×K×PS) (fun a=>a.1) (fun a=>[(0,.ptr 0 0),(1,i64 k),(5,i64 s.at_),(6,.ptr 2 0)]) (fun a=>[PB l a.2.2,PR a.2.2,.box [i64 k,str (a3d l (adv s)).1,i64 0,.row 3 a.2.1.n,i64 0,i64 0],.row 1 a.2.1.l]) (fun a=>a.1<=n/\go l a.1 (.fields k a.2.1) a.2.2=some (p,q1)/\okS l a.2.2=true) ?_ (n,K.o,_) ⟨Nat.le_refl _,(b2u e1).1,okQ⟩ rfl rfl
 rintro⟨m,ks,q⟩ ⟨hm,h,hq⟩
 dsimp only at hm h hq
 cases m with
 |zero=>cases h
 |succ m=>
 change Go.Vm.Pa.step l (go l m) (.fields k ks) q=_ at h
 simp only[Go.Vm.Pa.step,Go.Vm.Pa.mk,Go.Vm.Pa.ret,Go.Vm.Pa.a9s,Go.Vm.Pa.deeper,Go.Vm.Pa.step.newS,Go.Vm.Pa.step.numS,Go.Vm.Pa.step.pickS]at h
 repeat' (first|(cases h;done)|split at h)
 all_goals first
   |(simp only[Option.some.injEq,Prod.mk.injEq]at h;obtain⟨rfl,rfl⟩:=h
     try have ck2:= ‹okK ks=true›
     repeat' (first|refine a2p ⟨?_⟩|refine And.intro ⟨rfl,a1i ck2,a1o ck2⟩ ?_|refine And.intro (a1i ck) ?_|refine And.intro ⟨rfl,by decide⟩ ?_|refine ca (a6q asm) ?_|refine ca (b0v okQ asm) ?_|refine ca (e0o IH asm om okQ) ?_|refine ca (c6e IH asm om okQ) ?_|refine ca (a1x okQ asm) ?_|refine ca (a2d okQ) ?_|refine ca (a2g okQ hl.len asm) ?_|refine ca (a2l okQ hl.len) ?_|refine ca (a1w okQ asm) ?_|refine ca (a1y okQ) ?_|refine ca (a1g asm rfl) ?_|refine a0c 3 (by decide) (by decide) ?_|fail)
     exact rfl)
   |(have ck2:= ‹okK ks=true›
     repeat' (first|refine a2p ⟨?_⟩|refine And.intro ⟨rfl,a1i ck2,a1o ck2⟩ ?_|refine And.intro ⟨rfl,by decide⟩ ?_|refine ca (a6q asm) ?_|refine ca (b0v okQ asm) ?_|refine ca (e0o IH asm om okQ) ?_|refine ca (c6e IH asm om okQ) ?_|refine ca (a1x okQ asm) ?_|refine ca (a2d okQ) ?_|refine ca (a2g okQ hl.len asm) ?_|refine ca (a2l okQ hl.len) ?_|refine ca (a1w okQ asm) ?_|refine ca (a1y okQ) ?_|refine ca (a1g asm rfl) ?_|refine a0c 3 (by decide) (by decide) ?_|fail)
     exact⟨(m,_,_),⟨om,h,okQ⟩,by dsimp only;omega,rfl,rfl⟩)
end
end Go.Vm.Ite
namespace Go.Vm.Ite
open Go.Vm.Lex (TokQ)
open Go.Vm.Pa
set_option maxHeartbeats 4000000
section
variable {fx:Nat->Option Obj} {l:List TokQ} {s s1 s2:PS} {n:Nat} {r:R}
theorem e7c (hl:LOk l) (IH:∀ m,m<=n->Sp fx l m) (hs:okS l s=true) (h:go l (n+1) .function s=some (r,s1)):evF (pgL fx F0) a3m [.ptr 0 0] [PB l s,PR s]=some (.d (.int .i64 r.i),[PB l s1,PR s1]):=by
 change Go.Vm.Pa.step l (go l n) .function s=_ at h
 simp only[Go.Vm.Pa.step,Go.Vm.Pa.mk,Go.Vm.Pa.ret,Go.Vm.Pa.a9s,Go.Vm.Pa.deeper,Go.Vm.Pa.step.newS,Go.Vm.Pa.step.numS,Go.Vm.Pa.step.pickS]at h
 split at h
 ·cases h
 rename_i p q1 e1
 split at h
 ·rename_i s6 e6
  split at h
  ·cases h
  rename_i r1 q2 e2
  split at h
  ·cases h
  rename_i k1
  split at h
  ·cases h
  rename_i b1 q3 e3
  split at h
  ·cases h
  rename_i k2
  split at h
  ·cases h
  rename_i k3
  repeat' (first|(cases h;done)|split at h)
  simp only[Option.some.injEq,Prod.mk.injEq]at h;obtain⟨rfl,rfl⟩:=h
  refine a0f (a3j (F:=F0)) rfl rfl rfl ?_
  repeat' (first|refine a2p ⟨?_⟩|refine ca (a6q asm) ?_|refine ca (b0v okQ asm) ?_|refine ca (b2a IH asm om okQ) ?_|refine ca (a1x okQ asm) ?_|refine ca (a2d okQ) ?_|refine ca (a1w okQ asm) ?_|refine ca (a1y okQ) ?_|refine ca (a2g okQ hl.len asm) ?_|refine ca (a2l okQ hl.len) ?_|refine ca (b7n IH asm om okQ) ?_|refine ca (a5r IH asm om okQ) ?_|refine ca (a1g asm rfl) ?_|refine a0c 3 (by decide) (by decide) ?_|fail)
  refine a0g (α:=Nat×(K×Int)×PS) (fun a=>a.1) (fun a=>[(0,.ptr 0 0),(3,i64 s.at_),(4,.ptr 2 0)]) (fun a=>[PB l a.2.2,PR a.2.2,.box [i64 2,str (a3d l (a2i l [102,110] s).2).1,i64 a.2.1.2,.row 3 a.2.1.1.n,i64 0,i64 0],.row 1 a.2.1.1.l]) (fun a=>a.1<=n/\go l a.1 (.params a.2.1.1 a.2.1.2) a.2.2=some (p,q1)/\okS l a.2.2=true) ?_ (n,(K.o,0),_) ⟨Nat.le_refl _,(b2u e1).1,okQ⟩ rfl rfl
  rintro⟨m,⟨ks,v⟩,q⟩ ⟨hm,h,hq⟩
  dsimp only at hm h hq
  cases m with
  |zero=>cases h
  |succ m=>
  change Go.Vm.Pa.step l (go l m) (.params ks v) q=_ at h
  simp only[Go.Vm.Pa.step,Go.Vm.Pa.mk,Go.Vm.Pa.ret,Go.Vm.Pa.a9s,Go.Vm.Pa.deeper,Go.Vm.Pa.step.newS,Go.Vm.Pa.step.numS,Go.Vm.Pa.step.pickS]at h
  repeat' (first|(cases h;done)|split at h)
  all_goals first
    |(simp only[Option.some.injEq,Prod.mk.injEq]at h;obtain⟨rfl,rfl⟩:=h
      try have ck2:= ‹okK ks=true›
      repeat' (first|refine a2p ⟨?_⟩|refine And.intro ⟨rfl,a1i ck2,a1o ck2⟩ ?_|refine And.intro (a1i k3) ?_|refine And.intro ⟨rfl,by decide⟩ ?_|refine And.intro ⟨rfl,a1i k1,a1o k1⟩ ?_|refine And.intro ⟨rfl,a1i k2,a1o k2⟩ ?_|refine ca (a6q asm) ?_|refine ca (b0v okQ asm) ?_|refine ca (b2a IH asm om okQ) ?_|refine ca (a1x okQ asm) ?_|refine ca (a2d okQ) ?_|refine ca (a1w okQ asm) ?_|refine ca (a1y okQ) ?_|refine ca (a2g okQ hl.len asm) ?_|refine ca (a2l okQ hl.len) ?_|refine ca (b7n IH asm om okQ) ?_|refine ca (a5r IH asm om okQ) ?_|refine ca (a1g asm rfl) ?_|refine a0c 3 (by decide) (by decide) ?_|fail)
      exact rfl)
    |(have ck2:= ‹okK ks=true›
      repeat' (first|refine a2p ⟨?_⟩|refine And.intro ⟨rfl,a1i ck2,a1o ck2⟩ ?_|refine And.intro ⟨rfl,by decide⟩ ?_|refine And.intro ⟨rfl,a1i k1,a1o k1⟩ ?_|refine And.intro ⟨rfl,a1i k2,a1o k2⟩ ?_|refine ca (a6q asm) ?_|refine ca (b0v okQ asm) ?_|refine ca (b2a IH asm om okQ) ?_|refine ca (a1x okQ asm) ?_|refine ca (a2d okQ) ?_|refine ca (a1w okQ asm) ?_|refine ca (a1y okQ) ?_|refine ca (a2g okQ hl.len asm) ?_|refine ca (a2l okQ hl.len) ?_|refine ca (b7n IH asm om okQ) ?_|refine ca (a5r IH asm om okQ) ?_|refine ca (a1g asm rfl) ?_|refine a0c 3 (by decide) (by decide) ?_|fail)
      exact⟨(m,(_,_),_),⟨om,h,okQ⟩,by dsimp only;omega,rfl,rfl⟩)
 rename_i s6 e6
 split at h
 ·rename_i cb
  split at h
  ·rename_i hg
   obtain⟨hn,hn2,hf⟩:=hg
   have gf:=c8v (g3n hf)
   have hroom:roomy (s6.n+1) 72:=by unfold roomy;omega
   split at h
   ·cases h
   rename_i k1
   split at h
   ·cases h
   rename_i b1 q3 e3
   split at h
   ·cases h
   rename_i k2
   split at h
   ·cases h
   rename_i k3
   have h6:okS l s6=true:=okQ
   repeat' (first|(cases h;done)|split at h)
   simp only[Option.some.injEq,Prod.mk.injEq]at h;obtain⟨rfl,rfl⟩:=h
   refine a0f (a3j (F:=F0)) rfl rfl rfl ?_
   repeat' (first|refine a2p ⟨?_⟩|refine ca (a6q asm) ?_|refine ca (b0v okQ asm) ?_|refine ca (b2a IH asm om okQ) ?_|refine ca (a1x okQ asm) ?_|refine ca (a2d okQ) ?_|refine ca (a1w okQ asm) ?_|refine ca (a1y okQ) ?_|refine ca (a2g okQ hl.len asm) ?_|refine ca (a2l okQ hl.len) ?_|refine ca (b7n IH asm om okQ) ?_|refine ca (a5r IH asm om okQ) ?_|refine ca (a1g asm rfl) ?_|refine a0c 3 (by decide) (by decide) ?_|fail)
   refine a0g (α:=Nat×(K×Int)×PS) (fun a=>a.1) (fun a=>[(0,.ptr 0 0),(3,i64 s.at_),(4,.ptr 2 0)]) (fun a=>[PB l a.2.2,PR a.2.2,.box [i64 2,str (a3d l (a2i l [102,110] s).2).1,i64 a.2.1.2,.row 3 a.2.1.1.n,i64 0,i64 0],.row 1 a.2.1.1.l]) (fun a=>a.1<=n/\go l a.1 (.params a.2.1.1 a.2.1.2) a.2.2=some (p,q1)/\okS l a.2.2=true) ?_ (n,(K.o,0),_) ⟨Nat.le_refl _,(b2u e1).1,okQ⟩ rfl rfl
   rintro⟨m,⟨ks,v⟩,q⟩ ⟨hm,h,hq⟩
   dsimp only at hm h hq
   cases m with
   |zero=>cases h
   |succ m=>
   change Go.Vm.Pa.step l (go l m) (.params ks v) q=_ at h
   simp only[Go.Vm.Pa.step,Go.Vm.Pa.mk,Go.Vm.Pa.ret,Go.Vm.Pa.a9s,Go.Vm.Pa.deeper,Go.Vm.Pa.step.newS,Go.Vm.Pa.step.numS,Go.Vm.Pa.step.pickS]at h
   repeat' (first|(cases h;done)|split at h)
   all_goals first
     |(simp only[Option.some.injEq,Prod.mk.injEq]at h;obtain⟨rfl,rfl⟩:=h
       try have ck2:= ‹okK ks=true›
       repeat' (first|refine a2p ⟨?_⟩|refine And.intro ⟨rfl,a1i ck2,a1o ck2⟩ ?_|refine And.intro (a1i k3) ?_|refine And.intro ⟨rfl,by decide⟩ ?_|refine And.intro ⟨rfl,a1i k1,a1o k1⟩ ?_|refine And.intro ⟨rfl,a1i k2,a1o k2⟩ ?_|refine a0a gf ?_|refine And.intro ⟨rfl,hn,hroom⟩ ?_|refine Exists.intro (N.D ⟨12,.nil,0,.nil⟩ _ _) (And.intro rfl ?_)|refine ca (a5r IH e3 om h6) ?_|refine ca (a6q asm) ?_|refine ca (b0v okQ asm) ?_|refine ca (b2a IH asm om okQ) ?_|refine ca (a1x okQ asm) ?_|refine ca (a2d okQ) ?_|refine ca (a1w okQ asm) ?_|refine ca (a1y okQ) ?_|refine ca (a2g okQ hl.len asm) ?_|refine ca (a2l okQ hl.len) ?_|refine ca (b7n IH asm om okQ) ?_|refine ca (a5r IH asm om okQ) ?_|refine ca (a1g asm rfl) ?_|refine a0c 3 (by decide) (by decide) ?_|fail)
       exact rfl)
     |(have ck2:= ‹okK ks=true›
       repeat' (first|refine a2p ⟨?_⟩|refine And.intro ⟨rfl,a1i ck2,a1o ck2⟩ ?_|refine And.intro ⟨rfl,by decide⟩ ?_|refine And.intro ⟨rfl,a1i k1,a1o k1⟩ ?_|refine And.intro ⟨rfl,a1i k2,a1o k2⟩ ?_|refine a0a gf ?_|refine And.intro ⟨rfl,hn,hroom⟩ ?_|refine Exists.intro (N.D ⟨12,.nil,0,.nil⟩ _ _) (And.intro rfl ?_)|refine ca (a5r IH e3 om h6) ?_|refine ca (a6q asm) ?_|refine ca (b0v okQ asm) ?_|refine ca (b2a IH asm om okQ) ?_|refine ca (a1x okQ asm) ?_|refine ca (a2d okQ) ?_|refine ca (a1w okQ asm) ?_|refine ca (a1y okQ) ?_|refine ca (a2g okQ hl.len asm) ?_|refine ca (a2l okQ hl.len) ?_|refine ca (b7n IH asm om okQ) ?_|refine ca (a5r IH asm om okQ) ?_|refine ca (a1g asm rfl) ?_|refine a0c 3 (by decide) (by decide) ?_|fail)
       exact⟨(m,(_,_),_),⟨om,h,okQ⟩,by dsimp only;omega,rfl,rfl⟩)
  ·cases h
 ·split at h
  ·cases h
  rename_i b1 q3 e3
  split at h
  ·cases h
  rename_i k1
  split at h
  ·cases h
  rename_i k2
  repeat' (first|(cases h;done)|split at h)
  simp only[Option.some.injEq,Prod.mk.injEq]at h;obtain⟨rfl,rfl⟩:=h
  refine a0f (a3j (F:=F0)) rfl rfl rfl ?_
  repeat' (first|refine a2p ⟨?_⟩|refine ca (a6q asm) ?_|refine ca (b0v okQ asm) ?_|refine ca (b2a IH asm om okQ) ?_|refine ca (a1x okQ asm) ?_|refine ca (a2d okQ) ?_|refine ca (a1w okQ asm) ?_|refine ca (a1y okQ) ?_|refine ca (a2g okQ hl.len asm) ?_|refine ca (a2l okQ hl.len) ?_|refine ca (b7n IH asm om okQ) ?_|refine ca (a5r IH asm om okQ) ?_|refine ca (a1g asm rfl) ?_|refine a0c 3 (by decide) (by decide) ?_|fail)
  refine a0g (α:=Nat×(K×Int)×PS) (fun a=>a.1) (fun a=>[(0,.ptr 0 0),(3,i64 s.at_),(4,.ptr 2 0)]) (fun a=>[PB l a.2.2,PR a.2.2,.box [i64 2,str (a3d l (a2i l [102,110] s).2).1,i64 a.2.1.2,.row 3 a.2.1.1.n,i64 0,i64 0],.row 1 a.2.1.1.l]) (fun a=>a.1<=n/\go l a.1 (.params a.2.1.1 a.2.1.2) a.2.2=some (p,q1)/\okS l a.2.2=true) ?_ (n,(K.o,0),_) ⟨Nat.le_refl _,(b2u e1).1,okQ⟩ rfl rfl
  rintro⟨m,⟨ks,v⟩,q⟩ ⟨hm,h,hq⟩
  dsimp only at hm h hq
  cases m with
  |zero=>cases h
  |succ m=>
  change Go.Vm.Pa.step l (go l m) (.params ks v) q=_ at h
  simp only[Go.Vm.Pa.step,Go.Vm.Pa.mk,Go.Vm.Pa.ret,Go.Vm.Pa.a9s,Go.Vm.Pa.deeper,Go.Vm.Pa.step.newS,Go.Vm.Pa.step.numS,Go.Vm.Pa.step.pickS]at h
  repeat' (first|(cases h;done)|split at h)
  all_goals first
    |(simp only[Option.some.injEq,Prod.mk.injEq]at h;obtain⟨rfl,rfl⟩:=h
      try have ck2:= ‹okK ks=true›
      repeat' (first|refine a2p ⟨?_⟩|refine And.intro ⟨rfl,a1i ck2,a1o ck2⟩ ?_|refine And.intro (a1i k2) ?_|refine And.intro ⟨rfl,by decide⟩ ?_|refine And.intro ⟨rfl,a1i k1,a1o k1⟩ ?_|refine ca (a6q asm) ?_|refine ca (b0v okQ asm) ?_|refine ca (b2a IH asm om okQ) ?_|refine ca (a1x okQ asm) ?_|refine ca (a2d okQ) ?_|refine ca (a1w okQ asm) ?_|refine ca (a1y okQ) ?_|refine ca (a2g okQ hl.len asm) ?_|refine ca (a2l okQ hl.len) ?_|refine ca (b7n IH asm om okQ) ?_|refine ca (a5r IH asm om okQ) ?_|refine ca (a1g asm rfl) ?_|refine a0c 3 (by decide) (by decide) ?_|fail)
      exact rfl)
    |(have ck2:= ‹okK ks=true›
      repeat' (first|refine a2p ⟨?_⟩|refine And.intro ⟨rfl,a1i ck2,a1o ck2⟩ ?_|refine And.intro ⟨rfl,by decide⟩ ?_|refine And.intro ⟨rfl,a1i k1,a1o k1⟩ ?_|refine ca (a6q asm) ?_|refine ca (b0v okQ asm) ?_|refine ca (b2a IH asm om okQ) ?_|refine ca (a1x okQ asm) ?_|refine ca (a2d okQ) ?_|refine ca (a1w okQ asm) ?_|refine ca (a1y okQ) ?_|refine ca (a2g okQ hl.len asm) ?_|refine ca (a2l okQ hl.len) ?_|refine ca (b7n IH asm om okQ) ?_|refine ca (a5r IH asm om okQ) ?_|refine ca (a1g asm rfl) ?_|refine a0c 3 (by decide) (by decide) ?_|fail)
      exact⟨(m,(_,_),_),⟨om,h,okQ⟩,by dsimp only;omega,rfl,rfl⟩)
end
end Go.Vm.Ite
namespace Go.Vm.Ite
open Go.Vm.Lex (TokQ)
open Go.Vm.Pa
set_option maxHeartbeats 4000000
section
variable {fx:Nat->Option Obj} {l:List TokQ} {s s1 s2:PS} {n:Nat} {r:R}
theorem g1t {fr:Int} {b:Bool} (hl:LOk l) (IH:∀ m,m<=n->Sp fx l m) (hs:okS l s=true) (h:go l (n+1) (.named fr b) s=some (r,s1)):evF (pgL fx F0) a4y [.ptr 0 0,.d (.int .i64 fr),.d (.bool b)] [PB l s,PR s]=some (.d (.int .i64 r.i),[PB l s1,PR s1]):=by
 change Go.Vm.Pa.step l (go l n) (.named fr b) s=_ at h
 simp only[Go.Vm.Pa.step,Go.Vm.Pa.mk,Go.Vm.Pa.ret,Go.Vm.Pa.a9s,Go.Vm.Pa.deeper,Go.Vm.Pa.step.newS,Go.Vm.Pa.step.numS,Go.Vm.Pa.step.pickS]at h
 split at h
 ·rename_i s2 e2
  split at h
  ·cases h
  rename_i p q1 e1
  split at h
  ·cases h
  rename_i ck
  repeat' (first|(cases h;done)|split at h)
  simp only[Option.some.injEq,Prod.mk.injEq]at h;obtain⟨rfl,rfl⟩:=h
  refine a0f (a2w (F:=F0)) rfl rfl rfl ?_
  repeat' (first|refine a2p ⟨?_⟩|refine ca (a6q asm) ?_|refine ca (b0v okQ asm) ?_|refine ca (a7q IH asm om okQ) ?_|refine ca (a1x okQ asm) ?_|refine ca (a2d okQ) ?_|refine ca (c1z IH asm om okQ) ?_|refine ca (a2g okQ hl.len asm) ?_|refine ca (a2l okQ hl.len) ?_|refine ca (a1w okQ asm) ?_|refine ca (a1y okQ) ?_|refine ca (a1g asm rfl) ?_|refine a0c 3 (by decide) (by decide) ?_|fail)
  refine a0g (α:=Nat×K×PS) (fun a=>a.1) (fun a=>[(0,.ptr 0 0),(1,i64 fr),(8,.ptr 2 0)]) (fun a=>[PB l a.2.2,PR a.2.2,.box [i64 34,str (a3d l s).1,i64 0,.row 3 a.2.1.n,i64 0,i64 0],.row 1 a.2.1.l]) (fun a=>a.1<=n/\go l a.1 (.args a.2.1) a.2.2=some (p,q1)/\okS l a.2.2=true) ?_ (n,K.o,_) ⟨Nat.le_refl _,(b2u e1).1,okQ⟩ rfl rfl
  rintro⟨m,ks,q⟩ ⟨hm,h,hq⟩
  dsimp only at hm h hq
  cases m with
  |zero=>cases h
  |succ m=>
  change Go.Vm.Pa.step l (go l m) (.args ks) q=_ at h
  simp only[Go.Vm.Pa.step,Go.Vm.Pa.mk,Go.Vm.Pa.ret,Go.Vm.Pa.a9s,Go.Vm.Pa.deeper,Go.Vm.Pa.step.newS,Go.Vm.Pa.step.numS,Go.Vm.Pa.step.pickS]at h
  repeat' (first|(cases h;done)|split at h)
  all_goals first
    |(simp only[Option.some.injEq,Prod.mk.injEq]at h;obtain⟨rfl,rfl⟩:=h
      try have ck2:= ‹okK ks=true›
      repeat' (first|refine a2p ⟨?_⟩|refine And.intro ⟨rfl,a1i ck2,a1o ck2⟩ ?_|refine And.intro (a1i ck) ?_|refine And.intro ⟨rfl,by decide⟩ ?_|refine ca (a6q asm) ?_|refine ca (b0v okQ asm) ?_|refine ca (a7q IH asm om okQ) ?_|refine ca (a1x okQ asm) ?_|refine ca (a2d okQ) ?_|refine ca (c1z IH asm om okQ) ?_|refine ca (a2g okQ hl.len asm) ?_|refine ca (a2l okQ hl.len) ?_|refine ca (a1w okQ asm) ?_|refine ca (a1y okQ) ?_|refine ca (a1g asm rfl) ?_|refine a0c 3 (by decide) (by decide) ?_|fail)
      exact rfl)
    |(have ck2:= ‹okK ks=true›
      repeat' (first|refine a2p ⟨?_⟩|refine And.intro ⟨rfl,a1i ck2,a1o ck2⟩ ?_|refine And.intro ⟨rfl,by decide⟩ ?_|refine ca (a6q asm) ?_|refine ca (b0v okQ asm) ?_|refine ca (a7q IH asm om okQ) ?_|refine ca (a1x okQ asm) ?_|refine ca (a2d okQ) ?_|refine ca (c1z IH asm om okQ) ?_|refine ca (a2g okQ hl.len asm) ?_|refine ca (a2l okQ hl.len) ?_|refine ca (a1w okQ asm) ?_|refine ca (a1y okQ) ?_|refine ca (a1g asm rfl) ?_|refine a0c 3 (by decide) (by decide) ?_|fail)
      exact⟨(m,_,_),⟨om,h,okQ⟩,by dsimp only;omega,rfl,rfl⟩)
 ·cases b
  ·dsimp only at h
   split at h
   ·rename_i s3 e3
    split at h
    ·cases h
    rename_i p q1 e1
    split at h
    ·cases h
    rename_i ck
    repeat' (first|(cases h;done)|split at h)
    simp only[Option.some.injEq,Prod.mk.injEq]at h;obtain⟨rfl,rfl⟩:=h
    refine a0f (a2w (F:=F0)) rfl rfl rfl ?_
    repeat' (first|refine a2p ⟨?_⟩|refine ca (a6q asm) ?_|refine ca (b0v okQ asm) ?_|refine ca (a7q IH asm om okQ) ?_|refine ca (a1x okQ asm) ?_|refine ca (a2d okQ) ?_|refine ca (c1z IH asm om okQ) ?_|refine ca (a2g okQ hl.len asm) ?_|refine ca (a2l okQ hl.len) ?_|refine ca (a1w okQ asm) ?_|refine ca (a1y okQ) ?_|refine ca (a1g asm rfl) ?_|refine a0c 3 (by decide) (by decide) ?_|fail)
    refine a0g (α:=Nat×K×PS) (fun a=>a.1) (fun a=>[(0,.ptr 0 0),(1,i64 fr),(9,.ptr 2 0)]) (fun a=>[PB l a.2.2,PR a.2.2,.box [i64 35,str (a3d l s).1,i64 0,.row 3 a.2.1.n,i64 0,i64 0],.row 1 a.2.1.l]) (fun a=>a.1<=n/\go l a.1 (.inits a.2.1) a.2.2=some (p,q1)/\okS l a.2.2=true) ?_ (n,K.o,_) ⟨Nat.le_refl _,(b2u e1).1,okQ⟩ rfl rfl
    rintro⟨m,ks,q⟩ ⟨hm,h,hq⟩
    dsimp only at hm h hq
    cases m with
    |zero=>cases h
    |succ m=>
    change Go.Vm.Pa.step l (go l m) (.inits ks) q=_ at h
    simp only[Go.Vm.Pa.step,Go.Vm.Pa.mk,Go.Vm.Pa.ret,Go.Vm.Pa.a9s,Go.Vm.Pa.deeper,Go.Vm.Pa.step.newS,Go.Vm.Pa.step.numS,Go.Vm.Pa.step.pickS]at h
    repeat' (first|(cases h;done)|split at h)
    all_goals first
      |(simp only[Option.some.injEq,Prod.mk.injEq]at h;obtain⟨rfl,rfl⟩:=h
        try have ck2:= ‹okK ks=true›
        repeat' (first|refine a2p ⟨?_⟩|refine And.intro ⟨rfl,a1i ck2,a1o ck2⟩ ?_|refine And.intro (a1i ck) ?_|refine And.intro ⟨rfl,by decide⟩ ?_|refine ca (a6q asm) ?_|refine ca (b0v okQ asm) ?_|refine ca (a7q IH asm om okQ) ?_|refine ca (a1x okQ asm) ?_|refine ca (a2d okQ) ?_|refine ca (c1z IH asm om okQ) ?_|refine ca (a2g okQ hl.len asm) ?_|refine ca (a2l okQ hl.len) ?_|refine ca (a1w okQ asm) ?_|refine ca (a1y okQ) ?_|refine ca (a1g asm rfl) ?_|refine a0c 3 (by decide) (by decide) ?_|fail)
        exact rfl)
      |(have ck2:= ‹okK ks=true›
        repeat' (first|refine a2p ⟨?_⟩|refine And.intro ⟨rfl,a1i ck2,a1o ck2⟩ ?_|refine And.intro ⟨rfl,by decide⟩ ?_|refine ca (a6q asm) ?_|refine ca (b0v okQ asm) ?_|refine ca (a7q IH asm om okQ) ?_|refine ca (a1x okQ asm) ?_|refine ca (a2d okQ) ?_|refine ca (c1z IH asm om okQ) ?_|refine ca (a2g okQ hl.len asm) ?_|refine ca (a2l okQ hl.len) ?_|refine ca (a1w okQ asm) ?_|refine ca (a1y okQ) ?_|refine ca (a1g asm rfl) ?_|refine a0c 3 (by decide) (by decide) ?_|fail)
        exact⟨(m,_,_),⟨om,h,okQ⟩,by dsimp only;omega,rfl,rfl⟩)
   ·skip
    repeat' (first|(cases h;done)|split at h)
    all_goals
     simp only[Option.some.injEq,Prod.mk.injEq]at h;obtain⟨rfl,rfl⟩:=h
     refine a0f (a2w (F:=F0)) rfl rfl rfl ?_
     repeat' (first|refine a2p ⟨?_⟩|refine And.intro (h8w hl) ?_|refine And.intro (h9h hl) ?_|refine ca (a6q asm) ?_|refine ca (b0v okQ asm) ?_|refine ca (a7q IH asm om okQ) ?_|refine ca (a1x okQ asm) ?_|refine ca (a2d okQ) ?_|refine ca (c1z IH asm om okQ) ?_|refine ca (a2g okQ hl.len asm) ?_|refine ca (a2l okQ hl.len) ?_|refine ca (a1w okQ asm) ?_|refine ca (a1y okQ) ?_|refine ca (a1g asm rfl) ?_|refine a0c 3 (by decide) (by decide) ?_|fail)
     exact rfl
  ·dsimp only at h
   repeat' (first|(cases h;done)|split at h)
   all_goals
    simp only[Option.some.injEq,Prod.mk.injEq]at h;obtain⟨rfl,rfl⟩:=h
    refine a0f (a2w (F:=F0)) rfl rfl rfl ?_
    repeat' (first|refine a2p ⟨?_⟩|refine And.intro (h8w hl) ?_|refine And.intro (h9h hl) ?_|refine ca (a6q asm) ?_|refine ca (b0v okQ asm) ?_|refine ca (a7q IH asm om okQ) ?_|refine ca (a1x okQ asm) ?_|refine ca (a2d okQ) ?_|refine ca (c1z IH asm om okQ) ?_|refine ca (a2g okQ hl.len asm) ?_|refine ca (a2l okQ hl.len) ?_|refine ca (a1w okQ asm) ?_|refine ca (a1y okQ) ?_|refine ca (a1g asm rfl) ?_|refine a0c 3 (by decide) (by decide) ?_|fail)
    exact rfl
end
end Go.Vm.Ite
namespace Go.Vm.Ite
open Go.Vm.Lex (TokQ)
open Go.Vm.Pa
section
variable {fx:Nat->Option Obj} {l:List TokQ}
theorem h9s (hl:LOk l):∀ n m,m<=n->Sp fx l m:=by
 intro n
 induction n with
 |zero=>
  intro m hm
  obtain rfl:m=0:=om
  exact{
    typ:=fun _ h=>by cases(show none=some _ from h)
    typed:=fun _=>fun _ h=>by cases(show none=some _ from h)
    param:=fun _ h=>by cases(show none=some _ from h)
    field:=fun _ h=>by cases(show none=some _ from h)
    variant:=fun _ h=>by cases(show none=some _ from h)
    function:=fun _ h=>by cases(show none=some _ from h)
    parts:=fun _=>fun _ h=>by cases(show none=some _ from h)
    item:=fun _ h=>by cases(show none=some _ from h)
    block:=fun _ h=>by cases(show none=some _ from h)
    stmt:=fun _ h=>by cases(show none=some _ from h)
    let_:=fun _=>fun _ h=>by cases(show none=some _ from h)
    blocky:=fun _=>fun _ h=>by cases(show none=some _ from h)
    branch:=fun _ h=>by cases(show none=some _ from h)
    cond:=fun _ h=>by cases(show none=some _ from h)
    match_:=fun _ h=>by cases(show none=some _ from h)
    arm:=fun _ h=>by cases(show none=some _ from h)
    pattern:=fun _ h=>by cases(show none=some _ from h)
    patterned:=fun _=>fun _ h=>by cases(show none=some _ from h)
    expr:=fun _=>fun _ h=>by cases(show none=some _ from h)
    row:=fun _=>fun _=>fun _ h=>by cases(show none=some _ from h)
    operand:=fun _=>fun _ h=>by cases(show none=some _ from h)
    prefix_:=fun _=>fun _ h=>by cases(show none=some _ from h)
    postfix_:=fun _=>fun _ h=>by cases(show none=some _ from h)
    primary:=fun _=>fun _ h=>by cases(show none=some _ from h)
    named:=fun _=>fun _=>fun _ h=>by cases(show none=some _ from h)
    init:=fun _ h=>by cases(show none=some _ from h)
  }
 |succ n IH=>
  intro m hm
  by_cases c:m<=n
  ·exact IH m c
  obtain rfl:m=n+1:=om
  exact{
    typ:=fun hs h=>h9v hl IH hs h
    typed:=fun _=>fun hs h=>g4q hl IH hs h
    param:=fun hs h=>g4g hl IH hs h
    field:=fun hs h=>g1b hl IH hs h
    variant:=fun hs h=>f3e hl IH hs h
    function:=fun hs h=>e7c hl IH hs h
    parts:=fun _=>fun hs h=>g0s hl IH hs h
    item:=fun hs h=>h3b hl IH hs h
    block:=fun hs h=>g2o hl IH hs h
    stmt:=fun hs h=>h2p hl IH hs h
    let_:=fun _=>fun hs h=>g7o hl IH hs h
    blocky:=fun _=>fun hs h=>f4k hl IH hs h
    branch:=fun hs h=>f6f hl IH hs h
    cond:=fun hs h=>g8o hl IH hs h
    match_:=fun hs h=>f8b hl IH hs h
    arm:=fun hs h=>h9m hl IH hs h
    pattern:=fun hs h=>f2s hl IH hs h
    patterned:=fun _=>fun hs h=>d8s hl IH hs h
    expr:=fun _=>fun hs h=>g8v hl IH hs h
    row:=fun _=>fun _=>fun hs h=>h9o hl IH hs h
    operand:=fun _=>fun hs h=>f1o hl IH hs h
    prefix_:=fun _=>fun hs h=>f2a hl IH hs h
    postfix_:=fun _=>fun hs h=>e4x hl IH hs h
    primary:=fun _=>fun hs h=>f0q hl IH hs h
    named:=fun _=>fun _=>fun hs h=>g1t hl IH hs h
    init:=fun hs h=>g6x hl IH hs h
  }
theorem g8k (hl:LOk l) (n:Nat):Sp fx l n:=h9s hl n n (Nat.le_refl _)
end
end Go.Vm.Ite
namespace Go.Vm.Itr
open Go.Vm.Ite
open Go.Vm.Tp
def d5b (i:Nat):List Int->List Int->List Int
 |[],tb=>tb
 |k::r,tb=>d5b i r (tb.set k.toNat (IntKind.i64.wrap (tb.getD i 0+1)))
def d6f (t:List Nd):Nat->List Int->Int->Int
 |0,_,m=>m
 |i+1,tb,m=>d6f t i (d5b i (t.getD i default).kids tb) (if m < (d5b i (t.getD i default).kids tb).getD i 0 then(d5b i (t.getD i default).kids tb).getD i 0 else m)
def f8c (t:List Nd):Int:=d6f t t.length (List.replicate t.length 0) 0
section
variable {fx:Nat->Option Obj} {F:Nat->Option a0t} (H:Hp)
set_option maxHeartbeats 4000000 in
theorem e4z (t:List Nd) (hl:t.length<=1048576) (hkl:∀ x∈t,x.kids.length<=1048576) (hk:∀ x∈t,∀ k∈x.kids,0<=k/\k.toNat < t.length):evF (pgL fx F) c6h [.d (a1r t)] H=some (i64 (f8c t),H):=by
 refine a1d (c4a (F:=F)) rfl rfl ?_ H
 have hnl:(t.map Nd.D).length=t.length:=List.length_map ..
 have hmsl:0<=((t.map Nd.D).length:Int)/\roomy ((t.map Nd.D).length:Int).toNat 8:=⟨om,by unfold roomy;omega⟩
 repeat' (first|refine run ⟨?_⟩|refine And.intro hmsl ?_|fail)
 refine a0g (α:=Nat×List Int×Int) (fun a=>a.1) (fun a=>[(1,.ptr 0 0),(3,.arr 1 0 t.length),(4,i64 a.2.2),(5,i64 ((a.1:Int) - 1))]) (fun a=>[.box [.d (.sl (t.map Nd.D))],.box (c0t a.2.1)])
   (fun a=>a.1<=t.length/\a.2.1.length=t.length/\d6f t a.1 a.2.1 a.2.2=f8c t) ?_ (t.length,List.replicate t.length 0,0) ⟨Nat.le_refl _,by simp,rfl⟩ ?_ ?_
 ·rintro⟨n,tb,m⟩ ⟨hn,htl,hd⟩
  simp only at hn htl hd⊢
  cases n with
  |zero=>
   have h':¬ (0:Int)<=((0:Nat):Int) - 1:=om
   simp only[d6f]at hd
   rw[<-hd]
   refine run ⟨?_⟩
   exact rfl
  |succ i=>
   have e0:((((i+1:Nat):Int)) - 1)=(i:Int):=om
   rw[e0]
   have h':(0:Int)<=(i:Int):=om
   simp only[d6f]at hd
   have hx:t.getD i default∈t:=by
    rw[List.getD_eq_getElem?_getD,List.getElem?_eq_getElem (by omega:i < t.length)];exact List.getElem_mem _
   generalize hxe:t.getD i default=x at hx hd
   have pn:0<=(i:Int)/\(t.map Nd.D)[(i:Int).toNat]? =some x.D:=⟨h',by
     rw[Int.toNat_natCast,List.getElem?_map,List.getElem?_eq_getElem (by omega:i < t.length),<-hxe]
     simp[List.getD_eq_getElem?_getD,List.getElem?_eq_getElem (by omega:i < t.length)]⟩
   have hkn:(x.kids.map (D.int .i64)).length=x.kids.length:=List.length_map ..
   have hxk:=hkl x hx
   repeat' (first|refine run ⟨?_⟩|refine a0a pn ?_|fail)
   refine a0g (α:=Nat×List Int) (fun a=>x.kids.length - a.1) (fun a=>[(1,.ptr 0 0),(3,.arr 1 0 t.length),(4,i64 m),(5,i64 i),(25,.d (.sl (x.kids.map (D.int .i64)))),(26,i64 x.kids.length),(27,i64 a.1)]) (fun a=>[.box [.d (.sl (t.map Nd.D))],.box (c0t a.2)])
     (fun a=>a.1<=x.kids.length/\a.2.length=t.length/\d5b i (x.kids.drop a.1) a.2=d5b i x.kids tb) ?_ (0,tb) ⟨Nat.zero_le _,htl,by rw[List.drop_zero]⟩ ?_ rfl
   ·rintro⟨j,tc⟩ ⟨hj,htc,hkd⟩
    simp only at hj htc hkd⊢
    by_cases hlt:j < x.kids.length
    ·have h2:(j:Int) < (x.kids.length:Int):=om
     rw[List.drop_eq_getElem_cons hlt,d5b]at hkd
     obtain⟨k0,k1⟩:=hk x hx _ (List.getElem_mem hlt)
     have pk:0<=(j:Int)/\(x.kids.map (D.int .i64))[(j:Int).toNat]? =some (.int .i64 x.kids[j]):=⟨om,by rw[Int.toNat_natCast,List.getElem?_map,List.getElem?_eq_getElem hlt];rfl⟩
     have hkt:x.kids[j].toNat < tc.length:=om
     have hit:i < tc.length:=om
     have pi:0<=(i:Int)/\(i:Int).toNat < t.length:=om
     have pk2:0<=x.kids[j]/\x.kids[j].toNat < t.length:=⟨k0,k1⟩
     repeat' (first|refine run ⟨?_⟩|refine a0a pk ?_|refine And.intro pk2 ?_|refine And.intro pi ?_|refine a7a (a9c hit) ?_|fail)
     refine d6s (by simp;omega) ?_
     have hput:putAt (c0t tc) (0+x.kids[j].toNat*1) [i64 (IntKind.i64.wrap (tc.getD i 0+1))]=c0t (tc.set x.kids[j].toNat (IntKind.i64.wrap (tc.getD i 0+1))):=by rw[Nat.zero_add,Nat.mul_one,b1u hkt]
     have hst:∀ {k:List V->Prop},k (c0t (tc.set x.kids[j].toNat (IntKind.i64.wrap (tc.getD i 0+1))))->a1l (putAt (c0t tc) (0+x.kids[j].toNat*1) [i64 (IntKind.i64.wrap (tc.getD i 0+1))]) k:=fun hk=>by rw[a0x,hput];exact hk
     refine hst ?_
     refine run ⟨?_⟩
     exact⟨(j+1,_),⟨by show j+1<=_;omega,by simp[htc],hkd⟩,by show _ - (j+1) < _ - j;omega,by rw[a0w om];rfl,rfl⟩
    ·have h2:¬ (j:Int) < (x.kids.length:Int):=om
     have hj':j=x.kids.length:=om
     subst hj'
     rw[List.drop_length,d5b]at hkd
     rw[<-hkd]at hd
     have hit:i < tc.length:=om
     have pi:0<=(i:Int)/\(i:Int).toNat < t.length:=om
     by_cases hc:m < tc.getD i 0
     ·rw[if_pos hc]at hd
      repeat' (first|refine run ⟨?_⟩|refine And.intro pi ?_|refine a7a (a9c hit) ?_|fail)
      exact⟨(i,tc,tc.getD i 0),⟨by show i<=_;omega,htc,hd⟩,by show i < i+1;omega,by rw[a0w (n:=(i:Int) - 1) om],rfl⟩
     ·rw[if_neg hc]at hd
      repeat' (first|refine run ⟨?_⟩|refine And.intro pi ?_|refine a7a (a9c hit) ?_|fail)
      exact⟨(i,tc,m),⟨by show i<=_;omega,htc,hd⟩,by show i < i+1;omega,by rw[a0w (n:=(i:Int) - 1) om],rfl⟩
   ·show[_,_,_,_,_,(26,i64 ((x.kids.map (D.int .i64)).length:Int)),_]=_
    rw[hkn];rfl
 ·show[_,(3,.arr 1 0 ((t.map Nd.D).length:Int).toNat),_,(5,i64 (IntKind.i64.wrap (((t.map Nd.D).length:Int) - 1)))]=_
  rw[hnl,a0w om];rfl
 ·show[_,Ob.box (List.replicate ((t.map Nd.D).length:Int).toNat _)]=_
  simp[hnl]
end
end Go.Vm.Itr
namespace Go.Vm.Lex
open Go.Vm.Ite
theorem c5f {s:List UInt8} {i:Nat} (h:i < s.length):b9o (s.take (i+1))=b9o (s.take i) *10+dig s[i]:=by
 unfold b9o g2n
 rw[List.take_add_one,List.getElem?_eq_getElem h,List.foldl_append];rfl
theorem f0r {s:List UInt8} (i:Nat):b9o (s.take i)<=b9o s:=by
 have h:b9o s=g2n (b9o (s.take i)) (s.drop i):=by
  unfold b9o g2n
  rw[<-List.foldl_append,List.take_append_drop]
 rw[h];exact f2k _ _
section
variable {fx:Nat->Option Obj} {F:Nat->Option a0t} (H:Hp)
theorem e6g (s:List UInt8) (hs:s.length<=maxLen) (hd:s.all isD=true):∃ v:Int,(b7m s=true->v=b9o s)/\∀ H:Hp,evF (pgL fx F) b6f [str s] H=some (.tup [i64 v,boo (b7m s)],H):=by
 have hm:s.length<=9223372036854775807:=hs
 have hnb:b7m s=decide (b9o s<=9223372036854775807):=by simp[b7m,hd]
 have hdig:∀ i (h:i < s.length),48<=s[i].toNat/\s[i].toNat<=57:=by
  intro i h
  have:=List.all_eq_true.1 hd s[i] (List.getElem_mem _)
  simpa [isD] using this
 have key:∀ v:Int,(∃ j,j < s.length/\922337203685477580 < b9o (s.take j))/\v=0\/(∀ j,j < s.length->b9o (s.take j)<=922337203685477580)/\v=IntKind.i64.wrap (b9o s)->∀ H:Hp,evF (pgL fx F) b6f [str s] H=some (.tup [i64 v,boo (b7m s)],H):=by
  intro v hv H
  refine a1p (c6y (F:=F)) rfl rfl ?_ H
  refine wp_loop (α:=Nat) (fun i=>s.length - i) (fun i=>[(0,str s),(4,.d (.int .u64 (b9o (s.take i)))),(5,i64 i)]) (fun _=>[]) (fun i=>i<=s.length/\∀ j,j < i->b9o (s.take j)<=922337203685477580) ?_ 0 ⟨om,om⟩
  rintro i ⟨hi,hall⟩
  refine And.intro (fun hl=>?_) (fun hl=>?_)
  ·replace hl:=of_decide_eq_true hl
   have hlt:i < s.length:=om
   refine And.intro (fun h=>?_) (fun h=>?_)
   ·replace h:=of_decide_eq_true h
    have h1:=c5f hlt
    have h2:=f0r (s:=s) (i+1)
    have hb:b7m s=false:=by rw[hnb];simp;omega
    have hv0:v=0:=by
     rcases hv with⟨_,e⟩|⟨e,_⟩
     ·exact e
     ·have:=e i hlt;omega
    show _=_
    rw[hb,hv0];rfl
   ·replace h:=of_decide_eq_false h
    refine a4r hlt ?_
    obtain⟨d1,d2⟩:=hdig i hlt
    have h1:=c5f hlt
    have hdg:dig s[i]=s[i].toNat - 48:=rfl
    refine⟨i+1,⟨om,fun j hj=>?_⟩,om,?_,rfl⟩
    ·by_cases e:j=i
     ·subst e;omega
     ·exact hall j om
    ·rw[a0w om,h9d (n:=(b9o (s.take i):Int) *10) om,u8w om,h9d (n:=(s[i].toNat:Int) - 48) om,h9d om,h1,hdg]
     have e9:((b9o (s.take i):Int) *10+((s[i].toNat:Int) - 48))=((b9o (s.take i) *10+(s[i].toNat - 48):Nat):Int):=om
     rw[e9];rfl
  ·replace hl:=of_decide_eq_false hl
   have hi':i=s.length:=om
   subst hi'
   rw[List.take_length]
   have hv1:v=IntKind.i64.wrap (b9o s):=by
    rcases hv with⟨⟨j,h1,h2⟩,_⟩|⟨_,e⟩
    ·have:=hall j h1;omega
    ·exact e
   show _=_
   have eb:decide ((b9o s:Int)<=9223372036854775807)=decide (b9o s<=9223372036854775807):=by simp only[decide_eq_decide];omega
   rw[hv1,hnb,<-eb]
   rfl
 by_cases hx:∃ j,j < s.length/\922337203685477580 < b9o (s.take j)
 ·refine⟨0,fun h=>?_,key 0 (.inl ⟨hx,rfl⟩)⟩
  obtain⟨j,h1,h2⟩:=hx
  have h3:=c5f h1
  have h4:=f0r (s:=s) (j+1)
  rw[hnb]at h;simp at h;omega
 ·refine⟨IntKind.i64.wrap (b9o s),fun h=>?_,key _ (.inr ⟨fun j hj=>Nat.le_of_not_lt fun h=>hx ⟨j,hj,h⟩,rfl⟩)⟩
  rw[hnb]at h;simp at h
  exact a0w om
def e5e (s:List UInt8) (a:Nat):V:=
 if b7m ((s.drop a).take (a9m (s.drop a))) then .tup [.d (tkD 3 ((s.drop a).take (a9m (s.drop a))) (b9o ((s.drop a).take (a9m (s.drop a)))) a (a+a9m (s.drop a):Nat)),.d (dgD 0 0 0)]
 else .tup [.d (tkD 0 [] 0 0 0),.d (dgD 112 a (a+a9m (s.drop a):Nat))]
theorem e3l (s:List UInt8) (a n:Nat):List.drop (Int.toNat (a:Int)) (List.take (Int.toNat ((a+n:Nat):Int)) s)=(s.drop a).take n:=by
 simp only[Int.toNat_natCast]
 rw[List.drop_take];congr 1;omega
theorem c4p (s:List UInt8) (hs:s.length<=maxLen) (a:Nat) (ha:a<=s.length):evF (pgL fx F) c2h [str s,i64 a] H=some (e5e s a,H):=by
 have hm:s.length<=9223372036854775807:=hs
 have hrl:=b9x (s.drop a)
 rw[List.length_drop]at hrl
 refine a1p (c2j (F:=F)) rfl rfl ?_ H
 refine Exists.intro _ (Exists.intro _ (And.intro (e0a _ _ _ ha hs) ?_))
 generalize hn:a9m (s.drop a)=n at*
 refine wp_loop (α:=Nat) (fun i=>a+n - i) (fun i=>[(0,str s),(1,i64 a),(4,.ptr 0 0),(5,.ptr 1 0),(6,i64 (a+n:Nat)),(7,i64 i)]) (fun _=>[.box [.d (.int .i64 0),.d (.str []),.d (.int .i64 0),.d (.int .i64 0),.d (.int .i64 0)],.box [.d (.int .i64 0),.d (.int .i64 0),.d (.int .i64 0)]]) (fun i=>a<=i/\i<=a+n/\((s.drop a).take (i - a)).all isD=true) ?_ a ⟨om,om,by simp⟩
 rintro i ⟨h1,h2,hall⟩
 refine And.intro (fun hl=>?_) (fun hl=>?_)
 ·replace hl:=of_decide_eq_true hl
  have hlt:i < s.length:=om
  have hget:(s.drop a)[i - a]? =some s[i]:=by rw[List.getElem?_drop,show a+(i - a)=i by omega,List.getElem?_eq_getElem hlt]
  refine a4r hlt ?_
  refine Exists.intro _ (Exists.intro _ (And.intro (a8x _ _) ?_))
  refine And.intro (fun h=>?_) (fun h=>?_)
  ·refine Exists.intro _ (Exists.intro _ (And.intro (b6t _ _ _ _) ?_))
   have hb:b7m ((s.drop a).take n)=false:=by
    cases hb:b7m ((s.drop a).take n)with
    |false=>rfl
    |true=>
     simp only[b7m,Bool.and_eq_true,List.all_eq_true]at hb
     have:=hb.1 s[i] (List.mem_iff_getElem?.2 ⟨i - a,by rw[List.getElem?_take,if_pos om];exact hget⟩)
     rw[this]at h;cases h
   show _=_
   simp only[oneOf,e5e,hn,hb];rfl
  ·have hD:isD s[i]=true:=by simpa using h
   refine⟨i+1,⟨om,om,?_⟩,om,?_,rfl⟩
   ·rw[show i+1 - a=(i - a)+1 by omega,List.take_add_one,hget,List.all_append,hall]
    simp[hD]
   ·rw[a0w om];rfl
 ·replace hl:=of_decide_eq_false hl
  have hi:i - a=n:=om
  rw[hi]at hall
  refine And.intro om ?_
  refine And.intro om ?_
  refine And.intro ⟨om,om⟩ ?_
  rw[e3l]
  obtain⟨v,hv,hev⟩:=e6g (fx:=fx) (F:=F) ((s.drop a).take n) (by rw[List.length_take,List.length_drop];unfold maxLen;omega) hall
  refine Exists.intro _ (Exists.intro _ (And.intro (hev _) ?_))
  refine And.intro (fun h=>?_) (fun h=>?_)
  ·refine Exists.intro _ (Exists.intro _ (And.intro (b6t _ _ _ _) ?_))
   have hb:b7m ((s.drop a).take n)=false:=by simpa using h
   show _=_
   simp only[oneOf,e5e,hn,hb];rfl
  ·have hb:b7m ((s.drop a).take n)=true:=by simpa using h
   refine And.intro om ?_
   refine And.intro om ?_
   refine And.intro ⟨om,om⟩ ?_
   rw[e3l]
   show _=_
   simp only[oneOf,e5e,hn,hb,hv hb];rfl
def h0a (s:List UInt8) (a:Nat):V:=
 if 64 < a9m (s.drop a) then .tup [.d (tkD 0 [] 0 0 0),.d (dgD 2 a (a+a9m (s.drop a):Nat))]
 else .tup [.d (tkD (if b8u ((s.drop a).take (a9m (s.drop a))) then 2 else 1) ((s.drop a).take (a9m (s.drop a))) 0 a (a+a9m (s.drop a):Nat)),.d (dgD 0 0 0)]
theorem e3t (s:List UInt8) (hs:s.length<=maxLen) (a:Nat) (ha:a<=s.length):evF (pgL fx F) d1v [str s,i64 a] H=some (h0a s a,H):=by
 have hm:s.length<=9223372036854775807:=hs
 have hrl:=b9x (s.drop a)
 rw[List.length_drop]at hrl
 refine a1p (d2y (F:=F)) rfl rfl ?_ H
 refine Exists.intro _ (Exists.intro _ (And.intro (e0a _ _ _ ha hs) ?_))
 generalize hn:a9m (s.drop a)=n at*
 have ew:IntKind.i64.wrap (((a+n:Nat):Int) - (a:Int))=(n:Int):=by rw[a0w om];omega
 refine And.intro (fun h=>?_) (fun h=>?_)
 ·replace h:=of_decide_eq_true h
  rw[ew]at h
  refine Exists.intro _ (Exists.intro _ (And.intro (b6t _ _ _ _) ?_))
  show _=_
  simp only[oneOf,h0a,hn,if_pos (show 64 < n by omega)];rfl
 ·replace h:=of_decide_eq_false h
  rw[ew]at h
  refine And.intro om ?_
  refine And.intro om ?_
  refine And.intro ⟨om,om⟩ ?_
  rw[e3l]
  refine Exists.intro _ (Exists.intro _ (And.intro (d2w _ _) ?_))
  refine And.intro (fun h5=>?_) (fun h5=>?_)
  all_goals
   refine And.intro om ?_
   refine And.intro om ?_
   refine And.intro ⟨om,om⟩ ?_
   rw[e3l]
   show _=_
   simp only[oneOf,h0a,hn,if_neg (show ¬ 64 < n by omega),h5];rfl
end
end Go.Vm.Lex

namespace Go.Vm.Lex
open Go.Vm.Ite
section
variable {fx:Nat->Option Obj} {F:Nat->Option a0t} (H:Hp)
theorem e0j (s:List UInt8) (a n:Nat):List.drop (Int.toNat (a:Int)) (List.take (Int.toNat ((a:Int)+n)) s)=(s.drop a).take n:=by
 rw[show((a:Int)+n).toNat=a+n by omega,Int.toNat_natCast,List.drop_take];congr 1;omega
theorem b4r (s:List UInt8) (a:Nat) (ha:a < s.length) (hs:a+2<=9223372036854775807):evF (pgL fx F) d6r [str s,i64 a] H=some (str (a3r (s.drop a)),H):=by
 have hd:s.drop a=s[a]::s.drop (a+1):=List.drop_eq_getElem_cons ha
 have hl1:1 < (s.drop a).length↔a+2<=s.length:=by rw[List.length_drop];omega
 refine a1p (d7b (F:=F)) rfl rfl ?_ H
 refine wp_loop (α:=Nat) (fun i=>9 - i) (fun i=>[(0,str s),(1,i64 a),(9,.d (.sl (b9t.map .str))),(10,i64 9),(11,i64 i)]) (fun _=>[]) (fun i=>i<=9/\∀ x∈b9t.take i,¬ (a+2<=s.length/\(s.drop a).take 2=x)) ?_ 0 ⟨om,by simp⟩
 rintro i ⟨hi,hall⟩
 refine And.intro (fun hl=>?_) (fun hl=>?_)
 ·replace hl:=of_decide_eq_true hl
  have hlt:i < b9t.length:=by show i < 9;omega
  have hlt':i < (b9t.map D.str).length:=by rw[List.length_map];exact hlt
  refine a4r hlt' ?_
  rw[List.getElem_map]
  refine And.intro rfl ?_
  have ew:IntKind.i64.wrap ((a:Int)+2)=(a:Int)+2:=a0w om
  have next:¬ (a+2<=s.length/\(s.drop a).take 2=b9t[i])->∀ x∈b9t.take (i+1),¬ (a+2<=s.length/\(s.drop a).take 2=x):=by
   intro hn x hx
   rw[List.take_add_one,List.mem_append]at hx
   rcases hx with hx|hx
   ·exact hall x hx
   ·rw[List.getElem?_eq_getElem hlt]at hx
    simp only[Option.toList_some,List.mem_singleton]at hx
    rw[hx];exact hn
  refine And.intro (fun h=>?_) (fun h=>?_)
  ·replace h:=of_decide_eq_true h
   rw[ew]at h
   refine And.intro om ?_
   refine And.intro (by rw[ew];omega) ?_
   refine And.intro ⟨by rw[ew];omega,by rw[ew];omega⟩ ?_
   refine And.intro (fun h2=>?_) (fun h2=>?_)
   ·replace h2:=of_decide_eq_true h2
    rw[ew,show((a:Int)+2)=(a:Int)+(2:Nat)from rfl,e0j]at h2
    show _=_
    simp only[oneOf]
    unfold a3r
    rw[if_pos ⟨hl1.2 om,by rw[h2];exact List.getElem_mem _⟩,h2]
   ·replace h2:=of_decide_eq_false h2
    rw[ew,show((a:Int)+2)=(a:Int)+(2:Nat)from rfl,e0j]at h2
    refine⟨i+1,⟨om,next fun e=>h2 e.2⟩,om,?_,rfl⟩
    rw[a0w om];rfl
  ·replace h:=of_decide_eq_false h
   rw[ew]at h
   refine And.intro (fun h2=>?_) (fun h2=>?_)
   ·cases h2
   ·refine⟨i+1,⟨om,next fun e=>om⟩,om,?_,rfl⟩
    rw[a0w om];rfl
 ·replace hl:=of_decide_eq_false hl
  have hi9:i=9:=om
  subst hi9
  have hno:¬ (1 < (s.drop a).length/\(s.drop a).take 2∈b9t):=by
   rintro⟨h1,h2⟩
   exact hall _ (by rw[show b9t.take 9=b9t from rfl];exact h2) ⟨hl1.1 h1,rfl⟩
  obtain⟨fz,hfz⟩:∃ fz,fz=c3x.map fun c=>D.int .u8 c.toNat:=⟨_,rfl⟩
  refine Exists.intro (.arr 0 0 19) (Exists.intro [.frz fz] (And.intro (by rw[hfz];rfl) ?_))
  refine Exists.intro (.arr 0 0 19) (Exists.intro [.frz fz] (And.intro rfl ?_))
  refine wp_loop (α:=Nat) (fun j=>19 - j) (fun j=>[(0,str s),(1,i64 a),(32,.arr 0 0 19),(33,i64 19),(34,i64 j)]) (fun _=>[.frz fz]) (fun j=>j<=19/\∀ x∈c3x.take j,s[a]≠x) ?_ 0 ⟨om,by simp⟩
  rintro j ⟨hj,hjall⟩
  refine And.intro (fun hl=>?_) (fun hl=>?_)
  ·replace hl:=of_decide_eq_true hl
   have hjt:j < c3x.length:=by show j < 19;omega
   refine And.intro ⟨om,om⟩ ?_
   have hnth:(List.map V.d fz)[0+Int.toNat (j:Int) *1]? =some (V.d (.int .u8 c3x[j].toNat)):=by
    rw[show 0+Int.toNat (j:Int) *1=j by omega,hfz]
    simp[hjt]
   refine a7a hnth ?_
   refine a4r ha ?_
   refine And.intro (fun h=>?_) (fun h=>?_)
   ·replace h:=of_decide_eq_true h
    have hc:s[a]=c3x[j]:=by rw[f9h];omega
    have ew:IntKind.i64.wrap ((a:Int)+1)=(a:Int)+1:=a0w om
    refine And.intro om ?_
    refine And.intro (by rw[ew];omega) ?_
    refine And.intro ⟨by rw[ew];omega,by rw[ew];omega⟩ ?_
    rw[ew,show((a:Int)+1)=(a:Int)+(1:Nat)from rfl,e0j]
    show _=_
    simp only[oneOf]
    unfold a3r
    rw[if_neg hno,if_pos ⟨by rw[hd];exact List.cons_ne_nil _ _,by rw[hd];show s[a]∈c3x;rw[hc];exact List.getElem_mem _⟩]
   ·replace h:=of_decide_eq_false h
    refine⟨j+1,⟨om,fun x hx=>?_⟩,om,?_,rfl⟩
    ·rw[List.take_add_one,List.mem_append]at hx
     rcases hx with hx|hx
     ·exact hjall x hx
     ·rw[List.getElem?_eq_getElem hjt]at hx
      simp only[Option.toList_some,List.mem_singleton]at hx
      rw[hx];intro e;rw[e]at h;exact h rfl
    ·rw[a0w om];rfl
  ·replace hl:=of_decide_eq_false hl
   have hj9:j=19:=om
   subst hj9
   show _=_
   simp only[oneOf]
   unfold a3r
   rw[if_neg hno,if_neg (by
     rintro⟨_,h2⟩
     rw[hd]at h2
     exact hjall _ (by rw[show c3x.take 19=c3x from rfl];exact h2) rfl)]
end
end Go.Vm.Lex
namespace Go.Vm.Lex
open Go.Vm.Ite
theorem a0m {b:Bool} {X Y:Prop} (h:b=true) (x:X):(b=true->X)/\(b=false->Y):=⟨fun _=>x,fun e=>by rw[h]at e;cases e⟩
theorem a0j {b:Bool} {X Y:Prop} (h:b=false) (y:Y):(b=true->X)/\(b=false->Y):=⟨fun e=>by(rw[h]at e;cases e),fun _=>y⟩
theorem a4q {b:Bool} {X Y:Prop} (h:b=true) (x:X):(b=false->Y)/\(b=(!false)->X):=⟨fun e=>by(rw[h]at e;cases e),fun _=>x⟩
theorem a3t {b:Bool} {X Y:Prop} (h:b=false) (y:Y):(b=false->Y)/\(b=(!false)->X):=⟨fun _=>y,fun e=>by(rw[h]at e;cases e)⟩
def Hid (p:Prop):Prop:=p
theorem e1s {s:List UInt8} {a i:Nat} (hm:s.length<=4611686018427387904) (h:a+i < s.length) {k:UInt8->Prop} (hk:k s[a+i]):∃ c,(0<=IntKind.i64.wrap ((a:Int)+(i:Int))/\s[(IntKind.i64.wrap ((a:Int)+(i:Int))).toNat]? =some c)/\k c:=by
 rw[a0w om]
 exact⟨_,⟨om,by rw[show((a:Int)+i).toNat=a+i by omega,List.getElem?_eq_getElem h]⟩,hk⟩
section
variable {fx:Nat->Option Obj} {F:Nat->Option a0t} (H:Hp)
set_option maxHeartbeats 4000000 in
theorem d8d (s:List UInt8) (hs:s.length<=4611686018427387904) (a:Nat) (ha:a < s.length):evF (pgL fx F) d6a [str s,i64 a] H=some (i64 (szL (s.drop a)),H):=by
 have hd:s.drop a=s[a]::s.drop (a+1):=List.drop_eq_getElem_cons ha
 have hne:s.drop a≠[]:=by rw[hd];exact List.cons_ne_nil _ _
 have h0:hd0 (s.drop a)=s[a]:=by rw[hd];rfl
 have hlen:(s.drop a).length=s.length - a:=List.length_drop ..
 have h1:∀ h:a+1 < s.length,hd1 (s.drop a)=s[a+1]:=by
  intro h
  rw[hd,List.drop_eq_getElem_cons h];rfl
 have hlt:=s[a].toNat_lt
 clear h0 hne
 refine a1p (d4y (F:=F)) rfl rfl ?_ H
 refine a4r ha ?_
 generalize hc:s[a].toNat=c at*
 have hz:szL (s.drop a)=(if c < 128 then 1 else if szN s[a]=0 then 0 else if s.length - a < szN s[a]\/(hd1 (s.drop a)).toNat < c8h s[a]\/d3h s[a] < (hd1 (s.drop a)).toNat then 0 else if(((s.drop a).take (szN s[a])).drop 2).all a2a then szN s[a] else 0):=by
  unfold szL
  have hne:s.drop a≠[]:=by rw[hd];exact List.cons_ne_nil _ _
  have h0:hd0 (s.drop a)=s[a]:=by rw[hd];rfl
  rw[if_neg hne,h0,hc,hlen]
 by_cases c1:c < 128
 ·rw[if_pos c1]at hz
  refine And.intro (fun h=>?_) (fun h=>?_)
  ·show _=_
   rw[hz];rfl
  ·have:=of_decide_eq_false h;omega
 rw[if_neg c1]at hz
 have ew:IntKind.i64.wrap ((a:Int)+1)=(a:Int)+1:=a0w om
 clear hd
 have hsplit:c < 194\/244 < c\/(194<=c/\c<=223)\/c=224\/(225<=c/\c<=239/\c≠237)\/c=237\/c=240\/(241<=c/\c<=243)\/c=244:=by clear hz;omega
 replace hz:Hid (szL (s.drop a)=_):=hz
 rcases hsplit with hc2|hc2|hc2|hc2|hc2|hc2|hc2|hc2|hc2
 ·have hN:szN s[a]=0:=by unfold szN;rw[hc,if_neg om,if_neg om,if_neg om]
  repeat' (first
    |refine a0j (decide_eq_false om) ?_
    |refine a0m (decide_eq_true om) ?_
    |refine a0j rfl ?_
    |refine a0m rfl ?_)
  unfold Hid at hz
  rw[if_pos hN]at hz
  show _=_
  rw[hz];rfl
 ·have hN:szN s[a]=0:=by unfold szN;rw[hc,if_neg om,if_neg om,if_neg om]
  repeat' (first
    |refine a0j (decide_eq_false om) ?_
    |refine a0m (decide_eq_true om) ?_
    |refine a0j rfl ?_
    |refine a0m rfl ?_)
  unfold Hid at hz
  rw[if_pos hN]at hz
  show _=_
  rw[hz];rfl
 ·have hN:szN s[a]=2:=by unfold szN;rw[hc,if_pos om]
  have hLo:c8h s[a]=128:=by unfold c8h;rw[hc,if_neg om,if_neg om]
  have hHi:d3h s[a]=191:=by unfold d3h;rw[hc,if_neg om,if_neg om]
  have en:IntKind.i64.wrap ((a:Int)+2)=(a:Int)+2:=a0w om
  unfold Hid at hz
  rw[hN,if_neg (by clear hz;omega),hLo,hHi]at hz
  clear hN hLo hHi
  have hz2:(s.length - a < 2->szL (s.drop a)=0)/\(¬ s.length - a < 2->((hd1 (s.drop a)).toNat < 128\/191 < (hd1 (s.drop a)).toNat)->szL (s.drop a)=0)/\(¬ s.length - a < 2->¬ ((hd1 (s.drop a)).toNat < 128\/191 < (hd1 (s.drop a)).toNat)->szL (s.drop a)=if(((s.drop a).take 2).drop 2).all a2a then 2 else 0):=
   ⟨fun h=>by rw[hz,if_pos (.inl h)],fun h h'=>by rw[hz,if_pos (.inr h')],fun h h'=>by rw[hz,if_neg (by intro e;rcases e with e|e;exact h e;exact h' e)]⟩
  clear hz
  obtain⟨z1,z2,z3⟩:=hz2
  replace z1:Hid _:=z1
  replace z2:Hid _:=z2
  replace z3:Hid _:=z3
  repeat' (first
    |refine a0j (decide_eq_false om) ?_
    |refine a0m (decide_eq_true om) ?_
    |refine a0j rfl ?_
    |refine a0m rfl ?_)
  by_cases hL:s.length < a+2
  ·refine a4q (decide_eq_true om) ?_
   refine a4q rfl ?_
   refine a0m rfl ?_
   show _=_
   rw[show szL (s.drop a)=0 from z1 om];rfl
  have hlt1:a+1 < s.length:=om
  rw[h1 hlt1]at z2 z3
  refine a3t (decide_eq_false om) ?_
  refine d9j om hlt1 ?_
  generalize hb:s[a+1].toNat=b at z2 z3
  by_cases hb1:b < 128
  ·refine a4q (decide_eq_true om) ?_
   refine a0m rfl ?_
   show _=_
   rw[show szL (s.drop a)=0 from z2 om om];rfl
  refine a3t (decide_eq_false om) ?_
  refine d9j om hlt1 ?_
  by_cases hb2:191 < b
  ·refine a0m (decide_eq_true om) ?_
   show _=_
   rw[show szL (s.drop a)=0 from z2 om om];rfl
  refine a0j (decide_eq_false om) ?_
  have hz:szL (s.drop a)=if(((s.drop a).take 2).drop 2).all a2a then 2 else 0:=z3 om om
  clear z1 z2 z3
  clear h1
  refine wp_loop (α:=Nat) (fun i=>2 - i) (fun i=>[(0,str s),(1,i64 a),(6,i64 2),(9,i64 i)]) (fun _=>[]) (fun i=>2<=i/\i<=2/\(((s.drop a).take i).drop 2).all a2a=true) ?_ 2 ⟨om,om,by simp⟩
  rintro i ⟨hi1,hi2,hall⟩
  replace hz:Hid _:=hz
  refine And.intro (fun hl=>?_) (fun hl=>?_)
  ·replace hl:=of_decide_eq_true hl
   have hlt:a+i < s.length:=om
   have hget:(s.drop a)[i]? =some s[a+i]:=by rw[List.getElem?_drop,List.getElem?_eq_getElem hlt]
   have bad:a2a s[a+i]=false->szL (s.drop a)=0:=by
    intro hcb
    unfold Hid at hz
    rw[hz,if_neg]
    intro hall2
    have hmem:s[a+i]∈((s.drop a).take 2).drop 2:=List.mem_iff_getElem?.2 ⟨i - 2,by
      rw[List.getElem?_drop,show 2+(i - 2)=i by omega,List.getElem?_take,if_pos om];exact hget⟩
    have:=List.all_eq_true.1 hall2 _ hmem
    rw[hcb]at this;cases this
   have good:a2a s[a+i]=true->(((s.drop a).take (i+1)).drop 2).all a2a=true:=by
    intro hcb
    rw[List.take_add_one,hget,List.drop_append_of_le_length (by rw[List.length_take];omega),List.all_append,hall]
    simp[hcb]
   have hcb:a2a s[a+i]=decide (128<=s[a+i].toNat/\s[a+i].toNat<=191):=rfl
   refine e1s hs hlt ?_
   by_cases h128:s[a+i].toNat < 128
   ·refine a4q (decide_eq_true om) ?_
    refine a0m rfl ?_
    show _=_
    rw[bad (by rw[hcb];exact decide_eq_false om)];rfl
   refine a3t (decide_eq_false om) ?_
   refine e1s hs hlt ?_
   by_cases h191:191 < s[a+i].toNat
   ·refine a0m (decide_eq_true om) ?_
    show _=_
    rw[bad (by rw[hcb];exact decide_eq_false om)];rfl
   refine a0j (decide_eq_false om) ?_
   refine⟨i+1,⟨om,om,good (by rw[hcb];exact decide_eq_true om)⟩,om,?_,rfl⟩
   rw[a0w om];rfl
  ·replace hl:=of_decide_eq_false hl
   have hi:i=2:=om
   subst hi
   unfold Hid at hz
   show _=_
   rw[hz,if_pos hall];rfl
 ·have hN:szN s[a]=3:=by unfold szN;rw[hc,if_neg om,if_pos om]
  have hLo:c8h s[a]=160:=by unfold c8h;rw[hc,if_pos om]
  have hHi:d3h s[a]=191:=by unfold d3h;rw[hc,if_neg om,if_neg om]
  have en:IntKind.i64.wrap ((a:Int)+3)=(a:Int)+3:=a0w om
  unfold Hid at hz
  rw[hN,if_neg (by clear hz;omega),hLo,hHi]at hz
  clear hN hLo hHi
  have hz2:(s.length - a < 3->szL (s.drop a)=0)/\(¬ s.length - a < 3->((hd1 (s.drop a)).toNat < 160\/191 < (hd1 (s.drop a)).toNat)->szL (s.drop a)=0)/\(¬ s.length - a < 3->¬ ((hd1 (s.drop a)).toNat < 160\/191 < (hd1 (s.drop a)).toNat)->szL (s.drop a)=if(((s.drop a).take 3).drop 2).all a2a then 3 else 0):=
   ⟨fun h=>by rw[hz,if_pos (.inl h)],fun h h'=>by rw[hz,if_pos (.inr h')],fun h h'=>by rw[hz,if_neg (by intro e;rcases e with e|e;exact h e;exact h' e)]⟩
  clear hz
  obtain⟨z1,z2,z3⟩:=hz2
  replace z1:Hid _:=z1
  replace z2:Hid _:=z2
  replace z3:Hid _:=z3
  repeat' (first
    |refine a0j (decide_eq_false om) ?_
    |refine a0m (decide_eq_true om) ?_
    |refine a0j rfl ?_
    |refine a0m rfl ?_)
  by_cases hL:s.length < a+3
  ·refine a4q (decide_eq_true om) ?_
   refine a4q rfl ?_
   refine a0m rfl ?_
   show _=_
   rw[show szL (s.drop a)=0 from z1 om];rfl
  have hlt1:a+1 < s.length:=om
  rw[h1 hlt1]at z2 z3
  refine a3t (decide_eq_false om) ?_
  refine d9j om hlt1 ?_
  generalize hb:s[a+1].toNat=b at z2 z3
  by_cases hb1:b < 160
  ·refine a4q (decide_eq_true om) ?_
   refine a0m rfl ?_
   show _=_
   rw[show szL (s.drop a)=0 from z2 om om];rfl
  refine a3t (decide_eq_false om) ?_
  refine d9j om hlt1 ?_
  by_cases hb2:191 < b
  ·refine a0m (decide_eq_true om) ?_
   show _=_
   rw[show szL (s.drop a)=0 from z2 om om];rfl
  refine a0j (decide_eq_false om) ?_
  have hz:szL (s.drop a)=if(((s.drop a).take 3).drop 2).all a2a then 3 else 0:=z3 om om
  clear z1 z2 z3
  clear h1
  refine wp_loop (α:=Nat) (fun i=>3 - i) (fun i=>[(0,str s),(1,i64 a),(6,i64 3),(9,i64 i)]) (fun _=>[]) (fun i=>2<=i/\i<=3/\(((s.drop a).take i).drop 2).all a2a=true) ?_ 2 ⟨om,om,by simp⟩
  rintro i ⟨hi1,hi2,hall⟩
  replace hz:Hid _:=hz
  refine And.intro (fun hl=>?_) (fun hl=>?_)
  ·replace hl:=of_decide_eq_true hl
   have hlt:a+i < s.length:=om
   have hget:(s.drop a)[i]? =some s[a+i]:=by rw[List.getElem?_drop,List.getElem?_eq_getElem hlt]
   have bad:a2a s[a+i]=false->szL (s.drop a)=0:=by
    intro hcb
    unfold Hid at hz
    rw[hz,if_neg]
    intro hall2
    have hmem:s[a+i]∈((s.drop a).take 3).drop 2:=List.mem_iff_getElem?.2 ⟨i - 2,by
      rw[List.getElem?_drop,show 2+(i - 2)=i by omega,List.getElem?_take,if_pos om];exact hget⟩
    have:=List.all_eq_true.1 hall2 _ hmem
    rw[hcb]at this;cases this
   have good:a2a s[a+i]=true->(((s.drop a).take (i+1)).drop 2).all a2a=true:=by
    intro hcb
    rw[List.take_add_one,hget,List.drop_append_of_le_length (by rw[List.length_take];omega),List.all_append,hall]
    simp[hcb]
   have hcb:a2a s[a+i]=decide (128<=s[a+i].toNat/\s[a+i].toNat<=191):=rfl
   refine e1s hs hlt ?_
   by_cases h128:s[a+i].toNat < 128
   ·refine a4q (decide_eq_true om) ?_
    refine a0m rfl ?_
    show _=_
    rw[bad (by rw[hcb];exact decide_eq_false om)];rfl
   refine a3t (decide_eq_false om) ?_
   refine e1s hs hlt ?_
   by_cases h191:191 < s[a+i].toNat
   ·refine a0m (decide_eq_true om) ?_
    show _=_
    rw[bad (by rw[hcb];exact decide_eq_false om)];rfl
   refine a0j (decide_eq_false om) ?_
   refine⟨i+1,⟨om,om,good (by rw[hcb];exact decide_eq_true om)⟩,om,?_,rfl⟩
   rw[a0w om];rfl
  ·replace hl:=of_decide_eq_false hl
   have hi:i=3:=om
   subst hi
   unfold Hid at hz
   show _=_
   rw[hz,if_pos hall];rfl
 ·have hN:szN s[a]=3:=by unfold szN;rw[hc,if_neg om,if_pos om]
  have hLo:c8h s[a]=128:=by unfold c8h;rw[hc,if_neg om,if_neg om]
  have hHi:d3h s[a]=191:=by unfold d3h;rw[hc,if_neg om,if_neg om]
  have en:IntKind.i64.wrap ((a:Int)+3)=(a:Int)+3:=a0w om
  unfold Hid at hz
  rw[hN,if_neg (by clear hz;omega),hLo,hHi]at hz
  clear hN hLo hHi
  have hz2:(s.length - a < 3->szL (s.drop a)=0)/\(¬ s.length - a < 3->((hd1 (s.drop a)).toNat < 128\/191 < (hd1 (s.drop a)).toNat)->szL (s.drop a)=0)/\(¬ s.length - a < 3->¬ ((hd1 (s.drop a)).toNat < 128\/191 < (hd1 (s.drop a)).toNat)->szL (s.drop a)=if(((s.drop a).take 3).drop 2).all a2a then 3 else 0):=
   ⟨fun h=>by rw[hz,if_pos (.inl h)],fun h h'=>by rw[hz,if_pos (.inr h')],fun h h'=>by rw[hz,if_neg (by intro e;rcases e with e|e;exact h e;exact h' e)]⟩
  clear hz
  obtain⟨z1,z2,z3⟩:=hz2
  replace z1:Hid _:=z1
  replace z2:Hid _:=z2
  replace z3:Hid _:=z3
  repeat' (first
    |refine a0j (decide_eq_false om) ?_
    |refine a0m (decide_eq_true om) ?_
    |refine a0j rfl ?_
    |refine a0m rfl ?_)
  by_cases hL:s.length < a+3
  ·refine a4q (decide_eq_true om) ?_
   refine a4q rfl ?_
   refine a0m rfl ?_
   show _=_
   rw[show szL (s.drop a)=0 from z1 om];rfl
  have hlt1:a+1 < s.length:=om
  rw[h1 hlt1]at z2 z3
  refine a3t (decide_eq_false om) ?_
  refine d9j om hlt1 ?_
  generalize hb:s[a+1].toNat=b at z2 z3
  by_cases hb1:b < 128
  ·refine a4q (decide_eq_true om) ?_
   refine a0m rfl ?_
   show _=_
   rw[show szL (s.drop a)=0 from z2 om om];rfl
  refine a3t (decide_eq_false om) ?_
  refine d9j om hlt1 ?_
  by_cases hb2:191 < b
  ·refine a0m (decide_eq_true om) ?_
   show _=_
   rw[show szL (s.drop a)=0 from z2 om om];rfl
  refine a0j (decide_eq_false om) ?_
  have hz:szL (s.drop a)=if(((s.drop a).take 3).drop 2).all a2a then 3 else 0:=z3 om om
  clear z1 z2 z3
  clear h1
  refine wp_loop (α:=Nat) (fun i=>3 - i) (fun i=>[(0,str s),(1,i64 a),(6,i64 3),(9,i64 i)]) (fun _=>[]) (fun i=>2<=i/\i<=3/\(((s.drop a).take i).drop 2).all a2a=true) ?_ 2 ⟨om,om,by simp⟩
  rintro i ⟨hi1,hi2,hall⟩
  replace hz:Hid _:=hz
  refine And.intro (fun hl=>?_) (fun hl=>?_)
  ·replace hl:=of_decide_eq_true hl
   have hlt:a+i < s.length:=om
   have hget:(s.drop a)[i]? =some s[a+i]:=by rw[List.getElem?_drop,List.getElem?_eq_getElem hlt]
   have bad:a2a s[a+i]=false->szL (s.drop a)=0:=by
    intro hcb
    unfold Hid at hz
    rw[hz,if_neg]
    intro hall2
    have hmem:s[a+i]∈((s.drop a).take 3).drop 2:=List.mem_iff_getElem?.2 ⟨i - 2,by
      rw[List.getElem?_drop,show 2+(i - 2)=i by omega,List.getElem?_take,if_pos om];exact hget⟩
    have:=List.all_eq_true.1 hall2 _ hmem
    rw[hcb]at this;cases this
   have good:a2a s[a+i]=true->(((s.drop a).take (i+1)).drop 2).all a2a=true:=by
    intro hcb
    rw[List.take_add_one,hget,List.drop_append_of_le_length (by rw[List.length_take];omega),List.all_append,hall]
    simp[hcb]
   have hcb:a2a s[a+i]=decide (128<=s[a+i].toNat/\s[a+i].toNat<=191):=rfl
   refine e1s hs hlt ?_
   by_cases h128:s[a+i].toNat < 128
   ·refine a4q (decide_eq_true om) ?_
    refine a0m rfl ?_
    show _=_
    rw[bad (by rw[hcb];exact decide_eq_false om)];rfl
   refine a3t (decide_eq_false om) ?_
   refine e1s hs hlt ?_
   by_cases h191:191 < s[a+i].toNat
   ·refine a0m (decide_eq_true om) ?_
    show _=_
    rw[bad (by rw[hcb];exact decide_eq_false om)];rfl
   refine a0j (decide_eq_false om) ?_
   refine⟨i+1,⟨om,om,good (by rw[hcb];exact decide_eq_true om)⟩,om,?_,rfl⟩
   rw[a0w om];rfl
  ·replace hl:=of_decide_eq_false hl
   have hi:i=3:=om
   subst hi
   unfold Hid at hz
   show _=_
   rw[hz,if_pos hall];rfl
 ·have hN:szN s[a]=3:=by unfold szN;rw[hc,if_neg om,if_pos om]
  have hLo:c8h s[a]=128:=by unfold c8h;rw[hc,if_neg om,if_neg om]
  have hHi:d3h s[a]=159:=by unfold d3h;rw[hc,if_pos om]
  have en:IntKind.i64.wrap ((a:Int)+3)=(a:Int)+3:=a0w om
  unfold Hid at hz
  rw[hN,if_neg (by clear hz;omega),hLo,hHi]at hz
  clear hN hLo hHi
  have hz2:(s.length - a < 3->szL (s.drop a)=0)/\(¬ s.length - a < 3->((hd1 (s.drop a)).toNat < 128\/159 < (hd1 (s.drop a)).toNat)->szL (s.drop a)=0)/\(¬ s.length - a < 3->¬ ((hd1 (s.drop a)).toNat < 128\/159 < (hd1 (s.drop a)).toNat)->szL (s.drop a)=if(((s.drop a).take 3).drop 2).all a2a then 3 else 0):=
   ⟨fun h=>by rw[hz,if_pos (.inl h)],fun h h'=>by rw[hz,if_pos (.inr h')],fun h h'=>by rw[hz,if_neg (by intro e;rcases e with e|e;exact h e;exact h' e)]⟩
  clear hz
  obtain⟨z1,z2,z3⟩:=hz2
  replace z1:Hid _:=z1
  replace z2:Hid _:=z2
  replace z3:Hid _:=z3
  repeat' (first
    |refine a0j (decide_eq_false om) ?_
    |refine a0m (decide_eq_true om) ?_
    |refine a0j rfl ?_
    |refine a0m rfl ?_)
  by_cases hL:s.length < a+3
  ·refine a4q (decide_eq_true om) ?_
   refine a4q rfl ?_
   refine a0m rfl ?_
   show _=_
   rw[show szL (s.drop a)=0 from z1 om];rfl
  have hlt1:a+1 < s.length:=om
  rw[h1 hlt1]at z2 z3
  refine a3t (decide_eq_false om) ?_
  refine d9j om hlt1 ?_
  generalize hb:s[a+1].toNat=b at z2 z3
  by_cases hb1:b < 128
  ·refine a4q (decide_eq_true om) ?_
   refine a0m rfl ?_
   show _=_
   rw[show szL (s.drop a)=0 from z2 om om];rfl
  refine a3t (decide_eq_false om) ?_
  refine d9j om hlt1 ?_
  by_cases hb2:159 < b
  ·refine a0m (decide_eq_true om) ?_
   show _=_
   rw[show szL (s.drop a)=0 from z2 om om];rfl
  refine a0j (decide_eq_false om) ?_
  have hz:szL (s.drop a)=if(((s.drop a).take 3).drop 2).all a2a then 3 else 0:=z3 om om
  clear z1 z2 z3
  clear h1
  refine wp_loop (α:=Nat) (fun i=>3 - i) (fun i=>[(0,str s),(1,i64 a),(6,i64 3),(9,i64 i)]) (fun _=>[]) (fun i=>2<=i/\i<=3/\(((s.drop a).take i).drop 2).all a2a=true) ?_ 2 ⟨om,om,by simp⟩
  rintro i ⟨hi1,hi2,hall⟩
  replace hz:Hid _:=hz
  refine And.intro (fun hl=>?_) (fun hl=>?_)
  ·replace hl:=of_decide_eq_true hl
   have hlt:a+i < s.length:=om
   have hget:(s.drop a)[i]? =some s[a+i]:=by rw[List.getElem?_drop,List.getElem?_eq_getElem hlt]
   have bad:a2a s[a+i]=false->szL (s.drop a)=0:=by
    intro hcb
    unfold Hid at hz
    rw[hz,if_neg]
    intro hall2
    have hmem:s[a+i]∈((s.drop a).take 3).drop 2:=List.mem_iff_getElem?.2 ⟨i - 2,by
      rw[List.getElem?_drop,show 2+(i - 2)=i by omega,List.getElem?_take,if_pos om];exact hget⟩
    have:=List.all_eq_true.1 hall2 _ hmem
    rw[hcb]at this;cases this
   have good:a2a s[a+i]=true->(((s.drop a).take (i+1)).drop 2).all a2a=true:=by
    intro hcb
    rw[List.take_add_one,hget,List.drop_append_of_le_length (by rw[List.length_take];omega),List.all_append,hall]
    simp[hcb]
   have hcb:a2a s[a+i]=decide (128<=s[a+i].toNat/\s[a+i].toNat<=191):=rfl
   refine e1s hs hlt ?_
   by_cases h128:s[a+i].toNat < 128
   ·refine a4q (decide_eq_true om) ?_
    refine a0m rfl ?_
    show _=_
    rw[bad (by rw[hcb];exact decide_eq_false om)];rfl
   refine a3t (decide_eq_false om) ?_
   refine e1s hs hlt ?_
   by_cases h191:191 < s[a+i].toNat
   ·refine a0m (decide_eq_true om) ?_
    show _=_
    rw[bad (by rw[hcb];exact decide_eq_false om)];rfl
   refine a0j (decide_eq_false om) ?_
   refine⟨i+1,⟨om,om,good (by rw[hcb];exact decide_eq_true om)⟩,om,?_,rfl⟩
   rw[a0w om];rfl
  ·replace hl:=of_decide_eq_false hl
   have hi:i=3:=om
   subst hi
   unfold Hid at hz
   show _=_
   rw[hz,if_pos hall];rfl
 ·have hN:szN s[a]=4:=by unfold szN;rw[hc,if_neg om,if_neg om,if_pos om]
  have hLo:c8h s[a]=144:=by unfold c8h;rw[hc,if_neg om,if_pos om]
  have hHi:d3h s[a]=191:=by unfold d3h;rw[hc,if_neg om,if_neg om]
  have en:IntKind.i64.wrap ((a:Int)+4)=(a:Int)+4:=a0w om
  unfold Hid at hz
  rw[hN,if_neg (by clear hz;omega),hLo,hHi]at hz
  clear hN hLo hHi
  have hz2:(s.length - a < 4->szL (s.drop a)=0)/\(¬ s.length - a < 4->((hd1 (s.drop a)).toNat < 144\/191 < (hd1 (s.drop a)).toNat)->szL (s.drop a)=0)/\(¬ s.length - a < 4->¬ ((hd1 (s.drop a)).toNat < 144\/191 < (hd1 (s.drop a)).toNat)->szL (s.drop a)=if(((s.drop a).take 4).drop 2).all a2a then 4 else 0):=
   ⟨fun h=>by rw[hz,if_pos (.inl h)],fun h h'=>by rw[hz,if_pos (.inr h')],fun h h'=>by rw[hz,if_neg (by intro e;rcases e with e|e;exact h e;exact h' e)]⟩
  clear hz
  obtain⟨z1,z2,z3⟩:=hz2
  replace z1:Hid _:=z1
  replace z2:Hid _:=z2
  replace z3:Hid _:=z3
  repeat' (first
    |refine a0j (decide_eq_false om) ?_
    |refine a0m (decide_eq_true om) ?_
    |refine a0j rfl ?_
    |refine a0m rfl ?_)
  by_cases hL:s.length < a+4
  ·refine a4q (decide_eq_true om) ?_
   refine a4q rfl ?_
   refine a0m rfl ?_
   show _=_
   rw[show szL (s.drop a)=0 from z1 om];rfl
  have hlt1:a+1 < s.length:=om
  rw[h1 hlt1]at z2 z3
  refine a3t (decide_eq_false om) ?_
  refine d9j om hlt1 ?_
  generalize hb:s[a+1].toNat=b at z2 z3
  by_cases hb1:b < 144
  ·refine a4q (decide_eq_true om) ?_
   refine a0m rfl ?_
   show _=_
   rw[show szL (s.drop a)=0 from z2 om om];rfl
  refine a3t (decide_eq_false om) ?_
  refine d9j om hlt1 ?_
  by_cases hb2:191 < b
  ·refine a0m (decide_eq_true om) ?_
   show _=_
   rw[show szL (s.drop a)=0 from z2 om om];rfl
  refine a0j (decide_eq_false om) ?_
  have hz:szL (s.drop a)=if(((s.drop a).take 4).drop 2).all a2a then 4 else 0:=z3 om om
  clear z1 z2 z3
  clear h1
  refine wp_loop (α:=Nat) (fun i=>4 - i) (fun i=>[(0,str s),(1,i64 a),(6,i64 4),(9,i64 i)]) (fun _=>[]) (fun i=>2<=i/\i<=4/\(((s.drop a).take i).drop 2).all a2a=true) ?_ 2 ⟨om,om,by simp⟩
  rintro i ⟨hi1,hi2,hall⟩
  replace hz:Hid _:=hz
  refine And.intro (fun hl=>?_) (fun hl=>?_)
  ·replace hl:=of_decide_eq_true hl
   have hlt:a+i < s.length:=om
   have hget:(s.drop a)[i]? =some s[a+i]:=by rw[List.getElem?_drop,List.getElem?_eq_getElem hlt]
   have bad:a2a s[a+i]=false->szL (s.drop a)=0:=by
    intro hcb
    unfold Hid at hz
    rw[hz,if_neg]
    intro hall2
    have hmem:s[a+i]∈((s.drop a).take 4).drop 2:=List.mem_iff_getElem?.2 ⟨i - 2,by
      rw[List.getElem?_drop,show 2+(i - 2)=i by omega,List.getElem?_take,if_pos om];exact hget⟩
    have:=List.all_eq_true.1 hall2 _ hmem
    rw[hcb]at this;cases this
   have good:a2a s[a+i]=true->(((s.drop a).take (i+1)).drop 2).all a2a=true:=by
    intro hcb
    rw[List.take_add_one,hget,List.drop_append_of_le_length (by rw[List.length_take];omega),List.all_append,hall]
    simp[hcb]
   have hcb:a2a s[a+i]=decide (128<=s[a+i].toNat/\s[a+i].toNat<=191):=rfl
   refine e1s hs hlt ?_
   by_cases h128:s[a+i].toNat < 128
   ·refine a4q (decide_eq_true om) ?_
    refine a0m rfl ?_
    show _=_
    rw[bad (by rw[hcb];exact decide_eq_false om)];rfl
   refine a3t (decide_eq_false om) ?_
   refine e1s hs hlt ?_
   by_cases h191:191 < s[a+i].toNat
   ·refine a0m (decide_eq_true om) ?_
    show _=_
    rw[bad (by rw[hcb];exact decide_eq_false om)];rfl
   refine a0j (decide_eq_false om) ?_
   refine⟨i+1,⟨om,om,good (by rw[hcb];exact decide_eq_true om)⟩,om,?_,rfl⟩
   rw[a0w om];rfl
  ·replace hl:=of_decide_eq_false hl
   have hi:i=4:=om
   subst hi
   unfold Hid at hz
   show _=_
   rw[hz,if_pos hall];rfl
 ·have hN:szN s[a]=4:=by unfold szN;rw[hc,if_neg om,if_neg om,if_pos om]
  have hLo:c8h s[a]=128:=by unfold c8h;rw[hc,if_neg om,if_neg om]
  have hHi:d3h s[a]=191:=by unfold d3h;rw[hc,if_neg om,if_neg om]
  have en:IntKind.i64.wrap ((a:Int)+4)=(a:Int)+4:=a0w om
  unfold Hid at hz
  rw[hN,if_neg (by clear hz;omega),hLo,hHi]at hz
  clear hN hLo hHi
  have hz2:(s.length - a < 4->szL (s.drop a)=0)/\(¬ s.length - a < 4->((hd1 (s.drop a)).toNat < 128\/191 < (hd1 (s.drop a)).toNat)->szL (s.drop a)=0)/\(¬ s.length - a < 4->¬ ((hd1 (s.drop a)).toNat < 128\/191 < (hd1 (s.drop a)).toNat)->szL (s.drop a)=if(((s.drop a).take 4).drop 2).all a2a then 4 else 0):=
   ⟨fun h=>by rw[hz,if_pos (.inl h)],fun h h'=>by rw[hz,if_pos (.inr h')],fun h h'=>by rw[hz,if_neg (by intro e;rcases e with e|e;exact h e;exact h' e)]⟩
  clear hz
  obtain⟨z1,z2,z3⟩:=hz2
  replace z1:Hid _:=z1
  replace z2:Hid _:=z2
  replace z3:Hid _:=z3
  repeat' (first
    |refine a0j (decide_eq_false om) ?_
    |refine a0m (decide_eq_true om) ?_
    |refine a0j rfl ?_
    |refine a0m rfl ?_)
  by_cases hL:s.length < a+4
  ·refine a4q (decide_eq_true om) ?_
   refine a4q rfl ?_
   refine a0m rfl ?_
   show _=_
   rw[show szL (s.drop a)=0 from z1 om];rfl
  have hlt1:a+1 < s.length:=om
  rw[h1 hlt1]at z2 z3
  refine a3t (decide_eq_false om) ?_
  refine d9j om hlt1 ?_
  generalize hb:s[a+1].toNat=b at z2 z3
  by_cases hb1:b < 128
  ·refine a4q (decide_eq_true om) ?_
   refine a0m rfl ?_
   show _=_
   rw[show szL (s.drop a)=0 from z2 om om];rfl
  refine a3t (decide_eq_false om) ?_
  refine d9j om hlt1 ?_
  by_cases hb2:191 < b
  ·refine a0m (decide_eq_true om) ?_
   show _=_
   rw[show szL (s.drop a)=0 from z2 om om];rfl
  refine a0j (decide_eq_false om) ?_
  have hz:szL (s.drop a)=if(((s.drop a).take 4).drop 2).all a2a then 4 else 0:=z3 om om
  clear z1 z2 z3
  clear h1
  refine wp_loop (α:=Nat) (fun i=>4 - i) (fun i=>[(0,str s),(1,i64 a),(6,i64 4),(9,i64 i)]) (fun _=>[]) (fun i=>2<=i/\i<=4/\(((s.drop a).take i).drop 2).all a2a=true) ?_ 2 ⟨om,om,by simp⟩
  rintro i ⟨hi1,hi2,hall⟩
  replace hz:Hid _:=hz
  refine And.intro (fun hl=>?_) (fun hl=>?_)
  ·replace hl:=of_decide_eq_true hl
   have hlt:a+i < s.length:=om
   have hget:(s.drop a)[i]? =some s[a+i]:=by rw[List.getElem?_drop,List.getElem?_eq_getElem hlt]
   have bad:a2a s[a+i]=false->szL (s.drop a)=0:=by
    intro hcb
    unfold Hid at hz
    rw[hz,if_neg]
    intro hall2
    have hmem:s[a+i]∈((s.drop a).take 4).drop 2:=List.mem_iff_getElem?.2 ⟨i - 2,by
      rw[List.getElem?_drop,show 2+(i - 2)=i by omega,List.getElem?_take,if_pos om];exact hget⟩
    have:=List.all_eq_true.1 hall2 _ hmem
    rw[hcb]at this;cases this
   have good:a2a s[a+i]=true->(((s.drop a).take (i+1)).drop 2).all a2a=true:=by
    intro hcb
    rw[List.take_add_one,hget,List.drop_append_of_le_length (by rw[List.length_take];omega),List.all_append,hall]
    simp[hcb]
   have hcb:a2a s[a+i]=decide (128<=s[a+i].toNat/\s[a+i].toNat<=191):=rfl
   refine e1s hs hlt ?_
   by_cases h128:s[a+i].toNat < 128
   ·refine a4q (decide_eq_true om) ?_
    refine a0m rfl ?_
    show _=_
    rw[bad (by rw[hcb];exact decide_eq_false om)];rfl
   refine a3t (decide_eq_false om) ?_
   refine e1s hs hlt ?_
   by_cases h191:191 < s[a+i].toNat
   ·refine a0m (decide_eq_true om) ?_
    show _=_
    rw[bad (by rw[hcb];exact decide_eq_false om)];rfl
   refine a0j (decide_eq_false om) ?_
   refine⟨i+1,⟨om,om,good (by rw[hcb];exact decide_eq_true om)⟩,om,?_,rfl⟩
   rw[a0w om];rfl
  ·replace hl:=of_decide_eq_false hl
   have hi:i=4:=om
   subst hi
   unfold Hid at hz
   show _=_
   rw[hz,if_pos hall];rfl
 ·have hN:szN s[a]=4:=by unfold szN;rw[hc,if_neg om,if_neg om,if_pos om]
  have hLo:c8h s[a]=128:=by unfold c8h;rw[hc,if_neg om,if_neg om]
  have hHi:d3h s[a]=143:=by unfold d3h;rw[hc,if_neg om,if_pos om]
  have en:IntKind.i64.wrap ((a:Int)+4)=(a:Int)+4:=a0w om
  unfold Hid at hz
  rw[hN,if_neg (by clear hz;omega),hLo,hHi]at hz
  clear hN hLo hHi
  have hz2:(s.length - a < 4->szL (s.drop a)=0)/\(¬ s.length - a < 4->((hd1 (s.drop a)).toNat < 128\/143 < (hd1 (s.drop a)).toNat)->szL (s.drop a)=0)/\(¬ s.length - a < 4->¬ ((hd1 (s.drop a)).toNat < 128\/143 < (hd1 (s.drop a)).toNat)->szL (s.drop a)=if(((s.drop a).take 4).drop 2).all a2a then 4 else 0):=
   ⟨fun h=>by rw[hz,if_pos (.inl h)],fun h h'=>by rw[hz,if_pos (.inr h')],fun h h'=>by rw[hz,if_neg (by intro e;rcases e with e|e;exact h e;exact h' e)]⟩
  clear hz
  obtain⟨z1,z2,z3⟩:=hz2
  replace z1:Hid _:=z1
  replace z2:Hid _:=z2
  replace z3:Hid _:=z3
  repeat' (first
    |refine a0j (decide_eq_false om) ?_
    |refine a0m (decide_eq_true om) ?_
    |refine a0j rfl ?_
    |refine a0m rfl ?_)
  by_cases hL:s.length < a+4
  ·refine a4q (decide_eq_true om) ?_
   refine a4q rfl ?_
   refine a0m rfl ?_
   show _=_
   rw[show szL (s.drop a)=0 from z1 om];rfl
  have hlt1:a+1 < s.length:=om
  rw[h1 hlt1]at z2 z3
  refine a3t (decide_eq_false om) ?_
  refine d9j om hlt1 ?_
  generalize hb:s[a+1].toNat=b at z2 z3
  by_cases hb1:b < 128
  ·refine a4q (decide_eq_true om) ?_
   refine a0m rfl ?_
   show _=_
   rw[show szL (s.drop a)=0 from z2 om om];rfl
  refine a3t (decide_eq_false om) ?_
  refine d9j om hlt1 ?_
  by_cases hb2:143 < b
  ·refine a0m (decide_eq_true om) ?_
   show _=_
   rw[show szL (s.drop a)=0 from z2 om om];rfl
  refine a0j (decide_eq_false om) ?_
  have hz:szL (s.drop a)=if(((s.drop a).take 4).drop 2).all a2a then 4 else 0:=z3 om om
  clear z1 z2 z3
  clear h1
  refine wp_loop (α:=Nat) (fun i=>4 - i) (fun i=>[(0,str s),(1,i64 a),(6,i64 4),(9,i64 i)]) (fun _=>[]) (fun i=>2<=i/\i<=4/\(((s.drop a).take i).drop 2).all a2a=true) ?_ 2 ⟨om,om,by simp⟩
  rintro i ⟨hi1,hi2,hall⟩
  replace hz:Hid _:=hz
  refine And.intro (fun hl=>?_) (fun hl=>?_)
  ·replace hl:=of_decide_eq_true hl
   have hlt:a+i < s.length:=om
   have hget:(s.drop a)[i]? =some s[a+i]:=by rw[List.getElem?_drop,List.getElem?_eq_getElem hlt]
   have bad:a2a s[a+i]=false->szL (s.drop a)=0:=by
    intro hcb
    unfold Hid at hz
    rw[hz,if_neg]
    intro hall2
    have hmem:s[a+i]∈((s.drop a).take 4).drop 2:=List.mem_iff_getElem?.2 ⟨i - 2,by
      rw[List.getElem?_drop,show 2+(i - 2)=i by omega,List.getElem?_take,if_pos om];exact hget⟩
    have:=List.all_eq_true.1 hall2 _ hmem
    rw[hcb]at this;cases this
   have good:a2a s[a+i]=true->(((s.drop a).take (i+1)).drop 2).all a2a=true:=by
    intro hcb
    rw[List.take_add_one,hget,List.drop_append_of_le_length (by rw[List.length_take];omega),List.all_append,hall]
    simp[hcb]
   have hcb:a2a s[a+i]=decide (128<=s[a+i].toNat/\s[a+i].toNat<=191):=rfl
   refine e1s hs hlt ?_
   by_cases h128:s[a+i].toNat < 128
   ·refine a4q (decide_eq_true om) ?_
    refine a0m rfl ?_
    show _=_
    rw[bad (by rw[hcb];exact decide_eq_false om)];rfl
   refine a3t (decide_eq_false om) ?_
   refine e1s hs hlt ?_
   by_cases h191:191 < s[a+i].toNat
   ·refine a0m (decide_eq_true om) ?_
    show _=_
    rw[bad (by rw[hcb];exact decide_eq_false om)];rfl
   refine a0j (decide_eq_false om) ?_
   refine⟨i+1,⟨om,om,good (by rw[hcb];exact decide_eq_true om)⟩,om,?_,rfl⟩
   rw[a0w om];rfl
  ·replace hl:=of_decide_eq_false hl
   have hi:i=4:=om
   subst hi
   unfold Hid at hz
   show _=_
   rw[hz,if_pos hall];rfl
end
end Go.Vm.Lex
