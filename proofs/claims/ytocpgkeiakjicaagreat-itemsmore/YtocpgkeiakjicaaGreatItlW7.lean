import Derived.Test.YtocpgkeiakjicaaGreatIteA11
import Derived.Test.YtocpgkeiakjicaaGreatTreP
import Derived.Test.YtocpgkeiakjicaaGreatTypP25
import Derived.Test.YtocpgkeiakjicaaGreatIteL
import Derived.Test.YtocpgkeiakjicaaGreatVmWp2
import Derived.Lib.DecodeN
set_option maxRecDepth 100000
set_option linter.unusedVariables false
set_option linter.unusedSimpArgs false
namespace Go.Vm.Ite
open Go.Vm.Lex (TokQ)
open Go.Vm.Pa
set_option maxHeartbeats 4000000
section
variable {fx:Nat->Option Obj} {l:List TokQ} {s s1 s2:PS} {n:Nat} {r:R}
theorem g4h {fr:Int} {b:Bool} (hl:LOk l) (IH:∀ m,m<=n->Sp fx l m) (hs:okS l s=true) (h:go l (n+1) (.named fr b) s=some (r,s1)):evF (pgL fx F0) a4w [.ptr 0 0,.d (.int .i64 fr),.d (.bool b)] [PB l s,PR s]=some (.d (.int .i64 r.i),[PB l s1,PR s1]):=by
 change Go.Vm.Pa.step l (go l n) (.named fr b) s=_ at h
 simp only[Go.Vm.Pa.step,Go.Vm.Pa.mk,Go.Vm.Pa.ret,Go.Vm.Pa.a8x,Go.Vm.Pa.deeper,Go.Vm.Pa.step.newS,Go.Vm.Pa.step.numS,Go.Vm.Pa.step.pickS]at h
 split at h
 ·rename_i s2 e2
  split at h
  ·cases h
  rename_i p q1 e1
  split at h
  ·cases h
  rename_i ck
  repeat' (first|(cases h;done)|split at h)
  simp only[Option.some.injEq,Prod.mk.injEq]at h;obtain⟨rfl,rfl⟩:=h
  refine a0e (a3d (F:=F0)) rfl rfl rfl ?_
  repeat' (first|refine a2q ⟨?_⟩|refine ca (a6r asm) ?_|refine ca (b0y okQ asm) ?_|refine ca (a7t IH asm om okQ) ?_|refine ca (a1t okQ asm) ?_|refine ca (a2a okQ) ?_|refine ca (c1v IH asm om okQ) ?_|refine ca (a2e okQ hl.len asm) ?_|refine ca (a2i okQ hl.len) ?_|refine ca (a1q okQ asm) ?_|refine ca (a1u okQ) ?_|refine ca (a1b asm rfl) ?_|refine a0a 3 (by decide) (by decide) ?_|fail)
  refine a0o (α:=Nat×K×PS) (fun a=>a.1) (fun a=>[(0,.ptr 0 0),(1,i64 fr),(8,.ptr 2 0)]) (fun a=>[PB l a.2.2,PR a.2.2,.box [i64 34,str (a2c l s).1,i64 0,.row 3 a.2.1.n,i64 0,i64 0],.row 1 a.2.1.l]) (fun a=>a.1<=n/\go l a.1 (.args a.2.1) a.2.2=some (p,q1)/\okS l a.2.2=true) ?_ (n,K.o,_) ⟨Nat.le_refl _,(b3j e1).1,okQ⟩ rfl rfl
  rintro⟨m,ks,q⟩ ⟨hm,h,hq⟩
  dsimp only at hm h hq
  cases m with
  |zero=>cases h
  |succ m=>
  change Go.Vm.Pa.step l (go l m) (.args ks) q=_ at h
  simp only[Go.Vm.Pa.step,Go.Vm.Pa.mk,Go.Vm.Pa.ret,Go.Vm.Pa.a8x,Go.Vm.Pa.deeper,Go.Vm.Pa.step.newS,Go.Vm.Pa.step.numS,Go.Vm.Pa.step.pickS]at h
  repeat' (first|(cases h;done)|split at h)
  all_goals first
    |(simp only[Option.some.injEq,Prod.mk.injEq]at h;obtain⟨rfl,rfl⟩:=h
      try have ck2:= ‹okK ks=true›
      repeat' (first|refine a2q ⟨?_⟩|refine And.intro ⟨rfl,a1c ck2,a1i ck2⟩ ?_|refine And.intro (a1c ck) ?_|refine And.intro ⟨rfl,by decide⟩ ?_|refine ca (a6r asm) ?_|refine ca (b0y okQ asm) ?_|refine ca (a7t IH asm om okQ) ?_|refine ca (a1t okQ asm) ?_|refine ca (a2a okQ) ?_|refine ca (c1v IH asm om okQ) ?_|refine ca (a2e okQ hl.len asm) ?_|refine ca (a2i okQ hl.len) ?_|refine ca (a1q okQ asm) ?_|refine ca (a1u okQ) ?_|refine ca (a1b asm rfl) ?_|refine a0a 3 (by decide) (by decide) ?_|fail)
      exact rfl)
    |(have ck2:= ‹okK ks=true›
      repeat' (first|refine a2q ⟨?_⟩|refine And.intro ⟨rfl,a1c ck2,a1i ck2⟩ ?_|refine And.intro ⟨rfl,by decide⟩ ?_|refine ca (a6r asm) ?_|refine ca (b0y okQ asm) ?_|refine ca (a7t IH asm om okQ) ?_|refine ca (a1t okQ asm) ?_|refine ca (a2a okQ) ?_|refine ca (c1v IH asm om okQ) ?_|refine ca (a2e okQ hl.len asm) ?_|refine ca (a2i okQ hl.len) ?_|refine ca (a1q okQ asm) ?_|refine ca (a1u okQ) ?_|refine ca (a1b asm rfl) ?_|refine a0a 3 (by decide) (by decide) ?_|fail)
      exact⟨(m,_,_),⟨om,h,okQ⟩,by dsimp only;omega,rfl,rfl⟩)
 ·cases b
  ·dsimp only at h
   split at h
   ·rename_i s3 e3
    split at h
    ·cases h
    rename_i p q1 e1
    split at h
    ·cases h
    rename_i ck
    repeat' (first|(cases h;done)|split at h)
    simp only[Option.some.injEq,Prod.mk.injEq]at h;obtain⟨rfl,rfl⟩:=h
    refine a0e (a3d (F:=F0)) rfl rfl rfl ?_
    repeat' (first|refine a2q ⟨?_⟩|refine ca (a6r asm) ?_|refine ca (b0y okQ asm) ?_|refine ca (a7t IH asm om okQ) ?_|refine ca (a1t okQ asm) ?_|refine ca (a2a okQ) ?_|refine ca (c1v IH asm om okQ) ?_|refine ca (a2e okQ hl.len asm) ?_|refine ca (a2i okQ hl.len) ?_|refine ca (a1q okQ asm) ?_|refine ca (a1u okQ) ?_|refine ca (a1b asm rfl) ?_|refine a0a 3 (by decide) (by decide) ?_|fail)
    refine a0o (α:=Nat×K×PS) (fun a=>a.1) (fun a=>[(0,.ptr 0 0),(1,i64 fr),(9,.ptr 2 0)]) (fun a=>[PB l a.2.2,PR a.2.2,.box [i64 35,str (a2c l s).1,i64 0,.row 3 a.2.1.n,i64 0,i64 0],.row 1 a.2.1.l]) (fun a=>a.1<=n/\go l a.1 (.inits a.2.1) a.2.2=some (p,q1)/\okS l a.2.2=true) ?_ (n,K.o,_) ⟨Nat.le_refl _,(b3j e1).1,okQ⟩ rfl rfl
    rintro⟨m,ks,q⟩ ⟨hm,h,hq⟩
    dsimp only at hm h hq
    cases m with
    |zero=>cases h
    |succ m=>
    change Go.Vm.Pa.step l (go l m) (.inits ks) q=_ at h
    simp only[Go.Vm.Pa.step,Go.Vm.Pa.mk,Go.Vm.Pa.ret,Go.Vm.Pa.a8x,Go.Vm.Pa.deeper,Go.Vm.Pa.step.newS,Go.Vm.Pa.step.numS,Go.Vm.Pa.step.pickS]at h
    repeat' (first|(cases h;done)|split at h)
    all_goals first
      |(simp only[Option.some.injEq,Prod.mk.injEq]at h;obtain⟨rfl,rfl⟩:=h
        try have ck2:= ‹okK ks=true›
        repeat' (first|refine a2q ⟨?_⟩|refine And.intro ⟨rfl,a1c ck2,a1i ck2⟩ ?_|refine And.intro (a1c ck) ?_|refine And.intro ⟨rfl,by decide⟩ ?_|refine ca (a6r asm) ?_|refine ca (b0y okQ asm) ?_|refine ca (a7t IH asm om okQ) ?_|refine ca (a1t okQ asm) ?_|refine ca (a2a okQ) ?_|refine ca (c1v IH asm om okQ) ?_|refine ca (a2e okQ hl.len asm) ?_|refine ca (a2i okQ hl.len) ?_|refine ca (a1q okQ asm) ?_|refine ca (a1u okQ) ?_|refine ca (a1b asm rfl) ?_|refine a0a 3 (by decide) (by decide) ?_|fail)
        exact rfl)
      |(have ck2:= ‹okK ks=true›
        repeat' (first|refine a2q ⟨?_⟩|refine And.intro ⟨rfl,a1c ck2,a1i ck2⟩ ?_|refine And.intro ⟨rfl,by decide⟩ ?_|refine ca (a6r asm) ?_|refine ca (b0y okQ asm) ?_|refine ca (a7t IH asm om okQ) ?_|refine ca (a1t okQ asm) ?_|refine ca (a2a okQ) ?_|refine ca (c1v IH asm om okQ) ?_|refine ca (a2e okQ hl.len asm) ?_|refine ca (a2i okQ hl.len) ?_|refine ca (a1q okQ asm) ?_|refine ca (a1u okQ) ?_|refine ca (a1b asm rfl) ?_|refine a0a 3 (by decide) (by decide) ?_|fail)
        exact⟨(m,_,_),⟨om,h,okQ⟩,by dsimp only;omega,rfl,rfl⟩)
   ·skip
    repeat' (first|(cases h;done)|split at h)
    all_goals
     simp only[Option.some.injEq,Prod.mk.injEq]at h;obtain⟨rfl,rfl⟩:=h
     refine a0e (a3d (F:=F0)) rfl rfl rfl ?_
     repeat' (first|refine a2q ⟨?_⟩|refine And.intro (i2i hl) ?_|refine And.intro (i1x hl) ?_|refine ca (a6r asm) ?_|refine ca (b0y okQ asm) ?_|refine ca (a7t IH asm om okQ) ?_|refine ca (a1t okQ asm) ?_|refine ca (a2a okQ) ?_|refine ca (c1v IH asm om okQ) ?_|refine ca (a2e okQ hl.len asm) ?_|refine ca (a2i okQ hl.len) ?_|refine ca (a1q okQ asm) ?_|refine ca (a1u okQ) ?_|refine ca (a1b asm rfl) ?_|refine a0a 3 (by decide) (by decide) ?_|fail)
     exact rfl
  ·dsimp only at h
   repeat' (first|(cases h;done)|split at h)
   all_goals
    simp only[Option.some.injEq,Prod.mk.injEq]at h;obtain⟨rfl,rfl⟩:=h
    refine a0e (a3d (F:=F0)) rfl rfl rfl ?_
    repeat' (first|refine a2q ⟨?_⟩|refine And.intro (i2i hl) ?_|refine And.intro (i1x hl) ?_|refine ca (a6r asm) ?_|refine ca (b0y okQ asm) ?_|refine ca (a7t IH asm om okQ) ?_|refine ca (a1t okQ asm) ?_|refine ca (a2a okQ) ?_|refine ca (c1v IH asm om okQ) ?_|refine ca (a2e okQ hl.len asm) ?_|refine ca (a2i okQ hl.len) ?_|refine ca (a1q okQ asm) ?_|refine ca (a1u okQ) ?_|refine ca (a1b asm rfl) ?_|refine a0a 3 (by decide) (by decide) ?_|fail)
    exact rfl
end
end Go.Vm.Ite
namespace Go.Vm.Ite
open Go.Vm.Lex (TokQ)
open Go.Vm.Pa
section
variable {fx:Nat->Option Obj} {l:List TokQ}
theorem h8n (hl:LOk l):∀ n m,m<=n->Sp fx l m:=by
 intro n
 induction n with
 |zero=>
  intro m hm
  obtain rfl:m=0:=om
  exact{
    typ:=fun _ h=>by cases(show none=some _ from h)
    typed:=fun _=>fun _ h=>by cases(show none=some _ from h)
    param:=fun _ h=>by cases(show none=some _ from h)
    field:=fun _ h=>by cases(show none=some _ from h)
    variant:=fun _ h=>by cases(show none=some _ from h)
    function:=fun _ h=>by cases(show none=some _ from h)
    parts:=fun _=>fun _ h=>by cases(show none=some _ from h)
    item:=fun _ h=>by cases(show none=some _ from h)
    block:=fun _ h=>by cases(show none=some _ from h)
    stmt:=fun _ h=>by cases(show none=some _ from h)
    let_:=fun _=>fun _ h=>by cases(show none=some _ from h)
    blocky:=fun _=>fun _ h=>by cases(show none=some _ from h)
    branch:=fun _ h=>by cases(show none=some _ from h)
    cond:=fun _ h=>by cases(show none=some _ from h)
    match_:=fun _ h=>by cases(show none=some _ from h)
    arm:=fun _ h=>by cases(show none=some _ from h)
    pattern:=fun _ h=>by cases(show none=some _ from h)
    patterned:=fun _=>fun _ h=>by cases(show none=some _ from h)
    expr:=fun _=>fun _ h=>by cases(show none=some _ from h)
    row:=fun _=>fun _=>fun _ h=>by cases(show none=some _ from h)
    operand:=fun _=>fun _ h=>by cases(show none=some _ from h)
    prefix_:=fun _=>fun _ h=>by cases(show none=some _ from h)
    postfix_:=fun _=>fun _ h=>by cases(show none=some _ from h)
    primary:=fun _=>fun _ h=>by cases(show none=some _ from h)
    named:=fun _=>fun _=>fun _ h=>by cases(show none=some _ from h)
    init:=fun _ h=>by cases(show none=some _ from h)
  }
 |succ n IH=>
  intro m hm
  by_cases c:m<=n
  ·exact IH m c
  obtain rfl:m=n+1:=om
  exact{
    typ:=fun hs h=>i0l hl IH hs h
    typed:=fun _=>fun hs h=>g4f hl IH hs h
    param:=fun hs h=>g2h hl IH hs h
    field:=fun hs h=>g3u hl IH hs h
    variant:=fun hs h=>f1o hl IH hs h
    function:=fun hs h=>e4z hl IH hs h
    parts:=fun _=>fun hs h=>g2b hl IH hs h
    item:=fun hs h=>g7l hl IH hs h
    block:=fun hs h=>g5q hl IH hs h
    stmt:=fun hs h=>h0s hl IH hs h
    let_:=fun _=>fun hs h=>h1r hl IH hs h
    blocky:=fun _=>fun hs h=>f7j hl IH hs h
    branch:=fun hs h=>f4a hl IH hs h
    cond:=fun hs h=>h3j hl IH hs h
    match_:=fun hs h=>f2z hl IH hs h
    arm:=fun hs h=>i3g hl IH hs h
    pattern:=fun hs h=>f1w hl IH hs h
    patterned:=fun _=>fun hs h=>d8i hl IH hs h
    expr:=fun _=>fun hs h=>g8a hl IH hs h
    row:=fun _=>fun _=>fun hs h=>i1l hl IH hs h
    operand:=fun _=>fun hs h=>e8y hl IH hs h
    prefix_:=fun _=>fun hs h=>e6r hl IH hs h
    postfix_:=fun _=>fun hs h=>e4q hl IH hs h
    primary:=fun _=>fun hs h=>e6h hl IH hs h
    named:=fun _=>fun _=>fun hs h=>g4h hl IH hs h
    init:=fun hs h=>h3n hl IH hs h
  }
theorem h4j (hl:LOk l) (n:Nat):Sp fx l n:=h8n hl n n (Nat.le_refl _)
end
end Go.Vm.Ite
namespace Go.Vm.Itr
open Go.Vm.Ite
open Go.Vm.Tp
open Go.Vm.Lex (a7d)
abbrev ints (l:List Int):V:= .d (.sl (l.map (D.int .i64)))
abbrev ndV (x:Nd):V:= .d x.D
section
variable {fx:Nat->Option Obj} {F:Nat->Option a0x} (H:Hp)
theorem a3f (k:Int):evF (pgL fx F) d0l [i64 k] H=some (boo (a7l k),H):=by
 refine a1p (d1z (F:=F)) rfl rfl ?_ H
 repeat' refine And.intro (fun h=>?_) (fun h=>?_)
 all_goals show _=_
 all_goals simp[oneOf,a7l]at*
 all_goals first|omega|(simp[*];done)
theorem a4k (k:Int):evF (pgL fx F) d1q [i64 k] H=some (boo (g6d k),H):=by
 refine a1p (d0h (F:=F)) rfl rfl ?_ H
 repeat' refine And.intro (fun h=>?_) (fun h=>?_)
 all_goals show _=_
 all_goals simp[oneOf,g6d]at*
 all_goals first|omega|(simp[*];done)
theorem a2v (k:Int):evF (pgL fx F) c2r [i64 k] H=some (boo (g5t k),H):=by
 refine a1p (c2q (F:=F)) rfl rfl ?_ H
 repeat' refine And.intro (fun h=>?_) (fun h=>?_)
 all_goals show _=_
 all_goals simp[oneOf,g5t]at*
 all_goals first|omega|(simp[*];done)
theorem a9a (k:Int):evF (pgL fx F) d0m [i64 k] H=some (boo (g6f k),H):=by
 refine a1p (d1f (F:=F)) rfl rfl ?_ H
 repeat' refine And.intro (fun h=>?_) (fun h=>?_)
 all_goals show _=_
 all_goals simp[oneOf,g6f]at*
 all_goals first|omega|(simp[*];done)|grind
theorem e3d {c d:UInt8} {n:Int} (h:c≠d) (hn:(d.toNat:Int)=n):decide ((c.toNat:Int)=n)=false:=by
 refine decide_eq_false fun e=>h ?_
 apply UInt8.toNat_inj.1;omega
set_option maxHeartbeats 1000000 in
theorem g0o (c:UInt8) (k:Int):evF (pgL fx F) f2f [u8 c,i64 k] H=some (boo (b3i c k),H):=by
 refine a1p (e5z (F:=F)) rfl rfl ?_ H
 by_cases c1:c=105
 ·subst c1
  by_cases k1:k=2
  ·subst k1
   repeat' (first|refine run ⟨?_⟩|fail)
   exact rfl
  by_cases k2:k=3
  ·subst k2
   repeat' (first|refine run ⟨?_⟩|fail)
   exact rfl
  by_cases k3:k=4
  ·subst k3
   repeat' (first|refine run ⟨?_⟩|fail)
   exact rfl
  rw[show b3i 105 k=false from decide_eq_false om]
  repeat' (first|refine run ⟨?_⟩|fail)
  show _=_
  rw[decide_eq_false k3];rfl
 by_cases c2:c=116
 ·subst c2
  repeat' (first|refine run ⟨?_⟩|refine ca (a3f _ _) ?_|fail)
  exact rfl
 by_cases c3:c=115
 ·subst c3
  repeat' (first|refine run ⟨?_⟩|refine ca (a4k _ _) ?_|fail)
  exact rfl
 by_cases c4:c=101
 ·subst c4
  repeat' (first|refine run ⟨?_⟩|refine ca (a9a _ _) ?_|fail)
  exact rfl
 by_cases c5:c=112
 ·subst c5
  repeat' (first|refine run ⟨?_⟩|refine ca (a2v _ _) ?_|fail)
  exact rfl
 by_cases c6:c=98
 ·subst c6
  repeat' (first|refine run ⟨?_⟩|fail)
  exact rfl
 by_cases c7:c=102
 ·subst c7
  repeat' (first|refine run ⟨?_⟩|fail)
  exact rfl
 by_cases c8:c=118
 ·subst c8
  repeat' (first|refine run ⟨?_⟩|fail)
  exact rfl
 by_cases c9:c=110
 ·subst c9
  repeat' (first|refine run ⟨?_⟩|fail)
  exact rfl
 by_cases c10:c=97
 ·subst c10
  repeat' (first|refine run ⟨?_⟩|fail)
  exact rfl
 by_cases c11:c=113
 ·subst c11
  repeat' (first|refine run ⟨?_⟩|fail)
  exact rfl
 by_cases c12:c=111
 ·subst c12
  by_cases k1:k=20
  ·subst k1
   repeat' (first|refine run ⟨?_⟩|fail)
   exact rfl
  by_cases k2:k=45
  ·subst k2
   repeat' (first|refine run ⟨?_⟩|fail)
   exact rfl
  rw[show b3i 111 k=false from decide_eq_false om]
  repeat' (first|refine run ⟨?_⟩|fail)
  show _=_
  rw[decide_eq_false k2];rfl
 have e:b3i c k=false:=by unfold b3i;simp[c1,c2,c3,c4,c5,c6,c7,c8,c9,c10,c11,c12]
 rw[e]
 refine a0h (e3d c1 rfl) ?_
 refine a0h (e3d c2 rfl) ?_
 refine a0h (e3d c3 rfl) ?_
 refine a0h (e3d c4 rfl) ?_
 refine a0h (e3d c5 rfl) ?_
 refine a0h (e3d c6 rfl) ?_
 refine a0h (e3d c7 rfl) ?_
 refine a0h (e3d c8 rfl) ?_
 refine a0h (e3d c9 rfl) ?_
 refine a0h (e3d c10 rfl) ?_
 refine a0h (e3d c11 rfl) ?_
 refine a0h (e3d c12 rfl) ?_
 rfl
theorem d1o (l:List Int):((l.map (D.int .i64)).all fun y=>y.cells.length==1)=true:=by
  rw[List.all_map,List.all_eq_true];intro x _;rfl
theorem slc1 {l:List Int} (h:1<=l.length):(1<=(l.map (D.int .i64)).length/\(l.map (D.int .i64)).length<=(l.map (D.int .i64)).length/\((some (Opd.c (i64 1))).isNone||(l.map (D.int .i64)).all fun y=>y.cells.length==1)=true):=
  ⟨by rw[List.length_map];exact h,Nat.le_refl _,by rw[d1o];rfl⟩
theorem e5e {c:UInt8} (hc:c≠63) (s:List UInt8) (l:List Int):a5z (c::s) l=(match l with|[]=>false|a::r=>b3i c a && a5z s r):=by
  cases s with
  |nil=>cases l<;>rfl
  |cons d s=>simp only[a5z,if_neg hc]<;>cases l<;>rfl
theorem g1s (d:UInt8) (s:List UInt8) (l:List Int):a5z (63::d::s) l=((match l with|[]=>false|a::r=>b3i d a && a5z s r)||a5z s l):=by simp only[a5z,if_true]<;>cases l<;>rfl
set_option maxHeartbeats 2000000 in
theorem b4d:∀ (n:Nat) (s:List UInt8) (l:List Int),s.length<=n->(∀ a,s≠a++[63])->∀ H,evF (pgL fx F) d7s [str s,ints l] H=some (boo (a5z s l),H)
 |n,[],l,_,_,H=>by
  refine a1p (c3y (F:=F)) rfl rfl ?_ H
  refine a0j rfl ?_
  show _=_
  cases l with
  |nil=>rfl
  |cons a r=>simp[oneOf,a5z];omega
 |0,c::s,l,h,_,H=>by simp at h
 |n+1,c::s,l,h,h2,H=>by
  have h3:∀ a,s≠a++[63]:=fun a e=>h2 (c::a) (by rw[e];rfl)
  refine a1p (c3y (F:=F)) rfl rfl ?_ H
  refine a0h rfl ?_
  refine a0f (d:=c) ⟨Int.le_refl _,rfl⟩ ?_
  by_cases hc:c=63
  ·subst hc
   cases s with
   |nil=>exact absurd rfl (h2 [])
   |cons d s=>
    have h4:∀ a,s≠a++[63]:=fun a e=>h3 (d::a) (by rw[e];rfl)
    have hs:s.length<=n:=by simp at h;omega
    refine a0j rfl ?_
    rw[g1s]
    have tail:∀ _:List Int,List.drop (Int.toNat 2) (List.take (63::d::s).length (63::d::s))=s:=by intro l;simp
    cases l with
    |nil=>
     refine a7x rfl ?_
     repeat' (first|refine run ⟨?_⟩|fail)
     refine And.intro ⟨by simp,by simp⟩ ?_
     rw[tail []]
     refine ca (b4d n s [] hs h4 _) ?_
     repeat' (first|refine run ⟨?_⟩|fail)
     exact rfl
    |cons a r=>
     refine b2t (decide_eq_true (by simp only[List.length_map,List.length_cons];omega)) ?_
     refine a0f (d:=d) ⟨om,rfl⟩ ?_
     refine a0f (d:= .int .i64 a) ⟨Int.le_refl _,rfl⟩ ?_
     refine And.intro rfl ?_
     refine ca (g0o _ d a) ?_
     repeat' (first|refine run ⟨?_⟩|fail)
     cases hl:b3i d a with
     |false=>
      refine a7x rfl ?_
      repeat' (first|refine run ⟨?_⟩|fail)
      refine And.intro ⟨by simp,by simp⟩ ?_
      rw[tail []]
      refine ca (b4d n s (a::r) hs h4 _) ?_
      repeat' (first|refine run ⟨?_⟩|fail)
      show _=_
      simp_all[oneOf]
     |true=>
      refine b2t rfl ?_
      refine And.intro ⟨by simp,by simp⟩ ?_
      refine And.intro (slc1 (by simp)) ?_
      rw[tail []]
      have e2:List.drop (Int.toNat 1) (List.take (List.map (D.int .i64) (a::r)).length (List.map (D.int .i64) (a::r)))=r.map (D.int .i64):=by rw[List.take_length];rfl
      rw[e2]
      refine ca (b4d n s r hs h4 _) ?_
      repeat' (first|refine run ⟨?_⟩|fail)
      cases hk:a5z s r with
      |true=>
       repeat' (first|refine run ⟨?_⟩|fail)
       repeat' (first|refine run ⟨?_⟩|fail)
       show _=_
       simp_all[oneOf]
      |false=>
       repeat' (first|refine run ⟨?_⟩|fail)
       refine And.intro ⟨by simp,by simp⟩ ?_
       rw[tail []]
       refine ca (b4d n s (a::r) hs h4 _) ?_
       repeat' (first|refine run ⟨?_⟩|fail)
       show _=_
       simp_all[oneOf]
  ·refine a0h (e3d hc rfl) ?_
   rw[e5e hc]
   have hs:s.length<=n:=by simp at h;omega
   cases l with
   |nil=>
    refine a7x rfl ?_
    repeat' (first|refine run ⟨?_⟩|fail)
    exact rfl
   |cons a r=>
    refine b2t (decide_eq_true (by simp only[List.length_map,List.length_cons];omega)) ?_
    refine a0f (d:=c) ⟨Int.le_refl _,rfl⟩ ?_
    refine a0f (d:= .int .i64 a) ⟨Int.le_refl _,rfl⟩ ?_
    refine And.intro rfl ?_
    refine ca (g0o _ c a) ?_
    repeat' (first|refine run ⟨?_⟩|fail)
    cases hl:b3i c a with
    |false=>
     refine a7x rfl ?_
     repeat' (first|refine run ⟨?_⟩|fail)
     show _=_
     simp_all[oneOf]
    |true=>
     refine b2t rfl ?_
     refine And.intro ⟨by simp,by simp⟩ ?_
     refine And.intro (slc1 (by simp)) ?_
     have e1:List.drop (Int.toNat 1) (List.take (c::s).length (c::s))=s:=by simp
     have e2:List.drop (Int.toNat 1) (List.take (List.map (D.int .i64) (a::r)).length (List.map (D.int .i64) (a::r)))=r.map (D.int .i64):=by rw[List.take_length];rfl
     rw[e1,e2]
     refine ca (b4d n s r hs h3 _) ?_
     repeat' (first|refine run ⟨?_⟩|fail)
     show _=_
     simp_all[oneOf]
end
end Go.Vm.Itr
namespace Go.Vm.Itr
open Go.Vm.Ite
open Go.Vm.Tp
open Go.Vm.Lex (a7d)
section
variable {fx:Nat->Option Obj} {F:Nat->Option a0x} (H:Hp)
theorem g0v (k:Int) (c:UInt8):evF (pgL fx F) «b0d» [i64 k,.ptr 0 0] [.box [u8 c]]=some (boo (!b3i c k),[.box [u8 c]]):=by
 refine d0b (d5i (F:=F)) rfl rfl rfl ?_
 repeat' (first|refine run ⟨?_⟩|refine ca (g0o _ _ _) ?_|fail)
 first|exact rfl|exact⟨rfl,rfl⟩
theorem g4a (l:List Int) (c:UInt8) (hl:l.length<=1048576):evF (pgL fx F) b0b [ints l,.fn b0d [.ptr 0 0]] [.box [u8 c]]=some (i64 (if l.all (b3i c) then -1 else(l.findIdx fun k=> !b3i c k:Nat)),[.box [u8 c]]):=by
  refine d0b (b0c (F:=F)) rfl rfl rfl ?_
  refine wp_loop (α:=Nat) (fun i=>l.length - i) (fun i=>[(0,ints l),(1,.fn b0d [.ptr 0 0]),(7,i64 (l.map (D.int .i64)).length),(8,i64 i)]) (fun _=>[.box [u8 c]]) (fun i=>i<=l.length/\∀ k∈l.take i,b3i c k=true) ?_ 0 ⟨om,by simp⟩
  rintro i ⟨hi,hall⟩
  refine And.intro (fun h=>?_) (fun h=>?_)
  ·replace h:=of_decide_eq_true h
   rw[List.length_map]at h
   have hlt:i < l.length:=om
   refine a5u (s:=l.map (D.int .i64)) (by rw[List.length_map];exact hlt) ?_
   rw[List.getElem_map]
   refine And.intro rfl ?_
   refine ca (g0v l[i] c) ?_
   cases hk:b3i c l[i] with
   |true=>
    repeat' (first|refine run ⟨?_⟩|fail)
    refine⟨i+1,⟨om,?_⟩,om,?_,rfl⟩
    ·intro k hkm
     rw[List.take_add_one,List.getElem?_eq_getElem hlt,List.mem_append]at hkm
     rcases hkm with hkm|hkm
     ·exact hall k hkm
     ·simp at hkm;rw[hkm];exact hk
    ·rw[a1k om];rfl
   |false=>
    repeat' (first|refine run ⟨?_⟩|fail)
    refine⟨?_,rfl⟩
    have h1:l.all (b3i c)=false:=by
     cases hb:l.all (b3i c)with
     |false=>rfl
     |true=>have:=List.all_eq_true.1 hb l[i] (List.getElem_mem _);rw[hk]at this;cases this
    rw[h1]
    have h2:l.findIdx (fun k=> !b3i c k)=i:=by
      rw[List.findIdx_eq hlt]
      refine⟨by rw[hk];rfl,fun j hj=>?_⟩
      have:l[j]∈l.take i:=by rw[List.mem_take_iff_getElem];exact⟨j,om,rfl⟩
      rw[hall _ this];rfl
    rw[h2];rfl
  ·replace h:=of_decide_eq_false h
   rw[List.length_map]at h
   have hi':i=l.length:=om
   subst hi'
   rw[List.take_length]at hall
   refine⟨?_,rfl⟩
   rw[List.all_eq_true.2 hall];rfl
theorem i0q (l:List Int) (c:UInt8) (hl:l.length<=1048576):evF (pgL fx F) a7y [ints l,.fn b0d [.ptr 0 0]] [.box [u8 c]]=some (boo (!l.all (b3i c)),[.box [u8 c]]):=by
 refine d0b (a7z (F:=F)) rfl rfl rfl ?_
 refine ca (g4a l c hl) ?_
 refine⟨?_,rfl⟩
 cases l.all (b3i c)with
 |true=>rfl
 |false=>show V.d (.bool (decide (0<=((l.findIdx fun k=> !b3i c k:Nat):Int))))=_;rw[decide_eq_true om];rfl
theorem g8f (l:List Int) (c:UInt8) (hl:l.length<=1048576):evF (pgL fx F) e3c [u8 c,ints l] H=some (boo (l.all (b3i c)),H):=by
 refine a1p (e3e (F:=F)) rfl rfl ?_ H
 refine ca (i0q l c hl) ?_
 show _=_
 cases l.all (b3i c)<;>rfl
theorem b5h (k:Int):evF (pgL fx F) d2z [i64 k] H=some (boo (a5c k),H):=by
 refine a1p (d3s (F:=F)) rfl rfl ?_ H
 by_cases h1:1<=k
 ·skip
  by_cases h2:k<=7
  ·skip
   repeat' (first|refine run ⟨?_⟩|fail)
   try first|refine a0j (decide_eq_true h1) ?_|refine b2t (decide_eq_true h1) ?_|refine a4s (decide_eq_true h1) ?_
   repeat' (first|refine run ⟨?_⟩|fail)
   try first|refine a0j (decide_eq_true h2) ?_|refine b2t (decide_eq_true h2) ?_|refine a4s (decide_eq_true h2) ?_
   repeat' (first|refine run ⟨?_⟩|fail)
   show _=_
   simp[oneOf,a5c, *]
  ·skip
   cases h3:a7l k with
   |true=>
    repeat' (first|refine run ⟨?_⟩|fail)
    try first|refine a0j (decide_eq_true h1) ?_|refine b2t (decide_eq_true h1) ?_|refine a4s (decide_eq_true h1) ?_
    repeat' (first|refine run ⟨?_⟩|fail)
    try first|refine a0h (decide_eq_false h2) ?_|refine a7x (decide_eq_false h2) ?_|refine a3u (decide_eq_false h2) ?_
    repeat' (first|refine run ⟨?_⟩|fail)
    try refine ca (a3f _ _) ?_
    repeat' (first|refine run ⟨?_⟩|fail)
    try first|refine a0j h3 ?_|refine b2t h3 ?_|refine a4s h3 ?_
    repeat' (first|refine run ⟨?_⟩|fail)
    show _=_
    simp[oneOf,a5c, *]
   |false=>
    cases h4:g6d k with
    |true=>
     repeat' (first|refine run ⟨?_⟩|fail)
     try first|refine a0j (decide_eq_true h1) ?_|refine b2t (decide_eq_true h1) ?_|refine a4s (decide_eq_true h1) ?_
     repeat' (first|refine run ⟨?_⟩|fail)
     try first|refine a0h (decide_eq_false h2) ?_|refine a7x (decide_eq_false h2) ?_|refine a3u (decide_eq_false h2) ?_
     repeat' (first|refine run ⟨?_⟩|fail)
     try refine ca (a3f _ _) ?_
     repeat' (first|refine run ⟨?_⟩|fail)
     try first|refine a0h h3 ?_|refine a7x h3 ?_|refine a3u h3 ?_
     repeat' (first|refine run ⟨?_⟩|fail)
     try refine ca (a4k _ _) ?_
     repeat' (first|refine run ⟨?_⟩|fail)
     try first|refine a0j h4 ?_|refine b2t h4 ?_|refine a4s h4 ?_
     repeat' (first|refine run ⟨?_⟩|fail)
     show _=_
     simp[oneOf,a5c, *]
    |false=>
     cases h5:g5t k with
     |true=>
      repeat' (first|refine run ⟨?_⟩|fail)
      try first|refine a0j (decide_eq_true h1) ?_|refine b2t (decide_eq_true h1) ?_|refine a4s (decide_eq_true h1) ?_
      repeat' (first|refine run ⟨?_⟩|fail)
      try first|refine a0h (decide_eq_false h2) ?_|refine a7x (decide_eq_false h2) ?_|refine a3u (decide_eq_false h2) ?_
      repeat' (first|refine run ⟨?_⟩|fail)
      try refine ca (a3f _ _) ?_
      repeat' (first|refine run ⟨?_⟩|fail)
      try first|refine a0h h3 ?_|refine a7x h3 ?_|refine a3u h3 ?_
      repeat' (first|refine run ⟨?_⟩|fail)
      try refine ca (a4k _ _) ?_
      repeat' (first|refine run ⟨?_⟩|fail)
      try first|refine a0h h4 ?_|refine a7x h4 ?_|refine a3u h4 ?_
      repeat' (first|refine run ⟨?_⟩|fail)
      try refine ca (a2v _ _) ?_
      repeat' (first|refine run ⟨?_⟩|fail)
      try first|refine a0j h5 ?_|refine b2t h5 ?_|refine a4s h5 ?_
      repeat' (first|refine run ⟨?_⟩|fail)
      show _=_
      simp[oneOf,a5c, *]
     |false=>
      cases h6:g6f k with
      |true=>
       repeat' (first|refine run ⟨?_⟩|fail)
       try first|refine a0j (decide_eq_true h1) ?_|refine b2t (decide_eq_true h1) ?_|refine a4s (decide_eq_true h1) ?_
       repeat' (first|refine run ⟨?_⟩|fail)
       try first|refine a0h (decide_eq_false h2) ?_|refine a7x (decide_eq_false h2) ?_|refine a3u (decide_eq_false h2) ?_
       repeat' (first|refine run ⟨?_⟩|fail)
       try refine ca (a3f _ _) ?_
       repeat' (first|refine run ⟨?_⟩|fail)
       try first|refine a0h h3 ?_|refine a7x h3 ?_|refine a3u h3 ?_
       repeat' (first|refine run ⟨?_⟩|fail)
       try refine ca (a4k _ _) ?_
       repeat' (first|refine run ⟨?_⟩|fail)
       try first|refine a0h h4 ?_|refine a7x h4 ?_|refine a3u h4 ?_
       repeat' (first|refine run ⟨?_⟩|fail)
       try refine ca (a2v _ _) ?_
       repeat' (first|refine run ⟨?_⟩|fail)
       try first|refine a0h h5 ?_|refine a7x h5 ?_|refine a3u h5 ?_
       repeat' (first|refine run ⟨?_⟩|fail)
       try refine ca (a9a _ _) ?_
       repeat' (first|refine run ⟨?_⟩|fail)
       try first|refine a0j h6 ?_|refine b2t h6 ?_|refine a4s h6 ?_
       repeat' (first|refine run ⟨?_⟩|fail)
       show _=_
       simp[oneOf,a5c, *]
      |false=>
       by_cases h7:k=36
       ·skip
        repeat' (first|refine run ⟨?_⟩|fail)
        try first|refine a0j (decide_eq_true h1) ?_|refine b2t (decide_eq_true h1) ?_|refine a4s (decide_eq_true h1) ?_
        repeat' (first|refine run ⟨?_⟩|fail)
        try first|refine a0h (decide_eq_false h2) ?_|refine a7x (decide_eq_false h2) ?_|refine a3u (decide_eq_false h2) ?_
        repeat' (first|refine run ⟨?_⟩|fail)
        try refine ca (a3f _ _) ?_
        repeat' (first|refine run ⟨?_⟩|fail)
        try first|refine a0h h3 ?_|refine a7x h3 ?_|refine a3u h3 ?_
        repeat' (first|refine run ⟨?_⟩|fail)
        try refine ca (a4k _ _) ?_
        repeat' (first|refine run ⟨?_⟩|fail)
        try first|refine a0h h4 ?_|refine a7x h4 ?_|refine a3u h4 ?_
        repeat' (first|refine run ⟨?_⟩|fail)
        try refine ca (a2v _ _) ?_
        repeat' (first|refine run ⟨?_⟩|fail)
        try first|refine a0h h5 ?_|refine a7x h5 ?_|refine a3u h5 ?_
        repeat' (first|refine run ⟨?_⟩|fail)
        try refine ca (a9a _ _) ?_
        repeat' (first|refine run ⟨?_⟩|fail)
        try first|refine a0h h6 ?_|refine a7x h6 ?_|refine a3u h6 ?_
        repeat' (first|refine run ⟨?_⟩|fail)
        try first|refine a0j (decide_eq_true h7) ?_|refine b2t (decide_eq_true h7) ?_|refine a4s (decide_eq_true h7) ?_
        repeat' (first|refine run ⟨?_⟩|fail)
        show _=_
        simp[oneOf,a5c, *]
       ·skip
        repeat' (first|refine run ⟨?_⟩|fail)
        try first|refine a0j (decide_eq_true h1) ?_|refine b2t (decide_eq_true h1) ?_|refine a4s (decide_eq_true h1) ?_
        repeat' (first|refine run ⟨?_⟩|fail)
        try first|refine a0h (decide_eq_false h2) ?_|refine a7x (decide_eq_false h2) ?_|refine a3u (decide_eq_false h2) ?_
        repeat' (first|refine run ⟨?_⟩|fail)
        try refine ca (a3f _ _) ?_
        repeat' (first|refine run ⟨?_⟩|fail)
        try first|refine a0h h3 ?_|refine a7x h3 ?_|refine a3u h3 ?_
        repeat' (first|refine run ⟨?_⟩|fail)
        try refine ca (a4k _ _) ?_
        repeat' (first|refine run ⟨?_⟩|fail)
        try first|refine a0h h4 ?_|refine a7x h4 ?_|refine a3u h4 ?_
        repeat' (first|refine run ⟨?_⟩|fail)
        try refine ca (a2v _ _) ?_
        repeat' (first|refine run ⟨?_⟩|fail)
        try first|refine a0h h5 ?_|refine a7x h5 ?_|refine a3u h5 ?_
        repeat' (first|refine run ⟨?_⟩|fail)
        try refine ca (a9a _ _) ?_
        repeat' (first|refine run ⟨?_⟩|fail)
        try first|refine a0h h6 ?_|refine a7x h6 ?_|refine a3u h6 ?_
        repeat' (first|refine run ⟨?_⟩|fail)
        try first|refine a0h (decide_eq_false h7) ?_|refine a7x (decide_eq_false h7) ?_|refine a3u (decide_eq_false h7) ?_
        repeat' (first|refine run ⟨?_⟩|fail)
        show _=_
        simp[oneOf,a5c, *]
 ·skip
  cases h8:a7l k with
  |true=>
   repeat' (first|refine run ⟨?_⟩|fail)
   try first|refine a0h (decide_eq_false h1) ?_|refine a7x (decide_eq_false h1) ?_|refine a3u (decide_eq_false h1) ?_
   repeat' (first|refine run ⟨?_⟩|fail)
   try refine ca (a3f _ _) ?_
   repeat' (first|refine run ⟨?_⟩|fail)
   try first|refine a0j h8 ?_|refine b2t h8 ?_|refine a4s h8 ?_
   repeat' (first|refine run ⟨?_⟩|fail)
   show _=_
   simp[oneOf,a5c, *]
  |false=>
   cases h9:g6d k with
   |true=>
    repeat' (first|refine run ⟨?_⟩|fail)
    try first|refine a0h (decide_eq_false h1) ?_|refine a7x (decide_eq_false h1) ?_|refine a3u (decide_eq_false h1) ?_
    repeat' (first|refine run ⟨?_⟩|fail)
    try refine ca (a3f _ _) ?_
    repeat' (first|refine run ⟨?_⟩|fail)
    try first|refine a0h h8 ?_|refine a7x h8 ?_|refine a3u h8 ?_
    repeat' (first|refine run ⟨?_⟩|fail)
    try refine ca (a4k _ _) ?_
    repeat' (first|refine run ⟨?_⟩|fail)
    try first|refine a0j h9 ?_|refine b2t h9 ?_|refine a4s h9 ?_
    repeat' (first|refine run ⟨?_⟩|fail)
    show _=_
    simp[oneOf,a5c, *]
   |false=>
    cases h10:g5t k with
    |true=>
     repeat' (first|refine run ⟨?_⟩|fail)
     try first|refine a0h (decide_eq_false h1) ?_|refine a7x (decide_eq_false h1) ?_|refine a3u (decide_eq_false h1) ?_
     repeat' (first|refine run ⟨?_⟩|fail)
     try refine ca (a3f _ _) ?_
     repeat' (first|refine run ⟨?_⟩|fail)
     try first|refine a0h h8 ?_|refine a7x h8 ?_|refine a3u h8 ?_
     repeat' (first|refine run ⟨?_⟩|fail)
     try refine ca (a4k _ _) ?_
     repeat' (first|refine run ⟨?_⟩|fail)
     try first|refine a0h h9 ?_|refine a7x h9 ?_|refine a3u h9 ?_
     repeat' (first|refine run ⟨?_⟩|fail)
     try refine ca (a2v _ _) ?_
     repeat' (first|refine run ⟨?_⟩|fail)
     try first|refine a0j h10 ?_|refine b2t h10 ?_|refine a4s h10 ?_
     repeat' (first|refine run ⟨?_⟩|fail)
     show _=_
     simp[oneOf,a5c, *]
    |false=>
     cases h11:g6f k with
     |true=>
      repeat' (first|refine run ⟨?_⟩|fail)
      try first|refine a0h (decide_eq_false h1) ?_|refine a7x (decide_eq_false h1) ?_|refine a3u (decide_eq_false h1) ?_
      repeat' (first|refine run ⟨?_⟩|fail)
      try refine ca (a3f _ _) ?_
      repeat' (first|refine run ⟨?_⟩|fail)
      try first|refine a0h h8 ?_|refine a7x h8 ?_|refine a3u h8 ?_
      repeat' (first|refine run ⟨?_⟩|fail)
      try refine ca (a4k _ _) ?_
      repeat' (first|refine run ⟨?_⟩|fail)
      try first|refine a0h h9 ?_|refine a7x h9 ?_|refine a3u h9 ?_
      repeat' (first|refine run ⟨?_⟩|fail)
      try refine ca (a2v _ _) ?_
      repeat' (first|refine run ⟨?_⟩|fail)
      try first|refine a0h h10 ?_|refine a7x h10 ?_|refine a3u h10 ?_
      repeat' (first|refine run ⟨?_⟩|fail)
      try refine ca (a9a _ _) ?_
      repeat' (first|refine run ⟨?_⟩|fail)
      try first|refine a0j h11 ?_|refine b2t h11 ?_|refine a4s h11 ?_
      repeat' (first|refine run ⟨?_⟩|fail)
      show _=_
      simp[oneOf,a5c, *]
     |false=>
      by_cases h12:k=36
      ·skip
       repeat' (first|refine run ⟨?_⟩|fail)
       try first|refine a0h (decide_eq_false h1) ?_|refine a7x (decide_eq_false h1) ?_|refine a3u (decide_eq_false h1) ?_
       repeat' (first|refine run ⟨?_⟩|fail)
       try refine ca (a3f _ _) ?_
       repeat' (first|refine run ⟨?_⟩|fail)
       try first|refine a0h h8 ?_|refine a7x h8 ?_|refine a3u h8 ?_
       repeat' (first|refine run ⟨?_⟩|fail)
       try refine ca (a4k _ _) ?_
       repeat' (first|refine run ⟨?_⟩|fail)
       try first|refine a0h h9 ?_|refine a7x h9 ?_|refine a3u h9 ?_
       repeat' (first|refine run ⟨?_⟩|fail)
       try refine ca (a2v _ _) ?_
       repeat' (first|refine run ⟨?_⟩|fail)
       try first|refine a0h h10 ?_|refine a7x h10 ?_|refine a3u h10 ?_
       repeat' (first|refine run ⟨?_⟩|fail)
       try refine ca (a9a _ _) ?_
       repeat' (first|refine run ⟨?_⟩|fail)
       try first|refine a0h h11 ?_|refine a7x h11 ?_|refine a3u h11 ?_
       repeat' (first|refine run ⟨?_⟩|fail)
       try first|refine a0j (decide_eq_true h12) ?_|refine b2t (decide_eq_true h12) ?_|refine a4s (decide_eq_true h12) ?_
       repeat' (first|refine run ⟨?_⟩|fail)
       show _=_
       simp[oneOf,a5c, *]
      ·skip
       repeat' (first|refine run ⟨?_⟩|fail)
       try first|refine a0h (decide_eq_false h1) ?_|refine a7x (decide_eq_false h1) ?_|refine a3u (decide_eq_false h1) ?_
       repeat' (first|refine run ⟨?_⟩|fail)
       try refine ca (a3f _ _) ?_
       repeat' (first|refine run ⟨?_⟩|fail)
       try first|refine a0h h8 ?_|refine a7x h8 ?_|refine a3u h8 ?_
       repeat' (first|refine run ⟨?_⟩|fail)
       try refine ca (a4k _ _) ?_
       repeat' (first|refine run ⟨?_⟩|fail)
       try first|refine a0h h9 ?_|refine a7x h9 ?_|refine a3u h9 ?_
       repeat' (first|refine run ⟨?_⟩|fail)
       try refine ca (a2v _ _) ?_
       repeat' (first|refine run ⟨?_⟩|fail)
       try first|refine a0h h10 ?_|refine a7x h10 ?_|refine a3u h10 ?_
       repeat' (first|refine run ⟨?_⟩|fail)
       try refine ca (a9a _ _) ?_
       repeat' (first|refine run ⟨?_⟩|fail)
       try first|refine a0h h11 ?_|refine a7x h11 ?_|refine a3u h11 ?_
       repeat' (first|refine run ⟨?_⟩|fail)
       try first|refine a0h (decide_eq_false h12) ?_|refine a7x (decide_eq_false h12) ?_|refine a3u (decide_eq_false h12) ?_
       repeat' (first|refine run ⟨?_⟩|fail)
       show _=_
       simp[oneOf,a5c, *]
theorem g4i (s:List UInt8):evF (pgL fx F) d6m [str s] H=some (boo (decide (s∈a8a)),H):=by
 refine a1p (d8p (F:=F)) rfl rfl ?_ H
 repeat' refine And.intro (fun h=>?_) (fun h=>?_)
 all_goals show _=_
 all_goals simp only[decide_eq_true_eq,decide_eq_false_iff_not]at*
 all_goals simp[oneOf,a8a, *]
end
end Go.Vm.Itr
namespace Go.Vm.Itr
open Go.Vm.Ite
open Go.Vm.Tp
open Go.Vm.Lex (a7d)
section
variable {fx:Nat->Option Obj} {F:Nat->Option a0x} (H:Hp)
set_option maxHeartbeats 2000000 in
theorem f7g (x:Nd):evF (pgL fx F) d5v [ndV x] H=some (str (c8b x.k x.v),H):=by
 obtain⟨k,t,v,kids,f,e⟩:=x
 refine a1p (d3n (F:=F)) rfl rfl ?_ H
 by_cases c1:k=1
 ·subst c1
  repeat' (first|refine run ⟨?_⟩|fail)
  exact rfl
 by_cases c2:k=2
 ·subst c2
  repeat' (first|refine run ⟨?_⟩|fail)
  exact rfl
 by_cases c3:k=3
 ·subst c3
  repeat' (first|refine run ⟨?_⟩|fail)
  exact rfl
 by_cases c4:k=4
 ·subst c4
  repeat' (first|refine run ⟨?_⟩|fail)
  exact rfl
 by_cases c5:k=5
 ·subst c5
  repeat' (first|refine run ⟨?_⟩|fail)
  exact rfl
 by_cases c7:k=7
 ·subst c7
  repeat' (first|refine run ⟨?_⟩|fail)
  exact rfl
 by_cases c14:k=14
 ·subst c14
  repeat' (first|refine run ⟨?_⟩|fail)
  exact rfl
 by_cases c15:k=15
 ·subst c15
  repeat' (first|refine run ⟨?_⟩|fail)
  exact rfl
 by_cases c16:k=16
 ·subst c16
  repeat' (first|refine run ⟨?_⟩|fail)
  exact rfl
 by_cases c6:k=6
 ·subst c6
  repeat' (first|refine run ⟨?_⟩|fail)
  exact rfl
 by_cases c21:k=21
 ·subst c21
  repeat' (first|refine run ⟨?_⟩|fail)
  exact rfl
 by_cases c23:k=23
 ·subst c23
  repeat' (first|refine run ⟨?_⟩|fail)
  exact rfl
 by_cases c38:k=38
 ·subst c38
  repeat' (first|refine run ⟨?_⟩|fail)
  exact rfl
 by_cases c24:k=24
 ·subst c24
  repeat' (first|refine run ⟨?_⟩|fail)
  exact rfl
 by_cases c25:k=25
 ·subst c25
  repeat' (first|refine run ⟨?_⟩|fail)
  exact rfl
 by_cases c37:k=37
 ·subst c37
  repeat' (first|refine run ⟨?_⟩|fail)
  exact rfl
 by_cases c34:k=34
 ·subst c34
  repeat' (first|refine run ⟨?_⟩|fail)
  exact rfl
 by_cases c35:k=35
 ·subst c35
  repeat' (first|refine run ⟨?_⟩|fail)
  exact rfl
 by_cases c22:k=22
 ·subst c22
  repeat' (first|refine run ⟨?_⟩|fail)
  exact rfl
 by_cases c36:k=36
 ·subst c36
  repeat' (first|refine run ⟨?_⟩|fail)
  exact rfl
 by_cases c41:k=41
 ·subst c41
  repeat' (first|refine run ⟨?_⟩|fail)
  exact rfl
 by_cases c39:k=39
 ·subst c39
  repeat' (first|refine run ⟨?_⟩|fail)
  exact rfl
 by_cases c40:k=40
 ·subst c40
  repeat' (first|refine run ⟨?_⟩|fail)
  exact rfl
 by_cases c42:k=42
 ·subst c42
  repeat' (first|refine run ⟨?_⟩|fail)
  exact rfl
 by_cases c44:k=44
 ·subst c44
  repeat' (first|refine run ⟨?_⟩|fail)
  exact rfl
 by_cases c43:k=43
 ·subst c43
  repeat' (first|refine run ⟨?_⟩|fail)
  exact rfl
 by_cases c45:k=45
 ·subst c45
  repeat' (first|refine run ⟨?_⟩|fail)
  exact rfl
 by_cases c46:k=46
 ·subst c46
  repeat' (first|refine run ⟨?_⟩|fail)
  exact rfl
 by_cases c47:k=47
 ·subst c47
  repeat' (first|refine run ⟨?_⟩|fail)
  exact rfl
 by_cases c54:k=54
 ·subst c54
  repeat' (first|refine run ⟨?_⟩|fail)
  exact rfl
 by_cases c20:k=20
 ·subst c20
  by_cases hv:v=1
  ·subst hv
   repeat' (first|refine run ⟨?_⟩|fail)
   exact rfl
  rw[show c8b 20 v=[42,115] by simp[c8b,b6m,shapeOf,hv]]
  repeat' (first|refine run ⟨?_⟩|fail)
  exact rfl
 have e0:c8b k v=[]:=by
  unfold c8b b6m
  simp only[c1,c2,c3,c4,c5,c7,c14,c15,c16,c6,c21,c23,c38,c24,c25,c37,c34,c35,c22,c36,c41,c39,c40,c42,c44,c43,c45,c46,c47,c54,c20,if_false,or_self]
  rfl
 rw[e0]
 repeat' (first|refine run ⟨?_⟩|fail)
 exact rfl
end
end Go.Vm.Itr
namespace Go.Vm.Itr
open Go.Vm.Ite
open Go.Vm.Tp
open Go.Vm.Lex (a7d)
section
variable {fx:Nat->Option Obj} {F:Nat->Option a0x} [HC F] (H:Hp)
theorem h3v (s:List UInt8) (c:UInt8):evF (pgL fx F) b3k [str s,u8 c] H=some (i64 (Lib.indexByte s c),H):=by
 rw[b9c (c4c (F:=F))]
 show some (V.d (D.int .i64 (Lib.indexByte s ((c.toNat:Int)).toNat.toUInt8)),H)=_
 simp
theorem h1i (s:List UInt8) (hs:s.length<=1048576):evF (pgL fx F) d4f [str s,str [58,58]] H=some (.tup [str (e1k s).1,str (e1k s).2.1,boo (e1k s).2.2],H):=by
 rw[b9c (f1g (F:=F))]
 exact if_pos om
theorem f3h (s:List UInt8):(e1k s).1.length<=s.length/\(e1k s).2.1.length<=s.length:=by
 unfold e1k Lib.cut
 split<;>simp<;>omega
theorem i3a {n:Nat} (h:n<=1048576):n<=maxLen:=by unfold maxLen;omega
theorem b9f (x:Nd) (hx:x.t.length<=1048576):evF (pgL fx F) d6g [ndV x] H=some (boo (nmB x.k x.t),H):=by
 obtain⟨k,t,v,kids,f,e⟩:=x
 simp only at hx⊢
 refine a1p (d6q (F:=F)) rfl rfl ?_ H
 by_cases hA:k=2\/k=3\/k=4\/k=5\/k=6\/k=7\/k=13\/k=21\/k=33\/k=34\/k=35\/k=36\/k=41\/k=51
 ·have e0:nmB k t=a7d t:=by unfold nmB;rw[if_pos hA]
  rw[e0]
  rcases hA with rfl|rfl|rfl|rfl|rfl|rfl|rfl|rfl|rfl|rfl|rfl|rfl|rfl|rfl
  all_goals
   repeat' (first|refine run ⟨?_⟩|refine ca (d7b _ _ (i3a hx)) ?_|fail)
   exact rfl
 have e1:nmB k t=if k=37\/k=54 then(e1k t).2.2 && a7d (e1k t).1 && a7d (e1k t).2.1 else if k=38 then decide (t∈a8a) else decide (t=[]):=by unfold nmB;exact if_neg hA
 rw[e1]
 clear e1
 simp only[not_or]at hA
 obtain⟨a2,a3,a4,a5,a6,a7,a13,a21,a33,a34,a35,a36,a41,a51⟩:=hA
 try refine a0h (decide_eq_false a2) ?_
 repeat' (first|refine run ⟨?_⟩|fail)
 try refine a0h (decide_eq_false a3) ?_
 repeat' (first|refine run ⟨?_⟩|fail)
 try refine a0h (decide_eq_false a4) ?_
 repeat' (first|refine run ⟨?_⟩|fail)
 try refine a0h (decide_eq_false a5) ?_
 repeat' (first|refine run ⟨?_⟩|fail)
 try refine a0h (decide_eq_false a6) ?_
 repeat' (first|refine run ⟨?_⟩|fail)
 try refine a0h (decide_eq_false a7) ?_
 repeat' (first|refine run ⟨?_⟩|fail)
 try refine a0h (decide_eq_false a13) ?_
 repeat' (first|refine run ⟨?_⟩|fail)
 try refine a0h (decide_eq_false a21) ?_
 repeat' (first|refine run ⟨?_⟩|fail)
 try refine a0h (decide_eq_false a33) ?_
 repeat' (first|refine run ⟨?_⟩|fail)
 try refine a0h (decide_eq_false a34) ?_
 repeat' (first|refine run ⟨?_⟩|fail)
 try refine a0h (decide_eq_false a35) ?_
 repeat' (first|refine run ⟨?_⟩|fail)
 try refine a0h (decide_eq_false a36) ?_
 repeat' (first|refine run ⟨?_⟩|fail)
 try refine a0h (decide_eq_false a41) ?_
 repeat' (first|refine run ⟨?_⟩|fail)
 try refine a0h (decide_eq_false a51) ?_
 repeat' (first|refine run ⟨?_⟩|fail)
 have hc:=f3h t
 by_cases hB:k=37\/k=54
 ·rw[if_pos hB]
  have st:k=37\/k=54->True:=fun _=>trivial
  rcases hB with rfl|rfl
  all_goals
   repeat' (first|refine run ⟨?_⟩|refine ca (h1i _ _ hx) ?_|fail)
   cases h1:(e1k t).2.2 with
   |false=>
    repeat' (first|refine run ⟨?_⟩|fail)
    exact rfl
   |true=>
    repeat' (first|refine run ⟨?_⟩|refine ca (d7b _ _ (i3a (Nat.le_trans hc.1 hx))) ?_|fail)
    cases h2:a7d (e1k t).1 with
    |false=>
     repeat' (first|refine run ⟨?_⟩|fail)
     exact rfl
    |true=>
     repeat' (first|refine run ⟨?_⟩|refine ca (d7b _ _ (i3a (Nat.le_trans hc.2 hx))) ?_|fail)
     exact rfl
 rw[if_neg hB]
 simp only[not_or]at hB
 try refine a0h (decide_eq_false hB.1) ?_
 repeat' (first|refine run ⟨?_⟩|fail)
 try refine a0h (decide_eq_false hB.2) ?_
 repeat' (first|refine run ⟨?_⟩|fail)
 by_cases hC:k=38
 ·subst hC
  repeat' (first|refine run ⟨?_⟩|refine ca (g4i _ _) ?_|fail)
  exact rfl
 rw[if_neg hC]
 try refine a0h (decide_eq_false hC) ?_
 repeat' (first|refine run ⟨?_⟩|fail)
 exact rfl
theorem d9u (x:Nd) (p:Int):evF (pgL fx F) e5j [ndV x,i64 p] H=some (boo (b6k x.k x.v p),H):=by
 have _u:=(inferInstance:HC F)
 obtain⟨k,t,v,kids,f,e⟩:=x
 simp only
 refine a1p (e3w (F:=F)) rfl rfl ?_ H
 by_cases h2:k=2
 ·subst h2
  repeat' (first|refine run ⟨?_⟩|fail)
  exact rfl
 try refine a0h (decide_eq_false h2) ?_
 repeat' (first|refine run ⟨?_⟩|fail)
 by_cases hA:k=7\/k=20\/k=21\/k=31\/k=53\/k=43
 ·have e0:b6k k v p=(decide (v=0)||decide (v=1)):=by unfold b6k;rw[if_neg h2,if_pos hA]
  rw[e0]
  rcases hA with rfl|rfl|rfl|rfl|rfl|rfl
  all_goals
   by_cases h0:v=0
   ·subst h0
    repeat' (first|refine run ⟨?_⟩|fail)
    exact rfl
   ·repeat' (first|refine run ⟨?_⟩|fail)
    try refine a3u (decide_eq_false h0) ?_
    repeat' (first|refine run ⟨?_⟩|fail)
    show _=_
    rw[decide_eq_false h0];rfl
 have e1:b6k k v p=(if k=30 then decide (0<=v) else if k=52 then decide (-9223372036854775808 < v) else decide (v=0)):=by unfold b6k;rw[if_neg h2,if_neg hA]
 rw[e1]
 simp only[not_or]at hA
 obtain⟨a1,a2,a3,a4,a5,a6⟩:=hA
 try refine a0h (decide_eq_false a1) ?_
 repeat' (first|refine run ⟨?_⟩|fail)
 try refine a0h (decide_eq_false a2) ?_
 repeat' (first|refine run ⟨?_⟩|fail)
 try refine a0h (decide_eq_false a3) ?_
 repeat' (first|refine run ⟨?_⟩|fail)
 try refine a0h (decide_eq_false a4) ?_
 repeat' (first|refine run ⟨?_⟩|fail)
 try refine a0h (decide_eq_false a5) ?_
 repeat' (first|refine run ⟨?_⟩|fail)
 try refine a0h (decide_eq_false a6) ?_
 repeat' (first|refine run ⟨?_⟩|fail)
 by_cases h30:k=30
 ·subst h30
  repeat' (first|refine run ⟨?_⟩|fail)
  exact rfl
 rw[if_neg h30]
 try refine a0h (decide_eq_false h30) ?_
 repeat' (first|refine run ⟨?_⟩|fail)
 by_cases h52:k=52
 ·subst h52
  repeat' (first|refine run ⟨?_⟩|fail)
  exact rfl
 rw[if_neg h52]
 try refine a0h (decide_eq_false h52) ?_
 repeat' (first|refine run ⟨?_⟩|fail)
 exact rfl
end
end Go.Vm.Itr
namespace Go.Vm.Itr
open Go.Vm.Ite
open Go.Vm.Tp
def okS (s:List UInt8):Bool:=s.all (fun c=> !decide (c=42)) && !decide (s.getLast? =some 63) && decide (s.length<=4)
theorem g0q {α:Type} {P:α->Prop} {c:Prop} [Decidable c] {a b:α} (ha:P a) (hb:P b):P (if c then a else b):=by split<;>assumption
def h0b (p:List UInt8×Option UInt8×List UInt8):Prop:=okS p.1=true/\okS p.2.2=true/\(p.2.1=none->p.2.2=[])
theorem e8n (k v:Int):h0b (b6m k v):=by
 unfold b6m
 repeat' refine g0q ?_ ?_
 all_goals exact⟨by decide,by decide,by decide⟩
theorem d0t {s:List UInt8} (h:okS s=true):∀ a,s≠a++[63]:=by
 rintro a rfl
 simp[okS]at h
theorem f1y {s:List UInt8} (h:okS s=true):s.length<=4:=by simp[okS]at h;exact h.2
theorem f9l {s:List UInt8} (h:okS s=true):42∉s:=by
 simp only[okS,Bool.and_eq_true]at h
 intro hm
 have:=List.all_eq_true.1 h.1.1 42 hm
 simp at this
theorem g9z {s:List UInt8} (h:42∉s):Lib.indexByte s 42= -1:=by
 induction s with
 |nil=>rfl
 |cons a r ih=>
  simp only[List.mem_cons,not_or]at h
  unfold Lib.indexByte
  rw[ih h.2,if_neg (by simpa using fun e:a=42=>h.1 e.symm)];rfl
theorem i0f (a r:List UInt8) (h:42∉a):Lib.indexByte (a++42::r) 42=a.length:=by
 induction a with
 |nil=>simp[Lib.indexByte]
 |cons b a ih=>
  simp only[List.mem_cons,not_or]at h
  rw[List.cons_append]
  unfold Lib.indexByte
  rw[ih h.2,if_neg (by simpa using fun e:b=42=>h.1 e.symm),if_neg (by simp)]
  simp
section
variable {fx:Nat->Option Obj} {F:Nat->Option a0x} [HC F] (H:Hp)
set_option maxHeartbeats 2000000 in
theorem g3t (x:Nd) (ks:List Int) (hk:ks.length<=1048576):evF (pgL fx F) d7v [ndV x,ints ks] H=some (boo (b2e x.k x.v ks),H):=by
 refine a1p (d8s (F:=F)) rfl rfl ?_ H
 have hsh:=fun H=>f7g (fx:=fx) (F:=F) H x
 obtain⟨o1,o2,o3⟩:=e8n x.k x.v
 unfold b2e
 unfold c8b at hsh
 generalize b6m x.k x.v=p at*
 obtain⟨a,m,b⟩:=p
 simp only at o1 o2 o3⊢
 refine ca (hsh _) ?_
 have hal:=f1y o1
 have hbl:=f1y o2
 cases m with
 |none=>
  have hb:=o3 rfl
  refine ca (h3v _ _ 42) ?_
  simp only[shapeOf]
  rw[g9z (f9l o1)]
  repeat' (first|refine run ⟨?_⟩|fail)
  refine ca (b4d _ a ks (Nat.le_refl _) (d0t o1) _) ?_
  exact rfl
 |some c=>
  simp only[shapeOf]
  refine ca (h3v _ _ 42) ?_
  rw[i0f _ _ (f9l o1)]
  refine a0h (decide_eq_false om) ?_
  have hsl:(a++42::c::b).length=a.length+b.length+2:=by simp;omega
  have hr:IntKind.i64.wrap (IntKind.i64.wrap (((a++42::c::b).length:Int) - (a.length:Int)) - 2)=(b.length:Int):=by
   rw[hsl,a1k (n:=((a.length+b.length+2:Nat):Int) - (a.length:Int)) om,a1k om];omega
  have hsum:IntKind.i64.wrap ((a.length:Int)+(b.length:Int))=((a.length+b.length:Nat):Int):=by rw[a1k om];omega
  by_cases hlt:ks.length < a.length+b.length
  ·refine a0j (decide_eq_true (by rw[hr,hsum,List.length_map];omega)) ?_
   show _=_
   rw[decide_eq_false (by omega:¬ a.length+b.length<=ks.length)];rfl
  refine a0h (decide_eq_false (by rw[hr,hsum,List.length_map];omega)) ?_
  rw[hr]
  have he:IntKind.i64.wrap (((ks.map (D.int .i64)).length:Int) - (b.length:Int))=((ks.length - b.length:Nat):Int):=by rw[List.length_map,a1k om];omega
  have e1:(a++42::c::b).take a.length=a:=by simp
  have e2:(a++42::c::b).drop (a.length+2)=b:=by rw[List.drop_append];simp
  rw[decide_eq_true (by omega:a.length+b.length<=ks.length),Bool.true_and]
  refine And.intro om ?_
  refine And.intro ⟨om,by simp⟩ ?_
  refine And.intro om ?_
  refine And.intro ⟨om,by simp;omega,rfl⟩ ?_
  rw[show List.drop 0 (List.take (Int.toNat (a.length:Int)) (a++42::c::b))=a from by simp,show List.drop 0 (List.take (Int.toNat (a.length:Int)) (ks.map (D.int .i64)))=(ks.take a.length).map (D.int .i64)from by simp]
  refine ca (b4d _ a (ks.take a.length) (Nat.le_refl _) (d0t o1) _) ?_
  repeat' (first|refine run ⟨?_⟩|fail)
  cases hk1:a5z a (ks.take a.length)with
  |false=>
   repeat' (first|refine run ⟨?_⟩|fail)
   show _=_
   simp[oneOf]
  |true=>
   repeat' (first|refine run ⟨?_⟩|fail)
   refine a0f (d:=c) ⟨by rw[a1k om];omega,by rw[a1k om];rw[show(Int.toNat ((a.length:Int)+1))=a.length+1 by omega];rw[List.getElem?_append_right om];simp⟩ ?_
   refine And.intro om ?_
   refine And.intro (by rw[he];omega) ?_
   refine And.intro ⟨by rw[he];omega,by rw[he,List.length_map];omega,by rw[d1o];rfl⟩ ?_
   rw[he]
   rw[show List.drop (Int.toNat (a.length:Int)) (List.take (Int.toNat ((ks.length - b.length:Nat):Int)) (ks.map (D.int .i64)))=((ks.take (ks.length - b.length)).drop a.length).map (D.int .i64)from by simp]
   refine ca (g8f _ ((ks.take (ks.length - b.length)).drop a.length) c (by simp;omega)) ?_
   repeat' (first|refine run ⟨?_⟩|fail)
   cases hk2:((ks.take (ks.length - b.length)).drop a.length).all (b3i c)with
   |false=>
    repeat' (first|refine run ⟨?_⟩|fail)
    show _=_
    simp[oneOf]
   |true=>
    repeat' (first|refine run ⟨?_⟩|fail)
    refine And.intro (by rw[a1k om];omega) ?_
    refine And.intro ⟨by rw[a1k om,hsl];omega,Nat.le_refl _⟩ ?_
    refine And.intro om ?_
    refine And.intro ⟨by simp,Nat.le_refl _,by rw[d1o];rfl⟩ ?_
    rw[a1k (n:=(a.length:Int)+2) om]
    rw[show List.drop (Int.toNat ((a.length:Int)+2)) (List.take (a++42::c::b).length (a++42::c::b))=b from by rw[List.take_length,show Int.toNat ((a.length:Int)+2)=a.length+2 by omega,e2]]
    rw[show List.drop (Int.toNat ((ks.length - b.length:Nat):Int)) (List.take (ks.map (D.int .i64)).length (ks.map (D.int .i64)))=(ks.drop (ks.length - b.length)).map (D.int .i64)from by rw[List.take_length];simp]
    refine ca (b4d _ b (ks.drop (ks.length - b.length)) (Nat.le_refl _) (d0t o2) _) ?_
    repeat' (first|refine run ⟨?_⟩|fail)
    show _=_
    simp[oneOf]
end
end Go.Vm.Itr
namespace Go.Vm.Itr
open Go.Vm.Ite
open Go.Vm.Tp
abbrev nd (t:List Nd) (i:Nat):Nd:=t.getD i default
theorem f9h {t:List Nd} {i:Nat} (h:i < t.length):t[i]? =some (nd t i):=by
 rw[List.getElem?_eq_getElem h];simp[nd,h]
theorem f8c {t:List Nd} {i:Nat} (h:i < t.length):nd t i∈t:=List.mem_of_getElem? (f9h h)
theorem g4p {t:List Nd} {i:Nat} (h:i < t.length):(t.map Nd.D)[i]? =some (nd t i).D:=by rw[List.getElem?_map,f9h h];rfl
theorem b8z {t:List Nd} {k:Int} (h0:0<=k) (h:k < t.length):0<=k/\(t.map Nd.D)[k.toNat]? =some (nd t k.toNat).D:=⟨h0,g4p om⟩
def b6e (i:Nat) (k:Int):Bool:=decide (0<=k) && decide (k < i)
theorem e4d {t:List Nd} {i:Nat} (h:(nd t i).kids.all (b6e i)=false):b0v t i=false:=by
 show((nd t i).kids.all (b6e i) && _)=false
 rw[h];rfl
theorem e4f {t:List Nd} {l:List Int} {j:Nat} (h:j < l.length):kinds t (l.take (j+1))=kinds t (l.take j)++[a9k t l[j]]:=by
 unfold kinds
 rw[List.take_add_one,List.getElem?_eq_getElem h,List.map_append];rfl
theorem d7r (ks:List Int) (k:Int):params (ks++[k])=params ks+(if k=7 then 1 else 0):=by
 unfold params
 rw[List.filter_append,List.length_append]
 by_cases h:k=7
 ·simp[h]
 ·simp[h]
theorem f0k (ks:List Int):0<=params ks/\params ks<=ks.length:=by
 unfold params
 have:=List.length_filter_le (fun k=>decide (k=7)) ks
 omega
section
variable {fx:Nat->Option Obj} {F:Nat->Option a0x} [HC F] (H:Hp)
set_option maxHeartbeats 4000000 in
theorem f5j (t:List Nd) (hf:b2u t) (i:Nat) (hi:i < t.length):evF (pgL fx F) d7o [.d (a6q t),i64 i] H=some (boo (b0v t i),H):=by
 refine a1p (d6v (F:=F)) rfl rfl ?_ H
 have htl:=hf.len
 obtain⟨x,hxe⟩:∃ x,x=nd t i:=⟨_,rfl⟩
 have hnb:b0v t i=(x.kids.all (b6e i) && (a5c x.k && nmB x.k x.t && b6k x.k x.v (params (kinds t x.kids)) && decide (0<=x.f) && decide (x.f<=x.e) && b2e x.k x.v (kinds t x.kids))):=by rw[hxe];rfl
 have hx:x∈t:=by rw[hxe];exact f8c hi
 refine a0f (d:=x.D) (by rw[hxe];exact b8z (k:=(i:Int)) om om) ?_
 refine And.intro rfl ?_
 rw[hnb]
 have hkl:=hf.kid x hx
 have htx:=hf.txt x hx
 clear hnb
 refine wp_loop (α:=Nat) (fun j=>x.kids.length - j) (fun j=>[(1,i64 i),(2,.ptr 0 0),(5,.ptr 1 0),(6,.row 2 j),(7,i64 (params (kinds t (x.kids.take j)))),(16,ints x.kids),(17,i64 (x.kids.map (D.int .i64)).length),(18,i64 j)])
   (fun j=>[.box [.d (.sl (t.map Nd.D))],.box [i64 x.k,str x.t,i64 x.v,ints x.kids,i64 x.f,i64 x.e],.row 1 ((kinds t (x.kids.take j)).map (D.int .i64))]) (fun j=>j<=x.kids.length/\(x.kids.take j).all (b6e i)=true) ?_ 0 ⟨om,by simp⟩
 rintro j ⟨hj,hall⟩
 refine And.intro (fun h=>?_) (fun h=>?_)
 ·replace h:=of_decide_eq_true h
  rw[List.length_map]at h
  have hlt:j < x.kids.length:=om
  refine a5u (s:=x.kids.map (D.int .i64)) (by rw[List.length_map];exact hlt) ?_
  rw[List.getElem_map]
  refine And.intro rfl ?_
  have bad:b6e i x.kids[j]=false->x.kids.all (b6e i)=false:=by
   intro hb
   cases hc:x.kids.all (b6e i)with
   |false=>rfl
   |true=>have:=List.all_eq_true.1 hc _ (List.getElem_mem hlt);rw[hb]at this;cases this
  by_cases k0:x.kids[j] < 0
  ·refine a4s (decide_eq_true k0) ?_
   repeat' (first|refine run ⟨?_⟩|fail)
   show _=_
   rw[bad (by unfold b6e;rw[decide_eq_false om];rfl)];rfl
  refine a3u (decide_eq_false k0) ?_
  by_cases k1:(i:Int)<=x.kids[j]
  ·refine a0j (decide_eq_true k1) ?_
   show _=_
   rw[bad (by unfold b6e;rw[decide_eq_false (by omega:¬ x.kids[j] < (i:Int)),Bool.and_false])];rfl
  refine a0h (decide_eq_false k1) ?_
  have hko:b6e i x.kids[j]=true:=by unfold b6e;rw[decide_eq_true om,decide_eq_true om];rfl
  refine a0f (d:=(nd t x.kids[j].toNat).D) (b8z om om) ?_
  refine And.intro rfl ?_
  have hkd:(nd t x.kids[j].toNat).k=a9k t x.kids[j]:=rfl
  have hkt:=e4f (t:=t) hlt
  have hlk:(kinds t (x.kids.take j)).length=j:=by simp[kinds];omega
  have hpl:=f0k (kinds t (x.kids.take j))
  have hps:=d7r (kinds t (x.kids.take j)) (a9k t x.kids[j])
  rw[<-hkt]at hps
  have hnext:(x.kids.take (j+1)).all (b6e i)=true:=e0t hlt hall hko
  refine And.intro ⟨rfl,by decide⟩ ?_
  refine And.intro ⟨rfl,by rw[List.length_map,hlk],by unfold roomy;simp;omega⟩ ?_
  refine a0f (d:=(nd t x.kids[j].toNat).D) (b8z om om) ?_
  refine And.intro rfl ?_
  rw[hkd]
  by_cases k7:a9k t x.kids[j]=7
  ·refine a0j (decide_eq_true k7) ?_
   rw[if_pos k7]at hps
   refine⟨j+1,⟨om,hnext⟩,om,?_,?_⟩
   ·rw[a1k (n:=params _+1) om,a1k om,hps];rfl
   ·rw[hkt,List.map_append];rfl
  ·refine a0h (decide_eq_false k7) ?_
   rw[if_neg k7]at hps
   refine⟨j+1,⟨om,hnext⟩,om,?_,?_⟩
   ·rw[a1k om,hps,Int.add_zero];rfl
   ·rw[hkt,List.map_append];rfl
 ·replace h:=of_decide_eq_false h
  rw[List.length_map]at h
  have hj':j=x.kids.length:=om
  subst hj'
  rw[List.take_length]at hall⊢
  rw[hall,Bool.true_and]
  clear hxe
  have hkl2:(kinds t x.kids).length=x.kids.length:=by simp[kinds]
  cases h1:a5c x.k with
  |true=>
   cases h2:nmB x.k x.t with
   |true=>
    cases h3:b6k x.k x.v (params (kinds t x.kids))with
    |true=>
     by_cases h4:0<=x.f
     ·skip
      by_cases h5:x.f<=x.e
      ·skip
       repeat' (first|refine run ⟨?_⟩|fail)
       try refine ca (b5h _ _) ?_
       repeat' (first|refine run ⟨?_⟩|fail)
       try first|refine a0j h1 ?_|refine b2t h1 ?_|refine a4s h1 ?_
       repeat' (first|refine run ⟨?_⟩|fail)
       try refine ca (b9f _ x htx) ?_
       repeat' (first|refine run ⟨?_⟩|fail)
       try first|refine a0j h2 ?_|refine b2t h2 ?_|refine a4s h2 ?_
       repeat' (first|refine run ⟨?_⟩|fail)
       try refine ca (d9u _ x _) ?_
       repeat' (first|refine run ⟨?_⟩|fail)
       try first|refine a0j h3 ?_|refine b2t h3 ?_|refine a4s h3 ?_
       repeat' (first|refine run ⟨?_⟩|fail)
       try first|refine a0j (decide_eq_true h4) ?_|refine b2t (decide_eq_true h4) ?_|refine a4s (decide_eq_true h4) ?_
       repeat' (first|refine run ⟨?_⟩|fail)
       try first|refine a0j (decide_eq_true h5) ?_|refine b2t (decide_eq_true h5) ?_|refine a4s (decide_eq_true h5) ?_
       repeat' (first|refine run ⟨?_⟩|fail)
       refine And.intro (by rw[List.length_map,hkl2]) ?_
       refine ca (g3t _ x (kinds t x.kids) om) ?_
       show _=_
       simp[oneOf, *]
      ·skip
       repeat' (first|refine run ⟨?_⟩|fail)
       try refine ca (b5h _ _) ?_
       repeat' (first|refine run ⟨?_⟩|fail)
       try first|refine a0j h1 ?_|refine b2t h1 ?_|refine a4s h1 ?_
       repeat' (first|refine run ⟨?_⟩|fail)
       try refine ca (b9f _ x htx) ?_
       repeat' (first|refine run ⟨?_⟩|fail)
       try first|refine a0j h2 ?_|refine b2t h2 ?_|refine a4s h2 ?_
       repeat' (first|refine run ⟨?_⟩|fail)
       try refine ca (d9u _ x _) ?_
       repeat' (first|refine run ⟨?_⟩|fail)
       try first|refine a0j h3 ?_|refine b2t h3 ?_|refine a4s h3 ?_
       repeat' (first|refine run ⟨?_⟩|fail)
       try first|refine a0j (decide_eq_true h4) ?_|refine b2t (decide_eq_true h4) ?_|refine a4s (decide_eq_true h4) ?_
       repeat' (first|refine run ⟨?_⟩|fail)
       try first|refine a0h (decide_eq_false h5) ?_|refine a7x (decide_eq_false h5) ?_|refine a3u (decide_eq_false h5) ?_
       repeat' (first|refine run ⟨?_⟩|fail)
       show _=_
       simp[oneOf, *]
     ·skip
      repeat' (first|refine run ⟨?_⟩|fail)
      try refine ca (b5h _ _) ?_
      repeat' (first|refine run ⟨?_⟩|fail)
      try first|refine a0j h1 ?_|refine b2t h1 ?_|refine a4s h1 ?_
      repeat' (first|refine run ⟨?_⟩|fail)
      try refine ca (b9f _ x htx) ?_
      repeat' (first|refine run ⟨?_⟩|fail)
      try first|refine a0j h2 ?_|refine b2t h2 ?_|refine a4s h2 ?_
      repeat' (first|refine run ⟨?_⟩|fail)
      try refine ca (d9u _ x _) ?_
      repeat' (first|refine run ⟨?_⟩|fail)
      try first|refine a0j h3 ?_|refine b2t h3 ?_|refine a4s h3 ?_
      repeat' (first|refine run ⟨?_⟩|fail)
      try first|refine a0h (decide_eq_false h4) ?_|refine a7x (decide_eq_false h4) ?_|refine a3u (decide_eq_false h4) ?_
      repeat' (first|refine run ⟨?_⟩|fail)
      show _=_
      simp[oneOf, *]
    |false=>
     repeat' (first|refine run ⟨?_⟩|fail)
     try refine ca (b5h _ _) ?_
     repeat' (first|refine run ⟨?_⟩|fail)
     try first|refine a0j h1 ?_|refine b2t h1 ?_|refine a4s h1 ?_
     repeat' (first|refine run ⟨?_⟩|fail)
     try refine ca (b9f _ x htx) ?_
     repeat' (first|refine run ⟨?_⟩|fail)
     try first|refine a0j h2 ?_|refine b2t h2 ?_|refine a4s h2 ?_
     repeat' (first|refine run ⟨?_⟩|fail)
     try refine ca (d9u _ x _) ?_
     repeat' (first|refine run ⟨?_⟩|fail)
     try first|refine a0h h3 ?_|refine a7x h3 ?_|refine a3u h3 ?_
     repeat' (first|refine run ⟨?_⟩|fail)
     show _=_
     simp[oneOf, *]
   |false=>
    repeat' (first|refine run ⟨?_⟩|fail)
    try refine ca (b5h _ _) ?_
    repeat' (first|refine run ⟨?_⟩|fail)
    try first|refine a0j h1 ?_|refine b2t h1 ?_|refine a4s h1 ?_
    repeat' (first|refine run ⟨?_⟩|fail)
    try refine ca (b9f _ x htx) ?_
    repeat' (first|refine run ⟨?_⟩|fail)
    try first|refine a0h h2 ?_|refine a7x h2 ?_|refine a3u h2 ?_
    repeat' (first|refine run ⟨?_⟩|fail)
    show _=_
    simp[oneOf, *]
  |false=>
   repeat' (first|refine run ⟨?_⟩|fail)
   try refine ca (b5h _ _) ?_
   repeat' (first|refine run ⟨?_⟩|fail)
   try first|refine a0h h1 ?_|refine a7x h1 ?_|refine a3u h1 ?_
   repeat' (first|refine run ⟨?_⟩|fail)
   show _=_
   simp[oneOf, *]
end
end Go.Vm.Itr
namespace Go.Vm.Tp
def a2m (i:Nat):List Int->List Int->Option (List Int)
 |[],out=>some out
 |k::r,out=>if 0<=out.getD k.toNat 0 then none else a2m i r (out.set k.toNat i)
def a5y:Nat->List Nd->List Int->Option (List Int)
 |_,[],out=>some out
 |i,x::r,out=>(a2m i x.kids out).bind (a5y (i+1) r)
def ups (t:List Nd):Option (List Int):=a5y 0 t (List.replicate t.length (-1))
def c9m (up:List Int):Nat->List Int->List Int
 |0,out=>out
 |n+1,out=>c9m up n (if 0<=up.getD n (-1) then out.set n (out.getD (up.getD n 0).toNat 0+1) else out)
def deps (up:List Int):List Int:=c9m up up.length (List.replicate up.length 0)
def d9d:List Int->Int
 |[]=>0
 |a::r=>r.foldl max a
def f2r (t:List Nd):Bool:=match ups t with
 |none=>false
 |some up=>(decide (up=[])|| !up.dropLast.contains (-1)) && decide (d9d (deps up)<=400)
def a1l (t:List Nd):Bool:=decide (1<=t.length) && decide (t.length<=20000) && decide ((t.getD (t.length - 1) default).k=1) && (List.range t.length).all (b0v t) && f2r t
def errT:Bool->Int
 |true=>0
 |false=>3
theorem c7z (i:Nat):∀ (ks out r:List Int),a2m i ks out=some r->r.length=out.length
 |[],out,r,h=>by cases h;rfl
 |k::ks,out,r,h=>by
  simp only[a2m]at h
  split at h
  ·cases h
  ·rw[c7z i ks _ r h,List.length_set]
theorem d4q:∀ (i:Nat) (t:List Nd) (out r:List Int),a5y i t out=some r->r.length=out.length
 |i,[],out,r,h=>by cases h;rfl
 |i,x::t,out,r,h=>by
  simp only[a5y]at h
  obtain⟨o,h1,h2⟩:=Option.bind_eq_some_iff.1 h
  rw[d4q (i+1) t o r h2,c7z i _ _ _ h1]
theorem c7j (i:Nat) (P:Nat->Int->Prop) (hP:∀ j,P j i):∀ (ks out r:List Int),a2m i ks out=some r->(∀ (j:Nat) (v:Int),out[j]? =some v->P j v)->∀ (j:Nat) (v:Int),r[j]? =some v->P j v
 |[],out,r,h,h0=>by cases h;exact h0
 |k::ks,out,r,h,h0=>by
  simp only[a2m]at h
  split at h
  ·cases h
  ·refine c7j i P hP ks _ r h fun j v hv=>?_
   rw[List.getElem?_set]at hv
   split at hv
   ·split at hv
    ·cases hv;exact hP j
    ·cases hv
   ·exact h0 j v hv
theorem d4h (n:Nat):∀ (i:Nat) (t:List Nd) (out r:List Int),a5y i t out=some r->i+t.length<=n->(∀ (j:Nat) (v:Int),out[j]? =some v-> -1<=v/\v < n)->∀ (j:Nat) (v:Int),r[j]? =some v-> -1<=v/\v < n
 |i,[],out,r,h,_,h0=>by cases h;exact h0
 |i,x::t,out,r,h,hn,h0=>by
  simp only[a5y]at h
  obtain⟨o,h1,h2⟩:=Option.bind_eq_some_iff.1 h
  simp only[List.length_cons]at hn
  exact d4h n (i+1) t o r h2 om (c7j i (fun _ v=> -1<=v/\v < n) (fun _=>om) _ _ _ h1 h0)
theorem c3t {t:List Nd} {up:List Int} (h:ups t=some up):up.length=t.length/\∀ (j:Nat) (v:Int),up[j]? =some v-> -1<=v/\v < t.length:=by
 refine⟨by rw[d4q _ _ _ _ h,List.length_replicate],d4h t.length 0 t _ up h om fun j v hv=>?_⟩
 rw[List.getElem?_replicate]at hv
 split at hv
 ·cases hv;omega
 ·cases hv
theorem c5t (up:List Int):∀ (n:Nat) (out:List Int),(c9m up n out).length=out.length
 |0,out=>rfl
 |n+1,out=>by
  simp only[c9m]
  rw[c5t up n]
  split<;>simp
end Go.Vm.Tp
namespace Go.Vm.Itr
open Go.Vm.Ite
open Go.Vm.Tp
def f7x (t:List Nd):Prop:=∀ i,i < t.length->(nd t i).kids.all (b6e i)=true
abbrev d4a (l:List Int):List V:=l.map fun n=>i64 n
theorem f5n {l:List Int} {i:Nat} (h:i < l.length):(d4a l)[i]? =some (i64 (l.getD i 0)):=by
 rw[List.getElem?_map,List.getElem?_eq_getElem h];simp[h]
theorem c6h {l:List Int} {i:Nat} (h:i < l.length):(d4a l)[0+i*1]? =some (i64 (l.getD i 0)):=by rw[Nat.zero_add,Nat.mul_one];exact f5n h
theorem d3p (l:List Int):b4x (d4a l)=some (l.map (D.int .i64)):=by
 induction l with
 |nil=>rfl
 |cons a l ih=>rw[show d4a (a::l)=i64 a::d4a l from rfl,b4x,ih];rfl
theorem c2x {l:List Int} {i:Nat} (h:i < l.length) (n:Int):putAt (d4a l) i [i64 n]=d4a (l.set i n):=e8q (fun n=>i64 n) h
theorem e1g {α:Type} {l:List α} {i:Nat} (h:i < l.length) (d:α):l[i]? =some (l.getD i d):=by rw[List.getD_eq_getElem?_getD,List.getElem?_eq_getElem h];rfl
theorem g4d {l:List Int} {i:Nat} (h:i < l.length) (a b:Int):l.getD i a=l.getD i b:=by simp[h]
section
variable {fx:Nat->Option Obj} {F:Nat->Option a0x} [HC F] (H:Hp)
theorem f6e (l:List Int) (v:Int) (hl:l.length<=1048576):evF (pgL fx F) b2z [ints l,i64 v] H=some (i64 (if l.contains v then((l.idxOf v:Nat):Int) else -1),H):=by
 have _u:=(inferInstance:HC F)
 refine a1p (b3e (F:=F)) rfl rfl ?_ H
 refine wp_loop (α:=Nat) (fun i=>l.length - i) (fun i=>[(0,ints l),(1,i64 v),(7,i64 (l.map (D.int .i64)).length),(8,i64 i)]) (fun _=>[]) (fun i=>i<=l.length/\∀ k∈l.take i,k≠v) ?_ 0 ⟨om,by simp⟩
 rintro i ⟨hi,hall⟩
 refine And.intro (fun h=>?_) (fun h=>?_)
 ·replace h:=of_decide_eq_true h
  rw[List.length_map]at h
  have hlt:i < l.length:=om
  refine a5u (s:=l.map (D.int .i64)) (by rw[List.length_map];exact hlt) ?_
  rw[List.getElem_map]
  refine And.intro rfl ?_
  by_cases hk:v=l[i]
  ·refine a0j (decide_eq_true hk) ?_
   show _=_
   have hc:l.contains v=true:=by rw[List.contains_iff_mem,hk];exact List.getElem_mem _
   have hx:l.idxOf v=i:=by
    unfold List.idxOf
    rw[List.findIdx_eq hlt]
    refine⟨by simp[hk],fun j hj=>?_⟩
    have:l[j]∈l.take i:=by rw[List.mem_take_iff_getElem];exact⟨j,om,rfl⟩
    simpa using hall _ this
   rw[hc,hx];rfl
  ·refine a0h (decide_eq_false hk) ?_
   refine⟨i+1,⟨om,?_⟩,om,?_,rfl⟩
   ·intro k hkm
    rw[List.take_add_one,List.getElem?_eq_getElem hlt,List.mem_append]at hkm
    rcases hkm with hkm|hkm
    ·exact hall k hkm
    ·simp at hkm;rw[hkm];exact fun e=>hk e.symm
   ·rw[a1k om];rfl
 ·replace h:=of_decide_eq_false h
  rw[List.length_map]at h
  have hi':i=l.length:=om
  subst hi'
  rw[List.take_length]at hall
  show _=_
  have hc:l.contains v=false:=by
   cases hb:l.contains v with
   |false=>rfl
   |true=>rw[List.contains_iff_mem]at hb;exact absurd rfl (hall v hb)
  rw[hc];rfl
theorem d9a (l:List Int) (v:Int) (hl:l.length<=1048576):evF (pgL fx F) b0w [ints l,i64 v] H=some (boo (l.contains v),H):=by
 refine a1p (b0t (F:=F)) rfl rfl ?_ H
 refine ca (f6e _ l v hl) ?_
 show V.d (.bool (decide ((0:Int)<=if l.contains v then((l.idxOf v:Nat):Int) else -1)))=_
 cases l.contains v with
 |true=>rw[if_pos rfl,decide_eq_true om]
 |false=>rfl
set_option maxHeartbeats 4000000 in
theorem e4k (t:List Nd) (hf:b2u t) (hk:f7x t):evF (pgL fx F) c7b [.d (a6q t)] H=some (match ups t with|none=> .tup [.d (.sl []),boo false]|some up=> .tup [ints up,boo (decide (up=[])|| !up.dropLast.contains (-1))],H):=by
  refine a1p (c7a (F:=F)) rfl rfl ?_ H
  have htl:=hf.len
  have hnl:(t.map Nd.D).length=t.length:=List.length_map ..
  refine And.intro ⟨om,by unfold roomy;omega⟩ ?_
  refine e2u rfl ?_
  refine b5f (α:=Nat) (fun i=>t.length - i) (fun i=>[(1,.ptr 0 0),(4,.arr 1 0 t.length),(15,i64 t.length),(16,i64 i)])
    (fun i=>[.box [.d (.sl (t.map Nd.D))],.box (d4a (List.replicate i (-1)++List.replicate (t.length - i) 0))]) (fun i=>i<=t.length) ?_ 0 om ?_ ?_
  ·intro i hi
   refine And.intro (fun h=>?_) (fun h=>?_)
   ·replace h:=of_decide_eq_true h
    have hlt:i < t.length:=om
    refine And.intro ⟨om,om⟩ ?_
    refine f9t (by simp;omega) ?_
    refine⟨i+1,om,om,?_,?_⟩
    ·rw[a1k om];rfl
    ·have e:(List.replicate i (-1:Int)++List.replicate (t.length - i) 0).set i (-1)=List.replicate (i+1) (-1)++List.replicate (t.length - (i+1)) 0:=by
      rw[List.set_append_right _ _ (by simp),List.length_replicate,Nat.sub_self,show t.length - i=(t.length - (i+1))+1 by omega,List.replicate_succ,List.set_cons_zero,List.replicate_succ',List.append_assoc];rfl
     have e2:=c2x (l:=List.replicate i (-1:Int)++List.replicate (t.length - i) 0) (i:=i) (by simp;omega) (-1)
     rw[e]at e2
     show[_,Ob.box (putAt _ (0+i*1) _)]=_
     rw[Nat.zero_add,Nat.mul_one,e2]
   ·replace h:=of_decide_eq_false h
    have hi':i=t.length:=om
    subst hi'
    rw[Nat.sub_self,List.replicate_zero,List.append_nil]
    refine b5f (α:=Nat×List Int) (fun a=>t.length - a.1) (fun a=>[(4,.arr 1 0 t.length),(24,.d (.sl (t.map Nd.D))),(25,i64 t.length),(26,i64 a.1)])
      (fun a=>[.box [.d (.sl (t.map Nd.D))],.box (d4a a.2)]) (fun a=>a.1<=t.length/\a.2.length=t.length/\a5y a.1 (t.drop a.1) a.2=ups t) ?_ (0,List.replicate t.length (-1)) ⟨om,by simp,rfl⟩ ?_ ?_
    ·rintro⟨i,out⟩ ⟨hi,hol,hup⟩
     simp only at hi hol hup⊢
     refine And.intro (fun h=>?_) (fun h=>?_)
     ·replace h:=of_decide_eq_true h
      have hlt:i < t.length:=om
      obtain⟨x,hxe⟩:∃ x,x=nd t i:=⟨_,rfl⟩
      have hx:x∈t:=by rw[hxe];exact f8c hlt
      have hkl:=hf.kid x hx
      have hko:x.kids.all (b6e i)=true:=by rw[hxe];exact hk i hlt
      have hdr:t.drop i=x::t.drop (i+1):=by rw[hxe,List.drop_eq_getElem_cons hlt];congr 1;simp[nd,hlt]
      rw[hdr]at hup
      simp only[a5y]at hup
      refine a0f (d:=x.D) (by rw[hxe];exact b8z (k:=(i:Int)) om om) ?_
      refine And.intro rfl ?_
      refine b5f (α:=Nat×List Int) (fun a=>x.kids.length - a.1) (fun a=>[(4,.arr 1 0 t.length),(6,i64 i),(24,.d (.sl (t.map Nd.D))),(25,i64 t.length),(26,i64 i),(32,ints x.kids),(33,i64 x.kids.length),(34,i64 a.1)])
        (fun a=>[.box [.d (.sl (t.map Nd.D))],.box (d4a a.2),.box [i64 x.k,str x.t,i64 x.v,ints x.kids,i64 x.f,i64 x.e]]) (fun a=>a.1<=x.kids.length/\a.2.length=t.length/\a2m i (x.kids.drop a.1) a.2=a2m i x.kids out) ?_ (0,out) ⟨om,hol,rfl⟩ ?_ ?_
      ·rintro⟨j,o⟩ ⟨hj,hoj,hupj⟩
       simp only at hj hoj hupj⊢
       refine And.intro (fun h=>?_) (fun h=>?_)
       ·replace h:=of_decide_eq_true h
        have hjl:j < x.kids.length:=om
        have hkj:=List.all_eq_true.1 hko _ (List.getElem_mem hjl)
        simp only[b6e,Bool.and_eq_true,decide_eq_true_eq]at hkj
        rw[List.drop_eq_getElem_cons hjl]at hupj
        simp only[a2m]at hupj
        refine a5u (s:=x.kids.map (D.int .i64)) (by rw[List.length_map];exact hjl) ?_
        rw[List.getElem_map]
        refine And.intro rfl ?_
        have hkn:x.kids[j].toNat < o.length:=om
        refine And.intro ⟨om,om⟩ ?_
        refine c1b (c6h hkn) ?_
        by_cases hc:0<=o.getD x.kids[j].toNat 0
        ·refine a0j (decide_eq_true hc) ?_
         rw[if_pos hc]at hupj
         rw[<-hupj]at hup
         show _=_
         rw[<-hup];rfl
        ·refine a0h (decide_eq_false hc) ?_
         rw[if_neg hc]at hupj
         refine And.intro ⟨om,om⟩ ?_
         refine f9t (by simp;omega) ?_
         refine⟨(j+1,o.set x.kids[j].toNat i),⟨by show j+1<=_;omega,by simp[hoj],hupj⟩,by show _ - (j+1) < _ - j;omega,?_,?_⟩
         ·rw[a1k om];rfl
         ·show[_,Ob.box (putAt _ (0+_*1) _),_]=_
          rw[Nat.zero_add,Nat.mul_one,c2x hkn]
       ·replace h:=of_decide_eq_false h
        have hj':j=x.kids.length:=om
        subst hj'
        rw[List.drop_length]at hupj
        simp only[a2m]at hupj
        rw[<-hupj]at hup
        refine⟨(i+1,o),⟨by show i+1<=_;omega,hoj,hup⟩,by show _ - (i+1) < _ - i;omega,?_,rfl⟩
        rw[a1k om];rfl
      ·rw[List.length_map];rfl
      ·rfl
     ·replace h:=of_decide_eq_false h
      have hi':i=t.length:=om
      subst hi'
      rw[List.drop_length]at hup
      simp only[a5y]at hup
      rw[<-hup]
      refine fz (d3p out) ?_
      have hdl:(out.map (D.int .i64)).length=t.length:=by rw[List.length_map,hol]
      have hds:List.take t.length (List.drop 0 (out.map (D.int .i64)))=out.map (D.int .i64):=by rw[List.drop_zero,<-hdl,List.take_length]
      by_cases h0:(t.length:Int)=0
      ·refine a4s (decide_eq_true h0) ?_
       repeat' (first|refine run ⟨?_⟩|fail)
       refine And.intro om ?_
       show _=_
       have ho:out=[]:=List.eq_nil_of_length_eq_zero om
       subst ho
       rw[hds];rfl
      ·refine a3u (decide_eq_false h0) ?_
       refine And.intro om ?_
       refine And.intro (by rw[a1k om];omega) ?_
       refine And.intro ⟨om,by rw[a1k om,hds,hdl];omega,rfl⟩ ?_
       rw[show List.drop 0 (List.take (Int.toNat (IntKind.i64.wrap ((t.length:Int) - 1))) (List.take t.length (List.drop 0 (out.map (D.int .i64)))))=out.dropLast.map (D.int .i64)from by rw[hds,List.drop_zero,a1k om,List.dropLast_eq_take,List.map_take,hol];congr 1;omega]
       refine ca (d9a _ out.dropLast (-1) (by rw[List.length_dropLast];omega)) ?_
       repeat' (first|refine run ⟨?_⟩|fail)
       refine And.intro om ?_
       show _=_
       rw[hds]
       have ho:out≠[]:=fun e=>by rw[e]at hol;simp at hol;omega
       show V.tup [V.d (D.sl (List.map (D.int IntKind.i64) out)),V.d (D.bool !out.dropLast.contains (-1))]=V.tup [ints out,boo (decide (out=[])|| !out.dropLast.contains (-1))]
       rw[decide_eq_false ho];rfl
    ·rw[hnl];rfl
    ·rfl
  ·rw[hnl];rfl
  ·simp[hnl]
set_option maxHeartbeats 4000000 in
theorem e6m (up:List Int) (hl:up.length<=1048576) (hu:∀ (j:Nat) (v:Int),up[j]? =some v-> -1<=v/\v < up.length):evF (pgL fx F) d1g [ints up] H=some (ints (deps up),H):=by
 have _u:=(inferInstance:HC F)
 refine a1p (d1p (F:=F)) rfl rfl ?_ H
 have hnl:(up.map (D.int .i64)).length=up.length:=List.length_map ..
 refine And.intro ⟨om,by unfold roomy;omega⟩ ?_
 refine e2u rfl ?_
 refine b5f (α:=Nat×List Int) (fun a=>a.1) (fun a=>[(0,ints up),(3,.arr 0 0 up.length),(4,i64 ((a.1:Int) - 1))]) (fun a=>[.box (d4a a.2)])
   (fun a=>a.1<=up.length/\a.2.length=up.length/\c9m up a.1 a.2=deps up/\∀ (j:Nat) (v:Int),a.2[j]? =some v->0<=v/\v<=1048576 - a.1) ?_ (up.length,List.replicate up.length 0) ⟨om,by simp,rfl,fun j v hv=>by
     rw[List.getElem?_replicate]at hv
     split at hv
     ·cases hv;omega
     ·cases hv⟩ ?_ ?_
 ·rintro⟨n,out⟩ ⟨hn,hol,hdp,hbd⟩
  simp only at hn hol hdp hbd⊢
  cases n with
  |zero=>
   refine a0h (decide_eq_false om) ?_
   simp only[c9m]at hdp
   refine fz (d3p out) ?_
   refine And.intro (by rw[List.length_map];omega) ?_
   show _=_
   rw[<-hdp,List.drop_zero,<-hol,<-List.length_map (D.int .i64),List.take_length];rfl
  |succ i=>
   refine a0j (decide_eq_true om) ?_
   simp only[c9m]at hdp
   have hi:i < up.length:=om
   have e0:((((i+1:Nat):Int)) - 1)=(i:Int):=om
   rw[e0]
   have hg:(up.map (D.int .i64))[i]? =some (.int .i64 (up.getD i 0)):=by rw[List.getElem?_map,List.getElem?_eq_getElem hi];simp[hi]
   have hui:=hu i (up.getD i 0) (e1g hi 0)
   rw[g4d hi (-1) 0]at hdp
   refine a0f (d:= .int .i64 (up.getD i 0)) ⟨om,hg⟩ ?_
   refine And.intro rfl ?_
   by_cases hc:0<=up.getD i 0
   ·refine a0j (decide_eq_true hc) ?_
    rw[if_pos hc]at hdp
    refine a0f (d:= .int .i64 (up.getD i 0)) ⟨om,hg⟩ ?_
    refine And.intro rfl ?_
    have hk:(up.getD i 0).toNat < out.length:=om
    have hbv:=hbd _ _ (e1g hk 0)
    refine And.intro ⟨om,om⟩ ?_
    refine c1b (c6h hk) ?_
    refine And.intro ⟨om,om⟩ ?_
    refine f9t (by simp;omega) ?_
    refine⟨(i,out.set i (out.getD (up.getD i 0).toNat 0+1)),⟨by show i<=_;omega,by simp[hol],hdp,fun j v hv=>?_⟩,by show i < i+1;omega,?_,?_⟩
    ·simp only at hv
     rw[List.getElem?_set]at hv
     split at hv
     ·split at hv
      ·cases hv;omega
      ·cases hv
     ·have:=hbd _ _ hv;omega
    ·rw[a1k (n:=(i:Int) - 1) om]
    ·show[Ob.box (putAt _ (0+i*1) _)]=_
     rw[Nat.zero_add,Nat.mul_one,a1k om,c2x om]
   ·refine a0h (decide_eq_false hc) ?_
    rw[if_neg hc]at hdp
    refine⟨(i,out),⟨by show i<=_;omega,hol,hdp,fun j v hv=>by have:=hbd _ _ hv;omega⟩,by show i < i+1;omega,?_,rfl⟩
    rw[a1k (n:=(i:Int) - 1) om]
 ·rw[hnl,a1k om];rfl
 ·simp[hnl]
theorem e8d (a:Int):∀ (r:List Int) (i:Nat),i < r.length->d9d (a::r.take (i+1))=max (d9d (a::r.take i)) (r.getD i 0):=by
 intro r i h
 unfold d9d
 simp only
 rw[List.take_add_one,List.getElem?_eq_getElem h,List.foldl_append]
 simp[h]
theorem g8b (a:Int) (r:List Int) (hl:r.length < 1048576):evF (pgL fx F) b5p [ints (a::r)] H=some (i64 (d9d (a::r)),H):=by
 have _u:=(inferInstance:HC F)
 refine a1p (b6h (F:=F)) rfl rfl ?_ H
 refine a0h (decide_eq_false (by simp only[List.length_map,List.length_cons];omega)) ?_
 refine a0f (d:= .int .i64 a) ⟨Int.le_refl _,rfl⟩ ?_
 refine And.intro rfl ?_
 refine b5f (α:=Nat) (fun i=>r.length - i) (fun i=>[(0,ints (a::r)),(3,i64 (d9d (a::r.take i))),(4,i64 ((i:Int)+1))]) (fun _=>[]) (fun i=>i<=r.length) ?_ 0 om ?_ rfl
 ·intro i hi
  refine And.intro (fun h=>?_) (fun h=>?_)
  ·replace h:=of_decide_eq_true h
   rw[List.length_map,List.length_cons]at h
   have hlt:i < r.length:=om
   refine a0f (d:= .int .i64 (r.getD i 0)) ⟨om,by rw[show Int.toNat ((i:Int)+1)=i+1 by omega,List.map_cons,List.getElem?_cons_succ,List.getElem?_map,List.getElem?_eq_getElem hlt];simp[hlt]⟩ ?_
   refine And.intro rfl ?_
   refine⟨i+1,om,om,?_,rfl⟩
   rw[e8d a r i hlt,a1k om];rfl
  ·replace h:=of_decide_eq_false h
   rw[List.length_map,List.length_cons]at h
   have hi':i=r.length:=om
   subst hi'
   rw[List.take_length]
   exact rfl
 ·simp[d9d]
end
end Go.Vm.Itr
namespace Go.Vm.Itr
open Go.Vm.Ite
open Go.Vm.Tp
def d4r (i:Nat):List Int->List Int->List Int
 |[],tb=>tb
 |k::r,tb=>d4r i r (tb.set k.toNat (IntKind.i64.wrap (tb.getD i 0+1)))
def d3f (t:List Nd):Nat->List Int->Int->Int
 |0,_,m=>m
 |i+1,tb,m=>d3f t i (d4r i (t.getD i default).kids tb) (if m < (d4r i (t.getD i default).kids tb).getD i 0 then(d4r i (t.getD i default).kids tb).getD i 0 else m)
def f4c (t:List Nd):Int:=d3f t t.length (List.replicate t.length 0) 0
section
variable {fx:Nat->Option Obj} {F:Nat->Option a0x} (H:Hp)
set_option maxHeartbeats 4000000 in
theorem e3r (t:List Nd) (hl:t.length<=1048576) (hkl:∀ x∈t,x.kids.length<=1048576) (hk:∀ x∈t,∀ k∈x.kids,0<=k/\k.toNat < t.length):evF (pgL fx F) c5i [.d (a6q t)] H=some (i64 (f4c t),H):=by
 refine a5v (c4v (F:=F)) rfl rfl ?_ H
 have hnl:(t.map Nd.D).length=t.length:=List.length_map ..
 have hmsl:0<=((t.map Nd.D).length:Int)/\roomy ((t.map Nd.D).length:Int).toNat 8:=⟨om,by unfold roomy;omega⟩
 repeat' (first|refine run ⟨?_⟩|refine And.intro hmsl ?_|fail)
 refine a0o (α:=Nat×List Int×Int) (fun a=>a.1) (fun a=>[(1,.ptr 0 0),(3,.arr 1 0 t.length),(4,i64 a.2.2),(5,i64 ((a.1:Int) - 1))]) (fun a=>[.box [.d (.sl (t.map Nd.D))],.box (d4a a.2.1)])
   (fun a=>a.1<=t.length/\a.2.1.length=t.length/\d3f t a.1 a.2.1 a.2.2=f4c t) ?_ (t.length,List.replicate t.length 0,0) ⟨Nat.le_refl _,by simp,rfl⟩ ?_ ?_
 ·rintro⟨n,tb,m⟩ ⟨hn,htl,hd⟩
  simp only at hn htl hd⊢
  cases n with
  |zero=>
   have h':¬ (0:Int)<=((0:Nat):Int) - 1:=om
   simp only[d3f]at hd
   rw[<-hd]
   refine run ⟨?_⟩
   exact rfl
  |succ i=>
   have e0:((((i+1:Nat):Int)) - 1)=(i:Int):=om
   rw[e0]
   have h':(0:Int)<=(i:Int):=om
   simp only[d3f]at hd
   have hx:t.getD i default∈t:=by
    rw[List.getD_eq_getElem?_getD,List.getElem?_eq_getElem (by omega:i < t.length)];exact List.getElem_mem _
   generalize hxe:t.getD i default=x at hx hd
   have pn:0<=(i:Int)/\(t.map Nd.D)[(i:Int).toNat]? =some x.D:=⟨h',by
     rw[Int.toNat_natCast,List.getElem?_map,List.getElem?_eq_getElem (by omega:i < t.length),<-hxe]
     simp[List.getD_eq_getElem?_getD,List.getElem?_eq_getElem (by omega:i < t.length)]⟩
   have hkn:(x.kids.map (D.int .i64)).length=x.kids.length:=List.length_map ..
   have hxk:=hkl x hx
   repeat' (first|refine run ⟨?_⟩|refine a0f pn ?_|fail)
   refine a0o (α:=Nat×List Int) (fun a=>x.kids.length - a.1) (fun a=>[(1,.ptr 0 0),(3,.arr 1 0 t.length),(4,i64 m),(5,i64 i),(25,.d (.sl (x.kids.map (D.int .i64)))),(26,i64 x.kids.length),(27,i64 a.1)]) (fun a=>[.box [.d (.sl (t.map Nd.D))],.box (d4a a.2)])
     (fun a=>a.1<=x.kids.length/\a.2.length=t.length/\d4r i (x.kids.drop a.1) a.2=d4r i x.kids tb) ?_ (0,tb) ⟨Nat.zero_le _,htl,by rw[List.drop_zero]⟩ ?_ rfl
   ·rintro⟨j,tc⟩ ⟨hj,htc,hkd⟩
    simp only at hj htc hkd⊢
    by_cases hlt:j < x.kids.length
    ·have h2:(j:Int) < (x.kids.length:Int):=om
     rw[List.drop_eq_getElem_cons hlt,d4r]at hkd
     obtain⟨k0,k1⟩:=hk x hx _ (List.getElem_mem hlt)
     have pk:0<=(j:Int)/\(x.kids.map (D.int .i64))[(j:Int).toNat]? =some (.int .i64 x.kids[j]):=⟨om,by rw[Int.toNat_natCast,List.getElem?_map,List.getElem?_eq_getElem hlt];rfl⟩
     have hkt:x.kids[j].toNat < tc.length:=om
     have hit:i < tc.length:=om
     have pi:0<=(i:Int)/\(i:Int).toNat < t.length:=om
     have pk2:0<=x.kids[j]/\x.kids[j].toNat < t.length:=⟨k0,k1⟩
     repeat' (first|refine run ⟨?_⟩|refine a0f pk ?_|refine And.intro pk2 ?_|refine And.intro pi ?_|refine c1b (c6h hit) ?_|fail)
     refine e2u (by simp;omega) ?_
     have hput:putAt (d4a tc) (0+x.kids[j].toNat*1) [i64 (IntKind.i64.wrap (tc.getD i 0+1))]=d4a (tc.set x.kids[j].toNat (IntKind.i64.wrap (tc.getD i 0+1))):=by rw[Nat.zero_add,Nat.mul_one,c2x hkt]
     have hst:∀ {k:List V->Prop},k (d4a (tc.set x.kids[j].toNat (IntKind.i64.wrap (tc.getD i 0+1))))->a1h (putAt (d4a tc) (0+x.kids[j].toNat*1) [i64 (IntKind.i64.wrap (tc.getD i 0+1))]) k:=fun hk=>by rw[a0u,hput];exact hk
     refine hst ?_
     refine run ⟨?_⟩
     exact⟨(j+1,_),⟨by show j+1<=_;omega,by simp[htc],hkd⟩,by show _ - (j+1) < _ - j;omega,by rw[a1k om];rfl,rfl⟩
    ·have h2:¬ (j:Int) < (x.kids.length:Int):=om
     have hj':j=x.kids.length:=om
     subst hj'
     rw[List.drop_length,d4r]at hkd
     rw[<-hkd]at hd
     have hit:i < tc.length:=om
     have pi:0<=(i:Int)/\(i:Int).toNat < t.length:=om
     by_cases hc:m < tc.getD i 0
     ·rw[if_pos hc]at hd
      repeat' (first|refine run ⟨?_⟩|refine And.intro pi ?_|refine c1b (c6h hit) ?_|fail)
      exact⟨(i,tc,tc.getD i 0),⟨by show i<=_;omega,htc,hd⟩,by show i < i+1;omega,by rw[a1k (n:=(i:Int) - 1) om],rfl⟩
     ·rw[if_neg hc]at hd
      repeat' (first|refine run ⟨?_⟩|refine And.intro pi ?_|refine c1b (c6h hit) ?_|fail)
      exact⟨(i,tc,m),⟨by show i<=_;omega,htc,hd⟩,by show i < i+1;omega,by rw[a1k (n:=(i:Int) - 1) om],rfl⟩
   ·show[_,_,_,_,_,(26,i64 ((x.kids.map (D.int .i64)).length:Int)),_]=_
    rw[hkn];rfl
 ·show[_,(3,.arr 1 0 ((t.map Nd.D).length:Int).toNat),_,(5,i64 (IntKind.i64.wrap (((t.map Nd.D).length:Int) - 1)))]=_
  rw[hnl,a1k om];rfl
 ·show[_,Ob.box (List.replicate ((t.map Nd.D).length:Int).toNat _)]=_
  simp[hnl]
end
end Go.Vm.Itr
namespace Go.Vm.Lex
open Go.Vm.Ite
section
variable {fx:Nat->Option Obj} {F:Nat->Option a0x} (H:Hp)
theorem c5x (c:UInt8):evF (pgL fx F) c1r [u8 c] H=some (boo (isL c),H):=by
 refine a1p (c2k (F:=F)) rfl rfl ?_ H
 repeat' refine And.intro (fun h=>?_) (fun h=>?_)
 all_goals show _=_
 all_goals simp[oneOf,isL]at*
 all_goals grind
theorem c0m (c:UInt8):evF (pgL fx F) c7h [u8 c] H=some (boo (isL c),H):=by
 refine a1p (c6p (F:=F)) rfl rfl ?_ H
 repeat' refine And.intro (fun h=>?_) (fun h=>?_)
 all_goals show _=_
 all_goals simp[oneOf,isL]at*
 all_goals grind
theorem b9u (c:UInt8):evF (pgL fx F) d0s [u8 c] H=some (boo (isD c),H):=by
 refine a1p (d0w (F:=F)) rfl rfl ?_ H
 repeat' refine And.intro (fun h=>?_) (fun h=>?_)
 all_goals show _=_
 all_goals simp[oneOf,isD]at*
 all_goals grind
theorem a5u {α:Type} {s:List α} {i:Nat} (h:i < s.length) {k:α->Prop} (hk:k s[i]):∃ c,((0:Int)<=(i:Int)/\s[(i:Int).toNat]? =some c)/\k c:=
 ⟨s[i],⟨om,by rw[Int.toNat_natCast,List.getElem?_eq_getElem h]⟩,hk⟩
theorem f4l (s:List UInt8):evF (pgL fx F) d4z [str s] H=some (boo (c6l s),H):=by
 refine a1p (d5f (F:=F)) rfl rfl ?_ H
 refine wp_loop (α:=Nat) (fun i=>17 - i) (fun i=>[(0,str s),(5,.d (.sl (b3y.map .str))),(6,i64 17),(7,i64 i)]) (fun _=>[]) (fun i=>i<=17/\∀ x∈b3y.take i,s≠x) ?_ 0 ⟨om,by simp⟩
 rintro i ⟨hi,hall⟩
 refine And.intro (fun h=>?_) (fun h=>?_)
 ·replace h:=of_decide_eq_true h
  have hlt:i < b3y.length:=by show i < 17;omega
  have hlt':i < (b3y.map D.str).length:=by rw[List.length_map];exact hlt
  refine a5u hlt' ?_
  rw[List.getElem_map]
  refine And.intro rfl ?_
  refine And.intro (fun h=>?_) (fun h=>?_)
  ·replace h:=of_decide_eq_true h
   show _=_
   have:s∈b3y:=by rw[h];exact List.getElem_mem _
   simp[oneOf,c6l,this]
  ·replace h:=of_decide_eq_false h
   refine⟨i+1,⟨om,?_⟩,om,?_,rfl⟩
   ·intro x hx
    rw[List.take_add_one,List.mem_append]at hx
    rcases hx with hx|hx
    ·exact hall x hx
    ·rw[List.getElem?_eq_getElem hlt]at hx
     simp only[Option.toList_some,List.mem_singleton]at hx
     rw[hx];exact h
   ·rw[a1k om];rfl
 ·replace h:=of_decide_eq_false h
  have:i=17:=om
  subst this
  show _=_
  have:¬ s∈b3y:=fun h=>hall s (by rw[show b3y.take 17=b3y from rfl];exact h) rfl
  simp[oneOf,c6l,this]
end
end Go.Vm.Lex
namespace Go.Vm.Lex
open Go.Vm.Ite
section
variable {fx:Nat->Option Obj} {F:Nat->Option a0x} (H:Hp)
theorem d7z (s:List UInt8) (at_:Nat) (ha:at_<=s.length) (hs:s.length<=maxLen):evF (pgL fx F) d7q [str s,i64 at_] H=some (i64 (at_+a8p (s.drop at_):Nat),H):=by
 have hm:s.length<=9223372036854775807:=hs
 refine a1p (d6d (F:=F)) rfl rfl ?_ H
 refine wp_loop (α:=Nat) (fun i=>s.length - i) (fun i=>[(0,str s),(1,i64 i)]) (fun _=>[]) (fun i=>i<=s.length/\i+a8p (s.drop i)=at_+a8p (s.drop at_)) ?_ at_ ⟨om,by simp⟩
 rintro i ⟨hi,hr⟩
 refine And.intro (fun hl=>?_) (fun hl=>?_)
 ·replace hl:=of_decide_eq_true hl
  have hlt:i < s.length:=om
  rw[f2g (List.getElem?_eq_getElem hlt)]at hr
  repeat' (first
      |(refine And.intro (fun h=>?_) (fun h=>?_)<;>try(exfalso;(have h1:=h;simp_all;done)))
      |refine a5u hlt ?_
      |refine Exists.intro _ (Exists.intro _ (And.intro (c0m _ _) ?_))
      |refine Exists.intro _ (Exists.intro _ (And.intro (b9u _ _) ?_)))
  all_goals first
    |(show _=_
      have:c2e s[i]=false:=by simp_all[c2e]
      rw[this]at hr
      simp at hr
      simp[oneOf,hr];done)
    |(have:c2e s[i]=true:=by simp_all[c2e]
      rw[this]at hr
      simp at hr
      refine⟨i+1,⟨om,om⟩,om,?_,rfl⟩
      rw[a1k om];rfl)
 ·replace hl:=of_decide_eq_false hl
  rw[f6f om]at hr
  repeat' (refine And.intro (fun h=>?_) (fun h=>?_)<;>try(exfalso;simp at h;done))
  all_goals show _=_
  all_goals simp[oneOf]
  all_goals omega
end
end Go.Vm.Lex
namespace Go.Vm.Lex
open Go.Vm.Ite
section
variable {fx:Nat->Option Obj} {F:Nat->Option a0x} (H:Hp)
theorem f0h (c:UInt8) (r:List UInt8) (h:c=47/\r.head? =some 47):a0g false (c::r)=a0g true (c::r):=by
 obtain⟨rfl,h⟩:=h
 rw[a6m,a9p,h];simp[wsB]
end
end Go.Vm.Lex
namespace Go.Vm.Lex
open Go.Vm.Ite
section
variable {fx:Nat->Option Obj} {F:Nat->Option a0x} (H:Hp)
theorem f8o (c d:UInt8):c=d↔c.toNat=d.toNat:=UInt8.toNat_inj.symm
theorem d6e {s:List UInt8} {i:Nat} (hm:s.length<=9223372036854775807) (h:i+1 < s.length) {k:UInt8->Prop} (hk:k s[i+1]):∃ c,(0<=IntKind.i64.wrap ((i:Int)+1)/\s[(IntKind.i64.wrap ((i:Int)+1)).toNat]? =some c)/\k c:=by
 rw[a1k om]
 exact⟨_,⟨om,by rw[show((i:Int)+1).toNat=i+1 by omega,List.getElem?_eq_getElem h]⟩,hk⟩
set_option maxHeartbeats 2000000 in
theorem e2g (s:List UInt8) (hs:s.length<=maxLen) (at_:Nat) (ha:at_<=s.length):evF (pgL fx F) b8j [str s,i64 at_] H=some (i64 ((at_+a0g false (s.drop at_):Nat)),H):=by
 have hm:s.length<=9223372036854775807:=hs
 clear hs
 refine a1p (d2e (F:=F)) rfl rfl ?_ H
 generalize hT:at_+a0g false (s.drop at_)=T
 refine wp_loop (α:=Nat) (fun i=>s.length - i) (fun i=>[(0,str s),(1,i64 i)]) (fun _=>[]) (fun i=>i<=s.length/\i+a0g false (s.drop i)=T) ?_ at_ ⟨ha,hT⟩
 clear hT ha at_
 rintro i ⟨hi,hr⟩
 refine And.intro (fun hl=>?_) (fun hl=>?_)
 ·replace hl:=of_decide_eq_true hl
  have hlt:i < s.length:=om
  have hd:s.drop i=s[i]::s.drop (i+1):=List.drop_eq_getElem_cons hlt
  have w:wsB s[i]=true↔(s[i].toNat=32\/s[i].toNat=9\/s[i].toNat=10\/s[i].toNat=13):=by simp[wsB,f8o]
  have q:s[i]=47↔s[i].toNat=47:=f8o _ 47
  have ew:IntKind.i64.wrap ((i:Int)+1)=(i:Int)+1:=a1k om
  refine a5u hlt ?_
  repeat' (first
      |(refine And.intro (fun h=>?_) (fun h=>?_)<;>try(exfalso;(simp at h;done)))
      |refine d6e hm (by(have hx:¬ (IntKind.i64.wrap ((i:Int)+1)=(s.length:Int)):=of_decide_eq_false (by assumption));omega) ?_)
  all_goals simp only[Bool.not_true,Bool.not_false,Bool.not_eq_true',Bool.not_eq_false',decide_eq_true_eq,decide_eq_false_iff_not]at*
  all_goals first
    |(refine⟨i+1,⟨om,?_⟩,om,?_,rfl⟩
      ·rw[hd,a6m,if_pos (w.2 om)]at hr;omega
      ·rw[ew];rfl)
    |(show _=_
      have hn:¬ (s[i]=47/\(s.drop (i+1)).head? =some 47):=by
       rintro⟨h1,h2⟩
       rw[q]at h1
       rw[List.head?_drop]at h2
       obtain⟨h3,h4⟩:=List.getElem?_eq_some_iff.1 h2
       have h5:(s[i+1]'h3).toNat=47:=by rw[h4];rfl
       omega
      rw[hd,a6m,if_neg (fun e=>by have:=w.1 e;omega),if_neg hn]at hr
      simp only[oneOf]
      congr 3;done)
    |skip
  have hlt2:i+1 < s.length:=by
   have hx:¬ (IntKind.i64.wrap ((i:Int)+1)=(s.length:Int)):=of_decide_eq_false (by assumption)
   omega
  have hh:s[i]=47/\(s.drop (i+1)).head? =some 47:=by
   refine⟨q.2 om,?_⟩
   rw[List.head?_drop,List.getElem?_eq_getElem hlt2]
   congr 1
   rw[f8o]
   show s[i+1].toNat=47
   omega
  have hr2:i+a0g true (s.drop i)=T:=by rw[<-hr,hd,f0h _ _ hh]
  refine wp_loop (α:=Nat) (fun j=>s.length - j) (fun j=>[(0,str s),(1,i64 j)]) (fun _=>[]) (fun j=>i<=j/\j<=s.length/\j+a0g true (s.drop j)=T) ?_ i ⟨om,om,hr2⟩
  rintro j ⟨h1,h2,h3⟩
  refine And.intro (fun hj=>?_) (fun hj=>?_)
  ·replace hj:=of_decide_eq_true hj
   have hjt:j < s.length:=om
   have hdj:s.drop j=s[j]::s.drop (j+1):=List.drop_eq_getElem_cons hjt
   have qj:s[j]=10↔s[j].toNat=10:=f8o _ 10
   refine a5u hjt ?_
   rw[hdj,a9p]at h3
   refine And.intro (fun h=>?_) (fun h=>?_)
   ·simp only[Bool.not_eq_true',decide_eq_false_iff_not]at h
    rw[if_neg (fun e=>h (by rw[qj.1 e];rfl))]at h3
    refine⟨j+1,⟨om,om,om⟩,om,?_,rfl⟩
    rw[a1k om];rfl
   ·simp only[Bool.not_eq_false',decide_eq_true_eq]at h
    have h10:s[j]=10:=qj.2 om
    rw[if_pos h10]at h3
    have hne:i≠j:=by rintro rfl;omega
    refine⟨j,⟨om,?_⟩,om,rfl,rfl⟩
    rw[hdj,a6m,if_pos (by simp[wsB,h10])];omega
  ·replace hj:=of_decide_eq_false hj
   rw[List.drop_eq_nil_of_le om,b1p]at h3
   repeat' (refine And.intro (fun h=>?_) (fun h=>?_)<;>try(exfalso;simp at h;done))
   all_goals
    refine⟨j,⟨om,?_⟩,om,rfl,rfl⟩
    rw[List.drop_eq_nil_of_le om,b1p];omega
 ·replace hl:=of_decide_eq_false hl
  rw[List.drop_eq_nil_of_le om,b1p]at hr
  show _=_
  simp only[oneOf]
  congr 3
end
end Go.Vm.Lex
namespace Go.Vm.Lex
open Go.Vm.Ite
def tkD (k:Int) (t:List UInt8) (v f e:Int):D:= .agg [.int .i64 k,.str t,.int .i64 v,.int .i64 f,.int .i64 e]
def dgD (c f e:Int):D:= .agg [.int .i64 c,.int .i64 f,.int .i64 e]
section
variable {fx:Nat->Option Obj} {F:Nat->Option a0x} (H:Hp)
theorem b7a (c f e:Int):evF (pgL fx F) d4d [i64 c,i64 f,i64 e] H=some (.d (dgD c f e),H):=by
 refine a1p (d2p (F:=F)) rfl rfl ?_ H
 rfl
end
end Go.Vm.Lex
namespace Go.Vm.Lex
open Go.Vm.Ite
theorem c5a {s:List UInt8} {i:Nat} (h:i < s.length):c0c (s.take (i+1))=c0c (s.take i) *10+dig s[i]:=by
 unfold c0c g3j
 rw[List.take_add_one,List.getElem?_eq_getElem h,List.foldl_append];rfl
theorem e9u {s:List UInt8} (i:Nat):c0c (s.take i)<=c0c s:=by
 have h:c0c s=g3j (c0c (s.take i)) (s.drop i):=by
  unfold c0c g3j
  rw[<-List.foldl_append,List.take_append_drop]
 rw[h];exact e9z _ _
section
variable {fx:Nat->Option Obj} {F:Nat->Option a0x} (H:Hp)
theorem e3h (s:List UInt8) (hs:s.length<=maxLen) (hd:s.all isD=true):∃ v:Int,(b6k s=true->v=c0c s)/\∀ H:Hp,evF (pgL fx F) b6j [str s] H=some (.tup [i64 v,boo (b6k s)],H):=by
 have hm:s.length<=9223372036854775807:=hs
 have hnb:b6k s=decide (c0c s<=9223372036854775807):=by simp[b6k,hd]
 have hdig:∀ i (h:i < s.length),48<=s[i].toNat/\s[i].toNat<=57:=by
  intro i h
  have:=List.all_eq_true.1 hd s[i] (List.getElem_mem _)
  simpa [isD] using this
 have key:∀ v:Int,(∃ j,j < s.length/\922337203685477580 < c0c (s.take j))/\v=0\/(∀ j,j < s.length->c0c (s.take j)<=922337203685477580)/\v=IntKind.i64.wrap (c0c s)->∀ H:Hp,evF (pgL fx F) b6j [str s] H=some (.tup [i64 v,boo (b6k s)],H):=by
  intro v hv H
  refine a1p (c6u (F:=F)) rfl rfl ?_ H
  refine wp_loop (α:=Nat) (fun i=>s.length - i) (fun i=>[(0,str s),(4,.d (.int .u64 (c0c (s.take i)))),(5,i64 i)]) (fun _=>[]) (fun i=>i<=s.length/\∀ j,j < i->c0c (s.take j)<=922337203685477580) ?_ 0 ⟨om,om⟩
  rintro i ⟨hi,hall⟩
  refine And.intro (fun hl=>?_) (fun hl=>?_)
  ·replace hl:=of_decide_eq_true hl
   have hlt:i < s.length:=om
   refine And.intro (fun h=>?_) (fun h=>?_)
   ·replace h:=of_decide_eq_true h
    have h1:=c5a hlt
    have h2:=e9u (s:=s) (i+1)
    have hb:b6k s=false:=by rw[hnb];simp;omega
    have hv0:v=0:=by
     rcases hv with⟨_,e⟩|⟨e,_⟩
     ·exact e
     ·have:=e i hlt;omega
    show _=_
    rw[hb,hv0];rfl
   ·replace h:=of_decide_eq_false h
    refine a5u hlt ?_
    obtain⟨d1,d2⟩:=hdig i hlt
    have h1:=c5a hlt
    have hdg:dig s[i]=s[i].toNat - 48:=rfl
    refine⟨i+1,⟨om,fun j hj=>?_⟩,om,?_,rfl⟩
    ·by_cases e:j=i
     ·subst e;omega
     ·exact hall j om
    ·rw[a1k om,i2t (n:=(c0c (s.take i):Int) *10) om,u8w om,i2t (n:=(s[i].toNat:Int) - 48) om,i2t om,h1,hdg]
     have e9:((c0c (s.take i):Int) *10+((s[i].toNat:Int) - 48))=((c0c (s.take i) *10+(s[i].toNat - 48):Nat):Int):=om
     rw[e9];rfl
  ·replace hl:=of_decide_eq_false hl
   have hi':i=s.length:=om
   subst hi'
   rw[List.take_length]
   have hv1:v=IntKind.i64.wrap (c0c s):=by
    rcases hv with⟨⟨j,h1,h2⟩,_⟩|⟨_,e⟩
    ·have:=hall j h1;omega
    ·exact e
   show _=_
   have eb:decide ((c0c s:Int)<=9223372036854775807)=decide (c0c s<=9223372036854775807):=by simp only[decide_eq_decide];omega
   rw[hv1,hnb,<-eb]
   rfl
 by_cases hx:∃ j,j < s.length/\922337203685477580 < c0c (s.take j)
 ·refine⟨0,fun h=>?_,key 0 (.inl ⟨hx,rfl⟩)⟩
  obtain⟨j,h1,h2⟩:=hx
  have h3:=c5a h1
  have h4:=e9u (s:=s) (j+1)
  rw[hnb]at h;simp at h;omega
 ·refine⟨IntKind.i64.wrap (c0c s),fun h=>?_,key _ (.inr ⟨fun j hj=>Nat.le_of_not_lt fun h=>hx ⟨j,hj,h⟩,rfl⟩)⟩
  rw[hnb]at h;simp at h
  exact a1k om
def e3u (s:List UInt8) (a:Nat):V:=
 if b6k ((s.drop a).take (a8p (s.drop a))) then .tup [.d (tkD 3 ((s.drop a).take (a8p (s.drop a))) (c0c ((s.drop a).take (a8p (s.drop a)))) a (a+a8p (s.drop a):Nat)),.d (dgD 0 0 0)]
 else .tup [.d (tkD 0 [] 0 0 0),.d (dgD 112 a (a+a8p (s.drop a):Nat))]
theorem e0y (s:List UInt8) (a n:Nat):List.drop (Int.toNat (a:Int)) (List.take (Int.toNat ((a+n:Nat):Int)) s)=(s.drop a).take n:=by
 simp only[Int.toNat_natCast]
 rw[List.drop_take];congr 1;omega
theorem c5c (s:List UInt8) (hs:s.length<=maxLen) (a:Nat) (ha:a<=s.length):evF (pgL fx F) c2o [str s,i64 a] H=some (e3u s a,H):=by
 have hm:s.length<=9223372036854775807:=hs
 have hrl:=b7q (s.drop a)
 rw[List.length_drop]at hrl
 refine a1p (c2m (F:=F)) rfl rfl ?_ H
 refine Exists.intro _ (Exists.intro _ (And.intro (d7z _ _ _ ha hs) ?_))
 generalize hn:a8p (s.drop a)=n at*
 refine wp_loop (α:=Nat) (fun i=>a+n - i) (fun i=>[(0,str s),(1,i64 a),(4,.ptr 0 0),(5,.ptr 1 0),(6,i64 (a+n:Nat)),(7,i64 i)]) (fun _=>[.box [.d (.int .i64 0),.d (.str []),.d (.int .i64 0),.d (.int .i64 0),.d (.int .i64 0)],.box [.d (.int .i64 0),.d (.int .i64 0),.d (.int .i64 0)]]) (fun i=>a<=i/\i<=a+n/\((s.drop a).take (i - a)).all isD=true) ?_ a ⟨om,om,by simp⟩
 rintro i ⟨h1,h2,hall⟩
 refine And.intro (fun hl=>?_) (fun hl=>?_)
 ·replace hl:=of_decide_eq_true hl
  have hlt:i < s.length:=om
  have hget:(s.drop a)[i - a]? =some s[i]:=by rw[List.getElem?_drop,show a+(i - a)=i by omega,List.getElem?_eq_getElem hlt]
  refine a5u hlt ?_
  refine Exists.intro _ (Exists.intro _ (And.intro (b9u _ _) ?_))
  refine And.intro (fun h=>?_) (fun h=>?_)
  ·refine Exists.intro _ (Exists.intro _ (And.intro (b7a _ _ _ _) ?_))
   have hb:b6k ((s.drop a).take n)=false:=by
    cases hb:b6k ((s.drop a).take n)with
    |false=>rfl
    |true=>
     simp only[b6k,Bool.and_eq_true,List.all_eq_true]at hb
     have:=hb.1 s[i] (List.mem_iff_getElem?.2 ⟨i - a,by rw[List.getElem?_take,if_pos om];exact hget⟩)
     rw[this]at h;cases h
   show _=_
   simp only[oneOf,e3u,hn,hb];rfl
  ·have hD:isD s[i]=true:=by simpa using h
   refine⟨i+1,⟨om,om,?_⟩,om,?_,rfl⟩
   ·rw[show i+1 - a=(i - a)+1 by omega,List.take_add_one,hget,List.all_append,hall]
    simp[hD]
   ·rw[a1k om];rfl
 ·replace hl:=of_decide_eq_false hl
  have hi:i - a=n:=om
  rw[hi]at hall
  refine And.intro om ?_
  refine And.intro om ?_
  refine And.intro ⟨om,om⟩ ?_
  rw[e0y]
  obtain⟨v,hv,hev⟩:=e3h (fx:=fx) (F:=F) ((s.drop a).take n) (by rw[List.length_take,List.length_drop];unfold maxLen;omega) hall
  refine Exists.intro _ (Exists.intro _ (And.intro (hev _) ?_))
  refine And.intro (fun h=>?_) (fun h=>?_)
  ·refine Exists.intro _ (Exists.intro _ (And.intro (b7a _ _ _ _) ?_))
   have hb:b6k ((s.drop a).take n)=false:=by simpa using h
   show _=_
   simp only[oneOf,e3u,hn,hb];rfl
  ·have hb:b6k ((s.drop a).take n)=true:=by simpa using h
   refine And.intro om ?_
   refine And.intro om ?_
   refine And.intro ⟨om,om⟩ ?_
   rw[e0y]
   show _=_
   simp only[oneOf,e3u,hn,hb,hv hb];rfl
def h2j (s:List UInt8) (a:Nat):V:=
 if 64 < a8p (s.drop a) then .tup [.d (tkD 0 [] 0 0 0),.d (dgD 2 a (a+a8p (s.drop a):Nat))]
 else .tup [.d (tkD (if c6l ((s.drop a).take (a8p (s.drop a))) then 2 else 1) ((s.drop a).take (a8p (s.drop a))) 0 a (a+a8p (s.drop a):Nat)),.d (dgD 0 0 0)]
theorem d9l (s:List UInt8) (hs:s.length<=maxLen) (a:Nat) (ha:a<=s.length):evF (pgL fx F) c9h [str s,i64 a] H=some (h2j s a,H):=by
 have hm:s.length<=9223372036854775807:=hs
 have hrl:=b7q (s.drop a)
 rw[List.length_drop]at hrl
 refine a1p (d0d (F:=F)) rfl rfl ?_ H
 refine Exists.intro _ (Exists.intro _ (And.intro (d7z _ _ _ ha hs) ?_))
 generalize hn:a8p (s.drop a)=n at*
 have ew:IntKind.i64.wrap (((a+n:Nat):Int) - (a:Int))=(n:Int):=by rw[a1k om];omega
 refine And.intro (fun h=>?_) (fun h=>?_)
 ·replace h:=of_decide_eq_true h
  rw[ew]at h
  refine Exists.intro _ (Exists.intro _ (And.intro (b7a _ _ _ _) ?_))
  show _=_
  simp only[oneOf,h2j,hn,if_pos (show 64 < n by omega)];rfl
 ·replace h:=of_decide_eq_false h
  rw[ew]at h
  refine And.intro om ?_
  refine And.intro om ?_
  refine And.intro ⟨om,om⟩ ?_
  rw[e0y]
  refine Exists.intro _ (Exists.intro _ (And.intro (f4l _ _) ?_))
  refine And.intro (fun h5=>?_) (fun h5=>?_)
  all_goals
   refine And.intro om ?_
   refine And.intro om ?_
   refine And.intro ⟨om,om⟩ ?_
   rw[e0y]
   show _=_
   simp only[oneOf,h2j,hn,if_neg (show ¬ 64 < n by omega),h5];rfl
end
end Go.Vm.Lex

namespace Go.Vm.Lex
open Go.Vm.Ite
section
variable {fx:Nat->Option Obj} {F:Nat->Option a0x} (H:Hp)
theorem d9c (s:List UInt8) (a n:Nat):List.drop (Int.toNat (a:Int)) (List.take (Int.toNat ((a:Int)+n)) s)=(s.drop a).take n:=by
 rw[show((a:Int)+n).toNat=a+n by omega,Int.toNat_natCast,List.drop_take];congr 1;omega
theorem c3f (s:List UInt8) (a:Nat) (ha:a < s.length) (hs:a+2<=9223372036854775807):evF (pgL fx F) d2n [str s,i64 a] H=some (str (a2z (s.drop a)),H):=by
 have hd:s.drop a=s[a]::s.drop (a+1):=List.drop_eq_getElem_cons ha
 have hl1:1 < (s.drop a).length↔a+2<=s.length:=by rw[List.length_drop];omega
 refine a1p (d2r (F:=F)) rfl rfl ?_ H
 refine wp_loop (α:=Nat) (fun i=>9 - i) (fun i=>[(0,str s),(1,i64 a),(9,.d (.sl (b5s.map .str))),(10,i64 9),(11,i64 i)]) (fun _=>[]) (fun i=>i<=9/\∀ x∈b5s.take i,¬ (a+2<=s.length/\(s.drop a).take 2=x)) ?_ 0 ⟨om,by simp⟩
 rintro i ⟨hi,hall⟩
 refine And.intro (fun hl=>?_) (fun hl=>?_)
 ·replace hl:=of_decide_eq_true hl
  have hlt:i < b5s.length:=by show i < 9;omega
  have hlt':i < (b5s.map D.str).length:=by rw[List.length_map];exact hlt
  refine a5u hlt' ?_
  rw[List.getElem_map]
  refine And.intro rfl ?_
  have ew:IntKind.i64.wrap ((a:Int)+2)=(a:Int)+2:=a1k om
  have next:¬ (a+2<=s.length/\(s.drop a).take 2=b5s[i])->∀ x∈b5s.take (i+1),¬ (a+2<=s.length/\(s.drop a).take 2=x):=by
   intro hn x hx
   rw[List.take_add_one,List.mem_append]at hx
   rcases hx with hx|hx
   ·exact hall x hx
   ·rw[List.getElem?_eq_getElem hlt]at hx
    simp only[Option.toList_some,List.mem_singleton]at hx
    rw[hx];exact hn
  refine And.intro (fun h=>?_) (fun h=>?_)
  ·replace h:=of_decide_eq_true h
   rw[ew]at h
   refine And.intro om ?_
   refine And.intro (by rw[ew];omega) ?_
   refine And.intro ⟨by rw[ew];omega,by rw[ew];omega⟩ ?_
   refine And.intro (fun h2=>?_) (fun h2=>?_)
   ·replace h2:=of_decide_eq_true h2
    rw[ew,show((a:Int)+2)=(a:Int)+(2:Nat)from rfl,d9c]at h2
    show _=_
    simp only[oneOf]
    unfold a2z
    rw[if_pos ⟨hl1.2 om,by rw[h2];exact List.getElem_mem _⟩,h2]
   ·replace h2:=of_decide_eq_false h2
    rw[ew,show((a:Int)+2)=(a:Int)+(2:Nat)from rfl,d9c]at h2
    refine⟨i+1,⟨om,next fun e=>h2 e.2⟩,om,?_,rfl⟩
    rw[a1k om];rfl
  ·replace h:=of_decide_eq_false h
   rw[ew]at h
   refine And.intro (fun h2=>?_) (fun h2=>?_)
   ·cases h2
   ·refine⟨i+1,⟨om,next fun e=>om⟩,om,?_,rfl⟩
    rw[a1k om];rfl
 ·replace hl:=of_decide_eq_false hl
  have hi9:i=9:=om
  subst hi9
  have hno:¬ (1 < (s.drop a).length/\(s.drop a).take 2∈b5s):=by
   rintro⟨h1,h2⟩
   exact hall _ (by rw[show b5s.take 9=b5s from rfl];exact h2) ⟨hl1.1 h1,rfl⟩
  obtain⟨fz,hfz⟩:∃ fz,fz=c3z.map fun c=>D.int .u8 c.toNat:=⟨_,rfl⟩
  refine Exists.intro (.arr 0 0 19) (Exists.intro [.frz fz] (And.intro (by rw[hfz];rfl) ?_))
  refine Exists.intro (.arr 0 0 19) (Exists.intro [.frz fz] (And.intro rfl ?_))
  refine wp_loop (α:=Nat) (fun j=>19 - j) (fun j=>[(0,str s),(1,i64 a),(32,.arr 0 0 19),(33,i64 19),(34,i64 j)]) (fun _=>[.frz fz]) (fun j=>j<=19/\∀ x∈c3z.take j,s[a]≠x) ?_ 0 ⟨om,by simp⟩
  rintro j ⟨hj,hjall⟩
  refine And.intro (fun hl=>?_) (fun hl=>?_)
  ·replace hl:=of_decide_eq_true hl
   have hjt:j < c3z.length:=by show j < 19;omega
   refine And.intro ⟨om,om⟩ ?_
   have hnth:(List.map V.d fz)[0+Int.toNat (j:Int) *1]? =some (V.d (.int .u8 c3z[j].toNat)):=by
    rw[show 0+Int.toNat (j:Int) *1=j by omega,hfz]
    simp[hjt]
   refine c1b hnth ?_
   refine a5u ha ?_
   refine And.intro (fun h=>?_) (fun h=>?_)
   ·replace h:=of_decide_eq_true h
    have hc:s[a]=c3z[j]:=by rw[f8o];omega
    have ew:IntKind.i64.wrap ((a:Int)+1)=(a:Int)+1:=a1k om
    refine And.intro om ?_
    refine And.intro (by rw[ew];omega) ?_
    refine And.intro ⟨by rw[ew];omega,by rw[ew];omega⟩ ?_
    rw[ew,show((a:Int)+1)=(a:Int)+(1:Nat)from rfl,d9c]
    show _=_
    simp only[oneOf]
    unfold a2z
    rw[if_neg hno,if_pos ⟨by rw[hd];exact List.cons_ne_nil _ _,by rw[hd];show s[a]∈c3z;rw[hc];exact List.getElem_mem _⟩]
   ·replace h:=of_decide_eq_false h
    refine⟨j+1,⟨om,fun x hx=>?_⟩,om,?_,rfl⟩
    ·rw[List.take_add_one,List.mem_append]at hx
     rcases hx with hx|hx
     ·exact hjall x hx
     ·rw[List.getElem?_eq_getElem hjt]at hx
      simp only[Option.toList_some,List.mem_singleton]at hx
      rw[hx];intro e;rw[e]at h;exact h rfl
    ·rw[a1k om];rfl
  ·replace hl:=of_decide_eq_false hl
   have hj9:j=19:=om
   subst hj9
   show _=_
   simp only[oneOf]
   unfold a2z
   rw[if_neg hno,if_neg (by
     rintro⟨_,h2⟩
     rw[hd]at h2
     exact hjall _ (by rw[show c3z.take 19=c3z from rfl];exact h2) rfl)]
end
end Go.Vm.Lex
