import Derived.Test.YtocpgkeiakjicaaGreatItrW8
import Derived.Test.YtocpgkeiakjicaaGreatIteL
import Derived.Test.YtocpgkeiakjicaaGreatItlW7
import Derived.Test.YtocpgkeiakjicaaGreatTypP25
import Derived.Test.YtocpgkeiakjicaaGreatTreP
set_option maxRecDepth 100000
set_option linter.unusedVariables false
set_option linter.unusedSimpArgs false
namespace Go.Vm.Ite
open Go.Vm.Tp (Nd a6q a1l a7l)
open Go.Vm.Ip
open Go.Vm.Io (In Rt nd txt tx a3o mem ret a3g b0a roots)
open Go.Vm.Itr (b8z)
structure Rf (t:List Nd):Prop where
 rt:Rt t
 txt:∀ i,(nd t i).t.length<=1048576
 kl:∀ i,(nd t i).kids.length<=1048576
theorem b4k {t:List Nd} {i:Int} (h:In t i):0<=i/\(t.map Nd.D)[i.toNat]? =some (nd t i).D:=b8z h.1 h.lt
theorem d7n {t:List Nd} (h:Rf t):∀ (n:Nat) (i:Int),(txt t n i).length<=5*n+1048576
 |0,_=>by rw[txt];exact Nat.zero_le _
 |n+1,i=>by
  have h1:=d7n h n ((nd t i).kids.getD 0 0)
  have h2:=h.txt i
  rw[txt]
  repeat' split
  all_goals(try simp only[List.length_append,List.length_cons,List.length_nil]);omega
theorem f7t {t:List Nd} (h:Rf t) (i:Int):(tx t i).length<=1148576:=by
 have:=d7n h t.length i
 have:=h.rt.hi
 unfold tx;omega
section
variable {fx:Nat->Option Obj} {F:Nat->Option a0x}
set_option maxHeartbeats 4000000 in
theorem f0n (t:List Nd) (h:Rf t):∀ (n:Nat) (i:Int),n<=20000->In t i->a7l (nd t i).k=true->i.toNat < n->∀ H,evF (pgL fx F) c2h [.d (a6q t),.d (.int .i64 i)] H=some (str (txt t n i),H)
 |0,_,_,_,_,hn,_=>absurd hn (Nat.not_lt_zero _)
 |n+1,i,hm,hi,hty,hn,H=>by
  have pn:=b4k hi
  have hk:(nd t i).k=10\/(nd t i).k=11\/(nd t i).k=12\/(nd t i).k=13\/(nd t i).k=14\/(nd t i).k=15\/(nd t i).k=16:=by
   unfold a7l at hty
   simp only[Bool.and_eq_true,decide_eq_true_eq]at hty
   omega
  have ih:=fun a (ha:a∈(nd t i).kids) (hb:a7l (nd t a).k=true)=>f0n t h n a om (h.rt.inK hi ha) hb (by have:=h.rt.kid i hi a ha;omega)
  have hl:=fun a=>d7n h n a
  refine a5v (d5x (F:=F)) rfl rfl ?_ H
  rw[txt]
  rcases hk with e|e|e|e|e|e|e
  ·have y10:=e
   repeat' (first|refine run ⟨?_⟩|refine a0f pn ?_|fail)
   rw[if_pos e];exact rfl
  ·have n10:¬ (nd t i).k=10:=om
   have y11:=e
   repeat' (first|refine run ⟨?_⟩|refine a0f pn ?_|fail)
   rw[if_neg n10];rw[if_pos e];exact rfl
  ·have n10:¬ (nd t i).k=10:=om
   have n11:¬ (nd t i).k=11:=om
   have y12:=e
   repeat' (first|refine run ⟨?_⟩|refine a0f pn ?_|fail)
   rw[if_neg n10];rw[if_neg n11];rw[if_pos e];exact rfl
  ·have n10:¬ (nd t i).k=10:=om
   have n11:¬ (nd t i).k=11:=om
   have n12:¬ (nd t i).k=12:=om
   have n14:¬ (nd t i).k=14:=om
   have n15:¬ (nd t i).k=15:=om
   have n16:¬ (nd t i).k=16:=om
   repeat' (first|refine run ⟨?_⟩|refine a0f pn ?_|fail)
   rw[if_neg n10];rw[if_neg n11];rw[if_neg n12];rw[if_neg n14];rw[if_neg n15];rw[if_neg n16];exact rfl
  ·have n10:¬ (nd t i).k=10:=om
   have n11:¬ (nd t i).k=11:=om
   have n12:¬ (nd t i).k=12:=om
   have n13:¬ (nd t i).k=13:=om
   obtain⟨a,ek,ea⟩:=h.rt.ref i hi om
   have pk:(0:Int)<=0/\((nd t i).kids.map (D.int .i64))[(0:Int).toNat]? =some (.int .i64 a):=⟨Int.le_refl _,by rw[ek];rfl⟩
   have hc:=ih a (by rw[ek];exact List.mem_cons_self) ea
   have hla:=hl a
   have l1:∀ p:S,p.length<=10->p.length+(txt t n a).length<=9223372036854775807:=fun p hp=>om
   have l2:∀ p q:S,p.length<=10->q.length<=10->(p++txt t n a).length+q.length<=9223372036854775807:=fun p q hp hq=>by rw[List.length_append];omega
   repeat' (first|refine run ⟨?_⟩|refine a0f pn ?_|refine a0f pk ?_|refine ca (hc _) ?_|refine And.intro (l1 _ (by decide)) ?_|refine And.intro (l2 _ _ (by decide) (by decide)) ?_|fail)
   rw[if_neg n10];rw[if_neg n11];rw[if_neg n12];rw[if_pos e,ek];exact rfl
  ·have n10:¬ (nd t i).k=10:=om
   have n11:¬ (nd t i).k=11:=om
   have n12:¬ (nd t i).k=12:=om
   have n13:¬ (nd t i).k=13:=om
   have n14:¬ (nd t i).k=14:=om
   obtain⟨a,ek,ea⟩:=h.rt.ref i hi om
   have pk:(0:Int)<=0/\((nd t i).kids.map (D.int .i64))[(0:Int).toNat]? =some (.int .i64 a):=⟨Int.le_refl _,by rw[ek];rfl⟩
   have hc:=ih a (by rw[ek];exact List.mem_cons_self) ea
   have hla:=hl a
   have l1:∀ p:S,p.length<=10->p.length+(txt t n a).length<=9223372036854775807:=fun p hp=>om
   have l2:∀ p q:S,p.length<=10->q.length<=10->(p++txt t n a).length+q.length<=9223372036854775807:=fun p q hp hq=>by rw[List.length_append];omega
   repeat' (first|refine run ⟨?_⟩|refine a0f pn ?_|refine a0f pk ?_|refine ca (hc _) ?_|refine And.intro (l1 _ (by decide)) ?_|refine And.intro (l2 _ _ (by decide) (by decide)) ?_|fail)
   rw[if_neg n10];rw[if_neg n11];rw[if_neg n12];rw[if_neg n14];rw[if_pos e,ek];exact rfl
  ·have n10:¬ (nd t i).k=10:=om
   have n11:¬ (nd t i).k=11:=om
   have n12:¬ (nd t i).k=12:=om
   have n13:¬ (nd t i).k=13:=om
   have n14:¬ (nd t i).k=14:=om
   have n15:¬ (nd t i).k=15:=om
   obtain⟨a,ek,ea⟩:=h.rt.ref i hi om
   have pk:(0:Int)<=0/\((nd t i).kids.map (D.int .i64))[(0:Int).toNat]? =some (.int .i64 a):=⟨Int.le_refl _,by rw[ek];rfl⟩
   have hc:=ih a (by rw[ek];exact List.mem_cons_self) ea
   have hla:=hl a
   have l1:∀ p:S,p.length<=10->p.length+(txt t n a).length<=9223372036854775807:=fun p hp=>om
   have l2:∀ p q:S,p.length<=10->q.length<=10->(p++txt t n a).length+q.length<=9223372036854775807:=fun p q hp hq=>by rw[List.length_append];omega
   repeat' (first|refine run ⟨?_⟩|refine a0f pn ?_|refine a0f pk ?_|refine ca (hc _) ?_|refine And.intro (l1 _ (by decide)) ?_|refine And.intro (l2 _ _ (by decide) (by decide)) ?_|fail)
   rw[if_neg n10];rw[if_neg n11];rw[if_neg n12];rw[if_neg n14];rw[if_neg n15];rw[if_pos e,ek];exact rfl
theorem f1u {t:List Nd} (h:Rf t) {i:Int} (hi:In t i) (hty:a7l (nd t i).k=true) (H:Hp):evF (pgL fx F) c2h [.d (a6q t),.d (.int .i64 i)] H=some (str (tx t i),H):=f0n t h t.length i h.rt.hi hi hty hi.2 H
end
end Go.Vm.Ite
namespace Go.Vm.Ite
open Go.Vm.Tp (Nd a6q a1l a7l)
open Go.Vm.Ip
open Go.Vm.Io (In Rt nd txt tx a3o mem ret a3g b0a roots inn unk)
open Go.Vm.Itr (b8z)
def c0n (l:List Int):D:= .sl (l.map (D.int .i64))
abbrev H4x (t:List Nd) (x:Its) (X:Hp):Hp:= .box [.d (.sl (t.map Nd.D)),.row 1 x.ss.length,.row 2 x.es.length,.row 3 x.fs.length,.nul]:: .row 2 (x.ss.map Nam.D):: .row 2 (x.es.map Nam.D):: .row 5 (x.fs.map Fnc.D)::X
abbrev H9x (t:List Nd) (x:Its) (X:Hp):Hp:= .box [.d (.sl (t.map Nd.D)),.row 1 x.ss.length,.row 2 x.es.length,.row 3 x.fs.length,.ptr 8 0]:: .row 2 (x.ss.map Nam.D):: .row 2 (x.es.map Nam.D):: .row 5 (x.fs.map Fnc.D)::IB x:: .map (a4c (nS x)):: .map (a4c (nE x)):: .map (a4c (nF x)):: .box [.mp 5,.mp 6,.mp 7]::X
section
variable {fx:Nat->Option Obj} {F:Nat->Option a0x} {t:List Nd} {x:Its} {X:Hp}
theorem g8x {y:Its} {f:Nat} {a:List V} {r:V} (h:evF (pgL fx F0) f a (H4x t x [])=some (r,H4x t y [])) (ha:a1a 4 a=true) (hr:r.und 4=true):evF (pgL fx F) f a (H4x t x X)=some (r,H4x t y X):=by
 apply up
 exact d8g (mv fx) h ha rfl rfl rfl hr
theorem d3h {f:Nat} {a:List V} {r:V} (h:evF (pgL fx F0) f a (H9x t x [])=some (r,H9x t x [])) (ha:a1a 9 a=true) (hr:r.und 9=true):evF (pgL fx F) f a (H9x t x X)=some (r,H9x t x X):=by
 apply up
 exact d8g (mv fx) h ha rfl rfl rfl hr
theorem f9o {e i:Int} (hi:In t i):evF (pgL fx F) a2l [.ptr 0 0,.d (.int .i64 e),.d (.int .i64 i)] (H4x t x X)=some (.d (Lex.dgD e (nd t i).f (nd t i).e),H4x t x X):=by
 refine g8x ?_ rfl rfl
 have pn:=b4k hi
 refine a0e (a9b (F:=F)) rfl rfl rfl ?_
 repeat' (first|refine a2q ⟨?_⟩|refine a0f pn ?_|refine a0a 3 (by decide) (by decide) ?_|fail)
 exact rfl
theorem b4c {e i:Int} (hi:In t i):evF (pgL fx F) a2l [.ptr 0 0,.d (.int .i64 e),.d (.int .i64 i)] (H9x t x X)=some (.d (Lex.dgD e (nd t i).f (nd t i).e),H9x t x X):=by
 refine d3h ?_ rfl rfl
 have pn:=b4k hi
 refine a0e (a9b (F:=F)) rfl rfl rfl ?_
 repeat' (first|refine a2q ⟨?_⟩|refine a0f pn ?_|refine a0a 3 (by decide) (by decide) ?_|fail)
 exact rfl
theorem d7j (h:Rf t) {i:Int} (hi:In t i) (hk:(nd t i).kids=[]\/∃ a,(nd t i).kids=[a]/\a7l (nd t a).k=true):evF (pgL fx F) b5q [.ptr 0 0,.d (.int .i64 i)] (H4x t x X)=some (.d (a3o t i).D,H4x t x X):=by
 refine g8x ?_ rfl rfl
 have pn:=b4k hi
 have hl:((nd t i).kids.map (D.int .i64)).length=(nd t i).kids.length:=List.length_map ..
 unfold a3o
 refine a0e (b5v (F:=F)) rfl rfl rfl ?_
 rcases hk with ek|⟨a,ek,ea⟩
 ·have c:¬ (((nd t i).kids.map (D.int .i64)).length:Int) > 0:=by rw[ek];simp
  repeat' (first|refine a2q ⟨?_⟩|refine a0f pn ?_|refine a0a 3 (by decide) (by decide) ?_|fail)
  rw[ek]
  first|exact rfl|exact⟨rfl,rfl⟩
 ·have c:(((nd t i).kids.map (D.int .i64)).length:Int) > 0:=by rw[ek];simp
  have pk:(0:Int)<=0/\((nd t i).kids.map (D.int .i64))[(0:Int).toNat]? =some (.int .i64 a):=⟨Int.le_refl _,by rw[ek];rfl⟩
  have ht:=fun H=>f1u (fx:=fx) (F:=F0) h (h.rt.inK hi (by rw[ek];exact List.mem_cons_self)) ea H
  repeat' (first|refine a2q ⟨?_⟩|refine a0f pn ?_|refine a0f pk ?_|refine ca (ht _) ?_|refine a0a 3 (by decide) (by decide) ?_|fail)
  rw[ek]
  first|exact rfl|exact⟨rfl,rfl⟩
theorem f9i (h:Rf t) {i:Int} (hi:In t i):evF (pgL fx F) b6u [.ptr 0 0,.d (.int .i64 i)] (H9x t x X)=some (.d (c0n (mem t i)),H9x t x X):=by
 refine d3h ?_ rfl rfl
 have pn:=b4k hi
 have hl:((nd t i).kids.map (D.int .i64)).length=(nd t i).kids.length:=List.length_map ..
 unfold mem
 refine a0e (b7d (F:=F)) rfl rfl rfl ?_
 by_cases c:(nd t i).k=2
 ·obtain⟨ps,a,b,ek,_⟩:=h.rt.fn i hi c
  have hlt:=hi.lt
  have h2:(nd t i).kids.length=ps.length+2:=by rw[ek];simp
  have hb:=h.kl i
  ·have ew:IntKind.i64.wrap ((((nd t i).kids.map (D.int .i64)).length:Int) - 2)=((ps.length:Nat):Int):=by rw[hl,h2,a1k om];omega
   have s1:0<=IntKind.i64.wrap ((((nd t i).kids.map (D.int .i64)).length:Int) - 2):=by rw[ew];omega
   have s2:0<=(IntKind.i64.wrap ((((nd t i).kids.map (D.int .i64)).length:Int) - 2)).toNat/\(IntKind.i64.wrap ((((nd t i).kids.map (D.int .i64)).length:Int) - 2)).toNat<=((nd t i).kids.map (D.int .i64)).length/\true=true:=⟨Nat.zero_le _,by rw[ew,hl,h2];omega,rfl⟩
   repeat' (first|refine a2q ⟨?_⟩|refine a0f pn ?_|refine And.intro s1 ?_|refine And.intro s2 ?_|refine a0a 3 (by decide) (by decide) ?_|fail)
   rw[if_pos c,ew,Int.toNat_natCast,h2,Nat.add_sub_cancel]
   unfold c0n
   rw[List.map_take]
   first|exact rfl|exact⟨rfl,rfl⟩
 ·repeat' (first|refine a2q ⟨?_⟩|refine a0f pn ?_|refine a0a 3 (by decide) (by decide) ?_|fail)
  rw[if_neg c]
  first|exact rfl|exact⟨rfl,rfl⟩
set_option maxHeartbeats 4000000 in
theorem d1w (h:Rf t):∀ (n:Nat) (may:Bool) (i:Int),n<=20000->In t i->a7l (nd t i).k=true->i.toNat < n->evF (pgL fx F0) b6b [.ptr 0 0,.d (.int .i64 i),.d (.bool may)] (H9x t x [])=some (.d (.int .i64 (inn t (n) may i)),H9x t x [])
 |0,_,_,_,_,_,hn=>absurd hn (Nat.not_lt_zero _)
 |n+1,may,i,hm,hi,hty,hn=>by
  have pn:=b4k hi
  have hlen:((nd t i).kids.map (D.int .i64)).length=(nd t i).kids.length:=List.length_map ..
  have ih:=fun a (ha:a∈(nd t i).kids) (hb:a7l (nd t a).k=true)=>d1w h n false a om (h.rt.inK hi ha) hb (by have:=h.rt.kid i hi a ha;omega)
  have hks:=h.rt.ty hi hty
  refine a0e (b5j (F:=F0)) rfl rfl rfl ?_
  rw[show inn t (n+1) may i=if(!may && (decide ((nd t i).k=14)||decide ((nd t i).k=15))) then i else match(nd t i).kids with|[]=> -1|a::_=>if 0<=inn t n false a then inn t n false a else -1 from rfl]
  cases may<;>cases d1:decide ((nd t i).k=14)<;>cases d2:decide ((nd t i).k=15)
  all_goals simp only[Bool.not_true,Bool.not_false,Bool.true_and,Bool.false_and,Bool.or_true,Bool.or_false,Bool.true_or,Bool.false_or,Bool.and_true,Bool.and_false,if_pos,if_neg,Bool.false_eq_true,if_false,if_true]
  all_goals repeat' (first|refine a2q ⟨?_⟩|refine a0f pn ?_|refine a0j d1 ?_|refine a0h d1 ?_|refine a0j d2 ?_|refine a0h d2 ?_|refine a0a 3 (by decide) (by decide) ?_|fail)
  all_goals first
    |exact rfl
    |(rcases hks with ek|⟨a,ek,ea⟩
      ·refine a0o (α:=Nat) (fun j=>1 - j) (fun j=>[(0,.ptr 0 0),(33,.d (.sl ((nd t i).kids.map (D.int .i64)))),(34,i64 0),(35,i64 j)]) (fun _=>H9x t x [.box [.d (.int .i64 (nd t i).k),str (nd t i).t,.d (.int .i64 (nd t i).v),.d (.sl ((nd t i).kids.map (D.int .i64))),.d (.int .i64 (nd t i).f),.d (.int .i64 (nd t i).e)]]) (fun j=>j=0) ?_ 0 rfl (by rw[ek];rfl) rfl
       rintro j rfl
       have h':¬ ((0:Nat):Int) < 0:=om
       repeat' (first|refine a2q ⟨?_⟩|refine a0a 3 (by decide) (by decide) ?_|fail)
       rw[ek]
       first|exact rfl|exact⟨rfl,rfl⟩
      ·have hc:=d3h (fx:=fx) (F:=F0) (X:=[.box [.d (.int .i64 (nd t i).k),str (nd t i).t,.d (.int .i64 (nd t i).v),.d (.sl ((nd t i).kids.map (D.int .i64))),.d (.int .i64 (nd t i).f),.d (.int .i64 (nd t i).e)]]) (ih a (by rw[ek];exact List.mem_cons_self) ea) rfl rfl
       refine a0o (α:=Nat) (fun j=>1 - j) (fun j=>[(0,.ptr 0 0),(33,.d (.sl ((nd t i).kids.map (D.int .i64)))),(34,i64 1),(35,i64 j)]) (fun _=>H9x t x [.box [.d (.int .i64 (nd t i).k),str (nd t i).t,.d (.int .i64 (nd t i).v),.d (.sl ((nd t i).kids.map (D.int .i64))),.d (.int .i64 (nd t i).f),.d (.int .i64 (nd t i).e)]]) (fun j=>j=0\/(j=1/\¬ 0<=inn t n false a)) ?_ 0 (.inl rfl) (by rw[ek];rfl) rfl
       have ek2:(match(nd t i).kids with|[]=> -1|a::_=>if 0<=inn t n false a then inn t n false a else -1)=if 0<=inn t n false a then inn t n false a else -1:=by rw[ek]
       rw[ek2]
       rintro j (rfl|⟨rfl,hneg⟩)
       ·have h':((0:Nat):Int) < 1:=om
        have pk:0<=((0:Nat):Int)/\((nd t i).kids.map (D.int .i64))[((0:Nat):Int).toNat]? =some (.int .i64 a):=⟨om,by rw[ek];rfl⟩
        by_cases hr:0<=inn t n false a
        ·rw[if_pos hr]
         repeat' (first|refine a2q ⟨?_⟩|refine a0f pk ?_|refine ca (hc) ?_|refine a0a 3 (by decide) (by decide) ?_|fail)
         exact rfl
        ·repeat' (first|refine a2q ⟨?_⟩|refine a0f pk ?_|refine ca (hc) ?_|refine a0a 3 (by decide) (by decide) ?_|fail)
         exact⟨1,.inr ⟨rfl,hr⟩,om,rfl,rfl⟩
       ·have h':¬ ((1:Nat):Int) < 1:=om
        rw[if_neg hneg]
        repeat' (first|refine a2q ⟨?_⟩|refine a0a 3 (by decide) (by decide) ?_|fail)
        exact rfl)
set_option maxHeartbeats 4000000 in
theorem c0o (h:Rf t):∀ (n:Nat) (i:Int),n<=20000->In t i->a7l (nd t i).k=true->i.toNat < n->evF (pgL fx F0) b3c [.ptr 0 0,.d (.int .i64 i)] (H9x t x [])=some (.d (.int .i64 (unk t (kn x) (n) i)),H9x t x [])
 |0,_,_,_,_,hn=>absurd hn (Nat.not_lt_zero _)
 |n+1,i,hm,hi,hty,hn=>by
  have pn:=b4k hi
  have hlen:((nd t i).kids.map (D.int .i64)).length=(nd t i).kids.length:=List.length_map ..
  have ih:=fun a (ha:a∈(nd t i).kids) (hb:a7l (nd t a).k=true)=>c0o h n a om (h.rt.inK hi ha) hb (by have:=h.rt.kid i hi a ha;omega)
  have hks:=h.rt.ty hi hty
  have hnm:∀ b,evF (pgL fx F0) a8h [.ptr 8 0,str (nd t i).t] (H9x t x [b])=some (boo (kn x (nd t i).t),H9x t x [b]):=fun b=>a2t (mv fx) [5,6,7,8] (X:=H9x t x [b]) (g0t (fx:=fx) (F:=F0) x (nd t i).t) rfl rfl rfl rfl rfl
  refine a0e (b3h (F:=F0)) rfl rfl rfl ?_
  rw[show unk t (kn x) (n+1) i=if(decide ((nd t i).k=13) && !kn x (nd t i).t) then i else match(nd t i).kids with|[]=> -1|a::_=>if 0<=unk t (kn x) n a then unk t (kn x) n a else -1 from rfl]
  cases d1:decide ((nd t i).k=13)<;>cases d2:(!kn x (nd t i).t)
  all_goals simp only[Bool.not_true,Bool.not_false,Bool.true_and,Bool.false_and,Bool.or_true,Bool.or_false,Bool.true_or,Bool.false_or,Bool.and_true,Bool.and_false,if_pos,if_neg,Bool.false_eq_true,if_false,if_true]
  all_goals repeat' (first|refine a2q ⟨?_⟩|refine a0f pn ?_|refine ca (hnm _) ?_|refine a0j d1 ?_|refine a0h d1 ?_|refine a0j d2 ?_|refine a0h d2 ?_|refine a0a 3 (by decide) (by decide) ?_|fail)
  all_goals first
    |exact rfl
    |(rcases hks with ek|⟨a,ek,ea⟩
      ·refine a0o (α:=Nat) (fun j=>1 - j) (fun j=>[(0,.ptr 0 0),(32,.d (.sl ((nd t i).kids.map (D.int .i64)))),(33,i64 0),(34,i64 j)]) (fun _=>H9x t x [.box [.d (.int .i64 (nd t i).k),str (nd t i).t,.d (.int .i64 (nd t i).v),.d (.sl ((nd t i).kids.map (D.int .i64))),.d (.int .i64 (nd t i).f),.d (.int .i64 (nd t i).e)]]) (fun j=>j=0) ?_ 0 rfl (by rw[ek];rfl) rfl
       rintro j rfl
       have h':¬ ((0:Nat):Int) < 0:=om
       repeat' (first|refine a2q ⟨?_⟩|refine a0a 3 (by decide) (by decide) ?_|fail)
       rw[ek]
       first|exact rfl|exact⟨rfl,rfl⟩
      ·have hc:=d3h (fx:=fx) (F:=F0) (X:=[.box [.d (.int .i64 (nd t i).k),str (nd t i).t,.d (.int .i64 (nd t i).v),.d (.sl ((nd t i).kids.map (D.int .i64))),.d (.int .i64 (nd t i).f),.d (.int .i64 (nd t i).e)]]) (ih a (by rw[ek];exact List.mem_cons_self) ea) rfl rfl
       refine a0o (α:=Nat) (fun j=>1 - j) (fun j=>[(0,.ptr 0 0),(32,.d (.sl ((nd t i).kids.map (D.int .i64)))),(33,i64 1),(34,i64 j)]) (fun _=>H9x t x [.box [.d (.int .i64 (nd t i).k),str (nd t i).t,.d (.int .i64 (nd t i).v),.d (.sl ((nd t i).kids.map (D.int .i64))),.d (.int .i64 (nd t i).f),.d (.int .i64 (nd t i).e)]]) (fun j=>j=0\/(j=1/\¬ 0<=unk t (kn x) n a)) ?_ 0 (.inl rfl) (by rw[ek];rfl) rfl
       have ek2:(match(nd t i).kids with|[]=> -1|a::_=>if 0<=unk t (kn x) n a then unk t (kn x) n a else -1)=if 0<=unk t (kn x) n a then unk t (kn x) n a else -1:=by rw[ek]
       rw[ek2]
       rintro j (rfl|⟨rfl,hneg⟩)
       ·have h':((0:Nat):Int) < 1:=om
        have pk:0<=((0:Nat):Int)/\((nd t i).kids.map (D.int .i64))[((0:Nat):Int).toNat]? =some (.int .i64 a):=⟨om,by rw[ek];rfl⟩
        by_cases hr:0<=unk t (kn x) n a
        ·rw[if_pos hr]
         repeat' (first|refine a2q ⟨?_⟩|refine a0f pk ?_|refine ca (hc) ?_|refine a0a 3 (by decide) (by decide) ?_|fail)
         exact rfl
        ·repeat' (first|refine a2q ⟨?_⟩|refine a0f pk ?_|refine ca (hc) ?_|refine a0a 3 (by decide) (by decide) ?_|fail)
         exact⟨1,.inr ⟨rfl,hr⟩,om,rfl,rfl⟩
       ·have h':¬ ((1:Nat):Int) < 1:=om
        rw[if_neg hneg]
        repeat' (first|refine a2q ⟨?_⟩|refine a0a 3 (by decide) (by decide) ?_|fail)
        exact rfl)
end
end Go.Vm.Ite
namespace Go.Vm.Ite
open Go.Vm.Tp (Nd a6q a1l a7l)
open Go.Vm.Ip
open Go.Vm.Io (In Rt nd txt tx a3o mem ret a3g b0a roots b8u col)
open Go.Vm.Itr (b8z)
theorem a6n {α β:Type} (f:α->β) {l:List α} {i:Nat} (h:i < l.length):(l.take i).map f++[f l[i]]=(l.take (i+1)).map f:=by
 rw[List.take_add_one,List.getElem?_eq_getElem h,List.map_append];rfl
theorem e4o {l:List Int} {i:Nat} (h:i < l.length):0<=(i:Int)/\(l.map (D.int .i64))[(i:Int).toNat]? =some (.int .i64 l[i]):=⟨om,by rw[Int.toNat_natCast,List.getElem?_map,List.getElem?_eq_getElem h];rfl⟩
abbrev NBx (t:List Nd) (i:Int):Ob:= .box [.d (.int .i64 (nd t i).k),str (nd t i).t,.d (.int .i64 (nd t i).v),.d (.sl ((nd t i).kids.map (D.int .i64))),.d (.int .i64 (nd t i).f),.d (.int .i64 (nd t i).e)]
section
variable {fx:Nat->Option Obj} {t:List Nd}
set_option maxHeartbeats 8000000 in
theorem e9l (h:Rf t) (l:List Int) (hll:l.length<=1048576) (hl:∀ n∈l,In t n/\((nd t n).k=2\/(nd t n).k=3\/(nd t n).k=4)):evF (pgL fx F0) a6s [.ptr 0 0,.d (c0n l)] (H4x t ⟨[],[],[]⟩ [])=some (.tup [i64 (col t l).2,boo (decide ((col t l).2 < 0))],H4x t (col t l).1 []):=by
 refine a0e (b3d (F:=F0)) rfl rfl rfl ?_
 have hlen:(l.map (D.int .i64)).length=l.length:=List.length_map ..
 refine run ⟨?_⟩
 refine a0o (α:=Nat×Its×Int) (fun a=>l.length - a.1) (fun a=>[(0,.ptr 0 0),(6,i64 a.2.2),(21,.d (c0n l)),(22,i64 l.length),(23,i64 a.1)]) (fun a=>H4x t a.2.1 []) (fun a=>a.1<=l.length/\(l.drop a.1).foldl (b8u t) a.2=col t l/\a.2.1.ss.length<=a.1/\a.2.1.es.length<=a.1/\a.2.1.fs.length<=a.1) ?_ (0,⟨[],[],[]⟩,-1) ⟨Nat.zero_le _,by rw[List.drop_zero];rfl,Nat.le_refl _,Nat.le_refl _,Nat.le_refl _⟩ (by show[_,_,_,(22,i64 ((l.map (D.int .i64)).length:Int)),_]=_;rw[hlen];rfl) rfl
 rintro⟨j,it,bad⟩ ⟨hj,hco,hs,he,hf⟩
 simp only at hj hco hs he hf⊢
 by_cases hlt:j < l.length
 ·have c1:(j:Int) < (l.length:Int):=om
  have pj:=e4o hlt
  rw[List.drop_eq_getElem_cons hlt,List.foldl_cons]at hco
  obtain⟨hin,hkk⟩:=hl _ (List.getElem_mem hlt)
  generalize l[j]=n at pj hco hin hkk
  have pn:=b4k hin
  have hkl:=h.kl n
  have hkn:((nd t n).kids.map (D.int .i64)).length=(nd t n).kids.length:=List.length_map ..
  have wj:IntKind.i64.wrap ((j:Int)+1)=((j+1:Nat):Int):=by rw[a1k om];omega
  have wi:∀ i:Nat,i < (nd t n).kids.length->IntKind.i64.wrap ((i:Int)+1)=((i+1:Nat):Int):=fun i hi=>by rw[a1k om];omega
  rcases hkk with k2|k3|k4
  ·have y3:¬ (nd t n).k=3:=om
   have y4:¬ (nd t n).k=4:=om
   obtain⟨ps,ra,rb,ek,hps,hra,hv⟩:=h.rt.fn n hin k2
   have hk:∀ a∈ps,In t a/\((nd t a).kids=[]\/∃ b,(nd t a).kids=[b]/\a7l (nd t b).k=true):=fun a ha=>by
     have hia:=h.rt.inK hin (k:=a) (by rw[ek];exact List.mem_append_left _ ha)
     exact⟨hia,.inr (h.rt.fd a hia (.inr (hps a ha)))⟩
   have hir:In t ra:=h.rt.inK hin (k:=ra) (by rw[ek];simp)
   have hk2:(nd t n).kids.length=ps.length+2:=by rw[ek];simp
   have ew:IntKind.i64.wrap ((((nd t n).kids.map (D.int .i64)).length:Int) - 2)=((ps.length:Nat):Int):=by rw[hkn,hk2,a1k om];omega
   have pr:0<=IntKind.i64.wrap ((((nd t n).kids.map (D.int .i64)).length:Int) - 2)/\((nd t n).kids.map (D.int .i64))[(IntKind.i64.wrap ((((nd t n).kids.map (D.int .i64)).length:Int) - 2)).toNat]? =some (.int .i64 ra):=by
    rw[ew,ek,Int.toNat_natCast];exact⟨om,by simp⟩
   have hte:=fun H=>f1u (fx:=fx) (F:=F0) h hir hra H
   have s1:0<=IntKind.i64.wrap ((((nd t n).kids.map (D.int .i64)).length:Int) - 2):=by rw[ew];omega
   have s2:0<=(IntKind.i64.wrap ((((nd t n).kids.map (D.int .i64)).length:Int) - 2)).toNat/\(IntKind.i64.wrap ((((nd t n).kids.map (D.int .i64)).length:Int) - 2)).toNat<=((nd t n).kids.map (D.int .i64)).length/\true=true:=⟨Nat.zero_le _,by rw[ew,hkn,hk2];omega,rfl⟩
   have hmem:mem t n=ps:=by unfold mem;rw[if_pos k2,hk2,ek,Nat.add_sub_cancel];simp
   have hret:ret t n=ra:=by unfold ret;rw[hk2,ek,Nat.add_sub_cancel];simp
   have hg:grew (H4x t it [NBx t n]) (H4x t it [NBx t n]++[.box [str [],.nils,.nils,str [],i64 0]])=true:=(d3y _ _).trans rfl
   repeat' (first|refine run ⟨?_⟩|refine a0f pj ?_|refine a0f pn ?_|refine a0f pr ?_|refine ca (hte _) ?_|refine And.intro hg ?_|refine And.intro s1 ?_|refine And.intro s2 ?_|fail)
   rw[show List.drop 0 (List.take (IntKind.i64.wrap ((((nd t n).kids.map (D.int .i64)).length:Int) - 2)).toNat ((nd t n).kids.map (D.int .i64)))=ps.map (D.int .i64)from by rw[ew,Int.toNat_natCast,ek,List.map_append,List.drop_zero];simp]
   have hpl:(ps.map (D.int .i64)).length=ps.length:=List.length_map ..
   refine a0o (α:=Nat×List Fld×List Bool) (fun a=>ps.length - a.1) (fun a=>[(0,.ptr 0 0),(6,i64 bad),(8,i64 n),(18,.ptr 5 0),(21,.d (c0n l)),(22,i64 l.length),(23,i64 j),(59,.d (c0n ps)),(60,i64 ps.length),(61,i64 a.1)]) (fun a=>H4x t it [NBx t n,.box [str (nd t n).t,.row 6 a.2.1.length,.row 7 a.2.2.length,str (tx t ra),i64 n],.row 2 (a.2.1.map Fld.D),.row 1 (a.2.2.map .bool)]) (fun a=>a.1<=ps.length/\a.2.1=(ps.take a.1).map (a3o t)/\a.2.2=(ps.take a.1).map (fun k=>decide ((nd t k).v=1))) ?_ (0,[],[]) ⟨Nat.zero_le _,rfl,rfl⟩ (by show[_,_,_,_,_,_,_,_,(60,i64 ((ps.map (D.int .i64)).length:Int)),_]=_;rw[hpl];rfl) rfl
   rintro⟨i,fs,ms⟩ ⟨hi,hfs,hms⟩
   simp only at hi hfs hms⊢
   have hfl:fs.length=i:=by rw[hfs,List.length_map,List.length_take];omega
   have hml:ms.length=i:=by rw[hms,List.length_map,List.length_take];omega
   by_cases hil:i < ps.length
   ·have c2:(i:Int) < (ps.length:Int):=om
    have pi:=e4o hil
    obtain⟨hia,hka⟩:=hk _ (List.getElem_mem hil)
    have pa:=b4k hia
    have hfe:=fun X=>d7j (fx:=fx) (F:=F0) (x:=it) (X:=X) h hia hka
    have hroom:(fs.map Fld.D).length=fs.length/\roomy (fs.length+1) 32:=⟨List.length_map ..,by unfold roomy;omega⟩
    have hroom2:(ms.map D.bool).length=ms.length/\roomy (ms.length+1) 1:=⟨List.length_map ..,by unfold roomy;omega⟩
    repeat' (first|refine run ⟨?_⟩|refine a0f pi ?_|refine a0f pa ?_|refine ca (hfe _) ?_|refine And.intro ⟨rfl,hroom⟩ ?_|refine And.intro ⟨rfl,hroom2⟩ ?_|refine And.intro ⟨rfl,by decide⟩ ?_|fail)
    refine⟨(i+1,fs++[a3o t ps[i]],ms++[decide ((nd t ps[i]).v=1)]),⟨by show i+1<=_;omega,by show _++_=_;rw[hfs];exact a6n _ hil,by show _++_=_;rw[hms];exact a6n (fun k=>decide ((nd t k).v=1)) hil⟩,by show _ - (i+1) < _ - i;omega,by rw[wi i om];rfl,?_⟩
    show H4x t it [NBx t n,.box [str (nd t n).t,.row 6 (fs.length+1),.row 7 (ms.length+1),str (tx t ra),i64 n],.row 2 (fs.map Fld.D++[(a3o t ps[i]).D]),.row 1 (ms.map .bool++[.bool (decide ((nd t ps[i]).v=1))])]=_
    simp
   ·have c2:¬ (i:Int) < (ps.length:Int):=om
    have hie:i=ps.length:=om
    have hfs2:fs=ps.map (a3o t):=by rw[hfs,hie,List.take_length]
    have hms2:ms=ps.map (fun k=>decide ((nd t k).v=1)):=by rw[hms,hie,List.take_length]
    have ht:toD (H4x t it [NBx t n,.box [str (nd t n).t,.row 6 fs.length,.row 7 ms.length,str (tx t ra),i64 n],.row 2 (fs.map Fld.D),.row 1 (ms.map .bool)]) (.agg [str (nd t n).t,.row 6 fs.length,.row 7 ms.length,str (tx t ra),i64 n])=some (b0a t n).D:=by
     simp[toD,a9y,d8b,b0a,Fnc.D,a1y,hmem,hret,hfs2,hms2]
    have hroom:(it.fs.map Fnc.D).length=it.fs.length/\roomy (it.fs.length+1) 88:=⟨List.length_map ..,by unfold roomy;omega⟩
    have hcol:b8u t (it,bad) n=(⟨it.ss,it.es,it.fs++[b0a t n]⟩,if 64 < it.fs.length+1/\bad < 0 then n else bad):=by
     unfold b8u;simp[y3,y4]
    rw[hcol]at hco
    have fin:∀ b:Int,(.box [.d (.sl (t.map Nd.D)),.row 1 it.ss.length,.row 2 it.es.length,.row 3 (it.fs.length+1),.nul]:: .row 2 (it.ss.map Nam.D):: .row 2 (it.es.map Nam.D):: .row 5 (it.fs.map Fnc.D++[(b0a t n).D])::[]:Hp)=H4x t ⟨it.ss,it.es,it.fs++[b0a t n]⟩ []:=fun b=>by simp
    by_cases f64:64 < it.fs.length+1
    ·have d64:(64:Int) < ((it.fs.length+1:Nat):Int):=om
     by_cases hb:bad < 0
     ·rw[if_pos ⟨f64,hb⟩]at hco
      repeat' (first|refine a2q ⟨?_⟩|refine a0a 8 (by decide) (by decide) ?_|refine Exists.intro _ (And.intro ht ?_)|refine And.intro ⟨rfl,hroom⟩ ?_|refine And.intro ⟨rfl,by decide⟩ ?_|fail)
      exact⟨(j+1,⟨it.ss,it.es,it.fs++[b0a t n]⟩,n),⟨by show j+1<=_;omega,hco,by show it.ss.length<=j+1;omega,by show it.es.length<=j+1;omega,by show(_++[_]).length<=j+1;rw[List.length_append,List.length_singleton];omega⟩,by show _ - (j+1) < _ - j;omega,by rw[wj];rfl,fin 0⟩
     ·rw[if_neg (fun e=>hb e.2)]at hco
      repeat' (first|refine a2q ⟨?_⟩|refine a0a 8 (by decide) (by decide) ?_|refine Exists.intro _ (And.intro ht ?_)|refine And.intro ⟨rfl,hroom⟩ ?_|refine And.intro ⟨rfl,by decide⟩ ?_|fail)
      exact⟨(j+1,⟨it.ss,it.es,it.fs++[b0a t n]⟩,bad),⟨by show j+1<=_;omega,hco,by show it.ss.length<=j+1;omega,by show it.es.length<=j+1;omega,by show(_++[_]).length<=j+1;rw[List.length_append,List.length_singleton];omega⟩,by show _ - (j+1) < _ - j;omega,by rw[wj];rfl,fin 0⟩
    ·have d64:¬ (64:Int) < ((it.fs.length+1:Nat):Int):=om
     rw[if_neg (fun e=>f64 e.1)]at hco
     repeat' (first|refine a2q ⟨?_⟩|refine a0a 8 (by decide) (by decide) ?_|refine Exists.intro _ (And.intro ht ?_)|refine And.intro ⟨rfl,hroom⟩ ?_|refine And.intro ⟨rfl,by decide⟩ ?_|fail)
     exact⟨(j+1,⟨it.ss,it.es,it.fs++[b0a t n]⟩,bad),⟨by show j+1<=_;omega,hco,by show it.ss.length<=j+1;omega,by show it.es.length<=j+1;omega,by show(_++[_]).length<=j+1;rw[List.length_append,List.length_singleton];omega⟩,by show _ - (j+1) < _ - j;omega,by rw[wj];rfl,fin 0⟩
  ·have y3:=k3
   have hk:∀ a∈(nd t n).kids,(nd t a).kids=[]\/∃ b,(nd t a).kids=[b]/\a7l (nd t b).k=true:=fun a ha=> .inr (h.rt.fd a (h.rt.inK hin ha) (.inl (h.rt.st n hin k3 a ha)))
   repeat' (first|refine run ⟨?_⟩|refine a0f pj ?_|refine a0f pn ?_|fail)
   refine a0o (α:=Nat×List Fld) (fun a=>(nd t n).kids.length - a.1) (fun a=>[(0,.ptr 0 0),(6,i64 bad),(8,i64 n),(11,.ptr 5 0),(21,.d (c0n l)),(22,i64 l.length),(23,i64 j),(114,.d (c0n (nd t n).kids)),(115,i64 (nd t n).kids.length),(116,i64 a.1)]) (fun a=>H4x t it [NBx t n,.box [str (nd t n).t,.row 6 a.2.length],.row 2 (a.2.map Fld.D)]) (fun a=>a.1<=(nd t n).kids.length/\a.2=((nd t n).kids.take a.1).map (a3o t)) ?_ (0,[]) ⟨Nat.zero_le _,rfl⟩ (by show[_,_,_,_,_,_,_,_,(115,i64 (((nd t n).kids.map (D.int .i64)).length:Int)),_]=_;rw[hkn];rfl) rfl
   rintro⟨i,fs⟩ ⟨hi,hfs⟩
   simp only at hi hfs⊢
   have hfl:fs.length=i:=by rw[hfs,List.length_map,List.length_take];omega
   by_cases hil:i < (nd t n).kids.length
   ·have c2:(i:Int) < ((nd t n).kids.length:Int):=om
    have pi:=e4o hil
    have hm:=List.getElem_mem hil
    have hfe:=fun X=>d7j (fx:=fx) (F:=F0) (x:=it) (X:=X) h (h.rt.inK hin hm) (hk _ hm)
    have hroom:(fs.map Fld.D).length=fs.length/\roomy (fs.length+1) 32:=⟨List.length_map ..,by unfold roomy;omega⟩
    repeat' (first|refine run ⟨?_⟩|refine a0f pi ?_|refine ca (hfe _) ?_|refine And.intro ⟨rfl,hroom⟩ ?_|refine And.intro ⟨rfl,by decide⟩ ?_|fail)
    refine⟨(i+1,fs++[a3o t (nd t n).kids[i]]),⟨by show i+1<=_;omega,by show _++_=_;rw[hfs];exact a6n _ hil⟩,by show _ - (i+1) < _ - i;omega,by rw[wi i hil];rfl,?_⟩
    show H4x t it [NBx t n,.box [str (nd t n).t,.row 6 (fs.length+1)],.row 2 (fs.map Fld.D++[(a3o t (nd t n).kids[i]).D])]=_
    simp
   ·have c2:¬ (i:Int) < ((nd t n).kids.length:Int):=om
    have hie:i=(nd t n).kids.length:=om
    have hfs2:fs=(nd t n).kids.map (a3o t):=by rw[hfs,hie,List.take_length]
    have ht:toD (H4x t it [NBx t n,.box [str (nd t n).t,.row 6 fs.length],.row 2 (fs.map Fld.D)]) (.agg [str (nd t n).t,.row 6 fs.length])=some (a3g t n).D:=by
     simp[toD,a9y,d8b,a3g,Nam.D,a1y,hfs2]
    have hroom:(it.ss.map Nam.D).length=it.ss.length/\roomy (it.ss.length+1) 40:=⟨List.length_map ..,by unfold roomy;omega⟩
    have hcol:b8u t (it,bad) n=(⟨it.ss++[a3g t n],it.es,it.fs⟩,if 64 < it.ss.length+1/\bad < 0 then n else bad):=by
     unfold b8u;simp[k3]
    rw[hcol]at hco
    by_cases f64:64 < it.ss.length+1
    ·have d64:(64:Int) < ((it.ss.length+1:Nat):Int):=om
     by_cases hb:bad < 0
     ·rw[if_pos ⟨f64,hb⟩]at hco
      repeat' (first|refine a2q ⟨?_⟩|refine a0a 8 (by decide) (by decide) ?_|refine Exists.intro _ (And.intro ht ?_)|refine And.intro ⟨rfl,hroom⟩ ?_|refine And.intro ⟨rfl,by decide⟩ ?_|fail)
      refine⟨(j+1,⟨it.ss++[a3g t n],it.es,it.fs⟩,n),⟨by show j+1<=_;omega,hco,by show(_++[_]).length<=j+1;rw[List.length_append,List.length_singleton];omega,by show it.es.length<=j+1;omega,by show it.fs.length<=j+1;omega⟩,by show _ - (j+1) < _ - j;omega,by rw[wj];rfl,?_⟩
      show(.box [.d (.sl (t.map Nd.D)),.row 1 (it.ss.length+1),.row 2 (it.es.length),.row 3 (it.fs.length),.nul]:: .row 2 (it.ss.map Nam.D++[(a3g t n).D]):: .row 2 (it.es.map Nam.D):: .row 5 (it.fs.map Fnc.D)::[]:Hp)=_
      simp
     ·rw[if_neg (fun e=>hb e.2)]at hco
      repeat' (first|refine a2q ⟨?_⟩|refine a0a 8 (by decide) (by decide) ?_|refine Exists.intro _ (And.intro ht ?_)|refine And.intro ⟨rfl,hroom⟩ ?_|refine And.intro ⟨rfl,by decide⟩ ?_|fail)
      refine⟨(j+1,⟨it.ss++[a3g t n],it.es,it.fs⟩,bad),⟨by show j+1<=_;omega,hco,by show(_++[_]).length<=j+1;rw[List.length_append,List.length_singleton];omega,by show it.es.length<=j+1;omega,by show it.fs.length<=j+1;omega⟩,by show _ - (j+1) < _ - j;omega,by rw[wj];rfl,?_⟩
      show(.box [.d (.sl (t.map Nd.D)),.row 1 (it.ss.length+1),.row 2 (it.es.length),.row 3 (it.fs.length),.nul]:: .row 2 (it.ss.map Nam.D++[(a3g t n).D]):: .row 2 (it.es.map Nam.D):: .row 5 (it.fs.map Fnc.D)::[]:Hp)=_
      simp
    ·have d64:¬ (64:Int) < ((it.ss.length+1:Nat):Int):=om
     rw[if_neg (fun e=>f64 e.1)]at hco
     repeat' (first|refine a2q ⟨?_⟩|refine a0a 8 (by decide) (by decide) ?_|refine Exists.intro _ (And.intro ht ?_)|refine And.intro ⟨rfl,hroom⟩ ?_|refine And.intro ⟨rfl,by decide⟩ ?_|fail)
     refine⟨(j+1,⟨it.ss++[a3g t n],it.es,it.fs⟩,bad),⟨by show j+1<=_;omega,hco,by show(_++[_]).length<=j+1;rw[List.length_append,List.length_singleton];omega,by show it.es.length<=j+1;omega,by show it.fs.length<=j+1;omega⟩,by show _ - (j+1) < _ - j;omega,by rw[wj];rfl,?_⟩
     show(.box [.d (.sl (t.map Nd.D)),.row 1 (it.ss.length+1),.row 2 (it.es.length),.row 3 (it.fs.length),.nul]:: .row 2 (it.ss.map Nam.D++[(a3g t n).D]):: .row 2 (it.es.map Nam.D):: .row 5 (it.fs.map Fnc.D)::[]:Hp)=_
     simp
  ·have y3:¬ (nd t n).k=3:=om
   have y4:=k4
   have hk:∀ a∈(nd t n).kids,(nd t a).kids=[]\/∃ b,(nd t a).kids=[b]/\a7l (nd t b).k=true:=fun a ha=>h.rt.va a (h.rt.inK hin ha) (h.rt.en n hin k4 a ha)
   repeat' (first|refine run ⟨?_⟩|refine a0f pj ?_|refine a0f pn ?_|fail)
   refine a0o (α:=Nat×List Fld) (fun a=>(nd t n).kids.length - a.1) (fun a=>[(0,.ptr 0 0),(6,i64 bad),(8,i64 n),(14,.ptr 5 0),(21,.d (c0n l)),(22,i64 l.length),(23,i64 j),(154,.d (c0n (nd t n).kids)),(155,i64 (nd t n).kids.length),(156,i64 a.1)]) (fun a=>H4x t it [NBx t n,.box [str (nd t n).t,.row 6 a.2.length],.row 2 (a.2.map Fld.D)]) (fun a=>a.1<=(nd t n).kids.length/\a.2=((nd t n).kids.take a.1).map (a3o t)) ?_ (0,[]) ⟨Nat.zero_le _,rfl⟩ (by show[_,_,_,_,_,_,_,_,(155,i64 (((nd t n).kids.map (D.int .i64)).length:Int)),_]=_;rw[hkn];rfl) rfl
   rintro⟨i,fs⟩ ⟨hi,hfs⟩
   simp only at hi hfs⊢
   have hfl:fs.length=i:=by rw[hfs,List.length_map,List.length_take];omega
   by_cases hil:i < (nd t n).kids.length
   ·have c2:(i:Int) < ((nd t n).kids.length:Int):=om
    have pi:=e4o hil
    have hm:=List.getElem_mem hil
    have hfe:=fun X=>d7j (fx:=fx) (F:=F0) (x:=it) (X:=X) h (h.rt.inK hin hm) (hk _ hm)
    have hroom:(fs.map Fld.D).length=fs.length/\roomy (fs.length+1) 32:=⟨List.length_map ..,by unfold roomy;omega⟩
    repeat' (first|refine run ⟨?_⟩|refine a0f pi ?_|refine ca (hfe _) ?_|refine And.intro ⟨rfl,hroom⟩ ?_|refine And.intro ⟨rfl,by decide⟩ ?_|fail)
    refine⟨(i+1,fs++[a3o t (nd t n).kids[i]]),⟨by show i+1<=_;omega,by show _++_=_;rw[hfs];exact a6n _ hil⟩,by show _ - (i+1) < _ - i;omega,by rw[wi i hil];rfl,?_⟩
    show H4x t it [NBx t n,.box [str (nd t n).t,.row 6 (fs.length+1)],.row 2 (fs.map Fld.D++[(a3o t (nd t n).kids[i]).D])]=_
    simp
   ·have c2:¬ (i:Int) < ((nd t n).kids.length:Int):=om
    have hie:i=(nd t n).kids.length:=om
    have hfs2:fs=(nd t n).kids.map (a3o t):=by rw[hfs,hie,List.take_length]
    have ht:toD (H4x t it [NBx t n,.box [str (nd t n).t,.row 6 fs.length],.row 2 (fs.map Fld.D)]) (.agg [str (nd t n).t,.row 6 fs.length])=some (a3g t n).D:=by
     simp[toD,a9y,d8b,a3g,Nam.D,a1y,hfs2]
    have hroom:(it.es.map Nam.D).length=it.es.length/\roomy (it.es.length+1) 40:=⟨List.length_map ..,by unfold roomy;omega⟩
    have hcol:b8u t (it,bad) n=(⟨it.ss,it.es++[a3g t n],it.fs⟩,if 64 < it.es.length+1/\bad < 0 then n else bad):=by
     unfold b8u;simp[k4,y3]
    rw[hcol]at hco
    by_cases f64:64 < it.es.length+1
    ·have d64:(64:Int) < ((it.es.length+1:Nat):Int):=om
     by_cases hb:bad < 0
     ·rw[if_pos ⟨f64,hb⟩]at hco
      repeat' (first|refine a2q ⟨?_⟩|refine a0a 8 (by decide) (by decide) ?_|refine Exists.intro _ (And.intro ht ?_)|refine And.intro ⟨rfl,hroom⟩ ?_|refine And.intro ⟨rfl,by decide⟩ ?_|fail)
      refine⟨(j+1,⟨it.ss,it.es++[a3g t n],it.fs⟩,n),⟨by show j+1<=_;omega,hco,by show it.ss.length<=j+1;omega,by show(_++[_]).length<=j+1;rw[List.length_append,List.length_singleton];omega,by show it.fs.length<=j+1;omega⟩,by show _ - (j+1) < _ - j;omega,by rw[wj];rfl,?_⟩
      show(.box [.d (.sl (t.map Nd.D)),.row 1 (it.ss.length),.row 2 (it.es.length+1),.row 3 (it.fs.length),.nul]:: .row 2 (it.ss.map Nam.D):: .row 2 (it.es.map Nam.D++[(a3g t n).D]):: .row 5 (it.fs.map Fnc.D)::[]:Hp)=_
      simp
     ·rw[if_neg (fun e=>hb e.2)]at hco
      repeat' (first|refine a2q ⟨?_⟩|refine a0a 8 (by decide) (by decide) ?_|refine Exists.intro _ (And.intro ht ?_)|refine And.intro ⟨rfl,hroom⟩ ?_|refine And.intro ⟨rfl,by decide⟩ ?_|fail)
      refine⟨(j+1,⟨it.ss,it.es++[a3g t n],it.fs⟩,bad),⟨by show j+1<=_;omega,hco,by show it.ss.length<=j+1;omega,by show(_++[_]).length<=j+1;rw[List.length_append,List.length_singleton];omega,by show it.fs.length<=j+1;omega⟩,by show _ - (j+1) < _ - j;omega,by rw[wj];rfl,?_⟩
      show(.box [.d (.sl (t.map Nd.D)),.row 1 (it.ss.length),.row 2 (it.es.length+1),.row 3 (it.fs.length),.nul]:: .row 2 (it.ss.map Nam.D):: .row 2 (it.es.map Nam.D++[(a3g t n).D]):: .row 5 (it.fs.map Fnc.D)::[]:Hp)=_
      simp
    ·have d64:¬ (64:Int) < ((it.es.length+1:Nat):Int):=om
     rw[if_neg (fun e=>f64 e.1)]at hco
     repeat' (first|refine a2q ⟨?_⟩|refine a0a 8 (by decide) (by decide) ?_|refine Exists.intro _ (And.intro ht ?_)|refine And.intro ⟨rfl,hroom⟩ ?_|refine And.intro ⟨rfl,by decide⟩ ?_|fail)
     refine⟨(j+1,⟨it.ss,it.es++[a3g t n],it.fs⟩,bad),⟨by show j+1<=_;omega,hco,by show it.ss.length<=j+1;omega,by show(_++[_]).length<=j+1;rw[List.length_append,List.length_singleton];omega,by show it.fs.length<=j+1;omega⟩,by show _ - (j+1) < _ - j;omega,by rw[wj];rfl,?_⟩
     show(.box [.d (.sl (t.map Nd.D)),.row 1 (it.ss.length),.row 2 (it.es.length+1),.row 3 (it.fs.length),.nul]:: .row 2 (it.ss.map Nam.D):: .row 2 (it.es.map Nam.D++[(a3g t n).D]):: .row 5 (it.fs.map Fnc.D)::[]:Hp)=_
     simp
 ·have c1:¬ (j:Int) < (l.length:Int):=om
  have hje:j=l.length:=om
  rw[hje,List.drop_length,List.foldl_nil]at hco
  rw[<-hco]
  refine run ⟨?_⟩
  exact rfl
end
end Go.Vm.Ite
namespace Go.Vm.Ite
open Go.Vm.Tp (Nd a6q a1l a7l)
open Go.Vm.Ip
open Go.Vm.Io (In Rt nd txt tx a3o mem ret a3g b0a roots c7t b7n a7f b6x)
def dgO (t:List Nd):Option (Int×Int)->D
 |none=>Lex.dgD 0 0 0
 |some (c,n)=>Lex.dgD c (nd t n).f (nd t n).e
abbrev ZBo:Ob:= .box [i64 0,i64 0,i64 0]
section
variable {fx:Nat->Option Obj} {t:List Nd} {x:Its}
set_option maxHeartbeats 8000000 in
theorem f9n (h:Rf t) (l:List Int) (hll:l.length<=1048576) (hl:∀ n∈l,In t n):evF (pgL fx F0) a8b [.ptr 0 0,.d (c0n l)] (H9x t x [])=some (.d (dgO t (b7n t [] [b8a,d2b,b8i] l)),H9x t x []):=by
 refine a0e (b5l (F:=F0)) rfl rfl rfl ?_
 have hlen:(l.map (D.int .i64)).length=l.length:=List.length_map ..
 refine run ⟨?_⟩
 refine a0o (α:=Nat×List S×List S) (fun a=>l.length - a.1) (fun a=>[(0,.ptr 0 0),(4,.ptr 9 0),(5,.mp 10),(6,.mp 11),(19,.d (c0n l)),(20,i64 l.length),(21,i64 a.1)]) (fun a=>H9x t x [ZBo,.map (a8s a.2.1),.map (a8s a.2.2)]) (fun a=>a.1<=l.length/\b7n t a.2.1 a.2.2 (l.drop a.1)=b7n t [] [b8a,d2b,b8i] l) ?_ (0,[],[b8a,d2b,b8i]) ⟨Nat.zero_le _,by rw[List.drop_zero]⟩ (by show[_,_,_,_,_,(20,i64 ((l.map (D.int .i64)).length:Int)),_]=_;rw[hlen];rfl) rfl
 rintro⟨j,ts,fs⟩ ⟨hj,hco⟩
 simp only at hj hco⊢
 by_cases hlt:j < l.length
 ·have c1:(j:Int) < (l.length:Int):=om
  have pj:=e4o hlt
  rw[List.drop_eq_getElem_cons hlt]at hco
  have hin:=hl _ (List.getElem_mem hlt)
  generalize l[j]=n at pj hco hin
  have pn:=b4k hin
  have wj:IntKind.i64.wrap ((j:Int)+1)=((j+1:Nat):Int):=by rw[a1k om];omega
  obtain⟨ms,hms⟩:∃ ms,ms=mem t n:=⟨_,rfl⟩
  have hml:ms.length<=1048576:=by rw[hms];exact Nat.le_trans (b6x t n) (h.kl n)
  have hmi:∀ k∈ms,In t k:=fun k hk=>h.rt.inK hin (a7f (by rw[hms]at hk;exact hk))
  have hmm:(ms.map (D.int .i64)).length=ms.length:=List.length_map ..
  have hki:=fun X=>f9i (fx:=fx) (F:=F0) (x:=x) (X:=X) h hin
  have hdg:=fun e X=>b4c (fx:=fx) (F:=F0) (x:=x) (X:=X) (e:=e) hin
  have hdk:=fun k (hk:k∈ms) e X=>b4c (fx:=fx) (F:=F0) (x:=x) (X:=X) (e:=e) (hmi k hk)
  rw[<-hms]at hki
  rw[<-hco,b7n]
  rw[<-hms]
  have t1:=b1l ts
  have t2:=a8v (nd t n).t ts
  have t3:=b1c (nd t n).t ts
  have f1:=b1l fs
  have f2:=a8v (nd t n).t fs
  have f3:=b1c (nd t n).t fs
  by_cases k2:(nd t n).k=2
  ·rw[if_pos k2]
   by_cases hm:(nd t n).t∈fs
   ·rw[if_pos hm]at f2⊢
    repeat' (first|refine run ⟨?_⟩|refine a0f pj ?_|refine a0f pn ?_|refine mg f1 f2 ?_|refine ca (hdg _ _) ?_|fail)
    exact rfl
   rw[if_neg hm]at f2⊢
   have f3:=f3 hm
   by_cases hmost:6 < ms.length
   ·have d:(6:Int) < ((ms.map (D.int .i64)).length:Int):=om
    rw[if_pos hmost]
    repeat' (first|refine run ⟨?_⟩|refine a0f pj ?_|refine a0f pn ?_|refine mg f1 f2 ?_|refine And.intro f1 ?_|refine ca (hki _) ?_|refine ca (hdg _ _) ?_|fail)
    exact rfl
   have d:¬ (6:Int) < ((ms.map (D.int .i64)).length:Int):=om
   rw[if_neg hmost]
   repeat' (first|refine run ⟨?_⟩|refine a0f pj ?_|refine a0f pn ?_|refine mg f1 f2 ?_|refine And.intro f1 ?_|refine ca (hki _) ?_|fail)
   refine a0o (α:=Nat×List S) (fun a=>ms.length - a.1) (fun a=>[(0,.ptr 0 0),(4,.ptr 9 0),(5,.mp 10),(6,.mp 11),(13,.mp 13),(19,.d (c0n l)),(20,i64 l.length),(21,i64 j),(62,.d (c0n ms)),(63,i64 ms.length),(64,i64 a.1)]) (fun a=>H9x t x [ZBo,.map (a8s ts),.map (a8s (fs++[(nd t n).t])),NBx t n,.map (a8s a.2)]) (fun a=>a.1<=ms.length/\c7t t a.2 (ms.drop a.1)=c7t t [] ms) ?_ (0,[]) ⟨Nat.zero_le _,by rw[List.drop_zero]⟩ (by show[_,_,_,_,_,_,_,_,_,(63,i64 ((ms.map (D.int .i64)).length:Int)),_]=_;rw[hmm];rfl) (by show H9x t x [ZBo,.map (a8s ts),.map (c1u (.str (nd t n).t) (.int .i64 1) (a8s fs)),NBx t n,.map []]=_;rw[f3];rfl)
   rintro⟨i,own⟩ ⟨hi,hd⟩
   simp only at hi hd⊢
   by_cases hil:i < ms.length
   ·have c2:(i:Int) < (ms.length:Int):=om
    have pi:=e4o hil
    rw[List.drop_eq_getElem_cons hil,c7t]at hd
    have hk:=List.getElem_mem hil
    generalize ms[i]=k at pi hd hk
    have pk:=b4k (hmi k hk)
    have o1:=b1l own
    have o2:=a8v (nd t k).t own
    have o3:=b1c (nd t k).t own
    by_cases ho:(nd t k).t∈own
    ·rw[if_pos ho]at o2 hd
     rw[<-hd]
     repeat' (first|refine run ⟨?_⟩|refine a0f pi ?_|refine a0f pk ?_|refine mg o1 o2 ?_|refine ca (hdk k hk _ _) ?_|fail)
     exact rfl
    ·rw[if_neg ho]at o2 hd
     have o3:=o3 ho
     repeat' (first|refine run ⟨?_⟩|refine a0f pi ?_|refine a0f pk ?_|refine mg o1 o2 ?_|refine And.intro o1 ?_|fail)
     exact⟨(i+1,own++[(nd t k).t]),⟨by show i+1<=_;omega,hd⟩,by show _ - (i+1) < _ - i;omega,by rw[a1k (n:=(i:Int)+1) om];rfl,by show H9x t x [ZBo,_,_,NBx t n,.map (c1u (.str (nd t k).t) (.int .i64 1) (a8s own))]=_;rw[o3]⟩
   ·have c2:¬ (i:Int) < (ms.length:Int):=om
    have hie:i=ms.length:=om
    rw[hie,List.drop_length,c7t]at hd
    rw[<-hd]
    refine run ⟨?_⟩
    exact⟨(j+1,ts,(fs++[(nd t n).t])),⟨by show j+1<=_;omega,rfl⟩,by show _ - (j+1) < _ - j;omega,by rw[wj];rfl,rfl⟩
  ·rw[if_neg k2]
   by_cases hm:(nd t n).t∈ts
   ·rw[if_pos hm]at t2⊢
    repeat' (first|refine run ⟨?_⟩|refine a0f pj ?_|refine a0f pn ?_|refine mg t1 t2 ?_|refine ca (hdg _ _) ?_|fail)
    exact rfl
   rw[if_neg hm]at t2⊢
   have t3:=t3 hm
   by_cases hmost:16 < ms.length
   ·have d:(16:Int) < ((ms.map (D.int .i64)).length:Int):=om
    rw[if_pos hmost]
    repeat' (first|refine run ⟨?_⟩|refine a0f pj ?_|refine a0f pn ?_|refine mg t1 t2 ?_|refine And.intro t1 ?_|refine ca (hki _) ?_|refine ca (hdg _ _) ?_|fail)
    exact rfl
   have d:¬ (16:Int) < ((ms.map (D.int .i64)).length:Int):=om
   rw[if_neg hmost]
   repeat' (first|refine run ⟨?_⟩|refine a0f pj ?_|refine a0f pn ?_|refine mg t1 t2 ?_|refine And.intro t1 ?_|refine ca (hki _) ?_|fail)
   refine a0o (α:=Nat×List S) (fun a=>ms.length - a.1) (fun a=>[(0,.ptr 0 0),(4,.ptr 9 0),(5,.mp 10),(6,.mp 11),(13,.mp 13),(19,.d (c0n l)),(20,i64 l.length),(21,i64 j),(62,.d (c0n ms)),(63,i64 ms.length),(64,i64 a.1)]) (fun a=>H9x t x [ZBo,.map (a8s (ts++[(nd t n).t])),.map (a8s fs),NBx t n,.map (a8s a.2)]) (fun a=>a.1<=ms.length/\c7t t a.2 (ms.drop a.1)=c7t t [] ms) ?_ (0,[]) ⟨Nat.zero_le _,by rw[List.drop_zero]⟩ (by show[_,_,_,_,_,_,_,_,_,(63,i64 ((ms.map (D.int .i64)).length:Int)),_]=_;rw[hmm];rfl) (by show H9x t x [ZBo,.map (c1u (.str (nd t n).t) (.int .i64 1) (a8s ts)),.map (a8s fs),NBx t n,.map []]=_;rw[t3];rfl)
   rintro⟨i,own⟩ ⟨hi,hd⟩
   simp only at hi hd⊢
   by_cases hil:i < ms.length
   ·have c2:(i:Int) < (ms.length:Int):=om
    have pi:=e4o hil
    rw[List.drop_eq_getElem_cons hil,c7t]at hd
    have hk:=List.getElem_mem hil
    generalize ms[i]=k at pi hd hk
    have pk:=b4k (hmi k hk)
    have o1:=b1l own
    have o2:=a8v (nd t k).t own
    have o3:=b1c (nd t k).t own
    by_cases ho:(nd t k).t∈own
    ·rw[if_pos ho]at o2 hd
     rw[<-hd]
     repeat' (first|refine run ⟨?_⟩|refine a0f pi ?_|refine a0f pk ?_|refine mg o1 o2 ?_|refine ca (hdk k hk _ _) ?_|fail)
     exact rfl
    ·rw[if_neg ho]at o2 hd
     have o3:=o3 ho
     repeat' (first|refine run ⟨?_⟩|refine a0f pi ?_|refine a0f pk ?_|refine mg o1 o2 ?_|refine And.intro o1 ?_|fail)
     exact⟨(i+1,own++[(nd t k).t]),⟨by show i+1<=_;omega,hd⟩,by show _ - (i+1) < _ - i;omega,by rw[a1k (n:=(i:Int)+1) om];rfl,by show H9x t x [ZBo,_,_,NBx t n,.map (c1u (.str (nd t k).t) (.int .i64 1) (a8s own))]=_;rw[o3]⟩
   ·have c2:¬ (i:Int) < (ms.length:Int):=om
    have hie:i=ms.length:=om
    rw[hie,List.drop_length,c7t]at hd
    rw[<-hd]
    refine run ⟨?_⟩
    exact⟨(j+1,(ts++[(nd t n).t]),fs),⟨by show j+1<=_;omega,rfl⟩,by show _ - (j+1) < _ - j;omega,by rw[wj];rfl,rfl⟩
 ·have c1:¬ (j:Int) < (l.length:Int):=om
  have hje:j=l.length:=om
  rw[hje,List.drop_length,b7n]at hco
  rw[<-hco]
  refine run ⟨?_⟩
  exact rfl
end
end Go.Vm.Ite
namespace Go.Vm.Ite
open Go.Vm.Tp (Nd a6q a1l a7l)
open Go.Vm.Ip
open Go.Vm.Io (In Rt nd txt tx a3o mem ret a3g b0a roots a7f b6x inn unk tyl tyG e1e e1y)
section
variable {fx:Nat->Option Obj} {t:List Nd} {x:Its}
theorem f5w (l:List Int):((l.map (D.int .i64)).all (fun y=>y.cells.length==1))=true:=by simp[D.cells]
set_option maxHeartbeats 8000000 in
theorem g5b (h:Rf t) {n:Int} (hin:In t n) (hk:(nd t n).k=2\/(nd t n).k=3\/(nd t n).k=4):evF (pgL fx F0) a8e [.ptr 0 0,.d (.int .i64 n)] (H9x t x [])=some (.d (dgO t (tyG t (kn x) (decide ((nd t n).k=2)) (tyl t n))),H9x t x []):=by
 refine a0e (b6f (F:=F0)) rfl rfl rfl ?_
 have pn:=b4k hin
 have hkl:=h.kl n
 have hkn:((nd t n).kids.map (D.int .i64)).length=(nd t n).kids.length:=List.length_map ..
 obtain⟨ms,hms⟩:∃ ms,ms=mem t n:=⟨_,rfl⟩
 have hml:ms.length<=1048576:=by rw[hms];exact Nat.le_trans (b6x t n) (h.kl n)
 have hmi:∀ k∈ms,In t k/\((nd t k).kids=[]\/∃ a,(nd t k).kids=[a]/\a7l (nd t a).k=true):=fun k q=>h.rt.h6a hin hk (by rw[<-hms];exact q)
 have hmm:(ms.map (D.int .i64)).length=ms.length:=List.length_map ..
 have hki:=fun X=>f9i (fx:=fx) (F:=F0) (x:=x) (X:=X) h hin
 rw[<-hms]at hki
 obtain⟨L,hL⟩:∃ L,L=tyl t n:=⟨_,rfl⟩
 have hLi:∀ a∈L,In t a/\a7l (nd t a).k=true:=fun a ha=>h.rt.tylk hin hk (by rw[<-hL];exact ha)
 rw[<-hL]
 repeat' (first|refine run ⟨?_⟩|refine a0f pn ?_|refine ca (hki _) ?_|fail)
 refine a0o (α:=Nat×List Int) (fun a=>ms.length - a.1) (fun a=>[(0,.ptr 0 0),(4,.ptr 9 0),(5,.ptr 10 0),(6,.row 11 a.2.length),(23,.d (c0n ms)),(24,i64 ms.length),(25,i64 a.1)]) (fun a=>H9x t x [ZBo,NBx t n,.row 1 (a.2.map (D.int .i64))]) (fun a=>a.1<=ms.length/\a.2=((ms.take a.1).map fun k=>(nd t k).kids).flatten/\a.2.length<=a.1) ?_ (0,[]) ⟨Nat.zero_le _,rfl,Nat.le_refl _⟩ (by show[_,_,_,_,_,(24,i64 ((ms.map (D.int .i64)).length:Int)),_]=_;rw[hmm];rfl) rfl
 rintro⟨i,acc⟩ ⟨hi,ha,hal⟩
 simp only at hi ha hal⊢
 have hacc:(acc.map (D.int .i64)).length=acc.length:=List.length_map ..
 by_cases hil:i < ms.length
 ·have c2:(i:Int) < (ms.length:Int):=om
  have pi:=e4o hil
  obtain⟨g1,g2⟩:=hmi _ (List.getElem_mem hil)
  have ha2:((ms.take (i+1)).map fun k=>(nd t k).kids).flatten=acc++(nd t ms[i]).kids:=by
    rw[<-a6n (fun k=>(nd t k).kids) hil,List.flatten_append,<-ha];simp
  generalize ms[i]=k at pi g1 g2 ha2
  have pk:=b4k g1
  have hk1:(nd t k).kids.length<=1:=by rcases g2 with e|⟨a,e,_⟩<;>rw[e]<;>simp
  have hall:=f5w (nd t k).kids
  have hroom:(acc.map (D.int .i64)).length=acc.length/\roomy (acc.length+((nd t k).kids.map (D.int .i64)).length) 8:=⟨hacc,by rw[List.length_map];unfold roomy;omega⟩
  repeat' (first|refine run ⟨?_⟩|refine a0f pi ?_|refine a0f pk ?_|refine And.intro ⟨hall,by decide⟩ ?_|refine And.intro ⟨rfl,hroom⟩ ?_|fail)
  refine⟨(i+1,acc++(nd t k).kids),⟨by show i+1<=_;omega,ha2.symm,by show(acc++_).length<=i+1;rw[List.length_append];omega⟩,by show _ - (i+1) < _ - i;omega,?_,?_⟩
  ·rw[a1k (n:=(i:Int)+1) om]
   show[_,_,_,(6,V.row 11 (acc.length+((nd t k).kids.map (D.int .i64)).length)),_,_,_]=_
   rw[List.length_map,<-List.length_append];rfl
  ·show H9x t x [ZBo,NBx t n,.row 1 (acc.map (D.int .i64)++(nd t k).kids.map (D.int .i64))]=_
   rw[<-List.map_append]
 ·have c2:¬ (i:Int) < (ms.length:Int):=om
  have hie:i=ms.length:=om
  rw[hie,List.take_length,hms]at ha
  by_cases k2:(nd t n).k=2
  ·obtain⟨ps,b,ek,em,hir,hit⟩:=h.rt.h7g hin k2
   have hL2:L=acc++[ret t n]:=by rw[hL,ha];unfold tyl;rw[if_pos k2]
   have hk2:(nd t n).kids.length=ps.length+2:=by rw[ek];simp
   have ew:IntKind.i64.wrap ((((nd t n).kids.map (D.int .i64)).length:Int) - 2)=((ps.length:Nat):Int):=by rw[hkn,hk2,a1k om];omega
   have pr:0<=IntKind.i64.wrap ((((nd t n).kids.map (D.int .i64)).length:Int) - 2)/\((nd t n).kids.map (D.int .i64))[(IntKind.i64.wrap ((((nd t n).kids.map (D.int .i64)).length:Int) - 2)).toNat]? =some (.int .i64 (ret t n)):=by
    rw[ew,ek,Int.toNat_natCast];exact⟨om,by simp⟩
   have hroom:(acc.map (D.int .i64)).length=acc.length/\roomy (acc.length+1) 8:=⟨hacc,by unfold roomy;omega⟩
   have hLl:L.length=acc.length+1:=by rw[hL2];simp
   repeat' (first|refine run ⟨?_⟩|refine a0f pr ?_|refine And.intro ⟨rfl,by decide⟩ ?_|refine And.intro ⟨rfl,hroom⟩ ?_|fail)
   refine a0o (α:=Nat) (fun j=>L.length - j) (fun j=>[(0,.ptr 0 0),(4,.ptr 9 0),(5,.ptr 10 0),(55,.row 11 L.length),(56,i64 L.length),(57,i64 j)]) (fun _=>H9x t x [ZBo,NBx t n,.row 1 (L.map (D.int .i64))]) (fun j=>j<=L.length/\tyG t (kn x) (decide ((nd t n).k=2)) (L.drop j)=tyG t (kn x) (decide ((nd t n).k=2)) L) ?_ 0 ⟨Nat.zero_le _,by rw[List.drop_zero]⟩ (by rw[hLl];rfl) (by rw[hL2,List.map_append];rfl)
   rintro j ⟨hj,hd⟩
   rw[<-hd]
   have hLm:(L.map (D.int .i64)).length=L.length:=List.length_map ..
   by_cases hjl:j < L.length
   ·have c3:(j:Int) < (L.length:Int):=om
    have pj:=e4o hjl
    rw[List.drop_eq_getElem_cons hjl,tyG]at hd⊢
    obtain⟨q1,q2⟩:=hLi _ (List.getElem_mem hjl)
    generalize L[j]=a at pj hd q1 q2
    have eu:=fun X=>d3h (fx:=fx) (F:=F0) (X:=X) (c0o (fx:=fx) (x:=x) h t.length a h.rt.hi q1 q2 q1.2) rfl rfl
    have ei:=fun X=>d3h (fx:=fx) (F:=F0) (X:=X) (d1w (fx:=fx) (x:=x) h t.length (decide ((nd t n).k=2)) a h.rt.hi q1 q2 q1.2) rfl rfl
    have iu:=e1e h.rt (kn x) t.length a q1
    have ii:=e1y h.rt t.length (decide ((nd t n).k=2)) a q1
    generalize unk t (kn x) t.length a=u at eu iu hd
    generalize inn t t.length (decide ((nd t n).k=2)) a=v at ei ii hd
    by_cases cu:0<=u
    ·have dg:=fun e X=>b4c (fx:=fx) (F:=F0) (x:=x) (X:=X) (e:=e) (iu cu)
     rw[if_pos cu]
     repeat' (first|refine run ⟨?_⟩|refine And.intro hLm ?_|refine a0f pj ?_|refine ca (eu _) ?_|refine ca (dg _ _) ?_|fail)
     exact rfl
    ·rw[if_neg cu]at hd⊢
     by_cases cv:0<=v
     ·have dg:=fun e X=>b4c (fx:=fx) (F:=F0) (x:=x) (X:=X) (e:=e) (ii cv)
      rw[if_pos cv]
      repeat' (first|refine run ⟨?_⟩|refine And.intro hLm ?_|refine a0f pj ?_|refine ca (eu _) ?_|refine ca (ei _) ?_|refine ca (dg _ _) ?_|fail)
      exact rfl
     ·rw[if_neg cv]at hd⊢
      repeat' (first|refine run ⟨?_⟩|refine And.intro hLm ?_|refine a0f pj ?_|refine ca (eu _) ?_|refine ca (ei _) ?_|fail)
      exact⟨j+1,⟨om,rfl⟩,om,by rw[a1k om];rfl,rfl⟩
   ·have c3:¬ (j:Int) < (L.length:Int):=om
    obtain rfl:j=L.length:=om
    rw[List.drop_length,tyG]
    refine run ⟨?_⟩
    exact rfl
  ·have hL2:L=acc:=by rw[hL,ha];unfold tyl;rw[if_neg k2,List.append_nil]
   have hLl:L.length=acc.length:=by rw[hL2]
   refine run ⟨?_⟩
   refine a0o (α:=Nat) (fun j=>L.length - j) (fun j=>[(0,.ptr 0 0),(4,.ptr 9 0),(5,.ptr 10 0),(55,.row 11 L.length),(56,i64 L.length),(57,i64 j)]) (fun _=>H9x t x [ZBo,NBx t n,.row 1 (L.map (D.int .i64))]) (fun j=>j<=L.length/\tyG t (kn x) (decide ((nd t n).k=2)) (L.drop j)=tyG t (kn x) (decide ((nd t n).k=2)) L) ?_ 0 ⟨Nat.zero_le _,by rw[List.drop_zero]⟩ (by rw[hLl];rfl) (by rw[hL2])
   rintro j ⟨hj,hd⟩
   rw[<-hd]
   have hLm:(L.map (D.int .i64)).length=L.length:=List.length_map ..
   by_cases hjl:j < L.length
   ·have c3:(j:Int) < (L.length:Int):=om
    have pj:=e4o hjl
    rw[List.drop_eq_getElem_cons hjl,tyG]at hd⊢
    obtain⟨q1,q2⟩:=hLi _ (List.getElem_mem hjl)
    generalize L[j]=a at pj hd q1 q2
    have eu:=fun X=>d3h (fx:=fx) (F:=F0) (X:=X) (c0o (fx:=fx) (x:=x) h t.length a h.rt.hi q1 q2 q1.2) rfl rfl
    have ei:=fun X=>d3h (fx:=fx) (F:=F0) (X:=X) (d1w (fx:=fx) (x:=x) h t.length (decide ((nd t n).k=2)) a h.rt.hi q1 q2 q1.2) rfl rfl
    have iu:=e1e h.rt (kn x) t.length a q1
    have ii:=e1y h.rt t.length (decide ((nd t n).k=2)) a q1
    generalize unk t (kn x) t.length a=u at eu iu hd
    generalize inn t t.length (decide ((nd t n).k=2)) a=v at ei ii hd
    by_cases cu:0<=u
    ·have dg:=fun e X=>b4c (fx:=fx) (F:=F0) (x:=x) (X:=X) (e:=e) (iu cu)
     rw[if_pos cu]
     repeat' (first|refine run ⟨?_⟩|refine And.intro hLm ?_|refine a0f pj ?_|refine ca (eu _) ?_|refine ca (dg _ _) ?_|fail)
     exact rfl
    ·rw[if_neg cu]at hd⊢
     by_cases cv:0<=v
     ·have dg:=fun e X=>b4c (fx:=fx) (F:=F0) (x:=x) (X:=X) (e:=e) (ii cv)
      rw[if_pos cv]
      repeat' (first|refine run ⟨?_⟩|refine And.intro hLm ?_|refine a0f pj ?_|refine ca (eu _) ?_|refine ca (ei _) ?_|refine ca (dg _ _) ?_|fail)
      exact rfl
     ·rw[if_neg cv]at hd⊢
      repeat' (first|refine run ⟨?_⟩|refine And.intro hLm ?_|refine a0f pj ?_|refine ca (eu _) ?_|refine ca (ei _) ?_|fail)
      exact⟨j+1,⟨om,rfl⟩,om,by rw[a1k om];rfl,rfl⟩
   ·have c3:¬ (j:Int) < (L.length:Int):=om
    obtain rfl:j=L.length:=om
    rw[List.drop_length,tyG]
    refine run ⟨?_⟩
    exact rfl
end
end Go.Vm.Ite
namespace Go.Vm.Ite
open Go.Vm.Tp (Nd a6q a1l a7l)
open Go.Vm.Ip
open Go.Vm.Io (In Rt nd txt tx a3o mem ret a3g b0a roots c8o c8i b9v)
abbrev c6n (t:List Nd) (x:Its) (o0 o1 o2 o3:Ob) (X:Hp):Hp:=o0::o1::o2:: .box [.d (.sl (t.map Nd.D)),.row 4 x.ss.length,.row 5 x.es.length,.row 6 x.fs.length,.ptr 11 0]:: .row 2 (x.ss.map Nam.D):: .row 2 (x.es.map Nam.D):: .row 5 (x.fs.map Fnc.D)::IB x:: .map (a4c (nS x)):: .map (a4c (nE x)):: .map (a4c (nF x)):: .box [.mp 8,.mp 9,.mp 10]::o3::X
section
variable {fx:Nat->Option Obj} {t:List Nd} {x:Its}
theorem h2f {e i:Int} (hi:In t i) (o0 o1 o2 o3 y0 y1:Ob):evF (pgL fx FT) a2l [.ptr 3 0,.d (.int .i64 e),.d (.int .i64 i)] (c6n t x o0 o1 o2 o3 [y0,y1])=some (.d (Lex.dgD e (nd t i).f (nd t i).e),c6n t x o0 o1 o2 o3 [y0,y1]):=
 up (a2t (mv fx) [3,4,5,6,7,8,9,10,11] (X:=c6n t x o0 o1 o2 o3 [y0,y1]) (A:=[.ptr 3 0,.d (.int .i64 e),.d (.int .i64 i)]) (b4c (fx:=fx) (F:=F0) (x:=x) (X:=[]) (e:=e) hi) rfl rfl rfl rfl rfl)
theorem i0m {e i:Int} (hi:In t i) (o0 o1 o2 o3 y0 y1 y2 y3:Ob):evF (pgL fx FT) a2l [.ptr 3 0,.d (.int .i64 e),.d (.int .i64 i)] (c6n t x o0 o1 o2 o3 [y0,y1,y2,y3])=some (.d (Lex.dgD e (nd t i).f (nd t i).e),c6n t x o0 o1 o2 o3 [y0,y1,y2,y3]):=
 up (a2t (mv fx) [3,4,5,6,7,8,9,10,11] (X:=c6n t x o0 o1 o2 o3 [y0,y1,y2,y3]) (A:=[.ptr 3 0,.d (.int .i64 e),.d (.int .i64 i)]) (b4c (fx:=fx) (F:=F0) (x:=x) (X:=[]) (e:=e) hi) rfl rfl rfl rfl rfl)
theorem h9c (hx:b2u x) {N:Nat} (hN:N<=1000000) {s:S} (hd:a6t x N s) {d:List (S×Int×Int)} (hz:f2u x N d) (o0 o1 o2 o3 y0 y2:Ob):∃ d',f2u x N d'/\(∀ Y:Hp,Y=[]\/(∃ y3,Y=[y3])->evF (pgL fx FT) a8t [.d x.D,.ptr 11 0,str s,.mp 14] (c6n t x o0 o1 o2 o3 (y0:: .map (szM d)::y2::Y))=some (SzD (szF x N s),c6n t x o0 o1 o2 o3 (y0:: .map (szM d')::y2::Y))):=by
 obtain⟨r,H2,h1,rfl,d',h2,rfl⟩:=e8v (fx:=fx) x hx N hN N s hd (Nat.le_refl _) d hz
 refine⟨d',h2,fun Y hY=>?_⟩
 rcases hY with rfl|⟨y3,rfl⟩
 ·exact up (a2t (mv fx) [8,9,10,11,14] (X:=c6n t x o0 o1 o2 o3 [y0,.map (szM d),y2]) (A:=[.d x.D,.ptr 11 0,str s,.mp 14]) h1 rfl rfl rfl rfl rfl)
 ·exact up (a2t (mv fx) [8,9,10,11,14] (X:=c6n t x o0 o1 o2 o3 [y0,.map (szM d),y2,y3]) (A:=[.d x.D,.ptr 11 0,str s,.mp 14]) h1 rfl rfl rfl rfl rfl)
noncomputable def szA (t:List Nd) (x:Its) (l:List Int):Option (Int×Int):=match c8o t (c2z x) l with
 |some e=>some e
 |none=>c8i t (fun s=>d9x (szF x (b6v x) s)) l
set_option maxHeartbeats 8000000 in
theorem g5d (h:Rf t) (hx:b2u x) (hsm:Small x) (l:List Int) (hll:l.length<=1048576) (hl:∀ n∈l,In t n) (hcov:∀ s∈nS x++nE x,∃ n∈l,(nd t n).k≠2/\(nd t n).t=s) (o0 o1 o2 o3:Ob):
 evF (pgL fx FT) b5x [.ptr 3 0,.d (c0n l)] (c6n t x o0 o1 o2 o3 [])=some (.d (dgO t (szA t x l)),c6n t x o0 o1 o2 o3 []):=by
 refine a0e (b5t (F:=FT)) rfl rfl rfl ?_
 unfold szA
 have hlen:(l.map (D.int .i64)).length=l.length:=List.length_map ..
 have h1:(x.ss.map Nam.D).length=x.ss.length:=List.length_map ..
 have h2:(x.es.map Nam.D).length=x.es.length:=List.length_map ..
 have h3:(x.fs.map Fnc.D).length=x.fs.length:=List.length_map ..
 refine run ⟨?_⟩
 refine a0o (α:=Nat) (fun j=>l.length - j) (fun j=>[(0,.ptr 3 0),(1,.d (c0n l)),(4,.ptr 13 0),(13,.d (c0n l)),(14,i64 l.length),(15,i64 j)]) (fun _=>c6n t x o0 o1 o2 o3 [ZBo]) (fun j=>j<=l.length/\c8o t (c2z x) (l.drop j)=c8o t (c2z x) l) ?_ 0 ⟨Nat.zero_le _,by rw[List.drop_zero]⟩ (by show[_,_,_,_,(14,i64 ((l.map (D.int .i64)).length:Int)),_]=_;rw[hlen];rfl) rfl
 rintro j ⟨hj,hco⟩
 by_cases hlt:j < l.length
 ·have c1:(j:Int) < (l.length:Int):=om
  have pj:=e4o hlt
  rw[List.drop_eq_getElem_cons hlt]at hco
  have hin:=hl _ (List.getElem_mem hlt)
  generalize l[j]=n at pj hco hin
  have pn:=b4k hin
  have wj:IntKind.i64.wrap ((j:Int)+1)=((j+1:Nat):Int):=by rw[a1k om];omega
  have hkn:((nd t n).kids.map (D.int .i64)).length=(nd t n).kids.length:=List.length_map ..
  have he:=fun b=>d8t (fx:=fx) (p:=11) (h:=c6n t x o0 o1 o2 o3 [ZBo,b]) hx hsm ⟨8,9,10,rfl,rfl,rfl,rfl,by decide,by decide,by decide⟩ (nd t n).t
  have hdg:=fun e y0 y1=>h2f (fx:=fx) (x:=x) (e:=e) hin o0 o1 o2 o3 y0 y1
  rw[c8o]at hco
  by_cases k2:(nd t n).k=2
  ·have d2:(!decide ((nd t n).k=2))=false:=by rw[decide_eq_true k2];rfl
   have d4:¬ (nd t n).k=4:=om
   rw[if_neg (by rintro(q|q);exact q.1 k2;exact d4 q.1)]at hco
   repeat' (first|refine run ⟨?_⟩|refine a0f pj ?_|refine a0f pn ?_|refine And.intro h1 ?_|refine And.intro h2 ?_|refine And.intro h3 ?_|refine ca (he _) ?_|fail)
   exact⟨j+1,⟨om,hco⟩,om,by rw[wj];rfl,rfl⟩
  ·have d2:(!decide ((nd t n).k=2))=true:=by rw[decide_eq_false k2];rfl
   cases ce:c2z x (nd t n).t with
   |true=>
    rw[ce]at he
    rw[if_pos (.inl ⟨k2,ce⟩)]at hco
    rw[<-hco]
    repeat' (first|refine run ⟨?_⟩|refine a0f pj ?_|refine a0f pn ?_|refine And.intro h1 ?_|refine And.intro h2 ?_|refine And.intro h3 ?_|refine ca (he _) ?_|refine ca (hdg _ _ _) ?_|fail)
    first|exact rfl|exact⟨rfl,rfl⟩|(conv=>whnf)
   |false=>
    rw[ce]at he
    by_cases k4:(nd t n).k=4
    ·by_cases kk:(nd t n).kids=[]
     ·have d0:(((nd t n).kids.map (D.int .i64)).length:Int)=0:=by rw[kk];rfl
      rw[if_pos (.inr ⟨k4,kk⟩)]at hco
      rw[<-hco]
      repeat' (first|refine run ⟨?_⟩|refine a0f pj ?_|refine a0f pn ?_|refine And.intro h1 ?_|refine And.intro h2 ?_|refine And.intro h3 ?_|refine ca (he _) ?_|refine ca (hdg _ _ _) ?_|fail)
      exact rfl
     ·have d0:¬ (((nd t n).kids.map (D.int .i64)).length:Int)=0:=by
       intro q
       rw[hkn]at q
       exact kk (List.eq_nil_of_length_eq_zero om)
      rw[if_neg (by rintro(q|q);rw[ce]at q;cases q.2;exact kk q.2)]at hco
      repeat' (first|refine run ⟨?_⟩|refine a0f pj ?_|refine a0f pn ?_|refine And.intro h1 ?_|refine And.intro h2 ?_|refine And.intro h3 ?_|refine ca (he _) ?_|fail)
      exact⟨j+1,⟨om,hco⟩,om,by rw[wj];rfl,rfl⟩
    ·rw[if_neg (by rintro(q|q);rw[ce]at q;cases q.2;exact k4 q.1)]at hco
     repeat' (first|refine run ⟨?_⟩|refine a0f pj ?_|refine a0f pn ?_|refine And.intro h1 ?_|refine And.intro h2 ?_|refine And.intro h3 ?_|refine ca (he _) ?_|fail)
     exact⟨j+1,⟨om,hco⟩,om,by rw[wj];rfl,rfl⟩
 ·have c1:¬ (j:Int) < (l.length:Int):=om
  have hje:j=l.length:=om
  rw[hje,List.drop_length,c8o]at hco
  have hdeep:∀ s,a6t x (b6v x) s:=e8e fun s hs hg=>by
    obtain⟨n,hn,hk,e⟩:=hcov s hs
    have:=b9v hco.symm n hn hk
    rw[e,c8a hg]at this
    cases this
  have hN:b6v x<=1000000:=by
   unfold b6v
   have e1:=hsm.ss
   have e2:=hsm.es
   have e3:(nS x).length=x.ss.length:=by simp[nS]
   have e4:(nE x).length=x.es.length:=by simp[nE]
   rw[List.length_append];omega
  rw[<-hco]
  generalize b6v x=N at hdeep hN
  refine run ⟨?_⟩
  refine a0o (α:=Nat×List (S×Int×Int)) (fun a=>l.length - a.1) (fun a=>[(0,.ptr 3 0),(4,.ptr 13 0),(8,.mp 14),(59,.d (c0n l)),(60,i64 l.length),(61,i64 a.1)]) (fun a=>c6n t x o0 o1 o2 o3 [ZBo,.map (szM a.2)]) (fun a=>a.1<=l.length/\f2u x N a.2/\c8i t (fun s=>d9x (szF x N s)) (l.drop a.1)=c8i t (fun s=>d9x (szF x N s)) l) ?_ (0,[]) ⟨Nat.zero_le _,fun q hq=>(by cases hq),by rw[List.drop_zero]⟩ (by show[_,_,_,_,(60,i64 ((l.map (D.int .i64)).length:Int)),_]=_;rw[hlen];rfl) rfl
  rintro⟨i,d⟩ ⟨hi,hz,hd⟩
  simp only at hi hz hd⊢
  by_cases hil:i < l.length
  ·have c2:(i:Int) < (l.length:Int):=om
   have pj:=e4o hil
   rw[List.drop_eq_getElem_cons hil]at hd
   have hin:=hl _ (List.getElem_mem hil)
   generalize l[i]=n at pj hd hin
   have pn:=b4k hin
   have wi:IntKind.i64.wrap ((i:Int)+1)=((i+1:Nat):Int):=by rw[a1k om];omega
   have hdg:=fun e y0 y1 y2 y3=>i0m (fx:=fx) (x:=x) (e:=e) hin o0 o1 o2 o3 y0 y1 y2 y3
   rw[c8i]at hd
   by_cases k2:(nd t n).k=2
   ·rw[if_pos k2]at hd
    repeat' (first|refine run ⟨?_⟩|refine a0f pj ?_|refine a0f pn ?_|fail)
    exact⟨(i+1,d),⟨by show i+1<=_;omega,hz,hd⟩,by show _ - (i+1) < _ - i;omega,by rw[wi];rfl,rfl⟩
   ·rw[if_neg k2]at hd
    obtain⟨d',hz',hs⟩:=h9c (fx:=fx) (t:=t) hx hN (hdeep (nd t n).t) hz o0 o1 o2 o3 ZBo (NBx t n)
    have s0:=hs [] (.inl rfl)
    have s1:=fun y3=>hs [y3] (.inr ⟨y3,rfl⟩)
    replace hd:(if d9x (szF x N (nd t n).t)=true then some (2,n) else c8i t (fun s=>d9x (szF x N s)) (l.drop (i+1)))=c8i t (fun s=>d9x (szF x N s)) l:=hd
    generalize szF x N (nd t n).t=v at s0 s1 hd
    by_cases w1:v.1> 64
    ·rw[if_pos (show d9x v=true by unfold d9x;rw[decide_eq_true w1];rfl)]at hd
     rw[<-hd]
     repeat' (first|refine a2q ⟨?_⟩|refine d0g 11 rfl ?_|refine a0f pj ?_|refine a0f pn ?_|refine And.intro h1 ?_|refine And.intro h2 ?_|refine And.intro h3 ?_|refine ca (s0) ?_|refine ca (s1 _) ?_|refine ca (hdg _ _ _ _ _) ?_|fail)
     exact rfl
    ·by_cases w2:v.2> 1024
     ·rw[if_pos (show d9x v=true by unfold d9x;rw[decide_eq_true w2,Bool.or_true])]at hd
      rw[<-hd]
      repeat' (first|refine a2q ⟨?_⟩|refine d0g 11 rfl ?_|refine a0f pj ?_|refine a0f pn ?_|refine And.intro h1 ?_|refine And.intro h2 ?_|refine And.intro h3 ?_|refine ca (s0) ?_|refine ca (s1 _) ?_|refine ca (hdg _ _ _ _ _) ?_|fail)
      exact rfl
     ·rw[if_neg (show ¬ d9x v=true by unfold d9x;rw[decide_eq_false w1,decide_eq_false w2];decide)]at hd
      repeat' (first|refine a2q ⟨?_⟩|refine d0g 11 rfl ?_|refine a0f pj ?_|refine a0f pn ?_|refine And.intro h1 ?_|refine And.intro h2 ?_|refine And.intro h3 ?_|refine ca (s0) ?_|refine ca (s1 _) ?_|fail)
      exact⟨(i+1,d'),⟨by show i+1<=_;omega,hz',hd⟩,by show _ - (i+1) < _ - i;omega,by rw[wi];rfl,rfl⟩
  ·have c2:¬ (i:Int) < (l.length:Int):=om
   have hie:i=l.length:=om
   rw[hie,List.drop_length,c8i]at hd
   rw[<-hd]
   refine run ⟨?_⟩
   exact rfl
end
end Go.Vm.Ite
namespace Go.Vm.Io
open Go.Vm.Tp (Nd a9k kinds a1l b0v c4t a7l)
open Go.Vm.Ip (Fld Nam Fnc Its nS nE nF)
def is3 (t:List Nd) (n:Int):Bool:=decide ((nd t n).k=3)
def is4 (t:List Nd) (n:Int):Bool:=decide ((nd t n).k=4)
def is2 (t:List Nd) (n:Int):Bool:= !is3 t n && !is4 t n
def a0l (t:List Nd) (l:List Int):Its:=⟨(l.filter (is3 t)).map (a3g t),(l.filter (is4 t)).map (a3g t),(l.filter (is2 t)).map (b0a t)⟩
theorem f8k (t:List Nd):∀ (l:List Int) (a:Its×Int),(l.foldl (b8u t) a).1=⟨a.1.ss++(a0l t l).ss,a.1.es++(a0l t l).es,a.1.fs++(a0l t l).fs⟩
 |[],a=>by simp[a0l]
 |n::r,a=>by
  rw[List.foldl_cons,f8k t r]
  unfold b8u a0l
  by_cases k3:(nd t n).k=3
  ·have e3:is3 t n=true:=decide_eq_true k3
   have e4:is4 t n=false:=decide_eq_false om
   have e2:is2 t n=false:=by unfold is2;rw[e3];rfl
   rw[if_pos k3];simp[e3,e4,e2]
  ·by_cases k4:(nd t n).k=4
   ·have e3:is3 t n=false:=decide_eq_false k3
    have e4:is4 t n=true:=decide_eq_true k4
    have e2:is2 t n=false:=by unfold is2;rw[e3,e4];rfl
    rw[if_neg k3,if_pos k4];simp[e3,e4,e2]
   ·have e3:is3 t n=false:=decide_eq_false k3
    have e4:is4 t n=false:=decide_eq_false k4
    have e2:is2 t n=true:=by unfold is2;rw[e3,e4];rfl
    rw[if_neg k3,if_neg k4];simp[e3,e4,e2]
theorem d9r (t:List Nd) (l:List Int):(col t l).1=a0l t l:=by
 unfold col
 rw[f8k]
 rfl
theorem e7q (t:List Nd):∀ (l:List Int) (a:Its×Int),(∀ n∈l,0<=n)->(l.foldl (b8u t) a).2 < 0->a.2 < 0/\(a.1.ss.length<=64->(l.foldl (b8u t) a).1.ss.length<=64)/\(a.1.es.length<=64->(l.foldl (b8u t) a).1.es.length<=64)/\(a.1.fs.length<=64->(l.foldl (b8u t) a).1.fs.length<=64)
 |[],a,_,h=>⟨h,id,id,id⟩
 |n::r,a,hp,h=>by
  rw[List.foldl_cons]at h⊢
  obtain⟨g1,g2,g3,g4⟩:=e7q t r (b8u t a n) (fun m hm=>hp m (List.mem_cons_of_mem _ hm)) h
  have hn:=hp n (List.mem_cons_self)
  unfold b8u at g1 g2 g3 g4⊢
  by_cases k3:(nd t n).k=3
  ·rw[if_pos k3]at g1 g2 g3 g4⊢
   simp only at g1 g2 g3 g4⊢
   by_cases c:64 < a.1.ss.length+1/\a.2 < 0
   ·rw[if_pos c]at g1;omega
   ·rw[if_neg c]at g1
    exact⟨g1,fun q=>g2 (by rw[List.length_append,List.length_singleton];omega),g3,g4⟩
  ·rw[if_neg k3]at g1 g2 g3 g4⊢
   by_cases k4:(nd t n).k=4
   ·rw[if_pos k4]at g1 g2 g3 g4⊢
    simp only at g1 g2 g3 g4⊢
    by_cases c:64 < a.1.es.length+1/\a.2 < 0
    ·rw[if_pos c]at g1;omega
    ·rw[if_neg c]at g1
     exact⟨g1,g2,fun q=>g3 (by rw[List.length_append,List.length_singleton];omega),g4⟩
   ·rw[if_neg k4]at g1 g2 g3 g4⊢
    simp only at g1 g2 g3 g4⊢
    by_cases c:64 < a.1.fs.length+1/\a.2 < 0
    ·rw[if_pos c]at g1;omega
    ·rw[if_neg c]at g1
     exact⟨g1,g2,g3,fun q=>g4 (by rw[List.length_append,List.length_singleton];omega)⟩
theorem d7g {t:List Nd} {l:List Int} (hp:∀ n∈l,0<=n) (h:(col t l).2 < 0):(a0l t l).ss.length<=64/\(a0l t l).es.length<=64/\(a0l t l).fs.length<=64:=by
 have:=e7q t l (⟨[],[],[]⟩,-1) hp h
 rw[<-d9r]
 exact⟨this.2.1 (Nat.zero_le _),this.2.2.1 (Nat.zero_le _),this.2.2.2 (Nat.zero_le _)⟩
theorem f1q {t:List Nd}:∀ (l:List Int) (a:Its×Int),0<=(l.foldl (b8u t) a).2->a.2=(l.foldl (b8u t) a).2\/(l.foldl (b8u t) a).2∈l
 |[],a,_=> .inl rfl
 |n::r,a,h=>by
  rw[List.foldl_cons]at h⊢
  rcases f1q r _ h with e|e
  ·rw[<-e]
   unfold b8u
   repeat' split
   all_goals first|exact .inr List.mem_cons_self|exact .inl rfl
  ·exact .inr (List.mem_cons_of_mem _ e)
theorem c5b {t:List Nd}:∀ {ts fs:List S} {l:List Int},b7n t ts fs l=none->∀ n∈l,((nd t n).k=2->(mem t n).length<=6)/\((nd t n).k≠2->(mem t n).length<=16)
 |_,_,[],_,n,hn=>by cases hn
 |ts,fs,m::r,h,n,hn=>by
  rw[b7n]at h
  by_cases k2:(nd t m).k=2
  ·rw[if_pos k2]at h
   split at h
   ·cases h
   ·split at h
    ·cases h
    ·rename_i c1 c2
     split at h
     ·cases h
     ·rcases List.mem_cons.1 hn with q|q
      ·subst q;exact⟨fun _=>om,fun e=>absurd k2 e⟩
      ·exact c5b h n q
  ·rw[if_neg k2]at h
   split at h
   ·cases h
   ·split at h
    ·cases h
    ·rename_i c1 c2
     split at h
     ·cases h
     ·rcases List.mem_cons.1 hn with q|q
      ·subst q;exact⟨fun e=>absurd e k2,fun _=>om⟩
      ·exact c5b h n q
theorem f0z {t:List Nd}:∀ {ts fs:List S} {l:List Int} {c n:Int},b7n t ts fs l=some (c,n)->c≠0
 |_,_,[],_,_,h=>by cases h
 |ts,fs,m::r,c,n,h=>by
  rw[b7n]at h
  repeat' split at h
  all_goals first|(cases h;decide)|exact f0z h
theorem h5l {t:List Nd} {kn:S->Bool} {b:Bool}:∀ {l:List Int} {c n:Int},tyG t kn b l=some (c,n)->c≠0
 |[],_,_,h=>by cases h
 |m::r,c,n,h=>by
  rw[tyG]at h
  repeat' split at h
  all_goals first|(cases h;decide)|exact h5l h
theorem g0f {t:List Nd} {e:S->Bool}:∀ {l:List Int} {c n:Int},c8o t e l=some (c,n)->c≠0
 |[],_,_,h=>by cases h
 |m::r,c,n,h=>by
  rw[c8o]at h
  repeat' split at h
  all_goals first|(cases h;decide)|exact g0f h
theorem g4q {t:List Nd} {e:S->Bool}:∀ {l:List Int} {c n:Int},c8i t e l=some (c,n)->c≠0
 |[],_,_,h=>by cases h
 |m::r,c,n,h=>by
  rw[c8i]at h
  repeat' split at h
  all_goals first|(cases h;decide)|exact g4q h
def tyA (t:List Nd) (kn:S->Bool):List Int->Option (Int×Int)
 |[]=>none
 |n::r=>match tyG t kn (decide ((nd t n).k=2)) (tyl t n)with
  |some e=>some e
  |none=>tyA t kn r
end Go.Vm.Io
namespace Go.Vm.Ite
open Go.Vm.Tp (Nd a6q a1l a7l)
open Go.Vm.Ip
open Go.Vm.Io (In Rt nd txt tx a3o mem ret a3g b0a roots a0l is2 is3 is4 col d7g b7n c5b d2v b6x a7f)
section
variable {fx:Nat->Option Obj} {F:Nat->Option a0x}
set_option maxHeartbeats 1000000 in
theorem f0w (x:Its) (hx:b2u x) (o0 o1 o2 o3 o4 o5 o6:Ob):evF (pgL fx F) b2j [.d x.D] [o0,o1,o2,o3,o4,o5,o6]=some (.ptr 11 0,[o0,o1,o2,o3,o4,o5,o6,IB x,.map (a4c (nS x)),.map (a4c (nE x)),.map (a4c (nF x)),.box [.mp 8,.mp 9,.mp 10]]):=by
 apply up
 have es:(nS x).length=x.ss.length:=by simp[nS]
 have ee:(nE x).length=x.es.length:=by simp[nE]
 have ef:(nF x).length=x.fs.length:=by simp[nF]
 have l0:x.ss.length<=140737488355328:=hx.ss
 have l1:x.es.length<=140737488355328:=hx.es
 have l2:x.fs.length<=140737488355328:=hx.fs
 refine c5q (b2l (F:=F)) rfl rfl ?_
 refine run ⟨?_⟩
 refine a0o (α:=Nat) (fun i=>x.ss.length - i) (fun i=>[(1,.ptr 7 0),(3,.ptr 11 0),(19,.d (.sl (x.ss.map Nam.D))),(20,i64 x.ss.length),(21,i64 i)]) (fun i=>[o0,o1,o2,o3,o4,o5,o6,IB x,.map (fmap (nS x) i),.map [],.map [],.box [.mp 8,.mp 9,.mp 10]]) (fun i=>i<=x.ss.length) ?_ 0 (Nat.zero_le _) (by rw[List.length_map];rfl) rfl
 ·intro i hi
  by_cases h:i < x.ss.length
  ·have h':(i:Int) < (x.ss.length:Int):=om
   have pi:=gN h
   have hp:∀ y,x.ss.getD i default=y->evF (pgL fx F0) a0s [.ptr 11 0,str y.n,i64 i] ([o0,o1,o2,o3,o4,o5,o6,IB x,.map (fmap (nS x) i),.map [],.map [],.box [.mp 8,.mp 9,.mp 10]]++[.box [str y.n,.d (a1y y.fs)]])=some (.tup [],[o0,o1,o2,o3,o4,o5,o6,IB x,.map (fmap (nS x) (i+1)),.map [],.map [],.box [.mp 8,.mp 9,.mp 10]]++[.box [str y.n,.d (a1y y.fs)]]):=fun y hy=>by
     have hn:=f1n (fx:=fx) (F:=F0) (fmap (nS x) i) [] [] y.n i (a2o _ _) (a8i _ _ _ om)
     rw[<-hy,<-c0k h,<-a8m]at hn
     rw[<-hy,<-c0k h]
     exact a2t (mv fx) [8,9,10,11] hn rfl rfl rfl rfl rfl
   revert pi hp
   generalize x.ss.getD i default=y
   intro pi hp
   have hp:=hp y rfl
   repeat' (first|refine run ⟨?_⟩|refine a0f pi ?_|refine ca (hp) ?_|fail)
   exact⟨i+1,om,om,by rw[a1k om];rfl,rfl⟩
  ·have h':¬ (i:Int) < (x.ss.length:Int):=om
   obtain rfl:i=x.ss.length:=om
   refine run ⟨?_⟩
   refine a0o (α:=Nat) (fun i=>x.es.length - i) (fun i=>[(1,.ptr 7 0),(3,.ptr 11 0),(35,.d (.sl (x.es.map Nam.D))),(36,i64 x.es.length),(37,i64 i)]) (fun i=>[o0,o1,o2,o3,o4,o5,o6,IB x,.map (fmap (nS x) x.ss.length),.map (fmap (nE x) i),.map [],.box [.mp 8,.mp 9,.mp 10]]) (fun i=>i<=x.es.length) ?_ 0 (Nat.zero_le _) (by rw[List.length_map];rfl) rfl
   ·intro i hi
    by_cases h:i < x.es.length
    ·have h':(i:Int) < (x.es.length:Int):=om
     have pi:=gN h
     have hp:∀ y,x.es.getD i default=y->evF (pgL fx F0) a0s [.ptr 11 1,str y.n,i64 i] ([o0,o1,o2,o3,o4,o5,o6,IB x,.map (fmap (nS x) x.ss.length),.map (fmap (nE x) i),.map [],.box [.mp 8,.mp 9,.mp 10]]++[.box [str y.n,.d (a1y y.fs)]])=some (.tup [],[o0,o1,o2,o3,o4,o5,o6,IB x,.map (fmap (nS x) x.ss.length),.map (fmap (nE x) (i+1)),.map [],.box [.mp 8,.mp 9,.mp 10]]++[.box [str y.n,.d (a1y y.fs)]]):=fun y hy=>by
       have hn:=e6t (fx:=fx) (F:=F0) (fmap (nS x) x.ss.length) (fmap (nE x) i) [] y.n i (a2o _ _) (a8i _ _ _ om)
       rw[<-hy,<-c0l h,<-a8m]at hn
       rw[<-hy,<-c0l h]
       exact a2t (mv fx) [8,9,10,11] hn rfl rfl rfl rfl rfl
     revert pi hp
     generalize x.es.getD i default=y
     intro pi hp
     have hp:=hp y rfl
     repeat' (first|refine run ⟨?_⟩|refine a0f pi ?_|refine ca (hp) ?_|fail)
     exact⟨i+1,om,om,by rw[a1k om];rfl,rfl⟩
    ·have h':¬ (i:Int) < (x.es.length:Int):=om
     obtain rfl:i=x.es.length:=om
     refine run ⟨?_⟩
     refine a0o (α:=Nat) (fun i=>x.fs.length - i) (fun i=>[(3,.ptr 11 0),(51,.d (.sl (x.fs.map Fnc.D))),(52,i64 x.fs.length),(53,i64 i)]) (fun i=>[o0,o1,o2,o3,o4,o5,o6,IB x,.map (fmap (nS x) x.ss.length),.map (fmap (nE x) x.es.length),.map (fmap (nF x) i),.box [.mp 8,.mp 9,.mp 10]]) (fun i=>i<=x.fs.length) ?_ 0 (Nat.zero_le _) (by rw[List.length_map];rfl) rfl
     ·intro i hi
      by_cases h:i < x.fs.length
      ·have h':(i:Int) < (x.fs.length:Int):=om
       have pi:=gF h
       have hp:∀ y,x.fs.getD i default=y->evF (pgL fx F0) a0s [.ptr 11 2,str y.n,i64 i] ([o0,o1,o2,o3,o4,o5,o6,IB x,.map (fmap (nS x) x.ss.length),.map (fmap (nE x) x.es.length),.map (fmap (nF x) i),.box [.mp 8,.mp 9,.mp 10]]++[.box [str y.n,.d (a1y y.ps),.d (.sl (y.ms.map .bool)),str y.r,i64 y.d]])=some (.tup [],[o0,o1,o2,o3,o4,o5,o6,IB x,.map (fmap (nS x) x.ss.length),.map (fmap (nE x) x.es.length),.map (fmap (nF x) (i+1)),.box [.mp 8,.mp 9,.mp 10]]++[.box [str y.n,.d (a1y y.ps),.d (.sl (y.ms.map .bool)),str y.r,i64 y.d]]):=fun y hy=>by
         have hn:=e9a (fx:=fx) (F:=F0) (fmap (nS x) x.ss.length) (fmap (nE x) x.es.length) (fmap (nF x) i) y.n i (a2o _ _) (a8i _ _ _ om)
         rw[<-hy,<-c1h h,<-a8m]at hn
         rw[<-hy,<-c1h h]
         exact a2t (mv fx) [8,9,10,11] hn rfl rfl rfl rfl rfl
       revert pi hp
       generalize x.fs.getD i default=y
       intro pi hp
       have hp:=hp y rfl
       repeat' (first|refine run ⟨?_⟩|refine a0f pi ?_|refine ca (hp) ?_|fail)
       exact⟨i+1,om,om,by rw[a1k om];rfl,rfl⟩
      ·have h':¬ (i:Int) < (x.fs.length:Int):=om
       obtain rfl:i=x.fs.length:=om
       refine run ⟨?_⟩
       exact⟨_,rfl,rfl,by unfold a4c;rw[es,ee,ef]⟩
end
theorem h0q {t:List Nd} (hf:Tp.b2u t) (h:a1l t=true):Rf t where
 rt:=d2v h
 txt:=fun i=>by
   unfold nd
   rw[List.getD_eq_getElem?_getD]
   by_cases c:i.toNat < t.length
   ·rw[List.getElem?_eq_getElem c];exact hf.txt _ (List.getElem_mem c)
   ·rw[List.getElem?_eq_none om];exact Nat.zero_le _
 kl:=fun i=>by
   unfold nd
   rw[List.getD_eq_getElem?_getD]
   by_cases c:i.toNat < t.length
   ·rw[List.getElem?_eq_getElem c];exact hf.kid _ (List.getElem_mem c)
   ·rw[List.getElem?_eq_none om];exact Nat.zero_le _
section
variable {t:List Nd} (h:Rf t)
include h
theorem e7z:In t ((t.length:Int) - 1):=by
 have:=h.rt.lo
 exact⟨om,om⟩
theorem e1z:∀ n∈roots t,In t n/\((nd t n).k=2\/(nd t n).k=3\/(nd t n).k=4):=fun n hn=>⟨h.rt.inK (e7z h) hn,h.rt.root n hn⟩
theorem d2x:(roots t).length<=1048576:=h.kl _
theorem e0o (k:Int):(a3o t k).n.length<=mx/\(a3o t k).t.length<=mx:=by
 have:=h.txt k
 refine⟨by show(nd t k).t.length<=140737488355328;omega,?_⟩
 unfold a3o
 simp only
 split
 ·exact Nat.zero_le _
 ·rename_i a _ _
  have:=f7t h a
  show(tx t a).length<=140737488355328
  omega
theorem e0z {l:List Int} (hll:l.length<=1048576) (hl:∀ n∈l,In t n):b2u (a0l t l):=by
 have fl:∀ p:Int->Bool,(l.filter p).length<=140737488355328:=fun p=>by have:=List.length_filter_le p l;omega
 have nam:∀ p:Int->Bool,∀ y∈(l.filter p).map (a3g t),y.n.length<=mx/\y.fs.length<=mf/\∀ f∈y.fs,f.n.length<=mx/\f.t.length<=mx:=fun p y hy=>by
   obtain⟨n,_,rfl⟩:=List.mem_map.1 hy
   have e1:=h.txt n
   have e2:=h.kl n
   refine⟨by show(nd t n).t.length<=140737488355328;omega,by show((nd t n).kids.map (a3o t)).length<=4398046511104;rw[List.length_map];omega,fun f hf=>?_⟩
   obtain⟨k,_,rfl⟩:=List.mem_map.1 hf
   exact e0o h k
 refine⟨by show((l.filter _).map _).length<=mx;rw[List.length_map];exact fl _,by show((l.filter _).map _).length<=mx;rw[List.length_map];exact fl _,by show((l.filter _).map _).length<=mx;rw[List.length_map];exact fl _,nam _,nam _,fun y hy=>?_⟩
 obtain⟨n,hn,rfl⟩:=List.mem_map.1 hy
 have hin:=hl n (List.mem_filter.1 hn).1
 have e1:=h.txt n
 have e2:=h.kl n
 have e3:=b6x t n
 have e4:=f7t h (ret t n)
 have e5:=h.rt.hi
 have e6:=hin.lt
 have e7:=hin.1
 refine⟨by show(nd t n).t.length<=140737488355328;omega,by show(tx t (ret t n)).length<=140737488355328;omega,by show((mem t n).map _).length<=140737488355328;rw[List.length_map];omega,by show((mem t n).map _).length<=4398046511104;rw[List.length_map];omega,fun f hf=>?_,by show -9223372036854775808<=n;omega,by show n<=9223372036854775807;omega⟩
 obtain⟨k,_,rfl⟩:=List.mem_map.1 hf
 exact e0o h k
theorem e9q {l:List Int} (hl:∀ n∈l,In t n) (hb:(col t l).2 < 0) {ts fs:List S} (hn:b7n t ts fs l=none):Small (a0l t l):=by
 have _u:=h
 obtain⟨c1,c2,c3⟩:=d7g (t:=t) (fun n q=>(hl n q).1) hb
 have nam:∀ p:Int->Bool,(∀ n,p n=true->(nd t n).k≠2)->∀ y∈(l.filter p).map (a3g t),y.fs.length<=16:=fun p hp y hy=>by
   obtain⟨n,hq,rfl⟩:=List.mem_map.1 hy
   obtain⟨q1,q2⟩:=List.mem_filter.1 hq
   have:=(c5b hn n q1).2 (hp n q2)
   unfold mem at this
   rw[if_neg (hp n q2)]at this
   show((nd t n).kids.map (a3o t)).length<=16
   rw[List.length_map];exact this
 exact⟨c1,c2,nam _ fun n q=>by unfold is3 at q;have:=of_decide_eq_true q;omega,nam _ fun n q=>by unfold is4 at q;have:=of_decide_eq_true q;omega⟩
end
theorem d8l (t:List Nd) (l:List Int):∀ s∈nS (a0l t l)++nE (a0l t l),∃ n∈l,(nd t n).k≠2/\(nd t n).t=s:=fun s hs=>by
  rcases List.mem_append.1 hs with q|q
  ·unfold nS a0l at q
   simp only[List.map_map]at q
   obtain⟨n,hn,rfl⟩:=List.mem_map.1 q
   obtain⟨q1,q2⟩:=List.mem_filter.1 hn
   unfold is3 at q2
   have:=of_decide_eq_true q2
   exact⟨n,q1,om,rfl⟩
  ·unfold nE a0l at q
   simp only[List.map_map]at q
   obtain⟨n,hn,rfl⟩:=List.mem_map.1 q
   obtain⟨q1,q2⟩:=List.mem_filter.1 hn
   unfold is4 at q2
   have:=of_decide_eq_true q2
   exact⟨n,q1,om,rfl⟩
end Go.Vm.Ite
namespace Go.Vm.Ite
open Go.Vm.Tp (Nd a6q a1l a7l)
open Go.Vm.Ip
open Go.Vm.Io (In Rt nd txt tx a3o mem ret a3g b0a roots a0l is2 is3 is4 col d7g b7n c5b d2v b6x a7f d9r f1q tyG tyl tyA c8o c8i f0z h5l g0f g4q)
abbrev eI:Its:=⟨[],[],[]⟩
theorem g1h {t:List Nd} {x:Its} {l:List Int} {c n:Int} (h:szA t x l=some (c,n)):c≠0:=by
 unfold szA at h
 split at h
 ·rename_i e he
  cases h
  exact g0f he
 ·exact g4q h
noncomputable def wrong (t:List Nd) (l:List Int):Option (Int×Int):=
 if(col t l).2 < 0 then match b7n t [] [b8a,d2b,b8i] l with
  |some e=>some e
  |none=>match tyA t (kn (a0l t l)) l with
  |some e=>some e
  |none=>szA t (a0l t l) l
 else some (2,(col t l).2)
noncomputable def ofP (t:List Nd):Its×D:=
 if a1l t=true then match wrong t (roots t)with
  |some e=>(eI,dgO t (some e))
  |none=>match pos (nF (a0l t (roots t))) c0d with
  |none=>(eI,Lex.dgD 144 0 0)
  |some i=>if 0 < ((a0l t (roots t)).fs.getD i default).ps.length\/((a0l t (roots t)).fs.getD i default).r≠d5n then(eI,dgO t (some (144,((a0l t (roots t)).fs.getD i default).d))) else(a0l t (roots t),Lex.dgD 0 0 0)
 else(eI,Lex.dgD 3 0 0)
abbrev BTx (t:List Nd):Ob:= .box [.d (.sl (t.map Nd.D))]
abbrev BRx:Ob:= .box [.nils,.nils,.nils]
abbrev H7x (t:List Nd) (x:Its) (o0 o1 o2:Ob) (X:Hp):Hp:=o0::o1::o2:: .box [.d (.sl (t.map Nd.D)),.row 4 x.ss.length,.row 5 x.es.length,.row 6 x.fs.length,.nul]:: .row 2 (x.ss.map Nam.D):: .row 2 (x.es.map Nam.D):: .row 5 (x.fs.map Fnc.D)::X
abbrev i2a (t:List Nd) (x:Its) (o0 o1 o2:Ob) (X:Hp):Hp:=o0::o1::o2:: .box [.d (.sl (t.map Nd.D)),.row 4 x.ss.length,.row 5 x.es.length,.row 6 x.fs.length,.ptr 11 0]:: .row 2 (x.ss.map Nam.D):: .row 2 (x.es.map Nam.D):: .row 5 (x.fs.map Fnc.D)::IB x:: .map (a4c (nS x)):: .map (a4c (nE x)):: .map (a4c (nF x)):: .box [.mp 8,.mp 9,.mp 10]::X
section
variable {fx:Nat->Option Obj} {t:List Nd}
set_option maxHeartbeats 8000000 in
theorem g8j (hf:Tp.b2u t) (H:Hp):evF (pgL fx FT) e4i [.d (a6q t)] H=some (.tup [.d (ofP t).1.D,.d (ofP t).2],H):=by
 refine a5v (e2y (F:=FT)) rfl rfl ?_ H
 have hck:=fun H=>Itr.f4r (fx:=fx) (F:=FT) H t hf
 unfold ofP
 cases hc:a1l t with
 |false=>
  rw[hc]at hck
  repeat' (first|refine run ⟨?_⟩|refine ca (hck _) ?_|fail)
  exact rfl
 |true=>
  rw[hc]at hck
  rw[if_pos rfl]
  have h:=h0q hf hc
  have hro:=e1z h
  have hrl:=d2x h
  have hlo:=h.rt.lo
  have hhi:=h.rt.hi
  have hnl:(t.map Nd.D).length=t.length:=List.length_map ..
  have hw:IntKind.i64.wrap (((t.map Nd.D).length:Int) - 1)=(t.length:Int) - 1:=by rw[hnl,a1k om]
  have pl:0<=IntKind.i64.wrap (((t.map Nd.D).length:Int) - 1)/\(t.map Nd.D)[(IntKind.i64.wrap (((t.map Nd.D).length:Int) - 1)).toNat]? =some (nd t ((t.length:Int) - 1)).D:=by rw[hw];exact b4k (e7z h)
  have hkr:c0n (roots t)= .sl ((nd t ((t.length:Int) - 1)).kids.map (D.int .i64)):=rfl
  have hcol:evF (pgL fx FT) a6s [.ptr 3 0,.d (.sl ((nd t ((t.length:Int) - 1)).kids.map (D.int .i64)))] (H7x t eI (BTx t) BRx ZBo [])=some (.tup [i64 (col t (roots t)).2,boo (decide ((col t (roots t)).2 < 0))],H7x t (a0l t (roots t)) (BTx t) BRx ZBo []):=by
   have e:=e9l (fx:=fx) h (roots t) hrl hro
   rw[d9r]at e
   exact up (a2t (mv fx) [3,4,5,6] (X:=H7x t eI (BTx t) BRx ZBo []) (A:=[.ptr 3 0,.d (c0n (roots t))]) e rfl rfl rfl rfl rfl)
  have hfi:=e0z h hrl (fun n hn=>(hro n hn).1)
  have hsi:=fun(hb:(col t (roots t)).2 < 0) (hn:b7n t [] [b8a,d2b,b8i] (roots t)=none)=>e9q h (fun n hn=>(hro n hn).1) hb hn
  have hcov:=d8l t (roots t)
  have hci:=f1q (t:=t) (roots t) (eI,-1)
  unfold wrong
  rw[show(nd t ((t.length:Int) - 1)).kids=roots t from rfl]at hcol
  have hfs:∀ y∈(a0l t (roots t)).fs,In t y.d:=fun y hy=>by
    obtain⟨n,hn,rfl⟩:=List.mem_map.1 hy
    exact(hro n (List.mem_filter.1 hn).1).1
  have prn:(nd t ((t.length:Int) - 1)).D= .agg [.int .i64 (nd t ((t.length:Int) - 1)).k,.str (nd t ((t.length:Int) - 1)).t,.int .i64 (nd t ((t.length:Int) - 1)).v,.sl ((roots t).map (D.int .i64)),.int .i64 (nd t ((t.length:Int) - 1)).f,.int .i64 (nd t ((t.length:Int) - 1)).e]:=rfl
  rw[prn]at pl
  generalize(nd t ((t.length:Int) - 1)).k=q1 at pl
  generalize(nd t ((t.length:Int) - 1)).t=q2 at pl
  generalize(nd t ((t.length:Int) - 1)).v=q3 at pl
  generalize(nd t ((t.length:Int) - 1)).f=q4 at pl
  generalize(nd t ((t.length:Int) - 1)).e=q5 at pl
  clear prn hkr
  generalize roots t=l at*
  have e1:((a0l t l).ss.map Nam.D).length=(a0l t l).ss.length:=List.length_map ..
  have e2:((a0l t l).es.map Nam.D).length=(a0l t l).es.length:=List.length_map ..
  have e3:((a0l t l).fs.map Fnc.D).length=(a0l t l).fs.length:=List.length_map ..
  by_cases hb:(col t l).2 < 0
  rotate_left
  ·have hin:In t (col t l).2:=by
    rcases hci (by show 0<=(col t l).2;omega)with e|e
    ·exact absurd (show(-1:Int)=(col t l).2 from e) om
    ·exact(hro _ e).1
   have hdg:evF (pgL fx FT) a2l [.ptr 3 0,.d (.int .i64 2),.d (.int .i64 (col t l).2)] (H7x t (a0l t l) (BTx t) BRx ZBo [])=some (.d (Lex.dgD 2 (nd t (col t l).2).f (nd t (col t l).2).e),H7x t (a0l t l) (BTx t) BRx ZBo []):=
    up (a2t (mv fx) [3,4,5,6] (X:=H7x t (a0l t l) (BTx t) BRx ZBo []) (A:=[.ptr 3 0,.d (.int .i64 2),.d (.int .i64 (col t l).2)]) (f9o (fx:=fx) (F:=F0) (x:=a0l t l) (X:=[]) (e:=2) hin) rfl rfl rfl rfl rfl)
   rw[if_neg hb]
   have nb:(!decide ((col t l).2 < 0))=true:=by rw[decide_eq_false hb];rfl
   repeat' (first|refine run ⟨?_⟩|refine ca (hck _) ?_|refine a0f pl ?_|refine ca (hcol) ?_|refine ca (hdg) ?_|fail)
   exact rfl
  ·rw[if_pos hb]
   have nb:(!decide ((col t l).2 < 0))=false:=by rw[decide_eq_true hb];rfl
   have hix:=f0w (fx:=fx) (F:=FT) (a0l t l) hfi
   have hnm:evF (pgL fx FT) a8b [.ptr 3 0,.d (c0n l)] (i2a t (a0l t l) (BTx t) BRx ZBo [])=some (.d (dgO t (b7n t [] [b8a,d2b,b8i] l)),i2a t (a0l t l) (BTx t) BRx ZBo []):=
    up (a2t (mv fx) [3,4,5,6,7,8,9,10,11] (X:=i2a t (a0l t l) (BTx t) BRx ZBo []) (A:=[.ptr 3 0,.d (c0n l)]) (f9n (fx:=fx) (x:=a0l t l) h l hrl (fun n hn=>(hro n hn).1)) rfl rfl rfl rfl rfl)
   cases hnn:b7n t [] [b8a,d2b,b8i] l with
   |some e=>
    obtain⟨c,n⟩:=e
    have hc0:=f0z hnn
    rw[hnn]at hnm
    have nc:(!decide (c=0))=true:=by rw[decide_eq_false hc0];rfl
    simp only[dgO]at hnm⊢
    repeat' (first|refine run ⟨?_⟩|refine ca (hck _) ?_|refine a0f pl ?_|refine ca (hcol) ?_|refine And.intro e1 ?_|refine And.intro e2 ?_|refine And.intro e3 ?_|refine ca (hix _ _ _ _ _ _ _) ?_|refine ca (hnm) ?_|fail)
    exact rfl
   |none=>
    rw[hnn]at hnm
    have hsm:=hsi hb hnn
    generalize hx:a0l t l=x at*
    have hsz:=fun o0 o1 o2 o3=>g5d (fx:=fx) h hfi hsm l hrl (fun n hn=>(hro n hn).1) hcov o0 o1 o2 o3
    simp only[dgO]at hnm⊢
    repeat' (first|refine run ⟨?_⟩|refine ca (hck _) ?_|refine a0f pl ?_|refine ca (hcol) ?_|refine And.intro e1 ?_|refine And.intro e2 ?_|refine And.intro e3 ?_|refine ca (hix _ _ _ _ _ _ _) ?_|refine ca (hnm) ?_|fail)
    refine a0o (α:=Nat) (fun j=>l.length - j) (fun j=>[(2,.ptr 1 0),(3,.ptr 2 0),(5,.ptr 3 0),(6,.d (c0n l)),(10,.fm 29 [.ptr 3 0]),(67,.d (c0n l)),(68,i64 l.length),(69,i64 j)]) (fun _=>c6n t x (BTx t) BRx ZBo ZBo []) (fun j=>j<=l.length/\tyA t (kn x) (l.drop j)=tyA t (kn x) l) ?_ 0 ⟨Nat.zero_le _,by rw[List.drop_zero]⟩ (by show[_,_,_,_,_,_,(68,i64 ((l.map (D.int .i64)).length:Int)),_]=_;rw[show(l.map (D.int .i64)).length=l.length from List.length_map ..];rfl) rfl
    rintro j ⟨hj,hco⟩
    by_cases hlt:j < l.length
    ·have c1:(j:Int) < (l.length:Int):=om
     have pj:=e4o hlt
     rw[List.drop_eq_getElem_cons hlt,tyA]at hco
     obtain⟨hin,hkk⟩:=hro _ (List.getElem_mem hlt)
     generalize l[j]=n at pj hco hin hkk
     have wj:IntKind.i64.wrap ((j:Int)+1)=((j+1:Nat):Int):=by rw[a1k om];omega
     have hty:evF (pgL fx FT) a8e [.ptr 3 0,.d (.int .i64 n)] (c6n t x (BTx t) BRx ZBo ZBo [])=some (.d (dgO t (tyG t (kn x) (decide ((nd t n).k=2)) (tyl t n))),c6n t x (BTx t) BRx ZBo ZBo []):=
      up (a2t (mv fx) [3,4,5,6,7,8,9,10,11] (X:=c6n t x (BTx t) BRx ZBo ZBo []) (A:=[.ptr 3 0,.d (.int .i64 n)]) (g5b (fx:=fx) (x:=x) h hin hkk) rfl rfl rfl rfl rfl)
     cases htt:tyG t (kn x) (decide ((nd t n).k=2)) (tyl t n)with
     |some e=>
      obtain⟨c,m⟩:=e
      have hc0:=h5l htt
      rw[htt]at hty hco
      simp only[dgO]at hty
      simp only at hco
      rw[<-hco]
      have nc:(!decide (c=0))=true:=by rw[decide_eq_false hc0];rfl
      simp only[dgO]
      repeat' (first|refine run ⟨?_⟩|refine a0f pj ?_|refine ca (hty) ?_|fail)
      exact rfl
     |none=>
      rw[htt]at hty hco
      simp only[dgO]at hty
      simp only at hco
      repeat' (first|refine run ⟨?_⟩|refine a0f pj ?_|refine ca (hty) ?_|fail)
      exact⟨j+1,⟨om,hco⟩,om,by rw[wj];rfl,rfl⟩
    ·have c1:¬ (j:Int) < (l.length:Int):=om
     have hje:j=l.length:=om
     rw[hje,List.drop_length,tyA]at hco
     rw[<-hco]
     simp only
     have hsz:=hsz (BTx t) BRx ZBo ZBo
     cases hw2:szA t x l with
     |some e=>
      obtain⟨c,m⟩:=e
      rw[hw2]at hsz
      have hc0:=g1h hw2
      have nc:(!decide (c=0))=true:=by rw[decide_eq_false hc0];rfl
      simp only[dgO]at hsz⊢
      repeat' (first|refine run ⟨?_⟩|refine ca (hsz) ?_|fail)
      exact rfl
     |none=>
      rw[hw2]at hsz
      simp only[dgO]at hsz
      have hfind:∀ y,evF (pgL fx FT) a0t [.ptr 11 2,str c0d] (c6n t x (BTx t) BRx ZBo ZBo [y])=some (.tup [i64 (loc (nF x) c0d),boo (known (nF x) c0d)],c6n t x (BTx t) BRx ZBo ZBo [y]):=fun y=>
       up (a2t (mv fx) [8,9,10,11] (X:=c6n t x (BTx t) BRx ZBo ZBo [y]) (A:=[.ptr 11 2,str c0d]) (g3r (fx:=fx) (F:=F0) x c0d) rfl rfl rfl rfl rfl)
      cases hp:pos (nF x) c0d with
      |none=>
       have hk:known (nF x) c0d=false:=by unfold known;rw[hp];rfl
       rw[hk]at hfind
       repeat' (first|refine run ⟨?_⟩|refine ca (hsz) ?_|refine ca (hfind _) ?_|fail)
       exact rfl
      |some i=>
       have hk:known (nF x) c0d=true:=by unfold known;rw[hp];rfl
       have hlo2:loc (nF x) c0d=(i:Int):=by unfold loc;rw[hp]
       rw[hk,hlo2]at hfind
       have hil:i < x.fs.length:=by
        have:=(b2n hp).1
        have h5:=(List.getElem?_eq_some_iff.1 this).1
        unfold nF at h5
        rwa [List.length_map]at h5
       have pf:=gF hil
       have hfm:x.fs.getD i default∈x.fs:=by rw[List.getD_eq_getElem?_getD,List.getElem?_eq_getElem hil];exact List.getElem_mem _
       have hfd:=hfs _ hfm
       simp only
       generalize x.fs.getD i default=f at pf hfd⊢
       have hdg:=fun y0 y1=>h2f (fx:=fx) (x:=x) (e:=144) hfd (BTx t) BRx ZBo ZBo y0 y1
       have hpl:(f.ps.map Fld.D).length=f.ps.length:=List.length_map ..
       by_cases cp:0 < f.ps.length
       ·have dp:((f.ps.map Fld.D).length:Int) > 0:=om
        rw[if_pos (.inl cp)]
        repeat' (first|refine run ⟨?_⟩|refine ca (hsz) ?_|refine ca (hfind _) ?_|refine And.intro e3 ?_|refine a0f pf ?_|refine ca (hdg _ _) ?_|fail)
        exact rfl
       ·have dp:¬ ((f.ps.map Fld.D).length:Int) > 0:=om
        by_cases cr:f.r=d5n
        ·have dr:(!decide (f.r=[40,41]))=false:=by rw[decide_eq_true (show f.r=[40,41] from cr)];rfl
         rw[if_neg (by rintro(q|q);exact cp q;exact q cr)]
         repeat' (first|refine run ⟨?_⟩|refine ca (hsz) ?_|refine ca (hfind _) ?_|refine And.intro e3 ?_|refine a0f pf ?_|refine And.intro e1 ?_|refine And.intro e2 ?_|fail)
         first|exact rfl|exact⟨rfl,rfl⟩
        ·have dr:(!decide (f.r=[40,41]))=true:=by rw[decide_eq_false (show ¬ f.r=[40,41] from cr)];rfl
         rw[if_pos (.inr cr)]
         repeat' (first|refine run ⟨?_⟩|refine ca (hsz) ?_|refine ca (hfind _) ?_|refine And.intro e3 ?_|refine a0f pf ?_|refine ca (hdg _ _) ?_|fail)
         exact rfl
end
end Go.Vm.Ite
namespace Go.Vm.Ite
open Go.Vm.Tp (Nd a6q a1l a7l a9k kinds b0v)
open Go.Vm.Ip
open Go.Vm.Io hiding S
theorem g1v {t:List Nd} {kn:S->Bool}:∀ {l:List Int} {c n:Int},tyA t kn l=some (c,n)->c≠0
 |[],_,_,h=>by cases h
 |m::r,c,n,h=>by
  rw[tyA]at h
  split at h
  ·rename_i e he;cases h;exact h5l he
  ·exact g1v h
theorem f7s (t:List Nd):((ofP t).2=Lex.dgD 0 0 0/\a1l t=true)\/∃ c x y,c≠0/\(ofP t).2=Lex.dgD c x y:=by
 unfold ofP
 split
 ·rename_i hc
  split
  ·rename_i e he
   obtain⟨c,n⟩:=e
   refine .inr ⟨c,_,_,?_,rfl⟩
   unfold wrong at he
   split at he
   ·split at he
    ·rename_i e1 h1;cases he;exact f0z h1
    ·split at he
     ·rename_i e1 h1;cases he;exact g1v h1
     ·exact g1h he
   ·cases he;decide
  ·split
   ·exact .inr ⟨144,0,0,by decide,rfl⟩
   ·split
    ·exact .inr ⟨144,_,_,by decide,rfl⟩
    ·exact .inl ⟨rfl,hc⟩
 ·exact .inr ⟨3,0,0,by decide,rfl⟩
end Go.Vm.Ite



namespace Go.Vm.Ite
open Go.Vm.Tp (Nd a6q a1l a7l)
open Go.Vm.Ip
open Go.Vm.Io hiding S
def c3e (t:List Nd) (l:List Int):List S:=(l.filter fun n=> !decide ((nd t n).k=2)).map fun n=>(nd t n).t
end Go.Vm.Ite
namespace Go.Vm.Ite
open Go.Vm.Tp (Nd)
open Go.Vm.Ip
open Go.Vm.Io hiding S
theorem e8s {t:List Nd} {l:List Int} (hl:∀ n∈l,(nd t n).k=2\/(nd t n).k=3\/(nd t n).k=4):kn (a0l t l)=fun s=>decide (s∈c3e t l):=by
  funext s
  rw[Bool.eq_iff_iff,c8s,decide_eq_true_iff]
  unfold nS nE a0l c3e
  simp only[List.map_map,List.mem_append,List.mem_map,List.mem_filter,Function.comp]
  constructor
  ·rintro(⟨n,⟨h1,h2⟩,h3⟩|⟨n,⟨h1,h2⟩,h3⟩)
   ·have:(nd t n).k=3:=by simpa [is3] using h2
    exact⟨n,⟨h1,by simp[this]⟩,h3⟩
   ·have:(nd t n).k=4:=by simpa [is4] using h2
    exact⟨n,⟨h1,by simp[this]⟩,h3⟩
  ·rintro⟨n,⟨h1,h2⟩,h3⟩
   have h2:(nd t n).k≠2:=by simpa using h2
   rcases hl n h1 with e|e|e
   ·exact absurd e h2
   ·exact .inl ⟨n,⟨h1,by simp[is3,e]⟩,h3⟩
   ·exact .inr ⟨n,⟨h1,by simp[is4,e]⟩,h3⟩
end Go.Vm.Ite
namespace Go.Vm.Ite
open Go.Vm.Tp (Nd a1l a7l c4t)
open Go.Vm.Lex (a7d)
open Go.Vm.Ip
open Go.Vm.Io hiding S
theorem c4j {t:List Nd}:∀ {ts fs:List S} {l:List Int},b7n t ts fs l=none->(c3e t l).Nodup/\∀ s∈c3e t l,s∉ts
 |_,_,[],_=>⟨by simp[c3e],by simp[c3e]⟩
 |ts,fs,m::r,h=>by
  rw[b7n]at h
  by_cases k2:(nd t m).k=2
  ·rw[if_pos k2]at h
   have h2:b7n t ts (fs++[(nd t m).t]) r=none:=by
    repeat' split at h
    all_goals first|cases h|exact h
   have e:c3e t (m::r)=c3e t r:=by unfold c3e;rw[List.filter_cons_of_neg (by simp[k2])]
   rw[e];exact c4j h2
  ·rw[if_neg k2]at h
   have h1:(nd t m).t∉ts:=by
    intro q;rw[if_pos q]at h;cases h
   have h2:b7n t (ts++[(nd t m).t]) fs r=none:=by
    repeat' split at h
    all_goals first|cases h|exact h
   have ih:=c4j h2
   have e:c3e t (m::r)=(nd t m).t::c3e t r:=by unfold c3e;rw[List.filter_cons_of_pos (by simp[k2])];rfl
   rw[e,List.nodup_cons]
   refine⟨⟨fun q=>ih.2 _ q (by simp),ih.1⟩,fun s hs=>?_⟩
   rcases List.mem_cons.1 hs with q|q
   ·rw[q];exact h1
   ·exact fun w=>ih.2 s q (List.mem_append_left _ w)
theorem d4o {α β:Type} (f:α->β):∀ {l:List α},(l.map f).Nodup->∀ a∈l,∀ b∈l,f a=f b->a=b
 |[],_,a,ha,_,_,_=>by cases ha
 |x::l,h,a,ha,b,hb,e=>by
  rw[List.map_cons,List.nodup_cons]at h
  rcases List.mem_cons.1 ha with p|p<;>rcases List.mem_cons.1 hb with q|q
  ·rw[p,q]
  ·subst p;exact absurd (List.mem_map.2 ⟨b,q,e.symm⟩) h.1
  ·subst q;exact absurd (List.mem_map.2 ⟨a,p,e⟩) h.1
  ·exact d4o f h.2 a p b q e
section
variable {t:List Nd} {l:List Int}
theorem g2a:nS (a0l t l)=(l.filter (is3 t)).map fun n=>(nd t n).t:=by
  unfold nS a0l;rw[List.map_map];rfl
theorem g8r:nE (a0l t l)=(l.filter (is4 t)).map fun n=>(nd t n).t:=by
  unfold nE a0l;rw[List.map_map];rfl
theorem e5u {p:Int->Bool} (hp:∀ n,p n=true->(nd t n).k≠2):List.Sublist ((l.filter p).map fun n=>(nd t n).t) (c3e t l):=by
  unfold c3e
  refine List.Sublist.map _ ?_
  have:l.filter p=(l.filter fun n=> !decide ((nd t n).k=2)).filter p:=by
    rw[List.filter_filter]
    refine List.filter_congr fun n _=>?_
    cases hn:p n with
    |false=>rfl
    |true=>simp[hp n hn]
  rw[this]
  exact List.filter_sublist
theorem g0r {n:Int} (h:is3 t n=true):(nd t n).k≠2:=by have:=of_decide_eq_true h;omega
theorem h2h {n:Int} (h:is4 t n=true):(nd t n).k≠2:=by have:=of_decide_eq_true h;omega
theorem d4x (hk:∀ n∈l,(nd t n).k=2\/(nd t n).k=3\/(nd t n).k=4) (hn:(c3e t l).Nodup) {n:Int} (hm:n∈l) (k2:(nd t n).k≠2):flM (a0l t l) (nd t n).t=(nd t n).kids.map (a3o t)/\enB (a0l t l) (nd t n).t=decide ((nd t n).k=4):=by
 have hS:(nS (a0l t l)).Nodup:=by rw[g2a];exact hn.sublist (e5u fun _=>g0r)
 have hEn:(nE (a0l t l)).Nodup:=by rw[g8r];exact hn.sublist (e5u fun _=>h2h)
 have hd:∀ s∈nE (a0l t l),s∉nS (a0l t l):=fun s h1 h2=>by
   rw[g8r]at h1;rw[g2a]at h2
   obtain⟨a,ha,ea⟩:=List.mem_map.1 h1
   obtain⟨b,hb,eb⟩:=List.mem_map.1 h2
   obtain⟨ha1,ha2⟩:=List.mem_filter.1 ha
   obtain⟨hb1,hb2⟩:=List.mem_filter.1 hb
   have:=d4o (fun n=>(nd t n).t) (l:=l.filter fun n=> !decide ((nd t n).k=2)) hn a (List.mem_filter.2 ⟨ha1,by simp[h2h ha2]⟩) b (List.mem_filter.2 ⟨hb1,by simp[g0r hb2]⟩) (ea.trans eb.symm)
   subst this
   have h4:=of_decide_eq_true ha2
   have h3:=of_decide_eq_true hb2
   omega
 rcases hk n hm with e|e|e
 ·exact absurd e k2
 ·have:=i0c hS (y:=a3g t n) (List.mem_map.2 ⟨n,List.mem_filter.2 ⟨hm,decide_eq_true e⟩,rfl⟩)
  exact⟨this.1,this.2.trans (decide_eq_false om).symm⟩
 ·have:=h9z hEn hd (y:=a3g t n) (List.mem_map.2 ⟨n,List.mem_filter.2 ⟨hm,decide_eq_true e⟩,rfl⟩)
  exact⟨this.1,this.2.trans (decide_eq_true e).symm⟩
theorem f3z (h:a1l t=true) {i:Int} (hi:In t i):c4t t i.toNat (nd t i):=by
 obtain⟨up,hT⟩:=Go.Vm.Tp.c5m h
 exact hT.nod i.toNat hi.2
theorem e6n (h:a1l t=true) {i:Int} (hi:In t i) (hk:(nd t i).k=3\/(nd t i).k=4\/(nd t i).k=13):a7d (nd t i).t=true:=by
 have:=(f3z h hi).nm
 unfold Go.Vm.Tp.nmB at this
 rwa [if_pos om]at this
theorem h8s (h:a1l t=true) {i:Int} (hi:In t i) (hty:a7l (nd t i).k=true):tx t i≠[]:=by
 unfold tx
 have:1<=t.length:=by have:=hi.2;omega
 obtain⟨m,hm⟩:∃ m,t.length=m+1:=⟨t.length - 1,om⟩
 rw[hm,txt]
 unfold a7l at hty
 simp only[Bool.and_eq_true,decide_eq_true_eq]at hty
 repeat' split
 all_goals try(intro e;simp at e;done)
 have hk:(nd t i).k=13:=om
 intro e
 have:=e6n h hi (.inr (.inr hk))
 rw[e]at this
 exact absurd this (by decide)
theorem g3z (h:a1l t=true) (hl:∀ n∈l,In t n/\((nd t n).k=2\/(nd t n).k=3\/(nd t n).k=4)) (hn:(c3e t l).Nodup):Nmd (a0l t l) where
 nm:=fun s hs=>by
   obtain⟨n,h1,h2,h3⟩:=d8l t l s (c8s.1 hs)
   rw[<-h3]
   obtain⟨g1,g2⟩:=hl n h1
   exact e6n h g1 om
 ne:=fun s hs f hf=>by
   have hm:=a3s.1 hs
   rw[g2a]at hm
   obtain⟨n,h1,rfl⟩:=List.mem_map.1 hm
   obtain⟨h1,h2⟩:=List.mem_filter.1 h1
   have h3:=of_decide_eq_true h2
   rw[(d4x (fun n hn=>(hl n hn).2) hn h1 (g0r h2)).1]at hf
   obtain⟨k,hk,rfl⟩:=List.mem_map.1 hf
   have hR:=d2v h
   have hin:=(hl n h1).1
   obtain⟨a,e,ea⟩:=hR.fd k (hR.inK hin hk) (.inl (hR.st n hin h3 k hk))
   unfold a3o
   rw[e]
   exact h8s h (hR.inK (hR.inK hin hk) (by rw[e];exact List.mem_singleton.2 rfl)) ea
theorem h2l (hk:∀ n∈l,(nd t n).k=2\/(nd t n).k=3\/(nd t n).k=4) {n:Int} (hm:n∈l) (k2:(nd t n).k≠2):kn (a0l t l) (nd t n).t=true:=by
 rw[e8s hk]
 refine decide_eq_true (List.mem_map.2 ⟨n,List.mem_filter.2 ⟨hm,by simp[k2]⟩,rfl⟩)
end
end Go.Vm.Ite
namespace Go.Vm.Ip
open Go.Vm.Lex (a7d)
def zzT:S:=[90,122]
def zzN:Nam:=⟨zzT,[⟨[122],e3m⟩]⟩
def a8n (x:Its):Its:=⟨x.ss++[zzN],x.es,x.fs⟩
theorem c6d {α β:Type} {f g:α->β->α}:∀ (l:List β) (a:α),(∀ y∈l,∀ a,f a y=g a y)->l.foldl f a=l.foldl g a
 |[],_,_=>rfl
 |y::r,a,h=>by
  rw[List.foldl_cons,List.foldl_cons,h y List.mem_cons_self,c6d r _ fun z hz=>h z (List.mem_cons_of_mem _ hz)]
theorem c8h {l:List S} {z s:S} (h:s≠z):pos (l++[z]) s=pos l s:=by
 cases hp:pos l s with
 |some i=>
  obtain⟨h1,h2⟩:=b2n hp
  have hi:=b1b hp
  exact f8m (by rw[List.getElem?_append_left hi];exact h1) fun j hj=>by rw[List.getElem?_append_left om];exact h2 j hj
 |none=>
  cases hq:pos (l++[z]) s with
  |none=>rfl
  |some i=>
   exfalso
   have h1:=List.mem_of_getElem? (b2n hq).1
   rcases List.mem_append.1 h1 with q|q
   ·exact d1t hp q
   ·exact h (List.mem_singleton.1 q)
theorem c7w {l:List S} {z:S} (h:z∉l):pos (l++[z]) z=some l.length:=
 f8m (by rw[List.getElem?_append_right (Nat.le_refl _),Nat.sub_self];rfl) fun j hj e=>h (by rw[List.getElem?_append_left hj]at e;exact List.mem_of_getElem? e)
section
variable {x:Its}
theorem c4g:nS (a8n x)=nS x++[zzT]:=by unfold nS a8n;rw[List.map_append];rfl
theorem e8p:nE (a8n x)=nE x:=rfl
theorem b4u {s:S} (h:s≠zzT):a0v (a8n x) s=a0v x s:=by
 unfold a0v
 rw[c4g,e8p,c8h h]
 cases hp:pos (nS x) s with
 |none=>rfl
 |some i=>
  have hi:=b1b hp
  have:i < x.ss.length:=by unfold nS at hi;rwa [List.length_map]at hi
  simp only
  rw[show(a8n x).ss=x.ss++[zzN] from rfl,List.getD_eq_getElem?_getD,List.getElem?_append_left this,<-List.getD_eq_getElem?_getD]
theorem f2j (h:zzT∉nS x):a0v (a8n x) zzT=([e3m],false):=by
 unfold a0v
 rw[c4g,c7w h]
 simp only
 rw[show(a8n x).ss=x.ss++[zzN] from rfl,List.getD_eq_getElem?_getD,List.getElem?_append_right (by unfold nS;rw[List.length_map];exact Nat.le_refl _),show(nS x).length - x.ss.length=0 from by unfold nS;rw[List.length_map,Nat.sub_self]]
 rfl
theorem d4v {s:S} (h:s≠zzT):known (nS (a8n x)) s=known (nS x) s:=by unfold known;rw[c4g,c8h h]
theorem g8h {s:S} (h:kn x s=true):kn (a8n x) s=true:=by
 unfold kn at*
 rw[Bool.or_eq_true]at*
 rcases h with h|h
 ·exact .inl (a3s.2 (by rw[c4g];exact List.mem_append_left _ (a3s.1 h)))
 ·exact .inr h
variable (nm:∀ s,kn x s=true->a7d s=true) (cl:∀ s,kn x s=true->∀ y∈(a0v x s).1,y≠zzT) (hz:zzT∉nS x)
include cl
theorem c4b {s:S}:∀ y∈(a0v x s).1,y≠zzT:=fun y hy=>by
  cases hk:kn x s with
  |true=>exact cl s hk y hy
  |false=>rw[c4n hk]at hy;cases hy
theorem f4x {s z:S} (hs:s≠zzT) (h:Gets (a8n x) s z):Gets x s z/\z≠zzT:=by
 induction h with
 |one h=>rw[b4u hs]at h;exact⟨.one h,c4b cl _ h⟩
 |step _ h ih=>rw[b4u ih.2]at h;exact⟨.step ih.1 h,c4b cl _ h⟩
theorem f5x {s z:S} (hs:s≠zzT) (h:Gets x s z):Gets (a8n x) s z/\z≠zzT:=by
 induction h with
 |one h=>exact⟨.one (by rw[b4u hs];exact h),c4b cl _ h⟩
 |step _ h ih=>exact⟨.step ih.1 (by rw[b4u ih.2];exact h),c4b cl _ h⟩
theorem f4h {s:S} (hs:s≠zzT):c2z (a8n x) s=c2z x s:=by
 by_cases h:Gets x s s
 ·rw[c8a h,c8a (f5x cl hs h).1]
 ·rw[d3d h,d3d fun q=>h (f4x cl hs q).1]
omit cl in
include nm in
theorem f6b:(a0v (a8n x) e3m).1=[]:=by
 rw[b4u (by decide)]
 refine c4n ?_
 cases hk:kn x e3m with
 |false=>rfl
 |true=>exact absurd (nm _ hk) (by decide)
omit cl in
include nm hz in
theorem f9w:c2z (a8n x) zzT=false:=by
 refine d3d fun h=>?_
 have key:∀ z,Gets (a8n x) zzT z->z=e3m:=fun z h=>by
   induction h with
   |one h=>rw[f2j hz]at h;exact List.mem_singleton.1 h
   |step _ h ih=>rw[ih,f6b nm]at h;cases h
 exact absurd (key _ h) (by decide)
theorem f0j:∀ (f:Nat) (s:S),s≠zzT->szF (a8n x) f s=szF x f s
 |0,_,_=>rfl
 |f+1,s,hs=>by
  have hy:∀ y∈(a0v x s).1,szF (a8n x) f y=szF x f y:=fun y hy=>f0j f y (c4b cl y hy)
  rw[szF,szF,b4u hs,d4v hs]
  rw[c6d _ _ fun y m a=>by rw[hy y m],c6d (f:=fun a y=>d5c a (szF (a8n x) f y)) _ _ fun y m a=>by rw[hy y m]]
omit cl in
theorem e8f:b6v (a8n x)=b6v x+1:=by
 unfold b6v
 rw[c4g,e8p]
 simp only[List.length_append,List.length_singleton];omega
theorem g2j {s:S} (hs:s≠zzT) (hd:a6t x (b6v x) s):szF (a8n x) (b6v (a8n x)) s=szF x (b6v x) s:=by
 rw[f0j cl _ s hs,e8f,e2t hd om]
omit cl in
include nm hz in
theorem h1h:d9x (szF (a8n x) (b6v (a8n x)) zzT)=false:=by
 have hkz:known (nS (a8n x)) zzT=true:=by unfold known;rw[c4g,c7w hz];rfl
 have h1:∀ f,szF (a8n x) (f+1) e3m=(1,1):=fun f=>by
   have hk:known (nS (a8n x)) e3m=false:=by
    rw[d4v (by decide)]
    cases hk:known (nS x) e3m with
    |false=>rfl
    |true=>exact absurd (nm _ (by unfold kn;rw[hk];rfl)) (by decide)
   have he:known (nE (a8n x)) e3m=false:=by
    rw[e8p]
    cases hk:known (nE x) e3m with
    |false=>rfl
    |true=>exact absurd (nm _ (by unfold kn;rw[hk,Bool.or_true])) (by decide)
   have hh:(a0v (a8n x) e3m).2=false:=by
    rw[d7e,hk,he];rfl
   rw[szF,hh,hk]
   rfl
 have h2:∀ f,szF (a8n x) (f+2) zzT=(1,2):=fun f=>by
   rw[szF,f2j hz,hkz]
   show d5c (0,1) (szF (a8n x) (f+1) e3m)=_
   rw[h1];rfl
 unfold b6v
 rw[c4g,show(nS x++[zzT]++nE (a8n x)).length+1=((nS x).length+(nE (a8n x)).length)+2 from by simp only[List.length_append,List.length_singleton];omega,h2]
 decide
end
end Go.Vm.Ip
