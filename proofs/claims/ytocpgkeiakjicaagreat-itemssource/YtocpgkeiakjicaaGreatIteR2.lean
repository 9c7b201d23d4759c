import Derived.Test.YtocpgkeiakjicaaGreatItlW5
import Derived.Test.YtocpgkeiakjicaaGreatTypP18
import Derived.Test.YtocpgkeiakjicaaGreatTreP5
set_option maxRecDepth 100000
set_option linter.unusedVariables false
set_option linter.unusedSimpArgs false
namespace Go.Vm.Ite
open Go.Vm.Tp (Nd a1r a1f a3x)
open Go.Vm.Ip
open Go.Vm.Io (In Rt nd txt tx a3q mem ret a2v a9w roots inn unk)
open Go.Vm.Itr (b0w)
def a7j (l:List Int):D:= .sl (l.map (D.int .i64))
abbrev H4x (t:List Nd) (x:Its) (X:Hp):Hp:= .box [.d (.sl (t.map Nd.D)),.row 1 x.ss.length,.row 2 x.es.length,.row 3 x.fs.length,.nul]:: .row 2 (x.ss.map Nam.D):: .row 2 (x.es.map Nam.D):: .row 5 (x.fs.map Fnc.D)::X
abbrev H9x (t:List Nd) (x:Its) (X:Hp):Hp:= .box [.d (.sl (t.map Nd.D)),.row 1 x.ss.length,.row 2 x.es.length,.row 3 x.fs.length,.ptr 8 0]:: .row 2 (x.ss.map Nam.D):: .row 2 (x.es.map Nam.D):: .row 5 (x.fs.map Fnc.D)::IB x:: .map (a7e (nS x)):: .map (a7e (nE x)):: .map (a7e (nF x)):: .box [.mp 5,.mp 6,.mp 7]::X
section
variable {fx:Nat->Option Obj} {F:Nat->Option a0t} {t:List Nd} {x:Its} {X:Hp}
theorem h3m {y:Its} {f:Nat} {a:List V} {r:V} (h:evF (pgL fx F0) f a (H4x t x [])=some (r,H4x t y [])) (ha:a1e 4 a=true) (hr:r.und 4=true):evF (pgL fx F) f a (H4x t x X)=some (r,H4x t y X):=by
 apply up
 exact d7t (mv fx) h ha rfl rfl rfl hr
theorem d4c {f:Nat} {a:List V} {r:V} (h:evF (pgL fx F0) f a (H9x t x [])=some (r,H9x t x [])) (ha:a1e 9 a=true) (hr:r.und 9=true):evF (pgL fx F) f a (H9x t x X)=some (r,H9x t x X):=by
 apply up
 exact d7t (mv fx) h ha rfl rfl rfl hr
theorem g0r {e i:Int} (hi:In t i):evF (pgL fx F) a2o [.ptr 0 0,.d (.int .i64 e),.d (.int .i64 i)] (H4x t x X)=some (.d (Lex.dgD e (nd t i).f (nd t i).e),H4x t x X):=by
 refine h3m ?_ rfl rfl
 have pn:=a3l hi
 refine a0f (a9e (F:=F)) rfl rfl rfl ?_
 repeat' (first|refine a2p ⟨?_⟩|refine a0a pn ?_|refine a0c 3 (by decide) (by decide) ?_|fail)
 exact rfl
theorem b4a {e i:Int} (hi:In t i):evF (pgL fx F) a2o [.ptr 0 0,.d (.int .i64 e),.d (.int .i64 i)] (H9x t x X)=some (.d (Lex.dgD e (nd t i).f (nd t i).e),H9x t x X):=by
 refine d4c ?_ rfl rfl
 have pn:=a3l hi
 refine a0f (a9e (F:=F)) rfl rfl rfl ?_
 repeat' (first|refine a2p ⟨?_⟩|refine a0a pn ?_|refine a0c 3 (by decide) (by decide) ?_|fail)
 exact rfl
theorem d8b (h:Rf t) {i:Int} (hi:In t i) (hk:(nd t i).kids=[]\/∃ a,(nd t i).kids=[a]/\a3x (nd t a).k=true):evF (pgL fx F) b5y [.ptr 0 0,.d (.int .i64 i)] (H4x t x X)=some (.d (a3q t i).D,H4x t x X):=by
 refine h3m ?_ rfl rfl
 have pn:=a3l hi
 have hl:((nd t i).kids.map (D.int .i64)).length=(nd t i).kids.length:=List.length_map ..
 unfold a3q
 refine a0f (b5j (F:=F)) rfl rfl rfl ?_
 rcases hk with ek|⟨a,ek,ea⟩
 ·have c:¬ (((nd t i).kids.map (D.int .i64)).length:Int) > 0:=by rw[ek];simp
  repeat' (first|refine a2p ⟨?_⟩|refine a0a pn ?_|refine a0c 3 (by decide) (by decide) ?_|fail)
  rw[ek]
  first|exact rfl|exact⟨rfl,rfl⟩
 ·have c:(((nd t i).kids.map (D.int .i64)).length:Int) > 0:=by rw[ek];simp
  have pk:(0:Int)<=0/\((nd t i).kids.map (D.int .i64))[(0:Int).toNat]? =some (.int .i64 a):=⟨Int.le_refl _,by rw[ek];rfl⟩
  have ht:=fun H=>f2t (fx:=fx) (F:=F0) h (h.rt.inK hi (by rw[ek];exact List.mem_cons_self)) ea H
  repeat' (first|refine a2p ⟨?_⟩|refine a0a pn ?_|refine a0a pk ?_|refine ca (ht _) ?_|refine a0c 3 (by decide) (by decide) ?_|fail)
  rw[ek]
  first|exact rfl|exact⟨rfl,rfl⟩
theorem f9f (h:Rf t) {i:Int} (hi:In t i):evF (pgL fx F) b6z [.ptr 0 0,.d (.int .i64 i)] (H9x t x X)=some (.d (a7j (mem t i)),H9x t x X):=by
 refine d4c ?_ rfl rfl
 have pn:=a3l hi
 have hl:((nd t i).kids.map (D.int .i64)).length=(nd t i).kids.length:=List.length_map ..
 unfold mem
 refine a0f (b7a (F:=F)) rfl rfl rfl ?_
 by_cases c:(nd t i).k=2
 ·obtain⟨ps,a,b,ek,_⟩:=h.rt.fn i hi c
  have hlt:=hi.lt
  have h2:(nd t i).kids.length=ps.length+2:=by rw[ek];simp
  have hb:=h.kl i
  ·have ew:IntKind.i64.wrap ((((nd t i).kids.map (D.int .i64)).length:Int) - 2)=((ps.length:Nat):Int):=by rw[hl,h2,a0w om];omega
   have s1:0<=IntKind.i64.wrap ((((nd t i).kids.map (D.int .i64)).length:Int) - 2):=by rw[ew];omega
   have s2:0<=(IntKind.i64.wrap ((((nd t i).kids.map (D.int .i64)).length:Int) - 2)).toNat/\(IntKind.i64.wrap ((((nd t i).kids.map (D.int .i64)).length:Int) - 2)).toNat<=((nd t i).kids.map (D.int .i64)).length/\true=true:=⟨Nat.zero_le _,by rw[ew,hl,h2];omega,rfl⟩
   repeat' (first|refine a2p ⟨?_⟩|refine a0a pn ?_|refine And.intro s1 ?_|refine And.intro s2 ?_|refine a0c 3 (by decide) (by decide) ?_|fail)
   rw[if_pos c,ew,Int.toNat_natCast,h2,Nat.add_sub_cancel]
   unfold a7j
   rw[List.map_take]
   first|exact rfl|exact⟨rfl,rfl⟩
 ·repeat' (first|refine a2p ⟨?_⟩|refine a0a pn ?_|refine a0c 3 (by decide) (by decide) ?_|fail)
  rw[if_neg c]
  first|exact rfl|exact⟨rfl,rfl⟩
set_option maxHeartbeats 4000000 in
theorem d2e (h:Rf t):∀ (n:Nat) (may:Bool) (i:Int),n<=20000->In t i->a3x (nd t i).k=true->i.toNat < n->evF (pgL fx F0) b5v [.ptr 0 0,.d (.int .i64 i),.d (.bool may)] (H9x t x [])=some (.d (.int .i64 (inn t (n) may i)),H9x t x [])
 |0,_,_,_,_,_,hn=>absurd hn (Nat.not_lt_zero _)
 |n+1,may,i,hm,hi,hty,hn=>by
  have pn:=a3l hi
  have hlen:((nd t i).kids.map (D.int .i64)).length=(nd t i).kids.length:=List.length_map ..
  have ih:=fun a (ha:a∈(nd t i).kids) (hb:a3x (nd t a).k=true)=>d2e h n false a om (h.rt.inK hi ha) hb (by have:=h.rt.kid i hi a ha;omega)
  have hks:=h.rt.ty hi hty
  refine a0f (b5r (F:=F0)) rfl rfl rfl ?_
  rw[show inn t (n+1) may i=if(!may && (decide ((nd t i).k=14)||decide ((nd t i).k=15))) then i else match(nd t i).kids with|[]=> -1|a::_=>if 0<=inn t n false a then inn t n false a else -1 from rfl]
  cases may<;>cases d1:decide ((nd t i).k=14)<;>cases d2:decide ((nd t i).k=15)
  all_goals simp only[Bool.not_true,Bool.not_false,Bool.true_and,Bool.false_and,Bool.or_true,Bool.or_false,Bool.true_or,Bool.false_or,Bool.and_true,Bool.and_false,if_pos,if_neg,Bool.false_eq_true,if_false,if_true]
  all_goals repeat' (first|refine a2p ⟨?_⟩|refine a0a pn ?_|refine a0m d1 ?_|refine a0j d1 ?_|refine a0m d2 ?_|refine a0j d2 ?_|refine a0c 3 (by decide) (by decide) ?_|fail)
  all_goals first
    |exact rfl
    |(rcases hks with ek|⟨a,ek,ea⟩
      ·refine a0g (α:=Nat) (fun j=>1 - j) (fun j=>[(0,.ptr 0 0),(33,.d (.sl ((nd t i).kids.map (D.int .i64)))),(34,i64 0),(35,i64 j)]) (fun _=>H9x t x [.box [.d (.int .i64 (nd t i).k),str (nd t i).t,.d (.int .i64 (nd t i).v),.d (.sl ((nd t i).kids.map (D.int .i64))),.d (.int .i64 (nd t i).f),.d (.int .i64 (nd t i).e)]]) (fun j=>j=0) ?_ 0 rfl (by rw[ek];rfl) rfl
       rintro j rfl
       have h':¬ ((0:Nat):Int) < 0:=om
       repeat' (first|refine a2p ⟨?_⟩|refine a0c 3 (by decide) (by decide) ?_|fail)
       rw[ek]
       first|exact rfl|exact⟨rfl,rfl⟩
      ·have hc:=d4c (fx:=fx) (F:=F0) (X:=[.box [.d (.int .i64 (nd t i).k),str (nd t i).t,.d (.int .i64 (nd t i).v),.d (.sl ((nd t i).kids.map (D.int .i64))),.d (.int .i64 (nd t i).f),.d (.int .i64 (nd t i).e)]]) (ih a (by rw[ek];exact List.mem_cons_self) ea) rfl rfl
       refine a0g (α:=Nat) (fun j=>1 - j) (fun j=>[(0,.ptr 0 0),(33,.d (.sl ((nd t i).kids.map (D.int .i64)))),(34,i64 1),(35,i64 j)]) (fun _=>H9x t x [.box [.d (.int .i64 (nd t i).k),str (nd t i).t,.d (.int .i64 (nd t i).v),.d (.sl ((nd t i).kids.map (D.int .i64))),.d (.int .i64 (nd t i).f),.d (.int .i64 (nd t i).e)]]) (fun j=>j=0\/(j=1/\¬ 0<=inn t n false a)) ?_ 0 (.inl rfl) (by rw[ek];rfl) rfl
       have ek2:(match(nd t i).kids with|[]=> -1|a::_=>if 0<=inn t n false a then inn t n false a else -1)=if 0<=inn t n false a then inn t n false a else -1:=by rw[ek]
       rw[ek2]
       rintro j (rfl|⟨rfl,hneg⟩)
       ·have h':((0:Nat):Int) < 1:=om
        have pk:0<=((0:Nat):Int)/\((nd t i).kids.map (D.int .i64))[((0:Nat):Int).toNat]? =some (.int .i64 a):=⟨om,by rw[ek];rfl⟩
        by_cases hr:0<=inn t n false a
        ·rw[if_pos hr]
         repeat' (first|refine a2p ⟨?_⟩|refine a0a pk ?_|refine ca (hc) ?_|refine a0c 3 (by decide) (by decide) ?_|fail)
         exact rfl
        ·repeat' (first|refine a2p ⟨?_⟩|refine a0a pk ?_|refine ca (hc) ?_|refine a0c 3 (by decide) (by decide) ?_|fail)
         exact⟨1,.inr ⟨rfl,hr⟩,om,rfl,rfl⟩
       ·have h':¬ ((1:Nat):Int) < 1:=om
        rw[if_neg hneg]
        repeat' (first|refine a2p ⟨?_⟩|refine a0c 3 (by decide) (by decide) ?_|fail)
        exact rfl)
set_option maxHeartbeats 4000000 in
theorem c0h (h:Rf t):∀ (n:Nat) (i:Int),n<=20000->In t i->a3x (nd t i).k=true->i.toNat < n->evF (pgL fx F0) b2s [.ptr 0 0,.d (.int .i64 i)] (H9x t x [])=some (.d (.int .i64 (unk t (kn x) (n) i)),H9x t x [])
 |0,_,_,_,_,hn=>absurd hn (Nat.not_lt_zero _)
 |n+1,i,hm,hi,hty,hn=>by
  have pn:=a3l hi
  have hlen:((nd t i).kids.map (D.int .i64)).length=(nd t i).kids.length:=List.length_map ..
  have ih:=fun a (ha:a∈(nd t i).kids) (hb:a3x (nd t a).k=true)=>c0h h n a om (h.rt.inK hi ha) hb (by have:=h.rt.kid i hi a ha;omega)
  have hks:=h.rt.ty hi hty
  have hnm:∀ b,evF (pgL fx F0) a8c [.ptr 8 0,str (nd t i).t] (H9x t x [b])=some (boo (kn x (nd t i).t),H9x t x [b]):=fun b=>a5b (mv fx) [5,6,7,8] (X:=H9x t x [b]) (g3u (fx:=fx) (F:=F0) x (nd t i).t) rfl rfl rfl rfl rfl
  refine a0f (b3c (F:=F0)) rfl rfl rfl ?_
  rw[show unk t (kn x) (n+1) i=if(decide ((nd t i).k=13) && !kn x (nd t i).t) then i else match(nd t i).kids with|[]=> -1|a::_=>if 0<=unk t (kn x) n a then unk t (kn x) n a else -1 from rfl]
  cases d1:decide ((nd t i).k=13)<;>cases d2:(!kn x (nd t i).t)
  all_goals simp only[Bool.not_true,Bool.not_false,Bool.true_and,Bool.false_and,Bool.or_true,Bool.or_false,Bool.true_or,Bool.false_or,Bool.and_true,Bool.and_false,if_pos,if_neg,Bool.false_eq_true,if_false,if_true]
  all_goals repeat' (first|refine a2p ⟨?_⟩|refine a0a pn ?_|refine ca (hnm _) ?_|refine a0m d1 ?_|refine a0j d1 ?_|refine a0m d2 ?_|refine a0j d2 ?_|refine a0c 3 (by decide) (by decide) ?_|fail)
  all_goals first
    |exact rfl
    |(rcases hks with ek|⟨a,ek,ea⟩
      ·refine a0g (α:=Nat) (fun j=>1 - j) (fun j=>[(0,.ptr 0 0),(32,.d (.sl ((nd t i).kids.map (D.int .i64)))),(33,i64 0),(34,i64 j)]) (fun _=>H9x t x [.box [.d (.int .i64 (nd t i).k),str (nd t i).t,.d (.int .i64 (nd t i).v),.d (.sl ((nd t i).kids.map (D.int .i64))),.d (.int .i64 (nd t i).f),.d (.int .i64 (nd t i).e)]]) (fun j=>j=0) ?_ 0 rfl (by rw[ek];rfl) rfl
       rintro j rfl
       have h':¬ ((0:Nat):Int) < 0:=om
       repeat' (first|refine a2p ⟨?_⟩|refine a0c 3 (by decide) (by decide) ?_|fail)
       rw[ek]
       first|exact rfl|exact⟨rfl,rfl⟩
      ·have hc:=d4c (fx:=fx) (F:=F0) (X:=[.box [.d (.int .i64 (nd t i).k),str (nd t i).t,.d (.int .i64 (nd t i).v),.d (.sl ((nd t i).kids.map (D.int .i64))),.d (.int .i64 (nd t i).f),.d (.int .i64 (nd t i).e)]]) (ih a (by rw[ek];exact List.mem_cons_self) ea) rfl rfl
       refine a0g (α:=Nat) (fun j=>1 - j) (fun j=>[(0,.ptr 0 0),(32,.d (.sl ((nd t i).kids.map (D.int .i64)))),(33,i64 1),(34,i64 j)]) (fun _=>H9x t x [.box [.d (.int .i64 (nd t i).k),str (nd t i).t,.d (.int .i64 (nd t i).v),.d (.sl ((nd t i).kids.map (D.int .i64))),.d (.int .i64 (nd t i).f),.d (.int .i64 (nd t i).e)]]) (fun j=>j=0\/(j=1/\¬ 0<=unk t (kn x) n a)) ?_ 0 (.inl rfl) (by rw[ek];rfl) rfl
       have ek2:(match(nd t i).kids with|[]=> -1|a::_=>if 0<=unk t (kn x) n a then unk t (kn x) n a else -1)=if 0<=unk t (kn x) n a then unk t (kn x) n a else -1:=by rw[ek]
       rw[ek2]
       rintro j (rfl|⟨rfl,hneg⟩)
       ·have h':((0:Nat):Int) < 1:=om
        have pk:0<=((0:Nat):Int)/\((nd t i).kids.map (D.int .i64))[((0:Nat):Int).toNat]? =some (.int .i64 a):=⟨om,by rw[ek];rfl⟩
        by_cases hr:0<=unk t (kn x) n a
        ·rw[if_pos hr]
         repeat' (first|refine a2p ⟨?_⟩|refine a0a pk ?_|refine ca (hc) ?_|refine a0c 3 (by decide) (by decide) ?_|fail)
         exact rfl
        ·repeat' (first|refine a2p ⟨?_⟩|refine a0a pk ?_|refine ca (hc) ?_|refine a0c 3 (by decide) (by decide) ?_|fail)
         exact⟨1,.inr ⟨rfl,hr⟩,om,rfl,rfl⟩
       ·have h':¬ ((1:Nat):Int) < 1:=om
        rw[if_neg hneg]
        repeat' (first|refine a2p ⟨?_⟩|refine a0c 3 (by decide) (by decide) ?_|fail)
        exact rfl)
end
end Go.Vm.Ite
namespace Go.Vm.Ite
open Go.Vm.Tp (Nd a1r a1f a3x)
open Go.Vm.Ip
open Go.Vm.Io (In Rt nd txt tx a3q mem ret a2v a9w roots a7x col)
open Go.Vm.Itr (b0w)
theorem a3i {α β:Type} (f:α->β) {l:List α} {i:Nat} (h:i < l.length):(l.take i).map f++[f l[i]]=(l.take (i+1)).map f:=by
 rw[List.take_add_one,List.getElem?_eq_getElem h,List.map_append];rfl
theorem b9q {l:List Int} {i:Nat} (h:i < l.length):0<=(i:Int)/\(l.map (D.int .i64))[(i:Int).toNat]? =some (.int .i64 l[i]):=⟨om,by rw[Int.toNat_natCast,List.getElem?_map,List.getElem?_eq_getElem h];rfl⟩
abbrev NBx (t:List Nd) (i:Int):Ob:= .box [.d (.int .i64 (nd t i).k),str (nd t i).t,.d (.int .i64 (nd t i).v),.d (.sl ((nd t i).kids.map (D.int .i64))),.d (.int .i64 (nd t i).f),.d (.int .i64 (nd t i).e)]
section
variable {fx:Nat->Option Obj} {t:List Nd}
set_option maxHeartbeats 8000000 in
theorem f0t (h:Rf t) (l:List Int) (hll:l.length<=1048576) (hl:∀ n∈l,In t n/\((nd t n).k=2\/(nd t n).k=3\/(nd t n).k=4)):evF (pgL fx F0) a6s [.ptr 0 0,.d (a7j l)] (H4x t ⟨[],[],[]⟩ [])=some (.tup [i64 (col t l).2,boo (decide ((col t l).2 < 0))],H4x t (col t l).1 []):=by
 refine a0f (b2r (F:=F0)) rfl rfl rfl ?_
 have hlen:(l.map (D.int .i64)).length=l.length:=List.length_map ..
 refine run ⟨?_⟩
 refine a0g (α:=Nat×Its×Int) (fun a=>l.length - a.1) (fun a=>[(0,.ptr 0 0),(6,i64 a.2.2),(21,.d (a7j l)),(22,i64 l.length),(23,i64 a.1)]) (fun a=>H4x t a.2.1 []) (fun a=>a.1<=l.length/\(l.drop a.1).foldl (a7x t) a.2=col t l/\a.2.1.ss.length<=a.1/\a.2.1.es.length<=a.1/\a.2.1.fs.length<=a.1) ?_ (0,⟨[],[],[]⟩,-1) ⟨Nat.zero_le _,by rw[List.drop_zero];rfl,Nat.le_refl _,Nat.le_refl _,Nat.le_refl _⟩ (by show[_,_,_,(22,i64 ((l.map (D.int .i64)).length:Int)),_]=_;rw[hlen];rfl) rfl
 rintro⟨j,it,bad⟩ ⟨hj,hco,hs,he,hf⟩
 simp only at hj hco hs he hf⊢
 by_cases hlt:j < l.length
 ·have c1:(j:Int) < (l.length:Int):=om
  have pj:=b9q hlt
  rw[List.drop_eq_getElem_cons hlt,List.foldl_cons]at hco
  obtain⟨hin,hkk⟩:=hl _ (List.getElem_mem hlt)
  generalize l[j]=n at pj hco hin hkk
  have pn:=a3l hin
  have hkl:=h.kl n
  have hkn:((nd t n).kids.map (D.int .i64)).length=(nd t n).kids.length:=List.length_map ..
  have wj:IntKind.i64.wrap ((j:Int)+1)=((j+1:Nat):Int):=by rw[a0w om];omega
  have wi:∀ i:Nat,i < (nd t n).kids.length->IntKind.i64.wrap ((i:Int)+1)=((i+1:Nat):Int):=fun i hi=>by rw[a0w om];omega
  rcases hkk with k2|k3|k4
  ·have y3:¬ (nd t n).k=3:=om
   have y4:¬ (nd t n).k=4:=om
   obtain⟨ps,ra,rb,ek,hps,hra,hv⟩:=h.rt.fn n hin k2
   have hk:∀ a∈ps,In t a/\((nd t a).kids=[]\/∃ b,(nd t a).kids=[b]/\a3x (nd t b).k=true):=fun a ha=>by
     have hia:=h.rt.inK hin (k:=a) (by rw[ek];exact List.mem_append_left _ ha)
     exact⟨hia,.inr (h.rt.fd a hia (.inr (hps a ha)))⟩
   have hir:In t ra:=h.rt.inK hin (k:=ra) (by rw[ek];simp)
   have hk2:(nd t n).kids.length=ps.length+2:=by rw[ek];simp
   have ew:IntKind.i64.wrap ((((nd t n).kids.map (D.int .i64)).length:Int) - 2)=((ps.length:Nat):Int):=by rw[hkn,hk2,a0w om];omega
   have pr:0<=IntKind.i64.wrap ((((nd t n).kids.map (D.int .i64)).length:Int) - 2)/\((nd t n).kids.map (D.int .i64))[(IntKind.i64.wrap ((((nd t n).kids.map (D.int .i64)).length:Int) - 2)).toNat]? =some (.int .i64 ra):=by
    rw[ew,ek,Int.toNat_natCast];exact⟨om,by simp⟩
   have hte:=fun H=>f2t (fx:=fx) (F:=F0) h hir hra H
   have s1:0<=IntKind.i64.wrap ((((nd t n).kids.map (D.int .i64)).length:Int) - 2):=by rw[ew];omega
   have s2:0<=(IntKind.i64.wrap ((((nd t n).kids.map (D.int .i64)).length:Int) - 2)).toNat/\(IntKind.i64.wrap ((((nd t n).kids.map (D.int .i64)).length:Int) - 2)).toNat<=((nd t n).kids.map (D.int .i64)).length/\true=true:=⟨Nat.zero_le _,by rw[ew,hkn,hk2];omega,rfl⟩
   have hmem:mem t n=ps:=by unfold mem;rw[if_pos k2,hk2,ek,Nat.add_sub_cancel];simp
   have hret:ret t n=ra:=by unfold ret;rw[hk2,ek,Nat.add_sub_cancel];simp
   have hg:grew (H4x t it [NBx t n]) (H4x t it [NBx t n]++[.box [str [],.nils,.nils,str [],i64 0]])=true:=(a7o _ _).trans rfl
   repeat' (first|refine run ⟨?_⟩|refine a0a pj ?_|refine a0a pn ?_|refine a0a pr ?_|refine ca (hte _) ?_|refine And.intro hg ?_|refine And.intro s1 ?_|refine And.intro s2 ?_|fail)
   rw[show List.drop 0 (List.take (IntKind.i64.wrap ((((nd t n).kids.map (D.int .i64)).length:Int) - 2)).toNat ((nd t n).kids.map (D.int .i64)))=ps.map (D.int .i64)from by rw[ew,Int.toNat_natCast,ek,List.map_append,List.drop_zero];simp]
   have hpl:(ps.map (D.int .i64)).length=ps.length:=List.length_map ..
   refine a0g (α:=Nat×List Fld×List Bool) (fun a=>ps.length - a.1) (fun a=>[(0,.ptr 0 0),(6,i64 bad),(8,i64 n),(18,.ptr 5 0),(21,.d (a7j l)),(22,i64 l.length),(23,i64 j),(59,.d (a7j ps)),(60,i64 ps.length),(61,i64 a.1)]) (fun a=>H4x t it [NBx t n,.box [str (nd t n).t,.row 6 a.2.1.length,.row 7 a.2.2.length,str (tx t ra),i64 n],.row 2 (a.2.1.map Fld.D),.row 1 (a.2.2.map .bool)]) (fun a=>a.1<=ps.length/\a.2.1=(ps.take a.1).map (a3q t)/\a.2.2=(ps.take a.1).map (fun k=>decide ((nd t k).v=1))) ?_ (0,[],[]) ⟨Nat.zero_le _,rfl,rfl⟩ (by show[_,_,_,_,_,_,_,_,(60,i64 ((ps.map (D.int .i64)).length:Int)),_]=_;rw[hpl];rfl) rfl
   rintro⟨i,fs,ms⟩ ⟨hi,hfs,hms⟩
   simp only at hi hfs hms⊢
   have hfl:fs.length=i:=by rw[hfs,List.length_map,List.length_take];omega
   have hml:ms.length=i:=by rw[hms,List.length_map,List.length_take];omega
   by_cases hil:i < ps.length
   ·have c2:(i:Int) < (ps.length:Int):=om
    have pi:=b9q hil
    obtain⟨hia,hka⟩:=hk _ (List.getElem_mem hil)
    have pa:=a3l hia
    have hfe:=fun X=>d8b (fx:=fx) (F:=F0) (x:=it) (X:=X) h hia hka
    have hroom:(fs.map Fld.D).length=fs.length/\roomy (fs.length+1) 32:=⟨List.length_map ..,by unfold roomy;omega⟩
    have hroom2:(ms.map D.bool).length=ms.length/\roomy (ms.length+1) 1:=⟨List.length_map ..,by unfold roomy;omega⟩
    repeat' (first|refine run ⟨?_⟩|refine a0a pi ?_|refine a0a pa ?_|refine ca (hfe _) ?_|refine And.intro ⟨rfl,hroom⟩ ?_|refine And.intro ⟨rfl,hroom2⟩ ?_|refine And.intro ⟨rfl,by decide⟩ ?_|fail)
    refine⟨(i+1,fs++[a3q t ps[i]],ms++[decide ((nd t ps[i]).v=1)]),⟨by show i+1<=_;omega,by show _++_=_;rw[hfs];exact a3i _ hil,by show _++_=_;rw[hms];exact a3i (fun k=>decide ((nd t k).v=1)) hil⟩,by show _ - (i+1) < _ - i;omega,by rw[wi i om];rfl,?_⟩
    show H4x t it [NBx t n,.box [str (nd t n).t,.row 6 (fs.length+1),.row 7 (ms.length+1),str (tx t ra),i64 n],.row 2 (fs.map Fld.D++[(a3q t ps[i]).D]),.row 1 (ms.map .bool++[.bool (decide ((nd t ps[i]).v=1))])]=_
    simp
   ·have c2:¬ (i:Int) < (ps.length:Int):=om
    have hie:i=ps.length:=om
    have hfs2:fs=ps.map (a3q t):=by rw[hfs,hie,List.take_length]
    have hms2:ms=ps.map (fun k=>decide ((nd t k).v=1)):=by rw[hms,hie,List.take_length]
    have ht:toD (H4x t it [NBx t n,.box [str (nd t n).t,.row 6 fs.length,.row 7 ms.length,str (tx t ra),i64 n],.row 2 (fs.map Fld.D),.row 1 (ms.map .bool)]) (.agg [str (nd t n).t,.row 6 fs.length,.row 7 ms.length,str (tx t ra),i64 n])=some (a9w t n).D:=by
     simp[toD,a8i,d3i,a9w,Fnc.D,a2h,hmem,hret,hfs2,hms2]
    have hroom:(it.fs.map Fnc.D).length=it.fs.length/\roomy (it.fs.length+1) 88:=⟨List.length_map ..,by unfold roomy;omega⟩
    have hcol:a7x t (it,bad) n=(⟨it.ss,it.es,it.fs++[a9w t n]⟩,if 64 < it.fs.length+1/\bad < 0 then n else bad):=by
     unfold a7x;simp[y3,y4]
    rw[hcol]at hco
    have fin:∀ b:Int,(.box [.d (.sl (t.map Nd.D)),.row 1 it.ss.length,.row 2 it.es.length,.row 3 (it.fs.length+1),.nul]:: .row 2 (it.ss.map Nam.D):: .row 2 (it.es.map Nam.D):: .row 5 (it.fs.map Fnc.D++[(a9w t n).D])::[]:Hp)=H4x t ⟨it.ss,it.es,it.fs++[a9w t n]⟩ []:=fun b=>by simp
    by_cases f64:64 < it.fs.length+1
    ·have d64:(64:Int) < ((it.fs.length+1:Nat):Int):=om
     by_cases hb:bad < 0
     ·rw[if_pos ⟨f64,hb⟩]at hco
      repeat' (first|refine a2p ⟨?_⟩|refine a0c 8 (by decide) (by decide) ?_|refine Exists.intro _ (And.intro ht ?_)|refine And.intro ⟨rfl,hroom⟩ ?_|refine And.intro ⟨rfl,by decide⟩ ?_|fail)
      exact⟨(j+1,⟨it.ss,it.es,it.fs++[a9w t n]⟩,n),⟨by show j+1<=_;omega,hco,by show it.ss.length<=j+1;omega,by show it.es.length<=j+1;omega,by show(_++[_]).length<=j+1;rw[List.length_append,List.length_singleton];omega⟩,by show _ - (j+1) < _ - j;omega,by rw[wj];rfl,fin 0⟩
     ·rw[if_neg (fun e=>hb e.2)]at hco
      repeat' (first|refine a2p ⟨?_⟩|refine a0c 8 (by decide) (by decide) ?_|refine Exists.intro _ (And.intro ht ?_)|refine And.intro ⟨rfl,hroom⟩ ?_|refine And.intro ⟨rfl,by decide⟩ ?_|fail)
      exact⟨(j+1,⟨it.ss,it.es,it.fs++[a9w t n]⟩,bad),⟨by show j+1<=_;omega,hco,by show it.ss.length<=j+1;omega,by show it.es.length<=j+1;omega,by show(_++[_]).length<=j+1;rw[List.length_append,List.length_singleton];omega⟩,by show _ - (j+1) < _ - j;omega,by rw[wj];rfl,fin 0⟩
    ·have d64:¬ (64:Int) < ((it.fs.length+1:Nat):Int):=om
     rw[if_neg (fun e=>f64 e.1)]at hco
     repeat' (first|refine a2p ⟨?_⟩|refine a0c 8 (by decide) (by decide) ?_|refine Exists.intro _ (And.intro ht ?_)|refine And.intro ⟨rfl,hroom⟩ ?_|refine And.intro ⟨rfl,by decide⟩ ?_|fail)
     exact⟨(j+1,⟨it.ss,it.es,it.fs++[a9w t n]⟩,bad),⟨by show j+1<=_;omega,hco,by show it.ss.length<=j+1;omega,by show it.es.length<=j+1;omega,by show(_++[_]).length<=j+1;rw[List.length_append,List.length_singleton];omega⟩,by show _ - (j+1) < _ - j;omega,by rw[wj];rfl,fin 0⟩
  ·have y3:=k3
   have hk:∀ a∈(nd t n).kids,(nd t a).kids=[]\/∃ b,(nd t a).kids=[b]/\a3x (nd t b).k=true:=fun a ha=> .inr (h.rt.fd a (h.rt.inK hin ha) (.inl (h.rt.st n hin k3 a ha)))
   repeat' (first|refine run ⟨?_⟩|refine a0a pj ?_|refine a0a pn ?_|fail)
   refine a0g (α:=Nat×List Fld) (fun a=>(nd t n).kids.length - a.1) (fun a=>[(0,.ptr 0 0),(6,i64 bad),(8,i64 n),(11,.ptr 5 0),(21,.d (a7j l)),(22,i64 l.length),(23,i64 j),(114,.d (a7j (nd t n).kids)),(115,i64 (nd t n).kids.length),(116,i64 a.1)]) (fun a=>H4x t it [NBx t n,.box [str (nd t n).t,.row 6 a.2.length],.row 2 (a.2.map Fld.D)]) (fun a=>a.1<=(nd t n).kids.length/\a.2=((nd t n).kids.take a.1).map (a3q t)) ?_ (0,[]) ⟨Nat.zero_le _,rfl⟩ (by show[_,_,_,_,_,_,_,_,(115,i64 (((nd t n).kids.map (D.int .i64)).length:Int)),_]=_;rw[hkn];rfl) rfl
   rintro⟨i,fs⟩ ⟨hi,hfs⟩
   simp only at hi hfs⊢
   have hfl:fs.length=i:=by rw[hfs,List.length_map,List.length_take];omega
   by_cases hil:i < (nd t n).kids.length
   ·have c2:(i:Int) < ((nd t n).kids.length:Int):=om
    have pi:=b9q hil
    have hm:=List.getElem_mem hil
    have hfe:=fun X=>d8b (fx:=fx) (F:=F0) (x:=it) (X:=X) h (h.rt.inK hin hm) (hk _ hm)
    have hroom:(fs.map Fld.D).length=fs.length/\roomy (fs.length+1) 32:=⟨List.length_map ..,by unfold roomy;omega⟩
    repeat' (first|refine run ⟨?_⟩|refine a0a pi ?_|refine ca (hfe _) ?_|refine And.intro ⟨rfl,hroom⟩ ?_|refine And.intro ⟨rfl,by decide⟩ ?_|fail)
    refine⟨(i+1,fs++[a3q t (nd t n).kids[i]]),⟨by show i+1<=_;omega,by show _++_=_;rw[hfs];exact a3i _ hil⟩,by show _ - (i+1) < _ - i;omega,by rw[wi i hil];rfl,?_⟩
    show H4x t it [NBx t n,.box [str (nd t n).t,.row 6 (fs.length+1)],.row 2 (fs.map Fld.D++[(a3q t (nd t n).kids[i]).D])]=_
    simp
   ·have c2:¬ (i:Int) < ((nd t n).kids.length:Int):=om
    have hie:i=(nd t n).kids.length:=om
    have hfs2:fs=(nd t n).kids.map (a3q t):=by rw[hfs,hie,List.take_length]
    have ht:toD (H4x t it [NBx t n,.box [str (nd t n).t,.row 6 fs.length],.row 2 (fs.map Fld.D)]) (.agg [str (nd t n).t,.row 6 fs.length])=some (a2v t n).D:=by
     simp[toD,a8i,d3i,a2v,Nam.D,a2h,hfs2]
    have hroom:(it.ss.map Nam.D).length=it.ss.length/\roomy (it.ss.length+1) 40:=⟨List.length_map ..,by unfold roomy;omega⟩
    have hcol:a7x t (it,bad) n=(⟨it.ss++[a2v t n],it.es,it.fs⟩,if 64 < it.ss.length+1/\bad < 0 then n else bad):=by
     unfold a7x;simp[k3]
    rw[hcol]at hco
    by_cases f64:64 < it.ss.length+1
    ·have d64:(64:Int) < ((it.ss.length+1:Nat):Int):=om
     by_cases hb:bad < 0
     ·rw[if_pos ⟨f64,hb⟩]at hco
      repeat' (first|refine a2p ⟨?_⟩|refine a0c 8 (by decide) (by decide) ?_|refine Exists.intro _ (And.intro ht ?_)|refine And.intro ⟨rfl,hroom⟩ ?_|refine And.intro ⟨rfl,by decide⟩ ?_|fail)
      refine⟨(j+1,⟨it.ss++[a2v t n],it.es,it.fs⟩,n),⟨by show j+1<=_;omega,hco,by show(_++[_]).length<=j+1;rw[List.length_append,List.length_singleton];omega,by show it.es.length<=j+1;omega,by show it.fs.length<=j+1;omega⟩,by show _ - (j+1) < _ - j;omega,by rw[wj];rfl,?_⟩
      show(.box [.d (.sl (t.map Nd.D)),.row 1 (it.ss.length+1),.row 2 (it.es.length),.row 3 (it.fs.length),.nul]:: .row 2 (it.ss.map Nam.D++[(a2v t n).D]):: .row 2 (it.es.map Nam.D):: .row 5 (it.fs.map Fnc.D)::[]:Hp)=_
      simp
     ·rw[if_neg (fun e=>hb e.2)]at hco
      repeat' (first|refine a2p ⟨?_⟩|refine a0c 8 (by decide) (by decide) ?_|refine Exists.intro _ (And.intro ht ?_)|refine And.intro ⟨rfl,hroom⟩ ?_|refine And.intro ⟨rfl,by decide⟩ ?_|fail)
      refine⟨(j+1,⟨it.ss++[a2v t n],it.es,it.fs⟩,bad),⟨by show j+1<=_;omega,hco,by show(_++[_]).length<=j+1;rw[List.length_append,List.length_singleton];omega,by show it.es.length<=j+1;omega,by show it.fs.length<=j+1;omega⟩,by show _ - (j+1) < _ - j;omega,by rw[wj];rfl,?_⟩
      show(.box [.d (.sl (t.map Nd.D)),.row 1 (it.ss.length+1),.row 2 (it.es.length),.row 3 (it.fs.length),.nul]:: .row 2 (it.ss.map Nam.D++[(a2v t n).D]):: .row 2 (it.es.map Nam.D):: .row 5 (it.fs.map Fnc.D)::[]:Hp)=_
      simp
    ·have d64:¬ (64:Int) < ((it.ss.length+1:Nat):Int):=om
     rw[if_neg (fun e=>f64 e.1)]at hco
     repeat' (first|refine a2p ⟨?_⟩|refine a0c 8 (by decide) (by decide) ?_|refine Exists.intro _ (And.intro ht ?_)|refine And.intro ⟨rfl,hroom⟩ ?_|refine And.intro ⟨rfl,by decide⟩ ?_|fail)
     refine⟨(j+1,⟨it.ss++[a2v t n],it.es,it.fs⟩,bad),⟨by show j+1<=_;omega,hco,by show(_++[_]).length<=j+1;rw[List.length_append,List.length_singleton];omega,by show it.es.length<=j+1;omega,by show it.fs.length<=j+1;omega⟩,by show _ - (j+1) < _ - j;omega,by rw[wj];rfl,?_⟩
     show(.box [.d (.sl (t.map Nd.D)),.row 1 (it.ss.length+1),.row 2 (it.es.length),.row 3 (it.fs.length),.nul]:: .row 2 (it.ss.map Nam.D++[(a2v t n).D]):: .row 2 (it.es.map Nam.D):: .row 5 (it.fs.map Fnc.D)::[]:Hp)=_
     simp
  ·have y3:¬ (nd t n).k=3:=om
   have y4:=k4
   have hk:∀ a∈(nd t n).kids,(nd t a).kids=[]\/∃ b,(nd t a).kids=[b]/\a3x (nd t b).k=true:=fun a ha=>h.rt.va a (h.rt.inK hin ha) (h.rt.en n hin k4 a ha)
   repeat' (first|refine run ⟨?_⟩|refine a0a pj ?_|refine a0a pn ?_|fail)
   refine a0g (α:=Nat×List Fld) (fun a=>(nd t n).kids.length - a.1) (fun a=>[(0,.ptr 0 0),(6,i64 bad),(8,i64 n),(14,.ptr 5 0),(21,.d (a7j l)),(22,i64 l.length),(23,i64 j),(154,.d (a7j (nd t n).kids)),(155,i64 (nd t n).kids.length),(156,i64 a.1)]) (fun a=>H4x t it [NBx t n,.box [str (nd t n).t,.row 6 a.2.length],.row 2 (a.2.map Fld.D)]) (fun a=>a.1<=(nd t n).kids.length/\a.2=((nd t n).kids.take a.1).map (a3q t)) ?_ (0,[]) ⟨Nat.zero_le _,rfl⟩ (by show[_,_,_,_,_,_,_,_,(155,i64 (((nd t n).kids.map (D.int .i64)).length:Int)),_]=_;rw[hkn];rfl) rfl
   rintro⟨i,fs⟩ ⟨hi,hfs⟩
   simp only at hi hfs⊢
   have hfl:fs.length=i:=by rw[hfs,List.length_map,List.length_take];omega
   by_cases hil:i < (nd t n).kids.length
   ·have c2:(i:Int) < ((nd t n).kids.length:Int):=om
    have pi:=b9q hil
    have hm:=List.getElem_mem hil
    have hfe:=fun X=>d8b (fx:=fx) (F:=F0) (x:=it) (X:=X) h (h.rt.inK hin hm) (hk _ hm)
    have hroom:(fs.map Fld.D).length=fs.length/\roomy (fs.length+1) 32:=⟨List.length_map ..,by unfold roomy;omega⟩
    repeat' (first|refine run ⟨?_⟩|refine a0a pi ?_|refine ca (hfe _) ?_|refine And.intro ⟨rfl,hroom⟩ ?_|refine And.intro ⟨rfl,by decide⟩ ?_|fail)
    refine⟨(i+1,fs++[a3q t (nd t n).kids[i]]),⟨by show i+1<=_;omega,by show _++_=_;rw[hfs];exact a3i _ hil⟩,by show _ - (i+1) < _ - i;omega,by rw[wi i hil];rfl,?_⟩
    show H4x t it [NBx t n,.box [str (nd t n).t,.row 6 (fs.length+1)],.row 2 (fs.map Fld.D++[(a3q t (nd t n).kids[i]).D])]=_
    simp
   ·have c2:¬ (i:Int) < ((nd t n).kids.length:Int):=om
    have hie:i=(nd t n).kids.length:=om
    have hfs2:fs=(nd t n).kids.map (a3q t):=by rw[hfs,hie,List.take_length]
    have ht:toD (H4x t it [NBx t n,.box [str (nd t n).t,.row 6 fs.length],.row 2 (fs.map Fld.D)]) (.agg [str (nd t n).t,.row 6 fs.length])=some (a2v t n).D:=by
     simp[toD,a8i,d3i,a2v,Nam.D,a2h,hfs2]
    have hroom:(it.es.map Nam.D).length=it.es.length/\roomy (it.es.length+1) 40:=⟨List.length_map ..,by unfold roomy;omega⟩
    have hcol:a7x t (it,bad) n=(⟨it.ss,it.es++[a2v t n],it.fs⟩,if 64 < it.es.length+1/\bad < 0 then n else bad):=by
     unfold a7x;simp[k4,y3]
    rw[hcol]at hco
    by_cases f64:64 < it.es.length+1
    ·have d64:(64:Int) < ((it.es.length+1:Nat):Int):=om
     by_cases hb:bad < 0
     ·rw[if_pos ⟨f64,hb⟩]at hco
      repeat' (first|refine a2p ⟨?_⟩|refine a0c 8 (by decide) (by decide) ?_|refine Exists.intro _ (And.intro ht ?_)|refine And.intro ⟨rfl,hroom⟩ ?_|refine And.intro ⟨rfl,by decide⟩ ?_|fail)
      refine⟨(j+1,⟨it.ss,it.es++[a2v t n],it.fs⟩,n),⟨by show j+1<=_;omega,hco,by show it.ss.length<=j+1;omega,by show(_++[_]).length<=j+1;rw[List.length_append,List.length_singleton];omega,by show it.fs.length<=j+1;omega⟩,by show _ - (j+1) < _ - j;omega,by rw[wj];rfl,?_⟩
      show(.box [.d (.sl (t.map Nd.D)),.row 1 (it.ss.length),.row 2 (it.es.length+1),.row 3 (it.fs.length),.nul]:: .row 2 (it.ss.map Nam.D):: .row 2 (it.es.map Nam.D++[(a2v t n).D]):: .row 5 (it.fs.map Fnc.D)::[]:Hp)=_
      simp
     ·rw[if_neg (fun e=>hb e.2)]at hco
      repeat' (first|refine a2p ⟨?_⟩|refine a0c 8 (by decide) (by decide) ?_|refine Exists.intro _ (And.intro ht ?_)|refine And.intro ⟨rfl,hroom⟩ ?_|refine And.intro ⟨rfl,by decide⟩ ?_|fail)
      refine⟨(j+1,⟨it.ss,it.es++[a2v t n],it.fs⟩,bad),⟨by show j+1<=_;omega,hco,by show it.ss.length<=j+1;omega,by show(_++[_]).length<=j+1;rw[List.length_append,List.length_singleton];omega,by show it.fs.length<=j+1;omega⟩,by show _ - (j+1) < _ - j;omega,by rw[wj];rfl,?_⟩
      show(.box [.d (.sl (t.map Nd.D)),.row 1 (it.ss.length),.row 2 (it.es.length+1),.row 3 (it.fs.length),.nul]:: .row 2 (it.ss.map Nam.D):: .row 2 (it.es.map Nam.D++[(a2v t n).D]):: .row 5 (it.fs.map Fnc.D)::[]:Hp)=_
      simp
    ·have d64:¬ (64:Int) < ((it.es.length+1:Nat):Int):=om
     rw[if_neg (fun e=>f64 e.1)]at hco
     repeat' (first|refine a2p ⟨?_⟩|refine a0c 8 (by decide) (by decide) ?_|refine Exists.intro _ (And.intro ht ?_)|refine And.intro ⟨rfl,hroom⟩ ?_|refine And.intro ⟨rfl,by decide⟩ ?_|fail)
     refine⟨(j+1,⟨it.ss,it.es++[a2v t n],it.fs⟩,bad),⟨by show j+1<=_;omega,hco,by show it.ss.length<=j+1;omega,by show(_++[_]).length<=j+1;rw[List.length_append,List.length_singleton];omega,by show it.fs.length<=j+1;omega⟩,by show _ - (j+1) < _ - j;omega,by rw[wj];rfl,?_⟩
     show(.box [.d (.sl (t.map Nd.D)),.row 1 (it.ss.length),.row 2 (it.es.length+1),.row 3 (it.fs.length),.nul]:: .row 2 (it.ss.map Nam.D):: .row 2 (it.es.map Nam.D++[(a2v t n).D]):: .row 5 (it.fs.map Fnc.D)::[]:Hp)=_
     simp
 ·have c1:¬ (j:Int) < (l.length:Int):=om
  have hje:j=l.length:=om
  rw[hje,List.drop_length,List.foldl_nil]at hco
  rw[<-hco]
  refine run ⟨?_⟩
  exact rfl
end
end Go.Vm.Ite
namespace Go.Vm.Ite
open Go.Vm.Tp (Nd a1r a1f a3x)
open Go.Vm.Ip
open Go.Vm.Io (In Rt nd txt tx a3q mem ret a2v a9w roots c8x b8v b2e b0p)
def dgO (t:List Nd):Option (Int×Int)->D
 |none=>Lex.dgD 0 0 0
 |some (c,n)=>Lex.dgD c (nd t n).f (nd t n).e
abbrev ZBo:Ob:= .box [i64 0,i64 0,i64 0]
section
variable {fx:Nat->Option Obj} {t:List Nd} {x:Its}
set_option maxHeartbeats 8000000 in
theorem g0p (h:Rf t) (l:List Int) (hll:l.length<=1048576) (hl:∀ n∈l,In t n):evF (pgL fx F0) a8f [.ptr 0 0,.d (a7j l)] (H9x t x [])=some (.d (dgO t (b8v t [] [b1m,c1d,b2k] l)),H9x t x []):=by
 refine a0f (b5x (F:=F0)) rfl rfl rfl ?_
 have hlen:(l.map (D.int .i64)).length=l.length:=List.length_map ..
 refine run ⟨?_⟩
 refine a0g (α:=Nat×List S×List S) (fun a=>l.length - a.1) (fun a=>[(0,.ptr 0 0),(4,.ptr 9 0),(5,.mp 10),(6,.mp 11),(19,.d (a7j l)),(20,i64 l.length),(21,i64 a.1)]) (fun a=>H9x t x [ZBo,.map (a8g a.2.1),.map (a8g a.2.2)]) (fun a=>a.1<=l.length/\b8v t a.2.1 a.2.2 (l.drop a.1)=b8v t [] [b1m,c1d,b2k] l) ?_ (0,[],[b1m,c1d,b2k]) ⟨Nat.zero_le _,by rw[List.drop_zero]⟩ (by show[_,_,_,_,_,(20,i64 ((l.map (D.int .i64)).length:Int)),_]=_;rw[hlen];rfl) rfl
 rintro⟨j,ts,fs⟩ ⟨hj,hco⟩
 simp only at hj hco⊢
 by_cases hlt:j < l.length
 ·have c1:(j:Int) < (l.length:Int):=om
  have pj:=b9q hlt
  rw[List.drop_eq_getElem_cons hlt]at hco
  have hin:=hl _ (List.getElem_mem hlt)
  generalize l[j]=n at pj hco hin
  have pn:=a3l hin
  have wj:IntKind.i64.wrap ((j:Int)+1)=((j+1:Nat):Int):=by rw[a0w om];omega
  obtain⟨ms,hms⟩:∃ ms,ms=mem t n:=⟨_,rfl⟩
  have hml:ms.length<=1048576:=by rw[hms];exact Nat.le_trans (b0p t n) (h.kl n)
  have hmi:∀ k∈ms,In t k:=fun k hk=>h.rt.inK hin (b2e (by rw[hms]at hk;exact hk))
  have hmm:(ms.map (D.int .i64)).length=ms.length:=List.length_map ..
  have hki:=fun X=>f9f (fx:=fx) (F:=F0) (x:=x) (X:=X) h hin
  have hdg:=fun e X=>b4a (fx:=fx) (F:=F0) (x:=x) (X:=X) (e:=e) hin
  have hdk:=fun k (hk:k∈ms) e X=>b4a (fx:=fx) (F:=F0) (x:=x) (X:=X) (e:=e) (hmi k hk)
  rw[<-hms]at hki
  rw[<-hco,b8v]
  rw[<-hms]
  have t1:=b1l ts
  have t2:=a8t (nd t n).t ts
  have t3:=b1p (nd t n).t ts
  have f1:=b1l fs
  have f2:=a8t (nd t n).t fs
  have f3:=b1p (nd t n).t fs
  by_cases k2:(nd t n).k=2
  ·rw[if_pos k2]
   by_cases hm:(nd t n).t∈fs
   ·rw[if_pos hm]at f2⊢
    repeat' (first|refine run ⟨?_⟩|refine a0a pj ?_|refine a0a pn ?_|refine mg f1 f2 ?_|refine ca (hdg _ _) ?_|fail)
    exact rfl
   rw[if_neg hm]at f2⊢
   have f3:=f3 hm
   by_cases hmost:6 < ms.length
   ·have d:(6:Int) < ((ms.map (D.int .i64)).length:Int):=om
    rw[if_pos hmost]
    repeat' (first|refine run ⟨?_⟩|refine a0a pj ?_|refine a0a pn ?_|refine mg f1 f2 ?_|refine And.intro f1 ?_|refine ca (hki _) ?_|refine ca (hdg _ _) ?_|fail)
    exact rfl
   have d:¬ (6:Int) < ((ms.map (D.int .i64)).length:Int):=om
   rw[if_neg hmost]
   repeat' (first|refine run ⟨?_⟩|refine a0a pj ?_|refine a0a pn ?_|refine mg f1 f2 ?_|refine And.intro f1 ?_|refine ca (hki _) ?_|fail)
   refine a0g (α:=Nat×List S) (fun a=>ms.length - a.1) (fun a=>[(0,.ptr 0 0),(4,.ptr 9 0),(5,.mp 10),(6,.mp 11),(13,.mp 13),(19,.d (a7j l)),(20,i64 l.length),(21,i64 j),(62,.d (a7j ms)),(63,i64 ms.length),(64,i64 a.1)]) (fun a=>H9x t x [ZBo,.map (a8g ts),.map (a8g (fs++[(nd t n).t])),NBx t n,.map (a8g a.2)]) (fun a=>a.1<=ms.length/\c8x t a.2 (ms.drop a.1)=c8x t [] ms) ?_ (0,[]) ⟨Nat.zero_le _,by rw[List.drop_zero]⟩ (by show[_,_,_,_,_,_,_,_,_,(63,i64 ((ms.map (D.int .i64)).length:Int)),_]=_;rw[hmm];rfl) (by show H9x t x [ZBo,.map (a8g ts),.map (c1m (.str (nd t n).t) (.int .i64 1) (a8g fs)),NBx t n,.map []]=_;rw[f3];rfl)
   rintro⟨i,own⟩ ⟨hi,hd⟩
   simp only at hi hd⊢
   by_cases hil:i < ms.length
   ·have c2:(i:Int) < (ms.length:Int):=om
    have pi:=b9q hil
    rw[List.drop_eq_getElem_cons hil,c8x]at hd
    have hk:=List.getElem_mem hil
    generalize ms[i]=k at pi hd hk
    have pk:=a3l (hmi k hk)
    have o1:=b1l own
    have o2:=a8t (nd t k).t own
    have o3:=b1p (nd t k).t own
    by_cases ho:(nd t k).t∈own
    ·rw[if_pos ho]at o2 hd
     rw[<-hd]
     repeat' (first|refine run ⟨?_⟩|refine a0a pi ?_|refine a0a pk ?_|refine mg o1 o2 ?_|refine ca (hdk k hk _ _) ?_|fail)
     exact rfl
    ·rw[if_neg ho]at o2 hd
     have o3:=o3 ho
     repeat' (first|refine run ⟨?_⟩|refine a0a pi ?_|refine a0a pk ?_|refine mg o1 o2 ?_|refine And.intro o1 ?_|fail)
     exact⟨(i+1,own++[(nd t k).t]),⟨by show i+1<=_;omega,hd⟩,by show _ - (i+1) < _ - i;omega,by rw[a0w (n:=(i:Int)+1) om];rfl,by show H9x t x [ZBo,_,_,NBx t n,.map (c1m (.str (nd t k).t) (.int .i64 1) (a8g own))]=_;rw[o3]⟩
   ·have c2:¬ (i:Int) < (ms.length:Int):=om
    have hie:i=ms.length:=om
    rw[hie,List.drop_length,c8x]at hd
    rw[<-hd]
    refine run ⟨?_⟩
    exact⟨(j+1,ts,(fs++[(nd t n).t])),⟨by show j+1<=_;omega,rfl⟩,by show _ - (j+1) < _ - j;omega,by rw[wj];rfl,rfl⟩
  ·rw[if_neg k2]
   by_cases hm:(nd t n).t∈ts
   ·rw[if_pos hm]at t2⊢
    repeat' (first|refine run ⟨?_⟩|refine a0a pj ?_|refine a0a pn ?_|refine mg t1 t2 ?_|refine ca (hdg _ _) ?_|fail)
    exact rfl
   rw[if_neg hm]at t2⊢
   have t3:=t3 hm
   by_cases hmost:16 < ms.length
   ·have d:(16:Int) < ((ms.map (D.int .i64)).length:Int):=om
    rw[if_pos hmost]
    repeat' (first|refine run ⟨?_⟩|refine a0a pj ?_|refine a0a pn ?_|refine mg t1 t2 ?_|refine And.intro t1 ?_|refine ca (hki _) ?_|refine ca (hdg _ _) ?_|fail)
    exact rfl
   have d:¬ (16:Int) < ((ms.map (D.int .i64)).length:Int):=om
   rw[if_neg hmost]
   repeat' (first|refine run ⟨?_⟩|refine a0a pj ?_|refine a0a pn ?_|refine mg t1 t2 ?_|refine And.intro t1 ?_|refine ca (hki _) ?_|fail)
   refine a0g (α:=Nat×List S) (fun a=>ms.length - a.1) (fun a=>[(0,.ptr 0 0),(4,.ptr 9 0),(5,.mp 10),(6,.mp 11),(13,.mp 13),(19,.d (a7j l)),(20,i64 l.length),(21,i64 j),(62,.d (a7j ms)),(63,i64 ms.length),(64,i64 a.1)]) (fun a=>H9x t x [ZBo,.map (a8g (ts++[(nd t n).t])),.map (a8g fs),NBx t n,.map (a8g a.2)]) (fun a=>a.1<=ms.length/\c8x t a.2 (ms.drop a.1)=c8x t [] ms) ?_ (0,[]) ⟨Nat.zero_le _,by rw[List.drop_zero]⟩ (by show[_,_,_,_,_,_,_,_,_,(63,i64 ((ms.map (D.int .i64)).length:Int)),_]=_;rw[hmm];rfl) (by show H9x t x [ZBo,.map (c1m (.str (nd t n).t) (.int .i64 1) (a8g ts)),.map (a8g fs),NBx t n,.map []]=_;rw[t3];rfl)
   rintro⟨i,own⟩ ⟨hi,hd⟩
   simp only at hi hd⊢
   by_cases hil:i < ms.length
   ·have c2:(i:Int) < (ms.length:Int):=om
    have pi:=b9q hil
    rw[List.drop_eq_getElem_cons hil,c8x]at hd
    have hk:=List.getElem_mem hil
    generalize ms[i]=k at pi hd hk
    have pk:=a3l (hmi k hk)
    have o1:=b1l own
    have o2:=a8t (nd t k).t own
    have o3:=b1p (nd t k).t own
    by_cases ho:(nd t k).t∈own
    ·rw[if_pos ho]at o2 hd
     rw[<-hd]
     repeat' (first|refine run ⟨?_⟩|refine a0a pi ?_|refine a0a pk ?_|refine mg o1 o2 ?_|refine ca (hdk k hk _ _) ?_|fail)
     exact rfl
    ·rw[if_neg ho]at o2 hd
     have o3:=o3 ho
     repeat' (first|refine run ⟨?_⟩|refine a0a pi ?_|refine a0a pk ?_|refine mg o1 o2 ?_|refine And.intro o1 ?_|fail)
     exact⟨(i+1,own++[(nd t k).t]),⟨by show i+1<=_;omega,hd⟩,by show _ - (i+1) < _ - i;omega,by rw[a0w (n:=(i:Int)+1) om];rfl,by show H9x t x [ZBo,_,_,NBx t n,.map (c1m (.str (nd t k).t) (.int .i64 1) (a8g own))]=_;rw[o3]⟩
   ·have c2:¬ (i:Int) < (ms.length:Int):=om
    have hie:i=ms.length:=om
    rw[hie,List.drop_length,c8x]at hd
    rw[<-hd]
    refine run ⟨?_⟩
    exact⟨(j+1,(ts++[(nd t n).t]),fs),⟨by show j+1<=_;omega,rfl⟩,by show _ - (j+1) < _ - j;omega,by rw[wj];rfl,rfl⟩
 ·have c1:¬ (j:Int) < (l.length:Int):=om
  have hje:j=l.length:=om
  rw[hje,List.drop_length,b8v]at hco
  rw[<-hco]
  refine run ⟨?_⟩
  exact rfl
end
end Go.Vm.Ite
namespace Go.Vm.Ite
open Go.Vm.Tp (Nd a1r a1f a3x)
open Go.Vm.Ip
open Go.Vm.Io (In Rt nd txt tx a3q mem ret a2v a9w roots b2e b0p inn unk tyl tyG d4w d3t)
section
variable {fx:Nat->Option Obj} {t:List Nd} {x:Its}
theorem f5s (l:List Int):((l.map (D.int .i64)).all (fun y=>y.cells.length==1))=true:=by simp[D.cells]
set_option maxHeartbeats 8000000 in
theorem g3r (h:Rf t) {n:Int} (hin:In t n) (hk:(nd t n).k=2\/(nd t n).k=3\/(nd t n).k=4):evF (pgL fx F0) a8d [.ptr 0 0,.d (.int .i64 n)] (H9x t x [])=some (.d (dgO t (tyG t (kn x) (decide ((nd t n).k=2)) (tyl t n))),H9x t x []):=by
 refine a0f (b5h (F:=F0)) rfl rfl rfl ?_
 have pn:=a3l hin
 have hkl:=h.kl n
 have hkn:((nd t n).kids.map (D.int .i64)).length=(nd t n).kids.length:=List.length_map ..
 obtain⟨ms,hms⟩:∃ ms,ms=mem t n:=⟨_,rfl⟩
 have hml:ms.length<=1048576:=by rw[hms];exact Nat.le_trans (b0p t n) (h.kl n)
 have hmi:∀ k∈ms,In t k/\((nd t k).kids=[]\/∃ a,(nd t k).kids=[a]/\a3x (nd t a).k=true):=fun k q=>h.rt.h6t hin hk (by rw[<-hms];exact q)
 have hmm:(ms.map (D.int .i64)).length=ms.length:=List.length_map ..
 have hki:=fun X=>f9f (fx:=fx) (F:=F0) (x:=x) (X:=X) h hin
 rw[<-hms]at hki
 obtain⟨L,hL⟩:∃ L,L=tyl t n:=⟨_,rfl⟩
 have hLi:∀ a∈L,In t a/\a3x (nd t a).k=true:=fun a ha=>h.rt.tylk hin hk (by rw[<-hL];exact ha)
 rw[<-hL]
 repeat' (first|refine run ⟨?_⟩|refine a0a pn ?_|refine ca (hki _) ?_|fail)
 refine a0g (α:=Nat×List Int) (fun a=>ms.length - a.1) (fun a=>[(0,.ptr 0 0),(4,.ptr 9 0),(5,.ptr 10 0),(6,.row 11 a.2.length),(23,.d (a7j ms)),(24,i64 ms.length),(25,i64 a.1)]) (fun a=>H9x t x [ZBo,NBx t n,.row 1 (a.2.map (D.int .i64))]) (fun a=>a.1<=ms.length/\a.2=((ms.take a.1).map fun k=>(nd t k).kids).flatten/\a.2.length<=a.1) ?_ (0,[]) ⟨Nat.zero_le _,rfl,Nat.le_refl _⟩ (by show[_,_,_,_,_,(24,i64 ((ms.map (D.int .i64)).length:Int)),_]=_;rw[hmm];rfl) rfl
 rintro⟨i,acc⟩ ⟨hi,ha,hal⟩
 simp only at hi ha hal⊢
 have hacc:(acc.map (D.int .i64)).length=acc.length:=List.length_map ..
 by_cases hil:i < ms.length
 ·have c2:(i:Int) < (ms.length:Int):=om
  have pi:=b9q hil
  obtain⟨g1,g2⟩:=hmi _ (List.getElem_mem hil)
  have ha2:((ms.take (i+1)).map fun k=>(nd t k).kids).flatten=acc++(nd t ms[i]).kids:=by
    rw[<-a3i (fun k=>(nd t k).kids) hil,List.flatten_append,<-ha];simp
  generalize ms[i]=k at pi g1 g2 ha2
  have pk:=a3l g1
  have hk1:(nd t k).kids.length<=1:=by rcases g2 with e|⟨a,e,_⟩<;>rw[e]<;>simp
  have hall:=f5s (nd t k).kids
  have hroom:(acc.map (D.int .i64)).length=acc.length/\roomy (acc.length+((nd t k).kids.map (D.int .i64)).length) 8:=⟨hacc,by rw[List.length_map];unfold roomy;omega⟩
  repeat' (first|refine run ⟨?_⟩|refine a0a pi ?_|refine a0a pk ?_|refine And.intro ⟨hall,by decide⟩ ?_|refine And.intro ⟨rfl,hroom⟩ ?_|fail)
  refine⟨(i+1,acc++(nd t k).kids),⟨by show i+1<=_;omega,ha2.symm,by show(acc++_).length<=i+1;rw[List.length_append];omega⟩,by show _ - (i+1) < _ - i;omega,?_,?_⟩
  ·rw[a0w (n:=(i:Int)+1) om]
   show[_,_,_,(6,V.row 11 (acc.length+((nd t k).kids.map (D.int .i64)).length)),_,_,_]=_
   rw[List.length_map,<-List.length_append];rfl
  ·show H9x t x [ZBo,NBx t n,.row 1 (acc.map (D.int .i64)++(nd t k).kids.map (D.int .i64))]=_
   rw[<-List.map_append]
 ·have c2:¬ (i:Int) < (ms.length:Int):=om
  have hie:i=ms.length:=om
  rw[hie,List.take_length,hms]at ha
  by_cases k2:(nd t n).k=2
  ·obtain⟨ps,b,ek,em,hir,hit⟩:=h.rt.h4m hin k2
   have hL2:L=acc++[ret t n]:=by rw[hL,ha];unfold tyl;rw[if_pos k2]
   have hk2:(nd t n).kids.length=ps.length+2:=by rw[ek];simp
   have ew:IntKind.i64.wrap ((((nd t n).kids.map (D.int .i64)).length:Int) - 2)=((ps.length:Nat):Int):=by rw[hkn,hk2,a0w om];omega
   have pr:0<=IntKind.i64.wrap ((((nd t n).kids.map (D.int .i64)).length:Int) - 2)/\((nd t n).kids.map (D.int .i64))[(IntKind.i64.wrap ((((nd t n).kids.map (D.int .i64)).length:Int) - 2)).toNat]? =some (.int .i64 (ret t n)):=by
    rw[ew,ek,Int.toNat_natCast];exact⟨om,by simp⟩
   have hroom:(acc.map (D.int .i64)).length=acc.length/\roomy (acc.length+1) 8:=⟨hacc,by unfold roomy;omega⟩
   have hLl:L.length=acc.length+1:=by rw[hL2];simp
   repeat' (first|refine run ⟨?_⟩|refine a0a pr ?_|refine And.intro ⟨rfl,by decide⟩ ?_|refine And.intro ⟨rfl,hroom⟩ ?_|fail)
   refine a0g (α:=Nat) (fun j=>L.length - j) (fun j=>[(0,.ptr 0 0),(4,.ptr 9 0),(5,.ptr 10 0),(55,.row 11 L.length),(56,i64 L.length),(57,i64 j)]) (fun _=>H9x t x [ZBo,NBx t n,.row 1 (L.map (D.int .i64))]) (fun j=>j<=L.length/\tyG t (kn x) (decide ((nd t n).k=2)) (L.drop j)=tyG t (kn x) (decide ((nd t n).k=2)) L) ?_ 0 ⟨Nat.zero_le _,by rw[List.drop_zero]⟩ (by rw[hLl];rfl) (by rw[hL2,List.map_append];rfl)
   rintro j ⟨hj,hd⟩
   rw[<-hd]
   have hLm:(L.map (D.int .i64)).length=L.length:=List.length_map ..
   by_cases hjl:j < L.length
   ·have c3:(j:Int) < (L.length:Int):=om
    have pj:=b9q hjl
    rw[List.drop_eq_getElem_cons hjl,tyG]at hd⊢
    obtain⟨q1,q2⟩:=hLi _ (List.getElem_mem hjl)
    generalize L[j]=a at pj hd q1 q2
    have eu:=fun X=>d4c (fx:=fx) (F:=F0) (X:=X) (c0h (fx:=fx) (x:=x) h t.length a h.rt.hi q1 q2 q1.2) rfl rfl
    have ei:=fun X=>d4c (fx:=fx) (F:=F0) (X:=X) (d2e (fx:=fx) (x:=x) h t.length (decide ((nd t n).k=2)) a h.rt.hi q1 q2 q1.2) rfl rfl
    have iu:=d4w h.rt (kn x) t.length a q1
    have ii:=d3t h.rt t.length (decide ((nd t n).k=2)) a q1
    generalize unk t (kn x) t.length a=u at eu iu hd
    generalize inn t t.length (decide ((nd t n).k=2)) a=v at ei ii hd
    by_cases cu:0<=u
    ·have dg:=fun e X=>b4a (fx:=fx) (F:=F0) (x:=x) (X:=X) (e:=e) (iu cu)
     rw[if_pos cu]
     repeat' (first|refine run ⟨?_⟩|refine And.intro hLm ?_|refine a0a pj ?_|refine ca (eu _) ?_|refine ca (dg _ _) ?_|fail)
     exact rfl
    ·rw[if_neg cu]at hd⊢
     by_cases cv:0<=v
     ·have dg:=fun e X=>b4a (fx:=fx) (F:=F0) (x:=x) (X:=X) (e:=e) (ii cv)
      rw[if_pos cv]
      repeat' (first|refine run ⟨?_⟩|refine And.intro hLm ?_|refine a0a pj ?_|refine ca (eu _) ?_|refine ca (ei _) ?_|refine ca (dg _ _) ?_|fail)
      exact rfl
     ·rw[if_neg cv]at hd⊢
      repeat' (first|refine run ⟨?_⟩|refine And.intro hLm ?_|refine a0a pj ?_|refine ca (eu _) ?_|refine ca (ei _) ?_|fail)
      exact⟨j+1,⟨om,rfl⟩,om,by rw[a0w om];rfl,rfl⟩
   ·have c3:¬ (j:Int) < (L.length:Int):=om
    obtain rfl:j=L.length:=om
    rw[List.drop_length,tyG]
    refine run ⟨?_⟩
    exact rfl
  ·have hL2:L=acc:=by rw[hL,ha];unfold tyl;rw[if_neg k2,List.append_nil]
   have hLl:L.length=acc.length:=by rw[hL2]
   refine run ⟨?_⟩
   refine a0g (α:=Nat) (fun j=>L.length - j) (fun j=>[(0,.ptr 0 0),(4,.ptr 9 0),(5,.ptr 10 0),(55,.row 11 L.length),(56,i64 L.length),(57,i64 j)]) (fun _=>H9x t x [ZBo,NBx t n,.row 1 (L.map (D.int .i64))]) (fun j=>j<=L.length/\tyG t (kn x) (decide ((nd t n).k=2)) (L.drop j)=tyG t (kn x) (decide ((nd t n).k=2)) L) ?_ 0 ⟨Nat.zero_le _,by rw[List.drop_zero]⟩ (by rw[hLl];rfl) (by rw[hL2])
   rintro j ⟨hj,hd⟩
   rw[<-hd]
   have hLm:(L.map (D.int .i64)).length=L.length:=List.length_map ..
   by_cases hjl:j < L.length
   ·have c3:(j:Int) < (L.length:Int):=om
    have pj:=b9q hjl
    rw[List.drop_eq_getElem_cons hjl,tyG]at hd⊢
    obtain⟨q1,q2⟩:=hLi _ (List.getElem_mem hjl)
    generalize L[j]=a at pj hd q1 q2
    have eu:=fun X=>d4c (fx:=fx) (F:=F0) (X:=X) (c0h (fx:=fx) (x:=x) h t.length a h.rt.hi q1 q2 q1.2) rfl rfl
    have ei:=fun X=>d4c (fx:=fx) (F:=F0) (X:=X) (d2e (fx:=fx) (x:=x) h t.length (decide ((nd t n).k=2)) a h.rt.hi q1 q2 q1.2) rfl rfl
    have iu:=d4w h.rt (kn x) t.length a q1
    have ii:=d3t h.rt t.length (decide ((nd t n).k=2)) a q1
    generalize unk t (kn x) t.length a=u at eu iu hd
    generalize inn t t.length (decide ((nd t n).k=2)) a=v at ei ii hd
    by_cases cu:0<=u
    ·have dg:=fun e X=>b4a (fx:=fx) (F:=F0) (x:=x) (X:=X) (e:=e) (iu cu)
     rw[if_pos cu]
     repeat' (first|refine run ⟨?_⟩|refine And.intro hLm ?_|refine a0a pj ?_|refine ca (eu _) ?_|refine ca (dg _ _) ?_|fail)
     exact rfl
    ·rw[if_neg cu]at hd⊢
     by_cases cv:0<=v
     ·have dg:=fun e X=>b4a (fx:=fx) (F:=F0) (x:=x) (X:=X) (e:=e) (ii cv)
      rw[if_pos cv]
      repeat' (first|refine run ⟨?_⟩|refine And.intro hLm ?_|refine a0a pj ?_|refine ca (eu _) ?_|refine ca (ei _) ?_|refine ca (dg _ _) ?_|fail)
      exact rfl
     ·rw[if_neg cv]at hd⊢
      repeat' (first|refine run ⟨?_⟩|refine And.intro hLm ?_|refine a0a pj ?_|refine ca (eu _) ?_|refine ca (ei _) ?_|fail)
      exact⟨j+1,⟨om,rfl⟩,om,by rw[a0w om];rfl,rfl⟩
   ·have c3:¬ (j:Int) < (L.length:Int):=om
    obtain rfl:j=L.length:=om
    rw[List.drop_length,tyG]
    refine run ⟨?_⟩
    exact rfl
end
end Go.Vm.Ite
namespace Go.Vm.Ite
open Go.Vm.Tp (Nd a1r a1f a3x)
open Go.Vm.Ip
open Go.Vm.Io (In Rt nd txt tx a3q mem ret a2v a9w roots d7m d6k b8s)
abbrev c6l (t:List Nd) (x:Its) (o0 o1 o2 o3:Ob) (X:Hp):Hp:=o0::o1::o2:: .box [.d (.sl (t.map Nd.D)),.row 4 x.ss.length,.row 5 x.es.length,.row 6 x.fs.length,.ptr 11 0]:: .row 2 (x.ss.map Nam.D):: .row 2 (x.es.map Nam.D):: .row 5 (x.fs.map Fnc.D)::IB x:: .map (a7e (nS x)):: .map (a7e (nE x)):: .map (a7e (nF x)):: .box [.mp 8,.mp 9,.mp 10]::o3::X
section
variable {fx:Nat->Option Obj} {t:List Nd} {x:Its}
theorem g6u {e i:Int} (hi:In t i) (o0 o1 o2 o3 y0 y1:Ob):evF (pgL fx FT) a2o [.ptr 3 0,.d (.int .i64 e),.d (.int .i64 i)] (c6l t x o0 o1 o2 o3 [y0,y1])=some (.d (Lex.dgD e (nd t i).f (nd t i).e),c6l t x o0 o1 o2 o3 [y0,y1]):=
 up (a5b (mv fx) [3,4,5,6,7,8,9,10,11] (X:=c6l t x o0 o1 o2 o3 [y0,y1]) (A:=[.ptr 3 0,.d (.int .i64 e),.d (.int .i64 i)]) (b4a (fx:=fx) (F:=F0) (x:=x) (X:=[]) (e:=e) hi) rfl rfl rfl rfl rfl)
theorem h9w {e i:Int} (hi:In t i) (o0 o1 o2 o3 y0 y1 y2 y3:Ob):evF (pgL fx FT) a2o [.ptr 3 0,.d (.int .i64 e),.d (.int .i64 i)] (c6l t x o0 o1 o2 o3 [y0,y1,y2,y3])=some (.d (Lex.dgD e (nd t i).f (nd t i).e),c6l t x o0 o1 o2 o3 [y0,y1,y2,y3]):=
 up (a5b (mv fx) [3,4,5,6,7,8,9,10,11] (X:=c6l t x o0 o1 o2 o3 [y0,y1,y2,y3]) (A:=[.ptr 3 0,.d (.int .i64 e),.d (.int .i64 i)]) (b4a (fx:=fx) (F:=F0) (x:=x) (X:=[]) (e:=e) hi) rfl rfl rfl rfl rfl)
theorem h8t (hx:b0r x) {N:Nat} (hN:N<=1000000) {s:S} (hd:a6r x N s) {d:List (S×Int×Int)} (hz:f3t x N d) (o0 o1 o2 o3 y0 y2:Ob):∃ d',f3t x N d'/\(∀ Y:Hp,Y=[]\/(∃ y3,Y=[y3])->evF (pgL fx FT) a8o [.d x.D,.ptr 11 0,str s,.mp 14] (c6l t x o0 o1 o2 o3 (y0:: .map (szM d)::y2::Y))=some (SzD (szF x N s),c6l t x o0 o1 o2 o3 (y0:: .map (szM d')::y2::Y))):=by
 obtain⟨r,H2,h1,rfl,d',h2,rfl⟩:=f1w (fx:=fx) x hx N hN N s hd (Nat.le_refl _) d hz
 refine⟨d',h2,fun Y hY=>?_⟩
 rcases hY with rfl|⟨y3,rfl⟩
 ·exact up (a5b (mv fx) [8,9,10,11,14] (X:=c6l t x o0 o1 o2 o3 [y0,.map (szM d),y2]) (A:=[.d x.D,.ptr 11 0,str s,.mp 14]) h1 rfl rfl rfl rfl rfl)
 ·exact up (a5b (mv fx) [8,9,10,11,14] (X:=c6l t x o0 o1 o2 o3 [y0,.map (szM d),y2,y3]) (A:=[.d x.D,.ptr 11 0,str s,.mp 14]) h1 rfl rfl rfl rfl rfl)
noncomputable def szA (t:List Nd) (x:Its) (l:List Int):Option (Int×Int):=match d7m t (c2s x) l with
 |some e=>some e
 |none=>d6k t (fun s=>d3b (szF x (c4h x) s)) l
set_option maxHeartbeats 8000000 in
theorem g3a (h:Rf t) (hx:b0r x) (hsm:Small x) (l:List Int) (hll:l.length<=1048576) (hl:∀ n∈l,In t n) (hcov:∀ s∈nS x++nE x,∃ n∈l,(nd t n).k≠2/\(nd t n).t=s) (o0 o1 o2 o3:Ob):
 evF (pgL fx FT) b5o [.ptr 3 0,.d (a7j l)] (c6l t x o0 o1 o2 o3 [])=some (.d (dgO t (szA t x l)),c6l t x o0 o1 o2 o3 []):=by
 refine a0f (b5n (F:=FT)) rfl rfl rfl ?_
 unfold szA
 have hlen:(l.map (D.int .i64)).length=l.length:=List.length_map ..
 have h1:(x.ss.map Nam.D).length=x.ss.length:=List.length_map ..
 have h2:(x.es.map Nam.D).length=x.es.length:=List.length_map ..
 have h3:(x.fs.map Fnc.D).length=x.fs.length:=List.length_map ..
 refine run ⟨?_⟩
 refine a0g (α:=Nat) (fun j=>l.length - j) (fun j=>[(0,.ptr 3 0),(1,.d (a7j l)),(4,.ptr 13 0),(13,.d (a7j l)),(14,i64 l.length),(15,i64 j)]) (fun _=>c6l t x o0 o1 o2 o3 [ZBo]) (fun j=>j<=l.length/\d7m t (c2s x) (l.drop j)=d7m t (c2s x) l) ?_ 0 ⟨Nat.zero_le _,by rw[List.drop_zero]⟩ (by show[_,_,_,_,(14,i64 ((l.map (D.int .i64)).length:Int)),_]=_;rw[hlen];rfl) rfl
 rintro j ⟨hj,hco⟩
 by_cases hlt:j < l.length
 ·have c1:(j:Int) < (l.length:Int):=om
  have pj:=b9q hlt
  rw[List.drop_eq_getElem_cons hlt]at hco
  have hin:=hl _ (List.getElem_mem hlt)
  generalize l[j]=n at pj hco hin
  have pn:=a3l hin
  have wj:IntKind.i64.wrap ((j:Int)+1)=((j+1:Nat):Int):=by rw[a0w om];omega
  have hkn:((nd t n).kids.map (D.int .i64)).length=(nd t n).kids.length:=List.length_map ..
  have he:=fun b=>d8g (fx:=fx) (p:=11) (h:=c6l t x o0 o1 o2 o3 [ZBo,b]) hx hsm ⟨8,9,10,rfl,rfl,rfl,rfl,by decide,by decide,by decide⟩ (nd t n).t
  have hdg:=fun e y0 y1=>g6u (fx:=fx) (x:=x) (e:=e) hin o0 o1 o2 o3 y0 y1
  rw[d7m]at hco
  by_cases k2:(nd t n).k=2
  ·have d2:(!decide ((nd t n).k=2))=false:=by rw[decide_eq_true k2];rfl
   have d4:¬ (nd t n).k=4:=om
   rw[if_neg (by rintro(q|q);exact q.1 k2;exact d4 q.1)]at hco
   repeat' (first|refine run ⟨?_⟩|refine a0a pj ?_|refine a0a pn ?_|refine And.intro h1 ?_|refine And.intro h2 ?_|refine And.intro h3 ?_|refine ca (he _) ?_|fail)
   exact⟨j+1,⟨om,hco⟩,om,by rw[wj];rfl,rfl⟩
  ·have d2:(!decide ((nd t n).k=2))=true:=by rw[decide_eq_false k2];rfl
   cases ce:c2s x (nd t n).t with
   |true=>
    rw[ce]at he
    rw[if_pos (.inl ⟨k2,ce⟩)]at hco
    rw[<-hco]
    repeat' (first|refine run ⟨?_⟩|refine a0a pj ?_|refine a0a pn ?_|refine And.intro h1 ?_|refine And.intro h2 ?_|refine And.intro h3 ?_|refine ca (he _) ?_|refine ca (hdg _ _ _) ?_|fail)
    first|exact rfl|exact⟨rfl,rfl⟩|(conv=>whnf)
   |false=>
    rw[ce]at he
    by_cases k4:(nd t n).k=4
    ·by_cases kk:(nd t n).kids=[]
     ·have d0:(((nd t n).kids.map (D.int .i64)).length:Int)=0:=by rw[kk];rfl
      rw[if_pos (.inr ⟨k4,kk⟩)]at hco
      rw[<-hco]
      repeat' (first|refine run ⟨?_⟩|refine a0a pj ?_|refine a0a pn ?_|refine And.intro h1 ?_|refine And.intro h2 ?_|refine And.intro h3 ?_|refine ca (he _) ?_|refine ca (hdg _ _ _) ?_|fail)
      exact rfl
     ·have d0:¬ (((nd t n).kids.map (D.int .i64)).length:Int)=0:=by
       intro q
       rw[hkn]at q
       exact kk (List.eq_nil_of_length_eq_zero om)
      rw[if_neg (by rintro(q|q);rw[ce]at q;cases q.2;exact kk q.2)]at hco
      repeat' (first|refine run ⟨?_⟩|refine a0a pj ?_|refine a0a pn ?_|refine And.intro h1 ?_|refine And.intro h2 ?_|refine And.intro h3 ?_|refine ca (he _) ?_|fail)
      exact⟨j+1,⟨om,hco⟩,om,by rw[wj];rfl,rfl⟩
    ·rw[if_neg (by rintro(q|q);rw[ce]at q;cases q.2;exact k4 q.1)]at hco
     repeat' (first|refine run ⟨?_⟩|refine a0a pj ?_|refine a0a pn ?_|refine And.intro h1 ?_|refine And.intro h2 ?_|refine And.intro h3 ?_|refine ca (he _) ?_|fail)
     exact⟨j+1,⟨om,hco⟩,om,by rw[wj];rfl,rfl⟩
 ·have c1:¬ (j:Int) < (l.length:Int):=om
  have hje:j=l.length:=om
  rw[hje,List.drop_length,d7m]at hco
  have hdeep:∀ s,a6r x (c4h x) s:=e9f fun s hs hg=>by
    obtain⟨n,hn,hk,e⟩:=hcov s hs
    have:=b8s hco.symm n hn hk
    rw[e,c8o hg]at this
    cases this
  have hN:c4h x<=1000000:=by
   unfold c4h
   have e1:=hsm.ss
   have e2:=hsm.es
   have e3:(nS x).length=x.ss.length:=by simp[nS]
   have e4:(nE x).length=x.es.length:=by simp[nE]
   rw[List.length_append];omega
  rw[<-hco]
  generalize c4h x=N at hdeep hN
  refine run ⟨?_⟩
  refine a0g (α:=Nat×List (S×Int×Int)) (fun a=>l.length - a.1) (fun a=>[(0,.ptr 3 0),(4,.ptr 13 0),(8,.mp 14),(59,.d (a7j l)),(60,i64 l.length),(61,i64 a.1)]) (fun a=>c6l t x o0 o1 o2 o3 [ZBo,.map (szM a.2)]) (fun a=>a.1<=l.length/\f3t x N a.2/\d6k t (fun s=>d3b (szF x N s)) (l.drop a.1)=d6k t (fun s=>d3b (szF x N s)) l) ?_ (0,[]) ⟨Nat.zero_le _,fun q hq=>(by cases hq),by rw[List.drop_zero]⟩ (by show[_,_,_,_,(60,i64 ((l.map (D.int .i64)).length:Int)),_]=_;rw[hlen];rfl) rfl
  rintro⟨i,d⟩ ⟨hi,hz,hd⟩
  simp only at hi hz hd⊢
  by_cases hil:i < l.length
  ·have c2:(i:Int) < (l.length:Int):=om
   have pj:=b9q hil
   rw[List.drop_eq_getElem_cons hil]at hd
   have hin:=hl _ (List.getElem_mem hil)
   generalize l[i]=n at pj hd hin
   have pn:=a3l hin
   have wi:IntKind.i64.wrap ((i:Int)+1)=((i+1:Nat):Int):=by rw[a0w om];omega
   have hdg:=fun e y0 y1 y2 y3=>h9w (fx:=fx) (x:=x) (e:=e) hin o0 o1 o2 o3 y0 y1 y2 y3
   rw[d6k]at hd
   by_cases k2:(nd t n).k=2
   ·rw[if_pos k2]at hd
    repeat' (first|refine run ⟨?_⟩|refine a0a pj ?_|refine a0a pn ?_|fail)
    exact⟨(i+1,d),⟨by show i+1<=_;omega,hz,hd⟩,by show _ - (i+1) < _ - i;omega,by rw[wi];rfl,rfl⟩
   ·rw[if_neg k2]at hd
    obtain⟨d',hz',hs⟩:=h8t (fx:=fx) (t:=t) hx hN (hdeep (nd t n).t) hz o0 o1 o2 o3 ZBo (NBx t n)
    have s0:=hs [] (.inl rfl)
    have s1:=fun y3=>hs [y3] (.inr ⟨y3,rfl⟩)
    replace hd:(if d3b (szF x N (nd t n).t)=true then some (2,n) else d6k t (fun s=>d3b (szF x N s)) (l.drop (i+1)))=d6k t (fun s=>d3b (szF x N s)) l:=hd
    generalize szF x N (nd t n).t=v at s0 s1 hd
    by_cases w1:v.1> 64
    ·rw[if_pos (show d3b v=true by unfold d3b;rw[decide_eq_true w1];rfl)]at hd
     rw[<-hd]
     repeat' (first|refine a2p ⟨?_⟩|refine d2z 11 rfl ?_|refine a0a pj ?_|refine a0a pn ?_|refine And.intro h1 ?_|refine And.intro h2 ?_|refine And.intro h3 ?_|refine ca (s0) ?_|refine ca (s1 _) ?_|refine ca (hdg _ _ _ _ _) ?_|fail)
     exact rfl
    ·by_cases w2:v.2> 1024
     ·rw[if_pos (show d3b v=true by unfold d3b;rw[decide_eq_true w2,Bool.or_true])]at hd
      rw[<-hd]
      repeat' (first|refine a2p ⟨?_⟩|refine d2z 11 rfl ?_|refine a0a pj ?_|refine a0a pn ?_|refine And.intro h1 ?_|refine And.intro h2 ?_|refine And.intro h3 ?_|refine ca (s0) ?_|refine ca (s1 _) ?_|refine ca (hdg _ _ _ _ _) ?_|fail)
      exact rfl
     ·rw[if_neg (show ¬ d3b v=true by unfold d3b;rw[decide_eq_false w1,decide_eq_false w2];decide)]at hd
      repeat' (first|refine a2p ⟨?_⟩|refine d2z 11 rfl ?_|refine a0a pj ?_|refine a0a pn ?_|refine And.intro h1 ?_|refine And.intro h2 ?_|refine And.intro h3 ?_|refine ca (s0) ?_|refine ca (s1 _) ?_|fail)
      exact⟨(i+1,d'),⟨by show i+1<=_;omega,hz',hd⟩,by show _ - (i+1) < _ - i;omega,by rw[wi];rfl,rfl⟩
  ·have c2:¬ (i:Int) < (l.length:Int):=om
   have hie:i=l.length:=om
   rw[hie,List.drop_length,d6k]at hd
   rw[<-hd]
   refine run ⟨?_⟩
   exact rfl
end
end Go.Vm.Ite
namespace Go.Vm.Io
open Go.Vm.Tp (Nd b4e kinds a1f a9x d2k a3x)
open Go.Vm.Ip (Fld Nam Fnc Its nS nE nF)
def is3 (t:List Nd) (n:Int):Bool:=decide ((nd t n).k=3)
def is4 (t:List Nd) (n:Int):Bool:=decide ((nd t n).k=4)
def is2 (t:List Nd) (n:Int):Bool:= !is3 t n && !is4 t n
def a0z (t:List Nd) (l:List Int):Its:=⟨(l.filter (is3 t)).map (a2v t),(l.filter (is4 t)).map (a2v t),(l.filter (is2 t)).map (a9w t)⟩
theorem f9o (t:List Nd):∀ (l:List Int) (a:Its×Int),(l.foldl (a7x t) a).1=⟨a.1.ss++(a0z t l).ss,a.1.es++(a0z t l).es,a.1.fs++(a0z t l).fs⟩
 |[],a=>by simp[a0z]
 |n::r,a=>by
  rw[List.foldl_cons,f9o t r]
  unfold a7x a0z
  by_cases k3:(nd t n).k=3
  ·have e3:is3 t n=true:=decide_eq_true k3
   have e4:is4 t n=false:=decide_eq_false om
   have e2:is2 t n=false:=by unfold is2;rw[e3];rfl
   rw[if_pos k3];simp[e3,e4,e2]
  ·by_cases k4:(nd t n).k=4
   ·have e3:is3 t n=false:=decide_eq_false k3
    have e4:is4 t n=true:=decide_eq_true k4
    have e2:is2 t n=false:=by unfold is2;rw[e3,e4];rfl
    rw[if_neg k3,if_pos k4];simp[e3,e4,e2]
   ·have e3:is3 t n=false:=decide_eq_false k3
    have e4:is4 t n=false:=decide_eq_false k4
    have e2:is2 t n=true:=by unfold is2;rw[e3,e4];rfl
    rw[if_neg k3,if_neg k4];simp[e3,e4,e2]
theorem f2w (t:List Nd) (l:List Int):(col t l).1=a0z t l:=by
 unfold col
 rw[f9o]
 rfl
theorem f2u (t:List Nd):∀ (l:List Int) (a:Its×Int),(∀ n∈l,0<=n)->(l.foldl (a7x t) a).2 < 0->a.2 < 0/\(a.1.ss.length<=64->(l.foldl (a7x t) a).1.ss.length<=64)/\(a.1.es.length<=64->(l.foldl (a7x t) a).1.es.length<=64)/\(a.1.fs.length<=64->(l.foldl (a7x t) a).1.fs.length<=64)
 |[],a,_,h=>⟨h,id,id,id⟩
 |n::r,a,hp,h=>by
  rw[List.foldl_cons]at h⊢
  obtain⟨g1,g2,g3,g4⟩:=f2u t r (a7x t a n) (fun m hm=>hp m (List.mem_cons_of_mem _ hm)) h
  have hn:=hp n (List.mem_cons_self)
  unfold a7x at g1 g2 g3 g4⊢
  by_cases k3:(nd t n).k=3
  ·rw[if_pos k3]at g1 g2 g3 g4⊢
   simp only at g1 g2 g3 g4⊢
   by_cases c:64 < a.1.ss.length+1/\a.2 < 0
   ·rw[if_pos c]at g1;omega
   ·rw[if_neg c]at g1
    exact⟨g1,fun q=>g2 (by rw[List.length_append,List.length_singleton];omega),g3,g4⟩
  ·rw[if_neg k3]at g1 g2 g3 g4⊢
   by_cases k4:(nd t n).k=4
   ·rw[if_pos k4]at g1 g2 g3 g4⊢
    simp only at g1 g2 g3 g4⊢
    by_cases c:64 < a.1.es.length+1/\a.2 < 0
    ·rw[if_pos c]at g1;omega
    ·rw[if_neg c]at g1
     exact⟨g1,g2,fun q=>g3 (by rw[List.length_append,List.length_singleton];omega),g4⟩
   ·rw[if_neg k4]at g1 g2 g3 g4⊢
    simp only at g1 g2 g3 g4⊢
    by_cases c:64 < a.1.fs.length+1/\a.2 < 0
    ·rw[if_pos c]at g1;omega
    ·rw[if_neg c]at g1
     exact⟨g1,g2,g3,fun q=>g4 (by rw[List.length_append,List.length_singleton];omega)⟩
theorem e0t {t:List Nd} {l:List Int} (hp:∀ n∈l,0<=n) (h:(col t l).2 < 0):(a0z t l).ss.length<=64/\(a0z t l).es.length<=64/\(a0z t l).fs.length<=64:=by
 have:=f2u t l (⟨[],[],[]⟩,-1) hp h
 rw[<-f2w]
 exact⟨this.2.1 (Nat.zero_le _),this.2.2.1 (Nat.zero_le _),this.2.2.2 (Nat.zero_le _)⟩
theorem f3p {t:List Nd}:∀ (l:List Int) (a:Its×Int),0<=(l.foldl (a7x t) a).2->a.2=(l.foldl (a7x t) a).2\/(l.foldl (a7x t) a).2∈l
 |[],a,_=> .inl rfl
 |n::r,a,h=>by
  rw[List.foldl_cons]at h⊢
  rcases f3p r _ h with e|e
  ·rw[<-e]
   unfold a7x
   repeat' split
   all_goals first|exact .inr List.mem_cons_self|exact .inl rfl
  ·exact .inr (List.mem_cons_of_mem _ e)
theorem c5o {t:List Nd}:∀ {ts fs:List S} {l:List Int},b8v t ts fs l=none->∀ n∈l,((nd t n).k=2->(mem t n).length<=6)/\((nd t n).k≠2->(mem t n).length<=16)
 |_,_,[],_,n,hn=>by cases hn
 |ts,fs,m::r,h,n,hn=>by
  rw[b8v]at h
  by_cases k2:(nd t m).k=2
  ·rw[if_pos k2]at h
   split at h
   ·cases h
   ·split at h
    ·cases h
    ·rename_i c1 c2
     split at h
     ·cases h
     ·rcases List.mem_cons.1 hn with q|q
      ·subst q;exact⟨fun _=>om,fun e=>absurd k2 e⟩
      ·exact c5o h n q
  ·rw[if_neg k2]at h
   split at h
   ·cases h
   ·split at h
    ·cases h
    ·rename_i c1 c2
     split at h
     ·cases h
     ·rcases List.mem_cons.1 hn with q|q
      ·subst q;exact⟨fun e=>absurd e k2,fun _=>om⟩
      ·exact c5o h n q
theorem f1t {t:List Nd}:∀ {ts fs:List S} {l:List Int} {c n:Int},b8v t ts fs l=some (c,n)->c≠0
 |_,_,[],_,_,h=>by cases h
 |ts,fs,m::r,c,n,h=>by
  rw[b8v]at h
  repeat' split at h
  all_goals first|(cases h;decide)|exact f1t h
theorem g5k {t:List Nd} {kn:S->Bool} {b:Bool}:∀ {l:List Int} {c n:Int},tyG t kn b l=some (c,n)->c≠0
 |[],_,_,h=>by cases h
 |m::r,c,n,h=>by
  rw[tyG]at h
  repeat' split at h
  all_goals first|(cases h;decide)|exact g5k h
theorem g0g {t:List Nd} {e:S->Bool}:∀ {l:List Int} {c n:Int},d7m t e l=some (c,n)->c≠0
 |[],_,_,h=>by cases h
 |m::r,c,n,h=>by
  rw[d7m]at h
  repeat' split at h
  all_goals first|(cases h;decide)|exact g0g h
theorem g2b {t:List Nd} {e:S->Bool}:∀ {l:List Int} {c n:Int},d6k t e l=some (c,n)->c≠0
 |[],_,_,h=>by cases h
 |m::r,c,n,h=>by
  rw[d6k]at h
  repeat' split at h
  all_goals first|(cases h;decide)|exact g2b h
def tyA (t:List Nd) (kn:S->Bool):List Int->Option (Int×Int)
 |[]=>none
 |n::r=>match tyG t kn (decide ((nd t n).k=2)) (tyl t n)with
  |some e=>some e
  |none=>tyA t kn r
end Go.Vm.Io
namespace Go.Vm.Ite
open Go.Vm.Tp (Nd a1r a1f a3x)
open Go.Vm.Ip
open Go.Vm.Io (In Rt nd txt tx a3q mem ret a2v a9w roots a0z is2 is3 is4 col e0t b8v c5o f7l b0p b2e)
section
variable {fx:Nat->Option Obj} {F:Nat->Option a0t}
set_option maxHeartbeats 1000000 in
theorem e9h (x:Its) (hx:b0r x) (o0 o1 o2 o3 o4 o5 o6:Ob):evF (pgL fx F) d0s [.d x.D] [o0,o1,o2,o3,o4,o5,o6]=some (.ptr 11 0,[o0,o1,o2,o3,o4,o5,o6,IB x,.map (a7e (nS x)),.map (a7e (nE x)),.map (a7e (nF x)),.box [.mp 8,.mp 9,.mp 10]]):=by
 apply up
 have es:(nS x).length=x.ss.length:=by simp[nS]
 have ee:(nE x).length=x.es.length:=by simp[nE]
 have ef:(nF x).length=x.fs.length:=by simp[nF]
 have l0:x.ss.length<=140737488355328:=hx.ss
 have l1:x.es.length<=140737488355328:=hx.es
 have l2:x.fs.length<=140737488355328:=hx.fs
 refine d7o (d2u (F:=F)) rfl rfl ?_
 refine run ⟨?_⟩
 refine a0g (α:=Nat) (fun i=>x.ss.length - i) (fun i=>[(1,.ptr 7 0),(3,.ptr 11 0),(19,.d (.sl (x.ss.map Nam.D))),(20,i64 x.ss.length),(21,i64 i)]) (fun i=>[o0,o1,o2,o3,o4,o5,o6,IB x,.map (fmap (nS x) i),.map [],.map [],.box [.mp 8,.mp 9,.mp 10]]) (fun i=>i<=x.ss.length) ?_ 0 (Nat.zero_le _) (by rw[List.length_map];rfl) rfl
 ·intro i hi
  by_cases h:i < x.ss.length
  ·have h':(i:Int) < (x.ss.length:Int):=om
   have pi:=gN h
   have hp:∀ y,x.ss.getD i default=y->evF (pgL fx F0) a2m [.ptr 11 0,str y.n,i64 i] ([o0,o1,o2,o3,o4,o5,o6,IB x,.map (fmap (nS x) i),.map [],.map [],.box [.mp 8,.mp 9,.mp 10]]++[.box [str y.n,.d (a2h y.fs)]])=some (.tup [],[o0,o1,o2,o3,o4,o5,o6,IB x,.map (fmap (nS x) (i+1)),.map [],.map [],.box [.mp 8,.mp 9,.mp 10]]++[.box [str y.n,.d (a2h y.fs)]]):=fun y hy=>by
     have hn:=g7r (fx:=fx) (F:=F0) (fmap (nS x) i) [] [] y.n i (a6d _ _) (d0w _ _ _ om)
     rw[<-hy,<-e8a h,<-c9d]at hn
     rw[<-hy,<-e8a h]
     exact a5b (mv fx) [8,9,10,11] hn rfl rfl rfl rfl rfl
   revert pi hp
   generalize x.ss.getD i default=y
   intro pi hp
   have hp:=hp y rfl
   repeat' (first|refine run ⟨?_⟩|refine a0a pi ?_|refine ca (hp) ?_|fail)
   exact⟨i+1,om,om,by rw[a0w om];rfl,rfl⟩
  ·have h':¬ (i:Int) < (x.ss.length:Int):=om
   obtain rfl:i=x.ss.length:=om
   refine run ⟨?_⟩
   refine a0g (α:=Nat) (fun i=>x.es.length - i) (fun i=>[(1,.ptr 7 0),(3,.ptr 11 0),(35,.d (.sl (x.es.map Nam.D))),(36,i64 x.es.length),(37,i64 i)]) (fun i=>[o0,o1,o2,o3,o4,o5,o6,IB x,.map (fmap (nS x) x.ss.length),.map (fmap (nE x) i),.map [],.box [.mp 8,.mp 9,.mp 10]]) (fun i=>i<=x.es.length) ?_ 0 (Nat.zero_le _) (by rw[List.length_map];rfl) rfl
   ·intro i hi
    by_cases h:i < x.es.length
    ·have h':(i:Int) < (x.es.length:Int):=om
     have pi:=gN h
     have hp:∀ y,x.es.getD i default=y->evF (pgL fx F0) a2m [.ptr 11 1,str y.n,i64 i] ([o0,o1,o2,o3,o4,o5,o6,IB x,.map (fmap (nS x) x.ss.length),.map (fmap (nE x) i),.map [],.box [.mp 8,.mp 9,.mp 10]]++[.box [str y.n,.d (a2h y.fs)]])=some (.tup [],[o0,o1,o2,o3,o4,o5,o6,IB x,.map (fmap (nS x) x.ss.length),.map (fmap (nE x) (i+1)),.map [],.box [.mp 8,.mp 9,.mp 10]]++[.box [str y.n,.d (a2h y.fs)]]):=fun y hy=>by
       have hn:=g9u (fx:=fx) (F:=F0) (fmap (nS x) x.ss.length) (fmap (nE x) i) [] y.n i (a6d _ _) (d0w _ _ _ om)
       rw[<-hy,<-f2f h,<-c9d]at hn
       rw[<-hy,<-f2f h]
       exact a5b (mv fx) [8,9,10,11] hn rfl rfl rfl rfl rfl
     revert pi hp
     generalize x.es.getD i default=y
     intro pi hp
     have hp:=hp y rfl
     repeat' (first|refine run ⟨?_⟩|refine a0a pi ?_|refine ca (hp) ?_|fail)
     exact⟨i+1,om,om,by rw[a0w om];rfl,rfl⟩
    ·have h':¬ (i:Int) < (x.es.length:Int):=om
     obtain rfl:i=x.es.length:=om
     refine run ⟨?_⟩
     refine a0g (α:=Nat) (fun i=>x.fs.length - i) (fun i=>[(3,.ptr 11 0),(51,.d (.sl (x.fs.map Fnc.D))),(52,i64 x.fs.length),(53,i64 i)]) (fun i=>[o0,o1,o2,o3,o4,o5,o6,IB x,.map (fmap (nS x) x.ss.length),.map (fmap (nE x) x.es.length),.map (fmap (nF x) i),.box [.mp 8,.mp 9,.mp 10]]) (fun i=>i<=x.fs.length) ?_ 0 (Nat.zero_le _) (by rw[List.length_map];rfl) rfl
     ·intro i hi
      by_cases h:i < x.fs.length
      ·have h':(i:Int) < (x.fs.length:Int):=om
       have pi:=gF h
       have hp:∀ y,x.fs.getD i default=y->evF (pgL fx F0) a2m [.ptr 11 2,str y.n,i64 i] ([o0,o1,o2,o3,o4,o5,o6,IB x,.map (fmap (nS x) x.ss.length),.map (fmap (nE x) x.es.length),.map (fmap (nF x) i),.box [.mp 8,.mp 9,.mp 10]]++[.box [str y.n,.d (a2h y.ps),.d (.sl (y.ms.map .bool)),str y.r,i64 y.d]])=some (.tup [],[o0,o1,o2,o3,o4,o5,o6,IB x,.map (fmap (nS x) x.ss.length),.map (fmap (nE x) x.es.length),.map (fmap (nF x) (i+1)),.box [.mp 8,.mp 9,.mp 10]]++[.box [str y.n,.d (a2h y.ps),.d (.sl (y.ms.map .bool)),str y.r,i64 y.d]]):=fun y hy=>by
         have hn:=g7d (fx:=fx) (F:=F0) (fmap (nS x) x.ss.length) (fmap (nE x) x.es.length) (fmap (nF x) i) y.n i (a6d _ _) (d0w _ _ _ om)
         rw[<-hy,<-e8k h,<-c9d]at hn
         rw[<-hy,<-e8k h]
         exact a5b (mv fx) [8,9,10,11] hn rfl rfl rfl rfl rfl
       revert pi hp
       generalize x.fs.getD i default=y
       intro pi hp
       have hp:=hp y rfl
       repeat' (first|refine run ⟨?_⟩|refine a0a pi ?_|refine ca (hp) ?_|fail)
       exact⟨i+1,om,om,by rw[a0w om];rfl,rfl⟩
      ·have h':¬ (i:Int) < (x.fs.length:Int):=om
       obtain rfl:i=x.fs.length:=om
       refine run ⟨?_⟩
       exact⟨_,rfl,rfl,by unfold a7e;rw[es,ee,ef]⟩
end
theorem g4k {t:List Nd} (hf:Tp.b0r t) (h:a1f t=true):Rf t where
 rt:=f7l h
 txt:=fun i=>by
   unfold nd
   rw[List.getD_eq_getElem?_getD]
   by_cases c:i.toNat < t.length
   ·rw[List.getElem?_eq_getElem c];exact hf.txt _ (List.getElem_mem c)
   ·rw[List.getElem?_eq_none om];exact Nat.zero_le _
 kl:=fun i=>by
   unfold nd
   rw[List.getD_eq_getElem?_getD]
   by_cases c:i.toNat < t.length
   ·rw[List.getElem?_eq_getElem c];exact hf.kid _ (List.getElem_mem c)
   ·rw[List.getElem?_eq_none om];exact Nat.zero_le _
section
variable {t:List Nd} (h:Rf t)
include h
theorem e7o:In t ((t.length:Int) - 1):=by
 have:=h.rt.lo
 exact⟨om,om⟩
theorem c9g:∀ n∈roots t,In t n/\((nd t n).k=2\/(nd t n).k=3\/(nd t n).k=4):=fun n hn=>⟨h.rt.inK (e7o h) hn,h.rt.root n hn⟩
theorem c6g:(roots t).length<=1048576:=h.kl _
theorem e2q (k:Int):(a3q t k).n.length<=mx/\(a3q t k).t.length<=mx:=by
 have:=h.txt k
 refine⟨by show(nd t k).t.length<=140737488355328;omega,?_⟩
 unfold a3q
 simp only
 split
 ·exact Nat.zero_le _
 ·rename_i a _ _
  have:=f8m h a
  show(tx t a).length<=140737488355328
  omega
theorem d0x {l:List Int} (hll:l.length<=1048576) (hl:∀ n∈l,In t n):b0r (a0z t l):=by
 have fl:∀ p:Int->Bool,(l.filter p).length<=140737488355328:=fun p=>by have:=List.length_filter_le p l;omega
 have nam:∀ p:Int->Bool,∀ y∈(l.filter p).map (a2v t),y.n.length<=mx/\y.fs.length<=mf/\∀ f∈y.fs,f.n.length<=mx/\f.t.length<=mx:=fun p y hy=>by
   obtain⟨n,_,rfl⟩:=List.mem_map.1 hy
   have e1:=h.txt n
   have e2:=h.kl n
   refine⟨by show(nd t n).t.length<=140737488355328;omega,by show((nd t n).kids.map (a3q t)).length<=4398046511104;rw[List.length_map];omega,fun f hf=>?_⟩
   obtain⟨k,_,rfl⟩:=List.mem_map.1 hf
   exact e2q h k
 refine⟨by show((l.filter _).map _).length<=mx;rw[List.length_map];exact fl _,by show((l.filter _).map _).length<=mx;rw[List.length_map];exact fl _,by show((l.filter _).map _).length<=mx;rw[List.length_map];exact fl _,nam _,nam _,fun y hy=>?_⟩
 obtain⟨n,hn,rfl⟩:=List.mem_map.1 hy
 have hin:=hl n (List.mem_filter.1 hn).1
 have e1:=h.txt n
 have e2:=h.kl n
 have e3:=b0p t n
 have e4:=f8m h (ret t n)
 have e5:=h.rt.hi
 have e6:=hin.lt
 have e7:=hin.1
 refine⟨by show(nd t n).t.length<=140737488355328;omega,by show(tx t (ret t n)).length<=140737488355328;omega,by show((mem t n).map _).length<=140737488355328;rw[List.length_map];omega,by show((mem t n).map _).length<=4398046511104;rw[List.length_map];omega,fun f hf=>?_,by show -9223372036854775808<=n;omega,by show n<=9223372036854775807;omega⟩
 obtain⟨k,_,rfl⟩:=List.mem_map.1 hf
 exact e2q h k
theorem d7c {l:List Int} (hl:∀ n∈l,In t n) (hb:(col t l).2 < 0) {ts fs:List S} (hn:b8v t ts fs l=none):Small (a0z t l):=by
 have _u:=h
 obtain⟨c1,c2,c3⟩:=e0t (t:=t) (fun n q=>(hl n q).1) hb
 have nam:∀ p:Int->Bool,(∀ n,p n=true->(nd t n).k≠2)->∀ y∈(l.filter p).map (a2v t),y.fs.length<=16:=fun p hp y hy=>by
   obtain⟨n,hq,rfl⟩:=List.mem_map.1 hy
   obtain⟨q1,q2⟩:=List.mem_filter.1 hq
   have:=(c5o hn n q1).2 (hp n q2)
   unfold mem at this
   rw[if_neg (hp n q2)]at this
   show((nd t n).kids.map (a3q t)).length<=16
   rw[List.length_map];exact this
 exact⟨c1,c2,nam _ fun n q=>by unfold is3 at q;have:=of_decide_eq_true q;omega,nam _ fun n q=>by unfold is4 at q;have:=of_decide_eq_true q;omega⟩
end
theorem d9o (t:List Nd) (l:List Int):∀ s∈nS (a0z t l)++nE (a0z t l),∃ n∈l,(nd t n).k≠2/\(nd t n).t=s:=fun s hs=>by
  rcases List.mem_append.1 hs with q|q
  ·unfold nS a0z at q
   simp only[List.map_map]at q
   obtain⟨n,hn,rfl⟩:=List.mem_map.1 q
   obtain⟨q1,q2⟩:=List.mem_filter.1 hn
   unfold is3 at q2
   have:=of_decide_eq_true q2
   exact⟨n,q1,om,rfl⟩
  ·unfold nE a0z at q
   simp only[List.map_map]at q
   obtain⟨n,hn,rfl⟩:=List.mem_map.1 q
   obtain⟨q1,q2⟩:=List.mem_filter.1 hn
   unfold is4 at q2
   have:=of_decide_eq_true q2
   exact⟨n,q1,om,rfl⟩
end Go.Vm.Ite
namespace Go.Vm.Ite
open Go.Vm.Tp (Nd a1r a1f a3x)
open Go.Vm.Ip
open Go.Vm.Io (In Rt nd txt tx a3q mem ret a2v a9w roots a0z is2 is3 is4 col e0t b8v c5o f7l b0p b2e f2w f3p tyG tyl tyA d7m d6k f1t g5k g0g g2b)
abbrev eI:Its:=⟨[],[],[]⟩
theorem g4o {t:List Nd} {x:Its} {l:List Int} {c n:Int} (h:szA t x l=some (c,n)):c≠0:=by
 unfold szA at h
 split at h
 ·rename_i e he
  cases h
  exact g0g he
 ·exact g2b h
noncomputable def wrong (t:List Nd) (l:List Int):Option (Int×Int):=
 if(col t l).2 < 0 then match b8v t [] [b1m,c1d,b2k] l with
  |some e=>some e
  |none=>match tyA t (kn (a0z t l)) l with
  |some e=>some e
  |none=>szA t (a0z t l) l
 else some (2,(col t l).2)
noncomputable def ofP (t:List Nd):Its×D:=
 if a1f t=true then match wrong t (roots t)with
  |some e=>(eI,dgO t (some e))
  |none=>match pos (nF (a0z t (roots t))) b5p with
  |none=>(eI,Lex.dgD 144 0 0)
  |some i=>if 0 < ((a0z t (roots t)).fs.getD i default).ps.length\/((a0z t (roots t)).fs.getD i default).r≠d7d then(eI,dgO t (some (144,((a0z t (roots t)).fs.getD i default).d))) else(a0z t (roots t),Lex.dgD 0 0 0)
 else(eI,Lex.dgD 3 0 0)
abbrev BTx (t:List Nd):Ob:= .box [.d (.sl (t.map Nd.D))]
abbrev BRx:Ob:= .box [.nils,.nils,.nils]
abbrev H7x (t:List Nd) (x:Its) (o0 o1 o2:Ob) (X:Hp):Hp:=o0::o1::o2:: .box [.d (.sl (t.map Nd.D)),.row 4 x.ss.length,.row 5 x.es.length,.row 6 x.fs.length,.nul]:: .row 2 (x.ss.map Nam.D):: .row 2 (x.es.map Nam.D):: .row 5 (x.fs.map Fnc.D)::X
abbrev i1i (t:List Nd) (x:Its) (o0 o1 o2:Ob) (X:Hp):Hp:=o0::o1::o2:: .box [.d (.sl (t.map Nd.D)),.row 4 x.ss.length,.row 5 x.es.length,.row 6 x.fs.length,.ptr 11 0]:: .row 2 (x.ss.map Nam.D):: .row 2 (x.es.map Nam.D):: .row 5 (x.fs.map Fnc.D)::IB x:: .map (a7e (nS x)):: .map (a7e (nE x)):: .map (a7e (nF x)):: .box [.mp 8,.mp 9,.mp 10]::X
section
variable {fx:Nat->Option Obj} {t:List Nd}
set_option maxHeartbeats 8000000 in
theorem h8p (hf:Tp.b0r t) (H:Hp):evF (pgL fx FT) e7a [.d (a1r t)] H=some (.tup [.d (ofP t).1.D,.d (ofP t).2],H):=by
 refine a1d (e4u (F:=FT)) rfl rfl ?_ H
 have hck:=fun H=>Itr.f6u (fx:=fx) (F:=FT) H t hf
 unfold ofP
 cases hc:a1f t with
 |false=>
  rw[hc]at hck
  repeat' (first|refine run ⟨?_⟩|refine ca (hck _) ?_|fail)
  exact rfl
 |true=>
  rw[hc]at hck
  rw[if_pos rfl]
  have h:=g4k hf hc
  have hro:=c9g h
  have hrl:=c6g h
  have hlo:=h.rt.lo
  have hhi:=h.rt.hi
  have hnl:(t.map Nd.D).length=t.length:=List.length_map ..
  have hw:IntKind.i64.wrap (((t.map Nd.D).length:Int) - 1)=(t.length:Int) - 1:=by rw[hnl,a0w om]
  have pl:0<=IntKind.i64.wrap (((t.map Nd.D).length:Int) - 1)/\(t.map Nd.D)[(IntKind.i64.wrap (((t.map Nd.D).length:Int) - 1)).toNat]? =some (nd t ((t.length:Int) - 1)).D:=by rw[hw];exact a3l (e7o h)
  have hkr:a7j (roots t)= .sl ((nd t ((t.length:Int) - 1)).kids.map (D.int .i64)):=rfl
  have hcol:evF (pgL fx FT) a6s [.ptr 3 0,.d (.sl ((nd t ((t.length:Int) - 1)).kids.map (D.int .i64)))] (H7x t eI (BTx t) BRx ZBo [])=some (.tup [i64 (col t (roots t)).2,boo (decide ((col t (roots t)).2 < 0))],H7x t (a0z t (roots t)) (BTx t) BRx ZBo []):=by
   have e:=f0t (fx:=fx) h (roots t) hrl hro
   rw[f2w]at e
   exact up (a5b (mv fx) [3,4,5,6] (X:=H7x t eI (BTx t) BRx ZBo []) (A:=[.ptr 3 0,.d (a7j (roots t))]) e rfl rfl rfl rfl rfl)
  have hfi:=d0x h hrl (fun n hn=>(hro n hn).1)
  have hsi:=fun(hb:(col t (roots t)).2 < 0) (hn:b8v t [] [b1m,c1d,b2k] (roots t)=none)=>d7c h (fun n hn=>(hro n hn).1) hb hn
  have hcov:=d9o t (roots t)
  have hci:=f3p (t:=t) (roots t) (eI,-1)
  unfold wrong
  rw[show(nd t ((t.length:Int) - 1)).kids=roots t from rfl]at hcol
  have hfs:∀ y∈(a0z t (roots t)).fs,In t y.d:=fun y hy=>by
    obtain⟨n,hn,rfl⟩:=List.mem_map.1 hy
    exact(hro n (List.mem_filter.1 hn).1).1
  have prn:(nd t ((t.length:Int) - 1)).D= .agg [.int .i64 (nd t ((t.length:Int) - 1)).k,.str (nd t ((t.length:Int) - 1)).t,.int .i64 (nd t ((t.length:Int) - 1)).v,.sl ((roots t).map (D.int .i64)),.int .i64 (nd t ((t.length:Int) - 1)).f,.int .i64 (nd t ((t.length:Int) - 1)).e]:=rfl
  rw[prn]at pl
  generalize(nd t ((t.length:Int) - 1)).k=q1 at pl
  generalize(nd t ((t.length:Int) - 1)).t=q2 at pl
  generalize(nd t ((t.length:Int) - 1)).v=q3 at pl
  generalize(nd t ((t.length:Int) - 1)).f=q4 at pl
  generalize(nd t ((t.length:Int) - 1)).e=q5 at pl
  clear prn hkr
  generalize roots t=l at*
  have e1:((a0z t l).ss.map Nam.D).length=(a0z t l).ss.length:=List.length_map ..
  have e2:((a0z t l).es.map Nam.D).length=(a0z t l).es.length:=List.length_map ..
  have e3:((a0z t l).fs.map Fnc.D).length=(a0z t l).fs.length:=List.length_map ..
  by_cases hb:(col t l).2 < 0
  rotate_left
  ·have hin:In t (col t l).2:=by
    rcases hci (by show 0<=(col t l).2;omega)with e|e
    ·exact absurd (show(-1:Int)=(col t l).2 from e) om
    ·exact(hro _ e).1
   have hdg:evF (pgL fx FT) a2o [.ptr 3 0,.d (.int .i64 2),.d (.int .i64 (col t l).2)] (H7x t (a0z t l) (BTx t) BRx ZBo [])=some (.d (Lex.dgD 2 (nd t (col t l).2).f (nd t (col t l).2).e),H7x t (a0z t l) (BTx t) BRx ZBo []):=
    up (a5b (mv fx) [3,4,5,6] (X:=H7x t (a0z t l) (BTx t) BRx ZBo []) (A:=[.ptr 3 0,.d (.int .i64 2),.d (.int .i64 (col t l).2)]) (g0r (fx:=fx) (F:=F0) (x:=a0z t l) (X:=[]) (e:=2) hin) rfl rfl rfl rfl rfl)
   rw[if_neg hb]
   have nb:(!decide ((col t l).2 < 0))=true:=by rw[decide_eq_false hb];rfl
   repeat' (first|refine run ⟨?_⟩|refine ca (hck _) ?_|refine a0a pl ?_|refine ca (hcol) ?_|refine ca (hdg) ?_|fail)
   exact rfl
  ·rw[if_pos hb]
   have nb:(!decide ((col t l).2 < 0))=false:=by rw[decide_eq_true hb];rfl
   have hix:=e9h (fx:=fx) (F:=FT) (a0z t l) hfi
   have hnm:evF (pgL fx FT) a8f [.ptr 3 0,.d (a7j l)] (i1i t (a0z t l) (BTx t) BRx ZBo [])=some (.d (dgO t (b8v t [] [b1m,c1d,b2k] l)),i1i t (a0z t l) (BTx t) BRx ZBo []):=
    up (a5b (mv fx) [3,4,5,6,7,8,9,10,11] (X:=i1i t (a0z t l) (BTx t) BRx ZBo []) (A:=[.ptr 3 0,.d (a7j l)]) (g0p (fx:=fx) (x:=a0z t l) h l hrl (fun n hn=>(hro n hn).1)) rfl rfl rfl rfl rfl)
   cases hnn:b8v t [] [b1m,c1d,b2k] l with
   |some e=>
    obtain⟨c,n⟩:=e
    have hc0:=f1t hnn
    rw[hnn]at hnm
    have nc:(!decide (c=0))=true:=by rw[decide_eq_false hc0];rfl
    simp only[dgO]at hnm⊢
    repeat' (first|refine run ⟨?_⟩|refine ca (hck _) ?_|refine a0a pl ?_|refine ca (hcol) ?_|refine And.intro e1 ?_|refine And.intro e2 ?_|refine And.intro e3 ?_|refine ca (hix _ _ _ _ _ _ _) ?_|refine ca (hnm) ?_|fail)
    exact rfl
   |none=>
    rw[hnn]at hnm
    have hsm:=hsi hb hnn
    generalize hx:a0z t l=x at*
    have hsz:=fun o0 o1 o2 o3=>g3a (fx:=fx) h hfi hsm l hrl (fun n hn=>(hro n hn).1) hcov o0 o1 o2 o3
    simp only[dgO]at hnm⊢
    repeat' (first|refine run ⟨?_⟩|refine ca (hck _) ?_|refine a0a pl ?_|refine ca (hcol) ?_|refine And.intro e1 ?_|refine And.intro e2 ?_|refine And.intro e3 ?_|refine ca (hix _ _ _ _ _ _ _) ?_|refine ca (hnm) ?_|fail)
    refine a0g (α:=Nat) (fun j=>l.length - j) (fun j=>[(2,.ptr 1 0),(3,.ptr 2 0),(5,.ptr 3 0),(6,.d (a7j l)),(10,.fm 29 [.ptr 3 0]),(67,.d (a7j l)),(68,i64 l.length),(69,i64 j)]) (fun _=>c6l t x (BTx t) BRx ZBo ZBo []) (fun j=>j<=l.length/\tyA t (kn x) (l.drop j)=tyA t (kn x) l) ?_ 0 ⟨Nat.zero_le _,by rw[List.drop_zero]⟩ (by show[_,_,_,_,_,_,(68,i64 ((l.map (D.int .i64)).length:Int)),_]=_;rw[show(l.map (D.int .i64)).length=l.length from List.length_map ..];rfl) rfl
    rintro j ⟨hj,hco⟩
    by_cases hlt:j < l.length
    ·have c1:(j:Int) < (l.length:Int):=om
     have pj:=b9q hlt
     rw[List.drop_eq_getElem_cons hlt,tyA]at hco
     obtain⟨hin,hkk⟩:=hro _ (List.getElem_mem hlt)
     generalize l[j]=n at pj hco hin hkk
     have wj:IntKind.i64.wrap ((j:Int)+1)=((j+1:Nat):Int):=by rw[a0w om];omega
     have hty:evF (pgL fx FT) a8d [.ptr 3 0,.d (.int .i64 n)] (c6l t x (BTx t) BRx ZBo ZBo [])=some (.d (dgO t (tyG t (kn x) (decide ((nd t n).k=2)) (tyl t n))),c6l t x (BTx t) BRx ZBo ZBo []):=
      up (a5b (mv fx) [3,4,5,6,7,8,9,10,11] (X:=c6l t x (BTx t) BRx ZBo ZBo []) (A:=[.ptr 3 0,.d (.int .i64 n)]) (g3r (fx:=fx) (x:=x) h hin hkk) rfl rfl rfl rfl rfl)
     cases htt:tyG t (kn x) (decide ((nd t n).k=2)) (tyl t n)with
     |some e=>
      obtain⟨c,m⟩:=e
      have hc0:=g5k htt
      rw[htt]at hty hco
      simp only[dgO]at hty
      simp only at hco
      rw[<-hco]
      have nc:(!decide (c=0))=true:=by rw[decide_eq_false hc0];rfl
      simp only[dgO]
      repeat' (first|refine run ⟨?_⟩|refine a0a pj ?_|refine ca (hty) ?_|fail)
      exact rfl
     |none=>
      rw[htt]at hty hco
      simp only[dgO]at hty
      simp only at hco
      repeat' (first|refine run ⟨?_⟩|refine a0a pj ?_|refine ca (hty) ?_|fail)
      exact⟨j+1,⟨om,hco⟩,om,by rw[wj];rfl,rfl⟩
    ·have c1:¬ (j:Int) < (l.length:Int):=om
     have hje:j=l.length:=om
     rw[hje,List.drop_length,tyA]at hco
     rw[<-hco]
     simp only
     have hsz:=hsz (BTx t) BRx ZBo ZBo
     cases hw2:szA t x l with
     |some e=>
      obtain⟨c,m⟩:=e
      rw[hw2]at hsz
      have hc0:=g4o hw2
      have nc:(!decide (c=0))=true:=by rw[decide_eq_false hc0];rfl
      simp only[dgO]at hsz⊢
      repeat' (first|refine run ⟨?_⟩|refine ca (hsz) ?_|fail)
      exact rfl
     |none=>
      rw[hw2]at hsz
      simp only[dgO]at hsz
      have hfind:∀ y,evF (pgL fx FT) a1h [.ptr 11 2,str b5p] (c6l t x (BTx t) BRx ZBo ZBo [y])=some (.tup [i64 (loc (nF x) b5p),boo (known (nF x) b5p)],c6l t x (BTx t) BRx ZBo ZBo [y]):=fun y=>
       up (a5b (mv fx) [8,9,10,11] (X:=c6l t x (BTx t) BRx ZBo ZBo [y]) (A:=[.ptr 11 2,str b5p]) (g2s (fx:=fx) (F:=F0) x b5p) rfl rfl rfl rfl rfl)
      cases hp:pos (nF x) b5p with
      |none=>
       have hk:known (nF x) b5p=false:=by unfold known;rw[hp];rfl
       rw[hk]at hfind
       repeat' (first|refine run ⟨?_⟩|refine ca (hsz) ?_|refine ca (hfind _) ?_|fail)
       exact rfl
      |some i=>
       have hk:known (nF x) b5p=true:=by unfold known;rw[hp];rfl
       have hlo2:loc (nF x) b5p=(i:Int):=by unfold loc;rw[hp]
       rw[hk,hlo2]at hfind
       have hil:i < x.fs.length:=by
        have:=(b0i hp).1
        have h5:=(List.getElem?_eq_some_iff.1 this).1
        unfold nF at h5
        rwa [List.length_map]at h5
       have pf:=gF hil
       have hfm:x.fs.getD i default∈x.fs:=by rw[List.getD_eq_getElem?_getD,List.getElem?_eq_getElem hil];exact List.getElem_mem _
       have hfd:=hfs _ hfm
       simp only
       generalize x.fs.getD i default=f at pf hfd⊢
       have hdg:=fun y0 y1=>g6u (fx:=fx) (x:=x) (e:=144) hfd (BTx t) BRx ZBo ZBo y0 y1
       have hpl:(f.ps.map Fld.D).length=f.ps.length:=List.length_map ..
       by_cases cp:0 < f.ps.length
       ·have dp:((f.ps.map Fld.D).length:Int) > 0:=om
        rw[if_pos (.inl cp)]
        repeat' (first|refine run ⟨?_⟩|refine ca (hsz) ?_|refine ca (hfind _) ?_|refine And.intro e3 ?_|refine a0a pf ?_|refine ca (hdg _ _) ?_|fail)
        exact rfl
       ·have dp:¬ ((f.ps.map Fld.D).length:Int) > 0:=om
        by_cases cr:f.r=d7d
        ·have dr:(!decide (f.r=[40,41]))=false:=by rw[decide_eq_true (show f.r=[40,41] from cr)];rfl
         rw[if_neg (by rintro(q|q);exact cp q;exact q cr)]
         repeat' (first|refine run ⟨?_⟩|refine ca (hsz) ?_|refine ca (hfind _) ?_|refine And.intro e3 ?_|refine a0a pf ?_|refine And.intro e1 ?_|refine And.intro e2 ?_|fail)
         first|exact rfl|exact⟨rfl,rfl⟩
        ·have dr:(!decide (f.r=[40,41]))=true:=by rw[decide_eq_false (show ¬ f.r=[40,41] from cr)];rfl
         rw[if_pos (.inr cr)]
         repeat' (first|refine run ⟨?_⟩|refine ca (hsz) ?_|refine ca (hfind _) ?_|refine And.intro e3 ?_|refine a0a pf ?_|refine ca (hdg _ _) ?_|fail)
         exact rfl
end
end Go.Vm.Ite
namespace Go.Vm.Ite
open Go.Vm.Tp (Nd a1r a1f a3x)
open Go.Vm.Ip
open Go.Vm.Io hiding S
section
variable {fx:Nat->Option Obj} {F:Nat->Option a0t} {t:List Nd}
theorem g1n (h:Rt t):In t ((t.length:Int) - 1):=⟨by have:=h.lo;omega,by have:=h.lo;omega⟩
theorem a8r (h:Rt t) (H:Hp):evF (pgL fx F) d2d [.d (a1r t)] H=some (.d (a7j (roots t)),H):=by
 refine a1d (c9m (F:=F)) rfl rfl ?_ H
 have hlo:=h.lo
 have hhi:=h.hi
 have hnl:(t.map Nd.D).length=t.length:=List.length_map ..
 have hw:IntKind.i64.wrap (((t.map Nd.D).length:Int) - 1)=(t.length:Int) - 1:=by rw[hnl,a0w om]
 have pl:0<=IntKind.i64.wrap (((t.map Nd.D).length:Int) - 1)/\(t.map Nd.D)[(IntKind.i64.wrap (((t.map Nd.D).length:Int) - 1)).toNat]? =some (nd t ((t.length:Int) - 1)).D:=by rw[hw];exact a3l (g1n h)
 repeat' (first|refine run ⟨?_⟩|refine a0a pl ?_|fail)
 exact rfl
theorem c0p {i:Int} (hi:In t i) (H:Hp):evF (pgL fx F) e6y [.d (a1r t),i64 i] H=some (boo (decide ((nd t i).k=2)),H):=by
 refine a1d (e6s (F:=F)) rfl rfl ?_ H
 have pn:=a3l hi
 repeat' (first|refine run ⟨?_⟩|refine a0a pn ?_|fail)
 exact rfl
theorem a6j {i:Int} (hi:In t i) (c:Int) (H:Hp):evF (pgL fx F) d5e [.d (a1r t),i64 i,i64 c] H=some (.d (Lex.dgD c (nd t i).f (nd t i).e),H):=by
 refine a1d (d4r (F:=F)) rfl rfl ?_ H
 have pn:=a3l hi
 repeat' (first|refine run ⟨?_⟩|refine a0a pn ?_|refine And.intro ⟨rfl,by decide⟩ ?_|fail)
 exact rfl
theorem b4h (h:Rt t) (hk:∀ i,(nd t i).kids.length<=1048576) {n:Int} (hi:In t n) (hn:(nd t n).k=2\/(nd t n).k=3\/(nd t n).k=4) (H:Hp):evF (pgL fx F) c5b [.d (a1r t),i64 n] H=some (.d (a7j (mem t n)),H):=by
 refine a1d (c4n (F:=F)) rfl rfl ?_ H
 have pn:=a3l hi
 have hkl:=hk n
 have hml:((nd t n).kids.map (D.int .i64)).length=(nd t n).kids.length:=List.length_map ..
 by_cases c:(nd t n).k=2
 ·obtain⟨ps,a,b,e1,e2,e3,e4⟩:=h.fn n hi c
  have hm:mem t n=ps:=by unfold mem;rw[if_pos c,e1];simp
  have s1:0<=(nd t n).v:=by rw[e4];omega
  have hpl:ps.length<=(nd t n).kids.length:=by rw[e1];simp
  have s2:0<=(nd t n).v.toNat/\(nd t n).v.toNat<=((nd t n).kids.map (D.int .i64)).length/\true=true:=⟨Nat.zero_le _,by rw[e4,hml];omega,rfl⟩
  repeat' (first|refine run ⟨?_⟩|refine a0a pn ?_|refine And.intro s1 ?_|refine And.intro s2 ?_|fail)
  rw[hm]
  show V.d (.sl (List.drop 0 (List.take (nd t n).v.toNat ((nd t n).kids.map (D.int .i64)))))=_
  rw[e4,Int.toNat_natCast,e1,List.drop_zero,List.map_append,List.take_append_of_le_length (by simp)]
  rw[List.take_of_length_le (by simp)]
  rfl
 ·have hm:mem t n=(nd t n).kids:=by unfold mem;rw[if_neg c]
  rw[hm]
  repeat' (first|refine run ⟨?_⟩|refine a0a pn ?_|fail)
  exact rfl
theorem d4n {a:Its×Int} (h:0<=a.2) (n:Int):(a7x t a n).2=a.2:=by
 unfold a7x
 (repeat' split)<;>first|rfl|omega
theorem e2l:∀ (r:List Int) {a:Its×Int},0<=a.2->(r.foldl (a7x t) a).2=a.2
 |[],_,_=>rfl
 |n::r,a,h=>by
  rw[List.foldl_cons,e2l r (by rw[d4n h];exact h),d4n h]
def h6r (t:List Nd) (l:List Int):Option (Int×Int):=if(col t l).2 < 0 then none else some (2,(col t l).2)
set_option maxHeartbeats 4000000 in
theorem f2z (h:Rt t) (hll:(roots t).length<=1048576) (hro:∀ n∈roots t,In t n/\((nd t n).k=2\/(nd t n).k=3\/(nd t n).k=4)) (H:Hp):evF (pgL fx F) d4m [.d (a1r t)] H=some (.d (dgO t (h6r t (roots t))),H):=by
 refine a1d (d5q (F:=F)) rfl rfl ?_ H
 have hr:=fun H=>a8r (fx:=fx) (F:=F) h H
 obtain⟨res,hres⟩:∃ res,dgO t (h6r t (roots t))=res:=⟨_,rfl⟩
 rw[hres]
 unfold h6r col at hres
 generalize roots t=l at hr hll hro hres
 have hlm:(l.map (D.int .i64)).length=l.length:=List.length_map ..
 repeat' (first|refine run ⟨?_⟩|refine ca (hr _) ?_|fail)
 refine a0g (α:=Nat×Its) (fun a=>l.length - a.1) (fun a=>[(1,.ptr 0 0),(2,.ptr 1 0),(3,i64 a.2.ss.length),(4,i64 a.2.es.length),(5,i64 a.2.fs.length),(6,.d (a7j l)),(7,i64 a.1)]) (fun a=>[.box [.d (.sl (t.map Nd.D))],.box [i64 0,i64 0,i64 0]]) (fun a=>a.1<=l.length/\dgO t (if((l.drop a.1).foldl (a7x t) (a.2,-1)).2 < 0 then none else some (2,((l.drop a.1).foldl (a7x t) (a.2,-1)).2))=res/\a.2.ss.length<=64/\a.2.es.length<=64/\a.2.fs.length<=64) ?_ (0,⟨[],[],[]⟩) ⟨Nat.zero_le _,hres,by decide,by decide,by decide⟩ rfl rfl
 rintro⟨j,it⟩ ⟨hj,hco,h1,h2,h3⟩
 simp only at hj hco h1 h2 h3⊢
 by_cases c:j < l.length
 ·have c2:(j:Int) < ((l.map (D.int .i64)).length:Int):=om
  have pj:=b9q c
  obtain⟨hin,hk⟩:=hro _ (List.getElem_mem c)
  have pn:=a3l hin
  have hdg:=fun H=>a6j (fx:=fx) (F:=F) hin 2 H
  rw[List.drop_eq_getElem_cons c,List.foldl_cons]at hco
  generalize l[j]=n at pj hin hk pn hdg hco
  have wj:IntKind.i64.wrap ((j:Int)+1)=((j+1:Nat):Int):=by rw[a0w om];omega
  have ws:IntKind.i64.wrap ((it.ss.length:Int)+1)=((it.ss.length+1:Nat):Int):=by rw[a0w om];omega
  have we:IntKind.i64.wrap ((it.es.length:Int)+1)=((it.es.length+1:Nat):Int):=by rw[a0w om];omega
  have wf:IntKind.i64.wrap ((it.fs.length:Int)+1)=((it.fs.length+1:Nat):Int):=by rw[a0w om];omega
  have n0:=hin.1
  have g1:¬ (64:Int) < (it.ss.length:Int):=om
  have g2:¬ (64:Int) < (it.es.length:Int):=om
  have g3:¬ (64:Int) < (it.fs.length:Int):=om
  have fin:∀ {a:Its},a7x t (it,-1) n=(a,n)->dgO t (some (2,n))=res:=fun{a} e=>by
    rw[e,e2l _ (show 0<=n from n0),if_neg (show ¬ n < 0 by omega)]at hco
    exact hco
  by_cases k3:(nd t n).k=3
  ·by_cases f64:64 < it.ss.length+1
   ·have d64:(64:Int) < IntKind.i64.wrap ((it.ss.length:Int)+1):=by rw[ws];omega
    rw[<-fin (a:=_) (by unfold a7x;simp only[if_pos k3];rw[if_pos ⟨f64,by decide⟩])]
    repeat' (first|refine run ⟨?_⟩|refine a0a pj ?_|refine a0a pn ?_|refine ca (hdg _) ?_|fail)
    exact rfl
   ·have d64:¬ (64:Int) < IntKind.i64.wrap ((it.ss.length:Int)+1):=by rw[ws];omega
    have hc:(a7x t (it,-1) n).2= -1:=by unfold a7x;simp only[if_pos k3];rw[if_neg (fun e=>f64 e.1)]
    repeat' (first|refine run ⟨?_⟩|refine a0a pj ?_|refine a0a pn ?_|refine ca (hdg _) ?_|fail)
    refine⟨(j+1,(a7x t (it,-1) n).1),⟨by show j+1<=_;omega,?_,?_⟩,by show _ - (j+1) < _ - j;omega,?_,rfl⟩
    ·have he:a7x t (it,-1) n=((a7x t (it,-1) n).1,-1):=Prod.ext rfl hc
     rw[he]at hco;exact hco
    ·unfold a7x;simp only[if_pos k3,List.length_append,List.length_singleton];omega
    ·unfold a7x;simp only[if_pos k3,List.length_append,List.length_singleton];rw[wj,ws];rfl
  ·by_cases k4:(nd t n).k=4
   ·by_cases f64:64 < it.es.length+1
    ·have d64:(64:Int) < IntKind.i64.wrap ((it.es.length:Int)+1):=by rw[we];omega
     rw[<-fin (a:=_) (by unfold a7x;simp only[if_neg k3,if_pos k4];rw[if_pos ⟨f64,by decide⟩])]
     repeat' (first|refine run ⟨?_⟩|refine a0a pj ?_|refine a0a pn ?_|refine ca (hdg _) ?_|fail)
     exact rfl
    ·have d64:¬ (64:Int) < IntKind.i64.wrap ((it.es.length:Int)+1):=by rw[we];omega
     have hc:(a7x t (it,-1) n).2= -1:=by unfold a7x;simp only[if_neg k3,if_pos k4];rw[if_neg (fun e=>f64 e.1)]
     repeat' (first|refine run ⟨?_⟩|refine a0a pj ?_|refine a0a pn ?_|refine ca (hdg _) ?_|fail)
     refine⟨(j+1,(a7x t (it,-1) n).1),⟨by show j+1<=_;omega,?_,?_⟩,by show _ - (j+1) < _ - j;omega,?_,rfl⟩
     ·have he:a7x t (it,-1) n=((a7x t (it,-1) n).1,-1):=Prod.ext rfl hc
      rw[he]at hco;exact hco
     ·unfold a7x;simp only[if_neg k3,if_pos k4,List.length_append,List.length_singleton];omega
     ·unfold a7x;simp only[if_neg k3,if_pos k4,List.length_append,List.length_singleton];rw[wj,we];rfl
   ·by_cases f64:64 < it.fs.length+1
    ·have d64:(64:Int) < IntKind.i64.wrap ((it.fs.length:Int)+1):=by rw[wf];omega
     rw[<-fin (a:=_) (by unfold a7x;simp only[if_neg k3,if_neg k4];rw[if_pos ⟨f64,by decide⟩])]
     repeat' (first|refine run ⟨?_⟩|refine a0a pj ?_|refine a0a pn ?_|refine ca (hdg _) ?_|fail)
     exact rfl
    ·have d64:¬ (64:Int) < IntKind.i64.wrap ((it.fs.length:Int)+1):=by rw[wf];omega
     have hc:(a7x t (it,-1) n).2= -1:=by unfold a7x;simp only[if_neg k3,if_neg k4];rw[if_neg (fun e=>f64 e.1)]
     repeat' (first|refine run ⟨?_⟩|refine a0a pj ?_|refine a0a pn ?_|refine ca (hdg _) ?_|fail)
     refine⟨(j+1,(a7x t (it,-1) n).1),⟨by show j+1<=_;omega,?_,?_⟩,by show _ - (j+1) < _ - j;omega,?_,rfl⟩
     ·have he:a7x t (it,-1) n=((a7x t (it,-1) n).1,-1):=Prod.ext rfl hc
      rw[he]at hco;exact hco
     ·unfold a7x;simp only[if_neg k3,if_neg k4,List.length_append,List.length_singleton];omega
     ·unfold a7x;simp only[if_neg k3,if_neg k4,List.length_append,List.length_singleton];rw[wj,wf];rfl
 ·have c2:¬ (j:Int) < ((l.map (D.int .i64)).length:Int):=om
  rw[List.drop_eq_nil_of_le om,List.foldl_nil,if_pos (show(-1:Int) < 0 by decide)]at hco
  rw[<-hco]
  refine run ⟨?_⟩
  exact rfl
end
end Go.Vm.Ite
namespace Go.Vm.Ite
open Go.Vm.Tp (Nd a1r a1f a3x)
open Go.Vm.Ip
open Go.Vm.Io hiding S
theorem f1g {t:List Nd} (h:Rt t) (kn:S->Bool) (n:Nat) {i:Int} (hi:In t i):0<=unk t kn n i\/unk t kn n i= -1:=by
 cases n with
 |zero=>exact .inr rfl
 |succ n=>
  rw[unk]
  split
  ·exact .inl hi.1
  ·split
   ·exact .inr rfl
   ·split
    ·rename_i h;exact .inl h
    ·exact .inr rfl
theorem d9y {t:List Nd} (n:Nat) (b:Bool) {i:Int} (hi:In t i):0<=inn t n b i\/inn t n b i= -1:=by
 cases n with
 |zero=>exact .inr rfl
 |succ n=>
  rw[inn]
  split
  ·exact .inl hi.1
  ·split
   ·exact .inr rfl
   ·split
    ·rename_i h;exact .inl h
    ·exact .inr rfl
theorem d8f {x:Int} (h:0<=x\/x= -1):(if 0<=x then x else -1)=x:=by
 rcases h with h|h
 ·rw[if_pos h]
 ·rw[h];rfl
section
variable {fx:Nat->Option Obj} {F:Nat->Option a0t} {t:List Nd}
theorem c0e (h:Rt t):∀ (f:Nat) (i:Int),In t i->a3x (nd t i).k=true->i.toNat < f->∀ H,evF (pgL fx F) a6l [.d (a1r t),i64 i] H=some (i64 (inn t f false i),H)
 |0,_,_,_,hf,_=>absurd hf (Nat.not_lt_zero _)
 |f+1,i,hi,hk,hf,H=>by
  refine a1d (d0j (F:=F)) rfl rfl ?_ H
  have pn:=a3l hi
  have hkid:=h.ty hi hk
  have hd:(nd t i).D= .agg [.int .i64 (nd t i).k,.str (nd t i).t,.int .i64 (nd t i).v,.sl ((nd t i).kids.map (D.int .i64)),.int .i64 (nd t i).f,.int .i64 (nd t i).e]:=rfl
  rw[inn]
  rw[hd]at pn
  have step:∀ a,(nd t i).kids=[a]->a3x (nd t a).k=true->∀ H,evF (pgL fx F) a6l [.d (a1r t),i64 a] H=some (i64 (inn t f false a),H):=fun a e ha=>by
    have hin:=h.inK hi (k:=a) (by rw[e];exact List.mem_singleton.2 rfl)
    have:=(h.kid i hi a (by rw[e];exact List.mem_singleton.2 rfl))
    have:=hin.1
    exact c0e h f a hin ha om
  have inK:∀ a,(nd t i).kids=[a]->In t a:=fun a e=>h.inK hi (k:=a) (by rw[e];exact List.mem_singleton.2 rfl)
  generalize(nd t i).k=k at pn hk⊢
  generalize(nd t i).kids=ks at pn hkid step inK⊢
  by_cases c1:k=14
  ·rw[if_pos (by simp[c1])]
   repeat' (first|refine run ⟨?_⟩|refine a0a pn ?_|fail)
   exact rfl
  by_cases c2:k=15
  ·rw[if_pos (by simp[c2])]
   repeat' (first|refine run ⟨?_⟩|refine a0a pn ?_|fail)
   exact rfl
  rw[if_neg (by simp[c1,c2])]
  rcases hkid with rfl|⟨a,rfl,ha⟩
  ·repeat' (first|refine run ⟨?_⟩|refine a0a pn ?_|fail)
   exact rfl
  ·have e1:=step a rfl ha
   simp only
   rw[d8f (d9y f false (inK a rfl))]
   repeat' (first|refine run ⟨?_⟩|refine a0a pn ?_|refine ca (e1 _) ?_|fail)
   exact rfl
set_option maxHeartbeats 2000000 in
theorem c1t (h:Rt t) (kn:List S) (hkn:kn.length<=1048576):∀ (f:Nat) (i:Int),In t i->a3x (nd t i).k=true->i.toNat < f->∀ H,evF (pgL fx F) b3d [.d (a1r t),i64 i,.d (.sl (kn.map D.str))] H=some (i64 (unk t (fun s=>decide (s∈kn)) f i),H)
  |0,_,_,_,hf,_=>absurd hf (Nat.not_lt_zero _)
  |f+1,i,hi,hk,hf,H=>by
   refine a1d (c5c (F:=F)) rfl rfl ?_ H
   have pn:=a3l hi
   have hkid:=h.ty hi hk
   have hleaf:=h.leaf i hi
   have hd:(nd t i).D= .agg [.int .i64 (nd t i).k,.str (nd t i).t,.int .i64 (nd t i).v,.sl ((nd t i).kids.map (D.int .i64)),.int .i64 (nd t i).f,.int .i64 (nd t i).e]:=rfl
   have hnl:(kn.map D.str).length=kn.length:=List.length_map ..
   rw[unk]
   rw[hd]at pn
   have step:∀ a,(nd t i).kids=[a]->a3x (nd t a).k=true->∀ H,evF (pgL fx F) b3d [.d (a1r t),i64 a,.d (.sl (kn.map D.str))] H=some (i64 (unk t (fun s=>decide (s∈kn)) f a),H):=fun a e ha=>by
     have hin:=h.inK hi (k:=a) (by rw[e];exact List.mem_singleton.2 rfl)
     have:=(h.kid i hi a (by rw[e];exact List.mem_singleton.2 rfl))
     have:=hin.1
     exact c1t h kn hkn f a hin ha om
   have inK:∀ a,(nd t i).kids=[a]->In t a:=fun a e=>h.inK hi (k:=a) (by rw[e];exact List.mem_singleton.2 rfl)
   generalize(nd t i).k=k at pn hk hleaf⊢
   generalize(nd t i).kids=ks at pn hkid step inK hleaf⊢
   generalize(nd t i).t=nm at pn⊢
   generalize(nd t i).v=q1 at pn⊢
   generalize(nd t i).f=q2 at pn⊢
   generalize(nd t i).e=q3 at pn⊢
   by_cases c1:k=13
   ·have hks:ks=[]:=hleaf (.inr (.inr (.inr c1)))
    subst hks
    obtain⟨res,hres⟩:∃ res,(if(decide (k=13) && !decide (nm∈kn))=true then i else(-1:Int))=res:=⟨_,rfl⟩
    show b7t _ _ fun e=>WQ _ _ _ _ _ _ (f8f _ _ fun v _=>v=i64 (if(decide (k=13) && !decide (nm∈kn))=true then i else(-1:Int)))
    rw[hres]
    simp only[c1,decide_true,Bool.true_and,Bool.not_eq_true',decide_eq_false_iff_not]at hres
    repeat' (first|refine run ⟨?_⟩|refine a0a pn ?_|fail)
    refine a0g (α:=Nat) (fun j=>kn.length - j) (fun j=>[(1,i64 i),(2,.d (.sl (kn.map D.str))),(7,.ptr 1 0),(8,i64 j)]) (fun j=>[.box [.d (.sl (t.map Nd.D))],.box [i64 k,str nm,i64 q1,.d (.sl (([]:List Int).map (D.int .i64))),i64 q2,i64 q3]]) (fun j=>j<=kn.length/\(nm∈kn↔nm∈kn.drop j)) ?_ 0 ⟨Nat.zero_le _,by rw[List.drop_zero]⟩ rfl rfl
    rintro j ⟨hj,hmem⟩
    by_cases c:j < kn.length
    ·have c2:(j:Int) < ((kn.map D.str).length:Int):=om
     have pj:0<=(j:Int)/\(kn.map D.str)[(j:Int).toNat]? =some (.str kn[j]):=⟨om,by rw[Int.toNat_natCast,List.getElem?_map,List.getElem?_eq_getElem c];rfl⟩
     rw[List.drop_eq_getElem_cons c,List.mem_cons]at hmem
     have wj:IntKind.i64.wrap ((j:Int)+1)=((j+1:Nat):Int):=by rw[a0w om];omega
     by_cases ce:kn[j]=nm
     ·have be:kn[j]=nm:=ce
      rw[if_neg (fun hn=>hn (hmem.2 (.inl ce.symm)))]at hres
      generalize kn[j]=y at pj be
      repeat' (first|refine run ⟨?_⟩|refine a0a pj ?_|fail)
      rw[<-hres];exact rfl
     ·have be:¬ kn[j]=nm:=ce
      have ce2:¬ nm=kn[j]:=fun e=>ce e.symm
      generalize kn[j]=y at pj be ce2 hmem
      repeat' (first|refine run ⟨?_⟩|refine a0a pj ?_|fail)
      exact⟨j+1,⟨om,hmem.trans (by simp[ce2])⟩,om,by rw[wj],rfl⟩
    ·have c2:¬ (j:Int) < ((kn.map D.str).length:Int):=om
     rw[List.drop_eq_nil_of_le om]at hmem
     rw[if_pos (fun hn=>by have:=hmem.1 hn;cases this)]at hres
     refine run ⟨?_⟩
     rw[<-hres];exact rfl
   ·rw[if_neg (by simp[c1])]
    rcases hkid with rfl|⟨a,rfl,ha⟩
    ·repeat' (first|refine run ⟨?_⟩|refine a0a pn ?_|fail)
     exact rfl
    ·have e1:=step a rfl ha
     simp only
     rw[d8f (f1g h _ f (inK a rfl))]
     repeat' (first|refine run ⟨?_⟩|refine a0a pn ?_|refine ca (e1 _) ?_|fail)
     exact rfl
end
end Go.Vm.Ite
