import Derived.Test.YtocpgkeiakjicaaGreatTypP18
import Derived.Test.YtocpgkeiakjicaaGreatTreP5
import Derived.Test.YtocpgkeiakjicaaGreatIteW9
import Derived.Test.YtocpgkeiakjicaaGreatVmWp
import Derived.Lib.Bytealg
import Derived.Lib.IndexLaws
import Derived.Lib.ParseIntB
set_option maxRecDepth 100000
set_option linter.unusedVariables false
set_option linter.unusedSimpArgs false
namespace Go.Vm.Io
open Go.Vm.Tp (Nd b4e kinds a1f a9x d2k a3x)
open Go.Vm.Ip (Fld Nam Fnc Its)
abbrev S:=List UInt8
def nd (t:List Nd) (i:Int):Nd:=t.getD i.toNat default
def In (t:List Nd) (i:Int):Prop:=0<=i/\i.toNat < t.length
structure Rt (t:List Nd):Prop where
 lo:1<=t.length
 hi:t.length<=20000
 kid:∀ i,In t i->∀ k∈(nd t i).kids,0<=k/\k < i
 root:∀ k∈(nd t ((t.length:Int) - 1)).kids,(nd t k).k=2\/(nd t k).k=3\/(nd t k).k=4
 st:∀ i,In t i->(nd t i).k=3->∀ k∈(nd t i).kids,(nd t k).k=5
 en:∀ i,In t i->(nd t i).k=4->∀ k∈(nd t i).kids,(nd t k).k=6
 fn:∀ i,In t i->(nd t i).k=2->∃ ps a b,(nd t i).kids=ps++[a,b]/\(∀ k∈ps,(nd t k).k=7)/\a3x (nd t a).k=true/\(nd t i).v=ps.length
 fd:∀ i,In t i->(nd t i).k=5\/(nd t i).k=7->∃ a,(nd t i).kids=[a]/\a3x (nd t a).k=true
 va:∀ i,In t i->(nd t i).k=6->(nd t i).kids=[]\/∃ a,(nd t i).kids=[a]/\a3x (nd t a).k=true
 leaf:∀ i,In t i->(nd t i).k=10\/(nd t i).k=11\/(nd t i).k=12\/(nd t i).k=13->(nd t i).kids=[]
 ref:∀ i,In t i->(nd t i).k=14\/(nd t i).k=15\/(nd t i).k=16->∃ a,(nd t i).kids=[a]/\a3x (nd t a).k=true
theorem In.lt {t:List Nd} {i:Int} (h:In t i):i < t.length:=by have:=h.1;have:=h.2;omega
theorem Rt.inK {t:List Nd} (h:Rt t) {i k:Int} (hi:In t i) (hk:k∈(nd t i).kids):In t k:=by
 obtain⟨h1,h2⟩:=h.kid i hi k hk
 have:=hi.1
 have:=hi.2
 exact⟨h1,om⟩
theorem kd (t:List Nd) (k:Int):b4e t k=(nd t k).k:=rfl
theorem f1c {t:List Nd} {l:List Int} {k:Int} (h:k∈l):(nd t k).k∈kinds t l:=List.mem_map.2 ⟨k,h,rfl⟩
theorem e2n {t:List Nd} {l:List Int} (h:Go.Vm.Tp.a0k [116] (kinds t l)=true):∃ a,l=[a]/\a3x (nd t a).k=true:=by
 cases l with
 |nil=>simp[kinds,Go.Vm.Tp.a0k]at h
 |cons a r=>
  cases r with
  |nil=>exact⟨a,rfl,by rw[<-kd];simpa [kinds,Go.Vm.Tp.a0k,Go.Vm.Tp.a4l] using h⟩
  |cons b r=>simp[kinds,Go.Vm.Tp.a0k]at h
theorem f7l {t:List Nd} (h:a1f t=true):Rt t:=by
 obtain⟨up,hT⟩:=Go.Vm.Tp.f9s h
 have hN:∀ i,In t i->d2k t i.toNat (nd t i):=fun i hi=>hT.nod i.toNat hi.2
 have hlo:=hT.lo
 have hroot:In t ((t.length:Int) - 1):=⟨om,om⟩
 have er:(nd t ((t.length:Int) - 1)).k=1:=by
  unfold nd
  rw[show((t.length:Int) - 1).toNat=t.length - 1 by omega]
  exact hT.root
 have all:∀ {c:UInt8} {ks:List Int} {v k:Int},Go.Vm.Tp.a0i k v=([],some c,[])->Go.Vm.Tp.a0q k v (kinds t ks)=true->∀ x∈ks,Go.Vm.Tp.a4l c (nd t x).k=true:=by
  intro c ks v k hs hf x hx
  unfold Go.Vm.Tp.a0q at hf
  rw[hs]at hf
  simp only[Bool.and_eq_true,List.length_nil,Nat.sub_zero,List.take_length,List.drop_zero]at hf
  exact List.all_eq_true.1 hf.2.1.2 _ (f1c hx)
 have lst:∀ {s:List UInt8} {ks:List Int} {v k:Int},Go.Vm.Tp.a0i k v=(s,none,[])->Go.Vm.Tp.a0q k v (kinds t ks)=true->Go.Vm.Tp.a0k s (kinds t ks)=true:=by
  intro s ks v k hs hf
  unfold Go.Vm.Tp.a0q at hf
  rw[hs]at hf
  exact hf
 refine⟨hlo,hT.hi,fun i hi k hk=>?_,fun k hk=>?_,fun i hi e k hk=>?_,fun i hi e k hk=>?_,fun i hi e=>?_,fun i hi e=>?_,fun i hi e=>?_,fun i hi e=>?_,fun i hi e=>?_⟩
 ·obtain⟨a,b⟩:=(hN i hi).kid k hk
  have:=hi.1
  exact⟨a,om⟩
 ·have hf:=(hN _ hroot).fit
  rw[er]at hf
  have:=all (c:=105) (by rfl) hf k hk
  simpa [Go.Vm.Tp.a4l] using this
 ·have hf:=(hN i hi).fit
  rw[e]at hf
  have:=all (c:=102) (by rfl) hf k hk
  simpa [Go.Vm.Tp.a4l] using this
 ·have hf:=(hN i hi).fit
  rw[e]at hf
  have:=all (c:=118) (by rfl) hf k hk
  simpa [Go.Vm.Tp.a4l] using this
 ·have hf:=(hN i hi).fit
  have hv:=((hN i hi).fn e).1
  rw[e]at hf
  obtain⟨ps,a,b,h1,h2,h3,h4⟩:=Go.Vm.Tp.d1j hf
  unfold kinds at h1
  obtain⟨q,r,e1,e2,e3⟩:=List.map_eq_append_iff.1 h1
  obtain⟨x,r2,rfl,e4,e5⟩:=List.map_eq_cons_iff.1 e3
  obtain⟨y,r3,rfl,e6,e7⟩:=List.map_eq_cons_iff.1 e5
  have:r3=[]:=by simpa using e7
  subst this
  refine⟨q,x,y,e1,fun k hk=>?_,by rw[<-kd,e4];exact h3,by rw[hv,e1];simp⟩
  exact h2 _ (by rw[<-e2];exact List.mem_map.2 ⟨k,hk,rfl⟩)
 ·have hf:=(hN i hi).fit
  refine e2n (lst (s:=[116]) (v:=(nd t i).v) (k:=(nd t i).k) ?_ hf)
  rcases e with e|e<;>rw[e]<;>rfl
 ·have hf:=(hN i hi).fit
  rw[e]at hf
  have:=lst (s:=[63,116]) (by rfl) hf
  generalize hl:(nd t i).kids=l at this
  cases l with
  |nil=>exact .inl rfl
  |cons a r=>
   cases r with
   |nil=>exact .inr ⟨a,rfl,by rw[<-kd];simpa [kinds,Go.Vm.Tp.a0k,Go.Vm.Tp.a4l] using this⟩
   |cons b r=>simp[kinds,Go.Vm.Tp.a0k]at this
 ·have hf:=(hN i hi).fit
  have:=lst (s:=[]) (v:=(nd t i).v) (k:=(nd t i).k) (by rcases e with e|e|e|e<;>rw[e]<;>rfl) hf
  simpa [kinds,Go.Vm.Tp.a0k] using this
 ·have hf:=(hN i hi).fit
  refine e2n (lst (s:=[116]) (v:=(nd t i).v) (k:=(nd t i).k) ?_ hf)
  rcases e with e|e|e<;>rw[e]<;>rfl
def txt (t:List Nd):Nat->Int->S
 |0,_=>[]
 |n+1,i=>
  if(nd t i).k=10 then[105,54,52]
  else if(nd t i).k=11 then[98,111,111,108]
  else if(nd t i).k=12 then[40,41]
  else if(nd t i).k=14 then[38]++txt t n ((nd t i).kids.getD 0 0)
  else if(nd t i).k=15 then[38,109,117,116,32]++txt t n ((nd t i).kids.getD 0 0)
  else if(nd t i).k=16 then[66,111,120,60]++txt t n ((nd t i).kids.getD 0 0)++[62]
  else(nd t i).t
def tx (t:List Nd) (i:Int):S:=txt t t.length i
def a3q (t:List Nd) (i:Int):Fld:=⟨(nd t i).t,match(nd t i).kids with|[]=>[]|a::_=>tx t a⟩
def mem (t:List Nd) (i:Int):List Int:=if(nd t i).k=2 then(nd t i).kids.take ((nd t i).kids.length - 2) else(nd t i).kids
def ret (t:List Nd) (i:Int):Int:=(nd t i).kids.getD ((nd t i).kids.length - 2) 0
def a2v (t:List Nd) (i:Int):Nam:=⟨(nd t i).t,(nd t i).kids.map (a3q t)⟩
def a9w (t:List Nd) (i:Int):Fnc:=⟨(nd t i).t,(mem t i).map (a3q t),(mem t i).map (fun k=>decide ((nd t k).v=1)),tx t (ret t i),i⟩
def roots (t:List Nd):List Int:=(nd t ((t.length:Int) - 1)).kids
def inn (t:List Nd):Nat->Bool->Int->Int
 |0,_,_=> -1
 |n+1,may,i=>if !may && (decide ((nd t i).k=14)||decide ((nd t i).k=15)) then i else match(nd t i).kids with
  |[]=> -1
  |a::_=>if 0<=inn t n false a then inn t n false a else -1
def unk (t:List Nd) (kn:S->Bool):Nat->Int->Int
 |0,_=> -1
 |n+1,i=>if decide ((nd t i).k=13) && !kn (nd t i).t then i else match(nd t i).kids with
  |[]=> -1
  |a::_=>if 0<=unk t kn n a then unk t kn n a else -1
theorem Rt.ty {t:List Nd} (h:Rt t) {i:Int} (hi:In t i) (hk:a3x (nd t i).k=true):(nd t i).kids=[]\/∃ a,(nd t i).kids=[a]/\a3x (nd t a).k=true:=by
 unfold a3x at hk
 simp only[Bool.and_eq_true,decide_eq_true_eq]at hk
 by_cases c:(nd t i).k=14\/(nd t i).k=15\/(nd t i).k=16
 ·exact .inr (h.ref i hi c)
 ·exact .inl (h.leaf i hi om)
def a7x (t:List Nd) (a:Its×Int) (n:Int):Its×Int:=
 if(nd t n).k=3 then(⟨a.1.ss++[a2v t n],a.1.es,a.1.fs⟩,if 64 < a.1.ss.length+1/\a.2 < 0 then n else a.2)
 else if(nd t n).k=4 then(⟨a.1.ss,a.1.es++[a2v t n],a.1.fs⟩,if 64 < a.1.es.length+1/\a.2 < 0 then n else a.2)
 else(⟨a.1.ss,a.1.es,a.1.fs++[a9w t n]⟩,if 64 < a.1.fs.length+1/\a.2 < 0 then n else a.2)
def col (t:List Nd) (l:List Int):Its×Int:=l.foldl (a7x t) (⟨[],[],[]⟩,-1)
def c8x (t:List Nd):List S->List Int->Option Int
 |_,[]=>none
 |seen,k::r=>if(nd t k).t∈seen then some k else c8x t (seen++[(nd t k).t]) r
def b8v (t:List Nd):List S->List S->List Int->Option (Int×Int)
 |_,_,[]=>none
 |ts,fs,n::r=>
  if(nd t n).k=2 then
   if(nd t n).t∈fs then some (140,n) else if 6 < (mem t n).length then some (2,n) else match c8x t [] (mem t n)with
    |some k=>some (140,k)
    |none=>b8v t ts (fs++[(nd t n).t]) r
  else
   if(nd t n).t∈ts then some (140,n) else if 16 < (mem t n).length then some (2,n) else match c8x t [] (mem t n)with
    |some k=>some (140,k)
    |none=>b8v t (ts++[(nd t n).t]) fs r
theorem b2e {t:List Nd} {n k:Int} (h:k∈mem t n):k∈(nd t n).kids:=by
 unfold mem at h
 split at h
 ·exact List.mem_of_mem_take h
 ·exact h
theorem b0p (t:List Nd) (n:Int):(mem t n).length<=(nd t n).kids.length:=by
 unfold mem
 split
 ·exact Nat.le_trans (List.length_take_le _ _) (Nat.sub_le _ _)
 ·exact Nat.le_refl _
theorem d4w {t:List Nd} (h:Rt t) (kn:S->Bool):∀ (n:Nat) (i:Int),In t i->0<=unk t kn n i->In t (unk t kn n i)
 |0,i,_,h0=>absurd h0 (by rw[unk];decide)
 |n+1,i,hi,h0=>by
  rw[unk]at h0⊢
  split
  ·exact hi
  ·rename_i c
   rw[if_neg c]at h0
   cases hk:(nd t i).kids with
   |nil=>rw[hk]at h0;exact absurd h0 (show ¬ (0:Int)<= -1 by decide)
   |cons a r=>
    rw[hk]at h0
    simp only at h0⊢
    by_cases hp:0<=unk t kn n a
    ·rw[if_pos hp];exact d4w h kn n a (h.inK hi (by rw[hk];exact List.mem_cons_self)) hp
    ·rw[if_neg hp]at h0;exact absurd h0 (by decide)
theorem d3t {t:List Nd} (h:Rt t):∀ (n:Nat) (b:Bool) (i:Int),In t i->0<=inn t n b i->In t (inn t n b i)
 |0,_,i,_,h0=>absurd h0 (by rw[inn];decide)
 |n+1,b,i,hi,h0=>by
  rw[inn]at h0⊢
  split
  ·exact hi
  ·rename_i c
   rw[if_neg c]at h0
   cases hk:(nd t i).kids with
   |nil=>rw[hk]at h0;exact absurd h0 (show ¬ (0:Int)<= -1 by decide)
   |cons a r=>
    rw[hk]at h0
    simp only at h0⊢
    by_cases hp:0<=inn t n false a
    ·rw[if_pos hp];exact d3t h n false a (h.inK hi (by rw[hk];exact List.mem_cons_self)) hp
    ·rw[if_neg hp]at h0;exact absurd h0 (by decide)
def tyl (t:List Nd) (n:Int):List Int:=((mem t n).map fun k=>(nd t k).kids).flatten++(if(nd t n).k=2 then[ret t n] else[])
def tyG (t:List Nd) (kn:S->Bool) (fn:Bool):List Int->Option (Int×Int)
 |[]=>none
 |a::r=>if 0<=unk t kn t.length a then some (141,unk t kn t.length a) else if 0<=inn t t.length fn a then some (142,inn t t.length fn a) else tyG t kn fn r
theorem Rt.h6t {t:List Nd} (h:Rt t) {n:Int} (hi:In t n) (hk:(nd t n).k=2\/(nd t n).k=3\/(nd t n).k=4) {k:Int} (hm:k∈mem t n):In t k/\((nd t k).kids=[]\/∃ a,(nd t k).kids=[a]/\a3x (nd t a).k=true):=by
 have hin:=h.inK hi (b2e hm)
 refine⟨hin,?_⟩
 rcases hk with e|e|e
 ·obtain⟨ps,a,b,e1,e2,_⟩:=h.fn n hi e
  have:mem t n=ps:=by unfold mem;rw[if_pos e,e1];simp
  rw[this]at hm
  exact .inr (h.fd k hin (.inr (e2 k hm)))
 ·exact .inr (h.fd k hin (.inl (h.st n hi e k (b2e hm))))
 ·exact h.va k hin (h.en n hi e k (b2e hm))
theorem Rt.h4m {t:List Nd} (h:Rt t) {n:Int} (hi:In t n) (hk:(nd t n).k=2):∃ ps b,(nd t n).kids=ps++[ret t n,b]/\mem t n=ps/\In t (ret t n)/\a3x (nd t (ret t n)).k=true:=by
 obtain⟨ps,a,b,e1,e2,e3,_⟩:=h.fn n hi hk
 have er:ret t n=a:=by unfold ret;rw[e1];simp
 refine⟨ps,b,by rw[er];exact e1,by unfold mem;rw[if_pos hk,e1];simp,?_,by rw[er];exact e3⟩
 rw[er];exact h.inK hi (by rw[e1];simp)
theorem Rt.tylk {t:List Nd} (h:Rt t) {n:Int} (hi:In t n) (hk:(nd t n).k=2\/(nd t n).k=3\/(nd t n).k=4) {a:Int} (ha:a∈tyl t n):In t a/\a3x (nd t a).k=true:=by
 unfold tyl at ha
 rcases List.mem_append.1 ha with q|q
 ·obtain⟨l,h1,h2⟩:=List.mem_flatten.1 q
  obtain⟨k,h3,rfl⟩:=List.mem_map.1 h1
  obtain⟨g1,g2⟩:=h.h6t hi hk h3
  rcases g2 with e|⟨b,e,eb⟩
  ·rw[e]at h2;cases h2
  ·have hin:=h.inK g1 h2
   rw[e]at h2
   simp only[List.mem_singleton]at h2
   subst h2
   exact⟨hin,eb⟩
 ·split at q
  ·rename_i e
   obtain⟨ps,b,_,_,g1,g2⟩:=h.h4m hi e
   simp only[List.mem_singleton]at q
   subst q
   exact⟨g1,g2⟩
  ·cases q
def d7m (t:List Nd) (e:S->Bool):List Int->Option (Int×Int)
 |[]=>none
 |n::r=>if((nd t n).k≠2/\e (nd t n).t=true)\/((nd t n).k=4/\(nd t n).kids=[]) then some (143,n) else d7m t e r
def d6k (t:List Nd) (b:S->Bool):List Int->Option (Int×Int)
 |[]=>none
 |n::r=>if(nd t n).k=2 then d6k t b r else if b (nd t n).t=true then some (2,n) else d6k t b r
theorem b8s {t:List Nd} {e:S->Bool}:∀ {l:List Int},d7m t e l=none->∀ n∈l,(nd t n).k≠2->e (nd t n).t=false
 |[],_,n,hn,_=>by cases hn
 |m::r,h,n,hn,hk=>by
  rw[d7m]at h
  split at h
  ·cases h
  ·rename_i c
   rcases List.mem_cons.1 hn with q|q
   ·subst q
    cases he:e (nd t n).t with
    |false=>rfl
    |true=>exact absurd (.inl ⟨hk,he⟩) c
   ·exact b8s h n q hk
end Go.Vm.Io
namespace Go.Vm.Itr
open Go.Vm.Ite
open Go.Vm.Tp
open Go.Vm.Lex (a3c)
abbrev ints (l:List Int):V:= .d (.sl (l.map (D.int .i64)))
abbrev ndV (x:Nd):V:= .d x.D
section
variable {fx:Nat->Option Obj} {F:Nat->Option a0t} (H:Hp)
theorem a2y (k:Int):evF (pgL fx F) d3f [i64 k] H=some (boo (a3x k),H):=by
 refine a1p (d1d (F:=F)) rfl rfl ?_ H
 repeat' refine And.intro (fun h=>?_) (fun h=>?_)
 all_goals show _=_
 all_goals simp[oneOf,a3x]at*
 all_goals first|omega|(simp[*];done)
theorem a4k (k:Int):evF (pgL fx F) c9v [i64 k] H=some (boo (e7i k),H):=by
 refine a1p (d0q (F:=F)) rfl rfl ?_ H
 repeat' refine And.intro (fun h=>?_) (fun h=>?_)
 all_goals show _=_
 all_goals simp[oneOf,e7i]at*
 all_goals first|omega|(simp[*];done)
theorem a2s (k:Int):evF (pgL fx F) c2f [i64 k] H=some (boo (f3s k),H):=by
 refine a1p (c2i (F:=F)) rfl rfl ?_ H
 repeat' refine And.intro (fun h=>?_) (fun h=>?_)
 all_goals show _=_
 all_goals simp[oneOf,f3s]at*
 all_goals first|omega|(simp[*];done)
theorem a8y (k:Int):evF (pgL fx F) d0p [i64 k] H=some (boo (d7p k),H):=by
 refine a1p (d2r (F:=F)) rfl rfl ?_ H
 repeat' refine And.intro (fun h=>?_) (fun h=>?_)
 all_goals show _=_
 all_goals simp[oneOf,d7p]at*
 all_goals first|omega|(simp[*];done)|grind
theorem c2r {c d:UInt8} {n:Int} (h:c≠d) (hn:(d.toNat:Int)=n):decide ((c.toNat:Int)=n)=false:=by
 refine decide_eq_false fun e=>h ?_
 apply UInt8.toNat_inj.1;omega
set_option maxHeartbeats 1000000 in
theorem g4y (c:UInt8) (k:Int):evF (pgL fx F) e7w [u8 c,i64 k] H=some (boo (a4l c k),H):=by
 refine a1p (e7z (F:=F)) rfl rfl ?_ H
 by_cases c1:c=105
 ·subst c1
  by_cases k1:k=2
  ·subst k1
   repeat' (first|refine run ⟨?_⟩|fail)
   exact rfl
  by_cases k2:k=3
  ·subst k2
   repeat' (first|refine run ⟨?_⟩|fail)
   exact rfl
  by_cases k3:k=4
  ·subst k3
   repeat' (first|refine run ⟨?_⟩|fail)
   exact rfl
  rw[show a4l 105 k=false from decide_eq_false om]
  repeat' (first|refine run ⟨?_⟩|fail)
  show _=_
  rw[decide_eq_false k3];rfl
 by_cases c2:c=116
 ·subst c2
  repeat' (first|refine run ⟨?_⟩|refine ca (a2y _ _) ?_|fail)
  exact rfl
 by_cases c3:c=115
 ·subst c3
  repeat' (first|refine run ⟨?_⟩|refine ca (a4k _ _) ?_|fail)
  exact rfl
 by_cases c4:c=101
 ·subst c4
  repeat' (first|refine run ⟨?_⟩|refine ca (a8y _ _) ?_|fail)
  exact rfl
 by_cases c5:c=112
 ·subst c5
  repeat' (first|refine run ⟨?_⟩|refine ca (a2s _ _) ?_|fail)
  exact rfl
 by_cases c6:c=98
 ·subst c6
  repeat' (first|refine run ⟨?_⟩|fail)
  exact rfl
 by_cases c7:c=102
 ·subst c7
  repeat' (first|refine run ⟨?_⟩|fail)
  exact rfl
 by_cases c8:c=118
 ·subst c8
  repeat' (first|refine run ⟨?_⟩|fail)
  exact rfl
 by_cases c9:c=110
 ·subst c9
  repeat' (first|refine run ⟨?_⟩|fail)
  exact rfl
 by_cases c10:c=97
 ·subst c10
  repeat' (first|refine run ⟨?_⟩|fail)
  exact rfl
 by_cases c11:c=113
 ·subst c11
  repeat' (first|refine run ⟨?_⟩|fail)
  exact rfl
 by_cases c12:c=111
 ·subst c12
  by_cases k1:k=20
  ·subst k1
   repeat' (first|refine run ⟨?_⟩|fail)
   exact rfl
  by_cases k2:k=45
  ·subst k2
   repeat' (first|refine run ⟨?_⟩|fail)
   exact rfl
  rw[show a4l 111 k=false from decide_eq_false om]
  repeat' (first|refine run ⟨?_⟩|fail)
  show _=_
  rw[decide_eq_false k2];rfl
 have e:a4l c k=false:=by unfold a4l;simp[c1,c2,c3,c4,c5,c6,c7,c8,c9,c10,c11,c12]
 rw[e]
 refine a0j (c2r c1 rfl) ?_
 refine a0j (c2r c2 rfl) ?_
 refine a0j (c2r c3 rfl) ?_
 refine a0j (c2r c4 rfl) ?_
 refine a0j (c2r c5 rfl) ?_
 refine a0j (c2r c6 rfl) ?_
 refine a0j (c2r c7 rfl) ?_
 refine a0j (c2r c8 rfl) ?_
 refine a0j (c2r c9 rfl) ?_
 refine a0j (c2r c10 rfl) ?_
 refine a0j (c2r c11 rfl) ?_
 refine a0j (c2r c12 rfl) ?_
 rfl
theorem d1g (l:List Int):((l.map (D.int .i64)).all fun y=>y.cells.length==1)=true:=by
  rw[List.all_map,List.all_eq_true];intro x _;rfl
theorem slc1 {l:List Int} (h:1<=l.length):(1<=(l.map (D.int .i64)).length/\(l.map (D.int .i64)).length<=(l.map (D.int .i64)).length/\((some (Opd.c (i64 1))).isNone||(l.map (D.int .i64)).all fun y=>y.cells.length==1)=true):=
  ⟨by rw[List.length_map];exact h,Nat.le_refl _,by rw[d1g];rfl⟩
theorem e4w {c:UInt8} (hc:c≠63) (s:List UInt8) (l:List Int):a0k (c::s) l=(match l with|[]=>false|a::r=>a4l c a && a0k s r):=by
  cases s with
  |nil=>cases l<;>rfl
  |cons d s=>simp only[a0k,if_neg hc]<;>cases l<;>rfl
theorem g3t (d:UInt8) (s:List UInt8) (l:List Int):a0k (63::d::s) l=((match l with|[]=>false|a::r=>a4l d a && a0k s r)||a0k s l):=by simp only[a0k,if_true]<;>cases l<;>rfl
set_option maxHeartbeats 2000000 in
theorem b4j:∀ (n:Nat) (s:List UInt8) (l:List Int),s.length<=n->(∀ a,s≠a++[63])->∀ H,evF (pgL fx F) d8n [str s,ints l] H=some (boo (a0k s l),H)
 |n,[],l,_,_,H=>by
  refine a1p (c4x (F:=F)) rfl rfl ?_ H
  refine a0m rfl ?_
  show _=_
  cases l with
  |nil=>rfl
  |cons a r=>simp[oneOf,a0k];omega
 |0,c::s,l,h,_,H=>by simp at h
 |n+1,c::s,l,h,h2,H=>by
  have h3:∀ a,s≠a++[63]:=fun a e=>h2 (c::a) (by rw[e];rfl)
  refine a1p (c4x (F:=F)) rfl rfl ?_ H
  refine a0j rfl ?_
  refine a0a (d:=c) ⟨Int.le_refl _,rfl⟩ ?_
  by_cases hc:c=63
  ·subst hc
   cases s with
   |nil=>exact absurd rfl (h2 [])
   |cons d s=>
    have h4:∀ a,s≠a++[63]:=fun a e=>h3 (d::a) (by rw[e];rfl)
    have hs:s.length<=n:=by simp at h;omega
    refine a0m rfl ?_
    rw[g3t]
    have tail:∀ _:List Int,List.drop (Int.toNat 2) (List.take (63::d::s).length (63::d::s))=s:=by intro l;simp
    cases l with
    |nil=>
     refine a7v rfl ?_
     repeat' (first|refine run ⟨?_⟩|fail)
     refine And.intro ⟨by simp,by simp⟩ ?_
     rw[tail []]
     refine ca (b4j n s [] hs h4 _) ?_
     repeat' (first|refine run ⟨?_⟩|fail)
     exact rfl
    |cons a r=>
     refine b2m (decide_eq_true (by simp only[List.length_map,List.length_cons];omega)) ?_
     refine a0a (d:=d) ⟨om,rfl⟩ ?_
     refine a0a (d:= .int .i64 a) ⟨Int.le_refl _,rfl⟩ ?_
     refine And.intro rfl ?_
     refine ca (g4y _ d a) ?_
     repeat' (first|refine run ⟨?_⟩|fail)
     cases hl:a4l d a with
     |false=>
      refine a7v rfl ?_
      repeat' (first|refine run ⟨?_⟩|fail)
      refine And.intro ⟨by simp,by simp⟩ ?_
      rw[tail []]
      refine ca (b4j n s (a::r) hs h4 _) ?_
      repeat' (first|refine run ⟨?_⟩|fail)
      show _=_
      simp_all[oneOf]
     |true=>
      refine b2m rfl ?_
      refine And.intro ⟨by simp,by simp⟩ ?_
      refine And.intro (slc1 (by simp)) ?_
      rw[tail []]
      have e2:List.drop (Int.toNat 1) (List.take (List.map (D.int .i64) (a::r)).length (List.map (D.int .i64) (a::r)))=r.map (D.int .i64):=by rw[List.take_length];rfl
      rw[e2]
      refine ca (b4j n s r hs h4 _) ?_
      repeat' (first|refine run ⟨?_⟩|fail)
      cases hk:a0k s r with
      |true=>
       repeat' (first|refine run ⟨?_⟩|fail)
       repeat' (first|refine run ⟨?_⟩|fail)
       show _=_
       simp_all[oneOf]
      |false=>
       repeat' (first|refine run ⟨?_⟩|fail)
       refine And.intro ⟨by simp,by simp⟩ ?_
       rw[tail []]
       refine ca (b4j n s (a::r) hs h4 _) ?_
       repeat' (first|refine run ⟨?_⟩|fail)
       show _=_
       simp_all[oneOf]
  ·refine a0j (c2r hc rfl) ?_
   rw[e4w hc]
   have hs:s.length<=n:=by simp at h;omega
   cases l with
   |nil=>
    refine a7v rfl ?_
    repeat' (first|refine run ⟨?_⟩|fail)
    exact rfl
   |cons a r=>
    refine b2m (decide_eq_true (by simp only[List.length_map,List.length_cons];omega)) ?_
    refine a0a (d:=c) ⟨Int.le_refl _,rfl⟩ ?_
    refine a0a (d:= .int .i64 a) ⟨Int.le_refl _,rfl⟩ ?_
    refine And.intro rfl ?_
    refine ca (g4y _ c a) ?_
    repeat' (first|refine run ⟨?_⟩|fail)
    cases hl:a4l c a with
    |false=>
     refine a7v rfl ?_
     repeat' (first|refine run ⟨?_⟩|fail)
     show _=_
     simp_all[oneOf]
    |true=>
     refine b2m rfl ?_
     refine And.intro ⟨by simp,by simp⟩ ?_
     refine And.intro (slc1 (by simp)) ?_
     have e1:List.drop (Int.toNat 1) (List.take (c::s).length (c::s))=s:=by simp
     have e2:List.drop (Int.toNat 1) (List.take (List.map (D.int .i64) (a::r)).length (List.map (D.int .i64) (a::r)))=r.map (D.int .i64):=by rw[List.take_length];rfl
     rw[e1,e2]
     refine ca (b4j n s r hs h3 _) ?_
     repeat' (first|refine run ⟨?_⟩|fail)
     show _=_
     simp_all[oneOf]
end
end Go.Vm.Itr
namespace Go.Vm.Itr
open Go.Vm.Ite
open Go.Vm.Tp
open Go.Vm.Lex (a3c)
section
variable {fx:Nat->Option Obj} {F:Nat->Option a0t} (H:Hp)
theorem g3j (k:Int) (c:UInt8):evF (pgL fx F) «b0b» [i64 k,.ptr 0 0] [.box [u8 c]]=some (boo (!a4l c k),[.box [u8 c]]):=by
 refine c9o (d3o (F:=F)) rfl rfl rfl ?_
 repeat' (first|refine run ⟨?_⟩|refine ca (g4y _ _ _) ?_|fail)
 first|exact rfl|exact⟨rfl,rfl⟩
theorem g0i (l:List Int) (c:UInt8) (hl:l.length<=1048576):evF (pgL fx F) a9u [ints l,.fn b0b [.ptr 0 0]] [.box [u8 c]]=some (i64 (if l.all (a4l c) then -1 else(l.findIdx fun k=> !a4l c k:Nat)),[.box [u8 c]]):=by
  refine c9o (a9t (F:=F)) rfl rfl rfl ?_
  refine wp_loop (α:=Nat) (fun i=>l.length - i) (fun i=>[(0,ints l),(1,.fn b0b [.ptr 0 0]),(7,i64 (l.map (D.int .i64)).length),(8,i64 i)]) (fun _=>[.box [u8 c]]) (fun i=>i<=l.length/\∀ k∈l.take i,a4l c k=true) ?_ 0 ⟨om,by simp⟩
  rintro i ⟨hi,hall⟩
  refine And.intro (fun h=>?_) (fun h=>?_)
  ·replace h:=of_decide_eq_true h
   rw[List.length_map]at h
   have hlt:i < l.length:=om
   refine a4r (s:=l.map (D.int .i64)) (by rw[List.length_map];exact hlt) ?_
   rw[List.getElem_map]
   refine And.intro rfl ?_
   refine ca (g3j l[i] c) ?_
   cases hk:a4l c l[i] with
   |true=>
    repeat' (first|refine run ⟨?_⟩|fail)
    refine⟨i+1,⟨om,?_⟩,om,?_,rfl⟩
    ·intro k hkm
     rw[List.take_add_one,List.getElem?_eq_getElem hlt,List.mem_append]at hkm
     rcases hkm with hkm|hkm
     ·exact hall k hkm
     ·simp at hkm;rw[hkm];exact hk
    ·rw[a0w om];rfl
   |false=>
    repeat' (first|refine run ⟨?_⟩|fail)
    refine⟨?_,rfl⟩
    have h1:l.all (a4l c)=false:=by
     cases hb:l.all (a4l c)with
     |false=>rfl
     |true=>have:=List.all_eq_true.1 hb l[i] (List.getElem_mem _);rw[hk]at this;cases this
    rw[h1]
    have h2:l.findIdx (fun k=> !a4l c k)=i:=by
      rw[List.findIdx_eq hlt]
      refine⟨by rw[hk];rfl,fun j hj=>?_⟩
      have:l[j]∈l.take i:=by rw[List.mem_take_iff_getElem];exact⟨j,om,rfl⟩
      rw[hall _ this];rfl
    rw[h2];rfl
  ·replace h:=of_decide_eq_false h
   rw[List.length_map]at h
   have hi':i=l.length:=om
   subst hi'
   rw[List.take_length]at hall
   refine⟨?_,rfl⟩
   rw[List.all_eq_true.2 hall];rfl
theorem h7w (l:List Int) (c:UInt8) (hl:l.length<=1048576):evF (pgL fx F) a7w [ints l,.fn b0b [.ptr 0 0]] [.box [u8 c]]=some (boo (!l.all (a4l c)),[.box [u8 c]]):=by
 refine c9o (a7y (F:=F)) rfl rfl rfl ?_
 refine ca (g0i l c hl) ?_
 refine⟨?_,rfl⟩
 cases l.all (a4l c)with
 |true=>rfl
 |false=>show V.d (.bool (decide (0<=((l.findIdx fun k=> !a4l c k:Nat):Int))))=_;rw[decide_eq_true om];rfl
theorem g8p (l:List Int) (c:UInt8) (hl:l.length<=1048576):evF (pgL fx F) e4v [u8 c,ints l] H=some (boo (l.all (a4l c)),H):=by
 refine a1p (e4o (F:=F)) rfl rfl ?_ H
 refine ca (h7w l c hl) ?_
 show _=_
 cases l.all (a4l c)<;>rfl
theorem b4z (k:Int):evF (pgL fx F) d3l [i64 k] H=some (boo (a4b k),H):=by
 refine a1p (d5o (F:=F)) rfl rfl ?_ H
 by_cases h1:1<=k
 ·skip
  by_cases h2:k<=7
  ·skip
   repeat' (first|refine run ⟨?_⟩|fail)
   try first|refine a0m (decide_eq_true h1) ?_|refine b2m (decide_eq_true h1) ?_|refine a4q (decide_eq_true h1) ?_
   repeat' (first|refine run ⟨?_⟩|fail)
   try first|refine a0m (decide_eq_true h2) ?_|refine b2m (decide_eq_true h2) ?_|refine a4q (decide_eq_true h2) ?_
   repeat' (first|refine run ⟨?_⟩|fail)
   show _=_
   simp[oneOf,a4b, *]
  ·skip
   cases h3:a3x k with
   |true=>
    repeat' (first|refine run ⟨?_⟩|fail)
    try first|refine a0m (decide_eq_true h1) ?_|refine b2m (decide_eq_true h1) ?_|refine a4q (decide_eq_true h1) ?_
    repeat' (first|refine run ⟨?_⟩|fail)
    try first|refine a0j (decide_eq_false h2) ?_|refine a7v (decide_eq_false h2) ?_|refine a3t (decide_eq_false h2) ?_
    repeat' (first|refine run ⟨?_⟩|fail)
    try refine ca (a2y _ _) ?_
    repeat' (first|refine run ⟨?_⟩|fail)
    try first|refine a0m h3 ?_|refine b2m h3 ?_|refine a4q h3 ?_
    repeat' (first|refine run ⟨?_⟩|fail)
    show _=_
    simp[oneOf,a4b, *]
   |false=>
    cases h4:e7i k with
    |true=>
     repeat' (first|refine run ⟨?_⟩|fail)
     try first|refine a0m (decide_eq_true h1) ?_|refine b2m (decide_eq_true h1) ?_|refine a4q (decide_eq_true h1) ?_
     repeat' (first|refine run ⟨?_⟩|fail)
     try first|refine a0j (decide_eq_false h2) ?_|refine a7v (decide_eq_false h2) ?_|refine a3t (decide_eq_false h2) ?_
     repeat' (first|refine run ⟨?_⟩|fail)
     try refine ca (a2y _ _) ?_
     repeat' (first|refine run ⟨?_⟩|fail)
     try first|refine a0j h3 ?_|refine a7v h3 ?_|refine a3t h3 ?_
     repeat' (first|refine run ⟨?_⟩|fail)
     try refine ca (a4k _ _) ?_
     repeat' (first|refine run ⟨?_⟩|fail)
     try first|refine a0m h4 ?_|refine b2m h4 ?_|refine a4q h4 ?_
     repeat' (first|refine run ⟨?_⟩|fail)
     show _=_
     simp[oneOf,a4b, *]
    |false=>
     cases h5:f3s k with
     |true=>
      repeat' (first|refine run ⟨?_⟩|fail)
      try first|refine a0m (decide_eq_true h1) ?_|refine b2m (decide_eq_true h1) ?_|refine a4q (decide_eq_true h1) ?_
      repeat' (first|refine run ⟨?_⟩|fail)
      try first|refine a0j (decide_eq_false h2) ?_|refine a7v (decide_eq_false h2) ?_|refine a3t (decide_eq_false h2) ?_
      repeat' (first|refine run ⟨?_⟩|fail)
      try refine ca (a2y _ _) ?_
      repeat' (first|refine run ⟨?_⟩|fail)
      try first|refine a0j h3 ?_|refine a7v h3 ?_|refine a3t h3 ?_
      repeat' (first|refine run ⟨?_⟩|fail)
      try refine ca (a4k _ _) ?_
      repeat' (first|refine run ⟨?_⟩|fail)
      try first|refine a0j h4 ?_|refine a7v h4 ?_|refine a3t h4 ?_
      repeat' (first|refine run ⟨?_⟩|fail)
      try refine ca (a2s _ _) ?_
      repeat' (first|refine run ⟨?_⟩|fail)
      try first|refine a0m h5 ?_|refine b2m h5 ?_|refine a4q h5 ?_
      repeat' (first|refine run ⟨?_⟩|fail)
      show _=_
      simp[oneOf,a4b, *]
     |false=>
      cases h6:d7p k with
      |true=>
       repeat' (first|refine run ⟨?_⟩|fail)
       try first|refine a0m (decide_eq_true h1) ?_|refine b2m (decide_eq_true h1) ?_|refine a4q (decide_eq_true h1) ?_
       repeat' (first|refine run ⟨?_⟩|fail)
       try first|refine a0j (decide_eq_false h2) ?_|refine a7v (decide_eq_false h2) ?_|refine a3t (decide_eq_false h2) ?_
       repeat' (first|refine run ⟨?_⟩|fail)
       try refine ca (a2y _ _) ?_
       repeat' (first|refine run ⟨?_⟩|fail)
       try first|refine a0j h3 ?_|refine a7v h3 ?_|refine a3t h3 ?_
       repeat' (first|refine run ⟨?_⟩|fail)
       try refine ca (a4k _ _) ?_
       repeat' (first|refine run ⟨?_⟩|fail)
       try first|refine a0j h4 ?_|refine a7v h4 ?_|refine a3t h4 ?_
       repeat' (first|refine run ⟨?_⟩|fail)
       try refine ca (a2s _ _) ?_
       repeat' (first|refine run ⟨?_⟩|fail)
       try first|refine a0j h5 ?_|refine a7v h5 ?_|refine a3t h5 ?_
       repeat' (first|refine run ⟨?_⟩|fail)
       try refine ca (a8y _ _) ?_
       repeat' (first|refine run ⟨?_⟩|fail)
       try first|refine a0m h6 ?_|refine b2m h6 ?_|refine a4q h6 ?_
       repeat' (first|refine run ⟨?_⟩|fail)
       show _=_
       simp[oneOf,a4b, *]
      |false=>
       by_cases h7:k=36
       ·skip
        repeat' (first|refine run ⟨?_⟩|fail)
        try first|refine a0m (decide_eq_true h1) ?_|refine b2m (decide_eq_true h1) ?_|refine a4q (decide_eq_true h1) ?_
        repeat' (first|refine run ⟨?_⟩|fail)
        try first|refine a0j (decide_eq_false h2) ?_|refine a7v (decide_eq_false h2) ?_|refine a3t (decide_eq_false h2) ?_
        repeat' (first|refine run ⟨?_⟩|fail)
        try refine ca (a2y _ _) ?_
        repeat' (first|refine run ⟨?_⟩|fail)
        try first|refine a0j h3 ?_|refine a7v h3 ?_|refine a3t h3 ?_
        repeat' (first|refine run ⟨?_⟩|fail)
        try refine ca (a4k _ _) ?_
        repeat' (first|refine run ⟨?_⟩|fail)
        try first|refine a0j h4 ?_|refine a7v h4 ?_|refine a3t h4 ?_
        repeat' (first|refine run ⟨?_⟩|fail)
        try refine ca (a2s _ _) ?_
        repeat' (first|refine run ⟨?_⟩|fail)
        try first|refine a0j h5 ?_|refine a7v h5 ?_|refine a3t h5 ?_
        repeat' (first|refine run ⟨?_⟩|fail)
        try refine ca (a8y _ _) ?_
        repeat' (first|refine run ⟨?_⟩|fail)
        try first|refine a0j h6 ?_|refine a7v h6 ?_|refine a3t h6 ?_
        repeat' (first|refine run ⟨?_⟩|fail)
        try first|refine a0m (decide_eq_true h7) ?_|refine b2m (decide_eq_true h7) ?_|refine a4q (decide_eq_true h7) ?_
        repeat' (first|refine run ⟨?_⟩|fail)
        show _=_
        simp[oneOf,a4b, *]
       ·skip
        repeat' (first|refine run ⟨?_⟩|fail)
        try first|refine a0m (decide_eq_true h1) ?_|refine b2m (decide_eq_true h1) ?_|refine a4q (decide_eq_true h1) ?_
        repeat' (first|refine run ⟨?_⟩|fail)
        try first|refine a0j (decide_eq_false h2) ?_|refine a7v (decide_eq_false h2) ?_|refine a3t (decide_eq_false h2) ?_
        repeat' (first|refine run ⟨?_⟩|fail)
        try refine ca (a2y _ _) ?_
        repeat' (first|refine run ⟨?_⟩|fail)
        try first|refine a0j h3 ?_|refine a7v h3 ?_|refine a3t h3 ?_
        repeat' (first|refine run ⟨?_⟩|fail)
        try refine ca (a4k _ _) ?_
        repeat' (first|refine run ⟨?_⟩|fail)
        try first|refine a0j h4 ?_|refine a7v h4 ?_|refine a3t h4 ?_
        repeat' (first|refine run ⟨?_⟩|fail)
        try refine ca (a2s _ _) ?_
        repeat' (first|refine run ⟨?_⟩|fail)
        try first|refine a0j h5 ?_|refine a7v h5 ?_|refine a3t h5 ?_
        repeat' (first|refine run ⟨?_⟩|fail)
        try refine ca (a8y _ _) ?_
        repeat' (first|refine run ⟨?_⟩|fail)
        try first|refine a0j h6 ?_|refine a7v h6 ?_|refine a3t h6 ?_
        repeat' (first|refine run ⟨?_⟩|fail)
        try first|refine a0j (decide_eq_false h7) ?_|refine a7v (decide_eq_false h7) ?_|refine a3t (decide_eq_false h7) ?_
        repeat' (first|refine run ⟨?_⟩|fail)
        show _=_
        simp[oneOf,a4b, *]
 ·skip
  cases h8:a3x k with
  |true=>
   repeat' (first|refine run ⟨?_⟩|fail)
   try first|refine a0j (decide_eq_false h1) ?_|refine a7v (decide_eq_false h1) ?_|refine a3t (decide_eq_false h1) ?_
   repeat' (first|refine run ⟨?_⟩|fail)
   try refine ca (a2y _ _) ?_
   repeat' (first|refine run ⟨?_⟩|fail)
   try first|refine a0m h8 ?_|refine b2m h8 ?_|refine a4q h8 ?_
   repeat' (first|refine run ⟨?_⟩|fail)
   show _=_
   simp[oneOf,a4b, *]
  |false=>
   cases h9:e7i k with
   |true=>
    repeat' (first|refine run ⟨?_⟩|fail)
    try first|refine a0j (decide_eq_false h1) ?_|refine a7v (decide_eq_false h1) ?_|refine a3t (decide_eq_false h1) ?_
    repeat' (first|refine run ⟨?_⟩|fail)
    try refine ca (a2y _ _) ?_
    repeat' (first|refine run ⟨?_⟩|fail)
    try first|refine a0j h8 ?_|refine a7v h8 ?_|refine a3t h8 ?_
    repeat' (first|refine run ⟨?_⟩|fail)
    try refine ca (a4k _ _) ?_
    repeat' (first|refine run ⟨?_⟩|fail)
    try first|refine a0m h9 ?_|refine b2m h9 ?_|refine a4q h9 ?_
    repeat' (first|refine run ⟨?_⟩|fail)
    show _=_
    simp[oneOf,a4b, *]
   |false=>
    cases h10:f3s k with
    |true=>
     repeat' (first|refine run ⟨?_⟩|fail)
     try first|refine a0j (decide_eq_false h1) ?_|refine a7v (decide_eq_false h1) ?_|refine a3t (decide_eq_false h1) ?_
     repeat' (first|refine run ⟨?_⟩|fail)
     try refine ca (a2y _ _) ?_
     repeat' (first|refine run ⟨?_⟩|fail)
     try first|refine a0j h8 ?_|refine a7v h8 ?_|refine a3t h8 ?_
     repeat' (first|refine run ⟨?_⟩|fail)
     try refine ca (a4k _ _) ?_
     repeat' (first|refine run ⟨?_⟩|fail)
     try first|refine a0j h9 ?_|refine a7v h9 ?_|refine a3t h9 ?_
     repeat' (first|refine run ⟨?_⟩|fail)
     try refine ca (a2s _ _) ?_
     repeat' (first|refine run ⟨?_⟩|fail)
     try first|refine a0m h10 ?_|refine b2m h10 ?_|refine a4q h10 ?_
     repeat' (first|refine run ⟨?_⟩|fail)
     show _=_
     simp[oneOf,a4b, *]
    |false=>
     cases h11:d7p k with
     |true=>
      repeat' (first|refine run ⟨?_⟩|fail)
      try first|refine a0j (decide_eq_false h1) ?_|refine a7v (decide_eq_false h1) ?_|refine a3t (decide_eq_false h1) ?_
      repeat' (first|refine run ⟨?_⟩|fail)
      try refine ca (a2y _ _) ?_
      repeat' (first|refine run ⟨?_⟩|fail)
      try first|refine a0j h8 ?_|refine a7v h8 ?_|refine a3t h8 ?_
      repeat' (first|refine run ⟨?_⟩|fail)
      try refine ca (a4k _ _) ?_
      repeat' (first|refine run ⟨?_⟩|fail)
      try first|refine a0j h9 ?_|refine a7v h9 ?_|refine a3t h9 ?_
      repeat' (first|refine run ⟨?_⟩|fail)
      try refine ca (a2s _ _) ?_
      repeat' (first|refine run ⟨?_⟩|fail)
      try first|refine a0j h10 ?_|refine a7v h10 ?_|refine a3t h10 ?_
      repeat' (first|refine run ⟨?_⟩|fail)
      try refine ca (a8y _ _) ?_
      repeat' (first|refine run ⟨?_⟩|fail)
      try first|refine a0m h11 ?_|refine b2m h11 ?_|refine a4q h11 ?_
      repeat' (first|refine run ⟨?_⟩|fail)
      show _=_
      simp[oneOf,a4b, *]
     |false=>
      by_cases h12:k=36
      ·skip
       repeat' (first|refine run ⟨?_⟩|fail)
       try first|refine a0j (decide_eq_false h1) ?_|refine a7v (decide_eq_false h1) ?_|refine a3t (decide_eq_false h1) ?_
       repeat' (first|refine run ⟨?_⟩|fail)
       try refine ca (a2y _ _) ?_
       repeat' (first|refine run ⟨?_⟩|fail)
       try first|refine a0j h8 ?_|refine a7v h8 ?_|refine a3t h8 ?_
       repeat' (first|refine run ⟨?_⟩|fail)
       try refine ca (a4k _ _) ?_
       repeat' (first|refine run ⟨?_⟩|fail)
       try first|refine a0j h9 ?_|refine a7v h9 ?_|refine a3t h9 ?_
       repeat' (first|refine run ⟨?_⟩|fail)
       try refine ca (a2s _ _) ?_
       repeat' (first|refine run ⟨?_⟩|fail)
       try first|refine a0j h10 ?_|refine a7v h10 ?_|refine a3t h10 ?_
       repeat' (first|refine run ⟨?_⟩|fail)
       try refine ca (a8y _ _) ?_
       repeat' (first|refine run ⟨?_⟩|fail)
       try first|refine a0j h11 ?_|refine a7v h11 ?_|refine a3t h11 ?_
       repeat' (first|refine run ⟨?_⟩|fail)
       try first|refine a0m (decide_eq_true h12) ?_|refine b2m (decide_eq_true h12) ?_|refine a4q (decide_eq_true h12) ?_
       repeat' (first|refine run ⟨?_⟩|fail)
       show _=_
       simp[oneOf,a4b, *]
      ·skip
       repeat' (first|refine run ⟨?_⟩|fail)
       try first|refine a0j (decide_eq_false h1) ?_|refine a7v (decide_eq_false h1) ?_|refine a3t (decide_eq_false h1) ?_
       repeat' (first|refine run ⟨?_⟩|fail)
       try refine ca (a2y _ _) ?_
       repeat' (first|refine run ⟨?_⟩|fail)
       try first|refine a0j h8 ?_|refine a7v h8 ?_|refine a3t h8 ?_
       repeat' (first|refine run ⟨?_⟩|fail)
       try refine ca (a4k _ _) ?_
       repeat' (first|refine run ⟨?_⟩|fail)
       try first|refine a0j h9 ?_|refine a7v h9 ?_|refine a3t h9 ?_
       repeat' (first|refine run ⟨?_⟩|fail)
       try refine ca (a2s _ _) ?_
       repeat' (first|refine run ⟨?_⟩|fail)
       try first|refine a0j h10 ?_|refine a7v h10 ?_|refine a3t h10 ?_
       repeat' (first|refine run ⟨?_⟩|fail)
       try refine ca (a8y _ _) ?_
       repeat' (first|refine run ⟨?_⟩|fail)
       try first|refine a0j h11 ?_|refine a7v h11 ?_|refine a3t h11 ?_
       repeat' (first|refine run ⟨?_⟩|fail)
       try first|refine a0j (decide_eq_false h12) ?_|refine a7v (decide_eq_false h12) ?_|refine a3t (decide_eq_false h12) ?_
       repeat' (first|refine run ⟨?_⟩|fail)
       show _=_
       simp[oneOf,a4b, *]
theorem g0t (s:List UInt8):evF (pgL fx F) d9s [str s] H=some (boo (decide (s∈a6h)),H):=by
 refine a1p (e0f (F:=F)) rfl rfl ?_ H
 repeat' refine And.intro (fun h=>?_) (fun h=>?_)
 all_goals show _=_
 all_goals simp only[decide_eq_true_eq,decide_eq_false_iff_not]at*
 all_goals simp[oneOf,a6h, *]
end
end Go.Vm.Itr
namespace Go.Vm.Itr
open Go.Vm.Ite
open Go.Vm.Tp
open Go.Vm.Lex (a3c)
section
variable {fx:Nat->Option Obj} {F:Nat->Option a0t} (H:Hp)
set_option maxHeartbeats 2000000 in
theorem f5d (x:Nd):evF (pgL fx F) d6q [ndV x] H=some (str (c8g x.k x.v),H):=by
 obtain⟨k,t,v,kids,f,e⟩:=x
 refine a1p (d6m (F:=F)) rfl rfl ?_ H
 by_cases c1:k=1
 ·subst c1
  repeat' (first|refine run ⟨?_⟩|fail)
  exact rfl
 by_cases c2:k=2
 ·subst c2
  repeat' (first|refine run ⟨?_⟩|fail)
  exact rfl
 by_cases c3:k=3
 ·subst c3
  repeat' (first|refine run ⟨?_⟩|fail)
  exact rfl
 by_cases c4:k=4
 ·subst c4
  repeat' (first|refine run ⟨?_⟩|fail)
  exact rfl
 by_cases c5:k=5
 ·subst c5
  repeat' (first|refine run ⟨?_⟩|fail)
  exact rfl
 by_cases c7:k=7
 ·subst c7
  repeat' (first|refine run ⟨?_⟩|fail)
  exact rfl
 by_cases c14:k=14
 ·subst c14
  repeat' (first|refine run ⟨?_⟩|fail)
  exact rfl
 by_cases c15:k=15
 ·subst c15
  repeat' (first|refine run ⟨?_⟩|fail)
  exact rfl
 by_cases c16:k=16
 ·subst c16
  repeat' (first|refine run ⟨?_⟩|fail)
  exact rfl
 by_cases c6:k=6
 ·subst c6
  repeat' (first|refine run ⟨?_⟩|fail)
  exact rfl
 by_cases c21:k=21
 ·subst c21
  repeat' (first|refine run ⟨?_⟩|fail)
  exact rfl
 by_cases c23:k=23
 ·subst c23
  repeat' (first|refine run ⟨?_⟩|fail)
  exact rfl
 by_cases c38:k=38
 ·subst c38
  repeat' (first|refine run ⟨?_⟩|fail)
  exact rfl
 by_cases c24:k=24
 ·subst c24
  repeat' (first|refine run ⟨?_⟩|fail)
  exact rfl
 by_cases c25:k=25
 ·subst c25
  repeat' (first|refine run ⟨?_⟩|fail)
  exact rfl
 by_cases c37:k=37
 ·subst c37
  repeat' (first|refine run ⟨?_⟩|fail)
  exact rfl
 by_cases c34:k=34
 ·subst c34
  repeat' (first|refine run ⟨?_⟩|fail)
  exact rfl
 by_cases c35:k=35
 ·subst c35
  repeat' (first|refine run ⟨?_⟩|fail)
  exact rfl
 by_cases c22:k=22
 ·subst c22
  repeat' (first|refine run ⟨?_⟩|fail)
  exact rfl
 by_cases c36:k=36
 ·subst c36
  repeat' (first|refine run ⟨?_⟩|fail)
  exact rfl
 by_cases c41:k=41
 ·subst c41
  repeat' (first|refine run ⟨?_⟩|fail)
  exact rfl
 by_cases c39:k=39
 ·subst c39
  repeat' (first|refine run ⟨?_⟩|fail)
  exact rfl
 by_cases c40:k=40
 ·subst c40
  repeat' (first|refine run ⟨?_⟩|fail)
  exact rfl
 by_cases c42:k=42
 ·subst c42
  repeat' (first|refine run ⟨?_⟩|fail)
  exact rfl
 by_cases c44:k=44
 ·subst c44
  repeat' (first|refine run ⟨?_⟩|fail)
  exact rfl
 by_cases c43:k=43
 ·subst c43
  repeat' (first|refine run ⟨?_⟩|fail)
  exact rfl
 by_cases c45:k=45
 ·subst c45
  repeat' (first|refine run ⟨?_⟩|fail)
  exact rfl
 by_cases c46:k=46
 ·subst c46
  repeat' (first|refine run ⟨?_⟩|fail)
  exact rfl
 by_cases c47:k=47
 ·subst c47
  repeat' (first|refine run ⟨?_⟩|fail)
  exact rfl
 by_cases c54:k=54
 ·subst c54
  repeat' (first|refine run ⟨?_⟩|fail)
  exact rfl
 by_cases c20:k=20
 ·subst c20
  by_cases hv:v=1
  ·subst hv
   repeat' (first|refine run ⟨?_⟩|fail)
   exact rfl
  rw[show c8g 20 v=[42,115] by simp[c8g,a0i,shapeOf,hv]]
  repeat' (first|refine run ⟨?_⟩|fail)
  exact rfl
 have e0:c8g k v=[]:=by
  unfold c8g a0i
  simp only[c1,c2,c3,c4,c5,c7,c14,c15,c16,c6,c21,c23,c38,c24,c25,c37,c34,c35,c22,c36,c41,c39,c40,c42,c44,c43,c45,c46,c47,c54,c20,if_false,or_self]
  rfl
 rw[e0]
 repeat' (first|refine run ⟨?_⟩|fail)
 exact rfl
end
end Go.Vm.Itr
namespace Go.Vm.Itr
open Go.Vm.Ite
open Go.Vm.Tp
open Go.Vm.Lex (a3c)
section
variable {fx:Nat->Option Obj} {F:Nat->Option a0t} [HC F] (H:Hp)
theorem h1y (s:List UInt8) (c:UInt8):evF (pgL fx F) b3g [str s,u8 c] H=some (i64 (Lib.indexByte s c),H):=by
 rw[c2u (c3u (F:=F))]
 show some (V.d (D.int .i64 (Lib.indexByte s ((c.toNat:Int)).toNat.toUInt8)),H)=_
 simp
theorem h0n (s:List UInt8) (hs:s.length<=1048576):evF (pgL fx F) d4u [str s,str [58,58]] H=some (.tup [str (c3f s).1,str (c3f s).2.1,boo (c3f s).2.2],H):=by
 rw[c2u (e7q (F:=F))]
 exact if_pos om
theorem f7f (s:List UInt8):(c3f s).1.length<=s.length/\(c3f s).2.1.length<=s.length:=by
 unfold c3f Lib.cut
 split<;>simp<;>omega
theorem h8v {n:Nat} (h:n<=1048576):n<=maxLen:=by unfold maxLen;omega
theorem b8r (x:Nd) (hx:x.t.length<=1048576):evF (pgL fx F) d9c [ndV x] H=some (boo (nmB x.k x.t),H):=by
 obtain⟨k,t,v,kids,f,e⟩:=x
 simp only at hx⊢
 refine a1p (e0b (F:=F)) rfl rfl ?_ H
 by_cases hA:k=2\/k=3\/k=4\/k=5\/k=6\/k=7\/k=13\/k=21\/k=33\/k=34\/k=35\/k=36\/k=41\/k=51
 ·have e0:nmB k t=a3c t:=by unfold nmB;rw[if_pos hA]
  rw[e0]
  rcases hA with rfl|rfl|rfl|rfl|rfl|rfl|rfl|rfl|rfl|rfl|rfl|rfl|rfl|rfl
  all_goals
   repeat' (first|refine run ⟨?_⟩|refine ca (d8o _ _ (h8v hx)) ?_|fail)
   exact rfl
 have e1:nmB k t=if k=37\/k=54 then(c3f t).2.2 && a3c (c3f t).1 && a3c (c3f t).2.1 else if k=38 then decide (t∈a6h) else decide (t=[]):=by unfold nmB;exact if_neg hA
 rw[e1]
 clear e1
 simp only[not_or]at hA
 obtain⟨a2,a3,a4,a5,a6,a7,a13,a21,a33,a34,a35,a36,a41,a51⟩:=hA
 try refine a0j (decide_eq_false a2) ?_
 repeat' (first|refine run ⟨?_⟩|fail)
 try refine a0j (decide_eq_false a3) ?_
 repeat' (first|refine run ⟨?_⟩|fail)
 try refine a0j (decide_eq_false a4) ?_
 repeat' (first|refine run ⟨?_⟩|fail)
 try refine a0j (decide_eq_false a5) ?_
 repeat' (first|refine run ⟨?_⟩|fail)
 try refine a0j (decide_eq_false a6) ?_
 repeat' (first|refine run ⟨?_⟩|fail)
 try refine a0j (decide_eq_false a7) ?_
 repeat' (first|refine run ⟨?_⟩|fail)
 try refine a0j (decide_eq_false a13) ?_
 repeat' (first|refine run ⟨?_⟩|fail)
 try refine a0j (decide_eq_false a21) ?_
 repeat' (first|refine run ⟨?_⟩|fail)
 try refine a0j (decide_eq_false a33) ?_
 repeat' (first|refine run ⟨?_⟩|fail)
 try refine a0j (decide_eq_false a34) ?_
 repeat' (first|refine run ⟨?_⟩|fail)
 try refine a0j (decide_eq_false a35) ?_
 repeat' (first|refine run ⟨?_⟩|fail)
 try refine a0j (decide_eq_false a36) ?_
 repeat' (first|refine run ⟨?_⟩|fail)
 try refine a0j (decide_eq_false a41) ?_
 repeat' (first|refine run ⟨?_⟩|fail)
 try refine a0j (decide_eq_false a51) ?_
 repeat' (first|refine run ⟨?_⟩|fail)
 have hc:=f7f t
 by_cases hB:k=37\/k=54
 ·rw[if_pos hB]
  have st:k=37\/k=54->True:=fun _=>trivial
  rcases hB with rfl|rfl
  all_goals
   repeat' (first|refine run ⟨?_⟩|refine ca (h0n _ _ hx) ?_|fail)
   cases h1:(c3f t).2.2 with
   |false=>
    repeat' (first|refine run ⟨?_⟩|fail)
    exact rfl
   |true=>
    repeat' (first|refine run ⟨?_⟩|refine ca (d8o _ _ (h8v (Nat.le_trans hc.1 hx))) ?_|fail)
    cases h2:a3c (c3f t).1 with
    |false=>
     repeat' (first|refine run ⟨?_⟩|fail)
     exact rfl
    |true=>
     repeat' (first|refine run ⟨?_⟩|refine ca (d8o _ _ (h8v (Nat.le_trans hc.2 hx))) ?_|fail)
     exact rfl
 rw[if_neg hB]
 simp only[not_or]at hB
 try refine a0j (decide_eq_false hB.1) ?_
 repeat' (first|refine run ⟨?_⟩|fail)
 try refine a0j (decide_eq_false hB.2) ?_
 repeat' (first|refine run ⟨?_⟩|fail)
 by_cases hC:k=38
 ·subst hC
  repeat' (first|refine run ⟨?_⟩|refine ca (g0t _ _) ?_|fail)
  exact rfl
 rw[if_neg hC]
 try refine a0j (decide_eq_false hC) ?_
 repeat' (first|refine run ⟨?_⟩|fail)
 exact rfl
theorem e4e (x:Nd) (p:Int):evF (pgL fx F) e4p [ndV x,i64 p] H=some (boo (b7m x.k x.v p),H):=by
 have _u:=(inferInstance:HC F)
 obtain⟨k,t,v,kids,f,e⟩:=x
 simp only
 refine a1p (e6j (F:=F)) rfl rfl ?_ H
 by_cases h2:k=2
 ·subst h2
  repeat' (first|refine run ⟨?_⟩|fail)
  exact rfl
 try refine a0j (decide_eq_false h2) ?_
 repeat' (first|refine run ⟨?_⟩|fail)
 by_cases hA:k=7\/k=20\/k=21\/k=31\/k=53\/k=43
 ·have e0:b7m k v p=(decide (v=0)||decide (v=1)):=by unfold b7m;rw[if_neg h2,if_pos hA]
  rw[e0]
  rcases hA with rfl|rfl|rfl|rfl|rfl|rfl
  all_goals
   by_cases h0:v=0
   ·subst h0
    repeat' (first|refine run ⟨?_⟩|fail)
    exact rfl
   ·repeat' (first|refine run ⟨?_⟩|fail)
    try refine a3t (decide_eq_false h0) ?_
    repeat' (first|refine run ⟨?_⟩|fail)
    show _=_
    rw[decide_eq_false h0];rfl
 have e1:b7m k v p=(if k=30 then decide (0<=v) else if k=52 then decide (-9223372036854775808 < v) else decide (v=0)):=by unfold b7m;rw[if_neg h2,if_neg hA]
 rw[e1]
 simp only[not_or]at hA
 obtain⟨a1,a2,a3,a4,a5,a6⟩:=hA
 try refine a0j (decide_eq_false a1) ?_
 repeat' (first|refine run ⟨?_⟩|fail)
 try refine a0j (decide_eq_false a2) ?_
 repeat' (first|refine run ⟨?_⟩|fail)
 try refine a0j (decide_eq_false a3) ?_
 repeat' (first|refine run ⟨?_⟩|fail)
 try refine a0j (decide_eq_false a4) ?_
 repeat' (first|refine run ⟨?_⟩|fail)
 try refine a0j (decide_eq_false a5) ?_
 repeat' (first|refine run ⟨?_⟩|fail)
 try refine a0j (decide_eq_false a6) ?_
 repeat' (first|refine run ⟨?_⟩|fail)
 by_cases h30:k=30
 ·subst h30
  repeat' (first|refine run ⟨?_⟩|fail)
  exact rfl
 rw[if_neg h30]
 try refine a0j (decide_eq_false h30) ?_
 repeat' (first|refine run ⟨?_⟩|fail)
 by_cases h52:k=52
 ·subst h52
  repeat' (first|refine run ⟨?_⟩|fail)
  exact rfl
 rw[if_neg h52]
 try refine a0j (decide_eq_false h52) ?_
 repeat' (first|refine run ⟨?_⟩|fail)
 exact rfl
end
end Go.Vm.Itr
namespace Go.Vm.Itr
open Go.Vm.Ite
open Go.Vm.Tp
def okS (s:List UInt8):Bool:=s.all (fun c=> !decide (c=42)) && !decide (s.getLast? =some 63) && decide (s.length<=4)
theorem c9h {α:Type} {P:α->Prop} {c:Prop} [Decidable c] {a b:α} (ha:P a) (hb:P b):P (if c then a else b):=by split<;>assumption
def g8z (p:List UInt8×Option UInt8×List UInt8):Prop:=okS p.1=true/\okS p.2.2=true/\(p.2.1=none->p.2.2=[])
theorem f0d (k v:Int):g8z (a0i k v):=by
 unfold a0i
 repeat' refine c9h ?_ ?_
 all_goals exact⟨by decide,by decide,by decide⟩
theorem d2f {s:List UInt8} (h:okS s=true):∀ a,s≠a++[63]:=by
 rintro a rfl
 simp[okS]at h
theorem f0v {s:List UInt8} (h:okS s=true):s.length<=4:=by simp[okS]at h;exact h.2
theorem f9b {s:List UInt8} (h:okS s=true):42∉s:=by
 simp only[okS,Bool.and_eq_true]at h
 intro hm
 have:=List.all_eq_true.1 h.1.1 42 hm
 simp at this
theorem g7j {s:List UInt8} (h:42∉s):Lib.indexByte s 42= -1:=by
 induction s with
 |nil=>rfl
 |cons a r ih=>
  simp only[List.mem_cons,not_or]at h
  unfold Lib.indexByte
  rw[ih h.2,if_neg (by simpa using fun e:a=42=>h.1 e.symm)];rfl
theorem h8b (a r:List UInt8) (h:42∉a):Lib.indexByte (a++42::r) 42=a.length:=by
 induction a with
 |nil=>simp[Lib.indexByte]
 |cons b a ih=>
  simp only[List.mem_cons,not_or]at h
  rw[List.cons_append]
  unfold Lib.indexByte
  rw[ih h.2,if_neg (by simpa using fun e:b=42=>h.1 e.symm),if_neg (by simp)]
  simp
section
variable {fx:Nat->Option Obj} {F:Nat->Option a0t} [HC F] (H:Hp)
set_option maxHeartbeats 2000000 in
theorem g2w (x:Nd) (ks:List Int) (hk:ks.length<=1048576):evF (pgL fx F) e0n [ndV x,ints ks] H=some (boo (a0q x.k x.v ks),H):=by
 refine a1p (d8u (F:=F)) rfl rfl ?_ H
 have hsh:=fun H=>f5d (fx:=fx) (F:=F) H x
 obtain⟨o1,o2,o3⟩:=f0d x.k x.v
 unfold a0q
 unfold c8g at hsh
 generalize a0i x.k x.v=p at*
 obtain⟨a,m,b⟩:=p
 simp only at o1 o2 o3⊢
 refine ca (hsh _) ?_
 have hal:=f0v o1
 have hbl:=f0v o2
 cases m with
 |none=>
  have hb:=o3 rfl
  refine ca (h1y _ _ 42) ?_
  simp only[shapeOf]
  rw[g7j (f9b o1)]
  repeat' (first|refine run ⟨?_⟩|fail)
  refine ca (b4j _ a ks (Nat.le_refl _) (d2f o1) _) ?_
  exact rfl
 |some c=>
  simp only[shapeOf]
  refine ca (h1y _ _ 42) ?_
  rw[h8b _ _ (f9b o1)]
  refine a0j (decide_eq_false om) ?_
  have hsl:(a++42::c::b).length=a.length+b.length+2:=by simp;omega
  have hr:IntKind.i64.wrap (IntKind.i64.wrap (((a++42::c::b).length:Int) - (a.length:Int)) - 2)=(b.length:Int):=by
   rw[hsl,a0w (n:=((a.length+b.length+2:Nat):Int) - (a.length:Int)) om,a0w om];omega
  have hsum:IntKind.i64.wrap ((a.length:Int)+(b.length:Int))=((a.length+b.length:Nat):Int):=by rw[a0w om];omega
  by_cases hlt:ks.length < a.length+b.length
  ·refine a0m (decide_eq_true (by rw[hr,hsum,List.length_map];omega)) ?_
   show _=_
   rw[decide_eq_false (by omega:¬ a.length+b.length<=ks.length)];rfl
  refine a0j (decide_eq_false (by rw[hr,hsum,List.length_map];omega)) ?_
  rw[hr]
  have he:IntKind.i64.wrap (((ks.map (D.int .i64)).length:Int) - (b.length:Int))=((ks.length - b.length:Nat):Int):=by rw[List.length_map,a0w om];omega
  have e1:(a++42::c::b).take a.length=a:=by simp
  have e2:(a++42::c::b).drop (a.length+2)=b:=by rw[List.drop_append];simp
  rw[decide_eq_true (by omega:a.length+b.length<=ks.length),Bool.true_and]
  refine And.intro om ?_
  refine And.intro ⟨om,by simp⟩ ?_
  refine And.intro om ?_
  refine And.intro ⟨om,by simp;omega,rfl⟩ ?_
  rw[show List.drop 0 (List.take (Int.toNat (a.length:Int)) (a++42::c::b))=a from by simp,show List.drop 0 (List.take (Int.toNat (a.length:Int)) (ks.map (D.int .i64)))=(ks.take a.length).map (D.int .i64)from by simp]
  refine ca (b4j _ a (ks.take a.length) (Nat.le_refl _) (d2f o1) _) ?_
  repeat' (first|refine run ⟨?_⟩|fail)
  cases hk1:a0k a (ks.take a.length)with
  |false=>
   repeat' (first|refine run ⟨?_⟩|fail)
   show _=_
   simp[oneOf]
  |true=>
   repeat' (first|refine run ⟨?_⟩|fail)
   refine a0a (d:=c) ⟨by rw[a0w om];omega,by rw[a0w om];rw[show(Int.toNat ((a.length:Int)+1))=a.length+1 by omega];rw[List.getElem?_append_right om];simp⟩ ?_
   refine And.intro om ?_
   refine And.intro (by rw[he];omega) ?_
   refine And.intro ⟨by rw[he];omega,by rw[he,List.length_map];omega,by rw[d1g];rfl⟩ ?_
   rw[he]
   rw[show List.drop (Int.toNat (a.length:Int)) (List.take (Int.toNat ((ks.length - b.length:Nat):Int)) (ks.map (D.int .i64)))=((ks.take (ks.length - b.length)).drop a.length).map (D.int .i64)from by simp]
   refine ca (g8p _ ((ks.take (ks.length - b.length)).drop a.length) c (by simp;omega)) ?_
   repeat' (first|refine run ⟨?_⟩|fail)
   cases hk2:((ks.take (ks.length - b.length)).drop a.length).all (a4l c)with
   |false=>
    repeat' (first|refine run ⟨?_⟩|fail)
    show _=_
    simp[oneOf]
   |true=>
    repeat' (first|refine run ⟨?_⟩|fail)
    refine And.intro (by rw[a0w om];omega) ?_
    refine And.intro ⟨by rw[a0w om,hsl];omega,Nat.le_refl _⟩ ?_
    refine And.intro om ?_
    refine And.intro ⟨by simp,Nat.le_refl _,by rw[d1g];rfl⟩ ?_
    rw[a0w (n:=(a.length:Int)+2) om]
    rw[show List.drop (Int.toNat ((a.length:Int)+2)) (List.take (a++42::c::b).length (a++42::c::b))=b from by rw[List.take_length,show Int.toNat ((a.length:Int)+2)=a.length+2 by omega,e2]]
    rw[show List.drop (Int.toNat ((ks.length - b.length:Nat):Int)) (List.take (ks.map (D.int .i64)).length (ks.map (D.int .i64)))=(ks.drop (ks.length - b.length)).map (D.int .i64)from by rw[List.take_length];simp]
    refine ca (b4j _ b (ks.drop (ks.length - b.length)) (Nat.le_refl _) (d2f o2) _) ?_
    repeat' (first|refine run ⟨?_⟩|fail)
    show _=_
    simp[oneOf]
end
end Go.Vm.Itr
namespace Go.Vm.Itr
open Go.Vm.Ite
open Go.Vm.Tp
abbrev nd (t:List Nd) (i:Nat):Nd:=t.getD i default
theorem f8k {t:List Nd} {i:Nat} (h:i < t.length):t[i]? =some (nd t i):=by
 rw[List.getElem?_eq_getElem h];simp[nd,h]
theorem d4v {t:List Nd} {i:Nat} (h:i < t.length):nd t i∈t:=List.mem_of_getElem? (f8k h)
theorem g0w {t:List Nd} {i:Nat} (h:i < t.length):(t.map Nd.D)[i]? =some (nd t i).D:=by rw[List.getElem?_map,f8k h];rfl
theorem b0w {t:List Nd} {k:Int} (h0:0<=k) (h:k < t.length):0<=k/\(t.map Nd.D)[k.toNat]? =some (nd t k.toNat).D:=⟨h0,g0w om⟩
def a6n (i:Nat) (k:Int):Bool:=decide (0<=k) && decide (k < i)
theorem e6v {t:List Nd} {i:Nat} (h:(nd t i).kids.all (a6n i)=false):a9x t i=false:=by
 show((nd t i).kids.all (a6n i) && _)=false
 rw[h];rfl
theorem e5c {t:List Nd} {l:List Int} {j:Nat} (h:j < l.length):kinds t (l.take (j+1))=kinds t (l.take j)++[b4e t l[j]]:=by
 unfold kinds
 rw[List.take_add_one,List.getElem?_eq_getElem h,List.map_append];rfl
theorem d8l (ks:List Int) (k:Int):params (ks++[k])=params ks+(if k=7 then 1 else 0):=by
 unfold params
 rw[List.filter_append,List.length_append]
 by_cases h:k=7
 ·simp[h]
 ·simp[h]
theorem f1v (ks:List Int):0<=params ks/\params ks<=ks.length:=by
 unfold params
 have:=List.length_filter_le (fun k=>decide (k=7)) ks
 omega
section
variable {fx:Nat->Option Obj} {F:Nat->Option a0t} [HC F] (H:Hp)
set_option maxHeartbeats 4000000 in
theorem f6m (t:List Nd) (hf:b0r t) (i:Nat) (hi:i < t.length):evF (pgL fx F) d9d [.d (a1r t),i64 i] H=some (boo (a9x t i),H):=by
 refine a1p (d8p (F:=F)) rfl rfl ?_ H
 have htl:=hf.len
 obtain⟨x,hxe⟩:∃ x,x=nd t i:=⟨_,rfl⟩
 have hnb:a9x t i=(x.kids.all (a6n i) && (a4b x.k && nmB x.k x.t && b7m x.k x.v (params (kinds t x.kids)) && decide (0<=x.f) && decide (x.f<=x.e) && a0q x.k x.v (kinds t x.kids))):=by rw[hxe];rfl
 have hx:x∈t:=by rw[hxe];exact d4v hi
 refine a0a (d:=x.D) (by rw[hxe];exact b0w (k:=(i:Int)) om om) ?_
 refine And.intro rfl ?_
 rw[hnb]
 have hkl:=hf.kid x hx
 have htx:=hf.txt x hx
 clear hnb
 refine wp_loop (α:=Nat) (fun j=>x.kids.length - j) (fun j=>[(1,i64 i),(2,.ptr 0 0),(5,.ptr 1 0),(6,.row 2 j),(7,i64 (params (kinds t (x.kids.take j)))),(16,ints x.kids),(17,i64 (x.kids.map (D.int .i64)).length),(18,i64 j)])
   (fun j=>[.box [.d (.sl (t.map Nd.D))],.box [i64 x.k,str x.t,i64 x.v,ints x.kids,i64 x.f,i64 x.e],.row 1 ((kinds t (x.kids.take j)).map (D.int .i64))]) (fun j=>j<=x.kids.length/\(x.kids.take j).all (a6n i)=true) ?_ 0 ⟨om,by simp⟩
 rintro j ⟨hj,hall⟩
 refine And.intro (fun h=>?_) (fun h=>?_)
 ·replace h:=of_decide_eq_true h
  rw[List.length_map]at h
  have hlt:j < x.kids.length:=om
  refine a4r (s:=x.kids.map (D.int .i64)) (by rw[List.length_map];exact hlt) ?_
  rw[List.getElem_map]
  refine And.intro rfl ?_
  have bad:a6n i x.kids[j]=false->x.kids.all (a6n i)=false:=by
   intro hb
   cases hc:x.kids.all (a6n i)with
   |false=>rfl
   |true=>have:=List.all_eq_true.1 hc _ (List.getElem_mem hlt);rw[hb]at this;cases this
  by_cases k0:x.kids[j] < 0
  ·refine a4q (decide_eq_true k0) ?_
   repeat' (first|refine run ⟨?_⟩|fail)
   show _=_
   rw[bad (by unfold a6n;rw[decide_eq_false om];rfl)];rfl
  refine a3t (decide_eq_false k0) ?_
  by_cases k1:(i:Int)<=x.kids[j]
  ·refine a0m (decide_eq_true k1) ?_
   show _=_
   rw[bad (by unfold a6n;rw[decide_eq_false (by omega:¬ x.kids[j] < (i:Int)),Bool.and_false])];rfl
  refine a0j (decide_eq_false k1) ?_
  have hko:a6n i x.kids[j]=true:=by unfold a6n;rw[decide_eq_true om,decide_eq_true om];rfl
  refine a0a (d:=(nd t x.kids[j].toNat).D) (b0w om om) ?_
  refine And.intro rfl ?_
  have hkd:(nd t x.kids[j].toNat).k=b4e t x.kids[j]:=rfl
  have hkt:=e5c (t:=t) hlt
  have hlk:(kinds t (x.kids.take j)).length=j:=by simp[kinds];omega
  have hpl:=f1v (kinds t (x.kids.take j))
  have hps:=d8l (kinds t (x.kids.take j)) (b4e t x.kids[j])
  rw[<-hkt]at hps
  have hnext:(x.kids.take (j+1)).all (a6n i)=true:=d1x hlt hall hko
  refine And.intro ⟨rfl,by decide⟩ ?_
  refine And.intro ⟨rfl,by rw[List.length_map,hlk],by unfold roomy;simp;omega⟩ ?_
  refine a0a (d:=(nd t x.kids[j].toNat).D) (b0w om om) ?_
  refine And.intro rfl ?_
  rw[hkd]
  by_cases k7:b4e t x.kids[j]=7
  ·refine a0m (decide_eq_true k7) ?_
   rw[if_pos k7]at hps
   refine⟨j+1,⟨om,hnext⟩,om,?_,?_⟩
   ·rw[a0w (n:=params _+1) om,a0w om,hps];rfl
   ·rw[hkt,List.map_append];rfl
  ·refine a0j (decide_eq_false k7) ?_
   rw[if_neg k7]at hps
   refine⟨j+1,⟨om,hnext⟩,om,?_,?_⟩
   ·rw[a0w om,hps,Int.add_zero];rfl
   ·rw[hkt,List.map_append];rfl
 ·replace h:=of_decide_eq_false h
  rw[List.length_map]at h
  have hj':j=x.kids.length:=om
  subst hj'
  rw[List.take_length]at hall⊢
  rw[hall,Bool.true_and]
  clear hxe
  have hkl2:(kinds t x.kids).length=x.kids.length:=by simp[kinds]
  cases h1:a4b x.k with
  |true=>
   cases h2:nmB x.k x.t with
   |true=>
    cases h3:b7m x.k x.v (params (kinds t x.kids))with
    |true=>
     by_cases h4:0<=x.f
     ·skip
      by_cases h5:x.f<=x.e
      ·skip
       repeat' (first|refine run ⟨?_⟩|fail)
       try refine ca (b4z _ _) ?_
       repeat' (first|refine run ⟨?_⟩|fail)
       try first|refine a0m h1 ?_|refine b2m h1 ?_|refine a4q h1 ?_
       repeat' (first|refine run ⟨?_⟩|fail)
       try refine ca (b8r _ x htx) ?_
       repeat' (first|refine run ⟨?_⟩|fail)
       try first|refine a0m h2 ?_|refine b2m h2 ?_|refine a4q h2 ?_
       repeat' (first|refine run ⟨?_⟩|fail)
       try refine ca (e4e _ x _) ?_
       repeat' (first|refine run ⟨?_⟩|fail)
       try first|refine a0m h3 ?_|refine b2m h3 ?_|refine a4q h3 ?_
       repeat' (first|refine run ⟨?_⟩|fail)
       try first|refine a0m (decide_eq_true h4) ?_|refine b2m (decide_eq_true h4) ?_|refine a4q (decide_eq_true h4) ?_
       repeat' (first|refine run ⟨?_⟩|fail)
       try first|refine a0m (decide_eq_true h5) ?_|refine b2m (decide_eq_true h5) ?_|refine a4q (decide_eq_true h5) ?_
       repeat' (first|refine run ⟨?_⟩|fail)
       refine And.intro (by rw[List.length_map,hkl2]) ?_
       refine ca (g2w _ x (kinds t x.kids) om) ?_
       show _=_
       simp[oneOf, *]
      ·skip
       repeat' (first|refine run ⟨?_⟩|fail)
       try refine ca (b4z _ _) ?_
       repeat' (first|refine run ⟨?_⟩|fail)
       try first|refine a0m h1 ?_|refine b2m h1 ?_|refine a4q h1 ?_
       repeat' (first|refine run ⟨?_⟩|fail)
       try refine ca (b8r _ x htx) ?_
       repeat' (first|refine run ⟨?_⟩|fail)
       try first|refine a0m h2 ?_|refine b2m h2 ?_|refine a4q h2 ?_
       repeat' (first|refine run ⟨?_⟩|fail)
       try refine ca (e4e _ x _) ?_
       repeat' (first|refine run ⟨?_⟩|fail)
       try first|refine a0m h3 ?_|refine b2m h3 ?_|refine a4q h3 ?_
       repeat' (first|refine run ⟨?_⟩|fail)
       try first|refine a0m (decide_eq_true h4) ?_|refine b2m (decide_eq_true h4) ?_|refine a4q (decide_eq_true h4) ?_
       repeat' (first|refine run ⟨?_⟩|fail)
       try first|refine a0j (decide_eq_false h5) ?_|refine a7v (decide_eq_false h5) ?_|refine a3t (decide_eq_false h5) ?_
       repeat' (first|refine run ⟨?_⟩|fail)
       show _=_
       simp[oneOf, *]
     ·skip
      repeat' (first|refine run ⟨?_⟩|fail)
      try refine ca (b4z _ _) ?_
      repeat' (first|refine run ⟨?_⟩|fail)
      try first|refine a0m h1 ?_|refine b2m h1 ?_|refine a4q h1 ?_
      repeat' (first|refine run ⟨?_⟩|fail)
      try refine ca (b8r _ x htx) ?_
      repeat' (first|refine run ⟨?_⟩|fail)
      try first|refine a0m h2 ?_|refine b2m h2 ?_|refine a4q h2 ?_
      repeat' (first|refine run ⟨?_⟩|fail)
      try refine ca (e4e _ x _) ?_
      repeat' (first|refine run ⟨?_⟩|fail)
      try first|refine a0m h3 ?_|refine b2m h3 ?_|refine a4q h3 ?_
      repeat' (first|refine run ⟨?_⟩|fail)
      try first|refine a0j (decide_eq_false h4) ?_|refine a7v (decide_eq_false h4) ?_|refine a3t (decide_eq_false h4) ?_
      repeat' (first|refine run ⟨?_⟩|fail)
      show _=_
      simp[oneOf, *]
    |false=>
     repeat' (first|refine run ⟨?_⟩|fail)
     try refine ca (b4z _ _) ?_
     repeat' (first|refine run ⟨?_⟩|fail)
     try first|refine a0m h1 ?_|refine b2m h1 ?_|refine a4q h1 ?_
     repeat' (first|refine run ⟨?_⟩|fail)
     try refine ca (b8r _ x htx) ?_
     repeat' (first|refine run ⟨?_⟩|fail)
     try first|refine a0m h2 ?_|refine b2m h2 ?_|refine a4q h2 ?_
     repeat' (first|refine run ⟨?_⟩|fail)
     try refine ca (e4e _ x _) ?_
     repeat' (first|refine run ⟨?_⟩|fail)
     try first|refine a0j h3 ?_|refine a7v h3 ?_|refine a3t h3 ?_
     repeat' (first|refine run ⟨?_⟩|fail)
     show _=_
     simp[oneOf, *]
   |false=>
    repeat' (first|refine run ⟨?_⟩|fail)
    try refine ca (b4z _ _) ?_
    repeat' (first|refine run ⟨?_⟩|fail)
    try first|refine a0m h1 ?_|refine b2m h1 ?_|refine a4q h1 ?_
    repeat' (first|refine run ⟨?_⟩|fail)
    try refine ca (b8r _ x htx) ?_
    repeat' (first|refine run ⟨?_⟩|fail)
    try first|refine a0j h2 ?_|refine a7v h2 ?_|refine a3t h2 ?_
    repeat' (first|refine run ⟨?_⟩|fail)
    show _=_
    simp[oneOf, *]
  |false=>
   repeat' (first|refine run ⟨?_⟩|fail)
   try refine ca (b4z _ _) ?_
   repeat' (first|refine run ⟨?_⟩|fail)
   try first|refine a0j h1 ?_|refine a7v h1 ?_|refine a3t h1 ?_
   repeat' (first|refine run ⟨?_⟩|fail)
   show _=_
   simp[oneOf, *]
end
end Go.Vm.Itr
namespace Go.Vm.Itr
open Go.Vm.Ite
open Go.Vm.Tp
def e2h (t:List Nd):Prop:=∀ i,i < t.length->(nd t i).kids.all (a6n i)=true
abbrev c0t (l:List Int):List V:=l.map fun n=>i64 n
theorem f5m {l:List Int} {i:Nat} (h:i < l.length):(c0t l)[i]? =some (i64 (l.getD i 0)):=by
 rw[List.getElem?_map,List.getElem?_eq_getElem h];simp[h]
theorem a9c {l:List Int} {i:Nat} (h:i < l.length):(c0t l)[0+i*1]? =some (i64 (l.getD i 0)):=by rw[Nat.zero_add,Nat.mul_one];exact f5m h
theorem c4f (l:List Int):b4x (c0t l)=some (l.map (D.int .i64)):=by
 induction l with
 |nil=>rfl
 |cons a l ih=>rw[show c0t (a::l)=i64 a::c0t l from rfl,b4x,ih];rfl
theorem b1u {l:List Int} {i:Nat} (h:i < l.length) (n:Int):putAt (c0t l) i [i64 n]=c0t (l.set i n):=f2x (fun n=>i64 n) h
theorem a9z {α:Type} {l:List α} {i:Nat} (h:i < l.length) (d:α):l[i]? =some (l.getD i d):=by rw[List.getD_eq_getElem?_getD,List.getElem?_eq_getElem h];rfl
theorem f2v {l:List Int} {i:Nat} (h:i < l.length) (a b:Int):l.getD i a=l.getD i b:=by simp[h]
section
variable {fx:Nat->Option Obj} {F:Nat->Option a0t} [HC F] (H:Hp)
theorem f7q (l:List Int) (v:Int) (hl:l.length<=1048576):evF (pgL fx F) b3a [ints l,i64 v] H=some (i64 (if l.contains v then((l.idxOf v:Nat):Int) else -1),H):=by
 have _u:=(inferInstance:HC F)
 refine a1p (b2w (F:=F)) rfl rfl ?_ H
 refine wp_loop (α:=Nat) (fun i=>l.length - i) (fun i=>[(0,ints l),(1,i64 v),(7,i64 (l.map (D.int .i64)).length),(8,i64 i)]) (fun _=>[]) (fun i=>i<=l.length/\∀ k∈l.take i,k≠v) ?_ 0 ⟨om,by simp⟩
 rintro i ⟨hi,hall⟩
 refine And.intro (fun h=>?_) (fun h=>?_)
 ·replace h:=of_decide_eq_true h
  rw[List.length_map]at h
  have hlt:i < l.length:=om
  refine a4r (s:=l.map (D.int .i64)) (by rw[List.length_map];exact hlt) ?_
  rw[List.getElem_map]
  refine And.intro rfl ?_
  by_cases hk:v=l[i]
  ·refine a0m (decide_eq_true hk) ?_
   show _=_
   have hc:l.contains v=true:=by rw[List.contains_iff_mem,hk];exact List.getElem_mem _
   have hx:l.idxOf v=i:=by
    unfold List.idxOf
    rw[List.findIdx_eq hlt]
    refine⟨by simp[hk],fun j hj=>?_⟩
    have:l[j]∈l.take i:=by rw[List.mem_take_iff_getElem];exact⟨j,om,rfl⟩
    simpa using hall _ this
   rw[hc,hx];rfl
  ·refine a0j (decide_eq_false hk) ?_
   refine⟨i+1,⟨om,?_⟩,om,?_,rfl⟩
   ·intro k hkm
    rw[List.take_add_one,List.getElem?_eq_getElem hlt,List.mem_append]at hkm
    rcases hkm with hkm|hkm
    ·exact hall k hkm
    ·simp at hkm;rw[hkm];exact fun e=>hk e.symm
   ·rw[a0w om];rfl
 ·replace h:=of_decide_eq_false h
  rw[List.length_map]at h
  have hi':i=l.length:=om
  subst hi'
  rw[List.take_length]at hall
  show _=_
  have hc:l.contains v=false:=by
   cases hb:l.contains v with
   |false=>rfl
   |true=>rw[List.contains_iff_mem]at hb;exact absurd rfl (hall v hb)
  rw[hc];rfl
theorem d9h (l:List Int) (v:Int) (hl:l.length<=1048576):evF (pgL fx F) b0k [ints l,i64 v] H=some (boo (l.contains v),H):=by
 refine a1p (b0s (F:=F)) rfl rfl ?_ H
 refine ca (f7q _ l v hl) ?_
 show V.d (.bool (decide ((0:Int)<=if l.contains v then((l.idxOf v:Nat):Int) else -1)))=_
 cases l.contains v with
 |true=>rw[if_pos rfl,decide_eq_true om]
 |false=>rfl
set_option maxHeartbeats 4000000 in
theorem e6t (t:List Nd) (hf:b0r t) (hk:e2h t):evF (pgL fx F) c6u [.d (a1r t)] H=some (match ups t with|none=> .tup [.d (.sl []),boo false]|some up=> .tup [ints up,boo (decide (up=[])|| !up.dropLast.contains (-1))],H):=by
  refine a1p (c7h (F:=F)) rfl rfl ?_ H
  have htl:=hf.len
  have hnl:(t.map Nd.D).length=t.length:=List.length_map ..
  refine And.intro ⟨om,by unfold roomy;omega⟩ ?_
  refine d6s rfl ?_
  refine b4o (α:=Nat) (fun i=>t.length - i) (fun i=>[(1,.ptr 0 0),(4,.arr 1 0 t.length),(15,i64 t.length),(16,i64 i)])
    (fun i=>[.box [.d (.sl (t.map Nd.D))],.box (c0t (List.replicate i (-1)++List.replicate (t.length - i) 0))]) (fun i=>i<=t.length) ?_ 0 om ?_ ?_
  ·intro i hi
   refine And.intro (fun h=>?_) (fun h=>?_)
   ·replace h:=of_decide_eq_true h
    have hlt:i < t.length:=om
    refine And.intro ⟨om,om⟩ ?_
    refine e7j (by simp;omega) ?_
    refine⟨i+1,om,om,?_,?_⟩
    ·rw[a0w om];rfl
    ·have e:(List.replicate i (-1:Int)++List.replicate (t.length - i) 0).set i (-1)=List.replicate (i+1) (-1)++List.replicate (t.length - (i+1)) 0:=by
      rw[List.set_append_right _ _ (by simp),List.length_replicate,Nat.sub_self,show t.length - i=(t.length - (i+1))+1 by omega,List.replicate_succ,List.set_cons_zero,List.replicate_succ',List.append_assoc];rfl
     have e2:=b1u (l:=List.replicate i (-1:Int)++List.replicate (t.length - i) 0) (i:=i) (by simp;omega) (-1)
     rw[e]at e2
     show[_,Ob.box (putAt _ (0+i*1) _)]=_
     rw[Nat.zero_add,Nat.mul_one,e2]
   ·replace h:=of_decide_eq_false h
    have hi':i=t.length:=om
    subst hi'
    rw[Nat.sub_self,List.replicate_zero,List.append_nil]
    refine b4o (α:=Nat×List Int) (fun a=>t.length - a.1) (fun a=>[(4,.arr 1 0 t.length),(24,.d (.sl (t.map Nd.D))),(25,i64 t.length),(26,i64 a.1)])
      (fun a=>[.box [.d (.sl (t.map Nd.D))],.box (c0t a.2)]) (fun a=>a.1<=t.length/\a.2.length=t.length/\b5d a.1 (t.drop a.1) a.2=ups t) ?_ (0,List.replicate t.length (-1)) ⟨om,by simp,rfl⟩ ?_ ?_
    ·rintro⟨i,out⟩ ⟨hi,hol,hup⟩
     simp only at hi hol hup⊢
     refine And.intro (fun h=>?_) (fun h=>?_)
     ·replace h:=of_decide_eq_true h
      have hlt:i < t.length:=om
      obtain⟨x,hxe⟩:∃ x,x=nd t i:=⟨_,rfl⟩
      have hx:x∈t:=by rw[hxe];exact d4v hlt
      have hkl:=hf.kid x hx
      have hko:x.kids.all (a6n i)=true:=by rw[hxe];exact hk i hlt
      have hdr:t.drop i=x::t.drop (i+1):=by rw[hxe,List.drop_eq_getElem_cons hlt];congr 1;simp[nd,hlt]
      rw[hdr]at hup
      simp only[b5d]at hup
      refine a0a (d:=x.D) (by rw[hxe];exact b0w (k:=(i:Int)) om om) ?_
      refine And.intro rfl ?_
      refine b4o (α:=Nat×List Int) (fun a=>x.kids.length - a.1) (fun a=>[(4,.arr 1 0 t.length),(6,i64 i),(24,.d (.sl (t.map Nd.D))),(25,i64 t.length),(26,i64 i),(32,ints x.kids),(33,i64 x.kids.length),(34,i64 a.1)])
        (fun a=>[.box [.d (.sl (t.map Nd.D))],.box (c0t a.2),.box [i64 x.k,str x.t,i64 x.v,ints x.kids,i64 x.f,i64 x.e]]) (fun a=>a.1<=x.kids.length/\a.2.length=t.length/\a6t i (x.kids.drop a.1) a.2=a6t i x.kids out) ?_ (0,out) ⟨om,hol,rfl⟩ ?_ ?_
      ·rintro⟨j,o⟩ ⟨hj,hoj,hupj⟩
       simp only at hj hoj hupj⊢
       refine And.intro (fun h=>?_) (fun h=>?_)
       ·replace h:=of_decide_eq_true h
        have hjl:j < x.kids.length:=om
        have hkj:=List.all_eq_true.1 hko _ (List.getElem_mem hjl)
        simp only[a6n,Bool.and_eq_true,decide_eq_true_eq]at hkj
        rw[List.drop_eq_getElem_cons hjl]at hupj
        simp only[a6t]at hupj
        refine a4r (s:=x.kids.map (D.int .i64)) (by rw[List.length_map];exact hjl) ?_
        rw[List.getElem_map]
        refine And.intro rfl ?_
        have hkn:x.kids[j].toNat < o.length:=om
        refine And.intro ⟨om,om⟩ ?_
        refine a7a (a9c hkn) ?_
        by_cases hc:0<=o.getD x.kids[j].toNat 0
        ·refine a0m (decide_eq_true hc) ?_
         rw[if_pos hc]at hupj
         rw[<-hupj]at hup
         show _=_
         rw[<-hup];rfl
        ·refine a0j (decide_eq_false hc) ?_
         rw[if_neg hc]at hupj
         refine And.intro ⟨om,om⟩ ?_
         refine e7j (by simp;omega) ?_
         refine⟨(j+1,o.set x.kids[j].toNat i),⟨by show j+1<=_;omega,by simp[hoj],hupj⟩,by show _ - (j+1) < _ - j;omega,?_,?_⟩
         ·rw[a0w om];rfl
         ·show[_,Ob.box (putAt _ (0+_*1) _),_]=_
          rw[Nat.zero_add,Nat.mul_one,b1u hkn]
       ·replace h:=of_decide_eq_false h
        have hj':j=x.kids.length:=om
        subst hj'
        rw[List.drop_length]at hupj
        simp only[a6t]at hupj
        rw[<-hupj]at hup
        refine⟨(i+1,o),⟨by show i+1<=_;omega,hoj,hup⟩,by show _ - (i+1) < _ - i;omega,?_,rfl⟩
        rw[a0w om];rfl
      ·rw[List.length_map];rfl
      ·rfl
     ·replace h:=of_decide_eq_false h
      have hi':i=t.length:=om
      subst hi'
      rw[List.drop_length]at hup
      simp only[b5d]at hup
      rw[<-hup]
      refine fz (c4f out) ?_
      have hdl:(out.map (D.int .i64)).length=t.length:=by rw[List.length_map,hol]
      have hds:List.take t.length (List.drop 0 (out.map (D.int .i64)))=out.map (D.int .i64):=by rw[List.drop_zero,<-hdl,List.take_length]
      by_cases h0:(t.length:Int)=0
      ·refine a4q (decide_eq_true h0) ?_
       repeat' (first|refine run ⟨?_⟩|fail)
       refine And.intro om ?_
       show _=_
       have ho:out=[]:=List.eq_nil_of_length_eq_zero om
       subst ho
       rw[hds];rfl
      ·refine a3t (decide_eq_false h0) ?_
       refine And.intro om ?_
       refine And.intro (by rw[a0w om];omega) ?_
       refine And.intro ⟨om,by rw[a0w om,hds,hdl];omega,rfl⟩ ?_
       rw[show List.drop 0 (List.take (Int.toNat (IntKind.i64.wrap ((t.length:Int) - 1))) (List.take t.length (List.drop 0 (out.map (D.int .i64)))))=out.dropLast.map (D.int .i64)from by rw[hds,List.drop_zero,a0w om,List.dropLast_eq_take,List.map_take,hol];congr 1;omega]
       refine ca (d9h _ out.dropLast (-1) (by rw[List.length_dropLast];omega)) ?_
       repeat' (first|refine run ⟨?_⟩|fail)
       refine And.intro om ?_
       show _=_
       rw[hds]
       have ho:out≠[]:=fun e=>by rw[e]at hol;simp at hol;omega
       show V.tup [V.d (D.sl (List.map (D.int IntKind.i64) out)),V.d (D.bool !out.dropLast.contains (-1))]=V.tup [ints out,boo (decide (out=[])|| !out.dropLast.contains (-1))]
       rw[decide_eq_false ho];rfl
    ·rw[hnl];rfl
    ·rfl
  ·rw[hnl];rfl
  ·simp[hnl]
set_option maxHeartbeats 4000000 in
theorem e8w (up:List Int) (hl:up.length<=1048576) (hu:∀ (j:Nat) (v:Int),up[j]? =some v-> -1<=v/\v < up.length):evF (pgL fx F) d1f [ints up] H=some (ints (deps up),H):=by
 have _u:=(inferInstance:HC F)
 refine a1p (d2g (F:=F)) rfl rfl ?_ H
 have hnl:(up.map (D.int .i64)).length=up.length:=List.length_map ..
 refine And.intro ⟨om,by unfold roomy;omega⟩ ?_
 refine d6s rfl ?_
 refine b4o (α:=Nat×List Int) (fun a=>a.1) (fun a=>[(0,ints up),(3,.arr 0 0 up.length),(4,i64 ((a.1:Int) - 1))]) (fun a=>[.box (c0t a.2)])
   (fun a=>a.1<=up.length/\a.2.length=up.length/\b5c up a.1 a.2=deps up/\∀ (j:Nat) (v:Int),a.2[j]? =some v->0<=v/\v<=1048576 - a.1) ?_ (up.length,List.replicate up.length 0) ⟨om,by simp,rfl,fun j v hv=>by
     rw[List.getElem?_replicate]at hv
     split at hv
     ·cases hv;omega
     ·cases hv⟩ ?_ ?_
 ·rintro⟨n,out⟩ ⟨hn,hol,hdp,hbd⟩
  simp only at hn hol hdp hbd⊢
  cases n with
  |zero=>
   refine a0j (decide_eq_false om) ?_
   simp only[b5c]at hdp
   refine fz (c4f out) ?_
   refine And.intro (by rw[List.length_map];omega) ?_
   show _=_
   rw[<-hdp,List.drop_zero,<-hol,<-List.length_map (D.int .i64),List.take_length];rfl
  |succ i=>
   refine a0m (decide_eq_true om) ?_
   simp only[b5c]at hdp
   have hi:i < up.length:=om
   have e0:((((i+1:Nat):Int)) - 1)=(i:Int):=om
   rw[e0]
   have hg:(up.map (D.int .i64))[i]? =some (.int .i64 (up.getD i 0)):=by rw[List.getElem?_map,List.getElem?_eq_getElem hi];simp[hi]
   have hui:=hu i (up.getD i 0) (a9z hi 0)
   rw[f2v hi (-1) 0]at hdp
   refine a0a (d:= .int .i64 (up.getD i 0)) ⟨om,hg⟩ ?_
   refine And.intro rfl ?_
   by_cases hc:0<=up.getD i 0
   ·refine a0m (decide_eq_true hc) ?_
    rw[if_pos hc]at hdp
    refine a0a (d:= .int .i64 (up.getD i 0)) ⟨om,hg⟩ ?_
    refine And.intro rfl ?_
    have hk:(up.getD i 0).toNat < out.length:=om
    have hbv:=hbd _ _ (a9z hk 0)
    refine And.intro ⟨om,om⟩ ?_
    refine a7a (a9c hk) ?_
    refine And.intro ⟨om,om⟩ ?_
    refine e7j (by simp;omega) ?_
    refine⟨(i,out.set i (out.getD (up.getD i 0).toNat 0+1)),⟨by show i<=_;omega,by simp[hol],hdp,fun j v hv=>?_⟩,by show i < i+1;omega,?_,?_⟩
    ·simp only at hv
     rw[List.getElem?_set]at hv
     split at hv
     ·split at hv
      ·cases hv;omega
      ·cases hv
     ·have:=hbd _ _ hv;omega
    ·rw[a0w (n:=(i:Int) - 1) om]
    ·show[Ob.box (putAt _ (0+i*1) _)]=_
     rw[Nat.zero_add,Nat.mul_one,a0w om,b1u om]
   ·refine a0j (decide_eq_false hc) ?_
    rw[if_neg hc]at hdp
    refine⟨(i,out),⟨by show i<=_;omega,hol,hdp,fun j v hv=>by have:=hbd _ _ hv;omega⟩,by show i < i+1;omega,?_,rfl⟩
    rw[a0w (n:=(i:Int) - 1) om]
 ·rw[hnl,a0w om];rfl
 ·simp[hnl]
theorem f1p (a:Int):∀ (r:List Int) (i:Nat),i < r.length->d3j (a::r.take (i+1))=max (d3j (a::r.take i)) (r.getD i 0):=by
 intro r i h
 unfold d3j
 simp only
 rw[List.take_add_one,List.getElem?_eq_getElem h,List.foldl_append]
 simp[h]
theorem g8y (a:Int) (r:List Int) (hl:r.length < 1048576):evF (pgL fx F) b5i [ints (a::r)] H=some (i64 (d3j (a::r)),H):=by
 have _u:=(inferInstance:HC F)
 refine a1p (b5k (F:=F)) rfl rfl ?_ H
 refine a0j (decide_eq_false (by simp only[List.length_map,List.length_cons];omega)) ?_
 refine a0a (d:= .int .i64 a) ⟨Int.le_refl _,rfl⟩ ?_
 refine And.intro rfl ?_
 refine b4o (α:=Nat) (fun i=>r.length - i) (fun i=>[(0,ints (a::r)),(3,i64 (d3j (a::r.take i))),(4,i64 ((i:Int)+1))]) (fun _=>[]) (fun i=>i<=r.length) ?_ 0 om ?_ rfl
 ·intro i hi
  refine And.intro (fun h=>?_) (fun h=>?_)
  ·replace h:=of_decide_eq_true h
   rw[List.length_map,List.length_cons]at h
   have hlt:i < r.length:=om
   refine a0a (d:= .int .i64 (r.getD i 0)) ⟨om,by rw[show Int.toNat ((i:Int)+1)=i+1 by omega,List.map_cons,List.getElem?_cons_succ,List.getElem?_map,List.getElem?_eq_getElem hlt];simp[hlt]⟩ ?_
   refine And.intro rfl ?_
   refine⟨i+1,om,om,?_,rfl⟩
   rw[f1p a r i hlt,a0w om];rfl
  ·replace h:=of_decide_eq_false h
   rw[List.length_map,List.length_cons]at h
   have hi':i=r.length:=om
   subst hi'
   rw[List.take_length]
   exact rfl
 ·simp[d3j]
end
end Go.Vm.Itr
namespace Go.Vm.Itr
open Go.Vm.Ite
open Go.Vm.Tp
theorem d4d {t:List Nd} (h:(List.range t.length).all (a9x t)=true):e2h t:=by
 intro i hi
 have:=List.all_eq_true.1 h i (List.mem_range.2 hi)
 cases hb:(nd t i).kids.all (a6n i)with
 |true=>rfl
 |false=>rw[e6v hb]at this;cases this
theorem e0v {up:List Int} (h:1<=up.length):∃ a r,up=a::r:=by
 cases up with
 |nil=>simp at h
 |cons a r=>exact⟨a,r,rfl⟩
section
variable {fx:Nat->Option Obj} {F:Nat->Option a0t} [HC F] (H:Hp)
set_option maxHeartbeats 4000000 in
theorem f6u (t:List Nd) (hf:b0r t):evF (pgL fx F) d6b [.d (a1r t)] H=some (i64 (errT (a1f t)),H):=by
 refine a1p (d5n (F:=F)) rfl rfl ?_ H
 have htl:=hf.len
 have hnl:(t.map Nd.D).length=t.length:=List.length_map ..
 have bad:a1f t=false->(i64 3:V)=i64 (errT (a1f t)):=fun h=>by rw[h];rfl
 by_cases c1:(t.length:Int) < 1
 ·refine a4q (decide_eq_true (by rw[hnl];exact c1)) ?_
  repeat' (first|refine run ⟨?_⟩|fail)
  exact bad (by unfold a1f;rw[decide_eq_false (by omega:¬ 1<=t.length)];rfl)
 refine a3t (decide_eq_false (by rw[hnl];exact c1)) ?_
 by_cases c2:20000 < (t.length:Int)
 ·refine a4q (decide_eq_true (by rw[hnl];exact c2)) ?_
  repeat' (first|refine run ⟨?_⟩|fail)
  exact bad (by unfold a1f;rw[decide_eq_false (by omega:¬ t.length<=20000),Bool.and_false];rfl)
 refine a3t (decide_eq_false (by rw[hnl];exact c2)) ?_
 have hw:IntKind.i64.wrap (((t.map Nd.D).length:Int) - 1)=((t.length - 1:Nat):Int):=by rw[hnl,a0w om];omega
 refine a0a (d:=(nd t (t.length - 1)).D) (by rw[hw];exact b0w (k:=((t.length - 1:Nat):Int)) om om) ?_
 refine And.intro rfl ?_
 have hcb:a1f t=(decide ((nd t (t.length - 1)).k=1) && (List.range t.length).all (a9x t) && e9t t):=by
  unfold a1f
  rw[decide_eq_true (by omega:1<=t.length),decide_eq_true (by omega:t.length<=20000)];rfl
 rw[hcb]at bad⊢
 by_cases c3:(nd t (t.length - 1)).k=1
 ·refine a0j (by rw[c3];rfl) ?_
  rw[decide_eq_true c3,Bool.true_and]at bad⊢
  refine b4o (α:=Nat) (fun i=>t.length - i) (fun i=>[(1,.ptr 0 0),(28,i64 t.length),(29,i64 i)]) (fun _=>[.box [.d (.sl (t.map Nd.D))]]) (fun i=>i<=t.length/\∀ j,j < i->a9x t j=true) ?_ 0 ⟨om,om⟩ ?_ rfl
  ·rintro i ⟨hi,hall⟩
   refine And.intro (fun h=>?_) (fun h=>?_)
   ·replace h:=of_decide_eq_true h
    have hlt:i < t.length:=om
    refine ca (f6m _ t hf i hlt) ?_
    cases hb:a9x t i with
    |false=>
     refine a0m rfl ?_
     refine bad ?_
     cases hc:(List.range t.length).all (a9x t)with
     |false=>rfl
     |true=>have:=List.all_eq_true.1 hc i (List.mem_range.2 hlt);rw[hb]at this;cases this
    |true=>
     refine a0j rfl ?_
     refine⟨i+1,⟨om,fun j hj=>?_⟩,om,?_,rfl⟩
     ·by_cases hji:j=i
      ·rw[hji];exact hb
      ·exact hall j om
     ·rw[a0w om];rfl
   ·replace h:=of_decide_eq_false h
    have hi':i=t.length:=om
    subst hi'
    have hnodes:(List.range t.length).all (a9x t)=true:=List.all_eq_true.2 fun j hj=>hall j (List.mem_range.1 hj)
    rw[hnodes,Bool.true_and]at bad⊢
    refine ca (e6t _ t hf (d4d hnodes)) ?_
    cases hu:ups t with
    |none=>
     repeat' (first|refine run ⟨?_⟩|fail)
     exact bad (by unfold e9t;rw[hu])
    |some up=>
     have hupo:e9t t=((decide (up=[])|| !up.dropLast.contains (-1)) && decide (d3j (deps up)<=400)):=by unfold e9t;rw[hu]
     rw[hupo]at bad⊢
     obtain⟨u1,u2⟩:=b8j hu
     rcases Bool.eq_false_or_eq_true (decide (up=[])|| !up.dropLast.contains (-1))with hc|hc
     rotate_left
     ·rw[hc]at bad⊢
      refine a4q (by rw[hc];rfl) ?_
      refine a0m rfl ?_
      exact bad rfl
     ·rw[hc]at bad⊢
      refine a3t (by rw[hc];rfl) ?_
      refine ca (e8w _ up om (by rw[u1];exact u2)) ?_
      have hdl:(deps up).length=up.length:=by unfold deps;rw[d6v,List.length_replicate]
      obtain⟨a,r,hd⟩:=e0v (up:=deps up) om
      rw[hd]
      have hrl:r.length < 1048576:=by have:=congrArg List.length hd;simp at this;omega
      refine ca (g8y _ a r hrl) ?_
      rw[<-hd]
      by_cases hm:d3j (deps up)<=400
      ·refine a0j (decide_eq_false om) ?_
       show _=_
       rw[decide_eq_true hm];rfl
      ·refine a0m (decide_eq_true om) ?_
       exact bad (by rw[decide_eq_false hm];rfl)
  ·rw[hnl];rfl
 ·refine a0m (by simpa using c3) ?_
  exact bad (by rw[decide_eq_false c3];rfl)
end
end Go.Vm.Itr
namespace Go.Vm.Ite
open Go.Vm.Tp (Nd a1r a1f a3x)
open Go.Vm.Ip
open Go.Vm.Io (In Rt nd txt tx a3q mem ret a2v a9w roots)
open Go.Vm.Itr (b0w)
structure Rf (t:List Nd):Prop where
 rt:Rt t
 txt:∀ i,(nd t i).t.length<=1048576
 kl:∀ i,(nd t i).kids.length<=1048576
theorem a3l {t:List Nd} {i:Int} (h:In t i):0<=i/\(t.map Nd.D)[i.toNat]? =some (nd t i).D:=b0w h.1 h.lt
theorem d2a {t:List Nd} (h:Rf t):∀ (n:Nat) (i:Int),(txt t n i).length<=5*n+1048576
 |0,_=>by rw[txt];exact Nat.zero_le _
 |n+1,i=>by
  have h1:=d2a h n ((nd t i).kids.getD 0 0)
  have h2:=h.txt i
  rw[txt]
  repeat' split
  all_goals(try simp only[List.length_append,List.length_cons,List.length_nil]);omega
theorem f8m {t:List Nd} (h:Rf t) (i:Int):(tx t i).length<=1148576:=by
 have:=d2a h t.length i
 have:=h.rt.hi
 unfold tx;omega
section
variable {fx:Nat->Option Obj} {F:Nat->Option a0t}
set_option maxHeartbeats 4000000 in
theorem f0w (t:List Nd) (h:Rf t):∀ (n:Nat) (i:Int),n<=20000->In t i->a3x (nd t i).k=true->i.toNat < n->∀ H,evF (pgL fx F) c1x [.d (a1r t),.d (.int .i64 i)] H=some (str (txt t n i),H)
 |0,_,_,_,_,hn,_=>absurd hn (Nat.not_lt_zero _)
 |n+1,i,hm,hi,hty,hn,H=>by
  have pn:=a3l hi
  have hk:(nd t i).k=10\/(nd t i).k=11\/(nd t i).k=12\/(nd t i).k=13\/(nd t i).k=14\/(nd t i).k=15\/(nd t i).k=16:=by
   unfold a3x at hty
   simp only[Bool.and_eq_true,decide_eq_true_eq]at hty
   omega
  have ih:=fun a (ha:a∈(nd t i).kids) (hb:a3x (nd t a).k=true)=>f0w t h n a om (h.rt.inK hi ha) hb (by have:=h.rt.kid i hi a ha;omega)
  have hl:=fun a=>d2a h n a
  refine a1d (d5d (F:=F)) rfl rfl ?_ H
  rw[txt]
  rcases hk with e|e|e|e|e|e|e
  ·have y10:=e
   repeat' (first|refine run ⟨?_⟩|refine a0a pn ?_|fail)
   rw[if_pos e];exact rfl
  ·have n10:¬ (nd t i).k=10:=om
   have y11:=e
   repeat' (first|refine run ⟨?_⟩|refine a0a pn ?_|fail)
   rw[if_neg n10];rw[if_pos e];exact rfl
  ·have n10:¬ (nd t i).k=10:=om
   have n11:¬ (nd t i).k=11:=om
   have y12:=e
   repeat' (first|refine run ⟨?_⟩|refine a0a pn ?_|fail)
   rw[if_neg n10];rw[if_neg n11];rw[if_pos e];exact rfl
  ·have n10:¬ (nd t i).k=10:=om
   have n11:¬ (nd t i).k=11:=om
   have n12:¬ (nd t i).k=12:=om
   have n14:¬ (nd t i).k=14:=om
   have n15:¬ (nd t i).k=15:=om
   have n16:¬ (nd t i).k=16:=om
   repeat' (first|refine run ⟨?_⟩|refine a0a pn ?_|fail)
   rw[if_neg n10];rw[if_neg n11];rw[if_neg n12];rw[if_neg n14];rw[if_neg n15];rw[if_neg n16];exact rfl
  ·have n10:¬ (nd t i).k=10:=om
   have n11:¬ (nd t i).k=11:=om
   have n12:¬ (nd t i).k=12:=om
   have n13:¬ (nd t i).k=13:=om
   obtain⟨a,ek,ea⟩:=h.rt.ref i hi om
   have pk:(0:Int)<=0/\((nd t i).kids.map (D.int .i64))[(0:Int).toNat]? =some (.int .i64 a):=⟨Int.le_refl _,by rw[ek];rfl⟩
   have hc:=ih a (by rw[ek];exact List.mem_cons_self) ea
   have hla:=hl a
   have l1:∀ p:S,p.length<=10->p.length+(txt t n a).length<=9223372036854775807:=fun p hp=>om
   have l2:∀ p q:S,p.length<=10->q.length<=10->(p++txt t n a).length+q.length<=9223372036854775807:=fun p q hp hq=>by rw[List.length_append];omega
   repeat' (first|refine run ⟨?_⟩|refine a0a pn ?_|refine a0a pk ?_|refine ca (hc _) ?_|refine And.intro (l1 _ (by decide)) ?_|refine And.intro (l2 _ _ (by decide) (by decide)) ?_|fail)
   rw[if_neg n10];rw[if_neg n11];rw[if_neg n12];rw[if_pos e,ek];exact rfl
  ·have n10:¬ (nd t i).k=10:=om
   have n11:¬ (nd t i).k=11:=om
   have n12:¬ (nd t i).k=12:=om
   have n13:¬ (nd t i).k=13:=om
   have n14:¬ (nd t i).k=14:=om
   obtain⟨a,ek,ea⟩:=h.rt.ref i hi om
   have pk:(0:Int)<=0/\((nd t i).kids.map (D.int .i64))[(0:Int).toNat]? =some (.int .i64 a):=⟨Int.le_refl _,by rw[ek];rfl⟩
   have hc:=ih a (by rw[ek];exact List.mem_cons_self) ea
   have hla:=hl a
   have l1:∀ p:S,p.length<=10->p.length+(txt t n a).length<=9223372036854775807:=fun p hp=>om
   have l2:∀ p q:S,p.length<=10->q.length<=10->(p++txt t n a).length+q.length<=9223372036854775807:=fun p q hp hq=>by rw[List.length_append];omega
   repeat' (first|refine run ⟨?_⟩|refine a0a pn ?_|refine a0a pk ?_|refine ca (hc _) ?_|refine And.intro (l1 _ (by decide)) ?_|refine And.intro (l2 _ _ (by decide) (by decide)) ?_|fail)
   rw[if_neg n10];rw[if_neg n11];rw[if_neg n12];rw[if_neg n14];rw[if_pos e,ek];exact rfl
  ·have n10:¬ (nd t i).k=10:=om
   have n11:¬ (nd t i).k=11:=om
   have n12:¬ (nd t i).k=12:=om
   have n13:¬ (nd t i).k=13:=om
   have n14:¬ (nd t i).k=14:=om
   have n15:¬ (nd t i).k=15:=om
   obtain⟨a,ek,ea⟩:=h.rt.ref i hi om
   have pk:(0:Int)<=0/\((nd t i).kids.map (D.int .i64))[(0:Int).toNat]? =some (.int .i64 a):=⟨Int.le_refl _,by rw[ek];rfl⟩
   have hc:=ih a (by rw[ek];exact List.mem_cons_self) ea
   have hla:=hl a
   have l1:∀ p:S,p.length<=10->p.length+(txt t n a).length<=9223372036854775807:=fun p hp=>om
   have l2:∀ p q:S,p.length<=10->q.length<=10->(p++txt t n a).length+q.length<=9223372036854775807:=fun p q hp hq=>by rw[List.length_append];omega
   repeat' (first|refine run ⟨?_⟩|refine a0a pn ?_|refine a0a pk ?_|refine ca (hc _) ?_|refine And.intro (l1 _ (by decide)) ?_|refine And.intro (l2 _ _ (by decide) (by decide)) ?_|fail)
   rw[if_neg n10];rw[if_neg n11];rw[if_neg n12];rw[if_neg n14];rw[if_neg n15];rw[if_pos e,ek];exact rfl
theorem f2t {t:List Nd} (h:Rf t) {i:Int} (hi:In t i) (hty:a3x (nd t i).k=true) (H:Hp):evF (pgL fx F) c1x [.d (a1r t),.d (.int .i64 i)] H=some (str (tx t i),H):=f0w t h t.length i h.rt.hi hi hty hi.2 H
end
end Go.Vm.Ite
namespace Go.Vm.Lex
open Go.Vm.Ite
section
variable {fx:Nat->Option Obj} {F:Nat->Option a0t} (H:Hp)
theorem c4t (c:UInt8):evF (pgL fx F) c2a [u8 c] H=some (boo (isL c),H):=by
 refine a1p (c1j (F:=F)) rfl rfl ?_ H
 repeat' refine And.intro (fun h=>?_) (fun h=>?_)
 all_goals show _=_
 all_goals simp[oneOf,isL]at*
 all_goals grind
theorem a8v (c:UInt8):evF (pgL fx F) b6e [u8 c] H=some (boo (isL c),H):=by
 refine a1p (b6d (F:=F)) rfl rfl ?_ H
 repeat' refine And.intro (fun h=>?_) (fun h=>?_)
 all_goals show _=_
 all_goals simp[oneOf,isL]at*
 all_goals grind
theorem a8x (c:UInt8):evF (pgL fx F) b8n [u8 c] H=some (boo (isD c),H):=by
 refine a1p (b8b (F:=F)) rfl rfl ?_ H
 repeat' refine And.intro (fun h=>?_) (fun h=>?_)
 all_goals show _=_
 all_goals simp[oneOf,isD]at*
 all_goals grind
theorem a4r {α:Type} {s:List α} {i:Nat} (h:i < s.length) {k:α->Prop} (hk:k s[i]):∃ c,((0:Int)<=(i:Int)/\s[(i:Int).toNat]? =some c)/\k c:=
 ⟨s[i],⟨om,by rw[Int.toNat_natCast,List.getElem?_eq_getElem h]⟩,hk⟩
theorem d2w (s:List UInt8):evF (pgL fx F) c1h [str s] H=some (boo (b8u s),H):=by
 refine a1p (c1q (F:=F)) rfl rfl ?_ H
 refine wp_loop (α:=Nat) (fun i=>17 - i) (fun i=>[(0,str s),(5,.d (.sl (a6e.map .str))),(6,i64 17),(7,i64 i)]) (fun _=>[]) (fun i=>i<=17/\∀ x∈a6e.take i,s≠x) ?_ 0 ⟨om,by simp⟩
 rintro i ⟨hi,hall⟩
 refine And.intro (fun h=>?_) (fun h=>?_)
 ·replace h:=of_decide_eq_true h
  have hlt:i < a6e.length:=by show i < 17;omega
  have hlt':i < (a6e.map D.str).length:=by rw[List.length_map];exact hlt
  refine a4r hlt' ?_
  rw[List.getElem_map]
  refine And.intro rfl ?_
  refine And.intro (fun h=>?_) (fun h=>?_)
  ·replace h:=of_decide_eq_true h
   show _=_
   have:s∈a6e:=by rw[h];exact List.getElem_mem _
   simp[oneOf,b8u,this]
  ·replace h:=of_decide_eq_false h
   refine⟨i+1,⟨om,?_⟩,om,?_,rfl⟩
   ·intro x hx
    rw[List.take_add_one,List.mem_append]at hx
    rcases hx with hx|hx
    ·exact hall x hx
    ·rw[List.getElem?_eq_getElem hlt]at hx
     simp only[Option.toList_some,List.mem_singleton]at hx
     rw[hx];exact h
   ·rw[a0w om];rfl
 ·replace h:=of_decide_eq_false h
  have:i=17:=om
  subst this
  show _=_
  have:¬ s∈a6e:=fun h=>hall s (by rw[show a6e.take 17=a6e from rfl];exact h) rfl
  simp[oneOf,b8u,this]
end
end Go.Vm.Lex
namespace Go.Vm.Lex
def b9t:List (List UInt8):=[[58,58],[45,62],[61,62],[61,61],[33,61],[60,61],[62,61],[38,38],[124,124]]
def c3x:List UInt8:=[40,41,123,125,60,62,44,59,58,61,43,45,42,47,37,38,33,46,95]
def a3r (s:List UInt8):List UInt8:=if 1 < s.length/\s.take 2∈b9t then s.take 2 else if s≠[]/\hd0 s∈c3x then s.take 1 else[]
def wsB (c:UInt8):Bool:=decide (c=32\/c=9\/c=10\/c=13)
def a0n:Bool->List UInt8->Nat
 |_,[]=>0
 |false,c::r=>if wsB c then a0n false r+1 else if c=47/\r.head? =some 47 then a0n true r+1 else 0
 |true,c::r=>if c=10 then a0n false r+1 else a0n true r+1
theorem a2x:∀ (b:Bool) (s:List UInt8),a0n b s<=s.length
 |b,[]=>by cases b<;>simp[a0n]
 |false,c::r=>by
  have h1:=a2x false r;have h2:=a2x true r
  unfold a0n;repeat' split
  all_goals simp;try omega
 |true,c::r=>by
  have h1:=a2x false r;have h2:=a2x true r
  unfold a0n;repeat' split
  all_goals simp;try omega
theorem a9b (c:UInt8) (r:List UInt8):a0n false (c::r)=if wsB c then a0n false r+1 else if c=47/\r.head? =some 47 then a0n true r+1 else 0:=rfl
theorem b3w (c:UInt8) (r:List UInt8):a0n true (c::r)=if c=10 then a0n false r+1 else a0n true r+1:=rfl
theorem b3u (b:Bool):a0n b []=0:=by cases b<;>rfl
theorem g2f (b:UInt8) (l:List UInt8) (c:UInt8):Lib.indexByte (b::l) c=if b==c then 0 else if Lib.indexByte l c== -1 then -1 else Lib.indexByte l c+1:=rfl
theorem f8u:∀ l:List UInt8,a0n true l=if Lib.indexByte l 10= -1 then l.length else(Lib.indexByte l 10).toNat+a0n false (l.drop (Lib.indexByte l 10).toNat)
 |[]=>by simp[b3u,Lib.indexByte]
 |c::r=>by
  have ih:=f8u r
  have hg:=Lib.indexByte_ge r 10
  rw[b3w,g2f]
  by_cases hc:c=10
  ·subst hc;simp[a9b,wsB]
  ·by_cases hn:Lib.indexByte r 10= -1
   ·simp[hc,hn]at ih⊢;exact ih
   ·simp only[hc,hn,if_false,beq_iff_eq]at ih⊢
    have e1:(Lib.indexByte r 10+1).toNat=(Lib.indexByte r 10).toNat+1:=om
    have e2:¬ (Lib.indexByte r 10+1= -1):=om
    rw[if_neg e2,e1,List.drop_succ_cons,ih]
    generalize a0n false (List.drop (Lib.indexByte r 10).toNat r)=q
    omega
def dig (c:UInt8):Nat:=c.toNat - 48
def g2n (n:Nat) (s:List UInt8):Nat:=s.foldl (fun n c=>n*10+dig c) n
theorem e9r (n:Nat) (c:UInt8) (r:List UInt8):g2n n (c::r)=g2n (n*10+dig c) r:=List.foldl_cons ..
def b9o (s:List UInt8):Nat:=g2n 0 s
def b7m (s:List UInt8):Bool:=s.all isD && decide (b9o s<=9223372036854775807)
theorem f2k:∀ (s:List UInt8) (n:Nat),n<=g2n n s
 |[],n=>Nat.le_refl _
 |c::r,n=>by have:=f2k r (n*10+dig c);rw[e9r];omega
structure Tk where
 k:Int
 t:List UInt8
 v:Int
 n:Nat
 e:Int
def a3f (w:List UInt8->Nat) (s:List UInt8):Tk:=
 if 0 < a9m s/\isD (hd0 s)=true then(if b7m (s.take (a9m s)) then⟨3,s.take (a9m s),b9o (s.take (a9m s)),a9m s,0⟩ else⟨0,[],0,a9m s,112⟩)
 else if 0 < a9m s/\s.take (a9m s)≠[95] then(if 64 < a9m s then⟨0,[],0,a9m s,2⟩ else⟨if b8u (s.take (a9m s)) then 2 else 1,s.take (a9m s),0,a9m s,0⟩)
 else if a3r s≠[] then⟨4,a3r s,0,(a3r s).length,0⟩
 else⟨0,[],0,w s,111⟩
def szN (c:UInt8):Nat:=if 194<=c.toNat/\c.toNat<=223 then 2 else if 224<=c.toNat/\c.toNat<=239 then 3 else if 240<=c.toNat/\c.toNat<=244 then 4 else 0
def c8h (c:UInt8):Nat:=if c.toNat=224 then 160 else if c.toNat=240 then 144 else 128
def d3h (c:UInt8):Nat:=if c.toNat=237 then 159 else if c.toNat=244 then 143 else 191
def a2a (b:UInt8):Bool:=decide (128<=b.toNat/\b.toNat<=191)
def hd1:List UInt8->UInt8
 |_::b::_=>b
 |_=>0
def szL (s:List UInt8):Nat:=
 if s=[] then 0
 else if(hd0 s).toNat < 128 then 1
 else if szN (hd0 s)=0 then 0
 else if s.length < szN (hd0 s)\/(hd1 s).toNat < c8h (hd0 s)\/d3h (hd0 s) < (hd1 s).toNat then 0
 else if((s.take (szN (hd0 s))).drop 2).all a2a then szN (hd0 s) else 0
theorem g6z (c:UInt8):szN c=0\/(2<=szN c/\szN c<=4):=by
 unfold szN
 repeat' split
 all_goals omega
theorem d4f (s:List UInt8):szL s<=s.length:=by
 unfold szL
 repeat' split
 all_goals first|omega|skip
 rename_i h _
 cases s with
 |nil=>exact absurd rfl h
 |cons c r=>simp
theorem b1w (s:List UInt8) (h:¬ (s=[]\/szL s=0)):(s.drop (szL s)).length < s.length:=by
 have:s.length≠0:=fun e=>h (.inl (List.length_eq_zero_iff.1 e))
 rw[List.length_drop];omega
def strange (at_:Nat) (s:List UInt8):Int:=if h:s=[]\/szL s=0 then(if s=[] then -1 else(at_:Int)) else strange (at_+szL s) (s.drop (szL s))
termination_by s.length
decreasing_by exact b1w s h
theorem a4g (at_:Nat):strange at_ []= -1:=by rw[strange];simp
theorem a9f (at_:Nat) {s:List UInt8} (h:s≠[]) (h0:szL s=0):strange at_ s=at_:=by rw[strange];simp[h,h0]
theorem a7k (at_:Nat) {s:List UInt8} (h:s≠[]) (h0:szL s≠0):strange at_ s=strange (at_+szL s) (s.drop (szL s)):=by rw[strange];simp[h,h0]
end Go.Vm.Lex
namespace Go.Vm.Lex
open Go.Vm.Ite
section
variable {fx:Nat->Option Obj} {F:Nat->Option a0t} (H:Hp)
theorem e0a (s:List UInt8) (at_:Nat) (ha:at_<=s.length) (hs:s.length<=maxLen):evF (pgL fx F) d9u [str s,i64 at_] H=some (i64 (at_+a9m (s.drop at_):Nat),H):=by
 have hm:s.length<=9223372036854775807:=hs
 refine a1p (d8z (F:=F)) rfl rfl ?_ H
 refine wp_loop (α:=Nat) (fun i=>s.length - i) (fun i=>[(0,str s),(1,i64 i)]) (fun _=>[]) (fun i=>i<=s.length/\i+a9m (s.drop i)=at_+a9m (s.drop at_)) ?_ at_ ⟨om,by simp⟩
 rintro i ⟨hi,hr⟩
 refine And.intro (fun hl=>?_) (fun hl=>?_)
 ·replace hl:=of_decide_eq_true hl
  have hlt:i < s.length:=om
  rw[f3c (List.getElem?_eq_getElem hlt)]at hr
  repeat' (first
      |(refine And.intro (fun h=>?_) (fun h=>?_)<;>try(exfalso;(have h1:=h;simp_all;done)))
      |refine a4r hlt ?_
      |refine Exists.intro _ (Exists.intro _ (And.intro (a8v _ _) ?_))
      |refine Exists.intro _ (Exists.intro _ (And.intro (a8x _ _) ?_)))
  all_goals first
    |(show _=_
      have:b6s s[i]=false:=by simp_all[b6s]
      rw[this]at hr
      simp at hr
      simp[oneOf,hr];done)
    |(have:b6s s[i]=true:=by simp_all[b6s]
      rw[this]at hr
      simp at hr
      refine⟨i+1,⟨om,om⟩,om,?_,rfl⟩
      rw[a0w om];rfl)
 ·replace hl:=of_decide_eq_false hl
  rw[f6l om]at hr
  repeat' (refine And.intro (fun h=>?_) (fun h=>?_)<;>try(exfalso;simp at h;done))
  all_goals show _=_
  all_goals simp[oneOf]
  all_goals omega
end
end Go.Vm.Lex
namespace Go.Vm.Lex
open Go.Vm.Ite
section
variable {fx:Nat->Option Obj} {F:Nat->Option a0t} (H:Hp)
theorem e7y (c:UInt8) (r:List UInt8) (h:c=47/\r.head? =some 47):a0n false (c::r)=a0n true (c::r):=by
 obtain⟨rfl,h⟩:=h
 rw[a9b,b3w,h];simp[wsB]
end
end Go.Vm.Lex
namespace Go.Vm.Lex
open Go.Vm.Ite
section
variable {fx:Nat->Option Obj} {F:Nat->Option a0t} (H:Hp)
theorem f9h (c d:UInt8):c=d↔c.toNat=d.toNat:=UInt8.toNat_inj.symm
theorem d9j {s:List UInt8} {i:Nat} (hm:s.length<=9223372036854775807) (h:i+1 < s.length) {k:UInt8->Prop} (hk:k s[i+1]):∃ c,(0<=IntKind.i64.wrap ((i:Int)+1)/\s[(IntKind.i64.wrap ((i:Int)+1)).toNat]? =some c)/\k c:=by
 rw[a0w om]
 exact⟨_,⟨om,by rw[show((i:Int)+1).toNat=i+1 by omega,List.getElem?_eq_getElem h]⟩,hk⟩
set_option maxHeartbeats 2000000 in
theorem e3x (s:List UInt8) (hs:s.length<=maxLen) (at_:Nat) (ha:at_<=s.length):evF (pgL fx F) b9d [str s,i64 at_] H=some (i64 ((at_+a0n false (s.drop at_):Nat)),H):=by
 have hm:s.length<=9223372036854775807:=hs
 clear hs
 refine a1p (d0u (F:=F)) rfl rfl ?_ H
 generalize hT:at_+a0n false (s.drop at_)=T
 refine wp_loop (α:=Nat) (fun i=>s.length - i) (fun i=>[(0,str s),(1,i64 i)]) (fun _=>[]) (fun i=>i<=s.length/\i+a0n false (s.drop i)=T) ?_ at_ ⟨ha,hT⟩
 clear hT ha at_
 rintro i ⟨hi,hr⟩
 refine And.intro (fun hl=>?_) (fun hl=>?_)
 ·replace hl:=of_decide_eq_true hl
  have hlt:i < s.length:=om
  have hd:s.drop i=s[i]::s.drop (i+1):=List.drop_eq_getElem_cons hlt
  have w:wsB s[i]=true↔(s[i].toNat=32\/s[i].toNat=9\/s[i].toNat=10\/s[i].toNat=13):=by simp[wsB,f9h]
  have q:s[i]=47↔s[i].toNat=47:=f9h _ 47
  have ew:IntKind.i64.wrap ((i:Int)+1)=(i:Int)+1:=a0w om
  refine a4r hlt ?_
  repeat' (first
      |(refine And.intro (fun h=>?_) (fun h=>?_)<;>try(exfalso;(simp at h;done)))
      |refine d9j hm (by(have hx:¬ (IntKind.i64.wrap ((i:Int)+1)=(s.length:Int)):=of_decide_eq_false (by assumption));omega) ?_)
  all_goals simp only[Bool.not_true,Bool.not_false,Bool.not_eq_true',Bool.not_eq_false',decide_eq_true_eq,decide_eq_false_iff_not]at*
  all_goals first
    |(refine⟨i+1,⟨om,?_⟩,om,?_,rfl⟩
      ·rw[hd,a9b,if_pos (w.2 om)]at hr;omega
      ·rw[ew];rfl)
    |(show _=_
      have hn:¬ (s[i]=47/\(s.drop (i+1)).head? =some 47):=by
       rintro⟨h1,h2⟩
       rw[q]at h1
       rw[List.head?_drop]at h2
       obtain⟨h3,h4⟩:=List.getElem?_eq_some_iff.1 h2
       have h5:(s[i+1]'h3).toNat=47:=by rw[h4];rfl
       omega
      rw[hd,a9b,if_neg (fun e=>by have:=w.1 e;omega),if_neg hn]at hr
      simp only[oneOf]
      congr 3;done)
    |skip
  have hlt2:i+1 < s.length:=by
   have hx:¬ (IntKind.i64.wrap ((i:Int)+1)=(s.length:Int)):=of_decide_eq_false (by assumption)
   omega
  have hh:s[i]=47/\(s.drop (i+1)).head? =some 47:=by
   refine⟨q.2 om,?_⟩
   rw[List.head?_drop,List.getElem?_eq_getElem hlt2]
   congr 1
   rw[f9h]
   show s[i+1].toNat=47
   omega
  have hr2:i+a0n true (s.drop i)=T:=by rw[<-hr,hd,e7y _ _ hh]
  refine wp_loop (α:=Nat) (fun j=>s.length - j) (fun j=>[(0,str s),(1,i64 j)]) (fun _=>[]) (fun j=>i<=j/\j<=s.length/\j+a0n true (s.drop j)=T) ?_ i ⟨om,om,hr2⟩
  rintro j ⟨h1,h2,h3⟩
  refine And.intro (fun hj=>?_) (fun hj=>?_)
  ·replace hj:=of_decide_eq_true hj
   have hjt:j < s.length:=om
   have hdj:s.drop j=s[j]::s.drop (j+1):=List.drop_eq_getElem_cons hjt
   have qj:s[j]=10↔s[j].toNat=10:=f9h _ 10
   refine a4r hjt ?_
   rw[hdj,b3w]at h3
   refine And.intro (fun h=>?_) (fun h=>?_)
   ·simp only[Bool.not_eq_true',decide_eq_false_iff_not]at h
    rw[if_neg (fun e=>h (by rw[qj.1 e];rfl))]at h3
    refine⟨j+1,⟨om,om,om⟩,om,?_,rfl⟩
    rw[a0w om];rfl
   ·simp only[Bool.not_eq_false',decide_eq_true_eq]at h
    have h10:s[j]=10:=qj.2 om
    rw[if_pos h10]at h3
    have hne:i≠j:=by rintro rfl;omega
    refine⟨j,⟨om,?_⟩,om,rfl,rfl⟩
    rw[hdj,a9b,if_pos (by simp[wsB,h10])];omega
  ·replace hj:=of_decide_eq_false hj
   rw[List.drop_eq_nil_of_le om,b3u]at h3
   repeat' (refine And.intro (fun h=>?_) (fun h=>?_)<;>try(exfalso;simp at h;done))
   all_goals
    refine⟨j,⟨om,?_⟩,om,rfl,rfl⟩
    rw[List.drop_eq_nil_of_le om,b3u];omega
 ·replace hl:=of_decide_eq_false hl
  rw[List.drop_eq_nil_of_le om,b3u]at hr
  show _=_
  simp only[oneOf]
  congr 3
end
end Go.Vm.Lex
namespace Go.Vm.Lex
open Go.Vm.Ite
def tkD (k:Int) (t:List UInt8) (v f e:Int):D:= .agg [.int .i64 k,.str t,.int .i64 v,.int .i64 f,.int .i64 e]
def dgD (c f e:Int):D:= .agg [.int .i64 c,.int .i64 f,.int .i64 e]
section
variable {fx:Nat->Option Obj} {F:Nat->Option a0t} (H:Hp)
theorem b6t (c f e:Int):evF (pgL fx F) d6o [i64 c,i64 f,i64 e] H=some (.d (dgD c f e),H):=by
 refine a1p (d4o (F:=F)) rfl rfl ?_ H
 rfl
end
end Go.Vm.Lex
