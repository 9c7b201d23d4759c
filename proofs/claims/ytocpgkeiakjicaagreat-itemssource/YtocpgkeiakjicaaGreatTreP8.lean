import Derived.Test.YtocpgkeiakjicaaGreatIteR2
import Derived.Test.YtocpgkeiakjicaaGreatVmWp
import Derived.Test.YtocpgkeiakjicaaGreatTreP5
import Derived.Test.YtocpgkeiakjicaaGreatTypP18
import Derived.Lib.Join
set_option maxRecDepth 100000
set_option linter.unusedVariables false
set_option linter.unusedSimpArgs false
namespace Go.Vm.Ite
open Go.Vm.Tp (Nd a1r a1f a3x)
open Go.Vm.Ip
open Go.Vm.Io hiding S
section
variable {fx:Nat->Option Obj} {F:Nat->Option a0t} {t:List Nd}
set_option maxHeartbeats 2000000 in
theorem c7q (h:Rt t) (kn:List S) (hkn:kn.length<=1048576) {i:Int} (hi:In t i) (hk:a3x (nd t i).k=true) (b:Bool) (H:Hp):evF (pgL fx F) d1o [.d (a1r t),i64 i,.d (.sl (kn.map D.str)),boo b] H=some (.d (dgO t (tyG t (fun s=>decide (s∈kn)) b [i])),H):=by
  refine a1d (c9r (F:=F)) rfl rfl ?_ H
  have pn:=a3l hi
  have hkid:=h.ty hi hk
  have hleaf:=h.leaf i hi
  have hd:(nd t i).D= .agg [.int .i64 (nd t i).k,.str (nd t i).t,.int .i64 (nd t i).v,.sl ((nd t i).kids.map (D.int .i64)),.int .i64 (nd t i).f,.int .i64 (nd t i).e]:=rfl
  rw[hd]at pn
  have eu:=fun H=>c1t (fx:=fx) (F:=F) h kn hkn t.length i hi hk hi.2 H
  have hun:=f1g h (fun s=>decide (s∈kn)) t.length hi
  have huin:=d4w h (fun s=>decide (s∈kn)) t.length i hi
  rw[tyG]
  generalize unk t (fun s=>decide (s∈kn)) t.length i=u at eu hun huin⊢
  by_cases cu:0<=u
  ·have dg:=fun H=>a6j (fx:=fx) (F:=F) (huin cu) 141 H
   rw[if_pos cu]
   repeat' (first|refine run ⟨?_⟩|refine ca (eu _) ?_|refine ca (dg _) ?_|fail)
   exact rfl
  rw[if_neg cu]
  obtain⟨f,hf⟩:∃ f,t.length=f+1:=⟨t.length - 1,by have:=h.lo;omega⟩
  have ei:=fun H=>c0e (fx:=fx) (F:=F) h t.length i hi hk hi.2 H
  have hiin:=fun b=>d3t h t.length b i hi
  have hneg:=fun b=>d9y t.length b hi
  -- what is looked for
  have key:∀ b,inn t t.length b i=(if b && (decide ((nd t i).k=14)||decide ((nd t i).k=15)) then inn t f false ((nd t i).kids.getD 0 0) else if !b||decide ((nd t i).k=16) then inn t t.length false i else -1):=by
   intro b
   cases b with
   |false=>rfl
   |true=>
    simp only[Bool.true_and,Bool.not_true,Bool.false_or]
    by_cases c14:(nd t i).k=14\/(nd t i).k=15
    ·rw[if_pos (by simpa using c14)]
     rcases hkid with e|⟨a,e,ha⟩
     ·obtain⟨a,e2,_⟩:=h.ref i hi om
      rw[e]at e2;cases e2
     ·have hin:=h.inK hi (k:=a) (by rw[e];exact List.mem_singleton.2 rfl)
      rw[hf,inn,e]
      simp only[Bool.not_true,Bool.false_and,Bool.false_eq_true,if_false]
      exact d8f (d9y f false hin)
    ·have n14:¬ (nd t i).k=14:=fun e=>c14 (.inl e)
     have n15:¬ (nd t i).k=15:=fun e=>c14 (.inr e)
     rw[if_neg (by simp[n14,n15])]
     by_cases c16:(nd t i).k=16
     ·rw[if_pos (by simp[c16]),hf,inn,inn]
      simp[n14,n15]
     ·have hks:=hleaf (by have:=hk;simp[a3x]at this;omega)
      rw[if_neg (by simp[c16]),hf,inn,hks]
      simp
  have es:∀ a,(nd t i).kids=[a]->∀ H,evF (pgL fx F) a6l [.d (a1r t),i64 a] H=some (i64 (inn t f false a),H):=fun a e=>by
    have hin:=h.inK hi (k:=a) (by rw[e];exact List.mem_singleton.2 rfl)
    have h2:=h.kid i hi a (by rw[e];exact List.mem_singleton.2 rfl)
    have h3:=hin.1
    have h4:=hi.2
    rcases hkid with q|⟨c,q,hc⟩
    ·rw[e]at q;cases q
    ·rw[e]at q;cases q
     exact c0e h f a hin hc om
  have hw:∀ b,(if 0<=inn t t.length b i then some (142,inn t t.length b i) else tyG t (fun s=>decide (s∈kn)) b [])=if 0<=inn t t.length b i then some (142,inn t t.length b i) else none:=fun b=>by rw[tyG]
  rw[hw]
  have dg:=fun b (hb:0<=inn t t.length b i) H=>a6j (fx:=fx) (F:=F) (hiin b hb) 142 H
  have kb:=key b
  have dgb:=dg b
  have dg0:=dg false
  generalize hr:inn t t.length b i=r at kb dgb⊢
  clear dg hiin hneg hw key dg0
  have nu:¬ (0:Int)<=u:=cu
  cases b with
  |false=>
   have er:evF (pgL fx F) a6l [.d (a1r t),i64 i]=fun H=>some (i64 r,H):=by funext H;rw[ei H,<-hr]
   have er:=fun H=>congrFun er H
   by_cases cr:0<=r
   ·rw[if_pos cr]
    repeat' (first|refine run ⟨?_⟩|refine ca (eu _) ?_|refine a0a pn ?_|refine ca (er _) ?_|refine ca (dgb cr _) ?_|fail)
    exact rfl
   ·rw[if_neg cr]
    repeat' (first|refine run ⟨?_⟩|refine ca (eu _) ?_|refine a0a pn ?_|refine ca (er _) ?_|fail)
    exact rfl
  |true=>
   simp only[Bool.true_and,Bool.not_true,Bool.false_or]at kb
   by_cases c14:(nd t i).k=14
   ·rw[if_pos (by simp[c14])]at kb
    obtain⟨a,e,_⟩:=h.ref i hi (.inl c14)
    have es:=es a e
    rw[e]at kb pn
    rw[show[a].getD 0 0=a from rfl]at kb
    rw[<-kb]at es
    by_cases cr:0<=r
    ·rw[if_pos cr]
     repeat' (first|refine run ⟨?_⟩|refine ca (eu _) ?_|refine a0a pn ?_|refine ca (es _) ?_|refine ca (dgb cr _) ?_|fail)
     exact rfl
    ·rw[if_neg cr]
     repeat' (first|refine run ⟨?_⟩|refine ca (eu _) ?_|refine a0a pn ?_|refine ca (es _) ?_|fail)
     exact rfl
   by_cases c15:(nd t i).k=15
   ·rw[if_pos (by simp[c15])]at kb
    obtain⟨a,e,_⟩:=h.ref i hi (.inr (.inl c15))
    have es:=es a e
    rw[e]at kb pn
    rw[show[a].getD 0 0=a from rfl]at kb
    rw[<-kb]at es
    by_cases cr:0<=r
    ·rw[if_pos cr]
     repeat' (first|refine run ⟨?_⟩|refine ca (eu _) ?_|refine a0a pn ?_|refine ca (es _) ?_|refine ca (dgb cr _) ?_|fail)
     exact rfl
    ·rw[if_neg cr]
     repeat' (first|refine run ⟨?_⟩|refine ca (eu _) ?_|refine a0a pn ?_|refine ca (es _) ?_|fail)
     exact rfl
   rw[if_neg (by simp[c14,c15])]at kb
   by_cases c16:(nd t i).k=16
   ·rw[if_pos (by simp[c16])]at kb
    have er:evF (pgL fx F) a6l [.d (a1r t),i64 i]=fun H=>some (i64 r,H):=by funext H;rw[ei H,<-kb]
    have er:=fun H=>congrFun er H
    by_cases cr:0<=r
    ·rw[if_pos cr]
     repeat' (first|refine run ⟨?_⟩|refine ca (eu _) ?_|refine a0a pn ?_|refine ca (er _) ?_|refine ca (dgb cr _) ?_|fail)
     exact rfl
    ·rw[if_neg cr]
     repeat' (first|refine run ⟨?_⟩|refine ca (eu _) ?_|refine a0a pn ?_|refine ca (er _) ?_|fail)
     exact rfl
   ·rw[if_neg (by simp[c16])]at kb
    have cr:¬ 0<=r:=om
    rw[if_neg cr]
    repeat' (first|refine run ⟨?_⟩|refine ca (eu _) ?_|refine a0a pn ?_|fail)
    exact rfl
end
end Go.Vm.Ite
namespace Go.Vm.Ite
open Go.Vm.Tp (Nd a1r a1f a3x)
open Go.Vm.Ip
open Go.Vm.Io hiding S
def b2l (t:List Nd) (l:List Int):List S:=(l.filter fun n=> !decide ((nd t n).k=2)).map fun n=>(nd t n).t
section
variable {fx:Nat->Option Obj} {F:Nat->Option a0t} {t:List Nd}
theorem d5c (l:List Int) (n:Int):b2l t (l++[n])=if(nd t n).k=2 then b2l t l else b2l t l++[(nd t n).t]:=by
 unfold b2l
 rw[List.filter_append,List.map_append]
 by_cases c:(nd t n).k=2<;>simp[c]
theorem e3u (l:List Int):(b2l t l).length<=l.length:=by
 unfold b2l;rw[List.length_map];exact List.length_filter_le _ _
set_option maxHeartbeats 2000000 in
theorem e4n (h:Rt t) (hll:(roots t).length<=1048576) (hro:∀ n∈roots t,In t n/\((nd t n).k=2\/(nd t n).k=3\/(nd t n).k=4)) (H:Hp):evF (pgL fx F) d2x [.d (a1r t)] H=some (.d (.sl ((b2l t (roots t)).map D.str)),H):=by
 refine a1d (d2c (F:=F)) rfl rfl ?_ H
 have hr:=fun H=>a8r (fx:=fx) (F:=F) h H
 generalize roots t=l at hr hll hro⊢
 have hlm:(l.map (D.int .i64)).length=l.length:=List.length_map ..
 repeat' (first|refine run ⟨?_⟩|refine ca (hr _) ?_|fail)
 refine a0g (α:=Nat) (fun a=>l.length - a) (fun a=>[(1,.ptr 0 0),(3,.row 1 (b2l t (l.take a)).length),(4,.d (a7j l)),(5,i64 a)]) (fun a=>[.box [.d (.sl (t.map Nd.D))],.row 1 ((b2l t (l.take a)).map D.str)]) (fun a=>a<=l.length) ?_ 0 (Nat.zero_le _) rfl rfl
 intro j hj
 by_cases c:j < l.length
 ·have c2:(j:Int) < ((l.map (D.int .i64)).length:Int):=om
  have pj:=b9q c
  obtain⟨hin,hk⟩:=hro _ (List.getElem_mem c)
  have pn:=a3l hin
  have hfn:=fun H=>c0p (fx:=fx) (F:=F) hin H
  have hd:(nd t l[j]).D= .agg [.int .i64 (nd t l[j]).k,.str (nd t l[j]).t,.int .i64 (nd t l[j]).v,.sl ((nd t l[j]).kids.map (D.int .i64)),.int .i64 (nd t l[j]).f,.int .i64 (nd t l[j]).e]:=rfl
  rw[hd]at pn
  have hts:l.take (j+1)=l.take j++[l[j]]:=by rw[List.take_add_one,List.getElem?_eq_getElem c];rfl
  have hsn:=d5c (t:=t) (l.take j) l[j]
  rw[<-hts]at hsn
  have hkl:=e3u (t:=t) (l.take j)
  have hkl2:(l.take j).length=j:=by rw[List.length_take];omega
  have wj:IntKind.i64.wrap ((j:Int)+1)=((j+1:Nat):Int):=by rw[a0w om];omega
  have hroom:((b2l t (l.take j)).map D.str).length=(b2l t (l.take j)).length/\roomy ((b2l t (l.take j)).length+1) 16:=⟨List.length_map ..,by unfold roomy;omega⟩
  generalize l[j]=n at pj hin hk pn hfn hsn
  by_cases k2:(nd t n).k=2
  ·have d2:(!decide ((nd t n).k=2))=false:=by rw[decide_eq_true k2];rfl
   rw[if_pos k2]at hsn
   repeat' (first|refine run ⟨?_⟩|refine a0a pj ?_|refine ca (hfn _) ?_|fail)
   exact⟨j+1,om,om,by rw[wj,hsn];rfl,by rw[hsn]⟩
  ·have d2:(!decide ((nd t n).k=2))=true:=by rw[decide_eq_false k2];rfl
   rw[if_neg k2]at hsn
   repeat' (first|refine run ⟨?_⟩|refine a0a pj ?_|refine ca (hfn _) ?_|refine a0a pn ?_|refine And.intro ⟨rfl,by decide⟩ ?_|refine And.intro ⟨rfl,hroom⟩ ?_|fail)
   exact⟨j+1,om,om,by rw[wj,hsn,List.length_append];rfl,by rw[hsn,List.map_append];rfl⟩
 ·have c2:¬ (j:Int) < ((l.map (D.int .i64)).length:Int):=om
  obtain rfl:j=l.length:=om
  have hln:((b2l t l).map D.str).length=(b2l t l).length:=List.length_map ..
  rw[List.take_length]
  repeat' (first|refine run ⟨?_⟩|refine And.intro hln ?_|fail)
  exact rfl
end
end Go.Vm.Ite
namespace Go.Vm.Ite
open Go.Vm.Tp (Nd)
open Go.Vm.Ip
open Go.Vm.Io hiding S
def orE (a b:Option (Int×Int)):Option (Int×Int):=match a with|some e=>some e|none=>b
theorem e4d (t:List Nd) (kn:S->Bool) (b:Bool) (a:Int) (r:List Int):tyG t kn b (a::r)=orE (tyG t kn b [a]) (tyG t kn b r):=by
 unfold orE
 simp only[tyG]
 split
 ·rfl
 ·split<;>rfl
theorem d9b (t:List Nd) (kn:S->Bool) (b:Bool):∀ l r,tyG t kn b (l++r)=orE (tyG t kn b l) (tyG t kn b r)
 |[],r=>rfl
 |a::l,r=>by
  rw[List.cons_append,e4d,d9b t kn b l r,e4d t kn b a l]
  unfold orE
  split<;>rfl
theorem f4f (t:List Nd) (kn:S->Bool) (n:Int) (r:List Int):tyA t kn (n::r)=orE (tyG t kn (decide ((nd t n).k=2)) (tyl t n)) (tyA t kn r):=by
 rw[tyA];unfold orE;split<;>simp_all
theorem e8h {t:List Nd} {l:List Int} (hl:∀ n∈l,(nd t n).k=2\/(nd t n).k=3\/(nd t n).k=4):kn (a0z t l)=fun s=>decide (s∈b2l t l):=by
  funext s
  rw[Bool.eq_iff_iff,e1g,decide_eq_true_iff]
  unfold nS nE a0z b2l
  simp only[List.map_map,List.mem_append,List.mem_map,List.mem_filter,Function.comp]
  constructor
  ·rintro(⟨n,⟨h1,h2⟩,h3⟩|⟨n,⟨h1,h2⟩,h3⟩)
   ·have:(nd t n).k=3:=by simpa [is3] using h2
    exact⟨n,⟨h1,by simp[this]⟩,h3⟩
   ·have:(nd t n).k=4:=by simpa [is4] using h2
    exact⟨n,⟨h1,by simp[this]⟩,h3⟩
  ·rintro⟨n,⟨h1,h2⟩,h3⟩
   have h2:(nd t n).k≠2:=by simpa using h2
   rcases hl n h1 with e|e|e
   ·exact absurd e h2
   ·exact .inl ⟨n,⟨h1,by simp[is3,e]⟩,h3⟩
   ·exact .inr ⟨n,⟨h1,by simp[is4,e]⟩,h3⟩
end Go.Vm.Ite
namespace Go.Vm.Ite
open Go.Vm.Tp (Nd a1r a1f a3x)
open Go.Vm.Ip
open Go.Vm.Io hiding S
section
variable {fx:Nat->Option Obj} {F:Nat->Option a0t} {t:List Nd}
def rtl (t:List Nd) (n:Int):List Int:=if(nd t n).k=2 then[ret t n] else[]
set_option maxHeartbeats 4000000 in
theorem e5t (h:Rt t) (hkl:∀ i,(nd t i).kids.length<=1048576) (hll:(roots t).length<=1048576) (hro:∀ n∈roots t,In t n/\((nd t n).k=2\/(nd t n).k=3\/(nd t n).k=4)) (H:Hp):evF (pgL fx F) d1n [.d (a1r t)] H=some (.d (dgO t (tyA t (fun s=>decide (s∈b2l t (roots t))) (roots t))),H):=by
  refine a1d (c9w (F:=F)) rfl rfl ?_ H
  have hr:=fun H=>a8r (fx:=fx) (F:=F) h H
  have hkn:=fun H=>e4n (fx:=fx) (F:=F) h hll hro H
  have hknl:(b2l t (roots t)).length<=1048576:=Nat.le_trans (e3u _) hll
  generalize b2l t (roots t)=kn at hkn hknl⊢
  obtain⟨res,hres⟩:∃ res,dgO t (tyA t (fun s=>decide (s∈kn)) (roots t))=res:=⟨_,rfl⟩
  rw[hres]
  generalize roots t=l at hr hll hro hkn hres
  have hlm:(l.map (D.int .i64)).length=l.length:=List.length_map ..
  have hgz:grew [.box [.d (.sl (t.map Nd.D))],.box [i64 0,i64 0,i64 0]] ([.box [.d (.sl (t.map Nd.D))],.box [i64 0,i64 0,i64 0]]++[.box [i64 0,i64 0,i64 0]])=true:=(a7o _ _).trans rfl
  repeat' (first|refine run ⟨?_⟩|refine ca (hkn _) ?_|refine ca (hr _) ?_|fail)
  refine a0g (α:=Nat) (fun a=>l.length - a) (fun a=>[(1,.ptr 0 0),(2,.ptr 1 0),(3,.d (.sl (kn.map D.str))),(4,.d (a7j l)),(5,i64 a)]) (fun a=>[.box [.d (.sl (t.map Nd.D))],.box [i64 0,i64 0,i64 0]]) (fun a=>a<=l.length/\dgO t (tyA t (fun s=>decide (s∈kn)) (l.drop a))=res) ?_ 0 ⟨Nat.zero_le _,hres⟩ rfl rfl
  rintro j ⟨hj,hco⟩
  by_cases c:j < l.length
  ·have c2:(j:Int) < ((l.map (D.int .i64)).length:Int):=om
   have pj:=b9q c
   obtain⟨hin,hk⟩:=hro _ (List.getElem_mem c)
   have wj:IntKind.i64.wrap ((j:Int)+1)=((j+1:Nat):Int):=by rw[a0w om];omega
   rw[List.drop_eq_getElem_cons c,f4f]at hco
   generalize l[j]=n at pj hin hk hco
   have pn:=a3l hin
   have hme:=fun H=>b4h (fx:=fx) (F:=F) h hkl hin hk H
   have hfn:=fun H=>c0p (fx:=fx) (F:=F) hin H
   have hmk:=fun k hm=>h.h6t (n:=n) hin hk (k:=k) hm
   rw[show tyl t n=((mem t n).map fun k=>(nd t k).kids).flatten++rtl t n from rfl,d9b]at hco
   have hml:(mem t n).length<=1048576:=Nat.le_trans (b0p t n) (hkl n)
   generalize hms:mem t n=ms at hme hmk hco hml
   have hmm:(ms.map (D.int .i64)).length=ms.length:=List.length_map ..
   repeat' (first|refine run ⟨?_⟩|refine a0a pj ?_|refine ca (hme _) ?_|fail)
   refine a0g (α:=Nat) (fun a=>ms.length - a) (fun a=>[(1,.ptr 0 0),(2,.ptr 1 0),(3,.d (.sl (kn.map D.str))),(4,.d (a7j l)),(5,i64 j),(6,.d (a7j ms)),(7,i64 a)]) (fun a=>[.box [.d (.sl (t.map Nd.D))],.box [i64 0,i64 0,i64 0]]) (fun a=>a<=ms.length/\dgO t (orE (orE (tyG t (fun s=>decide (s∈kn)) (decide ((nd t n).k=2)) ((ms.drop a).map fun k=>(nd t k).kids).flatten) (tyG t (fun s=>decide (s∈kn)) (decide ((nd t n).k=2)) (rtl t n))) (tyA t (fun s=>decide (s∈kn)) (l.drop (j+1))))=res) ?_ 0 ⟨Nat.zero_le _,hco⟩ rfl rfl
   rintro i ⟨hi,hcm⟩
   by_cases ci:i < ms.length
   ·have d2:(i:Int) < ((ms.map (D.int .i64)).length:Int):=om
    have pi:=b9q ci
    obtain⟨him,hkm⟩:=hmk _ (List.getElem_mem ci)
    have wi:IntKind.i64.wrap ((i:Int)+1)=((i+1:Nat):Int):=by rw[a0w om];omega
    rw[List.drop_eq_getElem_cons ci,List.map_cons,List.flatten_cons,d9b]at hcm
    generalize ms[i]=m at pi him hkm hcm
    have pm:=a3l him
    have hd:(nd t m).D= .agg [.int .i64 (nd t m).k,.str (nd t m).t,.int .i64 (nd t m).v,.sl ((nd t m).kids.map (D.int .i64)),.int .i64 (nd t m).f,.int .i64 (nd t m).e]:=rfl
    rw[hd]at pm
    rcases hkm with e|⟨a,e,ha⟩
    ·rw[e]at pm hcm
     repeat' (first|refine run ⟨?_⟩|refine a0a pi ?_|refine a0a pm ?_|fail)
     exact⟨i+1,⟨om,hcm⟩,om,by rw[wi];rfl,rfl⟩
    ·have hia:=h.inK him (k:=a) (by rw[e];exact List.mem_singleton.2 rfl)
     have hwr:=fun H=>c7q (fx:=fx) (F:=F) h kn hknl hia ha (decide ((nd t n).k=2)) H
     rw[e]at pm hcm
     cases hg:tyG t (fun s=>decide (s∈kn)) (decide ((nd t n).k=2)) [a] with
     |none=>
      rw[hg]at hwr hcm;simp only[dgO]at hwr
      repeat' (first|refine run ⟨?_⟩|refine a0a pi ?_|refine a0a pm ?_|refine a0a pj ?_|refine ca (hfn _) ?_|refine ca (hwr _) ?_|refine And.intro hgz ?_|fail)
      exact⟨i+1,⟨om,hcm⟩,om,by rw[wi];rfl,rfl⟩
     |some p=>
      obtain⟨c,x⟩:=p
      have hc:=g5k hg
      rw[hg]at hwr hcm;simp only[dgO]at hwr
      have nc:(!decide (c=0))=true:=by rw[decide_eq_false hc];rfl
      repeat' (first|refine run ⟨?_⟩|refine a0a pi ?_|refine a0a pm ?_|refine a0a pj ?_|refine ca (hfn _) ?_|refine ca (hwr _) ?_|refine And.intro hgz ?_|fail)
      rw[<-hcm];exact rfl
   ·have d2:¬ (i:Int) < ((ms.map (D.int .i64)).length:Int):=om
    rw[List.drop_eq_nil_of_le om]at hcm
    by_cases k2:(nd t n).k=2
    ·obtain⟨ps,b,g1,g2,g3,g4⟩:=h.h4m hin k2
     have hwr:=fun H=>c7q (fx:=fx) (F:=F) h kn hknl g3 g4 true H
     have hd:(nd t n).D= .agg [.int .i64 (nd t n).k,.str (nd t n).t,.int .i64 (nd t n).v,.sl ((nd t n).kids.map (D.int .i64)),.int .i64 (nd t n).f,.int .i64 (nd t n).e]:=rfl
     rw[hd]at pn
     have hpm:ps=ms:=by rw[<-hms,g2]
     have pr:0<=((ms.map (D.int .i64)).length:Int)/\((nd t n).kids.map (D.int .i64))[((ms.map (D.int .i64)).length:Int).toNat]? =some (.int .i64 (ret t n)):=by
      rw[hmm,Int.toNat_natCast,g1,hpm];exact⟨om,by simp⟩
     rw[show rtl t n=[ret t n] from if_pos k2,decide_eq_true k2]at hcm
     rw[decide_eq_true k2]at hfn
     cases hg:tyG t (fun s=>decide (s∈kn)) true [ret t n] with
     |none=>
      rw[hg]at hwr hcm;simp only[dgO]at hwr
      repeat' (first|refine run ⟨?_⟩|refine a0a pj ?_|refine ca (hfn _) ?_|refine a0a pn ?_|refine a0a pr ?_|refine ca (hwr _) ?_|refine And.intro hgz ?_|fail)
      exact⟨j+1,⟨om,hcm⟩,om,by rw[wj];rfl,rfl⟩
     |some p=>
      obtain⟨c,x⟩:=p
      have hc:=g5k hg
      rw[hg]at hwr hcm;simp only[dgO]at hwr
      have nc:(!decide (c=0))=true:=by rw[decide_eq_false hc];rfl
      repeat' (first|refine run ⟨?_⟩|refine a0a pj ?_|refine ca (hfn _) ?_|refine a0a pn ?_|refine a0a pr ?_|refine ca (hwr _) ?_|refine And.intro hgz ?_|fail)
      rw[<-hcm];exact rfl
    ·rw[show rtl t n=[] from if_neg k2]at hcm
     rw[decide_eq_false k2]at hfn
     repeat' (first|refine run ⟨?_⟩|refine a0a pj ?_|refine ca (hfn _) ?_|fail)
     exact⟨j+1,⟨om,hcm⟩,om,by rw[wj];rfl,rfl⟩
  ·have c2:¬ (j:Int) < ((l.map (D.int .i64)).length:Int):=om
   rw[List.drop_eq_nil_of_le om]at hco
   refine run ⟨?_⟩
   rw[<-hco];exact rfl
end
end Go.Vm.Ite





namespace Go.Vm.Ite
open Go Go.Vm Go.Proofs Go.Vm.Ip
section
variable {fx:Nat->Option Obj} {F:Nat->Option a0t}
theorem c3d {l:List Fld} {j:Nat} (h:j < l.length):l.getD j default∈l:=by simp[List.getD_eq_getElem?_getD,List.getElem?_eq_getElem h]
end
end Go.Vm.Ite





namespace Go.Vm.Ite
open Go Go.Vm Go.Proofs Go.Vm.Ip
open Go.Vm.Lex (a3c)
section
variable {fx:Nat->Option Obj} {F:Nat->Option a0t}
theorem f3v (s:S) (H:Hp):evF (pgL fx F) c9n [str s] H=some (boo (biB s),H):=by
 refine a1d (d2o (F:=F)) rfl rfl ?_ H
 unfold biB
 by_cases c5:s=b1m
 ·have c5':s=[112,114,105,110,116]:=c5
  rw[decide_eq_true c5]
  refine run ⟨?_⟩
  exact rfl
 rw[decide_eq_false c5]
 have c5':¬ s=[112,114,105,110,116]:=c5
 by_cases c6:s=c1d
 ·have c6':s=[114,101,97,100]:=c6
  rw[decide_eq_true c6]
  refine run ⟨?_⟩
  exact rfl
 rw[decide_eq_false c6]
 have c6':¬ s=[114,101,97,100]:=c6
 refine run ⟨?_⟩
 exact rfl
theorem gS2 {l:List S} {i:Nat} (h:i < l.length):0<=(i:Int)/\(l.map D.str)[(i:Int).toNat]? =some (.str (l.getD i [])):=by
 refine⟨om,?_⟩
 rw[Int.toNat_natCast,List.getElem?_map,List.getElem?_eq_getElem h]
 simp[List.getD_eq_getElem?_getD,List.getElem?_eq_getElem h]
theorem f9v (l:List S) (hl:l.length<=mx) (s:S) (H:Hp):evF (pgL fx F) d7s [.d (.sl (l.map D.str)),str s] H=some (boo (decide (s∈l)),H):=by
 have hl':l.length<=140737488355328:=hl
 have hlm:(l.map D.str).length=l.length:=List.length_map ..
 refine a1d (d7y (F:=F)) rfl rfl ?_ H
 refine run ⟨?_⟩
 refine a0g (α:=Nat) (fun a=>l.length - a) (fun a=>[(0,.d (.sl (l.map D.str))),(1,str s),(5,i64 a)]) (fun _=>[]) (fun a=>a<=l.length/\s∉l.take a) ?_ 0 ⟨Nat.zero_le _,by simp⟩ rfl rfl
 rintro j ⟨hj,hs⟩
 by_cases h:j < l.length
 ·have h':(j:Int) < ((l.map D.str).length:Int):=by rw[hlm];omega
  have pj:=gS2 h
  have ht:=a5d (d:=[]) h
  have hm:l.getD j []∈l:=by simp[List.getD_eq_getElem?_getD,List.getElem?_eq_getElem h]
  revert pj ht hm
  generalize l.getD j []=y
  intro pj ht hm
  by_cases c:y=s
  ·rw[decide_eq_true (c ▸ hm)]
   repeat' (first|refine run ⟨?_⟩|refine a0a pj ?_|fail)
   exact rfl
  ·have hs2:s∉l.take (j+1):=by
    rw[ht,List.mem_append,List.mem_singleton,not_or]
    exact⟨hs,fun e=>c e.symm⟩
   repeat' (first|refine run ⟨?_⟩|refine a0a pj ?_|fail)
   exact⟨j+1,⟨om,hs2⟩,om,by rw[a0w om]<;>rfl,rfl⟩
 ·have h':¬ (j:Int) < ((l.map D.str).length:Int):=by rw[hlm];omega
  obtain rfl:j=l.length:=om
  rw[List.take_length]at hs
  rw[decide_eq_false hs]
  refine run ⟨?_⟩
  exact rfl
set_option maxHeartbeats 1000000 in
theorem e1w (x:Its) (hx:b0r x) (s:S) (H:Hp):evF (pgL fx F) d0c [.d x.D,str s] H=some (.tup [.d (a2h (flM x s)),boo (enB x s),boo (kn x s)],H):=by
 have hl1:x.ss.length<=140737488355328:=hx.ss
 have hl2:x.es.length<=140737488355328:=hx.es
 have m1:(x.ss.map Nam.D).length=x.ss.length:=List.length_map ..
 have m2:(x.es.map Nam.D).length=x.es.length:=List.length_map ..
 refine a1d (d1s (F:=F)) rfl rfl ?_ H
 unfold flM enB kn nam
 rw[show x.ss.map Nam.n=nS x from rfl,show x.es.map Nam.n=nE x from rfl]
 unfold known
 refine run ⟨?_⟩
 refine a0g (α:=Nat) (fun a=>x.ss.length - a) (fun a=>[(1,str s),(2,.ptr 0 0),(7,i64 a)]) (fun _=>[IB x]) (fun a=>a<=x.ss.length/\∀ j,j < a->(nS x)[j]? ≠some s) ?_ 0 ⟨Nat.zero_le _,fun j h=>absurd h (Nat.not_lt_zero j)⟩ rfl rfl
 rintro j ⟨hj,hs⟩
 by_cases h:j < x.ss.length
 ·have h':(j:Int) < ((x.ss.map Nam.D).length:Int):=by rw[m1];omega
  have pj:=gN h
  have hg:(nS x)[j]? =some (x.ss.getD j default).n:=by
   unfold nS
   rw[List.getElem?_map,List.getElem?_eq_getElem h,List.getD_eq_getElem?_getD,List.getElem?_eq_getElem h];rfl
  by_cases c:(x.ss.getD j default).n=s
  ·rw[f0x (c ▸ hg) hs]
   dsimp only
   revert pj c
   generalize x.ss.getD j default=y
   obtain⟨n,fs⟩:=y
   intro pj c
   dsimp only at c⊢
   repeat' (first|refine run ⟨?_⟩|refine a0a pj ?_|fail)
   exact rfl
  ·have hs2:∀ i,i < j+1->(nS x)[i]? ≠some s:=fun i hi=>by
     rcases Nat.lt_succ_iff_lt_or_eq.1 hi with q|q
     ·exact hs i q
     ·rw[q,hg];exact fun e=>c (Option.some.inj e)
   revert pj c
   generalize x.ss.getD j default=y
   obtain⟨n,fs⟩:=y
   intro pj c
   dsimp only at c
   repeat' (first|refine run ⟨?_⟩|refine a0a pj ?_|fail)
   exact⟨j+1,⟨om,hs2⟩,om,by rw[a0w om]<;>rfl,rfl⟩
 ·have h':¬ (j:Int) < ((x.ss.map Nam.D).length:Int):=by rw[m1];omega
  have hv:pos (nS x) s=none:=by
   cases hp:pos (nS x) s with
   |none=>rfl
   |some i=>
    have:=b2o hp
    unfold nS at this
    rw[List.length_map]at this
    exact absurd (b0i hp).1 (hs i om)
  rw[hv]
  dsimp only
  refine run ⟨?_⟩
  refine a0g (α:=Nat) (fun a=>x.es.length - a) (fun a=>[(1,str s),(2,.ptr 0 0),(8,i64 a)]) (fun _=>[IB x]) (fun a=>a<=x.es.length/\∀ j,j < a->(nE x)[j]? ≠some s) ?_ 0 ⟨Nat.zero_le _,fun j h=>absurd h (Nat.not_lt_zero j)⟩ rfl rfl
  rintro j ⟨hj,hs⟩
  by_cases h:j < x.es.length
  ·have h':(j:Int) < ((x.es.map Nam.D).length:Int):=by rw[m2];omega
   have pj:=gN h
   have hg:(nE x)[j]? =some (x.es.getD j default).n:=by
    unfold nE
    rw[List.getElem?_map,List.getElem?_eq_getElem h,List.getD_eq_getElem?_getD,List.getElem?_eq_getElem h];rfl
   by_cases c:(x.es.getD j default).n=s
   ·rw[f0x (c ▸ hg) hs]
    dsimp only
    revert pj c
    generalize x.es.getD j default=y
    obtain⟨n,fs⟩:=y
    intro pj c
    dsimp only at c⊢
    repeat' (first|refine run ⟨?_⟩|refine a0a pj ?_|fail)
    exact rfl
   ·have hs2:∀ i,i < j+1->(nE x)[i]? ≠some s:=fun i hi=>by
      rcases Nat.lt_succ_iff_lt_or_eq.1 hi with q|q
      ·exact hs i q
      ·rw[q,hg];exact fun e=>c (Option.some.inj e)
    revert pj c
    generalize x.es.getD j default=y
    obtain⟨n,fs⟩:=y
    intro pj c
    dsimp only at c
    repeat' (first|refine run ⟨?_⟩|refine a0a pj ?_|fail)
    exact⟨j+1,⟨om,hs2⟩,om,by rw[a0w om]<;>rfl,rfl⟩
  ·have h':¬ (j:Int) < ((x.es.map Nam.D).length:Int):=by rw[m2];omega
   have hv:pos (nE x) s=none:=by
    cases hp:pos (nE x) s with
    |none=>rfl
    |some i=>
     have:=b2o hp
     unfold nE at this
     rw[List.length_map]at this
     exact absurd (b0i hp).1 (hs i om)
   rw[hv]
   refine run ⟨?_⟩
   exact rfl
end
end Go.Vm.Ite
namespace Go.Vm.Ite
open Go.Vm.Tp (Nd a1r a1f a3x)
open Go.Vm.Ip
open Go.Vm.Io hiding S
def fsN (t:List Nd) (l:List Int):List S:=[b1m,c1d,b2k]++(l.filter fun n=>decide ((nd t n).k=2)).map fun n=>(nd t n).t
def d9e (t:List Nd) (l:List Int) (n:Int) (k:Nat):Bool:=(decide ((nd t n).k=2) && biB (nd t n).t)||(l.take k).any fun m=>decide ((nd t m).t=(nd t n).t) && (decide ((nd t m).k=2)==decide ((nd t n).k=2))
section
variable {t:List Nd}
theorem f6g (l:List Int) (n:Int):fsN t (l++[n])=if(nd t n).k=2 then fsN t l++[(nd t n).t] else fsN t l:=by
 unfold fsN
 rw[List.filter_append,List.map_append]
 by_cases c:(nd t n).k=2<;>simp[c]
theorem e2a {l:List Int} {n:Int} {k:Nat} (h:k < l.length):d9e t l n (k+1)=(d9e t l n k||(decide ((nd t l[k]).t=(nd t n).t) && (decide ((nd t l[k]).k=2)==decide ((nd t n).k=2)))):=by
 unfold d9e
 rw[List.take_add_one,List.getElem?_eq_getElem h,List.any_append,Option.toList_some,List.any_cons,List.any_nil,Bool.or_false,Bool.or_assoc]
theorem i0v {l:List Int} {n:Int} (k2:(nd t n).k=2) (j:Nat):d9e t l n j=decide ((nd t n).t∈fsN t (l.take j)):=by
 unfold d9e fsN biB
 rw[Bool.eq_iff_iff]
 simp only[k2,decide_true,Bool.true_and,Bool.or_eq_true,decide_eq_true_eq,List.any_eq_true,Bool.and_eq_true,beq_iff_eq,List.mem_append,List.mem_map,List.mem_filter,List.mem_cons,List.not_mem_nil,or_false]
 constructor
 ·rintro(h|⟨m,h1,h2,h3⟩)
  ·rcases h with(h|h)|h<;>simp[h]
  ·exact .inr ⟨m,⟨h1,h3⟩,h2⟩
 ·rintro(h|⟨m,⟨h1,h3⟩,h2⟩)
  ·rcases h with h|h|h<;>simp[h]
  ·exact .inr ⟨m,h1,h2,h3⟩
theorem h8h {l:List Int} {n:Int} (k2:¬ (nd t n).k=2) (j:Nat):d9e t l n j=decide ((nd t n).t∈b2l t (l.take j)):=by
 unfold d9e b2l
 rw[Bool.eq_iff_iff]
 simp only[k2,decide_false,Bool.false_and,Bool.false_or,decide_eq_true_eq,List.any_eq_true,Bool.and_eq_true,beq_iff_eq,List.mem_map,List.mem_filter,Bool.not_eq_true',decide_eq_false_iff_not]
 constructor
 ·rintro⟨m,h1,h2,h3⟩;exact⟨m,⟨h1,h3⟩,h2⟩
 ·rintro⟨m,⟨h1,h3⟩,h2⟩;exact⟨m,h1,h2,h3⟩
variable {fx:Nat->Option Obj} {F:Nat->Option a0t}
abbrev HBt (t:List Nd):Hp:=[.box [.d (.sl (t.map Nd.D))],.box [i64 0,i64 0,i64 0]]
set_option maxHeartbeats 8000000 in
theorem e6o (h:Rt t) (hkl:∀ i,(nd t i).kids.length<=1048576) (hll:(roots t).length<=1048576) (hro:∀ n∈roots t,In t n/\((nd t n).k=2\/(nd t n).k=3\/(nd t n).k=4)) (H:Hp):evF (pgL fx F) d0a [.d (a1r t)] H=some (.d (dgO t (b8v t [] [b1m,c1d,b2k] (roots t))),H):=by
 refine a1d (c9c (F:=F)) rfl rfl ?_ H
 have hr:=fun H=>a8r (fx:=fx) (F:=F) h H
 obtain⟨res,hres⟩:∃ res,dgO t (b8v t [] [b1m,c1d,b2k] (roots t))=res:=⟨_,rfl⟩
 rw[hres]
 generalize roots t=l at hr hll hro hres
 have hlm:(l.map (D.int .i64)).length=l.length:=List.length_map ..
 repeat' (first|refine run ⟨?_⟩|refine ca (hr _) ?_|fail)
 refine a0g (α:=Nat) (fun a=>l.length - a) (fun a=>[(1,.ptr 0 0),(2,.ptr 1 0),(3,.d (a7j l)),(4,i64 a)]) (fun a=>HBt t) (fun a=>a<=l.length/\dgO t (b8v t (b2l t (l.take a)) (fsN t (l.take a)) (l.drop a))=res) ?_ 0 ⟨Nat.zero_le _,hres⟩ rfl rfl
 rintro j ⟨hj,hco⟩
 by_cases c:j < l.length
 rotate_left
 ·have c2:¬ (j:Int) < ((l.map (D.int .i64)).length:Int):=om
  rw[List.drop_eq_nil_of_le om,b8v]at hco
  refine run ⟨?_⟩
  rw[<-hco];exact rfl
 have c2:(j:Int) < ((l.map (D.int .i64)).length:Int):=om
 have pj:=b9q c
 obtain⟨hin,hk⟩:=hro _ (List.getElem_mem c)
 have wj:IntKind.i64.wrap ((j:Int)+1)=((j+1:Nat):Int):=by rw[a0w om];omega
 have hts:l.take (j+1)=l.take j++[l[j]]:=by rw[List.take_add_one,List.getElem?_eq_getElem c];rfl
 have hs1:=d5c (t:=t) (l.take j) l[j]
 have hs2:=f6g (t:=t) (l.take j) l[j]
 rw[<-hts]at hs1 hs2
 rw[List.drop_eq_getElem_cons c,b8v]at hco
 have hfi:=fun m (hm:m∈l) H=>c0p (fx:=fx) (F:=F) (hro m hm).1 H
 have hni:=fun m (hm:m∈l)=>a3l (hro m hm).1
 generalize l[j]=n at pj hin hk hco hs1 hs2
 have pn:=a3l hin
 have hd:(nd t n).D= .agg [.int .i64 (nd t n).k,.str (nd t n).t,.int .i64 (nd t n).v,.sl ((nd t n).kids.map (D.int .i64)),.int .i64 (nd t n).f,.int .i64 (nd t n).e]:=rfl
 have hdg:=fun e H=>a6j (fx:=fx) (F:=F) hin e H
 have hme:=fun H=>b4h (fx:=fx) (F:=F) h hkl hin hk H
 have hfn:=fun H=>c0p (fx:=fx) (F:=F) hin H
 have hbi:=fun H=>f3v (fx:=fx) (F:=F) (nd t n).t H
 have hmi:=fun m (hm:m∈mem t n)=>h.inK hin (b2e hm)
 have hml:(mem t n).length<=1048576:=Nat.le_trans (b0p t n) (hkl n)
 generalize mem t n=ms at hme hmi hml hco
 have hmm:(ms.map (D.int .i64)).length=ms.length:=List.length_map ..
 have hgz:grew (HBt t) (HBt t++[.box [i64 0,str [],i64 0,.nils,i64 0,i64 0]])=true:=(a7o _ _).trans rfl
 by_cases k2:(nd t n).k=2
 ·rw[if_pos k2]at hco
  repeat' (first|refine run ⟨?_⟩|refine a0a pj ?_|refine a0a pn ?_|refine And.intro hgz ?_|refine ca (hbi _) ?_|fail)
  refine a0g (α:=Nat) (fun a=>j - a) (fun a=>[(1,.ptr 0 0),(2,.ptr 1 0),(3,.d (a7j l)),(4,i64 j),(5,.ptr 2 0),(6,boo (d9e t l n a)),(7,i64 a)]) (fun _=>HBt t++[NBx t n]) (fun a=>a<=j) ?_ 0 (Nat.zero_le _) (by rw[show d9e t l n 0=biB (nd t n).t from by unfold d9e;rw[decide_eq_true k2];simp]<;>rfl) rfl
  intro i hi
  have hfn:=hfn
  by_cases ci:i < j
  ·have d2:(i:Int) < (j:Int):=om
   have hil:i < l.length:=om
   have pi:=b9q hil
   have hmi2:=List.getElem_mem hil
   have pm:=hni _ hmi2
   have hfm:=hfi _ hmi2
   have hb:=e2a (t:=t) (n:=n) hil
   have wi:IntKind.i64.wrap ((i:Int)+1)=((i+1:Nat):Int):=by rw[a0w om];omega
   generalize l[i]=m at pi pm hfm hb
   have hdm:(nd t m).D= .agg [.int .i64 (nd t m).k,.str (nd t m).t,.int .i64 (nd t m).v,.sl ((nd t m).kids.map (D.int .i64)),.int .i64 (nd t m).f,.int .i64 (nd t m).e]:=rfl
   rw[hdm]at pm
   cases hb0:d9e t l n i with
   |true=>
    rw[hb0,Bool.true_or]at hb
    refine run ⟨?_⟩
    exact⟨i+1,om,om,by rw[wi,hb];rfl,rfl⟩
   |false=>
    rw[hb0,Bool.false_or]at hb
    by_cases ce:(nd t m).t=(nd t n).t
    ·rw[decide_eq_true ce,Bool.true_and]at hb
     repeat' (first|refine run ⟨?_⟩|refine a0a pi ?_|refine a0a pm ?_|refine ca (hfm _) ?_|refine a0a pj ?_|refine ca (hfn _) ?_|fail)
     exact⟨i+1,om,om,by rw[wi,hb];rfl,rfl⟩
    ·rw[decide_eq_false ce,Bool.false_and]at hb
     repeat' (first|refine run ⟨?_⟩|refine a0a pi ?_|refine a0a pm ?_|fail)
     exact⟨i+1,om,om,by rw[wi,hb];rfl,rfl⟩
  have d2:¬ (i:Int) < (j:Int):=om
  obtain rfl:i=j:=om
  rw[i0v k2]
  by_cases hm:(nd t n).t∈fsN t (l.take i)
  ·rw[if_pos hm]at hco
   rw[decide_eq_true hm]
   rw[<-hco]
   repeat' (first|refine run ⟨?_⟩|refine a0a pj ?_|refine ca (hdg _ _) ?_|fail)
   exact rfl
  rw[if_neg hm]at hco
  rw[decide_eq_false hm]
  by_cases hmost:6 < ms.length
  ·have d3:(6:Int) < ((ms.map (D.int .i64)).length:Int):=om
   rw[if_pos hmost]at hco
   rw[<-hco]
   repeat' (first|refine run ⟨?_⟩|refine a0a pj ?_|refine ca (hme _) ?_|refine ca (hdg _ _) ?_|fail)
   exact rfl
  have d3:¬ (6:Int) < ((ms.map (D.int .i64)).length:Int):=om
  rw[if_neg hmost]at hco
  repeat' (first|refine run ⟨?_⟩|refine a0a pj ?_|refine ca (hme _) ?_|fail)
  refine a0g (α:=Nat) (fun a=>ms.length - a) (fun a=>[(1,.ptr 0 0),(2,.ptr 1 0),(3,.d (a7j l)),(4,i64 i),(8,.d (a7j ms)),(10,i64 a)]) (fun _=>HBt t++[NBx t n]) (fun a=>a<=ms.length/\c8x t ((ms.take a).map fun k=>(nd t k).t) (ms.drop a)=c8x t [] ms) ?_ 0 ⟨Nat.zero_le _,rfl⟩ rfl rfl
  rintro a ⟨ha,hdu⟩
  by_cases cA:a < ms.length
  rotate_left
  ·have d4:¬ (a:Int) < ((ms.map (D.int .i64)).length:Int):=om
   rw[List.drop_eq_nil_of_le om,c8x]at hdu
   rw[<-hdu]at hco
   refine run ⟨?_⟩
   exact⟨i+1,⟨om,by rw[hs1,hs2,if_pos k2,if_pos k2];exact hco⟩,om,by rw[wj];rfl,rfl⟩
  have d4:(a:Int) < ((ms.map (D.int .i64)).length:Int):=om
  have pa:=b9q cA
  have hma:=List.getElem_mem cA
  have hta:ms.take (a+1)=ms.take a++[ms[a]]:=by rw[List.take_add_one,List.getElem?_eq_getElem cA];rfl
  rw[List.drop_eq_getElem_cons cA,c8x]at hdu
  have wa:IntKind.i64.wrap ((a:Int)+1)=((a+1:Nat):Int):=by rw[a0w om];omega
  generalize ms[a]=k at pa hma hta hdu
  have pk:=a3l (hmi _ hma)
  have hdk:=a6j (fx:=fx) (F:=F) (hmi _ hma) 140
  have hdd:(nd t k).D= .agg [.int .i64 (nd t k).k,.str (nd t k).t,.int .i64 (nd t k).v,.sl ((nd t k).kids.map (D.int .i64)),.int .i64 (nd t k).f,.int .i64 (nd t k).e]:=rfl
  rw[hdd]at pk
  refine run ⟨?_⟩
  refine a0g (α:=Nat) (fun b=>a - b) (fun b=>[(1,.ptr 0 0),(2,.ptr 1 0),(3,.d (a7j l)),(4,i64 i),(8,.d (a7j ms)),(10,i64 a),(11,i64 b)]) (fun _=>HBt t++[NBx t n]) (fun b=>b<=a/\(nd t k).t∉ (ms.take b).map fun k=>(nd t k).t) ?_ 0 ⟨Nat.zero_le _,by simp⟩ rfl rfl
  rintro b ⟨hb,hnb⟩
  by_cases cb:b < a
  rotate_left
  ·have d5:¬ (b:Int) < (a:Int):=om
   obtain rfl:b=a:=om
   rw[if_neg hnb]at hdu
   refine run ⟨?_⟩
   exact⟨b+1,⟨om,by rw[hta,List.map_append];exact hdu⟩,om,by rw[wa];rfl,rfl⟩
  have d5:(b:Int) < (a:Int):=om
  have hbl:b < ms.length:=om
  have pb:=b9q hbl
  have hmb:=List.getElem_mem hbl
  have htb:ms.take (b+1)=ms.take b++[ms[b]]:=by rw[List.take_add_one,List.getElem?_eq_getElem hbl];rfl
  have wb:IntKind.i64.wrap ((b:Int)+1)=((b+1:Nat):Int):=by rw[a0w om];omega
  have hsub:ms[b]∈ms.take a:=by
   rw[List.mem_take_iff_getElem];exact⟨b,om,rfl⟩
  generalize ms[b]=q at pb hmb htb hsub
  have pq:=a3l (hmi _ hmb)
  have hdq:(nd t q).D= .agg [.int .i64 (nd t q).k,.str (nd t q).t,.int .i64 (nd t q).v,.sl ((nd t q).kids.map (D.int .i64)),.int .i64 (nd t q).f,.int .i64 (nd t q).e]:=rfl
  rw[hdq]at pq
  by_cases ce:(nd t q).t=(nd t k).t
  ·have hin2:(nd t k).t∈(ms.take a).map fun k=>(nd t k).t:=by rw[<-ce];exact List.mem_map.2 ⟨q,hsub,rfl⟩
   rw[if_pos hin2]at hdu
   rw[<-hdu]at hco
   simp only[dgO]at hco
   rw[<-hco]
   repeat' (first|refine run ⟨?_⟩|refine a0a pb ?_|refine a0a pq ?_|refine a0a pa ?_|refine a0a pk ?_|refine ca (hdk _) ?_|fail)
   exact rfl
  ·repeat' (first|refine run ⟨?_⟩|refine a0a pb ?_|refine a0a pq ?_|refine a0a pa ?_|refine a0a pk ?_|fail)
   exact⟨b+1,⟨om,by rw[htb,List.map_append,List.mem_append];rintro(e|e);exact hnb e;exact ce (List.mem_singleton.1 e).symm⟩,om,by rw[wb];rfl,rfl⟩
 ·rw[if_neg k2]at hco
  repeat' (first|refine run ⟨?_⟩|refine a0a pj ?_|refine a0a pn ?_|refine And.intro hgz ?_|refine ca (hbi _) ?_|fail)
  refine a0g (α:=Nat) (fun a=>j - a) (fun a=>[(1,.ptr 0 0),(2,.ptr 1 0),(3,.d (a7j l)),(4,i64 j),(5,.ptr 2 0),(6,boo (d9e t l n a)),(7,i64 a)]) (fun _=>HBt t++[NBx t n]) (fun a=>a<=j) ?_ 0 (Nat.zero_le _) (by rw[show d9e t l n 0=false from by unfold d9e;rw[decide_eq_false k2];simp]<;>rfl) rfl
  intro i hi
  have hfn:=hfn
  by_cases ci:i < j
  ·have d2:(i:Int) < (j:Int):=om
   have hil:i < l.length:=om
   have pi:=b9q hil
   have hmi2:=List.getElem_mem hil
   have pm:=hni _ hmi2
   have hfm:=hfi _ hmi2
   have hb:=e2a (t:=t) (n:=n) hil
   have wi:IntKind.i64.wrap ((i:Int)+1)=((i+1:Nat):Int):=by rw[a0w om];omega
   generalize l[i]=m at pi pm hfm hb
   have hdm:(nd t m).D= .agg [.int .i64 (nd t m).k,.str (nd t m).t,.int .i64 (nd t m).v,.sl ((nd t m).kids.map (D.int .i64)),.int .i64 (nd t m).f,.int .i64 (nd t m).e]:=rfl
   rw[hdm]at pm
   cases hb0:d9e t l n i with
   |true=>
    rw[hb0,Bool.true_or]at hb
    refine run ⟨?_⟩
    exact⟨i+1,om,om,by rw[wi,hb];rfl,rfl⟩
   |false=>
    rw[hb0,Bool.false_or]at hb
    by_cases ce:(nd t m).t=(nd t n).t
    ·rw[decide_eq_true ce,Bool.true_and]at hb
     repeat' (first|refine run ⟨?_⟩|refine a0a pi ?_|refine a0a pm ?_|refine ca (hfm _) ?_|refine a0a pj ?_|refine ca (hfn _) ?_|fail)
     exact⟨i+1,om,om,by rw[wi,hb];rfl,rfl⟩
    ·rw[decide_eq_false ce,Bool.false_and]at hb
     repeat' (first|refine run ⟨?_⟩|refine a0a pi ?_|refine a0a pm ?_|fail)
     exact⟨i+1,om,om,by rw[wi,hb];rfl,rfl⟩
  have d2:¬ (i:Int) < (j:Int):=om
  obtain rfl:i=j:=om
  rw[h8h k2]
  by_cases hm:(nd t n).t∈b2l t (l.take i)
  ·rw[if_pos hm]at hco
   rw[decide_eq_true hm]
   rw[<-hco]
   repeat' (first|refine run ⟨?_⟩|refine a0a pj ?_|refine ca (hdg _ _) ?_|fail)
   exact rfl
  rw[if_neg hm]at hco
  rw[decide_eq_false hm]
  by_cases hmost:16 < ms.length
  ·have d3:(16:Int) < ((ms.map (D.int .i64)).length:Int):=om
   rw[if_pos hmost]at hco
   rw[<-hco]
   repeat' (first|refine run ⟨?_⟩|refine a0a pj ?_|refine ca (hme _) ?_|refine ca (hdg _ _) ?_|fail)
   exact rfl
  have d3:¬ (16:Int) < ((ms.map (D.int .i64)).length:Int):=om
  rw[if_neg hmost]at hco
  repeat' (first|refine run ⟨?_⟩|refine a0a pj ?_|refine ca (hme _) ?_|fail)
  refine a0g (α:=Nat) (fun a=>ms.length - a) (fun a=>[(1,.ptr 0 0),(2,.ptr 1 0),(3,.d (a7j l)),(4,i64 i),(8,.d (a7j ms)),(10,i64 a)]) (fun _=>HBt t++[NBx t n]) (fun a=>a<=ms.length/\c8x t ((ms.take a).map fun k=>(nd t k).t) (ms.drop a)=c8x t [] ms) ?_ 0 ⟨Nat.zero_le _,rfl⟩ rfl rfl
  rintro a ⟨ha,hdu⟩
  by_cases cA:a < ms.length
  rotate_left
  ·have d4:¬ (a:Int) < ((ms.map (D.int .i64)).length:Int):=om
   rw[List.drop_eq_nil_of_le om,c8x]at hdu
   rw[<-hdu]at hco
   refine run ⟨?_⟩
   exact⟨i+1,⟨om,by rw[hs1,hs2,if_neg k2,if_neg k2];exact hco⟩,om,by rw[wj];rfl,rfl⟩
  have d4:(a:Int) < ((ms.map (D.int .i64)).length:Int):=om
  have pa:=b9q cA
  have hma:=List.getElem_mem cA
  have hta:ms.take (a+1)=ms.take a++[ms[a]]:=by rw[List.take_add_one,List.getElem?_eq_getElem cA];rfl
  rw[List.drop_eq_getElem_cons cA,c8x]at hdu
  have wa:IntKind.i64.wrap ((a:Int)+1)=((a+1:Nat):Int):=by rw[a0w om];omega
  generalize ms[a]=k at pa hma hta hdu
  have pk:=a3l (hmi _ hma)
  have hdk:=a6j (fx:=fx) (F:=F) (hmi _ hma) 140
  have hdd:(nd t k).D= .agg [.int .i64 (nd t k).k,.str (nd t k).t,.int .i64 (nd t k).v,.sl ((nd t k).kids.map (D.int .i64)),.int .i64 (nd t k).f,.int .i64 (nd t k).e]:=rfl
  rw[hdd]at pk
  refine run ⟨?_⟩
  refine a0g (α:=Nat) (fun b=>a - b) (fun b=>[(1,.ptr 0 0),(2,.ptr 1 0),(3,.d (a7j l)),(4,i64 i),(8,.d (a7j ms)),(10,i64 a),(11,i64 b)]) (fun _=>HBt t++[NBx t n]) (fun b=>b<=a/\(nd t k).t∉ (ms.take b).map fun k=>(nd t k).t) ?_ 0 ⟨Nat.zero_le _,by simp⟩ rfl rfl
  rintro b ⟨hb,hnb⟩
  by_cases cb:b < a
  rotate_left
  ·have d5:¬ (b:Int) < (a:Int):=om
   obtain rfl:b=a:=om
   rw[if_neg hnb]at hdu
   refine run ⟨?_⟩
   exact⟨b+1,⟨om,by rw[hta,List.map_append];exact hdu⟩,om,by rw[wa];rfl,rfl⟩
  have d5:(b:Int) < (a:Int):=om
  have hbl:b < ms.length:=om
  have pb:=b9q hbl
  have hmb:=List.getElem_mem hbl
  have htb:ms.take (b+1)=ms.take b++[ms[b]]:=by rw[List.take_add_one,List.getElem?_eq_getElem hbl];rfl
  have wb:IntKind.i64.wrap ((b:Int)+1)=((b+1:Nat):Int):=by rw[a0w om];omega
  have hsub:ms[b]∈ms.take a:=by
   rw[List.mem_take_iff_getElem];exact⟨b,om,rfl⟩
  generalize ms[b]=q at pb hmb htb hsub
  have pq:=a3l (hmi _ hmb)
  have hdq:(nd t q).D= .agg [.int .i64 (nd t q).k,.str (nd t q).t,.int .i64 (nd t q).v,.sl ((nd t q).kids.map (D.int .i64)),.int .i64 (nd t q).f,.int .i64 (nd t q).e]:=rfl
  rw[hdq]at pq
  by_cases ce:(nd t q).t=(nd t k).t
  ·have hin2:(nd t k).t∈(ms.take a).map fun k=>(nd t k).t:=by rw[<-ce];exact List.mem_map.2 ⟨q,hsub,rfl⟩
   rw[if_pos hin2]at hdu
   rw[<-hdu]at hco
   simp only[dgO]at hco
   rw[<-hco]
   repeat' (first|refine run ⟨?_⟩|refine a0a pb ?_|refine a0a pq ?_|refine a0a pa ?_|refine a0a pk ?_|refine ca (hdk _) ?_|fail)
   exact rfl
  ·repeat' (first|refine run ⟨?_⟩|refine a0a pb ?_|refine a0a pq ?_|refine a0a pa ?_|refine a0a pk ?_|fail)
   exact⟨b+1,⟨om,by rw[htb,List.map_append,List.mem_append];rintro(e|e);exact hnb e;exact ce (List.mem_singleton.1 e).symm⟩,om,by rw[wb];rfl,rfl⟩
end
end Go.Vm.Ite
namespace Go.Vm.Ite
open Go.Vm.Tp (Nd a1r a1f a3x)
open Go.Vm.Ip
open Go.Vm.Io hiding S
section
variable {fx:Nat->Option Obj} {F:Nat->Option a0t}
set_option maxHeartbeats 4000000 in
theorem e1c (t:List Nd) (h:Rf t):∀ (n:Nat) (i:Int),n<=20000->In t i->a3x (nd t i).k=true->i.toNat < n->∀ H,evF (pgL fx F) b2i [.d (a1r t),.d (.int .i64 i)] H=some (str (txt t n i),H)
 |0,_,_,_,_,hn,_=>absurd hn (Nat.not_lt_zero _)
 |n+1,i,hm,hi,hty,hn,H=>by
  have pn:=a3l hi
  have hk:(nd t i).k=10\/(nd t i).k=11\/(nd t i).k=12\/(nd t i).k=13\/(nd t i).k=14\/(nd t i).k=15\/(nd t i).k=16:=by
   unfold a3x at hty
   simp only[Bool.and_eq_true,decide_eq_true_eq]at hty
   omega
  have ih:=fun a (ha:a∈(nd t i).kids) (hb:a3x (nd t a).k=true)=>e1c t h n a om (h.rt.inK hi ha) hb (by have:=h.rt.kid i hi a ha;omega)
  have hl:=fun a=>d2a h n a
  refine a1d (c2c (F:=F)) rfl rfl ?_ H
  rw[txt]
  rcases hk with e|e|e|e|e|e|e
  ·have y10:=e
   repeat' (first|refine run ⟨?_⟩|refine a0a pn ?_|fail)
   rw[if_pos e];exact rfl
  ·have n10:¬ (nd t i).k=10:=om
   have y11:=e
   repeat' (first|refine run ⟨?_⟩|refine a0a pn ?_|fail)
   rw[if_neg n10];rw[if_pos e];exact rfl
  ·have n10:¬ (nd t i).k=10:=om
   have n11:¬ (nd t i).k=11:=om
   have y12:=e
   repeat' (first|refine run ⟨?_⟩|refine a0a pn ?_|fail)
   rw[if_neg n10];rw[if_neg n11];rw[if_pos e];exact rfl
  ·have n10:¬ (nd t i).k=10:=om
   have n11:¬ (nd t i).k=11:=om
   have n12:¬ (nd t i).k=12:=om
   have n14:¬ (nd t i).k=14:=om
   have n15:¬ (nd t i).k=15:=om
   have n16:¬ (nd t i).k=16:=om
   repeat' (first|refine run ⟨?_⟩|refine a0a pn ?_|fail)
   rw[if_neg n10];rw[if_neg n11];rw[if_neg n12];rw[if_neg n14];rw[if_neg n15];rw[if_neg n16];exact rfl
  ·have n10:¬ (nd t i).k=10:=om
   have n11:¬ (nd t i).k=11:=om
   have n12:¬ (nd t i).k=12:=om
   have n13:¬ (nd t i).k=13:=om
   obtain⟨a,ek,ea⟩:=h.rt.ref i hi om
   have pk:(0:Int)<=0/\((nd t i).kids.map (D.int .i64))[(0:Int).toNat]? =some (.int .i64 a):=⟨Int.le_refl _,by rw[ek];rfl⟩
   have hc:=ih a (by rw[ek];exact List.mem_cons_self) ea
   have hla:=hl a
   have l1:∀ p:S,p.length<=10->p.length+(txt t n a).length<=9223372036854775807:=fun p hp=>om
   have l2:∀ p q:S,p.length<=10->q.length<=10->(p++txt t n a).length+q.length<=9223372036854775807:=fun p q hp hq=>by rw[List.length_append];omega
   repeat' (first|refine run ⟨?_⟩|refine a0a pn ?_|refine a0a pk ?_|refine ca (hc _) ?_|refine And.intro (l1 _ (by decide)) ?_|refine And.intro (l2 _ _ (by decide) (by decide)) ?_|fail)
   rw[if_neg n10];rw[if_neg n11];rw[if_neg n12];rw[if_pos e,ek];exact rfl
  ·have n10:¬ (nd t i).k=10:=om
   have n11:¬ (nd t i).k=11:=om
   have n12:¬ (nd t i).k=12:=om
   have n13:¬ (nd t i).k=13:=om
   have n14:¬ (nd t i).k=14:=om
   obtain⟨a,ek,ea⟩:=h.rt.ref i hi om
   have pk:(0:Int)<=0/\((nd t i).kids.map (D.int .i64))[(0:Int).toNat]? =some (.int .i64 a):=⟨Int.le_refl _,by rw[ek];rfl⟩
   have hc:=ih a (by rw[ek];exact List.mem_cons_self) ea
   have hla:=hl a
   have l1:∀ p:S,p.length<=10->p.length+(txt t n a).length<=9223372036854775807:=fun p hp=>om
   have l2:∀ p q:S,p.length<=10->q.length<=10->(p++txt t n a).length+q.length<=9223372036854775807:=fun p q hp hq=>by rw[List.length_append];omega
   repeat' (first|refine run ⟨?_⟩|refine a0a pn ?_|refine a0a pk ?_|refine ca (hc _) ?_|refine And.intro (l1 _ (by decide)) ?_|refine And.intro (l2 _ _ (by decide) (by decide)) ?_|fail)
   rw[if_neg n10];rw[if_neg n11];rw[if_neg n12];rw[if_neg n14];rw[if_pos e,ek];exact rfl
  ·have n10:¬ (nd t i).k=10:=om
   have n11:¬ (nd t i).k=11:=om
   have n12:¬ (nd t i).k=12:=om
   have n13:¬ (nd t i).k=13:=om
   have n14:¬ (nd t i).k=14:=om
   have n15:¬ (nd t i).k=15:=om
   obtain⟨a,ek,ea⟩:=h.rt.ref i hi om
   have pk:(0:Int)<=0/\((nd t i).kids.map (D.int .i64))[(0:Int).toNat]? =some (.int .i64 a):=⟨Int.le_refl _,by rw[ek];rfl⟩
   have hc:=ih a (by rw[ek];exact List.mem_cons_self) ea
   have hla:=hl a
   have l1:∀ p:S,p.length<=10->p.length+(txt t n a).length<=9223372036854775807:=fun p hp=>om
   have l2:∀ p q:S,p.length<=10->q.length<=10->(p++txt t n a).length+q.length<=9223372036854775807:=fun p q hp hq=>by rw[List.length_append];omega
   repeat' (first|refine run ⟨?_⟩|refine a0a pn ?_|refine a0a pk ?_|refine ca (hc _) ?_|refine And.intro (l1 _ (by decide)) ?_|refine And.intro (l2 _ _ (by decide) (by decide)) ?_|fail)
   rw[if_neg n10];rw[if_neg n11];rw[if_neg n12];rw[if_neg n14];rw[if_neg n15];rw[if_pos e,ek];exact rfl
theorem e3j {t:List Nd} (h:Rf t) {i:Int} (hi:In t i) (hty:a3x (nd t i).k=true) (H:Hp):evF (pgL fx F) b2i [.d (a1r t),.d (.int .i64 i)] H=some (str (tx t i),H):=e1c t h t.length i h.rt.hi hi hty hi.2 H
end
section
variable {fx:Nat->Option Obj} {F:Nat->Option a0t} {t:List Nd}
theorem f5t (l:List Int) (n:Int):a0z t (l++[n])=if(nd t n).k=3 then⟨(a0z t l).ss++[a2v t n],(a0z t l).es,(a0z t l).fs⟩ else if(nd t n).k=4 then⟨(a0z t l).ss,(a0z t l).es++[a2v t n],(a0z t l).fs⟩ else⟨(a0z t l).ss,(a0z t l).es,(a0z t l).fs++[a9w t n]⟩:=by
 unfold a0z
 simp only[List.filter_append,List.map_append]
 by_cases k3:(nd t n).k=3
 ·have k4:¬ (nd t n).k=4:=om
  simp[is2,is3,is4,k3]
 ·by_cases k4:(nd t n).k=4<;>simp[is2,is3,is4,k3,k4]
theorem g3o (l:List Int):(a0z t l).ss.length<=l.length/\(a0z t l).es.length<=l.length/\(a0z t l).fs.length<=l.length:=by
 unfold a0z
 simp only[List.length_map]
 exact⟨List.length_filter_le _ _,List.length_filter_le _ _,List.length_filter_le _ _⟩
abbrev S6 (t:List Nd) (x:Its):Hp:=[.box [.d (.sl (t.map Nd.D))],.box [.nils,.nils,.nils],.box [.row 3 x.ss.length,.row 4 x.es.length,.row 5 x.fs.length],.row 2 (x.ss.map Nam.D),.row 2 (x.es.map Nam.D),.row 5 (x.fs.map Fnc.D)]
set_option maxHeartbeats 8000000 in
theorem f1s (hR:Rf t) (hll:(roots t).length<=1048576) (hro:∀ n∈roots t,In t n/\((nd t n).k=2\/(nd t n).k=3\/(nd t n).k=4)) (H:Hp):evF (pgL fx F) d3r [.d (a1r t)] H=some (.d (a0z t (roots t)).D,H):=by
 refine a1d (d3x (F:=F)) rfl rfl ?_ H
 have h:=hR.rt
 have hkl:=hR.kl
 have hr:=fun H=>a8r (fx:=fx) (F:=F) h H
 generalize roots t=l at hr hll hro⊢
 have hlm:(l.map (D.int .i64)).length=l.length:=List.length_map ..
 repeat' (first|refine run ⟨?_⟩|refine ca (hr _) ?_|fail)
 refine a0g (α:=Nat) (fun a=>l.length - a) (fun a=>[(1,.ptr 0 0),(2,.ptr 1 0),(3,.ptr 2 0),(4,.d (a7j l)),(5,i64 a)]) (fun a=>S6 t (a0z t (l.take a))) (fun a=>a<=l.length) ?_ 0 (Nat.zero_le _) rfl rfl
 intro j hj
 obtain⟨l1,l2,l3⟩:=g3o (t:=t) (l.take j)
 have hkl2:(l.take j).length=j:=by rw[List.length_take];omega
 by_cases c:j < l.length
 rotate_left
 ·have c2:¬ (j:Int) < ((l.map (D.int .i64)).length:Int):=om
  obtain rfl:j=l.length:=om
  rw[List.take_length]
  have e1:((a0z t l).ss.map Nam.D).length=(a0z t l).ss.length:=List.length_map ..
  have e2:((a0z t l).es.map Nam.D).length=(a0z t l).es.length:=List.length_map ..
  have e3:((a0z t l).fs.map Fnc.D).length=(a0z t l).fs.length:=List.length_map ..
  repeat' (first|refine run ⟨?_⟩|refine And.intro e1 ?_|refine And.intro e2 ?_|refine And.intro e3 ?_|fail)
  first|exact rfl|exact⟨rfl,rfl⟩
 have c2:(j:Int) < ((l.map (D.int .i64)).length:Int):=om
 have pj:=b9q c
 obtain⟨hin,hk⟩:=hro _ (List.getElem_mem c)
 have wj:IntKind.i64.wrap ((j:Int)+1)=((j+1:Nat):Int):=by rw[a0w om];omega
 have hts:l.take (j+1)=l.take j++[l[j]]:=by rw[List.take_add_one,List.getElem?_eq_getElem c];rfl
 have hsn:=f5t (t:=t) (l.take j) l[j]
 rw[<-hts]at hsn
 generalize l[j]=n at pj hin hk hsn
 generalize a0z t (l.take j)=it at l1 l2 l3 hsn
 have pn:=a3l hin
 have hme:=fun H=>b4h (fx:=fx) (F:=F) h hkl hin hk H
 have hmk:=fun k hm=>h.h6t (n:=n) hin hk (k:=k) hm
 have hml:(mem t n).length<=1048576:=Nat.le_trans (b0p t n) (hkl n)
 obtain⟨ms,hms⟩:∃ ms,mem t n=ms:=⟨_,rfl⟩
 rw[hms]at hme hmk hml
 have hmm:(ms.map (D.int .i64)).length=ms.length:=List.length_map ..
 have hg1:grew (S6 t it) (S6 t it++[.box [i64 0,str [],i64 0,.nils,i64 0,i64 0]])=true:=(a7o _ _).trans rfl
 repeat' (first|refine run ⟨?_⟩|refine a0a pj ?_|refine a0a pn ?_|refine And.intro hg1 ?_|refine ca (hme _) ?_|fail)
 refine a0g (α:=Nat×List Fld×List Bool) (fun a=>ms.length - a.1) (fun a=>[(1,.ptr 0 0),(2,.ptr 1 0),(3,.ptr 2 0),(4,.d (a7j l)),(5,i64 j),(6,.ptr 6 0),(7,.row 7 a.2.1.length),(8,.row 8 a.2.2.length),(9,.d (a7j ms)),(10,i64 a.1)]) (fun a=>S6 t it++[NBx t n,.row 2 (a.2.1.map Fld.D),.row 1 (a.2.2.map .bool)]) (fun a=>a.1<=ms.length/\a.2.1=(ms.take a.1).map (a3q t)/\a.2.2=(ms.take a.1).map (fun k=>decide ((nd t k).v=1))) ?_ (0,[],[]) ⟨Nat.zero_le _,rfl,rfl⟩ rfl rfl
 rintro⟨i,fs,bs⟩ ⟨hi,hfs,hbs⟩
 simp only at hi hfs hbs⊢
 have hfl:fs.length=i:=by rw[hfs,List.length_map,List.length_take];omega
 have hbl:bs.length=i:=by rw[hbs,List.length_map,List.length_take];omega
 by_cases hil:i < ms.length
 ·have d2:(i:Int) < ((ms.map (D.int .i64)).length:Int):=om
  have pi:=b9q hil
  obtain⟨him,hkm⟩:=hmk _ (List.getElem_mem hil)
  have hfs2:=a3i (a3q t) hil
  have hbs2:=a3i (fun k=>decide ((nd t k).v=1)) hil
  rw[<-hfs]at hfs2
  rw[<-hbs]at hbs2
  have wi:IntKind.i64.wrap ((i:Int)+1)=((i+1:Nat):Int):=by rw[a0w om];omega
  have hroom:(fs.map Fld.D).length=fs.length/\roomy (fs.length+1) 32:=⟨List.length_map ..,by unfold roomy;omega⟩
  have hroom2:(bs.map D.bool).length=bs.length/\roomy (bs.length+1) 1:=⟨List.length_map ..,by unfold roomy;omega⟩
  generalize ms[i]=m at pi him hkm hfs2 hbs2
  have pm:=a3l him
  have hkk:((nd t m).kids.map (D.int .i64)).length=(nd t m).kids.length:=List.length_map ..
  have hgr:grew (S6 t it++[NBx t n,.row 2 (fs.map Fld.D),.row 1 (bs.map .bool)]) (S6 t it++[NBx t n,.row 2 (fs.map Fld.D),.row 1 (bs.map .bool)]++[.box [i64 0,str [],i64 0,.nils,i64 0,i64 0]])=true:=(a7o _ _).trans rfl
  have fin:∀ s:S,a3q t m=⟨(nd t m).t,s⟩->(∃ a':Nat×List Fld×List Bool,(a'.1<=ms.length/\a'.2.1=(ms.take a'.1).map (a3q t)/\a'.2.2=(ms.take a'.1).map (fun k=>decide ((nd t k).v=1)))/\ms.length - a'.1 < ms.length - i/\([(1,.ptr 0 0),(2,.ptr 1 0),(3,.ptr 2 0),(4,.d (a7j l)),(5,i64 j),(6,.ptr 6 0),(7,.row 7 (fs.length+1)),(8,.row 8 (bs.length+1)),(9,.d (a7j ms)),(10,i64 (IntKind.i64.wrap ((i:Int)+1)))]:Env)=[(1,.ptr 0 0),(2,.ptr 1 0),(3,.ptr 2 0),(4,.d (a7j l)),(5,i64 j),(6,.ptr 6 0),(7,.row 7 a'.2.1.length),(8,.row 8 a'.2.2.length),(9,.d (a7j ms)),(10,i64 a'.1)]/\(S6 t it++[NBx t n,.row 2 (fs.map Fld.D++[.agg [.str (nd t m).t,.str s]]),.row 1 (bs.map .bool++[.bool (decide ((nd t m).v=1))])]:Hp)=S6 t it++[NBx t n,.row 2 (a'.2.1.map Fld.D),.row 1 (a'.2.2.map .bool)]):=fun s hs=>by
    refine⟨(i+1,fs++[a3q t m],bs++[decide ((nd t m).v=1)]),⟨by show i+1<=_;omega,hfs2,hbs2⟩,by show _ - (i+1) < _ - i;omega,by rw[wi,List.length_append,List.length_append];rfl,?_⟩
    rw[hs];simp only[List.map_append];rfl
  rcases hkm with e|⟨a,e,ha⟩
  ·have d3:¬ (((nd t m).kids.map (D.int .i64)).length:Int)=1:=by rw[e];simp
   repeat' (first|refine run ⟨?_⟩|refine a0a pi ?_|refine And.intro hgr ?_|refine a0a pm ?_|refine And.intro ⟨rfl,hroom⟩ ?_|refine And.intro ⟨rfl,hroom2⟩ ?_|refine And.intro ⟨rfl,by decide⟩ ?_|fail)
   exact fin [] (by unfold a3q;rw[e])
  ·have d3:(((nd t m).kids.map (D.int .i64)).length:Int)=1:=by rw[e];simp
   have hia:=h.inK him (k:=a) (by rw[e];exact List.mem_singleton.2 rfl)
   have hte:=fun H=>e3j (fx:=fx) (F:=F) hR hia ha H
   have pk:(0:Int)<=0/\((nd t m).kids.map (D.int .i64))[(0:Int).toNat]? =some (.int .i64 a):=⟨Int.le_refl _,by rw[e];rfl⟩
   repeat' (first|refine run ⟨?_⟩|refine a0a pi ?_|refine And.intro hgr ?_|refine a0a pm ?_|refine a0a pk ?_|refine ca (hte _) ?_|refine And.intro ⟨rfl,hroom⟩ ?_|refine And.intro ⟨rfl,hroom2⟩ ?_|refine And.intro ⟨rfl,by decide⟩ ?_|fail)
   exact fin (tx t a) (by unfold a3q;rw[e])
 have d2:¬ (i:Int) < ((ms.map (D.int .i64)).length:Int):=om
 obtain rfl:i=ms.length:=om
 rw[List.take_length]at hfs hbs
 rcases hk with k2|k3|k4
 ·have y3:¬ (nd t n).k=3:=om
  have y4:¬ (nd t n).k=4:=om
  rw[if_neg y3,if_neg y4]at hsn
  obtain⟨ps,b,g1,g2,g3,g4⟩:=h.h4m hin k2
  have hte:=fun H=>e3j (fx:=fx) (F:=F) hR g3 g4 H
  have hpm:ps=ms:=by rw[<-hms,g2]
  have pr:0<=((ms.map (D.int .i64)).length:Int)/\((nd t n).kids.map (D.int .i64))[((ms.map (D.int .i64)).length:Int).toNat]? =some (.int .i64 (ret t n)):=by
   rw[hmm,Int.toNat_natCast,g1,hpm];exact⟨om,by simp⟩
  have ht:toD (S6 t it++[NBx t n,.row 2 (fs.map Fld.D),.row 1 (bs.map .bool)]) (.agg [str (nd t n).t,.row 7 fs.length,.row 8 bs.length,str (tx t (ret t n)),i64 n])=some (a9w t n).D:=by
   simp[toD,a8i,d3i,a9w,Fnc.D,a2h,hms,hfs,hbs]
  have hroom:(it.fs.map Fnc.D).length=it.fs.length/\roomy (it.fs.length+1) 88:=⟨List.length_map ..,by unfold roomy;omega⟩
  repeat' (first|refine run ⟨?_⟩|refine a0a pj ?_|refine a0a pr ?_|refine ca (hte _) ?_|refine Exists.intro _ (And.intro ht ?_)|refine And.intro ⟨rfl,hroom⟩ ?_|refine And.intro ⟨rfl,by decide⟩ ?_|fail)
  refine⟨j+1,om,om,by rw[wj];rfl,?_⟩
  rw[hsn]
  show([.box [.d (.sl (t.map Nd.D))],.box [.nils,.nils,.nils],.box [.row 3 it.ss.length,.row 4 it.es.length,.row 5 (it.fs.length+1)],.row 2 (it.ss.map Nam.D),.row 2 (it.es.map Nam.D),.row 5 (it.fs.map Fnc.D++[(a9w t n).D])]:Hp)=_
  simp
 ·rw[if_pos k3]at hsn
  have ht:toD (S6 t it++[NBx t n,.row 2 (fs.map Fld.D),.row 1 (bs.map .bool)]) (.agg [str (nd t n).t,.row 7 fs.length])=some (a2v t n).D:=by
   have hm2:mem t n=(nd t n).kids:=by unfold mem;rw[if_neg om]
   simp[toD,a8i,d3i,a2v,Nam.D,a2h,<-hms,hm2,hfs]
  have hroom:(it.ss.map Nam.D).length=it.ss.length/\roomy (it.ss.length+1) 40:=⟨List.length_map ..,by unfold roomy;omega⟩
  repeat' (first|refine run ⟨?_⟩|refine Exists.intro _ (And.intro ht ?_)|refine And.intro ⟨rfl,hroom⟩ ?_|refine And.intro ⟨rfl,by decide⟩ ?_|fail)
  refine⟨j+1,om,om,by rw[wj];rfl,?_⟩
  rw[hsn]
  show([.box [.d (.sl (t.map Nd.D))],.box [.nils,.nils,.nils],.box [.row 3 (it.ss.length+1),.row 4 it.es.length,.row 5 it.fs.length],.row 2 (it.ss.map Nam.D++[(a2v t n).D]),.row 2 (it.es.map Nam.D),.row 5 (it.fs.map Fnc.D)]:Hp)=_
  simp
 ·have y3:¬ (nd t n).k=3:=om
  rw[if_neg y3,if_pos k4]at hsn
  have ht:toD (S6 t it++[NBx t n,.row 2 (fs.map Fld.D),.row 1 (bs.map .bool)]) (.agg [str (nd t n).t,.row 7 fs.length])=some (a2v t n).D:=by
   have hm2:mem t n=(nd t n).kids:=by unfold mem;rw[if_neg om]
   simp[toD,a8i,d3i,a2v,Nam.D,a2h,<-hms,hm2,hfs]
  have hroom:(it.es.map Nam.D).length=it.es.length/\roomy (it.es.length+1) 40:=⟨List.length_map ..,by unfold roomy;omega⟩
  repeat' (first|refine run ⟨?_⟩|refine Exists.intro _ (And.intro ht ?_)|refine And.intro ⟨rfl,hroom⟩ ?_|refine And.intro ⟨rfl,by decide⟩ ?_|fail)
  refine⟨j+1,om,om,by rw[wj];rfl,?_⟩
  rw[hsn]
  show([.box [.d (.sl (t.map Nd.D))],.box [.nils,.nils,.nils],.box [.row 3 it.ss.length,.row 4 (it.es.length+1),.row 5 it.fs.length],.row 2 (it.ss.map Nam.D),.row 2 (it.es.map Nam.D++[(a2v t n).D]),.row 5 (it.fs.map Fnc.D)]:Hp)=_
  simp
end
end Go.Vm.Ite



namespace Go.Vm.Ite
open Go Go.Vm Go.Proofs Go.Vm.Ip
open Go.Vm.Lex (a3c)
theorem a7r (l:List S):((l.map D.str).all (fun y=>y.cells.length==1))=true:=by
  rw[List.all_eq_true];intro y hy;obtain⟨s,_,rfl⟩:=List.mem_map.1 hy;rfl
abbrev e8d (x:Its) (seen:List S):Nat:=owG (fun n=>(flT x n).length) seen (nS x++nE x)
section
variable {fx:Nat->Option Obj} {F:Nat->Option a0t}
set_option maxHeartbeats 4000000 in
theorem d5v (x:Its) (hx:b0r x) (hnm:∀ s,kn x s=true->a3c s=true) (hsm:∀ n,(flM x n).length<=16) (hl:(nS x++nE x).length<=128) (s:S) (hk:kn x s=true) (H:Hp):evF (pgL fx F) c3m [.d x.D,str s] H=some (boo (e6x x s),H):=by
 have ep:=e1w (fx:=fx) (F:=F) x hx
 have hs0:s≠[]:=fun e=>by have:=hnm s hk;rw[e]at this;exact absurd this (by decide)
 have hft:∀ n,(flT x n).length<=16:=fun n=>by unfold flT;rw[List.length_map];exact hsm n
 have hb0:e8d x []<=2048:=Nat.le_trans (d4t hft [] _) om
 refine a1d (c5s (F:=F)) rfl rfl ?_ H
 have e1:=ep s
 rw[hk]at e1
 unfold e6x
 have hlm:((flM x s).map Fld.D).length=(flM x s).length:=List.length_map ..
 have ha:=hsm s
 cases c1:enB x s with
 |true=>
  rw[c1]at e1
  by_cases c2:flM x s=[]
  ·rw[decide_eq_true c2]
   rw[c2]at e1
   repeat' (first|refine run ⟨?_⟩|refine ca (e1 _) ?_|fail)
   exact rfl
  ·rw[decide_eq_false c2]
   have c2':¬ ((((flM x s).map Fld.D).length:Nat):Int)=0:=by
    rw[hlm];intro e;exact c2 (List.length_eq_zero_iff.1 om)
   revert e1 c2' c2 hlm ha
   generalize flM x s=l0
   intro e1 hlm ha c2 c2'
   simp only[Bool.true_and,Bool.false_or]
   repeat' (first|refine run ⟨?_⟩|refine ca (e1 _) ?_|fail)
   refine a0g (α:=List S×List S) (fun a=>a.2.length+e8d x a.1) (fun a=>[(1,str s),(2,.ptr 0 0),(8,.row 1 a.1.length),(9,.d (.sl (a.2.map D.str)))]) (fun a=>[IB x,.row 1 (a.1.map D.str)]) (fun a=>c7k x s a.1 a.2/\a.1.length+a.2.length+e8d x a.1<=2049) ?_ ([],[s]) ⟨.start x s,by show 0+1+e8d x []<=_;omega⟩ rfl rfl
   rintro⟨seen,todo⟩ ⟨hr,hm⟩
   dsimp only at hr hm
   cases todo with
   |nil=>
    have h':¬ (0:Int) < ((([]:List S).map D.str).length:Int):=by decide
    rw[e2y hr.end]
    refine run ⟨?_⟩
    exact rfl
   |cons y r=>
    have hlr:((y::r).map D.str).length=r.length+1:=by simp
    have h':(0:Int) < (((y::r).map D.str).length:Int):=by rw[hlr];omega
    have hsl:(1:Nat)<=((y::r).map D.str).length/\((y::r).map D.str).length<=((y::r).map D.str).length:=by rw[hlr];omega
    have hdr:(((y::r).map D.str).take ((y::r).map D.str).length).drop 1=r.map D.str:=by rw[List.take_length];rfl
    have hlse:(seen.map D.str).length=seen.length:=List.length_map ..
    have ey:=ep y
    have eh:=f9v (fx:=fx) (F:=F) seen (Nat.le_trans (show seen.length<=2049 by omega) (by decide)) y
    cases k1:kn x y with
    |false=>
     rw[k1]at ey
     generalize flM x y=l at ey
     generalize enB x y=en at ey
     repeat' (first|refine run ⟨?_⟩|refine And.intro (by decide) ?_|refine And.intro ⟨hsl.1,hsl.2,a7r _⟩ ?_|refine ca (ey _) ?_|fail)
     refine⟨(seen,r),⟨hr.old hk (.inl k1),?_⟩,?_,?_,rfl⟩
     ·simp only[List.length_cons]at hm⊢;omega
     ·simp only[List.length_cons]at hm⊢;omega
     ·exact congrArg (fun l=>([(1,str s),(2,.ptr 0 0),(8,.row 1 seen.length),(9,.d (.sl l))]:Env)) hdr
    |true=>
    rw[k1]at ey
    have hlm2:((flM x y).map Fld.D).length=(flM x y).length:=List.length_map ..
    have hl16:=hsm y
    have hfr:c7k x s seen (y::r)->s∈(flM x y).map Fld.t->Gets x s s:=fun h=>h.found hs0 k1
    have hnw:c7k x s seen (y::r)->s∉ (flM x y).map Fld.t->c7k x s (seen++[y]) (r++(flM x y).map Fld.t):=fun h=>h.new hnm k1
    have how:y∉seen->e8d x (seen++[y])+((flM x y).map Fld.t).length<=e8d x seen:=fun h=>f0y _ h _ (e1g.1 k1)
    generalize enB x y=en at ey
    by_cases k2:y∈seen
    ·rw[decide_eq_true k2]at eh
     generalize flM x y=l at ey
     repeat' (first|refine run ⟨?_⟩|refine And.intro (by decide) ?_|refine And.intro ⟨hsl.1,hsl.2,a7r _⟩ ?_|refine ca (ey _) ?_|refine And.intro hlse ?_|refine ca (eh _) ?_|fail)
     refine⟨(seen,r),⟨hr.old hk (.inr k2),?_⟩,?_,?_,rfl⟩
     ·simp only[List.length_cons]at hm⊢;omega
     ·simp only[List.length_cons]at hm⊢;omega
     ·exact congrArg (fun l=>([(1,str s),(2,.ptr 0 0),(8,.row 1 seen.length),(9,.d (.sl l))]:Env)) hdr
    rw[decide_eq_false k2]at eh
    have how:=how k2
    revert ey hlm2 hl16 hfr hnw how
    generalize flM x y=l
    intro hlm2 hl16 hfr hnw ey how
    repeat' (first|refine run ⟨?_⟩|refine And.intro (by decide) ?_|refine And.intro ⟨hsl.1,hsl.2,a7r _⟩ ?_|refine ca (ey _) ?_|refine And.intro hlse ?_|refine ca (eh _) ?_|fail)
    refine And.intro ⟨rfl,by decide⟩ ?_
    refine And.intro ⟨rfl,hlse,by show roomy (seen.length+1) 16;unfold roomy;omega⟩ ?_
    refine run ⟨?_⟩
    have hlt:∀ j,((r++(l.map Fld.t).take j).map D.str).length<=r.length+l.length:=fun j=>by
      rw[List.length_map,List.length_append,List.length_take,List.length_map];omega
    refine a0g (α:=Nat) (fun a=>l.length - a) (fun a=>[(1,str s),(2,.ptr 0 0),(8,.row 1 (seen.length+1)),(9,.d (.sl ((r++(l.map Fld.t).take a).map D.str))),(11,.d (a2h l)),(14,i64 a)]) (fun _=>[IB x,.row 1 ((seen++[y]).map D.str)]) (fun a=>a<=l.length/\s∉ (l.map Fld.t).take a) ?_ 0 ⟨Nat.zero_le _,by simp⟩ ?_ (by rw[List.map_append]<;>rfl)
    ·rintro j ⟨hj,hns⟩
     by_cases g:j < l.length
     ·have g':(j:Int) < ((l.map Fld.D).length:Int):=by rw[hlm2];omega
      have pj:=gFl g
      have htk:(l.map Fld.t).take (j+1)=(l.map Fld.t).take j++[(l.getD j default).t]:=by
       rw[List.take_add_one,List.getElem?_map,List.getElem?_eq_getElem g,List.getD_eq_getElem?_getD,List.getElem?_eq_getElem g];rfl
      have hmt:(l.getD j default).t∈l.map Fld.t:=List.mem_map.2 ⟨_,c3d g,rfl⟩
      revert pj htk hmt
      generalize l.getD j default=z
      obtain⟨n,t⟩:=z
      intro pj htk hmt
      dsimp only at htk hmt
      by_cases k3:t=s
      ·rw[c8o (hfr hr (k3 ▸ hmt))]
       repeat' (first|refine run ⟨?_⟩|refine a0a pj ?_|fail)
       exact rfl
      ·have hns2:s∉ (l.map Fld.t).take (j+1):=by
        rw[htk,List.mem_append,List.mem_singleton,not_or]
        exact⟨hns,fun e=>k3 e.symm⟩
       have hltj:=hlt j
       have hgr:∀ q:List D,grew [IB x,Ob.row 1 ((seen++[y]).map D.str)] [IB x,Ob.row 1 ((seen++[y]).map D.str),Ob.row 1 q]=true:=fun q=>(a7o [IB x,Ob.row 1 ((seen++[y]).map D.str)] _).trans rfl
       repeat' (first|refine run ⟨?_⟩|refine a0a pj ?_|fail)
       refine And.intro ⟨a7r _,by decide⟩ ?_
       refine And.intro (fun hq=>?_) (fun hq=>And.intro (by unfold roomy;simp only[List.length_cons]at hm;omega) ?_)
       ·repeat' (first|refine run ⟨?_⟩|refine a0a pj ?_|fail)
        refine And.intro ⟨rfl,by decide⟩ ?_
        refine And.intro (fun h=>absurd h (by simp)) (fun _=>And.intro (by show roomy 1 16;decide) ?_)
        refine run ⟨?_⟩
        rw[List.map_eq_nil_iff]at hq
        refine⟨j+1,⟨om,hns2⟩,om,?_,rfl⟩
        rw[htk,<-List.append_assoc,hq,a0w om]<;>rfl
       ·repeat' (first|refine run ⟨?_⟩|refine And.intro (hgr _) ?_|refine a0a pj ?_|fail)
        refine And.intro ⟨rfl,by decide⟩ ?_
        refine And.intro ⟨rfl,rfl,by show roomy (_+1) 16;unfold roomy;simp only[List.length_cons]at hm;omega⟩ ?_
        refine run ⟨?_⟩
        refine And.intro (by rw[List.length_append]<;>rfl) ?_
        refine run ⟨?_⟩
        refine⟨j+1,⟨om,hns2⟩,om,?_,rfl⟩
        rw[htk,<-List.append_assoc,List.map_append (l₁:=r++_),a0w om]<;>rfl
     ·have g':¬ (j:Int) < ((l.map Fld.D).length:Int):=by rw[hlm2];omega
      obtain rfl:j=l.length:=om
      rw[List.take_of_length_le (by rw[List.length_map];exact Nat.le_refl _)]at hns⊢
      refine run ⟨?_⟩
      refine⟨(seen++[y],r++l.map Fld.t),⟨hnw hr hns,?_⟩,?_,?_,rfl⟩
      ·simp only[List.length_append,List.length_cons,List.length_nil]at hm how⊢;omega
      ·simp only[List.length_append,List.length_cons,List.length_nil]at hm how⊢;omega
      ·dsimp only;rw[show(seen++[y]).length=seen.length+1 by rw[List.length_append];rfl]<;>rfl
    ·exact congrArg (fun q=>([(1,str s),(2,.ptr 0 0),(8,.row 1 (seen.length+1)),(9,.d (.sl q)),(11,.d (a2h l)),(14,i64 0)]:Env)) (by rw[List.take_zero,List.append_nil];exact hdr)
 |false=>
  rw[c1]at e1
  ·generalize flM x s=l0 at e1
   simp only[Bool.false_and,Bool.false_or]
   repeat' (first|refine run ⟨?_⟩|refine ca (e1 _) ?_|fail)
   refine a0g (α:=List S×List S) (fun a=>a.2.length+e8d x a.1) (fun a=>[(1,str s),(2,.ptr 0 0),(8,.row 1 a.1.length),(9,.d (.sl (a.2.map D.str)))]) (fun a=>[IB x,.row 1 (a.1.map D.str)]) (fun a=>c7k x s a.1 a.2/\a.1.length+a.2.length+e8d x a.1<=2049) ?_ ([],[s]) ⟨.start x s,by show 0+1+e8d x []<=_;omega⟩ rfl rfl
   rintro⟨seen,todo⟩ ⟨hr,hm⟩
   dsimp only at hr hm
   cases todo with
   |nil=>
    have h':¬ (0:Int) < ((([]:List S).map D.str).length:Int):=by decide
    rw[e2y hr.end]
    refine run ⟨?_⟩
    exact rfl
   |cons y r=>
    have hlr:((y::r).map D.str).length=r.length+1:=by simp
    have h':(0:Int) < (((y::r).map D.str).length:Int):=by rw[hlr];omega
    have hsl:(1:Nat)<=((y::r).map D.str).length/\((y::r).map D.str).length<=((y::r).map D.str).length:=by rw[hlr];omega
    have hdr:(((y::r).map D.str).take ((y::r).map D.str).length).drop 1=r.map D.str:=by rw[List.take_length];rfl
    have hlse:(seen.map D.str).length=seen.length:=List.length_map ..
    have ey:=ep y
    have eh:=f9v (fx:=fx) (F:=F) seen (Nat.le_trans (show seen.length<=2049 by omega) (by decide)) y
    cases k1:kn x y with
    |false=>
     rw[k1]at ey
     generalize flM x y=l at ey
     generalize enB x y=en at ey
     repeat' (first|refine run ⟨?_⟩|refine And.intro (by decide) ?_|refine And.intro ⟨hsl.1,hsl.2,a7r _⟩ ?_|refine ca (ey _) ?_|fail)
     refine⟨(seen,r),⟨hr.old hk (.inl k1),?_⟩,?_,?_,rfl⟩
     ·simp only[List.length_cons]at hm⊢;omega
     ·simp only[List.length_cons]at hm⊢;omega
     ·exact congrArg (fun l=>([(1,str s),(2,.ptr 0 0),(8,.row 1 seen.length),(9,.d (.sl l))]:Env)) hdr
    |true=>
    rw[k1]at ey
    have hlm2:((flM x y).map Fld.D).length=(flM x y).length:=List.length_map ..
    have hl16:=hsm y
    have hfr:c7k x s seen (y::r)->s∈(flM x y).map Fld.t->Gets x s s:=fun h=>h.found hs0 k1
    have hnw:c7k x s seen (y::r)->s∉ (flM x y).map Fld.t->c7k x s (seen++[y]) (r++(flM x y).map Fld.t):=fun h=>h.new hnm k1
    have how:y∉seen->e8d x (seen++[y])+((flM x y).map Fld.t).length<=e8d x seen:=fun h=>f0y _ h _ (e1g.1 k1)
    generalize enB x y=en at ey
    by_cases k2:y∈seen
    ·rw[decide_eq_true k2]at eh
     generalize flM x y=l at ey
     repeat' (first|refine run ⟨?_⟩|refine And.intro (by decide) ?_|refine And.intro ⟨hsl.1,hsl.2,a7r _⟩ ?_|refine ca (ey _) ?_|refine And.intro hlse ?_|refine ca (eh _) ?_|fail)
     refine⟨(seen,r),⟨hr.old hk (.inr k2),?_⟩,?_,?_,rfl⟩
     ·simp only[List.length_cons]at hm⊢;omega
     ·simp only[List.length_cons]at hm⊢;omega
     ·exact congrArg (fun l=>([(1,str s),(2,.ptr 0 0),(8,.row 1 seen.length),(9,.d (.sl l))]:Env)) hdr
    rw[decide_eq_false k2]at eh
    have how:=how k2
    revert ey hlm2 hl16 hfr hnw how
    generalize flM x y=l
    intro hlm2 hl16 hfr hnw ey how
    repeat' (first|refine run ⟨?_⟩|refine And.intro (by decide) ?_|refine And.intro ⟨hsl.1,hsl.2,a7r _⟩ ?_|refine ca (ey _) ?_|refine And.intro hlse ?_|refine ca (eh _) ?_|fail)
    refine And.intro ⟨rfl,by decide⟩ ?_
    refine And.intro ⟨rfl,hlse,by show roomy (seen.length+1) 16;unfold roomy;omega⟩ ?_
    refine run ⟨?_⟩
    have hlt:∀ j,((r++(l.map Fld.t).take j).map D.str).length<=r.length+l.length:=fun j=>by
      rw[List.length_map,List.length_append,List.length_take,List.length_map];omega
    refine a0g (α:=Nat) (fun a=>l.length - a) (fun a=>[(1,str s),(2,.ptr 0 0),(8,.row 1 (seen.length+1)),(9,.d (.sl ((r++(l.map Fld.t).take a).map D.str))),(11,.d (a2h l)),(14,i64 a)]) (fun _=>[IB x,.row 1 ((seen++[y]).map D.str)]) (fun a=>a<=l.length/\s∉ (l.map Fld.t).take a) ?_ 0 ⟨Nat.zero_le _,by simp⟩ ?_ (by rw[List.map_append]<;>rfl)
    ·rintro j ⟨hj,hns⟩
     by_cases g:j < l.length
     ·have g':(j:Int) < ((l.map Fld.D).length:Int):=by rw[hlm2];omega
      have pj:=gFl g
      have htk:(l.map Fld.t).take (j+1)=(l.map Fld.t).take j++[(l.getD j default).t]:=by
       rw[List.take_add_one,List.getElem?_map,List.getElem?_eq_getElem g,List.getD_eq_getElem?_getD,List.getElem?_eq_getElem g];rfl
      have hmt:(l.getD j default).t∈l.map Fld.t:=List.mem_map.2 ⟨_,c3d g,rfl⟩
      revert pj htk hmt
      generalize l.getD j default=z
      obtain⟨n,t⟩:=z
      intro pj htk hmt
      dsimp only at htk hmt
      by_cases k3:t=s
      ·rw[c8o (hfr hr (k3 ▸ hmt))]
       repeat' (first|refine run ⟨?_⟩|refine a0a pj ?_|fail)
       exact rfl
      ·have hns2:s∉ (l.map Fld.t).take (j+1):=by
        rw[htk,List.mem_append,List.mem_singleton,not_or]
        exact⟨hns,fun e=>k3 e.symm⟩
       have hltj:=hlt j
       have hgr:∀ q:List D,grew [IB x,Ob.row 1 ((seen++[y]).map D.str)] [IB x,Ob.row 1 ((seen++[y]).map D.str),Ob.row 1 q]=true:=fun q=>(a7o [IB x,Ob.row 1 ((seen++[y]).map D.str)] _).trans rfl
       repeat' (first|refine run ⟨?_⟩|refine a0a pj ?_|fail)
       refine And.intro ⟨a7r _,by decide⟩ ?_
       refine And.intro (fun hq=>?_) (fun hq=>And.intro (by unfold roomy;simp only[List.length_cons]at hm;omega) ?_)
       ·repeat' (first|refine run ⟨?_⟩|refine a0a pj ?_|fail)
        refine And.intro ⟨rfl,by decide⟩ ?_
        refine And.intro (fun h=>absurd h (by simp)) (fun _=>And.intro (by show roomy 1 16;decide) ?_)
        refine run ⟨?_⟩
        rw[List.map_eq_nil_iff]at hq
        refine⟨j+1,⟨om,hns2⟩,om,?_,rfl⟩
        rw[htk,<-List.append_assoc,hq,a0w om]<;>rfl
       ·repeat' (first|refine run ⟨?_⟩|refine And.intro (hgr _) ?_|refine a0a pj ?_|fail)
        refine And.intro ⟨rfl,by decide⟩ ?_
        refine And.intro ⟨rfl,rfl,by show roomy (_+1) 16;unfold roomy;simp only[List.length_cons]at hm;omega⟩ ?_
        refine run ⟨?_⟩
        refine And.intro (by rw[List.length_append]<;>rfl) ?_
        refine run ⟨?_⟩
        refine⟨j+1,⟨om,hns2⟩,om,?_,rfl⟩
        rw[htk,<-List.append_assoc,List.map_append (l₁:=r++_),a0w om]<;>rfl
     ·have g':¬ (j:Int) < ((l.map Fld.D).length:Int):=by rw[hlm2];omega
      obtain rfl:j=l.length:=om
      rw[List.take_of_length_le (by rw[List.length_map];exact Nat.le_refl _)]at hns⊢
      refine run ⟨?_⟩
      refine⟨(seen++[y],r++l.map Fld.t),⟨hnw hr hns,?_⟩,?_,?_,rfl⟩
      ·simp only[List.length_append,List.length_cons,List.length_nil]at hm how⊢;omega
      ·simp only[List.length_append,List.length_cons,List.length_nil]at hm how⊢;omega
      ·dsimp only;rw[show(seen++[y]).length=seen.length+1 by rw[List.length_append];rfl]<;>rfl
    ·exact congrArg (fun q=>([(1,str s),(2,.ptr 0 0),(8,.row 1 (seen.length+1)),(9,.d (.sl q)),(11,.d (a2h l)),(14,i64 0)]:Env)) (by rw[List.take_zero,List.append_nil];exact hdr)
end
end Go.Vm.Ite
namespace Go.Vm.Ite
open Go Go.Vm Go.Proofs Go.Vm.Ip
open Go.Vm.Lex (a3c)
theorem c8u (l:List Fld) (j:Nat):a1t l=a1t (l.take j)++a1t (l.drop j):=by
 have e1:l=l.take j++l.drop j:=(List.take_append_drop _ _).symm
 have e2:a1t (l.take j++l.drop j)=a1t (l.take j)++a1t (l.drop j):=by
  unfold a1t;rw[List.map_append,List.filter_append]
 rw[<-e2,<-e1]
section
variable {fx:Nat->Option Obj} {F:Nat->Option a0t}
set_option maxHeartbeats 4000000 in
theorem e1m (x:Its) (hx:b0r x) (nd:Nmd x) (hsm:∀ n,(flM x n).length<=16):∀ (f:Nat) (s:S),a6r x f s->s≠[]->∀ H,evF (pgL fx F) d6g [.d x.D,str s] H=some (.tup [i64 (tgt (szF x f s)).1,i64 (tgt (szF x f s)).2],H)
 |0,_,h,_,_=>h.elim
 |f+1,s,hdeep,hs0,H=>by
  have ih:=fun(y:S) (hy:y∈(a1b x s).1) (h0:y≠[])=>e1m x hx nd hsm f y (hdeep y hy) h0
  have ep:=e1w (fx:=fx) (F:=F) x hx s
  have hl:=hsm s
  have hlm:((flM x s).map Fld.D).length=(flM x s).length:=List.length_map ..
  unfold enB at ep
  rw[szF]
  cases cS:known (nS x) s with
  |true=>
   have ck:kn x s=true:=by unfold kn;rw[cS];rfl
   have cu:=nd.nu ck
   have cu':¬ s=[40,41]:=cu.1
   have cu'':¬ s=[]:=cu.2
   rw[cS,ck]at ep
   rw[nd.h3d cS]at ih⊢
   simp only[Bool.false_eq_true,if_false,if_true]
   revert ih ep hl hlm
   generalize flM x s=l
   intro ih ep hl hlm
   refine a1d (b4c (F:=F)) rfl rfl ?_ H
   repeat' (first|refine run ⟨?_⟩|refine ca (ep _) ?_|fail)
   refine a0g (α:=Nat×Int×Int×Int) (fun a=>l.length - a.1) (fun a=>[(2,.ptr 0 0),(6,.d (a2h l)),(7,boo false),(9,i64 a.2.1),(10,i64 a.2.2.1),(11,i64 a.2.2.2),(12,i64 a.1)]) (fun _=>[IB x]) (fun a=>a.1<=l.length/\a.2.1=((a1t (l.take a.1)).foldl (fun a y=>b2p a (szF x f y)) (0,1)).2/\a.2.1<=1024/\0<=a.2.2.1/\a.2.2.1<=65*a.1/\min a.2.2.1 65=((a1t (l.take a.1)).foldl (fun a y=>b2p a (szF x f y)) (0,1)).1/\0<=a.2.2.2/\a.2.2.2<=65) ?_ (0,1,0,0) ⟨Nat.zero_le _,rfl,by decide,by decide,by decide,rfl,by decide,by decide⟩ rfl rfl
   rintro⟨j,n,w,mo⟩ ⟨hj,hn,hn1,hw0,hw1,hw2,hm0,hm1⟩
   dsimp only at hj hn hn1 hw0 hw1 hw2 hm0 hm1
   by_cases h:j < l.length
   ·have h':(j:Int) < ((l.map Fld.D).length:Int):=by rw[hlm];omega
    have pj:=gFl h
    have hst:=b4s h
    have hin:(l.getD j default).t≠[]->(l.getD j default).t∈a1t l:=fun hn=>b8i.2 ⟨hn,l.getD j default,c3d h,rfl⟩
    have hsp:=c8u l (j+1)
    revert pj hst hin
    generalize l.getD j default=y
    obtain⟨fn,t⟩:=y
    intro pj hst hin
    dsimp only at hst hin
    by_cases ct:t=[]
    ·rw[ct]at hst;simp only[if_true]at hst
     repeat' (first|refine run ⟨?_⟩|refine a0a pj ?_|fail)
     exact⟨(j+1,n,w,mo),⟨by show j+1<=_;omega,by rw[hst];exact hn,hn1,hw0,by show w<=65* ((j+1:Nat):Int);omega,by rw[hst];exact hw2,hm0,hm1⟩,by show _ - (j+1) < _ - j;omega,by dsimp only;rw[a0w om]<;>rfl,rfl⟩
    ·rw[if_neg ct]at hst
     have ew:=ih t (hin ct) ct
     have hb:=a5c x f t
     have hfin:=e3r (g:=szF x f) (fun y=>(a5c x f y).2.2.1) (a1t (l.drop (j+1))) ((a1t (l.take (j+1))).foldl (fun a y=>b2p a (szF x f y)) (0,1)) (e3r (g:=szF x f) (fun y=>(a5c x f y).2.2.1) (a1t (l.take (j+1))) (0,1) (by decide)).2
     rw[<-List.foldl_append,<-hsp]at hfin
     have hA:(a1t (l.take (j+1))).foldl (fun a y=>b2p a (szF x f y)) (0,1)=b2p ((a1t (l.take j)).foldl (fun a y=>b2p a (szF x f y)) (0,1)) (szF x f t):=by rw[hst,List.foldl_append];rfl
     rw[hA]at hfin
     have hge:=(e3r (g:=szF x f) (fun y=>(a5c x f y).2.2.1) (a1t (l.take j)) (0,1) (by decide)).1
     rw[<-hn]at hge
     replace hge:(1:Int)<=n:=hge
     revert ew hb hA hfin hn hw2
     generalize szF x f t=v
     generalize(a1t (l.take j)).foldl (fun a y=>b2p a (szF x f y)) (0,1)=A
     intro hn hw2 ew hb hfin hA
     have hA2:(A.2+v.2<=1025/\(b2p A v).2=A.2+v.2)\/(1025<=A.2+v.2/\(b2p A v).2=1025):=by simp only[b2p];omega
     obtain⟨q,hq⟩:∃ q,q=(b2p A v).2:=⟨_,rfl⟩
     rw[<-hq]at hfin hA2
     obtain⟨Z,hZ⟩:∃ Z,Z=(List.foldl (fun a y=>b2p a (szF x f y)) (0,1) (a1t l)):=⟨_,rfl⟩
     rw[<-hZ]at hfin⊢
     by_cases cb:n+(tgt v).1<=1024
     ·have cv:v.2<=1024:=by
       rcases Int.lt_or_le 1024 v.2 with q|q
       ·rw[c0f om]at cb;dsimp only at cb;omega
       ·exact q
      rw[c1u cv]at cb ew
      dsimp only at cb ew
      have w1:IntKind.i64.wrap (n+v.2)=n+v.2:=a0w om
      have w2:IntKind.i64.wrap (w+min v.1 65)=w+min v.1 65:=a0w om
      have cb':¬ (1024 < IntKind.i64.wrap (n+v.2)):=by rw[w1];omega
      have fin:∀ mo',mo'=max mo (min v.1 65)->∃ a':Nat×Int×Int×Int,(a'.1<=l.length/\a'.2.1=((a1t (l.take a'.1)).foldl (fun a y=>b2p a (szF x f y)) (0,1)).2/\a'.2.1<=1024/\0<=a'.2.2.1/\a'.2.2.1<=65*a'.1/\min a'.2.2.1 65=((a1t (l.take a'.1)).foldl (fun a y=>b2p a (szF x f y)) (0,1)).1/\0<=a'.2.2.2/\a'.2.2.2<=65)/\l.length - a'.1 < l.length - j/\a'=(j+1,n+v.2,w+min v.1 65,mo'):=fun mo' hmo=>⟨(j+1,n+v.2,w+min v.1 65,mo'),⟨by show j+1<=_;omega,by rw[hA];show n+v.2=(b2p A v).2;rw[<-hq];omega,by show n+v.2<=_;omega,by show 0<=w+min v.1 65;omega,by show w+min v.1 65<=65* ((j+1:Nat):Int);omega,by rw[hA,hmo];show min (w+min v.1 65) 65=(b2p A v).1;simp only[b2p];omega,by show 0<=mo';omega,by show mo'<=65;omega⟩,by show _ - (j+1) < _ - j;omega,rfl⟩
      by_cases cm:mo < min v.1 65
      ·obtain⟨a',f1,f2,rfl⟩:=fin (min v.1 65) om
       repeat' (first|refine run ⟨?_⟩|refine a0a pj ?_|refine ca (ew _) ?_|fail)
       exact⟨_,f1,f2,by dsimp only;rw[w1,w2,a0w om]<;>rfl,rfl⟩
      ·obtain⟨a',f1,f2,rfl⟩:=fin mo om
       repeat' (first|refine run ⟨?_⟩|refine a0a pj ?_|refine ca (ew _) ?_|fail)
       exact⟨_,f1,f2,by dsimp only;rw[w1,w2,a0w om]<;>rfl,rfl⟩
     ·have cf:1025<=Z.2:=by
       rcases Int.lt_or_le 1024 v.2 with q|q
       ·omega
       ·rw[c1u q]at cb;dsimp only at cb;omega
      rw[c0f cf]
      have ct1:0<=(tgt v).1/\(tgt v).1<=1025:=by
       rcases Int.lt_or_le 1024 v.2 with q|q
       ·rw[c0f om];exact⟨by decide,by decide⟩
       ·rw[c1u q];dsimp only;omega
      revert ew cb ct1
      generalize tgt v=u
      intro ew cb ct1
      have cb':1024 < IntKind.i64.wrap (n+u.1):=by rw[a0w om];omega
      repeat' (first|refine run ⟨?_⟩|refine a0a pj ?_|refine ca (ew _) ?_|fail)
      exact rfl
   ·have h':¬ (j:Int) < ((l.map Fld.D).length:Int):=by rw[hlm];omega
    obtain rfl:j=l.length:=om
    rw[List.take_length]at hn hw2
    revert hn hw2
    generalize(a1t l).foldl (fun a y=>b2p a (szF x f y)) (0,1)=A
    intro hn hw2
    rw[c1u om]
    by_cases cw:64 < w
    ·have e1:min A.1 65=65:=om
     rw[e1,<-hn]
     refine run ⟨?_⟩
     exact rfl
    ·have e1:min A.1 65=w:=om
     rw[e1,<-hn]
     refine run ⟨?_⟩
     exact rfl
  |false=>
  cases cE:known (nE x) s with
  |true=>
   have ck:kn x s=true:=by unfold kn;rw[cE,Bool.or_true]
   have cu:=nd.nu ck
   have cu':¬ s=[40,41]:=cu.1
   have cu'':¬ s=[]:=cu.2
   rw[cS,cE,ck]at ep
   rw[h2a cS cE]at ih⊢
   simp only[if_true]
   revert ih ep hl hlm
   generalize flM x s=l
   intro ih ep hl hlm
   refine a1d (b4c (F:=F)) rfl rfl ?_ H
   repeat' (first|refine run ⟨?_⟩|refine ca (ep _) ?_|fail)
   refine a0g (α:=Nat×Int×Int×Int) (fun a=>l.length - a.1) (fun a=>[(2,.ptr 0 0),(6,.d (a2h l)),(7,boo true),(9,i64 a.2.1),(10,i64 a.2.2.1),(11,i64 a.2.2.2),(12,i64 a.1)]) (fun _=>[IB x]) (fun a=>a.1<=l.length/\a.2.1=((a1t (l.take a.1)).foldl (fun a y=>b2n a (szF x f y)) (1,1)).2/\a.2.1<=1024/\0<=a.2.2.1/\a.2.2.1<=65*a.1/\min (1+a.2.2.2) 65=min ((a1t (l.take a.1)).foldl (fun a y=>b2n a (szF x f y)) (1,1)).1 65/\0<=a.2.2.2/\a.2.2.2<=65) ?_ (0,1,0,0) ⟨Nat.zero_le _,rfl,by decide,by decide,by decide,rfl,by decide,by decide⟩ rfl rfl
   rintro⟨j,n,w,mo⟩ ⟨hj,hn,hn1,hw0,hw1,hw2,hm0,hm1⟩
   dsimp only at hj hn hn1 hw0 hw1 hw2 hm0 hm1
   by_cases h:j < l.length
   ·have h':(j:Int) < ((l.map Fld.D).length:Int):=by rw[hlm];omega
    have pj:=gFl h
    have hst:=b4s h
    have hin:(l.getD j default).t≠[]->(l.getD j default).t∈a1t l:=fun hn=>b8i.2 ⟨hn,l.getD j default,c3d h,rfl⟩
    have hsp:=c8u l (j+1)
    revert pj hst hin
    generalize l.getD j default=y
    obtain⟨fn,t⟩:=y
    intro pj hst hin
    dsimp only at hst hin
    by_cases ct:t=[]
    ·rw[ct]at hst;simp only[if_true]at hst
     repeat' (first|refine run ⟨?_⟩|refine a0a pj ?_|fail)
     exact⟨(j+1,n,w,mo),⟨by show j+1<=_;omega,by rw[hst];exact hn,hn1,hw0,by show w<=65* ((j+1:Nat):Int);omega,by rw[hst];exact hw2,hm0,hm1⟩,by show _ - (j+1) < _ - j;omega,by dsimp only;rw[a0w om]<;>rfl,rfl⟩
    ·rw[if_neg ct]at hst
     have ew:=ih t (hin ct) ct
     have hb:=a5c x f t
     have hfin:=e2v (g:=szF x f) (fun y=>(a5c x f y).2.2.1) (a1t (l.drop (j+1))) ((a1t (l.take (j+1))).foldl (fun a y=>b2n a (szF x f y)) (1,1)) (e2v (g:=szF x f) (fun y=>(a5c x f y).2.2.1) (a1t (l.take (j+1))) (1,1) (by decide)).2
     rw[<-List.foldl_append,<-hsp]at hfin
     have hA:(a1t (l.take (j+1))).foldl (fun a y=>b2n a (szF x f y)) (1,1)=b2n ((a1t (l.take j)).foldl (fun a y=>b2n a (szF x f y)) (1,1)) (szF x f t):=by rw[hst,List.foldl_append];rfl
     rw[hA]at hfin
     have hge:=(e2v (g:=szF x f) (fun y=>(a5c x f y).2.2.1) (a1t (l.take j)) (1,1) (by decide)).1
     rw[<-hn]at hge
     replace hge:(1:Int)<=n:=hge
     revert ew hb hA hfin hn hw2
     generalize szF x f t=v
     generalize(a1t (l.take j)).foldl (fun a y=>b2n a (szF x f y)) (1,1)=A
     intro hn hw2 ew hb hfin hA
     have hA2:(A.2+v.2<=1025/\(b2n A v).2=A.2+v.2)\/(1025<=A.2+v.2/\(b2n A v).2=1025):=by simp only[b2n];omega
     obtain⟨q,hq⟩:∃ q,q=(b2n A v).2:=⟨_,rfl⟩
     rw[<-hq]at hfin hA2
     obtain⟨Z,hZ⟩:∃ Z,Z=(List.foldl (fun a y=>b2n a (szF x f y)) (1,1) (a1t l)):=⟨_,rfl⟩
     rw[<-hZ]at hfin⊢
     by_cases cb:n+(tgt v).1<=1024
     ·have cv:v.2<=1024:=by
       rcases Int.lt_or_le 1024 v.2 with q|q
       ·rw[c0f om]at cb;dsimp only at cb;omega
       ·exact q
      rw[c1u cv]at cb ew
      dsimp only at cb ew
      have w1:IntKind.i64.wrap (n+v.2)=n+v.2:=a0w om
      have w2:IntKind.i64.wrap (w+min v.1 65)=w+min v.1 65:=a0w om
      have cb':¬ (1024 < IntKind.i64.wrap (n+v.2)):=by rw[w1];omega
      have fin:∀ mo',mo'=max mo (min v.1 65)->∃ a':Nat×Int×Int×Int,(a'.1<=l.length/\a'.2.1=((a1t (l.take a'.1)).foldl (fun a y=>b2n a (szF x f y)) (1,1)).2/\a'.2.1<=1024/\0<=a'.2.2.1/\a'.2.2.1<=65*a'.1/\min (1+a'.2.2.2) 65=min ((a1t (l.take a'.1)).foldl (fun a y=>b2n a (szF x f y)) (1,1)).1 65/\0<=a'.2.2.2/\a'.2.2.2<=65)/\l.length - a'.1 < l.length - j/\a'=(j+1,n+v.2,w+min v.1 65,mo'):=fun mo' hmo=>⟨(j+1,n+v.2,w+min v.1 65,mo'),⟨by show j+1<=_;omega,by rw[hA];show n+v.2=(b2n A v).2;rw[<-hq];omega,by show n+v.2<=_;omega,by show 0<=w+min v.1 65;omega,by show w+min v.1 65<=65* ((j+1:Nat):Int);omega,by rw[hA,hmo];show min (1+max mo (min v.1 65)) 65=min (b2n A v).1 65;simp only[b2n];omega,by show 0<=mo';omega,by show mo'<=65;omega⟩,by show _ - (j+1) < _ - j;omega,rfl⟩
      by_cases cm:mo < min v.1 65
      ·obtain⟨a',f1,f2,rfl⟩:=fin (min v.1 65) om
       repeat' (first|refine run ⟨?_⟩|refine a0a pj ?_|refine ca (ew _) ?_|fail)
       exact⟨_,f1,f2,by dsimp only;rw[w1,w2,a0w om]<;>rfl,rfl⟩
      ·obtain⟨a',f1,f2,rfl⟩:=fin mo om
       repeat' (first|refine run ⟨?_⟩|refine a0a pj ?_|refine ca (ew _) ?_|fail)
       exact⟨_,f1,f2,by dsimp only;rw[w1,w2,a0w om]<;>rfl,rfl⟩
     ·have cf:1025<=Z.2:=by
       rcases Int.lt_or_le 1024 v.2 with q|q
       ·omega
       ·rw[c1u q]at cb;dsimp only at cb;omega
      rw[c0f cf]
      have ct1:0<=(tgt v).1/\(tgt v).1<=1025:=by
       rcases Int.lt_or_le 1024 v.2 with q|q
       ·rw[c0f om];exact⟨by decide,by decide⟩
       ·rw[c1u q];dsimp only;omega
      revert ew cb ct1
      generalize tgt v=u
      intro ew cb ct1
      have cb':1024 < IntKind.i64.wrap (n+u.1):=by rw[a0w om];omega
      repeat' (first|refine run ⟨?_⟩|refine a0a pj ?_|refine ca (ew _) ?_|fail)
      exact rfl
   ·have h':¬ (j:Int) < ((l.map Fld.D).length:Int):=by rw[hlm];omega
    obtain rfl:j=l.length:=om
    rw[List.take_length]at hn hw2
    revert hn hw2
    generalize(a1t l).foldl (fun a y=>b2n a (szF x f y)) (1,1)=A
    intro hn hw2
    rw[c1u om]
    have w3:IntKind.i64.wrap (1+mo)=1+mo:=a0w om
    by_cases cw:64 < 1+mo
    ·have cw':64 < IntKind.i64.wrap (1+mo):=by rw[w3];omega
     have e1:min A.1 65=65:=om
     rw[e1,<-hn]
     refine run ⟨?_⟩
     exact rfl
    ·have cw':¬ 64 < IntKind.i64.wrap (1+mo):=by rw[w3];omega
     have e1:min A.1 65=1+mo:=om
     rw[e1,<-hn]
     refine run ⟨?_⟩
     rw[w3];exact rfl
  |false=>
   have ck:kn x s=false:=by unfold kn;rw[cS,cE];rfl
   rw[cS,cE,ck]at ep
   rw[f9a cS cE]
   simp only[Bool.false_eq_true,if_false]
   refine a1d (b4c (F:=F)) rfl rfl ?_ H
   generalize flM x s=l at ep
   by_cases cu:s=d7d
   ·have cu':s=[40,41]:=cu
    rw[if_pos cu]
    repeat' (first|refine run ⟨?_⟩|refine ca (ep _) ?_|fail)
    exact rfl
   ·have cu':¬ s=[40,41]:=cu
    rw[if_neg cu]
    repeat' (first|refine run ⟨?_⟩|refine ca (ep _) ?_|fail)
    exact rfl
end
end Go.Vm.Ite

namespace Go.Vm.Ite
open Go.Vm.Tp (Nd a1r a1f a3x)
open Go.Vm.Ip
open Go.Vm.Lex (a3c)
open Go.Vm.Io hiding S
section
variable {fx:Nat->Option Obj} {F:Nat->Option a0t} {t:List Nd} {x:Its}
abbrev HSt (t:List Nd) (x:Its):Hp:=[.box [.d (.sl (t.map Nd.D))],IB x,.box [i64 0,i64 0,i64 0]]
set_option maxHeartbeats 8000000 in
theorem e6n (h:Rt t) (hx:b0r x) (nmd:Nmd x) (hsm:∀ n,(flM x n).length<=16) (hl:(nS x++nE x).length<=128) (hll:(roots t).length<=1048576) (hro:∀ n∈roots t,In t n/\((nd t n).k=2\/(nd t n).k=3\/(nd t n).k=4)) (hkn:∀ n∈roots t,(nd t n).k≠2->kn x (nd t n).t=true) (hE:∀ n∈roots t,(nd t n).k≠2->(e6x x (nd t n).t=true↔c2s x (nd t n).t=true\/((nd t n).k=4/\(nd t n).kids=[]))) (hcov:∀ s∈nS x++nE x,∃ n∈roots t,(nd t n).k≠2/\(nd t n).t=s) (H:Hp):evF (pgL fx F) d0d [.d (a1r t),.d x.D] H=some (.d (dgO t (szA t x (roots t))),H):=by
 refine a1d (d2i (F:=F)) rfl rfl ?_ H
 have hr:=fun H=>a8r (fx:=fx) (F:=F) h H
 generalize roots t=l at hr hll hro hkn hE hcov⊢
 have hlm:(l.map (D.int .i64)).length=l.length:=List.length_map ..
 have he14:=fun s hk H=>d5v (fx:=fx) (F:=F) x hx nmd.nm hsm hl s hk H
 unfold szA
 repeat' (first|refine run ⟨?_⟩|refine ca (hr _) ?_|fail)
 refine a0g (α:=Nat) (fun a=>l.length - a) (fun a=>[(2,.ptr 0 0),(3,.ptr 1 0),(4,.ptr 2 0),(5,.d (a7j l)),(6,i64 a)]) (fun a=>HSt t x) (fun a=>a<=l.length/\d7m t (c2s x) (l.drop a)=d7m t (c2s x) l) ?_ 0 ⟨Nat.zero_le _,rfl⟩ rfl rfl
 rintro j ⟨hj,hco⟩
 by_cases c:j < l.length
 ·have c2:(j:Int) < ((l.map (D.int .i64)).length:Int):=om
  have pj:=b9q c
  have hmem:=List.getElem_mem c
  obtain⟨hin,hk⟩:=hro _ hmem
  have hkn:=hkn _ hmem
  have hE:=hE _ hmem
  have wj:IntKind.i64.wrap ((j:Int)+1)=((j+1:Nat):Int):=by rw[a0w om];omega
  rw[List.drop_eq_getElem_cons c,d7m]at hco
  generalize l[j]=n at pj hin hk hco hkn hE
  have pn:=a3l hin
  have hd:(nd t n).D= .agg [.int .i64 (nd t n).k,.str (nd t n).t,.int .i64 (nd t n).v,.sl ((nd t n).kids.map (D.int .i64)),.int .i64 (nd t n).f,.int .i64 (nd t n).e]:=rfl
  rw[hd]at pn
  have hfn:=fun H=>c0p (fx:=fx) (F:=F) hin H
  have hdg:=fun H=>a6j (fx:=fx) (F:=F) hin 143 H
  by_cases k2:(nd t n).k=2
  ·rw[decide_eq_true k2]at hfn
   rw[if_neg (by rintro(q|q);exact q.1 k2;omega)]at hco
   repeat' (first|refine run ⟨?_⟩|refine a0a pj ?_|refine ca (hfn _) ?_|fail)
   exact⟨j+1,⟨om,hco⟩,om,by rw[wj];rfl,rfl⟩
  ·rw[decide_eq_false k2]at hfn
   have hen:=fun H=>he14 _ (hkn k2) H
   cases ce:e6x x (nd t n).t with
   |true=>
    rw[ce]at hen
    rw[if_pos (((hE k2).1 ce).elim (fun e=> .inl ⟨k2,e⟩) .inr)]at hco
    rw[<-hco]
    repeat' (first|refine run ⟨?_⟩|refine a0a pj ?_|refine ca (hfn _) ?_|refine a0a pn ?_|refine ca (hen _) ?_|refine ca (hdg _) ?_|fail)
    exact rfl
   |false=>
    rw[ce]at hen
    rw[if_neg (fun e=>by have:=(hE k2).2 (e.elim (fun e=> .inl e.2) .inr);rw[ce]at this;cases this)]at hco
    repeat' (first|refine run ⟨?_⟩|refine a0a pj ?_|refine ca (hfn _) ?_|refine a0a pn ?_|refine ca (hen _) ?_|fail)
    exact⟨j+1,⟨om,hco⟩,om,by rw[wj];rfl,rfl⟩
 ·have c2:¬ (j:Int) < ((l.map (D.int .i64)).length:Int):=om
  rw[List.drop_eq_nil_of_le om,d7m]at hco
  have hno:=b8s hco.symm
  rw[<-hco]
  have hdeep:∀ s,a6r x (c4h x) s:=fun s=>e9f (fun s hs hg=>by
    obtain⟨n,h1,h2,h3⟩:=hcov s hs
    have h4:=hno n h1 h2
    rw[h3,c8o hg]at h4
    cases h4) s
  have hsz:=fun s hk H=>e1m (fx:=fx) (F:=F) x hx nmd hsm (c4h x) s (hdeep s) (nmd.nu hk).2 H
  refine run ⟨?_⟩
  refine a0g (α:=Nat) (fun a=>l.length - a) (fun a=>[(2,.ptr 0 0),(3,.ptr 1 0),(4,.ptr 2 0),(5,.d (a7j l)),(7,i64 a)]) (fun a=>HSt t x) (fun a=>a<=l.length/\d6k t (fun s=>d3b (szF x (c4h x) s)) (l.drop a)=d6k t (fun s=>d3b (szF x (c4h x) s)) l) ?_ 0 ⟨Nat.zero_le _,rfl⟩ rfl rfl
  rintro i ⟨hi,hci⟩
  by_cases c3:i < l.length
  ·have c4:(i:Int) < ((l.map (D.int .i64)).length:Int):=om
   have pj:=b9q c3
   have hmem:=List.getElem_mem c3
   obtain⟨hin,hk⟩:=hro _ hmem
   have hkn:=hkn _ hmem
   have wj:IntKind.i64.wrap ((i:Int)+1)=((i+1:Nat):Int):=by rw[a0w om];omega
   rw[List.drop_eq_getElem_cons c3,d6k]at hci
   generalize l[i]=n at pj hin hk hci hkn
   have pn:=a3l hin
   have hd:(nd t n).D= .agg [.int .i64 (nd t n).k,.str (nd t n).t,.int .i64 (nd t n).v,.sl ((nd t n).kids.map (D.int .i64)),.int .i64 (nd t n).f,.int .i64 (nd t n).e]:=rfl
   rw[hd]at pn
   have hfn:=fun H=>c0p (fx:=fx) (F:=F) hin H
   have hdg:=fun H=>a6j (fx:=fx) (F:=F) hin 2 H
   by_cases k2:(nd t n).k=2
   ·rw[decide_eq_true k2]at hfn
    rw[if_pos k2]at hci
    repeat' (first|refine run ⟨?_⟩|refine a0a pj ?_|refine ca (hfn _) ?_|fail)
    exact⟨i+1,⟨om,hci⟩,om,by rw[wj];rfl,rfl⟩
   ·rw[decide_eq_false k2]at hfn
    rw[if_neg k2]at hci
    have hsv:=fun H=>hsz _ (hkn k2) H
    have hbt:=g5c (szF x (c4h x) (nd t n).t)
    generalize szF x (c4h x) (nd t n).t=v at hsv hbt hci
    unfold g4n at hbt
    by_cases b1:1024 < (tgt v).1
    ·have hb:d3b v=true:=by rw[<-hbt,decide_eq_true b1];rfl
     rw[if_pos hb]at hci
     rw[<-hci]
     repeat' (first|refine run ⟨?_⟩|refine a0a pj ?_|refine ca (hfn _) ?_|refine a0a pn ?_|refine ca (hsv _) ?_|refine ca (hdg _) ?_|fail)
     exact rfl
    by_cases b2:64 < (tgt v).2
    ·have hb:d3b v=true:=by rw[<-hbt,decide_eq_true b2,Bool.or_true]
     rw[if_pos hb]at hci
     rw[<-hci]
     repeat' (first|refine run ⟨?_⟩|refine a0a pj ?_|refine ca (hfn _) ?_|refine a0a pn ?_|refine ca (hsv _) ?_|refine ca (hdg _) ?_|fail)
     exact rfl
    have hb:¬ d3b v=true:=by rw[<-hbt,decide_eq_false b1,decide_eq_false b2];decide
    rw[if_neg hb]at hci
    repeat' (first|refine run ⟨?_⟩|refine a0a pj ?_|refine ca (hfn _) ?_|refine a0a pn ?_|refine ca (hsv _) ?_|fail)
    exact⟨i+1,⟨om,hci⟩,om,by rw[wj];rfl,rfl⟩
  ·have c4:¬ (i:Int) < ((l.map (D.int .i64)).length:Int):=om
   rw[List.drop_eq_nil_of_le om,d6k]at hci
   rw[<-hci]
   refine run ⟨?_⟩
   exact rfl
end
end Go.Vm.Ite
namespace Go.Vm.Ite
open Go.Vm.Tp (Nd a1f a3x d2k)
open Go.Vm.Lex (a3c)
open Go.Vm.Ip
open Go.Vm.Io hiding S
theorem c3n {t:List Nd}:∀ {ts fs:List S} {l:List Int},b8v t ts fs l=none->(b2l t l).Nodup/\∀ s∈b2l t l,s∉ts
 |_,_,[],_=>⟨by simp[b2l],by simp[b2l]⟩
 |ts,fs,m::r,h=>by
  rw[b8v]at h
  by_cases k2:(nd t m).k=2
  ·rw[if_pos k2]at h
   have h2:b8v t ts (fs++[(nd t m).t]) r=none:=by
    repeat' split at h
    all_goals first|cases h|exact h
   have e:b2l t (m::r)=b2l t r:=by unfold b2l;rw[List.filter_cons_of_neg (by simp[k2])]
   rw[e];exact c3n h2
  ·rw[if_neg k2]at h
   have h1:(nd t m).t∉ts:=by
    intro q;rw[if_pos q]at h;cases h
   have h2:b8v t (ts++[(nd t m).t]) fs r=none:=by
    repeat' split at h
    all_goals first|cases h|exact h
   have ih:=c3n h2
   have e:b2l t (m::r)=(nd t m).t::b2l t r:=by unfold b2l;rw[List.filter_cons_of_pos (by simp[k2])];rfl
   rw[e,List.nodup_cons]
   refine⟨⟨fun q=>ih.2 _ q (by simp),ih.1⟩,fun s hs=>?_⟩
   rcases List.mem_cons.1 hs with q|q
   ·rw[q];exact h1
   ·exact fun w=>ih.2 s q (List.mem_append_left _ w)
theorem d6i {α β:Type} (f:α->β):∀ {l:List α},(l.map f).Nodup->∀ a∈l,∀ b∈l,f a=f b->a=b
 |[],_,a,ha,_,_,_=>by cases ha
 |x::l,h,a,ha,b,hb,e=>by
  rw[List.map_cons,List.nodup_cons]at h
  rcases List.mem_cons.1 ha with p|p<;>rcases List.mem_cons.1 hb with q|q
  ·rw[p,q]
  ·subst p;exact absurd (List.mem_map.2 ⟨b,q,e.symm⟩) h.1
  ·subst q;exact absurd (List.mem_map.2 ⟨a,p,e⟩) h.1
  ·exact d6i f h.2 a p b q e
section
variable {t:List Nd} {l:List Int}
theorem g4t:nS (a0z t l)=(l.filter (is3 t)).map fun n=>(nd t n).t:=by
  unfold nS a0z;rw[List.map_map];rfl
theorem h3f:nE (a0z t l)=(l.filter (is4 t)).map fun n=>(nd t n).t:=by
  unfold nE a0z;rw[List.map_map];rfl
theorem e8r {p:Int->Bool} (hp:∀ n,p n=true->(nd t n).k≠2):List.Sublist ((l.filter p).map fun n=>(nd t n).t) (b2l t l):=by
  unfold b2l
  refine List.Sublist.map _ ?_
  have:l.filter p=(l.filter fun n=> !decide ((nd t n).k=2)).filter p:=by
    rw[List.filter_filter]
    refine List.filter_congr fun n _=>?_
    cases hn:p n with
    |false=>rfl
    |true=>simp[hp n hn]
  rw[this]
  exact List.filter_sublist
theorem g0o {n:Int} (h:is3 t n=true):(nd t n).k≠2:=by have:=of_decide_eq_true h;omega
theorem h2u {n:Int} (h:is4 t n=true):(nd t n).k≠2:=by have:=of_decide_eq_true h;omega
theorem d3u (hk:∀ n∈l,(nd t n).k=2\/(nd t n).k=3\/(nd t n).k=4) (hn:(b2l t l).Nodup) {n:Int} (hm:n∈l) (k2:(nd t n).k≠2):flM (a0z t l) (nd t n).t=(nd t n).kids.map (a3q t)/\enB (a0z t l) (nd t n).t=decide ((nd t n).k=4):=by
 have hS:(nS (a0z t l)).Nodup:=by rw[g4t];exact hn.sublist (e8r fun _=>g0o)
 have hEn:(nE (a0z t l)).Nodup:=by rw[h3f];exact hn.sublist (e8r fun _=>h2u)
 have hd:∀ s∈nE (a0z t l),s∉nS (a0z t l):=fun s h1 h2=>by
   rw[h3f]at h1;rw[g4t]at h2
   obtain⟨a,ha,ea⟩:=List.mem_map.1 h1
   obtain⟨b,hb,eb⟩:=List.mem_map.1 h2
   obtain⟨ha1,ha2⟩:=List.mem_filter.1 ha
   obtain⟨hb1,hb2⟩:=List.mem_filter.1 hb
   have:=d6i (fun n=>(nd t n).t) (l:=l.filter fun n=> !decide ((nd t n).k=2)) hn a (List.mem_filter.2 ⟨ha1,by simp[h2u ha2]⟩) b (List.mem_filter.2 ⟨hb1,by simp[g0o hb2]⟩) (ea.trans eb.symm)
   subst this
   have h4:=of_decide_eq_true ha2
   have h3:=of_decide_eq_true hb2
   omega
 rcases hk n hm with e|e|e
 ·exact absurd e k2
 ·have:=i1k hS (y:=a2v t n) (List.mem_map.2 ⟨n,List.mem_filter.2 ⟨hm,decide_eq_true e⟩,rfl⟩)
  exact⟨this.1,this.2.trans (decide_eq_false om).symm⟩
 ·have:=h9i hEn hd (y:=a2v t n) (List.mem_map.2 ⟨n,List.mem_filter.2 ⟨hm,decide_eq_true e⟩,rfl⟩)
  exact⟨this.1,this.2.trans (decide_eq_true e).symm⟩
theorem f7h (h:a1f t=true) {i:Int} (hi:In t i):d2k t i.toNat (nd t i):=by
 obtain⟨up,hT⟩:=Go.Vm.Tp.f9s h
 exact hT.nod i.toNat hi.2
theorem e9i (h:a1f t=true) {i:Int} (hi:In t i) (hk:(nd t i).k=3\/(nd t i).k=4\/(nd t i).k=13):a3c (nd t i).t=true:=by
 have:=(f7h h hi).nm
 unfold Go.Vm.Tp.nmB at this
 rwa [if_pos om]at this
theorem i0d (h:a1f t=true) {i:Int} (hi:In t i) (hty:a3x (nd t i).k=true):tx t i≠[]:=by
 unfold tx
 have:1<=t.length:=by have:=hi.2;omega
 obtain⟨m,hm⟩:∃ m,t.length=m+1:=⟨t.length - 1,om⟩
 rw[hm,txt]
 unfold a3x at hty
 simp only[Bool.and_eq_true,decide_eq_true_eq]at hty
 repeat' split
 all_goals try(intro e;simp at e;done)
 have hk:(nd t i).k=13:=om
 intro e
 have:=e9i h hi (.inr (.inr hk))
 rw[e]at this
 exact absurd this (by decide)
theorem g1s (h:a1f t=true) (hl:∀ n∈l,In t n/\((nd t n).k=2\/(nd t n).k=3\/(nd t n).k=4)) (hn:(b2l t l).Nodup):Nmd (a0z t l) where
 nm:=fun s hs=>by
   obtain⟨n,h1,h2,h3⟩:=d9o t l s (e1g.1 hs)
   rw[<-h3]
   obtain⟨g1,g2⟩:=hl n h1
   exact e9i h g1 om
 ne:=fun s hs f hf=>by
   have hm:=a7n.1 hs
   rw[g4t]at hm
   obtain⟨n,h1,rfl⟩:=List.mem_map.1 hm
   obtain⟨h1,h2⟩:=List.mem_filter.1 h1
   have h3:=of_decide_eq_true h2
   rw[(d3u (fun n hn=>(hl n hn).2) hn h1 (g0o h2)).1]at hf
   obtain⟨k,hk,rfl⟩:=List.mem_map.1 hf
   have hR:=f7l h
   have hin:=(hl n h1).1
   obtain⟨a,e,ea⟩:=hR.fd k (hR.inK hin hk) (.inl (hR.st n hin h3 k hk))
   unfold a3q
   rw[e]
   exact i0d h (hR.inK (hR.inK hin hk) (by rw[e];exact List.mem_singleton.2 rfl)) ea
theorem f2i (hk:∀ n∈l,(nd t n).k=2\/(nd t n).k=3\/(nd t n).k=4) (hn:(b2l t l).Nodup) {n:Int} (hm:n∈l) (k2:(nd t n).k≠2):e6x (a0z t l) (nd t n).t=true↔c2s (a0z t l) (nd t n).t=true\/((nd t n).k=4/\(nd t n).kids=[]):=by
 obtain⟨h1,h2⟩:=d3u hk hn hm k2
 unfold e6x
 rw[h1,h2]
 simp only[Bool.or_eq_true,Bool.and_eq_true,decide_eq_true_eq,List.map_eq_nil_iff]
 exact or_comm
theorem h0i (hk:∀ n∈l,(nd t n).k=2\/(nd t n).k=3\/(nd t n).k=4) {n:Int} (hm:n∈l) (k2:(nd t n).k≠2):kn (a0z t l) (nd t n).t=true:=by
 rw[e8h hk]
 refine decide_eq_true (List.mem_map.2 ⟨n,List.mem_filter.2 ⟨hm,by simp[k2]⟩,rfl⟩)
theorem fl16 {x:Its} (h:Small x) (n:S):(flM x n).length<=16:=by
 unfold flM
 have key:∀ {l:List Nam},(∀ y∈l,y.fs.length<=16)->known (l.map Nam.n) n=true->(nam l n).fs.length<=16:=fun hl hk=>hl _ (d8v hk).1
 by_cases c:known (nS x) n=true
 ·rw[if_pos c];exact key h.sf c
 ·rw[if_neg c]
  by_cases d:known (nE x) n=true
  ·rw[if_pos d];exact key h.ef d
  ·rw[if_neg d];exact Nat.zero_le _
end
end Go.Vm.Ite
namespace Go.Vm.Ite
open Go.Vm.Tp (Nd a1r a1f a3x b4e kinds a9x)
open Go.Vm.Ip
open Go.Vm.Io hiding S
theorem g2t {t:List Nd} {kn:S->Bool}:∀ {l:List Int} {c n:Int},tyA t kn l=some (c,n)->c≠0
 |[],_,_,h=>by cases h
 |m::r,c,n,h=>by
  rw[tyA]at h
  split at h
  ·rename_i e he;cases h;exact g5k he
  ·exact g2t h
theorem g6y (t:List Nd):((ofP t).2=Lex.dgD 0 0 0/\a1f t=true)\/∃ c x y,c≠0/\(ofP t).2=Lex.dgD c x y:=by
 unfold ofP
 split
 ·rename_i hc
  split
  ·rename_i e he
   obtain⟨c,n⟩:=e
   refine .inr ⟨c,_,_,?_,rfl⟩
   unfold wrong at he
   split at he
   ·split at he
    ·rename_i e1 h1;cases he;exact f1t h1
    ·split at he
     ·rename_i e1 h1;cases he;exact g2t h1
     ·exact g4o he
   ·cases he;decide
  ·split
   ·exact .inr ⟨144,0,0,by decide,rfl⟩
   ·split
    ·exact .inr ⟨144,_,_,by decide,rfl⟩
    ·exact .inl ⟨rfl,hc⟩
 ·exact .inr ⟨3,0,0,by decide,rfl⟩
end Go.Vm.Ite

namespace Go.Vm.Tp
open Go.Vm.Lex
theorem c7j (i:Nat):∀ (ks out r:List Int),a6t i ks out=some r->(∀ k∈ks,0<=k)->∀ (j:Nat),0<=r.getD j (-1)->0<=out.getD j (-1)/\r.getD j (-1)=out.getD j (-1)\/r.getD j (-1)=i/\(j:Int)∈ks
 |[],out,r,h,_,j,hj=>by cases h;exact .inl ⟨hj,rfl⟩
 |k::ks,out,r,h,hk,j,hj=>by
  simp only[a6t]at h
  split at h
  ·cases h
  have hk0:=hk k (by simp)
  rcases c7j i ks _ r h (fun k' h'=>hk k' (by simp[h'])) j hj with⟨h1,h2⟩|⟨h1,h2⟩
  ·by_cases hjk:k.toNat=j
   ·subst hjk
    right
    by_cases hlt:k.toNat < out.length
    ·refine⟨by rw[h2];simp[hlt],?_⟩
     rw[show((k.toNat:Nat):Int)=k by omega];simp
    ·rw[h2]at hj;simp[hlt]at hj
   ·left
    have:(out.set k.toNat (i:Int)).getD j (-1)=out.getD j (-1):=by simp[List.getD_eq_getElem?_getD,hjk]
    rw[this]at h1 h2
    exact⟨h1,h2⟩
  ·exact .inr ⟨h1,by simp[h2]⟩
theorem d5a:∀ (i:Nat) (t:List Nd) (out r:List Int),b5d i t out=some r->(∀ x∈t,∀ k∈x.kids,0<=k)->∀ (j:Nat),0<=r.getD j (-1)->0<=out.getD j (-1)\/∃ a,a < t.length/\r.getD j (-1)=(i+a:Nat)/\(j:Int)∈(t.getD a default).kids
 |i,[],out,r,h,_,j,hj=>by cases h;exact .inl hj
 |i,x::t,out,r,h,hk,j,hj=>by
  simp only[b5d]at h
  obtain⟨o,h1,h2⟩:=Option.bind_eq_some_iff.1 h
  rcases d5a (i+1) t o r h2 (fun y hy=>hk y (by simp[hy])) j hj with h3|⟨a,h3,h4,h5⟩
  ·rcases c7j i x.kids out o h1 (hk x (by simp)) j h3 with⟨h4,_⟩|⟨h4,h5⟩
   ·exact .inl h4
   ·refine .inr ⟨0,by simp,?_,by simpa using h5⟩
    by_cases hr:r.getD j (-1)=(i:Int)
    ·rw[hr];simp
    ·exfalso
     exact hr (by
       have:=upAll_keep (i+1) t o r h2 j h3
       rw[this,h4])
  ·exact .inr ⟨a+1,by simp;omega,by rw[h4];congr 1;omega,by simpa using h5⟩
where
 upKids_keep (i:Nat):∀ (ks out r:List Int),a6t i ks out=some r->∀ j:Nat,0<=out.getD j (-1)->r.getD j (-1)=out.getD j (-1)
  |[],out,r,h,j,hj=>by cases h;rfl
  |k::ks,out,r,h,j,hj=>by
   simp only[a6t]at h
   split at h
   ·cases h
   rename_i hc
   have:(out.set k.toNat (i:Int)).getD j (-1)=out.getD j (-1):=by
    by_cases hjk:k.toNat=j
    ·subst hjk
     by_cases hlt:k.toNat < out.length
     ·have e:out.getD k.toNat 0=out.getD k.toNat (-1):=by simp[hlt]
      rw[e]at hc;exact absurd hj hc
     ·simp[hlt]
    ·simp[List.getD_eq_getElem?_getD,hjk]
   rw[upKids_keep i ks _ r h j (by rw[this];exact hj),this]
 upAll_keep:∀ (i:Nat) (t:List Nd) (out r:List Int),b5d i t out=some r->∀ j:Nat,0<=out.getD j (-1)->r.getD j (-1)=out.getD j (-1)
  |i,[],out,r,h,j,hj=>by cases h;rfl
  |i,x::t,out,r,h,j,hj=>by
   simp only[b5d]at h
   obtain⟨o,h1,h2⟩:=Option.bind_eq_some_iff.1 h
   have e1:=upKids_keep i x.kids out o h1 j hj
   rw[upAll_keep (i+1) t o r h2 j (by rw[e1];exact hj),e1]
theorem f1e {t:List Nd} {up:List Int} (h:ups t=some up) (hk:∀ x∈t,∀ k∈x.kids,0<=k) (j:Nat) (hj:0<=up.getD j (-1)):up.getD j (-1) < t.length/\(j:Int)∈(t.getD (up.getD j (-1)).toNat default).kids:=by
 rcases d5a 0 t _ up h hk j hj with h1|⟨a,h1,h2,h3⟩
 ·exfalso
  rw[List.getD_eq_getElem?_getD,List.getElem?_replicate]at h1
  split at h1<;>simp at h1
 ·rw[h2]
  exact⟨om,by simpa using h3⟩
theorem c5n.h2m {t:List Nd} {up:List Int} (h:c5n t up):∀ x∈t,∀ k∈x.kids,0<=k:=by
 intro x hx k hk
 obtain⟨i,hi,rfl⟩:=List.getElem_of_mem hx
 have e:t.getD i default=t[i]:=by simp[hi]
 have:=(h.nod i hi).kid k (by rw[e];exact hk)
 exact this.1
theorem c5n.above {t:List Nd} {up:List Int} (h:c5n t up) (j:Nat) (hj:0<=up.getD j (-1)):(j:Int) < up.getD j (-1)/\up.getD j (-1) < t.length/\(j:Int)∈(t.getD (up.getD j (-1)).toNat default).kids:=by
 obtain⟨h1,h2⟩:=f1e h.ups h.h2m j hj
 exact⟨by have:=((h.nod (up.getD j (-1)).toNat om).kid _ h2).2;omega,h1,h2⟩
theorem c5n.last {t:List Nd} {up:List Int} (h:c5n t up):¬ 0<=up.getD (t.length - 1) (-1):=fun hj=>by
  have:=h.above _ hj
  have:=h.lo
  omega
def TokP (s:List UInt8):Prop:=s≠[]/\s.length<=64
def AllT (l:Toks):Prop:=∀ s∈l,TokP s
end Go.Vm.Tp

