import Derived.Test.YtkedogplneaaiaaGreatDoorIteA
import Derived.Test.YtkedogplneaaiaaGreatDoorVmWp
import Derived.Test.YtkedogplneaaiaaGreatDoorVmOps2
import Derived.Test.YtkedogplneaaiaaGreatDoorVmFn
import Derived.Test.YtkedogplneaaiaaGreatDoorPlW7
set_option maxRecDepth 100000
set_option linter.unusedVariables false
set_option linter.unusedSimpArgs false
namespace Go.Vm.Pa
open Go.Vm.Lex (TokQ)
open Go.Vm.Tp (Nd I64)
structure TOk (l:List TokQ):Prop where
 len:l.length<=65537
 txt:∀ i,(l.getD i default).t.length<=65536
 val:∀ i,I64 (l.getD i default).v
 pos:∀ i,(l.getD i default).f<=65536/\(l.getD i default).e<=65536
 last:∀ i,i < l.length->(l.getD i default).k≠5->i+1 < l.length
structure h1h (n:Nat) (x:Nd):Prop where
 kid:∀ k∈x.kids,0<=k/\k.toNat<=n
 kl:x.kids.length<=1000000
 tl:x.t.length<=1000000
 v:I64 x.v
 f:I64 x.f
 e:I64 x.e
def b1o (s:PS):Prop:=s.ns.length=s.n/\∃ t:List Nd,s.ns=t.map Nd.D/\∀ x∈t,h1h s.n x
def c7i (m:Nat) (ks:List D) (n:Nat):Prop:=ks.length=n/\∃ il:List Int,ks=il.map (D.int .i64)/\∀ k∈il,0<=k/\k.toNat<=m
theorem c0u {m m' n:Nat} {ks:List D} (h:c7i m ks n) (hm:m<=m'):c7i m' ks n:=by
 obtain⟨h1,il,h2,h3⟩:=h
 exact⟨h1,il,h2,fun k hk=>⟨(h3 k hk).1,by have:=(h3 k hk).2;omega⟩⟩
theorem a6c (m:Nat):c7i m [] 0:=⟨rfl,[],rfl,fun k hk=>by cases hk⟩
theorem b0y {m:Nat} {i:Int} (h:0<=i/\i.toNat<=m):c7i m (one i) 1:=⟨rfl,[i],rfl,fun k hk=>by rw[List.mem_singleton.1 hk];exact h⟩
theorem d2z {m:Nat} {i j:Int} (h:0<=i/\i.toNat<=m) (g:0<=j/\j.toNat<=m):c7i m (two i j) 2:=⟨rfl,[i,j],rfl,fun k hk=>by
  simp only[List.mem_cons,List.not_mem_nil,or_false]at hk
  rcases hk with rfl|rfl
  ·exact h
  ·exact g⟩
theorem a6r {m:Nat} {i j p:Int} (h:0<=i/\i.toNat<=m) (g:0<=j/\j.toNat<=m) (k:0<=p/\p.toNat<=m):c7i m [.int .i64 i,.int .i64 j,.int .i64 p] 3:=⟨rfl,[i,j,p],rfl,fun x hx=>by
  simp only[List.mem_cons,List.not_mem_nil,or_false]at hx
  rcases hx with rfl|rfl|rfl
  ·exact h
  ·exact g
  ·exact k⟩
theorem a2n {m m':Nat} {ks:K} {i:Int} (h:c7i m ks.l ks.n) (hm:m<=m') (g:0<=i/\i.toNat<=m'):c7i m' (push ks i).l (push ks i).n:=by
 obtain⟨h1,il,h2,h3⟩:=c0u h hm
 refine⟨by show(ks.l++[_]).length=ks.n+1;rw[List.length_append,h1];rfl,il++[i],by show ks.l++[_]=_;rw[h2,List.map_append];rfl,fun k hk=>?_⟩
 rcases List.mem_append.1 hk with hk|hk
 ·exact h3 k hk
 ·rw[List.mem_singleton.1 hk];exact g
theorem a6j {s s1:PS} (h:b1o s) (h1:s1.ns=s.ns) (h2:s1.n=s.n):b1o s1:=by unfold b1o at*;rw[h1,h2];exact h
theorem e8m {s:PS} (h:b1o s) {s1:PS} {x:Nd} (h1:s1.ns=s.ns++[x.D]) (h2:s1.n=s.n+1) (hx:h1h (s.n+1) x):b1o s1:=by
 obtain⟨g1,t,g2,g3⟩:=h
 refine⟨by rw[h1,h2,List.length_append,g1];rfl,t++[x],by rw[h1,g2,List.map_append];rfl,fun y hy=>?_⟩
 rw[h2]
 rcases List.mem_append.1 hy with hy|hy
 ·have:=g3 y hy
  exact⟨fun k hk=>⟨(this.kid k hk).1,by have:=(this.kid k hk).2;omega⟩,this.kl,this.tl,this.v,this.f,this.e⟩
 ·rw[List.mem_singleton.1 hy];exact hx
section
variable {l:List TokQ} (hl:TOk l) {s s1:PS}
theorem e3z (h:okB s=true):s.bc=0:=by simpa [okB] using h
theorem h3r (h:okB s=false):s.bc≠0:=by simpa [okB] using h
theorem b2v {c:Int} (hc:c≠0):(a4w l c s).bc≠0:=by
 unfold a4w
 split
 ·exact hc
 ·rename_i h;simpa [okB] using h
theorem b0t {c:Int}:(a4w l c s).at_=s.at_:=by unfold a4w;split<;>rfl
theorem b0h {c:Int}:(a4w l c s).n=s.n:=by unfold a4w;split<;>rfl
theorem b3x {c:Int}:(a4w l c s).ns=s.ns:=by unfold a4w;split<;>rfl
include hl
theorem e5b (h5:(now l s).k≠5) (lo:0<=s.at_) (hi:s.at_ < l.length):(adv s).at_=s.at_+1/\s.at_+1 < l.length:=by
 have h1:=hl.last s.at_.toNat om h5
 have h2:=hl.len
 exact⟨a2x (n:=s.at_+1) om,om⟩
omit hl in
theorem f5o {x:S} (h:isS l s x=true):(now l s).k≠5:=by
 unfold isS at h
 simp only[Bool.and_eq_true,Bool.or_eq_true,decide_eq_true_eq]at h
 omega
theorem f9b {x:S} (e:a1z l x s=(true,s1)) (ns:b1o s) (lo:0<=s.at_) (hi:s.at_ < l.length):s.bc=0/\s1.bc=0/\s1.at_=s.at_+1/\s1.n=s.n/\s1.at_ < l.length/\b1o s1:=by
 unfold a1z at e
 split at e
 ·rename_i c
  simp only[Bool.and_eq_true]at c
  cases e
  have hb:=e3z c.1
  obtain⟨h1,h2⟩:=e5b hl (f5o c.2) lo hi
  exact⟨hb,hb,h1,rfl,by rw[h1];exact h2,a6j ns rfl rfl⟩
 ·cases e
omit hl in
theorem f8g {x:S} (e:a1z l x s=(false,s1)):s1=s:=by
 unfold a1z at e
 split at e
 ·cases e
 ·cases e;rfl
theorem h0s {x:S} {b:Bool} (e:a1z l x s=(b,s1)) (ns:b1o s) (lo:0<=s.at_) (hi:s.at_ < l.length):(b=true/\s.bc=0/\s1.bc=0/\s1.at_=s.at_+1/\s1.n=s.n/\s1.at_ < l.length/\b1o s1)\/(b=false/\s1=s):=by
 cases b with
 |true=>exact .inl ⟨rfl,f9b hl e ns lo hi⟩
 |false=>exact .inr ⟨rfl,f8g e⟩
theorem f8p {x:S} {b:Bool} (e:a3o l x s=(b,s1)) (ns:b1o s) (lo:0<=s.at_) (hi:s.at_ < l.length):(s.bc=0/\s1.bc=0/\s1.at_=s.at_+1/\s1.n=s.n/\s1.at_ < l.length/\b1o s1)\/(s1.bc≠0/\s1.at_=s.at_/\s1.n=s.n/\b1o s1):=by
 unfold a3o at e
 split at e
 ·rename_i c
  simp only[Bool.and_eq_true]at c
  cases e
  have hb:=e3z c.1
  obtain⟨h1,h2⟩:=e5b hl (f5o c.2) lo hi
  exact .inl ⟨hb,hb,h1,rfl,by rw[h1];exact h2,a6j ns rfl rfl⟩
 ·cases e
  exact .inr ⟨b2v (by decide),b0t,b0h,a6j ns b3x b0h⟩
theorem h0e {t:S} (e:a9v l s=(t,s1)) (ns:b1o s) (lo:0<=s.at_) (hi:s.at_ < l.length):t.length<=65536/\((s.bc=0/\s1.bc=0/\s1.at_=s.at_+1/\s1.n=s.n/\s1.at_ < l.length/\b1o s1)\/(s1.bc≠0/\s1.at_=s.at_/\s1.n=s.n/\b1o s1)):=by
 unfold a9v at e
 split at e
 ·rename_i c
  simp only[Bool.and_eq_true,decide_eq_true_eq]at c
  cases e
  have hb:=e3z c.1
  obtain⟨h1,h2⟩:=e5b hl om lo hi
  exact⟨hl.txt _,.inl ⟨hb,hb,h1,rfl,by rw[h1];exact h2,a6j ns rfl rfl⟩⟩
 ·cases e
  exact⟨Nat.zero_le _,.inr ⟨b2v (by decide),b0t,b0h,a6j ns b3x b0h⟩⟩
omit hl in
theorem g9g {c:Int} {b:Bool} (e:c2w l c s=(b,s1)) (ns:b1o s):s1.at_=s.at_/\s1.n=s.n/\b1o s1/\((b=true/\s.bc=0/\s1.bc=0)\/(b=false/\s1.bc≠0)):=by
 have h1:(b0j l c s).at_=s.at_/\(b0j l c s).n=s.n/\(b0j l c s).ns=s.ns/\((b0j l c s).bc=0->s.bc=0):=by
  unfold b0j
  split
  ·exact⟨b0t,b0h,b3x,fun h=>absurd h (b2v (by decide))⟩
  ·exact⟨rfl,rfl,rfl,id⟩
 have h2:(b4d l (b0j l c s)).at_=s.at_/\(b4d l (b0j l c s)).n=s.n/\(b4d l (b0j l c s)).ns=s.ns/\((b4d l (b0j l c s)).bc=0->s.bc=0):=by
  unfold b4d
  split
  ·exact⟨b0t.trans h1.1,b0h.trans h1.2.1,b3x.trans h1.2.2.1,fun h=>absurd h (b2v (by decide))⟩
  ·exact h1
 unfold c2w at e
 cases e
 refine⟨h2.1,h2.2.1,a6j ns h2.2.2.1 h2.2.1,?_⟩
 cases hb:okB (a3h (b4d l (b0j l c s)))with
 |true=>exact .inl ⟨rfl,h2.2.2.2 (e3z hb),e3z hb⟩
 |false=>exact .inr ⟨rfl,h3r hb⟩
theorem d8r {fr:Int} {x:N} {m:Nat} (ns:b1o s) (hn:s.n < 1000000) (h0:0<=fr) (h1:fr<=s.at_) (hi:s.at_ < l.length) (kk:c7i (s.n+1) x.ks m) (hm:m<=1000000) (ht:x.t.length<=1000000) (hv:I64 x.v):∃ i s1,a2p l fr x s=some (i,s1)/\s1.at_=s.at_/\s1.bc=s.bc/\s1.n=s.n+1/\b1o s1/\0<=i/\i.toNat<=s1.n:=by
 have hlen:=hl.len
 have hw:w (s.at_ - 1)=s.at_ - 1:=a2x om
 have c:s.ns.length=s.n/\s.n < 1000000/\okF l fr/\(fr < s.at_->okF l (w (s.at_ - 1))):=⟨ns.1,hn,by unfold okF;simp;omega,fun _=>by unfold okF;rw[hw];simp;omega⟩
 unfold a2p
 rw[if_pos c]
 refine⟨_,_,rfl,rfl,rfl,rfl,?_,?_,?_⟩
 ·obtain⟨k1,il,k2,k3⟩:=kk
  have hf:∀ i,I64 ((l.getD i default).f:Int)/\I64 ((l.getD i default).e:Int):=fun i=>by
    have:=hl.pos i
    unfold I64;omega
  refine e8m (x:=⟨x.k,x.t,x.v,il,_,_⟩) ns (by rw[show(N.D x _ _)=Nd.D ⟨x.k,x.t,x.v,il,_,_⟩from by unfold N.D Nd.D;rw[k2]]) rfl ⟨k3,by rw[<-@List.length_map _ _ il (D.int .i64),<-k2,k1];exact hm,ht,hv,(hf _).1,?_⟩
  show I64 (if fr < s.at_ then _ else _)
  split
  ·exact(hf _).2
  ·unfold I64;omega
 ·show 0<=w _
  rw[show w (((s.n+1:Nat):Int) - 1)=(s.n:Int)from(a2x om).trans om];omega
 ·show(w _).toNat<=s.n+1
  rw[show w (((s.n+1:Nat):Int) - 1)=(s.n:Int)from(a2x om).trans om];omega
end
def cQ:Q->Nat
 | .typ| .typed _| .param| .field| .variant| .params _ _| .fields _ _| .block| .let_ _| .match_| .pattern| .patterned _| .named _ _| .inits _| .init=>1
 | .function| .item| .items _| .branch| .cond| .expr _| .row _ _| .operand _| .prefix_ _| .postfix_ _| .primary _| .args _=>2
 | .stmts _| .stmt| .blocky _| .arms _| .arm=>3
 | .parts _| .rows .. | .gets .. =>0
def dQ:Q->Nat
 | .typ| .typed _| .param| .field| .variant| .params _ _| .fields _ _| .parts _| .pattern| .patterned _=>12
 | .function| .item| .stmt| .blocky _| .arm=>10
 | .items _=>8
 | .stmts _| .arms _=>7
 |_=>11
def nQ:Q->Nat
 | .block=>1
 |_=>0
def pQ:Q->Nat
 | .params _ _| .fields _ _| .items _| .stmts _| .arms _| .rows .. | .gets .. | .args _| .inits _=>0
 |_=>1
def rQ:Q->Int
 | .typ| .params _ _| .fields _ _| .item| .branch| .inits _| .pattern=>1
 | .items _| .blocky _| .primary _| .arm=>2
 | .postfix_ _| .arms _=>3
 | .prefix_ _=>4
 | .operand _=>5
 | .row r _=>10 - r
 | .expr _=>11
 | .stmt| .args _=>12
 | .stmts _=>13
 |_=>0
def oQ:Q->Nat
 | .typ| .block| .pattern| .expr _| .operand _| .params _ _| .fields _ _| .items _| .stmts _| .arms _| .rows .. | .gets .. | .args _| .inits _=>0
 |_=>1
def Ext (l:List TokQ) (s:PS):Q->Prop
 | .typed fr| .let_ fr| .blocky fr| .patterned fr| .named fr _=>0<=fr/\fr<=s.at_
 | .params ks v=>(c7i s.n ks.l ks.n/\(ks.n:Int)<=s.at_+3/\(s.bc=0->(ks.n:Int)<=s.at_+2))/\I64 v
 | .fields _ ks| .items ks| .stmts ks| .arms ks| .args ks| .inits ks=>c7i s.n ks.l ks.n/\(ks.n:Int)<=s.at_+3/\(s.bc=0->(ks.n:Int)<=s.at_+2)
 | .parts _=>(now l s).k≠5
 | .row r _=>0<=r/\r<=5
 | .rows r _ fr a=>(0<=r/\r<=4)/\(0<=fr/\fr<=s.at_)/\0<=a/\a.toNat<=s.n
 | .gets fr a=>(0<=fr/\fr<=s.at_)/\0<=a/\a.toNat<=s.n
 |_=>True
structure Pre (l:List TokQ) (q:Q) (s:PS):Prop where
 lo:0<=s.at_
 hi:s.at_ < l.length
 ns:b1o s
 bd:(s.bc=0->(s.n:Int)+15* (l.length - s.at_)+cQ q<=999990)/\(s.bc≠0->(s.n:Int)+15* (l.length - s.at_)+nQ q<=999990)
 ok:oQ q=1->s.bc=0
 ex:Ext l s q
def Num (c d n p:Nat) (s s1:PS):Prop:=s.at_<=s1.at_/\s.n<=s1.n/\(s.bc≠0->s1.bc≠0/\s1.at_=s.at_/\s1.n<=s.n+n)/\(s.bc=0->p=1->s.at_ < s1.at_\/s1.bc≠0)/\(s.bc=0->(s1.at_=s.at_/\s1.n<=s.n+c)\/(s.at_ < s1.at_/\(s1.n:Int)+d<=s.n+15* (s1.at_ - s.at_)))
structure Post (l:List TokQ) (q:Q) (s:PS) (r:R) (s1:PS):Prop where
 num:Num (cQ q) (dQ q) (nQ q) (pQ q) s s1
 hi:s1.at_ < l.length
 ns:b1o s1
 ri:0<=r.i/\r.i.toNat<=s1.n
 rk:c7i s1.n r.ks.l r.ks.n/\(r.ks.n:Int)<=s1.at_+3
 rv:I64 r.v
def G (l:List TokQ) (q:Q) (s:PS) (x:M):Prop:=∃ r s1,x=some (r,s1)/\Post l q s r s1
def Mu (l:List TokQ) (q:Q) (s:PS) (n:Nat):Prop:=(s.bc=0->64* ((l.length:Int) - s.at_)+1+rQ q < n)/\(s.bc≠0->64* ((l.length:Int) - s.at_) < n)
def IHt (l:List TokQ) (n:Nat):Prop:=∀ q s,Pre l q s->Mu l q s n->G l q s (go l n q s)
section
variable {l:List TokQ} {n:Nat} (IH:IHt l n) {q:Q} {s s1:PS} {r:R}
theorem e9r (h:Post l q s r s1) (lo:0<=s.at_):okS l s1=true:=by
 have:=h.hi
 have:=h.num.1
 unfold okS;simp;omega
include IH
theorem g4u (e:cl l (go l n) q s=some (r,s1)) (p:Pre l q s) (m:Mu l q s n):Post l q s r s1:=by
 obtain⟨r',s',h1,h2⟩:=IH q s p m
 unfold cl at e
 rw[h1]at e
 simp only[e9r h2 p.lo,if_true,Option.some.injEq,Prod.mk.injEq]at e
 obtain⟨rfl,rfl⟩:=e
 exact h2
theorem g3s (e:cl l (go l n) q s=none) (p:Pre l q s) (m:Mu l q s n):False:=by
 obtain⟨r',s',h1,h2⟩:=IH q s p m
 unfold cl at e
 rw[h1]at e
 simp only[e9r h2 p.lo,if_true]at e
 cases e
theorem i1z (p:Pre l q s) (m:Mu l q s n):cl l (go l n) q s=go l n q s:=by
 obtain⟨r',s',h1,h2⟩:=IH q s p m
 unfold cl
 rw[h1]
 simp only[e9r h2 p.lo,if_true]
end
end Go.Vm.Pa
namespace Go.Vm.Pa
open Go.Vm.Lex (TokQ)
inductive Pr where
 |ret (r:R)
 |dead
 |take (x:S) (k:Bool->Pr)
 |need (x:S) (k:Pr)
 |name (k:S->Pr)
 |is (x:S) (k:Bool->Pr)
 |ok (k:Bool->Pr)
 |kind (c:Int) (k:Bool->Pr)
 |text (x:S) (k:Bool->Pr)
 |val (k:Int->Pr)
 |sign (r:Int) (k:S->Pr)
 |into (c:Int) (k:Bool->Pr)
 |down (k:Pr)
 |adv (k:Pr)
 |node (fr:Int) (n:N) (k:Int->Pr)
 |unit (k:Int->Pr)
 |fail (k:Pr)
 |pos (k:Int->Pr)
 |call (q:Q) (k:R->Pr)
 |tail (q:Q)
section
variable (l:List TokQ) (go:Q->PS->M)
def a6p (s:PS):Option (Int×PS):=
 if s.ns.length=s.n/\s.n < 1000000/\okF l (w (s.at_ - 1)) then
  some (w (((s.n+1:Nat):Int) - 1),{s with n:=s.n+1,ns:=s.ns++[N.D ⟨12,[],0,[]⟩ (l.getD (w (s.at_ - 1)).toNat default).e (l.getD (w (s.at_ - 1)).toNat default).e]})
 else none
def a7q:Pr->PS->M
 | .ret r,s=>some (r,s)
 | .dead,_=>none
 | .take x k,s=>a7q (k (a1z l x s).1) (a1z l x s).2
 | .need x k,s=>a7q k (a3o l x s).2
 | .name k,s=>a7q (k (a9v l s).1) (a9v l s).2
 | .is x k,s=>a7q (k (isS l s x)) s
 | .ok k,s=>a7q (k (okB s)) s
 | .kind c k,s=>a7q (k (decide ((now l s).k=c))) s
 | .text x k,s=>a7q (k (decide ((now l s).t=x))) s
 | .val k,s=>a7q (k (now l s).v) s
 | .sign r k,s=>a7q (k (a7p l r s)) s
 | .into c k,s=>a7q (k (c2w l c s).1) (c2w l c s).2
 | .down k,s=>a7q k (down s)
 | .adv k,s=>match okS l (adv s)with|true=>a7q k (adv s)|false=>none
 | .node fr n k,s=>match a2p l fr n s with|some (i,s1)=>a7q (k i) s1|none=>none
 | .unit k,s=>match a6p l s with|some (i,s1)=>a7q (k i) s1|none=>none
 | .fail k,s=>a7q k (a4w l 120 s)
 | .pos k,s=>a7q (k s.at_) s
 | .call q k,s=>match cl l go q s with|some (r,s1)=>a7q (k r) s1|none=>none
 | .tail q,s=>go q s
end
def guard (b:Bool) (p:Pr):Pr:=match b with|true=>p|false=> .dead
def mkP (fr:Int) (k:Int) (t:S) (v:Int) (ks:List D):Pr:= .node fr ⟨k,t,v,ks⟩ fun i=> .ret (rI i)
def endP (fr:Int) (n:N):Pr:= .node fr n fun i=> .need [59] (.ret (rI i))
def c6i (c:Int) (q:Q):Pr:= .into c fun b=>match b with
  |false=> .down (.ret (rI 0))
  |true=> .call q fun a=> .down (.ret (rI a.i))
def f8r (fr:Int):Pr:= .take [45] fun m=> .kind 3 fun b=>match b with
  |false=> .fail (.ret (rI 0))
  |true=> .val fun v=> .adv (match m with
   |true=>mkP fr 52 [] (w (0 - v)) []
   |false=>mkP fr 52 [] v [])
def newP (fr:Int):Pr:= .name fun _=> .need [40] (.call (.expr false) fun r=> .need [41] (mkP fr 44 [] 0 (one r.i)))
def d7a (fr:Int) (t:S):Pr:= .take [58,58] fun b=>match b with
  |false=>mkP fr 33 t 0 []
  |true=> .name fun u=> .take [40] fun b=>match b with
   |false=>mkP fr 37 (t++[58,58]++u) 0 []
   |true=> .call (.expr false) fun r=> .need [41] (mkP fr 37 (t++[58,58]++u) 0 (one r.i))
def rowP (x:S) (q:Q) (ks:K) (k:K->Q):Pr:= .ok fun b=>match b with
  |false=> .ret (rK ks)
  |true=> .is x fun b=>match b with
   |true=> .ret (rK ks)
   |false=> .call q fun r=>guard (okK ks) (.take [44] fun b=>match b with
    |true=> .tail (k (push ks r.i))
    |false=> .ret (rK (push ks r.i)))
def prog:Q->Pr
 | .typ=> .pos fun p=>c6i 116 (.typed p)
 | .typed fr=> .take [105,54,52] fun b=>match b with
   |true=>mkP fr 10 [] 0 []
   |false=> .take [98,111,111,108] fun b=>match b with
   |true=>mkP fr 11 [] 0 []
   |false=> .take [40] fun b=>match b with
   |true=> .need [41] (mkP fr 12 [] 0 [])
   |false=> .take [38] fun b=>match b with
   |true=> .take [109,117,116] fun b=>match b with
    |true=> .call .typ fun r=>mkP fr 15 [] 0 (one r.i)
    |false=> .call .typ fun r=>mkP fr 14 [] 0 (one r.i)
   |false=> .take [66,111,120] fun b=>match b with
   |true=> .need [60] (.call .typ fun r=> .need [62] (mkP fr 16 [] 0 (one r.i)))
   |false=> .name fun t=>mkP fr 13 t 0 []
 | .param=> .pos fun p=> .take [109,117,116] fun m=> .name fun t=> .need [58] (.call .typ fun r=>match m with
   |true=>mkP p 7 t 1 (one r.i)
   |false=>mkP p 7 t 0 (one r.i))
 | .field=> .pos fun p=> .name fun t=> .need [58] (.call .typ fun r=>mkP p 5 t 0 (one r.i))
 | .variant=> .pos fun p=> .name fun t=> .take [40] fun b=>match b with
   |true=> .call .typ fun r=> .need [41] (mkP p 6 t 0 (one r.i))
   |false=>mkP p 6 t 0 []
 | .params ks v=> .ok fun b=>match b with
   |false=> .ret ⟨0,false,ks,v⟩
   |true=> .is [41] fun b=>match b with
   |true=> .ret ⟨0,false,ks,v⟩
   |false=> .call .param fun r=>guard (okK ks) (.take [44] fun b=>match b with
    |true=> .tail (.params (push ks r.i) (w (v+1)))
    |false=> .ret ⟨0,false,push ks r.i,w (v+1)⟩)
 | .function=> .pos fun p0=> .need [102,110] (.name fun t=> .need [40] (.call (.params K.o 0) fun p=> .need [41] (.take [45,62] fun b=>match b with
   |true=> .call .typ fun r=>guard (okK p.ks) (.call .block fun q=>guard (okK (push p.ks r.i)) (guard (okK (push (push p.ks r.i) q.i)) (mkP p0 2 t p.v (push (push p.ks r.i) q.i).l)))
   |false=> .ok fun b=>match b with
    |true=> .unit fun i=>guard (okK p.ks) (.call .block fun q=>guard (okK (push p.ks i)) (guard (okK (push (push p.ks i) q.i)) (mkP p0 2 t p.v (push (push p.ks i) q.i).l)))
    |false=> .call .block fun q=>guard (okK p.ks) (guard (okK (push p.ks q.i)) (mkP p0 2 t p.v (push p.ks q.i).l)))))
 | .fields k ks=>match decide (k=3)with
   |true=>rowP [125] .field ks (.fields k)
   |false=>rowP [125] .variant ks (.fields k)
 | .parts k=> .pos fun p0=> .adv (.name fun t=> .need [123] (.call (.fields k K.o) fun p=> .need [125] (guard (okK p.ks) (mkP p0 k t 0 p.ks.l))))
 | .item=> .is [115,116,114,117,99,116] fun b=>match b with
   |true=> .call (.parts 3) .ret
   |false=> .is [101,110,117,109] fun b=>match b with
   |true=> .call (.parts 4) .ret
   |false=> .call .function .ret
 | .items ks=> .ok fun b=>match b with
   |false=> .ret (rK ks)
   |true=> .kind 5 fun b=>match b with
   |true=> .ret (rK ks)
   |false=> .call .item fun r=>guard (okK ks) (.tail (.items (push ks r.i)))
 | .stmts ks=> .ok fun b=>match b with
   |false=> .ret (rK ks)
   |true=> .is [125] fun b=>match b with
   |true=> .ret (rK ks)
   |false=> .call .stmt fun r=>guard (okK ks) (match r.b with
    |true=> .ret ⟨0,true,push ks r.i,1⟩
    |false=> .tail (.stmts (push ks r.i)))
 | .block=> .pos fun p0=> .into 98 fun b=>match b with
   |false=> .down (mkP p0 20 [] 0 [])
   |true=> .need [123] (.call (.stmts K.o) fun p=> .need [125] (guard (okK p.ks) (.down (mkP p0 20 [] p.v p.ks.l))))
 | .stmt=> .pos fun p0=> .is [108,101,116] fun b=>match b with
   |true=> .call (.let_ p0) fun r=> .ret (rI r.i)
   |false=> .take [119,104,105,108,101] fun b=>match b with
   |true=> .call (.expr true) fun x=> .call .block fun y=>mkP p0 24 [] 0 (two x.i y.i)
   |false=> .take [114,101,116,117,114,110] fun b=>match b with
   |true=> .is [59] fun b=>match b with
    |true=>endP p0 ⟨25,[],0,[]⟩
    |false=> .call (.expr false) fun x=>endP p0 ⟨25,[],0,one x.i⟩
   |false=> .take [98,114,101,97,107] fun b=>match b with
   |true=>endP p0 ⟨26,[],0,[]⟩
   |false=> .take [99,111,110,116,105,110,117,101] fun b=>match b with
   |true=>endP p0 ⟨27,[],0,[]⟩
   |false=> .is [105,102] fun b=>match b with
   |true=> .call (.blocky p0) .ret
   |false=> .is [109,97,116,99,104] fun b=>match b with
   |true=> .call (.blocky p0) .ret
   |false=> .is [123] fun b=>match b with
   |true=> .call (.blocky p0) .ret
   |false=> .call (.expr false) fun x=> .take [61] fun b=>match b with
   |true=> .call (.expr false) fun y=>endP p0 ⟨23,[],0,two x.i y.i⟩
   |false=> .is [125] fun b=>match b with
   |true=> .ret ⟨x.i,true,K.o,0⟩
   |false=>endP p0 ⟨22,[],0,one x.i⟩
 | .let_ fr=> .need [108,101,116] (.take [109,117,116] fun m=> .name fun t=> .take [58] fun b=>match b with
   |true=> .call .typ fun x=> .need [61] (.call (.expr false) fun y=>match m with
    |true=>endP fr ⟨21,t,1,two x.i y.i⟩
    |false=>endP fr ⟨21,t,0,two x.i y.i⟩)
   |false=> .need [61] (.call (.expr false) fun y=>match m with
    |true=>endP fr ⟨21,t,1,one y.i⟩
    |false=>endP fr ⟨21,t,0,one y.i⟩))
 | .blocky fr=> .call .branch fun k=> .is [125] fun b=>match b with
   |true=> .ret ⟨k.i,true,K.o,0⟩
   |false=> .node fr ⟨22,[],0,one k.i⟩ fun i=> .take [59] fun _=> .ret (rI i)
 | .branch=> .is [105,102] fun b=>match b with
   |true=> .call .cond .ret
   |false=> .is [109,97,116,99,104] fun b=>match b with
   |true=> .call .match_ .ret
   |false=> .call .block .ret
 | .cond=> .pos fun p0=> .need [105,102] (.call (.expr true) fun x=> .call .block fun y=> .take [101,108,115,101] fun b=>match b with
   |false=>mkP p0 45 [] 0 (two x.i y.i)
   |true=> .is [105,102] fun b=>match b with
    |false=> .call .block fun z=>mkP p0 45 [] 0 [.int .i64 x.i,.int .i64 y.i,.int .i64 z.i]
    |true=> .into 101 fun b=>match b with
     |false=> .down (mkP p0 45 [] 0 [.int .i64 x.i,.int .i64 y.i,.int .i64 0])
     |true=> .call .cond fun z=> .down (mkP p0 45 [] 0 [.int .i64 x.i,.int .i64 y.i,.int .i64 z.i]))
 | .match_=> .pos fun p0=> .need [109,97,116,99,104] (.call (.expr true) fun x=> .need [123] (.call (.arms ⟨one x.i,1⟩) fun p=> .need [125] (guard (okK p.ks) (mkP p0 46 [] 0 p.ks.l))))
 | .arms ks=> .ok fun b=>match b with
   |false=> .ret (rK ks)
   |true=> .is [125] fun b=>match b with
   |true=> .ret (rK ks)
   |false=> .call .arm fun r=>guard (okK ks) (.tail (.arms (push ks r.i)))
 | .arm=> .pos fun p0=> .call .pattern fun x=> .need [61,62] (.is [123] fun b=>match b with
   |true=> .call .block fun y=> .node p0 ⟨47,[],0,two x.i y.i⟩ fun i=> .take [44] fun _=> .ret (rI i)
   |false=> .call (.expr false) fun y=> .node p0 ⟨47,[],0,two x.i y.i⟩ fun i=> .is [125] fun b=>match b with
    |true=> .ret (rI i)
    |false=> .need [44] (.ret (rI i)))
 | .pattern=> .pos fun p=>c6i 112 (.patterned p)
 | .patterned fr=> .take [95] fun b=>match b with
   |true=>mkP fr 50 [] 0 []
   |false=> .take [116,114,117,101] fun b=>match b with
   |true=>mkP fr 53 [] 1 []
   |false=> .take [102,97,108,115,101] fun b=>match b with
   |true=>mkP fr 53 [] 0 []
   |false=> .is [45] fun b=>match b with
   |true=>f8r fr
   |false=> .kind 3 fun b=>match b with
   |true=>f8r fr
   |false=> .name fun t=> .take [58,58] fun b=>match b with
   |false=>mkP fr 51 t 0 []
   |true=> .name fun u=> .take [40] fun b=>match b with
   |false=>mkP fr 54 (t++[58,58]++u) 0 []
   |true=> .call .pattern fun r=> .need [41] (mkP fr 54 (t++[58,58]++u) 0 (one r.i))
 | .expr bare=>c6i 101 (.row 0 bare)
 | .row r bare=>match decide (r=5)with
   |true=> .call (.prefix_ bare) .ret
   |false=> .pos fun p=> .call (.row (w (r+1)) bare) fun a=> .call (.rows r bare p a.i) fun a=> .ret (rI a.i)
 | .rows r bare fr a=> .ok fun b=>match b with
   |false=> .ret (rI a)
   |true=> .sign r fun g=>match(!decide (g=[]))with
   |false=> .ret (rI a)
   |true=> .adv (.call (.row (w (r+1)) bare) fun b=> .node fr ⟨38,g,0,two a b.i⟩ fun i=>match decide (r=2)with
    |true=> .ret (rI i)
    |false=> .tail (.rows r bare fr i))
 | .operand bare=>c6i 101 (.prefix_ bare)
 | .prefix_ bare=> .pos fun p=> .take [45] fun b=>match b with
   |true=> .call (.operand bare) fun r=>mkP p 39 [] 0 (one r.i)
   |false=> .take [33] fun b=>match b with
   |true=> .call (.operand bare) fun r=>mkP p 40 [] 0 (one r.i)
   |false=> .take [42] fun b=>match b with
   |true=> .call (.operand bare) fun r=>mkP p 42 [] 0 (one r.i)
   |false=> .take [38] fun b=>match b with
   |true=> .take [109,117,116] fun b=>match b with
    |true=> .call (.operand bare) fun r=>mkP p 43 [] 1 (one r.i)
    |false=> .call (.operand bare) fun r=>mkP p 43 [] 0 (one r.i)
   |false=> .call (.postfix_ bare) .ret
 | .postfix_ bare=> .pos fun p=> .call (.primary bare) fun a=> .call (.gets p a.i) fun a=> .ret (rI a.i)
 | .gets fr a=> .take [46] fun b=>match b with
   |false=> .ret (rI a)
   |true=> .name fun t=> .node fr ⟨41,t,0,one a⟩ fun i=> .tail (.gets fr i)
 | .primary bare=> .ok fun b=>match b with
   |false=> .dead
   |true=> .pos fun p=> .kind 3 fun b=>match b with
   |true=> .val fun v=> .adv (mkP p 30 [] v [])
   |false=> .take [116,114,117,101] fun b=>match b with
   |true=>mkP p 31 [] 1 []
   |false=> .take [102,97,108,115,101] fun b=>match b with
   |true=>mkP p 31 [] 0 []
   |false=> .take [40] fun b=>match b with
   |true=> .take [41] fun b=>match b with
    |true=>mkP p 32 [] 0 []
    |false=> .call (.expr false) fun r=> .need [41] (.ret (rI r.i))
   |false=> .take [66,111,120] fun b=>match b with
   |true=> .need [58,58] (.ok fun b=>match b with
    |true=> .kind 1 fun b=>match b with
     |false=> .fail (newP p)
     |true=> .text [110,101,119] fun b=>match b with
      |false=> .fail (newP p)
      |true=>newP p
    |false=>newP p)
   |false=> .is [105,102] fun b=>match b with
   |true=> .call .branch .ret
   |false=> .is [109,97,116,99,104] fun b=>match b with
   |true=> .call .branch .ret
   |false=> .is [123] fun b=>match b with
   |true=> .call .branch .ret
   |false=> .call (.named p bare) .ret
 | .named fr bare=> .name fun t=> .take [40] fun b=>match b with
   |true=> .call (.args K.o) fun p=> .need [41] (guard (okK p.ks) (mkP fr 34 t 0 p.ks.l))
   |false=>match bare with
    |true=>d7a fr t
    |false=> .take [123] fun b=>match b with
     |true=> .call (.inits K.o) fun p=> .need [125] (guard (okK p.ks) (mkP fr 35 t 0 p.ks.l))
     |false=>d7a fr t
 | .args ks=>rowP [41] (.expr false) ks .args
 | .inits ks=>rowP [125] .init ks .inits
 | .init=> .pos fun p=> .name fun t=> .need [58] (.call (.expr false) fun r=>mkP p 36 t 0 (one r.i))
section
variable (l:List TokQ) (go:Q->PS->M)
theorem run_mk (fr:Int) (k:Int) (t:S) (v:Int) (ks:List D) (s:PS):a7q l go (mkP fr k t v ks) s=mk l fr k t v ks s:=by
 unfold mkP mk ret
 simp only[a7q]
 cases a2p l fr ⟨k,t,v,ks⟩ s<;>rfl
end
end Go.Vm.Pa
namespace Go.Vm.Pa
open Go.Vm.Lex (TokQ)
section
variable (l:List TokQ) (go:Q->PS->M)
theorem run_end (fr:Int) (n:N) (s:PS):a7q l go (endP fr n) s=b4n l fr n s:=by
 unfold endP b4n
 simp only[a7q]
 cases a2p l fr n s<;>rfl
theorem g4b (fr:Int) (n:N) (s:PS):e8u l fr n s=b4n l fr n s:=by
 unfold e8u b4n
 cases a2p l fr n s<;>rfl
theorem d7r (x:S) (q:Q) (ks:K) (k:K->Q) (s:PS):a7q l go (rowP x q ks k) s=(match okB s with
    |false=>some (rK ks,s)
    |true=>match isS l s x with
    |true=>some (rK ks,s)
    |false=>match cl l go q s with
    |none=>none
    |some (r,s1)=>match okK ks with
    |false=>none
    |true=>match a1z l [44] s1 with
    |(true,s2)=>go (k (push ks r.i)) s2
    |(false,s2)=>some (rK (push ks r.i),s2)):=by
  unfold rowP
  simp only[a7q]
  repeat' (first|rfl|contradiction|(split<;>simp_all only[a7q,guard])|fail)
theorem d9r (q:Q) (s:PS):step l go q s=a7q l go (prog q) s:=by
 cases q
 case fields k ks=>
  simp only[step,prog]
  by_cases c:k=3
  ·subst c
   simp only[d7r,decide_true]
   repeat' (first|rfl|contradiction|(split<;>simp_all only[a7q,guard])|fail)
  ·simp only[d7r,decide_eq_false c]
   repeat' (first|rfl|contradiction|(split<;>simp_all only[a7q,guard])|fail)
 all_goals(
   simp only[step,prog,deeper,g4b,step.numS,step.newS,step.pickS,c6i,f8r,newP,d7a,d7r,guard,a7q,run_mk,run_end]
   repeat' (first|rfl|contradiction|(split<;>simp_all only[a7q,guard,run_mk,run_end,f8r,newP,d7a,a6p,Bool.not_eq_eq_eq_not,Bool.not_true,Bool.not_false,if_true,if_false])|fail))
end
end Go.Vm.Pa
namespace Go.Vm.Pa
open Go.Vm.Lex (TokQ)
inductive EX where
 |ok (r:R) (s:PS)
 |bad (c f e:Int)
section
variable (l:List TokQ) (go:Q->PS->Option EX)
def c9y (c:Int) (s:PS):Option EX:=some (.bad c (now l s).f (now l s).e)
def a0a:Pr->PS->Option EX
 | .ret r,s=>some (.ok r s)
 | .dead,_=>none
 | .take x k,s=>match isS l s x with|true=>a0a (k true) (adv s)|false=>a0a (k false) s
 | .need x k,s=>match isS l s x with|true=>a0a k (adv s)|false=>c9y l 120 s
 | .name k,s=>match decide ((now l s).k=1)with|true=>a0a (k (now l s).t) (adv s)|false=>c9y l 120 s
 | .is x k,s=>a0a (k (isS l s x)) s
 | .ok k,s=>a0a (k true) s
 | .kind c k,s=>a0a (k (decide ((now l s).k=c))) s
 | .text x k,s=>a0a (k (decide ((now l s).t=x))) s
 | .val k,s=>a0a (k (now l s).v) s
 | .sign r k,s=>a0a (k (a7p l r s)) s
 | .into c k,s=>match a1e l c s with
   |true=>(match decide (100<=s.deep)with|true=>c9y l 121 s|false=>a0a (k true) (a3h s))
   |false=>c9y l 120 s
 | .down k,s=>a0a k (down s)
 | .adv k,s=>match okS l (adv s)with|true=>a0a k (adv s)|false=>none
 | .node fr n k,s=>match a2p l fr n s with|some (i,s1)=>a0a (k i) s1|none=>none
 | .unit k,s=>match a6p l s with|some (i,s1)=>a0a (k i) s1|none=>none
 | .fail k,s=>c9y l 120 s
 | .pos k,s=>a0a (k s.at_) s
 | .call q k,s=>match go q s with|some (.ok r s1)=>(match okS l s1 with|true=>a0a (k r) s1|false=>none)|x=>x
 | .tail q,s=>go q s
end
def goE (l:List TokQ):Nat->Q->PS->Option EX
 |0,_,_=>none
 |n+1,q,s=>a0a l (goE l n) (prog q) s
def b7b (s s':PS):Prop:=s'.bc=s.bc/\s'.bf=s.bf/\s'.be=s.be
theorem b7b.rfl' {s:PS}:b7b s s:=⟨rfl,rfl,rfl⟩
theorem b7b.trans {s s1 s2:PS} (h:b7b s s1) (h':b7b s1 s2):b7b s s2:=⟨h'.1.trans h.1,h'.2.1.trans h.2.1,h'.2.2.trans h.2.2⟩
section
variable {l:List TokQ}
theorem b9n {s:PS} (h:s.bc=0):okB s=true:=by simp[okB,h]
theorem b6f {s:PS} (h:s.bc≠0):okB s=false:=by simp[okB,h]
theorem d6k {s:PS} (h:s.bc≠0) (c:Int):a4w l c s=s:=by unfold a4w;rw[b6f h];rfl
theorem c4n {s:PS} (h:s.bc=0) (c:Int):a4w l c s={s with bc:=c,bf:=(now l s).f,be:=(now l s).e }:=by unfold a4w;rw[b9n h];rfl
theorem d3m {fr:Int} {n:N} {s s1:PS} {i:Int} (h:a2p l fr n s=some (i,s1)):b7b s s1:=by
 unfold a2p at h
 split at h
 ·cases h;exact b7b.rfl'
 ·cases h
theorem d4k {s s1:PS} {i:Int} (h:a6p l s=some (i,s1)):b7b s s1:=by
 unfold a6p at h
 split at h
 ·cases h;exact b7b.rfl'
 ·cases h
theorem g2d {s:PS} (h:s.bc≠0) (c:Int):c2w l c s=(false,a3h s):=by
 have e1:b0j l c s=s:=by unfold b0j;rw[b6f h];rfl
 have e2:b4d l s=s:=by unfold b4d;rw[b6f h];rfl
 have e3:okB (a3h s)=false:=b6f h
 unfold c2w;rw[e1,e2,e3]
theorem c6f {go:Q->PS->M} (hg:∀ q s r s',go q s=some (r,s')->s.bc≠0->b7b s s'):∀ (p:Pr) (s:PS) (r:R) (s':PS),a7q l go p s=some (r,s')->s.bc≠0->b7b s s':=by
 intro p
 induction p with
 |ret r=>intro s r s' h hn;cases h;exact b7b.rfl'
 |dead=>intro s r s' h;cases h
 |take x k ih=>
  intro s r s' h hn
  simp only[a7q,a1z,b6f hn,Bool.false_and]at h
  exact ih _ _ _ _ h hn
 |need x k ih=>
  intro s r s' h hn
  simp only[a7q,a3o,b6f hn,Bool.false_and,d6k hn]at h
  exact ih _ _ _ h hn
 |name k ih=>
  intro s r s' h hn
  simp only[a7q,a9v,b6f hn,Bool.false_and,d6k hn]at h
  exact ih _ _ _ _ h hn
 |is x k ih=>intro s r s' h hn;exact ih _ _ _ _ h hn
 |ok k ih=>intro s r s' h hn;exact ih _ _ _ _ h hn
 |kind c k ih=>intro s r s' h hn;exact ih _ _ _ _ h hn
 |text c k ih=>intro s r s' h hn;exact ih _ _ _ _ h hn
 |val k ih=>intro s r s' h hn;exact ih _ _ _ _ h hn
 |sign c k ih=>intro s r s' h hn;exact ih _ _ _ _ h hn
 |into c k ih=>
  intro s r s' h hn
  simp only[a7q,g2d hn]at h
  have:=ih _ (a3h s) _ _ h hn
  exact this
 |down k ih=>
  intro s r s' h hn
  have:=ih (down s) _ _ h hn
  exact this
 |adv k ih=>
  intro s r s' h hn
  simp only[a7q]at h
  split at h
  ·have:=ih (adv s) _ _ h hn
   exact this
  ·cases h
 |node fr n k ih=>
  intro s r s' h hn
  simp only[a7q]at h
  split at h
  ·rename_i i s1 h1
   have e:=d3m h1
   exact e.trans (ih _ _ _ _ h (by rw[e.1];exact hn))
  ·cases h
 |unit k ih=>
  intro s r s' h hn
  simp only[a7q]at h
  split at h
  ·rename_i i s1 h1
   have e:=d4k h1
   exact e.trans (ih _ _ _ _ h (by rw[e.1];exact hn))
  ·cases h
 |fail k ih=>intro s r s' h hn;simp only[a7q,d6k hn]at h;exact ih _ _ _ h hn
 |pos k ih=>intro s r s' h hn;exact ih _ _ _ _ h hn
 |call q k ih=>
  intro s r s' h hn
  simp only[a7q]at h
  split at h
  ·rename_i a s1 h1
   unfold cl at h1
   split at h1
   ·rename_i b s2 h2
    split at h1
    ·cases h1
     have e:=hg _ _ _ _ h2 hn
     exact e.trans (ih _ _ _ _ h (by rw[e.1];exact hn))
    ·cases h1
   ·cases h1
  ·cases h
 |tail q=>intro s r s' h hn;exact hg _ _ _ _ h hn
theorem e1k:∀ (n:Nat) (q:Q) (s:PS) (r:R) (s':PS),go l n q s=some (r,s')->s.bc≠0->b7b s s'
 |0,_,_,_,_,h,_=>by cases h
 |n+1,q,s,r,s',h,hn=>by
  rw[show go l (n+1) q s=step l (go l n) q s from rfl,d9r]at h
  exact c6f (fun q s r s'=>e1k n q s r s') _ _ _ _ h hn
def Alike (r:R) (s':PS) (x:Option EX):Prop:=(s'.bc=0->x=some (.ok r s'))/\(s'.bc≠0->x=some (.bad s'.bc s'.bf s'.be))
theorem e7r {go:Q->PS->M} {gE:Q->PS->Option EX} (hk:∀ q s r s',go q s=some (r,s')->s.bc≠0->b7b s s') (hg:∀ q s r s',go q s=some (r,s')->s.bc=0->Alike r s' (gE q s)):
 ∀ (p:Pr) (s:PS) (r:R) (s':PS),a7q l go p s=some (r,s')->s.bc=0->Alike r s' (a0a l gE p s):=by
 have dead:∀ {p:Pr} {s:PS} {c f e:Int} {r:R} {s':PS},c≠0->a7q l go p {s with bc:=c,bf:=f,be:=e }=some (r,s')->Alike r s' (some (.bad c f e)):=by
  intro p s c f e r s' hc h
  obtain⟨h1,h2,h3⟩:=c6f hk _ _ _ _ h hc
  simp only at h1 h2 h3
  exact⟨fun h0=>absurd (h1.symm.trans h0) hc,fun _=>by rw[h1,h2,h3]⟩
 intro p
 induction p with
 |ret r=>intro s r s' h hn;cases h;exact⟨fun _=>rfl,fun h=>absurd hn h⟩
 |dead=>intro s r s' h;cases h
 |take x k ih=>
  intro s r s' h hn
  simp only[a7q,a1z,b9n hn,Bool.true_and]at h
  simp only[a0a]
  cases hi:isS l s x with
  |true=>rw[hi]at h;exact ih _ _ _ _ h hn
  |false=>rw[hi]at h;exact ih _ _ _ _ h hn
 |need x k ih=>
  intro s r s' h hn
  simp only[a7q,a3o,b9n hn,Bool.true_and]at h
  simp only[a0a]
  cases hi:isS l s x with
  |true=>rw[hi]at h;exact ih _ _ _ h hn
  |false=>rw[hi]at h;simp only[c4n hn]at h;exact dead om h
 |name k ih=>
  intro s r s' h hn
  simp only[a7q,a9v,b9n hn,Bool.true_and]at h
  simp only[a0a]
  cases hi:decide ((now l s).k=1)with
  |true=>rw[hi]at h;exact ih _ _ _ _ h hn
  |false=>rw[hi]at h;simp only[c4n hn]at h;exact dead om h
 |is x k ih=>intro s r s' h hn;exact ih _ _ _ _ h hn
 |ok k ih=>intro s r s' h hn;simp only[a7q,b9n hn]at h;exact ih _ _ _ _ h hn
 |kind c k ih=>intro s r s' h hn;exact ih _ _ _ _ h hn
 |text c k ih=>intro s r s' h hn;exact ih _ _ _ _ h hn
 |val k ih=>intro s r s' h hn;exact ih _ _ _ _ h hn
 |sign c k ih=>intro s r s' h hn;exact ih _ _ _ _ h hn
 |into c k ih=>
  intro s r s' h hn
  simp only[a7q]at h
  simp only[a0a]
  cases hb:a1e l c s with
  |false=>
   have e1:b0j l c s=a4w l 120 s:=by unfold b0j;rw[b9n hn,hb];rfl
   rw[c4n hn]at e1
   have e2:b4d l (b0j l c s)=b0j l c s:=by unfold b4d;rw[b6f (by rw[e1];simp)];rfl
   have e3:okB (a3h (b0j l c s))=false:=b6f (by rw[e1];simp[a3h])
   simp only[c2w,e2,e3]at h
   rw[e1]at h
   exact dead (s:=a3h s) om h
  |true=>
   have e1:b0j l c s=s:=by unfold b0j;rw[hb];simp
   cases hd:decide (100<=s.deep)with
   |true=>
    have e2:b4d l s=a4w l 121 s:=by unfold b4d;rw[b9n hn,hd];rfl
    rw[c4n hn]at e2
    have e3:okB (a3h (b4d l s))=false:=b6f (by rw[e2];simp[a3h])
    simp only[c2w,e1,e3]at h
    rw[e2]at h
    exact dead (s:=a3h s) om h
   |false=>
    have e2:b4d l s=s:=by unfold b4d;rw[hd];simp
    have e3:okB (a3h s)=true:=b9n hn
    simp only[c2w,e1,e2,e3]at h
    exact ih _ _ _ _ h hn
 |down k ih=>intro s r s' h hn;exact ih _ _ _ h hn
 |adv k ih=>
  intro s r s' h hn
  simp only[a7q]at h
  simp only[a0a]
  cases ho:okS l (adv s)with
  |true=>rw[ho]at h;exact ih _ _ _ h hn
  |false=>rw[ho]at h;cases h
 |node fr n k ih=>
  intro s r s' h hn
  simp only[a7q]at h
  simp only[a0a]
  cases h1:a2p l fr n s with
  |none=>rw[h1]at h;cases h
  |some p=>obtain⟨i,s1⟩:=p;rw[h1]at h;exact ih _ _ _ _ h (by rw[(d3m h1).1];exact hn)
 |unit k ih=>
  intro s r s' h hn
  simp only[a7q]at h
  simp only[a0a]
  cases h1:a6p l s with
  |none=>rw[h1]at h;cases h
  |some p=>obtain⟨i,s1⟩:=p;rw[h1]at h;exact ih _ _ _ _ h (by rw[(d4k h1).1];exact hn)
 |fail k ih=>intro s r s' h hn;simp only[a7q,c4n hn]at h;exact dead om h
 |pos k ih=>intro s r s' h hn;exact ih _ _ _ _ h hn
 |call q k ih=>
  intro s r s' h hn
  simp only[a7q]at h
  simp only[a0a]
  unfold cl at h
  cases h2:go q s with
  |none=>rw[h2]at h;cases h
  |some p=>
   obtain⟨a,s1⟩:=p
   have hh:=hg _ _ _ _ h2 hn
   rw[h2]at h
   simp only at h
   cases ho:okS l s1 with
   |false=>rw[ho]at h;cases h
   |true=>
    rw[ho]at h
    simp only[if_true]at h
    by_cases hb:s1.bc=0
    ·rw[hh.1 hb]
     simp only[ho]
     exact ih _ _ _ _ h hb
    ·rw[hh.2 hb]
     obtain⟨h3,h4,h5⟩:=c6f hk _ _ _ _ h hb
     exact⟨fun h0=>absurd (h3.symm.trans h0) hb,fun _=>by rw[h3,h4,h5]⟩
 |tail q=>intro s r s' h hn;exact hg _ _ _ _ h hn
theorem e1o:∀ (n:Nat) (q:Q) (s:PS) (r:R) (s':PS),go l n q s=some (r,s')->s.bc=0->Alike r s' (goE l n q s)
 |0,_,_,_,_,h,_=>by cases h
 |n+1,q,s,r,s',h,hn=>by
  rw[show go l (n+1) q s=step l (go l n) q s from rfl,d9r]at h
  exact e7r (fun q s r s'=>e1k n q s r s') (fun q s r s'=>e1o n q s r s') _ _ _ _ h hn
end
end Go.Vm.Pa
namespace Go.Vm
set_option maxHeartbeats 1000000
abbrev a2u:=Nat->List V->Hp->D->Prop
def b1l (P:Program) (cx:Cx) (K:Hp->Prop) (pay:D->Value) (f:Nat) (args:List V) (H:Hp) (x:D):Prop:=
 (∃ fn,P.funcs[f]? =some fn/\fn.body.isNone=false/\(fn.name== "runtime.NumGoroutine")=false)/\
 ∀ g w (cargs:Array Value),Inv cx g H w->a0t g H args cargs.toList->a0w H.length args=true->
  Calls P f cargs w (fun e w'=> ∃ g' H',e= .panicked [{v:=pay x,recovered:=false }]/\Inv cx g' H' w'/\K H'/\Ext H.length g H w g' H' w')
def b1a (P:Program) (cx:Cx) (K:Hp->Prop) (pay:D->Value) (dd:a2u):Prop:=∀ f args H x,dd f args H x->b1l P cx K pay f args H x
def e4w (cx:Cx) (K:Hp->Prop) (pay:D->Value) (dl:List Deferred) (nb:Nat) (g:Gh) (H:Hp) (w:World) (x:D) (Q:Exit->Act->World->Prop):Prop:=
 ∀ g' H' (a':Act) w',a'.defers=dl->Inv cx g' H' w'->K H'->Ext nb g H w g' H' w'->Q (.panic [{v:=pay x,recovered:=false }]) a' w'
def a5b (cx:Cx) (dd:a2u) (e:Env) (H:Hp) (o:a0b) (x:D):Prop:=match o.guard with
 |some _=>False
 |none=>match o.op with
  | .call f args=>dd f (args.map fun x=>toArg H (evO cx e x)) H x
  | .callv f args=>match evO cx e f with
    | .fn f c=>dd f (args.map (fun x=>toArg H (evO cx e x))++c) H x
    | .fm f a=>dd f (a++args.map (fun x=>toArg H (evO cx e x))) H x
    |_=>False
  |_=>False
def c5k (ts:List Nat):List a0b->Bool
 |[]=>true
 |o::r=>(o.names.any ts.contains) && c5k (o.dst.toList++ts) r
structure DieZ (cx:Cx) (orc:Orc) (m:Nat) (ops:List a0b) (s:St) (d a ta:Nat) (z:List V) (od:a0b) (cl:Nat->Bool) (ε:Nat->Env) (val:Nat->V) (Hz:Bool->Hp):Prop where
 ld:d < m
 la:a < m
 le:m<=ops.length
 odx:ops[d]? =some od
 oax:ops[a]? =some ⟨some ta,.zbox z,none⟩
 cld:cl d=false
 cla:cl a=true
 zero:ε 0=s.e
 hz:∀ y,Hz y=if y then s.h++[.box z] else s.h
 taint:∀ i o,i < m->ops[i]? =some o->cl i=false->i≠d->∃ t,t∈o.names/\∃ n q,n < i/\ops[n]? =some q/\q.dst=some t/\cl n=false
 env:∀ i o,i < m->ops[i]? =some o->ε (i+1)=if cl i then a7y o.dst (val i) (ε i) else ε i
 pur:∀ i o,i < m->ops[i]? =some o->cl i=true->i≠a->b7j o.op=true
 run:∀ i o y,i < m->ops[i]? =some o->cl i=true->i≠a->a0f cx orc o ⟨ε i,Hz y,s.b⟩=some ⟨ε (i+1),Hz y,s.b⟩
 va:val a= .ptr s.h.length 0
inductive a2b (pg:Pg) (dd:a2u):a0e->St->D->Prop
 |reg {i:Nat} {ops:List a0b} {o:a0b} {s s1:St} {x:D}:ops[i]? =some o->a0s pg.toCx (evF pg) (ops.take i) s=some s1->a5b pg.toCx dd s1.e s1.h o x->a2b pg dd (.reg ops) s x
 |draw {m i:Nat} {ops:List a0b} {o:a0b} {s s1:St} {x:D}:i < m->ops[i]? =some o->((ops.take i).all fun o=>b7j o.op)=true->a2c pg.toCx (evF pg) i (ops.take i) s=some s1->
     c5k o.dst.toList ((ops.take m).drop (i+1))=true->a5b pg.toCx dd s1.e s1.h o x->a2b pg dd (.draw m ops) s x
 |drawT {m i:Nat} {ops:List a0b} {o:a0b} {s s1:St} {x:D}:m<=i->ops[i]? =some o->a2c pg.toCx (evF pg) m (ops.take i) s=some s1->a5b pg.toCx dd s1.e s1.h o x->a2b pg dd (.draw m ops) s x
 |drawZ {m:Nat} {ops:List a0b} {s:St} {d a ta:Nat} {z:List V} {od:a0b} {cl:Nat->Bool} {ε:Nat->Env} {val:Nat->V} {Hz:Bool->Hp} {x:D}:DieZ pg.toCx (evF pg) m ops s d a ta z od cl ε val Hz->(∀ y,a5b pg.toCx dd (ε d) (Hz y) od x)->a2b pg dd (.draw m ops) s x
 |seq1 {a b:a0e} {s:St} {x:D}:a2b pg dd a s x->a2b pg dd (.seq a b) s x
 |seq2 {a b:a0e} {s s1:St} {x:D}:ev pg a s=some (.nrm,s1)->a2b pg dd b s1 x->a2b pg dd (.seq a b) s x
 |cond {c:Opd} {t:Bool} {a b:a0e} {s:St} {x:D}:evO pg.toCx s.e c= .d (.bool t)->a2b pg dd (if t then a else b) s x->a2b pg dd (.cond c a b) s x
 |block {i:Nat} {b:a0e} {s:St} {x:D}:a2b pg dd b s x->a2b pg dd (.block i b) s x
 |scope {b:a0e} {s:St} {x:D}:a2b pg dd b s x->a2b pg dd (.scope b) s x
 |loop1 {ks:List Nat} {b:a0e} {s:St} {x:D}:a2b pg dd b ⟨a2d ks s.e,s.h,s.h.length⟩ x->a2b pg dd (.loop ks b) s x
 |loop2 {ks:List Nat} {b:a0e} {s s':St} {x:D}:ev pg b ⟨a2d ks s.e,s.h,s.h.length⟩=some (.nrm,s')->a2b pg dd (.loop ks b) ⟨cut s.h.length (a2d ks s'.e),s'.h.take s.h.length,s.b⟩ x->a2b pg dd (.loop ks b) s x
section
variable {dl:List Deferred} {P:Program} {cx:Cx} {g:Gh} {w:World} {K:Hp->Prop} {pay:D->Value}
theorem c5p {o:Op} {f:Nat} {args:List Opd} {q:Opd} (h:b2i P o=some (.call f args)\/b2i P o=some (.callv q args)):
 ∃ c,o= .call c/\b1q c.args.toList=some args/\((c.callee= .value (.func f)/\b2i P o=some (.call f args))\/∃ t,c.callee= .value (.tmp t)/\q= .t t/\b2i P o=some (.callv q args)):=by
 have h0:=h
 unfold b2i at h
 split at h
 case h_28 c=>
  split at h
  ·rename_i f' hc
   rcases h with h|h
   ·obtain⟨l,hl,he⟩:=Option.map_eq_some_iff.1 h
    cases he
    refine⟨_,rfl,hl,.inl ⟨hc,?_⟩⟩
    unfold b2i;simp only[hc,hl,Option.map_some]
   ·obtain⟨l,hl,he⟩:=Option.map_eq_some_iff.1 h
    cases he
  ·rename_i t hc
   rcases h with h|h
   ·obtain⟨l,hl,he⟩:=Option.map_eq_some_iff.1 h
    cases he
   ·obtain⟨l,hl,he⟩:=Option.map_eq_some_iff.1 h
    cases he
    refine⟨_,rfl,hl,.inr ⟨t,hc,rfl,?_⟩⟩
    unfold b2i;simp only[hc,hl,Option.map_some]
  all_goals(exfalso;repeat' split at h)
  all_goals simp_all
 all_goals(exfalso;repeat' split at h)
 all_goals simp_all
theorem e6d {dd:a2u} (hD:b1a P cx K pay dd) {nb:Nat} {H:Hp} (hI:Inv cx g H w) (hnb:nb<=H.length) {f:Nat} {args:List V} {cargs:Array Value} {x:D} (h:dd f args H x) (ra:a0t g H args cargs.toList) (ua:a0w H.length args=true)
 {o:Oper} {a:Act} (hrun:(execOp a.eval o).run P w=(callFunc f cargs).run P w) (hdl:a.defers=dl) {Kk:Act->World->Prop} {Q:Exit->Act->World->Prop} (hq:e4w cx K pay dl nb g H w x Q):o.wp P a w Kk Q:=by
 obtain⟨⟨fn,h1,h2,h3⟩,h4⟩:=hD f args H x h
 unfold Oper.wp
 rw[hrun,a7e h1 h2 h3,Oper.upon_enter]
 refine(h4 g w cargs hI ra ua).mono fun e w' he=>?_
 obtain⟨g',H',rfl,i1,i2,i3⟩:=he
 exact hq g' H' a w' hdl i1 i2 (i3.le hnb)
theorem b9f {dd:a2u} (hD:b1a P cx K pay dd) {N:Nat} {ops:Array Oper} {i:Nat} {co:Oper} (hi:ops[i]? =some co) {o:a0b} (ht:b8v P ops co=some o) (hok:o.okN N=true) {s:St} {x:D} (h:a5b cx dd s.e s.h o x) {a:Act} (ok:a0x dl cx N g s a w)
 {Q:Exit->Act->World->Prop} {Kk:Act->World->Prop} (hq:e4w cx K pay dl s.b g s.h w x Q):wpOp P ops Q i Kk a w:=by
 obtain⟨h1,h2,h3⟩:=b4r ht
 obtain⟨k1,k2,k3⟩:=b8m hok
 unfold a5b at h
 have hg:co.guard=none:=by
  rcases h3 with⟨g1,_⟩|⟨j,b,sl,_,_,g3⟩
  ·exact g1
  ·rw[g3]at h;exact h.elim
 have hg':o.guard=none:=by
  rcases h3 with⟨_,g2⟩|⟨j,b,sl,_,_,g3⟩
  ·exact g2
  ·rw[g3]at h;exact h.elim
 rw[hg']at h
 simp only at h
 unfold wpOp
 simp only[hi]
 rw[if_pos (by simp[Region.wanted,hg])]
 left
 have ht0:∀ v,o.op=v->v≠ .no->(∀ a b c,v≠ .blit a b c)->b2i P co.op=some v:=by
  intro v hv hn hnl
  obtain⟨v0,h1,h2|⟨_,_,_,_,h2⟩⟩:=h1
  rotate_left
  ·exact absurd (hv.symm.trans h2) (hnl _ _ _)
  subst h2
  unfold g4a at h1
  cases hh:b2i P co.op with
  |none=>rw[hh]at h1;simp only[Option.getD_none,Option.some.injEq]at h1;exact absurd (h1.trans hv).symm hn
  |some q=>rw[hh]at h1;simp only[Option.getD_some,Option.some.injEq]at h1;rw[h1,hv]
 cases hop:o.op with
 |call f args=>
  rw[hop]at h k2
  simp only at h
  obtain⟨c,hc,hvs,hcc⟩:=c5p (q:= .t 0) (.inl (ht0 _ hop (by simp) (by simp)))
  rcases hcc with⟨hcal,_⟩|⟨t,hcal,_,hbad⟩
  ·obtain⟨callee,ar,at'⟩:=c
   simp only at hvs hcal
   subst hcal
   simp only[VOp.a5g]at k2
   obtain⟨r1,r2⟩:=b7v (a:=a) ok.inv ok.env hvs k2
   have r1':=a5c ok.inv r1
   have r2':=b3n (H:=s.h) r2
   simp only[List.map_map,Function.comp_def]at r1' r2'
   have hrun:(execOp a.eval co).run P w=(callFunc f (ar.map a.eval)).run P w:=by
    simp[execOp,hc,resolve,Act.eval,Deferred.ofValue,invoke]
   exact e6d hD ok.inv ok.base h (by simpa using r1') r2' hrun ok.defers hq
  ·rw[ht0 _ hop (by simp) (by simp)]at hbad;cases hbad
 |callv q args=>
  rw[hop]at h k2
  simp only at h
  obtain⟨c,hc,hvs,hcc⟩:=c5p (f:=0) (.inr (ht0 _ hop (by simp) (by simp)))
  rcases hcc with⟨hcal,hbad⟩|⟨t,hcal,rfl,_⟩
  ·rw[ht0 _ hop (by simp) (by simp)]at hbad;cases hbad
  ·obtain⟨callee,ar,at'⟩:=c
   simp only at hvs hcal
   subst hcal
   simp only[VOp.a5g,List.all_cons,Bool.and_eq_true]at k2
   obtain⟨f1,f2⟩:=a0u (a:=a) (x:= .tmp t) ok.inv ok.env rfl k2.1
   obtain⟨r1,r2⟩:=b7v (a:=a) ok.inv ok.env hvs k2.2
   have r1':=a5c ok.inv r1
   have r2':=b3n (H:=s.h) r2
   simp only[List.map_map,Function.comp_def]at r1' r2'
   split at h
   ·rename_i f c hv
    rw[hv]at f1 f2
    simp only[Rep]at f1
    obtain⟨cs,hx,hcs⟩:=f1
    have hrun:(execOp a.eval co).run P w=(callFunc f (ar.map a.eval++cs)).run P w:=by
     simp[execOp,hc,resolve,hx,Deferred.ofValue,invoke]
    refine e6d hD ok.inv ok.base h ?_ (a4v r2' (by simpa only[V.und] using f2)) hrun ok.defers hq
    have:=a7j r1' hcs
    simpa using this
   ·rename_i f c hv
    rw[hv]at f1 f2
    simp only[Rep]at f1
    obtain⟨cs,hx,hcs⟩:=f1
    have hrun:(execOp a.eval co).run P w=(callFunc f (cs++ar.map a.eval)).run P w:=by
     simp[execOp,hc,resolve,hx,Deferred.ofValue,invoke]
    refine e6d hD ok.inv ok.base h ?_ (a4v (by simpa only[V.und] using f2) r2') hrun ok.defers hq
    have:=a7j hcs r1'
    simpa using this
   ·exact h.elim
 |_=>rw[hop]at h;exact h.elim
theorem e0u {dd:a2u} (hD:b1a P cx K pay dd) {orc:Orc} (hS:b5s P cx orc) {N:Nat} {ops:Array Oper}:∀ (l:List Oper) (i:Nat) (vs:List a0b),ops.toList.drop i=l->a1l P ops l=some vs->vs.all (a0b.okN N)=true->∀ {k:Nat} {o:a0b},vs[k]? =some o->∀ {g:Gh} {w:World} {s s':St} {x:D},a0s cx orc (vs.take k) s=some s'->a5b cx dd s'.e s'.h o x->∀ {a:Act},a0x dl cx N g s a w->
 ∀ {Q:Exit->Act->World->Prop},e4w cx K pay dl s.b g s.h w x Q->Go.wpOps P ops Q (List.range' i l.length) a w
 |[],i,vs,_,ht,_,k,o,ho,g,w,s,s',x,h,hd,a,ok,Q,hq=>by
  simp only[a1l,Option.some.injEq]at ht
  subst ht
  simp at ho
 |co::l,i,vs,hl,ht,hok,k,o,ho,g,w,s,s',x,h,hd,a,ok,Q,hq=>by
  simp only[a1l]at ht
  split at ht
  ·rename_i v vs' hv hvs
   simp only[Option.some.injEq]at ht
   subst ht
   simp only[List.all_cons,Bool.and_eq_true]at hok
   have hi:ops[i]? =some co:=by
    have:=congrArg (·[0]?) hl
    simpa using this
   have hl':ops.toList.drop (i+1)=l:=by rw[<-List.drop_drop,hl];rfl
   simp only[List.length_cons,List.range'_succ]
   rw[Go.wpOps_cons]
   cases k with
   |zero=>
    simp only[List.getElem?_cons_zero,Option.some.injEq]at ho
    subst ho
    simp only[List.take_zero,a0s,Option.some.injEq]at h
    subst h
    exact b9f hD hi hv hok.1 hd ok hq
   |succ k=>
    simp only[List.getElem?_cons_succ]at ho
    simp only[List.take_succ_cons,a0s]at h
    cases h1:a0f cx orc v s with
    |none=>rw[h1]at h;cases h
    |some s1=>
     rw[h1]at h
     simp only[Option.bind_some]at h
     refine a3d hS hi hv hok.1 h1 ok fun g' y w' ok' ext'=>?_
     have hb:=a8a h1
     refine e0u hD hS l (i+1) vs' hl' hvs hok.2 ho h hd ok' fun g2 H2 a2 w2 hdl hI2 hK2 ext2=>?_
     exact hq g2 H2 a2 w2 hdl hI2 hK2 (ext'.trans ext2 om)
  ·cases ht
theorem f3b {dd:a2u} (hD:b1a P cx K pay dd) {orc:Orc} (hS:b5s P cx orc) {N:Nat} {ops:Array Oper} {id:Nat} {vs:List a0b} (ht:a1l P ops ops.toList=some vs) (hok:vs.all (a0b.okN N)=true) {k:Nat} {o:a0b} (ho:vs[k]? =some o) {s s':St} {x:D}
 (h:a0s cx orc (vs.take k) s=some s') (hd:a5b cx dd s'.e s'.h o x) {a:Act} (ok:a0x dl cx N g s a w)
 {Q:Exit->Act->World->Prop} (hq:e4w cx K pay dl s.b g s.h w x Q):(Code.region id ops false).wp P Q a w:=by
 apply wp_region
 have:=e0u hD hS ops.toList 0 vs (by simp) ht hok ho h hd ok hq
 simpa [List.range_eq_range'] using this
theorem c7m:∀ {l:List a0b} {ts:List Nat},c5k ts l=true->∀ (k:Nat) (o:a0b),l[k]? =some o->∃ t,t∈o.names/\(t∈ts\/∃ n p,n < k/\l[n]? =some p/\p.dst=some t)
 |[],ts,_,k,o,h=>by simp at h
 |q::l,ts,ht,0,o,h=>by
  simp only[List.getElem?_cons_zero,Option.some.injEq]at h
  subst h
  simp only[c5k,Bool.and_eq_true,List.any_eq_true]at ht
  obtain⟨t,h1,h2⟩:=ht.1
  exact⟨t,h1,.inl (by simpa using h2)⟩
 |q::l,ts,ht,k+1,o,h=>by
  simp only[c5k,Bool.and_eq_true]at ht
  obtain⟨t,h1,h2⟩:=c7m ht.2 k o (by simpa using h)
  refine⟨t,h1,?_⟩
  rcases h2 with h2|⟨n,p,h3,h4,h5⟩
  ·rcases List.mem_append.1 h2 with h2|h2
   ·exact .inr ⟨0,q,om,rfl,by simpa using h2⟩
   ·exact .inl h2
  ·exact .inr ⟨n+1,p,om,by simpa using h4,h5⟩
theorem c6e {dd:a2u} {e e':Env} {H:Hp} {o:a0b} {x:D} (h:∀ t∈o.names,a1k e t=a1k e' t) (hd:a5b cx dd e H o x):a5b cx dd e' H o x:=by
 unfold a5b at hd⊢
 split at hd
 ·exact hd.elim
 ·have ho:∀ y∈o.op.a5g,evO cx e y=evO cx e' y:=fun y hy=>d1e fun t ht=>h t (by
    simp only[a0b.names,List.mem_append,List.mem_flatMap]
    exact .inl (.inr ⟨y,hy,ht⟩))
  cases hop:o.op with
  |call f args=>
   rw[hop]at hd ho
   simp only at hd⊢
   have e2:(args.map fun y=>toArg H (evO cx e y))=args.map fun y=>toArg H (evO cx e' y):=List.map_congr_left fun y hy=>by rw[ho y (by simpa [VOp.a5g] using hy)]
   rw[<-e2]
   exact hd
  |callv f args=>
   rw[hop]at hd ho
   simp only at hd⊢
   have e1:=ho f (by simp[VOp.a5g])
   have e2:(args.map fun y=>toArg H (evO cx e y))=args.map fun y=>toArg H (evO cx e' y):=List.map_congr_left fun y hy=>by rw[ho y (by simp[VOp.a5g,hy])]
   rw[<-e1,<-e2]
   exact hd
  |_=>rw[hop]at hd;exact hd.elim
theorem f1o {dd:a2u} (hD:b1a P cx K pay dd) {orc:Orc} (hS:b5s P cx orc) (hmx:P.follows .mixedOrders=true) {N:Nat} {ops:Array Oper} {id m:Nat} {vs:List a0b} (ht:a1l P ops ops.toList=some vs) (hok:vs.all (a0b.okN N)=true) (hord:b1p ops vs m=true)
 {d:Nat} {o:a0b} (hdm:d < m) (ho:vs[d]? =some o) (hp:((vs.take d).all fun o=>b7j o.op)=true) {s s':St} {x:D} (h:a2c cx orc d (vs.take d) s=some s') (hta:c5k o.dst.toList ((vs.take m).drop (d+1))=true) (hd:a5b cx dd s'.e s'.h o x) {a:Act} (ok:a0x dl cx N g s a w)
 {Q:Exit->Act->World->Prop} (hq:e4w cx K pay dl s.b g s.h w x Q):(Code.region id ops true).wp P Q a w:=by
 have hO:=a4x hord
 have hml:=hO.le
 obtain⟨hlen,hget⟩:=a2t ht
 have hlen':vs.length=ops.size:=by simpa using hlen
 have hdl:d<=(vs.take d).length:=by rw[List.length_take];omega
 obtain⟨τ,val,T,he⟩:=b1n d (vs.take d) s s' hdl h
 have hs':s'=τ d:=by
  rw[List.drop_eq_nil_of_le (by rw[List.length_take];omega)]at he
  simp only[a0s,Option.some.injEq]at he
  exact he.symm
 subst hs'
 have T':Trace cx orc d vs s τ val:=⟨T.zero,fun i p hi hp'=>T.step i p hi (by rw[List.getElem?_take,if_pos hi];exact hp')⟩
 have G:=b5h (N:=N) T' om ok.inv.und fun k hk=>(ok.env.2 k hk).2
 have hh:∀ j,j<=d->(τ j).h=s.h:=by
  intro j
  induction j with
  |zero=>intro _;rw[T'.zero]
  |succ j ih=>
   intro hj
   have hv:vs[j]? =some vs[j]:=List.getElem?_eq_getElem om
   have hpj:=(List.all_eq_true.1 hp) vs[j] (by rw[List.mem_iff_getElem?];exact⟨j,by rw[List.getElem?_take,if_pos om];exact hv⟩)
   rw[c1l hpj (T'.step j vs[j] om hv).1,ih om]
 have hdmm:∀ n o',vs[n]? =some o'->(vs.getD n default).dst=o'.dst:=fun n o' h=>by rw[List.getD_eq_getElem?_getD,h];rfl
 refine wp_region_any hmx ?_
 have hl0:∀ i,lst (Array.replicate ops.size false) i=false:=fun i=>by simp[lst,Array.getD]
 refine b1t ht hO (R:=fun L a' w'=>(∀ k,d<=k->k < m->L k=false)/\∃ g',Dst dl cx N d τ (fun n=>(vs.getD n default).dst) val g s w L g' a' w') (fun listed hs hall hlt a w D=>?_) (fun i co p him i3 hp' hto L L' i2 hL' hLo hA a1 w1 K1 D hk=>?_) ops.size _ (by simp) (b0b ops.size fun i _=>hl0 i).symm (fun i _ h=>by rw[hl0]at h;cases h) (fun i o _ h=>by rw[hl0]at h;cases h) ⟨fun k _ _=>hl0 k,g,?_⟩
 ·have:=D.1 d (Nat.le_refl _) hdm
  rw[hall d hdm]at this;cases this
 ·obtain⟨hL0,g1,D⟩:=D
  have hokp:=(List.all_eq_true.1 hok) p (List.mem_of_getElem? hp')
  rcases Nat.lt_trichotomy i d with hid|hid|hid
  ·refine c5w hS T'.zero (fun n o hn h=>(T'.step n o hn h).2.1) G ok.base hid i3 hp' (T'.step i p hid hp').1 hto hokp (hdmm i p hp') hdmm om i2 hL' hLo (fun t htn=>⟨(hA t htn).1,fun n h1 h2=>(hA t htn).2 n h1 om⟩) D fun g' a' w' D'=>hk a' w' ⟨fun k h1 h2=>by rw[hLo k om];exact hL0 k h1 h2,g',D'⟩
  ·subst hid
   rw[ho]at hp'
   cases hp'
   have hE:∀ n,n<=i->a1r (fun _=>true) (fun n=>(vs.getD n default).dst) val s.e n=(τ n).e:=a5u (by rw[T'.zero]) (fun n hn=>by
     obtain⟨_,q,_⟩:=T'.step n vs[n] hn (List.getElem?_eq_getElem om)
     rw[q,hdmm n _ (List.getElem?_eq_getElem om)]) (fun _ _=>rfl)
   have hname:∀ t∈o.names,a1k (a1r L (fun n=>(vs.getD n default).dst) val s.e i) t=a1k (τ i).e t:=by
     intro t htn
     rw[<-hE i (Nat.le_refl _)]
     exact a2q i fun k h1 h2=>by rw[(hA t htn).1 k h1 h2]
   have hok0:a0x dl cx N g1 ⟨a2d o.names (τ i).e,s.h,s.b⟩ a1 w1:=by
    have hI:=D.inv
    rw[hh i (Nat.le_refl _)]at hI
    refine⟨hI,⟨D.size,fun k hk=>?_⟩,D.defers,ok.base⟩
    rw[a5f]
    by_cases hkn:k∈o.names
    ·rw[if_pos hkn]
     have h1:=D.env k hk
     have h2:=G.und i (Nat.le_refl _) k hk
     rw[hh i (Nat.le_refl _)]at h1 h2
     rw[hname k hkn]at h1
     exact⟨h1,h2⟩
    ·rw[if_neg hkn]
     exact⟨by simp[Rep],rfl⟩
   have hd':a5b cx dd (a2d o.names (τ i).e) s.h o x:=by
    rw[hh i (Nat.le_refl _)]at hd
    exact c6e (fun t htn=>by rw[a5f,if_pos htn]) hd
   refine b9f hD i3 hto hokp hd' hok0 fun g' H' a' w' h1 h2 h3 h4=>?_
   have E:=D.ext
   rw[hh i (Nat.le_refl _)]at E
   exact hq g' H' a' w' h1 h2 h3 (E.trans h4 (Nat.le_refl _))
  ·exfalso
   have hk':((vs.take m).drop (d+1))[i - (d+1)]? =some p:=by
    rw[List.getElem?_drop,show d+1+(i - (d+1))=i by omega,List.getElem?_take,if_pos him];exact hp'
   obtain⟨t,t1,t2⟩:=c7m hta _ _ hk'
   have hbad:∀ n q,d<=n->n < i->vs[n]? =some q->q.dst=some t->False:=by
    intro n q h1 h2 h3 h4
    have:=(hA t t1).1 n h2 (by rw[hdmm n q h3];exact h4)
    rw[hL0 n h1 om]at this;cases this
   rcases t2 with t2|⟨n,q,t3,t4,t5⟩
   ·exact hbad d o (Nat.le_refl _) hid ho (by simpa using t2)
   ·rw[List.getElem?_drop,List.getElem?_take,if_pos om]at t4
    exact hbad (d+1+n) q om om t4 t5
 ·have hI:=ok.inv
  refine⟨by rw[hh d (Nat.le_refl _)];exact hI.drawn _,ok.env.1,fun k hkN=>?_,ok.defers,?_,fun i hi _ id h1 h2=>?_⟩
  ·rw[a5d d fun k _=>hl0 k,hh d (Nat.le_refl _)]
   exact(ok.env.2 k hkN).1
  ·rw[hh d (Nat.le_refl _)]
   exact⟨rfl,rfl,rfl,Nat.le_refl _,fun _ _ _=>⟨rfl,rfl⟩,⟨fun _=>List.prefix_refl _,fun i o _ ho hr=>⟨rfl,o,ho,hr⟩,fun i sz l _ ho=>⟨l,ho,List.prefix_refl _,fun _=>rfl⟩⟩,fun i _ c h _=>⟨i,c,h⟩,fun _ _ h=>h,Nat.le_refl _⟩
  ·rw[hh i om]at h1
   rw[hh (i+1) om]at h2
   omega
theorem e2m {dd:a2u} (hD:b1a P cx K pay dd) {orc:Orc} (hS:b5s P cx orc) (hmx:P.follows .mixedOrders=true) {N:Nat} {ops:Array Oper} {id m:Nat} {vs:List a0b} (ht:a1l P ops ops.toList=some vs) (hok:vs.all (a0b.okN N)=true) (hord:b1p ops vs m=true)
 {s:St} {d z ta:Nat} {zz:List V} {od:a0b} {cl:Nat->Bool} {ε:Nat->Env} {val:Nat->V} {Hz:Bool->Hp} (Z:DieZ cx orc m vs s d z ta zz od cl ε val Hz) {x:D} (hd:∀ y,a5b cx dd (ε d) (Hz y) od x) {a:Act} (ok:a0x dl cx N g s a w)
 {Q:Exit->Act->World->Prop} (hq:e4w cx K pay dl s.b g s.h w x Q):(Code.region id ops true).wp P Q a w:=by
 have hO:=a4x hord
 obtain⟨hlen,hget⟩:=a2t ht
 have hlen':vs.length=ops.size:=by simpa using hlen
 have hml:=hO.le
 have hdm:∀ n o',vs[n]? =some o'->(vs.getD n default).dst=o'.dst:=fun n o' h=>by rw[List.getD_eq_getElem?_getD,h];rfl
 have hE:∀ n,n<=m->a1r cl (fun n=>(vs.getD n default).dst) val s.e n=ε n:=by
   intro n
   induction n with
   |zero=>intro _;exact Z.zero.symm
   |succ n ih=>
    intro hn
    have q:=Z.env n vs[n] om (List.getElem?_eq_getElem om)
    simp only[a1r]
    rw[ih om,q,hdm n _ (List.getElem?_eq_getElem om)]
 have hz0:Hz false=s.h:=by rw[Z.hz];rfl
 have hz1:Hz true=s.h++[.box zz]:=by rw[Z.hz];rfl
 refine wp_region_any hmx ?_
 have hl0:∀ i,lst (Array.replicate ops.size false) i=false:=fun i=>by simp[lst,Array.getD]
 refine b1t ht hO (R:=fun L a w'=>(∀ k,k < m->cl k=false->L k=false)/\∃ g',a0x dl cx N g' ⟨a1r L (fun n=>(vs.getD n default).dst) val s.e m,Hz (L z),s.b⟩ a w'/\Ext s.b g s.h w g' (Hz (L z)) w') ?_ ?_ ops.size _ (by simp) (b0b ops.size fun i _=>hl0 i).symm (fun i _ h=>by rw[hl0]at h;cases h) (fun i o _ h=>by rw[hl0]at h;cases h) ⟨fun k _ _=>hl0 k,?_⟩
 ·rintro listed hs hall hlt a w' ⟨hc,_⟩
  have:=hc d Z.ld Z.cld
  rw[hall d Z.ld]at this;cases this
 ·rintro i co o him i3 ho hto L L' hL hL' hLo hA a w' K' ⟨hc,g',ok',ext'⟩ hk
  have hoki:o.okN N=true:=(List.all_eq_true.1 hok) _ (List.mem_of_getElem? ho)
  have hdo:(vs.getD i default).dst=o.dst:=hdm i o ho
  have hname:∀ t∈o.names,a1k (ε i) t=a1k (a1r L (fun n=>(vs.getD n default).dst) val s.e m) t:=by
    intro t htn
    obtain⟨q1,q2⟩:=hA t htn
    have e1:a1k (a1r L (fun n=>(vs.getD n default).dst) val s.e m) t=a1k (a1r L (fun n=>(vs.getD n default).dst) val s.e i) t:=by
      have:=a4b (L:=L) (dst:=fun n=>(vs.getD n default).dst) (val:=val) (e0:=s.e) (t:=t) (i:=i) (m - i) fun k h1 h2 h3=>by
        by_cases hki:k=i
        ·subst hki;exact hL
        ·exact q2 k om om h3
      rwa [show i+(m - i)=m by omega]at this
    rw[e1,<-hE i om]
    refine a2q i fun k h1 h2=>?_
    rw[q1 k h1 h2]
    cases hcl:cl k with
    |true=>rfl
    |false=>have:=hc k om hcl;rw[q1 k h1 h2]at this;cases this
  by_cases hid:i=d
  ·subst hid
   rw[Z.odx]at ho
   cases ho
   refine b9f hD i3 hto hoki (c6e hname (hd (L z))) ok' fun g2 H2 a2 w2 h1 h2 h3 h4=>?_
   exact hq g2 H2 a2 w2 h1 h2 h3 (ext'.trans h4 (Nat.le_refl _))
  ·cases hcl:cl i with
   |false=>
    exfalso
    obtain⟨t,t1,n,q,t2,t3,t4,t5⟩:=Z.taint i o him ho hcl hid
    have:=(hA t t1).1 n t2 (by rw[hdm n q t3];exact t4)
    rw[hc n om t5]at this
    cases this
   |true=>
    have hval0:=Z.env i o him ho
    rw[hcl,if_pos rfl]at hval0
    have hrun:a0f cx orc o ⟨ε i,Hz (L z),s.b⟩=some ⟨ε (i+1),Hz (L' z),s.b⟩:=by
     by_cases hiz:i=z
     ·subst hiz
      rw[Z.oax]at ho
      cases ho
      rw[hL,hL',hz0,hz1,hval0,Z.va]
      rfl
     ·rw[hLo z (fun e=>hiz e.symm)]
      exact Z.run i o (L z) him ho hcl hiz
    obtain⟨y,hx1,hx2⟩:=a7c (e':=a1r L (fun n=>(vs.getD n default).dst) val s.e m) (s:=⟨ε i,Hz (L z),s.b⟩) hname hrun
    have hval:∀ k,o.dst=some k->val i=y:=by
     intro k hk'
     have e1:=congrArg (a1k · k) (hval0.symm.trans hx1)
     simpa [a2j,hk'] using e1
    refine a3d hS i3 hto hoki hx2 ok' fun g2 yv w2 ok2 ext2=>hk _ _ ⟨fun k hk1 hk2=>?_,g2,?_,ext'.trans ext2 (Nat.le_refl _)⟩
    ·rw[hLo k (by rintro rfl;rw[hcl]at hk2;cases hk2)]
     exact hc k hk1 hk2
    refine⟨ok2.inv,⟨ok2.env.1,fun k hkN=>?_⟩,ok2.defers,ok2.base⟩
    have heq:a1k (a1r L' (fun n=>(vs.getD n default).dst) val s.e m) k=a1k (a7y o.dst y (a1r L (fun n=>(vs.getD n default).dst) val s.e m)) k:=by
      rw[a2j]
      by_cases hd':o.dst=some k
      ·rw[if_pos hd']
       obtain⟨q1,q2⟩:=hA k (a8l hd')
       have:=a4b (L:=L') (dst:=fun n=>(vs.getD n default).dst) (val:=val) (e0:=s.e) (t:=k) (i:=i+1) (m - (i+1)) fun n h1 h2 h3=>by
         rw[hLo n om]
         exact q2 n om om h3
       rw[show i+1+(m - (i+1))=m by omega]at this
       rw[this,a4d,if_pos ⟨hL',hdo.trans hd'⟩]
       exact hval k hd'
      ·rw[if_neg hd']
       exact a2q m fun n h1 h2=>hLo n (by rintro rfl;exact hd' (hdo.symm.trans h2))
    have:=ok2.env.2 k hkN
    rw[heq]
    exact this
 ·refine⟨g,?_,?_⟩
  ·rw[hl0 z,a5d m fun k _=>hl0 k,hz0]
   exact⟨ok.inv.drawn _,ok.env,ok.defers,ok.base⟩
  ·rw[hl0 z,hz0]
   have e:=Ext.refl s.b g s.h w
   exact⟨e.os,e.tape,e.output,e.size,e.frame,e.keep,e.jnew,e.clean,e.len⟩
theorem e9h {dd:a2u} (hD:b1a P cx K pay dd) {orc:Orc} (hS:b5s P cx orc) {N:Nat} {ops:Array Oper} {vs:List a0b} (ht:a1l P ops ops.toList=some vs) (hok:vs.all (a0b.okN N)=true) {m:Nat} (hO:b3b ops vs m)
 {d:Nat} {od:a0b} (hod:vs[d]? =some od) {s':St} {x:D} (hd:a5b cx dd s'.e s'.h od x) {Q:Exit->Act->World->Prop}:∀ (fuel j:Nat),m<=j->j<=d->j+fuel=ops.size->∀ {listed:Array Bool},listed.size=ops.size->(∀ i,i < ops.size->(lst listed i=true↔i < j))->
 ∀ {s:St} {g:Gh} {a:Act} {w:World},a0s cx orc ((vs.take d).drop j) s=some s'->a0x dl cx N g s a w->e4w cx K pay dl s.b g s.h w x Q->wpAny P .any ops Q fuel listed a w:=by
 obtain⟨hlen,hget⟩:=a2t ht
 have hlen':vs.length=ops.size:=by simpa using hlen
 have hds:d < ops.size:=by have:=(List.getElem?_eq_some_iff.1 hod).1;omega
 intro fuel
 induction fuel with
 |zero=>intro j hm hjd hj;omega
 |succ fuel ih=>
  intro j hm hjd hj listed hs hL s g a w he ok hq
  have hjs:j < ops.size:=om
  have hoj:ops[j]? =some ops[j]:=Array.getElem?_eq_getElem hjs
  obtain⟨o,ho,hto⟩:=hget j ops[j] (by simp)
  have hready:j∈Region.ready .any ops listed:=(a8u hs).2 ⟨hjs,by
    cases h:lst listed j with
    |false=>rfl
    |true=>have:=(hL j hjs).1 h;omega,_,hoj,fun e he hb=>by
     have h1:=hO.back j _ hoj e he hb
     exact(hL e.on om).2 h1⟩
  have hback:∀ (i:Nat) (o:Oper),ops[i]? =some o->lst listed i=true->∀ e∈o.after,Region.binds .any e=true->lst listed e.on=true:=by
   intro i o hi hl e he hb
   have h1:=hO.back i o hi e he hb
   have h2:=(Array.getElem?_eq_some_iff.1 hi).1
   have h3:=(hL i h2).1 hl
   exact(hL e.on om).2 om
  refine⟨fun h=>by rw[h]at hready;simp at hready,fun i hi=>?_⟩
  obtain⟨i1,i2,co,i3,i4⟩:=(a8u hs).1 hi
  have hij:i=j:=by
   have hge:j<=i:=Nat.le_of_not_lt fun h=>by rw[(hL i i1).2 h]at i2;cases i2
   refine Nat.le_antisymm (Nat.le_of_not_lt fun h=>?_) hge
   have:=a7z (L:=lst listed) hO.back hback i co i3 i4 j (hO.tail i i1 om j h)
   have:=(hL j hjs).1 this
   omega
  subst hij
  have hoki:o.okN N=true:=(List.all_eq_true.1 hok) _ (List.mem_of_getElem? ho)
  rcases Nat.lt_or_eq_of_le hjd with hlt|heq
  ·have htl:(vs.take d)[i]? =some o:=by rw[List.getElem?_take,if_pos hlt];exact ho
   have hil:i < (vs.take d).length:=(List.getElem?_eq_some_iff.1 htl).1
   rw[List.drop_eq_getElem_cons hil,(List.getElem?_eq_some_iff.1 htl).2]at he
   simp only[a0s]at he
   cases h1:a0f cx orc o s with
   |none=>rw[h1]at he;cases he
   |some s1=>
    rw[h1]at he
    simp only[Option.bind_some]at he
    have hb:=a8a h1
    refine a3d hS hoj hto hoki h1 ok fun g' y w' ok' ext'=>?_
    refine ih (i+1) om om om (by simp[hs]) (fun k hk=>?_) he ok' fun g2 H2 a2 w2 q1 q2 q3 q4=>hq g2 H2 a2 w2 q1 q2 q3 (ext'.trans q4 om)
    by_cases hki:k=i
    ·subst hki;rw[c3b (show k < listed.size by omega)];simp
    ·rw[b6t hki,hL k hk];omega
  ·subst heq
   rw[ho]at hod
   cases hod
   rw[List.drop_eq_nil_of_le (by rw[List.length_take];omega)]at he
   simp only[a0s,Option.some.injEq]at he
   subst he
   exact b9f hD hoj hto hoki hd ok hq
theorem e2r {dd:a2u} (hD:b1a P cx K pay dd) {orc:Orc} (hS:b5s P cx orc) (hmx:P.follows .mixedOrders=true) {N:Nat} {ops:Array Oper} {id m:Nat} {vs:List a0b} (ht:a1l P ops ops.toList=some vs) (hok:vs.all (a0b.okN N)=true) (hord:b1p ops vs m=true)
 {d:Nat} {o:a0b} (hdm:m<=d) (ho:vs[d]? =some o) {s s':St} {x:D} (h:a2c cx orc m (vs.take d) s=some s') (hd:a5b cx dd s'.e s'.h o x) {a:Act} (ok:a0x dl cx N g s a w)
 {Q:Exit->Act->World->Prop} (hq:e4w cx K pay dl s.b g s.h w x Q):(Code.region id ops true).wp P Q a w:=by
 have hO:=a4x hord
 have hml:=hO.le
 obtain⟨hlen,hget⟩:=a2t ht
 have hlen':vs.length=ops.size:=by simpa using hlen
 have hdl:d < vs.length:=(List.getElem?_eq_some_iff.1 ho).1
 obtain⟨τ,val,T0,he⟩:=b1n m (vs.take d) s s' (by rw[List.length_take];omega) h
 have T:Trace cx orc m vs s τ val:=⟨T0.zero,fun i p hi hp'=>T0.step i p hi (by rw[List.getElem?_take,if_pos om];exact hp')⟩
 have G:=b5h (N:=N) T hO.le ok.inv.und fun k hk=>(ok.env.2 k hk).2
 have hdmm:∀ n o',vs[n]? =some o'->(vs.getD n default).dst=o'.dst:=fun n o' h=>by rw[List.getD_eq_getElem?_getD,h];rfl
 refine wp_region_any hmx ?_
 have hl0:∀ i,lst (Array.replicate ops.size false) i=false:=fun i=>by simp[lst,Array.getD]
 obtain⟨l,hl⟩:=G.grow 0 m (Nat.zero_le _) (Nat.le_refl _)
 rw[T.zero]at hl
 have hk:=c1u g s.h l
 rw[<-hl]at hk
 have hout:∀ id,s.h.length<=id->g.J id=none:=fun id hid=>by
   cases hj:g.J id with
   |none=>rfl
   |some p=>have:=(ok.inv.dom id p.1 p.2 hj).1;omega
 refine b1t ht hO (R:=fun L a' w'=> ∃ g',Dst dl cx N m τ (fun n=>(vs.getD n default).dst) val g s w L g' a' w') (fun listed hs hall hlt a w D=>?_) (fun i co p him i3 hp' hto L L' i2 hL' hLo hA a1 w1 K1 D hk=>?_) ops.size _ (by simp) (b0b ops.size fun i _=>hl0 i).symm (fun i _ h=>by rw[hl0]at h;cases h) (fun i o _ h=>by rw[hl0]at h;cases h) ⟨g,?_⟩
 ·obtain⟨g1,D⟩:=D
  have hE:a1r (lst listed) (fun n=>(vs.getD n default).dst) val s.e m=(τ m).e:=a5u (by rw[T.zero]) (fun n hn=>by
    obtain⟨_,q,_⟩:=T.step n vs[n] hn (List.getElem?_eq_getElem om)
    rw[q,hdmm n _ (List.getElem?_eq_getElem om)]) hall m (Nat.le_refl _)
  have hlm:s.h.length<=(τ m).h.length:=D.ext.len
  have hb:s.b<=s.h.length:=ok.base
  refine e9h hD hS ht hok hO ho hd (ops.size - m) m (Nat.le_refl _) hdm om hs (fun i hi=>⟨hlt i hi,hall i⟩) he ⟨D.inv,⟨D.size,fun k hk=>⟨by rw[<-hE];exact D.env k hk,G.und m (Nat.le_refl _) k hk⟩⟩,D.defers,by rw[G.b m (Nat.le_refl _)];omega⟩ fun g' H' a' w' q1 q2 q3 q4=>?_
  refine hq g' H' a' w' q1 q2 q3 (D.ext.trans q4 ?_)
  rw[G.b m (Nat.le_refl _)]
  exact Nat.le_refl _
 ·obtain⟨g1,D⟩:=D
  exact d0i hS T G ok.base him i3 hp' hto ((List.all_eq_true.1 hok) _ (List.mem_of_getElem? hp')) (hdmm i p hp') hdmm hml i2 hL' hLo hA D fun g' a' w' D'=>hk a' w' ⟨g',D'⟩
 ·refine⟨?_,ok.env.1,fun k hkN=>?_,ok.defers,⟨rfl,rfl,rfl,Nat.le_refl _,fun _ _ _=>⟨rfl,rfl⟩,?_,fun i _ c h _=>⟨i,c,h⟩,fun n hn hc=>?_,by rw[hl];simp⟩,fun i hi _ id h1 h2=>hout id ?_⟩
  ·have hI:=ok.inv
   refine⟨hI.inj,fun i b c hj=>⟨by rw[hl,List.length_append];have:=(hI.dom i b c hj).1;omega,(hI.dom i b c hj).2⟩,fun i b c o hj ho=>?_,hI.imm,G.clean m (Nat.le_refl _),hI.glob,hI.fix⟩
   have hi:=(hI.dom i b c hj).1
   rw[hl,List.getElem?_append_left hi]at ho
   exact(hI.ob i b c o hj ho).ext hk rfl rfl (by rintro c' rfl;exact hI.und i c' hi ho)
  ·rw[a5d m fun k _=>hl0 k]
   exact a2m hk _ _ (ok.env.2 k hkN).2 (ok.env.2 k hkN).1
  ·rw[hl]
   exact⟨fun _=>List.prefix_refl _,fun i o hi ho hr=>⟨rfl,o,by rw[List.getElem?_append_left hi];exact ho,hr⟩,fun i sz r hi ho=>⟨r,by rw[List.getElem?_append_left hi];exact ho,List.prefix_refl _,fun _=>rfl⟩⟩
  ·intro i c hi ho
   have:=ok.base
   rw[hl,List.getElem?_append_left om]at ho
   exact hc i c hi ho
  ·obtain⟨l',hl'⟩:=G.grow 0 i (Nat.zero_le _) om
   rw[T.zero]at hl'
   have:s.h.length<=(τ i).h.length:=by rw[hl'];simp
   omega
theorem d8h {pg:Pg} {dd:a2u} {v:a0e} (hv:v.a6k=true) {s:St} {x:D} (h:a2b pg dd v s x):False:=by
 cases h<;>cases hv
theorem b6v {pg:Pg} {dd:a2u} {N:Nat} {a:Act} {x:D} {c:a0e}:∀ (l:List a0e),l.all a0e.a6k=true->(a7d l c).okN N=true->∀ {s:St} {g:Gh},a2b pg dd (a7d l c) s x->a0x dl pg.toCx N g s a w->
 ∃ g1 s1,a0x dl pg.toCx N g1 s1 a w/\Ext s.b g s.h w g1 s1.h w/\s1.b=s.b/\a2b pg dd c s1 x/\c.okN N=true
 |[],_,hN,s,g,h,ok=>⟨g,s,ok,Ext.refl ..,rfl,h,hN⟩
 |v::l,hl,hN,s,g,h,ok=>by
  simp only[List.all_cons,Bool.and_eq_true]at hl
  simp only[a7d,a0e.okN,Bool.and_eq_true]at hN
  simp only[a7d]at h
  cases h with
  |seq1 h=>exact(d8h hl.1 h).elim
  |seq2 h1 h=>
   obtain⟨_,g1,ok1,e1,b1⟩:=c4l hl.1 hN.1 h1 ok
   obtain⟨g2,s2,ok2,e2,b2,h2,n2⟩:=b6v l hl.2 hN.2 h ok1
   exact⟨g2,s2,ok2,e1.trans e2 om,om,h2,n2⟩
theorem b7s {pg:Pg} (hT:a3g P pg) (hmx:P.follows .mixedOrders=true) {A:Ann} {N:Nat} {c:Code} {v:a0e} (ht:tr P A c=some v) (hN:v.okN N=true) {s:St} {a:Act} {y:Ex} {s':St} (h:ev pg v s=some (y,s')) (ok:a0x dl pg.toCx N g s a w)
 {Q:Exit->Act->World->Prop} (hq:∀ g' a' w',a0x dl pg.toCx N g' s' a' w'->Ext s.b g s.h w g' s'.h w'->Q y.out a' w'):c.wp P Q a w:=by
 obtain⟨n,hn⟩:=c1f h
 obtain⟨hS,hL⟩:=b1y hT hmx n
 exact b5i hS hmx hL c v ht hN hn ok hq
theorem h1f {pg:Pg} (hT:a3g P pg) (hmx:P.follows .mixedOrders=true) {v:a0e} {s:St} {y:Ex} {s':St} (h:ev pg v s=some (y,s')):s'.b=s.b:=by
 obtain⟨n,hn⟩:=c1f h
 exact g2m (b1y hT hmx n).2.1 hn
theorem e6n {pg:Pg} (hT:a3g P pg) (hmx:P.follows .mixedOrders=true) {dd:a2u} {A:Ann} {N:Nat} {c:Code} {v:a0e} (ht:tr P A c=some v) (hN:v.okN N=true) {ks:List Nat}
 (ih:∀ {s:St} {x:D},a2b pg dd v s x->∀ {g:Gh} {a:Act} {w:World},a0x dl pg.toCx N g s a w->∀ {Q:Exit->Act->World->Prop},e4w pg.toCx K pay dl s.b g s.h w x Q->c.wp P Q a w):
 ∀ {V:a0e} {s:St} {x:D},a2b pg dd V s x->V= .loop ks v->∃ n,∀ {g:Gh} {a:Act} {w:World},a0x dl pg.toCx N g s a w->∀ {Q:Exit->Act->World->Prop},e4w pg.toCx K pay dl s.b g s.h w x Q->Code.rounds P c Q n a w:=by
 intro V s x h
 induction h with
 |loop1 h _=>
  intro e
  cases e
  refine⟨1,fun ok Q hq=>?_⟩
  rw[rounds_succ]
  refine ih h (ok.keep _) fun g' H' a' w' h1 h2 h3 h4=>?_
  exact hq g' H' a' w' h1 h2 h3 (h4.le ok.base)
 |loop2 h1 _ ih2=>
  intro e
  cases e
  obtain⟨n,hn⟩:=ih2 rfl
  refine⟨n+1,fun ok Q hq=>?_⟩
  rw[rounds_succ]
  refine b7s hT hmx ht hN h1 (ok.keep _) fun g1 a1 w1 ok1 e1=>?_
  refine hn (g:=g1.cut _) (a0x.back ok.inv.und ok.base ok1 e1) fun g' H' a' w' h1 h2 h3 h4=>?_
  exact hq g' H' a' w' h1 h2 h3 (((e1.le ok.base).cut rfl ok.base).trans h4 (Nat.le_refl _))
 |_=>intro e;cases e
theorem c1z {pg:Pg} (hT:a3g P pg) (hmx:P.follows .mixedOrders=true) {dd:a2u} (hD:b1a P pg.toCx K pay dd) {A:Ann} {N:Nat}:∀ (c:Code) (v:a0e),tr P A c=some v->v.okN N=true->∀ {s:St} {x:D},a2b pg dd v s x->∀ {g:Gh} {a:Act} {w:World},a0x dl pg.toCx N g s a w->
 ∀ {Q:Exit->Act->World->Prop},e4w pg.toCx K pay dl s.b g s.h w x Q->c.wp P Q a w:=by
 have hS:=b8e hT hmx
 intro c
 induction c with
 |skip=>intro v ht hN s x h;simp only[tr,Option.some.injEq]at ht;subst ht;cases h
 |label l=>intro v ht hN s x h;simp only[tr,Option.some.injEq]at ht;subst ht;cases h
 |exit id=>intro v ht hN s x h;simp only[tr,Option.some.injEq]at ht;subst ht;cases h
 |ret=>intro v ht hN s x h;simp only[tr,Option.some.injEq]at ht;subst ht;cases h
 |region id ops draw=>
  intro v ht hN s x h g a w ok Q hq
  obtain⟨vs,c,h1,rfl,h2,h3⟩:=d2e ht
  obtain⟨g1,s1,ok1,e1,b1,hc,hN1⟩:=b6v _ h2 hN h ok
  have hq1:e4w pg.toCx K pay dl s1.b g1 s1.h w x Q:=fun g' H' a' w' q1 q2 q3 q4=>hq g' H' a' w' q1 q2 q3 (e1.trans q4 om)
  rcases h3 with⟨rfl,m,ho,rfl⟩|⟨rfl,rfl⟩
  ·cases hc with
   |draw a1 a2 a3 a4 a5 a6=>exact f1o hD hS hmx h1 (by simpa [a0e.okN] using hN1) ho a1 a2 a3 a4 a5 a6 ok1 hq1
   |drawT a1 a2 a3 a4=>exact e2r hD hS hmx h1 (by simpa [a0e.okN] using hN1) ho a1 a2 a3 a4 ok1 hq1
   |drawZ Z hz=>exact e2m hD hS hmx h1 (by simpa [a0e.okN] using hN1) ho Z hz ok1 hq1
  ·cases hc with
   |reg a1 a2 a3=>exact f3b hD hS h1 (by simpa [a0e.okN] using hN1) a1 a2 a3 ok1 hq1
 |seq c1 c2 ih1 ih2=>
  intro v ht hN s x h g a w ok Q hq
  simp only[tr]at ht
  split at ht
  ·rename_i v1 v2 ht1 ht2
   cases ht
   simp only[a0e.okN,Bool.and_eq_true]at hN
   apply wp_seq
   cases h with
   |seq1 h=>exact ih1 v1 ht1 hN.1 h ok fun g' H' a' w' q1 q2 q3 q4=>hq g' H' a' w' q1 q2 q3 q4
   |seq2 hx h=>
    have hb:=h1f hT hmx hx
    refine b7s hT hmx ht1 hN.1 hx ok fun g1 a1 w1 ok1 e1=>?_
    exact ih2 v2 ht2 hN.2 h ok1 fun g' H' a' w' q1 q2 q3 q4=>hq g' H' a' w' q1 q2 q3 (e1.trans q4 om)
  ·cases ht
 |cond c c1 c2 ih1 ih2=>
  intro v ht hN s x h g a w ok Q hq
  simp only[tr]at ht
  split at ht
  ·rename_i vc v1 v2 hc ht1 ht2
   cases ht
   simp only[a0e.okN,Bool.and_eq_true]at hN
   cases h with
   |cond hv h=>
    rename_i t
    have hr:=(a0u ok.inv ok.env hc hN.1.1).1
    rw[hv]at hr
    refine wp_cond (a8f hr) ?_
    cases t with
    |true=>exact ih1 v1 ht1 hN.1.2 (by simpa using h) ok hq
    |false=>exact ih2 v2 ht2 hN.2 (by simpa using h) ok hq
  ·cases ht
 |block id c ih=>
  intro v ht hN s x h g a w ok Q hq
  simp only[tr]at ht
  obtain⟨v1,ht1,rfl⟩:=Option.map_eq_some_iff.1 ht
  simp only[a0e.okN]at hN
  apply wp_block
  cases h with
  |block h=>exact ih v1 ht1 hN h ok fun g' H' a' w' q1 q2 q3 q4=>hq g' H' a' w' q1 q2 q3 q4
 |scope c ih=>
  intro v ht hN s x h g a w ok Q hq
  simp only[tr]at ht
  obtain⟨v1,ht1,rfl⟩:=Option.map_eq_some_iff.1 ht
  simp only[a0e.okN]at hN
  apply wp_scope_straight
  cases h with
  |scope h=>exact ih v1 ht1 hN h ok fun g' H' a' w' q1 q2 q3 q4=>hq g' H' a' w' q1 q2 q3 q4
 |loop c ih=>
  intro v ht hN s x h g a w ok Q hq
  simp only[tr]at ht
  split at ht
  ·cases ht
  rename_i hgh
  obtain⟨v1,ht1,rfl⟩:=Option.map_eq_some_iff.1 ht
  have hgh':(c6q A c).all a0e.a6k=true:=by
   cases hh:(c6q A c).all a0e.a6k with
   |true=>rfl
   |false=>exact absurd hh hgh
  obtain⟨g0,s0,ok0,e0,b0,h,hN⟩:=b6v _ hgh' hN h ok
  simp only[a0e.okN,Bool.and_eq_true]at hN
  obtain⟨n,hn⟩:=e6n hT hmx ht1 hN.2 (fun h=>ih v1 ht1 hN.2 h) h rfl
  exact wp_loop_rounds n (hn ok0 fun g' H' a' w' q1 q2 q3 q4=>hq g' H' a' w' q1 q2 q3 (e0.trans q4 om))
 |_=>intro v ht;simp[tr]at ht
theorem g3t {pg:Pg} (hT:a3g P pg) (hmx:P.follows .mixedOrders=true) {dd:a2u} (hD:b1a P pg.toCx K pay dd) {f:Nat} {vf:VFn} (ht:pg.tbl f=some (.code vf)) {args:List V} (hl:args.length=vf.np) {H:Hp} {x:D}
 (h:a2b pg dd vf.body ⟨a1a args,H,H.length⟩ x):b1l P pg.toCx K pay f args H x:=by
 obtain⟨fn,A,hf,hname,htr,hok⟩:=hT f _ ht
 obtain⟨c,hb,htc,hres,hnt,_⟩:=a4f htr
 obtain⟨k1,k2,k3⟩:=a8c hok
 refine⟨⟨fn,hf,by rw[hb];rfl,hname⟩,fun g w cargs hI ra ua=>calls_of_wp hf hb ?_⟩
 have ok0:a0x [] pg.toCx vf.nt g ⟨a1a args,H,H.length⟩ {tmps:=cargs++Array.replicate (fn.ntmps - cargs.size) undef,defers:=[]} w:=
  ⟨hI,by rw[<-hnt];exact a8i ra ua om,rfl,Nat.le_refl _⟩
 refine c1z hT hmx hD c vf.body htc k1 h ok0 fun g' H' a' w' q1 q2 q3 q4=>?_
 exact⟨q1,g',H',rfl,q2,q3,q4⟩
def f4x (pg:Pg) (base:a2u):Nat->a2u
 |0=>base
 |n+1=>fun f args H x=>base f args H x\/∃ vf,pg.tbl f=some (.code vf)/\args.length=vf.np/\a2b pg (f4x pg base n) vf.body ⟨a1a args,H,H.length⟩ x
def a1p (pg:Pg) (base:a2u):a2u:=fun f args H x=> ∃ n,f4x pg base n f args H x
theorem c8m {pg:Pg} (hT:a3g P pg) (hmx:P.follows .mixedOrders=true) {base:a2u} (hD:b1a P pg.toCx K pay base):∀ n,b1a P pg.toCx K pay (f4x pg base n)
 |0=>hD
 |n+1=>fun f args H x h=>by
  rcases h with h|⟨vf,h1,h2,h3⟩
  ·exact hD f args H x h
  ·exact g3t hT hmx (c8m hT hmx hD n) h1 h2 h3
theorem b7k {pg:Pg} (hT:a3g P pg) (hmx:P.follows .mixedOrders=true) {base:a2u} (hD:b1a P pg.toCx K pay base):b1a P pg.toCx K pay (a1p pg base):=fun f args H x ⟨n,h⟩=>c8m hT hmx hD n f args H x h
theorem b8a {cx:Cx} {dd:Nat->a2u} {e:Env} {H:Hp} {o:a0b} {x:D} (h:a5b cx (fun f a H x=> ∃ n,dd n f a H x) e H o x):∃ n,a5b cx (dd n) e H o x:=by
  unfold a5b at h⊢
  split at h
  ·exact h.elim
  ·cases hop:o.op with
   |call f args=>rw[hop]at h;exact h
   |callv f args=>
    rw[hop]at h
    simp only at h⊢
    split at h
    ·exact h
    ·exact h
    ·exact h.elim
   |_=>rw[hop]at h;exact h.elim
theorem a8o {cx:Cx} {dd dd':a2u} (hm:∀ f a H x,dd f a H x->dd' f a H x) {e:Env} {H:Hp} {o:a0b} {x:D} (h:a5b cx dd e H o x):a5b cx dd' e H o x:=by
 unfold a5b at h⊢
 split at h
 ·exact h.elim
 ·cases hop:o.op with
  |call f args=>rw[hop]at h;exact hm _ _ _ _ h
  |callv f args=>
   rw[hop]at h
   simp only at h⊢
   split at h
   ·exact hm _ _ _ _ h
   ·exact hm _ _ _ _ h
   ·exact h.elim
  |_=>rw[hop]at h;exact h.elim
theorem e4g {pg:Pg} {dd dd':a2u} (hm:∀ f a H x,dd f a H x->dd' f a H x) {v:a0e} {s:St} {x:D} (h:a2b pg dd v s x):a2b pg dd' v s x:=by
 induction h with
 |reg a1 a2 a3=>exact .reg a1 a2 (a8o hm a3)
 |draw a1 a2 a3 a4 a5 a6=>exact .draw a1 a2 a3 a4 a5 (a8o hm a6)
 |drawT a1 a2 a3 a4=>exact .drawT a1 a2 a3 (a8o hm a4)
 |drawZ a1 a2=>exact .drawZ a1 fun y=>a8o hm (a2 y)
 |seq1 _ ih=>exact .seq1 ih
 |seq2 a _ ih=>exact .seq2 a ih
 |cond a _ ih=>exact .cond a ih
 |block _ ih=>exact .block ih
 |scope _ ih=>exact .scope ih
 |loop1 _ ih=>exact .loop1 ih
 |loop2 a _ ih=>exact .loop2 a ih
theorem d4r {pg:Pg} {base:a2u}:∀ n f a H x,f4x pg base n f a H x->f4x pg base (n+1) f a H x
 |0,_,_,_,_,h=> .inl h
 |n+1,f,a,H,x,h=>by
  rcases h with h|⟨vf,h1,h2,h3⟩
  ·exact .inl h
  ·exact .inr ⟨vf,h1,h2,e4g (d4r n) h3⟩
theorem g3c {pg:Pg} {base:a2u} {n m:Nat} (h:n<=m):∀ f a H x,f4x pg base n f a H x->f4x pg base m f a H x:=by
 obtain⟨d,rfl⟩:=Nat.exists_eq_add_of_le h
 clear h
 induction d with
 |zero=>exact fun _ _ _ _ h=>h
 |succ d ih=>exact fun f a H x h=>d4r _ _ _ _ _ (ih f a H x h)
theorem f3y {pg:Pg} {dd:Nat->a2u} (hm:∀ n m,n<=m->∀ f a H x,dd n f a H x->dd m f a H x) {v:a0e} {s:St} {x:D} (h:a2b pg (fun f a H x=> ∃ n,dd n f a H x) v s x):∃ n,a2b pg (dd n) v s x:=by
  induction h with
  |reg a1 a2 a3=>obtain⟨n,h⟩:=b8a a3;exact⟨n,.reg a1 a2 h⟩
  |draw a1 a2 a3 a4 a5 a6=>obtain⟨n,h⟩:=b8a a6;exact⟨n,.draw a1 a2 a3 a4 a5 h⟩
  |drawT a1 a2 a3 a4=>obtain⟨n,h⟩:=b8a a4;exact⟨n,.drawT a1 a2 a3 h⟩
  |drawZ a1 a2=>
   obtain⟨n,h⟩:=b8a (a2 true)
   obtain⟨n',h'⟩:=b8a (a2 false)
   refine⟨max n n',.drawZ a1 fun y=>?_⟩
   cases y with
   |true=>exact a8o (hm n _ (Nat.le_max_left ..)) h
   |false=>exact a8o (hm n' _ (Nat.le_max_right ..)) h'
  |seq1 _ ih=>obtain⟨n,h⟩:=ih;exact⟨n,.seq1 h⟩
  |seq2 a _ ih=>obtain⟨n,h⟩:=ih;exact⟨n,.seq2 a h⟩
  |cond a _ ih=>obtain⟨n,h⟩:=ih;exact⟨n,.cond a h⟩
  |block _ ih=>obtain⟨n,h⟩:=ih;exact⟨n,.block h⟩
  |scope _ ih=>obtain⟨n,h⟩:=ih;exact⟨n,.scope h⟩
  |loop1 _ ih=>obtain⟨n,h⟩:=ih;exact⟨n,.loop1 h⟩
  |loop2 a _ ih=>obtain⟨n,h⟩:=ih;exact⟨n,.loop2 a h⟩
theorem c8g {pg:Pg} {base:a2u} {f:Nat} {args:List V} {H:Hp} {x:D} (h:base f args H x):a1p pg base f args H x:=⟨0,h⟩
theorem c7w {pg:Pg} {base:a2u} {f:Nat} {vf:VFn} (ht:pg.tbl f=some (.code vf)) {args:List V} (hl:args.length=vf.np) {H:Hp} {x:D} (h:a2b pg (a1p pg base) vf.body ⟨a1a args,H,H.length⟩ x):a1p pg base f args H x:=by
 obtain⟨n,h⟩:=f3y (fun _ _ h=>g3c h) h
 exact⟨n+1,.inr ⟨vf,ht,hl,h⟩⟩
end
end Go.Vm
namespace Go.Vm
section
variable (pg:Pg) (dd:a2u)
structure a3u (f:Nat) (vs:List V) (H:Hp) (k:V->Hp->Prop) (D:D->Prop):Prop where
 or:(∃ r H',evF pg f vs H=some (r,H')/\k r H')\/∃ x,dd f vs H x/\D x
noncomputable def goX (b:Nat) (dst:Option Nat) (op:VOp) (kn:Kn) (e:Env) (H:Hp) (k:Kn->Env->Hp->Prop) (D:D->Prop):Prop:=
 match op with
 | .call f args=>d2g pg.toCx e H args fun vs=>a3u pg dd f vs H (fun v H'=>e2w kn dst v e H' k) D
 | .callv f args=>(match gO pg.toCx e f with
   | .fn f c=>d2g pg.toCx e H args fun vs=>a1g (vs++c) fun vs=>a3u pg dd f vs H (fun v H'=>e2w kn dst v e H' k) D
   | .fm f c=>d2g pg.toCx e H args fun vs=>a1g (c++vs) fun vs=>a3u pg dd f vs H (fun v H'=>e2w kn dst v e H' k) D
   |_=>False)
 |op=>goK pg b dst op kn e H k
noncomputable def c1d (b:Nat) (o:a0b) (kn:Kn) (e:Env) (H:Hp) (k:Kn->Env->Hp->Prop) (D:D->Prop):Prop:=match o with
 |⟨dst,op,none⟩=>goX pg dd b dst op kn e H k D
 |⟨dst,op,some g⟩=>b1g pg b ⟨dst,op,some g⟩ kn e H k
noncomputable def e9c (b:Nat) (l:List a0b):Kn->Env->Hp->(Kn->Env->Hp->Prop)->(D->Prop)->Prop:=List.rec (motive:=fun _=>Kn->Env->Hp->(Kn->Env->Hp->Prop)->(D->Prop)->Prop) (fun kn e H K _=>K kn e H) (fun o _ ih kn e H K D=>c1d pg dd b o kn e H (fun kn e H=>ih kn e H K D) D) l
noncomputable def b7x (b:Nat) (m:Nat) (l:List a0b):Kn->Env->Hp->(Kn->Env->Hp->Prop)->(D->Prop)->Prop:=List.rec (motive:=fun _=>Nat->Kn->Env->Hp->(Kn->Env->Hp->Prop)->(D->Prop)->Prop) (fun _ kn e H K _=>K kn e H) (fun o _ ih m kn e H K D=>match m with
  |0=>c1d pg dd b o kn e H (fun kn e' H'=>ih 0 kn e' H' K D) D
  |m+1=>b1g pg b o kn e H fun kn e' H'=>grK (b7j o.op) H H' (f7b o.dst e' H' (ih m kn e' H' K D))) l m
noncomputable def d9g (b:Nat) (d m:Nat) (ops:List a0b) (kn:Kn) (e:Env) (H:Hp) (K:Kn->Env->Hp->Prop) (D:D->Prop):Prop:=
 i1y pg b (ops.take d) (fun _ P=>P) kn e H fun chk kn e=>match ops[d]? with
   |some od=>c1d pg dd b od kn e H (fun kn e H1=>chk H1 (h6s pg b od.dst H ((ops.take m).drop (d+1)) kn e H1 fun kn e=>wpOps pg b (ops.drop m) kn e H1 K)) D
   |none=>False
def f7t (d m:Nat) (ops:List a0b):Bool:=((ops.take d).all fun o=>b7j o.op) && match ops[d]? with
  |some od=>c5k od.dst.toList ((ops.take m).drop (d+1))
  |none=>false
structure WX (b:Nat) (c:a0e) (kn:Kn) (e:Env) (H:Hp) (Q:Ex->Kn->Env->Hp->Prop) (D:D->Prop):Prop where
 imp:a3p kn e->(∃ x kn' e' H',ev pg c ⟨e,H,b⟩=some (x,⟨e',H',b⟩)/\a3p kn' e'/\Q x kn' e' H')\/∃ x,a2b pg dd c ⟨e,H,b⟩ x/\D x
structure KX (b:Nat) (d:a0e) (Q:Ex->Kn->Env->Hp->Prop) (D:D->Prop) (x:Ex) (kn:Kn) (e:Env) (H:Hp):Prop where
 nrm:x= .nrm->WX pg dd b d kn e H Q D
 exit:∀ i,x= .exit i->Q (.exit i) kn e H
 ret:x= .ret->Q .ret kn e H
@[irreducible] def f4s (b:Nat) (ks:List Nat) (c:a0e) (e:Env) (H:Hp) (Q:Ex->Kn->Env->Hp->Prop) (D:D->Prop):Prop:=
 (∃ x e' H',ev pg (.loop ks c) ⟨e,H,b⟩=some (x,⟨e',H',b⟩)/\Q x [] e' H')\/∃ x,a2b pg dd (.loop ks c) ⟨e,H,b⟩ x/\D x
end
section
variable {pg:Pg} {dd:a2u} {b:Nat} {c d:a0e} {Q:Ex->Kn->Env->Hp->Prop} {D:D->Prop} {kn:Kn} {e:Env} {H:Hp}
theorem cxq {f:Nat} {vs:List V} {k:V->Hp->Prop} {r:V} {H':Hp} (h:evF pg f vs H=some (r,H')) (hk:k r H'):a3u pg dd f vs H k D:=⟨.inl ⟨r,H',h,hk⟩⟩
theorem cxd {f:Nat} {vs:List V} {k:V->Hp->Prop} {x:Go.Vm.D} (h:dd f vs H x) (hk:D x):a3u pg dd f vs H k D:=⟨.inr ⟨x,h,hk⟩⟩
theorem g7a (h:WX pg dd b d kn e H Q D):KX pg dd b d Q D .nrm kn e H:=by constructor<;>intros<;>simp_all
theorem g3q {i:Nat} (h:Q (.exit i) kn e H):KX pg dd b d Q D (.exit i) kn e H:=by constructor<;>intros<;>simp_all
theorem g9u (h:Q .ret kn e H):KX pg dd b d Q D .ret kn e H:=by constructor<;>intros<;>simp_all
theorem f2o (h:WQ pg b c kn e H Q):WX pg dd b c kn e H Q D:=⟨fun hk=> .inl (h.imp hk)⟩
theorem g2v {dst:Option Nat} {op:VOp} {k:Kn->Env->Hp->Prop} (hk:a3p kn e) (h:goX pg dd b dst op kn e H k D):
 (∃ kn' e' H',a0f pg.toCx (evF pg) ⟨dst,op,none⟩ ⟨e,H,b⟩=some ⟨e',H',b⟩/\a3p kn' e'/\k kn' e' H')\/∃ x,a5b pg.toCx dd e H ⟨dst,op,none⟩ x/\D x:=by
 unfold goX at h
 split at h
 ·rename_i f args
  have h:=a8v _ _ _ _ _ h
  rcases h.or with⟨r,H',h1,h2⟩|⟨x,h1,h2⟩
  ·left
   obtain⟨kn',e',H2,h3,h4,h5⟩:=b2b (b:=b) hk h2
   exact⟨kn',e',H2,by simp only[a0f,a0q];rw[h1];exact h3,h4,h5⟩
  ·exact .inr ⟨x,h1,h2⟩
 ·rename_i f args
  rw[c2q]at h
  split at h
  ·rename_i f' c' hf
   have h:=a8v _ _ _ _ _ h
   rw[a0o]at h
   rcases h.or with⟨r,H',h1,h2⟩|⟨x,h1,h2⟩
   ·left
    obtain⟨kn',e',H2,h3,h4,h5⟩:=b2b (b:=b) hk h2
    exact⟨kn',e',H2,by simp only[a0f,a0q,hf];rw[h1];exact h3,h4,h5⟩
   ·exact .inr ⟨x,by unfold a5b;simp only[hf];exact h1,h2⟩
  ·rename_i f' c' hf
   have h:=a8v _ _ _ _ _ h
   rw[a0o]at h
   rcases h.or with⟨r,H',h1,h2⟩|⟨x,h1,h2⟩
   ·left
    obtain⟨kn',e',H2,h3,h4,h5⟩:=b2b (b:=b) hk h2
    exact⟨kn',e',H2,by simp only[a0f,a0q,hf];rw[h1];exact h3,h4,h5⟩
   ·exact .inr ⟨x,by unfold a5b;simp only[hf];exact h1,h2⟩
  ·cases h
 ·exact .inl (d7d hk h)
theorem b7a {o:a0b} {k:Kn->Env->Hp->Prop} (hk:a3p kn e) (h:c1d pg dd b o kn e H k D):
 (∃ kn' e' H',a0f pg.toCx (evF pg) o ⟨e,H,b⟩=some ⟨e',H',b⟩/\a3p kn' e'/\k kn' e' H')\/∃ x,a5b pg.toCx dd e H o x/\D x:=by
 obtain⟨dst,op,g⟩:=o
 cases g with
 |none=>exact g2v hk h
 |some g=>exact .inl (a3q hk h)
theorem c8e:∀ {l:List a0b} {kn e H} {K:Kn->Env->Hp->Prop},a3p kn e->e9c pg dd b l kn e H K D->
 (∃ kn' e' H',a0s pg.toCx (evF pg) l ⟨e,H,b⟩=some ⟨e',H',b⟩/\a3p kn' e'/\K kn' e' H')\/∃ i o s1 x,l[i]? =some o/\a0s pg.toCx (evF pg) (l.take i) ⟨e,H,b⟩=some s1/\a5b pg.toCx dd s1.e s1.h o x/\D x
 |[],_,_,_,_,hk,h=> .inl ⟨_,_,_,rfl,hk,h⟩
 |o::r,kn,e,H,K,hk,h=>by
  have h:c1d pg dd b o kn e H (fun kn e H=>e9c pg dd b r kn e H K D) D:=h
  rcases b7a hk h with⟨kn',e',H',h1,h2,h3⟩|⟨x,h1,h2⟩
  ·rcases c8e h2 h3 with⟨kn2,e2,H2,h4,hk2,h5⟩|⟨i,o',s1,x,h4,h5,h6,h7⟩
   ·exact .inl ⟨kn2,e2,H2,by simp only[a0s,h1,Option.bind_some];exact h4,hk2,h5⟩
   ·exact .inr ⟨i+1,o',s1,x,by simpa using h4,by simp only[List.take_succ_cons,a0s,h1,Option.bind_some];exact h5,h6,h7⟩
  ·exact .inr ⟨0,o,⟨e,H,b⟩,x,rfl,rfl,h1,h2⟩
theorem b7o:∀ {l:List a0b} {m:Nat} {kn e H} {K:Kn->Env->Hp->Prop},a3p kn e->b7x pg dd b m l kn e H K D->
 (∃ kn' e' H',a2c pg.toCx (evF pg) m l ⟨e,H,b⟩=some ⟨e',H',b⟩/\a3p kn' e'/\K kn' e' H')\/∃ i o s1 x,m<=i/\l[i]? =some o/\a2c pg.toCx (evF pg) m (l.take i) ⟨e,H,b⟩=some s1/\a5b pg.toCx dd s1.e s1.h o x/\D x
 |[],m,_,_,_,_,hk,h=> .inl ⟨_,_,_,by cases m<;>rfl,hk,h⟩
 |o::r,0,kn,e,H,K,hk,h=>by
  have h:c1d pg dd b o kn e H (fun kn e' H'=>b7x pg dd b 0 r kn e' H' K D) D:=h
  rcases b7a hk h with⟨kn',e',H',h1,h2,h3⟩|⟨x,h1,h2⟩
  ·rcases b7o (m:=0) h2 h3 with⟨kn2,e2,H2,h4,hk2,h5⟩|⟨i,o',s1,x,_,h4,h5,h6,h7⟩
   ·left
    rw[a6o]at h4
    exact⟨kn2,e2,H2,by rw[a6o];simp only[a0s,h1,Option.bind_some,h4],hk2,h5⟩
   ·right
    rw[a6o]at h5
    exact⟨i+1,o',s1,x,om,by simpa using h4,by rw[a6o];simp only[List.take_succ_cons,a0s,h1,Option.bind_some];exact h5,h6,h7⟩
  ·exact .inr ⟨0,o,⟨e,H,b⟩,x,Nat.le_refl _,rfl,rfl,h1,h2⟩
 |o::r,m+1,kn,e,H,K,hk,h=>by
  have h:b1g pg b o kn e H (fun kn e' H'=>grK (b7j o.op) H H' (f7b o.dst e' H' (b7x pg dd b m r kn e' H' K D))):=h
  obtain⟨kn',e',H',h1,h2,h3⟩:=a3q hk h
  have hg:grew H H'=true/\f7b o.dst e' H' (b7x pg dd b m r kn' e' H' K D):=by
   unfold grK at h3
   cases hp:b7j o.op with
   |true=>
    rw[hp]at h3
    rw[b8r hp h1]
    exact⟨by simp,by rw[b8r hp h1]at h3;exact h3⟩
   |false=>rw[hp]at h3;exact h3
  have hd:b7i o.dst ⟨e',H',b⟩=true/\b7x pg dd b m r kn' e' H' K D:=by
   have:=hg.2
   unfold f7b at this
   unfold b7i
   cases hd:o.dst with
   |some d=>rw[hd]at this;simp only[a2o,b5v]at this;exact this
   |none=>rw[hd]at this;exact⟨rfl,this⟩
  rcases b7o h2 hd.2 with⟨kn2,e2,H2,h4,hk2,h5⟩|⟨i,o',s1,x,h0,h4,h5,h6,h7⟩
  ·exact .inl ⟨kn2,e2,H2,by simp only[a2c,h1,Option.bind_some,hg.1,hd.1,Bool.and_self,if_true,h4],hk2,h5⟩
  ·exact .inr ⟨i+1,o',s1,x,om,by simpa using h4,by simp only[List.take_succ_cons,a2c,h1,Option.bind_some,hg.1,hd.1,Bool.and_self,if_true,h5],h6,h7⟩
theorem f8j (h:Q .nrm kn e H):WX pg dd b .skip kn e H Q D:=f2o (q_skip h)
theorem f9i {i:Nat} (h:Q (.exit i) kn e H):WX pg dd b (.exit i) kn e H Q D:=f2o (q_exit h)
theorem g9c (h:Q .ret kn e H):WX pg dd b .ret kn e H Q D:=f2o (g1y h)
theorem d0c {m:Nat} {ops:List a0b} (h:b7x pg dd b m ops kn e H (fun kn e H=>Q .nrm kn e H) D):WX pg dd b (.draw m ops) kn e H Q D:=⟨fun hk=>by
  rcases b7o hk h with⟨kn',e',H',h1,hk',h2⟩|⟨i,o,s1,x,h0,h1,h2,h3,h4⟩
  ·exact .inl ⟨_,kn',e',H',d5r pg h1,hk',h2⟩
  ·exact .inr ⟨x,.drawT h0 h1 h2 h3,h4⟩⟩
theorem h1i {ops:List a0b} (h:e9c pg dd b ops kn e H (fun kn e H=>Q .nrm kn e H) D):WX pg dd b (.reg ops) kn e H Q D:=⟨fun hk=>by
  rcases c8e hk h with⟨kn',e',H',h1,hk',h2⟩|⟨i,o,s1,x,h1,h2,h3,h4⟩
  ·exact .inl ⟨_,kn',e',H',by rw[d2w,evR,h1];rfl,hk',h2⟩
  ·exact .inr ⟨x,.reg h1 h2 h3,h4⟩⟩
theorem g8k (h:WX pg dd b c kn e H (KX pg dd b d Q D) D):WX pg dd b (.seq c d) kn e H Q D:=⟨fun hk=>by
  rcases h.imp hk with⟨x,kn',e',H',h1,hk',h2⟩|⟨x,h1,h2⟩
  ·cases x with
   |nrm=>
    rcases(h2.nrm rfl).imp hk' with⟨x2,kn2,e2,H2,h3,hk2,h4⟩|⟨x,h3,h4⟩
    ·exact .inl ⟨x2,kn2,e2,H2,by rw[b6e,h1,e6o,h3],hk2,h4⟩
    ·exact .inr ⟨x,.seq2 h1 h3,h4⟩
   |exit i=>exact .inl ⟨_,kn',e',H',by rw[b6e,h1,d6d],hk',h2.exit _ rfl⟩
   |ret=>exact .inl ⟨_,kn',e',H',by rw[b6e,h1,e5u],hk',h2.ret rfl⟩
  ·exact .inr ⟨x,.seq1 h1,h2⟩⟩
theorem f0m (h:WX pg dd b c kn e H Q D):WX pg dd b (.scope c) kn e H Q D:=⟨fun hk=>by
  rcases h.imp hk with h|⟨x,h1,h2⟩
  ·exact .inl ((d8b (pg:=pg) ⟨fun _=>h⟩).imp hk)
  ·exact .inr ⟨x,.scope h1,h2⟩⟩
theorem e8c {id:Nat} (h:WX pg dd b c kn e H (KB id Q) D):WX pg dd b (.block id c) kn e H Q D:=⟨fun hk=>by
  rcases h.imp hk with h|⟨x,h1,h2⟩
  ·exact .inl ((d5l (pg:=pg) ⟨fun _=>h⟩).imp hk)
  ·exact .inr ⟨x,.block h1,h2⟩⟩
theorem f7d {i:Nat} (h:match look kn i with
      |some true=>WX pg dd b c kn e H Q D
      |some false=>WX pg dd b d kn e H Q D
      |none=>match gE e i with
       | .d (.bool t)=>(t=true->WX pg dd b c ((i,true)::kn) e H Q D)/\(t=false->WX pg dd b d ((i,false)::kn) e H Q D)
       |_=>False):WX pg dd b (.cond (.t i) c d) kn e H Q D:=⟨fun hk=>by
  have yes:evO pg.toCx e (.t i)= .d (.bool true)->∀ {kn},a3p kn e->WX pg dd b c kn e H Q D->(∃ x kn' e' H',ev pg (.cond (.t i) c d) ⟨e,H,b⟩=some (x,⟨e',H',b⟩)/\a3p kn' e'/\Q x kn' e' H')\/∃ x,a2b pg dd (.cond (.t i) c d) ⟨e,H,b⟩ x/\D x:=by
   intro ht kn hk h
   rcases h.imp hk with⟨x,kn',e',H',h1,hk',h2⟩|⟨x,h1,h2⟩
   ·exact .inl ⟨x,kn',e',H',by rw[b7c];simp only[ht,b1r,if_true];exact h1,hk',h2⟩
   ·exact .inr ⟨x,.cond ht (by simpa using h1),h2⟩
  have no:evO pg.toCx e (.t i)= .d (.bool false)->∀ {kn},a3p kn e->WX pg dd b d kn e H Q D->(∃ x kn' e' H',ev pg (.cond (.t i) c d) ⟨e,H,b⟩=some (x,⟨e',H',b⟩)/\a3p kn' e'/\Q x kn' e' H')\/∃ x,a2b pg dd (.cond (.t i) c d) ⟨e,H,b⟩ x/\D x:=by
   intro ht kn hk h
   rcases h.imp hk with⟨x,kn',e',H',h1,hk',h2⟩|⟨x,h1,h2⟩
   ·exact .inl ⟨x,kn',e',H',by rw[b7c];simp only[ht,b1r];exact h1,hk',h2⟩
   ·exact .inr ⟨x,.cond ht (by simpa using h1),h2⟩
  split at h
  ·rename_i ht;exact yes (hk i _ ht) hk h
  ·rename_i ht;exact no (hk i _ ht) hk h
  ·rw[b5v]at h
   split at h
   ·rename_i t ht
    cases t with
    |true=>exact yes ht (hk.add ht) (h.1 rfl)
    |false=>exact no ht (hk.add ht) (h.2 rfl)
   ·cases h⟩
theorem e0q {sz t:Nat} (h:wp pg b (.newrow sz t) kn e H Q):WX pg dd b (.newrow sz t) kn e H Q D:=f2o (f0r h)
theorem d4v {sz t o:Nat} (h:wp pg b (.bindrow sz t o) kn e H Q):WX pg dd b (.bindrow sz t o) kn e H Q D:=f2o (f0r h)
theorem d8s {t:Nat} (h:wp pg b (.freeze t) kn e H Q):WX pg dd b (.freeze t) kn e H Q D:=f2o (f0r h)
theorem e9e {sz:Nat} (h:wp pg b (.mkrow sz) kn e H Q):WX pg dd b (.mkrow sz) kn e H Q D:=f2o (f0r h)
theorem e0i {t o k:Nat} (h:wp pg b (.bindto t o k) kn e H Q):WX pg dd b (.bindto t o k) kn e H Q D:=f2o (f0r h)
theorem a5p (i:Nat) {m:Nat} {ops:List a0b} (hd:i < m) (hm:m<=ops.length) (hpl:f7t i m ops=true) (hdr:b9u pg b i (ops.take i) kn e H fun _ _ _=>True)
    (h:d9g pg dd b i m ops kn e H (fun kn e H=>Q .nrm kn e H) D):WX pg dd b (.draw m ops) kn e H Q D:=⟨fun hk=>by
  unfold d9g at h
  unfold f7t at hpl
  simp only[Bool.and_eq_true]at hpl
  obtain⟨hp,hta⟩:=hpl
  have A0:Ahd (pg:=pg) b ⟨e,H,b⟩ [] e (fun _ P=>P):=⟨rfl,fun i q _ hq=>by simp only[List.take_nil,a0s,Option.some.injEq]at hq;rw[<-hq],fun H1 P hP=>⟨hP,fun i o q q' ho=>by simp at ho⟩⟩
  obtain⟨chk,kn1,e1,A,hk1,h1⟩:=d0s (s:=⟨e,H,b⟩) hk A0 h
  rw[List.nil_append]at A
  split at h1
  ·rename_i od ho
   rw[ho]at hta
   simp only at hta
   rcases b7a hk1 h1 with⟨kn2,e2,H1,h2,hk2,h3⟩|⟨x,h2,h3⟩
   ·left
    obtain⟨h4,_⟩:=A.chk H1 _ h3
    have hdl:(ops.take i).length=i:=by simp;omega
    have hpre:ops.take (i+1)=ops.take i++[od]:=by rw[List.take_add_one,ho];rfl
    have hrun:=b5m A.run h2
    rw[<-hpre]at hrun
    have hl1:(ops.take (i+1)).length=i+1:=by simp;omega
    have B0:Bhd (pg:=pg) b ⟨e,H,b⟩ i od H1 (ops.take (i+1)) e2:=by
     refine⟨hrun,om,fun j q h1 h2 hq=>?_,fun j o q q' h1 ho'=>?_⟩
     ·have:j=i+1:=om
      subst this
      rw[List.take_of_length_le om,hrun]at hq
      cases hq;rfl
     ·have:=(List.getElem?_eq_some_iff.1 ho').1
      omega
    obtain⟨kn3,e3,B,hk3,h5⟩:=c9g (s:=⟨e,H,b⟩) hk2 B0 h4
    have hall:ops.take (i+1)++(ops.take m).drop (i+1)=ops.take m:=by
     have:=List.take_append_drop (i+1) (ops.take m)
     rwa [List.take_take,Nat.min_eq_left om]at this
    rw[hall]at B
    obtain⟨kn4,e4,H4,h6,hk4,h7⟩:=b3i hk3 h5
    have hops:a0s pg.toCx (evF pg) ops ⟨e,H,b⟩=some ⟨e4,H4,b⟩:=by
     rw[<-List.take_append_drop m ops,b1j,B.run];exact h6
    refine⟨.nrm,kn4,e4,H4,?_,hk4,h7⟩
    show(b1e pg.toCx (evF pg) m ops ⟨e,H,b⟩).map _=_
    rw[a3e.2 ⟨hops,.inr (e0t rfl hm ho A h3 hd B hops)⟩];rfl
   ·right
    obtain⟨kn',e',H',g1,_,_⟩:=a8q hk hdr
    have g2:=a8r g1
    rw[A.run]at g2
    cases g2
    exact⟨x,.draw hd ho hp g1 hta h2,h3⟩
  ·exact h1.elim⟩
theorem e7b {ks:List Nat} {x:Go.Vm.D} (h:a2b pg dd (.loop ks c) ⟨a2d ks e,H,b⟩ x):a2b pg dd (.loop ks c) ⟨e,H,b⟩ x:=by
 cases h with
 |loop1 h=>rw[b1s]at h;exact .loop1 h
 |loop2 h1 h2=>rw[b1s]at h1;exact .loop2 h1 h2
theorem f7k {ks:List Nat} (h:c7k e ks fun e=>f4s pg dd b ks c e H Q D):WX pg dd b (.loop ks c) kn e H Q D:=⟨fun hk=>by
  rw[b5b]at h
  unfold f4s at h
  rcases h with⟨x,e',H',h1,h2⟩|⟨x,h1,h2⟩
  ·left
   refine⟨x,[],e',H',?_,a3p.nil _,h2⟩
   rw[b3u]at h1⊢
   simp only[b1s]at h1
   exact h1
  ·exact .inr ⟨x,e7b h1,h2⟩⟩
theorem b0q {ks:List Nat} {α:Type} (μ:α->Nat) (E:α->Env) (Hf:α->Hp) (P:α->Prop)
 (step:∀ a,P a->d4x (Hf a) 0 fun n=>c7k (E a) ks fun e=>WX pg dd n c [] e (Hf a) (fun x _ e' H'=>KL (fun e' H'=>d7x n e' ks fun e2=>a1g (H'.take n) fun H2=> ∃ a',P a'/\μ a' < μ a/\e2=E a'/\H2=Hf a') Q x e' H') D) (a:α) (ha:P a) {e0:Env} {h0:Hp} (he:e0=E a) (hh:h0=Hf a):f4s pg dd b ks c e0 h0 Q D:=by
 subst he;subst hh
 have key:∀ n,∀ a,μ a < n->P a->(∃ x e' H',ev pg (.loop ks c) ⟨E a,Hf a,b⟩=some (x,⟨e',H',b⟩)/\Q x [] e' H')\/∃ x,a2b pg dd (.loop ks c) ⟨E a,Hf a,b⟩ x/\D x:=by
  intro n
  induction n with
  |zero=>intro a h;omega
  |succ n ih=>
   intro a hn ha
   have st:=step a ha
   rw[a7k,b5b,Nat.zero_add]at st
   rcases st.imp (a3p.nil _)with⟨x,kn',e',H',h1,_,h2⟩|⟨x,h1,h2⟩
   ·cases x with
    |nrm=>
     have h2:=h2.nrm rfl
     simp only[c3x,a0o]at h2
     obtain⟨a',h3,h4,h5,h6⟩:=h2
     rcases ih a' om h3 with h|⟨x,h7,h8⟩
     ·left
      rw[b3u]
      simp only[h1,d7q,h5,h6]
      exact h
     ·right
      refine⟨x,.loop2 h1 ?_,h8⟩
      simp only[h5,h6]
      exact h7
    |exit i=>exact .inl ⟨_,e',H',by rw[b3u];simp only[h1];rfl,h2.exit _ rfl⟩
    |ret=>exact .inl ⟨_,e',H',by rw[b3u];simp only[h1];rfl,h2.ret rfl⟩
   ·exact .inr ⟨x,.loop1 h1,h2⟩
 unfold f4s
 exact key (μ a+1) a om ha
theorem i0q {base:a2u} {f:Nat} {vf:VFn} (ht:pg.tbl f=some (.code vf)) {a:List V} (hn:a.length=vf.np) (hk:vf.keep=false) (hu:a0w 0 a=false) {R:V->Hp->Prop}
 (h:b0e 0 a fun e=>WX pg (a1p pg base) H.length vf.body [] e H (e4i vf.res H.length fun v H'=>R v (H'.take H.length)) D):
 (∃ r H2,evF pg f a H=some (r,H2)/\R r H2)\/∃ x,a1p pg base f a H x/\D x:=by
 rw[a6x]at h
 rcases h.imp (a3p.nil _)with⟨x,kn,e,H',h1,_,h2⟩|⟨x,h1,h2⟩
 ·left
  obtain⟨r',h3,h4⟩:=b5j (b:=H.length) h2
  exact⟨r',H'.take H.length,by rw[f8f ht hn (by rw[hu];rfl),a4o,h1,hk,h3],h4⟩
 ·exact .inr ⟨x,c7w ht hn (by rw[a4o];exact h1),h2⟩
end
end Go.Vm
namespace Go.Vm
theorem d8u {pg:Pg} {base:a2u} {f:Nat} {vf:VFn} (ht:pg.tbl f=some (.code vf)) {a:List V} (hn:a.length=vf.np) {H:Hp} {x:D}
 (h:b0e 0 a fun e=>WX pg (a1p pg base) H.length vf.body [] e H (fun _ _ _ _=>False) fun y=>y=x):a1p pg base f a H x:=by
 rw[a6x]at h
 rcases h.imp (a3p.nil _)with⟨_,_,_,_,_,_,h2⟩|⟨y,h1,rfl⟩
 ·exact h2.elim
 ·exact c7w ht hn (by rw[a4o];exact h1)
section
variable {pg:Pg} {dd:a2u} {b:Nat} {Q:Ex->Kn->Env->Hp->Prop} {D:D->Prop} {kn:Kn} {e:Env} {H:Hp}
theorem g2t {m:Nat} {ops:List a0b} (_:f7z m ops=true) (h:b7x pg dd b m ops kn e H (fun kn e H=>Q .nrm kn e H) D):WX pg dd b (.draw m ops) kn e H Q D:=d0c h
end
theorem stpx {P Q:Prop} (q:Q) (g:Q->P:=by
  first
   |exact g8k|exact e8c|exact h1i|exact f7d|exact f9i|exact g9c|exact f8j|exact f0m|exact g2t rfl|exact f7k|exact e9e|exact e0i|exact d8s|exact e0q|exact d4v):P:=g q
theorem h4k {P Q:Prop} (q:Q) (g:Q->P:=by
  first
   |exact g7a|exact g3q|exact g9u|exact f8q|exact f7v rfl|exact e8t rfl|exact f7h|exact f8w|exact e7a|exact f7r
   |exact And.intro (a9i _)
   |exact fun x=>b1 x|exact fun x=>b2 x|exact fun x=>b3 x|exact fun x=>b4 x|exact fun x=>b5 x|exact fun x=>b6 x
   |exact fun x=>pk x|exact And.intro rfl):P:=g q
theorem a2y {P Q:Prop} (q:Left Q) (h:Left Q->P:=by
  intro q
  first
   |((with_reducible show WX _ _ _ _ _ _ _ _ _);refine stpx ?_)
   |((fail_if_success (with_reducible show WX _ _ _ _ _ _ _ _ _));(conv=>whnf);first|(with_reducible show WX _ _ _ _ _ _ _ _ _)|refine h4k ?_)
  repeat' (first
    |((with_reducible show WX _ _ _ _ _ _ _ _ _);refine stpx ?_)
    |((fail_if_success (with_reducible show WX _ _ _ _ _ _ _ _ _));(conv=>whnf);first|(with_reducible show WX _ _ _ _ _ _ _ _ _)|refine h4k ?_)
    |fail)
  exact q.f):P:=h q
end Go.Vm
