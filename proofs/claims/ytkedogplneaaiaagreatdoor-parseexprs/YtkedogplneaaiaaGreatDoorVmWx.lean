import Derived.Test.YtkedogplneaaiaaGreatDoorIteA
import Derived.Test.YtkedogplneaaiaaGreatDoorVmNum
import Derived.Test.YtkedogplneaaiaaGreatDoorVmOps2
import Derived.Test.YtkedogplneaaiaaGreatDoorVmFn
import Derived.Test.YtkedogplneaaiaaGreatDoorPlW3
set_option maxRecDepth 100000
set_option linter.unusedVariables false
set_option linter.unusedSimpArgs false
namespace Go.Vm.Pa
open Go.Vm.Lex (TokQ)
open Go.Vm.Tp (Nd I64)
structure TOk (l:List TokQ):Prop where
 len:l.length<=65537
 txt:∀ i,(l.getD i default).t.length<=65536
 val:∀ i,I64 (l.getD i default).v
 pos:∀ i,(l.getD i default).f<=65536/\(l.getD i default).e<=65536
 last:∀ i,i < l.length->(l.getD i default).k≠5->i+1 < l.length
structure h0j (n:Nat) (x:Nd):Prop where
 kid:∀ k∈x.kids,0<=k/\k.toNat<=n
 kl:x.kids.length<=1000000
 tl:x.t.length<=1000000
 v:I64 x.v
 f:I64 x.f
 e:I64 x.e
def b3d (s:PS):Prop:=s.ns.length=s.n/\∃ t:List Nd,s.ns=t.map Nd.D/\∀ x∈t,h0j s.n x
def c9u (m:Nat) (ks:List D) (n:Nat):Prop:=ks.length=n/\∃ il:List Int,ks=il.map (D.int .i64)/\∀ k∈il,0<=k/\k.toNat<=m
theorem c3y {m m' n:Nat} {ks:List D} (h:c9u m ks n) (hm:m<=m'):c9u m' ks n:=by
 obtain⟨h1,il,h2,h3⟩:=h
 exact⟨h1,il,h2,fun k hk=>⟨(h3 k hk).1,by have:=(h3 k hk).2;omega⟩⟩
theorem a7e (m:Nat):c9u m [] 0:=⟨rfl,[],rfl,fun k hk=>by cases hk⟩
theorem b2n {m:Nat} {i:Int} (h:0<=i/\i.toNat<=m):c9u m (one i) 1:=⟨rfl,[i],rfl,fun k hk=>by rw[List.mem_singleton.1 hk];exact h⟩
theorem d5n {m:Nat} {i j:Int} (h:0<=i/\i.toNat<=m) (g:0<=j/\j.toNat<=m):c9u m (two i j) 2:=⟨rfl,[i,j],rfl,fun k hk=>by
  simp only[List.mem_cons,List.not_mem_nil,or_false]at hk
  rcases hk with rfl|rfl
  ·exact h
  ·exact g⟩
theorem a7t {m:Nat} {i j p:Int} (h:0<=i/\i.toNat<=m) (g:0<=j/\j.toNat<=m) (k:0<=p/\p.toNat<=m):c9u m [.int .i64 i,.int .i64 j,.int .i64 p] 3:=⟨rfl,[i,j,p],rfl,fun x hx=>by
  simp only[List.mem_cons,List.not_mem_nil,or_false]at hx
  rcases hx with rfl|rfl|rfl
  ·exact h
  ·exact g
  ·exact k⟩
theorem a2m {m m':Nat} {ks:K} {i:Int} (h:c9u m ks.l ks.n) (hm:m<=m') (g:0<=i/\i.toNat<=m'):c9u m' (push ks i).l (push ks i).n:=by
 obtain⟨h1,il,h2,h3⟩:=c3y h hm
 refine⟨by show(ks.l++[_]).length=ks.n+1;rw[List.length_append,h1];rfl,il++[i],by show ks.l++[_]=_;rw[h2,List.map_append];rfl,fun k hk=>?_⟩
 rcases List.mem_append.1 hk with hk|hk
 ·exact h3 k hk
 ·rw[List.mem_singleton.1 hk];exact g
theorem a7q {s s1:PS} (h:b3d s) (h1:s1.ns=s.ns) (h2:s1.n=s.n):b3d s1:=by unfold b3d at*;rw[h1,h2];exact h
theorem e8n {s:PS} (h:b3d s) {s1:PS} {x:Nd} (h1:s1.ns=s.ns++[x.D]) (h2:s1.n=s.n+1) (hx:h0j (s.n+1) x):b3d s1:=by
 obtain⟨g1,t,g2,g3⟩:=h
 refine⟨by rw[h1,h2,List.length_append,g1];rfl,t++[x],by rw[h1,g2,List.map_append];rfl,fun y hy=>?_⟩
 rw[h2]
 rcases List.mem_append.1 hy with hy|hy
 ·have:=g3 y hy
  exact⟨fun k hk=>⟨(this.kid k hk).1,by have:=(this.kid k hk).2;omega⟩,this.kl,this.tl,this.v,this.f,this.e⟩
 ·rw[List.mem_singleton.1 hy];exact hx
section
variable {l:List TokQ} (hl:TOk l) {s s1:PS}
theorem e6x (h:okB s=true):s.bc=0:=by simpa [okB] using h
theorem h3r (h:okB s=false):s.bc≠0:=by simpa [okB] using h
theorem b6f {c:Int} (hc:c≠0):(a2h l c s).bc≠0:=by
 unfold a2h
 split
 ·exact hc
 ·rename_i h;simpa [okB] using h
theorem b1x {c:Int}:(a2h l c s).at_=s.at_:=by unfold a2h;split<;>rfl
theorem b1r {c:Int}:(a2h l c s).n=s.n:=by unfold a2h;split<;>rfl
theorem b4z {c:Int}:(a2h l c s).ns=s.ns:=by unfold a2h;split<;>rfl
include hl
theorem f2m (h5:(now l s).k≠5) (lo:0<=s.at_) (hi:s.at_ < l.length):(adv s).at_=s.at_+1/\s.at_+1 < l.length:=by
 have h1:=hl.last s.at_.toNat om h5
 have h2:=hl.len
 exact⟨a3z (n:=s.at_+1) om,om⟩
omit hl in
theorem f5f {x:S} (h:isS l s x=true):(now l s).k≠5:=by
 unfold isS at h
 simp only[Bool.and_eq_true,Bool.or_eq_true,decide_eq_true_eq]at h
 omega
theorem f9y {x:S} (e:a1o l x s=(true,s1)) (ns:b3d s) (lo:0<=s.at_) (hi:s.at_ < l.length):s.bc=0/\s1.bc=0/\s1.at_=s.at_+1/\s1.n=s.n/\s1.at_ < l.length/\b3d s1:=by
 unfold a1o at e
 split at e
 ·rename_i c
  simp only[Bool.and_eq_true]at c
  cases e
  have hb:=e6x c.1
  obtain⟨h1,h2⟩:=f2m hl (f5f c.2) lo hi
  exact⟨hb,hb,h1,rfl,by rw[h1];exact h2,a7q ns rfl rfl⟩
 ·cases e
omit hl in
theorem g2b {x:S} (e:a1o l x s=(false,s1)):s1=s:=by
 unfold a1o at e
 split at e
 ·cases e
 ·cases e;rfl
theorem h0h {x:S} {b:Bool} (e:a1o l x s=(b,s1)) (ns:b3d s) (lo:0<=s.at_) (hi:s.at_ < l.length):(b=true/\s.bc=0/\s1.bc=0/\s1.at_=s.at_+1/\s1.n=s.n/\s1.at_ < l.length/\b3d s1)\/(b=false/\s1=s):=by
 cases b with
 |true=>exact .inl ⟨rfl,f9y hl e ns lo hi⟩
 |false=>exact .inr ⟨rfl,g2b e⟩
theorem g1u {x:S} {b:Bool} (e:a2i l x s=(b,s1)) (ns:b3d s) (lo:0<=s.at_) (hi:s.at_ < l.length):(s.bc=0/\s1.bc=0/\s1.at_=s.at_+1/\s1.n=s.n/\s1.at_ < l.length/\b3d s1)\/(s1.bc≠0/\s1.at_=s.at_/\s1.n=s.n/\b3d s1):=by
 unfold a2i at e
 split at e
 ·rename_i c
  simp only[Bool.and_eq_true]at c
  cases e
  have hb:=e6x c.1
  obtain⟨h1,h2⟩:=f2m hl (f5f c.2) lo hi
  exact .inl ⟨hb,hb,h1,rfl,by rw[h1];exact h2,a7q ns rfl rfl⟩
 ·cases e
  exact .inr ⟨b6f (by decide),b1x,b1r,a7q ns b4z b1r⟩
theorem h5q {t:S} (e:a3j l s=(t,s1)) (ns:b3d s) (lo:0<=s.at_) (hi:s.at_ < l.length):t.length<=65536/\((s.bc=0/\s1.bc=0/\s1.at_=s.at_+1/\s1.n=s.n/\s1.at_ < l.length/\b3d s1)\/(s1.bc≠0/\s1.at_=s.at_/\s1.n=s.n/\b3d s1)):=by
 unfold a3j at e
 split at e
 ·rename_i c
  simp only[Bool.and_eq_true,decide_eq_true_eq]at c
  cases e
  have hb:=e6x c.1
  obtain⟨h1,h2⟩:=f2m hl om lo hi
  exact⟨hl.txt _,.inl ⟨hb,hb,h1,rfl,by rw[h1];exact h2,a7q ns rfl rfl⟩⟩
 ·cases e
  exact⟨Nat.zero_le _,.inr ⟨b6f (by decide),b1x,b1r,a7q ns b4z b1r⟩⟩
omit hl in
theorem h1f {c:Int} {b:Bool} (e:b3k l c s=(b,s1)) (ns:b3d s):s1.at_=s.at_/\s1.n=s.n/\b3d s1/\((b=true/\s.bc=0/\s1.bc=0)\/(b=false/\s1.bc≠0)):=by
 have h1:(a8r l c s).at_=s.at_/\(a8r l c s).n=s.n/\(a8r l c s).ns=s.ns/\((a8r l c s).bc=0->s.bc=0):=by
  unfold a8r
  split
  ·exact⟨b1x,b1r,b4z,fun h=>absurd h (b6f (by decide))⟩
  ·exact⟨rfl,rfl,rfl,id⟩
 have h2:(b2f l (a8r l c s)).at_=s.at_/\(b2f l (a8r l c s)).n=s.n/\(b2f l (a8r l c s)).ns=s.ns/\((b2f l (a8r l c s)).bc=0->s.bc=0):=by
  unfold b2f
  split
  ·exact⟨b1x.trans h1.1,b1r.trans h1.2.1,b4z.trans h1.2.2.1,fun h=>absurd h (b6f (by decide))⟩
  ·exact h1
 unfold b3k at e
 cases e
 refine⟨h2.1,h2.2.1,a7q ns h2.2.2.1 h2.2.1,?_⟩
 cases hb:okB (a3t (b2f l (a8r l c s)))with
 |true=>exact .inl ⟨rfl,h2.2.2.2 (e6x hb),e6x hb⟩
 |false=>exact .inr ⟨rfl,h3r hb⟩
theorem e3f {fr:Int} {x:N} {m:Nat} (ns:b3d s) (hn:s.n < 1000000) (h0:0<=fr) (h1:fr<=s.at_) (hi:s.at_ < l.length) (kk:c9u (s.n+1) x.ks m) (hm:m<=1000000) (ht:x.t.length<=1000000) (hv:I64 x.v):∃ i s1,a2y l fr x s=some (i,s1)/\s1.at_=s.at_/\s1.bc=s.bc/\s1.n=s.n+1/\b3d s1/\0<=i/\i.toNat<=s1.n:=by
 have hlen:=hl.len
 have hw:w (s.at_ - 1)=s.at_ - 1:=a3z om
 have c:s.ns.length=s.n/\s.n < 1000000/\okF l fr/\(fr < s.at_->okF l (w (s.at_ - 1))):=⟨ns.1,hn,by unfold okF;simp;omega,fun _=>by unfold okF;rw[hw];simp;omega⟩
 unfold a2y
 rw[if_pos c]
 refine⟨_,_,rfl,rfl,rfl,rfl,?_,?_,?_⟩
 ·obtain⟨k1,il,k2,k3⟩:=kk
  have hf:∀ i,I64 ((l.getD i default).f:Int)/\I64 ((l.getD i default).e:Int):=fun i=>by
    have:=hl.pos i
    unfold I64;omega
  refine e8n (x:=⟨x.k,x.t,x.v,il,_,_⟩) ns (by rw[show(N.D x _ _)=Nd.D ⟨x.k,x.t,x.v,il,_,_⟩from by unfold N.D Nd.D;rw[k2]]) rfl ⟨k3,by rw[<-List.length_map («as»:=il) (f:=D.int .i64),<-k2,k1];exact hm,ht,hv,(hf _).1,?_⟩
  show I64 (if fr < s.at_ then _ else _)
  split
  ·exact(hf _).2
  ·unfold I64;omega
 ·show 0<=w _
  rw[show w (((s.n+1:Nat):Int) - 1)=(s.n:Int)from(a3z om).trans om];omega
 ·show(w _).toNat<=s.n+1
  rw[show w (((s.n+1:Nat):Int) - 1)=(s.n:Int)from(a3z om).trans om];omega
end
def cQ:Q->Nat
 | .typ| .typed _| .param| .field| .variant| .params _ _| .fields _ _| .block| .let_ _| .match_| .pattern| .patterned _| .named _ _| .inits _| .init=>1
 | .function| .item| .items _| .branch| .cond| .expr _| .row _ _| .operand _| .prefix_ _| .postfix_ _| .primary _| .args _=>2
 | .stmts _| .stmt| .blocky _| .arms _| .arm=>3
 | .parts _| .rows .. | .gets .. =>0
def dQ:Q->Nat
 | .typ| .typed _| .param| .field| .variant| .params _ _| .fields _ _| .parts _| .pattern| .patterned _=>12
 | .function| .item| .stmt| .blocky _| .arm=>10
 | .items _=>8
 | .stmts _| .arms _=>7
 |_=>11
def nQ:Q->Nat
 | .block=>1
 |_=>0
def pQ:Q->Nat
 | .params _ _| .fields _ _| .items _| .stmts _| .arms _| .rows .. | .gets .. | .args _| .inits _=>0
 |_=>1
def rQ:Q->Int
 | .typ| .params _ _| .fields _ _| .item| .branch| .inits _| .pattern=>1
 | .items _| .blocky _| .primary _| .arm=>2
 | .postfix_ _| .arms _=>3
 | .prefix_ _=>4
 | .operand _=>5
 | .row r _=>10 - r
 | .expr _=>11
 | .stmt| .args _=>12
 | .stmts _=>13
 |_=>0
def oQ:Q->Nat
 | .typ| .block| .pattern| .expr _| .operand _| .params _ _| .fields _ _| .items _| .stmts _| .arms _| .rows .. | .gets .. | .args _| .inits _=>0
 |_=>1
def Ext (l:List TokQ) (s:PS):Q->Prop
 | .typed fr| .let_ fr| .blocky fr| .patterned fr| .named fr _=>0<=fr/\fr<=s.at_
 | .params ks v=>(c9u s.n ks.l ks.n/\(ks.n:Int)<=s.at_+3/\(s.bc=0->(ks.n:Int)<=s.at_+2))/\I64 v
 | .fields _ ks| .items ks| .stmts ks| .arms ks| .args ks| .inits ks=>c9u s.n ks.l ks.n/\(ks.n:Int)<=s.at_+3/\(s.bc=0->(ks.n:Int)<=s.at_+2)
 | .parts _=>(now l s).k≠5
 | .row r _=>0<=r/\r<=5
 | .rows r _ fr a=>(0<=r/\r<=4)/\(0<=fr/\fr<=s.at_)/\0<=a/\a.toNat<=s.n
 | .gets fr a=>(0<=fr/\fr<=s.at_)/\0<=a/\a.toNat<=s.n
 |_=>True
structure Pre (l:List TokQ) (q:Q) (s:PS):Prop where
 lo:0<=s.at_
 hi:s.at_ < l.length
 ns:b3d s
 bd:(s.bc=0->(s.n:Int)+15* (l.length - s.at_)+cQ q<=999990)/\(s.bc≠0->(s.n:Int)+15* (l.length - s.at_)+nQ q<=999990)
 ok:oQ q=1->s.bc=0
 ex:Ext l s q
def Num (c d n p:Nat) (s s1:PS):Prop:=s.at_<=s1.at_/\s.n<=s1.n/\(s.bc≠0->s1.bc≠0/\s1.at_=s.at_/\s1.n<=s.n+n)/\(s.bc=0->p=1->s.at_ < s1.at_\/s1.bc≠0)/\(s.bc=0->(s1.at_=s.at_/\s1.n<=s.n+c)\/(s.at_ < s1.at_/\(s1.n:Int)+d<=s.n+15* (s1.at_ - s.at_)))
structure Post (l:List TokQ) (q:Q) (s:PS) (r:R) (s1:PS):Prop where
 num:Num (cQ q) (dQ q) (nQ q) (pQ q) s s1
 hi:s1.at_ < l.length
 ns:b3d s1
 ri:0<=r.i/\r.i.toNat<=s1.n
 rk:c9u s1.n r.ks.l r.ks.n/\(r.ks.n:Int)<=s1.at_+3
 rv:I64 r.v
def G (l:List TokQ) (q:Q) (s:PS) (x:M):Prop:=∃ r s1,x=some (r,s1)/\Post l q s r s1
def Mu (l:List TokQ) (q:Q) (s:PS) (n:Nat):Prop:=(s.bc=0->64* ((l.length:Int) - s.at_)+1+rQ q < n)/\(s.bc≠0->64* ((l.length:Int) - s.at_) < n)
def IHt (l:List TokQ) (n:Nat):Prop:=∀ q s,Pre l q s->Mu l q s n->G l q s (go l n q s)
section
variable {l:List TokQ} {n:Nat} (IH:IHt l n) {q:Q} {s s1:PS} {r:R}
theorem e7l (h:Post l q s r s1) (lo:0<=s.at_):okS l s1=true:=by
 have:=h.hi
 have:=h.num.1
 unfold okS;simp;omega
include IH
theorem g7y (e:cl l (go l n) q s=some (r,s1)) (p:Pre l q s) (m:Mu l q s n):Post l q s r s1:=by
 obtain⟨r',s',h1,h2⟩:=IH q s p m
 unfold cl at e
 rw[h1]at e
 simp only[e7l h2 p.lo,if_true,Option.some.injEq,Prod.mk.injEq]at e
 obtain⟨rfl,rfl⟩:=e
 exact h2
theorem g7d (e:cl l (go l n) q s=none) (p:Pre l q s) (m:Mu l q s n):False:=by
 obtain⟨r',s',h1,h2⟩:=IH q s p m
 unfold cl at e
 rw[h1]at e
 simp only[e7l h2 p.lo,if_true]at e
 cases e
theorem i3u (p:Pre l q s) (m:Mu l q s n):cl l (go l n) q s=go l n q s:=by
 obtain⟨r',s',h1,h2⟩:=IH q s p m
 unfold cl
 rw[h1]
 simp only[e7l h2 p.lo,if_true]
end
end Go.Vm.Pa
namespace Go.Vm.Pa
open Go.Vm.Lex (TokQ)
inductive Pr where
 |ret (r:R)
 |dead
 |take (x:S) (k:Bool->Pr)
 |need (x:S) (k:Pr)
 |name (k:S->Pr)
 |is (x:S) (k:Bool->Pr)
 |ok (k:Bool->Pr)
 |kind (c:Int) (k:Bool->Pr)
 |text (x:S) (k:Bool->Pr)
 |val (k:Int->Pr)
 |sign (r:Int) (k:S->Pr)
 |into (c:Int) (k:Bool->Pr)
 |down (k:Pr)
 |adv (k:Pr)
 |node (fr:Int) (n:N) (k:Int->Pr)
 |unit (k:Int->Pr)
 |fail (k:Pr)
 |pos (k:Int->Pr)
 |call (q:Q) (k:R->Pr)
 |tail (q:Q)
section
variable (l:List TokQ) (go:Q->PS->M)
def b4v (s:PS):Option (Int×PS):=
 if s.ns.length=s.n/\s.n < 1000000/\okF l (w (s.at_ - 1)) then
  some (w (((s.n+1:Nat):Int) - 1),{s with n:=s.n+1,ns:=s.ns++[N.D ⟨12,[],0,[]⟩ (l.getD (w (s.at_ - 1)).toNat default).e (l.getD (w (s.at_ - 1)).toNat default).e]})
 else none
def a8t:Pr->PS->M
 | .ret r,s=>some (r,s)
 | .dead,_=>none
 | .take x k,s=>a8t (k (a1o l x s).1) (a1o l x s).2
 | .need x k,s=>a8t k (a2i l x s).2
 | .name k,s=>a8t (k (a3j l s).1) (a3j l s).2
 | .is x k,s=>a8t (k (isS l s x)) s
 | .ok k,s=>a8t (k (okB s)) s
 | .kind c k,s=>a8t (k (decide ((now l s).k=c))) s
 | .text x k,s=>a8t (k (decide ((now l s).t=x))) s
 | .val k,s=>a8t (k (now l s).v) s
 | .sign r k,s=>a8t (k (b7v l r s)) s
 | .into c k,s=>a8t (k (b3k l c s).1) (b3k l c s).2
 | .down k,s=>a8t k (down s)
 | .adv k,s=>match okS l (adv s)with|true=>a8t k (adv s)|false=>none
 | .node fr n k,s=>match a2y l fr n s with|some (i,s1)=>a8t (k i) s1|none=>none
 | .unit k,s=>match b4v l s with|some (i,s1)=>a8t (k i) s1|none=>none
 | .fail k,s=>a8t k (a2h l 120 s)
 | .pos k,s=>a8t (k s.at_) s
 | .call q k,s=>match cl l go q s with|some (r,s1)=>a8t (k r) s1|none=>none
 | .tail q,s=>go q s
end
def guard (b:Bool) (p:Pr):Pr:=match b with|true=>p|false=> .dead
def mkP (fr:Int) (k:Int) (t:S) (v:Int) (ks:List D):Pr:= .node fr ⟨k,t,v,ks⟩ fun i=> .ret (rI i)
def endP (fr:Int) (n:N):Pr:= .node fr n fun i=> .need [59] (.ret (rI i))
def e0g (c:Int) (q:Q):Pr:= .into c fun b=>match b with
  |false=> .down (.ret (rI 0))
  |true=> .call q fun a=> .down (.ret (rI a.i))
def g4k (fr:Int):Pr:= .take [45] fun m=> .kind 3 fun b=>match b with
  |false=> .fail (.ret (rI 0))
  |true=> .val fun v=> .adv (match m with
   |true=>mkP fr 52 [] (w (0 - v)) []
   |false=>mkP fr 52 [] v [])
def newP (fr:Int):Pr:= .name fun _=> .need [40] (.call (.expr false) fun r=> .need [41] (mkP fr 44 [] 0 (one r.i)))
def e5u (fr:Int) (t:S):Pr:= .take [58,58] fun b=>match b with
  |false=>mkP fr 33 t 0 []
  |true=> .name fun u=> .take [40] fun b=>match b with
   |false=>mkP fr 37 (t++[58,58]++u) 0 []
   |true=> .call (.expr false) fun r=> .need [41] (mkP fr 37 (t++[58,58]++u) 0 (one r.i))
def rowP (x:S) (q:Q) (ks:K) (k:K->Q):Pr:= .ok fun b=>match b with
  |false=> .ret (rK ks)
  |true=> .is x fun b=>match b with
   |true=> .ret (rK ks)
   |false=> .call q fun r=>guard (okK ks) (.take [44] fun b=>match b with
    |true=> .tail (k (push ks r.i))
    |false=> .ret (rK (push ks r.i)))
def prog:Q->Pr
 | .typ=> .pos fun p=>e0g 116 (.typed p)
 | .typed fr=> .take [105,54,52] fun b=>match b with
   |true=>mkP fr 10 [] 0 []
   |false=> .take [98,111,111,108] fun b=>match b with
   |true=>mkP fr 11 [] 0 []
   |false=> .take [40] fun b=>match b with
   |true=> .need [41] (mkP fr 12 [] 0 [])
   |false=> .take [38] fun b=>match b with
   |true=> .take [109,117,116] fun b=>match b with
    |true=> .call .typ fun r=>mkP fr 15 [] 0 (one r.i)
    |false=> .call .typ fun r=>mkP fr 14 [] 0 (one r.i)
   |false=> .take [66,111,120] fun b=>match b with
   |true=> .need [60] (.call .typ fun r=> .need [62] (mkP fr 16 [] 0 (one r.i)))
   |false=> .name fun t=>mkP fr 13 t 0 []
 | .param=> .pos fun p=> .take [109,117,116] fun m=> .name fun t=> .need [58] (.call .typ fun r=>match m with
   |true=>mkP p 7 t 1 (one r.i)
   |false=>mkP p 7 t 0 (one r.i))
 | .field=> .pos fun p=> .name fun t=> .need [58] (.call .typ fun r=>mkP p 5 t 0 (one r.i))
 | .variant=> .pos fun p=> .name fun t=> .take [40] fun b=>match b with
   |true=> .call .typ fun r=> .need [41] (mkP p 6 t 0 (one r.i))
   |false=>mkP p 6 t 0 []
 | .params ks v=> .ok fun b=>match b with
   |false=> .ret ⟨0,false,ks,v⟩
   |true=> .is [41] fun b=>match b with
   |true=> .ret ⟨0,false,ks,v⟩
   |false=> .call .param fun r=>guard (okK ks) (.take [44] fun b=>match b with
    |true=> .tail (.params (push ks r.i) (w (v+1)))
    |false=> .ret ⟨0,false,push ks r.i,w (v+1)⟩)
 | .function=> .pos fun p0=> .need [102,110] (.name fun t=> .need [40] (.call (.params K.o 0) fun p=> .need [41] (.take [45,62] fun b=>match b with
   |true=> .call .typ fun r=>guard (okK p.ks) (.call .block fun q=>guard (okK (push p.ks r.i)) (guard (okK (push (push p.ks r.i) q.i)) (mkP p0 2 t p.v (push (push p.ks r.i) q.i).l)))
   |false=> .ok fun b=>match b with
    |true=> .unit fun i=>guard (okK p.ks) (.call .block fun q=>guard (okK (push p.ks i)) (guard (okK (push (push p.ks i) q.i)) (mkP p0 2 t p.v (push (push p.ks i) q.i).l)))
    |false=> .call .block fun q=>guard (okK p.ks) (guard (okK (push p.ks q.i)) (mkP p0 2 t p.v (push p.ks q.i).l)))))
 | .fields k ks=>match decide (k=3)with
   |true=>rowP [125] .field ks (.fields k)
   |false=>rowP [125] .variant ks (.fields k)
 | .parts k=> .pos fun p0=> .adv (.name fun t=> .need [123] (.call (.fields k K.o) fun p=> .need [125] (guard (okK p.ks) (mkP p0 k t 0 p.ks.l))))
 | .item=> .is [115,116,114,117,99,116] fun b=>match b with
   |true=> .call (.parts 3) .ret
   |false=> .is [101,110,117,109] fun b=>match b with
   |true=> .call (.parts 4) .ret
   |false=> .call .function .ret
 | .items ks=> .ok fun b=>match b with
   |false=> .ret (rK ks)
   |true=> .kind 5 fun b=>match b with
   |true=> .ret (rK ks)
   |false=> .call .item fun r=>guard (okK ks) (.tail (.items (push ks r.i)))
 | .stmts ks=> .ok fun b=>match b with
   |false=> .ret (rK ks)
   |true=> .is [125] fun b=>match b with
   |true=> .ret (rK ks)
   |false=> .call .stmt fun r=>guard (okK ks) (match r.b with
    |true=> .ret ⟨0,true,push ks r.i,1⟩
    |false=> .tail (.stmts (push ks r.i)))
 | .block=> .pos fun p0=> .into 98 fun b=>match b with
   |false=> .down (mkP p0 20 [] 0 [])
   |true=> .need [123] (.call (.stmts K.o) fun p=> .need [125] (guard (okK p.ks) (.down (mkP p0 20 [] p.v p.ks.l))))
 | .stmt=> .pos fun p0=> .is [108,101,116] fun b=>match b with
   |true=> .call (.let_ p0) fun r=> .ret (rI r.i)
   |false=> .take [119,104,105,108,101] fun b=>match b with
   |true=> .call (.expr true) fun x=> .call .block fun y=>mkP p0 24 [] 0 (two x.i y.i)
   |false=> .take [114,101,116,117,114,110] fun b=>match b with
   |true=> .is [59] fun b=>match b with
    |true=>endP p0 ⟨25,[],0,[]⟩
    |false=> .call (.expr false) fun x=>endP p0 ⟨25,[],0,one x.i⟩
   |false=> .take [98,114,101,97,107] fun b=>match b with
   |true=>endP p0 ⟨26,[],0,[]⟩
   |false=> .take [99,111,110,116,105,110,117,101] fun b=>match b with
   |true=>endP p0 ⟨27,[],0,[]⟩
   |false=> .is [105,102] fun b=>match b with
   |true=> .call (.blocky p0) .ret
   |false=> .is [109,97,116,99,104] fun b=>match b with
   |true=> .call (.blocky p0) .ret
   |false=> .is [123] fun b=>match b with
   |true=> .call (.blocky p0) .ret
   |false=> .call (.expr false) fun x=> .take [61] fun b=>match b with
   |true=> .call (.expr false) fun y=>endP p0 ⟨23,[],0,two x.i y.i⟩
   |false=> .is [125] fun b=>match b with
   |true=> .ret ⟨x.i,true,K.o,0⟩
   |false=>endP p0 ⟨22,[],0,one x.i⟩
 | .let_ fr=> .need [108,101,116] (.take [109,117,116] fun m=> .name fun t=> .take [58] fun b=>match b with
   |true=> .call .typ fun x=> .need [61] (.call (.expr false) fun y=>match m with
    |true=>endP fr ⟨21,t,1,two x.i y.i⟩
    |false=>endP fr ⟨21,t,0,two x.i y.i⟩)
   |false=> .need [61] (.call (.expr false) fun y=>match m with
    |true=>endP fr ⟨21,t,1,one y.i⟩
    |false=>endP fr ⟨21,t,0,one y.i⟩))
 | .blocky fr=> .call .branch fun k=> .is [125] fun b=>match b with
   |true=> .ret ⟨k.i,true,K.o,0⟩
   |false=> .node fr ⟨22,[],0,one k.i⟩ fun i=> .take [59] fun _=> .ret (rI i)
 | .branch=> .is [105,102] fun b=>match b with
   |true=> .call .cond .ret
   |false=> .is [109,97,116,99,104] fun b=>match b with
   |true=> .call .match_ .ret
   |false=> .call .block .ret
 | .cond=> .pos fun p0=> .need [105,102] (.call (.expr true) fun x=> .call .block fun y=> .take [101,108,115,101] fun b=>match b with
   |false=>mkP p0 45 [] 0 (two x.i y.i)
   |true=> .is [105,102] fun b=>match b with
    |false=> .call .block fun z=>mkP p0 45 [] 0 [.int .i64 x.i,.int .i64 y.i,.int .i64 z.i]
    |true=> .into 101 fun b=>match b with
     |false=> .down (mkP p0 45 [] 0 [.int .i64 x.i,.int .i64 y.i,.int .i64 0])
     |true=> .call .cond fun z=> .down (mkP p0 45 [] 0 [.int .i64 x.i,.int .i64 y.i,.int .i64 z.i]))
 | .match_=> .pos fun p0=> .need [109,97,116,99,104] (.call (.expr true) fun x=> .need [123] (.call (.arms ⟨one x.i,1⟩) fun p=> .need [125] (guard (okK p.ks) (mkP p0 46 [] 0 p.ks.l))))
 | .arms ks=> .ok fun b=>match b with
   |false=> .ret (rK ks)
   |true=> .is [125] fun b=>match b with
   |true=> .ret (rK ks)
   |false=> .call .arm fun r=>guard (okK ks) (.tail (.arms (push ks r.i)))
 | .arm=> .pos fun p0=> .call .pattern fun x=> .need [61,62] (.is [123] fun b=>match b with
   |true=> .call .block fun y=> .node p0 ⟨47,[],0,two x.i y.i⟩ fun i=> .take [44] fun _=> .ret (rI i)
   |false=> .call (.expr false) fun y=> .node p0 ⟨47,[],0,two x.i y.i⟩ fun i=> .is [125] fun b=>match b with
    |true=> .ret (rI i)
    |false=> .need [44] (.ret (rI i)))
 | .pattern=> .pos fun p=>e0g 112 (.patterned p)
 | .patterned fr=> .take [95] fun b=>match b with
   |true=>mkP fr 50 [] 0 []
   |false=> .take [116,114,117,101] fun b=>match b with
   |true=>mkP fr 53 [] 1 []
   |false=> .take [102,97,108,115,101] fun b=>match b with
   |true=>mkP fr 53 [] 0 []
   |false=> .is [45] fun b=>match b with
   |true=>g4k fr
   |false=> .kind 3 fun b=>match b with
   |true=>g4k fr
   |false=> .name fun t=> .take [58,58] fun b=>match b with
   |false=>mkP fr 51 t 0 []
   |true=> .name fun u=> .take [40] fun b=>match b with
   |false=>mkP fr 54 (t++[58,58]++u) 0 []
   |true=> .call .pattern fun r=> .need [41] (mkP fr 54 (t++[58,58]++u) 0 (one r.i))
 | .expr bare=>e0g 101 (.row 0 bare)
 | .row r bare=>match decide (r=5)with
   |true=> .call (.prefix_ bare) .ret
   |false=> .pos fun p=> .call (.row (w (r+1)) bare) fun a=> .call (.rows r bare p a.i) fun a=> .ret (rI a.i)
 | .rows r bare fr a=> .ok fun b=>match b with
   |false=> .ret (rI a)
   |true=> .sign r fun g=>match(!decide (g=[]))with
   |false=> .ret (rI a)
   |true=> .adv (.call (.row (w (r+1)) bare) fun b=> .node fr ⟨38,g,0,two a b.i⟩ fun i=>match decide (r=2)with
    |true=> .ret (rI i)
    |false=> .tail (.rows r bare fr i))
 | .operand bare=>e0g 101 (.prefix_ bare)
 | .prefix_ bare=> .pos fun p=> .take [45] fun b=>match b with
   |true=> .call (.operand bare) fun r=>mkP p 39 [] 0 (one r.i)
   |false=> .take [33] fun b=>match b with
   |true=> .call (.operand bare) fun r=>mkP p 40 [] 0 (one r.i)
   |false=> .take [42] fun b=>match b with
   |true=> .call (.operand bare) fun r=>mkP p 42 [] 0 (one r.i)
   |false=> .take [38] fun b=>match b with
   |true=> .take [109,117,116] fun b=>match b with
    |true=> .call (.operand bare) fun r=>mkP p 43 [] 1 (one r.i)
    |false=> .call (.operand bare) fun r=>mkP p 43 [] 0 (one r.i)
   |false=> .call (.postfix_ bare) .ret
 | .postfix_ bare=> .pos fun p=> .call (.primary bare) fun a=> .call (.gets p a.i) fun a=> .ret (rI a.i)
 | .gets fr a=> .take [46] fun b=>match b with
   |false=> .ret (rI a)
   |true=> .name fun t=> .node fr ⟨41,t,0,one a⟩ fun i=> .tail (.gets fr i)
 | .primary bare=> .ok fun b=>match b with
   |false=> .dead
   |true=> .pos fun p=> .kind 3 fun b=>match b with
   |true=> .val fun v=> .adv (mkP p 30 [] v [])
   |false=> .take [116,114,117,101] fun b=>match b with
   |true=>mkP p 31 [] 1 []
   |false=> .take [102,97,108,115,101] fun b=>match b with
   |true=>mkP p 31 [] 0 []
   |false=> .take [40] fun b=>match b with
   |true=> .take [41] fun b=>match b with
    |true=>mkP p 32 [] 0 []
    |false=> .call (.expr false) fun r=> .need [41] (.ret (rI r.i))
   |false=> .take [66,111,120] fun b=>match b with
   |true=> .need [58,58] (.ok fun b=>match b with
    |true=> .kind 1 fun b=>match b with
     |false=> .fail (newP p)
     |true=> .text [110,101,119] fun b=>match b with
      |false=> .fail (newP p)
      |true=>newP p
    |false=>newP p)
   |false=> .is [105,102] fun b=>match b with
   |true=> .call .branch .ret
   |false=> .is [109,97,116,99,104] fun b=>match b with
   |true=> .call .branch .ret
   |false=> .is [123] fun b=>match b with
   |true=> .call .branch .ret
   |false=> .call (.named p bare) .ret
 | .named fr bare=> .name fun t=> .take [40] fun b=>match b with
   |true=> .call (.args K.o) fun p=> .need [41] (guard (okK p.ks) (mkP fr 34 t 0 p.ks.l))
   |false=>match bare with
    |true=>e5u fr t
    |false=> .take [123] fun b=>match b with
     |true=> .call (.inits K.o) fun p=> .need [125] (guard (okK p.ks) (mkP fr 35 t 0 p.ks.l))
     |false=>e5u fr t
 | .args ks=>rowP [41] (.expr false) ks .args
 | .inits ks=>rowP [125] .init ks .inits
 | .init=> .pos fun p=> .name fun t=> .need [58] (.call (.expr false) fun r=>mkP p 36 t 0 (one r.i))
section
variable (l:List TokQ) (go:Q->PS->M)
theorem run_mk (fr:Int) (k:Int) (t:S) (v:Int) (ks:List D) (s:PS):a8t l go (mkP fr k t v ks) s=mk l fr k t v ks s:=by
 unfold mkP mk ret
 simp only[a8t]
 cases a2y l fr ⟨k,t,v,ks⟩ s<;>rfl
end
end Go.Vm.Pa
namespace Go.Vm.Pa
open Go.Vm.Lex (TokQ)
section
variable (l:List TokQ) (go:Q->PS->M)
theorem run_end (fr:Int) (n:N) (s:PS):a8t l go (endP fr n) s=b1i l fr n s:=by
 unfold endP b1i
 simp only[a8t]
 cases a2y l fr n s<;>rfl
theorem g6i (fr:Int) (n:N) (s:PS):b4n l fr n s=b1i l fr n s:=by
 unfold b4n b1i
 cases a2y l fr n s<;>rfl
theorem d9z (x:S) (q:Q) (ks:K) (k:K->Q) (s:PS):a8t l go (rowP x q ks k) s=(match okB s with
    |false=>some (rK ks,s)
    |true=>match isS l s x with
    |true=>some (rK ks,s)
    |false=>match cl l go q s with
    |none=>none
    |some (r,s1)=>match okK ks with
    |false=>none
    |true=>match a1o l [44] s1 with
    |(true,s2)=>go (k (push ks r.i)) s2
    |(false,s2)=>some (rK (push ks r.i),s2)):=by
  unfold rowP
  simp only[a8t]
  repeat' (first|rfl|contradiction|(split<;>simp_all only[a8t,guard])|fail)
theorem e2h (q:Q) (s:PS):step l go q s=a8t l go (prog q) s:=by
 cases q
 case fields k ks=>
  simp only[step,prog]
  by_cases c:k=3
  ·subst c
   simp only[d9z,decide_true]
   repeat' (first|rfl|contradiction|(split<;>simp_all only[a8t,guard])|fail)
  ·simp only[d9z,decide_eq_false c]
   repeat' (first|rfl|contradiction|(split<;>simp_all only[a8t,guard])|fail)
 all_goals(
   simp only[step,prog,deeper,g6i,step.numS,step.newS,step.pickS,e0g,g4k,newP,e5u,d9z,guard,a8t,run_mk,run_end]
   repeat' (first|rfl|contradiction|(split<;>simp_all only[a8t,guard,run_mk,run_end,g4k,newP,e5u,b4v,Bool.not_eq_eq_eq_not,Bool.not_true,Bool.not_false,if_true,if_false])|fail))
end
end Go.Vm.Pa
namespace Go.Vm.Pa
open Go.Vm.Lex (TokQ)
inductive EX where
 |ok (r:R) (s:PS)
 |bad (c f e:Int)
section
variable (l:List TokQ) (go:Q->PS->Option EX)
def e7d (c:Int) (s:PS):Option EX:=some (.bad c (now l s).f (now l s).e)
def a0c:Pr->PS->Option EX
 | .ret r,s=>some (.ok r s)
 | .dead,_=>none
 | .take x k,s=>match isS l s x with|true=>a0c (k true) (adv s)|false=>a0c (k false) s
 | .need x k,s=>match isS l s x with|true=>a0c k (adv s)|false=>e7d l 120 s
 | .name k,s=>match decide ((now l s).k=1)with|true=>a0c (k (now l s).t) (adv s)|false=>e7d l 120 s
 | .is x k,s=>a0c (k (isS l s x)) s
 | .ok k,s=>a0c (k true) s
 | .kind c k,s=>a0c (k (decide ((now l s).k=c))) s
 | .text x k,s=>a0c (k (decide ((now l s).t=x))) s
 | .val k,s=>a0c (k (now l s).v) s
 | .sign r k,s=>a0c (k (b7v l r s)) s
 | .into c k,s=>match a1w l c s with
   |true=>(match decide (100<=s.deep)with|true=>e7d l 121 s|false=>a0c (k true) (a3t s))
   |false=>e7d l 120 s
 | .down k,s=>a0c k (down s)
 | .adv k,s=>match okS l (adv s)with|true=>a0c k (adv s)|false=>none
 | .node fr n k,s=>match a2y l fr n s with|some (i,s1)=>a0c (k i) s1|none=>none
 | .unit k,s=>match b4v l s with|some (i,s1)=>a0c (k i) s1|none=>none
 | .fail k,s=>e7d l 120 s
 | .pos k,s=>a0c (k s.at_) s
 | .call q k,s=>match go q s with|some (.ok r s1)=>(match okS l s1 with|true=>a0c (k r) s1|false=>none)|x=>x
 | .tail q,s=>go q s
end
def goE (l:List TokQ):Nat->Q->PS->Option EX
 |0,_,_=>none
 |n+1,q,s=>a0c l (goE l n) (prog q) s
def b9x (s s':PS):Prop:=s'.bc=s.bc/\s'.bf=s.bf/\s'.be=s.be
theorem b9x.rfl' {s:PS}:b9x s s:=⟨rfl,rfl,rfl⟩
theorem b9x.trans {s s1 s2:PS} (h:b9x s s1) (h':b9x s1 s2):b9x s s2:=⟨h'.1.trans h.1,h'.2.1.trans h.2.1,h'.2.2.trans h.2.2⟩
section
variable {l:List TokQ}
theorem c2k {s:PS} (h:s.bc=0):okB s=true:=by simp[okB,h]
theorem b8f {s:PS} (h:s.bc≠0):okB s=false:=by simp[okB,h]
theorem e0o {s:PS} (h:s.bc≠0) (c:Int):a2h l c s=s:=by unfold a2h;rw[b8f h];rfl
theorem c6o {s:PS} (h:s.bc=0) (c:Int):a2h l c s={s with bc:=c,bf:=(now l s).f,be:=(now l s).e }:=by unfold a2h;rw[c2k h];rfl
theorem d6i {fr:Int} {n:N} {s s1:PS} {i:Int} (h:a2y l fr n s=some (i,s1)):b9x s s1:=by
 unfold a2y at h
 split at h
 ·cases h;exact b9x.rfl'
 ·cases h
theorem d6p {s s1:PS} {i:Int} (h:b4v l s=some (i,s1)):b9x s s1:=by
 unfold b4v at h
 split at h
 ·cases h;exact b9x.rfl'
 ·cases h
theorem g5s {s:PS} (h:s.bc≠0) (c:Int):b3k l c s=(false,a3t s):=by
 have e1:a8r l c s=s:=by unfold a8r;rw[b8f h];rfl
 have e2:b2f l s=s:=by unfold b2f;rw[b8f h];rfl
 have e3:okB (a3t s)=false:=b8f h
 unfold b3k;rw[e1,e2,e3]
theorem c8w {go:Q->PS->M} (hg:∀ q s r s',go q s=some (r,s')->s.bc≠0->b9x s s'):∀ (p:Pr) (s:PS) (r:R) (s':PS),a8t l go p s=some (r,s')->s.bc≠0->b9x s s':=by
 intro p
 induction p with
 |ret r=>intro s r s' h hn;cases h;exact b9x.rfl'
 |dead=>intro s r s' h;cases h
 |take x k ih=>
  intro s r s' h hn
  simp only[a8t,a1o,b8f hn,Bool.false_and]at h
  exact ih _ _ _ _ h hn
 |need x k ih=>
  intro s r s' h hn
  simp only[a8t,a2i,b8f hn,Bool.false_and,e0o hn]at h
  exact ih _ _ _ h hn
 |name k ih=>
  intro s r s' h hn
  simp only[a8t,a3j,b8f hn,Bool.false_and,e0o hn]at h
  exact ih _ _ _ _ h hn
 |is x k ih=>intro s r s' h hn;exact ih _ _ _ _ h hn
 |ok k ih=>intro s r s' h hn;exact ih _ _ _ _ h hn
 |kind c k ih=>intro s r s' h hn;exact ih _ _ _ _ h hn
 |text c k ih=>intro s r s' h hn;exact ih _ _ _ _ h hn
 |val k ih=>intro s r s' h hn;exact ih _ _ _ _ h hn
 |sign c k ih=>intro s r s' h hn;exact ih _ _ _ _ h hn
 |into c k ih=>
  intro s r s' h hn
  simp only[a8t,g5s hn]at h
  have:=ih _ (a3t s) _ _ h hn
  exact this
 |down k ih=>
  intro s r s' h hn
  have:=ih (down s) _ _ h hn
  exact this
 |adv k ih=>
  intro s r s' h hn
  simp only[a8t]at h
  split at h
  ·have:=ih (adv s) _ _ h hn
   exact this
  ·cases h
 |node fr n k ih=>
  intro s r s' h hn
  simp only[a8t]at h
  split at h
  ·rename_i i s1 h1
   have e:=d6i h1
   exact e.trans (ih _ _ _ _ h (by rw[e.1];exact hn))
  ·cases h
 |unit k ih=>
  intro s r s' h hn
  simp only[a8t]at h
  split at h
  ·rename_i i s1 h1
   have e:=d6p h1
   exact e.trans (ih _ _ _ _ h (by rw[e.1];exact hn))
  ·cases h
 |fail k ih=>intro s r s' h hn;simp only[a8t,e0o hn]at h;exact ih _ _ _ h hn
 |pos k ih=>intro s r s' h hn;exact ih _ _ _ _ h hn
 |call q k ih=>
  intro s r s' h hn
  simp only[a8t]at h
  split at h
  ·rename_i a s1 h1
   unfold cl at h1
   split at h1
   ·rename_i b s2 h2
    split at h1
    ·cases h1
     have e:=hg _ _ _ _ h2 hn
     exact e.trans (ih _ _ _ _ h (by rw[e.1];exact hn))
    ·cases h1
   ·cases h1
  ·cases h
 |tail q=>intro s r s' h hn;exact hg _ _ _ _ h hn
theorem e3j:∀ (n:Nat) (q:Q) (s:PS) (r:R) (s':PS),go l n q s=some (r,s')->s.bc≠0->b9x s s'
 |0,_,_,_,_,h,_=>by cases h
 |n+1,q,s,r,s',h,hn=>by
  rw[show go l (n+1) q s=step l (go l n) q s from rfl,e2h]at h
  exact c8w (fun q s r s'=>e3j n q s r s') _ _ _ _ h hn
def Alike (r:R) (s':PS) (x:Option EX):Prop:=(s'.bc=0->x=some (.ok r s'))/\(s'.bc≠0->x=some (.bad s'.bc s'.bf s'.be))
theorem f0t {go:Q->PS->M} {gE:Q->PS->Option EX} (hk:∀ q s r s',go q s=some (r,s')->s.bc≠0->b9x s s') (hg:∀ q s r s',go q s=some (r,s')->s.bc=0->Alike r s' (gE q s)):
 ∀ (p:Pr) (s:PS) (r:R) (s':PS),a8t l go p s=some (r,s')->s.bc=0->Alike r s' (a0c l gE p s):=by
 have dead:∀ {p:Pr} {s:PS} {c f e:Int} {r:R} {s':PS},c≠0->a8t l go p {s with bc:=c,bf:=f,be:=e }=some (r,s')->Alike r s' (some (.bad c f e)):=by
  intro p s c f e r s' hc h
  obtain⟨h1,h2,h3⟩:=c8w hk _ _ _ _ h hc
  simp only at h1 h2 h3
  exact⟨fun h0=>absurd (h1.symm.trans h0) hc,fun _=>by rw[h1,h2,h3]⟩
 intro p
 induction p with
 |ret r=>intro s r s' h hn;cases h;exact⟨fun _=>rfl,fun h=>absurd hn h⟩
 |dead=>intro s r s' h;cases h
 |take x k ih=>
  intro s r s' h hn
  simp only[a8t,a1o,c2k hn,Bool.true_and]at h
  simp only[a0c]
  cases hi:isS l s x with
  |true=>rw[hi]at h;exact ih _ _ _ _ h hn
  |false=>rw[hi]at h;exact ih _ _ _ _ h hn
 |need x k ih=>
  intro s r s' h hn
  simp only[a8t,a2i,c2k hn,Bool.true_and]at h
  simp only[a0c]
  cases hi:isS l s x with
  |true=>rw[hi]at h;exact ih _ _ _ h hn
  |false=>rw[hi]at h;simp only[c6o hn]at h;exact dead om h
 |name k ih=>
  intro s r s' h hn
  simp only[a8t,a3j,c2k hn,Bool.true_and]at h
  simp only[a0c]
  cases hi:decide ((now l s).k=1)with
  |true=>rw[hi]at h;exact ih _ _ _ _ h hn
  |false=>rw[hi]at h;simp only[c6o hn]at h;exact dead om h
 |is x k ih=>intro s r s' h hn;exact ih _ _ _ _ h hn
 |ok k ih=>intro s r s' h hn;simp only[a8t,c2k hn]at h;exact ih _ _ _ _ h hn
 |kind c k ih=>intro s r s' h hn;exact ih _ _ _ _ h hn
 |text c k ih=>intro s r s' h hn;exact ih _ _ _ _ h hn
 |val k ih=>intro s r s' h hn;exact ih _ _ _ _ h hn
 |sign c k ih=>intro s r s' h hn;exact ih _ _ _ _ h hn
 |into c k ih=>
  intro s r s' h hn
  simp only[a8t]at h
  simp only[a0c]
  cases hb:a1w l c s with
  |false=>
   have e1:a8r l c s=a2h l 120 s:=by unfold a8r;rw[c2k hn,hb];rfl
   rw[c6o hn]at e1
   have e2:b2f l (a8r l c s)=a8r l c s:=by unfold b2f;rw[b8f (by rw[e1];simp)];rfl
   have e3:okB (a3t (a8r l c s))=false:=b8f (by rw[e1];simp[a3t])
   simp only[b3k,e2,e3]at h
   rw[e1]at h
   exact dead (s:=a3t s) om h
  |true=>
   have e1:a8r l c s=s:=by unfold a8r;rw[hb];simp
   cases hd:decide (100<=s.deep)with
   |true=>
    have e2:b2f l s=a2h l 121 s:=by unfold b2f;rw[c2k hn,hd];rfl
    rw[c6o hn]at e2
    have e3:okB (a3t (b2f l s))=false:=b8f (by rw[e2];simp[a3t])
    simp only[b3k,e1,e3]at h
    rw[e2]at h
    exact dead (s:=a3t s) om h
   |false=>
    have e2:b2f l s=s:=by unfold b2f;rw[hd];simp
    have e3:okB (a3t s)=true:=c2k hn
    simp only[b3k,e1,e2,e3]at h
    exact ih _ _ _ _ h hn
 |down k ih=>intro s r s' h hn;exact ih _ _ _ h hn
 |adv k ih=>
  intro s r s' h hn
  simp only[a8t]at h
  simp only[a0c]
  cases ho:okS l (adv s)with
  |true=>rw[ho]at h;exact ih _ _ _ h hn
  |false=>rw[ho]at h;cases h
 |node fr n k ih=>
  intro s r s' h hn
  simp only[a8t]at h
  simp only[a0c]
  cases h1:a2y l fr n s with
  |none=>rw[h1]at h;cases h
  |some p=>obtain⟨i,s1⟩:=p;rw[h1]at h;exact ih _ _ _ _ h (by rw[(d6i h1).1];exact hn)
 |unit k ih=>
  intro s r s' h hn
  simp only[a8t]at h
  simp only[a0c]
  cases h1:b4v l s with
  |none=>rw[h1]at h;cases h
  |some p=>obtain⟨i,s1⟩:=p;rw[h1]at h;exact ih _ _ _ _ h (by rw[(d6p h1).1];exact hn)
 |fail k ih=>intro s r s' h hn;simp only[a8t,c6o hn]at h;exact dead om h
 |pos k ih=>intro s r s' h hn;exact ih _ _ _ _ h hn
 |call q k ih=>
  intro s r s' h hn
  simp only[a8t]at h
  simp only[a0c]
  unfold cl at h
  cases h2:go q s with
  |none=>rw[h2]at h;cases h
  |some p=>
   obtain⟨a,s1⟩:=p
   have hh:=hg _ _ _ _ h2 hn
   rw[h2]at h
   simp only at h
   cases ho:okS l s1 with
   |false=>rw[ho]at h;cases h
   |true=>
    rw[ho]at h
    simp only[if_true]at h
    by_cases hb:s1.bc=0
    ·rw[hh.1 hb]
     simp only[ho]
     exact ih _ _ _ _ h hb
    ·rw[hh.2 hb]
     obtain⟨h3,h4,h5⟩:=c8w hk _ _ _ _ h hb
     exact⟨fun h0=>absurd (h3.symm.trans h0) hb,fun _=>by rw[h3,h4,h5]⟩
 |tail q=>intro s r s' h hn;exact hg _ _ _ _ h hn
theorem d2f:∀ (n:Nat) (q:Q) (s:PS) (r:R) (s':PS),go l n q s=some (r,s')->s.bc=0->Alike r s' (goE l n q s)
 |0,_,_,_,_,h,_=>by cases h
 |n+1,q,s,r,s',h,hn=>by
  rw[show go l (n+1) q s=step l (go l n) q s from rfl,e2h]at h
  exact f0t (fun q s r s'=>e3j n q s r s') (fun q s r s'=>d2f n q s r s') _ _ _ _ h hn
end
end Go.Vm.Pa
namespace Go.Vm
set_option maxHeartbeats 1000000
abbrev a2v:=Nat->List V->Hp->D->Prop
def b2g (P:Program) (cx:Cx) (K:Hp->Prop) (pay:D->Value) (f:Nat) (args:List V) (H:Hp) (x:D):Prop:=
 (∃ fn,P.funcs[f]? =some fn/\fn.body.isNone=false/\(fn.name== "runtime.NumGoroutine")=false)/\
 ∀ g w (cargs:Array Value),Inv cx g H w->a0w g H args cargs.toList->a0z H.length args=true->
  Calls P f cargs w (fun e w'=> ∃ g' H',e= .panicked [{v:=pay x,recovered:=false }]/\Inv cx g' H' w'/\K H'/\Ext H.length g H w g' H' w')
def b2l (P:Program) (cx:Cx) (K:Hp->Prop) (pay:D->Value) (dd:a2v):Prop:=∀ f args H x,dd f args H x->b2g P cx K pay f args H x
def e7f (cx:Cx) (K:Hp->Prop) (pay:D->Value) (dl:List Deferred) (nb:Nat) (g:Gh) (H:Hp) (w:World) (x:D) (Q:Exit->Act->World->Prop):Prop:=
 ∀ g' H' (a':Act) w',a'.defers=dl->Inv cx g' H' w'->K H'->Ext nb g H w g' H' w'->Q (.panic [{v:=pay x,recovered:=false }]) a' w'
def a5w (cx:Cx) (dd:a2v) (e:Env) (H:Hp) (o:a0a) (x:D):Prop:=match o.guard with
 |some _=>False
 |none=>match o.op with
  | .call f args=>dd f (args.map fun x=>toArg H (evO cx e x)) H x
  | .callv f args=>match evO cx e f with
    | .fn f c=>dd f (args.map (fun x=>toArg H (evO cx e x))++c) H x
    | .fm f a=>dd f (a++args.map (fun x=>toArg H (evO cx e x))) H x
    |_=>False
  |_=>False
def c7w (ts:List Nat):List a0a->Bool
 |[]=>true
 |o::r=>(o.names.any ts.contains) && c7w (o.dst.toList++ts) r
structure DieZ (cx:Cx) (orc:Orc) (m:Nat) (ops:List a0a) (s:St) (d a ta:Nat) (z:List V) (od:a0a) (cl:Nat->Bool) (ε:Nat->Env) (val:Nat->V) (Hz:Bool->Hp):Prop where
 ld:d < m
 la:a < m
 le:m<=ops.length
 odx:ops[d]? =some od
 oax:ops[a]? =some ⟨some ta,.zbox z,none⟩
 cld:cl d=false
 cla:cl a=true
 zero:ε 0=s.e
 hz:∀ y,Hz y=if y then s.h++[.box z] else s.h
 taint:∀ i o,i < m->ops[i]? =some o->cl i=false->i≠d->∃ t,t∈o.names/\∃ n q,n < i/\ops[n]? =some q/\q.dst=some t/\cl n=false
 env:∀ i o,i < m->ops[i]? =some o->ε (i+1)=if cl i then a9r o.dst (val i) (ε i) else ε i
 pur:∀ i o,i < m->ops[i]? =some o->cl i=true->i≠a->b8x o.op=true
 run:∀ i o y,i < m->ops[i]? =some o->cl i=true->i≠a->a0f cx orc o ⟨ε i,Hz y,s.b⟩=some ⟨ε (i+1),Hz y,s.b⟩
 va:val a= .ptr s.h.length 0
inductive a2d (pg:Pg) (dd:a2v):a0e->St->D->Prop
 |reg {i:Nat} {ops:List a0a} {o:a0a} {s s1:St} {x:D}:ops[i]? =some o->a0u pg.toCx (evF pg) (ops.take i) s=some s1->a5w pg.toCx dd s1.e s1.h o x->a2d pg dd (.reg ops) s x
 |draw {m i:Nat} {ops:List a0a} {o:a0a} {s s1:St} {x:D}:i < m->ops[i]? =some o->((ops.take i).all fun o=>b8x o.op)=true->a2c pg.toCx (evF pg) i (ops.take i) s=some s1->
     c7w o.dst.toList ((ops.take m).drop (i+1))=true->a5w pg.toCx dd s1.e s1.h o x->a2d pg dd (.draw m ops) s x
 |drawT {m i:Nat} {ops:List a0a} {o:a0a} {s s1:St} {x:D}:m<=i->ops[i]? =some o->a2c pg.toCx (evF pg) m (ops.take i) s=some s1->a5w pg.toCx dd s1.e s1.h o x->a2d pg dd (.draw m ops) s x
 |drawZ {m:Nat} {ops:List a0a} {s:St} {d a ta:Nat} {z:List V} {od:a0a} {cl:Nat->Bool} {ε:Nat->Env} {val:Nat->V} {Hz:Bool->Hp} {x:D}:DieZ pg.toCx (evF pg) m ops s d a ta z od cl ε val Hz->(∀ y,a5w pg.toCx dd (ε d) (Hz y) od x)->a2d pg dd (.draw m ops) s x
 |seq1 {a b:a0e} {s:St} {x:D}:a2d pg dd a s x->a2d pg dd (.seq a b) s x
 |seq2 {a b:a0e} {s s1:St} {x:D}:ev pg a s=some (.nrm,s1)->a2d pg dd b s1 x->a2d pg dd (.seq a b) s x
 |cond {c:Opd} {t:Bool} {a b:a0e} {s:St} {x:D}:evO pg.toCx s.e c= .d (.bool t)->a2d pg dd (if t then a else b) s x->a2d pg dd (.cond c a b) s x
 |block {i:Nat} {b:a0e} {s:St} {x:D}:a2d pg dd b s x->a2d pg dd (.block i b) s x
 |scope {b:a0e} {s:St} {x:D}:a2d pg dd b s x->a2d pg dd (.scope b) s x
 |loop1 {ks:List Nat} {b:a0e} {s:St} {x:D}:a2d pg dd b ⟨a2e ks s.e,s.h,s.h.length⟩ x->a2d pg dd (.loop ks b) s x
 |loop2 {ks:List Nat} {b:a0e} {s s':St} {x:D}:ev pg b ⟨a2e ks s.e,s.h,s.h.length⟩=some (.nrm,s')->a2d pg dd (.loop ks b) ⟨cut s.h.length (a2e ks s'.e),s'.h.take s.h.length,s.b⟩ x->a2d pg dd (.loop ks b) s x
section
variable {dl:List Deferred} {P:Program} {cx:Cx} {g:Gh} {w:World} {K:Hp->Prop} {pay:D->Value}
theorem c6l {o:Op} {f:Nat} {args:List Opd} {q:Opd} (h:b4q P o=some (.call f args)\/b4q P o=some (.callv q args)):
 ∃ c,o= .call c/\b3n c.args.toList=some args/\((c.callee= .value (.func f)/\b4q P o=some (.call f args))\/∃ t,c.callee= .value (.tmp t)/\q= .t t/\b4q P o=some (.callv q args)):=by
 have h0:=h
 unfold b4q at h
 split at h
 case h_28 c=>
  split at h
  ·rename_i f' hc
   rcases h with h|h
   ·obtain⟨l,hl,he⟩:=Option.map_eq_some_iff.1 h
    cases he
    refine⟨_,rfl,hl,.inl ⟨hc,?_⟩⟩
    unfold b4q;simp only[hc,hl,Option.map_some]
   ·obtain⟨l,hl,he⟩:=Option.map_eq_some_iff.1 h
    cases he
  ·rename_i t hc
   rcases h with h|h
   ·obtain⟨l,hl,he⟩:=Option.map_eq_some_iff.1 h
    cases he
   ·obtain⟨l,hl,he⟩:=Option.map_eq_some_iff.1 h
    cases he
    refine⟨_,rfl,hl,.inr ⟨t,hc,rfl,?_⟩⟩
    unfold b4q;simp only[hc,hl,Option.map_some]
  all_goals(exfalso;repeat' split at h)
  all_goals simp_all
 all_goals(exfalso;repeat' split at h)
 all_goals simp_all
theorem e8j {dd:a2v} (hD:b2l P cx K pay dd) {nb:Nat} {H:Hp} (hI:Inv cx g H w) (hnb:nb<=H.length) {f:Nat} {args:List V} {cargs:Array Value} {x:D} (h:dd f args H x) (ra:a0w g H args cargs.toList) (ua:a0z H.length args=true)
 {o:Oper} {a:Act} (hrun:(execOp a.eval o).run P w=(callFunc f cargs).run P w) (hdl:a.defers=dl) {Kk:Act->World->Prop} {Q:Exit->Act->World->Prop} (hq:e7f cx K pay dl nb g H w x Q):o.wp P a w Kk Q:=by
 obtain⟨⟨fn,h1,h2,h3⟩,h4⟩:=hD f args H x h
 unfold Oper.wp
 rw[hrun,a8b h1 h2 h3,Oper.upon_enter]
 refine(h4 g w cargs hI ra ua).mono fun e w' he=>?_
 obtain⟨g',H',rfl,i1,i2,i3⟩:=he
 exact hq g' H' a w' hdl i1 i2 (i3.le hnb)
theorem c2e {dd:a2v} (hD:b2l P cx K pay dd) {N:Nat} {ops:Array Oper} {i:Nat} {co:Oper} (hi:ops[i]? =some co) {o:a0a} (ht:c2o P ops co=some o) (hok:o.okN N=true) {s:St} {x:D} (h:a5w cx dd s.e s.h o x) {a:Act} (ok:a1a dl cx N g s a w)
 {Q:Exit->Act->World->Prop} {Kk:Act->World->Prop} (hq:e7f cx K pay dl s.b g s.h w x Q):wpOp P ops Q i Kk a w:=by
 obtain⟨h1,h2,h3⟩:=b5l ht
 obtain⟨k1,k2,k3⟩:=c2l hok
 unfold a5w at h
 have hg:co.guard=none:=by
  rcases h3 with⟨g1,_⟩|⟨j,b,sl,_,_,g3⟩
  ·exact g1
  ·rw[g3]at h;exact h.elim
 have hg':o.guard=none:=by
  rcases h3 with⟨_,g2⟩|⟨j,b,sl,_,_,g3⟩
  ·exact g2
  ·rw[g3]at h;exact h.elim
 rw[hg']at h
 simp only at h
 unfold wpOp
 simp only[hi]
 rw[if_pos (by simp[Region.wanted,hg])]
 left
 have ht0:∀ v,o.op=v->v≠ .no->(∀ a b c,v≠ .blit a b c)->b4q P co.op=some v:=by
  intro v hv hn hnl
  obtain⟨v0,h1,h2|⟨_,_,_,_,h2⟩⟩:=h1
  rotate_left
  ·exact absurd (hv.symm.trans h2) (hnl _ _ _)
  subst h2
  unfold g6h at h1
  cases hh:b4q P co.op with
  |none=>rw[hh]at h1;simp only[Option.getD_none,Option.some.injEq]at h1;exact absurd (h1.trans hv).symm hn
  |some q=>rw[hh]at h1;simp only[Option.getD_some,Option.some.injEq]at h1;rw[h1,hv]
 cases hop:o.op with
 |call f args=>
  rw[hop]at h k2
  simp only at h
  obtain⟨c,hc,hvs,hcc⟩:=c6l (q:= .t 0) (.inl (ht0 _ hop (by simp) (by simp)))
  rcases hcc with⟨hcal,_⟩|⟨t,hcal,_,hbad⟩
  ·obtain⟨callee,ar,at'⟩:=c
   simp only at hvs hcal
   subst hcal
   simp only[VOp.a6h]at k2
   obtain⟨r1,r2⟩:=b8o (a:=a) ok.inv ok.env hvs k2
   have r1':=a6i ok.inv r1
   have r2':=b4u (H:=s.h) r2
   simp only[List.map_map,Function.comp_def]at r1' r2'
   have hrun:(execOp a.eval co).run P w=(callFunc f (ar.map a.eval)).run P w:=by
    simp[execOp,hc,resolve,Act.eval,Deferred.ofValue,invoke]
   exact e8j hD ok.inv ok.base h (by simpa using r1') r2' hrun ok.defers hq
  ·rw[ht0 _ hop (by simp) (by simp)]at hbad;cases hbad
 |callv q args=>
  rw[hop]at h k2
  simp only at h
  obtain⟨c,hc,hvs,hcc⟩:=c6l (f:=0) (.inr (ht0 _ hop (by simp) (by simp)))
  rcases hcc with⟨hcal,hbad⟩|⟨t,hcal,rfl,_⟩
  ·rw[ht0 _ hop (by simp) (by simp)]at hbad;cases hbad
  ·obtain⟨callee,ar,at'⟩:=c
   simp only at hvs hcal
   subst hcal
   simp only[VOp.a6h,List.all_cons,Bool.and_eq_true]at k2
   obtain⟨f1,f2⟩:=a0x (a:=a) (x:= .tmp t) ok.inv ok.env rfl k2.1
   obtain⟨r1,r2⟩:=b8o (a:=a) ok.inv ok.env hvs k2.2
   have r1':=a6i ok.inv r1
   have r2':=b4u (H:=s.h) r2
   simp only[List.map_map,Function.comp_def]at r1' r2'
   split at h
   ·rename_i f c hv
    rw[hv]at f1 f2
    simp only[Rep]at f1
    obtain⟨cs,hx,hcs⟩:=f1
    have hrun:(execOp a.eval co).run P w=(callFunc f (ar.map a.eval++cs)).run P w:=by
     simp[execOp,hc,resolve,hx,Deferred.ofValue,invoke]
    refine e8j hD ok.inv ok.base h ?_ (a5q r2' (by simpa only[V.und] using f2)) hrun ok.defers hq
    have:=a7v r1' hcs
    simpa using this
   ·rename_i f c hv
    rw[hv]at f1 f2
    simp only[Rep]at f1
    obtain⟨cs,hx,hcs⟩:=f1
    have hrun:(execOp a.eval co).run P w=(callFunc f (cs++ar.map a.eval)).run P w:=by
     simp[execOp,hc,resolve,hx,Deferred.ofValue,invoke]
    refine e8j hD ok.inv ok.base h ?_ (a5q (by simpa only[V.und] using f2) r2') hrun ok.defers hq
    have:=a7v hcs r1'
    simpa using this
   ·exact h.elim
 |_=>rw[hop]at h;exact h.elim
theorem e1k {dd:a2v} (hD:b2l P cx K pay dd) {orc:Orc} (hS:b7r P cx orc) {N:Nat} {ops:Array Oper}:∀ (l:List Oper) (i:Nat) (vs:List a0a),ops.toList.drop i=l->a1m P ops l=some vs->vs.all (a0a.okN N)=true->∀ {k:Nat} {o:a0a},vs[k]? =some o->∀ {g:Gh} {w:World} {s s':St} {x:D},a0u cx orc (vs.take k) s=some s'->a5w cx dd s'.e s'.h o x->∀ {a:Act},a1a dl cx N g s a w->
 ∀ {Q:Exit->Act->World->Prop},e7f cx K pay dl s.b g s.h w x Q->Go.wpOps P ops Q (List.range' i l.length) a w
 |[],i,vs,_,ht,_,k,o,ho,g,w,s,s',x,h,hd,a,ok,Q,hq=>by
  simp only[a1m,Option.some.injEq]at ht
  subst ht
  simp at ho
 |co::l,i,vs,hl,ht,hok,k,o,ho,g,w,s,s',x,h,hd,a,ok,Q,hq=>by
  simp only[a1m]at ht
  split at ht
  ·rename_i v vs' hv hvs
   simp only[Option.some.injEq]at ht
   subst ht
   simp only[List.all_cons,Bool.and_eq_true]at hok
   have hi:ops[i]? =some co:=by
    have:=congrArg (·[0]?) hl
    simpa using this
   have hl':ops.toList.drop (i+1)=l:=by rw[<-List.drop_drop,hl];rfl
   simp only[List.length_cons,List.range'_succ]
   rw[Go.wpOps_cons]
   cases k with
   |zero=>
    simp only[List.getElem?_cons_zero,Option.some.injEq]at ho
    subst ho
    simp only[List.take_zero,a0u,Option.some.injEq]at h
    subst h
    exact c2e hD hi hv hok.1 hd ok hq
   |succ k=>
    simp only[List.getElem?_cons_succ]at ho
    simp only[List.take_succ_cons,a0u]at h
    cases h1:a0f cx orc v s with
    |none=>rw[h1]at h;cases h
    |some s1=>
     rw[h1]at h
     simp only[Option.bind_some]at h
     refine a3g hS hi hv hok.1 h1 ok fun g' y w' ok' ext'=>?_
     have hb:=a9l h1
     refine e1k hD hS l (i+1) vs' hl' hvs hok.2 ho h hd ok' fun g2 H2 a2 w2 hdl hI2 hK2 ext2=>?_
     exact hq g2 H2 a2 w2 hdl hI2 hK2 (ext'.trans ext2 om)
  ·cases ht
theorem f8a {dd:a2v} (hD:b2l P cx K pay dd) {orc:Orc} (hS:b7r P cx orc) {N:Nat} {ops:Array Oper} {id:Nat} {vs:List a0a} (ht:a1m P ops ops.toList=some vs) (hok:vs.all (a0a.okN N)=true) {k:Nat} {o:a0a} (ho:vs[k]? =some o) {s s':St} {x:D}
 (h:a0u cx orc (vs.take k) s=some s') (hd:a5w cx dd s'.e s'.h o x) {a:Act} (ok:a1a dl cx N g s a w)
 {Q:Exit->Act->World->Prop} (hq:e7f cx K pay dl s.b g s.h w x Q):(Code.region id ops false).wp P Q a w:=by
 apply wp_region
 have:=e1k hD hS ops.toList 0 vs (by simp) ht hok ho h hd ok hq
 simpa [List.range_eq_range'] using this
theorem d0y:∀ {l:List a0a} {ts:List Nat},c7w ts l=true->∀ (k:Nat) (o:a0a),l[k]? =some o->∃ t,t∈o.names/\(t∈ts\/∃ n p,n < k/\l[n]? =some p/\p.dst=some t)
 |[],ts,_,k,o,h=>by simp at h
 |q::l,ts,ht,0,o,h=>by
  simp only[List.getElem?_cons_zero,Option.some.injEq]at h
  subst h
  simp only[c7w,Bool.and_eq_true,List.any_eq_true]at ht
  obtain⟨t,h1,h2⟩:=ht.1
  exact⟨t,h1,.inl (by simpa using h2)⟩
 |q::l,ts,ht,k+1,o,h=>by
  simp only[c7w,Bool.and_eq_true]at ht
  obtain⟨t,h1,h2⟩:=d0y ht.2 k o (by simpa using h)
  refine⟨t,h1,?_⟩
  rcases h2 with h2|⟨n,p,h3,h4,h5⟩
  ·rcases List.mem_append.1 h2 with h2|h2
   ·exact .inr ⟨0,q,om,rfl,by simpa using h2⟩
   ·exact .inl h2
  ·exact .inr ⟨n+1,p,om,by simpa using h4,h5⟩
theorem c7b {dd:a2v} {e e':Env} {H:Hp} {o:a0a} {x:D} (h:∀ t∈o.names,a1l e t=a1l e' t) (hd:a5w cx dd e H o x):a5w cx dd e' H o x:=by
 unfold a5w at hd⊢
 split at hd
 ·exact hd.elim
 ·have ho:∀ y∈o.op.a6h,evO cx e y=evO cx e' y:=fun y hy=>d4i fun t ht=>h t (by
    simp only[a0a.names,List.mem_append,List.mem_flatMap]
    exact .inl (.inr ⟨y,hy,ht⟩))
  cases hop:o.op with
  |call f args=>
   rw[hop]at hd ho
   simp only at hd⊢
   have e2:(args.map fun y=>toArg H (evO cx e y))=args.map fun y=>toArg H (evO cx e' y):=List.map_congr_left fun y hy=>by rw[ho y (by simpa [VOp.a6h] using hy)]
   rw[<-e2]
   exact hd
  |callv f args=>
   rw[hop]at hd ho
   simp only at hd⊢
   have e1:=ho f (by simp[VOp.a6h])
   have e2:(args.map fun y=>toArg H (evO cx e y))=args.map fun y=>toArg H (evO cx e' y):=List.map_congr_left fun y hy=>by rw[ho y (by simp[VOp.a6h,hy])]
   rw[<-e1,<-e2]
   exact hd
  |_=>rw[hop]at hd;exact hd.elim
theorem e8h {dd:a2v} (hD:b2l P cx K pay dd) {orc:Orc} (hS:b7r P cx orc) (hmx:P.follows .mixedOrders=true) {N:Nat} {ops:Array Oper} {id m:Nat} {vs:List a0a} (ht:a1m P ops ops.toList=some vs) (hok:vs.all (a0a.okN N)=true) (hord:b3l ops vs m=true)
 {d:Nat} {o:a0a} (hdm:d < m) (ho:vs[d]? =some o) (hp:((vs.take d).all fun o=>b8x o.op)=true) {s s':St} {x:D} (h:a2c cx orc d (vs.take d) s=some s') (hta:c7w o.dst.toList ((vs.take m).drop (d+1))=true) (hd:a5w cx dd s'.e s'.h o x) {a:Act} (ok:a1a dl cx N g s a w)
 {Q:Exit->Act->World->Prop} (hq:e7f cx K pay dl s.b g s.h w x Q):(Code.region id ops true).wp P Q a w:=by
 have hO:=a5r hord
 have hml:=hO.le
 obtain⟨hlen,hget⟩:=a2t ht
 have hlen':vs.length=ops.size:=by simpa using hlen
 have hdl:d<=(vs.take d).length:=by rw[List.length_take];omega
 obtain⟨τ,val,T,he⟩:=b2w d (vs.take d) s s' hdl h
 have hs':s'=τ d:=by
  rw[List.drop_eq_nil_of_le (by rw[List.length_take];omega)]at he
  simp only[a0u,Option.some.injEq]at he
  exact he.symm
 subst hs'
 have T':Trace cx orc d vs s τ val:=⟨T.zero,fun i p hi hp'=>T.step i p hi (by rw[List.getElem?_take,if_pos hi];exact hp')⟩
 have G:=b7f (N:=N) T' om ok.inv.und fun k hk=>(ok.env.2 k hk).2
 have hh:∀ j,j<=d->(τ j).h=s.h:=by
  intro j
  induction j with
  |zero=>intro _;rw[T'.zero]
  |succ j ih=>
   intro hj
   have hv:vs[j]? =some vs[j]:=List.getElem?_eq_getElem om
   have hpj:=(List.all_eq_true.1 hp) vs[j] (by rw[List.mem_iff_getElem?];exact⟨j,by rw[List.getElem?_take,if_pos om];exact hv⟩)
   rw[c4j hpj (T'.step j vs[j] om hv).1,ih om]
 have hdmm:∀ n o',vs[n]? =some o'->(vs.getD n default).dst=o'.dst:=fun n o' h=>by rw[List.getD_eq_getElem?_getD,h];rfl
 refine wp_region_any hmx ?_
 have hl0:∀ i,lst (Array.replicate ops.size false) i=false:=fun i=>by simp[lst,Array.getD]
 refine b3e ht hO (R:=fun L a' w'=>(∀ k,d<=k->k < m->L k=false)/\∃ g',Dst dl cx N d τ (fun n=>(vs.getD n default).dst) val g s w L g' a' w') (fun listed hs hall hlt a w D=>?_) (fun i co p him i3 hp' hto L L' i2 hL' hLo hA a1 w1 K1 D hk=>?_) ops.size _ (by simp) (b1o ops.size fun i _=>hl0 i).symm (fun i _ h=>by rw[hl0]at h;cases h) (fun i o _ h=>by rw[hl0]at h;cases h) ⟨fun k _ _=>hl0 k,g,?_⟩
 ·have:=D.1 d (Nat.le_refl _) hdm
  rw[hall d hdm]at this;cases this
 ·obtain⟨hL0,g1,D⟩:=D
  have hokp:=(List.all_eq_true.1 hok) p (List.mem_of_getElem? hp')
  rcases Nat.lt_trichotomy i d with hid|hid|hid
  ·refine c6n hS T'.zero (fun n o hn h=>(T'.step n o hn h).2.1) G ok.base hid i3 hp' (T'.step i p hid hp').1 hto hokp (hdmm i p hp') hdmm om i2 hL' hLo (fun t htn=>⟨(hA t htn).1,fun n h1 h2=>(hA t htn).2 n h1 om⟩) D fun g' a' w' D'=>hk a' w' ⟨fun k h1 h2=>by rw[hLo k om];exact hL0 k h1 h2,g',D'⟩
  ·subst hid
   rw[ho]at hp'
   cases hp'
   have hE:∀ n,n<=i->a1s (fun _=>true) (fun n=>(vs.getD n default).dst) val s.e n=(τ n).e:=a6y (by rw[T'.zero]) (fun n hn=>by
     obtain⟨_,q,_⟩:=T'.step n vs[n] hn (List.getElem?_eq_getElem om)
     rw[q,hdmm n _ (List.getElem?_eq_getElem om)]) (fun _ _=>rfl)
   have hname:∀ t∈o.names,a1l (a1s L (fun n=>(vs.getD n default).dst) val s.e i) t=a1l (τ i).e t:=by
     intro t htn
     rw[<-hE i (Nat.le_refl _)]
     exact a2s i fun k h1 h2=>by rw[(hA t htn).1 k h1 h2]
   have hok0:a1a dl cx N g1 ⟨a2e o.names (τ i).e,s.h,s.b⟩ a1 w1:=by
    have hI:=D.inv
    rw[hh i (Nat.le_refl _)]at hI
    refine⟨hI,⟨D.size,fun k hk=>?_⟩,D.defers,ok.base⟩
    rw[a6f]
    by_cases hkn:k∈o.names
    ·rw[if_pos hkn]
     have h1:=D.env k hk
     have h2:=G.und i (Nat.le_refl _) k hk
     rw[hh i (Nat.le_refl _)]at h1 h2
     rw[hname k hkn]at h1
     exact⟨h1,h2⟩
    ·rw[if_neg hkn]
     exact⟨by simp[Rep],rfl⟩
   have hd':a5w cx dd (a2e o.names (τ i).e) s.h o x:=by
    rw[hh i (Nat.le_refl _)]at hd
    exact c7b (fun t htn=>by rw[a6f,if_pos htn]) hd
   refine c2e hD i3 hto hokp hd' hok0 fun g' H' a' w' h1 h2 h3 h4=>?_
   have E:=D.ext
   rw[hh i (Nat.le_refl _)]at E
   exact hq g' H' a' w' h1 h2 h3 (E.trans h4 (Nat.le_refl _))
  ·exfalso
   have hk':((vs.take m).drop (d+1))[i - (d+1)]? =some p:=by
    rw[List.getElem?_drop,show d+1+(i - (d+1))=i by omega,List.getElem?_take,if_pos him];exact hp'
   obtain⟨t,t1,t2⟩:=d0y hta _ _ hk'
   have hbad:∀ n q,d<=n->n < i->vs[n]? =some q->q.dst=some t->False:=by
    intro n q h1 h2 h3 h4
    have:=(hA t t1).1 n h2 (by rw[hdmm n q h3];exact h4)
    rw[hL0 n h1 om]at this;cases this
   rcases t2 with t2|⟨n,q,t3,t4,t5⟩
   ·exact hbad d o (Nat.le_refl _) hid ho (by simpa using t2)
   ·rw[List.getElem?_drop,List.getElem?_take,if_pos om]at t4
    exact hbad (d+1+n) q om om t4 t5
 ·have hI:=ok.inv
  refine⟨by rw[hh d (Nat.le_refl _)];exact hI.drawn _,ok.env.1,fun k hkN=>?_,ok.defers,?_,fun i hi _ id h1 h2=>?_⟩
  ·rw[a6b d fun k _=>hl0 k,hh d (Nat.le_refl _)]
   exact(ok.env.2 k hkN).1
  ·rw[hh d (Nat.le_refl _)]
   exact⟨rfl,rfl,rfl,Nat.le_refl _,fun _ _ _=>⟨rfl,rfl⟩,⟨fun _=>List.prefix_refl _,fun i o _ ho hr=>⟨rfl,o,ho,hr⟩,fun i sz l _ ho=>⟨l,ho,List.prefix_refl _,fun _=>rfl⟩⟩,fun i _ c h _=>⟨i,c,h⟩,fun _ _ h=>h,Nat.le_refl _⟩
  ·rw[hh i om]at h1
   rw[hh (i+1) om]at h2
   omega
theorem e4x {dd:a2v} (hD:b2l P cx K pay dd) {orc:Orc} (hS:b7r P cx orc) (hmx:P.follows .mixedOrders=true) {N:Nat} {ops:Array Oper} {id m:Nat} {vs:List a0a} (ht:a1m P ops ops.toList=some vs) (hok:vs.all (a0a.okN N)=true) (hord:b3l ops vs m=true)
 {s:St} {d z ta:Nat} {zz:List V} {od:a0a} {cl:Nat->Bool} {ε:Nat->Env} {val:Nat->V} {Hz:Bool->Hp} (Z:DieZ cx orc m vs s d z ta zz od cl ε val Hz) {x:D} (hd:∀ y,a5w cx dd (ε d) (Hz y) od x) {a:Act} (ok:a1a dl cx N g s a w)
 {Q:Exit->Act->World->Prop} (hq:e7f cx K pay dl s.b g s.h w x Q):(Code.region id ops true).wp P Q a w:=by
 have hO:=a5r hord
 obtain⟨hlen,hget⟩:=a2t ht
 have hlen':vs.length=ops.size:=by simpa using hlen
 have hml:=hO.le
 have hdm:∀ n o',vs[n]? =some o'->(vs.getD n default).dst=o'.dst:=fun n o' h=>by rw[List.getD_eq_getElem?_getD,h];rfl
 have hE:∀ n,n<=m->a1s cl (fun n=>(vs.getD n default).dst) val s.e n=ε n:=by
   intro n
   induction n with
   |zero=>intro _;exact Z.zero.symm
   |succ n ih=>
    intro hn
    have q:=Z.env n vs[n] om (List.getElem?_eq_getElem om)
    simp only[a1s]
    rw[ih om,q,hdm n _ (List.getElem?_eq_getElem om)]
 have hz0:Hz false=s.h:=by rw[Z.hz];rfl
 have hz1:Hz true=s.h++[.box zz]:=by rw[Z.hz];rfl
 refine wp_region_any hmx ?_
 have hl0:∀ i,lst (Array.replicate ops.size false) i=false:=fun i=>by simp[lst,Array.getD]
 refine b3e ht hO (R:=fun L a w'=>(∀ k,k < m->cl k=false->L k=false)/\∃ g',a1a dl cx N g' ⟨a1s L (fun n=>(vs.getD n default).dst) val s.e m,Hz (L z),s.b⟩ a w'/\Ext s.b g s.h w g' (Hz (L z)) w') ?_ ?_ ops.size _ (by simp) (b1o ops.size fun i _=>hl0 i).symm (fun i _ h=>by rw[hl0]at h;cases h) (fun i o _ h=>by rw[hl0]at h;cases h) ⟨fun k _ _=>hl0 k,?_⟩
 ·rintro listed hs hall hlt a w' ⟨hc,_⟩
  have:=hc d Z.ld Z.cld
  rw[hall d Z.ld]at this;cases this
 ·rintro i co o him i3 ho hto L L' hL hL' hLo hA a w' K' ⟨hc,g',ok',ext'⟩ hk
  have hoki:o.okN N=true:=(List.all_eq_true.1 hok) _ (List.mem_of_getElem? ho)
  have hdo:(vs.getD i default).dst=o.dst:=hdm i o ho
  have hname:∀ t∈o.names,a1l (ε i) t=a1l (a1s L (fun n=>(vs.getD n default).dst) val s.e m) t:=by
    intro t htn
    obtain⟨q1,q2⟩:=hA t htn
    have e1:a1l (a1s L (fun n=>(vs.getD n default).dst) val s.e m) t=a1l (a1s L (fun n=>(vs.getD n default).dst) val s.e i) t:=by
      have:=a4v (L:=L) (dst:=fun n=>(vs.getD n default).dst) (val:=val) (e0:=s.e) (t:=t) (i:=i) (m - i) fun k h1 h2 h3=>by
        by_cases hki:k=i
        ·subst hki;exact hL
        ·exact q2 k om om h3
      rwa [show i+(m - i)=m by omega]at this
    rw[e1,<-hE i om]
    refine a2s i fun k h1 h2=>?_
    rw[q1 k h1 h2]
    cases hcl:cl k with
    |true=>rfl
    |false=>have:=hc k om hcl;rw[q1 k h1 h2]at this;cases this
  by_cases hid:i=d
  ·subst hid
   rw[Z.odx]at ho
   cases ho
   refine c2e hD i3 hto hoki (c7b hname (hd (L z))) ok' fun g2 H2 a2 w2 h1 h2 h3 h4=>?_
   exact hq g2 H2 a2 w2 h1 h2 h3 (ext'.trans h4 (Nat.le_refl _))
  ·cases hcl:cl i with
   |false=>
    exfalso
    obtain⟨t,t1,n,q,t2,t3,t4,t5⟩:=Z.taint i o him ho hcl hid
    have:=(hA t t1).1 n t2 (by rw[hdm n q t3];exact t4)
    rw[hc n om t5]at this
    cases this
   |true=>
    have hval0:=Z.env i o him ho
    rw[hcl,if_pos rfl]at hval0
    have hrun:a0f cx orc o ⟨ε i,Hz (L z),s.b⟩=some ⟨ε (i+1),Hz (L' z),s.b⟩:=by
     by_cases hiz:i=z
     ·subst hiz
      rw[Z.oax]at ho
      cases ho
      rw[hL,hL',hz0,hz1,hval0,Z.va]
      rfl
     ·rw[hLo z (fun e=>hiz e.symm)]
      exact Z.run i o (L z) him ho hcl hiz
    obtain⟨y,hx1,hx2⟩:=a7w (e':=a1s L (fun n=>(vs.getD n default).dst) val s.e m) (s:=⟨ε i,Hz (L z),s.b⟩) hname hrun
    have hval:∀ k,o.dst=some k->val i=y:=by
     intro k hk'
     have e1:=congrArg (a1l · k) (hval0.symm.trans hx1)
     simpa [a2j,hk'] using e1
    refine a3g hS i3 hto hoki hx2 ok' fun g2 yv w2 ok2 ext2=>hk _ _ ⟨fun k hk1 hk2=>?_,g2,?_,ext'.trans ext2 (Nat.le_refl _)⟩
    ·rw[hLo k (by rintro rfl;rw[hcl]at hk2;cases hk2)]
     exact hc k hk1 hk2
    refine⟨ok2.inv,⟨ok2.env.1,fun k hkN=>?_⟩,ok2.defers,ok2.base⟩
    have heq:a1l (a1s L' (fun n=>(vs.getD n default).dst) val s.e m) k=a1l (a9r o.dst y (a1s L (fun n=>(vs.getD n default).dst) val s.e m)) k:=by
      rw[a2j]
      by_cases hd':o.dst=some k
      ·rw[if_pos hd']
       obtain⟨q1,q2⟩:=hA k (a9s hd')
       have:=a4v (L:=L') (dst:=fun n=>(vs.getD n default).dst) (val:=val) (e0:=s.e) (t:=k) (i:=i+1) (m - (i+1)) fun n h1 h2 h3=>by
         rw[hLo n om]
         exact q2 n om om h3
       rw[show i+1+(m - (i+1))=m by omega]at this
       rw[this,a4y,if_pos ⟨hL',hdo.trans hd'⟩]
       exact hval k hd'
      ·rw[if_neg hd']
       exact a2s m fun n h1 h2=>hLo n (by rintro rfl;exact hd' (hdo.symm.trans h2))
    have:=ok2.env.2 k hkN
    rw[heq]
    exact this
 ·refine⟨g,?_,?_⟩
  ·rw[hl0 z,a6b m fun k _=>hl0 k,hz0]
   exact⟨ok.inv.drawn _,ok.env,ok.defers,ok.base⟩
  ·rw[hl0 z,hz0]
   have e:=Ext.refl s.b g s.h w
   exact⟨e.os,e.tape,e.output,e.size,e.frame,e.keep,e.jnew,e.clean,e.len⟩
theorem e8k {dd:a2v} (hD:b2l P cx K pay dd) {orc:Orc} (hS:b7r P cx orc) {N:Nat} {ops:Array Oper} {vs:List a0a} (ht:a1m P ops ops.toList=some vs) (hok:vs.all (a0a.okN N)=true) {m:Nat} (hO:b6a ops vs m)
 {d:Nat} {od:a0a} (hod:vs[d]? =some od) {s':St} {x:D} (hd:a5w cx dd s'.e s'.h od x) {Q:Exit->Act->World->Prop}:∀ (fuel j:Nat),m<=j->j<=d->j+fuel=ops.size->∀ {listed:Array Bool},listed.size=ops.size->(∀ i,i < ops.size->(lst listed i=true↔i < j))->
 ∀ {s:St} {g:Gh} {a:Act} {w:World},a0u cx orc ((vs.take d).drop j) s=some s'->a1a dl cx N g s a w->e7f cx K pay dl s.b g s.h w x Q->wpAny P .any ops Q fuel listed a w:=by
 obtain⟨hlen,hget⟩:=a2t ht
 have hlen':vs.length=ops.size:=by simpa using hlen
 have hds:d < ops.size:=by have:=(List.getElem?_eq_some_iff.1 hod).1;omega
 intro fuel
 induction fuel with
 |zero=>intro j hm hjd hj;omega
 |succ fuel ih=>
  intro j hm hjd hj listed hs hL s g a w he ok hq
  have hjs:j < ops.size:=om
  have hoj:ops[j]? =some ops[j]:=Array.getElem?_eq_getElem hjs
  obtain⟨o,ho,hto⟩:=hget j ops[j] (by simp)
  have hready:j∈Region.ready .any ops listed:=(b0q hs).2 ⟨hjs,by
    cases h:lst listed j with
    |false=>rfl
    |true=>have:=(hL j hjs).1 h;omega,_,hoj,fun e he hb=>by
     have h1:=hO.back j _ hoj e he hb
     exact(hL e.on om).2 h1⟩
  have hback:∀ (i:Nat) (o:Oper),ops[i]? =some o->lst listed i=true->∀ e∈o.after,Region.binds .any e=true->lst listed e.on=true:=by
   intro i o hi hl e he hb
   have h1:=hO.back i o hi e he hb
   have h2:=(Array.getElem?_eq_some_iff.1 hi).1
   have h3:=(hL i h2).1 hl
   exact(hL e.on om).2 om
  refine⟨fun h=>by rw[h]at hready;simp at hready,fun i hi=>?_⟩
  obtain⟨i1,i2,co,i3,i4⟩:=(b0q hs).1 hi
  have hij:i=j:=by
   have hge:j<=i:=Nat.le_of_not_lt fun h=>by rw[(hL i i1).2 h]at i2;cases i2
   refine Nat.le_antisymm (Nat.le_of_not_lt fun h=>?_) hge
   have:=a9v (L:=lst listed) hO.back hback i co i3 i4 j (hO.tail i i1 om j h)
   have:=(hL j hjs).1 this
   omega
  subst hij
  have hoki:o.okN N=true:=(List.all_eq_true.1 hok) _ (List.mem_of_getElem? ho)
  rcases Nat.lt_or_eq_of_le hjd with hlt|heq
  ·have htl:(vs.take d)[i]? =some o:=by rw[List.getElem?_take,if_pos hlt];exact ho
   have hil:i < (vs.take d).length:=(List.getElem?_eq_some_iff.1 htl).1
   rw[List.drop_eq_getElem_cons hil,(List.getElem?_eq_some_iff.1 htl).2]at he
   simp only[a0u]at he
   cases h1:a0f cx orc o s with
   |none=>rw[h1]at he;cases he
   |some s1=>
    rw[h1]at he
    simp only[Option.bind_some]at he
    have hb:=a9l h1
    refine a3g hS hoj hto hoki h1 ok fun g' y w' ok' ext'=>?_
    refine ih (i+1) om om om (by simp[hs]) (fun k hk=>?_) he ok' fun g2 H2 a2 w2 q1 q2 q3 q4=>hq g2 H2 a2 w2 q1 q2 q3 (ext'.trans q4 om)
    by_cases hki:k=i
    ·subst hki;rw[c6c (show k < listed.size by omega)];simp
    ·rw[b9i hki,hL k hk];omega
  ·subst heq
   rw[ho]at hod
   cases hod
   rw[List.drop_eq_nil_of_le (by rw[List.length_take];omega)]at he
   simp only[a0u,Option.some.injEq]at he
   subst he
   exact c2e hD hoj hto hoki hd ok hq
theorem e7a {dd:a2v} (hD:b2l P cx K pay dd) {orc:Orc} (hS:b7r P cx orc) (hmx:P.follows .mixedOrders=true) {N:Nat} {ops:Array Oper} {id m:Nat} {vs:List a0a} (ht:a1m P ops ops.toList=some vs) (hok:vs.all (a0a.okN N)=true) (hord:b3l ops vs m=true)
 {d:Nat} {o:a0a} (hdm:m<=d) (ho:vs[d]? =some o) {s s':St} {x:D} (h:a2c cx orc m (vs.take d) s=some s') (hd:a5w cx dd s'.e s'.h o x) {a:Act} (ok:a1a dl cx N g s a w)
 {Q:Exit->Act->World->Prop} (hq:e7f cx K pay dl s.b g s.h w x Q):(Code.region id ops true).wp P Q a w:=by
 have hO:=a5r hord
 have hml:=hO.le
 obtain⟨hlen,hget⟩:=a2t ht
 have hlen':vs.length=ops.size:=by simpa using hlen
 have hdl:d < vs.length:=(List.getElem?_eq_some_iff.1 ho).1
 obtain⟨τ,val,T0,he⟩:=b2w m (vs.take d) s s' (by rw[List.length_take];omega) h
 have T:Trace cx orc m vs s τ val:=⟨T0.zero,fun i p hi hp'=>T0.step i p hi (by rw[List.getElem?_take,if_pos om];exact hp')⟩
 have G:=b7f (N:=N) T hO.le ok.inv.und fun k hk=>(ok.env.2 k hk).2
 have hdmm:∀ n o',vs[n]? =some o'->(vs.getD n default).dst=o'.dst:=fun n o' h=>by rw[List.getD_eq_getElem?_getD,h];rfl
 refine wp_region_any hmx ?_
 have hl0:∀ i,lst (Array.replicate ops.size false) i=false:=fun i=>by simp[lst,Array.getD]
 obtain⟨l,hl⟩:=G.grow 0 m (Nat.zero_le _) (Nat.le_refl _)
 rw[T.zero]at hl
 have hk:=c4m g s.h l
 rw[<-hl]at hk
 have hout:∀ id,s.h.length<=id->g.J id=none:=fun id hid=>by
   cases hj:g.J id with
   |none=>rfl
   |some p=>have:=(ok.inv.dom id p.1 p.2 hj).1;omega
 refine b3e ht hO (R:=fun L a' w'=> ∃ g',Dst dl cx N m τ (fun n=>(vs.getD n default).dst) val g s w L g' a' w') (fun listed hs hall hlt a w D=>?_) (fun i co p him i3 hp' hto L L' i2 hL' hLo hA a1 w1 K1 D hk=>?_) ops.size _ (by simp) (b1o ops.size fun i _=>hl0 i).symm (fun i _ h=>by rw[hl0]at h;cases h) (fun i o _ h=>by rw[hl0]at h;cases h) ⟨g,?_⟩
 ·obtain⟨g1,D⟩:=D
  have hE:a1s (lst listed) (fun n=>(vs.getD n default).dst) val s.e m=(τ m).e:=a6y (by rw[T.zero]) (fun n hn=>by
    obtain⟨_,q,_⟩:=T.step n vs[n] hn (List.getElem?_eq_getElem om)
    rw[q,hdmm n _ (List.getElem?_eq_getElem om)]) hall m (Nat.le_refl _)
  have hlm:s.h.length<=(τ m).h.length:=D.ext.len
  have hb:s.b<=s.h.length:=ok.base
  refine e8k hD hS ht hok hO ho hd (ops.size - m) m (Nat.le_refl _) hdm om hs (fun i hi=>⟨hlt i hi,hall i⟩) he ⟨D.inv,⟨D.size,fun k hk=>⟨by rw[<-hE];exact D.env k hk,G.und m (Nat.le_refl _) k hk⟩⟩,D.defers,by rw[G.b m (Nat.le_refl _)];omega⟩ fun g' H' a' w' q1 q2 q3 q4=>?_
  refine hq g' H' a' w' q1 q2 q3 (D.ext.trans q4 ?_)
  rw[G.b m (Nat.le_refl _)]
  exact Nat.le_refl _
 ·obtain⟨g1,D⟩:=D
  exact d3g hS T G ok.base him i3 hp' hto ((List.all_eq_true.1 hok) _ (List.mem_of_getElem? hp')) (hdmm i p hp') hdmm hml i2 hL' hLo hA D fun g' a' w' D'=>hk a' w' ⟨g',D'⟩
 ·refine⟨?_,ok.env.1,fun k hkN=>?_,ok.defers,⟨rfl,rfl,rfl,Nat.le_refl _,fun _ _ _=>⟨rfl,rfl⟩,?_,fun i _ c h _=>⟨i,c,h⟩,fun n hn hc=>?_,by rw[hl];simp⟩,fun i hi _ id h1 h2=>hout id ?_⟩
  ·have hI:=ok.inv
   refine⟨hI.inj,fun i b c hj=>⟨by rw[hl,List.length_append];have:=(hI.dom i b c hj).1;omega,(hI.dom i b c hj).2⟩,fun i b c o hj ho=>?_,hI.imm,G.clean m (Nat.le_refl _),hI.glob,hI.fix⟩
   have hi:=(hI.dom i b c hj).1
   rw[hl,List.getElem?_append_left hi]at ho
   exact(hI.ob i b c o hj ho).ext hk rfl rfl (by rintro c' rfl;exact hI.und i c' hi ho)
  ·rw[a6b m fun k _=>hl0 k]
   exact a2n hk _ _ (ok.env.2 k hkN).2 (ok.env.2 k hkN).1
  ·rw[hl]
   exact⟨fun _=>List.prefix_refl _,fun i o hi ho hr=>⟨rfl,o,by rw[List.getElem?_append_left hi];exact ho,hr⟩,fun i sz r hi ho=>⟨r,by rw[List.getElem?_append_left hi];exact ho,List.prefix_refl _,fun _=>rfl⟩⟩
  ·intro i c hi ho
   have:=ok.base
   rw[hl,List.getElem?_append_left om]at ho
   exact hc i c hi ho
  ·obtain⟨l',hl'⟩:=G.grow 0 i (Nat.zero_le _) om
   rw[T.zero]at hl'
   have:s.h.length<=(τ i).h.length:=by rw[hl'];simp
   omega
theorem e0f {pg:Pg} {dd:a2v} {v:a0e} (hv:v.a7m=true) {s:St} {x:D} (h:a2d pg dd v s x):False:=by
 cases h<;>cases hv
theorem b9c {pg:Pg} {dd:a2v} {N:Nat} {a:Act} {x:D} {c:a0e}:∀ (l:List a0e),l.all a0e.a7m=true->(a8g l c).okN N=true->∀ {s:St} {g:Gh},a2d pg dd (a8g l c) s x->a1a dl pg.toCx N g s a w->
 ∃ g1 s1,a1a dl pg.toCx N g1 s1 a w/\Ext s.b g s.h w g1 s1.h w/\s1.b=s.b/\a2d pg dd c s1 x/\c.okN N=true
 |[],_,hN,s,g,h,ok=>⟨g,s,ok,Ext.refl ..,rfl,h,hN⟩
 |v::l,hl,hN,s,g,h,ok=>by
  simp only[List.all_cons,Bool.and_eq_true]at hl
  simp only[a8g,a0e.okN,Bool.and_eq_true]at hN
  simp only[a8g]at h
  cases h with
  |seq1 h=>exact(e0f hl.1 h).elim
  |seq2 h1 h=>
   obtain⟨_,g1,ok1,e1,b1⟩:=c8k hl.1 hN.1 h1 ok
   obtain⟨g2,s2,ok2,e2,b2,h2,n2⟩:=b9c l hl.2 hN.2 h ok1
   exact⟨g2,s2,ok2,e1.trans e2 om,om,h2,n2⟩
theorem b8z {pg:Pg} (hT:a3i P pg) (hmx:P.follows .mixedOrders=true) {A:Ann} {N:Nat} {c:Code} {v:a0e} (ht:tr P A c=some v) (hN:v.okN N=true) {s:St} {a:Act} {y:Ex} {s':St} (h:ev pg v s=some (y,s')) (ok:a1a dl pg.toCx N g s a w)
 {Q:Exit->Act->World->Prop} (hq:∀ g' a' w',a1a dl pg.toCx N g' s' a' w'->Ext s.b g s.h w g' s'.h w'->Q y.out a' w'):c.wp P Q a w:=by
 obtain⟨n,hn⟩:=c3x h
 obtain⟨hS,hL⟩:=b3g hT hmx n
 exact b7a hS hmx hL c v ht hN hn ok hq
theorem h1y {pg:Pg} (hT:a3i P pg) (hmx:P.follows .mixedOrders=true) {v:a0e} {s:St} {y:Ex} {s':St} (h:ev pg v s=some (y,s')):s'.b=s.b:=by
 obtain⟨n,hn⟩:=c3x h
 exact g5f (b3g hT hmx n).2.1 hn
theorem f1j {pg:Pg} (hT:a3i P pg) (hmx:P.follows .mixedOrders=true) {dd:a2v} {A:Ann} {N:Nat} {c:Code} {v:a0e} (ht:tr P A c=some v) (hN:v.okN N=true) {ks:List Nat}
 (ih:∀ {s:St} {x:D},a2d pg dd v s x->∀ {g:Gh} {a:Act} {w:World},a1a dl pg.toCx N g s a w->∀ {Q:Exit->Act->World->Prop},e7f pg.toCx K pay dl s.b g s.h w x Q->c.wp P Q a w):
 ∀ {V:a0e} {s:St} {x:D},a2d pg dd V s x->V= .loop ks v->∃ n,∀ {g:Gh} {a:Act} {w:World},a1a dl pg.toCx N g s a w->∀ {Q:Exit->Act->World->Prop},e7f pg.toCx K pay dl s.b g s.h w x Q->Code.rounds P c Q n a w:=by
 intro V s x h
 induction h with
 |loop1 h _=>
  intro e
  cases e
  refine⟨1,fun ok Q hq=>?_⟩
  rw[rounds_succ]
  refine ih h (ok.keep _) fun g' H' a' w' h1 h2 h3 h4=>?_
  exact hq g' H' a' w' h1 h2 h3 (h4.le ok.base)
 |loop2 h1 _ ih2=>
  intro e
  cases e
  obtain⟨n,hn⟩:=ih2 rfl
  refine⟨n+1,fun ok Q hq=>?_⟩
  rw[rounds_succ]
  refine b8z hT hmx ht hN h1 (ok.keep _) fun g1 a1 w1 ok1 e1=>?_
  refine hn (g:=g1.cut _) (a1a.back ok.inv.und ok.base ok1 e1) fun g' H' a' w' h1 h2 h3 h4=>?_
  exact hq g' H' a' w' h1 h2 h3 (((e1.le ok.base).cut rfl ok.base).trans h4 (Nat.le_refl _))
 |_=>intro e;cases e
theorem c3a {pg:Pg} (hT:a3i P pg) (hmx:P.follows .mixedOrders=true) {dd:a2v} (hD:b2l P pg.toCx K pay dd) {A:Ann} {N:Nat}:∀ (c:Code) (v:a0e),tr P A c=some v->v.okN N=true->∀ {s:St} {x:D},a2d pg dd v s x->∀ {g:Gh} {a:Act} {w:World},a1a dl pg.toCx N g s a w->
 ∀ {Q:Exit->Act->World->Prop},e7f pg.toCx K pay dl s.b g s.h w x Q->c.wp P Q a w:=by
 have hS:=c1u hT hmx
 intro c
 induction c with
 |skip=>intro v ht hN s x h;simp only[tr,Option.some.injEq]at ht;subst ht;cases h
 |label l=>intro v ht hN s x h;simp only[tr,Option.some.injEq]at ht;subst ht;cases h
 |exit id=>intro v ht hN s x h;simp only[tr,Option.some.injEq]at ht;subst ht;cases h
 |ret=>intro v ht hN s x h;simp only[tr,Option.some.injEq]at ht;subst ht;cases h
 |region id ops draw=>
  intro v ht hN s x h g a w ok Q hq
  obtain⟨vs,c,h1,rfl,h2,h3⟩:=d6o ht
  obtain⟨g1,s1,ok1,e1,b1,hc,hN1⟩:=b9c _ h2 hN h ok
  have hq1:e7f pg.toCx K pay dl s1.b g1 s1.h w x Q:=fun g' H' a' w' q1 q2 q3 q4=>hq g' H' a' w' q1 q2 q3 (e1.trans q4 om)
  rcases h3 with⟨rfl,m,ho,rfl⟩|⟨rfl,rfl⟩
  ·cases hc with
   |draw a1 a2 a3 a4 a5 a6=>exact e8h hD hS hmx h1 (by simpa [a0e.okN] using hN1) ho a1 a2 a3 a4 a5 a6 ok1 hq1
   |drawT a1 a2 a3 a4=>exact e7a hD hS hmx h1 (by simpa [a0e.okN] using hN1) ho a1 a2 a3 a4 ok1 hq1
   |drawZ Z hz=>exact e4x hD hS hmx h1 (by simpa [a0e.okN] using hN1) ho Z hz ok1 hq1
  ·cases hc with
   |reg a1 a2 a3=>exact f8a hD hS h1 (by simpa [a0e.okN] using hN1) a1 a2 a3 ok1 hq1
 |seq c1 c2 ih1 ih2=>
  intro v ht hN s x h g a w ok Q hq
  simp only[tr]at ht
  split at ht
  ·rename_i v1 v2 ht1 ht2
   cases ht
   simp only[a0e.okN,Bool.and_eq_true]at hN
   apply wp_seq
   cases h with
   |seq1 h=>exact ih1 v1 ht1 hN.1 h ok fun g' H' a' w' q1 q2 q3 q4=>hq g' H' a' w' q1 q2 q3 q4
   |seq2 hx h=>
    have hb:=h1y hT hmx hx
    refine b8z hT hmx ht1 hN.1 hx ok fun g1 a1 w1 ok1 e1=>?_
    exact ih2 v2 ht2 hN.2 h ok1 fun g' H' a' w' q1 q2 q3 q4=>hq g' H' a' w' q1 q2 q3 (e1.trans q4 om)
  ·cases ht
 |cond c c1 c2 ih1 ih2=>
  intro v ht hN s x h g a w ok Q hq
  simp only[tr]at ht
  split at ht
  ·rename_i vc v1 v2 hc ht1 ht2
   cases ht
   simp only[a0e.okN,Bool.and_eq_true]at hN
   cases h with
   |cond hv h=>
    rename_i t
    have hr:=(a0x ok.inv ok.env hc hN.1.1).1
    rw[hv]at hr
    refine wp_cond (a9o hr) ?_
    cases t with
    |true=>exact ih1 v1 ht1 hN.1.2 (by simpa using h) ok hq
    |false=>exact ih2 v2 ht2 hN.2 (by simpa using h) ok hq
  ·cases ht
 |block id c ih=>
  intro v ht hN s x h g a w ok Q hq
  simp only[tr]at ht
  obtain⟨v1,ht1,rfl⟩:=Option.map_eq_some_iff.1 ht
  simp only[a0e.okN]at hN
  apply wp_block
  cases h with
  |block h=>exact ih v1 ht1 hN h ok fun g' H' a' w' q1 q2 q3 q4=>hq g' H' a' w' q1 q2 q3 q4
 |scope c ih=>
  intro v ht hN s x h g a w ok Q hq
  simp only[tr]at ht
  obtain⟨v1,ht1,rfl⟩:=Option.map_eq_some_iff.1 ht
  simp only[a0e.okN]at hN
  apply wp_scope_straight
  cases h with
  |scope h=>exact ih v1 ht1 hN h ok fun g' H' a' w' q1 q2 q3 q4=>hq g' H' a' w' q1 q2 q3 q4
 |loop c ih=>
  intro v ht hN s x h g a w ok Q hq
  simp only[tr]at ht
  split at ht
  ·cases ht
  rename_i hgh
  obtain⟨v1,ht1,rfl⟩:=Option.map_eq_some_iff.1 ht
  have hgh':(c8l A c).all a0e.a7m=true:=by
   cases hh:(c8l A c).all a0e.a7m with
   |true=>rfl
   |false=>exact absurd hh hgh
  obtain⟨g0,s0,ok0,e0,b0,h,hN⟩:=b9c _ hgh' hN h ok
  simp only[a0e.okN,Bool.and_eq_true]at hN
  obtain⟨n,hn⟩:=f1j hT hmx ht1 hN.2 (fun h=>ih v1 ht1 hN.2 h) h rfl
  exact wp_loop_rounds n (hn ok0 fun g' H' a' w' q1 q2 q3 q4=>hq g' H' a' w' q1 q2 q3 (e0.trans q4 om))
 |_=>intro v ht;simp[tr]at ht
theorem g5c {pg:Pg} (hT:a3i P pg) (hmx:P.follows .mixedOrders=true) {dd:a2v} (hD:b2l P pg.toCx K pay dd) {f:Nat} {vf:VFn} (ht:pg.tbl f=some (.code vf)) {args:List V} (hl:args.length=vf.np) {H:Hp} {x:D}
 (h:a2d pg dd vf.body ⟨a1d args,H,H.length⟩ x):b2g P pg.toCx K pay f args H x:=by
 obtain⟨fn,A,hf,hname,htr,hok⟩:=hT f _ ht
 obtain⟨c,hb,htc,hres,hnt,_⟩:=a4u htr
 obtain⟨k1,k2,k3⟩:=a9p hok
 refine⟨⟨fn,hf,by rw[hb];rfl,hname⟩,fun g w cargs hI ra ua=>calls_of_wp hf hb ?_⟩
 have ok0:a1a [] pg.toCx vf.nt g ⟨a1d args,H,H.length⟩ {tmps:=cargs++Array.replicate (fn.ntmps - cargs.size) undef,defers:=[]} w:=
  ⟨hI,by rw[<-hnt];exact a9k ra ua om,rfl,Nat.le_refl _⟩
 refine c3a hT hmx hD c vf.body htc k1 h ok0 fun g' H' a' w' q1 q2 q3 q4=>?_
 exact⟨q1,g',H',rfl,q2,q3,q4⟩
def f8h (pg:Pg) (base:a2v):Nat->a2v
 |0=>base
 |n+1=>fun f args H x=>base f args H x\/∃ vf,pg.tbl f=some (.code vf)/\args.length=vf.np/\a2d pg (f8h pg base n) vf.body ⟨a1d args,H,H.length⟩ x
def a1q (pg:Pg) (base:a2v):a2v:=fun f args H x=> ∃ n,f8h pg base n f args H x
theorem d1b {pg:Pg} (hT:a3i P pg) (hmx:P.follows .mixedOrders=true) {base:a2v} (hD:b2l P pg.toCx K pay base):∀ n,b2l P pg.toCx K pay (f8h pg base n)
 |0=>hD
 |n+1=>fun f args H x h=>by
  rcases h with h|⟨vf,h1,h2,h3⟩
  ·exact hD f args H x h
  ·exact g5c hT hmx (d1b hT hmx hD n) h1 h2 h3
theorem b9h {pg:Pg} (hT:a3i P pg) (hmx:P.follows .mixedOrders=true) {base:a2v} (hD:b2l P pg.toCx K pay base):b2l P pg.toCx K pay (a1q pg base):=fun f args H x ⟨n,h⟩=>d1b hT hmx hD n f args H x h
theorem c2b {cx:Cx} {dd:Nat->a2v} {e:Env} {H:Hp} {o:a0a} {x:D} (h:a5w cx (fun f a H x=> ∃ n,dd n f a H x) e H o x):∃ n,a5w cx (dd n) e H o x:=by
  unfold a5w at h⊢
  split at h
  ·exact h.elim
  ·cases hop:o.op with
   |call f args=>rw[hop]at h;exact h
   |callv f args=>
    rw[hop]at h
    simp only at h⊢
    split at h
    ·exact h
    ·exact h
    ·exact h.elim
   |_=>rw[hop]at h;exact h.elim
theorem b0b {cx:Cx} {dd dd':a2v} (hm:∀ f a H x,dd f a H x->dd' f a H x) {e:Env} {H:Hp} {o:a0a} {x:D} (h:a5w cx dd e H o x):a5w cx dd' e H o x:=by
 unfold a5w at h⊢
 split at h
 ·exact h.elim
 ·cases hop:o.op with
  |call f args=>rw[hop]at h;exact hm _ _ _ _ h
  |callv f args=>
   rw[hop]at h
   simp only at h⊢
   split at h
   ·exact hm _ _ _ _ h
   ·exact hm _ _ _ _ h
   ·exact h.elim
  |_=>rw[hop]at h;exact h.elim
theorem e6i {pg:Pg} {dd dd':a2v} (hm:∀ f a H x,dd f a H x->dd' f a H x) {v:a0e} {s:St} {x:D} (h:a2d pg dd v s x):a2d pg dd' v s x:=by
 induction h with
 |reg a1 a2 a3=>exact .reg a1 a2 (b0b hm a3)
 |draw a1 a2 a3 a4 a5 a6=>exact .draw a1 a2 a3 a4 a5 (b0b hm a6)
 |drawT a1 a2 a3 a4=>exact .drawT a1 a2 a3 (b0b hm a4)
 |drawZ a1 a2=>exact .drawZ a1 fun y=>b0b hm (a2 y)
 |seq1 _ ih=>exact .seq1 ih
 |seq2 a _ ih=>exact .seq2 a ih
 |cond a _ ih=>exact .cond a ih
 |block _ ih=>exact .block ih
 |scope _ ih=>exact .scope ih
 |loop1 _ ih=>exact .loop1 ih
 |loop2 a _ ih=>exact .loop2 a ih
theorem d6m {pg:Pg} {base:a2v}:∀ n f a H x,f8h pg base n f a H x->f8h pg base (n+1) f a H x
 |0,_,_,_,_,h=> .inl h
 |n+1,f,a,H,x,h=>by
  rcases h with h|⟨vf,h1,h2,h3⟩
  ·exact .inl h
  ·exact .inr ⟨vf,h1,h2,e6i (d6m n) h3⟩
theorem g5l {pg:Pg} {base:a2v} {n m:Nat} (h:n<=m):∀ f a H x,f8h pg base n f a H x->f8h pg base m f a H x:=by
 obtain⟨d,rfl⟩:=Nat.exists_eq_add_of_le h
 clear h
 induction d with
 |zero=>exact fun _ _ _ _ h=>h
 |succ d ih=>exact fun f a H x h=>d6m _ _ _ _ _ (ih f a H x h)
theorem f8c {pg:Pg} {dd:Nat->a2v} (hm:∀ n m,n<=m->∀ f a H x,dd n f a H x->dd m f a H x) {v:a0e} {s:St} {x:D} (h:a2d pg (fun f a H x=> ∃ n,dd n f a H x) v s x):∃ n,a2d pg (dd n) v s x:=by
  induction h with
  |reg a1 a2 a3=>obtain⟨n,h⟩:=c2b a3;exact⟨n,.reg a1 a2 h⟩
  |draw a1 a2 a3 a4 a5 a6=>obtain⟨n,h⟩:=c2b a6;exact⟨n,.draw a1 a2 a3 a4 a5 h⟩
  |drawT a1 a2 a3 a4=>obtain⟨n,h⟩:=c2b a4;exact⟨n,.drawT a1 a2 a3 h⟩
  |drawZ a1 a2=>
   obtain⟨n,h⟩:=c2b (a2 true)
   obtain⟨n',h'⟩:=c2b (a2 false)
   refine⟨max n n',.drawZ a1 fun y=>?_⟩
   cases y with
   |true=>exact b0b (hm n _ (Nat.le_max_left ..)) h
   |false=>exact b0b (hm n' _ (Nat.le_max_right ..)) h'
  |seq1 _ ih=>obtain⟨n,h⟩:=ih;exact⟨n,.seq1 h⟩
  |seq2 a _ ih=>obtain⟨n,h⟩:=ih;exact⟨n,.seq2 a h⟩
  |cond a _ ih=>obtain⟨n,h⟩:=ih;exact⟨n,.cond a h⟩
  |block _ ih=>obtain⟨n,h⟩:=ih;exact⟨n,.block h⟩
  |scope _ ih=>obtain⟨n,h⟩:=ih;exact⟨n,.scope h⟩
  |loop1 _ ih=>obtain⟨n,h⟩:=ih;exact⟨n,.loop1 h⟩
  |loop2 a _ ih=>obtain⟨n,h⟩:=ih;exact⟨n,.loop2 a h⟩
theorem c9x {pg:Pg} {base:a2v} {f:Nat} {args:List V} {H:Hp} {x:D} (h:base f args H x):a1q pg base f args H x:=⟨0,h⟩
theorem d0n {pg:Pg} {base:a2v} {f:Nat} {vf:VFn} (ht:pg.tbl f=some (.code vf)) {args:List V} (hl:args.length=vf.np) {H:Hp} {x:D} (h:a2d pg (a1q pg base) vf.body ⟨a1d args,H,H.length⟩ x):a1q pg base f args H x:=by
 obtain⟨n,h⟩:=f8c (fun _ _ h=>g5l h) h
 exact⟨n+1,.inr ⟨vf,ht,hl,h⟩⟩
end
end Go.Vm
namespace Go.Vm
section
variable (pg:Pg) (dd:a2v)
structure a4h (f:Nat) (vs:List V) (H:Hp) (k:V->Hp->Prop) (D:D->Prop):Prop where
 or:(∃ r H',evF pg f vs H=some (r,H')/\k r H')\/∃ x,dd f vs H x/\D x
noncomputable def goX (b:Nat) (dst:Option Nat) (op:VOp) (kn:Kn) (e:Env) (H:Hp) (k:Kn->Env->Hp->Prop) (D:D->Prop):Prop:=
 match op with
 | .call f args=>d3z pg.toCx e H args fun vs=>a4h pg dd f vs H (fun v H'=>e4j kn dst v e H' k) D
 | .callv f args=>(match gO pg.toCx e f with
   | .fn f c=>d3z pg.toCx e H args fun vs=>a1g (vs++c) fun vs=>a4h pg dd f vs H (fun v H'=>e4j kn dst v e H' k) D
   | .fm f c=>d3z pg.toCx e H args fun vs=>a1g (c++vs) fun vs=>a4h pg dd f vs H (fun v H'=>e4j kn dst v e H' k) D
   |_=>False)
 |op=>goK pg b dst op kn e H k
noncomputable def c3j (b:Nat) (o:a0a) (kn:Kn) (e:Env) (H:Hp) (k:Kn->Env->Hp->Prop) (D:D->Prop):Prop:=match o with
 |⟨dst,op,none⟩=>goX pg dd b dst op kn e H k D
 |⟨dst,op,some g⟩=>b2o pg b ⟨dst,op,some g⟩ kn e H k
noncomputable def e8y (b:Nat) (l:List a0a):Kn->Env->Hp->(Kn->Env->Hp->Prop)->(D->Prop)->Prop:=List.rec (motive:=fun _=>Kn->Env->Hp->(Kn->Env->Hp->Prop)->(D->Prop)->Prop) (fun kn e H K _=>K kn e H) (fun o _ ih kn e H K D=>c3j pg dd b o kn e H (fun kn e H=>ih kn e H K D) D) l
noncomputable def b9r (b:Nat) (m:Nat) (l:List a0a):Kn->Env->Hp->(Kn->Env->Hp->Prop)->(D->Prop)->Prop:=List.rec (motive:=fun _=>Nat->Kn->Env->Hp->(Kn->Env->Hp->Prop)->(D->Prop)->Prop) (fun _ kn e H K _=>K kn e H) (fun o _ ih m kn e H K D=>match m with
  |0=>c3j pg dd b o kn e H (fun kn e' H'=>ih 0 kn e' H' K D) D
  |m+1=>b2o pg b o kn e H fun kn e' H'=>grK (b8x o.op) H H' (g0e o.dst e' H' (ih m kn e' H' K D))) l m
noncomputable def e3r (b:Nat) (d m:Nat) (ops:List a0a) (kn:Kn) (e:Env) (H:Hp) (K:Kn->Env->Hp->Prop) (D:D->Prop):Prop:=
 i2r pg b (ops.take d) (fun _ P=>P) kn e H fun chk kn e=>match ops[d]? with
   |some od=>c3j pg dd b od kn e H (fun kn e H1=>chk H1 (i0l pg b od.dst H ((ops.take m).drop (d+1)) kn e H1 fun kn e=>wpOps pg b (ops.drop m) kn e H1 K)) D
   |none=>False
def g1j (d m:Nat) (ops:List a0a):Bool:=((ops.take d).all fun o=>b8x o.op) && match ops[d]? with
  |some od=>c7w od.dst.toList ((ops.take m).drop (d+1))
  |none=>false
structure WX (b:Nat) (c:a0e) (kn:Kn) (e:Env) (H:Hp) (Q:Ex->Kn->Env->Hp->Prop) (D:D->Prop):Prop where
 imp:a3w kn e->(∃ x kn' e' H',ev pg c ⟨e,H,b⟩=some (x,⟨e',H',b⟩)/\a3w kn' e'/\Q x kn' e' H')\/∃ x,a2d pg dd c ⟨e,H,b⟩ x/\D x
structure KX (b:Nat) (d:a0e) (Q:Ex->Kn->Env->Hp->Prop) (D:D->Prop) (x:Ex) (kn:Kn) (e:Env) (H:Hp):Prop where
 nrm:x= .nrm->WX pg dd b d kn e H Q D
 exit:∀ i,x= .exit i->Q (.exit i) kn e H
 ret:x= .ret->Q .ret kn e H
@[irreducible] def f6j (b:Nat) (ks:List Nat) (c:a0e) (e:Env) (H:Hp) (Q:Ex->Kn->Env->Hp->Prop) (D:D->Prop):Prop:=
 (∃ x e' H',ev pg (.loop ks c) ⟨e,H,b⟩=some (x,⟨e',H',b⟩)/\Q x [] e' H')\/∃ x,a2d pg dd (.loop ks c) ⟨e,H,b⟩ x/\D x
end
section
variable {pg:Pg} {dd:a2v} {b:Nat} {c d:a0e} {Q:Ex->Kn->Env->Hp->Prop} {D:D->Prop} {kn:Kn} {e:Env} {H:Hp}
theorem cxq {f:Nat} {vs:List V} {k:V->Hp->Prop} {r:V} {H':Hp} (h:evF pg f vs H=some (r,H')) (hk:k r H'):a4h pg dd f vs H k D:=⟨.inl ⟨r,H',h,hk⟩⟩
theorem cxd {f:Nat} {vs:List V} {k:V->Hp->Prop} {x:Go.Vm.D} (h:dd f vs H x) (hk:D x):a4h pg dd f vs H k D:=⟨.inr ⟨x,h,hk⟩⟩
theorem h0x (h:WX pg dd b d kn e H Q D):KX pg dd b d Q D .nrm kn e H:=by constructor<;>intros<;>simp_all
theorem g3o {i:Nat} (h:Q (.exit i) kn e H):KX pg dd b d Q D (.exit i) kn e H:=by constructor<;>intros<;>simp_all
theorem h7e (h:Q .ret kn e H):KX pg dd b d Q D .ret kn e H:=by constructor<;>intros<;>simp_all
theorem f9t (h:WQ pg b c kn e H Q):WX pg dd b c kn e H Q D:=⟨fun hk=> .inl (h.imp hk)⟩
theorem g4z {dst:Option Nat} {op:VOp} {k:Kn->Env->Hp->Prop} (hk:a3w kn e) (h:goX pg dd b dst op kn e H k D):
 (∃ kn' e' H',a0f pg.toCx (evF pg) ⟨dst,op,none⟩ ⟨e,H,b⟩=some ⟨e',H',b⟩/\a3w kn' e'/\k kn' e' H')\/∃ x,a5w pg.toCx dd e H ⟨dst,op,none⟩ x/\D x:=by
 unfold goX at h
 split at h
 ·rename_i f args
  have h:=b0y _ _ _ _ _ h
  rcases h.or with⟨r,H',h1,h2⟩|⟨x,h1,h2⟩
  ·left
   obtain⟨kn',e',H2,h3,h4,h5⟩:=b3j (b:=b) hk h2
   exact⟨kn',e',H2,by simp only[a0f,a0s];rw[h1];exact h3,h4,h5⟩
  ·exact .inr ⟨x,h1,h2⟩
 ·rename_i f args
  rw[c5j]at h
  split at h
  ·rename_i f' c' hf
   have h:=b0y _ _ _ _ _ h
   rw[a0q]at h
   rcases h.or with⟨r,H',h1,h2⟩|⟨x,h1,h2⟩
   ·left
    obtain⟨kn',e',H2,h3,h4,h5⟩:=b3j (b:=b) hk h2
    exact⟨kn',e',H2,by simp only[a0f,a0s,hf];rw[h1];exact h3,h4,h5⟩
   ·exact .inr ⟨x,by unfold a5w;simp only[hf];exact h1,h2⟩
  ·rename_i f' c' hf
   have h:=b0y _ _ _ _ _ h
   rw[a0q]at h
   rcases h.or with⟨r,H',h1,h2⟩|⟨x,h1,h2⟩
   ·left
    obtain⟨kn',e',H2,h3,h4,h5⟩:=b3j (b:=b) hk h2
    exact⟨kn',e',H2,by simp only[a0f,a0s,hf];rw[h1];exact h3,h4,h5⟩
   ·exact .inr ⟨x,by unfold a5w;simp only[hf];exact h1,h2⟩
  ·cases h
 ·exact .inl (d9a hk h)
theorem b9j {o:a0a} {k:Kn->Env->Hp->Prop} (hk:a3w kn e) (h:c3j pg dd b o kn e H k D):
 (∃ kn' e' H',a0f pg.toCx (evF pg) o ⟨e,H,b⟩=some ⟨e',H',b⟩/\a3w kn' e'/\k kn' e' H')\/∃ x,a5w pg.toCx dd e H o x/\D x:=by
 obtain⟨dst,op,g⟩:=o
 cases g with
 |none=>exact g4z hk h
 |some g=>exact .inl (a3x hk h)
theorem d0p:∀ {l:List a0a} {kn e H} {K:Kn->Env->Hp->Prop},a3w kn e->e8y pg dd b l kn e H K D->
 (∃ kn' e' H',a0u pg.toCx (evF pg) l ⟨e,H,b⟩=some ⟨e',H',b⟩/\a3w kn' e'/\K kn' e' H')\/∃ i o s1 x,l[i]? =some o/\a0u pg.toCx (evF pg) (l.take i) ⟨e,H,b⟩=some s1/\a5w pg.toCx dd s1.e s1.h o x/\D x
 |[],_,_,_,_,hk,h=> .inl ⟨_,_,_,rfl,hk,h⟩
 |o::r,kn,e,H,K,hk,h=>by
  have h:c3j pg dd b o kn e H (fun kn e H=>e8y pg dd b r kn e H K D) D:=h
  rcases b9j hk h with⟨kn',e',H',h1,h2,h3⟩|⟨x,h1,h2⟩
  ·rcases d0p h2 h3 with⟨kn2,e2,H2,h4,hk2,h5⟩|⟨i,o',s1,x,h4,h5,h6,h7⟩
   ·exact .inl ⟨kn2,e2,H2,by simp only[a0u,h1,Option.bind_some];exact h4,hk2,h5⟩
   ·exact .inr ⟨i+1,o',s1,x,by simpa using h4,by simp only[List.take_succ_cons,a0u,h1,Option.bind_some];exact h5,h6,h7⟩
  ·exact .inr ⟨0,o,⟨e,H,b⟩,x,rfl,rfl,h1,h2⟩
theorem b9k:∀ {l:List a0a} {m:Nat} {kn e H} {K:Kn->Env->Hp->Prop},a3w kn e->b9r pg dd b m l kn e H K D->
 (∃ kn' e' H',a2c pg.toCx (evF pg) m l ⟨e,H,b⟩=some ⟨e',H',b⟩/\a3w kn' e'/\K kn' e' H')\/∃ i o s1 x,m<=i/\l[i]? =some o/\a2c pg.toCx (evF pg) m (l.take i) ⟨e,H,b⟩=some s1/\a5w pg.toCx dd s1.e s1.h o x/\D x
 |[],m,_,_,_,_,hk,h=> .inl ⟨_,_,_,by cases m<;>rfl,hk,h⟩
 |o::r,0,kn,e,H,K,hk,h=>by
  have h:c3j pg dd b o kn e H (fun kn e' H'=>b9r pg dd b 0 r kn e' H' K D) D:=h
  rcases b9j hk h with⟨kn',e',H',h1,h2,h3⟩|⟨x,h1,h2⟩
  ·rcases b9k (m:=0) h2 h3 with⟨kn2,e2,H2,h4,hk2,h5⟩|⟨i,o',s1,x,_,h4,h5,h6,h7⟩
   ·left
    rw[a7o]at h4
    exact⟨kn2,e2,H2,by rw[a7o];simp only[a0u,h1,Option.bind_some,h4],hk2,h5⟩
   ·right
    rw[a7o]at h5
    exact⟨i+1,o',s1,x,om,by simpa using h4,by rw[a7o];simp only[List.take_succ_cons,a0u,h1,Option.bind_some];exact h5,h6,h7⟩
  ·exact .inr ⟨0,o,⟨e,H,b⟩,x,Nat.le_refl _,rfl,rfl,h1,h2⟩
 |o::r,m+1,kn,e,H,K,hk,h=>by
  have h:b2o pg b o kn e H (fun kn e' H'=>grK (b8x o.op) H H' (g0e o.dst e' H' (b9r pg dd b m r kn e' H' K D))):=h
  obtain⟨kn',e',H',h1,h2,h3⟩:=a3x hk h
  have hg:grew H H'=true/\g0e o.dst e' H' (b9r pg dd b m r kn' e' H' K D):=by
   unfold grK at h3
   cases hp:b8x o.op with
   |true=>
    rw[hp]at h3
    rw[c1y hp h1]
    exact⟨by simp,by rw[c1y hp h1]at h3;exact h3⟩
   |false=>rw[hp]at h3;exact h3
  have hd:b9t o.dst ⟨e',H',b⟩=true/\b9r pg dd b m r kn' e' H' K D:=by
   have:=hg.2
   unfold g0e at this
   unfold b9t
   cases hd:o.dst with
   |some d=>rw[hd]at this;simp only[a2p,b7u]at this;exact this
   |none=>rw[hd]at this;exact⟨rfl,this⟩
  rcases b9k h2 hd.2 with⟨kn2,e2,H2,h4,hk2,h5⟩|⟨i,o',s1,x,h0,h4,h5,h6,h7⟩
  ·exact .inl ⟨kn2,e2,H2,by simp only[a2c,h1,Option.bind_some,hg.1,hd.1,Bool.and_self,if_true,h4],hk2,h5⟩
  ·exact .inr ⟨i+1,o',s1,x,om,by simpa using h4,by simp only[List.take_succ_cons,a2c,h1,Option.bind_some,hg.1,hd.1,Bool.and_self,if_true,h5],h6,h7⟩
theorem g0f (h:Q .nrm kn e H):WX pg dd b .skip kn e H Q D:=f9t (q_skip h)
theorem g0c {i:Nat} (h:Q (.exit i) kn e H):WX pg dd b (.exit i) kn e H Q D:=f9t (q_exit h)
theorem h6j (h:Q .ret kn e H):WX pg dd b .ret kn e H Q D:=f9t (g3j h)
theorem d2z {m:Nat} {ops:List a0a} (h:b9r pg dd b m ops kn e H (fun kn e H=>Q .nrm kn e H) D):WX pg dd b (.draw m ops) kn e H Q D:=⟨fun hk=>by
  rcases b9k hk h with⟨kn',e',H',h1,hk',h2⟩|⟨i,o,s1,x,h0,h1,h2,h3,h4⟩
  ·exact .inl ⟨_,kn',e',H',d9h pg h1,hk',h2⟩
  ·exact .inr ⟨x,.drawT h0 h1 h2 h3,h4⟩⟩
theorem g9x {ops:List a0a} (h:e8y pg dd b ops kn e H (fun kn e H=>Q .nrm kn e H) D):WX pg dd b (.reg ops) kn e H Q D:=⟨fun hk=>by
  rcases d0p hk h with⟨kn',e',H',h1,hk',h2⟩|⟨i,o,s1,x,h1,h2,h3,h4⟩
  ·exact .inl ⟨_,kn',e',H',by rw[d4h,evR,h1];rfl,hk',h2⟩
  ·exact .inr ⟨x,.reg h1 h2 h3,h4⟩⟩
theorem h0u (h:WX pg dd b c kn e H (KX pg dd b d Q D) D):WX pg dd b (.seq c d) kn e H Q D:=⟨fun hk=>by
  rcases h.imp hk with⟨x,kn',e',H',h1,hk',h2⟩|⟨x,h1,h2⟩
  ·cases x with
   |nrm=>
    rcases(h2.nrm rfl).imp hk' with⟨x2,kn2,e2,H2,h3,hk2,h4⟩|⟨x,h3,h4⟩
    ·exact .inl ⟨x2,kn2,e2,H2,by rw[b8e,h1,e9q,h3],hk2,h4⟩
    ·exact .inr ⟨x,.seq2 h1 h3,h4⟩
   |exit i=>exact .inl ⟨_,kn',e',H',by rw[b8e,h1,d8g],hk',h2.exit _ rfl⟩
   |ret=>exact .inl ⟨_,kn',e',H',by rw[b8e,h1,f0f],hk',h2.ret rfl⟩
  ·exact .inr ⟨x,.seq1 h1,h2⟩⟩
theorem f4b (h:WX pg dd b c kn e H Q D):WX pg dd b (.scope c) kn e H Q D:=⟨fun hk=>by
  rcases h.imp hk with h|⟨x,h1,h2⟩
  ·exact .inl ((d9c (pg:=pg) ⟨fun _=>h⟩).imp hk)
  ·exact .inr ⟨x,.scope h1,h2⟩⟩
theorem e8x {id:Nat} (h:WX pg dd b c kn e H (KB id Q) D):WX pg dd b (.block id c) kn e H Q D:=⟨fun hk=>by
  rcases h.imp hk with h|⟨x,h1,h2⟩
  ·exact .inl ((d8f (pg:=pg) ⟨fun _=>h⟩).imp hk)
  ·exact .inr ⟨x,.block h1,h2⟩⟩
theorem g0l {i:Nat} (h:match look kn i with
      |some true=>WX pg dd b c kn e H Q D
      |some false=>WX pg dd b d kn e H Q D
      |none=>match gE e i with
       | .d (.bool t)=>(t=true->WX pg dd b c ((i,true)::kn) e H Q D)/\(t=false->WX pg dd b d ((i,false)::kn) e H Q D)
       |_=>False):WX pg dd b (.cond (.t i) c d) kn e H Q D:=⟨fun hk=>by
  have yes:evO pg.toCx e (.t i)= .d (.bool true)->∀ {kn},a3w kn e->WX pg dd b c kn e H Q D->(∃ x kn' e' H',ev pg (.cond (.t i) c d) ⟨e,H,b⟩=some (x,⟨e',H',b⟩)/\a3w kn' e'/\Q x kn' e' H')\/∃ x,a2d pg dd (.cond (.t i) c d) ⟨e,H,b⟩ x/\D x:=by
   intro ht kn hk h
   rcases h.imp hk with⟨x,kn',e',H',h1,hk',h2⟩|⟨x,h1,h2⟩
   ·exact .inl ⟨x,kn',e',H',by rw[b8n];simp only[ht,b3q,if_true];exact h1,hk',h2⟩
   ·exact .inr ⟨x,.cond ht (by simpa using h1),h2⟩
  have no:evO pg.toCx e (.t i)= .d (.bool false)->∀ {kn},a3w kn e->WX pg dd b d kn e H Q D->(∃ x kn' e' H',ev pg (.cond (.t i) c d) ⟨e,H,b⟩=some (x,⟨e',H',b⟩)/\a3w kn' e'/\Q x kn' e' H')\/∃ x,a2d pg dd (.cond (.t i) c d) ⟨e,H,b⟩ x/\D x:=by
   intro ht kn hk h
   rcases h.imp hk with⟨x,kn',e',H',h1,hk',h2⟩|⟨x,h1,h2⟩
   ·exact .inl ⟨x,kn',e',H',by rw[b8n];simp only[ht,b3q];exact h1,hk',h2⟩
   ·exact .inr ⟨x,.cond ht (by simpa using h1),h2⟩
  split at h
  ·rename_i ht;exact yes (hk i _ ht) hk h
  ·rename_i ht;exact no (hk i _ ht) hk h
  ·rw[b7u]at h
   split at h
   ·rename_i t ht
    cases t with
    |true=>exact yes ht (hk.add ht) (h.1 rfl)
    |false=>exact no ht (hk.add ht) (h.2 rfl)
   ·cases h⟩
theorem e1v {sz t:Nat} (h:wp pg b (.newrow sz t) kn e H Q):WX pg dd b (.newrow sz t) kn e H Q D:=f9t (f2f h)
theorem d4r {sz t o:Nat} (h:wp pg b (.bindrow sz t o) kn e H Q):WX pg dd b (.bindrow sz t o) kn e H Q D:=f9t (f2f h)
theorem e2x {t:Nat} (h:wp pg b (.freeze t) kn e H Q):WX pg dd b (.freeze t) kn e H Q D:=f9t (f2f h)
theorem f0n {sz:Nat} (h:wp pg b (.mkrow sz) kn e H Q):WX pg dd b (.mkrow sz) kn e H Q D:=f9t (f2f h)
theorem e2e {t o k:Nat} (h:wp pg b (.bindto t o k) kn e H Q):WX pg dd b (.bindto t o k) kn e H Q D:=f9t (f2f h)
theorem a6n (i:Nat) {m:Nat} {ops:List a0a} (hd:i < m) (hm:m<=ops.length) (hpl:g1j i m ops=true) (hdr:c5b pg b i (ops.take i) kn e H fun _ _ _=>True)
    (h:e3r pg dd b i m ops kn e H (fun kn e H=>Q .nrm kn e H) D):WX pg dd b (.draw m ops) kn e H Q D:=⟨fun hk=>by
  unfold e3r at h
  unfold g1j at hpl
  simp only[Bool.and_eq_true]at hpl
  obtain⟨hp,hta⟩:=hpl
  have A0:Ahd (pg:=pg) b ⟨e,H,b⟩ [] e (fun _ P=>P):=⟨rfl,fun i q _ hq=>by simp only[List.take_nil,a0u,Option.some.injEq]at hq;rw[<-hq],fun H1 P hP=>⟨hP,fun i o q q' ho=>by simp at ho⟩⟩
  obtain⟨chk,kn1,e1,A,hk1,h1⟩:=d2o (s:=⟨e,H,b⟩) hk A0 h
  rw[List.nil_append]at A
  split at h1
  ·rename_i od ho
   rw[ho]at hta
   simp only at hta
   rcases b9j hk1 h1 with⟨kn2,e2,H1,h2,hk2,h3⟩|⟨x,h2,h3⟩
   ·left
    obtain⟨h4,_⟩:=A.chk H1 _ h3
    have hdl:(ops.take i).length=i:=by simp;omega
    have hpre:ops.take (i+1)=ops.take i++[od]:=by rw[List.take_add_one,ho];rfl
    have hrun:=b7e A.run h2
    rw[<-hpre]at hrun
    have hl1:(ops.take (i+1)).length=i+1:=by simp;omega
    have B0:Bhd (pg:=pg) b ⟨e,H,b⟩ i od H1 (ops.take (i+1)) e2:=by
     refine⟨hrun,om,fun j q h1 h2 hq=>?_,fun j o q q' h1 ho'=>?_⟩
     ·have:j=i+1:=om
      subst this
      rw[List.take_of_length_le om,hrun]at hq
      cases hq;rfl
     ·have:=(List.getElem?_eq_some_iff.1 ho').1
      omega
    obtain⟨kn3,e3,B,hk3,h5⟩:=d1y (s:=⟨e,H,b⟩) hk2 B0 h4
    have hall:ops.take (i+1)++(ops.take m).drop (i+1)=ops.take m:=by
     have:=List.take_append_drop (i+1) (ops.take m)
     rwa [List.take_take,Nat.min_eq_left om]at this
    rw[hall]at B
    obtain⟨kn4,e4,H4,h6,hk4,h7⟩:=b5u hk3 h5
    have hops:a0u pg.toCx (evF pg) ops ⟨e,H,b⟩=some ⟨e4,H4,b⟩:=by
     rw[<-List.take_append_drop m ops,b2j,B.run];exact h6
    refine⟨.nrm,kn4,e4,H4,?_,hk4,h7⟩
    show(b3o pg.toCx (evF pg) m ops ⟨e,H,b⟩).map _=_
    rw[a3v.2 ⟨hops,.inr (e1g rfl hm ho A h3 hd B hops)⟩];rfl
   ·right
    obtain⟨kn',e',H',g1,_,_⟩:=b2h hk hdr
    have g2:=b2x g1
    rw[A.run]at g2
    cases g2
    exact⟨x,.draw hd ho hp g1 hta h2,h3⟩
  ·exact h1.elim⟩
theorem e7s {ks:List Nat} {x:Go.Vm.D} (h:a2d pg dd (.loop ks c) ⟨a2e ks e,H,b⟩ x):a2d pg dd (.loop ks c) ⟨e,H,b⟩ x:=by
 cases h with
 |loop1 h=>rw[b3u]at h;exact .loop1 h
 |loop2 h1 h2=>rw[b3u]at h1;exact .loop2 h1 h2
theorem g0u {ks:List Nat} (h:c9o e ks fun e=>f6j pg dd b ks c e H Q D):WX pg dd b (.loop ks c) kn e H Q D:=⟨fun hk=>by
  rw[b6x]at h
  unfold f6j at h
  rcases h with⟨x,e',H',h1,h2⟩|⟨x,h1,h2⟩
  ·left
   refine⟨x,[],e',H',?_,a3w.nil _,h2⟩
   rw[b6p]at h1⊢
   simp only[b3u]at h1
   exact h1
  ·exact .inr ⟨x,e7s h1,h2⟩⟩
theorem b1y {ks:List Nat} {α:Type} (μ:α->Nat) (E:α->Env) (Hf:α->Hp) (P:α->Prop)
 (step:∀ a,P a->d7p (Hf a) 0 fun n=>c9o (E a) ks fun e=>WX pg dd n c [] e (Hf a) (fun x _ e' H'=>KL (fun e' H'=>e0a n e' ks fun e2=>a1g (H'.take n) fun H2=> ∃ a',P a'/\μ a' < μ a/\e2=E a'/\H2=Hf a') Q x e' H') D) (a:α) (ha:P a) {e0:Env} {h0:Hp} (he:e0=E a) (hh:h0=Hf a):f6j pg dd b ks c e0 h0 Q D:=by
 subst he;subst hh
 have key:∀ n,∀ a,μ a < n->P a->(∃ x e' H',ev pg (.loop ks c) ⟨E a,Hf a,b⟩=some (x,⟨e',H',b⟩)/\Q x [] e' H')\/∃ x,a2d pg dd (.loop ks c) ⟨E a,Hf a,b⟩ x/\D x:=by
  intro n
  induction n with
  |zero=>intro a h;omega
  |succ n ih=>
   intro a hn ha
   have st:=step a ha
   rw[a8w,b6x,Nat.zero_add]at st
   rcases st.imp (a3w.nil _)with⟨x,kn',e',H',h1,_,h2⟩|⟨x,h1,h2⟩
   ·cases x with
    |nrm=>
     have h2:=h2.nrm rfl
     simp only[c5n,a0q]at h2
     obtain⟨a',h3,h4,h5,h6⟩:=h2
     rcases ih a' om h3 with h|⟨x,h7,h8⟩
     ·left
      rw[b6p]
      simp only[h1,d9d,h5,h6]
      exact h
     ·right
      refine⟨x,.loop2 h1 ?_,h8⟩
      simp only[h5,h6]
      exact h7
    |exit i=>exact .inl ⟨_,e',H',by rw[b6p];simp only[h1];rfl,h2.exit _ rfl⟩
    |ret=>exact .inl ⟨_,e',H',by rw[b6p];simp only[h1];rfl,h2.ret rfl⟩
   ·exact .inr ⟨x,.loop1 h1,h2⟩
 unfold f6j
 exact key (μ a+1) a om ha
theorem i5a {base:a2v} {f:Nat} {vf:VFn} (ht:pg.tbl f=some (.code vf)) {a:List V} (hn:a.length=vf.np) (hk:vf.keep=false) (hu:a0z 0 a=false) {R:V->Hp->Prop}
 (h:b0g 0 a fun e=>WX pg (a1q pg base) H.length vf.body [] e H (e5g vf.res H.length fun v H'=>R v (H'.take H.length)) D):
 (∃ r H2,evF pg f a H=some (r,H2)/\R r H2)\/∃ x,a1q pg base f a H x/\D x:=by
 rw[a6t]at h
 rcases h.imp (a3w.nil _)with⟨x,kn,e,H',h1,_,h2⟩|⟨x,h1,h2⟩
 ·left
  obtain⟨r',h3,h4⟩:=b7h (b:=H.length) h2
  exact⟨r',H'.take H.length,by rw[f2v ht hn (by rw[hu];rfl),a4o,h1,hk,h3],h4⟩
 ·exact .inr ⟨x,d0n ht hn (by rw[a4o];exact h1),h2⟩
end
end Go.Vm
namespace Go.Vm
theorem e3k {pg:Pg} {base:a2v} {f:Nat} {vf:VFn} (ht:pg.tbl f=some (.code vf)) {a:List V} (hn:a.length=vf.np) {H:Hp} {x:D}
 (h:b0g 0 a fun e=>WX pg (a1q pg base) H.length vf.body [] e H (fun _ _ _ _=>False) fun y=>y=x):a1q pg base f a H x:=by
 rw[a6t]at h
 rcases h.imp (a3w.nil _)with⟨_,_,_,_,_,_,h2⟩|⟨y,h1,rfl⟩
 ·exact h2.elim
 ·exact d0n ht hn (by rw[a4o];exact h1)
section
variable {pg:Pg} {dd:a2v} {b:Nat} {Q:Ex->Kn->Env->Hp->Prop} {D:D->Prop} {kn:Kn} {e:Env} {H:Hp}
theorem g5y {m:Nat} {ops:List a0a} (_:g1y m ops=true) (h:b9r pg dd b m ops kn e H (fun kn e H=>Q .nrm kn e H) D):WX pg dd b (.draw m ops) kn e H Q D:=d2z h
end
theorem stpx {P Q:Prop} (q:Q) (g:Q->P:=by
  first
   |exact h0u|exact e8x|exact g9x|exact g0l|exact g0c|exact h6j|exact g0f|exact f4b|exact g5y rfl|exact g0u|exact f0n|exact e2e|exact e2x|exact e1v|exact d4r):P:=g q
theorem h7r {P Q:Prop} (q:Q) (g:Q->P:=by
  first
   |exact h0x|exact g3o|exact h7e|exact g0q|exact g0h rfl|exact f3l rfl|exact g0j|exact g0w|exact f1y|exact g2g
   |exact And.intro (b5k _)
   |exact fun x=>b1 x|exact fun x=>b2 x|exact fun x=>b3 x|exact fun x=>b4 x|exact fun x=>b5 x|exact fun x=>b6 x
   |exact fun x=>pk x|exact And.intro rfl):P:=g q
theorem a3a {P Q:Prop} (q:Left Q) (h:Left Q->P:=by
  intro q
  first
   |((with_reducible show WX _ _ _ _ _ _ _ _ _);refine stpx ?_)
   |((fail_if_success (with_reducible show WX _ _ _ _ _ _ _ _ _));(conv=>whnf);first|(with_reducible show WX _ _ _ _ _ _ _ _ _)|refine h7r ?_)
  repeat' (first
    |((with_reducible show WX _ _ _ _ _ _ _ _ _);refine stpx ?_)
    |((fail_if_success (with_reducible show WX _ _ _ _ _ _ _ _ _));(conv=>whnf);first|(with_reducible show WX _ _ _ _ _ _ _ _ _)|refine h7r ?_)
    |fail)
  exact q.f):P:=h q
end Go.Vm
